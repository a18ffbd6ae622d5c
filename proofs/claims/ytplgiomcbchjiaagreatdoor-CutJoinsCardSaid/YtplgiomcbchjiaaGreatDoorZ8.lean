/- Part 8 of a proof. No condition. -/
import Derived.Test.YtplgiomcbchjiaaGreatDoorZ7
import Derived.Lib.AtoiAllCases
set_option linter.unusedVariables false
set_option linter.unusedSimpArgs false
set_option linter.defProp false
open Bool renaming false->bf,not_false->vv,not_true->zU,or_eq_true->Ft,true->bh
open Go.bM.bg renaming agg->dG,cells->jD,mp->cU,one->cu,v->cR
open Go.bM.br renaming cells->bw,b8->pI
open Go.bM.tG renaming mk->cM
open Go.bM.cw renaming mono->cm,pu->dx,aaA->eo,pure->ic,aFa->jE
open Go.bM.jS renaming mono->vw
open Go.bM renaming Clean->eY
open Go.bM.b_ renaming bp->eB,sl->hD,bQ->fy,v->bH
open Go.bM.fC renaming append->BO,cons->bG,map->iE,nil->c_
open Go.Fn renaming func->uD
open Go.IntKind renaming i64->cN
open Go.Lib renaming atoiAll->Dh,join->Io,lens->zX
open Go.Proofs.Tryz renaming prog->bB
open Go.Proofs.YtplgiomcbchjiaaGreatDoor.Ext renaming app->mg
open Go.Proofs.YtplgiomcbchjiaaGreatDoor.gP renaming app->uE
open Go.Proofs.YtplgiomcbchjiaaGreatDoor.cT renaming many->Fy
open Go.Value renaming int->yt
open Int renaming eq_ofNat_of_zero_le->pJ,reduceBEq->BS,reduceBNe->BT,toNat_natCast->yw
open List renaming all_cons->pK,all_eq_true->eJ,all_nil->tC,append_assoc->dQ,cons_append->gB,drop_zero->pL,ext_getElem?->FB,getElem?_append_left->fY,getElem?_append_right->gh,getElem?_cons_zero->nL,getElem?_drop->tE,getElem?_eq_getElem->cy,getElem?_eq_none->j4,getElem?_eq_some_iff->cK,getElem?_map->e9,getElem?_set_ne->bE,getElem?_set_self->bT,length_append->ek,length_cons->eZ,length_eq_one_iff->FD,length_map->cS,length_nil->iG,length_pos_iff->Is,length_set->wY,length_singleton->qg,map_append->gC,map_cons->fc,map_nil->kM,mem_append->fA,mem_cons->fo,mem_cons_of_mem->sw,mem_cons_self->wZ,mem_iff_getElem?->Pq,mem_map->dV,mem_of_getElem?->cv,mem_or_eq_of_mem_set->UK,mem_singleton->dW,nil_append->gM,not_mem_nil->pM,replicate->fB,set_set->arE,sum_cons->Aa,sum_nil->Iu,take_left'->Pr,take_length->od,take_of_length_le->oe
open Nat renaming add_assoc->nM,add_zero->sx,le_refl->cc,le_trans->iz,lt_of_lt_of_le->UR,lt_or_ge->er,lt_succ_self->yB,mul_le_mul_right->qh,one_mul->FF,reduceAdd->vB,reduceEqDiff->w6,reduceLT->w7,reduceLeDiff->w8,sub_self->ni,succ_mul->uF,testBit_or->US,testBit_two_pow->acZ,zero_add->gi,zero_le->gW
open Ne renaming symm->e3
open Option renaming map_some->kf,none->bn,some->a_
open Option.some renaming injEq->nj
open Or renaming inl->bD,inr->bF
namespace Go.Proofs.YtplgiomcbchjiaaGreatDoor
open Go Go.bM Go.RowKit
def gm(B n:Nat):Prop:=∀p,B.testBit p=bh->p<n
def gm.mono{B n m}(h:gm B n)(hm:n<=m):gm B m:=λp q=>UR (h p q) hm
def gm.zero(n):gm 0 n:=λp q=>by simp at q
def gm.or{A B n}(h:gm A n)(k:gm B n):gm (A|||B) n:=λp q=>by
 rw[US,Ft] at q;exact q.elim (h p) (k p)
def gm.one(n):gm (fZ [n]) (n+1):=λp q=>by
 unfold fZ at q;simp[acZ] at q;omega
structure Lv(O:List br)(kn:Nat)(bx bv:bg)(J:List br):Prop where
 base:∀(j:Nat) b,O[j]?=a_ b->J[j]?=a_ b
 own:O.length<=kn
 row:∀j,rowAt bv j->O.length<=j
 tok:∀j,BG bx j->O.length<=j
 len:O.length<=J.length
def Lv.step{O}{kn}{bx bv cZ dc}{J bl}(h:Lv O kn bx bv J)(s:gP kn bx bv J cZ dc bl):Lv O kn cZ dc bl:=by
 have hl:=h.len;refine⟨λj b q=>s.keep j b (h.base j b q) (λe=>?_) (λz=>?_) (λz=>?_),h.own,λj z=>?_,λj z=>?_,iz hl s.len⟩;have:=gl q;have:=h.own;omega;have:=gl q;have:=h.row j z;omega;have:=gl q;have:=h.tok j z;omega
 rcases s.row j z with y|y
 exact h.row j y;omega
 rcases s.tok j z with y|y
 exact h.tok j y;omega
def gP.rq{kn}{z}{on cz}{u v u' v'}{h h'}(s:gP kn u v h u' v' h')(hX:fF kn z on cz u v h){j}{Z}(hj:h[j]?=a_ (.cells Z bf))(S:j≠kn):h'[j]?=a_ (.cells Z bf):=by
 refine s.own hj S (λ⟨m,l,e⟩=>?_) λ⟨xs,e⟩=>?_
 rcases hX.cz with⟨q,_⟩|⟨k,q,bt⟩
 rw[q] at e;cases e;rw[q] at e;cases e;rw[hj] at bt;simp at bt
 rcases hX.on with⟨q,_⟩|⟨id,q,bt⟩
 rw[q] at e;cases e;rw[q] at e;cases e;rw[hj] at bt;cases bt
structure Dv(G:Cells)(O:List br)(mv:bg):Prop where
 one:cu mv=bh
 call:∀s J,vc s=bh->(∀(j:Nat) b,O[j]?=a_ b->J[j]?=a_ b)->jS G bB mv [bu s] J λr bl=>∃B l,r=cg B/\bl=J++l
def PM(kn:Nat)(z:List bg)(on:List Nat)(bx bv:bg)(J:List br)(c:Nat)(r:bg)(bl:List br):Prop:=∃F E e ew eC cZ dc,r=kU F E e/\fF kn z ew eC cZ dc bl/\gP kn bx bv J cZ dc bl/\ew.length=on.length+c/\eC.length=ew.length/\gm F ew.length/\gm E ew.length
def FP(G:Cells)(O:List br)(kn:Nat)(z:List bg)(v mv:bg)(ps:List cT)(i:Int):Prop:=∀on cz bx bv J,fF kn z on cz bx bv J->Lv O kn bx bv J->cz.length=on.length->on.length+cnt ps i<=256->
 cw G bB 144 [.mp kn 0,v,i,mv] J (PM kn z on bx bv J (cnt ps i))
def aCG{G}(cE:gk G){O}{kn}{z}{v mv}{ps}(h:tM v ps)(hM:Dv G O mv){i:Nat}{p}(eL:ps[i]?=a_ p)(xO:p.kind≠4)(ih:∀x∈p.kids,FP G O kn z v mv ps x):FP G O kn z v mv ps (i):=by
 intro on cz bx bv J hX GB c7 Eg;have lX:=h.ok i p eL;have p9:=h.no p (cv eL);have kI:=lX.kids;have T:=Wk h.ok eL;refine ajB.go ?_;have e7:=gl hX.b
 have vQ:∀x:bg,cu x=bh->x.cells=[x]:=λx I=>aM1
 have c1:v.cells=[v]:=aMe
 have c2:mv.cells=[mv]:=vQ mv hM.one;have e1:ct 5 v (i:Int)=a_ (.fp p.cells 0):=h.v.cB (x:=p.bA) aM3 rfl;have s1:=zL (J++[bw [cU kn 0] bf]++[bw [v] bf]++[bw [mv] bf]++[bw z9 bf]) p;have lv:bz (J++[bw [cU kn 0] bf]++[bw [v] bf]++[bw [mv] bf]++[bw z9 bf]) bf 1 (.mp (J.length+1) 0)=a_ v:=ff aMb;have Y:fF kn z on cz bx bv (J++[bw [cU kn 0] bf]++[bw [v] bf]++[bw [mv] bf]++[bw z9 bf]++[bw p.cells bf]):=hX.app.app.app.app.app;have t1:gP kn bx bv J bx bv (J++[bw [cU kn 0] bf]++[bw [v] bf]++[bw [mv] bf]++[bw z9 bf]++[bw p.cells bf]):=(((uE.trans uE).trans uE).trans uE).trans uE;have m4:(J++[bw [cU kn 0] bf]++[bw [v] bf]++[bw [mv] bf]++[bw z9 bf]++[bw p.cells bf])[J.length]?=a_ (.cells [.mp kn 0] bf):=af
 have m5:(J++[bw [cU kn 0] bf]++[bw [v] bf]++[bw [mv] bf]++[bw z9 bf]++[bw p.cells bf])[J.length+1]?=a_ (.cells [v] bf):=aMb
 have m7:(J++[bw [cU kn 0] bf]++[bw [v] bf]++[bw [mv] bf]++[bw z9 bf]++[bw p.cells bf])[J.length+2]?=a_ (.cells [mv] bf):=aMb
 have m8:(J++[bw [cU kn 0] bf]++[bw [v] bf]++[bw [mv] bf]++[bw z9 bf]++[bw p.cells bf])[J.length+3]?=a_ (.cells z9 bf):=aMb
 have m9:(J++[bw [cU kn 0] bf]++[bw [v] bf]++[bw [mv] bf]++[bw z9 bf]++[bw p.cells bf])[J.length+4]?=a_ (.cells p.cells bf):=aMb
 have kS:(J++[bw [cU kn 0] bf]++[bw [v] bf]++[bw [mv] bf]++[bw z9 bf]++[bw p.cells bf]).length=J.length+5:=af
 generalize J++[bw [cU kn 0] bf]++[bw [v] bf]++[bw [mv] bf]++[bw z9 bf]++[bw p.cells bf]=g at s1 Y t1 m4 m5 m7 m8 m9 kS;have lk:(J++[bw [cU kn 0] bf]++[bw [v] bf]++[bw [mv] bf]++[bw z9 bf]).length=J.length+4:=af
 rw[lk] at s1;unfold z9 at s1 lv;have CA:∀X:List br,X[J.length+4]?=a_ (.cells p.cells bf)->bz X bf 1 (.mp (J.length+4) 0)=a_ (.v (.int .i64 p.kind))/\bz X bf 1 (.mp (J.length+4) 3)=a_ (bu p.name)/\bz X bf 1 (.mp (J.length+4) 4)=a_ p.kv/\bz X bh 5 (.mp (J.length+4) 0)=a_ p.bA:=λX q=>by
  simp only[bz,q];exact⟨rfl,rfl,rfl,rfl⟩
 refine Da @ek.{0} @nM ((CA g m9).1) ?_;refine cM (λq=>?_) λq=>?_;have q':p.kind=1:=ak
 rw[if_pos q'] at T;have q6:vc p.name=bh:=by
  rcases lX.1 with z|z|z
  exact z.2.2.2.1;omega;omega
 have ayv:on.length<256:=aa
 have sa:cV G bB 131 [.sl [bq (on.length:Int)] .no] (cg (fZ [on.length])):=Z6 (bD rfl) (λn hn=>by rw[dW.1 hn];exact ayv) af;have ci:kC (.sl [bq (on.length:Int)] .exact) (.sl [bq (on.length:Int)] .no):=k4 λx I c T=>by
  rw[dW.1 I] at T;rw[dW.1 (show c∈[bq (on.length:Int)] from T)];exact dD _
 refine wx ?_;refine dx sa ?_;have iX:bL (g++[bw [.v (.int .u64 0),.v (.int .u64 0),.v (.int .u64 0),.v (.int .u64 0)] bf]) 4 (.mp g.length 0) (cg (fZ [on.length]))=a_ (g++[bw (bX (fZ [on.length])) bf]):=by
  simp only[bL,gh (cc _),ni,nL,fD];have e:(cg (fZ [on.length])).cells=bX (fZ [on.length]):=rfl;rw[e,if_pos ⟨rfl,by simp[bX],rfl⟩];simp[d_,bX]
 have V:fF kn z on cz bx bv (g++[bw (bX (fZ [on.length])) bf]):=Y.app;have t2:gP kn bx bv J bx bv (g++[bw (bX (fZ [on.length])) bf]):=t1.trans uE;have n4:(g++[bw (bX (fZ [on.length])) bf])[J.length]?=a_ (.cells [cU kn 0] bf):=bS m4;have EY:(g++[bw (bX (fZ [on.length])) bf])[J.length+2]?=a_ (.cells [mv] bf):=bS m7;have zw:(g++[bw (bX (fZ [on.length])) bf])[J.length+3]?=a_ (.cells z9 bf):=bS m8;have NY:(g++[bw (bX (fZ [on.length])) bf])[J.length+4]?=a_ (.cells p.cells bf):=bS m9;have zv:(g++[bw (bX (fZ [on.length])) bf])[J.length+5]?=a_ (.cells (bX (fZ [on.length])) bf):=by rw[<-kS];simp
 rw[kS] at iX;refine rF ?_;generalize g++[bw (bX (fZ [on.length])) bf]=g2 at V t2 n4 EY zw NY zv⊢;refine aI4 (ff n4) @V.Zj (ff EY) ((CA g2 NY).2.1) (vw (hM.call p.name g2 q6 (GB.step t2).base) ?_);rintro _ g3 ⟨B,x,rfl,rfl⟩;have h3:fF kn z on cz bx bv (g2++x):=V.app;have t3:gP kn bx bv J bx bv (g2++x):=t2.trans uE;have n4:(g2++x)[J.length]?=a_ (.cells [cU kn 0] bf):=bS n4;have zw:(g2++x)[J.length+3]?=a_ (.cells z9 bf):=bS zw;have zv:(g2++x)[J.length+5]?=a_ (.cells (bX (fZ [on.length])) bf):=bS zv;generalize g2++x=g4 at h3 t3 n4 zw zv⊢;obtain⟨cZ,g5,g6,a1,a2,h4,t4⟩:=h3.aFf aa B;have N5:∀j,J.length<=j->¬rowAt bv j:=λj hj=>hX.cz.low hj;have gI:∀j,J.length<=j->¬BG bx j:=λj hj=>P7 hX.on hj;have mY:=t4.own n4 aa (N5 _ aa) (gI _ aa);have Z3:=t4.own zw aa (N5 _ aa) (gI _ aa);have aEA:=t4.own zv aa (N5 _ aa) (gI _ aa);refine vr (ff n4) @h3.Zj @Vy @a1 @a2 @ru ?_;obtain⟨dc,g7,g8,b1,b2,h5,t5,s7⟩:=h4.aFd aa 0;have I1:cg 0=.agg [.v (.int .u64 0),.v (.int .u64 0),.v (.int .u64 0),.v (.int .u64 0)]:=by simp[cg,bX,ec,wd]
 have dO:=Vy 0;rw[I1] at b1 dO;have ap3:=t3.trans t4;have axK:=ap3.len;have ans:∀j,J.length<=j->j<g4.length->¬BG cZ j:=λj hj hj2 z=>by
  rcases t4.tok j z with y|y
  exact gI j hj y;omega
 have amG:∀{j} {b},g4[j]?=a_ b->j<g4.length:=λq=>gl q;have aaM:=t5.own Z3 aa (N5 _ aa) (ans _ aa (amG zw));have aFs:=t5.own aEA aa (N5 _ aa) (ans _ aa (amG zv));have fz:dN [.v (.int .u64 0),.v (.int .u64 0),.v (.int .u64 0),.v (.int .u64 0)] []=a_ [.v (.int .u64 0),.v (.int .u64 0),.v (.int .u64 0),.v (.int .u64 0)]:=rfl;have l10:bz g8 bh 4 (.mp (J.length+5) 0)=a_ (cg (fZ [on.length])):=by simp only[bz,aFs];rfl
 have fp:dN [.v (.int .u64 0),.v (.int .u64 0),.v (.int .u64 0),.v (.int .u64 0),.v (.int .u64 0),.v (.int .u64 0),.v (.int .u64 0),.v (.int .u64 0),bf] [(0,4,cg (fZ [on.length])),(4,4,cg (fZ [on.length]))]=a_ (b6 (fZ [on.length]) (fZ [on.length]) bf):=rfl;have oJ:bL g8 9 (.mp (J.length+3) 0) (.agg (b6 (fZ [on.length]) (fZ [on.length]) bf))=a_ (g8.set (J.length+3) (.cells (b6 (fZ [on.length]) (fZ [on.length]) bf) bf)):=x9 aaM _ _ _;have xZ:=(iM (bT (a:=.cells (b6 (fZ [on.length]) (fZ [on.length]) bf) bf) (gl aaM))).2.2.2;refine ng (eI (ff mY) (ff (s7 _ _ mY)) @h4.ami @fz) @dO @b1 @b2 @l10 @fp @oJ @xZ @ru ?_;have Be:J.length+3≠kn:=aa
 refine⟨fZ [on.length],fZ [on.length],bf,on++[B],cz++[0],cZ,dc,rfl,h5.iy aaM Be,(ap3.trans t5).iy aa,by rw[ek,T];rfl,by simp[c7],?_,?_⟩;rw[ek];exact gm.one _;rw[ek];exact gm.one _;have q':p.kind≠1:=ak
 rw[if_neg q'] at T;refine wy (cM (λfU=>?_) λfU=>?_);exact absurd aMD xO;have CT:p.kind≠4:=aMD
 rw[if_neg CT,FF] at T;refine wy (cM (λbV=>?_) λbV=>?_);have aJi:b6 0 0 bf=[.v (.int .u64 0),.v (.int .u64 0),.v (.int .u64 0),.v (.int .u64 0),.v (.int .u64 0),.v (.int .u64 0),.v (.int .u64 0),.v (.int .u64 0),.v (.bool bf)]:=by simp[b6,ec,wd]
 have V:fF kn z on cz bx bv (g++[bw (b6 0 0 bf) bf]):=Y.app;have t2:gP kn bx bv J bx bv (g++[bw (b6 0 0 bf) bf]):=t1.trans uE;have n4:(g++[bw (b6 0 0 bf) bf])[J.length]?=a_ (.cells [cU kn 0] bf):=bS m4;have jI:(g++[bw (b6 0 0 bf) bf])[J.length+1]?=a_ (.cells [v] bf):=bS m5;have EY:(g++[bw (b6 0 0 bf) bf])[J.length+2]?=a_ (.cells [mv] bf):=bS m7;have zw:(g++[bw (b6 0 0 bf) bf])[J.length+3]?=a_ (.cells z9 bf):=bS m8;have NY:(g++[bw (b6 0 0 bf) bf])[J.length+4]?=a_ (.cells p.cells bf):=bS m9;have zv:(g++[bw (b6 0 0 bf) bf])[J.length+5]?=a_ (.cells (b6 0 0 bf) bf):=by rw[<-kS];simp
 generalize kH:g++[bw (b6 0 0 bf) bf]=g2 at V t2 n4 jI EY zw NY zv;rw[aJi] at kH;have aDk:=zn p9 (iz kI ag);refine wy ?_;refine c8 (λj e h=>∃F E e' ew eC cZ dc,e=[(4,.mp J.length 0),(5,.mp (J.length+1) 0),(7,.mp (J.length+2) 0),(8,.mp (J.length+3) 0),(11,.mp (J.length+5) 0),(68,p.kv),(69,bq p.kids.length),(70,bq j)]/\fF kn z ew eC cZ dc h/\gP kn bx bv J cZ dc h/\ew.length=on.length+((p.kids.take j).map λk=>cnt ps k).sum/\eC.length=ew.length/\gm F ew.length/\gm E ew.length/\
  h[J.length]?=a_ (.cells [cU kn 0] bf)/\h[J.length+1]?=a_ (.cells [v] bf)/\h[J.length+2]?=a_ (.cells [mv] bf)/\h[J.length+3]?=a_ (.cells z9 bf)/\h[J.length+5]?=a_ (.cells (b6 F E e') bf)) p.kids.length ⟨0,0,bf,on,cz,bx,bv,rfl,V,t2,af,c7,gm.zero _,gm.zero _,n4,jI,EY,zw,zv⟩ ?_ ?_
 rintro j e h' hj ⟨F,E,e',ew,eC,cZ,dc,rfl,hN,hS,hL,t_,hF,hE,b4,ot,B7,yV,DM⟩;obtain⟨x,I⟩:=cO hj;have r4:=cv I;obtain⟨pk,k1,k2⟩:=(Hi p h').get I;have wO:=zM (f:=λx=>cnt ps x) I;have sl:=C4 (λx=>cnt ps x) p.kids (j+1);have Xq:=GB.step hS;refine wy (cm (ih x r4 ew eC cZ dc h' hN Xq t_ aa) ?_);rintro _ qv ⟨gD,f_,q3,oH,qV,ju,gS,rfl,jk,gu,Xo,Xp,uY,lU⟩;have d4:=gu.rq hN b4 aa;have d5:=gu.rq hN ot aa;have d7:=gu.rq hN B7 aa;have d8:=gu.rq hN yV aa;have AD:=gu.rq hN DM aa;have iX:bL (qv++[bw z9 bf]) 9 (.mp qv.length 0) (kU gD f_ q3)=a_ (qv++[bw (b6 gD f_ q3) bf]):=by
  have:=x9 (X:=qv++[bw z9 bf]) (m:=qv.length) af gD f_ q3;rw[this];simp
 unfold z9 at iX;have D_:fF kn z oH qV ju gS (qv++[bw (b6 gD f_ q3) bf]):=jk.app;have o7:gP kn bx bv J ju gS (qv++[bw (b6 gD f_ q3) bf]):=(hS.trans gu).trans uE;have f4:(qv++[bw (b6 gD f_ q3) bf])[J.length]?=_:=bS d4;have f5:(qv++[bw (b6 gD f_ q3) bf])[J.length+1]?=_:=bS d5;have f7:(qv++[bw (b6 gD f_ q3) bf])[J.length+2]?=_:=bS d7;have f8:(qv++[bw (b6 gD f_ q3) bf])[J.length+3]?=_:=bS d8;have xG:(qv++[bw (b6 gD f_ q3) bf])[J.length+5]?=_:=bS AD;have Ja:(qv++[bw (b6 gD f_ q3) bf])[qv.length]?=a_ (.cells (b6 gD f_ q3) bf):=af
 generalize qv++[bw (b6 gD f_ q3) bf]=X at iX D_ o7 f4 f5 f7 f8 xG Ja;refine Da @iX ((iM xG).1) ((iM Ja).1) ?_;refine⟨_,_,bY (mz F) (bY (mz gD) dw),Ki F gD,?_⟩;refine mI ((iM xG).2.1) ((iM Ja).2.1) ?_;refine⟨_,_,bY (mz E) (bY (mz f_) dw),Ki E f_,?_⟩;have fb:∀b:Bool,dN [.v (.int .u64 0),.v (.int .u64 0),.v (.int .u64 0),.v (.int .u64 0),.v (.int .u64 0),.v (.int .u64 0),.v (.int .u64 0),.v (.int .u64 0),.v (.bool bf)] [(0,4,cg (F|||gD)),(4,4,cg (E|||f_)),(8,1,.v (.bool b))]=a_ (b6 (F|||gD) (E|||f_) b):=λb=>rfl;have sp:∀b:Bool,bL X 9 (.mp (J.length+5) 0) (.agg (b6 (F|||gD) (E|||f_) b))=a_ (X.set (J.length+5) (.cells (b6 (F|||gD) (E|||f_) b) bf)):=λb=>Og xG _ _ _;have out:∀b:Bool,∃F' E' vS ew eC cZ dc,fF kn z ew eC cZ dc (X.set (J.length+5) (.cells (b6 (F|||gD) (E|||f_) b) bf))/\gP kn bx bv J cZ dc (X.set (J.length+5) (.cells (b6 (F|||gD) (E|||f_) b) bf))/\ew.length=on.length+((p.kids.take (j+1)).map λk=>cnt ps k).sum/\eC.length=ew.length/\gm F' ew.length/\gm E' ew.length/\
   (X.set (J.length+5) (.cells (b6 (F|||gD) (E|||f_) b) bf))[J.length]?=a_ (.cells [cU kn 0] bf)/\(X.set (J.length+5) (.cells (b6 (F|||gD) (E|||f_) b) bf))[J.length+1]?=a_ (.cells [v] bf)/\(X.set (J.length+5) (.cells (b6 (F|||gD) (E|||f_) b) bf))[J.length+2]?=a_ (.cells [mv] bf)/\(X.set (J.length+5) (.cells (b6 (F|||gD) (E|||f_) b) bf))[J.length+3]?=a_ (.cells z9 bf)/\(X.set (J.length+5) (.cells (b6 (F|||gD) (E|||f_) b) bf))[J.length+5]?=a_ (.cells (b6 F' E' vS) bf):=λb=>
  ⟨F|||gD,E|||f_,b,oH,qV,ju,gS,D_.iy xG aa,o7.iy aa,aa,Xp,(hF.mono aa).or uY,(hE.mono aa).or lU,by rw[bE aa];exact f4,by rw[bE aa];exact f5,by rw[bE aa];exact f7,by rw[bE aa];exact f8,bT (gl xG)⟩
 cases e' with
 |true=>
  refine jB ((iM xG).2.2.1) @fb @sp ?_;obtain⟨F',E',vS,ew,eC,cZ,dc,w⟩:=out bh;exact⟨F',E',vS,ew,eC,cZ,dc,rfl,w⟩
 |false=>
  refine mH ((iM xG).2.2.1) ((iM Ja).2.2.1) @fb @sp ?_;obtain⟨F',E',vS,ew,eC,cZ,dc,w⟩:=out q3;exact⟨F',E',vS,ew,eC,cZ,dc,rfl,w⟩
 rintro e h' ⟨F,E,e',ew,eC,cZ,dc,rfl,hN,hS,hL,t_,hF,hE,b4,ot,B7,yV,DM⟩;rw[od] at hL;have oJ:bL h' 9 (.mp (J.length+3) 0) (kU F E e')=a_ (h'.set (J.length+3) (.cells (b6 F E e') bf)):=x9 yV _ _ _;have xZ:=(iM (bT (a:=.cells (b6 F E e') bf) (gl yV))).2.2.2;refine mH @bq.eq_1 ((iM DM).2.2.2) @oJ @xZ ?_;exact⟨F,E,e',ew,eC,cZ,dc,rfl,hN.iy yV aa,hS.iy aa,by rw[T];exact hL,t_,hF,hE⟩;have f0:dN [.v (.int .u64 0),.v (.int .u64 0),.v (.int .u64 0),.v (.int .u64 0),.v (.int .u64 0),.v (.int .u64 0),.v (.int .u64 0),.v (.int .u64 0),bf] [(8,1,bh)]=a_ (b6 0 0 bh):=by
  have:b6 0 0 bh=[.v (.int .u64 0),.v (.int .u64 0),.v (.int .u64 0),.v (.int .u64 0),.v (.int .u64 0),.v (.int .u64 0),.v (.int .u64 0),.v (.int .u64 0),.v (.bool bh)]:=by simp[b6,ec,wd]
  rw[this];rfl
 have rB:bL (g++[bw z9 bf]) 9 (.mp g.length 0) (.agg (b6 0 0 bh))=a_ (g++[bw (b6 0 0 bh) bf]):=by
  have:=x9 (X:=g++[bw z9 bf]) (m:=g.length) af 0 0 bh;unfold kU at this;rw[this];simp
 unfold z9 at rB;have V:fF kn z on cz bx bv (g++[bw (b6 0 0 bh) bf]):=Y.app;have t2:gP kn bx bv J bx bv (g++[bw (b6 0 0 bh) bf]):=t1.trans uE;have n4:(g++[bw (b6 0 0 bh) bf])[J.length]?=a_ (.cells [cU kn 0] bf):=bS m4;have jI:(g++[bw (b6 0 0 bh) bf])[J.length+1]?=a_ (.cells [v] bf):=bS m5;have EY:(g++[bw (b6 0 0 bh) bf])[J.length+2]?=a_ (.cells [mv] bf):=bS m7;have zw:(g++[bw (b6 0 0 bh) bf])[J.length+3]?=a_ (.cells z9 bf):=bS m8;have NY:(g++[bw (b6 0 0 bh) bf])[J.length+4]?=a_ (.cells p.cells bf):=bS m9;have zv:(g++[bw (b6 0 0 bh) bf])[J.length+5]?=a_ (.cells (b6 0 0 bh) bf):=by rw[<-kS];simp
 rw[kS] at rB;refine wy ?_;have aDk:=zn p9 (iz kI ag);refine wy ?_;refine c8 (λj e h=>∃F E e' ew eC cZ dc,e=[(4,.mp J.length 0),(5,.mp (J.length+1) 0),(7,.mp (J.length+2) 0),(8,.mp (J.length+3) 0),(15,.mp (J.length+5) 0),(100,p.kv),(101,bq p.kids.length),(102,bq j)]/\fF kn z ew eC cZ dc h/\gP kn bx bv J cZ dc h/\ew.length=on.length+((p.kids.take j).map λk=>cnt ps k).sum/\eC.length=ew.length/\gm F ew.length/\gm E ew.length/\
  h[J.length]?=a_ (.cells [cU kn 0] bf)/\h[J.length+1]?=a_ (.cells [v] bf)/\h[J.length+2]?=a_ (.cells [mv] bf)/\h[J.length+3]?=a_ (.cells z9 bf)/\h[J.length+5]?=a_ (.cells (b6 F E e') bf)) p.kids.length ⟨0,0,bh,on,cz,bx,bv,rfl,V,t2,af,c7,gm.zero _,gm.zero _,n4,jI,EY,zw,zv⟩ ?_ ?_
 rintro j e h' hj ⟨F,E,e',ew,eC,cZ,dc,rfl,hN,hS,hL,t_,hF,hE,b4,ot,B7,yV,DM⟩;obtain⟨x,I⟩:=cO hj;have r4:=cv I;obtain⟨pk,k1,k2⟩:=(Hi p h').get I;have wO:=zM (f:=λx=>cnt ps x) I;have sl:=C4 (λx=>cnt ps x) p.kids (j+1);have Xq:=GB.step hS;refine aI8 (ff b4) (ff ot) (ff B7) ((iM DM).2.2.2) (cm (ih x r4 ew eC cZ dc h' hN Xq t_ aa) ?_);rintro _ qv ⟨gD,f_,q3,oH,qV,ju,gS,rfl,jk,gu,Xo,Xp,uY,lU⟩;have d4:=gu.rq hN b4 aa;have d5:=gu.rq hN ot aa;have d7:=gu.rq hN B7 aa;have d8:=gu.rq hN yV aa;have AD:=gu.rq hN DM aa;refine fu (ff d4) ((iM AD).2.2.2) @ru (cm (Sg cE jk F E gD f_ e' q3 (λp J _=>by have:=hE p J;omega)) ?_);rintro _ Xh ⟨rfl,D_,o7⟩;have f4:=o7.rq jk d4 aa;have f5:=o7.rq jk d5 aa;have f7:=o7.rq jk d7 aa;have f8:=o7.rq jk d8 aa;have xG:=o7.rq jk AD aa;have sp:=Og xG (if e' then F|||gD else F) (if q3 then f_|||E else f_) (e'&&q3);refine qK @sp @qF.eq_1 @r9.eq_1 @true_and @and_true ?_;refine⟨_,_,_,oH,qb qV gD (AF E),ju,gS,rfl,D_.iy xG aa,(((hS.trans gu).trans o7)).iy aa,aa,by rw[Hr];exact Xp,?_,?_,?_,?_,?_,?_,bT (gl xG)⟩;split;exact(hF.mono aa).or uY;exact hF.mono aa;split;exact lU.or (hE.mono aa);exact lU;rw[bE aa];exact f4;rw[bE aa];exact f5;rw[bE aa];exact f7;rw[bE aa];exact f8;rintro e h' ⟨F,E,e',ew,eC,cZ,dc,rfl,hN,hS,hL,t_,hF,hE,b4,ot,B7,yV,DM⟩;rw[od] at hL;have oJ:bL h' 9 (.mp (J.length+3) 0) (kU F E e')=a_ (h'.set (J.length+3) (.cells (b6 F E e') bf)):=x9 yV _ _ _;have xZ:=(iM (bT (a:=.cells (b6 F E e') bf) (gl yV))).2.2.2;refine mH @bq.eq_1 ((iM DM).2.2.2) @oJ @xZ ?_;exact⟨F,E,e',ew,eC,cZ,dc,rfl,hN.iy yV aa,hS.iy aa,by rw[T];exact hL,t_,hF,hE⟩
def asF{G}{O}{kn}{z}{v mv}{ps}{p:cT}{x}(zd:p.kids=[x])(ih:FP G O kn z v mv ps x){on cz}{bx bv}{J}{a b c d}
  (hX:fF kn z on cz bx bv J) (GB:Lv O kn bx bv J) (c7:cz.length=on.length) (Eg:on.length+cnt ps x<=256)
  (ha:J[a]?=a_ (.cells [.mp kn 0] bf)) (hb':J[b]?=a_ (.cells [v] bf)) (T:J[c]?=a_ (.cells p.cells bf)) (hd:J[d]?=a_ (.cells [mv] bf)):
  cw G bB 216 [.mp a 0,.mp b 0,.mp c 0,.mp d 0] J (PM kn z on bx bv J (cnt ps x)):=by
 refine akT.go ?_;have e7:=gl hX.b;have Y:fF kn z on cz bx bv (J++[bw z9 bf]):=hX.app;have t1:gP kn bx bv J bx bv (J++[bw z9 bf]):=uE;have ma:(J++[bw z9 bf])[a]?=a_ (.cells [cU kn 0] bf):=bS ha;have aDS:(J++[bw z9 bf])[b]?=a_ (.cells [v] bf):=bS hb';have ia:(J++[bw z9 bf])[c]?=a_ (.cells p.cells bf):=bS T;have md:(J++[bw z9 bf])[d]?=a_ (.cells [mv] bf):=bS hd;have m0:(J++[bw z9 bf])[J.length]?=a_ (.cells z9 bf):=af
 generalize hg:J++[bw z9 bf]=g at Y t1 ma aDS ia md m0;unfold z9 at hg;have l4:bz g bf 1 (.mp c 4)=a_ p.kv:=by simp only[bz,ia];rfl
 obtain⟨pk,k1,k2⟩:=(Hi p g).get (i:=0) (by rw[zd];rfl);have az8:ct 1 p.kv (0:Int)=a_ pk:=k1;refine wy (cm (ih on cz bx bv g Y (GB.step t1) c7 Eg) ?_);rintro _ g2 ⟨F,E,e,oH,qV,ju,gS,rfl,hN,hS,hL,t_,hF,hE⟩;have n0:=hS.rq Y m0 aa;have oJ:=x9 n0 F E e;have xZ:=(iM (bT (a:=.cells (b6 F E e) bf) (gl n0))).2.2.2;refine wy ?_;exact⟨F,E,e,oH,qV,ju,gS,rfl,hN.iy n0 aa,(t1.trans hS).iy (cc _),hL,t_,hF,hE⟩
section
variable{v:bg}{l:List (Nat×Nat×Bool)}
def CR(l:List (Nat×Nat×Bool)):List bg:=l.map λx=>kU x.1 x.2.1 x.2.2
def Vp(v:bg)(l:List (Nat×Nat×Bool)):Prop:=(v=.bp/\l=[])\/∃t,v=.sl (CR l) t
section
variable{G:Cells}
def atc(hv:Vp v l)(J):cw G bB 271 [v] J λr bl=>r=.fn (.func 297) [] [.mp J.length 0]/\bl=J++[.cells [v] bf]:=by
 refine alh.go ?_
 have nx:v.cells=[v]:=by rcases hv with⟨rfl,_⟩|⟨t,rfl⟩<;>rfl
 exact wx tt
def atd{y}(hv:Vp v l)(hl:l.length<=100000){Inv:Nat->List br->Prop}{Stop:List br->Prop}{kb}{J}
  (mB:∀i x J,Inv (i+1) J->l[i]?=a_ x->jS G bB y [i,kU x.1 x.2.1 x.2.2] J λr bl=>∃c:Bool,r=c/\(c=bh->Inv i bl)/\(c=bf->Stop bl))
  (hB:∀i J,Inv i J->J[kb]?=a_ (.cells [v] bf)) (h0:Inv l.length J):cw G bB 297 [y,.mp kb 0] J λr bl=>r=.bQ []/\(Inv 0 bl\/Stop bl):=by
 refine alr.go ?_;have ln:∀J,cG v J=a_ (.v (.int .i64 (l.length:Int)),J):=λJ=>by
  rcases hv with⟨rfl,rfl⟩|⟨t,rfl⟩
  rfl;simp[pq,goInt,CR]
 have w0:cN.wrap ((l.length:Int)-1)=(l.length:Int)-1:=fq aa aa;refine wy ?_;refine qe (λn e J=>n<=l.length/\e=[(0,y),(1,.mp kb 0),(3,((n)-1:Int))]/\Inv n J) ⟨cc _,rfl,h0⟩ ?_;rintro n e J ⟨hn,rfl,hI⟩;cases n with
 |zero=>
  have c1:decide ((0:Int)<=((0:Nat):Int)-1)=bf:=ag
  refine e6 @c1 ?_;exact⟨trivial,bD hI⟩
 |succ n=>
  have e0:((n+1:Nat):Int)-1=(n):=aa
  have c1:decide ((0:Int)<=(n))=bh:=af
  obtain⟨x,I⟩:∃x,l[n]?=a_ x:=⟨l[n]' aa,cy aa⟩;have e1:ct 9 v n=a_ (.fp (b6 x.1 x.2.1 x.2.2) 0):=by
   rcases hv with⟨rfl,rfl⟩|⟨t,rfl⟩
   simp at I;simp only[ct,CR,e9,yw,I,kf];rw[if_pos aa];rfl
  have e2:∀J,bz J bh 9 (.fp (b6 x.1 x.2.1 x.2.2) 0)=a_ (kU x.1 x.2.1 x.2.2):=λJ=>rfl;rw[e0];refine wy (vw (mB n x J hI I) ?_);rintro _ g ⟨c,rfl,k1,k2⟩;cases c with
  |false=>
   refine fJ ?_;exact⟨trivial,bF (k2 rfl)⟩
  |true=>
   have w1:cN.wrap ((n)-1)=(n)-1:=fq aa aa;refine wy ?_;exact⟨n,yB _,aa,rfl,k1 rfl⟩
end
end
section
variable{J:List br}{v:bg}{l:List (List UInt8)}
def agh(a b c d a2 b2 c2 d2):∃r:Bool,fj [.i,.i,.i,.i] [ec a,ec b,ec c,ec d] [ec a2,ec b2,ec c2,ec d2]=a_ r:=by
 exact⟨_,WE .u64 [(a:Int),(b:Int),(c:Int),(d:Int)] [(a2:Int),(b2:Int),(c2:Int),(d2:Int)] rfl⟩
def agl(A B):∃b:Bool,pT [.i,.i,.i,.i] bf (cg A) (cg B)=a_ (.v (.bool b)):=by
 obtain⟨d,hd⟩:=agh (wd A 0) (wd A 1) (wd A 2) (wd A 3) (wd B 0) (wd B 1) (wd B 2) (wd B 3);refine⟨bf !=d,?_⟩;show(fj [.i,.i,.i,.i] [ec (wd A 0),ec (wd A 1),ec (wd A 2),ec (wd A 3)] [ec (wd B 0),ec (wd B 1),ec (wd B 2),ec (wd B 3)]).map (λr=>cR (.bool (bf !=r)))=_;rw[hd];rfl
section
variable{G:Cells}{O:List br}{mv:bg}{k:Nat}
def aEu(hM:Dv G O mv){s}(hs:vc s=bh)(S:J[k]?=a_ (.cells [mv] bf))(MI:∀(j:Nat) b,O[j]?=a_ b->J[j]?=a_ b):
  cw G bB 142 [bu s,.mp k 0] J λr bl=>(∃b:Bool,r=b)/\∃l,bl=J++l:=by
 refine akh.go ?_;refine wy (vw (hM.call s J hs MI) ?_);rintro _ g ⟨B,l,rfl,rfl⟩;have I1:cg 0=.agg [.v (.int .u64 0),.v (.int .u64 0),.v (.int .u64 0),.v (.int .u64 0)]:=by simp[cg,bX,ec,wd]
 obtain⟨b,axo⟩:=agl B 0;rw[I1] at axo;refine wy ?_;exact⟨⟨b,rfl⟩,l,rfl⟩
def azE(hM:Dv G O mv)(hv:cD v (l.map bu))(hl:l.length<=100000)(hn:∀s∈l,vc s=bh)(S:J[k]?=a_ (.cells [mv] bf))(MI:∀(j:Nat) b,O[j]?=a_ b->J[j]?=a_ b):
  cw G bB 214 [v,.fn (.func 142) [] [.mp k 0]] J λr bl=>(∃n:Int,r=n)/\∃l,bl=J++l:=by
 refine akR.go ?_;have ln:=hv.cG;rw[cS] at ln;refine wy ?_;refine c8 (λi e h=>e=[(0,v),(1,.fn (.func 142) [] [.mp k 0]),(7,bq l.length),(8,bq i)]/\∃x,h=J++x) l.length ⟨rfl,[],af⟩ ?_ ?_;rintro i e h Q ⟨rfl,x,rfl⟩;obtain⟨s,hs⟩:=cO Q;have e1:ct 1 v i=a_ (.fp [bu s] 0):=hv.cB (x:=bu s) aNU rfl;refine wy (cm (aEu hM (hn s (cv hs)) (bS S) λj b q=>bS (MI j b q)) ?_);rintro _ g ⟨⟨b,rfl⟩,y,rfl⟩;cases b with
 |true=>
  refine wy ?_;exact⟨⟨_,rfl⟩,x++y,aMq⟩
 |false=>
  refine wx ?_;exact⟨rfl,x++y,aMq⟩
 rintro e h ⟨rfl,x,rfl⟩;refine wy ?_;exact⟨⟨_,rfl⟩,x,rfl⟩
def asT(hM:Dv G O mv)(hv:cD v (l.map bu))(hl:l.length<=100000)(hn:∀s∈l,vc s=bh)(S:J[k]?=a_ (.cells [mv] bf))(MI:∀(j:Nat) b,O[j]?=a_ b->J[j]?=a_ b):
  cw G bB 141 [v,.fn (.func 142) [] [.mp k 0]] J λr bl=>(∃b:Bool,r=b)/\∃l,bl=J++l:=by
 refine akg.go ?_;refine wy (cm (azE hM hv hl hn S MI) ?_);rintro _ g ⟨⟨n,rfl⟩,x,rfl⟩;refine wy ?_;exact⟨⟨_,rfl⟩,x,rfl⟩
end
end
def YD(n):∀(l) (k),uh n l k= -1\/∃i:Nat,uh n l k=((k+i:Nat):Int)/\i<l.length
 |[],k=>bD rfl
 |b::r,k=>by
  unfold uh;split;exact bF ⟨0,rfl,af⟩
  rcases YD n r (k+1) with h|⟨i,Y,V⟩
  exact bD h;exact bF ⟨i+1,by rw[Y];congr 1;omega,ah⟩
def PB(n:Nat)(r:bg):Prop:=∃(a b:List UInt8) (f:Bool),r=.bQ [bu a,bu b,f]/\a.length<=n/\b.length<=n
def Mk{J}{n}{a b}(f:Bool)(ha:a.length<=n)(O:b.length<=n):∃m bR,dh J m (.bQ [bu a,bu b,f])=a_ bR/\PB n bR:=by
 obtain⟨m,hm⟩:=(fy (bG (bH _) (bG (bH _) (bG (bH _) c_))):b_ J (.bQ [bu a,bu b,f]) _).done;exact⟨m,_,hm,a,b,f,rfl,ha,O⟩
section
variable{G:Cells}
def auF(s)(c)(hs:s.length<=1000000):dM G bB 225 [bu s,bu [c]] (PB s.length):=by
 refine en (akZ.go ?_);refine wy ?_;refine dx (abt ⟨⟨s⟩⟩ c) ?_;have ht:(⟨⟨s⟩⟩:ByteArray).data.toList=s:=rfl;rw[ht]
 rcases YD c.toNat s 0 with e|⟨i,e,Q⟩
 rw[e];have c0:decide ((0:Int)<= -1)=bf:=ag
 exact wy (Mk bf (cc _) (gW _));rw[e,gi];have c1:decide ((0:Int)<=(i))=bh:=af
 have k1:=λJ=>QG (l:=s) (j:=i) aa J;have k2:=λJ=>Wm (l:=s) (i:=i+1) aa J;refine wy ?_;exact Mk bh ah af
def afR(s)(c)(hs:s.length<=1000000):dM G bB 151 [bu s,bu [c]] (PB s.length):=by
 refine en (akq.go ?_);refine wy ?_;refine eo (auF s c hs) ?_;rintro r ⟨a,b,f,rfl,ha,O⟩;exact wy (Mk f ha O)
end
section
variable{G:Cells}
def azF(s)(c):cV G bB 223 [bu s,bu [c]] (uh c.toNat s 0:Int):=by
 refine eM (akY.go ?_);refine wy ?_;exact dx (abt ⟨⟨s⟩⟩ c) (wy ((bH _).done))
def aGH(s pF)(n:Int)(J):cw G bB 232 [bu s,bu pF,n] J λr bl=>r=.fn (.func 282) [] [.mp (J.length+1) 0,.mp J.length 0,.mp (J.length+2) 0]/\bl=J++[.cells [bu s] bf]++[.cells [bu pF] bf]++[.cells [n] bf]:=by
 refine ak0.go ?_;have nx:∀s,(bu s).cells=[bu s]:=λs=>rfl;have aJT:(cR (.int .i64 n)).cells=[.v (.int .i64 n)]:=rfl;refine mI @ek.{0} @nM ?_;exact⟨trivial,trivial⟩
def aGG(s pF)(J):cw G bB 162 [bu s,bu pF] J λr bl=>r=.fn (.func 282) [] [.mp (J.length+1) 0,.mp J.length 0,.mp (J.length+2) 0]/\bl=J++[.cells [bu s] bf]++[.cells [bu pF] bf]++[.cells [(0:Int)] bf]:=by
 refine aks.go ?_;refine wy (cm (aGH s pF 0 J) ?_);rintro _ g ⟨rfl,rfl⟩;exact wx tt
end
def aHg{G}{y}{c}{s}(hs:s.length<=1000000){Inv Lu:List UInt8->List br->Prop}{Stop:List br->Prop}{a b d}{J}
  (O:∀t J,Inv t J->J[a]?=a_ (.cells [bu t] bf)/\J[b]?=a_ (.cells [bu [c]] bf)/\J[d]?=a_ (.cells [(0:Int)] bf))
  (iS:∀t J,Lu t J->J[a]?=a_ (.cells [bu t] bf)/\J[b]?=a_ (.cells [bu [c]] bf)/\J[d]?=a_ (.cells [(0:Int)] bf))
  (Cs:∀t t' J,Lu t J->t'.length<t.length->Inv t' (J.set a (.cells [bu t'] bf)))
  (mB:∀t w J,Inv t J->w.length<=s.length->jS G bB y [bu w] J λr bl=>∃e:Bool,r=e/\(e=bh->Lu t bl)/\(e=bf->Stop bl))
  (h0:Inv s J):cw G bB 282 [y,.mp b 0,.mp a 0,.mp d 0] J λr bl=>r=.bQ []/\((∃t,Lu t bl)\/Stop bl):=by
 refine alk.go ?_;have amy:∀J,r6 (bu [c]) J=a_ (.v (.int .i64 1),J):=λJ=>rfl;refine wy ?_;refine qe (λn e J=>∃t,t.length=n/\t.length<=s.length/\e=[(0,y),(1,.mp b 0),(2,.mp a 0),(3,.mp d 0)]/\Inv t J) ⟨s,rfl,cc _,rfl,h0⟩ ?_;rintro n e J ⟨t,rfl,G5,rfl,hI⟩;refine wy ?_;refine dx (azF t c) ?_
 rcases YD c.toNat t 0 with e|⟨i,e,Q⟩
 rw[e];have c0:decide ((-1:Int)<0)=bh:=ag
 refine wy (vw (mB t t J hI G5) ?_);rintro _ g ⟨e,rfl,k1,k2⟩;refine wx ?_;cases e with
 |true=>exact⟨trivial,bD ⟨t,k1 rfl⟩⟩
 |false=>exact⟨trivial,bF (k2 rfl)⟩
 rw[e,gi];have c0:decide ((i:Int)<0)=bf:=af
 have w0:cN.wrap ((i)+0)=(i):=by rw[fq aa aa];omega
 have k1:=λJ=>QG (l:=t) (j:=i) aa J;refine wy (vw (mB t (t.take i) J hI ah) ?_);rintro _ g ⟨e,rfl,q1,bt⟩;cases e with
 |false=>
  refine fJ ?_;exact⟨trivial,bF (bt rfl)⟩
 |true=>
  obtain⟨d1,d2,d3⟩:=iS t g (q1 rfl);refine wx ?_;exact⟨_,ah,t.drop (i+1),rfl,ah,trivial,Cs t _ g (q1 rfl) ah⟩
def YM{G}(cE:gk G)(s)(hs:s.length<=1000000):dM G bB 118 [bu s] jR:=by
 refine en (ajW.go ?_);refine wy ?_;refine eo (aas cE s hs) ?_;rintro r ⟨v,p,e,rfl,hq⟩;refine wy ?_
 rcases hq with⟨rfl,rfl,ps,hE⟩|⟨he,rfl⟩
 have ln:=hE.v.cG;rw[cS] at ln;have c7:=hE.len;refine wy ?_;refine dn (λq=>?_) λq=>(jj _);obtain⟨y,rfl⟩:∃y,ps=[y]:=FD.1 aq;have e1:ct 5 v (0:Int)=a_ (.fp y.cells 0):=hE.v.cB (i:=0) rfl rfl;have di:∀J,bz J bf 1 (.fp y.cells 3)=a_ (bu y.name):=λJ=>rfl;have eW:lM 3 (.fp y.cells 0)=a_ (.fp y.cells 3):=rfl;exact qK @q @e1 @eW @di @oZ (jj _);have q:(e==0)=bf:=aMg
 exact wy (jj _)
section
variable{B j kn:Nat}{Z z:List bg}{rv u u' v v':bg}{h h' V J:List br}{b:br}{ps:List (Nat×Nat×Bool)}
def gP.S8{on cz}(s:gP kn u v h u' v' h')(hX:fF kn z on cz u v h)(hj:h[j]?=a_ b)(Y:∀Z fz,b≠.cells Z fz)(V:∀c,b≠.tok c 4 152):h'[j]?=a_ b:=by
 refine s.keep j _ hj ?_ (λ⟨m,l,e⟩=>?_) λ⟨xs,e⟩=>?_;rintro rfl;rw[hX.b] at hj;cases hj;exact Y _ _ rfl
 rcases hX.cz with⟨q,_⟩|⟨k,q,bt⟩
 rw[q] at e;cases e;rw[q] at e;cases e;rw[hj] at bt;cases bt;exact Y _ _ rfl
 rcases hX.on with⟨q,_⟩|⟨id,q,bt⟩
 rw[q] at e;cases e;rw[q] at e;cases e;rw[hj] at bt;cases bt;exact V _ rfl
def asc(kn:Nat)(K:List (Nat×List bg))(g:List br):Prop:=∀x∈K,x.1≠kn/\g[x.1]?=a_ (.cells x.2 bf)
structure ig(kn:Nat)(z:List bg)(J:List br)(bx bv:bg)(w:Nat)(K:List (Nat×List bg))(ew eC:List Nat)(cZ dc:bg)(h:List br):Prop where
 fI:fF kn z ew eC cZ dc h
 st:gP kn bx bv J cZ dc h
 len:ew.length=w
 qa:eC.length=w
 keep:asc kn K h
section
variable{kn:Nat}{z:List bg}{J:List br}{bx bv:bg}{w:Nat}{K:List (Nat×List bg)}{ew eC:List Nat}{cZ dc:bg}{h:List br}
def ig.move{w2}{oH qV}{ju gS}(s:ig kn z J bx bv w K ew eC cZ dc h)(hX:fF kn z oH qV ju gS V)(hS:gP kn cZ dc h ju gS V)(Y:oH.length=w2)(h3:qV.length=w2):ig kn z J bx bv w2 K oH qV ju gS V:=
 ⟨hX,s.st.trans hS,Y,h3,λx I=>⟨(s.keep x I).1,hS.rq s.fI (s.keep x I).2 (s.keep x I).1⟩⟩
def ig.app{x}(s:ig kn z J bx bv w K ew eC cZ dc h):ig kn z J bx bv w K ew eC cZ dc (h++x):=s.move s.fI.app uE s.len s.qa
def ig.get(s:ig kn z J bx bv w K ew eC cZ dc h)(I:(j,Z)∈K):h[j]?=a_ (.cells Z bf):=(s.keep _ I).2
def ig.lt(s:ig kn z J bx bv w K ew eC cZ dc h):kn<h.length:=(cK.1 s.fI.b).1
def ig.new(s:ig kn z J bx bv w K ew eC cZ dc h):ig kn z J bx bv w ((h.length,Z)::K) ew eC cZ dc (h++[.cells Z bf]):=by
 have hl:=s.lt;have s2:ig kn z J bx bv w K ew eC cZ dc (h++[.cells Z bf]):=s.app;refine⟨s2.fI,s2.st,s2.len,s2.qa,λx I=>?_⟩
 rcases fo.1 I with rfl|I
 exact⟨by dsimp only;omega,af⟩;exact s2.keep x I
def ig.new2{cs0}(s:ig kn z J bx bv w ((j,cs0)::K) ew eC cZ dc h):ig kn z J bx bv w ((j,cs0)::(h.length,Z)::K) ew eC cZ dc (h++[.cells Z bf]):=by
 have s2:=s.new (Z:=Z);refine⟨s2.fI,s2.st,s2.len,s2.qa,λx I=>s2.keep x ?_⟩
 rcases fo.1 I with h|I
 simp[h]
 rcases fo.1 I with h|I
 simp[h];simp[I]
def ig.swap{a b}(s:ig kn z J bx bv w (a::b::K) ew eC cZ dc h):ig kn z J bx bv w (b::a::K) ew eC cZ dc h:=by
 refine⟨s.fI,s.st,s.len,s.qa,λx I=>s.keep x ?_⟩
 rcases fo.1 I with h|I
 simp[h]
 rcases fo.1 I with h|I
 simp[h];simp[I]
def ig.put(cs')(s:ig kn z J bx bv w ((j,Z)::K) ew eC cZ dc h)(hj:J.length<=j)(hK:∀x∈K,x.1≠j):ig kn z J bx bv w ((j,cs')::K) ew eC cZ dc (h.set j (.cells cs' bf)):=by
 have g:=s.keep (j,Z) (wZ ..);refine⟨s.fI.iy g.2 g.1,s.st.iy hj,s.len,s.qa,λx I=>?_⟩
 rcases fo.1 I with rfl|I
 exact⟨g.1,bT (gl g.2)⟩;have k:=s.keep x (sw _ I);exact⟨k.1,by rw[bE (e3 (hK x I))];exact k.2⟩
def ig.sub{K'}(s:ig kn z J bx bv w K ew eC cZ dc h)(hs:∀x∈K',x∈K):ig kn z J bx bv w K' ew eC cZ dc h:=⟨s.fI,s.st,s.len,s.qa,λx I=>s.keep x (hs x I)⟩
def ig.abb{k}{b'}(s:ig kn z J bx bv w K ew eC cZ dc h)(S:h[k]?=a_ b)(Y:∀Z fz,b≠.cells Z fz)(V:∀c,b≠.tok c 4 152)(hl:J.length<=k):ig kn z J bx bv w K ew eC cZ dc (h.set k b'):=by
 have ne:∀{j} {Z} {fz},h[j]?=a_ (.cells Z fz)->k≠j:=λq e=>by
  rw[<-e,S] at q;cases q;exact Y _ _ rfl
 have NZ:∀{j c},h[j]?=a_ (.tok c 4 152)->k≠j:=λq e=>by
  rw[<-e,S] at q;cases q;exact V _ rfl
 refine⟨s.fI.ext (λj Z fz q=>aNI) (λj c q=>aNJ),s.st.iy hl,s.len,s.qa,λx I=>?_⟩;have g:=s.keep x I;exact⟨g.1,by rw[bE (ne g.2)];exact g.2⟩
def ig.fin(s:ig kn z J bx bv w K ew eC cZ dc h)(he:og J.length h V):ig kn z J bx bv w K ew eC cZ dc V:=by
 have kp:∀(j:Nat) b,(∀o,b≠.obj o)->h[j]?=a_ b->V[j]?=a_ b:=λj b O q=>by
  rcases he.2 j with z|⟨_,z,_⟩
  rw[z];exact q;rw[z] at q;cases q;exact absurd rfl (O _)
 refine⟨s.fI.ext (λj Z fz q=>kp j _ af q) (λj c q=>kp j _ af q),⟨by rw[he.1];exact s.st.len,λj b hj Y qv h3=>?_,s.st.row,s.st.tok⟩,s.len,s.qa,λx I=>?_⟩;have lW:=gl hj
 rcases he.2 j with z|⟨z,_,_⟩
 rw[z];exact s.st.keep j b hj Y qv h3;omega;have g:=s.keep x I;exact⟨g.1,kp _ _ af g.2⟩
end
def xo(B:Nat)(h:List br)(rv:bg)(ps:List (Nat×Nat×Bool)):Prop:=(rv=.bp/\ps=[])\/∃id,rv=.sl (CR ps) (.tok id)/\B<=id/\h[id]?=a_ (.tok ps.length 9 256)
def xo.sl{B}{h}{rv}{ps}(s:xo B h rv ps):Vp rv ps:=by
 rcases s with z|⟨id,z,_⟩
 exact bD z;exact bF ⟨_,z⟩
def xo.keep(s:xo B h rv ps)(S:∀(j:Nat) c,h[j]?=a_ (.tok c 9 256)->h'[j]?=a_ (.tok c 9 256)):xo B h' rv ps:=by
 rcases s with z|⟨id,z,z2,z3⟩
 exact bD z;exact bF ⟨id,z,z2,S _ _ z3⟩
@[go_sem]def anJ(l):cY 9 (CR l)=bh:=by
 rw[cY,eJ];intro x I;obtain⟨t,ht,rfl⟩:=dV.1 I;rfl
def xo.push(s:xo B h rv ps)(hB:B<=h.length)(hn:ps.length<=1000)(F E)(e):
  ∃C2 h',ei h 9 72 256 rv (.sl [kU F E e] .exact)=a_ (C2,h')/\xo B h' C2 (ps++[(F,E,e)])/\h.length<=h'.length/\(∀(j:Nat) b,h[j]?=a_ b->(∀c,b≠.tok c 9 256)->h'[j]?=a_ b)/\∀(j) b,j<B->h[j]?=a_ b->h'[j]?=a_ b:=by
 have hy:cY 9 [kU F E e]=bh:=rfl;have hfit:(ps.length+1)*72<=140737488355328:=aa
 rcases s with⟨rfl,rfl⟩|⟨id,rfl,hid,S⟩
 refine⟨.sl ([]++[kU F E e]) (.tok h.length),h++[.tok 1 9 256],?_,bF ⟨h.length,rfl,hB,af⟩,af,λj b q _=>bS q,λj b _ q=>bS q⟩;simp only[iG,gi] at hfit;simp[ei,gR,iA,iq,hy];have Yd:(CR ps).length=ps.length:=by simp[CR]
 refine⟨.sl (CR ps++[kU F E e]) (.tok id),h.set id (.tok (ps.length+1) 9 256),?_,bF ⟨id,by simp[CR],hid,by rw[bT (gl S)];simp⟩,af,λj b q bP=>?_,λj b hj q=>by rw[bE aa];exact q⟩;simp[ei,gR,iA,iq,hy,hfit,anJ ps,S,Yd];rw[bE (λe=>aNm)];exact q
def gP.rest(s:gP kn u v J u' v' h)(hl:h.length<=h'.length)(S:∀(j) b,j<J.length->h[j]?=a_ b->h'[j]?=a_ b):gP kn u v J u' v' h':=
 ⟨iz s.len hl,λj b hj Y V h3=>S j b (gl hj) (s.keep j b hj Y V h3),s.row,s.tok⟩
def ig.rest{bx bv}{w}{K}{ew eC}{cZ dc}(s:ig kn z J bx bv w K ew eC cZ dc h)(hl:h.length<=h'.length)(k1:∀(j:Nat) b,h[j]?=a_ b->(∀c,b≠.tok c 9 256)->h'[j]?=a_ b)(k2:∀(j) b,j<J.length->h[j]?=a_ b->h'[j]?=a_ b):ig kn z J bx bv w K ew eC cZ dc h':=
 ⟨s.fI.ext (λj Z fz q=>k1 _ _ q af) (λj c q=>k1 _ _ q af),s.st.rest hl k2,s.len,s.qa,λx I=>⟨(s.keep x I).1,k1 _ _ (s.keep x I).2 af⟩⟩
end
section
variable{p:cT}
@[go_sem]def WR:dN [.v (.int .u64 0),.v (.int .u64 0),.v (.int .u64 0),.v (.int .u64 0),.v (.int .u64 0),.v (.int .u64 0),.v (.int .u64 0),.v (.int .u64 0),bf] [(8,1,bh)]=a_ (b6 0 0 bh):=by
 have:b6 0 0 bh=[.v (.int .u64 0),.v (.int .u64 0),.v (.int .u64 0),.v (.int .u64 0),.v (.int .u64 0),.v (.int .u64 0),.v (.int .u64 0),.v (.int .u64 0),.v (.bool bh)]:=by simp[b6,ec,wd]
 rw[this];rfl
@[go_sem]def Kl(h)(F E)(e):bL (h++[bw z9 bf]) 9 (.mp h.length 0) (kU F E e)=a_ (h++[bw (b6 F E e) bf]):=by
 have:=x9 (X:=h++[bw z9 bf]) (m:=h.length) af F E e;rw[this];simp
def cT.aDD(q:p.high<0):(if(1:Int)>p.low then 1 else p.low)=(p.many:Int):=by
 unfold Fy;rw[if_pos q];split<;>omega
def cT.aDF(q:¬p.high<0):p.high=(p.many:Int):=by
 unfold Fy;rw[if_neg q];omega
def gm.ite{b:Bool}{A B n}(h:gm A n)(k:gm B n):gm (if b then A else B) n:=by cases b<;>assumption
structure LC(kn:Nat)(z:List bg)(J:List br)(bx bv:bg)(p:cT)(K:List (Nat×List bg))(j w F E:Nat)(em:Bool)(rv:bg)(rs:List (Nat×Nat×Bool))(M:List (Nat×List bg))(ew eC:List Nat)(cZ dc:bg)(h:List br):Prop where
 s:ig kn z J bx bv w ((J.length+3,b6 F E em)::(M++(J.length+2,z9)::(J.length+1,p.cells)::(J.length,[cU kn 0])::K)) ew eC cZ dc h
 f:gm F w
 e:gm E w
 r:xo J.length h rv rs
 rl:rs.length<=j
 Kx:∀x∈rs,gm x.1 w/\gm x.2.1 w
section
variable{G:Cells}{kn:Nat}{z:List bg}{J:List br}{bx bv:bg}
def aIc(cE:gk G)(kI:0<=p.low/\p.low<=20/\(p.high= -1\/(1<=p.high/\p.high<=20))){y}{c}{on cz}{K}(hX:ig kn z J bx bv on.length K on cz bx bv J)(ahO:∀x∈K,x.1<J.length)(Eg:on.length+p.many*c<=256)
  (hy:∀w ew eC cZ dc h,ig kn z J bx bv w K ew eC cZ dc h->w+c<=256->jS G bB y [] h (PM kn z ew cZ dc h c)):
  cw G bB 215 [.mp kn 0,p.bA,y] J (PM kn z on bx bv J (p.many*c)):=by
 refine akS.go ?_;have p7:1<=p.many/\p.many<=20:=by
  unfold Fy;constructor<;>(split<;>(try split))<;>omega
 have c0:(cU kn 0).cells=[.mp kn 0]:=rfl;have c1:p.bA.cells=p.cells:=rfl;have awZ:∀(a),∀x∈K,x.1≠J.length+a:=λa x I=>by have:=ahO x I;omega
 have eA:ig kn z J bx bv on.length ((J.length+2,z9)::(J.length+1,p.cells)::(J.length,[cU kn 0])::K) on cz bx bv (J++[bw [cU kn 0] bf]++[bw p.cells bf]++[bw z9 bf]):=by
  have Y:=hX.new (Z:=[cU kn 0]);have V:=Y.new (Z:=p.cells);have h3:=V.new (Z:=z9);simpa[dQ] using h3
 have kS:(J++[bw [cU kn 0] bf]++[bw p.cells bf]++[bw z9 bf]).length=J.length+3:=af
 have CA:∀X:List br,X[J.length+1]?=a_ (.cells p.cells bf)->bz X bf 1 (.mp (J.length+1) 1)=a_ (.v (.int .i64 p.low))/\bz X bf 1 (.mp (J.length+1) 2)=a_ (.v (.int .i64 p.high)):=λX q=>by
  simp only[bz,q];exact⟨rfl,rfl⟩
 generalize hg:J++[bw [cU kn 0] bf]++[bw p.cells bf]++[bw z9 bf]=g at eA kS;have RI:=hg;unfold z9 at RI;refine eN (λe h=>e=[(2,y),(3,.mp J.length 0),(4,.mp (J.length+1) 0),(6,.mp (J.length+2) 0)]/\h=g) ?_ ?_;refine mI @ek.{0} @nM ?_;exact⟨trivial,trivial⟩;rintro e h ⟨rfl,rfl⟩;obtain⟨dl,aJ9⟩:=CA h (eA.get af);refine eN (λe h'=>e=[(2,y),(3,.mp J.length 0),(4,.mp (J.length+1) 0),(6,.mp (J.length+2) 0),(7,.v (.int .i64 p.high))]/\h'=h) ?_ ?_;exact wx tt;rintro e h' ⟨rfl,rfl⟩;have m0:qT bh [.v (.int .i64 p.low),.v (.int .i64 1)]=a_ (.v (.int .i64 (if(1:Int)>p.low then 1 else p.low))):=rfl;refine eN (λe h=>e=[(2,y),(3,.mp J.length 0),(4,.mp (J.length+1) 0),(6,.mp (J.length+2) 0),(7,bq p.many)]/\h=h') ?_ ?_;refine wy (cM (λq=>?_) λq=>?_);have q':p.high<0:=ak
 rw[cT.aDD q'] at m0;exact wx rt;rw[cT.aDF ak];exact wx rt;rintro e h ⟨rfl,rfl⟩;have kA:ig kn z J bx bv on.length ((J.length+3,b6 0 0 bh)::(J.length+2,z9)::(J.length+1,p.cells)::(J.length,[cU kn 0])::K) on cz bx bv (h++[bw (b6 0 0 bh) bf]):=by
  have:=eA.new (Z:=b6 0 0 bh)
  rwa [kS] at this
 have n0:=Kl h 0 0 bh;unfold z9 at n0;have amZ:bL _ 9 (.mp h.length 0) (.agg (b6 0 0 bh))=a_ (h++[bw (b6 0 0 bh) bf]):=n0;rw[kS] at amZ;generalize h++[bw (b6 0 0 bh) bf]=Y at kA amZ;refine eN (λe h=>e=[(2,y),(3,.mp J.length 0),(4,.mp (J.length+1) 0),(6,.mp (J.length+2) 0),(7,bq p.many),(8,.mp (J.length+3) 0)]/\h=Y) ?_ ?_;exact iD @WR tt;rintro e V ⟨rfl,rfl⟩;refine eN (λe h=>e=[(2,y),(3,.mp J.length 0),(4,.mp (J.length+1) 0),(6,.mp (J.length+2) 0),(7,bq p.many),(8,.mp (J.length+3) 0),(9,.bp)]/\h=V) ?_ ?_;exact wx tt;rintro e h3 ⟨rfl,rfl⟩;refine eN (λe h=>∃F E em rv rs ew eC cZ dc,e=[(3,.mp J.length 0),(6,.mp (J.length+2) 0),(8,.mp (J.length+3) 0),(9,rv)]/\LC kn z J bx bv p K p.many (on.length+p.many*c) F E em rv rs [] ew eC cZ dc h) ?_ ?_;refine wy ?_;refine c8 (λj e h=>∃F E em rv rs ew eC cZ dc,e=[(2,y),(3,.mp J.length 0),(4,.mp (J.length+1) 0),(6,.mp (J.length+2) 0),(7,bq p.many),(8,.mp (J.length+3) 0),(9,rv),(23,bq p.many),(24,bq j)]/\LC kn z J bx bv p K j (on.length+j*c) F E em rv rs [] ew eC cZ dc h) p.many ⟨0,0,bh,.bp,[],on,cz,bx,bv,rfl,by rw[Nat.zero_mul];exact kA,gm.zero _,gm.zero _,bD ⟨rfl,rfl⟩,af,af⟩ ?_ ?_;rintro j e h hj ⟨F,E,em,rv,rs,ew,eC,cZ,dc,rfl,hT⟩;have aip:on.length+j*c+c<=256:=by
  have:(j+1)*c<=p.many*c:=qh _ hj;rw[uF] at this;omega
 have WN:on.length+(j+1)*c=on.length+j*c+c:=by rw[uF];omega
 rw[WN];refine iO (λe h'=>e=[(2,y),(3,.mp J.length 0),(4,.mp (J.length+1) 0),(6,.mp (J.length+2) 0),(7,bq p.many),(8,.mp (J.length+3) 0),(9,rv),(23,bq p.many),(24,bq j),(25,bh)]/\h'=h) ?_ ?_;exact e6 @bq.eq_1 tt;rintro e h0 ⟨rfl,rfl⟩;refine iO (λe h'=>e=[(2,y),(3,.mp J.length 0),(4,.mp (J.length+1) 0),(6,.mp (J.length+2) 0),(7,bq p.many),(8,.mp (J.length+3) 0),(9,rv),(23,bq p.many),(24,bq j)]/\h'=h0) ?_ ?_;exact wx tt;rintro e h ⟨rfl,rfl⟩;refine eN (λe h=>∃F E em rv rs ew eC cZ dc,e=[(2,y),(3,.mp J.length 0),(4,.mp (J.length+1) 0),(6,.mp (J.length+2) 0),(7,bq p.many),(8,.mp (J.length+3) 0),(9,rv),(23,bq p.many),(24,bq j)]/\LC kn z J bx bv p K (j+1) (on.length+j*c+c) F E em rv rs [] ew eC cZ dc h) ?_ ?_;rw[C9];refine eN (λe h'=>e=[(2,y),(3,.mp J.length 0),(4,.mp (J.length+1) 0),(6,.mp (J.length+2) 0),(7,bq p.many),(8,.mp (J.length+3) 0),(9,rv),(10,bq j),(23,bq p.many),(24,bq j)]/\h'=h) ?_ ?_;exact wx tt;rintro e h0 ⟨rfl,rfl⟩;refine eN (λe h=>∃m gD f_ e2 ew eC cZ dc,e=[(2,y),(3,.mp J.length 0),(4,.mp (J.length+1) 0),(6,.mp (J.length+2) 0),(7,bq p.many),(8,.mp (J.length+3) 0),(9,rv),(10,bq j),(11,.mp m 0),(23,bq p.many),(24,bq j)]/\J.length+4<=m/\gm gD (on.length+j*c+c)/\gm f_ (on.length+j*c+c)/\LC kn z J bx bv p K j (on.length+j*c+c) F E em rv rs [(m,b6 gD f_ e2)] ew eC cZ dc h) ?_ ?_;refine wy (vw (hy _ _ _ _ _ _ (hT.s.sub (λx I=>aA)) aip) ?_);rintro _ g2 ⟨gD,f_,e2,oH,qV,ju,gS,rfl,jk,gu,t_,Xo,uY,lU⟩;have JR:oH.length=on.length+j*c+c:=by rw[t_,hT.s.len]
 have jY:=hT.s.move jk gu JR (by rw[Xo,JR]);have Ou:xo J.length g2 rv rs:=hT.r.keep λj c q=>gu.S8 hT.s.fI q af af;have l3:=(cK.1 (jY.get (j:=J.length+3) (Z:=b6 F E em) af)).1;have n2:=Kl g2 gD f_ e2;unfold z9 at n2;refine wy ?_;refine⟨g2.length,gD,f_,e2,oH,qV,ju,gS,rfl,aa,by rw[<-JR];exact uY,by rw[<-JR];exact lU,jY.new2,hT.f.mono aa,hT.e.mono aa,Ou.keep λj c q=>bS q,hT.rl,λx I=>⟨(hT.Kx x I).1.mono aa,(hT.Kx x I).2.mono aa⟩⟩;rintro e h5 ⟨m,gD,f_,e2,oH,qV,ju,gS,rfl,hm,uY,lU,sW⟩;refine eN (λe h=>∃eC,e=[(2,y),(3,.mp J.length 0),(4,.mp (J.length+1) 0),(6,.mp (J.length+2) 0),(7,bq p.many),(8,.mp (J.length+3) 0),(9,rv),(10,bq j),(11,.mp m 0),(23,bq p.many),(24,bq j)]/\LC kn z J bx bv p K j (on.length+j*c+c) F E em rv rs [(m,b6 gD f_ e2)] oH eC ju gS h) ?_ ?_;obtain⟨aKb,aJ_⟩:=CA h5 (sW.s.get af);have g3:=sW.s.get (j:=J.length) (Z:=[cU kn 0]) af;have Gv:=sW.s.get (j:=m) (Z:=b6 gD f_ e2) af;refine wy ?_;refine dn (λq=>?_) λq=>?_;refine cM (λbt=>?_) λbt=>?_;refine Da (ff g3) ((iM Gv).1) ((iM Gv).2.1) (cm (amt cE sW.s.fI f_ gD (λp J _=>by rw[sW.s.qa];exact lU p J)) ?_);rintro r h6 ⟨aw4,ahR⟩;refine wx ?_;exact⟨_,rfl,sW.s.move aw4 ahR sW.s.len (by rw[Hr];exact sW.s.qa),sW.f,sW.e,sW.r.keep λj c q=>ahR.S8 sW.s.fI q af af,sW.rl,sW.Kx⟩;refine wx ?_;exact⟨_,rfl,sW⟩;exact⟨_,rfl,sW⟩;rintro e h6 ⟨aeI,rfl,mT⟩;obtain⟨aKc,aKa⟩:=CA h6 (mT.s.get af);have g3:=mT.s.get (j:=J.length) (Z:=[cU kn 0]) af;have Gv:=mT.s.get (j:=m) (Z:=b6 gD f_ e2) af;have go:=mT.s.get (j:=J.length+3) (Z:=b6 F E em) af;refine wy (cM (λq=>?_) λq=>?_);refine wx (cm (Sg cE mT.s.fI F E gD f_ em e2 (λp J _=>by rw[mT.s.qa];exact mT.e p J)) ?_);rintro _ h7 ⟨rfl,aw5,ahS⟩;have Tz:=mT.s.move aw5 ahS mT.s.len (by rw[Hr];exact mT.s.qa);have ahy:=Tz.get (j:=J.length+3) (Z:=b6 F E em) af;have aLC:=Og ahy (if em then F|||gD else F) (if e2 then f_|||E else f_) (em&&e2);have ya:xo J.length h7 rv rs:=mT.r.keep λj c q=>ahS.S8 mT.s.fI q af af;refine wy ?_;refine⟨(if em then F|||gD else F),(if e2 then f_|||E else f_),(em&&e2),rv,rs,oH,qb aeI gD (AF E),ju,gS,rfl,(Tz.put (b6 (if em then F|||gD else F) (if e2 then f_|||E else f_) (em&&e2)) aa ?_).sub ?_,gm.ite (mT.f.or uY) mT.f,gm.ite (lU.or mT.e) lU,ya.keep λj c q=>?_,by have:=mT.rl;omega,mT.Kx⟩;intro x I;simp only[gB,gM,fo] at I
 rcases I with rfl|rfl|rfl|rfl|I
 dsimp only;omega;dsimp only;omega;dsimp only;omega;dsimp only;omega;exact awZ 3 x I;intro x I;simp only[gM,gB,fo] at I⊢
 rcases I with h|h|h|h|h<;>simp[h]
 rw[bE (by rintro rfl;rw[ahy] at q;cases q)];exact q;obtain⟨C2,h7,L8,ya,aCz,s7,NB⟩:=mT.r.push (by have:=mT.s.st.len;omega) (by have:=mT.rl;omega) gD f_ e2;have ab:e4 9 [kU gD f_ e2]=a_ (.sl [kU gD f_ e2] .exact):=rfl;refine mI @q ((iM Gv).2.2.2) ?_;refine⟨F,E,em,C2,_,oH,aeI,ju,gS,rfl,((mT.s.rest aCz s7 NB).sub ?_),mT.f,mT.e,ya,by have:=mT.rl;simp;omega,λx I=>?_⟩;intro x I;simp only[gM,gB,fo] at I⊢
 rcases I with h|h|h|h|h<;>simp[h]
 rcases fA.1 I with I|I
 exact mT.Kx x I;rw[dW.1 I];exact⟨uY,lU⟩;rintro e h ⟨F,E,em,rv,rs,ew,eC,cZ,dc,rfl,hT⟩;refine wy ?_;exact⟨F,E,em,rv,rs,ew,eC,cZ,dc,rfl,hT⟩;rintro e h ⟨F,E,em,rv,rs,ew,eC,cZ,dc,rfl,hT⟩;refine wy ?_;exact⟨F,E,em,rv,rs,ew,eC,cZ,dc,rfl,hT⟩;rintro e h4 ⟨F,E,em,rv,rs,aad,atp,aam,V2,rfl,hT⟩;have l3:=(cK.1 (hT.s.get (j:=J.length+3) (Z:=b6 F E em) af)).1;have n4:=Kl h4 0 0 bh;unfold z9 at n4;have am0:bL _ 9 (.mp h4.length 0) (.agg (b6 0 0 bh))=a_ (h4++[bw (b6 0 0 bh) bf]):=n4;have jY:=hT.s.new (Z:=b6 0 0 bh);have Ou:xo J.length (h4++[bw (b6 0 0 bh) bf]) rv rs:=hT.r.keep λj c q=>bS q;generalize Er:h4.length=m2 at am0 jY l3;generalize h4++[bw (b6 0 0 bh) bf]=h5 at jY Ou am0;refine eN (λe h=>e=[(3,.mp J.length 0),(6,.mp (J.length+2) 0),(8,.mp (J.length+3) 0),(9,rv),(12,.mp m2 0)]/\h=h5) ?_ ?_;exact iD @WR tt;rintro e h6 ⟨rfl,rfl⟩;refine eN (λe h=>∃eC tL tJ,e=[(3,.mp J.length 0),(6,.mp (J.length+2) 0),(8,.mp (J.length+3) 0),(12,.mp m2 0)]/\ig kn z J bx bv (on.length+p.many*c) ((m2,b6 tL tJ bh)::(J.length+3,b6 F E em)::(J.length+2,z9)::(J.length+1,p.cells)::(J.length,[cU kn 0])::K) aad eC aam V2 h/\gm tL (on.length+p.many*c)/\gm tJ (on.length+p.many*c)) ?_ ?_;refine wy (cm (atc Ou.sl h6) ?_);rintro _ g ⟨rfl,rfl⟩;refine wy ?_;rw[zR];refine⟨_,_,_,rfl,λk S bU ok hR=>?_⟩;have nH:=jY.new2 (Z:=[rv]);have Es:m2<h6.length:=(cK.1 (jY.get (Z:=b6 0 0 bh) af)).1;have kl:J.length<=k:=by
  rw[S];have:=jY.st.len;simp;omega
 refine cm (atd Ou.sl (by have:=hT.rl;omega) (Inv:=λi g=>∃eC tL tJ,ig kn z J bx bv (on.length+p.many*c) ((m2,b6 tL tJ bh)::(h6.length,[rv])::(J.length+3,b6 F E em)::(J.length+2,z9)::(J.length+1,p.cells)::(J.length,[cU kn 0])::K) aad eC aam V2 g/\gm tL (on.length+p.many*c)/\gm tJ (on.length+p.many*c)/\g[k]?=a_ (.b8 .ready bn bU #[60,61] ok)) (Stop:=λ_=>False) ?_ (λi g ⟨_,_,_,q,_⟩=>q.get af) ⟨atp,0,0,(nH.app (x:=marks bf)).app (x:=[pI .ready bn bU #[60,61] ok]),gm.zero _,gm.zero _,(by rw[S];simp)⟩) ?_;rintro i x g ⟨eC,tL,tJ,hs,hF,hE,Cm⟩ I;refine hR [_,_] g _ rfl ⟨bn,Cm⟩ ?_;have se:ux [(3,cU J.length 0),(6,cU (J.length+2) 0),(8,cU (J.length+3) 0),(12,cU m2 0),(59,bg.fn (uD 297) [] [cU h6.length 0])] (List.zip [60,61] [i,kU x.1 x.2.1 x.2.2])=[(61,kU x.1 x.2.1 x.2.2),(60,i),(3,cU J.length 0),(6,cU (J.length+2) 0),(8,cU (J.length+3) 0),(12,cU m2 0),(59,bg.fn (uD 297) [] [cU h6.length 0])]:=rfl;rw[se];have EX:=Kl g x.1 x.2.1 x.2.2;unfold z9 at EX;refine e6 @EX ?_;have X6:(g++[bw (b6 x.1 x.2.1 x.2.2) bf])[k]?=a_ (.b8 .ready bn bU #[60,61] ok):=bS Cm;refine⟨⟨bn,X6⟩,λfW=>?_⟩;have kH:m2<g.length:=(cK.1 (hs.get (Z:=b6 tL tJ bh) af)).1;have uw:=(hs.new2).abb (b':=.b8 .busy fW bU #[60,61] ok) X6 af af kl;have js:((g++[bw (b6 x.1 x.2.1 x.2.2) bf]).set k (.b8 .busy fW bU #[60,61] ok))[k]?=a_ (.b8 .busy fW bU #[60,61] ok):=bT (gl X6);have g3:=uw.get (j:=J.length) (Z:=[cU kn 0]) af;have gt:=uw.get (j:=m2) (Z:=b6 tL tJ bh) af;obtain⟨X1,hi2⟩:=hT.Kx x (cv I);refine jB (ff g3) ((iM (uw.get (j:=g.length) (Z:=b6 x.1 x.2.1 x.2.2) af)).2.2.2) ((iM gt).2.2.2) (cm (Sg cE uw.fI x.1 x.2.1 tL tJ x.2.2 bh (λp J _=>by rw[uw.qa];exact hi2 p J)) ?_);rintro r g5 ⟨D,MF,AZ⟩;obtain⟨A,B,vD,rfl,hA,hB⟩:∃A B vD,r=kU A B vD/\gm A (on.length+p.many*c)/\gm B (on.length+p.many*c):=⟨_,_,_,D,gm.ite (X1.or hF) X1,gm.ite (hE.or hi2) hE⟩;have X8:=AZ.S8 uw.fI js af af;have oJ:=uw.move MF AZ uw.len (by rw[Hr];exact uw.qa);have Xf:=oJ.get (j:=m2) (Z:=b6 tL tJ bh) af;have JC:m2≠k:=by rintro rfl;rw[X8] at Xf;cases Xf
 have bP:∀x'∈(g.length,b6 x.1 x.2.1 x.2.2)::(h6.length,[rv])::(J.length+3,b6 F E em)::(J.length+2,z9)::(J.length+1,p.cells)::(J.length,[cU kn 0])::K,x'.1≠m2:=by
  intro x' hx';simp only[fo] at hx'
  rcases hx' with rfl|rfl|rfl|rfl|rfl|rfl|hx'
  dsimp only;omega;dsimp only;omega;dsimp only;omega;dsimp only;omega;dsimp only;omega;dsimp only;omega;have:=ahO x' hx';omega
 have aHu:=Og Xf A B vD;have wI:=oJ.put (b6 A B vD) aa bP;have aHs:=anY (wI.get (j:=m2) (Z:=b6 A B vD) af) bh;refine nc @aHu @aHs ?_;have RP:((g5.set m2 (.cells (b6 A B vD) bf)).set m2 (.cells (b6 A B bh) bf))[k]?=a_ (.b8 .busy fW bU #[60,61] ok):=by
  rw[bE JC,bE JC];exact X8
 show(∃st pd,_=_)/\_;refine⟨⟨.busy,fW,RP⟩,bh,rfl,λ_=>⟨_,A,B,((wI.put (b6 A B bh) aa bP).abb RP af af kl).sub ?_,hA,hB,bT (gl RP)⟩,λq=>av⟩;intro x' hx';simp only[fo] at hx'⊢
 rcases hx' with h|h|h|h|h|h|h<;>simp[h]
 rintro r g ⟨rfl,⟨eC,tL,tJ,hs,hF,hE,Cm⟩|hf⟩;refine⟨.ready,bn,Cm,ag,?_⟩;refine e6 @zj.eq_1 ?_;refine⟨eC,tL,tJ,trivial,(hs.abb Cm af af kl).sub ?_,hF,hE⟩;intro x' hx';simp only[fo] at hx'⊢
 rcases hx' with h|h|h|h|h|h<;>simp[h]
 exact hf.elim;rintro e h7 ⟨aJQ,tL,tJ,rfl,hs,hF,hE⟩;have g3:=hs.get (j:=J.length) (Z:=[cU kn 0]) af;have gt:=hs.get (j:=m2) (Z:=b6 tL tJ bh) af;have go:=hs.get (j:=J.length+3) (Z:=b6 F E em) af;refine wx (cm (Sg cE hs.fI F E tL tJ em bh (λp J _=>by rw[hs.qa];exact hT.e p J)) ?_);rintro r h8 ⟨D,aw6,Xs⟩;obtain⟨A,B,vD,rfl,hA,hB⟩:∃A B vD,r=kU A B vD/\gm A (on.length+p.many*c)/\gm B (on.length+p.many*c):=⟨_,_,_,D,gm.ite (hT.f.or hF) hT.f,gm.ite (hE.or hT.e) hE⟩;have uw:=hs.move aw6 Xs hs.len (by rw[Hr];exact hs.qa);have aHt:=x9 (uw.get (j:=J.length+2) (Z:=z9) af) A B vD;refine e6 @aHt ?_;rw[BB];intro h9 he;have wI:=((uw.sub (K':=[(J.length+2,z9)]) af).put (b6 A B vD) aa af).fin he;have xZ:=(iM (wI.get (j:=J.length+2) (Z:=b6 A B vD) af)).2.2.2;refine e6 @xZ ?_;exact⟨A,B,vD,aad,_,aam,V2,rfl,wI.fI,wI.st,wI.len,by rw[wI.qa,wI.len],by rw[wI.len];exact hA,by rw[wI.len];exact hB⟩
end
end
section
variable{G:Cells}{O:List br}{kn:Nat}{z:List bg}{mv v:bg}{ps:List cT}
def aCH(cE:gk G)(h:tM v ps)(hM:Dv G O mv){i:Nat}{p}(eL:ps[i]?=a_ p)(xO:p.kind=4)(ih:∀x∈p.kids,FP G O kn z v mv ps x):FP G O kn z v mv ps (i):=by
 intro on cz bx bv J hX GB c7 Eg;have p9:=h.no p (cv eL);have T:=Wk h.ok eL;have sZ:0<=p.low/\p.low<=20/\(p.high= -1\/(1<=p.high/\p.high<=20))/\p.kids.length=1:=by
  rcases(h.ok i p eL).1 with z|z|z
  omega;omega;omega
 obtain⟨x,zd⟩:=FD.1 sZ.2.2.2;rw[if_neg aa,if_pos xO,zd] at T;simp only[fc,kM,Aa,Iu,sx] at T;refine ajB.go ?_;have e7:=gl hX.b
 have vQ:∀x:bg,cu x=bh->x.cells=[x]:=λx I=>aM1
 have c0:(cU kn 0).cells=[.mp kn 0]:=rfl
 have c1:v.cells=[v]:=aMe
 have c2:mv.cells=[mv]:=vQ mv hM.one;have e1:ct 5 v i=a_ (.fp p.cells 0):=h.v.cB (x:=p.bA) aM3 rfl;have e2:∀J,bz J bh 5 (.fp p.cells 0)=a_ (.agg p.cells):=λJ=>rfl;have s1:=zL (J++[bw [cU kn 0] bf]++[bw [v] bf]++[bw [mv] bf]++[bw z9 bf]) p;have lv:bz (J++[bw [cU kn 0] bf]++[bw [v] bf]++[bw [mv] bf]++[bw z9 bf]) bf 1 (.mp (J.length+1) 0)=a_ v:=ff aMb;have nG:ig kn z J bx bv on.length [] on cz bx bv J:=⟨hX,gP.refl _ _ _ _,rfl,c7,λx I=>by cases I⟩;have jY:ig kn z J bx bv on.length [(J.length+4,p.cells),(J.length+3,z9),(J.length+2,[mv]),(J.length+1,[v]),(J.length,[cU kn 0])] on cz bx bv (J++[bw [cU kn 0] bf]++[bw [v] bf]++[bw [mv] bf]++[bw z9 bf]++[bw p.cells bf]):=by
  simpa[dQ] using(((((nG.new (Z:=[cU kn 0])).new (Z:=[v])).new (Z:=[mv])).new (Z:=z9)).new (Z:=p.cells))
 have kS:(J++[bw [cU kn 0] bf]++[bw [v] bf]++[bw [mv] bf]++[bw z9 bf]++[bw p.cells bf]).length=J.length+5:=af
 generalize J++[bw [cU kn 0] bf]++[bw [v] bf]++[bw [mv] bf]++[bw z9 bf]++[bw p.cells bf]=g at s1 jY kS;have lk:(J++[bw [cU kn 0] bf]++[bw [v] bf]++[bw [mv] bf]++[bw z9 bf]).length=J.length+4:=af
 rw[lk] at s1;unfold z9 at s1 lv;have CA:bz g bf 1 (.mp (J.length+4) 0)=a_ (.v (.int .i64 4))/\bz g bh 5 (.mp (J.length+4) 0)=a_ p.bA:=by
  simp only[bz,jY.get (j:=J.length+4) (Z:=p.cells) af];rw[<-xO];exact⟨rfl,rfl⟩
 refine aI6 @ek.{0} @nM @CA.1 @CA.2 (ff (jY.get (j:=J.length) (Z:=[cU kn 0]) af)) ?_;have nH:ig kn z g bx bv on.length [(J.length+4,p.cells),(J.length+3,z9),(J.length+2,[mv]),(J.length+1,[v]),(J.length,[cU kn 0])] on cz bx bv g:=⟨jY.fI,gP.refl _ _ _ _,jY.len,jY.qa,jY.keep⟩;refine cm (aIc cE ⟨sZ.1,sZ.2.1,sZ.2.2.1⟩ nH (λx I=>(cK.1 (nH.keep x I).2).1) (c:=cnt ps x) aa ?_) ?_;intro w ew eC cZ dc h' s hw;show jS G bB (.fn (.func 216) [] [.mp J.length 0,.mp (J.length+1) 0,.mp (J.length+4) 0,.mp (J.length+2) 0]) [] h' _;have:=asF zd (ih x (by rw[zd];simp)) s.fI ((GB.step jY.st).step s.st) (by rw[s.qa,s.len]) (by rw[s.len];exact hw) (s.get (j:=J.length) af) (s.get (j:=J.length+1) af) (s.get (j:=J.length+4) af) (s.get (j:=J.length+2) af);simpa[jS] using this;rintro _ g2 ⟨F,E,e,oH,qV,ju,gS,rfl,hN,hS,hL,t_,hF,hE⟩;have ld:=hS.rq jY.fI (jY.get (j:=J.length+3) (Z:=z9) af) aa;have oJ:=x9 ld F E e;have xZ:=(iM (bT (a:=.cells (b6 F E e) bf) (gl ld))).2.2.2;refine nc @oJ @xZ ?_;exact⟨F,E,e,oH,qV,ju,gS,rfl,hN.iy ld aa,(jY.st.trans hS).iy aa,by rw[T];exact hL,t_,hF,hE⟩
def asI(cE:gk G)(h:tM v ps)(hM:Dv G O mv):∀(n i),i<n->i<ps.length->FP G O kn z v mv ps (i):=by
 intro n
 induction n with
 |zero=>intro i Q;omega
 |succ n ih=>
  intro i Q hl;obtain⟨p,J⟩:=cO hl;have S:∀x∈p.kids,FP G O kn z v mv ps x:=λx I=>by
   obtain⟨x0,x1⟩:=(h.ok i p J).2 x I;obtain⟨xn,rfl⟩:=pJ x0;exact ih xn aa aa
  by_cases q:p.kind=4;exact aCH cE h hM J q S;exact aCG cE h hM J q S
end
section
variable{v:bg}{l:List Nat}
def afp:∀(l) (pre),sM 4 (pre++fK l) pre.length l.length=l.map cg
 |[],pre=>rfl
 |B::l,pre=>by
  have ih:=afp l (pre++bX B);rw[dQ,ek,F4] at ih;show dG (((pre++(bX B++fK l)).drop pre.length).take 4)::sM 4 (pre++(bX B++fK l)) (pre.length+4) l.length=_;rw[ih,List.drop_left' rfl,Pr (F4 B)];rfl
def eg(bx bv:bg)(F E:Nat)(e:Bool):List bg:=[bx,bv,ec (wd F 0),ec (wd F 1),ec (wd F 2),ec (wd F 3),ec (wd E 0),ec (wd E 1),ec (wd E 2),ec (wd E 3),e]
def Lp(r:bg):Prop:=∃(on cz:List Nat) (bx bv:bg) (F E:Nat) (e:Bool),r=.fp (eg bx bv F E e) 0/\cD bx (on.map cg)/\cD bv (cz.map cg)/\on.length<=256/\cz.length=on.length
def Vf(r:bg):Prop:=∃(x:bg) (e:Int),r=.bQ [x,bq e]/\((e=0/\Lp x)\/(e≠0/\x=.v (.pointer bn)))
def avQ{J}{n}{kn}{bx bv}{on cz:List Nat}{F E}{e}(O:J[kn]?=a_ (.cells (eg bx bv F E e) bf))(ho:de J bx (on.map cg) 4 152)(D:yL J bv cz)(S:n<=kn)(JN:∀j,rowAt bv j->n<=j)(hl:on.length<=256)(js:cz.length=on.length):
  ∃bR,b_ (oC n J) (.mp kn 0) bR/\Lp bR:=by
 have mk:∀(j) b,n<=j->J[j]?=a_ b->(oC n J)[j]?=a_ b:=λj b hj q=>by
  unfold oC;rw[gh (by simpa using hj)];simp only[List.length_replicate,tE];rw[<-q];congr 1;omega
 obtain⟨cZ,Y,V⟩:∃cZ,b_ (oC n J) bx cZ/\cD cZ (on.map cg):=by
  rcases ho with⟨rfl,z⟩|⟨id,rfl,_⟩
  exact⟨_,eB,bF ⟨rfl,z⟩⟩;exact⟨_,hD (iE λB _=>y5 _ B),bD rfl⟩
 obtain⟨dc,h3,h4⟩:∃dc,b_ (oC n J) bv dc/\cD dc (cz.map cg):=by
  rcases D with⟨rfl,z⟩|⟨k,rfl,iT⟩
  exact⟨_,eB,bF ⟨rfl,by rw[z];rfl⟩⟩;have fl:∀l:List Nat,fC (oC n J) (fK l) (fK l):=λl=>by
   induction l with
   |nil=>exact c_
   |cons B l ih=>exact BO (bG (bH _) (bG (bH _) (bG (bH _) (bG (bH _) c_)))) ih
  have:=b_.rs (o:=0) (sz:=4) (len:=cz.length) (mk k _ (JN k ⟨_,_,rfl⟩) iT) rfl (fl cz);have e:=afp cz [];rw[gM] at e;rw[show([]:List bg).length=0 from rfl] at e;rw[e] at this;exact⟨_,this,bD rfl⟩
 exact⟨.fp (eg cZ dc F E e) 0,b_.mp (mk _ _ S O) (bG Y (bG h3 (bG (bH _) (bG (bH _) (bG (bH _) (bG (bH _) (bG (bH _) (bG (bH _) (bG (bH _) (bG (bH _) (bG (bH _) c_))))))))))),on,cz,cZ,dc,F,E,e,rfl,V,h4,hl,js⟩
section
variable{X:List br}{kn F E:Nat}{bx bv:bg}{e:Bool}
@[go_sem]def ana(h:X[kn]?=a_ (.cells (eg bx bv F E e) bf))(F'):bL X 4 (.mp kn 2) (cg F')=a_ (X.set kn (.cells (eg bx bv F' E e) bf)):=by
 simp only[bL,h];rfl
@[go_sem]def anb(h:X[kn]?=a_ (.cells (eg bx bv F E e) bf))(E'):bL X 4 (.mp kn 6) (cg E')=a_ (X.set kn (.cells (eg bx bv F E' e) bf)):=by
 simp only[bL,h];rfl
@[go_sem]def am_(h:X[kn]?=a_ (.cells (eg bx bv F E e) bf))(e':Bool):bL X 1 (.mp kn 10) e'=a_ (X.set kn (.cells (eg bx bv F E e') bf)):=by
 simp only[bL,h];rfl
end
def aEf{G}(cE:gk G){O}{mv}{ps}(h:tM v ps)(hM:Dv G O mv)(ox:∀neg,kR .Rb neg mv (.v .nilFunc)=a_ (.v (.bool neg))):
  cw G bB 78 [v,mv] O λr bl=>Vf r/\bl=O:=by
 refine cw.Wh (ajN.go ?_)
 have vQ:∀x:bg,cu x=bh->x.cells=[x]:=λx I=>aM1
 have c2:mv.cells=[mv]:=vQ mv hM.one;have ln:=h.v.cG;rw[cS] at ln;have c7:=h.len;have k0:(O++[bw [mv] bf])[O.length]?=a_ (.cells [mv] bf):=af
 have SW:∀{j} {P:Prop},rowAt .bp j->P:=λ⟨_,_,q⟩=>av
 have anu:∀{j} {P:Prop},BG .bp j->P:=λ⟨_,q⟩=>av
 have ahA:∀(bl) (kn) (on cz:List Nat) (F E) (e) (bx bv),bl[kn]?=a_ (.cells (eg bx bv F E e) bf)->de bl bx (on.map cg) 4 152->yL bl bv cz->O.length<=kn->(∀j,rowAt bv j->O.length<=j)->on.length<=256->cz.length=on.length->Ext O bl->
   (∃l,bl=O++l)/\∃n bR,dh (oC O.length bl) n (.bQ [.mp kn 0,.v (.int .i64 0)])=a_ bR/\Vf bR:=λbl kn on cz F E e bx bv Y V h3 h4 h5 h6 h7 h8=>by
  obtain⟨bR,hz,hq⟩:=avQ Y V h3 h4 h5 h6 h7;obtain⟨n,hn⟩:=(fy (bG hz (bG (bH (.int .i64 0)) c_))).done;exact⟨h8.split,n,_,hn,_,0,rfl,bD ⟨rfl,hq⟩⟩
 have bad:∀(e) (l),e≠0->(∃l',O++l=O++l')/\∃n bR,dh (oC O.length (O++l)) n (.bQ [.v (.pointer bn),.v (.int .i64 e)])=a_ bR/\Vf bR:=λe l he=>by
  obtain⟨n,hn⟩:=(fy (bG (bH (.pointer bn)) (bG (bH (.int .i64 e)) c_)):b_ (oC O.length (O++l)) _ _).done;exact⟨⟨l,rfl⟩,n,_,hn,_,e,rfl,bF ⟨he,rfl⟩⟩
 refine wy (jE (aoz cE h) (bY (Ga h) dw) ?_);rintro r ⟨b,rfl,iC⟩;cases b with
 |false=>
  exact fJ (bad 1 _ ag)
 |true=>
  refine wy (jE (am3 h) (bY (Ga h) dw) ?_);rintro r ⟨l,hl1,js,s0⟩;refine wy (cm (asT hM hl1 aa s0 k0 λj b q=>bS q) ?_);rintro r g ⟨⟨b,rfl⟩,x,rfl⟩;cases b with
  |true=>
   refine wy ?_;rw[dQ];exact bad 6 _ ag
  |false=>
   refine wy (cM (λq=>?_) λq=>?_);have NH:(O++[bw [mv] bf]++x++[bw (eg .bp .bp 0 0 bh) bf])[(O++[bw [mv] bf]++x).length]?=a_ (.cells (eg .bp .bp 0 0 bh) bf):=af
   exact wy (ahA _ _ [] [] _ _ _ _ _ NH (bD ⟨rfl,rfl⟩) (bD ⟨rfl,rfl⟩) (by rw[dQ,ek];omega) (λj z=>SW z) ag rfl ((mg.qU).qU));have rZ:0<ps.length:=Is.2 λe=>by rw[e] at q;cases q
   refine wy (ic (aE3 h _ (ps.length-1) (yB _) aa) (bY (Ga h) (bY (dD _) dw)) ?_);refine wy (cM (λbt=>?_) λbt=>?_);refine wy ?_;rw[dQ];exact bad 7 _ ag;have T:cnt ps ((ps.length-1:Nat):Int)<=256:=aMR
   have fb:dN [.bp,.bp,.v (.int .u64 0),.v (.int .u64 0),.v (.int .u64 0),.v (.int .u64 0),.v (.int .u64 0),.v (.int .u64 0),.v (.int .u64 0),.v (.int .u64 0),bf] []=a_ (eg .bp .bp 0 0 bf):=by
    have:eg .bp .bp 0 0 bf=[.bp,.bp,.v (.int .u64 0),.v (.int .u64 0),.v (.int .u64 0),.v (.int .u64 0),.v (.int .u64 0),.v (.int .u64 0),.v (.int .u64 0),.v (.int .u64 0),.v (.bool bf)]:=by simp[eg,ec,wd]
    rw[this];rfl
   have Be:O.length<=(O++[bw [mv] bf]++x).length:=by rw[dQ,ek];omega
   have NH:(O++[bw [mv] bf]++x++[bw (eg .bp .bp 0 0 bf) bf])[(O++[bw [mv] bf]++x).length]?=a_ (.cells (eg .bp .bp 0 0 bf) bf):=af
   have k1:(O++[bw [mv] bf]++x++[bw (eg .bp .bp 0 0 bf) bf])[O.length]?=a_ (.cells [mv] bf):=bS (bS k0);have o6:Ext O (O++[bw [mv] bf]++x++[bw (eg .bp .bp 0 0 bf) bf]):=(mg.qU).qU;refine wy ?_;generalize(O++[bw [mv] bf]++x).length=kn at Be NH;generalize O++[bw [mv] bf]++x++[bw (eg .bp .bp 0 0 bf) bf]=gG at NH k1 o6;refine wy (cm (asI cE h hM _ (ps.length-1) (yB _) aa [] [] .bp .bp _ (⟨NH,bD ⟨rfl,rfl⟩,bD ⟨rfl,rfl⟩⟩) (⟨o6,Be,λj z=>SW z,λj z=>anu z,o6.len⟩) rfl (by simpa using T)) ?_);rintro _ g2 ⟨F,E,e,oH,qV,ju,gS,rfl,hN,hS,hL,t_,hF,hE⟩;have n2:=Kl g2 F E e;unfold z9 at n2;have xW:(g2++[bw (b6 F E e) bf])[kn]?=a_ (.cells (eg ju gS 0 0 bf) bf):=bS hN.b;have kp:(g2++[bw (b6 F E e) bf])[g2.length]?=a_ (.cells (b6 F E e) bf):=af
   have e7:=gl hN.b;have lU:Ext O (g2++[bw (b6 F E e) bf]):=λj b q=>bS (hS.keep j b (o6 j b q) (by have:=(gl q);omega) (λz=>SW z) λz=>anu z);have JN:∀j,rowAt gS j->O.length<=j:=λj z=>by
    rcases hS.row j z with y|y
    exact SW y;have:=o6.len;omega
   have Cj:de (g2++[bw (b6 F E e) bf]) ju (oH.map cg) 4 152:=hN.on.ext;have hR:yL (g2++[bw (b6 F E e) bf]) gS qV:=(hN.app).cz;refine rF ?_;generalize axO:g2.length=Gv at kp e7;generalize g2++[bw (b6 F E e) bf]=X at xW kp lU Cj hR;have s2:=ana xW F;have alV:=bT (a:=.cells (eg ju gS F 0 bf) bf) (gl xW);have Za:(X.set kn (.cells (eg ju gS F 0 bf) bf))[Gv]?=a_ (.cells (b6 F E e) bf):=by rw[bE aa];exact kp
   have nH:=anb alV E;have alW:=bT (a:=.cells (eg ju gS F E bf) bf) (gl alV);have aCp:((X.set kn (.cells (eg ju gS F 0 bf) bf)).set kn (.cells (eg ju gS F E bf) bf))[Gv]?=a_ (.cells (b6 F E e) bf):=by rw[bE aa];exact Za
   have wI:=am_ alW e;have alX:=bT (a:=.cells (eg ju gS F E e) bf) (gl alW);refine BI (eI ((iM kp).1) ((iM kp).2.1) ((iM kp).2.2.1) @s2) ((iM Za).2.1) ((iM Za).2.2.1) @nH ((iM aCp).2.2.1) @wI @ru ?_;rw[arE,arE] at alX⊢;refine ahA _ kn oH qV F E e ju gS alX ?_ ?_ Be JN (by rw[hL];simpa using T) t_ λj b q=>?_
   rcases Cj with y|⟨id,y1,fR⟩
   exact bD y;exact bF ⟨id,y1,by rw[bE (by rintro rfl;rw[xW] at fR;cases fR)];exact fR⟩
   rcases hR with y|⟨id,y1,fR⟩
   exact bD y;exact bF ⟨id,y1,by rw[bE (by rintro rfl;rw[xW] at fR;simp at fR)];exact fR⟩;rw[bE (by have:=(gl q);omega)];exact lU j b q
section
variable{G:Cells}{bx bv:bg}{F E:Nat}{e:Bool}
def Ww:cV G bB 145 [.fp (eg bx bv F E e) 0] e:=by
 refine eM (akj.go ?_);have l1:∀J,bz J bf 1 (.fp (eg bx bv F E e) 10)=a_ (.v (.bool e)):=λJ=>rfl;exact wy ((bH _).done)
def avw:cV G bB 147 [.fp (eg bx bv F E e) 0] (cg F):=by
 refine eM (akl.go ?_);have l1:∀J,bz J bh 4 (.fp (eg bx bv F E e) 2)=a_ (cg F):=λJ=>rfl;have s1:bL [bw [.v (.int .u64 0),.v (.int .u64 0),.v (.int .u64 0),.v (.int .u64 0)] bf] 4 (.mp 0 0) (cg F)=a_ [bw (bX F) bf]:=rfl;have l2:bz [bw (bX F) bf] bh 4 (.mp 0 0)=a_ (cg F):=rfl;exact wy ((y5 _ F).done)
def au4:cV G bB 273 [.fp (eg bx bv F E e) 0] (cg E):=by
 refine eM (alj.go ?_);have l1:∀J,bz J bh 4 (.fp (eg bx bv F E e) 6)=a_ (cg E):=λJ=>rfl;have s1:bL [bw [.v (.int .u64 0),.v (.int .u64 0),.v (.int .u64 0),.v (.int .u64 0)] bf] 4 (.mp 0 0) (cg E)=a_ [bw (bX E) bf]:=rfl;have l2:bz [bw (bX E) bf] bh 4 (.mp 0 0)=a_ (cg E):=rfl;exact wy ((y5 _ E).done)
def aez(hv:cD v (l.map cg))(hl:l.length<=100000)(i:Nat):cV G bB 220 [v,i] (cg (l[i]?.getD 0)):=by
 refine eM (akX.go ?_);have ln:=hv.cG;rw[cS] at ln;have c0:decide ((i:Int)<0)=bf:=af
 have s1:∀B,bL [bw [.v (.int .u64 0),.v (.int .u64 0),.v (.int .u64 0),.v (.int .u64 0)] bf] 4 (.mp 0 0) (cg B)=a_ [bw (bX B) bf]:=λB=>rfl;have l2:∀B,bz [bw (bX B) bf] bh 4 (.mp 0 0)=a_ (cg B):=λB=>rfl;refine wy (cM (λq=>?_) λq=>?_);have Q:l[i]?=bn:=j4 aq;rw[Q];exact wy ((y5 _ 0).done);obtain⟨B,hB⟩:∃B,l[i]?=a_ B:=⟨l[i]' aq,cy _⟩;have e1:ct 4 v i=a_ (.fp (bX B) 0):=hv.cB (x:=cg B) (by simp[hB]) rfl;have e2:∀J,bz J bh 4 (.fp (bX B) 0)=a_ (cg B):=λJ=>rfl;rw[hB];exact wy ((y5 _ B).done)
def Qu(h:cD v (l.map cg)):eY v:=by
 rcases h with rfl|⟨rfl,_⟩
 refine k4 λx I c T=>?_;obtain⟨B,_,rfl⟩:=dV.1 I;have:c∈bX B:=T;simp only[bX,fo,pM,or_false] at this
 rcases this with rfl|rfl|rfl|rfl<;>exact dD _
 exact Ge (n:=1) rfl
def aEF(hv:cD bx (l.map cg))(hl:l.length<=100000)(i:Nat):cV G bB 218 [.fp (eg bx bv F E e) 0,i] (cg (l[i]?.getD 0)):=by
 refine eM (akV.go ?_);have l1:∀J,bz J bf 1 (.fp (eg bx bv F E e) 0)=a_ bx:=λJ=>rfl;have s1:∀B,bL [bw [.v (.int .u64 0),.v (.int .u64 0),.v (.int .u64 0),.v (.int .u64 0)] bf] 4 (.mp 0 0) (cg B)=a_ [bw (bX B) bf]:=λB=>rfl;have l2:∀B,bz [bw (bX B) bf] bh 4 (.mp 0 0)=a_ (cg B):=λB=>rfl;refine wy (ic (aez hv hl i) (bY (Qu hv) (bY (dD _) dw)) ?_);exact wy ((y5 _ _).done)
def atj(hv:cD bv (l.map cg))(hl:l.length<=100000)(i:Nat):cV G bB 148 [.fp (eg bx bv F E e) 0,i] (cg (l[i]?.getD 0)):=by
 refine eM (akm.go ?_);have l1:∀J,bz J bf 1 (.fp (eg bx bv F E e) 1)=a_ bv:=λJ=>rfl;have s1:∀B,bL [bw [.v (.int .u64 0),.v (.int .u64 0),.v (.int .u64 0),.v (.int .u64 0)] bf] 4 (.mp 0 0) (cg B)=a_ [bw (bX B) bf]:=λB=>rfl;have l2:∀B,bz [bw (bX B) bf] bh 4 (.mp 0 0)=a_ (cg B):=λB=>rfl;refine wy (ic (aez hv hl i) (bY (Qu hv) (bY (dD _) dw)) ?_);exact wy ((y5 _ _).done)
end
end
section
variable{es:List (bg×bg×Nat)}{N cH k:Nat}{J:List br}
def Ah(es:List (bg×bg×Nat))(N:Nat):Prop:=∀e∈es,∃B n:Nat,e.1=cg B/\e.2.1=bq (n:Int)/\n<N
def Ah.mono{N'}(h:Ah es N)(hn:N<=N'):Ah es N':=λe he=>by
 obtain⟨B,n,Y,V,h3⟩:=h e he;exact⟨B,n,Y,V,aa⟩
def WD(A B):∃b:Bool,fj [.i,.i,.i,.i] (cg A).cells (cg B).cells=a_ b:=agh ..
def ZA(A):∀{es} (i),Ah es N->ri [.i,.i,.i,.i] (cg A).cells es i=a_ bn\/∃j n:Nat,ri [.i,.i,.i,.i] (cg A).cells es i=a_ (a_ (j,bq (n)))/\n<N
 |[],i,_=>bD rfl
 |e::r,i,h=>by
  obtain⟨B,n,Y,V,h3⟩:=h e (wZ ..);obtain⟨b,O⟩:=WD A B;unfold ri;rw[Y,O];cases b with
  |true=>exact bF ⟨i,n,by rw[V],h3⟩
  |false=>exact(ZA A (es:=r) (i+1) λx I=>h x (sw _ I))
def amL(h:Ah es N):EM bh [.i,.i,.i,.i] es=bh:=by
 unfold EM;rw[eJ];intro e he;obtain⟨B,n,Y,_⟩:=h e he;rw[Y];rfl
def aDH(S:J[k]?=a_ (.eT es cH))(h:Ah es N)(A):
  ∃(n:Int) (b:Bool),xu J bh [.i,.i,.i,.i] (0:Int) bh (.gq k) (cg A)=a_ (.bQ [n,b])/\(b=bh->0<=n/\n<(N)):=by
 unfold xu s9;simp only[S];rw[if_pos ⟨rfl,amL h⟩]
 rcases ZA A 0 h with q|⟨j,n,q,hn⟩
 rw[q];exact⟨0,bf,rfl,λq=>av⟩;rw[q];exact⟨n,bh,rfl,λ_=>⟨aa,aa⟩⟩
def aDI(S:J[k]?=a_ (.eT es cH))(h:Ah es N)(A n)(hn:n<N):
  ∃mS ny,yS J bh [.i,.i,.i,.i] (.gq k) (cg A) n=a_ (J.set k (.eT mS ny))/\Ah mS N:=by
 unfold yS s9;simp only[S];rw[if_pos ⟨rfl,amL h⟩]
 rcases ZA A 0 h with q|⟨j,m,q,hm⟩
 rw[q];refine⟨_,_,rfl,λe he=>?_⟩
 rcases fA.1 he with he|he
 exact h e he;rw[dW.1 he];exact⟨A,n,rfl,rfl,hn⟩;rw[q];refine⟨_,_,rfl,λe he=>?_⟩;rw[Pq] at he;obtain⟨i,Q⟩:=he;rw[List.getElem?_modify] at Q;cases V:es[i]? with
 |none=>rw[V] at Q;simp at Q
 |some e0=>
  rw[V] at Q;simp only[Option.map_eq_map,kf,nj] at Q;split at Q;subst Q;exact⟨A,n,rfl,rfl,hn⟩;subst Q;exact h _ (cv V)
end
section
variable{x:List bg}{k km kp bZ kt:Nat}{a J:List br}{b b':br}
def yN(x:List bg):Prop:=∃(l:List Int) (b:Bool),x=l.map bq++[.v (.bool b)]/\l.length=32
def yN.len(h:yN x):x.length=33/\x.all cu=bh:=by
 obtain⟨l,b,rfl,hl⟩:=h;refine⟨by simp[hl],?_⟩;rw[eJ];intro y hy
 rcases fA.1 hy with hy|hy
 obtain⟨n,_,rfl⟩:=dV.1 hy;rfl;rw[dW.1 hy];rfl
def yN.put(h:yN x){o}(ho:o<32)(n):yN (d_ x o [bq n]):=by
 obtain⟨l,b,rfl,hl⟩:=h;refine⟨l.set o n,b,?_,by simp[hl]⟩;apply FB;intro i;rw[aaD ah];simp only[qg]
 rcases Nat.lt_trichotomy i o with q|q|q
 rw[if_pos q,fY ah,fY ah,e9,e9,bE aa];subst q;rw[if_neg aa,if_pos aa,fY ah,e9,bT aa];simp;rw[if_neg aa,if_neg aa]
 rcases er i 32 with bt|bt
 rw[fY ah,fY ah,e9,e9,bE aa];rw[gh ah,gh ah];simp
structure ie(km kt kp bZ:Nat)(ef:bg)(b5:List Nat)(sv cJ:bg)(rows:List (List bg))(J:List br):Prop where
 b:J[km]?=a_ (.cells [ef,.mp kt 0,sv,.gq kp] bf)
 t:J[kt]?=a_ (.cells [cJ] bf)
 r:kg 33 J bZ cJ rows
 m:∃es cH,J[kp]?=a_ (.eT es cH)/\Ah es b5.length
 s:mN 0 J sv (b5.map cg) 4 152
 len:rows.length=b5.length
 st:∀x∈rows,yN x
 ne:km≠kt
def jM(km kt kp bZ:Nat)(J bl:List br):Prop:=J.length<=bl.length/\∀(j:Nat) b,J[j]?=a_ b->j≠km->j≠kt->j≠kp->j≠bZ->(∀c,b≠.tok c 4 152)->bl[j]?=a_ b
def jM.refl(J):jM km kt kp bZ J J:=⟨cc _,λ_ _ h _ _ _ _ _=>h⟩
def jM.trans{b c}(h:jM km kt kp bZ a b)(k:jM km kt kp bZ b c):jM km kt kp bZ a c:=⟨iz h.1 k.1,λj x q Y V h3 h4 h5=>k.2 j x (h.2 j x q Y V h3 h4 h5) Y V h3 h4 h5⟩
def jM.app{l}:jM km kt kp bZ J (J++l):=⟨af,λ_ _ h _ _ _ _ _=>bS h⟩
def jM.set{x}(h:k=km\/k=kt\/k=kp\/k=bZ):jM km kt kp bZ J (J.set k x):=⟨af,λj b q Y V h3 h4 _=>by rw[bE (by rintro rfl;omega)];exact q⟩
def jM.iy{x}(h:jM km kt kp bZ a J)(S:a.length<=k):jM km kt kp bZ a (J.set k x):=⟨aND,λj b q Y V h3 h4 h5=>by
 have:=gl q;rw[bE aa];exact h.2 j b q Y V h3 h4 h5⟩
section
variable{km kt kp bZ:Nat}{ef:bg}{b5:List Nat}{sv cJ:bg}{rows:List (List bg)}{J:List br}
def ie.keep{bl}(h:ie km kt kp bZ ef b5 sv cJ rows J)(S:∀(j) b,(j=km\/j=kt\/j=kp\/j=bZ\/∃c,b=.tok c 4 152)->J[j]?=a_ b->bl[j]?=a_ b):ie km kt kp bZ ef b5 sv cJ rows bl:=by
 obtain⟨es,cH,m1,m2⟩:=h.m;refine⟨S _ _ af h.b,S _ _ af h.t,h.r.keep λZ q=>S _ _ af q,⟨es,cH,S _ _ af m1,m2⟩,?_,h.len,h.st,h.ne⟩
 rcases h.s with q|⟨id,q1,bt,bV⟩
 exact bD q;exact bF ⟨id,q1,bt,S _ _ af bV⟩
def ie.app{x}(h:ie km kt kp bZ ef b5 sv cJ rows J):ie km kt kp bZ ef b5 sv cJ rows (J++x):=h.keep λj b _ q=>bS q
def ie.ao_(h:ie km kt kp bZ ef b5 sv cJ rows J)(O:J[k]?=a_ b)(Y:k≠km)(V:k≠kt)(h3:k≠kp)(h4:k≠bZ)(h5:∀c,b≠.tok c 4 152):ie km kt kp bZ ef b5 sv cJ rows (J.set k b'):=h.keep λj x hj q=>by
 by_cases e:k=j;subst e;rw[O] at q;cases q
 rcases hj with z|z|z|z|⟨c,z⟩
 exact absurd z Y;exact absurd z V;exact absurd z h3;exact absurd z h4;exact absurd z (h5 c);rw[bE e];exact q
def ie.ao9{Z}(h:ie km kt kp bZ ef b5 sv cJ rows J)(O:J[k]?=a_ (.cells Z bf))(Y:k≠km)(V:k≠kt):ie km kt kp bZ ef b5 sv cJ rows (J.set k b'):=by
 refine h.ao_ O Y V ?_ ?_ af;rintro rfl;obtain⟨es,cH,m1,_⟩:=h.m;rw[O] at m1;cases m1;rintro rfl;have:=h.r.b;rw[O] at this;simp at this
def ie.wJ(h:ie km kt kp bZ ef b5 sv cJ rows J)(O:J[k]?=a_ b)(Y:∀Z fz,b≠.cells Z fz)(V:∀es cH,b≠.eT es cH)(h5:∀c,b≠.tok c 4 152):ie km kt kp bZ ef b5 sv cJ rows (J.set k b'):=by
 refine h.ao_ O ?_ ?_ ?_ ?_ h5;rintro rfl;have:=h.b;rw[O] at this;cases this;exact Y _ _ rfl;rintro rfl;have:=h.t;rw[O] at this;cases this;exact Y _ _ rfl;rintro rfl;obtain⟨es,cH,m1,_⟩:=h.m;rw[O] at m1;cases m1;exact V _ _ rfl;rintro rfl;have:=h.r.b;rw[O] at this;cases this;exact Y _ _ rfl
@[go_sem]def ie.Hq(h:ie km kt kp bZ ef b5 sv cJ rows J):bz J bf 1 (.mp km 0)=a_ ef/\bz J bf 1 (.mp km 1)=a_ (.mp kt 0)/\bz J bf 1 (.mp km 2)=a_ sv/\bz J bf 1 (.mp km 3)=a_ (.gq kp)/\bz J bf 1 (.mp kt 0)=a_ cJ:=by
 simp only[bz,h.b,h.t];exact⟨rfl,rfl,rfl,rfl,rfl⟩
@[go_sem]def ie.apl(h:ie km kt kp bZ ef b5 sv cJ rows J)(g):cG sv g=a_ (.v (.int .i64 (b5.length:Int)),g):=by
 rcases h.s with rfl|⟨id,rfl,_⟩<;>simp[pq,goInt]
def ie.Zc(h:ie km kt kp bZ ef b5 sv cJ rows J):kp≠km/\kp≠kt/\kp≠bZ/\bZ≠km/\bZ≠kt:=by
 obtain⟨es,cH,m1,_⟩:=h.m;have O:=h.b;have ht:=h.t;have D:=h.r.b;refine⟨?_,?_,?_,?_,?_⟩<;>rintro rfl;rw[m1] at O;cases O;rw[m1] at ht;cases ht;rw[m1] at D;cases D;rw[O] at D;simp at D;rw[ht] at D;simp at D
def ie.aCn(h:ie km kt kp bZ ef b5 sv cJ rows J)(A):∃bl,yS J bh [.i,.i,.i,.i] (.gq kp) (cg A) b5.length=a_ bl/\jM km kt kp bZ J bl/\
  bl[km]?=a_ (.cells [ef,.mp kt 0,sv,.gq kp] bf)/\bl[kt]?=a_ (.cells [cJ] bf)/\kg 33 bl bZ cJ rows/\(∃es cH,bl[kp]?=a_ (.eT es cH)/\Ah es (b5.length+1))/\mN 0 bl sv (b5.map cg) 4 152:=by
 obtain⟨es,cH,m1,m2⟩:=h.m;obtain⟨k1,k2,gp,gv,wz⟩:=h.Zc;obtain⟨mS,ny,e1,e2⟩:=aDI m1 (m2.mono (Nat.le_succ _)) A b5.length (yB _);refine⟨_,e1,jM.set af,?_,?_,?_,⟨mS,ny,bT (gl m1),e2⟩,?_⟩;rw[bE k1];exact h.b;rw[bE k2];exact h.t;exact h.r.keep λZ q=>by rw[bE gp];exact q
 rcases h.s with q|⟨id,q1,bt,bV⟩
 exact bD q;exact bF ⟨id,q1,bt,by rw[bE (by rintro rfl;rw[m1] at bV;cases bV)];exact bV⟩
def avr{G}(cE:gk G){bx bv}{F E}{e}(h:ie km kt kp bZ (.fp (eg bx bv F E e) 0) b5 sv cJ rows J)(jF:eY (.fp (eg bx bv F E e) 0))(hn:b5.length<=1000)(B):
  cw G bB 219 [.mp km 0,cg B] J λr bl=>(∃n:Int,r=.v (.int .i64 n))/\(∃vk kK uA jv,ie km kt kp bZ (.fp (eg bx bv F E e) 0) vk kK uA jv bl/\b5.length<=vk.length/\vk.length<=b5.length+1)/\jM km kt kp bZ J bl:=by
 refine akW.go ?_;have nx:(cg B).cells=bX B:=rfl;have Y:ie km kt kp bZ (.fp (eg bx bv F E e) 0) b5 sv cJ rows (J++[.cells (bX B) bf]):=h.app;have k1:(J++[bw (bX B) bf])[J.length]?=a_ (.cells (bX B) bf):=af
 have Y4:jM km kt kp bZ J (J++[.cells (bX B) bf]):=jM.app;have Jz:=gl h.b;have X7:=gl h.t;have ax6:=gl h.r.b;have ue:kp<J.length:=aNh
 have fz:dN [.v (.int .u64 0),.v (.int .u64 0),.v (.int .u64 0),.v (.int .u64 0)] []=a_ [.v (.int .u64 0),.v (.int .u64 0),.v (.int .u64 0),.v (.int .u64 0)]:=rfl;have I1:cg 0=.agg [.v (.int .u64 0),.v (.int .u64 0),.v (.int .u64 0),.v (.int .u64 0)]:=by simp[cg,bX,ec,wd]
 have la:∀{g},g[J.length]?=a_ (.cells (bX B) bf)->bz g bh 4 (.mp J.length 0)=a_ (cg B):=λq=>by simp only[bz,q];rfl
 obtain⟨b0,lV⟩:=agl B 0;rw[I1] at lV;refine wy ?_;obtain⟨l0,l1,l2,l3,l4⟩:=Y.Hq;obtain⟨es,cH,m1,m2⟩:=Y.m;obtain⟨n,b,o_,Em⟩:=aDH m1 m2 B;refine wy ?_;cases b0 with
 |true=>
  refine fJ ?_;exact⟨⟨_,rfl⟩,⟨b5,sv,cJ,rows,Y,cc _,Nat.le_succ _⟩,Y4⟩
 |false=>
  refine wy ?_;cases b with
  |true=>
   refine fJ ?_;exact⟨⟨_,rfl⟩,⟨b5,sv,cJ,rows,Y,cc _,Nat.le_succ _⟩,Y4⟩
  |false=>
   obtain⟨g2,e2,alS,x1,x2,x3,qL,vt⟩:=Y.aCn B;have k2:=alS.2 _ _ k1 aa aa aa aa af;refine wx ?_;obtain⟨kK,g3,di,jW,mY,qA⟩:=HG (bW:=32) vt (gW _) (S4 _) (N_ B) ag ag ah;have gI:∀{j} {b},g2[j]?=a_ b->(∀c,b≠.tok c 4 152)->∀xs,sv≠.sl xs (.tok j):=λ{j b} q O xs e=>by
    rcases vt with z|⟨id,z,_,z3⟩
    rw[z] at e;cases e;rw[z] at e;cases e;rw[q] at z3;cases z3;exact O _ rfl
   have Uo:=qA _ _ x1 (gI x1 af);obtain⟨agr,afr,aqR,aJa⟩:=qL;have anG:kK.cells=[kK]/\cu kK=bh:=by
    rcases jW with rfl|⟨id,rfl,_⟩<;>exact⟨rfl,rfl⟩
   have kA:bL g3 1 (.mp km 2) kK=a_ (g3.set km (.cells [.fp (eg bx bv F E e) 0,.mp kt 0,kK,.gq kp] bf)):=by
    simp only[bL,Uo,fD,anG.1];simp[anG.2,d_]
   obtain⟨n1,n2,ld,n4,jI⟩:=h.Zc;have bP:=h.ne;have b9:=bT (a:=.cells [.fp (eg bx bv F E e) 0,.mp kt 0,kK,.gq kp] bf) (gl Uo);have z2:(g3.set km (.cells [.fp (eg bx bv F E e) 0,.mp kt 0,kK,.gq kp] bf))[kt]?=a_ (.cells [cJ] bf):=by rw[bE bP];exact(qA _ _ x2 (gI x2 af))
   have z3:kg 33 (g3.set km (.cells [.fp (eg bx bv F E e) 0,.mp kt 0,kK,.gq kp] bf)) bZ cJ rows:=(x3.keep λZ q=>qA _ _ q (gI q af)).keep λZ q=>by rw[bE (e3 n4)];exact q
   have z4:(g3.set km (.cells [.fp (eg bx bv F E e) 0,.mp kt 0,kK,.gq kp] bf))[kp]?=a_ (.eT agr afr):=by rw[bE (e3 n1)];exact(qA _ _ aqR (gI aqR af))
   have z5:mN 0 (g3.set km (.cells [.fp (eg bx bv F E e) 0,.mp kt 0,kK,.gq kp] bf)) kK (b5.map cg++[cg B]) 4 152:=by
    rcases jW with q|⟨id,q1,bt,bV⟩
    exact bD q;exact bF ⟨id,q1,bt,by rw[bE (by rintro rfl;rw[Uo] at bV;cases bV)];exact bV⟩
   have gv:(g3.set km (.cells [.fp (eg bx bv F E e) 0,.mp kt 0,kK,.gq kp] bf))[J.length]?=a_ (.cells (bX B) bf):=by rw[bE aa];exact(qA _ _ k2 (gI k2 af))
   have alT:jM km kt kp bZ J (g3.set km (.cells [.fp (eg bx bv F E e) 0,.mp kt 0,kK,.gq kp] bf)):=by
    refine(Y4.trans alS).trans (jM.trans ⟨mY,λj b q Y V h3 h4 h5=>qA j b q (gI q h5)⟩ (jM.set af))
   refine wx ?_;generalize g3.set km (.cells [.fp (eg bx bv F E e) 0,.mp kt 0,kK,.gq kp] bf)=g4 at b9 z2 z3 z4 z5 gv alT;have w0:bz g4 bf 1 (.mp km 0)=a_ (.fp (eg bx bv F E e) 0):=by simp only[bz,b9];rfl
   have w1:bz g4 bf 1 (.mp km 1)=a_ (.mp kt 0):=by simp only[bz,b9];rfl
   have w2:bz g4 bf 1 (.mp kt 0)=a_ cJ:=by simp only[bz,z2];rfl
   refine tv (la gv) ?_;refine dx au4 ?_;refine nI @w0 @w1 @w2 (la gv) @ru (ic (asP B E) (bY (mz _) (bY (mz _) dw)) ?_);obtain⟨F3,Rz⟩:∃b:Bool,pT [.i,.i,.i,.i] bh (cg (B&&&E)) (cg 0)=a_ (.v (.bool b)):=by
    obtain⟨d,hd⟩:=WD (B&&&E) 0;refine⟨bh !=d,?_⟩;show(fj [.i,.i,.i,.i] (cg (B&&&E)).cells (cg 0).cells).map (λr=>cR (.bool (bh !=r)))=_;rw[hd];rfl
   rw[I1] at Rz;have e8:yN ((fB 32 (0:Int)).map bq++[.v (.bool F3)]):=⟨_,F3,rfl,af⟩;have Gl:dN [.v (.int .i64 0),.v (.int .i64 0),.v (.int .i64 0),.v (.int .i64 0),.v (.int .i64 0),.v (.int .i64 0),.v (.int .i64 0),.v (.int .i64 0),.v (.int .i64 0),.v (.int .i64 0),.v (.int .i64 0),.v (.int .i64 0),.v (.int .i64 0),.v (.int .i64 0),.v (.int .i64 0),.v (.int .i64 0),.v (.int .i64 0),.v (.int .i64 0),.v (.int .i64 0),.v (.int .i64 0),.v (.int .i64 0),.v (.int .i64 0),.v (.int .i64 0),.v (.int .i64 0),.v (.int .i64 0),.v (.int .i64 0),.v (.int .i64 0),.v (.int .i64 0),.v (.int .i64 0),.v (.int .i64 0),.v (.int .i64 0),.v (.int .i64 0),.v (.bool bf)] [(32,1,.v (.bool F3))]=a_ ((fB 32 (0:Int)).map bq++[.v (.bool F3)]):=rfl;have ab:∀x:List bg,yN x->e4 33 [.agg x]=a_ (.sl [.agg x] .exact):=λx I=>by
    have:=I.len;simp only[e4,cY,pK,tC,jD,this.1,this.2];simp
   have DF:=ab _ e8;generalize(fB 32 (0:Int)).map bq++[.v (.bool F3)]=vu at e8 Gl DF;obtain⟨uA,p1,p2⟩:=z3.push (bW:=264) (e:=261) ag ag e8.len (by rw[h.len];omega);have al6:(g4.set bZ (.cells (rows++[vu]).flatten bh))[kt]?=a_ (.cells [cJ] bf):=by rw[bE jI];exact z2
   have Ug:bz (g4.set bZ (.cells (rows++[vu]).flatten bh)) bf 1 (.mp km 1)=a_ (.mp kt 0):=by
    have:(g4.set bZ (.cells (rows++[vu]).flatten bh))[km]?=a_ (.cells [.fp (eg bx bv F E e) 0,.mp kt 0,kK,.gq kp] bf):=by rw[bE n4];exact b9
    simp only[bz,this];rfl
   have nH:bL (g4.set bZ (.cells (rows++[vu]).flatten bh)) 1 (.mp kt 0) uA=a_ ((g4.set bZ (.cells (rows++[vu]).flatten bh)).set kt (.cells [uA] bf)):=by
    simp only[bL,al6,fD,p2.v];rfl
   have hX:ie km kt kp bZ (.fp (eg bx bv F E e) 0) (b5++[B]) kK uA (rows++[vu]) ((g4.set bZ (.cells (rows++[vu]).flatten bh)).set kt (.cells [uA] bf)):=by
    refine⟨?_,bT (gl al6),p2.keep λZ q=>?_,⟨agr,afr,?_,by simpa using aJa⟩,?_,by simp[h.len],λx I=>?_,bP⟩;rw[bE (e3 bP),bE n4];exact b9;rw[bE (e3 jI)];exact q;rw[bE (e3 n2),bE (e3 ld)];exact z4;rw[gC]
    rcases z5 with q|⟨id,q1,bt,bV⟩
    exact bD q;refine bF ⟨id,q1,bt,?_⟩;rw[bE (by rintro rfl;rw[z2] at bV;cases bV),bE (by rintro rfl;rw[z3.b] at bV;cases bV)];exact bV
    rcases fA.1 I with I|I
    exact h.st x I;rw[dW.1 I];exact e8
   have Ho:=hX.Hq.2.2.1;refine ng (eI @w0 @w1 @w2 (la gv)) @fz @Rz @Gl @DF @p1 @Ug @nH @ru ?_;refine mH @IW @mP @Ho @hX.apl ?_;exact⟨⟨_,rfl⟩,⟨_,kK,uA,_,hX,af,af⟩,(alT.trans (jM.set af)).trans (jM.set af)⟩
end
end
section
variable{k len n o q:Nat}{g2:List br}{bs:List Nat}
@[go_sem]def TU(h)(a){x}(I:x.cells=[x])(Y:cu x=bh):bL (h++[bw [a] bf]) 1 (.mp h.length 0) x=a_ (h++[bw [x] bf]):=by
 simp only[bL,gh (cc _),ni,nL,fD,I];simp[Y,d_]
@[go_sem]def VQ(h)(B):bL (h++[bw [.v (.int .u64 0),.v (.int .u64 0),.v (.int .u64 0),.v (.int .u64 0)] bf]) 4 (.mp h.length 0) (cg B)=a_ (h++[bw (bX B) bf]):=by
 simp only[bL,gh (cc _),ni,nL,fD];have e:(cg B).cells=bX B:=rfl;rw[e,if_pos ⟨rfl,af,rfl⟩];simp[d_,bX]
@[go_sem]def Ax{g}{B}(h:g[k]?=a_ (.cells (bX B) bf)):bz g bh 4 (.mp k 0)=a_ (cg B):=by
 simp only[bz,h];rfl
section
variable{g:List br}{k:Nat}{bs:List Nat}{q B:Nat}
@[go_sem]def Vu(h:q<len):nu len n (.mp k 0) q=a_ (.mp k (q*n)):=by
 simp only[nu];rw[if_pos ⟨aa,aa⟩];simp[lM]
@[go_sem]def adN{m}(h:q<len):nu len 1 (.rp k m o) q=a_ (.rp k m (o+q)):=by
 simp only[nu];rw[if_pos ⟨aa,aa⟩];simp[lM]
@[go_sem]def aeY(h:g[k]?=a_ (.cells (fK bs) bf))(hB:bs[q]?=a_ B):bz g bh 4 (.mp k (q*4))=a_ (cg B):=by
 have hl:=gl hB;have V:=AM bs;simp only[bz,h];unfold fh;rw[if_pos rfl,if_pos aa,Q8 hB];rfl
@[go_sem]def aeZ(h:g[k]?=a_ (.cells (fK bs) bf))(hl:q<bs.length)(B):bL g 4 (.mp k (q*4)) (cg B)=a_ (g.set k (.cells (fK (bs.set q B)) bf)):=by
 have V:=AM bs;simp only[bL,h,fD];have e1:(cg B).cells=bX B:=rfl;rw[e1,if_pos ⟨rfl,aa,anF B⟩,Q9 hl]
@[go_sem]def aeW(h:g[k]?=a_ (.cells (fK bs) bf))(hl:bs.length=32):bz g bh 128 (.mp k 0)=a_ (.agg (fK bs)):=by
 have V:=AM bs;simp only[bz,h];unfold fh;rw[if_pos rfl,if_pos aa,pL,oe aa]
@[go_sem]def aeX(hB:bs[q]?=a_ B)(hl:bs.length=32):DG bh 4 32 (.agg (fK bs)) q=a_ (cg B):=by
 have hq:=gl hB;have V:=AM bs;simp only[DG];rw[if_pos ⟨aa,aa⟩];unfold fh;rw[if_pos rfl,yw,if_pos aa,Q8 hB];rfl
end
section
variable{km kt kp bZ:Nat}{ef:bg}{b5:List Nat}{sv cJ:bg}{rows:List (List bg)}{J g:List br}
def ie.fin{n0}(h:ie km kt kp bZ ef b5 sv cJ rows g)(he:og n0 g g2):ie km kt kp bZ ef b5 sv cJ rows g2:=h.keep λj b hj q=>by
 rcases he.2 j with z|⟨_,z,_⟩
 rw[z];exact q;exfalso
 rcases hj with rfl|rfl|rfl|rfl|⟨c,rfl⟩
 have:=h.b;rw[z] at this;cases this;have:=h.t;rw[z] at this;cases this;obtain⟨es,cH,m1,_⟩:=h.m;rw[z] at m1;cases m1;have:=h.r.b;rw[z] at this;cases this;rw[z] at q;cases q
def jM.fin(h:jM km kt kp bZ J g)(he:og J.length g g2):jM km kt kp bZ J g2:=⟨by rw[he.1];exact h.1,λj b q Y V h3 h4 h5=>by
 have hl:=gl q
 rcases he.2 j with z|⟨z,_,_⟩
 rw[z];exact h.2 j b q Y V h3 h4 h5;omega⟩
def ie.write(h:ie km kt kp bZ ef b5 sv cJ rows g){p}{x}(I:rows[p]?=a_ x)(ho:o<32)(n:Int):
  bL g 1 (.rp bZ rows.flatten.length (p*33+o)) n=a_ (g.set bZ (.cells (rows.set p (d_ x o [bq n])).flatten bh))/\ie km kt kp bZ ef b5 sv cJ (rows.set p (d_ x o [bq n])) (g.set bZ (.cells (rows.set p (d_ x o [bq n])).flatten bh)):=by
 obtain⟨q1,bt⟩:=h.r.st (w:=1) (o:=o) (y:=bq n) I rfl aa rfl;obtain⟨n1,n2,ld,n4,jI⟩:=h.Zc;obtain⟨es,cH,m1,m2⟩:=h.m;have O:=h.r.b;refine⟨q1,⟨?_,?_,bt,⟨es,cH,?_,m2⟩,?_,by rw[wY];exact h.len,λy hy=>?_,h.ne⟩⟩;rw[bE n4];exact h.b;rw[bE jI];exact h.t;rw[bE (e3 ld)];exact m1
 rcases h.s with q|⟨id,b9,z2,z3⟩
 exact bD q;exact bF ⟨id,b9,z2,by rw[bE (by rintro rfl;rw[O] at z3;cases z3)];exact z3⟩
 rcases UK hy with q|rfl
 exact h.st y q;exact(h.st x (cv I)).put ho n
structure tK(km kt kp bZ:Nat)(ef:bg)(b5:List Nat)(sv cJ:bg)(rows:List (List bg))(J:List br)(n:Nat)(bs:List Nat)(g:List br):Prop where
 x:ie km kt kp bZ ef b5 sv cJ rows g
 kb:jM km kt kp bZ J g
 b3:g[n]?=a_ (.cells [.mp km 0] bf)
 uS:g[n+2]?=a_ (.cells (fK bs) bf)
 mu:bs.length=32
 lo:km≠n+2/\kt≠n+2/\J.length<=n
def tK.app{x}(h:tK km kt kp bZ ef b5 sv cJ rows J n bs g):tK km kt kp bZ ef b5 sv cJ rows J n bs (g++x):=⟨h.x.app,h.kb.trans jM.app,bS h.b3,bS h.uS,h.mu,h.lo⟩
def tK.wJ{b b'}(h:tK km kt kp bZ ef b5 sv cJ rows J n bs g)(O:g[k]?=a_ b)(Y:∀Z fz,b≠.cells Z fz)(V:∀es cH,b≠.eT es cH)(h5:∀c,b≠.tok c 4 152)(S:J.length<=k):tK km kt kp bZ ef b5 sv cJ rows J n bs (g.set k b'):=by
 refine⟨h.x.wJ O Y V h5,h.kb.iy S,?_,?_,h.mu,h.lo⟩;rw[bE (by rintro rfl;have:=h.b3;rw[O] at this;cases this;exact Y _ _ rfl)];exact h.b3;rw[bE (by rintro rfl;have:=h.uS;rw[O] at this;cases this;exact Y _ _ rfl)];exact h.uS
def tK.put(h:tK km kt kp bZ ef b5 sv cJ rows J n bs g)(q B):tK km kt kp bZ ef b5 sv cJ rows J n (bs.set q B) (g.set (n+2) (.cells (fK (bs.set q B)) bf)):=
 ⟨h.x.ao9 h.uS (e3 h.lo.1) (e3 h.lo.2.1),h.kb.iy (by have:=h.lo.2.2;omega),by rw[bE aa];exact h.b3,bT (gl h.uS),by simp[h.mu],h.lo⟩
def agG{G:Cells}(cE:gk G){bx bv:bg}{F E:Nat}{em:Bool}{on:List Nat}(h:ie km kt kp bZ (.fp (eg bx bv F E em) 0) b5 sv cJ rows J)(jF:eY (.fp (eg bx bv F E em) 0))(ho:cD bx (on.map cg))(RZ:on.length<=256)(hn:b5.length<=900){a0:Nat}(ha:a0<b5.length)(A:Nat):
  cw G bB 146 [.mp km 0,.v (.int .i64 (a0:Int)),cg A] J λr bl=>(∃vk kK uA jv,ie km kt kp bZ (.fp (eg bx bv F E em) 0) vk kK uA jv bl/\b5.length<=vk.length/\vk.length<=b5.length+32)/\jM km kt kp bZ J bl:=by
 refine akk.go ?_;have c0:(cU km 0).cells=[.mp km 0]:=rfl;have c1:(cg A).cells=bX A:=rfl;have Jz:=gl h.b;have X7:=gl h.t;have hz:fB 128 (cR (.int .u64 0))=fK (fB 32 0):=by simp[fK,bX,ec,wd,fB]
 simp only[fB] at hz;have eA:tK km kt kp bZ (.fp (eg bx bv F E em) 0) b5 sv cJ rows J J.length (fB 32 0) (J++[bw [cU km 0] bf]++[bw (bX A) bf]++[bw (fK (fB 32 0)) bf]):=
  ⟨h.app.app.app,(jM.app.trans jM.app).trans jM.app,af,aMb,af,aa,aa,cc _⟩
 have wz:(J++[bw [cU km 0] bf]++[bw (bX A) bf]++[bw (fK (fB 32 0)) bf])[J.length+1]?=a_ (.cells (bX A) bf):=aMb
 have kS:(J++[bw [cU km 0] bf]++[bw (bX A) bf]++[bw (fK (fB 32 0)) bf]).length=J.length+3:=af
 generalize hg:J++[bw [cU km 0] bf]++[bw (bX A) bf]++[bw (fK (fB 32 0)) bf]=g at eA wz kS;refine eN (λe h=>e=[(1,.v (.int .i64 (a0:Int))),(3,.mp J.length 0),(5,.mp (J.length+1) 0)]/\h=J++[bw [cU km 0] bf]++[bw (bX A) bf]) ?_ ?_;refine mI @ek.{0} @nM ?_;exact⟨trivial,trivial⟩;rintro e0 h0 ⟨rfl,rfl⟩;refine eN (λe h=>e=[(1,.v (.int .i64 (a0:Int))),(3,.mp J.length 0),(5,.mp (J.length+1) 0),(6,.mp (J.length+2) 0)]/\h=g) ?_ ?_;refine mI @ek.{0} @nM ?_;exact⟨trivial,hg⟩;rintro e0 h0 ⟨rfl,rfl⟩;refine eN (λe h=>∃bs,e=[(1,.v (.int .i64 (a0:Int))),(3,.mp J.length 0),(6,.mp (J.length+2) 0)]/\tK km kt kp bZ (.fp (eg bx bv F E em) 0) b5 sv cJ rows J J.length bs h) ?_ ?_
 · refine wx (cm (LK A _) ?_)
   rintro _ Y ⟨rfl,rfl⟩;refine fJ ?_;rw[zR];refine⟨_,_,_,rfl,λk1 gZ bU ok hR=>?_⟩;have kl:J.length<=k1:=by rw[gZ];simp;omega
   refine cm (LL cE (B:=A) (Stop:=λ_=>False) (Inv:=λdone g=>∃bs,tK km kt kp bZ (.fp (eg bx bv F E em) 0) b5 sv cJ rows J J.length bs g/\g[k1]?=a_ (.b8 .ready bn bU #[14] ok)) ?_ (bS (bS af)) ⟨_,((eA.app (x:=[bw (bX A) bf])).app (x:=marks bf)).app (x:=[pI .ready bn bU #[14] ok]),(by rw[gZ];simp)⟩) ?_
   · rintro done p g ⟨bs,hF,hl⟩ O R0
     refine hR [_] g _ rfl ⟨bn,hl⟩ ?_;have se:ux [(1,cR (.int .i64 (a0:Int))),(3,cU J.length 0),(6,cU (J.length+2) 0),(13,bg.fn (uD 137) [] [cU h0.length 0])] (List.zip [14] [cR (yt cN (p:Int))])=[(14,cR (yt cN (p:Int))),(1,cR (.int .i64 (a0:Int))),(3,cU J.length 0),(6,cU (J.length+2) 0),(13,bg.fn (uD 137) [] [cU h0.length 0])]:=rfl;rw[se];have n1:=TU g (.v (.int .i64 0)) (x:=.v (.int .i64 (p:Int))) rfl rfl;refine e6 @n1 ?_;have hl':(g++[bw [cR (.int .i64 (p:Int))] bf])[k1]?=a_ (.b8 .ready bn bU #[14] ok):=bS hl;refine⟨⟨bn,hl'⟩,λfW=>?_⟩;have aKK:=gl hl;have uY:=(hF.app).wJ (b':=.b8 .busy fW bU #[14] ok) hl' af af af kl;have CU:((g++[bw [cR (.int .i64 (p:Int))] bf]).set k1 (.b8 .busy fW bU #[14] ok))[g.length]?=a_ (.cells [.v (.int .i64 (p:Int))] bf):=by rw[bE aa];simp
     have aod:((g++[bw [cR (.int .i64 (p:Int))] bf]).set k1 (.b8 .busy fW bU #[14] ok))[k1]?=a_ (.b8 .busy fW bU #[14] ok):=bT (gl hl');have Ye:J.length+2<g.length:=gl hF.uS;generalize(g++[bw [cR (.int .i64 (p:Int))] bf]).set k1 (.b8 .busy fW bU #[14] ok)=g1 at uY CU aod⊢;generalize g.length=m7 at CU Ye⊢;have l0:=uY.x.Hq.1;refine jB (ff uY.b3) @l0 (ff CU) ?_;refine dx (aEF ho aa p) ?_;generalize on[p]?.getD 0=pO;refine wy (cm (LK pO _) ?_);rintro _ g2 ⟨rfl,rfl⟩;refine wy ?_;rw[zR];refine⟨_,_,_,rfl,λk2 hk2 rN n8 GC=>?_⟩;have Y_:J.length<=k2:=by
      have:=gl uY.uS;rw[hk2];simp;omega
     refine cm (LL cE (B:=pO) (Stop:=λ_=>False) (Inv:=λdone g=>∃bs,tK km kt kp bZ (.fp (eg bx bv F E em) 0) b5 sv cJ rows J J.length bs g/\g[m7]?=a_ (.cells [.v (.int .i64 (p:Int))] bf)/\g[k1]?=a_ (.b8 .busy fW bU #[14] ok)/\g[k2]?=a_ (.b8 .ready bn rN #[22] n8)) ?_ (bS (bS af)) ⟨_,((uY.app (x:=[bw (bX pO) bf])).app (x:=marks bh)).app (x:=[pI .ready bn rN #[22] n8]),bS (bS (bS CU)),bS (bS (bS aod)),(by rw[hk2];simp)⟩) ?_;rintro auQ q g3 ⟨aJU,ahM,ya,rl,rk⟩ iS ayB;refine GC [_] g3 _ rfl ⟨bn,rk⟩ ?_;have aGE:ux [(6,cU (J.length+2) 0),(7,cU m7 0),(21,bg.fn (uD 137) [] [cU g1.length 0])] (List.zip [22] [cR (yt cN (q:Int))])=[(22,cR (yt cN (q:Int))),(6,cU (J.length+2) 0),(7,cU m7 0),(21,bg.fn (uD 137) [] [cU g1.length 0])]:=rfl;rw[aGE];refine fJ ?_;refine⟨⟨bn,rk⟩,λCS=>?_⟩;have GA:=ahM.wJ (b':=.b8 .busy CS rN #[22] n8) rk af af af Y_;have am5:k2≠k1:=by rintro rfl;rw[rl] at rk;cases rk
     have am6:k2≠m7:=by rintro rfl;rw[ya] at rk;cases rk
     have t7:(g3.set k2 (.b8 .busy CS rN #[22] n8))[m7]?=a_ (.cells [.v (.int .i64 (p:Int))] bf):=by rw[bE am6];exact ya
     have tl:(g3.set k2 (.b8 .busy CS rN #[22] n8))[k1]?=a_ (.b8 .busy fW bU #[14] ok):=by rw[bE am5];exact rl
     have tk:(g3.set k2 (.b8 .busy CS rN #[22] n8))[k2]?=a_ (.b8 .busy CS rN #[22] n8):=bT (gl rk);generalize g3.set k2 (.b8 .busy CS rN #[22] n8)=g4 at GA t7 tl tk⊢;have Mb:∀g5 LS,tK km kt kp bZ (.fp (eg bx bv F E em) 0) b5 sv cJ rows J J.length LS g5->g5[m7]?=a_ (.cells [.v (.int .i64 (p:Int))] bf)->g5[k1]?=a_ (.b8 .busy fW bU #[14] ok)->g5[k2]?=a_ (.b8 .busy CS rN #[22] n8)->
       (∃st pd,g5[k2]?=a_ (.b8 st pd rN #[22] n8))/\∃c:Bool,cR (.bool bh)=.v (.bool c)/\(c=bh->∃bs,tK km kt kp bZ (.fp (eg bx bv F E em) 0) b5 sv cJ rows J J.length bs (g5.set k2 (.b8 .ready bn rN #[22] n8))/\(g5.set k2 (.b8 .ready bn rN #[22] n8))[m7]?=a_ (.cells [.v (.int .i64 (p:Int))] bf)/\(g5.set k2 (.b8 .ready bn rN #[22] n8))[k1]?=a_ (.b8 .busy fW bU #[14] ok)/\(g5.set k2 (.b8 .ready bn rN #[22] n8))[k2]?=a_ (.b8 .ready bn rN #[22] n8))/\(c=bf->False):=λg5 LS Y V h3 h4=>
      ⟨⟨.busy,CS,h4⟩,bh,rfl,λ_=>⟨LS,Y.wJ h4 af af af Y_,by rw[bE am6];exact V,by rw[bE am5];exact h3,bT (gl h4)⟩,λz=>by cases z⟩
     refine rF ?_;refine dn (λc=>?_) λc=>(Mb _ _ GA t7 tl tk);have hq:q<32:=by simp at c;omega
     obtain⟨UW,awU⟩:=cO (by rw[ahM.mu];exact hq);have l4:=aeY GA.uS awU;simp -failIfUnchanged -implicitDefEqProofs (disch:=first|assumption|decide|omega) only[jO,oM,oN,↓reduceIte,w6,vB,w7,w8,rE,BS,BT,c,Vu hq,l4,ff t7];refine ic (aqC UW p R0) (bY (mz _) (bY (dD _) dw)) ?_;simp -failIfUnchanged -implicitDefEqProofs (disch:=first|assumption|decide|omega) only[jO,oM,oN,↓reduceIte,w6,vB,w7,w8,rE,BS,BT,Vu hq,aeZ GA.uS (by rw[GA.mu];exact hq) (UW|||2^p)];have Xn:=GA.put q (UW|||2^p);have EX:∀{j:Nat} {b:br},g4[j]?=a_ b->(∀Z,b≠.cells Z bf)->J.length+2≠j:=λz z2 e=>by
      rw[<-e,GA.uS] at z;cases z;exact z2 _ rfl
     exact Mb _ _ Xn (by rw[bE aa];exact t7) (by rw[bE (EX tl af)];exact tl) (by rw[bE (EX tk af)];exact tk);rintro r g5 ⟨rfl,⟨LS,Xn,ya,rl,rk⟩|hf⟩;refine⟨.ready,bn,rk,ag,?_⟩;have tl:(g5.set k2 (.b8 .exhausted bn rN #[22] n8))[k1]?=a_ (.b8 .busy fW bU #[14] ok):=by rw[bE (by rintro rfl;rw[rl] at rk;cases rk)];exact rl
     refine e6 @zj.eq_1 ?_;show(∃st pd,_=_)/\_;exact⟨⟨.busy,fW,tl⟩,bh,rfl,λ_=>⟨LS,(Xn.wJ (b':=.b8 .exhausted bn rN #[22] n8) rk af af af Y_).wJ tl af af af kl,bT (gl tl)⟩,λz=>by cases z⟩;exact hf.elim
   rintro r g ⟨rfl,⟨bs,hF,hl⟩|hf⟩;refine⟨.ready,bn,hl,ag,?_⟩;refine e6 @zj.eq_1 ?_;exact⟨bs,trivial,hF.wJ hl af af af kl⟩;exact hf.elim
 rintro e0 g1 ⟨bs,rfl,hF⟩;refine iD (aeW hF.uS hF.mu) ?_;refine c8 (λi e g=>∃vk kK uA jv,e=[(1,.v (.int .i64 (a0:Int))),(3,.mp J.length 0),(32,.agg (fK bs)),(33,bq i)]/\ie km kt kp bZ (.fp (eg bx bv F E em) 0) vk kK uA jv g/\b5.length<=vk.length/\vk.length<=b5.length+i/\jM km kt kp bZ J g/\g[J.length]?=a_ (.cells [.mp km 0] bf)) 32 ⟨b5,sv,cJ,rows,rfl,hF.x,cc _,Nat.le_add_right _ _,hF.kb,hF.b3⟩ ?_ ?_;rintro i e g Q ⟨vk,kK,uA,jv,rfl,hX,Y,V,hK,h3⟩;have c1:decide ((i:Int)<32)=bh:=ah
 obtain⟨B,hB⟩:=cO (by rw[hF.mu];exact Q);have n1:=VQ g B;have k2:(g++[bw (bX B) bf])[J.length]?=a_ (.cells [.mp km 0] bf):=bS h3;have gp:(g++[bw (bX B) bf])[g.length]?=a_ (.cells (bX B) bf):=af
 refine tv (aeX hB hF.mu) ?_;refine nc (ff k2) (Ax gp) (cm (avr cE (hX.app (x:=[.cells (bX B) bf])) jF aa B) ?_);rintro r g3 ⟨⟨n,rfl⟩,⟨aGO,aHL,aIi,HT,Rv,p1,p2⟩,Rs⟩;have ax6:=gl h.r.b;have ue:kp<J.length:=aNh
 have gv:=Rs.2 _ _ k2 aa aa aa aa af;obtain⟨l0,l1,l2,l3,l4⟩:=Rv.Hq;have XB:a0<HT.length:=by rw[Rv.len];omega
 obtain⟨x,I⟩:=cO XB;obtain⟨q1,bt⟩:=Rv.write I Q n;have e1:=Rv.r.cB XB;have a1:=adN (k:=bZ) (m:=HT.flatten.length) (o:=a0*33) Q;refine pH (ff gv) @l1 @l4 @e1 @C0 @a1 @q1 ?_;exact⟨aGO,aHL,aIi,_,rfl,bt,aa,aa,((hK.trans jM.app).trans Rs).trans (jM.set af),by rw[bE aa];exact gv⟩;rintro e g ⟨vk,kK,uA,jv,rfl,hX,Y,V,hK,h3⟩;have c1:decide (((32:Nat):Int)<32)=bf:=rfl;refine wy ?_;rw[aaY];intro g2 he;refine wy ?_;exact⟨⟨vk,kK,uA,jv,hX.fin he,Y,V⟩,hK.fin he⟩
end
end
section
variable{J:List br}
def BX(x:bg):Prop:=∃rows:List (List bg),x=.fp [.sl (rows.map dG) .no] 0/\(∀r∈rows,yN r)/\0<rows.length/\rows.length<=300
def Vr(r:bg):Prop:=∃(x:bg) (e:Int),r=.bQ [x,bq e]/\((e=0/\BX x)\/(e≠0/\x=.v (.pointer bn)))
def ap5{e:Int}(he:e≠0):∃n bR,dh J n (.bQ [.v (.pointer bn),e])=a_ bR/\Vr bR:=by
 obtain⟨n,hn⟩:=(fy (bG (bH (.pointer bn)) (bG (bH (.int .i64 e)) c_)):b_ J _ _).done;exact⟨n,_,hn,_,e,rfl,bF ⟨he,rfl⟩⟩
def aHV{km kt kp bZ}{ef}{b5}{sv cJ}{rows}(h:ie km kt kp bZ ef b5 sv cJ rows J)(h0:0<b5.length)(Y:b5.length<=300):∃n bR,dh J n (.bQ [.mp kt 0,(0:Int)])=a_ bR/\Vr bR:=by
 have fl:fC J rows.flatten rows.flatten:=fC.each λa ha=>by
  obtain⟨x,I,MH⟩:=List.mem_flatten.1 ha;obtain⟨l,b,rfl,_⟩:=h.st x I
  rcases fA.1 MH with q|q
  obtain⟨n,_,rfl⟩:=dV.1 q;exact bH _;rw[dW.1 q];exact bH _
 have V:=b_.rs (sz:=33) (o:=0) (len:=rows.length) h.r.b rfl fl;have e:=Q7 [] h.r.each;rw[gM,show([]:List bg).length=0 from rfl] at e;rw[e,<-h.r.v] at V;obtain⟨n,hn⟩:=(fy (bG (b_.mp h.t (bG V c_)) (bG (bH (.int .i64 0)) c_)):b_ J (.bQ [.mp kt 0,(0:Int)]) _).done;exact⟨n,_,hn,_,0,rfl,bD ⟨rfl,rows,rfl,h.st,by rw[h.len];exact h0,by rw[h.len];exact Y⟩⟩
@[go_sem]def LR{g}{k B}(h:g[k]?=a_ (.cells (bX B) bf))(B'):bL g 4 (.mp k 0) (cg B')=a_ (g.set k (.cells (bX B') bf)):=by
 simp only[bL,h];rfl
def afu{bx bv}{F E}{e}{on cz:List Nat}(ho:cD bx (on.map cg))(O:cD bv (cz.map cg)):eY (.fp (eg bx bv F E e) 0):=Gb λc T=>by
 simp only[eg,fo,pM,or_false] at T
 rcases T with rfl|rfl|rfl|rfl|rfl|rfl|rfl|rfl|rfl|rfl|rfl
 exact Qu ho;exact Qu O
 all_goals exact dD _
def aEh{G}(cE:gk G){x}(I:Lp x):dM G bB 79 [x] Vr:=by
 obtain⟨on,cz,bx,bv,F,E,e,rfl,ho,O,RZ,RA⟩:=I;have jF:=afu (F:=F) (E:=E) (e:=e) ho O;refine en (ajO.go ?_);have nx:(bg.fp (eg bx bv F E e) 0).cells=[.fp (eg bx bv F E e) 0]:=rfl;have y6:([bw [bg.fp (eg bx bv F E e) 0] bf])[0]?=a_ (.cells [.fp (eg bx bv F E e) 0] bf):=rfl;refine eN (λe' h=>e'=[(1,.mp 0 0),(2,.v (.pointer bn)),(3,.v (.int .i64 0))]/\h=[bw [bg.fp (eg bx bv F E e) 0] bf]) ?_ ?_;exact wx tt;rintro e' h ⟨rfl,rfl⟩;refine iO (λe' h=>e'=[(1,.mp 0 0),(2,.v (.pointer bn)),(3,.v (.int .i64 0))]/\h=[bw [bg.fp (eg bx bv F E e) 0] bf]) ?_ ?_;exact wx tt;rintro e' h ⟨rfl,rfl⟩;have e8:yN ((fB 32 (0:Int)).map bq++[.v (.bool e)]):=⟨_,e,rfl,af⟩;refine eN (λe' h=>∃km kt kp bZ sv cJ rows,e'=[(1,.mp 0 0),(2,.v (.pointer bn)),(3,.v (.int .i64 0)),(4,.mp km 0)]/\ie km kt kp bZ (.fp (eg bx bv F E e) 0) [0] sv cJ rows h/\h[0]?=a_ (.cells [.fp (eg bx bv F E e) 0] bf)/\(km≠0/\kt≠0/\kp≠0/\bZ≠0)) ?_ ?_;rw[KZ];have Gl:dN [.v (.int .i64 0),.v (.int .i64 0),.v (.int .i64 0),.v (.int .i64 0),.v (.int .i64 0),.v (.int .i64 0),.v (.int .i64 0),.v (.int .i64 0),.v (.int .i64 0),.v (.int .i64 0),.v (.int .i64 0),.v (.int .i64 0),.v (.int .i64 0),.v (.int .i64 0),.v (.int .i64 0),.v (.int .i64 0),.v (.int .i64 0),.v (.int .i64 0),.v (.int .i64 0),.v (.int .i64 0),.v (.int .i64 0),.v (.int .i64 0),.v (.int .i64 0),.v (.int .i64 0),.v (.int .i64 0),.v (.int .i64 0),.v (.int .i64 0),.v (.int .i64 0),.v (.int .i64 0),.v (.int .i64 0),.v (.int .i64 0),.v (.int .i64 0),.v (.bool bf)] [(32,1,.v (.bool e))]=a_ ((fB 32 (0:Int)).map bq++[.v (.bool e)]):=rfl;have fz:dN [.v (.int .u64 0),.v (.int .u64 0),.v (.int .u64 0),.v (.int .u64 0)] []=a_ (bX 0):=by
  have:bX 0=[.v (.int .u64 0),.v (.int .u64 0),.v (.int .u64 0),.v (.int .u64 0)]:=by simp[bX,ec,wd]
  rw[this];rfl
 have ab:e4 4 [.agg (bX 0)]=a_ (.sl [cg 0] .exact):=rfl;have asp:∀(h) (x),yN x->An h 33 [.agg x]=a_ (.rs h.length x.length 33 0 1,h++[.cells x bh]):=λh x I=>by
  have:=I.len;have RE:(dG x).cells=x:=rfl;simp[An,cY,ez,RE,this.1,this.2]
 have hl:=e8.len;have r1:∀n:Nat,dN [.bp] [(0,1,.rs n 33 33 0 1)]=a_ [.rs n 33 33 0 1]:=λn=>rfl;have WW:∀(a b),dN [.v (.pointer bn),.v (.pointer bn),.bp,.v (.map bn)] [(0,1,.fp (eg bx bv F E e) 0),(1,1,.mp a 0),(2,1,.sl [cg 0] .exact),(3,1,.gq b)]=a_ [.fp (eg bx bv F E e) 0,.mp a 0,.sl [cg 0] .exact,.gq b]:=λa b=>rfl;have lP:∀l:List bg,(dG l).cells=l:=λl=>rfl;have DF:=λh=>asp h _ e8;rw[hl.1] at DF;generalize(fB 32 (0:Int)).map bq++[.v (.bool e)]=vu at Gl DF e8 hl;have ci:oU [bg.fp (eg bx bv F E e) 0] [bg.fp (eg bx bv F E e) 0]:=bY jF dw;have hE:mL 33 [vu]:=λy hy=>by rw[dW.1 hy];exact hl
 have Jw:[vu].flatten=vu:=af
 refine⟨λ_=>.v (.bool e),λl hl=>?_⟩;simp only[fo,pM,or_false] at hl
 rcases hl with rfl|rfl|rfl
 simp only[fc,kM,gz];refine O7 (ff y6) ?_;refine⟨_,ci,Ww,?_⟩;refine wR (eI (ff y6) @Gl @fz @ab) @DF @r1 @lP @WW @gB.{0} @gM.{0} @eZ.{0} @iG.{0} ?_;refine⟨4,2,3,1,_,_,[vu],rfl,⟨rfl,rfl,⟨by rw[Jw,hl.1];rfl,by rw[Jw];rfl,hE⟩,⟨[],0,rfl,λz hz=>by cases hz⟩,bD rfl,rfl,λy hy=>aNM,ag⟩,rfl,ag,ag,ag,ag⟩;simp only[fc,kM,gz];refine O7 (ff y6) ?_;refine⟨_,ci,Ww,?_⟩;refine wR (eI (ff y6) @Gl @fz @ab) @DF @r1 @lP @WW @gB.{0} @gM.{0} @eZ.{0} @iG.{0} ?_;refine⟨4,3,2,1,_,_,[vu],rfl,⟨rfl,rfl,⟨by rw[Jw,hl.1];rfl,by rw[Jw];rfl,hE⟩,⟨[],0,rfl,λz hz=>by cases hz⟩,bD rfl,rfl,λy hy=>aNM,ag⟩,rfl,ag,ag,ag,ag⟩;simp only[fc,kM,gz];refine O7 (ff y6) ?_;refine⟨_,ci,Ww,?_⟩;refine wR (eI (ff y6) @Gl @fz @ab) @DF @r1 @lP @WW @gB.{0} @gM.{0} @eZ.{0} @iG.{0} ?_;refine⟨4,3,1,2,_,_,[vu],rfl,⟨rfl,rfl,⟨by rw[Jw,hl.1];rfl,by rw[Jw];rfl,hE⟩,⟨[],0,rfl,λz hz=>by cases hz⟩,bD rfl,rfl,λy hy=>aNM,ag⟩,rfl,ag,ag,ag,ag⟩;rintro e' h ⟨km,kt,kp,bZ,sv,cJ,rows,rfl,hX,h0,n1,n2,ld,n4⟩;refine eN (λe' h=>∃b5 sv cJ rows,e'=[(1,.mp 0 0),(2,.v (.pointer bn)),(3,.v (.int .i64 0)),(4,.mp km 0)]/\ie km kt kp bZ (.fp (eg bx bv F E e) 0) b5 sv cJ rows h/\h[0]?=a_ (.cells [.fp (eg bx bv F E e) 0] bf)/\1<=b5.length/\b5.length<=232) ?_ ?_;refine wy ?_;refine dx avw ?_;refine wy (cm (agG cE hX jF ho RZ ag (a0:=0) ag F) ?_);rintro r g ⟨⟨b5,sv,cJ,rows,Xx,q1,bt⟩,hK⟩;simp only[eZ,iG] at q1 bt;refine wx ?_;exact⟨b5,sv,cJ,rows,trivial,Xx,hK.2 _ _ h0 (e3 n1) (e3 n2) (e3 ld) (e3 n4) af,aa,aa⟩;rintro e' h ⟨b5,sv,cJ,rows,rfl,hX,h0,qx,nE⟩;refine iO (λe' h=>∃b5 sv cJ rows,e'=[(4,.mp km 0)]/\ie km kt kp bZ (.fp (eg bx bv F E e) 0) b5 sv cJ rows h/\1<=b5.length/\b5.length<=232) ?_ ?_;refine wy ?_;refine qe (n:=300) (λn e' g=>∃a0 b5 sv cJ rows,n+a0=301/\e'=[(1,.mp 0 0),(2,.v (.pointer bn)),(3,.v (.int .i64 0)),(4,.mp km 0),(5,bq ((a0):Int))]/\ie km kt kp bZ (.fp (eg bx bv F E e) 0) b5 sv cJ rows g/\g[0]?=a_ (.cells [.fp (eg bx bv F E e) 0] bf)/\1<=b5.length/\b5.length<=232/\a0<=b5.length) ⟨1,b5,sv,cJ,rows,ag,rfl,hX,h0,qx,nE,qx⟩ ?_;rintro n e' g ⟨a0,b5,sv,cJ,rows,Yh,rfl,hX,h0,qx,nE,ha⟩;refine oa ?_;refine dn (λc=>?_) λc=>?_;have cX:a0<b5.length:=by simp at c;omega
 refine wx ?_;refine dn (λc2=>?_) λc2=>?_;rw[BB];intro bl he;refine wy ?_;exact ap5 ag
 · have aKW:b5.length<=200:=by simp at c2;omega
   obtain⟨B,hB⟩:=cO cX;have e1:ct 4 sv (.v (.int .i64 (a0)))=a_ (.fp (bX B) 0):=by
    rcases hX.s with rfl|⟨id,rfl,_⟩<;>exact lN (x:=cg B) (by simp[hB]) rfl
   have e2:∀J,bz J bh 4 (.fp (bX B) 0)=a_ (cg B):=λJ=>rfl;have hz:[cR (.int .u64 0),.v (.int .u64 0),.v (.int .u64 0),.v (.int .u64 0)]=bX 0:=by simp[bX,ec,wd]
   have Xw:=hX.app (x:=[bw (bX 0) bf]);have vX:(g++[bw (bX 0) bf])[0]?=a_ (.cells [.fp (eg bx bv F E e) 0] bf):=bS h0;have Xi:(g++[bw (bX 0) bf])[g.length]?=a_ (.cells (bX 0) bf):=af
   have Jz:=gl hX.b;have X7:=gl hX.t;have MX:=gl h0;obtain⟨aK_,aLa,aCy,aLc,aLd⟩:=Xw.Hq;refine wy ?_;generalize Es:g.length=m6 at Xi Jz X7 MX⊢;generalize g++[bw (bX 0) bf]=g1 at Xw vX Xi aCy⊢;refine wy (cm (LK B _) ?_);rintro _ g2 ⟨rfl,rfl⟩;refine wy ?_;rw[zR];refine⟨_,_,_,rfl,λk S bU ok hR=>?_⟩;refine cm (LL cE (B:=B) (Stop:=λ_=>False) (Inv:=λdone g=>∃C,ie km kt kp bZ (.fp (eg bx bv F E e) 0) b5 sv cJ rows g/\g[0]?=a_ (.cells [.fp (eg bx bv F E e) 0] bf)/\g[m6]?=a_ (.cells (bX C) bf)/\g[k]?=a_ (.b8 .ready bn bU #[49] ok)) ?_ (bS (bS af)) ⟨0,((Xw.app (x:=[bw (bX B) bf])).app (x:=marks bf)).app (x:=[pI .ready bn bU #[49] ok]),bS (bS (bS vX)),bS (bS (bS Xi)),(by rw[S];simp)⟩) ?_
   · rintro done p g3 ⟨C,Xy,MA,MD,kI⟩ iC R0
     refine hR [_] g3 _ rfl ⟨bn,kI⟩ ?_;have se:ux [(1,cU 0 0),(2,cR (.pointer bn)),(3,cR (.int .i64 0)),(4,cU km 0),(5,cR (.int .i64 (a0))),(6,cU m6 0),(48,bg.fn (uD 137) [] [cU g1.length 0])] (List.zip [49] [cR (yt cN (p))])=[(49,cR (yt cN (p))),(1,cU 0 0),(2,cR (.pointer bn)),(3,cR (.int .i64 0)),(4,cU km 0),(5,cR (.int .i64 (a0))),(6,cU m6 0),(48,bg.fn (uD 137) [] [cU g1.length 0])]:=rfl;rw[se];refine fJ ?_;refine⟨⟨bn,kI⟩,λfW=>?_⟩;have J_:k≠0:=by rintro rfl;rw[MA] at kI;cases kI
     have ZY:k≠m6:=by rintro rfl;rw[MD] at kI;cases kI
     have ahV:=Xy.wJ (b':=.b8 .busy fW bU #[49] ok) kI af af af;have rS:(g3.set k (.b8 .busy fW bU #[49] ok))[0]?=a_ (.cells [.fp (eg bx bv F E e) 0] bf):=by rw[bE J_];exact MA
     have Gy:(g3.set k (.b8 .busy fW bU #[49] ok))[m6]?=a_ (.cells (bX C) bf):=by rw[bE ZY];exact MD
     have Jy:(g3.set k (.b8 .busy fW bU #[49] ok))[k]?=a_ (.b8 .busy fW bU #[49] ok):=bT (gl kI);generalize g3.set k (.b8 .busy fW bU #[49] ok)=g5 at ahV rS Gy Jy⊢;refine aI3 (Ax Gy) (ff rS) ?_;refine⟨_,_,bY jF (bY (dD _) dw),atj O aa p,?_⟩;generalize cz[p]?.getD 0=hr;refine rF ?_;refine⟨_,_,bY (mz C) (bY (mz hr) dw),Ki C hr,?_⟩;refine e6 (LR Gy (C|||hr)) ?_;have Xz:=ahV.ao9 (b':=.cells (bX (C|||hr)) bf) Gy aa aa;have wh:(g5.set m6 (.cells (bX (C|||hr)) bf))[k]?=a_ (.b8 .busy fW bU #[49] ok):=by rw[bE (e3 ZY)];exact Jy
     show(∃st pd,_=_)/\_;refine⟨⟨.busy,fW,wh⟩,bh,rfl,λ_=>⟨C|||hr,Xz.wJ wh af af af,?_,?_,bT (gl wh)⟩,λq=>av⟩;rw[bE J_,bE aa];exact rS;rw[bE ZY,bT (gl Gy)]
   rintro r g3 ⟨rfl,⟨C,Xy,MA,MD,kI⟩|hf⟩;refine⟨.ready,bn,kI,ag,?_⟩;have rS:(g3.set k (.b8 .exhausted bn bU #[49] ok))[0]?=a_ (.cells [.fp (eg bx bv F E e) 0] bf):=by rw[bE (by rintro rfl;rw[MA] at kI;cases kI)];exact MA
   have Gy:(g3.set k (.b8 .exhausted bn bU #[49] ok))[m6]?=a_ (.cells (bX C) bf):=by rw[bE (by rintro rfl;rw[MD] at kI;cases kI)];exact MD
   refine e6 @zj.eq_1 ?_;refine e6 (Ax Gy) (cm (agG cE (Xy.wJ (b':=.b8 .exhausted bn bU #[49] ok) kI af af af) jF ho RZ aa cX C) ?_);rintro r g6 ⟨⟨aGP,aHM,aIj,OD,Xz,q1,bt⟩,hK⟩;refine rF ?_;exact⟨n-1,aa,a0+1,aGP,aHM,aIj,OD,aa,rfl,Xz,hK.2 _ _ rS (e3 n1) (e3 n2) (e3 ld) (e3 n4) af,aa,aa,aa⟩;exact hf.elim
 exact⟨b5,sv,cJ,rows,trivial,hX,qx,nE⟩;rintro e' h ⟨b5,sv,cJ,rows,rfl,hX,qx,nE⟩;obtain⟨l0,l1,l2,l3,l4⟩:=hX.Hq;refine wx ?_;refine dn (λc=>?_) λc=>?_;rw[BB];intro bl he;refine wy ?_;exact ap5 ag;rw[BB];intro bl he;exact wy (aHV (hX.fin he) aa aa)
end
section
variable{J:List br}{es:List (bg×bg×Nat)}{cH k:Nat}
def BY(G:Cells):Prop:=∀n:Int, -9223372036854775808<=n->n<=9223372036854775807->∃t:List UInt8,t.length<=30/\cV G bB 171 [n] (bu t)
@[go_sem]def azo(neg):kR .eE neg (.v .nilIface) (.v .nilIface)=a_ (.v (.bool !neg)):=aMp
@[go_sem]def azp(neg)(t)(x):kR .eE neg (.eE t x) (.v .nilIface)=a_ (.v (.bool neg)):=aMp
def PT(r:bg):Prop:=∃(n:Int) (b:Bool),r=.bQ [n,b]/\ -9223372036854775808<=n/\n<=9223372036854775807
def xH{n:Int}{b:Bool}(h: -9223372036854775808<=n)(V:n<=9223372036854775807):∃m bR,dh J m (.bQ [n,b])=a_ bR/\PT bR:=by
 obtain⟨m,hm⟩:=(fy (bG (bH (.int .i64 n)) (bG (bH (.bool b)) c_)):b_ J _ _).done;exact⟨m,_,hm,n,b,rfl,h,V⟩
section
variable{G:Cells}
def aEw(cE:gk G)(hI:BY G)(s)(hs:s.length<=1000000):dM G bB 152 [bu s] PT:=by
 refine en (akr.go ?_);obtain⟨k1,k2,gp⟩:=abr cE ⟨⟨s⟩⟩ (by show s.length<=281474976710656;omega);refine wy ?_;cases I:Dh s with
 |ok v=>
  obtain⟨b1,b2⟩:=Lib.atoiAll_bounds I;obtain⟨t,ht,gH⟩:=hI v b1 b2;refine dx (k1 v I) ?_;refine wx ?_;refine dx gH ?_;refine wy ?_;refine dn (λq=>?_) λq=>(xH b1 b2);exact xH ag ag
 |range=>
  refine dx (gp I) ?_;refine wx ?_;exact xH ag ag
 |_=>
  refine dx (k2 (λv=>by show Dh s≠_;rw[I];simp) (by show Dh s≠_;rw[I];simp)) ?_;refine wx ?_;exact xH ag ag
def aqA(cE:gk G)(hI:BY G)(s)(hs:s.length<=1000000):dM G bB 198 [bu s] PT:=by
 refine en (akC.go ?_);refine wy ?_;refine eo (aEw cE hI s hs) ?_;rintro r ⟨n,b,rfl,Y,V⟩;refine wy ?_;cases b with
 |false=>
  exact wy (xH Y V)
 |true=>
  refine wy ?_;refine dn (λq=>(xH Y V)) λq=>(xH Y V)
def az0(ls)(Y:zX ls+ls.length<=1000000):dM G bB 51 [.sl (ls.map bu) .no] (Am (zX ls+ls.length)):=by
 refine en (alF.go ?_);have azY:(Io ls [32]).length<=zX ls+ls.length:=by
  cases ls with
  |nil=>simp[Io,List.intercalate]
  |cons x r=>rw[Lib.join_length];simp;omega
 refine wy (ic (apA (G:=G) ls .no ⟨⟨[32]⟩⟩ (by show(Io ls [32]).length<=_;omega) aa) (bY (qX (bD rfl)) (bY (dD _) dw)) ?_);exact wy (sQ azY)
end
def FQ(es:List (bg×bg×Nat)):Prop:=∀e∈es,∃(s:List UInt8) (n:Int),e.1=bu s/\e.2.1=n
def au9(a b):fj [.s] (bu a).cells (bu b).cells=a_ (a==b):=by
 show fj [.s] [bu a] [bu b]=_;simp only[bu,fj,nW,VP,Bool.and_true]
def ZB(a):∀{es} (i),FQ es->ri [.s] (bu a).cells es i=a_ bn\/∃(j:Nat) (n:Int),ri [.s] (bu a).cells es i=a_ (a_ (j,.v (.int .i64 n)))
 |[],i,_=>bD rfl
 |e::r,i,h=>by
  obtain⟨s,n,Y,V⟩:=h e (wZ ..);unfold ri;rw[Y,au9];cases(a==s) with
  |true=>exact bF ⟨i,n,by rw[V]⟩
  |false=>exact(ZB a (es:=r) (i+1) λx I=>h x (sw _ I))
def amN(h:FQ es):EM bf [.s] es=bh:=by
 unfold EM;rw[eJ];intro e he;obtain⟨s,n,Y,_⟩:=h e he;rw[Y];rfl
def NR(S:J[k]?=a_ (.eT es cH))(h:FQ es)(a):
  ∃n:Int,xu J bf [.s] (0:Int) bf (.gq k) (bu a)=a_ (.v (.int .i64 n)):=by
 unfold xu s9;simp only[S];rw[if_pos ⟨rfl,amN h⟩]
 rcases ZB a 0 h with q|⟨j,n,q⟩
 rw[q];exact⟨0,rfl⟩;rw[q];exact⟨n,rfl⟩
def ZC(S:J[k]?=a_ (.eT es cH))(h:FQ es)(a)(n:Int):
  ∃mS ny,yS J bf [.s] (.gq k) (bu a) n=a_ (J.set k (.eT mS ny))/\FQ mS:=by
 unfold yS s9;simp only[S];rw[if_pos ⟨rfl,amN h⟩]
 rcases ZB a 0 h with q|⟨j,m,q⟩
 rw[q];refine⟨_,_,rfl,λe he=>?_⟩
 rcases fA.1 he with he|he
 exact h e he;rw[dW.1 he];exact⟨a,n,rfl,rfl⟩;rw[q];refine⟨_,_,rfl,λe he=>?_⟩;rw[Pq] at he;obtain⟨i,Q⟩:=he;rw[List.getElem?_modify] at Q;cases V:es[i]? with
 |none=>rw[V] at Q;simp at Q
 |some e0=>
  rw[V] at Q;simp only[Option.map_eq_map,kf,nj] at Q;split at Q;subst Q;exact⟨a,n,rfl,rfl⟩;subst Q;exact h _ (cv V)
end
section
variable{n:Nat}{v:bg}
def jg(n:Nat)(v:bg):Prop:=∃l:List (List UInt8),cD v (l.map bu)/\l.length<=n
def ar2(n:Nat)(r:bg):Prop:=∃(v:bg) (b:Bool),r=.bQ [v,b]/\jg n v
def PN(n:Nat)(r:bg):Prop:=∃(a:Bool) (v:bg) (b:Bool),r=.bQ [a,v,b]/\jg n v
def jg.nil(n):jg n .bp:=⟨[],bF ⟨rfl,rfl⟩,gW _⟩
def jg.fz(h:jg n v)(J):b_ J v v:=by
 obtain⟨l,hl|⟨rfl,_⟩,_⟩:=h;rw[hl];exact hD (iE λa _=>bH _);exact eB
def jg.one(h:jg n v):cu v=bh/\v.cells=[v]:=by
 obtain⟨l,hl|⟨rfl,_⟩,_⟩:=h;rw[hl];exact⟨rfl,rfl⟩;exact⟨rfl,rfl⟩
def jg.clean(h:jg n v):eY v:=by
 obtain⟨l,hl,_⟩:=h;exact qX hl
def VE{J}{l:List (List UInt8)}(h:de J v (l.map bu) 1 9)(hl:l.length<=n):∃v',b_ J v v'/\jg n v':=by
 rcases h with⟨rfl,z⟩|⟨id,rfl,_⟩
 exact⟨_,eB,jg.nil n⟩;exact⟨_,hD (iE λa _=>bH _),l,bD rfl,hl⟩
structure xk(k:Nat)(l:List (List UInt8))(t:List UInt8)(y:br)(h:List br):Prop where
 b0:h[0]?=a_ (.cells [.bp] bf)
 b1:h[1]?=a_ (.cells [bf] bf)
 b2:∃bx,h[2]?=a_ (.cells [bx] bf)/\de h bx (l.map bu) 1 9
 b3:h[3]?=a_ (.cells [bu t] bf)
 b4:h[4]?=a_ (.cells [bu [44]] bf)
 ot:h[5]?=a_ (.cells [(0:Int)] bf)
 bk:h[k]?=a_ y
 kk:7<=k
section
variable{k:Nat}{l:List (List UInt8)}{t:List UInt8}{y:br}{h:List br}
def xk.abc(s:xk k l t y h)(hy:∀c n e,y≠.tok c n e)(y'):xk k l t y' (h.set k y'):=by
 obtain⟨bx,q1,bt⟩:=s.b2;have S:=s.kk;refine⟨?_,?_,⟨bx,?_,?_⟩,?_,?_,?_,bT (gl s.bk),S⟩;rw[bE aa];exact s.b0;rw[bE aa];exact s.b1;rw[bE aa];exact q1
 rcases bt with z|⟨id,b9,z2⟩
 exact bD z;exact bF ⟨id,b9,by rw[bE (by rintro rfl;rw[s.bk] at z2;cases z2;exact hy _ _ _ rfl)];exact z2⟩;rw[bE aa];exact s.b3;rw[bE aa];exact s.b4;rw[bE aa];exact s.ot
def xk.aGM(s:xk k l t y h)(t'):xk k l t' y (h.set 3 (.cells [bu t'] bf)):=by
 obtain⟨bx,q1,bt⟩:=s.b2;have S:=s.kk;refine⟨?_,?_,⟨bx,?_,?_⟩,bT (gl s.b3),?_,?_,?_,S⟩;rw[bE aa];exact s.b0;rw[bE aa];exact s.b1;rw[bE aa];exact q1
 rcases bt with z|⟨id,b9,z2⟩
 exact bD z;exact bF ⟨id,b9,by rw[bE (by rintro rfl;rw[s.b3] at z2;cases z2)];exact z2⟩;rw[bE aa];exact s.b4;rw[bE aa];exact s.ot;rw[bE aa];exact s.bk
def xk.push(s:xk k l t y h)(hy:∀c n e,y≠.tok c n e)(hl:l.length<=200000)(w):∃bx cl g,h[2]?=a_ (.cells [bx] bf)/\ei h 1 16 9 bx (.sl [bu w] .exact)=a_ (cl,g)/\bL g 1 (.mp 2 0) cl=a_ (g.set 2 (.cells [cl] bf))/\xk k (l++[w]) t y (g.set 2 (.cells [cl] bf)):=by
 obtain⟨bx,q1,bt⟩:=s.b2;have S:=s.kk;obtain⟨cl,g,e1,hA,bP,bK,hk2⟩:=nv (x:=bu w) (bW:=16) bt (zA l) rfl ag ag ah;have gI:∀{j} {b:br},h[j]?=a_ b->(∀c n e,b≠.tok c n e)->g[j]?=a_ b:=λq O=>hk2 _ _ q λxs z=>by
  rcases bt with⟨b9,_⟩|⟨id,b9,z2⟩
  rw[b9] at z;cases z;rw[b9] at z;cases z;rw[q] at z2;cases z2;exact O _ _ _ rfl
 have c2:=gI q1 af;refine⟨bx,cl,g,q1,e1,rC az c2,?_⟩
 refine⟨?_,?_,⟨cl,bT (gl c2),?_⟩,?_,?_,?_,?_,S⟩;rw[bE aa];exact(gI s.b0 af);rw[bE aa];exact(gI s.b1 af);rw[gC]
 rcases hA with z|⟨id,b9,z2⟩
 exact bD z;exact bF ⟨id,b9,by rw[bE (by rintro rfl;rw[c2] at z2;cases z2)];exact z2⟩;rw[bE aa];exact(gI s.b3 af);rw[bE aa];exact(gI s.b4 af);rw[bE aa];exact(gI s.ot af);rw[bE aa];exact(gI s.bk hy)
end
section
variable{G:Cells}
def aEb(cE:gk G)(s)(hs:s.length<=100000):dM G bB 261 [bu s] (ar2 100001):=by
 refine en (ak8.go ?_);refine wy (cm (aGG s [44] _) ?_);rintro _ g ⟨rfl,rfl⟩;refine wy ?_;rw[zR];refine⟨_,_,_,rfl,λk S bU ok hR=>?_⟩;have M4:k=7:=S;subst M4;refine cm (aHg aa (Inv:=λt h=>∃l,l.length+t.length<=s.length/\xk 7 l t (.b8 .ready bn bU #[8] ok) h) (Lu:=λt h=>∃l,l.length+t.length<=s.length+1/\xk 7 l t (.b8 .ready bn bU #[8] ok) h)
  (Stop:=λh=>h[7]?=a_ (.b8 .done (a_ .ret) bU #[8] ok)/\h[0]?=a_ (.cells [.bp] bf)/\h[1]?=a_ (.cells [bf] bf)) (λt J ⟨l,_,q⟩=>⟨q.b3,q.b4,q.ot⟩) (λt J ⟨l,_,q⟩=>⟨q.b3,q.b4,q.ot⟩) (λt t' J ⟨l,z,q⟩ cX=>⟨l,aa,q.aGM t'⟩) ?_ ⟨[],af,rfl,rfl,⟨.bp,rfl,bD ⟨rfl,rfl⟩⟩,rfl,rfl,rfl,rfl,cc _⟩) ?_
 rintro t w h ⟨l,hl,hN⟩ hw;refine hR [_] h _ rfl ⟨bn,hN.bk⟩ ?_;have se:ux [(2,cU 0 0),(3,cU 1 0),(4,cU 2 0),(7,bg.fn (uD 282) [] [cU 4 0,cU 3 0,cU 5 0])] (List.zip [8] [bu w])=[(8,bu w),(2,cU 0 0),(3,cU 1 0),(4,cU 2 0),(7,bg.fn (uD 282) [] [cU 4 0,cU 3 0,cU 5 0])]:=rfl;rw[se];refine fJ ?_;refine⟨⟨bn,hN.bk⟩,λfW=>?_⟩;have jk:=hN.abc af (.b8 .busy fW bU #[8] ok);generalize h.set 7 (.b8 .busy fW bU #[8] ok)=g at jk⊢;obtain⟨bx,q1,bt⟩:=jk.b2;obtain⟨v',y1,fR,mc⟩:=B5 bt DT;have bad:(∃st pd,((g.set 0 (.cells [.bp] bf)).set 1 (.cells [.v (.bool bf)] bf))[7]?=a_ (.b8 st pd bU #[8] ok))/\∃e:Bool,cR (.bool bf)=.v (.bool e)/\(e=bh->∃l,l.length+t.length<=s.length+1/\xk 7 l t (.b8 .ready bn bU #[8] ok) (((g.set 0 (.cells [.bp] bf)).set 1 (.cells [.v (.bool bf)] bf)).set 7 (.b8 .done (a_ .ret) bU #[8] ok)))/\(e=bf->(((g.set 0 (.cells [.bp] bf)).set 1 (.cells [.v (.bool bf)] bf)).set 7 (.b8 .done (a_ .ret) bU #[8] ok))[7]?=a_ (.b8 .done (a_ .ret) bU #[8] ok)/\(((g.set 0 (.cells [.bp] bf)).set 1 (.cells [.v (.bool bf)] bf)).set 7 (.b8 .done (a_ .ret) bU #[8] ok))[0]?=a_ (.cells [.bp] bf)/\(((g.set 0 (.cells [.bp] bf)).set 1 (.cells [.v (.bool bf)] bf)).set 7 (.b8 .done (a_ .ret) bU #[8] ok))[1]?=a_ (.cells [.v (.bool bf)] bf)):=by
  have g7:=gl jk.bk;refine⟨⟨.busy,fW,by rw[bE aa,bE aa];exact jk.bk⟩,bf,rfl,λq=>av,λ_=>⟨bT ah,?_,?_⟩⟩;rw[bE aa,bE aa,bT aa];rw[bE aa,bT ah]
 have nG:=rC (w:=.bp) rfl jk.b0;have s1:bL (g.set 0 (.cells [.bp] bf)) 1 (.mp 1 0) (.v (.bool bf))=a_ ((g.set 0 (.cells [.bp] bf)).set 1 (.cells [.v (.bool bf)] bf)):=rC rfl (by rw[bE aa];exact jk.b1);refine fJ ?_;refine eo (YM cE w aa) ?_;rintro r ⟨b,rfl⟩;cases b with
 |false=>
  exact jB @vv @nG @s1 bad
 |true=>
  refine nc @zU (ff q1) ?_;refine dx (L2 y1 mc aa w) ?_;refine wy (cM (λq=>?_) λq=>?_);exact wy bad;obtain⟨cZ,cl,g2,p1,p2,p3,jA⟩:=jk.push af aa w;have ab:e4 1 [bu w]=a_ (.sl [bu w] .exact):=rfl;refine wx ?_;show(∃st pd,_=_)/\_;exact⟨⟨.busy,fW,jA.bk⟩,bh,rfl,λ_=>⟨l++[w],ah,jA.abc af _⟩,λq=>av⟩
 rintro r h ⟨rfl,⟨t,l,hl,hN⟩|⟨h7,h0,Y⟩⟩;refine⟨.ready,bn,hN.bk,ag,?_⟩;have jk:=hN.abc af (.b8 .exhausted bn bU #[8] ok);refine e6 @zj.eq_1 ?_;generalize h.set 7 (.b8 .exhausted bn bU #[8] ok)=g at jk⊢;obtain⟨bx,q1,bt⟩:=jk.b2
 have ho:cu bx=bh:=by rcases bt with⟨rfl,_⟩|⟨_,rfl,_⟩<;>rfl
 have nG:=rC ho jk.b0;have s1:bL (g.set 0 (.cells [bx] bf)) 1 (.mp 1 0) bh=a_ ((g.set 0 (.cells [bx] bf)).set 1 (.cells [bh] bf)):=rC rfl (by rw[bE aa];exact jk.b1);refine jB (ff q1) @nG @s1 ?_;rw[BB];intro bl he;have g1:=gl jk.b1;have k0:bl[0]?=a_ (.cells [bx] bf):=by
  have e0:((g.set 0 (.cells [bx] bf)).set 1 (.cells [bh] bf))[0]?=a_ (.cells [bx] bf):=by rw[bE aa,bT (gl jk.b0)]
  rcases he.2 0 with z|⟨_,z,_⟩
  rw[z];exact e0;rw[z] at e0;cases e0
 have k1:bl[1]?=a_ (.cells [bh] bf):=by
  have e0:((g.set 0 (.cells [bx] bf)).set 1 (.cells [bh] bf))[1]?=a_ (.cells [bh] bf):=by rw[bT ah]
  rcases he.2 1 with z|⟨_,z,_⟩
  rw[z];exact e0;rw[z] at e0;cases e0
 have hA:∃v',b_ bl bx v'/\jg 100001 v':=by
  rcases bt with⟨rfl,z⟩|⟨id,rfl,_⟩
  exact⟨_,eB,jg.nil _⟩;exact⟨_,hD (iE λa _=>bH _),l,bD rfl,aa⟩
 obtain⟨v',b9,z2⟩:=hA;refine wy ?_;obtain⟨n,hn⟩:=(fy (bG b9 (bG (bH (.bool bh)) c_)):b_ bl _ _).done;exact⟨n,_,hn,v',bh,rfl,z2⟩;refine⟨.done,a_ .ret,h7,ag,?_⟩;simp -failIfUnchanged -implicitDefEqProofs (disch:=first|assumption|decide|omega) only[jO,oM,oN,↓reduceIte,w6,vB,w7,w8,rE,BS,BT,zj];rw[BB];intro bl he;have J_:(h.set 7 (.b8 .exhausted (a_ .ret) bU #[8] ok))[0]?=a_ (.cells [.bp] bf):=by rw[bE aa];exact h0
 have ZW:(h.set 7 (.b8 .exhausted (a_ .ret) bU #[8] ok))[1]?=a_ (.cells [bf] bf):=by rw[bE aa];exact Y
 have k0:bl[0]?=a_ (.cells [.bp] bf):=by
  rcases he.2 0 with z|⟨_,z,_⟩
  rw[z];exact J_;rw[z] at J_;cases J_
 have k1:bl[1]?=a_ (.cells [bf] bf):=by
  rcases he.2 1 with z|⟨_,z,_⟩
  rw[z];exact ZW;rw[z] at ZW;cases ZW
 refine wy ?_;obtain⟨n,hn⟩:=(fy (bG eB (bG (bH (.bool bf)) c_)):b_ bl _ _).done;exact⟨n,_,hn,.bp,bf,rfl,jg.nil _⟩
def amv(cE:gk G)(s)(hs:s.length<=100000):dM G bB 199 [bu s] (PN 100001):=by
 refine en (akD.go ?_);have fin:∀(J) (a:Bool) (v) (b:Bool),jg 100001 v->∃n bR,dh J n (.bQ [a,v,b])=a_ bR/\PN 100001 bR:=λJ a v b hv=>by
  obtain⟨n,hn⟩:=(fy (bG (bH (.bool a)) (bG (hv.fz J) (bG (bH (.bool b)) c_))):b_ J _ _).done;exact⟨n,_,hn,a,v,b,rfl,hv⟩
 refine wy ?_;refine dn (λq=>(fin _ _ _ _ (jg.nil _))) λq=>?_;refine eo (aEb cE s hs) ?_;rintro r ⟨v,b,rfl,hv⟩;exact fJ (fin _ _ _ _ hv)
end
end
end Go.Proofs.YtplgiomcbchjiaaGreatDoor

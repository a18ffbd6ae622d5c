/- Part 8 of a proof. No condition. -/
import Derived.Test.YtggeooeohcbdhaaGreatDoorZ7
import Derived.Lib.AtoiAllCases
set_option linter.unusedVariables false
set_option linter.unusedSimpArgs false
set_option linter.defProp false
open Bool renaming not_false->rS,not_true->vU,or_eq_true->DA
open Go.aJ.U renaming agg->bT,cells->gm,mp->bB,one->bn,v->bP
open Go.aJ.aa renaming cells->aj,aT->iB
open Go.aJ.qf renaming mk->bA
open Go.aJ.aE renaming mono->aZ,pure->dx,avB->gf
open Go.aJ.gP renaming mono->rT
open Go.aJ renaming Clean->dn
open Go.aJ.aX renaming af->cS,sl->fj,aK->dR,v->aB
open Go.aJ.dD renaming append->zk,cons->aA,map->gh,nil->bW
open Go.Fn renaming func->qM
open Go.IntKind renaming i64->b7
open Go.Lib renaming atoiAll->zl,join->Bq,lens->vW
open Go.Proofs.Tryz renaming prog->az
open Go.Proofs.YtggeooeohcbdhaaGreatDoor.Ext renaming app->jV
open Go.Proofs.YtggeooeohcbdhaaGreatDoor.eS renaming app->qN
open Go.Proofs.YtggeooeohcbdhaaGreatDoor.bJ renaming many->Bs
open Go.Value renaming int->uF
open Int renaming eq_ofNat_of_zero_le->mJ,reduceBEq->x4,reduceBNe->x5,toNat_natCast->uG
open List renaming all_cons->lD,all_eq_true->c_,all_nil->oy,append_assoc->cq,cons_append->jW,drop_zero->nk,ext_getElem?->Bu,getElem?_append_left->ei,getElem?_append_right->er,getElem?_cons_zero->l6,getElem?_drop->qd,getElem?_eq_getElem->br,getElem?_eq_none->hG,getElem?_eq_some_iff->bE,getElem?_map->eC,getElem?_set_ne->av,getElem?_set_self->aR,length_append->cB,length_cons->dm,length_eq_one_iff->Bv,length_map->b_,length_nil->fQ,length_pos_iff->DK,length_set->rU,length_singleton->nq,map_append->eX,map_cons->eD,map_nil->kX,mem_append->dZ,mem_cons->ek,mem_cons_of_mem->qP,mem_cons_self->zw,mem_iff_getElem?->Kf,mem_map->cO,mem_of_getElem?->bG,mem_or_eq_of_mem_set->Ga,mem_singleton->cr,nil_append->eR,not_mem_nil->oz,replicate->dL,set_set->ajn,sum_cons->wh,sum_nil->DL,take_left'->OX,take_length->rV,take_of_length_le->kG
open Nat renaming add_assoc->lF,add_zero->rW,le_refl->bl,le_trans->fk,lt_of_lt_of_le->OZ,lt_or_ge->cE,lt_succ_self->Bw,mul_le_mul_right->mK,one_mul->Bx,reduceAdd->rX,reduceEqDiff->s5,reduceLT->s6,reduceLeDiff->s7,sub_self->kj,succ_mul->qR,testBit_or->O0,testBit_two_pow->Wj,zero_add->e5,zero_le->ic
open Ne renaming symm->dr
open Option renaming map_some->ie
open Option.some renaming injEq->lG
open Or renaming inl->ay,inr->ax
namespace Go.Proofs.YtggeooeohcbdhaaGreatDoor
open Go Go.aJ Go.RowKit
def ew(B n:Nat):Prop:=∀p,B.testBit p=true->p<n
def ew.mono{B n m}(h:ew B n)(hm:n<=m):ew B m:=λp q=>OZ (h p q) hm
def ew.zero(n):ew 0 n:=λp q=>by simp at q
def ew.or{A B n}(h:ew A n)(k:ew B n):ew (A|||B) n:=λp q=>by
 rw[O0,DA] at q;exact q.elim (h p) (k p)
def ew.one(n):ew (ec [n]) (n+1):=λp q=>by
 unfold ec at q;simp[Wj] at q;omega
structure DV(hb:List aa)(an:Nat)(ak bv:U)(hp:List aa):Prop where
 base:∀(j:Nat) b,hb[j]?=some b->hp[j]?=some b
 own:hb.length<=an
 row:∀j,rowAt bv j->hb.length<=j
 tok:∀j,xN ak j->hb.length<=j
 len:hb.length<=hp.length
def DV.step{hb}{an}{ak bv bD bv'}{hp hp'}(h:DV hb an ak bv hp)(s:eS an ak bv hp bD bv' hp'):DV hb an bD bv' hp':=by
 have hl:=h.len;refine⟨λj b q=>s.keep j b (h.base j b q) (λe=>?_) (λz=>?_) (λz=>?_),h.own,λj z=>?_,λj z=>?_,fk hl s.len⟩;have:=gl q;have:=h.own;omega;have:=gl q;have:=h.row j z;omega;have:=gl q;have:=h.tok j z;omega
 rcases s.row j z with y|y
 exact h.row j y;omega
 rcases s.tok j z with y|y
 exact h.tok j y;omega
def eS.oo{an}{z}{on bq}{u v u' v'}{h h'}(s:eS an u v h u' v' h')(hX:dM an z on bq u v h){j}{cs}(hj:h[j]?=some (.cells cs false))(hk:j≠an):h'[j]?=some (.cells cs false):=by
 refine s.own hj hk (λ⟨m,l,e⟩=>?_) λ⟨xs,e⟩=>?_
 rcases hX.bq with⟨q,_⟩|⟨k,q,ah⟩
 rw[q] at e;cases e;rw[q] at e;cases e;rw[hj] at ah;simp at ah
 rcases hX.on with⟨q,_⟩|⟨id,q,ah⟩
 rw[q] at e;cases e;rw[q] at e;cases e;rw[hj] at ah;cases ah
structure zA(G:Cells)(hb:List aa)(mv:U):Prop where
 one:bn mv=true
 call:∀s hp,pV s=true->(∀(j:Nat) b,hb[j]?=some b->hp[j]?=some b)->gP G az mv [ai s] hp λr hp'=>∃B l,r=a_ B/\hp'=hp++l
def Kv(an:Nat)(z:List U)(on:List Nat)(ak bv:U)(hp:List aa)(c:Nat)(r:U)(hp':List aa):Prop:=∃F E e on' cP bD bv',r=i_ F E e/\dM an z on' cP bD bv' hp'/\eS an ak bv hp bD bv' hp'/\on'.length=on.length+c/\cP.length=on'.length/\ew F on'.length/\ew E on'.length
def BE(G:Cells)(hb:List aa)(an:Nat)(z:List U)(v mv:U)(ps:List bJ)(i:Int):Prop:=∀on bq ak bv hp,dM an z on bq ak bv hp->DV hb an ak bv hp->bq.length=on.length->on.length+cnt ps i<=256->
 aE G az 111 [.mp an 0,v,i,mv] hp (Kv an z on ak bv hp (cnt ps i))
def as_{G}(bz:eE G){hb}{an}{z}{v mv}{ps}(h:qk v ps)(hM:zA G hb mv){i:Nat}{p}(cW:ps[i]?=some p)(hk0:p.kind≠4)(ih:∀x∈p.kids,BE G hb an z v mv ps x):BE G hb an z v mv ps (i):=by
 intro on bq ak bv hp hX yG hlen Ah;have jl:=h.ok i p cW;have m_:=h.no p (bG cW);have iq:=jl.kids;have hc:=Qo h.ok cW;refine abY.go ?_;have cK:=gl hX.b
 have sj:∀x:U,bn x=true->x.cells=[x]:=λx hx=>aDs
 have c1:v.cells=[v]:=aCL
 have c2:mv.cells=[mv]:=sj mv hM.one;have e1:bu 5 v (i:Int)=some (.fp p.cells 0):=h.v.bK (x:=p.aG) aDz rfl;have s1:=vK (hp++[aj [bB an 0] false]++[aj [v] false]++[aj [mv] false]++[aj z9 false]) p;have lv:aq (hp++[aj [bB an 0] false]++[aj [v] false]++[aj [mv] false]++[aj z9 false]) false 1 (.mp (hp.length+1) 0)=some v:=c6 aCJ;have h1:dM an z on bq ak bv (hp++[aj [bB an 0] false]++[aj [v] false]++[aj [mv] false]++[aj z9 false]++[aj p.cells false]):=hX.app.app.app.app.app;have t1:eS an ak bv hp ak bv (hp++[aj [bB an 0] false]++[aj [v] false]++[aj [mv] false]++[aj z9 false]++[aj p.cells false]):=(((qN.trans qN).trans qN).trans qN).trans qN;have m4:(hp++[aj [bB an 0] false]++[aj [v] false]++[aj [mv] false]++[aj z9 false]++[aj p.cells false])[hp.length]?=some (.cells [.mp an 0] false):=aBI
 have m5:(hp++[aj [bB an 0] false]++[aj [v] false]++[aj [mv] false]++[aj z9 false]++[aj p.cells false])[hp.length+1]?=some (.cells [v] false):=aCJ
 have m7:(hp++[aj [bB an 0] false]++[aj [v] false]++[aj [mv] false]++[aj z9 false]++[aj p.cells false])[hp.length+2]?=some (.cells [mv] false):=aCJ
 have m8:(hp++[aj [bB an 0] false]++[aj [v] false]++[aj [mv] false]++[aj z9 false]++[aj p.cells false])[hp.length+3]?=some (.cells z9 false):=aCJ
 have m9:(hp++[aj [bB an 0] false]++[aj [v] false]++[aj [mv] false]++[aj z9 false]++[aj p.cells false])[hp.length+4]?=some (.cells p.cells false):=aCJ
 have ji:(hp++[aj [bB an 0] false]++[aj [v] false]++[aj [mv] false]++[aj z9 false]++[aj p.cells false]).length=hp.length+5:=aBI
 generalize hp++[aj [bB an 0] false]++[aj [v] false]++[aj [mv] false]++[aj z9 false]++[aj p.cells false]=g at s1 h1 t1 m4 m5 m7 m8 m9 ji;have lk:(hp++[aj [bB an 0] false]++[aj [v] false]++[aj [mv] false]++[aj z9 false]).length=hp.length+4:=aBI
 rw[lk] at s1;unfold z9 at s1 lv;have yN:∀X:List aa,X[hp.length+4]?=some (.cells p.cells false)->aq X false 1 (.mp (hp.length+4) 0)=some (.v (.int .i64 p.kind))/\aq X false 1 (.mp (hp.length+4) 3)=some (ai p.name)/\aq X false 1 (.mp (hp.length+4) 4)=some p.kv/\aq X true 5 (.mp (hp.length+4) 0)=some p.aG:=λX q=>by
  simp only[aq,q];exact⟨rfl,rfl,rfl,rfl⟩
 refine ze @cB.{0} @lF ((yN g m9).1) ?_;refine bA (λq=>?_) λq=>?_;have q':p.kind=1:=aBN
 rw[if_pos q'] at hc;have hnm:pV p.name=true:=by
  rcases jl.1 with z|z|z
  exact z.2.2.2.1;omega;omega
 have apD:on.length<256:=aBH
 have sa:ck G az 99 [.sl [ag (on.length:Int)] .no] (a_ (ec [on.length])):=TK (ay rfl) (λn hn=>by rw[cr.1 hn];exact apD) aBI;have ci:lI (.sl [ag (on.length:Int)] .exact) (.sl [ag (on.length:Int)] .no):=jZ λx hx c hc=>by
  rw[cr.1 hx] at hc;rw[cr.1 (show c∈[ag (on.length:Int)] from hc)];exact bM _
 refine wx ?_;refine aE.pu sa ?_;have fP:aF (g++[aj [.v (.int .u64 0),.v (.int .u64 0),.v (.int .u64 0),.v (.int .u64 0)] false]) 4 (.mp g.length 0) (a_ (ec [on.length]))=some (g++[aj (aO (ec [on.length])) false]):=by
  simp only[aF,er (bl _),kj,l6,dJ];have e:(a_ (ec [on.length])).cells=aO (ec [on.length]):=rfl;rw[e,if_pos ⟨rfl,by simp[aO],rfl⟩];simp[putAt,aO]
 have h2:dM an z on bq ak bv (g++[aj (aO (ec [on.length])) false]):=h1.app;have t2:eS an ak bv hp ak bv (g++[aj (aO (ec [on.length])) false]):=t1.trans qN;have gF:(g++[aj (aO (ec [on.length])) false])[hp.length]?=some (.cells [bB an 0] false):=aM m4;have CY:(g++[aj (aO (ec [on.length])) false])[hp.length+2]?=some (.cells [mv] false):=aM m7;have vr:(g++[aj (aO (ec [on.length])) false])[hp.length+3]?=some (.cells z9 false):=aM m8;have IX:(g++[aj (aO (ec [on.length])) false])[hp.length+4]?=some (.cells p.cells false):=aM m9;have vq:(g++[aj (aO (ec [on.length])) false])[hp.length+5]?=some (.cells (aO (ec [on.length])) false):=by rw[<-ji];simp
 rw[ji] at fP;refine ni ?_;generalize g++[aj (aO (ec [on.length])) false]=g2 at h2 t2 gF CY vr IX vq⊢;refine azk (c6 gF) @h2.S4 (c6 CY) ((yN g2 IX).2.1) (rT (hM.call p.name g2 hnm (yG.step t2).base) ?_);rintro _ g3 ⟨B,x,rfl,rfl⟩;have h3:dM an z on bq ak bv (g2++x):=h2.app;have t3:eS an ak bv hp ak bv (g2++x):=t2.trans qN;have gF:(g2++x)[hp.length]?=some (.cells [bB an 0] false):=aM gF;have vr:(g2++x)[hp.length+3]?=some (.cells z9 false):=aM vr;have vq:(g2++x)[hp.length+5]?=some (.cells (aO (ec [on.length])) false):=aM vq;generalize g2++x=g4 at h3 t3 gF vr vq⊢;obtain⟨bD,g5,g6,a1,a2,h4,t4⟩:=h3.avF aBH B;have I5:∀j,hp.length<=j->¬rowAt bv j:=λj hj=>hX.bq.low hj;have gu:∀j,hp.length<=j->¬xN ak j:=λj hj=>KN hX.on hj;have kD:=t4.own gF aBH (I5 _ aBH) (gu _ aBH);have TG:=t4.own vr aBH (I5 _ aBH) (gu _ aBH);have au1:=t4.own vq aBH (I5 _ aBH) (gu _ aBH);refine xQ (c6 gF) @h3.S4 @PE @a1 @a2 @qE ?_;obtain⟨bv',g7,g8,b1,b2,h5,t5,pS⟩:=h4.avD aBH 0;have Ee:a_ 0=.agg [.v (.int .u64 0),.v (.int .u64 0),.v (.int .u64 0),.v (.int .u64 0)]:=by simp[a_,aO,cw,wd]
 have cl:=PE 0;rw[Ee] at b1 cl;have t45:=t3.trans t4;have aoU:=t45.len;have afA:∀j,hp.length<=j->j<g4.length->¬xN bD j:=λj hj hj2 z=>by
  rcases t4.tok j z with y|y
  exact gu j hj y;omega
 have aeW:∀{j} {b},g4[j]?=some b->j<g4.length:=λq=>gl q;have Uo:=t5.own TG aBH (I5 _ aBH) (afA _ aBH (aeW vr));have avX:=t5.own au1 aBH (I5 _ aBH) (afA _ aBH (aeW vq));have fz:cm [.v (.int .u64 0),.v (.int .u64 0),.v (.int .u64 0),.v (.int .u64 0)] []=some [.v (.int .u64 0),.v (.int .u64 0),.v (.int .u64 0),.v (.int .u64 0)]:=rfl;have l10:aq g8 true 4 (.mp (hp.length+5) 0)=some (a_ (ec [on.length])):=by simp only[aq,avX];rfl
 have fp:cm [.v (.int .u64 0),.v (.int .u64 0),.v (.int .u64 0),.v (.int .u64 0),.v (.int .u64 0),.v (.int .u64 0),.v (.int .u64 0),.v (.int .u64 0),false] [(0,4,a_ (ec [on.length])),(4,4,a_ (ec [on.length]))]=some (aU (ec [on.length]) (ec [on.length]) false):=rfl;have kU:aF g8 9 (.mp (hp.length+3) 0) (.agg (aU (ec [on.length]) (ec [on.length]) false))=some (g8.set (hp.length+3) (.cells (aU (ec [on.length]) (ec [on.length]) false) false)):=uh Uo _ _ _;have ua:=(fO (aR (a:=.cells (aU (ec [on.length]) (ec [on.length]) false) false) (gl Uo))).2.2.2;refine vS (dV (c6 kD) (c6 (pS _ _ kD)) @h4.aeF @fz) @cl @b1 @b2 @l10 @fp @kU @ua @qE ?_;have hkn:hp.length+3≠an:=aBH
 refine⟨ec [on.length],ec [on.length],false,on++[B],bq++[0],bD,bv',rfl,h5.fA Uo hkn,(t45.trans t5).fA aBH,by rw[cB,hc];rfl,by simp[hlen],?_,?_⟩;rw[cB];exact ew.one _;rw[cB];exact ew.one _;have q':p.kind≠1:=aBN
 rw[if_neg q'] at hc;refine wy (bA (λdI=>?_) λdI=>?_);exact absurd aC5 hk0;have vz:p.kind≠4:=aC5
 rw[if_neg vz,Bx] at hc;refine wy (bA (λaN=>?_) λaN=>?_);have azC:aU 0 0 false=[.v (.int .u64 0),.v (.int .u64 0),.v (.int .u64 0),.v (.int .u64 0),.v (.int .u64 0),.v (.int .u64 0),.v (.int .u64 0),.v (.int .u64 0),.v (.bool false)]:=by simp[aU,cw,wd]
 have h2:dM an z on bq ak bv (g++[aj (aU 0 0 false) false]):=h1.app;have t2:eS an ak bv hp ak bv (g++[aj (aU 0 0 false) false]):=t1.trans qN;have gF:(g++[aj (aU 0 0 false) false])[hp.length]?=some (.cells [bB an 0] false):=aM m4;have gS:(g++[aj (aU 0 0 false) false])[hp.length+1]?=some (.cells [v] false):=aM m5;have CY:(g++[aj (aU 0 0 false) false])[hp.length+2]?=some (.cells [mv] false):=aM m7;have vr:(g++[aj (aU 0 0 false) false])[hp.length+3]?=some (.cells z9 false):=aM m8;have IX:(g++[aj (aU 0 0 false) false])[hp.length+4]?=some (.cells p.cells false):=aM m9;have vq:(g++[aj (aU 0 0 false) false])[hp.length+5]?=some (.cells (aU 0 0 false) false):=by rw[<-ji];simp
 generalize h_:g++[aj (aU 0 0 false) false]=g2 at h2 t2 gF gS CY vr IX vq;rw[azC] at h_;have atN:=vn m_ (fk iq aBJ);refine wy ?_;refine cj (λj e h=>∃F E e' on' cP bD bv',e=[(4,.mp hp.length 0),(5,.mp (hp.length+1) 0),(7,.mp (hp.length+2) 0),(8,.mp (hp.length+3) 0),(11,.mp (hp.length+5) 0),(68,p.kv),(69,ag p.kids.length),(70,ag j)]/\dM an z on' cP bD bv' h/\eS an ak bv hp bD bv' h/\on'.length=on.length+((p.kids.take j).map λk=>cnt ps k).sum/\cP.length=on'.length/\ew F on'.length/\ew E on'.length/\
  h[hp.length]?=some (.cells [bB an 0] false)/\h[hp.length+1]?=some (.cells [v] false)/\h[hp.length+2]?=some (.cells [mv] false)/\h[hp.length+3]?=some (.cells z9 false)/\h[hp.length+5]?=some (.cells (aU F E e') false)) p.kids.length ⟨0,0,false,on,bq,ak,bv,rfl,h2,t2,aBI,hlen,ew.zero _,ew.zero _,gF,gS,CY,vr,vq⟩ ?_ ?_
 rintro j e h' hj ⟨F,E,e',on',cP,bD,bv',rfl,hN,hS,hL,qv,hF,hE,b4,pg,zR,u0,zQ⟩;obtain⟨x,hx⟩:=cD hj;have oN:=bG hx;obtain⟨pk,k1,k2⟩:=(CK p h').get hx;have uz:=vL (f:=λx=>cnt ps x) hx;have sl:=y_ (λx=>cnt ps x) p.kids (j+1);have HJ:=yG.step hS;refine wy (aZ (ih x oN on' cP bD bv' h' hN HJ qv aBH) ?_);rintro _ nC ⟨eI,en,n8,lV,n4,gw,eU,rfl,gM,eB,Ru,Rv,rq,jL⟩;have d4:=eB.oo hN b4 aBH;have d5:=eB.oo hN pg aBH;have d7:=eB.oo hN zR aBH;have d8:=eB.oo hN u0 aBH;have d10:=eB.oo hN zQ aBH;have fP:aF (nC++[aj z9 false]) 9 (.mp nC.length 0) (i_ eI en n8)=some (nC++[aj (aU eI en n8) false]):=by
  have:=uh (X:=nC++[aj z9 false]) (m:=nC.length) aBI eI en n8;rw[this];simp
 unfold z9 at fP;have Ag:dM an z lV n4 gw eU (nC++[aj (aU eI en n8) false]):=gM.app;have mq:eS an ak bv hp gw eU (nC++[aj (aU eI en n8) false]):=(hS.trans eB).trans qN;have f4:(nC++[aj (aU eI en n8) false])[hp.length]?=_:=aM d4;have f5:(nC++[aj (aU eI en n8) false])[hp.length+1]?=_:=aM d5;have f7:(nC++[aj (aU eI en n8) false])[hp.length+2]?=_:=aM d7;have f8:(nC++[aj (aU eI en n8) false])[hp.length+3]?=_:=aM d8;have f10:(nC++[aj (aU eI en n8) false])[hp.length+5]?=_:=aM d10;have f11:(nC++[aj (aU eI en n8) false])[nC.length]?=some (.cells (aU eI en n8) false):=aBI
 generalize nC++[aj (aU eI en n8) false]=X at fP Ag mq f4 f5 f7 f8 f10 f11;refine ze @fP ((fO f10).1) ((fO f11).1) ?_;refine⟨_,_,aP (jY F) (aP (jY eI) bS),Fj F eI,?_⟩;refine kg ((fO f10).2.1) ((fO f11).2.1) ?_;refine⟨_,_,aP (jY E) (aP (jY en) bS),Fj E en,?_⟩;have fb:∀b:Bool,cm [.v (.int .u64 0),.v (.int .u64 0),.v (.int .u64 0),.v (.int .u64 0),.v (.int .u64 0),.v (.int .u64 0),.v (.int .u64 0),.v (.int .u64 0),.v (.bool false)] [(0,4,a_ (F|||eI)),(4,4,a_ (E|||en)),(8,1,.v (.bool b))]=some (aU (F|||eI) (E|||en) b):=λb=>rfl;have sp:∀b:Bool,aF X 9 (.mp (hp.length+5) 0) (.agg (aU (F|||eI) (E|||en) b))=some (X.set (hp.length+5) (.cells (aU (F|||eI) (E|||en) b) false)):=λb=>Jf f10 _ _ _;have out:∀b:Bool,∃F' E' e'' on' cP bD bv',dM an z on' cP bD bv' (X.set (hp.length+5) (.cells (aU (F|||eI) (E|||en) b) false))/\eS an ak bv hp bD bv' (X.set (hp.length+5) (.cells (aU (F|||eI) (E|||en) b) false))/\on'.length=on.length+((p.kids.take (j+1)).map λk=>cnt ps k).sum/\cP.length=on'.length/\ew F' on'.length/\ew E' on'.length/\
   (X.set (hp.length+5) (.cells (aU (F|||eI) (E|||en) b) false))[hp.length]?=some (.cells [bB an 0] false)/\(X.set (hp.length+5) (.cells (aU (F|||eI) (E|||en) b) false))[hp.length+1]?=some (.cells [v] false)/\(X.set (hp.length+5) (.cells (aU (F|||eI) (E|||en) b) false))[hp.length+2]?=some (.cells [mv] false)/\(X.set (hp.length+5) (.cells (aU (F|||eI) (E|||en) b) false))[hp.length+3]?=some (.cells z9 false)/\(X.set (hp.length+5) (.cells (aU (F|||eI) (E|||en) b) false))[hp.length+5]?=some (.cells (aU F' E' e'') false):=λb=>
  ⟨F|||eI,E|||en,b,lV,n4,gw,eU,Ag.fA f10 aBH,mq.fA aBH,aBH,Rv,(hF.mono aBH).or rq,(hE.mono aBH).or jL,by rw[av aBH];exact f4,by rw[av aBH];exact f5,by rw[av aBH];exact f7,by rw[av aBH];exact f8,aR (gl f10)⟩
 cases e' with
 |true=>
  refine fB ((fO f10).2.2.1) @fb @sp ?_;obtain⟨F',E',e'',on',cP,bD,bv',w⟩:=out true;exact⟨F',E',e'',on',cP,bD,bv',rfl,w⟩
 |false=>
  refine kf ((fO f10).2.2.1) ((fO f11).2.2.1) @fb @sp ?_;obtain⟨F',E',e'',on',cP,bD,bv',w⟩:=out n8;exact⟨F',E',e'',on',cP,bD,bv',rfl,w⟩
 rintro e h' ⟨F,E,e',on',cP,bD,bv',rfl,hN,hS,hL,qv,hF,hE,b4,pg,zR,u0,zQ⟩;rw[rV] at hL;have kU:aF h' 9 (.mp (hp.length+3) 0) (i_ F E e')=some (h'.set (hp.length+3) (.cells (aU F E e') false)):=uh u0 _ _ _;have ua:=(fO (aR (a:=.cells (aU F E e') false) (gl u0))).2.2.2;refine kf @ag.eq_1 ((fO zQ).2.2.2) @kU @ua ?_;exact⟨F,E,e',on',cP,bD,bv',rfl,hN.fA u0 aBH,hS.fA aBH,by rw[hc];exact hL,qv,hF,hE⟩;have f0:cm [.v (.int .u64 0),.v (.int .u64 0),.v (.int .u64 0),.v (.int .u64 0),.v (.int .u64 0),.v (.int .u64 0),.v (.int .u64 0),.v (.int .u64 0),false] [(8,1,true)]=some (aU 0 0 true):=by
  have:aU 0 0 true=[.v (.int .u64 0),.v (.int .u64 0),.v (.int .u64 0),.v (.int .u64 0),.v (.int .u64 0),.v (.int .u64 0),.v (.int .u64 0),.v (.int .u64 0),.v (.bool true)]:=by simp[aU,cw,wd]
  rw[this];rfl
 have ot:aF (g++[aj z9 false]) 9 (.mp g.length 0) (.agg (aU 0 0 true))=some (g++[aj (aU 0 0 true) false]):=by
  have:=uh (X:=g++[aj z9 false]) (m:=g.length) aBI 0 0 true;unfold i_ at this;rw[this];simp
 unfold z9 at ot;have h2:dM an z on bq ak bv (g++[aj (aU 0 0 true) false]):=h1.app;have t2:eS an ak bv hp ak bv (g++[aj (aU 0 0 true) false]):=t1.trans qN;have gF:(g++[aj (aU 0 0 true) false])[hp.length]?=some (.cells [bB an 0] false):=aM m4;have gS:(g++[aj (aU 0 0 true) false])[hp.length+1]?=some (.cells [v] false):=aM m5;have CY:(g++[aj (aU 0 0 true) false])[hp.length+2]?=some (.cells [mv] false):=aM m7;have vr:(g++[aj (aU 0 0 true) false])[hp.length+3]?=some (.cells z9 false):=aM m8;have IX:(g++[aj (aU 0 0 true) false])[hp.length+4]?=some (.cells p.cells false):=aM m9;have vq:(g++[aj (aU 0 0 true) false])[hp.length+5]?=some (.cells (aU 0 0 true) false):=by rw[<-ji];simp
 rw[ji] at ot;refine wy ?_;have atN:=vn m_ (fk iq aBJ);refine wy ?_;refine cj (λj e h=>∃F E e' on' cP bD bv',e=[(4,.mp hp.length 0),(5,.mp (hp.length+1) 0),(7,.mp (hp.length+2) 0),(8,.mp (hp.length+3) 0),(15,.mp (hp.length+5) 0),(100,p.kv),(101,ag p.kids.length),(102,ag j)]/\dM an z on' cP bD bv' h/\eS an ak bv hp bD bv' h/\on'.length=on.length+((p.kids.take j).map λk=>cnt ps k).sum/\cP.length=on'.length/\ew F on'.length/\ew E on'.length/\
  h[hp.length]?=some (.cells [bB an 0] false)/\h[hp.length+1]?=some (.cells [v] false)/\h[hp.length+2]?=some (.cells [mv] false)/\h[hp.length+3]?=some (.cells z9 false)/\h[hp.length+5]?=some (.cells (aU F E e') false)) p.kids.length ⟨0,0,true,on,bq,ak,bv,rfl,h2,t2,aBI,hlen,ew.zero _,ew.zero _,gF,gS,CY,vr,vq⟩ ?_ ?_
 rintro j e h' hj ⟨F,E,e',on',cP,bD,bv',rfl,hN,hS,hL,qv,hF,hE,b4,pg,zR,u0,zQ⟩;obtain⟨x,hx⟩:=cD hj;have oN:=bG hx;obtain⟨pk,k1,k2⟩:=(CK p h').get hx;have uz:=vL (f:=λx=>cnt ps x) hx;have sl:=y_ (λx=>cnt ps x) p.kids (j+1);have HJ:=yG.step hS;refine azo (c6 b4) (c6 pg) (c6 zR) ((fO zQ).2.2.2) (aZ (ih x oN on' cP bD bv' h' hN HJ qv aBH) ?_);rintro _ nC ⟨eI,en,n8,lV,n4,gw,eU,rfl,gM,eB,Ru,Rv,rq,jL⟩;have d4:=eB.oo hN b4 aBH;have d5:=eB.oo hN pg aBH;have d7:=eB.oo hN zR aBH;have d8:=eB.oo hN u0 aBH;have d10:=eB.oo hN zQ aBH;refine gV (c6 d4) ((fO d10).2.2.2) @qE (aZ (MB bz gM F E eI en e' n8 (λp hp _=>by have:=hE p hp;omega)) ?_);rintro _ Rm ⟨rfl,Ag,mq⟩;have f4:=mq.oo gM d4 aBH;have f5:=mq.oo gM d5 aBH;have f7:=mq.oo gM d7 aBH;have f8:=mq.oo gM d8 aBH;have f10:=mq.oo gM d10 aBH;have sp:=Jf f10 (if e' then F|||eI else F) (if n8 then en|||E else en) (e'&&n8);refine nP @sp @nM.eq_1 @oR.eq_1 @true_and @and_true ?_;refine⟨_,_,_,lV,ng n4 eI (els E),gw,eU,rfl,Ag.fA f10 aBH,(((hS.trans eB).trans mq)).fA aBH,aBH,by rw[CP];exact Rv,?_,?_,?_,?_,?_,?_,aR (gl f10)⟩;split;exact(hF.mono aBH).or rq;exact hF.mono aBH;split;exact jL.or (hE.mono aBH);exact jL;rw[av aBH];exact f4;rw[av aBH];exact f5;rw[av aBH];exact f7;rw[av aBH];exact f8;rintro e h' ⟨F,E,e',on',cP,bD,bv',rfl,hN,hS,hL,qv,hF,hE,b4,pg,zR,u0,zQ⟩;rw[rV] at hL;have kU:aF h' 9 (.mp (hp.length+3) 0) (i_ F E e')=some (h'.set (hp.length+3) (.cells (aU F E e') false)):=uh u0 _ _ _;have ua:=(fO (aR (a:=.cells (aU F E e') false) (gl u0))).2.2.2;refine kf @ag.eq_1 ((fO zQ).2.2.2) @kU @ua ?_;exact⟨F,E,e',on',cP,bD,bv',rfl,hN.fA u0 aBH,hS.fA aBH,by rw[hc];exact hL,qv,hF,hE⟩
def akc{G:Cells}{hb:List aa}{an:Nat}{z:List U}{v mv:U}{ps:List bJ}{p:bJ}{x:Int}(vh:p.kids=[x])(ih:BE G hb an z v mv ps x){on bq:List Nat}{ak bv:U}{hp:List aa}{a b c d:Nat}
  (hX:dM an z on bq ak bv hp) (yG:DV hb an ak bv hp) (hlen:bq.length=on.length) (Ah:on.length+cnt ps x<=256)
  (ha:hp[a]?=some (.cells [.mp an 0] false)) (hb':hp[b]?=some (.cells [v] false)) (hc:hp[c]?=some (.cells p.cells false)) (hd:hp[d]?=some (.cells [mv] false)):
  aE G az 175 [.mp a 0,.mp b 0,.mp c 0,.mp d 0] hp (Kv an z on ak bv hp (cnt ps x)):=by
 refine adp.go ?_;have cK:=gl hX.b;have h1:dM an z on bq ak bv (hp++[aj z9 false]):=hX.app;have t1:eS an ak bv hp ak bv (hp++[aj z9 false]):=qN;have ma:(hp++[aj z9 false])[a]?=some (.cells [bB an 0] false):=aM ha;have IT:(hp++[aj z9 false])[b]?=some (.cells [v] false):=aM hb';have eM:(hp++[aj z9 false])[c]?=some (.cells p.cells false):=aM hc;have md:(hp++[aj z9 false])[d]?=some (.cells [mv] false):=aM hd;have m0:(hp++[aj z9 false])[hp.length]?=some (.cells z9 false):=aBI
 generalize hg:hp++[aj z9 false]=g at h1 t1 ma IT eM md m0;unfold z9 at hg;have l4:aq g false 1 (.mp c 4)=some p.kv:=by simp only[aq,eM];rfl
 obtain⟨pk,k1,k2⟩:=(CK p g).get (i:=0) (x:=x) (by rw[vh];rfl);have aqY:bu 1 p.kv (0:Int)=some pk:=k1;refine wy (aZ (ih on bq ak bv g h1 (yG.step t1) hlen Ah) ?_);rintro _ g2 ⟨F,E,e,lV,n4,gw,eU,rfl,hN,hS,hL,qv,hF,hE⟩;have n0:=hS.oo h1 m0 aBH;have kU:=uh n0 F E e;have ua:=(fO (aR (a:=.cells (aU F E e) false) (gl n0))).2.2.2;refine wy ?_;exact⟨F,E,e,lV,n4,gw,eU,rfl,hN.fA n0 aBH,(t1.trans hS).fA (bl _),hL,qv,hF,hE⟩
section
variable{v:U}{l:List (Nat×Nat×Bool)}
def y2(l:List (Nat×Nat×Bool)):List U:=l.map λx=>i_ x.1 x.2.1 x.2.2
def Pv(v:U)(l:List (Nat×Nat×Bool)):Prop:=(v=.af/\l=[])\/∃t,v=.sl (y2 l) t
section
variable{G:Cells}
def akK(hv:Pv v l)(hp:List aa):aE G az 228 [v] hp λr hp'=>r=.fn (.func 258) [] [.mp hp.length 0]/\hp'=hp++[.cells [v] false]:=by
 refine adO.go ?_
 have q8:v.cells=[v]:=by rcases hv with⟨rfl,_⟩|⟨t,rfl⟩<;>rfl
 exact wx tt
def akL{y:U}(hv:Pv v l)(hl:l.length<=100000){Inv:Nat->List aa->Prop}{Stop:List aa->Prop}{kb:Nat}{hp:List aa}
  (iI:∀i x hp,Inv (i+1) hp->l[i]?=some x->gP G az y [i,i_ x.1 x.2.1 x.2.2] hp λr hp'=>∃c:Bool,r=c/\(c=true->Inv i hp')/\(c=false->Stop hp'))
  (hB:∀i hp,Inv i hp->hp[kb]?=some (.cells [v] false)) (h0:Inv l.length hp):aE G az 258 [y,.mp kb 0] hp λr hp'=>r=.aK []/\(Inv 0 hp'\/Stop hp'):=by
 refine adX.go ?_;have ln:∀hp,bO v hp=some (.v (.int .i64 (l.length:Int)),hp):=λhp=>by
  rcases hv with⟨rfl,rfl⟩|⟨t,rfl⟩
  rfl;simp[nF,goInt,y2]
 have w0:b7.wrap ((l.length:Int)-1)=(l.length:Int)-1:=wrap_i64 aBH aBH;refine wy ?_;refine mF (n:=l.length) (λn e hp=>n<=l.length/\e=[(0,y),(1,.mp kb 0),(3,((n:Int)-1:Int))]/\Inv n hp) ⟨bl _,rfl,h0⟩ ?_;rintro n e hp ⟨hn,rfl,hI⟩;cases n with
 |zero=>
  have c1:decide ((0:Int)<=((0:Nat):Int)-1)=false:=aBJ
  refine di @c1 ?_;exact⟨trivial,ay hI⟩
 |succ n=>
  have e0:((n+1:Nat):Int)-1=(n:Int):=aBH
  have c1:decide ((0:Int)<=(n:Int))=true:=aBI
  obtain⟨x,hx⟩:∃x,l[n]?=some x:=⟨l[n]' aBH,br aBH⟩;have e1:bu 9 v n=some (.fp (aU x.1 x.2.1 x.2.2) 0):=by
   rcases hv with⟨rfl,rfl⟩|⟨t,rfl⟩
   simp at hx;simp only[bu,y2,eC,uG,hx,ie];rw[if_pos aBH];rfl
  have e2:∀hp,aq hp true 9 (.fp (aU x.1 x.2.1 x.2.2) 0)=some (i_ x.1 x.2.1 x.2.2):=λhp=>rfl;rw[e0];refine wy (rT (iI n x hp hI hx) ?_);rintro _ g ⟨c,rfl,k1,k2⟩;cases c with
  |false=>
   refine dP ?_;exact⟨trivial,ax (k2 rfl)⟩
  |true=>
   have w1:b7.wrap ((n:Int)-1)=(n:Int)-1:=wrap_i64 aBH aBH;refine wy ?_;exact⟨n,Bw _,aBH,rfl,k1 rfl⟩
end
end
section
variable{hp:List aa}{v:U}{l:List (List UInt8)}
def Y7(a b c d a2 b2 c2 d2:Nat):∃r:Bool,dN [.i,.i,.i,.i] [cw a,cw b,cw c,cw d] [cw a2,cw b2,cw c2,cw d2]=some r:=by
 have h:=QL .u64 [(a:Int),(b:Int),(c:Int),(d:Int)] [(a2:Int),(b2:Int),(c2:Int),(d2:Int)] rfl;exact⟨_,h⟩
def Y_(A B:Nat):∃b:Bool,q6 [.i,.i,.i,.i] false (a_ A) (a_ B)=some (.v (.bool b)):=by
 obtain⟨d,hd⟩:=Y7 (wd A 0) (wd A 1) (wd A 2) (wd A 3) (wd B 0) (wd B 1) (wd B 2) (wd B 3);refine⟨false !=d,?_⟩;show(dN [.i,.i,.i,.i] [cw (wd A 0),cw (wd A 1),cw (wd A 2),cw (wd A 3)] [cw (wd B 0),cw (wd B 1),cw (wd B 2),cw (wd B 3)]).map (λr=>bP (.bool (false !=r)))=_;rw[hd];rfl
section
variable{G:Cells}{hb:List aa}{mv:U}{k:Nat}
def auV(hM:zA G hb mv){s:List UInt8}(hs:pV s=true)(hk:hp[k]?=some (.cells [mv] false))(hbase:∀(j:Nat) b,hb[j]?=some b->hp[j]?=some b):
  aE G az 109 [ai s,.mp k 0] hp λr hp'=>(∃b:Bool,r=b)/\∃l,hp'=hp++l:=by
 refine acM.go ?_;refine wy (rT (hM.call s hp hs hbase) ?_);rintro _ g ⟨B,l,rfl,rfl⟩;have Ee:a_ 0=.agg [.v (.int .u64 0),.v (.int .u64 0),.v (.int .u64 0),.v (.int .u64 0)]:=by simp[a_,aO,cw,wd]
 obtain⟨b,aoz⟩:=Y_ B 0;rw[Ee] at aoz;refine wy ?_;exact⟨⟨b,rfl⟩,l,rfl⟩
def aqB(hM:zA G hb mv)(hv:bL v (l.map ai))(hl:l.length<=100000)(hn:∀s∈l,pV s=true)(hk:hp[k]?=some (.cells [mv] false))(hbase:∀(j:Nat) b,hb[j]?=some b->hp[j]?=some b):
  aE G az 173 [v,.fn (.func 109) [] [.mp k 0]] hp λr hp'=>(∃n:Int,r=n)/\∃l,hp'=hp++l:=by
 refine adn.go ?_;have ln:=hv.bO;rw[b_] at ln;refine wy ?_;refine cj (λi e h=>e=[(0,v),(1,.fn (.func 109) [] [.mp k 0]),(7,ag l.length),(8,ag i)]/\∃x,h=hp++x) l.length ⟨rfl,[],aBI⟩ ?_ ?_;rintro i e h hi ⟨rfl,x,rfl⟩;obtain⟨s,hs⟩:=cD hi;have e1:bu 1 v i=some (.fp [ai s] 0):=hv.bK (x:=ai s) aEs rfl;refine wy (aZ (auV hM (hn s (bG hs)) (aM hk) λj b q=>aM (hbase j b q)) ?_);rintro _ g ⟨⟨b,rfl⟩,y,rfl⟩;cases b with
 |true=>
  refine wy ?_;exact⟨⟨_,rfl⟩,x++y,aCW⟩
 |false=>
  refine wx ?_;exact⟨rfl,x++y,aCW⟩
 rintro e h ⟨rfl,x,rfl⟩;refine wy ?_;exact⟨⟨_,rfl⟩,x,rfl⟩
def aku(hM:zA G hb mv)(hv:bL v (l.map ai))(hl:l.length<=100000)(hn:∀s∈l,pV s=true)(hk:hp[k]?=some (.cells [mv] false))(hbase:∀(j:Nat) b,hb[j]?=some b->hp[j]?=some b):
  aE G az 108 [v,.fn (.func 109) [] [.mp k 0]] hp λr hp'=>(∃b:Bool,r=b)/\∃l,hp'=hp++l:=by
 refine acL.go ?_;refine wy (aZ (aqB hM hv hl hn hk hbase) ?_);rintro _ g ⟨⟨n,rfl⟩,x,rfl⟩;refine wy ?_;exact⟨⟨_,rfl⟩,x,rfl⟩
end
end
def Sw(n:Nat):∀(l:List UInt8) (k:Nat),qz n l k= -1\/∃i:Nat,qz n l k=((k+i:Nat):Int)/\i<l.length
 |[],k=>ay rfl
 |b::r,k=>by
  unfold qz;split;exact ax ⟨0,rfl,aBI⟩
  rcases Sw n r (k+1) with h|⟨i,h1,h2⟩
  exact ay h;exact ax ⟨i+1,by rw[h1];congr 1;omega,aBK⟩
def Ko(n:Nat)(r:U):Prop:=∃(a b:List UInt8) (f:Bool),r=.aK [ai a,ai b,f]/\a.length<=n/\b.length<=n
def Hq{hp:List aa}{n:Nat}{a b:List UInt8}(f:Bool)(ha:a.length<=n)(hb:b.length<=n):∃m aQ,b9 hp m (.aK [ai a,ai b,f])=some aQ/\Ko n aQ:=by
 obtain⟨m,hm⟩:=(dR (aA (aB _) (aA (aB _) (aA (aB _) bW))):aX hp (.aK [ai a,ai b,f]) _).done;exact⟨m,_,hm,a,b,f,rfl,ha,hb⟩
section
variable{G:Cells}
def al1(s:List UInt8)(c:UInt8)(hs:s.length<=1000000):cx G az 184 [ai s,ai [c]] (Ko s.length):=by
 refine cR (adv.go ?_);refine wy ?_;refine aE.pu (U6 ⟨⟨s⟩⟩ c) ?_;have ht:(⟨⟨s⟩⟩:ByteArray).data.toList=s:=rfl;rw[ht]
 rcases Sw c.toNat s 0 with e|⟨i,e,hi⟩
 rw[e];have c0:decide ((0:Int)<= -1)=false:=aBJ
 exact wy (Hq (b:=[]) false (bl _) (ic _));rw[e,e5];have c1:decide ((0:Int)<=(i:Int))=true:=aBI
 have k1:=λhp=>Lm (l:=s) (j:=i) aBH hp;have k2:=λhp=>Qp (l:=s) (i:=i+1) aBH hp;refine wy ?_;exact Hq true aBK aBI
def YN(s:List UInt8)(c:UInt8)(hs:s.length<=1000000):cx G az 118 [ai s,ai [c]] (Ko s.length):=by
 refine cR (acV.go ?_);refine wy ?_;refine aE.cY (al1 s c hs) ?_;rintro r ⟨a,b,f,rfl,ha,hb⟩;exact wy (Hq f ha hb)
end
section
variable{G:Cells}
def aqC(s:List UInt8)(c:UInt8):ck G az 182 [ai s,ai [c]] (qz c.toNat s 0:Int):=by
 refine ef (adu.go ?_);refine wy ?_;refine aE.pu (U6 ⟨⟨s⟩⟩ c) ?_;exact wy ((aB _).done)
def axb(s sep:List UInt8)(n:Int)(hp:List aa):aE G az 192 [ai s,ai sep,n] hp λr hp'=>r=.fn (.func 242) [] [.mp (hp.length+1) 0,.mp hp.length 0,.mp (hp.length+2) 0]/\hp'=hp++[.cells [ai s] false]++[.cells [ai sep] false]++[.cells [n] false]:=by
 refine adw.go ?_;have q8:∀s,(ai s).cells=[ai s]:=λs=>rfl;have aAa:(bP (.int .i64 n)).cells=[.v (.int .i64 n)]:=rfl;refine kg @cB.{0} @lF ?_;exact⟨trivial,trivial⟩
def axa(s sep:List UInt8)(hp:List aa):aE G az 129 [ai s,ai sep] hp λr hp'=>r=.fn (.func 242) [] [.mp (hp.length+1) 0,.mp hp.length 0,.mp (hp.length+2) 0]/\hp'=hp++[.cells [ai s] false]++[.cells [ai sep] false]++[.cells [(0:Int)] false]:=by
 refine acX.go ?_;refine wy (aZ (axb s sep 0 hp) ?_);rintro _ g ⟨rfl,rfl⟩;exact wx tt
end
def axK{G:Cells}{y:U}{c:UInt8}{s:List UInt8}(hs:s.length<=1000000){Inv Gu:List UInt8->List aa->Prop}{Stop:List aa->Prop}{a b d:Nat}{hp:List aa}
  (hb:∀t hp,Inv t hp->hp[a]?=some (.cells [ai t] false)/\hp[b]?=some (.cells [ai [c]] false)/\hp[d]?=some (.cells [(0:Int)] false))
  (gD:∀t hp,Gu t hp->hp[a]?=some (.cells [ai t] false)/\hp[b]?=some (.cells [ai [c]] false)/\hp[d]?=some (.cells [(0:Int)] false))
  (yJ:∀t t' hp,Gu t hp->t'.length<t.length->Inv t' (hp.set a (.cells [ai t'] false)))
  (iI:∀t w hp,Inv t hp->w.length<=s.length->gP G az y [ai w] hp λr hp'=>∃e:Bool,r=e/\(e=true->Gu t hp')/\(e=false->Stop hp'))
  (h0:Inv s hp):aE G az 242 [y,.mp b 0,.mp a 0,.mp d 0] hp λr hp'=>r=.aK []/\((∃t,Gu t hp')\/Stop hp'):=by
 refine adR.go ?_;have aeP:∀hp,oP (ai [c]) hp=some (.v (.int .i64 1),hp):=λhp=>rfl;refine wy ?_;refine mF (n:=s.length) (λn e hp=>∃t,t.length=n/\t.length<=s.length/\e=[(0,y),(1,.mp b 0),(2,.mp a 0),(3,.mp d 0)]/\Inv t hp) ⟨s,rfl,bl _,rfl,h0⟩ ?_;rintro n e hp ⟨t,rfl,Cx,rfl,hI⟩;refine wy ?_;refine aE.pu (aqC t c) ?_
 rcases Sw c.toNat t 0 with e|⟨i,e,hi⟩
 rw[e];have c0:decide ((-1:Int)<0)=true:=aBJ
 refine wy (rT (iI t t hp hI Cx) ?_);rintro _ g ⟨e,rfl,k1,k2⟩;refine wx ?_;cases e with
 |true=>exact⟨trivial,ay ⟨t,k1 rfl⟩⟩
 |false=>exact⟨trivial,ax (k2 rfl)⟩
 rw[e,e5];have c0:decide ((i:Int)<0)=false:=aBI
 have w0:b7.wrap ((i:Int)+0)=(i:Int):=by rw[wrap_i64 aBH aBH];omega
 have k1:=λhp=>Lm (l:=t) (j:=i) aBH hp;refine wy (rT (iI t (t.take i) hp hI aBK) ?_);rintro _ g ⟨e,rfl,q1,ah⟩;cases e with
 |false=>
  refine dP ?_;exact⟨trivial,ax (ah rfl)⟩
 |true=>
  obtain⟨d1,d2,d3⟩:=gD t g (q1 rfl);refine wx ?_;exact⟨_,aBK,t.drop (i+1),rfl,aBK,trivial,yJ t _ g (q1 rfl) aBK⟩
def SD{G:Cells}(bz:eE G)(s:List UInt8)(hs:s.length<=1000000):cx G az 86 [ai s] gW:=by
 refine cR (aco.go ?_);refine wy ?_;refine aE.cY (T7 bz s hs) ?_;rintro r ⟨v,p,e,rfl,hq⟩;refine wy ?_
 rcases hq with⟨rfl,rfl,ps,hE⟩|⟨he,rfl⟩
 have ln:=hE.v.bO;rw[b_] at ln;have hlen:=hE.len;refine wy ?_;refine b8 (λq=>?_) λq=>?_;obtain⟨y,rfl⟩:∃y,ps=[y]:=Bv.1 aBQ;have e1:bu 5 v (0:Int)=some (.fp y.cells 0):=hE.v.bK (i:=0) (x:=y.aG) rfl rfl;have bQ:∀hp,aq hp false 1 (.fp y.cells 3)=some (ai y.name):=λhp=>rfl;have cC:je 3 (.fp y.cells 0)=some (.fp y.cells 3):=rfl;exact nP @q @e1 @cC @bQ @mj (gj _);exact gj _;have q:(e==0)=false:=aCM
 exact wy (gj _)
section
variable{B j an:Nat}{cs z:List U}{rv u u' v v':U}{h h' h2 hp:List aa}{b:aa}{ps:List (Nat×Nat×Bool)}
def eS.Ns{on bq:List Nat}(s:eS an u v h u' v' h')(hX:dM an z on bq u v h)(hj:h[j]?=some b)(h1:∀cs fz,b≠.cells cs fz)(h2:∀c,b≠.tok c 4 142):h'[j]?=some b:=by
 refine s.keep j _ hj ?_ (λ⟨m,l,e⟩=>?_) λ⟨xs,e⟩=>?_;rintro rfl;rw[hX.b] at hj;cases hj;exact h1 _ _ rfl
 rcases hX.bq with⟨q,_⟩|⟨k,q,ah⟩
 rw[q] at e;cases e;rw[q] at e;cases e;rw[hj] at ah;cases ah;exact h1 _ _ rfl
 rcases hX.on with⟨q,_⟩|⟨id,q,ah⟩
 rw[q] at e;cases e;rw[q] at e;cases e;rw[hj] at ah;cases ah;exact h2 _ rfl
def ajS(an:Nat)(K:List (Nat×List U))(g:List aa):Prop:=∀x∈K,x.1≠an/\g[x.1]?=some (.cells x.2 false)
structure fo(an:Nat)(z:List U)(hp:List aa)(ak bv:U)(w:Nat)(K:List (Nat×List U))(on' cP:List Nat)(bD bv':U)(h:List aa):Prop where
 dQ:dM an z on' cP bD bv' h
 st:eS an ak bv hp bD bv' h
 len:on'.length=w
 nc:cP.length=w
 keep:ajS an K h
section
variable{an:Nat}{z:List U}{hp:List aa}{ak bv:U}{w:Nat}{K:List (Nat×List U)}{on' cP:List Nat}{bD bv':U}{h:List aa}
def fo.move{w2:Nat}{lV n4:List Nat}{gw eU:U}(s:fo an z hp ak bv w K on' cP bD bv' h)(hX:dM an z lV n4 gw eU h2)(hS:eS an bD bv' h gw eU h2)(h1:lV.length=w2)(h3:n4.length=w2):fo an z hp ak bv w2 K lV n4 gw eU h2:=
 ⟨hX,s.st.trans hS,h1,h3,λx hx=>⟨(s.keep x hx).1,hS.oo s.dQ (s.keep x hx).2 (s.keep x hx).1⟩⟩
def fo.app{x:List aa}(s:fo an z hp ak bv w K on' cP bD bv' h):fo an z hp ak bv w K on' cP bD bv' (h++x):=s.move s.dQ.app qN s.len s.nc
def fo.get(s:fo an z hp ak bv w K on' cP bD bv' h)(hx:(j,cs)∈K):h[j]?=some (.cells cs false):=(s.keep _ hx).2
def fo.lt(s:fo an z hp ak bv w K on' cP bD bv' h):an<h.length:=(bE.1 s.dQ.b).1
def fo.new(s:fo an z hp ak bv w K on' cP bD bv' h):fo an z hp ak bv w ((h.length,cs)::K) on' cP bD bv' (h++[.cells cs false]):=by
 have hl:=s.lt;have s2:fo an z hp ak bv w K on' cP bD bv' (h++[.cells cs false]):=s.app;refine⟨s2.dQ,s2.st,s2.len,s2.nc,λx hx=>?_⟩
 rcases ek.1 hx with rfl|hx
 exact⟨by dsimp only;omega,aBI⟩;exact s2.keep x hx
def fo.new2{cs0:List U}(s:fo an z hp ak bv w ((j,cs0)::K) on' cP bD bv' h):fo an z hp ak bv w ((j,cs0)::(h.length,cs)::K) on' cP bD bv' (h++[.cells cs false]):=by
 have s2:=s.new (cs:=cs);refine⟨s2.dQ,s2.st,s2.len,s2.nc,λx hx=>s2.keep x ?_⟩
 rcases ek.1 hx with h|hx
 simp[h]
 rcases ek.1 hx with h|hx
 simp[h];simp[hx]
def fo.swap{a b:Nat×List U}(s:fo an z hp ak bv w (a::b::K) on' cP bD bv' h):fo an z hp ak bv w (b::a::K) on' cP bD bv' h:=by
 refine⟨s.dQ,s.st,s.len,s.nc,λx hx=>s.keep x ?_⟩
 rcases ek.1 hx with h|hx
 simp[h]
 rcases ek.1 hx with h|hx
 simp[h];simp[hx]
def fo.put(cs':List U)(s:fo an z hp ak bv w ((j,cs)::K) on' cP bD bv' h)(hj:hp.length<=j)(hK:∀x∈K,x.1≠j):fo an z hp ak bv w ((j,cs')::K) on' cP bD bv' (h.set j (.cells cs' false)):=by
 have g:=s.keep (j,cs) (zw ..);have hjl:=gl g.2;refine⟨s.dQ.fA g.2 g.1,s.st.fA hj,s.len,s.nc,λx hx=>?_⟩
 rcases ek.1 hx with rfl|hx
 exact⟨g.1,aR hjl⟩;have k:=s.keep x (qP _ hx);exact⟨k.1,by rw[av (dr (hK x hx))];exact k.2⟩
def fo.sub{K':List (Nat×List U)}(s:fo an z hp ak bv w K on' cP bD bv' h)(hs:∀x∈K',x∈K):fo an z hp ak bv w K' on' cP bD bv' h:=⟨s.dQ,s.st,s.len,s.nc,λx hx=>s.keep x (hs x hx)⟩
def fo.UM{k:Nat}{b':aa}(s:fo an z hp ak bv w K on' cP bD bv' h)(hk:h[k]?=some b)(h1:∀cs fz,b≠.cells cs fz)(h2:∀c,b≠.tok c 4 142)(hl:hp.length<=k):fo an z hp ak bv w K on' cP bD bv' (h.set k b'):=by
 have ne:∀{j:Nat} {cs:List U} {fz:Bool},h[j]?=some (.cells cs fz)->k≠j:=λq e=>by
  rw[<-e,hk] at q;cases q;exact h1 _ _ rfl
 have IY:∀{j c:Nat},h[j]?=some (.tok c 4 142)->k≠j:=λq e=>by
  rw[<-e,hk] at q;cases q;exact h2 _ rfl
 refine⟨s.dQ.ext (λj cs fz q=>aEe) (λj c q=>aEf),s.st.fA hl,s.len,s.nc,λx hx=>?_⟩;have g:=s.keep x hx;exact⟨g.1,by rw[av (ne g.2)];exact g.2⟩
def fo.fin(s:fo an z hp ak bv w K on' cP bD bv' h)(he:lH hp.length h h2):fo an z hp ak bv w K on' cP bD bv' h2:=by
 have kp:∀(j:Nat) b,(∀o,b≠.obj o)->h[j]?=some b->h2[j]?=some b:=λj b hb q=>by
  rcases he.2 j with z|⟨_,z,_⟩
  rw[z];exact q;rw[z] at q;cases q;exact absurd rfl (hb _)
 refine⟨s.dQ.ext (λj cs fz q=>kp j _ aBI q) (λj c q=>kp j _ aBI q),⟨by rw[he.1];exact s.st.len,λj b hj h1 nC h3=>?_,s.st.row,s.st.tok⟩,s.len,s.nc,λx hx=>?_⟩;have hjl:=gl hj
 rcases he.2 j with z|⟨z,_,_⟩
 rw[z];exact s.st.keep j b hj h1 nC h3;omega;have g:=s.keep x hx;exact⟨g.1,kp _ _ aBI g.2⟩
end
def tq(B:Nat)(h:List aa)(rv:U)(ps:List (Nat×Nat×Bool)):Prop:=(rv=.af/\ps=[])\/∃id,rv=.sl (y2 ps) (.tok id)/\B<=id/\h[id]?=some (.tok ps.length 9 230)
def tq.sl{B:Nat}{h:List aa}{rv:U}{ps:List (Nat×Nat×Bool)}(s:tq B h rv ps):Pv rv ps:=by
 rcases s with z|⟨id,z,_⟩
 exact ay z;exact ax ⟨_,z⟩
def tq.keep(s:tq B h rv ps)(hk:∀(j:Nat) c,h[j]?=some (.tok c 9 230)->h'[j]?=some (.tok c 9 230)):tq B h' rv ps:=by
 rcases s with z|⟨id,z,z2,z3⟩
 exact ay z;exact ax ⟨id,z,z2,hk _ _ z3⟩
@[go_sem]def afP(l:List (Nat×Nat×Bool)):bV 9 (y2 l)=true:=by
 rw[bV,c_];intro x hx;obtain⟨t,ht,rfl⟩:=cO.1 hx;rfl
def tq.push(s:tq B h rv ps)(hB:B<=h.length)(hn:ps.length<=1000)(F E:Nat)(e:Bool):
  ∃y8 h',cG h 9 72 230 rv (.sl [i_ F E e] .exact)=some (y8,h')/\tq B h' y8 (ps++[(F,E,e)])/\h.length<=h'.length/\(∀(j:Nat) b,h[j]?=some b->(∀c,b≠.tok c 9 230)->h'[j]?=some b)/\∀(j:Nat) b,j<B->h[j]?=some b->h'[j]?=some b:=by
 have hx:=afP ps;have hy:bV 9 [i_ F E e]=true:=rfl;have hfit:(ps.length+1)*72<=140737488355328:=aBH
 rcases s with⟨rfl,rfl⟩|⟨id,rfl,hid,hk⟩
 refine⟨.sl ([]++[i_ F E e]) (.tok h.length),h++[.tok 1 9 230],?_,ax ⟨h.length,rfl,hB,aBI⟩,aBI,λj b q _=>aM q,λj b _ q=>aM q⟩;simp only[fQ,e5] at hfit;simp[cG,e9,ga,contents,hy];have hl:id<h.length:=gl hk;have apq:(y2 ps).length=ps.length:=by simp[y2]
 refine⟨.sl (y2 ps++[i_ F E e]) (.tok id),h.set id (.tok (ps.length+1) 9 230),?_,ax ⟨id,by simp[y2],hid,aCr⟩,aBI,λj b q hne=>?_,λj b hj q=>by rw[av aBH];exact q⟩;simp[cG,e9,ga,contents,hy,hfit,hx,hk,apq];rw[av (λe=>aDJ)];exact q
def eS.rest(s:eS an u v hp u' v' h)(hl:h.length<=h'.length)(hk:∀(j:Nat) b,j<hp.length->h[j]?=some b->h'[j]?=some b):eS an u v hp u' v' h':=
 ⟨fk s.len hl,λj b hj h1 h2 h3=>hk j b (gl hj) (s.keep j b hj h1 h2 h3),s.row,s.tok⟩
def fo.rest{ak bv:U}{w:Nat}{K:List (Nat×List U)}{on' cP:List Nat}{bD bv':U}(s:fo an z hp ak bv w K on' cP bD bv' h)(hl:h.length<=h'.length)(k1:∀(j:Nat) b,h[j]?=some b->(∀c,b≠.tok c 9 230)->h'[j]?=some b)(k2:∀(j:Nat) b,j<hp.length->h[j]?=some b->h'[j]?=some b):fo an z hp ak bv w K on' cP bD bv' h':=
 ⟨s.dQ.ext (λj cs fz q=>k1 _ _ q aBI) (λj c q=>k1 _ _ q aBI),s.st.rest hl k2,s.len,s.nc,λx hx=>⟨(s.keep x hx).1,k1 _ _ (s.keep x hx).2 aBI⟩⟩
end
section
variable{p:bJ}
@[go_sem]def QW:cm [.v (.int .u64 0),.v (.int .u64 0),.v (.int .u64 0),.v (.int .u64 0),.v (.int .u64 0),.v (.int .u64 0),.v (.int .u64 0),.v (.int .u64 0),false] [(8,1,true)]=some (aU 0 0 true):=by
 have:aU 0 0 true=[.v (.int .u64 0),.v (.int .u64 0),.v (.int .u64 0),.v (.int .u64 0),.v (.int .u64 0),.v (.int .u64 0),.v (.int .u64 0),.v (.int .u64 0),.v (.bool true)]:=by simp[aU,cw,wd]
 rw[this];rfl
@[go_sem]def Fl(h:List aa)(F E:Nat)(e:Bool):aF (h++[aj z9 false]) 9 (.mp h.length 0) (i_ F E e)=some (h++[aj (aU F E e) false]):=by
 have:=uh (X:=h++[aj z9 false]) (m:=h.length) aBI F E e;rw[this];simp
def bJ.at6(q:p.high<0):(if(1:Int)>p.low then 1 else p.low)=(p.many:Int):=by
 unfold Bs;rw[if_pos q];split<;>omega
def bJ.aua(q:¬p.high<0):p.high=(p.many:Int):=by
 unfold Bs;rw[if_neg q];omega
def ew.ite{b:Bool}{A B n:Nat}(h:ew A n)(k:ew B n):ew (if b then A else B) n:=by cases b<;>assumption
structure Gz(an:Nat)(z:List U)(hp:List aa)(ak bv:U)(p:bJ)(K:List (Nat×List U))(j w F E:Nat)(em:Bool)(rv:U)(rs:List (Nat×Nat×Bool))(M:List (Nat×List U))(on' cP:List Nat)(bD bv':U)(h:List aa):Prop where
 s:fo an z hp ak bv w ((hp.length+3,aU F E em)::(M++(hp.length+2,z9)::(hp.length+1,p.cells)::(hp.length,[bB an 0])::K)) on' cP bD bv' h
 f:ew F w
 e:ew E w
 r:tq hp.length h rv rs
 rl:rs.length<=j
 Fz:∀x∈rs,ew x.1 w/\ew x.2.1 w
section
variable{G:Cells}{an:Nat}{z:List U}{hp:List aa}{ak bv:U}
def ayA(bz:eE G)(iq:0<=p.low/\p.low<=20/\(p.high= -1\/(1<=p.high/\p.high<=20))){y:U}{c:Nat}{on bq:List Nat}{K:List (Nat×List U)}(hX:fo an z hp ak bv on.length K on bq ak bv hp)(aaw:∀x∈K,x.1<hp.length)(Ah:on.length+p.many*c<=256)
  (hy:∀w on' cP bD bv' h,fo an z hp ak bv w K on' cP bD bv' h->w+c<=256->gP G az y [] h (Kv an z on' bD bv' h c)):
  aE G az 174 [.mp an 0,p.aG,y] hp (Kv an z on ak bv hp (p.many*c)):=by
 refine ado.go ?_;have mY:1<=p.many/\p.many<=20:=by
  unfold Bs;constructor<;>(split<;>(try split))<;>omega
 have c0:(bB an 0).cells=[.mp an 0]:=rfl;have c1:p.aG.cells=p.cells:=rfl;have an7:∀(a:Nat),∀x∈K,x.1≠hp.length+a:=λa x hx=>by have:=aaw x hx;omega
 have c8:fo an z hp ak bv on.length ((hp.length+2,z9)::(hp.length+1,p.cells)::(hp.length,[bB an 0])::K) on bq ak bv (hp++[aj [bB an 0] false]++[aj p.cells false]++[aj z9 false]):=by
  have h1:=hX.new (cs:=[bB an 0]);have h2:=h1.new (cs:=p.cells);have h3:=h2.new (cs:=z9);simpa[cq] using h3
 have ji:(hp++[aj [bB an 0] false]++[aj p.cells false]++[aj z9 false]).length=hp.length+3:=aBI
 have yN:∀X:List aa,X[hp.length+1]?=some (.cells p.cells false)->aq X false 1 (.mp (hp.length+1) 1)=some (.v (.int .i64 p.low))/\aq X false 1 (.mp (hp.length+1) 2)=some (.v (.int .i64 p.high)):=λX q=>by
  simp only[aq,q];exact⟨rfl,rfl⟩
 generalize hg:hp++[aj [bB an 0] false]++[aj p.cells false]++[aj z9 false]=g at c8 ji;have hg':=hg;unfold z9 at hg';refine cM (λe h=>e=[(2,y),(3,.mp hp.length 0),(4,.mp (hp.length+1) 0),(6,.mp (hp.length+2) 0)]/\h=g) ?_ ?_;refine kg @cB.{0} @lF ?_;exact⟨trivial,trivial⟩;rintro e h ⟨rfl,rfl⟩;obtain⟨dl,aAj⟩:=yN h (c8.get aBI);refine cM (λe h'=>e=[(2,y),(3,.mp hp.length 0),(4,.mp (hp.length+1) 0),(6,.mp (hp.length+2) 0),(7,.v (.int .i64 p.high))]/\h'=h) ?_ ?_;exact wx tt;rintro e h' ⟨rfl,rfl⟩;have m0:nZ true [.v (.int .i64 p.low),.v (.int .i64 1)]=some (.v (.int .i64 (if(1:Int)>p.low then 1 else p.low))):=rfl;refine cM (λe h=>e=[(2,y),(3,.mp hp.length 0),(4,.mp (hp.length+1) 0),(6,.mp (hp.length+2) 0),(7,ag p.many)]/\h=h') ?_ ?_;refine wy (bA (λq=>?_) λq=>?_);have q':p.high<0:=aBN
 rw[bJ.at6 q'] at m0;exact wx rt;have q':¬p.high<0:=aBN
 rw[bJ.aua q'];exact wx rt;rintro e h ⟨rfl,rfl⟩;have iy:fo an z hp ak bv on.length ((hp.length+3,aU 0 0 true)::(hp.length+2,z9)::(hp.length+1,p.cells)::(hp.length,[bB an 0])::K) on bq ak bv (h++[aj (aU 0 0 true) false]):=by
  have:=c8.new (cs:=aU 0 0 true);rw[ji] at this;exact this
 have n0:=Fl h 0 0 true;unfold z9 at n0;have afd:aF _ 9 (.mp h.length 0) (.agg (aU 0 0 true))=some (h++[aj (aU 0 0 true) false]):=n0;rw[ji] at afd;generalize h++[aj (aU 0 0 true) false]=h1 at iy afd;refine cM (λe h=>e=[(2,y),(3,.mp hp.length 0),(4,.mp (hp.length+1) 0),(6,.mp (hp.length+2) 0),(7,ag p.many),(8,.mp (hp.length+3) 0)]/\h=h1) ?_ ?_;exact fC @QW tt;rintro e h2 ⟨rfl,rfl⟩;refine cM (λe h=>e=[(2,y),(3,.mp hp.length 0),(4,.mp (hp.length+1) 0),(6,.mp (hp.length+2) 0),(7,ag p.many),(8,.mp (hp.length+3) 0),(9,.af)]/\h=h2) ?_ ?_;exact wx tt;rintro e h3 ⟨rfl,rfl⟩;refine cM (λe h=>∃F E em rv rs on' cP bD bv',e=[(3,.mp hp.length 0),(6,.mp (hp.length+2) 0),(8,.mp (hp.length+3) 0),(9,rv)]/\Gz an z hp ak bv p K p.many (on.length+p.many*c) F E em rv rs [] on' cP bD bv' h) ?_ ?_;refine wy ?_;refine cj (λj e h=>∃F E em rv rs on' cP bD bv',e=[(2,y),(3,.mp hp.length 0),(4,.mp (hp.length+1) 0),(6,.mp (hp.length+2) 0),(7,ag p.many),(8,.mp (hp.length+3) 0),(9,rv),(23,ag p.many),(24,ag j)]/\Gz an z hp ak bv p K j (on.length+j*c) F E em rv rs [] on' cP bD bv' h) p.many ⟨0,0,true,.af,[],on,bq,ak,bv,rfl,by rw[Nat.zero_mul];exact iy,ew.zero _,ew.zero _,ay ⟨rfl,rfl⟩,aBI,aBI⟩ ?_ ?_;rintro j e h hj ⟨F,E,em,rv,rs,on',cP,bD,bv',rfl,hT⟩;have aaZ:on.length+j*c+c<=256:=by
  have:(j+1)*c<=p.many*c:=mK _ hj;rw[qR] at this;omega
 have QU:on.length+(j+1)*c=on.length+j*c+c:=by rw[qR];omega
 rw[QU];refine fh (λe h'=>e=[(2,y),(3,.mp hp.length 0),(4,.mp (hp.length+1) 0),(6,.mp (hp.length+2) 0),(7,ag p.many),(8,.mp (hp.length+3) 0),(9,rv),(23,ag p.many),(24,ag j),(25,true)]/\h'=h) ?_ ?_;exact di @ag.eq_1 tt;rintro e h0 ⟨rfl,rfl⟩;refine fh (λe h'=>e=[(2,y),(3,.mp hp.length 0),(4,.mp (hp.length+1) 0),(6,.mp (hp.length+2) 0),(7,ag p.many),(8,.mp (hp.length+3) 0),(9,rv),(23,ag p.many),(24,ag j)]/\h'=h0) ?_ ?_;exact wx tt;rintro e h ⟨rfl,rfl⟩;refine cM (λe h=>∃F E em rv rs on' cP bD bv',e=[(2,y),(3,.mp hp.length 0),(4,.mp (hp.length+1) 0),(6,.mp (hp.length+2) 0),(7,ag p.many),(8,.mp (hp.length+3) 0),(9,rv),(23,ag p.many),(24,ag j)]/\Gz an z hp ak bv p K (j+1) (on.length+j*c+c) F E em rv rs [] on' cP bD bv' h) ?_ ?_;rw[xP];refine cM (λe h'=>e=[(2,y),(3,.mp hp.length 0),(4,.mp (hp.length+1) 0),(6,.mp (hp.length+2) 0),(7,ag p.many),(8,.mp (hp.length+3) 0),(9,rv),(10,ag j),(23,ag p.many),(24,ag j)]/\h'=h) ?_ ?_;exact wx tt;rintro e h0 ⟨rfl,rfl⟩;refine cM (λe h=>∃m eI en e2 on' cP bD bv',e=[(2,y),(3,.mp hp.length 0),(4,.mp (hp.length+1) 0),(6,.mp (hp.length+2) 0),(7,ag p.many),(8,.mp (hp.length+3) 0),(9,rv),(10,ag j),(11,.mp m 0),(23,ag p.many),(24,ag j)]/\hp.length+4<=m/\ew eI (on.length+j*c+c)/\ew en (on.length+j*c+c)/\Gz an z hp ak bv p K j (on.length+j*c+c) F E em rv rs [(m,aU eI en e2)] on' cP bD bv' h) ?_ ?_;refine wy (rT (hy _ _ _ _ _ _ (hT.s.sub (λx hx=>aBU)) aaZ) ?_);rintro _ g2 ⟨eI,en,e2,lV,n4,gw,eU,rfl,gM,eB,qv,Ru,rq,jL⟩;have EU:lV.length=on.length+j*c+c:=by rw[qv,hT.s.len]
 have iL:=hT.s.move gM eB EU (by rw[Ru,EU]);have Jo:tq hp.length g2 rv rs:=hT.r.keep λj c q=>eB.Ns hT.s.dQ q aBI aBI;have l3:=(bE.1 (iL.get (j:=hp.length+3) (cs:=aU F E em) aBI)).1;have n2:=Fl g2 eI en e2;unfold z9 at n2;refine wy ?_;refine⟨g2.length,eI,en,e2,lV,n4,gw,eU,rfl,aBH,by rw[<-EU];exact rq,by rw[<-EU];exact jL,iL.new2,hT.f.mono aBH,hT.e.mono aBH,Jo.keep λj c q=>aM q,hT.rl,λx hx=>⟨(hT.Fz x hx).1.mono aBH,(hT.Fz x hx).2.mono aBH⟩⟩;rintro e h5 ⟨m,eI,en,e2,lV,n4,gw,eU,rfl,hm,rq,jL,pM⟩;refine cM (λe h=>∃cP,e=[(2,y),(3,.mp hp.length 0),(4,.mp (hp.length+1) 0),(6,.mp (hp.length+2) 0),(7,ag p.many),(8,.mp (hp.length+3) 0),(9,rv),(10,ag j),(11,.mp m 0),(23,ag p.many),(24,ag j)]/\Gz an z hp ak bv p K j (on.length+j*c+c) F E em rv rs [(m,aU eI en e2)] lV cP gw eU h) ?_ ?_;obtain⟨aAm,aAk⟩:=yN h5 (pM.s.get aBI);have g3:=pM.s.get (j:=hp.length) (cs:=[bB an 0]) aBI;have B6:=pM.s.get (j:=m) (cs:=aU eI en e2) aBI;refine wy ?_;refine b8 (λq=>?_) λq=>?_;refine bA (λah=>?_) λah=>?_;refine ze (c6 g3) ((fO B6).1) ((fO B6).2.1) (aZ (aeM bz pM.s.dQ en eI (λp hp _=>by rw[pM.s.nc];exact jL p hp)) ?_);rintro r h6 ⟨aoc,aay⟩;refine wx ?_;exact⟨_,rfl,pM.s.move aoc aay pM.s.len (by rw[CP];exact pM.s.nc),pM.f,pM.e,pM.r.keep λj c q=>aay.Ns pM.s.dQ q aBI aBI,pM.rl,pM.Fz⟩;refine wx ?_;exact⟨_,rfl,pM⟩;exact⟨_,rfl,pM⟩;rintro e h6 ⟨XO,rfl,kB⟩;obtain⟨aAn,aAl⟩:=yN h6 (kB.s.get aBI);have g3:=kB.s.get (j:=hp.length) (cs:=[bB an 0]) aBI;have B6:=kB.s.get (j:=m) (cs:=aU eI en e2) aBI;have go:=kB.s.get (j:=hp.length+3) (cs:=aU F E em) aBI;refine wy (bA (λq=>?_) λq=>?_);refine wx (aZ (MB bz kB.s.dQ F E eI en em e2 (λp hp _=>by rw[kB.s.nc];exact kB.e p hp)) ?_);rintro _ h7 ⟨rfl,aod,aaz⟩;have FG:=kB.s.move aod aaz kB.s.len (by rw[CP];exact kB.s.nc);have aag:=FG.get (j:=hp.length+3) (cs:=aU F E em) aBI;have aBx:=Jf aag (if em then F|||eI else F) (if e2 then en|||E else en) (em&&e2);have uk:tq hp.length h7 rv rs:=kB.r.keep λj c q=>aaz.Ns kB.s.dQ q aBI aBI;refine wy ?_;refine⟨(if em then F|||eI else F),(if e2 then en|||E else en),(em&&e2),rv,rs,lV,ng XO eI (els E),gw,eU,rfl,(FG.put (aU (if em then F|||eI else F) (if e2 then en|||E else en) (em&&e2)) aBH ?_).sub ?_,ew.ite (kB.f.or rq) kB.f,ew.ite (jL.or kB.e) jL,uk.keep λj c q=>?_,by have:=kB.rl;omega,kB.Fz⟩;intro x hx;simp only[jW,eR,ek] at hx
 rcases hx with rfl|rfl|rfl|rfl|hx
 dsimp only;omega;dsimp only;omega;dsimp only;omega;dsimp only;omega;exact an7 3 x hx;intro x hx;simp only[eR,jW,ek] at hx⊢
 rcases hx with h|h|h|h|h<;>simp[h]
 rw[av (by rintro rfl;rw[aag] at q;cases q)];exact q;obtain⟨y8,h7,G7,uk,as3,pS,SO⟩:=kB.r.push (by have:=kB.s.st.len;omega) (by have:=kB.rl;omega) eI en e2;have ab:dA 9 [i_ eI en e2]=some (.sl [i_ eI en e2] .exact):=rfl;refine kg @q ((fO B6).2.2.2) ?_;refine⟨F,E,em,y8,_,lV,XO,gw,eU,rfl,((kB.s.rest as3 pS SO).sub ?_),kB.f,kB.e,uk,by have:=kB.rl;simp;omega,λx hx=>?_⟩;intro x hx;simp only[eR,jW,ek] at hx⊢
 rcases hx with h|h|h|h|h<;>simp[h]
 rcases dZ.1 hx with hx|hx
 exact kB.Fz x hx;rw[cr.1 hx];exact⟨rq,jL⟩;rintro e h ⟨F,E,em,rv,rs,on',cP,bD,bv',rfl,hT⟩;refine wy ?_;exact⟨F,E,em,rv,rs,on',cP,bD,bv',rfl,hT⟩;rintro e h ⟨F,E,em,rv,rs,on',cP,bD,bv',rfl,hT⟩;refine wy ?_;exact⟨F,E,em,rv,rs,on',cP,bD,bv',rfl,hT⟩;rintro e h4 ⟨F,E,em,rv,rs,TR,akZ,T0,P_,rfl,hT⟩;have l3:=(bE.1 (hT.s.get (j:=hp.length+3) (cs:=aU F E em) aBI)).1;have gF:=Fl h4 0 0 true;unfold z9 at gF;have afe:aF _ 9 (.mp h4.length 0) (.agg (aU 0 0 true))=some (h4++[aj (aU 0 0 true) false]):=gF;have iL:=hT.s.new (cs:=aU 0 0 true);have Jo:tq hp.length (h4++[aj (aU 0 0 true) false]) rv rs:=hT.r.keep λj c q=>aM q;generalize hm2:h4.length=m2 at afe iL l3;generalize h4++[aj (aU 0 0 true) false]=h5 at iL Jo afe;refine cM (λe h=>e=[(3,.mp hp.length 0),(6,.mp (hp.length+2) 0),(8,.mp (hp.length+3) 0),(9,rv),(12,.mp m2 0)]/\h=h5) ?_ ?_;exact fC @QW tt;rintro e h6 ⟨rfl,rfl⟩;refine cM (λe h=>∃cP qj qh,e=[(3,.mp hp.length 0),(6,.mp (hp.length+2) 0),(8,.mp (hp.length+3) 0),(12,.mp m2 0)]/\fo an z hp ak bv (on.length+p.many*c) ((m2,aU qj qh true)::(hp.length+3,aU F E em)::(hp.length+2,z9)::(hp.length+1,p.cells)::(hp.length,[bB an 0])::K) TR cP T0 P_ h/\ew qj (on.length+p.many*c)/\ew qh (on.length+p.many*c)) ?_ ?_;refine wy (aZ (akK Jo.sl h6) ?_);rintro _ g ⟨rfl,rfl⟩;refine wy ?_;rw[vR];refine⟨_,_,_,rfl,λk hk ats ok hR=>?_⟩;have ke:=iL.new2 (cs:=[rv]);have FG:=(ke.app (x:=marks false)).app (x:=[iB .ready none ats #[60,61] ok]);have tS:m2<h6.length:=(bE.1 (iL.get (j:=m2) (cs:=aU 0 0 true) aBI)).1;have Es:(h6++[aj [rv] false]++marks false++[iB .ready none ats #[60,61] ok])[k]?=some (.aT .ready none ats #[60,61] ok):=by rw[hk];simp
 have kl:hp.length<=k:=by
  rw[hk];have:=iL.st.len;simp;omega
 refine aZ (akL (l:=rs) (v:=rv) Jo.sl (by have:=hT.rl;omega) (Inv:=λi g=>∃cP qj qh,fo an z hp ak bv (on.length+p.many*c) ((m2,aU qj qh true)::(h6.length,[rv])::(hp.length+3,aU F E em)::(hp.length+2,z9)::(hp.length+1,p.cells)::(hp.length,[bB an 0])::K) TR cP T0 P_ g/\ew qj (on.length+p.many*c)/\ew qh (on.length+p.many*c)/\g[k]?=some (.aT .ready none ats #[60,61] ok)) (Stop:=λ_=>False) (kb:=h6.length) ?_ (λi g ⟨_,_,_,q,_⟩=>q.get aBI) ⟨akZ,0,0,FG,ew.zero _,ew.zero _,Es⟩) ?_;rintro i x g ⟨cP,qj,qh,hs,hF,hE,sE⟩ hx;refine hR [_,_] g _ rfl ⟨none,sE⟩ ?_;have se:qI [(3,bB hp.length 0),(6,bB (hp.length+2) 0),(8,bB (hp.length+3) 0),(12,bB m2 0),(59,U.fn (qM 258) [] [bB h6.length 0])] (List.zip [60,61] [i,i_ x.1 x.2.1 x.2.2])=[(61,i_ x.1 x.2.1 x.2.2),(60,i),(3,bB hp.length 0),(6,bB (hp.length+2) 0),(8,bB (hp.length+3) 0),(12,bB m2 0),(59,U.fn (qM 258) [] [bB h6.length 0])]:=rfl;rw[se];have CX:=Fl g x.1 x.2.1 x.2.2;unfold z9 at CX;refine di @CX ?_;have R7:(g++[aj (aU x.1 x.2.1 x.2.2) false])[k]?=some (.aT .ready none ats #[60,61] ok):=aM sE;refine⟨⟨none,R7⟩,λdz=>?_⟩;have cK:=gl R7;have h_:m2<g.length:=(bE.1 (hs.get (j:=m2) (cs:=aU qj qh true) aBI)).1;have qH:=(hs.new2 (cs:=aU x.1 x.2.1 x.2.2)).UM (b':=.aT .busy dz ats #[60,61] ok) R7 aBI aBI kl;have fu:((g++[aj (aU x.1 x.2.1 x.2.2) false]).set k (.aT .busy dz ats #[60,61] ok))[k]?=some (.aT .busy dz ats #[60,61] ok):=aR cK;have g3:=qH.get (j:=hp.length) (cs:=[bB an 0]) aBI;have gt:=qH.get (j:=m2) (cs:=aU qj qh true) aBI;have cD:=qH.get (j:=g.length) (cs:=aU x.1 x.2.1 x.2.2) aBI;obtain⟨hi1,hi2⟩:=hT.Fz x (bG hx);refine fB (c6 g3) ((fO cD).2.2.2) ((fO gt).2.2.2) (aZ (MB bz qH.dQ x.1 x.2.1 qj qh x.2.2 true (λp hp _=>by rw[qH.nc];exact hi2 p hp)) ?_);rintro r g5 ⟨hr,HI,w8⟩;obtain⟨A,B,rZ,rfl,hA,hB⟩:∃A B rZ,r=i_ A B rZ/\ew A (on.length+p.many*c)/\ew B (on.length+p.many*c):=⟨_,_,_,hr,ew.ite (hi1.or hF) hi1,ew.ite (hE.or hi2) hE⟩;have R8:=w8.Ns qH.dQ fu aBI aBI;have kU:=qH.move HI w8 qH.len (by rw[CP];exact qH.nc);have Rk:=kU.get (j:=m2) (cs:=aU qj qh true) aBI;have hmk:m2≠k:=by rintro rfl;rw[R8] at Rk;cases Rk
 have hne:∀x'∈(g.length,aU x.1 x.2.1 x.2.2)::(h6.length,[rv])::(hp.length+3,aU F E em)::(hp.length+2,z9)::(hp.length+1,p.cells)::(hp.length,[bB an 0])::K,x'.1≠m2:=by
  intro x' hx';simp only[ek] at hx'
  rcases hx' with rfl|rfl|rfl|rfl|rfl|rfl|hx'
  dsimp only;omega;dsimp only;omega;dsimp only;omega;dsimp only;omega;dsimp only;omega;dsimp only;omega;have:=aaw x' hx';omega
 have axY:=Jf Rk A B rZ;have sO:=kU.put (aU A B rZ) aBH hne;have axW:=af1 (sO.get (j:=m2) (cs:=aU A B rZ) aBI) true;have awW:=sO.put (aU A B true) aBH hne;refine kE @axY @axW ?_;have Mh:((g5.set m2 (.cells (aU A B rZ) false)).set m2 (.cells (aU A B true) false))[k]?=some (.aT .busy dz ats #[60,61] ok):=by
  rw[av hmk,av hmk];exact R8
 show(∃st pd,_=_)/\_;refine⟨⟨.busy,dz,Mh⟩,true,rfl,λ_=>⟨_,A,B,(awW.UM Mh aBI aBI kl).sub ?_,hA,hB,aR (gl Mh)⟩,λq=>aBT⟩;intro x' hx';simp only[ek] at hx'⊢
 rcases hx' with h|h|h|h|h|h|h<;>simp[h]
 rintro r g ⟨rfl,⟨cP,qj,qh,hs,hF,hE,sE⟩|hf⟩;refine⟨.ready,none,sE,aBJ,?_⟩;refine di @vk.eq_1 ?_;refine⟨cP,qj,qh,trivial,(hs.UM sE aBI aBI kl).sub ?_,hF,hE⟩;intro x' hx';simp only[ek] at hx'⊢
 rcases hx' with h|h|h|h|h|h<;>simp[h]
 exact hf.elim;rintro e h7 ⟨az8,qj,qh,rfl,hs,hF,hE⟩;have g3:=hs.get (j:=hp.length) (cs:=[bB an 0]) aBI;have gt:=hs.get (j:=m2) (cs:=aU qj qh true) aBI;have go:=hs.get (j:=hp.length+3) (cs:=aU F E em) aBI;refine wx (aZ (MB bz hs.dQ F E qj qh em true (λp hp _=>by rw[hs.nc];exact hT.e p hp)) ?_);rintro r h8 ⟨hr,aoe,Rx⟩;obtain⟨A,B,rZ,rfl,hA,hB⟩:∃A B rZ,r=i_ A B rZ/\ew A (on.length+p.many*c)/\ew B (on.length+p.many*c):=⟨_,_,_,hr,ew.ite (hT.f.or hF) hT.f,ew.ite (hE.or hT.e) hE⟩;have qH:=hs.move aoe Rx hs.len (by rw[CP];exact hs.nc);have g6:=qH.get (j:=hp.length+2) (cs:=z9) aBI;have axX:=uh g6 A B rZ;have kU:=(qH.sub (K':=[(hp.length+2,z9)]) aBI).put (aU A B rZ) aBH aBI;refine di @axX ?_;rw[A2];intro h9 he;have sO:=kU.fin he;have ua:=(fO (sO.get (j:=hp.length+2) (cs:=aU A B rZ) aBI)).2.2.2;refine di @ua ?_;exact⟨A,B,rZ,TR,_,T0,P_,rfl,sO.dQ,sO.st,sO.len,by rw[sO.nc,sO.len],by rw[sO.len];exact hA,by rw[sO.len];exact hB⟩
end
end
section
variable{G:Cells}{hb:List aa}{an:Nat}{z:List U}{mv v:U}{ps:List bJ}
def ata(bz:eE G)(h:qk v ps)(hM:zA G hb mv){i:Nat}{p:bJ}(cW:ps[i]?=some p)(hk0:p.kind=4)(ih:∀x∈p.kids,BE G hb an z v mv ps x):BE G hb an z v mv ps (i:Int):=by
 intro on bq ak bv hp hX yG hlen Ah;have jl:=h.ok i p cW;have m_:=h.no p (bG cW);have hc:=Qo h.ok cW;have hkb:0<=p.low/\p.low<=20/\(p.high= -1\/(1<=p.high/\p.high<=20))/\p.kids.length=1:=by
  rcases jl.1 with z|z|z
  omega;omega;omega
 obtain⟨x,vh⟩:=Bv.1 hkb.2.2.2;rw[if_neg aBH,if_pos hk0,vh] at hc;simp only[eD,kX,wh,DL,rW] at hc;refine abY.go ?_;have cK:=gl hX.b
 have sj:∀x:U,bn x=true->x.cells=[x]:=λx hx=>aDs
 have c0:(bB an 0).cells=[.mp an 0]:=rfl
 have c1:v.cells=[v]:=aCL
 have c2:mv.cells=[mv]:=sj mv hM.one;have e1:bu 5 v i=some (.fp p.cells 0):=h.v.bK (x:=p.aG) aDz rfl;have e2:∀hp,aq hp true 5 (.fp p.cells 0)=some (.agg p.cells):=λhp=>rfl;have s1:=vK (hp++[aj [bB an 0] false]++[aj [v] false]++[aj [mv] false]++[aj z9 false]) p;have lv:aq (hp++[aj [bB an 0] false]++[aj [v] false]++[aj [mv] false]++[aj z9 false]) false 1 (.mp (hp.length+1) 0)=some v:=c6 aCJ;have iK:fo an z hp ak bv on.length [] on bq ak bv hp:=⟨hX,eS.refl _ _ _ _,rfl,hlen,λx hx=>aDc⟩;have iL:fo an z hp ak bv on.length [(hp.length+4,p.cells),(hp.length+3,z9),(hp.length+2,[mv]),(hp.length+1,[v]),(hp.length,[bB an 0])] on bq ak bv (hp++[aj [bB an 0] false]++[aj [v] false]++[aj [mv] false]++[aj z9 false]++[aj p.cells false]):=by
  have h1:=((((iK.new (cs:=[bB an 0])).new (cs:=[v])).new (cs:=[mv])).new (cs:=z9)).new (cs:=p.cells);simpa[cq] using h1
 have ji:(hp++[aj [bB an 0] false]++[aj [v] false]++[aj [mv] false]++[aj z9 false]++[aj p.cells false]).length=hp.length+5:=aBI
 generalize hp++[aj [bB an 0] false]++[aj [v] false]++[aj [mv] false]++[aj z9 false]++[aj p.cells false]=g at s1 iL ji;have lk:(hp++[aj [bB an 0] false]++[aj [v] false]++[aj [mv] false]++[aj z9 false]).length=hp.length+4:=aBI
 rw[lk] at s1;unfold z9 at s1 lv;have m4:=iL.get (j:=hp.length) (cs:=[bB an 0]) aBI;have m9:=iL.get (j:=hp.length+4) (cs:=p.cells) aBI;have yN:aq g false 1 (.mp (hp.length+4) 0)=some (.v (.int .i64 4))/\aq g true 5 (.mp (hp.length+4) 0)=some p.aG:=by
  simp only[aq,m9];rw[<-hk0];exact⟨rfl,rfl⟩
 refine azm @cB.{0} @lF @yN.1 @yN.2 (c6 m4) ?_;have ke:fo an z g ak bv on.length [(hp.length+4,p.cells),(hp.length+3,z9),(hp.length+2,[mv]),(hp.length+1,[v]),(hp.length,[bB an 0])] on bq ak bv g:=⟨iL.dQ,eS.refl _ _ _ _,iL.len,iL.nc,iL.keep⟩;refine aZ (ayA bz ⟨hkb.1,hkb.2.1,hkb.2.2.1⟩ ke (λx hx=>(bE.1 (ke.keep x hx).2).1) (c:=cnt ps x) aBH ?_) ?_;intro w on' cP bD bv' h' s hw;have HJ:=(yG.step iL.st).step s.st;show gP G az (.fn (.func 175) [] [.mp hp.length 0,.mp (hp.length+1) 0,.mp (hp.length+4) 0,.mp (hp.length+2) 0]) [] h' _;have:=akc vh (ih x (by rw[vh];simp)) s.dQ HJ (by rw[s.nc,s.len]) (by rw[s.len];exact hw) (s.get (j:=hp.length) (cs:=[bB an 0]) aBI) (s.get (j:=hp.length+1) (cs:=[v]) aBI) (s.get (j:=hp.length+4) (cs:=p.cells) aBI) (s.get (j:=hp.length+2) (cs:=[mv]) aBI);simpa[gP] using this;rintro _ g2 ⟨F,E,e,lV,n4,gw,eU,rfl,hN,hS,hL,qv,hF,hE⟩;have mz:=hS.oo iL.dQ (iL.get (j:=hp.length+3) (cs:=z9) aBI) aBH;have kU:=uh mz F E e;have ua:=(fO (aR (a:=.cells (aU F E e) false) (gl mz))).2.2.2;refine kE @kU @ua ?_;exact⟨F,E,e,lV,n4,gw,eU,rfl,hN.fA mz aBH,(iL.st.trans hS).fA aBH,by rw[hc];exact hL,qv,hF,hE⟩
def akg(bz:eE G)(h:qk v ps)(hM:zA G hb mv):∀(n i:Nat),i<n->i<ps.length->BE G hb an z v mv ps (i:Int):=by
 intro n
 induction n with
 |zero=>intro i hi;omega
 |succ n ih=>
  intro i hi hl;obtain⟨p,hp⟩:=cD hl;have hk:∀x∈p.kids,BE G hb an z v mv ps x:=λx hx=>by
   obtain⟨x0,x1⟩:=(h.ok i p hp).2 x hx;obtain⟨xn,rfl⟩:=mJ x0;exact ih xn aBH aBH
  by_cases q:p.kind=4;exact ata bz h hM hp q hk;exact as_ bz h hM hp q hk
end
section
variable{v:U}{l:List Nat}
def Yq:∀(l:List Nat) (pre:List U),chunks 4 (pre++dS l) pre.length l.length=l.map a_
 |[],pre=>rfl
 |B::l,pre=>by
  have ih:=Yq l (pre++aO B);rw[cq,cB,BQ] at ih;show bT (((pre++(aO B++dS l)).drop pre.length).take 4)::chunks 4 (pre++(aO B++dS l)) (pre.length+4) l.length=_;rw[ih,List.drop_left' rfl,OX (BQ B)];rfl
def cv(ak bv:U)(F E:Nat)(e:Bool):List U:=[ak,bv,cw (wd F 0),cw (wd F 1),cw (wd F 2),cw (wd F 3),cw (wd E 0),cw (wd E 1),cw (wd E 2),cw (wd E 3),e]
def Gn(r:U):Prop:=∃(on bq:List Nat) (ak bv:U) (F E:Nat) (e:Bool),r=.fp (cv ak bv F E e) 0/\bL ak (on.map a_)/\bL bv (bq.map a_)/\on.length<=256/\bq.length=on.length
def Ph(r:U):Prop:=∃(x:U) (e:Int),r=.aK [x,ag e]/\((e=0/\Gn x)\/(e≠0/\x=.v (.pointer none)))
def am4{hp:List aa}{n:Nat}{an:Nat}{ak bv:U}{on bq:List Nat}{F E:Nat}{e:Bool}(hb:hp[an]?=some (.cells (cv ak bv F E e) false))(ho:bX hp ak (on.map a_) 4 142)(hr:uS hp bv bq)(hk:n<=an)(hrow:∀j,rowAt bv j->n<=j)(hl:on.length<=256)(fu:bq.length=on.length):
  ∃aQ,aX (mask n hp) (.mp an 0) aQ/\Gn aQ:=by
 have mk:∀(j:Nat) b,n<=j->hp[j]?=some b->(mask n hp)[j]?=some b:=λj b hj q=>by
  unfold mask;rw[er (by simpa using hj)];simp only[List.length_replicate,qd];rw[<-q];congr 1;omega
 obtain⟨bD,h1,h2⟩:∃bD,aX (mask n hp) ak bD/\bL bD (on.map a_):=by
  rcases ho with⟨rfl,z⟩|⟨id,rfl,_⟩
  exact⟨_,cS,ax ⟨rfl,z⟩⟩;exact⟨_,fj (gh λB _=>u_ _ B),ay rfl⟩
 obtain⟨bv',h3,h4⟩:∃bv',aX (mask n hp) bv bv'/\bL bv' (bq.map a_):=by
  rcases hr with⟨rfl,z⟩|⟨k,rfl,hk'⟩
  exact⟨_,cS,ax ⟨rfl,by rw[z];rfl⟩⟩;have kk:=mk k _ (hrow k ⟨_,_,rfl⟩) hk';have fl:∀l:List Nat,dD (mask n hp) (dS l) (dS l):=λl=>by
   induction l with
   |nil=>exact bW
   |cons B l ih=>exact zk (aA (aB _) (aA (aB _) (aA (aB _) (aA (aB _) bW)))) ih
  have:=aX.rs (o:=0) (sz:=4) (len:=bq.length) kk rfl (fl bq);have e:=Yq bq [];rw[eR] at e;rw[show([]:List U).length=0 from rfl] at e;rw[e] at this;exact⟨_,this,ay rfl⟩
 refine⟨.fp (cv bD bv' F E e) 0,aX.mp (mk _ _ hk hb) ?_,on,bq,bD,bv',F,E,e,rfl,h2,h4,hl,fu⟩;exact aA h1 (aA h3 (aA (aB _) (aA (aB _) (aA (aB _) (aA (aB _) (aA (aB _) (aA (aB _) (aA (aB _) (aA (aB _) (aA (aB _) bW))))))))))
section
variable{X:List aa}{an F E:Nat}{ak bv:U}{e:Bool}
@[go_sem]def afl(h:X[an]?=some (.cells (cv ak bv F E e) false))(F':Nat):aF X 4 (.mp an 2) (a_ F')=some (X.set an (.cells (cv ak bv F' E e) false)):=by
 simp only[aF,h];rfl
@[go_sem]def afm(h:X[an]?=some (.cells (cv ak bv F E e) false))(E':Nat):aF X 4 (.mp an 6) (a_ E')=some (X.set an (.cells (cv ak bv F E' e) false)):=by
 simp only[aF,h];rfl
@[go_sem]def afk(h:X[an]?=some (.cells (cv ak bv F E e) false))(e':Bool):aF X 1 (.mp an 10) e'=some (X.set an (.cells (cv ak bv F E e') false)):=by
 simp only[aF,h];rfl
end
def auH{G:Cells}(bz:eE G){hb:List aa}{mv:U}{ps:List bJ}(h:qk v ps)(hM:zA G hb mv)(hfn:∀neg,oC .Hu neg mv (.v .nilFunc)=some (.v (.bool neg))):
  aE G az 56 [v,mv] hb λr hp'=>Ph r/\hp'=hb:=by
 refine aE.Ql (ace.go ?_)
 have sj:∀x:U,bn x=true->x.cells=[x]:=λx hx=>aDs
 have c2:mv.cells=[mv]:=sj mv hM.one;have ln:=h.v.bO;rw[b_] at ln;have hlen:=h.len;have k0:(hb++[aj [mv] false])[hb.length]?=some (.cells [mv] false):=aBI
 have Nf:∀{j:Nat} {P:Prop},rowAt .af j->P:=λ⟨_,_,q⟩=>aBT
 have afB:∀{j:Nat} {P:Prop},xN .af j->P:=λ⟨_,q⟩=>aBT
 have good:∀(hp':List aa) (an:Nat) (on bq:List Nat) (F E:Nat) (e:Bool) (ak bv:U),hp'[an]?=some (.cells (cv ak bv F E e) false)->bX hp' ak (on.map a_) 4 142->uS hp' bv bq->hb.length<=an->(∀j,rowAt bv j->hb.length<=j)->on.length<=256->bq.length=on.length->Ext hb hp'->
   (∃l,hp'=hb++l)/\∃n aQ,b9 (mask hb.length hp') n (.aK [.mp an 0,.v (.int .i64 0)])=some aQ/\Ph aQ:=λhp' an on bq F E e ak bv h1 h2 h3 h4 h5 h6 h7 h8=>by
  obtain⟨aQ,hz,hq⟩:=am4 h1 h2 h3 h4 h5 h6 h7;obtain⟨n,hn⟩:=(dR (aA hz (aA (aB (.int .i64 0)) bW))).done;exact⟨h8.split,n,_,hn,_,0,rfl,ay ⟨rfl,hq⟩⟩
 have bad:∀(e:Int) (l:List aa),e≠0->(∃l',hb++l=hb++l')/\∃n aQ,b9 (mask hb.length (hb++l)) n (.aK [.v (.pointer none),.v (.int .i64 e)])=some aQ/\Ph aQ:=λe l he=>by
  obtain⟨n,hn⟩:=(dR (aA (aB (.pointer none)) (aA (aB (.int .i64 e)) bW)):aX (mask hb.length (hb++l)) _ _).done;exact⟨⟨l,rfl⟩,n,_,hn,_,e,rfl,ax ⟨he,rfl⟩⟩
 refine wy (gf (agz bz h) (aP (BS h) bS) ?_);rintro r ⟨b,rfl,fU⟩;cases b with
 |false=>
  exact dP (bad 1 _ aBJ)
 |true=>
  refine wy (gf (afh h) (aP (BS h) bS) ?_);rintro r ⟨l,hl1,fu,mW⟩;refine wy (aZ (aku hM hl1 aBH mW k0 λj b q=>aM q) ?_);rintro r g ⟨⟨b,rfl⟩,x,rfl⟩;cases b with
  |true=>
   refine wy ?_;rw[cq];exact bad 6 _ aBJ
  |false=>
   refine wy (bA (λq=>?_) λq=>?_);have IG:(hb++[aj [mv] false]++x++[aj (cv .af .af 0 0 true) false])[(hb++[aj [mv] false]++x).length]?=some (.cells (cv .af .af 0 0 true) false):=aBI
   exact wy (good _ _ [] [] _ _ _ _ _ IG (ay ⟨rfl,rfl⟩) (ay ⟨rfl,rfl⟩) (by rw[cq,cB];omega) (λj z=>Nf z) aBJ rfl ((jV.n3).n3));have hpos:0<ps.length:=DK.2 λe=>by rw[e] at q;cases q
   refine wy (dx (avu h _ (ps.length-1) (Bw _) aBH) (aP (BS h) (aP (bM _) bS)) ?_);refine wy (bA (λah=>?_) λah=>?_);refine wy ?_;rw[cq];exact bad 7 _ aBJ;have hc:cnt ps ((ps.length-1:Nat):Int)<=256:=aDp
   have fb:cm [.af,.af,.v (.int .u64 0),.v (.int .u64 0),.v (.int .u64 0),.v (.int .u64 0),.v (.int .u64 0),.v (.int .u64 0),.v (.int .u64 0),.v (.int .u64 0),false] []=some (cv .af .af 0 0 false):=by
    have:cv .af .af 0 0 false=[.af,.af,.v (.int .u64 0),.v (.int .u64 0),.v (.int .u64 0),.v (.int .u64 0),.v (.int .u64 0),.v (.int .u64 0),.v (.int .u64 0),.v (.int .u64 0),.v (.bool false)]:=by simp[cv,cw,wd]
    rw[this];rfl
   have hkn:hb.length<=(hb++[aj [mv] false]++x).length:=by rw[cq,cB];omega
   have IG:(hb++[aj [mv] false]++x++[aj (cv .af .af 0 0 false) false])[(hb++[aj [mv] false]++x).length]?=some (.cells (cv .af .af 0 0 false) false):=aBI
   have k1:(hb++[aj [mv] false]++x++[aj (cv .af .af 0 0 false) false])[hb.length]?=some (.cells [mv] false):=aM (aM k0);have mo:Ext hb (hb++[aj [mv] false]++x++[aj (cv .af .af 0 0 false) false]):=(jV.n3).n3;refine wy ?_;generalize(hb++[aj [mv] false]++x).length=an at hkn IG;generalize hb++[aj [mv] false]++x++[aj (cv .af .af 0 0 false) false]=eo at IG k1 mo;have hX:dM an (cv .af .af 0 0 false).tail.tail [] [] .af .af eo:=⟨IG,ay ⟨rfl,rfl⟩,ay ⟨rfl,rfl⟩⟩;have yG:DV hb an .af .af eo:=⟨mo,hkn,λj z=>Nf z,λj z=>afB z,mo.len⟩;refine wy (aZ (akg bz h hM _ (ps.length-1) (Bw _) aBH [] [] .af .af _ hX yG rfl (by simpa using hc)) ?_);rintro _ g2 ⟨F,E,e,lV,n4,gw,eU,rfl,hN,hS,hL,qv,hF,hE⟩;have n2:=Fl g2 F E e;unfold z9 at n2;have IE:(g2++[aj (aU F E e) false])[an]?=some (.cells (cv gw eU 0 0 false) false):=aM hN.b;have kp:(g2++[aj (aU F E e) false])[g2.length]?=some (.cells (aU F E e) false):=aBI
   have cK:=gl hN.b;have jL:Ext hb (g2++[aj (aU F E e) false]):=λj b q=>aM (hS.keep j b (mo j b q) (by have:=(gl q);omega) (λz=>Nf z) λz=>afB z);have hrow:∀j,rowAt eU j->hb.length<=j:=λj z=>by
    rcases hS.row j z with y|y
    exact Nf y;have:=mo.len;omega
   have sB:bX (g2++[aj (aU F E e) false]) gw (lV.map a_) 4 142:=hN.on.ext;have hR:uS (g2++[aj (aU F E e) false]) eU n4:=(hN.app (x:=[aj (aU F E e) false])).bq;refine ni ?_;generalize aoX:g2.length=B6 at kp cK;generalize g2++[aj (aU F E e) false]=X at IE kp jL sB hR;have s2:=afl IE F;have aek:=aR (a:=.cells (cv gw eU F 0 false) false) (gl IE);have SV:(X.set an (.cells (cv gw eU F 0 false) false))[B6]?=some (.cells (aU F E e) false):=by rw[av aBH];exact kp
   have ke:=afm aek E;have ael:=aR (a:=.cells (cv gw eU F E false) false) (gl aek);have asW:((X.set an (.cells (cv gw eU F 0 false) false)).set an (.cells (cv gw eU F E false) false))[B6]?=some (.cells (aU F E e) false):=by rw[av aBH];exact SV
   have sO:=afk ael e;have aem:=aR (a:=.cells (cv gw eU F E e) false) (gl ael);refine Du (dV ((fO kp).1) ((fO kp).2.1) ((fO kp).2.2.1) @s2) ((fO SV).2.1) ((fO SV).2.2.1) @ke ((fO asW).2.2.1) @sO @qE ?_;rw[ajn,ajn] at aem⊢;refine good _ an lV n4 F E e gw eU aem ?_ ?_ hkn hrow (by rw[hL];simpa using hc) qv λj b q=>?_
   rcases sB with y|⟨id,y1,eg⟩
   exact ay y;exact ax ⟨id,y1,by rw[av (by rintro rfl;rw[IE] at eg;cases eg)];exact eg⟩
   rcases hR with y|⟨id,y1,eg⟩
   exact ay y;exact ax ⟨id,y1,by rw[av (by rintro rfl;rw[IE] at eg;simp at eg)];exact eg⟩;rw[av (by have:=(gl q);omega)];exact jL j b q
section
variable{G:Cells}{ak bv:U}{F E:Nat}{e:Bool}
def QD:ck G az 112 [.fp (cv ak bv F E e) 0] e:=by
 refine ef (acO.go ?_);have l1:∀hp,aq hp false 1 (.fp (cv ak bv F E e) 10)=some (.v (.bool e)):=λhp=>rfl;exact wy ((aB _).done)
def amO:ck G az 114 [.fp (cv ak bv F E e) 0] (a_ F):=by
 refine ef (acQ.go ?_);have l1:∀hp,aq hp true 4 (.fp (cv ak bv F E e) 2)=some (a_ F):=λhp=>rfl;have s1:aF [aj [.v (.int .u64 0),.v (.int .u64 0),.v (.int .u64 0),.v (.int .u64 0)] false] 4 (.mp 0 0) (a_ F)=some [aj (aO F) false]:=rfl;have l2:aq [aj (aO F) false] true 4 (.mp 0 0)=some (a_ F):=rfl;exact wy ((u_ _ F).done)
def amm:ck G az 230 [.fp (cv ak bv F E e) 0] (a_ E):=by
 refine ef (adQ.go ?_);have l1:∀hp,aq hp true 4 (.fp (cv ak bv F E e) 6)=some (a_ E):=λhp=>rfl;have s1:aF [aj [.v (.int .u64 0),.v (.int .u64 0),.v (.int .u64 0),.v (.int .u64 0)] false] 4 (.mp 0 0) (a_ E)=some [aj (aO E) false]:=rfl;have l2:aq [aj (aO E) false] true 4 (.mp 0 0)=some (a_ E):=rfl;exact wy ((u_ _ E).done)
def XL(hv:bL v (l.map a_))(hl:l.length<=100000)(i:Nat):ck G az 179 [v,i] (a_ (l[i]?.getD 0)):=by
 refine ef (adt.go ?_);have ln:=hv.bO;rw[b_] at ln;have c0:decide ((i:Int)<0)=false:=aBI
 have s1:∀B,aF [aj [.v (.int .u64 0),.v (.int .u64 0),.v (.int .u64 0),.v (.int .u64 0)] false] 4 (.mp 0 0) (a_ B)=some [aj (aO B) false]:=λB=>rfl;have l2:∀B,aq [aj (aO B) false] true 4 (.mp 0 0)=some (a_ B):=λB=>rfl;refine wy (bA (λq=>?_) λq=>?_);have hi:l[i]?=none:=hG aBQ;rw[hi];exact wy ((u_ _ 0).done);obtain⟨B,hB⟩:∃B,l[i]?=some B:=⟨l[i]' aBQ,br _⟩;have e1:bu 4 v i=some (.fp (aO B) 0):=hv.bK (x:=a_ B) (by simp[hB]) rfl;have e2:∀hp,aq hp true 4 (.fp (aO B) 0)=some (a_ B):=λhp=>rfl;rw[hB];exact wy ((u_ _ B).done)
def K9(h:bL v (l.map a_)):dn v:=by
 rcases h with rfl|⟨rfl,_⟩
 refine jZ λx hx c hc=>?_;obtain⟨B,_,rfl⟩:=cO.1 hx;have:c∈aO B:=hc;simp only[aO,ek,oz,or_false] at this
 rcases this with rfl|rfl|rfl|rfl<;>exact bM _
 exact BV (n:=1) rfl
def au6(hv:bL ak (l.map a_))(hl:l.length<=100000)(i:Nat):ck G az 177 [.fp (cv ak bv F E e) 0,i] (a_ (l[i]?.getD 0)):=by
 refine ef (adr.go ?_);have l1:∀hp,aq hp false 1 (.fp (cv ak bv F E e) 0)=some ak:=λhp=>rfl;have s1:∀B,aF [aj [.v (.int .u64 0),.v (.int .u64 0),.v (.int .u64 0),.v (.int .u64 0)] false] 4 (.mp 0 0) (a_ B)=some [aj (aO B) false]:=λB=>rfl;have l2:∀B,aq [aj (aO B) false] true 4 (.mp 0 0)=some (a_ B):=λB=>rfl;refine wy (dx (XL hv hl i) (aP (K9 hv) (aP (bM _) bS)) ?_);exact wy ((u_ _ _).done)
def akR(hv:bL bv (l.map a_))(hl:l.length<=100000)(i:Nat):ck G az 115 [.fp (cv ak bv F E e) 0,i] (a_ (l[i]?.getD 0)):=by
 refine ef (acR.go ?_);have l1:∀hp,aq hp false 1 (.fp (cv ak bv F E e) 1)=some bv:=λhp=>rfl;have s1:∀B,aF [aj [.v (.int .u64 0),.v (.int .u64 0),.v (.int .u64 0),.v (.int .u64 0)] false] 4 (.mp 0 0) (a_ B)=some [aj (aO B) false]:=λB=>rfl;have l2:∀B,aq [aj (aO B) false] true 4 (.mp 0 0)=some (a_ B):=λB=>rfl;refine wy (dx (XL hv hl i) (aP (K9 hv) (aP (bM _) bS)) ?_);exact wy ((u_ _ _).done)
end
end
section
variable{es:List (U×U×Nat)}{N bw k:Nat}{hp:List aa}
def wq(es:List (U×U×Nat))(N:Nat):Prop:=∀e∈es,∃B n:Nat,e.1=a_ B/\e.2.1=ag (n:Int)/\n<N
def wq.mono{N':Nat}(h:wq es N)(hn:N<=N'):wq es N':=λe he=>by
 obtain⟨B,n,h1,h2,h3⟩:=h e he;exact⟨B,n,h1,h2,aBH⟩
def QK(A B:Nat):∃b:Bool,dN [.i,.i,.i,.i] (a_ A).cells (a_ B).cells=some b:=Y7 ..
def Tk(A:Nat):∀{es:List (U×U×Nat)} (i:Nat),wq es N->oe [.i,.i,.i,.i] (a_ A).cells es i=some none\/∃j n:Nat,oe [.i,.i,.i,.i] (a_ A).cells es i=some (some (j,ag (n:Int)))/\n<N
 |[],i,_=>ay rfl
 |e::r,i,h=>by
  obtain⟨B,n,h1,h2,h3⟩:=h e (zw ..);have ih:=Tk A (es:=r) (i+1) λx hx=>h x (qP _ hx);obtain⟨b,hb⟩:=QK A B;unfold oe;rw[h1,hb];cases b with
  |true=>exact ax ⟨i,n,by rw[h2],h3⟩
  |false=>exact ih
def ae1(h:wq es N):AF true [.i,.i,.i,.i] es=true:=by
 unfold AF;rw[c_];intro e he;obtain⟨B,n,h1,_⟩:=h e he;rw[h1];rfl
def auc(hk:hp[k]?=some (.cL es bw))(h:wq es N)(A:Nat):
  ∃(n:Int) (b:Bool),tw hp true [.i,.i,.i,.i] (0:Int) true (.ey k) (a_ A)=some (.aK [n,b])/\(b=true->0<=n/\n<(N:Int)):=by
 have hf:=ae1 h;have Co:qB true [.i,.i,.i,.i] (a_ A)=true:=rfl;unfold tw pT;simp only[hk];rw[if_pos ⟨Co,hf⟩]
 rcases Tk A 0 h with q|⟨j,n,q,hn⟩
 rw[q];exact⟨0,false,rfl,λq=>aBT⟩;rw[q];exact⟨n,true,rfl,λ_=>⟨aBH,aBH⟩⟩
def aud(hk:hp[k]?=some (.cL es bw))(h:wq es N)(A n:Nat)(hn:n<N):
  ∃es' iH,uY hp true [.i,.i,.i,.i] (.ey k) (a_ A) n=some (hp.set k (.cL es' iH))/\wq es' N:=by
 have hf:=ae1 h;have Co:qB true [.i,.i,.i,.i] (a_ A)=true:=rfl;unfold uY pT;simp only[hk];rw[if_pos ⟨Co,hf⟩]
 rcases Tk A 0 h with q|⟨j,m,q,hm⟩
 rw[q];refine⟨_,_,rfl,λe he=>?_⟩
 rcases dZ.1 he with he|he
 exact h e he;rw[cr.1 he];exact⟨A,n,rfl,rfl,hn⟩;rw[q];refine⟨_,_,rfl,λe he=>?_⟩;rw[Kf] at he;obtain⟨i,hi⟩:=he;rw[List.getElem?_modify] at hi;cases h2:es[i]? with
 |none=>rw[h2] at hi;simp at hi
 |some e0=>
  rw[h2] at hi;simp only[Option.map_eq_map,ie,lG] at hi;split at hi;subst hi;exact⟨A,n,rfl,rfl,hn⟩;subst hi;exact h _ (bG h2)
end
section
variable{x:List U}{k km kp aS kt:Nat}{a hp:List aa}{b b':aa}
def uV(x:List U):Prop:=∃(l:List Int) (b:Bool),x=l.map ag++[.v (.bool b)]/\l.length=32
def uV.len(h:uV x):x.length=33/\x.all bn=true:=by
 obtain⟨l,b,rfl,hl⟩:=h;refine⟨by simp[hl],?_⟩;rw[c_];intro y hy
 rcases dZ.1 hy with hy|hy
 obtain⟨n,_,rfl⟩:=cO.1 hy;rfl;rw[cr.1 hy];rfl
def uV.put(h:uV x){o:Nat}(ho:o<32)(n:Int):uV (putAt x o [ag n]):=by
 obtain⟨l,b,rfl,hl⟩:=h;refine⟨l.set o n,b,?_,by simp[hl]⟩;apply Bu;intro i;rw[Ug aBK];simp only[nq]
 rcases Nat.lt_trichotomy i o with q|q|q
 rw[if_pos q,ei aBK,ei aBK,eC,eC,av aBH];subst q;rw[if_neg aBH,if_pos aBH,ei aBK,eC,aR aBH];simp;rw[if_neg aBH,if_neg aBH]
 rcases cE i 32 with ah|ah
 rw[ei aBK,ei aBK,eC,eC,av aBH];rw[er aBK,er aBK];simp
structure fm(km kt kp aS:Nat)(cy:U)(sets:List Nat)(sv bC:U)(rows:List (List U))(hp:List aa):Prop where
 b:hp[km]?=some (.cells [cy,.mp kt 0,sv,.ey kp] false)
 t:hp[kt]?=some (.cells [bC] false)
 r:gJ 33 hp aS bC rows
 m:∃es bw,hp[kp]?=some (.cL es bw)/\wq es sets.length
 s:jE 0 hp sv (sets.map a_) 4 142
 len:rows.length=sets.length
 st:∀x∈rows,uV x
 ne:km≠kt
def gB(km kt kp aS:Nat)(hp hp':List aa):Prop:=hp.length<=hp'.length/\∀(j:Nat) b,hp[j]?=some b->j≠km->j≠kt->j≠kp->j≠aS->(∀c,b≠.tok c 4 142)->hp'[j]?=some b
def gB.refl(hp:List aa):gB km kt kp aS hp hp:=⟨bl _,λ_ _ h _ _ _ _ _=>h⟩
def gB.trans{b c:List aa}(h:gB km kt kp aS a b)(k:gB km kt kp aS b c):gB km kt kp aS a c:=⟨fk h.1 k.1,λj x q h1 h2 h3 h4 h5=>k.2 j x (h.2 j x q h1 h2 h3 h4 h5) h1 h2 h3 h4 h5⟩
def gB.app{l:List aa}:gB km kt kp aS hp (hp++l):=⟨aBI,λ_ _ h _ _ _ _ _=>aM h⟩
def gB.set{x:aa}(h:k=km\/k=kt\/k=kp\/k=aS):gB km kt kp aS hp (hp.set k x):=⟨aBI,λj b q h1 h2 h3 h4 _=>by rw[av (by rintro rfl;omega)];exact q⟩
def gB.fA{x:aa}(h:gB km kt kp aS a hp)(hk:a.length<=k):gB km kt kp aS a (hp.set k x):=⟨aDx,λj b q h1 h2 h3 h4 h5=>by
 have:=gl q;rw[av aBH];exact h.2 j b q h1 h2 h3 h4 h5⟩
section
variable{km kt kp aS:Nat}{cy:U}{sets:List Nat}{sv bC:U}{rows:List (List U)}{hp:List aa}
def fm.keep{hp':List aa}(h:fm km kt kp aS cy sets sv bC rows hp)(hk:∀(j:Nat) b,(j=km\/j=kt\/j=kp\/j=aS\/∃c,b=.tok c 4 142)->hp[j]?=some b->hp'[j]?=some b):fm km kt kp aS cy sets sv bC rows hp':=by
 obtain⟨es,bw,m1,m2⟩:=h.m;refine⟨hk _ _ aBI h.b,hk _ _ aBI h.t,h.r.keep λcs q=>hk _ _ aBI q,⟨es,bw,hk _ _ aBI m1,m2⟩,?_,h.len,h.st,h.ne⟩
 rcases h.s with q|⟨id,q1,ah,aN⟩
 exact ay q;exact ax ⟨id,q1,ah,hk _ _ aBI aN⟩
def fm.app{x:List aa}(h:fm km kt kp aS cy sets sv bC rows hp):fm km kt kp aS cy sets sv bC rows (hp++x):=h.keep λj b _ q=>aM q
def fm.aha(h:fm km kt kp aS cy sets sv bC rows hp)(hb:hp[k]?=some b)(h1:k≠km)(h2:k≠kt)(h3:k≠kp)(h4:k≠aS)(h5:∀c,b≠.tok c 4 142):fm km kt kp aS cy sets sv bC rows (hp.set k b'):=h.keep λj x hj q=>by
 by_cases e:k=j;subst e;rw[hb] at q;cases q
 rcases hj with z|z|z|z|⟨c,z⟩
 exact absurd z h1;exact absurd z h2;exact absurd z h3;exact absurd z h4;exact absurd z (h5 c);rw[av e];exact q
def fm.ag_{cs:List U}(h:fm km kt kp aS cy sets sv bC rows hp)(hb:hp[k]?=some (.cells cs false))(h1:k≠km)(h2:k≠kt):fm km kt kp aS cy sets sv bC rows (hp.set k b'):=by
 refine h.aha hb h1 h2 ?_ ?_ aBI;rintro rfl;obtain⟨es,bw,m1,_⟩:=h.m;rw[hb] at m1;cases m1;rintro rfl;have:=h.r.b;rw[hb] at this;simp at this
def fm.sP(h:fm km kt kp aS cy sets sv bC rows hp)(hb:hp[k]?=some b)(h1:∀cs fz,b≠.cells cs fz)(h2:∀es bw,b≠.cL es bw)(h5:∀c,b≠.tok c 4 142):fm km kt kp aS cy sets sv bC rows (hp.set k b'):=by
 refine h.aha hb ?_ ?_ ?_ ?_ h5;rintro rfl;have:=h.b;rw[hb] at this;cases this;exact h1 _ _ rfl;rintro rfl;have:=h.t;rw[hb] at this;cases this;exact h1 _ _ rfl;rintro rfl;obtain⟨es,bw,m1,_⟩:=h.m;rw[hb] at m1;cases m1;exact h2 _ _ rfl;rintro rfl;have:=h.r.b;rw[hb] at this;cases this;exact h1 _ _ rfl
@[go_sem]def fm.CO(h:fm km kt kp aS cy sets sv bC rows hp):aq hp false 1 (.mp km 0)=some cy/\aq hp false 1 (.mp km 1)=some (.mp kt 0)/\aq hp false 1 (.mp km 2)=some sv/\aq hp false 1 (.mp km 3)=some (.ey kp)/\aq hp false 1 (.mp kt 0)=some bC:=by
 simp only[aq,h.b,h.t];exact⟨rfl,rfl,rfl,rfl,rfl⟩
@[go_sem]def fm.ahl(h:fm km kt kp aS cy sets sv bC rows hp)(g:List aa):bO sv g=some (.v (.int .i64 (sets.length:Int)),g):=by
 rcases h.s with rfl|⟨id,rfl,_⟩<;>simp[nF,goInt]
def fm.SX(h:fm km kt kp aS cy sets sv bC rows hp):kp≠km/\kp≠kt/\kp≠aS/\aS≠km/\aS≠kt:=by
 obtain⟨es,bw,m1,_⟩:=h.m;have hb:=h.b;have ht:=h.t;have hr:=h.r.b;refine⟨?_,?_,?_,?_,?_⟩<;>rintro rfl;rw[m1] at hb;cases hb;rw[m1] at ht;cases ht;rw[m1] at hr;cases hr;rw[hb] at hr;simp at hr;rw[ht] at hr;simp at hr
def fm.asU(h:fm km kt kp aS cy sets sv bC rows hp)(A:Nat):∃hp',uY hp true [.i,.i,.i,.i] (.ey kp) (a_ A) sets.length=some hp'/\gB km kt kp aS hp hp'/\
  hp'[km]?=some (.cells [cy,.mp kt 0,sv,.ey kp] false)/\hp'[kt]?=some (.cells [bC] false)/\gJ 33 hp' aS bC rows/\(∃es bw,hp'[kp]?=some (.cL es bw)/\wq es (sets.length+1))/\jE 0 hp' sv (sets.map a_) 4 142:=by
 obtain⟨es,bw,m1,m2⟩:=h.m;obtain⟨k1,k2,eF,gZ,sG⟩:=h.SX;obtain⟨es',iH,e1,e2⟩:=aud m1 (m2.mono (Nat.le_succ _)) A sets.length (Bw _);refine⟨_,e1,gB.set aBI,?_,?_,?_,⟨es',iH,aR (gl m1),e2⟩,?_⟩;rw[av k1];exact h.b;rw[av k2];exact h.t;exact h.r.keep λcs q=>by rw[av eF];exact q
 rcases h.s with q|⟨id,q1,ah,aN⟩
 exact ay q;exact ax ⟨id,q1,ah,by rw[av (by rintro rfl;rw[m1] at aN;cases aN)];exact aN⟩
def amJ{G:Cells}(bz:eE G){ak bv:U}{F E:Nat}{e:Bool}(h:fm km kt kp aS (.fp (cv ak bv F E e) 0) sets sv bC rows hp)(hcl:dn (.fp (cv ak bv F E e) 0))(hn:sets.length<=1000)(B:Nat):
  aE G az 178 [.mp km 0,a_ B] hp λr hp'=>(∃n:Int,r=.v (.int .i64 n))/\(∃rK iM p6 gx,fm km kt kp aS (.fp (cv ak bv F E e) 0) rK iM p6 gx hp'/\sets.length<=rK.length/\rK.length<=sets.length+1)/\gB km kt kp aS hp hp':=by
 refine ads.go ?_;have q8:(a_ B).cells=aO B:=rfl;have h1:fm km kt kp aS (.fp (cv ak bv F E e) 0) sets sv bC rows (hp++[.cells (aO B) false]):=h.app;have k1:(hp++[aj (aO B) false])[hp.length]?=some (.cells (aO B) false):=aBI
 have SP:gB km kt kp aS hp (hp++[.cells (aO B) false]):=gB.app;have hkm:=gl h.b;have hkt:=gl h.t;have hkr:=gl h.r.b;have hkp:kp<hp.length:=aDR
 have fz:cm [.v (.int .u64 0),.v (.int .u64 0),.v (.int .u64 0),.v (.int .u64 0)] []=some [.v (.int .u64 0),.v (.int .u64 0),.v (.int .u64 0),.v (.int .u64 0)]:=rfl;have Ee:a_ 0=.agg [.v (.int .u64 0),.v (.int .u64 0),.v (.int .u64 0),.v (.int .u64 0)]:=by simp[a_,aO,cw,wd]
 have la:∀{g:List aa},g[hp.length]?=some (.cells (aO B) false)->aq g true 4 (.mp hp.length 0)=some (a_ B):=λq=>by simp only[aq,q];rfl
 obtain⟨b0,hb0⟩:=Y_ B 0;rw[Ee] at hb0;refine wy ?_;obtain⟨l0,l1,l2,l3,l4⟩:=h1.CO;obtain⟨es,bw,m1,m2⟩:=h1.m;obtain⟨n,b,hlk,hlb⟩:=auc m1 m2 B;refine wy ?_;cases b0 with
 |true=>
  refine dP ?_;exact⟨⟨_,rfl⟩,⟨sets,sv,bC,rows,h1,bl _,Nat.le_succ _⟩,SP⟩
 |false=>
  refine wy ?_;cases b with
  |true=>
   refine dP ?_;exact⟨⟨_,rfl⟩,⟨sets,sv,bC,rows,h1,bl _,Nat.le_succ _⟩,SP⟩
  |false=>
   obtain⟨g2,e2,aeg,x1,x2,x3,mH,rR⟩:=h1.asU B;have k2:=aeg.2 _ _ k1 aBH aBH aBH aBH aBI;refine wx ?_;obtain⟨iM,g3,bQ,iw,kD,nH⟩:=C6 (aY:=32) rR (ic _) (No _) (I9 B) aBJ aBJ aBK;have gu:∀{j:Nat} {b:aa},g2[j]?=some b->(∀c,b≠.tok c 4 142)->∀xs,sv≠.sl xs (.tok j):=λ{j b} q hb xs e=>by
    rcases rR with z|⟨id,z,_,z3⟩
    rw[z] at e;cases e;rw[z] at e;cases e;rw[q] at z3;cases z3;exact hb _ rfl
   have OC:=nH _ _ x1 (gu x1 aBI);have azq:=nH _ _ x2 (gu x2 aBI);have eF:=nH _ _ k2 (gu k2 aBI);obtain⟨Zf,Ys,aiF,azt⟩:=mH;have azs:=nH _ _ aiF (gu aiF aBI);have azr:gJ 33 g3 aS bC rows:=x3.keep λcs q=>nH _ _ q (gu q aBI);have afM:iM.cells=[iM]/\bn iM=true:=by
    rcases iw with rfl|⟨id,rfl,_⟩<;>exact⟨rfl,rfl⟩
   have iy:aF g3 1 (.mp km 2) iM=some (g3.set km (.cells [.fp (cv ak bv F E e) 0,.mp kt 0,iM,.ey kp] false)):=by
    simp only[aF,OC,dJ,afM.1];simp[afM.2,putAt]
   obtain⟨n1,n2,mz,gF,gS⟩:=h.SX;have hne:=h.ne;have bh:=aR (a:=.cells [.fp (cv ak bv F E e) 0,.mp kt 0,iM,.ey kp] false) (gl OC);have z2:(g3.set km (.cells [.fp (cv ak bv F E e) 0,.mp kt 0,iM,.ey kp] false))[kt]?=some (.cells [bC] false):=by rw[av hne];exact azq
   have z3:gJ 33 (g3.set km (.cells [.fp (cv ak bv F E e) 0,.mp kt 0,iM,.ey kp] false)) aS bC rows:=azr.keep λcs q=>by rw[av (dr gF)];exact q
   have z4:(g3.set km (.cells [.fp (cv ak bv F E e) 0,.mp kt 0,iM,.ey kp] false))[kp]?=some (.cL Zf Ys):=by rw[av (dr n1)];exact azs
   have z5:jE 0 (g3.set km (.cells [.fp (cv ak bv F E e) 0,.mp kt 0,iM,.ey kp] false)) iM (sets.map a_++[a_ B]) 4 142:=by
    rcases iw with q|⟨id,q1,ah,aN⟩
    exact ay q;exact ax ⟨id,q1,ah,by rw[av (by rintro rfl;rw[OC] at aN;cases aN)];exact aN⟩
   have gZ:(g3.set km (.cells [.fp (cv ak bv F E e) 0,.mp kt 0,iM,.ey kp] false))[hp.length]?=some (.cells (aO B) false):=by rw[av aBH];exact eF
   have aeh:gB km kt kp aS hp (g3.set km (.cells [.fp (cv ak bv F E e) 0,.mp kt 0,iM,.ey kp] false)):=by
    refine(SP.trans aeg).trans (gB.trans ⟨kD,λj b q h1 h2 h3 h4 h5=>nH j b q (gu q h5)⟩ (gB.set aBI))
   refine wx ?_;generalize g3.set km (.cells [.fp (cv ak bv F E e) 0,.mp kt 0,iM,.ey kp] false)=g4 at bh z2 z3 z4 z5 gZ aeh;have w0:aq g4 false 1 (.mp km 0)=some (.fp (cv ak bv F E e) 0):=by simp only[aq,bh];rfl
   have w1:aq g4 false 1 (.mp km 1)=some (.mp kt 0):=by simp only[aq,bh];rfl
   have w2:aq g4 false 1 (.mp kt 0)=some bC:=by simp only[aq,z2];rfl
   refine p_ (la gZ) ?_;refine aE.pu amm ?_;refine nQ @w0 @w1 @w2 (la gZ) @qE (dx (akq B E) (aP (jY _) (aP (jY _) bS)) ?_);obtain⟨BP,L8⟩:∃b:Bool,q6 [.i,.i,.i,.i] true (a_ (B&&&E)) (a_ 0)=some (.v (.bool b)):=by
    obtain⟨d,hd⟩:=QK (B&&&E) 0;refine⟨true !=d,?_⟩;show(dN [.i,.i,.i,.i] (a_ (B&&&E)).cells (a_ 0).cells).map (λr=>bP (.bool (true !=r)))=_;rw[hd];rfl
   rw[Ee] at L8;have hst:uV ((dL 32 (0:Int)).map ag++[.v (.bool BP)]):=⟨_,BP,rfl,aBI⟩;have f33:cm [.v (.int .i64 0),.v (.int .i64 0),.v (.int .i64 0),.v (.int .i64 0),.v (.int .i64 0),.v (.int .i64 0),.v (.int .i64 0),.v (.int .i64 0),.v (.int .i64 0),.v (.int .i64 0),.v (.int .i64 0),.v (.int .i64 0),.v (.int .i64 0),.v (.int .i64 0),.v (.int .i64 0),.v (.int .i64 0),.v (.int .i64 0),.v (.int .i64 0),.v (.int .i64 0),.v (.int .i64 0),.v (.int .i64 0),.v (.int .i64 0),.v (.int .i64 0),.v (.int .i64 0),.v (.int .i64 0),.v (.int .i64 0),.v (.int .i64 0),.v (.int .i64 0),.v (.int .i64 0),.v (.int .i64 0),.v (.int .i64 0),.v (.int .i64 0),.v (.bool false)] [(32,1,.v (.bool BP))]=some ((dL 32 (0:Int)).map ag++[.v (.bool BP)]):=rfl;have ab:∀x:List U,uV x->dA 33 [.agg x]=some (.sl [.agg x] .exact):=λx hx=>by
    have:=hx.len;simp only[dA,bV,lD,oy,gm,this.1,this.2];simp
   have zI:=ab _ hst;generalize(dL 32 (0:Int)).map ag++[.v (.bool BP)]=qK at hst f33 zI;obtain⟨p6,p1,p2⟩:=z3.push (aY:=264) (e:=235) aBJ aBJ hst.len (by rw[h.len];omega);have aeu:(g4.set aS (.cells (rows++[qK]).flatten true))[kt]?=some (.cells [bC] false):=by rw[av gS];exact z2
   have Ov:aq (g4.set aS (.cells (rows++[qK]).flatten true)) false 1 (.mp km 1)=some (.mp kt 0):=by
    have:(g4.set aS (.cells (rows++[qK]).flatten true))[km]?=some (.cells [.fp (cv ak bv F E e) 0,.mp kt 0,iM,.ey kp] false):=by rw[av gF];exact bh
    simp only[aq,this];rfl
   have ke:aF (g4.set aS (.cells (rows++[qK]).flatten true)) 1 (.mp kt 0) p6=some ((g4.set aS (.cells (rows++[qK]).flatten true)).set kt (.cells [p6] false)):=by
    simp only[aF,aeu,dJ,p2.v];rfl
   have hX:fm km kt kp aS (.fp (cv ak bv F E e) 0) (sets++[B]) iM p6 (rows++[qK]) ((g4.set aS (.cells (rows++[qK]).flatten true)).set kt (.cells [p6] false)):=by
    refine⟨?_,aR (gl aeu),p2.keep λcs q=>?_,⟨Zf,Ys,?_,by simpa using azt⟩,?_,by simp[h.len],λx hx=>?_,hne⟩;rw[av (dr hne),av gF];exact bh;rw[av (dr gS)];exact q;rw[av (dr n2),av (dr mz)];exact z4;rw[eX]
    rcases z5 with q|⟨id,q1,ah,aN⟩
    exact ay q;refine ax ⟨id,q1,ah,?_⟩;rw[av (by rintro rfl;rw[z2] at aN;cases aN),av (by rintro rfl;rw[z3.b] at aN;cases aN)];exact aN
    rcases dZ.1 hx with hx|hx
    exact h.st x hx;rw[cr.1 hx];exact hst
   have asL:gB km kt kp aS hp ((g4.set aS (.cells (rows++[qK]).flatten true)).set kt (.cells [p6] false)):=(aeh.trans (gB.set aBI)).trans (gB.set aBI);have CM:=hX.CO.2.2.1;refine vS (dV @w0 @w1 @w2 (la gZ)) @fz @L8 @f33 @zI @p1 @Ov @ke @qE ?_;refine kf @D9 @iE @CM @hX.ahl ?_;exact⟨⟨_,rfl⟩,⟨_,iM,p6,_,hX,aBI,aBI⟩,asL⟩
end
end
section
variable{k len n o q:Nat}{g2:List aa}{bs:List Nat}
@[go_sem]def Ob(h:List aa)(a:U){x:U}(hx:x.cells=[x])(h1:bn x=true):aF (h++[aj [a] false]) 1 (.mp h.length 0) x=some (h++[aj [x] false]):=by
 simp only[aF,er (bl _),kj,l6,dJ,hx];simp[h1,putAt]
@[go_sem]def PY(h:List aa)(B:Nat):aF (h++[aj [.v (.int .u64 0),.v (.int .u64 0),.v (.int .u64 0),.v (.int .u64 0)] false]) 4 (.mp h.length 0) (a_ B)=some (h++[aj (aO B) false]):=by
 simp only[aF,er (bl _),kj,l6,dJ];have e:(a_ B).cells=aO B:=rfl;rw[e,if_pos ⟨rfl,aBI,rfl⟩];simp[putAt,aO]
@[go_sem]def wK{g:List aa}{B:Nat}(h:g[k]?=some (.cells (aO B) false)):aq g true 4 (.mp k 0)=some (a_ B):=by
 simp only[aq,h];rfl
section
variable{g:List aa}{k:Nat}{bs:List Nat}{q B:Nat}
@[go_sem]def Pz(h:q<len):jH len n (.mp k 0) q=some (.mp k (q*n)):=by
 simp only[jH];rw[if_pos ⟨aBH,aBH⟩];simp[je]
@[go_sem]def W4{m:Nat}(h:q<len):jH len 1 (.rp k m o) q=some (.rp k m (o+q)):=by
 simp only[jH];rw[if_pos ⟨aBH,aBH⟩];simp[je]
@[go_sem]def X3(h:g[k]?=some (.cells (dS bs) false))(hB:bs[q]?=some B):aq g true 4 (.mp k (q*4))=some (a_ B):=by
 have hl:=gl hB;have h1:=LJ hB;have h2:=wW bs;simp only[aq,h];unfold dB;rw[if_pos rfl,if_pos aBH,h1];rfl
@[go_sem]def X4(h:g[k]?=some (.cells (dS bs) false))(hl:q<bs.length)(B:Nat):aF g 4 (.mp k (q*4)) (a_ B)=some (g.set k (.cells (dS (bs.set q B)) false)):=by
 have h2:=wW bs;simp only[aF,h,dJ];have e1:(a_ B).cells=aO B:=rfl;rw[e1,if_pos ⟨rfl,aBH,afL B⟩,LK hl]
@[go_sem]def X1(h:g[k]?=some (.cells (dS bs) false))(hl:bs.length=32):aq g true 128 (.mp k 0)=some (.agg (dS bs)):=by
 have h2:=wW bs;simp only[aq,h];unfold dB;rw[if_pos rfl,if_pos aBH,nk,kG aBH]
@[go_sem]def X2(hB:bs[q]?=some B)(hl:bs.length=32):zJ true 4 32 (.agg (dS bs)) q=some (a_ B):=by
 have hq:=gl hB;have h2:=wW bs;simp only[zJ];rw[if_pos ⟨aBH,aBH⟩];unfold dB;rw[if_pos rfl,uG,if_pos aBH,LJ hB];rfl
end
section
variable{km kt kp aS:Nat}{cy:U}{sets:List Nat}{sv bC:U}{rows:List (List U)}{hp g:List aa}
def fm.fin{n0:Nat}(h:fm km kt kp aS cy sets sv bC rows g)(he:lH n0 g g2):fm km kt kp aS cy sets sv bC rows g2:=h.keep λj b hj q=>by
 rcases he.2 j with z|⟨_,z,_⟩
 rw[z];exact q;exfalso
 rcases hj with rfl|rfl|rfl|rfl|⟨c,rfl⟩
 have:=h.b;rw[z] at this;cases this;have:=h.t;rw[z] at this;cases this;obtain⟨es,bw,m1,_⟩:=h.m;rw[z] at m1;cases m1;have:=h.r.b;rw[z] at this;cases this;rw[z] at q;cases q
def gB.fin(h:gB km kt kp aS hp g)(he:lH hp.length g g2):gB km kt kp aS hp g2:=⟨by rw[he.1];exact h.1,λj b q h1 h2 h3 h4 h5=>by
 have hl:=gl q
 rcases he.2 j with z|⟨z,_,_⟩
 rw[z];exact h.2 j b q h1 h2 h3 h4 h5;omega⟩
def fm.write(h:fm km kt kp aS cy sets sv bC rows g){p:Nat}{x:List U}(hx:rows[p]?=some x)(ho:o<32)(n:Int):
  aF g 1 (.rp aS rows.flatten.length (p*33+o)) n=some (g.set aS (.cells (rows.set p (putAt x o [ag n])).flatten true))/\fm km kt kp aS cy sets sv bC (rows.set p (putAt x o [ag n])) (g.set aS (.cells (rows.set p (putAt x o [ag n])).flatten true)):=by
 obtain⟨q1,ah⟩:=h.r.st (w:=1) (o:=o) (y:=ag n) hx rfl aBH rfl;have hst:=h.st x (bG hx);obtain⟨n1,n2,mz,gF,gS⟩:=h.SX;obtain⟨es,bw,m1,m2⟩:=h.m;have hb:=h.r.b;refine⟨q1,⟨?_,?_,ah,⟨es,bw,?_,m2⟩,?_,by rw[rU];exact h.len,λy hy=>?_,h.ne⟩⟩;rw[av gF];exact h.b;rw[av gS];exact h.t;rw[av (dr mz)];exact m1
 rcases h.s with q|⟨id,bh,z2,z3⟩
 exact ay q;exact ax ⟨id,bh,z2,by rw[av (by rintro rfl;rw[hb] at z3;cases z3)];exact z3⟩
 rcases Ga hy with q|rfl
 exact h.st y q;exact hst.put ho n
structure qi(km kt kp aS:Nat)(cy:U)(sets:List Nat)(sv bC:U)(rows:List (List U))(hp:List aa)(n:Nat)(bs:List Nat)(g:List aa):Prop where
 x:fm km kt kp aS cy sets sv bC rows g
 kb:gB km kt kp aS hp g
 b3:g[n]?=some (.cells [.mp km 0] false)
 sg:g[n+2]?=some (.cells (dS bs) false)
 yu:bs.length=32
 lo:km≠n+2/\kt≠n+2/\hp.length<=n
def qi.app{x:List aa}(h:qi km kt kp aS cy sets sv bC rows hp n bs g):qi km kt kp aS cy sets sv bC rows hp n bs (g++x):=⟨h.x.app,h.kb.trans gB.app,aM h.b3,aM h.sg,h.yu,h.lo⟩
def qi.sP{b b':aa}(h:qi km kt kp aS cy sets sv bC rows hp n bs g)(hb:g[k]?=some b)(h1:∀cs fz,b≠.cells cs fz)(h2:∀es bw,b≠.cL es bw)(h5:∀c,b≠.tok c 4 142)(hk:hp.length<=k):qi km kt kp aS cy sets sv bC rows hp n bs (g.set k b'):=by
 refine⟨h.x.sP hb h1 h2 h5,h.kb.fA hk,?_,?_,h.yu,h.lo⟩;rw[av (by rintro rfl;have:=h.b3;rw[hb] at this;cases this;exact h1 _ _ rfl)];exact h.b3;rw[av (by rintro rfl;have:=h.sg;rw[hb] at this;cases this;exact h1 _ _ rfl)];exact h.sg
def qi.put(h:qi km kt kp aS cy sets sv bC rows hp n bs g)(q B:Nat):qi km kt kp aS cy sets sv bC rows hp n (bs.set q B) (g.set (n+2) (.cells (dS (bs.set q B)) false)):=
 ⟨h.x.ag_ h.sg (dr h.lo.1) (dr h.lo.2.1),h.kb.fA (by have:=h.lo.2.2;omega),by rw[av aBH];exact h.b3,aR (gl h.sg),by simp[h.yu],h.lo⟩
def Zt{G:Cells}(bz:eE G){ak bv:U}{F E:Nat}{em:Bool}{on:List Nat}(h:fm km kt kp aS (.fp (cv ak bv F E em) 0) sets sv bC rows hp)(hcl:dn (.fp (cv ak bv F E em) 0))(ho:bL ak (on.map a_))(hol:on.length<=256)(hn:sets.length<=900){a0:Nat}(ha:a0<sets.length)(A:Nat):
  aE G az 113 [.mp km 0,.v (.int .i64 (a0:Int)),a_ A] hp λr hp'=>(∃rK iM p6 gx,fm km kt kp aS (.fp (cv ak bv F E em) 0) rK iM p6 gx hp'/\sets.length<=rK.length/\rK.length<=sets.length+32)/\gB km kt kp aS hp hp':=by
 refine acP.go ?_;have c0:(bB km 0).cells=[.mp km 0]:=rfl;have c1:(a_ A).cells=aO A:=rfl;have hkm:=gl h.b;have hkt:=gl h.t;have hz:dL 128 (bP (.int .u64 0))=dS (dL 32 0):=by simp[dS,aO,cw,wd,dL]
 simp only[dL] at hz;have c8:qi km kt kp aS (.fp (cv ak bv F E em) 0) sets sv bC rows hp hp.length (dL 32 0) (hp++[aj [bB km 0] false]++[aj (aO A) false]++[aj (dS (dL 32 0)) false]):=
  ⟨h.app.app.app,(gB.app.trans gB.app).trans gB.app,aBI,aCJ,aBI,aBH,aBH,bl _⟩
 have sG:(hp++[aj [bB km 0] false]++[aj (aO A) false]++[aj (dS (dL 32 0)) false])[hp.length+1]?=some (.cells (aO A) false):=aCJ
 have ji:(hp++[aj [bB km 0] false]++[aj (aO A) false]++[aj (dS (dL 32 0)) false]).length=hp.length+3:=aBI
 generalize hg:hp++[aj [bB km 0] false]++[aj (aO A) false]++[aj (dS (dL 32 0)) false]=g at c8 sG ji;refine cM (λe h=>e=[(1,.v (.int .i64 (a0:Int))),(3,.mp hp.length 0),(5,.mp (hp.length+1) 0)]/\h=hp++[aj [bB km 0] false]++[aj (aO A) false]) ?_ ?_;refine kg @cB.{0} @lF ?_;exact⟨trivial,trivial⟩;rintro e0 h0 ⟨rfl,rfl⟩;refine cM (λe h=>e=[(1,.v (.int .i64 (a0:Int))),(3,.mp hp.length 0),(5,.mp (hp.length+1) 0),(6,.mp (hp.length+2) 0)]/\h=g) ?_ ?_;refine kg @cB.{0} @lF ?_;exact⟨trivial,hg⟩;rintro e0 h0 ⟨rfl,rfl⟩;refine cM (λe h=>∃bs,e=[(1,.v (.int .i64 (a0:Int))),(3,.mp hp.length 0),(6,.mp (hp.length+2) 0)]/\qi km kt kp aS (.fp (cv ak bv F E em) 0) sets sv bC rows hp hp.length bs h) ?_ ?_
 · refine wx (aZ (GI A _) ?_)
   rintro _ h1 ⟨rfl,rfl⟩;refine dP ?_;rw[vR];refine⟨_,_,_,rfl,λk1 eL ats ok hR=>?_⟩;have iy:=((c8.app (x:=[aj (aO A) false])).app (x:=marks false)).app (x:=[iB .ready none ats #[14] ok]);have anJ:(h0++[aj (aO A) false]++marks false++[iB .ready none ats #[14] ok])[k1]?=some (.aT .ready none ats #[14] ok):=by rw[eL];simp
   have Et:(h0++[aj (aO A) false]++marks false++[iB .ready none ats #[14] ok])[h0.length]?=some (.cells (aO A) false):=aM (aM aBI);have kl:hp.length<=k1:=by rw[eL];simp;omega
   refine aZ (GJ bz (B:=A) (kb:=h0.length) (Stop:=λ_=>False) (Inv:=λdone g=>∃bs,qi km kt kp aS (.fp (cv ak bv F E em) 0) sets sv bC rows hp hp.length bs g/\g[k1]?=some (.aT .ready none ats #[14] ok)) ?_ Et ⟨_,iy,anJ⟩) ?_
   · rintro done p g ⟨bs,hF,hl⟩ hb Mn
     refine hR [_] g _ rfl ⟨none,hl⟩ ?_;have se:qI [(1,bP (.int .i64 (a0:Int))),(3,bB hp.length 0),(6,bB (hp.length+2) 0),(13,U.fn (qM 105) [] [bB h0.length 0])] (List.zip [14] [bP (uF b7 (p:Int))])=[(14,bP (uF b7 (p:Int))),(1,bP (.int .i64 (a0:Int))),(3,bB hp.length 0),(6,bB (hp.length+2) 0),(13,U.fn (qM 105) [] [bB h0.length 0])]:=rfl;rw[se];have n1:=Ob g (.v (.int .i64 0)) (x:=.v (.int .i64 (p:Int))) rfl rfl;refine di @n1 ?_;have hl':(g++[aj [bP (.int .i64 (p:Int))] false])[k1]?=some (.aT .ready none ats #[14] ok):=aM hl;refine⟨⟨none,hl'⟩,λdz=>?_⟩;have ao_:=gl hl';have aAQ:=gl hl;have rq:=(hF.app (x:=[aj [bP (.int .i64 (p:Int))] false])).sP (b':=.aT .busy dz ats #[14] ok) hl' aBI aBI aBI kl;have AX:((g++[aj [bP (.int .i64 (p:Int))] false]).set k1 (.aT .busy dz ats #[14] ok))[g.length]?=some (.cells [.v (.int .i64 (p:Int))] false):=by rw[av aBH];simp
     have age:((g++[aj [bP (.int .i64 (p:Int))] false]).set k1 (.aT .busy dz ats #[14] ok))[k1]?=some (.aT .busy dz ats #[14] ok):=aR ao_;have Sc:hp.length+2<g.length:=gl hF.sg;generalize(g++[aj [bP (.int .i64 (p:Int))] false]).set k1 (.aT .busy dz ats #[14] ok)=g1 at rq AX age⊢;generalize g.length=m7 at AX Sc⊢;have l0:=rq.x.CO.1;refine fB (c6 rq.b3) @l0 (c6 AX) ?_;refine aE.pu (au6 ho aBH p) ?_;generalize on[p]?.getD 0=ja;refine wy (aZ (GI ja _) ?_);rintro _ g2 ⟨rfl,rfl⟩;refine wy ?_;rw[vR];refine⟨_,_,_,rfl,λk2 hk2 lN j7 HK=>?_⟩;have ke:=((rq.app (x:=[aj (aO ja) false])).app (x:=marks true)).app (x:=[iB .ready none lN #[22] j7]);have anK:(g1++[aj (aO ja) false]++marks true++[iB .ready none lN #[22] j7])[k2]?=some (.aT .ready none lN #[22] j7):=by rw[hk2];simp
     have anL:(g1++[aj (aO ja) false]++marks true++[iB .ready none lN #[22] j7])[g1.length]?=some (.cells (aO ja) false):=aM (aM aBI);have avP:(g1++[aj (aO ja) false]++marks true++[iB .ready none lN #[22] j7])[m7]?=some (.cells [.v (.int .i64 (p:Int))] false):=aM (aM (aM AX));have avQ:(g1++[aj (aO ja) false]++marks true++[iB .ready none lN #[22] j7])[k1]?=some (.aT .busy dz ats #[14] ok):=aM (aM (aM age));have SU:hp.length<=k2:=by
      have:=gl rq.sg;rw[hk2];simp;omega
     refine aZ (GJ bz (B:=ja) (kb:=g1.length) (Stop:=λ_=>False) (Inv:=λdone g=>∃bs,qi km kt kp aS (.fp (cv ak bv F E em) 0) sets sv bC rows hp hp.length bs g/\g[m7]?=some (.cells [.v (.int .i64 (p:Int))] false)/\g[k1]?=some (.aT .busy dz ats #[14] ok)/\g[k2]?=some (.aT .ready none lN #[22] j7)) ?_ anL ⟨_,ke,avP,avQ,anK⟩) ?_;rintro al_ q g3 ⟨aAb,aau,uk,rl,rk⟩ gD apL;refine HK [_] g3 _ rfl ⟨none,rk⟩ ?_;have aw8:qI [(6,bB (hp.length+2) 0),(7,bB m7 0),(21,U.fn (qM 105) [] [bB g1.length 0])] (List.zip [22] [bP (uF b7 (q:Int))])=[(22,bP (uF b7 (q:Int))),(6,bB (hp.length+2) 0),(7,bB m7 0),(21,U.fn (qM 105) [] [bB g1.length 0])]:=rfl;rw[aw8];refine dP ?_;refine⟨⟨none,rk⟩,λy3=>?_⟩;have aws:=gl rk;have Cb:=aau.sP (b':=.aT .busy y3 lN #[22] j7) rk aBI aBI aBI SU;have M8:k2≠k1:=by rintro rfl;rw[rl] at rk;cases rk
     have afi:k2≠m7:=by rintro rfl;rw[uk] at rk;cases rk
     have t7:(g3.set k2 (.aT .busy y3 lN #[22] j7))[m7]?=some (.cells [.v (.int .i64 (p:Int))] false):=by rw[av afi];exact uk
     have tl:(g3.set k2 (.aT .busy y3 lN #[22] j7))[k1]?=some (.aT .busy dz ats #[14] ok):=by rw[av M8];exact rl
     have tk:(g3.set k2 (.aT .busy y3 lN #[22] j7))[k2]?=some (.aT .busy y3 lN #[22] j7):=aR aws;generalize g3.set k2 (.aT .busy y3 lN #[22] j7)=g4 at Cb t7 tl tk⊢;have He:∀g5 GR,qi km kt kp aS (.fp (cv ak bv F E em) 0) sets sv bC rows hp hp.length GR g5->g5[m7]?=some (.cells [.v (.int .i64 (p:Int))] false)->g5[k1]?=some (.aT .busy dz ats #[14] ok)->g5[k2]?=some (.aT .busy y3 lN #[22] j7)->
       (∃st pd,g5[k2]?=some (.aT st pd lN #[22] j7))/\∃c:Bool,bP (.bool true)=.v (.bool c)/\(c=true->∃bs,qi km kt kp aS (.fp (cv ak bv F E em) 0) sets sv bC rows hp hp.length bs (g5.set k2 (.aT .ready none lN #[22] j7))/\(g5.set k2 (.aT .ready none lN #[22] j7))[m7]?=some (.cells [.v (.int .i64 (p:Int))] false)/\(g5.set k2 (.aT .ready none lN #[22] j7))[k1]?=some (.aT .busy dz ats #[14] ok)/\(g5.set k2 (.aT .ready none lN #[22] j7))[k2]?=some (.aT .ready none lN #[22] j7))/\(c=false->False):=λg5 GR h1 h2 h3 h4=>
      ⟨⟨.busy,y3,h4⟩,true,rfl,λ_=>⟨GR,h1.sP h4 aBI aBI aBI SU,by rw[av afi];exact h2,by rw[av M8];exact h3,aR (gl h4)⟩,λz=>by cases z⟩
     refine ni ?_;refine b8 (λc=>?_) λc=>?_;have hq:q<32:=by simp at c;omega
     obtain⟨O1,an1⟩:=cD (by rw[aau.yu];exact hq);have l4:=X3 Cb.sg an1;have awY:=X4 Cb.sg (by rw[Cb.yu];exact hq) (O1|||2^p);simp -failIfUnchanged -implicitDefEqProofs (disch:=first|assumption|decide|omega) only[gQ,lY,lZ,↓reduceIte,s5,rX,s6,s7,ov,x4,x5,c,Pz hq,l4,c6 t7];refine dx (ait O1 p Mn) (aP (jY _) (aP (bM _) bS)) ?_;simp -failIfUnchanged -implicitDefEqProofs (disch:=first|assumption|decide|omega) only[gQ,lY,lZ,↓reduceIte,s5,rX,s6,s7,ov,x4,x5,Pz hq,awY];have Rt:=Cb.put q (O1|||2^p);have CX:∀{j:Nat} {b:aa},g4[j]?=some b->(∀cs,b≠.cells cs false)->hp.length+2≠j:=λz z2 e=>by
      rw[<-e,Cb.sg] at z;cases z;exact z2 _ rfl
     exact He _ _ Rt (by rw[av aBH];exact t7) (by rw[av (CX tl aBI)];exact tl) (by rw[av (CX tk aBI)];exact tk);exact He _ _ Cb t7 tl tk;rintro r g5 ⟨rfl,⟨GR,Rt,uk,rl,rk⟩|hf⟩;refine⟨.ready,none,rk,aBJ,?_⟩;have M8:k2≠k1:=by rintro rfl;rw[rl] at rk;cases rk
     have an3:=Rt.sP (b':=.aT .exhausted none lN #[22] j7) rk aBI aBI aBI SU;have tl:(g5.set k2 (.aT .exhausted none lN #[22] j7))[k1]?=some (.aT .busy dz ats #[14] ok):=by rw[av M8];exact rl
     refine di @vk.eq_1 ?_;show(∃st pd,_=_)/\_;exact⟨⟨.busy,dz,tl⟩,true,rfl,λ_=>⟨GR,an3.sP tl aBI aBI aBI kl,aR (gl tl)⟩,λz=>by cases z⟩;exact hf.elim
   rintro r g ⟨rfl,⟨bs,hF,hl⟩|hf⟩;refine⟨.ready,none,hl,aBJ,?_⟩;refine di @vk.eq_1 ?_;exact⟨bs,trivial,hF.sP hl aBI aBI aBI kl⟩;exact hf.elim
 rintro e0 g1 ⟨bs,rfl,hF⟩;refine fC (X1 hF.sg hF.yu) ?_;refine cj (λi e g=>∃rK iM p6 gx,e=[(1,.v (.int .i64 (a0:Int))),(3,.mp hp.length 0),(32,.agg (dS bs)),(33,ag i)]/\fm km kt kp aS (.fp (cv ak bv F E em) 0) rK iM p6 gx g/\sets.length<=rK.length/\rK.length<=sets.length+i/\gB km kt kp aS hp g/\g[hp.length]?=some (.cells [.mp km 0] false)) 32 ⟨sets,sv,bC,rows,rfl,hF.x,bl _,Nat.le_add_right _ _,hF.kb,hF.b3⟩ ?_ ?_;rintro i e g hi ⟨rK,iM,p6,gx,rfl,hX,h1,h2,hK,h3⟩;have c1:decide ((i:Int)<32)=true:=aBK
 obtain⟨B,hB⟩:=cD (by rw[hF.yu];exact hi);have n1:=PY g B;have HL:=hX.app (x:=[.cells (aO B) false]);have k2:(g++[aj (aO B) false])[hp.length]?=some (.cells [.mp km 0] false):=aM h3;have eF:(g++[aj (aO B) false])[g.length]?=some (.cells (aO B) false):=aBI
 have an6:gB km kt kp aS hp (g++[.cells (aO B) false]):=hK.trans gB.app;refine p_ (X2 hB hF.yu) ?_;refine kE (c6 k2) (wK eF) (aZ (amJ bz HL hcl aBH B) ?_);rintro r g3 ⟨⟨n,rfl⟩,⟨axi,ayb,ayI,Di,Ey,p1,p2⟩,L1⟩;have hkr:=gl h.r.b;have hkp:kp<hp.length:=aDR
 have gZ:=L1.2 _ _ k2 aBH aBH aBH aBH aBI;obtain⟨l0,l1,l2,l3,l4⟩:=Ey.CO;have RE:a0<Di.length:=by rw[Ey.len];omega
 obtain⟨x,hx⟩:=cD RE;obtain⟨q1,ah⟩:=Ey.write hx hi n;have e1:=Ey.r.bK RE;have a1:=W4 (k:=aS) (m:=Di.flatten.length) (o:=a0*33) (len:=32) hi;refine lB (c6 gZ) @l1 @l4 @e1 @y6 @a1 @q1 ?_;exact⟨axi,ayb,ayI,_,rfl,ah,aBH,aBH,(an6.trans L1).trans (gB.set aBI),by rw[av aBH];exact gZ⟩;rintro e g ⟨rK,iM,p6,gx,rfl,hX,h1,h2,hK,h3⟩;have c1:decide (((32:Nat):Int)<32)=false:=rfl;refine wy ?_;rw[Uy];intro g2 he;refine wy ?_;exact⟨⟨rK,iM,p6,gx,hX.fin he,h1,h2⟩,hK.fin he⟩
end
end
section
variable{hp:List aa}
def yd(x:U):Prop:=∃rows:List (List U),x=.fp [.sl (rows.map bT) .no] 0/\(∀r∈rows,uV r)/\0<rows.length/\rows.length<=300
def Px(r:U):Prop:=∃(x:U) (e:Int),r=.aK [x,ag e]/\((e=0/\yd x)\/(e≠0/\x=.v (.pointer none)))
def ah0{e:Int}(he:e≠0):∃n aQ,b9 hp n (.aK [.v (.pointer none),e])=some aQ/\Px aQ:=by
 obtain⟨n,hn⟩:=(dR (aA (aB (.pointer none)) (aA (aB (.int .i64 e)) bW)):aX hp _ _).done;exact⟨n,_,hn,_,e,rfl,ax ⟨he,rfl⟩⟩
def ayk{km kt kp aS:Nat}{cy:U}{sets:List Nat}{sv bC:U}{rows:List (List U)}(h:fm km kt kp aS cy sets sv bC rows hp)(h0:0<sets.length)(h1:sets.length<=300):∃n aQ,b9 hp n (.aK [.mp kt 0,(0:Int)])=some aQ/\Px aQ:=by
 have fl:dD hp rows.flatten rows.flatten:=dD.each λa ha=>by
  obtain⟨x,hx,HN⟩:=List.mem_flatten.1 ha;obtain⟨l,b,rfl,_⟩:=h.st x hx
  rcases dZ.1 HN with q|q
  obtain⟨n,_,rfl⟩:=cO.1 q;exact aB _;rw[cr.1 q];exact aB _
 have h2:=aX.rs (sz:=33) (o:=0) (len:=rows.length) h.r.b rfl fl;have e:=Ht [] h.r.each;rw[eR,show([]:List U).length=0 from rfl] at e;rw[e,<-h.r.v] at h2;obtain⟨n,hn⟩:=(dR (aA (aX.mp h.t (aA h2 bW)) (aA (aB (.int .i64 0)) bW)):aX hp (.aK [.mp kt 0,(0:Int)]) _).done;exact⟨n,_,hn,_,0,rfl,ay ⟨rfl,rows,rfl,h.st,by rw[h.len];exact h0,by rw[h.len];exact h1⟩⟩
@[go_sem]def GQ{g:List aa}{k B:Nat}(h:g[k]?=some (.cells (aO B) false))(B':Nat):aF g 4 (.mp k 0) (a_ B')=some (g.set k (.cells (aO B') false)):=by
 simp only[aF,h];rfl
def Yu{ak bv:U}{F E:Nat}{e:Bool}{on bq:List Nat}(ho:bL ak (on.map a_))(hb:bL bv (bq.map a_)):dn (.fp (cv ak bv F E e) 0):=BT λc hc=>by
 simp only[cv,ek,oz,or_false] at hc
 rcases hc with rfl|rfl|rfl|rfl|rfl|rfl|rfl|rfl|rfl|rfl|rfl
 exact K9 ho;exact K9 hb
 all_goals exact bM _
def auJ{G:Cells}(bz:eE G){x:U}(hx:Gn x):cx G az 57 [x] Px:=by
 obtain⟨on,bq,ak,bv,F,E,e,rfl,ho,hb,hol,L9⟩:=hx;have hcl:=Yu (F:=F) (E:=E) (e:=e) ho hb;refine cR (acf.go ?_);have q8:(U.fp (cv ak bv F E e) 0).cells=[.fp (cv ak bv F E e) 0]:=rfl;have va:([aj [U.fp (cv ak bv F E e) 0] false])[0]?=some (.cells [.fp (cv ak bv F E e) 0] false):=rfl;refine cM (λe' h=>e'=[(1,.mp 0 0),(2,.v (.pointer none)),(3,.v (.int .i64 0))]/\h=[aj [U.fp (cv ak bv F E e) 0] false]) ?_ ?_;exact wx tt;rintro e' h ⟨rfl,rfl⟩;refine fh (λe' h=>e'=[(1,.mp 0 0),(2,.v (.pointer none)),(3,.v (.int .i64 0))]/\h=[aj [U.fp (cv ak bv F E e) 0] false]) ?_ ?_;exact wx tt;rintro e' h ⟨rfl,rfl⟩;have hst:uV ((dL 32 (0:Int)).map ag++[.v (.bool e)]):=⟨_,e,rfl,aBI⟩;refine cM (λe' h=>∃km kt kp aS sv bC rows,e'=[(1,.mp 0 0),(2,.v (.pointer none)),(3,.v (.int .i64 0)),(4,.mp km 0)]/\fm km kt kp aS (.fp (cv ak bv F E e) 0) [0] sv bC rows h/\h[0]?=some (.cells [.fp (cv ak bv F E e) 0] false)/\(km≠0/\kt≠0/\kp≠0/\aS≠0)) ?_ ?_;rw[FZ];have f33:cm [.v (.int .i64 0),.v (.int .i64 0),.v (.int .i64 0),.v (.int .i64 0),.v (.int .i64 0),.v (.int .i64 0),.v (.int .i64 0),.v (.int .i64 0),.v (.int .i64 0),.v (.int .i64 0),.v (.int .i64 0),.v (.int .i64 0),.v (.int .i64 0),.v (.int .i64 0),.v (.int .i64 0),.v (.int .i64 0),.v (.int .i64 0),.v (.int .i64 0),.v (.int .i64 0),.v (.int .i64 0),.v (.int .i64 0),.v (.int .i64 0),.v (.int .i64 0),.v (.int .i64 0),.v (.int .i64 0),.v (.int .i64 0),.v (.int .i64 0),.v (.int .i64 0),.v (.int .i64 0),.v (.int .i64 0),.v (.int .i64 0),.v (.int .i64 0),.v (.bool false)] [(32,1,.v (.bool e))]=some ((dL 32 (0:Int)).map ag++[.v (.bool e)]):=rfl;have fz:cm [.v (.int .u64 0),.v (.int .u64 0),.v (.int .u64 0),.v (.int .u64 0)] []=some (aO 0):=by
  have:aO 0=[.v (.int .u64 0),.v (.int .u64 0),.v (.int .u64 0),.v (.int .u64 0)]:=by simp[aO,cw,wd]
  rw[this];rfl
 have ab:dA 4 [.agg (aO 0)]=some (.sl [a_ 0] .exact):=rfl;have aj3:∀(h:List aa) (x:List U),uV x->wC h 33 [.agg x]=some (.rs h.length x.length 33 0 1,h++[.cells x true]):=λh x hx=>by
  have:=hx.len;have Ci:(bT x).cells=x:=rfl;simp[wC,bV,flat,Ci,this.1,this.2]
 have hl:=hst.len;have r1:∀n:Nat,cm [.af] [(0,1,.rs n 33 33 0 1)]=some [.rs n 33 33 0 1]:=λn=>rfl;have Q0:∀(a b:Nat),cm [.v (.pointer none),.v (.pointer none),.af,.v (.map none)] [(0,1,.fp (cv ak bv F E e) 0),(1,1,.mp a 0),(2,1,.sl [a_ 0] .exact),(3,1,.ey b)]=some [.fp (cv ak bv F E e) 0,.mp a 0,.sl [a_ 0] .exact,.ey b]:=λa b=>rfl;have gX:∀l:List U,(bT l).cells=l:=λl=>rfl;have zI:=λh=>aj3 h _ hst;rw[hl.1] at zI;generalize(dL 32 (0:Int)).map ag++[.v (.bool e)]=qK at f33 zI hst hl;have ci:mN [U.fp (cv ak bv F E e) 0] [U.fp (cv ak bv F E e) 0]:=aP hcl bS;have hE:jD 33 [qK]:=λy hy=>by rw[cr.1 hy];exact hl
 have EE:[qK].flatten=qK:=aBI
 refine⟨λ_=>.v (.bool e),λl hl=>?_⟩;simp only[ek,oz,or_false] at hl
 rcases hl with rfl|rfl|rfl
 simp only[eD,kX,tell];refine JY (c6 va) ?_;refine⟨_,ci,QD,?_⟩;refine p9 (dV (c6 va) @f33 @fz @ab) @zI @r1 @gX @Q0 @jW.{0} @eR.{0} @dm.{0} @fQ.{0} ?_;refine⟨4,2,3,1,_,_,[qK],rfl,⟨rfl,rfl,⟨by rw[EE,hl.1];rfl,by rw[EE];rfl,hE⟩,⟨[],0,rfl,λz hz=>by cases hz⟩,ay rfl,rfl,λy hy=>aEg,aBJ⟩,rfl,aBJ,aBJ,aBJ,aBJ⟩;simp only[eD,kX,tell];refine JY (c6 va) ?_;refine⟨_,ci,QD,?_⟩;refine p9 (dV (c6 va) @f33 @fz @ab) @zI @r1 @gX @Q0 @jW.{0} @eR.{0} @dm.{0} @fQ.{0} ?_;refine⟨4,3,2,1,_,_,[qK],rfl,⟨rfl,rfl,⟨by rw[EE,hl.1];rfl,by rw[EE];rfl,hE⟩,⟨[],0,rfl,λz hz=>by cases hz⟩,ay rfl,rfl,λy hy=>aEg,aBJ⟩,rfl,aBJ,aBJ,aBJ,aBJ⟩;simp only[eD,kX,tell];refine JY (c6 va) ?_;refine⟨_,ci,QD,?_⟩;refine p9 (dV (c6 va) @f33 @fz @ab) @zI @r1 @gX @Q0 @jW.{0} @eR.{0} @dm.{0} @fQ.{0} ?_;refine⟨4,3,1,2,_,_,[qK],rfl,⟨rfl,rfl,⟨by rw[EE,hl.1];rfl,by rw[EE];rfl,hE⟩,⟨[],0,rfl,λz hz=>by cases hz⟩,ay rfl,rfl,λy hy=>aEg,aBJ⟩,rfl,aBJ,aBJ,aBJ,aBJ⟩;rintro e' h ⟨km,kt,kp,aS,sv,bC,rows,rfl,hX,h0,n1,n2,mz,gF⟩;refine cM (λe' h=>∃sets sv bC rows,e'=[(1,.mp 0 0),(2,.v (.pointer none)),(3,.v (.int .i64 0)),(4,.mp km 0)]/\fm km kt kp aS (.fp (cv ak bv F E e) 0) sets sv bC rows h/\h[0]?=some (.cells [.fp (cv ak bv F E e) 0] false)/\1<=sets.length/\sets.length<=232) ?_ ?_;refine wy ?_;refine aE.pu amO ?_;refine wy (aZ (Zt bz hX hcl ho hol aBJ (a0:=0) aBJ F) ?_);rintro r g ⟨⟨sets,sv,bC,rows,HL,q1,ah⟩,hK⟩;simp only[dm,fQ] at q1 ah;refine wx ?_;exact⟨sets,sv,bC,rows,trivial,HL,hK.2 _ _ h0 (dr n1) (dr n2) (dr mz) (dr gF) aBI,aBH,aBH⟩;rintro e' h ⟨sets,sv,bC,rows,rfl,hX,h0,hs1,hs2⟩;refine fh (λe' h=>∃sets sv bC rows,e'=[(4,.mp km 0)]/\fm km kt kp aS (.fp (cv ak bv F E e) 0) sets sv bC rows h/\1<=sets.length/\sets.length<=232) ?_ ?_;refine wy ?_;refine mF (n:=300) (λn e' g=>∃a0 sets sv bC rows,n+a0=301/\e'=[(1,.mp 0 0),(2,.v (.pointer none)),(3,.v (.int .i64 0)),(4,.mp km 0),(5,ag ((a0:Nat):Int))]/\fm km kt kp aS (.fp (cv ak bv F E e) 0) sets sv bC rows g/\g[0]?=some (.cells [.fp (cv ak bv F E e) 0] false)/\1<=sets.length/\sets.length<=232/\a0<=sets.length) ⟨1,sets,sv,bC,rows,aBJ,rfl,hX,h0,hs1,hs2,hs1⟩ ?_;rintro n e' g ⟨a0,sets,sv,bC,rows,hna,rfl,hX,h0,hs1,hs2,ha⟩;refine lC ?_;refine b8 (λc=>?_) λc=>?_;have hlt:a0<sets.length:=by simp at c;omega
 refine wx ?_;refine b8 (λc2=>?_) λc2=>?_;rw[A2];intro hp' he;refine wy ?_;exact ah0 aBJ
 · have aAZ:sets.length<=200:=by simp at c2;omega
   obtain⟨B,hB⟩:=cD hlt;have e1:bu 4 sv (.v (.int .i64 (a0:Int)))=some (.fp (aO B) 0):=by
    rcases hX.s with rfl|⟨id,rfl,_⟩<;>exact ku (x:=a_ B) (by simp[hB]) rfl
   have e2:∀hp,aq hp true 4 (.fp (aO B) 0)=some (a_ B):=λhp=>rfl;have hz:[bP (.int .u64 0),.v (.int .u64 0),.v (.int .u64 0),.v (.int .u64 0)]=aO 0:=by simp[aO,cw,wd]
   have RB:=hX.app (x:=[aj (aO 0) false]);have sw:(g++[aj (aO 0) false])[0]?=some (.cells [.fp (cv ak bv F E e) 0] false):=aM h0;have Rn:(g++[aj (aO 0) false])[g.length]?=some (.cells (aO 0) false):=aBI
   have hkm:=gl hX.b;have hkt:=gl hX.t;have Cl:=gl h0;obtain⟨aBa,aBb,as2,aBe,aBf⟩:=RB.CO;refine wy ?_;generalize tS:g.length=m6 at Rn hkm hkt Cl⊢;generalize g++[aj (aO 0) false]=g1 at RB sw Rn as2⊢;refine wy (aZ (GI B _) ?_);rintro _ g2 ⟨rfl,rfl⟩;refine wy ?_;rw[vR];refine⟨_,_,_,rfl,λk hk ats ok hR=>?_⟩;have Ey:=((RB.app (x:=[aj (aO B) false])).app (x:=marks false)).app (x:=[iB .ready none ats #[49] ok]);have Es:(g1++[aj (aO B) false]++marks false++[iB .ready none ats #[49] ok])[k]?=some (.aT .ready none ats #[49] ok):=by rw[hk];simp
   have Et:(g1++[aj (aO B) false]++marks false++[iB .ready none ats #[49] ok])[g1.length]?=some (.cells (aO B) false):=aM (aM aBI);have B7:(g1++[aj (aO B) false]++marks false++[iB .ready none ats #[49] ok])[0]?=some (.cells [.fp (cv ak bv F E e) 0] false):=aM (aM (aM sw));have h63:(g1++[aj (aO B) false]++marks false++[iB .ready none ats #[49] ok])[m6]?=some (.cells (aO 0) false):=aM (aM (aM Rn));refine aZ (GJ bz (B:=B) (kb:=g1.length) (Stop:=λ_=>False) (Inv:=λdone g=>∃C,fm km kt kp aS (.fp (cv ak bv F E e) 0) sets sv bC rows g/\g[0]?=some (.cells [.fp (cv ak bv F E e) 0] false)/\g[m6]?=some (.cells (aO C) false)/\g[k]?=some (.aT .ready none ats #[49] ok)) ?_ Et ⟨0,Ey,B7,h63,Es⟩) ?_
   · rintro done p g3 ⟨C,RC,HD,HF,iq⟩ fU Mn
     refine hR [_] g3 _ rfl ⟨none,iq⟩ ?_;have se:qI [(1,bB 0 0),(2,bP (.pointer none)),(3,bP (.int .i64 0)),(4,bB km 0),(5,bP (.int .i64 (a0:Int))),(6,bB m6 0),(48,U.fn (qM 105) [] [bB g1.length 0])] (List.zip [49] [bP (uF b7 (p:Int))])=[(49,bP (uF b7 (p:Int))),(1,bB 0 0),(2,bP (.pointer none)),(3,bP (.int .i64 0)),(4,bB km 0),(5,bP (.int .i64 (a0:Int))),(6,bB m6 0),(48,U.fn (qM 105) [] [bB g1.length 0])]:=rfl;rw[se];refine dP ?_;refine⟨⟨none,iq⟩,λdz=>?_⟩;have cK:=gl iq;have AP:k≠0:=by rintro rfl;rw[HD] at iq;cases iq
     have I2:k≠m6:=by rintro rfl;rw[HF] at iq;cases iq
     have L5:=RC.sP (b':=.aT .busy dz ats #[49] ok) iq aBI aBI aBI;have n9:(g3.set k (.aT .busy dz ats #[49] ok))[0]?=some (.cells [.fp (cv ak bv F E e) 0] false):=by rw[av AP];exact HD
     have B9:(g3.set k (.aT .busy dz ats #[49] ok))[m6]?=some (.cells (aO C) false):=by rw[av I2];exact HF
     have EF:(g3.set k (.aT .busy dz ats #[49] ok))[k]?=some (.aT .busy dz ats #[49] ok):=aR cK;generalize g3.set k (.aT .busy dz ats #[49] ok)=g5 at L5 n9 B9 EF⊢;refine azj (wK B9) (c6 n9) ?_;refine⟨_,_,aP hcl (aP (bM _) bS),akR hb aBH p,?_⟩;generalize bq[p]?.getD 0=D;refine ni ?_;refine⟨_,_,aP (jY C) (aP (jY D) bS),Fj C D,?_⟩;refine di (GQ B9 (C|||D)) ?_;have RD:=L5.ag_ (b':=.cells (aO (C|||D)) false) B9 aBH aBH;have sD:(g5.set m6 (.cells (aO (C|||D)) false))[k]?=some (.aT .busy dz ats #[49] ok):=by rw[av (dr I2)];exact EF
     show(∃st pd,_=_)/\_;refine⟨⟨.busy,dz,sD⟩,true,rfl,λ_=>⟨C|||D,RD.sP sD aBI aBI aBI,?_,?_,aR (gl sD)⟩,λq=>aBT⟩;rw[av AP,av aBH];exact n9;rw[av I2,aR (gl B9)]
   rintro r g3 ⟨rfl,⟨C,RC,HD,HF,iq⟩|hf⟩;refine⟨.ready,none,iq,aBJ,?_⟩;have AP:k≠0:=by rintro rfl;rw[HD] at iq;cases iq
   have I2:k≠m6:=by rintro rfl;rw[HF] at iq;cases iq
   have L5:=RC.sP (b':=.aT .exhausted none ats #[49] ok) iq aBI aBI aBI;have n9:(g3.set k (.aT .exhausted none ats #[49] ok))[0]?=some (.cells [.fp (cv ak bv F E e) 0] false):=by rw[av AP];exact HD
   have B9:(g3.set k (.aT .exhausted none ats #[49] ok))[m6]?=some (.cells (aO C) false):=by rw[av I2];exact HF
   refine di @vk.eq_1 ?_;refine di (wK B9) (aZ (Zt bz L5 hcl ho hol aBH hlt C) ?_);rintro r g6 ⟨⟨axj,ayc,ayJ,Jx,RD,q1,ah⟩,hK⟩;refine ni ?_;exact⟨n-1,aBH,a0+1,axj,ayc,ayJ,Jx,aBH,rfl,RD,hK.2 _ _ n9 (dr n1) (dr n2) (dr mz) (dr gF) aBI,aBH,aBH,aBH⟩;exact hf.elim
 exact⟨sets,sv,bC,rows,trivial,hX,hs1,hs2⟩;rintro e' h ⟨sets,sv,bC,rows,rfl,hX,hs1,hs2⟩;obtain⟨l0,l1,l2,l3,l4⟩:=hX.CO;refine wx ?_;refine b8 (λc=>?_) λc=>?_;rw[A2];intro hp' he;refine wy ?_;exact ah0 aBJ;rw[A2];intro hp' he;exact wy (ayk (hX.fin he) aBH aBH)
end
section
variable{hp:List aa}{es:List (U×U×Nat)}{bw k:Nat}
def yf(G:Cells):Prop:=∀n:Int, -9223372036854775808<=n->n<=9223372036854775807->∃t:List UInt8,t.length<=30/\ck G az 186 [n] (ai t)
@[go_sem]def aqn(neg:Bool):oC .cQ neg (.v .nilIface) (.v .nilIface)=some (.v (.bool !neg)):=aCV
@[go_sem]def aqo(neg:Bool)(t:TypeId)(x:U):oC .cQ neg (.cQ t x) (.v .nilIface)=some (.v (.bool neg)):=aCV
def Kz(r:U):Prop:=∃(n:Int) (b:Bool),r=.aK [n,b]/\ -9223372036854775808<=n/\n<=9223372036854775807
def tL{n:Int}{b:Bool}(h: -9223372036854775808<=n)(h2:n<=9223372036854775807):∃m aQ,b9 hp m (.aK [n,b])=some aQ/\Kz aQ:=by
 obtain⟨m,hm⟩:=(dR (aA (aB (.int .i64 n)) (aA (aB (.bool b)) bW)):aX hp _ _).done;exact⟨m,_,hm,n,b,rfl,h,h2⟩
section
variable{G:Cells}
def auX(bz:eE G)(hI:yf G)(s:List UInt8)(hs:s.length<=1000000):cx G az 119 [ai s] Kz:=by
 refine cR (acW.go ?_);obtain⟨k1,k2,eF⟩:=U5 bz ⟨⟨s⟩⟩ (by show s.length<=281474976710656;omega);refine wy ?_;cases hx:zl s with
 |ok v=>
  obtain⟨b1,b2⟩:=Lib.atoiAll_bounds hx;obtain⟨t,ht,hsp⟩:=hI v b1 b2;refine aE.pu (k1 v hx) ?_;refine wx ?_;refine aE.pu hsp ?_;refine wy ?_;refine b8 (λq=>?_) λq=>?_;exact tL aBJ aBJ;exact tL b1 b2
 |range=>
  refine aE.pu (eF hx) ?_;refine wx ?_;exact tL aBJ aBJ
 |_=>
  refine aE.pu (k2 (λv=>by show zl s≠_;rw[hx];simp) (by show zl s≠_;rw[hx];simp)) ?_;refine wx ?_;exact tL aBJ aBJ
def ain(bz:eE G)(hI:yf G)(s:List UInt8)(hs:s.length<=1000000):cx G az 157 [ai s] Kz:=by
 refine cR (ac7.go ?_);refine wy ?_;refine aE.cY (auX bz hI s hs) ?_;rintro r ⟨n,b,rfl,h1,h2⟩;refine wy ?_;cases b with
 |false=>
  exact wy (tL h1 h2)
 |true=>
  refine wy ?_;refine b8 (λq=>?_) λq=>?_;exact tL h1 h2;exact tL h1 h2
def aqU(ls:List (List UInt8))(h1:vW ls+ls.length<=1000000):cx G az 151 [.sl (ls.map ai) .no] (wB (vW ls+ls.length)):=by
 refine cR (aeb.go ?_);have aqT:(Bq ls [32]).length<=vW ls+ls.length:=by
  cases ls with
  |nil=>simp[Bq,List.intercalate]
  |cons x r=>rw[Lib.join_length];simp;omega
 have sp:=ahy (G:=G) ls .no ⟨⟨[32]⟩⟩ (by show(Bq ls [32]).length<=_;omega) aBH;refine wy (dx sp (aP (n6 (ay rfl)) (aP (bM _) bS)) ?_);exact wy (pG (t:=Bq ls [32]) aqT)
end
def BF(es:List (U×U×Nat)):Prop:=∀e∈es,∃(s:List UInt8) (n:Int),e.1=ai s/\e.2.1=n
def amt(a b:List UInt8):dN [.s] (ai a).cells (ai b).cells=some (a==b):=by
 show dN [.s] [ai a] [ai b]=_;simp only[ai,dN,lQ,PX,Bool.and_true]
def Tl(a:List UInt8):∀{es:List (U×U×Nat)} (i:Nat),BF es->oe [.s] (ai a).cells es i=some none\/∃(j:Nat) (n:Int),oe [.s] (ai a).cells es i=some (some (j,.v (.int .i64 n)))
 |[],i,_=>ay rfl
 |e::r,i,h=>by
  obtain⟨s,n,h1,h2⟩:=h e (zw ..);have ih:=Tl a (es:=r) (i+1) λx hx=>h x (qP _ hx);unfold oe;rw[h1,amt];cases(a==s) with
  |true=>exact ax ⟨i,n,by rw[h2]⟩
  |false=>exact ih
def ae3(h:BF es):AF false [.s] es=true:=by
 unfold AF;rw[c_];intro e he;obtain⟨s,n,h1,_⟩:=h e he;rw[h1];rfl
def CU(hk:hp[k]?=some (.cL es bw))(h:BF es)(a:List UInt8):
  ∃n:Int,tw hp false [.s] (0:Int) false (.ey k) (ai a)=some (.v (.int .i64 n)):=by
 have hf:=ae3 h;have Co:qB false [.s] (ai a)=true:=rfl;unfold tw pT;simp only[hk];rw[if_pos ⟨Co,hf⟩]
 rcases Tl a 0 h with q|⟨j,n,q⟩
 rw[q];exact⟨0,rfl⟩;rw[q];exact⟨n,rfl⟩
def MX(hk:hp[k]?=some (.cL es bw))(h:BF es)(a:List UInt8)(n:Int):
  ∃es' iH,uY hp false [.s] (.ey k) (ai a) n=some (hp.set k (.cL es' iH))/\BF es':=by
 have hf:=ae3 h;have Co:qB false [.s] (ai a)=true:=rfl;unfold uY pT;simp only[hk];rw[if_pos ⟨Co,hf⟩]
 rcases Tl a 0 h with q|⟨j,m,q⟩
 rw[q];refine⟨_,_,rfl,λe he=>?_⟩
 rcases dZ.1 he with he|he
 exact h e he;rw[cr.1 he];exact⟨a,n,rfl,rfl⟩;rw[q];refine⟨_,_,rfl,λe he=>?_⟩;rw[Kf] at he;obtain⟨i,hi⟩:=he;rw[List.getElem?_modify] at hi;cases h2:es[i]? with
 |none=>rw[h2] at hi;simp at hi
 |some e0=>
  rw[h2] at hi;simp only[Option.map_eq_map,ie,lG] at hi;split at hi;subst hi;exact⟨a,n,rfl,rfl⟩;subst hi;exact h _ (bG h2)
end
section
variable{n:Nat}{v:U}
def gi(n:Nat)(v:U):Prop:=∃l:List (List UInt8),bL v (l.map ai)/\l.length<=n
def ajH(n:Nat)(r:U):Prop:=∃(v:U) (b:Bool),r=.aK [v,b]/\gi n v
def Kw(n:Nat)(r:U):Prop:=∃(a:Bool) (v:U) (b:Bool),r=.aK [a,v,b]/\gi n v
def gi.nil(n:Nat):gi n .af:=⟨[],ax ⟨rfl,rfl⟩,ic _⟩
def gi.fz(h:gi n v)(hp:List aa):aX hp v v:=by
 obtain⟨l,hl|⟨rfl,_⟩,_⟩:=h;rw[hl];exact fj (gh λa _=>aB _);exact cS
def gi.one(h:gi n v):bn v=true/\v.cells=[v]:=by
 obtain⟨l,hl|⟨rfl,_⟩,_⟩:=h;rw[hl];exact⟨rfl,rfl⟩;exact⟨rfl,rfl⟩
def gi.clean(h:gi n v):dn v:=by
 obtain⟨l,hl,_⟩:=h;exact n6 hl
def PL{hp:List aa}{l:List (List UInt8)}(h:bX hp v (l.map ai) 1 9)(hl:l.length<=n):∃v',aX hp v v'/\gi n v':=by
 rcases h with⟨rfl,z⟩|⟨id,rfl,_⟩
 exact⟨_,cS,gi.nil n⟩;exact⟨_,fj (gh λa _=>aB _),l,ay rfl,hl⟩
structure tg(k:Nat)(l:List (List UInt8))(t:List UInt8)(y:aa)(h:List aa):Prop where
 b0:h[0]?=some (.cells [.af] false)
 b1:h[1]?=some (.cells [false] false)
 b2:∃ak,h[2]?=some (.cells [ak] false)/\bX h ak (l.map ai) 1 9
 b3:h[3]?=some (.cells [ai t] false)
 b4:h[4]?=some (.cells [ai [44]] false)
 pg:h[5]?=some (.cells [(0:Int)] false)
 bk:h[k]?=some y
 kk:7<=k
section
variable{k:Nat}{l:List (List UInt8)}{t:List UInt8}{y:aa}{h:List aa}
def tg.UN(s:tg k l t y h)(hy:∀c n e,y≠.tok c n e)(y':aa):tg k l t y' (h.set k y'):=by
 obtain⟨ak,q1,ah⟩:=s.b2;have hk:=s.kk;refine⟨?_,?_,⟨ak,?_,?_⟩,?_,?_,?_,aR (gl s.bk),hk⟩;rw[av aBH];exact s.b0;rw[av aBH];exact s.b1;rw[av aBH];exact q1
 rcases ah with z|⟨id,bh,z2⟩
 exact ay z;exact ax ⟨id,bh,by rw[av (by rintro rfl;rw[s.bk] at z2;cases z2;exact hy _ _ _ rfl)];exact z2⟩;rw[av aBH];exact s.b3;rw[av aBH];exact s.b4;rw[av aBH];exact s.pg
def tg.axg(s:tg k l t y h)(t':List UInt8):tg k l t' y (h.set 3 (.cells [ai t'] false)):=by
 obtain⟨ak,q1,ah⟩:=s.b2;have hk:=s.kk;refine⟨?_,?_,⟨ak,?_,?_⟩,aR (gl s.b3),?_,?_,?_,hk⟩;rw[av aBH];exact s.b0;rw[av aBH];exact s.b1;rw[av aBH];exact q1
 rcases ah with z|⟨id,bh,z2⟩
 exact ay z;exact ax ⟨id,bh,by rw[av (by rintro rfl;rw[s.b3] at z2;cases z2)];exact z2⟩;rw[av aBH];exact s.b4;rw[av aBH];exact s.pg;rw[av aBH];exact s.bk
def tg.push(s:tg k l t y h)(hy:∀c n e,y≠.tok c n e)(hl:l.length<=200000)(w:List UInt8):∃ak bg g,h[2]?=some (.cells [ak] false)/\cG h 1 16 9 ak (.sl [ai w] .exact)=some (bg,g)/\aF g 1 (.mp 2 0) bg=some (g.set 2 (.cells [bg] false))/\tg k (l++[w]) t y (g.set 2 (.cells [bg] false)):=by
 obtain⟨ak,q1,ah⟩:=s.b2;have hk:=s.kk;obtain⟨bg,g,e1,hA,hne,hle,hk2⟩:=kL (x:=ai w) (aY:=16) ah (vv l) rfl aBJ aBJ aBK;have gu:∀{j:Nat} {b:aa},h[j]?=some b->(∀c n e,b≠.tok c n e)->g[j]?=some b:=λq hb=>hk2 _ _ q λxs z=>by
  rcases ah with⟨bh,_⟩|⟨id,bh,z2⟩
  rw[bh] at z;cases z;rw[bh] at z;cases z;rw[q] at z2;cases z2;exact hb _ _ _ rfl
 have c0:=gu s.b0 aBI;have c1:=gu s.b1 aBI;have c2:=gu q1 aBI;have c3:=gu s.b3 aBI;have c4:=gu s.b4 aBI;have c5:=gu s.pg aBI;have K8:=gu s.bk hy
 have ho:bn bg=true:=aBV
 refine⟨ak,bg,g,q1,e1,ou ho c2,?_⟩;refine⟨?_,?_,⟨bg,aR (gl c2),?_⟩,?_,?_,?_,?_,hk⟩;rw[av aBH];exact c0;rw[av aBH];exact c1;rw[eX]
 rcases hA with z|⟨id,bh,z2⟩
 exact ay z;exact ax ⟨id,bh,by rw[av (by rintro rfl;rw[c2] at z2;cases z2)];exact z2⟩;rw[av aBH];exact c3;rw[av aBH];exact c4;rw[av aBH];exact c5;rw[av aBH];exact K8
end
section
variable{G:Cells}
def auF(bz:eE G)(s:List UInt8)(hs:s.length<=100000):cx G az 218 [ai s] (ajH 100001):=by
 refine cR (adE.go ?_);refine wy (aZ (axa s [44] _) ?_);rintro _ g ⟨rfl,rfl⟩;refine wy ?_;rw[vR];refine⟨_,_,_,rfl,λk hk ats ok hR=>?_⟩;have Ic:k=7:=hk;subst Ic;refine aZ (axK (c:=44) (s:=s) aBH (Inv:=λt h=>∃l,l.length+t.length<=s.length/\tg 7 l t (.aT .ready none ats #[8] ok) h) (Gu:=λt h=>∃l,l.length+t.length<=s.length+1/\tg 7 l t (.aT .ready none ats #[8] ok) h)
  (Stop:=λh=>h[7]?=some (.aT .done (some .ret) ats #[8] ok)/\h[0]?=some (.cells [.af] false)/\h[1]?=some (.cells [false] false)) (a:=3) (b:=4) (d:=5) (λt hp ⟨l,_,q⟩=>⟨q.b3,q.b4,q.pg⟩) (λt hp ⟨l,_,q⟩=>⟨q.b3,q.b4,q.pg⟩) (λt t' hp ⟨l,z,q⟩ hlt=>⟨l,aBH,q.axg t'⟩) ?_ ⟨[],aBI,rfl,rfl,⟨.af,rfl,ay ⟨rfl,rfl⟩⟩,rfl,rfl,rfl,rfl,bl _⟩) ?_
 rintro t w h ⟨l,hl,hN⟩ hw;refine hR [_] h _ rfl ⟨none,hN.bk⟩ ?_;have se:qI [(2,bB 0 0),(3,bB 1 0),(4,bB 2 0),(7,U.fn (qM 242) [] [bB 4 0,bB 3 0,bB 5 0])] (List.zip [8] [ai w])=[(8,ai w),(2,bB 0 0),(3,bB 1 0),(4,bB 2 0),(7,U.fn (qM 242) [] [bB 4 0,bB 3 0,bB 5 0])]:=rfl;rw[se];refine dP ?_;refine⟨⟨none,hN.bk⟩,λdz=>?_⟩;have gM:=hN.UN aBI (.aT .busy dz ats #[8] ok);generalize h.set 7 (.aT .busy dz ats #[8] ok)=g at gM⊢;obtain⟨ak,q1,ah⟩:=gM.b2;obtain⟨v',y1,eg,jU⟩:=zN ah zZ;have bad:(∃st pd,((g.set 0 (.cells [.af] false)).set 1 (.cells [.v (.bool false)] false))[7]?=some (.aT st pd ats #[8] ok))/\∃e:Bool,bP (.bool false)=.v (.bool e)/\(e=true->∃l,l.length+t.length<=s.length+1/\tg 7 l t (.aT .ready none ats #[8] ok) (((g.set 0 (.cells [.af] false)).set 1 (.cells [.v (.bool false)] false)).set 7 (.aT .done (some .ret) ats #[8] ok)))/\(e=false->(((g.set 0 (.cells [.af] false)).set 1 (.cells [.v (.bool false)] false)).set 7 (.aT .done (some .ret) ats #[8] ok))[7]?=some (.aT .done (some .ret) ats #[8] ok)/\(((g.set 0 (.cells [.af] false)).set 1 (.cells [.v (.bool false)] false)).set 7 (.aT .done (some .ret) ats #[8] ok))[0]?=some (.cells [.af] false)/\(((g.set 0 (.cells [.af] false)).set 1 (.cells [.v (.bool false)] false)).set 7 (.aT .done (some .ret) ats #[8] ok))[1]?=some (.cells [.v (.bool false)] false)):=by
  have g7:=gl gM.bk;refine⟨⟨.busy,dz,by rw[av aBH,av aBH];exact gM.bk⟩,false,rfl,λq=>aBT,λ_=>⟨aR aBK,?_,?_⟩⟩;rw[av aBH,av aBH,aR aBH];rw[av aBH,aR aBK]
 have iK:=ou (w:=.af) rfl gM.b0;have s1:aF (g.set 0 (.cells [.af] false)) 1 (.mp 1 0) (.v (.bool false))=some ((g.set 0 (.cells [.af] false)).set 1 (.cells [.v (.bool false)] false)):=ou rfl (v:=.v (.bool false)) (by rw[av aBH];exact gM.b1);refine dP ?_;refine aE.cY (SD bz w aBH) ?_;rintro r ⟨b,rfl⟩;cases b with
 |false=>
  exact fB @rS @iK @s1 bad
 |true=>
  refine kE @vU (c6 q1) ?_;refine aE.pu (G1 y1 jU aBH w) ?_;refine wy (bA (λq=>?_) λq=>?_);exact wy bad;obtain⟨bD,bg,g2,p1,p2,p3,fW⟩:=gM.push aBI aBH w;have ab:dA 1 [ai w]=some (.sl [ai w] .exact):=rfl;refine wx ?_;show(∃st pd,_=_)/\_;exact⟨⟨.busy,dz,fW.bk⟩,true,rfl,λ_=>⟨l++[w],aBK,fW.UN aBI _⟩,λq=>aBT⟩
 rintro r h ⟨rfl,⟨t,l,hl,hN⟩|⟨h7,h0,h1⟩⟩;refine⟨.ready,none,hN.bk,aBJ,?_⟩;have gM:=hN.UN aBI (.aT .exhausted none ats #[8] ok);refine di @vk.eq_1 ?_;generalize h.set 7 (.aT .exhausted none ats #[8] ok)=g at gM⊢;obtain⟨ak,q1,ah⟩:=gM.b2
 have ho:bn ak=true:=by rcases ah with⟨rfl,_⟩|⟨_,rfl,_⟩<;>rfl
 have iK:=ou ho gM.b0;have s1:aF (g.set 0 (.cells [ak] false)) 1 (.mp 1 0) true=some ((g.set 0 (.cells [ak] false)).set 1 (.cells [true] false)):=ou rfl (v:=false) (by rw[av aBH];exact gM.b1);refine fB (c6 q1) @iK @s1 ?_;rw[A2];intro hp' he;have g0:=gl gM.b0;have g1:=gl gM.b1;have k0:hp'[0]?=some (.cells [ak] false):=by
  have e0:((g.set 0 (.cells [ak] false)).set 1 (.cells [true] false))[0]?=some (.cells [ak] false):=by rw[av aBH,aR g0]
  rcases he.2 0 with z|⟨_,z,_⟩
  rw[z];exact e0;rw[z] at e0;cases e0
 have k1:hp'[1]?=some (.cells [true] false):=by
  have e0:((g.set 0 (.cells [ak] false)).set 1 (.cells [true] false))[1]?=some (.cells [true] false):=by rw[aR aBK]
  rcases he.2 1 with z|⟨_,z,_⟩
  rw[z];exact e0;rw[z] at e0;cases e0
 have hA:∃v',aX hp' ak v'/\gi 100001 v':=by
  rcases ah with⟨rfl,z⟩|⟨id,rfl,_⟩
  exact⟨_,cS,gi.nil _⟩;exact⟨_,fj (gh λa _=>aB _),l,ay rfl,aBH⟩
 obtain⟨v',bh,z2⟩:=hA;refine wy ?_;obtain⟨n,hn⟩:=(dR (aA bh (aA (aB (.bool true)) bW)):aX hp' _ _).done;exact⟨n,_,hn,v',true,rfl,z2⟩;refine⟨.done,some .ret,h7,aBJ,?_⟩;simp -failIfUnchanged -implicitDefEqProofs (disch:=first|assumption|decide|omega) only[gQ,lY,lZ,↓reduceIte,s5,rX,s6,s7,ov,x4,x5,vk];rw[A2];intro hp' he;have AP:(h.set 7 (.aT .exhausted (some .ret) ats #[8] ok))[0]?=some (.cells [.af] false):=by rw[av aBH];exact h0
 have TB:(h.set 7 (.aT .exhausted (some .ret) ats #[8] ok))[1]?=some (.cells [false] false):=by rw[av aBH];exact h1
 have k0:hp'[0]?=some (.cells [.af] false):=by
  rcases he.2 0 with z|⟨_,z,_⟩
  rw[z];exact AP;rw[z] at AP;cases AP
 have k1:hp'[1]?=some (.cells [false] false):=by
  rcases he.2 1 with z|⟨_,z,_⟩
  rw[z];exact TB;rw[z] at TB;cases TB
 refine wy ?_;obtain⟨n,hn⟩:=(dR (aA cS (aA (aB (.bool false)) bW)):aX hp' _ _).done;exact⟨n,_,hn,.af,false,rfl,gi.nil _⟩
def aeO(bz:eE G)(s:List UInt8)(hs:s.length<=100000):cx G az 158 [ai s] (Kw 100001):=by
 refine cR (ac8.go ?_);have fin:∀(hp:List aa) (a:Bool) (v:U) (b:Bool),gi 100001 v->∃n aQ,b9 hp n (.aK [a,v,b])=some aQ/\Kw 100001 aQ:=λhp a v b hv=>by
  obtain⟨n,hn⟩:=(dR (aA (aB (.bool a)) (aA (hv.fz hp) (aA (aB (.bool b)) bW))):aX hp _ _).done;exact⟨n,_,hn,a,v,b,rfl,hv⟩
 refine wy ?_;refine b8 (λq=>?_) λq=>?_;exact fin _ _ _ _ (gi.nil _);refine aE.cY (auF bz s hs) ?_;rintro r ⟨v,b,rfl,hv⟩;exact dP (fin _ _ _ _ hv)
end
end
end Go.Proofs.YtggeooeohcbdhaaGreatDoor

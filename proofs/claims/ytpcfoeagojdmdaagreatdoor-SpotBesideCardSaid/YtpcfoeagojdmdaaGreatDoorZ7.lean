/- Part 7 of a proof. No condition. -/
import Derived.Test.YtpcfoeagojdmdaaGreatDoorZ6
set_option linter.unusedVariables false
set_option linter.unusedSimpArgs false
set_option linter.defProp false
open BitVec renaming ofInt->Dn
open Bool renaming and_eq_true->fh,false->bf,false_and->z8,false_eq_true->kJ,true->bh
open Go.bM.bg renaming agg->dG,cells->jU,mp->c8,one->cq,v->dh
open Go.bM.br renaming cells->bw
open Go.bM.tE renaming mk->cQ
open Go.bM.ct renaming mono->cm,pu->dD,aat->eF,pure->h_,aE9->jG
open Go.bM.j4 renaming mono->wX
open Go.bM renaming Clean->eT
open Go.bM.b6 renaming agg->jO,bq->ey,sl->gQ,bQ->fj,v->bH
open Go.bM.e_ renaming append->BS,cons->bF,map->iw,nil->cZ
open Go.bM.hc renaming asY->BT,node->nw,text->dU
open Go.bM.bX renaming bE->gH,bare->FC,cells->yI
open Go.Fn renaming func->wY
open Go.IntKind renaming i64->cN,u64->Iq
open Go.Lib renaming ctz->FE
open Go.Proofs.Tryz renaming ae2->aq0,prog->bA,apO->aq6
open Go.Proofs.YtpcfoeagojdmdaaGreatDoor.mU renaming set->K3
open Go.Proofs.YtpcfoeagojdmdaaGreatDoor.cV renaming bE->su,cells->rG
open Go.Proofs.YtpcfoeagojdmdaaGreatDoor.dJ renaming bE->nx,cells->iE
open Go.Value renaming int->yL
open Int renaming eq_ofNat_of_zero_le->pT,le_refl->Ds,toNat_natCast->wZ
open List renaming all_cons->qk,all_eq_true->eG,all_nil->tB,append_assoc->dN,append_nil->fZ,cons_append->jy,drop_drop->uD,drop_length_add_append->arf,drop_of_length_le->w4,drop_zero->pU,ext_getElem?->FH,getElem?_append_left->fT,getElem?_append_right->fJ,getElem?_cons_succ->uE,getElem?_cons_zero->ny,getElem?_drop->tC,getElem?_eq_getElem->cu,getElem?_eq_none->jV,getElem?_eq_some_iff->cJ,getElem?_map->fD,getElem?_set_ne->bC,getElem?_set_self->bT,getElem?_take_of_lt->Dt,getElem_mem->Pq,length->Du,length_append->dO,length_cons->eB,length_drop->ql,length_eq_one_iff->FJ,length_eq_zero_iff->arj,length_map->cS,length_nil->gR,length_singleton->ov,length_take->qm,map_append->gz,map_congr_left->B0,map_cons->fQ,map_map->yM,map_nil->kX,mem_append->fB,mem_cons->fc,mem_map->dX,mem_of_getElem?->cz,mem_singleton->dP,nil_append->gd,not_mem_nil->pV,replicate->fk,replicate_succ->art,sum_append->arx,sum_cons->Aj,sum_nil->Iz,takeWhile_cons->ary,take_add_one->yP,take_append_drop->K8,take_append_of_le_length->US,take_left'->UU,take_length->oW,take_length_add_append->aJk,take_of_length_le->ow
open Nat renaming add_assoc->mB,add_sub_cancel_left->Px,eq_of_testBit_eq->arz,le_refl->b_,le_trans->ig,lt_or_ge->ei,lt_succ_self->yQ,min_eq_left->FL,mul_comm->acH,one_mul->FM,reduceAdd->vH,sub_self->kY,testBit_and->arB,testBit_or->UX,testBit_two_pow->acI,zero_add->gA,zero_le->j0,zero_lt_succ->w_
open Ne renaming symm->e4
open Option renaming bind_some->mT,isSome_none->Ak,map->IA,map_some->j3,none->bn,some->a_
open Or renaming inl->bD,inr->bG
namespace Go.Proofs.YtpcfoeagojdmdaaGreatDoor
open Go Go.bM Go.RowKit
section
variable{G:Cells}{k a:Nat}{l:List dJ}{v pv lv:bg}{ps dz:List cV}{w:Bool}{J h:List br}
def Sy{a}{c}(q:(x_ l a==c)=bh)(T:c≠0):∃y,l[a]?=a_ y/\y.kind=c:=by
 unfold x_ at q;cases hy:l[a]? with
 |none=>rw[hy] at q;simp at q;omega
 |some y=>rw[hy] at q;exact⟨y,rfl,an⟩
def aGM{a}(fR:∀x∈l,x.cT)(q:(x_ l a==5)=bh):∃y,l[a]?=a_ y/\y.kind=5/\0<=y.low/\y.low<=20/\(y.high= -1\/(1<=y.high/\y.high<=20/\y.low<=y.high)):=by
 obtain⟨y,hy,S⟩:=Sy q ag;refine⟨y,hy,S,?_⟩
 rcases(fR y (cz hy)).2 with z|z|z
 omega;omega;exact⟨z.2.2.1,z.2.2.2.1,z.2.2.2.2⟩
def aGK{a}(fR:∀x∈l,x.cT)(q:(x_ l a==1)=bh):∃y,l[a]?=a_ y/\y.kind=1/\vj y.name=bh:=by
 obtain⟨y,hy,S⟩:=Sy q ag;refine⟨y,hy,S,?_⟩
 rcases(fR y (cz hy)).2 with z|z|z
 exact z.2.1;omega;omega
structure P2(k:Nat)(l:List dJ)(a:Nat)(v:bg)(ps:List cV)(J:List br)(n:Int)(b:Nat)(pv:bg)(dz:List cV)(h:List br):Prop where
 lt:a<b
 le:b<=l.length
 rx:iZ k l b v pv (ps++dz) bf h
 lG:mU k J h
 cnt:dz.length+2<=3*(b-a)
 n0:0<=n
 n1:n<((ps++dz).length:Nat)
 ok:rK ps->rK (ps++dz)
def P2.done{n}{b}(Y:P2 k l a v ps J n b pv dz h):DJ k l a v ps J n h:=
 ⟨n,b,pv,dz,bf,rfl,Nat.le_of_lt Y.lt,Y.le,Y.rx,Y.lG,Y.cnt,λ_=>⟨Y.n0,Y.n1,Y.ok⟩⟩
def ai9(hl:l.length<=200)(fR:∀x∈l,x.cT)(ha:a<=l.length)(hI:a<l.length->vO G 114 k l v (a+1)):vO G 243 k l v a:=by
 intro ps pv J hR iU;refine akR.go ?_;refine wy (cm (JZ hR hl) ?_);rintro _ g ⟨rfl,hh⟩;rw[hh];clear hh;refine wy ?_;refine dy (λq=>?_) λq=>?_;obtain⟨y,hy,aiM,mJ⟩:=aGK fR q;have c6:=gl hy;have e1:cx 5 v (.v (.int .i64 (a)))=a_ (.fp y.cells 0):=hR.v.cw (x:=y.bE) aT rfl;have e2:∀J,bz J bf 1 (.fp y.cells 4)=a_ (bu y.name):=λJ=>rfl;have f1:dI [.v (.int .i64 0),.v (.int .i64 0),.v (.int .i64 0),.v (.string ⟨#[]⟩),.bq] [(0,1,.v (.int .i64 1)),(3,1,bu y.name)]=a_ (rG ⟨1,0,0,y.name,[],.exact⟩):=rfl;have GV:=Zc (G:=G) hR aa ⟨1,0,0,y.name,[],.exact⟩;unfold su at GV;refine wx (cm GV ?_);rintro _ g1 ⟨rfl,⟨r8,Ry⟩,q4⟩;have w1:cN.wrap ((a)+1)=((a+1:Nat):Int):=kI aa;refine oq ?_;obtain⟨n,hn⟩:∃n:Int,n=(ps.length:Int):=⟨_,rfl⟩;obtain⟨b,O⟩:∃b,b=a+1:=⟨_,rfl⟩;obtain⟨dz,ayG⟩:∃dz:List cV,dz=[⟨1,0,0,y.name,[],.exact⟩]:=⟨_,rfl⟩;have hT:P2 k l a v ps J n b r8 dz (g1.set k (.cells [v,.v (.int .i64 ((a+1:Nat):Int)),r8,.v (.bool bf)] bf)):=by
  subst O;subst hn;subst ayG;refine⟨aa,aa,Ry.put (a+1) bf,q4.trans K3,af,aa,ah,λz=>z.push ⟨bD ⟨rfl,rfl,rfl,mJ,rfl⟩,af⟩⟩
 rw[<-hn];generalize g1.set k (.cells [v,.v (.int .i64 ((a+1:Nat):Int)),r8,.v (.bool bf)] bf)=h at hT⊢
 rotate_left
 refine dy (λbt=>?_) λbt=>?_;obtain⟨y,hy,aiM⟩:=Sy bt ag;have c6:=gl hy;have w1:cN.wrap ((a)+1)=((a+1:Nat):Int):=kI aa;have Ry:=hR.put (a+1) bf;have q4:mU k J (J.set k (.cells [v,bp ((a+1:Nat):Int),pv,.v (.bool bf)] bf)):=K3;have st:=hR.gV (a+1);generalize J.set k (.cells [v,bp ((a+1:Nat):Int),pv,.v (.bool bf)] bf)=Y at Ry q4 st;refine wx (cm (hI c6 ps pv Y Ry aa) ?_);rintro _ V ⟨n,a2,r8,dz,w,rfl,c1,c2,c3,c4,c5,gM⟩;have bad:DJ k l a v ps J (.v (.int .i64 n)) (V.set k (.cells [v,bp (a2),r8,.v (.bool bh)] bf)):=
  ⟨n,a2,r8,dz,bh,rfl,aa,c2,c3.put a2 bh,(q4.trans c4).trans K3,by cases w<;>simp at c5⊢<;>omega,λq=>ax⟩
 cases w;refine wx (cm (JZ c3 hl) ?_);rintro _ g ⟨rfl,hh⟩;rw[hh];clear hh;refine wy (cQ (λbV=>?_) λbV=>?_);exact Di @c3.yz bad;have fP:(x_ l a2==3)=bh:=by simpa using bV
 obtain⟨fW,JT,_⟩:=Sy fP ag;have aKu:=gl JT;refine wx ?_;obtain⟨b,O⟩:∃b,b=a2+1:=⟨_,rfl⟩;obtain⟨iz,ie,c9⟩:=gM rfl;have hT:P2 k l a v ps J n b r8 dz (V.set k (.cells [v,bp ((a2+1:Nat):Int),r8,.v (.bool bf)] bf)):=by
  subst O;exact⟨aa,aa,c3.put (a2+1) bf,(q4.trans c4).trans K3,by simp at c5;omega,iz,ie,c9⟩
 generalize V.set k (.cells [v,bp ((a2+1:Nat):Int),r8,.v (.bool bf)] bf)=h at hT⊢
 rotate_left
 exact aIU @c3.Bw @c3.yz bad;exact⟨-1,a,pv,[],bh,rfl,b_ _,ha,by rw[fZ];exact hR.put a bh,K3,af,λq=>ax⟩
 all_goals
  refine nv @I2 @m_ (cm (JZ hT.rx hl) ?_);rintro _ v7 ⟨rfl,hh⟩;rw[hh];clear hh;refine fI ?_;refine dy (λyj=>?_) λyj=>?_;obtain⟨y,hy,aiM,G9⟩:=aGM fR yj;have c6:=gl hy;have e1:cx 5 v (.v (.int .i64 (b)))=a_ (.fp y.cells 0):=hT.rx.v.cw (x:=y.bE) aT rfl;have e2:∀J,bz J bh 5 (.fp y.cells 0)=a_ (.agg y.cells):=λJ=>rfl;have s1:=zT h y;unfold iQ at s1;have hX:iZ k l b v r8 (ps++dz) bf (h++[.cells y.cells bf]):=hT.rx.keep λj c z _=>bU z;have ael:mU k J (h++[.cells y.cells bf]):=hT.lG.trans mU.app;have eP:=gl hT.rx.b;have aqH:(h++[bw y.cells bf])[h.length]?=a_ (.cells y.cells bf):=af
  generalize h++[bw y.cells bf]=g at s1 hX ael aqH;have mG:=hX.put (b+1) bf;have aem:=ael.trans (K3 (x:=.cells [v,bp ((b+1:Nat):Int),r8,.v (.bool bf)] bf));have abX:(g.set k (.cells [v,bp ((b+1:Nat):Int),r8,.v (.bool bf)] bf))[h.length]?=a_ (.cells y.cells bf):=by rw[bC aa];exact aqH
  have w1:cN.wrap ((b)+1)=((b+1:Nat):Int):=kI aa;have s2:=hX.gV (b+1);generalize g.set k (.cells [v,bp ((b+1:Nat):Int),r8,.v (.bool bf)] bf)=g2 at s2 mG aem abX;have l2:bz g2 bf 1 (.mp h.length 2)=a_ (.v (.int .i64 y.low)):=by simp only[bz,abX];rfl
  have l3:bz g2 bf 1 (.mp h.length 3)=a_ (.v (.int .i64 y.high)):=by simp only[bz,abX];rfl
  have f1:dI [.v (.int .i64 0),.v (.int .i64 0),.v (.int .i64 0),.v (.string ⟨#[]⟩),.bq] [(0,1,.v (.int .i64 4)),(1,1,.v (.int .i64 y.low)),(2,1,.v (.int .i64 y.high)),(4,1,.sl [.v (.int .i64 n)] .exact)]=a_ (rG ⟨4,y.low,y.high,[],[n],.exact⟩):=rfl;have aKz:=hT.cnt;have hab:=hT.lt;have GV:=Zc (G:=G) mG ah ⟨4,y.low,y.high,[],[n],.exact⟩;unfold su at GV;refine wT (dB @yj @hT.rx.Hs @hT.rx.iW @e1) @e2 @s1 @hX.iW @w1 @s2 @l2 @l3 @f1 (cm GV ?_);rintro _ g3 ⟨rfl,⟨cl,hZ⟩,as1⟩;refine e3 @bp.eq_1 ?_;rw[dN] at hZ;refine⟨((ps++dz).length:Nat),b+1,cl,dz++[⟨4,y.low,y.high,[],[n],.exact⟩],bf,rfl,aa,aa,hZ,aem.trans as1,ah,λ_=>⟨aa,ah,λz=>?_⟩⟩;rw[<-dN];refine(hT.ok z).push ⟨bG (bG ⟨rfl,rfl,rfl,G9⟩),λx I=>?_⟩;rw[dP.1 I];exact⟨hT.n0,hT.n1⟩;exact hT.done
def uq(hl:l.length<=200)(fR:∀x∈l,x.cT):∀(n a),a<=l.length->l.length-a<=n->vO G 243 k l v a/\vO G 184 k l v a/\vO G 114 k l v a:=by
 intro n
 induction n with
 |zero=>
  intro a ha hn;have i:vO G 243 k l v a:=ai9 hl fR ha λq=>aa
  have r:vO G 184 k l v a:=aos hl ha λb Y V=>by
   obtain rfl:b=a:=aa
   exact i
  exact⟨i,r,ae7 hl ha λb Y V=>by
   obtain rfl:b=a:=aa
   exact r⟩
 |succ n ih=>
  intro a ha hn;have i:vO G 243 k l v a:=ai9 hl fR ha λq=>(ih (a+1) aa aa).2.2;have r:vO G 184 k l v a:=aos hl ha λb Y V=>by
   rcases Nat.eq_or_lt_of_le Y with q|q
   subst q;exact i;exact(ih b V aa).1
  exact⟨i,r,ae7 hl ha λb Y V=>by
   rcases Nat.eq_or_lt_of_le Y with q|q
   subst q;exact r;exact(ih b V aa).2.1⟩
end
def e_.SL{α:Type}{J}{f g}:∀{l:List α},(∀a∈l,b6 J (f a) (g a))->e_ J (l.map f) (l.map g)
 |[],_=>cZ
 |a::l,h=>bF (h a af) (e_.SL λb O=>h b aMy)
def cV.cD(p:cV):cV:={p with tail:=.no}
def W5(J)(p:cV):b6 J p.bE p.cD.bE:=by
 have S:b6 J p.kv p.cD.kv:=by
  obtain⟨k,lo,Q,nm,kids,t⟩:=p;unfold cV.cD cV.kv;cases kids with
  |nil=>exact ey
  |cons x r=>exact gQ (iw λa _=>bH _)
 exact jO (bF (bH _) (bF (bH _) (bF (bH _) (bF (bH _) (bF S cZ)))))
def aE7{ps}(h:rK ps):rK (ps.map cV.cD):=by
 intro i p J;rw[fD] at J;cases hq:ps[i]? with
 |none=>rw[hq] at J;cases J
 |some q=>
  rw[hq] at J;cases J;exact h i q hq
structure tJ(v:bg)(ps:List cV):Prop where
 v:cC v (ps.map su)
 ok:rK ps
 len:ps.length<=600
 no:∀p∈ps,p.tail=.no
def Vj(r:bg):Prop:=∃(v:bg) (p e:Int),r=.bQ [v,bp p,bp e]/\((e=0/\p=0/\∃ps,tJ v ps)\/(e≠0/\v=.bq))
def Jj{J}{v v'}{p e}(hv:b6 J v v')(hQ:Vj (.bQ [v',bp p,bp e])):∃n bS,dx J n (.bQ [v,p,e])=a_ bS/\Vj bS:=by
 obtain⟨n,hn⟩:=(fj (bF hv (bF (bH (.int .i64 p)) (bF (bH (.int .i64 e)) cZ))):b6 J _ _).done;exact⟨n,_,hn,hQ⟩
def uX(s):eT (bu s):=cP _
def aak{G}(cF:gu G)(s)(hs:s.length<=1000000):dV G bA 66 [bu s] Vj:=by
 refine ep (ajn.go ?_);refine wy ?_;refine eF (ami cF s hs) ?_;rintro r (⟨l,v,hl,fR,hv,rfl⟩|⟨p,e,he,rfl⟩);refine wy ?_;have ln:=hv.cH;rw[cS] at ln;refine wy ?_;refine dy (λq=>?_) λq=>?_;exact Jj ey ⟨_,_,_,rfl,bD ⟨rfl,rfl,[],bG ⟨rfl,rfl⟩,λi p h=>av,ag,af⟩⟩
 have f1:dI [.bq,(0:Int)] [(0,1,v)]=a_ [v,(0:Int)]:=by rcases hv with rfl|⟨rfl,_⟩<;>rfl
 have f2:dI [.bq,(0:Int),.bq,bf] [(0,2,.agg [v,(0:Int)])]=a_ [v,(0:Int),.bq,bf]:=rfl;refine wy ?_;have hR:iZ 0 l 0 v .bq [] bf [.cells [v,(0:Int),.bq,bf] bf]:=⟨rfl,hv,bD ⟨rfl,rfl⟩⟩;refine cm ((uq hl fR l.length 0 (j0 _) aa).2.2 [] .bq _ hR af) ?_;rintro _ h ⟨n,a,pv,dz,w,rfl,c1,c2,c3,c4,c5,gM⟩;rw[gd] at c3 gM;have l1:=c3.iW;refine wy (cQ (λbt=>?_) λbt=>?_);have c6:a<l.length:=by simp at bt;exact bt
 obtain⟨y,hy⟩:=dW c6;have e1:cx 5 v (a:Int)=a_ (.fp y.cells 0):=hv.cw (x:=y.bE) aT rfl;have e2:∀J,bz J bf 1 (.fp y.cells 1)=a_ (.v (.int .i64 y.at_)):=λJ=>rfl;refine wy ?_;exact Jj ey ⟨_,_,_,rfl,bG ⟨ag,rfl⟩⟩;cases w with
 |true=>
  refine wx ?_;exact Jj ey ⟨_,_,_,rfl,bG ⟨ag,rfl⟩⟩
 |false=>
  refine wx ?_;obtain⟨_,_,iz⟩:=gM rfl;have ok:=aE7 (iz λi p h=>av);have len:(dz.map cV.cD).length<=600:=by simp at c5⊢;omega
  have no:∀p∈dz.map cV.cD,p.tail=.no:=λp J=>by
   obtain⟨x,_,rfl⟩:=dX.1 J;rfl
  rcases c3.app with⟨rfl,z⟩|⟨id,rfl,_⟩
  have:dz=[]:=aN
  subst this;exact Jj ey ⟨_,_,_,rfl,bD ⟨rfl,rfl,_,bG ⟨rfl,rfl⟩,ok,len,no⟩⟩;refine Jj (gQ (e_.SL λp _=>W5 _ p)) ⟨_,_,_,rfl,bD ⟨rfl,rfl,dz.map cV.cD,bD ?_,ok,len,no⟩⟩;rw[yM];rfl
 refine wy ?_;have q:(e !=0)=bh:=aLR
 exact wy (Jj ey ⟨_,_,_,rfl,bG ⟨he,rfl⟩⟩)
section
variable{p:cV}{i:Nat}
def jW(r:bg):Prop:=∃b:Bool,r=b
def ji{J}(b):∃n bS,dx J n (.v (.bool b))=a_ bS/\jW bS:=by
 obtain⟨n,hn⟩:=(bH (.bool b):b6 J _ _).done;exact⟨n,_,hn,b,rfl⟩
def aD3{G}(cF:gu G)(s)(hs:s.length<=1000000):dV G bA 246 [bu s] jW:=by
 refine ep (akV.go ?_);refine wy ?_;refine eF (ami cF s hs) ?_;rintro r (⟨l,v,hl,fR,hv,rfl⟩|⟨p,e,he,rfl⟩);have ln:=hv.cH;rw[cS] at ln;refine wy ?_;refine dy (λq=>?_) λq=>?_;obtain⟨y,rfl⟩:∃y,l=[y]:=FJ.1 au;have e1:cx 5 v (0:Int)=a_ (.fp y.cells 0):=hv.cw (i:=0) rfl rfl;have e2:∀J,bz J bf 1 (.fp y.cells 0)=a_ (.v (.int .i64 y.kind)):=λJ=>rfl;have di:∀J,bz J bf 1 (.fp y.cells 4)=a_ (bu y.name):=λJ=>rfl;have eX:k6 4 (.fp y.cells 0)=a_ (.fp y.cells 4):=rfl;refine jE @q @e1 @e2 ?_;refine dy (λbt=>?_) λbt=>?_;refine mP @e1 @eX @di @pe ?_;exact ji _;exact ji _;exact ji _;have q:(e==0)=bf:=aLR
 exact wy (ji _)
@[go_sem]def zB(h:p.tail=.no)(hl:p.kids.length<=4611686018427387904)(J):cH p.kv J=a_ (.v (.int .i64 (p.kids.length:Int)),J):=by
 unfold cV.kv;split;rename_i e;rw[e];rfl;simp[oc,goInt]
def asF{G}(cF:gu G)(ho:p.cT i)(ht:p.tail=.no):dV G bA 189 [p.bE] jW:=by
 refine ep (aku.go ?_);have uV:p.bE.cells=p.cells:=rfl;have ln:=zB ht (ig ho.kids ag);obtain⟨k,lo,Q,nm,kids,t⟩:=p;have l0:bz ([]++[.cells (rG ⟨k,lo,Q,nm,kids,t⟩) bf]) bf 1 (.mp 0 0)=a_ (.v (.int .i64 k)):=rfl;have l1:bz ([]++[.cells (rG ⟨k,lo,Q,nm,kids,t⟩) bf]) bf 1 (.mp 0 1)=a_ (.v (.int .i64 lo)):=rfl;have l2:bz ([]++[.cells (rG ⟨k,lo,Q,nm,kids,t⟩) bf]) bf 1 (.mp 0 2)=a_ (.v (.int .i64 Q)):=rfl;have l3:bz ([]++[.cells (rG ⟨k,lo,Q,nm,kids,t⟩) bf]) bf 1 (.mp 0 3)=a_ (bu nm):=rfl;have l4:bz ([]++[.cells (rG ⟨k,lo,Q,nm,kids,t⟩) bf]) bf 1 (.mp 0 4)=a_ (cV.kv ⟨k,lo,Q,nm,kids,t⟩):=rfl;generalize hg:[]++[bw (rG ⟨k,lo,Q,nm,kids,t⟩) bf]=g at l0 l1 l2 l3 l4;have z0:([]:List br).length=0:=rfl;obtain⟨rY,rZ⟩:=ho;dsimp only at rY rZ ln;refine mP @uV @hg @z0 @l0 ?_
 rcases rY with⟨rfl,rfl,rfl,hn,rfl⟩|⟨hk2,rfl,rfl,rfl,S,_⟩|⟨rfl,rfl,S,h0,Y,V⟩
 have n0:(((0:Nat):Int)==0)=bh:=rfl;refine wT @m_ @l0 @l1 @l2 @l3 @l4 @ln @gR.{0} @n0 ?_;have wz:nm.length<=1000000:=by
  simp only[vj,fh,decide_eq_true_eq] at hn;omega
 refine eF (aD3 cF nm wz) ?_;rintro r ⟨b,rfl⟩;exact fI (ji _)
 · have e1:decide ((1:Int)<(kids.length:Int))=bh:=by simp;omega
   have di:dM .eql (bu []) (.v (.string ⟨[].toArray⟩))=a_ (.v (.bool bh)):=pe [] []
   rcases hk2 with rfl|rfl
   all_goals
    exact Ii @l0 @l1 @l2 @l3 @l4 @ln @e1 @di (ji _)
 have di:dM .eql (bu []) (.v (.string ⟨[].toArray⟩))=a_ (.v (.bool bh)):=pe [] [];have n1:((kids.length:Int)==1)=bh:=ah
 have n2:decide (0<=lo)=bh:=ah
 have pK:decide (lo<=20)=bh:=ah
 refine pQ @m_ @l0 @l1 @l2 @l3 @l4 @ln (cQ (λq=>?_) λq=>?_);exact Ii (dB @q @l0 @l1 @l2) @l3 @l4 @ln @n1 @n2 @pK @di (ji _);have m1:rL bh [lo,(1:Int)]=a_ (.v (.int .i64 (if(1:Int)>lo then 1 else lo))):=rfl;have m2:decide ((if(1:Int)>lo then 1 else lo)<=Q)=bh:=by
  simp at q;simp only[decide_eq_true_eq];split<;>omega
 have m3:decide (Q<=20)=bh:=by simp at q⊢;omega
 exact Ii (dB @q @l0 @l1 @l2) (dB @l3 @l4 @ln @n1) @n2 @pK @di @m1 @m2 @m3 (ji _)
def xl(J:List br)(v:bg)(xs:List Int):Prop:=(v=.bq/\xs=[])\/(∃t,v=.sl (xs.map bp) t)\/∃k Z off,v=.rs k Z.length 1 off xs.length/\J[k]?=a_ (.cells Z bh)/\∀(i:Nat) x,xs[i]?=a_ x->Z[off+i]?=a_ (bp x)
@[go_sem]def xl.len{J}{v}{xs}(h:xl J v xs)(hl:xs.length<=4611686018427387904):cH v J=a_ (.v (.int .i64 (xs.length:Int)),J):=by
 rcases h with⟨rfl,rfl⟩|⟨t,rfl⟩|⟨k,Z,off,rfl,_,_⟩
 rfl;simp[oc,goInt];rfl
def xl.get{J}{v}{xs}(h:xl J v xs){x}(I:xs[i]?=a_ x):∃p,cx 1 v (i:Int)=a_ p/\bz J bf 1 p=a_ (.v (.int .i64 x)):=by
 have Q:=gl I
 rcases h with⟨rfl,rfl⟩|⟨t,rfl⟩|⟨k,Z,off,rfl,S,T⟩
 simp at I;refine⟨.fp [bp x] 0,?_,rfl⟩;simp only[cx,fD,wZ,I,j3];rw[if_pos aa];rfl;refine⟨.rp k Z.length (off+i*1),?_,?_⟩;show(if 0<=(i:Int)/\(i)<(xs.length:Int) then a_ (bg.rp k Z.length (off+(i:Int).toNat*1)) else bn)=_;rw[if_pos ⟨aa,aa⟩];simp;have:=T i x I;unfold bp at this;simp only[bz,S,if_true,Nat.mul_one];simpa[e9] using this
def au_{G}{J}{v w}{xs ys}(hv:xl J v xs)(hw:xl J w ys)(Y:xs.length<=1000000)(V:ys.length<=1000000):ct G bA 190 [v,w] J λr bl=>(∃b:Bool,r=b/\(b=bh->xs=ys))/\bl=J:=by
 refine akv.go ?_;refine wx ?_;refine dy (λq=>?_) λq=>?_;exact⟨⟨bf,rfl,λh=>aF⟩,trivial⟩;have hl:xs.length=ys.length:=au
 refine nv @q (hv.len (show xs.length<=4611686018427387904 by omega)) ?_;refine dj (λi e h=>e=[(0,v),(1,w),(12,bp xs.length),(13,bp i)]/\h=J/\∀(j),j<i->xs[j]?=ys[j]?) xs.length ⟨rfl,rfl,λj h=>aa⟩ ?_ ?_;rintro i e h Q ⟨rfl,rfl,hI⟩;obtain⟨x,I⟩:=dW Q;obtain⟨y,hy⟩:∃y,ys[i]?=a_ y:=⟨ys[i]' aa,cu aa⟩;obtain⟨p1,a1,b1⟩:=hv.get I;obtain⟨p2,a2,b2⟩:=hw.get hy;refine oq ?_;refine dy (λbt=>?_) λbt=>?_;exact⟨⟨bf,rfl,λh=>aF⟩,trivial⟩;refine wx ?_;refine⟨rfl,trivial,λj hj=>?_⟩
 rcases ei j i with z|z
 exact hI j z;obtain rfl:j=i:=aa
 rw[I,hy];simp at bt;rw[bt];rintro e h ⟨rfl,rfl,hI⟩;refine e3 @bp.eq_1 ?_;refine⟨⟨bh,rfl,λ_=>FH λj=>?_⟩,trivial⟩
 rcases ei j xs.length with z|z
 exact hI j z;rw[jV z,jV aa]
end
section
variable{h:bX}{J:List br}{G:Cells}
def Dj:List bg:=[.v (.int .i64 0),.v (.int .i64 0),.v (.int .i64 0),.v (.int .i32 0),.v (.int .u16 0),.v (.int .u16 0),.v (.int .u16 0),.v (.int .u16 0),.v (.int .u16 0),.v (.int .u16 0),.v (.int .u16 0),.v (.int .u16 0),.bq,.bq,.v (.int .i64 0),.v (.int .i64 0)]
def uy(ho:h.cT):h.cells.length=12:=by simp[yI,ho.len]
def KQ(ho:h.cT):∃c0 c1 c2 c3 c4 c5 gM iz ie c9 jg jh,h.cells=[c0,c1,c2,c3,c4,c5,gM,iz,ie,c9,jg,jh]:=by
 have:=uy ho
 match h.cells,this with
 |[c0,c1,c2,c3,c4,c5,gM,iz,ie,c9,jg,jh],_=>exact⟨c0,c1,c2,c3,c4,c5,gM,iz,ie,c9,jg,jh,rfl⟩
def aDh(ho:h.cT)(r):e9 bh 12 (h.cells++r) 0=a_ h.bE:=by
 obtain⟨c0,c1,c2,c3,c4,c5,gM,iz,ie,c9,jg,jh,e⟩:=KQ ho;simp only[gH,e];rfl
def Bx(ho:h.cT):e9 bh 12 h.cells 0=a_ h.bE:=by
 have:=aDh ho []
 rwa [fZ] at this
def Cm(h:bX):e_ J h.cells h.cells:=by
 refine e_.each λa ha=>?_;simp only[yI,fc,dX] at ha
 rcases ha with rfl|rfl|rfl|rfl|⟨x,_,rfl⟩<;>exact bH _
def Mn(r:List Int){t}:b6 J (.sl (r.map fA) t) (.sl (r.map fA) .no):=gQ (iw λa _=>bH _)
mutual
theorem xR{J:List br}:∀t:hc,b6 J t.bE t.bE
 |.node h ks=>by
  rw[hc.bE];exact b6.fp (BS (Cm h) (bF ey (bF (agU ks) (bF (bH _) (bF (bH _) cZ)))))
 |.leaf h=>by
  rw[hc.bE];exact b6.fp (BS (Cm h) (bF ey (bF ey (bF (bH _) (bF (bH _) cZ)))))
 |.text h r=>by
  rw[hc.bE];exact b6.fp (BS (Cm h) (bF (Mn r) (bF ey (bF (bH _) (bF (bH _) cZ)))))
theorem agW{J:List br}:∀ks:List hc,e_ J (en ks) (en ks)
 |[]=>cZ
 |k::r=>by
  rw[en];exact bF (xR k) (agW r)
theorem agU{J:List br}:∀ks:List hc,b6 J (jd (en ks)) (jd (en ks))
 |[]=>ey
 |k::r=>by
  rw[en,jd];exact gQ (bF (xR k) (agW r));exact λh=>aF
end
def aCS(ho:h.cT):cI G bA 38 [h.bE] (hc.leaf h).bE:=by
 refine eA (alf.go ?_);have hl:bz ([]++[bw h.bE.cells bf]) bh 12 (.mp ([]:List br).length 0)=a_ h.bE:=Bx ho;have hf:dI Dj [(0,12,h.bE),(14,1,.v (.int .i64 1)),(15,1,.v (.int .i64 1))]=a_ (h.cells++[.bq,.bq,bp 1,bp 1]):=by
  obtain⟨c0,c1,c2,c3,c4,c5,gM,iz,ie,c9,jg,jh,e⟩:=KQ ho;simp only[gH,e];rfl
 unfold Dj at hf;exact aIJ @hl @hf ((b6.mp rfl (BS (Cm h) (bF ey (bF ey (bF (bH _) (bF (bH _) cZ)))))).done)
def VR(ho:h.cT):(FC h).cT:=⟨ho.S,ho.ht,ho.ha,⟨by show(-2147483648:Int)<=0;decide,by show(0:Int)<=2147483647;decide⟩,ho.len,ho.hm⟩
def Zh(ho:h.cT)(r):cI G bA 39 [h.bE,.sl (r.map fA) .no] (dU (FC h) r).bE:=by
 refine eA (alg.go ?_);have hs:bL ([]++[bw h.bE.cells bf]) 1 (.mp ([]:List br).length (0+3)) (.v (.int .i32 0))=a_ ([]++[bw (FC h).bE.cells bf]):=by
  obtain⟨k,t,a,x,m⟩:=h;rfl
 have hl:bz ([]++[bw (FC h).bE.cells bf]) bh 12 (.mp ([]:List br).length 0)=a_ (FC h).bE:=Bx (VR ho);have hf:dI Dj [(0,12,(FC h).bE),(12,1,.sl (r.map fA) .no),(14,1,.v (.int .i64 r.length)),(15,1,.v (.int .i64 1))]=a_ ((FC h).cells++[.sl (r.map fA) .no,.bq,bp r.length,bp 1]):=by
  obtain⟨c0,c1,c2,c3,c4,c5,gM,iz,ie,c9,jg,jh,e⟩:=KQ (VR ho);simp only[gH,e];rfl
 unfold Dj at hf;exact OU @hs @hl @hf @goInt.eq_1 @cS.{0,0} ((b6.mp rfl (BS (Cm _) (bF (Mn r) (bF ey (bF (bH _) (bF (bH _) cZ)))))).done)
def aGP(ks):cC (jd (en ks)) (en ks):=by
 cases ks with
 |nil=>exact bG ⟨rfl,rfl⟩
 |cons k r=>exact bD (by rw[en,jd];exact λh=>aF)
def max2(a b:Nat):rL bh [.v (.int .i64 (a)),.v (.int .i64 (b))]=a_ (.v (.int .i64 ((max a b:Nat):Int))):=by
 simp only[rL,I1,P9,mT,if_true];congr 3;split<;>omega
def aiZ(ho:h.cT){ks}(S:∀k∈ks,k.wf)(O:cK ks<=4611686018427387904)(hn:ks.length<=4611686018427387904):cI G bA 37 [h.bE,jd (en ks)] (nw h ks).bE:=by
 refine eA (YW.go ?_);obtain⟨c0,c1,c2,c3,c4,c5,gM,iz,ie,c9,jg,jh,e⟩:=KQ ho;have hl:bz ([]++[bw h.bE.cells bf]) bh 12 (.mp ([]:List br).length 0)=a_ h.bE:=Bx ho;have hv:=aGP ks;have hf:dI Dj [(0,12,h.bE),(13,1,jd (en ks)),(14,1,.v (.int .i64 2))]=a_ [c0,c1,c2,c3,c4,c5,gM,iz,ie,c9,jg,jh,.bq,jd (en ks),bp 2,bp 0]:=by
  simp only[gH,e]
  have T:(jd (en ks)).cells=[jd (en ks)]:=by rcases hv with q|⟨q,_⟩<;>rw[q]<;>rfl
  unfold Dj dI;rw[if_pos ⟨rfl,of_decide_eq_true rfl⟩];unfold dI;rw[if_pos ⟨by rw[T];rfl,of_decide_eq_true rfl⟩,T];rfl
 unfold Dj at hf;refine OU @hl @hf @hv.cH @goInt.eq_1 @Cb ?_;refine dj (λi e J=>e=[(5,.mp 1 0),(12,jd (en ks)),(13,bp ks.length),(14,bp i)]/\J=[.cells h.bE.cells bf,.cells [c0,c1,c2,c3,c4,c5,gM,iz,ie,c9,jg,jh,.bq,jd (en ks),bp ((2+cK (ks.take i):Nat):Int),bp ((jY (ks.take i):Nat):Int)] bf]) ks.length ⟨rfl,rfl⟩ ?_ ?_;rintro i e J Q ⟨rfl,rfl⟩;obtain⟨k,xW⟩:=dW Q;have lJ:(en ks)[i]?=a_ k.bE:=by rw[F6];simp[xW]
 have d1:decide ((i)<(ks.length:Int))=bh:=ah
 have e1:cx 1 (jd (en ks)) (.v (.int .i64 i))=a_ (.fp [k.bE] 0):=by rw[hv.cw lJ (by rw[BT];rfl),BT]
 have l1:∀J,bz J bf 1 (.fp [k.bE] 0)=a_ k.bE:=λJ=>F3 J rfl;obtain⟨d0,D4,d2,d3,d4,d5,d6,d7,d8,d9,xH,Gn,p,q,XF⟩:=hc.aej (S k (cz xW));have l2:∀J,bz J bf 1 (.fp [d0,D4,d2,d3,d4,d5,d6,d7,d8,d9,xH,Gn,p,q,bp (k.size:Int),bp (k.height:Int)] 14)=a_ (bp (k.size:Int)):=λJ=>F3 J rfl;have l3:∀J,bz J bf 1 (.fp [d0,D4,d2,d3,d4,d5,d6,d7,d8,d9,xH,Gn,p,q,bp (k.size:Int),bp (k.height:Int)] 15)=a_ (bp (k.height:Int)):=λJ=>F3 J rfl;rw[XF] at e1 l1;simp only[bp] at e1 l1 l2 l3;have l4:∀a b,bz [.cells h.bE.cells bf,.cells [c0,c1,c2,c3,c4,c5,gM,iz,ie,c9,jg,jh,.bq,jd (en ks),a,b] bf] bf 1 (.mp 1 14)=a_ a:=λa b=>rfl;have EY:∀a b,bz [.cells h.bE.cells bf,.cells [c0,c1,c2,c3,c4,c5,gM,iz,ie,c9,jg,jh,.bq,jd (en ks),a,b] bf] bf 1 (.mp 1 15)=a_ b:=λa b=>rfl;have jn:∀a b n,bL [.cells h.bE.cells bf,.cells [c0,c1,c2,c3,c4,c5,gM,iz,ie,c9,jg,jh,.bq,jd (en ks),a,b] bf] 1 (.mp 1 14) (.v (.int .i64 n))=a_ [.cells h.bE.cells bf,.cells [c0,c1,c2,c3,c4,c5,gM,iz,ie,c9,jg,jh,.bq,jd (en ks),.v (.int .i64 n),b] bf]:=λa b n=>rfl;have jw:∀a b n,bL [.cells h.bE.cells bf,.cells [c0,c1,c2,c3,c4,c5,gM,iz,ie,c9,jg,jh,.bq,jd (en ks),a,b] bf] 1 (.mp 1 15) (.v (.int .i64 n))=a_ [.cells h.bE.cells bf,.cells [c0,c1,c2,c3,c4,c5,gM,iz,ie,c9,jg,jh,.bq,jd (en ks),a,.v (.int .i64 n)] bf]:=λa b n=>rfl;have t1:=aa7 xW;have b1:=TQ ks (i+1);have w1:cN.wrap (((2+cK (ks.take i):Nat):Int)+(k.size:Int))=((2+cK (ks.take (i+1)):Nat):Int):=by rw[e6 aa aa];omega
 have w2:cN.wrap ((i)+1)=((i+1:Nat):Int):=by rw[e6 aa aa];rfl
 have m1:=max2 (jY (ks.take i)) k.height;rw[<-(axy xW)] at m1;exact Dg (dB @bp.eq_1 @d1 @e1 @l1) (dB @l2 @l3 @l4 @EY) @jn @jw @w1 @w2 @m1 tt;rintro e J ⟨rfl,rfl⟩;have d1:decide ((ks.length:Int)<(ks.length:Int))=bf:=af
 have EY:∀a b,bz [.cells h.bE.cells bf,.cells [c0,c1,c2,c3,c4,c5,gM,iz,ie,c9,jg,jh,.bq,jd (en ks),a,b] bf] bf 1 (.mp 1 15)=a_ b:=λa b=>rfl;have jw:∀a b n,bL [.cells h.bE.cells bf,.cells [c0,c1,c2,c3,c4,c5,gM,iz,ie,c9,jg,jh,.bq,jd (en ks),a,b] bf] 1 (.mp 1 15) (.v (.int .i64 n))=a_ [.cells h.bE.cells bf,.cells [c0,c1,c2,c3,c4,c5,gM,iz,ie,c9,jg,jh,.bq,jd (en ks),a,.v (.int .i64 n)] bf]:=λa b n=>rfl;have Y:=RM ks;have w1:cN.wrap ((jY ks)+1)=((jY ks+1:Nat):Int):=by rw[e6 aa aa];rfl
 refine Di @oW.{0} ?_;refine(b6.mp rfl ?_).done;have:=BS (J:=[.cells h.bE.cells bf,.cells [c0,c1,c2,c3,c4,c5,gM,iz,ie,c9,jg,jh,.bq,jd (en ks),.v (.int .i64 ((2+cK ks:Nat):Int)),.v (.int .i64 ((jY ks+1:Nat):Int))] bf]) (Cm h) (bF ey (bF (agU ks) (bF (bH (.int .i64 ((2+cK ks:Nat):Int))) (bF (bH (.int .i64 ((jY ks+1:Nat):Int))) cZ))));rw[e] at this;rw[e];exact this
end
end Go.Proofs.YtpcfoeagojdmdaaGreatDoor
section
namespace Go.bM
open Go.RowKit
def arV(J:List br):Prop:=∀b∈J,(∃Z r,b=.cells Z r)\/∃n s e,b=.tok n s e
end Go.bM
namespace Go.Proofs.YtpcfoeagojdmdaaGreatDoor
open Go Go.bM Go.RowKit
def Ja(t:bX):∀c∈t.cells,eT c:=λc T=>by
 simp only[yI,fc,dX] at T
 rcases T with rfl|rfl|rfl|rfl|⟨x,_,rfl⟩<;>exact cP _
def Cf(t:bX):eT t.bE:=Gd (Ja t)
def Ext(O J:List br):Prop:=∀(j:Nat) b,O[j]?=a_ b->J[j]?=a_ b
def Ext.refl(O):Ext O O:=λ_ _ h=>h
def Ext.app{O l}:Ext O (O++l):=λ_ _ h=>bU h
def Ext.qX{O J l}(h:Ext O J):Ext O (J++l):=λj b q=>bU (h j b q)
def Ext.nil(J):Ext [] J:=λj b h=>av
def Ext.len{O J}(h:Ext O J):O.length<=J.length:=by
 rcases ei J.length O.length with q|q
 have:=h J.length _ (cu q);rw[jV (b_ _)] at this;cases this;exact q
def Ext.split{O J}(h:Ext O J):∃l,J=O++l:=by
 refine⟨J.drop O.length,?_⟩;apply FH;intro j
 rcases ei j O.length with q|q
 rw[fT q,h j _ (cu q),cu q];rw[fJ q,tC];congr 1;omega
def arX(O:List br)(v:bg)(l:List bX):Prop:=∃k Z off,v=.rs k Z.length 12 off l.length/\O[k]?=a_ (.cells Z bh)/\∀(i:Nat) t,l[i]?=a_ t->off+i*12+12<=Z.length/\(Z.drop (off+i*12)).take 12=t.cells
def qp(O:List br)(v:bg)(l:List bX):Prop:=cC v (l.map gH)\/arX O v l
def aDe{t:bX}(ho:t.cT):e9 bh 8 t.cells 4=a_ (.agg (t.marks.map fY)):=by
 have V:t.cells.length=12:=uy ho;unfold e9;rw[if_pos rfl,if_pos aa];have:t.cells.drop 4=t.marks.map fY:=rfl;rw[this,ow (by simp[ho.len])]
def qp.len{O}{v:bg}{l}(h:qp O v l)(J):cH v J=a_ (.v (.int .i64 (l.length:Int)),J):=by
 rcases h with h|⟨k,Z,off,rfl,_,_⟩
 have:=h.cH J
 rwa [cS] at this
 rfl
structure ar6(O:List br)(p:bg)(t:bX):Prop where
 nil:y8 p=a_ p
 f0:∃q,k6 0 p=a_ q/\∀J,Ext O J->bz J bf 1 q=a_ (.v (.int .i64 t.kind))
 f4:∃q,k6 4 p=a_ q/\∀J,Ext O J->bz J bh 8 q=a_ (.agg (t.marks.map fY))
 all:∀J,Ext O J->bz J bh 12 p=a_ t.bE
def qp.tok{O}{v:bg}{l}(h:qp O v l){i:Nat}{t}(ht:l[i]?=a_ t)(ho:t.cT):∃p,cx 12 v (.v (.int .i64 (i)))=a_ p/\ar6 O p t:=by
 rcases h with h|⟨k,Z,off,rfl,S,T⟩
 refine⟨.fp t.cells 0,h.cw (x:=t.bE) (by simp[ht]) (uy ho),rfl,⟨_,rfl,λJ _=>rfl⟩,⟨_,rfl,λJ _=>aDe ho⟩,λJ _=>Bx ho⟩;obtain⟨Y,V⟩:=T i t ht;have Q:=(cJ.1 ht).1;have hg:∀j,j<12->Z[off+i*12+j]?=t.cells[j]? :=λj hj=>by
  rw[<-V,Dt hj,tC]
 refine⟨.rp k Z.length (off+i*12),?_,rfl,⟨_,rfl,λJ he=>?_⟩,⟨_,rfl,λJ he=>?_⟩,λJ he=>?_⟩;show(if 0<=(i:Int)/\(i)<(l.length:Int) then a_ (bg.rp k Z.length (off+(i:Int).toNat*12)) else bn)=_;rw[if_pos ⟨aa,aa⟩];simp;simp only[bz,he k _ S,if_true];have:=hg 0 aa;exact this;simp only[bz,he k _ S,if_true];unfold e9;rw[if_pos rfl,if_pos aa];have:(Z.drop (off+i*12+4)).take 8=((Z.drop (off+i*12)).take 12).drop 4:=by
  rw[List.drop_take,uD]
 rw[this,V];rfl;simp only[bz,he k _ S,if_true];unfold e9;rw[if_pos rfl,if_pos Y,V];rfl
section
variable{G:Cells}{hk:bg}{p:bX->Bool}{l:List bX}{O:List br}
end
end Go.Proofs.YtpcfoeagojdmdaaGreatDoor
end
namespace Go.Proofs.YtpcfoeagojdmdaaGreatDoor
open Go Go.bM Go.RowKit
section
variable{O J bl:List br}{v:bg}{ks:List hc}{K i id j len m n:Nat}{k:hc}{α:Type}{x:br}{l p:List bX}{t u:bX}{iV:List bg}
def Va(J:List br)(v:bg)(ks:List hc):Prop:=(v=.bq/\ks=[])\/(ks≠[]/\∃id,v=.sl (en ks) (.tok id)/\J[id]?=a_ (.tok ks.length 1 24))
abbrev PN:=Fr×bg
variable{st:List PN}
def jZ:List PN->List bg
 |[]=>[]
 |(f,v)::r=>jZ r++(f.h.cells++[v])
def asN(v w:bg):Prop:=∀id xs ys,v=.sl xs (.tok id)->w≠.sl ys (.tok id)
def x9(J:List br):List PN->Prop
 |[]=>True
 |(f,v)::r=>Va J v f.ks/\(∀it∈r,asN v it.2)/\x9 J r
def ano(ks):cY 1 (en ks)=bh:=by
 rw[F6,cY,eG];intro x I;obtain⟨t,_,rfl⟩:=dX.1 I;obtain⟨Z,e⟩:=t.sK;rw[e];rfl
def aFh(k:hc)(h:Va J v ks)(hn:ks.length<1000000000):
  ∃id bl,eg J 1 8 24 v (.sl [k.bE] .exact)=a_ (.sl (en (ks++[k])) (.tok id),bl)/\bl[id]?=a_ (.tok (ks++[k]).length 1 24)/\(∀j b,j≠id->J[j]?=a_ b->bl[j]?=a_ b)/\
   ((∃ys,v=.sl ys (.tok id))\/J.length<=id)/\(∀Z r,J[id]?≠a_ (.cells Z r)):=by
 have e1:en (ks++[k])=en ks++[k.bE]:=by rw[asZ];rfl
 have S:cY 1 [k.bE]=bh:=ano [k];have bR:([k.bE]:List bg)≠[]:=af
 rcases h with⟨rfl,rfl⟩|⟨aij,id,rfl,hid⟩
 refine⟨J.length,J++[.tok 1 1 24],?_,af,λj b hj h=>(bU h),bG (b_ _),λZ r h=>?_⟩;simp[eg,gY,iA,iI,S,e1,en];rw[jV (b_ _)] at h;cases h;refine⟨id,J.set id (.tok (ks.length+1) 1 24),?_,?_,λj b hj h=>?_,bD ⟨_,rfl⟩,λZ r h=>?_⟩;have Y:((en ks).length+[k.bE].length)*8<=140737488355328:=by rw[Cb];simp only[ov];omega
 simp only[eg,gY,iA,iI,S,ano ks,e1,bR,if_false,if_true,hid,Cb,ov,true_and,and_self,w_] at Y⊢;rw[if_pos Y];rw[bT (gl hid),dO];rfl;rw[bC (e4 hj)];exact h;rw[hid] at h;cases h
def Sx(hj:∀j b,j≠id->J[j]?=a_ b->bl[j]?=a_ b):∀{st},x9 J st->(∀it∈st,∀ys,it.2≠.sl ys (.tok id))->x9 bl st
 |[],_,_=>trivial
 |(f,v)::r,h,hd=>by
  refine⟨?_,h.2.1,Sx hj h.2.2 λit hit=>hd it (by simp[hit])⟩
  rcases h.1 with q|⟨q,i,rfl,Q⟩
  exact bD q;refine bG ⟨q,i,rfl,hj i _ (λe=>?_) Q⟩;subst e;exact hd (f,.sl (en f.ks) (.tok i)) af _ rfl
def YZ:∀{st},x9 J st->∀it∈st,∀ys id,it.2=.sl ys (.tok id)->id<J.length
 |[],_,it,hit=>by cases hit
 |(f,v)::r,h,it,hit=>λys id e=>by
  rcases fc.1 hit with rfl|hit
  rcases h.1 with⟨q,_⟩|⟨_,i,q,Q⟩
  rw[q] at e;cases e;rw[q] at e;cases e;exact gl Q;exact YZ h.2.2 it hit ys id e
def aB9{f:Fr}(h:x9 J ((f,v)::st))(Y:bl[id]?=a_ (.tok (f.ks++[k]).length 1 24))(V:∀j b,j≠id->J[j]?=a_ b->bl[j]?=a_ b)
  (h3:(∃ys,v=.sl ys (.tok id))\/J.length<=id):x9 bl ((⟨f.h,f.ks++[k]⟩,.sl (en (f.ks++[k])) (.tok id))::st):=by
 have hd:∀it∈st,∀ys,it.2≠.sl ys (.tok id):=λit hit ys e=>by
  rcases h3 with⟨zs,di⟩|h3
  exact h.2.1 it hit id zs ys di e;have:=YZ h.2.2 it hit ys _ e;omega
 exact⟨bG ⟨af,id,rfl,Y⟩,λit hit i xs ys e=>by cases e;exact hd it hit ys,Sx V h.2.2 hd⟩
mutual
theorem nZ:∀t:hc,eT t.bE
 |.node h ks=>by
  rw[hc.bE];exact Gf λc T=>by
   rcases fB.1 T with T|T
   exact Ja h c T;simp only[fc,pV,or_false] at T
   rcases T with rfl|rfl|rfl|rfl
   exact nY;exact atT ks;exact cP _;exact cP _
 |.leaf h=>by
  rw[hc.bE];exact Gf λc T=>by
   rcases fB.1 T with T|T
   exact Ja h c T;simp only[fc,pV,or_false] at T
   rcases T with rfl|rfl|rfl|rfl
   exact nY;exact nY;exact cP _;exact cP _
 |.text h r=>by
  rw[hc.bE];exact Gf λc T=>by
   rcases fB.1 T with T|T
   exact Ja h c T;simp only[fc,pV,or_false] at T
   rcases T with rfl|rfl|rfl|rfl
   exact k7 λx I c T=>by
    obtain⟨a,_,rfl⟩:=dX.1 I;have e:c=fA a:=by simpa[fA,jU] using T
    subst e;exact cP _
   exact nY;exact cP _;exact cP _
theorem Wd:∀ks:List hc,∀x∈en ks,∀c∈x.cells,eT c
 |[],x,I=>by simp[en] at I
 |k::r,x,I=>λc T=>by
  rw[en] at I
  rcases fc.1 I with rfl|I
  rw[BT] at T;obtain rfl:=dP.1 T;exact nZ k;exact Wd r x I c T
theorem atT:∀ks:List hc,eT (jd (en ks))
 |[]=>nY
 |k::r=>by
  have e:jd (en (k::r))=.sl (en (k::r)) .no:=by rw[en,jd];exact λh=>aF
  rw[e];exact k7 λx I c T=>Wd (k::r) x I c T
end
def alL(h:Va J v ks):lV v (jd (en ks)):=by
 rcases h with⟨rfl,rfl⟩|⟨bR,id,rfl,_⟩
 exact aiV;have e:jd (en ks)=.sl (en ks) .no:=by
  cases ks with
  |nil=>exact(bR rfl).elim
  |cons k r=>rw[en,jd];exact λh=>aF
 rw[e];exact k7 λx I c T=>Wd ks x I c T
def abv{A B:List α}(h:A.length=n):(A++B).take n=A:=by rw[<-h,UU];rfl
def Wp{A B:List α}(h:A.length=n):(A++B).drop n=B:=by rw[<-h,List.drop_left'];rfl
section
variable{A B:List bg}{h:bX}{w:bg}{n:Nat}
def aov(ho:h.cT)(hA:A.length=n*13):(A++(h.cells++[w])++B).length=n*13+13+B.length:=by
 simp[uy ho,hA];omega
def aF4(ho:h.cT)(hA:A.length=n*13):e9 bh 12 (A++(h.cells++[w])++B) (n*13)=a_ h.bE:=by
 unfold e9;rw[if_pos rfl,if_pos (by rw[aov ho hA];omega),dN,Wp hA,dN,abv (uy ho)];rfl
def aF5(ho:h.cT)(hA:A.length=n*13)(bN):e9 bf bN (A++(h.cells++[w])++B) (n*13+12)=a_ w:=by
 unfold e9;rw[if_neg ag,dN,fJ aa,dN,fJ (by rw[uy ho];omega),uy ho,hA,show n*13+12-n*13-12=0 by omega];rfl
def aF6(ho:h.cT)(hA:A.length=n*13)(u:bg):dS (A++(h.cells++[w])++B) (n*13+12) [u]=A++(h.cells++[u])++B:=by
 have Y:(A++h.cells).length=n*13+12:=by rw[dO,hA,uy ho]
 have e:A++(h.cells++[w])++B=(A++h.cells)++([w]++B):=af
 unfold dS;rw[e,abv Y,ov,<-uD,Wp Y];simp
end
def OB:∀{st},T8 (st.map (·.1))->(jZ st).length=st.length*13
 |[],_=>rfl
 |(f,v)::r,h=>by
  have:=OB h.2.2;simp only[jZ,dO,eB,gR,uy h.1,this];omega
def CV(n:Int):bg:=.v (.int .i64 n)
def yH:List bg:=[.v (.int .i64 0),.v (.int .i64 0),.v (.int .i64 0),.v (.int .i32 0),.v (.int .u16 0),.v (.int .u16 0),.v (.int .u16 0),.v (.int .u16 0),.v (.int .u16 0),.v (.int .u16 0),.v (.int .u16 0),.v (.int .u16 0),.bq]
structure PA(O:List br)(l:List bX)(i:Nat)(st:List PN)(iV:List bg)(J:List br):Prop where
 gv:J[O.length]?=a_ (.cells (jZ st++iV) bh)
 base:Ext O J
 ks:x9 J st
 go:j9 l.length (l.drop i) (st.map (·.1))=j9 l.length l [⟨vp,[]⟩]
 ne:st≠[]
 len:st.length<=41
 ok:T8 (st.map (·.1))
 size:wQ (st.map (·.1))+st.length<=i+1
 kids:vz (st.map (·.1))<=i
 azw:i<=l.length
def alO:∀{st},x9 J st->∀it∈st,∀ys id,it.2=.sl ys (.tok id)->∃n,J[id]?=a_ (.tok n 1 24)
 |[],_,it,hit=>by cases hit
 |(f,v)::r,h,it,hit=>λys id e=>by
  rcases fc.1 hit with rfl|hit
  rcases h.1 with⟨q,_⟩|⟨_,i,q,Q⟩
  rw[q] at e;cases e;rw[q] at e;cases e;exact⟨_,Q⟩;exact alO h.2.2 it hit ys id e
def alN{Z}{b}(h0:J[K]?=a_ (.cells Z b))(h:x9 J st):x9 (J.set K x) st:=
 Sx (λj b hj q=>aMe) h λit hit ys e=>by
  obtain⟨n,hn⟩:=alO h it hit ys K e;rw[h0] at hn;cases hn
def IB(O:List br):Prop:=∀b∈O,∃Z r,b=.cells Z r
def IB.plain(h:IB O):arV O:=λb hb'=>bD (h b hb')
def ave(T:IB O)(he:Ext O J)(V:∀j b,j≠id->J[j]?=a_ b->bl[j]?=a_ b)(h5:∀Z r,J[id]?≠a_ (.cells Z r)):Ext O bl:=λj b q=>by
 refine V j b (λe=>?_) (he j b q);subst e;obtain⟨Z,r,rfl⟩:=T b (cz q);exact h5 Z r (he _ _ q)
def agf(he:Ext O J):Ext O (J.set O.length x):=λj b q=>by
 have:=gl q;rw[bC aa];exact he j b q
def VY(MG:IB O){i'}{g:Fr}{u:bg}{r}(hm:m=(jZ ((g,u)::r)++iV).length)(gv:J[O.length]?=a_ (.cells (jZ ((g,u)::r)++iV) bh))(axg:Ext O J)
  (S:x9 J ((g,u)::r)) (fR:T8 (g::r.map (·.1))) (cW:r.length+1<=41) (hw:k.wf) (k_:j9 l.length (l.drop i') (⟨g.h,g.ks++[k]⟩::r.map (·.1))=j9 l.length l [⟨vp,[]⟩])
  (dw:wQ (g::r.map (·.1))+k.size+(r.length+1)<=i'+1) (Be:vz (g::r.map (·.1))+1<=i') (ld:i'<=l.length) (hl:l.length<=20000):
  ∃w' bl Cx,eg J 1 8 24 u (.sl [k.bE] .exact)=a_ (w',bl)/\bL bl 1 (.rp O.length m (r.length*13+12)) w'=a_ Cx/\m=(jZ ((⟨g.h,g.ks++[k]⟩,w')::r)++iV).length/\PA O l i' ((⟨g.h,g.ks++[k]⟩,w')::r) iV Cx:=by
 have hA:(jZ r).length=r.length*13:=OB fR.2.2;obtain⟨id,bl,Y,V,h3,h4,h5⟩:=aFh k S.1 (by simp only[vz] at Be;omega);have zh:bl[O.length]?=a_ (.cells (jZ ((g,u)::r)++iV) bh):=h3 O.length _ (λe=>by subst e;exact h5 _ _ gv) gv;have T:jZ ((g,u)::r)++iV=jZ r++(g.h.cells++[u])++iV:=rfl;have Ya:∀x,(jZ r++(g.h.cells++[x])++iV).length=r.length*13+13+iV.length:=λx=>aov fR.1 hA;refine⟨.sl (en (g.ks++[k])) (.tok id),bl,bl.set O.length (.cells (jZ r++(g.h.cells++[.sl (en (g.ks++[k])) (.tok id)])++iV) bh),Y,?_,?_,⟨?_,agf (ave MG axg h3 h5),?_,k_,af,aLu,⟨fR.1,λt ht=>?_,fR.2.2⟩,?_,?_,ld⟩⟩;rw[T] at zh hm;show(match bl[O.length]? with
  |some (.cells Z bh)=>if m=Z.length then fu bl O.length bh Z 1 (r.length*13+12) (.sl (en (g.ks++[k])) (.tok id)) else bn
  |_=>bn)=_
 rw[zh];dsimp only;rw[if_pos hm];unfold fu;rw[if_pos ⟨rfl,by rw[Ya];omega,rfl⟩];congr 4;exact aF6 fR.1 hA _;rw[hm,T,Ya];show _=(jZ r++(g.h.cells++[_])++iV).length;rw[Ya];rw[bT (gl zh)];rfl;exact alN zh (aB9 S V h3 h4)
 rcases fB.1 ht with ht|ht
 exact fR.2.1 t ht;rw[dP.1 ht];exact hw;simp only[fQ,wQ,KJ,cK] at dw⊢;simp only[eB];omega;simp only[fQ,vz,dO,ov] at Be⊢;omega
def Vz(t:hc):eW 1 [t.bE]=a_ (.sl [t.bE] .exact):=by
 obtain⟨Z,e⟩:=t.sK;rw[e];rfl
def avk(ho:t.cT):dI yH [(0,12,t.bE)]=a_ (t.cells++[.bq]):=by
 obtain⟨c0,c1,c2,c3,c4,c5,gM,iz,ie,c9,jg,jh,e⟩:=KQ ho;simp only[gH,e];rfl
def anu(ho:t.cT):cY 13 [.agg (t.cells++[.bq])]=bh:=by
 have Y:(t.cells++[bg.bq]).length=13:=by rw[dO,uy ho];rfl
 have V:(t.cells++[bg.bq]).all cq=bh:=by
  rw[eG];intro c T;simp only[yI,jy,fc,fB,dX,pV,or_false] at T
  rcases T with rfl|rfl|rfl|rfl|⟨x,_,rfl⟩|rfl<;>rfl
 simp only[cY,qk,tB,Bool.and_true,jU,Y,V];rfl
def ash(ho:t.cT):eW 13 [.agg (t.cells++[.bq])]=a_ (.sl [.agg (t.cells++[.bq])] .exact):=by
 have:=anu ho;unfold eW;rw[if_pos ⟨this,af⟩]
def aFg(hm:m=(jZ st++iV).length)(gv:J[K]?=a_ (.cells (jZ st++iV) bh))(hA:(jZ st).length=st.length*13)(ho:t.cT)(hl:st.length<=41):
  qW J 13 72 88 (.rs K m 13 0 st.length) (.sl [.agg (t.cells++[.bq])] .exact)=a_ (.rs K (jZ ((⟨t,[]⟩,.bq)::st)++iV.drop 13).length 13 0 (st.length+1),J.set K (.cells (jZ ((⟨t,[]⟩,.bq)::st)++iV.drop 13) bh)):=by
 have D:nr (jZ st++iV) (st.length*13) (eO [.agg (t.cells++[.bq])])=jZ ((⟨t,[]⟩,.bq)::st)++iV.drop 13:=by
  have hf:eO [.agg (t.cells++[.bq])]=t.cells++[.bq]:=by simp[eO,jU]
  have ax_:(t.cells++[bg.bq]).length=13:=by rw[dO,uy ho];rfl
  unfold nr;rw[hf,abv hA,ax_,<-uD,Wp hA];rfl
 have h3:¬([dG (t.cells++[.bq])]=([]:List bg)):=af
 show gY J 13 72 88 (.rs K m 13 0 st.length) (.sl [.agg (t.cells++[.bq])] .exact)=_;simp only[gY,iA,iI,anu ho,h3,if_false,and_self,w_,if_true,true_and,gv,eB,gR];rw[if_pos aa,if_pos hm,D]
def ato(hI:PA O l i st iV J)(ho:t.cT)(hl:st.length<=40)(k_:j9 l.length (l.drop (i+1)) (⟨t,[]⟩::st.map (·.1))=j9 l.length l [⟨vp,[]⟩])(Q:i<l.length):
  PA O l (i+1) ((⟨t,[]⟩,.bq)::st) (iV.drop 13) (J.set O.length (.cells (jZ ((⟨t,[]⟩,.bq)::st)++iV.drop 13) bh)):=by
 refine⟨?_,agf hI.base,alN hI.gv ⟨bD ⟨rfl,rfl⟩,λit hit id xs ys e=>aC,hI.ks⟩,k_,af,ah,⟨ho,λk S=>(by cases S),hI.ok⟩,?_,?_,Q⟩;rw[bT (gl hI.gv)];have:=hI.size;simp only[fQ,wQ,cK,eB];omega;have:=hI.kids;simp only[fQ,vz,gR];omega
def aoB{k}(h:j<=len)(J):qg n (.rs k m n 0 len) bn (a_ (.v (.int .i64 (j)))) bn J=a_ (.rs k m n 0 j,J):=by
 have e:lX len len bn (a_ (j)) bn=a_ (0,j,len):=by
  simp[lX,kg,h]
 show IA (λr=>(r,J)) (nG n (.rs k m n 0 len) bn (a_ (.v (.int .i64 (j)))) bn)=_;simp[nG,pL,e]
def aaT{k}(h:j<len):cx n (.rs k m n 0 len) (.v (.int .i64 (j)))=a_ (.rp k m (j*n)):=by
 show(if 0<=(j:Int)/\(j)<(len:Int) then a_ (bg.rp k m (0+(j:Int).toNat*n)) else bn)=_;rw[if_pos ⟨aa,aa⟩];simp
def aoC{k o}(J):cH (.rs k m n o len) J=a_ (.v (.int .i64 (len)),J):=rfl
def HY(k m o):y8 (.rp k m o)=a_ (.rp k m o):=rfl
def C8(off k m o):k6 off (.rp k m o)=a_ (.rp k m (o+off)):=rfl
section
variable{A B:List bg}{h:bX}{w:bg}{n m K:Nat}{J:List br}
def aoz(gv:J[K]?=a_ (.cells (A++(h.cells++[w])++B) bh))(hm:m=(A++(h.cells++[w])++B).length)(ho:h.cT)(hA:A.length=n*13):bz J bh 12 (.rp K m (n*13))=a_ h.bE:=by
 simp only[bz,gv];rw[if_pos hm,aF4 ho hA]
def OE(gv:J[K]?=a_ (.cells (A++(h.cells++[w])++B) bh))(hm:m=(A++(h.cells++[w])++B).length)(ho:h.cT)(hA:A.length=n*13):bz J bf 1 (.rp K m (n*13+12))=a_ w:=by
 simp only[bz,gv];rw[if_pos hm,aF5 ho hA]
end
def WG(k):∀(a b:List Int),a.length=b.length->fy (fk a.length .i) (a.map λx=>dh (.int k x)) (b.map λx=>dh (.int k x))=a_ (decide (a=b))
 |[],[],_=>rfl
 |[],_::_,h=>aF
 |_::_,[],h=>aF
 |x::a,y::b,h=>by
  simp only[eB,art,fQ,fy,n5,if_true,WG k a b aW];congr 1;by_cases I:x=y;subst I;simp;simp[I]
def QW(ht:t.cT)(hu:u.cT):sI [.i,.i,.i,.i,.i,.i,.i,.i] bf (.agg (u.marks.map fY)) (.agg (t.marks.map fY))=a_ (.v (.bool (decide (u.marks=t.marks)))):=by
 have h:=WG .u16 u.marks t.marks (by rw[hu.len,ht.len]);rw[hu.len] at h;show(fy [.i,.i,.i,.i,.i,.i,.i,.i] (u.marks.map fY) (t.marks.map fY)).map (λr=>dh (.bool (bf !=r)))=_;have e:fy [.i,.i,.i,.i,.i,.i,.i,.i] (u.marks.map fY) (t.marks.map fY)=a_ (decide (u.marks=t.marks)):=h;rw[e];simp
def qi:List bg:=yH.take 12
def adY(ho:u.cT)(J):bL (J++[.cells qi bf]) 12 (.mp J.length 0) u.bE=a_ (J++[.cells u.cells bf]):=by
 have Y:(J++[bw qi bf])[J.length]?=a_ (.cells qi bf):=af
 have V:u.bE.cells.all cq=bh:=by
  show u.cells.all cq=bh;rw[eG];intro c T;simp only[yI,fc,dX] at T
  rcases T with rfl|rfl|rfl|rfl|⟨x,_,rfl⟩<;>rfl
 simp only[bL,Y,fu];rw[if_pos ⟨uy ho,by show 0+12<=12;omega,V⟩];have:dS qi 0 u.bE.cells=u.cells:=by
  show qi.take 0++u.cells++qi.drop (0+u.cells.length)=u.cells;rw[uy ho];show []++u.cells++[]=u.cells;simp
 rw[this];simp
def aDf(u:bX)(J):bz (J++[.cells u.cells bf]) bf 1 (.mp J.length 3)=a_ (.v (.int .i32 u.rune)):=by
 have Y:(J++[bw u.cells bf])[J.length]?=a_ (.cells u.cells bf):=af
 simp only[bz,Y];rfl
def aFi{xs}{x}(h:J[id]?=a_ (.tok xs.length 1 21))(hn:xs.length<=1000000):
  eg J 1 4 21 (.sl (xs.map fA) (.tok id)) (.sl [.v (.int .i32 x)] .exact)=a_ (.sl ((xs++[x]).map fA) (.tok id),J.set id (.tok (xs.length+1) 1 21)):=by
 have Y:cY 1 [dh (.int .i32 x)]=bh:=rfl;have V:cY 1 (xs.map fA)=bh:=by
  rw[cY,eG];intro y hy;obtain⟨a,_,rfl⟩:=dX.1 hy;rfl
 have bR:¬([dh (.int .i32 x)]=([]:List bg)):=af
 simp only[eg,gY,iA,iI,Y,V,bR,if_false,if_true,h,cS,eB,gR,true_and,and_self,w_,gz,fQ,kX];rw[if_pos aa];rfl
def abD(p):∀(l:List α) x,x∈l.takeWhile p->p x=bh
 |[],x,h=>av
 |a::l,x,h=>by
  rw[ary] at h;split at h;rename_i ha
  rcases fc.1 h with rfl|h
  exact ha;exact abD p l x h;cases h
def abE(p):∀(l:List α) u,l[(l.takeWhile p).length]?=a_ u->p u=bf
 |[],u,h=>av
 |a::l,u,h=>by
  rw[ary] at h;split at h;exact abE p l u aW;rename_i ha;simp at h;subst h;simpa using ha
def aoD(h:(l.drop (i+1)).takeWhile (ki t)=p):
  (∀k,k<p.length->∃u,l[i+k+1]?=a_ u/\ki t u=bh)/\(∀u,l[i+p.length+1]?=a_ u->ki t u=bf)/\(∀k u,p[k]?=a_ u->l[i+k+1]?=a_ u):=by
 have key:∀(k),k<p.length->(l.drop (i+1))[k]?=p[k]? :=λk S=>by
  have e:l.drop (i+1)=p++(l.drop (i+1)).dropWhile (ki t):=by rw[<-h,List.takeWhile_append_dropWhile]
  rw[e,fT S]
 have alE:∀(k) u,p[k]?=a_ u->l[i+k+1]?=a_ u:=λk u hu=>by
  have S:=gl hu;have:=key k S;rw[tC,hu] at this;rw[<-this];congr 1;omega
 refine⟨λk S=>?_,λu hu=>?_,alE⟩;have hu:p[k]?=a_ p[k]:=cu S;refine⟨p[k],alE k _ hu,?_⟩;exact abD _ _ _ (by rw[h];exact Pq S);refine abE (ki t) (l.drop (i+1)) u ?_;rw[h,tC,<-hu];congr 1;omega
def aaV(h:(l.drop (i+1)).takeWhile (ki t)=p)(Q:i<l.length):i+p.length<l.length:=by
 have Y:p.length<=(l.drop (i+1)).length:=by rw[<-h];exact(List.takeWhile_sublist _).length_le
 rw[ql] at Y;omega
def aDR(J)(hn:n<=1000000):DO J 1 4 21 [.v (.int .i32 0)] (.v (.int .i64 0)) (.v (.int .i64 (n)))=a_ (.sl [] (.tok J.length),J++[.tok 0 1 21]):=by
 show(if(0:Int)=0/\0<=(n:Int)/\(n:Int)*(4:Nat)<=140737488355328/\(n:Int)<=9223372036854775807/\[dh (.int .i32 0)].length=1/\1≠0 then _ else bn)=_;rw[if_pos ⟨rfl,aa,aa,aa,rfl,ag⟩]
def aGr(hv:cC v (l.map gH))(ht:l[i]?=a_ t)(h:∀k u,p[k]?=a_ u->l[i+k+1]?=a_ u)(hl:i+p.length<l.length)(ho:∀t∈l,t.cT)(J):
  qg 12 v (a_ (.v (.int .i64 (i)))) (a_ (.v (.int .i64 ((i+p.length+1:Nat):Int)))) bn J=a_ (.sl ((t::p).map gH) .no,J):=by
 rcases hv with rfl|⟨_,hn⟩
 have O:lX (l.map gH).length (l.map gH).length (a_ (i)) (a_ ((i+p.length+1:Nat):Int)) bn=a_ (i,i+p.length+1,(l.map gH).length):=by
  rw[cS];simp only[lX,kg,Ak,z8,kJ,if_false];rw[if_pos ⟨aa,aa⟩];dsimp only;rw[if_pos ⟨aa,aa⟩];simp;omega
 have kT:((l.map gH).all λx=>x.cells.length==12)=bh:=by
  rw[eG];intro x I;obtain⟨u,hu,rfl⟩:=dX.1 I;have:=uy (ho u hu);simpa[gH,jU] using this
 have ayO:((l.map gH).take (i+p.length+1)).drop i=(t::p).map gH:=by
  apply FH;intro k;rw[tC]
  rcases ei k (p.length+1) with q|q
  rw[Dt aa];cases k with
  |zero=>simp[ht]
  |succ k=>
   have S:p[k]?=a_ p[k]:=cu aa;have:=h k _ S;simp only[fD,fQ,uE,S];rw[show i+(k+1)=i+k+1 by omega,this]
  rw[jV aNG,jV ah]
 show IA (λr=>(r,J)) (nG 12 (.sl (l.map gH) .no) (a_ (.v (.int .i64 (i)))) (a_ (.v (.int .i64 ((i+p.length+1:Nat):Int)))) bn)=_;have rY:∀n:Int,pL (a_ (.v (.int .i64 n)))=a_ (a_ n):=λn=>rfl;have rZ:pL bn=a_ bn:=rfl;unfold nG;rw[rY,rY,rZ];dsimp only;rw[O];dsimp only;rw[if_pos kT,ayO];have No:Fm .no (l.map gH).length i (i+p.length+1) (l.map gH).length (Option.isSome (bn:Option Int))=.no:=by
  unfold Fm;rw[if_neg af];split;split<;>rfl;rfl
 rw[No];rfl;have:=congrArg Du hn;simp at this;subst this;simp at hl
def qp.seg(hv:qp O v l)(ht:l[i]?=a_ t)(h:∀k u,p[k]?=a_ u->l[i+k+1]?=a_ u)(hl:i+p.length<l.length)(ho:∀t∈l,t.cT):
  ∃v',(∀J,qg 12 v (a_ (.v (.int .i64 (i)))) (a_ (.v (.int .i64 ((i+p.length+1:Nat):Int)))) bn J=a_ (v',J))/\qp O v' (t::p):=by
 rcases hv with hv|⟨k,Z,off,rfl,S,T⟩
 exact⟨_,λJ=>aGr hv ht h hl ho J,bD (bD rfl)⟩;have hb':lX l.length l.length (a_ (i)) (a_ ((i+p.length+1:Nat):Int)) bn=a_ (i,i+p.length+1,l.length):=by
  simp only[lX,kg,Ak,z8,kJ,if_false];rw[if_pos ⟨aa,aa⟩];dsimp only;rw[if_pos ⟨aa,aa⟩];simp;omega
 have kT:∀(j) u,(t::p)[j]?=a_ u->l[i+j]?=a_ u:=λj u hu=>by
  cases j with
  |zero=>cases hu;exact ht
  |succ j=>exact h j u hu
 refine⟨.rs k Z.length 12 (off+i*12) (t::p).length,λJ=>?_,bG ⟨k,Z,off+i*12,rfl,S,λj u hu=>?_⟩⟩;show IA (λr=>(r,J)) (nG 12 (.rs k Z.length 12 off l.length) (a_ (.v (.int .i64 (i)))) (a_ (.v (.int .i64 ((i+p.length+1:Nat):Int)))) bn)=_;have rY:∀n:Int,pL (a_ (.v (.int .i64 n)))=a_ (a_ n):=λn=>rfl;have rZ:pL bn=a_ bn:=rfl;unfold nG;rw[rY,rY,rZ];dsimp only;rw[if_pos ⟨rfl,rfl⟩,hb'];dsimp only;by_cases GR:i=0;subst GR;rw[if_pos rfl];simp;rw[if_neg GR,if_pos aa];simp;omega;have:=T (i+j) u (kT j u hu);rw[show off+i*12+j*12=off+(i+j)*12 by omega];exact this
end
section
variable{p:cV}
def atU(h:p.tail=.no):eT p.kv:=by
 unfold cV.kv;split;exact nY;rw[h];exact k7 λx I c T=>by
  obtain⟨y,_,rfl⟩:=dX.1 I;rw[dP.1 (show c∈[bp y] from T)];exact cP _
def afd(h:p.tail=.no):∀c∈p.cells,eT c:=λc T=>by
 simp only[rG,fc,pV,or_false] at T
 rcases T with rfl|rfl|rfl|rfl|rfl
 exact cP _;exact cP _;exact cP _;exact cP _;exact atU h
def atY(h:p.tail=.no):eT p.bE:=Gd (afd h)
def Ge{v}{ps}(h:tJ v ps):eT v:=by
 rcases h.v with rfl|⟨rfl,_⟩
 exact k7 λx I c T=>by
  obtain⟨p,J,rfl⟩:=dX.1 I;exact afd (h.no p J) c T
 exact nY
def vN(J:List br)(v:bg)(st:List Int):Prop:=(v=.bq/\st=[])\/∃k Z,v=.rs k Z.length 1 0 st.length/\J[k]?=a_ (.cells Z bh)/\st.length<=Z.length/\∀(i:Nat) x,st[i]?=a_ x->Z[i]?=a_ (bp x)
def vN.app{J l}{v}{st}(h:vN J v st):vN (J++l) v st:=by
 rcases h with h|⟨k,Z,Y,V,h3,h4⟩
 exact bD h;exact bG ⟨k,Z,Y,bU V,h3,h4⟩
@[go_sem]def vN.len{J}{v}{st}(h:vN J v st):∀J,cH v J=a_ (.v (.int .i64 (st.length:Int)),J):=λJ=>by
 rcases h with⟨rfl,rfl⟩|⟨k,Z,rfl,_⟩<;>rfl
def vN.lo{J}{v}{st}{n}(h:vN J v st)(hn:n<=st.length):∃u,qg 1 v (a_ (.v (.int .i64 (n)))) bn bn J=a_ (u,J)/\xl J u (st.drop n):=by
 rcases h with⟨rfl,rfl⟩|⟨k,Z,rfl,S,bJ,T⟩
 obtain rfl:n=0:=aLS
 exact⟨.bq,rfl,bD ⟨rfl,rfl⟩⟩;have O:lX st.length st.length (a_ (n)) bn bn=a_ (n,st.length,st.length):=by
  simp only[lX,kg,Ak,z8,kJ,if_false];rw[if_pos ⟨aa,aa⟩];simp
 have e:qg 1 (.rs k Z.length 1 0 st.length) (a_ (.v (.int .i64 (n)))) bn bn J=a_ (if n=0 then .rs k Z.length 1 0 st.length else if n<st.length then .rs k Z.length 1 (0+n*1) (st.length-n) else .sl [] .no,J):=by
  show IA (λr=>(r,J)) (nG 1 (.rs k Z.length 1 0 st.length) (a_ (.v (.int .i64 (n)))) bn bn)=_;have rY:∀n:Int,pL (a_ (.v (.int .i64 n)))=a_ (a_ n):=λn=>rfl;have rZ:pL bn=a_ bn:=rfl;unfold nG;rw[rY,rZ];dsimp only;rw[if_pos ⟨rfl,rfl⟩,O];dsimp only;split;rfl;split<;>rfl
 refine⟨_,e,?_⟩;split;rename_i z;subst z;exact bG (bG ⟨k,Z,0,rfl,S,λi x I=>by rw[gA];exact T i x I⟩);split;refine bG (bG ⟨k,Z,n,af,S,λi x I=>?_⟩);rw[tC] at I;exact T _ x I;have:st.drop n=[]:=w4 aa;rw[this];exact bG (bD ⟨.no,rfl⟩)
def vN.push{J}{v}{st}{n}(h:vN J v st)(hn:n<=st.length)(hs:st.length<=100000)(x):∃u u' bl,qg 1 v bn (a_ (.v (.int .i64 (n)))) bn J=a_ (u,J)/\qW J 1 8 3 u (.sl [.v (.int .i64 x)] .exact)=a_ (u',bl)/\vN bl u' (st.take n++[x]):=by
 rcases h with⟨rfl,rfl⟩|⟨k,Z,rfl,S,bJ,T⟩
 obtain rfl:n=0:=aLS
 refine⟨.bq,.rs J.length 1 1 0 1,J++[.cells [bp x] bh],rfl,rfl,bG ⟨J.length,[bp x],rfl,af,af,λi y hy=>?_⟩⟩
 rcases i with _|i
 simp at hy;subst hy;rfl;simp at hy;have hl:=gl S;refine⟨.rs k Z.length 1 0 n,.rs k (nr Z n [bp x]).length 1 0 (n+1),J.set k (.cells (nr Z n [bp x]) bh),aoB hn J,?_,bG ⟨k,nr Z n [bp x],?_,bT hl,?_,λi y hy=>?_⟩⟩;show gY J 1 8 3 (.rs k Z.length 1 0 n) (.sl [.v (.int .i64 x)] .exact)=_;have Y:cY 1 [dh (.int .i64 x)]=bh:=rfl;have h3:¬([dh (.int .i64 x)]=([]:List bg)):=af
 have hf:eO [dh (.int .i64 x)]=[bp x]:=rfl;simp only[gY,iA,iI,Y,h3,if_false,and_self,w_,if_true,true_and,S,eB,gR,hf,Nat.mul_one];rw[if_pos aa];simp[FL hn];simp[nr,FL hn];omega;unfold nr
 rcases Nat.lt_trichotomy i n with z|z|z
 rw[dN,fT ah,Dt z];rw[fT ah,Dt z] at hy;exact T i y hy;subst z;rw[dN,fJ ah];rw[fJ ah] at hy;have e1:i-(Z.take i).length=0:=ah
 have e2:i-(st.take i).length=0:=ah
 rw[e2] at hy;rw[e1];simp at hy⊢;rw[hy];rw[jV ah] at hy;cases hy
def qP(ps:List cV):Nat->List Int->Prop
 |0,st=>st=[]
 |i+1,st=>∃p rA,ps[i]?=a_ p/\qP ps i (rA++p.kids)/\st=rA++[(i:Int)]
def apF{ps}:∀{i} {st},qP ps i st->st.length<=i
 |0,st,h=>by rw[show st=[] from h];exact b_ _
 |i+1,st,⟨p,rA,_,Y,V⟩=>by
  have:=apF Y;rw[V];simp at this⊢;omega
def adh(ps:List cV)(r:bg):Prop:=∃b:Bool,r=b/\(b=bh->ps=[]\/∃x,qP ps ps.length [x])
@[go_sem]def zW(J)(p:cV):bL (J++[.cells [(0:Int),(0:Int),(0:Int),.v (.string ⟨#[]⟩),.bq] bf]) 5 (.mp J.length 0) (.agg p.cells)=a_ (J++[.cells p.cells bf]):=by
 have Y:(dG p.cells).cells.length=5:=rfl;have V:(dG p.cells).cells.all cq=bh:=by
  have:=Kf p;simp only[cY,qk,tB,Bool.and_true,fh] at this;exact this.2
 simp only[bL,fJ (b_ _),kY,ny,fu];rw[if_pos ⟨Y,af,V⟩];simp[dS,jU,rG]
def aoo{G}(cF:gu G){v}{ps}(h:tJ v ps):dV G bA 124 [v] (adh ps):=by
 refine ep (ajV.go ?_);have ln:=h.v.cH;rw[cS] at ln;have cW:=h.len;have fin:∀(J) (b),(b=bh->ps=[]\/∃x,qP ps ps.length [x])->∃n bS,dx J n b=a_ bS/\adh ps bS:=λJ b O=>by
  obtain⟨n,hn⟩:=(bH (.bool b):b6 J _ _).done;exact⟨n,_,hn,b,rfl,O⟩
 refine wy ?_;refine dj (λi e J=>∃st bx,e=[(0,v),(3,bx),(7,v),(8,bp ps.length),(9,bp i)]/\qP ps i st/\vN J bx st) ps.length ⟨[],.bq,rfl,rfl,bD ⟨rfl,rfl⟩⟩ ?_ ?_;rintro i e J Q ⟨st,bx,rfl,hs,ho⟩;obtain⟨p,eK⟩:=dW Q;have mh:=h.ok i p eK;have qc:=h.no p (cz eK);have wA:=apF hs;have e1:cx 5 v (.v (.int .i64 (i)))=a_ (.fp p.cells 0):=h.v.cw (x:=p.bE) aMC rfl;have I:vN (J++[.cells p.cells bf]) bx st:=ho.app;have s1:=zW J p;have aCm:bz (J++[.cells p.cells bf]) bh 5 (.mp J.length 0)=a_ (.agg p.cells):=by
  simp only[bz,fJ (b_ _),kY,ny];rfl
 have l4:bz (J++[.cells p.cells bf]) bf 1 (.mp J.length 4)=a_ p.kv:=by
  simp only[bz,fJ (b_ _),kY,ny];rfl
 have kE:=mh.kids;generalize J++[.cells p.cells bf]=g at I s1 aCm l4;have w1:cN.wrap ((st.length:Int)-(p.kids.length:Int))=(st.length:Int)-(p.kids.length:Int):=e6 aa aa;refine oq (jG (asF cF mh qc) (bO (atY qc) cG) ?_);rintro r ⟨b,rfl⟩;refine wy ?_;cases b with
 |false=>
  exact wy (fin _ bf λq=>ax)
 |true=>
  refine wy ?_;refine dy (λq=>?_) λq=>?_;exact fin _ bf λq=>ax
  have bJ:p.kids.length<=st.length:=au
  have ja:(st.length:Int)-(p.kids.length:Int)=((st.length-p.kids.length:Nat):Int):=aa
  obtain⟨u,c1,c2⟩:=I.lo (n:=st.length-p.kids.length) aa;have kv:xl g p.kv p.kids:=by
   unfold cV.kv;split;rename_i z;exact bD ⟨rfl,z⟩;exact bG (bD ⟨_,rfl⟩)
  rw[ja] at q⊢;refine wy (cm (au_ c2 kv ah aa) ?_);rintro _ g2 ⟨⟨b2,rfl,jB⟩,hh⟩;rw[hh];clear hh;refine wy ?_;cases b2 with
  |false=>
   exact wy (fin _ bf λq=>ax)
  |true=>
   have hd:=jB rfl;obtain⟨u1,u2,g3,d1,d2,d3⟩:=I.push (n:=st.length-p.kids.length) aa aa (i);refine wy ?_;refine⟨_,_,rfl,⟨p,st.take (st.length-p.kids.length),eK,?_,rfl⟩,d3⟩;have z:st.take (st.length-p.kids.length)++p.kids=st:=(congrArg (λy=>st.take (st.length-p.kids.length)++y) hd.symm).trans (K8 _ _);rw[z];exact hs
 rintro e J ⟨st,bx,rfl,hs,ho⟩;refine oq ?_;refine dy (λq=>?_) λq=>?_;obtain⟨x,rfl⟩:∃x,st=[x]:=FJ.1 au;exact fin _ bh λ_=>bG ⟨x,hs⟩;refine wy (fin _ _ λz=>bD ?_);have:(ps.length:Int)=0:=eq_of_beq z;exact arj.1 aa
end
section
variable{l:List (List UInt8)}
@[go_sem]def zL(l:List (List UInt8)):cY 1 (l.map bu)=bh:=by
 rw[cY,eG];intro x I;obtain⟨t,ht,rfl⟩:=dX.1 I;rfl
def D3:∀x∈l.map bu,∀c∈x.cells,eT c:=λx I c T=>by
 obtain⟨s,_,rfl⟩:=dX.1 I;rw[dP.1 (show c∈[bu s] from T)];exact cP _
def qZ{v}(h:cC v (l.map bu)):eT v:=by
 rcases h with rfl|⟨rfl,_⟩
 exact k7 D3;exact nY
def DQ{J}{v}{xs}{n}{e}(h:de J v xs n e)(T:∀x∈xs,∀c∈x.cells,eT c):∃v',cC v' xs/\lV v v'/\eT v':=by
 rcases h with⟨rfl,rfl⟩|⟨id,rfl,_⟩
 exact⟨.bq,bG ⟨rfl,rfl⟩,nY,nY⟩;exact⟨.sl xs .no,bD rfl,k7 T,k7 T⟩
def asm{G}{k}{J}{bx}(S:J[k]?=a_ (.cells [bx] bf))(hA:de J bx (l.map bu) 1 9)(hl:l.length<=100000)(s):
  ct G bA 117 [bu s,.mp k 0] J λr bl=>∃cX,bl[k]?=a_ (.cells [cX] bf)/\de bl cX ((if l.any (s== ·) then l else l++[s]).map bu) 1 9:=by
 refine ajQ.go ?_;obtain⟨v',Y,V,h3⟩:=DQ hA D3;refine wy ?_;refine dD (L1 Y h3 aa s) ?_;refine wy (cQ (λq=>?_) λq=>?_);have q':(l.any (s== ·))=bf:=an
 obtain⟨cl,g2,e2,fM,bR,bJ,hk2⟩:=nc (x:=bu s) (cc:=16) hA (zL l) rfl ag ag ah;have kb:g2[k]?=a_ (.cells [bx] bf):=hk2 _ _ S λxs z=>by
  rcases hA with⟨q1,_⟩|⟨id,q1,bt⟩
  rw[q1] at z;cases z;rw[q1] at z;cases z;rw[S] at bt;cases bt
 have ho:cq cl=bh:=aMo
 have s1:=rC ho kb;have ab:eW 1 [bu s]=a_ (.sl [bu s] .exact):=rfl;refine qQ @q (fG S) @ab @e2 @s1 ?_;refine⟨cl,bT (gl kb),?_⟩;rw[if_neg (by rw[q'];decide),gz]
 rcases fM with z|⟨id,b7,z2⟩
 exact bD z;refine bG ⟨id,b7,?_⟩;rw[bC];exact z2;rintro rfl;rw[kb] at z2;cases z2;have q':(l.any (s== ·))=bh:=an
 refine e3 @q ?_;refine⟨bx,S,?_⟩;rw[if_pos q'];exact hA
def arS(ps:List cV)(r:bg):Prop:=∃l:List (List UInt8),cC r (l.map bu)/\l.length<=ps.length/\∀s∈l,vj s=bh
def amS{G}{v}{ps}(h:tJ v ps):dV G bA 68 [v] (arS ps):=by
 refine ep (ajp.go ?_);have ln:=h.v.cH;rw[cS] at ln;have cW:=h.len;refine wy ?_;refine dj (λi e J=>∃l bx,e=[(3,.mp 0 0),(4,.fn (.func 117) [] [.mp 0 0]),(8,v),(9,bp ps.length),(10,bp i)]/\l.length<=i/\(∀s∈l,vj s=bh)/\J[0]?=a_ (.cells [bx] bf)/\de J bx (l.map bu) 1 9) ps.length ⟨[],.bq,rfl,b_ _,af,rfl,bD ⟨rfl,rfl⟩⟩ ?_ ?_;rintro i e J Q ⟨l,bx,rfl,hl,hn,h0,hA⟩;obtain⟨p,eK⟩:=dW Q;have mh:=h.ok i p eK;have e1:cx 5 v (i:Int)=a_ (.fp p.cells 0):=h.v.cw (x:=p.bE) aMC rfl;have e2:∀J,bz J bh 5 (.fp p.cells 0)=a_ (.agg p.cells):=λJ=>rfl;have s1:=zW J p;have l0:bz (J++[.cells p.cells bf]) bf 1 (.mp J.length 0)=a_ (.v (.int .i64 p.kind)):=by
  simp only[bz,fJ (b_ _),kY,ny];rfl
 have l3:bz (J++[.cells p.cells bf]) bf 1 (.mp J.length 3)=a_ (bu p.name):=by
  simp only[bz,fJ (b_ _),kY,ny];rfl
 have Jr:(J++[bw p.cells bf])[0]?=a_ (.cells [bx] bf):=bU h0;have v_:de (J++[bw p.cells bf]) bx (l.map bu) 1 9:=by
  rcases hA with z|⟨id,b7,z2⟩
  exact bD z;exact bG ⟨id,b7,bU z2⟩
 refine wy (cQ (λq=>?_) λq=>?_);refine wy (cm (asm Jr v_ aa p.name) ?_);rintro r g2 ⟨cX,k1,k2⟩;have ua:vj p.name=bh:=by
  have q':p.kind=1:=an
  rcases mh.1 with z|z|z
  exact z.2.2.2.1;omega;omega
 refine fI ?_;refine⟨_,cX,rfl,?_,?_,k1,k2⟩;split;omega;simp;omega;intro s hs;split at hs;exact hn s hs
 rcases fB.1 hs with z|z
 exact hn s z;rw[dP.1 z];exact ua;refine e3 @q ?_;exact⟨l,bx,rfl,aa,hn,Jr,v_⟩;rintro e J ⟨l,bx,rfl,hl,hn,h0,hA⟩;refine wy ?_
 rcases hA with⟨rfl,z⟩|⟨id,rfl,_⟩
 obtain⟨n,rX⟩:=(ey:b6 J _ _).done;exact⟨n,_,rX,l,bG ⟨rfl,z⟩,hl,hn⟩;obtain⟨n,rX⟩:=(gQ (iw λa _=>bH _):b6 J _ _).done;exact⟨n,_,rX,l,bD rfl,hl,hn⟩
end
section
variable{i:Nat}
def yC(ps:List cV):Nat->Int->Nat
 |0,_=>0
 |f+1,i=>match ps[i.toNat]? with
  |none=>0
  |some p=>3+(p.kids.map λk=>yC ps f k+1).sum
def aHH{ps}(h:rK ps):∀(n f g) (i),i.toNat<n->i.toNat<f->i.toNat<g->yC ps f i=yC ps g i:=by
 intro n
 induction n with
 |zero=>intro f g i h0;omega
 |succ n ih=>
  intro f g i h0 Y V;obtain⟨f,rfl⟩:∃f',f=f'+1:=⟨f-1,aa⟩;obtain⟨g,rfl⟩:∃g',g=g'+1:=⟨g-1,aa⟩;unfold yC;cases J:ps[i.toNat]? with
  |none=>rfl
  |some p=>
   dsimp only;congr 2;refine B0 λk S=>?_;have:=(h _ p J).2 k S;rw[ih f g k aa aa aa]
def sz(ps:List cV)(i:Int):Nat:=yC ps (i.toNat+1) i
def apS{ps}(h:rK ps){p}(J:ps[i]?=a_ p):sz ps (i)=3+(p.kids.map λk=>sz ps k+1).sum:=by
 show yC ps (i+1) (i)=_;unfold yC;rw[wZ,J];dsimp only;congr 2;refine B0 λk S=>?_;have:=(h _ p J).2 k S;rw[aHH h (i+1) i (k.toNat+1) k aa aa aa];rfl
def apI{ps}(h:rK ps):∀{i} {st},qP ps i st->(st.map λk=>sz ps k+1).sum<=4*i
 |0,st,hs=>by rw[show st=[] from hs];simp
 |i+1,st,⟨p,rA,J,Y,V⟩=>by
  have:=apI h Y;rw[V];simp only[gz,arx,fQ,kX,Aj,Iz] at this⊢;rw[apS h J];omega
structure qq(k:Nat)(v:bg)(l:List dJ)(out:bg)(J:List br):Prop where
 b:J[k]?=a_ (.cells [v,out] bf)
 app:de J out (l.map nx) 5 227
 ok:∀x∈l,x.cT
def iY(k:Nat)(J bl:List br):Prop:=J.length<=bl.length/\∀(j:Nat) Z fz,j≠k->J[j]?=a_ (.cells Z fz)->bl[j]?=a_ (.cells Z fz)
def iY.refl(k)(J):iY k J J:=⟨b_ _,λ_ _ _ _ h=>h⟩
def iY.trans{k}{a b c}(h:iY k a b)(q:iY k b c):iY k a c:=⟨ig h.1 q.1,λj x f hj e=>q.2 j x f hj (h.2 j x f hj e)⟩
def iY.app{k}{J l}:iY k J (J++l):=⟨af,λ_ _ _ _ h=>bU h⟩
def qq.app'{k}{v out}{l}{J x}(h:qq k v l out J):qq k v l out (J++x):=by
 refine⟨bU h.b,?_,h.ok⟩
 rcases h.app with z|⟨id,b7,z2⟩
 exact bD z;exact bG ⟨id,b7,bU z2⟩
section
variable{G:Cells}{k:Nat}{v out:bg}{l:List dJ}{J:List br}
@[go_sem]def qq.Hs(h:qq k v l out J):bz J bf 1 (.mp k 0)=a_ v:=aS
@[go_sem]def qq.iW(h:qq k v l out J):bz J bf 1 (.mp k 1)=a_ out:=aS
def qq.push(h:qq k v l out J)(x)(I:x.cT)(hl:l.length<=100000):∃o' g,eg J 5 48 227 out (.sl [.agg x.cells] .exact)=a_ (o',g)/\∃g',bL g 1 (.mp k 1) o'=a_ g'/\qq k v (l++[x]) o' g'/\iY k J g':=by
 obtain⟨cl,g2,e2,fM,bR,bJ,hk2⟩:=nc (cc:=48) h.app (Z7 l) (Tc x) ag ag ah;have kb:g2[k]?=a_ (.cells [v,out] bf):=hk2 _ _ h.b λxs z=>by
  rcases h.app with⟨q1,_⟩|⟨id,q1,bt⟩
  rw[q1] at z;cases z;rw[q1] at z;cases z;rw[h.b] at bt;cases bt
 have ho:cq cl=bh:=aMo
 have eX:cl.cells=[cl]:=aMn
 have s2:bL g2 1 (.mp k 1) cl=a_ (g2.set k (.cells [v,cl] bf)):=by
  simp only[bL,kb,fu,eX];simp[ho,dS]
 refine⟨cl,g2,e2,_,s2,⟨bT (gl kb),?_,λy hy=>?_⟩,by simpa using bJ,λj Z fz hj q=>?_⟩;rw[gz]
 rcases fM with z|⟨id,b7,z2⟩
 exact bD z;refine bG ⟨id,b7,?_⟩;rw[bC];exact z2;rintro rfl;rw[kb] at z2;cases z2
 rcases fB.1 hy with z|z
 exact h.ok y z;rw[dP.1 z];exact I;rw[bC (e4 hj)];exact hk2 _ _ q λxs z=>by
  rcases h.app with⟨q1,_⟩|⟨id,q1,bt⟩
  rw[q1] at z;cases z;rw[q1] at z;cases z;rw[q] at bt;cases bt
@[go_sem]def adH(x:dJ):eW 5 [.agg x.cells]=a_ (.sl [.agg x.cells] .exact):=Vx x
def Lm(k:Nat)(v:bg)(l:List dJ)(n:Nat)(J bl:List br):Prop:=∃l2 o2,qq k v (l++l2) o2 bl/\l2.length<=n/\iY k J bl
def Vc(G:Cells)(k:Nat)(v:bg)(ps:List cV)(i:Int):Prop:=∀(b:Bool) l out J,qq k v l out J->l.length+sz ps i<=100000->ct G bA 231 [.mp k 0,i,b] J λr bl=>Lm k v l (sz ps i) J bl
def Ho(p:cV)(g):xl g p.kv p.kids:=by
 unfold cV.kv;split;rename_i z;exact bD ⟨rfl,z⟩;exact bG (bD ⟨_,rfl⟩)
def zX{f:Int->Nat}{ks:List Int}{j}{x}(I:ks[j]?=a_ x):((ks.take (j+1)).map f).sum=((ks.take j).map f).sum+f x:=by
 rw[yP,I];simp
def Db(f:Int->Nat)(ks:List Int)(j):((ks.take j).map f).sum<=(ks.map f).sum:=by
 conv=>rhs;rw[<-K8 j ks]
 rw[gz,arx];omega
def aCv{ps}(h:tJ v ps){p}(eK:ps[i]?=a_ p)(ih:∀x∈p.kids,Vc G k v ps x):Vc G k v ps (i):=by
 intro b l out J hS hn;have mh:=h.ok i p eK;have qc:=h.no p (cz eK);have kE:=mh.kids;have dw:=apS h.ok eK;refine akG.go ?_;have aEJ:dJ.cT ⟨2,0,0,0,[]⟩:=⟨Ds _,bG (bD ⟨bD rfl,rfl,rfl,rfl⟩)⟩;have aGJ:dJ.cT ⟨3,0,0,0,[]⟩:=⟨Ds _,bG (bD ⟨bG (bD rfl),rfl,rfl,rfl⟩)⟩;have aEO:dJ.cT ⟨4,0,0,0,[]⟩:=⟨Ds _,bG (bD ⟨bG (bG rfl),rfl,rfl,rfl⟩)⟩;have agi:∀c:Int,dI [.v (.int .i64 0),.v (.int .i64 0),.v (.int .i64 0),.v (.int .i64 0),.v (.string ⟨#[]⟩)] [(0,1,.v (.int .i64 c))]=a_ (iE ⟨c,0,0,0,[]⟩):=λc=>rfl;refine eN (λe g=>e=[(0,.mp k 0),(1,.v (.int .i64 (i))),(2,.v (.bool b))]/\Lm k v l 1 J g) ?_ ?_;cases b with
 |true=>
  obtain⟨o1,g1,e1,g2,s1,fe,q4⟩:=hS.push _ aEJ aa;refine wx ?_;exact⟨trivial,_,o1,fe,af,q4⟩
 |false=>
  refine wx ?_;exact⟨trivial,[],out,by rw[fZ];exact hS,af,iY.refl _ _⟩
 rintro e g ⟨rfl,l1,o1,fe,hl1,q4⟩;refine eN (λe g2=>∃m,e=[(0,.mp k 0),(2,.v (.bool b)),(6,.mp m 0)]/\m≠k/\g2[m]?=a_ (.cells p.cells bf)/\qq k v (l++l1) o1 g2/\iY k J g2) ?_ ?_;have e1:cx 5 v (.v (.int .i64 (i)))=a_ (.fp p.cells 0):=h.v.cw (x:=p.bE) aMC rfl;have s1:=zW g p;refine wx ?_;have:=gl fe.b;exact⟨g.length,rfl,aa,af,fe.app',q4.trans iY.app⟩;rintro e g2 ⟨m,rfl,JD,hm,gq,sS⟩;have m0:∀bl,iY k g2 bl->bl[m]?=a_ (.cells p.cells bf):=λbl O=>O.2 _ _ _ JD hm;have gk:∀bl,bl[m]?=a_ (.cells p.cells bf)->bz bl bf 1 (.mp m 0)=a_ (.v (.int .i64 p.kind))/\bz bl bf 1 (.mp m 1)=a_ (.v (.int .i64 p.low))/\bz bl bf 1 (.mp m 2)=a_ (.v (.int .i64 p.high))/\bz bl bf 1 (.mp m 3)=a_ (bu p.name)/\bz bl bf 1 (.mp m 4)=a_ p.kv:=λbl q=>by
  simp only[bz,q];exact⟨rfl,rfl,rfl,rfl,rfl⟩
 refine eN (λe g3=>e=[(0,.mp k 0),(2,.v (.bool b))]/\Lm k v l (sz ps (i)-1) J g3) ?_ ?_;refine wy ?_
 rcases mh.1 with⟨S,pG,zp,ua,aKq⟩|⟨S|S,pG,zp,ua,hk2,_⟩|⟨S,ua,gj,h0,Y,V⟩
 have f1:dI [.v (.int .i64 0),.v (.int .i64 0),.v (.int .i64 0),.v (.int .i64 0),.v (.string ⟨#[]⟩)] [(0,1,.v (.int .i64 1)),(4,1,bu p.name)]=a_ (iE ⟨1,0,0,0,p.name⟩):=rfl;obtain⟨lq,g4,eX,g5,jw,A3,zi⟩:=gq.push ⟨1,0,0,0,p.name⟩ ⟨Ds _,bD ⟨rfl,ua,rfl,rfl⟩⟩ ah;refine wx ?_;rw[dN] at A3;exact⟨trivial,_,lq,A3,ah,sS.trans zi⟩;have lk:=zB qc (ig kE ag);have kv:∀g,xl g p.kv p.kids:=Ho p;refine wy ?_;refine dj (λj e g=>e=[(0,.mp k 0),(2,.v (.bool b)),(48,p.kv),(49,bp p.kids.length),(50,bp j)]/\∃l3 kz,qq k v (l++l3) kz g/\l3.length<=1+((p.kids.take j).map λx=>sz ps x+1).sum/\iY k J g) p.kids.length ⟨rfl,l1,o1,gq,aa,sS⟩ ?_ ?_
 · rintro j e g hj ⟨rfl,l3,kz,pz,s0,tT⟩
   obtain⟨x,I⟩:=dW hj;have r4:=cz I;obtain⟨x0,x1⟩:=mh.2 x r4;obtain⟨xn,rfl⟩:=pT x0;have ld:=gl eK;obtain⟨q,hq⟩:∃q,ps[xn]?=a_ q:=⟨ps[xn]' aa,cu aa⟩;have e1:cx 5 v (.v (.int .i64 (xn)))=a_ (.fp q.cells 0):=h.v.cw (x:=q.bE) aLs rfl;have di:∀J,bz J bf 1 (.fp q.cells 0)=a_ (.v (.int .i64 q.kind)):=λJ=>rfl;obtain⟨pk,k1,k2⟩:=(kv g).get I;have yB:=zX (f:=λx=>sz ps x+1) I;have sl:=Db (λx=>sz ps x+1) p.kids (j+1);have next:∀(c),ct G bA 231 [.mp k 0,.v (.int .i64 (xn)),.v (.bool c)] g λr g'=>Lm k v (l++l3) (sz ps (xn)) g g':=λc=>ih _ r4 c (l++l3) kz g pz ah;have fin:∀g',Lm k v (l++l3) (sz ps (xn)) g g'->∃l3 kz,qq k v (l++l3) kz g'/\l3.length<=1+((p.kids.take (j+1)).map λx=>sz ps x+1).sum/\iY k J g':=λg' ⟨l4,lq,b7,z2,z3⟩=>⟨l3++l4,lq,by rw[<-dN];exact b7,by simp only[dO];omega,tT.trans z3⟩;refine oq ?_;refine dy (λbt=>?_) λbt=>?_
   · refine cm (next bh) ?_
     intro r g' D;refine fI ?_;exact⟨rfl,fin g' D⟩
   · refine wx (cm (next _) ?_)
     intro r g' D;refine fI ?_;exact⟨rfl,fin g' D⟩
 rintro e g ⟨rfl,l3,kz,pz,s0,tT⟩;rw[oW] at s0;refine e3 @bp.eq_1 ?_;exact⟨trivial,l3,kz,pz,aa,tT⟩;have lk:=zB qc (ig kE ag);have kv:∀g,xl g p.kv p.kids:=Ho p;refine wy ?_;refine dj (λj e g=>e=[(0,.mp k 0),(2,.v (.bool b)),(81,p.kv),(82,bp p.kids.length),(83,bp j)]/\∃l3 kz,qq k v (l++l3) kz g/\l3.length<=1+((p.kids.take j).map λx=>sz ps x+1).sum/\iY k J g) p.kids.length ⟨rfl,l1,o1,gq,aa,sS⟩ ?_ ?_;rintro j e g hj ⟨rfl,l3,kz,pz,s0,tT⟩;obtain⟨x,I⟩:=dW hj;have r4:=cz I;obtain⟨x0,x1⟩:=mh.2 x r4;obtain⟨xn,rfl⟩:=pT x0;have ld:=gl eK;obtain⟨q,hq⟩:∃q,ps[xn]?=a_ q:=⟨ps[xn]' aa,cu aa⟩;have e1:cx 5 v (.v (.int .i64 (xn)))=a_ (.fp q.cells 0):=h.v.cw (x:=q.bE) aLs rfl;have di:∀J,bz J bf 1 (.fp q.cells 0)=a_ (.v (.int .i64 q.kind)):=λJ=>rfl;obtain⟨pk,k1,k2⟩:=(kv g).get I;have yB:=zX (f:=λx=>sz ps x+1) I;have sl:=Db (λx=>sz ps x+1) p.kids (j+1);refine wy (cQ (λbt=>?_) λbt=>?_);obtain⟨lq,g4,eX,g5,jw,A3,zi⟩:=pz.push _ aEO ah;refine wx ?_;refine cm (ih _ r4 _ (l++l3++[⟨4,0,0,0,[]⟩]) lq g5 A3 ah) ?_;rintro r g' ⟨l4,vk,b7,z2,z3⟩;refine wx ?_;exact⟨rfl,l3++[⟨4,0,0,0,[]⟩]++l4,vk,by rw[<-dN,<-dN];exact b7,by simp only[dO,ov];omega,(tT.trans zi).trans z3⟩;refine wx (cm (ih _ r4 _ (l++l3) kz g pz ah) ?_);rintro r g' ⟨l4,vk,b7,z2,z3⟩;refine wx ?_;exact⟨rfl,l3++l4,vk,by rw[<-dN];exact b7,by simp only[dO];omega,tT.trans z3⟩;rintro e g ⟨rfl,l3,kz,pz,s0,tT⟩;rw[oW] at s0;refine e3 @bp.eq_1 ?_;exact⟨trivial,l3,kz,pz,aa,tT⟩;obtain⟨x,I⟩:∃x,p.kids=[x]:=FJ.1 gj;have r4:x∈p.kids:=by rw[I];simp
 obtain⟨x0,x1⟩:=mh.2 x r4;obtain⟨xn,rfl⟩:=pT x0;have ld:=gl eK;obtain⟨q,hq⟩:∃q,ps[xn]?=a_ q:=⟨ps[xn]' aa,cu aa⟩;have e1:cx 5 v (.v (.int .i64 (xn)))=a_ (.fp q.cells 0):=h.v.cw (x:=q.bE) aLs rfl;have di:∀J,bz J bf 1 (.fp q.cells 0)=a_ (.v (.int .i64 q.kind)):=λJ=>rfl;obtain⟨pk,k1,k2⟩:=(Ho p g2).get (i:=0) (by rw[I];rfl);have az_:cx 1 p.kv (.v (.int .i64 0))=a_ pk:=k1;rw[I] at dw;simp only[fQ,kX,Aj,Iz] at dw;refine wx (cm (ih _ r4 _ (l++l1) o1 g2 gq ah) ?_);rintro r g' ⟨l4,vk,b7,z2,z3⟩;have f1:dI [.v (.int .i64 0),.v (.int .i64 0),.v (.int .i64 0),.v (.int .i64 0),.v (.string ⟨#[]⟩)] [(0,1,.v (.int .i64 5)),(2,1,.v (.int .i64 p.low)),(3,1,.v (.int .i64 p.high))]=a_ (iE ⟨5,0,p.low,p.high,[]⟩):=rfl;obtain⟨vl,g7,L6,g8,qO,Xs,awJ⟩:=b7.push ⟨5,0,p.low,p.high,[]⟩ ⟨Ds _,bG (bG ⟨rfl,rfl,h0,Y,V⟩)⟩ ah;refine wx ?_;exact⟨trivial,l1++l4++[⟨5,0,p.low,p.high,[]⟩],vl,by rw[<-dN,<-dN];exact Xs,by simp only[dO,ov];omega,(sS.trans z3).trans awJ⟩;rintro e g3 ⟨rfl,l3,kz,pz,s0,tT⟩;cases b with
 |true=>
  obtain⟨lq,g4,eX,g5,jw,A3,zi⟩:=pz.push _ aGJ ah;refine wx ?_;rw[dN] at A3;exact⟨_,lq,A3,ah,tT.trans zi⟩
 |false=>
  refine wy ?_;exact⟨l3,kz,pz,aa,tT⟩
end
end
def vB(c:UInt8):bg:=.v (.int .u8 (c.toNat:Int))
def Am(J:List br)(k:Nat)(l:List UInt8):Prop:=∃c0 bv,J[k]?=a_ (.cells [c0,bv] bf)/\(c0=.iJ k (387,2)\/c0=.mp k 0)/\de J bv (l.map vB) 1 5/\(l=[]->bv=.bq)
def Dx(J:List br)(k:Nat)(l:List UInt8)(bv:bg):Prop:=J[k]?=a_ (.cells [.mp k 0,bv] bf)/\de J bv (l.map vB) 1 5/\(l=[]->bv=.bq)
@[go_sem]def Z9(l:List UInt8):cY 1 (l.map vB)=bh:=by
 rw[cY,eG];intro x I;obtain⟨t,ht,rfl⟩:=dX.1 I;rfl
section
variable{G:Cells}{k:Nat}{l:List UInt8}{J:List br}
def iY.set{x}:iY k J (J.set k x):=⟨af,λj Z fz hj h=>aM7⟩
def ae5(h:Am J k l):ct G bA 290 [.mp k 0] J λr bl=>r=.bQ []/\(∃bv,Dx bl k l bv)/\iY k J bl:=by
 obtain⟨c0,bv,Y,rfl|rfl,h3,h4⟩:=h;refine cm (aeQ aq0 Y) ?_;rintro r bl ⟨rfl,rfl⟩;refine⟨rfl,⟨bv,bT (gl Y),?_,h4⟩,iY.set⟩
 rcases h3 with z|⟨id,b7,z2⟩
 exact bD z;refine bG ⟨id,b7,?_⟩;rw[bC];exact z2;rintro rfl;rw[Y] at z2;cases z2;refine cm (aeT aq0 Y) ?_;rintro r bl ⟨rfl,rfl⟩;exact⟨rfl,⟨bv,Y,h3,h4⟩,iY.refl _ _⟩
def Dx.st{bv}(h:Dx J k l bv):Am J k l:=⟨_,bv,h.1,bG rfl,h.2⟩
@[go_sem]def Dx.gk{bv}(h:Dx J k l bv):bz J bf 1 (.mp k 1)=a_ bv:=by
 simp only[bz,h.1];rfl
def Dx.put{bv dc}{g}{l'}(h:Dx J k l bv)(hA:de g dc (l'.map vB) 1 5)(hz:l'=[]->dc=.bq)(S:∀(j:Nat) Z fz,J[j]?=a_ (.cells Z fz)->g[j]?=a_ (.cells Z fz))(hl:J.length<=g.length):
  ∃g',bL g 1 (.mp k 1) dc=a_ g'/\Am g' k l'/\iY k J g':=by
 have kb:=S _ _ _ h.1
 have ho:cq dc=bh:=az
 have eX:dc.cells=[dc]:=by cases dc<;>first|rfl|cases ho
 have s2:bL g 1 (.mp k 1) dc=a_ (g.set k (.cells [.mp k 0,dc] bf)):=by
  simp only[bL,kb,fu,eX];simp[ho,dS]
 refine⟨_,s2,⟨_,dc,bT (gl kb),bG rfl,?_,hz⟩,aI,λj Z fz hj q=>?_⟩
 rcases hA with z|⟨id,b7,z2⟩
 exact bD z;refine bG ⟨id,b7,?_⟩;rw[bC];exact z2;rintro rfl;rw[kb] at z2;cases z2;rw[bC (e4 hj)];exact S _ _ _ q
def Qk(h:Am J k l)(hl:l.length<=100000000)(c):ct G bA 273 [.mp k 0,.v (.int .u8 (c.toNat:Int))] J λr bl=>Am bl k (l++[c])/\iY k J bl:=by
 refine aj5.go ?_;refine wy (cm (ae5 h) ?_);rintro _ g ⟨rfl,⟨bv,hB⟩,O⟩;obtain⟨cl,g2,e2,fM,bR,bJ,hk2⟩:=nc (x:=vB c) (cc:=1) hB.2.1 (Z9 l) rfl ag ag ah;have rU:de g2 cl ((l++[c]).map vB) 1 5:=aLx
 obtain⟨g3,ek,tT,GI⟩:=hB.put rU (λq=>by simp at q) (λj Z fz q=>hk2 _ _ q λxs z=>by
  rcases hB.2.1 with⟨q1,_⟩|⟨id,q1,bt⟩
  rw[q1] at z;cases z;rw[q1] at z;cases z;rw[q] at bt;cases bt) bJ
 unfold vB at e2;refine jE @hB.gk @e2 @ek ?_;exact⟨tT,O.trans GI⟩
def apM(h:Am J k l)(s)(hl:l.length+s.length<=100000000):ct G bA 271 [.mp k 0,bu s] J λr bl=>Am bl k (l++s)/\iY k J bl:=by
 refine aj4.go ?_;refine wy (cm (ae5 h) ?_);rintro _ g ⟨rfl,⟨bv,hB⟩,O⟩;have key:∃cl g2,B9 g 1 5 bv (bu s)=a_ (cl,g2)/\de g2 cl ((l++s).map vB) 1 5/\(l++s=[]->cl=.bq)/\g.length<=g2.length/\∀(j:Nat) Z fz,g[j]?=a_ (.cells Z fz)->g2[j]?=a_ (.cells Z fz):=by
  rcases s with _|⟨c,s⟩
  refine⟨bv,g,?_,by rw[fZ];exact hB.2.1,by rw[fZ];exact hB.2.2,b_ _,λ_ _ _ q=>q⟩
  rcases hB.2.1 with⟨rfl,_⟩|⟨id,rfl,_⟩<;>rfl
  have O:Gb ⟨⟨c::s⟩⟩=(c::s).map vB:=rfl;have hz:(⟨⟨c::s⟩⟩:ByteArray).size≠0:=by show(c::s).length≠0;simp
  rcases hB.2.1 with⟨rfl,e⟩|⟨id,rfl,S⟩
  have:l=[]:=aMX
  subst this;refine⟨.sl ((c::s).map vB) (.tok g.length),g++[.tok (c::s).length 1 5],?_,bG ⟨g.length,rfl,af⟩,af,af,λ_ _ _ q=>bU q⟩;have hf:((c::s).map vB).length*1<=140737488355328:=by simp at hl⊢;omega
  simp only[B9,bu,hz,if_false,iI,O,w_,if_true];rw[if_pos hf];simp;have c6:=gl S;refine⟨.sl ((l++c::s).map vB) (.tok id),g.set id (.tok (l++c::s).length 1 5),?_,bG ⟨id,rfl,by rw[bT c6];simp⟩,af,af,λj Z fz q=>?_⟩;have hf:((l.map vB).length+((c::s).map vB).length)*1<=140737488355328:=by simp at hl⊢;omega
  simp only[B9,bu,hz,if_false,iI,O,w_,if_true,Z9,true_and,S,and_self];rw[if_pos hf];simp;rw[bC];exact q;rintro rfl;rw[S] at q;cases q
 obtain⟨cl,g2,e2,rU,azg,bJ,hk2⟩:=key;obtain⟨g3,ek,tT,GI⟩:=hB.put rU azg hk2 bJ;refine mP @hB.gk @e2 @ek @yb ?_;exact⟨tT,O.trans GI⟩
def aHX(h:Am J k l)(hl:l.length<=100000000):ct G bA 272 [.mp k 0] J λr bl=>r=bu l/\bl=J:=by
 obtain⟨c0,bv,Y,_,h3,h4⟩:=h
 rcases h3 with⟨rfl,e⟩|⟨id,rfl,S⟩
 have:l=[]:=aMX
 subst this;exact aeS aq6 Y
 rcases l with _|⟨c,r⟩
 cases h4 rfl;rw[cS] at S;exact aeR aq6 Y S af aa
end
def afJ(n):(lZ 1 n).length<=2:=by
 unfold lZ;split;simp;simp[lZ]
@[go_sem]def adN{a b}(h:a.length+b.length<=1000000):dM .add (.v (.string ⟨⟨a⟩⟩)) (bu b)=a_ (bu (a++b)):=vT aa
@[go_sem]def LB{a b}(h:a.length+b.length<=1000000):dM .add (bu a) (.v (.string ⟨⟨b⟩⟩))=a_ (bu (a++b)):=vT aa
def aH5{G}{low high}(h0:0<=low)(Y:low<=20)(V:high= -1\/(1<=high/\high<=20)):dV G bA 274 [.v (.int .i64 low),.v (.int .i64 high)] λr=>∃t:List UInt8,r=bu t/\t.length<=8:=by
 obtain⟨n,rfl⟩:=pT h0;refine ep (ak3.go ?_);have fin:∀(J) (t),t.length<=8->∃n bS,dx J n (bu t)=a_ bS/\∃t:List UInt8,bS=bu t/\t.length<=8:=λJ t ht=>by
  obtain⟨n,hn⟩:=(bH _:b6 J (bu t) (bu t)).done;exact⟨n,_,hn,t,rfl,ht⟩
 have d1:=afJ n;have sp:cI G bA 204 [(n:Int)] (bu (lZ 1 n)):=abg n aa;have a1:dM .add (.v (.string ⟨[123].toArray⟩)) (bu (lZ 1 n))=a_ (bu ([123]++lZ 1 n)):=adN ah;have a2:dM .add (bu ([123]++lZ 1 n)) (.v (.string ⟨[125].toArray⟩))=a_ (bu ([123]++lZ 1 n++[125])):=LB ah;have a3:dM .add (bu ([123]++lZ 1 n)) (.v (.string ⟨[44,125].toArray⟩))=a_ (bu ([123]++lZ 1 n++[44,125])):=LB ah;have a4:dM .add (bu ([123]++lZ 1 n)) (.v (.string ⟨[44].toArray⟩))=a_ (bu ([123]++lZ 1 n++[44])):=LB ah
 rcases V with rfl|⟨g0,g1⟩
 · cases l9:((n:Int)==0)<;>cases iT:((n:Int)==1)<;>cases ain:((n:Int)== -1)
   all_goals
    refine wy ?_
    first
     |exact fin _ [42] ag
     |exact fin _ [43] ag
     |refine dD sp ?_
      refine jE @a1 @a2 @a3 ?_;exact fin _ _ (by simp<;>omega)
 · obtain⟨m,rfl⟩:=pT (show 0<=high by omega)
   have d2:=afJ m;have aGZ:cI G bA 204 [(m:Int)] (bu (lZ 1 m)):=abg m aa;have a5:dM .add (bu ([123]++lZ 1 n++[44])) (bu (lZ 1 m))=a_ (bu ([123]++lZ 1 n++[44]++lZ 1 m)):=vT ah;have a6:dM .add (bu ([123]++lZ 1 n++[44]++lZ 1 m)) (.v (.string ⟨[125].toArray⟩))=a_ (bu ([123]++lZ 1 n++[44]++lZ 1 m++[125])):=LB ah;have hm:((m:Int)== -1)=bf:=af
   cases l9:((n:Int)==0)<;>cases iT:((n:Int)==1)<;>cases XW:((m:Int)==1)<;>cases ain:((n)==(m:Int))
   all_goals
    refine qQ @l9 @iT @hm @XW @ain ?_
    first
     |exact fin _ [63] ag
     |refine dD sp ?_
      refine jE @a1 @a2 @a4 ?_
      first
       |exact fin _ _ (by simp<;>omega)
       |refine dD aGZ ?_
        refine nv @a5 @a6 ?_;exact fin _ _ (by simp<;>omega)
def aGH{G}{v}{l:List dJ}(hv:cC v (l.map nx))(fR:∀x∈l,x.cT)(hl:l.length<=100000):dV G bA 232 [v] λr=>∃t:List UInt8,r=bu t/\t.length<=14*l.length:=by
 refine ep (akH.go ?_);have ln:=hv.cH;rw[cS] at ln;refine wy ?_;refine dj (λi e J=>e=[(3,.mp 0 0),(6,v),(7,bp l.length),(8,bp i)]/\∃t,Am J 0 t/\t.length<=14*i) l.length ⟨rfl,[],⟨_,_,rfl,bD rfl,bD ⟨rfl,rfl⟩,λ_=>rfl⟩,af⟩ ?_ ?_
 · rintro i e J Q ⟨rfl,t0,ahm,x7⟩
   obtain⟨x,I⟩:=dW Q;have EO:=fR x (cz I);have e1:cx 5 v (i:Int)=a_ (.fp x.cells 0):=hv.cw (x:=x.bE) aA rfl;have e2:∀J,bz J bh 5 (.fp x.cells 0)=a_ (.agg x.cells):=λJ=>rfl;have s1:=zT J x;unfold iQ at s1;have gk:∀g:List br,g[J.length]?=a_ (.cells x.cells bf)->bz g bf 1 (.mp J.length 0)=a_ (.v (.int .i64 x.kind))/\bz g bf 1 (.mp J.length 2)=a_ (.v (.int .i64 x.low))/\bz g bf 1 (.mp J.length 3)=a_ (.v (.int .i64 x.high))/\bz g bf 1 (.mp J.length 4)=a_ (bu x.name):=λg q=>by
    simp only[bz,q];exact⟨rfl,rfl,rfl,rfl⟩
   have hm:(J++[bw x.cells bf])[J.length]?=a_ (.cells x.cells bf):=af
   have hB:Am (J++[bw x.cells bf]) 0 t0:=by
    obtain⟨c0,bv,b1,b2,b3,b4⟩:=ahm;refine⟨c0,bv,bU b1,b2,?_,b4⟩
    rcases b3 with z|⟨id,b7,z2⟩
    exact bD z;exact bG ⟨id,b7,bU z2⟩
   have nM:J.length≠0:=by
    obtain⟨_,_,b1,_⟩:=ahm;have:=gl b1;omega
   refine wy (cQ (λq=>?_) λq=>?_);refine wy (cQ (λbt=>?_) λbt=>?_);refine wy (cm (Qk hB aa 32) ?_);rintro r g3 ⟨hB,Cq⟩;have hm:=Cq.2 _ _ _ nM hm;have x7:(t0++[32]).length<=14*i+1:=ah
   all_goals
    refine wy ?_
    rcases EO.2 with⟨S,ua,_,_⟩|⟨S|S|S,_,_,_⟩|⟨S,_,z0,b7,z2⟩
    have hn:x.name.length<=12:=by
     simp only[vj,fh,decide_eq_true_eq] at ua;omega
    refine wy (cm (apM hB x.name aa) ?_);rintro r g4 ⟨Co,_⟩;refine wx ?_;exact⟨rfl,_,Co,ah⟩;refine wy (cm (Qk hB aa 40) ?_);rintro r g4 ⟨Co,_⟩;refine wx ?_;exact⟨rfl,_,Co,ah⟩;refine wy (cm (Qk hB aa 41) ?_);rintro r g4 ⟨Co,_⟩;refine wx ?_;exact⟨rfl,_,Co,ah⟩;refine wy (cm (Qk hB aa 124) ?_);rintro r g4 ⟨Co,_⟩;refine wx ?_;exact⟨rfl,_,Co,ah⟩;refine wy ?_;refine jG (aH5 z0 b7 aa) (bO (cP _) (bO (cP _) cG)) ?_;rintro r ⟨t2,rfl,No⟩;refine wy (cm (apM hB t2 aa) ?_);rintro r g4 ⟨Co,_⟩;refine wx ?_;exact⟨rfl,_,Co,ah⟩
 rintro e J ⟨rfl,t,hB,ht⟩;refine wy (cm (aHX hB aa) ?_);rintro _ g ⟨rfl,hh⟩;refine fI ?_;obtain⟨n,hn⟩:=(bH _:b6 g (bu t) (bu t)).done;exact⟨n,_,hn,t,rfl,ht⟩
section
variable{G:Cells}{v:bg}{ps:List cV}
def asz{k:Nat}(h:tJ v ps):∀(n i:Nat),i<n->i<ps.length->Vc G k v ps (i:Int):=by
 intro n
 induction n with
 |zero=>intro i Q;omega
 |succ n ih=>
  intro i Q hl;obtain⟨p,J⟩:=dW hl;refine aCv h J λx I=>?_;obtain⟨x0,x1⟩:=(h.ok i p J).2 x I;obtain⟨xn,rfl⟩:=pT x0;exact ih xn aa aa
def abp{x:Int}(hn:ps≠[])(h:qP ps ps.length [x]):x=((ps.length-1:Nat):Int):=by
 cases hl:ps.length with
 |zero=>exact absurd (arj.1 hl) hn
 |succ n=>
  rw[hl] at h;obtain⟨p,rA,_,_,e⟩:=h;have:rA=[]:=by
   have:=congrArg Du e;simp at this;exact this
  subst this;simpa using e
def We{l:List dJ}:∀x∈l.map nx,∀c∈x.cells,eT c:=λx I c T=>by
 obtain⟨s,_,rfl⟩:=dX.1 I;have:c∈s.cells:=T;simp only[iE,fc,pV,or_false] at this
 rcases this with rfl|rfl|rfl|rfl|rfl<;>exact cP _
def At(n:Nat)(r:bg):Prop:=∃t:List UInt8,r=bu t/\t.length<=n
def sP{J:List br}{n:Nat}{t:List UInt8}(ht:t.length<=n):∃m bS,dx J m (bu t)=a_ bS/\At n bS:=by
 obtain⟨m,hn⟩:=(bH _:b6 J (bu t) (bu t)).done;exact⟨m,_,hn,t,rfl,ht⟩
def aGF(cF:gu G)(h:tJ v ps):dV G bA 170 [v] (At 40000):=by
 refine ep (akc.go ?_);have ln:=h.v.cH;rw[cS] at ln;have cW:=h.len;refine wy ?_;refine dy (λq=>?_) λq=>?_;exact sP (t:=[]) ag;have bR:ps≠[]:=by rintro rfl;simp at q
 refine wy (jG (aoo cF h) (bO (Ge h) cG) ?_);rintro r ⟨b,rfl,O⟩;cases b with
 |false=>
  refine wy ?_;exact sP (t:=[]) ag
 |true=>
  obtain⟨x,I⟩:=(O rfl).resolve_left bR;have D:=abp bR I;have hs:=apI h.ok I;rw[D] at hs;simp only[fQ,kX,Aj,Iz] at hs
  have f1:dI [.bq,.bq] [(0,1,v)]=a_ [v,.bq]:=aLP
  have hS:qq 0 v [] .bq [.cells [v,.bq] bf]:=⟨rfl,bD ⟨rfl,rfl⟩,af⟩;refine wy (cm (asz h _ (ps.length-1) (yQ _) aa bf [] .bq _ hS ah) ?_);rintro r g ⟨l2,o2,b7,z2,z3⟩;rw[gd] at b7;obtain⟨v',y1,fW,mz⟩:=DQ b7.app We;refine wx ?_;refine eF (aGH y1 b7.ok aa) ?_;rintro r ⟨t,rfl,ht⟩;refine wy ?_;exact sP aa
end
def d_(n:Nat):bg:=.v (.int .u64 (n:Int))
def wd(B i:Nat):Nat:=(B>>>(64*i)) % 2^64
def Ut(B i):wd B i<18446744073709551616:=Nat.mod_lt _ ag
def Fs(B i j):(wd B i).testBit j=(decide (j<64)&&B.testBit (64*i+j)):=by
 unfold wd;rw[Nat.testBit_mod_two_pow,Nat.testBit_shiftRight]
def OT(A B i):wd (A|||B) i=wd A i|||wd B i:=by
 apply arz;intro j;rw[UX,Fs,Fs,Fs,UX];cases decide (j<64)<;>simp
def Us(A B i):wd (A&&&B) i=wd A i&&&wd B i:=by
 apply arz;intro j;rw[arB,Fs,Fs,Fs,arB];cases decide (j<64)<;>simp
def aIC(q r i)(D:r<64):wd (2^(64*q+r)) i=if i=q then 2^r else 0:=by
 apply arz;intro j;rw[Fs,acI];by_cases h:i=q;subst h;rw[if_pos rfl,acI];by_cases hj:r=j;subst hj;simp[D];have:¬(64*i+r=64*i+j):=aa
 simp[hj,this];rw[if_neg h,Nat.zero_testBit];by_cases hj:j<64;have:¬(64*q+r=64*i+j):=aa
 simp[this];simp[hj]
def Uu(B q r i)(D:r<64):wd (B|||2^(64*q+r)) i=if i=q then wd B i|||2^r else wd B i:=by
 rw[OT,aIC q r i D];split;rfl;rw[Nat.or_zero]
def LQ{x:Nat}(h:x<18446744073709551616):(Dn 64 (x)).toNat=x:=by
 rw[BitVec.toNat_ofInt];omega
@[go_sem]def anF{x y}(I:x<18446744073709551616)(hy:y<18446744073709551616):dM .or (d_ x) (d_ y)=a_ (d_ (x|||y)):=by
 have hz:x|||y<2^64:=Nat.or_lt_two_pow I hy
 unfold d_;rw[asd];show a_ (dh (.int .u64 (Iq.wrap ((Dn 64 (x)|||Dn 64 (y)).toNat:Int))))=_;rw[BitVec.toNat_or,LQ I,LQ hy,Fv];congr 3;omega
@[go_sem]def ad2{x y}(I:x<18446744073709551616)(hy:y<18446744073709551616):dM .and (d_ x) (d_ y)=a_ (d_ (x&&&y)):=by
 have hz:x&&&y<2^64:=Nat.and_lt_two_pow x hy;unfold d_;rw[ady];show a_ (dh (.int .u64 (Iq.wrap ((Dn 64 (x)&&&Dn 64 (y)).toNat:Int))))=_;rw[BitVec.toNat_and,LQ I,LQ hy,Fv];congr 3;omega
def bY(B:Nat):List bg:=[d_ (wd B 0),d_ (wd B 1),d_ (wd B 2),d_ (wd B 3)]
def cg(B:Nat):bg:=.agg (bY B)
def mE(B):eT (cg B):=Gh (n:=2) rfl
def zg(J)(B):b6 J (cg B) (cg B):=jO (bF (bH _) (bF (bH _) (bF (bH _) (bF (bH _) cZ))))
section
variable{G:Cells}
def azA(n:Nat)(h:n<256):cI G bA 245 [(n:Int)] bh:=by
 refine eA (akU.go ?_);have Y:decide ((0:Int)<=(n))=bh:=af
 have V:decide ((n:Int)<256)=bh:=ah
 exact wy ((bH _).done)
def aqp(B n:Nat)(h:n<256):cI G bA 187 [cg B,.v (.int .i64 (n))] (cg (B|||2^n)):=by
 refine eA (aks.go ?_);have uV:(cg B).cells=bY B:=rfl;refine wy ?_;refine dD (azA n h) ?_;obtain⟨q,r,D,hq,rfl⟩:∃q r,r<64/\q<4/\n=64*q+r:=⟨n/64,n % 64,Nat.mod_lt _ ag,aa,aa⟩;have s1:dM .shr (.v (.int .i64 ((64*q+r:Nat):Int))) (.v (.int .u64 6))=a_ (.v (.int .i64 (q))):=by
  rw[asf (k:=.i64) (a:=((64*q+r:Nat):Int)) (b:=6) .u64 ag];congr 3;show Int.fdiv ((64*q+r:Nat):Int) 64=_;rw[Int.fdiv_eq_ediv_of_nonneg _ ag];omega
 have s2:dM .and (.v (.int .i64 ((64*q+r:Nat):Int))) (.v (.int .i64 63))=a_ (.v (.int .i64 (r))):=by
  rw[ady];show a_ (dh (.int .i64 (cN.wrap ((Dn 64 ((64*q+r:Nat):Int)&&&Dn 64 63).toNat:Int))))=_;rw[BitVec.toNat_and,LQ aa];have auL:(Dn 64 63).toNat=2^6-1:=ag
  rw[auL,Nat.and_two_pow_sub_one_eq_mod,e6 aa aa];congr 3;omega
 have ek:IV .u64 (.v (.int .i64 (r)))=a_ (.v (.int .u64 (r))):=by
  rw[VA,Fv];congr 3;omega
 have J:2^r<18446744073709551616:=Nat.pow_lt_pow_right ag D;have jn:dM .shl (.v (.int .u64 1)) (.v (.int .u64 (r)))=a_ (d_ (2^r)):=by
  rw[ase (k:=.u64) (a:=1) (b:=(r)) .u64 aa];show a_ (dh (.int .u64 (Iq.wrap (1*2^(min (r:Int).toNat 64)))))=_;rw[wZ,FL aa,Fv];unfold d_;congr 3;have:(1:Int)*2^r=((2^r:Nat):Int):=af
  rw[this];generalize 2^r=z at J⊢;omega
 have ayE:q=0\/q=1\/q=2\/q=3:=aa
 have w0:=Uu B q r 0 D;have w1:=Uu B q r 1 D;have w2:=Uu B q r 2 D;have w3:=Uu B q r 3 D;have fin:∀(J) Z,Z=bY (B|||2^(64*q+r))->∃n,dx J n (.agg Z)=a_ (cg (B|||2^(64*q+r))):=λJ Z e=>by
  rw[e];exact(zg J _).done
 have Th:∀i,dM .or (d_ (wd B i)) (d_ (2^r))=a_ (d_ (wd B i|||2^r)):=λi=>anF (Ut B i) J
 rcases ayE with rfl|rfl|rfl|rfl
 have a1:kQ 4 1 (.mp 0 0) (.v (.int .i64 ((0:Nat):Int)))=a_ (.mp 0 0):=rfl;have o1:=Th 0;unfold d_ at o1 jn;refine mQ @bY.eq_1 @d_.eq_1 (fin _ _ ?_);unfold bY;rw[w0,w1,w2,w3];rfl;have a1:kQ 4 1 (.mp 0 0) (.v (.int .i64 ((1:Nat):Int)))=a_ (.mp 0 1):=rfl;have o1:=Th 1;unfold d_ at o1 jn;refine mQ @bY.eq_1 @d_.eq_1 (fin _ _ ?_);unfold bY;rw[w0,w1,w2,w3];rfl;have a1:kQ 4 1 (.mp 0 0) (.v (.int .i64 ((2:Nat):Int)))=a_ (.mp 0 2):=rfl;have o1:=Th 2;unfold d_ at o1 jn;refine mQ @bY.eq_1 @d_.eq_1 (fin _ _ ?_);unfold bY;rw[w0,w1,w2,w3];rfl;have a1:kQ 4 1 (.mp 0 0) (.v (.int .i64 ((3:Nat):Int)))=a_ (.mp 0 3):=rfl;have o1:=Th 3;unfold d_ at o1 jn;refine mQ @bY.eq_1 @d_.eq_1 (fin _ _ ?_);unfold bY;rw[w0,w1,w2,w3];rfl
end
section
variable{G:Cells}
def aEK{x y}(I:x<18446744073709551616)(hy:y<18446744073709551616):cI G bA 120 [d_ x,d_ y] (d_ (x|||y)):=by
 refine eA (ajT.go ?_);exact wx ((bH _).done)
def asH{x y}(I:x<18446744073709551616)(hy:y<18446744073709551616):cI G bA 279 [d_ x,d_ y] (d_ (x&&&y)):=by
 refine eA (ak7.go ?_);exact wx ((bH _).done)
def J8(op:Nat->Nat->Nat)(A B i:Nat):List bg:=[d_ (if 0<i then op (wd A 0) (wd B 0) else wd A 0),d_ (if 1<i then op (wd A 1) (wd B 1) else wd A 1),d_ (if 2<i then op (wd A 2) (wd B 2) else wd A 2),d_ (if 3<i then op (wd A 3) (wd B 3) else wd A 3)]
def aeE{f}{op}(hf:∀x y,x<18446744073709551616->y<18446744073709551616->cI G bA f [d_ x,d_ y] (d_ (op x y)))(A B):cI G bA 119 [cg A,cg B,.fn (.func f) [] []] (.agg (J8 op A B 4)):=by
 refine eA (ajS.go ?_);have uV:∀B,(cg B).cells=bY B:=λB=>rfl;have l0:bz [.cells (bY A) bf,.cells (bY B) bf,.cells [.v (.int .u64 0),.v (.int .u64 0),.v (.int .u64 0),.v (.int .u64 0)] bf] bh 4 (.mp 1 0)=a_ (cg B):=rfl;refine wy ?_;refine dj (λi e J=>e=[(2,.fn (.func f) [] []),(3,.mp 0 0),(6,.mp 2 0),(10,cg B),(11,bp i)]/\J=[.cells (J8 op A B i) bf,.cells (bY B) bf,.cells [.v (.int .u64 0),.v (.int .u64 0),.v (.int .u64 0),.v (.int .u64 0)] bf]) 4 ⟨rfl,rfl⟩ ?_ ?_;rintro i e J Q ⟨rfl,rfl⟩;have u1:=@bY.eq_1;have u2:=@d_.eq_1;have u3:=@J8.eq_1;have c1:decide ((i:Int)<4)=bh:=ah
 have a1:kQ 4 1 (.mp 0 0) (.v (.int .i64 i))=a_ (.mp 0 i):=by simp[kQ,k6];omega
 have T:i=0\/i=1\/i=2\/i=3:=aa
 have e1:DL bf 1 4 (cg B) (.v (.int .i64 i))=a_ (d_ (wd B i)):=by rcases T with rfl|rfl|rfl|rfl<;>rfl
 rcases T with rfl|rfl|rfl|rfl<;>(refine oq ?_;refine dD (hf _ _ (Ut A _) (Ut B _)) ?_;exact aIS)
 rintro e J ⟨rfl,rfl⟩;have c1:decide (((4:Nat):Int)<4)=bf:=rfl;exact aqD @bY.eq_1 @d_.eq_1 @J8.eq_1 ((jO (bF (bH _) (bF (bH _) (bF (bH _) (bF (bH _) cZ))))).done)
def Kg(A B):cI G bA 69 [cg A,cg B] (cg (A|||B)):=by
 refine eA (ajq.go ?_);have uV:∀B,(cg B).cells=bY B:=λB=>rfl;refine wx (h_ (aeE (λx y I hy=>aEK I hy) A B) (bO (mE _) (bO (mE _) (bO (afb _) cG))) ?_);refine wx ?_;have e:dG (J8 (· ||| ·) A B 4)=cg (A|||B):=by
  unfold cg bY;rw[OT,OT,OT,OT];rfl
 rw[e];exact(zg _ _).done
def asG(A B):cI G bA 249 [cg A,cg B] (cg (A&&&B)):=by
 refine eA (akY.go ?_);have uV:∀B,(cg B).cells=bY B:=λB=>rfl;refine wx (h_ (aeE (λx y I hy=>asH I hy) A B) (bO (mE _) (bO (mE _) (bO (afb _) cG))) ?_);refine wx ?_;have e:dG (J8 (· &&& ·) A B 4)=cg (A&&&B):=by
  unfold cg bY;rw[Us,Us,Us,Us];rfl
 rw[e];exact(zg _ _).done
def fX(l:List Nat):Nat:=l.foldl (λB n=>B|||2^n) 0
def ZZ{v}{l}(hv:cC v (l.map λn:Nat=>bp (n)))(hl:∀n∈l,n<256)(hn:l.length<=100000):cI G bA 115 [v] (cg (fX l)):=by
 refine eA (ajO.go ?_);have ln:=hv.cH;rw[cS] at ln;refine wy ?_;refine dj (λi e J=>e=[(2,.mp 0 0),(3,.mp 1 0),(6,v),(7,bp l.length),(8,bp i)]/\J=[.cells [.v (.int .u64 0),.v (.int .u64 0),.v (.int .u64 0),.v (.int .u64 0)] bf,.cells (bY (fX (l.take i))) bf]) l.length ⟨rfl,by simp[fX,bY,d_,wd]⟩ ?_ ?_;rintro i e J Q ⟨rfl,rfl⟩;obtain⟨x,I⟩:=dW Q;have ay8:=hl x (cz I);have e1:cx 1 v (i:Int)=a_ (.fp [bp x] 0):=hv.cw (x:=bp x) aA rfl;have l1:bz [.cells [.v (.int .u64 0),.v (.int .u64 0),.v (.int .u64 0),.v (.int .u64 0)] bf,.cells (bY (fX (l.take i))) bf] bh 4 (.mp 1 0)=a_ (cg (fX (l.take i))):=rfl
 have auO:fX (l.take (i+1))=fX (l.take i)|||2^x:=by
  unfold fX;rw[yP,I];simp
 have s1:bL [.cells [.v (.int .u64 0),.v (.int .u64 0),.v (.int .u64 0),.v (.int .u64 0)] bf,.cells (bY (fX (l.take i))) bf] 4 (.mp 1 0) (cg (fX (l.take i)|||2^x))=a_ [.cells [.v (.int .u64 0),.v (.int .u64 0),.v (.int .u64 0),.v (.int .u64 0)] bf,.cells (bY (fX (l.take i)|||2^x)) bf]:=rfl;refine wy (h_ (aqp _ x ay8) (bO (mE _) (bO (cP _) cG)) ?_);rw[auO];refine wx ?_
 first
  |exact⟨rfl,trivial⟩
  |exact⟨rfl,rfl⟩
 rintro e J ⟨rfl,rfl⟩;rw[oW];have l1:bz [.cells [.v (.int .u64 0),.v (.int .u64 0),.v (.int .u64 0),.v (.int .u64 0)] bf,.cells (bY (fX l)) bf] bh 4 (.mp 1 0)=a_ (cg (fX l)):=rfl;have s1:bL [.cells [.v (.int .u64 0),.v (.int .u64 0),.v (.int .u64 0),.v (.int .u64 0)] bf,.cells (bY (fX l)) bf] 4 (.mp 0 0) (cg (fX l))=a_ [.cells (bY (fX l)) bf,.cells (bY (fX l)) bf]:=rfl;have l2:bz [.cells (bY (fX l)) bf,.cells (bY (fX l)) bf] bh 4 (.mp 0 0)=a_ (cg (fX l)):=rfl;exact wy ((zg _ _).done)
end
def auv{x}(h:x≠0)(I:x<18446744073709551616):x.testBit (FE 64 x)=bh/\FE 64 x<64:=by
 unfold FE;rw[if_neg h];obtain⟨m,Y,V⟩:=Lib.ctzFrom_spec 64 x aa I;refine⟨?_,V⟩;generalize Lib.ctzFrom 64 x=c at Y V;rw[Y,Nat.testBit_two_pow_mul];simp
def Zo{x}(h:x≠0):x&&&(x-1)<x:=Nat.lt_of_le_of_lt Nat.and_le_right aa
def AN(x:Nat):List Nat:=if h:x=0 then [] else FE 64 x::AN (x&&&(x-1))
termination_by x
decreasing_by exact Zo h
def auR:AN 0=[]:=by rw[AN,dif_pos rfl]
def auQ{x}(h:x≠0):AN x=FE 64 x::AN (x&&&(x-1)):=by rw[AN,dif_neg h]
def L9(B:Nat):Nat->List Nat
 |0=>[]
 |i+1=>L9 B i++(AN (wd B i)).map (64*i+ ·)
def AM(B:Nat):List Nat:=L9 B 4
section
variable{G:Cells}
def LF(B)(J):ct G bA 70 [cg B] J λr bl=>r=.fn (.func 121) [] [.mp J.length 0]/\bl=J++[.cells (bY B) bf]:=by
 refine ajr.go ?_;have uV:(cg B).cells=bY B:=rfl;exact wx tt
def LG(cF:gu G){y}{Inv:List Nat->List br->Prop}{Stop:List br->Prop}{B kb:Nat}{J}
  (mG:∀done p J,Inv done J->B.testBit p=bh->p<256->j4 G bA y [(p:Int)] J λr bl=>∃c:Bool,r=c/\(c=bh->Inv (done++[p]) bl)/\(c=bf->Stop bl))
  (O:J[kb]?=a_ (.cells (bY B) bf)) (h0:Inv [] J):ct G bA 121 [y,.mp kb 0] J λr bl=>r=.bQ []/\(Inv (AM B) bl\/Stop bl):=by
 refine ajU.go ?_;have l0:bz J bh 4 (.mp kb 0)=a_ (cg B):=by simp only[bz,O];rfl
 refine wy ?_;refine dj (λi e J=>e=[(0,y),(6,cg B),(7,bp i)]/\Inv (L9 B i) J) 4 ⟨rfl,h0⟩ ?_ ?_;rintro i e J Q ⟨rfl,hI⟩;have e1:DL bf 1 4 (cg B) (i:Int)=a_ (d_ (wd B i)):=by
  have T:i=0\/i=1\/i=2\/i=3:=aa
  rcases T with rfl|rfl|rfl|rfl<;>rfl
 have c1:decide ((i:Int)<4)=bh:=ah
 refine wy ?_;refine oo (λm e J=>∃pre,m<18446744073709551616/\e=[(0,y),(3,(i:Int)),(4,d_ m),(6,cg B),(7,(i:Int))]/\AN (wd B i)=pre++AN m/\(∀j,m.testBit j=bh->(wd B i).testBit j=bh)/\Inv (L9 B i++pre.map (64*i+ ·)) J) ⟨[],Ut B i,rfl,rfl,λj h=>h,by rw[kX,fZ];exact hI⟩ ?_;rintro m e J ⟨pre,hm,rfl,q8,ahG,ahs⟩;refine iD @d_.eq_1 (cQ (λq=>?_) λq=>?_);have nM:m≠0:=by rintro rfl;simp at q
 obtain⟨t1,t2⟩:=auv nM hm;have w1:cN.wrap (64*(i))=((64*i:Nat):Int):=by rw[e6 aa aa];omega
 have hB:B.testBit (64*i+FE 64 m)=bh:=by
  have:=ahG _ t1;rw[Fs] at this;simp at this;exact this.2
 refine wy ?_;refine dD (apt cF m hm) ?_;have w3:Iq.wrap ((m)-1)=((m-1:Nat):Int):=by rw[Fv];omega
 have a1:=ad2 hm (show m-1<18446744073709551616 by omega);unfold d_ at a1;refine wy (wX (mG _ _ _ ahs hB aa) ?_);rintro _ g ⟨c,rfl,k1,k2⟩;cases c with
 |false=>
  refine fI ?_;exact⟨trivial,bG (k2 rfl)⟩
 |true=>
  refine nv @w3 @a1 ?_;refine⟨m&&&(m-1),Zo nM,pre++[FE 64 m],Nat.lt_trans (Zo nM) hm,rfl,?_,λj hj=>?_,?_⟩;rw[q8,auQ nM];simp;rw[arB] at hj;simp only[fh] at hj;exact ahG j hj.1;have:=k1 rfl;rw[gz,<-dN];exact this
 have nM:m=0:=au
 subst nM;refine wx ?_;rw[auR,fZ] at q8;refine⟨rfl,?_⟩;show Inv (L9 B i++(AN (wd B i)).map (64*i+ ·)) J;rw[q8];exact ahs;rintro e J ⟨rfl,hI⟩;have c1:decide (((4:Nat):Int)<4)=bf:=rfl;refine nv @bp.eq_1 @c1 ?_;exact⟨trivial,bD hI⟩
end
def fL:List Nat->List bg
 |[]=>[]
 |B::r=>bY B++fL r
def F9(B):(bY B).length=4:=rfl
def AT:∀l:List Nat,(fL l).length=l.length*4
 |[]=>rfl
 |B::r=>by
  show(bY B++fL r).length=_;rw[dO,AT r,F9,eB];omega
def agv:∀(l m),fL (l++m)=fL l++fL m
 |[],_=>rfl
 |B::r,m=>by
  show bY B++fL (r++m)=bY B++fL r++fL m;rw[agv r m,dN]
def Q_:∀{l} {p B},l[p]?=a_ B->((fL l).drop (p*4)).take 4=bY B
 |[],p,B,h=>av
 |A::r,0,B,h=>by
  simp at h;subst h;show(List.drop (0*4) (bY A++fL r)).take 4=_;rw[Nat.zero_mul,pU,US (by rw[F9];omega),ow (by rw[F9];omega)]
 |A::r,p+1,B,h=>by
  have:=Q_ aW;show(List.drop ((p+1)*4) (bY A++fL r)).take 4=_;rw[show(p+1)*4=(bY A).length+p*4 by rw[F9];omega,<-uD,List.drop_left'];exact this;rfl
@[go_sem]def Ra:∀{l} {p B},p<l.length->dS (fL l) (p*4) (bY B)=fL (l.set p B)
 |[],p,B,h=>av
 |A::r,0,B,h=>rfl
 |A::r,p+1,B,h=>by
  have:=Ra (B:=B) aW;unfold dS at this⊢;show List.take ((p+1)*4) (bY A++fL r)++bY B++List.drop ((p+1)*4+(bY B).length) (bY A++fL r)=bY A++fL (r.set p B);rw[show(p+1)*4=(bY A).length+p*4 by rw[F9];omega,aJk,mB,arf,<-this];simp only[dN]
def ans(B):(bY B).all cq=bh:=rfl
def yZ(J:List br)(v:bg)(l:List Nat):Prop:=(v=.bq/\l=[])\/∃k,v=.rs k (fL l).length 4 0 l.length/\J[k]?=a_ (.cells (fL l) bh)
section
variable{J:List br}{v:bg}{l:List Nat}{p B:Nat}
def yZ.at(h:yZ J v l)(hB:l[p]?=a_ B):∃k,v=.rs k (fL l).length 4 0 l.length/\J[k]?=a_ (.cells (fL l) bh)/\cx 4 v (p:Int)=a_ (.rp k (fL l).length (p*4))/\bz J bh 4 (.rp k (fL l).length (p*4))=a_ (cg B):=by
 have c6:=gl hB
 rcases h with⟨_,rfl⟩|⟨k,rfl,S⟩
 simp at hB;refine⟨k,rfl,S,aaT c6,?_⟩;have Y:=Q_ hB;have V:=AT l;simp only[bz,S,if_true];unfold e9;rw[if_pos rfl,if_pos aa,Y];rfl
@[go_sem]def yZ.st{k}(S:J[k]?=a_ (.cells (fL l) bh))(c6:p<l.length)(B):bL J 4 (.rp k (fL l).length (p*4)) (cg B)=a_ (J.set k (.cells (fL (l.set p B)) bh)):=by
 have V:=AT l;simp only[bL,S,if_true,fu];have e1:(cg B).cells=bY B:=rfl;rw[e1,if_pos ⟨rfl,aa,ans B⟩,Ra c6]
end
def rowAt(v:bg)(j:Nat):Prop:=∃m l,v=.rs j m 4 0 l
def BL(v:bg)(j:Nat):Prop:=∃xs,v=.sl xs (.tok j)
structure gJ(kn:Nat)(u v:bg)(J:List br)(u' v':bg)(bl:List br):Prop where
 len:J.length<=bl.length
 keep:∀(j:Nat) b,J[j]?=a_ b->j≠kn->¬rowAt v j->¬BL u j->bl[j]?=a_ b
 row:∀j,rowAt v' j->rowAt v j\/J.length<=j
 tok:∀j,BL u' j->BL u j\/J.length<=j
def gJ.refl(kn)(u v)(J):gJ kn u v J u v J:=⟨b_ _,λ_ _ h _ _ _=>h,λ_ h=>bD h,λ_ h=>bD h⟩
def gJ.trans{kn}{a b c a2 b2 c2}{x y z}(h:gJ kn a2 a x b2 b y)(k:gJ kn b2 b y c2 c z):gJ kn a2 a x c2 c z:=by
 refine⟨ig h.len k.len,λj d hj Y V h3=>k.keep j d (h.keep j d hj Y V h3) Y (λq=>?_) (λq=>?_),λj q=>?_,λj q=>?_⟩;have:=gl hj
 rcases h.row j q with z|z
 exact V z;omega;have:=gl hj
 rcases h.tok j q with z|z
 exact h3 z;omega
 rcases k.row j q with z|z
 exact h.row j z;have:=h.len;right;omega
 rcases k.tok j q with z|z
 exact h.tok j z;have:=h.len;right;omega
def gJ.app{kn}{u v}{J l}:gJ kn u v J u v (J++l):=⟨af,λ_ _ h _ _ _=>bU h,λ_ h=>bD h,λ_ h=>bD h⟩
structure fE(kn:Nat)(z:List bg)(on cy:List Nat)(bx bv:bg)(J:List br):Prop where
 b:J[kn]?=a_ (.cells (bx::bv::z) bf)
 on:de J bx (on.map cg) 4 152
 cy:yZ J bv cy
def fE.ext{kn}{z}{on cy}{bx bv}{J bl}(h:fE kn z on cy bx bv J)(S:∀(j:Nat) Z fz,J[j]?=a_ (.cells Z fz)->bl[j]?=a_ (.cells Z fz))(ht:∀(j:Nat) c,J[j]?=a_ (.tok c 4 152)->bl[j]?=a_ (.tok c 4 152)):fE kn z on cy bx bv bl:=by
 refine⟨S _ _ _ h.b,?_,?_⟩
 rcases h.on with q|⟨id,q1,bt⟩
 exact bD q;exact bG ⟨id,q1,ht _ _ bt⟩
 rcases h.cy with q|⟨k,q1,bt⟩
 exact bD q;exact bG ⟨k,q1,S _ _ _ bt⟩
def qe(cy:List Nat)(N:Nat)(l:List Nat):List Nat:=l.foldl (λb p=>b.set p ((b[p]?.getD 0)|||N)) cy
def Hu(N):∀(l cy),(qe cy N l).length=cy.length
 |[],_=>rfl
 |p::r,cy=>by
  show(qe (cy.set p _) N r).length=_;rw[Hu N r];simp
def aC7(cy)(N)(l)(p):qe cy N (l++[p])=(qe cy N l).set p (((qe cy N l)[p]?.getD 0)|||N):=by
 unfold qe;rw[List.foldl_append];rfl
def amj{G}(cF:gu G){kn}{z}{on cy}{bx bv}{J}(h:fE kn z on cy bx bv J)(A N)(hA:∀p,A.testBit p=bh->p<256->p<cy.length):
  ct G bA 247 [.mp kn 0,cg A,cg N] J λr bl=>fE kn z on (qe cy N (AM A)) bx bv bl/\gJ kn bx bv J bx bv bl:=by
 refine akW.go ?_;have uV:∀B,(cg B).cells=bY B:=λB=>rfl;have la:bz (J++[.cells [.mp kn 0] bf]++[.cells (bY A) bf]++[.cells (bY N) bf]) bh 4 (.mp (J++[bw [.mp kn 0] bf]).length 0)=a_ (cg A):=by
  simp only[bz,dN,dO,fJ (show J.length<=J.length+1 by omega),Px,eB,gR,jy,gd];rfl
 have hY:(c8 kn 0).cells=[.mp kn 0]:=rfl;refine wy (cm (LF A _) ?_);rintro _ g ⟨rfl,rfl⟩;refine wy ?_;rw[BN];refine⟨_,_,_,rfl,λk S bW ok hR=>?_⟩;generalize hH:J++[bw [c8 kn 0] bf]++[bw (bY A) bf]++[bw (bY N) bf]++[bw (bY A) bf]++marks bf=H at S⊢;have aJ3:H.length=J.length+5:=by rw[<-hH];simp[marks]
 have ext:∀(j) b,J[j]?=a_ b->H[j]?=a_ b:=λj b q=>by rw[<-hH];exact bU (bU (bU (bU (bU q))))
 have f3:H[J.length]?=a_ (.cells [.mp kn 0] bf):=by rw[<-hH];simp[marks]
 have f5:H[J.length+2]?=a_ (.cells (bY N) bf):=by rw[<-hH];simp[marks,dN]
 have f6:H[J.length+3]?=a_ (.cells (bY A) bf):=by rw[<-hH];simp[marks,dN]
 clear hH la;simp only[dO,eB,gR,gA,mB,vH] at hR⊢;subst S;refine cm (LG cF (Stop:=λ_=>False) (Inv:=λdone g=>g[H.length]?=a_ (.ck .ready bn bW #[9] ok)/\fE kn z on (qe cy N done) bx bv g/\g[J.length]?=a_ (.cells [.mp kn 0] bf)/\g[J.length+2]?=a_ (.cells (bY N) bf)/\gJ kn bx bv J bx bv g) ?_ (bU f6) ⟨af,?_,bU f3,bU f5,?_⟩) ?_
 · rintro done p g ⟨hl,hN,g3,g5,hs⟩ O R5
   refine hR [_] g _ rfl ⟨bn,hl⟩ ?_;have se:vr [(3,c8 J.length 0),(5,c8 (J.length+2) 0),(8,bg.fn (wY 121) [] [c8 (J.length+3) 0])] (List.zip [9] [dh (yL cN (p))])=[(9,dh (yL cN (p))),(3,c8 J.length 0),(5,c8 (J.length+2) 0),(8,bg.fn (wY 121) [] [c8 (J.length+3) 0])]:=rfl;rw[se];refine fI ?_;refine⟨⟨bn,hl⟩,λgG=>?_⟩;have c6:p<(qe cy N done).length:=by rw[Hu];exact hA p O R5
   obtain⟨B,hB⟩:=dW c6;have ax2:=gl hl;have ne:∀{j} {Z} {fz},g[j]?=a_ (.cells Z fz)->H.length≠j:=λq e=>by
    rw[<-e,hl] at q;cases q
   have NX:∀{j c},g[j]?=a_ (.tok c 4 152)->H.length≠j:=λq e=>by
    rw[<-e,hl] at q;cases q
   have jA:fE kn z on (qe cy N done) bx bv (g.set H.length (.ck .busy gG bW #[9] ok)):=
    hN.ext (λj Z fz q=>aNf) λj c q=>aNg
   have bV:(g.set H.length (.ck .busy gG bW #[9] ok))[J.length]?=a_ (.cells [.mp kn 0] bf):=by rw[bC (ne g3)];exact g3
   have iN:(g.set H.length (.ck .busy gG bW #[9] ok))[J.length+2]?=a_ (.cells (bY N) bf):=by rw[bC (ne g5)];exact g5
   have q9:gJ kn bx bv J bx bv (g.set H.length (.ck .busy gG bW #[9] ok)):=⟨by simpa using hs.len,λj b hj Y V h3=>by
    have:=gl hj;rw[bC aa];exact hs.keep j b hj Y V h3,hs.row,hs.tok⟩
   have jC:(g.set H.length (.ck .busy gG bW #[9] ok))[H.length]?=a_ (.ck .busy gG bW #[9] ok):=bT ax2;generalize g.set H.length (.ck .busy gG bW #[9] ok)=g' at jA bV iN q9 jC⊢;obtain⟨kb,hv,sX,r1,r2⟩:=jA.cy.at hB;have s1:=yZ.st sX c6 (B|||N);have l3:=fG bV;have lb:bz g' bf 1 (.mp kn 1)=a_ bv:=by simp only[bz,jA.b];rfl
   have EY:bz g' bh 4 (.mp (J.length+2) 0)=a_ (cg N):=by simp only[bz,iN];rfl
   refine wT @l3 @lb @r1 @r2 @EY @qL.eq_1 @r_.eq_1 @true_and @and_true (h_ (Kg B N) (bO (mE _) (bO (mE _) cG)) ?_);refine lT @l3 @lb @r1 @s1 @oh ?_;have auN:(qe cy N (done++[p]))=(qe cy N done).set p (B|||N):=by rw[aC7,hB];rfl
   have Bg:kb≠kn:=by rintro rfl;rw[jA.b] at sX;simp at sX
   have Bf:kb≠H.length:=by rintro rfl;rw[jC] at sX;cases sX
   have ax3:=gl sX;have aJ4:=gl jC;show(∃st pd,_=_)/\_;refine⟨⟨.busy,gG,by rw[bC Bf];exact jC⟩,bh,rfl,λ_=>⟨?_,?_,?_,?_,?_⟩,λq=>ax⟩;rw[bT ah];rw[auN];refine⟨?_,?_,bG ⟨kb,?_,?_⟩⟩;rw[bC (by intro e;have:=jA.b;rw[<-e,jC] at this;cases this),bC Bg];exact jA.b
   rcases jA.on with q|⟨id,q1,bt⟩
   exact bD q;refine bG ⟨id,q1,?_⟩;rw[bC (by rintro rfl;rw[jC] at bt;cases bt),bC (by rintro rfl;rw[sX] at bt;cases bt)];exact bt;rw[hv,AT,AT];simp;rw[bC (e4 Bf),bT ax3];rw[bC aa,bC (by rintro rfl;rw[bV] at sX;simp at sX)];exact bV;rw[bC aa,bC (by rintro rfl;rw[iN] at sX;simp at sX)];exact iN;refine⟨by simpa using q9.len,λj b hj Y V h3=>?_,λj q=>bD q,λj q=>bD q⟩;have:=gl hj;rw[bC aa,bC (by rintro rfl;exact V ⟨_,_,hv⟩)];exact q9.keep j b hj Y V h3
 refine h.ext (λj Z fz q=>bU (ext _ _ q)) λj c q=>bU (ext _ _ q);exact⟨ah,λj b q _ _ _=>bU (ext _ _ q),λj q=>bD q,λj q=>bD q⟩;rintro r g ⟨rfl,⟨hl,hN,g3,g5,hs⟩|hf⟩;refine⟨.ready,bn,hl,ag,?_⟩;refine e3 @Bt.eq_1 ?_;rw[aaO];intro g2 he;have ne:∀{j} {Z} {fz},g[j]?=a_ (.cells Z fz)->H.length≠j:=λq e=>by
  rw[<-e,hl] at q;cases q
 have NX:∀{j c},g[j]?=a_ (.tok c 4 152)->H.length≠j:=λq e=>by
  rw[<-e,hl] at q;cases q
 have kp:∀(j:Nat) b,(∀o,b≠.obj o)->(g.set H.length (.ck .exhausted bn bW #[9] ok))[j]?=a_ b->g2[j]?=a_ b:=λj b O q=>by
  rcases he.2 j with z|⟨_,z,_⟩
  rw[z];exact q;rw[z] at q;cases q;exact absurd rfl (O _)
 refine wy ?_;refine⟨hN.ext (λj Z fz q=>kp j _ af aNf) (λj c q=>kp j _ af aNg),?_,λj b hj Y V h3=>?_,λj q=>bD q,λj q=>bD q⟩;rw[he.1];simpa using hs.len;have mb:=gl hj
 rcases he.2 j with z|⟨z,_,_⟩
 rw[z,bC aa];exact hs.keep j b hj Y V h3;omega;exact hf.elim
open Go.Proofs.YtpcfoeagojdmdaaGreatDoor.gJ renaming app->uB
def b8(F E:Nat)(e:Bool):List bg:=[d_ (wd F 0),d_ (wd F 1),d_ (wd F 2),d_ (wd F 3),d_ (wd E 0),d_ (wd E 1),d_ (wd E 2),d_ (wd E 3),e]
def kW(F E:Nat)(e:Bool):bg:=.agg (b8 F E e)
def z9:List bg:=[.v (.int .u64 0),.v (.int .u64 0),.v (.int .u64 0),.v (.int .u64 0),.v (.int .u64 0),.v (.int .u64 0),.v (.int .u64 0),.v (.int .u64 0),bf]
section
variable{X:List br}{m F E:Nat}{e:Bool}
@[go_sem]def iM(h:X[m]?=a_ (.cells (b8 F E e) bf)):bz X bh 4 (.mp m 0)=a_ (cg F)/\bz X bh 4 (.mp m 4)=a_ (cg E)/\bz X bf 1 (.mp m 8)=a_ (.v (.bool e))/\bz X bh 9 (.mp m 0)=a_ (kW F E e):=by
 simp only[bz,h];exact⟨rfl,rfl,rfl,rfl⟩
@[go_sem]def aam(h:X[m]?=a_ (.cells (b8 F E e) bf))(F'):bL X 4 (.mp m 0) (cg F')=a_ (X.set m (.cells (b8 F' E e) bf)):=by
 simp only[bL,h];rfl
@[go_sem]def aan(h:X[m]?=a_ (.cells (b8 F E e) bf))(E'):bL X 4 (.mp m 4) (cg E')=a_ (X.set m (.cells (b8 F E' e) bf)):=by
 simp only[bL,h];rfl
@[go_sem]def anN(h:X[m]?=a_ (.cells (b8 F E e) bf))(e'):bL X 1 (.mp m 8) (.v (.bool e'))=a_ (X.set m (.cells (b8 F E e') bf)):=by
 simp only[bL,h];rfl
@[go_sem]def yg(h:X[m]?=a_ (.cells z9 bf))(F' E')(e'):bL X 9 (.mp m 0) (kW F' E' e')=a_ (X.set m (.cells (b8 F' E' e') bf)):=by
 simp only[bL,h];rfl
@[go_sem]def Oh(h:X[m]?=a_ (.cells (b8 F E e) bf))(F' E')(e'):bL X 9 (.mp m 0) (kW F' E' e')=a_ (X.set m (.cells (b8 F' E' e') bf)):=by
 simp only[bL,h];rfl
end
def gJ.own{kn}{u v u' v'}{J bl}(h:gJ kn u v J u' v' bl){j}{Z}{fz}(hj:J[j]?=a_ (.cells Z fz))(Y:j≠kn)(V:¬rowAt v j)(h3:¬BL u j):bl[j]?=a_ (.cells Z fz):=h.keep j _ hj Y V h3
def P_{J}{v}{xs}{n}{e}(h:de J v xs n e){j}(hj:J.length<=j):¬BL v j:=λ⟨ys,e⟩=>by
 rcases h with⟨q,_⟩|⟨id,q,S⟩
 rw[q] at e;cases e;rw[q] at e;have:=gl S;cases e;omega
def yZ.low{J}{v}{l}(h:yZ J v l){j}(hj:J.length<=j):¬rowAt v j:=λ⟨m,n,e⟩=>by
 rcases h with⟨q,_⟩|⟨k,q,S⟩
 rw[q] at e;cases e;rw[q] at e;have:=gl S;cases e;omega
def gJ.iu{kn}{u v u' v'}{J bl}{j}{x}(h:gJ kn u v J u' v' bl)(hj:J.length<=j):gJ kn u v J u' v' (bl.set j x):=⟨by simpa using h.len,λi b Q Y V h3=>by
 have:=gl Q;rw[bC aa];exact h.keep i b Q Y V h3,h.row,h.tok⟩
def fE.iu{kn}{z}{on cy}{bx bv}{J}{j}{Z cs'}(h:fE kn z on cy bx bv J)(hj:J[j]?=a_ (.cells Z bf))(S:j≠kn):fE kn z on cy bx bv (J.set j (.cells cs' bf)):=by
 refine⟨by rw[bC S];exact h.b,?_,?_⟩
 rcases h.on with q|⟨id,q1,bt⟩
 exact bD q;refine bG ⟨id,q1,?_⟩;rw[bC (by rintro rfl;rw[hj] at bt;cases bt)];exact bt
 rcases h.cy with q|⟨k,q1,bt⟩
 exact bD q;refine bG ⟨k,q1,?_⟩;rw[bC (by rintro rfl;rw[hj] at bt;simp at bt)];exact bt
def fE.app{kn}{z}{on cy}{bx bv}{J x}(h:fE kn z on cy bx bv J):fE kn z on cy bx bv (J++x):=h.ext (λ_ _ _ q=>bU q) λ_ _ q=>bU q
def Sn{G}(cF:gu G){kn}{z}{on cy}{bx bv}{J}(h:fE kn z on cy bx bv J)(gC kP j8 gD)(ae be)(hA:∀p,kP.testBit p=bh->p<256->p<cy.length):
  ct G bA 194 [.mp kn 0,kW gC kP ae,kW j8 gD be] J λr bl=>r=kW (if ae then gC|||j8 else gC) (if be then gD|||kP else gD) (ae&&be)/\fE kn z on (qe cy j8 (AM kP)) bx bv bl/\gJ kn bx bv J bx bv bl:=by
 refine akz.go ?_;have uV:∀F E e,(kW F E e).cells=b8 F E e:=λF E e=>rfl;have eP:=gl h.b;have Y:fE kn z on cy bx bv (J++[.cells (b8 gC kP ae) bf]++[.cells (b8 j8 gD be) bf]++[.cells z9 bf]):=h.app.app.app;have s1:gJ kn bx bv J bx bv (J++[.cells (b8 gC kP ae) bf]++[.cells (b8 j8 gD be) bf]++[.cells z9 bf]):=(uB.trans uB).trans uB;have m4:(J++[.cells (b8 gC kP ae) bf]++[.cells (b8 j8 gD be) bf]++[bw z9 bf])[J.length]?=a_ (.cells (b8 gC kP ae) bf):=af
 have m5:(J++[.cells (b8 gC kP ae) bf]++[.cells (b8 j8 gD be) bf]++[bw z9 bf])[J.length+1]?=a_ (.cells (b8 j8 gD be) bf):=aLM
 have m6:(J++[.cells (b8 gC kP ae) bf]++[.cells (b8 j8 gD be) bf]++[bw z9 bf])[J.length+2]?=a_ (.cells z9 bf):=aLM
 generalize hg:J++[.cells (b8 gC kP ae) bf]++[.cells (b8 j8 gD be) bf]++[bw z9 bf]=g at Y s1 m4 m5 m6;unfold z9 at hg;refine Dh @dO.{0} ((iM m4).2.1) ((iM m5).1) ?_;refine cm (amj cF Y kP j8 hA) ?_;rintro r g2 ⟨V,s2⟩;have n4:=s2.own m4 aa (h.cy.low (b_ _)) (P_ h.on (b_ _));have jR:=s2.own m5 aa (h.cy.low aa) (P_ h.on aa);have HA:=s2.own m6 aa (h.cy.low aa) (P_ h.on aa);obtain⟨a0,a1,a2,a3⟩:=iM n4;obtain⟨b0,b1,b2,b3⟩:=iM jR;have hs:=s1.trans s2;have kU:g.length=J.length+3:=by rw[<-hg];simp
 have l_:J.length+3<=g2.length:=by have:=s2.len;omega
 have h3:fE kn z on (qe cy j8 (AM kP)) bx bv (g2++[.cells (b8 gC gD (ae&&be)) bf]):=V.app;have x6:gJ kn bx bv J bx bv (g2++[.cells (b8 gC gD (ae&&be)) bf]):=hs.trans uB;have gV:bL (g2++[.cells z9 bf]) 9 (.mp g2.length 0) (.agg (b8 gC gD (ae&&be)))=a_ (g2++[.cells (b8 gC gD (ae&&be)) bf]):=by
  have:=yg (X:=g2++[.cells z9 bf]) (m:=g2.length) af gC gD (ae&&be);unfold kW at this;rw[this];simp
 unfold z9 at gV;have lq:(g2++[bw (b8 gC gD (ae&&be)) bf])[J.length]?=a_ (.cells (b8 gC kP ae) bf):=bU n4;have qG:(g2++[bw (b8 gC gD (ae&&be)) bf])[J.length+1]?=a_ (.cells (b8 j8 gD be) bf):=bU jR;have vk:(g2++[bw (b8 gC gD (ae&&be)) bf])[J.length+2]?=a_ (.cells z9 bf):=bU HA;have vl:(g2++[bw (b8 gC gD (ae&&be)) bf])[g2.length]?=a_ (.cells (b8 gC gD (ae&&be)) bf):=af
 generalize g2++[bw (b8 gC gD (ae&&be)) bf]=X at h3 x6 gV lq qG vk vl;generalize hm:g2.length=m at gV vl l_⊢;have Cv:m≠kn:=aa
 have Uo:∀(X) (F E F' E') (c),fE kn z on (qe cy j8 (AM kP)) bx bv X->gJ kn bx bv J bx bv X->X[J.length]?=a_ (.cells (b8 gC kP ae) bf)->X[J.length+1]?=a_ (.cells (b8 j8 gD be) bf)->X[J.length+2]?=a_ (.cells z9 bf)->X[m]?=a_ (.cells (b8 F E c) bf)->
   fE kn z on (qe cy j8 (AM kP)) bx bv (X.set m (.cells (b8 F' E' c) bf))/\gJ kn bx bv J bx bv (X.set m (.cells (b8 F' E' c) bf))/\(X.set m (.cells (b8 F' E' c) bf))[J.length]?=a_ (.cells (b8 gC kP ae) bf)/\(X.set m (.cells (b8 F' E' c) bf))[J.length+1]?=a_ (.cells (b8 j8 gD be) bf)/\(X.set m (.cells (b8 F' E' c) bf))[J.length+2]?=a_ (.cells z9 bf)/\(X.set m (.cells (b8 F' E' c) bf))[m]?=a_ (.cells (b8 F' E' c) bf):=λX F E F' E' c x1 x2 x3 pR vC sr=>
  ⟨x1.iu sr Cv,x2.iu aa,by rw[bC aa];exact x3,by rw[bC aa];exact pR,by rw[bC aa];exact vC,bT (gl sr)⟩
 have fin:∀(X) (F E) (c),fE kn z on (qe cy j8 (AM kP)) bx bv X->gJ kn bx bv J bx bv X->X[J.length+2]?=a_ (.cells z9 bf)->X[m]?=a_ (.cells (b8 F E c) bf)->
   ∃y4,bz X bh 9 (.mp m 0)=a_ (kW F E c)/\bL X 9 (.mp (J.length+2) 0) (kW F E c)=a_ y4/\bz y4 bh 9 (.mp (J.length+2) 0)=a_ (kW F E c)/\fE kn z on (qe cy j8 (AM kP)) bx bv y4/\gJ kn bx bv J bx bv y4:=λX F E c x1 x2 vC sr=>
  ⟨_,(iM sr).2.2.2,yg vC F E c,(iM (bT (gl vC))).2.2.2,x1.iu vC aa,x2.iu aa⟩
 have f2:∀c:Bool,dI [.v (.int .u64 0),.v (.int .u64 0),.v (.int .u64 0),.v (.int .u64 0),.v (.int .u64 0),.v (.int .u64 0),.v (.int .u64 0),.v (.int .u64 0),bf] [(0,4,cg gC),(4,4,cg gD),(8,1,c)]=a_ (b8 gC gD c):=λc=>rfl;obtain⟨g_,p1,p2,p3⟩:=iM lq;obtain⟨bS,r1,r2,jT⟩:=iM qG;obtain⟨t0,t1,t2,t3⟩:=iM vl;have Ti:=λA B=>Kg (G:=G) A B;cases ae<;>cases be;obtain⟨y4,y1,fW,mz,yG,Ij⟩:=fin X gC gD bf h3 x6 vk vl;have T5:bL _ 9 (.mp m 0) (.agg (b8 gC gD bf))=a_ X:=gV;refine pQ (dB @a0 @a1 @a2 @a3) (dB @b0 @b1 @b2 @b3) (dB @f2 @hm @T5 @g_) (dB @p1 @p2 @bS @r1) (dB @r2 @t0 @t1 @y1) @fW @mz ?_;exact⟨rfl,yG,Ij⟩;have T5:bL _ 9 (.mp m 0) (.agg (b8 gC gD bf))=a_ X:=gV;obtain⟨x1,x2,x3,pR,vC,sr⟩:=Uo X gC gD gC (gD|||kP) bf h3 x6 lq qG vk vl;have wS:=aan vl (gD|||kP);obtain⟨y4,y1,fW,mz,yG,Ij⟩:=fin _ _ _ bf x1 x2 vC sr;refine wy (h_ (Ti gD kP) (bO (mE _) (bO (mE _) cG)) ?_);have OS:bL X 4 (.mp m 4) (cg (gD|||kP))=a_ (X.set m (.cells (b8 gC (gD|||kP) bf) bf)):=wS;refine mP @OS @y1 @fW @mz ?_;exact⟨rfl,yG,Ij⟩;have T5:bL _ 9 (.mp m 0) (.agg (b8 gC gD bf))=a_ X:=gV;obtain⟨x1,x2,x3,pR,vC,sr⟩:=Uo X gC gD (gC|||j8) gD bf h3 x6 lq qG vk vl;have OS:bL X 4 (.mp m 0) (cg (gC|||j8))=a_ (X.set m (.cells (b8 (gC|||j8) gD bf) bf)):=aam vl (gC|||j8);obtain⟨y4,y1,fW,mz,yG,Ij⟩:=fin _ _ _ bf x1 x2 vC sr;obtain⟨nu,u1,u2,u3⟩:=iM pR;refine wy (h_ (Ti gC j8) (bO (mE _) (bO (mE _) cG)) ?_);refine qQ @OS @u2 @y1 @fW @mz ?_;exact⟨rfl,yG,Ij⟩;have T5:bL _ 9 (.mp m 0) (.agg (b8 gC gD bh))=a_ X:=gV;obtain⟨x1,x2,x3,pR,vC,sr⟩:=Uo X gC gD (gC|||j8) gD bh h3 x6 lq qG vk vl;have OS:bL X 4 (.mp m 0) (cg (gC|||j8))=a_ (X.set m (.cells (b8 (gC|||j8) gD bh) bf)):=aam vl (gC|||j8);obtain⟨nu,u1,u2,u3⟩:=iM pR;obtain⟨q0,q1,bt,bV⟩:=iM x3;obtain⟨i0,i1,i2,i3⟩:=iM sr;refine wy (h_ (Ti gC j8) (bO (mE _) (bO (mE _) cG)) ?_);have aIA:bL (X.set m (.cells (b8 (gC|||j8) gD bh) bf)) 4 (.mp m 4) (cg (gD|||kP))=a_ ((X.set m (.cells (b8 (gC|||j8) gD bh) bf)).set m (.cells (b8 (gC|||j8) (gD|||kP) bh) bf)):=aan sr (gD|||kP);obtain⟨v1,v2,v3,v4,v5,v6⟩:=Uo _ _ _ (gC|||j8) (gD|||kP) bh x1 x2 x3 pR vC sr;obtain⟨y4,y1,fW,mz,yG,Ij⟩:=fin _ _ _ bh v1 v2 v5 v6;refine wy (h_ (Ti gD kP) (bO (mE _) (bO (mE _) cG)) ?_);refine mP @aIA @y1 @fW @mz ?_;exact⟨rfl,yG,Ij⟩
def cV.many(p:cV):Nat:=(if p.high<0 then(if(1:Int)>p.low then 1 else p.low) else p.high).toNat
def q2(ps:List cV):Nat->Int->Nat
 |0,_=>0
 |f+1,i=>match ps[i.toNat]? with
  |none=>0
  |some p=>if p.kind=1 then 1 else(if p.kind=4 then p.many else 1)*(p.kids.map λk=>q2 ps f k).sum
def auj{ps}(h:rK ps):∀(n f g) (i),i.toNat<n->i.toNat<f->i.toNat<g->q2 ps f i=q2 ps g i:=by
 intro n
 induction n with
 |zero=>intro f g i h0;omega
 |succ n ih=>
  intro f g i h0 Y V;obtain⟨f,rfl⟩:∃f',f=f'+1:=⟨f-1,aa⟩;obtain⟨g,rfl⟩:∃g',g=g'+1:=⟨g-1,aa⟩;unfold q2;cases J:ps[i.toNat]? with
  |none=>rfl
  |some p=>
   dsimp only;have e:(p.kids.map λk=>q2 ps f k)=p.kids.map λk=>q2 ps g k:=B0 λk S=>by
    have:=(h _ p J).2 k S;exact ih f g k aa aa aa
   rw[e]
def cnt(ps:List cV)(i:Int):Nat:=q2 ps (i.toNat+1) i
def Wi{ps}(h:rK ps){i:Nat}{p}(J:ps[i]?=a_ p):cnt ps (i)=if p.kind=1 then 1 else(if p.kind=4 then p.many else 1)*(p.kids.map λk=>cnt ps k).sum:=by
 show q2 ps (i+1) (i)=_;unfold q2;rw[wZ,J];dsimp only;have e:(p.kids.map λk=>q2 ps i k)=p.kids.map λk=>cnt ps k:=B0 λk S=>by
  have:=(h _ p J).2 k S;exact auj h (i+1) i (k.toNat+1) k aa aa aa
 rw[e]
@[go_sem]def J7(a b:Nat):rL bf [(a:Int),(257:Int)]=a_ (.v (.int .i64 ((min a 257:Nat):Int))):=by
 show a_ (dh (.int .i64 (if(257:Int)<(a) then 257 else(a))))=_;congr 3;split<;>omega
def aE2{G}{v}{ps}(h:tJ v ps):∀(n i),i<n->i<ps.length->cI G bA 127 [v,(i:Int)] ((min (cnt ps (i)) 257:Nat):Int):=by
 intro n
 induction n with
 |zero=>intro i Q;omega
 |succ n ih=>
  intro i Q hl;obtain⟨p,eK⟩:=dW hl;have mh:=h.ok i p eK;have qc:=h.no p (cz eK);have kE:=mh.kids;have T:=Wi h.ok eK;refine eA (ajY.go ?_);have e1:cx 5 v (i:Int)=a_ (.fp p.cells 0):=h.v.cw (x:=p.bE) aMC rfl;have e2:∀J,bz J bh 5 (.fp p.cells 0)=a_ (.agg p.cells):=λJ=>rfl;have s1:=zW [] p;rw[gd,gd] at s1;have z0:([]:List br).length=0:=rfl;rw[z0] at s1;have l0:bz [.cells p.cells bf] bf 1 (.mp 0 0)=a_ (.v (.int .i64 p.kind)):=rfl;have l1:bz [.cells p.cells bf] bf 1 (.mp 0 1)=a_ (.v (.int .i64 p.low)):=rfl;have l2:bz [.cells p.cells bf] bf 1 (.mp 0 2)=a_ (.v (.int .i64 p.high)):=rfl;have l4:bz [.cells p.cells bf] bf 1 (.mp 0 4)=a_ p.kv:=rfl;have lk:=zB qc (ig kE ag);refine wy (cQ (λq=>?_) λq=>?_);have q':p.kind=1:=an
  rw[T,if_pos q'];exact wy ((bH _).done);have q':p.kind≠1:=an
  rw[if_neg q'] at T;refine wy ?_;refine dj (λj e J=>e=[(0,v),(5,.mp 0 0),(6,((min ((p.kids.take j).map λk=>cnt ps k).sum 257:Nat):Int)),(18,p.kv),(19,bp p.kids.length),(20,bp j)]/\J=[.cells p.cells bf]) p.kids.length ⟨rfl,rfl⟩ ?_ ?_;rintro j e J hj ⟨rfl,rfl⟩;obtain⟨x,I⟩:=dW hj;obtain⟨x0,x1⟩:=mh.2 x (cz I);obtain⟨xn,rfl⟩:=pT x0;obtain⟨pk,k1,k2⟩:=(Ho p [.cells p.cells bf]).get I;have yB:=zX (f:=λx=>cnt ps x) I;have m1:=J7 (min ((p.kids.take j).map λk=>cnt ps k).sum 257+min (cnt ps (xn)) 257) 0;have ja:min (min ((p.kids.take j).map λk=>cnt ps k).sum 257+min (cnt ps (xn)) 257) 257=min ((p.kids.take (j+1)).map λk=>cnt ps k).sum 257:=by rw[yB];omega
  refine wy (h_ (ih xn aa aa) (bO (Ge h) (bO (cP _) cG)) ?_);refine wx ?_
  first
   |exact⟨rfl,trivial⟩
   |exact⟨rfl,rfl⟩
  rintro e J ⟨rfl,rfl⟩;rw[oW];refine wy ?_;generalize(p.kids.map λk=>cnt ps k).sum=hk at T⊢;refine cQ (λfP=>?_) λfP=>?_;have C2:p.kind=4:=aMc
  rw[if_pos C2] at T;have O:0<=p.low/\p.low<=20/\(p.high= -1\/(1<=p.high/\p.high<=20)):=by
   rcases mh.1 with z|z|z
   omega;omega;omega
  have m0:rL bh [p.low,(1:Int)]=a_ (.v (.int .i64 (if(1:Int)>p.low then 1 else p.low))):=rfl;have lg:1<=p.many/\p.many<=20:=by
   unfold cV.many;constructor<;>(split<;>(try split))<;>omega
  have ayB:min hk 257*p.many<=257*20:=Nat.mul_le_mul (Nat.min_le_right _ _) lg.2;have w1:cN.wrap (((min hk 257:Nat):Int)*(p.many:Int))=((min hk 257*p.many:Nat):Int):=by
   rw[<-Int.natCast_mul,e6 aa aa]
  have ja:min (min hk 257*p.many) 257=min (p.many*hk) 257:=by
   rcases Nat.le_total hk 257 with z|z
   rw[FL z,acH];have V:257*p.many<=p.many*hk:=aMY
   rw[Nat.min_eq_right z];omega
  have m1:=J7 (min hk 257*p.many) 0;rw[ja] at m1;rw[T];refine wy (cQ (λiN=>?_) λiN=>?_);have Gp:(if(1:Int)>p.low then 1 else p.low)=(p.many:Int):=by
   have:p.high<0:=by simpa using iN
   unfold cV.many;rw[if_pos this];split<;>omega
  rw[Gp] at m0;exact wy ((bH _).done);have Gp:p.high=(p.many:Int):=by
   have:¬p.high<0:=by simp at iN;omega
   unfold cV.many;rw[if_neg this];omega
  rw[Gp];exact wy ((bH _).done);have C2:p.kind≠4:=aMc
  rw[if_neg C2,FM] at T;rw[T];exact wy ((bH _).done)
@[go_sem]def N_(B):cY 4 [cg B]=bh:=rfl
@[go_sem]def Te(l:List Nat):cY 4 (l.map cg)=bh:=by
 rw[cY,eG];intro x I;obtain⟨t,ht,rfl⟩:=dX.1 I;rfl
@[go_sem]def Vy(B):eW 4 [cg B]=a_ (.sl [cg B] .exact):=rfl
section
variable{kn:Nat}{z:List bg}{on cy:List Nat}{bx bv:bg}{J:List br}
@[go_sem]def fE.rA(h:fE kn z on cy bx bv J){w}(hw:cq w=bh):bL J 1 (.mp kn 0) w=a_ (J.set kn (.cells (w::bv::z) bf)):=by
 have eX:w.cells=[w]:=aMu
 simp only[bL,h.b,fu,eX];simp[hw,dS]
@[go_sem]def fE.gV(h:fE kn z on cy bx bv J){w}(hw:cq w=bh):bL J 1 (.mp kn 1) w=a_ (J.set kn (.cells (bx::w::z) bf)):=by
 have eX:w.cells=[w]:=aMu
 simp only[bL,h.b,fu,eX];simp[hw,dS]
@[go_sem]def fE.Zd(h:fE kn z on cy bx bv J):bz J bf 1 (.mp kn 0)=a_ bx:=aS
@[go_sem]def fE.al8(h:fE kn z on cy bx bv J):bz J bf 1 (.mp kn 1)=a_ bv:=aS
@[go_sem]def fE.aCV(h:fE kn z on cy bx bv J):∀g,cH bx g=a_ (.v (.int .i64 (on.length:Int)),g):=λg=>by
 rcases h.on with⟨rfl,e⟩|⟨id,rfl,_⟩
 have:on=[]:=aMX
 subst this;rfl;simp[oc,goInt]
def fE.aFd(h:fE kn z on cy bx bv J)(hn:on.length<=100000)(B):∃cX g g',eg J 4 32 152 bx (.sl [cg B] .exact)=a_ (cX,g)/\bL g 1 (.mp kn 0) cX=a_ g'/\fE kn z (on++[B]) cy cX bv g'/\gJ kn bx bv J cX bv g':=by
 obtain⟨cl,g,e1,hA,bR,bJ,S⟩:=nc (cc:=32) h.on (Te on) (N_ B) ag ag ah;have ir:∀{j} {Z} {fz},J[j]?=a_ (.cells Z fz)->∀xs,bx≠.sl xs (.tok j):=λ{j Z fz} q xs e=>by
  rcases h.on with⟨q1,_⟩|⟨id,q1,bt⟩
  rw[q1] at e;cases e;rw[q1] at e;cases e;rw[q] at bt;cases bt
 have kb:g[kn]?=a_ (.cells (bx::bv::z) bf):=S _ _ h.b (ir h.b)
 have ho:cq cl=bh:=az
 have eX:cl.cells=[cl]:=aMn
 have s1:bL g 1 (.mp kn 0) cl=a_ (g.set kn (.cells (cl::bv::z) bf)):=by
  simp only[bL,kb,fu,eX];simp[ho,dS]
 refine⟨cl,g,_,e1,s1,⟨bT (gl kb),?_,?_⟩,⟨by simpa using bJ,λj b hj Y V h3=>?_,λj q=>bD q,λj ⟨xs,q⟩=>?_⟩⟩;rw[gz]
 rcases hA with q|⟨id,q1,bt⟩
 exact bD q;refine bG ⟨id,q1,?_⟩;rw[bC (by rintro rfl;rw[kb] at bt;cases bt)];exact bt
 rcases h.cy with q|⟨k,q1,bt⟩
 exact bD q;refine bG ⟨k,q1,?_⟩;rw[bC (by rintro rfl;rw[h.b] at bt;simp at bt)];exact S _ _ bt (ir bt);rw[bC (e4 Y)];exact S j b hj λxs e=>h3 ⟨xs,e⟩
 rcases ei j J.length with hj|hj
 left
 rcases h.on with⟨q1,bt⟩|⟨id,q1,bt⟩
 subst q1;have:on=[]:=aZ
 subst this;have Wq:eg J 4 32 152 .bq (.sl [cg B] .exact)=a_ (.sl [cg B] (.tok J.length),J++[.tok 1 4 152]):=rfl;rw[Wq] at e1;cases e1;cases q;omega;subst q1;have hfit:((on.map cg).length+1)*32<=140737488355328:=ah
 have Wq:eg J 4 32 152 (.sl (on.map cg) (.tok id)) (.sl [cg B] .exact)=a_ (.sl (on.map cg++[cg B]) (.tok id),J.set id (.tok ((on.map cg).length+1) 4 152)):=by
  have Y:=N_ B;have V:=Te on;have h3:¬([cg B]=([]:List bg)):=af
  simp only[eg,gY,iI,iA,Y,V,h3,if_false,and_self,w_,if_true,true_and,bt,eB,gR,gA];rw[if_pos hfit]
 rw[Wq] at e1;cases e1;cases q;exact⟨_,rfl⟩;exact bG hj
def fE.aFb(h:fE kn z on cy bx bv J)(hn:cy.length<=100000)(B):∃dc g g',qW J 4 32 152 bv (.sl [cg B] .exact)=a_ (dc,g)/\bL g 1 (.mp kn 1) dc=a_ g'/\fE kn z on (cy++[B]) bx dc g'/\gJ kn bx bv J bx dc g'/\∀(j:Nat) Z,J[j]?=a_ (.cells Z bf)->g[j]?=a_ (.cells Z bf):=by
 have eP:=gl h.b
 rcases h.cy with⟨rfl,rfl⟩|⟨k,rfl,S⟩
 have Y:fE kn z on [] bx .bq (J++[.cells (bY B) bh]):=h.app;refine⟨.rs J.length 4 4 0 1,J++[.cells (bY B) bh],_,rfl,Y.gV rfl,⟨bT ah,?_,bG ⟨J.length,rfl,?_⟩⟩,⟨af,λj b hj Y V h3=>?_,λj ⟨m,l,q⟩=>?_,λj q=>bD q⟩,λj Z q=>bU q⟩
 rcases Y.on with q|⟨id,q1,bt⟩
 exact bD q;refine bG ⟨id,q1,?_⟩;rw[bC (by rintro rfl;rw[Y.b] at bt;cases bt)];exact bt;rw[bC aa];show(J++[bw (bY B) bh])[J.length]?=a_ (.cells (bY B++[]) bh);simp;rw[bC (e4 Y)];exact bU hj;cases q;exact bG (b_ _);have hl:=gl S;have Bg:k≠kn:=by rintro rfl;rw[h.b] at S;simp at S
 have zo:=AT cy;have b9:nr (fL cy) (cy.length*4) (eO [cg B])=fL (cy++[B]):=by
  have hf:eO [cg B]=bY B:=rfl;unfold nr;rw[hf,agv,ow aa,w4 aa,fZ];show _=fL cy++(bY B++[]);rw[fZ]
 have e1:qW J 4 32 152 (.rs k (fL cy).length 4 0 cy.length) (.sl [cg B] .exact)=a_ (.rs k (fL (cy++[B])).length 4 0 (cy++[B]).length,J.set k (.cells (fL (cy++[B])) bh)):=by
  show gY J 4 32 152 (.rs k (fL cy).length 4 0 cy.length) (.sl [cg B] .exact)=_;have Y:=N_ B;have h3:¬([cg B]=([]:List bg)):=af
  simp only[gY,iA,iI,Y,h3,if_false,and_self,w_,if_true,true_and,S,eB,gR,b9];rw[if_pos aa];simp
 have hb':(J.set k (.cells (fL (cy++[B])) bh))[kn]?=a_ (.cells (bx:: .rs k (fL cy).length 4 0 cy.length::z) bf):=by rw[bC Bg];exact h.b
 have s1:bL (J.set k (.cells (fL (cy++[B])) bh)) 1 (.mp kn 1) (.rs k (fL (cy++[B])).length 4 0 (cy++[B]).length)=a_ ((J.set k (.cells (fL (cy++[B])) bh)).set kn (.cells (bx:: .rs k (fL (cy++[B])).length 4 0 (cy++[B]).length::z) bf)):=by
  simp only[bL,hb',fu];simp[jU,cq,dS]
 refine⟨_,_,_,e1,s1,⟨bT ah,?_,bG ⟨k,rfl,?_⟩⟩,⟨af,λj b hj Y V h3=>?_,λj ⟨m,l,q⟩=>?_,λj q=>bD q⟩,λj Z q=>by rw[bC (by rintro rfl;rw[S] at q;simp at q)];exact q⟩
 rcases h.on with q|⟨id,q1,bt⟩
 exact bD q;refine bG ⟨id,q1,?_⟩;rw[bC (by rintro rfl;rw[h.b] at bt;cases bt),bC (by rintro rfl;rw[S] at bt;cases bt)];exact bt;rw[bC (e4 Bg),bT hl];rw[bC (e4 Y),bC (by rintro rfl;exact V ⟨_,_,rfl⟩)];exact hj;cases q;exact bD ⟨_,_,rfl⟩
end
end Go.Proofs.YtpcfoeagojdmdaaGreatDoor

/- Part 7 of a proof. No condition. -/
import Derived.Test.YtplgiomcbchjiaaGreatDoorZ6
set_option linter.unusedVariables false
set_option linter.unusedSimpArgs false
set_option linter.defProp false
open BitVec renaming ofInt->Dg
open Bool renaming and_eq_true->fQ,false->bf,false_and->BM,false_eq_true->kB,true->bh
open Go.bM.bg renaming agg->dG,cells->jD,mp->cU,one->cu,v->cR
open Go.bM.br renaming cells->bw
open Go.bM.tG renaming mk->cM
open Go.bM.cw renaming mono->cm,pu->dx,aaA->eo,pure->ic,aFa->jE
open Go.bM.jS renaming mono->vw
open Go.bM renaming Clean->eY
open Go.bM.b_ renaming agg->j0,bp->eB,sl->hD,bQ->fy,v->bH
open Go.bM.fC renaming append->BO,cons->bG,map->iE,nil->c_
open Go.bM.hc renaming aeB->sr,node->nK
open Go.bM.cr renaming bA->eU,bare->Ik,cells->uC
open Go.Fn renaming func->uD
open Go.IntKind renaming i64->cN,u64->Im
open Go.Lib renaming ctz->Fx
open Go.Proofs.Tryz renaming afh->arc,prog->bB,apY->arj
open Go.Proofs.YtplgiomcbchjiaaGreatDoor.mJ renaming set->K7
open Go.Proofs.YtplgiomcbchjiaaGreatDoor.cT renaming bA->su,cells->rI
open Go.Proofs.YtplgiomcbchjiaaGreatDoor.dL renaming bA->nh,cells->iF
open Go.Value renaming int->yt
open Int renaming eq_ofNat_of_zero_le->pJ,le_refl->Dm,toNat_natCast->yw
open List renaming all_cons->pK,all_eq_true->eJ,all_nil->tC,append_assoc->dQ,append_nil->gV,cons_append->gB,drop_drop->z6,drop_length_add_append->art,drop_of_length_le->tD,drop_zero->pL,ext_getElem?->FB,getElem?_append_left->fY,getElem?_append_right->gh,getElem?_cons_succ->yy,getElem?_cons_zero->nL,getElem?_drop->tE,getElem?_eq_getElem->cy,getElem?_eq_none->j4,getElem?_eq_some_iff->cK,getElem?_map->e9,getElem?_set_ne->bE,getElem?_set_self->bT,getElem?_take_of_lt->Dn,getElem_mem->Pp,length->La,length_append->ek,length_cons->eZ,length_drop->z7,length_eq_one_iff->FD,length_map->cS,length_nil->iG,length_singleton->qg,length_take->z8,map_append->gC,map_congr_left->BU,map_cons->fc,map_map->yz,map_nil->kM,mem_append->fA,mem_cons->fo,mem_map->dV,mem_of_getElem?->cv,mem_singleton->dW,nil_append->gM,not_mem_nil->pM,replicate->fB,replicate_succ->arA,sum_append->arF,sum_cons->Aa,sum_nil->Iu,takeWhile_cons->arG,take_add_one->vA,take_append_drop->UO,take_append_of_le_length->arH,take_left'->Pr,take_length->od,take_length_add_append->aJx,take_of_length_le->oe
open Nat renaming add_assoc->nM,add_sub_cancel_left->UQ,eq_of_testBit_eq->arJ,le_refl->cc,le_trans->iz,lt_or_ge->er,lt_succ_self->yB,min_eq_left->Lc,mul_comm->acY,one_mul->FF,reduceAdd->vB,sub_self->ni,testBit_and->arL,testBit_or->US,testBit_two_pow->acZ,zero_add->gi,zero_le->gW,zero_lt_succ->w9
open Ne renaming symm->e3
open Option renaming bind_some->mj,isSome_none->BW,map->FH,map_some->kf,none->bn,some->a_
open Or renaming inl->bD,inr->bF
namespace Go.Proofs.YtplgiomcbchjiaaGreatDoor
open Go Go.bM Go.RowKit
section
variable{G:Cells}{k a:Nat}{l:List dL}{v pv lv:bg}{ps dz:List cT}{w:Bool}{J h:List br}
def Ss{a}{c}(q:(xY l a==c)=bh)(T:c≠0):∃y,l[a]?=a_ y/\y.kind=c:=by
 unfold xY at q;cases hy:l[a]? with
 |none=>rw[hy] at q;simp at q;omega
 |some y=>rw[hy] at q;exact⟨y,rfl,ak⟩
def aGZ{a}(fN:∀x∈l,x.c6)(q:(xY l a==5)=bh):∃y,l[a]?=a_ y/\y.kind=5/\0<=y.low/\y.low<=20/\(y.high= -1\/(1<=y.high/\y.high<=20/\y.low<=y.high)):=by
 obtain⟨y,hy,S⟩:=Ss q ag;refine⟨y,hy,S,?_⟩
 rcases(fN y (cv hy)).2 with z|z|z
 omega;omega;exact⟨z.2.2.1,z.2.2.2.1,z.2.2.2.2⟩
def aGX{a}(fN:∀x∈l,x.c6)(q:(xY l a==1)=bh):∃y,l[a]?=a_ y/\y.kind=1/\vc y.name=bh:=by
 obtain⟨y,hy,S⟩:=Ss q ag;refine⟨y,hy,S,?_⟩
 rcases(fN y (cv hy)).2 with z|z|z
 exact z.2.1;omega;omega
structure PZ(k:Nat)(l:List dL)(a:Nat)(v:bg)(ps:List cT)(J:List br)(n:Int)(b:Nat)(pv:bg)(dz:List cT)(h:List br):Prop where
 lt:a<b
 le:b<=l.length
 rx:i_ k l b v pv (ps++dz) bf h
 lB:mJ k J h
 cnt:dz.length+2<=3*(b-a)
 n0:0<=n
 n1:n<((ps++dz).length:Nat)
 ok:rL ps->rL (ps++dz)
def PZ.done{n}{b}(Y:PZ k l a v ps J n b pv dz h):DE k l a v ps J n h:=
 ⟨n,b,pv,dz,bf,rfl,Nat.le_of_lt Y.lt,Y.le,Y.rx,Y.lB,Y.cnt,λ_=>⟨Y.n0,Y.n1,Y.ok⟩⟩
def ajs(hl:l.length<=200)(fN:∀x∈l,x.c6)(ha:a<=l.length)(hI:a<l.length->vH G 130 k l v (a+1)):vH G 266 k l v a:=by
 intro ps pv J hR iU;refine alb.go ?_;refine wy (cm (JZ hR hl) ?_);rintro _ g ⟨rfl,hh⟩;rw[hh];clear hh;refine wy ?_;refine dn (λq=>?_) λq=>?_;obtain⟨y,hy,ai5,mD⟩:=aGX fN q;have cX:=gl hy;have e1:ct 5 v (.v (.int .i64 (a)))=a_ (.fp y.cells 0):=hR.v.cB (x:=y.bA) aT rfl;have e2:∀J,bz J bf 1 (.fp y.cells 4)=a_ (bu y.name):=λJ=>rfl;have f1:dN [.v (.int .i64 0),.v (.int .i64 0),.v (.int .i64 0),.v (.string ⟨#[]⟩),.bp] [(0,1,.v (.int .i64 1)),(3,1,bu y.name)]=a_ (rI ⟨1,0,0,y.name,[],.exact⟩):=rfl;have GQ:=Zi (G:=G) hR aa ⟨1,0,0,y.name,[],.exact⟩;unfold su at GQ;refine wx (cm GQ ?_);rintro _ g1 ⟨rfl,⟨r7,Jn⟩,q4⟩;have w1:cN.wrap ((a)+1)=((a+1:Nat):Int):=jZ aa;refine oa ?_;obtain⟨n,hn⟩:∃n:Int,n=(ps.length:Int):=⟨_,rfl⟩;obtain⟨b,O⟩:∃b,b=a+1:=⟨_,rfl⟩;obtain⟨dz,ayC⟩:∃dz:List cT,dz=[⟨1,0,0,y.name,[],.exact⟩]:=⟨_,rfl⟩;have hT:PZ k l a v ps J n b r7 dz (g1.set k (.cells [v,.v (.int .i64 ((a+1:Nat):Int)),r7,.v (.bool bf)] bf)):=by
  subst O;subst hn;subst ayC;refine⟨aa,aa,Jn.put (a+1) bf,q4.trans K7,af,aa,ah,λz=>z.push ⟨bD ⟨rfl,rfl,rfl,mD,rfl⟩,af⟩⟩
 rw[<-hn];generalize g1.set k (.cells [v,.v (.int .i64 ((a+1:Nat):Int)),r7,.v (.bool bf)] bf)=h at hT⊢
 rotate_left
 refine dn (λbt=>?_) λbt=>?_;obtain⟨y,hy,ai5⟩:=Ss bt ag;have cX:=gl hy;have w1:cN.wrap ((a)+1)=((a+1:Nat):Int):=jZ aa;have Jn:=hR.put (a+1) bf;have q4:mJ k J (J.set k (.cells [v,bq ((a+1:Nat):Int),pv,.v (.bool bf)] bf)):=K7;have st:=hR.iX (a+1);generalize J.set k (.cells [v,bq ((a+1:Nat):Int),pv,.v (.bool bf)] bf)=Y at Jn q4 st;refine wx (cm (hI cX ps pv Y Jn aa) ?_);rintro _ V ⟨n,a2,r7,dz,w,rfl,c1,c2,c3,c4,c5,gT⟩;have bad:DE k l a v ps J (.v (.int .i64 n)) (V.set k (.cells [v,bq (a2),r7,.v (.bool bh)] bf)):=
  ⟨n,a2,r7,dz,bh,rfl,aa,c2,c3.put a2 bh,(q4.trans c4).trans K7,by cases w<;>simp at c5⊢<;>omega,λq=>av⟩
 cases w;refine wx (cm (JZ c3 hl) ?_);rintro _ g ⟨rfl,hh⟩;rw[hh];clear hh;refine wy (cM (λbV=>?_) λbV=>?_);exact Db @c3.Fa bad;have fU:(xY l a2==3)=bh:=by simpa using bV
 obtain⟨fR,JU,_⟩:=Ss fU ag;have aKO:=gl JU;refine wx ?_;obtain⟨b,O⟩:∃b,b=a2+1:=⟨_,rfl⟩;obtain⟨iB,ij,c9⟩:=gT rfl;have hT:PZ k l a v ps J n b r7 dz (V.set k (.cells [v,bq ((a2+1:Nat):Int),r7,.v (.bool bf)] bf)):=by
  subst O;exact⟨aa,aa,c3.put (a2+1) bf,(q4.trans c4).trans K7,by simp at c5;omega,iB,ij,c9⟩
 generalize V.set k (.cells [v,bq ((a2+1:Nat):Int),r7,.v (.bool bf)] bf)=h at hT⊢
 rotate_left
 exact aI7 @c3.ER @c3.Fa bad;exact⟨-1,a,pv,[],bh,rfl,cc _,ha,by rw[gV];exact hR.put a bh,K7,af,λq=>av⟩
 all_goals
  refine nc @IW @mP (cm (JZ hT.rx hl) ?_);rintro _ vW ⟨rfl,hh⟩;rw[hh];clear hh;refine fJ ?_;refine dn (λwH=>?_) λwH=>?_;obtain⟨y,hy,ai5,Nt⟩:=aGZ fN wH;have cX:=gl hy;have e1:ct 5 v (.v (.int .i64 (b)))=a_ (.fp y.cells 0):=hT.rx.v.cB (x:=y.bA) aT rfl;have e2:∀J,bz J bh 5 (.fp y.cells 0)=a_ (.agg y.cells):=λJ=>rfl;have s1:=zG h y;unfold iP at s1;have hX:i_ k l b v r7 (ps++dz) bf (h++[.cells y.cells bf]):=hT.rx.keep λj c z _=>bS z;have aeE:mJ k J (h++[.cells y.cells bf]):=hT.lB.trans mJ.app;have e7:=gl hT.rx.b;have aqT:(h++[bw y.cells bf])[h.length]?=a_ (.cells y.cells bf):=af
  generalize h++[bw y.cells bf]=g at s1 hX aeE aqT;have mB:=hX.put (b+1) bf;have xw:=aeE.trans (K7 (x:=.cells [v,bq ((b+1:Nat):Int),r7,.v (.bool bf)] bf));have aci:(g.set k (.cells [v,bq ((b+1:Nat):Int),r7,.v (.bool bf)] bf))[h.length]?=a_ (.cells y.cells bf):=by rw[bE aa];exact aqT
  have w1:cN.wrap ((b)+1)=((b+1:Nat):Int):=jZ aa;have s2:=hX.iX (b+1);generalize g.set k (.cells [v,bq ((b+1:Nat):Int),r7,.v (.bool bf)] bf)=g2 at s2 mB xw aci;have l2:bz g2 bf 1 (.mp h.length 2)=a_ (.v (.int .i64 y.low)):=by simp only[bz,aci];rfl
  have l3:bz g2 bf 1 (.mp h.length 3)=a_ (.v (.int .i64 y.high)):=by simp only[bz,aci];rfl
  have f1:dN [.v (.int .i64 0),.v (.int .i64 0),.v (.int .i64 0),.v (.string ⟨#[]⟩),.bp] [(0,1,.v (.int .i64 4)),(1,1,.v (.int .i64 y.low)),(2,1,.v (.int .i64 y.high)),(4,1,.sl [.v (.int .i64 n)] .exact)]=a_ (rI ⟨4,y.low,y.high,[],[n],.exact⟩):=rfl;have aKU:=hT.cnt;have hab:=hT.lt;have GQ:=Zi (G:=G) mB ah ⟨4,y.low,y.high,[],[n],.exact⟩;unfold su at GQ;refine wR (eI @wH @hT.rx.Hp @hT.rx.iW @e1) @e2 @s1 @hX.iW @w1 @s2 @l2 @l3 @f1 (cm GQ ?_);rintro _ g3 ⟨rfl,⟨cl,hZ⟩,as_⟩;refine e6 @bq.eq_1 ?_;rw[dQ] at hZ;refine⟨((ps++dz).length:Nat),b+1,cl,dz++[⟨4,y.low,y.high,[],[n],.exact⟩],bf,rfl,aa,aa,hZ,xw.trans as_,ah,λ_=>⟨aa,ah,λz=>?_⟩⟩;rw[<-dQ];refine(hT.ok z).push ⟨bF (bF ⟨rfl,rfl,rfl,Nt⟩),λx I=>?_⟩;rw[dW.1 I];exact⟨hT.n0,hT.n1⟩;exact hT.done
def uq(hl:l.length<=200)(fN:∀x∈l,x.c6):∀(n a),a<=l.length->l.length-a<=n->vH G 266 k l v a/\vH G 207 k l v a/\vH G 130 k l v a:=by
 intro n
 induction n with
 |zero=>
  intro a ha hn;have i:vH G 266 k l v a:=ajs hl fN ha λq=>aa
  have r:vH G 207 k l v a:=aoD hl ha λb Y V=>by
   obtain rfl:b=a:=aa
   exact i
  exact⟨i,r,afm hl ha λb Y V=>by
   obtain rfl:b=a:=aa
   exact r⟩
 |succ n ih=>
  intro a ha hn;have i:vH G 266 k l v a:=ajs hl fN ha λq=>(ih (a+1) aa aa).2.2;have r:vH G 207 k l v a:=aoD hl ha λb Y V=>by
   rcases Nat.eq_or_lt_of_le Y with q|q
   subst q;exact i;exact(ih b V aa).1
  exact⟨i,r,afm hl ha λb Y V=>by
   rcases Nat.eq_or_lt_of_le Y with q|q
   subst q;exact r;exact(ih b V aa).2.1⟩
end
def fC.SD{α:Type}{J}{f g}:∀{l:List α},(∀a∈l,b_ J (f a) (g a))->fC J (l.map f) (l.map g)
 |[],_=>c_
 |a::l,h=>bG (h a af) (fC.SD λb O=>h b aM0)
def cT.cH(p:cT):cT:={p with tail:=.no}
def W7(J)(p:cT):b_ J p.bA p.cH.bA:=by
 have S:b_ J p.kv p.cH.kv:=by
  obtain⟨k,lo,Q,nm,kids,t⟩:=p;unfold cT.cH cT.kv;cases kids with
  |nil=>exact eB
  |cons x r=>exact hD (iE λa _=>bH _)
 exact j0 (bG (bH _) (bG (bH _) (bG (bH _) (bG (bH _) (bG S c_)))))
def aE9{ps}(h:rL ps):rL (ps.map cT.cH):=by
 intro i p J;rw[e9] at J;cases hq:ps[i]? with
 |none=>rw[hq] at J;cases J
 |some q=>
  rw[hq] at J;cases J;exact h i q hq
structure tM(v:bg)(ps:List cT):Prop where
 v:cD v (ps.map su)
 ok:rL ps
 len:ps.length<=600
 no:∀p∈ps,p.tail=.no
def Vj(r:bg):Prop:=∃(v:bg) (p e:Int),r=.bQ [v,bq p,bq e]/\((e=0/\p=0/\∃ps,tM v ps)\/(e≠0/\v=.bp))
def Jb{J}{v v'}{p e}(hv:b_ J v v')(hQ:Vj (.bQ [v',bq p,bq e])):∃n bR,dh J n (.bQ [v,p,e])=a_ bR/\Vj bR:=by
 obtain⟨n,hn⟩:=(fy (bG hv (bG (bH (.int .i64 p)) (bG (bH (.int .i64 e)) c_))):b_ J _ _).done;exact⟨n,_,hn,hQ⟩
def tT(s):eY (bu s):=dD _
def aas{G}(cE:gk G)(s)(hs:s.length<=1000000):dM G bB 72 [bu s] Vj:=by
 refine en (ajI.go ?_);refine wy ?_;refine eo (ams cE s hs) ?_;rintro r (⟨l,v,hl,fN,hv,rfl⟩|⟨p,e,he,rfl⟩);refine wy ?_;have ln:=hv.cG;rw[cS] at ln;refine wy ?_;refine dn (λq=>?_) λq=>?_;exact Jb eB ⟨_,_,_,rfl,bD ⟨rfl,rfl,[],bF ⟨rfl,rfl⟩,λi p h=>au,ag,af⟩⟩
 have f1:dN [.bp,(0:Int)] [(0,1,v)]=a_ [v,(0:Int)]:=by rcases hv with rfl|⟨rfl,_⟩<;>rfl
 have f2:dN [.bp,(0:Int),.bp,bf] [(0,2,.agg [v,(0:Int)])]=a_ [v,(0:Int),.bp,bf]:=rfl;refine wy ?_;have hR:i_ 0 l 0 v .bp [] bf [.cells [v,(0:Int),.bp,bf] bf]:=⟨rfl,hv,bD ⟨rfl,rfl⟩⟩;refine cm ((uq hl fN l.length 0 (gW _) aa).2.2 [] .bp _ hR af) ?_;rintro _ h ⟨n,a,pv,dz,w,rfl,c1,c2,c3,c4,c5,gT⟩;rw[gM] at c3 gT;have l1:=c3.iW;refine wy (cM (λbt=>?_) λbt=>?_);have cX:a<l.length:=by simp at bt;exact bt
 obtain⟨y,hy⟩:=cO cX;have e1:ct 5 v (a:Int)=a_ (.fp y.cells 0):=hv.cB (x:=y.bA) aT rfl;have e2:∀J,bz J bf 1 (.fp y.cells 1)=a_ (.v (.int .i64 y.at_)):=λJ=>rfl;refine wy ?_;exact Jb eB ⟨_,_,_,rfl,bF ⟨ag,rfl⟩⟩;cases w with
 |true=>
  refine wx ?_;exact Jb eB ⟨_,_,_,rfl,bF ⟨ag,rfl⟩⟩
 |false=>
  refine wx ?_;obtain⟨_,_,iB⟩:=gT rfl;have ok:=aE9 (iB λi p h=>au);have len:(dz.map cT.cH).length<=600:=by simp at c5⊢;omega
  have no:∀p∈dz.map cT.cH,p.tail=.no:=λp J=>by
   obtain⟨x,_,rfl⟩:=dV.1 J;rfl
  rcases c3.app with⟨rfl,z⟩|⟨id,rfl,_⟩
  have:dz=[]:=aN
  subst this;exact Jb eB ⟨_,_,_,rfl,bD ⟨rfl,rfl,_,bF ⟨rfl,rfl⟩,ok,len,no⟩⟩;refine Jb (hD (fC.SD λp _=>W7 _ p)) ⟨_,_,_,rfl,bD ⟨rfl,rfl,dz.map cT.cH,bD ?_,ok,len,no⟩⟩;rw[yz];rfl
 refine wy ?_;have q:(e !=0)=bh:=aMg
 exact wy (Jb eB ⟨_,_,_,rfl,bF ⟨he,rfl⟩⟩)
section
variable{p:cT}{i:Nat}
def jR(r:bg):Prop:=∃b:Bool,r=b
def jj{J}(b):∃n bR,dh J n (.v (.bool b))=a_ bR/\jR bR:=by
 obtain⟨n,hn⟩:=(bH (.bool b):b_ J _ _).done;exact⟨n,_,hn,b,rfl⟩
def aD9{G}(cE:gk G)(s)(hs:s.length<=1000000):dM G bB 269 [bu s] jR:=by
 refine en (alf.go ?_);refine wy ?_;refine eo (ams cE s hs) ?_;rintro r (⟨l,v,hl,fN,hv,rfl⟩|⟨p,e,he,rfl⟩);have ln:=hv.cG;rw[cS] at ln;refine wy ?_;refine dn (λq=>?_) λq=>?_;obtain⟨y,rfl⟩:∃y,l=[y]:=FD.1 aq;have e1:ct 5 v (0:Int)=a_ (.fp y.cells 0):=hv.cB (i:=0) rfl rfl;have e2:∀J,bz J bf 1 (.fp y.cells 0)=a_ (.v (.int .i64 y.kind)):=λJ=>rfl;have di:∀J,bz J bf 1 (.fp y.cells 4)=a_ (bu y.name):=λJ=>rfl;have eW:lM 4 (.fp y.cells 0)=a_ (.fp y.cells 4):=rfl;refine jB @q @e1 @e2 ?_;refine dn (λbt=>?_) λbt=>?_;refine mH @e1 @eW @di @oZ ?_;exact jj _;exact jj _;exact jj _;have q:(e==0)=bf:=aMg
 exact wy (jj _)
@[go_sem]def zn(h:p.tail=.no)(hl:p.kids.length<=4611686018427387904)(J):cG p.kv J=a_ (.v (.int .i64 (p.kids.length:Int)),J):=by
 unfold cT.kv;split;rename_i e;rw[e];rfl;simp[pq,goInt]
def asO{G}(cE:gk G)(ho:p.c6 i)(ht:p.tail=.no):dM G bB 212 [p.bA] jR:=by
 refine en (akP.go ?_);have nx:p.bA.cells=p.cells:=rfl;have ln:=zn ht (iz ho.kids ag);obtain⟨k,lo,Q,nm,kids,t⟩:=p;have l0:bz ([]++[.cells (rI ⟨k,lo,Q,nm,kids,t⟩) bf]) bf 1 (.mp 0 0)=a_ (.v (.int .i64 k)):=rfl;have l1:bz ([]++[.cells (rI ⟨k,lo,Q,nm,kids,t⟩) bf]) bf 1 (.mp 0 1)=a_ (.v (.int .i64 lo)):=rfl;have l2:bz ([]++[.cells (rI ⟨k,lo,Q,nm,kids,t⟩) bf]) bf 1 (.mp 0 2)=a_ (.v (.int .i64 Q)):=rfl;have l3:bz ([]++[.cells (rI ⟨k,lo,Q,nm,kids,t⟩) bf]) bf 1 (.mp 0 3)=a_ (bu nm):=rfl;have l4:bz ([]++[.cells (rI ⟨k,lo,Q,nm,kids,t⟩) bf]) bf 1 (.mp 0 4)=a_ (cT.kv ⟨k,lo,Q,nm,kids,t⟩):=rfl;generalize hg:[]++[bw (rI ⟨k,lo,Q,nm,kids,t⟩) bf]=g at l0 l1 l2 l3 l4;have z0:([]:List br).length=0:=rfl;obtain⟨rX,rY⟩:=ho;dsimp only at rX rY ln;refine mH @nx @hg @z0 @l0 ?_
 rcases rX with⟨rfl,rfl,rfl,hn,rfl⟩|⟨hk2,rfl,rfl,rfl,S,_⟩|⟨rfl,rfl,S,h0,Y,V⟩
 have n0:(((0:Nat):Int)==0)=bh:=rfl;refine wR @mP @l0 @l1 @l2 @l3 @l4 @ln @iG.{0} @n0 ?_;have zf:nm.length<=1000000:=by
  simp only[vc,fQ,decide_eq_true_eq] at hn;omega
 refine eo (aD9 cE nm zf) ?_;rintro r ⟨b,rfl⟩;exact fJ (jj _)
 · have e1:decide ((1:Int)<(kids.length:Int))=bh:=by simp;omega
   have di:dR .eql (bu []) (.v (.string ⟨[].toArray⟩))=a_ (.v (.bool bh)):=oZ [] []
   rcases hk2 with rfl|rfl
   all_goals
    exact Ie @l0 @l1 @l2 @l3 @l4 @ln @e1 @di (jj _)
 have di:dR .eql (bu []) (.v (.string ⟨[].toArray⟩))=a_ (.v (.bool bh)):=oZ [] [];have n1:((kids.length:Int)==1)=bh:=ah
 have n2:decide (0<=lo)=bh:=ah
 have ld:decide (lo<=20)=bh:=ah
 refine pH @mP @l0 @l1 @l2 @l3 @l4 @ln (cM (λq=>?_) λq=>?_);exact Ie (eI @q @l0 @l1 @l2) @l3 @l4 @ln @n1 @n2 @ld @di (jj _);have m1:qT bh [lo,(1:Int)]=a_ (.v (.int .i64 (if(1:Int)>lo then 1 else lo))):=rfl;have m2:decide ((if(1:Int)>lo then 1 else lo)<=Q)=bh:=by
  simp at q;simp only[decide_eq_true_eq];split<;>omega
 have m3:decide (Q<=20)=bh:=by simp at q⊢;omega
 exact Ie (eI @q @l0 @l1 @l2) (eI @l3 @l4 @ln @n1) @n2 @ld @di @m1 @m2 @m3 (jj _)
def xh(J:List br)(v:bg)(xs:List Int):Prop:=(v=.bp/\xs=[])\/(∃t,v=.sl (xs.map bq) t)\/∃k Z off,v=.rs k Z.length 1 off xs.length/\J[k]?=a_ (.cells Z bh)/\∀(i:Nat) x,xs[i]?=a_ x->Z[off+i]?=a_ (bq x)
@[go_sem]def xh.len{J}{v}{xs}(h:xh J v xs)(hl:xs.length<=4611686018427387904):cG v J=a_ (.v (.int .i64 (xs.length:Int)),J):=by
 rcases h with⟨rfl,rfl⟩|⟨t,rfl⟩|⟨k,Z,off,rfl,_,_⟩
 rfl;simp[pq,goInt];rfl
def xh.get{J}{v}{xs}(h:xh J v xs){x}(I:xs[i]?=a_ x):∃p,ct 1 v (i:Int)=a_ p/\bz J bf 1 p=a_ (.v (.int .i64 x)):=by
 have Q:=gl I
 rcases h with⟨rfl,rfl⟩|⟨t,rfl⟩|⟨k,Z,off,rfl,S,T⟩
 simp at I;refine⟨.fp [bq x] 0,?_,rfl⟩;simp only[ct,e9,yw,I,kf];rw[if_pos aa];rfl;refine⟨.rp k Z.length (off+i*1),?_,?_⟩;show(if 0<=(i:Int)/\(i)<(xs.length:Int) then a_ (bg.rp k Z.length (off+(i:Int).toNat*1)) else bn)=_;rw[if_pos ⟨aa,aa⟩];simp;have:=T i x I;unfold bq at this;simp only[bz,S,if_true,Nat.mul_one];simpa[fh] using this
def avf{G}{J}{v w}{xs ys}(hv:xh J v xs)(hw:xh J w ys)(Y:xs.length<=1000000)(V:ys.length<=1000000):cw G bB 213 [v,w] J λr bl=>(∃b:Bool,r=b/\(b=bh->xs=ys))/\bl=J:=by
 refine akQ.go ?_;refine wx ?_;refine dn (λq=>?_) λq=>?_;exact⟨⟨bf,rfl,λh=>aB⟩,trivial⟩;have hl:xs.length=ys.length:=aq
 refine nc @q (hv.len (show xs.length<=4611686018427387904 by omega)) ?_;refine c8 (λi e h=>e=[(0,v),(1,w),(12,bq xs.length),(13,bq i)]/\h=J/\∀(j),j<i->xs[j]?=ys[j]?) xs.length ⟨rfl,rfl,λj h=>aa⟩ ?_ ?_;rintro i e h Q ⟨rfl,rfl,hI⟩;obtain⟨x,I⟩:=cO Q;obtain⟨y,hy⟩:∃y,ys[i]?=a_ y:=⟨ys[i]' aa,cy aa⟩;obtain⟨p1,a1,b1⟩:=hv.get I;obtain⟨p2,a2,b2⟩:=hw.get hy;refine oa ?_;refine dn (λbt=>?_) λbt=>?_;exact⟨⟨bf,rfl,λh=>aB⟩,trivial⟩;refine wx ?_;refine⟨rfl,trivial,λj hj=>?_⟩
 rcases er j i with z|z
 exact hI j z;obtain rfl:j=i:=aa
 rw[I,hy];simp at bt;rw[bt];rintro e h ⟨rfl,rfl,hI⟩;refine e6 @bq.eq_1 ?_;refine⟨⟨bh,rfl,λ_=>FB λj=>?_⟩,trivial⟩
 rcases er j xs.length with z|z
 exact hI j z;rw[j4 z,j4 aa]
end
section
variable{h:cr}{J:List br}{G:Cells}
def Dc:List bg:=[.v (.int .i64 0),.v (.int .i64 0),.v (.int .i64 0),.v (.int .i32 0),.v (.int .u16 0),.v (.int .u16 0),.v (.int .u16 0),.v (.int .u16 0),.v (.int .u16 0),.v (.int .u16 0),.v (.int .u16 0),.v (.int .u16 0),.bp,.bp,.v (.int .i64 0),.v (.int .i64 0)]
def vo(ho:h.c6):h.cells.length=12:=by simp[uC,ho.len]
def KQ(ho:h.c6):∃c0 c1 c2 c3 c4 c5 gT iB ij c9 jh ji,h.cells=[c0,c1,c2,c3,c4,c5,gT,iB,ij,c9,jh,ji]:=by
 have:=vo ho
 match h.cells,this with
 |[c0,c1,c2,c3,c4,c5,gT,iB,ij,c9,jh,ji],_=>exact⟨c0,c1,c2,c3,c4,c5,gT,iB,ij,c9,jh,ji,rfl⟩
def amD(ho:h.c6)(r):fh bh 12 (h.cells++r) 0=a_ h.bA:=by
 obtain⟨c0,c1,c2,c3,c4,c5,gT,iB,ij,c9,jh,ji,e⟩:=KQ ho;simp only[eU,e];rfl
def ET(ho:h.c6):fh bh 12 h.cells 0=a_ h.bA:=by
 have:=amD ho []
 rwa [gV] at this
def AS(h:cr):fC J h.cells h.cells:=by
 refine fC.each λa ha=>?_;simp only[uC,fo,dV] at ha
 rcases ha with rfl|rfl|rfl|rfl|⟨x,_,rfl⟩<;>exact bH _
def Mq(r:List Int){t}:b_ J (.sl (r.map eP) t) (.sl (r.map eP) .no):=hD (iE λa _=>bH _)
mutual
theorem D5{J:List br}:∀t:hc,b_ J t.bA t.bA
 |.node h ks=>by
  rw[hc.bA];exact b_.fp (BO (AS h) (bG eB (bG (ahj ks) (bG (bH _) (bG (bH _) c_)))))
 |.leaf h=>by
  rw[hc.bA];exact b_.fp (BO (AS h) (bG eB (bG eB (bG (bH _) (bG (bH _) c_)))))
 |.text h r=>by
  rw[hc.bA];exact b_.fp (BO (AS h) (bG (Mq r) (bG eB (bG (bH _) (bG (bH _) c_)))))
theorem ahk{J:List br}:∀ks:List hc,fC J (dS ks) (dS ks)
 |[]=>c_
 |k::r=>by
  rw[dS];exact bG (D5 k) (ahk r)
theorem ahj{J:List br}:∀ks:List hc,b_ J (gb (dS ks)) (gb (dS ks))
 |[]=>eB
 |k::r=>by
  rw[dS,gb];exact hD (bG (D5 k) (ahk r));exact λh=>aB
end
def aC5(ho:h.c6):cV G bB 29 [h.bA] (hc.leaf h).bA:=by
 refine eM (alD.go ?_);have hl:bz ([]++[bw h.bA.cells bf]) bh 12 (.mp ([]:List br).length 0)=a_ h.bA:=ET ho;have hf:dN Dc [(0,12,h.bA),(14,1,.v (.int .i64 1)),(15,1,.v (.int .i64 1))]=a_ (h.cells++[.bp,.bp,bq 1,bq 1]):=by
  obtain⟨c0,c1,c2,c3,c4,c5,gT,iB,ij,c9,jh,ji,e⟩:=KQ ho;simp only[eU,e];rfl
 unfold Dc at hf;exact aIW @hl @hf ((b_.mp rfl (BO (AS h) (bG eB (bG eB (bG (bH _) (bG (bH _) c_)))))).done)
def VR(ho:h.c6):(Ik h).c6:=⟨ho.S,ho.ht,ho.ha,⟨by show(-2147483648:Int)<=0;decide,by show(0:Int)<=2147483647;decide⟩,ho.len,ho.hm⟩
def amr(ho:h.c6)(r):cV G bB 30 [h.bA,.sl (r.map eP) .no] (hc.text (Ik h) r).bA:=by
 refine eM (alE.go ?_);have hs:bL ([]++[bw h.bA.cells bf]) 1 (.mp ([]:List br).length (0+3)) (.v (.int .i32 0))=a_ ([]++[bw (Ik h).bA.cells bf]):=by
  obtain⟨k,t,a,x,m⟩:=h;rfl
 have hl:bz ([]++[bw (Ik h).bA.cells bf]) bh 12 (.mp ([]:List br).length 0)=a_ (Ik h).bA:=ET (VR ho);have hf:dN Dc [(0,12,(Ik h).bA),(12,1,.sl (r.map eP) .no),(14,1,.v (.int .i64 r.length)),(15,1,.v (.int .i64 1))]=a_ ((Ik h).cells++[.sl (r.map eP) .no,.bp,bq r.length,bq 1]):=by
  obtain⟨c0,c1,c2,c3,c4,c5,gT,iB,ij,c9,jh,ji,e⟩:=KQ (VR ho);simp only[eU,e];rfl
 unfold Dc at hf;exact OV @hs @hl @hf @goInt.eq_1 @cS.{0,0} ((b_.mp rfl (BO (AS _) (bG (Mq r) (bG eB (bG (bH _) (bG (bH _) c_)))))).done)
def aG4(ks):cD (gb (dS ks)) (dS ks):=by
 cases ks with
 |nil=>exact bF ⟨rfl,rfl⟩
 |cons k r=>exact bD (by rw[dS,gb];exact λh=>aB)
def max2(a b:Nat):qT bh [.v (.int .i64 (a)),.v (.int .i64 (b))]=a_ (.v (.int .i64 ((max a b:Nat):Int))):=by
 simp only[qT,F0,LM,mj,if_true];congr 3;split<;>omega
def YI(ho:h.c6){ks}(S:∀k∈ks,k.wf)(O:cQ ks<=4611686018427387904)(hn:ks.length<=4611686018427387904):cV G bB 28 [h.bA,gb (dS ks)] (nK h ks).bA:=by
 refine eM (YY.go ?_);obtain⟨c0,c1,c2,c3,c4,c5,gT,iB,ij,c9,jh,ji,e⟩:=KQ ho;have hl:bz ([]++[bw h.bA.cells bf]) bh 12 (.mp ([]:List br).length 0)=a_ h.bA:=ET ho;have hv:=aG4 ks;have hf:dN Dc [(0,12,h.bA),(13,1,gb (dS ks)),(14,1,.v (.int .i64 2))]=a_ [c0,c1,c2,c3,c4,c5,gT,iB,ij,c9,jh,ji,.bp,gb (dS ks),bq 2,bq 0]:=by
  simp only[eU,e]
  have T:(gb (dS ks)).cells=[gb (dS ks)]:=by rcases hv with q|⟨q,_⟩<;>rw[q]<;>rfl
  unfold Dc dN;rw[if_pos ⟨rfl,of_decide_eq_true rfl⟩];unfold dN;rw[if_pos ⟨by rw[T];rfl,of_decide_eq_true rfl⟩,T];rfl
 unfold Dc at hf;refine OV @hl @hf @hv.cG @goInt.eq_1 @yU ?_;refine c8 (λi e J=>e=[(5,.mp 1 0),(12,gb (dS ks)),(13,bq ks.length),(14,bq i)]/\J=[.cells h.bA.cells bf,.cells [c0,c1,c2,c3,c4,c5,gT,iB,ij,c9,jh,ji,.bp,gb (dS ks),bq ((2+cQ (ks.take i):Nat):Int),bq ((kG (ks.take i):Nat):Int)] bf]) ks.length ⟨rfl,rfl⟩ ?_ ?_;rintro i e J Q ⟨rfl,rfl⟩;obtain⟨k,oy⟩:=cO Q;have lD:(dS ks)[i]?=a_ k.bA:=by rw[vO];simp[oy]
 have d1:decide ((i)<(ks.length:Int))=bh:=ah
 have e1:ct 1 (gb (dS ks)) (.v (.int .i64 i))=a_ (.fp [k.bA] 0):=by rw[hv.cB lD aNu,sr]
 have l1:∀J,bz J bf 1 (.fp [k.bA] 0)=a_ k.bA:=λJ=>FZ J rfl;obtain⟨d0,I7,d2,d3,d4,d5,d6,d7,d8,d9,AD,L4,p,q,XG⟩:=hc.aeC (S k (cv oy));have l2:∀J,bz J bf 1 (.fp [d0,I7,d2,d3,d4,d5,d6,d7,d8,d9,AD,L4,p,q,bq (k.size:Int),bq (k.height:Int)] 14)=a_ (bq (k.size:Int)):=λJ=>FZ J rfl;have l3:∀J,bz J bf 1 (.fp [d0,I7,d2,d3,d4,d5,d6,d7,d8,d9,AD,L4,p,q,bq (k.size:Int),bq (k.height:Int)] 15)=a_ (bq (k.height:Int)):=λJ=>FZ J rfl;rw[XG] at e1 l1;simp only[bq] at e1 l1 l2 l3;have l4:∀a b,bz [.cells h.bA.cells bf,.cells [c0,c1,c2,c3,c4,c5,gT,iB,ij,c9,jh,ji,.bp,gb (dS ks),a,b] bf] bf 1 (.mp 1 14)=a_ a:=λa b=>rfl;have EN:∀a b,bz [.cells h.bA.cells bf,.cells [c0,c1,c2,c3,c4,c5,gT,iB,ij,c9,jh,ji,.bp,gb (dS ks),a,b] bf] bf 1 (.mp 1 15)=a_ b:=λa b=>rfl;have kA:∀a b n,bL [.cells h.bA.cells bf,.cells [c0,c1,c2,c3,c4,c5,gT,iB,ij,c9,jh,ji,.bp,gb (dS ks),a,b] bf] 1 (.mp 1 14) (.v (.int .i64 n))=a_ [.cells h.bA.cells bf,.cells [c0,c1,c2,c3,c4,c5,gT,iB,ij,c9,jh,ji,.bp,gb (dS ks),.v (.int .i64 n),b] bf]:=λa b n=>rfl;have jY:∀a b n,bL [.cells h.bA.cells bf,.cells [c0,c1,c2,c3,c4,c5,gT,iB,ij,c9,jh,ji,.bp,gb (dS ks),a,b] bf] 1 (.mp 1 15) (.v (.int .i64 n))=a_ [.cells h.bA.cells bf,.cells [c0,c1,c2,c3,c4,c5,gT,iB,ij,c9,jh,ji,.bp,gb (dS ks),a,.v (.int .i64 n)] bf]:=λa b n=>rfl;have t1:=KJ oy;have b1:=H6 ks (i+1);have w1:cN.wrap (((2+cQ (ks.take i):Nat):Int)+(k.size:Int))=((2+cQ (ks.take (i+1)):Nat):Int):=by rw[fq aa aa];omega
 have w2:cN.wrap ((i)+1)=((i+1:Nat):Int):=by rw[fq aa aa];rfl
 have m1:=max2 (kG (ks.take i)) k.height;rw[<-(aia oy)] at m1;exact BI (eI @bq.eq_1 @d1 @e1 @l1) (eI @l2 @l3 @l4 @EN) @kA @jY @w1 @w2 @m1 tt;rintro e J ⟨rfl,rfl⟩;have d1:decide ((ks.length:Int)<(ks.length:Int))=bf:=af
 have EN:∀a b,bz [.cells h.bA.cells bf,.cells [c0,c1,c2,c3,c4,c5,gT,iB,ij,c9,jh,ji,.bp,gb (dS ks),a,b] bf] bf 1 (.mp 1 15)=a_ b:=λa b=>rfl;have jY:∀a b n,bL [.cells h.bA.cells bf,.cells [c0,c1,c2,c3,c4,c5,gT,iB,ij,c9,jh,ji,.bp,gb (dS ks),a,b] bf] 1 (.mp 1 15) (.v (.int .i64 n))=a_ [.cells h.bA.cells bf,.cells [c0,c1,c2,c3,c4,c5,gT,iB,ij,c9,jh,ji,.bp,gb (dS ks),a,.v (.int .i64 n)] bf]:=λa b n=>rfl;have Y:=RG ks;have w1:cN.wrap ((kG ks)+1)=((kG ks+1:Nat):Int):=by rw[fq aa aa];rfl
 refine Db @od.{0} ?_;refine(b_.mp rfl ?_).done;have:=BO (J:=[.cells h.bA.cells bf,.cells [c0,c1,c2,c3,c4,c5,gT,iB,ij,c9,jh,ji,.bp,gb (dS ks),.v (.int .i64 ((2+cQ ks:Nat):Int)),.v (.int .i64 ((kG ks+1:Nat):Int))] bf]) (AS h) (bG eB (bG (ahj ks) (bG (bH (.int .i64 ((2+cQ ks:Nat):Int))) (bG (bH (.int .i64 ((kG ks+1:Nat):Int))) c_))));rw[e] at this;rw[e];exact this
end
end Go.Proofs.YtplgiomcbchjiaaGreatDoor
section
namespace Go.bM
open Go.RowKit
def ar5(J:List br):Prop:=∀b∈J,(∃Z r,b=.cells Z r)\/∃n s e,b=.tok n s e
end Go.bM
namespace Go.Proofs.YtplgiomcbchjiaaGreatDoor
open Go Go.bM Go.RowKit
def Gd(t:cr):∀c∈t.cells,eY c:=λc T=>by
 simp only[uC,fo,dV] at T
 rcases T with rfl|rfl|rfl|rfl|⟨x,_,rfl⟩<;>exact dD _
def DU(t:cr):eY t.bA:=I4 (Gd t)
def Ext(O J:List br):Prop:=∀(j:Nat) b,O[j]?=a_ b->J[j]?=a_ b
def Ext.refl(O):Ext O O:=λ_ _ h=>h
def Ext.app{O l}:Ext O (O++l):=λ_ _ h=>bS h
def Ext.qU{O J l}(h:Ext O J):Ext O (J++l):=λj b q=>bS (h j b q)
def Ext.nil(J):Ext [] J:=λj b h=>au
def Ext.len{O J}(h:Ext O J):O.length<=J.length:=by
 rcases er J.length O.length with q|q
 have:=h J.length _ (cy q);rw[j4 (cc _)] at this;cases this;exact q
def Ext.split{O J}(h:Ext O J):∃l,J=O++l:=by
 refine⟨J.drop O.length,?_⟩;apply FB;intro j
 rcases er j O.length with q|q
 rw[fY q,h j _ (cy q),cy q];rw[gh q,tE];congr 1;omega
def ar7(O:List br)(v:bg)(l:List cr):Prop:=∃k Z off,v=.rs k Z.length 12 off l.length/\O[k]?=a_ (.cells Z bh)/\∀(i:Nat) t,l[i]?=a_ t->off+i*12+12<=Z.length/\(Z.drop (off+i*12)).take 12=t.cells
def rM(O:List br)(v:bg)(l:List cr):Prop:=cD v (l.map eU)\/ar7 O v l
def aDo{t:cr}(ho:t.c6):fh bh 8 t.cells 4=a_ (.agg (t.marks.map gL)):=by
 have V:t.cells.length=12:=vo ho;unfold fh;rw[if_pos rfl,if_pos aa];have:t.cells.drop 4=t.marks.map gL:=rfl;rw[this,oe (by simp[ho.len])]
def rM.len{O}{v:bg}{l}(h:rM O v l)(J):cG v J=a_ (.v (.int .i64 (l.length:Int)),J):=by
 rcases h with h|⟨k,Z,off,rfl,_,_⟩
 have:=h.cG J
 rwa [cS] at this
 rfl
structure asd(O:List br)(p:bg)(t:cr):Prop where
 nil:vN p=a_ p
 f0:∃q,lM 0 p=a_ q/\∀J,Ext O J->bz J bf 1 q=a_ (.v (.int .i64 t.kind))
 f4:∃q,lM 4 p=a_ q/\∀J,Ext O J->bz J bh 8 q=a_ (.agg (t.marks.map gL))
 all:∀J,Ext O J->bz J bh 12 p=a_ t.bA
def rM.tok{O}{v:bg}{l}(h:rM O v l){i:Nat}{t}(ht:l[i]?=a_ t)(ho:t.c6):∃p,ct 12 v (.v (.int .i64 (i)))=a_ p/\asd O p t:=by
 rcases h with h|⟨k,Z,off,rfl,S,T⟩
 refine⟨.fp t.cells 0,h.cB (x:=t.bA) (by simp[ht]) (vo ho),rfl,⟨_,rfl,λJ _=>rfl⟩,⟨_,rfl,λJ _=>aDo ho⟩,λJ _=>ET ho⟩;obtain⟨Y,V⟩:=T i t ht;have Q:=(cK.1 ht).1;have hg:∀j,j<12->Z[off+i*12+j]?=t.cells[j]? :=λj hj=>by
  rw[<-V,Dn hj,tE]
 refine⟨.rp k Z.length (off+i*12),?_,rfl,⟨_,rfl,λJ he=>?_⟩,⟨_,rfl,λJ he=>?_⟩,λJ he=>?_⟩;show(if 0<=(i:Int)/\(i)<(l.length:Int) then a_ (bg.rp k Z.length (off+(i:Int).toNat*12)) else bn)=_;rw[if_pos ⟨aa,aa⟩];simp;simp only[bz,he k _ S,if_true];have:=hg 0 aa;exact this;simp only[bz,he k _ S,if_true];unfold fh;rw[if_pos rfl,if_pos aa];have:(Z.drop (off+i*12+4)).take 8=((Z.drop (off+i*12)).take 12).drop 4:=by
  rw[List.drop_take,z6]
 rw[this,V];rfl;simp only[bz,he k _ S,if_true];unfold fh;rw[if_pos rfl,if_pos Y,V];rfl
section
variable{G:Cells}{hk:bg}{p:cr->Bool}{l:List cr}{O:List br}
end
end Go.Proofs.YtplgiomcbchjiaaGreatDoor
end
namespace Go.Proofs.YtplgiomcbchjiaaGreatDoor
open Go Go.bM Go.RowKit
section
variable{O J bl:List br}{v:bg}{ks:List hc}{K i id j len m n:Nat}{k:hc}{α:Type}{x:br}{l p:List cr}{t u:cr}{iV:List bg}
def Vb(J:List br)(v:bg)(ks:List hc):Prop:=(v=.bp/\ks=[])\/(ks≠[]/\∃id,v=.sl (dS ks) (.tok id)/\J[id]?=a_ (.tok ks.length 1 24))
abbrev PJ:=Fr×bg
variable{st:List PJ}
def jX:List PJ->List bg
 |[]=>[]
 |(f,v)::r=>jX r++(f.h.cells++[v])
def asW(v w:bg):Prop:=∀id xs ys,v=.sl xs (.tok id)->w≠.sl ys (.tok id)
def xX(J:List br):List PJ->Prop
 |[]=>True
 |(f,v)::r=>Vb J v f.ks/\(∀it∈r,asW v it.2)/\xX J r
def anC(ks):cY 1 (dS ks)=bh:=by
 rw[vO,cY,eJ];intro x I;obtain⟨t,_,rfl⟩:=dV.1 I;obtain⟨Z,e⟩:=t.uR;rw[e];rfl
def aFj(k:hc)(h:Vb J v ks)(hn:ks.length<1000000000):
  ∃id bl,ei J 1 8 24 v (.sl [k.bA] .exact)=a_ (.sl (dS (ks++[k])) (.tok id),bl)/\bl[id]?=a_ (.tok (ks++[k]).length 1 24)/\(∀j b,j≠id->J[j]?=a_ b->bl[j]?=a_ b)/\
   ((∃ys,v=.sl ys (.tok id))\/J.length<=id)/\(∀Z r,J[id]?≠a_ (.cells Z r)):=by
 have e1:dS (ks++[k])=dS ks++[k.bA]:=by rw[as7];rfl
 have S:cY 1 [k.bA]=bh:=anC [k];have bP:([k.bA]:List bg)≠[]:=af
 rcases h with⟨rfl,rfl⟩|⟨aiC,id,rfl,hid⟩
 refine⟨J.length,J++[.tok 1 1 24],?_,af,λj b hj h=>(bS h),bF (cc _),λZ r h=>?_⟩;simp[ei,gR,iq,iA,S,e1,dS];rw[j4 (cc _)] at h;cases h;refine⟨id,J.set id (.tok (ks.length+1) 1 24),?_,?_,λj b hj h=>?_,bD ⟨_,rfl⟩,λZ r h=>?_⟩;have Y:((dS ks).length+[k.bA].length)*8<=140737488355328:=by rw[yU];simp only[qg];omega
 simp only[ei,gR,iq,iA,S,anC ks,e1,bP,if_false,if_true,hid,yU,qg,true_and,and_self,w9] at Y⊢;rw[if_pos Y];rw[bT (gl hid),ek];rfl;rw[bE (e3 hj)];exact h;rw[hid] at h;cases h
def Sr(hj:∀j b,j≠id->J[j]?=a_ b->bl[j]?=a_ b):∀{st},xX J st->(∀it∈st,∀ys,it.2≠.sl ys (.tok id))->xX bl st
 |[],_,_=>trivial
 |(f,v)::r,h,hd=>by
  refine⟨?_,h.2.1,Sr hj h.2.2 λit hit=>hd it (by simp[hit])⟩
  rcases h.1 with q|⟨q,i,rfl,Q⟩
  exact bD q;refine bF ⟨q,i,rfl,hj i _ (λe=>?_) Q⟩;subst e;exact hd (f,.sl (dS f.ks) (.tok i)) af _ rfl
def Y8:∀{st},xX J st->∀it∈st,∀ys id,it.2=.sl ys (.tok id)->id<J.length
 |[],_,it,hit=>by cases hit
 |(f,v)::r,h,it,hit=>λys id e=>by
  rcases fo.1 hit with rfl|hit
  rcases h.1 with⟨q,_⟩|⟨_,i,q,Q⟩
  rw[q] at e;cases e;rw[q] at e;cases e;exact gl Q;exact Y8 h.2.2 it hit ys id e
def aCk{f:Fr}(h:xX J ((f,v)::st))(Y:bl[id]?=a_ (.tok (f.ks++[k]).length 1 24))(V:∀j b,j≠id->J[j]?=a_ b->bl[j]?=a_ b)
  (h3:(∃ys,v=.sl ys (.tok id))\/J.length<=id):xX bl ((⟨f.h,f.ks++[k]⟩,.sl (dS (f.ks++[k])) (.tok id))::st):=by
 have hd:∀it∈st,∀ys,it.2≠.sl ys (.tok id):=λit hit ys e=>by
  rcases h3 with⟨zs,di⟩|h3
  exact h.2.1 it hit id zs ys di e;have:=Y8 h.2.2 it hit ys _ e;omega
 exact⟨bF ⟨af,id,rfl,Y⟩,λit hit i xs ys e=>by cases e;exact hd it hit ys,Sr V h.2.2 hd⟩
mutual
theorem kF:∀t:hc,eY t.bA
 |.node h ks=>by
  rw[hc.bA];exact Gb λc T=>by
   rcases fA.1 T with T|T
   exact Gd h c T;simp only[fo,pM,or_false] at T
   rcases T with rfl|rfl|rfl|rfl
   exact nA;exact atZ ks;exact dD _;exact dD _
 |.leaf h=>by
  rw[hc.bA];exact Gb λc T=>by
   rcases fA.1 T with T|T
   exact Gd h c T;simp only[fo,pM,or_false] at T
   rcases T with rfl|rfl|rfl|rfl
   exact nA;exact nA;exact dD _;exact dD _
 |.text h r=>by
  rw[hc.bA];exact Gb λc T=>by
   rcases fA.1 T with T|T
   exact Gd h c T;simp only[fo,pM,or_false] at T
   rcases T with rfl|rfl|rfl|rfl
   exact k4 λx I c T=>by
    obtain⟨a,_,rfl⟩:=dV.1 I;have e:c=eP a:=by simpa[eP,jD] using T
    subst e;exact dD _
   exact nA;exact dD _;exact dD _
theorem We:∀ks:List hc,∀x∈dS ks,∀c∈x.cells,eY c
 |[],x,I=>by simp[dS] at I
 |k::r,x,I=>λc T=>by
  rw[dS] at I
  rcases fo.1 I with rfl|I
  rw[sr] at T;obtain rfl:=dW.1 T;exact kF k;exact We r x I c T
theorem atZ:∀ks:List hc,eY (gb (dS ks))
 |[]=>nA
 |k::r=>by
  have e:gb (dS (k::r))=.sl (dS (k::r)) .no:=by rw[dS,gb];exact λh=>aB
  rw[e];exact k4 λx I c T=>We (k::r) x I c T
end
def alZ(h:Vb J v ks):kC v (gb (dS ks)):=by
 rcases h with⟨rfl,rfl⟩|⟨bP,id,rfl,_⟩
 exact ajd;have e:gb (dS ks)=.sl (dS ks) .no:=by
  cases ks with
  |nil=>exact(bP rfl).elim
  |cons k r=>rw[dS,gb];exact λh=>aB
 rw[e];exact k4 λx I c T=>We ks x I c T
def abF{A B:List α}(h:A.length=n):(A++B).take n=A:=by rw[<-h,Pr];rfl
def Wp{A B:List α}(h:A.length=n):(A++B).drop n=B:=by rw[<-h,List.drop_left'];rfl
section
variable{A B:List bg}{h:cr}{w:bg}{n:Nat}
def aoG(ho:h.c6)(hA:A.length=n*13):(A++(h.cells++[w])++B).length=n*13+13+B.length:=by
 simp[vo ho,hA];omega
def aF6(ho:h.c6)(hA:A.length=n*13):fh bh 12 (A++(h.cells++[w])++B) (n*13)=a_ h.bA:=by
 unfold fh;rw[if_pos rfl,if_pos (by rw[aoG ho hA];omega),dQ,Wp hA,dQ,abF (vo ho)];rfl
def aF7(ho:h.c6)(hA:A.length=n*13)(bN):fh bf bN (A++(h.cells++[w])++B) (n*13+12)=a_ w:=by
 unfold fh;rw[if_neg ag,dQ,gh aa,dQ,gh (by rw[vo ho];omega),vo ho,hA,show n*13+12-n*13-12=0 by omega];rfl
def aF8(ho:h.c6)(hA:A.length=n*13)(u:bg):d_ (A++(h.cells++[w])++B) (n*13+12) [u]=A++(h.cells++[u])++B:=by
 have Y:(A++h.cells).length=n*13+12:=by rw[ek,hA,vo ho]
 have e:A++(h.cells++[w])++B=(A++h.cells)++([w]++B):=af
 unfold d_;rw[e,abF Y,qg,<-z6,Wp Y];simp
end
def OB:∀{st},TT (st.map (·.1))->(jX st).length=st.length*13
 |[],_=>rfl
 |(f,v)::r,h=>by
  have:=OB h.2.2;simp only[jX,ek,eZ,iG,vo h.1,this];omega
def CO(n:Int):bg:=.v (.int .i64 n)
def yq:List bg:=[.v (.int .i64 0),.v (.int .i64 0),.v (.int .i64 0),.v (.int .i32 0),.v (.int .u16 0),.v (.int .u16 0),.v (.int .u16 0),.v (.int .u16 0),.v (.int .u16 0),.v (.int .u16 0),.v (.int .u16 0),.v (.int .u16 0),.bp]
structure Pv(O:List br)(l:List cr)(i:Nat)(st:List PJ)(iV:List bg)(J:List br):Prop where
 gG:J[O.length]?=a_ (.cells (jX st++iV) bh)
 base:Ext O J
 ks:xX J st
 go:jN l.length (l.drop i) (st.map (·.1))=jN l.length l [⟨vi,[]⟩]
 ne:st≠[]
 len:st.length<=41
 ok:TT (st.map (·.1))
 size:wN (st.map (·.1))+st.length<=i+1
 kids:vn (st.map (·.1))<=i
 azt:i<=l.length
def al2:∀{st},xX J st->∀it∈st,∀ys id,it.2=.sl ys (.tok id)->∃n,J[id]?=a_ (.tok n 1 24)
 |[],_,it,hit=>by cases hit
 |(f,v)::r,h,it,hit=>λys id e=>by
  rcases fo.1 hit with rfl|hit
  rcases h.1 with⟨q,_⟩|⟨_,i,q,Q⟩
  rw[q] at e;cases e;rw[q] at e;cases e;exact⟨_,Q⟩;exact al2 h.2.2 it hit ys id e
def al1{Z}{b}(h0:J[K]?=a_ (.cells Z b))(h:xX J st):xX (J.set K x) st:=
 Sr (λj b hj q=>aMF) h λit hit ys e=>by
  obtain⟨n,hn⟩:=al2 h it hit ys K e;rw[h0] at hn;cases hn
def Iw(O:List br):Prop:=∀b∈O,∃Z r,b=.cells Z r
def Iw.plain(h:Iw O):ar5 O:=λb hb'=>bD (h b hb')
def avj(T:Iw O)(he:Ext O J)(V:∀j b,j≠id->J[j]?=a_ b->bl[j]?=a_ b)(h5:∀Z r,J[id]?≠a_ (.cells Z r)):Ext O bl:=λj b q=>by
 refine V j b (λe=>?_) (he j b q);subst e;obtain⟨Z,r,rfl⟩:=T b (cv q);exact h5 Z r (he _ _ q)
def agB(he:Ext O J):Ext O (J.set O.length x):=λj b q=>by
 have:=gl q;rw[bE aa];exact he j b q
def VZ(MJ:Iw O){i'}{g:Fr}{u:bg}{r}(hm:m=(jX ((g,u)::r)++iV).length)(gG:J[O.length]?=a_ (.cells (jX ((g,u)::r)++iV) bh))(axl:Ext O J)
  (S:xX J ((g,u)::r)) (fN:TT (g::r.map (·.1))) (c7:r.length+1<=41) (hw:k.wf) (k6:jN l.length (l.drop i') (⟨g.h,g.ks++[k]⟩::r.map (·.1))=jN l.length l [⟨vi,[]⟩])
  (dF:wN (g::r.map (·.1))+k.size+(r.length+1)<=i'+1) (Bd:vn (g::r.map (·.1))+1<=i') (k7:i'<=l.length) (hl:l.length<=20000):
  ∃w' bl Cp,ei J 1 8 24 u (.sl [k.bA] .exact)=a_ (w',bl)/\bL bl 1 (.rp O.length m (r.length*13+12)) w'=a_ Cp/\m=(jX ((⟨g.h,g.ks++[k]⟩,w')::r)++iV).length/\Pv O l i' ((⟨g.h,g.ks++[k]⟩,w')::r) iV Cp:=by
 have hA:(jX r).length=r.length*13:=OB fN.2.2;obtain⟨id,bl,Y,V,h3,h4,h5⟩:=aFj k S.1 (by simp only[vn] at Bd;omega);have y6:bl[O.length]?=a_ (.cells (jX ((g,u)::r)++iV) bh):=h3 O.length _ (λe=>by subst e;exact h5 _ _ gG) gG;have T:jX ((g,u)::r)++iV=jX r++(g.h.cells++[u])++iV:=rfl;have Yb:∀x,(jX r++(g.h.cells++[x])++iV).length=r.length*13+13+iV.length:=λx=>aoG fN.1 hA;refine⟨.sl (dS (g.ks++[k])) (.tok id),bl,bl.set O.length (.cells (jX r++(g.h.cells++[.sl (dS (g.ks++[k])) (.tok id)])++iV) bh),Y,?_,?_,⟨?_,agB (avj MJ axl h3 h5),?_,k6,af,aLU,⟨fN.1,λt ht=>?_,fN.2.2⟩,?_,?_,k7⟩⟩;rw[T] at y6 hm;show(match bl[O.length]? with
  |some (.cells Z bh)=>if m=Z.length then fD bl O.length bh Z 1 (r.length*13+12) (.sl (dS (g.ks++[k])) (.tok id)) else bn
  |_=>bn)=_
 rw[y6];dsimp only;rw[if_pos hm];unfold fD;rw[if_pos ⟨rfl,by rw[Yb];omega,rfl⟩];congr 4;exact aF8 fN.1 hA _;rw[hm,T,Yb];show _=(jX r++(g.h.cells++[_])++iV).length;rw[Yb];rw[bT (gl y6)];rfl;exact al1 y6 (aCk S V h3 h4)
 rcases fA.1 ht with ht|ht
 exact fN.2.1 t ht;rw[dW.1 ht];exact hw;simp only[fc,wN,zH,cQ] at dF⊢;simp only[eZ];omega;simp only[fc,vn,ek,qg] at Bd⊢;omega
def Vz(t:hc):e4 1 [t.bA]=a_ (.sl [t.bA] .exact):=by
 obtain⟨Z,e⟩:=t.uR;rw[e];rfl
def avp(ho:t.c6):dN yq [(0,12,t.bA)]=a_ (t.cells++[.bp]):=by
 obtain⟨c0,c1,c2,c3,c4,c5,gT,iB,ij,c9,jh,ji,e⟩:=KQ ho;simp only[eU,e];rfl
def anH(ho:t.c6):cY 13 [.agg (t.cells++[.bp])]=bh:=by
 have Y:(t.cells++[bg.bp]).length=13:=by rw[ek,vo ho];rfl
 have V:(t.cells++[bg.bp]).all cu=bh:=by
  rw[eJ];intro c T;simp only[uC,gB,fo,fA,dV,pM,or_false] at T
  rcases T with rfl|rfl|rfl|rfl|⟨x,_,rfl⟩|rfl<;>rfl
 simp only[cY,pK,tC,Bool.and_true,jD,Y,V];rfl
def asq(ho:t.c6):e4 13 [.agg (t.cells++[.bp])]=a_ (.sl [.agg (t.cells++[.bp])] .exact):=by
 have:=anH ho;unfold e4;rw[if_pos ⟨this,af⟩]
def aFi(hm:m=(jX st++iV).length)(gG:J[K]?=a_ (.cells (jX st++iV) bh))(hA:(jX st).length=st.length*13)(ho:t.c6)(hl:st.length<=41):
  ql J 13 72 75 (.rs K m 13 0 st.length) (.sl [.agg (t.cells++[.bp])] .exact)=a_ (.rs K (jX ((⟨t,[]⟩,.bp)::st)++iV.drop 13).length 13 0 (st.length+1),J.set K (.cells (jX ((⟨t,[]⟩,.bp)::st)++iV.drop 13) bh)):=by
 have D:l8 (jX st++iV) (st.length*13) (ez [.agg (t.cells++[.bp])])=jX ((⟨t,[]⟩,.bp)::st)++iV.drop 13:=by
  have hf:ez [.agg (t.cells++[.bp])]=t.cells++[.bp]:=by simp[ez,jD]
  have ax9:(t.cells++[bg.bp]).length=13:=by rw[ek,vo ho];rfl
  unfold l8;rw[hf,abF hA,ax9,<-z6,Wp hA];rfl
 have h3:¬([dG (t.cells++[.bp])]=([]:List bg)):=af
 show gR J 13 72 75 (.rs K m 13 0 st.length) (.sl [.agg (t.cells++[.bp])] .exact)=_;simp only[gR,iq,iA,anH ho,h3,if_false,and_self,w9,if_true,true_and,gG,eZ,iG];rw[if_pos aa,if_pos hm,D]
def att(hI:Pv O l i st iV J)(ho:t.c6)(hl:st.length<=40)(k6:jN l.length (l.drop (i+1)) (⟨t,[]⟩::st.map (·.1))=jN l.length l [⟨vi,[]⟩])(Q:i<l.length):
  Pv O l (i+1) ((⟨t,[]⟩,.bp)::st) (iV.drop 13) (J.set O.length (.cells (jX ((⟨t,[]⟩,.bp)::st)++iV.drop 13) bh)):=by
 refine⟨?_,agB hI.base,al1 hI.gG ⟨bD ⟨rfl,rfl⟩,λit hit id xs ys e=>aC,hI.ks⟩,k6,af,ah,⟨ho,λk S=>(by cases S),hI.ok⟩,?_,?_,Q⟩;rw[bT (gl hI.gG)];have:=hI.size;simp only[fc,wN,cQ,eZ];omega;have:=hI.kids;simp only[fc,vn,iG];omega
def aoM{k}(h:j<=len)(J):rz n (.rs k m n 0 len) bn (a_ (.v (.int .i64 (j)))) bn J=a_ (.rs k m n 0 j,J):=by
 have e:lO len len bn (a_ (j)) bn=a_ (0,j,len):=by
  simp[lO,ki,h]
 show FH (λr=>(r,J)) (mq n (.rs k m n 0 len) bn (a_ (.v (.int .i64 (j)))) bn)=_;simp[mq,oG,e]
def aa3{k}(h:j<len):ct n (.rs k m n 0 len) (.v (.int .i64 (j)))=a_ (.rp k m (j*n)):=by
 show(if 0<=(j:Int)/\(j)<(len:Int) then a_ (bg.rp k m (0+(j:Int).toNat*n)) else bn)=_;rw[if_pos ⟨aa,aa⟩];simp
def aoN{k o}(J):cG (.rs k m n o len) J=a_ (.v (.int .i64 (len)),J):=rfl
def HU(k m o):vN (.rp k m o)=a_ (.rp k m o):=rfl
def C0(off k m o):lM off (.rp k m o)=a_ (.rp k m (o+off)):=rfl
section
variable{A B:List bg}{h:cr}{w:bg}{n m K:Nat}{J:List br}
def aoK(gG:J[K]?=a_ (.cells (A++(h.cells++[w])++B) bh))(hm:m=(A++(h.cells++[w])++B).length)(ho:h.c6)(hA:A.length=n*13):bz J bh 12 (.rp K m (n*13))=a_ h.bA:=by
 simp only[bz,gG];rw[if_pos hm,aF6 ho hA]
def OE(gG:J[K]?=a_ (.cells (A++(h.cells++[w])++B) bh))(hm:m=(A++(h.cells++[w])++B).length)(ho:h.c6)(hA:A.length=n*13):bz J bf 1 (.rp K m (n*13+12))=a_ w:=by
 simp only[bz,gG];rw[if_pos hm,aF7 ho hA]
end
def WE(k):∀(a b:List Int),a.length=b.length->fj (fB a.length .i) (a.map λx=>cR (.int k x)) (b.map λx=>cR (.int k x))=a_ (decide (a=b))
 |[],[],_=>rfl
 |[],_::_,h=>aB
 |_::_,[],h=>aB
 |x::a,y::b,h=>by
  simp only[eZ,arA,fc,fj,nW,if_true,WE k a b aR];congr 1;by_cases I:x=y;subst I;simp;simp[I]
def agm(ht:t.c6)(hu:u.c6):pT [.i,.i,.i,.i,.i,.i,.i,.i] bf (.agg (u.marks.map gL)) (.agg (t.marks.map gL))=a_ (.v (.bool (decide (u.marks=t.marks)))):=by
 have h:=WE .u16 u.marks t.marks (by rw[hu.len,ht.len]);rw[hu.len] at h;show(fj [.i,.i,.i,.i,.i,.i,.i,.i] (u.marks.map gL) (t.marks.map gL)).map (λr=>cR (.bool (bf !=r)))=_;have e:fj [.i,.i,.i,.i,.i,.i,.i,.i] (u.marks.map gL) (t.marks.map gL)=a_ (decide (u.marks=t.marks)):=h;rw[e];simp
def qf:List bg:=yq.take 12
def aee(ho:u.c6)(J):bL (J++[.cells qf bf]) 12 (.mp J.length 0) u.bA=a_ (J++[.cells u.cells bf]):=by
 have Y:(J++[bw qf bf])[J.length]?=a_ (.cells qf bf):=af
 have V:u.bA.cells.all cu=bh:=by
  show u.cells.all cu=bh;rw[eJ];intro c T;simp only[uC,fo,dV] at T
  rcases T with rfl|rfl|rfl|rfl|⟨x,_,rfl⟩<;>rfl
 simp only[bL,Y,fD];rw[if_pos ⟨vo ho,by show 0+12<=12;omega,V⟩];have:d_ qf 0 u.bA.cells=u.cells:=by
  show qf.take 0++u.cells++qf.drop (0+u.cells.length)=u.cells;rw[vo ho];show []++u.cells++[]=u.cells;simp
 rw[this];simp
def aDp(u:cr)(J):bz (J++[.cells u.cells bf]) bf 1 (.mp J.length 3)=a_ (.v (.int .i32 u.rune)):=by
 have Y:(J++[bw u.cells bf])[J.length]?=a_ (.cells u.cells bf):=af
 simp only[bz,Y];rfl
def aFk{xs}{x}(h:J[id]?=a_ (.tok xs.length 1 21))(hn:xs.length<=1000000):
  ei J 1 4 21 (.sl (xs.map eP) (.tok id)) (.sl [.v (.int .i32 x)] .exact)=a_ (.sl ((xs++[x]).map eP) (.tok id),J.set id (.tok (xs.length+1) 1 21)):=by
 have Y:cY 1 [cR (.int .i32 x)]=bh:=rfl;have V:cY 1 (xs.map eP)=bh:=by
  rw[cY,eJ];intro y hy;obtain⟨a,_,rfl⟩:=dV.1 hy;rfl
 have bP:¬([cR (.int .i32 x)]=([]:List bg)):=af
 simp only[ei,gR,iq,iA,Y,V,bP,if_false,if_true,h,cS,eZ,iG,true_and,and_self,w9,gC,fc,kM];rw[if_pos aa];rfl
def abU(p):∀(l:List α) x,x∈l.takeWhile p->p x=bh
 |[],x,h=>au
 |a::l,x,h=>by
  rw[arG] at h;split at h;rename_i ha
  rcases fo.1 h with rfl|h
  exact ha;exact abU p l x h;cases h
def abV(p):∀(l:List α) u,l[(l.takeWhile p).length]?=a_ u->p u=bf
 |[],u,h=>au
 |a::l,u,h=>by
  rw[arG] at h;split at h;exact abV p l u aR;rename_i ha;simp at h;subst h;simpa using ha
def aGb(h:(l.drop (i+1)).takeWhile (nY t)=p):
  (∀k,k<p.length->∃u,l[i+k+1]?=a_ u/\nY t u=bh)/\(∀u,l[i+p.length+1]?=a_ u->nY t u=bf)/\(∀k u,p[k]?=a_ u->l[i+k+1]?=a_ u):=by
 have key:∀(k),k<p.length->(l.drop (i+1))[k]?=p[k]? :=λk S=>by
  have e:l.drop (i+1)=p++(l.drop (i+1)).dropWhile (nY t):=by rw[<-h,List.takeWhile_append_dropWhile]
  rw[e,fY S]
 have alU:∀(k) u,p[k]?=a_ u->l[i+k+1]?=a_ u:=λk u hu=>by
  have S:=gl hu;have:=key k S;rw[tE,hu] at this;rw[<-this];congr 1;omega
 refine⟨λk S=>?_,λu hu=>?_,alU⟩;have hu:p[k]?=a_ p[k]:=cy S;refine⟨p[k],alU k _ hu,?_⟩;exact abU _ _ _ (by rw[h];exact Pp S);refine abV (nY t) (l.drop (i+1)) u ?_;rw[h,tE,<-hu];congr 1;omega
def aGf(h:(l.drop (i+1)).takeWhile (nY t)=p)(Q:i<l.length):i+p.length<l.length:=by
 have Y:p.length<=(l.drop (i+1)).length:=by rw[<-h];exact(List.takeWhile_sublist _).length_le
 rw[z7] at Y;omega
def aDZ(J)(hn:n<=1000000):DJ J 1 4 21 [.v (.int .i32 0)] (.v (.int .i64 0)) (.v (.int .i64 (n)))=a_ (.sl [] (.tok J.length),J++[.tok 0 1 21]):=by
 show(if(0:Int)=0/\0<=(n:Int)/\(n:Int)*(4:Nat)<=140737488355328/\(n:Int)<=9223372036854775807/\[cR (.int .i32 0)].length=1/\1≠0 then _ else bn)=_;rw[if_pos ⟨rfl,aa,aa,aa,rfl,ag⟩]
def aGF(hv:cD v (l.map eU))(ht:l[i]?=a_ t)(h:∀k u,p[k]?=a_ u->l[i+k+1]?=a_ u)(hl:i+p.length<l.length)(ho:∀t∈l,t.c6)(J):
  rz 12 v (a_ (.v (.int .i64 (i)))) (a_ (.v (.int .i64 ((i+p.length+1:Nat):Int)))) bn J=a_ (.sl ((t::p).map eU) .no,J):=by
 rcases hv with rfl|⟨_,hn⟩
 have O:lO (l.map eU).length (l.map eU).length (a_ (i)) (a_ ((i+p.length+1:Nat):Int)) bn=a_ (i,i+p.length+1,(l.map eU).length):=by
  rw[cS];simp only[lO,ki,BW,BM,kB,if_false];rw[if_pos ⟨aa,aa⟩];dsimp only;rw[if_pos ⟨aa,aa⟩];simp;omega
 have lC:((l.map eU).all λx=>x.cells.length==12)=bh:=by
  rw[eJ];intro x I;obtain⟨u,hu,rfl⟩:=dV.1 I;have:=vo (ho u hu);simpa[eU,jD] using this
 have ayI:((l.map eU).take (i+p.length+1)).drop i=(t::p).map eU:=by
  apply FB;intro k;rw[tE]
  rcases er k (p.length+1) with q|q
  rw[Dn aa];cases k with
  |zero=>simp[ht]
  |succ k=>
   have S:p[k]?=a_ p[k]:=cy aa;have:=h k _ S;simp only[e9,fc,yy,S];rw[show i+(k+1)=i+k+1 by omega,this]
  rw[j4 (by rw[z8];omega),j4 ah]
 show FH (λr=>(r,J)) (mq 12 (.sl (l.map eU) .no) (a_ (.v (.int .i64 (i)))) (a_ (.v (.int .i64 ((i+p.length+1:Nat):Int)))) bn)=_;have rX:∀n:Int,oG (a_ (.v (.int .i64 n)))=a_ (a_ n):=λn=>rfl;have rY:oG bn=a_ bn:=rfl;unfold mq;rw[rX,rX,rY];dsimp only;rw[O];dsimp only;rw[if_pos lC,ayI];have No:C5 .no (l.map eU).length i (i+p.length+1) (l.map eU).length (Option.isSome (bn:Option Int))=.no:=by
  unfold C5;rw[if_neg af];split;split<;>rfl;rfl
 rw[No];rfl;have:=congrArg La hn;simp at this;subst this;simp at hl
def rM.seg(hv:rM O v l)(ht:l[i]?=a_ t)(h:∀k u,p[k]?=a_ u->l[i+k+1]?=a_ u)(hl:i+p.length<l.length)(ho:∀t∈l,t.c6):
  ∃v',(∀J,rz 12 v (a_ (.v (.int .i64 (i)))) (a_ (.v (.int .i64 ((i+p.length+1:Nat):Int)))) bn J=a_ (v',J))/\rM O v' (t::p):=by
 rcases hv with hv|⟨k,Z,off,rfl,S,T⟩
 exact⟨_,λJ=>aGF hv ht h hl ho J,bD (bD rfl)⟩;have hb':lO l.length l.length (a_ (i)) (a_ ((i+p.length+1:Nat):Int)) bn=a_ (i,i+p.length+1,l.length):=by
  simp only[lO,ki,BW,BM,kB,if_false];rw[if_pos ⟨aa,aa⟩];dsimp only;rw[if_pos ⟨aa,aa⟩];simp;omega
 have lC:∀(j) u,(t::p)[j]?=a_ u->l[i+j]?=a_ u:=λj u hu=>by
  cases j with
  |zero=>cases hu;exact ht
  |succ j=>exact h j u hu
 refine⟨.rs k Z.length 12 (off+i*12) (t::p).length,λJ=>?_,bF ⟨k,Z,off+i*12,rfl,S,λj u hu=>?_⟩⟩;show FH (λr=>(r,J)) (mq 12 (.rs k Z.length 12 off l.length) (a_ (.v (.int .i64 (i)))) (a_ (.v (.int .i64 ((i+p.length+1:Nat):Int)))) bn)=_;have rX:∀n:Int,oG (a_ (.v (.int .i64 n)))=a_ (a_ n):=λn=>rfl;have rY:oG bn=a_ bn:=rfl;unfold mq;rw[rX,rX,rY];dsimp only;rw[if_pos ⟨rfl,rfl⟩,hb'];dsimp only;by_cases xN:i=0;subst xN;rw[if_pos rfl];simp;rw[if_neg xN,if_pos aa];simp;omega;have:=T (i+j) u (lC j u hu);rw[show off+i*12+j*12=off+(i+j)*12 by omega];exact this
end
section
variable{p:cT}
def at0(h:p.tail=.no):eY p.kv:=by
 unfold cT.kv;split;exact nA;rw[h];exact k4 λx I c T=>by
  obtain⟨y,_,rfl⟩:=dV.1 I;rw[dW.1 (show c∈[bq y] from T)];exact dD _
def afv(h:p.tail=.no):∀c∈p.cells,eY c:=λc T=>by
 simp only[rI,fo,pM,or_false] at T
 rcases T with rfl|rfl|rfl|rfl|rfl
 exact dD _;exact dD _;exact dD _;exact dD _;exact at0 h
def at4(h:p.tail=.no):eY p.bA:=I4 (afv h)
def Ga{v}{ps}(h:tM v ps):eY v:=by
 rcases h.v with rfl|⟨rfl,_⟩
 exact k4 λx I c T=>by
  obtain⟨p,J,rfl⟩:=dV.1 I;exact afv (h.no p J) c T
 exact nA
def vG(J:List br)(v:bg)(st:List Int):Prop:=(v=.bp/\st=[])\/∃k Z,v=.rs k Z.length 1 0 st.length/\J[k]?=a_ (.cells Z bh)/\st.length<=Z.length/\∀(i:Nat) x,st[i]?=a_ x->Z[i]?=a_ (bq x)
def vG.app{J l}{v}{st}(h:vG J v st):vG (J++l) v st:=by
 rcases h with h|⟨k,Z,Y,V,h3,h4⟩
 exact bD h;exact bF ⟨k,Z,Y,bS V,h3,h4⟩
@[go_sem]def vG.len{J}{v}{st}(h:vG J v st):∀J,cG v J=a_ (.v (.int .i64 (st.length:Int)),J):=λJ=>by
 rcases h with⟨rfl,rfl⟩|⟨k,Z,rfl,_⟩<;>rfl
def vG.lo{J}{v}{st}{n}(h:vG J v st)(hn:n<=st.length):∃u,rz 1 v (a_ (.v (.int .i64 (n)))) bn bn J=a_ (u,J)/\xh J u (st.drop n):=by
 rcases h with⟨rfl,rfl⟩|⟨k,Z,rfl,S,bK,T⟩
 obtain rfl:n=0:=aMC
 exact⟨.bp,rfl,bD ⟨rfl,rfl⟩⟩;have O:lO st.length st.length (a_ (n)) bn bn=a_ (n,st.length,st.length):=by
  simp only[lO,ki,BW,BM,kB,if_false];rw[if_pos ⟨aa,aa⟩];simp
 have e:rz 1 (.rs k Z.length 1 0 st.length) (a_ (.v (.int .i64 (n)))) bn bn J=a_ (if n=0 then .rs k Z.length 1 0 st.length else if n<st.length then .rs k Z.length 1 (0+n*1) (st.length-n) else .sl [] .no,J):=by
  show FH (λr=>(r,J)) (mq 1 (.rs k Z.length 1 0 st.length) (a_ (.v (.int .i64 (n)))) bn bn)=_;have rX:∀n:Int,oG (a_ (.v (.int .i64 n)))=a_ (a_ n):=λn=>rfl;have rY:oG bn=a_ bn:=rfl;unfold mq;rw[rX,rY];dsimp only;rw[if_pos ⟨rfl,rfl⟩,O];dsimp only;split;rfl;split<;>rfl
 refine⟨_,e,?_⟩;split;rename_i z;subst z;exact bF (bF ⟨k,Z,0,rfl,S,λi x I=>by rw[gi];exact T i x I⟩);split;refine bF (bF ⟨k,Z,n,af,S,λi x I=>?_⟩);rw[tE] at I;exact T _ x I;have:st.drop n=[]:=tD aa;rw[this];exact bF (bD ⟨.no,rfl⟩)
def vG.push{J}{v}{st}{n}(h:vG J v st)(hn:n<=st.length)(hs:st.length<=100000)(x):∃u u' bl,rz 1 v bn (a_ (.v (.int .i64 (n)))) bn J=a_ (u,J)/\ql J 1 8 3 u (.sl [.v (.int .i64 x)] .exact)=a_ (u',bl)/\vG bl u' (st.take n++[x]):=by
 rcases h with⟨rfl,rfl⟩|⟨k,Z,rfl,S,bK,T⟩
 obtain rfl:n=0:=aMC
 refine⟨.bp,.rs J.length 1 1 0 1,J++[.cells [bq x] bh],rfl,rfl,bF ⟨J.length,[bq x],rfl,af,af,λi y hy=>?_⟩⟩
 rcases i with _|i
 simp at hy;subst hy;rfl;simp at hy;have hl:=gl S;refine⟨.rs k Z.length 1 0 n,.rs k (l8 Z n [bq x]).length 1 0 (n+1),J.set k (.cells (l8 Z n [bq x]) bh),aoM hn J,?_,bF ⟨k,l8 Z n [bq x],?_,bT hl,?_,λi y hy=>?_⟩⟩;show gR J 1 8 3 (.rs k Z.length 1 0 n) (.sl [.v (.int .i64 x)] .exact)=_;have Y:cY 1 [cR (.int .i64 x)]=bh:=rfl;have h3:¬([cR (.int .i64 x)]=([]:List bg)):=af
 have hf:ez [cR (.int .i64 x)]=[bq x]:=rfl;simp only[gR,iq,iA,Y,h3,if_false,and_self,w9,if_true,true_and,S,eZ,iG,hf,Nat.mul_one];rw[if_pos aa];simp[Lc hn];simp[l8,Lc hn];omega;unfold l8
 rcases Nat.lt_trichotomy i n with z|z|z
 rw[dQ,fY ah,Dn z];rw[fY ah,Dn z] at hy;exact T i y hy;subst z;rw[dQ,gh ah];rw[gh ah] at hy;have e1:i-(Z.take i).length=0:=ah
 have e2:i-(st.take i).length=0:=ah
 rw[e2] at hy;rw[e1];simp at hy⊢;rw[hy];rw[j4 ah] at hy;cases hy
def qI(ps:List cT):Nat->List Int->Prop
 |0,st=>st=[]
 |i+1,st=>∃p rB,ps[i]?=a_ p/\qI ps i (rB++p.kids)/\st=rB++[(i:Int)]
def apP{ps}:∀{i} {st},qI ps i st->st.length<=i
 |0,st,h=>by rw[show st=[] from h];exact cc _
 |i+1,st,⟨p,rB,_,Y,V⟩=>by
  have:=apP Y;rw[V];simp at this⊢;omega
def adz(ps:List cT)(r:bg):Prop:=∃b:Bool,r=b/\(b=bh->ps=[]\/∃x,qI ps ps.length [x])
@[go_sem]def zL(J)(p:cT):bL (J++[.cells [(0:Int),(0:Int),(0:Int),.v (.string ⟨#[]⟩),.bp] bf]) 5 (.mp J.length 0) (.agg p.cells)=a_ (J++[.cells p.cells bf]):=by
 have Y:(dG p.cells).cells.length=5:=rfl;have V:(dG p.cells).cells.all cu=bh:=by
  have:=Kh p;simp only[cY,pK,tC,Bool.and_true,fQ] at this;exact this.2
 simp only[bL,gh (cc _),ni,nL,fD];rw[if_pos ⟨Y,af,V⟩];simp[d_,jD,rI]
def aoz{G}(cE:gk G){v}{ps}(h:tM v ps):dM G bB 140 [v] (adz ps):=by
 refine en (akf.go ?_);have ln:=h.v.cG;rw[cS] at ln;have c7:=h.len;have fin:∀(J) (b),(b=bh->ps=[]\/∃x,qI ps ps.length [x])->∃n bR,dh J n b=a_ bR/\adz ps bR:=λJ b O=>by
  obtain⟨n,hn⟩:=(bH (.bool b):b_ J _ _).done;exact⟨n,_,hn,b,rfl,O⟩
 refine wy ?_;refine c8 (λi e J=>∃st bx,e=[(0,v),(3,bx),(7,v),(8,bq ps.length),(9,bq i)]/\qI ps i st/\vG J bx st) ps.length ⟨[],.bp,rfl,rfl,bD ⟨rfl,rfl⟩⟩ ?_ ?_;rintro i e J Q ⟨st,bx,rfl,hs,ho⟩;obtain⟨p,eL⟩:=cO Q;have lX:=h.ok i p eL;have p9:=h.no p (cv eL);have q8:=apP hs;have e1:ct 5 v (.v (.int .i64 (i)))=a_ (.fp p.cells 0):=h.v.cB (x:=p.bA) aM3 rfl;have I:vG (J++[.cells p.cells bf]) bx st:=ho.app;have s1:=zL J p;have aCA:bz (J++[.cells p.cells bf]) bh 5 (.mp J.length 0)=a_ (.agg p.cells):=by
  simp only[bz,gh (cc _),ni,nL];rfl
 have l4:bz (J++[.cells p.cells bf]) bf 1 (.mp J.length 4)=a_ p.kv:=by
  simp only[bz,gh (cc _),ni,nL];rfl
 have kI:=lX.kids;generalize J++[.cells p.cells bf]=g at I s1 aCA l4;have w1:cN.wrap ((st.length:Int)-(p.kids.length:Int))=(st.length:Int)-(p.kids.length:Int):=fq aa aa;refine oa (jE (asO cE lX p9) (bY (at4 p9) dw) ?_);rintro r ⟨b,rfl⟩;refine wy ?_;cases b with
 |false=>
  exact wy (fin _ bf λq=>av)
 |true=>
  refine wy ?_;refine dn (λq=>?_) λq=>?_;exact fin _ bf λq=>av
  have bK:p.kids.length<=st.length:=aq
  have mQ:(st.length:Int)-(p.kids.length:Int)=((st.length-p.kids.length:Nat):Int):=aa
  obtain⟨u,c1,c2⟩:=I.lo (n:=st.length-p.kids.length) aa;have kv:xh g p.kv p.kids:=by
   unfold cT.kv;split;rename_i z;exact bD ⟨rfl,z⟩;exact bF (bD ⟨_,rfl⟩)
  rw[mQ] at q⊢;refine wy (cm (avf c2 kv ah aa) ?_);rintro _ g2 ⟨⟨b2,rfl,iS⟩,hh⟩;rw[hh];clear hh;refine wy ?_;cases b2 with
  |false=>
   exact wy (fin _ bf λq=>av)
  |true=>
   have hd:=iS rfl;obtain⟨u1,u2,g3,d1,d2,d3⟩:=I.push (n:=st.length-p.kids.length) aa aa (i);refine wy ?_;refine⟨_,_,rfl,⟨p,st.take (st.length-p.kids.length),eL,?_,rfl⟩,d3⟩;have z:st.take (st.length-p.kids.length)++p.kids=st:=(congrArg (λy=>st.take (st.length-p.kids.length)++y) hd.symm).trans (UO _ _);rw[z];exact hs
 rintro e J ⟨st,bx,rfl,hs,ho⟩;refine oa ?_;refine dn (λq=>?_) λq=>?_;obtain⟨x,rfl⟩:∃x,st=[x]:=FD.1 aq;exact fin _ bh λ_=>bF ⟨x,hs⟩;refine wy (fin _ _ λz=>bD ?_);have:(ps.length:Int)=0:=eq_of_beq z;exact List.length_eq_zero_iff.1 aa
end
section
variable{l:List (List UInt8)}
@[go_sem]def zA(l:List (List UInt8)):cY 1 (l.map bu)=bh:=by
 rw[cY,eJ];intro x I;obtain⟨t,ht,rfl⟩:=dV.1 I;rfl
def DT:∀x∈l.map bu,∀c∈x.cells,eY c:=λx I c T=>by
 obtain⟨s,_,rfl⟩:=dV.1 I;rw[dW.1 (show c∈[bu s] from T)];exact dD _
def qX{v}(h:cD v (l.map bu)):eY v:=by
 rcases h with rfl|⟨rfl,_⟩
 exact k4 DT;exact nA
def B5{J}{v}{xs}{n}{e}(h:de J v xs n e)(T:∀x∈xs,∀c∈x.cells,eY c):∃v',cD v' xs/\kC v v'/\eY v':=by
 rcases h with⟨rfl,rfl⟩|⟨id,rfl,_⟩
 exact⟨.bp,bF ⟨rfl,rfl⟩,nA,nA⟩;exact⟨.sl xs .no,bD rfl,k4 T,k4 T⟩
def asu{G}{k}{J}{bx}(S:J[k]?=a_ (.cells [bx] bf))(hA:de J bx (l.map bu) 1 9)(hl:l.length<=100000)(s):
  cw G bB 133 [bu s,.mp k 0] J λr bl=>∃cZ,bl[k]?=a_ (.cells [cZ] bf)/\de bl cZ ((if l.any (s== ·) then l else l++[s]).map bu) 1 9:=by
 refine aka.go ?_;obtain⟨v',Y,V,h3⟩:=B5 hA DT;refine wy ?_;refine dx (L2 Y h3 aa s) ?_;refine wy (cM (λq=>?_) λq=>?_);have q':(l.any (s== ·))=bf:=ak
 obtain⟨cl,g2,e2,fM,bP,bK,hk2⟩:=nv (x:=bu s) (bW:=16) hA (zA l) rfl ag ag ah;have kb:g2[k]?=a_ (.cells [bx] bf):=hk2 _ _ S λxs z=>by
  rcases hA with⟨q1,_⟩|⟨id,q1,bt⟩
  rw[q1] at z;cases z;rw[q1] at z;cases z;rw[S] at bt;cases bt
 have ho:cu cl=bh:=aMO
 have s1:=rC ho kb;have ab:e4 1 [bu s]=a_ (.sl [bu s] .exact):=rfl;refine qK @q (ff S) @ab @e2 @s1 ?_;refine⟨cl,bT (gl kb),?_⟩;rw[if_neg (by rw[q'];decide),gC]
 rcases fM with z|⟨id,b9,z2⟩
 exact bD z;refine bF ⟨id,b9,?_⟩;rw[bE];exact z2;rintro rfl;rw[kb] at z2;cases z2;have q':(l.any (s== ·))=bh:=ak
 refine e6 @q ?_;refine⟨bx,S,?_⟩;rw[if_pos q'];exact hA
def ar3(ps:List cT)(r:bg):Prop:=∃l:List (List UInt8),cD r (l.map bu)/\l.length<=ps.length/\∀s∈l,vc s=bh
def am3{G}{v}{ps}(h:tM v ps):dM G bB 74 [v] (ar3 ps):=by
 refine en (ajK.go ?_);have ln:=h.v.cG;rw[cS] at ln;have c7:=h.len;refine wy ?_;refine c8 (λi e J=>∃l bx,e=[(3,.mp 0 0),(4,.fn (.func 133) [] [.mp 0 0]),(8,v),(9,bq ps.length),(10,bq i)]/\l.length<=i/\(∀s∈l,vc s=bh)/\J[0]?=a_ (.cells [bx] bf)/\de J bx (l.map bu) 1 9) ps.length ⟨[],.bp,rfl,cc _,af,rfl,bD ⟨rfl,rfl⟩⟩ ?_ ?_;rintro i e J Q ⟨l,bx,rfl,hl,hn,h0,hA⟩;obtain⟨p,eL⟩:=cO Q;have lX:=h.ok i p eL;have e1:ct 5 v (i:Int)=a_ (.fp p.cells 0):=h.v.cB (x:=p.bA) aM3 rfl;have e2:∀J,bz J bh 5 (.fp p.cells 0)=a_ (.agg p.cells):=λJ=>rfl;have s1:=zL J p;have l0:bz (J++[.cells p.cells bf]) bf 1 (.mp J.length 0)=a_ (.v (.int .i64 p.kind)):=by
  simp only[bz,gh (cc _),ni,nL];rfl
 have l3:bz (J++[.cells p.cells bf]) bf 1 (.mp J.length 3)=a_ (bu p.name):=by
  simp only[bz,gh (cc _),ni,nL];rfl
 have Jj:(J++[bw p.cells bf])[0]?=a_ (.cells [bx] bf):=bS h0;have vY:de (J++[bw p.cells bf]) bx (l.map bu) 1 9:=by
  rcases hA with z|⟨id,b9,z2⟩
  exact bD z;exact bF ⟨id,b9,bS z2⟩
 refine wy (cM (λq=>?_) λq=>?_);refine wy (cm (asu Jj vY aa p.name) ?_);rintro r g2 ⟨cZ,k1,k2⟩;have q6:vc p.name=bh:=by
  have q':p.kind=1:=ak
  rcases lX.1 with z|z|z
  exact z.2.2.2.1;omega;omega
 refine fJ ?_;refine⟨_,cZ,rfl,?_,?_,k1,k2⟩;split;omega;simp;omega;intro s hs;split at hs;exact hn s hs
 rcases fA.1 hs with z|z
 exact hn s z;rw[dW.1 z];exact q6;refine e6 @q ?_;exact⟨l,bx,rfl,aa,hn,Jj,vY⟩;rintro e J ⟨l,bx,rfl,hl,hn,h0,hA⟩;refine wy ?_
 rcases hA with⟨rfl,z⟩|⟨id,rfl,_⟩
 obtain⟨n,rW⟩:=(eB:b_ J _ _).done;exact⟨n,_,rW,l,bF ⟨rfl,z⟩,hl,hn⟩;obtain⟨n,rW⟩:=(hD (iE λa _=>bH _):b_ J _ _).done;exact⟨n,_,rW,l,bD rfl,hl,hn⟩
end
section
variable{i:Nat}
def yl(ps:List cT):Nat->Int->Nat
 |0,_=>0
 |f+1,i=>match ps[i.toNat]? with
  |none=>0
  |some p=>3+(p.kids.map λk=>yl ps f k+1).sum
def aHP{ps}(h:rL ps):∀(n f g) (i),i.toNat<n->i.toNat<f->i.toNat<g->yl ps f i=yl ps g i:=by
 intro n
 induction n with
 |zero=>intro f g i h0;omega
 |succ n ih=>
  intro f g i h0 Y V;obtain⟨f,rfl⟩:∃f',f=f'+1:=⟨f-1,aa⟩;obtain⟨g,rfl⟩:∃g',g=g'+1:=⟨g-1,aa⟩;unfold yl;cases J:ps[i.toNat]? with
  |none=>rfl
  |some p=>
   dsimp only;congr 2;refine BU λk S=>?_;have:=(h _ p J).2 k S;rw[ih f g k aa aa aa]
def sz(ps:List cT)(i:Int):Nat:=yl ps (i.toNat+1) i
def ap0{ps}(h:rL ps){p}(J:ps[i]?=a_ p):sz ps (i)=3+(p.kids.map λk=>sz ps k+1).sum:=by
 show yl ps (i+1) (i)=_;unfold yl;rw[yw,J];dsimp only;congr 2;refine BU λk S=>?_;have:=(h _ p J).2 k S;rw[aHP h (i+1) i (k.toNat+1) k aa aa aa];rfl
def apS{ps}(h:rL ps):∀{i} {st},qI ps i st->(st.map λk=>sz ps k+1).sum<=4*i
 |0,st,hs=>by rw[show st=[] from hs];simp
 |i+1,st,⟨p,rB,J,Y,V⟩=>by
  have:=apS h Y;rw[V];simp only[gC,arF,fc,kM,Aa,Iu] at this⊢;rw[ap0 h J];omega
structure qk(k:Nat)(v:bg)(l:List dL)(out:bg)(J:List br):Prop where
 b:J[k]?=a_ (.cells [v,out] bf)
 app:de J out (l.map nh) 5 240
 ok:∀x∈l,x.c6
def iZ(k:Nat)(J bl:List br):Prop:=J.length<=bl.length/\∀(j:Nat) Z fz,j≠k->J[j]?=a_ (.cells Z fz)->bl[j]?=a_ (.cells Z fz)
def iZ.refl(k)(J):iZ k J J:=⟨cc _,λ_ _ _ _ h=>h⟩
def iZ.trans{k}{a b c}(h:iZ k a b)(q:iZ k b c):iZ k a c:=⟨iz h.1 q.1,λj x f hj e=>q.2 j x f hj (h.2 j x f hj e)⟩
def iZ.app{k}{J l}:iZ k J (J++l):=⟨af,λ_ _ _ _ h=>bS h⟩
def qk.app'{k}{v out}{l}{J x}(h:qk k v l out J):qk k v l out (J++x):=by
 refine⟨bS h.b,?_,h.ok⟩
 rcases h.app with z|⟨id,b9,z2⟩
 exact bD z;exact bF ⟨id,b9,bS z2⟩
section
variable{G:Cells}{k:Nat}{v out:bg}{l:List dL}{J:List br}
@[go_sem]def qk.Hp(h:qk k v l out J):bz J bf 1 (.mp k 0)=a_ v:=aS
@[go_sem]def qk.iW(h:qk k v l out J):bz J bf 1 (.mp k 1)=a_ out:=aS
def qk.push(h:qk k v l out J)(x)(I:x.c6)(hl:l.length<=100000):∃o' g,ei J 5 48 240 out (.sl [.agg x.cells] .exact)=a_ (o',g)/\∃g',bL g 1 (.mp k 1) o'=a_ g'/\qk k v (l++[x]) o' g'/\iZ k J g':=by
 obtain⟨cl,g2,e2,fM,bP,bK,hk2⟩:=nv (bW:=48) h.app (aae l) (S2 x) ag ag ah;have kb:g2[k]?=a_ (.cells [v,out] bf):=hk2 _ _ h.b λxs z=>by
  rcases h.app with⟨q1,_⟩|⟨id,q1,bt⟩
  rw[q1] at z;cases z;rw[q1] at z;cases z;rw[h.b] at bt;cases bt
 have ho:cu cl=bh:=aMO
 have eW:cl.cells=[cl]:=aMN
 have s2:bL g2 1 (.mp k 1) cl=a_ (g2.set k (.cells [v,cl] bf)):=by
  simp only[bL,kb,fD,eW];simp[ho,d_]
 refine⟨cl,g2,e2,_,s2,⟨bT (gl kb),?_,λy hy=>?_⟩,by simpa using bK,λj Z fz hj q=>?_⟩;rw[gC]
 rcases fM with z|⟨id,b9,z2⟩
 exact bD z;refine bF ⟨id,b9,?_⟩;rw[bE];exact z2;rintro rfl;rw[kb] at z2;cases z2
 rcases fA.1 hy with z|z
 exact h.ok y z;rw[dW.1 z];exact I;rw[bE (e3 hj)];exact hk2 _ _ q λxs z=>by
  rcases h.app with⟨q1,_⟩|⟨id,q1,bt⟩
  rw[q1] at z;cases z;rw[q1] at z;cases z;rw[q] at bt;cases bt
@[go_sem]def adZ(x:dL):e4 5 [.agg x.cells]=a_ (.sl [.agg x.cells] .exact):=Vx x
def Lr(k:Nat)(v:bg)(l:List dL)(n:Nat)(J bl:List br):Prop:=∃l2 o2,qk k v (l++l2) o2 bl/\l2.length<=n/\iZ k J bl
def Vd(G:Cells)(k:Nat)(v:bg)(ps:List cT)(i:Int):Prop:=∀(b:Bool) l out J,qk k v l out J->l.length+sz ps i<=100000->cw G bB 254 [.mp k 0,i,b] J λr bl=>Lr k v l (sz ps i) J bl
def Hi(p:cT)(g):xh g p.kv p.kids:=by
 unfold cT.kv;split;rename_i z;exact bD ⟨rfl,z⟩;exact bF (bD ⟨_,rfl⟩)
def zM{f:Int->Nat}{ks:List Int}{j}{x}(I:ks[j]?=a_ x):((ks.take (j+1)).map f).sum=((ks.take j).map f).sum+f x:=by
 rw[vA,I];simp
def C4(f:Int->Nat)(ks:List Int)(j):((ks.take j).map f).sum<=(ks.map f).sum:=by
 conv=>rhs;rw[<-UO j ks]
 rw[gC,arF];omega
def aCJ{ps}(h:tM v ps){p}(eL:ps[i]?=a_ p)(ih:∀x∈p.kids,Vd G k v ps x):Vd G k v ps (i):=by
 intro b l out J hS hn;have lX:=h.ok i p eL;have p9:=h.no p (cv eL);have kI:=lX.kids;have dF:=ap0 h.ok eL;refine ak1.go ?_;have aEM:dL.c6 ⟨2,0,0,0,[]⟩:=⟨Dm _,bF (bD ⟨bD rfl,rfl,rfl,rfl⟩)⟩;have aGW:dL.c6 ⟨3,0,0,0,[]⟩:=⟨Dm _,bF (bD ⟨bF (bD rfl),rfl,rfl,rfl⟩)⟩;have aER:dL.c6 ⟨4,0,0,0,[]⟩:=⟨Dm _,bF (bD ⟨bF (bF rfl),rfl,rfl,rfl⟩)⟩;have agD:∀c:Int,dN [.v (.int .i64 0),.v (.int .i64 0),.v (.int .i64 0),.v (.int .i64 0),.v (.string ⟨#[]⟩)] [(0,1,.v (.int .i64 c))]=a_ (iF ⟨c,0,0,0,[]⟩):=λc=>rfl;refine eN (λe g=>e=[(0,.mp k 0),(1,.v (.int .i64 (i))),(2,.v (.bool b))]/\Lr k v l 1 J g) ?_ ?_;cases b with
 |true=>
  obtain⟨o1,g1,e1,g2,s1,fk,q4⟩:=hS.push _ aEM aa;refine wx ?_;exact⟨trivial,_,o1,fk,af,q4⟩
 |false=>
  refine wx ?_;exact⟨trivial,[],out,by rw[gV];exact hS,af,iZ.refl _ _⟩
 rintro e g ⟨rfl,l1,o1,fk,hl1,q4⟩;refine eN (λe g2=>∃m,e=[(0,.mp k 0),(2,.v (.bool b)),(6,.mp m 0)]/\m≠k/\g2[m]?=a_ (.cells p.cells bf)/\qk k v (l++l1) o1 g2/\iZ k J g2) ?_ ?_;have e1:ct 5 v (.v (.int .i64 (i)))=a_ (.fp p.cells 0):=h.v.cB (x:=p.bA) aM3 rfl;have s1:=zL g p;refine wx ?_;have:=gl fk.b;exact⟨g.length,rfl,aa,af,fk.app',q4.trans iZ.app⟩;rintro e g2 ⟨m,rfl,JC,hm,gu,sV⟩;have m0:∀bl,iZ k g2 bl->bl[m]?=a_ (.cells p.cells bf):=λbl O=>O.2 _ _ _ JC hm;have fT:∀bl,bl[m]?=a_ (.cells p.cells bf)->bz bl bf 1 (.mp m 0)=a_ (.v (.int .i64 p.kind))/\bz bl bf 1 (.mp m 1)=a_ (.v (.int .i64 p.low))/\bz bl bf 1 (.mp m 2)=a_ (.v (.int .i64 p.high))/\bz bl bf 1 (.mp m 3)=a_ (bu p.name)/\bz bl bf 1 (.mp m 4)=a_ p.kv:=λbl q=>by
  simp only[bz,q];exact⟨rfl,rfl,rfl,rfl,rfl⟩
 refine eN (λe g3=>e=[(0,.mp k 0),(2,.v (.bool b))]/\Lr k v l (sz ps (i)-1) J g3) ?_ ?_;refine wy ?_
 rcases lX.1 with⟨S,pe,zb,q6,aKL⟩|⟨S|S,pe,zb,q6,hk2,_⟩|⟨S,q6,gZ,h0,Y,V⟩
 have f1:dN [.v (.int .i64 0),.v (.int .i64 0),.v (.int .i64 0),.v (.int .i64 0),.v (.string ⟨#[]⟩)] [(0,1,.v (.int .i64 1)),(4,1,bu p.name)]=a_ (iF ⟨1,0,0,0,p.name⟩):=rfl;obtain⟨mY,g4,eW,g5,jY,AZ,y7⟩:=gu.push ⟨1,0,0,0,p.name⟩ ⟨Dm _,bD ⟨rfl,q6,rfl,rfl⟩⟩ ah;refine wx ?_;rw[dQ] at AZ;exact⟨trivial,_,mY,AZ,ah,sV.trans y7⟩;have lk:=zn p9 (iz kI ag);have kv:∀g,xh g p.kv p.kids:=Hi p;refine wy ?_;refine c8 (λj e g=>e=[(0,.mp k 0),(2,.v (.bool b)),(48,p.kv),(49,bq p.kids.length),(50,bq j)]/\∃l3 jW,qk k v (l++l3) jW g/\l3.length<=1+((p.kids.take j).map λx=>sz ps x+1).sum/\iZ k J g) p.kids.length ⟨rfl,l1,o1,gu,aa,sV⟩ ?_ ?_
 · rintro j e g hj ⟨rfl,l3,jW,o7,s0,tY⟩
   obtain⟨x,I⟩:=cO hj;have r4:=cv I;obtain⟨x0,x1⟩:=lX.2 x r4;obtain⟨xn,rfl⟩:=pJ x0;have k7:=gl eL;obtain⟨q,hq⟩:∃q,ps[xn]?=a_ q:=⟨ps[xn]' aa,cy aa⟩;have e1:ct 5 v (.v (.int .i64 (xn)))=a_ (.fp q.cells 0):=h.v.cB (x:=q.bA) aLS rfl;have di:∀J,bz J bf 1 (.fp q.cells 0)=a_ (.v (.int .i64 q.kind)):=λJ=>rfl;obtain⟨pk,k1,k2⟩:=(kv g).get I;have wO:=zM (f:=λx=>sz ps x+1) I;have sl:=C4 (λx=>sz ps x+1) p.kids (j+1);have next:∀(c),cw G bB 254 [.mp k 0,.v (.int .i64 (xn)),.v (.bool c)] g λr g'=>Lr k v (l++l3) (sz ps (xn)) g g':=λc=>ih _ r4 c (l++l3) jW g o7 ah;have fin:∀g',Lr k v (l++l3) (sz ps (xn)) g g'->∃l3 jW,qk k v (l++l3) jW g'/\l3.length<=1+((p.kids.take (j+1)).map λx=>sz ps x+1).sum/\iZ k J g':=λg' ⟨l4,mY,b9,z2,z3⟩=>⟨l3++l4,mY,by rw[<-dQ];exact b9,by simp only[ek];omega,tY.trans z3⟩;refine oa ?_;refine dn (λbt=>?_) λbt=>?_
   · refine cm (next bh) ?_
     intro r g' D;refine fJ ?_;exact⟨rfl,fin g' D⟩
   · refine wx (cm (next _) ?_)
     intro r g' D;refine fJ ?_;exact⟨rfl,fin g' D⟩
 rintro e g ⟨rfl,l3,jW,o7,s0,tY⟩;rw[od] at s0;refine e6 @bq.eq_1 ?_;exact⟨trivial,l3,jW,o7,aa,tY⟩;have lk:=zn p9 (iz kI ag);have kv:∀g,xh g p.kv p.kids:=Hi p;refine wy ?_;refine c8 (λj e g=>e=[(0,.mp k 0),(2,.v (.bool b)),(81,p.kv),(82,bq p.kids.length),(83,bq j)]/\∃l3 jW,qk k v (l++l3) jW g/\l3.length<=1+((p.kids.take j).map λx=>sz ps x+1).sum/\iZ k J g) p.kids.length ⟨rfl,l1,o1,gu,aa,sV⟩ ?_ ?_;rintro j e g hj ⟨rfl,l3,jW,o7,s0,tY⟩;obtain⟨x,I⟩:=cO hj;have r4:=cv I;obtain⟨x0,x1⟩:=lX.2 x r4;obtain⟨xn,rfl⟩:=pJ x0;have k7:=gl eL;obtain⟨q,hq⟩:∃q,ps[xn]?=a_ q:=⟨ps[xn]' aa,cy aa⟩;have e1:ct 5 v (.v (.int .i64 (xn)))=a_ (.fp q.cells 0):=h.v.cB (x:=q.bA) aLS rfl;have di:∀J,bz J bf 1 (.fp q.cells 0)=a_ (.v (.int .i64 q.kind)):=λJ=>rfl;obtain⟨pk,k1,k2⟩:=(kv g).get I;have wO:=zM (f:=λx=>sz ps x+1) I;have sl:=C4 (λx=>sz ps x+1) p.kids (j+1);refine wy (cM (λbt=>?_) λbt=>?_);obtain⟨mY,g4,eW,g5,jY,AZ,y7⟩:=o7.push _ aER ah;refine wx ?_;refine cm (ih _ r4 _ (l++l3++[⟨4,0,0,0,[]⟩]) mY g5 AZ ah) ?_;rintro r g' ⟨l4,ve,b9,z2,z3⟩;refine wx ?_;exact⟨rfl,l3++[⟨4,0,0,0,[]⟩]++l4,ve,by rw[<-dQ,<-dQ];exact b9,by simp only[ek,qg];omega,(tY.trans y7).trans z3⟩;refine wx (cm (ih _ r4 _ (l++l3) jW g o7 ah) ?_);rintro r g' ⟨l4,ve,b9,z2,z3⟩;refine wx ?_;exact⟨rfl,l3++l4,ve,by rw[<-dQ];exact b9,by simp only[ek];omega,tY.trans z3⟩;rintro e g ⟨rfl,l3,jW,o7,s0,tY⟩;rw[od] at s0;refine e6 @bq.eq_1 ?_;exact⟨trivial,l3,jW,o7,aa,tY⟩;obtain⟨x,I⟩:∃x,p.kids=[x]:=FD.1 gZ;have r4:x∈p.kids:=by rw[I];simp
 obtain⟨x0,x1⟩:=lX.2 x r4;obtain⟨xn,rfl⟩:=pJ x0;have k7:=gl eL;obtain⟨q,hq⟩:∃q,ps[xn]?=a_ q:=⟨ps[xn]' aa,cy aa⟩;have e1:ct 5 v (.v (.int .i64 (xn)))=a_ (.fp q.cells 0):=h.v.cB (x:=q.bA) aLS rfl;have di:∀J,bz J bf 1 (.fp q.cells 0)=a_ (.v (.int .i64 q.kind)):=λJ=>rfl;obtain⟨pk,k1,k2⟩:=(Hi p g2).get (i:=0) (by rw[I];rfl);have az8:ct 1 p.kv (.v (.int .i64 0))=a_ pk:=k1;rw[I] at dF;simp only[fc,kM,Aa,Iu] at dF;refine wx (cm (ih _ r4 _ (l++l1) o1 g2 gu ah) ?_);rintro r g' ⟨l4,ve,b9,z2,z3⟩;have f1:dN [.v (.int .i64 0),.v (.int .i64 0),.v (.int .i64 0),.v (.int .i64 0),.v (.string ⟨#[]⟩)] [(0,1,.v (.int .i64 5)),(2,1,.v (.int .i64 p.low)),(3,1,.v (.int .i64 p.high))]=a_ (iF ⟨5,0,p.low,p.high,[]⟩):=rfl;obtain⟨vf,g7,L8,g8,uw,Xs,awS⟩:=b9.push ⟨5,0,p.low,p.high,[]⟩ ⟨Dm _,bF (bF ⟨rfl,rfl,h0,Y,V⟩)⟩ ah;refine wx ?_;exact⟨trivial,l1++l4++[⟨5,0,p.low,p.high,[]⟩],vf,by rw[<-dQ,<-dQ];exact Xs,by simp only[ek,qg];omega,(sV.trans z3).trans awS⟩;rintro e g3 ⟨rfl,l3,jW,o7,s0,tY⟩;cases b with
 |true=>
  obtain⟨mY,g4,eW,g5,jY,AZ,y7⟩:=o7.push _ aGW ah;refine wx ?_;rw[dQ] at AZ;exact⟨_,mY,AZ,ah,tY.trans y7⟩
 |false=>
  refine wy ?_;exact⟨l3,jW,o7,aa,tY⟩
end
end
def vq(c:UInt8):bg:=.v (.int .u8 (c.toNat:Int))
def Ac(J:List br)(k:Nat)(l:List UInt8):Prop:=∃c0 bv,J[k]?=a_ (.cells [c0,bv] bf)/\(c0=.iK k (295,2)\/c0=.mp k 0)/\de J bv (l.map vq) 1 5/\(l=[]->bv=.bp)
def Dq(J:List br)(k:Nat)(l:List UInt8)(bv:bg):Prop:=J[k]?=a_ (.cells [.mp k 0,bv] bf)/\de J bv (l.map vq) 1 5/\(l=[]->bv=.bp)
@[go_sem]def aag(l:List UInt8):cY 1 (l.map vq)=bh:=by
 rw[cY,eJ];intro x I;obtain⟨t,ht,rfl⟩:=dV.1 I;rfl
section
variable{G:Cells}{k:Nat}{l:List UInt8}{J:List br}
def iZ.set{x}:iZ k J (J.set k x):=⟨af,λj Z fz hj h=>aNA⟩
def afk(h:Ac J k l):cw G bB 236 [.mp k 0] J λr bl=>r=.bQ []/\(∃bv,Dq bl k l bv)/\iZ k J bl:=by
 obtain⟨c0,bv,Y,rfl|rfl,h3,h4⟩:=h;refine cm (ae4 arc Y) ?_;rintro r bl ⟨rfl,rfl⟩;refine⟨rfl,⟨bv,bT (gl Y),?_,h4⟩,iZ.set⟩
 rcases h3 with z|⟨id,b9,z2⟩
 exact bD z;refine bF ⟨id,b9,?_⟩;rw[bE];exact z2;rintro rfl;rw[Y] at z2;cases z2;refine cm (ae7 arc Y) ?_;rintro r bl ⟨rfl,rfl⟩;exact⟨rfl,⟨bv,Y,h3,h4⟩,iZ.refl _ _⟩
def Dq.st{bv}(h:Dq J k l bv):Ac J k l:=⟨_,bv,h.1,bF rfl,h.2⟩
@[go_sem]def Dq.fT{bv}(h:Dq J k l bv):bz J bf 1 (.mp k 1)=a_ bv:=by
 simp only[bz,h.1];rfl
def Dq.put{bv dc}{g}{l'}(h:Dq J k l bv)(hA:de g dc (l'.map vq) 1 5)(hz:l'=[]->dc=.bp)(S:∀(j:Nat) Z fz,J[j]?=a_ (.cells Z fz)->g[j]?=a_ (.cells Z fz))(hl:J.length<=g.length):
  ∃g',bL g 1 (.mp k 1) dc=a_ g'/\Ac g' k l'/\iZ k J g':=by
 have kb:=S _ _ _ h.1
 have ho:cu dc=bh:=az
 have eW:dc.cells=[dc]:=by cases dc<;>first|rfl|cases ho
 have s2:bL g 1 (.mp k 1) dc=a_ (g.set k (.cells [.mp k 0,dc] bf)):=by
  simp only[bL,kb,fD,eW];simp[ho,d_]
 refine⟨_,s2,⟨_,dc,bT (gl kb),bF rfl,?_,hz⟩,aJ,λj Z fz hj q=>?_⟩
 rcases hA with z|⟨id,b9,z2⟩
 exact bD z;refine bF ⟨id,b9,?_⟩;rw[bE];exact z2;rintro rfl;rw[kb] at z2;cases z2;rw[bE (e3 hj)];exact S _ _ _ q
def Qe(h:Ac J k l)(hl:l.length<=100000000)(c):cw G bB 177 [.mp k 0,.v (.int .u8 (c.toNat:Int))] J λr bl=>Ac bl k (l++[c])/\iZ k J bl:=by
 refine akp.go ?_;refine wy (cm (afk h) ?_);rintro _ g ⟨rfl,⟨bv,hB⟩,O⟩;obtain⟨cl,g2,e2,fM,bP,bK,hk2⟩:=nv (x:=vq c) (bW:=1) hB.2.1 (aag l) rfl ag ag ah;have rT:de g2 cl ((l++[c]).map vq) 1 5:=aLX
 obtain⟨g3,eA,tY,A3⟩:=hB.put rT (λq=>by simp at q) (λj Z fz q=>hk2 _ _ q λxs z=>by
  rcases hB.2.1 with⟨q1,_⟩|⟨id,q1,bt⟩
  rw[q1] at z;cases z;rw[q1] at z;cases z;rw[q] at bt;cases bt) bK
 unfold vq at e2;have di:FW g 1 5 bv (.sl [.v (.int .u8 (c.toNat:Int))] .exact)=a_ (cl,g2):=e2;refine jB @hB.fT @di @eA ?_;exact⟨tY,O.trans A3⟩
def apW(h:Ac J k l)(s)(hl:l.length+s.length<=100000000):cw G bB 173 [.mp k 0,bu s] J λr bl=>Ac bl k (l++s)/\iZ k J bl:=by
 refine ako.go ?_;refine wy (cm (afk h) ?_);rintro _ g ⟨rfl,⟨bv,hB⟩,O⟩;have key:∃cl g2,B2 g 1 5 bv (bu s)=a_ (cl,g2)/\de g2 cl ((l++s).map vq) 1 5/\(l++s=[]->cl=.bp)/\g.length<=g2.length/\∀(j:Nat) Z fz,g[j]?=a_ (.cells Z fz)->g2[j]?=a_ (.cells Z fz):=by
  rcases s with _|⟨c,s⟩
  refine⟨bv,g,?_,by rw[gV];exact hB.2.1,by rw[gV];exact hB.2.2,cc _,λ_ _ _ q=>q⟩
  rcases hB.2.1 with⟨rfl,_⟩|⟨id,rfl,_⟩<;>rfl
  have O:F7 ⟨⟨c::s⟩⟩=(c::s).map vq:=rfl;have hz:(⟨⟨c::s⟩⟩:ByteArray).size≠0:=by show(c::s).length≠0;simp
  rcases hB.2.1 with⟨rfl,e⟩|⟨id,rfl,S⟩
  have:l=[]:=aNo
  subst this;refine⟨.sl ((c::s).map vq) (.tok g.length),g++[.tok (c::s).length 1 5],?_,bF ⟨g.length,rfl,af⟩,af,af,λ_ _ _ q=>bS q⟩;have hf:((c::s).map vq).length*1<=140737488355328:=by simp at hl⊢;omega
  simp only[B2,bu,hz,if_false,iA,O,w9,if_true];rw[if_pos hf];simp;have cX:=gl S;refine⟨.sl ((l++c::s).map vq) (.tok id),g.set id (.tok (l++c::s).length 1 5),?_,bF ⟨id,rfl,by rw[bT cX];simp⟩,af,af,λj Z fz q=>?_⟩;have hf:((l.map vq).length+((c::s).map vq).length)*1<=140737488355328:=by simp at hl⊢;omega
  simp only[B2,bu,hz,if_false,iA,O,w9,if_true,aag,true_and,S,and_self];rw[if_pos hf];simp;rw[bE];exact q;rintro rfl;rw[S] at q;cases q
 obtain⟨cl,g2,e2,rT,azc,bK,hk2⟩:=key;obtain⟨g3,eA,tY,A3⟩:=hB.put rT azc hk2 bK;refine mH @hB.fT @e2 @eA @x4 ?_;exact⟨tY,O.trans A3⟩
def aH7(h:Ac J k l)(hl:l.length<=100000000):cw G bB 174 [.mp k 0] J λr bl=>r=bu l/\bl=J:=by
 obtain⟨c0,bv,Y,_,h3,h4⟩:=h
 rcases h3 with⟨rfl,e⟩|⟨id,rfl,S⟩
 have:l=[]:=aNo
 subst this;exact ae6 arj Y
 rcases l with _|⟨c,r⟩
 cases h4 rfl;rw[cS] at S;exact ae5 arj Y S af aa
end
def af4(n):(lQ 1 n).length<=2:=by
 unfold lQ;split;simp;simp[lQ]
@[go_sem]def ad5{a b}(h:a.length+b.length<=1000000):dR .add (.v (.string ⟨⟨a⟩⟩)) (bu b)=a_ (bu (a++b)):=vM aa
@[go_sem]def LH{a b}(h:a.length+b.length<=1000000):dR .add (bu a) (.v (.string ⟨⟨b⟩⟩))=a_ (bu (a++b)):=vM aa
def aId{G}{low high}(h0:0<=low)(Y:low<=20)(V:high= -1\/(1<=high/\high<=20)):dM G bB 293 [.v (.int .i64 low),.v (.int .i64 high)] λr=>∃t:List UInt8,r=bu t/\t.length<=8:=by
 obtain⟨n,rfl⟩:=pJ h0;refine en (alo.go ?_);have fin:∀(J) (t),t.length<=8->∃n bR,dh J n (bu t)=a_ bR/\∃t:List UInt8,bR=bu t/\t.length<=8:=λJ t ht=>by
  obtain⟨n,hn⟩:=(bH _:b_ J (bu t) (bu t)).done;exact⟨n,_,hn,t,rfl,ht⟩
 have d1:=af4 n;have sp:cV G bB 171 [(n:Int)] (bu (lQ 1 n)):=abq n aa;have a1:dR .add (.v (.string ⟨[123].toArray⟩)) (bu (lQ 1 n))=a_ (bu ([123]++lQ 1 n)):=ad5 ah;have a2:dR .add (bu ([123]++lQ 1 n)) (.v (.string ⟨[125].toArray⟩))=a_ (bu ([123]++lQ 1 n++[125])):=LH ah;have a3:dR .add (bu ([123]++lQ 1 n)) (.v (.string ⟨[44,125].toArray⟩))=a_ (bu ([123]++lQ 1 n++[44,125])):=LH ah;have a4:dR .add (bu ([123]++lQ 1 n)) (.v (.string ⟨[44].toArray⟩))=a_ (bu ([123]++lQ 1 n++[44])):=LH ah
 rcases V with rfl|⟨g0,g1⟩
 · cases lV:((n:Int)==0)<;>cases iC:((n:Int)==1)<;>cases aiG:((n:Int)== -1)
   all_goals
    refine wy ?_
    first
     |exact fin _ [42] ag
     |exact fin _ [43] ag
     |refine dx sp ?_
      refine jB @a1 @a2 @a3 ?_;exact fin _ _ (by simp<;>omega)
 · obtain⟨m,rfl⟩:=pJ (show 0<=high by omega)
   have d2:=af4 m;have aHb:cV G bB 171 [(m:Int)] (bu (lQ 1 m)):=abq m aa;have a5:dR .add (bu ([123]++lQ 1 n++[44])) (bu (lQ 1 m))=a_ (bu ([123]++lQ 1 n++[44]++lQ 1 m)):=vM ah;have a6:dR .add (bu ([123]++lQ 1 n++[44]++lQ 1 m)) (.v (.string ⟨[125].toArray⟩))=a_ (bu ([123]++lQ 1 n++[44]++lQ 1 m++[125])):=LH ah;have hm:((m:Int)== -1)=bf:=af
   cases lV:((n:Int)==0)<;>cases iC:((n:Int)==1)<;>cases XW:((m:Int)==1)<;>cases aiG:((n)==(m:Int))
   all_goals
    refine qK @lV @iC @hm @XW @aiG ?_
    first
     |exact fin _ [63] ag
     |refine dx sp ?_
      refine jB @a1 @a2 @a4 ?_
      first
       |exact fin _ _ (by simp<;>omega)
       |refine dx aHb ?_
        refine nc @a5 @a6 ?_;exact fin _ _ (by simp<;>omega)
def aGU{G}{v}{l:List dL}(hv:cD v (l.map nh))(fN:∀x∈l,x.c6)(hl:l.length<=100000):dM G bB 255 [v] λr=>∃t:List UInt8,r=bu t/\t.length<=14*l.length:=by
 refine en (ak2.go ?_);have ln:=hv.cG;rw[cS] at ln;refine wy ?_;refine c8 (λi e J=>e=[(3,.mp 0 0),(6,v),(7,bq l.length),(8,bq i)]/\∃t,Ac J 0 t/\t.length<=14*i) l.length ⟨rfl,[],⟨_,_,rfl,bD rfl,bD ⟨rfl,rfl⟩,λ_=>rfl⟩,af⟩ ?_ ?_
 · rintro i e J Q ⟨rfl,t0,ahI,xT⟩
   obtain⟨x,I⟩:=cO Q;have EG:=fN x (cv I);have e1:ct 5 v (i:Int)=a_ (.fp x.cells 0):=hv.cB (x:=x.bA) aA rfl;have e2:∀J,bz J bh 5 (.fp x.cells 0)=a_ (.agg x.cells):=λJ=>rfl;have s1:=zG J x;unfold iP at s1;have fT:∀g:List br,g[J.length]?=a_ (.cells x.cells bf)->bz g bf 1 (.mp J.length 0)=a_ (.v (.int .i64 x.kind))/\bz g bf 1 (.mp J.length 2)=a_ (.v (.int .i64 x.low))/\bz g bf 1 (.mp J.length 3)=a_ (.v (.int .i64 x.high))/\bz g bf 1 (.mp J.length 4)=a_ (bu x.name):=λg q=>by
    simp only[bz,q];exact⟨rfl,rfl,rfl,rfl⟩
   have hm:(J++[bw x.cells bf])[J.length]?=a_ (.cells x.cells bf):=af
   have hB:Ac (J++[bw x.cells bf]) 0 t0:=by
    obtain⟨c0,bv,b1,b2,b3,b4⟩:=ahI;refine⟨c0,bv,bS b1,b2,?_,b4⟩
    rcases b3 with z|⟨id,b9,z2⟩
    exact bD z;exact bF ⟨id,b9,bS z2⟩
   have p6:J.length≠0:=by
    obtain⟨_,_,b1,_⟩:=ahI;have:=gl b1;omega
   refine wy (cM (λq=>?_) λq=>?_);refine wy (cM (λbt=>?_) λbt=>?_);refine wy (cm (Qe hB aa 32) ?_);rintro r g3 ⟨hB,GF⟩;have hm:=GF.2 _ _ _ p6 hm;have xT:(t0++[32]).length<=14*i+1:=ah
   all_goals
    refine wy ?_
    rcases EG.2 with⟨S,q6,_,_⟩|⟨S|S|S,_,_,_⟩|⟨S,_,z0,b9,z2⟩
    have hn:x.name.length<=12:=by
     simp only[vc,fQ,decide_eq_true_eq] at q6;omega
    refine wy (cm (apW hB x.name aa) ?_);rintro r g4 ⟨Ch,_⟩;refine wx ?_;exact⟨rfl,_,Ch,ah⟩;refine wy (cm (Qe hB aa 40) ?_);rintro r g4 ⟨Ch,_⟩;refine wx ?_;exact⟨rfl,_,Ch,ah⟩;refine wy (cm (Qe hB aa 41) ?_);rintro r g4 ⟨Ch,_⟩;refine wx ?_;exact⟨rfl,_,Ch,ah⟩;refine wy (cm (Qe hB aa 124) ?_);rintro r g4 ⟨Ch,_⟩;refine wx ?_;exact⟨rfl,_,Ch,ah⟩;refine wy ?_;refine jE (aId z0 b9 aa) (bY (dD _) (bY (dD _) dw)) ?_;rintro r ⟨t2,rfl,No⟩;refine wy (cm (apW hB t2 aa) ?_);rintro r g4 ⟨Ch,_⟩;refine wx ?_;exact⟨rfl,_,Ch,ah⟩
 rintro e J ⟨rfl,t,hB,ht⟩;refine wy (cm (aH7 hB aa) ?_);rintro _ g ⟨rfl,hh⟩;refine fJ ?_;obtain⟨n,hn⟩:=(bH _:b_ g (bu t) (bu t)).done;exact⟨n,_,hn,t,rfl,ht⟩
section
variable{G:Cells}{v:bg}{ps:List cT}
def asK{k:Nat}(h:tM v ps):∀(n i:Nat),i<n->i<ps.length->Vd G k v ps (i:Int):=by
 intro n
 induction n with
 |zero=>intro i Q;omega
 |succ n ih=>
  intro i Q hl;obtain⟨p,J⟩:=cO hl;refine aCJ h J λx I=>?_;obtain⟨x0,x1⟩:=(h.ok i p J).2 x I;obtain⟨xn,rfl⟩:=pJ x0;exact ih xn aa aa
def abA{x:Int}(hn:ps≠[])(h:qI ps ps.length [x]):x=((ps.length-1:Nat):Int):=by
 cases hl:ps.length with
 |zero=>exact absurd (List.length_eq_zero_iff.1 hl) hn
 |succ n=>
  rw[hl] at h;obtain⟨p,rB,_,_,e⟩:=h;have:rB=[]:=by
   have:=congrArg La e;simp at this;exact this
  subst this;simpa using e
def Wg{l:List dL}:∀x∈l.map nh,∀c∈x.cells,eY c:=λx I c T=>by
 obtain⟨s,_,rfl⟩:=dV.1 I;have:c∈s.cells:=T;simp only[iF,fo,pM,or_false] at this
 rcases this with rfl|rfl|rfl|rfl|rfl<;>exact dD _
def Am(n:Nat)(r:bg):Prop:=∃t:List UInt8,r=bu t/\t.length<=n
def sQ{J:List br}{n:Nat}{t:List UInt8}(ht:t.length<=n):∃m bR,dh J m (bu t)=a_ bR/\Am n bR:=by
 obtain⟨m,hn⟩:=(bH _:b_ J (bu t) (bu t)).done;exact⟨m,_,hn,t,rfl,ht⟩
def aGS(cE:gk G)(h:tM v ps):dM G bB 193 [v] (Am 40000):=by
 refine en (akx.go ?_);have ln:=h.v.cG;rw[cS] at ln;have c7:=h.len;refine wy ?_;refine dn (λq=>?_) λq=>?_;exact sQ (t:=[]) ag;have bP:ps≠[]:=by rintro rfl;simp at q
 refine wy (jE (aoz cE h) (bY (Ga h) dw) ?_);rintro r ⟨b,rfl,O⟩;cases b with
 |false=>
  refine wy ?_;exact sQ (t:=[]) ag
 |true=>
  obtain⟨x,I⟩:=(O rfl).resolve_left bP;have D:=abA bP I;have hs:=apS h.ok I;rw[D] at hs;simp only[fc,kM,Aa,Iu] at hs
  have f1:dN [.bp,.bp] [(0,1,v)]=a_ [v,.bp]:=aMe
  have hS:qk 0 v [] .bp [.cells [v,.bp] bf]:=⟨rfl,bD ⟨rfl,rfl⟩,af⟩;refine wy (cm (asK h _ (ps.length-1) (yB _) aa bf [] .bp _ hS ah) ?_);rintro r g ⟨l2,o2,b9,z2,z3⟩;rw[gM] at b9;obtain⟨v',y1,fR,mc⟩:=B5 b9.app Wg;refine wx ?_;refine eo (aGU y1 b9.ok aa) ?_;rintro r ⟨t,rfl,ht⟩;refine wy ?_;exact sQ aa
end
def ec(n:Nat):bg:=.v (.int .u64 (n:Int))
def wd(B i:Nat):Nat:=(B>>>(64*i)) % 2^64
def Uk(B i):wd B i<18446744073709551616:=Nat.mod_lt _ ag
def Fk(B i j):(wd B i).testBit j=(decide (j<64)&&B.testBit (64*i+j)):=by
 unfold wd;rw[Nat.testBit_mod_two_pow,Nat.testBit_shiftRight]
def OU(A B i):wd (A|||B) i=wd A i|||wd B i:=by
 apply arJ;intro j;rw[US,Fk,Fk,Fk,US];cases decide (j<64)<;>simp
def Uj(A B i):wd (A&&&B) i=wd A i&&&wd B i:=by
 apply arJ;intro j;rw[arL,Fk,Fk,Fk,arL];cases decide (j<64)<;>simp
def aIP(q r i)(D:r<64):wd (2^(64*q+r)) i=if i=q then 2^r else 0:=by
 apply arJ;intro j;rw[Fk,acZ];by_cases h:i=q;subst h;rw[if_pos rfl,acZ];by_cases hj:r=j;subst hj;simp[D];have:¬(64*i+r=64*i+j):=aa
 simp[hj,this];rw[if_neg h,Nat.zero_testBit];by_cases hj:j<64;have:¬(64*q+r=64*i+j):=aa
 simp[this];simp[hj]
def Ul(B q r i)(D:r<64):wd (B|||2^(64*q+r)) i=if i=q then wd B i|||2^r else wd B i:=by
 rw[OU,aIP q r i D];split;rfl;rw[Nat.or_zero]
def LV{x:Nat}(h:x<18446744073709551616):(Dg 64 (x)).toNat=x:=by
 rw[BitVec.toNat_ofInt];omega
@[go_sem]def anP{x y}(I:x<18446744073709551616)(hy:y<18446744073709551616):dR .or (ec x) (ec y)=a_ (ec (x|||y)):=by
 have hz:x|||y<2^64:=Nat.or_lt_two_pow I hy
 unfold ec;rw[asm];show a_ (cR (.int .u64 (Im.wrap ((Dg 64 (x)|||Dg 64 (y)).toNat:Int))))=_;rw[BitVec.toNat_or,LV I,LV hy,Fm];congr 3;omega
@[go_sem]def aei{x y}(I:x<18446744073709551616)(hy:y<18446744073709551616):dR .and (ec x) (ec y)=a_ (ec (x&&&y)):=by
 have hz:x&&&y<2^64:=Nat.and_lt_two_pow x hy;unfold ec;rw[adQ];show a_ (cR (.int .u64 (Im.wrap ((Dg 64 (x)&&&Dg 64 (y)).toNat:Int))))=_;rw[BitVec.toNat_and,LV I,LV hy,Fm];congr 3;omega
def bX(B:Nat):List bg:=[ec (wd B 0),ec (wd B 1),ec (wd B 2),ec (wd B 3)]
def cg(B:Nat):bg:=.agg (bX B)
def mz(B):eY (cg B):=Ge (n:=2) rfl
def y5(J)(B):b_ J (cg B) (cg B):=j0 (bG (bH _) (bG (bH _) (bG (bH _) (bG (bH _) c_))))
section
variable{G:Cells}
def azx(n:Nat)(h:n<256):cV G bB 268 [(n:Int)] bh:=by
 refine eM (ale.go ?_);have Y:decide ((0:Int)<=(n))=bh:=af
 have V:decide ((n:Int)<256)=bh:=ah
 exact wy ((bH _).done)
def aqC(B n:Nat)(h:n<256):cV G bB 210 [cg B,.v (.int .i64 (n))] (cg (B|||2^n)):=by
 refine eM (akN.go ?_);have nx:(cg B).cells=bX B:=rfl;refine wy ?_;refine dx (azx n h) ?_;obtain⟨q,r,D,hq,rfl⟩:∃q r,r<64/\q<4/\n=64*q+r:=⟨n/64,n % 64,Nat.mod_lt _ ag,aa,aa⟩;have s1:dR .shr (.v (.int .i64 ((64*q+r:Nat):Int))) (.v (.int .u64 6))=a_ (.v (.int .i64 (q))):=by
  rw[aso (k:=.i64) (a:=((64*q+r:Nat):Int)) (b:=6) .u64 ag];congr 3;show Int.fdiv ((64*q+r:Nat):Int) 64=_;rw[Int.fdiv_eq_ediv_of_nonneg _ ag];omega
 have s2:dR .and (.v (.int .i64 ((64*q+r:Nat):Int))) (.v (.int .i64 63))=a_ (.v (.int .i64 (r))):=by
  rw[adQ];show a_ (cR (.int .i64 (cN.wrap ((Dg 64 ((64*q+r:Nat):Int)&&&Dg 64 63).toNat:Int))))=_;rw[BitVec.toNat_and,LV aa];have auS:(Dg 64 63).toNat=2^6-1:=ag
  rw[auS,Nat.and_two_pow_sub_one_eq_mod,fq aa aa];congr 3;omega
 have eA:IS .u64 (.v (.int .i64 (r)))=a_ (.v (.int .u64 (r))):=by
  rw[VA,Fm];congr 3;omega
 have J:2^r<18446744073709551616:=Nat.pow_lt_pow_right ag D;have kA:dR .shl (.v (.int .u64 1)) (.v (.int .u64 (r)))=a_ (ec (2^r)):=by
  rw[asn (k:=.u64) (a:=1) (b:=(r)) .u64 aa];show a_ (cR (.int .u64 (Im.wrap (1*2^(min (r:Int).toNat 64)))))=_;rw[yw,Lc aa,Fm];unfold ec;congr 3;have:(1:Int)*2^r=((2^r:Nat):Int):=af
  rw[this];generalize 2^r=z at J⊢;omega
 have ayA:q=0\/q=1\/q=2\/q=3:=aa
 have w0:=Ul B q r 0 D;have w1:=Ul B q r 1 D;have w2:=Ul B q r 2 D;have w3:=Ul B q r 3 D;have fin:∀(J) Z,Z=bX (B|||2^(64*q+r))->∃n,dh J n (.agg Z)=a_ (cg (B|||2^(64*q+r))):=λJ Z e=>by
  rw[e];exact(y5 J _).done
 have S6:∀i,dR .or (ec (wd B i)) (ec (2^r))=a_ (ec (wd B i|||2^r)):=λi=>anP (Uk B i) J
 rcases ayA with rfl|rfl|rfl|rfl
 have a1:nu 4 1 (.mp 0 0) (.v (.int .i64 ((0:Nat):Int)))=a_ (.mp 0 0):=rfl;have o1:=S6 0;unfold ec at o1 kA;refine mI @bX.eq_1 @ec.eq_1 (fin _ _ ?_);unfold bX;rw[w0,w1,w2,w3];rfl;have a1:nu 4 1 (.mp 0 0) (.v (.int .i64 ((1:Nat):Int)))=a_ (.mp 0 1):=rfl;have o1:=S6 1;unfold ec at o1 kA;refine mI @bX.eq_1 @ec.eq_1 (fin _ _ ?_);unfold bX;rw[w0,w1,w2,w3];rfl;have a1:nu 4 1 (.mp 0 0) (.v (.int .i64 ((2:Nat):Int)))=a_ (.mp 0 2):=rfl;have o1:=S6 2;unfold ec at o1 kA;refine mI @bX.eq_1 @ec.eq_1 (fin _ _ ?_);unfold bX;rw[w0,w1,w2,w3];rfl;have a1:nu 4 1 (.mp 0 0) (.v (.int .i64 ((3:Nat):Int)))=a_ (.mp 0 3):=rfl;have o1:=S6 3;unfold ec at o1 kA;refine mI @bX.eq_1 @ec.eq_1 (fin _ _ ?_);unfold bX;rw[w0,w1,w2,w3];rfl
end
section
variable{G:Cells}
def aEN{x y}(I:x<18446744073709551616)(hy:y<18446744073709551616):cV G bB 136 [ec x,ec y] (ec (x|||y)):=by
 refine eM (akd.go ?_);exact wx ((bH _).done)
def asQ{x y}(I:x<18446744073709551616)(hy:y<18446744073709551616):cV G bB 298 [ec x,ec y] (ec (x&&&y)):=by
 refine eM (als.go ?_);exact wx ((bH _).done)
def J7(op:Nat->Nat->Nat)(A B i:Nat):List bg:=[ec (if 0<i then op (wd A 0) (wd B 0) else wd A 0),ec (if 1<i then op (wd A 1) (wd B 1) else wd A 1),ec (if 2<i then op (wd A 2) (wd B 2) else wd A 2),ec (if 3<i then op (wd A 3) (wd B 3) else wd A 3)]
def aeU{f}{op}(hf:∀x y,x<18446744073709551616->y<18446744073709551616->cV G bB f [ec x,ec y] (ec (op x y)))(A B):cV G bB 135 [cg A,cg B,.fn (.func f) [] []] (.agg (J7 op A B 4)):=by
 refine eM (akc.go ?_);have nx:∀B,(cg B).cells=bX B:=λB=>rfl;have l0:bz [.cells (bX A) bf,.cells (bX B) bf,.cells [.v (.int .u64 0),.v (.int .u64 0),.v (.int .u64 0),.v (.int .u64 0)] bf] bh 4 (.mp 1 0)=a_ (cg B):=rfl;refine wy ?_;refine c8 (λi e J=>e=[(2,.fn (.func f) [] []),(3,.mp 0 0),(6,.mp 2 0),(10,cg B),(11,bq i)]/\J=[.cells (J7 op A B i) bf,.cells (bX B) bf,.cells [.v (.int .u64 0),.v (.int .u64 0),.v (.int .u64 0),.v (.int .u64 0)] bf]) 4 ⟨rfl,rfl⟩ ?_ ?_;rintro i e J Q ⟨rfl,rfl⟩;have u1:=@bX.eq_1;have u2:=@ec.eq_1;have u3:=@J7.eq_1;have c1:decide ((i:Int)<4)=bh:=ah
 have a1:nu 4 1 (.mp 0 0) (.v (.int .i64 i))=a_ (.mp 0 i):=by simp[nu,lM];omega
 have T:i=0\/i=1\/i=2\/i=3:=aa
 have e1:DG bf 1 4 (cg B) (.v (.int .i64 i))=a_ (ec (wd B i)):=by rcases T with rfl|rfl|rfl|rfl<;>rfl
 rcases T with rfl|rfl|rfl|rfl<;>(refine oa ?_;refine dx (hf _ _ (Uk A _) (Uk B _)) ?_;exact aI5)
 rintro e J ⟨rfl,rfl⟩;have c1:decide (((4:Nat):Int)<4)=bf:=rfl;exact aqP @bX.eq_1 @ec.eq_1 @J7.eq_1 ((j0 (bG (bH _) (bG (bH _) (bG (bH _) (bG (bH _) c_))))).done)
def Ki(A B):cV G bB 75 [cg A,cg B] (cg (A|||B)):=by
 refine eM (ajL.go ?_);have nx:∀B,(cg B).cells=bX B:=λB=>rfl;refine wx (ic (aeU (λx y I hy=>aEN I hy) A B) (bY (mz _) (bY (mz _) (bY (Wf _) dw))) ?_);refine wx ?_;have e:dG (J7 (· ||| ·) A B 4)=cg (A|||B):=by
  unfold cg bX;rw[OU,OU,OU,OU];rfl
 rw[e];exact(y5 _ _).done
def asP(A B):cV G bB 272 [cg A,cg B] (cg (A&&&B)):=by
 refine eM (ali.go ?_);have nx:∀B,(cg B).cells=bX B:=λB=>rfl;refine wx (ic (aeU (λx y I hy=>asQ I hy) A B) (bY (mz _) (bY (mz _) (bY (Wf _) dw))) ?_);refine wx ?_;have e:dG (J7 (· &&& ·) A B 4)=cg (A&&&B):=by
  unfold cg bX;rw[Uj,Uj,Uj,Uj];rfl
 rw[e];exact(y5 _ _).done
def fZ(l:List Nat):Nat:=l.foldl (λB n=>B|||2^n) 0
def Z6{v}{l}(hv:cD v (l.map λn:Nat=>bq (n)))(hl:∀n∈l,n<256)(hn:l.length<=100000):cV G bB 131 [v] (cg (fZ l)):=by
 refine eM (aj9.go ?_);have ln:=hv.cG;rw[cS] at ln;refine wy ?_;refine c8 (λi e J=>e=[(2,.mp 0 0),(3,.mp 1 0),(6,v),(7,bq l.length),(8,bq i)]/\J=[.cells [.v (.int .u64 0),.v (.int .u64 0),.v (.int .u64 0),.v (.int .u64 0)] bf,.cells (bX (fZ (l.take i))) bf]) l.length ⟨rfl,by simp[fZ,bX,ec,wd]⟩ ?_ ?_;rintro i e J Q ⟨rfl,rfl⟩;obtain⟨x,I⟩:=cO Q;have ay5:=hl x (cv I);have e1:ct 1 v (i:Int)=a_ (.fp [bq x] 0):=hv.cB (x:=bq x) aA rfl;have l1:bz [.cells [.v (.int .u64 0),.v (.int .u64 0),.v (.int .u64 0),.v (.int .u64 0)] bf,.cells (bX (fZ (l.take i))) bf] bh 4 (.mp 1 0)=a_ (cg (fZ (l.take i))):=rfl
 have auV:fZ (l.take (i+1))=fZ (l.take i)|||2^x:=by
  unfold fZ;rw[vA,I];simp
 have s1:bL [.cells [.v (.int .u64 0),.v (.int .u64 0),.v (.int .u64 0),.v (.int .u64 0)] bf,.cells (bX (fZ (l.take i))) bf] 4 (.mp 1 0) (cg (fZ (l.take i)|||2^x))=a_ [.cells [.v (.int .u64 0),.v (.int .u64 0),.v (.int .u64 0),.v (.int .u64 0)] bf,.cells (bX (fZ (l.take i)|||2^x)) bf]:=rfl;refine wy (ic (aqC _ x ay5) (bY (mz _) (bY (dD _) dw)) ?_);rw[auV];refine wx ?_
 first
  |exact⟨rfl,trivial⟩
  |exact⟨rfl,rfl⟩
 rintro e J ⟨rfl,rfl⟩;rw[od];have l1:bz [.cells [.v (.int .u64 0),.v (.int .u64 0),.v (.int .u64 0),.v (.int .u64 0)] bf,.cells (bX (fZ l)) bf] bh 4 (.mp 1 0)=a_ (cg (fZ l)):=rfl;have s1:bL [.cells [.v (.int .u64 0),.v (.int .u64 0),.v (.int .u64 0),.v (.int .u64 0)] bf,.cells (bX (fZ l)) bf] 4 (.mp 0 0) (cg (fZ l))=a_ [.cells (bX (fZ l)) bf,.cells (bX (fZ l)) bf]:=rfl;have l2:bz [.cells (bX (fZ l)) bf,.cells (bX (fZ l)) bf] bh 4 (.mp 0 0)=a_ (cg (fZ l)):=rfl;exact wy ((y5 _ _).done)
end
def auD{x}(h:x≠0)(I:x<18446744073709551616):x.testBit (Fx 64 x)=bh/\Fx 64 x<64:=by
 unfold Fx;rw[if_neg h];obtain⟨m,Y,V⟩:=Lib.ctzFrom_spec 64 x aa I;refine⟨?_,V⟩;generalize Lib.ctzFrom 64 x=c at Y V;rw[Y,Nat.testBit_two_pow_mul];simp
def Zr{x}(h:x≠0):x&&&(x-1)<x:=Nat.lt_of_le_of_lt Nat.and_le_right aa
def AG(x:Nat):List Nat:=if h:x=0 then [] else Fx 64 x::AG (x&&&(x-1))
termination_by x
decreasing_by exact Zr h
def auY:AG 0=[]:=by rw[AG,dif_pos rfl]
def auX{x}(h:x≠0):AG x=Fx 64 x::AG (x&&&(x-1)):=by rw[AG,dif_neg h]
def Ma(B:Nat):Nat->List Nat
 |0=>[]
 |i+1=>Ma B i++(AG (wd B i)).map (64*i+ ·)
def AF(B:Nat):List Nat:=Ma B 4
section
variable{G:Cells}
def LK(B)(J):cw G bB 76 [cg B] J λr bl=>r=.fn (.func 137) [] [.mp J.length 0]/\bl=J++[.cells (bX B) bf]:=by
 refine ajM.go ?_;have nx:(cg B).cells=bX B:=rfl;exact wx tt
def LL(cE:gk G){y}{Inv:List Nat->List br->Prop}{Stop:List br->Prop}{B kb:Nat}{J}
  (mB:∀done p J,Inv done J->B.testBit p=bh->p<256->jS G bB y [(p:Int)] J λr bl=>∃c:Bool,r=c/\(c=bh->Inv (done++[p]) bl)/\(c=bf->Stop bl))
  (O:J[kb]?=a_ (.cells (bX B) bf)) (h0:Inv [] J):cw G bB 137 [y,.mp kb 0] J λr bl=>r=.bQ []/\(Inv (AF B) bl\/Stop bl):=by
 refine ake.go ?_;have l0:bz J bh 4 (.mp kb 0)=a_ (cg B):=by simp only[bz,O];rfl
 refine wy ?_;refine c8 (λi e J=>e=[(0,y),(6,cg B),(7,bq i)]/\Inv (Ma B i) J) 4 ⟨rfl,h0⟩ ?_ ?_;rintro i e J Q ⟨rfl,hI⟩;have e1:DG bf 1 4 (cg B) (i:Int)=a_ (ec (wd B i)):=by
  have T:i=0\/i=1\/i=2\/i=3:=aa
  rcases T with rfl|rfl|rfl|rfl<;>rfl
 have c1:decide ((i:Int)<4)=bh:=ah
 refine wy ?_;refine qe (λm e J=>∃pre,m<18446744073709551616/\e=[(0,y),(3,(i:Int)),(4,ec m),(6,cg B),(7,(i:Int))]/\AG (wd B i)=pre++AG m/\(∀j,m.testBit j=bh->(wd B i).testBit j=bh)/\Inv (Ma B i++pre.map (64*i+ ·)) J) ⟨[],Uk B i,rfl,rfl,λj h=>h,by rw[kM,gV];exact hI⟩ ?_;rintro m e J ⟨pre,hm,rfl,q7,ah2,Jl⟩;refine iD @ec.eq_1 (cM (λq=>?_) λq=>?_);have p6:m≠0:=by rintro rfl;simp at q
 obtain⟨t1,t2⟩:=auD p6 hm;have w1:cN.wrap (64*(i))=((64*i:Nat):Int):=by rw[fq aa aa];omega
 have hB:B.testBit (64*i+Fx 64 m)=bh:=by
  have:=ah2 _ t1;rw[Fk] at this;simp at this;exact this.2
 refine wy ?_;refine dx (apC cE m hm) ?_;have w3:Im.wrap ((m)-1)=((m-1:Nat):Int):=by rw[Fm];omega
 have a1:=aei hm (show m-1<18446744073709551616 by omega);unfold ec at a1;refine wy (vw (mB _ _ _ Jl hB aa) ?_);rintro _ g ⟨c,rfl,k1,k2⟩;cases c with
 |false=>
  refine fJ ?_;exact⟨trivial,bF (k2 rfl)⟩
 |true=>
  refine nc @w3 @a1 ?_;refine⟨m&&&(m-1),Zr p6,pre++[Fx 64 m],Nat.lt_trans (Zr p6) hm,rfl,?_,λj hj=>?_,?_⟩;rw[q7,auX p6];simp;rw[arL] at hj;simp only[fQ] at hj;exact ah2 j hj.1;have:=k1 rfl;rw[gC,<-dQ];exact this
 have p6:m=0:=aq
 subst p6;refine wx ?_;rw[auY,gV] at q7;refine⟨rfl,?_⟩;show Inv (Ma B i++(AG (wd B i)).map (64*i+ ·)) J;rw[q7];exact Jl;rintro e J ⟨rfl,hI⟩;have c1:decide (((4:Nat):Int)<4)=bf:=rfl;refine nc @bq.eq_1 @c1 ?_;exact⟨trivial,bD hI⟩
end
def fK:List Nat->List bg
 |[]=>[]
 |B::r=>bX B++fK r
def F4(B):(bX B).length=4:=rfl
def AM:∀l:List Nat,(fK l).length=l.length*4
 |[]=>rfl
 |B::r=>by
  show(bX B++fK r).length=_;rw[ek,AM r,F4,eZ];omega
def agQ:∀(l m),fK (l++m)=fK l++fK m
 |[],_=>rfl
 |B::r,m=>by
  show bX B++fK (r++m)=bX B++fK r++fK m;rw[agQ r m,dQ]
def Q8:∀{l} {p B},l[p]?=a_ B->((fK l).drop (p*4)).take 4=bX B
 |[],p,B,h=>au
 |A::r,0,B,h=>by
  simp at h;subst h;show(List.drop (0*4) (bX A++fK r)).take 4=_;rw[Nat.zero_mul,pL,arH (by rw[F4];omega),oe (by rw[F4];omega)]
 |A::r,p+1,B,h=>by
  have:=Q8 aR;show(List.drop ((p+1)*4) (bX A++fK r)).take 4=_;rw[show(p+1)*4=(bX A).length+p*4 by rw[F4];omega,<-z6,List.drop_left'];exact this;rfl
@[go_sem]def Q9:∀{l} {p B},p<l.length->d_ (fK l) (p*4) (bX B)=fK (l.set p B)
 |[],p,B,h=>au
 |A::r,0,B,h=>rfl
 |A::r,p+1,B,h=>by
  have:=Q9 (B:=B) aR;unfold d_ at this⊢;show List.take ((p+1)*4) (bX A++fK r)++bX B++List.drop ((p+1)*4+(bX B).length) (bX A++fK r)=bX A++fK (r.set p B);rw[show(p+1)*4=(bX A).length+p*4 by rw[F4];omega,aJx,nM,art,<-this];simp only[dQ]
def anF(B):(bX B).all cu=bh:=rfl
def yL(J:List br)(v:bg)(l:List Nat):Prop:=(v=.bp/\l=[])\/∃k,v=.rs k (fK l).length 4 0 l.length/\J[k]?=a_ (.cells (fK l) bh)
section
variable{J:List br}{v:bg}{l:List Nat}{p B:Nat}
def yL.at(h:yL J v l)(hB:l[p]?=a_ B):∃k,v=.rs k (fK l).length 4 0 l.length/\J[k]?=a_ (.cells (fK l) bh)/\ct 4 v (p:Int)=a_ (.rp k (fK l).length (p*4))/\bz J bh 4 (.rp k (fK l).length (p*4))=a_ (cg B):=by
 have cX:=gl hB
 rcases h with⟨_,rfl⟩|⟨k,rfl,S⟩
 simp at hB;refine⟨k,rfl,S,aa3 cX,?_⟩;have Y:=Q8 hB;have V:=AM l;simp only[bz,S,if_true];unfold fh;rw[if_pos rfl,if_pos aa,Y];rfl
@[go_sem]def yL.st{k}(S:J[k]?=a_ (.cells (fK l) bh))(cX:p<l.length)(B):bL J 4 (.rp k (fK l).length (p*4)) (cg B)=a_ (J.set k (.cells (fK (l.set p B)) bh)):=by
 have V:=AM l;simp only[bL,S,if_true,fD];have e1:(cg B).cells=bX B:=rfl;rw[e1,if_pos ⟨rfl,aa,anF B⟩,Q9 cX]
end
def rowAt(v:bg)(j:Nat):Prop:=∃m l,v=.rs j m 4 0 l
def BG(v:bg)(j:Nat):Prop:=∃xs,v=.sl xs (.tok j)
structure gP(kn:Nat)(u v:bg)(J:List br)(u' v':bg)(bl:List br):Prop where
 len:J.length<=bl.length
 keep:∀(j:Nat) b,J[j]?=a_ b->j≠kn->¬rowAt v j->¬BG u j->bl[j]?=a_ b
 row:∀j,rowAt v' j->rowAt v j\/J.length<=j
 tok:∀j,BG u' j->BG u j\/J.length<=j
def gP.refl(kn)(u v)(J):gP kn u v J u v J:=⟨cc _,λ_ _ h _ _ _=>h,λ_ h=>bD h,λ_ h=>bD h⟩
def gP.trans{kn}{a b c a2 b2 c2}{x y z}(h:gP kn a2 a x b2 b y)(k:gP kn b2 b y c2 c z):gP kn a2 a x c2 c z:=by
 refine⟨iz h.len k.len,λj d hj Y V h3=>k.keep j d (h.keep j d hj Y V h3) Y (λq=>?_) (λq=>?_),λj q=>?_,λj q=>?_⟩;have:=gl hj
 rcases h.row j q with z|z
 exact V z;omega;have:=gl hj
 rcases h.tok j q with z|z
 exact h3 z;omega
 rcases k.row j q with z|z
 exact h.row j z;have:=h.len;right;omega
 rcases k.tok j q with z|z
 exact h.tok j z;have:=h.len;right;omega
def gP.app{kn}{u v}{J l}:gP kn u v J u v (J++l):=⟨af,λ_ _ h _ _ _=>bS h,λ_ h=>bD h,λ_ h=>bD h⟩
structure fF(kn:Nat)(z:List bg)(on cz:List Nat)(bx bv:bg)(J:List br):Prop where
 b:J[kn]?=a_ (.cells (bx::bv::z) bf)
 on:de J bx (on.map cg) 4 152
 cz:yL J bv cz
def fF.ext{kn}{z}{on cz}{bx bv}{J bl}(h:fF kn z on cz bx bv J)(S:∀(j:Nat) Z fz,J[j]?=a_ (.cells Z fz)->bl[j]?=a_ (.cells Z fz))(ht:∀(j:Nat) c,J[j]?=a_ (.tok c 4 152)->bl[j]?=a_ (.tok c 4 152)):fF kn z on cz bx bv bl:=by
 refine⟨S _ _ _ h.b,?_,?_⟩
 rcases h.on with q|⟨id,q1,bt⟩
 exact bD q;exact bF ⟨id,q1,ht _ _ bt⟩
 rcases h.cz with q|⟨k,q1,bt⟩
 exact bD q;exact bF ⟨k,q1,S _ _ _ bt⟩
def qb(cz:List Nat)(N:Nat)(l:List Nat):List Nat:=l.foldl (λb p=>b.set p ((b[p]?.getD 0)|||N)) cz
def Hr(N):∀(l cz),(qb cz N l).length=cz.length
 |[],_=>rfl
 |p::r,cz=>by
  show(qb (cz.set p _) N r).length=_;rw[Hr N r];simp
def aDg(cz)(N)(l)(p):qb cz N (l++[p])=(qb cz N l).set p (((qb cz N l)[p]?.getD 0)|||N):=by
 unfold qb;rw[List.foldl_append];rfl
def amt{G}(cE:gk G){kn}{z}{on cz}{bx bv}{J}(h:fF kn z on cz bx bv J)(A N)(hA:∀p,A.testBit p=bh->p<256->p<cz.length):
  cw G bB 270 [.mp kn 0,cg A,cg N] J λr bl=>fF kn z on (qb cz N (AF A)) bx bv bl/\gP kn bx bv J bx bv bl:=by
 refine alg.go ?_;have nx:∀B,(cg B).cells=bX B:=λB=>rfl;have la:bz (J++[.cells [.mp kn 0] bf]++[.cells (bX A) bf]++[.cells (bX N) bf]) bh 4 (.mp (J++[bw [.mp kn 0] bf]).length 0)=a_ (cg A):=by
  simp only[bz,dQ,ek,gh (show J.length<=J.length+1 by omega),UQ,eZ,iG,gB,gM];rfl
 have ia:(cU kn 0).cells=[.mp kn 0]:=rfl;refine wy (cm (LK A _) ?_);rintro _ g ⟨rfl,rfl⟩;refine wy ?_;rw[zR];refine⟨_,_,_,rfl,λk S bU ok hR=>?_⟩;generalize hH:J++[bw [cU kn 0] bf]++[bw (bX A) bf]++[bw (bX N) bf]++[bw (bX A) bf]++marks bf=H at S⊢;have aKo:H.length=J.length+5:=by rw[<-hH];simp[marks]
 have ext:∀(j) b,J[j]?=a_ b->H[j]?=a_ b:=λj b q=>by rw[<-hH];exact bS (bS (bS (bS (bS q))))
 have f3:H[J.length]?=a_ (.cells [.mp kn 0] bf):=by rw[<-hH];simp[marks]
 have f5:H[J.length+2]?=a_ (.cells (bX N) bf):=by rw[<-hH];simp[marks,dQ]
 have f6:H[J.length+3]?=a_ (.cells (bX A) bf):=by rw[<-hH];simp[marks,dQ]
 clear hH la;simp only[ek,eZ,iG,gi,nM,vB] at hR⊢;subst S;refine cm (LL cE (Stop:=λ_=>False) (Inv:=λdone g=>g[H.length]?=a_ (.b8 .ready bn bU #[9] ok)/\fF kn z on (qb cz N done) bx bv g/\g[J.length]?=a_ (.cells [.mp kn 0] bf)/\g[J.length+2]?=a_ (.cells (bX N) bf)/\gP kn bx bv J bx bv g) ?_ (bS f6) ⟨af,?_,bS f3,bS f5,?_⟩) ?_
 · rintro done p g ⟨hl,hN,g3,g5,hs⟩ O R0
   refine hR [_] g _ rfl ⟨bn,hl⟩ ?_;have se:ux [(3,cU J.length 0),(5,cU (J.length+2) 0),(8,bg.fn (uD 137) [] [cU (J.length+3) 0])] (List.zip [9] [cR (yt cN (p))])=[(9,cR (yt cN (p))),(3,cU J.length 0),(5,cU (J.length+2) 0),(8,bg.fn (uD 137) [] [cU (J.length+3) 0])]:=rfl;rw[se];refine fJ ?_;refine⟨⟨bn,hl⟩,λfW=>?_⟩;have cX:p<(qb cz N done).length:=by rw[Hr];exact hA p O R0
   obtain⟨B,hB⟩:=cO cX;have ax1:=gl hl;have ne:∀{j} {Z} {fz},g[j]?=a_ (.cells Z fz)->H.length≠j:=λq e=>by
    rw[<-e,hl] at q;cases q
   have NZ:∀{j c},g[j]?=a_ (.tok c 4 152)->H.length≠j:=λq e=>by
    rw[<-e,hl] at q;cases q
   have jk:fF kn z on (qb cz N done) bx bv (g.set H.length (.b8 .busy fW bU #[9] ok)):=
    hN.ext (λj Z fz q=>aNI) λj c q=>aNJ
   have bV:(g.set H.length (.b8 .busy fW bU #[9] ok))[J.length]?=a_ (.cells [.mp kn 0] bf):=by rw[bE (ne g3)];exact g3
   have iN:(g.set H.length (.b8 .busy fW bU #[9] ok))[J.length+2]?=a_ (.cells (bX N) bf):=by rw[bE (ne g5)];exact g5
   have nE:gP kn bx bv J bx bv (g.set H.length (.b8 .busy fW bU #[9] ok)):=⟨by simpa using hs.len,λj b hj Y V h3=>by
    have:=gl hj;rw[bE aa];exact hs.keep j b hj Y V h3,hs.row,hs.tok⟩
   have js:(g.set H.length (.b8 .busy fW bU #[9] ok))[H.length]?=a_ (.b8 .busy fW bU #[9] ok):=bT ax1;generalize g.set H.length (.b8 .busy fW bU #[9] ok)=g' at jk bV iN nE js⊢;obtain⟨kb,hv,sZ,r1,r2⟩:=jk.cz.at hB;have s1:=yL.st sZ cX (B|||N);have l3:=ff bV;have lb:bz g' bf 1 (.mp kn 1)=a_ bv:=by simp only[bz,jk.b];rfl
   have EN:bz g' bh 4 (.mp (J.length+2) 0)=a_ (cg N):=by simp only[bz,iN];rfl
   refine wR @l3 @lb @r1 @r2 @EN @qF.eq_1 @r9.eq_1 @true_and @and_true (ic (Ki B N) (bY (mz _) (bY (mz _) dw)) ?_);refine nI @l3 @lb @r1 @s1 @ru ?_;have auU:(qb cz N (done++[p]))=(qb cz N done).set p (B|||N):=by rw[aDg,hB];rfl
   have Be:kb≠kn:=by rintro rfl;rw[jk.b] at sZ;simp at sZ
   have GP:kb≠H.length:=by rintro rfl;rw[js] at sZ;cases sZ
   have ax2:=gl sZ;have aKp:=gl js;show(∃st pd,_=_)/\_;refine⟨⟨.busy,fW,by rw[bE GP];exact js⟩,bh,rfl,λ_=>⟨?_,?_,?_,?_,?_⟩,λq=>av⟩;rw[bT ah];rw[auU];refine⟨?_,?_,bF ⟨kb,?_,?_⟩⟩;rw[bE (by intro e;have:=jk.b;rw[<-e,js] at this;cases this),bE Be];exact jk.b
   rcases jk.on with q|⟨id,q1,bt⟩
   exact bD q;refine bF ⟨id,q1,?_⟩;rw[bE (by rintro rfl;rw[js] at bt;cases bt),bE (by rintro rfl;rw[sZ] at bt;cases bt)];exact bt;rw[hv,AM,AM];simp;rw[bE (e3 GP),bT ax2];rw[bE aa,bE (by rintro rfl;rw[bV] at sZ;simp at sZ)];exact bV;rw[bE aa,bE (by rintro rfl;rw[iN] at sZ;simp at sZ)];exact iN;refine⟨by simpa using nE.len,λj b hj Y V h3=>?_,λj q=>bD q,λj q=>bD q⟩;have:=gl hj;rw[bE aa,bE (by rintro rfl;exact V ⟨_,_,hv⟩)];exact nE.keep j b hj Y V h3
 refine h.ext (λj Z fz q=>bS (ext _ _ q)) λj c q=>bS (ext _ _ q);exact⟨ah,λj b q _ _ _=>bS (ext _ _ q),λj q=>bD q,λj q=>bD q⟩;rintro r g ⟨rfl,⟨hl,hN,g3,g5,hs⟩|hf⟩;refine⟨.ready,bn,hl,ag,?_⟩;refine e6 @zj.eq_1 ?_;rw[aaY];intro g2 he;have ne:∀{j} {Z} {fz},g[j]?=a_ (.cells Z fz)->H.length≠j:=λq e=>by
  rw[<-e,hl] at q;cases q
 have NZ:∀{j c},g[j]?=a_ (.tok c 4 152)->H.length≠j:=λq e=>by
  rw[<-e,hl] at q;cases q
 have kp:∀(j:Nat) b,(∀o,b≠.obj o)->(g.set H.length (.b8 .exhausted bn bU #[9] ok))[j]?=a_ b->g2[j]?=a_ b:=λj b O q=>by
  rcases he.2 j with z|⟨_,z,_⟩
  rw[z];exact q;rw[z] at q;cases q;exact absurd rfl (O _)
 refine wy ?_;refine⟨hN.ext (λj Z fz q=>kp j _ af aNI) (λj c q=>kp j _ af aNJ),?_,λj b hj Y V h3=>?_,λj q=>bD q,λj q=>bD q⟩;rw[he.1];simpa using hs.len;have lW:=gl hj
 rcases he.2 j with z|⟨z,_,_⟩
 rw[z,bE aa];exact hs.keep j b hj Y V h3;omega;exact hf.elim
open Go.Proofs.YtplgiomcbchjiaaGreatDoor.gP renaming app->uE
def b6(F E:Nat)(e:Bool):List bg:=[ec (wd F 0),ec (wd F 1),ec (wd F 2),ec (wd F 3),ec (wd E 0),ec (wd E 1),ec (wd E 2),ec (wd E 3),e]
def kU(F E:Nat)(e:Bool):bg:=.agg (b6 F E e)
def z9:List bg:=[.v (.int .u64 0),.v (.int .u64 0),.v (.int .u64 0),.v (.int .u64 0),.v (.int .u64 0),.v (.int .u64 0),.v (.int .u64 0),.v (.int .u64 0),bf]
section
variable{X:List br}{m F E:Nat}{e:Bool}
@[go_sem]def iM(h:X[m]?=a_ (.cells (b6 F E e) bf)):bz X bh 4 (.mp m 0)=a_ (cg F)/\bz X bh 4 (.mp m 4)=a_ (cg E)/\bz X bf 1 (.mp m 8)=a_ (.v (.bool e))/\bz X bh 9 (.mp m 0)=a_ (kU F E e):=by
 simp only[bz,h];exact⟨rfl,rfl,rfl,rfl⟩
@[go_sem]def aau(h:X[m]?=a_ (.cells (b6 F E e) bf))(F'):bL X 4 (.mp m 0) (cg F')=a_ (X.set m (.cells (b6 F' E e) bf)):=by
 simp only[bL,h];rfl
@[go_sem]def aav(h:X[m]?=a_ (.cells (b6 F E e) bf))(E'):bL X 4 (.mp m 4) (cg E')=a_ (X.set m (.cells (b6 F E' e) bf)):=by
 simp only[bL,h];rfl
@[go_sem]def anY(h:X[m]?=a_ (.cells (b6 F E e) bf))(e'):bL X 1 (.mp m 8) (.v (.bool e'))=a_ (X.set m (.cells (b6 F E e') bf)):=by
 simp only[bL,h];rfl
@[go_sem]def x9(h:X[m]?=a_ (.cells z9 bf))(F' E')(e'):bL X 9 (.mp m 0) (kU F' E' e')=a_ (X.set m (.cells (b6 F' E' e') bf)):=by
 simp only[bL,h];rfl
@[go_sem]def Og(h:X[m]?=a_ (.cells (b6 F E e) bf))(F' E')(e'):bL X 9 (.mp m 0) (kU F' E' e')=a_ (X.set m (.cells (b6 F' E' e') bf)):=by
 simp only[bL,h];rfl
end
def gP.own{kn}{u v u' v'}{J bl}(h:gP kn u v J u' v' bl){j}{Z}{fz}(hj:J[j]?=a_ (.cells Z fz))(Y:j≠kn)(V:¬rowAt v j)(h3:¬BG u j):bl[j]?=a_ (.cells Z fz):=h.keep j _ hj Y V h3
def P7{J}{v}{xs}{n}{e}(h:de J v xs n e){j}(hj:J.length<=j):¬BG v j:=λ⟨ys,e⟩=>by
 rcases h with⟨q,_⟩|⟨id,q,S⟩
 rw[q] at e;cases e;rw[q] at e;have:=gl S;cases e;omega
def yL.low{J}{v}{l}(h:yL J v l){j}(hj:J.length<=j):¬rowAt v j:=λ⟨m,n,e⟩=>by
 rcases h with⟨q,_⟩|⟨k,q,S⟩
 rw[q] at e;cases e;rw[q] at e;have:=gl S;cases e;omega
def gP.iy{kn}{u v u' v'}{J bl}{j}{x}(h:gP kn u v J u' v' bl)(hj:J.length<=j):gP kn u v J u' v' (bl.set j x):=⟨by simpa using h.len,λi b Q Y V h3=>by
 have:=gl Q;rw[bE aa];exact h.keep i b Q Y V h3,h.row,h.tok⟩
def fF.iy{kn}{z}{on cz}{bx bv}{J}{j}{Z cs'}(h:fF kn z on cz bx bv J)(hj:J[j]?=a_ (.cells Z bf))(S:j≠kn):fF kn z on cz bx bv (J.set j (.cells cs' bf)):=by
 refine⟨by rw[bE S];exact h.b,?_,?_⟩
 rcases h.on with q|⟨id,q1,bt⟩
 exact bD q;refine bF ⟨id,q1,?_⟩;rw[bE (by rintro rfl;rw[hj] at bt;cases bt)];exact bt
 rcases h.cz with q|⟨k,q1,bt⟩
 exact bD q;refine bF ⟨k,q1,?_⟩;rw[bE (by rintro rfl;rw[hj] at bt;simp at bt)];exact bt
def fF.app{kn}{z}{on cz}{bx bv}{J x}(h:fF kn z on cz bx bv J):fF kn z on cz bx bv (J++x):=h.ext (λ_ _ _ q=>bS q) λ_ _ q=>bS q
def Sg{G}(cE:gk G){kn}{z}{on cz}{bx bv}{J}(h:fF kn z on cz bx bv J)(gE kQ j8 gF)(ae be)(hA:∀p,kQ.testBit p=bh->p<256->p<cz.length):
  cw G bB 217 [.mp kn 0,kU gE kQ ae,kU j8 gF be] J λr bl=>r=kU (if ae then gE|||j8 else gE) (if be then gF|||kQ else gF) (ae&&be)/\fF kn z on (qb cz j8 (AF kQ)) bx bv bl/\gP kn bx bv J bx bv bl:=by
 refine akU.go ?_;have nx:∀F E e,(kU F E e).cells=b6 F E e:=λF E e=>rfl;have e7:=gl h.b;have Y:fF kn z on cz bx bv (J++[.cells (b6 gE kQ ae) bf]++[.cells (b6 j8 gF be) bf]++[.cells z9 bf]):=h.app.app.app;have s1:gP kn bx bv J bx bv (J++[.cells (b6 gE kQ ae) bf]++[.cells (b6 j8 gF be) bf]++[.cells z9 bf]):=(uE.trans uE).trans uE;have m4:(J++[.cells (b6 gE kQ ae) bf]++[.cells (b6 j8 gF be) bf]++[bw z9 bf])[J.length]?=a_ (.cells (b6 gE kQ ae) bf):=af
 have m5:(J++[.cells (b6 gE kQ ae) bf]++[.cells (b6 j8 gF be) bf]++[bw z9 bf])[J.length+1]?=a_ (.cells (b6 j8 gF be) bf):=aMb
 have m6:(J++[.cells (b6 gE kQ ae) bf]++[.cells (b6 j8 gF be) bf]++[bw z9 bf])[J.length+2]?=a_ (.cells z9 bf):=aMb
 generalize hg:J++[.cells (b6 gE kQ ae) bf]++[.cells (b6 j8 gF be) bf]++[bw z9 bf]=g at Y s1 m4 m5 m6;unfold z9 at hg;refine Da @ek.{0} ((iM m4).2.1) ((iM m5).1) ?_;refine cm (amt cE Y kQ j8 hA) ?_;rintro r g2 ⟨V,s2⟩;have n4:=s2.own m4 aa (h.cz.low (cc _)) (P7 h.on (cc _));have jI:=s2.own m5 aa (h.cz.low aa) (P7 h.on aa);have EX:=s2.own m6 aa (h.cz.low aa) (P7 h.on aa);obtain⟨a0,a1,a2,a3⟩:=iM n4;obtain⟨b0,b1,b2,b3⟩:=iM jI;have hs:=s1.trans s2;have kS:g.length=J.length+3:=by rw[<-hg];simp
 have kH:J.length+3<=g2.length:=by have:=s2.len;omega
 have h3:fF kn z on (qb cz j8 (AF kQ)) bx bv (g2++[.cells (b6 gE gF (ae&&be)) bf]):=V.app;have xS:gP kn bx bv J bx bv (g2++[.cells (b6 gE gF (ae&&be)) bf]):=hs.trans uE;have iX:bL (g2++[.cells z9 bf]) 9 (.mp g2.length 0) (.agg (b6 gE gF (ae&&be)))=a_ (g2++[.cells (b6 gE gF (ae&&be)) bf]):=by
  have:=x9 (X:=g2++[.cells z9 bf]) (m:=g2.length) af gE gF (ae&&be);unfold kU at this;rw[this];simp
 unfold z9 at iX;have mY:(g2++[bw (b6 gE gF (ae&&be)) bf])[J.length]?=a_ (.cells (b6 gE kQ ae) bf):=bS n4;have qA:(g2++[bw (b6 gE gF (ae&&be)) bf])[J.length+1]?=a_ (.cells (b6 j8 gF be) bf):=bS jI;have ve:(g2++[bw (b6 gE gF (ae&&be)) bf])[J.length+2]?=a_ (.cells z9 bf):=bS EX;have vf:(g2++[bw (b6 gE gF (ae&&be)) bf])[g2.length]?=a_ (.cells (b6 gE gF (ae&&be)) bf):=af
 generalize g2++[bw (b6 gE gF (ae&&be)) bf]=X at h3 xS iX mY qA ve vf;generalize hm:g2.length=m at iX vf kH⊢;have Co:m≠kn:=aa
 have Uf:∀(X) (F E F' E') (c),fF kn z on (qb cz j8 (AF kQ)) bx bv X->gP kn bx bv J bx bv X->X[J.length]?=a_ (.cells (b6 gE kQ ae) bf)->X[J.length+1]?=a_ (.cells (b6 j8 gF be) bf)->X[J.length+2]?=a_ (.cells z9 bf)->X[m]?=a_ (.cells (b6 F E c) bf)->
   fF kn z on (qb cz j8 (AF kQ)) bx bv (X.set m (.cells (b6 F' E' c) bf))/\gP kn bx bv J bx bv (X.set m (.cells (b6 F' E' c) bf))/\(X.set m (.cells (b6 F' E' c) bf))[J.length]?=a_ (.cells (b6 gE kQ ae) bf)/\(X.set m (.cells (b6 F' E' c) bf))[J.length+1]?=a_ (.cells (b6 j8 gF be) bf)/\(X.set m (.cells (b6 F' E' c) bf))[J.length+2]?=a_ (.cells z9 bf)/\(X.set m (.cells (b6 F' E' c) bf))[m]?=a_ (.cells (b6 F' E' c) bf):=λX F E F' E' c x1 x2 x3 qL vt so=>
  ⟨x1.iy so Co,x2.iy aa,by rw[bE aa];exact x3,by rw[bE aa];exact qL,by rw[bE aa];exact vt,bT (gl so)⟩
 have fin:∀(X) (F E) (c),fF kn z on (qb cz j8 (AF kQ)) bx bv X->gP kn bx bv J bx bv X->X[J.length+2]?=a_ (.cells z9 bf)->X[m]?=a_ (.cells (b6 F E c) bf)->
   ∃yO,bz X bh 9 (.mp m 0)=a_ (kU F E c)/\bL X 9 (.mp (J.length+2) 0) (kU F E c)=a_ yO/\bz yO bh 9 (.mp (J.length+2) 0)=a_ (kU F E c)/\fF kn z on (qb cz j8 (AF kQ)) bx bv yO/\gP kn bx bv J bx bv yO:=λX F E c x1 x2 vt so=>
  ⟨_,(iM so).2.2.2,x9 vt F E c,(iM (bT (gl vt))).2.2.2,x1.iy vt aa,x2.iy aa⟩
 have f2:∀c:Bool,dN [.v (.int .u64 0),.v (.int .u64 0),.v (.int .u64 0),.v (.int .u64 0),.v (.int .u64 0),.v (.int .u64 0),.v (.int .u64 0),.v (.int .u64 0),bf] [(0,4,cg gE),(4,4,cg gF),(8,1,c)]=a_ (b6 gE gF c):=λc=>rfl;obtain⟨je,p1,p2,p3⟩:=iM mY;obtain⟨bR,r1,r2,jn⟩:=iM qA;obtain⟨t0,t1,t2,t3⟩:=iM vf;have S7:=λA B=>Ki (G:=G) A B;cases ae<;>cases be;obtain⟨yO,y1,fR,mc,Fo,Ig⟩:=fin X gE gF bf h3 xS ve vf;have TR:bL _ 9 (.mp m 0) (.agg (b6 gE gF bf))=a_ X:=iX;refine pH (eI @a0 @a1 @a2 @a3) (eI @b0 @b1 @b2 @b3) (eI @f2 @hm @TR @je) (eI @p1 @p2 @bR @r1) (eI @r2 @t0 @t1 @y1) @fR @mc ?_;exact⟨rfl,Fo,Ig⟩;have TR:bL _ 9 (.mp m 0) (.agg (b6 gE gF bf))=a_ X:=iX;obtain⟨x1,x2,x3,qL,vt,so⟩:=Uf X gE gF gE (gF|||kQ) bf h3 xS mY qA ve vf;have tr:=aav vf (gF|||kQ);obtain⟨yO,y1,fR,mc,Fo,Ig⟩:=fin _ _ _ bf x1 x2 vt so;refine wy (ic (S7 gF kQ) (bY (mz _) (bY (mz _) dw)) ?_);have OT:bL X 4 (.mp m 4) (cg (gF|||kQ))=a_ (X.set m (.cells (b6 gE (gF|||kQ) bf) bf)):=tr;refine mH @OT @y1 @fR @mc ?_;exact⟨rfl,Fo,Ig⟩;have TR:bL _ 9 (.mp m 0) (.agg (b6 gE gF bf))=a_ X:=iX;obtain⟨x1,x2,x3,qL,vt,so⟩:=Uf X gE gF (gE|||j8) gF bf h3 xS mY qA ve vf;have OT:bL X 4 (.mp m 0) (cg (gE|||j8))=a_ (X.set m (.cells (b6 (gE|||j8) gF bf) bf)):=aau vf (gE|||j8);obtain⟨yO,y1,fR,mc,Fo,Ig⟩:=fin _ _ _ bf x1 x2 vt so;obtain⟨sn,u1,u2,u3⟩:=iM qL;refine wy (ic (S7 gE j8) (bY (mz _) (bY (mz _) dw)) ?_);refine qK @OT @u2 @y1 @fR @mc ?_;exact⟨rfl,Fo,Ig⟩;have TR:bL _ 9 (.mp m 0) (.agg (b6 gE gF bh))=a_ X:=iX;obtain⟨x1,x2,x3,qL,vt,so⟩:=Uf X gE gF (gE|||j8) gF bh h3 xS mY qA ve vf;have OT:bL X 4 (.mp m 0) (cg (gE|||j8))=a_ (X.set m (.cells (b6 (gE|||j8) gF bh) bf)):=aau vf (gE|||j8);obtain⟨sn,u1,u2,u3⟩:=iM qL;obtain⟨q0,q1,bt,bV⟩:=iM x3;obtain⟨i0,i1,i2,i3⟩:=iM so;refine wy (ic (S7 gE j8) (bY (mz _) (bY (mz _) dw)) ?_);have aIN:bL (X.set m (.cells (b6 (gE|||j8) gF bh) bf)) 4 (.mp m 4) (cg (gF|||kQ))=a_ ((X.set m (.cells (b6 (gE|||j8) gF bh) bf)).set m (.cells (b6 (gE|||j8) (gF|||kQ) bh) bf)):=aav so (gF|||kQ);obtain⟨v1,v2,v3,v4,v5,v6⟩:=Uf _ _ _ (gE|||j8) (gF|||kQ) bh x1 x2 x3 qL vt so;obtain⟨yO,y1,fR,mc,Fo,Ig⟩:=fin _ _ _ bh v1 v2 v5 v6;refine wy (ic (S7 gF kQ) (bY (mz _) (bY (mz _) dw)) ?_);refine mH @aIN @y1 @fR @mc ?_;exact⟨rfl,Fo,Ig⟩
def cT.many(p:cT):Nat:=(if p.high<0 then(if(1:Int)>p.low then 1 else p.low) else p.high).toNat
def qZ(ps:List cT):Nat->Int->Nat
 |0,_=>0
 |f+1,i=>match ps[i.toNat]? with
  |none=>0
  |some p=>if p.kind=1 then 1 else(if p.kind=4 then p.many else 1)*(p.kids.map λk=>qZ ps f k).sum
def aup{ps}(h:rL ps):∀(n f g) (i),i.toNat<n->i.toNat<f->i.toNat<g->qZ ps f i=qZ ps g i:=by
 intro n
 induction n with
 |zero=>intro f g i h0;omega
 |succ n ih=>
  intro f g i h0 Y V;obtain⟨f,rfl⟩:∃f',f=f'+1:=⟨f-1,aa⟩;obtain⟨g,rfl⟩:∃g',g=g'+1:=⟨g-1,aa⟩;unfold qZ;cases J:ps[i.toNat]? with
  |none=>rfl
  |some p=>
   dsimp only;have e:(p.kids.map λk=>qZ ps f k)=p.kids.map λk=>qZ ps g k:=BU λk S=>by
    have:=(h _ p J).2 k S;exact ih f g k aa aa aa
   rw[e]
def cnt(ps:List cT)(i:Int):Nat:=qZ ps (i.toNat+1) i
def Wk{ps}(h:rL ps){i:Nat}{p}(J:ps[i]?=a_ p):cnt ps (i)=if p.kind=1 then 1 else(if p.kind=4 then p.many else 1)*(p.kids.map λk=>cnt ps k).sum:=by
 show qZ ps (i+1) (i)=_;unfold qZ;rw[yw,J];dsimp only;have e:(p.kids.map λk=>qZ ps i k)=p.kids.map λk=>cnt ps k:=BU λk S=>by
  have:=(h _ p J).2 k S;exact aup h (i+1) i (k.toNat+1) k aa aa aa
 rw[e]
@[go_sem]def J6(a b:Nat):qT bf [(a:Int),(257:Int)]=a_ (.v (.int .i64 ((min a 257:Nat):Int))):=by
 show a_ (cR (.int .i64 (if(257:Int)<(a) then 257 else(a))))=_;congr 3;split<;>omega
def aE3{G}{v}{ps}(h:tM v ps):∀(n i),i<n->i<ps.length->cV G bB 143 [v,(i:Int)] ((min (cnt ps (i)) 257:Nat):Int):=by
 intro n
 induction n with
 |zero=>intro i Q;omega
 |succ n ih=>
  intro i Q hl;obtain⟨p,eL⟩:=cO hl;have lX:=h.ok i p eL;have p9:=h.no p (cv eL);have kI:=lX.kids;have T:=Wk h.ok eL;refine eM (aki.go ?_);have e1:ct 5 v (i:Int)=a_ (.fp p.cells 0):=h.v.cB (x:=p.bA) aM3 rfl;have e2:∀J,bz J bh 5 (.fp p.cells 0)=a_ (.agg p.cells):=λJ=>rfl;have s1:=zL [] p;rw[gM,gM] at s1;have z0:([]:List br).length=0:=rfl;rw[z0] at s1;have l0:bz [.cells p.cells bf] bf 1 (.mp 0 0)=a_ (.v (.int .i64 p.kind)):=rfl;have l1:bz [.cells p.cells bf] bf 1 (.mp 0 1)=a_ (.v (.int .i64 p.low)):=rfl;have l2:bz [.cells p.cells bf] bf 1 (.mp 0 2)=a_ (.v (.int .i64 p.high)):=rfl;have l4:bz [.cells p.cells bf] bf 1 (.mp 0 4)=a_ p.kv:=rfl;have lk:=zn p9 (iz kI ag);refine wy (cM (λq=>?_) λq=>?_);have q':p.kind=1:=ak
  rw[T,if_pos q'];exact wy ((bH _).done);have q':p.kind≠1:=ak
  rw[if_neg q'] at T;refine wy ?_;refine c8 (λj e J=>e=[(0,v),(5,.mp 0 0),(6,((min ((p.kids.take j).map λk=>cnt ps k).sum 257:Nat):Int)),(18,p.kv),(19,bq p.kids.length),(20,bq j)]/\J=[.cells p.cells bf]) p.kids.length ⟨rfl,rfl⟩ ?_ ?_;rintro j e J hj ⟨rfl,rfl⟩;obtain⟨x,I⟩:=cO hj;obtain⟨x0,x1⟩:=lX.2 x (cv I);obtain⟨xn,rfl⟩:=pJ x0;obtain⟨pk,k1,k2⟩:=(Hi p [.cells p.cells bf]).get I;have wO:=zM (f:=λx=>cnt ps x) I;have m1:=J6 (min ((p.kids.take j).map λk=>cnt ps k).sum 257+min (cnt ps (xn)) 257) 0;have mQ:min (min ((p.kids.take j).map λk=>cnt ps k).sum 257+min (cnt ps (xn)) 257) 257=min ((p.kids.take (j+1)).map λk=>cnt ps k).sum 257:=by rw[wO];omega
  refine wy (ic (ih xn aa aa) (bY (Ga h) (bY (dD _) dw)) ?_);refine wx ?_
  first
   |exact⟨rfl,trivial⟩
   |exact⟨rfl,rfl⟩
  rintro e J ⟨rfl,rfl⟩;rw[od];refine wy ?_;generalize(p.kids.map λk=>cnt ps k).sum=hk at T⊢;refine cM (λfU=>?_) λfU=>?_;have CT:p.kind=4:=aMD
  rw[if_pos CT] at T;have O:0<=p.low/\p.low<=20/\(p.high= -1\/(1<=p.high/\p.high<=20)):=by
   rcases lX.1 with z|z|z
   omega;omega;omega
  have m0:qT bh [p.low,(1:Int)]=a_ (.v (.int .i64 (if(1:Int)>p.low then 1 else p.low))):=rfl;have p7:1<=p.many/\p.many<=20:=by
   unfold cT.many;constructor<;>(split<;>(try split))<;>omega
  have ayx:min hk 257*p.many<=257*20:=Nat.mul_le_mul (Nat.min_le_right _ _) p7.2;have w1:cN.wrap (((min hk 257:Nat):Int)*(p.many:Int))=((min hk 257*p.many:Nat):Int):=by
   rw[<-Int.natCast_mul,fq aa aa]
  have mQ:min (min hk 257*p.many) 257=min (p.many*hk) 257:=by
   rcases Nat.le_total hk 257 with z|z
   rw[Lc z,acY];have V:257*p.many<=p.many*hk:=aNp
   rw[Nat.min_eq_right z];omega
  have m1:=J6 (min hk 257*p.many) 0;rw[mQ] at m1;rw[T];refine wy (cM (λiN=>?_) λiN=>?_);have Gj:(if(1:Int)>p.low then 1 else p.low)=(p.many:Int):=by
   have:p.high<0:=by simpa using iN
   unfold cT.many;rw[if_pos this];split<;>omega
  rw[Gj] at m0;exact wy ((bH _).done);have Gj:p.high=(p.many:Int):=by
   have:¬p.high<0:=by simp at iN;omega
   unfold cT.many;rw[if_neg this];omega
  rw[Gj];exact wy ((bH _).done);have CT:p.kind≠4:=aMD
  rw[if_neg CT,FF] at T;rw[T];exact wy ((bH _).done)
@[go_sem]def N_(B):cY 4 [cg B]=bh:=rfl
@[go_sem]def S4(l:List Nat):cY 4 (l.map cg)=bh:=by
 rw[cY,eJ];intro x I;obtain⟨t,ht,rfl⟩:=dV.1 I;rfl
@[go_sem]def Vy(B):e4 4 [cg B]=a_ (.sl [cg B] .exact):=rfl
section
variable{kn:Nat}{z:List bg}{on cz:List Nat}{bx bv:bg}{J:List br}
@[go_sem]def fF.rB(h:fF kn z on cz bx bv J){w}(hw:cu w=bh):bL J 1 (.mp kn 0) w=a_ (J.set kn (.cells (w::bv::z) bf)):=by
 have eW:w.cells=[w]:=aMV
 simp only[bL,h.b,fD,eW];simp[hw,d_]
@[go_sem]def fF.iX(h:fF kn z on cz bx bv J){w}(hw:cu w=bh):bL J 1 (.mp kn 1) w=a_ (J.set kn (.cells (bx::w::z) bf)):=by
 have eW:w.cells=[w]:=aMV
 simp only[bL,h.b,fD,eW];simp[hw,d_]
@[go_sem]def fF.Zj(h:fF kn z on cz bx bv J):bz J bf 1 (.mp kn 0)=a_ bx:=aS
@[go_sem]def fF.ami(h:fF kn z on cz bx bv J):bz J bf 1 (.mp kn 1)=a_ bv:=aS
@[go_sem]def fF.aC6(h:fF kn z on cz bx bv J):∀g,cG bx g=a_ (.v (.int .i64 (on.length:Int)),g):=λg=>by
 rcases h.on with⟨rfl,e⟩|⟨id,rfl,_⟩
 have:on=[]:=aNo
 subst this;rfl;simp[pq,goInt]
def fF.aFf(h:fF kn z on cz bx bv J)(hn:on.length<=100000)(B):∃cZ g g',ei J 4 32 152 bx (.sl [cg B] .exact)=a_ (cZ,g)/\bL g 1 (.mp kn 0) cZ=a_ g'/\fF kn z (on++[B]) cz cZ bv g'/\gP kn bx bv J cZ bv g':=by
 obtain⟨cl,g,e1,hA,bP,bK,S⟩:=nv (bW:=32) h.on (S4 on) (N_ B) ag ag ah;have gI:∀{j} {Z} {fz},J[j]?=a_ (.cells Z fz)->∀xs,bx≠.sl xs (.tok j):=λ{j Z fz} q xs e=>by
  rcases h.on with⟨q1,_⟩|⟨id,q1,bt⟩
  rw[q1] at e;cases e;rw[q1] at e;cases e;rw[q] at bt;cases bt
 have kb:g[kn]?=a_ (.cells (bx::bv::z) bf):=S _ _ h.b (gI h.b)
 have ho:cu cl=bh:=az
 have eW:cl.cells=[cl]:=aMN
 have s1:bL g 1 (.mp kn 0) cl=a_ (g.set kn (.cells (cl::bv::z) bf)):=by
  simp only[bL,kb,fD,eW];simp[ho,d_]
 refine⟨cl,g,_,e1,s1,⟨bT (gl kb),?_,?_⟩,⟨by simpa using bK,λj b hj Y V h3=>?_,λj q=>bD q,λj ⟨xs,q⟩=>?_⟩⟩;rw[gC]
 rcases hA with q|⟨id,q1,bt⟩
 exact bD q;refine bF ⟨id,q1,?_⟩;rw[bE (by rintro rfl;rw[kb] at bt;cases bt)];exact bt
 rcases h.cz with q|⟨k,q1,bt⟩
 exact bD q;refine bF ⟨k,q1,?_⟩;rw[bE (by rintro rfl;rw[h.b] at bt;simp at bt)];exact S _ _ bt (gI bt);rw[bE (e3 Y)];exact S j b hj λxs e=>h3 ⟨xs,e⟩
 rcases er j J.length with hj|hj
 left
 rcases h.on with⟨q1,bt⟩|⟨id,q1,bt⟩
 subst q1;have:on=[]:=aX
 subst this;have Wq:ei J 4 32 152 .bp (.sl [cg B] .exact)=a_ (.sl [cg B] (.tok J.length),J++[.tok 1 4 152]):=rfl;rw[Wq] at e1;cases e1;cases q;omega;subst q1;have hfit:((on.map cg).length+1)*32<=140737488355328:=ah
 have Wq:ei J 4 32 152 (.sl (on.map cg) (.tok id)) (.sl [cg B] .exact)=a_ (.sl (on.map cg++[cg B]) (.tok id),J.set id (.tok ((on.map cg).length+1) 4 152)):=by
  have Y:=N_ B;have V:=S4 on;have h3:¬([cg B]=([]:List bg)):=af
  simp only[ei,gR,iA,iq,Y,V,h3,if_false,and_self,w9,if_true,true_and,bt,eZ,iG,gi];rw[if_pos hfit]
 rw[Wq] at e1;cases e1;cases q;exact⟨_,rfl⟩;exact bF hj
def fF.aFd(h:fF kn z on cz bx bv J)(hn:cz.length<=100000)(B):∃dc g g',ql J 4 32 152 bv (.sl [cg B] .exact)=a_ (dc,g)/\bL g 1 (.mp kn 1) dc=a_ g'/\fF kn z on (cz++[B]) bx dc g'/\gP kn bx bv J bx dc g'/\∀(j:Nat) Z,J[j]?=a_ (.cells Z bf)->g[j]?=a_ (.cells Z bf):=by
 have e7:=gl h.b
 rcases h.cz with⟨rfl,rfl⟩|⟨k,rfl,S⟩
 have Y:fF kn z on [] bx .bp (J++[.cells (bX B) bh]):=h.app;refine⟨.rs J.length 4 4 0 1,J++[.cells (bX B) bh],_,rfl,Y.iX rfl,⟨bT ah,?_,bF ⟨J.length,rfl,?_⟩⟩,⟨af,λj b hj Y V h3=>?_,λj ⟨m,l,q⟩=>?_,λj q=>bD q⟩,λj Z q=>bS q⟩
 rcases Y.on with q|⟨id,q1,bt⟩
 exact bD q;refine bF ⟨id,q1,?_⟩;rw[bE (by rintro rfl;rw[Y.b] at bt;cases bt)];exact bt;rw[bE aa];show(J++[bw (bX B) bh])[J.length]?=a_ (.cells (bX B++[]) bh);simp;rw[bE (e3 Y)];exact bS hj;cases q;exact bF (cc _);have hl:=gl S;have Be:k≠kn:=by rintro rfl;rw[h.b] at S;simp at S
 have v_:=AM cz;have b7:l8 (fK cz) (cz.length*4) (ez [cg B])=fK (cz++[B]):=by
  have hf:ez [cg B]=bX B:=rfl;unfold l8;rw[hf,agQ,oe aa,tD aa,gV];show _=fK cz++(bX B++[]);rw[gV]
 have e1:ql J 4 32 152 (.rs k (fK cz).length 4 0 cz.length) (.sl [cg B] .exact)=a_ (.rs k (fK (cz++[B])).length 4 0 (cz++[B]).length,J.set k (.cells (fK (cz++[B])) bh)):=by
  show gR J 4 32 152 (.rs k (fK cz).length 4 0 cz.length) (.sl [cg B] .exact)=_;have Y:=N_ B;have h3:¬([cg B]=([]:List bg)):=af
  simp only[gR,iq,iA,Y,h3,if_false,and_self,w9,if_true,true_and,S,eZ,iG,b7];rw[if_pos aa];simp
 have hb':(J.set k (.cells (fK (cz++[B])) bh))[kn]?=a_ (.cells (bx:: .rs k (fK cz).length 4 0 cz.length::z) bf):=by rw[bE Be];exact h.b
 have s1:bL (J.set k (.cells (fK (cz++[B])) bh)) 1 (.mp kn 1) (.rs k (fK (cz++[B])).length 4 0 (cz++[B]).length)=a_ ((J.set k (.cells (fK (cz++[B])) bh)).set kn (.cells (bx:: .rs k (fK (cz++[B])).length 4 0 (cz++[B]).length::z) bf)):=by
  simp only[bL,hb',fD];simp[jD,cu,d_]
 refine⟨_,_,_,e1,s1,⟨bT ah,?_,bF ⟨k,rfl,?_⟩⟩,⟨af,λj b hj Y V h3=>?_,λj ⟨m,l,q⟩=>?_,λj q=>bD q⟩,λj Z q=>by rw[bE (by rintro rfl;rw[S] at q;simp at q)];exact q⟩
 rcases h.on with q|⟨id,q1,bt⟩
 exact bD q;refine bF ⟨id,q1,?_⟩;rw[bE (by rintro rfl;rw[h.b] at bt;cases bt),bE (by rintro rfl;rw[S] at bt;cases bt)];exact bt;rw[bE (e3 Be),bT hl];rw[bE (e3 Y),bE (by rintro rfl;exact V ⟨_,_,rfl⟩)];exact hj;cases q;exact bD ⟨_,_,rfl⟩
end
end Go.Proofs.YtplgiomcbchjiaaGreatDoor

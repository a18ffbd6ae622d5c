/- Part 7 of a proof. No condition. -/
import Derived.Test.YtgfjdechmbleeaaGreatDoorZ6
set_option linter.unusedVariables false
set_option linter.unusedSimpArgs false
set_option linter.defProp false
open BitVec renaming ofInt->Ch
open Bool renaming and_eq_true->fA,false->bf,false_and->Ci,false_eq_true->kz,true->bh
open Go.bP.bg renaming agg->dD,cells->jy,mp->cS,one->cr,v->cU
open Go.bP.br renaming cells->bw
open Go.bP.sB renaming mk->cL
open Go.bP.cy renaming mono->cm,pu->fk,Yz->ek,pure->gO,aA6->jz
open Go.bP.jK renaming mono->vK
open Go.bP renaming Clean->eP
open Go.bP.b8 renaming agg->kA,bp->eB,sl->gP,bQ->fD,v->bH
open Go.bP.e4 renaming append->Cj,cons->bG,map->iW,nil->cW
open Go.bP.hc renaming ack->Nw
open Go.bP.dV renaming bN->k5,bare->JE
open Go.Fn renaming func->vM
open Go.IntKind renaming i64->dy,u64->GS
open Go.Lib renaming ctz->Eo
open Go.Proofs.Tryz renaming ac1->aoo,prog->bE,ane->aou
open Go.Proofs.YtgfjdechmbleeaaGreatDoor.l8 renaming set->JK
open Go.Proofs.YtgfjdechmbleeaaGreatDoor.cM renaming bN->q9,cells->qC
open Go.Proofs.YtgfjdechmbleeaaGreatDoor.dw renaming bN->mH,cells->hG
open Go.Value renaming int->xp
open Int renaming eq_ofNat_of_zero_le->oI,le_refl->Cq,toNat_natCast->xu
open List renaming all_cons->oJ,all_eq_true->eO,all_nil->sw,append_assoc->dU,append_nil->hJ,cons_append->k6,drop_drop->y2,drop_length_add_append->aoC,drop_of_length_le->vO,drop_zero->pg,ext_getElem?->Et,getElem?_append_left->fE,getElem?_append_right->fF,getElem?_cons_succ->y4,getElem?_cons_zero->n4,getElem?_drop->sx,getElem?_eq_getElem->cx,getElem?_eq_none->jJ,getElem?_eq_some_iff->cJ,getElem?_map->fL,getElem?_set_ne->bC,getElem?_set_self->bV,getElem?_take_of_lt->Cr,getElem_mem->NK,length->JO,length_append->en,length_cons->eV,length_drop->y5,length_eq_one_iff->Ev,length_map->dj,length_nil->iP,length_singleton->p8,length_take->Cs,map_append->gQ,map_congr_left->AU,map_cons->fM,map_map->y6,map_nil->mI,mem_append->gA,mem_cons->fB,mem_map->dZ,mem_of_getElem?->cE,mem_singleton->dR,nil_append->gV,not_mem_nil->qD,replicate->e3,replicate_succ->aoK,sum_append->aoP,sum_cons->y8,sum_nil->GY,takeWhile_cons->aoQ,take_add_one->Ew,take_append_drop->aaJ,take_append_of_le_length->aoR,take_left'->SU,take_length->sy,take_length_add_append->aFj,take_of_length_le->n6
open Nat renaming add_assoc->nG,add_sub_cancel_left->SW,eq_of_testBit_eq->aoT,le_refl->ck,le_trans->gY,lt_or_ge->d_,lt_succ_self->AX,min_eq_left->JR,mul_comm->aaK,one_mul->Ex,reduceAdd->uF,sub_self->lM,testBit_and->aoV,testBit_or->SY,testBit_two_pow->aaL,zero_add->gF,zero_le->jR,zero_lt_succ->AY
open Ne renaming symm->eW
open Option renaming bind_some->l7,isSome_none->A2,map->G0,map_some->jS,none->bn,some->a_
open Or renaming inl->bD,inr->bF
namespace Go.Proofs.YtgfjdechmbleeaaGreatDoor
open Go Go.bP Go.RowKit
section
variable{G:Cells}{k a:Nat}{l:List dw}{v pv lv:bg}{ps de:List cM}{w:Bool}{J h:List br}
def QI{a}{c}(q:(wV l a==c)=bh)(T:c≠0):∃y,l[a]?=a_ y/\y.kind=c:=by
 unfold wV at q;cases hy:l[a]? with
 |none=>rw[hy] at q;simp at q;omega
 |some y=>rw[hy] at q;exact⟨y,rfl,an⟩
def aCO{a}(fG:∀x∈l,x.dS)(q:(wV l a==5)=bh):∃y,l[a]?=a_ y/\y.kind=5/\0<=y.low/\y.low<=20/\(y.high= -1\/(1<=y.high/\y.high<=20/\y.low<=y.high)):=by
 obtain⟨y,hy,S⟩:=QI q ag;refine⟨y,hy,S,?_⟩
 rcases(fG y (cE hy)).2 with z|z|z
 omega;omega;exact⟨z.2.2.1,z.2.2.2.1,z.2.2.2.2⟩
def aCM{a}(fG:∀x∈l,x.dS)(q:(wV l a==1)=bh):∃y,l[a]?=a_ y/\y.kind=1/\ug y.name=bh:=by
 obtain⟨y,hy,S⟩:=QI q ag;refine⟨y,hy,S,?_⟩
 rcases(fG y (cE hy)).2 with z|z|z
 exact z.2.1;omega;omega
structure Of(k:Nat)(l:List dw)(a:Nat)(v:bg)(ps:List cM)(J:List br)(n:Int)(b:Nat)(pv:bg)(de:List cM)(h:List br):Prop where
 lt:a<b
 le:b<=l.length
 rx:iI k l b v pv (ps++de) bf h
 kU:l8 k J h
 cnt:de.length+2<=3*(b-a)
 n0:0<=n
 n1:n<((ps++de).length:Nat)
 ok:qF ps->qF (ps++de)
def Of.done{n}{b}(Y:Of k l a v ps J n b pv de h):CH k l a v ps J n h:=
 ⟨n,b,pv,de,bf,rfl,Nat.le_of_lt Y.lt,Y.le,Y.rx,Y.kU,Y.cnt,λ_=>⟨Y.n0,Y.n1,Y.ok⟩⟩
def ag4(hl:l.length<=200)(fG:∀x∈l,x.dS)(ha:a<=l.length)(hI:a<l.length->uL G 102 k l v (a+1)):uL G 222 k l v a:=by
 intro ps pv J hR iB;refine aiN.go ?_;refine wy (cm (IF hR hl) ?_);rintro _ g ⟨rfl,hh⟩;rw[hh];clear hh;refine wy ?_;refine c_ (λq=>?_) λq=>?_;obtain⟨y,hy,agI,lV⟩:=aCM fG q;have cQ:=gl hy;have e1:cA 5 v (.v (.int .i64 (a)))=a_ (.fp y.cells 0):=hR.v.cI (x:=y.bN) aT rfl;have e2:∀J,bA J bf 1 (.fp y.cells 4)=a_ (bu y.name):=λJ=>rfl;have f1:dH [.v (.int .i64 0),.v (.int .i64 0),.v (.int .i64 0),.v (.string ⟨#[]⟩),.bp] [(0,1,.v (.int .i64 1)),(3,1,bu y.name)]=a_ (qC ⟨1,0,0,y.name,[],.exact⟩):=rfl;have FB:=Xm (G:=G) hR aa ⟨1,0,0,y.name,[],.exact⟩;unfold q9 at FB;refine wx (cm FB ?_);rintro _ g1 ⟨rfl,⟨qY,HW⟩,qk⟩;have w1:dy.wrap ((a)+1)=((a+1:Nat):Int):=lG aa;refine nD ?_;obtain⟨n,hn⟩:∃n:Int,n=(ps.length:Int):=⟨_,rfl⟩;obtain⟨b,O⟩:∃b,b=a+1:=⟨_,rfl⟩;obtain⟨de,avm⟩:∃de:List cM,de=[⟨1,0,0,y.name,[],.exact⟩]:=⟨_,rfl⟩;have hT:Of k l a v ps J n b qY de (g1.set k (.cells [v,.v (.int .i64 ((a+1:Nat):Int)),qY,.v (.bool bf)] bf)):=by
  subst O;subst hn;subst avm;refine⟨aa,aa,HW.put (a+1) bf,qk.trans JK,af,aa,ah,λz=>z.push ⟨bD ⟨rfl,rfl,rfl,lV,rfl⟩,af⟩⟩
 rw[<-hn];generalize g1.set k (.cells [v,.v (.int .i64 ((a+1:Nat):Int)),qY,.v (.bool bf)] bf)=h at hT⊢
 rotate_left
 refine c_ (λbt=>?_) λbt=>?_;obtain⟨y,hy,agI⟩:=QI bt ag;have cQ:=gl hy;have w1:dy.wrap ((a)+1)=((a+1:Nat):Int):=lG aa;have HW:=hR.put (a+1) bf;have qk:l8 k J (J.set k (.cells [v,bq ((a+1:Nat):Int),pv,.v (.bool bf)] bf)):=JK;have st:=hR.iE (a+1);generalize J.set k (.cells [v,bq ((a+1:Nat):Int),pv,.v (.bool bf)] bf)=Y at HW qk st;refine wx (cm (hI cQ ps pv Y HW aa) ?_);rintro _ V ⟨n,a2,qY,de,w,rfl,c1,c2,c3,c4,c5,ia⟩;have bad:CH k l a v ps J (.v (.int .i64 n)) (V.set k (.cells [v,bq (a2),qY,.v (.bool bh)] bf)):=
  ⟨n,a2,qY,de,bh,rfl,aa,c2,c3.put a2 bh,(qk.trans c4).trans JK,by cases w<;>simp at c5⊢<;>omega,λq=>av⟩
 cases w;refine wx (cm (IF c3 hl) ?_);rintro _ g ⟨rfl,hh⟩;rw[hh];clear hh;refine wy (cL (λbT=>?_) λbT=>?_);exact Cd @c3.D5 bad;have fh:(wV l a2==3)=bh:=by simpa using bT
 obtain⟨fK,IB,_⟩:=QI fh ag;have aGu:=gl IB;refine wx ?_;obtain⟨b,O⟩:∃b,b=a2+1:=⟨_,rfl⟩;obtain⟨jn,iZ,c9⟩:=ia rfl;have hT:Of k l a v ps J n b qY de (V.set k (.cells [v,bq ((a2+1:Nat):Int),qY,.v (.bool bf)] bf)):=by
  subst O;exact⟨aa,aa,c3.put (a2+1) bf,(qk.trans c4).trans JK,by simp at c5;omega,jn,iZ,c9⟩
 generalize V.set k (.cells [v,bq ((a2+1:Nat):Int),qY,.v (.bool bf)] bf)=h at hT⊢
 rotate_left
 exact aET @c3.DO @c3.D5 bad;exact⟨-1,a,pv,[],bh,rfl,ck _,ha,by rw[hJ];exact hR.put a bh,JK,af,λq=>av⟩
 all_goals
  refine mG @Hw @mh (cm (IF hT.rx hl) ?_);rintro _ u0 ⟨rfl,hh⟩;rw[hh];clear hh;refine fj ?_;refine c_ (λvu=>?_) λvu=>?_;obtain⟨y,hy,agI,LX⟩:=aCO fG vu;have cQ:=gl hy;have e1:cA 5 v (.v (.int .i64 (b)))=a_ (.fp y.cells 0):=hT.rx.v.cI (x:=y.bN) aT rfl;have e2:∀J,bA J bh 5 (.fp y.cells 0)=a_ (.agg y.cells):=λJ=>rfl;have s1:=yE h y;unfold iw at s1;have hX:iI k l b v qY (ps++de) bf (h++[.cells y.cells bf]):=hT.rx.keep λj c z _=>bU z;have acn:l8 k J (h++[.cells y.cells bf]):=hT.kU.trans l8.app;have eS:=gl hT.rx.b;have an6:(h++[bw y.cells bf])[h.length]?=a_ (.cells y.cells bf):=af
  generalize h++[bw y.cells bf]=g at s1 hX acn an6;have lS:=hX.put (b+1) bf;have aco:=acn.trans (JK (x:=.cells [v,bq ((b+1:Nat):Int),qY,.v (.bool bf)] bf));have Z6:(g.set k (.cells [v,bq ((b+1:Nat):Int),qY,.v (.bool bf)] bf))[h.length]?=a_ (.cells y.cells bf):=by rw[bC aa];exact an6
  have w1:dy.wrap ((b)+1)=((b+1:Nat):Int):=lG aa;have s2:=hX.iE (b+1);generalize g.set k (.cells [v,bq ((b+1:Nat):Int),qY,.v (.bool bf)] bf)=g2 at s2 lS aco Z6;have l2:bA g2 bf 1 (.mp h.length 2)=a_ (.v (.int .i64 y.low)):=by simp only[bA,Z6];rfl
  have l3:bA g2 bf 1 (.mp h.length 3)=a_ (.v (.int .i64 y.high)):=by simp only[bA,Z6];rfl
  have f1:dH [.v (.int .i64 0),.v (.int .i64 0),.v (.int .i64 0),.v (.string ⟨#[]⟩),.bp] [(0,1,.v (.int .i64 4)),(1,1,.v (.int .i64 y.low)),(2,1,.v (.int .i64 y.high)),(4,1,.sl [.v (.int .i64 n)] .exact)]=a_ (qC ⟨4,y.low,y.high,[],[n],.exact⟩):=rfl;have aGz:=hT.cnt;have hab:=hT.lt;have FB:=Xm (G:=G) lS ah ⟨4,y.low,y.high,[],[n],.exact⟩;unfold q9 at FB;refine vG (fH @vu @hT.rx.F4 @hT.rx.iD @e1) @e2 @s1 @hX.iD @w1 @s2 @l2 @l3 @f1 (cm FB ?_);rintro _ g3 ⟨rfl,⟨cj,hZ⟩,aqc⟩;refine eN @bq.eq_1 ?_;rw[dU] at hZ;refine⟨((ps++de).length:Nat),b+1,cj,de++[⟨4,y.low,y.high,[],[n],.exact⟩],bf,rfl,aa,aa,hZ,aco.trans aqc,ah,λ_=>⟨aa,ah,λz=>?_⟩⟩;rw[<-dU];refine(hT.ok z).push ⟨bF (bF ⟨rfl,rfl,rfl,LX⟩),λx I=>?_⟩;rw[dR.1 I];exact⟨hT.n0,hT.n1⟩;exact hT.done
def tf(hl:l.length<=200)(fG:∀x∈l,x.dS):∀(n a),a<=l.length->l.length-a<=n->uL G 222 k l v a/\uL G 171 k l v a/\uL G 102 k l v a:=by
 intro n
 induction n with
 |zero=>
  intro a ha hn;have i:uL G 222 k l v a:=ag4 hl fG ha λq=>aa
  have r:uL G 171 k l v a:=alR hl ha λb Y V=>by
   obtain rfl:b=a:=aa
   exact i
  exact⟨i,r,ac6 hl ha λb Y V=>by
   obtain rfl:b=a:=aa
   exact r⟩
 |succ n ih=>
  intro a ha hn;have i:uL G 222 k l v a:=ag4 hl fG ha λq=>(ih (a+1) aa aa).2.2;have r:uL G 171 k l v a:=alR hl ha λb Y V=>by
   rcases Nat.eq_or_lt_of_le Y with q|q
   subst q;exact i;exact(ih b V aa).1
  exact⟨i,r,ac6 hl ha λb Y V=>by
   rcases Nat.eq_or_lt_of_le Y with q|q
   subst q;exact r;exact(ih b V aa).2.1⟩
end
def e4.QW{α:Type}{J}{f g}:∀{l:List α},(∀a∈l,b8 J (f a) (g a))->e4 J (l.map f) (l.map g)
 |[],_=>cW
 |a::l,h=>bG (h a af) (e4.QW λb O=>h b aIw)
def cM.cC(p:cM):cM:={p with tail:=.no}
def Va(J)(p:cM):b8 J p.bN p.cC.bN:=by
 have S:b8 J p.kv p.cC.kv:=by
  obtain⟨k,lo,Q,nm,kids,t⟩:=p;unfold cM.cC cM.kv;cases kids with
  |nil=>exact eB
  |cons x r=>exact gP (iW λa _=>bH _)
 exact kA (bG (bH _) (bG (bH _) (bG (bH _) (bG (bH _) (bG S cW)))))
def aA4{ps}(h:qF ps):qF (ps.map cM.cC):=by
 intro i p J;rw[fL] at J;cases hq:ps[i]? with
 |none=>rw[hq] at J;cases J
 |some q=>
  rw[hq] at J;cases J;exact h i q hq
structure sH(v:bg)(ps:List cM):Prop where
 v:cG v (ps.map q9)
 ok:qF ps
 len:ps.length<=600
 no:∀p∈ps,p.tail=.no
def Tn(r:bg):Prop:=∃(v:bg) (p e:Int),r=.bQ [v,bq p,bq e]/\((e=0/\p=0/\∃ps,sH v ps)\/(e≠0/\v=.bp))
def HM{J}{v v'}{p e}(hv:b8 J v v')(hQ:Tn (.bQ [v',bq p,bq e])):∃n bS,cX J n (.bQ [v,p,e])=a_ bS/\Tn bS:=by
 obtain⟨n,hn⟩:=(fD (bG hv (bG (bH (.int .i64 p)) (bG (bH (.int .i64 e)) cW))):b8 J _ _).done;exact⟨n,_,hn,hQ⟩
def uT(s):eP (bu s):=dz _
def Yr{G}(cB:fS G)(s)(hs:s.length<=1000000):dA G bE 55 [bu s] Tn:=by
 refine dX (ahi.go ?_);refine wy ?_;refine ek (ajQ cB s hs) ?_;rintro r (⟨l,v,hl,fG,hv,rfl⟩|⟨p,e,he,rfl⟩);refine wy ?_;have ln:=hv.cN;rw[dj] at ln;refine wy ?_;refine c_ (λq=>?_) λq=>?_;exact HM eB ⟨_,_,_,rfl,bD ⟨rfl,rfl,[],bF ⟨rfl,rfl⟩,λi p h=>aq,ag,af⟩⟩
 have f1:dH [.bp,(0:Int)] [(0,1,v)]=a_ [v,(0:Int)]:=by rcases hv with rfl|⟨rfl,_⟩<;>rfl
 have f2:dH [.bp,(0:Int),.bp,bf] [(0,2,.agg [v,(0:Int)])]=a_ [v,(0:Int),.bp,bf]:=rfl;refine wy ?_;have hR:iI 0 l 0 v .bp [] bf [.cells [v,(0:Int),.bp,bf] bf]:=⟨rfl,hv,bD ⟨rfl,rfl⟩⟩;refine cm ((tf hl fG l.length 0 (jR _) aa).2.2 [] .bp _ hR af) ?_;rintro _ h ⟨n,a,pv,de,w,rfl,c1,c2,c3,c4,c5,ia⟩;rw[gV] at c3 ia;have l1:=c3.iD;refine wy (cL (λbt=>?_) λbt=>?_);have cQ:a<l.length:=by simp at bt;exact bt
 obtain⟨y,hy⟩:=cO cQ;have e1:cA 5 v (a:Int)=a_ (.fp y.cells 0):=hv.cI (x:=y.bN) aT rfl;have e2:∀J,bA J bf 1 (.fp y.cells 1)=a_ (.v (.int .i64 y.at_)):=λJ=>rfl;refine wy ?_;exact HM eB ⟨_,_,_,rfl,bF ⟨ag,rfl⟩⟩;cases w with
 |true=>
  refine wx ?_;exact HM eB ⟨_,_,_,rfl,bF ⟨ag,rfl⟩⟩
 |false=>
  refine wx ?_;obtain⟨_,_,jn⟩:=ia rfl;have ok:=aA4 (jn λi p h=>aq);have len:(de.map cM.cC).length<=600:=by simp at c5⊢;omega
  have no:∀p∈de.map cM.cC,p.tail=.no:=λp J=>by
   obtain⟨x,_,rfl⟩:=dZ.1 J;rfl
  rcases c3.app with⟨rfl,z⟩|⟨id,rfl,_⟩
  have:de=[]:=aN
  subst this;exact HM eB ⟨_,_,_,rfl,bD ⟨rfl,rfl,_,bF ⟨rfl,rfl⟩,ok,len,no⟩⟩;refine HM (gP (e4.QW λp _=>Va _ p)) ⟨_,_,_,rfl,bD ⟨rfl,rfl,de.map cM.cC,bD ?_,ok,len,no⟩⟩;rw[y6];rfl
 refine wy ?_;have q:(e !=0)=bh:=aHR
 exact wy (HM eB ⟨_,_,_,rfl,bF ⟨he,rfl⟩⟩)
section
variable{p:cM}{i:Nat}
def jD(r:bg):Prop:=∃b:Bool,r=b
def iS{J}(b):∃n bS,cX J n (.v (.bool b))=a_ bS/\jD bS:=by
 obtain⟨n,hn⟩:=(bH (.bool b):b8 J _ _).done;exact⟨n,_,hn,b,rfl⟩
def az6{G}(cB:fS G)(s)(hs:s.length<=1000000):dA G bE 225 [bu s] jD:=by
 refine dX (aiR.go ?_);refine wy ?_;refine ek (ajQ cB s hs) ?_;rintro r (⟨l,v,hl,fG,hv,rfl⟩|⟨p,e,he,rfl⟩);have ln:=hv.cN;rw[dj] at ln;refine wy ?_;refine c_ (λq=>?_) λq=>?_;obtain⟨y,rfl⟩:∃y,l=[y]:=Ev.1 au;have e1:cA 5 v (0:Int)=a_ (.fp y.cells 0):=hv.cI (i:=0) rfl rfl;have e2:∀J,bA J bf 1 (.fp y.cells 0)=a_ (.v (.int .i64 y.kind)):=λJ=>rfl;have dc:∀J,bA J bf 1 (.fp y.cells 4)=a_ (bu y.name):=λJ=>rfl;have eL:k9 4 (.fp y.cells 0)=a_ (.fp y.cells 4):=rfl;refine jl @q @e1 @e2 ?_;refine c_ (λbt=>?_) λbt=>?_;refine l5 @e1 @eL @dc @og ?_;exact iS _;exact iS _;exact iS _;have q:(e==0)=bf:=aHR
 exact wy (iS _)
@[go_sem]def yj(h:p.tail=.no)(hl:p.kids.length<=4611686018427387904)(J):cN p.kv J=a_ (.v (.int .i64 (p.kids.length:Int)),J):=by
 unfold cM.kv;split;rename_i e;rw[e];rfl;simp[qq,goInt]
def apR{G}(cB:fS G)(ho:p.dS i)(ht:p.tail=.no):dA G bE 176 [p.bN] jD:=by
 refine dX (aiq.go ?_);have tS:p.bN.cells=p.cells:=rfl;have ln:=yj ht (gY ho.kids ag);obtain⟨k,lo,Q,nm,kids,t⟩:=p;have l0:bA ([]++[.cells (qC ⟨k,lo,Q,nm,kids,t⟩) bf]) bf 1 (.mp 0 0)=a_ (.v (.int .i64 k)):=rfl;have l1:bA ([]++[.cells (qC ⟨k,lo,Q,nm,kids,t⟩) bf]) bf 1 (.mp 0 1)=a_ (.v (.int .i64 lo)):=rfl;have l2:bA ([]++[.cells (qC ⟨k,lo,Q,nm,kids,t⟩) bf]) bf 1 (.mp 0 2)=a_ (.v (.int .i64 Q)):=rfl;have l3:bA ([]++[.cells (qC ⟨k,lo,Q,nm,kids,t⟩) bf]) bf 1 (.mp 0 3)=a_ (bu nm):=rfl;have l4:bA ([]++[.cells (qC ⟨k,lo,Q,nm,kids,t⟩) bf]) bf 1 (.mp 0 4)=a_ (cM.kv ⟨k,lo,Q,nm,kids,t⟩):=rfl;generalize hg:[]++[bw (qC ⟨k,lo,Q,nm,kids,t⟩) bf]=g at l0 l1 l2 l3 l4;have z0:([]:List br).length=0:=rfl;obtain⟨qR,qS⟩:=ho;dsimp only at qR qS ln;refine l5 @tS @hg @z0 @l0 ?_
 rcases qR with⟨rfl,rfl,rfl,hn,rfl⟩|⟨hk2,rfl,rfl,rfl,S,_⟩|⟨rfl,rfl,S,h0,Y,V⟩
 have n0:(((0:Nat):Int)==0)=bh:=rfl;refine vG @mh @l0 @l1 @l2 @l3 @l4 @ln @iP.{0} @n0 ?_;have x_:nm.length<=1000000:=by
  simp only[ug,fA,decide_eq_true_eq] at hn;omega
 refine ek (az6 cB nm x_) ?_;rintro r ⟨b,rfl⟩;exact fj (iS _)
 · have e1:decide ((1:Int)<(kids.length:Int))=bh:=by simp;omega
   have dc:dF .eql (bu []) (.v (.string ⟨[].toArray⟩))=a_ (.v (.bool bh)):=og [] []
   rcases hk2 with rfl|rfl
   all_goals
    exact GK @l0 @l1 @l2 @l3 @l4 @ln @e1 @dc (iS _)
 have dc:dF .eql (bu []) (.v (.string ⟨[].toArray⟩))=a_ (.v (.bool bh)):=og [] [];have n1:((kids.length:Int)==1)=bh:=ah
 have n2:decide (0<=lo)=bh:=ah
 have lX:decide (lo<=20)=bh:=ah
 refine oH @mh @l0 @l1 @l2 @l3 @l4 @ln (cL (λq=>?_) λq=>?_);exact GK (fH @q @l0 @l1 @l2) @l3 @l4 @ln @n1 @n2 @lX @dc (iS _);have m1:rD bh [lo,(1:Int)]=a_ (.v (.int .i64 (if(1:Int)>lo then 1 else lo))):=rfl;have m2:decide ((if(1:Int)>lo then 1 else lo)<=Q)=bh:=by
  simp at q;simp only[decide_eq_true_eq];split<;>omega
 have m3:decide (Q<=20)=bh:=by simp at q⊢;omega
 exact GK (fH @q @l0 @l1 @l2) (fH @l3 @l4 @ln @n1) @n2 @lX @dc @m1 @m2 @m3 (iS _)
def v7(J:List br)(v:bg)(xs:List Int):Prop:=(v=.bp/\xs=[])\/(∃t,v=.sl (xs.map bq) t)\/∃k Z off,v=.rs k Z.length 1 off xs.length/\J[k]?=a_ (.cells Z bh)/\∀(i:Nat) x,xs[i]?=a_ x->Z[off+i]?=a_ (bq x)
@[go_sem]def v7.len{J}{v}{xs}(h:v7 J v xs)(hl:xs.length<=4611686018427387904):cN v J=a_ (.v (.int .i64 (xs.length:Int)),J):=by
 rcases h with⟨rfl,rfl⟩|⟨t,rfl⟩|⟨k,Z,off,rfl,_,_⟩
 rfl;simp[qq,goInt];rfl
def v7.get{J}{v}{xs}(h:v7 J v xs){x}(I:xs[i]?=a_ x):∃p,cA 1 v (i:Int)=a_ p/\bA J bf 1 p=a_ (.v (.int .i64 x)):=by
 have Q:=gl I
 rcases h with⟨rfl,rfl⟩|⟨t,rfl⟩|⟨k,Z,off,rfl,S,T⟩
 simp at I;refine⟨.fp [bq x] 0,?_,rfl⟩;simp only[cA,fL,xu,I,jS];rw[if_pos aa];rfl;refine⟨.rp k Z.length (off+i*1),?_,?_⟩;show(if 0<=(i:Int)/\(i)<(xs.length:Int) then a_ (bg.rp k Z.length (off+(i:Int).toNat*1)) else bn)=_;rw[if_pos ⟨aa,aa⟩];simp;have:=T i x I;unfold bq at this;simp only[bA,S,if_true,Nat.mul_one];simpa[eZ] using this
def ar0{G}{J}{v w}{xs ys}(hv:v7 J v xs)(hw:v7 J w ys)(Y:xs.length<=1000000)(V:ys.length<=1000000):cy G bE 177 [v,w] J λr bl=>(∃b:Bool,r=b/\(b=bh->xs=ys))/\bl=J:=by
 refine air.go ?_;refine wx ?_;refine c_ (λq=>?_) λq=>?_;exact⟨⟨bf,rfl,λh=>aF⟩,trivial⟩;have hl:xs.length=ys.length:=au
 refine mG @q (hv.len (show xs.length<=4611686018427387904 by omega)) ?_;refine dx (λi e h=>e=[(0,v),(1,w),(12,bq xs.length),(13,bq i)]/\h=J/\∀(j),j<i->xs[j]?=ys[j]?) xs.length ⟨rfl,rfl,λj h=>aa⟩ ?_ ?_;rintro i e h Q ⟨rfl,rfl,hI⟩;obtain⟨x,I⟩:=cO Q;obtain⟨y,hy⟩:∃y,ys[i]?=a_ y:=⟨ys[i]' aa,cx aa⟩;obtain⟨p1,a1,b1⟩:=hv.get I;obtain⟨p2,a2,b2⟩:=hw.get hy;refine nD ?_;refine c_ (λbt=>?_) λbt=>?_;exact⟨⟨bf,rfl,λh=>aF⟩,trivial⟩;refine wx ?_;refine⟨rfl,trivial,λj hj=>?_⟩
 rcases d_ j i with z|z
 exact hI j z;obtain rfl:j=i:=aa
 rw[I,hy];simp at bt;rw[bt];rintro e h ⟨rfl,rfl,hI⟩;refine eN @bq.eq_1 ?_;refine⟨⟨bh,rfl,λ_=>Et λj=>?_⟩,trivial⟩
 rcases d_ j xs.length with z|z
 exact hI j z;rw[jJ z,jJ aa]
end
section
variable{h:dV}{J:List br}{G:Cells}
def GN:List bg:=[.v (.int .i64 0),.v (.int .i64 0),.v (.int .i64 0),.v (.int .i32 0),.v (.int .u16 0),.v (.int .u16 0),.v (.int .u16 0),.v (.int .u16 0),.v (.int .u16 0),.v (.int .u16 0),.v (.int .u16 0),.v (.int .u16 0),.bp,.bp,.v (.int .i64 0),.v (.int .i64 0)]
def ux(ho:h.dS):h.cells.length=12:=by simp[dV.cells,ho.len]
def Na(ho:h.dS):∃c0 c1 c2 c3 c4 c5 ia jn iZ c9 jU jV,h.cells=[c0,c1,c2,c3,c4,c5,ia,jn,iZ,c9,jU,jV]:=by
 have:=ux ho
 match h.cells,this with
 |[c0,c1,c2,c3,c4,c5,ia,jn,iZ,c9,jU,jV],_=>exact⟨c0,c1,c2,c3,c4,c5,ia,jn,iZ,c9,jU,jV,rfl⟩
def ajZ(ho:h.dS)(r):eZ bh 12 (h.cells++r) 0=a_ h.bN:=by
 obtain⟨c0,c1,c2,c3,c4,c5,ia,jn,iZ,c9,jU,jV,e⟩:=Na ho;simp only[k5,e];rfl
def Md(ho:h.dS):eZ bh 12 h.cells 0=a_ h.bN:=by
 have:=ajZ ho []
 rwa [hJ] at this
def HQ(h:dV):e4 J h.cells h.cells:=by
 refine e4.each λa ha=>?_;simp only[dV.cells,fB,dZ] at ha
 rcases ha with rfl|rfl|rfl|rfl|⟨x,_,rfl⟩<;>exact bH _
def aeY(r:List Int){t}:b8 J (.sl (r.map jY) t) (.sl (r.map jY) .no):=gP (iW λa _=>bH _)
mutual
theorem Vb{J:List br}:∀t:hc,b8 J t.bN t.bN
 |.node h ks=>by
  rw[hc.bN];exact b8.fp (Cj (HQ h) (bG eB (bG (aeX ks) (bG (bH _) (bG (bH _) cW)))))
 |.leaf h=>by
  rw[hc.bN];exact b8.fp (Cj (HQ h) (bG eB (bG eB (bG (bH _) (bG (bH _) cW)))))
 |.text h r=>by
  rw[hc.bN];exact b8.fp (Cj (HQ h) (bG (aeY r) (bG eB (bG (bH _) (bG (bH _) cW)))))
theorem aeZ{J:List br}:∀ks:List hc,e4 J (ei ks) (ei ks)
 |[]=>cW
 |k::r=>by
  rw[ei];exact bG (Vb k) (aeZ r)
theorem aeX{J:List br}:∀ks:List hc,b8 J (gU (ei ks)) (gU (ei ks))
 |[]=>eB
 |k::r=>by
  rw[ei,gU];exact gP (bG (Vb k) (aeZ r));exact λh=>aF
end
def ay8(ho:h.dS):dL G bE 18 [h.bN] (hc.leaf h).bN:=by
 refine gr (ai_.go ?_);have hl:bA ([]++[bw h.bN.cells bf]) bh 12 (.mp ([]:List br).length 0)=a_ h.bN:=Md ho;have hf:dH GN [(0,12,h.bN),(14,1,.v (.int .i64 1)),(15,1,.v (.int .i64 1))]=a_ (h.cells++[.bp,.bp,bq 1,bq 1]):=by
  obtain⟨c0,c1,c2,c3,c4,c5,ia,jn,iZ,c9,jU,jV,e⟩:=Na ho;simp only[k5,e];rfl
 unfold GN at hf;exact aEI @hl @hf ((b8.mp rfl (Cj (HQ h) (bG eB (bG eB (bG (bH _) (bG (bH _) cW)))))).done)
def TU(ho:h.dS):(JE h).dS:=⟨ho.S,ho.ht,ho.ha,⟨by show(-2147483648:Int)<=0;decide,by show(0:Int)<=2147483647;decide⟩,ho.len,ho.hm⟩
def aza(ho:h.dS)(r):dL G bE 19 [h.bN,.sl (r.map jY) .no] (hc.text (JE h) r).bN:=by
 refine gr (aja.go ?_);have hs:bL ([]++[bw h.bN.cells bf]) 1 (.mp ([]:List br).length (0+3)) (.v (.int .i32 0))=a_ ([]++[bw (JE h).bN.cells bf]):=by
  obtain⟨k,t,a,x,m⟩:=h;rfl
 have hl:bA ([]++[bw (JE h).bN.cells bf]) bh 12 (.mp ([]:List br).length 0)=a_ (JE h).bN:=Md (TU ho);have hf:dH GN [(0,12,(JE h).bN),(12,1,.sl (r.map jY) .no),(14,1,.v (.int .i64 r.length)),(15,1,.v (.int .i64 1))]=a_ ((JE h).cells++[.sl (r.map jY) .no,.bp,bq r.length,bq 1]):=by
  obtain⟨c0,c1,c2,c3,c4,c5,ia,jn,iZ,c9,jU,jV,e⟩:=Na (TU ho);simp only[k5,e];rfl
 unfold GN at hf;exact Z1 @hs @hl @hf @goInt.eq_1 @dj.{0,0} ((b8.mp rfl (Cj (HQ _) (bG (aeY r) (bG eB (bG (bH _) (bG (bH _) cW)))))).done)
def aCT(ks):cG (gU (ei ks)) (ei ks):=by
 cases ks with
 |nil=>exact bF ⟨rfl,rfl⟩
 |cons k r=>exact bD (by rw[ei,gU];exact λh=>aF)
def max2(a b:Nat):rD bh [.v (.int .i64 (a)),.v (.int .i64 (b))]=a_ (.v (.int .i64 ((max a b:Nat):Int))):=by
 simp only[rD,Hv,Om,l7,if_true];congr 3;split<;>omega
def agS(ho:h.dS){ks}(S:∀k∈ks,k.wf)(O:gM ks<=4611686018427387904)(hn:ks.length<=4611686018427387904):dL G bE 17 [h.bN,gU (ei ks)] (hc.node h ks).bN:=by
 refine gr (ai9.go ?_);obtain⟨c0,c1,c2,c3,c4,c5,ia,jn,iZ,c9,jU,jV,e⟩:=Na ho;have hl:bA ([]++[bw h.bN.cells bf]) bh 12 (.mp ([]:List br).length 0)=a_ h.bN:=Md ho;have hv:=aCT ks;have hf:dH GN [(0,12,h.bN),(13,1,gU (ei ks)),(14,1,.v (.int .i64 2))]=a_ [c0,c1,c2,c3,c4,c5,ia,jn,iZ,c9,jU,jV,.bp,gU (ei ks),bq 2,bq 0]:=by
  simp only[k5,e]
  have T:(gU (ei ks)).cells=[gU (ei ks)]:=by rcases hv with q|⟨q,_⟩<;>rw[q]<;>rfl
  unfold GN dH;rw[if_pos ⟨rfl,of_decide_eq_true rfl⟩];unfold dH;rw[if_pos ⟨by rw[T];rfl,of_decide_eq_true rfl⟩,T];rfl
 unfold GN at hf;refine Z1 @hl @hf @hv.cN @goInt.eq_1 @Hz ?_;refine dx (λi e J=>e=[(5,.mp 1 0),(12,gU (ei ks)),(13,bq ks.length),(14,bq i)]/\J=[.cells h.bN.cells bf,.cells [c0,c1,c2,c3,c4,c5,ia,jn,iZ,c9,jU,jV,.bp,gU (ei ks),bq ((2+gM (ks.take i):Nat):Int),bq ((ov (ks.take i):Nat):Int)] bf]) ks.length ⟨rfl,rfl⟩ ?_ ?_;rintro i e J Q ⟨rfl,rfl⟩;obtain⟨k,FA⟩:=cO Q;have kW:(ei ks)[i]?=a_ k.bN:=by rw[zw];simp[FA]
 have d1:decide ((i)<(ks.length:Int))=bh:=ah
 have e1:cA 1 (gU (ei ks)) (.v (.int .i64 i))=a_ (.fp [k.bN] 0):=by rw[hv.cI kW (by rw[Nw];rfl),Nw]
 have l1:∀J,bA J bf 1 (.fp [k.bN] 0)=a_ k.bN:=λJ=>TH J rfl;obtain⟨d0,Ut,d2,d3,d4,d5,d6,d7,d8,d9,E6,adE,p,q,at0⟩:=hc.ap9 (S k (cE FA));have l2:∀J,bA J bf 1 (.fp [d0,Ut,d2,d3,d4,d5,d6,d7,d8,d9,E6,adE,p,q,bq (k.size:Int),bq (k.height:Int)] 14)=a_ (bq (k.size:Int)):=λJ=>TH J rfl;have l3:∀J,bA J bf 1 (.fp [d0,Ut,d2,d3,d4,d5,d6,d7,d8,d9,E6,adE,p,q,bq (k.size:Int),bq (k.height:Int)] 15)=a_ (bq (k.height:Int)):=λJ=>TH J rfl;rw[at0] at e1 l1;simp only[bq] at e1 l1 l2 l3;have l4:∀a b,bA [.cells h.bN.cells bf,.cells [c0,c1,c2,c3,c4,c5,ia,jn,iZ,c9,jU,jV,.bp,gU (ei ks),a,b] bf] bf 1 (.mp 1 14)=a_ a:=λa b=>rfl;have DL:∀a b,bA [.cells h.bN.cells bf,.cells [c0,c1,c2,c3,c4,c5,ia,jn,iZ,c9,jU,jV,.bp,gU (ei ks),a,b] bf] bf 1 (.mp 1 15)=a_ b:=λa b=>rfl;have kr:∀a b n,bL [.cells h.bN.cells bf,.cells [c0,c1,c2,c3,c4,c5,ia,jn,iZ,c9,jU,jV,.bp,gU (ei ks),a,b] bf] 1 (.mp 1 14) (.v (.int .i64 n))=a_ [.cells h.bN.cells bf,.cells [c0,c1,c2,c3,c4,c5,ia,jn,iZ,c9,jU,jV,.bp,gU (ei ks),.v (.int .i64 n),b] bf]:=λa b n=>rfl;have j_:∀a b n,bL [.cells h.bN.cells bf,.cells [c0,c1,c2,c3,c4,c5,ia,jn,iZ,c9,jU,jV,.bp,gU (ei ks),a,b] bf] 1 (.mp 1 15) (.v (.int .i64 n))=a_ [.cells h.bN.cells bf,.cells [c0,c1,c2,c3,c4,c5,ia,jn,iZ,c9,jU,jV,.bp,gU (ei ks),a,.v (.int .i64 n)] bf]:=λa b n=>rfl;have t1:=aCS FA;have b1:=amy ks (i+1);have w1:dy.wrap (((2+gM (ks.take i):Nat):Int)+(k.size:Int))=((2+gM (ks.take (i+1)):Nat):Int):=by rw[gN aa aa];omega
 have w2:dy.wrap ((i)+1)=((i+1:Nat):Int):=by rw[gN aa aa];rfl
 have m1:=max2 (ov (ks.take i)) k.height;rw[<-(aul FA)] at m1;exact yR (fH @bq.eq_1 @d1 @e1 @l1) (fH @l2 @l3 @l4 @DL) @kr @j_ @w1 @w2 @m1 tt;rintro e J ⟨rfl,rfl⟩;have d1:decide ((ks.length:Int)<(ks.length:Int))=bf:=af
 have DL:∀a b,bA [.cells h.bN.cells bf,.cells [c0,c1,c2,c3,c4,c5,ia,jn,iZ,c9,jU,jV,.bp,gU (ei ks),a,b] bf] bf 1 (.mp 1 15)=a_ b:=λa b=>rfl;have j_:∀a b n,bL [.cells h.bN.cells bf,.cells [c0,c1,c2,c3,c4,c5,ia,jn,iZ,c9,jU,jV,.bp,gU (ei ks),a,b] bf] 1 (.mp 1 15) (.v (.int .i64 n))=a_ [.cells h.bN.cells bf,.cells [c0,c1,c2,c3,c4,c5,ia,jn,iZ,c9,jU,jV,.bp,gU (ei ks),a,.v (.int .i64 n)] bf]:=λa b n=>rfl;have Y:=VV ks;have w1:dy.wrap ((ov ks)+1)=((ov ks+1:Nat):Int):=by rw[gN aa aa];rfl
 refine Cd @sy.{0} ?_;refine(b8.mp rfl ?_).done;have:=Cj (J:=[.cells h.bN.cells bf,.cells [c0,c1,c2,c3,c4,c5,ia,jn,iZ,c9,jU,jV,.bp,gU (ei ks),.v (.int .i64 ((2+gM ks:Nat):Int)),.v (.int .i64 ((ov ks+1:Nat):Int))] bf]) (HQ h) (bG eB (bG (aeX ks) (bG (bH (.int .i64 ((2+gM ks:Nat):Int))) (bG (bH (.int .i64 ((ov ks+1:Nat):Int))) cW))));rw[e] at this;rw[e];exact this
end
end Go.Proofs.YtgfjdechmbleeaaGreatDoor
section
namespace Go.bP
open Go.RowKit
def ape(J:List br):Prop:=∀b∈J,(∃Z r,b=.cells Z r)\/∃n s e,b=.tok n s e
end Go.bP
namespace Go.Proofs.YtgfjdechmbleeaaGreatDoor
open Go Go.bP Go.RowKit
def Kw(t:dV):∀c∈t.cells,eP c:=λc T=>by
 simp only[dV.cells,fB,dZ] at T
 rcases T with rfl|rfl|rfl|rfl|⟨x,_,rfl⟩<;>exact dz _
def Kv(t:dV):eP t.bN:=HF (Kw t)
def Ext(O J:List br):Prop:=∀(j:Nat) b,O[j]?=a_ b->J[j]?=a_ b
def Ext.refl(O):Ext O O:=λ_ _ h=>h
def Ext.app{O l}:Ext O (O++l):=λ_ _ h=>bU h
def Ext.qf{O J l}(h:Ext O J):Ext O (J++l):=λj b q=>bU (h j b q)
def Ext.nil(J):Ext [] J:=λj b h=>aq
def Ext.len{O J}(h:Ext O J):O.length<=J.length:=by
 rcases d_ J.length O.length with q|q
 have:=h J.length _ (cx q);rw[jJ (ck _)] at this;cases this;exact q
def Ext.split{O J}(h:Ext O J):∃l,J=O++l:=by
 refine⟨J.drop O.length,?_⟩;apply Et;intro j
 rcases d_ j O.length with q|q
 rw[fE q,h j _ (cx q),cx q];rw[fF q,sx];congr 1;omega
def apg(O:List br)(v:bg)(l:List dV):Prop:=∃k Z off,v=.rs k Z.length 12 off l.length/\O[k]?=a_ (.cells Z bh)/\∀(i:Nat) t,l[i]?=a_ t->off+i*12+12<=Z.length/\(Z.drop (off+i*12)).take 12=t.cells
def tK(O:List br)(v:bg)(l:List dV):Prop:=cG v (l.map k5)\/apg O v l
def azs{t:dV}(ho:t.dS):eZ bh 8 t.cells 4=a_ (.agg (t.marks.map jw)):=by
 have V:t.cells.length=12:=ux ho;unfold eZ;rw[if_pos rfl,if_pos aa];have:t.cells.drop 4=t.marks.map jw:=rfl;rw[this,n6 (by simp[ho.len])]
def tK.len{O}{v:bg}{l}(h:tK O v l)(J):cN v J=a_ (.v (.int .i64 (l.length:Int)),J):=by
 rcases h with h|⟨k,Z,off,rfl,_,_⟩
 have:=h.cN J
 rwa [dj] at this
 rfl
structure apo(O:List br)(p:bg)(t:dV):Prop where
 nil:uR p=a_ p
 f0:∃q,k9 0 p=a_ q/\∀J,Ext O J->bA J bf 1 q=a_ (.v (.int .i64 t.kind))
 f4:∃q,k9 4 p=a_ q/\∀J,Ext O J->bA J bh 8 q=a_ (.agg (t.marks.map jw))
 all:∀J,Ext O J->bA J bh 12 p=a_ t.bN
def tK.tok{O}{v:bg}{l}(h:tK O v l){i:Nat}{t}(ht:l[i]?=a_ t)(ho:t.dS):∃p,cA 12 v (.v (.int .i64 (i)))=a_ p/\apo O p t:=by
 rcases h with h|⟨k,Z,off,rfl,S,T⟩
 refine⟨.fp t.cells 0,h.cI (x:=t.bN) (by simp[ht]) (ux ho),rfl,⟨_,rfl,λJ _=>rfl⟩,⟨_,rfl,λJ _=>azs ho⟩,λJ _=>Md ho⟩;obtain⟨Y,V⟩:=T i t ht;have Q:=(cJ.1 ht).1;have hg:∀j,j<12->Z[off+i*12+j]?=t.cells[j]? :=λj hj=>by
  rw[<-V,Cr hj,sx]
 refine⟨.rp k Z.length (off+i*12),?_,rfl,⟨_,rfl,λJ he=>?_⟩,⟨_,rfl,λJ he=>?_⟩,λJ he=>?_⟩;show(if 0<=(i:Int)/\(i)<(l.length:Int) then a_ (bg.rp k Z.length (off+(i:Int).toNat*12)) else bn)=_;rw[if_pos ⟨aa,aa⟩];simp;simp only[bA,he k _ S,if_true];have:=hg 0 aa;exact this;simp only[bA,he k _ S,if_true];unfold eZ;rw[if_pos rfl,if_pos aa];have:(Z.drop (off+i*12+4)).take 8=((Z.drop (off+i*12)).take 12).drop 4:=by
  rw[List.drop_take,y2]
 rw[this,V];rfl;simp only[bA,he k _ S,if_true];unfold eZ;rw[if_pos rfl,if_pos Y,V];rfl
section
variable{G:Cells}{hk:bg}{p:dV->Bool}{l:List dV}{O:List br}
end
end Go.Proofs.YtgfjdechmbleeaaGreatDoor
end
namespace Go.Proofs.YtgfjdechmbleeaaGreatDoor
open Go Go.bP Go.RowKit
section
variable{O J bl:List br}{v:bg}{ks:List hc}{K i id j len m n:Nat}{k:hc}{α:Type}{x:br}{l p:List dV}{t u:dV}{iC:List bg}
def Tf(J:List br)(v:bg)(ks:List hc):Prop:=(v=.bp/\ks=[])\/(ks≠[]/\∃id,v=.sl (ei ks) (.tok id)/\J[id]?=a_ (.tok ks.length 1 36))
abbrev N3:=Fr×bg
variable{st:List N3}
def jI:List N3->List bg
 |[]=>[]
 |(f,v)::r=>jI r++(f.h.cells++[v])
def apZ(v w:bg):Prop:=∀id xs ys,v=.sl xs (.tok id)->w≠.sl ys (.tok id)
def wU(J:List br):List N3->Prop
 |[]=>True
 |(f,v)::r=>Tf J v f.ks/\(∀it∈r,apZ v it.2)/\wU J r
def akP(ks):c8 1 (ei ks)=bh:=by
 rw[zw,c8,eO];intro x I;obtain⟨t,_,rfl⟩:=dZ.1 I;obtain⟨Z,e⟩:=t.Ko;rw[e];rfl
def aBe(k:hc)(h:Tf J v ks)(hn:ks.length<1000000000):
  ∃id bl,eu J 1 8 36 v (.sl [k.bN] .exact)=a_ (.sl (ei (ks++[k])) (.tok id),bl)/\bl[id]?=a_ (.tok (ks++[k]).length 1 36)/\(∀j b,j≠id->J[j]?=a_ b->bl[j]?=a_ b)/\
   ((∃ys,v=.sl ys (.tok id))\/J.length<=id)/\(∀Z r,J[id]?≠a_ (.cells Z r)):=by
 have e1:ei (ks++[k])=ei ks++[k.bN]:=by rw[ap_];rfl
 have S:c8 1 [k.bN]=bh:=akP [k];have bR:([k.bN]:List bg)≠[]:=af
 rcases h with⟨rfl,rfl⟩|⟨agf,id,rfl,hid⟩
 refine⟨J.length,J++[.tok 1 1 36],?_,af,λj b hj h=>(bU h),bF (ck _),λZ r h=>?_⟩;simp[eu,gZ,iK,iY,S,e1,ei];rw[jJ (ck _)] at h;cases h;refine⟨id,J.set id (.tok (ks.length+1) 1 36),?_,?_,λj b hj h=>?_,bD ⟨_,rfl⟩,λZ r h=>?_⟩;have Y:((ei ks).length+[k.bN].length)*8<=140737488355328:=by rw[Hz];simp only[p8];omega
 simp only[eu,gZ,iK,iY,S,akP ks,e1,bR,if_false,if_true,hid,Hz,p8,true_and,and_self,AY] at Y⊢;rw[if_pos Y];rw[bV (gl hid),en];rfl;rw[bC (eW hj)];exact h;rw[hid] at h;cases h
def QH(hj:∀j b,j≠id->J[j]?=a_ b->bl[j]?=a_ b):∀{st},wU J st->(∀it∈st,∀ys,it.2≠.sl ys (.tok id))->wU bl st
 |[],_,_=>trivial
 |(f,v)::r,h,hd=>by
  refine⟨?_,h.2.1,QH hj h.2.2 λit hit=>hd it (by simp[hit])⟩
  rcases h.1 with q|⟨q,i,rfl,Q⟩
  exact bD q;refine bF ⟨q,i,rfl,hj i _ (λe=>?_) Q⟩;subst e;exact hd (f,.sl (ei f.ks) (.tok i)) af _ rfl
def Xb:∀{st},wU J st->∀it∈st,∀ys id,it.2=.sl ys (.tok id)->id<J.length
 |[],_,it,hit=>by cases hit
 |(f,v)::r,h,it,hit=>λys id e=>by
  rcases fB.1 hit with rfl|hit
  rcases h.1 with⟨q,_⟩|⟨_,i,q,Q⟩
  rw[q] at e;cases e;rw[q] at e;cases e;exact gl Q;exact Xb h.2.2 it hit ys id e
def ayu{f:Fr}(h:wU J ((f,v)::st))(Y:bl[id]?=a_ (.tok (f.ks++[k]).length 1 36))(V:∀j b,j≠id->J[j]?=a_ b->bl[j]?=a_ b)
  (h3:(∃ys,v=.sl ys (.tok id))\/J.length<=id):wU bl ((⟨f.h,f.ks++[k]⟩,.sl (ei (f.ks++[k])) (.tok id))::st):=by
 have hd:∀it∈st,∀ys,it.2≠.sl ys (.tok id):=λit hit ys e=>by
  rcases h3 with⟨zs,dc⟩|h3
  exact h.2.1 it hit id zs ys dc e;have:=Xb h.2.2 it hit ys _ e;omega
 exact⟨bF ⟨af,id,rfl,Y⟩,λit hit i xs ys e=>by cases e;exact hd it hit ys,QH V h.2.2 hd⟩
mutual
theorem Be:∀t:hc,eP t.bN
 |.node h ks=>by
  rw[hc.bN];exact EY λc T=>by
   rcases gA.1 T with T|T
   exact Kw h c T;simp only[fB,qD,or_false] at T
   rcases T with rfl|rfl|rfl|rfl
   exact od;exact aqS ks;exact dz _;exact dz _
 |.leaf h=>by
  rw[hc.bN];exact EY λc T=>by
   rcases gA.1 T with T|T
   exact Kw h c T;simp only[fB,qD,or_false] at T
   rcases T with rfl|rfl|rfl|rfl
   exact od;exact od;exact dz _;exact dz _
 |.text h r=>by
  rw[hc.bN];exact EY λc T=>by
   rcases gA.1 T with T|T
   exact Kw h c T;simp only[fB,qD,or_false] at T
   rcases T with rfl|rfl|rfl|rfl
   exact lQ λx I c T=>by
    obtain⟨a,_,rfl⟩:=dZ.1 I;have e:c=jY a:=by simpa[jY,jy] using T
    subst e;exact dz _
   exact od;exact dz _;exact dz _
theorem Uk:∀ks:List hc,∀x∈ei ks,∀c∈x.cells,eP c
 |[],x,I=>by simp[ei] at I
 |k::r,x,I=>λc T=>by
  rw[ei] at I
  rcases fB.1 I with rfl|I
  rw[Nw] at T;obtain rfl:=dR.1 T;exact Be k;exact Uk r x I c T
theorem aqS:∀ks:List hc,eP (gU (ei ks))
 |[]=>od
 |k::r=>by
  have e:gU (ei (k::r))=.sl (ei (k::r)) .no:=by rw[ei,gU];exact λh=>aF
  rw[e];exact lQ λx I c T=>Uk (k::r) x I c T
end
def ajn(h:Tf J v ks):mc v (gU (ei ks)):=by
 rcases h with⟨rfl,rfl⟩|⟨bR,id,rfl,_⟩
 exact agQ;have e:gU (ei ks)=.sl (ei ks) .no:=by
  cases ks with
  |nil=>exact(bR rfl).elim
  |cons k r=>rw[ei,gU];exact λh=>aF
 rw[e];exact lQ λx I c T=>Uk ks x I c T
def Zz{A B:List α}(h:A.length=n):(A++B).take n=A:=by rw[<-h,SU];rfl
def Uw{A B:List α}(h:A.length=n):(A++B).drop n=B:=by rw[<-h,List.drop_left'];rfl
section
variable{A B:List bg}{h:dV}{w:bg}{n:Nat}
def alV(ho:h.dS)(hA:A.length=n*13):(A++(h.cells++[w])++B).length=n*13+13+B.length:=by
 simp[ux ho,hA];omega
def aB1(ho:h.dS)(hA:A.length=n*13):eZ bh 12 (A++(h.cells++[w])++B) (n*13)=a_ h.bN:=by
 unfold eZ;rw[if_pos rfl,if_pos (by rw[alV ho hA];omega),dU,Uw hA,dU,Zz (ux ho)];rfl
def aB2(ho:h.dS)(hA:A.length=n*13)(bM):eZ bf bM (A++(h.cells++[w])++B) (n*13+12)=a_ w:=by
 unfold eZ;rw[if_neg ag,dU,fF aa,dU,fF (by rw[ux ho];omega),ux ho,hA,show n*13+12-n*13-12=0 by omega];rfl
def aB3(ho:h.dS)(hA:A.length=n*13)(u:bg):dN (A++(h.cells++[w])++B) (n*13+12) [u]=A++(h.cells++[u])++B:=by
 have Y:(A++h.cells).length=n*13+12:=by rw[en,hA,ux ho]
 have e:A++(h.cells++[w])++B=(A++h.cells)++([w]++B):=af
 unfold dN;rw[e,Zz Y,p8,<-y2,Uw Y];simp
end
def MV:∀{st},R7 (st.map (·.1))->(jI st).length=st.length*13
 |[],_=>rfl
 |(f,v)::r,h=>by
  have:=MV h.2.2;simp only[jI,en,eV,iP,ux h.1,this];omega
def vq(n:Int):bg:=.v (.int .i64 n)
def Eg:List bg:=[.v (.int .i64 0),.v (.int .i64 0),.v (.int .i64 0),.v (.int .i32 0),.v (.int .u16 0),.v (.int .u16 0),.v (.int .u16 0),.v (.int .u16 0),.v (.int .u16 0),.v (.int .u16 0),.v (.int .u16 0),.v (.int .u16 0),.bp]
structure NP(O:List br)(l:List dV)(i:Nat)(st:List N3)(iC:List bg)(J:List br):Prop where
 gj:J[O.length]?=a_ (.cells (jI st++iC) bh)
 base:Ext O J
 ks:wU J st
 go:j7 l.length (l.drop i) (st.map (·.1))=j7 l.length l [⟨uo,[]⟩]
 ne:st≠[]
 len:st.length<=41
 ok:R7 (st.map (·.1))
 size:vC (st.map (·.1))+st.length<=i+1
 kids:uw (st.map (·.1))<=i
 av_:i<=l.length
def ajq:∀{st},wU J st->∀it∈st,∀ys id,it.2=.sl ys (.tok id)->∃n,J[id]?=a_ (.tok n 1 36)
 |[],_,it,hit=>by cases hit
 |(f,v)::r,h,it,hit=>λys id e=>by
  rcases fB.1 hit with rfl|hit
  rcases h.1 with⟨q,_⟩|⟨_,i,q,Q⟩
  rw[q] at e;cases e;rw[q] at e;cases e;exact⟨_,Q⟩;exact ajq h.2.2 it hit ys id e
def ajp{Z}{b}(h0:J[K]?=a_ (.cells Z b))(h:wU J st):wU (J.set K x) st:=
 QH (λj b hj q=>aI8) h λit hit ys e=>by
  obtain⟨n,hn⟩:=ajq h it hit ys K e;rw[h0] at hn;cases hn
def G2(O:List br):Prop:=∀b∈O,∃Z r,b=.cells Z r
def G2.plain(h:G2 O):ape O:=λb hb'=>bD (h b hb')
def ar3(T:G2 O)(he:Ext O J)(V:∀j b,j≠id->J[j]?=a_ b->bl[j]?=a_ b)(h5:∀Z r,J[id]?≠a_ (.cells Z r)):Ext O bl:=λj b q=>by
 refine V j b (λe=>?_) (he j b q);subst e;obtain⟨Z,r,rfl⟩:=T b (cE q);exact h5 Z r (he _ _ q)
def aej(he:Ext O J):Ext O (J.set O.length x):=λj b q=>by
 have:=gl q;rw[bC aa];exact he j b q
def T4(Lc:G2 O){i'}{g:Fr}{u:bg}{r}(hm:m=(jI ((g,u)::r)++iC).length)(gj:J[O.length]?=a_ (.cells (jI ((g,u)::r)++iC) bh))(at3:Ext O J)
  (S:wU J ((g,u)::r)) (fG:R7 (g::r.map (·.1))) (c7:r.length+1<=41) (hw:k.wf) (kI:j7 l.length (l.drop i') (⟨g.h,g.ks++[k]⟩::r.map (·.1))=j7 l.length l [⟨uo,[]⟩])
  (dG:vC (g::r.map (·.1))+k.size+(r.length+1)<=i'+1) (Ad:uw (g::r.map (·.1))+1<=i') (kJ:i'<=l.length) (hl:l.length<=20000):
  ∃w' bl Bw,eu J 1 8 36 u (.sl [k.bN] .exact)=a_ (w',bl)/\bL bl 1 (.rp O.length m (r.length*13+12)) w'=a_ Bw/\m=(jI ((⟨g.h,g.ks++[k]⟩,w')::r)++iC).length/\NP O l i' ((⟨g.h,g.ks++[k]⟩,w')::r) iC Bw:=by
 have hA:(jI r).length=r.length*13:=MV fG.2.2;obtain⟨id,bl,Y,V,h3,h4,h5⟩:=aBe k S.1 (by simp only[uw] at Ad;omega);have xX:bl[O.length]?=a_ (.cells (jI ((g,u)::r)++iC) bh):=h3 O.length _ (λe=>by subst e;exact h5 _ _ gj) gj;have T:jI ((g,u)::r)++iC=jI r++(g.h.cells++[u])++iC:=rfl;have Wk:∀x,(jI r++(g.h.cells++[x])++iC).length=r.length*13+13+iC.length:=λx=>alV fG.1 hA;refine⟨.sl (ei (g.ks++[k])) (.tok id),bl,bl.set O.length (.cells (jI r++(g.h.cells++[.sl (ei (g.ks++[k])) (.tok id)])++iC) bh),Y,?_,?_,⟨?_,aej (ar3 Lc at3 h3 h5),?_,kI,af,aHw,⟨fG.1,λt ht=>?_,fG.2.2⟩,?_,?_,kJ⟩⟩;rw[T] at xX hm;show(match bl[O.length]? with
  |some (.cells Z bh)=>if m=Z.length then e5 bl O.length bh Z 1 (r.length*13+12) (.sl (ei (g.ks++[k])) (.tok id)) else bn
  |_=>bn)=_
 rw[xX];dsimp only;rw[if_pos hm];unfold e5;rw[if_pos ⟨rfl,by rw[Wk];omega,rfl⟩];congr 4;exact aB3 fG.1 hA _;rw[hm,T,Wk];show _=(jI r++(g.h.cells++[_])++iC).length;rw[Wk];rw[bV (gl xX)];rfl;exact ajp xX (ayu S V h3 h4)
 rcases gA.1 ht with ht|ht
 exact fG.2.1 t ht;rw[dR.1 ht];exact hw;simp only[fM,vC,Jq,gM] at dG⊢;simp only[eV];omega;simp only[fM,uw,en,p8] at Ad⊢;omega
def TD(t:hc):e9 1 [t.bN]=a_ (.sl [t.bN] .exact):=by
 obtain⟨Z,e⟩:=t.Ko;rw[e];rfl
def ar9(ho:t.dS):dH Eg [(0,12,t.bN)]=a_ (t.cells++[.bp]):=by
 obtain⟨c0,c1,c2,c3,c4,c5,ia,jn,iZ,c9,jU,jV,e⟩:=Na ho;simp only[k5,e];rfl
def akU(ho:t.dS):c8 13 [.agg (t.cells++[.bp])]=bh:=by
 have Y:(t.cells++[bg.bp]).length=13:=by rw[en,ux ho];rfl
 have V:(t.cells++[bg.bp]).all cr=bh:=by
  rw[eO];intro c T;simp only[dV.cells,k6,fB,gA,dZ,qD,or_false] at T
  rcases T with rfl|rfl|rfl|rfl|⟨x,_,rfl⟩|rfl<;>rfl
 simp only[c8,oJ,sw,Bool.and_true,jy,Y,V];rfl
def apz(ho:t.dS):e9 13 [.agg (t.cells++[.bp])]=a_ (.sl [.agg (t.cells++[.bp])] .exact):=by
 have:=akU ho;unfold e9;rw[if_pos ⟨this,af⟩]
def aBd(hm:m=(jI st++iC).length)(gj:J[K]?=a_ (.cells (jI st++iC) bh))(hA:(jI st).length=st.length*13)(ho:t.dS)(hl:st.length<=41):
  qG J 13 72 60 (.rs K m 13 0 st.length) (.sl [.agg (t.cells++[.bp])] .exact)=a_ (.rs K (jI ((⟨t,[]⟩,.bp)::st)++iC.drop 13).length 13 0 (st.length+1),J.set K (.cells (jI ((⟨t,[]⟩,.bp)::st)++iC.drop 13) bh)):=by
 have D:mE (jI st++iC) (st.length*13) (ey [.agg (t.cells++[.bp])])=jI ((⟨t,[]⟩,.bp)::st)++iC.drop 13:=by
  have hf:ey [.agg (t.cells++[.bp])]=t.cells++[.bp]:=by simp[ey,jy]
  have auU:(t.cells++[bg.bp]).length=13:=by rw[en,ux ho];rfl
  unfold mE;rw[hf,Zz hA,auU,<-y2,Uw hA];rfl
 have h3:¬([dD (t.cells++[.bp])]=([]:List bg)):=af
 show gZ J 13 72 60 (.rs K m 13 0 st.length) (.sl [.agg (t.cells++[.bp])] .exact)=_;simp only[gZ,iK,iY,akU ho,h3,if_false,and_self,AY,if_true,true_and,gj,eV,iP];rw[if_pos aa,if_pos hm,D]
def aqu(hI:NP O l i st iC J)(ho:t.dS)(hl:st.length<=40)(kI:j7 l.length (l.drop (i+1)) (⟨t,[]⟩::st.map (·.1))=j7 l.length l [⟨uo,[]⟩])(Q:i<l.length):
  NP O l (i+1) ((⟨t,[]⟩,.bp)::st) (iC.drop 13) (J.set O.length (.cells (jI ((⟨t,[]⟩,.bp)::st)++iC.drop 13) bh)):=by
 refine⟨?_,aej hI.base,ajp hI.gj ⟨bD ⟨rfl,rfl⟩,λit hit id xs ys e=>aB,hI.ks⟩,kI,af,ah,⟨ho,λk S=>(by cases S),hI.ok⟩,?_,?_,Q⟩;rw[bV (gl hI.gj)];have:=hI.size;simp only[fM,vC,gM,eV];omega;have:=hI.kids;simp only[fM,uw,iP];omega
def al1{k}(h:j<=len)(J):r7 n (.rs k m n 0 len) bn (a_ (.v (.int .i64 (j)))) bn J=a_ (.rs k m n 0 j,J):=by
 have e:mj len len bn (a_ (j)) bn=a_ (0,j,len):=by
  simp[mj,j6,h]
 show G0 (λr=>(r,J)) (mQ n (.rs k m n 0 len) bn (a_ (.v (.int .i64 (j)))) bn)=_;simp[mQ,oC,e]
def Y1{k}(h:j<len):cA n (.rs k m n 0 len) (.v (.int .i64 (j)))=a_ (.rp k m (j*n)):=by
 show(if 0<=(j:Int)/\(j)<(len:Int) then a_ (bg.rp k m (0+(j:Int).toNat*n)) else bn)=_;rw[if_pos ⟨aa,aa⟩];simp
def al2{k o}(J):cN (.rs k m n o len) J=a_ (.v (.int .i64 (len)),J):=rfl
def Gx(k m o):uR (.rp k m o)=a_ (.rp k m o):=rfl
def B3(off k m o):k9 off (.rp k m o)=a_ (.rp k m (o+off)):=rfl
section
variable{A B:List bg}{h:dV}{w:bg}{n m K:Nat}{J:List br}
def alZ(gj:J[K]?=a_ (.cells (A++(h.cells++[w])++B) bh))(hm:m=(A++(h.cells++[w])++B).length)(ho:h.dS)(hA:A.length=n*13):bA J bh 12 (.rp K m (n*13))=a_ h.bN:=by
 simp only[bA,gj];rw[if_pos hm,aB1 ho hA]
def MY(gj:J[K]?=a_ (.cells (A++(h.cells++[w])++B) bh))(hm:m=(A++(h.cells++[w])++B).length)(ho:h.dS)(hA:A.length=n*13):bA J bf 1 (.rp K m (n*13+12))=a_ w:=by
 simp only[bA,gj];rw[if_pos hm,aB2 ho hA]
end
def UL(k):∀(a b:List Int),a.length=b.length->e7 (e3 a.length .i) (a.map λx=>cU (.int k x)) (b.map λx=>cU (.int k x))=a_ (decide (a=b))
 |[],[],_=>rfl
 |[],_::_,h=>aF
 |_::_,[],h=>aF
 |x::a,y::b,h=>by
  simp only[eV,aoK,fM,e7,oe,if_true,UL k a b aR];congr 1;by_cases I:x=y;subst I;simp;simp[I]
def ad5(ht:t.dS)(hu:u.dS):tO [.i,.i,.i,.i,.i,.i,.i,.i] bf (.agg (u.marks.map jw)) (.agg (t.marks.map jw))=a_ (.v (.bool (decide (u.marks=t.marks)))):=by
 have h:=UL .u16 u.marks t.marks (by rw[hu.len,ht.len]);rw[hu.len] at h;show(e7 [.i,.i,.i,.i,.i,.i,.i,.i] (u.marks.map jw) (t.marks.map jw)).map (λr=>cU (.bool (bf !=r)))=_;have e:e7 [.i,.i,.i,.i,.i,.i,.i,.i] (u.marks.map jw) (t.marks.map jw)=a_ (decide (u.marks=t.marks)):=h;rw[e];simp
def yT:List bg:=Eg.take 12
def apP(ho:u.dS)(J):bL (J++[.cells yT bf]) 12 (.mp J.length 0) u.bN=a_ (J++[.cells u.cells bf]):=by
 have Y:(J++[bw yT bf])[J.length]?=a_ (.cells yT bf):=af
 have V:u.bN.cells.all cr=bh:=by
  show u.cells.all cr=bh;rw[eO];intro c T;simp only[dV.cells,fB,dZ] at T
  rcases T with rfl|rfl|rfl|rfl|⟨x,_,rfl⟩<;>rfl
 simp only[bL,Y,e5];rw[if_pos ⟨ux ho,by show 0+12<=12;omega,V⟩];have:dN yT 0 u.bN.cells=u.cells:=by
  show yT.take 0++u.cells++yT.drop (0+u.cells.length)=u.cells;rw[ux ho];show []++u.cells++[]=u.cells;simp
 rw[this];simp
def azt(u:dV)(J):bA (J++[.cells u.cells bf]) bf 1 (.mp J.length 3)=a_ (.v (.int .i32 u.rune)):=by
 have Y:(J++[bw u.cells bf])[J.length]?=a_ (.cells u.cells bf):=af
 simp only[bA,Y];rfl
def aBf{xs}{x}(h:J[id]?=a_ (.tok xs.length 1 21))(hn:xs.length<=1000000):
  eu J 1 4 21 (.sl (xs.map jY) (.tok id)) (.sl [.v (.int .i32 x)] .exact)=a_ (.sl ((xs++[x]).map jY) (.tok id),J.set id (.tok (xs.length+1) 1 21)):=by
 have Y:c8 1 [cU (.int .i32 x)]=bh:=rfl;have V:c8 1 (xs.map jY)=bh:=by
  rw[c8,eO];intro y hy;obtain⟨a,_,rfl⟩:=dZ.1 hy;rfl
 have bR:¬([cU (.int .i32 x)]=([]:List bg)):=af
 simp only[eu,gZ,iK,iY,Y,V,bR,if_false,if_true,h,dj,eV,iP,true_and,and_self,AY,gQ,fM,mI];rw[if_pos aa];rfl
def ZL(p):∀(l:List α) x,x∈l.takeWhile p->p x=bh
 |[],x,h=>aq
 |a::l,x,h=>by
  rw[aoQ] at h;split at h;rename_i ha
  rcases fB.1 h with rfl|h
  exact ha;exact ZL p l x h;cases h
def ZM(p):∀(l:List α) u,l[(l.takeWhile p).length]?=a_ u->p u=bf
 |[],u,h=>aq
 |a::l,u,h=>by
  rw[aoQ] at h;split at h;exact ZM p l u aR;rename_i ha;simp at h;subst h;simpa using ha
def aB7(h:(l.drop (i+1)).takeWhile (nt t)=p):
  (∀k,k<p.length->∃u,l[i+k+1]?=a_ u/\nt t u=bh)/\(∀u,l[i+p.length+1]?=a_ u->nt t u=bf)/\(∀k u,p[k]?=a_ u->l[i+k+1]?=a_ u):=by
 have key:∀(k),k<p.length->(l.drop (i+1))[k]?=p[k]? :=λk S=>by
  have e:l.drop (i+1)=p++(l.drop (i+1)).dropWhile (nt t):=by rw[<-h,List.takeWhile_append_dropWhile]
  rw[e,fE S]
 have aji:∀(k) u,p[k]?=a_ u->l[i+k+1]?=a_ u:=λk u hu=>by
  have S:=gl hu;have:=key k S;rw[sx,hu] at this;rw[<-this];congr 1;omega
 refine⟨λk S=>?_,λu hu=>?_,aji⟩;have hu:p[k]?=a_ p[k]:=cx S;refine⟨p[k],aji k _ hu,?_⟩;exact ZL _ _ _ (by rw[h];exact NK S);refine ZM (nt t) (l.drop (i+1)) u ?_;rw[h,sx,<-hu];congr 1;omega
def aCa(h:(l.drop (i+1)).takeWhile (nt t)=p)(Q:i<l.length):i+p.length<l.length:=by
 have Y:p.length<=(l.drop (i+1)).length:=by rw[<-h];exact(List.takeWhile_sublist _).length_le
 rw[y5] at Y;omega
def azW(J)(hn:n<=1000000):EN J 1 4 21 [.v (.int .i32 0)] (.v (.int .i64 0)) (.v (.int .i64 (n)))=a_ (.sl [] (.tok J.length),J++[.tok 0 1 21]):=by
 show(if(0:Int)=0/\0<=(n:Int)/\(n:Int)*(4:Nat)<=140737488355328/\(n:Int)<=9223372036854775807/\[cU (.int .i32 0)].length=1/\1≠0 then _ else bn)=_;rw[if_pos ⟨rfl,aa,aa,aa,rfl,ag⟩]
def aCu(hv:cG v (l.map k5))(ht:l[i]?=a_ t)(h:∀k u,p[k]?=a_ u->l[i+k+1]?=a_ u)(hl:i+p.length<l.length)(ho:∀t∈l,t.dS)(J):
  r7 12 v (a_ (.v (.int .i64 (i)))) (a_ (.v (.int .i64 ((i+p.length+1:Nat):Int)))) bn J=a_ (.sl ((t::p).map k5) .no,J):=by
 rcases hv with rfl|⟨_,hn⟩
 have O:mj (l.map k5).length (l.map k5).length (a_ (i)) (a_ ((i+p.length+1:Nat):Int)) bn=a_ (i,i+p.length+1,(l.map k5).length):=by
  rw[dj];simp only[mj,j6,A2,Ci,kz,if_false];rw[if_pos ⟨aa,aa⟩];dsimp only;rw[if_pos ⟨aa,aa⟩];simp;omega
 have lT:((l.map k5).all λx=>x.cells.length==12)=bh:=by
  rw[eO];intro x I;obtain⟨u,hu,rfl⟩:=dZ.1 I;have:=ux (ho u hu);simpa[k5,jy] using this
 have avt:((l.map k5).take (i+p.length+1)).drop i=(t::p).map k5:=by
  apply Et;intro k;rw[sx]
  rcases d_ k (p.length+1) with q|q
  rw[Cr aa];cases k with
  |zero=>simp[ht]
  |succ k=>
   have S:p[k]?=a_ p[k]:=cx aa;have:=h k _ S;simp only[fL,fM,y4,S];rw[show i+(k+1)=i+k+1 by omega,this]
  rw[jJ (by rw[Cs];omega),jJ ah]
 show G0 (λr=>(r,J)) (mQ 12 (.sl (l.map k5) .no) (a_ (.v (.int .i64 (i)))) (a_ (.v (.int .i64 ((i+p.length+1:Nat):Int)))) bn)=_;have qR:∀n:Int,oC (a_ (.v (.int .i64 n)))=a_ (a_ n):=λn=>rfl;have qS:oC bn=a_ bn:=rfl;unfold mQ;rw[qR,qR,qS];dsimp only;rw[O];dsimp only;rw[if_pos lT,avt];have LS:D9 .no (l.map k5).length i (i+p.length+1) (l.map k5).length (Option.isSome (bn:Option Int))=.no:=by
  unfold D9;rw[if_neg af];split;split<;>rfl;rfl
 rw[LS];rfl;have:=congrArg JO hn;simp at this;subst this;simp at hl
def tK.seg(hv:tK O v l)(ht:l[i]?=a_ t)(h:∀k u,p[k]?=a_ u->l[i+k+1]?=a_ u)(hl:i+p.length<l.length)(ho:∀t∈l,t.dS):
  ∃v',(∀J,r7 12 v (a_ (.v (.int .i64 (i)))) (a_ (.v (.int .i64 ((i+p.length+1:Nat):Int)))) bn J=a_ (v',J))/\tK O v' (t::p):=by
 rcases hv with hv|⟨k,Z,off,rfl,S,T⟩
 exact⟨_,λJ=>aCu hv ht h hl ho J,bD (bD rfl)⟩;have hb':mj l.length l.length (a_ (i)) (a_ ((i+p.length+1:Nat):Int)) bn=a_ (i,i+p.length+1,l.length):=by
  simp only[mj,j6,A2,Ci,kz,if_false];rw[if_pos ⟨aa,aa⟩];dsimp only;rw[if_pos ⟨aa,aa⟩];simp;omega
 have lT:∀(j) u,(t::p)[j]?=a_ u->l[i+j]?=a_ u:=λj u hu=>by
  cases j with
  |zero=>cases hu;exact ht
  |succ j=>exact h j u hu
 refine⟨.rs k Z.length 12 (off+i*12) (t::p).length,λJ=>?_,bF ⟨k,Z,off+i*12,rfl,S,λj u hu=>?_⟩⟩;show G0 (λr=>(r,J)) (mQ 12 (.rs k Z.length 12 off l.length) (a_ (.v (.int .i64 (i)))) (a_ (.v (.int .i64 ((i+p.length+1:Nat):Int)))) bn)=_;have qR:∀n:Int,oC (a_ (.v (.int .i64 n)))=a_ (a_ n):=λn=>rfl;have qS:oC bn=a_ bn:=rfl;unfold mQ;rw[qR,qR,qS];dsimp only;rw[if_pos ⟨rfl,rfl⟩,hb'];dsimp only;by_cases V8:i=0;subst V8;rw[if_pos rfl];simp;rw[if_neg V8,if_pos aa];simp;omega;have:=T (i+j) u (lT j u hu);rw[show off+i*12+j*12=off+(i+j)*12 by omega];exact this
end
section
variable{p:cM}
def aqT(h:p.tail=.no):eP p.kv:=by
 unfold cM.kv;split;exact od;rw[h];exact lQ λx I c T=>by
  obtain⟨y,_,rfl⟩:=dZ.1 I;rw[dR.1 (show c∈[bq y] from T)];exact dz _
def adg(h:p.tail=.no):∀c∈p.cells,eP c:=λc T=>by
 simp only[qC,fB,qD,or_false] at T
 rcases T with rfl|rfl|rfl|rfl|rfl
 exact dz _;exact dz _;exact dz _;exact dz _;exact aqT h
def aqX(h:p.tail=.no):eP p.bN:=HF (adg h)
def EX{v}{ps}(h:sH v ps):eP v:=by
 rcases h.v with rfl|⟨rfl,_⟩
 exact lQ λx I c T=>by
  obtain⟨p,J,rfl⟩:=dZ.1 I;exact adg (h.no p J) c T
 exact od
def uK(J:List br)(v:bg)(st:List Int):Prop:=(v=.bp/\st=[])\/∃k Z,v=.rs k Z.length 1 0 st.length/\J[k]?=a_ (.cells Z bh)/\st.length<=Z.length/\∀(i:Nat) x,st[i]?=a_ x->Z[i]?=a_ (bq x)
def uK.app{J l}{v}{st}(h:uK J v st):uK (J++l) v st:=by
 rcases h with h|⟨k,Z,Y,V,h3,h4⟩
 exact bD h;exact bF ⟨k,Z,Y,bU V,h3,h4⟩
@[go_sem]def uK.len{J}{v}{st}(h:uK J v st):∀J,cN v J=a_ (.v (.int .i64 (st.length:Int)),J):=λJ=>by
 rcases h with⟨rfl,rfl⟩|⟨k,Z,rfl,_⟩<;>rfl
def uK.lo{J}{v}{st}{n}(h:uK J v st)(hn:n<=st.length):∃u,r7 1 v (a_ (.v (.int .i64 (n)))) bn bn J=a_ (u,J)/\v7 J u (st.drop n):=by
 rcases h with⟨rfl,rfl⟩|⟨k,Z,rfl,S,bK,T⟩
 obtain rfl:n=0:=aIa
 exact⟨.bp,rfl,bD ⟨rfl,rfl⟩⟩;have O:mj st.length st.length (a_ (n)) bn bn=a_ (n,st.length,st.length):=by
  simp only[mj,j6,A2,Ci,kz,if_false];rw[if_pos ⟨aa,aa⟩];simp
 have e:r7 1 (.rs k Z.length 1 0 st.length) (a_ (.v (.int .i64 (n)))) bn bn J=a_ (if n=0 then .rs k Z.length 1 0 st.length else if n<st.length then .rs k Z.length 1 (0+n*1) (st.length-n) else .sl [] .no,J):=by
  show G0 (λr=>(r,J)) (mQ 1 (.rs k Z.length 1 0 st.length) (a_ (.v (.int .i64 (n)))) bn bn)=_;have qR:∀n:Int,oC (a_ (.v (.int .i64 n)))=a_ (a_ n):=λn=>rfl;have qS:oC bn=a_ bn:=rfl;unfold mQ;rw[qR,qS];dsimp only;rw[if_pos ⟨rfl,rfl⟩,O];dsimp only;split;rfl;split<;>rfl
 refine⟨_,e,?_⟩;split;rename_i z;subst z;exact bF (bF ⟨k,Z,0,rfl,S,λi x I=>by rw[gF];exact T i x I⟩);split;refine bF (bF ⟨k,Z,n,af,S,λi x I=>?_⟩);rw[sx] at I;exact T _ x I;have:st.drop n=[]:=vO aa;rw[this];exact bF (bD ⟨.no,rfl⟩)
def uK.push{J}{v}{st}{n}(h:uK J v st)(hn:n<=st.length)(hs:st.length<=100000)(x):∃u u' bl,r7 1 v bn (a_ (.v (.int .i64 (n)))) bn J=a_ (u,J)/\qG J 1 8 3 u (.sl [.v (.int .i64 x)] .exact)=a_ (u',bl)/\uK bl u' (st.take n++[x]):=by
 rcases h with⟨rfl,rfl⟩|⟨k,Z,rfl,S,bK,T⟩
 obtain rfl:n=0:=aIa
 refine⟨.bp,.rs J.length 1 1 0 1,J++[.cells [bq x] bh],rfl,rfl,bF ⟨J.length,[bq x],rfl,af,af,λi y hy=>?_⟩⟩
 rcases i with _|i
 simp at hy;subst hy;rfl;simp at hy;have hl:=gl S;refine⟨.rs k Z.length 1 0 n,.rs k (mE Z n [bq x]).length 1 0 (n+1),J.set k (.cells (mE Z n [bq x]) bh),al1 hn J,?_,bF ⟨k,mE Z n [bq x],?_,bV hl,?_,λi y hy=>?_⟩⟩;show gZ J 1 8 3 (.rs k Z.length 1 0 n) (.sl [.v (.int .i64 x)] .exact)=_;have Y:c8 1 [cU (.int .i64 x)]=bh:=rfl;have h3:¬([cU (.int .i64 x)]=([]:List bg)):=af
 have hf:ey [cU (.int .i64 x)]=[bq x]:=rfl;simp only[gZ,iK,iY,Y,h3,if_false,and_self,AY,if_true,true_and,S,eV,iP,hf,Nat.mul_one];rw[if_pos aa];simp[JR hn];simp[mE,JR hn];omega;unfold mE
 rcases Nat.lt_trichotomy i n with z|z|z
 rw[dU,fE ah,Cr z];rw[fE ah,Cr z] at hy;exact T i y hy;subst z;rw[dU,fF ah];rw[fF ah] at hy;have e1:i-(Z.take i).length=0:=ah
 have e2:i-(st.take i).length=0:=ah
 rw[e2] at hy;rw[e1];simp at hy⊢;rw[hy];rw[jJ ah] at hy;cases hy
def p4(ps:List cM):Nat->List Int->Prop
 |0,st=>st=[]
 |i+1,st=>∃p qy,ps[i]?=a_ p/\p4 ps i (qy++p.kids)/\st=qy++[(i:Int)]
def am5{ps}:∀{i} {st},p4 ps i st->st.length<=i
 |0,st,h=>by rw[show st=[] from h];exact ck _
 |i+1,st,⟨p,qy,_,Y,V⟩=>by
  have:=am5 Y;rw[V];simp at this⊢;omega
def abi(ps:List cM)(r:bg):Prop:=∃b:Bool,r=b/\(b=bh->ps=[]\/∃x,p4 ps ps.length [x])
@[go_sem]def yI(J)(p:cM):bL (J++[.cells [(0:Int),(0:Int),(0:Int),.v (.string ⟨#[]⟩),.bp] bf]) 5 (.mp J.length 0) (.agg p.cells)=a_ (J++[.cells p.cells bf]):=by
 have Y:(dD p.cells).cells.length=5:=rfl;have V:(dD p.cells).cells.all cr=bh:=by
  have:=I0 p;simp only[c8,oJ,sw,Bool.and_true,fA] at this;exact this.2
 simp only[bL,fF (ck _),lM,n4,e5];rw[if_pos ⟨Y,af,V⟩];simp[dN,jy,qC]
def alN{G}(cB:fS G){v}{ps}(h:sH v ps):dA G bE 112 [v] (abi ps):=by
 refine dX (ahQ.go ?_);have ln:=h.v.cN;rw[dj] at ln;have c7:=h.len;have fin:∀(J) (b),(b=bh->ps=[]\/∃x,p4 ps ps.length [x])->∃n bS,cX J n b=a_ bS/\abi ps bS:=λJ b O=>by
  obtain⟨n,hn⟩:=(bH (.bool b):b8 J _ _).done;exact⟨n,_,hn,b,rfl,O⟩
 refine wy ?_;refine dx (λi e J=>∃st bx,e=[(0,v),(3,bx),(7,v),(8,bq ps.length),(9,bq i)]/\p4 ps i st/\uK J bx st) ps.length ⟨[],.bp,rfl,rfl,bD ⟨rfl,rfl⟩⟩ ?_ ?_;rintro i e J Q ⟨st,bx,rfl,hs,ho⟩;obtain⟨p,eD⟩:=cO Q;have lA:=h.ok i p eD;have o4:=h.no p (cE eD);have s6:=am5 hs;have e1:cA 5 v (.v (.int .i64 (i)))=a_ (.fp p.cells 0):=h.v.cI (x:=p.bN) aIB rfl;have I:uK (J++[.cells p.cells bf]) bx st:=ho.app;have s1:=yI J p;have ayG:bA (J++[.cells p.cells bf]) bh 5 (.mp J.length 0)=a_ (.agg p.cells):=by
  simp only[bA,fF (ck _),lM,n4];rfl
 have l4:bA (J++[.cells p.cells bf]) bf 1 (.mp J.length 4)=a_ p.kv:=by
  simp only[bA,fF (ck _),lM,n4];rfl
 have j8:=lA.kids;generalize J++[.cells p.cells bf]=g at I s1 ayG l4;have w1:dy.wrap ((st.length:Int)-(p.kids.length:Int))=(st.length:Int)-(p.kids.length:Int):=gN aa aa;refine nD (jz (apR cB lA o4) (cl (aqX o4) dK) ?_);rintro r ⟨b,rfl⟩;refine wy ?_;cases b with
 |false=>
  exact wy (fin _ bf λq=>av)
 |true=>
  refine wy ?_;refine c_ (λq=>?_) λq=>?_;exact fin _ bf λq=>av
  have bK:p.kids.length<=st.length:=au
  have nq:(st.length:Int)-(p.kids.length:Int)=((st.length-p.kids.length:Nat):Int):=aa
  obtain⟨u,c1,c2⟩:=I.lo (n:=st.length-p.kids.length) aa;have kv:v7 g p.kv p.kids:=by
   unfold cM.kv;split;rename_i z;exact bD ⟨rfl,z⟩;exact bF (bD ⟨_,rfl⟩)
  rw[nq] at q⊢;refine wy (cm (ar0 c2 kv ah aa) ?_);rintro _ g2 ⟨⟨b2,rfl,i_⟩,hh⟩;rw[hh];clear hh;refine wy ?_;cases b2 with
  |false=>
   exact wy (fin _ bf λq=>av)
  |true=>
   have hd:=i_ rfl;obtain⟨u1,u2,g3,d1,d2,d3⟩:=I.push (n:=st.length-p.kids.length) aa aa (i);refine wy ?_;refine⟨_,_,rfl,⟨p,st.take (st.length-p.kids.length),eD,?_,rfl⟩,d3⟩;have z:st.take (st.length-p.kids.length)++p.kids=st:=(congrArg (λy=>st.take (st.length-p.kids.length)++y) hd.symm).trans (aaJ _ _);rw[z];exact hs
 rintro e J ⟨st,bx,rfl,hs,ho⟩;refine nD ?_;refine c_ (λq=>?_) λq=>?_;obtain⟨x,rfl⟩:∃x,st=[x]:=Ev.1 au;exact fin _ bh λ_=>bF ⟨x,hs⟩;refine wy (fin _ _ λz=>bD ?_);have:(ps.length:Int)=0:=eq_of_beq z;exact List.length_eq_zero_iff.1 aa
end
section
variable{l:List (List UInt8)}
@[go_sem]def yy(l:List (List UInt8)):c8 1 (l.map bu)=bh:=by
 rw[c8,eO];intro x I;obtain⟨t,ht,rfl⟩:=dZ.1 I;rfl
def CW:∀x∈l.map bu,∀c∈x.cells,eP c:=λx I c T=>by
 obtain⟨s,_,rfl⟩:=dZ.1 I;rw[dR.1 (show c∈[bu s] from T)];exact dz _
def qh{v}(h:cG v (l.map bu)):eP v:=by
 rcases h with rfl|⟨rfl,_⟩
 exact lQ CW;exact od
def CN{J}{v}{xs}{n}{e}(h:cV J v xs n e)(T:∀x∈xs,∀c∈x.cells,eP c):∃v',cG v' xs/\mc v v'/\eP v':=by
 rcases h with⟨rfl,rfl⟩|⟨id,rfl,_⟩
 exact⟨.bp,bF ⟨rfl,rfl⟩,od,od⟩;exact⟨.sl xs .no,bD rfl,lQ T,lQ T⟩
def apD{G}{k}{J}{bx}(S:J[k]?=a_ (.cells [bx] bf))(hA:cV J bx (l.map bu) 1 9)(hl:l.length<=100000)(s):
  cy G bE 105 [bu s,.mp k 0] J λr bl=>∃cR,bl[k]?=a_ (.cells [cR] bf)/\cV bl cR ((if l.any (s== ·) then l else l++[s]).map bu) 1 9:=by
 refine ahL.go ?_;obtain⟨v',Y,V,h3⟩:=CN hA CW;refine wy ?_;refine fk (KA Y h3 aa s) ?_;refine wy (cL (λq=>?_) λq=>?_);have q':(l.any (s== ·))=bf:=an
 obtain⟨cj,g2,e2,fo,bR,bK,hk2⟩:=ni (x:=bu s) (b6:=16) hA (yy l) rfl ag ag ah;have kb:g2[k]?=a_ (.cells [bx] bf):=hk2 _ _ S λxs z=>by
  rcases hA with⟨q1,_⟩|⟨id,q1,bt⟩
  rw[q1] at z;cases z;rw[q1] at z;cases z;rw[S] at bt;cases bt
 have ho:cr cj=bh:=aIl
 have s1:=qz ho kb;have ab:e9 1 [bu s]=a_ (.sl [bu s] .exact):=rfl;refine p5 @q (fe S) @ab @e2 @s1 ?_;refine⟨cj,bV (gl kb),?_⟩;rw[if_neg (by rw[q'];decide),gQ]
 rcases fo with z|⟨id,cg,z2⟩
 exact bD z;refine bF ⟨id,cg,?_⟩;rw[bC];exact z2;rintro rfl;rw[kb] at z2;cases z2;have q':(l.any (s== ·))=bh:=an
 refine eN @q ?_;refine⟨bx,S,?_⟩;rw[if_pos q'];exact hA
def apc(ps:List cM)(r:bg):Prop:=∃l:List (List UInt8),cG r (l.map bu)/\l.length<=ps.length/\∀s∈l,ug s=bh
def akl{G}{v}{ps}(h:sH v ps):dA G bE 57 [v] (apc ps):=by
 refine dX (ahk.go ?_);have ln:=h.v.cN;rw[dj] at ln;have c7:=h.len;refine wy ?_;refine dx (λi e J=>∃l bx,e=[(3,.mp 0 0),(4,.fn (.func 105) [] [.mp 0 0]),(8,v),(9,bq ps.length),(10,bq i)]/\l.length<=i/\(∀s∈l,ug s=bh)/\J[0]?=a_ (.cells [bx] bf)/\cV J bx (l.map bu) 1 9) ps.length ⟨[],.bp,rfl,ck _,af,rfl,bD ⟨rfl,rfl⟩⟩ ?_ ?_;rintro i e J Q ⟨l,bx,rfl,hl,hn,h0,hA⟩;obtain⟨p,eD⟩:=cO Q;have lA:=h.ok i p eD;have e1:cA 5 v (i:Int)=a_ (.fp p.cells 0):=h.v.cI (x:=p.bN) aIB rfl;have e2:∀J,bA J bh 5 (.fp p.cells 0)=a_ (.agg p.cells):=λJ=>rfl;have s1:=yI J p;have l0:bA (J++[.cells p.cells bf]) bf 1 (.mp J.length 0)=a_ (.v (.int .i64 p.kind)):=by
  simp only[bA,fF (ck _),lM,n4];rfl
 have l3:bA (J++[.cells p.cells bf]) bf 1 (.mp J.length 3)=a_ (bu p.name):=by
  simp only[bA,fF (ck _),lM,n4];rfl
 have HT:(J++[bw p.cells bf])[0]?=a_ (.cells [bx] bf):=bU h0;have u6:cV (J++[bw p.cells bf]) bx (l.map bu) 1 9:=by
  rcases hA with z|⟨id,cg,z2⟩
  exact bD z;exact bF ⟨id,cg,bU z2⟩
 refine wy (cL (λq=>?_) λq=>?_);refine wy (cm (apD HT u6 aa p.name) ?_);rintro r g2 ⟨cR,k1,k2⟩;have s0:ug p.name=bh:=by
  have q':p.kind=1:=an
  rcases lA.1 with z|z|z
  exact z.2.2.2.1;omega;omega
 refine fj ?_;refine⟨_,cR,rfl,?_,?_,k1,k2⟩;split;omega;simp;omega;intro s hs;split at hs;exact hn s hs
 rcases gA.1 hs with z|z
 exact hn s z;rw[dR.1 z];exact s0;refine eN @q ?_;exact⟨l,bx,rfl,aa,hn,HT,u6⟩;rintro e J ⟨l,bx,rfl,hl,hn,h0,hA⟩;refine wy ?_
 rcases hA with⟨rfl,z⟩|⟨id,rfl,_⟩
 obtain⟨n,qQ⟩:=(eB:b8 J _ _).done;exact⟨n,_,qQ,l,bF ⟨rfl,z⟩,hl,hn⟩;obtain⟨n,qQ⟩:=(gP (iW λa _=>bH _):b8 J _ _).done;exact⟨n,_,qQ,l,bD rfl,hl,hn⟩
end
section
variable{i:Nat}
def xl(ps:List cM):Nat->Int->Nat
 |0,_=>0
 |f+1,i=>match ps[i.toNat]? with
  |none=>0
  |some p=>3+(p.kids.map λk=>xl ps f k+1).sum
def aDA{ps}(h:qF ps):∀(n f g) (i),i.toNat<n->i.toNat<f->i.toNat<g->xl ps f i=xl ps g i:=by
 intro n
 induction n with
 |zero=>intro f g i h0;omega
 |succ n ih=>
  intro f g i h0 Y V;obtain⟨f,rfl⟩:∃f',f=f'+1:=⟨f-1,aa⟩;obtain⟨g,rfl⟩:∃g',g=g'+1:=⟨g-1,aa⟩;unfold xl;cases J:ps[i.toNat]? with
  |none=>rfl
  |some p=>
   dsimp only;congr 2;refine AU λk S=>?_;have:=(h _ p J).2 k S;rw[ih f g k aa aa aa]
def sz(ps:List cM)(i:Int):Nat:=xl ps (i.toNat+1) i
def ang{ps}(h:qF ps){p}(J:ps[i]?=a_ p):sz ps (i)=3+(p.kids.map λk=>sz ps k+1).sum:=by
 show xl ps (i+1) (i)=_;unfold xl;rw[xu,J];dsimp only;congr 2;refine AU λk S=>?_;have:=(h _ p J).2 k S;rw[aDA h (i+1) i (k.toNat+1) k aa aa aa];rfl
def am8{ps}(h:qF ps):∀{i} {st},p4 ps i st->(st.map λk=>sz ps k+1).sum<=4*i
 |0,st,hs=>by rw[show st=[] from hs];simp
 |i+1,st,⟨p,qy,J,Y,V⟩=>by
  have:=am8 h Y;rw[V];simp only[gQ,aoP,fM,mI,y8,GY] at this⊢;rw[ang h J];omega
structure pF(k:Nat)(v:bg)(l:List dw)(out:bg)(J:List br):Prop where
 b:J[k]?=a_ (.cells [v,out] bf)
 app:cV J out (l.map mH) 5 212
 ok:∀x∈l,x.dS
def iH(k:Nat)(J bl:List br):Prop:=J.length<=bl.length/\∀(j:Nat) Z fz,j≠k->J[j]?=a_ (.cells Z fz)->bl[j]?=a_ (.cells Z fz)
def iH.refl(k)(J):iH k J J:=⟨ck _,λ_ _ _ _ h=>h⟩
def iH.trans{k}{a b c}(h:iH k a b)(q:iH k b c):iH k a c:=⟨gY h.1 q.1,λj x f hj e=>q.2 j x f hj (h.2 j x f hj e)⟩
def iH.app{k}{J l}:iH k J (J++l):=⟨af,λ_ _ _ _ h=>bU h⟩
def pF.app'{k}{v out}{l}{J x}(h:pF k v l out J):pF k v l out (J++x):=by
 refine⟨bU h.b,?_,h.ok⟩
 rcases h.app with z|⟨id,cg,z2⟩
 exact bD z;exact bF ⟨id,cg,bU z2⟩
section
variable{G:Cells}{k:Nat}{v out:bg}{l:List dw}{J:List br}
@[go_sem]def pF.F4(h:pF k v l out J):bA J bf 1 (.mp k 0)=a_ v:=aS
@[go_sem]def pF.iD(h:pF k v l out J):bA J bf 1 (.mp k 1)=a_ out:=aS
def pF.push(h:pF k v l out J)(x)(I:x.dS)(hl:l.length<=100000):∃o' g,eu J 5 48 212 out (.sl [.agg x.cells] .exact)=a_ (o',g)/\∃g',bL g 1 (.mp k 1) o'=a_ g'/\pF k v (l++[x]) o' g'/\iH k J g':=by
 obtain⟨cj,g2,e2,fo,bR,bK,hk2⟩:=ni (b6:=48) h.app (Ye l) (Ri x) ag ag ah;have kb:g2[k]?=a_ (.cells [v,out] bf):=hk2 _ _ h.b λxs z=>by
  rcases h.app with⟨q1,_⟩|⟨id,q1,bt⟩
  rw[q1] at z;cases z;rw[q1] at z;cases z;rw[h.b] at bt;cases bt
 have ho:cr cj=bh:=aIl
 have eL:cj.cells=[cj]:=aIk
 have s2:bL g2 1 (.mp k 1) cj=a_ (g2.set k (.cells [v,cj] bf)):=by
  simp only[bL,kb,e5,eL];simp[ho,dN]
 refine⟨cj,g2,e2,_,s2,⟨bV (gl kb),?_,λy hy=>?_⟩,by simpa using bK,λj Z fz hj q=>?_⟩;rw[gQ]
 rcases fo with z|⟨id,cg,z2⟩
 exact bD z;refine bF ⟨id,cg,?_⟩;rw[bC];exact z2;rintro rfl;rw[kb] at z2;cases z2
 rcases gA.1 hy with z|z
 exact h.ok y z;rw[dR.1 z];exact I;rw[bC (eW hj)];exact hk2 _ _ q λxs z=>by
  rcases h.app with⟨q1,_⟩|⟨id,q1,bt⟩
  rw[q1] at z;cases z;rw[q1] at z;cases z;rw[q] at bt;cases bt
@[go_sem]def abH(x:dw):e9 5 [.agg x.cells]=a_ (.sl [.agg x.cells] .exact):=TB x
def J4(k:Nat)(v:bg)(l:List dw)(n:Nat)(J bl:List br):Prop:=∃l2 o2,pF k v (l++l2) o2 bl/\l2.length<=n/\iH k J bl
def Th(G:Cells)(k:Nat)(v:bg)(ps:List cM)(i:Int):Prop:=∀(b:Bool) l out J,pF k v l out J->l.length+sz ps i<=100000->cy G bE 210 [.mp k 0,i,b] J λr bl=>J4 k v l (sz ps i) J bl
def F0(p:cM)(g):v7 g p.kv p.kids:=by
 unfold cM.kv;split;rename_i z;exact bD ⟨rfl,z⟩;exact bF (bD ⟨_,rfl⟩)
def yJ{f:Int->Nat}{ks:List Int}{j}{x}(I:ks[j]?=a_ x):((ks.take (j+1)).map f).sum=((ks.take j).map f).sum+f x:=by
 rw[Ew,I];simp
def B7(f:Int->Nat)(ks:List Int)(j):((ks.take j).map f).sum<=(ks.map f).sum:=by
 conv=>rhs;rw[<-aaJ j ks]
 rw[gQ,aoP];omega
def ayO{ps}(h:sH v ps){p}(eD:ps[i]?=a_ p)(ih:∀x∈p.kids,Th G k v ps x):Th G k v ps (i):=by
 intro b l out J hS hn;have lA:=h.ok i p eD;have o4:=h.no p (cE eD);have j8:=lA.kids;have dG:=ang h.ok eD;refine aiC.go ?_;have aAI:dw.dS ⟨2,0,0,0,[]⟩:=⟨Cq _,bF (bD ⟨bD rfl,rfl,rfl,rfl⟩)⟩;have aCL:dw.dS ⟨3,0,0,0,[]⟩:=⟨Cq _,bF (bD ⟨bF (bD rfl),rfl,rfl,rfl⟩)⟩;have aAN:dw.dS ⟨4,0,0,0,[]⟩:=⟨Cq _,bF (bD ⟨bF (bF rfl),rfl,rfl,rfl⟩)⟩;have ael:∀c:Int,dH [.v (.int .i64 0),.v (.int .i64 0),.v (.int .i64 0),.v (.int .i64 0),.v (.string ⟨#[]⟩)] [(0,1,.v (.int .i64 c))]=a_ (hG ⟨c,0,0,0,[]⟩):=λc=>rfl;refine eE (λe g=>e=[(0,.mp k 0),(1,.v (.int .i64 (i))),(2,.v (.bool b))]/\J4 k v l 1 J g) ?_ ?_;cases b with
 |true=>
  obtain⟨o1,g1,e1,g2,s1,eX,qk⟩:=hS.push _ aAI aa;refine wx ?_;exact⟨trivial,_,o1,eX,af,qk⟩
 |false=>
  refine wx ?_;exact⟨trivial,[],out,by rw[hJ];exact hS,af,iH.refl _ _⟩
 rintro e g ⟨rfl,l1,o1,eX,hl1,qk⟩;refine eE (λe g2=>∃m,e=[(0,.mp k 0),(2,.v (.bool b)),(6,.mp m 0)]/\m≠k/\g2[m]?=a_ (.cells p.cells bf)/\pF k v (l++l1) o1 g2/\iH k J g2) ?_ ?_;have e1:cA 5 v (.v (.int .i64 (i)))=a_ (.fp p.cells 0):=h.v.cI (x:=p.bN) aIB rfl;have s1:=yI g p;refine wx ?_;have:=gl eX.b;exact⟨g.length,rfl,aa,af,eX.app',qk.trans iH.app⟩;rintro e g2 ⟨m,rfl,Ij,hm,fU,rM⟩;have m0:∀bl,iH k g2 bl->bl[m]?=a_ (.cells p.cells bf):=λbl O=>O.2 _ _ _ Ij hm;have fY:∀bl,bl[m]?=a_ (.cells p.cells bf)->bA bl bf 1 (.mp m 0)=a_ (.v (.int .i64 p.kind))/\bA bl bf 1 (.mp m 1)=a_ (.v (.int .i64 p.low))/\bA bl bf 1 (.mp m 2)=a_ (.v (.int .i64 p.high))/\bA bl bf 1 (.mp m 3)=a_ (bu p.name)/\bA bl bf 1 (.mp m 4)=a_ p.kv:=λbl q=>by
  simp only[bA,q];exact⟨rfl,rfl,rfl,rfl,rfl⟩
 refine eE (λe g3=>e=[(0,.mp k 0),(2,.v (.bool b))]/\J4 k v l (sz ps (i)-1) J g3) ?_ ?_;refine wy ?_
 rcases lA.1 with⟨S,ox,x7,s0,aGr⟩|⟨S|S,ox,x7,s0,hk2,_⟩|⟨S,s0,gD,h0,Y,V⟩
 have f1:dH [.v (.int .i64 0),.v (.int .i64 0),.v (.int .i64 0),.v (.int .i64 0),.v (.string ⟨#[]⟩)] [(0,1,.v (.int .i64 1)),(4,1,bu p.name)]=a_ (hG ⟨1,0,0,0,p.name⟩):=rfl;obtain⟨mC,g4,eL,g5,j_,zW,xY⟩:=fU.push ⟨1,0,0,0,p.name⟩ ⟨Cq _,bD ⟨rfl,s0,rfl,rfl⟩⟩ ah;refine wx ?_;rw[dU] at zW;exact⟨trivial,_,mC,zW,ah,rM.trans xY⟩;have lk:=yj o4 (gY j8 ag);have kv:∀g,v7 g p.kv p.kids:=F0 p;refine wy ?_;refine dx (λj e g=>e=[(0,.mp k 0),(2,.v (.bool b)),(48,p.kv),(49,bq p.kids.length),(50,bq j)]/\∃l3 jH,pF k v (l++l3) jH g/\l3.length<=1+((p.kids.take j).map λx=>sz ps x+1).sum/\iH k J g) p.kids.length ⟨rfl,l1,o1,fU,aa,rM⟩ ?_ ?_
 · rintro j e g hj ⟨rfl,l3,jH,ot,rR,sR⟩
   obtain⟨x,I⟩:=cO hj;have qV:=cE I;obtain⟨x0,x1⟩:=lA.2 x qV;obtain⟨xn,rfl⟩:=oI x0;have kJ:=gl eD;obtain⟨q,hq⟩:∃q,ps[xn]?=a_ q:=⟨ps[xn]' aa,cx aa⟩;have e1:cA 5 v (.v (.int .i64 (xn)))=a_ (.fp q.cells 0):=h.v.cI (x:=q.bN) aHu rfl;have dc:∀J,bA J bf 1 (.fp q.cells 0)=a_ (.v (.int .i64 q.kind)):=λJ=>rfl;obtain⟨pk,k1,k2⟩:=(kv g).get I;have xk:=yJ (f:=λx=>sz ps x+1) I;have sl:=B7 (λx=>sz ps x+1) p.kids (j+1);have next:∀(c),cy G bE 210 [.mp k 0,.v (.int .i64 (xn)),.v (.bool c)] g λr g'=>J4 k v (l++l3) (sz ps (xn)) g g':=λc=>ih _ qV c (l++l3) jH g ot ah;have fin:∀g',J4 k v (l++l3) (sz ps (xn)) g g'->∃l3 jH,pF k v (l++l3) jH g'/\l3.length<=1+((p.kids.take (j+1)).map λx=>sz ps x+1).sum/\iH k J g':=λg' ⟨l4,mC,cg,z2,z3⟩=>⟨l3++l4,mC,by rw[<-dU];exact cg,by simp only[en];omega,sR.trans z3⟩;refine nD ?_;refine c_ (λbt=>?_) λbt=>?_
   · refine cm (next bh) ?_
     intro r g' D;refine fj ?_;exact⟨rfl,fin g' D⟩
   · refine wx (cm (next _) ?_)
     intro r g' D;refine fj ?_;exact⟨rfl,fin g' D⟩
 rintro e g ⟨rfl,l3,jH,ot,rR,sR⟩;rw[sy] at rR;refine eN @bq.eq_1 ?_;exact⟨trivial,l3,jH,ot,aa,sR⟩;have lk:=yj o4 (gY j8 ag);have kv:∀g,v7 g p.kv p.kids:=F0 p;refine wy ?_;refine dx (λj e g=>e=[(0,.mp k 0),(2,.v (.bool b)),(81,p.kv),(82,bq p.kids.length),(83,bq j)]/\∃l3 jH,pF k v (l++l3) jH g/\l3.length<=1+((p.kids.take j).map λx=>sz ps x+1).sum/\iH k J g) p.kids.length ⟨rfl,l1,o1,fU,aa,rM⟩ ?_ ?_;rintro j e g hj ⟨rfl,l3,jH,ot,rR,sR⟩;obtain⟨x,I⟩:=cO hj;have qV:=cE I;obtain⟨x0,x1⟩:=lA.2 x qV;obtain⟨xn,rfl⟩:=oI x0;have kJ:=gl eD;obtain⟨q,hq⟩:∃q,ps[xn]?=a_ q:=⟨ps[xn]' aa,cx aa⟩;have e1:cA 5 v (.v (.int .i64 (xn)))=a_ (.fp q.cells 0):=h.v.cI (x:=q.bN) aHu rfl;have dc:∀J,bA J bf 1 (.fp q.cells 0)=a_ (.v (.int .i64 q.kind)):=λJ=>rfl;obtain⟨pk,k1,k2⟩:=(kv g).get I;have xk:=yJ (f:=λx=>sz ps x+1) I;have sl:=B7 (λx=>sz ps x+1) p.kids (j+1);refine wy (cL (λbt=>?_) λbt=>?_);obtain⟨mC,g4,eL,g5,j_,zW,xY⟩:=ot.push _ aAN ah;refine wx ?_;refine cm (ih _ qV _ (l++l3++[⟨4,0,0,0,[]⟩]) mC g5 zW ah) ?_;rintro r g' ⟨l4,uh,cg,z2,z3⟩;refine wx ?_;exact⟨rfl,l3++[⟨4,0,0,0,[]⟩]++l4,uh,by rw[<-dU,<-dU];exact cg,by simp only[en,p8];omega,(sR.trans xY).trans z3⟩;refine wx (cm (ih _ qV _ (l++l3) jH g ot ah) ?_);rintro r g' ⟨l4,uh,cg,z2,z3⟩;refine wx ?_;exact⟨rfl,l3++l4,uh,by rw[<-dU];exact cg,by simp only[en];omega,sR.trans z3⟩;rintro e g ⟨rfl,l3,jH,ot,rR,sR⟩;rw[sy] at rR;refine eN @bq.eq_1 ?_;exact⟨trivial,l3,jH,ot,aa,sR⟩;obtain⟨x,I⟩:∃x,p.kids=[x]:=Ev.1 gD;have qV:x∈p.kids:=by rw[I];simp
 obtain⟨x0,x1⟩:=lA.2 x qV;obtain⟨xn,rfl⟩:=oI x0;have kJ:=gl eD;obtain⟨q,hq⟩:∃q,ps[xn]?=a_ q:=⟨ps[xn]' aa,cx aa⟩;have e1:cA 5 v (.v (.int .i64 (xn)))=a_ (.fp q.cells 0):=h.v.cI (x:=q.bN) aHu rfl;have dc:∀J,bA J bf 1 (.fp q.cells 0)=a_ (.v (.int .i64 q.kind)):=λJ=>rfl;obtain⟨pk,k1,k2⟩:=(F0 p g2).get (i:=0) (by rw[I];rfl);have awH:cA 1 p.kv (.v (.int .i64 0))=a_ pk:=k1;rw[I] at dG;simp only[fM,mI,y8,GY] at dG;refine wx (cm (ih _ qV _ (l++l1) o1 g2 fU ah) ?_);rintro r g' ⟨l4,uh,cg,z2,z3⟩;have f1:dH [.v (.int .i64 0),.v (.int .i64 0),.v (.int .i64 0),.v (.int .i64 0),.v (.string ⟨#[]⟩)] [(0,1,.v (.int .i64 5)),(2,1,.v (.int .i64 p.low)),(3,1,.v (.int .i64 p.high))]=a_ (hG ⟨5,0,p.low,p.high,[]⟩):=rfl;obtain⟨uj,g7,KG,g8,tn,Vy,atx⟩:=cg.push ⟨5,0,p.low,p.high,[]⟩ ⟨Cq _,bF (bF ⟨rfl,rfl,h0,Y,V⟩)⟩ ah;refine wx ?_;exact⟨trivial,l1++l4++[⟨5,0,p.low,p.high,[]⟩],uj,by rw[<-dU,<-dU];exact Vy,by simp only[en,p8];omega,(rM.trans z3).trans atx⟩;rintro e g3 ⟨rfl,l3,jH,ot,rR,sR⟩;cases b with
 |true=>
  obtain⟨mC,g4,eL,g5,j_,zW,xY⟩:=ot.push _ aCL ah;refine wx ?_;rw[dU] at zW;exact⟨_,mC,zW,ah,sR.trans xY⟩
 |false=>
  refine wy ?_;exact⟨l3,jH,ot,aa,sR⟩
end
end
def uz(c:UInt8):bg:=.v (.int .u8 (c.toNat:Int))
def y_(J:List br)(k:Nat)(l:List UInt8):Prop:=∃c0 bv,J[k]?=a_ (.cells [c0,bv] bf)/\(c0=.h_ k (359,2)\/c0=.mp k 0)/\cV J bv (l.map uz) 1 5/\(l=[]->bv=.bp)
def Cu(J:List br)(k:Nat)(l:List UInt8)(bv:bg):Prop:=J[k]?=a_ (.cells [.mp k 0,bv] bf)/\cV J bv (l.map uz) 1 5/\(l=[]->bv=.bp)
@[go_sem]def Yg(l:List UInt8):c8 1 (l.map uz)=bh:=by
 rw[c8,eO];intro x I;obtain⟨t,ht,rfl⟩:=dZ.1 I;rfl
section
variable{G:Cells}{k:Nat}{l:List UInt8}{J:List br}
def iH.set{x}:iH k J (J.set k x):=⟨af,λj Z fz hj h=>aI7⟩
def ac4(h:y_ J k l):cy G bE 263 [.mp k 0] J λr bl=>r=.bQ []/\(∃bv,Cu bl k l bv)/\iH k J bl:=by
 obtain⟨c0,bv,Y,rfl|rfl,h3,h4⟩:=h;refine cm (acQ aoo Y) ?_;rintro r bl ⟨rfl,rfl⟩;refine⟨rfl,⟨bv,bV (gl Y),?_,h4⟩,iH.set⟩
 rcases h3 with z|⟨id,cg,z2⟩
 exact bD z;refine bF ⟨id,cg,?_⟩;rw[bC];exact z2;rintro rfl;rw[Y] at z2;cases z2;refine cm (acT aoo Y) ?_;rintro r bl ⟨rfl,rfl⟩;exact⟨rfl,⟨bv,Y,h3,h4⟩,iH.refl _ _⟩
def Cu.st{bv}(h:Cu J k l bv):y_ J k l:=⟨_,bv,h.1,bF rfl,h.2⟩
@[go_sem]def Cu.fY{bv}(h:Cu J k l bv):bA J bf 1 (.mp k 1)=a_ bv:=by
 simp only[bA,h.1];rfl
def Cu.put{bv cT}{g}{l'}(h:Cu J k l bv)(hA:cV g cT (l'.map uz) 1 5)(hz:l'=[]->cT=.bp)(S:∀(j:Nat) Z fz,J[j]?=a_ (.cells Z fz)->g[j]?=a_ (.cells Z fz))(hl:J.length<=g.length):
  ∃g',bL g 1 (.mp k 1) cT=a_ g'/\y_ g' k l'/\iH k J g':=by
 have kb:=S _ _ _ h.1
 have ho:cr cT=bh:=az
 have eL:cT.cells=[cT]:=by cases cT<;>first|rfl|cases ho
 have s2:bL g 1 (.mp k 1) cT=a_ (g.set k (.cells [.mp k 0,cT] bf)):=by
  simp only[bL,kb,e5,eL];simp[ho,dN]
 refine⟨_,s2,⟨_,cT,bV (gl kb),bF rfl,?_,hz⟩,aJ,λj Z fz hj q=>?_⟩
 rcases hA with z|⟨id,cg,z2⟩
 exact bD z;refine bF ⟨id,cg,?_⟩;rw[bC];exact z2;rintro rfl;rw[kb] at z2;cases z2;rw[bC (eW hj)];exact S _ _ _ q
def Oy(h:y_ J k l)(hl:l.length<=100000000)(c):cy G bE 247 [.mp k 0,.v (.int .u8 (c.toNat:Int))] J λr bl=>y_ bl k (l++[c])/\iH k J bl:=by
 refine ah0.go ?_;refine wy (cm (ac4 h) ?_);rintro _ g ⟨rfl,⟨bv,hB⟩,O⟩;obtain⟨cj,g2,e2,fo,bR,bK,hk2⟩:=ni (x:=uz c) (b6:=1) hB.2.1 (Yg l) rfl ag ag ah;have qN:cV g2 cj ((l++[c]).map uz) 1 5:=aHz
 obtain⟨g3,eK,sR,Bp⟩:=hB.put qN (λq=>by simp at q) (λj Z fz q=>hk2 _ _ q λxs z=>by
  rcases hB.2.1 with⟨q1,_⟩|⟨id,q1,bt⟩
  rw[q1] at z;cases z;rw[q1] at z;cases z;rw[q] at bt;cases bt) bK
 unfold uz at e2;have dc:EL g 1 5 bv (.sl [.v (.int .u8 (c.toNat:Int))] .exact)=a_ (cj,g2):=e2;refine jl @hB.fY @dc @eK ?_;exact⟨sR,O.trans Bp⟩
def anb(h:y_ J k l)(s)(hl:l.length+s.length<=100000000):cy G bE 245 [.mp k 0,bu s] J λr bl=>y_ bl k (l++s)/\iH k J bl:=by
 refine ahZ.go ?_;refine wy (cm (ac4 h) ?_);rintro _ g ⟨rfl,⟨bv,hB⟩,O⟩;have key:∃cj g2,A8 g 1 5 bv (bu s)=a_ (cj,g2)/\cV g2 cj ((l++s).map uz) 1 5/\(l++s=[]->cj=.bp)/\g.length<=g2.length/\∀(j:Nat) Z fz,g[j]?=a_ (.cells Z fz)->g2[j]?=a_ (.cells Z fz):=by
  rcases s with _|⟨c,s⟩
  refine⟨bv,g,?_,by rw[hJ];exact hB.2.1,by rw[hJ];exact hB.2.2,ck _,λ_ _ _ q=>q⟩
  rcases hB.2.1 with⟨rfl,_⟩|⟨id,rfl,_⟩<;>rfl
  have O:EV ⟨⟨c::s⟩⟩=(c::s).map uz:=rfl;have hz:(⟨⟨c::s⟩⟩:ByteArray).size≠0:=by show(c::s).length≠0;simp
  rcases hB.2.1 with⟨rfl,e⟩|⟨id,rfl,S⟩
  have:l=[]:=aIW
  subst this;refine⟨.sl ((c::s).map uz) (.tok g.length),g++[.tok (c::s).length 1 5],?_,bF ⟨g.length,rfl,af⟩,af,af,λ_ _ _ q=>bU q⟩;have hf:((c::s).map uz).length*1<=140737488355328:=by simp at hl⊢;omega
  simp only[A8,bu,hz,if_false,iY,O,AY,if_true];rw[if_pos hf];simp;have cQ:=gl S;refine⟨.sl ((l++c::s).map uz) (.tok id),g.set id (.tok (l++c::s).length 1 5),?_,bF ⟨id,rfl,by rw[bV cQ];simp⟩,af,af,λj Z fz q=>?_⟩;have hf:((l.map uz).length+((c::s).map uz).length)*1<=140737488355328:=by simp at hl⊢;omega
  simp only[A8,bu,hz,if_false,iY,O,AY,if_true,Yg,true_and,S,and_self];rw[if_pos hf];simp;rw[bC];exact q;rintro rfl;rw[S] at q;cases q
 obtain⟨cj,g2,e2,qN,avX,bK,hk2⟩:=key;obtain⟨g3,eK,sR,Bp⟩:=hB.put qN avX hk2 bK;refine l5 @hB.fY @e2 @eK @wX ?_;exact⟨sR,O.trans Bp⟩
def aDR(h:y_ J k l)(hl:l.length<=100000000):cy G bE 246 [.mp k 0] J λr bl=>r=bu l/\bl=J:=by
 obtain⟨c0,bv,Y,_,h3,h4⟩:=h
 rcases h3 with⟨rfl,e⟩|⟨id,rfl,S⟩
 have:l=[]:=aIW
 subst this;exact acS aou Y
 rcases l with _|⟨c,r⟩
 cases h4 rfl;rw[dj] at S;exact acR aou Y S af aa
end
def adP(n):(ld 1 n).length<=2:=by
 unfold ld;split;simp;simp[ld]
@[go_sem]def abN{a b}(h:a.length+b.length<=1000000):dF .add (.v (.string ⟨⟨a⟩⟩)) (bu b)=a_ (bu (a++b)):=uQ aa
@[go_sem]def Kh{a b}(h:a.length+b.length<=1000000):dF .add (bu a) (.v (.string ⟨⟨b⟩⟩))=a_ (bu (a++b)):=uQ aa
def aDX{G}{low high}(h0:0<=low)(Y:low<=20)(V:high= -1\/(1<=high/\high<=20)):dA G bE 248 [.v (.int .i64 low),.v (.int .i64 high)] λr=>∃t:List UInt8,r=bu t/\t.length<=8:=by
 obtain⟨n,rfl⟩:=oI h0;refine dX (aiY.go ?_);have fin:∀(J) (t),t.length<=8->∃n bS,cX J n (bu t)=a_ bS/\∃t:List UInt8,bS=bu t/\t.length<=8:=λJ t ht=>by
  obtain⟨n,hn⟩:=(bH _:b8 J (bu t) (bu t)).done;exact⟨n,_,hn,t,rfl,ht⟩
 have d1:=adP n;have sp:dL G bE 191 [(n:Int)] (bu (ld 1 n)):=Zm n aa;have a1:dF .add (.v (.string ⟨[123].toArray⟩)) (bu (ld 1 n))=a_ (bu ([123]++ld 1 n)):=abN ah;have a2:dF .add (bu ([123]++ld 1 n)) (.v (.string ⟨[125].toArray⟩))=a_ (bu ([123]++ld 1 n++[125])):=Kh ah;have a3:dF .add (bu ([123]++ld 1 n)) (.v (.string ⟨[44,125].toArray⟩))=a_ (bu ([123]++ld 1 n++[44,125])):=Kh ah;have a4:dF .add (bu ([123]++ld 1 n)) (.v (.string ⟨[44].toArray⟩))=a_ (bu ([123]++ld 1 n++[44])):=Kh ah
 rcases V with rfl|⟨g0,g1⟩
 · cases lq:((n:Int)==0)<;>cases g_:((n:Int)==1)<;>cases agk:((n:Int)== -1)
   all_goals
    refine wy ?_
    first
     |exact fin _ [42] ag
     |exact fin _ [43] ag
     |refine fk sp ?_
      refine jl @a1 @a2 @a3 ?_;exact fin _ _ (by simp<;>omega)
 · obtain⟨m,rfl⟩:=oI (show 0<=high by omega)
   have d2:=adP m;have aC1:dL G bE 191 [(m:Int)] (bu (ld 1 m)):=Zm m aa;have a5:dF .add (bu ([123]++ld 1 n++[44])) (bu (ld 1 m))=a_ (bu ([123]++ld 1 n++[44]++ld 1 m)):=uQ ah;have a6:dF .add (bu ([123]++ld 1 n++[44]++ld 1 m)) (.v (.string ⟨[125].toArray⟩))=a_ (bu ([123]++ld 1 n++[44]++ld 1 m++[125])):=Kh ah;have hm:((m:Int)== -1)=bf:=af
   cases lq:((n:Int)==0)<;>cases g_:((n:Int)==1)<;>cases V3:((m:Int)==1)<;>cases agk:((n)==(m:Int))
   all_goals
    refine p5 @lq @g_ @hm @V3 @agk ?_
    first
     |exact fin _ [63] ag
     |refine fk sp ?_
      refine jl @a1 @a2 @a4 ?_
      first
       |exact fin _ _ (by simp<;>omega)
       |refine fk aC1 ?_
        refine mG @a5 @a6 ?_;exact fin _ _ (by simp<;>omega)
def aCJ{G}{v}{l:List dw}(hv:cG v (l.map mH))(fG:∀x∈l,x.dS)(hl:l.length<=100000):dA G bE 211 [v] λr=>∃t:List UInt8,r=bu t/\t.length<=14*l.length:=by
 refine dX (aiD.go ?_);have ln:=hv.cN;rw[dj] at ln;refine wy ?_;refine dx (λi e J=>e=[(3,.mp 0 0),(6,v),(7,bq l.length),(8,bq i)]/\∃t,y_ J 0 t/\t.length<=14*i) l.length ⟨rfl,[],⟨_,_,rfl,bD rfl,bD ⟨rfl,rfl⟩,λ_=>rfl⟩,af⟩ ?_ ?_
 · rintro i e J Q ⟨rfl,t0,afm,wQ⟩
   obtain⟨x,I⟩:=cO Q;have DF:=fG x (cE I);have e1:cA 5 v (i:Int)=a_ (.fp x.cells 0):=hv.cI (x:=x.bN) aA rfl;have e2:∀J,bA J bh 5 (.fp x.cells 0)=a_ (.agg x.cells):=λJ=>rfl;have s1:=yE J x;unfold iw at s1;have fY:∀g:List br,g[J.length]?=a_ (.cells x.cells bf)->bA g bf 1 (.mp J.length 0)=a_ (.v (.int .i64 x.kind))/\bA g bf 1 (.mp J.length 2)=a_ (.v (.int .i64 x.low))/\bA g bf 1 (.mp J.length 3)=a_ (.v (.int .i64 x.high))/\bA g bf 1 (.mp J.length 4)=a_ (bu x.name):=λg q=>by
    simp only[bA,q];exact⟨rfl,rfl,rfl,rfl⟩
   have hm:(J++[bw x.cells bf])[J.length]?=a_ (.cells x.cells bf):=af
   have hB:y_ (J++[bw x.cells bf]) 0 t0:=by
    obtain⟨c0,bv,b1,b2,b3,b4⟩:=afm;refine⟨c0,bv,bU b1,b2,?_,b4⟩
    rcases b3 with z|⟨id,cg,z2⟩
    exact bD z;exact bF ⟨id,cg,bU z2⟩
   have oY:J.length≠0:=by
    obtain⟨_,_,b1,_⟩:=afm;have:=gl b1;omega
   refine wy (cL (λq=>?_) λq=>?_);refine wy (cL (λbt=>?_) λbt=>?_);refine wy (cm (Oy hB aa 32) ?_);rintro r g3 ⟨hB,Fp⟩;have hm:=Fp.2 _ _ _ oY hm;have wQ:(t0++[32]).length<=14*i+1:=ah
   all_goals
    refine wy ?_
    rcases DF.2 with⟨S,s0,_,_⟩|⟨S|S|S,_,_,_⟩|⟨S,_,z0,cg,z2⟩
    have hn:x.name.length<=12:=by
     simp only[ug,fA,decide_eq_true_eq] at s0;omega
    refine wy (cm (anb hB x.name aa) ?_);rintro r g4 ⟨Bn,_⟩;refine wx ?_;exact⟨rfl,_,Bn,ah⟩;refine wy (cm (Oy hB aa 40) ?_);rintro r g4 ⟨Bn,_⟩;refine wx ?_;exact⟨rfl,_,Bn,ah⟩;refine wy (cm (Oy hB aa 41) ?_);rintro r g4 ⟨Bn,_⟩;refine wx ?_;exact⟨rfl,_,Bn,ah⟩;refine wy (cm (Oy hB aa 124) ?_);rintro r g4 ⟨Bn,_⟩;refine wx ?_;exact⟨rfl,_,Bn,ah⟩;refine wy ?_;refine jz (aDX z0 cg aa) (cl (dz _) (cl (dz _) dK)) ?_;rintro r ⟨t2,rfl,LS⟩;refine wy (cm (anb hB t2 aa) ?_);rintro r g4 ⟨Bn,_⟩;refine wx ?_;exact⟨rfl,_,Bn,ah⟩
 rintro e J ⟨rfl,t,hB,ht⟩;refine wy (cm (aDR hB aa) ?_);rintro _ g ⟨rfl,hh⟩;refine fj ?_;obtain⟨n,hn⟩:=(bH _:b8 g (bu t) (bu t)).done;exact⟨n,_,hn,t,rfl,ht⟩
section
variable{G:Cells}{v:bg}{ps:List cM}
def apN{k:Nat}(h:sH v ps):∀(n i:Nat),i<n->i<ps.length->Th G k v ps (i:Int):=by
 intro n
 induction n with
 |zero=>intro i Q;omega
 |succ n ih=>
  intro i Q hl;obtain⟨p,J⟩:=cO hl;refine ayO h J λx I=>?_;obtain⟨x0,x1⟩:=(h.ok i p J).2 x I;obtain⟨xn,rfl⟩:=oI x0;exact ih xn aa aa
def Zu{x:Int}(hn:ps≠[])(h:p4 ps ps.length [x]):x=((ps.length-1:Nat):Int):=by
 cases hl:ps.length with
 |zero=>exact absurd (List.length_eq_zero_iff.1 hl) hn
 |succ n=>
  rw[hl] at h;obtain⟨p,qy,_,_,e⟩:=h;have:qy=[]:=by
   have:=congrArg JO e;simp at this;exact this
  subst this;simpa using e
def Um{l:List dw}:∀x∈l.map mH,∀c∈x.cells,eP c:=λx I c T=>by
 obtain⟨s,_,rfl⟩:=dZ.1 I;have:c∈s.cells:=T;simp only[hG,fB,qD,or_false] at this
 rcases this with rfl|rfl|rfl|rfl|rfl<;>exact dz _
def zi(n:Nat)(r:bg):Prop:=∃t:List UInt8,r=bu t/\t.length<=n
def rJ{J:List br}{n:Nat}{t:List UInt8}(ht:t.length<=n):∃m bS,cX J m (bu t)=a_ bS/\zi n bS:=by
 obtain⟨m,hn⟩:=(bH _:b8 J (bu t) (bu t)).done;exact⟨m,_,hn,t,rfl,ht⟩
def aCH(cB:fS G)(h:sH v ps):dA G bE 157 [v] (zi 40000):=by
 refine dX (ah8.go ?_);have ln:=h.v.cN;rw[dj] at ln;have c7:=h.len;refine wy ?_;refine c_ (λq=>?_) λq=>?_;exact rJ (t:=[]) ag;have bR:ps≠[]:=by rintro rfl;simp at q
 refine wy (jz (alN cB h) (cl (EX h) dK) ?_);rintro r ⟨b,rfl,O⟩;cases b with
 |false=>
  refine wy ?_;exact rJ (t:=[]) ag
 |true=>
  obtain⟨x,I⟩:=(O rfl).resolve_left bR;have D:=Zu bR I;have hs:=am8 h.ok I;rw[D] at hs;simp only[fM,mI,y8,GY] at hs
  have f1:dH [.bp,.bp] [(0,1,v)]=a_ [v,.bp]:=aHQ
  have hS:pF 0 v [] .bp [.cells [v,.bp] bf]:=⟨rfl,bD ⟨rfl,rfl⟩,af⟩;refine wy (cm (apN h _ (ps.length-1) (AX _) aa bf [] .bp _ hS ah) ?_);rintro r g ⟨l2,o2,cg,z2,z3⟩;rw[gV] at cg;obtain⟨v',y1,fK,lI⟩:=CN cg.app Um;refine wx ?_;refine ek (aCJ y1 cg.ok aa) ?_;rintro r ⟨t,rfl,ht⟩;refine wy ?_;exact rJ aa
end
def dO(n:Nat):bg:=.v (.int .u64 (n:Int))
def wd(B i:Nat):Nat:=(B>>>(64*i)) % 2^64
def Sv(B i):wd B i<18446744073709551616:=Nat.mod_lt _ ag
def Eb(B i j):(wd B i).testBit j=(decide (j<64)&&B.testBit (64*i+j)):=by
 unfold wd;rw[Nat.testBit_mod_two_pow,Nat.testBit_shiftRight]
def Ng(A B i):wd (A|||B) i=wd A i|||wd B i:=by
 apply aoT;intro j;rw[SY,Eb,Eb,Eb,SY];cases decide (j<64)<;>simp
def Su(A B i):wd (A&&&B) i=wd A i&&&wd B i:=by
 apply aoT;intro j;rw[aoV,Eb,Eb,Eb,aoV];cases decide (j<64)<;>simp
def aEC(q r i)(D:r<64):wd (2^(64*q+r)) i=if i=q then 2^r else 0:=by
 apply aoT;intro j;rw[Eb,aaL];by_cases h:i=q;subst h;rw[if_pos rfl,aaL];by_cases hj:r=j;subst hj;simp[D];have:¬(64*i+r=64*i+j):=aa
 simp[hj,this];rw[if_neg h,Nat.zero_testBit];by_cases hj:j<64;have:¬(64*q+r=64*i+j):=aa
 simp[this];simp[hj]
def Sw(B q r i)(D:r<64):wd (B|||2^(64*q+r)) i=if i=q then wd B i|||2^r else wd B i:=by
 rw[Ng,aEC q r i D];split;rfl;rw[Nat.or_zero]
def Kr{x:Nat}(h:x<18446744073709551616):(Ch 64 (x)).toNat=x:=by
 rw[BitVec.toNat_ofInt];omega
@[go_sem]def ak2{x y}(I:x<18446744073709551616)(hy:y<18446744073709551616):dF .or (dO x) (dO y)=a_ (dO (x|||y)):=by
 have hz:x|||y<2^64:=Nat.or_lt_two_pow I hy
 unfold dO;rw[apv];show a_ (cU (.int .u64 (GS.wrap ((Ch 64 (x)|||Ch 64 (y)).toNat:Int))))=_;rw[BitVec.toNat_or,Kr I,Kr hy,Ee];congr 3;omega
@[go_sem]def ab0{x y}(I:x<18446744073709551616)(hy:y<18446744073709551616):dF .and (dO x) (dO y)=a_ (dO (x&&&y)):=by
 have hz:x&&&y<2^64:=Nat.and_lt_two_pow x hy;unfold dO;rw[aby];show a_ (cU (.int .u64 (GS.wrap ((Ch 64 (x)&&&Ch 64 (y)).toNat:Int))))=_;rw[BitVec.toNat_and,Kr I,Kr hy,Ee];congr 3;omega
def bY(B:Nat):List bg:=[dO (wd B 0),dO (wd B 1),dO (wd B 2),dO (wd B 3)]
def b9(B:Nat):bg:=.agg (bY B)
def lP(B):eP (b9 B):=E1 (n:=2) rfl
def xW(J)(B):b8 J (b9 B) (b9 B):=kA (bG (bH _) (bG (bH _) (bG (bH _) (bG (bH _) cW))))
section
variable{G:Cells}
def awd(n:Nat)(h:n<256):dL G bE 224 [(n:Int)] bh:=by
 refine gr (aiQ.go ?_);have Y:decide ((0:Int)<=(n))=bh:=af
 have V:decide ((n:Int)<256)=bh:=ah
 exact wy ((bH _).done)
def anQ(B n:Nat)(h:n<256):dL G bE 174 [b9 B,.v (.int .i64 (n))] (b9 (B|||2^n)):=by
 refine gr (aio.go ?_);have tS:(b9 B).cells=bY B:=rfl;refine wy ?_;refine fk (awd n h) ?_;obtain⟨q,r,D,hq,rfl⟩:∃q r,r<64/\q<4/\n=64*q+r:=⟨n/64,n % 64,Nat.mod_lt _ ag,aa,aa⟩;have s1:dF .shr (.v (.int .i64 ((64*q+r:Nat):Int))) (.v (.int .u64 6))=a_ (.v (.int .i64 (q))):=by
  rw[apx (k:=.i64) (a:=((64*q+r:Nat):Int)) (b:=6) .u64 ag];congr 3;show Int.fdiv ((64*q+r:Nat):Int) 64=_;rw[Int.fdiv_eq_ediv_of_nonneg _ ag];omega
 have s2:dF .and (.v (.int .i64 ((64*q+r:Nat):Int))) (.v (.int .i64 63))=a_ (.v (.int .i64 (r))):=by
  rw[aby];show a_ (cU (.int .i64 (dy.wrap ((Ch 64 ((64*q+r:Nat):Int)&&&Ch 64 63).toNat:Int))))=_;rw[BitVec.toNat_and,Kr aa];have arF:(Ch 64 63).toNat=2^6-1:=ag
  rw[arF,Nat.and_two_pow_sub_one_eq_mod,gN aa aa];congr 3;omega
 have eK:Hq .u64 (.v (.int .i64 (r)))=a_ (.v (.int .u64 (r))):=by
  rw[TE,Ee];congr 3;omega
 have J:2^r<18446744073709551616:=Nat.pow_lt_pow_right ag D;have kr:dF .shl (.v (.int .u64 1)) (.v (.int .u64 (r)))=a_ (dO (2^r)):=by
  rw[apw (k:=.u64) (a:=1) (b:=(r)) .u64 aa];show a_ (cU (.int .u64 (GS.wrap (1*2^(min (r:Int).toNat 64)))))=_;rw[xu,JR aa,Ee];unfold dO;congr 3;have:(1:Int)*2^r=((2^r:Nat):Int):=af
  rw[this];generalize 2^r=z at J⊢;omega
 have avk:q=0\/q=1\/q=2\/q=3:=aa
 have w0:=Sw B q r 0 D;have w1:=Sw B q r 1 D;have w2:=Sw B q r 2 D;have w3:=Sw B q r 3 D;have fin:∀(J) Z,Z=bY (B|||2^(64*q+r))->∃n,cX J n (.agg Z)=a_ (b9 (B|||2^(64*q+r))):=λJ Z e=>by
  rw[e];exact(xW J _).done
 have Rm:∀i,dF .or (dO (wd B i)) (dO (2^r))=a_ (dO (wd B i|||2^r)):=λi=>ak2 (Sv B i) J
 rcases avk with rfl|rfl|rfl|rfl
 have a1:mO 4 1 (.mp 0 0) (.v (.int .i64 ((0:Nat):Int)))=a_ (.mp 0 0):=rfl;have o1:=Rm 0;unfold dO at o1 kr;refine l6 @bY.eq_1 @dO.eq_1 (fin _ _ ?_);unfold bY;rw[w0,w1,w2,w3];rfl;have a1:mO 4 1 (.mp 0 0) (.v (.int .i64 ((1:Nat):Int)))=a_ (.mp 0 1):=rfl;have o1:=Rm 1;unfold dO at o1 kr;refine l6 @bY.eq_1 @dO.eq_1 (fin _ _ ?_);unfold bY;rw[w0,w1,w2,w3];rfl;have a1:mO 4 1 (.mp 0 0) (.v (.int .i64 ((2:Nat):Int)))=a_ (.mp 0 2):=rfl;have o1:=Rm 2;unfold dO at o1 kr;refine l6 @bY.eq_1 @dO.eq_1 (fin _ _ ?_);unfold bY;rw[w0,w1,w2,w3];rfl;have a1:mO 4 1 (.mp 0 0) (.v (.int .i64 ((3:Nat):Int)))=a_ (.mp 0 3):=rfl;have o1:=Rm 3;unfold dO at o1 kr;refine l6 @bY.eq_1 @dO.eq_1 (fin _ _ ?_);unfold bY;rw[w0,w1,w2,w3];rfl
end
section
variable{G:Cells}
def aAJ{x y}(I:x<18446744073709551616)(hy:y<18446744073709551616):dL G bE 108 [dO x,dO y] (dO (x|||y)):=by
 refine gr (ahO.go ?_);exact wx ((bH _).done)
def apT{x y}(I:x<18446744073709551616)(hy:y<18446744073709551616):dL G bE 253 [dO x,dO y] (dO (x&&&y)):=by
 refine gr (ai2.go ?_);exact wx ((bH _).done)
def IP(op:Nat->Nat->Nat)(A B i:Nat):List bg:=[dO (if 0<i then op (wd A 0) (wd B 0) else wd A 0),dO (if 1<i then op (wd A 1) (wd B 1) else wd A 1),dO (if 2<i then op (wd A 2) (wd B 2) else wd A 2),dO (if 3<i then op (wd A 3) (wd B 3) else wd A 3)]
def acF{f}{op}(hf:∀x y,x<18446744073709551616->y<18446744073709551616->dL G bE f [dO x,dO y] (dO (op x y)))(A B):dL G bE 107 [b9 A,b9 B,.fn (.func f) [] []] (.agg (IP op A B 4)):=by
 refine gr (ahN.go ?_);have tS:∀B,(b9 B).cells=bY B:=λB=>rfl;have l0:bA [.cells (bY A) bf,.cells (bY B) bf,.cells [.v (.int .u64 0),.v (.int .u64 0),.v (.int .u64 0),.v (.int .u64 0)] bf] bh 4 (.mp 1 0)=a_ (b9 B):=rfl;refine wy ?_;refine dx (λi e J=>e=[(2,.fn (.func f) [] []),(3,.mp 0 0),(6,.mp 2 0),(10,b9 B),(11,bq i)]/\J=[.cells (IP op A B i) bf,.cells (bY B) bf,.cells [.v (.int .u64 0),.v (.int .u64 0),.v (.int .u64 0),.v (.int .u64 0)] bf]) 4 ⟨rfl,rfl⟩ ?_ ?_;rintro i e J Q ⟨rfl,rfl⟩;have u1:=@bY.eq_1;have u2:=@dO.eq_1;have u3:=@IP.eq_1;have c1:decide ((i:Int)<4)=bh:=ah
 have a1:mO 4 1 (.mp 0 0) (.v (.int .i64 i))=a_ (.mp 0 i):=by simp[mO,k9];omega
 have T:i=0\/i=1\/i=2\/i=3:=aa
 have e1:CJ bf 1 4 (b9 B) (.v (.int .i64 i))=a_ (dO (wd B i)):=by rcases T with rfl|rfl|rfl|rfl<;>rfl
 rcases T with rfl|rfl|rfl|rfl<;>(refine nD ?_;refine fk (hf _ _ (Sv A _) (Sv B _)) ?_;exact aER)
 rintro e J ⟨rfl,rfl⟩;have c1:decide (((4:Nat):Int)<4)=bf:=rfl;exact an2 @bY.eq_1 @dO.eq_1 @IP.eq_1 ((kA (bG (bH _) (bG (bH _) (bG (bH _) (bG (bH _) cW))))).done)
def I1(A B):dL G bE 58 [b9 A,b9 B] (b9 (A|||B)):=by
 refine gr (ahl.go ?_);have tS:∀B,(b9 B).cells=bY B:=λB=>rfl;refine wx (gO (acF (λx y I hy=>aAJ I hy) A B) (cl (lP _) (cl (lP _) (cl (Ul _) dK))) ?_);refine wx ?_;have e:dD (IP (· ||| ·) A B 4)=b9 (A|||B):=by
  unfold b9 bY;rw[Ng,Ng,Ng,Ng];rfl
 rw[e];exact(xW _ _).done
def apS(A B):dL G bE 228 [b9 A,b9 B] (b9 (A&&&B)):=by
 refine gr (aiU.go ?_);have tS:∀B,(b9 B).cells=bY B:=λB=>rfl;refine wx (gO (acF (λx y I hy=>apT I hy) A B) (cl (lP _) (cl (lP _) (cl (Ul _) dK))) ?_);refine wx ?_;have e:dD (IP (· &&& ·) A B 4)=b9 (A&&&B):=by
  unfold b9 bY;rw[Su,Su,Su,Su];rfl
 rw[e];exact(xW _ _).done
def fI(l:List Nat):Nat:=l.foldl (λB n=>B|||2^n) 0
def X8{v}{l}(hv:cG v (l.map λn:Nat=>bq (n)))(hl:∀n∈l,n<256)(hn:l.length<=100000):dL G bE 103 [v] (b9 (fI l)):=by
 refine gr (ahJ.go ?_);have ln:=hv.cN;rw[dj] at ln;refine wy ?_;refine dx (λi e J=>e=[(2,.mp 0 0),(3,.mp 1 0),(6,v),(7,bq l.length),(8,bq i)]/\J=[.cells [.v (.int .u64 0),.v (.int .u64 0),.v (.int .u64 0),.v (.int .u64 0)] bf,.cells (bY (fI (l.take i))) bf]) l.length ⟨rfl,by simp[fI,bY,dO,wd]⟩ ?_ ?_;rintro i e J Q ⟨rfl,rfl⟩;obtain⟨x,I⟩:=cO Q;have avP:=hl x (cE I);have e1:cA 1 v (i:Int)=a_ (.fp [bq x] 0):=hv.cI (x:=bq x) aA rfl;have l1:bA [.cells [.v (.int .u64 0),.v (.int .u64 0),.v (.int .u64 0),.v (.int .u64 0)] bf,.cells (bY (fI (l.take i))) bf] bh 4 (.mp 1 0)=a_ (b9 (fI (l.take i))):=rfl
 have arI:fI (l.take (i+1))=fI (l.take i)|||2^x:=by
  unfold fI;rw[Ew,I];simp
 have s1:bL [.cells [.v (.int .u64 0),.v (.int .u64 0),.v (.int .u64 0),.v (.int .u64 0)] bf,.cells (bY (fI (l.take i))) bf] 4 (.mp 1 0) (b9 (fI (l.take i)|||2^x))=a_ [.cells [.v (.int .u64 0),.v (.int .u64 0),.v (.int .u64 0),.v (.int .u64 0)] bf,.cells (bY (fI (l.take i)|||2^x)) bf]:=rfl;refine wy (gO (anQ _ x avP) (cl (lP _) (cl (dz _) dK)) ?_);rw[arI];refine wx ?_
 first
  |exact⟨rfl,trivial⟩
  |exact⟨rfl,rfl⟩
 rintro e J ⟨rfl,rfl⟩;rw[sy];have l1:bA [.cells [.v (.int .u64 0),.v (.int .u64 0),.v (.int .u64 0),.v (.int .u64 0)] bf,.cells (bY (fI l)) bf] bh 4 (.mp 1 0)=a_ (b9 (fI l)):=rfl;have s1:bL [.cells [.v (.int .u64 0),.v (.int .u64 0),.v (.int .u64 0),.v (.int .u64 0)] bf,.cells (bY (fI l)) bf] 4 (.mp 0 0) (b9 (fI l))=a_ [.cells (bY (fI l)) bf,.cells (bY (fI l)) bf]:=rfl;have l2:bA [.cells (bY (fI l)) bf,.cells (bY (fI l)) bf] bh 4 (.mp 0 0)=a_ (b9 (fI l)):=rfl;exact wy ((xW _ _).done)
end
def art{x}(h:x≠0)(I:x<18446744073709551616):x.testBit (Eo 64 x)=bh/\Eo 64 x<64:=by
 unfold Eo;rw[if_neg h];obtain⟨m,Y,V⟩:=Lib.ctzFrom_spec 64 x aa I;refine⟨?_,V⟩;generalize Lib.ctzFrom 64 x=c at Y V;rw[Y,Nat.testBit_two_pow_mul];simp
def Xu{x}(h:x≠0):x&&&(x-1)<x:=Nat.lt_of_le_of_lt Nat.and_le_right aa
def zF(x:Nat):List Nat:=if h:x=0 then [] else Eo 64 x::zF (x&&&(x-1))
termination_by x
decreasing_by exact Xu h
def arK:zF 0=[]:=by rw[zF,dif_pos rfl]
def arJ{x}(h:x≠0):zF x=Eo 64 x::zF (x&&&(x-1)):=by rw[zF,dif_neg h]
def KJ(B:Nat):Nat->List Nat
 |0=>[]
 |i+1=>KJ B i++(zF (wd B i)).map (64*i+ ·)
def zE(B:Nat):List Nat:=KJ B 4
section
variable{G:Cells}
def Kk(B)(J):cy G bE 59 [b9 B] J λr bl=>r=.fn (.func 109) [] [.mp J.length 0]/\bl=J++[.cells (bY B) bf]:=by
 refine ahm.go ?_;have tS:(b9 B).cells=bY B:=rfl;exact wx tt
def Kl(cB:fS G){y}{Inv:List Nat->List br->Prop}{Stop:List br->Prop}{B kb:Nat}{J}
  (lS:∀done p J,Inv done J->B.testBit p=bh->p<256->jK G bE y [(p:Int)] J λr bl=>∃c:Bool,r=c/\(c=bh->Inv (done++[p]) bl)/\(c=bf->Stop bl))
  (O:J[kb]?=a_ (.cells (bY B) bf)) (h0:Inv [] J):cy G bE 109 [y,.mp kb 0] J λr bl=>r=.bQ []/\(Inv (zE B) bl\/Stop bl):=by
 refine ahP.go ?_;have l0:bA J bh 4 (.mp kb 0)=a_ (b9 B):=by simp only[bA,O];rfl
 refine wy ?_;refine dx (λi e J=>e=[(0,y),(6,b9 B),(7,bq i)]/\Inv (KJ B i) J) 4 ⟨rfl,h0⟩ ?_ ?_;rintro i e J Q ⟨rfl,hI⟩;have e1:CJ bf 1 4 (b9 B) (i:Int)=a_ (dO (wd B i)):=by
  have T:i=0\/i=1\/i=2\/i=3:=aa
  rcases T with rfl|rfl|rfl|rfl<;>rfl
 have c1:decide ((i:Int)<4)=bh:=ah
 refine wy ?_;refine o9 (λm e J=>∃pre,m<18446744073709551616/\e=[(0,y),(3,(i:Int)),(4,dO m),(6,b9 B),(7,(i:Int))]/\zF (wd B i)=pre++zF m/\(∀j,m.testBit j=bh->(wd B i).testBit j=bh)/\Inv (KJ B i++pre.map (64*i+ ·)) J) ⟨[],Sv B i,rfl,rfl,λj h=>h,by rw[mI,hJ];exact hI⟩ ?_;rintro m e J ⟨pre,hm,rfl,qn,afG,afr⟩;refine hD @dO.eq_1 (cL (λq=>?_) λq=>?_);have oY:m≠0:=by rintro rfl;simp at q
 obtain⟨t1,t2⟩:=art oY hm;have w1:dy.wrap (64*(i))=((64*i:Nat):Int):=by rw[gN aa aa];omega
 have hB:B.testBit (64*i+Eo 64 m)=bh:=by
  have:=afG _ t1;rw[Eb] at this;simp at this;exact this.2
 refine wy ?_;refine fk (amS cB m hm) ?_;have w3:GS.wrap ((m)-1)=((m-1:Nat):Int):=by rw[Ee];omega
 have a1:=ab0 hm (show m-1<18446744073709551616 by omega);unfold dO at a1;refine wy (vK (lS _ _ _ afr hB aa) ?_);rintro _ g ⟨c,rfl,k1,k2⟩;cases c with
 |false=>
  refine fj ?_;exact⟨trivial,bF (k2 rfl)⟩
 |true=>
  refine mG @w3 @a1 ?_;refine⟨m&&&(m-1),Xu oY,pre++[Eo 64 m],Nat.lt_trans (Xu oY) hm,rfl,?_,λj hj=>?_,?_⟩;rw[qn,arJ oY];simp;rw[aoV] at hj;simp only[fA] at hj;exact afG j hj.1;have:=k1 rfl;rw[gQ,<-dU];exact this
 have oY:m=0:=au
 subst oY;refine wx ?_;rw[arK,hJ] at qn;refine⟨rfl,?_⟩;show Inv (KJ B i++(zF (wd B i)).map (64*i+ ·)) J;rw[qn];exact afr;rintro e J ⟨rfl,hI⟩;have c1:decide (((4:Nat):Int)<4)=bf:=rfl;refine mG @bq.eq_1 @c1 ?_;exact⟨trivial,bD hI⟩
end
def fm:List Nat->List bg
 |[]=>[]
 |B::r=>bY B++fm r
def ET(B):(bY B).length=4:=rfl
def zL:∀l:List Nat,(fm l).length=l.length*4
 |[]=>rfl
 |B::r=>by
  show(bY B++fm r).length=_;rw[en,zL r,ET,eV];omega
def aey:∀(l m),fm (l++m)=fm l++fm m
 |[],_=>rfl
 |B::r,m=>by
  show bY B++fm (r++m)=bY B++fm r++fm m;rw[aey r m,dU]
def Pm:∀{l} {p B},l[p]?=a_ B->((fm l).drop (p*4)).take 4=bY B
 |[],p,B,h=>aq
 |A::r,0,B,h=>by
  simp at h;subst h;show(List.drop (0*4) (bY A++fm r)).take 4=_;rw[Nat.zero_mul,pg,aoR (by rw[ET];omega),n6 (by rw[ET];omega)]
 |A::r,p+1,B,h=>by
  have:=Pm aR;show(List.drop ((p+1)*4) (bY A++fm r)).take 4=_;rw[show(p+1)*4=(bY A).length+p*4 by rw[ET];omega,<-y2,List.drop_left'];exact this;rfl
@[go_sem]def Pn:∀{l} {p B},p<l.length->dN (fm l) (p*4) (bY B)=fm (l.set p B)
 |[],p,B,h=>aq
 |A::r,0,B,h=>rfl
 |A::r,p+1,B,h=>by
  have:=Pn (B:=B) aR;unfold dN at this⊢;show List.take ((p+1)*4) (bY A++fm r)++bY B++List.drop ((p+1)*4+(bY B).length) (bY A++fm r)=bY A++fm (r.set p B);rw[show(p+1)*4=(bY A).length+p*4 by rw[ET];omega,aFj,nG,aoC,<-this];simp only[dU]
def akS(B):(bY B).all cr=bh:=rfl
def xH(J:List br)(v:bg)(l:List Nat):Prop:=(v=.bp/\l=[])\/∃k,v=.rs k (fm l).length 4 0 l.length/\J[k]?=a_ (.cells (fm l) bh)
section
variable{J:List br}{v:bg}{l:List Nat}{p B:Nat}
def xH.at(h:xH J v l)(hB:l[p]?=a_ B):∃k,v=.rs k (fm l).length 4 0 l.length/\J[k]?=a_ (.cells (fm l) bh)/\cA 4 v (p:Int)=a_ (.rp k (fm l).length (p*4))/\bA J bh 4 (.rp k (fm l).length (p*4))=a_ (b9 B):=by
 have cQ:=gl hB
 rcases h with⟨_,rfl⟩|⟨k,rfl,S⟩
 simp at hB;refine⟨k,rfl,S,Y1 cQ,?_⟩;have Y:=Pm hB;have V:=zL l;simp only[bA,S,if_true];unfold eZ;rw[if_pos rfl,if_pos aa,Y];rfl
@[go_sem]def xH.st{k}(S:J[k]?=a_ (.cells (fm l) bh))(cQ:p<l.length)(B):bL J 4 (.rp k (fm l).length (p*4)) (b9 B)=a_ (J.set k (.cells (fm (l.set p B)) bh)):=by
 have V:=zL l;simp only[bL,S,if_true,e5];have e1:(b9 B).cells=bY B:=rfl;rw[e1,if_pos ⟨rfl,aa,akS B⟩,Pn cQ]
end
def rowAt(v:bg)(j:Nat):Prop:=∃m l,v=.rs j m 4 0 l
def AF(v:bg)(j:Nat):Prop:=∃xs,v=.sl xs (.tok j)
structure gw(bz:Nat)(u v:bg)(J:List br)(u' v':bg)(bl:List br):Prop where
 len:J.length<=bl.length
 keep:∀(j:Nat) b,J[j]?=a_ b->j≠bz->¬rowAt v j->¬AF u j->bl[j]?=a_ b
 row:∀j,rowAt v' j->rowAt v j\/J.length<=j
 tok:∀j,AF u' j->AF u j\/J.length<=j
def gw.refl(bz)(u v)(J):gw bz u v J u v J:=⟨ck _,λ_ _ h _ _ _=>h,λ_ h=>bD h,λ_ h=>bD h⟩
def gw.trans{bz}{a b c a2 b2 c2}{x y z}(h:gw bz a2 a x b2 b y)(k:gw bz b2 b y c2 c z):gw bz a2 a x c2 c z:=by
 refine⟨gY h.len k.len,λj d hj Y V h3=>k.keep j d (h.keep j d hj Y V h3) Y (λq=>?_) (λq=>?_),λj q=>?_,λj q=>?_⟩;have:=gl hj
 rcases h.row j q with z|z
 exact V z;omega;have:=gl hj
 rcases h.tok j q with z|z
 exact h3 z;omega
 rcases k.row j q with z|z
 exact h.row j z;have:=h.len;right;omega
 rcases k.tok j q with z|z
 exact h.tok j z;have:=h.len;right;omega
def gw.app{bz}{u v}{J l}:gw bz u v J u v (J++l):=⟨af,λ_ _ h _ _ _=>bU h,λ_ h=>bD h,λ_ h=>bD h⟩
structure e8(bz:Nat)(z:List bg)(on cu:List Nat)(bx bv:bg)(J:List br):Prop where
 b:J[bz]?=a_ (.cells (bx::bv::z) bf)
 on:cV J bx (on.map b9) 4 151
 cu:xH J bv cu
def e8.ext{bz}{z}{on cu}{bx bv}{J bl}(h:e8 bz z on cu bx bv J)(S:∀(j:Nat) Z fz,J[j]?=a_ (.cells Z fz)->bl[j]?=a_ (.cells Z fz))(ht:∀(j:Nat) c,J[j]?=a_ (.tok c 4 151)->bl[j]?=a_ (.tok c 4 151)):e8 bz z on cu bx bv bl:=by
 refine⟨S _ _ _ h.b,?_,?_⟩
 rcases h.on with q|⟨id,q1,bt⟩
 exact bD q;exact bF ⟨id,q1,ht _ _ bt⟩
 rcases h.cu with q|⟨k,q1,bt⟩
 exact bD q;exact bF ⟨k,q1,S _ _ _ bt⟩
def o7(cu:List Nat)(N:Nat)(l:List Nat):List Nat:=l.foldl (λb p=>b.set p ((b[p]?.getD 0)|||N)) cu
def F6(N):∀(l cu),(o7 cu N l).length=cu.length
 |[],_=>rfl
 |p::r,cu=>by
  show(o7 (cu.set p _) N r).length=_;rw[F6 N r];simp
def azk(cu)(N)(l)(p):o7 cu N (l++[p])=(o7 cu N l).set p (((o7 cu N l)[p]?.getD 0)|||N):=by
 unfold o7;rw[List.foldl_append];rfl
def ajR{G}(cB:fS G){bz}{z}{on cu}{bx bv}{J}(h:e8 bz z on cu bx bv J)(A N)(hA:∀p,A.testBit p=bh->p<256->p<cu.length):
  cy G bE 226 [.mp bz 0,b9 A,b9 N] J λr bl=>e8 bz z on (o7 cu N (zE A)) bx bv bl/\gw bz bx bv J bx bv bl:=by
 refine aiS.go ?_;have tS:∀B,(b9 B).cells=bY B:=λB=>rfl;have la:bA (J++[.cells [.mp bz 0] bf]++[.cells (bY A) bf]++[.cells (bY N) bf]) bh 4 (.mp (J++[bw [.mp bz 0] bf]).length 0)=a_ (b9 A):=by
  simp only[bA,dU,en,fF (show J.length<=J.length+1 by omega),SW,eV,iP,k6,gV];rfl
 have gL:(cS bz 0).cells=[.mp bz 0]:=rfl;refine wy (cm (Kk A _) ?_);rintro _ g ⟨rfl,rfl⟩;refine wy ?_;rw[AH];refine⟨_,_,_,rfl,λk S bX ok hR=>?_⟩;generalize hH:J++[bw [cS bz 0] bf]++[bw (bY A) bf]++[bw (bY N) bf]++[bw (bY A) bf]++marks bf=H at S⊢;have aF5:H.length=J.length+5:=by rw[<-hH];simp[marks]
 have ext:∀(j) b,J[j]?=a_ b->H[j]?=a_ b:=λj b q=>by rw[<-hH];exact bU (bU (bU (bU (bU q))))
 have f3:H[J.length]?=a_ (.cells [.mp bz 0] bf):=by rw[<-hH];simp[marks]
 have f5:H[J.length+2]?=a_ (.cells (bY N) bf):=by rw[<-hH];simp[marks,dU]
 have f6:H[J.length+3]?=a_ (.cells (bY A) bf):=by rw[<-hH];simp[marks,dU]
 clear hH la;simp only[en,eV,iP,gF,nG,uF] at hR⊢;subst S;refine cm (Kl cB (Stop:=λ_=>False) (Inv:=λdone g=>g[H.length]?=a_ (.cc .ready bn bX #[9] ok)/\e8 bz z on (o7 cu N done) bx bv g/\g[J.length]?=a_ (.cells [.mp bz 0] bf)/\g[J.length+2]?=a_ (.cells (bY N) bf)/\gw bz bx bv J bx bv g) ?_ (bU f6) ⟨af,?_,bU f3,bU f5,?_⟩) ?_
 · rintro done p g ⟨hl,hN,g3,g5,hs⟩ O Qf
   refine hR [_] g _ rfl ⟨bn,hl⟩ ?_;have se:uq [(3,cS J.length 0),(5,cS (J.length+2) 0),(8,bg.fn (vM 109) [] [cS (J.length+3) 0])] (List.zip [9] [cU (xp dy (p))])=[(9,cU (xp dy (p))),(3,cS J.length 0),(5,cS (J.length+2) 0),(8,bg.fn (vM 109) [] [cS (J.length+3) 0])]:=rfl;rw[se];refine fj ?_;refine⟨⟨bn,hl⟩,λgq=>?_⟩;have cQ:p<(o7 cu N done).length:=by rw[F6];exact hA p O Qf
   obtain⟨B,hB⟩:=cO cQ;have auM:=gl hl;have ne:∀{j} {Z} {fz},g[j]?=a_ (.cells Z fz)->H.length≠j:=λq e=>by
    rw[<-e,hl] at q;cases q
   have Mm:∀{j c},g[j]?=a_ (.tok c 4 151)->H.length≠j:=λq e=>by
    rw[<-e,hl] at q;cases q
   have jo:e8 bz z on (o7 cu N done) bx bv (g.set H.length (.cc .busy gq bX #[9] ok)):=
    hN.ext (λj Z fz q=>aJf) λj c q=>aJg
   have bT:(g.set H.length (.cc .busy gq bX #[9] ok))[J.length]?=a_ (.cells [.mp bz 0] bf):=by rw[bC (ne g3)];exact g3
   have iO:(g.set H.length (.cc .busy gq bX #[9] ok))[J.length+2]?=a_ (.cells (bY N) bf):=by rw[bC (ne g5)];exact g5
   have oA:gw bz bx bv J bx bv (g.set H.length (.cc .busy gq bX #[9] ok)):=⟨by simpa using hs.len,λj b hj Y V h3=>by
    have:=gl hj;rw[bC aa];exact hs.keep j b hj Y V h3,hs.row,hs.tok⟩
   have jP:(g.set H.length (.cc .busy gq bX #[9] ok))[H.length]?=a_ (.cc .busy gq bX #[9] ok):=bV auM;generalize g.set H.length (.cc .busy gq bX #[9] ok)=g' at jo bT iO oA jP⊢;obtain⟨kb,hv,rQ,r1,r2⟩:=jo.cu.at hB;have s1:=xH.st rQ cQ (B|||N);have l3:=fe bT;have lb:bA g' bf 1 (.mp bz 1)=a_ bv:=by simp only[bA,jo.b];rfl
   have DL:bA g' bh 4 (.mp (J.length+2) 0)=a_ (b9 N):=by simp only[bA,iO];rfl
   refine vG @l3 @lb @r1 @r2 @DL @pZ.eq_1 @q2.eq_1 @true_and @and_true (gO (I1 B N) (cl (lP _) (cl (lP _) dK)) ?_);refine p6 @l3 @lb @r1 @s1 @td ?_;have arH:(o7 cu N (done++[p]))=(o7 cu N done).set p (B|||N):=by rw[azk,hB];rfl
   have Ae:kb≠bz:=by rintro rfl;rw[jo.b] at rQ;simp at rQ
   have Ig:kb≠H.length:=by rintro rfl;rw[jP] at rQ;cases rQ
   have auN:=gl rQ;have aF6:=gl jP;show(∃st pd,_=_)/\_;refine⟨⟨.busy,gq,by rw[bC Ig];exact jP⟩,bh,rfl,λ_=>⟨?_,?_,?_,?_,?_⟩,λq=>av⟩;rw[bV ah];rw[arH];refine⟨?_,?_,bF ⟨kb,?_,?_⟩⟩;rw[bC (by intro e;have:=jo.b;rw[<-e,jP] at this;cases this),bC Ae];exact jo.b
   rcases jo.on with q|⟨id,q1,bt⟩
   exact bD q;refine bF ⟨id,q1,?_⟩;rw[bC (by rintro rfl;rw[jP] at bt;cases bt),bC (by rintro rfl;rw[rQ] at bt;cases bt)];exact bt;rw[hv,zL,zL];simp;rw[bC (eW Ig),bV auN];rw[bC aa,bC (by rintro rfl;rw[bT] at rQ;simp at rQ)];exact bT;rw[bC aa,bC (by rintro rfl;rw[iO] at rQ;simp at rQ)];exact iO;refine⟨by simpa using oA.len,λj b hj Y V h3=>?_,λj q=>bD q,λj q=>bD q⟩;have:=gl hj;rw[bC aa,bC (by rintro rfl;exact V ⟨_,_,hv⟩)];exact oA.keep j b hj Y V h3
 refine h.ext (λj Z fz q=>bU (ext _ _ q)) λj c q=>bU (ext _ _ q);exact⟨ah,λj b q _ _ _=>bU (ext _ _ q),λj q=>bD q,λj q=>bD q⟩;rintro r g ⟨rfl,⟨hl,hN,g3,g5,hs⟩|hf⟩;refine⟨.ready,bn,hl,ag,?_⟩;refine eN @An.eq_1 ?_;rw[YW];intro g2 he;have ne:∀{j} {Z} {fz},g[j]?=a_ (.cells Z fz)->H.length≠j:=λq e=>by
  rw[<-e,hl] at q;cases q
 have Mm:∀{j c},g[j]?=a_ (.tok c 4 151)->H.length≠j:=λq e=>by
  rw[<-e,hl] at q;cases q
 have kp:∀(j:Nat) b,(∀o,b≠.obj o)->(g.set H.length (.cc .exhausted bn bX #[9] ok))[j]?=a_ b->g2[j]?=a_ b:=λj b O q=>by
  rcases he.2 j with z|⟨_,z,_⟩
  rw[z];exact q;rw[z] at q;cases q;exact absurd rfl (O _)
 refine wy ?_;refine⟨hN.ext (λj Z fz q=>kp j _ af aJf) (λj c q=>kp j _ af aJg),?_,λj b hj Y V h3=>?_,λj q=>bD q,λj q=>bD q⟩;rw[he.1];simpa using hs.len;have lz:=gl hj
 rcases he.2 j with z|⟨z,_,_⟩
 rw[z,bC aa];exact hs.keep j b hj Y V h3;omega;exact hf.elim
open Go.Proofs.YtgfjdechmbleeaaGreatDoor.gw renaming app->tw
def b5(F E:Nat)(e:Bool):List bg:=[dO (wd F 0),dO (wd F 1),dO (wd F 2),dO (wd F 3),dO (wd E 0),dO (wd E 1),dO (wd E 2),dO (wd E 3),e]
def kq(F E:Nat)(e:Bool):bg:=.agg (b5 F E e)
def z9:List bg:=[.v (.int .u64 0),.v (.int .u64 0),.v (.int .u64 0),.v (.int .u64 0),.v (.int .u64 0),.v (.int .u64 0),.v (.int .u64 0),.v (.int .u64 0),bf]
section
variable{X:List br}{m F E:Nat}{e:Bool}
@[go_sem]def ij(h:X[m]?=a_ (.cells (b5 F E e) bf)):bA X bh 4 (.mp m 0)=a_ (b9 F)/\bA X bh 4 (.mp m 4)=a_ (b9 E)/\bA X bf 1 (.mp m 8)=a_ (.v (.bool e))/\bA X bh 9 (.mp m 0)=a_ (kq F E e):=by
 simp only[bA,h];exact⟨rfl,rfl,rfl,rfl⟩
@[go_sem]def Yt(h:X[m]?=a_ (.cells (b5 F E e) bf))(F'):bL X 4 (.mp m 0) (b9 F')=a_ (X.set m (.cells (b5 F' E e) bf)):=by
 simp only[bL,h];rfl
@[go_sem]def Yu(h:X[m]?=a_ (.cells (b5 F E e) bf))(E'):bL X 4 (.mp m 4) (b9 E')=a_ (X.set m (.cells (b5 F E' e) bf)):=by
 simp only[bL,h];rfl
@[go_sem]def ak_(h:X[m]?=a_ (.cells (b5 F E e) bf))(e'):bL X 1 (.mp m 8) (.v (.bool e'))=a_ (X.set m (.cells (b5 F E e') bf)):=by
 simp only[bL,h];rfl
@[go_sem]def w6(h:X[m]?=a_ (.cells z9 bf))(F' E')(e'):bL X 9 (.mp m 0) (kq F' E' e')=a_ (X.set m (.cells (b5 F' E' e') bf)):=by
 simp only[bL,h];rfl
@[go_sem]def ME(h:X[m]?=a_ (.cells (b5 F E e) bf))(F' E')(e'):bL X 9 (.mp m 0) (kq F' E' e')=a_ (X.set m (.cells (b5 F' E' e') bf)):=by
 simp only[bL,h];rfl
end
def gw.own{bz}{u v u' v'}{J bl}(h:gw bz u v J u' v' bl){j}{Z}{fz}(hj:J[j]?=a_ (.cells Z fz))(Y:j≠bz)(V:¬rowAt v j)(h3:¬AF u j):bl[j]?=a_ (.cells Z fz):=h.keep j _ hj Y V h3
def On{J}{v}{xs}{n}{e}(h:cV J v xs n e){j}(hj:J.length<=j):¬AF v j:=λ⟨ys,e⟩=>by
 rcases h with⟨q,_⟩|⟨id,q,S⟩
 rw[q] at e;cases e;rw[q] at e;have:=gl S;cases e;omega
def xH.low{J}{v}{l}(h:xH J v l){j}(hj:J.length<=j):¬rowAt v j:=λ⟨m,n,e⟩=>by
 rcases h with⟨q,_⟩|⟨k,q,S⟩
 rw[q] at e;cases e;rw[q] at e;have:=gl S;cases e;omega
def gw.gX{bz}{u v u' v'}{J bl}{j}{x}(h:gw bz u v J u' v' bl)(hj:J.length<=j):gw bz u v J u' v' (bl.set j x):=⟨by simpa using h.len,λi b Q Y V h3=>by
 have:=gl Q;rw[bC aa];exact h.keep i b Q Y V h3,h.row,h.tok⟩
def e8.gX{bz}{z}{on cu}{bx bv}{J}{j}{Z cs'}(h:e8 bz z on cu bx bv J)(hj:J[j]?=a_ (.cells Z bf))(S:j≠bz):e8 bz z on cu bx bv (J.set j (.cells cs' bf)):=by
 refine⟨by rw[bC S];exact h.b,?_,?_⟩
 rcases h.on with q|⟨id,q1,bt⟩
 exact bD q;refine bF ⟨id,q1,?_⟩;rw[bC (by rintro rfl;rw[hj] at bt;cases bt)];exact bt
 rcases h.cu with q|⟨k,q1,bt⟩
 exact bD q;refine bF ⟨k,q1,?_⟩;rw[bC (by rintro rfl;rw[hj] at bt;simp at bt)];exact bt
def e8.app{bz}{z}{on cu}{bx bv}{J x}(h:e8 bz z on cu bx bv J):e8 bz z on cu bx bv (J++x):=h.ext (λ_ _ _ q=>bU q) λ_ _ q=>bU q
def Qw{G}(cB:fS G){bz}{z}{on cu}{bx bv}{J}(h:e8 bz z on cu bx bv J)(gh kn jO gi)(ae be)(hA:∀p,kn.testBit p=bh->p<256->p<cu.length):
  cy G bE 181 [.mp bz 0,kq gh kn ae,kq jO gi be] J λr bl=>r=kq (if ae then gh|||jO else gh) (if be then gi|||kn else gi) (ae&&be)/\e8 bz z on (o7 cu jO (zE kn)) bx bv bl/\gw bz bx bv J bx bv bl:=by
 refine aiv.go ?_;have tS:∀F E e,(kq F E e).cells=b5 F E e:=λF E e=>rfl;have eS:=gl h.b;have Y:e8 bz z on cu bx bv (J++[.cells (b5 gh kn ae) bf]++[.cells (b5 jO gi be) bf]++[.cells z9 bf]):=h.app.app.app;have s1:gw bz bx bv J bx bv (J++[.cells (b5 gh kn ae) bf]++[.cells (b5 jO gi be) bf]++[.cells z9 bf]):=(tw.trans tw).trans tw;have m4:(J++[.cells (b5 gh kn ae) bf]++[.cells (b5 jO gi be) bf]++[bw z9 bf])[J.length]?=a_ (.cells (b5 gh kn ae) bf):=af
 have m5:(J++[.cells (b5 gh kn ae) bf]++[.cells (b5 jO gi be) bf]++[bw z9 bf])[J.length+1]?=a_ (.cells (b5 jO gi be) bf):=aHN
 have m6:(J++[.cells (b5 gh kn ae) bf]++[.cells (b5 jO gi be) bf]++[bw z9 bf])[J.length+2]?=a_ (.cells z9 bf):=aHN
 generalize hg:J++[.cells (b5 gh kn ae) bf]++[.cells (b5 jO gi be) bf]++[bw z9 bf]=g at Y s1 m4 m5 m6;unfold z9 at hg;refine Cc @en.{0} ((ij m4).2.1) ((ij m5).1) ?_;refine cm (ajR cB Y kn jO hA) ?_;rintro r g2 ⟨V,s2⟩;have ie:=s2.own m4 aa (h.cu.low (ck _)) (On h.on (ck _));have jt:=s2.own m5 aa (h.cu.low aa) (On h.on aa);have DT:=s2.own m6 aa (h.cu.low aa) (On h.on aa);obtain⟨a0,a1,a2,a3⟩:=ij ie;obtain⟨b0,b1,b2,b3⟩:=ij jt;have hs:=s1.trans s2;have kH:g.length=J.length+3:=by rw[<-hg];simp
 have lu:J.length+3<=g2.length:=by have:=s2.len;omega
 have h3:e8 bz z on (o7 cu jO (zE kn)) bx bv (g2++[.cells (b5 gh gi (ae&&be)) bf]):=V.app;have wP:gw bz bx bv J bx bv (g2++[.cells (b5 gh gi (ae&&be)) bf]):=hs.trans tw;have iE:bL (g2++[.cells z9 bf]) 9 (.mp g2.length 0) (.agg (b5 gh gi (ae&&be)))=a_ (g2++[.cells (b5 gh gi (ae&&be)) bf]):=by
  have:=w6 (X:=g2++[.cells z9 bf]) (m:=g2.length) af gh gi (ae&&be);unfold kq at this;rw[this];simp
 unfold z9 at iE;have mC:(g2++[bw (b5 gh gi (ae&&be)) bf])[J.length]?=a_ (.cells (b5 gh kn ae) bf):=bU ie;have pU:(g2++[bw (b5 gh gi (ae&&be)) bf])[J.length+1]?=a_ (.cells (b5 jO gi be) bf):=bU jt;have uh:(g2++[bw (b5 gh gi (ae&&be)) bf])[J.length+2]?=a_ (.cells z9 bf):=bU DT;have uj:(g2++[bw (b5 gh gi (ae&&be)) bf])[g2.length]?=a_ (.cells (b5 gh gi (ae&&be)) bf):=af
 generalize g2++[bw (b5 gh gi (ae&&be)) bf]=X at h3 wP iE mC pU uh uj;generalize hm:g2.length=m at iE uj lu⊢;have Bv:m≠bz:=aa
 have Sq:∀(X) (F E F' E') (c),e8 bz z on (o7 cu jO (zE kn)) bx bv X->gw bz bx bv J bx bv X->X[J.length]?=a_ (.cells (b5 gh kn ae) bf)->X[J.length+1]?=a_ (.cells (b5 jO gi be) bf)->X[J.length+2]?=a_ (.cells z9 bf)->X[m]?=a_ (.cells (b5 F E c) bf)->
   e8 bz z on (o7 cu jO (zE kn)) bx bv (X.set m (.cells (b5 F' E' c) bf))/\gw bz bx bv J bx bv (X.set m (.cells (b5 F' E' c) bf))/\(X.set m (.cells (b5 F' E' c) bf))[J.length]?=a_ (.cells (b5 gh kn ae) bf)/\(X.set m (.cells (b5 F' E' c) bf))[J.length+1]?=a_ (.cells (b5 jO gi be) bf)/\(X.set m (.cells (b5 F' E' c) bf))[J.length+2]?=a_ (.cells z9 bf)/\(X.set m (.cells (b5 F' E' c) bf))[m]?=a_ (.cells (b5 F' E' c) bf):=λX F E F' E' c x1 x2 x3 p7 uA q8=>
  ⟨x1.gX q8 Bv,x2.gX aa,by rw[bC aa];exact x3,by rw[bC aa];exact p7,by rw[bC aa];exact uA,bV (gl q8)⟩
 have fin:∀(X) (F E) (c),e8 bz z on (o7 cu jO (zE kn)) bx bv X->gw bz bx bv J bx bv X->X[J.length+2]?=a_ (.cells z9 bf)->X[m]?=a_ (.cells (b5 F E c) bf)->
   ∃xK,bA X bh 9 (.mp m 0)=a_ (kq F E c)/\bL X 9 (.mp (J.length+2) 0) (kq F E c)=a_ xK/\bA xK bh 9 (.mp (J.length+2) 0)=a_ (kq F E c)/\e8 bz z on (o7 cu jO (zE kn)) bx bv xK/\gw bz bx bv J bx bv xK:=λX F E c x1 x2 uA q8=>
  ⟨_,(ij q8).2.2.2,w6 uA F E c,(ij (bV (gl uA))).2.2.2,x1.gX uA aa,x2.gX aa⟩
 have f2:∀c:Bool,dH [.v (.int .u64 0),.v (.int .u64 0),.v (.int .u64 0),.v (.int .u64 0),.v (.int .u64 0),.v (.int .u64 0),.v (.int .u64 0),.v (.int .u64 0),bf] [(0,4,b9 gh),(4,4,b9 gi),(8,1,c)]=a_ (b5 gh gi c):=λc=>rfl;obtain⟨iN,p1,p2,p3⟩:=ij mC;obtain⟨bS,r1,r2,jk⟩:=ij pU;obtain⟨t0,t1,t2,t3⟩:=ij uj;have Rn:=λA B=>I1 (G:=G) A B;cases ae<;>cases be;obtain⟨xK,y1,fK,lI,Ef,GM⟩:=fin X gh gi bf h3 wP uh uj;have R5:bL _ 9 (.mp m 0) (.agg (b5 gh gi bf))=a_ X:=iE;refine oH (fH @a0 @a1 @a2 @a3) (fH @b0 @b1 @b2 @b3) (fH @f2 @hm @R5 @iN) (fH @p1 @p2 @bS @r1) (fH @r2 @t0 @t1 @y1) @fK @lI ?_;exact⟨rfl,Ef,GM⟩;have R5:bL _ 9 (.mp m 0) (.agg (b5 gh gi bf))=a_ X:=iE;obtain⟨x1,x2,x3,p7,uA,q8⟩:=Sq X gh gi gh (gi|||kn) bf h3 wP mC pU uh uj;have yP:=Yu uj (gi|||kn);obtain⟨xK,y1,fK,lI,Ef,GM⟩:=fin _ _ _ bf x1 x2 uA q8;refine wy (gO (Rn gi kn) (cl (lP _) (cl (lP _) dK)) ?_);have Nf:bL X 4 (.mp m 4) (b9 (gi|||kn))=a_ (X.set m (.cells (b5 gh (gi|||kn) bf) bf)):=yP;refine l5 @Nf @y1 @fK @lI ?_;exact⟨rfl,Ef,GM⟩;have R5:bL _ 9 (.mp m 0) (.agg (b5 gh gi bf))=a_ X:=iE;obtain⟨x1,x2,x3,p7,uA,q8⟩:=Sq X gh gi (gh|||jO) gi bf h3 wP mC pU uh uj;have Nf:bL X 4 (.mp m 0) (b9 (gh|||jO))=a_ (X.set m (.cells (b5 (gh|||jO) gi bf) bf)):=Yt uj (gh|||jO);obtain⟨xK,y1,fK,lI,Ef,GM⟩:=fin _ _ _ bf x1 x2 uA q8;obtain⟨q6,u1,u2,u3⟩:=ij p7;refine wy (gO (Rn gh jO) (cl (lP _) (cl (lP _) dK)) ?_);refine p5 @Nf @u2 @y1 @fK @lI ?_;exact⟨rfl,Ef,GM⟩;have R5:bL _ 9 (.mp m 0) (.agg (b5 gh gi bh))=a_ X:=iE;obtain⟨x1,x2,x3,p7,uA,q8⟩:=Sq X gh gi (gh|||jO) gi bh h3 wP mC pU uh uj;have Nf:bL X 4 (.mp m 0) (b9 (gh|||jO))=a_ (X.set m (.cells (b5 (gh|||jO) gi bh) bf)):=Yt uj (gh|||jO);obtain⟨q6,u1,u2,u3⟩:=ij p7;obtain⟨q0,q1,bt,bT⟩:=ij x3;obtain⟨i0,i1,i2,i3⟩:=ij q8;refine wy (gO (Rn gh jO) (cl (lP _) (cl (lP _) dK)) ?_);have aEA:bL (X.set m (.cells (b5 (gh|||jO) gi bh) bf)) 4 (.mp m 4) (b9 (gi|||kn))=a_ ((X.set m (.cells (b5 (gh|||jO) gi bh) bf)).set m (.cells (b5 (gh|||jO) (gi|||kn) bh) bf)):=Yu q8 (gi|||kn);obtain⟨v1,v2,v3,v4,v5,v6⟩:=Sq _ _ _ (gh|||jO) (gi|||kn) bh x1 x2 x3 p7 uA q8;obtain⟨xK,y1,fK,lI,Ef,GM⟩:=fin _ _ _ bh v1 v2 v5 v6;refine wy (gO (Rn gi kn) (cl (lP _) (cl (lP _) dK)) ?_);refine l5 @aEA @y1 @fK @lI ?_;exact⟨rfl,Ef,GM⟩
def cM.many(p:cM):Nat:=(if p.high<0 then(if(1:Int)>p.low then 1 else p.low) else p.high).toNat
def qi(ps:List cM):Nat->Int->Nat
 |0,_=>0
 |f+1,i=>match ps[i.toNat]? with
  |none=>0
  |some p=>if p.kind=1 then 1 else(if p.kind=4 then p.many else 1)*(p.kids.map λk=>qi ps f k).sum
def are{ps}(h:qF ps):∀(n f g) (i),i.toNat<n->i.toNat<f->i.toNat<g->qi ps f i=qi ps g i:=by
 intro n
 induction n with
 |zero=>intro f g i h0;omega
 |succ n ih=>
  intro f g i h0 Y V;obtain⟨f,rfl⟩:∃f',f=f'+1:=⟨f-1,aa⟩;obtain⟨g,rfl⟩:∃g',g=g'+1:=⟨g-1,aa⟩;unfold qi;cases J:ps[i.toNat]? with
  |none=>rfl
  |some p=>
   dsimp only;have e:(p.kids.map λk=>qi ps f k)=p.kids.map λk=>qi ps g k:=AU λk S=>by
    have:=(h _ p J).2 k S;exact ih f g k aa aa aa
   rw[e]
def cnt(ps:List cM)(i:Int):Nat:=qi ps (i.toNat+1) i
def Uq{ps}(h:qF ps){i:Nat}{p}(J:ps[i]?=a_ p):cnt ps (i)=if p.kind=1 then 1 else(if p.kind=4 then p.many else 1)*(p.kids.map λk=>cnt ps k).sum:=by
 show qi ps (i+1) (i)=_;unfold qi;rw[xu,J];dsimp only;have e:(p.kids.map λk=>qi ps i k)=p.kids.map λk=>cnt ps k:=AU λk S=>by
  have:=(h _ p J).2 k S;exact are h (i+1) i (k.toNat+1) k aa aa aa
 rw[e]
@[go_sem]def IN(a b:Nat):rD bf [(a:Int),(257:Int)]=a_ (.v (.int .i64 ((min a 257:Nat):Int))):=by
 show a_ (cU (.int .i64 (if(257:Int)<(a) then 257 else(a))))=_;congr 3;split<;>omega
def aAZ{G}{v}{ps}(h:sH v ps):∀(n i),i<n->i<ps.length->dL G bE 115 [v,(i:Int)] ((min (cnt ps (i)) 257:Nat):Int):=by
 intro n
 induction n with
 |zero=>intro i Q;omega
 |succ n ih=>
  intro i Q hl;obtain⟨p,eD⟩:=cO hl;have lA:=h.ok i p eD;have o4:=h.no p (cE eD);have j8:=lA.kids;have T:=Uq h.ok eD;refine gr (ahT.go ?_);have e1:cA 5 v (i:Int)=a_ (.fp p.cells 0):=h.v.cI (x:=p.bN) aIB rfl;have e2:∀J,bA J bh 5 (.fp p.cells 0)=a_ (.agg p.cells):=λJ=>rfl;have s1:=yI [] p;rw[gV,gV] at s1;have z0:([]:List br).length=0:=rfl;rw[z0] at s1;have l0:bA [.cells p.cells bf] bf 1 (.mp 0 0)=a_ (.v (.int .i64 p.kind)):=rfl;have l1:bA [.cells p.cells bf] bf 1 (.mp 0 1)=a_ (.v (.int .i64 p.low)):=rfl;have l2:bA [.cells p.cells bf] bf 1 (.mp 0 2)=a_ (.v (.int .i64 p.high)):=rfl;have l4:bA [.cells p.cells bf] bf 1 (.mp 0 4)=a_ p.kv:=rfl;have lk:=yj o4 (gY j8 ag);refine wy (cL (λq=>?_) λq=>?_);have q':p.kind=1:=an
  rw[T,if_pos q'];exact wy ((bH _).done);have q':p.kind≠1:=an
  rw[if_neg q'] at T;refine wy ?_;refine dx (λj e J=>e=[(0,v),(5,.mp 0 0),(6,((min ((p.kids.take j).map λk=>cnt ps k).sum 257:Nat):Int)),(18,p.kv),(19,bq p.kids.length),(20,bq j)]/\J=[.cells p.cells bf]) p.kids.length ⟨rfl,rfl⟩ ?_ ?_;rintro j e J hj ⟨rfl,rfl⟩;obtain⟨x,I⟩:=cO hj;obtain⟨x0,x1⟩:=lA.2 x (cE I);obtain⟨xn,rfl⟩:=oI x0;obtain⟨pk,k1,k2⟩:=(F0 p [.cells p.cells bf]).get I;have xk:=yJ (f:=λx=>cnt ps x) I;have m1:=IN (min ((p.kids.take j).map λk=>cnt ps k).sum 257+min (cnt ps (xn)) 257) 0;have nq:min (min ((p.kids.take j).map λk=>cnt ps k).sum 257+min (cnt ps (xn)) 257) 257=min ((p.kids.take (j+1)).map λk=>cnt ps k).sum 257:=by rw[xk];omega
  refine wy (gO (ih xn aa aa) (cl (EX h) (cl (dz _) dK)) ?_);refine wx ?_
  first
   |exact⟨rfl,trivial⟩
   |exact⟨rfl,rfl⟩
  rintro e J ⟨rfl,rfl⟩;rw[sy];refine wy ?_;generalize(p.kids.map λk=>cnt ps k).sum=hk at T⊢;refine cL (λfh=>?_) λfh=>?_;have BW:p.kind=4:=aIb
  rw[if_pos BW] at T;have O:0<=p.low/\p.low<=20/\(p.high= -1\/(1<=p.high/\p.high<=20)):=by
   rcases lA.1 with z|z|z
   omega;omega;omega
  have m0:rD bh [p.low,(1:Int)]=a_ (.v (.int .i64 (if(1:Int)>p.low then 1 else p.low))):=rfl;have oZ:1<=p.many/\p.many<=20:=by
   unfold cM.many;constructor<;>(split<;>(try split))<;>omega
  have avh:min hk 257*p.many<=257*20:=Nat.mul_le_mul (Nat.min_le_right _ _) oZ.2;have w1:dy.wrap (((min hk 257:Nat):Int)*(p.many:Int))=((min hk 257*p.many:Nat):Int):=by
   rw[<-Int.natCast_mul,gN aa aa]
  have nq:min (min hk 257*p.many) 257=min (p.many*hk) 257:=by
   rcases Nat.le_total hk 257 with z|z
   rw[JR z,aaK];have V:257*p.many<=p.many*hk:=aIX
   rw[Nat.min_eq_right z];omega
  have m1:=IN (min hk 257*p.many) 0;rw[nq] at m1;rw[T];refine wy (cL (λiO=>?_) λiO=>?_);have E7:(if(1:Int)>p.low then 1 else p.low)=(p.many:Int):=by
   have:p.high<0:=by simpa using iO
   unfold cM.many;rw[if_pos this];split<;>omega
  rw[E7] at m0;exact wy ((bH _).done);have E7:p.high=(p.many:Int):=by
   have:¬p.high<0:=by simp at iO;omega
   unfold cM.many;rw[if_neg this];omega
  rw[E7];exact wy ((bH _).done);have BW:p.kind≠4:=aIb
  rw[if_neg BW,Ex] at T;rw[T];exact wy ((bH _).done)
@[go_sem]def Mx(B):c8 4 [b9 B]=bh:=rfl
@[go_sem]def Rk(l:List Nat):c8 4 (l.map b9)=bh:=by
 rw[c8,eO];intro x I;obtain⟨t,ht,rfl⟩:=dZ.1 I;rfl
@[go_sem]def TC(B):e9 4 [b9 B]=a_ (.sl [b9 B] .exact):=rfl
section
variable{bz:Nat}{z:List bg}{on cu:List Nat}{bx bv:bg}{J:List br}
@[go_sem]def e8.qy(h:e8 bz z on cu bx bv J){w}(hw:cr w=bh):bL J 1 (.mp bz 0) w=a_ (J.set bz (.cells (w::bv::z) bf)):=by
 have eL:w.cells=[w]:=aIr
 simp only[bL,h.b,e5,eL];simp[hw,dN]
@[go_sem]def e8.iE(h:e8 bz z on cu bx bv J){w}(hw:cr w=bh):bL J 1 (.mp bz 1) w=a_ (J.set bz (.cells (bx::w::z) bf)):=by
 have eL:w.cells=[w]:=aIr
 simp only[bL,h.b,e5,eL];simp[hw,dN]
@[go_sem]def e8.Xn(h:e8 bz z on cu bx bv J):bA J bf 1 (.mp bz 0)=a_ bx:=aS
@[go_sem]def e8.ajI(h:e8 bz z on cu bx bv J):bA J bf 1 (.mp bz 1)=a_ bv:=aS
@[go_sem]def e8.ay9(h:e8 bz z on cu bx bv J):∀g,cN bx g=a_ (.v (.int .i64 (on.length:Int)),g):=λg=>by
 rcases h.on with⟨rfl,e⟩|⟨id,rfl,_⟩
 have:on=[]:=aIW
 subst this;rfl;simp[qq,goInt]
def e8.aBa(h:e8 bz z on cu bx bv J)(hn:on.length<=100000)(B):∃cR g g',eu J 4 32 151 bx (.sl [b9 B] .exact)=a_ (cR,g)/\bL g 1 (.mp bz 0) cR=a_ g'/\e8 bz z (on++[B]) cu cR bv g'/\gw bz bx bv J cR bv g':=by
 obtain⟨cj,g,e1,hA,bR,bK,S⟩:=ni (b6:=32) h.on (Rk on) (Mx B) ag ag ah;have ig:∀{j} {Z} {fz},J[j]?=a_ (.cells Z fz)->∀xs,bx≠.sl xs (.tok j):=λ{j Z fz} q xs e=>by
  rcases h.on with⟨q1,_⟩|⟨id,q1,bt⟩
  rw[q1] at e;cases e;rw[q1] at e;cases e;rw[q] at bt;cases bt
 have kb:g[bz]?=a_ (.cells (bx::bv::z) bf):=S _ _ h.b (ig h.b)
 have ho:cr cj=bh:=az
 have eL:cj.cells=[cj]:=aIk
 have s1:bL g 1 (.mp bz 0) cj=a_ (g.set bz (.cells (cj::bv::z) bf)):=by
  simp only[bL,kb,e5,eL];simp[ho,dN]
 refine⟨cj,g,_,e1,s1,⟨bV (gl kb),?_,?_⟩,⟨by simpa using bK,λj b hj Y V h3=>?_,λj q=>bD q,λj ⟨xs,q⟩=>?_⟩⟩;rw[gQ]
 rcases hA with q|⟨id,q1,bt⟩
 exact bD q;refine bF ⟨id,q1,?_⟩;rw[bC (by rintro rfl;rw[kb] at bt;cases bt)];exact bt
 rcases h.cu with q|⟨k,q1,bt⟩
 exact bD q;refine bF ⟨k,q1,?_⟩;rw[bC (by rintro rfl;rw[h.b] at bt;simp at bt)];exact S _ _ bt (ig bt);rw[bC (eW Y)];exact S j b hj λxs e=>h3 ⟨xs,e⟩
 rcases d_ j J.length with hj|hj
 left
 rcases h.on with⟨q1,bt⟩|⟨id,q1,bt⟩
 subst q1;have:on=[]:=aX
 subst this;have Ux:eu J 4 32 151 .bp (.sl [b9 B] .exact)=a_ (.sl [b9 B] (.tok J.length),J++[.tok 1 4 151]):=rfl;rw[Ux] at e1;cases e1;cases q;omega;subst q1;have hfit:((on.map b9).length+1)*32<=140737488355328:=ah
 have Ux:eu J 4 32 151 (.sl (on.map b9) (.tok id)) (.sl [b9 B] .exact)=a_ (.sl (on.map b9++[b9 B]) (.tok id),J.set id (.tok ((on.map b9).length+1) 4 151)):=by
  have Y:=Mx B;have V:=Rk on;have h3:¬([b9 B]=([]:List bg)):=af
  simp only[eu,gZ,iY,iK,Y,V,h3,if_false,and_self,AY,if_true,true_and,bt,eV,iP,gF];rw[if_pos hfit]
 rw[Ux] at e1;cases e1;cases q;exact⟨_,rfl⟩;exact bF hj
def e8.aA9(h:e8 bz z on cu bx bv J)(hn:cu.length<=100000)(B):∃cT g g',qG J 4 32 151 bv (.sl [b9 B] .exact)=a_ (cT,g)/\bL g 1 (.mp bz 1) cT=a_ g'/\e8 bz z on (cu++[B]) bx cT g'/\gw bz bx bv J bx cT g'/\∀(j:Nat) Z,J[j]?=a_ (.cells Z bf)->g[j]?=a_ (.cells Z bf):=by
 have eS:=gl h.b
 rcases h.cu with⟨rfl,rfl⟩|⟨k,rfl,S⟩
 have Y:e8 bz z on [] bx .bp (J++[.cells (bY B) bh]):=h.app;refine⟨.rs J.length 4 4 0 1,J++[.cells (bY B) bh],_,rfl,Y.iE rfl,⟨bV ah,?_,bF ⟨J.length,rfl,?_⟩⟩,⟨af,λj b hj Y V h3=>?_,λj ⟨m,l,q⟩=>?_,λj q=>bD q⟩,λj Z q=>bU q⟩
 rcases Y.on with q|⟨id,q1,bt⟩
 exact bD q;refine bF ⟨id,q1,?_⟩;rw[bC (by rintro rfl;rw[Y.b] at bt;cases bt)];exact bt;rw[bC aa];show(J++[bw (bY B) bh])[J.length]?=a_ (.cells (bY B++[]) bh);simp;rw[bC (eW Y)];exact bU hj;cases q;exact bF (ck _);have hl:=gl S;have Ae:k≠bz:=by rintro rfl;rw[h.b] at S;simp at S
 have x6:=zL cu;have b7:mE (fm cu) (cu.length*4) (ey [b9 B])=fm (cu++[B]):=by
  have hf:ey [b9 B]=bY B:=rfl;unfold mE;rw[hf,aey,n6 aa,vO aa,hJ];show _=fm cu++(bY B++[]);rw[hJ]
 have e1:qG J 4 32 151 (.rs k (fm cu).length 4 0 cu.length) (.sl [b9 B] .exact)=a_ (.rs k (fm (cu++[B])).length 4 0 (cu++[B]).length,J.set k (.cells (fm (cu++[B])) bh)):=by
  show gZ J 4 32 151 (.rs k (fm cu).length 4 0 cu.length) (.sl [b9 B] .exact)=_;have Y:=Mx B;have h3:¬([b9 B]=([]:List bg)):=af
  simp only[gZ,iK,iY,Y,h3,if_false,and_self,AY,if_true,true_and,S,eV,iP,b7];rw[if_pos aa];simp
 have hb':(J.set k (.cells (fm (cu++[B])) bh))[bz]?=a_ (.cells (bx:: .rs k (fm cu).length 4 0 cu.length::z) bf):=by rw[bC Ae];exact h.b
 have s1:bL (J.set k (.cells (fm (cu++[B])) bh)) 1 (.mp bz 1) (.rs k (fm (cu++[B])).length 4 0 (cu++[B]).length)=a_ ((J.set k (.cells (fm (cu++[B])) bh)).set bz (.cells (bx:: .rs k (fm (cu++[B])).length 4 0 (cu++[B]).length::z) bf)):=by
  simp only[bL,hb',e5];simp[jy,cr,dN]
 refine⟨_,_,_,e1,s1,⟨bV ah,?_,bF ⟨k,rfl,?_⟩⟩,⟨af,λj b hj Y V h3=>?_,λj ⟨m,l,q⟩=>?_,λj q=>bD q⟩,λj Z q=>by rw[bC (by rintro rfl;rw[S] at q;simp at q)];exact q⟩
 rcases h.on with q|⟨id,q1,bt⟩
 exact bD q;refine bF ⟨id,q1,?_⟩;rw[bC (by rintro rfl;rw[h.b] at bt;cases bt),bC (by rintro rfl;rw[S] at bt;cases bt)];exact bt;rw[bC (eW Ae),bV hl];rw[bC (eW Y),bC (by rintro rfl;exact V ⟨_,_,rfl⟩)];exact hj;cases q;exact bD ⟨_,_,rfl⟩
end
end Go.Proofs.YtgfjdechmbleeaaGreatDoor

/- Part 7 of a proof. No condition. -/
import Derived.Test.YtkpjaeffojibmaaGreatDoorZ6
set_option linter.unusedVariables false
set_option linter.unusedSimpArgs false
set_option linter.defProp false
open BitVec renaming ofInt->CN
open Bool renaming and_eq_true->fQ,false->bf,false_and->CO,false_eq_true->ke,true->bh
open Go.bM.bg renaming agg->dG,cells->jK,mp->cD,one->cr,v->cI
open Go.bM.br renaming cells->bw
open Go.bM.s5 renaming mk->cN
open Go.bM.cq renaming mono->ck,pu->dX,ZE->ei,pure->hU,aDt->jy
open Go.bM.jM renaming mono->vb
open Go.bM renaming Clean->eM
open Go.bM.b7 renaming agg->kf,bp->ez,sl->gU,bQ->fB,v->bH
open Go.bM.fm renaming append->Bo,cons->bG,map->iC,nil->cX
open Go.bM.hc renaming arC->wF,node->qz,text->j3
open Go.bM.cV renaming bA->nY,bare->Hy
open Go.Fn renaming func->qA
open Go.IntKind renaming i64->de,u64->HA
open Go.Lib renaming ctz->E1
open Go.Proofs.Tryz renaming aeg->apL,prog->bC,aoC->apR
open Go.Proofs.YtkpjaeffojibmaaGreatDoor.mC renaming set->Ku
open Go.Proofs.YtkpjaeffojibmaaGreatDoor.cP renaming bA->rY,cells->q7
open Go.Proofs.YtkpjaeffojibmaaGreatDoor.dF renaming bA->mT,cells->iD
open Go.Value renaming int->ye
open Int renaming eq_ofNat_of_zero_le->o8,le_refl->CS,toNat_natCast->yf
open List renaming all_cons->pY,all_eq_true->eP,all_nil->sY,append_assoc->dR,append_nil->gd,cons_append->lY,drop_drop->yg,drop_length_add_append->apZ,drop_of_length_le->sZ,drop_take->Kw,drop_zero->o9,ext_getElem?->E5,getElem?_append_left->fT,getElem?_append_right->fY,getElem?_cons_succ->yj,getElem?_cons_zero->nA,getElem?_drop->s0,getElem?_eq_getElem->cz,getElem?_eq_none->jU,getElem?_eq_some_iff->cL,getElem?_map->fR,getElem?_set_ne->bD,getElem?_set_self->bU,getElem?_take_of_lt->CT,getElem_mem->abL,length->Ky,length_append->ec,length_cons->eW,length_drop->tX,length_eq_one_iff->E6,length_map->cM,length_nil->hY,length_singleton->pZ,length_take->p0,map_append->gf,map_congr_left->Bv,map_cons->fG,map_map->yl,map_nil->lu,mem_append->gj,mem_cons->fS,mem_map->eg,mem_of_getElem?->cG,mem_singleton->dP,nil_append->gN,not_mem_nil->p4,replicate->fo,replicate_succ->ap6,sum_append->aqa,sum_cons->zQ,sum_nil->HJ,takeWhile_cons->aqb,take_add_one->wH,take_append_drop->OP,take_append_of_le_length->aqc,take_left'->T7,take_length->n3,take_length_add_append->aHA,take_of_length_le->mA
open Nat renaming add_assoc->n5,add_sub_cancel_left->T9,eq_of_testBit_eq->aqd,le_refl->cj,le_trans->h_,lt_or_ge->en,lt_succ_self->CW,min_eq_left->CX,mul_comm->abQ,one_mul->E7,reduceAdd->ve,sub_self->mU,testBit_and->aqf,testBit_or->Ua,testBit_two_pow->abR,zero_add->gk,zero_le->js,zero_lt_succ->wN
open Ne renaming symm->eX
open Option renaming bind_some->lz,isSome_none->Bx,map->E9,map_some->j4,none->bn,some->a_
open Or renaming inl->bE,inr->bF
namespace Go.Proofs.YtkpjaeffojibmaaGreatDoor
open Go Go.bM Go.RowKit
section
variable{G:Cells}{k a:Nat}{l:List dF}{v pv lv:bg}{ps dw:List cP}{w:Bool}{J h:List br}
def RN{a}{c}(q:(xK l a==c)=bh)(T:c≠0):∃y,l[a]?=a_ y/\y.kind=c:=by
 unfold xK at q;cases hy:l[a]? with
 |none=>rw[hy] at q;simp at q;omega
 |some y=>rw[hy] at q;exact⟨y,rfl,ak⟩
def aFb{a}(fM:∀x∈l,x.dA)(q:(xK l a==5)=bh):∃y,l[a]?=a_ y/\y.kind=5/\0<=y.low/\y.low<=20/\(y.high= -1\/(1<=y.high/\y.high<=20/\y.low<=y.high)):=by
 obtain⟨y,hy,S⟩:=RN q ag;refine⟨y,hy,S,?_⟩
 rcases(fM y (cG hy)).2 with z|z|z
 omega;omega;exact⟨z.2.2.1,z.2.2.2.1,z.2.2.2.2⟩
def aE_{a}(fM:∀x∈l,x.dA)(q:(xK l a==1)=bh):∃y,l[a]?=a_ y/\y.kind=1/\uO y.name=bh:=by
 obtain⟨y,hy,S⟩:=RN q ag;refine⟨y,hy,S,?_⟩
 rcases(fM y (cG hy)).2 with z|z|z
 exact z.2.1;omega;omega
structure Pj(k:Nat)(l:List dF)(a:Nat)(v:bg)(ps:List cP)(J:List br)(n:Int)(b:Nat)(pv:bg)(dw:List cP)(h:List br):Prop where
 lt:a<b
 le:b<=l.length
 rx:i_ k l b v pv (ps++dw) bf h
 k5:mC k J h
 cnt:dw.length+2<=3*(b-a)
 n0:0<=n
 n1:n<((ps++dw).length:Nat)
 ok:q9 ps->q9 (ps++dw)
def Pj.done{n}{b}(Y:Pj k l a v ps J n b pv dw h):C_ k l a v ps J n h:=
 ⟨n,b,pv,dw,bf,rfl,Nat.le_of_lt Y.lt,Y.le,Y.rx,Y.k5,Y.cnt,λ_=>⟨Y.n0,Y.n1,Y.ok⟩⟩
def aih(hl:l.length<=200)(fM:∀x∈l,x.dA)(ha:a<=l.length)(hI:a<l.length->vm G 122 k l v (a+1)):vm G 258 k l v a:=by
 intro ps pv J hR iU;refine aj0.go ?_;refine wy (ck (Jl hR hl) ?_);rintro _ g ⟨rfl,hh⟩;rw[hh];clear hh;refine wy ?_;refine dm (λq=>?_) λq=>?_;obtain⟨y,hy,ahW,me⟩:=aE_ fM q;have cQ:=gl hy;have e1:ct 5 v (.v (.int .i64 (a)))=a_ (.fp y.cells 0):=hR.v.cE (x:=y.bA) aS rfl;have e2:∀J,bz J bf 1 (.fp y.cells 4)=a_ (bu y.name):=λJ=>rfl;have f1:dJ [.v (.int .i64 0),.v (.int .i64 0),.v (.int .i64 0),.v (.string ⟨#[]⟩),.bp] [(0,1,.v (.int .i64 1)),(3,1,bu y.name)]=a_ (q7 ⟨1,0,0,y.name,[],.exact⟩):=rfl;have Gc:=Yq (G:=G) hR aa ⟨1,0,0,y.name,[],.exact⟩;unfold rY at Gc;refine wx (ck Gc ?_);rintro _ g1 ⟨rfl,⟨rL,QL⟩,qL⟩;have w1:de.wrap ((a)+1)=((a+1:Nat):Int):=nx aa;refine nV ?_;obtain⟨n,hn⟩:∃n:Int,n=(ps.length:Int):=⟨_,rfl⟩;obtain⟨b,O⟩:∃b,b=a+1:=⟨_,rfl⟩;obtain⟨dw,aw2⟩:∃dw:List cP,dw=[⟨1,0,0,y.name,[],.exact⟩]:=⟨_,rfl⟩;have hT:Pj k l a v ps J n b rL dw (g1.set k (.cells [v,.v (.int .i64 ((a+1:Nat):Int)),rL,.v (.bool bf)] bf)):=by
  subst O;subst hn;subst aw2;refine⟨aa,aa,QL.put (a+1) bf,qL.trans Ku,af,aa,ah,λz=>z.push ⟨bE ⟨rfl,rfl,rfl,me,rfl⟩,af⟩⟩
 rw[<-hn];generalize g1.set k (.cells [v,.v (.int .i64 ((a+1:Nat):Int)),rL,.v (.bool bf)] bf)=h at hT⊢
 rotate_left
 refine dm (λbt=>?_) λbt=>?_;obtain⟨y,hy,ahW⟩:=RN bt ag;have cQ:=gl hy;have w1:de.wrap ((a)+1)=((a+1:Nat):Int):=nx aa;have QL:=hR.put (a+1) bf;have qL:mC k J (J.set k (.cells [v,bq ((a+1:Nat):Int),pv,.v (.bool bf)] bf)):=Ku;have st:=hR.iX (a+1);generalize J.set k (.cells [v,bq ((a+1:Nat):Int),pv,.v (.bool bf)] bf)=Y at QL qL st;refine wx (ck (hI cQ ps pv Y QL aa) ?_);rintro _ V ⟨n,a2,rL,dw,w,rfl,c1,c2,c3,c4,c5,gI⟩;have bad:C_ k l a v ps J (.v (.int .i64 n)) (V.set k (.cells [v,bq (a2),rL,.v (.bool bh)] bf)):=
  ⟨n,a2,rL,dw,bh,rfl,aa,c2,c3.put a2 bh,(qL.trans c4).trans Ku,by cases w<;>simp at c5⊢<;>omega,λq=>ay⟩
 cases w;refine wx (ck (Jl c3 hl) ?_);rintro _ g ⟨rfl,hh⟩;rw[hh];clear hh;refine wy (cN (λbS=>?_) λbS=>?_);exact CI @c3.EJ bad;have fk:(xK l a2==3)=bh:=by simpa using bS
 obtain⟨fV,Jg,_⟩:=RN fk ag;have aIJ:=gl Jg;refine wx ?_;obtain⟨b,O⟩:∃b,b=a2+1:=⟨_,rfl⟩;obtain⟨iz,ie,c9⟩:=gI rfl;have hT:Pj k l a v ps J n b rL dw (V.set k (.cells [v,bq ((a2+1:Nat):Int),rL,.v (.bool bf)] bf)):=by
  subst O;exact⟨aa,aa,c3.put (a2+1) bf,(qL.trans c4).trans Ku,by simp at c5;omega,iz,ie,c9⟩
 generalize V.set k (.cells [v,bq ((a2+1:Nat):Int),rL,.v (.bool bf)] bf)=h at hT⊢
 rotate_left
 exact aHa @c3.Eo @c3.EJ bad;exact⟨-1,a,pv,[],bh,rfl,cj _,ha,by rw[gd];exact hR.put a bh,Ku,af,λq=>ay⟩
 all_goals
  refine mS @Ie @mI (ck (Jl hT.rx hl) ?_);rintro _ vG ⟨rfl,hh⟩;rw[hh];clear hh;refine fF ?_;refine dm (λxU=>?_) λxU=>?_;obtain⟨y,hy,ahW,MU⟩:=aFb fM xU;have cQ:=gl hy;have e1:ct 5 v (.v (.int .i64 (b)))=a_ (.fp y.cells 0):=hT.rx.v.cE (x:=y.bA) aS rfl;have e2:∀J,bz J bh 5 (.fp y.cells 0)=a_ (.agg y.cells):=λJ=>rfl;have s1:=zu h y;unfold iQ at s1;have hX:i_ k l b v rL (ps++dw) bf (h++[.cells y.cells bf]):=hT.rx.keep λj c z _=>bT z;have adD:mC k J (h++[.cells y.cells bf]):=hT.k5.trans mC.app;have e6:=gl hT.rx.b;have apr:(h++[bw y.cells bf])[h.length]?=a_ (.cells y.cells bf):=af
  generalize h++[bw y.cells bf]=g at s1 hX adD apr;have l_:=hX.put (b+1) bf;have adE:=adD.trans (Ku (x:=.cells [v,bq ((b+1:Nat):Int),rL,.v (.bool bf)] bf));have aa8:(g.set k (.cells [v,bq ((b+1:Nat):Int),rL,.v (.bool bf)] bf))[h.length]?=a_ (.cells y.cells bf):=by rw[bD aa];exact apr
  have w1:de.wrap ((b)+1)=((b+1:Nat):Int):=nx aa;have s2:=hX.iX (b+1);generalize g.set k (.cells [v,bq ((b+1:Nat):Int),rL,.v (.bool bf)] bf)=g2 at s2 l_ adE aa8;have l2:bz g2 bf 1 (.mp h.length 2)=a_ (.v (.int .i64 y.low)):=by simp only[bz,aa8];rfl
  have l3:bz g2 bf 1 (.mp h.length 3)=a_ (.v (.int .i64 y.high)):=by simp only[bz,aa8];rfl
  have f1:dJ [.v (.int .i64 0),.v (.int .i64 0),.v (.int .i64 0),.v (.string ⟨#[]⟩),.bp] [(0,1,.v (.int .i64 4)),(1,1,.v (.int .i64 y.low)),(2,1,.v (.int .i64 y.high)),(4,1,.sl [.v (.int .i64 n)] .exact)]=a_ (q7 ⟨4,y.low,y.high,[],[n],.exact⟩):=rfl;have aIP:=hT.cnt;have hab:=hT.lt;have Gc:=Yq (G:=G) l_ ah ⟨4,y.low,y.high,[],[n],.exact⟩;unfold rY at Gc;refine wA (fN @xU @hT.rx.GD @hT.rx.iW @e1) @e2 @s1 @hX.iW @w1 @s2 @l2 @l3 @f1 (ck Gc ?_);rintro _ g3 ⟨rfl,⟨cl,hZ⟩,arH⟩;refine e5 @bq.eq_1 ?_;rw[dR] at hZ;refine⟨((ps++dw).length:Nat),b+1,cl,dw++[⟨4,y.low,y.high,[],[n],.exact⟩],bf,rfl,aa,aa,hZ,adE.trans arH,ah,λ_=>⟨aa,ah,λz=>?_⟩⟩;rw[<-dR];refine(hT.ok z).push ⟨bF (bF ⟨rfl,rfl,rfl,MU⟩),λx I=>?_⟩;rw[dP.1 I];exact⟨hT.n0,hT.n1⟩;exact hT.done
def tM(hl:l.length<=200)(fM:∀x∈l,x.dA):∀(n a),a<=l.length->l.length-a<=n->vm G 258 k l v a/\vm G 199 k l v a/\vm G 122 k l v a:=by
 intro n
 induction n with
 |zero=>
  intro a ha hn;have i:vm G 258 k l v a:=aih hl fM ha λq=>aa
  have r:vm G 199 k l v a:=anj hl ha λb Y V=>by
   obtain rfl:b=a:=aa
   exact i
  exact⟨i,r,ael hl ha λb Y V=>by
   obtain rfl:b=a:=aa
   exact r⟩
 |succ n ih=>
  intro a ha hn;have i:vm G 258 k l v a:=aih hl fM ha λq=>(ih (a+1) aa aa).2.2;have r:vm G 199 k l v a:=anj hl ha λb Y V=>by
   rcases Nat.eq_or_lt_of_le Y with q|q
   subst q;exact i;exact(ih b V aa).1
  exact⟨i,r,ael hl ha λb Y V=>by
   rcases Nat.eq_or_lt_of_le Y with q|q
   subst q;exact r;exact(ih b V aa).2.1⟩
end
def fm.RX{α:Type}{J}{f g}:∀{l:List α},(∀a∈l,b7 J (f a) (g a))->fm J (l.map f) (l.map g)
 |[],_=>cX
 |a::l,h=>bG (h a af) (fm.RX λb O=>h b aKQ)
def cP.cB(p:cP):cP:={p with tail:=.no}
def V9(J)(p:cP):b7 J p.bA p.cB.bA:=by
 have S:b7 J p.kv p.cB.kv:=by
  obtain⟨k,lo,Q,nm,kids,t⟩:=p;unfold cP.cB cP.kv;cases kids with
  |nil=>exact ez
  |cons x r=>exact gU (iC λa _=>bH _)
 exact kf (bG (bH _) (bG (bH _) (bG (bH _) (bG (bH _) (bG S cX)))))
def aDr{ps}(h:q9 ps):q9 (ps.map cP.cB):=by
 intro i p J;rw[fR] at J;cases hq:ps[i]? with
 |none=>rw[hq] at J;cases J
 |some q=>
  rw[hq] at J;cases J;exact h i q hq
structure s_(v:bg)(ps:List cP):Prop where
 v:cC v (ps.map rY)
 ok:q9 ps
 len:ps.length<=600
 no:∀p∈ps,p.tail=.no
def Uv(r:bg):Prop:=∃(v:bg) (p e:Int),r=.bQ [v,bq p,bq e]/\((e=0/\p=0/\∃ps,s_ v ps)\/(e≠0/\v=.bp))
def Iz{J}{v v'}{p e}(hv:b7 J v v')(hQ:Uv (.bQ [v',bq p,bq e])):∃n bV,di J n (.bQ [v,p,e])=a_ bV/\Uv bV:=by
 obtain⟨n,hn⟩:=(fB (bG hv (bG (bH (.int .i64 p)) (bG (bH (.int .i64 e)) cX))):b7 J _ _).done;exact⟨n,_,hn,hQ⟩
def ux(s):eM (bu s):=dn _
def Zv{G}(cA:gm G)(s)(hs:s.length<=1000000):dM G bC 64 [bu s] Uv:=by
 refine ek (aiw.go ?_);refine wy ?_;refine ei (ald cA s hs) ?_;rintro r (⟨l,v,hl,fM,hv,rfl⟩|⟨p,e,he,rfl⟩);refine wy ?_;have ln:=hv.cH;rw[cM] at ln;refine wy ?_;refine dm (λq=>?_) λq=>?_;exact Iz ez ⟨_,_,_,rfl,bE ⟨rfl,rfl,[],bF ⟨rfl,rfl⟩,λi p h=>au,ag,af⟩⟩
 have f1:dJ [.bp,(0:Int)] [(0,1,v)]=a_ [v,(0:Int)]:=by rcases hv with rfl|⟨rfl,_⟩<;>rfl
 have f2:dJ [.bp,(0:Int),.bp,bf] [(0,2,.agg [v,(0:Int)])]=a_ [v,(0:Int),.bp,bf]:=rfl;refine wy ?_;have hR:i_ 0 l 0 v .bp [] bf [.cells [v,(0:Int),.bp,bf] bf]:=⟨rfl,hv,bE ⟨rfl,rfl⟩⟩;refine ck ((tM hl fM l.length 0 (js _) aa).2.2 [] .bp _ hR af) ?_;rintro _ h ⟨n,a,pv,dw,w,rfl,c1,c2,c3,c4,c5,gI⟩;rw[gN] at c3 gI;have l1:=c3.iW;refine wy (cN (λbt=>?_) λbt=>?_);have cQ:a<l.length:=by simp at bt;exact bt
 obtain⟨y,hy⟩:=dQ cQ;have e1:ct 5 v (a:Int)=a_ (.fp y.cells 0):=hv.cE (x:=y.bA) aS rfl;have e2:∀J,bz J bf 1 (.fp y.cells 1)=a_ (.v (.int .i64 y.at_)):=λJ=>rfl;refine wy ?_;exact Iz ez ⟨_,_,_,rfl,bF ⟨ag,rfl⟩⟩;cases w with
 |true=>
  refine wx ?_;exact Iz ez ⟨_,_,_,rfl,bF ⟨ag,rfl⟩⟩
 |false=>
  refine wx ?_;obtain⟨_,_,iz⟩:=gI rfl;have ok:=aDr (iz λi p h=>au);have len:(dw.map cP.cB).length<=600:=by simp at c5⊢;omega
  have no:∀p∈dw.map cP.cB,p.tail=.no:=λp J=>by
   obtain⟨x,_,rfl⟩:=eg.1 J;rfl
  rcases c3.app with⟨rfl,z⟩|⟨id,rfl,_⟩
  have:dw=[]:=aN
  subst this;exact Iz ez ⟨_,_,_,rfl,bE ⟨rfl,rfl,_,bF ⟨rfl,rfl⟩,ok,len,no⟩⟩;refine Iz (gU (fm.RX λp _=>V9 _ p)) ⟨_,_,_,rfl,bE ⟨rfl,rfl,dw.map cP.cB,bE ?_,ok,len,no⟩⟩;rw[yl];rfl
 refine wy ?_;have q:(e !=0)=bh:=aJ8
 exact wy (Iz ez ⟨_,_,_,rfl,bF ⟨he,rfl⟩⟩)
section
variable{p:cP}{i:Nat}
def jL(r:bg):Prop:=∃b:Bool,r=b
def ji{J}(b):∃n bV,di J n (.v (.bool b))=a_ bV/\jL bV:=by
 obtain⟨n,hn⟩:=(bH (.bool b):b7 J _ _).done;exact⟨n,_,hn,b,rfl⟩
def aCo{G}(cA:gm G)(s)(hs:s.length<=1000000):dM G bC 261 [bu s] jL:=by
 refine ek (aj4.go ?_);refine wy ?_;refine ei (ald cA s hs) ?_;rintro r (⟨l,v,hl,fM,hv,rfl⟩|⟨p,e,he,rfl⟩);have ln:=hv.cH;rw[cM] at ln;refine wy ?_;refine dm (λq=>?_) λq=>?_;obtain⟨y,rfl⟩:∃y,l=[y]:=E6.1 aq;have e1:ct 5 v (0:Int)=a_ (.fp y.cells 0):=hv.cE (i:=0) rfl rfl;have e2:∀J,bz J bf 1 (.fp y.cells 0)=a_ (.v (.int .i64 y.kind)):=λJ=>rfl;have dr:∀J,bz J bf 1 (.fp y.cells 4)=a_ (bu y.name):=λJ=>rfl;have eS:lC 4 (.fp y.cells 0)=a_ (.fp y.cells 4):=rfl;refine jw @q @e1 @e2 ?_;refine dm (λbt=>?_) λbt=>?_;refine mu @e1 @eS @dr @oN ?_;exact ji _;exact ji _;exact ji _;have q:(e==0)=bf:=aJ8
 exact wy (ji _)
@[go_sem]def zb(h:p.tail=.no)(hl:p.kids.length<=4611686018427387904)(J):cH p.kv J=a_ (.v (.int .i64 (p.kids.length:Int)),J):=by
 unfold cP.kv;split;rename_i e;rw[e];rfl;simp[ot,goInt]
def ari{G}(cA:gm G)(ho:p.dA i)(ht:p.tail=.no):dM G bC 204 [p.bA] jL:=by
 refine ek (ajD.go ?_);have uw:p.bA.cells=p.cells:=rfl;have ln:=zb ht (h_ ho.kids ag);obtain⟨k,lo,Q,nm,kids,t⟩:=p;have l0:bz ([]++[.cells (q7 ⟨k,lo,Q,nm,kids,t⟩) bf]) bf 1 (.mp 0 0)=a_ (.v (.int .i64 k)):=rfl;have l1:bz ([]++[.cells (q7 ⟨k,lo,Q,nm,kids,t⟩) bf]) bf 1 (.mp 0 1)=a_ (.v (.int .i64 lo)):=rfl;have l2:bz ([]++[.cells (q7 ⟨k,lo,Q,nm,kids,t⟩) bf]) bf 1 (.mp 0 2)=a_ (.v (.int .i64 Q)):=rfl;have l3:bz ([]++[.cells (q7 ⟨k,lo,Q,nm,kids,t⟩) bf]) bf 1 (.mp 0 3)=a_ (bu nm):=rfl;have l4:bz ([]++[.cells (q7 ⟨k,lo,Q,nm,kids,t⟩) bf]) bf 1 (.mp 0 4)=a_ (cP.kv ⟨k,lo,Q,nm,kids,t⟩):=rfl;generalize hg:[]++[bw (q7 ⟨k,lo,Q,nm,kids,t⟩) bf]=g at l0 l1 l2 l3 l4;have z0:([]:List br).length=0:=rfl;obtain⟨rF,ql⟩:=ho;dsimp only at rF ql ln;refine mu @uw @hg @z0 @l0 ?_
 rcases rF with⟨rfl,rfl,rfl,hn,rfl⟩|⟨hk2,rfl,rfl,rfl,S,_⟩|⟨rfl,rfl,S,h0,Y,V⟩
 have n0:(((0:Nat):Int)==0)=bh:=rfl;refine wA @mI @l0 @l1 @l2 @l3 @l4 @ln @hY.{0} @n0 ?_;have y6:nm.length<=1000000:=by
  simp only[uO,fQ,decide_eq_true_eq] at hn;omega
 refine ei (aCo cA nm y6) ?_;rintro r ⟨b,rfl⟩;exact fF (ji _)
 · have e1:decide ((1:Int)<(kids.length:Int))=bh:=by simp;omega
   have dr:dL .eql (bu []) (.v (.string ⟨[].toArray⟩))=a_ (.v (.bool bh)):=oN [] []
   rcases hk2 with rfl|rfl
   all_goals
    exact Ko @l0 @l1 @l2 @l3 @l4 @ln @e1 @dr (ji _)
 have dr:dL .eql (bu []) (.v (.string ⟨[].toArray⟩))=a_ (.v (.bool bh)):=oN [] [];have n1:((kids.length:Int)==1)=bh:=ah
 have n2:decide (0<=lo)=bh:=ah
 have oY:decide (lo<=20)=bh:=ah
 refine o6 @mI @l0 @l1 @l2 @l3 @l4 @ln (cN (λq=>?_) λq=>?_);exact Ko (fN @q @l0 @l1 @l2) @l3 @l4 @ln @n1 @n2 @oY @dr (ji _);have m1:pF bh [lo,(1:Int)]=a_ (.v (.int .i64 (if(1:Int)>lo then 1 else lo))):=rfl;have m2:decide ((if(1:Int)>lo then 1 else lo)<=Q)=bh:=by
  simp at q;simp only[decide_eq_true_eq];split<;>omega
 have m3:decide (Q<=20)=bh:=by simp at q⊢;omega
 exact Ko (fN @q @l0 @l1 @l2) (fN @l3 @l4 @ln @n1) @n2 @oY @dr @m1 @m2 @m3 (ji _)
def wV(J:List br)(v:bg)(xs:List Int):Prop:=(v=.bp/\xs=[])\/(∃t,v=.sl (xs.map bq) t)\/∃k Z off,v=.rs k Z.length 1 off xs.length/\J[k]?=a_ (.cells Z bh)/\∀(i:Nat) x,xs[i]?=a_ x->Z[off+i]?=a_ (bq x)
@[go_sem]def wV.len{J}{v}{xs}(h:wV J v xs)(hl:xs.length<=4611686018427387904):cH v J=a_ (.v (.int .i64 (xs.length:Int)),J):=by
 rcases h with⟨rfl,rfl⟩|⟨t,rfl⟩|⟨k,Z,off,rfl,_,_⟩
 rfl;simp[ot,goInt];rfl
def wV.get{J}{v}{xs}(h:wV J v xs){x}(I:xs[i]?=a_ x):∃p,ct 1 v (i:Int)=a_ p/\bz J bf 1 p=a_ (.v (.int .i64 x)):=by
 have Q:=gl I
 rcases h with⟨rfl,rfl⟩|⟨t,rfl⟩|⟨k,Z,off,rfl,S,T⟩
 simp at I;refine⟨.fp [bq x] 0,?_,rfl⟩;simp only[ct,fR,yf,I,j4];rw[if_pos aa];rfl;refine⟨.rp k Z.length (off+i*1),?_,?_⟩;show(if 0<=(i:Int)/\(i)<(xs.length:Int) then a_ (bg.rp k Z.length (off+(i:Int).toNat*1)) else bn)=_;rw[if_pos ⟨aa,aa⟩];simp;have:=T i x I;unfold bq at this;simp only[bz,S,if_true,Nat.mul_one];simpa[e_] using this
def atF{G}{J}{v w}{xs ys}(hv:wV J v xs)(hw:wV J w ys)(Y:xs.length<=1000000)(V:ys.length<=1000000):cq G bC 205 [v,w] J λr bl=>(∃b:Bool,r=b/\(b=bh->xs=ys))/\bl=J:=by
 refine ajE.go ?_;refine wx ?_;refine dm (λq=>?_) λq=>?_;exact⟨⟨bf,rfl,λh=>aE⟩,trivial⟩;have hl:xs.length=ys.length:=aq
 refine mS @q (hv.len (show xs.length<=4611686018427387904 by omega)) ?_;refine dj (λi e h=>e=[(0,v),(1,w),(12,bq xs.length),(13,bq i)]/\h=J/\∀(j),j<i->xs[j]?=ys[j]?) xs.length ⟨rfl,rfl,λj h=>aa⟩ ?_ ?_;rintro i e h Q ⟨rfl,rfl,hI⟩;obtain⟨x,I⟩:=dQ Q;obtain⟨y,hy⟩:∃y,ys[i]?=a_ y:=⟨ys[i]' aa,cz aa⟩;obtain⟨p1,a1,b1⟩:=hv.get I;obtain⟨p2,a2,b2⟩:=hw.get hy;refine nV ?_;refine dm (λbt=>?_) λbt=>?_;exact⟨⟨bf,rfl,λh=>aE⟩,trivial⟩;refine wx ?_;refine⟨rfl,trivial,λj hj=>?_⟩
 rcases en j i with z|z
 exact hI j z;obtain rfl:j=i:=aa
 rw[I,hy];simp at bt;rw[bt];rintro e h ⟨rfl,rfl,hI⟩;refine e5 @bq.eq_1 ?_;refine⟨⟨bh,rfl,λ_=>E5 λj=>?_⟩,trivial⟩
 rcases en j xs.length with z|z
 exact hI j z;rw[jU z,jU aa]
end
section
variable{h:cV}{J:List br}{G:Cells}
def CJ:List bg:=[.v (.int .i64 0),.v (.int .i64 0),.v (.int .i64 0),.v (.int .i32 0),.v (.int .u16 0),.v (.int .u16 0),.v (.int .u16 0),.v (.int .u16 0),.v (.int .u16 0),.v (.int .u16 0),.v (.int .u16 0),.v (.int .u16 0),.bp,.bp,.v (.int .i64 0),.v (.int .i64 0)]
def u0(ho:h.dA):h.cells.length=12:=by simp[cV.cells,ho.len]
def Kd(ho:h.dA):∃c0 c1 c2 c3 c4 c5 gI iz ie c9 jg jh,h.cells=[c0,c1,c2,c3,c4,c5,gI,iz,ie,c9,jg,jh]:=by
 have:=u0 ho
 match h.cells,this with
 |[c0,c1,c2,c3,c4,c5,gI,iz,ie,c9,jg,jh],_=>exact⟨c0,c1,c2,c3,c4,c5,gI,iz,ie,c9,jg,jh,rfl⟩
def aBI(ho:h.dA)(r):e_ bh 12 (h.cells++r) 0=a_ h.bA:=by
 obtain⟨c0,c1,c2,c3,c4,c5,gI,iz,ie,c9,jg,jh,e⟩:=Kd ho;simp only[nY,e];rfl
def Ca(ho:h.dA):e_ bh 12 h.cells 0=a_ h.bA:=by
 have:=aBI ho []
 rwa [gd] at this
def DD(h:cV):fm J h.cells h.cells:=by
 refine fm.each λa ha=>?_;simp only[cV.cells,fS,eg] at ha
 rcases ha with rfl|rfl|rfl|rfl|⟨x,_,rfl⟩<;>exact bH _
def LM(r:List Int){t}:b7 J (.sl (r.map eJ) t) (.sl (r.map eJ) .no):=gU (iC λa _=>bH _)
mutual
theorem vF{J:List br}:∀t:hc,b7 J t.bA t.bA
 |.node h ks=>by
  rw[hc.bA];exact b7.fp (Bo (DD h) (bG ez (bG (af7 ks) (bG (bH _) (bG (bH _) cX)))))
 |.leaf h=>by
  rw[hc.bA];exact b7.fp (Bo (DD h) (bG ez (bG ez (bG (bH _) (bG (bH _) cX)))))
 |.text h r=>by
  rw[hc.bA];exact b7.fp (Bo (DD h) (bG (LM r) (bG ez (bG (bH _) (bG (bH _) cX)))))
theorem af8{J:List br}:∀ks:List hc,fm J (eK ks) (eK ks)
 |[]=>cX
 |k::r=>by
  rw[eK];exact bG (vF k) (af8 r)
theorem af7{J:List br}:∀ks:List hc,b7 J (jm (eK ks)) (jm (eK ks))
 |[]=>ez
 |k::r=>by
  rw[eK,jm];exact gU (bG (vF k) (af8 r));exact λh=>aE
end
def aBk(ho:h.dA):cY G bC 28 [h.bA] (hc.leaf h).bA:=by
 refine e3 (akp.go ?_);have hl:bz ([]++[bw h.bA.cells bf]) bh 12 (.mp ([]:List br).length 0)=a_ h.bA:=Ca ho;have hf:dJ CJ [(0,12,h.bA),(14,1,.v (.int .i64 1)),(15,1,.v (.int .i64 1))]=a_ (h.cells++[.bp,.bp,bq 1,bq 1]):=by
  obtain⟨c0,c1,c2,c3,c4,c5,gI,iz,ie,c9,jg,jh,e⟩:=Kd ho;simp only[nY,e];rfl
 unfold CJ at hf;exact aG0 @hl @hf ((b7.mp rfl (Bo (DD h) (bG ez (bG ez (bG (bH _) (bG (bH _) cX)))))).done)
def U0(ho:h.dA):(Hy h).dA:=⟨ho.S,ho.ht,ho.ha,⟨by show(-2147483648:Int)<=0;decide,by show(0:Int)<=2147483647;decide⟩,ho.len,ho.hm⟩
def Yu(ho:h.dA)(r):cY G bC 29 [h.bA,.sl (r.map eJ) .no] (j3 (Hy h) r).bA:=by
 refine e3 (akq.go ?_);have hs:bL ([]++[bw h.bA.cells bf]) 1 (.mp ([]:List br).length (0+3)) (.v (.int .i32 0))=a_ ([]++[bw (Hy h).bA.cells bf]):=by
  obtain⟨k,t,a,x,m⟩:=h;rfl
 have hl:bz ([]++[bw (Hy h).bA.cells bf]) bh 12 (.mp ([]:List br).length 0)=a_ (Hy h).bA:=Ca (U0 ho);have hf:dJ CJ [(0,12,(Hy h).bA),(12,1,.sl (r.map eJ) .no),(14,1,.v (.int .i64 r.length)),(15,1,.v (.int .i64 1))]=a_ ((Hy h).cells++[.sl (r.map eJ) .no,.bp,bq r.length,bq 1]):=by
  obtain⟨c0,c1,c2,c3,c4,c5,gI,iz,ie,c9,jg,jh,e⟩:=Kd (U0 ho);simp only[nY,e];rfl
 unfold CJ at hf;exact Kl @hs @hl @hf @goInt.eq_1 @cM.{0,0} ((b7.mp rfl (Bo (DD _) (bG (LM r) (bG ez (bG (bH _) (bG (bH _) cX)))))).done)
def aFf(ks):cC (jm (eK ks)) (eK ks):=by
 cases ks with
 |nil=>exact bF ⟨rfl,rfl⟩
 |cons k r=>exact bE (by rw[eK,jm];exact λh=>aE)
def max2(a b:Nat):pF bh [.v (.int .i64 (a)),.v (.int .i64 (b))]=a_ (.v (.int .i64 ((max a b:Nat):Int))):=by
 simp only[pF,Df,Ic,lz,if_true];congr 3;split<;>omega
def XO(ho:h.dA){ks}(S:∀k∈ks,k.wf)(O:c7 ks<=4611686018427387904)(hn:ks.length<=4611686018427387904):cY G bC 27 [h.bA,jm (eK ks)] (qz h ks).bA:=by
 refine e3 (X6.go ?_);obtain⟨c0,c1,c2,c3,c4,c5,gI,iz,ie,c9,jg,jh,e⟩:=Kd ho;have hl:bz ([]++[bw h.bA.cells bf]) bh 12 (.mp ([]:List br).length 0)=a_ h.bA:=Ca ho;have hv:=aFf ks;have hf:dJ CJ [(0,12,h.bA),(13,1,jm (eK ks)),(14,1,.v (.int .i64 2))]=a_ [c0,c1,c2,c3,c4,c5,gI,iz,ie,c9,jg,jh,.bp,jm (eK ks),bq 2,bq 0]:=by
  simp only[nY,e]
  have T:(jm (eK ks)).cells=[jm (eK ks)]:=by rcases hv with q|⟨q,_⟩<;>rw[q]<;>rfl
  unfold CJ dJ;rw[if_pos ⟨rfl,of_decide_eq_true rfl⟩];unfold dJ;rw[if_pos ⟨by rw[T];rfl,of_decide_eq_true rfl⟩,T];rfl
 unfold CJ at hf;refine Kl @hl @hf @hv.cH @goInt.eq_1 @Ft ?_;refine dj (λi e J=>e=[(5,.mp 1 0),(12,jm (eK ks)),(13,bq ks.length),(14,bq i)]/\J=[.cells h.bA.cells bf,.cells [c0,c1,c2,c3,c4,c5,gI,iz,ie,c9,jg,jh,.bp,jm (eK ks),bq ((2+c7 (ks.take i):Nat):Int),bq ((ko (ks.take i):Nat):Int)] bf]) ks.length ⟨rfl,rfl⟩ ?_ ?_;rintro i e J Q ⟨rfl,rfl⟩;obtain⟨k,rE⟩:=dQ Q;have k9:(eK ks)[i]?=a_ k.bA:=by rw[Fu];simp[rE]
 have d1:decide ((i)<(ks.length:Int))=bh:=ah
 have e1:ct 1 (jm (eK ks)) (.v (.int .i64 i))=a_ (.fp [k.bA] 0):=by rw[hv.cE k9 (by rw[wF];rfl),wF]
 have l1:∀J,bz J bf 1 (.fp [k.bA] 0)=a_ k.bA:=λJ=>Dd J rfl;obtain⟨d0,Iu,d2,d3,d4,d5,d6,d7,d8,d9,Ak,Lq,p,q,WI⟩:=hc.adB (S k (cG rE));have l2:∀J,bz J bf 1 (.fp [d0,Iu,d2,d3,d4,d5,d6,d7,d8,d9,Ak,Lq,p,q,bq (k.size:Int),bq (k.height:Int)] 14)=a_ (bq (k.size:Int)):=λJ=>Dd J rfl;have l3:∀J,bz J bf 1 (.fp [d0,Iu,d2,d3,d4,d5,d6,d7,d8,d9,Ak,Lq,p,q,bq (k.size:Int),bq (k.height:Int)] 15)=a_ (bq (k.height:Int)):=λJ=>Dd J rfl;rw[WI] at e1 l1;simp only[bq] at e1 l1 l2 l3;have l4:∀a b,bz [.cells h.bA.cells bf,.cells [c0,c1,c2,c3,c4,c5,gI,iz,ie,c9,jg,jh,.bp,jm (eK ks),a,b] bf] bf 1 (.mp 1 14)=a_ a:=λa b=>rfl;have El:∀a b,bz [.cells h.bA.cells bf,.cells [c0,c1,c2,c3,c4,c5,gI,iz,ie,c9,jg,jh,.bp,jm (eK ks),a,b] bf] bf 1 (.mp 1 15)=a_ b:=λa b=>rfl;have j_:∀a b n,bL [.cells h.bA.cells bf,.cells [c0,c1,c2,c3,c4,c5,gI,iz,ie,c9,jg,jh,.bp,jm (eK ks),a,b] bf] 1 (.mp 1 14) (.v (.int .i64 n))=a_ [.cells h.bA.cells bf,.cells [c0,c1,c2,c3,c4,c5,gI,iz,ie,c9,jg,jh,.bp,jm (eK ks),.v (.int .i64 n),b] bf]:=λa b n=>rfl;have jT:∀a b n,bL [.cells h.bA.cells bf,.cells [c0,c1,c2,c3,c4,c5,gI,iz,ie,c9,jg,jh,.bp,jm (eK ks),a,b] bf] 1 (.mp 1 15) (.v (.int .i64 n))=a_ [.cells h.bA.cells bf,.cells [c0,c1,c2,c3,c4,c5,gI,iz,ie,c9,jg,jh,.bp,jm (eK ks),a,.v (.int .i64 n)] bf]:=λa b n=>rfl;have t1:=J8 rE;have b1:=EE ks (i+1);have w1:de.wrap (((2+c7 (ks.take i):Nat):Int)+(k.size:Int))=((2+c7 (ks.take (i+1)):Nat):Int):=by rw[fO aa aa];omega
 have w2:de.wrap ((i)+1)=((i+1:Nat):Int):=by rw[fO aa aa];rfl
 have m1:=max2 (ko (ks.take i)) k.height;rw[<-(agY rE)] at m1;exact ET (fN @bq.eq_1 @d1 @e1 @l1) (fN @l2 @l3 @l4 @El) @j_ @jT @w1 @w2 @m1 tt;rintro e J ⟨rfl,rfl⟩;have d1:decide ((ks.length:Int)<(ks.length:Int))=bf:=af
 have El:∀a b,bz [.cells h.bA.cells bf,.cells [c0,c1,c2,c3,c4,c5,gI,iz,ie,c9,jg,jh,.bp,jm (eK ks),a,b] bf] bf 1 (.mp 1 15)=a_ b:=λa b=>rfl;have jT:∀a b n,bL [.cells h.bA.cells bf,.cells [c0,c1,c2,c3,c4,c5,gI,iz,ie,c9,jg,jh,.bp,jm (eK ks),a,b] bf] 1 (.mp 1 15) (.v (.int .i64 n))=a_ [.cells h.bA.cells bf,.cells [c0,c1,c2,c3,c4,c5,gI,iz,ie,c9,jg,jh,.bp,jm (eK ks),a,.v (.int .i64 n)] bf]:=λa b n=>rfl;have Y:=Q0 ks;have w1:de.wrap ((ko ks)+1)=((ko ks+1:Nat):Int):=by rw[fO aa aa];rfl
 refine CI @n3.{0} ?_;refine(b7.mp rfl ?_).done;have:=Bo (J:=[.cells h.bA.cells bf,.cells [c0,c1,c2,c3,c4,c5,gI,iz,ie,c9,jg,jh,.bp,jm (eK ks),.v (.int .i64 ((2+c7 ks:Nat):Int)),.v (.int .i64 ((ko ks+1:Nat):Int))] bf]) (DD h) (bG ez (bG (af7 ks) (bG (bH (.int .i64 ((2+c7 ks:Nat):Int))) (bG (bH (.int .i64 ((ko ks+1:Nat):Int))) cX))));rw[e] at this;rw[e];exact this
end
end Go.Proofs.YtkpjaeffojibmaaGreatDoor
section
namespace Go.bM
open Go.RowKit
def aqz(J:List br):Prop:=∀b∈J,(∃Z r,b=.cells Z r)\/∃n s e,b=.tok n s e
end Go.bM
namespace Go.Proofs.YtkpjaeffojibmaaGreatDoor
open Go Go.bM Go.RowKit
def Iq(t:cV):∀c∈t.cells,eM c:=λc T=>by
 simp only[cV.cells,fS,eg] at T
 rcases T with rfl|rfl|rfl|rfl|⟨x,_,rfl⟩<;>exact dn _
def yP(t:cV):eM t.bA:=Ip (Iq t)
def Ext(O J:List br):Prop:=∀(j:Nat) b,O[j]?=a_ b->J[j]?=a_ b
def Ext.refl(O):Ext O O:=λ_ _ h=>h
def Ext.app{O l}:Ext O (O++l):=λ_ _ h=>bT h
def Ext.pG{O J l}(h:Ext O J):Ext O (J++l):=λj b q=>bT (h j b q)
def Ext.nil(J):Ext [] J:=λj b h=>au
def Ext.len{O J}(h:Ext O J):O.length<=J.length:=by
 rcases en J.length O.length with q|q
 have:=h J.length _ (cz q);rw[jU (cj _)] at this;cases this;exact q
def Ext.split{O J}(h:Ext O J):∃l,J=O++l:=by
 refine⟨J.drop O.length,?_⟩;apply E5;intro j
 rcases en j O.length with q|q
 rw[fT q,h j _ (cz q),cz q];rw[fY q,s0];congr 1;omega
def aqB(O:List br)(v:bg)(l:List cV):Prop:=∃k Z off,v=.rs k Z.length 12 off l.length/\O[k]?=a_ (.cells Z bh)/\∀(i:Nat) t,l[i]?=a_ t->off+i*12+12<=Z.length/\(Z.drop (off+i*12)).take 12=t.cells
def w4(O:List br)(v:bg)(l:List cV):Prop:=cC v (l.map nY)\/aqB O v l
def aBF{t:cV}(ho:t.dA):e_ bh 8 t.cells 4=a_ (.agg (t.marks.map d_)):=by
 have V:t.cells.length=12:=u0 ho;unfold e_;rw[if_pos rfl,if_pos aa];have:t.cells.drop 4=t.marks.map d_:=rfl;rw[this,mA (by simp[ho.len])]
def w4.len{O}{v:bg}{l}(h:w4 O v l)(J):cH v J=a_ (.v (.int .i64 (l.length:Int)),J):=by
 rcases h with h|⟨k,Z,off,rfl,_,_⟩
 have:=h.cH J
 rwa [cM] at this
 rfl
structure aqJ(O:List br)(p:bg)(t:cV):Prop where
 nil:yK p=a_ p
 f0:∃q,lC 0 p=a_ q/\∀J,Ext O J->bz J bf 1 q=a_ (.v (.int .i64 t.kind))
 f4:∃q,lC 4 p=a_ q/\∀J,Ext O J->bz J bh 8 q=a_ (.agg (t.marks.map d_))
 all:∀J,Ext O J->bz J bh 12 p=a_ t.bA
def w4.tok{O}{v:bg}{l}(h:w4 O v l){i:Nat}{t}(ht:l[i]?=a_ t)(ho:t.dA):∃p,ct 12 v (.v (.int .i64 (i)))=a_ p/\aqJ O p t:=by
 rcases h with h|⟨k,Z,off,rfl,S,T⟩
 refine⟨.fp t.cells 0,h.cE (x:=t.bA) (by simp[ht]) (u0 ho),rfl,⟨_,rfl,λJ _=>rfl⟩,⟨_,rfl,λJ _=>aBF ho⟩,λJ _=>Ca ho⟩;obtain⟨Y,V⟩:=T i t ht;have Q:=(cL.1 ht).1;have hg:∀j,j<12->Z[off+i*12+j]?=t.cells[j]? :=λj hj=>by
  rw[<-V,CT hj,s0]
 refine⟨.rp k Z.length (off+i*12),?_,rfl,⟨_,rfl,λJ he=>?_⟩,⟨_,rfl,λJ he=>?_⟩,λJ he=>?_⟩;show(if 0<=(i:Int)/\(i)<(l.length:Int) then a_ (bg.rp k Z.length (off+(i:Int).toNat*12)) else bn)=_;rw[if_pos ⟨aa,aa⟩];simp;simp only[bz,he k _ S,if_true];have:=hg 0 aa;exact this;simp only[bz,he k _ S,if_true];unfold e_;rw[if_pos rfl,if_pos aa];have:(Z.drop (off+i*12+4)).take 8=((Z.drop (off+i*12)).take 12).drop 4:=by
  rw[Kw,yg]
 rw[this,V];rfl;simp only[bz,he k _ S,if_true];unfold e_;rw[if_pos rfl,if_pos Y,V];rfl
section
variable{G:Cells}{hk:bg}{p:cV->Bool}{l:List cV}{O:List br}
end
end Go.Proofs.YtkpjaeffojibmaaGreatDoor
end
namespace Go.Proofs.YtkpjaeffojibmaaGreatDoor
open Go Go.bM Go.RowKit
section
variable{O J bl:List br}{v:bg}{ks:List hc}{K i id j len m n:Nat}{k:hc}{α:Type}{x:br}{l p:List cV}{t u:cV}{iV:List bg}
def Un(J:List br)(v:bg)(ks:List hc):Prop:=(v=.bp/\ks=[])\/(ks≠[]/\∃id,v=.sl (eK ks) (.tok id)/\J[id]?=a_ (.tok ks.length 1 24))
abbrev O4:=Fr×bg
variable{st:List O4}
def jS:List O4->List bg
 |[]=>[]
 |(f,v)::r=>jS r++(f.h.cells++[v])
def ars(v w:bg):Prop:=∀id xs ys,v=.sl xs (.tok id)->w≠.sl ys (.tok id)
def xJ(J:List br):List O4->Prop
 |[]=>True
 |(f,v)::r=>Un J v f.ks/\(∀it∈r,ars v it.2)/\xJ J r
def amg(ks):cZ 1 (eK ks)=bh:=by
 rw[Fu,cZ,eP];intro x I;obtain⟨t,_,rfl⟩:=eg.1 I;obtain⟨Z,e⟩:=t.ri;rw[e];rfl
def aDC(k:hc)(h:Un J v ks)(hn:ks.length<1000000000):
  ∃id bl,ef J 1 8 24 v (.sl [k.bA] .exact)=a_ (.sl (eK (ks++[k])) (.tok id),bl)/\bl[id]?=a_ (.tok (ks++[k]).length 1 24)/\(∀j b,j≠id->J[j]?=a_ b->bl[j]?=a_ b)/\
   ((∃ys,v=.sl ys (.tok id))\/J.length<=id)/\(∀Z r,J[id]?≠a_ (.cells Z r)):=by
 have e1:eK (ks++[k])=eK ks++[k.bA]:=by rw[arE];rfl
 have S:cZ 1 [k.bA]=bh:=amg [k];have bR:([k.bA]:List bg)≠[]:=af
 rcases h with⟨rfl,rfl⟩|⟨ahq,id,rfl,hid⟩
 refine⟨J.length,J++[.tok 1 1 24],?_,af,λj b hj h=>(bT h),bF (cj _),λZ r h=>?_⟩;simp[ef,gG,ij,iy,S,e1,eK];rw[jU (cj _)] at h;cases h;refine⟨id,J.set id (.tok (ks.length+1) 1 24),?_,?_,λj b hj h=>?_,bE ⟨_,rfl⟩,λZ r h=>?_⟩;have Y:((eK ks).length+[k.bA].length)*8<=140737488355328:=by rw[Ft];simp only[pZ];omega
 simp only[ef,gG,ij,iy,S,amg ks,e1,bR,if_false,if_true,hid,Ft,pZ,true_and,and_self,wN] at Y⊢;rw[if_pos Y];rw[bU (gl hid),ec];rfl;rw[bD (eX hj)];exact h;rw[hid] at h;cases h
def RM(hj:∀j b,j≠id->J[j]?=a_ b->bl[j]?=a_ b):∀{st},xJ J st->(∀it∈st,∀ys,it.2≠.sl ys (.tok id))->xJ bl st
 |[],_,_=>trivial
 |(f,v)::r,h,hd=>by
  refine⟨?_,h.2.1,RM hj h.2.2 λit hit=>hd it (by simp[hit])⟩
  rcases h.1 with q|⟨q,i,rfl,Q⟩
  exact bE q;refine bF ⟨q,i,rfl,hj i _ (λe=>?_) Q⟩;subst e;exact hd (f,.sl (eK f.ks) (.tok i)) af _ rfl
def Ye:∀{st},xJ J st->∀it∈st,∀ys id,it.2=.sl ys (.tok id)->id<J.length
 |[],_,it,hit=>by cases hit
 |(f,v)::r,h,it,hit=>λys id e=>by
  rcases fS.1 hit with rfl|hit
  rcases h.1 with⟨q,_⟩|⟨_,i,q,Q⟩
  rw[q] at e;cases e;rw[q] at e;cases e;exact gl Q;exact Ye h.2.2 it hit ys id e
def aAC{f:Fr}(h:xJ J ((f,v)::st))(Y:bl[id]?=a_ (.tok (f.ks++[k]).length 1 24))(V:∀j b,j≠id->J[j]?=a_ b->bl[j]?=a_ b)
  (h3:(∃ys,v=.sl ys (.tok id))\/J.length<=id):xJ bl ((⟨f.h,f.ks++[k]⟩,.sl (eK (f.ks++[k])) (.tok id))::st):=by
 have hd:∀it∈st,∀ys,it.2≠.sl ys (.tok id):=λit hit ys e=>by
  rcases h3 with⟨zs,dr⟩|h3
  exact h.2.1 it hit id zs ys dr e;have:=Ye h.2.2 it hit ys _ e;omega
 exact⟨bF ⟨af,id,rfl,Y⟩,λit hit i xs ys e=>by cases e;exact hd it hit ys,RM V h.2.2 hd⟩
mutual
theorem og:∀t:hc,eM t.bA
 |.node h ks=>by
  rw[hc.bA];exact FB λc T=>by
   rcases gj.1 T with T|T
   exact Iq h c T;simp only[fS,p4,or_false] at T
   rcases T with rfl|rfl|rfl|rfl
   exact mJ;exact ast ks;exact dn _;exact dn _
 |.leaf h=>by
  rw[hc.bA];exact FB λc T=>by
   rcases gj.1 T with T|T
   exact Iq h c T;simp only[fS,p4,or_false] at T
   rcases T with rfl|rfl|rfl|rfl
   exact mJ;exact mJ;exact dn _;exact dn _
 |.text h r=>by
  rw[hc.bA];exact FB λc T=>by
   rcases gj.1 T with T|T
   exact Iq h c T;simp only[fS,p4,or_false] at T
   rcases T with rfl|rfl|rfl|rfl
   exact k6 λx I c T=>by
    obtain⟨a,_,rfl⟩:=eg.1 I;have e:c=eJ a:=by simpa[eJ,jK] using T
    subst e;exact dn _
   exact mJ;exact dn _;exact dn _
theorem Vk:∀ks:List hc,∀x∈eK ks,∀c∈x.cells,eM c
 |[],x,I=>by simp[eK] at I
 |k::r,x,I=>λc T=>by
  rw[eK] at I
  rcases fS.1 I with rfl|I
  rw[wF] at T;obtain rfl:=dP.1 T;exact og k;exact Vk r x I c T
theorem ast:∀ks:List hc,eM (jm (eK ks))
 |[]=>mJ
 |k::r=>by
  have e:jm (eK (k::r))=.sl (eK (k::r)) .no:=by rw[eK,jm];exact λh=>aE
  rw[e];exact k6 λx I c T=>Vk (k::r) x I c T
end
def akN(h:Un J v ks):kZ v (jm (eK ks)):=by
 rcases h with⟨rfl,rfl⟩|⟨bR,id,rfl,_⟩
 exact ah5;have e:jm (eK ks)=.sl (eK ks) .no:=by
  cases ks with
  |nil=>exact(bR rfl).elim
  |cons k r=>rw[eK,jm];exact λh=>aE
 rw[e];exact k6 λx I c T=>Vk ks x I c T
def aaE{A B:List α}(h:A.length=n):(A++B).take n=A:=by rw[<-h,T7];rfl
def Vv{A B:List α}(h:A.length=n):(A++B).drop n=B:=by rw[<-h,List.drop_left'];rfl
section
variable{A B:List bg}{h:cV}{w:bg}{n:Nat}
def anm(ho:h.dA)(hA:A.length=n*13):(A++(h.cells++[w])++B).length=n*13+13+B.length:=by
 simp[u0 ho,hA];omega
def aEs(ho:h.dA)(hA:A.length=n*13):e_ bh 12 (A++(h.cells++[w])++B) (n*13)=a_ h.bA:=by
 unfold e_;rw[if_pos rfl,if_pos (by rw[anm ho hA];omega),dR,Vv hA,dR,aaE (u0 ho)];rfl
def aEt(ho:h.dA)(hA:A.length=n*13)(bN):e_ bf bN (A++(h.cells++[w])++B) (n*13+12)=a_ w:=by
 unfold e_;rw[if_neg ag,dR,fY aa,dR,fY (by rw[u0 ho];omega),u0 ho,hA,show n*13+12-n*13-12=0 by omega];rfl
def aEu(ho:h.dA)(hA:A.length=n*13)(u:bg):dV (A++(h.cells++[w])++B) (n*13+12) [u]=A++(h.cells++[u])++B:=by
 have Y:(A++h.cells).length=n*13+12:=by rw[ec,hA,u0 ho]
 have e:A++(h.cells++[w])++B=(A++h.cells)++([w]++B):=af
 unfold dV;rw[e,aaE Y,pZ,<-yg,Vv Y];simp
end
def N1:∀{st},Tc (st.map (·.1))->(jS st).length=st.length*13
 |[],_=>rfl
 |(f,v)::r,h=>by
  have:=N1 h.2.2;simp only[jS,ec,eW,hY,u0 h.1,this];omega
def Cl(n:Int):bg:=.v (.int .i64 n)
def Bj:List bg:=[.v (.int .i64 0),.v (.int .i64 0),.v (.int .i64 0),.v (.int .i32 0),.v (.int .u16 0),.v (.int .u16 0),.v (.int .u16 0),.v (.int .u16 0),.v (.int .u16 0),.v (.int .u16 0),.v (.int .u16 0),.v (.int .u16 0),.bp]
structure OS(O:List br)(l:List cV)(i:Nat)(st:List O4)(iV:List bg)(J:List br):Prop where
 gz:J[O.length]?=a_ (.cells (jS st++iV) bh)
 base:Ext O J
 ks:xJ J st
 go:kj l.length (l.drop i) (st.map (·.1))=kj l.length l [⟨uT,[]⟩]
 ne:st≠[]
 len:st.length<=41
 ok:Tc (st.map (·.1))
 size:wu (st.map (·.1))+st.length<=i+1
 kids:uY (st.map (·.1))<=i
 axV:i<=l.length
def akP:∀{st},xJ J st->∀it∈st,∀ys id,it.2=.sl ys (.tok id)->∃n,J[id]?=a_ (.tok n 1 24)
 |[],_,it,hit=>by cases hit
 |(f,v)::r,h,it,hit=>λys id e=>by
  rcases fS.1 hit with rfl|hit
  rcases h.1 with⟨q,_⟩|⟨_,i,q,Q⟩
  rw[q] at e;cases e;rw[q] at e;cases e;exact⟨_,Q⟩;exact akP h.2.2 it hit ys id e
def akO{Z}{b}(h0:J[K]?=a_ (.cells Z b))(h:xJ J st):xJ (J.set K x) st:=
 RM (λj b hj q=>aLp) h λit hit ys e=>by
  obtain⟨n,hn⟩:=akP h it hit ys K e;rw[h0] at hn;cases hn
def HK(O:List br):Prop:=∀b∈O,∃Z r,b=.cells Z r
def HK.plain(h:HK O):aqz O:=λb hb'=>bE (h b hb')
def atL(T:HK O)(he:Ext O J)(V:∀j b,j≠id->J[j]?=a_ b->bl[j]?=a_ b)(h5:∀Z r,J[id]?≠a_ (.cells Z r)):Ext O bl:=λj b q=>by
 refine V j b (λe=>?_) (he j b q);subst e;obtain⟨Z,r,rfl⟩:=T b (cG q);exact h5 Z r (he _ _ q)
def afs(he:Ext O J):Ext O (J.set O.length x):=λj b q=>by
 have:=gl q;rw[bD aa];exact he j b q
def U7(L6:HK O){i'}{g:Fr}{u:bg}{r}(hm:m=(jS ((g,u)::r)++iV).length)(gz:J[O.length]?=a_ (.cells (jS ((g,u)::r)++iV) bh))(avM:Ext O J)
  (S:xJ J ((g,u)::r)) (fM:Tc (g::r.map (·.1))) (c6:r.length+1<=41) (hw:k.wf) (kP:kj l.length (l.drop i') (⟨g.h,g.ks++[k]⟩::r.map (·.1))=kj l.length l [⟨uT,[]⟩])
  (dD:wu (g::r.map (·.1))+k.size+(r.length+1)<=i'+1) (AQ:uY (g::r.map (·.1))+1<=i') (kQ:i'<=l.length) (hl:l.length<=20000):
  ∃w' bl B0,ef J 1 8 24 u (.sl [k.bA] .exact)=a_ (w',bl)/\bL bl 1 (.rp O.length m (r.length*13+12)) w'=a_ B0/\m=(jS ((⟨g.h,g.ks++[k]⟩,w')::r)++iV).length/\OS O l i' ((⟨g.h,g.ks++[k]⟩,w')::r) iV B0:=by
 have hA:(jS r).length=r.length*13:=N1 fM.2.2;obtain⟨id,bl,Y,V,h3,h4,h5⟩:=aDC k S.1 (by simp only[uY] at AQ;omega);have yW:bl[O.length]?=a_ (.cells (jS ((g,u)::r)++iV) bh):=h3 O.length _ (λe=>by subst e;exact h5 _ _ gz) gz;have T:jS ((g,u)::r)++iV=jS r++(g.h.cells++[u])++iV:=rfl;have Xh:∀x,(jS r++(g.h.cells++[x])++iV).length=r.length*13+13+iV.length:=λx=>anm fM.1 hA;refine⟨.sl (eK (g.ks++[k])) (.tok id),bl,bl.set O.length (.cells (jS r++(g.h.cells++[.sl (eK (g.ks++[k])) (.tok id)])++iV) bh),Y,?_,?_,⟨?_,afs (atL L6 avM h3 h5),?_,kP,af,aJN,⟨fM.1,λt ht=>?_,fM.2.2⟩,?_,?_,kQ⟩⟩;rw[T] at yW hm;show(match bl[O.length]? with
  |some (.cells Z bh)=>if m=Z.length then fq bl O.length bh Z 1 (r.length*13+12) (.sl (eK (g.ks++[k])) (.tok id)) else bn
  |_=>bn)=_
 rw[yW];dsimp only;rw[if_pos hm];unfold fq;rw[if_pos ⟨rfl,by rw[Xh];omega,rfl⟩];congr 4;exact aEu fM.1 hA _;rw[hm,T,Xh];show _=(jS r++(g.h.cells++[_])++iV).length;rw[Xh];rw[bU (gl yW)];rfl;exact akO yW (aAC S V h3 h4)
 rcases gj.1 ht with ht|ht
 exact fM.2.1 t ht;rw[dP.1 ht];exact hw;simp only[fG,wu,wq,c7] at dD⊢;simp only[eW];omega;simp only[fG,uY,ec,pZ] at AQ⊢;omega
def UK(t:hc):eV 1 [t.bA]=a_ (.sl [t.bA] .exact):=by
 obtain⟨Z,e⟩:=t.ri;rw[e];rfl
def atS(ho:t.dA):dJ Bj [(0,12,t.bA)]=a_ (t.cells++[.bp]):=by
 obtain⟨c0,c1,c2,c3,c4,c5,gI,iz,ie,c9,jg,jh,e⟩:=Kd ho;simp only[nY,e];rfl
def aml(ho:t.dA):cZ 13 [.agg (t.cells++[.bp])]=bh:=by
 have Y:(t.cells++[bg.bp]).length=13:=by rw[ec,u0 ho];rfl
 have V:(t.cells++[bg.bp]).all cr=bh:=by
  rw[eP];intro c T;simp only[cV.cells,lY,fS,gj,eg,p4,or_false] at T
  rcases T with rfl|rfl|rfl|rfl|⟨x,_,rfl⟩|rfl<;>rfl
 simp only[cZ,pY,sY,Bool.and_true,jK,Y,V];rfl
def aqW(ho:t.dA):eV 13 [.agg (t.cells++[.bp])]=a_ (.sl [.agg (t.cells++[.bp])] .exact):=by
 have:=aml ho;unfold eV;rw[if_pos ⟨this,af⟩]
def aDB(hm:m=(jS st++iV).length)(gz:J[K]?=a_ (.cells (jS st++iV) bh))(hA:(jS st).length=st.length*13)(ho:t.dA)(hl:st.length<=41):
  p7 J 13 72 78 (.rs K m 13 0 st.length) (.sl [.agg (t.cells++[.bp])] .exact)=a_ (.rs K (jS ((⟨t,[]⟩,.bp)::st)++iV.drop 13).length 13 0 (st.length+1),J.set K (.cells (jS ((⟨t,[]⟩,.bp)::st)++iV.drop 13) bh)):=by
 have D:lS (jS st++iV) (st.length*13) (eF [.agg (t.cells++[.bp])])=jS ((⟨t,[]⟩,.bp)::st)++iV.drop 13:=by
  have hf:eF [.agg (t.cells++[.bp])]=t.cells++[.bp]:=by simp[eF,jK]
  have awy:(t.cells++[bg.bp]).length=13:=by rw[ec,u0 ho];rfl
  unfold lS;rw[hf,aaE hA,awy,<-yg,Vv hA];rfl
 have h3:¬([dG (t.cells++[.bp])]=([]:List bg)):=af
 show gG J 13 72 78 (.rs K m 13 0 st.length) (.sl [.agg (t.cells++[.bp])] .exact)=_;simp only[gG,ij,iy,aml ho,h3,if_false,and_self,wN,if_true,true_and,gz,eW,hY];rw[if_pos aa,if_pos hm,D]
def ar0(hI:OS O l i st iV J)(ho:t.dA)(hl:st.length<=40)(kP:kj l.length (l.drop (i+1)) (⟨t,[]⟩::st.map (·.1))=kj l.length l [⟨uT,[]⟩])(Q:i<l.length):
  OS O l (i+1) ((⟨t,[]⟩,.bp)::st) (iV.drop 13) (J.set O.length (.cells (jS ((⟨t,[]⟩,.bp)::st)++iV.drop 13) bh)):=by
 refine⟨?_,afs hI.base,akO hI.gz ⟨bE ⟨rfl,rfl⟩,λit hit id xs ys e=>aC,hI.ks⟩,kP,af,ah,⟨ho,λk S=>(by cases S),hI.ok⟩,?_,?_,Q⟩;rw[bU (gl hI.gz)];have:=hI.size;simp only[fG,wu,c7,eW];omega;have:=hI.kids;simp only[fG,uY,hY];omega
def ans{k}(h:j<=len)(J):q2 n (.rs k m n 0 len) bn (a_ (.v (.int .i64 (j)))) bn J=a_ (.rs k m n 0 j,J):=by
 have e:lE len len bn (a_ (j)) bn=a_ (0,j,len):=by
  simp[lE,j6,h]
 show E9 (λr=>(r,J)) (l6 n (.rs k m n 0 len) bn (a_ (.v (.int .i64 (j)))) bn)=_;simp[l6,ox,e]
def Z6{k}(h:j<len):ct n (.rs k m n 0 len) (.v (.int .i64 (j)))=a_ (.rp k m (j*n)):=by
 show(if 0<=(j:Int)/\(j)<(len:Int) then a_ (bg.rp k m (0+(j:Int).toNat*n)) else bn)=_;rw[if_pos ⟨aa,aa⟩];simp
def ant{k o}(J):cH (.rs k m n o len) J=a_ (.v (.int .i64 (len)),J):=rfl
def He(k m o):yK (.rp k m o)=a_ (.rp k m o):=rfl
def Cw(off k m o):lC off (.rp k m o)=a_ (.rp k m (o+off)):=rfl
section
variable{A B:List bg}{h:cV}{w:bg}{n m K:Nat}{J:List br}
def anq(gz:J[K]?=a_ (.cells (A++(h.cells++[w])++B) bh))(hm:m=(A++(h.cells++[w])++B).length)(ho:h.dA)(hA:A.length=n*13):bz J bh 12 (.rp K m (n*13))=a_ h.bA:=by
 simp only[bz,gz];rw[if_pos hm,aEs ho hA]
def N4(gz:J[K]?=a_ (.cells (A++(h.cells++[w])++B) bh))(hm:m=(A++(h.cells++[w])++B).length)(ho:h.dA)(hA:A.length=n*13):bz J bf 1 (.rp K m (n*13+12))=a_ w:=by
 simp only[bz,gz];rw[if_pos hm,aEt ho hA]
end
def VL(k):∀(a b:List Int),a.length=b.length->fy (fo a.length .i) (a.map λx=>cI (.int k x)) (b.map λx=>cI (.int k x))=a_ (decide (a=b))
 |[],[],_=>rfl
 |[],_::_,h=>aE
 |_::_,[],h=>aE
 |x::a,y::b,h=>by
  simp only[eW,ap6,fG,fy,oh,if_true,VL k a b aZ];congr 1;by_cases I:x=y;subst I;simp;simp[I]
def afc(ht:t.dA)(hu:u.dA):uo [.i,.i,.i,.i,.i,.i,.i,.i] bf (.agg (u.marks.map d_)) (.agg (t.marks.map d_))=a_ (.v (.bool (decide (u.marks=t.marks)))):=by
 have h:=VL .u16 u.marks t.marks (by rw[hu.len,ht.len]);rw[hu.len] at h;show(fy [.i,.i,.i,.i,.i,.i,.i,.i] (u.marks.map d_) (t.marks.map d_)).map (λr=>cI (.bool (bf !=r)))=_;have e:fy [.i,.i,.i,.i,.i,.i,.i,.i] (u.marks.map d_) (t.marks.map d_)=a_ (decide (u.marks=t.marks)):=h;rw[e];simp
def tT:List bg:=Bj.take 12
def arf(ho:u.dA)(J):bL (J++[.cells tT bf]) 12 (.mp J.length 0) u.bA=a_ (J++[.cells u.cells bf]):=by
 have Y:(J++[bw tT bf])[J.length]?=a_ (.cells tT bf):=af
 have V:u.bA.cells.all cr=bh:=by
  show u.cells.all cr=bh;rw[eP];intro c T;simp only[cV.cells,fS,eg] at T
  rcases T with rfl|rfl|rfl|rfl|⟨x,_,rfl⟩<;>rfl
 simp only[bL,Y,fq];rw[if_pos ⟨u0 ho,by show 0+12<=12;omega,V⟩];have:dV tT 0 u.bA.cells=u.cells:=by
  show tT.take 0++u.cells++tT.drop (0+u.cells.length)=u.cells;rw[u0 ho];show []++u.cells++[]=u.cells;simp
 rw[this];simp
def aBG(u:cV)(J):bz (J++[.cells u.cells bf]) bf 1 (.mp J.length 3)=a_ (.v (.int .i32 u.rune)):=by
 have Y:(J++[bw u.cells bf])[J.length]?=a_ (.cells u.cells bf):=af
 simp only[bz,Y];rfl
def aDD{xs}{x}(h:J[id]?=a_ (.tok xs.length 1 21))(hn:xs.length<=1000000):
  ef J 1 4 21 (.sl (xs.map eJ) (.tok id)) (.sl [.v (.int .i32 x)] .exact)=a_ (.sl ((xs++[x]).map eJ) (.tok id),J.set id (.tok (xs.length+1) 1 21)):=by
 have Y:cZ 1 [cI (.int .i32 x)]=bh:=rfl;have V:cZ 1 (xs.map eJ)=bh:=by
  rw[cZ,eP];intro y hy;obtain⟨a,_,rfl⟩:=eg.1 hy;rfl
 have bR:¬([cI (.int .i32 x)]=([]:List bg)):=af
 simp only[ef,gG,ij,iy,Y,V,bR,if_false,if_true,h,cM,eW,hY,true_and,and_self,wN,gf,fG,lu];rw[if_pos aa];rfl
def aaN(p):∀(l:List α) x,x∈l.takeWhile p->p x=bh
 |[],x,h=>au
 |a::l,x,h=>by
  rw[aqb] at h;split at h;rename_i ha
  rcases fS.1 h with rfl|h
  exact ha;exact aaN p l x h;cases h
def aaO(p):∀(l:List α) u,l[(l.takeWhile p).length]?=a_ u->p u=bf
 |[],u,h=>au
 |a::l,u,h=>by
  rw[aqb] at h;split at h;exact aaO p l u aZ;rename_i ha;simp at h;subst h;simpa using ha
def aEy(h:(l.drop (i+1)).takeWhile (nM t)=p):
  (∀k,k<p.length->∃u,l[i+k+1]?=a_ u/\nM t u=bh)/\(∀u,l[i+p.length+1]?=a_ u->nM t u=bf)/\(∀k u,p[k]?=a_ u->l[i+k+1]?=a_ u):=by
 have key:∀(k),k<p.length->(l.drop (i+1))[k]?=p[k]? :=λk S=>by
  have e:l.drop (i+1)=p++(l.drop (i+1)).dropWhile (nM t):=by rw[<-h,List.takeWhile_append_dropWhile]
  rw[e,fT S]
 have akI:∀(k) u,p[k]?=a_ u->l[i+k+1]?=a_ u:=λk u hu=>by
  have S:=gl hu;have:=key k S;rw[s0,hu] at this;rw[<-this];congr 1;omega
 refine⟨λk S=>?_,λu hu=>?_,akI⟩;have hu:p[k]?=a_ p[k]:=cz S;refine⟨p[k],akI k _ hu,?_⟩;exact aaN _ _ _ (by rw[h];exact abL S);refine aaO (nM t) (l.drop (i+1)) u ?_;rw[h,s0,<-hu];congr 1;omega
def aED(h:(l.drop (i+1)).takeWhile (nM t)=p)(Q:i<l.length):i+p.length<l.length:=by
 have Y:p.length<=(l.drop (i+1)).length:=by rw[<-h];exact(List.takeWhile_sublist _).length_le
 rw[tX] at Y;omega
def aCe(J)(hn:n<=1000000):Fo J 1 4 21 [.v (.int .i32 0)] (.v (.int .i64 0)) (.v (.int .i64 (n)))=a_ (.sl [] (.tok J.length),J++[.tok 0 1 21]):=by
 show(if(0:Int)=0/\0<=(n:Int)/\(n:Int)*(4:Nat)<=140737488355328/\(n:Int)<=9223372036854775807/\[cI (.int .i32 0)].length=1/\1≠0 then _ else bn)=_;rw[if_pos ⟨rfl,aa,aa,aa,rfl,ag⟩]
def aES(hv:cC v (l.map nY))(ht:l[i]?=a_ t)(h:∀k u,p[k]?=a_ u->l[i+k+1]?=a_ u)(hl:i+p.length<l.length)(ho:∀t∈l,t.dA)(J):
  q2 12 v (a_ (.v (.int .i64 (i)))) (a_ (.v (.int .i64 ((i+p.length+1:Nat):Int)))) bn J=a_ (.sl ((t::p).map nY) .no,J):=by
 rcases hv with rfl|⟨_,hn⟩
 have O:lE (l.map nY).length (l.map nY).length (a_ (i)) (a_ ((i+p.length+1:Nat):Int)) bn=a_ (i,i+p.length+1,(l.map nY).length):=by
  rw[cM];simp only[lE,j6,Bx,CO,ke,if_false];rw[if_pos ⟨aa,aa⟩];dsimp only;rw[if_pos ⟨aa,aa⟩];simp;omega
 have jN:((l.map nY).all λx=>x.cells.length==12)=bh:=by
  rw[eP];intro x I;obtain⟨u,hu,rfl⟩:=eg.1 I;have:=u0 (ho u hu);simpa[nY,jK] using this
 have axa:((l.map nY).take (i+p.length+1)).drop i=(t::p).map nY:=by
  apply E5;intro k;rw[s0]
  rcases en k (p.length+1) with q|q
  rw[CT aa];cases k with
  |zero=>simp[ht]
  |succ k=>
   have S:p[k]?=a_ p[k]:=cz aa;have:=h k _ S;simp only[fR,fG,yj,S];rw[show i+(k+1)=i+k+1 by omega,this]
  rw[jU (by rw[p0];omega),jU ah]
 show E9 (λr=>(r,J)) (l6 12 (.sl (l.map nY) .no) (a_ (.v (.int .i64 (i)))) (a_ (.v (.int .i64 ((i+p.length+1:Nat):Int)))) bn)=_;have rF:∀n:Int,ox (a_ (.v (.int .i64 n)))=a_ (a_ n):=λn=>rfl;have ql:ox bn=a_ bn:=rfl;unfold l6;rw[rF,rF,ql];dsimp only;rw[O];dsimp only;rw[if_pos jN,axa];have MN:CB .no (l.map nY).length i (i+p.length+1) (l.map nY).length (Option.isSome (bn:Option Int))=.no:=by
  unfold CB;rw[if_neg af];split;split<;>rfl;rfl
 rw[MN];rfl;have:=congrArg Ky hn;simp at this;subst this;simp at hl
def w4.seg(hv:w4 O v l)(ht:l[i]?=a_ t)(h:∀k u,p[k]?=a_ u->l[i+k+1]?=a_ u)(hl:i+p.length<l.length)(ho:∀t∈l,t.dA):
  ∃v',(∀J,q2 12 v (a_ (.v (.int .i64 (i)))) (a_ (.v (.int .i64 ((i+p.length+1:Nat):Int)))) bn J=a_ (v',J))/\w4 O v' (t::p):=by
 rcases hv with hv|⟨k,Z,off,rfl,S,T⟩
 exact⟨_,λJ=>aES hv ht h hl ho J,bE (bE rfl)⟩;have hb':lE l.length l.length (a_ (i)) (a_ ((i+p.length+1:Nat):Int)) bn=a_ (i,i+p.length+1,l.length):=by
  simp only[lE,j6,Bx,CO,ke,if_false];rw[if_pos ⟨aa,aa⟩];dsimp only;rw[if_pos ⟨aa,aa⟩];simp;omega
 have jN:∀(j) u,(t::p)[j]?=a_ u->l[i+j]?=a_ u:=λj u hu=>by
  cases j with
  |zero=>cases hu;exact ht
  |succ j=>exact h j u hu
 refine⟨.rs k Z.length 12 (off+i*12) (t::p).length,λJ=>?_,bF ⟨k,Z,off+i*12,rfl,S,λj u hu=>?_⟩⟩;show E9 (λr=>(r,J)) (l6 12 (.rs k Z.length 12 off l.length) (a_ (.v (.int .i64 (i)))) (a_ (.v (.int .i64 ((i+p.length+1:Nat):Int)))) bn)=_;have rF:∀n:Int,ox (a_ (.v (.int .i64 n)))=a_ (a_ n):=λn=>rfl;have ql:ox bn=a_ bn:=rfl;unfold l6;rw[rF,rF,ql];dsimp only;rw[if_pos ⟨rfl,rfl⟩,hb'];dsimp only;by_cases xy:i=0;subst xy;rw[if_pos rfl];simp;rw[if_neg xy,if_pos aa];simp;omega;have:=T (i+j) u (jN j u hu);rw[show off+i*12+j*12=off+(i+j)*12 by omega];exact this
end
section
variable{p:cP}
def asu(h:p.tail=.no):eM p.kv:=by
 unfold cP.kv;split;exact mJ;rw[h];exact k6 λx I c T=>by
  obtain⟨y,_,rfl⟩:=eg.1 I;rw[dP.1 (show c∈[bq y] from T)];exact dn _
def aes(h:p.tail=.no):∀c∈p.cells,eM c:=λc T=>by
 simp only[q7,fS,p4,or_false] at T
 rcases T with rfl|rfl|rfl|rfl|rfl
 exact dn _;exact dn _;exact dn _;exact dn _;exact asu h
def asy(h:p.tail=.no):eM p.bA:=Ip (aes h)
def FA{v}{ps}(h:s_ v ps):eM v:=by
 rcases h.v with rfl|⟨rfl,_⟩
 exact k6 λx I c T=>by
  obtain⟨p,J,rfl⟩:=eg.1 I;exact aes (h.no p J) c T
 exact mJ
def vl(J:List br)(v:bg)(st:List Int):Prop:=(v=.bp/\st=[])\/∃k Z,v=.rs k Z.length 1 0 st.length/\J[k]?=a_ (.cells Z bh)/\st.length<=Z.length/\∀(i:Nat) x,st[i]?=a_ x->Z[i]?=a_ (bq x)
def vl.app{J l}{v}{st}(h:vl J v st):vl (J++l) v st:=by
 rcases h with h|⟨k,Z,Y,V,h3,h4⟩
 exact bE h;exact bF ⟨k,Z,Y,bT V,h3,h4⟩
@[go_sem]def vl.len{J}{v}{st}(h:vl J v st):∀J,cH v J=a_ (.v (.int .i64 (st.length:Int)),J):=λJ=>by
 rcases h with⟨rfl,rfl⟩|⟨k,Z,rfl,_⟩<;>rfl
def vl.lo{J}{v}{st}{n}(h:vl J v st)(hn:n<=st.length):∃u,q2 1 v (a_ (.v (.int .i64 (n)))) bn bn J=a_ (u,J)/\wV J u (st.drop n):=by
 rcases h with⟨rfl,rfl⟩|⟨k,Z,rfl,S,bK,T⟩
 obtain rfl:n=0:=aKu
 exact⟨.bp,rfl,bE ⟨rfl,rfl⟩⟩;have O:lE st.length st.length (a_ (n)) bn bn=a_ (n,st.length,st.length):=by
  simp only[lE,j6,Bx,CO,ke,if_false];rw[if_pos ⟨aa,aa⟩];simp
 have e:q2 1 (.rs k Z.length 1 0 st.length) (a_ (.v (.int .i64 (n)))) bn bn J=a_ (if n=0 then .rs k Z.length 1 0 st.length else if n<st.length then .rs k Z.length 1 (0+n*1) (st.length-n) else .sl [] .no,J):=by
  show E9 (λr=>(r,J)) (l6 1 (.rs k Z.length 1 0 st.length) (a_ (.v (.int .i64 (n)))) bn bn)=_;have rF:∀n:Int,ox (a_ (.v (.int .i64 n)))=a_ (a_ n):=λn=>rfl;have ql:ox bn=a_ bn:=rfl;unfold l6;rw[rF,ql];dsimp only;rw[if_pos ⟨rfl,rfl⟩,O];dsimp only;split;rfl;split<;>rfl
 refine⟨_,e,?_⟩;split;rename_i z;subst z;exact bF (bF ⟨k,Z,0,rfl,S,λi x I=>by rw[gk];exact T i x I⟩);split;refine bF (bF ⟨k,Z,n,af,S,λi x I=>?_⟩);rw[s0] at I;exact T _ x I;have:st.drop n=[]:=sZ aa;rw[this];exact bF (bE ⟨.no,rfl⟩)
def vl.push{J}{v}{st}{n}(h:vl J v st)(hn:n<=st.length)(hs:st.length<=100000)(x):∃u u' bl,q2 1 v bn (a_ (.v (.int .i64 (n)))) bn J=a_ (u,J)/\p7 J 1 8 3 u (.sl [.v (.int .i64 x)] .exact)=a_ (u',bl)/\vl bl u' (st.take n++[x]):=by
 rcases h with⟨rfl,rfl⟩|⟨k,Z,rfl,S,bK,T⟩
 obtain rfl:n=0:=aKu
 refine⟨.bp,.rs J.length 1 1 0 1,J++[.cells [bq x] bh],rfl,rfl,bF ⟨J.length,[bq x],rfl,af,af,λi y hy=>?_⟩⟩
 rcases i with _|i
 simp at hy;subst hy;rfl;simp at hy;have hl:=gl S;refine⟨.rs k Z.length 1 0 n,.rs k (lS Z n [bq x]).length 1 0 (n+1),J.set k (.cells (lS Z n [bq x]) bh),ans hn J,?_,bF ⟨k,lS Z n [bq x],?_,bU hl,?_,λi y hy=>?_⟩⟩;show gG J 1 8 3 (.rs k Z.length 1 0 n) (.sl [.v (.int .i64 x)] .exact)=_;have Y:cZ 1 [cI (.int .i64 x)]=bh:=rfl;have h3:¬([cI (.int .i64 x)]=([]:List bg)):=af
 have hf:eF [cI (.int .i64 x)]=[bq x]:=rfl;simp only[gG,ij,iy,Y,h3,if_false,and_self,wN,if_true,true_and,S,eW,hY,hf,Nat.mul_one];rw[if_pos aa];simp[CX hn];simp[lS,CX hn];omega;unfold lS
 rcases Nat.lt_trichotomy i n with z|z|z
 rw[dR,fT ah,CT z];rw[fT ah,CT z] at hy;exact T i y hy;subst z;rw[dR,fY ah];rw[fY ah] at hy;have e1:i-(Z.take i).length=0:=ah
 have e2:i-(st.take i).length=0:=ah
 rw[e2] at hy;rw[e1];simp at hy⊢;rw[hy];rw[jU ah] at hy;cases hy
def qw(ps:List cP):Nat->List Int->Prop
 |0,st=>st=[]
 |i+1,st=>∃p q3,ps[i]?=a_ p/\qw ps i (q3++p.kids)/\st=q3++[(i:Int)]
def aot{ps}:∀{i} {st},qw ps i st->st.length<=i
 |0,st,h=>by rw[show st=[] from h];exact cj _
 |i+1,st,⟨p,q3,_,Y,V⟩=>by
  have:=aot Y;rw[V];simp at this⊢;omega
def acA(ps:List cP)(r:bg):Prop:=∃b:Bool,r=b/\(b=bh->ps=[]\/∃x,qw ps ps.length [x])
@[go_sem]def zy(J)(p:cP):bL (J++[.cells [(0:Int),(0:Int),(0:Int),.v (.string ⟨#[]⟩),.bp] bf]) 5 (.mp J.length 0) (.agg p.cells)=a_ (J++[.cells p.cells bf]):=by
 have Y:(dG p.cells).cells.length=5:=rfl;have V:(dG p.cells).cells.all cr=bh:=by
  have:=JC p;simp only[cZ,pY,sY,Bool.and_true,fQ] at this;exact this.2
 simp only[bL,fY (cj _),mU,nA,fq];rw[if_pos ⟨Y,af,V⟩];simp[dV,jK,q7]
def anb{G}(cA:gm G){v}{ps}(h:s_ v ps):dM G bC 132 [v] (acA ps):=by
 refine ek (ai4.go ?_);have ln:=h.v.cH;rw[cM] at ln;have c6:=h.len;have fin:∀(J) (b),(b=bh->ps=[]\/∃x,qw ps ps.length [x])->∃n bV,di J n b=a_ bV/\acA ps bV:=λJ b O=>by
  obtain⟨n,hn⟩:=(bH (.bool b):b7 J _ _).done;exact⟨n,_,hn,b,rfl,O⟩
 refine wy ?_;refine dj (λi e J=>∃st bx,e=[(0,v),(3,bx),(7,v),(8,bq ps.length),(9,bq i)]/\qw ps i st/\vl J bx st) ps.length ⟨[],.bp,rfl,rfl,bE ⟨rfl,rfl⟩⟩ ?_ ?_;rintro i e J Q ⟨st,bx,rfl,hs,ho⟩;obtain⟨p,eI⟩:=dQ Q;have lO:=h.ok i p eI;have pR:=h.no p (cG eI);have vY:=aot hs;have e1:ct 5 v (.v (.int .i64 (i)))=a_ (.fp p.cells 0):=h.v.cE (x:=p.bA) aKT rfl;have I:vl (J++[.cells p.cells bf]) bx st:=ho.app;have s1:=zy J p;have aAR:bz (J++[.cells p.cells bf]) bh 5 (.mp J.length 0)=a_ (.agg p.cells):=by
  simp only[bz,fY (cj _),mU,nA];rfl
 have l4:bz (J++[.cells p.cells bf]) bf 1 (.mp J.length 4)=a_ p.kv:=by
  simp only[bz,fY (cj _),mU,nA];rfl
 have kr:=lO.kids;generalize J++[.cells p.cells bf]=g at I s1 aAR l4;have w1:de.wrap ((st.length:Int)-(p.kids.length:Int))=(st.length:Int)-(p.kids.length:Int):=fO aa aa;refine nV (jy (ari cA lO pR) (bX (asy pR) dc) ?_);rintro r ⟨b,rfl⟩;refine wy ?_;cases b with
 |false=>
  exact wy (fin _ bf λq=>ay)
 |true=>
  refine wy ?_;refine dm (λq=>?_) λq=>?_;exact fin _ bf λq=>ay
  have bK:p.kids.length<=st.length:=aq
  have lH:(st.length:Int)-(p.kids.length:Int)=((st.length-p.kids.length:Nat):Int):=aa
  obtain⟨u,c1,c2⟩:=I.lo (n:=st.length-p.kids.length) aa;have kv:wV g p.kv p.kids:=by
   unfold cP.kv;split;rename_i z;exact bE ⟨rfl,z⟩;exact bF (bE ⟨_,rfl⟩)
  rw[lH] at q⊢;refine wy (ck (atF c2 kv ah aa) ?_);rintro _ g2 ⟨⟨b2,rfl,ju⟩,hh⟩;rw[hh];clear hh;refine wy ?_;cases b2 with
  |false=>
   exact wy (fin _ bf λq=>ay)
  |true=>
   have hd:=ju rfl;obtain⟨u1,u2,g3,d1,d2,d3⟩:=I.push (n:=st.length-p.kids.length) aa aa (i);refine wy ?_;refine⟨_,_,rfl,⟨p,st.take (st.length-p.kids.length),eI,?_,rfl⟩,d3⟩;have z:st.take (st.length-p.kids.length)++p.kids=st:=(congrArg (λy=>st.take (st.length-p.kids.length)++y) hd.symm).trans (OP _ _);rw[z];exact hs
 rintro e J ⟨st,bx,rfl,hs,ho⟩;refine nV ?_;refine dm (λq=>?_) λq=>?_;obtain⟨x,rfl⟩:∃x,st=[x]:=E6.1 aq;exact fin _ bh λ_=>bF ⟨x,hs⟩;refine wy (fin _ _ λz=>bE ?_);have:(ps.length:Int)=0:=eq_of_beq z;exact List.length_eq_zero_iff.1 aa
end
section
variable{l:List (List UInt8)}
@[go_sem]def zl(l:List (List UInt8)):cZ 1 (l.map bu)=bh:=by
 rw[cZ,eP];intro x I;obtain⟨t,ht,rfl⟩:=eg.1 I;rfl
def Dt:∀x∈l.map bu,∀c∈x.cells,eM c:=λx I c T=>by
 obtain⟨s,_,rfl⟩:=eg.1 I;rw[dP.1 (show c∈[bu s] from T)];exact dn _
def qI{v}(h:cC v (l.map bu)):eM v:=by
 rcases h with rfl|⟨rfl,_⟩
 exact k6 Dt;exact mJ
def Ac{J}{v}{xs}{n}{e}(h:cT J v xs n e)(T:∀x∈xs,∀c∈x.cells,eM c):∃v',cC v' xs/\kZ v v'/\eM v':=by
 rcases h with⟨rfl,rfl⟩|⟨id,rfl,_⟩
 exact⟨.bp,bF ⟨rfl,rfl⟩,mJ,mJ⟩;exact⟨.sl xs .no,bE rfl,k6 T,k6 T⟩
def aq0{G}{k}{J}{bx}(S:J[k]?=a_ (.cells [bx] bf))(hA:cT J bx (l.map bu) 1 9)(hl:l.length<=100000)(s):
  cq G bC 125 [bu s,.mp k 0] J λr bl=>∃cU,bl[k]?=a_ (.cells [cU] bf)/\cT bl cU ((if l.any (s== ·) then l else l++[s]).map bu) 1 9:=by
 refine aiZ.go ?_;obtain⟨v',Y,V,h3⟩:=Ac hA Dt;refine wy ?_;refine dX (Lo Y h3 aa s) ?_;refine wy (cN (λq=>?_) λq=>?_);have q':(l.any (s== ·))=bf:=ak
 obtain⟨cl,g2,e2,fJ,bR,bK,hk2⟩:=nc (x:=bu s) (b9:=16) hA (zl l) rfl ag ag ah;have kb:g2[k]?=a_ (.cells [bx] bf):=hk2 _ _ S λxs z=>by
  rcases hA with⟨q1,_⟩|⟨id,q1,bt⟩
  rw[q1] at z;cases z;rw[q1] at z;cases z;rw[S] at bt;cases bt
 have ho:cr cl=bh:=aKG
 have s1:=q4 ho kb;have ab:eV 1 [bu s]=a_ (.sl [bu s] .exact):=rfl;refine qx @q (eL S) @ab @e2 @s1 ?_;refine⟨cl,bU (gl kb),?_⟩;rw[if_neg (by rw[q'];decide),gf]
 rcases fJ with z|⟨id,b_,z2⟩
 exact bE z;refine bF ⟨id,b_,?_⟩;rw[bD];exact z2;rintro rfl;rw[kb] at z2;cases z2;have q':(l.any (s== ·))=bh:=ak
 refine e5 @q ?_;refine⟨bx,S,?_⟩;rw[if_pos q'];exact hA
def aqw(ps:List cP)(r:bg):Prop:=∃l:List (List UInt8),cC r (l.map bu)/\l.length<=ps.length/\∀s∈l,uO s=bh
def alP{G}{v}{ps}(h:s_ v ps):dM G bC 66 [v] (aqw ps):=by
 refine ek (aiy.go ?_);have ln:=h.v.cH;rw[cM] at ln;have c6:=h.len;refine wy ?_;refine dj (λi e J=>∃l bx,e=[(3,.mp 0 0),(4,.fn (.func 125) [] [.mp 0 0]),(8,v),(9,bq ps.length),(10,bq i)]/\l.length<=i/\(∀s∈l,uO s=bh)/\J[0]?=a_ (.cells [bx] bf)/\cT J bx (l.map bu) 1 9) ps.length ⟨[],.bp,rfl,cj _,af,rfl,bE ⟨rfl,rfl⟩⟩ ?_ ?_;rintro i e J Q ⟨l,bx,rfl,hl,hn,h0,hA⟩;obtain⟨p,eI⟩:=dQ Q;have lO:=h.ok i p eI;have e1:ct 5 v (i:Int)=a_ (.fp p.cells 0):=h.v.cE (x:=p.bA) aKT rfl;have e2:∀J,bz J bh 5 (.fp p.cells 0)=a_ (.agg p.cells):=λJ=>rfl;have s1:=zy J p;have l0:bz (J++[.cells p.cells bf]) bf 1 (.mp J.length 0)=a_ (.v (.int .i64 p.kind)):=by
  simp only[bz,fY (cj _),mU,nA];rfl
 have l3:bz (J++[.cells p.cells bf]) bf 1 (.mp J.length 3)=a_ (bu p.name):=by
  simp only[bz,fY (cj _),mU,nA];rfl
 have IG:(J++[bw p.cells bf])[0]?=a_ (.cells [bx] bf):=bT h0;have vI:cT (J++[bw p.cells bf]) bx (l.map bu) 1 9:=by
  rcases hA with z|⟨id,b_,z2⟩
  exact bE z;exact bF ⟨id,b_,bT z2⟩
 refine wy (cN (λq=>?_) λq=>?_);refine wy (ck (aq0 IG vI aa p.name) ?_);rintro r g2 ⟨cU,k1,k2⟩;have qQ:uO p.name=bh:=by
  have q':p.kind=1:=ak
  rcases lO.1 with z|z|z
  exact z.2.2.2.1;omega;omega
 refine fF ?_;refine⟨_,cU,rfl,?_,?_,k1,k2⟩;split;omega;simp;omega;intro s hs;split at hs;exact hn s hs
 rcases gj.1 hs with z|z
 exact hn s z;rw[dP.1 z];exact qQ;refine e5 @q ?_;exact⟨l,bx,rfl,aa,hn,IG,vI⟩;rintro e J ⟨l,bx,rfl,hl,hn,h0,hA⟩;refine wy ?_
 rcases hA with⟨rfl,z⟩|⟨id,rfl,_⟩
 obtain⟨n,oT⟩:=(ez:b7 J _ _).done;exact⟨n,_,oT,l,bF ⟨rfl,z⟩,hl,hn⟩;obtain⟨n,oT⟩:=(gU (iC λa _=>bH _):b7 J _ _).done;exact⟨n,_,oT,l,bE rfl,hl,hn⟩
end
section
variable{i:Nat}
def x9(ps:List cP):Nat->Int->Nat
 |0,_=>0
 |f+1,i=>match ps[i.toNat]? with
  |none=>0
  |some p=>3+(p.kids.map λk=>x9 ps f k+1).sum
def aFZ{ps}(h:q9 ps):∀(n f g) (i),i.toNat<n->i.toNat<f->i.toNat<g->x9 ps f i=x9 ps g i:=by
 intro n
 induction n with
 |zero=>intro f g i h0;omega
 |succ n ih=>
  intro f g i h0 Y V;obtain⟨f,rfl⟩:∃f',f=f'+1:=⟨f-1,aa⟩;obtain⟨g,rfl⟩:∃g',g=g'+1:=⟨g-1,aa⟩;unfold x9;cases J:ps[i.toNat]? with
  |none=>rfl
  |some p=>
   dsimp only;congr 2;refine Bv λk S=>?_;have:=(h _ p J).2 k S;rw[ih f g k aa aa aa]
def sz(ps:List cP)(i:Int):Nat:=x9 ps (i.toNat+1) i
def aoG{ps}(h:q9 ps){p}(J:ps[i]?=a_ p):sz ps (i)=3+(p.kids.map λk=>sz ps k+1).sum:=by
 show x9 ps (i+1) (i)=_;unfold x9;rw[yf,J];dsimp only;congr 2;refine Bv λk S=>?_;have:=(h _ p J).2 k S;rw[aFZ h (i+1) i (k.toNat+1) k aa aa aa];rfl
def aow{ps}(h:q9 ps):∀{i} {st},qw ps i st->(st.map λk=>sz ps k+1).sum<=4*i
 |0,st,hs=>by rw[show st=[] from hs];simp
 |i+1,st,⟨p,q3,J,Y,V⟩=>by
  have:=aow h Y;rw[V];simp only[gf,aqa,fG,lu,zQ,HJ] at this⊢;rw[aoG h J];omega
structure p6(k:Nat)(v:bg)(l:List dF)(out:bg)(J:List br):Prop where
 b:J[k]?=a_ (.cells [v,out] bf)
 app:cT J out (l.map mT) 5 233
 ok:∀x∈l,x.dA
def iZ(k:Nat)(J bl:List br):Prop:=J.length<=bl.length/\∀(j:Nat) Z fz,j≠k->J[j]?=a_ (.cells Z fz)->bl[j]?=a_ (.cells Z fz)
def iZ.refl(k)(J):iZ k J J:=⟨cj _,λ_ _ _ _ h=>h⟩
def iZ.trans{k}{a b c}(h:iZ k a b)(q:iZ k b c):iZ k a c:=⟨h_ h.1 q.1,λj x f hj e=>q.2 j x f hj (h.2 j x f hj e)⟩
def iZ.app{k}{J l}:iZ k J (J++l):=⟨af,λ_ _ _ _ h=>bT h⟩
def p6.app'{k}{v out}{l}{J x}(h:p6 k v l out J):p6 k v l out (J++x):=by
 refine⟨bT h.b,?_,h.ok⟩
 rcases h.app with z|⟨id,b_,z2⟩
 exact bE z;exact bF ⟨id,b_,bT z2⟩
section
variable{G:Cells}{k:Nat}{v out:bg}{l:List dF}{J:List br}
@[go_sem]def p6.GD(h:p6 k v l out J):bz J bf 1 (.mp k 0)=a_ v:=aR
@[go_sem]def p6.iW(h:p6 k v l out J):bz J bf 1 (.mp k 1)=a_ out:=aR
def p6.push(h:p6 k v l out J)(x)(I:x.dA)(hl:l.length<=100000):∃o' g,ef J 5 48 233 out (.sl [.agg x.cells] .exact)=a_ (o',g)/\∃g',bL g 1 (.mp k 1) o'=a_ g'/\p6 k v (l++[x]) o' g'/\iZ k J g':=by
 obtain⟨cl,g2,e2,fJ,bR,bK,hk2⟩:=nc (b9:=48) h.app (Zi l) (Sm x) ag ag ah;have kb:g2[k]?=a_ (.cells [v,out] bf):=hk2 _ _ h.b λxs z=>by
  rcases h.app with⟨q1,_⟩|⟨id,q1,bt⟩
  rw[q1] at z;cases z;rw[q1] at z;cases z;rw[h.b] at bt;cases bt
 have ho:cr cl=bh:=aKG
 have eS:cl.cells=[cl]:=aKF
 have s2:bL g2 1 (.mp k 1) cl=a_ (g2.set k (.cells [v,cl] bf)):=by
  simp only[bL,kb,fq,eS];simp[ho,dV]
 refine⟨cl,g2,e2,_,s2,⟨bU (gl kb),?_,λy hy=>?_⟩,by simpa using bK,λj Z fz hj q=>?_⟩;rw[gf]
 rcases fJ with z|⟨id,b_,z2⟩
 exact bE z;refine bF ⟨id,b_,?_⟩;rw[bD];exact z2;rintro rfl;rw[kb] at z2;cases z2
 rcases gj.1 hy with z|z
 exact h.ok y z;rw[dP.1 z];exact I;rw[bD (eX hj)];exact hk2 _ _ q λxs z=>by
  rcases h.app with⟨q1,_⟩|⟨id,q1,bt⟩
  rw[q1] at z;cases z;rw[q1] at z;cases z;rw[q] at bt;cases bt
@[go_sem]def acZ(x:dF):eV 5 [.agg x.cells]=a_ (.sl [.agg x.cells] .exact):=UI x
def KO(k:Nat)(v:bg)(l:List dF)(n:Nat)(J bl:List br):Prop:=∃l2 o2,p6 k v (l++l2) o2 bl/\l2.length<=n/\iZ k J bl
def Up(G:Cells)(k:Nat)(v:bg)(ps:List cP)(i:Int):Prop:=∀(b:Bool) l out J,p6 k v l out J->l.length+sz ps i<=100000->cq G bC 246 [.mp k 0,i,b] J λr bl=>KO k v l (sz ps i) J bl
def Gy(p:cP)(g):wV g p.kv p.kids:=by
 unfold cP.kv;split;rename_i z;exact bE ⟨rfl,z⟩;exact bF (bE ⟨_,rfl⟩)
def zz{f:Int->Nat}{ks:List Int}{j}{x}(I:ks[j]?=a_ x):((ks.take (j+1)).map f).sum=((ks.take j).map f).sum+f x:=by
 rw[wH,I];simp
def CA(f:Int->Nat)(ks:List Int)(j):((ks.take j).map f).sum<=(ks.map f).sum:=by
 conv=>rhs;rw[<-OP j ks]
 rw[gf,aqa];omega
def aA0{ps}(h:s_ v ps){p}(eI:ps[i]?=a_ p)(ih:∀x∈p.kids,Up G k v ps x):Up G k v ps (i):=by
 intro b l out J hS hn;have lO:=h.ok i p eI;have pR:=h.no p (cG eI);have kr:=lO.kids;have dD:=aoG h.ok eI;refine ajP.go ?_;have aC1:dF.dA ⟨2,0,0,0,[]⟩:=⟨CS _,bF (bE ⟨bE rfl,rfl,rfl,rfl⟩)⟩;have aE9:dF.dA ⟨3,0,0,0,[]⟩:=⟨CS _,bF (bE ⟨bF (bE rfl),rfl,rfl,rfl⟩)⟩;have aC6:dF.dA ⟨4,0,0,0,[]⟩:=⟨CS _,bF (bE ⟨bF (bF rfl),rfl,rfl,rfl⟩)⟩;have afu:∀c:Int,dJ [.v (.int .i64 0),.v (.int .i64 0),.v (.int .i64 0),.v (.int .i64 0),.v (.string ⟨#[]⟩)] [(0,1,.v (.int .i64 c))]=a_ (iD ⟨c,0,0,0,[]⟩):=λc=>rfl;refine eu (λe g=>e=[(0,.mp k 0),(1,.v (.int .i64 (i))),(2,.v (.bool b))]/\KO k v l 1 J g) ?_ ?_;cases b with
 |true=>
  obtain⟨o1,g1,e1,g2,s1,fe,qL⟩:=hS.push _ aC1 aa;refine wx ?_;exact⟨trivial,_,o1,fe,af,qL⟩
 |false=>
  refine wx ?_;exact⟨trivial,[],out,by rw[gd];exact hS,af,iZ.refl _ _⟩
 rintro e g ⟨rfl,l1,o1,fe,hl1,qL⟩;refine eu (λe g2=>∃m,e=[(0,.mp k 0),(2,.v (.bool b)),(6,.mp m 0)]/\m≠k/\g2[m]?=a_ (.cells p.cells bf)/\p6 k v (l++l1) o1 g2/\iZ k J g2) ?_ ?_;have e1:ct 5 v (.v (.int .i64 (i)))=a_ (.fp p.cells 0):=h.v.cE (x:=p.bA) aKT rfl;have s1:=zy g p;refine wx ?_;have:=gl fe.b;exact⟨g.length,rfl,aa,af,fe.app',qL.trans iZ.app⟩;rintro e g2 ⟨m,rfl,I1,hm,gi,sx⟩;have m0:∀bl,iZ k g2 bl->bl[m]?=a_ (.cells p.cells bf):=λbl O=>O.2 _ _ _ I1 hm;have fA:∀bl,bl[m]?=a_ (.cells p.cells bf)->bz bl bf 1 (.mp m 0)=a_ (.v (.int .i64 p.kind))/\bz bl bf 1 (.mp m 1)=a_ (.v (.int .i64 p.low))/\bz bl bf 1 (.mp m 2)=a_ (.v (.int .i64 p.high))/\bz bl bf 1 (.mp m 3)=a_ (bu p.name)/\bz bl bf 1 (.mp m 4)=a_ p.kv:=λbl q=>by
  simp only[bz,q];exact⟨rfl,rfl,rfl,rfl,rfl⟩
 refine eu (λe g3=>e=[(0,.mp k 0),(2,.v (.bool b))]/\KO k v l (sz ps (i)-1) J g3) ?_ ?_;refine wy ?_
 rcases lO.1 with⟨S,mb,y3,qQ,aIF⟩|⟨S|S,mb,y3,qQ,hk2,_⟩|⟨S,qQ,gR,h0,Y,V⟩
 have f1:dJ [.v (.int .i64 0),.v (.int .i64 0),.v (.int .i64 0),.v (.int .i64 0),.v (.string ⟨#[]⟩)] [(0,1,.v (.int .i64 1)),(4,1,bu p.name)]=a_ (iD ⟨1,0,0,0,p.name⟩):=rfl;obtain⟨mP,g4,eS,g5,jT,AD,yX⟩:=gi.push ⟨1,0,0,0,p.name⟩ ⟨CS _,bE ⟨rfl,qQ,rfl,rfl⟩⟩ ah;refine wx ?_;rw[dR] at AD;exact⟨trivial,_,mP,AD,ah,sx.trans yX⟩;have lk:=zb pR (h_ kr ag);have kv:∀g,wV g p.kv p.kids:=Gy p;refine wy ?_;refine dj (λj e g=>e=[(0,.mp k 0),(2,.v (.bool b)),(48,p.kv),(49,bq p.kids.length),(50,bq j)]/\∃l3 j9,p6 k v (l++l3) j9 g/\l3.length<=1+((p.kids.take j).map λx=>sz ps x+1).sum/\iZ k J g) p.kids.length ⟨rfl,l1,o1,gi,aa,sx⟩ ?_ ?_
 · rintro j e g hj ⟨rfl,l3,j9,oR,pN,tu⟩
   obtain⟨x,I⟩:=dQ hj;have rI:=cG I;obtain⟨x0,x1⟩:=lO.2 x rI;obtain⟨xn,rfl⟩:=o8 x0;have kQ:=gl eI;obtain⟨q,hq⟩:∃q,ps[xn]?=a_ q:=⟨ps[xn]' aa,cz aa⟩;have e1:ct 5 v (.v (.int .i64 (xn)))=a_ (.fp q.cells 0):=h.v.cE (x:=q.bA) aJL rfl;have dr:∀J,bz J bf 1 (.fp q.cells 0)=a_ (.v (.int .i64 q.kind)):=λJ=>rfl;obtain⟨pk,k1,k2⟩:=(kv g).get I;have uZ:=zz (f:=λx=>sz ps x+1) I;have sl:=CA (λx=>sz ps x+1) p.kids (j+1);have next:∀(c),cq G bC 246 [.mp k 0,.v (.int .i64 (xn)),.v (.bool c)] g λr g'=>KO k v (l++l3) (sz ps (xn)) g g':=λc=>ih _ rI c (l++l3) j9 g oR ah;have fin:∀g',KO k v (l++l3) (sz ps (xn)) g g'->∃l3 j9,p6 k v (l++l3) j9 g'/\l3.length<=1+((p.kids.take (j+1)).map λx=>sz ps x+1).sum/\iZ k J g':=λg' ⟨l4,mP,b_,z2,z3⟩=>⟨l3++l4,mP,by rw[<-dR];exact b_,by simp only[ec];omega,tu.trans z3⟩;refine nV ?_;refine dm (λbt=>?_) λbt=>?_
   · refine ck (next bh) ?_
     intro r g' D;refine fF ?_;exact⟨rfl,fin g' D⟩
   · refine wx (ck (next _) ?_)
     intro r g' D;refine fF ?_;exact⟨rfl,fin g' D⟩
 rintro e g ⟨rfl,l3,j9,oR,pN,tu⟩;rw[n3] at pN;refine e5 @bq.eq_1 ?_;exact⟨trivial,l3,j9,oR,aa,tu⟩;have lk:=zb pR (h_ kr ag);have kv:∀g,wV g p.kv p.kids:=Gy p;refine wy ?_;refine dj (λj e g=>e=[(0,.mp k 0),(2,.v (.bool b)),(81,p.kv),(82,bq p.kids.length),(83,bq j)]/\∃l3 j9,p6 k v (l++l3) j9 g/\l3.length<=1+((p.kids.take j).map λx=>sz ps x+1).sum/\iZ k J g) p.kids.length ⟨rfl,l1,o1,gi,aa,sx⟩ ?_ ?_;rintro j e g hj ⟨rfl,l3,j9,oR,pN,tu⟩;obtain⟨x,I⟩:=dQ hj;have rI:=cG I;obtain⟨x0,x1⟩:=lO.2 x rI;obtain⟨xn,rfl⟩:=o8 x0;have kQ:=gl eI;obtain⟨q,hq⟩:∃q,ps[xn]?=a_ q:=⟨ps[xn]' aa,cz aa⟩;have e1:ct 5 v (.v (.int .i64 (xn)))=a_ (.fp q.cells 0):=h.v.cE (x:=q.bA) aJL rfl;have dr:∀J,bz J bf 1 (.fp q.cells 0)=a_ (.v (.int .i64 q.kind)):=λJ=>rfl;obtain⟨pk,k1,k2⟩:=(kv g).get I;have uZ:=zz (f:=λx=>sz ps x+1) I;have sl:=CA (λx=>sz ps x+1) p.kids (j+1);refine wy (cN (λbt=>?_) λbt=>?_);obtain⟨mP,g4,eS,g5,jT,AD,yX⟩:=oR.push _ aC6 ah;refine wx ?_;refine ck (ih _ rI _ (l++l3++[⟨4,0,0,0,[]⟩]) mP g5 AD ah) ?_;rintro r g' ⟨l4,uP,b_,z2,z3⟩;refine wx ?_;exact⟨rfl,l3++[⟨4,0,0,0,[]⟩]++l4,uP,by rw[<-dR,<-dR];exact b_,by simp only[ec,pZ];omega,(tu.trans yX).trans z3⟩;refine wx (ck (ih _ rI _ (l++l3) j9 g oR ah) ?_);rintro r g' ⟨l4,uP,b_,z2,z3⟩;refine wx ?_;exact⟨rfl,l3++l4,uP,by rw[<-dR];exact b_,by simp only[ec];omega,tu.trans z3⟩;rintro e g ⟨rfl,l3,j9,oR,pN,tu⟩;rw[n3] at pN;refine e5 @bq.eq_1 ?_;exact⟨trivial,l3,j9,oR,aa,tu⟩;obtain⟨x,I⟩:∃x,p.kids=[x]:=E6.1 gR;have rI:x∈p.kids:=by rw[I];simp
 obtain⟨x0,x1⟩:=lO.2 x rI;obtain⟨xn,rfl⟩:=o8 x0;have kQ:=gl eI;obtain⟨q,hq⟩:∃q,ps[xn]?=a_ q:=⟨ps[xn]' aa,cz aa⟩;have e1:ct 5 v (.v (.int .i64 (xn)))=a_ (.fp q.cells 0):=h.v.cE (x:=q.bA) aJL rfl;have dr:∀J,bz J bf 1 (.fp q.cells 0)=a_ (.v (.int .i64 q.kind)):=λJ=>rfl;obtain⟨pk,k1,k2⟩:=(Gy p g2).get (i:=0) (by rw[I];rfl);have ayz:ct 1 p.kv (.v (.int .i64 0))=a_ pk:=k1;rw[I] at dD;simp only[fG,lu,zQ,HJ] at dD;refine wx (ck (ih _ rI _ (l++l1) o1 g2 gi ah) ?_);rintro r g' ⟨l4,uP,b_,z2,z3⟩;have f1:dJ [.v (.int .i64 0),.v (.int .i64 0),.v (.int .i64 0),.v (.int .i64 0),.v (.string ⟨#[]⟩)] [(0,1,.v (.int .i64 5)),(2,1,.v (.int .i64 p.low)),(3,1,.v (.int .i64 p.high))]=a_ (iD ⟨5,0,p.low,p.high,[]⟩):=rfl;obtain⟨uQ,g7,Lu,g8,rQ,Wu,avh⟩:=b_.push ⟨5,0,p.low,p.high,[]⟩ ⟨CS _,bF (bF ⟨rfl,rfl,h0,Y,V⟩)⟩ ah;refine wx ?_;exact⟨trivial,l1++l4++[⟨5,0,p.low,p.high,[]⟩],uQ,by rw[<-dR,<-dR];exact Wu,by simp only[ec,pZ];omega,(sx.trans z3).trans avh⟩;rintro e g3 ⟨rfl,l3,j9,oR,pN,tu⟩;cases b with
 |true=>
  obtain⟨mP,g4,eS,g5,jT,AD,yX⟩:=oR.push _ aE9 ah;refine wx ?_;rw[dR] at AD;exact⟨_,mP,AD,ah,tu.trans yX⟩
 |false=>
  refine wy ?_;exact⟨l3,j9,oR,aa,tu⟩
end
end
def u6(c:UInt8):bg:=.v (.int .u8 (c.toNat:Int))
def zS(J:List br)(k:Nat)(l:List UInt8):Prop:=∃c0 bv,J[k]?=a_ (.cells [c0,bv] bf)/\(c0=.iH k (287,2)\/c0=.mp k 0)/\cT J bv (l.map u6) 1 5/\(l=[]->bv=.bp)
def CY(J:List br)(k:Nat)(l:List UInt8)(bv:bg):Prop:=J[k]?=a_ (.cells [.mp k 0,bv] bf)/\cT J bv (l.map u6) 1 5/\(l=[]->bv=.bp)
@[go_sem]def Zk(l:List UInt8):cZ 1 (l.map u6)=bh:=by
 rw[cZ,eP];intro x I;obtain⟨t,ht,rfl⟩:=eg.1 I;rfl
section
variable{G:Cells}{k:Nat}{l:List UInt8}{J:List br}
def iZ.set{x}:iZ k J (J.set k x):=⟨af,λj Z fz hj h=>aLo⟩
def aej(h:zS J k l):cq G bC 228 [.mp k 0] J λr bl=>r=.bQ []/\(∃bv,CY bl k l bv)/\iZ k J bl:=by
 obtain⟨c0,bv,Y,rfl|rfl,h3,h4⟩:=h;refine ck (ad3 apL Y) ?_;rintro r bl ⟨rfl,rfl⟩;refine⟨rfl,⟨bv,bU (gl Y),?_,h4⟩,iZ.set⟩
 rcases h3 with z|⟨id,b_,z2⟩
 exact bE z;refine bF ⟨id,b_,?_⟩;rw[bD];exact z2;rintro rfl;rw[Y] at z2;cases z2;refine ck (ad6 apL Y) ?_;rintro r bl ⟨rfl,rfl⟩;exact⟨rfl,⟨bv,Y,h3,h4⟩,iZ.refl _ _⟩
def CY.st{bv}(h:CY J k l bv):zS J k l:=⟨_,bv,h.1,bF rfl,h.2⟩
@[go_sem]def CY.fA{bv}(h:CY J k l bv):bz J bf 1 (.mp k 1)=a_ bv:=by
 simp only[bz,h.1];rfl
def CY.put{bv cW}{g}{l'}(h:CY J k l bv)(hA:cT g cW (l'.map u6) 1 5)(hz:l'=[]->cW=.bp)(S:∀(j:Nat) Z fz,J[j]?=a_ (.cells Z fz)->g[j]?=a_ (.cells Z fz))(hl:J.length<=g.length):
  ∃g',bL g 1 (.mp k 1) cW=a_ g'/\zS g' k l'/\iZ k J g':=by
 have kb:=S _ _ _ h.1
 have ho:cr cW=bh:=az
 have eS:cW.cells=[cW]:=by cases cW<;>first|rfl|cases ho
 have s2:bL g 1 (.mp k 1) cW=a_ (g.set k (.cells [.mp k 0,cW] bf)):=by
  simp only[bL,kb,fq,eS];simp[ho,dV]
 refine⟨_,s2,⟨_,cW,bU (gl kb),bF rfl,?_,hz⟩,aI,λj Z fz hj q=>?_⟩
 rcases hA with z|⟨id,b_,z2⟩
 exact bE z;refine bF ⟨id,b_,?_⟩;rw[bD];exact z2;rintro rfl;rw[kb] at z2;cases z2;rw[bD (eX hj)];exact S _ _ _ q
def PD(h:zS J k l)(hl:l.length<=100000000)(c):cq G bC 168 [.mp k 0,.v (.int .u8 (c.toNat:Int))] J λr bl=>zS bl k (l++[c])/\iZ k J bl:=by
 refine ajd.go ?_;refine wy (ck (aej h) ?_);rintro _ g ⟨rfl,⟨bv,hB⟩,O⟩;obtain⟨cl,g2,e2,fJ,bR,bK,hk2⟩:=nc (x:=u6 c) (b9:=1) hB.2.1 (Zk l) rfl ag ag ah;have rA:cT g2 cl ((l++[c]).map u6) 1 5:=aJQ
 obtain⟨g3,eU,tu,F1⟩:=hB.put rA (λq=>by simp at q) (λj Z fz q=>hk2 _ _ q λxs z=>by
  rcases hB.2.1 with⟨q1,_⟩|⟨id,q1,bt⟩
  rw[q1] at z;cases z;rw[q1] at z;cases z;rw[q] at bt;cases bt) bK
 unfold u6 at e2;refine jw @hB.fA @e2 @eU ?_;exact⟨tu,O.trans F1⟩
def aoA(h:zS J k l)(s)(hl:l.length+s.length<=100000000):cq G bC 164 [.mp k 0,bu s] J λr bl=>zS bl k (l++s)/\iZ k J bl:=by
 refine ajc.go ?_;refine wy (ck (aej h) ?_);rintro _ g ⟨rfl,⟨bv,hB⟩,O⟩;have key:∃cl g2,BE g 1 5 bv (bu s)=a_ (cl,g2)/\cT g2 cl ((l++s).map u6) 1 5/\(l++s=[]->cl=.bp)/\g.length<=g2.length/\∀(j:Nat) Z fz,g[j]?=a_ (.cells Z fz)->g2[j]?=a_ (.cells Z fz):=by
  rcases s with _|⟨c,s⟩
  refine⟨bv,g,?_,by rw[gd];exact hB.2.1,by rw[gd];exact hB.2.2,cj _,λ_ _ _ q=>q⟩
  rcases hB.2.1 with⟨rfl,_⟩|⟨id,rfl,_⟩<;>rfl
  have O:Fy ⟨⟨c::s⟩⟩=(c::s).map u6:=rfl;have hz:(⟨⟨c::s⟩⟩:ByteArray).size≠0:=by show(c::s).length≠0;simp
  rcases hB.2.1 with⟨rfl,e⟩|⟨id,rfl,S⟩
  have:l=[]:=aLd
  subst this;refine⟨.sl ((c::s).map u6) (.tok g.length),g++[.tok (c::s).length 1 5],?_,bF ⟨g.length,rfl,af⟩,af,af,λ_ _ _ q=>bT q⟩;have hf:((c::s).map u6).length*1<=140737488355328:=by simp at hl⊢;omega
  simp only[BE,bu,hz,if_false,iy,O,wN,if_true];rw[if_pos hf];simp;have cQ:=gl S;refine⟨.sl ((l++c::s).map u6) (.tok id),g.set id (.tok (l++c::s).length 1 5),?_,bF ⟨id,rfl,by rw[bU cQ];simp⟩,af,af,λj Z fz q=>?_⟩;have hf:((l.map u6).length+((c::s).map u6).length)*1<=140737488355328:=by simp at hl⊢;omega
  simp only[BE,bu,hz,if_false,iy,O,wN,if_true,Zk,true_and,S,and_self];rw[if_pos hf];simp;rw[bD];exact q;rintro rfl;rw[S] at q;cases q
 obtain⟨cl,g2,e2,rA,axH,bK,hk2⟩:=key;obtain⟨g3,eU,tu,F1⟩:=hB.put rA axH hk2 bK;refine mu @hB.fA @e2 @eU @xM ?_;exact⟨tu,O.trans F1⟩
def aGe(h:zS J k l)(hl:l.length<=100000000):cq G bC 165 [.mp k 0] J λr bl=>r=bu l/\bl=J:=by
 obtain⟨c0,bv,Y,_,h3,h4⟩:=h
 rcases h3 with⟨rfl,e⟩|⟨id,rfl,S⟩
 have:l=[]:=aLd
 subst this;exact ad5 apR Y
 rcases l with _|⟨c,r⟩
 cases h4 rfl;rw[cM] at S;exact ad4 apR Y S af aa
end
def aeY(n):(lG 1 n).length<=2:=by
 unfold lG;split;simp;simp[lG]
@[go_sem]def ac5{a b}(h:a.length+b.length<=1000000):dL .add (.v (.string ⟨⟨a⟩⟩)) (bu b)=a_ (bu (a++b)):=vt aa
@[go_sem]def K2{a b}(h:a.length+b.length<=1000000):dL .add (bu a) (.v (.string ⟨⟨b⟩⟩))=a_ (bu (a++b)):=vt aa
def aGm{G}{low high}(h0:0<=low)(Y:low<=20)(V:high= -1\/(1<=high/\high<=20)):dM G bC 285 [.v (.int .i64 low),.v (.int .i64 high)] λr=>∃t:List UInt8,r=bu t/\t.length<=8:=by
 obtain⟨n,rfl⟩:=o8 h0;refine ek (akb.go ?_);have fin:∀(J) (t),t.length<=8->∃n bV,di J n (bu t)=a_ bV/\∃t:List UInt8,bV=bu t/\t.length<=8:=λJ t ht=>by
  obtain⟨n,hn⟩:=(bH _:b7 J (bu t) (bu t)).done;exact⟨n,_,hn,t,rfl,ht⟩
 have d1:=aeY n;have sp:cY G bC 162 [(n:Int)] (bu (lG 1 n)):=aar n aa;have a1:dL .add (.v (.string ⟨[123].toArray⟩)) (bu (lG 1 n))=a_ (bu ([123]++lG 1 n)):=ac5 ah;have a2:dL .add (bu ([123]++lG 1 n)) (.v (.string ⟨[125].toArray⟩))=a_ (bu ([123]++lG 1 n++[125])):=K2 ah;have a3:dL .add (bu ([123]++lG 1 n)) (.v (.string ⟨[44,125].toArray⟩))=a_ (bu ([123]++lG 1 n++[44,125])):=K2 ah;have a4:dL .add (bu ([123]++lG 1 n)) (.v (.string ⟨[44].toArray⟩))=a_ (bu ([123]++lG 1 n++[44])):=K2 ah
 rcases V with rfl|⟨g0,g1⟩
 · cases lM:((n:Int)==0)<;>cases iT:((n:Int)==1)<;>cases ahv:((n:Int)== -1)
   all_goals
    refine wy ?_
    first
     |exact fin _ [42] ag
     |exact fin _ [43] ag
     |refine dX sp ?_
      refine jw @a1 @a2 @a3 ?_;exact fin _ _ (by simp<;>omega)
 · obtain⟨m,rfl⟩:=o8 (show 0<=high by omega)
   have d2:=aeY m;have aFo:cY G bC 162 [(m:Int)] (bu (lG 1 m)):=aar m aa;have a5:dL .add (bu ([123]++lG 1 n++[44])) (bu (lG 1 m))=a_ (bu ([123]++lG 1 n++[44]++lG 1 m)):=vt ah;have a6:dL .add (bu ([123]++lG 1 n++[44]++lG 1 m)) (.v (.string ⟨[125].toArray⟩))=a_ (bu ([123]++lG 1 n++[44]++lG 1 m++[125])):=K2 ah;have hm:((m:Int)== -1)=bf:=af
   cases lM:((n:Int)==0)<;>cases iT:((n:Int)==1)<;>cases W1:((m:Int)==1)<;>cases ahv:((n)==(m:Int))
   all_goals
    refine qx @lM @iT @hm @W1 @ahv ?_
    first
     |exact fin _ [63] ag
     |refine dX sp ?_
      refine jw @a1 @a2 @a4 ?_
      first
       |exact fin _ _ (by simp<;>omega)
       |refine dX aFo ?_
        refine mS @a5 @a6 ?_;exact fin _ _ (by simp<;>omega)
def aE7{G}{v}{l:List dF}(hv:cC v (l.map mT))(fM:∀x∈l,x.dA)(hl:l.length<=100000):dM G bC 247 [v] λr=>∃t:List UInt8,r=bu t/\t.length<=14*l.length:=by
 refine ek (ajQ.go ?_);have ln:=hv.cH;rw[cM] at ln;refine wy ?_;refine dj (λi e J=>e=[(3,.mp 0 0),(6,v),(7,bq l.length),(8,bq i)]/\∃t,zS J 0 t/\t.length<=14*i) l.length ⟨rfl,[],⟨_,_,rfl,bE rfl,bE ⟨rfl,rfl⟩,λ_=>rfl⟩,af⟩ ?_ ?_
 · rintro i e J Q ⟨rfl,t0,agw,xH⟩
   obtain⟨x,I⟩:=dQ Q;have Ee:=fM x (cG I);have e1:ct 5 v (i:Int)=a_ (.fp x.cells 0):=hv.cE (x:=x.bA) aA rfl;have e2:∀J,bz J bh 5 (.fp x.cells 0)=a_ (.agg x.cells):=λJ=>rfl;have s1:=zu J x;unfold iQ at s1;have fA:∀g:List br,g[J.length]?=a_ (.cells x.cells bf)->bz g bf 1 (.mp J.length 0)=a_ (.v (.int .i64 x.kind))/\bz g bf 1 (.mp J.length 2)=a_ (.v (.int .i64 x.low))/\bz g bf 1 (.mp J.length 3)=a_ (.v (.int .i64 x.high))/\bz g bf 1 (.mp J.length 4)=a_ (bu x.name):=λg q=>by
    simp only[bz,q];exact⟨rfl,rfl,rfl,rfl⟩
   have hm:(J++[bw x.cells bf])[J.length]?=a_ (.cells x.cells bf):=af
   have hB:zS (J++[bw x.cells bf]) 0 t0:=by
    obtain⟨c0,bv,b1,b2,b3,b4⟩:=agw;refine⟨c0,bv,bT b1,b2,?_,b4⟩
    rcases b3 with z|⟨id,b_,z2⟩
    exact bE z;exact bF ⟨id,b_,bT z2⟩
   have pO:J.length≠0:=by
    obtain⟨_,_,b1,_⟩:=agw;have:=gl b1;omega
   refine wy (cN (λq=>?_) λq=>?_);refine wy (cN (λbt=>?_) λbt=>?_);refine wy (ck (PD hB aa 32) ?_);rintro r g3 ⟨hB,F2⟩;have hm:=F2.2 _ _ _ pO hm;have xH:(t0++[32]).length<=14*i+1:=ah
   all_goals
    refine wy ?_
    rcases Ee.2 with⟨S,qQ,_,_⟩|⟨S|S|S,_,_,_⟩|⟨S,_,z0,b_,z2⟩
    have hn:x.name.length<=12:=by
     simp only[uO,fQ,decide_eq_true_eq] at qQ;omega
    refine wy (ck (aoA hB x.name aa) ?_);rintro r g4 ⟨BR,_⟩;refine wx ?_;exact⟨rfl,_,BR,ah⟩;refine wy (ck (PD hB aa 40) ?_);rintro r g4 ⟨BR,_⟩;refine wx ?_;exact⟨rfl,_,BR,ah⟩;refine wy (ck (PD hB aa 41) ?_);rintro r g4 ⟨BR,_⟩;refine wx ?_;exact⟨rfl,_,BR,ah⟩;refine wy (ck (PD hB aa 124) ?_);rintro r g4 ⟨BR,_⟩;refine wx ?_;exact⟨rfl,_,BR,ah⟩;refine wy ?_;refine jy (aGm z0 b_ aa) (bX (dn _) (bX (dn _) dc)) ?_;rintro r ⟨t2,rfl,MN⟩;refine wy (ck (aoA hB t2 aa) ?_);rintro r g4 ⟨BR,_⟩;refine wx ?_;exact⟨rfl,_,BR,ah⟩
 rintro e J ⟨rfl,t,hB,ht⟩;refine wy (ck (aGe hB aa) ?_);rintro _ g ⟨rfl,hh⟩;refine fF ?_;obtain⟨n,hn⟩:=(bH _:b7 g (bu t) (bu t)).done;exact⟨n,_,hn,t,rfl,ht⟩
section
variable{G:Cells}{v:bg}{ps:List cP}
def arc{k:Nat}(h:s_ v ps):∀(n i:Nat),i<n->i<ps.length->Up G k v ps (i:Int):=by
 intro n
 induction n with
 |zero=>intro i Q;omega
 |succ n ih=>
  intro i Q hl;obtain⟨p,J⟩:=dQ hl;refine aA0 h J λx I=>?_;obtain⟨x0,x1⟩:=(h.ok i p J).2 x I;obtain⟨xn,rfl⟩:=o8 x0;exact ih xn aa aa
def aaA{x:Int}(hn:ps≠[])(h:qw ps ps.length [x]):x=((ps.length-1:Nat):Int):=by
 cases hl:ps.length with
 |zero=>exact absurd (List.length_eq_zero_iff.1 hl) hn
 |succ n=>
  rw[hl] at h;obtain⟨p,q3,_,_,e⟩:=h;have:q3=[]:=by
   have:=congrArg Ky e;simp at this;exact this
  subst this;simpa using e
def Vl{l:List dF}:∀x∈l.map mT,∀c∈x.cells,eM c:=λx I c T=>by
 obtain⟨s,_,rfl⟩:=eg.1 I;have:c∈s.cells:=T;simp only[iD,fS,p4,or_false] at this
 rcases this with rfl|rfl|rfl|rfl|rfl<;>exact dn _
def zZ(n:Nat)(r:bg):Prop:=∃t:List UInt8,r=bu t/\t.length<=n
def sr{J:List br}{n:Nat}{t:List UInt8}(ht:t.length<=n):∃m bV,di J m (bu t)=a_ bV/\zZ n bV:=by
 obtain⟨m,hn⟩:=(bH _:b7 J (bu t) (bu t)).done;exact⟨m,_,hn,t,rfl,ht⟩
def aE5(cA:gm G)(h:s_ v ps):dM G bC 185 [v] (zZ 40000):=by
 refine ek (ajl.go ?_);have ln:=h.v.cH;rw[cM] at ln;have c6:=h.len;refine wy ?_;refine dm (λq=>?_) λq=>?_;exact sr (t:=[]) ag;have bR:ps≠[]:=by rintro rfl;simp at q
 refine wy (jy (anb cA h) (bX (FA h) dc) ?_);rintro r ⟨b,rfl,O⟩;cases b with
 |false=>
  refine wy ?_;exact sr (t:=[]) ag
 |true=>
  obtain⟨x,I⟩:=(O rfl).resolve_left bR;have D:=aaA bR I;have hs:=aow h.ok I;rw[D] at hs;simp only[fG,lu,zQ,HJ] at hs
  have f1:dJ [.bp,.bp] [(0,1,v)]=a_ [v,.bp]:=aJ7
  have hS:p6 0 v [] .bp [.cells [v,.bp] bf]:=⟨rfl,bE ⟨rfl,rfl⟩,af⟩;refine wy (ck (arc h _ (ps.length-1) (CW _) aa bf [] .bp _ hS ah) ?_);rintro r g ⟨l2,o2,b_,z2,z3⟩;rw[gN] at b_;obtain⟨v',y1,fV,lW⟩:=Ac b_.app Vl;refine wx ?_;refine ei (aE7 y1 b_.ok aa) ?_;rintro r ⟨t,rfl,ht⟩;refine wy ?_;exact sr aa
end
def dW(n:Nat):bg:=.v (.int .u64 (n:Int))
def wd(B i:Nat):Nat:=(B>>>(64*i)) % 2^64
def TC(B i):wd B i<18446744073709551616:=Nat.mod_lt _ ag
def EP(B i j):(wd B i).testBit j=(decide (j<64)&&B.testBit (64*i+j)):=by
 unfold wd;rw[Nat.testBit_mod_two_pow,Nat.testBit_shiftRight]
def Oh(A B i):wd (A|||B) i=wd A i|||wd B i:=by
 apply aqd;intro j;rw[Ua,EP,EP,EP,Ua];cases decide (j<64)<;>simp
def TB(A B i):wd (A&&&B) i=wd A i&&&wd B i:=by
 apply aqd;intro j;rw[aqf,EP,EP,EP,aqf];cases decide (j<64)<;>simp
def aGU(q r i)(D:r<64):wd (2^(64*q+r)) i=if i=q then 2^r else 0:=by
 apply aqd;intro j;rw[EP,abR];by_cases h:i=q;subst h;rw[if_pos rfl,abR];by_cases hj:r=j;subst hj;simp[D];have:¬(64*i+r=64*i+j):=aa
 simp[hj,this];rw[if_neg h,Nat.zero_testBit];by_cases hj:j<64;have:¬(64*q+r=64*i+j):=aa
 simp[this];simp[hj]
def TD(B q r i)(D:r<64):wd (B|||2^(64*q+r)) i=if i=q then wd B i|||2^r else wd B i:=by
 rw[Oh,aGU q r i D];split;rfl;rw[Nat.or_zero]
def Lb{x:Nat}(h:x<18446744073709551616):(CN 64 (x)).toNat=x:=by
 rw[BitVec.toNat_ofInt];omega
@[go_sem]def amt{x y}(I:x<18446744073709551616)(hy:y<18446744073709551616):dL .or (dW x) (dW y)=a_ (dW (x|||y)):=by
 have hz:x|||y<2^64:=Nat.or_lt_two_pow I hy
 unfold dW;rw[aqS];show a_ (cI (.int .u64 (HA.wrap ((CN 64 (x)|||CN 64 (y)).toNat:Int))))=_;rw[BitVec.toNat_or,Lb I,Lb hy,ES];congr 3;omega
@[go_sem]def adk{x y}(I:x<18446744073709551616)(hy:y<18446744073709551616):dL .and (dW x) (dW y)=a_ (dW (x&&&y)):=by
 have hz:x&&&y<2^64:=Nat.and_lt_two_pow x hy;unfold dW;rw[acQ];show a_ (cI (.int .u64 (HA.wrap ((CN 64 (x)&&&CN 64 (y)).toNat:Int))))=_;rw[BitVec.toNat_and,Lb I,Lb hy,ES];congr 3;omega
def bY(B:Nat):List bg:=[dW (wd B 0),dW (wd B 1),dW (wd B 2),dW (wd B 3)]
def cc(B:Nat):bg:=.agg (bY B)
def l8(B):eM (cc B):=FD (n:=2) rfl
def yV(J)(B):b7 J (cc B) (cc B):=kf (bG (bH _) (bG (bH _) (bG (bH _) (bG (bH _) cX))))
section
variable{G:Cells}
def axZ(n:Nat)(h:n<256):cY G bC 260 [(n:Int)] bh:=by
 refine e3 (aj3.go ?_);have Y:decide ((0:Int)<=(n))=bh:=af
 have V:decide ((n:Int)<256)=bh:=ah
 exact wy ((bH _).done)
def ao_(B n:Nat)(h:n<256):cY G bC 202 [cc B,.v (.int .i64 (n))] (cc (B|||2^n)):=by
 refine e3 (ajB.go ?_);have uw:(cc B).cells=bY B:=rfl;refine wy ?_;refine dX (axZ n h) ?_;obtain⟨q,r,D,hq,rfl⟩:∃q r,r<64/\q<4/\n=64*q+r:=⟨n/64,n % 64,Nat.mod_lt _ ag,aa,aa⟩;have s1:dL .shr (.v (.int .i64 ((64*q+r:Nat):Int))) (.v (.int .u64 6))=a_ (.v (.int .i64 (q))):=by
  rw[aqU (k:=.i64) (a:=((64*q+r:Nat):Int)) (b:=6) .u64 ag];congr 3;show Int.fdiv ((64*q+r:Nat):Int) 64=_;rw[Int.fdiv_eq_ediv_of_nonneg _ ag];omega
 have s2:dL .and (.v (.int .i64 ((64*q+r:Nat):Int))) (.v (.int .i64 63))=a_ (.v (.int .i64 (r))):=by
  rw[acQ];show a_ (cI (.int .i64 (de.wrap ((CN 64 ((64*q+r:Nat):Int)&&&CN 64 63).toNat:Int))))=_;rw[BitVec.toNat_and,Lb aa];have ati:(CN 64 63).toNat=2^6-1:=ag
  rw[ati,Nat.and_two_pow_sub_one_eq_mod,fO aa aa];congr 3;omega
 have eU:H9 .u64 (.v (.int .i64 (r)))=a_ (.v (.int .u64 (r))):=by
  rw[UL,ES];congr 3;omega
 have J:2^r<18446744073709551616:=Nat.pow_lt_pow_right ag D;have j_:dL .shl (.v (.int .u64 1)) (.v (.int .u64 (r)))=a_ (dW (2^r)):=by
  rw[aqT (k:=.u64) (a:=1) (b:=(r)) .u64 aa];show a_ (cI (.int .u64 (HA.wrap (1*2^(min (r:Int).toNat 64)))))=_;rw[yf,CX aa,ES];unfold dW;congr 3;have:(1:Int)*2^r=((2^r:Nat):Int):=af
  rw[this];generalize 2^r=z at J⊢;omega
 have aw0:q=0\/q=1\/q=2\/q=3:=aa
 have w0:=TD B q r 0 D;have w1:=TD B q r 1 D;have w2:=TD B q r 2 D;have w3:=TD B q r 3 D;have fin:∀(J) Z,Z=bY (B|||2^(64*q+r))->∃n,di J n (.agg Z)=a_ (cc (B|||2^(64*q+r))):=λJ Z e=>by
  rw[e];exact(yV J _).done
 have Sq:∀i,dL .or (dW (wd B i)) (dW (2^r))=a_ (dW (wd B i|||2^r)):=λi=>amt (TC B i) J
 rcases aw0 with rfl|rfl|rfl|rfl
 have a1:mZ 4 1 (.mp 0 0) (.v (.int .i64 ((0:Nat):Int)))=a_ (.mp 0 0):=rfl;have o1:=Sq 0;unfold dW at o1 j_;refine mw @bY.eq_1 @dW.eq_1 (fin _ _ ?_);unfold bY;rw[w0,w1,w2,w3];rfl;have a1:mZ 4 1 (.mp 0 0) (.v (.int .i64 ((1:Nat):Int)))=a_ (.mp 0 1):=rfl;have o1:=Sq 1;unfold dW at o1 j_;refine mw @bY.eq_1 @dW.eq_1 (fin _ _ ?_);unfold bY;rw[w0,w1,w2,w3];rfl;have a1:mZ 4 1 (.mp 0 0) (.v (.int .i64 ((2:Nat):Int)))=a_ (.mp 0 2):=rfl;have o1:=Sq 2;unfold dW at o1 j_;refine mw @bY.eq_1 @dW.eq_1 (fin _ _ ?_);unfold bY;rw[w0,w1,w2,w3];rfl;have a1:mZ 4 1 (.mp 0 0) (.v (.int .i64 ((3:Nat):Int)))=a_ (.mp 0 3):=rfl;have o1:=Sq 3;unfold dW at o1 j_;refine mw @bY.eq_1 @dW.eq_1 (fin _ _ ?_);unfold bY;rw[w0,w1,w2,w3];rfl
end
section
variable{G:Cells}
def aC2{x y}(I:x<18446744073709551616)(hy:y<18446744073709551616):cY G bC 128 [dW x,dW y] (dW (x|||y)):=by
 refine e3 (ai2.go ?_);exact wx ((bH _).done)
def ark{x y}(I:x<18446744073709551616)(hy:y<18446744073709551616):cY G bC 290 [dW x,dW y] (dW (x&&&y)):=by
 refine e3 (akf.go ?_);exact wx ((bH _).done)
def Ju(op:Nat->Nat->Nat)(A B i:Nat):List bg:=[dW (if 0<i then op (wd A 0) (wd B 0) else wd A 0),dW (if 1<i then op (wd A 1) (wd B 1) else wd A 1),dW (if 2<i then op (wd A 2) (wd B 2) else wd A 2),dW (if 3<i then op (wd A 3) (wd B 3) else wd A 3)]
def adT{f}{op}(hf:∀x y,x<18446744073709551616->y<18446744073709551616->cY G bC f [dW x,dW y] (dW (op x y)))(A B):cY G bC 127 [cc A,cc B,.fn (.func f) [] []] (.agg (Ju op A B 4)):=by
 refine e3 (ai1.go ?_);have uw:∀B,(cc B).cells=bY B:=λB=>rfl;have l0:bz [.cells (bY A) bf,.cells (bY B) bf,.cells [.v (.int .u64 0),.v (.int .u64 0),.v (.int .u64 0),.v (.int .u64 0)] bf] bh 4 (.mp 1 0)=a_ (cc B):=rfl;refine wy ?_;refine dj (λi e J=>e=[(2,.fn (.func f) [] []),(3,.mp 0 0),(6,.mp 2 0),(10,cc B),(11,bq i)]/\J=[.cells (Ju op A B i) bf,.cells (bY B) bf,.cells [.v (.int .u64 0),.v (.int .u64 0),.v (.int .u64 0),.v (.int .u64 0)] bf]) 4 ⟨rfl,rfl⟩ ?_ ?_;rintro i e J Q ⟨rfl,rfl⟩;have u1:=@bY.eq_1;have u2:=@dW.eq_1;have u3:=@Ju.eq_1;have c1:decide ((i:Int)<4)=bh:=ah
 have a1:mZ 4 1 (.mp 0 0) (.v (.int .i64 i))=a_ (.mp 0 i):=by simp[mZ,lC];omega
 have T:i=0\/i=1\/i=2\/i=3:=aa
 have e1:Db bf 1 4 (cc B) (.v (.int .i64 i))=a_ (dW (wd B i)):=by rcases T with rfl|rfl|rfl|rfl<;>rfl
 rcases T with rfl|rfl|rfl|rfl<;>(refine nV ?_;refine dX (hf _ _ (TC A _) (TC B _)) ?_;exact aG9)
 rintro e J ⟨rfl,rfl⟩;have c1:decide (((4:Nat):Int)<4)=bf:=rfl;exact apm @bY.eq_1 @dW.eq_1 @Ju.eq_1 ((kf (bG (bH _) (bG (bH _) (bG (bH _) (bG (bH _) cX))))).done)
def JD(A B):cY G bC 67 [cc A,cc B] (cc (A|||B)):=by
 refine e3 (aiz.go ?_);have uw:∀B,(cc B).cells=bY B:=λB=>rfl;refine wx (hU (adT (λx y I hy=>aC2 I hy) A B) (bX (l8 _) (bX (l8 _) (bX (aeq _) dc))) ?_);refine wx ?_;have e:dG (Ju (· ||| ·) A B 4)=cc (A|||B):=by
  unfold cc bY;rw[Oh,Oh,Oh,Oh];rfl
 rw[e];exact(yV _ _).done
def arj(A B):cY G bC 264 [cc A,cc B] (cc (A&&&B)):=by
 refine e3 (aj7.go ?_);have uw:∀B,(cc B).cells=bY B:=λB=>rfl;refine wx (hU (adT (λx y I hy=>ark I hy) A B) (bX (l8 _) (bX (l8 _) (bX (aeq _) dc))) ?_);refine wx ?_;have e:dG (Ju (· &&& ·) A B 4)=cc (A&&&B):=by
  unfold cc bY;rw[TB,TB,TB,TB];rfl
 rw[e];exact(yV _ _).done
def fU(l:List Nat):Nat:=l.foldl (λB n=>B|||2^n) 0
def Zb{v}{l}(hv:cC v (l.map λn:Nat=>bq (n)))(hl:∀n∈l,n<256)(hn:l.length<=100000):cY G bC 123 [v] (cc (fU l)):=by
 refine e3 (aiX.go ?_);have ln:=hv.cH;rw[cM] at ln;refine wy ?_;refine dj (λi e J=>e=[(2,.mp 0 0),(3,.mp 1 0),(6,v),(7,bq l.length),(8,bq i)]/\J=[.cells [.v (.int .u64 0),.v (.int .u64 0),.v (.int .u64 0),.v (.int .u64 0)] bf,.cells (bY (fU (l.take i))) bf]) l.length ⟨rfl,by simp[fU,bY,dW,wd]⟩ ?_ ?_;rintro i e J Q ⟨rfl,rfl⟩;obtain⟨x,I⟩:=dQ Q;have axz:=hl x (cG I);have e1:ct 1 v (i:Int)=a_ (.fp [bq x] 0):=hv.cE (x:=bq x) aA rfl;have l1:bz [.cells [.v (.int .u64 0),.v (.int .u64 0),.v (.int .u64 0),.v (.int .u64 0)] bf,.cells (bY (fU (l.take i))) bf] bh 4 (.mp 1 0)=a_ (cc (fU (l.take i))):=rfl
 have atl:fU (l.take (i+1))=fU (l.take i)|||2^x:=by
  unfold fU;rw[wH,I];simp
 have s1:bL [.cells [.v (.int .u64 0),.v (.int .u64 0),.v (.int .u64 0),.v (.int .u64 0)] bf,.cells (bY (fU (l.take i))) bf] 4 (.mp 1 0) (cc (fU (l.take i)|||2^x))=a_ [.cells [.v (.int .u64 0),.v (.int .u64 0),.v (.int .u64 0),.v (.int .u64 0)] bf,.cells (bY (fU (l.take i)|||2^x)) bf]:=rfl;refine wy (hU (ao_ _ x axz) (bX (l8 _) (bX (dn _) dc)) ?_);rw[atl];refine wx ?_
 first
  |exact⟨rfl,trivial⟩
  |exact⟨rfl,rfl⟩
 rintro e J ⟨rfl,rfl⟩;rw[n3];have l1:bz [.cells [.v (.int .u64 0),.v (.int .u64 0),.v (.int .u64 0),.v (.int .u64 0)] bf,.cells (bY (fU l)) bf] bh 4 (.mp 1 0)=a_ (cc (fU l)):=rfl;have s1:bL [.cells [.v (.int .u64 0),.v (.int .u64 0),.v (.int .u64 0),.v (.int .u64 0)] bf,.cells (bY (fU l)) bf] 4 (.mp 0 0) (cc (fU l))=a_ [.cells (bY (fU l)) bf,.cells (bY (fU l)) bf]:=rfl;have l2:bz [.cells (bY (fU l)) bf,.cells (bY (fU l)) bf] bh 4 (.mp 0 0)=a_ (cc (fU l)):=rfl;exact wy ((yV _ _).done)
end
def as4{x}(h:x≠0)(I:x<18446744073709551616):x.testBit (E1 64 x)=bh/\E1 64 x<64:=by
 unfold E1;rw[if_neg h];obtain⟨m,Y,V⟩:=Lib.ctzFrom_spec 64 x aa I;refine⟨?_,V⟩;generalize Lib.ctzFrom 64 x=c at Y V;rw[Y,Nat.testBit_two_pow_mul];simp
def YA{x}(h:x≠0):x&&&(x-1)<x:=Nat.lt_of_le_of_lt Nat.and_le_right aa
def An(x:Nat):List Nat:=if h:x=0 then [] else E1 64 x::An (x&&&(x-1))
termination_by x
decreasing_by exact YA h
def ato:An 0=[]:=by rw[An,dif_pos rfl]
def atn{x}(h:x≠0):An x=E1 64 x::An (x&&&(x-1)):=by rw[An,dif_neg h]
def Lx(B:Nat):Nat->List Nat
 |0=>[]
 |i+1=>Lx B i++(An (wd B i)).map (64*i+ ·)
def Am(B:Nat):List Nat:=Lx B 4
section
variable{G:Cells}
def K6(B)(J):cq G bC 68 [cc B] J λr bl=>r=.fn (.func 129) [] [.mp J.length 0]/\bl=J++[.cells (bY B) bf]:=by
 refine aiA.go ?_;have uw:(cc B).cells=bY B:=rfl;exact wx tt
def K7(cA:gm G){y}{Inv:List Nat->List br->Prop}{Stop:List br->Prop}{B kb:Nat}{J}
  (l_:∀done p J,Inv done J->B.testBit p=bh->p<256->jM G bC y [(p:Int)] J λr bl=>∃c:Bool,r=c/\(c=bh->Inv (done++[p]) bl)/\(c=bf->Stop bl))
  (O:J[kb]?=a_ (.cells (bY B) bf)) (h0:Inv [] J):cq G bC 129 [y,.mp kb 0] J λr bl=>r=.bQ []/\(Inv (Am B) bl\/Stop bl):=by
 refine ai3.go ?_;have l0:bz J bh 4 (.mp kb 0)=a_ (cc B):=by simp only[bz,O];rfl
 refine wy ?_;refine dj (λi e J=>e=[(0,y),(6,cc B),(7,bq i)]/\Inv (Lx B i) J) 4 ⟨rfl,h0⟩ ?_ ?_;rintro i e J Q ⟨rfl,hI⟩;have e1:Db bf 1 4 (cc B) (i:Int)=a_ (dW (wd B i)):=by
  have T:i=0\/i=1\/i=2\/i=3:=aa
  rcases T with rfl|rfl|rfl|rfl<;>rfl
 have c1:decide ((i:Int)<4)=bh:=ah
 refine wy ?_;refine pV (λm e J=>∃pre,m<18446744073709551616/\e=[(0,y),(3,(i:Int)),(4,dW m),(6,cc B),(7,(i:Int))]/\An (wd B i)=pre++An m/\(∀j,m.testBit j=bh->(wd B i).testBit j=bh)/\Inv (Lx B i++pre.map (64*i+ ·)) J) ⟨[],TC B i,rfl,rfl,λj h=>h,by rw[lu,gd];exact hI⟩ ?_;rintro m e J ⟨pre,hm,rfl,qR,agP,IJ⟩;refine iB @dW.eq_1 (cN (λq=>?_) λq=>?_);have pO:m≠0:=by rintro rfl;simp at q
 obtain⟨t1,t2⟩:=as4 pO hm;have w1:de.wrap (64*(i))=((64*i:Nat):Int):=by rw[fO aa aa];omega
 have hB:B.testBit (64*i+E1 64 m)=bh:=by
  have:=agP _ t1;rw[EP] at this;simp at this;exact this.2
 refine wy ?_;refine dX (aoh cA m hm) ?_;have w3:HA.wrap ((m)-1)=((m-1:Nat):Int):=by rw[ES];omega
 have a1:=adk hm (show m-1<18446744073709551616 by omega);unfold dW at a1;refine wy (vb (l_ _ _ _ IJ hB aa) ?_);rintro _ g ⟨c,rfl,k1,k2⟩;cases c with
 |false=>
  refine fF ?_;exact⟨trivial,bF (k2 rfl)⟩
 |true=>
  refine mS @w3 @a1 ?_;refine⟨m&&&(m-1),YA pO,pre++[E1 64 m],Nat.lt_trans (YA pO) hm,rfl,?_,λj hj=>?_,?_⟩;rw[qR,atn pO];simp;rw[aqf] at hj;simp only[fQ] at hj;exact agP j hj.1;have:=k1 rfl;rw[gf,<-dR];exact this
 have pO:m=0:=aq
 subst pO;refine wx ?_;rw[ato,gd] at qR;refine⟨rfl,?_⟩;show Inv (Lx B i++(An (wd B i)).map (64*i+ ·)) J;rw[qR];exact IJ;rintro e J ⟨rfl,hI⟩;have c1:decide (((4:Nat):Int)<4)=bf:=rfl;refine mS @bq.eq_1 @c1 ?_;exact⟨trivial,bE hI⟩
end
def fI:List Nat->List bg
 |[]=>[]
 |B::r=>bY B++fI r
def Fw(B):(bY B).length=4:=rfl
def At:∀l:List Nat,(fI l).length=l.length*4
 |[]=>rfl
 |B::r=>by
  show(bY B++fI r).length=_;rw[ec,At r,Fw,eW];omega
def afH:∀(l m),fI (l++m)=fI l++fI m
 |[],_=>rfl
 |B::r,m=>by
  show bY B++fI (r++m)=bY B++fI r++fI m;rw[afH r m,dR]
def Qr:∀{l} {p B},l[p]?=a_ B->((fI l).drop (p*4)).take 4=bY B
 |[],p,B,h=>au
 |A::r,0,B,h=>by
  simp at h;subst h;show(List.drop (0*4) (bY A++fI r)).take 4=_;rw[Nat.zero_mul,o9,aqc (by rw[Fw];omega),mA (by rw[Fw];omega)]
 |A::r,p+1,B,h=>by
  have:=Qr aZ;show(List.drop ((p+1)*4) (bY A++fI r)).take 4=_;rw[show(p+1)*4=(bY A).length+p*4 by rw[Fw];omega,<-yg,List.drop_left'];exact this;rfl
@[go_sem]def Qs:∀{l} {p B},p<l.length->dV (fI l) (p*4) (bY B)=fI (l.set p B)
 |[],p,B,h=>au
 |A::r,0,B,h=>rfl
 |A::r,p+1,B,h=>by
  have:=Qs (B:=B) aZ;unfold dV at this⊢;show List.take ((p+1)*4) (bY A++fI r)++bY B++List.drop ((p+1)*4+(bY B).length) (bY A++fI r)=bY A++fI (r.set p B);rw[show(p+1)*4=(bY A).length+p*4 by rw[Fw];omega,aHA,n5,apZ,<-this];simp only[dR]
def amj(B):(bY B).all cr=bh:=rfl
def yC(J:List br)(v:bg)(l:List Nat):Prop:=(v=.bp/\l=[])\/∃k,v=.rs k (fI l).length 4 0 l.length/\J[k]?=a_ (.cells (fI l) bh)
section
variable{J:List br}{v:bg}{l:List Nat}{p B:Nat}
def yC.at(h:yC J v l)(hB:l[p]?=a_ B):∃k,v=.rs k (fI l).length 4 0 l.length/\J[k]?=a_ (.cells (fI l) bh)/\ct 4 v (p:Int)=a_ (.rp k (fI l).length (p*4))/\bz J bh 4 (.rp k (fI l).length (p*4))=a_ (cc B):=by
 have cQ:=gl hB
 rcases h with⟨_,rfl⟩|⟨k,rfl,S⟩
 simp at hB;refine⟨k,rfl,S,Z6 cQ,?_⟩;have Y:=Qr hB;have V:=At l;simp only[bz,S,if_true];unfold e_;rw[if_pos rfl,if_pos aa,Y];rfl
@[go_sem]def yC.st{k}(S:J[k]?=a_ (.cells (fI l) bh))(cQ:p<l.length)(B):bL J 4 (.rp k (fI l).length (p*4)) (cc B)=a_ (J.set k (.cells (fI (l.set p B)) bh)):=by
 have V:=At l;simp only[bL,S,if_true,fq];have e1:(cc B).cells=bY B:=rfl;rw[e1,if_pos ⟨rfl,aa,amj B⟩,Qs cQ]
end
def rowAt(v:bg)(j:Nat):Prop:=∃m l,v=.rs j m 4 0 l
def Bh(v:bg)(j:Nat):Prop:=∃xs,v=.sl xs (.tok j)
structure gE(kn:Nat)(u v:bg)(J:List br)(u' v':bg)(bl:List br):Prop where
 len:J.length<=bl.length
 keep:∀(j:Nat) b,J[j]?=a_ b->j≠kn->¬rowAt v j->¬Bh u j->bl[j]?=a_ b
 row:∀j,rowAt v' j->rowAt v j\/J.length<=j
 tok:∀j,Bh u' j->Bh u j\/J.length<=j
def gE.refl(kn)(u v)(J):gE kn u v J u v J:=⟨cj _,λ_ _ h _ _ _=>h,λ_ h=>bE h,λ_ h=>bE h⟩
def gE.trans{kn}{a b c a2 b2 c2}{x y z}(h:gE kn a2 a x b2 b y)(k:gE kn b2 b y c2 c z):gE kn a2 a x c2 c z:=by
 refine⟨h_ h.len k.len,λj d hj Y V h3=>k.keep j d (h.keep j d hj Y V h3) Y (λq=>?_) (λq=>?_),λj q=>?_,λj q=>?_⟩;have:=gl hj
 rcases h.row j q with z|z
 exact V z;omega;have:=gl hj
 rcases h.tok j q with z|z
 exact h3 z;omega
 rcases k.row j q with z|z
 exact h.row j z;have:=h.len;right;omega
 rcases k.tok j q with z|z
 exact h.tok j z;have:=h.len;right;omega
def gE.app{kn}{u v}{J l}:gE kn u v J u v (J++l):=⟨af,λ_ _ h _ _ _=>bT h,λ_ h=>bE h,λ_ h=>bE h⟩
structure fC(kn:Nat)(z:List bg)(on cu:List Nat)(bx bv:bg)(J:List br):Prop where
 b:J[kn]?=a_ (.cells (bx::bv::z) bf)
 on:cT J bx (on.map cc) 4 146
 cu:yC J bv cu
def fC.ext{kn}{z}{on cu}{bx bv}{J bl}(h:fC kn z on cu bx bv J)(S:∀(j:Nat) Z fz,J[j]?=a_ (.cells Z fz)->bl[j]?=a_ (.cells Z fz))(ht:∀(j:Nat) c,J[j]?=a_ (.tok c 4 146)->bl[j]?=a_ (.tok c 4 146)):fC kn z on cu bx bv bl:=by
 refine⟨S _ _ _ h.b,?_,?_⟩
 rcases h.on with q|⟨id,q1,bt⟩
 exact bE q;exact bF ⟨id,q1,ht _ _ bt⟩
 rcases h.cu with q|⟨k,q1,bt⟩
 exact bE q;exact bF ⟨k,q1,S _ _ _ bt⟩
def pT(cu:List Nat)(N:Nat)(l:List Nat):List Nat:=l.foldl (λb p=>b.set p ((b[p]?.getD 0)|||N)) cu
def GG(N):∀(l cu),(pT cu N l).length=cu.length
 |[],_=>rfl
 |p::r,cu=>by
  show(pT (cu.set p _) N r).length=_;rw[GG N r];simp
def aBy(cu)(N)(l)(p):pT cu N (l++[p])=(pT cu N l).set p (((pT cu N l)[p]?.getD 0)|||N):=by
 unfold pT;rw[List.foldl_append];rfl
def ale{G}(cA:gm G){kn}{z}{on cu}{bx bv}{J}(h:fC kn z on cu bx bv J)(A N)(hA:∀p,A.testBit p=bh->p<256->p<cu.length):
  cq G bC 262 [.mp kn 0,cc A,cc N] J λr bl=>fC kn z on (pT cu N (Am A)) bx bv bl/\gE kn bx bv J bx bv bl:=by
 refine aj5.go ?_;have uw:∀B,(cc B).cells=bY B:=λB=>rfl;have la:bz (J++[.cells [.mp kn 0] bf]++[.cells (bY A) bf]++[.cells (bY N) bf]) bh 4 (.mp (J++[bw [.mp kn 0] bf]).length 0)=a_ (cc A):=by
  simp only[bz,dR,ec,fY (show J.length<=J.length+1 by omega),T9,eW,hY,lY,gN];rfl
 have hG:(cD kn 0).cells=[.mp kn 0]:=rfl;refine wy (ck (K6 A _) ?_);rintro _ g ⟨rfl,rfl⟩;refine wy ?_;rw[wz];refine⟨_,_,_,rfl,λk S bO ok hR=>?_⟩;generalize hH:J++[bw [cD kn 0] bf]++[bw (bY A) bf]++[bw (bY N) bf]++[bw (bY A) bf]++marks bf=H at S⊢;have aIh:H.length=J.length+5:=by rw[<-hH];simp[marks]
 have ext:∀(j) b,J[j]?=a_ b->H[j]?=a_ b:=λj b q=>by rw[<-hH];exact bT (bT (bT (bT (bT q))))
 have f3:H[J.length]?=a_ (.cells [.mp kn 0] bf):=by rw[<-hH];simp[marks]
 have f5:H[J.length+2]?=a_ (.cells (bY N) bf):=by rw[<-hH];simp[marks,dR]
 have f6:H[J.length+3]?=a_ (.cells (bY A) bf):=by rw[<-hH];simp[marks,dR]
 clear hH la;simp only[ec,eW,hY,gk,n5,ve] at hR⊢;subst S;refine ck (K7 cA (Stop:=λ_=>False) (Inv:=λdone g=>g[H.length]?=a_ (.bW .ready bn bO #[9] ok)/\fC kn z on (pT cu N done) bx bv g/\g[J.length]?=a_ (.cells [.mp kn 0] bf)/\g[J.length+2]?=a_ (.cells (bY N) bf)/\gE kn bx bv J bx bv g) ?_ (bT f6) ⟨af,?_,bT f3,bT f5,?_⟩) ?_
 · rintro done p g ⟨hl,hN,g3,g5,hs⟩ O Rg
   refine hR [_] g _ rfl ⟨bn,hl⟩ ?_;have se:rR [(3,cD J.length 0),(5,cD (J.length+2) 0),(8,bg.fn (qA 129) [] [cD (J.length+3) 0])] (List.zip [9] [cI (ye de (p))])=[(9,cI (ye de (p))),(3,cD J.length 0),(5,cD (J.length+2) 0),(8,bg.fn (qA 129) [] [cD (J.length+3) 0])]:=rfl;rw[se];refine fF ?_;refine⟨⟨bn,hl⟩,λeZ=>?_⟩;have cQ:p<(pT cu N done).length:=by rw[GG];exact hA p O Rg
   obtain⟨B,hB⟩:=dQ cQ;have awq:=gl hl;have ne:∀{j} {Z} {fz},g[j]?=a_ (.cells Z fz)->H.length≠j:=λq e=>by
    rw[<-e,hl] at q;cases q
   have Np:∀{j c},g[j]?=a_ (.tok c 4 146)->H.length≠j:=λq e=>by
    rw[<-e,hl] at q;cases q
   have iI:fC kn z on (pT cu N done) bx bv (g.set H.length (.bW .busy eZ bO #[9] ok)):=
    hN.ext (λj Z fz q=>aLy) λj c q=>aLz
   have bS:(g.set H.length (.bW .busy eZ bO #[9] ok))[J.length]?=a_ (.cells [.mp kn 0] bf):=by rw[bD (ne g3)];exact g3
   have hJ:(g.set H.length (.bW .busy eZ bO #[9] ok))[J.length+2]?=a_ (.cells (bY N) bf):=by rw[bD (ne g5)];exact g5
   have nO:gE kn bx bv J bx bv (g.set H.length (.bW .busy eZ bO #[9] ok)):=⟨by simpa using hs.len,λj b hj Y V h3=>by
    have:=gl hj;rw[bD aa];exact hs.keep j b hj Y V h3,hs.row,hs.tok⟩
   have gS:(g.set H.length (.bW .busy eZ bO #[9] ok))[H.length]?=a_ (.bW .busy eZ bO #[9] ok):=bU awq;generalize g.set H.length (.bW .busy eZ bO #[9] ok)=g' at iI bS hJ nO gS⊢;obtain⟨kb,hv,sC,r1,r2⟩:=iI.cu.at hB;have s1:=yC.st sC cQ (B|||N);have l3:=eL bS;have lb:bz g' bf 1 (.mp kn 1)=a_ bv:=by simp only[bz,iI.b];rfl
   have El:bz g' bh 4 (.mp (J.length+2) 0)=a_ (cc N):=by simp only[bz,hJ];rfl
   refine wA @l3 @lb @r1 @r2 @El @qu.eq_1 @rN.eq_1 @true_and @and_true (hU (JD B N) (bX (l8 _) (bX (l8 _) dc)) ?_);refine pW @l3 @lb @r1 @s1 @oA ?_;have atk:(pT cu N (done++[p]))=(pT cu N done).set p (B|||N):=by rw[aBy,hB];rfl
   have xA:kb≠kn:=by rintro rfl;rw[iI.b] at sC;simp at sC
   have DT:kb≠H.length:=by rintro rfl;rw[gS] at sC;cases sC
   have awr:=gl sC;have aIi:=gl gS;show(∃st pd,_=_)/\_;refine⟨⟨.busy,eZ,by rw[bD DT];exact gS⟩,bh,rfl,λ_=>⟨?_,?_,?_,?_,?_⟩,λq=>ay⟩;rw[bU ah];rw[atk];refine⟨?_,?_,bF ⟨kb,?_,?_⟩⟩;rw[bD (by intro e;have:=iI.b;rw[<-e,gS] at this;cases this),bD xA];exact iI.b
   rcases iI.on with q|⟨id,q1,bt⟩
   exact bE q;refine bF ⟨id,q1,?_⟩;rw[bD (by rintro rfl;rw[gS] at bt;cases bt),bD (by rintro rfl;rw[sC] at bt;cases bt)];exact bt;rw[hv,At,At];simp;rw[bD (eX DT),bU awr];rw[bD aa,bD (by rintro rfl;rw[bS] at sC;simp at sC)];exact bS;rw[bD aa,bD (by rintro rfl;rw[hJ] at sC;simp at sC)];exact hJ;refine⟨by simpa using nO.len,λj b hj Y V h3=>?_,λj q=>bE q,λj q=>bE q⟩;have:=gl hj;rw[bD aa,bD (by rintro rfl;exact V ⟨_,_,hv⟩)];exact nO.keep j b hj Y V h3
 refine h.ext (λj Z fz q=>bT (ext _ _ q)) λj c q=>bT (ext _ _ q);exact⟨ah,λj b q _ _ _=>bT (ext _ _ q),λj q=>bE q,λj q=>bE q⟩;rintro r g ⟨rfl,⟨hl,hN,g3,g5,hs⟩|hf⟩;refine⟨.ready,bn,hl,ag,?_⟩;refine e5 @uL.eq_1 ?_;rw[SK];intro g2 he;have ne:∀{j} {Z} {fz},g[j]?=a_ (.cells Z fz)->H.length≠j:=λq e=>by
  rw[<-e,hl] at q;cases q
 have Np:∀{j c},g[j]?=a_ (.tok c 4 146)->H.length≠j:=λq e=>by
  rw[<-e,hl] at q;cases q
 have kp:∀(j:Nat) b,(∀o,b≠.obj o)->(g.set H.length (.bW .exhausted bn bO #[9] ok))[j]?=a_ b->g2[j]?=a_ b:=λj b O q=>by
  rcases he.2 j with z|⟨_,z,_⟩
  rw[z];exact q;rw[z] at q;cases q;exact absurd rfl (O _)
 refine wy ?_;refine⟨hN.ext (λj Z fz q=>kp j _ af aLy) (λj c q=>kp j _ af aLz),?_,λj b hj Y V h3=>?_,λj q=>bE q,λj q=>bE q⟩;rw[he.1];simpa using hs.len;have kR:=gl hj
 rcases he.2 j with z|⟨z,_,_⟩
 rw[z,bD aa];exact hs.keep j b hj Y V h3;omega;exact hf.elim
open Go.Proofs.YtkpjaeffojibmaaGreatDoor.gE renaming app->tV
def b6(F E:Nat)(e:Bool):List bg:=[dW (wd F 0),dW (wd F 1),dW (wd F 2),dW (wd F 3),dW (wd E 0),dW (wd E 1),dW (wd E 2),dW (wd E 3),e]
def kJ(F E:Nat)(e:Bool):bg:=.agg (b6 F E e)
def z9:List bg:=[.v (.int .u64 0),.v (.int .u64 0),.v (.int .u64 0),.v (.int .u64 0),.v (.int .u64 0),.v (.int .u64 0),.v (.int .u64 0),.v (.int .u64 0),bf]
section
variable{X:List br}{m F E:Nat}{e:Bool}
@[go_sem]def iN(h:X[m]?=a_ (.cells (b6 F E e) bf)):bz X bh 4 (.mp m 0)=a_ (cc F)/\bz X bh 4 (.mp m 4)=a_ (cc E)/\bz X bf 1 (.mp m 8)=a_ (.v (.bool e))/\bz X bh 9 (.mp m 0)=a_ (kJ F E e):=by
 simp only[bz,h];exact⟨rfl,rfl,rfl,rfl⟩
@[go_sem]def Zx(h:X[m]?=a_ (.cells (b6 F E e) bf))(F'):bL X 4 (.mp m 0) (cc F')=a_ (X.set m (.cells (b6 F' E e) bf)):=by
 simp only[bL,h];rfl
@[go_sem]def Zy(h:X[m]?=a_ (.cells (b6 F E e) bf))(E'):bL X 4 (.mp m 4) (cc E')=a_ (X.set m (.cells (b6 F E' e) bf)):=by
 simp only[bL,h];rfl
@[go_sem]def amB(h:X[m]?=a_ (.cells (b6 F E e) bf))(e'):bL X 1 (.mp m 8) (.v (.bool e'))=a_ (X.set m (.cells (b6 F E e') bf)):=by
 simp only[bL,h];rfl
@[go_sem]def xS(h:X[m]?=a_ (.cells z9 bf))(F' E')(e'):bL X 9 (.mp m 0) (kJ F' E' e')=a_ (X.set m (.cells (b6 F' E' e') bf)):=by
 simp only[bL,h];rfl
@[go_sem]def NL(h:X[m]?=a_ (.cells (b6 F E e) bf))(F' E')(e'):bL X 9 (.mp m 0) (kJ F' E' e')=a_ (X.set m (.cells (b6 F' E' e') bf)):=by
 simp only[bL,h];rfl
end
def gE.own{kn}{u v u' v'}{J bl}(h:gE kn u v J u' v' bl){j}{Z}{fz}(hj:J[j]?=a_ (.cells Z fz))(Y:j≠kn)(V:¬rowAt v j)(h3:¬Bh u j):bl[j]?=a_ (.cells Z fz):=h.keep j _ hj Y V h3
def Pr{J}{v}{xs}{n}{e}(h:cT J v xs n e){j}(hj:J.length<=j):¬Bh v j:=λ⟨ys,e⟩=>by
 rcases h with⟨q,_⟩|⟨id,q,S⟩
 rw[q] at e;cases e;rw[q] at e;have:=gl S;cases e;omega
def yC.low{J}{v}{l}(h:yC J v l){j}(hj:J.length<=j):¬rowAt v j:=λ⟨m,n,e⟩=>by
 rcases h with⟨q,_⟩|⟨k,q,S⟩
 rw[q] at e;cases e;rw[q] at e;have:=gl S;cases e;omega
def gE.iw{kn}{u v u' v'}{J bl}{j}{x}(h:gE kn u v J u' v' bl)(hj:J.length<=j):gE kn u v J u' v' (bl.set j x):=⟨by simpa using h.len,λi b Q Y V h3=>by
 have:=gl Q;rw[bD aa];exact h.keep i b Q Y V h3,h.row,h.tok⟩
def fC.iw{kn}{z}{on cu}{bx bv}{J}{j}{Z cs'}(h:fC kn z on cu bx bv J)(hj:J[j]?=a_ (.cells Z bf))(S:j≠kn):fC kn z on cu bx bv (J.set j (.cells cs' bf)):=by
 refine⟨by rw[bD S];exact h.b,?_,?_⟩
 rcases h.on with q|⟨id,q1,bt⟩
 exact bE q;refine bF ⟨id,q1,?_⟩;rw[bD (by rintro rfl;rw[hj] at bt;cases bt)];exact bt
 rcases h.cu with q|⟨k,q1,bt⟩
 exact bE q;refine bF ⟨k,q1,?_⟩;rw[bD (by rintro rfl;rw[hj] at bt;simp at bt)];exact bt
def fC.app{kn}{z}{on cu}{bx bv}{J x}(h:fC kn z on cu bx bv J):fC kn z on cu bx bv (J++x):=h.ext (λ_ _ _ q=>bT q) λ_ _ q=>bT q
def Rz{G}(cA:gm G){kn}{z}{on cu}{bx bv}{J}(h:fC kn z on cu bx bv J)(gx kF jY gy)(ae be)(hA:∀p,kF.testBit p=bh->p<256->p<cu.length):
  cq G bC 209 [.mp kn 0,kJ gx kF ae,kJ jY gy be] J λr bl=>r=kJ (if ae then gx|||jY else gx) (if be then gy|||kF else gy) (ae&&be)/\fC kn z on (pT cu jY (Am kF)) bx bv bl/\gE kn bx bv J bx bv bl:=by
 refine ajI.go ?_;have uw:∀F E e,(kJ F E e).cells=b6 F E e:=λF E e=>rfl;have e6:=gl h.b;have Y:fC kn z on cu bx bv (J++[.cells (b6 gx kF ae) bf]++[.cells (b6 jY gy be) bf]++[.cells z9 bf]):=h.app.app.app;have s1:gE kn bx bv J bx bv (J++[.cells (b6 gx kF ae) bf]++[.cells (b6 jY gy be) bf]++[.cells z9 bf]):=(tV.trans tV).trans tV;have m4:(J++[.cells (b6 gx kF ae) bf]++[.cells (b6 jY gy be) bf]++[bw z9 bf])[J.length]?=a_ (.cells (b6 gx kF ae) bf):=af
 have m5:(J++[.cells (b6 gx kF ae) bf]++[.cells (b6 jY gy be) bf]++[bw z9 bf])[J.length+1]?=a_ (.cells (b6 jY gy be) bf):=aJ4
 have m6:(J++[.cells (b6 gx kF ae) bf]++[.cells (b6 jY gy be) bf]++[bw z9 bf])[J.length+2]?=a_ (.cells z9 bf):=aJ4
 generalize hg:J++[.cells (b6 gx kF ae) bf]++[.cells (b6 jY gy be) bf]++[bw z9 bf]=g at Y s1 m4 m5 m6;unfold z9 at hg;refine CH @ec.{0} ((iN m4).2.1) ((iN m5).1) ?_;refine ck (ale cA Y kF jY hA) ?_;rintro r g2 ⟨V,s2⟩;have n4:=s2.own m4 aa (h.cu.low (cj _)) (Pr h.on (cj _));have jI:=s2.own m5 aa (h.cu.low aa) (Pr h.on aa);have GM:=s2.own m6 aa (h.cu.low aa) (Pr h.on aa);obtain⟨a0,a1,a2,a3⟩:=iN n4;obtain⟨b0,b1,b2,b3⟩:=iN jI;have hs:=s1.trans s2;have kO:g.length=J.length+3:=by rw[<-hg];simp
 have iJ:J.length+3<=g2.length:=by have:=s2.len;omega
 have h3:fC kn z on (pT cu jY (Am kF)) bx bv (g2++[.cells (b6 gx gy (ae&&be)) bf]):=V.app;have uK:gE kn bx bv J bx bv (g2++[.cells (b6 gx gy (ae&&be)) bf]):=hs.trans tV;have iX:bL (g2++[.cells z9 bf]) 9 (.mp g2.length 0) (.agg (b6 gx gy (ae&&be)))=a_ (g2++[.cells (b6 gx gy (ae&&be)) bf]):=by
  have:=xS (X:=g2++[.cells z9 bf]) (m:=g2.length) af gx gy (ae&&be);unfold kJ at this;rw[this];simp
 unfold z9 at iX;have mP:(g2++[bw (b6 gx gy (ae&&be)) bf])[J.length]?=a_ (.cells (b6 gx kF ae) bf):=bT n4;have qo:(g2++[bw (b6 gx gy (ae&&be)) bf])[J.length+1]?=a_ (.cells (b6 jY gy be) bf):=bT jI;have uP:(g2++[bw (b6 gx gy (ae&&be)) bf])[J.length+2]?=a_ (.cells z9 bf):=bT GM;have uQ:(g2++[bw (b6 gx gy (ae&&be)) bf])[g2.length]?=a_ (.cells (b6 gx gy (ae&&be)) bf):=af
 generalize g2++[bw (b6 gx gy (ae&&be)) bf]=X at h3 uK iX mP qo uP uQ;generalize hm:g2.length=m at iX uQ iJ⊢;have BY:m≠kn:=aa
 have Tx:∀(X) (F E F' E') (c),fC kn z on (pT cu jY (Am kF)) bx bv X->gE kn bx bv J bx bv X->X[J.length]?=a_ (.cells (b6 gx kF ae) bf)->X[J.length+1]?=a_ (.cells (b6 jY gy be) bf)->X[J.length+2]?=a_ (.cells z9 bf)->X[m]?=a_ (.cells (b6 F E c) bf)->
   fC kn z on (pT cu jY (Am kF)) bx bv (X.set m (.cells (b6 F' E' c) bf))/\gE kn bx bv J bx bv (X.set m (.cells (b6 F' E' c) bf))/\(X.set m (.cells (b6 F' E' c) bf))[J.length]?=a_ (.cells (b6 gx kF ae) bf)/\(X.set m (.cells (b6 F' E' c) bf))[J.length+1]?=a_ (.cells (b6 jY gy be) bf)/\(X.set m (.cells (b6 F' E' c) bf))[J.length+2]?=a_ (.cells z9 bf)/\(X.set m (.cells (b6 F' E' c) bf))[m]?=a_ (.cells (b6 F' E' c) bf):=λX F E F' E' c x1 x2 x3 qy u9 rX=>
  ⟨x1.iw rX BY,x2.iw aa,by rw[bD aa];exact x3,by rw[bD aa];exact qy,by rw[bD aa];exact u9,bU (gl rX)⟩
 have fin:∀(X) (F E) (c),fC kn z on (pT cu jY (Am kF)) bx bv X->gE kn bx bv J bx bv X->X[J.length+2]?=a_ (.cells z9 bf)->X[m]?=a_ (.cells (b6 F E c) bf)->
   ∃yF,bz X bh 9 (.mp m 0)=a_ (kJ F E c)/\bL X 9 (.mp (J.length+2) 0) (kJ F E c)=a_ yF/\bz yF bh 9 (.mp (J.length+2) 0)=a_ (kJ F E c)/\fC kn z on (pT cu jY (Am kF)) bx bv yF/\gE kn bx bv J bx bv yF:=λX F E c x1 x2 u9 rX=>
  ⟨_,(iN rX).2.2.2,xS u9 F E c,(iN (bU (gl u9))).2.2.2,x1.iw u9 aa,x2.iw aa⟩
 have f2:∀c:Bool,dJ [.v (.int .u64 0),.v (.int .u64 0),.v (.int .u64 0),.v (.int .u64 0),.v (.int .u64 0),.v (.int .u64 0),.v (.int .u64 0),.v (.int .u64 0),bf] [(0,4,cc gx),(4,4,cc gy),(8,1,c)]=a_ (b6 gx gy c):=λc=>rfl;obtain⟨iM,p1,p2,p3⟩:=iN mP;obtain⟨bV,r1,r2,iu⟩:=iN qo;obtain⟨t0,t1,t2,t3⟩:=iN uQ;have Sr:=λA B=>JD (G:=G) A B;cases ae<;>cases be;obtain⟨yF,y1,fV,lW,EU,Ht⟩:=fin X gx gy bf h3 uK uP uQ;have Ta:bL _ 9 (.mp m 0) (.agg (b6 gx gy bf))=a_ X:=iX;refine o6 (fN @a0 @a1 @a2 @a3) (fN @b0 @b1 @b2 @b3) (fN @f2 @hm @Ta @iM) (fN @p1 @p2 @bV @r1) (fN @r2 @t0 @t1 @y1) @fV @lW ?_;exact⟨rfl,EU,Ht⟩;have Ta:bL _ 9 (.mp m 0) (.agg (b6 gx gy bf))=a_ X:=iX;obtain⟨x1,x2,x3,qy,u9,rX⟩:=Tx X gx gy gx (gy|||kF) bf h3 uK mP qo uP uQ;have zF:=Zy uQ (gy|||kF);obtain⟨yF,y1,fV,lW,EU,Ht⟩:=fin _ _ _ bf x1 x2 u9 rX;refine wy (hU (Sr gy kF) (bX (l8 _) (bX (l8 _) dc)) ?_);have Og:bL X 4 (.mp m 4) (cc (gy|||kF))=a_ (X.set m (.cells (b6 gx (gy|||kF) bf) bf)):=zF;refine mu @Og @y1 @fV @lW ?_;exact⟨rfl,EU,Ht⟩;have Ta:bL _ 9 (.mp m 0) (.agg (b6 gx gy bf))=a_ X:=iX;obtain⟨x1,x2,x3,qy,u9,rX⟩:=Tx X gx gy (gx|||jY) gy bf h3 uK mP qo uP uQ;have Og:bL X 4 (.mp m 0) (cc (gx|||jY))=a_ (X.set m (.cells (b6 (gx|||jY) gy bf) bf)):=Zx uQ (gx|||jY);obtain⟨yF,y1,fV,lW,EU,Ht⟩:=fin _ _ _ bf x1 x2 u9 rX;obtain⟨rV,u1,u2,u3⟩:=iN qy;refine wy (hU (Sr gx jY) (bX (l8 _) (bX (l8 _) dc)) ?_);refine qx @Og @u2 @y1 @fV @lW ?_;exact⟨rfl,EU,Ht⟩;have Ta:bL _ 9 (.mp m 0) (.agg (b6 gx gy bh))=a_ X:=iX;obtain⟨x1,x2,x3,qy,u9,rX⟩:=Tx X gx gy (gx|||jY) gy bh h3 uK mP qo uP uQ;have Og:bL X 4 (.mp m 0) (cc (gx|||jY))=a_ (X.set m (.cells (b6 (gx|||jY) gy bh) bf)):=Zx uQ (gx|||jY);obtain⟨rV,u1,u2,u3⟩:=iN qy;obtain⟨q0,q1,bt,bS⟩:=iN x3;obtain⟨i0,i1,i2,i3⟩:=iN rX;refine wy (hU (Sr gx jY) (bX (l8 _) (bX (l8 _) dc)) ?_);have aGS:bL (X.set m (.cells (b6 (gx|||jY) gy bh) bf)) 4 (.mp m 4) (cc (gy|||kF))=a_ ((X.set m (.cells (b6 (gx|||jY) gy bh) bf)).set m (.cells (b6 (gx|||jY) (gy|||kF) bh) bf)):=Zy rX (gy|||kF);obtain⟨v1,v2,v3,v4,v5,v6⟩:=Tx _ _ _ (gx|||jY) (gy|||kF) bh x1 x2 x3 qy u9 rX;obtain⟨yF,y1,fV,lW,EU,Ht⟩:=fin _ _ _ bh v1 v2 v5 v6;refine wy (hU (Sr gy kF) (bX (l8 _) (bX (l8 _) dc)) ?_);refine mu @aGS @y1 @fV @lW ?_;exact⟨rfl,EU,Ht⟩
def cP.many(p:cP):Nat:=(if p.high<0 then(if(1:Int)>p.low then 1 else p.low) else p.high).toNat
def qJ(ps:List cP):Nat->Int->Nat
 |0,_=>0
 |f+1,i=>match ps[i.toNat]? with
  |none=>0
  |some p=>if p.kind=1 then 1 else(if p.kind=4 then p.many else 1)*(p.kids.map λk=>qJ ps f k).sum
def asR{ps}(h:q9 ps):∀(n f g) (i),i.toNat<n->i.toNat<f->i.toNat<g->qJ ps f i=qJ ps g i:=by
 intro n
 induction n with
 |zero=>intro f g i h0;omega
 |succ n ih=>
  intro f g i h0 Y V;obtain⟨f,rfl⟩:∃f',f=f'+1:=⟨f-1,aa⟩;obtain⟨g,rfl⟩:∃g',g=g'+1:=⟨g-1,aa⟩;unfold qJ;cases J:ps[i.toNat]? with
  |none=>rfl
  |some p=>
   dsimp only;have e:(p.kids.map λk=>qJ ps f k)=p.kids.map λk=>qJ ps g k:=Bv λk S=>by
    have:=(h _ p J).2 k S;exact ih f g k aa aa aa
   rw[e]
def cnt(ps:List cP)(i:Int):Nat:=qJ ps (i.toNat+1) i
def Vp{ps}(h:q9 ps){i:Nat}{p}(J:ps[i]?=a_ p):cnt ps (i)=if p.kind=1 then 1 else(if p.kind=4 then p.many else 1)*(p.kids.map λk=>cnt ps k).sum:=by
 show qJ ps (i+1) (i)=_;unfold qJ;rw[yf,J];dsimp only;have e:(p.kids.map λk=>qJ ps i k)=p.kids.map λk=>cnt ps k:=Bv λk S=>by
  have:=(h _ p J).2 k S;exact asR h (i+1) i (k.toNat+1) k aa aa aa
 rw[e]
@[go_sem]def Jt(a b:Nat):pF bf [(a:Int),(257:Int)]=a_ (.v (.int .i64 ((min a 257:Nat):Int))):=by
 show a_ (cI (.int .i64 (if(257:Int)<(a) then 257 else(a))))=_;congr 3;split<;>omega
def aDm{G}{v}{ps}(h:s_ v ps):∀(n i),i<n->i<ps.length->cY G bC 135 [v,(i:Int)] ((min (cnt ps (i)) 257:Nat):Int):=by
 intro n
 induction n with
 |zero=>intro i Q;omega
 |succ n ih=>
  intro i Q hl;obtain⟨p,eI⟩:=dQ hl;have lO:=h.ok i p eI;have pR:=h.no p (cG eI);have kr:=lO.kids;have T:=Vp h.ok eI;refine e3 (ai7.go ?_);have e1:ct 5 v (i:Int)=a_ (.fp p.cells 0):=h.v.cE (x:=p.bA) aKT rfl;have e2:∀J,bz J bh 5 (.fp p.cells 0)=a_ (.agg p.cells):=λJ=>rfl;have s1:=zy [] p;rw[gN,gN] at s1;have z0:([]:List br).length=0:=rfl;rw[z0] at s1;have l0:bz [.cells p.cells bf] bf 1 (.mp 0 0)=a_ (.v (.int .i64 p.kind)):=rfl;have l1:bz [.cells p.cells bf] bf 1 (.mp 0 1)=a_ (.v (.int .i64 p.low)):=rfl;have l2:bz [.cells p.cells bf] bf 1 (.mp 0 2)=a_ (.v (.int .i64 p.high)):=rfl;have l4:bz [.cells p.cells bf] bf 1 (.mp 0 4)=a_ p.kv:=rfl;have lk:=zb pR (h_ kr ag);refine wy (cN (λq=>?_) λq=>?_);have q':p.kind=1:=ak
  rw[T,if_pos q'];exact wy ((bH _).done);have q':p.kind≠1:=ak
  rw[if_neg q'] at T;refine wy ?_;refine dj (λj e J=>e=[(0,v),(5,.mp 0 0),(6,((min ((p.kids.take j).map λk=>cnt ps k).sum 257:Nat):Int)),(18,p.kv),(19,bq p.kids.length),(20,bq j)]/\J=[.cells p.cells bf]) p.kids.length ⟨rfl,rfl⟩ ?_ ?_;rintro j e J hj ⟨rfl,rfl⟩;obtain⟨x,I⟩:=dQ hj;obtain⟨x0,x1⟩:=lO.2 x (cG I);obtain⟨xn,rfl⟩:=o8 x0;obtain⟨pk,k1,k2⟩:=(Gy p [.cells p.cells bf]).get I;have uZ:=zz (f:=λx=>cnt ps x) I;have m1:=Jt (min ((p.kids.take j).map λk=>cnt ps k).sum 257+min (cnt ps (xn)) 257) 0;have lH:min (min ((p.kids.take j).map λk=>cnt ps k).sum 257+min (cnt ps (xn)) 257) 257=min ((p.kids.take (j+1)).map λk=>cnt ps k).sum 257:=by rw[uZ];omega
  refine wy (hU (ih xn aa aa) (bX (FA h) (bX (dn _) dc)) ?_);refine wx ?_
  first
   |exact⟨rfl,trivial⟩
   |exact⟨rfl,rfl⟩
  rintro e J ⟨rfl,rfl⟩;rw[n3];refine wy ?_;generalize(p.kids.map λk=>cnt ps k).sum=hk at T⊢;refine cN (λfk=>?_) λfk=>?_;have Cq:p.kind=4:=aKv
  rw[if_pos Cq] at T;have O:0<=p.low/\p.low<=20/\(p.high= -1\/(1<=p.high/\p.high<=20)):=by
   rcases lO.1 with z|z|z
   omega;omega;omega
  have m0:pF bh [p.low,(1:Int)]=a_ (.v (.int .i64 (if(1:Int)>p.low then 1 else p.low))):=rfl;have pP:1<=p.many/\p.many<=20:=by
   unfold cP.many;constructor<;>(split<;>(try split))<;>omega
  have awX:min hk 257*p.many<=257*20:=Nat.mul_le_mul (Nat.min_le_right _ _) pP.2;have w1:de.wrap (((min hk 257:Nat):Int)*(p.many:Int))=((min hk 257*p.many:Nat):Int):=by
   rw[<-Int.natCast_mul,fO aa aa]
  have lH:min (min hk 257*p.many) 257=min (p.many*hk) 257:=by
   rcases Nat.le_total hk 257 with z|z
   rw[CX z,abQ];have V:257*p.many<=p.many*hk:=aLe
   rw[Nat.min_eq_right z];omega
  have m1:=Jt (min hk 257*p.many) 0;rw[lH] at m1;rw[T];refine wy (cN (λhJ=>?_) λhJ=>?_);have FI:(if(1:Int)>p.low then 1 else p.low)=(p.many:Int):=by
   have:p.high<0:=by simpa using hJ
   unfold cP.many;rw[if_pos this];split<;>omega
  rw[FI] at m0;exact wy ((bH _).done);have FI:p.high=(p.many:Int):=by
   have:¬p.high<0:=by simp at hJ;omega
   unfold cP.many;rw[if_neg this];omega
  rw[FI];exact wy ((bH _).done);have Cq:p.kind≠4:=aKv
  rw[if_neg Cq,E7] at T;rw[T];exact wy ((bH _).done)
@[go_sem]def NC(B):cZ 4 [cc B]=bh:=rfl
@[go_sem]def So(l:List Nat):cZ 4 (l.map cc)=bh:=by
 rw[cZ,eP];intro x I;obtain⟨t,ht,rfl⟩:=eg.1 I;rfl
@[go_sem]def UJ(B):eV 4 [cc B]=a_ (.sl [cc B] .exact):=rfl
section
variable{kn:Nat}{z:List bg}{on cu:List Nat}{bx bv:bg}{J:List br}
@[go_sem]def fC.q3(h:fC kn z on cu bx bv J){w}(hw:cr w=bh):bL J 1 (.mp kn 0) w=a_ (J.set kn (.cells (w::bv::z) bf)):=by
 have eS:w.cells=[w]:=aKM
 simp only[bL,h.b,fq,eS];simp[hw,dV]
@[go_sem]def fC.iX(h:fC kn z on cu bx bv J){w}(hw:cr w=bh):bL J 1 (.mp kn 1) w=a_ (J.set kn (.cells (bx::w::z) bf)):=by
 have eS:w.cells=[w]:=aKM
 simp only[bL,h.b,fq,eS];simp[hw,dV]
@[go_sem]def fC.Yr(h:fC kn z on cu bx bv J):bz J bf 1 (.mp kn 0)=a_ bx:=aR
@[go_sem]def fC.ak7(h:fC kn z on cu bx bv J):bz J bf 1 (.mp kn 1)=a_ bv:=aR
@[go_sem]def fC.aBm(h:fC kn z on cu bx bv J):∀g,cH bx g=a_ (.v (.int .i64 (on.length:Int)),g):=λg=>by
 rcases h.on with⟨rfl,e⟩|⟨id,rfl,_⟩
 have:on=[]:=aLd
 subst this;rfl;simp[ot,goInt]
def fC.aDy(h:fC kn z on cu bx bv J)(hn:on.length<=100000)(B):∃cU g g',ef J 4 32 146 bx (.sl [cc B] .exact)=a_ (cU,g)/\bL g 1 (.mp kn 0) cU=a_ g'/\fC kn z (on++[B]) cu cU bv g'/\gE kn bx bv J cU bv g':=by
 obtain⟨cl,g,e1,hA,bR,bK,S⟩:=nc (b9:=32) h.on (So on) (NC B) ag ag ah;have gW:∀{j} {Z} {fz},J[j]?=a_ (.cells Z fz)->∀xs,bx≠.sl xs (.tok j):=λ{j Z fz} q xs e=>by
  rcases h.on with⟨q1,_⟩|⟨id,q1,bt⟩
  rw[q1] at e;cases e;rw[q1] at e;cases e;rw[q] at bt;cases bt
 have kb:g[kn]?=a_ (.cells (bx::bv::z) bf):=S _ _ h.b (gW h.b)
 have ho:cr cl=bh:=az
 have eS:cl.cells=[cl]:=aKF
 have s1:bL g 1 (.mp kn 0) cl=a_ (g.set kn (.cells (cl::bv::z) bf)):=by
  simp only[bL,kb,fq,eS];simp[ho,dV]
 refine⟨cl,g,_,e1,s1,⟨bU (gl kb),?_,?_⟩,⟨by simpa using bK,λj b hj Y V h3=>?_,λj q=>bE q,λj ⟨xs,q⟩=>?_⟩⟩;rw[gf]
 rcases hA with q|⟨id,q1,bt⟩
 exact bE q;refine bF ⟨id,q1,?_⟩;rw[bD (by rintro rfl;rw[kb] at bt;cases bt)];exact bt
 rcases h.cu with q|⟨k,q1,bt⟩
 exact bE q;refine bF ⟨k,q1,?_⟩;rw[bD (by rintro rfl;rw[h.b] at bt;simp at bt)];exact S _ _ bt (gW bt);rw[bD (eX Y)];exact S j b hj λxs e=>h3 ⟨xs,e⟩
 rcases en j J.length with hj|hj
 left
 rcases h.on with⟨q1,bt⟩|⟨id,q1,bt⟩
 subst q1;have:on=[]:=aW
 subst this;have Vw:ef J 4 32 146 .bp (.sl [cc B] .exact)=a_ (.sl [cc B] (.tok J.length),J++[.tok 1 4 146]):=rfl;rw[Vw] at e1;cases e1;cases q;omega;subst q1;have hfit:((on.map cc).length+1)*32<=140737488355328:=ah
 have Vw:ef J 4 32 146 (.sl (on.map cc) (.tok id)) (.sl [cc B] .exact)=a_ (.sl (on.map cc++[cc B]) (.tok id),J.set id (.tok ((on.map cc).length+1) 4 146)):=by
  have Y:=NC B;have V:=So on;have h3:¬([cc B]=([]:List bg)):=af
  simp only[ef,gG,iy,ij,Y,V,h3,if_false,and_self,wN,if_true,true_and,bt,eW,hY,gk];rw[if_pos hfit]
 rw[Vw] at e1;cases e1;cases q;exact⟨_,rfl⟩;exact bF hj
def fC.aDw(h:fC kn z on cu bx bv J)(hn:cu.length<=100000)(B):∃cW g g',p7 J 4 32 146 bv (.sl [cc B] .exact)=a_ (cW,g)/\bL g 1 (.mp kn 1) cW=a_ g'/\fC kn z on (cu++[B]) bx cW g'/\gE kn bx bv J bx cW g'/\∀(j:Nat) Z,J[j]?=a_ (.cells Z bf)->g[j]?=a_ (.cells Z bf):=by
 have e6:=gl h.b
 rcases h.cu with⟨rfl,rfl⟩|⟨k,rfl,S⟩
 have Y:fC kn z on [] bx .bp (J++[.cells (bY B) bh]):=h.app;refine⟨.rs J.length 4 4 0 1,J++[.cells (bY B) bh],_,rfl,Y.iX rfl,⟨bU ah,?_,bF ⟨J.length,rfl,?_⟩⟩,⟨af,λj b hj Y V h3=>?_,λj ⟨m,l,q⟩=>?_,λj q=>bE q⟩,λj Z q=>bT q⟩
 rcases Y.on with q|⟨id,q1,bt⟩
 exact bE q;refine bF ⟨id,q1,?_⟩;rw[bD (by rintro rfl;rw[Y.b] at bt;cases bt)];exact bt;rw[bD aa];show(J++[bw (bY B) bh])[J.length]?=a_ (.cells (bY B++[]) bh);simp;rw[bD (eX Y)];exact bT hj;cases q;exact bF (cj _);have hl:=gl S;have xA:k≠kn:=by rintro rfl;rw[h.b] at S;simp at S
 have vM:=At cu;have b8:lS (fI cu) (cu.length*4) (eF [cc B])=fI (cu++[B]):=by
  have hf:eF [cc B]=bY B:=rfl;unfold lS;rw[hf,afH,mA aa,sZ aa,gd];show _=fI cu++(bY B++[]);rw[gd]
 have e1:p7 J 4 32 146 (.rs k (fI cu).length 4 0 cu.length) (.sl [cc B] .exact)=a_ (.rs k (fI (cu++[B])).length 4 0 (cu++[B]).length,J.set k (.cells (fI (cu++[B])) bh)):=by
  show gG J 4 32 146 (.rs k (fI cu).length 4 0 cu.length) (.sl [cc B] .exact)=_;have Y:=NC B;have h3:¬([cc B]=([]:List bg)):=af
  simp only[gG,ij,iy,Y,h3,if_false,and_self,wN,if_true,true_and,S,eW,hY,b8];rw[if_pos aa];simp
 have hb':(J.set k (.cells (fI (cu++[B])) bh))[kn]?=a_ (.cells (bx:: .rs k (fI cu).length 4 0 cu.length::z) bf):=by rw[bD xA];exact h.b
 have s1:bL (J.set k (.cells (fI (cu++[B])) bh)) 1 (.mp kn 1) (.rs k (fI (cu++[B])).length 4 0 (cu++[B]).length)=a_ ((J.set k (.cells (fI (cu++[B])) bh)).set kn (.cells (bx:: .rs k (fI (cu++[B])).length 4 0 (cu++[B]).length::z) bf)):=by
  simp only[bL,hb',fq];simp[jK,cr,dV]
 refine⟨_,_,_,e1,s1,⟨bU ah,?_,bF ⟨k,rfl,?_⟩⟩,⟨af,λj b hj Y V h3=>?_,λj ⟨m,l,q⟩=>?_,λj q=>bE q⟩,λj Z q=>by rw[bD (by rintro rfl;rw[S] at q;simp at q)];exact q⟩
 rcases h.on with q|⟨id,q1,bt⟩
 exact bE q;refine bF ⟨id,q1,?_⟩;rw[bD (by rintro rfl;rw[h.b] at bt;cases bt),bD (by rintro rfl;rw[S] at bt;cases bt)];exact bt;rw[bD (eX xA),bU hl];rw[bD (eX Y),bD (by rintro rfl;exact V ⟨_,_,rfl⟩)];exact hj;cases q;exact bE ⟨_,_,rfl⟩
end
end Go.Proofs.YtkpjaeffojibmaaGreatDoor

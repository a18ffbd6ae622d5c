/- Part 9 of a proof. No condition. -/
import Derived.Test.YtgfjdechmbleeaaGreatDoorZ8
set_option linter.unusedVariables false
set_option linter.unusedSimpArgs false
set_option linter.defProp false
open Bool renaming and_eq_true->fA,false->bf,not_false->uC,not_true->yV,true->bh
open Go.bP.bg renaming agg->dD,cells->jy,mp->cS,one->cr,v->cU
open Go.bP.cV renaming nil->sr
open Go.bP.br renaming cells->bw,cc->pe
open Go.bP.sB renaming mk->cL
open Go.bP.cy renaming mono->cm,pu->fk,Yz->ek,pure->gO,aA6->jz
open Go.bP.hO renaming mono->gE
open Go.bP.jK renaming mono->vK
open Go.bP renaming Clean->eP,marks->JF
open Go.bP.b8 renaming agg->kA,bp->eB,sl->gP,bQ->fD,v->bH
open Go.bP.e4 renaming append->Cj,cons->bG,map->iW,nil->cW
open Go.Fn renaming func->vM
open Go.IntKind renaming bits->JI,i64->dy,signed->JJ,u64->GS,wrap->aap
open Go.Lib renaming lens->yX
open Go.Proofs.Tryz renaming prog->bE
open Go.Proofs.YtgfjdechmbleeaaGreatDoor.Ext renaming app->lJ,refl->AN
open Go.Proofs.YtgfjdechmbleeaaGreatDoor.iR renaming nil->yZ
open Go.Value renaming int->xp
open List renaming all_cons->oJ,all_eq_true->eO,all_nil->sw,append_assoc->dU,append_nil->hJ,cons_append->k6,drop_of_length_le->vO,drop_succ_cons->AT,drop_zero->pg,eq_nil_of_length_eq_zero->nF,flatten_cons->y3,getElem?_append_right->fF,getElem?_cons_zero->n4,getElem?_eq_getElem->cx,getElem?_eq_none_iff->aoE,getElem?_eq_some_iff->cJ,getElem?_map->fL,getElem?_set_ne->bC,getElem?_set_self->bV,getElem_mem->NK,length_append->en,length_cons->eV,length_drop->y5,length_map->dj,length_nil->iP,length_set->vP,length_singleton->p8,map_append->gQ,map_cons->fM,map_nil->mI,mem_append->gA,mem_cons->fB,mem_cons_of_mem->uD,mem_cons_self->AV,mem_map->dZ,mem_of_getElem?->cE,mem_of_mem_drop->vQ,mem_or_eq_of_mem_set->SQ,mem_singleton->dR,nil_append->gV,not_mem_nil->qD,set_append_right->aoM,set_eq_take_append_cons_drop->aoN,sum_cons->y8,take_length->sy,take_of_length_le->n6,take_zero->tA
open Nat renaming add_assoc->nG,add_zero->uE,eq_zero_or_pos->Ct,le_refl->ck,le_trans->gY,lt_or_ge->d_,sub_self->lM,zero_add->gF,zero_le->jR,zero_lt_succ->AY
open Ne renaming symm->eW
open Option renaming none->bn,some->a_
open Or renaming inl->bD,inr->bF
open UInt8 renaming ofNat->uG
namespace Go.Proofs.YtgfjdechmbleeaaGreatDoor
open Go Go.bP Go.RowKit
section
variable{a b k:Nat}{h:List br}{x:bg}{anW:List UInt8}{has:Bool}
def eA(nm:List UInt8)(cq:bg)(i p b_:Bool)(a:Int)(al:Bool)(mv:bg)(ex:List UInt8):List bg:=[bu nm,cq,i,p,b_,a,al,mv,bu ex]
def we(k:Nat)(h:List br):Prop:=∃(nm:List UInt8) (cq:bg) (i p b_:Bool) (a:Int) (al:Bool) (mv:bg) (ex:List UInt8) (gs:List (List UInt8)),h[k]?=a_ (.cells (eA nm cq i p b_ a al mv ex) bf)/\cV h cq (gs.map bu) 1 9/\gs.length<=4/\iR 100001 mv/\ex.length<=40000
def n7(k:Nat)(h h':List br):Prop:=h.length<=h'.length/\∀(j:Nat) b,j≠k->(∀c,b≠.tok c 1 9)->h[j]?=a_ b->h'[j]?=a_ b
def n7.refl(k)(h):n7 k h h:=⟨ck _,λ_ _ _ _ q=>q⟩
def n7.trans{a b c}(h:n7 k a b)(q:n7 k b c):n7 k a c:=⟨gY h.1 q.1,λj x hj hn e=>q.2 j x hj hn (h.2 j x hj hn e)⟩
def n7.set{x}:n7 k h (h.set k x):=⟨af,λj b hj _ q=>aI8⟩
def n7.app{l}:n7 k h (h++l):=⟨af,λ_ _ _ _ q=>bU q⟩
section
variable{k:Nat}{h:List br}{nm ex:List UInt8}{cq mv:bg}{i p b_ al:Bool}{a:Int}{gs:List (List UInt8)}
def jN{v}{xs}{n}{e}{Z cs'}(hA:cV h v xs n e)(S:h[k]?=a_ (.cells Z bf)):cV (h.set k (.cells cs' bf)) v xs n e:=by
 rcases hA with z|⟨id,cg,z2⟩
 exact bD z;exact bF ⟨id,cg,by rw[bC (by rintro rfl;rw[S] at z2;cases z2)];exact z2⟩
@[go_sem]def vo(O:h[k]?=a_ (.cells (eA nm cq i p b_ a al mv ex) bf)):bA h bf 1 (.mp k 0)=a_ (bu nm)/\bA h bf 1 (.mp k 1)=a_ cq/\bA h bh 9 (.mp k 0)=a_ (.agg (eA nm cq i p b_ a al mv ex)):=by
 simp only[bA,O];exact⟨rfl,rfl,rfl⟩
@[go_sem]def aky(O:h[k]?=a_ (.cells (eA nm cq i p b_ a al mv ex) bf))(x:Bool):bL h 1 (.mp k 2) x=a_ (h.set k (.cells (eA nm cq x p b_ a al mv ex) bf)):=aW
@[go_sem]def akz(O:h[k]?=a_ (.cells (eA nm cq i p b_ a al mv ex) bf))(x:Bool):bL h 1 (.mp k 3) x=a_ (h.set k (.cells (eA nm cq i x b_ a al mv ex) bf)):=aW
@[go_sem]def akA(O:h[k]?=a_ (.cells (eA nm cq i p b_ a al mv ex) bf))(x:Bool):bL h 1 (.mp k 4) x=a_ (h.set k (.cells (eA nm cq i p x a al mv ex) bf)):=aW
@[go_sem]def akB(O:h[k]?=a_ (.cells (eA nm cq i p b_ a al mv ex) bf))(x:Int):bL h 1 (.mp k 5) x=a_ (h.set k (.cells (eA nm cq i p b_ x al mv ex) bf)):=aW
@[go_sem]def X4(O:h[k]?=a_ (.cells (eA nm cq i p b_ a al mv ex) bf))(x:Bool):bL h 1 (.mp k 6) x=a_ (h.set k (.cells (eA nm cq i p b_ a x mv ex) bf)):=aW
@[go_sem]def akC(O:h[k]?=a_ (.cells (eA nm cq i p b_ a al mv ex) bf))(x):bL h 1 (.mp k 8) (bu x)=a_ (h.set k (.cells (eA nm cq i p b_ a al mv x) bf)):=aW
@[go_sem]def X5(O:h[k]?=a_ (.cells (eA nm cq i p b_ a al mv ex) bf))(I:cr x=bh)(T:x.cells=[x]):bL h 1 (.mp k 7) x=a_ (h.set k (.cells (eA nm cq i p b_ a al x ex) bf)):=by
 simp only[bL,O,e5,T];simp[I,dN,eA]
@[go_sem]def X3(O:h[k]?=a_ (.cells (eA nm cq i p b_ a al mv ex) bf))(I:cr x=bh)(T:x.cells=[x]):bL h 1 (.mp k 1) x=a_ (h.set k (.cells (eA nm x i p b_ a al mv ex) bf)):=by
 simp only[bL,O,e5,T];simp[I,dN,eA]
end
def Hg(G:Cells)(f:FuncId):Prop:=∀(k:Nat) (s:List UInt8) (h:List br),s.length<=100000->we k h->cy G bE f [.mp k 0,bu s] h λr h'=>jD r/\we k h'/\n7 k h h'
section
variable{G:Cells}
def aBx:Hg G 213:=by
 rintro k s h hs ⟨nm,cq,i,p,b_,a,al,mv,ex,gs,O,hA,hg,hm,he⟩;refine aiF.go ?_;refine wx ?_;exact⟨⟨_,rfl⟩,⟨nm,cq,bh,p,b_,a,al,mv,ex,gs,bV (gl O),jN hA O,hg,hm,he⟩,n7.set⟩
def aBy:Hg G 214:=by
 rintro k s h hs ⟨nm,cq,i,p,b_,a,al,mv,ex,gs,O,hA,hg,hm,he⟩;refine aiG.go ?_;refine wx ?_;exact⟨⟨_,rfl⟩,⟨nm,cq,i,bh,b_,a,al,mv,ex,gs,bV (gl O),jN hA O,hg,hm,he⟩,n7.set⟩
def aBz(cB:fS G)(hI:A4 G):Hg G 215:=by
 rintro k s h hs ⟨nm,cq,i,p,b_,a,al,mv,ex,gs,O,hA,hg,hm,he⟩;refine aiH.go ?_;refine wy ?_;refine ek (anO cB hI s aa) ?_;rintro r ⟨n,b,rfl,Y,V⟩;refine wx ?_;exact⟨⟨_,rfl⟩,⟨nm,cq,i,p,b_,n,al,mv,ex,gs,bV (gl O),jN hA O,hg,hm,he⟩,n7.set⟩
def aBA(cB:fS G):Hg G 216:=by
 rintro k s h hs ⟨nm,cq,i,p,b_,a,al,mv,ex,gs,O,hA,hg,hm,he⟩;refine aiI.go ?_;refine wy ?_;refine ek (ajT cB s hs) ?_;rintro r ⟨x,v,b,rfl,hv⟩;have i_:=bV (a:=.cells (eA nm cq i p b_ a x mv ex) bf) (gl O);refine l6 (X4 O) (X5 i_ hv.one.1 hv.one.2) ?_;exact⟨⟨_,rfl⟩,⟨nm,cq,i,p,b_,a,x,v,ex,gs,bV (gl i_),jN (jN hA O) i_,hg,hv,he⟩,n7.set.trans n7.set⟩
def aBw(cB:fS G):Hg G 212:=by
 rintro k s h hs ⟨nm,cq,i,p,b_,a,al,mv,ex,gs,O,hA,hg,hm,he⟩;refine aiE.go ?_;obtain⟨v',y1,fK,lI⟩:=CN hA CW;have ln:∀J,cN cq J=a_ (.v (.int .i64 (gs.length:Int)),J):=λJ=>by
  rcases hA with⟨rfl,z⟩|⟨id,rfl,_⟩
  have:gs=[]:=aN
  subst this;rfl;simp[qq,goInt]
 refine wy ?_;refine ek (WW cB s aa) ?_;rintro r ⟨b,rfl⟩;cases b with
 |false=>
  refine wy ?_;exact⟨⟨_,rfl⟩,⟨nm,cq,i,p,b_,a,al,mv,ex,gs,O,hA,hg,hm,he⟩,n7.refl _ _⟩
 |true=>
  refine hD ((vo O).2.1) ?_;refine fk (KA y1 lI aa s) ?_;refine wy (cL (λq=>?_) λq=>?_);refine wy ?_;exact⟨⟨_,rfl⟩,⟨nm,cq,i,p,b_,a,al,mv,ex,gs,O,hA,hg,hm,he⟩,n7.refl _ _⟩;refine l6 @q ((vo O).2.1) (cL (λbt=>?_) λbt=>?_);refine wy ?_;exact⟨⟨_,rfl⟩,⟨nm,cq,i,p,b_,a,al,mv,ex,gs,O,hA,hg,hm,he⟩,n7.refl _ _⟩;have V1:gs.length<4:=aIo
  obtain⟨cj,g2,e2,fo,bR,bK,hk2⟩:=ni (x:=bu s) (b6:=16) hA (yy gs) rfl ag ag ah;have ig:∀{j} {b:br},h[j]?=a_ b->(∀c,b≠.tok c 1 9)->g2[j]?=a_ b:=λq O=>hk2 _ _ q λxs z=>by
   rcases hA with⟨cg,_⟩|⟨id,cg,z2⟩
   rw[cg] at z;cases z;rw[cg] at z;cases z;rw[q] at z2;cases z2;exact O _ rfl
  have i_:=ig O af
  have ho:cr cj=bh/\cj.cells=[cj]:=by rcases fo with⟨rfl,_⟩|⟨_,rfl,_⟩<;>exact⟨rfl,rfl⟩
  have ab:e9 1 [bu s]=a_ (.sl [bu s] .exact):=rfl;refine l6 ((vo O).2.1) (X3 i_ ho.1 ho.2) ?_;refine⟨⟨_,rfl⟩,⟨nm,cj,i,p,b_,a,al,mv,ex,gs++[s],bV (gl i_),?_,ah,hm,he⟩,?_⟩;rw[gQ];exact jN fo i_;exact n7.trans ⟨bK,λj b _ hn q=>ig q hn⟩ n7.set
def lY(w:List UInt8)(b:Bool)(f:FuncId):List bg:=[bu w,b,.fn (.func f) [] []]
def DW:List (List bg):=[lY [103,114,111,117,112] bh 212,lY [105,110,108,105,110,101] bf 213,lY [112,105,99,107] bf 214,lY [97,116,116,114] bh 215,lY [109,97,114,107,115] bh 216]
def Yh(h):cy G bE 159 [] h λr h'=>r=.sl (DW.map dD) .exact/\h'=h:=by
 refine ah_.go ?_;have f1:∀(w) (b:Bool) (f),dH [.v (.string ⟨[].toArray⟩),bf,.v .nilFunc] [(0,1,.v (.string ⟨w.toArray⟩)),(1,1,b),(2,1,.fn (.func f) [] [])]=a_ (lY w b f):=λw b f=>rfl;have ab:e9 3 [.agg (lY [103,114,111,117,112] bh 212),.agg (lY [105,110,108,105,110,101] bf 213),.agg (lY [112,105,99,107] bf 214),.agg (lY [97,116,116,114] bh 215),.agg (lY [109,97,114,107,115] bh 216)]=a_ (.sl (DW.map dD) .exact):=rfl;exact wx tt
def aww(ha:h[a]?=a_ (.cells [bu anW] bf))(O:h[b]?=a_ (.cells [has] bf))(w)(x)(f):
  cy G bE 160 [.agg (lY w x f),.mp a 0,.mp b 0] h λr h'=>jD r/\h'=h++[.cells (lY w x f) bf]:=by
 refine aia.go ?_;have m1:(h++[bw (lY w x f) bf])[h.length]?=a_ (.cells (lY w x f) bf):=af
 have l0:bA (h++[bw (lY w x f) bf]) bf 1 (.mp h.length 0)=a_ (bu w)/\bA (h++[bw (lY w x f) bf]) bf 1 (.mp h.length 1)=a_ (.v (.bool x)):=by
  simp only[bA,m1];exact⟨rfl,rfl⟩
 refine wy ?_;refine wy (cL (λq=>?_) λq=>?_);have e1:Hs bf (.v (.bool x)) (.v (.bool has))=a_ (.v (.bool (x==has))):=by cases x<;>cases has<;>rfl
 refine wx ?_;exact⟨⟨_,rfl⟩,trivial⟩;refine wx ?_;exact⟨⟨_,rfl⟩,trivial⟩
def awh(ha:h[a]?=a_ (.cells [bu anW] bf))(O:h[b]?=a_ (.cells [has] bf)):
  cy G bE 158 [.sl (DW.map dD) .exact,.fn (.func 160) [] [.mp a 0,.mp b 0]] h λr h'=>(∃n:Int,r=n/\(n<0\/∃j:Nat,n=(j)/\j<5))/\∃l,h'=h++l:=by
 refine ah9.go ?_;refine wy ?_;refine dx (λi e g=>e=[(0,.sl (DW.map dD) .exact),(1,.fn (.func 160) [] [.mp a 0,.mp b 0]),(7,.v (.int .i64 5)),(8,bq i)]/\∃l,g=h++l) 5 ⟨rfl,[],af⟩ ?_ ?_;rintro i e g Q ⟨rfl,l,rfl⟩;have c1:decide ((i:Int)<5)=bh:=ah
 obtain⟨w,x,f,I⟩:∃w x f,(DW.map dD)[i]?=a_ (.agg (lY w x f)):=by
  match i,Q with
  |0,_=>exact⟨_,_,_,rfl⟩
  |1,_=>exact⟨_,_,_,rfl⟩
  |2,_=>exact⟨_,_,_,rfl⟩
  |3,_=>exact⟨_,_,_,rfl⟩
  |4,_=>exact⟨_,_,_,rfl⟩
 have e1:cA 3 (.sl (DW.map dD) .exact) i=a_ (.fp (lY w x f) 0):=mP I rfl;have e2:∀J,bA J bh 3 (.fp (lY w x f) 0)=a_ (.agg (lY w x f)):=λJ=>rfl;refine wy (cm (aww (bU ha) (bU O) w x f) ?_);rintro r g2 ⟨⟨y,rfl⟩,rfl⟩;cases y with
 |true=>
  refine wy ?_;exact⟨⟨_,rfl,bF ⟨i,rfl,Q⟩⟩,l++[.cells (lY w x f) bf],aH0⟩
 |false=>
  refine wx ?_;exact⟨rfl,l++[.cells (lY w x f) bf],aH0⟩
 rintro e g ⟨rfl,l,rfl⟩;have c1:decide (((5:Nat):Int)<5)=bf:=rfl;refine wy ?_;exact⟨⟨_,rfl,bD ag⟩,l,rfl⟩
end
end
section
variable{ex nm:List UInt8}{cq mv:bg}{al i b_ p:Bool}{a:Int}{k:Nat}{h:List br}
def uI(x:List bg):Prop:=∃nm cq i p b_ a al mv ex,x=eA nm cq i p b_ a al mv ex/\iR 4 cq/\iR 100001 mv/\ex.length<=40000
def Tk(r:bg):Prop:=∃(x:List bg) (b:Bool),r=.bQ [.agg x,b]/\uI x
def Mp{J}{b:Bool}{gs:List (List UInt8)}(hA:cV J cq (gs.map bu) 1 9)(hg:gs.length<=4)(hm:iR 100001 mv)(he:ex.length<=40000):
  ∃n bS,cX J n (.bQ [.agg (eA nm cq i p b_ a al mv ex),b])=a_ bS/\Tk bS:=by
 obtain⟨v',cg,z2⟩:=TI hA hg;obtain⟨n,hn⟩:=(fD (bG (kA (bG (bH _) (bG cg (bG (bH _) (bG (bH _) (bG (bH _) (bG (bH _) (bG (bH _) (bG (hm.fz J) (bG (bH _) cW)))))))))) (bG (bH (.bool b)) cW)):b8 J (.bQ [.agg (eA nm cq i p b_ a al mv ex),b]) _).done;exact⟨n,_,hn,_,b,rfl,nm,v',i,p,b_,a,al,mv,ex,rfl,z2,hm,he⟩
def we.app{x}(s:we k h):we k (h++x):=by
 obtain⟨nm,cq,i,p,b_,a,al,mv,ex,gs,O,hA,D⟩:=s;exact⟨nm,cq,i,p,b_,a,al,mv,ex,gs,bU O,hA.ext,D⟩
def we.vw{j}{b b'}(s:we k h)(hj:h[j]?=a_ b)(O:∀c,b≠.tok c 1 9)(S:j≠k):we k (h.set j b'):=by
 obtain⟨nm,cq,i,p,b_,a,al,mv,ex,gs,hb',hA,D⟩:=s;refine⟨nm,cq,i,p,b_,a,al,mv,ex,gs,by rw[bC S];exact hb',?_,D⟩
 rcases hA with z|⟨id,cg,z2⟩
 exact bD z;exact bF ⟨id,cg,by rw[bC (by rintro rfl;rw[hj] at z2;cases z2;exact O _ rfl)];exact z2⟩
@[go_sem]def wZ{Z x}(O:h[k]?=a_ (.cells Z bf))(T:Z.length=9)(I:x.length=9)(Y:x.all cr=bh):bL h 9 (.mp k 0) (.agg x)=a_ (h.set k (.cells x bf)):=by
 have e:(dD x).cells=x:=rfl;simp only[bL,O,e5];rw[e,if_pos ⟨I,aa,Y⟩];unfold dN;rw[tA,gV,gF,I,vO aa,hJ]
def Gc(hg:cr cq=bh)(hm:cr mv=bh):(eA nm cq i p b_ a al mv ex).all cr=bh:=by
 simp only[eA,oJ,sw,hg,hm];rfl
def gz:List bg:=eA [] .bp bf bf bf 0 bf .bp []
structure Og(ls:List (List UInt8)):Prop where
 each:∀w∈ls,w.length<=100000
 all:∀n,yX (ls.drop n)+(ls.drop n).length<=1000000
 len:ls.length<=100000
section
variable{G:Cells}
def aAn(cB:fS G)(hI:A4 G){ls}(hW:Og ls)(V:2<=ls.length):dA G bE 91 [.sl (ls.map bu) .no] Tk:=by
 refine dX (ahx.go ?_);have c7:=hW.len;obtain⟨n1,o3⟩:∃n,ls[1]?=a_ n:=⟨ls[1],cx aa⟩;have e1:cA 1 (.sl (ls.map bu) .no) (1:Int)=a_ (.fp [bu n1] 0):=mP (x:=bu n1) (by simp[o3]) rfl;have f1:∀x:List UInt8,dH gz [(0,1,bu x),(4,1,bh)]=a_ (eA x .bp bf bf bh 0 bf .bp []):=λx=>rfl;have f0:dH gz []=a_ gz:=rfl;have hz:[cU (.string ⟨[].toArray⟩),.bp,bf,bf,bf,(0:Int),bf,.bp,.v (.string ⟨[].toArray⟩)]=gz:=rfl;have s1:bL [.cells gz bf,.cells gz bf] 9 (.mp 1 0) (.agg (eA n1 .bp bf bf bh 0 bf .bp []))=a_ [.cells gz bf,.cells (eA n1 .bp bf bf bh 0 bf .bp []) bf]:=wZ rfl rfl rfl rfl;have cut:∀(n) (J),n<=ls.length->r7 1 (.sl (ls.map bu) .no) (a_ (.v (.int .i64 (n)))) bn bn J=a_ (.sl ((ls.drop n).map bu) .no,J):=λn J hn=>by
  rw[List.map_drop];exact RU aIa Sc J
 have adA:=λJ=>cut 2 J V;have aqC:((2:Nat):Int)=2:=rfl;rw[aqC] at adA;have l2:(ls.drop 2).length=ls.length-2:=y5 ..;refine wy ?_;refine dx (λi e h=>e=[(0,.sl (ls.map bu) .no),(2,.mp 0 0),(4,.mp 1 0),(5,.fR 2),(21,.sl ((ls.drop 2).map bu) .no),(22,bq ((ls.length-2:Nat):Int)),(23,bq i)]/\h[0]?=a_ (.cells gz bf)/\we 1 h/\∃es cC,h[2]?=a_ (.eH es cC)/\EG es) (ls.length-2)
  ⟨rfl,rfl,⟨n1,.bp,bf,bf,bh,0,bf,.bp,[],[],rfl,bD ⟨rfl,rfl⟩,ag,yZ _,ag⟩,[],0,rfl,λe he=>by cases he⟩ ?_ ?_
 rintro i e h Q ⟨rfl,h0,hN,es,cC,hm,hM⟩;obtain⟨w,hw⟩:∃w,(ls.drop 2)[i]?=a_ w:=⟨(ls.drop 2)[i]' aa,cx aa⟩;have DD:=hW.each w (vQ (cE hw));have e2:cA 1 (.sl ((ls.drop 2).map bu) .no) i=a_ (.fp [bu w] 0):=mP (x:=bu w) (by rw[fL,hw];rfl) rfl;refine wy ?_;refine c_ (λq=>?_) λq=>?_;have w3:dy.wrap ((i)+3)=((i+3:Nat):Int):=by rw[gN aa aa];rfl
 refine wy (jz (awD (ls.drop (i+3)) (hW.all _)) (cl (qh (bD rfl)) dK) ?_);rintro r ⟨t,rfl,ht⟩;refine wy ?_;refine ek (Yr cB t (gY ht (hW.all _))) ?_;rintro r ⟨v,Rz,zI,rfl,hq⟩;obtain⟨ps,hE⟩:∃ps,sH v ps:=by
  rcases hq with⟨_,_,ps,hE⟩|⟨_,rfl⟩
  exact⟨ps,hE⟩;exact⟨[],bF ⟨rfl,rfl⟩,λi p h=>aq,ag,af⟩
 refine wy (jz (aCH cB hE) (cl (EX hE) dK) ?_);rintro r ⟨tx,rfl,agC⟩;obtain⟨nm,cq,i1,p1,b_,a,al,mv,ex,gs,O,hA,hg,kX,he⟩:=hN;have g_:=bV (a:=.cells (eA nm cq i1 p1 bf a al mv ex) bf) (gl O)
 have ho:cr cq=bh:=az
 have oU:((h.set 1 (.cells (eA nm cq i1 p1 bf a al mv ex) bf)).set 1 (.cells (eA nm cq i1 p1 bf a al mv tx) bf))[0]?=a_ (.cells gz bf):=by rw[bC aa,bC aa];exact h0
 have nW:=wZ oU rfl (x:=eA nm cq i1 p1 bf a al mv tx) rfl (Gc ho kX.one.1);exact wx (Mp (jN (jN (jN hA O) g_) oU) hg kX agC);refine ek (adB w 61 aa) ?_;rintro r ⟨a,b,f,rfl,oV,PV⟩;have rR:3<=h.length:=by have:=(gl hm);omega
 have n2:bL (h++[bw [.v (.string ⟨[].toArray⟩)] bf]++[bw [bf] bf]) 1 (.mp h.length 0) (bu a)=a_ (h++[bw [bu a] bf]++[bw [bf] bf]):=by
  rw[qz rfl (v:=.v (.string ⟨[].toArray⟩)) af];simp
 have lX:bL (h++[bw [bu a] bf]++[bw [bf] bf]) 1 (.mp (h.length+1) 0) f=a_ (h++[bw [bu a] bf]++[bw [f] bf]):=by
  have:=R8 (h++[bw [bu a] bf]) bf (x:=f) rfl rfl;simpa using this
 have ka:(h++[bw [bu a] bf]++[bw [f] bf])[h.length]?=a_ (.cells [bu a] bf):=af
 have kb:(h++[bw [bu a] bf]++[bw [f] bf])[h.length+1]?=a_ (.cells [f] bf):=af
 have u5:(h++[bw [bu a] bf]++[bw [f] bf])[0]?=a_ (.cells gz bf):=bU (bU h0);have oZ:(h++[bw [bu a] bf]++[bw [f] bf])[2]?=a_ (.eH es cC):=bU (bU hm);have afu:we 1 (h++[bw [bu a] bf]++[bw [f] bf]):=hN.app.app;refine l6 @en.{0} @gF ?_;generalize h++[bw [bu a] bf]++[bw [f] bf]=g at ka kb u5 oZ afu⊢;generalize h.length=m at ka kb rR⊢;refine cm (Yh g) ?_;rintro r g' ⟨rfl,rfl⟩;refine wy (cm (awh ka kb) ?_);rintro r g2 ⟨⟨ff,rfl,avb⟩,lx,rfl⟩;have aje:(g'++lx)[m]?=a_ (.cells [bu a] bf):=bU ka;have oU:(g'++lx)[0]?=a_ (.cells gz bf):=bU u5;have Dq:(g'++lx)[2]?=a_ (.eH es cC):=bU oZ;have jo:we 1 (g'++lx):=afu.app;generalize g'++lx=g3 at aje oU Dq jo⊢;obtain⟨nl,dc⟩:=Mg Dq hM a;obtain⟨oh,k_,eL,u9⟩:=XF Dq hM a (dy.wrap (nl+1));refine wy ?_;have ajf:(g3.set 2 (.eH oh k_))[m]?=a_ (.cells [bu a] bf):=by rw[bC aa];exact aje
 have K3:(g3.set 2 (.eH oh k_))[0]?=a_ (.cells gz bf):=by rw[bC aa];exact oU
 have LG:(g3.set 2 (.eH oh k_))[2]?=a_ (.eH oh k_):=bV (gl Dq);have Db:we 1 (g3.set 2 (.eH oh k_)):=jo.vw Dq af aa;generalize g3.set 2 (.eH oh k_)=g4 at ajf K3 LG Db⊢;have mV:=wZ K3 rfl (x:=gz) rfl rfl;have k0:=bV (a:=.cells gz bf) (gl K3);have BJ:bA (g4.set 0 (.cells gz bf)) bh 9 (.mp 0 0)=a_ (.agg gz):=(vo k0).2.2;have bad:∃n bS,cX (g4.set 0 (.cells gz bf)) n (.bQ [.agg gz,bf])=a_ bS/\Tk bS:=Mp (gs:=[]) (bD ⟨rfl,rfl⟩) ag (yZ _) ag;obtain⟨Mo,nk⟩:=Mg LG u9 a;have KH:dF .neq (bu a) (.v (.string ⟨[103,114,111,117,112].toArray⟩))=a_ (.v (.bool !(a==[103,114,111,117,112]))):=yu a [103,114,111,117,112];refine wy (cL (λq1=>?_) λq1=>?_);exact l5 @q1 @f0 @mV @BJ bad;obtain⟨j,rfl,hj⟩:∃j:Nat,ff=(j)/\j<5:=by
  rcases avb with z|z
  simp at q1;omega;exact z
 obtain⟨Ss,q8,f6,avQ,Qh⟩:∃w x f,(DW.map dD)[j]?=a_ (.agg (lY w x f))/\Hg G f:=by
  match j,hj with
  |0,_=>exact⟨_,_,_,rfl,aBw cB⟩
  |1,_=>exact⟨_,_,_,rfl,aBx⟩
  |2,_=>exact⟨_,_,_,rfl,aBy⟩
  |3,_=>exact⟨_,_,_,rfl,aBz cB hI⟩
  |4,_=>exact⟨_,_,_,rfl,aBA cB⟩
 have xT:cA 3 (.sl (DW.map dD) .exact) (.v (.int .i64 (j)))=a_ (.fp (lY Ss q8 f6) 0):=mP avQ rfl;have F2:∀J,bA J bf 1 (.fp (lY Ss q8 f6) 2)=a_ (.fn (.func f6) [] []):=λJ=>rfl;have kI:(decide ((1:Int)<Mo)=bh/\(a==[103,114,111,117,112])=bf)\/decide ((1:Int)<Mo)=bf\/(decide ((1:Int)<Mo)=bh/\(a==[103,114,111,117,112])=bh):=by
  cases decide ((1:Int)<Mo)<;>cases(a==[103,114,111,117,112])<;>simp
 rcases kI with⟨hd,t_⟩|hd|⟨hd,t_⟩
 exact yS @q1 (fe ajf) @nk @hd @KH @t_ @f0 @mV @BJ bad;refine wy (cm (Yh g4) ?_);rintro r g' ⟨rfl,rfl⟩;refine wy (cm (Qh 1 b g' aa Db) ?_);rintro r g5 ⟨⟨y,rfl⟩,K9,xY⟩;have qM:=xY.2 _ _ aa af K3;have vg:=xY.2 _ _ aa af LG;cases y with
 |false=>
  refine wy ?_;exact Mp (gs:=[]) (bD ⟨rfl,rfl⟩) ag (yZ _) ag
 |true=>
  refine fj ?_;exact⟨rfl,qM,K9,oh,k_,vg,u9⟩
 refine wy (cm (Yh g4) ?_);rintro r g' ⟨rfl,rfl⟩;refine wy (cm (Qh 1 b g' aa Db) ?_);rintro r g5 ⟨⟨y,rfl⟩,K9,xY⟩;have qM:=xY.2 _ _ aa af K3;cases y with
 |false=>
  refine wy ?_;exact Mp (gs:=[]) (bD ⟨rfl,rfl⟩) ag (yZ _) ag
 |true=>
  refine fj ?_;exact⟨rfl,qM,K9,oh,k_,xY.2 _ _ aa af LG,u9⟩
 rintro e h ⟨rfl,h0,hN,es,cC,hm,hM⟩;obtain⟨nm,cq,i1,p1,b_,a,al,mv,ex,gs,O,hA,hg,kX,he⟩:=hN;have nW:=wZ h0 rfl (x:=eA nm cq i1 p1 b_ a al mv ex) rfl (Gc az kX.one.1)
 exact nD (Mp (jN hA h0) hg kX he)
end
end
def eJ(nm:List UInt8)(v:Int)(al:Bool)(bv:bg):List bg:=[bu nm,v,al,bv]
def nJ(x:List bg):Prop:=∃nm v al bv,x=eJ nm v al bv/\iR 100001 bv
def G9(r:bg):Prop:=∃(x:List bg) (b:Bool),r=.bQ [.agg x,b]/\nJ x
def Mj{J}{nm}{v}{al b:Bool}{bv}(O:iR 100001 bv):∃n bS,cX J n (.bQ [.agg (eJ nm v al bv),b])=a_ bS/\G9 bS:=by
 obtain⟨n,hn⟩:=(fD (bG (kA (bG (bH _) (bG (bH _) (bG (bH _) (bG (O.fz J) cW))))) (bG (bH (.bool b)) cW)):b8 J (.bQ [.agg (eJ nm v al bv),b]) _).done;exact⟨n,_,hn,_,b,rfl,nm,v,al,bv,rfl,O⟩
section
variable{k:Nat}{h:List br}{nm:List UInt8}{v:Int}{al:Bool}{bv:bg}
@[go_sem]def Q2(O:h[k]?=a_ (.cells (eJ nm v al bv) bf)):bA h bf 1 (.mp k 0)=a_ (bu nm)/\bA h bh 4 (.mp k 0)=a_ (.agg (eJ nm v al bv)):=by
 simp only[bA,O];exact⟨rfl,rfl⟩
@[go_sem]def Q3(O:h[k]?=a_ (.cells (eJ nm v al bv) bf))(x:Int):bL h 1 (.mp k 1) x=a_ (h.set k (.cells (eJ nm x al bv) bf)):=aW
@[go_sem]def Q4(O:h[k]?=a_ (.cells (eJ nm v al bv) bf))(x:Bool):bL h 1 (.mp k 2) x=a_ (h.set k (.cells (eJ nm v x bv) bf)):=aW
@[go_sem]def Q5(O:h[k]?=a_ (.cells (eJ nm v al bv) bf)){x}(I:cr x=bh)(T:x.cells=[x]):bL h 1 (.mp k 3) x=a_ (h.set k (.cells (eJ nm v al x) bf)):=by
 simp only[bL,O,e5,T];simp[I,dN,eJ]
@[go_sem]def BP{Z x}(O:h[k]?=a_ (.cells Z bf))(T:Z.length=4)(I:x.length=4)(Y:x.all cr=bh):bL h 4 (.mp k 0) (.agg x)=a_ (h.set k (.cells x bf)):=by
 have e:(dD x).cells=x:=rfl;simp only[bL,O,e5];rw[e,if_pos ⟨I,aa,Y⟩];unfold dN;rw[tA,gV,gF,I,vO aa,hJ]
def XO(O:cr bv=bh):(eJ nm v al bv).all cr=bh:=by
 simp only[eJ,oJ,sw,O];rfl
end
def fZ:List bg:=eJ [] 0 bf .bp
section
variable{G:Cells}
def azK(cB:fS G)(hI:A4 G){ls}(hW:Og ls)(V:2<=ls.length):dA G bE 94 [.sl (ls.map bu) .no] G9:=by
 refine dX (ahA.go ?_);have c7:=hW.len;obtain⟨n1,o3⟩:∃n,ls[1]?=a_ n:=⟨ls[1],cx aa⟩;have e1:cA 1 (.sl (ls.map bu) .no) (1:Int)=a_ (.fp [bu n1] 0):=mP (x:=bu n1) (by simp[o3]) rfl;have f1:∀x:List UInt8,dH fZ [(0,1,bu x)]=a_ (eJ x 0 bf .bp):=λx=>rfl;have f0:dH fZ []=a_ fZ:=rfl;have hz:[cU (.string ⟨[].toArray⟩),(0:Int),bf,.bp]=fZ:=rfl;have s1:bL [.cells fZ bf,.cells fZ bf] 4 (.mp 1 0) (.agg (eJ n1 0 bf .bp))=a_ [.cells fZ bf,.cells (eJ n1 0 bf .bp) bf]:=BP rfl rfl rfl rfl;have adA:∀J,r7 1 (.sl (ls.map bu) .no) (a_ (.v (.int .i64 2))) bn bn J=a_ (.sl ((ls.drop 2).map bu) .no,J):=λJ=>by
  rw[List.map_drop];exact RU aE Sc J
 have l2:(ls.drop 2).length=ls.length-2:=y5 ..;refine wy ?_;refine dx (λi e h=>e=[(2,.mp 0 0),(4,.mp 1 0),(5,.fR 2),(18,.sl ((ls.drop 2).map bu) .no),(19,bq ((ls.length-2:Nat):Int)),(20,bq i)]/\h[0]?=a_ (.cells fZ bf)/\(∃x,h[1]?=a_ (.cells x bf)/\nJ x)/\∃es cC,h[2]?=a_ (.eH es cC)/\EG es) (ls.length-2)
  ⟨rfl,rfl,⟨_,rfl,n1,0,bf,.bp,rfl,yZ _⟩,[],0,rfl,λe he=>by cases he⟩ ?_ ?_
 · rintro i e h Q ⟨rfl,h0,⟨x,Y,nm,v,al,bv,rfl,wI⟩,es,cC,hm,hM⟩
   obtain⟨w,hw⟩:∃w,(ls.drop 2)[i]?=a_ w:=⟨(ls.drop 2)[i]' aa,cx aa⟩;have DD:=hW.each w (vQ (cE hw));have e2:cA 1 (.sl ((ls.drop 2).map bu) .no) i=a_ (.fp [bu w] 0):=mP (x:=bu w) (by rw[fL,hw];rfl) rfl;refine wy ?_;refine ek (adB w 61 aa) ?_;rintro r ⟨a,b,f,rfl,oV,PV⟩;have K6:=gl Y;refine wy ?_;refine c_ (λq=>?_) λq=>?_;refine ek (anO cB hI b aa) ?_;rintro r ⟨n,ok,rfl,_,_⟩;have st:=Q3 Y n;have zR:(h.set 1 (.cells (eJ nm n al bv) bf))[1]?=a_ (.cells (eJ nm n al bv) bf):=bV K6;have qM:(h.set 1 (.cells (eJ nm n al bv) bf))[0]?=a_ (.cells fZ bf):=by rw[bC aa];exact h0
   have vg:(h.set 1 (.cells (eJ nm n al bv) bf))[2]?=a_ (.eH es cC):=by rw[bC aa];exact hm
   refine wy ?_;generalize h.set 1 (.cells (eJ nm n al bv) bf)=g5 at zR qM vg⊢;obtain⟨yw,v5,xN,tR,VM,sN⟩:∃yw v5 xN tR,iR 100001 tR/\eJ nm n al bv=eJ yw v5 xN tR:=⟨_,_,_,_,wI,rfl⟩;rw[sN] at zR
   rotate_left
   refine c_ (λbt=>?_) λbt=>?_;refine ek (ajT cB b aa) ?_;rintro r ⟨gW,gy,ok,rfl,tZ⟩;have st:=Q4 Y gW;have ato:=bV (a:=.cells (eJ nm v gW bv) bf) K6;have yH:=Q5 ato tZ.one.1 tZ.one.2;have zR:((h.set 1 (.cells (eJ nm v gW bv) bf)).set 1 (.cells (eJ nm v gW gy) bf))[1]?=a_ (.cells (eJ nm v gW gy) bf):=bV (by simpa using K6);have qM:((h.set 1 (.cells (eJ nm v gW bv) bf)).set 1 (.cells (eJ nm v gW gy) bf))[0]?=a_ (.cells fZ bf):=by rw[bC aa,bC aa];exact h0
   have vg:((h.set 1 (.cells (eJ nm v gW bv) bf)).set 1 (.cells (eJ nm v gW gy) bf))[2]?=a_ (.eH es cC):=by rw[bC aa,bC aa];exact hm
   refine wy ?_;generalize(h.set 1 (.cells (eJ nm v gW bv) bf)).set 1 (.cells (eJ nm v gW gy) bf)=g5 at zR qM vg⊢;obtain⟨yw,v5,xN,tR,VM,sN⟩:∃yw v5 xN tR,iR 100001 tR/\eJ nm v gW gy=eJ yw v5 xN tR:=⟨_,_,_,_,tZ,rfl⟩;rw[sN] at zR
   rotate_left
   obtain⟨g5,Fy⟩:∃g5,g5=h:=⟨h,rfl⟩;obtain⟨yw,v5,xN,tR,VM,sN⟩:∃yw v5 xN tR,iR 100001 tR/\eJ nm v al bv=eJ yw v5 xN tR:=⟨_,_,_,_,wI,rfl⟩;have zR:=Y;have qM:=h0;have vg:=hm;rw[sN] at zR;refine wy ?_;rw[<-Fy] at zR qM vg⊢;obtain⟨nl,dc⟩:=Mg vg hM a;obtain⟨oh,k_,eL,u9⟩:=XF vg hM a (dy.wrap (nl+1));have C_:(g5.set 2 (.eH oh k_))[0]?=a_ (.cells fZ bf):=by rw[bC aa];exact qM
   have PJ:(g5.set 2 (.eH oh k_))[1]?=a_ (.cells (eJ yw v5 xN tR) bf):=by rw[bC aa];exact zR
   have Dr:(g5.set 2 (.eH oh k_))[2]?=a_ (.eH oh k_):=bV (gl vg);refine mG @dc @eL ?_;generalize g5.set 2 (.eH oh k_)=g6 at C_ PJ Dr⊢;have mV:=BP C_ rfl (x:=fZ) rfl rfl;have k0:=bV (a:=.cells fZ bf) (gl C_);have BJ:bA (g6.set 0 (.cells fZ bf)) bh 4 (.mp 0 0)=a_ (.agg fZ):=(Q2 k0).2;have bad:∃n bS,cX (g6.set 0 (.cells fZ bf)) n (.bQ [.agg fZ,bf])=a_ bS/\G9 bS:=Mj (yZ _);cases f with
   |false=>
    exact l5 @uC @f0 @mV @BJ bad
   |true=>
    exact p5 @yV @uC @f0 @mV @BJ bad
   all_goals
    obtain⟨nl,dc⟩:=Mg vg hM a;obtain⟨oh,k_,eL,u9⟩:=XF vg hM a (dy.wrap (nl+1));have C_:(g5.set 2 (.eH oh k_))[0]?=a_ (.cells fZ bf):=by rw[bC aa];exact qM
    have PJ:(g5.set 2 (.eH oh k_))[1]?=a_ (.cells (eJ yw v5 xN tR) bf):=by rw[bC aa];exact zR
    have Dr:(g5.set 2 (.eH oh k_))[2]?=a_ (.eH oh k_):=bV (gl vg);refine wy ?_;generalize g5.set 2 (.eH oh k_)=g6 at C_ PJ Dr⊢;obtain⟨Mo,nk⟩:=Mg Dr u9 a;have mV:=BP C_ rfl (x:=fZ) rfl rfl;have k0:=bV (a:=.cells fZ bf) (gl C_);have BJ:bA (g6.set 0 (.cells fZ bf)) bh 4 (.mp 0 0)=a_ (.agg fZ):=(Q2 k0).2;have bad:∃n bS,cX (g6.set 0 (.cells fZ bf)) n (.bQ [.agg fZ,bf])=a_ bS/\G9 bS:=Mj (yZ _);cases f with
    |false=>
     exact jl @f0 @mV @BJ bad
    |true=>
     cases ok with
     |false=>
      exact jl @f0 @mV @BJ bad
     |true=>
      refine wy ?_;refine c_ (λmD=>?_) λmD=>?_;exact jl @f0 @mV @BJ bad;exact⟨rfl,C_,⟨_,PJ,yw,v5,xN,tR,rfl,VM⟩,oh,k_,Dr,u9⟩
 rintro e h ⟨rfl,h0,⟨x,Y,nm,v,al,bv,rfl,wI⟩,es,cC,hm,hM⟩;have nW:=BP h0 rfl (x:=eJ nm v al bv) rfl (XO wI.one.1);exact nD (Mj wI)
end
section
variable{v:bg}{xs:List (List bg)}{k n:Nat}{x z:List bg}{g h h':List br}{a b:List UInt8}
def rz(v:bg)(xs:List (List bg)):Prop:=(v=.bp/\xs=[])\/∃t,v=.sl (xs.map dD) t
@[go_sem]def rz.len(h:rz v xs)(J):cN v J=a_ (.v (.int .i64 (xs.length:Int)),J):=by
 rcases h with⟨rfl,rfl⟩|⟨t,rfl⟩
 rfl;simp[qq,goInt]
@[go_sem]def rz.cI(h:rz v xs){i:Nat}(I:xs[i]?=a_ x)(hn:x.length=n):cA n v i=a_ (.fp x 0):=by
 rcases h with⟨rfl,rfl⟩|⟨t,rfl⟩
 simp at I;exact mP (x:=.agg x) aA hn
@[go_sem]def rz.fY(hn:x.length=n)(J):bA J bh n (.fp x 0)=a_ (.agg x):=by
 show eZ bh n x 0=_;unfold eZ;rw[if_pos rfl,if_pos aa,pg,n6 aa]
structure tI(h:List br)(q:bg)(x:List bg):Prop where
 nl:uR q=a_ q
 ne:∀neg,nL .ptr neg q (.v (.pointer bn))=a_ (.v (.bool neg))
 fa:∀o,∃MN,k9 o q=a_ MN/\(∀o2,k9 o2 MN=k9 (o+o2) q)/\∀g,Ext h g->∀y,x[o]?=a_ y->bA g bf 1 MN=a_ y
 fY:∀g,Ext h g->bA g bh x.length q=a_ (.agg x)
def tI.ext{q}(s:tI h q x)(he:Ext h h'):tI h' q x:=
 ⟨s.nl,s.ne,λo=>by obtain⟨MN,Y,h3,V⟩:=s.fa o;exact⟨MN,Y,h3,λg hg=>V g λj b q=>hg j b (he j b q)⟩,λg hg=>s.fY g λj b q=>hg j b (he j b q)⟩
@[go_sem]def Yw(x):eZ bh x.length x 0=a_ (.agg x):=by
 unfold eZ;rw[if_pos rfl,if_pos aa,pg,sy]
def tI.fp(h)(x):tI h (.fp x 0) x:=
 ⟨rfl,λneg=>Yx x 0 neg,λo=>⟨.fp x (0+o),rfl,λo2=>by simp only[k9,gF,nG],λg _ y hy=>by rw[gF];exact hy⟩,λg _=>Yw x⟩
def tI.mp{h}{k}{x}(S:h[k]?=a_ (.cells x bf)):tI h (.mp k 0) x:=
 ⟨rfl,λneg=>Yy k 0 neg,λo=>⟨.mp k (0+o),rfl,λo2=>by simp only[k9,gF,nG],λg hg y hy=>by
  have:=hg _ _ S;simp only[bA,this];rw[gF];exact hy⟩,λg hg=>by
  have:=hg _ _ S;simp only[bA,this];exact Yw x⟩
structure n9(n:Nat)(h:List br)(v:bg)(xs:List (List bg)):Prop where
 len:∀g,cN v g=a_ (.v (.int .i64 (xs.length:Int)),g)
 cI:∀(i:Nat) x,xs[i]?=a_ x->∃q,cA n v i=a_ q/\tI h q x
 el:∀x∈xs,x.length=n
def n9.ext(s:n9 n h v xs)(he:Ext h h'):n9 n h' v xs:=
 ⟨s.len,λi x I=>by obtain⟨q,Y,V⟩:=s.cI i x I;exact⟨q,Y,V.ext he⟩,s.el⟩
def n9.slc(h)(hv:rz v xs)(hn:∀x∈xs,x.length=n):n9 n h v xs:=
 ⟨hv.len,λi x I=>⟨_,hv.cI I (hn x (cE I)),tI.fp h x⟩,hn⟩
def n9.row(D:jT n h k v xs):n9 n h v xs:=
 ⟨D.len,λi x I=>⟨_,D.cI (gl I),by
  have DE:=(D.each x (cE I)).1;have kp:∀g,Ext h g->jT n g k v xs:=λg hg=>D.keep λZ q=>hg _ _ q;refine⟨Gx _ _ _,λneg=>?_,λo=>⟨_,B3 o _ _ _,λo2=>by simp only[k9,nG],λg hg y hy=>((kp g hg).iD I (by have:=(gl hy);omega) hy)⟩,λg hg=>?_⟩;cases neg<;>rfl;have:=(kp g hg).ajG (o:=0) (w:=n) I aa;rw[uE,pg,n6 aa] at this;rw[DE];exact this⟩,λx I=>(D.each x I).1⟩
def Tc(n:Nat)(r:bg):Prop:=∃m:Int,r=m/\(m= -1\/∃j:Nat,m=(j:Int)/\j<n)
section
variable{G:Cells}{v y:bg}{xs:List (List bg)}{h:List br}
def awi(hv:n9 9 h v xs)(hl:xs.length<=100000)(lS:∀x∈xs,∀g,Ext h g->jK G bE y [.agg x] g λr g'=>jD r/\∃l,g'=g++l):
  cy G bE 161 [v,y] h λr h'=>Tc xs.length r/\∃l,h'=h++l:=by
 refine aib.go ?_;refine hD @hv.len ?_;refine dx (λi e g=>e=[(0,v),(1,y),(7,bq xs.length),(8,bq i)]/\∃l,g=h++l) xs.length ⟨rfl,[],af⟩ ?_ ?_;rintro i e g Q ⟨rfl,l,rfl⟩;obtain⟨x,I⟩:=cO Q;obtain⟨q,Y,V⟩:=hv.cI i x I;have h3:=V.fY (h++l) lJ;rw[(hv.el x (cE I))] at h3;refine wy (vK (lS x (cE I) _ lJ) ?_);rintro r g2 ⟨⟨b,rfl⟩,l2,rfl⟩;cases b with
 |true=>
  refine wy ?_;exact⟨⟨_,rfl,bF ⟨i,rfl,Q⟩⟩,l++l2,aH0⟩
 |false=>
  refine wx ?_;exact⟨rfl,l++l2,aH0⟩
 rintro e g ⟨rfl,l,rfl⟩;refine wy ?_;exact⟨⟨_,rfl,bD rfl⟩,l,rfl⟩
def agR(hv:n9 4 h v xs)(hl:xs.length<=100000)(lS:∀x∈xs,∀g,Ext h g->jK G bE y [.agg x] g λr g'=>jD r/\∃l,g'=g++l):
  cy G bE 99 [v,y] h λr h'=>Tc xs.length r/\∃l,h'=h++l:=by
 refine ahF.go ?_;refine hD @hv.len ?_;refine dx (λi e g=>e=[(0,v),(1,y),(7,bq xs.length),(8,bq i)]/\∃l,g=h++l) xs.length ⟨rfl,[],af⟩ ?_ ?_;rintro i e g Q ⟨rfl,l,rfl⟩;obtain⟨x,I⟩:=cO Q;obtain⟨q,Y,V⟩:=hv.cI i x I;have h3:=V.fY (h++l) lJ;rw[(hv.el x (cE I))] at h3;refine wy (vK (lS x (cE I) _ lJ) ?_);rintro r g2 ⟨⟨b,rfl⟩,l2,rfl⟩;cases b with
 |true=>
  refine wy ?_;exact⟨⟨_,rfl,bF ⟨i,rfl,Q⟩⟩,l++l2,aH0⟩
 |false=>
  refine wx ?_;exact⟨rfl,l++l2,aH0⟩
 rintro e g ⟨rfl,l,rfl⟩;refine wy ?_;exact⟨⟨_,rfl,bD rfl⟩,l,rfl⟩
def aws(S:g[k]?=a_ (.cells z bf))(I:x[0]?=a_ (bu a))(hz:z[0]?=a_ (bu b)):
  jK G bE (.fn (.func 93) [] [.mp k 0]) [.agg x] g λr g'=>jD r/\∃l,g'=g++l:=by
 show cy G bE 93 [.agg x,.mp k 0] g _;refine ahz.go ?_;refine wy ?_;exact⟨⟨_,rfl⟩,_,rfl⟩
def awt(S:g[k]?=a_ (.cells z bf))(I:x[0]?=a_ (bu a))(hz:z[0]?=a_ (bu b)):
  jK G bE (.fn (.func 96) [] [.mp k 0]) [.agg x] g λr g'=>jD r/\∃l,g'=g++l:=by
 show cy G bE 96 [.agg x,.mp k 0] g _;refine ahC.go ?_;refine wy ?_;exact⟨⟨_,rfl⟩,_,rfl⟩
def apU(hv:n9 9 h v xs)(hl:xs.length<=100000)(lS:∀x∈xs,∀g,Ext h g->jK G bE y [.agg x] g λr g'=>jD r/\∃l,g'=g++l):
  cy G bE 92 [v,y] h λr h'=>jD r/\∃l,h'=h++l:=by
 refine ahy.go ?_;refine wy (cm (awi hv hl lS) ?_);rintro r g ⟨⟨m,rfl,_⟩,l,rfl⟩;refine wy ?_;exact⟨⟨_,rfl⟩,l,rfl⟩
def apV(hv:n9 4 h v xs)(hl:xs.length<=100000)(lS:∀x∈xs,∀g,Ext h g->jK G bE y [.agg x] g λr g'=>jD r/\∃l,g'=g++l):
  cy G bE 95 [v,y] h λr h'=>jD r/\∃l,h'=h++l:=by
 refine ahB.go ?_;refine wy (cm (agR hv hl lS) ?_);rintro r g ⟨⟨m,rfl,_⟩,l,rfl⟩;refine wy ?_;exact⟨⟨_,rfl⟩,l,rfl⟩
end
end
section
variable{h g:List br}{k o n b6 B:Nat}{e:TypeId}{Z xs:List bg}{v x:bg}
def zc(k n:Nat)(e:TypeId)(h g:List br):Prop:=h.length<=g.length/\∀(j:Nat) b,h[j]?=a_ b->j≠k->(∀c,b≠.tok c n e)->g[j]?=a_ b
def zc.cells{j:Nat}{c:List bg}{f:Bool}(q:zc k n e h g)(O:h[j]?=a_ (.cells c f))(hj:j≠k):g[j]?=a_ (.cells c f):=q.2 _ _ O hj af
def zc.CM{Z:List bg}{m:Nat}{e':TypeId}{w:bg}{ys:List bg}(q:zc k n e h g)(S:h[k]?=a_ (.cells Z bf))(hw:cV h w ys m e')(bR:m≠n\/e'≠e):cV g w ys m e':=by
 rcases hw with z|⟨id,cg,z2⟩
 exact bD z;exact bF ⟨id,cg,q.2 _ _ z2 (by rintro rfl;rw[S] at z2;cases z2) aIQ⟩
def zc.own{Z:List bg}{m B:Nat}{e':TypeId}{w:bg}{ys:List bg}(q:zc k n e h g)(S:h[k]?=a_ (.cells Z bf))(hw:me B h w ys m e')(bR:m≠n\/e'≠e):me B g w ys m e':=by
 rcases hw with z|⟨id,cg,z2,z3⟩
 exact bD z;exact bF ⟨id,cg,z2,q.2 _ _ z3 (by rintro rfl;rw[S] at z3;cases z3) aIQ⟩
def zc.kU(q:zc k n e h g):iH k h g:=⟨q.1,λj c f hj O=>q.cells O hj⟩
@[go_sem]def U9(O:g[k]?=a_ (.cells Z bf))(Y:cr v=bh)(ho:o<Z.length):bL g 1 (.mp k o) v=a_ (g.set k (.cells (Z.set o v) bf)):=TN O Y ho
def KW(hA:cV h v xs n e)(O:h[k]?=a_ (.cells Z bf))(ho:o<Z.length)(f_:c8 n xs=bh)(X6:c8 n [x]=bh)(hn:0<n)(hy:0<b6)(hf:(xs.length+1)*b6<=140737488355328):
  ∃v' g,eu h n b6 e v (.sl [x] .exact)=a_ (v',g)/\bL g 1 (.mp k o) v'=a_ (g.set k (.cells (Z.set o v') bf))/\cr v'=bh/\cV (g.set k (.cells (Z.set o v') bf)) v' (xs++[x]) n e/\(g.set k (.cells (Z.set o v') bf))[k]?=a_ (.cells (Z.set o v') bf)/\zc k n e h (g.set k (.cells (Z.set o v') bf)):=by
 obtain⟨v',g,e1,hB,_,hl,S⟩:=ni hA f_ X6 hn hy hf;have ig:∀{j:Nat} {b:br},h[j]?=a_ b->(∀c,b≠.tok c n e)->g[j]?=a_ b:=λq hn=>S _ _ q λys z=>by
  rcases hA with⟨cg,_⟩|⟨id,cg,z2⟩
  rw[cg] at z;cases z;rw[cg] at z;cases z;rw[q] at z2;cases z2;exact hn _ rfl
 have kb:=ig O af
 have o1:cr v'=bh:=by rcases hB with⟨rfl,_⟩|⟨_,rfl,_⟩<;>rfl
 exact⟨v',g,e1,U9 kb o1 ho,o1,jN hB kb,bV (gl kb),aJ,λj b q hj hn=>by rw[bC (eW hj)];exact ig q hn⟩
def aeO(hA:me B h v xs n e)(hB:B<=h.length)(O:h[k]?=a_ (.cells Z bf))(ho:o<Z.length)(f_:c8 n xs=bh)(X6:c8 n [x]=bh)(hn:0<n)(hy:0<b6)(hf:(xs.length+1)*b6<=140737488355328):
  ∃v' g,eu h n b6 e v (.sl [x] .exact)=a_ (v',g)/\bL g 1 (.mp k o) v'=a_ (g.set k (.cells (Z.set o v') bf))/\cr v'=bh/\me B (g.set k (.cells (Z.set o v') bf)) v' (xs++[x]) n e/\(g.set k (.cells (Z.set o v') bf))[k]?=a_ (.cells (Z.set o v') bf)/\zc k n e h (g.set k (.cells (Z.set o v') bf)):=by
 obtain⟨v',g,e1,hC,hl,S⟩:=Gh hA hB f_ X6 hn hy hf;have ig:∀{j:Nat} {b:br},h[j]?=a_ b->(∀c,b≠.tok c n e)->g[j]?=a_ b:=λq hn=>S _ _ q λys z=>by
  rcases hA with cg|⟨id,cg,_,z2⟩
  rw[cg] at z;cases z;rw[cg] at z;cases z;rw[q] at z2;cases z2;exact hn _ rfl
 have kb:=ig O af
 have o1:cr v'=bh:=by rcases hC with rfl|⟨_,rfl,_⟩<;>rfl
 refine⟨v',g,e1,U9 kb o1 ho,o1,?_,bV (gl kb),aJ,λj b q hj hn=>by rw[bC (eW hj)];exact ig q hn⟩
 rcases hC with z|⟨id,cg,z2,z3⟩
 exact bD z;exact bF ⟨id,cg,z2,by rw[bC (by rintro rfl;rw[kb] at z3;cases z3)];exact z3⟩
end
section
variable{x:List bg}{n:Nat}{xs:List (List bg)}{h:List br}{v:bg}{e:TypeId}
def uI.ok(h:uI x):x.length=9/\x.all cr=bh/\∃nm,x[0]?=a_ (bu nm):=by
 obtain⟨nm,cq,i,p,b_,a,al,mv,ex,rfl,hg,hm,_⟩:=h;exact⟨rfl,Gc hg.one.1 hm.one.1,nm,rfl⟩
def nJ.ok(h:nJ x):x.length=4/\x.all cr=bh/\∃nm,x[0]?=a_ (bu nm):=by
 obtain⟨nm,v,al,bv,rfl,O⟩:=h;exact⟨rfl,XO O.one.1,nm,rfl⟩
@[go_sem]def vr(h:∀x∈xs,x.length=n/\x.all cr=bh):c8 n (xs.map dD)=bh:=by
 rw[c8,eO];intro y hy;obtain⟨x,I,rfl⟩:=dZ.1 hy;obtain⟨Y,V⟩:=h x I;simp only[jy,Y,V,beq_self_eq_true,Bool.and_self]
def zq(hA:cV h v (xs.map dD) n e):rz v xs:=by
 rcases hA with⟨q,z⟩|⟨id,q,_⟩
 exact bD ⟨q,aN⟩;exact bF ⟨_,q⟩
structure tD(e1 e2:TypeId)(xD:List bg->Prop)(k:Nat)(bB mv:bg)(cv marks:List (List bg))(h:List br):Prop where
 b:h[k]?=a_ (.cells [bB,mv] bf)
 n:cV h bB (cv.map dD) 9 e1
 m:cV h mv (marks.map dD) 4 e2
 mB:∀x∈cv,xD x
 gL:∀x∈marks,nJ x
 nl:cv.length<=24
 ml:marks.length<=8
abbrev ao4:=tD 96 143 uI
def NX(k:Nat)(h:List br):Prop:=∃bB mv cv marks,ao4 k bB mv cv marks h
section
variable{e1 e2:TypeId}{xD:List bg->Prop}{k:Nat}{bB mv:bg}{cv marks:List (List bg)}{h:List br}
def tD.app{x}(s:tD e1 e2 xD k bB mv cv marks h):tD e1 e2 xD k bB mv cv marks (h++x):=⟨bU s.b,s.n.ext,s.m.ext,s.mB,s.gL,s.nl,s.ml⟩
@[go_sem]def tD.fY(s:tD e1 e2 xD k bB mv cv marks h):bA h bf 1 (.mp k 0)=a_ bB/\bA h bf 1 (.mp k 1)=a_ mv/\bA h bh 2 (.mp k 0)=a_ (.agg [bB,mv]):=by
 simp only[bA,s.b];exact⟨rfl,rfl,rfl⟩
def zp{xs}(hA:cV h v xs n e):cr v=bh/\v.cells=[v]:=by
 rcases hA with⟨rfl,_⟩|⟨_,rfl,_⟩<;>exact⟨rfl,rfl⟩
def tD.alm(s:tD e1 e2 xD k bB mv cv marks h)(hN:∀{x},xD x->x.length=9/\x.all cr=bh/\∃nm,x[0]?=a_ (bu nm))(I:xD x)(hl:cv.length<24):
  ∃j9 g,eu h 9 104 e1 bB (.sl [.agg x] .exact)=a_ (j9,g)/\bL g 1 (.mp k 0) j9=a_ (g.set k (.cells [j9,mv] bf))/\tD e1 e2 xD k j9 mv (cv++[x]) marks (g.set k (.cells [j9,mv] bf))/\iH k h (g.set k (.cells [j9,mv] bf)):=by
 obtain⟨j9,g,e1,e2,_,hA,O,q⟩:=KW (b6:=104) (o:=0) s.n s.b af (vr λy hy=>⟨(hN (s.mB y hy)).1,(hN (s.mB y hy)).2.1⟩) (vr λy hy=>by rw[dR.1 hy];exact⟨(hN I).1,(hN I).2.1⟩) ag ag ah;exact⟨j9,g,e1,e2,⟨O,by rw[gQ];exact hA,q.CM s.b s.m (bD ag),λy hy=>(gA.1 hy).elim (s.mB y) λq=>aJB,s.gL,ah,s.ml⟩,q.kU⟩
def tD.alk(s:tD e1 e2 xD k bB mv cv marks h)(I:nJ x)(hl:marks.length<8):
  ∃nA g,eu h 4 56 e2 mv (.sl [.agg x] .exact)=a_ (nA,g)/\bL g 1 (.mp k 1) nA=a_ (g.set k (.cells [bB,nA] bf))/\tD e1 e2 xD k bB nA cv (marks++[x]) (g.set k (.cells [bB,nA] bf))/\iH k h (g.set k (.cells [bB,nA] bf)):=by
 obtain⟨nA,g,e1,e2,_,hA,O,q⟩:=KW (b6:=56) (o:=1) s.m s.b af (vr λy hy=>⟨(s.gL y hy).ok.1,(s.gL y hy).ok.2.1⟩) (vr λy hy=>by rw[dR.1 hy];exact⟨I.ok.1,I.ok.2.1⟩) ag ag ah;exact⟨nA,g,e1,e2,⟨O,q.CM s.b s.n (bD ag),by rw[gQ];exact hA,s.mB,λy hy=>(gA.1 hy).elim (s.gL y) λq=>aJB,s.nl,ah⟩,q.kU⟩
@[go_sem]def Mq(h)(I:x.length=9)(Y:x.all cr=bh):bL (h++[bw gz bf]) 9 (.mp h.length 0) (.agg x)=a_ (h++[bw x bf]):=by
 rw[wZ (Z:=gz) af rfl I Y];simp
@[go_sem]def XN(h)(I:x.length=4)(Y:x.all cr=bh):bL (h++[bw fZ bf]) 4 (.mp h.length 0) (.agg x)=a_ (h++[bw x bf]):=by
 rw[BP (Z:=fZ) af rfl I Y];simp
end
section
variable{G:Cells}
def apB(cB:fS G)(hI:A4 G){k}(jE:NX k h){ls}(hW:Og ls):
  cy G bE 51 [.mp k 0,.sl (ls.map bu) .no] h λr h'=>(∃e:Int,r=e)/\NX k h'/\iH k h h':=by
 obtain⟨bB,mv,cv,marks,hS⟩:=jE;refine ahe.go ?_;have c7:=hW.len;have keep:(∃e:Int,cU (.int .i64 2)=.v (.int .i64 e))/\NX k h/\iH k h h:=⟨⟨2,rfl⟩,⟨bB,mv,cv,marks,hS⟩,iH.refl _ _⟩;have LY:[cU (.string ⟨[].toArray⟩),.bp,.v (.bool bf),.v (.bool bf),.v (.bool bf),.v (.int .i64 0),.v (.bool bf),.bp,.v (.string ⟨[].toArray⟩)]=gz:=rfl;have agJ:[cU (.string ⟨[].toArray⟩),.v (.int .i64 0),.v (.bool bf),.bp]=fZ:=rfl;refine wy ?_;refine c_ (λq=>keep) λq=>?_;have V:2<=ls.length:=au
 obtain⟨w1,agG⟩:∃n,ls[1]?=a_ n:=⟨ls[1],cx aa⟩;obtain⟨w0,LV⟩:∃n,ls[0]?=a_ n:=⟨ls[0],cx aa⟩;have e1:cA 1 (.sl (ls.map bu) .no) (1:Int)=a_ (.fp [bu w1] 0):=mP (x:=bu w1) (by simp[agG]) rfl;have e0:cA 1 (.sl (ls.map bu) .no) (0:Int)=a_ (.fp [bu w0] 0):=mP (x:=bu w0) (by simp[LV]) rfl;refine wy ?_;refine ek (WW cB w1 (by have:=hW.each w1 (cE agG);omega)) ?_;rintro r ⟨b,rfl⟩;cases b with
 |false=>
  exact fj keep
 |true=>
  refine wy ?_;refine c_ (λaBi=>?_) λaBi=>?_;refine jz (aAn cB hI hW V) (cl (qh (bD rfl)) dK) ?_;rintro r ⟨x,ok,rfl,I⟩;obtain⟨pR,o5,nm,s0⟩:=I.ok;have nn:=Mq h pR o5;have eX:=hS.app (x:=[bw x bf]);have kx:(h++[bw x bf])[h.length]?=a_ (.cells x bf):=af
  have qk:iH k h (h++[bw x bf]):=iH.app;refine wy ?_;generalize h.length=m at kx⊢;generalize h++[bw x bf]=g at eX kx qk⊢;cases ok with
  |false=>
   refine fj ?_;exact⟨⟨_,rfl⟩,⟨_,_,_,_,eX⟩,qk⟩
  |true=>
   refine wy ?_;refine c_ (λaBk=>?_) λaBk=>?_;exact⟨⟨_,rfl⟩,⟨_,_,_,_,eX⟩,qk⟩;refine cm (apU (n9.slc _ (zq eX.n) λy hy=>(hS.mB y hy).ok.1) (by have:=hS.nl;omega) λy hy g2 lu=>aws (lu _ _ kx) (hS.mB y hy).ok.2.2.choose_spec s0) ?_;rintro r g2 ⟨⟨b,rfl⟩,l2,rfl⟩;have fU:=eX.app (x:=l2);have F1:(g++l2)[m]?=a_ (.cells x bf):=bU kx;have rM:iH k h (g++l2):=qk.trans iH.app;generalize g++l2=g3 at fU F1 rM⊢;cases b with
   |true=>
    refine fj ?_;exact⟨⟨_,rfl⟩,⟨_,_,_,_,fU⟩,rM⟩
   |false=>
    refine l6 @fU.fY.1 ((zq fU.n).len) (cL (λmD=>?_) λmD=>?_);refine eN @mD ?_;exact⟨⟨_,rfl⟩,⟨_,_,_,_,fU⟩,rM⟩;obtain⟨j9,g4,p1,p2,p3,jj⟩:=fU.alm uI.ok I (by have:=fU.nl;simp at mD;omega);have lx:bA g3 bh 9 (.mp m 0)=a_ (.agg x):=by
     simp only[bA,F1];unfold eZ;rw[if_pos rfl,if_pos aa,pg,n6 aa]
    have ab:e9 9 [.agg x]=a_ (.sl [.agg x] .exact):=by
     have:=vr λy hy=>aHL
     simp only[fM,mI] at this;simp[e9,this]
    refine wx ?_;exact⟨⟨_,rfl⟩,⟨_,_,_,_,p3⟩,rM.trans jj⟩
  refine c_ (λAw=>?_) λAw=>keep;refine jz (azK cB hI hW V) (cl (qh (bD rfl)) dK) ?_;rintro r ⟨x,ok,rfl,I⟩;obtain⟨pR,o5,nm,s0⟩:=I.ok;have nn:=XN h pR o5;have eX:=hS.app (x:=[bw x bf]);have kx:(h++[bw x bf])[h.length]?=a_ (.cells x bf):=af
  have qk:iH k h (h++[bw x bf]):=iH.app;refine wy ?_;generalize h.length=m at kx⊢;generalize h++[bw x bf]=g at eX kx qk⊢;cases ok with
  |false=>
   refine fj ?_;exact⟨⟨_,rfl⟩,⟨_,_,_,_,eX⟩,qk⟩
  |true=>
   refine wx (cm (apV (n9.slc _ (zq eX.m) λy hy=>(hS.gL y hy).ok.1) (by have:=hS.ml;omega) λy hy g2 lu=>awt (lu _ _ kx) (hS.gL y hy).ok.2.2.choose_spec s0) ?_);rintro r g2 ⟨⟨b,rfl⟩,l2,rfl⟩;have fU:=eX.app (x:=l2);have F1:(g++l2)[m]?=a_ (.cells x bf):=bU kx;have rM:iH k h (g++l2):=qk.trans iH.app;generalize g++l2=g3 at fU F1 rM⊢;cases b with
   |true=>
    refine fj ?_;exact⟨⟨_,rfl⟩,⟨_,_,_,_,fU⟩,rM⟩
   |false=>
    refine l6 @fU.fY.2.1 ((zq fU.m).len) (cL (λmD=>?_) λmD=>?_);refine eN @mD ?_;exact⟨⟨_,rfl⟩,⟨_,_,_,_,fU⟩,rM⟩;obtain⟨nA,g4,p1,p2,p3,jj⟩:=fU.alk I (by have:=fU.ml;simp at mD;omega);have lx:bA g3 bh 4 (.mp m 0)=a_ (.agg x):=by
     simp only[bA,F1];unfold eZ;rw[if_pos rfl,if_pos aa,pg,n6 aa]
    have ab:e9 4 [.agg x]=a_ (.sl [.agg x] .exact):=by
     have:=vr λy hy=>aHL
     simp only[fM,mI] at this;simp[e9,this]
    refine wx ?_;exact⟨⟨_,rfl⟩,⟨_,_,_,_,p3⟩,rM.trans jj⟩
end
end
section
variable{x:List bg}{h J:List br}{k:Nat}{a b:bg}
def ajP:∀(l) (n),yX (l.drop n)+(l.drop n).length<=yX l+l.length
 |l,0=>af
 |[],n+1=>af
 |x::r,n+1=>by
  have:=ajP r n;simp only[AT,yX,eV,fM,y8] at this⊢;omega
def amV(c):∀s:List UInt8,yX (jf c s)+(jf c s).length=s.length+1
 |[]=>by simp[jf,yX]
 |b::r=>by
  have ih:=amV c r;unfold jf;split;simp only[yX,eV,fM,y8,iP] at ih⊢;omega;split;rename_i he;rw[he] at ih;simp[yX] at ih;rename_i h t he;rw[he] at ih;simp only[yX,eV,fM,y8] at ih⊢;omega
def aED{s}(hs:s.length<=70000)(c):Og (jf c s):=by
 obtain⟨Y,V⟩:=M5 c s;have h3:=amV c s;exact⟨λw hw=>by have:=V w hw;omega,λn=>by have:=ajP (jf c s) n;omega,aa⟩
def ao7(bB mv:bg):Prop:=∃cv marks:List (List bg),cG bB (cv.map dD)/\cG mv (marks.map dD)/\(∀x∈cv,uI x)/\(∀x∈marks,nJ x)/\cv.length<=24/\marks.length<=8
def aaZ(r:bg):Prop:=∃(bB mv:bg) (a e:Int),r=.bQ [.agg [bB,mv],bq a,bq e]/\ao7 bB mv
def uI.fz(h:uI x)(J):b8 J (.agg x) (.agg x):=by
 obtain⟨nm,cq,i,p,b_,a,al,mv,ex,rfl,hg,hm,_⟩:=h;exact kA (bG (bH _) (bG (hg.fz J) (bG (bH _) (bG (bH _) (bG (bH _) (bG (bH _) (bG (bH _) (bG (hm.fz J) (bG (bH _) cW)))))))))
def nJ.fz(h:nJ x)(J):b8 J (.agg x) (.agg x):=by
 obtain⟨nm,v,al,bv,rfl,O⟩:=h;exact kA (bG (bH _) (bG (bH _) (bG (bH _) (bG (O.fz J) cW))))
def alY{v}{xs:List (List bg)}{n}{e}(hA:cV J v (xs.map dD) n e)(I:∀x∈xs,b8 J (.agg x) (.agg x)):∃v',b8 J v v'/\cG v' (xs.map dD):=by
 rcases hA with⟨rfl,z⟩|⟨id,rfl,_⟩
 exact⟨_,eB,bF ⟨rfl,z⟩⟩;exact⟨_,gP (iW I),bD rfl⟩
def Uu(a e:Int):∃n bS,cX J n (.bQ [.agg [.bp,.bp],a,e])=a_ bS/\aaZ bS:=by
 obtain⟨n,hn⟩:=(fD (bG (kA (bG eB (bG eB cW))) (bG (bH (.int .i64 a)) (bG (bH (.int .i64 e)) cW))):b8 J _ _).done;exact⟨n,_,hn,.bp,.bp,a,e,rfl,[],[],bF ⟨rfl,rfl⟩,bF ⟨rfl,rfl⟩,af,af,ag,ag⟩
@[go_sem]def ZN{Z}(O:h[k]?=a_ (.cells Z bf))(T:Z.length=2)(ha:cr a=bh)(i_:cr b=bh):bL h 2 (.mp k 0) (.agg [a,b])=a_ (h.set k (.cells [a,b] bf)):=by
 have e:(dD [a,b]).cells=[a,b]:=rfl;simp only[bL,O,e5];rw[e,if_pos ⟨rfl,aa,by simp[ha,i_]⟩];unfold dN;rw[tA,gV,gF,vO ah,hJ]
@[go_sem]def aEg(O:h[k]?=a_ (.cells [a,b] bf)):bA h bh 2 (.mp k 0)=a_ (.agg [a,b]):=by
 simp only[bA,O];rfl
def azj(s):∃v a e,IJ s=(v,a,e)/\(e≠0\/(e=0/\∃ls:List (List UInt8),cG v (ls.map bu)/\ls.length<=65537/\∀l∈ls,l.length<=65536)):=by
 obtain⟨Y,V⟩:=M5 10 s;unfold IJ;split;exact⟨_,_,_,rfl,bD ag⟩;split;exact⟨_,_,_,rfl,bF ⟨rfl,[],bF ⟨rfl,rfl⟩,ag,af⟩⟩;split;refine⟨_,_,_,rfl,bF ⟨rfl,_,bD rfl,by rw[List.length_dropLast];omega,λl hl=>?_⟩⟩;have:=V l ((List.dropLast_sublist _).subset hl);omega;exact⟨_,_,_,rfl,bD ag⟩
section
variable{G:Cells}
def aAU(cB:fS G)(hI:A4 G)(s)(hs:s.length<=1000000):dA G bE 28 [bu s] aaZ:=by
 refine dX (ai5.go ?_);obtain⟨v,a,e,agb,hq⟩:=azj s;have sp:=azh cB s aa;rw[agb] at sp;refine wy ?_;refine fk sp ?_;refine wy ?_
 rcases hq with he|⟨rfl,ls,hv,hl1,jP⟩
 have q:(e !=0)=bh:=aHR
 exact wy (Uu _ _);have ln:=hv.cN;rw[dj] at ln;refine wy ?_;refine dx (λi e h=>e=[(2,.mp 0 0),(8,.mp 1 0),(24,v),(25,bq ls.length),(26,bq i)]/\h[0]?=a_ (.cells [.bp,.bp] bf)/\NX 1 h) ls.length ⟨rfl,rfl,.bp,.bp,[],[],rfl,bD ⟨rfl,rfl⟩,bD ⟨rfl,rfl⟩,af,af,ag,ag⟩ ?_ ?_;rintro i e h Q ⟨rfl,h0,jE⟩;obtain⟨w,hw⟩:=cO Q;have DD:=jP w (cE hw);have e1:cA 1 v i=a_ (.fp [bu w] 0):=hv.cI (x:=bu w) aHY rfl;refine wy ?_;refine fk (aC5 cB w aa) ?_;by_cases LV:w=[];subst LV;have e0:xg []=(.bp,0):=rfl;rw[e0];have azo:∀J,cN .bp J=a_ (.v (.int .i64 0),J):=λJ=>rfl;have c0:decide ((0:Int)<0)=bf:=rfl;refine jl @bq.eq_1 @azo @c0 ?_;exact⟨trivial,h0,jE⟩;by_cases fG:(jf 32 w).all Ed=bh;have e0:xg w=(.sl ((jf 32 w).map bu) .no,0):=by unfold xg;rw[if_neg LV,if_pos fG]
 rw[e0];refine wy ?_;refine c_ (λq=>?_) λq=>?_;refine cm (apB cB hI jE (aED aa 32)) ?_;rintro r g ⟨⟨e,rfl⟩,zV,hB⟩;have oU:=hB.2 _ _ _ ag h0;refine wy ?_;refine c_ (λbt=>(Uu _ _)) λbt=>?_;exact⟨rfl,oU,zV⟩;exact⟨rfl,h0,jE⟩;have e0:xg w=(.bp,2):=by unfold xg;rw[if_neg LV,if_neg fG]
 rw[e0];exact wy (Uu _ _);rintro e h ⟨rfl,h0,bB,mv,cv,marks,hS⟩;have nW:=ZN h0 rfl (zp hS.n).1 (zp hS.m).1;refine nD ?_;obtain⟨j9,cg,z2⟩:=alY (jN hS.n h0) λx I=>(hS.mB x I).fz _;obtain⟨nA,z3,z4⟩:=alY (jN hS.m h0) λx I=>(hS.gL x I).fz _;obtain⟨n,hn⟩:=(fD (bG (kA (bG cg (bG z3 cW))) (bG (bH (.int .i64 0)) (bG (bH (.int .i64 0)) cW)))).done;exact⟨n,_,hn,j9,nA,0,0,rfl,cv,marks,z2,z4,hS.mB,hS.gL,hS.nl,hS.ml⟩
end
end
section
variable{x:List bg}{k:Nat}{g:List br}{a b:List UInt8}
def oN(x:List bg):Prop:=∃(y:List bg) (b:Bool) (cF:bg),x=y++[.v (.bool b),cF]/\uI y/\(cF=.v (.pointer bn)\/A3 cF)
structure sJ(h:List br)(p bB mv:bg)(rows marks:List (List bg)):Prop where
 pp:tI h p [bB,mv]
 rr:n9 11 h bB rows
 s_:n9 4 h mv marks
 rc:∀x∈rows,oN x
 gL:∀x∈marks,nJ x
 rl:rows.length<=24
 ml:marks.length<=8
def sJ.ext{h h'}{p bB mv}{rows marks}(s:sJ h p bB mv rows marks)(he:Ext h h'):sJ h' p bB mv rows marks:=⟨s.pp.ext he,s.rr.ext he,s.s_.ext he,s.rc,s.gL,s.rl,s.ml⟩
def oN.at(h:oN x):∃nm cq i p b_ a al mv ex b cF,x=[bu nm,cq,.v (.bool i),.v (.bool p),.v (.bool b_),.v (.int .i64 a),.v (.bool al),mv,bu ex,.v (.bool b),cF]/\iR 4 cq/\iR 100001 mv/\ex.length<=40000/\(cF=.v (.pointer bn)\/A3 cF):=by
 obtain⟨y,b,cF,rfl,⟨nm,cq,i,p,b_,a,al,mv,ex,rfl,Y,V,h3⟩,h4⟩:=h;exact⟨nm,cq,i,p,b_,a,al,mv,ex,b,cF,rfl,Y,V,h3,h4⟩
section
variable{G:Cells}{h:List br}{p bB mv:bg}{rows marks:List (List bg)}
def anK(s:sJ h p bB mv rows marks):cy G bE 137 [p] h λr h'=>r=.v (.int .i64 (rows.length:Int))/\h'=h:=by
 refine W1.go ?_;obtain⟨q0,f0,_,l0⟩:=s.pp.fa 0;have Xh:=l0 h (AN h) bB rfl;exact Cc @s.pp.ne @s.pp.nl @s.rr.len tt
def aoY(h:List br)(rows:List (List bg))(t:Int)(r:bg):Prop:=(r=.v (.pointer bn)/\(t<1\/(rows.length:Int)<t))\/∃(i:Nat) (x:List bg),t=(i:Int)+1/\rows[i]?=a_ x/\tI h r x
def ach(s:sJ h p bB mv rows marks)(t):cy G bE 111 [p,.v (.int .i64 t)] h λr h'=>aoY h rows t r/\h'=h:=by
 refine QA.go ?_;have nw:=s.rl;obtain⟨q0,f0,_,l0⟩:=s.pp.fa 0;have Xh:=l0 h (AN h) bB rfl;refine hD @s.pp.ne ?_;refine c_ (λq=>?_) λq=>?_;exact⟨bD ⟨rfl,bD an⟩,trivial⟩;refine l6 @s.pp.nl @s.rr.len ?_;refine c_ (λbt=>?_) λbt=>?_;exact⟨bD ⟨rfl,bF aX⟩,trivial⟩;obtain⟨i,rfl⟩:∃i:Nat,t=(i)+1:=⟨(t-1).toNat,au⟩;have Q:i<rows.length:=aIo
 obtain⟨x,I⟩:=cO Q;obtain⟨RA,Y,V⟩:=s.rr.cI i x I;have w1:dy.wrap ((i)+1-1)=(i):=by rw[gN aa aa];omega
 refine hD @s.pp.nl ?_;exact⟨bF ⟨i,x,rfl,I,V⟩,trivial⟩
def awm(s:sJ h p bB mv rows marks)(t):cy G bE 60 [p,.v (.int .i64 t)] h λr h'=>jD r/\h'=h:=by
 refine WZ.go ?_;refine wy (cm (ach s t) ?_);rintro r g ⟨ha,rfl⟩;refine hD @s.pp.ne ?_;refine c_ (λq=>?_) λq=>?_;exact⟨⟨_,rfl⟩,trivial⟩
 rcases ha with⟨rfl,_⟩|⟨i,x,rfl,I,J⟩
 refine wx ?_;exact⟨⟨_,rfl⟩,trivial⟩;obtain⟨nm,cq,i1,p1,b_,a,al,ue,ex,b,cF,rfl,_⟩:=(s.rc x (cE I)).at
 obtain⟨q0,f0,ar5,_⟩:=J.fa 0;obtain⟨bt,f2,_,l2⟩:=J.fa 2;have aGR:=l2 g (AN g) _ rfl;refine Cc @q @J.ne @J.nl ?_;exact⟨⟨_,rfl⟩,trivial⟩
def awu(S:g[k]?=a_ (.cells [bu b] bf))(I:x[0]?=a_ (bu a)):
  jK G bE (.fn (.func 98) [] [.mp k 0]) [.agg x] g λr g'=>jD r/\∃l,g'=g++l:=by
 show cy G bE 98 [.agg x,.mp k 0] g _;refine ahE.go ?_;refine wy ?_;exact⟨⟨_,rfl⟩,_,rfl⟩
def awv(S:g[k]?=a_ (.cells [bu b] bf))(I:x[0]?=a_ (bu a)):
  jK G bE (.fn (.func 100) [] [.mp k 0]) [.agg x] g λr g'=>jD r/\∃l,g'=g++l:=by
 show cy G bE 100 [.agg x,.mp k 0] g _;refine ahG.go ?_;refine wy ?_;exact⟨⟨_,rfl⟩,_,rfl⟩
def awg{y v}{xs}(hv:n9 11 h v xs)(hl:xs.length<=100000)(lS:∀x∈xs,∀g,Ext h g->jK G bE y [.agg x] g λr g'=>jD r/\∃l,g'=g++l):
  cy G bE 97 [v,y] h λr h'=>Tc xs.length r/\∃l,h'=h++l:=by
 refine ahD.go ?_;refine hD @hv.len ?_;refine dx (λi e g=>e=[(0,v),(1,y),(7,bq xs.length),(8,bq i)]/\∃l,g=h++l) xs.length ⟨rfl,[],af⟩ ?_ ?_;rintro i e g Q ⟨rfl,l,rfl⟩;obtain⟨x,I⟩:=cO Q;obtain⟨q,Y,V⟩:=hv.cI i x I;have h3:=V.fY (h++l) lJ;rw[(hv.el x (cE I))] at h3;refine wy (vK (lS x (cE I) _ lJ) ?_);rintro r g2 ⟨⟨b,rfl⟩,l2,rfl⟩;cases b with
 |true=>
  refine wy ?_;exact⟨⟨_,rfl,bF ⟨i,rfl,Q⟩⟩,l++l2,aH0⟩
 |false=>
  refine wx ?_;exact⟨rfl,l++l2,aH0⟩
 rintro e g ⟨rfl,l,rfl⟩;refine wy ?_;exact⟨⟨_,rfl,bD rfl⟩,l,rfl⟩
def ao6(n:Nat)(r:bg):Prop:=∃(t:Nat) (b:Bool),r=.bQ [.v (.int .i64 (t:Int)),.v (.bool b)]/\t<=n
def aeq(s:sJ h p bB mv rows marks)(w):cy G bE 52 [p,bu w] h λr h'=>ao6 rows.length r/\∃l,h'=h++l:=by
 refine ahf.go ?_;have nw:=s.rl;have et:dF .eql (bu w) (.v (.string ⟨[116,101,120,116].toArray⟩))=a_ (.v (.bool (w==[116,101,120,116]))):=og w [116,101,120,116];have k1:(h++[bw [bu w] bf])[h.length]?=a_ (.cells [bu w] bf):=af
 have s1:=s.ext (h':=h++[bw [bu w] bf]) lJ;obtain⟨q0,f0,_,l0⟩:=s1.pp.fa 0;have Xh:=l0 _ (AN _) bB rfl;refine hD @s.pp.ne ?_;generalize hg:h++[bw [bu w] bf]=g at k1 s1 l0 Xh⊢;refine mG (fe k1) @et ?_;refine c_ (λq=>?_) λq=>?_;exact⟨⟨0,bh,rfl,jR _⟩,_,hg.symm⟩;refine hD @s1.pp.nl ?_;refine cm (awg s1.rr aa λx I g2 lu=>?_) ?_;obtain⟨nm,cq,i1,p1,b_,a,al,ue,ex,b,cF,rfl,_⟩:=(s.rc x I).at
 exact awu (lu _ _ k1) rfl;rintro r g2 ⟨⟨m,rfl,hm⟩,l,rfl⟩
 rcases hm with rfl|⟨j,rfl,hj⟩
 refine wy ?_;exact⟨⟨0,_,rfl,jR _⟩,[bw [bu w] bf]++l,by rw[<-hg,dU]⟩;refine wy ?_;exact⟨⟨j+1,_,rfl,aa⟩,[bw [bu w] bf]++l,by rw[<-hg,dU]⟩
end
end
def zJ(e:Int):List PanicEntry:=[{v:=.iface 84 (.agg #[.int .i64 e]),recovered:=bf}]
def yp{G}(b:Bool)(e:Int)(J):hO G bE 29 [b,e] J (λr h'=>b=bh/\h'=J) λch h'=>b=bf/\ch=zJ e/\h'=J:=by
 refine ai6.zQ ?_;have f1:dH [.v (.int .i64 0)] [(0,1,.v (.int .i64 e))]=a_ [.v (.int .i64 e)]:=rfl;have c1:qJ (.ep 84 (.agg [e]))=a_ (.iface 84 (.agg #[.int .i64 e])):=rfl;cases b with
 |false=>
  refine wx ?_;exact⟨trivial,rfl,trivial⟩
 |true=>
  exact wx tt
section
variable{G:Cells}{h:List br}{p bB mv:bg}{rows marks:List (List bg)}
def asb(s:sJ h p bB mv rows marks)(w):cy G bE 54 [p,bu w] h λr h'=>(∃(t:Int) (b:Bool),r=.bQ [t,b])/\∃l,h'=h++l:=by
 refine ahh.go ?_;have nv:=s.ml;have k1:(h++[bw [bu w] bf])[h.length]?=a_ (.cells [bu w] bf):=af
 have s1:=s.ext (h':=h++[bw [bu w] bf]) lJ;obtain⟨q1,f1,_,l1⟩:=s1.pp.fa 1;have L9:=l1 _ (AN _) mv rfl;have aGY:∀m:Int,rD bh [.v (.int .i64 m),.v (.int .i64 0)]=a_ (.v (.int .i64 (if(0:Int)>m then 0 else m))):=λm=>rfl;refine hD @s.pp.ne ?_;generalize hg:h++[bw [bu w] bf]=g at k1 s1 l1 L9⊢;refine jl @s1.pp.nl @f1 @L9 (cm (agR s1.s_ aa λx I g2 lu=>?_) ?_);obtain⟨nm,v,al,bv,rfl,_⟩:=s.gL x I;exact awv (lu _ _ k1) rfl;rintro r g2 ⟨⟨m,rfl,hm⟩,l,rfl⟩;refine wy ?_;exact⟨⟨_,_,rfl⟩,[bw [bu w] bf]++l,by rw[<-hg,dU]⟩
def ayx(s:sJ h p bB mv rows marks){k}(S:h[k]?=a_ (.cells [p] bf))(w):cy G bE 53 [bu w,.mp k 0] h λr h'=>jD r/\∃l,h'=h++l:=by
 refine ahg.go ?_;refine wy (cm (asb s w) ?_);rintro r g ⟨⟨t,b,rfl⟩,l,rfl⟩;refine wy ?_;exact⟨⟨_,rfl⟩,l,rfl⟩
def r0(n:Nat):bg:=bq (n:Int)
def atj(s:sJ h p bB mv rows marks)(w):cy G bE 104 [p,bu w] h λr h'=>(∃ts:List Nat,cG r (ts.map r0)/\(∀t∈ts,t<=24)/\ts.length<=24)/\h'=h:=by
 refine cy.Un (ahK.go ?_);have nw:=s.rl;refine wy ?_;refine dx (λi e g=>∃ts bx,e=[(0,p),(1,bu w),(5,bx),(6,((i+1:Nat):Int))]/\Ext h g/\cV g bx (ts.map r0) 1 3/\(∀id,AF bx id->h.length<=id)/\(∀t∈ts,t<=24)/\ts.length<=i) rows.length ⟨[],.bp,rfl,AN h,bD ⟨rfl,rfl⟩,λid ⟨_,q⟩=>av,af,jR _⟩ ?_ ?_;rintro i e g Q ⟨ts,bx,rfl,hE,hA,hid,ht,FP⟩;have s1:=s.ext hE;refine wy (cm (anK s1) ?_);rintro r g1 ⟨rfl,rfl⟩;refine wy (cm (ach s1 ((i+1:Nat):Int)) ?_);rintro r g2 ⟨jF,rfl⟩;obtain⟨x,I,J⟩:∃x,rows[i]?=a_ x/\tI g2 r x:=by
  rcases jF with⟨_,z⟩|⟨j,x,z,I,J⟩
  omega;obtain rfl:j=i:=aa
  exact⟨x,I,J⟩
 obtain⟨nm,cq,i1,p1,b_,a,al,ue,ex,b,cF,rfl,Dk,_⟩:=(s.rc x (cE I)).at
 obtain⟨q0,f0,ar5,_⟩:=J.fa 0;obtain⟨q1,f1,_,l1⟩:=J.fa 1;have L9:=l1 g2 (AN _) cq rfl;obtain⟨gs,Aa,kH⟩:=Dk;have w2:dy.wrap (((i+1:Nat):Int)+1)=((i+1+1:Nat):Int):=lG aa;refine hD @J.nl (gO (KA Aa (qh Aa) aa w) (cl (qh Aa) (cl (uT _) dK)) ?_);refine wy (cL (λq=>?_) λq=>?_);have akR:c8 1 (ts.map r0)=bh:=by
  rw[c8,eO];intro y hy;obtain⟨t,_,rfl⟩:=dZ.1 hy;rfl
 obtain⟨cR,g3,dc,qN,bR,bK,vb⟩:=ni (x:=r0 (i+1)) (b6:=8) hA akR rfl ag ag ah;have ab:e9 1 [((i+1:Nat):Int)]=a_ (.sl [r0 (i+1)] .exact):=rfl;refine wy ?_;refine⟨ts++[i+1],cR,rfl,λj b O=>vb j b (hE j b O) λxs e=>?_,by rw[gQ];exact qN,λid ⟨xs,e⟩=>?_,λt h=>?_,ah⟩;have:=hid j ⟨xs,e⟩;have:=gl O;omega
 rcases qN with⟨z,_⟩|⟨nx,z,z2⟩
 rw[z] at e;cases e;rw[z] at e;cases e
 rcases hA with⟨y,fK⟩|⟨WM,y,fK⟩
 rw[y] at dc;have Uy:eu g2 1 8 3 .bp (.sl [r0 (i+1)] .exact)=a_ (.sl [r0 (i+1)] (.tok g2.length),g2++[.tok 1 1 3]):=rfl;rw[Uy] at dc;cases dc;injection z with cg z2
 injection z2 with z3
 have:=hE.len;omega;rw[y] at dc;have h4:¬([r0 (i+1)]=([]:List bg)):=af
 have o1:c8 1 [r0 (i+1)]=bh:=rfl;have Uy:eu g2 1 8 3 (.sl (ts.map r0) (.tok WM)) (.sl [r0 (i+1)] .exact)=a_ (.sl (ts.map r0++[r0 (i+1)]) (.tok WM),g2.set WM (.tok ((ts.map r0).length+1) 1 3)):=by
  simp only[eu,gZ,iY,iK,o1,akR,h4,if_false,and_self,AY,if_true,true_and,fK,eV,iP,gF];rw[if_pos ah]
 rw[Uy] at dc;cases dc;cases z;exact hid _ ⟨_,y⟩
 rcases gA.1 h with h|h
 exact ht t h;rw[dR.1 h];omega;refine mG @q @w2 ?_;exact⟨ts,bx,rfl,hE,hA,hid,ht,aa⟩;rintro e g ⟨ts,bx,rfl,hE,hA,hid,ht,FP⟩;refine wy (cm (anK (s.ext hE)) ?_);rintro r g1 ⟨rfl,rfl⟩;refine wy ?_;refine⟨hE.split,?_⟩
 rcases hA with⟨rfl,z⟩|⟨id,rfl,_⟩
 obtain⟨n,hn⟩:=(eB:b8 (nR h.length g1) _ _).done;exact⟨n,_,hn,ts,bF ⟨rfl,z⟩,ht,aa⟩;obtain⟨n,hn⟩:=(gP (iW λa _=>bH _):b8 (nR h.length g1) _ _).done;exact⟨n,_,hn,ts,bD rfl,ht,aa⟩
def aqV{v}{ts:List Nat}(h:cG v (ts.map r0)):eP v:=by
 rcases h with rfl|⟨rfl,_⟩
 refine lQ λx I c T=>?_;obtain⟨n,_,rfl⟩:=dZ.1 I;rw[dR.1 (show c∈[r0 n] from T)];exact dz _;exact E1 (n:=1) rfl
def aj_(s:sJ h p bB mv rows marks)(w):cy G bE 56 [p,bu w] h λr h'=>∃B l,r=b9 B/\h'=h++l:=by
 refine ahj.go ?_;have nw:=s.rl;have s1:=s.ext (h':=h++[bw (bY 0) bf]) lJ;have fin:∀(l) (B),(h++[bw (bY 0) bf]++l).set h.length (.cells (bY B) bf)=h++([bw (bY B) bf]++l):=λl B=>by
  rw[dU,aoM _ _ (ck _),lM];rfl
 refine wy (cm (aeq s1 w) ?_);rintro r g ⟨⟨t,b,rfl,ht⟩,l,rfl⟩;have k2:(h++[bw (bY 0) bf]++l)[h.length]?=a_ (.cells (bY 0) bf):=bU af;cases b with
 |true=>
  have ab:e9 1 [t]=a_ (.sl ([t].map λn:Nat=>bq (n)) .exact):=rfl;have sp:dL G bE 103 [.sl ([t].map λn:Nat=>bq (n)) .no] (b9 (fI [t])):=X8 (bD rfl) (λn hn=>by rw[dR.1 hn];omega) af;have st:=Kp k2 (fI [t]);have fX:=bV (a:=.cells (bY (fI [t])) bf) (gl k2);refine q7 (gO sp (cl (lQ λx I c T=>?_) dK) ?_);obtain⟨n,_,rfl⟩:=dZ.1 I;rw[dR.1 (show c∈[bq (n)] from T)];exact dz _;refine mG @st (zx fX) ?_;exact⟨_,_,rfl,fin l _⟩
 |false=>
  refine wy (cm (atj (s1.ext lJ) w) ?_);rintro v g2 ⟨⟨ts,hv,Y,V⟩,rfl⟩;have st:=Kp k2 (fI ts);have fX:=bV (a:=.cells (bY (fI ts)) bf) (gl k2);refine wy (gO (X8 hv (λn hn=>by have:=Y n hn;omega) aa) (cl (aqV hv) dK) ?_);refine mG @st (zx fX) ?_;exact⟨_,_,rfl,fin l _⟩
def azV(s:sJ h p bB mv rows marks):Cz G h (.fn (.func 56) [p] []):=
 ⟨rfl,λw g hw hg=>by
  show cy G bE 56 [p,bu w] g _;exact aj_ (s.ext hg) w⟩
end
def aDH{cF}(h:cF=.v (.pointer bn)\/A3 cF):cr cF=bh:=by
 rcases h with rfl|⟨rows,rfl,_⟩<;>rfl
def oN.len{x}(h:oN x):x.length=11/\x.all cr=bh:=by
 obtain⟨nm,cq,i,p,b_,a,al,mv,ex,b,cF,rfl,hg,hm,_,ht⟩:=h.at
 refine⟨rfl,?_⟩;simp only[oJ,sw,hg.one.1,hm.one.1,aDH ht];rfl
@[go_sem]def alW{n k}{h}{Z x}(O:h[k]?=a_ (.cells Z bf))(T:Z.length=n)(I:x.length=n)(Y:x.all cr=bh):bL h n (.mp k 0) (.agg x)=a_ (h.set k (.cells x bf)):=by
 have e:(dD x).cells=x:=rfl;simp only[bL,O,e5];rw[e,if_pos ⟨I,aa,Y⟩];unfold dN;rw[tA,gV,gF,I,vO aa,hJ]
@[go_sem]def MW{n}(h){z x}(hz:z.length=n)(I:x.length=n)(Y:x.all cr=bh):bL (h++[bw z bf]) n (.mp h.length 0) (.agg x)=a_ (h++[bw x bf]):=by
 rw[alW af hz I Y];simp
def RQ:List bg:=[.v (.string ⟨[].toArray⟩),.bp,bf,bf,bf,(0:Int),bf,.bp,.v (.string ⟨[].toArray⟩),bf,.v (.pointer bn)]
def Ext.trans{a b c}(h:Ext a b)(k:Ext b c):Ext a c:=λj x q=>k j x (h j x q)
section
variable{G:Cells}{h:List br}{p bB mv:bg}{rows marks:List (List bg)}
def az_(s:sJ h p bB mv rows marks)(eD:p.cells=[p]):hO G bE 30 [p] h (λr h'=>(∃l,h'=h++l)/\0<rows.length) λch h'=>∃e,e≠0/\ch=zJ e/\∃l,h'=h++l:=by
 refine ai7.zQ ?_;have nw:=s.rl;have nv:=s.ml;have oq:Ext h (h++[bw [p] bf]):=lJ;have k1:(h++[bw [p] bf])[h.length]?=a_ (.cells [p] bf):=af
 obtain⟨q0,f0,_,l0⟩:=s.pp.fa 0;obtain⟨q1,f1,_,l1⟩:=s.pp.fa 1;have kk:∀g,Ext (h++[bw [p] bf]) g->bA g bf 1 (.mp h.length 0)=a_ p/\bA g bf 1 q0=a_ bB/\bA g bf 1 q1=a_ mv:=λg hg=>⟨fe (hg _ _ k1),l0 g (oq.trans hg) bB rfl,l1 g (oq.trans hg) mv rfl⟩;have bad:∀(e) (g),e≠0->Ext (h++[bw [p] bf]) g->∃e',e'≠0/\zJ e=zJ e'/\∃l,g=h++l:=λe g he hg=>⟨e,he,rfl,(oq.trans hg).split⟩;have hz:[cU (.string ⟨[].toArray⟩),.bp,bf,bf,bf,(0:Int),bf,.bp,.v (.string ⟨[].toArray⟩),bf,.v (.pointer bn)]=RQ:=rfl;have agJ:[cU (.string ⟨[].toArray⟩),(0:Int),bf,.bp]=fZ:=rfl;refine iq (λe g=>e=[(1,.mp h.length 0)]/\g=h++[bw [p] bf]) ?_ ?_;exact wx tt;rintro e g ⟨rfl,rfl⟩;generalize h++[bw [p] bf]=O at oq k1 kk bad⊢;refine iq (λe g=>e=[(1,.mp h.length 0)]/\g=O/\0<rows.length) ?_ ?_;refine l6 @s.pp.nl @s.rr.len (gE (yp _ 14 O) ?_ ?_);rintro r g ⟨g_,rfl⟩;refine wx ?_;exact⟨trivial,trivial,by simpa using g_⟩;rintro ch g ⟨_,rfl,rfl⟩;exact bad 14 g ag (AN _);rintro e g ⟨rfl,rfl,s5⟩;refine iq (λe g'=>e=[(1,.mp h.length 0)]/\Ext g g') ?_ ?_;refine l6 @s.pp.nl @s.rr.len ?_;refine dx (λi e g'=>e=[(1,.mp h.length 0),(29,bB),(30,bq rows.length),(31,bq i)]/\Ext g g') rows.length ⟨rfl,AN _⟩ ?_ ?_;rintro i e g1 Q ⟨rfl,hE⟩;obtain⟨x,I⟩:=cO Q;have lB:=s.rc x (cE I);obtain⟨RA,Y,V⟩:=s.rr.cI i x I;have h3:=V.fY g1 (oq.trans hE);rw[lB.len.1] at h3;have n1:=MW (n:=11) g1 (z:=RQ) rfl lB.len.1 lB.len.2;have kx:(g1++[bw x bf])[g1.length]?=a_ (.cells x bf):=af
 have lp:Ext g (g1++[bw x bf]):=hE.qf;obtain⟨nm,cq,i1,p1,b_,a,al,ue,ex,b,cF,rfl,Dk,_⟩:=lB.at
 obtain⟨gs,Aa,kH⟩:=Dk;have Mb:=Aa.cN;rw[dj] at Mb;refine wy ?_;refine wy ?_;refine dx (λj e g'=>e=[(1,.mp h.length 0),(29,bB),(30,bq rows.length),(31,bq i),(37,cq),(38,bq gs.length),(39,bq j)]/\Ext g g') gs.length ⟨rfl,lp⟩ ?_ ?_;rintro j e g3 hj ⟨rfl,pP⟩;obtain⟨w,hw⟩:=cO hj;have e1:cA 1 cq j=a_ (.fp [bu w] 0):=Aa.cI (x:=bu w) aHY rfl;refine wy (cm (aeq (s.ext (oq.trans pP)) w) ?_);rintro r g4 ⟨⟨t,b,rfl,_⟩,l,rfl⟩;refine wy (gE (yp _ 9 _) ?_ ?_);rintro r g5 ⟨_,rfl⟩;refine wx ?_;exact⟨rfl,pP.qf⟩;rintro ch g5 ⟨_,rfl,rfl⟩;exact bad 9 _ ag pP.qf;rintro e g3 ⟨rfl,pP⟩;refine eN @bq.eq_1 ?_;exact⟨trivial,pP⟩;rintro e g1 ⟨rfl,hE⟩;refine eN @bq.eq_1 ?_;exact⟨trivial,hE⟩;rintro e g1 ⟨rfl,hE⟩;obtain⟨x0,Iz⟩:=cO s5;obtain⟨aBn,u5,oU⟩:=s.rr.cI 0 x0 Iz;obtain⟨aku,aF2,i0,iN,azc,aFn,aFo,aG0,aFV,aFw,aHn,rfl,_⟩:=(s.rc x0 (cE Iz)).at
 refine iq (λe g'=>e=[(1,.mp h.length 0)]/\g'=g1) ?_ ?_
 · obtain⟨bS,q6,v0,_⟩:=oU.fa 0
   obtain⟨r2,u2,_,w2⟩:=oU.fa 2;obtain⟨BY,u4,_,yP⟩:=oU.fa 4;have aHq:=w2 g1 (oq.trans hE) _ rfl;have Nf:=yP g1 (oq.trans hE) _ rfl;have aF3:cA 11 bB (0:Int)=a_ aBn:=u5;have done:∀b:Bool,hO G bE 29 [b,(13:Int)] g1 (λr h'=>h'=g1) λch h'=>ch=zJ 13/\h'=g1:=λb=>gE (yp b 13 g1) (λr h' q=>q.2) λch h' q=>q.2;cases azc with
   |true=>
    refine hD @s.pp.nl (gE (done _) ?_ ?_);rintro r g2 rfl;exact wx tt;rintro ch g2 ⟨rfl,rfl⟩;exact bad 13 _ ag hE
   |false=>
    refine hD @s.pp.nl (gE (done _) ?_ ?_);rintro r g2 rfl;exact wx tt;rintro ch g2 ⟨rfl,rfl⟩;exact bad 13 _ ag hE
 rintro e g2 ⟨rfl,rfl⟩;refine iq (λe g'=>e=[(1,.mp h.length 0)]/\Ext g g') ?_ ?_;refine l6 @s.pp.nl @s.rr.len ?_;refine dx (λi e g'=>e=[(1,.mp h.length 0),(78,bB),(79,bq rows.length),(80,bq i)]/\Ext g g') rows.length ⟨rfl,hE⟩ ?_ ?_
 · rintro i e g1 Q ⟨rfl,hE⟩
   obtain⟨x,I⟩:=cO Q;have lB:=s.rc x (cE I);obtain⟨RA,Y,V⟩:=s.rr.cI i x I;have h3:=V.fY g1 (oq.trans hE);rw[lB.len.1] at h3;have n1:=MW (n:=11) g1 (z:=RQ) rfl lB.len.1 lB.len.2;have kx:(g1++[bw x bf])[g1.length]?=a_ (.cells x bf):=af
   have lp:Ext g (g1++[bw x bf]):=hE.qf;obtain⟨nm,cq,i1,p1,b_,a,al,ue,ex,b,cF,rfl,Dk,_⟩:=lB.at
   refine wy ?_;generalize g1++[bw _ bf]=g2 at kx lp⊢;have done:∀b:Bool,hO G bE 29 [b,(13:Int)] g2 (λr h'=>h'=g2) λch h'=>ch=zJ 13/\h'=g2:=λb=>gE (yp b 13 g2) (λr h' q=>q.2) λch h' q=>q.2;cases b_ with
   |true=>
    refine wy (gE (done _) ?_ ?_);rintro r g3 rfl;refine fj ?_;exact⟨rfl,lp⟩;rintro ch g3 ⟨rfl,rfl⟩;exact bad 13 _ ag lp
   |false=>
    refine wy (gE (done _) ?_ ?_);rintro r g3 rfl;refine fj ?_;exact⟨rfl,lp⟩;rintro ch g3 ⟨rfl,rfl⟩;exact bad 13 _ ag lp
 rintro e g1 ⟨rfl,hE⟩;refine eN @bq.eq_1 ?_;exact⟨trivial,hE⟩;rintro e g3 ⟨rfl,pP⟩;refine iq (λe g'=>e=[(1,.mp h.length 0),(10,.fn (.func 53) [] [.mp h.length 0])]/\g'=g3) ?_ ?_;exact wx tt;rintro e g4 ⟨rfl,rfl⟩;have ajs:∀(g'),Ext g g'->∀w,cy G bE 53 [bu w,.mp h.length 0] g' λr h'=>jD r/\∃l,h'=g'++l:=λg' P1 w=>ayx (s.ext (oq.trans P1)) (P1 _ _ k1) w;refine iq (λe g'=>e=[(1,.mp h.length 0),(10,.fn (.func 53) [] [.mp h.length 0])]/\Ext g g') ?_ ?_;refine l6 @s.pp.nl @s.rr.len ?_;refine dx (λi e g'=>e=[(1,.mp h.length 0),(10,.fn (.func 53) [] [.mp h.length 0]),(99,bB),(100,bq rows.length),(101,bq i)]/\Ext g g') rows.length ⟨rfl,pP⟩ ?_ ?_;rintro i e g1 Q ⟨rfl,hE⟩;obtain⟨x,I⟩:=cO Q;have lB:=s.rc x (cE I);obtain⟨RA,Y,V⟩:=s.rr.cI i x I;have h3:=V.fY g1 (oq.trans hE);rw[lB.len.1] at h3;have n1:=MW (n:=11) g1 (z:=RQ) rfl lB.len.1 lB.len.2;have kx:(g1++[bw x bf])[g1.length]?=a_ (.cells x bf):=af
 have lp:Ext g (g1++[bw x bf]):=hE.qf;obtain⟨nm,cq,i1,p1,b_,a,al,ue,ex,b,cF,rfl,Dk,kX,_⟩:=lB.at
 obtain⟨ms,LH,au8⟩:=kX;have Mb:=LH.cN;rw[dj] at Mb;refine wy ?_;refine wy ?_;refine dx (λj e g'=>e=[(1,.mp h.length 0),(10,.fn (.func 53) [] [.mp h.length 0]),(99,bB),(100,bq rows.length),(101,bq i),(107,ue),(108,bq ms.length),(109,bq j)]/\Ext g g') ms.length ⟨rfl,lp⟩ ?_ ?_;rintro j e g3 hj ⟨rfl,pP⟩;obtain⟨w,hw⟩:=cO hj;have e1:cA 1 ue j=a_ (.fp [bu w] 0):=LH.cI (x:=bu w) aHY rfl;refine wy (cm (ajs g3 pP w) ?_);rintro r g4 ⟨⟨b,rfl⟩,l,rfl⟩;refine wy (gE (yp _ 6 _) ?_ ?_);rintro r g5 ⟨_,rfl⟩;refine wx ?_;exact⟨rfl,pP.qf⟩;rintro ch g5 ⟨_,rfl,rfl⟩;exact bad 6 _ ag pP.qf;rintro e g3 ⟨rfl,pP⟩;refine eN @bq.eq_1 ?_;exact⟨trivial,pP⟩;rintro e g1 ⟨rfl,hE⟩;refine eN @bq.eq_1 ?_;exact⟨trivial,hE⟩;rintro e g5 ⟨rfl,atB⟩;refine l6 @s.pp.nl @s.s_.len ?_;refine dx (λi e g'=>e=[(10,.fn (.func 53) [] [.mp h.length 0]),(122,mv),(123,bq marks.length),(124,bq i)]/\Ext g g') marks.length ⟨rfl,atB⟩ ?_ ?_;rintro i e g1 Q ⟨rfl,hE⟩;obtain⟨x,I⟩:=cO Q;have lB:=s.gL x (cE I);obtain⟨RA,Y,V⟩:=s.s_.cI i x I;have h3:=V.fY g1 (oq.trans hE);rw[lB.ok.1] at h3;have n1:=MW (n:=4) g1 (z:=fZ) rfl lB.ok.1 lB.ok.2.1;have kx:(g1++[bw x bf])[g1.length]?=a_ (.cells x bf):=af
 have lp:Ext g (g1++[bw x bf]):=hE.qf;obtain⟨nm,v,al,bv,rfl,wI⟩:=lB;obtain⟨ms,LH,au8⟩:=wI;have Mb:=LH.cN;rw[dj] at Mb;refine q7 ?_;generalize g1++[bw _ bf]=g2 at kx lp⊢;generalize g1.length=m at kx⊢;have QS:bA g2 bf 1 (.mp m 3)=a_ bv:=by simp only[bA,kx];rfl
 refine wx ?_;refine dx (λj e g'=>e=[(10,.fn (.func 53) [] [.mp h.length 0]),(122,mv),(123,bq marks.length),(124,bq i),(129,bv),(130,bq ms.length),(131,bq j)]/\Ext g g') ms.length ⟨rfl,lp⟩ ?_ ?_;rintro j e g3 hj ⟨rfl,pP⟩;obtain⟨w,hw⟩:=cO hj;have e1:cA 1 bv j=a_ (.fp [bu w] 0):=LH.cI (x:=bu w) aHY rfl;refine wy (cm (ajs g3 pP w) ?_);rintro r g4 ⟨⟨b,rfl⟩,l,rfl⟩;refine wy (gE (yp _ 6 _) ?_ ?_);rintro r g5 ⟨_,rfl⟩;refine wx ?_;exact⟨rfl,pP.qf⟩;rintro ch g5 ⟨_,rfl,rfl⟩;exact bad 6 _ ag pP.qf;rintro e g3 ⟨rfl,pP⟩;refine eN @bq.eq_1 ?_;exact⟨trivial,pP⟩;rintro e g1 ⟨rfl,hE⟩;refine eN @bq.eq_1 ?_;exact⟨(oq.trans hE).split,s5⟩
end
section
variable{i j o:Nat}{b':br}{x:List bg}{y:bg}
structure oM(ks bW:Nat)(bB mv:bg)(rows marks:List (List bg))(h:List br):Prop where
 b:h[ks]?=a_ (.cells [bB,mv] bf)
 r:jT 11 h bW bB rows
 m:rz mv marks
 rc:∀x∈rows,oN x
 gL:∀x∈marks,nJ x
 rl:rows.length<=24
 ml:marks.length<=8
section
variable{ks bW:Nat}{bB mv:bg}{rows marks:List (List bg)}{h:List br}
def oM.A(s:oM ks bW bB mv rows marks h):sJ h (.mp ks 0) bB mv rows marks:=⟨tI.mp s.b,n9.row s.r,n9.slc h s.m λx I=>(s.gL x I).ok.1,s.rc,s.gL,s.rl,s.ml⟩
def oM.ext{h'}(s:oM ks bW bB mv rows marks h)(he:Ext h h'):oM ks bW bB mv rows marks h':=⟨he _ _ s.b,s.r.keep λZ q=>he _ _ q,s.m,s.rc,s.gL,s.rl,s.ml⟩
def oM.set(s:oM ks bW bB mv rows marks h)(Y:j≠ks)(V:j≠bW):oM ks bW bB mv rows marks (h.set j b'):=⟨by rw[bC Y];exact s.b,s.r.keep λZ q=>by rw[bC V];exact q,s.m,s.rc,s.gL,s.rl,s.ml⟩
def oM.ne(s:oM ks bW bB mv rows marks h):ks≠bW:=by
 rintro rfl;have V:=s.r.b;rw[s.b] at V;simp at V
def oM.write(s:oM ks bW bB mv rows marks h)(I:rows[i]?=a_ x)(ho:o+1<=11)(hy:y.cells=[y])(Y:cr y=bh)(D:oN (dN x o [y])):
  bL h 1 (.rp bW rows.flatten.length (i*11+o)) y=a_ (h.set bW (.cells (rows.set i (dN x o [y])).flatten bh))/\oM ks bW bB mv (rows.set i (dN x o [y])) marks (h.set bW (.cells (rows.set i (dN x o [y])).flatten bh)):=by
 obtain⟨q1,bt⟩:=s.r.st I (by rw[hy];rfl) ho (by rw[hy];simp[Y]);rw[hy] at q1 bt;refine⟨q1,⟨by rw[bC (eW s.ne)];exact s.b,bt,s.m,λz hz=>?_,s.gL,by rw[vP];exact s.rl,s.ml⟩⟩
 rcases SQ hz with q|rfl
 exact s.rc z q;exact D
end
structure l9(ks bW i m n:Nat)(bB mv:bg)(marks:List (List bg))(N:Nat)(h0:List br)(rows:List (List bg))(g:List br):Prop where
 s:oM ks bW bB mv rows marks g
 kp:∀(j:Nat) b,j≠bW->h0[j]?=a_ b->g[j]?=a_ b
 le:h0.length<=g.length
 b2:g[n]?=a_ (.cells [.mp ks 0] bf)
 b3:g[n+1]?=a_ (.cells [.rp bW m (i*11)] bf)
 hn:h0.length<=n
 len:rows.length=N
 hm:rows.flatten.length=m
 lt:ks<h0.length/\bW<h0.length/\i<N
section
variable{ks bW i m n:Nat}{bB mv:bg}{marks:List (List bg)}{N:Nat}{h0:List br}{rows:List (List bg)}{g:List br}
def l9.ext{g'}(c:l9 ks bW i m n bB mv marks N h0 rows g)(he:Ext g g'):l9 ks bW i m n bB mv marks N h0 rows g':=
 ⟨c.s.ext he,λj b hj q=>he _ _ (c.kp j b hj q),gY c.le he.len,he _ _ c.b2,he _ _ c.b3,c.hn,c.len,c.hm,c.lt⟩
def l9.set(c:l9 ks bW i m n bB mv marks N h0 rows g)(hj:n+2<=j):l9 ks bW i m n bB mv marks N h0 rows (g.set j b'):=by
 have:=c.lt;have:=c.hn;refine⟨c.s.set aa aa,λj' b sX q=>?_,by simpa using c.le,?_,?_,c.hn,c.len,c.hm,c.lt⟩;have:=gl q;rw[bC aa];exact c.kp j' b sX q;rw[bC aa];exact c.b2;rw[bC aa];exact c.b3
@[go_sem]def l9.at(c:l9 ks bW i m n bB mv marks N h0 rows g):∃x,rows[i]?=a_ x/\oN x/\∀o y,x[o]?=a_ y->bA g bf 1 (.rp bW m (i*11+o))=a_ y:=by
 have hl:i<rows.length:=by rw[c.len];exact c.lt.2.2
 refine⟨rows[i],cx hl,c.s.rc _ (NK hl),λo y hy=>?_⟩;have I:=cx hl;have Y:=(c.s.r.each _ (NK hl)).1;have:=c.s.r.iD I (by have:=(gl hy);omega) hy
 rwa [c.hm] at this
def l9.write(c:l9 ks bW i m n bB mv marks N h0 rows g)(I:rows[i]?=a_ x)(ho:o+1<=11)(hy:y.cells=[y])(Y:cr y=bh)(D:oN (dN x o [y])):
  ∃jd g',bL g 1 (.rp bW m (i*11+o)) y=a_ g'/\l9 ks bW i m n bB mv marks N h0 jd g'/\∀(j) b,j≠bW->g[j]?=a_ b->g'[j]?=a_ b:=by
 obtain⟨q1,bt⟩:=c.s.write I ho hy Y D;rw[c.hm] at q1;have cQ:=c.lt;have hn:=c.hn;have kp:∀(j) b,j≠bW->g[j]?=a_ b->(g.set bW (.cells (rows.set i (dN x o [y])).flatten bh))[j]?=a_ b:=λj b hj q=>aI8
 refine⟨_,_,q1,⟨bt,λj b hj q=>kp j b hj (c.kp j b hj q),by simpa using c.le,kp _ _ aa c.b2,kp _ _ aa c.b3,c.hn,by rw[vP];exact c.len,?_,c.lt⟩,kp⟩;rw[C5 bt.r.each,vP,<-C5 c.s.r.each];exact c.hm
def l9.fin{g2}(c:l9 ks bW i m n bB mv marks N h0 rows g)(he:nH h0.length g g2):l9 ks bW i m n bB mv marks N h0 rows g2:=by
 have kc:∀(j:Nat) Z fz,g[j]?=a_ (.cells Z fz)->g2[j]?=a_ (.cells Z fz):=λj Z fz q=>by
  rcases he.2 j with z|⟨_,z,_⟩
  rw[z];exact q;rw[z] at q;cases q
 refine⟨⟨kc _ _ _ c.s.b,c.s.r.keep λZ q=>kc _ _ _ q,c.s.m,c.s.rc,c.s.gL,c.s.rl,c.s.ml⟩,λj b hj q=>?_,by rw[he.1];exact c.le,kc _ _ _ c.b2,kc _ _ _ c.b3,c.hn,c.len,c.hm,c.lt⟩;have lz:=gl q
 rcases he.2 j with z|⟨z,_,_⟩
 rw[z];exact c.kp j b hj q;omega
end
@[go_sem]def YE(h:o<x.length):dN x o [y]=x.set o y:=by
 unfold dN;rw[p8,aoN,if_pos h,dU];rfl
def S8(ks bW:Nat)(bB mv:bg)(marks:List (List bg))(N:Nat)(h0 h':List br):Prop:=∃rows,oM ks bW bB mv rows marks h'/\rows.length=N/\h0.length<=h'.length/\∀(j:Nat) b,j≠bW->h0[j]?=a_ b->h'[j]?=a_ b
def l9.q{ks bW i m n}{bB mv}{marks}{N}{h0}{rows}{g}(c:l9 ks bW i m n bB mv marks N h0 rows g):S8 ks bW bB mv marks N h0 g:=⟨rows,c.s,c.len,c.le,c.kp⟩
def aaW(ks bW:Nat)(bB mv:bg)(marks:List (List bg))(N:Nat)(h0:List br)(ch:List PanicEntry)(h':List br):Prop:=∃e,e≠0/\ch=zJ e/\S8 ks bW bB mv marks N h0 h'
section
variable{G:Cells}
def arj(cB:fS G){ks bW}{bB mv}{rows marks}{h}(s:oM ks bW bB mv rows marks h)(Q:i<rows.length):
  hO G bE 31 [.mp ks 0,.rp bW rows.flatten.length (i*11)] h (λr h'=>S8 ks bW bB mv marks rows.length h h') (aaW ks bW bB mv marks rows.length h):=by
 refine ai8.zQ ?_;have c0:(cS ks 0).cells=[.mp ks 0]:=rfl;have c1:(bg.rp bW rows.flatten.length (i*11)).cells=[.rp bW rows.flatten.length (i*11)]:=rfl;have zS:l9 ks bW i rows.flatten.length h.length bB mv marks rows.length h rows (h++[bw [cS ks 0] bf]++[bw [bg.rp bW rows.flatten.length (i*11)] bf]):=
  ⟨(s.ext lJ).ext lJ,λj b _ q=>bU (bU q),af,af,aHN,ck _,rfl,rfl,gl s.b,gl s.r.b,Q⟩
 generalize rows.length=N at zS⊢;generalize au6:rows.flatten.length=m at zS c1⊢;have fV:∀(e) (g),e≠0->(∃jd,l9 ks bW i m h.length bB mv marks N h jd g)->∀bl,nH h.length g bl->aaW ks bW bB mv marks N h (zJ e) bl:=λe g he ⟨jd,T⟩ bl D=>⟨e,he,rfl,(T.fin D).q⟩;refine eE (λe g=>e=[(2,.mp h.length 0),(3,.mp (h.length+1) 0)]/\g=h++[bw [cS ks 0] bf]++[bw [bg.rp bW m (i*11)] bf]) ?_ ?_;refine Cb @c0 @c1 @en.{0} @eV.{0} @iP.{0} @gF ?_;exact⟨trivial,trivial⟩;rintro e g ⟨rfl,rfl⟩;generalize h++[bw [cS ks 0] bf]++[bw [bg.rp bW m (i*11)] bf]=g at zS⊢;clear au6 s Q;obtain⟨x,I,lB,rU⟩:=zS.at
 obtain⟨nm,cq,i1,p1,b_,a,al,ue,ex,b,cF,rfl,Dk,kX,VW,aGG⟩:=lB.at
 have l4:=rU 4 _ rfl;have F3:=rU 8 _ rfl;have IW:uR (.rp bW m (i*11))=a_ (.rp bW m (i*11)):=rfl;have HO:∀o,k9 o (.rp bW m (i*11))=a_ (.rp bW m (i*11+o)):=λo=>rfl;have U6:∀o,k9 o (.rp bW m (i*11+0))=a_ (.rp bW m (i*11+o)):=λo=>rfl;cases b_ with
 |true=>
  refine p5 (fe zS.b3) @IW @HO @U6 @l4 ?_;rw[Gu];intro bl he;exact fj ((zS.fin he).q)
 |false=>
  refine iq (λe g'=>e=[(2,.mp h.length 0),(3,.mp (h.length+1) 0)]/\g'=g) ?_ ?_;exact p5 (fe zS.b3) @IW @HO @U6 @l4 tt;rintro e g' ⟨rfl,rfl⟩;refine eE (λe tV=>∃v ps,e=[(2,.mp h.length 0),(3,.mp (h.length+1) 0),(4,v)]/\sH v ps/\tV=g') ?_ ?_;refine p5 (fe zS.b3) @IW @HO @U6 @F3 ?_;refine ek (Yr cB ex aa) ?_;rintro r ⟨v,Rz,zI,rfl,hq⟩;obtain⟨ps,hE⟩:∃ps,sH v ps:=by
   rcases hq with⟨_,_,ps,hE⟩|⟨_,rfl⟩
   exact⟨ps,hE⟩;exact⟨[],bF ⟨rfl,rfl⟩,λi p h=>aq,ag,af⟩
  refine eN @bq.eq_1 ?_;exact⟨v,ps,rfl,hE,trivial⟩;rintro e tV ⟨v,ps,rfl,hE,rfl⟩;have hz:[cU (.int .u64 0),.v (.int .u64 0),.v (.int .u64 0),.v (.int .u64 0)]=bY 0:=by simp[bY,dO,wd]
  have afV:h.length+2<=tV.length:=by have:=(gl zS.b3);omega
  have zT:=zS.ext (g':=tV++[bw (bY 0) bf]) lJ;have rW:(tV++[bw (bY 0) bf])[tV.length]?=a_ (.cells (bY 0) bf):=af
  refine eE (λe g'=>e=[(2,.mp h.length 0),(3,.mp (h.length+1) 0),(4,v),(7,.mp tV.length 0)]/\g'=tV++[bw (bY 0) bf]) ?_ ?_;exact eN @hz tt;rintro e g1 ⟨rfl,rfl⟩;generalize Wm:tV.length=m7 at afV rW⊢;generalize tV++[bw (bY 0) bf]=g1 at zT rW⊢;refine eE (λe g'=>e=[(2,.mp h.length 0),(3,.mp (h.length+1) 0),(4,v),(7,.mp m7 0),(8,.fn (.func 56) [.mp ks 0] [])]/\g'=g1) ?_ ?_;exact eN (fe zT.b2) tt;rintro e g2 ⟨rfl,rfl⟩;refine iq (λe g'=>∃A jd,e=[(2,.mp h.length 0),(3,.mp (h.length+1) 0),(4,v),(7,.mp m7 0),(8,.fn (.func 56) [.mp ks 0] [])]/\l9 ks bW i m h.length bB mv marks N h jd g'/\g'[m7]?=a_ (.cells (bY A) bf)) ?_ ?_;refine fj (jz (akl hE) (cl (EX hE) dK) ?_);rintro r ⟨l,hl,oX,ud⟩;have ln:=hl.cN;rw[dj] at ln;have lC:∀J,cN r J=a_ (.v (.int .i64 (l.length:Int)),J):=λJ=>aHC
  have vh:=hE.len;refine eN @lC ?_;refine dx (λj e g'=>∃A jd,e=[(2,.mp h.length 0),(3,.mp (h.length+1) 0),(4,v),(7,.mp m7 0),(8,.fn (.func 56) [.mp ks 0] []),(35,r),(36,bq l.length),(37,bq j)]/\l9 ks bW i m h.length bB mv marks N h jd g'/\g'[m7]?=a_ (.cells (bY A) bf)) l.length ⟨0,_,rfl,zT,rW⟩ ?_ ?_;rintro j e g3 hj ⟨A,jd,rfl,hC,rW⟩;obtain⟨w,hw⟩:=cO hj;have e1:cA 1 r (.v (.int .i64 (j)))=a_ (.fp [bu w] 0):=hl.cI (x:=bu w) aHY rfl;refine Cb @bq.eq_1 @e1 @wH @gV.{0} @k6.{0} @hJ.{0} ?_;refine cm (aj_ hC.s.A w) ?_;rintro _ g4 ⟨B,lx,rfl,rfl⟩;have n1:=TT (g3++lx) B;have zU:=(hC.ext lJ).ext (g':=g3++lx++[bw (bY B) bf]) lJ;have QC:(g3++lx++[bw (bY B) bf])[m7]?=a_ (.cells (bY A) bf):=bU (bU rW);have ID:(g3++lx++[bw (bY B) bf])[(g3++lx).length]?=a_ (.cells (bY B) bf):=af
  have fz:dH [.v (.int .u64 0),.v (.int .u64 0),.v (.int .u64 0),.v (.int .u64 0)] []=a_ (bY 0):=by rw[hz];rfl
  obtain⟨ES,PU⟩:∃b:Bool,tO [.i,.i,.i,.i] bh (b9 B) (.agg (bY 0))=a_ (.v (.bool b)):=by
   obtain⟨d,hd⟩:=UK B 0;refine⟨bh !=d,?_⟩;show(e7 [.i,.i,.i,.i] (b9 B).cells (b9 0).cells).map (λr=>cU (.bool (bh !=r)))=_;rw[hd];rfl
  refine eN @n1 ?_;generalize(g3++lx).length=aGX at ID⊢;generalize g3++lx++[bw (bY B) bf]=g5 at zU QC ID⊢;refine jl (zx ID) @fz @PU (gE (yp ES 6 g5) ?_ ?_);rintro r2 g6 ⟨_,rfl⟩;refine mG (zx ID) (zx QC) (gO (I1 A B) (cl (lP _) (cl (lP _) dK)) ?_);refine eN (Kp QC (A|||B)) ?_;exact⟨A|||B,jd,rfl,zU.set afV,bV (gl QC)⟩;rintro ch g6 ⟨_,rfl,rfl⟩;exact fV 6 _ ag ⟨jd,zU⟩;rintro e g3 ⟨A,jd,rfl,hC,rW⟩;refine eN @bq.eq_1 ?_;exact⟨A,jd,trivial,hC,rW⟩;rintro e g3 ⟨A,Gw,rfl,afn,ai3⟩;have afo:=afn.ext (g':=g3++[bw [.v (.bool bf)] bf]) lJ;have ai4:(g3++[bw [.v (.bool bf)] bf])[m7]?=a_ (.cells (bY A) bf):=bU ai3;have IE:(g3++[bw [.v (.bool bf)] bf])[g3.length]?=a_ (.cells [.v (.bool bf)] bf):=af
  have az0:=R8 g3 (.v (.bool bf)) (x:=.v (.bool bf)) rfl rfl;have afT:h.length+2<=g3.length:=by have:=(gl afn.b3);omega
  refine eE (λe g'=>e=[(2,.mp h.length 0),(3,.mp (h.length+1) 0),(4,v),(7,.mp m7 0),(8,.fn (.func 56) [.mp ks 0] []),(12,.mp g3.length 0)]/\g'=g3++[bw [.v (.bool bf)] bf]) ?_ ?_;exact eN @az0 tt;rintro e g4 ⟨rfl,rfl⟩;have au4:m7<g3.length:=gl ai3;generalize aGx:g3.length=ym at IE afT au4⊢;generalize g3++[bw [.v (.bool bf)] bf]=g4 at afo ai4 IE⊢;refine eE (λe g'=>∃jd c,e=[(3,.mp (h.length+1) 0),(4,v),(8,.fn (.func 56) [.mp ks 0] []),(12,.mp ym 0)]/\l9 ks bW i m h.length bB mv marks N h jd g'/\g'[ym]?=a_ (.cells [.v (.bool c)] bf)) ?_ ?_
  · refine eN (zx ai4) (cm (Kk A _) ?_)
    rintro _ g5 ⟨rfl,rfl⟩;refine fj ?_;rw[AH];refine⟨_,_,_,rfl,λk S bX ok hR=>?_⟩;have u7:=((afo.ext lJ).ext lJ).ext (g':=g4++[bw (bY A) bf]++JF bf++[pe .ready bn bX #[54] ok]) lJ;have ae_:(g4++[bw (bY A) bf]++JF bf++[pe .ready bn bX #[54] ok])[k]?=a_ (.cc .ready bn bX #[54] ok):=by rw[S];simp[JF]
    have afa:(g4++[bw (bY A) bf]++JF bf++[pe .ready bn bX #[54] ok])[g4.length]?=a_ (.cells (bY A) bf):=bU (bU af);have L3:(g4++[bw (bY A) bf]++JF bf++[pe .ready bn bX #[54] ok])[ym]?=a_ (.cells [.v (.bool bf)] bf):=bU (bU (bU IE));have kl:h.length+2<=k:=by
     have:=gl IE;rw[S];simp;omega
    show cy _ _ _ _ (g4++[bw (bY A) bf]++JF bf++[pe .ready bn bX #[54] ok]) _;generalize g4++[bw (bY A) bf]++JF bf++[pe .ready bn bX #[54] ok]=X at u7 ae_ afa L3⊢;refine cm (Kl cB (Stop:=λ_=>False) (Inv:=λdone g=>∃jd c,l9 ks bW i m h.length bB mv marks N h jd g/\g[ym]?=a_ (.cells [.v (.bool c)] bf)/\g[k]?=a_ (.cc .ready bn bX #[54] ok)) ?_ afa ⟨_,bf,u7,L3,ae_⟩) ?_
    · rintro done q g6 ⟨MX,ia,Vq,L4,vc⟩ g_ avl
      refine hR [_] g6 _ rfl ⟨bn,vc⟩ ?_;have se:uq [(2,cS h.length 0),(3,cS (h.length+1) 0),(4,v),(8,bg.fn (.func 56) [.mp ks 0] []),(12,cS ym 0),(53,bg.fn (vM 109) [] [cS g4.length 0])] (List.zip [54] [cU (xp dy (q))])=[(54,cU (xp dy (q))),(2,cS h.length 0),(3,cS (h.length+1) 0),(4,v),(8,bg.fn (.func 56) [.mp ks 0] []),(12,cS ym 0),(53,bg.fn (vM 109) [] [cS g4.length 0])]:=rfl;rw[se];refine fj ?_;refine⟨⟨bn,vc⟩,λgq=>?_⟩;have X0:k≠ym:=by rintro rfl;rw[L4] at vc;cases vc
      have Da:=Vq.set (b':=.cc .busy gq bX #[54] ok) kl;have Qx:(g6.set k (.cc .busy gq bX #[54] ok))[ym]?=a_ (.cells [.v (.bool ia)] bf):=by rw[bC X0];exact L4
      have Ly:(g6.set k (.cc .busy gq bX #[54] ok))[k]?=a_ (.cc .busy gq bX #[54] ok):=bV (gl vc);generalize g6.set k (.cc .busy gq bX #[54] ok)=g7 at Da Qx Ly⊢;have fin:∀(g8) Y0 iZ,l9 ks bW i m h.length bB mv marks N h Y0 g8->g8[ym]?=a_ (.cells [.v (.bool iZ)] bf)->g8[k]?=a_ (.cc .busy gq bX #[54] ok)->
        (∃st pd,g8[k]?=a_ (.cc st pd bX #[54] ok))/\∃c:Bool,cU (.bool bh)=.v (.bool c)/\(c=bh->∃jd c,l9 ks bW i m h.length bB mv marks N h jd (g8.set k (.cc .ready bn bX #[54] ok))/\(g8.set k (.cc .ready bn bX #[54] ok))[ym]?=a_ (.cells [.v (.bool c)] bf)/\(g8.set k (.cc .ready bn bX #[54] ok))[k]?=a_ (.cc .ready bn bX #[54] ok))/\(c=bf->False):=λg8 Y0 iZ Y V h3=>
       ⟨⟨.busy,gq,h3⟩,bh,rfl,λ_=>⟨Y0,iZ,Y.set kl,by rw[bC X0];exact V,bV (gl h3)⟩,λz=>by cases z⟩
      refine eN (fe Da.b2) (cm (awm Da.s.A (q)) ?_);rintro r g8 ⟨⟨b,rfl⟩,rfl⟩;cases b with
      |true=>
       obtain⟨x,I,lB,_⟩:=Da.at
       have qT:oN (dN x 9 [.v (.bool bh)]):=by
        obtain⟨y,b,cF,rfl,hy,ht⟩:=lB;obtain⟨h9,_⟩:=hy.ok;refine⟨y,bh,cF,?_,hy,ht⟩;rw[YE ah,aoM _ _ aa,h9];rfl
       obtain⟨alX,g9,sN,Vr,Xf⟩:=Da.write I ag rfl rfl qT;refine l5 (fe Da.b3) @IW @HO @sN ?_;have At:bW≠ym/\bW≠k:=by
        have:=Da.lt;exact⟨aa,aa⟩
       exact fin g9 alX ia Vr (Xf _ _ (eW At.1) Qx) (Xf _ _ (eW At.2) Ly)
      |false=>
       have aCh:=qz (w:=.v (.bool bh)) rfl Qx;exact eN @aCh (fin _ MX bh (Da.set afT) (bV (gl Qx)) (by rw[bC (eW X0)];exact Ly))
    rintro r g6 ⟨rfl,⟨MX,ia,Vq,L4,vc⟩|hf⟩;refine⟨.ready,bn,vc,ag,?_⟩;refine eN @An.eq_1 ?_;exact⟨MX,ia,trivial,Vq.set kl,by rw[bC (by rintro rfl;rw[L4] at vc;cases vc)];exact L4⟩;exact hf.elim
  rintro e g5 ⟨aHe,c5,rfl,u7,L3⟩;refine iq (λe g'=>e=[(3,.mp (h.length+1) 0),(4,v),(8,.fn (.func 56) [.mp ks 0] [])]/\g'=g5) ?_ ?_
  · have done:∀b:Bool,hO G bE 29 [.v (.bool b),.v (.int .i64 13)] g5 (λr h'=>h'=g5) λch h'=>ch=zJ 13/\h'=g5:=λb=>gE (yp b 13 g5) (λr h' q=>q.2) λch h' q=>q.2
    obtain⟨x,I,lB,rU⟩:=u7.at
    obtain⟨nm,cq,i1,p1,b_,a,al,ue,ex,b,cF,rfl,_⟩:=lB.at
    have wW:=rU 9 _ rfl;cases c5 with
    |true=>
     refine p5 (fe L3) (fe u7.b3) @IW @HO @wW (gE (done _) ?_ ?_);rintro r g6 rfl;exact fj tt;rintro ch g6 ⟨rfl,rfl⟩;exact fV 13 _ ag ⟨_,u7⟩
    |false=>
     refine eN (fe L3) (gE (done _) ?_ ?_);rintro r g6 rfl;exact fj tt;rintro ch g6 ⟨rfl,rfl⟩;exact fV 13 _ ag ⟨_,u7⟩
  rintro e g6 ⟨rfl,rfl⟩;refine eE (λe g'=>∃dP f,e=[(3,.mp (h.length+1) 0),(14,dP),(15,.v (.int .i64 f))]/\((f=0/\J2 dP)\/f≠0)/\g'=g6) ?_ ?_;refine fj (cm (aAd cB hE (azV u7.s.A) λneg=>aHZ) ?_);rintro r g7 ⟨⟨dP,f,rfl,hq⟩,rfl⟩;refine eN @bq.eq_1 ?_;exact⟨dP,f,rfl,hq.imp id λz=>z.1,trivial⟩;rintro e g7 ⟨dP,f,rfl,Dt,rfl⟩;refine iq (λe g'=>e=[(3,.mp (h.length+1) 0),(14,dP)]/\g'=g7/\J2 dP) ?_ ?_;refine fj (gE (yp _ f g7) ?_ ?_);rintro r g8 ⟨hf,rfl⟩;have aun:f=0:=aJm
  refine fj ?_;exact⟨trivial,trivial,Dt.elim (λz=>z.2) λz=>absurd aun z⟩;rintro ch g8 ⟨hf,rfl,rfl⟩;exact fV f _ aJm ⟨_,u7⟩;rintro e g8 ⟨rfl,rfl,hN⟩;have jq:eP dP:=by
   obtain⟨on,cu,bx,bv,F,E,e,rfl,ho,O,_⟩:=hN;exact adf ho O
  refine eE (λe g'=>∃tab f,e=[(3,.mp (h.length+1) 0),(15,.v (.int .i64 f)),(16,tab)]/\((f=0/\A3 tab)\/f≠0)/\g'=g8) ?_ ?_;refine fj ?_;refine ek (aAf cB hN) ?_;rintro r ⟨tab,f,rfl,hq⟩;refine eN @bq.eq_1 ?_;exact⟨tab,f,rfl,hq.imp id λz=>z.1,trivial⟩;rintro e g9 ⟨tab,f,rfl,avG,rfl⟩;refine iq (λe g'=>e=[(3,.mp (h.length+1) 0),(16,tab)]/\g'=g9/\A3 tab) ?_ ?_;refine fj (gE (yp _ f g9) ?_ ?_);rintro r g8 ⟨hf,rfl⟩;refine fj ?_;exact⟨trivial,trivial,avG.elim (λz=>z.2) λz=>absurd aJm z⟩;rintro ch g8 ⟨hf,rfl,rfl⟩;exact fV f _ aJm ⟨_,u7⟩;rintro e asz ⟨rfl,rfl,hT⟩;obtain⟨x,I,lB,_⟩:=u7.at
  have qT:oN (dN x 10 [tab]):=by
   obtain⟨y,b,cF,rfl,hy,ht⟩:=lB;obtain⟨h9,_⟩:=hy.ok;refine⟨y,b,tab,?_,hy,bF hT⟩;rw[YE ah,aoM _ _ aa,h9];rfl
  have LR:tab.cells=[tab]/\cr tab=bh:=by
   obtain⟨rows,rfl,_⟩:=hT;exact⟨rfl,rfl⟩
  obtain⟨alX,aFZ,sN,Vr,Xf⟩:=u7.write I ag LR.1 LR.2 qT;refine l5 (fe u7.b3) @IW @HO @sN ?_;rw[YW];intro bl he;exact fj ((Vr.fin he).q)
end
end
section
variable{x:List bg}{g h J:List br}{ks:Nat}{mv nT v0 v1:bg}{marks rows:List (List bg)}{e:Int}
def N2(x:bg):Prop:=∃(bB mv:bg) (rows marks:List (List bg)),x=.fp [bB,mv] 0/\cG bB (rows.map dD)/\cG mv (marks.map dD)/\(∀x∈rows,oN x)/\(∀x∈marks,nJ x)/\0<rows.length/\rows.length<=24/\marks.length<=8
def Od(r:bg):Prop:=∃(x:bg) (e:Int),r=.bQ [x,bq e]/\((e=0/\N2 x)\/(e≠0/\x=.v (.pointer bn)))
def A3.fz{x}(h:A3 x)(J):b8 J x x:=by
 obtain⟨rows,rfl,D,_⟩:=h;refine b8.fp (bG (gP (iW λr ko=>?_)) cW);obtain⟨l,b,rfl,_⟩:=D r ko;exact kA (Cj (iW λn _=>bH _) (bG (bH _) cW))
def uI.KX(h:uI x)(J):e4 J x x:=by
 obtain⟨nm,cq,i,p,b_,a,al,mv,ex,rfl,hg,hm,_⟩:=h;exact bG (bH _) (bG (hg.fz J) (bG (bH _) (bG (bH _) (bG (bH _) (bG (bH _) (bG (bH _) (bG (hm.fz J) (bG (bH _) cW))))))))
def oN.KX(h:oN x)(J):e4 J x x:=by
 obtain⟨y,b,cF,rfl,hy,ht⟩:=h;refine Cj (hy.KX J) (bG (bH _) (bG ?_ cW))
 rcases ht with rfl|ht
 exact bH _;exact ht.fz J
def ae0:∀{ls:List (List bg)},(∀x∈ls,e4 J x x)->e4 J ls.flatten ls.flatten
 |[],_=>cW
 |x::r,h=>by
  rw[y3];exact Cj (h x (AV ..)) (ae0 λy hy=>h y (uD _ hy))
def aBZ{v}{xs}(h:rz v xs)(I:∀x∈xs,b8 J (.agg x) (.agg x)):∃v',b8 J v v'/\cG v' (xs.map dD):=by
 rcases h with⟨rfl,rfl⟩|⟨t,rfl⟩
 exact⟨_,eB,bF ⟨rfl,rfl⟩⟩;exact⟨_,gP (iW I),bD rfl⟩
def aCr{bW}{bB}(s:oM ks bW bB mv rows marks h)(h0:0<rows.length):∃n bS,cX h n (.bQ [.mp ks 0,(0:Int)])=a_ bS/\Od bS:=by
 have V:=b8.rs (sz:=11) (o:=0) (len:=rows.length) s.r.b rfl (ae0 λx I=>(s.rc x I).KX h);have e:=Pk [] s.r.each;rw[gV,show([]:List bg).length=0 from rfl] at e;rw[e,<-s.r.v] at V;obtain⟨nA,cg,z2⟩:=aBZ s.m λx I=>(s.gL x I).fz h;obtain⟨n,hn⟩:=(fD (bG (b8.mp s.b (bG V (bG cg cW))) (bG (bH (.int .i64 0)) cW)):b8 h (.bQ [.mp ks 0,(0:Int)]) _).done;exact⟨n,_,hn,_,0,rfl,bD ⟨rfl,_,nA,rows,marks,rfl,bD rfl,z2,s.rc,s.gL,h0,s.rl,s.ml⟩⟩
def aCq(he:e≠0):∃n bS,cX J n (.bQ [.v (.pointer bn),e])=a_ bS/\Od bS:=by
 obtain⟨n,hn⟩:=(fD (bG (bH (.pointer bn)) (bG (bH (.int .i64 e)) cW)):b8 J _ _).done;exact⟨n,_,hn,_,e,rfl,bF ⟨he,rfl⟩⟩
section
variable{G:Cells}{J:List br}{K:List br->Prop}
def ayK(h:K J):kB G bE 27 [.mp 0 0,.mp 1 0] J bn K:=by
 refine W7.OY (x:=bn) trivial ?_;have e1:nL .ep bh (pY bn) (.v .nilIface)=a_ (.v (.bool bf)):=rfl;exact wy h
def asF(h0:J[0]?=a_ (.cells [v0] bf))(Y:J[1]?=a_ (.cells [v1] bf))
  (h:∀bl:List br,bl[0]?=a_ (.cells [.v (.pointer bn)] bf)->bl[1]?=a_ (.cells [bq e] bf)->K bl):
  kB G bE 27 [.mp 0 0,.mp 1 0] J (a_ (.iface 84 (.agg #[.int .i64 e]))) K:=by
 refine W7.OY (x:=a_ (.ep 84 (.agg [.v (.int .i64 e)]))) ⟨rfl,rfl⟩ ?_;have e1:nL .ep bh (pY (a_ (.ep 84 (.agg [.v (.int .i64 e)])))) (.v .nilIface)=a_ (.v (.bool bh)):=rfl;have t1:Hx 84 (.agg [.v (.int .i64 0)]) bh (pY (a_ (.ep 84 (.agg [.v (.int .i64 e)]))))=a_ (.bQ [.agg [.v (.int .i64 e)],.v (.bool bh)]):=rfl;have s1:bL (J++[.cells [.v (.int .i64 0)] bf]) 1 (.mp J.length 0) (.agg [.v (.int .i64 e)])=a_ (J++[.cells [.v (.int .i64 e)] bf]):=by
  simp only[bL,fF (ck _),lM,n4,e5];simp[jy,cr,dN]
 have q0:(J++[bw [.v (.int .i64 e)] bf])[0]?=a_ (.cells [v0] bf):=bU h0;have q1:(J++[bw [.v (.int .i64 e)] bf])[1]?=a_ (.cells [v1] bf):=bU Y;have Aw:(J++[bw [.v (.int .i64 e)] bf])[J.length]?=a_ (.cells [.v (.int .i64 e)] bf):=af
 have cQ:=gl Y;refine q7 ?_;generalize J++[bw [.v (.int .i64 e)] bf]=g at q0 q1 Aw⊢;generalize J.length=m at Aw cQ⊢;have z0:=qz (w:=.v (.pointer bn)) rfl q0;have cg:=qz (k:=1) (g:=g.set 0 (.cells [.v (.pointer bn)] bf)) (w:=.v (.int .i64 e)) rfl (by rw[bC aa];exact q1);have y0:=fe Aw;have y1:bA (g.set 0 (.cells [.v (.pointer bn)] bf)) bf 1 (.mp m 0)=a_ (.v (.int .i64 e)):=fe (by rw[bC aa];exact Aw);have hg:=gl q1;refine p6 @y0 @z0 @cg @y1 @td (h _ ?_ ?_);rw[bC ag,bV aa];rw[bV ah];rfl
end
section
variable{G:Cells}
def aB0(I:x.length=11/\x.all cr=bh):qG h 11 120 99 .bp (.sl [.agg x] .exact)=a_ (.rs h.length [x].flatten.length 11 0 1,h++[.cells [x].flatten bh]):=by
 have ok:c8 11 [dD x]=bh:=vr λy hy=>aJq
 have x6:ey [dD x]=[x].flatten:=by simp[ey,jy]
 have h3:¬([dD x]=([]:List bg)):=af
 simp only[qG,iK,h3,if_false,ok,true_and,x6,eV,iP];rw[if_pos ag]
structure zh(ks:Nat)(nT mv:bg)(rows:List (List bg))(g:List br):Prop where
 b:g[ks]?=a_ (.cells [nT,mv] bf)
 r:(nT=.bp/\rows=[])\/∃bW,jT 11 g bW nT rows
 rc:∀x∈rows,oN x
 rl:rows.length<=24
def zh.ext{g'}(s:zh ks nT mv rows g)(he:Ext g g'):zh ks nT mv rows g':=
 ⟨he _ _ s.b,s.r.imp id λ⟨bW,D⟩=>⟨bW,D.keep λZ q=>he _ _ q⟩,s.rc,s.rl⟩
def zh.A(s:zh ks nT mv rows g)(hm:rz mv marks)(FE:∀x∈marks,nJ x)(nv:marks.length<=8):sJ g (.mp ks 0) nT mv rows marks:=by
 refine⟨tI.mp s.b,?_,n9.slc g hm λx I=>(FE x I).ok.1,s.rc,FE,s.rl,nv⟩
 rcases s.r with⟨rfl,rfl⟩|⟨bW,D⟩
 exact n9.slc g (bD ⟨rfl,rfl⟩) af;exact n9.row D
def zh.push(s:zh ks nT mv rows g)(I:oN x)(hl:rows.length<24):
  ∃v' g1,qG g 11 120 99 nT (.sl [.agg x] .exact)=a_ (v',g1)/\bL g1 1 (.mp ks 0) v'=a_ (g1.set ks (.cells [v',mv] bf))/\zh ks v' mv (rows++[x]) (g1.set ks (.cells [v',mv] bf))/\∀(j:Nat) Z,g[j]?=a_ (.cells Z bf)->g1[j]?=a_ (.cells Z bf):=by
 have Bs:=gl s.b;have rU:=I.len;have RC:∀y∈rows++[x],oN y:=λy hy=>by
  rcases gA.1 hy with q|q
  exact s.rc y q;rw[dR.1 q];exact I
 have st:∀{g1} {k n o l} {a b},g1[ks]?=a_ (.cells [a,b] bf)->bL g1 1 (.mp ks 0) (.rs k n 11 o l)=a_ (g1.set ks (.cells [.rs k n 11 o l,b] bf)):=λq=>by
  simp only[bL,q];rfl
 rcases s.r with⟨rfl,rfl⟩|⟨bW,D⟩
 have O:(g++[bw [x].flatten bh])[ks]?=a_ (.cells [.bp,mv] bf):=bU s.b;have D:jT 11 (g++[bw [x].flatten bh]) g.length (.rs g.length [x].flatten.length 11 0 1) [x]:=jT.new (λy hy=>by rw[dR.1 hy];exact rU);refine⟨_,_,aB0 rU,st O,⟨bV ah,bF ⟨g.length,D.keep λZ q=>by rw[bC aa];exact q⟩,RC,af⟩,λj Z q=>bU q⟩;obtain⟨v',e1,ko⟩:=D.push (b6:=120) ag ag rU aa;have bR:ks≠bW:=by
  rintro rfl;have V:=D.b;rw[s.b] at V;simp at V
 have O:(g.set bW (.cells (rows++[x]).flatten bh))[ks]?=a_ (.cells [nT,mv] bf):=by rw[bC (eW bR)];exact s.b
 refine⟨v',_,e1,by rw[ko.v];exact st O,⟨bV (by simpa using Bs),bF ⟨bW,ko.keep λZ q=>by rw[bC bR];exact q⟩,RC,ah⟩,λj Z q=>?_⟩;rw[bC (by rintro rfl;rw[D.b] at q;simp at q)];exact q
def alH{F}{e}(h0:g[0]?=a_ (.cells [v0] bf))(Y:g[1]?=a_ (.cells [v1] bf))(e2:gC e 2=a_ (.mp 0 0))(dc:gC e 3=a_ (.mp 1 0))(hF:F (.bQ [v0,v1])):
  @gH _ (kO e g [(.c 2 bf 1),(.c 3 bf 1)]) ⟨F⟩:=by
 exact o_ @e2 @dc (fe h0) (fe Y) hF
def aAe(cB:fS G)(hI:A4 G)(s)(hs:s.length<=1000000):dA G bE 10 [bu s] Od:=by
 refine dX (Qy.go ?_);refine wy ?_;refine⟨[0,1],rfl,?_⟩
 conv in kC.bc _=>whnf
 have sP:∀{e} (e2:gC e 2=a_ (.mp 0 0)) (dc:gC e 3=a_ (.mp 1 0)) (ch) (V),(∃b7,b7≠0/\ch=zJ b7)->(∃v0,V[0]?=a_ (.cells [v0] bf))->(∃v1,V[1]?=a_ (.cells [v1] bf))->
   ∃v,ch=[{v:=v,recovered:=bf}]/\kB G bE 27 ([0,1].map λk=>.mp k 0) V (a_ v) λg=>@gH _ (kO e g [(.c 2 bf 1),(.c 3 bf 1)]) ⟨λr=>∃n bS,cX g n r=a_ bS/\Od bS⟩:=by
  rintro e e2 dc ch V ⟨b7,he,rfl⟩ ⟨v0,h0⟩ ⟨v1,Y⟩;exact⟨_,rfl,asF h0 Y λg g0 g1=>alH g0 g1 e2 dc (aCq he)⟩
 have Pd:∀mv:bg,cr mv=bh->dH [.bp,.bp] [(1,1,mv)]=a_ [.bp,mv]:=λmv Y=>by
  have T:mv.cells=[mv]:=by cases mv<;>first|rfl|cases Y
  simp[dH,T,Y,dN]
 have LY:[cU (.string ⟨[].toArray⟩),.bp,.v (.bool bf),.v (.bool bf),.v (.bool bf),.v (.int .i64 0),.v (.bool bf),.bp,.v (.string ⟨[].toArray⟩)]=gz:=rfl;have HL:∀x:List bg,uI x->dH [.v (.string ⟨[].toArray⟩),.bp,.v (.bool bf),.v (.bool bf),.v (.bool bf),.v (.int .i64 0),.v (.bool bf),.bp,.v (.string ⟨[].toArray⟩),.v (.bool bf),.v (.pointer bn)] [(0,9,.agg x)]=a_ (x++[.v (.bool bf),.v (.pointer bn)]):=λx I=>by
  obtain⟨nm,cq,i,p,b_,a,al,mv,ex,rfl,hg,hm,_⟩:=I;simp[dH,jy,eA,dN,hg.one.1,hm.one.1,cr,bu]
 have Xi:∀{g} {a b},g[3]?=a_ (.cells [a,b] bf)->bA g bf 1 (.mp 3 0)=a_ a:=λq=>by simp only[bA,q];rfl
 refine iq (λe g=>∃(bB mv:bg) (b7:Int) (cv marks:List (List bg)),e=[(2,.mp 0 0),(3,.mp 1 0),(4,.mp 2 0),(6,.v (.int .i64 b7))]/\g=[bw [cU (.pointer bn)] bf,bw [cU (.int .i64 0)] bf,bw [bB,mv] bf]/\cG bB (cv.map dD)/\cG mv (marks.map dD)/\(∀x∈cv,uI x)/\(∀x∈marks,nJ x)/\cv.length<=24/\marks.length<=8) ?_ ?_;refine wy ?_;refine ek (aAU cB hI s hs) ?_;rintro r ⟨bB,mv,cw,e,rfl,cv,marks,LK,kX,Wq,FE,x_,nv⟩
 have on:cr bB=bh/\bB.cells=[bB]:=by rcases LK with rfl|⟨rfl,_⟩<;>exact⟨rfl,rfl⟩
 have pV:cr mv=bh/\mv.cells=[mv]:=aH1
 have yH:bL [bw [cU (.pointer bn)] bf,bw [cU (.int .i64 0)] bf,bw [.bp,.bp] bf] 2 (.mp 2 0) (.agg [bB,mv])=a_ [bw [cU (.pointer bn)] bf,bw [cU (.int .i64 0)] bf,bw [bB,mv] bf]:=ZN rfl rfl on.1 pV.1;refine wy ?_;exact⟨bB,mv,e,cv,marks,rfl,rfl,LK,kX,Wq,FE,x_,nv⟩;rintro e g ⟨bB,mv,b7,cv,marks,rfl,rfl,LK,kX,Wq,FE,x_,nv⟩
 have pV:cr mv=bh/\mv.cells=[mv]:=aH1
 have agd:rz mv marks:=by
  rcases kX with rfl|⟨rfl,z⟩
  exact bF ⟨_,rfl⟩;exact bD ⟨rfl,aN⟩
 refine iq (λe g=>e=[(2,.mp 0 0),(3,.mp 1 0),(4,.mp 2 0)]/\g=[bw [cU (.pointer bn)] bf,bw [cU (.int .i64 0)] bf,bw [bB,mv] bf]) ?_ ?_;refine wy (gE (yp _ b7 _) ?_ ?_);rintro r g ⟨he,rfl⟩;exact wx tt;rintro ch g ⟨he,rfl,rfl⟩;exact sP rfl rfl _ _ ⟨b7,aHR,rfl⟩ ⟨_,rfl⟩ ⟨_,rfl⟩;rintro e g ⟨rfl,rfl⟩;have bc:(dD [.bp,mv]).cells=[.bp,mv]:=rfl;have ln:=LK.cN;rw[dj] at ln;refine eE (λe g=>e=[(2,.mp 0 0),(3,.mp 1 0),(4,.mp 2 0)]/\g=[bw [cS 3 0] bf,bw [cU (.int .i64 0)] bf,bw [bB,mv] bf,bw [.bp,mv] bf]) ?_ ?_;exact l6 (Pd mv pV.1) @bc tt;rintro e g ⟨rfl,rfl⟩;refine eE (λe g=>∃nT rows,e=[(2,.mp 0 0),(3,.mp 1 0)]/\g[0]?=a_ (.cells [.mp 3 0] bf)/\g[1]?=a_ (.cells [.v (.int .i64 0)] bf)/\zh 3 nT mv rows g) ?_ ?_;refine wy ?_;refine dx (λi e g=>∃nT rows,e=[(2,.mp 0 0),(3,.mp 1 0),(26,bB),(27,bq cv.length),(28,bq i)]/\g[0]?=a_ (.cells [.mp 3 0] bf)/\g[1]?=a_ (.cells [.v (.int .i64 0)] bf)/\zh 3 nT mv rows g/\rows.length=i) cv.length ⟨.bp,[],rfl,rfl,rfl,⟨rfl,bD ⟨rfl,rfl⟩,af,ag⟩,rfl⟩ ?_ ?_;rintro i e g Q ⟨nT,rows,rfl,g0,g1,hS,agx⟩;obtain⟨x,I⟩:=cO Q;have FR:=Wq x (cE I);obtain⟨pR,o5,_⟩:=FR.ok;have e1:cA 9 bB (.v (.int .i64 (i)))=a_ (.fp x 0):=LK.cI (x:=.agg x) aA pR;have e2:=λJ=>rz.fY pR J;have nn:=Mq g pR o5;have kx:(g++[bw x bf])[g.length]?=a_ (.cells x bf):=af
 have HR:(g++[bw x bf])[0]?=a_ (.cells [.mp 3 0] bf):=bU g0;have Py:(g++[bw x bf])[1]?=a_ (.cells [.v (.int .i64 0)] bf):=bU g1;have fU:=hS.ext (g':=g++[bw x bf]) lJ;refine q7 ?_;generalize g.length=m at kx⊢;generalize g++[bw x bf]=g2 at kx HR Py fU⊢;have lx:bA g2 bh 9 (.mp m 0)=a_ (.agg x):=by
  simp only[bA,kx];unfold eZ;rw[if_pos rfl,if_pos aa,pg,n6 aa]
 have Iv:oN (x++[.v (.bool bf),.v (.pointer bn)]):=⟨x,bf,_,rfl,FR,bD rfl⟩;obtain⟨v',g3,p1,p2,p3,jj⟩:=fU.push Iv aa;have ab:e9 11 [.agg (x++[.v (.bool bf),.v (.pointer bn)])]=a_ (.sl [.agg (x++[.v (.bool bf),.v (.pointer bn)])] .exact):=by
  have:=vr λy hy=>by rw[dR.1 hy];exact Iv.len
  simp only[fM,mI] at this;simp[e9,this]
 have KY:=jj _ _ HR;refine yS (fe HR) (Xi fU.b) @lx (HL x FR) @ab @p1 (fe KY) @p2 @td ?_;refine⟨v',_,rfl,?_,?_,p3,by simp[agx]⟩;rw[bC ag];exact KY;rw[bC ag];exact jj _ _ Py;rintro e g ⟨nT,rows,rfl,g0,g1,hS,agx⟩;refine eN @bq.eq_1 ?_;exact⟨nT,rows,trivial,g0,g1,hS⟩;rintro e g ⟨nT,rows,rfl,g0,g1,hS⟩;refine iq (λe g=>e=[(2,.mp 0 0),(3,.mp 1 0)]/\g[0]?=a_ (.cells [.mp 3 0] bf)/\g[1]?=a_ (.cells [.v (.int .i64 0)] bf)/\0<rows.length/\∃bW,oM 3 bW nT mv rows marks g) ?_ ?_;refine wy (gE (az_ (hS.A agd FE nv) rfl) ?_ ?_);rintro r g2 ⟨⟨l,rfl⟩,s5⟩;refine fj ?_;refine⟨trivial,bU g0,bU g1,s5,?_⟩;have fU:=hS.ext (g':=g++l) lJ
 rcases fU.r with⟨_,z⟩|⟨bW,D⟩
 rw[z] at s5;exact absurd s5 ag;exact⟨bW,fU.b,D,agd,fU.rc,FE,fU.rl,nv⟩;rintro ch g2 ⟨e,he,rfl,l,rfl⟩;exact sP rfl rfl _ _ ⟨e,he,rfl⟩ ⟨_,bU g0⟩ ⟨_,bU g1⟩;rintro e g2 ⟨rfl,HR,Py,s5,bW,hM⟩;refine iq (λe g=>∃jd,e=[(2,.mp 0 0),(3,.mp 1 0)]/\g[0]?=a_ (.cells [.mp 3 0] bf)/\g[1]?=a_ (.cells [.v (.int .i64 0)] bf)/\oM 3 bW nT mv jd marks g/\jd.length=rows.length) ?_ ?_;have nw:=hM.rl;refine Cc (fe HR) (Xi hM.b) @hM.r.len ?_;refine dx (λi e g=>∃jd,e=[(2,.mp 0 0),(3,.mp 1 0),(50,bq rows.length),(51,bq i)]/\g[0]?=a_ (.cells [.mp 3 0] bf)/\g[1]?=a_ (.cells [.v (.int .i64 0)] bf)/\oM 3 bW nT mv jd marks g/\jd.length=rows.length) rows.length ⟨rows,rfl,HR,Py,hM,rfl⟩ ?_ ?_;rintro i e g Q ⟨jd,rfl,g0,g1,hM,agy⟩;have jX:i<jd.length:=aa
 have At:bW≠0/\bW≠1:=by
  have O:=hM.r.b;refine⟨?_,?_⟩<;>rintro rfl;rw[g0] at O;simp at O;rw[g1] at O;simp at O
 refine an2 (fe g0) (Xi hM.b) (hM.r.cI jX) (gE (arj cB hM jX) ?_ ?_);rintro r g3 ⟨Gw,K8,h3,_,kp⟩;refine fj ?_;exact⟨Gw,rfl,kp _ _ (eW At.1) g0,kp _ _ (eW At.2) g1,K8,aa⟩;rintro ch g3 ⟨e,he,rfl,Gw,K8,h3,_,kp⟩;exact sP rfl rfl _ _ ⟨e,he,rfl⟩ ⟨_,kp _ _ (eW At.1) g0⟩ ⟨_,kp _ _ (eW At.2) g1⟩;rintro e g ⟨jd,rfl,g0,g1,hM,agy⟩;refine eN @bq.eq_1 ?_;exact⟨jd,trivial,g0,g1,hM,agy⟩;rintro e g3 ⟨Gw,rfl,KY,ae1,K8,h3⟩;have asA:(g3.set 0 (.cells [.mp 3 0] bf))[1]?=a_ (.cells [.v (.int .i64 0)] bf):=by rw[bC ag];exact ae1
 have k1:=bV (a:=.cells [.v (.int .i64 0)] bf) (gl asA);have k0:((g3.set 0 (.cells [.mp 3 0] bf)).set 1 (.cells [.v (.int .i64 0)] bf))[0]?=a_ (.cells [.mp 3 0] bf):=by
  rw[bC ag,bV (gl KY)]
 have At:bW≠0/\bW≠1:=by
  have O:=K8.r.b;refine⟨?_,?_⟩<;>rintro rfl;rw[KY] at O;simp at O;rw[ae1] at O;simp at O
 exact wy (ayK (alH k0 k1 rfl rfl (aCr ((K8.set (j:=0) (b':=.cells [.mp 3 0] bf) ag (eW At.1)).set (j:=1) (b':=.cells [.v (.int .i64 0)] bf) ag (eW At.2)) aa)))
end
end
section
variable{v:bg}{rows:List (List bg)}
structure lN(hk bB mv:bg)(rows marks:List (List bg)):Prop where
 eq:hk=.fp [bB,mv] 0
 n:cG bB (rows.map dD)
 m:cG mv (marks.map dD)
 rc:∀x∈rows,oN x
 gL:∀x∈marks,nJ x
 bS:0<rows.length
 rl:rows.length<=24
 ml:marks.length<=8
def N2.c{hk:bg}(h:N2 hk):∃bB mv rows marks,lN hk bB mv rows marks:=by
 obtain⟨bB,mv,rows,marks,e,Y,V,h3,h4,h5,h6,h7⟩:=h;exact⟨bB,mv,rows,marks,e,Y,V,h3,h4,h5,h6,h7⟩
def aq0{x:bg}(h:A3 x):eP x:=by
 obtain⟨rows,rfl,Y,_⟩:=h;refine EY λc T=>?_;rw[dR.1 T];refine lQ λx I c T=>?_;obtain⟨r,D,rfl⟩:=dZ.1 I;obtain⟨l,b,rfl,_⟩:=Y r D
 rcases gA.1 (show c∈l.map bq++[.v (.bool b)] from T) with q|q
 obtain⟨n,_,rfl⟩:=dZ.1 q;exact dz _;rw[dR.1 q];exact dz _
def aqZ(h:cG v (rows.map dD))(D:∀x∈rows,oN x):eP v:=by
 have I:∀x∈rows.map dD,∀c∈x.cells,eP c:=λx I c T=>by
  obtain⟨y,hy,rfl⟩:=dZ.1 I;obtain⟨nm,cq,i1,p1,b_,a,al,ue,ex,b,cF,rfl,⟨l1,g1,_⟩,⟨l2,g2,_⟩,_,ht⟩:=(D y hy).at
  have iT:c∈[bu nm,cq,.v (.bool i1),.v (.bool p1),.v (.bool b_),.v (.int .i64 a),.v (.bool al),ue,bu ex,.v (.bool b),cF]:=T;simp only[fB,qD,or_false] at iT
  rcases iT with rfl|rfl|rfl|rfl|rfl|rfl|rfl|rfl|rfl|rfl|rfl
  exact dz _;exact qh g1;exact dz _;exact dz _;exact dz _;exact dz _;exact dz _;exact qh g2;exact dz _;exact dz _
  rcases ht with rfl|ht
  exact dz _;exact aq0 ht
 rcases h with rfl|⟨rfl,_⟩
 exact lQ I;exact od
def aqY(h:cG v (rows.map dD))(D:∀x∈rows,nJ x):eP v:=by
 have I:∀x∈rows.map dD,∀c∈x.cells,eP c:=λx I c T=>by
  obtain⟨y,hy,rfl⟩:=dZ.1 I;obtain⟨nm,n,al,bv,rfl,l,g1,_⟩:=D y hy;have iT:c∈eJ nm n al bv:=T;simp only[eJ,fB,qD,or_false] at iT
  rcases iT with rfl|rfl|rfl|rfl
  exact dz _;exact dz _;exact dz _;exact qh g1
 rcases h with rfl|⟨rfl,_⟩
 exact lQ I;exact od
def ag1(i:Nat)(x:List bg):Bool:=match x[i]? with
 |some (.v (.bool b))=>b
 |_=>bf
def ag2(i:Nat)(x:List bg):Int:=match x[i]? with
 |some (.v (.int _ n))=>n
 |_=>0
def B2(rows:List (List bg))(t:Int):Option (List bg):=if 1<=t then rows[(t-1).toNat]? else bn
def Ma(rows:List (List bg))(t:Int):Bool:=t==0||(B2 rows t).any (ag1 4)
def Qt(rows:List (List bg))(t:Int):Bool:=t==0||(B2 rows t).any (ag1 2)
def Hy(rows:List (List bg))(t:Int):Int:=((B2 rows t).map (ag2 5)).getD 0
section
variable{G:Cells}{hk bB mv:bg}{rows marks:List (List bg)}
def lN.clean(s:lN hk bB mv rows marks):eP hk:=by
 rw[s.eq];refine EY λc T=>?_;simp only[fB,qD,or_false] at T
 rcases T with rfl|rfl
 exact aqZ s.n s.rc;exact aqY s.m s.gL
def lN.fY(s:lN hk bB mv rows marks)(h:List br):bA h bf 1 (.fp [bB,mv] 0)=a_ bB/\bA h bf 1 (.fp [bB,mv] 1)=a_ mv:=⟨rfl,rfl⟩
def aEh(s:lN hk bB mv rows marks):dL G bE 137 [hk] (.v (.int .i64 (rows.length:Int))):=by
 rw[s.eq];refine gr (W1.go ?_);have ln:=s.n.cN;rw[dj] at ln;refine wy ?_;exact(bH _).done
def TO(s:lN hk bB mv rows marks){t:Int}(h:B2 rows t=bn):dL G bE 111 [hk,.v (.int .i64 t)] (.v (.pointer bn)):=by
 rw[s.eq];refine gr (QA.go ?_);have nw:=s.rl;have ln:=s.n.cN;rw[dj] at ln;refine wy ?_;refine cL (λq=>?_) λq=>?_;refine wy ?_;exact(bH _).done;refine wy ?_;refine cL (λbt=>?_) λbt=>?_;refine wy ?_;exact(bH _).done;exfalso;unfold B2 at h;have q1:¬t<1:=an
 rw[if_pos aa,aoE] at h;simp at bt;omega
def TP(s:lN hk bB mv rows marks){i:Nat}{x:List bg}(I:rows[i]?=a_ x):dL G bE 111 [hk,.v (.int .i64 ((i:Int)+1))] (.fp x 0):=by
 rw[s.eq];refine gr (QA.go ?_);have nw:=s.rl;have Q:=(cJ.1 I).1;have ln:=s.n.cN;rw[dj] at ln;have D:=s.rc x (cE I);have cI:cA 11 bB (.v (.int .i64 (i:Int)))=a_ (.fp x 0):=s.n.cI (x:=.agg x) aA D.len.1;have w1:dy.wrap ((i:Int)+1-1)=(i:Int):=by rw[gN aa aa];omega
 have d1:decide ((i:Int)+1<1)=bf:=decide_eq_false aa;have d2:decide ((i:Int)+1>(rows.length:Int))=bf:=decide_eq_false aa;refine wy ?_;exact(b8.fp (D.KX _)).done
def YX(rows:List (List bg))(t:Int):B2 rows t=bn\/∃(i:Nat) (x:List bg),t=(i:Int)+1/\rows[i]?=a_ x/\B2 rows t=a_ x:=by
 cases h:B2 rows t with
 |none=>exact bD rfl
 |some x=>
  right;unfold B2 at h;split at h;exact⟨(t-1).toNat,x,aa,h,rfl⟩;cases h
def awn(s:lN hk bB mv rows marks)(t:Int):dL G bE 60 [hk,.v (.int .i64 t)] (.v (.bool (Qt rows t))):=by
 have T:=s.clean;have e:=s.eq;refine gr (WZ.go ?_);refine ir ?_
 rcases YX rows t with h|⟨i,x,rfl,I,D⟩
 refine gO (TO s h) (cl T (cl (dz _) dK)) ?_;rw[e];unfold Qt;rw[h];refine wy ?_;refine cL (λq=>?_) λq=>?_;refine wy ?_;exact(bH _).done;refine fy @q ?_;exact(bH _).done;obtain⟨nm,cq,i1,p1,b_,a,al,ue,ex,b,cF,rfl,_⟩:=(s.rc x (cE I)).at
 refine gO (TP s I) (cl T (cl (dz _) dK)) ?_;rw[e];unfold Qt;rw[D];have q0:((i:Int)+1==0)=bf:=beq_eq_false_iff_ne.2 aa;refine wy ?_;exact(bH _).done
def ajN(s:lN hk bB mv rows marks)(t:Int):dL G bE 73 [hk,.v (.int .i64 t)] (.v (.bool (Ma rows t))):=by
 have T:=s.clean;have e:=s.eq;refine gr (ag7.go ?_);refine ir ?_
 rcases YX rows t with h|⟨i,x,rfl,I,D⟩
 refine gO (TO s h) (cl T (cl (dz _) dK)) ?_;rw[e];unfold Ma;rw[h];refine wy ?_;refine cL (λq=>?_) λq=>?_;refine wy ?_;exact(bH _).done;refine fy @q ?_;exact(bH _).done;obtain⟨nm,cq,i1,p1,b_,a,al,ue,ex,b,cF,rfl,_⟩:=(s.rc x (cE I)).at
 refine gO (TP s I) (cl T (cl (dz _) dK)) ?_;rw[e];unfold Ma;rw[D];have q0:((i:Int)+1==0)=bf:=beq_eq_false_iff_ne.2 aa;refine wy ?_;exact(bH _).done
def ap8(s:lN hk bB mv rows marks)(t:Int):dL G bE 126 [hk,.v (.int .i64 t)] (.v (.int .i64 (Hy rows t))):=by
 have T:=s.clean;have e:=s.eq;refine gr (ahr.go ?_);refine ir ?_
 rcases YX rows t with h|⟨i,x,rfl,I,D⟩
 refine gO (TO s h) (cl T (cl (dz _) dK)) ?_;unfold Hy;rw[h];refine ir ?_;exact(bH _).done;obtain⟨nm,cq,i1,p1,b_,a,al,ue,ex,b,cF,rfl,_⟩:=(s.rc x (cE I)).at
 refine gO (TP s I) (cl T (cl (dz _) dK)) ?_;unfold Hy;rw[D];refine wy ?_;exact(bH _).done
def acj(s:lN hk bB mv rows marks)(t a:Int):dL G bE 72 [hk,.v (.int .i64 t),.v (.int .i64 a)] (.v (.bool (decide (t>=1)&&decide (t<=(rows.length:Int))&&decide (a>=0)&&decide (a<=Hy rows t)))):=by
 have T:=s.clean;refine gr (ag6.go ?_);refine wy ?_;refine cL (λq=>?_) λq=>?_;refine wy ?_;refine gO (aEh s) (cl T dK) ?_;refine wy ?_;refine cL (λbt=>?_) λbt=>?_;refine wy ?_;refine cL (λbT=>?_) λbT=>?_;refine wy ?_;refine gO (ap8 s t) (cl T (cl (dz _) dK)) ?_;refine wy ?_;exact(bH _).done;refine wy ?_;exact(bH _).done;refine wy ?_;exact(bH _).done;refine wy ?_;exact(bH _).done
end
end
def oc(l:List UInt8)(i:Nat):Nat:=(l[i]?.getD 0).toNat
@[go_sem]def wz{l:List UInt8}{i:Nat}{k:IntKind}(h:i<l.length):wk (bu l) (.v (.int k (i:Int)))=a_ (.v (.int .u8 (oc l i:Int))):=by
 obtain⟨c,T⟩:=cO h;rw[ac7 T];unfold oc;rw[T];rfl
section
variable{G:Cells}
def Zk(c:Int):dL G bE 147 [.v (.int .u8 c)] (.v (.bool (decide (97<=c)&&decide (c<=122)))):=by
 refine gr (axT.go ?_);refine wy ?_
 repeat' refine ba (λq'=>?_) λq'=>?_
 all_goals exact(bH _).done
def OZ(c:Int):dL G bE 148 [.v (.int .u8 c)] (.v (.bool (decide (48<=c)&&decide (c<=57)))):=by
 refine gr (axU.go ?_);refine wy ?_
 repeat' refine ba (λq'=>?_) λq'=>?_
 all_goals exact(bH _).done
def PS{v:bg}{l:List (List UInt8)}(hv:cG v (l.map bu))(hl:l.length<=1000000000)(x:List UInt8):dA G bE 83 [v,bu x] jD:=by
 refine dX (ah6.go ?_);have ln:=hv.cN;rw[dj] at ln;refine wy ?_;refine dx (λi e h=>e=[(0,v),(1,bu x),(5,bq i)]/\h=[]) l.length ⟨rfl,rfl⟩ ?_ ?_
 · rintro i e h Q ⟨rfl,rfl⟩
   obtain⟨s,hs⟩:=cO Q;have e1:cA 1 v (.v (.int .i64 (i:Int)))=a_ (.fp [bu s] 0):=hv.cI (x:=bu s) aJr rfl;refine wy ?_
   repeat' refine ba (λq'=>?_) λq'=>?_
   exact iS _;exact⟨rfl,trivial⟩
 rintro e h ⟨rfl,rfl⟩;exact wy (iS _)
def XS(s:List UInt8)(hs:s.length<=1000000000):dA G bE 77 [bu s] jD:=by
 refine dX (axw.go ?_);refine wy ?_;refine dx (λi e h=>e=[(0,bu s),(3,bq i)]/\h=[]) s.length ⟨rfl,rfl⟩ ?_ ?_
 · rintro i e h Q ⟨rfl,rfl⟩
   refine nD ?_
   repeat' refine ba (λq'=>?_) λq'=>?_
   all_goals first|(exfalso;omega)|exact iS _|exact⟨rfl,trivial⟩|exact⟨rfl,rfl⟩|exact⟨trivial,trivial⟩
 · rintro e h ⟨rfl,rfl⟩
   refine wy ?_
   repeat' refine ba (λq'=>?_) λq'=>?_
   all_goals exact iS _
def adC(s:List UInt8)(hs:s.length<=1000000000):dA G bE 142 [bu s] (NV s.length):=by
 refine dX (axP.go ?_);refine wy ?_;refine dx (λi e h=>e=[(0,bu s),(5,bq i)]/\h=[]) s.length ⟨rfl,rfl⟩ ?_ ?_
 · rintro i e h Q ⟨rfl,rfl⟩
   have k1:=λJ=>OW (l:=s) (j:=i) aa J;have k2:=λJ=>Us (l:=s) (i:=i+1) aa J;refine sn @wz ?_
   repeat' refine ba (λq'=>?_) λq'=>?_
   exact KT _ ah af;exact⟨rfl,trivial⟩
 rintro e h ⟨rfl,rfl⟩;exact wy (KT (b:=[]) _ (ck _) af)
def Sy(s:List UInt8)(cw:Nat):∃p e:Int,e≠0/\dL G bE 206 [bu s,.v (.int .i64 (cw:Int))] (.bQ [.v (.int .i64 p),.v (.int .i64 e)]):=by
 rcases d_ cw s.length with h|h
 refine⟨cw,2,ag,gr (aiX.go ?_)⟩;exact wy ((fD (bG (bH _) (bG (bH _) cW))).done);refine⟨s.length,5,ag,gr (aiX.go ?_)⟩;exact wy ((fD (bG (bH _) (bG (bH _) cW))).done)
def abg(n cw:Nat)(r:bg):Prop:=∃(m:Int) (p:Nat),r=.bQ [.v (.int .i64 m),.v (.int .i64 (p:Int))]/\p<=n/\(m= -1\/(0<=m/\m<=99/\cw<p))
def C4{J:List br}{n cw:Nat}{m:Int}{p:Nat}(Y:p<=n)(V:m= -1\/(0<=m/\m<=99/\cw<p)):∃k bS,cX J k (.bQ [.v (.int .i64 m),.v (.int .i64 (p:Int))])=a_ bS/\abg n cw bS:=by
 obtain⟨k,S⟩:=(fD (bG (bH (.int .i64 m)) (bG (bH (.int .i64 (p:Int))) cW)):b8 J _ _).done;exact⟨k,_,S,m,p,rfl,Y,V⟩
def akJ(s:List UInt8)(hs:s.length<=1000000000)(cw:Nat)(ha:cw<=s.length):dA G bE 205 [bu s,.v (.int .i64 (cw:Int))] (abg s.length cw):=by
 refine dX (ax6.go ?_);have ws:∀c:Int,48<=c->c<=57->dy.wrap (IntKind.u8.wrap (c-48))=c-48:=λc Y V=>by
  rw[an1,Int.emod_eq_of_lt aa aa,gN aa aa]
 have aEz:∀c d:Int,48<=c->c<=57->48<=d->d<=57->dy.wrap (dy.wrap (10*(c-48))+(d-48))=10*(c-48)+(d-48):=λc d Y V h3 h4=>by
  rw[gN (n:=10*(c-48)) aa aa,gN aa aa]
 rcases d_ cw s.length with h0|h0
 refine wx ?_;refine fk (OZ (oc s cw:Int)) ?_;cases hd:(decide ((48:Int)<=(oc s cw:Int))&&decide ((oc s cw:Int)<=57)) with
 |false=>
  exact wx (C4 aa (bD rfl))
 |true=>
  simp only[fA,decide_eq_true_eq] at hd;have e1:=ws _ hd.1 hd.2;refine wx ?_
  rcases d_ (cw+1) s.length with Y|Y
  refine wx ?_;refine fk (OZ (oc s (cw+1):Int)) ?_;cases t_:(decide ((48:Int)<=(oc s (cw+1):Int))&&decide ((oc s (cw+1):Int)<=57)) with
  |false=>
   refine wx ?_;exact C4 aa (bF ⟨aa,aa,aa⟩)
  |true=>
   simp only[fA,decide_eq_true_eq] at t_;have e2:=ws _ t_.1 t_.2;have dc:=aEz _ _ hd.1 hd.2 t_.1 t_.2;refine wx ?_;refine c_ (λq=>?_) λq=>?_;exact C4 aa (bD rfl)
   rcases d_ (cw+1+1) s.length with V|V
   refine wx ?_;refine fk (OZ (oc s (cw+1+1):Int)) ?_;cases(decide ((48:Int)<=(oc s (cw+1+1):Int))&&decide ((oc s (cw+1+1):Int)<=57)) with
   |true=>
    refine wx ?_;exact C4 aa (bD rfl)
   |false=>
    refine wx ?_;exact C4 aa (bF ⟨aa,aa,aa⟩)
   refine wx ?_;exact C4 aa (bF ⟨aa,aa,aa⟩)
  refine wx ?_;exact C4 aa (bF ⟨aa,aa,aa⟩)
 refine wx ?_;exact C4 aa (bD rfl)
end
section
variable{J:List br}{v:bg}{m n:Nat}
def anX(n:Int): -9223372036854775808<=dy.wrap n/\dy.wrap n<=9223372036854775807:=by
 simp only[aap,JI,JJ];constructor<;>(simp;split<;>omega)
def Sx(n:Int):0<=GS.wrap n/\GS.wrap n<18446744073709551616:=by
 rw[Ee];omega
@[go_sem]def ad1(a:List UInt8):dF .eql (bu a) (.v (.string ⟨[].toArray⟩))=a_ (.v (.bool (a==[]))):=og a []
@[go_sem]def EO{xs:List bg}{e:TypeId}(hA:cV J v xs n e)(g:List br):cN v g=a_ (.v (.int .i64 (xs.length:Int)),g):=by
 rcases hA with⟨rfl,rfl⟩|⟨id,rfl,_⟩<;>rfl
def J0(a b:Int)(r:bg):Prop:=∃n:Int,r=.v (.int .i64 n)/\a<=n/\n<=b
def tU{a b n:Int}(Y:a<=n)(V:n<=b):∃k bS,cX J k (.v (.int .i64 n))=a_ bS/\J0 a b bS:=by
 obtain⟨k,S⟩:=(bH (.int .i64 n):b8 J _ _).done;exact⟨k,_,S,n,rfl,Y,V⟩
def CG(m n:Nat)(v:bg):Prop:=∃l:List (List UInt8),cG v (l.map bu)/\l.length<=m/\∀w∈l,w.length<=n
def CG.nil(m n:Nat):CG m n .bp:=⟨[],bF ⟨rfl,rfl⟩,jR _,af⟩
def ap2{l:List (List UInt8)}(h:cV J v (l.map bu) 1 9)(Y:l.length<=m)(V:∀w∈l,w.length<=n):∃v',b8 J v v'/\CG m n v':=by
 rcases h with⟨rfl,z⟩|⟨id,rfl,_⟩
 exact⟨_,eB,CG.nil _ _⟩;exact⟨_,gP (iW λa _=>bH _),l,bD rfl,Y,V⟩
def aa_(m n:Nat)(r:bg):Prop:=∃(v:bg) (p e:Int),r=.bQ [v,.v (.int .i64 p),.v (.int .i64 e)]/\CG m n v
def UY{v':bg}{p e:Int}(h:b8 J v v')(V:CG m n v'):∃k bS,cX J k (.bQ [v,.v (.int .i64 p),.v (.int .i64 e)])=a_ bS/\aa_ m n bS:=by
 obtain⟨k,S⟩:=(fD (bG h (bG (bH (.int .i64 p)) (bG (bH (.int .i64 e)) cW))):b8 J _ _).done;exact⟨k,_,S,v',p,e,rfl,V⟩
section
variable{G:Cells}
def aA0(c:Int):dA G bE 76 [.v (.int .u8 c)] jD:=by
 refine dX (awS.go ?_);refine wy ?_
 repeat' refine ba (λq'=>?_) λq'=>?_
 all_goals exact iS _
def arC(n:Nat)(hn:n<18446744073709551616):dA G bE 262 [.v (.int .u64 (n:Int))] (zi 20):=by
 refine dX (awT.go ?_);refine wy ?_;refine o9 (n:=n+1) (λm e h=>∃(i k:Nat) (t:List UInt8),m=(if i=0 then k+1 else k)/\i<=20/\k<10^(20-i)/\t.length=i/\k<18446744073709551616/\e=[(0,.v (.int .u64 (k:Int))),(3,bu t),(4,bq i)]/\h=[]) ⟨0,n,[],rfl,aa,aa,rfl,hn,rfl,rfl⟩ ?_;rintro m e h ⟨i,k,t,rfl,Q,S,ht,hk2,rfl,rfl⟩;have e1:dF .rem (.v (.int .u64 (k:Int))) (.v (.int .u64 10))=a_ (.v (.int .u64 ((k:Int).tmod 10))):=by rw[TA _ _ _ ag]
 have e2:dF .quo (.v (.int .u64 (k:Int))) (.v (.int .u64 10))=a_ (.v (.int .u64 ((k/10:Nat):Int))):=by
  rw[Tz _ _ _ ag,Ee];congr 4;rw[Int.tdiv_eq_ediv_of_nonneg aa];omega
 have dc:∀x:Int,Kf (.sl [.v (.int .u8 x)] .exact)=a_ (bu [uG x.toNat]):=λx=>rfl;have eL:∀x:Int,dF .add (bu [uG x.toNat]) (bu t)=a_ (bu ([uG x.toNat]++t)):=λx=>uQ ah;have next:(i=0\/0<k)->i<20/\k/10<10^(20-(i+1))/\(if i+1=0 then k/10+1 else k/10)<(if i=0 then k+1 else k):=by
  intro T;have Vm:i<20:=by
   rcases d_ i 20 with z|z
   exact z;have:i=20:=aa
   subst this;simp at S;omega
  refine⟨Vm,?_,?_⟩;have:20-i=20-(i+1)+1:=aa
  rw[this,Nat.pow_succ] at S;omega;rw[if_neg aa];split;omega
  rcases T with z|z
  omega;omega
 refine wy ?_
 repeat' ((refine ba (λq'=>?_) λq'=>?_)<;>refine p5 @e1 @e2 @dc @eL @zk ?_)
 all_goals first
  |exact rJ aa
  |(obtain⟨cg,z2,z3⟩:=next aa
    exact⟨_,z3,i+1,k/10,_,rfl,aa,z2,ah,aa,rfl,trivial⟩)
def adO(n:Int)(h0:0<=n)(Y:n<18446744073709551616):dA G bE 262 [.v (.int .u64 n)] (zi 20):=by
 have:=arC (G:=G) n.toNat aa
 rwa [Int.toNat_of_nonneg h0] at this
def Za(n:Int):dA G bE 242 [.v (.int .i64 n)] (zi 21):=by
 refine dX (ayh.go ?_);have aAj:∀x:Int,EP .neg (.v (.int .i64 x))=a_ (.v (.int .i64 (dy.wrap (0-x)))):=λx=>rfl;refine wy ?_;refine c_ (λq=>?_) λq=>?_;refine wy ?_;refine ek (adO _ (Sx _).1 (Sx _).2) ?_;rintro r ⟨t,rfl,ht⟩;have a1:dF .add (.v (.string ⟨[45].toArray⟩)) (bu t)=a_ (bu ([45]++t)):=uQ (a:=[45]) ah;refine wy ?_;exact rJ ah;refine ek (adO _ (Sx _).1 (Sx _).2) ?_;rintro r ⟨t,rfl,ht⟩;refine wy ?_;exact rJ aa
def aAu(s:List UInt8)(hs:s.length<=1000000000):dA G bE 202 [bu s] Oa:=by
 refine dX (axv.go ?_)
 rcases Ct s.length with h0|h0
 obtain rfl:=nF h0;have l0:∀J,qX (bu []) J=a_ (.v (.int .i64 0),J):=λ_=>rfl;refine wy ?_;exact wF ag ag;have z0:((s.length:Int)==0)=bf:=by simp;intro e;rw[e] at h0;simp at h0
 have c0:wk (bu s) (.v (.int .i64 0))=a_ (.v (.int .u8 (oc s 0:Int))):=wz (i:=0) h0;refine wy (cL (λq=>?_) λq=>?_);refine wy ?_;exact wF ag ag;refine wy ?_;refine dx (λi e h=>∃m:Int,e=[(0,bu s),(4,.v (.int .u64 m)),(5,bq i)]/\h=[]) s.length ⟨0,rfl,rfl⟩ ?_ ?_
 · rintro i e h Q ⟨m,rfl,rfl⟩
   refine wy ?_
   repeat' refine ba (λq'=>?_) λq'=>?_
   all_goals first
    |exact wF ag ag
    |exact⟨_,rfl,trivial⟩
 · rintro e h ⟨m,rfl,rfl⟩
   refine wy (cL (λbt=>?_) λbt=>?_)
   all_goals
    refine wy ?_;refine ek (Za _) ?_;rintro r ⟨t,rfl,ht⟩;refine wy ?_;refine c_ (λbT=>?_) λbT=>?_;exact wF ag ag;exact wF (anX _).1 (anX _).2
def ZY(s:List UInt8)(hs:s.length<=1000000000):dA G bE 143 [bu s] (J0 (-1) 999):=by
 refine dX (axQ.go ?_);refine wy ?_;refine ek (aAu s hs) ?_;rintro r ⟨n,b,rfl,Y,V⟩;refine wy ?_;cases b with
 |false=>
  refine wy ?_;exact tU ag ag
 |true=>
  refine wy ?_
  repeat' refine ba (λq'=>?_) λq'=>?_
  all_goals first
   |exact tU ag ag
   |exact tU aa aa
def Xq(s:List UInt8)(hs:s.length<=100000):dA G bE 144 [bu s] (N7 100001):=by
 refine dX (axR.go ?_);have fin:∀(J:List br) (a:Bool) (v v':bg) (b:Bool),b8 J v v'->iR 100001 v'->∃n bS,cX J n (.bQ [.v (.bool a),v,.v (.bool b)])=a_ bS/\N7 100001 bS:=λJ a v v' b hf hv=>by
  obtain⟨n,hn⟩:=(fD (bG (bH (.bool a)) (bG hf (bG (bH (.bool b)) cW))):b8 J _ _).done;exact⟨n,_,hn,a,v',b,rfl,hv⟩
 refine wy (cL (λq=>?_) λq=>?_);exact wy (fin _ _ _ _ _ eB (yZ _));refine wy ?_;refine dx (λi e h=>∃(l:List (List UInt8)) (bx:bg) (a:Nat),e=[(0,bu s),(5,bx),(6,bq a),(7,bq i)]/\a<=i/\l.length<=i/\cV h bx (l.map bu) 1 9) (s.length+1) ⟨[],.bp,0,rfl,ck _,ck _,sr _ _ _⟩ ?_ ?_
 · rintro i e h Q ⟨l,bx,a,rfl,ha,hl,hA⟩
   obtain⟨v',y1,fK,lI⟩:=CN hA CW;refine wy ?_
   repeat' refine ba (λq'=>?_) λq'=>?_
   all_goals first
    |exact⟨l,bx,a,rfl,aa,aa,hA⟩
    |(have c1:=λJ=>OX (l:=s) (i:=a) (j:=i) ha aa J
      have hw:((s.take i).drop a).length<=1000000000:=ah
      refine wy ?_;refine cy.Yz (XS _ hw) ?_;rintro r ⟨b,rfl⟩;cases b with
      |false=>
       exact wy (fin _ _ _ _ _ b8.bp (iR.nil _))
      |true=>
       refine wy ?_;refine cy.Yz (PS y1 aa _) ?_;rintro r ⟨b,rfl⟩;cases b with
       |true=>
        exact wy (fin _ _ _ _ _ b8.bp (iR.nil _))
       |false=>
        obtain⟨cj,g,e1,fo,_⟩:=ni (x:=bu ((s.take i).drop a)) (b6:=16) hA (yy l) rfl ag ag ah;have ab:e9 1 [bu ((s.take i).drop a)]=some (.sl [bu ((s.take i).drop a)] .exact):=rfl;refine wy ?_;exact⟨l++[(s.take i).drop a],cj,i+1,rfl,aa,ah,by rw[List.map_append];exact fo⟩)
 rintro e h ⟨l,bx,a,rfl,ha,hl,hA⟩;refine wy ?_;obtain⟨v',f1,f2⟩:=TI (n:=100001) hA aa;exact fin _ _ _ _ _ f1 f2
def azi(s:List UInt8)(hs:s.length<=1000000000):dA G bE 37 [bu s] (aa_ 65536 65536):=by
 refine dX (aw2.go ?_);refine wy (cL (λq=>?_) λq=>?_);exact wy (UY eB (CG.nil _ _));have oA:s.length<=65536:=au
 refine wy ?_;refine dx (λi e h=>∃(l:List (List UInt8)) (bx:bg) (a:Nat),e=[(0,bu s),(5,bx),(6,bq a),(7,bq i)]/\a<=i/\l.length<=i/\(∀w∈l,w.length<=65536)/\cV h bx (l.map bu) 1 9) s.length ⟨[],.bp,0,rfl,ck _,ck _,af,sr _ _ _⟩ ?_ ?_;rintro i e h Q ⟨l,bx,a,rfl,ha,hl,hw,hA⟩;have c1:=λJ=>OX (l:=s) (i:=a) (j:=i) ha aa J;obtain⟨cj,g,e1,fo,_⟩:=ni (x:=bu ((s.take i).drop a)) (b6:=16) hA (yy l) rfl ag ag ah;have ab:e9 1 [bu ((s.take i).drop a)]=a_ (.sl [bu ((s.take i).drop a)] .exact):=rfl;refine nD ?_;refine c_ (λq=>?_) λq=>?_;refine wy ?_;refine⟨l++[(s.take i).drop a],cj,i+1,rfl,aa,ah,?_,aHz⟩;intro w hm
 rcases gA.1 hm with z|z
 exact hw w z;rw[dR.1 z];simp;omega;exact⟨l,bx,a,rfl,aa,aa,hw,hA⟩;rintro e h ⟨l,bx,a,rfl,ha,hl,hw,hA⟩;have ln:=EO hA;refine wy ?_;refine c_ (λq=>?_) λq=>?_;exact UY eB (CG.nil _ _);obtain⟨v',f1,f2⟩:=ap2 (m:=65536) (n:=65536) hA aa hw;exact UY f1 f2
end
end
section
variable{v w:bg}{l m:List Int}
def J1(r:bg):Prop:=∃l:List Int,cG r (l.map bq)/\l.length<=256/\∀x∈l,0<=x/\x<256
@[go_sem]def Ge(l:List Int):c8 1 (l.map bq)=bh:=by
 rw[c8,eO];intro x I;obtain⟨t,ht,rfl⟩:=dZ.1 I;rfl
def TJ{J:List br}(h:cV J v (l.map bq) 1 3)(Y:l.length<=256)(V:∀x∈l,0<=x/\x<256):∃k bS,cX J k v=a_ bS/\J1 bS:=by
 rcases h with⟨rfl,z⟩|⟨id,rfl,_⟩
 obtain⟨n,hn⟩:=(eB:b8 J _ _).done;exact⟨n,_,hn,[],bF ⟨rfl,rfl⟩,af,af⟩;obtain⟨n,hn⟩:=(gP (t:=.tok id) (iW (f:=bq) (l:=l) λa _=>bH _):b8 J _ _).done;exact⟨n,_,hn,l,bD rfl,Y,V⟩
section
variable{G:Cells}
def aqj(c:Int):dA G bE 80 [.v (.int .u8 c)] jD:=by
 refine dX (axA.go ?_);refine wy ?_;refine fk (Zk c) ?_;refine wy ?_;cases O:(decide ((97:Int)<=c)&&decide (c<=122))<;>refine wy ?_
 all_goals repeat' refine ba (λq'=>?_) λq'=>?_
 all_goals exact iS _
def VJ(hv:cG v (l.map bq))(hl:l.length<=1000000000)(x:Int):dA G bE 152 [v,bq x] jD:=by
 refine dX (axX.go ?_);have ln:=hv.cN;rw[dj] at ln;refine wy ?_;refine dx (λi e h=>e=[(0,v),(1,bq x),(5,bq i)]/\h=[]) l.length ⟨rfl,rfl⟩ ?_ ?_
 · rintro i e h Q ⟨rfl,rfl⟩
   obtain⟨s,hs⟩:=cO Q;have e1:cA 1 v (.v (.int .i64 (i:Int)))=a_ (.fp [bq s] 0):=hv.cI (x:=bq s) aJr rfl;unfold bq at e1;refine wy ?_
   repeat' refine ba (λq'=>?_) λq'=>?_
   exact iS _;exact⟨rfl,trivial⟩
 rintro e h ⟨rfl,rfl⟩;exact wy (iS _)
def aCj(hv:cG v (l.map bq))(hw:cG w (m.map bq))(hl:l.length<=1000000000)(hm:m.length<=1000000000):dA G bE 151 [v,w] jD:=by
 refine dX (aye.go ?_);have ln:=hv.cN;rw[dj] at ln;have lm:=hw.cN;rw[dj] at lm;refine wy (cL (λq=>?_) λq=>?_);exact wy (iS _);have agb:l.length=m.length:=au
 refine wy ?_;refine dx (λi e h=>e=[(0,v),(1,w),(5,bq i)]/\h=[]) l.length ⟨rfl,rfl⟩ ?_ ?_
 · rintro i e h Q ⟨rfl,rfl⟩
   obtain⟨s,hs⟩:=cO Q;obtain⟨t,ht⟩:∃s,m[i]?=a_ s:=⟨m[i],cx aa⟩;have e1:cA 1 v (.v (.int .i64 (i:Int)))=a_ (.fp [bq s] 0):=hv.cI (x:=bq s) aJr rfl;have e2:cA 1 w (.v (.int .i64 (i:Int)))=a_ (.fp [bq t] 0):=hw.cI (x:=bq t) (by simp[ht]) rfl;unfold bq at e1 e2;refine wy ?_
   repeat' refine ba (λq'=>?_) λq'=>?_
   exact iS _;exact⟨rfl,trivial⟩
 rintro e h ⟨rfl,rfl⟩;exact wy (iS _)
def azl(hv:cG v (l.map bq))(T:eP v)(hl:l.length<=1000000000):dA G bE 207 [v] J1:=by
 refine dX (ax7.go ?_);refine wy ?_;refine dx (λi e h=>∃(o:List Int) (bx:bg),e=[(0,v),(3,bx),(4,bq i)]/\o.length<=i/\(∀x∈o,0<=x/\x<256)/\cV h bx (o.map bq) 1 3) 256 ⟨[],.bp,rfl,af,af,sr _ _ _⟩ ?_ ?_;rintro i e h Q ⟨o,bx,rfl,ho,I,hA⟩;obtain⟨cj,g,e1,fo,_⟩:=ni (x:=bq i) (b6:=8) hA (Ge o) rfl ag ag ah;have Ua:decide ((i:Int)<256)=bh:=ah
 unfold bq at e1;refine wy ?_;refine ek (VJ hv hl i) ?_;rintro r ⟨b,rfl⟩;cases b with
 |false=>
  refine wy ?_;exact⟨o,bx,rfl,aa,I,hA⟩
 |true=>
  refine wy ?_;refine⟨o++[(i:Int)],cj,rfl,ah,?_,aHz⟩;intro x hm
  rcases gA.1 hm with z|z
  exact I x z;rw[dR.1 z];omega
 rintro e h ⟨o,bx,rfl,ho,I,hA⟩;have Ua:decide (((256:Nat):Int)<256)=bf:=ag
 exact wy (TJ hA ho I)
def aEf(hv:cG v (l.map bq))(hw:cG w (m.map bq))(T:eP v)(hd:eP w)(hl:l.length<=1000000000)(hm:m.length<=1000000000)(op:Int):dA G bE 88 [v,w,bq op] J1:=by
 refine dX (axE.go ?_);refine wy ?_;refine dx (λi e h=>∃(o:List Int) (bx:bg),e=[(0,v),(1,w),(2,bq op),(7,bx),(8,bq i)]/\o.length<=i/\(∀x∈o,0<=x/\x<256)/\cV h bx (o.map bq) 1 3) 256 ⟨[],.bp,rfl,af,af,sr _ _ _⟩ ?_ ?_
 · rintro i e h Q ⟨o,bx,rfl,ho,I,hA⟩
   obtain⟨cj,g,e1,fo,_⟩:=ni (x:=bq i) (b6:=8) hA (Ge o) rfl ag ag ah;have Ua:decide ((i:Int)<256)=bh:=ah
   unfold bq at e1;refine wy ?_;refine ek (VJ hv hl i) ?_;rintro r ⟨b,rfl⟩;refine wy ?_;refine ek (VJ hw hm i) ?_;rintro r ⟨b2,rfl⟩;have no:∃(o:List Int) (jc:bg),[(0,v),(1,w),(2,cU (.int .i64 op)),(7,bx),(8,cU (.int .i64 ((i+1:Nat):Int)))]=[(0,v),(1,w),(2,cU (.int .i64 op)),(7,jc),(8,cU (.int .i64 ((i+1:Nat):Int)))]/\o.length<=i+1/\(∀x∈o,0<=x/\x<256)/\cV h jc (o.map bq) 1 3:=⟨o,bx,rfl,aa,I,hA⟩;have so:∃(o:List Int) (jc:bg),[(0,v),(1,w),(2,cU (.int .i64 op)),(7,cj),(8,cU (.int .i64 ((i+1:Nat):Int)))]=[(0,v),(1,w),(2,cU (.int .i64 op)),(7,jc),(8,cU (.int .i64 ((i+1:Nat):Int)))]/\o.length<=i+1/\(∀x∈o,0<=x/\x<256)/\cV g jc (o.map bq) 1 3:=by
    refine⟨o++[(i:Int)],cj,rfl,ah,?_,aHz⟩;intro x hm
    rcases gA.1 hm with z|z
    exact I x z;rw[dR.1 z];omega
   cases b<;>cases b2<;>refine wy ?_
   all_goals repeat' ((refine ba (λq'=>?_) λq'=>?_)<;>refine p5 @zk @e1 @ZS @yV @uC ?_)
   all_goals first
    |(exfalso;omega)
    |exact no
    |exact so
 rintro e h ⟨o,bx,rfl,ho,I,hA⟩;have Ua:decide (((256:Nat):Int)<256)=bf:=ag
 exact wy (TJ hA ho I)
end
end
end Go.Proofs.YtgfjdechmbleeaaGreatDoor

/- Part 9 of a proof. No condition. -/
import Derived.Test.YtkpjaeffojibmaaGreatDoorZ8
set_option linter.unusedVariables false
set_option linter.unusedSimpArgs false
set_option linter.defProp false
open Bool renaming and_eq_true->fQ,false->bf,not_false->va,not_true->zH,true->bh
open Go.bM.bg renaming agg->dG,cells->jK,mp->cD,one->cr,v->cI
open Go.bM.cT renaming nil->sW
open Go.bM.br renaming cells->bw,bW->nX
open Go.bM.s5 renaming mk->cN
open Go.bM.cq renaming mono->ck,pu->dX,ZE->ei,pure->hU,aDt->jy
open Go.bM.iE renaming mono->gT
open Go.bM.jM renaming mono->vb
open Go.bM renaming Clean->eM,marks->Kp
open Go.bM.b7 renaming agg->kf,bp->ez,sl->gU,bQ->fB,v->bH
open Go.bM.fm renaming append->Bo,cons->bG,map->iC,nil->cX
open Go.Fn renaming func->qA
open Go.IntKind renaming bits->Ks,i64->de,signed->Kt,u64->HA,wrap->abq
open Go.Lib renaming lens->zK
open Go.Proofs.Tryz renaming prog->bC
open Go.Proofs.YtkpjaeffojibmaaGreatDoor.Ext renaming app->lX,refl->E2
open Go.Proofs.YtkpjaeffojibmaaGreatDoor.jf renaming nil->zM
open Go.Value renaming int->ye
open List renaming all_cons->pY,all_eq_true->eP,all_nil->sY,append_assoc->dR,append_nil->gd,cons_append->lY,drop_of_length_le->sZ,drop_succ_cons->Bu,drop_zero->o9,eq_nil_of_length_eq_zero->nZ,flatten_cons->yh,getElem?_append_right->fY,getElem?_cons_zero->nA,getElem?_eq_getElem->cz,getElem?_eq_none_iff->ap1,getElem?_eq_some_iff->cL,getElem?_map->fR,getElem?_set_ne->bD,getElem?_set_self->bU,getElem_mem->abL,length_append->ec,length_cons->eW,length_drop->tX,length_map->cM,length_nil->hY,length_set->wG,length_singleton->pZ,map_append->gf,map_cons->fG,map_drop->ON,map_nil->lu,mem_append->gj,mem_cons->fS,mem_cons_of_mem->s3,mem_cons_self->yo,mem_map->eg,mem_of_getElem?->cG,mem_of_mem_drop->tY,mem_or_eq_of_mem_set->T3,mem_singleton->dP,nil_append->gN,not_mem_nil->p4,set_append_right->ap8,set_eq_take_append_cons_drop->ap9,sum_cons->zQ,take_length->n3,take_of_length_le->mA,take_zero->oG
open Nat renaming add_assoc->n5,add_zero->vc,eq_zero_or_pos->CV,le_refl->cj,le_trans->h_,lt_or_ge->en,sub_self->mU,zero_add->gk,zero_le->js,zero_lt_succ->wN
open Ne renaming symm->eX
open Option renaming none->bn,some->a_
open Or renaming inl->bE,inr->bF
open UInt8 renaming ofNat->vf
namespace Go.Proofs.YtkpjaeffojibmaaGreatDoor
open Go Go.bM Go.RowKit
section
variable{a b k:Nat}{h:List br}{x:bg}{apg:List UInt8}{has:Bool}
def eH(nm:List UInt8)(cm:bg)(i p cg:Bool)(a:Int)(al:Bool)(mv:bg)(ex:List UInt8):List bg:=[bu nm,cm,i,p,cg,a,al,mv,bu ex]
def wY(k:Nat)(h:List br):Prop:=∃(nm:List UInt8) (cm:bg) (i p cg:Bool) (a:Int) (al:Bool) (mv:bg) (ex:List UInt8) (gs:List (List UInt8)),h[k]?=a_ (.cells (eH nm cm i p cg a al mv ex) bf)/\cT h cm (gs.map bu) 1 9/\gs.length<=4/\jf 100001 mv/\ex.length<=40000
def oH(k:Nat)(h h':List br):Prop:=h.length<=h'.length/\∀(j:Nat) b,j≠k->(∀c,b≠.tok c 1 9)->h[j]?=a_ b->h'[j]?=a_ b
def oH.refl(k)(h):oH k h h:=⟨cj _,λ_ _ _ _ q=>q⟩
def oH.trans{a b c}(h:oH k a b)(q:oH k b c):oH k a c:=⟨h_ h.1 q.1,λj x hj hn e=>q.2 j x hj hn (h.2 j x hj hn e)⟩
def oH.set{x}:oH k h (h.set k x):=⟨af,λj b hj _ q=>aLp⟩
def oH.app{l}:oH k h (h++l):=⟨af,λ_ _ _ _ q=>bT q⟩
section
variable{k:Nat}{h:List br}{nm ex:List UInt8}{cm mv:bg}{i p cg al:Bool}{a:Int}{gs:List (List UInt8)}
def jX{v}{xs}{n}{e}{Z cs'}(hA:cT h v xs n e)(S:h[k]?=a_ (.cells Z bf)):cT (h.set k (.cells cs' bf)) v xs n e:=by
 rcases hA with z|⟨id,b_,z2⟩
 exact bE z;exact bF ⟨id,b_,by rw[bD (by rintro rfl;rw[S] at z2;cases z2)];exact z2⟩
@[go_sem]def we(O:h[k]?=a_ (.cells (eH nm cm i p cg a al mv ex) bf)):bz h bf 1 (.mp k 0)=a_ (bu nm)/\bz h bf 1 (.mp k 1)=a_ cm/\bz h bh 9 (.mp k 0)=a_ (.agg (eH nm cm i p cg a al mv ex)):=by
 simp only[bz,O];exact⟨rfl,rfl,rfl⟩
@[go_sem]def al1(O:h[k]?=a_ (.cells (eH nm cm i p cg a al mv ex) bf))(x:Bool):bL h 1 (.mp k 2) x=a_ (h.set k (.cells (eH nm cm x p cg a al mv ex) bf)):=aV
@[go_sem]def al2(O:h[k]?=a_ (.cells (eH nm cm i p cg a al mv ex) bf))(x:Bool):bL h 1 (.mp k 3) x=a_ (h.set k (.cells (eH nm cm i x cg a al mv ex) bf)):=aV
@[go_sem]def al3(O:h[k]?=a_ (.cells (eH nm cm i p cg a al mv ex) bf))(x:Bool):bL h 1 (.mp k 4) x=a_ (h.set k (.cells (eH nm cm i p x a al mv ex) bf)):=aV
@[go_sem]def al4(O:h[k]?=a_ (.cells (eH nm cm i p cg a al mv ex) bf))(x:Int):bL h 1 (.mp k 5) x=a_ (h.set k (.cells (eH nm cm i p cg x al mv ex) bf)):=aV
@[go_sem]def Y7(O:h[k]?=a_ (.cells (eH nm cm i p cg a al mv ex) bf))(x:Bool):bL h 1 (.mp k 6) x=a_ (h.set k (.cells (eH nm cm i p cg a x mv ex) bf)):=aV
@[go_sem]def al5(O:h[k]?=a_ (.cells (eH nm cm i p cg a al mv ex) bf))(x):bL h 1 (.mp k 8) (bu x)=a_ (h.set k (.cells (eH nm cm i p cg a al mv x) bf)):=aV
@[go_sem]def Y8(O:h[k]?=a_ (.cells (eH nm cm i p cg a al mv ex) bf))(I:cr x=bh)(T:x.cells=[x]):bL h 1 (.mp k 7) x=a_ (h.set k (.cells (eH nm cm i p cg a al x ex) bf)):=by
 simp only[bL,O,fq,T];simp[I,dV,eH]
@[go_sem]def Y6(O:h[k]?=a_ (.cells (eH nm cm i p cg a al mv ex) bf))(I:cr x=bh)(T:x.cells=[x]):bL h 1 (.mp k 1) x=a_ (h.set k (.cells (eH nm x i p cg a al mv ex) bf)):=by
 simp only[bL,O,fq,T];simp[I,dV,eH]
end
def HV(G:Cells)(f:FuncId):Prop:=∀(k:Nat) (s:List UInt8) (h:List br),s.length<=100000->wY k h->cq G bC f [.mp k 0,bu s] h λr h'=>jL r/\wY k h'/\oH k h h'
section
variable{G:Cells}
def aDU:HV G 249:=by
 rintro k s h hs ⟨nm,cm,i,p,cg,a,al,mv,ex,gs,O,hA,hg,hm,he⟩;refine ajS.go ?_;refine wx ?_;exact⟨⟨_,rfl⟩,⟨nm,cm,bh,p,cg,a,al,mv,ex,gs,bU (gl O),jX hA O,hg,hm,he⟩,oH.set⟩
def aDV:HV G 250:=by
 rintro k s h hs ⟨nm,cm,i,p,cg,a,al,mv,ex,gs,O,hA,hg,hm,he⟩;refine ajT.go ?_;refine wx ?_;exact⟨⟨_,rfl⟩,⟨nm,cm,i,bh,cg,a,al,mv,ex,gs,bU (gl O),jX hA O,hg,hm,he⟩,oH.set⟩
def aDW(cA:gm G)(hI:Bz G):HV G 251:=by
 rintro k s h hs ⟨nm,cm,i,p,cg,a,al,mv,ex,gs,O,hA,hg,hm,he⟩;refine ajU.go ?_;refine wy ?_;refine ei (ao8 cA hI s aa) ?_;rintro r ⟨n,b,rfl,Y,V⟩;refine wx ?_;exact⟨⟨_,rfl⟩,⟨nm,cm,i,p,cg,n,al,mv,ex,gs,bU (gl O),jX hA O,hg,hm,he⟩,oH.set⟩
def aDX(cA:gm G):HV G 252:=by
 rintro k s h hs ⟨nm,cm,i,p,cg,a,al,mv,ex,gs,O,hA,hg,hm,he⟩;refine ajV.go ?_;refine wy ?_;refine ei (alg cA s hs) ?_;rintro r ⟨x,v,b,rfl,hv⟩;have ju:=bU (a:=.cells (eH nm cm i p cg a x mv ex) bf) (gl O);refine mw (Y7 O) (Y8 ju hv.one.1 hv.one.2) ?_;exact⟨⟨_,rfl⟩,⟨nm,cm,i,p,cg,a,x,v,ex,gs,bU (gl ju),jX (jX hA O) ju,hg,hv,he⟩,oH.set.trans oH.set⟩
def aDT(cA:gm G):HV G 248:=by
 rintro k s h hs ⟨nm,cm,i,p,cg,a,al,mv,ex,gs,O,hA,hg,hm,he⟩;refine ajR.go ?_;obtain⟨v',y1,fV,lW⟩:=Ac hA Dt;have ln:∀J,cH cm J=a_ (.v (.int .i64 (gs.length:Int)),J):=λJ=>by
  rcases hA with⟨rfl,z⟩|⟨id,rfl,_⟩
  have:gs=[]:=aN
  subst this;rfl;simp[ot,goInt]
 refine wy ?_;refine ei (XS cA s aa) ?_;rintro r ⟨b,rfl⟩;cases b with
 |false=>
  refine wy ?_;exact⟨⟨_,rfl⟩,⟨nm,cm,i,p,cg,a,al,mv,ex,gs,O,hA,hg,hm,he⟩,oH.refl _ _⟩
 |true=>
  refine iB ((we O).2.1) ?_;refine dX (Lo y1 lW aa s) ?_;refine wy (cN (λq=>?_) λq=>?_);refine wy ?_;exact⟨⟨_,rfl⟩,⟨nm,cm,i,p,cg,a,al,mv,ex,gs,O,hA,hg,hm,he⟩,oH.refl _ _⟩;refine mw @q ((we O).2.1) (cN (λbt=>?_) λbt=>?_);refine wy ?_;exact⟨⟨_,rfl⟩,⟨nm,cm,i,p,cg,a,al,mv,ex,gs,O,hA,hg,hm,he⟩,oH.refl _ _⟩;have WZ:gs.length<4:=aKJ
  obtain⟨cl,g2,e2,fJ,bR,bK,hk2⟩:=nc (x:=bu s) (b9:=16) hA (zl gs) rfl ag ag ah;have gW:∀{j} {b:br},h[j]?=a_ b->(∀c,b≠.tok c 1 9)->g2[j]?=a_ b:=λq O=>hk2 _ _ q λxs z=>by
   rcases hA with⟨b_,_⟩|⟨id,b_,z2⟩
   rw[b_] at z;cases z;rw[b_] at z;cases z;rw[q] at z2;cases z2;exact O _ rfl
  have ju:=gW O af
  have ho:cr cl=bh/\cl.cells=[cl]:=by rcases fJ with⟨rfl,_⟩|⟨_,rfl,_⟩<;>exact⟨rfl,rfl⟩
  have ab:eV 1 [bu s]=a_ (.sl [bu s] .exact):=rfl;refine mw ((we O).2.1) (Y6 ju ho.1 ho.2) ?_;refine⟨⟨_,rfl⟩,⟨nm,cl,i,p,cg,a,al,mv,ex,gs++[s],bU (gl ju),?_,ah,hm,he⟩,?_⟩;rw[gf];exact jX fJ ju;exact oH.trans ⟨bK,λj b _ hn q=>gW q hn⟩ oH.set
def mm(w:List UInt8)(b:Bool)(f:FuncId):List bg:=[bu w,b,.fn (.func f) [] []]
def Ew:List (List bg):=[mm [103,114,111,117,112] bh 248,mm [105,110,108,105,110,101] bf 249,mm [112,105,99,107] bf 250,mm [97,116,116,114] bh 251,mm [109,97,114,107,115] bh 252]
def Zl(h):cq G bC 187 [] h λr h'=>r=.sl (Ew.map dG) .exact/\h'=h:=by
 refine ajn.go ?_;have f1:∀(w) (b:Bool) (f),dJ [.v (.string ⟨[].toArray⟩),bf,.v .nilFunc] [(0,1,.v (.string ⟨w.toArray⟩)),(1,1,b),(2,1,.fn (.func f) [] [])]=a_ (mm w b f):=λw b f=>rfl;have ab:eV 3 [.agg (mm [103,114,111,117,112] bh 248),.agg (mm [105,110,108,105,110,101] bf 249),.agg (mm [112,105,99,107] bf 250),.agg (mm [97,116,116,114] bh 251),.agg (mm [109,97,114,107,115] bh 252)]=a_ (.sl (Ew.map dG) .exact):=rfl;exact wx tt
def ayj(ha:h[a]?=a_ (.cells [bu apg] bf))(O:h[b]?=a_ (.cells [has] bf))(w)(x)(f):
  cq G bC 188 [.agg (mm w x f),.mp a 0,.mp b 0] h λr h'=>jL r/\h'=h++[.cells (mm w x f) bf]:=by
 refine ajo.go ?_;have m1:(h++[bw (mm w x f) bf])[h.length]?=a_ (.cells (mm w x f) bf):=af
 have l0:bz (h++[bw (mm w x f) bf]) bf 1 (.mp h.length 0)=a_ (bu w)/\bz (h++[bw (mm w x f) bf]) bf 1 (.mp h.length 1)=a_ (.v (.bool x)):=by
  simp only[bz,m1];exact⟨rfl,rfl⟩
 refine wy ?_;refine wy (cN (λq=>?_) λq=>?_);have e1:K3 bf (.v (.bool x)) (.v (.bool has))=a_ (.v (.bool (x==has))):=by cases x<;>cases has<;>rfl
 refine wx ?_;exact⟨⟨_,rfl⟩,trivial⟩;refine wx ?_;exact⟨⟨_,rfl⟩,trivial⟩
def ax3(ha:h[a]?=a_ (.cells [bu apg] bf))(O:h[b]?=a_ (.cells [has] bf)):
  cq G bC 186 [.sl (Ew.map dG) .exact,.fn (.func 188) [] [.mp a 0,.mp b 0]] h λr h'=>(∃n:Int,r=n/\(n<0\/∃j:Nat,n=(j)/\j<5))/\∃l,h'=h++l:=by
 refine ajm.go ?_;refine wy ?_;refine dj (λi e g=>e=[(0,.sl (Ew.map dG) .exact),(1,.fn (.func 188) [] [.mp a 0,.mp b 0]),(7,.v (.int .i64 5)),(8,bq i)]/\∃l,g=h++l) 5 ⟨rfl,[],af⟩ ?_ ?_;rintro i e g Q ⟨rfl,l,rfl⟩;have c1:decide ((i:Int)<5)=bh:=ah
 obtain⟨w,x,f,I⟩:∃w x f,(Ew.map dG)[i]?=a_ (.agg (mm w x f)):=by
  match i,Q with
  |0,_=>exact⟨_,_,_,rfl⟩
  |1,_=>exact⟨_,_,_,rfl⟩
  |2,_=>exact⟨_,_,_,rfl⟩
  |3,_=>exact⟨_,_,_,rfl⟩
  |4,_=>exact⟨_,_,_,rfl⟩
 have e1:ct 3 (.sl (Ew.map dG) .exact) i=a_ (.fp (mm w x f) 0):=lD I rfl;have e2:∀J,bz J bh 3 (.fp (mm w x f) 0)=a_ (.agg (mm w x f)):=λJ=>rfl;refine wy (ck (ayj (bT ha) (bT O) w x f) ?_);rintro r g2 ⟨⟨y,rfl⟩,rfl⟩;cases y with
 |true=>
  refine wy ?_;exact⟨⟨_,rfl,bF ⟨i,rfl,Q⟩⟩,l++[.cells (mm w x f) bf],aKg⟩
 |false=>
  refine wx ?_;exact⟨rfl,l++[.cells (mm w x f) bf],aKg⟩
 rintro e g ⟨rfl,l,rfl⟩;have c1:decide (((5:Nat):Int)<5)=bf:=rfl;refine wy ?_;exact⟨⟨_,rfl,bE ag⟩,l,rfl⟩
end
end
section
variable{ex nm:List UInt8}{cm mv:bg}{al i cg p:Bool}{a:Int}{k:Nat}{h:List br}
def vj(x:List bg):Prop:=∃nm cm i p cg a al mv ex,x=eH nm cm i p cg a al mv ex/\jf 4 cm/\jf 100001 mv/\ex.length<=40000
def Us(r:bg):Prop:=∃(x:List bg) (b:Bool),r=.bQ [.agg x,b]/\vj x
def Ns{J}{b:Bool}{gs:List (List UInt8)}(hA:cT J cm (gs.map bu) 1 9)(hg:gs.length<=4)(hm:jf 100001 mv)(he:ex.length<=40000):
  ∃n bV,di J n (.bQ [.agg (eH nm cm i p cg a al mv ex),b])=a_ bV/\Us bV:=by
 obtain⟨v',b_,z2⟩:=UO hA hg;obtain⟨n,hn⟩:=(fB (bG (kf (bG (bH _) (bG b_ (bG (bH _) (bG (bH _) (bG (bH _) (bG (bH _) (bG (bH _) (bG (hm.fz J) (bG (bH _) cX)))))))))) (bG (bH (.bool b)) cX)):b7 J (.bQ [.agg (eH nm cm i p cg a al mv ex),b]) _).done;exact⟨n,_,hn,_,b,rfl,nm,v',i,p,cg,a,al,mv,ex,rfl,z2,hm,he⟩
def wY.app{x}(s:wY k h):wY k (h++x):=by
 obtain⟨nm,cm,i,p,cg,a,al,mv,ex,gs,O,hA,D⟩:=s;exact⟨nm,cm,i,p,cg,a,al,mv,ex,gs,bT O,hA.ext,D⟩
def wY.wk{j}{b b'}(s:wY k h)(hj:h[j]?=a_ b)(O:∀c,b≠.tok c 1 9)(S:j≠k):wY k (h.set j b'):=by
 obtain⟨nm,cm,i,p,cg,a,al,mv,ex,gs,hb',hA,D⟩:=s;refine⟨nm,cm,i,p,cg,a,al,mv,ex,gs,by rw[bD S];exact hb',?_,D⟩
 rcases hA with z|⟨id,b_,z2⟩
 exact bE z;exact bF ⟨id,b_,by rw[bD (by rintro rfl;rw[hj] at z2;cases z2;exact O _ rfl)];exact z2⟩
@[go_sem]def xO{Z x}(O:h[k]?=a_ (.cells Z bf))(T:Z.length=9)(I:x.length=9)(Y:x.all cr=bh):bL h 9 (.mp k 0) (.agg x)=a_ (h.set k (.cells x bf)):=by
 have e:(dG x).cells=x:=rfl;simp only[bL,O,fq];rw[e,if_pos ⟨I,aa,Y⟩];unfold dV;rw[oG,gN,gk,I,sZ aa,gd]
def GP(hg:cr cm=bh)(hm:cr mv=bh):(eH nm cm i p cg a al mv ex).all cr=bh:=by
 simp only[eH,pY,sY,hg,hm];rfl
def gL:List bg:=eH [] .bp bf bf bf 0 bf .bp []
structure Pk(ls:List (List UInt8)):Prop where
 each:∀w∈ls,w.length<=100000
 all:∀n,zK (ls.drop n)+(ls.drop n).length<=1000000
 len:ls.length<=100000
section
variable{G:Cells}
def aCE(cA:gm G)(hI:Bz G){ls}(hW:Pk ls)(V:2<=ls.length):dM G bC 111 [.sl (ls.map bu) .no] Us:=by
 refine ek (aiL.go ?_);have c6:=hW.len;obtain⟨n1,pQ⟩:∃n,ls[1]?=a_ n:=⟨ls[1],cz aa⟩;have e1:ct 1 (.sl (ls.map bu) .no) (1:Int)=a_ (.fp [bu n1] 0):=lD (x:=bu n1) (by simp[pQ]) rfl;have f1:∀x:List UInt8,dJ gL [(0,1,bu x),(4,1,bh)]=a_ (eH x .bp bf bf bh 0 bf .bp []):=λx=>rfl;have f0:dJ gL []=a_ gL:=rfl;have hz:[cI (.string ⟨[].toArray⟩),.bp,bf,bf,bf,(0:Int),bf,.bp,.v (.string ⟨[].toArray⟩)]=gL:=rfl;have s1:bL [.cells gL bf,.cells gL bf] 9 (.mp 1 0) (.agg (eH n1 .bp bf bf bh 0 bf .bp []))=a_ [.cells gL bf,.cells (eH n1 .bp bf bf bh 0 bf .bp []) bf]:=xO rfl rfl rfl rfl;have cut:∀(n) (J),n<=ls.length->q2 1 (.sl (ls.map bu) .no) (a_ (.v (.int .i64 (n)))) bn bn J=a_ (.sl ((ls.drop n).map bu) .no,J):=λn J hn=>by
  rw[ON];exact S0 aKu Ti J
 have aeK:=λJ=>cut 2 J V;have asa:((2:Nat):Int)=2:=rfl;rw[asa] at aeK;have l2:(ls.drop 2).length=ls.length-2:=tX ..;refine wy ?_;refine dj (λi e h=>e=[(0,.sl (ls.map bu) .no),(2,.mp 0 0),(4,.mp 1 0),(5,.gb 2),(21,.sl ((ls.drop 2).map bu) .no),(22,bq ((ls.length-2:Nat):Int)),(23,bq i)]/\h[0]?=a_ (.cells gL bf)/\wY 1 h/\∃es cB,h[2]?=a_ (.eO es cB)/\Fi es) (ls.length-2)
  ⟨rfl,rfl,⟨n1,.bp,bf,bf,bh,0,bf,.bp,[],[],rfl,bE ⟨rfl,rfl⟩,ag,zM _,ag⟩,[],0,rfl,λe he=>by cases he⟩ ?_ ?_
 rintro i e h Q ⟨rfl,h0,hN,es,cB,hm,hM⟩;obtain⟨w,hw⟩:∃w,(ls.drop 2)[i]?=a_ w:=⟨(ls.drop 2)[i]' aa,cz aa⟩;have Ec:=hW.each w (tY (cG hw));have e2:ct 1 (.sl ((ls.drop 2).map bu) .no) i=a_ (.fp [bu w] 0):=lD (x:=bu w) (by rw[fR,hw];rfl) rfl;refine wy ?_;refine dm (λq=>?_) λq=>?_;have w3:de.wrap ((i)+3)=((i+3:Nat):Int):=by rw[fO aa aa];rfl
 refine wy (jy (ays (ls.drop (i+3)) (hW.all _)) (bX (qI (bE rfl)) dc) ?_);rintro r ⟨t,rfl,ht⟩;refine wy ?_;refine ei (Zv cA t (h_ ht (hW.all _))) ?_;rintro r ⟨v,SC,Aq,rfl,hq⟩;obtain⟨ps,hE⟩:∃ps,s_ v ps:=by
  rcases hq with⟨_,_,ps,hE⟩|⟨_,rfl⟩
  exact⟨ps,hE⟩;exact⟨[],bF ⟨rfl,rfl⟩,λi p h=>au,ag,af⟩
 refine wy (jy (aE5 cA hE) (bX (FA hE) dc) ?_);rintro r ⟨tx,rfl,ahQ⟩;obtain⟨nm,cm,i1,p1,cg,a,al,mv,ex,gs,O,hA,hg,k_,he⟩:=hN;have iT:=bU (a:=.cells (eH nm cm i1 p1 bf a al mv ex) bf) (gl O)
 have ho:cr cm=bh:=az
 have pK:((h.set 1 (.cells (eH nm cm i1 p1 bf a al mv ex) bf)).set 1 (.cells (eH nm cm i1 p1 bf a al mv tx) bf))[0]?=a_ (.cells gL bf):=by rw[bD aa,bD aa];exact h0
 have oB:=xO pK rfl (x:=eH nm cm i1 p1 bf a al mv tx) rfl (GP ho k_.one.1);exact wx (Ns (jX (jX (jX hA O) iT) pK) hg k_ ahQ);refine ei (aeL w 61 aa) ?_;rintro r ⟨a,b,f,rfl,pL,QV⟩;have pN:3<=h.length:=by have:=(gl hm);omega
 have n2:bL (h++[bw [.v (.string ⟨[].toArray⟩)] bf]++[bw [bf] bf]) 1 (.mp h.length 0) (bu a)=a_ (h++[bw [bu a] bf]++[bw [bf] bf]):=by
  rw[q4 rfl (v:=.v (.string ⟨[].toArray⟩)) af];simp
 have oY:bL (h++[bw [bu a] bf]++[bw [bf] bf]) 1 (.mp (h.length+1) 0) f=a_ (h++[bw [bu a] bf]++[bw [f] bf]):=by
  have:=Td (h++[bw [bu a] bf]) bf (x:=f) rfl rfl;simpa using this
 have ka:(h++[bw [bu a] bf]++[bw [f] bf])[h.length]?=a_ (.cells [bu a] bf):=af
 have kb:(h++[bw [bu a] bf]++[bw [f] bf])[h.length+1]?=a_ (.cells [f] bf):=af
 have vH:(h++[bw [bu a] bf]++[bw [f] bf])[0]?=a_ (.cells gL bf):=bT (bT h0);have pP:(h++[bw [bu a] bf]++[bw [f] bf])[2]?=a_ (.eO es cB):=bT (bT hm);have agD:wY 1 (h++[bw [bu a] bf]++[bw [f] bf]):=hN.app.app;refine mw @ec.{0} @gk ?_;generalize h++[bw [bu a] bf]++[bw [f] bf]=g at ka kb vH pP agD⊢;generalize h.length=m at ka kb pN⊢;refine ck (Zl g) ?_;rintro r g' ⟨rfl,rfl⟩;refine wy (ck (ax3 ka kb) ?_);rintro r g2 ⟨⟨fE,rfl,awQ⟩,lx,rfl⟩;have akE:(g'++lx)[m]?=a_ (.cells [bu a] bf):=bT ka;have pK:(g'++lx)[0]?=a_ (.cells gL bf):=bT vH;have DY:(g'++lx)[2]?=a_ (.eO es cB):=bT pP;have iI:wY 1 (g'++lx):=agD.app;generalize g'++lx=g3 at akE pK DY iI⊢;obtain⟨nl,dr⟩:=Nh DY hM a;obtain⟨oO,lF,eS,vK⟩:=YL DY hM a (de.wrap (nl+1));refine wy ?_;have akF:(g3.set 2 (.eO oO lF))[m]?=a_ (.cells [bu a] bf):=by rw[bD aa];exact akE
 have LV:(g3.set 2 (.eO oO lF))[0]?=a_ (.cells gL bf):=by rw[bD aa];exact pK
 have Mw:(g3.set 2 (.eO oO lF))[2]?=a_ (.eO oO lF):=bU (gl DY);have DJ:wY 1 (g3.set 2 (.eO oO lF)):=iI.wk DY af aa;generalize g3.set 2 (.eO oO lF)=g4 at akF LV Mw DJ⊢;have nv:=xO LV rfl (x:=gL) rfl rfl;have k0:=bU (a:=.cells gL bf) (gl LV);have Cc:bz (g4.set 0 (.cells gL bf)) bh 9 (.mp 0 0)=a_ (.agg gL):=(we k0).2.2;have bad:∃n bV,di (g4.set 0 (.cells gL bf)) n (.bQ [.agg gL,bf])=a_ bV/\Us bV:=Ns (gs:=[]) (bE ⟨rfl,rfl⟩) ag (zM _) ag;obtain⟨Nr,nJ⟩:=Nh Mw vK a;have Lv:dL .neq (bu a) (.v (.string ⟨[103,114,111,117,112].toArray⟩))=a_ (.v (.bool !(a==[103,114,111,117,112]))):=zi a [103,114,111,117,112];refine wy (cN (λq1=>?_) λq1=>?_);exact mu @q1 @f0 @nv @Cc bad;obtain⟨j,rfl,hj⟩:∃j:Nat,fE=(j)/\j<5:=by
  rcases awQ with z|z
  simp at q1;omega;exact z
 obtain⟨Tz,rX,f6,axA,Ri⟩:∃w x f,(Ew.map dG)[j]?=a_ (.agg (mm w x f))/\HV G f:=by
  match j,hj with
  |0,_=>exact⟨_,_,_,rfl,aDT cA⟩
  |1,_=>exact⟨_,_,_,rfl,aDU⟩
  |2,_=>exact⟨_,_,_,rfl,aDV⟩
  |3,_=>exact⟨_,_,_,rfl,aDW cA hI⟩
  |4,_=>exact⟨_,_,_,rfl,aDX cA⟩
 have yS:ct 3 (.sl (Ew.map dG) .exact) (.v (.int .i64 (j)))=a_ (.fp (mm Tz rX f6) 0):=lD axA rfl;have GB:∀J,bz J bf 1 (.fp (mm Tz rX f6) 2)=a_ (.fn (.func f6) [] []):=λJ=>rfl;have kP:(decide ((1:Int)<Nr)=bh/\(a==[103,114,111,117,112])=bf)\/decide ((1:Int)<Nr)=bf\/(decide ((1:Int)<Nr)=bh/\(a==[103,114,111,117,112])=bh):=by
  cases decide ((1:Int)<Nr)<;>cases(a==[103,114,111,117,112])<;>simp
 rcases kP with⟨hd,uF⟩|hd|⟨hd,uF⟩
 exact wB @q1 (eL akF) @nJ @hd @Lv @uF @f0 @nv @Cc bad;refine wy (ck (Zl g4) ?_);rintro r g' ⟨rfl,rfl⟩;refine wy (ck (Ri 1 b g' aa DJ) ?_);rintro r g5 ⟨⟨y,rfl⟩,L1,yX⟩;have rz:=yX.2 _ _ aa af LV;have vT:=yX.2 _ _ aa af Mw;cases y with
 |false=>
  refine wy ?_;exact Ns (gs:=[]) (bE ⟨rfl,rfl⟩) ag (zM _) ag
 |true=>
  refine fF ?_;exact⟨rfl,rz,L1,oO,lF,vT,vK⟩
 refine wy (ck (Zl g4) ?_);rintro r g' ⟨rfl,rfl⟩;refine wy (ck (Ri 1 b g' aa DJ) ?_);rintro r g5 ⟨⟨y,rfl⟩,L1,yX⟩;have rz:=yX.2 _ _ aa af LV;cases y with
 |false=>
  refine wy ?_;exact Ns (gs:=[]) (bE ⟨rfl,rfl⟩) ag (zM _) ag
 |true=>
  refine fF ?_;exact⟨rfl,rz,L1,oO,lF,yX.2 _ _ aa af Mw,vK⟩
 rintro e h ⟨rfl,h0,hN,es,cB,hm,hM⟩;obtain⟨nm,cm,i1,p1,cg,a,al,mv,ex,gs,O,hA,hg,k_,he⟩:=hN;have oB:=xO h0 rfl (x:=eH nm cm i1 p1 cg a al mv ex) rfl (GP az k_.one.1)
 exact nV (Ns (jX hA h0) hg k_ he)
end
end
def eT(nm:List UInt8)(v:Int)(al:Bool)(bv:bg):List bg:=[bu nm,v,al,bv]
def n_(x:List bg):Prop:=∃nm v al bv,x=eT nm v al bv/\jf 100001 bv
def HS(r:bg):Prop:=∃(x:List bg) (b:Bool),r=.bQ [.agg x,b]/\n_ x
def Nl{J}{nm}{v}{al b:Bool}{bv}(O:jf 100001 bv):∃n bV,di J n (.bQ [.agg (eT nm v al bv),b])=a_ bV/\HS bV:=by
 obtain⟨n,hn⟩:=(fB (bG (kf (bG (bH _) (bG (bH _) (bG (bH _) (bG (O.fz J) cX))))) (bG (bH (.bool b)) cX)):b7 J (.bQ [.agg (eT nm v al bv),b]) _).done;exact⟨n,_,hn,_,b,rfl,nm,v,al,bv,rfl,O⟩
section
variable{k:Nat}{h:List br}{nm:List UInt8}{v:Int}{al:Bool}{bv:bg}
@[go_sem]def R4(O:h[k]?=a_ (.cells (eT nm v al bv) bf)):bz h bf 1 (.mp k 0)=a_ (bu nm)/\bz h bh 4 (.mp k 0)=a_ (.agg (eT nm v al bv)):=by
 simp only[bz,O];exact⟨rfl,rfl⟩
@[go_sem]def R5(O:h[k]?=a_ (.cells (eT nm v al bv) bf))(x:Int):bL h 1 (.mp k 1) x=a_ (h.set k (.cells (eT nm x al bv) bf)):=aV
@[go_sem]def R6(O:h[k]?=a_ (.cells (eT nm v al bv) bf))(x:Bool):bL h 1 (.mp k 2) x=a_ (h.set k (.cells (eT nm v x bv) bf)):=aV
@[go_sem]def R7(O:h[k]?=a_ (.cells (eT nm v al bv) bf)){x}(I:cr x=bh)(T:x.cells=[x]):bL h 1 (.mp k 3) x=a_ (h.set k (.cells (eT nm v al x) bf)):=by
 simp only[bL,O,fq,T];simp[I,dV,eT]
@[go_sem]def Ci{Z x}(O:h[k]?=a_ (.cells Z bf))(T:Z.length=4)(I:x.length=4)(Y:x.all cr=bh):bL h 4 (.mp k 0) (.agg x)=a_ (h.set k (.cells x bf)):=by
 have e:(dG x).cells=x:=rfl;simp only[bL,O,fq];rw[e,if_pos ⟨I,aa,Y⟩];unfold dV;rw[oG,gN,gk,I,sZ aa,gd]
def YU(O:cr bv=bh):(eT nm v al bv).all cr=bh:=by
 simp only[eT,pY,sY,O];rfl
end
def gq:List bg:=eT [] 0 bf .bp
section
variable{G:Cells}
def aB0(cA:gm G)(hI:Bz G){ls}(hW:Pk ls)(V:2<=ls.length):dM G bC 114 [.sl (ls.map bu) .no] HS:=by
 refine ek (aiO.go ?_);have c6:=hW.len;obtain⟨n1,pQ⟩:∃n,ls[1]?=a_ n:=⟨ls[1],cz aa⟩;have e1:ct 1 (.sl (ls.map bu) .no) (1:Int)=a_ (.fp [bu n1] 0):=lD (x:=bu n1) (by simp[pQ]) rfl;have f1:∀x:List UInt8,dJ gq [(0,1,bu x)]=a_ (eT x 0 bf .bp):=λx=>rfl;have f0:dJ gq []=a_ gq:=rfl;have hz:[cI (.string ⟨[].toArray⟩),(0:Int),bf,.bp]=gq:=rfl;have s1:bL [.cells gq bf,.cells gq bf] 4 (.mp 1 0) (.agg (eT n1 0 bf .bp))=a_ [.cells gq bf,.cells (eT n1 0 bf .bp) bf]:=Ci rfl rfl rfl rfl;have aeK:∀J,q2 1 (.sl (ls.map bu) .no) (a_ (.v (.int .i64 2))) bn bn J=a_ (.sl ((ls.drop 2).map bu) .no,J):=λJ=>by
  rw[ON];exact S0 aG Ti J
 have l2:(ls.drop 2).length=ls.length-2:=tX ..;refine wy ?_;refine dj (λi e h=>e=[(2,.mp 0 0),(4,.mp 1 0),(5,.gb 2),(18,.sl ((ls.drop 2).map bu) .no),(19,bq ((ls.length-2:Nat):Int)),(20,bq i)]/\h[0]?=a_ (.cells gq bf)/\(∃x,h[1]?=a_ (.cells x bf)/\n_ x)/\∃es cB,h[2]?=a_ (.eO es cB)/\Fi es) (ls.length-2)
  ⟨rfl,rfl,⟨_,rfl,n1,0,bf,.bp,rfl,zM _⟩,[],0,rfl,λe he=>by cases he⟩ ?_ ?_
 · rintro i e h Q ⟨rfl,h0,⟨x,Y,nm,v,al,bv,rfl,xu⟩,es,cB,hm,hM⟩
   obtain⟨w,hw⟩:∃w,(ls.drop 2)[i]?=a_ w:=⟨(ls.drop 2)[i]' aa,cz aa⟩;have Ec:=hW.each w (tY (cG hw));have e2:ct 1 (.sl ((ls.drop 2).map bu) .no) i=a_ (.fp [bu w] 0):=lD (x:=bu w) (by rw[fR,hw];rfl) rfl;refine wy ?_;refine ei (aeL w 61 aa) ?_;rintro r ⟨a,b,f,rfl,pL,QV⟩;have LY:=gl Y;refine wy ?_;refine dm (λq=>?_) λq=>?_;refine ei (ao8 cA hI b aa) ?_;rintro r ⟨n,ok,rfl,_,_⟩;have st:=R5 Y n;have Az:(h.set 1 (.cells (eT nm n al bv) bf))[1]?=a_ (.cells (eT nm n al bv) bf):=bU LY;have rz:(h.set 1 (.cells (eT nm n al bv) bf))[0]?=a_ (.cells gq bf):=by rw[bD aa];exact h0
   have vT:(h.set 1 (.cells (eT nm n al bv) bf))[2]?=a_ (.eO es cB):=by rw[bD aa];exact hm
   refine wy ?_;generalize h.set 1 (.cells (eT nm n al bv) bf)=g5 at Az rz vT⊢;obtain⟨zj,v5,yI,uv,WJ,th⟩:∃zj v5 yI uv,jf 100001 uv/\eT nm n al bv=eT zj v5 yI uv:=⟨_,_,_,_,xu,rfl⟩;rw[th] at Az
   rotate_left
   refine dm (λbt=>?_) λbt=>?_;refine ei (alg cA b aa) ?_;rintro r ⟨ig,gH,ok,rfl,uE⟩;have st:=R6 Y ig;have ava:=bU (a:=.cells (eT nm v ig bv) bf) LY;have zx:=R7 ava uE.one.1 uE.one.2;have Az:((h.set 1 (.cells (eT nm v ig bv) bf)).set 1 (.cells (eT nm v ig gH) bf))[1]?=a_ (.cells (eT nm v ig gH) bf):=bU (by simpa using LY);have rz:((h.set 1 (.cells (eT nm v ig bv) bf)).set 1 (.cells (eT nm v ig gH) bf))[0]?=a_ (.cells gq bf):=by rw[bD aa,bD aa];exact h0
   have vT:((h.set 1 (.cells (eT nm v ig bv) bf)).set 1 (.cells (eT nm v ig gH) bf))[2]?=a_ (.eO es cB):=by rw[bD aa,bD aa];exact hm
   refine wy ?_;generalize(h.set 1 (.cells (eT nm v ig bv) bf)).set 1 (.cells (eT nm v ig gH) bf)=g5 at Az rz vT⊢;obtain⟨zj,v5,yI,uv,WJ,th⟩:∃zj v5 yI uv,jf 100001 uv/\eT nm v ig gH=eT zj v5 yI uv:=⟨_,_,_,_,uE,rfl⟩;rw[th] at Az
   rotate_left
   obtain⟨g5,F_⟩:∃g5,g5=h:=⟨h,rfl⟩;obtain⟨zj,v5,yI,uv,WJ,th⟩:∃zj v5 yI uv,jf 100001 uv/\eT nm v al bv=eT zj v5 yI uv:=⟨_,_,_,_,xu,rfl⟩;have Az:=Y;have rz:=h0;have vT:=hm;rw[th] at Az;refine wy ?_;rw[<-F_] at Az rz vT⊢;obtain⟨nl,dr⟩:=Nh vT hM a;obtain⟨oO,lF,eS,vK⟩:=YL vT hM a (de.wrap (nl+1));have DG:(g5.set 2 (.eO oO lF))[0]?=a_ (.cells gq bf):=by rw[bD aa];exact rz
   have QJ:(g5.set 2 (.eO oO lF))[1]?=a_ (.cells (eT zj v5 yI uv) bf):=by rw[bD aa];exact Az
   have DZ:(g5.set 2 (.eO oO lF))[2]?=a_ (.eO oO lF):=bU (gl vT);refine mS @dr @eS ?_;generalize g5.set 2 (.eO oO lF)=g6 at DG QJ DZ⊢;have nv:=Ci DG rfl (x:=gq) rfl rfl;have k0:=bU (a:=.cells gq bf) (gl DG);have Cc:bz (g6.set 0 (.cells gq bf)) bh 4 (.mp 0 0)=a_ (.agg gq):=(R4 k0).2;have bad:∃n bV,di (g6.set 0 (.cells gq bf)) n (.bQ [.agg gq,bf])=a_ bV/\HS bV:=Nl (zM _);cases f with
   |false=>
    exact mu @va @f0 @nv @Cc bad
   |true=>
    exact qx @zH @va @f0 @nv @Cc bad
   all_goals
    obtain⟨nl,dr⟩:=Nh vT hM a;obtain⟨oO,lF,eS,vK⟩:=YL vT hM a (de.wrap (nl+1));have DG:(g5.set 2 (.eO oO lF))[0]?=a_ (.cells gq bf):=by rw[bD aa];exact rz
    have QJ:(g5.set 2 (.eO oO lF))[1]?=a_ (.cells (eT zj v5 yI uv) bf):=by rw[bD aa];exact Az
    have DZ:(g5.set 2 (.eO oO lF))[2]?=a_ (.eO oO lF):=bU (gl vT);refine wy ?_;generalize g5.set 2 (.eO oO lF)=g6 at DG QJ DZ⊢;obtain⟨Nr,nJ⟩:=Nh DZ vK a;have nv:=Ci DG rfl (x:=gq) rfl rfl;have k0:=bU (a:=.cells gq bf) (gl DG);have Cc:bz (g6.set 0 (.cells gq bf)) bh 4 (.mp 0 0)=a_ (.agg gq):=(R4 k0).2;have bad:∃n bV,di (g6.set 0 (.cells gq bf)) n (.bQ [.agg gq,bf])=a_ bV/\HS bV:=Nl (zM _);cases f with
    |false=>
     exact jw @f0 @nv @Cc bad
    |true=>
     cases ok with
     |false=>
      exact jw @f0 @nv @Cc bad
     |true=>
      refine wy ?_;refine dm (λmQ=>?_) λmQ=>?_;exact jw @f0 @nv @Cc bad;exact⟨rfl,DG,⟨_,QJ,zj,v5,yI,uv,rfl,WJ⟩,oO,lF,DZ,vK⟩
 rintro e h ⟨rfl,h0,⟨x,Y,nm,v,al,bv,rfl,xu⟩,es,cB,hm,hM⟩;have oB:=Ci h0 rfl (x:=eT nm v al bv) rfl (YU xu.one.1);exact nV (Nl xu)
end
section
variable{v:bg}{xs:List (List bg)}{k n:Nat}{x z:List bg}{g h h':List br}{a b:List UInt8}
def r8(v:bg)(xs:List (List bg)):Prop:=(v=.bp/\xs=[])\/∃t,v=.sl (xs.map dG) t
@[go_sem]def r8.len(h:r8 v xs)(J):cH v J=a_ (.v (.int .i64 (xs.length:Int)),J):=by
 rcases h with⟨rfl,rfl⟩|⟨t,rfl⟩
 rfl;simp[ot,goInt]
@[go_sem]def r8.cE(h:r8 v xs){i:Nat}(I:xs[i]?=a_ x)(hn:x.length=n):ct n v i=a_ (.fp x 0):=by
 rcases h with⟨rfl,rfl⟩|⟨t,rfl⟩
 simp at I;exact lD (x:=.agg x) aA hn
@[go_sem]def r8.fA(hn:x.length=n)(J):bz J bh n (.fp x 0)=a_ (.agg x):=by
 show e_ bh n x 0=_;unfold e_;rw[if_pos rfl,if_pos aa,o9,mA aa]
structure ug(h:List br)(q:bg)(x:List bg):Prop where
 nl:yK q=a_ q
 ne:∀neg,nG .ptr neg q (.v (.pointer bn))=a_ (.v (.bool neg))
 fa:∀o,∃NV,lC o q=a_ NV/\(∀o2,lC o2 NV=lC (o+o2) q)/\∀g,Ext h g->∀y,x[o]?=a_ y->bz g bf 1 NV=a_ y
 fA:∀g,Ext h g->bz g bh x.length q=a_ (.agg x)
def ug.ext{q}(s:ug h q x)(he:Ext h h'):ug h' q x:=
 ⟨s.nl,s.ne,λo=>by obtain⟨NV,Y,h3,V⟩:=s.fa o;exact⟨NV,Y,h3,λg hg=>V g λj b q=>hg j b (he j b q)⟩,λg hg=>s.fA g λj b q=>hg j b (he j b q)⟩
@[go_sem]def ZA(x):e_ bh x.length x 0=a_ (.agg x):=by
 unfold e_;rw[if_pos rfl,if_pos aa,o9,n3]
def ug.fp(h)(x):ug h (.fp x 0) x:=
 ⟨rfl,λneg=>ZC x 0 neg,λo=>⟨.fp x (0+o),rfl,λo2=>by simp only[lC,gk,n5],λg _ y hy=>by rw[gk];exact hy⟩,λg _=>ZA x⟩
def ug.mp{h}{k}{x}(S:h[k]?=a_ (.cells x bf)):ug h (.mp k 0) x:=
 ⟨rfl,λneg=>ZD k 0 neg,λo=>⟨.mp k (0+o),rfl,λo2=>by simp only[lC,gk,n5],λg hg y hy=>by
  have:=hg _ _ S;simp only[bz,this];rw[gk];exact hy⟩,λg hg=>by
  have:=hg _ _ S;simp only[bz,this];exact ZA x⟩
structure oJ(n:Nat)(h:List br)(v:bg)(xs:List (List bg)):Prop where
 len:∀g,cH v g=a_ (.v (.int .i64 (xs.length:Int)),g)
 cE:∀(i:Nat) x,xs[i]?=a_ x->∃q,ct n v i=a_ q/\ug h q x
 el:∀x∈xs,x.length=n
def oJ.ext(s:oJ n h v xs)(he:Ext h h'):oJ n h' v xs:=
 ⟨s.len,λi x I=>by obtain⟨q,Y,V⟩:=s.cE i x I;exact⟨q,Y,V.ext he⟩,s.el⟩
def oJ.slc(h)(hv:r8 v xs)(hn:∀x∈xs,x.length=n):oJ n h v xs:=
 ⟨hv.len,λi x I=>⟨_,hv.cE I (hn x (cG I)),ug.fp h x⟩,hn⟩
def oJ.row(D:j5 n h k v xs):oJ n h v xs:=
 ⟨D.len,λi x I=>⟨_,D.cE (gl I),by
  have Ed:=(D.each x (cG I)).1;have kp:∀g,Ext h g->j5 n g k v xs:=λg hg=>D.keep λZ q=>hg _ _ q;refine⟨He _ _ _,λneg=>?_,λo=>⟨_,Cw o _ _ _,λo2=>by simp only[lC,n5],λg hg y hy=>((kp g hg).iW I (by have:=(gl hy);omega) hy)⟩,λg hg=>?_⟩;cases neg<;>rfl;have:=(kp g hg).ak5 (o:=0) (w:=n) I aa;rw[vc,o9,mA aa] at this;rw[Ed];exact this⟩,λx I=>(D.each x I).1⟩
def Uk(n:Nat)(r:bg):Prop:=∃m:Int,r=m/\(m= -1\/∃j:Nat,m=(j:Int)/\j<n)
section
variable{G:Cells}{v y:bg}{xs:List (List bg)}{h:List br}
def ax4(hv:oJ 9 h v xs)(hl:xs.length<=100000)(l_:∀x∈xs,∀g,Ext h g->jM G bC y [.agg x] g λr g'=>jL r/\∃l,g'=g++l):
  cq G bC 189 [v,y] h λr h'=>Uk xs.length r/\∃l,h'=h++l:=by
 refine ajp.go ?_;refine iB @hv.len ?_;refine dj (λi e g=>e=[(0,v),(1,y),(7,bq xs.length),(8,bq i)]/\∃l,g=h++l) xs.length ⟨rfl,[],af⟩ ?_ ?_;rintro i e g Q ⟨rfl,l,rfl⟩;obtain⟨x,I⟩:=dQ Q;obtain⟨q,Y,V⟩:=hv.cE i x I;have h3:=V.fA (h++l) lX;rw[(hv.el x (cG I))] at h3;refine wy (vb (l_ x (cG I) _ lX) ?_);rintro r g2 ⟨⟨b,rfl⟩,l2,rfl⟩;cases b with
 |true=>
  refine wy ?_;exact⟨⟨_,rfl,bF ⟨i,rfl,Q⟩⟩,l++l2,aKg⟩
 |false=>
  refine wx ?_;exact⟨rfl,l++l2,aKg⟩
 rintro e g ⟨rfl,l,rfl⟩;refine wy ?_;exact⟨⟨_,rfl,bE rfl⟩,l,rfl⟩
def ah8(hv:oJ 4 h v xs)(hl:xs.length<=100000)(l_:∀x∈xs,∀g,Ext h g->jM G bC y [.agg x] g λr g'=>jL r/\∃l,g'=g++l):
  cq G bC 119 [v,y] h λr h'=>Uk xs.length r/\∃l,h'=h++l:=by
 refine aiT.go ?_;refine iB @hv.len ?_;refine dj (λi e g=>e=[(0,v),(1,y),(7,bq xs.length),(8,bq i)]/\∃l,g=h++l) xs.length ⟨rfl,[],af⟩ ?_ ?_;rintro i e g Q ⟨rfl,l,rfl⟩;obtain⟨x,I⟩:=dQ Q;obtain⟨q,Y,V⟩:=hv.cE i x I;have h3:=V.fA (h++l) lX;rw[(hv.el x (cG I))] at h3;refine wy (vb (l_ x (cG I) _ lX) ?_);rintro r g2 ⟨⟨b,rfl⟩,l2,rfl⟩;cases b with
 |true=>
  refine wy ?_;exact⟨⟨_,rfl,bF ⟨i,rfl,Q⟩⟩,l++l2,aKg⟩
 |false=>
  refine wx ?_;exact⟨rfl,l++l2,aKg⟩
 rintro e g ⟨rfl,l,rfl⟩;refine wy ?_;exact⟨⟨_,rfl,bE rfl⟩,l,rfl⟩
def ayf(S:g[k]?=a_ (.cells z bf))(I:x[0]?=a_ (bu a))(hz:z[0]?=a_ (bu b)):
  jM G bC (.fn (.func 113) [] [.mp k 0]) [.agg x] g λr g'=>jL r/\∃l,g'=g++l:=by
 show cq G bC 113 [.agg x,.mp k 0] g _;refine aiN.go ?_;refine wy ?_;exact⟨⟨_,rfl⟩,_,rfl⟩
def ayg(S:g[k]?=a_ (.cells z bf))(I:x[0]?=a_ (bu a))(hz:z[0]?=a_ (bu b)):
  jM G bC (.fn (.func 116) [] [.mp k 0]) [.agg x] g λr g'=>jL r/\∃l,g'=g++l:=by
 show cq G bC 116 [.agg x,.mp k 0] g _;refine aiQ.go ?_;refine wy ?_;exact⟨⟨_,rfl⟩,_,rfl⟩
def arl(hv:oJ 9 h v xs)(hl:xs.length<=100000)(l_:∀x∈xs,∀g,Ext h g->jM G bC y [.agg x] g λr g'=>jL r/\∃l,g'=g++l):
  cq G bC 112 [v,y] h λr h'=>jL r/\∃l,h'=h++l:=by
 refine aiM.go ?_;refine wy (ck (ax4 hv hl l_) ?_);rintro r g ⟨⟨m,rfl,_⟩,l,rfl⟩;refine wy ?_;exact⟨⟨_,rfl⟩,l,rfl⟩
def arn(hv:oJ 4 h v xs)(hl:xs.length<=100000)(l_:∀x∈xs,∀g,Ext h g->jM G bC y [.agg x] g λr g'=>jL r/\∃l,g'=g++l):
  cq G bC 115 [v,y] h λr h'=>jL r/\∃l,h'=h++l:=by
 refine aiP.go ?_;refine wy (ck (ah8 hv hl l_) ?_);rintro r g ⟨⟨m,rfl,_⟩,l,rfl⟩;refine wy ?_;exact⟨⟨_,rfl⟩,l,rfl⟩
end
end
section
variable{h g:List br}{k o n b9 B:Nat}{e:TypeId}{Z xs:List bg}{v x:bg}
def zU(k n:Nat)(e:TypeId)(h g:List br):Prop:=h.length<=g.length/\∀(j:Nat) b,h[j]?=a_ b->j≠k->(∀c,b≠.tok c n e)->g[j]?=a_ b
def zU.cells{j:Nat}{c:List bg}{f:Bool}(q:zU k n e h g)(O:h[j]?=a_ (.cells c f))(hj:j≠k):g[j]?=a_ (.cells c f):=q.2 _ _ O hj af
def zU.Dg{Z:List bg}{m:Nat}{e':TypeId}{w:bg}{ys:List bg}(q:zU k n e h g)(S:h[k]?=a_ (.cells Z bf))(hw:cT h w ys m e')(bR:m≠n\/e'≠e):cT g w ys m e':=by
 rcases hw with z|⟨id,b_,z2⟩
 exact bE z;exact bF ⟨id,b_,q.2 _ _ z2 (by rintro rfl;rw[S] at z2;cases z2) aK9⟩
def zU.own{Z:List bg}{m B:Nat}{e':TypeId}{w:bg}{ys:List bg}(q:zU k n e h g)(S:h[k]?=a_ (.cells Z bf))(hw:mG B h w ys m e')(bR:m≠n\/e'≠e):mG B g w ys m e':=by
 rcases hw with z|⟨id,b_,z2,z3⟩
 exact bE z;exact bF ⟨id,b_,z2,q.2 _ _ z3 (by rintro rfl;rw[S] at z3;cases z3) aK9⟩
def zU.k5(q:zU k n e h g):iZ k h g:=⟨q.1,λj c f hj O=>q.cells O hj⟩
@[go_sem]def V5(O:g[k]?=a_ (.cells Z bf))(Y:cr v=bh)(ho:o<Z.length):bL g 1 (.mp k o) v=a_ (g.set k (.cells (Z.set o v) bf)):=Ig O Y ho
def LL(hA:cT h v xs n e)(O:h[k]?=a_ (.cells Z bf))(ho:o<Z.length)(iA:cZ n xs=bh)(Y_:cZ n [x]=bh)(hn:0<n)(hy:0<b9)(hf:(xs.length+1)*b9<=140737488355328):
  ∃v' g,ef h n b9 e v (.sl [x] .exact)=a_ (v',g)/\bL g 1 (.mp k o) v'=a_ (g.set k (.cells (Z.set o v') bf))/\cr v'=bh/\cT (g.set k (.cells (Z.set o v') bf)) v' (xs++[x]) n e/\(g.set k (.cells (Z.set o v') bf))[k]?=a_ (.cells (Z.set o v') bf)/\zU k n e h (g.set k (.cells (Z.set o v') bf)):=by
 obtain⟨v',g,e1,hB,_,hl,S⟩:=nc hA iA Y_ hn hy hf;have gW:∀{j:Nat} {b:br},h[j]?=a_ b->(∀c,b≠.tok c n e)->g[j]?=a_ b:=λq hn=>S _ _ q λys z=>by
  rcases hA with⟨b_,_⟩|⟨id,b_,z2⟩
  rw[b_] at z;cases z;rw[b_] at z;cases z;rw[q] at z2;cases z2;exact hn _ rfl
 have kb:=gW O af
 have o1:cr v'=bh:=by rcases hB with⟨rfl,_⟩|⟨_,rfl,_⟩<;>rfl
 exact⟨v',g,e1,V5 kb o1 ho,o1,jX hB kb,bU (gl kb),aI,λj b q hj hn=>by rw[bD (eX hj)];exact gW q hn⟩
def afY(hA:mG B h v xs n e)(hB:B<=h.length)(O:h[k]?=a_ (.cells Z bf))(ho:o<Z.length)(iA:cZ n xs=bh)(Y_:cZ n [x]=bh)(hn:0<n)(hy:0<b9)(hf:(xs.length+1)*b9<=140737488355328):
  ∃v' g,ef h n b9 e v (.sl [x] .exact)=a_ (v',g)/\bL g 1 (.mp k o) v'=a_ (g.set k (.cells (Z.set o v') bf))/\cr v'=bh/\mG B (g.set k (.cells (Z.set o v') bf)) v' (xs++[x]) n e/\(g.set k (.cells (Z.set o v') bf))[k]?=a_ (.cells (Z.set o v') bf)/\zU k n e h (g.set k (.cells (Z.set o v') bf)):=by
 obtain⟨v',g,e1,hC,hl,S⟩:=GX hA hB iA Y_ hn hy hf;have gW:∀{j:Nat} {b:br},h[j]?=a_ b->(∀c,b≠.tok c n e)->g[j]?=a_ b:=λq hn=>S _ _ q λys z=>by
  rcases hA with b_|⟨id,b_,_,z2⟩
  rw[b_] at z;cases z;rw[b_] at z;cases z;rw[q] at z2;cases z2;exact hn _ rfl
 have kb:=gW O af
 have o1:cr v'=bh:=by rcases hC with rfl|⟨_,rfl,_⟩<;>rfl
 refine⟨v',g,e1,V5 kb o1 ho,o1,?_,bU (gl kb),aI,λj b q hj hn=>by rw[bD (eX hj)];exact gW q hn⟩
 rcases hC with z|⟨id,b_,z2,z3⟩
 exact bE z;exact bF ⟨id,b_,z2,by rw[bD (by rintro rfl;rw[kb] at z3;cases z3)];exact z3⟩
end
section
variable{x:List bg}{n:Nat}{xs:List (List bg)}{h:List br}{v:bg}{e:TypeId}
def vj.ok(h:vj x):x.length=9/\x.all cr=bh/\∃nm,x[0]?=a_ (bu nm):=by
 obtain⟨nm,cm,i,p,cg,a,al,mv,ex,rfl,hg,hm,_⟩:=h;exact⟨rfl,GP hg.one.1 hm.one.1,nm,rfl⟩
def n_.ok(h:n_ x):x.length=4/\x.all cr=bh/\∃nm,x[0]?=a_ (bu nm):=by
 obtain⟨nm,v,al,bv,rfl,O⟩:=h;exact⟨rfl,YU O.one.1,nm,rfl⟩
@[go_sem]def wg(h:∀x∈xs,x.length=n/\x.all cr=bh):cZ n (xs.map dG)=bh:=by
 rw[cZ,eP];intro y hy;obtain⟨x,I,rfl⟩:=eg.1 hy;obtain⟨Y,V⟩:=h x I;simp only[jK,Y,V,beq_self_eq_true,Bool.and_self]
def Ab(hA:cT h v (xs.map dG) n e):r8 v xs:=by
 rcases hA with⟨q,z⟩|⟨id,q,_⟩
 exact bE ⟨q,aN⟩;exact bF ⟨_,q⟩
structure ua(e1 e2:TypeId)(yy:List bg->Prop)(k:Nat)(bB mv:bg)(cv marks:List (List bg))(h:List br):Prop where
 b:h[k]?=a_ (.cells [bB,mv] bf)
 n:cT h bB (cv.map dG) 9 e1
 m:cT h mv (marks.map dG) 4 e2
 mO:∀x∈cv,yy x
 hG:∀x∈marks,n_ x
 nl:cv.length<=24
 ml:marks.length<=8
abbrev aqn:=ua 99 138 vj
def O0(k:Nat)(h:List br):Prop:=∃bB mv cv marks,aqn k bB mv cv marks h
section
variable{e1 e2:TypeId}{yy:List bg->Prop}{k:Nat}{bB mv:bg}{cv marks:List (List bg)}{h:List br}
def ua.app{x}(s:ua e1 e2 yy k bB mv cv marks h):ua e1 e2 yy k bB mv cv marks (h++x):=⟨bT s.b,s.n.ext,s.m.ext,s.mO,s.hG,s.nl,s.ml⟩
@[go_sem]def ua.fA(s:ua e1 e2 yy k bB mv cv marks h):bz h bf 1 (.mp k 0)=a_ bB/\bz h bf 1 (.mp k 1)=a_ mv/\bz h bh 2 (.mp k 0)=a_ (.agg [bB,mv]):=by
 simp only[bz,s.b];exact⟨rfl,rfl,rfl⟩
def Aa{xs}(hA:cT h v xs n e):cr v=bh/\v.cells=[v]:=by
 rcases hA with⟨rfl,_⟩|⟨_,rfl,_⟩<;>exact⟨rfl,rfl⟩
def ua.amL(s:ua e1 e2 yy k bB mv cv marks h)(hN:∀{x},yy x->x.length=9/\x.all cr=bh/\∃nm,x[0]?=a_ (bu nm))(I:yy x)(hl:cv.length<24):
  ∃ku g,ef h 9 104 e1 bB (.sl [.agg x] .exact)=a_ (ku,g)/\bL g 1 (.mp k 0) ku=a_ (g.set k (.cells [ku,mv] bf))/\ua e1 e2 yy k ku mv (cv++[x]) marks (g.set k (.cells [ku,mv] bf))/\iZ k h (g.set k (.cells [ku,mv] bf)):=by
 obtain⟨ku,g,e1,e2,_,hA,O,q⟩:=LL (b9:=104) (o:=0) s.n s.b af (wg λy hy=>⟨(hN (s.mO y hy)).1,(hN (s.mO y hy)).2.1⟩) (wg λy hy=>by rw[dP.1 hy];exact⟨(hN I).1,(hN I).2.1⟩) ag ag ah;exact⟨ku,g,e1,e2,⟨O,by rw[gf];exact hA,q.Dg s.b s.m (bE ag),λy hy=>(gj.1 hy).elim (s.mO y) λq=>aLX,s.hG,ah,s.ml⟩,q.k5⟩
def ua.amK(s:ua e1 e2 yy k bB mv cv marks h)(I:n_ x)(hl:marks.length<8):
  ∃nR g,ef h 4 56 e2 mv (.sl [.agg x] .exact)=a_ (nR,g)/\bL g 1 (.mp k 1) nR=a_ (g.set k (.cells [bB,nR] bf))/\ua e1 e2 yy k bB nR cv (marks++[x]) (g.set k (.cells [bB,nR] bf))/\iZ k h (g.set k (.cells [bB,nR] bf)):=by
 obtain⟨nR,g,e1,e2,_,hA,O,q⟩:=LL (b9:=56) (o:=1) s.m s.b af (wg λy hy=>⟨(s.hG y hy).ok.1,(s.hG y hy).ok.2.1⟩) (wg λy hy=>by rw[dP.1 hy];exact⟨I.ok.1,I.ok.2.1⟩) ag ag ah;exact⟨nR,g,e1,e2,⟨O,q.Dg s.b s.n (bE ag),by rw[gf];exact hA,s.mO,λy hy=>(gj.1 hy).elim (s.hG y) λq=>aLX,s.nl,ah⟩,q.k5⟩
@[go_sem]def Nt(h)(I:x.length=9)(Y:x.all cr=bh):bL (h++[bw gL bf]) 9 (.mp h.length 0) (.agg x)=a_ (h++[bw x bf]):=by
 rw[xO (Z:=gL) af rfl I Y];simp
@[go_sem]def YT(h)(I:x.length=4)(Y:x.all cr=bh):bL (h++[bw gq bf]) 4 (.mp h.length 0) (.agg x)=a_ (h++[bw x bf]):=by
 rw[Ci (Z:=gq) af rfl I Y];simp
end
section
variable{G:Cells}
def aqY(cA:gm G)(hI:Bz G){k}(kH:O0 k h){ls}(hW:Pk ls):
  cq G bC 60 [.mp k 0,.sl (ls.map bu) .no] h λr h'=>(∃e:Int,r=e)/\O0 k h'/\iZ k h h':=by
 obtain⟨bB,mv,cv,marks,hS⟩:=kH;refine ais.go ?_;have c6:=hW.len;have keep:(∃e:Int,cI (.int .i64 2)=.v (.int .i64 e))/\O0 k h/\iZ k h h:=⟨⟨2,rfl⟩,⟨bB,mv,cv,marks,hS⟩,iZ.refl _ _⟩;have MV:[cI (.string ⟨[].toArray⟩),.bp,.v (.bool bf),.v (.bool bf),.v (.bool bf),.v (.int .i64 0),.v (.bool bf),.bp,.v (.string ⟨[].toArray⟩)]=gL:=rfl;have ahY:[cI (.string ⟨[].toArray⟩),.v (.int .i64 0),.v (.bool bf),.bp]=gq:=rfl;refine wy ?_;refine dm (λq=>keep) λq=>?_;have V:2<=ls.length:=aq
 obtain⟨w1,ahU⟩:∃n,ls[1]?=a_ n:=⟨ls[1],cz aa⟩;obtain⟨w0,MS⟩:∃n,ls[0]?=a_ n:=⟨ls[0],cz aa⟩;have e1:ct 1 (.sl (ls.map bu) .no) (1:Int)=a_ (.fp [bu w1] 0):=lD (x:=bu w1) (by simp[ahU]) rfl;have e0:ct 1 (.sl (ls.map bu) .no) (0:Int)=a_ (.fp [bu w0] 0):=lD (x:=bu w0) (by simp[MS]) rfl;refine wy ?_;refine ei (XS cA w1 (by have:=hW.each w1 (cG ahU);omega)) ?_;rintro r ⟨b,rfl⟩;cases b with
 |false=>
  exact fF keep
 |true=>
  refine wy ?_;refine dm (λaDF=>?_) λaDF=>?_;refine jy (aCE cA hI hW V) (bX (qI (bE rfl)) dc) ?_;rintro r ⟨x,ok,rfl,I⟩;obtain⟨qm,pS,nm,qQ⟩:=I.ok;have nn:=Nt h qm pS;have fe:=hS.app (x:=[bw x bf]);have kx:(h++[bw x bf])[h.length]?=a_ (.cells x bf):=af
  have qL:iZ k h (h++[bw x bf]):=iZ.app;refine wy ?_;generalize h.length=m at kx⊢;generalize h++[bw x bf]=g at fe kx qL⊢;cases ok with
  |false=>
   refine fF ?_;exact⟨⟨_,rfl⟩,⟨_,_,_,_,fe⟩,qL⟩
  |true=>
   refine wy ?_;refine dm (λaDH=>?_) λaDH=>?_;exact⟨⟨_,rfl⟩,⟨_,_,_,_,fe⟩,qL⟩;refine ck (arl (oJ.slc _ (Ab fe.n) λy hy=>(hS.mO y hy).ok.1) (by have:=hS.nl;omega) λy hy g2 iJ=>ayf (iJ _ _ kx) (hS.mO y hy).ok.2.2.choose_spec qQ) ?_;rintro r g2 ⟨⟨b,rfl⟩,l2,rfl⟩;have gi:=fe.app (x:=l2);have Gz:(g++l2)[m]?=a_ (.cells x bf):=bT kx;have sx:iZ k h (g++l2):=qL.trans iZ.app;generalize g++l2=g3 at gi Gz sx⊢;cases b with
   |true=>
    refine fF ?_;exact⟨⟨_,rfl⟩,⟨_,_,_,_,gi⟩,sx⟩
   |false=>
    refine mw @gi.fA.1 ((Ab gi.n).len) (cN (λmQ=>?_) λmQ=>?_);refine e5 @mQ ?_;exact⟨⟨_,rfl⟩,⟨_,_,_,_,gi⟩,sx⟩;obtain⟨ku,g4,p1,p2,p3,jd⟩:=gi.amL vj.ok I (by have:=gi.nl;simp at mQ;omega);have lx:bz g3 bh 9 (.mp m 0)=a_ (.agg x):=by
     simp only[bz,Gz];unfold e_;rw[if_pos rfl,if_pos aa,o9,mA aa]
    have ab:eV 9 [.agg x]=a_ (.sl [.agg x] .exact):=by
     have:=wg λy hy=>aJ2
     simp only[fG,lu] at this;simp[eV,this]
    refine wx ?_;exact⟨⟨_,rfl⟩,⟨_,_,_,_,p3⟩,sx.trans jd⟩
  refine dm (λA_=>?_) λA_=>keep;refine jy (aB0 cA hI hW V) (bX (qI (bE rfl)) dc) ?_;rintro r ⟨x,ok,rfl,I⟩;obtain⟨qm,pS,nm,qQ⟩:=I.ok;have nn:=YT h qm pS;have fe:=hS.app (x:=[bw x bf]);have kx:(h++[bw x bf])[h.length]?=a_ (.cells x bf):=af
  have qL:iZ k h (h++[bw x bf]):=iZ.app;refine wy ?_;generalize h.length=m at kx⊢;generalize h++[bw x bf]=g at fe kx qL⊢;cases ok with
  |false=>
   refine fF ?_;exact⟨⟨_,rfl⟩,⟨_,_,_,_,fe⟩,qL⟩
  |true=>
   refine wx (ck (arn (oJ.slc _ (Ab fe.m) λy hy=>(hS.hG y hy).ok.1) (by have:=hS.ml;omega) λy hy g2 iJ=>ayg (iJ _ _ kx) (hS.hG y hy).ok.2.2.choose_spec qQ) ?_);rintro r g2 ⟨⟨b,rfl⟩,l2,rfl⟩;have gi:=fe.app (x:=l2);have Gz:(g++l2)[m]?=a_ (.cells x bf):=bT kx;have sx:iZ k h (g++l2):=qL.trans iZ.app;generalize g++l2=g3 at gi Gz sx⊢;cases b with
   |true=>
    refine fF ?_;exact⟨⟨_,rfl⟩,⟨_,_,_,_,gi⟩,sx⟩
   |false=>
    refine mw @gi.fA.2.1 ((Ab gi.m).len) (cN (λmQ=>?_) λmQ=>?_);refine e5 @mQ ?_;exact⟨⟨_,rfl⟩,⟨_,_,_,_,gi⟩,sx⟩;obtain⟨nR,g4,p1,p2,p3,jd⟩:=gi.amK I (by have:=gi.ml;simp at mQ;omega);have lx:bz g3 bh 4 (.mp m 0)=a_ (.agg x):=by
     simp only[bz,Gz];unfold e_;rw[if_pos rfl,if_pos aa,o9,mA aa]
    have ab:eV 4 [.agg x]=a_ (.sl [.agg x] .exact):=by
     have:=wg λy hy=>aJ2
     simp only[fG,lu] at this;simp[eV,this]
    refine wx ?_;exact⟨⟨_,rfl⟩,⟨_,_,_,_,p3⟩,sx.trans jd⟩
end
end
section
variable{x:List bg}{h J:List br}{k:Nat}{a b:bg}
def alc:∀(l) (n),zK (l.drop n)+(l.drop n).length<=zK l+l.length
 |l,0=>af
 |[],n+1=>af
 |x::r,n+1=>by
  have:=alc r n;simp only[Bu,zK,eW,fG,zQ] at this⊢;omega
def aok(c):∀s:List UInt8,zK (jr c s)+(jr c s).length=s.length+1
 |[]=>by simp[jr,zK]
 |b::r=>by
  have ih:=aok c r;unfold jr;split;simp only[zK,eW,fG,zQ,hY] at ih⊢;omega;split;rename_i he;rw[he] at ih;simp[zK] at ih;rename_i h t he;rw[he] at ih;simp only[zK,eW,fG,zQ] at ih⊢;omega
def aGV{s}(hs:s.length<=70000)(c):Pk (jr c s):=by
 obtain⟨Y,V⟩:=N8 c s;have h3:=aok c s;exact⟨λw hw=>by have:=V w hw;omega,λn=>by have:=alc (jr c s) n;omega,aa⟩
def aqq(bB mv:bg):Prop:=∃cv marks:List (List bg),cC bB (cv.map dG)/\cC mv (marks.map dG)/\(∀x∈cv,vj x)/\(∀x∈marks,n_ x)/\cv.length<=24/\marks.length<=8
def ab6(r:bg):Prop:=∃(bB mv:bg) (a e:Int),r=.bQ [.agg [bB,mv],bq a,bq e]/\aqq bB mv
def vj.fz(h:vj x)(J):b7 J (.agg x) (.agg x):=by
 obtain⟨nm,cm,i,p,cg,a,al,mv,ex,rfl,hg,hm,_⟩:=h;exact kf (bG (bH _) (bG (hg.fz J) (bG (bH _) (bG (bH _) (bG (bH _) (bG (bH _) (bG (bH _) (bG (hm.fz J) (bG (bH _) cX)))))))))
def n_.fz(h:n_ x)(J):b7 J (.agg x) (.agg x):=by
 obtain⟨nm,v,al,bv,rfl,O⟩:=h;exact kf (bG (bH _) (bG (bH _) (bG (bH _) (bG (O.fz J) cX))))
def anp{v}{xs:List (List bg)}{n}{e}(hA:cT J v (xs.map dG) n e)(I:∀x∈xs,b7 J (.agg x) (.agg x)):∃v',b7 J v v'/\cC v' (xs.map dG):=by
 rcases hA with⟨rfl,z⟩|⟨id,rfl,_⟩
 exact⟨_,ez,bF ⟨rfl,z⟩⟩;exact⟨_,gU (iC I),bE rfl⟩
def Vt(a e:Int):∃n bV,di J n (.bQ [.agg [.bp,.bp],a,e])=a_ bV/\ab6 bV:=by
 obtain⟨n,hn⟩:=(fB (bG (kf (bG ez (bG ez cX))) (bG (bH (.int .i64 a)) (bG (bH (.int .i64 e)) cX))):b7 J _ _).done;exact⟨n,_,hn,.bp,.bp,a,e,rfl,[],[],bF ⟨rfl,rfl⟩,bF ⟨rfl,rfl⟩,af,af,ag,ag⟩
@[go_sem]def aaP{Z}(O:h[k]?=a_ (.cells Z bf))(T:Z.length=2)(ha:cr a=bh)(ju:cr b=bh):bL h 2 (.mp k 0) (.agg [a,b])=a_ (h.set k (.cells [a,b] bf)):=by
 have e:(dG [a,b]).cells=[a,b]:=rfl;simp only[bL,O,fq];rw[e,if_pos ⟨rfl,aa,by simp[ha,ju]⟩];unfold dV;rw[oG,gN,gk,sZ ah,gd]
@[go_sem]def aGx(O:h[k]?=a_ (.cells [a,b] bf)):bz h bh 2 (.mp k 0)=a_ (.agg [a,b]):=by
 simp only[bz,O];rfl
def aBx(s):∃v a e,Jo s=(v,a,e)/\(e≠0\/(e=0/\∃ls:List (List UInt8),cC v (ls.map bu)/\ls.length<=65537/\∀l∈ls,l.length<=65536)):=by
 obtain⟨Y,V⟩:=N8 10 s;unfold Jo;split;exact⟨_,_,_,rfl,bE ag⟩;split;exact⟨_,_,_,rfl,bF ⟨rfl,[],bF ⟨rfl,rfl⟩,ag,af⟩⟩;split;refine⟨_,_,_,rfl,bF ⟨rfl,_,bE rfl,by rw[List.length_dropLast];omega,λl hl=>?_⟩⟩;have:=V l ((List.dropLast_sublist _).subset hl);omega;exact⟨_,_,_,rfl,bE ag⟩
section
variable{G:Cells}
def aDe(cA:gm G)(hI:Bz G)(s)(hs:s.length<=1000000):dM G bC 31 [bu s] ab6:=by
 refine ek (akl.go ?_);obtain⟨v,a,e,ahl,hq⟩:=aBx s;have sp:=aBv cA s aa;rw[ahl] at sp;refine wy ?_;refine dX sp ?_;refine wy ?_
 rcases hq with he|⟨rfl,ls,hv,hl1,gS⟩
 have q:(e !=0)=bh:=aJ8
 exact wy (Vt _ _);have ln:=hv.cH;rw[cM] at ln;refine wy ?_;refine dj (λi e h=>e=[(2,.mp 0 0),(8,.mp 1 0),(24,v),(25,bq ls.length),(26,bq i)]/\h[0]?=a_ (.cells [.bp,.bp] bf)/\O0 1 h) ls.length ⟨rfl,rfl,.bp,.bp,[],[],rfl,bE ⟨rfl,rfl⟩,bE ⟨rfl,rfl⟩,af,af,ag,ag⟩ ?_ ?_;rintro i e h Q ⟨rfl,h0,kH⟩;obtain⟨w,hw⟩:=dQ Q;have Ec:=gS w (cG hw);have e1:ct 1 v i=a_ (.fp [bu w] 0):=hv.cE (x:=bu w) aKe rfl;refine wy ?_;refine dX (aFs cA w aa) ?_;by_cases MS:w=[];subst MS;have e0:x6 []=(.bp,0):=rfl;rw[e0];have Yw:∀J,cH .bp J=a_ (.v (.int .i64 0),J):=λJ=>rfl;have c0:decide ((0:Int)<0)=bf:=rfl;refine jw @bq.eq_1 @Yw @c0 ?_;exact⟨trivial,h0,kH⟩;by_cases fM:(jr 32 w).all ER=bh;have e0:x6 w=(.sl ((jr 32 w).map bu) .no,0):=by unfold x6;rw[if_neg MS,if_pos fM]
 rw[e0];refine wy ?_;refine dm (λq=>?_) λq=>?_;refine ck (aqY cA hI kH (aGV aa 32)) ?_;rintro r g ⟨⟨e,rfl⟩,AB,hB⟩;have pK:=hB.2 _ _ _ ag h0;refine wy ?_;refine dm (λbt=>(Vt _ _)) λbt=>?_;exact⟨rfl,pK,AB⟩;exact⟨rfl,h0,kH⟩;have e0:x6 w=(.bp,2):=by unfold x6;rw[if_neg MS,if_neg fM]
 rw[e0];exact wy (Vt _ _);rintro e h ⟨rfl,h0,bB,mv,cv,marks,hS⟩;have oB:=aaP h0 rfl (Aa hS.n).1 (Aa hS.m).1;refine nV ?_;obtain⟨ku,b_,z2⟩:=anp (jX hS.n h0) λx I=>(hS.mO x I).fz _;obtain⟨nR,z3,z4⟩:=anp (jX hS.m h0) λx I=>(hS.hG x I).fz _;obtain⟨n,hn⟩:=(fB (bG (kf (bG b_ (bG z3 cX))) (bG (bH (.int .i64 0)) (bG (bH (.int .i64 0)) cX)))).done;exact⟨n,_,hn,ku,nR,0,0,rfl,cv,marks,z2,z4,hS.mO,hS.hG,hS.nl,hS.ml⟩
end
end
section
variable{x:List bg}{k:Nat}{g:List br}{a b:List UInt8}
def pz(x:List bg):Prop:=∃(y:List bg) (b:Bool) (cF:bg),x=y++[.v (.bool b),cF]/\vj y/\(cF=.v (.pointer bn)\/By cF)
structure tf(h:List br)(p bB mv:bg)(rows marks:List (List bg)):Prop where
 pp:ug h p [bB,mv]
 rr:oJ 11 h bB rows
 tJ:oJ 4 h mv marks
 rc:∀x∈rows,pz x
 hG:∀x∈marks,n_ x
 rl:rows.length<=24
 ml:marks.length<=8
def tf.ext{h h'}{p bB mv}{rows marks}(s:tf h p bB mv rows marks)(he:Ext h h'):tf h' p bB mv rows marks:=⟨s.pp.ext he,s.rr.ext he,s.tJ.ext he,s.rc,s.hG,s.rl,s.ml⟩
def pz.at(h:pz x):∃nm cm i p cg a al mv ex b cF,x=[bu nm,cm,.v (.bool i),.v (.bool p),.v (.bool cg),.v (.int .i64 a),.v (.bool al),mv,bu ex,.v (.bool b),cF]/\jf 4 cm/\jf 100001 mv/\ex.length<=40000/\(cF=.v (.pointer bn)\/By cF):=by
 obtain⟨y,b,cF,rfl,⟨nm,cm,i,p,cg,a,al,mv,ex,rfl,Y,V,h3⟩,h4⟩:=h;exact⟨nm,cm,i,p,cg,a,al,mv,ex,b,cF,rfl,Y,V,h3,h4⟩
section
variable{G:Cells}{h:List br}{p bB mv:bg}{rows marks:List (List bg)}
def ao5(s:tf h p bB mv rows marks):cq G bC 184 [p] h λr h'=>r=.v (.int .i64 (rows.length:Int))/\h'=h:=by
 refine XX.go ?_;obtain⟨q0,f0,_,l0⟩:=s.pp.fa 0;have Yl:=l0 h (E2 h) bB rfl;exact CH @s.pp.ne @s.pp.nl @s.rr.len tt
def aqi(h:List br)(rows:List (List bg))(t:Int)(r:bg):Prop:=(r=.v (.pointer bn)/\(t<1\/(rows.length:Int)<t))\/∃(i:Nat) (x:List bg),t=(i:Int)+1/\rows[i]?=a_ x/\ug h r x
def ady(s:tf h p bB mv rows marks)(t):cq G bC 131 [p,.v (.int .i64 t)] h λr h'=>aqi h rows t r/\h'=h:=by
 refine RE.go ?_;have nr:=s.rl;obtain⟨q0,f0,_,l0⟩:=s.pp.fa 0;have Yl:=l0 h (E2 h) bB rfl;refine iB @s.pp.ne ?_;refine dm (λq=>?_) λq=>?_;exact⟨bE ⟨rfl,bE ak⟩,trivial⟩;refine mw @s.pp.nl @s.rr.len ?_;refine dm (λbt=>?_) λbt=>?_;exact⟨bE ⟨rfl,bF aW⟩,trivial⟩;obtain⟨i,rfl⟩:∃i:Nat,t=(i)+1:=⟨(t-1).toNat,aq⟩;have Q:i<rows.length:=aKJ
 obtain⟨x,I⟩:=dQ Q;obtain⟨SD,Y,V⟩:=s.rr.cE i x I;have w1:de.wrap ((i)+1-1)=(i):=by rw[fO aa aa];omega
 refine iB @s.pp.nl ?_;exact⟨bF ⟨i,x,rfl,I,V⟩,trivial⟩
def ax8(s:tf h p bB mv rows marks)(t):cq G bC 69 [p,.v (.int .i64 t)] h λr h'=>jL r/\h'=h:=by
 refine XW.go ?_;refine wy (ck (ady s t) ?_);rintro r g ⟨ha,rfl⟩;refine iB @s.pp.ne ?_;refine dm (λq=>?_) λq=>?_;exact⟨⟨_,rfl⟩,trivial⟩
 rcases ha with⟨rfl,_⟩|⟨i,x,rfl,I,J⟩
 refine wx ?_;exact⟨⟨_,rfl⟩,trivial⟩;obtain⟨nm,cm,i1,p1,cg,a,al,uM,ex,b,cF,rfl,_⟩:=(s.rc x (cG I)).at
 obtain⟨q0,f0,atN,_⟩:=J.fa 0;obtain⟨bt,f2,_,l2⟩:=J.fa 2;have aI7:=l2 g (E2 g) _ rfl;refine CH @q @J.ne @J.nl ?_;exact⟨⟨_,rfl⟩,trivial⟩
def ayh(S:g[k]?=a_ (.cells [bu b] bf))(I:x[0]?=a_ (bu a)):
  jM G bC (.fn (.func 118) [] [.mp k 0]) [.agg x] g λr g'=>jL r/\∃l,g'=g++l:=by
 show cq G bC 118 [.agg x,.mp k 0] g _;refine aiS.go ?_;refine wy ?_;exact⟨⟨_,rfl⟩,_,rfl⟩
def ayi(S:g[k]?=a_ (.cells [bu b] bf))(I:x[0]?=a_ (bu a)):
  jM G bC (.fn (.func 120) [] [.mp k 0]) [.agg x] g λr g'=>jL r/\∃l,g'=g++l:=by
 show cq G bC 120 [.agg x,.mp k 0] g _;refine aiU.go ?_;refine wy ?_;exact⟨⟨_,rfl⟩,_,rfl⟩
def ax2{y v}{xs}(hv:oJ 11 h v xs)(hl:xs.length<=100000)(l_:∀x∈xs,∀g,Ext h g->jM G bC y [.agg x] g λr g'=>jL r/\∃l,g'=g++l):
  cq G bC 117 [v,y] h λr h'=>Uk xs.length r/\∃l,h'=h++l:=by
 refine aiR.go ?_;refine iB @hv.len ?_;refine dj (λi e g=>e=[(0,v),(1,y),(7,bq xs.length),(8,bq i)]/\∃l,g=h++l) xs.length ⟨rfl,[],af⟩ ?_ ?_;rintro i e g Q ⟨rfl,l,rfl⟩;obtain⟨x,I⟩:=dQ Q;obtain⟨q,Y,V⟩:=hv.cE i x I;have h3:=V.fA (h++l) lX;rw[(hv.el x (cG I))] at h3;refine wy (vb (l_ x (cG I) _ lX) ?_);rintro r g2 ⟨⟨b,rfl⟩,l2,rfl⟩;cases b with
 |true=>
  refine wy ?_;exact⟨⟨_,rfl,bF ⟨i,rfl,Q⟩⟩,l++l2,aKg⟩
 |false=>
  refine wx ?_;exact⟨rfl,l++l2,aKg⟩
 rintro e g ⟨rfl,l,rfl⟩;refine wy ?_;exact⟨⟨_,rfl,bE rfl⟩,l,rfl⟩
def aqp(n:Nat)(r:bg):Prop:=∃(t:Nat) (b:Bool),r=.bQ [.v (.int .i64 (t:Int)),.v (.bool b)]/\t<=n
def afz(s:tf h p bB mv rows marks)(w):cq G bC 61 [p,bu w] h λr h'=>aqp rows.length r/\∃l,h'=h++l:=by
 refine ait.go ?_;have nr:=s.rl;have et:dL .eql (bu w) (.v (.string ⟨[116,101,120,116].toArray⟩))=a_ (.v (.bool (w==[116,101,120,116]))):=oN w [116,101,120,116];have k1:(h++[bw [bu w] bf])[h.length]?=a_ (.cells [bu w] bf):=af
 have s1:=s.ext (h':=h++[bw [bu w] bf]) lX;obtain⟨q0,f0,_,l0⟩:=s1.pp.fa 0;have Yl:=l0 _ (E2 _) bB rfl;refine iB @s.pp.ne ?_;generalize hg:h++[bw [bu w] bf]=g at k1 s1 l0 Yl⊢;refine mS (eL k1) @et ?_;refine dm (λq=>?_) λq=>?_;exact⟨⟨0,bh,rfl,js _⟩,_,hg.symm⟩;refine iB @s1.pp.nl ?_;refine ck (ax2 s1.rr aa λx I g2 iJ=>?_) ?_;obtain⟨nm,cm,i1,p1,cg,a,al,uM,ex,b,cF,rfl,_⟩:=(s.rc x I).at
 exact ayh (iJ _ _ k1) rfl;rintro r g2 ⟨⟨m,rfl,hm⟩,l,rfl⟩
 rcases hm with rfl|⟨j,rfl,hj⟩
 refine wy ?_;exact⟨⟨0,_,rfl,js _⟩,[bw [bu w] bf]++l,by rw[<-hg,dR]⟩;refine wy ?_;exact⟨⟨j+1,_,rfl,aa⟩,[bw [bu w] bf]++l,by rw[<-hg,dR]⟩
end
end
def Ar(e:Int):List PanicEntry:=[{v:=.iface 85 (.agg #[.int .i64 e]),recovered:=bf}]
def zf{G}(b:Bool)(e:Int)(J):iE G bC 32 [b,e] J (λr h'=>b=bh/\h'=J) λch h'=>b=bf/\ch=Ar e/\h'=J:=by
 refine akm.Ay ?_;have f1:dJ [.v (.int .i64 0)] [(0,1,.v (.int .i64 e))]=a_ [.v (.int .i64 e)]:=rfl;have c1:rm (.eD 85 (.agg [e]))=a_ (.iface 85 (.agg #[.int .i64 e])):=rfl;cases b with
 |false=>
  refine wx ?_;exact⟨trivial,rfl,trivial⟩
 |true=>
  exact wx tt
section
variable{G:Cells}{h:List br}{p bB mv:bg}{rows marks:List (List bg)}
def atV(s:tf h p bB mv rows marks)(w):cq G bC 63 [p,bu w] h λr h'=>(∃(t:Int) (b:Bool),r=.bQ [t,b])/\∃l,h'=h++l:=by
 refine aiv.go ?_;have nN:=s.ml;have k1:(h++[bw [bu w] bf])[h.length]?=a_ (.cells [bu w] bf):=af
 have s1:=s.ext (h':=h++[bw [bu w] bf]) lX;obtain⟨q1,f1,_,l1⟩:=s1.pp.fa 1;have M6:=l1 _ (E2 _) mv rfl;have aJd:∀m:Int,pF bh [.v (.int .i64 m),.v (.int .i64 0)]=a_ (.v (.int .i64 (if(0:Int)>m then 0 else m))):=λm=>rfl;refine iB @s.pp.ne ?_;generalize hg:h++[bw [bu w] bf]=g at k1 s1 l1 M6⊢;refine jw @s1.pp.nl @f1 @M6 (ck (ah8 s1.tJ aa λx I g2 iJ=>?_) ?_);obtain⟨nm,v,al,bv,rfl,_⟩:=s.hG x I;exact ayi (iJ _ _ k1) rfl;rintro r g2 ⟨⟨m,rfl,hm⟩,l,rfl⟩;refine wy ?_;exact⟨⟨_,_,rfl⟩,[bw [bu w] bf]++l,by rw[<-hg,dR]⟩
def aAF(s:tf h p bB mv rows marks){k}(S:h[k]?=a_ (.cells [p] bf))(w):cq G bC 62 [bu w,.mp k 0] h λr h'=>jL r/\∃l,h'=h++l:=by
 refine aiu.go ?_;refine wy (ck (atV s w) ?_);rintro r g ⟨⟨t,b,rfl⟩,l,rfl⟩;refine wy ?_;exact⟨⟨_,rfl⟩,l,rfl⟩
def sL(n:Nat):bg:=bq (n:Int)
def au4(s:tf h p bB mv rows marks)(w):cq G bC 124 [p,bu w] h λr h'=>(∃ts:List Nat,cC r (ts.map sL)/\(∀t∈ts,t<=24)/\ts.length<=24)/\h'=h:=by
 refine cq.Vm (aiY.go ?_);have nr:=s.rl;refine wy ?_;refine dj (λi e g=>∃ts bx,e=[(0,p),(1,bu w),(5,bx),(6,((i+1:Nat):Int))]/\Ext h g/\cT g bx (ts.map sL) 1 3/\(∀id,Bh bx id->h.length<=id)/\(∀t∈ts,t<=24)/\ts.length<=i) rows.length ⟨[],.bp,rfl,E2 h,bE ⟨rfl,rfl⟩,λid ⟨_,q⟩=>ay,af,js _⟩ ?_ ?_;rintro i e g Q ⟨ts,bx,rfl,hE,hA,hid,ht,Ea⟩;have s1:=s.ext hE;refine wy (ck (ao5 s1) ?_);rintro r g1 ⟨rfl,rfl⟩;refine wy (ck (ady s1 ((i+1:Nat):Int)) ?_);rintro r g2 ⟨jO,rfl⟩;obtain⟨x,I,J⟩:∃x,rows[i]?=a_ x/\ug g2 r x:=by
  rcases jO with⟨_,z⟩|⟨j,x,z,I,J⟩
  omega;obtain rfl:j=i:=aa
  exact⟨x,I,J⟩
 obtain⟨nm,cm,i1,p1,cg,a,al,uM,ex,b,cF,rfl,DS,_⟩:=(s.rc x (cG I)).at
 obtain⟨q0,f0,atN,_⟩:=J.fa 0;obtain⟨q1,f1,_,l1⟩:=J.fa 1;have M6:=l1 g2 (E2 _) cm rfl;obtain⟨gs,AN,kO⟩:=DS;have w2:de.wrap (((i+1:Nat):Int)+1)=((i+1+1:Nat):Int):=nx aa;refine iB @J.nl (hU (Lo AN (qI AN) aa w) (bX (qI AN) (bX (ux _) dc)) ?_);refine wy (cN (λq=>?_) λq=>?_);have ami:cZ 1 (ts.map sL)=bh:=by
  rw[cZ,eP];intro y hy;obtain⟨t,_,rfl⟩:=eg.1 hy;rfl
 obtain⟨cU,g3,dr,rA,bR,bK,vO⟩:=nc (x:=sL (i+1)) (b9:=8) hA ami rfl ag ag ah;have ab:eV 1 [((i+1:Nat):Int)]=a_ (.sl [sL (i+1)] .exact):=rfl;refine wy ?_;refine⟨ts++[i+1],cU,rfl,λj b O=>vO j b (hE j b O) λxs e=>?_,by rw[gf];exact rA,λid ⟨xs,e⟩=>?_,λt h=>?_,ah⟩;have:=hid j ⟨xs,e⟩;have:=gl O;omega
 rcases rA with⟨z,_⟩|⟨nP,z,z2⟩
 rw[z] at e;cases e;rw[z] at e;cases e
 rcases hA with⟨y,fV⟩|⟨XI,y,fV⟩
 rw[y] at dr;have Vx:ef g2 1 8 3 .bp (.sl [sL (i+1)] .exact)=a_ (.sl [sL (i+1)] (.tok g2.length),g2++[.tok 1 1 3]):=rfl;rw[Vx] at dr;cases dr;injection z with b_ z2
 injection z2 with z3
 have:=hE.len;omega;rw[y] at dr;have h4:¬([sL (i+1)]=([]:List bg)):=af
 have o1:cZ 1 [sL (i+1)]=bh:=rfl;have Vx:ef g2 1 8 3 (.sl (ts.map sL) (.tok XI)) (.sl [sL (i+1)] .exact)=a_ (.sl (ts.map sL++[sL (i+1)]) (.tok XI),g2.set XI (.tok ((ts.map sL).length+1) 1 3)):=by
  simp only[ef,gG,iy,ij,o1,ami,h4,if_false,and_self,wN,if_true,true_and,fV,eW,hY,gk];rw[if_pos ah]
 rw[Vx] at dr;cases dr;cases z;exact hid _ ⟨_,y⟩
 rcases gj.1 h with h|h
 exact ht t h;rw[dP.1 h];omega;refine mS @q @w2 ?_;exact⟨ts,bx,rfl,hE,hA,hid,ht,aa⟩;rintro e g ⟨ts,bx,rfl,hE,hA,hid,ht,Ea⟩;refine wy (ck (ao5 (s.ext hE)) ?_);rintro r g1 ⟨rfl,rfl⟩;refine wy ?_;refine⟨hE.split,?_⟩
 rcases hA with⟨rfl,z⟩|⟨id,rfl,_⟩
 obtain⟨n,hn⟩:=(ez:b7 (ou h.length g1) _ _).done;exact⟨n,_,hn,ts,bF ⟨rfl,z⟩,ht,aa⟩;obtain⟨n,hn⟩:=(gU (iC λa _=>bH _):b7 (ou h.length g1) _ _).done;exact⟨n,_,hn,ts,bE rfl,ht,aa⟩
def asw{v}{ts:List Nat}(h:cC v (ts.map sL)):eM v:=by
 rcases h with rfl|⟨rfl,_⟩
 refine k6 λx I c T=>?_;obtain⟨n,_,rfl⟩:=eg.1 I;rw[dP.1 (show c∈[sL n] from T)];exact dn _;exact FD (n:=1) rfl
def alC(s:tf h p bB mv rows marks)(w):cq G bC 65 [p,bu w] h λr h'=>∃B l,r=cc B/\h'=h++l:=by
 refine aix.go ?_;have nr:=s.rl;have s1:=s.ext (h':=h++[bw (bY 0) bf]) lX;have fin:∀(l) (B),(h++[bw (bY 0) bf]++l).set h.length (.cells (bY B) bf)=h++([bw (bY B) bf]++l):=λl B=>by
  rw[dR,ap8 _ _ (cj _),mU];rfl
 refine wy (ck (afz s1 w) ?_);rintro r g ⟨⟨t,b,rfl,ht⟩,l,rfl⟩;have k2:(h++[bw (bY 0) bf]++l)[h.length]?=a_ (.cells (bY 0) bf):=bT af;cases b with
 |true=>
  have ab:eV 1 [t]=a_ (.sl ([t].map λn:Nat=>bq (n)) .exact):=rfl;have sp:cY G bC 123 [.sl ([t].map λn:Nat=>bq (n)) .no] (cc (fU [t])):=Zb (bE rfl) (λn hn=>by rw[dP.1 hn];omega) af;have st:=K_ k2 (fU [t]);have gK:=bU (a:=.cells (bY (fU [t])) bf) (gl k2);refine rW (hU sp (bX (k6 λx I c T=>?_) dc) ?_);obtain⟨n,_,rfl⟩:=eg.1 I;rw[dP.1 (show c∈[bq (n)] from T)];exact dn _;refine mS @st (Ae gK) ?_;exact⟨_,_,rfl,fin l _⟩
 |false=>
  refine wy (ck (au4 (s1.ext lX) w) ?_);rintro v g2 ⟨⟨ts,hv,Y,V⟩,rfl⟩;have st:=K_ k2 (fU ts);have gK:=bU (a:=.cells (bY (fU ts)) bf) (gl k2);refine wy (hU (Zb hv (λn hn=>by have:=Y n hn;omega) aa) (bX (asw hv) dc) ?_);refine mS @st (Ae gK) ?_;exact⟨_,_,rfl,fin l _⟩
def aCc(s:tf h p bB mv rows marks):C2 G h (.fn (.func 65) [p] []):=
 ⟨rfl,λw g hw hg=>by
  show cq G bC 65 [p,bu w] g _;exact alC (s.ext hg) w⟩
end
def aF5{cF}(h:cF=.v (.pointer bn)\/By cF):cr cF=bh:=by
 rcases h with rfl|⟨rows,rfl,_⟩<;>rfl
def pz.len{x}(h:pz x):x.length=11/\x.all cr=bh:=by
 obtain⟨nm,cm,i,p,cg,a,al,mv,ex,b,cF,rfl,hg,hm,_,ht⟩:=h.at
 refine⟨rfl,?_⟩;simp only[pY,sY,hg.one.1,hm.one.1,aF5 ht];rfl
@[go_sem]def ann{n k}{h}{Z x}(O:h[k]?=a_ (.cells Z bf))(T:Z.length=n)(I:x.length=n)(Y:x.all cr=bh):bL h n (.mp k 0) (.agg x)=a_ (h.set k (.cells x bf)):=by
 have e:(dG x).cells=x:=rfl;simp only[bL,O,fq];rw[e,if_pos ⟨I,aa,Y⟩];unfold dV;rw[oG,gN,gk,I,sZ aa,gd]
@[go_sem]def N2{n}(h){z x}(hz:z.length=n)(I:x.length=n)(Y:x.all cr=bh):bL (h++[bw z bf]) n (.mp h.length 0) (.agg x)=a_ (h++[bw x bf]):=by
 rw[ann af hz I Y];simp
def SW:List bg:=[.v (.string ⟨[].toArray⟩),.bp,bf,bf,bf,(0:Int),bf,.bp,.v (.string ⟨[].toArray⟩),bf,.v (.pointer bn)]
def Ext.trans{a b c}(h:Ext a b)(k:Ext b c):Ext a c:=λj x q=>k j x (h j x q)
section
variable{G:Cells}{h:List br}{p bB mv:bg}{rows marks:List (List bg)}
def aCs(s:tf h p bB mv rows marks)(eI:p.cells=[p]):iE G bC 33 [p] h (λr h'=>(∃l,h'=h++l)/\0<rows.length) λch h'=>∃e,e≠0/\ch=Ar e/\∃l,h'=h++l:=by
 refine akn.Ay ?_;have nr:=s.rl;have nN:=s.ml;have oQ:Ext h (h++[bw [p] bf]):=lX;have k1:(h++[bw [p] bf])[h.length]?=a_ (.cells [p] bf):=af
 obtain⟨q0,f0,_,l0⟩:=s.pp.fa 0;obtain⟨q1,f1,_,l1⟩:=s.pp.fa 1;have kk:∀g,Ext (h++[bw [p] bf]) g->bz g bf 1 (.mp h.length 0)=a_ p/\bz g bf 1 q0=a_ bB/\bz g bf 1 q1=a_ mv:=λg hg=>⟨eL (hg _ _ k1),l0 g (oQ.trans hg) bB rfl,l1 g (oQ.trans hg) mv rfl⟩;have bad:∀(e) (g),e≠0->Ext (h++[bw [p] bf]) g->∃e',e'≠0/\Ar e=Ar e'/\∃l,g=h++l:=λe g he hg=>⟨e,he,rfl,(oQ.trans hg).split⟩;have hz:[cI (.string ⟨[].toArray⟩),.bp,bf,bf,bf,(0:Int),bf,.bp,.v (.string ⟨[].toArray⟩),bf,.v (.pointer bn)]=SW:=rfl;have ahY:[cI (.string ⟨[].toArray⟩),(0:Int),bf,.bp]=gq:=rfl;refine iP (λe g=>e=[(1,.mp h.length 0)]/\g=h++[bw [p] bf]) ?_ ?_;exact wx tt;rintro e g ⟨rfl,rfl⟩;generalize h++[bw [p] bf]=O at oQ k1 kk bad⊢;refine iP (λe g=>e=[(1,.mp h.length 0)]/\g=O/\0<rows.length) ?_ ?_;refine mw @s.pp.nl @s.rr.len (gT (zf _ 14 O) ?_ ?_);rintro r g ⟨iT,rfl⟩;refine wx ?_;exact⟨trivial,trivial,by simpa using iT⟩;rintro ch g ⟨_,rfl,rfl⟩;exact bad 14 g ag (E2 _);rintro e g ⟨rfl,rfl,rG⟩;refine iP (λe g'=>e=[(1,.mp h.length 0)]/\Ext g g') ?_ ?_;refine mw @s.pp.nl @s.rr.len ?_;refine dj (λi e g'=>e=[(1,.mp h.length 0),(29,bB),(30,bq rows.length),(31,bq i)]/\Ext g g') rows.length ⟨rfl,E2 _⟩ ?_ ?_;rintro i e g1 Q ⟨rfl,hE⟩;obtain⟨x,I⟩:=dQ Q;have lP:=s.rc x (cG I);obtain⟨SD,Y,V⟩:=s.rr.cE i x I;have h3:=V.fA g1 (oQ.trans hE);rw[lP.len.1] at h3;have n1:=N2 (n:=11) g1 (z:=SW) rfl lP.len.1 lP.len.2;have kx:(g1++[bw x bf])[g1.length]?=a_ (.cells x bf):=af
 have lK:Ext g (g1++[bw x bf]):=hE.pG;obtain⟨nm,cm,i1,p1,cg,a,al,uM,ex,b,cF,rfl,DS,_⟩:=lP.at
 obtain⟨gs,AN,kO⟩:=DS;have Na:=AN.cH;rw[cM] at Na;refine wy ?_;refine wy ?_;refine dj (λj e g'=>e=[(1,.mp h.length 0),(29,bB),(30,bq rows.length),(31,bq i),(37,cm),(38,bq gs.length),(39,bq j)]/\Ext g g') gs.length ⟨rfl,lK⟩ ?_ ?_;rintro j e g3 hj ⟨rfl,qj⟩;obtain⟨w,hw⟩:=dQ hj;have e1:ct 1 cm j=a_ (.fp [bu w] 0):=AN.cE (x:=bu w) aKe rfl;refine wy (ck (afz (s.ext (oQ.trans qj)) w) ?_);rintro r g4 ⟨⟨t,b,rfl,_⟩,l,rfl⟩;refine wy (gT (zf _ 9 _) ?_ ?_);rintro r g5 ⟨_,rfl⟩;refine wx ?_;exact⟨rfl,qj.pG⟩;rintro ch g5 ⟨_,rfl,rfl⟩;exact bad 9 _ ag qj.pG;rintro e g3 ⟨rfl,qj⟩;refine e5 @bq.eq_1 ?_;exact⟨trivial,qj⟩;rintro e g1 ⟨rfl,hE⟩;refine e5 @bq.eq_1 ?_;exact⟨trivial,hE⟩;rintro e g1 ⟨rfl,hE⟩;obtain⟨x0,Je⟩:=dQ rG;obtain⟨aDK,vH,pK⟩:=s.rr.cE 0 x0 Je;obtain⟨alX,aIe,i0,iM,aBq,aHE,aHF,aJf,aH7,aHM,aJD,rfl,_⟩:=(s.rc x0 (cG Je)).at
 refine iP (λe g'=>e=[(1,.mp h.length 0)]/\g'=g1) ?_ ?_
 · obtain⟨bV,rV,v0,_⟩:=pK.fa 0
   obtain⟨r2,u2,_,w2⟩:=pK.fa 2;obtain⟨Ba,u4,_,zF⟩:=pK.fa 4;have aJH:=w2 g1 (oQ.trans hE) _ rfl;have Og:=zF g1 (oQ.trans hE) _ rfl;have aIf:ct 11 bB (0:Int)=a_ aDK:=vH;have done:∀b:Bool,iE G bC 32 [b,(13:Int)] g1 (λr h'=>h'=g1) λch h'=>ch=Ar 13/\h'=g1:=λb=>gT (zf b 13 g1) (λr h' q=>q.2) λch h' q=>q.2;cases aBq with
   |true=>
    refine iB @s.pp.nl (gT (done _) ?_ ?_);rintro r g2 rfl;exact wx tt;rintro ch g2 ⟨rfl,rfl⟩;exact bad 13 _ ag hE
   |false=>
    refine iB @s.pp.nl (gT (done _) ?_ ?_);rintro r g2 rfl;exact wx tt;rintro ch g2 ⟨rfl,rfl⟩;exact bad 13 _ ag hE
 rintro e g2 ⟨rfl,rfl⟩;refine iP (λe g'=>e=[(1,.mp h.length 0)]/\Ext g g') ?_ ?_;refine mw @s.pp.nl @s.rr.len ?_;refine dj (λi e g'=>e=[(1,.mp h.length 0),(78,bB),(79,bq rows.length),(80,bq i)]/\Ext g g') rows.length ⟨rfl,hE⟩ ?_ ?_
 · rintro i e g1 Q ⟨rfl,hE⟩
   obtain⟨x,I⟩:=dQ Q;have lP:=s.rc x (cG I);obtain⟨SD,Y,V⟩:=s.rr.cE i x I;have h3:=V.fA g1 (oQ.trans hE);rw[lP.len.1] at h3;have n1:=N2 (n:=11) g1 (z:=SW) rfl lP.len.1 lP.len.2;have kx:(g1++[bw x bf])[g1.length]?=a_ (.cells x bf):=af
   have lK:Ext g (g1++[bw x bf]):=hE.pG;obtain⟨nm,cm,i1,p1,cg,a,al,uM,ex,b,cF,rfl,DS,_⟩:=lP.at
   refine wy ?_;generalize g1++[bw _ bf]=g2 at kx lK⊢;have done:∀b:Bool,iE G bC 32 [b,(13:Int)] g2 (λr h'=>h'=g2) λch h'=>ch=Ar 13/\h'=g2:=λb=>gT (zf b 13 g2) (λr h' q=>q.2) λch h' q=>q.2;cases cg with
   |true=>
    refine wy (gT (done _) ?_ ?_);rintro r g3 rfl;refine fF ?_;exact⟨rfl,lK⟩;rintro ch g3 ⟨rfl,rfl⟩;exact bad 13 _ ag lK
   |false=>
    refine wy (gT (done _) ?_ ?_);rintro r g3 rfl;refine fF ?_;exact⟨rfl,lK⟩;rintro ch g3 ⟨rfl,rfl⟩;exact bad 13 _ ag lK
 rintro e g1 ⟨rfl,hE⟩;refine e5 @bq.eq_1 ?_;exact⟨trivial,hE⟩;rintro e g3 ⟨rfl,qj⟩;refine iP (λe g'=>e=[(1,.mp h.length 0),(10,.fn (.func 62) [] [.mp h.length 0])]/\g'=g3) ?_ ?_;exact wx tt;rintro e g4 ⟨rfl,rfl⟩;have akR:∀(g'),Ext g g'->∀w,cq G bC 62 [bu w,.mp h.length 0] g' λr h'=>jL r/\∃l,h'=g'++l:=λg' Q2 w=>aAF (s.ext (oQ.trans Q2)) (Q2 _ _ k1) w;refine iP (λe g'=>e=[(1,.mp h.length 0),(10,.fn (.func 62) [] [.mp h.length 0])]/\Ext g g') ?_ ?_;refine mw @s.pp.nl @s.rr.len ?_;refine dj (λi e g'=>e=[(1,.mp h.length 0),(10,.fn (.func 62) [] [.mp h.length 0]),(99,bB),(100,bq rows.length),(101,bq i)]/\Ext g g') rows.length ⟨rfl,qj⟩ ?_ ?_;rintro i e g1 Q ⟨rfl,hE⟩;obtain⟨x,I⟩:=dQ Q;have lP:=s.rc x (cG I);obtain⟨SD,Y,V⟩:=s.rr.cE i x I;have h3:=V.fA g1 (oQ.trans hE);rw[lP.len.1] at h3;have n1:=N2 (n:=11) g1 (z:=SW) rfl lP.len.1 lP.len.2;have kx:(g1++[bw x bf])[g1.length]?=a_ (.cells x bf):=af
 have lK:Ext g (g1++[bw x bf]):=hE.pG;obtain⟨nm,cm,i1,p1,cg,a,al,uM,ex,b,cF,rfl,DS,k_,_⟩:=lP.at
 obtain⟨ms,Mx,awM⟩:=k_;have Na:=Mx.cH;rw[cM] at Na;refine wy ?_;refine wy ?_;refine dj (λj e g'=>e=[(1,.mp h.length 0),(10,.fn (.func 62) [] [.mp h.length 0]),(99,bB),(100,bq rows.length),(101,bq i),(107,uM),(108,bq ms.length),(109,bq j)]/\Ext g g') ms.length ⟨rfl,lK⟩ ?_ ?_;rintro j e g3 hj ⟨rfl,qj⟩;obtain⟨w,hw⟩:=dQ hj;have e1:ct 1 uM j=a_ (.fp [bu w] 0):=Mx.cE (x:=bu w) aKe rfl;refine wy (ck (akR g3 qj w) ?_);rintro r g4 ⟨⟨b,rfl⟩,l,rfl⟩;refine wy (gT (zf _ 6 _) ?_ ?_);rintro r g5 ⟨_,rfl⟩;refine wx ?_;exact⟨rfl,qj.pG⟩;rintro ch g5 ⟨_,rfl,rfl⟩;exact bad 6 _ ag qj.pG;rintro e g3 ⟨rfl,qj⟩;refine e5 @bq.eq_1 ?_;exact⟨trivial,qj⟩;rintro e g1 ⟨rfl,hE⟩;refine e5 @bq.eq_1 ?_;exact⟨trivial,hE⟩;rintro e g5 ⟨rfl,avk⟩;refine mw @s.pp.nl @s.tJ.len ?_;refine dj (λi e g'=>e=[(10,.fn (.func 62) [] [.mp h.length 0]),(122,mv),(123,bq marks.length),(124,bq i)]/\Ext g g') marks.length ⟨rfl,avk⟩ ?_ ?_;rintro i e g1 Q ⟨rfl,hE⟩;obtain⟨x,I⟩:=dQ Q;have lP:=s.hG x (cG I);obtain⟨SD,Y,V⟩:=s.tJ.cE i x I;have h3:=V.fA g1 (oQ.trans hE);rw[lP.ok.1] at h3;have n1:=N2 (n:=4) g1 (z:=gq) rfl lP.ok.1 lP.ok.2.1;have kx:(g1++[bw x bf])[g1.length]?=a_ (.cells x bf):=af
 have lK:Ext g (g1++[bw x bf]):=hE.pG;obtain⟨nm,v,al,bv,rfl,xu⟩:=lP;obtain⟨ms,Mx,awM⟩:=xu;have Na:=Mx.cH;rw[cM] at Na;refine rW ?_;generalize g1++[bw _ bf]=g2 at kx lK⊢;generalize g1.length=m at kx⊢;have RT:bz g2 bf 1 (.mp m 3)=a_ bv:=by simp only[bz,kx];rfl
 refine wx ?_;refine dj (λj e g'=>e=[(10,.fn (.func 62) [] [.mp h.length 0]),(122,mv),(123,bq marks.length),(124,bq i),(129,bv),(130,bq ms.length),(131,bq j)]/\Ext g g') ms.length ⟨rfl,lK⟩ ?_ ?_;rintro j e g3 hj ⟨rfl,qj⟩;obtain⟨w,hw⟩:=dQ hj;have e1:ct 1 bv j=a_ (.fp [bu w] 0):=Mx.cE (x:=bu w) aKe rfl;refine wy (ck (akR g3 qj w) ?_);rintro r g4 ⟨⟨b,rfl⟩,l,rfl⟩;refine wy (gT (zf _ 6 _) ?_ ?_);rintro r g5 ⟨_,rfl⟩;refine wx ?_;exact⟨rfl,qj.pG⟩;rintro ch g5 ⟨_,rfl,rfl⟩;exact bad 6 _ ag qj.pG;rintro e g3 ⟨rfl,qj⟩;refine e5 @bq.eq_1 ?_;exact⟨trivial,qj⟩;rintro e g1 ⟨rfl,hE⟩;refine e5 @bq.eq_1 ?_;exact⟨(oQ.trans hE).split,rG⟩
end
section
variable{i j o:Nat}{b':br}{x:List bg}{y:bg}
structure pq(ks bZ:Nat)(bB mv:bg)(rows marks:List (List bg))(h:List br):Prop where
 b:h[ks]?=a_ (.cells [bB,mv] bf)
 r:j5 11 h bZ bB rows
 m:r8 mv marks
 rc:∀x∈rows,pz x
 hG:∀x∈marks,n_ x
 rl:rows.length<=24
 ml:marks.length<=8
section
variable{ks bZ:Nat}{bB mv:bg}{rows marks:List (List bg)}{h:List br}
def pq.A(s:pq ks bZ bB mv rows marks h):tf h (.mp ks 0) bB mv rows marks:=⟨ug.mp s.b,oJ.row s.r,oJ.slc h s.m λx I=>(s.hG x I).ok.1,s.rc,s.hG,s.rl,s.ml⟩
def pq.ext{h'}(s:pq ks bZ bB mv rows marks h)(he:Ext h h'):pq ks bZ bB mv rows marks h':=⟨he _ _ s.b,s.r.keep λZ q=>he _ _ q,s.m,s.rc,s.hG,s.rl,s.ml⟩
def pq.set(s:pq ks bZ bB mv rows marks h)(Y:j≠ks)(V:j≠bZ):pq ks bZ bB mv rows marks (h.set j b'):=⟨by rw[bD Y];exact s.b,s.r.keep λZ q=>by rw[bD V];exact q,s.m,s.rc,s.hG,s.rl,s.ml⟩
def pq.ne(s:pq ks bZ bB mv rows marks h):ks≠bZ:=by
 rintro rfl;have V:=s.r.b;rw[s.b] at V;simp at V
def pq.write(s:pq ks bZ bB mv rows marks h)(I:rows[i]?=a_ x)(ho:o+1<=11)(hy:y.cells=[y])(Y:cr y=bh)(D:pz (dV x o [y])):
  bL h 1 (.rp bZ rows.flatten.length (i*11+o)) y=a_ (h.set bZ (.cells (rows.set i (dV x o [y])).flatten bh))/\pq ks bZ bB mv (rows.set i (dV x o [y])) marks (h.set bZ (.cells (rows.set i (dV x o [y])).flatten bh)):=by
 obtain⟨q1,bt⟩:=s.r.st I (by rw[hy];rfl) ho (by rw[hy];simp[Y]);rw[hy] at q1 bt;refine⟨q1,⟨by rw[bD (eX s.ne)];exact s.b,bt,s.m,λz hz=>?_,s.hG,by rw[wG];exact s.rl,s.ml⟩⟩
 rcases T3 hz with q|rfl
 exact s.rc z q;exact D
end
structure mD(ks bZ i m n:Nat)(bB mv:bg)(marks:List (List bg))(N:Nat)(h0:List br)(rows:List (List bg))(g:List br):Prop where
 s:pq ks bZ bB mv rows marks g
 kp:∀(j:Nat) b,j≠bZ->h0[j]?=a_ b->g[j]?=a_ b
 le:h0.length<=g.length
 b2:g[n]?=a_ (.cells [.mp ks 0] bf)
 b3:g[n+1]?=a_ (.cells [.rp bZ m (i*11)] bf)
 hn:h0.length<=n
 len:rows.length=N
 hm:rows.flatten.length=m
 lt:ks<h0.length/\bZ<h0.length/\i<N
section
variable{ks bZ i m n:Nat}{bB mv:bg}{marks:List (List bg)}{N:Nat}{h0:List br}{rows:List (List bg)}{g:List br}
def mD.ext{g'}(c:mD ks bZ i m n bB mv marks N h0 rows g)(he:Ext g g'):mD ks bZ i m n bB mv marks N h0 rows g':=
 ⟨c.s.ext he,λj b hj q=>he _ _ (c.kp j b hj q),h_ c.le he.len,he _ _ c.b2,he _ _ c.b3,c.hn,c.len,c.hm,c.lt⟩
def mD.set(c:mD ks bZ i m n bB mv marks N h0 rows g)(hj:n+2<=j):mD ks bZ i m n bB mv marks N h0 rows (g.set j b'):=by
 have:=c.lt;have:=c.hn;refine⟨c.s.set aa aa,λj' b vN q=>?_,by simpa using c.le,?_,?_,c.hn,c.len,c.hm,c.lt⟩;have:=gl q;rw[bD aa];exact c.kp j' b vN q;rw[bD aa];exact c.b2;rw[bD aa];exact c.b3
@[go_sem]def mD.at(c:mD ks bZ i m n bB mv marks N h0 rows g):∃x,rows[i]?=a_ x/\pz x/\∀o y,x[o]?=a_ y->bz g bf 1 (.rp bZ m (i*11+o))=a_ y:=by
 have hl:i<rows.length:=by rw[c.len];exact c.lt.2.2
 refine⟨rows[i],cz hl,c.s.rc _ (abL hl),λo y hy=>?_⟩;have I:=cz hl;have Y:=(c.s.r.each _ (abL hl)).1;have:=c.s.r.iW I (by have:=(gl hy);omega) hy
 rwa [c.hm] at this
def mD.write(c:mD ks bZ i m n bB mv marks N h0 rows g)(I:rows[i]?=a_ x)(ho:o+1<=11)(hy:y.cells=[y])(Y:cr y=bh)(D:pz (dV x o [y])):
  ∃jq g',bL g 1 (.rp bZ m (i*11+o)) y=a_ g'/\mD ks bZ i m n bB mv marks N h0 jq g'/\∀(j) b,j≠bZ->g[j]?=a_ b->g'[j]?=a_ b:=by
 obtain⟨q1,bt⟩:=c.s.write I ho hy Y D;rw[c.hm] at q1;have cQ:=c.lt;have hn:=c.hn;have kp:∀(j) b,j≠bZ->g[j]?=a_ b->(g.set bZ (.cells (rows.set i (dV x o [y])).flatten bh))[j]?=a_ b:=λj b hj q=>aLp
 refine⟨_,_,q1,⟨bt,λj b hj q=>kp j b hj (c.kp j b hj q),by simpa using c.le,kp _ _ aa c.b2,kp _ _ aa c.b3,c.hn,by rw[wG];exact c.len,?_,c.lt⟩,kp⟩;rw[DB bt.r.each,wG,<-DB c.s.r.each];exact c.hm
def mD.fin{g2}(c:mD ks bZ i m n bB mv marks N h0 rows g)(he:n7 h0.length g g2):mD ks bZ i m n bB mv marks N h0 rows g2:=by
 have kc:∀(j:Nat) Z fz,g[j]?=a_ (.cells Z fz)->g2[j]?=a_ (.cells Z fz):=λj Z fz q=>by
  rcases he.2 j with z|⟨_,z,_⟩
  rw[z];exact q;rw[z] at q;cases q
 refine⟨⟨kc _ _ _ c.s.b,c.s.r.keep λZ q=>kc _ _ _ q,c.s.m,c.s.rc,c.s.hG,c.s.rl,c.s.ml⟩,λj b hj q=>?_,by rw[he.1];exact c.le,kc _ _ _ c.b2,kc _ _ _ c.b3,c.hn,c.len,c.hm,c.lt⟩;have kR:=gl q
 rcases he.2 j with z|⟨z,_,_⟩
 rw[z];exact c.kp j b hj q;omega
end
@[go_sem]def ZJ(h:o<x.length):dV x o [y]=x.set o y:=by
 unfold dV;rw[pZ,ap9,if_pos h,dR];rfl
def Uf(ks bZ:Nat)(bB mv:bg)(marks:List (List bg))(N:Nat)(h0 h':List br):Prop:=∃rows,pq ks bZ bB mv rows marks h'/\rows.length=N/\h0.length<=h'.length/\∀(j:Nat) b,j≠bZ->h0[j]?=a_ b->h'[j]?=a_ b
def mD.q{ks bZ i m n}{bB mv}{marks}{N}{h0}{rows}{g}(c:mD ks bZ i m n bB mv marks N h0 rows g):Uf ks bZ bB mv marks N h0 g:=⟨rows,c.s,c.len,c.le,c.kp⟩
def ab3(ks bZ:Nat)(bB mv:bg)(marks:List (List bg))(N:Nat)(h0:List br)(ch:List PanicEntry)(h':List br):Prop:=∃e,e≠0/\ch=Ar e/\Uf ks bZ bB mv marks N h0 h'
section
variable{G:Cells}
def asV(cA:gm G){ks bZ}{bB mv}{rows marks}{h}(s:pq ks bZ bB mv rows marks h)(Q:i<rows.length):
  iE G bC 34 [.mp ks 0,.rp bZ rows.flatten.length (i*11)] h (λr h'=>Uf ks bZ bB mv marks rows.length h h') (ab3 ks bZ bB mv marks rows.length h):=by
 refine ako.Ay ?_;have c0:(cD ks 0).cells=[.mp ks 0]:=rfl;have c1:(bg.rp bZ rows.flatten.length (i*11)).cells=[.rp bZ rows.flatten.length (i*11)]:=rfl;have AA:mD ks bZ i rows.flatten.length h.length bB mv marks rows.length h rows (h++[bw [cD ks 0] bf]++[bw [bg.rp bZ rows.flatten.length (i*11)] bf]):=
  ⟨(s.ext lX).ext lX,λj b _ q=>bT (bT q),af,af,aJ4,cj _,rfl,rfl,gl s.b,gl s.r.b,Q⟩
 generalize rows.length=N at AA⊢;generalize awK:rows.flatten.length=m at AA c1⊢;have gM:∀(e) (g),e≠0->(∃jq,mD ks bZ i m h.length bB mv marks N h jq g)->∀bl,n7 h.length g bl->ab3 ks bZ bB mv marks N h (Ar e) bl:=λe g he ⟨jq,T⟩ bl D=>⟨e,he,rfl,(T.fin D).q⟩;refine eu (λe g=>e=[(2,.mp h.length 0),(3,.mp (h.length+1) 0)]/\g=h++[bw [cD ks 0] bf]++[bw [bg.rp bZ m (i*11)] bf]) ?_ ?_;refine CG @c0 @c1 @ec.{0} @eW.{0} @hY.{0} @gk ?_;exact⟨trivial,trivial⟩;rintro e g ⟨rfl,rfl⟩;generalize h++[bw [cD ks 0] bf]++[bw [bg.rp bZ m (i*11)] bf]=g at AA⊢;clear awK s Q;obtain⟨x,I,lP,sG⟩:=AA.at
 obtain⟨nm,cm,i1,p1,cg,a,al,uM,ex,b,cF,rfl,DS,k_,WU,aIX⟩:=lP.at
 have l4:=sG 4 _ rfl;have GC:=sG 8 _ rfl;have Jz:yK (.rp bZ m (i*11))=a_ (.rp bZ m (i*11)):=rfl;have IB:∀o,lC o (.rp bZ m (i*11))=a_ (.rp bZ m (i*11+o)):=λo=>rfl;have V2:∀o,lC o (.rp bZ m (i*11+0))=a_ (.rp bZ m (i*11+o)):=λo=>rfl;cases cg with
 |true=>
  refine qx (eL AA.b3) @Jz @IB @V2 @l4 ?_;rw[Cu];intro bl he;exact fF ((AA.fin he).q)
 |false=>
  refine iP (λe g'=>e=[(2,.mp h.length 0),(3,.mp (h.length+1) 0)]/\g'=g) ?_ ?_;exact qx (eL AA.b3) @Jz @IB @V2 @l4 tt;rintro e g' ⟨rfl,rfl⟩;refine eu (λe uz=>∃v ps,e=[(2,.mp h.length 0),(3,.mp (h.length+1) 0),(4,v)]/\s_ v ps/\uz=g') ?_ ?_;refine qx (eL AA.b3) @Jz @IB @V2 @GC ?_;refine ei (Zv cA ex aa) ?_;rintro r ⟨v,SC,Aq,rfl,hq⟩;obtain⟨ps,hE⟩:∃ps,s_ v ps:=by
   rcases hq with⟨_,_,ps,hE⟩|⟨_,rfl⟩
   exact⟨ps,hE⟩;exact⟨[],bF ⟨rfl,rfl⟩,λi p h=>au,ag,af⟩
  refine e5 @bq.eq_1 ?_;exact⟨v,ps,rfl,hE,trivial⟩;rintro e uz ⟨v,ps,rfl,hE,rfl⟩;have hz:[cI (.int .u64 0),.v (.int .u64 0),.v (.int .u64 0),.v (.int .u64 0)]=bY 0:=by simp[bY,dW,wd]
  have ag4:h.length+2<=uz.length:=by have:=(gl AA.b3);omega
  have FX:=AA.ext (g':=uz++[bw (bY 0) bf]) lX;have sI:(uz++[bw (bY 0) bf])[uz.length]?=a_ (.cells (bY 0) bf):=af
  refine eu (λe g'=>e=[(2,.mp h.length 0),(3,.mp (h.length+1) 0),(4,v),(7,.mp uz.length 0)]/\g'=uz++[bw (bY 0) bf]) ?_ ?_;exact e5 @hz tt;rintro e g1 ⟨rfl,rfl⟩;generalize Xk:uz.length=m7 at ag4 sI⊢;generalize uz++[bw (bY 0) bf]=g1 at FX sI⊢;refine eu (λe g'=>e=[(2,.mp h.length 0),(3,.mp (h.length+1) 0),(4,v),(7,.mp m7 0),(8,.fn (.func 65) [.mp ks 0] [])]/\g'=g1) ?_ ?_;exact e5 (eL FX.b2) tt;rintro e g2 ⟨rfl,rfl⟩;refine iP (λe g'=>∃A jq,e=[(2,.mp h.length 0),(3,.mp (h.length+1) 0),(4,v),(7,.mp m7 0),(8,.fn (.func 65) [.mp ks 0] [])]/\mD ks bZ i m h.length bB mv marks N h jq g'/\g'[m7]?=a_ (.cells (bY A) bf)) ?_ ?_;refine fF (jy (alP hE) (bX (FA hE) dc) ?_);rintro r ⟨l,hl,kS,vS⟩;have ln:=hl.cH;rw[cM] at ln;have lQ:∀J,cH r J=a_ (.v (.int .i64 (l.length:Int)),J):=λJ=>aJT
  have vW:=hE.len;refine e5 @lQ ?_;refine dj (λj e g'=>∃A jq,e=[(2,.mp h.length 0),(3,.mp (h.length+1) 0),(4,v),(7,.mp m7 0),(8,.fn (.func 65) [.mp ks 0] []),(35,r),(36,bq l.length),(37,bq j)]/\mD ks bZ i m h.length bB mv marks N h jq g'/\g'[m7]?=a_ (.cells (bY A) bf)) l.length ⟨0,_,rfl,FX,sI⟩ ?_ ?_;rintro j e g3 hj ⟨A,jq,rfl,hC,sI⟩;obtain⟨w,hw⟩:=dQ hj;have e1:ct 1 r (.v (.int .i64 (j)))=a_ (.fp [bu w] 0):=hl.cE (x:=bu w) aKe rfl;refine CG @bq.eq_1 @e1 @xq @gN.{0} @lY.{0} @gd.{0} ?_;refine ck (alC hC.s.A w) ?_;rintro _ g4 ⟨B,lx,rfl,rfl⟩;have n1:=UZ (g3++lx) B;have DH:=(hC.ext lX).ext (g':=g3++lx++[bw (bY B) bf]) lX;have RG:(g3++lx++[bw (bY B) bf])[m7]?=a_ (.cells (bY A) bf):=bT (bT sI);have Ji:(g3++lx++[bw (bY B) bf])[(g3++lx).length]?=a_ (.cells (bY B) bf):=af
  have fz:dJ [.v (.int .u64 0),.v (.int .u64 0),.v (.int .u64 0),.v (.int .u64 0)] []=a_ (bY 0):=by rw[hz];rfl
  obtain⟨Fv,QU⟩:∃b:Bool,uo [.i,.i,.i,.i] bh (cc B) (.agg (bY 0))=a_ (.v (.bool b)):=by
   obtain⟨d,hd⟩:=VK B 0;refine⟨bh !=d,?_⟩;show(fy [.i,.i,.i,.i] (cc B).cells (cc 0).cells).map (λr=>cI (.bool (bh !=r)))=_;rw[hd];rfl
  refine e5 @n1 ?_;generalize(g3++lx).length=aJc at Ji⊢;generalize g3++lx++[bw (bY B) bf]=g5 at DH RG Ji⊢;refine jw (Ae Ji) @fz @QU (gT (zf Fv 6 g5) ?_ ?_);rintro r2 g6 ⟨_,rfl⟩;refine mS (Ae Ji) (Ae RG) (hU (JD A B) (bX (l8 _) (bX (l8 _) dc)) ?_);refine e5 (K_ RG (A|||B)) ?_;exact⟨A|||B,jq,rfl,DH.set ag4,bU (gl RG)⟩;rintro ch g6 ⟨_,rfl,rfl⟩;exact gM 6 _ ag ⟨jq,DH⟩;rintro e g3 ⟨A,jq,rfl,hC,sI⟩;refine e5 @bq.eq_1 ?_;exact⟨A,jq,trivial,hC,sI⟩;rintro e g3 ⟨A,G_,rfl,agx,akj⟩;have agy:=agx.ext (g':=g3++[bw [.v (.bool bf)] bf]) lX;have akk:(g3++[bw [.v (.bool bf)] bf])[m7]?=a_ (.cells (bY A) bf):=bT akj;have Jj:(g3++[bw [.v (.bool bf)] bf])[g3.length]?=a_ (.cells [.v (.bool bf)] bf):=af
  have aCi:=Td g3 (.v (.bool bf)) (x:=.v (.bool bf)) rfl rfl;have ag2:h.length+2<=g3.length:=by have:=(gl agx.b3);omega
  refine eu (λe g'=>e=[(2,.mp h.length 0),(3,.mp (h.length+1) 0),(4,v),(7,.mp m7 0),(8,.fn (.func 65) [.mp ks 0] []),(12,.mp g3.length 0)]/\g'=g3++[bw [.v (.bool bf)] bf]) ?_ ?_;exact e5 @aCi tt;rintro e g4 ⟨rfl,rfl⟩;have awI:m7<g3.length:=gl akj;generalize aIM:g3.length=zd at Jj ag2 awI⊢;generalize g3++[bw [.v (.bool bf)] bf]=g4 at agy akk Jj⊢;refine eu (λe g'=>∃jq c,e=[(3,.mp (h.length+1) 0),(4,v),(8,.fn (.func 65) [.mp ks 0] []),(12,.mp zd 0)]/\mD ks bZ i m h.length bB mv marks N h jq g'/\g'[zd]?=a_ (.cells [.v (.bool c)] bf)) ?_ ?_
  · refine e5 (Ae akk) (ck (K6 A _) ?_)
    rintro _ g5 ⟨rfl,rfl⟩;refine fF ?_;rw[wz];refine⟨_,_,_,rfl,λk S bO ok hR=>?_⟩;have vJ:=((agy.ext lX).ext lX).ext (g':=g4++[bw (bY A) bf]++Kp bf++[nX .ready bn bO #[54] ok]) lX;have agj:(g4++[bw (bY A) bf]++Kp bf++[nX .ready bn bO #[54] ok])[k]?=a_ (.bW .ready bn bO #[54] ok):=by rw[S];simp[Kp]
    have agk:(g4++[bw (bY A) bf]++Kp bf++[nX .ready bn bO #[54] ok])[g4.length]?=a_ (.cells (bY A) bf):=bT (bT af);have M0:(g4++[bw (bY A) bf]++Kp bf++[nX .ready bn bO #[54] ok])[zd]?=a_ (.cells [.v (.bool bf)] bf):=bT (bT (bT Jj));have kl:h.length+2<=k:=by
     have:=gl Jj;rw[S];simp;omega
    show cq _ _ _ _ (g4++[bw (bY A) bf]++Kp bf++[nX .ready bn bO #[54] ok]) _;generalize g4++[bw (bY A) bf]++Kp bf++[nX .ready bn bO #[54] ok]=X at vJ agj agk M0⊢;refine ck (K7 cA (Stop:=λ_=>False) (Inv:=λdone g=>∃jq c,mD ks bZ i m h.length bB mv marks N h jq g/\g[zd]?=a_ (.cells [.v (.bool c)] bf)/\g[k]?=a_ (.bW .ready bn bO #[54] ok)) ?_ agk ⟨_,bf,vJ,M0,agj⟩) ?_
    · rintro done q g6 ⟨N3,gI,Wm,M1,vP⟩ iT aw1
      refine hR [_] g6 _ rfl ⟨bn,vP⟩ ?_;have se:rR [(2,cD h.length 0),(3,cD (h.length+1) 0),(4,v),(8,bg.fn (.func 65) [.mp ks 0] []),(12,cD zd 0),(53,bg.fn (qA 129) [] [cD g4.length 0])] (List.zip [54] [cI (ye de (q))])=[(54,cI (ye de (q))),(2,cD h.length 0),(3,cD (h.length+1) 0),(4,v),(8,bg.fn (.func 65) [.mp ks 0] []),(12,cD zd 0),(53,bg.fn (qA 129) [] [cD g4.length 0])]:=rfl;rw[se];refine fF ?_;refine⟨⟨bn,vP⟩,λeZ=>?_⟩;have Y3:k≠zd:=by rintro rfl;rw[M1] at vP;cases vP
      have DI:=Wm.set (b':=.bW .busy eZ bO #[54] ok) kl;have RA:(g6.set k (.bW .busy eZ bO #[54] ok))[zd]?=a_ (.cells [.v (.bool gI)] bf):=by rw[bD Y3];exact M1
      have Mp:(g6.set k (.bW .busy eZ bO #[54] ok))[k]?=a_ (.bW .busy eZ bO #[54] ok):=bU (gl vP);generalize g6.set k (.bW .busy eZ bO #[54] ok)=g7 at DI RA Mp⊢;have fin:∀(g8) Z5 ie,mD ks bZ i m h.length bB mv marks N h Z5 g8->g8[zd]?=a_ (.cells [.v (.bool ie)] bf)->g8[k]?=a_ (.bW .busy eZ bO #[54] ok)->
        (∃st pd,g8[k]?=a_ (.bW st pd bO #[54] ok))/\∃c:Bool,cI (.bool bh)=.v (.bool c)/\(c=bh->∃jq c,mD ks bZ i m h.length bB mv marks N h jq (g8.set k (.bW .ready bn bO #[54] ok))/\(g8.set k (.bW .ready bn bO #[54] ok))[zd]?=a_ (.cells [.v (.bool c)] bf)/\(g8.set k (.bW .ready bn bO #[54] ok))[k]?=a_ (.bW .ready bn bO #[54] ok))/\(c=bf->False):=λg8 Z5 ie Y V h3=>
       ⟨⟨.busy,eZ,h3⟩,bh,rfl,λ_=>⟨Z5,ie,Y.set kl,by rw[bD Y3];exact V,bU (gl h3)⟩,λz=>by cases z⟩
      refine e5 (eL DI.b2) (ck (ax8 DI.s.A (q)) ?_);rintro r g8 ⟨⟨b,rfl⟩,rfl⟩;cases b with
      |true=>
       obtain⟨x,I,lP,_⟩:=DI.at
       have rH:pz (dV x 9 [.v (.bool bh)]):=by
        obtain⟨y,b,cF,rfl,hy,ht⟩:=lP;obtain⟨h9,_⟩:=hy.ok;refine⟨y,bh,cF,?_,hy,ht⟩;rw[ZJ ah,ap8 _ _ aa,h9];rfl
       obtain⟨ano,g9,th,Wn,Yi⟩:=DI.write I ag rfl rfl rH;refine mu (eL DI.b3) @Jz @IB @th ?_;have A7:bZ≠zd/\bZ≠k:=by
        have:=DI.lt;exact⟨aa,aa⟩
       exact fin g9 ano gI Wn (Yi _ _ (eX A7.1) RA) (Yi _ _ (eX A7.2) Mp)
      |false=>
       have aEI:=q4 (w:=.v (.bool bh)) rfl RA;exact e5 @aEI (fin _ N3 bh (DI.set ag2) (bU (gl RA)) (by rw[bD (eX Y3)];exact Mp))
    rintro r g6 ⟨rfl,⟨N3,gI,Wm,M1,vP⟩|hf⟩;refine⟨.ready,bn,vP,ag,?_⟩;refine e5 @uL.eq_1 ?_;exact⟨N3,gI,trivial,Wm.set kl,by rw[bD (by rintro rfl;rw[M1] at vP;cases vP)];exact M1⟩;exact hf.elim
  rintro e g5 ⟨aJw,c5,rfl,vJ,M0⟩;refine iP (λe g'=>e=[(3,.mp (h.length+1) 0),(4,v),(8,.fn (.func 65) [.mp ks 0] [])]/\g'=g5) ?_ ?_
  · have done:∀b:Bool,iE G bC 32 [.v (.bool b),.v (.int .i64 13)] g5 (λr h'=>h'=g5) λch h'=>ch=Ar 13/\h'=g5:=λb=>gT (zf b 13 g5) (λr h' q=>q.2) λch h' q=>q.2
    obtain⟨x,I,lP,sG⟩:=vJ.at
    obtain⟨nm,cm,i1,p1,cg,a,al,uM,ex,b,cF,rfl,_⟩:=lP.at
    have xL:=sG 9 _ rfl;cases c5 with
    |true=>
     refine qx (eL M0) (eL vJ.b3) @Jz @IB @xL (gT (done _) ?_ ?_);rintro r g6 rfl;exact fF tt;rintro ch g6 ⟨rfl,rfl⟩;exact gM 13 _ ag ⟨_,vJ⟩
    |false=>
     refine e5 (eL M0) (gT (done _) ?_ ?_);rintro r g6 rfl;exact fF tt;rintro ch g6 ⟨rfl,rfl⟩;exact gM 13 _ ag ⟨_,vJ⟩
  rintro e g6 ⟨rfl,rfl⟩;refine eu (λe g'=>∃dY f,e=[(3,.mp (h.length+1) 0),(14,dY),(15,.v (.int .i64 f))]/\((f=0/\KL dY)\/f≠0)/\g'=g6) ?_ ?_;refine fF (ck (aCt cA hE (aCc vJ.s.A) λneg=>aKf) ?_);rintro r g7 ⟨⟨dY,f,rfl,hq⟩,rfl⟩;refine e5 @bq.eq_1 ?_;exact⟨dY,f,rfl,hq.imp id λz=>z.1,trivial⟩;rintro e g7 ⟨dY,f,rfl,D1,rfl⟩;refine iP (λe g'=>e=[(3,.mp (h.length+1) 0),(14,dY)]/\g'=g7/\KL dY) ?_ ?_;refine fF (gT (zf _ f g7) ?_ ?_);rintro r g8 ⟨hf,rfl⟩;have av3:f=0:=aLG
  refine fF ?_;exact⟨trivial,trivial,D1.elim (λz=>z.2) λz=>absurd av3 z⟩;rintro ch g8 ⟨hf,rfl,rfl⟩;exact gM f _ aLG ⟨_,vJ⟩;rintro e g8 ⟨rfl,rfl,hN⟩;have jz:eM dY:=by
   obtain⟨on,cu,bx,bv,F,E,e,rfl,ho,O,_⟩:=hN;exact aer ho O
  refine eu (λe g'=>∃tab f,e=[(3,.mp (h.length+1) 0),(15,.v (.int .i64 f)),(16,tab)]/\((f=0/\By tab)\/f≠0)/\g'=g8) ?_ ?_;refine fF ?_;refine ei (aCv cA hN) ?_;rintro r ⟨tab,f,rfl,hq⟩;refine e5 @bq.eq_1 ?_;exact⟨tab,f,rfl,hq.imp id λz=>z.1,trivial⟩;rintro e g9 ⟨tab,f,rfl,axn,rfl⟩;refine iP (λe g'=>e=[(3,.mp (h.length+1) 0),(16,tab)]/\g'=g9/\By tab) ?_ ?_;refine fF (gT (zf _ f g9) ?_ ?_);rintro r g8 ⟨hf,rfl⟩;refine fF ?_;exact⟨trivial,trivial,axn.elim (λz=>z.2) λz=>absurd aLG z⟩;rintro ch g8 ⟨hf,rfl,rfl⟩;exact gM f _ aLG ⟨_,vJ⟩;rintro e auk ⟨rfl,rfl,hT⟩;obtain⟨x,I,lP,_⟩:=vJ.at
  have rH:pz (dV x 10 [tab]):=by
   obtain⟨y,b,cF,rfl,hy,ht⟩:=lP;obtain⟨h9,_⟩:=hy.ok;refine⟨y,b,tab,?_,hy,bF hT⟩;rw[ZJ ah,ap8 _ _ aa,h9];rfl
  have MM:tab.cells=[tab]/\cr tab=bh:=by
   obtain⟨rows,rfl,_⟩:=hT;exact⟨rfl,rfl⟩
  obtain⟨ano,aIb,th,Wn,Yi⟩:=vJ.write I ag MM.1 MM.2 rH;refine mu (eL vJ.b3) @Jz @IB @th ?_;rw[SK];intro bl he;exact fF ((Wn.fin he).q)
end
end
section
variable{x:List bg}{g h J:List br}{ks:Nat}{mv ow v0 v1:bg}{marks rows:List (List bg)}{e:Int}
def KN(x:bg):Prop:=∃(bB mv:bg) (rows marks:List (List bg)),x=.fp [bB,mv] 0/\cC bB (rows.map dG)/\cC mv (marks.map dG)/\(∀x∈rows,pz x)/\(∀x∈marks,n_ x)/\0<rows.length/\rows.length<=24/\marks.length<=8
def Pf(r:bg):Prop:=∃(x:bg) (e:Int),r=.bQ [x,bq e]/\((e=0/\KN x)\/(e≠0/\x=.v (.pointer bn)))
def By.fz{x}(h:By x)(J):b7 J x x:=by
 obtain⟨rows,rfl,D,_⟩:=h;refine b7.fp (bG (gU (iC λr jR=>?_)) cX);obtain⟨l,b,rfl,_⟩:=D r jR;exact kf (Bo (iC λn _=>bH _) (bG (bH _) cX))
def vj.LN(h:vj x)(J):fm J x x:=by
 obtain⟨nm,cm,i,p,cg,a,al,mv,ex,rfl,hg,hm,_⟩:=h;exact bG (bH _) (bG (hg.fz J) (bG (bH _) (bG (bH _) (bG (bH _) (bG (bH _) (bG (bH _) (bG (hm.fz J) (bG (bH _) cX))))))))
def pz.LN(h:pz x)(J):fm J x x:=by
 obtain⟨y,b,cF,rfl,hy,ht⟩:=h;refine Bo (hy.LN J) (bG (bH _) (bG ?_ cX))
 rcases ht with rfl|ht
 exact bH _;exact ht.fz J
def af9:∀{ls:List (List bg)},(∀x∈ls,fm J x x)->fm J ls.flatten ls.flatten
 |[],_=>cX
 |x::r,h=>by
  rw[yh];exact Bo (h x (yo ..)) (af9 λy hy=>h y (s3 _ hy))
def aEq{v}{xs}(h:r8 v xs)(I:∀x∈xs,b7 J (.agg x) (.agg x)):∃v',b7 J v v'/\cC v' (xs.map dG):=by
 rcases h with⟨rfl,rfl⟩|⟨t,rfl⟩
 exact⟨_,ez,bF ⟨rfl,rfl⟩⟩;exact⟨_,gU (iC I),bE rfl⟩
def aEP{bZ}{bB}(s:pq ks bZ bB mv rows marks h)(h0:0<rows.length):∃n bV,di h n (.bQ [.mp ks 0,(0:Int)])=a_ bV/\Pf bV:=by
 have V:=b7.rs (sz:=11) (o:=0) (len:=rows.length) s.r.b rfl (af9 λx I=>(s.rc x I).LN h);have e:=Qq [] s.r.each;rw[gN,show([]:List bg).length=0 from rfl] at e;rw[e,<-s.r.v] at V;obtain⟨nR,b_,z2⟩:=aEq s.m λx I=>(s.hG x I).fz h;obtain⟨n,hn⟩:=(fB (bG (b7.mp s.b (bG V (bG b_ cX))) (bG (bH (.int .i64 0)) cX)):b7 h (.bQ [.mp ks 0,(0:Int)]) _).done;exact⟨n,_,hn,_,0,rfl,bE ⟨rfl,_,nR,rows,marks,rfl,bE rfl,z2,s.rc,s.hG,h0,s.rl,s.ml⟩⟩
def aEO(he:e≠0):∃n bV,di J n (.bQ [.v (.pointer bn),e])=a_ bV/\Pf bV:=by
 obtain⟨n,hn⟩:=(fB (bG (bH (.pointer bn)) (bG (bH (.int .i64 e)) cX)):b7 J _ _).done;exact⟨n,_,hn,_,e,rfl,bF ⟨he,rfl⟩⟩
section
variable{G:Cells}{J:List br}{K:List br->Prop}
def aAV(h:K J):kK G bC 30 [.mp 0 0,.mp 1 0] J bn K:=by
 refine X4.P8 (x:=bn) trivial ?_;have e1:nG .eD bh (qt bn) (.v .nilIface)=a_ (.v (.bool bf)):=rfl;exact wy h
def auq(h0:J[0]?=a_ (.cells [v0] bf))(Y:J[1]?=a_ (.cells [v1] bf))
  (h:∀bl:List br,bl[0]?=a_ (.cells [.v (.pointer bn)] bf)->bl[1]?=a_ (.cells [bq e] bf)->K bl):
  kK G bC 30 [.mp 0 0,.mp 1 0] J (a_ (.iface 85 (.agg #[.int .i64 e]))) K:=by
 refine X4.P8 (x:=a_ (.eD 85 (.agg [.v (.int .i64 e)]))) ⟨rfl,rfl⟩ ?_;have e1:nG .eD bh (qt (a_ (.eD 85 (.agg [.v (.int .i64 e)])))) (.v .nilIface)=a_ (.v (.bool bh)):=rfl;have t1:Ih 85 (.agg [.v (.int .i64 0)]) bh (qt (a_ (.eD 85 (.agg [.v (.int .i64 e)]))))=a_ (.bQ [.agg [.v (.int .i64 e)],.v (.bool bh)]):=rfl;have s1:bL (J++[.cells [.v (.int .i64 0)] bf]) 1 (.mp J.length 0) (.agg [.v (.int .i64 e)])=a_ (J++[.cells [.v (.int .i64 e)] bf]):=by
  simp only[bL,fY (cj _),mU,nA,fq];simp[jK,cr,dV]
 have q0:(J++[bw [.v (.int .i64 e)] bf])[0]?=a_ (.cells [v0] bf):=bT h0;have q1:(J++[bw [.v (.int .i64 e)] bf])[1]?=a_ (.cells [v1] bf):=bT Y;have A_:(J++[bw [.v (.int .i64 e)] bf])[J.length]?=a_ (.cells [.v (.int .i64 e)] bf):=af
 have cQ:=gl Y;refine rW ?_;generalize J++[bw [.v (.int .i64 e)] bf]=g at q0 q1 A_⊢;generalize J.length=m at A_ cQ⊢;have z0:=q4 (w:=.v (.pointer bn)) rfl q0;have b_:=q4 (k:=1) (g:=g.set 0 (.cells [.v (.pointer bn)] bf)) (w:=.v (.int .i64 e)) rfl (by rw[bD aa];exact q1);have y0:=eL A_;have y1:bz (g.set 0 (.cells [.v (.pointer bn)] bf)) bf 1 (.mp m 0)=a_ (.v (.int .i64 e)):=eL (by rw[bD aa];exact A_);have hg:=gl q1;refine pW @y0 @z0 @b_ @y1 @oA (h _ ?_ ?_);rw[bD ag,bU aa];rw[bU ah];rfl
end
section
variable{G:Cells}
def aEr(I:x.length=11/\x.all cr=bh):p7 h 11 120 102 .bp (.sl [.agg x] .exact)=a_ (.rs h.length [x].flatten.length 11 0 1,h++[.cells [x].flatten bh]):=by
 have ok:cZ 11 [dG x]=bh:=wg λy hy=>aLM
 have vM:eF [dG x]=[x].flatten:=by simp[eF,jK]
 have h3:¬([dG x]=([]:List bg)):=af
 simp only[p7,ij,h3,if_false,ok,true_and,vM,eW,hY];rw[if_pos ag]
structure zY(ks:Nat)(ow mv:bg)(rows:List (List bg))(g:List br):Prop where
 b:g[ks]?=a_ (.cells [ow,mv] bf)
 r:(ow=.bp/\rows=[])\/∃bZ,j5 11 g bZ ow rows
 rc:∀x∈rows,pz x
 rl:rows.length<=24
def zY.ext{g'}(s:zY ks ow mv rows g)(he:Ext g g'):zY ks ow mv rows g':=
 ⟨he _ _ s.b,s.r.imp id λ⟨bZ,D⟩=>⟨bZ,D.keep λZ q=>he _ _ q⟩,s.rc,s.rl⟩
def zY.A(s:zY ks ow mv rows g)(hm:r8 mv marks)(Gd:∀x∈marks,n_ x)(nN:marks.length<=8):tf g (.mp ks 0) ow mv rows marks:=by
 refine⟨ug.mp s.b,?_,oJ.slc g hm λx I=>(Gd x I).ok.1,s.rc,Gd,s.rl,nN⟩
 rcases s.r with⟨rfl,rfl⟩|⟨bZ,D⟩
 exact oJ.slc g (bE ⟨rfl,rfl⟩) af;exact oJ.row D
def zY.push(s:zY ks ow mv rows g)(I:pz x)(hl:rows.length<24):
  ∃v' g1,p7 g 11 120 102 ow (.sl [.agg x] .exact)=a_ (v',g1)/\bL g1 1 (.mp ks 0) v'=a_ (g1.set ks (.cells [v',mv] bf))/\zY ks v' mv (rows++[x]) (g1.set ks (.cells [v',mv] bf))/\∀(j:Nat) Z,g[j]?=a_ (.cells Z bf)->g1[j]?=a_ (.cells Z bf):=by
 have BW:=gl s.b;have sG:=I.len;have SF:∀y∈rows++[x],pz y:=λy hy=>by
  rcases gj.1 hy with q|q
  exact s.rc y q;rw[dP.1 q];exact I
 have st:∀{g1} {k n o l} {a b},g1[ks]?=a_ (.cells [a,b] bf)->bL g1 1 (.mp ks 0) (.rs k n 11 o l)=a_ (g1.set ks (.cells [.rs k n 11 o l,b] bf)):=λq=>by
  simp only[bL,q];rfl
 rcases s.r with⟨rfl,rfl⟩|⟨bZ,D⟩
 have O:(g++[bw [x].flatten bh])[ks]?=a_ (.cells [.bp,mv] bf):=bT s.b;have D:j5 11 (g++[bw [x].flatten bh]) g.length (.rs g.length [x].flatten.length 11 0 1) [x]:=j5.new (λy hy=>by rw[dP.1 hy];exact sG);refine⟨_,_,aEr sG,st O,⟨bU ah,bF ⟨g.length,D.keep λZ q=>by rw[bD aa];exact q⟩,SF,af⟩,λj Z q=>bT q⟩;obtain⟨v',e1,jR⟩:=D.push (b9:=120) ag ag sG aa;have bR:ks≠bZ:=by
  rintro rfl;have V:=D.b;rw[s.b] at V;simp at V
 have O:(g.set bZ (.cells (rows++[x]).flatten bh))[ks]?=a_ (.cells [ow,mv] bf):=by rw[bD (eX bR)];exact s.b
 refine⟨v',_,e1,by rw[jR.v];exact st O,⟨bU (by simpa using BW),bF ⟨bZ,jR.keep λZ q=>by rw[bD bR];exact q⟩,SF,ah⟩,λj Z q=>?_⟩;rw[bD (by rintro rfl;rw[D.b] at q;simp at q)];exact q
def am6{F}{e}(h0:g[0]?=a_ (.cells [v0] bf))(Y:g[1]?=a_ (.cells [v1] bf))(e2:gQ e 2=a_ (.mp 0 0))(dr:gQ e 3=a_ (.mp 1 0))(hF:F (.bQ [v0,v1])):
  @gX _ (kV e g [(.c 2 bf 1),(.c 3 bf 1)]) ⟨F⟩:=by
 exact lU @e2 @dr (eL h0) (eL Y) hF
def aCu(cA:gm G)(hI:Bz G)(s)(hs:s.length<=1000000):dM G bC 13 [bu s] Pf:=by
 refine ek (RB.go ?_);refine wy ?_;refine⟨[0,1],rfl,?_⟩
 conv in kL.bc _=>whnf
 have tr:∀{e} (e2:gQ e 2=a_ (.mp 0 0)) (dr:gQ e 3=a_ (.mp 1 0)) (ch) (V),(∃b8,b8≠0/\ch=Ar b8)->(∃v0,V[0]?=a_ (.cells [v0] bf))->(∃v1,V[1]?=a_ (.cells [v1] bf))->
   ∃v,ch=[{v:=v,recovered:=bf}]/\kK G bC 30 ([0,1].map λk=>.mp k 0) V (a_ v) λg=>@gX _ (kV e g [(.c 2 bf 1),(.c 3 bf 1)]) ⟨λr=>∃n bV,di g n r=a_ bV/\Pf bV⟩:=by
  rintro e e2 dr ch V ⟨b8,he,rfl⟩ ⟨v0,h0⟩ ⟨v1,Y⟩;exact⟨_,rfl,auq h0 Y λg g0 g1=>am6 g0 g1 e2 dr (aEO he)⟩
 have Qk:∀mv:bg,cr mv=bh->dJ [.bp,.bp] [(1,1,mv)]=a_ [.bp,mv]:=λmv Y=>by
  have T:mv.cells=[mv]:=by cases mv<;>first|rfl|cases Y
  simp[dJ,T,Y,dV]
 have MV:[cI (.string ⟨[].toArray⟩),.bp,.v (.bool bf),.v (.bool bf),.v (.bool bf),.v (.int .i64 0),.v (.bool bf),.bp,.v (.string ⟨[].toArray⟩)]=gL:=rfl;have Iy:∀x:List bg,vj x->dJ [.v (.string ⟨[].toArray⟩),.bp,.v (.bool bf),.v (.bool bf),.v (.bool bf),.v (.int .i64 0),.v (.bool bf),.bp,.v (.string ⟨[].toArray⟩),.v (.bool bf),.v (.pointer bn)] [(0,9,.agg x)]=a_ (x++[.v (.bool bf),.v (.pointer bn)]):=λx I=>by
  obtain⟨nm,cm,i,p,cg,a,al,mv,ex,rfl,hg,hm,_⟩:=I;simp[dJ,jK,eH,dV,hg.one.1,hm.one.1,cr,bu]
 have Ym:∀{g} {a b},g[3]?=a_ (.cells [a,b] bf)->bz g bf 1 (.mp 3 0)=a_ a:=λq=>by simp only[bz,q];rfl
 refine iP (λe g=>∃(bB mv:bg) (b8:Int) (cv marks:List (List bg)),e=[(2,.mp 0 0),(3,.mp 1 0),(4,.mp 2 0),(6,.v (.int .i64 b8))]/\g=[bw [cI (.pointer bn)] bf,bw [cI (.int .i64 0)] bf,bw [bB,mv] bf]/\cC bB (cv.map dG)/\cC mv (marks.map dG)/\(∀x∈cv,vj x)/\(∀x∈marks,n_ x)/\cv.length<=24/\marks.length<=8) ?_ ?_;refine wy ?_;refine ei (aDe cA hI s hs) ?_;rintro r ⟨bB,mv,cw,e,rfl,cv,marks,MC,k_,My,Gd,y6,nN⟩
 have on:cr bB=bh/\bB.cells=[bB]:=by rcases MC with rfl|⟨rfl,_⟩<;>exact⟨rfl,rfl⟩
 have qp:cr mv=bh/\mv.cells=[mv]:=aKh
 have zx:bL [bw [cI (.pointer bn)] bf,bw [cI (.int .i64 0)] bf,bw [.bp,.bp] bf] 2 (.mp 2 0) (.agg [bB,mv])=a_ [bw [cI (.pointer bn)] bf,bw [cI (.int .i64 0)] bf,bw [bB,mv] bf]:=aaP rfl rfl on.1 qp.1;refine wy ?_;exact⟨bB,mv,e,cv,marks,rfl,rfl,MC,k_,My,Gd,y6,nN⟩;rintro e g ⟨bB,mv,b8,cv,marks,rfl,rfl,MC,k_,My,Gd,y6,nN⟩
 have qp:cr mv=bh/\mv.cells=[mv]:=aKh
 have ahn:r8 mv marks:=by
  rcases k_ with rfl|⟨rfl,z⟩
  exact bF ⟨_,rfl⟩;exact bE ⟨rfl,aN⟩
 refine iP (λe g=>e=[(2,.mp 0 0),(3,.mp 1 0),(4,.mp 2 0)]/\g=[bw [cI (.pointer bn)] bf,bw [cI (.int .i64 0)] bf,bw [bB,mv] bf]) ?_ ?_;refine wy (gT (zf _ b8 _) ?_ ?_);rintro r g ⟨he,rfl⟩;exact wx tt;rintro ch g ⟨he,rfl,rfl⟩;exact tr rfl rfl _ _ ⟨b8,aJ8,rfl⟩ ⟨_,rfl⟩ ⟨_,rfl⟩;rintro e g ⟨rfl,rfl⟩;have bc:(dG [.bp,mv]).cells=[.bp,mv]:=rfl;have ln:=MC.cH;rw[cM] at ln;refine eu (λe g=>e=[(2,.mp 0 0),(3,.mp 1 0),(4,.mp 2 0)]/\g=[bw [cD 3 0] bf,bw [cI (.int .i64 0)] bf,bw [bB,mv] bf,bw [.bp,mv] bf]) ?_ ?_;exact mw (Qk mv qp.1) @bc tt;rintro e g ⟨rfl,rfl⟩;refine eu (λe g=>∃ow rows,e=[(2,.mp 0 0),(3,.mp 1 0)]/\g[0]?=a_ (.cells [.mp 3 0] bf)/\g[1]?=a_ (.cells [.v (.int .i64 0)] bf)/\zY 3 ow mv rows g) ?_ ?_;refine wy ?_;refine dj (λi e g=>∃ow rows,e=[(2,.mp 0 0),(3,.mp 1 0),(26,bB),(27,bq cv.length),(28,bq i)]/\g[0]?=a_ (.cells [.mp 3 0] bf)/\g[1]?=a_ (.cells [.v (.int .i64 0)] bf)/\zY 3 ow mv rows g/\rows.length=i) cv.length ⟨.bp,[],rfl,rfl,rfl,⟨rfl,bE ⟨rfl,rfl⟩,af,ag⟩,rfl⟩ ?_ ?_;rintro i e g Q ⟨ow,rows,rfl,g0,g1,hS,ahJ⟩;obtain⟨x,I⟩:=dQ Q;have Gq:=My x (cG I);obtain⟨qm,pS,_⟩:=Gq.ok;have e1:ct 9 bB (.v (.int .i64 (i)))=a_ (.fp x 0):=MC.cE (x:=.agg x) aA qm;have e2:=λJ=>r8.fA qm J;have nn:=Nt g qm pS;have kx:(g++[bw x bf])[g.length]?=a_ (.cells x bf):=af
 have ID:(g++[bw x bf])[0]?=a_ (.cells [.mp 3 0] bf):=bT g0;have QB:(g++[bw x bf])[1]?=a_ (.cells [.v (.int .i64 0)] bf):=bT g1;have gi:=hS.ext (g':=g++[bw x bf]) lX;refine rW ?_;generalize g.length=m at kx⊢;generalize g++[bw x bf]=g2 at kx ID QB gi⊢;have lx:bz g2 bh 9 (.mp m 0)=a_ (.agg x):=by
  simp only[bz,kx];unfold e_;rw[if_pos rfl,if_pos aa,o9,mA aa]
 have Jb:pz (x++[.v (.bool bf),.v (.pointer bn)]):=⟨x,bf,_,rfl,Gq,bE rfl⟩;obtain⟨v',g3,p1,p2,p3,jd⟩:=gi.push Jb aa;have ab:eV 11 [.agg (x++[.v (.bool bf),.v (.pointer bn)])]=a_ (.sl [.agg (x++[.v (.bool bf),.v (.pointer bn)])] .exact):=by
  have:=wg λy hy=>by rw[dP.1 hy];exact Jb.len
  simp only[fG,lu] at this;simp[eV,this]
 have LO:=jd _ _ ID;refine wB (eL ID) (Ym gi.b) @lx (Iy x Gq) @ab @p1 (eL LO) @p2 @oA ?_;refine⟨v',_,rfl,?_,?_,p3,by simp[ahJ]⟩;rw[bD ag];exact LO;rw[bD ag];exact jd _ _ QB;rintro e g ⟨ow,rows,rfl,g0,g1,hS,ahJ⟩;refine e5 @bq.eq_1 ?_;exact⟨ow,rows,trivial,g0,g1,hS⟩;rintro e g ⟨ow,rows,rfl,g0,g1,hS⟩;refine iP (λe g=>e=[(2,.mp 0 0),(3,.mp 1 0)]/\g[0]?=a_ (.cells [.mp 3 0] bf)/\g[1]?=a_ (.cells [.v (.int .i64 0)] bf)/\0<rows.length/\∃bZ,pq 3 bZ ow mv rows marks g) ?_ ?_;refine wy (gT (aCs (hS.A ahn Gd nN) rfl) ?_ ?_);rintro r g2 ⟨⟨l,rfl⟩,rG⟩;refine fF ?_;refine⟨trivial,bT g0,bT g1,rG,?_⟩;have gi:=hS.ext (g':=g++l) lX
 rcases gi.r with⟨_,z⟩|⟨bZ,D⟩
 rw[z] at rG;exact absurd rG ag;exact⟨bZ,gi.b,D,ahn,gi.rc,Gd,gi.rl,nN⟩;rintro ch g2 ⟨e,he,rfl,l,rfl⟩;exact tr rfl rfl _ _ ⟨e,he,rfl⟩ ⟨_,bT g0⟩ ⟨_,bT g1⟩;rintro e g2 ⟨rfl,ID,QB,rG,bZ,hM⟩;refine iP (λe g=>∃jq,e=[(2,.mp 0 0),(3,.mp 1 0)]/\g[0]?=a_ (.cells [.mp 3 0] bf)/\g[1]?=a_ (.cells [.v (.int .i64 0)] bf)/\pq 3 bZ ow mv jq marks g/\jq.length=rows.length) ?_ ?_;have nr:=hM.rl;refine CH (eL ID) (Ym hM.b) @hM.r.len ?_;refine dj (λi e g=>∃jq,e=[(2,.mp 0 0),(3,.mp 1 0),(50,bq rows.length),(51,bq i)]/\g[0]?=a_ (.cells [.mp 3 0] bf)/\g[1]?=a_ (.cells [.v (.int .i64 0)] bf)/\pq 3 bZ ow mv jq marks g/\jq.length=rows.length) rows.length ⟨rows,rfl,ID,QB,hM,rfl⟩ ?_ ?_;rintro i e g Q ⟨jq,rfl,g0,g1,hM,ahK⟩;have jP:i<jq.length:=aa
 have A7:bZ≠0/\bZ≠1:=by
  have O:=hM.r.b;refine⟨?_,?_⟩<;>rintro rfl;rw[g0] at O;simp at O;rw[g1] at O;simp at O
 refine apm (eL g0) (Ym hM.b) (hM.r.cE jP) (gT (asV cA hM jP) ?_ ?_);rintro r g3 ⟨G_,L0,h3,_,kp⟩;refine fF ?_;exact⟨G_,rfl,kp _ _ (eX A7.1) g0,kp _ _ (eX A7.2) g1,L0,aa⟩;rintro ch g3 ⟨e,he,rfl,G_,L0,h3,_,kp⟩;exact tr rfl rfl _ _ ⟨e,he,rfl⟩ ⟨_,kp _ _ (eX A7.1) g0⟩ ⟨_,kp _ _ (eX A7.2) g1⟩;rintro e g ⟨jq,rfl,g0,g1,hM,ahK⟩;refine e5 @bq.eq_1 ?_;exact⟨jq,trivial,g0,g1,hM,ahK⟩;rintro e g3 ⟨G_,rfl,LO,af_,L0,h3⟩;have aul:(g3.set 0 (.cells [.mp 3 0] bf))[1]?=a_ (.cells [.v (.int .i64 0)] bf):=by rw[bD ag];exact af_
 have k1:=bU (a:=.cells [.v (.int .i64 0)] bf) (gl aul);have k0:((g3.set 0 (.cells [.mp 3 0] bf)).set 1 (.cells [.v (.int .i64 0)] bf))[0]?=a_ (.cells [.mp 3 0] bf):=by
  rw[bD ag,bU (gl LO)]
 have A7:bZ≠0/\bZ≠1:=by
  have O:=L0.r.b;refine⟨?_,?_⟩<;>rintro rfl;rw[LO] at O;simp at O;rw[af_] at O;simp at O
 exact wy (aAV (am6 k0 k1 rfl rfl (aEP ((L0.set (j:=0) (b':=.cells [.mp 3 0] bf) ag (eX A7.1)).set (j:=1) (b':=.cells [.v (.int .i64 0)] bf) ag (eX A7.2)) aa)))
end
end
section
variable{v:bg}{rows:List (List bg)}
structure l5(hk bB mv:bg)(rows marks:List (List bg)):Prop where
 eq:hk=.fp [bB,mv] 0
 n:cC bB (rows.map dG)
 m:cC mv (marks.map dG)
 rc:∀x∈rows,pz x
 hG:∀x∈marks,n_ x
 bV:0<rows.length
 rl:rows.length<=24
 ml:marks.length<=8
def KN.c{hk:bg}(h:KN hk):∃bB mv rows marks,l5 hk bB mv rows marks:=by
 obtain⟨bB,mv,rows,marks,e,Y,V,h3,h4,h5,h6,h7⟩:=h;exact⟨bB,mv,rows,marks,e,Y,V,h3,h4,h5,h6,h7⟩
def asB{x:bg}(h:By x):eM x:=by
 obtain⟨rows,rfl,Y,_⟩:=h;refine FB λc T=>?_;rw[dP.1 T];refine k6 λx I c T=>?_;obtain⟨r,D,rfl⟩:=eg.1 I;obtain⟨l,b,rfl,_⟩:=Y r D
 rcases gj.1 (show c∈l.map bq++[.v (.bool b)] from T) with q|q
 obtain⟨n,_,rfl⟩:=eg.1 q;exact dn _;rw[dP.1 q];exact dn _
def asA(h:cC v (rows.map dG))(D:∀x∈rows,pz x):eM v:=by
 have I:∀x∈rows.map dG,∀c∈x.cells,eM c:=λx I c T=>by
  obtain⟨y,hy,rfl⟩:=eg.1 I;obtain⟨nm,cm,i1,p1,cg,a,al,uM,ex,b,cF,rfl,⟨l1,g1,_⟩,⟨l2,g2,_⟩,_,ht⟩:=(D y hy).at
  have jl:c∈[bu nm,cm,.v (.bool i1),.v (.bool p1),.v (.bool cg),.v (.int .i64 a),.v (.bool al),uM,bu ex,.v (.bool b),cF]:=T;simp only[fS,p4,or_false] at jl
  rcases jl with rfl|rfl|rfl|rfl|rfl|rfl|rfl|rfl|rfl|rfl|rfl
  exact dn _;exact qI g1;exact dn _;exact dn _;exact dn _;exact dn _;exact dn _;exact qI g2;exact dn _;exact dn _
  rcases ht with rfl|ht
  exact dn _;exact asB ht
 rcases h with rfl|⟨rfl,_⟩
 exact k6 I;exact mJ
def asz(h:cC v (rows.map dG))(D:∀x∈rows,n_ x):eM v:=by
 have I:∀x∈rows.map dG,∀c∈x.cells,eM c:=λx I c T=>by
  obtain⟨y,hy,rfl⟩:=eg.1 I;obtain⟨nm,n,al,bv,rfl,l,g1,_⟩:=D y hy;have jl:c∈eT nm n al bv:=T;simp only[eT,fS,p4,or_false] at jl
  rcases jl with rfl|rfl|rfl|rfl
  exact dn _;exact dn _;exact dn _;exact qI g1
 rcases h with rfl|⟨rfl,_⟩
 exact k6 I;exact mJ
def aie(i:Nat)(x:List bg):Bool:=match x[i]? with
 |some (.v (.bool b))=>b
 |_=>bf
def aif(i:Nat)(x:List bg):Int:=match x[i]? with
 |some (.v (.int _ n))=>n
 |_=>0
def Cv(rows:List (List bg))(t:Int):Option (List bg):=if 1<=t then rows[(t-1).toNat]? else bn
def M_(rows:List (List bg))(t:Int):Bool:=t==0||(Cv rows t).any (aie 4)
def Rw(rows:List (List bg))(t:Int):Bool:=t==0||(Cv rows t).any (aie 2)
def Ii(rows:List (List bg))(t:Int):Int:=((Cv rows t).map (aif 5)).getD 0
section
variable{G:Cells}{hk bB mv:bg}{rows marks:List (List bg)}
def l5.clean(s:l5 hk bB mv rows marks):eM hk:=by
 rw[s.eq];refine FB λc T=>?_;simp only[fS,p4,or_false] at T
 rcases T with rfl|rfl
 exact asA s.n s.rc;exact asz s.m s.hG
def l5.fA(s:l5 hk bB mv rows marks)(h:List br):bz h bf 1 (.fp [bB,mv] 0)=a_ bB/\bz h bf 1 (.fp [bB,mv] 1)=a_ mv:=⟨rfl,rfl⟩
def aGy(s:l5 hk bB mv rows marks):cY G bC 184 [hk] (.v (.int .i64 (rows.length:Int))):=by
 rw[s.eq];refine e3 (XX.go ?_);have ln:=s.n.cH;rw[cM] at ln;refine wy ?_;exact(bH _).done
def UT(s:l5 hk bB mv rows marks){t:Int}(h:Cv rows t=bn):cY G bC 131 [hk,.v (.int .i64 t)] (.v (.pointer bn)):=by
 rw[s.eq];refine e3 (RE.go ?_);have nr:=s.rl;have ln:=s.n.cH;rw[cM] at ln;refine wy ?_;refine cN (λq=>?_) λq=>?_;refine wy ?_;exact(bH _).done;refine wy ?_;refine cN (λbt=>?_) λbt=>?_;refine wy ?_;exact(bH _).done;exfalso;unfold Cv at h;have q1:¬t<1:=ak
 rw[if_pos aa,ap1] at h;simp at bt;omega
def UU(s:l5 hk bB mv rows marks){i:Nat}{x:List bg}(I:rows[i]?=a_ x):cY G bC 131 [hk,.v (.int .i64 ((i:Int)+1))] (.fp x 0):=by
 rw[s.eq];refine e3 (RE.go ?_);have nr:=s.rl;have Q:=(cL.1 I).1;have ln:=s.n.cH;rw[cM] at ln;have D:=s.rc x (cG I);have cE:ct 11 bB (.v (.int .i64 (i:Int)))=a_ (.fp x 0):=s.n.cE (x:=.agg x) aA D.len.1;have w1:de.wrap ((i:Int)+1-1)=(i:Int):=by rw[fO aa aa];omega
 have d1:decide ((i:Int)+1<1)=bf:=decide_eq_false aa;have d2:decide ((i:Int)+1>(rows.length:Int))=bf:=decide_eq_false aa;refine wy ?_;exact(b7.fp (D.LN _)).done
def Z2(rows:List (List bg))(t:Int):Cv rows t=bn\/∃(i:Nat) (x:List bg),t=(i:Int)+1/\rows[i]?=a_ x/\Cv rows t=a_ x:=by
 cases h:Cv rows t with
 |none=>exact bE rfl
 |some x=>
  right;unfold Cv at h;split at h;exact⟨(t-1).toNat,x,aa,h,rfl⟩;cases h
def ax9(s:l5 hk bB mv rows marks)(t:Int):cY G bC 69 [hk,.v (.int .i64 t)] (.v (.bool (Rw rows t))):=by
 have T:=s.clean;have e:=s.eq;refine e3 (XW.go ?_);refine fc ?_
 rcases Z2 rows t with h|⟨i,x,rfl,I,D⟩
 refine hU (UT s h) (bX T (bX (dn _) dc)) ?_;rw[e];unfold Rw;rw[h];refine wy ?_;refine cN (λq=>?_) λq=>?_;refine wy ?_;exact(bH _).done;refine dK @q ?_;exact(bH _).done;obtain⟨nm,cm,i1,p1,cg,a,al,uM,ex,b,cF,rfl,_⟩:=(s.rc x (cG I)).at
 refine hU (UU s I) (bX T (bX (dn _) dc)) ?_;rw[e];unfold Rw;rw[D];have q0:((i:Int)+1==0)=bf:=beq_eq_false_iff_ne.2 aa;refine wy ?_;exact(bH _).done
def alb(s:l5 hk bB mv rows marks)(t:Int):cY G bC 108 [hk,.v (.int .i64 t)] (.v (.bool (M_ rows t))):=by
 have T:=s.clean;have e:=s.eq;refine e3 (aik.go ?_);refine fc ?_
 rcases Z2 rows t with h|⟨i,x,rfl,I,D⟩
 refine hU (UT s h) (bX T (bX (dn _) dc)) ?_;rw[e];unfold M_;rw[h];refine wy ?_;refine cN (λq=>?_) λq=>?_;refine wy ?_;exact(bH _).done;refine dK @q ?_;exact(bH _).done;obtain⟨nm,cm,i1,p1,cg,a,al,uM,ex,b,cF,rfl,_⟩:=(s.rc x (cG I)).at
 refine hU (UU s I) (bX T (bX (dn _) dc)) ?_;rw[e];unfold M_;rw[D];have q0:((i:Int)+1==0)=bf:=beq_eq_false_iff_ne.2 aa;refine wy ?_;exact(bH _).done
def arA(s:l5 hk bB mv rows marks)(t:Int):cY G bC 146 [hk,.v (.int .i64 t)] (.v (.int .i64 (Ii rows t))):=by
 have T:=s.clean;have e:=s.eq;refine e3 (aiF.go ?_);refine fc ?_
 rcases Z2 rows t with h|⟨i,x,rfl,I,D⟩
 refine hU (UT s h) (bX T (bX (dn _) dc)) ?_;unfold Ii;rw[h];refine fc ?_;exact(bH _).done;obtain⟨nm,cm,i1,p1,cg,a,al,uM,ex,b,cF,rfl,_⟩:=(s.rc x (cG I)).at
 refine hU (UU s I) (bX T (bX (dn _) dc)) ?_;unfold Ii;rw[D];refine wy ?_;exact(bH _).done
def adA(s:l5 hk bB mv rows marks)(t a:Int):cY G bC 107 [hk,.v (.int .i64 t),.v (.int .i64 a)] (.v (.bool (decide (t>=1)&&decide (t<=(rows.length:Int))&&decide (a>=0)&&decide (a<=Ii rows t)))):=by
 have T:=s.clean;refine e3 (aij.go ?_);refine wy ?_;refine cN (λq=>?_) λq=>?_;refine wy ?_;refine hU (aGy s) (bX T dc) ?_;refine wy ?_;refine cN (λbt=>?_) λbt=>?_;refine wy ?_;refine cN (λbS=>?_) λbS=>?_;refine wy ?_;refine hU (arA s t) (bX T (bX (dn _) dc)) ?_;refine wy ?_;exact(bH _).done;refine wy ?_;exact(bH _).done;refine wy ?_;exact(bH _).done;refine wy ?_;exact(bH _).done
end
end
def oM(l:List UInt8)(i:Nat):Nat:=(l[i]?.getD 0).toNat
@[go_sem]def xe{l:List UInt8}{i:Nat}{k:IntKind}(h:i<l.length):w7 (bu l) (.v (.int k (i:Int)))=a_ (.v (.int .u8 (oM l i:Int))):=by
 obtain⟨c,T⟩:=dQ h;rw[aem T];unfold oM;rw[T];rfl
section
variable{G:Cells}
def aap(c:Int):cY G bC 237 [.v (.int .u8 c)] (.v (.bool (decide (97<=c)&&decide (c<=122)))):=by
 refine e3 (azI.go ?_);refine wy ?_
 repeat' refine ba (λq'=>?_) λq'=>?_
 all_goals exact(bH _).done
def P9(c:Int):cY G bC 238 [.v (.int .u8 c)] (.v (.bool (decide (48<=c)&&decide (c<=57)))):=by
 refine e3 (azJ.go ?_);refine wy ?_
 repeat' refine ba (λq'=>?_) λq'=>?_
 all_goals exact(bH _).done
def QS{v:bg}{l:List (List UInt8)}(hv:cC v (l.map bu))(hl:l.length<=1000000000)(x:List UInt8):dM G bC 177 [v,bu x] jL:=by
 refine ek (ajj.go ?_);have ln:=hv.cH;rw[cM] at ln;refine wy ?_;refine dj (λi e h=>e=[(0,v),(1,bu x),(5,bq i)]/\h=[]) l.length ⟨rfl,rfl⟩ ?_ ?_
 · rintro i e h Q ⟨rfl,rfl⟩
   obtain⟨s,hs⟩:=dQ Q;have e1:ct 1 v (.v (.int .i64 (i:Int)))=a_ (.fp [bu s] 0):=hv.cE (x:=bu s) aLN rfl;refine wy ?_
   repeat' refine ba (λq'=>?_) λq'=>?_
   exact ji _;exact⟨rfl,trivial⟩
 rintro e h ⟨rfl,rfl⟩;exact wy (ji _)
def YY(s:List UInt8)(hs:s.length<=1000000000):dM G bC 171 [bu s] jL:=by
 refine ek (azl.go ?_);refine wy ?_;refine dj (λi e h=>e=[(0,bu s),(3,bq i)]/\h=[]) s.length ⟨rfl,rfl⟩ ?_ ?_
 · rintro i e h Q ⟨rfl,rfl⟩
   refine nV ?_
   repeat' refine ba (λq'=>?_) λq'=>?_
   all_goals first|(exfalso;omega)|exact ji _|exact⟨rfl,trivial⟩|exact⟨rfl,rfl⟩|exact⟨trivial,trivial⟩
 · rintro e h ⟨rfl,rfl⟩
   refine wy ?_
   repeat' refine ba (λq'=>?_) λq'=>?_
   all_goals exact ji _
def aeM(s:List UInt8)(hs:s.length<=1000000000):dM G bC 232 [bu s] (OY s.length):=by
 refine ek (azE.go ?_);refine wy ?_;refine dj (λi e h=>e=[(0,bu s),(5,bq i)]/\h=[]) s.length ⟨rfl,rfl⟩ ?_ ?_
 · rintro i e h Q ⟨rfl,rfl⟩
   have k1:=λJ=>P6 (l:=s) (j:=i) aa J;have k2:=λJ=>Vr (l:=s) (i:=i+1) aa J;refine sU @xe ?_
   repeat' refine ba (λq'=>?_) λq'=>?_
   exact LI _ ah af;exact⟨rfl,trivial⟩
 rintro e h ⟨rfl,rfl⟩;exact wy (LI (b:=[]) _ (cj _) af)
def TF(s:List UInt8)(cw:Nat):∃p e:Int,e≠0/\cY G bC 282 [bu s,.v (.int .i64 (cw:Int))] (.bQ [.v (.int .i64 p),.v (.int .i64 e)]):=by
 rcases en cw s.length with h|h
 refine⟨cw,2,ag,e3 (aka.go ?_)⟩;exact wy ((fB (bG (bH _) (bG (bH _) cX))).done);refine⟨s.length,5,ag,e3 (aka.go ?_)⟩;exact wy ((fB (bG (bH _) (bG (bH _) cX))).done)
def acy(n cw:Nat)(r:bg):Prop:=∃(m:Int) (p:Nat),r=.bQ [.v (.int .i64 m),.v (.int .i64 (p:Int))]/\p<=n/\(m= -1\/(0<=m/\m<=99/\cw<p))
def DA{J:List br}{n cw:Nat}{m:Int}{p:Nat}(Y:p<=n)(V:m= -1\/(0<=m/\m<=99/\cw<p)):∃k bV,di J k (.bQ [.v (.int .i64 m),.v (.int .i64 (p:Int))])=a_ bV/\acy n cw bV:=by
 obtain⟨k,S⟩:=(fB (bG (bH (.int .i64 m)) (bG (bH (.int .i64 (p:Int))) cX)):b7 J _ _).done;exact⟨k,_,S,m,p,rfl,Y,V⟩
def amb(s:List UInt8)(hs:s.length<=1000000000)(cw:Nat)(ha:cw<=s.length):dM G bC 281 [bu s,.v (.int .i64 (cw:Int))] (acy s.length cw):=by
 refine ek (azV.go ?_);have ws:∀c:Int,48<=c->c<=57->de.wrap (IntKind.u8.wrap (c-48))=c-48:=λc Y V=>by
  rw[apl,Int.emod_eq_of_lt aa aa,fO aa aa]
 have aGR:∀c d:Int,48<=c->c<=57->48<=d->d<=57->de.wrap (de.wrap (10*(c-48))+(d-48))=10*(c-48)+(d-48):=λc d Y V h3 h4=>by
  rw[fO (n:=10*(c-48)) aa aa,fO aa aa]
 rcases en cw s.length with h0|h0
 refine wx ?_;refine dX (P9 (oM s cw:Int)) ?_;cases hd:(decide ((48:Int)<=(oM s cw:Int))&&decide ((oM s cw:Int)<=57)) with
 |false=>
  exact wx (DA aa (bE rfl))
 |true=>
  simp only[fQ,decide_eq_true_eq] at hd;have e1:=ws _ hd.1 hd.2;refine wx ?_
  rcases en (cw+1) s.length with Y|Y
  refine wx ?_;refine dX (P9 (oM s (cw+1):Int)) ?_;cases uF:(decide ((48:Int)<=(oM s (cw+1):Int))&&decide ((oM s (cw+1):Int)<=57)) with
  |false=>
   refine wx ?_;exact DA aa (bF ⟨aa,aa,aa⟩)
  |true=>
   simp only[fQ,decide_eq_true_eq] at uF;have e2:=ws _ uF.1 uF.2;have dr:=aGR _ _ hd.1 hd.2 uF.1 uF.2;refine wx ?_;refine dm (λq=>?_) λq=>?_;exact DA aa (bE rfl)
   rcases en (cw+1+1) s.length with V|V
   refine wx ?_;refine dX (P9 (oM s (cw+1+1):Int)) ?_;cases(decide ((48:Int)<=(oM s (cw+1+1):Int))&&decide ((oM s (cw+1+1):Int)<=57)) with
   |true=>
    refine wx ?_;exact DA aa (bE rfl)
   |false=>
    refine wx ?_;exact DA aa (bF ⟨aa,aa,aa⟩)
   refine wx ?_;exact DA aa (bF ⟨aa,aa,aa⟩)
  refine wx ?_;exact DA aa (bF ⟨aa,aa,aa⟩)
 refine wx ?_;exact DA aa (bE rfl)
end
section
variable{J:List br}{v:bg}{m n:Nat}
def aph(n:Int): -9223372036854775808<=de.wrap n/\de.wrap n<=9223372036854775807:=by
 simp only[abq,Ks,Kt];constructor<;>(simp;split<;>omega)
def TE(n:Int):0<=HA.wrap n/\HA.wrap n<18446744073709551616:=by
 rw[ES];omega
@[go_sem]def ae_(a:List UInt8):dL .eql (bu a) (.v (.string ⟨[].toArray⟩))=a_ (.v (.bool (a==[]))):=oN a []
@[go_sem]def Fp{xs:List bg}{e:TypeId}(hA:cT J v xs n e)(g:List br):cH v g=a_ (.v (.int .i64 (xs.length:Int)),g):=by
 rcases hA with⟨rfl,rfl⟩|⟨id,rfl,_⟩<;>rfl
def KJ(a b:Int)(r:bg):Prop:=∃n:Int,r=.v (.int .i64 n)/\a<=n/\n<=b
def uy{a b n:Int}(Y:a<=n)(V:n<=b):∃k bV,di J k (.v (.int .i64 n))=a_ bV/\KJ a b bV:=by
 obtain⟨k,S⟩:=(bH (.int .i64 n):b7 J _ _).done;exact⟨k,_,S,n,rfl,Y,V⟩
def C9(m n:Nat)(v:bg):Prop:=∃l:List (List UInt8),cC v (l.map bu)/\l.length<=m/\∀w∈l,w.length<=n
def C9.nil(m n:Nat):C9 m n .bp:=⟨[],bF ⟨rfl,rfl⟩,js _,af⟩
def arv{l:List (List UInt8)}(h:cT J v (l.map bu) 1 9)(Y:l.length<=m)(V:∀w∈l,w.length<=n):∃v',b7 J v v'/\C9 m n v':=by
 rcases h with⟨rfl,z⟩|⟨id,rfl,_⟩
 exact⟨_,ez,C9.nil _ _⟩;exact⟨_,gU (iC λa _=>bH _),l,bE rfl,Y,V⟩
def acj(m n:Nat)(r:bg):Prop:=∃(v:bg) (p e:Int),r=.bQ [v,.v (.int .i64 p),.v (.int .i64 e)]/\C9 m n v
def VV{v':bg}{p e:Int}(h:b7 J v v')(V:C9 m n v'):∃k bV,di J k (.bQ [v,.v (.int .i64 p),.v (.int .i64 e)])=a_ bV/\acj m n bV:=by
 obtain⟨k,S⟩:=(fB (bG h (bG (bH (.int .i64 p)) (bG (bH (.int .i64 e)) cX))):b7 J _ _).done;exact⟨k,_,S,v',p,e,rfl,V⟩
section
variable{G:Cells}
def aDn(c:Int):dM G bC 170 [.v (.int .u8 c)] jL:=by
 refine ek (ayK.go ?_);refine wy ?_
 repeat' refine ba (λq'=>?_) λq'=>?_
 all_goals exact ji _
def atf(n:Nat)(hn:n<18446744073709551616):dM G bC 313 [.v (.int .u64 (n:Int))] (zZ 20):=by
 refine ek (ayL.go ?_);refine wy ?_;refine pV (n:=n+1) (λm e h=>∃(i k:Nat) (t:List UInt8),m=(if i=0 then k+1 else k)/\i<=20/\k<10^(20-i)/\t.length=i/\k<18446744073709551616/\e=[(0,.v (.int .u64 (k:Int))),(3,bu t),(4,bq i)]/\h=[]) ⟨0,n,[],rfl,aa,aa,rfl,hn,rfl,rfl⟩ ?_;rintro m e h ⟨i,k,t,rfl,Q,S,ht,hk2,rfl,rfl⟩;have e1:dL .rem (.v (.int .u64 (k:Int))) (.v (.int .u64 10))=a_ (.v (.int .u64 ((k:Int).tmod 10))):=by rw[UH _ _ _ ag]
 have e2:dL .quo (.v (.int .u64 (k:Int))) (.v (.int .u64 10))=a_ (.v (.int .u64 ((k/10:Nat):Int))):=by
  rw[UG _ _ _ ag,ES];congr 4;rw[Int.tdiv_eq_ediv_of_nonneg aa];omega
 have dr:∀x:Int,K0 (.sl [.v (.int .u8 x)] .exact)=a_ (bu [vf x.toNat]):=λx=>rfl;have eS:∀x:Int,dL .add (bu [vf x.toNat]) (bu t)=a_ (bu ([vf x.toNat]++t)):=λx=>vt ah;have next:(i=0\/0<k)->i<20/\k/10<10^(20-(i+1))/\(if i+1=0 then k/10+1 else k/10)<(if i=0 then k+1 else k):=by
  intro T;have Wi:i<20:=by
   rcases en i 20 with z|z
   exact z;have:i=20:=aa
   subst this;simp at S;omega
  refine⟨Wi,?_,?_⟩;have:20-i=20-(i+1)+1:=aa
  rw[this,Nat.pow_succ] at S;omega;rw[if_neg aa];split;omega
  rcases T with z|z
  omega;omega
 refine wy ?_
 repeat' ((refine ba (λq'=>?_) λq'=>?_)<;>refine qx @e1 @e2 @dr @eS @z6 ?_)
 all_goals first
  |exact sr aa
  |(obtain⟨b_,z2,z3⟩:=next aa
    exact⟨_,z3,i+1,k/10,_,rfl,aa,z2,ah,aa,rfl,trivial⟩)
def aeX(n:Int)(h0:0<=n)(Y:n<18446744073709551616):dM G bC 313 [.v (.int .u64 n)] (zZ 20):=by
 have:=atf (G:=G) n.toNat aa
 rwa [Int.toNat_of_nonneg h0] at this
def aae(n:Int):dM G bC 302 [.v (.int .i64 n)] (zZ 21):=by
 refine ek (az6.go ?_);have aJj:∀x:Int,Fs .neg (.v (.int .i64 x))=a_ (.v (.int .i64 (de.wrap (0-x)))):=λx=>rfl;refine wy ?_;refine dm (λq=>?_) λq=>?_;refine wy ?_;refine ei (aeX _ (TE _).1 (TE _).2) ?_;rintro r ⟨t,rfl,ht⟩;have a1:dL .add (.v (.string ⟨[45].toArray⟩)) (bu t)=a_ (bu ([45]++t)):=vt (a:=[45]) ah;refine wy ?_;exact sr ah;refine ei (aeX _ (TE _).1 (TE _).2) ?_;rintro r ⟨t,rfl,ht⟩;refine wy ?_;exact sr aa
def aCL(s:List UInt8)(hs:s.length<=1000000000):dM G bC 278 [bu s] Pc:=by
 refine ek (azk.go ?_)
 rcases CV s.length with h0|h0
 obtain rfl:=nZ h0;have l0:∀J,rK (bu []) J=a_ (.v (.int .i64 0),J):=λ_=>rfl;refine wy ?_;exact xo ag ag;have z0:((s.length:Int)==0)=bf:=by simp;intro e;rw[e] at h0;simp at h0
 have c0:w7 (bu s) (.v (.int .i64 0))=a_ (.v (.int .u8 (oM s 0:Int))):=xe (i:=0) h0;refine wy (cN (λq=>?_) λq=>?_);refine wy ?_;exact xo ag ag;refine wy ?_;refine dj (λi e h=>∃m:Int,e=[(0,bu s),(4,.v (.int .u64 m)),(5,bq i)]/\h=[]) s.length ⟨0,rfl,rfl⟩ ?_ ?_
 · rintro i e h Q ⟨m,rfl,rfl⟩
   refine wy ?_
   repeat' refine ba (λq'=>?_) λq'=>?_
   all_goals first
    |exact xo ag ag
    |exact⟨_,rfl,trivial⟩
 · rintro e h ⟨m,rfl,rfl⟩
   refine wy (cN (λbt=>?_) λbt=>?_)
   all_goals
    refine wy ?_;refine ei (aae _) ?_;rintro r ⟨t,rfl,ht⟩;refine wy ?_;refine dm (λbS=>?_) λbS=>?_;exact xo ag ag;exact xo (aph _).1 (aph _).2
def aa1(s:List UInt8)(hs:s.length<=1000000000):dM G bC 233 [bu s] (KJ (-1) 999):=by
 refine ek (azF.go ?_);refine wy ?_;refine ei (aCL s hs) ?_;rintro r ⟨n,b,rfl,Y,V⟩;refine wy ?_;cases b with
 |false=>
  refine wy ?_;exact uy ag ag
 |true=>
  refine wy ?_
  repeat' refine ba (λq'=>?_) λq'=>?_
  all_goals first
   |exact uy ag ag
   |exact uy aa aa
def Yv(s:List UInt8)(hs:s.length<=100000):dM G bC 234 [bu s] (O9 100001):=by
 refine ek (azG.go ?_);have fin:∀(J:List br) (a:Bool) (v v':bg) (b:Bool),b7 J v v'->jf 100001 v'->∃n bV,di J n (.bQ [.v (.bool a),v,.v (.bool b)])=a_ bV/\O9 100001 bV:=λJ a v v' b hf hv=>by
  obtain⟨n,hn⟩:=(fB (bG (bH (.bool a)) (bG hf (bG (bH (.bool b)) cX))):b7 J _ _).done;exact⟨n,_,hn,a,v',b,rfl,hv⟩
 refine wy (cN (λq=>?_) λq=>?_);exact wy (fin _ _ _ _ _ ez (zM _));refine wy ?_;refine dj (λi e h=>∃(l:List (List UInt8)) (bx:bg) (a:Nat),e=[(0,bu s),(5,bx),(6,bq a),(7,bq i)]/\a<=i/\l.length<=i/\cT h bx (l.map bu) 1 9) (s.length+1) ⟨[],.bp,0,rfl,cj _,cj _,sW _ _ _⟩ ?_ ?_
 · rintro i e h Q ⟨l,bx,a,rfl,ha,hl,hA⟩
   obtain⟨v',y1,fV,lW⟩:=Ac hA Dt;refine wy ?_
   repeat' refine ba (λq'=>?_) λq'=>?_
   all_goals first
    |exact⟨l,bx,a,rfl,aa,aa,hA⟩
    |(have c1:=λJ=>P7 (l:=s) (i:=a) (j:=i) ha aa J
      have hw:((s.take i).drop a).length<=1000000000:=ah
      refine wy ?_;refine cq.ZE (YY _ hw) ?_;rintro r ⟨b,rfl⟩;cases b with
      |false=>
       exact wy (fin _ _ _ _ _ b7.bp (jf.nil _))
      |true=>
       refine wy ?_;refine cq.ZE (QS y1 aa _) ?_;rintro r ⟨b,rfl⟩;cases b with
       |true=>
        exact wy (fin _ _ _ _ _ b7.bp (jf.nil _))
       |false=>
        obtain⟨cl,g,e1,fJ,_⟩:=nc (x:=bu ((s.take i).drop a)) (b9:=16) hA (zl l) rfl ag ag ah;have ab:eV 1 [bu ((s.take i).drop a)]=some (.sl [bu ((s.take i).drop a)] .exact):=rfl;refine wy ?_;exact⟨l++[(s.take i).drop a],cl,i+1,rfl,aa,ah,by rw[List.map_append];exact fJ⟩)
 rintro e h ⟨l,bx,a,rfl,ha,hl,hA⟩;refine wy ?_;obtain⟨v',f1,f2⟩:=UO (n:=100001) hA aa;exact fin _ _ _ _ _ f1 f2
def aBw(s:List UInt8)(hs:s.length<=1000000000):dM G bC 94 [bu s] (acj 65536 65536):=by
 refine ek (ayU.go ?_);refine wy (cN (λq=>?_) λq=>?_);exact wy (VV ez (C9.nil _ _));have nO:s.length<=65536:=aq
 refine wy ?_;refine dj (λi e h=>∃(l:List (List UInt8)) (bx:bg) (a:Nat),e=[(0,bu s),(5,bx),(6,bq a),(7,bq i)]/\a<=i/\l.length<=i/\(∀w∈l,w.length<=65536)/\cT h bx (l.map bu) 1 9) s.length ⟨[],.bp,0,rfl,cj _,cj _,af,sW _ _ _⟩ ?_ ?_;rintro i e h Q ⟨l,bx,a,rfl,ha,hl,hw,hA⟩;have c1:=λJ=>P7 (l:=s) (i:=a) (j:=i) ha aa J;obtain⟨cl,g,e1,fJ,_⟩:=nc (x:=bu ((s.take i).drop a)) (b9:=16) hA (zl l) rfl ag ag ah;have ab:eV 1 [bu ((s.take i).drop a)]=a_ (.sl [bu ((s.take i).drop a)] .exact):=rfl;refine nV ?_;refine dm (λq=>?_) λq=>?_;refine wy ?_;refine⟨l++[(s.take i).drop a],cl,i+1,rfl,aa,ah,?_,aJQ⟩;intro w hm
 rcases gj.1 hm with z|z
 exact hw w z;rw[dP.1 z];simp;omega;exact⟨l,bx,a,rfl,aa,aa,hw,hA⟩;rintro e h ⟨l,bx,a,rfl,ha,hl,hw,hA⟩;have ln:=Fp hA;refine wy ?_;refine dm (λq=>?_) λq=>?_;exact VV ez (C9.nil _ _);obtain⟨v',f1,f2⟩:=arv (m:=65536) (n:=65536) hA aa hw;exact VV f1 f2
end
end
section
variable{v w:bg}{l m:List Int}
def KK(r:bg):Prop:=∃l:List Int,cC r (l.map bq)/\l.length<=256/\∀x∈l,0<=x/\x<256
@[go_sem]def GU(l:List Int):cZ 1 (l.map bq)=bh:=by
 rw[cZ,eP];intro x I;obtain⟨t,ht,rfl⟩:=eg.1 I;rfl
def UP{J:List br}(h:cT J v (l.map bq) 1 3)(Y:l.length<=256)(V:∀x∈l,0<=x/\x<256):∃k bV,di J k v=a_ bV/\KK bV:=by
 rcases h with⟨rfl,z⟩|⟨id,rfl,_⟩
 obtain⟨n,hn⟩:=(ez:b7 J _ _).done;exact⟨n,_,hn,[],bF ⟨rfl,rfl⟩,af,af⟩;obtain⟨n,hn⟩:=(gU (t:=.tok id) (iC (f:=bq) (l:=l) λa _=>bH _):b7 J _ _).done;exact⟨n,_,hn,l,bE rfl,Y,V⟩
section
variable{G:Cells}
def arO(c:Int):dM G bC 174 [.v (.int .u8 c)] jL:=by
 refine ek (azp.go ?_);refine wy ?_;refine dX (aap c) ?_;refine wy ?_;cases O:(decide ((97:Int)<=c)&&decide (c<=122))<;>refine wy ?_
 all_goals repeat' refine ba (λq'=>?_) λq'=>?_
 all_goals exact ji _
def WE(hv:cC v (l.map bq))(hl:l.length<=1000000000)(x:Int):dM G bC 242 [v,bq x] jL:=by
 refine ek (azM.go ?_);have ln:=hv.cH;rw[cM] at ln;refine wy ?_;refine dj (λi e h=>e=[(0,v),(1,bq x),(5,bq i)]/\h=[]) l.length ⟨rfl,rfl⟩ ?_ ?_
 · rintro i e h Q ⟨rfl,rfl⟩
   obtain⟨s,hs⟩:=dQ Q;have e1:ct 1 v (.v (.int .i64 (i:Int)))=a_ (.fp [bq s] 0):=hv.cE (x:=bq s) aLN rfl;unfold bq at e1;refine wy ?_
   repeat' refine ba (λq'=>?_) λq'=>?_
   exact ji _;exact⟨rfl,trivial⟩
 rintro e h ⟨rfl,rfl⟩;exact wy (ji _)
def aEJ(hv:cC v (l.map bq))(hw:cC w (m.map bq))(hl:l.length<=1000000000)(hm:m.length<=1000000000):dM G bC 241 [v,w] jL:=by
 refine ek (az3.go ?_);have ln:=hv.cH;rw[cM] at ln;have lm:=hw.cH;rw[cM] at lm;refine wy (cN (λq=>?_) λq=>?_);exact wy (ji _);have ahl:l.length=m.length:=aq
 refine wy ?_;refine dj (λi e h=>e=[(0,v),(1,w),(5,bq i)]/\h=[]) l.length ⟨rfl,rfl⟩ ?_ ?_
 · rintro i e h Q ⟨rfl,rfl⟩
   obtain⟨s,hs⟩:=dQ Q;obtain⟨t,ht⟩:∃s,m[i]?=a_ s:=⟨m[i],cz aa⟩;have e1:ct 1 v (.v (.int .i64 (i:Int)))=a_ (.fp [bq s] 0):=hv.cE (x:=bq s) aLN rfl;have e2:ct 1 w (.v (.int .i64 (i:Int)))=a_ (.fp [bq t] 0):=hw.cE (x:=bq t) (by simp[ht]) rfl;unfold bq at e1 e2;refine wy ?_
   repeat' refine ba (λq'=>?_) λq'=>?_
   exact ji _;exact⟨rfl,trivial⟩
 rintro e h ⟨rfl,rfl⟩;exact wy (ji _)
def aBz(hv:cC v (l.map bq))(T:eM v)(hl:l.length<=1000000000):dM G bC 283 [v] KK:=by
 refine ek (azW.go ?_);refine wy ?_;refine dj (λi e h=>∃(o:List Int) (bx:bg),e=[(0,v),(3,bx),(4,bq i)]/\o.length<=i/\(∀x∈o,0<=x/\x<256)/\cT h bx (o.map bq) 1 3) 256 ⟨[],.bp,rfl,af,af,sW _ _ _⟩ ?_ ?_;rintro i e h Q ⟨o,bx,rfl,ho,I,hA⟩;obtain⟨cl,g,e1,fJ,_⟩:=nc (x:=bq i) (b9:=8) hA (GU o) rfl ag ag ah;have Vb:decide ((i:Int)<256)=bh:=ah
 unfold bq at e1;refine wy ?_;refine ei (WE hv hl i) ?_;rintro r ⟨b,rfl⟩;cases b with
 |false=>
  refine wy ?_;exact⟨o,bx,rfl,aa,I,hA⟩
 |true=>
  refine wy ?_;refine⟨o++[(i:Int)],cl,rfl,ah,?_,aJQ⟩;intro x hm
  rcases gj.1 hm with z|z
  exact I x z;rw[dP.1 z];omega
 rintro e h ⟨o,bx,rfl,ho,I,hA⟩;have Vb:decide (((256:Nat):Int)<256)=bf:=ag
 exact wy (UP hA ho I)
def aGw(hv:cC v (l.map bq))(hw:cC w (m.map bq))(T:eM v)(hd:eM w)(hl:l.length<=1000000000)(hm:m.length<=1000000000)(op:Int):dM G bC 182 [v,w,bq op] KK:=by
 refine ek (azt.go ?_);refine wy ?_;refine dj (λi e h=>∃(o:List Int) (bx:bg),e=[(0,v),(1,w),(2,bq op),(7,bx),(8,bq i)]/\o.length<=i/\(∀x∈o,0<=x/\x<256)/\cT h bx (o.map bq) 1 3) 256 ⟨[],.bp,rfl,af,af,sW _ _ _⟩ ?_ ?_
 · rintro i e h Q ⟨o,bx,rfl,ho,I,hA⟩
   obtain⟨cl,g,e1,fJ,_⟩:=nc (x:=bq i) (b9:=8) hA (GU o) rfl ag ag ah;have Vb:decide ((i:Int)<256)=bh:=ah
   unfold bq at e1;refine wy ?_;refine ei (WE hv hl i) ?_;rintro r ⟨b,rfl⟩;refine wy ?_;refine ei (WE hw hm i) ?_;rintro r ⟨b2,rfl⟩;have no:∃(o:List Int) (jo:bg),[(0,v),(1,w),(2,cI (.int .i64 op)),(7,bx),(8,cI (.int .i64 ((i+1:Nat):Int)))]=[(0,v),(1,w),(2,cI (.int .i64 op)),(7,jo),(8,cI (.int .i64 ((i+1:Nat):Int)))]/\o.length<=i+1/\(∀x∈o,0<=x/\x<256)/\cT h jo (o.map bq) 1 3:=⟨o,bx,rfl,aa,I,hA⟩;have sV:∃(o:List Int) (jo:bg),[(0,v),(1,w),(2,cI (.int .i64 op)),(7,cl),(8,cI (.int .i64 ((i+1:Nat):Int)))]=[(0,v),(1,w),(2,cI (.int .i64 op)),(7,jo),(8,cI (.int .i64 ((i+1:Nat):Int)))]/\o.length<=i+1/\(∀x∈o,0<=x/\x<256)/\cT g jo (o.map bq) 1 3:=by
    refine⟨o++[(i:Int)],cl,rfl,ah,?_,aJQ⟩;intro x hm
    rcases gj.1 hm with z|z
    exact I x z;rw[dP.1 z];omega
   cases b<;>cases b2<;>refine wy ?_
   all_goals repeat' ((refine ba (λq'=>?_) λq'=>?_)<;>refine qx @z6 @e1 @aaV @zH @va ?_)
   all_goals first
    |(exfalso;omega)
    |exact no
    |exact sV
 rintro e h ⟨o,bx,rfl,ho,I,hA⟩;have Vb:decide (((256:Nat):Int)<256)=bf:=ag
 exact wy (UP hA ho I)
end
end
end Go.Proofs.YtkpjaeffojibmaaGreatDoor

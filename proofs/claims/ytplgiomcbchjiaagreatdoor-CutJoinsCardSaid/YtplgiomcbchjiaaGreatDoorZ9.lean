/- Part 9 of a proof. No condition. -/
import Derived.Test.YtplgiomcbchjiaaGreatDoorZ8
set_option linter.unusedVariables false
set_option linter.unusedSimpArgs false
set_option linter.defProp false
open Bool renaming and_eq_true->fQ,false->bf,not_false->vv,not_true->zU,true->bh
open Go.bM.bg renaming agg->dG,cells->jD,mp->cU,one->cu,v->cR
open Go.bM.de renaming nil->tA
open Go.bM.br renaming cells->bw,b8->pI
open Go.bM.tG renaming mk->cM
open Go.bM.cw renaming mono->cm,pu->dx,aaA->eo,pure->ic,aFa->jE
open Go.bM.iH renaming mono->g_
open Go.bM.jS renaming mono->vw
open Go.bM renaming Clean->eY,marks->K2
open Go.bM.b_ renaming agg->j0,bp->eB,sl->hD,bQ->fy,v->bH
open Go.bM.fC renaming append->BO,cons->bG,map->iE,nil->c_
open Go.Fn renaming func->uD
open Go.IntKind renaming bits->K5,i64->cN,signed->K6,u64->Im,wrap->acF
open Go.Lib renaming lens->zX
open Go.Proofs.Tryz renaming prog->bB
open Go.Proofs.YtplgiomcbchjiaaGreatDoor.Ext renaming app->mg,refl->rH
open Go.Proofs.YtplgiomcbchjiaaGreatDoor.jg renaming nil->zZ
open Go.Value renaming int->yt
open List renaming all_cons->pK,all_eq_true->eJ,all_nil->tC,append_assoc->dQ,append_nil->gV,cons_append->gB,drop_of_length_le->tD,drop_succ_cons->wX,drop_zero->pL,eq_nil_of_length_eq_zero->oc,flatten_cons->yx,getElem?_append_right->gh,getElem?_cons_zero->nL,getElem?_eq_getElem->cy,getElem?_eq_none_iff->arv,getElem?_eq_some_iff->cK,getElem?_map->e9,getElem?_set_ne->bE,getElem?_set_self->bT,getElem_mem->Pp,length_append->ek,length_cons->eZ,length_drop->z7,length_map->cS,length_nil->iG,length_set->wY,length_singleton->qg,map_append->gC,map_cons->fc,map_nil->kM,mem_append->fA,mem_cons->fo,mem_cons_of_mem->sw,mem_cons_self->wZ,mem_map->dV,mem_of_getElem?->cv,mem_of_mem_drop->vz,mem_or_eq_of_mem_set->UK,mem_singleton->dW,nil_append->gM,not_mem_nil->pM,set_append_right->arC,set_eq_take_append_cons_drop->arD,sum_cons->Aa,take_length->od,take_of_length_le->oe,take_zero->oR
open Nat renaming add_assoc->nM,add_zero->sx,eq_zero_or_pos->Dp,le_refl->cc,le_trans->iz,lt_or_ge->er,sub_self->ni,zero_add->gi,zero_le->gW,zero_lt_succ->w9
open Ne renaming symm->e3
open Option renaming none->bn,some->a_
open Or renaming inl->bD,inr->bF
open UInt8 renaming ofNat->vC
namespace Go.Proofs.YtplgiomcbchjiaaGreatDoor
open Go Go.bM Go.RowKit
section
variable{a b k:Nat}{h:List br}{x:bg}{aqJ:List UInt8}{has:Bool}
def eH(nm:List UInt8)(cq:bg)(i p cj:Bool)(a:Int)(al:Bool)(mv:bg)(ex:List UInt8):List bg:=[bu nm,cq,i,p,cj,a,al,mv,bu ex]
def xl(k:Nat)(h:List br):Prop:=∃(nm:List UInt8) (cq:bg) (i p cj:Bool) (a:Int) (al:Bool) (mv:bg) (ex:List UInt8) (gs:List (List UInt8)),h[k]?=a_ (.cells (eH nm cq i p cj a al mv ex) bf)/\de h cq (gs.map bu) 1 9/\gs.length<=4/\jg 100001 mv/\ex.length<=40000
def oS(k:Nat)(h h':List br):Prop:=h.length<=h'.length/\∀(j:Nat) b,j≠k->(∀c,b≠.tok c 1 9)->h[j]?=a_ b->h'[j]?=a_ b
def oS.refl(k)(h):oS k h h:=⟨cc _,λ_ _ _ _ q=>q⟩
def oS.trans{a b c}(h:oS k a b)(q:oS k b c):oS k a c:=⟨iz h.1 q.1,λj x hj hn e=>q.2 j x hj hn (h.2 j x hj hn e)⟩
def oS.set{x}:oS k h (h.set k x):=⟨af,λj b hj _ q=>aMF⟩
def oS.app{l}:oS k h (h++l):=⟨af,λ_ _ _ _ q=>bS q⟩
section
variable{k:Nat}{h:List br}{nm ex:List UInt8}{cq mv:bg}{i p cj al:Bool}{a:Int}{gs:List (List UInt8)}
def j7{v}{xs}{n}{e}{Z cs'}(hA:de h v xs n e)(S:h[k]?=a_ (.cells Z bf)):de (h.set k (.cells cs' bf)) v xs n e:=by
 rcases hA with z|⟨id,b9,z2⟩
 exact bD z;exact bF ⟨id,b9,by rw[bE (by rintro rfl;rw[S] at z2;cases z2)];exact z2⟩
@[go_sem]def wC(O:h[k]?=a_ (.cells (eH nm cq i p cj a al mv ex) bf)):bz h bf 1 (.mp k 0)=a_ (bu nm)/\bz h bf 1 (.mp k 1)=a_ cq/\bz h bh 9 (.mp k 0)=a_ (.agg (eH nm cq i p cj a al mv ex)):=by
 simp only[bz,O];exact⟨rfl,rfl,rfl⟩
@[go_sem]def anh(O:h[k]?=a_ (.cells (eH nm cq i p cj a al mv ex) bf))(x:Bool):bL h 1 (.mp k 2) x=a_ (h.set k (.cells (eH nm cq x p cj a al mv ex) bf)):=aW
@[go_sem]def ani(O:h[k]?=a_ (.cells (eH nm cq i p cj a al mv ex) bf))(x:Bool):bL h 1 (.mp k 3) x=a_ (h.set k (.cells (eH nm cq i x cj a al mv ex) bf)):=aW
@[go_sem]def anj(O:h[k]?=a_ (.cells (eH nm cq i p cj a al mv ex) bf))(x:Bool):bL h 1 (.mp k 4) x=a_ (h.set k (.cells (eH nm cq i p x a al mv ex) bf)):=aW
@[go_sem]def ank(O:h[k]?=a_ (.cells (eH nm cq i p cj a al mv ex) bf))(x:Int):bL h 1 (.mp k 5) x=a_ (h.set k (.cells (eH nm cq i p cj x al mv ex) bf)):=aW
@[go_sem]def Z1(O:h[k]?=a_ (.cells (eH nm cq i p cj a al mv ex) bf))(x:Bool):bL h 1 (.mp k 6) x=a_ (h.set k (.cells (eH nm cq i p cj a x mv ex) bf)):=aW
@[go_sem]def anl(O:h[k]?=a_ (.cells (eH nm cq i p cj a al mv ex) bf))(x):bL h 1 (.mp k 8) (bu x)=a_ (h.set k (.cells (eH nm cq i p cj a al mv x) bf)):=aW
@[go_sem]def Z2(O:h[k]?=a_ (.cells (eH nm cq i p cj a al mv ex) bf))(I:cu x=bh)(T:x.cells=[x]):bL h 1 (.mp k 7) x=a_ (h.set k (.cells (eH nm cq i p cj a al x ex) bf)):=by
 simp only[bL,O,fD,T];simp[I,d_,eH]
@[go_sem]def Z0(O:h[k]?=a_ (.cells (eH nm cq i p cj a al mv ex) bf))(I:cu x=bh)(T:x.cells=[x]):bL h 1 (.mp k 1) x=a_ (h.set k (.cells (eH nm x i p cj a al mv ex) bf)):=by
 simp only[bL,O,fD,T];simp[I,d_,eH]
end
def IJ(G:Cells)(f:FuncId):Prop:=∀(k:Nat) (s:List UInt8) (h:List br),s.length<=100000->xl k h->cw G bB f [.mp k 0,bu s] h λr h'=>jR r/\xl k h'/\oS k h h'
section
variable{G:Cells}
def aFB:IJ G 257:=by
 rintro k s h hs ⟨nm,cq,i,p,cj,a,al,mv,ex,gs,O,hA,hg,hm,he⟩;refine ak4.go ?_;refine wx ?_;exact⟨⟨_,rfl⟩,⟨nm,cq,bh,p,cj,a,al,mv,ex,gs,bT (gl O),j7 hA O,hg,hm,he⟩,oS.set⟩
def aFC:IJ G 258:=by
 rintro k s h hs ⟨nm,cq,i,p,cj,a,al,mv,ex,gs,O,hA,hg,hm,he⟩;refine ak5.go ?_;refine wx ?_;exact⟨⟨_,rfl⟩,⟨nm,cq,i,bh,cj,a,al,mv,ex,gs,bT (gl O),j7 hA O,hg,hm,he⟩,oS.set⟩
def aFD(cE:gk G)(hI:BY G):IJ G 259:=by
 rintro k s h hs ⟨nm,cq,i,p,cj,a,al,mv,ex,gs,O,hA,hg,hm,he⟩;refine ak6.go ?_;refine wy ?_;refine eo (aqA cE hI s aa) ?_;rintro r ⟨n,b,rfl,Y,V⟩;refine wx ?_;exact⟨⟨_,rfl⟩,⟨nm,cq,i,p,cj,n,al,mv,ex,gs,bT (gl O),j7 hA O,hg,hm,he⟩,oS.set⟩
def aFE(cE:gk G):IJ G 260:=by
 rintro k s h hs ⟨nm,cq,i,p,cj,a,al,mv,ex,gs,O,hA,hg,hm,he⟩;refine ak7.go ?_;refine wy ?_;refine eo (amv cE s hs) ?_;rintro r ⟨x,v,b,rfl,hv⟩;have iS:=bT (a:=.cells (eH nm cq i p cj a x mv ex) bf) (gl O);refine mI (Z1 O) (Z2 iS hv.one.1 hv.one.2) ?_;exact⟨⟨_,rfl⟩,⟨nm,cq,i,p,cj,a,x,v,ex,gs,bT (gl iS),j7 (j7 hA O) iS,hg,hv,he⟩,oS.set.trans oS.set⟩
def aFA(cE:gk G):IJ G 256:=by
 rintro k s h hs ⟨nm,cq,i,p,cj,a,al,mv,ex,gs,O,hA,hg,hm,he⟩;refine ak3.go ?_;obtain⟨v',y1,fR,mc⟩:=B5 hA DT;have ln:∀J,cG cq J=a_ (.v (.int .i64 (gs.length:Int)),J):=λJ=>by
  rcases hA with⟨rfl,z⟩|⟨id,rfl,_⟩
  have:gs=[]:=aN
  subst this;rfl;simp[pq,goInt]
 refine wy ?_;refine eo (YM cE s aa) ?_;rintro r ⟨b,rfl⟩;cases b with
 |false=>
  refine wy ?_;exact⟨⟨_,rfl⟩,⟨nm,cq,i,p,cj,a,al,mv,ex,gs,O,hA,hg,hm,he⟩,oS.refl _ _⟩
 |true=>
  refine iD ((wC O).2.1) ?_;refine dx (L2 y1 mc aa s) ?_;refine wy (cM (λq=>?_) λq=>?_);refine wy ?_;exact⟨⟨_,rfl⟩,⟨nm,cq,i,p,cj,a,al,mv,ex,gs,O,hA,hg,hm,he⟩,oS.refl _ _⟩;refine mI @q ((wC O).2.1) (cM (λbt=>?_) λbt=>?_);refine wy ?_;exact⟨⟨_,rfl⟩,⟨nm,cq,i,p,cj,a,al,mv,ex,gs,O,hA,hg,hm,he⟩,oS.refl _ _⟩;have XU:gs.length<4:=aMR
  obtain⟨cl,g2,e2,fM,bP,bK,hk2⟩:=nv (x:=bu s) (bW:=16) hA (zA gs) rfl ag ag ah;have gI:∀{j} {b:br},h[j]?=a_ b->(∀c,b≠.tok c 1 9)->g2[j]?=a_ b:=λq O=>hk2 _ _ q λxs z=>by
   rcases hA with⟨b9,_⟩|⟨id,b9,z2⟩
   rw[b9] at z;cases z;rw[b9] at z;cases z;rw[q] at z2;cases z2;exact O _ rfl
  have iS:=gI O af
  have ho:cu cl=bh/\cl.cells=[cl]:=by rcases fM with⟨rfl,_⟩|⟨_,rfl,_⟩<;>exact⟨rfl,rfl⟩
  have ab:e4 1 [bu s]=a_ (.sl [bu s] .exact):=rfl;refine mI ((wC O).2.1) (Z0 iS ho.1 ho.2) ?_;refine⟨⟨_,rfl⟩,⟨nm,cl,i,p,cj,a,al,mv,ex,gs++[s],bT (gl iS),?_,ah,hm,he⟩,?_⟩;rw[gC];exact j7 fM iS;exact oS.trans ⟨bK,λj b _ hn q=>gI q hn⟩ oS.set
def mF(w:List UInt8)(b:Bool)(f:FuncId):List bg:=[bu w,b,.fn (.func f) [] []]
def E0:List (List bg):=[mF [103,114,111,117,112] bh 256,mF [105,110,108,105,110,101] bf 257,mF [112,105,99,107] bf 258,mF [97,116,116,114] bh 259,mF [109,97,114,107,115] bh 260]
def aai(h):cw G bB 195 [] h λr h'=>r=.sl (E0.map dG) .exact/\h'=h:=by
 refine akz.go ?_;have f1:∀(w) (b:Bool) (f),dN [.v (.string ⟨[].toArray⟩),bf,.v .nilFunc] [(0,1,.v (.string ⟨w.toArray⟩)),(1,1,b),(2,1,.fn (.func f) [] [])]=a_ (mF w b f):=λw b f=>rfl;have ab:e4 3 [.agg (mF [103,114,111,117,112] bh 256),.agg (mF [105,110,108,105,110,101] bf 257),.agg (mF [112,105,99,107] bf 258),.agg (mF [97,116,116,114] bh 259),.agg (mF [109,97,114,107,115] bh 260)]=a_ (.sl (E0.map dG) .exact):=rfl;exact wx tt
def azR(ha:h[a]?=a_ (.cells [bu aqJ] bf))(O:h[b]?=a_ (.cells [has] bf))(w)(x)(f):
  cw G bB 196 [.agg (mF w x f),.mp a 0,.mp b 0] h λr h'=>jR r/\h'=h++[.cells (mF w x f) bf]:=by
 refine akA.go ?_;have m1:(h++[bw (mF w x f) bf])[h.length]?=a_ (.cells (mF w x f) bf):=af
 have l0:bz (h++[bw (mF w x f) bf]) bf 1 (.mp h.length 0)=a_ (bu w)/\bz (h++[bw (mF w x f) bf]) bf 1 (.mp h.length 1)=a_ (.v (.bool x)):=by
  simp only[bz,m1];exact⟨rfl,rfl⟩
 refine wy ?_;refine wy (cM (λq=>?_) λq=>?_);have e1:FY bf (.v (.bool x)) (.v (.bool has))=a_ (.v (.bool (x==has))):=by cases x<;>cases has<;>rfl
 refine wx ?_;exact⟨⟨_,rfl⟩,trivial⟩;refine wx ?_;exact⟨⟨_,rfl⟩,trivial⟩
def azB(ha:h[a]?=a_ (.cells [bu aqJ] bf))(O:h[b]?=a_ (.cells [has] bf)):
  cw G bB 194 [.sl (E0.map dG) .exact,.fn (.func 196) [] [.mp a 0,.mp b 0]] h λr h'=>(∃n:Int,r=n/\(n<0\/∃j:Nat,n=(j)/\j<5))/\∃l,h'=h++l:=by
 refine aky.go ?_;refine wy ?_;refine c8 (λi e g=>e=[(0,.sl (E0.map dG) .exact),(1,.fn (.func 196) [] [.mp a 0,.mp b 0]),(7,.v (.int .i64 5)),(8,bq i)]/\∃l,g=h++l) 5 ⟨rfl,[],af⟩ ?_ ?_;rintro i e g Q ⟨rfl,l,rfl⟩;have c1:decide ((i:Int)<5)=bh:=ah
 obtain⟨w,x,f,I⟩:∃w x f,(E0.map dG)[i]?=a_ (.agg (mF w x f)):=by
  match i,Q with
  |0,_=>exact⟨_,_,_,rfl⟩
  |1,_=>exact⟨_,_,_,rfl⟩
  |2,_=>exact⟨_,_,_,rfl⟩
  |3,_=>exact⟨_,_,_,rfl⟩
  |4,_=>exact⟨_,_,_,rfl⟩
 have e1:ct 3 (.sl (E0.map dG) .exact) i=a_ (.fp (mF w x f) 0):=lN I rfl;have e2:∀J,bz J bh 3 (.fp (mF w x f) 0)=a_ (.agg (mF w x f)):=λJ=>rfl;refine wy (cm (azR (bS ha) (bS O) w x f) ?_);rintro r g2 ⟨⟨y,rfl⟩,rfl⟩;cases y with
 |true=>
  refine wy ?_;exact⟨⟨_,rfl,bF ⟨i,rfl,Q⟩⟩,l++[.cells (mF w x f) bf],aMq⟩
 |false=>
  refine wx ?_;exact⟨rfl,l++[.cells (mF w x f) bf],aMq⟩
 rintro e g ⟨rfl,l,rfl⟩;have c1:decide (((5:Nat):Int)<5)=bf:=rfl;refine wy ?_;exact⟨⟨_,rfl,bD ag⟩,l,rfl⟩
end
end
section
variable{ex nm:List UInt8}{cq mv:bg}{al i cj p:Bool}{a:Int}{k:Nat}{h:List br}
def vE(x:List bg):Prop:=∃nm cq i p cj a al mv ex,x=eH nm cq i p cj a al mv ex/\jg 4 cq/\jg 100001 mv/\ex.length<=40000
def Vg(r:bg):Prop:=∃(x:List bg) (b:Bool),r=.bQ [.agg x,b]/\vE x
def N2{J}{b:Bool}{gs:List (List UInt8)}(hA:de J cq (gs.map bu) 1 9)(hg:gs.length<=4)(hm:jg 100001 mv)(he:ex.length<=40000):
  ∃n bR,dh J n (.bQ [.agg (eH nm cq i p cj a al mv ex),b])=a_ bR/\Vg bR:=by
 obtain⟨v',b9,z2⟩:=VE hA hg;obtain⟨n,hn⟩:=(fy (bG (j0 (bG (bH _) (bG b9 (bG (bH _) (bG (bH _) (bG (bH _) (bG (bH _) (bG (bH _) (bG (hm.fz J) (bG (bH _) c_)))))))))) (bG (bH (.bool b)) c_)):b_ J (.bQ [.agg (eH nm cq i p cj a al mv ex),b]) _).done;exact⟨n,_,hn,_,b,rfl,nm,v',i,p,cj,a,al,mv,ex,rfl,z2,hm,he⟩
def xl.app{x}(s:xl k h):xl k (h++x):=by
 obtain⟨nm,cq,i,p,cj,a,al,mv,ex,gs,O,hA,D⟩:=s;exact⟨nm,cq,i,p,cj,a,al,mv,ex,gs,bS O,hA.ext,D⟩
def xl.wJ{j}{b b'}(s:xl k h)(hj:h[j]?=a_ b)(O:∀c,b≠.tok c 1 9)(S:j≠k):xl k (h.set j b'):=by
 obtain⟨nm,cq,i,p,cj,a,al,mv,ex,gs,hb',hA,D⟩:=s;refine⟨nm,cq,i,p,cj,a,al,mv,ex,gs,by rw[bE S];exact hb',?_,D⟩
 rcases hA with z|⟨id,b9,z2⟩
 exact bD z;exact bF ⟨id,b9,by rw[bE (by rintro rfl;rw[hj] at z2;cases z2;exact O _ rfl)];exact z2⟩
@[go_sem]def x6{Z x}(O:h[k]?=a_ (.cells Z bf))(T:Z.length=9)(I:x.length=9)(Y:x.all cu=bh):bL h 9 (.mp k 0) (.agg x)=a_ (h.set k (.cells x bf)):=by
 have e:(dG x).cells=x:=rfl;simp only[bL,O,fD];rw[e,if_pos ⟨I,aa,Y⟩];unfold d_;rw[oR,gM,gi,I,tD aa,gV]
def HB(hg:cu cq=bh)(hm:cu mv=bh):(eH nm cq i p cj a al mv ex).all cu=bh:=by
 simp only[eH,pK,tC,hg,hm];rfl
def gU:List bg:=eH [] .bp bf bf bf 0 bf .bp []
structure P0(ls:List (List UInt8)):Prop where
 each:∀w∈ls,w.length<=100000
 all:∀n,zX (ls.drop n)+(ls.drop n).length<=1000000
 len:ls.length<=100000
section
variable{G:Cells}
def aEq(cE:gk G)(hI:BY G){ls}(hW:P0 ls)(V:2<=ls.length):dM G bB 119 [.sl (ls.map bu) .no] Vg:=by
 refine en (ajX.go ?_);have c7:=hW.len;obtain⟨n1,p8⟩:∃n,ls[1]?=a_ n:=⟨ls[1],cy aa⟩;have e1:ct 1 (.sl (ls.map bu) .no) (1:Int)=a_ (.fp [bu n1] 0):=lN (x:=bu n1) (by simp[p8]) rfl;have f1:∀x:List UInt8,dN gU [(0,1,bu x),(4,1,bh)]=a_ (eH x .bp bf bf bh 0 bf .bp []):=λx=>rfl;have f0:dN gU []=a_ gU:=rfl;have hz:[cR (.string ⟨[].toArray⟩),.bp,bf,bf,bf,(0:Int),bf,.bp,.v (.string ⟨[].toArray⟩)]=gU:=rfl;have s1:bL [.cells gU bf,.cells gU bf] 9 (.mp 1 0) (.agg (eH n1 .bp bf bf bh 0 bf .bp []))=a_ [.cells gU bf,.cells (eH n1 .bp bf bf bh 0 bf .bp []) bf]:=x6 rfl rfl rfl rfl;have cut:∀(n) (J),n<=ls.length->rz 1 (.sl (ls.map bu) .no) (a_ (.v (.int .i64 (n)))) bn bn J=a_ (.sl ((ls.drop n).map bu) .no,J):=λn J hn=>by
  rw[List.map_drop];exact TG aMC TZ J
 have afQ:=λJ=>cut 2 J V;have atF:((2:Nat):Int)=2:=rfl;rw[atF] at afQ;have l2:(ls.drop 2).length=ls.length-2:=z7 ..;refine wy ?_;refine c8 (λi e h=>e=[(0,.sl (ls.map bu) .no),(2,.mp 0 0),(4,.mp 1 0),(5,.gq 2),(21,.sl ((ls.drop 2).map bu) .no),(22,bq ((ls.length-2:Nat):Int)),(23,bq i)]/\h[0]?=a_ (.cells gU bf)/\xl 1 h/\∃es cH,h[2]?=a_ (.eT es cH)/\FQ es) (ls.length-2)
  ⟨rfl,rfl,⟨n1,.bp,bf,bf,bh,0,bf,.bp,[],[],rfl,bD ⟨rfl,rfl⟩,ag,zZ _,ag⟩,[],0,rfl,λe he=>by cases he⟩ ?_ ?_
 rintro i e h Q ⟨rfl,h0,hN,es,cH,hm,hM⟩;obtain⟨w,hw⟩:∃w,(ls.drop 2)[i]?=a_ w:=⟨(ls.drop 2)[i]' aa,cy aa⟩;have EE:=hW.each w (vz (cv hw));have e2:ct 1 (.sl ((ls.drop 2).map bu) .no) i=a_ (.fp [bu w] 0):=lN (x:=bu w) (by rw[e9,hw];rfl) rfl;refine wy ?_;refine dn (λq=>?_) λq=>?_;have w3:cN.wrap ((i)+3)=((i+3:Nat):Int):=by rw[fq aa aa];rfl
 refine wy (jE (az0 (ls.drop (i+3)) (hW.all _)) (bY (qX (bD rfl)) dw) ?_);rintro r ⟨t,rfl,ht⟩;refine wy ?_;refine eo (aas cE t (iz ht (hW.all _))) ?_;rintro r ⟨v,Ti,xF,rfl,hq⟩;obtain⟨ps,hE⟩:∃ps,tM v ps:=by
  rcases hq with⟨_,_,ps,hE⟩|⟨_,rfl⟩
  exact⟨ps,hE⟩;exact⟨[],bF ⟨rfl,rfl⟩,λi p h=>au,ag,af⟩
 refine wy (jE (aGS cE hE) (bY (Ga hE) dw) ?_);rintro r ⟨tx,rfl,aiZ⟩;obtain⟨nm,cq,i1,p1,cj,a,al,mv,ex,gs,O,hA,hg,lE,he⟩:=hN;have iC:=bT (a:=.cells (eH nm cq i1 p1 bf a al mv ex) bf) (gl O)
 have ho:cu cq=bh:=az
 have p0:((h.set 1 (.cells (eH nm cq i1 p1 bf a al mv ex) bf)).set 1 (.cells (eH nm cq i1 p1 bf a al mv tx) bf))[0]?=a_ (.cells gU bf):=by rw[bE aa,bE aa];exact h0
 have oJ:=x6 p0 rfl (x:=eH nm cq i1 p1 bf a al mv tx) rfl (HB ho lE.one.1);exact wx (N2 (j7 (j7 (j7 hA O) iC) p0) hg lE aiZ);refine eo (afR w 61 aa) ?_;rintro r ⟨a,b,f,rfl,p4,RA⟩;have s0:3<=h.length:=by have:=(gl hm);omega
 have n2:bL (h++[bw [.v (.string ⟨[].toArray⟩)] bf]++[bw [bf] bf]) 1 (.mp h.length 0) (bu a)=a_ (h++[bw [bu a] bf]++[bw [bf] bf]):=by
  rw[rC rfl (v:=.v (.string ⟨[].toArray⟩)) af];simp
 have ld:bL (h++[bw [bu a] bf]++[bw [bf] bf]) 1 (.mp (h.length+1) 0) f=a_ (h++[bw [bu a] bf]++[bw [f] bf]):=by
  have:=TU (h++[bw [bu a] bf]) bf (x:=f) rfl rfl;simpa using this
 have ka:(h++[bw [bu a] bf]++[bw [f] bf])[h.length]?=a_ (.cells [bu a] bf):=af
 have kb:(h++[bw [bu a] bf]++[bw [f] bf])[h.length+1]?=a_ (.cells [f] bf):=af
 have vX:(h++[bw [bu a] bf]++[bw [f] bf])[0]?=a_ (.cells gU bf):=bS (bS h0);have p7:(h++[bw [bu a] bf]++[bw [f] bf])[2]?=a_ (.eT es cH):=bS (bS hm);have ahQ:xl 1 (h++[bw [bu a] bf]++[bw [f] bf]):=hN.app.app;refine mI @ek.{0} @gi ?_;generalize h++[bw [bu a] bf]++[bw [f] bf]=g at ka kb vX p7 ahQ⊢;generalize h.length=m at ka kb s0⊢;refine cm (aai g) ?_;rintro r g' ⟨rfl,rfl⟩;refine wy (cm (azB ka kb) ?_);rintro r g2 ⟨⟨fI,rfl,ayr⟩,lx,rfl⟩;have alQ:(g'++lx)[m]?=a_ (.cells [bu a] bf):=bS ka;have p0:(g'++lx)[0]?=a_ (.cells gU bf):=bS vX;have Er:(g'++lx)[2]?=a_ (.eT es cH):=bS p7;have jk:xl 1 (g'++lx):=ahQ.app;generalize g'++lx=g3 at alQ p0 Er jk⊢;obtain⟨nl,di⟩:=NR Er hM a;obtain⟨o3,lP,eW,v7⟩:=ZC Er hM a (cN.wrap (nl+1));refine wy ?_;have alR:(g3.set 2 (.eT o3 lP))[m]?=a_ (.cells [bu a] bf):=by rw[bE aa];exact alQ
 have Mz:(g3.set 2 (.eT o3 lP))[0]?=a_ (.cells gU bf):=by rw[bE aa];exact p0
 have M_:(g3.set 2 (.eT o3 lP))[2]?=a_ (.eT o3 lP):=bT (gl Er);have D_:xl 1 (g3.set 2 (.eT o3 lP)):=jk.wJ Er af aa;generalize g3.set 2 (.eT o3 lP)=g4 at alR Mz M_ D_⊢;have nG:=x6 Mz rfl (x:=gU) rfl rfl;have k0:=bT (a:=.cells gU bf) (gl Mz);have CF:bz (g4.set 0 (.cells gU bf)) bh 9 (.mp 0 0)=a_ (.agg gU):=(wC k0).2.2;have bad:∃n bR,dh (g4.set 0 (.cells gU bf)) n (.bQ [.agg gU,bf])=a_ bR/\Vg bR:=N2 (gs:=[]) (bD ⟨rfl,rfl⟩) ag (zZ _) ag;obtain⟨N1,nV⟩:=NR M_ v7 a;have L9:dR .neq (bu a) (.v (.string ⟨[103,114,111,117,112].toArray⟩))=a_ (.v (.bool !(a==[103,114,111,117,112]))):=zx a [103,114,111,117,112];refine wy (cM (λq1=>?_) λq1=>?_);exact mH @q1 @f0 @nG @CF bad;obtain⟨j,rfl,hj⟩:∃j:Nat,fI=(j)/\j<5:=by
  rcases ayr with z|z
  simp at q1;omega;exact z
 obtain⟨Uh,so,f6,ay6,R2⟩:∃w x f,(E0.map dG)[j]?=a_ (.agg (mF w x f))/\IJ G f:=by
  match j,hj with
  |0,_=>exact⟨_,_,_,rfl,aFA cE⟩
  |1,_=>exact⟨_,_,_,rfl,aFB⟩
  |2,_=>exact⟨_,_,_,rfl,aFC⟩
  |3,_=>exact⟨_,_,_,rfl,aFD cE hI⟩
  |4,_=>exact⟨_,_,_,rfl,aFE cE⟩
 have y2:ct 3 (.sl (E0.map dG) .exact) (.v (.int .i64 (j)))=a_ (.fp (mF Uh so f6) 0):=lN ay6 rfl;have Ho:∀J,bz J bf 1 (.fp (mF Uh so f6) 2)=a_ (.fn (.func f6) [] []):=λJ=>rfl;have k6:(decide ((1:Int)<N1)=bh/\(a==[103,114,111,117,112])=bf)\/decide ((1:Int)<N1)=bf\/(decide ((1:Int)<N1)=bh/\(a==[103,114,111,117,112])=bh):=by
  cases decide ((1:Int)<N1)<;>cases(a==[103,114,111,117,112])<;>simp
 rcases k6 with⟨hd,u0⟩|hd|⟨hd,u0⟩
 exact ng @q1 (ff alR) @nV @hd @L9 @u0 @f0 @nG @CF bad;refine wy (cm (aai g4) ?_);rintro r g' ⟨rfl,rfl⟩;refine wy (cm (R2 1 b g' aa D_) ?_);rintro r g5 ⟨⟨y,rfl⟩,MF,y7⟩;have rS:=y7.2 _ _ aa af Mz;have wm:=y7.2 _ _ aa af M_;cases y with
 |false=>
  refine wy ?_;exact N2 (gs:=[]) (bD ⟨rfl,rfl⟩) ag (zZ _) ag
 |true=>
  refine fJ ?_;exact⟨rfl,rS,MF,o3,lP,wm,v7⟩
 refine wy (cm (aai g4) ?_);rintro r g' ⟨rfl,rfl⟩;refine wy (cm (R2 1 b g' aa D_) ?_);rintro r g5 ⟨⟨y,rfl⟩,MF,y7⟩;have rS:=y7.2 _ _ aa af Mz;cases y with
 |false=>
  refine wy ?_;exact N2 (gs:=[]) (bD ⟨rfl,rfl⟩) ag (zZ _) ag
 |true=>
  refine fJ ?_;exact⟨rfl,rS,MF,o3,lP,y7.2 _ _ aa af M_,v7⟩
 rintro e h ⟨rfl,h0,hN,es,cH,hm,hM⟩;obtain⟨nm,cq,i1,p1,cj,a,al,mv,ex,gs,O,hA,hg,lE,he⟩:=hN;have oJ:=x6 h0 rfl (x:=eH nm cq i1 p1 cj a al mv ex) rfl (HB az lE.one.1)
 exact oa (N2 (j7 hA h0) hg lE he)
end
end
def eX(nm:List UInt8)(v:Int)(al:Bool)(bv:bg):List bg:=[bu nm,v,al,bv]
def om(x:List bg):Prop:=∃nm v al bv,x=eX nm v al bv/\jg 100001 bv
def IF(r:bg):Prop:=∃(x:List bg) (b:Bool),r=.bQ [.agg x,b]/\om x
def NV{J}{nm}{v}{al b:Bool}{bv}(O:jg 100001 bv):∃n bR,dh J n (.bQ [.agg (eX nm v al bv),b])=a_ bR/\IF bR:=by
 obtain⟨n,hn⟩:=(fy (bG (j0 (bG (bH _) (bG (bH _) (bG (bH _) (bG (O.fz J) c_))))) (bG (bH (.bool b)) c_)):b_ J (.bQ [.agg (eX nm v al bv),b]) _).done;exact⟨n,_,hn,_,b,rfl,nm,v,al,bv,rfl,O⟩
section
variable{k:Nat}{h:List br}{nm:List UInt8}{v:Int}{al:Bool}{bv:bg}
@[go_sem]def SJ(O:h[k]?=a_ (.cells (eX nm v al bv) bf)):bz h bf 1 (.mp k 0)=a_ (bu nm)/\bz h bh 4 (.mp k 0)=a_ (.agg (eX nm v al bv)):=by
 simp only[bz,O];exact⟨rfl,rfl⟩
@[go_sem]def SK(O:h[k]?=a_ (.cells (eX nm v al bv) bf))(x:Int):bL h 1 (.mp k 1) x=a_ (h.set k (.cells (eX nm x al bv) bf)):=aW
@[go_sem]def SL(O:h[k]?=a_ (.cells (eX nm v al bv) bf))(x:Bool):bL h 1 (.mp k 2) x=a_ (h.set k (.cells (eX nm v x bv) bf)):=aW
@[go_sem]def SM(O:h[k]?=a_ (.cells (eX nm v al bv) bf)){x}(I:cu x=bh)(T:x.cells=[x]):bL h 1 (.mp k 3) x=a_ (h.set k (.cells (eX nm v al x) bf)):=by
 simp only[bL,O,fD,T];simp[I,d_,eX]
@[go_sem]def CL{Z x}(O:h[k]?=a_ (.cells Z bf))(T:Z.length=4)(I:x.length=4)(Y:x.all cu=bh):bL h 4 (.mp k 0) (.agg x)=a_ (h.set k (.cells x bf)):=by
 have e:(dG x).cells=x:=rfl;simp only[bL,O,fD];rw[e,if_pos ⟨I,aa,Y⟩];unfold d_;rw[oR,gM,gi,I,tD aa,gV]
def ZO(O:cu bv=bh):(eX nm v al bv).all cu=bh:=by
 simp only[eX,pK,tC,O];rfl
end
def gy:List bg:=eX [] 0 bf .bp
section
variable{G:Cells}
def aDK(cE:gk G)(hI:BY G){ls}(hW:P0 ls)(V:2<=ls.length):dM G bB 122 [.sl (ls.map bu) .no] IF:=by
 refine en (aj0.go ?_);have c7:=hW.len;obtain⟨n1,p8⟩:∃n,ls[1]?=a_ n:=⟨ls[1],cy aa⟩;have e1:ct 1 (.sl (ls.map bu) .no) (1:Int)=a_ (.fp [bu n1] 0):=lN (x:=bu n1) (by simp[p8]) rfl;have f1:∀x:List UInt8,dN gy [(0,1,bu x)]=a_ (eX x 0 bf .bp):=λx=>rfl;have f0:dN gy []=a_ gy:=rfl;have hz:[cR (.string ⟨[].toArray⟩),(0:Int),bf,.bp]=gy:=rfl;have s1:bL [.cells gy bf,.cells gy bf] 4 (.mp 1 0) (.agg (eX n1 0 bf .bp))=a_ [.cells gy bf,.cells (eX n1 0 bf .bp) bf]:=CL rfl rfl rfl rfl;have afQ:∀J,rz 1 (.sl (ls.map bu) .no) (a_ (.v (.int .i64 2))) bn bn J=a_ (.sl ((ls.drop 2).map bu) .no,J):=λJ=>by
  rw[List.map_drop];exact TG aG TZ J
 have l2:(ls.drop 2).length=ls.length-2:=z7 ..;refine wy ?_;refine c8 (λi e h=>e=[(2,.mp 0 0),(4,.mp 1 0),(5,.gq 2),(18,.sl ((ls.drop 2).map bu) .no),(19,bq ((ls.length-2:Nat):Int)),(20,bq i)]/\h[0]?=a_ (.cells gy bf)/\(∃x,h[1]?=a_ (.cells x bf)/\om x)/\∃es cH,h[2]?=a_ (.eT es cH)/\FQ es) (ls.length-2)
  ⟨rfl,rfl,⟨_,rfl,n1,0,bf,.bp,rfl,zZ _⟩,[],0,rfl,λe he=>by cases he⟩ ?_ ?_
 · rintro i e h Q ⟨rfl,h0,⟨x,Y,nm,v,al,bv,rfl,xK⟩,es,cH,hm,hM⟩
   obtain⟨w,hw⟩:∃w,(ls.drop 2)[i]?=a_ w:=⟨(ls.drop 2)[i]' aa,cy aa⟩;have EE:=hW.each w (vz (cv hw));have e2:ct 1 (.sl ((ls.drop 2).map bu) .no) i=a_ (.fp [bu w] 0):=lN (x:=bu w) (by rw[e9,hw];rfl) rfl;refine wy ?_;refine eo (afR w 61 aa) ?_;rintro r ⟨a,b,f,rfl,p4,RA⟩;have MC:=gl Y;refine wy ?_;refine dn (λq=>?_) λq=>?_;refine eo (aqA cE hI b aa) ?_;rintro r ⟨n,ok,rfl,_,_⟩;have st:=SK Y n;have AU:(h.set 1 (.cells (eX nm n al bv) bf))[1]?=a_ (.cells (eX nm n al bv) bf):=bT MC;have rS:(h.set 1 (.cells (eX nm n al bv) bf))[0]?=a_ (.cells gy bf):=by rw[bE aa];exact h0
   have wm:(h.set 1 (.cells (eX nm n al bv) bf))[2]?=a_ (.eT es cH):=by rw[bE aa];exact hm
   refine wy ?_;generalize h.set 1 (.cells (eX nm n al bv) bf)=g5 at AU rS wm⊢;obtain⟨zy,v5,yR,uT,XH,tU⟩:∃zy v5 yR uT,jg 100001 uT/\eX nm n al bv=eX zy v5 yR uT:=⟨_,_,_,_,xK,rfl⟩;rw[tU] at AU
   rotate_left
   refine dn (λbt=>?_) λbt=>?_;refine eo (amv cE b aa) ?_;rintro r ⟨iw,gS,ok,rfl,uZ⟩;have st:=SL Y iw;have awK:=bT (a:=.cells (eX nm v iw bv) bf) MC;have zK:=SM awK uZ.one.1 uZ.one.2;have AU:((h.set 1 (.cells (eX nm v iw bv) bf)).set 1 (.cells (eX nm v iw gS) bf))[1]?=a_ (.cells (eX nm v iw gS) bf):=bT (by simpa using MC);have rS:((h.set 1 (.cells (eX nm v iw bv) bf)).set 1 (.cells (eX nm v iw gS) bf))[0]?=a_ (.cells gy bf):=by rw[bE aa,bE aa];exact h0
   have wm:((h.set 1 (.cells (eX nm v iw bv) bf)).set 1 (.cells (eX nm v iw gS) bf))[2]?=a_ (.eT es cH):=by rw[bE aa,bE aa];exact hm
   refine wy ?_;generalize(h.set 1 (.cells (eX nm v iw bv) bf)).set 1 (.cells (eX nm v iw gS) bf)=g5 at AU rS wm⊢;obtain⟨zy,v5,yR,uT,XH,tU⟩:∃zy v5 yR uT,jg 100001 uT/\eX nm v iw gS=eX zy v5 yR uT:=⟨_,_,_,_,uZ,rfl⟩;rw[tU] at AU
   rotate_left
   obtain⟨g5,GN⟩:∃g5,g5=h:=⟨h,rfl⟩;obtain⟨zy,v5,yR,uT,XH,tU⟩:∃zy v5 yR uT,jg 100001 uT/\eX nm v al bv=eX zy v5 yR uT:=⟨_,_,_,_,xK,rfl⟩;have AU:=Y;have rS:=h0;have wm:=hm;rw[tU] at AU;refine wy ?_;rw[<-GN] at AU rS wm⊢;obtain⟨nl,di⟩:=NR wm hM a;obtain⟨o3,lP,eW,v7⟩:=ZC wm hM a (cN.wrap (nl+1));have D8:(g5.set 2 (.eT o3 lP))[0]?=a_ (.cells gy bf):=by rw[bE aa];exact rS
   have Rr:(g5.set 2 (.eT o3 lP))[1]?=a_ (.cells (eX zy v5 yR uT) bf):=by rw[bE aa];exact AU
   have Es:(g5.set 2 (.eT o3 lP))[2]?=a_ (.eT o3 lP):=bT (gl wm);refine nc @di @eW ?_;generalize g5.set 2 (.eT o3 lP)=g6 at D8 Rr Es⊢;have nG:=CL D8 rfl (x:=gy) rfl rfl;have k0:=bT (a:=.cells gy bf) (gl D8);have CF:bz (g6.set 0 (.cells gy bf)) bh 4 (.mp 0 0)=a_ (.agg gy):=(SJ k0).2;have bad:∃n bR,dh (g6.set 0 (.cells gy bf)) n (.bQ [.agg gy,bf])=a_ bR/\IF bR:=NV (zZ _);cases f with
   |false=>
    exact mH @vv @f0 @nG @CF bad
   |true=>
    exact qK @zU @vv @f0 @nG @CF bad
   all_goals
    obtain⟨nl,di⟩:=NR wm hM a;obtain⟨o3,lP,eW,v7⟩:=ZC wm hM a (cN.wrap (nl+1));have D8:(g5.set 2 (.eT o3 lP))[0]?=a_ (.cells gy bf):=by rw[bE aa];exact rS
    have Rr:(g5.set 2 (.eT o3 lP))[1]?=a_ (.cells (eX zy v5 yR uT) bf):=by rw[bE aa];exact AU
    have Es:(g5.set 2 (.eT o3 lP))[2]?=a_ (.eT o3 lP):=bT (gl wm);refine wy ?_;generalize g5.set 2 (.eT o3 lP)=g6 at D8 Rr Es⊢;obtain⟨N1,nV⟩:=NR Es v7 a;have nG:=CL D8 rfl (x:=gy) rfl rfl;have k0:=bT (a:=.cells gy bf) (gl D8);have CF:bz (g6.set 0 (.cells gy bf)) bh 4 (.mp 0 0)=a_ (.agg gy):=(SJ k0).2;have bad:∃n bR,dh (g6.set 0 (.cells gy bf)) n (.bQ [.agg gy,bf])=a_ bR/\IF bR:=NV (zZ _);cases f with
    |false=>
     exact jB @f0 @nG @CF bad
    |true=>
     cases ok with
     |false=>
      exact jB @f0 @nG @CF bad
     |true=>
      refine wy ?_;refine dn (λmZ=>?_) λmZ=>?_;exact jB @f0 @nG @CF bad;exact⟨rfl,D8,⟨_,Rr,zy,v5,yR,uT,rfl,XH⟩,o3,lP,Es,v7⟩
 rintro e h ⟨rfl,h0,⟨x,Y,nm,v,al,bv,rfl,xK⟩,es,cH,hm,hM⟩;have oJ:=CL h0 rfl (x:=eX nm v al bv) rfl (ZO xK.one.1);exact oa (NV xK)
end
section
variable{v:bg}{xs:List (List bg)}{k n:Nat}{x z:List bg}{g h h':List br}{a b:List UInt8}
def sG(v:bg)(xs:List (List bg)):Prop:=(v=.bp/\xs=[])\/∃t,v=.sl (xs.map dG) t
@[go_sem]def sG.len(h:sG v xs)(J):cG v J=a_ (.v (.int .i64 (xs.length:Int)),J):=by
 rcases h with⟨rfl,rfl⟩|⟨t,rfl⟩
 rfl;simp[pq,goInt]
@[go_sem]def sG.cB(h:sG v xs){i:Nat}(I:xs[i]?=a_ x)(hn:x.length=n):ct n v i=a_ (.fp x 0):=by
 rcases h with⟨rfl,rfl⟩|⟨t,rfl⟩
 simp at I;exact lN (x:=.agg x) aA hn
@[go_sem]def sG.fT(hn:x.length=n)(J):bz J bh n (.fp x 0)=a_ (.agg x):=by
 show fh bh n x 0=_;unfold fh;rw[if_pos rfl,if_pos aa,pL,oe aa]
structure uM(h:List br)(q:bg)(x:List bg):Prop where
 nl:vN q=a_ q
 ne:∀neg,kR .ptr neg q (.v (.pointer bn))=a_ (.v (.bool neg))
 fa:∀o,∃Ot,lM o q=a_ Ot/\(∀o2,lM o2 Ot=lM (o+o2) q)/\∀g,Ext h g->∀y,x[o]?=a_ y->bz g bf 1 Ot=a_ y
 fT:∀g,Ext h g->bz g bh x.length q=a_ (.agg x)
def uM.ext{q}(s:uM h q x)(he:Ext h h'):uM h' q x:=
 ⟨s.nl,s.ne,λo=>by obtain⟨Ot,Y,h3,V⟩:=s.fa o;exact⟨Ot,Y,h3,λg hg=>V g λj b q=>hg j b (he j b q)⟩,λg hg=>s.fT g λj b q=>hg j b (he j b q)⟩
@[go_sem]def aax(x):fh bh x.length x 0=a_ (.agg x):=by
 unfold fh;rw[if_pos rfl,if_pos aa,pL,od]
def uM.fp(h)(x):uM h (.fp x 0) x:=
 ⟨rfl,λneg=>aay x 0 neg,λo=>⟨.fp x (0+o),rfl,λo2=>by simp only[lM,gi,nM],λg _ y hy=>by rw[gi];exact hy⟩,λg _=>aax x⟩
def uM.mp{h}{k}{x}(S:h[k]?=a_ (.cells x bf)):uM h (.mp k 0) x:=
 ⟨rfl,λneg=>aaz k 0 neg,λo=>⟨.mp k (0+o),rfl,λo2=>by simp only[lM,gi,nM],λg hg y hy=>by
  have:=hg _ _ S;simp only[bz,this];rw[gi];exact hy⟩,λg hg=>by
  have:=hg _ _ S;simp only[bz,this];exact aax x⟩
structure oV(n:Nat)(h:List br)(v:bg)(xs:List (List bg)):Prop where
 len:∀g,cG v g=a_ (.v (.int .i64 (xs.length:Int)),g)
 cB:∀(i:Nat) x,xs[i]?=a_ x->∃q,ct n v i=a_ q/\uM h q x
 el:∀x∈xs,x.length=n
def oV.ext(s:oV n h v xs)(he:Ext h h'):oV n h' v xs:=
 ⟨s.len,λi x I=>by obtain⟨q,Y,V⟩:=s.cB i x I;exact⟨q,Y,V.ext he⟩,s.el⟩
def oV.slc(h)(hv:sG v xs)(hn:∀x∈xs,x.length=n):oV n h v xs:=
 ⟨hv.len,λi x I=>⟨_,hv.cB I (hn x (cv I)),uM.fp h x⟩,hn⟩
def oV.row(D:kg n h k v xs):oV n h v xs:=
 ⟨D.len,λi x I=>⟨_,D.cB (gl I),by
  have EF:=(D.each x (cv I)).1;have kp:∀g,Ext h g->kg n g k v xs:=λg hg=>D.keep λZ q=>hg _ _ q;refine⟨HU _ _ _,λneg=>?_,λo=>⟨_,C0 o _ _ _,λo2=>by simp only[lM,nM],λg hg y hy=>((kp g hg).iW I (by have:=(gl hy);omega) hy)⟩,λg hg=>?_⟩;cases neg<;>rfl;have:=(kp g hg).amg (o:=0) (w:=n) I aa;rw[sx,pL,oe aa] at this;rw[EF];exact this⟩,λx I=>(D.each x I).1⟩
def U9(n:Nat)(r:bg):Prop:=∃m:Int,r=m/\(m= -1\/∃j:Nat,m=(j:Int)/\j<n)
section
variable{G:Cells}{v y:bg}{xs:List (List bg)}{h:List br}
def azC(hv:oV 9 h v xs)(hl:xs.length<=100000)(mB:∀x∈xs,∀g,Ext h g->jS G bB y [.agg x] g λr g'=>jR r/\∃l,g'=g++l):
  cw G bB 197 [v,y] h λr h'=>U9 xs.length r/\∃l,h'=h++l:=by
 refine akB.go ?_;refine iD @hv.len ?_;refine c8 (λi e g=>e=[(0,v),(1,y),(7,bq xs.length),(8,bq i)]/\∃l,g=h++l) xs.length ⟨rfl,[],af⟩ ?_ ?_;rintro i e g Q ⟨rfl,l,rfl⟩;obtain⟨x,I⟩:=cO Q;obtain⟨q,Y,V⟩:=hv.cB i x I;have h3:=V.fT (h++l) mg;rw[(hv.el x (cv I))] at h3;refine wy (vw (mB x (cv I) _ mg) ?_);rintro r g2 ⟨⟨b,rfl⟩,l2,rfl⟩;cases b with
 |true=>
  refine wy ?_;exact⟨⟨_,rfl,bF ⟨i,rfl,Q⟩⟩,l++l2,aMq⟩
 |false=>
  refine wx ?_;exact⟨rfl,l++l2,aMq⟩
 rintro e g ⟨rfl,l,rfl⟩;refine wy ?_;exact⟨⟨_,rfl,bD rfl⟩,l,rfl⟩
def ajg(hv:oV 4 h v xs)(hl:xs.length<=100000)(mB:∀x∈xs,∀g,Ext h g->jS G bB y [.agg x] g λr g'=>jR r/\∃l,g'=g++l):
  cw G bB 127 [v,y] h λr h'=>U9 xs.length r/\∃l,h'=h++l:=by
 refine aj5.go ?_;refine iD @hv.len ?_;refine c8 (λi e g=>e=[(0,v),(1,y),(7,bq xs.length),(8,bq i)]/\∃l,g=h++l) xs.length ⟨rfl,[],af⟩ ?_ ?_;rintro i e g Q ⟨rfl,l,rfl⟩;obtain⟨x,I⟩:=cO Q;obtain⟨q,Y,V⟩:=hv.cB i x I;have h3:=V.fT (h++l) mg;rw[(hv.el x (cv I))] at h3;refine wy (vw (mB x (cv I) _ mg) ?_);rintro r g2 ⟨⟨b,rfl⟩,l2,rfl⟩;cases b with
 |true=>
  refine wy ?_;exact⟨⟨_,rfl,bF ⟨i,rfl,Q⟩⟩,l++l2,aMq⟩
 |false=>
  refine wx ?_;exact⟨rfl,l++l2,aMq⟩
 rintro e g ⟨rfl,l,rfl⟩;refine wy ?_;exact⟨⟨_,rfl,bD rfl⟩,l,rfl⟩
def azN(S:g[k]?=a_ (.cells z bf))(I:x[0]?=a_ (bu a))(hz:z[0]?=a_ (bu b)):
  jS G bB (.fn (.func 121) [] [.mp k 0]) [.agg x] g λr g'=>jR r/\∃l,g'=g++l:=by
 show cw G bB 121 [.agg x,.mp k 0] g _;refine ajZ.go ?_;refine wy ?_;exact⟨⟨_,rfl⟩,_,rfl⟩
def azO(S:g[k]?=a_ (.cells z bf))(I:x[0]?=a_ (bu a))(hz:z[0]?=a_ (bu b)):
  jS G bB (.fn (.func 124) [] [.mp k 0]) [.agg x] g λr g'=>jR r/\∃l,g'=g++l:=by
 show cw G bB 124 [.agg x,.mp k 0] g _;refine aj2.go ?_;refine wy ?_;exact⟨⟨_,rfl⟩,_,rfl⟩
def asR(hv:oV 9 h v xs)(hl:xs.length<=100000)(mB:∀x∈xs,∀g,Ext h g->jS G bB y [.agg x] g λr g'=>jR r/\∃l,g'=g++l):
  cw G bB 120 [v,y] h λr h'=>jR r/\∃l,h'=h++l:=by
 refine ajY.go ?_;refine wy (cm (azC hv hl mB) ?_);rintro r g ⟨⟨m,rfl,_⟩,l,rfl⟩;refine wy ?_;exact⟨⟨_,rfl⟩,l,rfl⟩
def asS(hv:oV 4 h v xs)(hl:xs.length<=100000)(mB:∀x∈xs,∀g,Ext h g->jS G bB y [.agg x] g λr g'=>jR r/\∃l,g'=g++l):
  cw G bB 123 [v,y] h λr h'=>jR r/\∃l,h'=h++l:=by
 refine aj1.go ?_;refine wy (cm (ajg hv hl mB) ?_);rintro r g ⟨⟨m,rfl,_⟩,l,rfl⟩;refine wy ?_;exact⟨⟨_,rfl⟩,l,rfl⟩
end
end
section
variable{h g:List br}{k o n bW B:Nat}{e:TypeId}{Z xs:List bg}{v x:bg}
def Ag(k n:Nat)(e:TypeId)(h g:List br):Prop:=h.length<=g.length/\∀(j:Nat) b,h[j]?=a_ b->j≠k->(∀c,b≠.tok c n e)->g[j]?=a_ b
def Ag.cells{j:Nat}{c:List bg}{f:Bool}(q:Ag k n e h g)(O:h[j]?=a_ (.cells c f))(hj:j≠k):g[j]?=a_ (.cells c f):=q.2 _ _ O hj af
def Ag.DK{Z:List bg}{m:Nat}{e':TypeId}{w:bg}{ys:List bg}(q:Ag k n e h g)(S:h[k]?=a_ (.cells Z bf))(hw:de h w ys m e')(bP:m≠n\/e'≠e):de g w ys m e':=by
 rcases hw with z|⟨id,b9,z2⟩
 exact bD z;exact bF ⟨id,b9,q.2 _ _ z2 (by rintro rfl;rw[S] at z2;cases z2) aNi⟩
def Ag.own{Z:List bg}{m B:Nat}{e':TypeId}{w:bg}{ys:List bg}(q:Ag k n e h g)(S:h[k]?=a_ (.cells Z bf))(hw:mN B h w ys m e')(bP:m≠n\/e'≠e):mN B g w ys m e':=by
 rcases hw with z|⟨id,b9,z2,z3⟩
 exact bD z;exact bF ⟨id,b9,z2,q.2 _ _ z3 (by rintro rfl;rw[S] at z3;cases z3) aNi⟩
def Ag.lB(q:Ag k n e h g):iZ k h g:=⟨q.1,λj c f hj O=>q.cells O hj⟩
@[go_sem]def W4(O:g[k]?=a_ (.cells Z bf))(Y:cu v=bh)(ho:o<Z.length):bL g 1 (.mp k o) v=a_ (g.set k (.cells (Z.set o v) bf)):=P8 O Y ho
def Mn(hA:de h v xs n e)(O:h[k]?=a_ (.cells Z bf))(ho:o<Z.length)(gd:cY n xs=bh)(Z4:cY n [x]=bh)(hn:0<n)(hy:0<bW)(hf:(xs.length+1)*bW<=140737488355328):
  ∃v' g,ei h n bW e v (.sl [x] .exact)=a_ (v',g)/\bL g 1 (.mp k o) v'=a_ (g.set k (.cells (Z.set o v') bf))/\cu v'=bh/\de (g.set k (.cells (Z.set o v') bf)) v' (xs++[x]) n e/\(g.set k (.cells (Z.set o v') bf))[k]?=a_ (.cells (Z.set o v') bf)/\Ag k n e h (g.set k (.cells (Z.set o v') bf)):=by
 obtain⟨v',g,e1,hB,_,hl,S⟩:=nv hA gd Z4 hn hy hf;have gI:∀{j:Nat} {b:br},h[j]?=a_ b->(∀c,b≠.tok c n e)->g[j]?=a_ b:=λq hn=>S _ _ q λys z=>by
  rcases hA with⟨b9,_⟩|⟨id,b9,z2⟩
  rw[b9] at z;cases z;rw[b9] at z;cases z;rw[q] at z2;cases z2;exact hn _ rfl
 have kb:=gI O af
 have o1:cu v'=bh:=by rcases hB with⟨rfl,_⟩|⟨_,rfl,_⟩<;>rfl
 exact⟨v',g,e1,W4 kb o1 ho,o1,j7 hB kb,bT (gl kb),aJ,λj b q hj hn=>by rw[bE (e3 hj)];exact gI q hn⟩
def ag8(hA:mN B h v xs n e)(hB:B<=h.length)(O:h[k]?=a_ (.cells Z bf))(ho:o<Z.length)(gd:cY n xs=bh)(Z4:cY n [x]=bh)(hn:0<n)(hy:0<bW)(hf:(xs.length+1)*bW<=140737488355328):
  ∃v' g,ei h n bW e v (.sl [x] .exact)=a_ (v',g)/\bL g 1 (.mp k o) v'=a_ (g.set k (.cells (Z.set o v') bf))/\cu v'=bh/\mN B (g.set k (.cells (Z.set o v') bf)) v' (xs++[x]) n e/\(g.set k (.cells (Z.set o v') bf))[k]?=a_ (.cells (Z.set o v') bf)/\Ag k n e h (g.set k (.cells (Z.set o v') bf)):=by
 obtain⟨v',g,e1,hC,hl,S⟩:=HG hA hB gd Z4 hn hy hf;have gI:∀{j:Nat} {b:br},h[j]?=a_ b->(∀c,b≠.tok c n e)->g[j]?=a_ b:=λq hn=>S _ _ q λys z=>by
  rcases hA with b9|⟨id,b9,_,z2⟩
  rw[b9] at z;cases z;rw[b9] at z;cases z;rw[q] at z2;cases z2;exact hn _ rfl
 have kb:=gI O af
 have o1:cu v'=bh:=by rcases hC with rfl|⟨_,rfl,_⟩<;>rfl
 refine⟨v',g,e1,W4 kb o1 ho,o1,?_,bT (gl kb),aJ,λj b q hj hn=>by rw[bE (e3 hj)];exact gI q hn⟩
 rcases hC with z|⟨id,b9,z2,z3⟩
 exact bD z;exact bF ⟨id,b9,z2,by rw[bE (by rintro rfl;rw[kb] at z3;cases z3)];exact z3⟩
end
section
variable{x:List bg}{n:Nat}{xs:List (List bg)}{h:List br}{v:bg}{e:TypeId}
def vE.ok(h:vE x):x.length=9/\x.all cu=bh/\∃nm,x[0]?=a_ (bu nm):=by
 obtain⟨nm,cq,i,p,cj,a,al,mv,ex,rfl,hg,hm,_⟩:=h;exact⟨rfl,HB hg.one.1 hm.one.1,nm,rfl⟩
def om.ok(h:om x):x.length=4/\x.all cu=bh/\∃nm,x[0]?=a_ (bu nm):=by
 obtain⟨nm,v,al,bv,rfl,O⟩:=h;exact⟨rfl,ZO O.one.1,nm,rfl⟩
@[go_sem]def wE(h:∀x∈xs,x.length=n/\x.all cu=bh):cY n (xs.map dG)=bh:=by
 rw[cY,eJ];intro y hy;obtain⟨x,I,rfl⟩:=dV.1 hy;obtain⟨Y,V⟩:=h x I;simp only[jD,Y,V,beq_self_eq_true,Bool.and_self]
def Au(hA:de h v (xs.map dG) n e):sG v xs:=by
 rcases hA with⟨q,z⟩|⟨id,q,_⟩
 exact bD ⟨q,aN⟩;exact bF ⟨_,q⟩
structure uH(e1 e2:TypeId)(yH:List bg->Prop)(k:Nat)(bC mv:bg)(cC marks:List (List bg))(h:List br):Prop where
 b:h[k]?=a_ (.cells [bC,mv] bf)
 n:de h bC (cC.map dG) 9 e1
 m:de h mv (marks.map dG) 4 e2
 mX:∀x∈cC,yH x
 ia:∀x∈marks,om x
 nl:cC.length<=24
 ml:marks.length<=8
abbrev arU:=uH 103 144 vE
def PD(k:Nat)(h:List br):Prop:=∃bC mv cC marks,arU k bC mv cC marks h
section
variable{e1 e2:TypeId}{yH:List bg->Prop}{k:Nat}{bC mv:bg}{cC marks:List (List bg)}{h:List br}
def uH.app{x}(s:uH e1 e2 yH k bC mv cC marks h):uH e1 e2 yH k bC mv cC marks (h++x):=⟨bS s.b,s.n.ext,s.m.ext,s.mX,s.ia,s.nl,s.ml⟩
@[go_sem]def uH.fT(s:uH e1 e2 yH k bC mv cC marks h):bz h bf 1 (.mp k 0)=a_ bC/\bz h bf 1 (.mp k 1)=a_ mv/\bz h bh 2 (.mp k 0)=a_ (.agg [bC,mv]):=by
 simp only[bz,s.b];exact⟨rfl,rfl,rfl⟩
def At{xs}(hA:de h v xs n e):cu v=bh/\v.cells=[v]:=by
 rcases hA with⟨rfl,_⟩|⟨_,rfl,_⟩<;>exact⟨rfl,rfl⟩
def uH.an9(s:uH e1 e2 yH k bC mv cC marks h)(hN:∀{x},yH x->x.length=9/\x.all cu=bh/\∃nm,x[0]?=a_ (bu nm))(I:yH x)(hl:cC.length<24):
  ∃kJ g,ei h 9 104 e1 bC (.sl [.agg x] .exact)=a_ (kJ,g)/\bL g 1 (.mp k 0) kJ=a_ (g.set k (.cells [kJ,mv] bf))/\uH e1 e2 yH k kJ mv (cC++[x]) marks (g.set k (.cells [kJ,mv] bf))/\iZ k h (g.set k (.cells [kJ,mv] bf)):=by
 obtain⟨kJ,g,e1,e2,_,hA,O,q⟩:=Mn (bW:=104) (o:=0) s.n s.b af (wE λy hy=>⟨(hN (s.mX y hy)).1,(hN (s.mX y hy)).2.1⟩) (wE λy hy=>by rw[dW.1 hy];exact⟨(hN I).1,(hN I).2.1⟩) ag ag ah;exact⟨kJ,g,e1,e2,⟨O,by rw[gC];exact hA,q.DK s.b s.m (bD ag),λy hy=>(fA.1 hy).elim (s.mX y) λq=>aN4,s.ia,ah,s.ml⟩,q.lB⟩
def uH.an8(s:uH e1 e2 yH k bC mv cC marks h)(I:om x)(hl:marks.length<8):
  ∃n7 g,ei h 4 56 e2 mv (.sl [.agg x] .exact)=a_ (n7,g)/\bL g 1 (.mp k 1) n7=a_ (g.set k (.cells [bC,n7] bf))/\uH e1 e2 yH k bC n7 cC (marks++[x]) (g.set k (.cells [bC,n7] bf))/\iZ k h (g.set k (.cells [bC,n7] bf)):=by
 obtain⟨n7,g,e1,e2,_,hA,O,q⟩:=Mn (bW:=56) (o:=1) s.m s.b af (wE λy hy=>⟨(s.ia y hy).ok.1,(s.ia y hy).ok.2.1⟩) (wE λy hy=>by rw[dW.1 hy];exact⟨I.ok.1,I.ok.2.1⟩) ag ag ah;exact⟨n7,g,e1,e2,⟨O,q.DK s.b s.n (bD ag),by rw[gC];exact hA,s.mX,λy hy=>(fA.1 hy).elim (s.ia y) λq=>aN4,s.nl,ah⟩,q.lB⟩
@[go_sem]def N3(h)(I:x.length=9)(Y:x.all cu=bh):bL (h++[bw gU bf]) 9 (.mp h.length 0) (.agg x)=a_ (h++[bw x bf]):=by
 rw[x6 (Z:=gU) af rfl I Y];simp
@[go_sem]def ZN(h)(I:x.length=4)(Y:x.all cu=bh):bL (h++[bw gy bf]) 4 (.mp h.length 0) (.agg x)=a_ (h++[bw x bf]):=by
 rw[CL (Z:=gy) af rfl I Y];simp
end
section
variable{G:Cells}
def ass(cE:gk G)(hI:BY G){k}(jT:PD k h){ls}(hW:P0 ls):
  cw G bB 68 [.mp k 0,.sl (ls.map bu) .no] h λr h'=>(∃e:Int,r=e)/\PD k h'/\iZ k h h':=by
 obtain⟨bC,mv,cC,marks,hS⟩:=jT;refine ajE.go ?_;have c7:=hW.len;have keep:(∃e:Int,cR (.int .i64 2)=.v (.int .i64 e))/\PD k h/\iZ k h h:=⟨⟨2,rfl⟩,⟨bC,mv,cC,marks,hS⟩,iZ.refl _ _⟩;have Nu:[cR (.string ⟨[].toArray⟩),.bp,.v (.bool bf),.v (.bool bf),.v (.bool bf),.v (.int .i64 0),.v (.bool bf),.bp,.v (.string ⟨[].toArray⟩)]=gU:=rfl;have ai7:[cR (.string ⟨[].toArray⟩),.v (.int .i64 0),.v (.bool bf),.bp]=gy:=rfl;refine wy ?_;refine dn (λq=>keep) λq=>?_;have V:2<=ls.length:=aq
 obtain⟨w1,ai3⟩:∃n,ls[1]?=a_ n:=⟨ls[1],cy aa⟩;obtain⟨w0,Nr⟩:∃n,ls[0]?=a_ n:=⟨ls[0],cy aa⟩;have e1:ct 1 (.sl (ls.map bu) .no) (1:Int)=a_ (.fp [bu w1] 0):=lN (x:=bu w1) (by simp[ai3]) rfl;have e0:ct 1 (.sl (ls.map bu) .no) (0:Int)=a_ (.fp [bu w0] 0):=lN (x:=bu w0) (by simp[Nr]) rfl;refine wy ?_;refine eo (YM cE w1 (by have:=hW.each w1 (cv ai3);omega)) ?_;rintro r ⟨b,rfl⟩;cases b with
 |false=>
  exact fJ keep
 |true=>
  refine wy ?_;refine dn (λaFm=>?_) λaFm=>?_;refine jE (aEq cE hI hW V) (bY (qX (bD rfl)) dw) ?_;rintro r ⟨x,ok,rfl,I⟩;obtain⟨oA,p_,nm,q6⟩:=I.ok;have nn:=N3 h oA p_;have fk:=hS.app (x:=[bw x bf]);have kx:(h++[bw x bf])[h.length]?=a_ (.cells x bf):=af
  have q4:iZ k h (h++[bw x bf]):=iZ.app;refine wy ?_;generalize h.length=m at kx⊢;generalize h++[bw x bf]=g at fk kx q4⊢;cases ok with
  |false=>
   refine fJ ?_;exact⟨⟨_,rfl⟩,⟨_,_,_,_,fk⟩,q4⟩
  |true=>
   refine wy ?_;refine dn (λaFo=>?_) λaFo=>?_;exact⟨⟨_,rfl⟩,⟨_,_,_,_,fk⟩,q4⟩;refine cm (asR (oV.slc _ (Au fk.n) λy hy=>(hS.mX y hy).ok.1) (by have:=hS.nl;omega) λy hy g2 kH=>azN (kH _ _ kx) (hS.mX y hy).ok.2.2.choose_spec q6) ?_;rintro r g2 ⟨⟨b,rfl⟩,l2,rfl⟩;have gu:=fk.app (x:=l2);have Hj:(g++l2)[m]?=a_ (.cells x bf):=bS kx;have sV:iZ k h (g++l2):=q4.trans iZ.app;generalize g++l2=g3 at gu Hj sV⊢;cases b with
   |true=>
    refine fJ ?_;exact⟨⟨_,rfl⟩,⟨_,_,_,_,gu⟩,sV⟩
   |false=>
    refine mI @gu.fT.1 ((Au gu.n).len) (cM (λmZ=>?_) λmZ=>?_);refine e6 @mZ ?_;exact⟨⟨_,rfl⟩,⟨_,_,_,_,gu⟩,sV⟩;obtain⟨kJ,g4,p1,p2,p3,jA⟩:=gu.an9 vE.ok I (by have:=gu.nl;simp at mZ;omega);have lx:bz g3 bh 9 (.mp m 0)=a_ (.agg x):=by
     simp only[bz,Hj];unfold fh;rw[if_pos rfl,if_pos aa,pL,oe aa]
    have ab:e4 9 [.agg x]=a_ (.sl [.agg x] .exact):=by
     have:=wE λy hy=>aL_
     simp only[fc,kM] at this;simp[e4,this]
    refine wx ?_;exact⟨⟨_,rfl⟩,⟨_,_,_,_,p3⟩,sV.trans jA⟩
  refine dn (λBx=>?_) λBx=>keep;refine jE (aDK cE hI hW V) (bY (qX (bD rfl)) dw) ?_;rintro r ⟨x,ok,rfl,I⟩;obtain⟨oA,p_,nm,q6⟩:=I.ok;have nn:=ZN h oA p_;have fk:=hS.app (x:=[bw x bf]);have kx:(h++[bw x bf])[h.length]?=a_ (.cells x bf):=af
  have q4:iZ k h (h++[bw x bf]):=iZ.app;refine wy ?_;generalize h.length=m at kx⊢;generalize h++[bw x bf]=g at fk kx q4⊢;cases ok with
  |false=>
   refine fJ ?_;exact⟨⟨_,rfl⟩,⟨_,_,_,_,fk⟩,q4⟩
  |true=>
   refine wx (cm (asS (oV.slc _ (Au fk.m) λy hy=>(hS.ia y hy).ok.1) (by have:=hS.ml;omega) λy hy g2 kH=>azO (kH _ _ kx) (hS.ia y hy).ok.2.2.choose_spec q6) ?_);rintro r g2 ⟨⟨b,rfl⟩,l2,rfl⟩;have gu:=fk.app (x:=l2);have Hj:(g++l2)[m]?=a_ (.cells x bf):=bS kx;have sV:iZ k h (g++l2):=q4.trans iZ.app;generalize g++l2=g3 at gu Hj sV⊢;cases b with
   |true=>
    refine fJ ?_;exact⟨⟨_,rfl⟩,⟨_,_,_,_,gu⟩,sV⟩
   |false=>
    refine mI @gu.fT.2.1 ((Au gu.m).len) (cM (λmZ=>?_) λmZ=>?_);refine e6 @mZ ?_;exact⟨⟨_,rfl⟩,⟨_,_,_,_,gu⟩,sV⟩;obtain⟨n7,g4,p1,p2,p3,jA⟩:=gu.an8 I (by have:=gu.ml;simp at mZ;omega);have lx:bz g3 bh 4 (.mp m 0)=a_ (.agg x):=by
     simp only[bz,Hj];unfold fh;rw[if_pos rfl,if_pos aa,pL,oe aa]
    have ab:e4 4 [.agg x]=a_ (.sl [.agg x] .exact):=by
     have:=wE λy hy=>aL_
     simp only[fc,kM] at this;simp[e4,this]
    refine wx ?_;exact⟨⟨_,rfl⟩,⟨_,_,_,_,p3⟩,sV.trans jA⟩
end
end
section
variable{x:List bg}{h J:List br}{k:Nat}{a b:bg}
def amq:∀(l) (n),zX (l.drop n)+(l.drop n).length<=zX l+l.length
 |l,0=>af
 |[],n+1=>af
 |x::r,n+1=>by
  have:=amq r n;simp only[wX,zX,eZ,fc,Aa] at this⊢;omega
def apF(c):∀s:List UInt8,zX (jx c s)+(jx c s).length=s.length+1
 |[]=>by simp[jx,zX]
 |b::r=>by
  have ih:=apF c r;unfold jx;split;simp only[zX,eZ,fc,Aa,iG] at ih⊢;omega;split;rename_i he;rw[he] at ih;simp[zX] at ih;rename_i h t he;rw[he] at ih;simp only[zX,eZ,fc,Aa] at ih⊢;omega
def aIQ{s}(hs:s.length<=70000)(c):P0 (jx c s):=by
 obtain⟨Y,V⟩:=OJ c s;have h3:=apF c s;exact⟨λw hw=>by have:=V w hw;omega,λn=>by have:=amq (jx c s) n;omega,aa⟩
def arX(bC mv:bg):Prop:=∃cC marks:List (List bg),cD bC (cC.map dG)/\cD mv (marks.map dG)/\(∀x∈cC,vE x)/\(∀x∈marks,om x)/\cC.length<=24/\marks.length<=8
def ade(r:bg):Prop:=∃(bC mv:bg) (a e:Int),r=.bQ [.agg [bC,mv],bq a,bq e]/\arX bC mv
def vE.fz(h:vE x)(J):b_ J (.agg x) (.agg x):=by
 obtain⟨nm,cq,i,p,cj,a,al,mv,ex,rfl,hg,hm,_⟩:=h;exact j0 (bG (bH _) (bG (hg.fz J) (bG (bH _) (bG (bH _) (bG (bH _) (bG (bH _) (bG (bH _) (bG (hm.fz J) (bG (bH _) c_)))))))))
def om.fz(h:om x)(J):b_ J (.agg x) (.agg x):=by
 obtain⟨nm,v,al,bv,rfl,O⟩:=h;exact j0 (bG (bH _) (bG (bH _) (bG (bH _) (bG (O.fz J) c_))))
def aoJ{v}{xs:List (List bg)}{n}{e}(hA:de J v (xs.map dG) n e)(I:∀x∈xs,b_ J (.agg x) (.agg x)):∃v',b_ J v v'/\cD v' (xs.map dG):=by
 rcases hA with⟨rfl,z⟩|⟨id,rfl,_⟩
 exact⟨_,eB,bF ⟨rfl,z⟩⟩;exact⟨_,hD (iE I),bD rfl⟩
def Wn(a e:Int):∃n bR,dh J n (.bQ [.agg [.bp,.bp],a,e])=a_ bR/\ade bR:=by
 obtain⟨n,hn⟩:=(fy (bG (j0 (bG eB (bG eB c_))) (bG (bH (.int .i64 a)) (bG (bH (.int .i64 e)) c_))):b_ J _ _).done;exact⟨n,_,hn,.bp,.bp,a,e,rfl,[],[],bF ⟨rfl,rfl⟩,bF ⟨rfl,rfl⟩,af,af,ag,ag⟩
@[go_sem]def abW{Z}(O:h[k]?=a_ (.cells Z bf))(T:Z.length=2)(ha:cu a=bh)(iS:cu b=bh):bL h 2 (.mp k 0) (.agg [a,b])=a_ (h.set k (.cells [a,b] bf)):=by
 have e:(dG [a,b]).cells=[a,b]:=rfl;simp only[bL,O,fD];rw[e,if_pos ⟨rfl,aa,by simp[ha,iS]⟩];unfold d_;rw[oR,gM,gi,tD ah,gV]
@[go_sem]def aIr(O:h[k]?=a_ (.cells [a,b] bf)):bz h bh 2 (.mp k 0)=a_ (.agg [a,b]):=by
 simp only[bz,O];rfl
def aDf(s):∃v a e,J2 s=(v,a,e)/\(e≠0\/(e=0/\∃ls:List (List UInt8),cD v (ls.map bu)/\ls.length<=65537/\∀l∈ls,l.length<=65536)):=by
 obtain⟨Y,V⟩:=OJ 10 s;unfold J2;split;exact⟨_,_,_,rfl,bD ag⟩;split;exact⟨_,_,_,rfl,bF ⟨rfl,[],bF ⟨rfl,rfl⟩,ag,af⟩⟩;split;refine⟨_,_,_,rfl,bF ⟨rfl,_,bD rfl,by rw[List.length_dropLast];omega,λl hl=>?_⟩⟩;have:=V l ((List.dropLast_sublist _).subset hl);omega;exact⟨_,_,_,rfl,bD ag⟩
section
variable{G:Cells}
def aEY(cE:gk G)(hI:BY G)(s)(hs:s.length<=1000000):dM G bB 39 [bu s] ade:=by
 refine en (alz.go ?_);obtain⟨v,a,e,aiy,hq⟩:=aDf s;have sp:=aDd cE s aa;rw[aiy] at sp;refine wy ?_;refine dx sp ?_;refine wy ?_
 rcases hq with he|⟨rfl,ls,hv,hl1,js⟩
 have q:(e !=0)=bh:=aMg
 exact wy (Wn _ _);have ln:=hv.cG;rw[cS] at ln;refine wy ?_;refine c8 (λi e h=>e=[(2,.mp 0 0),(8,.mp 1 0),(24,v),(25,bq ls.length),(26,bq i)]/\h[0]?=a_ (.cells [.bp,.bp] bf)/\PD 1 h) ls.length ⟨rfl,rfl,.bp,.bp,[],[],rfl,bD ⟨rfl,rfl⟩,bD ⟨rfl,rfl⟩,af,af,ag,ag⟩ ?_ ?_;rintro i e h Q ⟨rfl,h0,jT⟩;obtain⟨w,hw⟩:=cO Q;have EE:=js w (cv hw);have e1:ct 1 v i=a_ (.fp [bu w] 0):=hv.cB (x:=bu w) aMo rfl;refine wy ?_;refine dx (aHh cE w aa) ?_;by_cases Nr:w=[];subst Nr;have e0:yg []=(.bp,0):=rfl;rw[e0];have Zn:∀J,cG .bp J=a_ (.v (.int .i64 0),J):=λJ=>rfl;have c0:decide ((0:Int)<0)=bf:=rfl;refine jB @bq.eq_1 @Zn @c0 ?_;exact⟨trivial,h0,jT⟩;by_cases fN:(jx 32 w).all Fl=bh;have e0:yg w=(.sl ((jx 32 w).map bu) .no,0):=by unfold yg;rw[if_neg Nr,if_pos fN]
 rw[e0];refine wy ?_;refine dn (λq=>?_) λq=>?_;refine cm (ass cE hI jT (aIQ aa 32)) ?_;rintro r g ⟨⟨e,rfl⟩,AY,hB⟩;have p0:=hB.2 _ _ _ ag h0;refine wy ?_;refine dn (λbt=>(Wn _ _)) λbt=>?_;exact⟨rfl,p0,AY⟩;exact⟨rfl,h0,jT⟩;have e0:yg w=(.bp,2):=by unfold yg;rw[if_neg Nr,if_neg fN]
 rw[e0];exact wy (Wn _ _);rintro e h ⟨rfl,h0,bC,mv,cC,marks,hS⟩;have oJ:=abW h0 rfl (At hS.n).1 (At hS.m).1;refine oa ?_;obtain⟨kJ,b9,z2⟩:=aoJ (j7 hS.n h0) λx I=>(hS.mX x I).fz _;obtain⟨n7,z3,z4⟩:=aoJ (j7 hS.m h0) λx I=>(hS.ia x I).fz _;obtain⟨n,hn⟩:=(fy (bG (j0 (bG b9 (bG z3 c_))) (bG (bH (.int .i64 0)) (bG (bH (.int .i64 0)) c_)))).done;exact⟨n,_,hn,kJ,n7,0,0,rfl,cC,marks,z2,z4,hS.mX,hS.ia,hS.nl,hS.ml⟩
end
end
section
variable{x:List bg}{k:Nat}{g:List br}{a b:List UInt8}
def pR(x:List bg):Prop:=∃(y:List bg) (b:Bool) (cJ:bg),x=y++[.v (.bool b),cJ]/\vE y/\(cJ=.v (.pointer bn)\/BX cJ)
structure tO(h:List br)(p bC mv:bg)(rows marks:List (List bg)):Prop where
 pp:uM h p [bC,mv]
 rr:oV 11 h bC rows
 um:oV 4 h mv marks
 rc:∀x∈rows,pR x
 ia:∀x∈marks,om x
 rl:rows.length<=24
 ml:marks.length<=8
def tO.ext{h h'}{p bC mv}{rows marks}(s:tO h p bC mv rows marks)(he:Ext h h'):tO h' p bC mv rows marks:=⟨s.pp.ext he,s.rr.ext he,s.um.ext he,s.rc,s.ia,s.rl,s.ml⟩
def pR.at(h:pR x):∃nm cq i p cj a al mv ex b cJ,x=[bu nm,cq,.v (.bool i),.v (.bool p),.v (.bool cj),.v (.int .i64 a),.v (.bool al),mv,bu ex,.v (.bool b),cJ]/\jg 4 cq/\jg 100001 mv/\ex.length<=40000/\(cJ=.v (.pointer bn)\/BX cJ):=by
 obtain⟨y,b,cJ,rfl,⟨nm,cq,i,p,cj,a,al,mv,ex,rfl,Y,V,h3⟩,h4⟩:=h;exact⟨nm,cq,i,p,cj,a,al,mv,ex,b,cJ,rfl,Y,V,h3,h4⟩
section
variable{G:Cells}{h:List br}{p bC mv:bg}{rows marks:List (List bg)}
def aqw(s:tO h p bC mv rows marks):cw G bB 192 [p] h λr h'=>r=.v (.int .i64 (rows.length:Int))/\h'=h:=by
 refine YR.go ?_;obtain⟨q0,f0,_,l0⟩:=s.pp.fa 0;have Zd:=l0 h (rH h) bC rfl;exact Da @s.pp.ne @s.pp.nl @s.rr.len tt
def arO(h:List br)(rows:List (List bg))(t:Int)(r:bg):Prop:=(r=.v (.pointer bn)/\(t<1\/(rows.length:Int)<t))\/∃(i:Nat) (x:List bg),t=(i:Int)+1/\rows[i]?=a_ x/\uM h r x
def aey(s:tO h p bC mv rows marks)(t):cw G bB 139 [p,.v (.int .i64 t)] h λr h'=>arO h rows t r/\h'=h:=by
 refine Sl.go ?_;have nD:=s.rl;obtain⟨q0,f0,_,l0⟩:=s.pp.fa 0;have Zd:=l0 h (rH h) bC rfl;refine iD @s.pp.ne ?_;refine dn (λq=>?_) λq=>?_;exact⟨bD ⟨rfl,bD ak⟩,trivial⟩;refine mI @s.pp.nl @s.rr.len ?_;refine dn (λbt=>?_) λbt=>?_;exact⟨bD ⟨rfl,bF aX⟩,trivial⟩;obtain⟨i,rfl⟩:∃i:Nat,t=(i)+1:=⟨(t-1).toNat,aq⟩;have Q:i<rows.length:=aMR
 obtain⟨x,I⟩:=cO Q;obtain⟨Tj,Y,V⟩:=s.rr.cB i x I;have w1:cN.wrap ((i)+1-1)=(i):=by rw[fq aa aa];omega
 refine iD @s.pp.nl ?_;exact⟨bF ⟨i,x,rfl,I,V⟩,trivial⟩
def azG(s:tO h p bC mv rows marks)(t):cw G bB 77 [p,.v (.int .i64 t)] h λr h'=>jR r/\h'=h:=by
 refine YQ.go ?_;refine wy (cm (aey s t) ?_);rintro r g ⟨ha,rfl⟩;refine iD @s.pp.ne ?_;refine dn (λq=>?_) λq=>?_;exact⟨⟨_,rfl⟩,trivial⟩
 rcases ha with⟨rfl,_⟩|⟨i,x,rfl,I,J⟩
 refine wx ?_;exact⟨⟨_,rfl⟩,trivial⟩;obtain⟨nm,cq,i1,p1,cj,a,al,va,ex,b,cJ,rfl,_⟩:=(s.rc x (cv I)).at
 obtain⟨q0,f0,avl,_⟩:=J.fa 0;obtain⟨bt,f2,_,l2⟩:=J.fa 2;have aLb:=l2 g (rH g) _ rfl;refine Da @q @J.ne @J.nl ?_;exact⟨⟨_,rfl⟩,trivial⟩
def azP(S:g[k]?=a_ (.cells [bu b] bf))(I:x[0]?=a_ (bu a)):
  jS G bB (.fn (.func 126) [] [.mp k 0]) [.agg x] g λr g'=>jR r/\∃l,g'=g++l:=by
 show cw G bB 126 [.agg x,.mp k 0] g _;refine aj4.go ?_;refine wy ?_;exact⟨⟨_,rfl⟩,_,rfl⟩
def azQ(S:g[k]?=a_ (.cells [bu b] bf))(I:x[0]?=a_ (bu a)):
  jS G bB (.fn (.func 128) [] [.mp k 0]) [.agg x] g λr g'=>jR r/\∃l,g'=g++l:=by
 show cw G bB 128 [.agg x,.mp k 0] g _;refine aj6.go ?_;refine wy ?_;exact⟨⟨_,rfl⟩,_,rfl⟩
def azA{y v}{xs}(hv:oV 11 h v xs)(hl:xs.length<=100000)(mB:∀x∈xs,∀g,Ext h g->jS G bB y [.agg x] g λr g'=>jR r/\∃l,g'=g++l):
  cw G bB 125 [v,y] h λr h'=>U9 xs.length r/\∃l,h'=h++l:=by
 refine aj3.go ?_;refine iD @hv.len ?_;refine c8 (λi e g=>e=[(0,v),(1,y),(7,bq xs.length),(8,bq i)]/\∃l,g=h++l) xs.length ⟨rfl,[],af⟩ ?_ ?_;rintro i e g Q ⟨rfl,l,rfl⟩;obtain⟨x,I⟩:=cO Q;obtain⟨q,Y,V⟩:=hv.cB i x I;have h3:=V.fT (h++l) mg;rw[(hv.el x (cv I))] at h3;refine wy (vw (mB x (cv I) _ mg) ?_);rintro r g2 ⟨⟨b,rfl⟩,l2,rfl⟩;cases b with
 |true=>
  refine wy ?_;exact⟨⟨_,rfl,bF ⟨i,rfl,Q⟩⟩,l++l2,aMq⟩
 |false=>
  refine wx ?_;exact⟨rfl,l++l2,aMq⟩
 rintro e g ⟨rfl,l,rfl⟩;refine wy ?_;exact⟨⟨_,rfl,bD rfl⟩,l,rfl⟩
def arW(n:Nat)(r:bg):Prop:=∃(t:Nat) (b:Bool),r=.bQ [.v (.int .i64 (t:Int)),.v (.bool b)]/\t<=n
def agI(s:tO h p bC mv rows marks)(w):cw G bB 69 [p,bu w] h λr h'=>arW rows.length r/\∃l,h'=h++l:=by
 refine ajF.go ?_;have nD:=s.rl;have et:dR .eql (bu w) (.v (.string ⟨[116,101,120,116].toArray⟩))=a_ (.v (.bool (w==[116,101,120,116]))):=oZ w [116,101,120,116];have k1:(h++[bw [bu w] bf])[h.length]?=a_ (.cells [bu w] bf):=af
 have s1:=s.ext (h':=h++[bw [bu w] bf]) mg;obtain⟨q0,f0,_,l0⟩:=s1.pp.fa 0;have Zd:=l0 _ (rH _) bC rfl;refine iD @s.pp.ne ?_;generalize hg:h++[bw [bu w] bf]=g at k1 s1 l0 Zd⊢;refine nc (ff k1) @et ?_;refine dn (λq=>?_) λq=>?_;exact⟨⟨0,bh,rfl,gW _⟩,_,hg.symm⟩;refine iD @s1.pp.nl ?_;refine cm (azA s1.rr aa λx I g2 kH=>?_) ?_;obtain⟨nm,cq,i1,p1,cj,a,al,va,ex,b,cJ,rfl,_⟩:=(s.rc x I).at
 exact azP (kH _ _ k1) rfl;rintro r g2 ⟨⟨m,rfl,hm⟩,l,rfl⟩
 rcases hm with rfl|⟨j,rfl,hj⟩
 refine wy ?_;exact⟨⟨0,_,rfl,gW _⟩,[bw [bu w] bf]++l,by rw[<-hg,dQ]⟩;refine wy ?_;exact⟨⟨j+1,_,rfl,aa⟩,[bw [bu w] bf]++l,by rw[<-hg,dQ]⟩
end
end
def AK(e:Int):List PanicEntry:=[{v:=.iface 89 (.agg #[.int .i64 e]),recovered:=bf}]
def zu{G}(b:Bool)(e:Int)(J):iH G bB 40 [b,e] J (λr h'=>b=bh/\h'=J) λch h'=>b=bf/\ch=AK e/\h'=J:=by
 refine alA.AT ?_;have f1:dN [.v (.int .i64 0)] [(0,1,.v (.int .i64 e))]=a_ [.v (.int .i64 e)]:=rfl;have c1:rP (.eE 89 (.agg [e]))=a_ (.iface 89 (.agg #[.int .i64 e])):=rfl;cases b with
 |false=>
  refine wx ?_;exact⟨trivial,rfl,trivial⟩
 |true=>
  exact wx tt
section
variable{G:Cells}{h:List br}{p bC mv:bg}{rows marks:List (List bg)}
def avs(s:tO h p bC mv rows marks)(w):cw G bB 71 [p,bu w] h λr h'=>(∃(t:Int) (b:Bool),r=.bQ [t,b])/\∃l,h'=h++l:=by
 refine ajH.go ?_;have n3:=s.ml;have k1:(h++[bw [bu w] bf])[h.length]?=a_ (.cells [bu w] bf):=af
 have s1:=s.ext (h':=h++[bw [bu w] bf]) mg;obtain⟨q1,f1,_,l1⟩:=s1.pp.fa 1;have NI:=l1 _ (rH _) mv rfl;have aLi:∀m:Int,qT bh [.v (.int .i64 m),.v (.int .i64 0)]=a_ (.v (.int .i64 (if(0:Int)>m then 0 else m))):=λm=>rfl;refine iD @s.pp.ne ?_;generalize hg:h++[bw [bu w] bf]=g at k1 s1 l1 NI⊢;refine jB @s1.pp.nl @f1 @NI (cm (ajg s1.um aa λx I g2 kH=>?_) ?_);obtain⟨nm,v,al,bv,rfl,_⟩:=s.ia x I;exact azQ (kH _ _ k1) rfl;rintro r g2 ⟨⟨m,rfl,hm⟩,l,rfl⟩;refine wy ?_;exact⟨⟨_,_,rfl⟩,[bw [bu w] bf]++l,by rw[<-hg,dQ]⟩
def aCo(s:tO h p bC mv rows marks){k}(S:h[k]?=a_ (.cells [p] bf))(w):cw G bB 70 [bu w,.mp k 0] h λr h'=>jR r/\∃l,h'=h++l:=by
 refine ajG.go ?_;refine wy (cm (avs s w) ?_);rintro r g ⟨⟨t,b,rfl⟩,l,rfl⟩;refine wy ?_;exact⟨⟨_,rfl⟩,l,rfl⟩
def tc(n:Nat):bg:=bq (n:Int)
def awD(s:tO h p bC mv rows marks)(w):cw G bB 132 [p,bu w] h λr h'=>(∃ts:List Nat,cD r (ts.map tc)/\(∀t∈ts,t<=24)/\ts.length<=24)/\h'=h:=by
 refine cw.Wh (aj_.go ?_);have nD:=s.rl;refine wy ?_;refine c8 (λi e g=>∃ts bx,e=[(0,p),(1,bu w),(5,bx),(6,((i+1:Nat):Int))]/\Ext h g/\de g bx (ts.map tc) 1 3/\(∀id,BG bx id->h.length<=id)/\(∀t∈ts,t<=24)/\ts.length<=i) rows.length ⟨[],.bp,rfl,rH h,bD ⟨rfl,rfl⟩,λid ⟨_,q⟩=>av,af,gW _⟩ ?_ ?_;rintro i e g Q ⟨ts,bx,rfl,hE,hA,hid,ht,G5⟩;have s1:=s.ext hE;refine wy (cm (aqw s1) ?_);rintro r g1 ⟨rfl,rfl⟩;refine wy (cm (aey s1 ((i+1:Nat):Int)) ?_);rintro r g2 ⟨jU,rfl⟩;obtain⟨x,I,J⟩:∃x,rows[i]?=a_ x/\uM g2 r x:=by
  rcases jU with⟨_,z⟩|⟨j,x,z,I,J⟩
  omega;obtain rfl:j=i:=aa
  exact⟨x,I,J⟩
 obtain⟨nm,cq,i1,p1,cj,a,al,va,ex,b,cJ,rfl,Ek,_⟩:=(s.rc x (cv I)).at
 obtain⟨q0,f0,avl,_⟩:=J.fa 0;obtain⟨q1,f1,_,l1⟩:=J.fa 1;have NI:=l1 g2 (rH _) cq rfl;obtain⟨gs,Ba,kS⟩:=Ek;have w2:cN.wrap (((i+1:Nat):Int)+1)=((i+1+1:Nat):Int):=jZ aa;refine iD @J.nl (ic (L2 Ba (qX Ba) aa w) (bY (qX Ba) (bY (tT _) dw)) ?_);refine wy (cM (λq=>?_) λq=>?_);have anE:cY 1 (ts.map tc)=bh:=by
  rw[cY,eJ];intro y hy;obtain⟨t,_,rfl⟩:=dV.1 hy;rfl
 obtain⟨cZ,g3,di,rT,bP,bK,wg⟩:=nv (x:=tc (i+1)) (bW:=8) hA anE rfl ag ag ah;have ab:e4 1 [((i+1:Nat):Int)]=a_ (.sl [tc (i+1)] .exact):=rfl;refine wy ?_;refine⟨ts++[i+1],cZ,rfl,λj b O=>wg j b (hE j b O) λxs e=>?_,by rw[gC];exact rT,λid ⟨xs,e⟩=>?_,λt h=>?_,ah⟩;have:=hid j ⟨xs,e⟩;have:=gl O;omega
 rcases rT with⟨z,_⟩|⟨n5,z,z2⟩
 rw[z] at e;cases e;rw[z] at e;cases e
 rcases hA with⟨y,fR⟩|⟨YC,y,fR⟩
 rw[y] at di;have Wr:ei g2 1 8 3 .bp (.sl [tc (i+1)] .exact)=a_ (.sl [tc (i+1)] (.tok g2.length),g2++[.tok 1 1 3]):=rfl;rw[Wr] at di;cases di;injection z with b9 z2
 injection z2 with z3
 have:=hE.len;omega;rw[y] at di;have h4:¬([tc (i+1)]=([]:List bg)):=af
 have o1:cY 1 [tc (i+1)]=bh:=rfl;have Wr:ei g2 1 8 3 (.sl (ts.map tc) (.tok YC)) (.sl [tc (i+1)] .exact)=a_ (.sl (ts.map tc++[tc (i+1)]) (.tok YC),g2.set YC (.tok ((ts.map tc).length+1) 1 3)):=by
  simp only[ei,gR,iA,iq,o1,anE,h4,if_false,and_self,w9,if_true,true_and,fR,eZ,iG,gi];rw[if_pos ah]
 rw[Wr] at di;cases di;cases z;exact hid _ ⟨_,y⟩
 rcases fA.1 h with h|h
 exact ht t h;rw[dW.1 h];omega;refine nc @q @w2 ?_;exact⟨ts,bx,rfl,hE,hA,hid,ht,aa⟩;rintro e g ⟨ts,bx,rfl,hE,hA,hid,ht,G5⟩;refine wy (cm (aqw (s.ext hE)) ?_);rintro r g1 ⟨rfl,rfl⟩;refine wy ?_;refine⟨hE.split,?_⟩
 rcases hA with⟨rfl,z⟩|⟨id,rfl,_⟩
 obtain⟨n,hn⟩:=(eB:b_ (oC h.length g1) _ _).done;exact⟨n,_,hn,ts,bF ⟨rfl,z⟩,ht,aa⟩;obtain⟨n,hn⟩:=(hD (iE λa _=>bH _):b_ (oC h.length g1) _ _).done;exact⟨n,_,hn,ts,bD rfl,ht,aa⟩
def at2{v}{ts:List Nat}(h:cD v (ts.map tc)):eY v:=by
 rcases h with rfl|⟨rfl,_⟩
 refine k4 λx I c T=>?_;obtain⟨n,_,rfl⟩:=dV.1 I;rw[dW.1 (show c∈[tc n] from T)];exact dD _;exact Ge (n:=1) rfl
def amQ(s:tO h p bC mv rows marks)(w):cw G bB 73 [p,bu w] h λr h'=>∃B l,r=cg B/\h'=h++l:=by
 refine ajJ.go ?_;have nD:=s.rl;have s1:=s.ext (h':=h++[bw (bX 0) bf]) mg;have fin:∀(l) (B),(h++[bw (bX 0) bf]++l).set h.length (.cells (bX B) bf)=h++([bw (bX B) bf]++l):=λl B=>by
  rw[dQ,arC _ _ (cc _),ni];rfl
 refine wy (cm (agI s1 w) ?_);rintro r g ⟨⟨t,b,rfl,ht⟩,l,rfl⟩;have k2:(h++[bw (bX 0) bf]++l)[h.length]?=a_ (.cells (bX 0) bf):=bS af;cases b with
 |true=>
  have ab:e4 1 [t]=a_ (.sl ([t].map λn:Nat=>bq (n)) .exact):=rfl;have sp:cV G bB 131 [.sl ([t].map λn:Nat=>bq (n)) .no] (cg (fZ [t])):=Z6 (bD rfl) (λn hn=>by rw[dW.1 hn];omega) af;have st:=LR k2 (fZ [t]);have gp:=bT (a:=.cells (bX (fZ [t])) bf) (gl k2);refine rF (ic sp (bY (k4 λx I c T=>?_) dw) ?_);obtain⟨n,_,rfl⟩:=dV.1 I;rw[dW.1 (show c∈[bq (n)] from T)];exact dD _;refine nc @st (Ax gp) ?_;exact⟨_,_,rfl,fin l _⟩
 |false=>
  refine wy (cm (awD (s1.ext mg) w) ?_);rintro v g2 ⟨⟨ts,hv,Y,V⟩,rfl⟩;have st:=LR k2 (fZ ts);have gp:=bT (a:=.cells (bX (fZ ts)) bf) (gl k2);refine wy (ic (Z6 hv (λn hn=>by have:=Y n hn;omega) aa) (bY (at2 hv) dw) ?_);refine nc @st (Ax gp) ?_;exact⟨_,_,rfl,fin l _⟩
def aDV(s:tO h p bC mv rows marks):Dv G h (.fn (.func 73) [p] []):=
 ⟨rfl,λw g hw hg=>by
  show cw G bB 73 [p,bu w] g _;exact amQ (s.ext hg) w⟩
end
def aHW{cJ}(h:cJ=.v (.pointer bn)\/BX cJ):cu cJ=bh:=by
 rcases h with rfl|⟨rows,rfl,_⟩<;>rfl
def pR.len{x}(h:pR x):x.length=11/\x.all cu=bh:=by
 obtain⟨nm,cq,i,p,cj,a,al,mv,ex,b,cJ,rfl,hg,hm,_,ht⟩:=h.at
 refine⟨rfl,?_⟩;simp only[pK,tC,hg.one.1,hm.one.1,aHW ht];rfl
@[go_sem]def aoH{n k}{h}{Z x}(O:h[k]?=a_ (.cells Z bf))(T:Z.length=n)(I:x.length=n)(Y:x.all cu=bh):bL h n (.mp k 0) (.agg x)=a_ (h.set k (.cells x bf)):=by
 have e:(dG x).cells=x:=rfl;simp only[bL,O,fD];rw[e,if_pos ⟨I,aa,Y⟩];unfold d_;rw[oR,gM,gi,I,tD aa,gV]
@[go_sem]def OC{n}(h){z x}(hz:z.length=n)(I:x.length=n)(Y:x.all cu=bh):bL (h++[bw z bf]) n (.mp h.length 0) (.agg x)=a_ (h++[bw x bf]):=by
 rw[aoH af hz I Y];simp
def TB:List bg:=[.v (.string ⟨[].toArray⟩),.bp,bf,bf,bf,(0:Int),bf,.bp,.v (.string ⟨[].toArray⟩),bf,.v (.pointer bn)]
def Ext.trans{a b c}(h:Ext a b)(k:Ext b c):Ext a c:=λj x q=>k j x (h j x q)
section
variable{G:Cells}{h:List br}{p bC mv:bg}{rows marks:List (List bg)}
def aEc(s:tO h p bC mv rows marks)(eL:p.cells=[p]):iH G bB 41 [p] h (λr h'=>(∃l,h'=h++l)/\0<rows.length) λch h'=>∃e,e≠0/\ch=AK e/\∃l,h'=h++l:=by
 refine alB.AT ?_;have nD:=s.rl;have n3:=s.ml;have o6:Ext h (h++[bw [p] bf]):=mg;have k1:(h++[bw [p] bf])[h.length]?=a_ (.cells [p] bf):=af
 obtain⟨q0,f0,_,l0⟩:=s.pp.fa 0;obtain⟨q1,f1,_,l1⟩:=s.pp.fa 1;have kk:∀g,Ext (h++[bw [p] bf]) g->bz g bf 1 (.mp h.length 0)=a_ p/\bz g bf 1 q0=a_ bC/\bz g bf 1 q1=a_ mv:=λg hg=>⟨ff (hg _ _ k1),l0 g (o6.trans hg) bC rfl,l1 g (o6.trans hg) mv rfl⟩;have bad:∀(e) (g),e≠0->Ext (h++[bw [p] bf]) g->∃e',e'≠0/\AK e=AK e'/\∃l,g=h++l:=λe g he hg=>⟨e,he,rfl,(o6.trans hg).split⟩;have hz:[cR (.string ⟨[].toArray⟩),.bp,bf,bf,bf,(0:Int),bf,.bp,.v (.string ⟨[].toArray⟩),bf,.v (.pointer bn)]=TB:=rfl;have ai7:[cR (.string ⟨[].toArray⟩),(0:Int),bf,.bp]=gy:=rfl;refine iO (λe g=>e=[(1,.mp h.length 0)]/\g=h++[bw [p] bf]) ?_ ?_;exact wx tt;rintro e g ⟨rfl,rfl⟩;generalize h++[bw [p] bf]=O at o6 k1 kk bad⊢;refine iO (λe g=>e=[(1,.mp h.length 0)]/\g=O/\0<rows.length) ?_ ?_;refine mI @s.pp.nl @s.rr.len (g_ (zu _ 14 O) ?_ ?_);rintro r g ⟨iC,rfl⟩;refine wx ?_;exact⟨trivial,trivial,by simpa using iC⟩;rintro ch g ⟨_,rfl,rfl⟩;exact bad 14 g ag (rH _);rintro e g ⟨rfl,rfl,rZ⟩;refine iO (λe g'=>e=[(1,.mp h.length 0)]/\Ext g g') ?_ ?_;refine mI @s.pp.nl @s.rr.len ?_;refine c8 (λi e g'=>e=[(1,.mp h.length 0),(29,bC),(30,bq rows.length),(31,bq i)]/\Ext g g') rows.length ⟨rfl,rH _⟩ ?_ ?_;rintro i e g1 Q ⟨rfl,hE⟩;obtain⟨x,I⟩:=cO Q;have lZ:=s.rc x (cv I);obtain⟨Tj,Y,V⟩:=s.rr.cB i x I;have h3:=V.fT g1 (o6.trans hE);rw[lZ.len.1] at h3;have n1:=OC (n:=11) g1 (z:=TB) rfl lZ.len.1 lZ.len.2;have kx:(g1++[bw x bf])[g1.length]?=a_ (.cells x bf):=af
 have lU:Ext g (g1++[bw x bf]):=hE.qU;obtain⟨nm,cq,i1,p1,cj,a,al,va,ex,b,cJ,rfl,Ek,_⟩:=lZ.at
 obtain⟨gs,Ba,kS⟩:=Ek;have NM:=Ba.cG;rw[cS] at NM;refine wy ?_;refine wy ?_;refine c8 (λj e g'=>e=[(1,.mp h.length 0),(29,bC),(30,bq rows.length),(31,bq i),(37,cq),(38,bq gs.length),(39,bq j)]/\Ext g g') gs.length ⟨rfl,lU⟩ ?_ ?_;rintro j e g3 hj ⟨rfl,qw⟩;obtain⟨w,hw⟩:=cO hj;have e1:ct 1 cq j=a_ (.fp [bu w] 0):=Ba.cB (x:=bu w) aMo rfl;refine wy (cm (agI (s.ext (o6.trans qw)) w) ?_);rintro r g4 ⟨⟨t,b,rfl,_⟩,l,rfl⟩;refine wy (g_ (zu _ 9 _) ?_ ?_);rintro r g5 ⟨_,rfl⟩;refine wx ?_;exact⟨rfl,qw.qU⟩;rintro ch g5 ⟨_,rfl,rfl⟩;exact bad 9 _ ag qw.qU;rintro e g3 ⟨rfl,qw⟩;refine e6 @bq.eq_1 ?_;exact⟨trivial,qw⟩;rintro e g1 ⟨rfl,hE⟩;refine e6 @bq.eq_1 ?_;exact⟨trivial,hE⟩;rintro e g1 ⟨rfl,hE⟩;obtain⟨x0,JS⟩:=cO rZ;obtain⟨aFr,vX,p0⟩:=s.rr.cB 0 x0 JS;obtain⟨anc,aKl,i0,je,aC9,aJC,aJD,aLk,aKe,aJN,aLJ,rfl,_⟩:=(s.rc x0 (cv JS)).at
 refine iO (λe g'=>e=[(1,.mp h.length 0)]/\g'=g1) ?_ ?_
 · obtain⟨bR,sn,v0,_⟩:=p0.fa 0
   obtain⟨r2,u2,_,w2⟩:=p0.fa 2;obtain⟨CV,u4,_,tr⟩:=p0.fa 4;have aLN:=w2 g1 (o6.trans hE) _ rfl;have OT:=tr g1 (o6.trans hE) _ rfl;have aKm:ct 11 bC (0:Int)=a_ aFr:=vX;have done:∀b:Bool,iH G bB 40 [b,(13:Int)] g1 (λr h'=>h'=g1) λch h'=>ch=AK 13/\h'=g1:=λb=>g_ (zu b 13 g1) (λr h' q=>q.2) λch h' q=>q.2;cases aC9 with
   |true=>
    refine iD @s.pp.nl (g_ (done _) ?_ ?_);rintro r g2 rfl;exact wx tt;rintro ch g2 ⟨rfl,rfl⟩;exact bad 13 _ ag hE
   |false=>
    refine iD @s.pp.nl (g_ (done _) ?_ ?_);rintro r g2 rfl;exact wx tt;rintro ch g2 ⟨rfl,rfl⟩;exact bad 13 _ ag hE
 rintro e g2 ⟨rfl,rfl⟩;refine iO (λe g'=>e=[(1,.mp h.length 0)]/\Ext g g') ?_ ?_;refine mI @s.pp.nl @s.rr.len ?_;refine c8 (λi e g'=>e=[(1,.mp h.length 0),(78,bC),(79,bq rows.length),(80,bq i)]/\Ext g g') rows.length ⟨rfl,hE⟩ ?_ ?_
 · rintro i e g1 Q ⟨rfl,hE⟩
   obtain⟨x,I⟩:=cO Q;have lZ:=s.rc x (cv I);obtain⟨Tj,Y,V⟩:=s.rr.cB i x I;have h3:=V.fT g1 (o6.trans hE);rw[lZ.len.1] at h3;have n1:=OC (n:=11) g1 (z:=TB) rfl lZ.len.1 lZ.len.2;have kx:(g1++[bw x bf])[g1.length]?=a_ (.cells x bf):=af
   have lU:Ext g (g1++[bw x bf]):=hE.qU;obtain⟨nm,cq,i1,p1,cj,a,al,va,ex,b,cJ,rfl,Ek,_⟩:=lZ.at
   refine wy ?_;generalize g1++[bw _ bf]=g2 at kx lU⊢;have done:∀b:Bool,iH G bB 40 [b,(13:Int)] g2 (λr h'=>h'=g2) λch h'=>ch=AK 13/\h'=g2:=λb=>g_ (zu b 13 g2) (λr h' q=>q.2) λch h' q=>q.2;cases cj with
   |true=>
    refine wy (g_ (done _) ?_ ?_);rintro r g3 rfl;refine fJ ?_;exact⟨rfl,lU⟩;rintro ch g3 ⟨rfl,rfl⟩;exact bad 13 _ ag lU
   |false=>
    refine wy (g_ (done _) ?_ ?_);rintro r g3 rfl;refine fJ ?_;exact⟨rfl,lU⟩;rintro ch g3 ⟨rfl,rfl⟩;exact bad 13 _ ag lU
 rintro e g1 ⟨rfl,hE⟩;refine e6 @bq.eq_1 ?_;exact⟨trivial,hE⟩;rintro e g3 ⟨rfl,qw⟩;refine iO (λe g'=>e=[(1,.mp h.length 0),(10,.fn (.func 70) [] [.mp h.length 0])]/\g'=g3) ?_ ?_;exact wx tt;rintro e g4 ⟨rfl,rfl⟩;have al3:∀(g'),Ext g g'->∀w,cw G bB 70 [bu w,.mp h.length 0] g' λr h'=>jR r/\∃l,h'=g'++l:=λg' RI w=>aCo (s.ext (o6.trans RI)) (RI _ _ k1) w;refine iO (λe g'=>e=[(1,.mp h.length 0),(10,.fn (.func 70) [] [.mp h.length 0])]/\Ext g g') ?_ ?_;refine mI @s.pp.nl @s.rr.len ?_;refine c8 (λi e g'=>e=[(1,.mp h.length 0),(10,.fn (.func 70) [] [.mp h.length 0]),(99,bC),(100,bq rows.length),(101,bq i)]/\Ext g g') rows.length ⟨rfl,qw⟩ ?_ ?_;rintro i e g1 Q ⟨rfl,hE⟩;obtain⟨x,I⟩:=cO Q;have lZ:=s.rc x (cv I);obtain⟨Tj,Y,V⟩:=s.rr.cB i x I;have h3:=V.fT g1 (o6.trans hE);rw[lZ.len.1] at h3;have n1:=OC (n:=11) g1 (z:=TB) rfl lZ.len.1 lZ.len.2;have kx:(g1++[bw x bf])[g1.length]?=a_ (.cells x bf):=af
 have lU:Ext g (g1++[bw x bf]):=hE.qU;obtain⟨nm,cq,i1,p1,cj,a,al,va,ex,b,cJ,rfl,Ek,lE,_⟩:=lZ.at
 obtain⟨ms,Na,aym⟩:=lE;have NM:=Na.cG;rw[cS] at NM;refine wy ?_;refine wy ?_;refine c8 (λj e g'=>e=[(1,.mp h.length 0),(10,.fn (.func 70) [] [.mp h.length 0]),(99,bC),(100,bq rows.length),(101,bq i),(107,va),(108,bq ms.length),(109,bq j)]/\Ext g g') ms.length ⟨rfl,lU⟩ ?_ ?_;rintro j e g3 hj ⟨rfl,qw⟩;obtain⟨w,hw⟩:=cO hj;have e1:ct 1 va j=a_ (.fp [bu w] 0):=Na.cB (x:=bu w) aMo rfl;refine wy (cm (al3 g3 qw w) ?_);rintro r g4 ⟨⟨b,rfl⟩,l,rfl⟩;refine wy (g_ (zu _ 6 _) ?_ ?_);rintro r g5 ⟨_,rfl⟩;refine wx ?_;exact⟨rfl,qw.qU⟩;rintro ch g5 ⟨_,rfl,rfl⟩;exact bad 6 _ ag qw.qU;rintro e g3 ⟨rfl,qw⟩;refine e6 @bq.eq_1 ?_;exact⟨trivial,qw⟩;rintro e g1 ⟨rfl,hE⟩;refine e6 @bq.eq_1 ?_;exact⟨trivial,hE⟩;rintro e g5 ⟨rfl,awW⟩;refine mI @s.pp.nl @s.um.len ?_;refine c8 (λi e g'=>e=[(10,.fn (.func 70) [] [.mp h.length 0]),(122,mv),(123,bq marks.length),(124,bq i)]/\Ext g g') marks.length ⟨rfl,awW⟩ ?_ ?_;rintro i e g1 Q ⟨rfl,hE⟩;obtain⟨x,I⟩:=cO Q;have lZ:=s.ia x (cv I);obtain⟨Tj,Y,V⟩:=s.um.cB i x I;have h3:=V.fT g1 (o6.trans hE);rw[lZ.ok.1] at h3;have n1:=OC (n:=4) g1 (z:=gy) rfl lZ.ok.1 lZ.ok.2.1;have kx:(g1++[bw x bf])[g1.length]?=a_ (.cells x bf):=af
 have lU:Ext g (g1++[bw x bf]):=hE.qU;obtain⟨nm,v,al,bv,rfl,xK⟩:=lZ;obtain⟨ms,Na,aym⟩:=xK;have NM:=Na.cG;rw[cS] at NM;refine rF ?_;generalize g1++[bw _ bf]=g2 at kx lU⊢;generalize g1.length=m at kx⊢;have Sz:bz g2 bf 1 (.mp m 3)=a_ bv:=by simp only[bz,kx];rfl
 refine wx ?_;refine c8 (λj e g'=>e=[(10,.fn (.func 70) [] [.mp h.length 0]),(122,mv),(123,bq marks.length),(124,bq i),(129,bv),(130,bq ms.length),(131,bq j)]/\Ext g g') ms.length ⟨rfl,lU⟩ ?_ ?_;rintro j e g3 hj ⟨rfl,qw⟩;obtain⟨w,hw⟩:=cO hj;have e1:ct 1 bv j=a_ (.fp [bu w] 0):=Na.cB (x:=bu w) aMo rfl;refine wy (cm (al3 g3 qw w) ?_);rintro r g4 ⟨⟨b,rfl⟩,l,rfl⟩;refine wy (g_ (zu _ 6 _) ?_ ?_);rintro r g5 ⟨_,rfl⟩;refine wx ?_;exact⟨rfl,qw.qU⟩;rintro ch g5 ⟨_,rfl,rfl⟩;exact bad 6 _ ag qw.qU;rintro e g3 ⟨rfl,qw⟩;refine e6 @bq.eq_1 ?_;exact⟨trivial,qw⟩;rintro e g1 ⟨rfl,hE⟩;refine e6 @bq.eq_1 ?_;exact⟨(o6.trans hE).split,rZ⟩
end
section
variable{i j o:Nat}{b':br}{x:List bg}{y:bg}
structure pQ(ks bZ:Nat)(bC mv:bg)(rows marks:List (List bg))(h:List br):Prop where
 b:h[ks]?=a_ (.cells [bC,mv] bf)
 r:kg 11 h bZ bC rows
 m:sG mv marks
 rc:∀x∈rows,pR x
 ia:∀x∈marks,om x
 rl:rows.length<=24
 ml:marks.length<=8
section
variable{ks bZ:Nat}{bC mv:bg}{rows marks:List (List bg)}{h:List br}
def pQ.A(s:pQ ks bZ bC mv rows marks h):tO h (.mp ks 0) bC mv rows marks:=⟨uM.mp s.b,oV.row s.r,oV.slc h s.m λx I=>(s.ia x I).ok.1,s.rc,s.ia,s.rl,s.ml⟩
def pQ.ext{h'}(s:pQ ks bZ bC mv rows marks h)(he:Ext h h'):pQ ks bZ bC mv rows marks h':=⟨he _ _ s.b,s.r.keep λZ q=>he _ _ q,s.m,s.rc,s.ia,s.rl,s.ml⟩
def pQ.set(s:pQ ks bZ bC mv rows marks h)(Y:j≠ks)(V:j≠bZ):pQ ks bZ bC mv rows marks (h.set j b'):=⟨by rw[bE Y];exact s.b,s.r.keep λZ q=>by rw[bE V];exact q,s.m,s.rc,s.ia,s.rl,s.ml⟩
def pQ.ne(s:pQ ks bZ bC mv rows marks h):ks≠bZ:=by
 rintro rfl;have V:=s.r.b;rw[s.b] at V;simp at V
def pQ.write(s:pQ ks bZ bC mv rows marks h)(I:rows[i]?=a_ x)(ho:o+1<=11)(hy:y.cells=[y])(Y:cu y=bh)(D:pR (d_ x o [y])):
  bL h 1 (.rp bZ rows.flatten.length (i*11+o)) y=a_ (h.set bZ (.cells (rows.set i (d_ x o [y])).flatten bh))/\pQ ks bZ bC mv (rows.set i (d_ x o [y])) marks (h.set bZ (.cells (rows.set i (d_ x o [y])).flatten bh)):=by
 obtain⟨q1,bt⟩:=s.r.st I (by rw[hy];rfl) ho (by rw[hy];simp[Y]);rw[hy] at q1 bt;refine⟨q1,⟨by rw[bE (e3 s.ne)];exact s.b,bt,s.m,λz hz=>?_,s.ia,by rw[wY];exact s.rl,s.ml⟩⟩
 rcases UK hz with q|rfl
 exact s.rc z q;exact D
end
structure mK(ks bZ i m n:Nat)(bC mv:bg)(marks:List (List bg))(N:Nat)(h0:List br)(rows:List (List bg))(g:List br):Prop where
 s:pQ ks bZ bC mv rows marks g
 kp:∀(j:Nat) b,j≠bZ->h0[j]?=a_ b->g[j]?=a_ b
 le:h0.length<=g.length
 b2:g[n]?=a_ (.cells [.mp ks 0] bf)
 b3:g[n+1]?=a_ (.cells [.rp bZ m (i*11)] bf)
 hn:h0.length<=n
 len:rows.length=N
 hm:rows.flatten.length=m
 lt:ks<h0.length/\bZ<h0.length/\i<N
section
variable{ks bZ i m n:Nat}{bC mv:bg}{marks:List (List bg)}{N:Nat}{h0:List br}{rows:List (List bg)}{g:List br}
def mK.ext{g'}(c:mK ks bZ i m n bC mv marks N h0 rows g)(he:Ext g g'):mK ks bZ i m n bC mv marks N h0 rows g':=
 ⟨c.s.ext he,λj b hj q=>he _ _ (c.kp j b hj q),iz c.le he.len,he _ _ c.b2,he _ _ c.b3,c.hn,c.len,c.hm,c.lt⟩
def mK.set(c:mK ks bZ i m n bC mv marks N h0 rows g)(hj:n+2<=j):mK ks bZ i m n bC mv marks N h0 rows (g.set j b'):=by
 have:=c.lt;have:=c.hn;refine⟨c.s.set aa aa,λj' b ud q=>?_,by simpa using c.le,?_,?_,c.hn,c.len,c.hm,c.lt⟩;have:=gl q;rw[bE aa];exact c.kp j' b ud q;rw[bE aa];exact c.b2;rw[bE aa];exact c.b3
@[go_sem]def mK.at(c:mK ks bZ i m n bC mv marks N h0 rows g):∃x,rows[i]?=a_ x/\pR x/\∀o y,x[o]?=a_ y->bz g bf 1 (.rp bZ m (i*11+o))=a_ y:=by
 have hl:i<rows.length:=by rw[c.len];exact c.lt.2.2
 refine⟨rows[i],cy hl,c.s.rc _ (Pp hl),λo y hy=>?_⟩;have I:=cy hl;have Y:=(c.s.r.each _ (Pp hl)).1;have:=c.s.r.iW I (by have:=(gl hy);omega) hy
 rwa [c.hm] at this
def mK.write(c:mK ks bZ i m n bC mv marks N h0 rows g)(I:rows[i]?=a_ x)(ho:o+1<=11)(hy:y.cells=[y])(Y:cu y=bh)(D:pR (d_ x o [y])):
  ∃jv g',bL g 1 (.rp bZ m (i*11+o)) y=a_ g'/\mK ks bZ i m n bC mv marks N h0 jv g'/\∀(j) b,j≠bZ->g[j]?=a_ b->g'[j]?=a_ b:=by
 obtain⟨q1,bt⟩:=c.s.write I ho hy Y D;rw[c.hm] at q1;have cX:=c.lt;have hn:=c.hn;have kp:∀(j) b,j≠bZ->g[j]?=a_ b->(g.set bZ (.cells (rows.set i (d_ x o [y])).flatten bh))[j]?=a_ b:=λj b hj q=>aMF
 refine⟨_,_,q1,⟨bt,λj b hj q=>kp j b hj (c.kp j b hj q),by simpa using c.le,kp _ _ aa c.b2,kp _ _ aa c.b3,c.hn,by rw[wY];exact c.len,?_,c.lt⟩,kp⟩;rw[D3 bt.r.each,wY,<-D3 c.s.r.each];exact c.hm
def mK.fin{g2}(c:mK ks bZ i m n bC mv marks N h0 rows g)(he:og h0.length g g2):mK ks bZ i m n bC mv marks N h0 rows g2:=by
 have kc:∀(j:Nat) Z fz,g[j]?=a_ (.cells Z fz)->g2[j]?=a_ (.cells Z fz):=λj Z fz q=>by
  rcases he.2 j with z|⟨_,z,_⟩
  rw[z];exact q;rw[z] at q;cases q
 refine⟨⟨kc _ _ _ c.s.b,c.s.r.keep λZ q=>kc _ _ _ q,c.s.m,c.s.rc,c.s.ia,c.s.rl,c.s.ml⟩,λj b hj q=>?_,by rw[he.1];exact c.le,kc _ _ _ c.b2,kc _ _ _ c.b3,c.hn,c.len,c.hm,c.lt⟩;have lW:=gl q
 rcases he.2 j with z|⟨z,_,_⟩
 rw[z];exact c.kp j b hj q;omega
end
@[go_sem]def aaF(h:o<x.length):d_ x o [y]=x.set o y:=by
 unfold d_;rw[qg,arD,if_pos h,dQ];rfl
def U4(ks bZ:Nat)(bC mv:bg)(marks:List (List bg))(N:Nat)(h0 h':List br):Prop:=∃rows,pQ ks bZ bC mv rows marks h'/\rows.length=N/\h0.length<=h'.length/\∀(j:Nat) b,j≠bZ->h0[j]?=a_ b->h'[j]?=a_ b
def mK.q{ks bZ i m n}{bC mv}{marks}{N}{h0}{rows}{g}(c:mK ks bZ i m n bC mv marks N h0 rows g):U4 ks bZ bC mv marks N h0 g:=⟨rows,c.s,c.len,c.le,c.kp⟩
def ac_(ks bZ:Nat)(bC mv:bg)(marks:List (List bg))(N:Nat)(h0:List br)(ch:List PanicEntry)(h':List br):Prop:=∃e,e≠0/\ch=AK e/\U4 ks bZ bC mv marks N h0 h'
section
variable{G:Cells}
def aut(cE:gk G){ks bZ}{bC mv}{rows marks}{h}(s:pQ ks bZ bC mv rows marks h)(Q:i<rows.length):
  iH G bB 42 [.mp ks 0,.rp bZ rows.flatten.length (i*11)] h (λr h'=>U4 ks bZ bC mv marks rows.length h h') (ac_ ks bZ bC mv marks rows.length h):=by
 refine alC.AT ?_;have c0:(cU ks 0).cells=[.mp ks 0]:=rfl;have c1:(bg.rp bZ rows.flatten.length (i*11)).cells=[.rp bZ rows.flatten.length (i*11)]:=rfl;have AV:mK ks bZ i rows.flatten.length h.length bC mv marks rows.length h rows (h++[bw [cU ks 0] bf]++[bw [bg.rp bZ rows.flatten.length (i*11)] bf]):=
  ⟨(s.ext mg).ext mg,λj b _ q=>bS (bS q),af,af,aMb,cc _,rfl,rfl,gl s.b,gl s.r.b,Q⟩
 generalize rows.length=N at AV⊢;generalize ayk:rows.flatten.length=m at AV c1⊢;have gw:∀(e) (g),e≠0->(∃jv,mK ks bZ i m h.length bC mv marks N h jv g)->∀bl,og h.length g bl->ac_ ks bZ bC mv marks N h (AK e) bl:=λe g he ⟨jv,T⟩ bl D=>⟨e,he,rfl,(T.fin D).q⟩;refine eN (λe g=>e=[(2,.mp h.length 0),(3,.mp (h.length+1) 0)]/\g=h++[bw [cU ks 0] bf]++[bw [bg.rp bZ m (i*11)] bf]) ?_ ?_;refine C_ @c0 @c1 @ek.{0} @eZ.{0} @iG.{0} @gi ?_;exact⟨trivial,trivial⟩;rintro e g ⟨rfl,rfl⟩;generalize h++[bw [cU ks 0] bf]++[bw [bg.rp bZ m (i*11)] bf]=g at AV⊢;clear ayk s Q;obtain⟨x,I,lZ,s5⟩:=AV.at
 obtain⟨nm,cq,i1,p1,cj,a,al,va,ex,b,cJ,rfl,Ek,lE,XP,aK1⟩:=lZ.at
 have l4:=s5 4 _ rfl;have Bp:=s5 8 _ rfl;have Kc:vN (.rp bZ m (i*11))=a_ (.rp bZ m (i*11)):=rfl;have Je:∀o,lM o (.rp bZ m (i*11))=a_ (.rp bZ m (i*11+o)):=λo=>rfl;have W0:∀o,lM o (.rp bZ m (i*11+0))=a_ (.rp bZ m (i*11+o)):=λo=>rfl;cases cj with
 |true=>
  refine qK (ff AV.b3) @Kc @Je @W0 @l4 ?_;rw[BB];intro bl he;exact fJ ((AV.fin he).q)
 |false=>
  refine iO (λe g'=>e=[(2,.mp h.length 0),(3,.mp (h.length+1) 0)]/\g'=g) ?_ ?_;exact qK (ff AV.b3) @Kc @Je @W0 @l4 tt;rintro e g' ⟨rfl,rfl⟩;refine eN (λe uV=>∃v ps,e=[(2,.mp h.length 0),(3,.mp (h.length+1) 0),(4,v)]/\tM v ps/\uV=g') ?_ ?_;refine qK (ff AV.b3) @Kc @Je @W0 @Bp ?_;refine eo (aas cE ex aa) ?_;rintro r ⟨v,Ti,xF,rfl,hq⟩;obtain⟨ps,hE⟩:∃ps,tM v ps:=by
   rcases hq with⟨_,_,ps,hE⟩|⟨_,rfl⟩
   exact⟨ps,hE⟩;exact⟨[],bF ⟨rfl,rfl⟩,λi p h=>au,ag,af⟩
  refine e6 @bq.eq_1 ?_;exact⟨v,ps,rfl,hE,trivial⟩;rintro e uV ⟨v,ps,rfl,hE,rfl⟩;have hz:[cR (.int .u64 0),.v (.int .u64 0),.v (.int .u64 0),.v (.int .u64 0)]=bX 0:=by simp[bX,ec,wd]
  have aih:h.length+2<=uV.length:=by have:=(gl AV.b3);omega
  have AW:=AV.ext (g':=uV++[bw (bX 0) bf]) mg;have s7:(uV++[bw (bX 0) bf])[uV.length]?=a_ (.cells (bX 0) bf):=af
  refine eN (λe g'=>e=[(2,.mp h.length 0),(3,.mp (h.length+1) 0),(4,v),(7,.mp uV.length 0)]/\g'=uV++[bw (bX 0) bf]) ?_ ?_;exact e6 @hz tt;rintro e g1 ⟨rfl,rfl⟩;generalize Ye:uV.length=m7 at aih s7⊢;generalize uV++[bw (bX 0) bf]=g1 at AW s7⊢;refine eN (λe g'=>e=[(2,.mp h.length 0),(3,.mp (h.length+1) 0),(4,v),(7,.mp m7 0),(8,.fn (.func 73) [.mp ks 0] [])]/\g'=g1) ?_ ?_;exact e6 (ff AW.b2) tt;rintro e g2 ⟨rfl,rfl⟩;refine iO (λe g'=>∃A jv,e=[(2,.mp h.length 0),(3,.mp (h.length+1) 0),(4,v),(7,.mp m7 0),(8,.fn (.func 73) [.mp ks 0] [])]/\mK ks bZ i m h.length bC mv marks N h jv g'/\g'[m7]?=a_ (.cells (bX A) bf)) ?_ ?_;refine fJ (jE (am3 hE) (bY (Ga hE) dw) ?_);rintro r ⟨l,hl,oz,u7⟩;have ln:=hl.cG;rw[cS] at ln;have l5:∀J,cG r J=a_ (.v (.int .i64 (l.length:Int)),J):=λJ=>aL0
  have wo:=hE.len;refine e6 @l5 ?_;refine c8 (λj e g'=>∃A jv,e=[(2,.mp h.length 0),(3,.mp (h.length+1) 0),(4,v),(7,.mp m7 0),(8,.fn (.func 73) [.mp ks 0] []),(35,r),(36,bq l.length),(37,bq j)]/\mK ks bZ i m h.length bC mv marks N h jv g'/\g'[m7]?=a_ (.cells (bX A) bf)) l.length ⟨0,_,rfl,AW,s7⟩ ?_ ?_;rintro j e g3 hj ⟨A,jv,rfl,hC,s7⟩;obtain⟨w,hw⟩:=cO hj;have e1:ct 1 r (.v (.int .i64 (j)))=a_ (.fp [bu w] 0):=hl.cB (x:=bu w) aMo rfl;refine C_ @bq.eq_1 @e1 @xJ @gM.{0} @gB.{0} @gV.{0} ?_;refine cm (amQ hC.s.A w) ?_;rintro _ g4 ⟨B,lx,rfl,rfl⟩;have n1:=VQ (g3++lx) B;have AX:=(hC.ext mg).ext (g':=g3++lx++[bw (bX B) bf]) mg;have Sn:(g3++lx++[bw (bX B) bf])[m7]?=a_ (.cells (bX A) bf):=bS (bS s7);have JX:(g3++lx++[bw (bX B) bf])[(g3++lx).length]?=a_ (.cells (bX B) bf):=af
  have fz:dN [.v (.int .u64 0),.v (.int .u64 0),.v (.int .u64 0),.v (.int .u64 0)] []=a_ (bX 0):=by rw[hz];rfl
  obtain⟨F3,Rz⟩:∃b:Bool,pT [.i,.i,.i,.i] bh (cg B) (.agg (bX 0))=a_ (.v (.bool b)):=by
   obtain⟨d,hd⟩:=WD B 0;refine⟨bh !=d,?_⟩;show(fj [.i,.i,.i,.i] (cg B).cells (cg 0).cells).map (λr=>cR (.bool (bh !=r)))=_;rw[hd];rfl
  refine e6 @n1 ?_;generalize(g3++lx).length=aLh at JX⊢;generalize g3++lx++[bw (bX B) bf]=g5 at AX Sn JX⊢;refine jB (Ax JX) @fz @Rz (g_ (zu F3 6 g5) ?_ ?_);rintro r2 g6 ⟨_,rfl⟩;refine nc (Ax JX) (Ax Sn) (ic (Ki A B) (bY (mz _) (bY (mz _) dw)) ?_);refine e6 (LR Sn (A|||B)) ?_;exact⟨A|||B,jv,rfl,AX.set aih,bT (gl Sn)⟩;rintro ch g6 ⟨_,rfl,rfl⟩;exact gw 6 _ ag ⟨jv,AX⟩;rintro e g3 ⟨A,jv,rfl,hC,s7⟩;refine e6 @bq.eq_1 ?_;exact⟨A,jv,trivial,hC,s7⟩;rintro e g3 ⟨A,HT,rfl,ahJ,alx⟩;have ahK:=ahJ.ext (g':=g3++[bw [.v (.bool bf)] bf]) mg;have aly:(g3++[bw [.v (.bool bf)] bf])[m7]?=a_ (.cells (bX A) bf):=bS alx;have JY:(g3++[bw [.v (.bool bf)] bf])[g3.length]?=a_ (.cells [.v (.bool bf)] bf):=af
  have aD3:=TU g3 (.v (.bool bf)) (x:=.v (.bool bf)) rfl rfl;have aie:h.length+2<=g3.length:=by have:=(gl ahJ.b3);omega
  refine eN (λe g'=>e=[(2,.mp h.length 0),(3,.mp (h.length+1) 0),(4,v),(7,.mp m7 0),(8,.fn (.func 73) [.mp ks 0] []),(12,.mp g3.length 0)]/\g'=g3++[bw [.v (.bool bf)] bf]) ?_ ?_;exact e6 @aD3 tt;rintro e g4 ⟨rfl,rfl⟩;have ayi:m7<g3.length:=gl alx;generalize aKR:g3.length=zp at JY aie ayi⊢;generalize g3++[bw [.v (.bool bf)] bf]=g4 at ahK aly JY⊢;refine eN (λe g'=>∃jv c,e=[(3,.mp (h.length+1) 0),(4,v),(8,.fn (.func 73) [.mp ks 0] []),(12,.mp zp 0)]/\mK ks bZ i m h.length bC mv marks N h jv g'/\g'[zp]?=a_ (.cells [.v (.bool c)] bf)) ?_ ?_
  · refine e6 (Ax aly) (cm (LK A _) ?_)
    rintro _ g5 ⟨rfl,rfl⟩;refine fJ ?_;rw[zR];refine⟨_,_,_,rfl,λk S bU ok hR=>?_⟩;have vZ:=((ahK.ext mg).ext mg).ext (g':=g4++[bw (bX A) bf]++K2 bf++[pI .ready bn bU #[54] ok]) mg;have ahv:(g4++[bw (bX A) bf]++K2 bf++[pI .ready bn bU #[54] ok])[k]?=a_ (.b8 .ready bn bU #[54] ok):=by rw[S];simp[K2]
    have ahw:(g4++[bw (bX A) bf]++K2 bf++[pI .ready bn bU #[54] ok])[g4.length]?=a_ (.cells (bX A) bf):=bS (bS af);have Nz:(g4++[bw (bX A) bf]++K2 bf++[pI .ready bn bU #[54] ok])[zp]?=a_ (.cells [.v (.bool bf)] bf):=bS (bS (bS JY));have kl:h.length+2<=k:=by
     have:=gl JY;rw[S];simp;omega
    show cw _ _ _ _ (g4++[bw (bX A) bf]++K2 bf++[pI .ready bn bU #[54] ok]) _;generalize g4++[bw (bX A) bf]++K2 bf++[pI .ready bn bU #[54] ok]=X at vZ ahv ahw Nz⊢;refine cm (LL cE (Stop:=λ_=>False) (Inv:=λdone g=>∃jv c,mK ks bZ i m h.length bC mv marks N h jv g/\g[zp]?=a_ (.cells [.v (.bool c)] bf)/\g[k]?=a_ (.b8 .ready bn bU #[54] ok)) ?_ ahw ⟨_,bf,vZ,Nz,ahv⟩) ?_
    · rintro done q g6 ⟨OD,gT,Xk,NA,wh⟩ iC ayB
      refine hR [_] g6 _ rfl ⟨bn,wh⟩ ?_;have se:ux [(2,cU h.length 0),(3,cU (h.length+1) 0),(4,v),(8,bg.fn (.func 73) [.mp ks 0] []),(12,cU zp 0),(53,bg.fn (uD 137) [] [cU g4.length 0])] (List.zip [54] [cR (yt cN (q))])=[(54,cR (yt cN (q))),(2,cU h.length 0),(3,cU (h.length+1) 0),(4,v),(8,bg.fn (.func 73) [.mp ks 0] []),(12,cU zp 0),(53,bg.fn (uD 137) [] [cU g4.length 0])]:=rfl;rw[se];refine fJ ?_;refine⟨⟨bn,wh⟩,λfW=>?_⟩;have ZX:k≠zp:=by rintro rfl;rw[NA] at wh;cases wh
      have D9:=Xk.set (b':=.b8 .busy fW bU #[54] ok) kl;have Sh:(g6.set k (.b8 .busy fW bU #[54] ok))[zp]?=a_ (.cells [.v (.bool gT)] bf):=by rw[bE ZX];exact NA
      have M4:(g6.set k (.b8 .busy fW bU #[54] ok))[k]?=a_ (.b8 .busy fW bU #[54] ok):=bT (gl wh);generalize g6.set k (.b8 .busy fW bU #[54] ok)=g7 at D9 Sh M4⊢;have fin:∀(g8) aa2 ij,mK ks bZ i m h.length bC mv marks N h aa2 g8->g8[zp]?=a_ (.cells [.v (.bool ij)] bf)->g8[k]?=a_ (.b8 .busy fW bU #[54] ok)->
        (∃st pd,g8[k]?=a_ (.b8 st pd bU #[54] ok))/\∃c:Bool,cR (.bool bh)=.v (.bool c)/\(c=bh->∃jv c,mK ks bZ i m h.length bC mv marks N h jv (g8.set k (.b8 .ready bn bU #[54] ok))/\(g8.set k (.b8 .ready bn bU #[54] ok))[zp]?=a_ (.cells [.v (.bool c)] bf)/\(g8.set k (.b8 .ready bn bU #[54] ok))[k]?=a_ (.b8 .ready bn bU #[54] ok))/\(c=bf->False):=λg8 aa2 ij Y V h3=>
       ⟨⟨.busy,fW,h3⟩,bh,rfl,λ_=>⟨aa2,ij,Y.set kl,by rw[bE ZX];exact V,bT (gl h3)⟩,λz=>by cases z⟩
      refine e6 (ff D9.b2) (cm (azG D9.s.A (q)) ?_);rintro r g8 ⟨⟨b,rfl⟩,rfl⟩;cases b with
      |true=>
       obtain⟨x,I,lZ,_⟩:=D9.at
       have r0:pR (d_ x 9 [.v (.bool bh)]):=by
        obtain⟨y,b,cJ,rfl,hy,ht⟩:=lZ;obtain⟨h9,_⟩:=hy.ok;refine⟨y,bh,cJ,?_,hy,ht⟩;rw[aaF ah,arC _ _ aa,h9];rfl
       obtain⟨aoI,g9,tU,Xl,Zb⟩:=D9.write I ag rfl rfl r0;refine mH (ff D9.b3) @Kc @Je @tU ?_;have Bu:bZ≠zp/\bZ≠k:=by
        have:=D9.lt;exact⟨aa,aa⟩
       exact fin g9 aoI gT Xl (Zb _ _ (e3 Bu.1) Sh) (Zb _ _ (e3 Bu.2) M4)
      |false=>
       have aGm:=rC (w:=.v (.bool bh)) rfl Sh;exact e6 @aGm (fin _ OD bh (D9.set aie) (bT (gl Sh)) (by rw[bE (e3 ZX)];exact M4))
    rintro r g6 ⟨rfl,⟨OD,gT,Xk,NA,wh⟩|hf⟩;refine⟨.ready,bn,wh,ag,?_⟩;refine e6 @zj.eq_1 ?_;exact⟨OD,gT,trivial,Xk.set kl,by rw[bE (by rintro rfl;rw[NA] at wh;cases wh)];exact NA⟩;exact hf.elim
  rintro e g5 ⟨aLA,c5,rfl,vZ,Nz⟩;refine iO (λe g'=>e=[(3,.mp (h.length+1) 0),(4,v),(8,.fn (.func 73) [.mp ks 0] [])]/\g'=g5) ?_ ?_
  · have done:∀b:Bool,iH G bB 40 [.v (.bool b),.v (.int .i64 13)] g5 (λr h'=>h'=g5) λch h'=>ch=AK 13/\h'=g5:=λb=>g_ (zu b 13 g5) (λr h' q=>q.2) λch h' q=>q.2
    obtain⟨x,I,lZ,s5⟩:=vZ.at
    obtain⟨nm,cq,i1,p1,cj,a,al,va,ex,b,cJ,rfl,_⟩:=lZ.at
    have xZ:=s5 9 _ rfl;cases c5 with
    |true=>
     refine qK (ff Nz) (ff vZ.b3) @Kc @Je @xZ (g_ (done _) ?_ ?_);rintro r g6 rfl;exact fJ tt;rintro ch g6 ⟨rfl,rfl⟩;exact gw 13 _ ag ⟨_,vZ⟩
    |false=>
     refine e6 (ff Nz) (g_ (done _) ?_ ?_);rintro r g6 rfl;exact fJ tt;rintro ch g6 ⟨rfl,rfl⟩;exact gw 13 _ ag ⟨_,vZ⟩
  rintro e g6 ⟨rfl,rfl⟩;refine eN (λe g'=>∃ef f,e=[(3,.mp (h.length+1) 0),(14,ef),(15,.v (.int .i64 f))]/\((f=0/\Lp ef)\/f≠0)/\g'=g6) ?_ ?_;refine fJ (cm (aEf cE hE (aDV vZ.s.A) λneg=>aMp) ?_);rintro r g7 ⟨⟨ef,f,rfl,hq⟩,rfl⟩;refine e6 @bq.eq_1 ?_;exact⟨ef,f,rfl,hq.imp id λz=>z.1,trivial⟩;rintro e g7 ⟨ef,f,rfl,Eu,rfl⟩;refine iO (λe g'=>e=[(3,.mp (h.length+1) 0),(14,ef)]/\g'=g7/\Lp ef) ?_ ?_;refine fJ (g_ (zu _ f g7) ?_ ?_);rintro r g8 ⟨hf,rfl⟩;have axD:f=0:=aNP
  refine fJ ?_;exact⟨trivial,trivial,Eu.elim (λz=>z.2) λz=>absurd axD z⟩;rintro ch g8 ⟨hf,rfl,rfl⟩;exact gw f _ aNP ⟨_,vZ⟩;rintro e g8 ⟨rfl,rfl,hN⟩;have jF:eY ef:=by
   obtain⟨on,cz,bx,bv,F,E,e,rfl,ho,O,_⟩:=hN;exact afu ho O
  refine eN (λe g'=>∃tab f,e=[(3,.mp (h.length+1) 0),(15,.v (.int .i64 f)),(16,tab)]/\((f=0/\BX tab)\/f≠0)/\g'=g8) ?_ ?_;refine fJ ?_;refine eo (aEh cE hN) ?_;rintro r ⟨tab,f,rfl,hq⟩;refine e6 @bq.eq_1 ?_;exact⟨tab,f,rfl,hq.imp id λz=>z.1,trivial⟩;rintro e g9 ⟨tab,f,rfl,ayV,rfl⟩;refine iO (λe g'=>e=[(3,.mp (h.length+1) 0),(16,tab)]/\g'=g9/\BX tab) ?_ ?_;refine fJ (g_ (zu _ f g9) ?_ ?_);rintro r g8 ⟨hf,rfl⟩;refine fJ ?_;exact⟨trivial,trivial,ayV.elim (λz=>z.2) λz=>absurd aNP z⟩;rintro ch g8 ⟨hf,rfl,rfl⟩;exact gw f _ aNP ⟨_,vZ⟩;rintro e avR ⟨rfl,rfl,hT⟩;obtain⟨x,I,lZ,_⟩:=vZ.at
  have r0:pR (d_ x 10 [tab]):=by
   obtain⟨y,b,cJ,rfl,hy,ht⟩:=lZ;obtain⟨h9,_⟩:=hy.ok;refine⟨y,b,tab,?_,hy,bF hT⟩;rw[aaF ah,arC _ _ aa,h9];rfl
  have Nn:tab.cells=[tab]/\cu tab=bh:=by
   obtain⟨rows,rfl,_⟩:=hT;exact⟨rfl,rfl⟩
  obtain⟨aoI,aKi,tU,Xl,Zb⟩:=vZ.write I ag Nn.1 Nn.2 r0;refine mH (ff vZ.b3) @Kc @Je @tU ?_;rw[aaY];intro bl he;exact fJ ((Xl.fin he).q)
end
end
section
variable{x:List bg}{g h J:List br}{ks:Nat}{mv oF v0 v1:bg}{marks rows:List (List bg)}{e:Int}
def Iz(x:bg):Prop:=∃(bC mv:bg) (rows marks:List (List bg)),x=.fp [bC,mv] 0/\cD bC (rows.map dG)/\cD mv (marks.map dG)/\(∀x∈rows,pR x)/\(∀x∈marks,om x)/\0<rows.length/\rows.length<=24/\marks.length<=8
def PW(r:bg):Prop:=∃(x:bg) (e:Int),r=.bQ [x,bq e]/\((e=0/\Iz x)\/(e≠0/\x=.v (.pointer bn)))
def BX.fz{x}(h:BX x)(J):b_ J x x:=by
 obtain⟨rows,rfl,D,_⟩:=h;refine b_.fp (bG (hD (iE λr kr=>?_)) c_);obtain⟨l,b,rfl,_⟩:=D r kr;exact j0 (BO (iE λn _=>bH _) (bG (bH _) c_))
def vE.Mr(h:vE x)(J):fC J x x:=by
 obtain⟨nm,cq,i,p,cj,a,al,mv,ex,rfl,hg,hm,_⟩:=h;exact bG (bH _) (bG (hg.fz J) (bG (bH _) (bG (bH _) (bG (bH _) (bG (bH _) (bG (bH _) (bG (hm.fz J) (bG (bH _) c_))))))))
def pR.Mr(h:pR x)(J):fC J x x:=by
 obtain⟨y,b,cJ,rfl,hy,ht⟩:=h;refine BO (hy.Mr J) (bG (bH _) (bG ?_ c_))
 rcases ht with rfl|ht
 exact bH _;exact ht.fz J
def ahl:∀{ls:List (List bg)},(∀x∈ls,fC J x x)->fC J ls.flatten ls.flatten
 |[],_=>c_
 |x::r,h=>by
  rw[yx];exact BO (h x (wZ ..)) (ahl λy hy=>h y (sw _ hy))
def aF4{v}{xs}(h:sG v xs)(I:∀x∈xs,b_ J (.agg x) (.agg x)):∃v',b_ J v v'/\cD v' (xs.map dG):=by
 rcases h with⟨rfl,rfl⟩|⟨t,rfl⟩
 exact⟨_,eB,bF ⟨rfl,rfl⟩⟩;exact⟨_,hD (iE I),bD rfl⟩
def aGC{bZ}{bC}(s:pQ ks bZ bC mv rows marks h)(h0:0<rows.length):∃n bR,dh h n (.bQ [.mp ks 0,(0:Int)])=a_ bR/\PW bR:=by
 have V:=b_.rs (sz:=11) (o:=0) (len:=rows.length) s.r.b rfl (ahl λx I=>(s.rc x I).Mr h);have e:=Q7 [] s.r.each;rw[gM,show([]:List bg).length=0 from rfl] at e;rw[e,<-s.r.v] at V;obtain⟨n7,b9,z2⟩:=aF4 s.m λx I=>(s.ia x I).fz h;obtain⟨n,hn⟩:=(fy (bG (b_.mp s.b (bG V (bG b9 c_))) (bG (bH (.int .i64 0)) c_)):b_ h (.bQ [.mp ks 0,(0:Int)]) _).done;exact⟨n,_,hn,_,0,rfl,bD ⟨rfl,_,n7,rows,marks,rfl,bD rfl,z2,s.rc,s.ia,h0,s.rl,s.ml⟩⟩
def aGB(he:e≠0):∃n bR,dh J n (.bQ [.v (.pointer bn),e])=a_ bR/\PW bR:=by
 obtain⟨n,hn⟩:=(fy (bG (bH (.pointer bn)) (bG (bH (.int .i64 e)) c_)):b_ J _ _).done;exact⟨n,_,hn,_,e,rfl,bF ⟨he,rfl⟩⟩
section
variable{G:Cells}{J:List br}{K:List br->Prop}
def aCE(h:K J):kW G bB 38 [.mp 0 0,.mp 1 0] J bn K:=by
 refine YX.QJ (x:=bn) trivial ?_;have e1:kR .eE bh (qE bn) (.v .nilIface)=a_ (.v (.bool bf)):=rfl;exact wy h
def avX(h0:J[0]?=a_ (.cells [v0] bf))(Y:J[1]?=a_ (.cells [v1] bf))
  (h:∀bl:List br,bl[0]?=a_ (.cells [.v (.pointer bn)] bf)->bl[1]?=a_ (.cells [bq e] bf)->K bl):
  kW G bB 38 [.mp 0 0,.mp 1 0] J (a_ (.iface 89 (.agg #[.int .i64 e]))) K:=by
 refine YX.QJ (x:=a_ (.eE 89 (.agg [.v (.int .i64 e)]))) ⟨rfl,rfl⟩ ?_;have e1:kR .eE bh (qE (a_ (.eE 89 (.agg [.v (.int .i64 e)])))) (.v .nilIface)=a_ (.v (.bool bh)):=rfl;have t1:IX 89 (.agg [.v (.int .i64 0)]) bh (qE (a_ (.eE 89 (.agg [.v (.int .i64 e)]))))=a_ (.bQ [.agg [.v (.int .i64 e)],.v (.bool bh)]):=rfl;have s1:bL (J++[.cells [.v (.int .i64 0)] bf]) 1 (.mp J.length 0) (.agg [.v (.int .i64 e)])=a_ (J++[.cells [.v (.int .i64 e)] bf]):=by
  simp only[bL,gh (cc _),ni,nL,fD];simp[jD,cu,d_]
 have q0:(J++[bw [.v (.int .i64 e)] bf])[0]?=a_ (.cells [v0] bf):=bS h0;have q1:(J++[bw [.v (.int .i64 e)] bf])[1]?=a_ (.cells [v1] bf):=bS Y;have Bx:(J++[bw [.v (.int .i64 e)] bf])[J.length]?=a_ (.cells [.v (.int .i64 e)] bf):=af
 have cX:=gl Y;refine rF ?_;generalize J++[bw [.v (.int .i64 e)] bf]=g at q0 q1 Bx⊢;generalize J.length=m at Bx cX⊢;have z0:=rC (w:=.v (.pointer bn)) rfl q0;have b9:=rC (k:=1) (g:=g.set 0 (.cells [.v (.pointer bn)] bf)) (w:=.v (.int .i64 e)) rfl (by rw[bE aa];exact q1);have y0:=ff Bx;have y1:bz (g.set 0 (.cells [.v (.pointer bn)] bf)) bf 1 (.mp m 0)=a_ (.v (.int .i64 e)):=ff (by rw[bE aa];exact Bx);have hg:=gl q1;refine nI @y0 @z0 @b9 @y1 @ru (h _ ?_ ?_);rw[bE ag,bT aa];rw[bT ah];rfl
end
section
variable{G:Cells}
def aF5(I:x.length=11/\x.all cu=bh):ql h 11 120 106 .bp (.sl [.agg x] .exact)=a_ (.rs h.length [x].flatten.length 11 0 1,h++[.cells [x].flatten bh]):=by
 have ok:cY 11 [dG x]=bh:=wE λy hy=>aNT
 have v_:ez [dG x]=[x].flatten:=by simp[ez,jD]
 have h3:¬([dG x]=([]:List bg)):=af
 simp only[ql,iq,h3,if_false,ok,true_and,v_,eZ,iG];rw[if_pos ag]
structure Al(ks:Nat)(oF mv:bg)(rows:List (List bg))(g:List br):Prop where
 b:g[ks]?=a_ (.cells [oF,mv] bf)
 r:(oF=.bp/\rows=[])\/∃bZ,kg 11 g bZ oF rows
 rc:∀x∈rows,pR x
 rl:rows.length<=24
def Al.ext{g'}(s:Al ks oF mv rows g)(he:Ext g g'):Al ks oF mv rows g':=
 ⟨he _ _ s.b,s.r.imp id λ⟨bZ,D⟩=>⟨bZ,D.keep λZ q=>he _ _ q⟩,s.rc,s.rl⟩
def Al.A(s:Al ks oF mv rows g)(hm:sG mv marks)(GS:∀x∈marks,om x)(n3:marks.length<=8):tO g (.mp ks 0) oF mv rows marks:=by
 refine⟨uM.mp s.b,?_,oV.slc g hm λx I=>(GS x I).ok.1,s.rc,GS,s.rl,n3⟩
 rcases s.r with⟨rfl,rfl⟩|⟨bZ,D⟩
 exact oV.slc g (bD ⟨rfl,rfl⟩) af;exact oV.row D
def Al.push(s:Al ks oF mv rows g)(I:pR x)(hl:rows.length<24):
  ∃v' g1,ql g 11 120 106 oF (.sl [.agg x] .exact)=a_ (v',g1)/\bL g1 1 (.mp ks 0) v'=a_ (g1.set ks (.cells [v',mv] bf))/\Al ks v' mv (rows++[x]) (g1.set ks (.cells [v',mv] bf))/\∀(j:Nat) Z,g[j]?=a_ (.cells Z bf)->g1[j]?=a_ (.cells Z bf):=by
 have ze:=gl s.b;have s5:=I.len;have Tl:∀y∈rows++[x],pR y:=λy hy=>by
  rcases fA.1 hy with q|q
  exact s.rc y q;rw[dW.1 q];exact I
 have st:∀{g1} {k n o l} {a b},g1[ks]?=a_ (.cells [a,b] bf)->bL g1 1 (.mp ks 0) (.rs k n 11 o l)=a_ (g1.set ks (.cells [.rs k n 11 o l,b] bf)):=λq=>by
  simp only[bL,q];rfl
 rcases s.r with⟨rfl,rfl⟩|⟨bZ,D⟩
 have O:(g++[bw [x].flatten bh])[ks]?=a_ (.cells [.bp,mv] bf):=bS s.b;have D:kg 11 (g++[bw [x].flatten bh]) g.length (.rs g.length [x].flatten.length 11 0 1) [x]:=kg.new (λy hy=>by rw[dW.1 hy];exact s5);refine⟨_,_,aF5 s5,st O,⟨bT ah,bF ⟨g.length,D.keep λZ q=>by rw[bE aa];exact q⟩,Tl,af⟩,λj Z q=>bS q⟩;obtain⟨v',e1,kr⟩:=D.push (bW:=120) ag ag s5 aa;have bP:ks≠bZ:=by
  rintro rfl;have V:=D.b;rw[s.b] at V;simp at V
 have O:(g.set bZ (.cells (rows++[x]).flatten bh))[ks]?=a_ (.cells [oF,mv] bf):=by rw[bE (e3 bP)];exact s.b
 refine⟨v',_,e1,by rw[kr.v];exact st O,⟨bT (by simpa using ze),bF ⟨bZ,kr.keep λZ q=>by rw[bE bP];exact q⟩,Tl,ah⟩,λj Z q=>?_⟩;rw[bE (by rintro rfl;rw[D.b] at q;simp at q)];exact q
def aot{F}{e}(h0:g[0]?=a_ (.cells [v0] bf))(Y:g[1]?=a_ (.cells [v1] bf))(e2:gY e 2=a_ (.mp 0 0))(di:gY e 3=a_ (.mp 1 0))(hF:F (.bQ [v0,v1])):
  @hJ _ (lg e g [(.c 2 bf 1),(.c 3 bf 1)]) ⟨F⟩:=by
 exact oO @e2 @di (ff h0) (ff Y) hF
def aEg(cE:gk G)(hI:BY G)(s)(hs:s.length<=1000000):dM G bB 19 [bu s] PW:=by
 refine en (Si.go ?_);refine wy ?_;refine⟨[0,1],rfl,?_⟩
 conv in kX.bc _=>whnf
 have tW:∀{e} (e2:gY e 2=a_ (.mp 0 0)) (di:gY e 3=a_ (.mp 1 0)) (ch) (V),(∃b7,b7≠0/\ch=AK b7)->(∃v0,V[0]?=a_ (.cells [v0] bf))->(∃v1,V[1]?=a_ (.cells [v1] bf))->
   ∃v,ch=[{v:=v,recovered:=bf}]/\kW G bB 38 ([0,1].map λk=>.mp k 0) V (a_ v) λg=>@hJ _ (lg e g [(.c 2 bf 1),(.c 3 bf 1)]) ⟨λr=>∃n bR,dh g n r=a_ bR/\PW bR⟩:=by
  rintro e e2 di ch V ⟨b7,he,rfl⟩ ⟨v0,h0⟩ ⟨v1,Y⟩;exact⟨_,rfl,avX h0 Y λg g0 g1=>aot g0 g1 e2 di (aGB he)⟩
 have Q0:∀mv:bg,cu mv=bh->dN [.bp,.bp] [(1,1,mv)]=a_ [.bp,mv]:=λmv Y=>by
  have T:mv.cells=[mv]:=by cases mv<;>first|rfl|cases Y
  simp[dN,T,Y,d_]
 have Nu:[cR (.string ⟨[].toArray⟩),.bp,.v (.bool bf),.v (.bool bf),.v (.bool bf),.v (.int .i64 0),.v (.bool bf),.bp,.v (.string ⟨[].toArray⟩)]=gU:=rfl;have Ja:∀x:List bg,vE x->dN [.v (.string ⟨[].toArray⟩),.bp,.v (.bool bf),.v (.bool bf),.v (.bool bf),.v (.int .i64 0),.v (.bool bf),.bp,.v (.string ⟨[].toArray⟩),.v (.bool bf),.v (.pointer bn)] [(0,9,.agg x)]=a_ (x++[.v (.bool bf),.v (.pointer bn)]):=λx I=>by
  obtain⟨nm,cq,i,p,cj,a,al,mv,ex,rfl,hg,hm,_⟩:=I;simp[dN,jD,eH,d_,hg.one.1,hm.one.1,cu,bu]
 have Ze:∀{g} {a b},g[3]?=a_ (.cells [a,b] bf)->bz g bf 1 (.mp 3 0)=a_ a:=λq=>by simp only[bz,q];rfl
 refine iO (λe g=>∃(bC mv:bg) (b7:Int) (cC marks:List (List bg)),e=[(2,.mp 0 0),(3,.mp 1 0),(4,.mp 2 0),(6,.v (.int .i64 b7))]/\g=[bw [cR (.pointer bn)] bf,bw [cR (.int .i64 0)] bf,bw [bC,mv] bf]/\cD bC (cC.map dG)/\cD mv (marks.map dG)/\(∀x∈cC,vE x)/\(∀x∈marks,om x)/\cC.length<=24/\marks.length<=8) ?_ ?_;refine wy ?_;refine eo (aEY cE hI s hs) ?_;rintro r ⟨bC,mv,cA,e,rfl,cC,marks,Nf,lE,Nb,GS,zf,n3⟩
 have on:cu bC=bh/\bC.cells=[bC]:=by rcases Nf with rfl|⟨rfl,_⟩<;>exact⟨rfl,rfl⟩
 have qB:cu mv=bh/\mv.cells=[mv]:=aMr
 have zK:bL [bw [cR (.pointer bn)] bf,bw [cR (.int .i64 0)] bf,bw [.bp,.bp] bf] 2 (.mp 2 0) (.agg [bC,mv])=a_ [bw [cR (.pointer bn)] bf,bw [cR (.int .i64 0)] bf,bw [bC,mv] bf]:=abW rfl rfl on.1 qB.1;refine wy ?_;exact⟨bC,mv,e,cC,marks,rfl,rfl,Nf,lE,Nb,GS,zf,n3⟩;rintro e g ⟨bC,mv,b7,cC,marks,rfl,rfl,Nf,lE,Nb,GS,zf,n3⟩
 have qB:cu mv=bh/\mv.cells=[mv]:=aMr
 have aiA:sG mv marks:=by
  rcases lE with rfl|⟨rfl,z⟩
  exact bF ⟨_,rfl⟩;exact bD ⟨rfl,aN⟩
 refine iO (λe g=>e=[(2,.mp 0 0),(3,.mp 1 0),(4,.mp 2 0)]/\g=[bw [cR (.pointer bn)] bf,bw [cR (.int .i64 0)] bf,bw [bC,mv] bf]) ?_ ?_;refine wy (g_ (zu _ b7 _) ?_ ?_);rintro r g ⟨he,rfl⟩;exact wx tt;rintro ch g ⟨he,rfl,rfl⟩;exact tW rfl rfl _ _ ⟨b7,aMg,rfl⟩ ⟨_,rfl⟩ ⟨_,rfl⟩;rintro e g ⟨rfl,rfl⟩;have bc:(dG [.bp,mv]).cells=[.bp,mv]:=rfl;have ln:=Nf.cG;rw[cS] at ln;refine eN (λe g=>e=[(2,.mp 0 0),(3,.mp 1 0),(4,.mp 2 0)]/\g=[bw [cU 3 0] bf,bw [cR (.int .i64 0)] bf,bw [bC,mv] bf,bw [.bp,mv] bf]) ?_ ?_;exact mI (Q0 mv qB.1) @bc tt;rintro e g ⟨rfl,rfl⟩;refine eN (λe g=>∃oF rows,e=[(2,.mp 0 0),(3,.mp 1 0)]/\g[0]?=a_ (.cells [.mp 3 0] bf)/\g[1]?=a_ (.cells [.v (.int .i64 0)] bf)/\Al 3 oF mv rows g) ?_ ?_;refine wy ?_;refine c8 (λi e g=>∃oF rows,e=[(2,.mp 0 0),(3,.mp 1 0),(26,bC),(27,bq cC.length),(28,bq i)]/\g[0]?=a_ (.cells [.mp 3 0] bf)/\g[1]?=a_ (.cells [.v (.int .i64 0)] bf)/\Al 3 oF mv rows g/\rows.length=i) cC.length ⟨.bp,[],rfl,rfl,rfl,⟨rfl,bD ⟨rfl,rfl⟩,af,ag⟩,rfl⟩ ?_ ?_;rintro i e g Q ⟨oF,rows,rfl,g0,g1,hS,aiT⟩;obtain⟨x,I⟩:=cO Q;have G7:=Nb x (cv I);obtain⟨oA,p_,_⟩:=G7.ok;have e1:ct 9 bC (.v (.int .i64 (i)))=a_ (.fp x 0):=Nf.cB (x:=.agg x) aA oA;have e2:=λJ=>sG.fT oA J;have nn:=N3 g oA p_;have kx:(g++[bw x bf])[g.length]?=a_ (.cells x bf):=af
 have Jg:(g++[bw x bf])[0]?=a_ (.cells [.mp 3 0] bf):=bS g0;have Ri:(g++[bw x bf])[1]?=a_ (.cells [.v (.int .i64 0)] bf):=bS g1;have gu:=hS.ext (g':=g++[bw x bf]) mg;refine rF ?_;generalize g.length=m at kx⊢;generalize g++[bw x bf]=g2 at kx Jg Ri gu⊢;have lx:bz g2 bh 9 (.mp m 0)=a_ (.agg x):=by
  simp only[bz,kx];unfold fh;rw[if_pos rfl,if_pos aa,pL,oe aa]
 have JN:pR (x++[.v (.bool bf),.v (.pointer bn)]):=⟨x,bf,_,rfl,G7,bD rfl⟩;obtain⟨v',g3,p1,p2,p3,jA⟩:=gu.push JN aa;have ab:e4 11 [.agg (x++[.v (.bool bf),.v (.pointer bn)])]=a_ (.sl [.agg (x++[.v (.bool bf),.v (.pointer bn)])] .exact):=by
  have:=wE λy hy=>by rw[dW.1 hy];exact JN.len
  simp only[fc,kM] at this;simp[e4,this]
 have Ms:=jA _ _ Jg;refine ng (ff Jg) (Ze gu.b) @lx (Ja x G7) @ab @p1 (ff Ms) @p2 @ru ?_;refine⟨v',_,rfl,?_,?_,p3,by simp[aiT]⟩;rw[bE ag];exact Ms;rw[bE ag];exact jA _ _ Ri;rintro e g ⟨oF,rows,rfl,g0,g1,hS,aiT⟩;refine e6 @bq.eq_1 ?_;exact⟨oF,rows,trivial,g0,g1,hS⟩;rintro e g ⟨oF,rows,rfl,g0,g1,hS⟩;refine iO (λe g=>e=[(2,.mp 0 0),(3,.mp 1 0)]/\g[0]?=a_ (.cells [.mp 3 0] bf)/\g[1]?=a_ (.cells [.v (.int .i64 0)] bf)/\0<rows.length/\∃bZ,pQ 3 bZ oF mv rows marks g) ?_ ?_;refine wy (g_ (aEc (hS.A aiA GS n3) rfl) ?_ ?_);rintro r g2 ⟨⟨l,rfl⟩,rZ⟩;refine fJ ?_;refine⟨trivial,bS g0,bS g1,rZ,?_⟩;have gu:=hS.ext (g':=g++l) mg
 rcases gu.r with⟨_,z⟩|⟨bZ,D⟩
 rw[z] at rZ;exact absurd rZ ag;exact⟨bZ,gu.b,D,aiA,gu.rc,GS,gu.rl,n3⟩;rintro ch g2 ⟨e,he,rfl,l,rfl⟩;exact tW rfl rfl _ _ ⟨e,he,rfl⟩ ⟨_,bS g0⟩ ⟨_,bS g1⟩;rintro e g2 ⟨rfl,Jg,Ri,rZ,bZ,hM⟩;refine iO (λe g=>∃jv,e=[(2,.mp 0 0),(3,.mp 1 0)]/\g[0]?=a_ (.cells [.mp 3 0] bf)/\g[1]?=a_ (.cells [.v (.int .i64 0)] bf)/\pQ 3 bZ oF mv jv marks g/\jv.length=rows.length) ?_ ?_;have nD:=hM.rl;refine Da (ff Jg) (Ze hM.b) @hM.r.len ?_;refine c8 (λi e g=>∃jv,e=[(2,.mp 0 0),(3,.mp 1 0),(50,bq rows.length),(51,bq i)]/\g[0]?=a_ (.cells [.mp 3 0] bf)/\g[1]?=a_ (.cells [.v (.int .i64 0)] bf)/\pQ 3 bZ oF mv jv marks g/\jv.length=rows.length) rows.length ⟨rows,rfl,Jg,Ri,hM,rfl⟩ ?_ ?_;rintro i e g Q ⟨jv,rfl,g0,g1,hM,aiU⟩;have jV:i<jv.length:=aa
 have Bu:bZ≠0/\bZ≠1:=by
  have O:=hM.r.b;refine⟨?_,?_⟩<;>rintro rfl;rw[g0] at O;simp at O;rw[g1] at O;simp at O
 refine aqP (ff g0) (Ze hM.b) (hM.r.cB jV) (g_ (aut cE hM jV) ?_ ?_);rintro r g3 ⟨HT,ME,h3,_,kp⟩;refine fJ ?_;exact⟨HT,rfl,kp _ _ (e3 Bu.1) g0,kp _ _ (e3 Bu.2) g1,ME,aa⟩;rintro ch g3 ⟨e,he,rfl,HT,ME,h3,_,kp⟩;exact tW rfl rfl _ _ ⟨e,he,rfl⟩ ⟨_,kp _ _ (e3 Bu.1) g0⟩ ⟨_,kp _ _ (e3 Bu.2) g1⟩;rintro e g ⟨jv,rfl,g0,g1,hM,aiU⟩;refine e6 @bq.eq_1 ?_;exact⟨jv,trivial,g0,g1,hM,aiU⟩;rintro e g3 ⟨HT,rfl,Ms,ahm,ME,h3⟩;have avS:(g3.set 0 (.cells [.mp 3 0] bf))[1]?=a_ (.cells [.v (.int .i64 0)] bf):=by rw[bE ag];exact ahm
 have k1:=bT (a:=.cells [.v (.int .i64 0)] bf) (gl avS);have k0:((g3.set 0 (.cells [.mp 3 0] bf)).set 1 (.cells [.v (.int .i64 0)] bf))[0]?=a_ (.cells [.mp 3 0] bf):=by
  rw[bE ag,bT (gl Ms)]
 have Bu:bZ≠0/\bZ≠1:=by
  have O:=ME.r.b;refine⟨?_,?_⟩<;>rintro rfl;rw[Ms] at O;simp at O;rw[ahm] at O;simp at O
 exact wy (aCE (aot k0 k1 rfl rfl (aGC ((ME.set (j:=0) (b':=.cells [.mp 3 0] bf) ag (e3 Bu.1)).set (j:=1) (b':=.cells [.v (.int .i64 0)] bf) ag (e3 Bu.2)) aa)))
end
end
section
variable{v:bg}{rows:List (List bg)}
structure mm(hk bC mv:bg)(rows marks:List (List bg)):Prop where
 eq:hk=.fp [bC,mv] 0
 n:cD bC (rows.map dG)
 m:cD mv (marks.map dG)
 rc:∀x∈rows,pR x
 ia:∀x∈marks,om x
 bR:0<rows.length
 rl:rows.length<=24
 ml:marks.length<=8
def Iz.c{hk:bg}(h:Iz hk):∃bC mv rows marks,mm hk bC mv rows marks:=by
 obtain⟨bC,mv,rows,marks,e,Y,V,h3,h4,h5,h6,h7⟩:=h;exact⟨bC,mv,rows,marks,e,Y,V,h3,h4,h5,h6,h7⟩
def at7{x:bg}(h:BX x):eY x:=by
 obtain⟨rows,rfl,Y,_⟩:=h;refine Gb λc T=>?_;rw[dW.1 T];refine k4 λx I c T=>?_;obtain⟨r,D,rfl⟩:=dV.1 I;obtain⟨l,b,rfl,_⟩:=Y r D
 rcases fA.1 (show c∈l.map bq++[.v (.bool b)] from T) with q|q
 obtain⟨n,_,rfl⟩:=dV.1 q;exact dD _;rw[dW.1 q];exact dD _
def at6(h:cD v (rows.map dG))(D:∀x∈rows,pR x):eY v:=by
 have I:∀x∈rows.map dG,∀c∈x.cells,eY c:=λx I c T=>by
  obtain⟨y,hy,rfl⟩:=dV.1 I;obtain⟨nm,cq,i1,p1,cj,a,al,va,ex,b,cJ,rfl,⟨l1,g1,_⟩,⟨l2,g2,_⟩,_,ht⟩:=(D y hy).at
  have jl:c∈[bu nm,cq,.v (.bool i1),.v (.bool p1),.v (.bool cj),.v (.int .i64 a),.v (.bool al),va,bu ex,.v (.bool b),cJ]:=T;simp only[fo,pM,or_false] at jl
  rcases jl with rfl|rfl|rfl|rfl|rfl|rfl|rfl|rfl|rfl|rfl|rfl
  exact dD _;exact qX g1;exact dD _;exact dD _;exact dD _;exact dD _;exact dD _;exact qX g2;exact dD _;exact dD _
  rcases ht with rfl|ht
  exact dD _;exact at7 ht
 rcases h with rfl|⟨rfl,_⟩
 exact k4 I;exact nA
def at5(h:cD v (rows.map dG))(D:∀x∈rows,om x):eY v:=by
 have I:∀x∈rows.map dG,∀c∈x.cells,eY c:=λx I c T=>by
  obtain⟨y,hy,rfl⟩:=dV.1 I;obtain⟨nm,n,al,bv,rfl,l,g1,_⟩:=D y hy;have jl:c∈eX nm n al bv:=T;simp only[eX,fo,pM,or_false] at jl
  rcases jl with rfl|rfl|rfl|rfl
  exact dD _;exact dD _;exact dD _;exact qX g1
 rcases h with rfl|⟨rfl,_⟩
 exact k4 I;exact nA
def ajp(i:Nat)(x:List bg):Bool:=match x[i]? with
 |some (.v (.bool b))=>b
 |_=>bf
def ajq(i:Nat)(x:List bg):Int:=match x[i]? with
 |some (.v (.int _ n))=>n
 |_=>0
def CZ(rows:List (List bg))(t:Int):Option (List bg):=if 1<=t then rows[(t-1).toNat]? else bn
def NL(rows:List (List bg))(t:Int):Bool:=t==0||(CZ rows t).any (ajp 4)
def Sd(rows:List (List bg))(t:Int):Bool:=t==0||(CZ rows t).any (ajp 2)
def IY(rows:List (List bg))(t:Int):Int:=((CZ rows t).map (ajq 5)).getD 0
section
variable{G:Cells}{hk bC mv:bg}{rows marks:List (List bg)}
def mm.clean(s:mm hk bC mv rows marks):eY hk:=by
 rw[s.eq];refine Gb λc T=>?_;simp only[fo,pM,or_false] at T
 rcases T with rfl|rfl
 exact at6 s.n s.rc;exact at5 s.m s.ia
def mm.fT(s:mm hk bC mv rows marks)(h:List br):bz h bf 1 (.fp [bC,mv] 0)=a_ bC/\bz h bf 1 (.fp [bC,mv] 1)=a_ mv:=⟨rfl,rfl⟩
def aIs(s:mm hk bC mv rows marks):cV G bB 192 [hk] (.v (.int .i64 (rows.length:Int))):=by
 rw[s.eq];refine eM (YR.go ?_);have ln:=s.n.cG;rw[cS] at ln;refine wy ?_;exact(bH _).done
def VK(s:mm hk bC mv rows marks){t:Int}(h:CZ rows t=bn):cV G bB 139 [hk,.v (.int .i64 t)] (.v (.pointer bn)):=by
 rw[s.eq];refine eM (Sl.go ?_);have nD:=s.rl;have ln:=s.n.cG;rw[cS] at ln;refine wy ?_;refine cM (λq=>?_) λq=>?_;refine wy ?_;exact(bH _).done;refine wy ?_;refine cM (λbt=>?_) λbt=>?_;refine wy ?_;exact(bH _).done;exfalso;unfold CZ at h;have q1:¬t<1:=ak
 rw[if_pos aa,arv] at h;simp at bt;omega
def VL(s:mm hk bC mv rows marks){i:Nat}{x:List bg}(I:rows[i]?=a_ x):cV G bB 139 [hk,.v (.int .i64 ((i:Int)+1))] (.fp x 0):=by
 rw[s.eq];refine eM (Sl.go ?_);have nD:=s.rl;have Q:=(cK.1 I).1;have ln:=s.n.cG;rw[cS] at ln;have D:=s.rc x (cv I);have cB:ct 11 bC (.v (.int .i64 (i:Int)))=a_ (.fp x 0):=s.n.cB (x:=.agg x) aA D.len.1;have w1:cN.wrap ((i:Int)+1-1)=(i:Int):=by rw[fq aa aa];omega
 have d1:decide ((i:Int)+1<1)=bf:=decide_eq_false aa;have d2:decide ((i:Int)+1>(rows.length:Int))=bf:=decide_eq_false aa;refine wy ?_;exact(b_.fp (D.Mr _)).done
def aaZ(rows:List (List bg))(t:Int):CZ rows t=bn\/∃(i:Nat) (x:List bg),t=(i:Int)+1/\rows[i]?=a_ x/\CZ rows t=a_ x:=by
 cases h:CZ rows t with
 |none=>exact bD rfl
 |some x=>
  right;unfold CZ at h;split at h;exact⟨(t-1).toNat,x,aa,h,rfl⟩;cases h
def azH(s:mm hk bC mv rows marks)(t:Int):cV G bB 77 [hk,.v (.int .i64 t)] (.v (.bool (Sd rows t))):=by
 have T:=s.clean;have e:=s.eq;refine eM (YQ.go ?_);refine eO ?_
 rcases aaZ rows t with h|⟨i,x,rfl,I,D⟩
 refine ic (VK s h) (bY T (bY (dD _) dw)) ?_;rw[e];unfold Sd;rw[h];refine wy ?_;refine cM (λq=>?_) λq=>?_;refine wy ?_;exact(bH _).done;refine dJ @q ?_;exact(bH _).done;obtain⟨nm,cq,i1,p1,cj,a,al,va,ex,b,cJ,rfl,_⟩:=(s.rc x (cv I)).at
 refine ic (VL s I) (bY T (bY (dD _) dw)) ?_;rw[e];unfold Sd;rw[D];have q0:((i:Int)+1==0)=bf:=beq_eq_false_iff_ne.2 aa;refine wy ?_;exact(bH _).done
def amn(s:mm hk bC mv rows marks)(t:Int):cV G bB 115 [hk,.v (.int .i64 t)] (.v (.bool (NL rows t))):=by
 have T:=s.clean;have e:=s.eq;refine eM (ajw.go ?_);refine eO ?_
 rcases aaZ rows t with h|⟨i,x,rfl,I,D⟩
 refine ic (VK s h) (bY T (bY (dD _) dw)) ?_;rw[e];unfold NL;rw[h];refine wy ?_;refine cM (λq=>?_) λq=>?_;refine wy ?_;exact(bH _).done;refine dJ @q ?_;exact(bH _).done;obtain⟨nm,cq,i1,p1,cj,a,al,va,ex,b,cJ,rfl,_⟩:=(s.rc x (cv I)).at
 refine ic (VL s I) (bY T (bY (dD _) dw)) ?_;rw[e];unfold NL;rw[D];have q0:((i:Int)+1==0)=bf:=beq_eq_false_iff_ne.2 aa;refine wy ?_;exact(bH _).done
def as5(s:mm hk bC mv rows marks)(t:Int):cV G bB 154 [hk,.v (.int .i64 t)] (.v (.int .i64 (IY rows t))):=by
 have T:=s.clean;have e:=s.eq;refine eM (ajR.go ?_);refine eO ?_
 rcases aaZ rows t with h|⟨i,x,rfl,I,D⟩
 refine ic (VK s h) (bY T (bY (dD _) dw)) ?_;unfold IY;rw[h];refine eO ?_;exact(bH _).done;obtain⟨nm,cq,i1,p1,cj,a,al,va,ex,b,cJ,rfl,_⟩:=(s.rc x (cv I)).at
 refine ic (VL s I) (bY T (bY (dD _) dw)) ?_;unfold IY;rw[D];refine wy ?_;exact(bH _).done
def aeA(s:mm hk bC mv rows marks)(t a:Int):cV G bB 114 [hk,.v (.int .i64 t),.v (.int .i64 a)] (.v (.bool (decide (t>=1)&&decide (t<=(rows.length:Int))&&decide (a>=0)&&decide (a<=IY rows t)))):=by
 have T:=s.clean;refine eM (ajv.go ?_);refine wy ?_;refine cM (λq=>?_) λq=>?_;refine wy ?_;refine ic (aIs s) (bY T dw) ?_;refine wy ?_;refine cM (λbt=>?_) λbt=>?_;refine wy ?_;refine cM (λbV=>?_) λbV=>?_;refine wy ?_;refine ic (as5 s t) (bY T (bY (dD _) dw)) ?_;refine wy ?_;exact(bH _).done;refine wy ?_;exact(bH _).done;refine wy ?_;exact(bH _).done;refine wy ?_;exact(bH _).done
end
end
def oY(l:List UInt8)(i:Nat):Nat:=(l[i]?.getD 0).toNat
@[go_sem]def xA{l:List UInt8}{i:Nat}{k:IntKind}(h:i<l.length):xq (bu l) (.v (.int k (i:Int)))=a_ (.v (.int .u8 (oY l i:Int))):=by
 obtain⟨c,T⟩:=cO h;rw[afn T];unfold oY;rw[T];rfl
section
variable{G:Cells}
def abo(c:Int):cV G bB 245 [.v (.int .u8 c)] (.v (.bool (decide (97<=c)&&decide (c<=122)))):=by
 refine eM (aBi.go ?_);refine wy ?_
 repeat' refine ba (λq'=>?_) λq'=>?_
 all_goals exact(bH _).done
def QK(c:Int):cV G bB 246 [.v (.int .u8 c)] (.v (.bool (decide (48<=c)&&decide (c<=57)))):=by
 refine eM (aBj.go ?_);refine wy ?_
 repeat' refine ba (λq'=>?_) λq'=>?_
 all_goals exact(bH _).done
def Rx{v:bg}{l:List (List UInt8)}(hv:cD v (l.map bu))(hl:l.length<=1000000000)(x:List UInt8):dM G bB 185 [v,bu x] jR:=by
 refine en (akv.go ?_);have ln:=hv.cG;rw[cS] at ln;refine wy ?_;refine c8 (λi e h=>e=[(0,v),(1,bu x),(5,bq i)]/\h=[]) l.length ⟨rfl,rfl⟩ ?_ ?_
 · rintro i e h Q ⟨rfl,rfl⟩
   obtain⟨s,hs⟩:=cO Q;have e1:ct 1 v (.v (.int .i64 (i:Int)))=a_ (.fp [bu s] 0):=hv.cB (x:=bu s) aNU rfl;refine wy ?_
   repeat' refine ba (λq'=>?_) λq'=>?_
   exact jj _;exact⟨rfl,trivial⟩
 rintro e h ⟨rfl,rfl⟩;exact wy (jj _)
def ZR(s:List UInt8)(hs:s.length<=1000000000):dM G bB 179 [bu s] jR:=by
 refine en (aAW.go ?_);refine wy ?_;refine c8 (λi e h=>e=[(0,bu s),(3,bq i)]/\h=[]) s.length ⟨rfl,rfl⟩ ?_ ?_
 · rintro i e h Q ⟨rfl,rfl⟩
   refine oa ?_
   repeat' refine ba (λq'=>?_) λq'=>?_
   all_goals first|(exfalso;omega)|exact jj _|exact⟨rfl,trivial⟩|exact⟨rfl,rfl⟩|exact⟨trivial,trivial⟩
 · rintro e h ⟨rfl,rfl⟩
   refine wy ?_
   repeat' refine ba (λq'=>?_) λq'=>?_
   all_goals exact jj _
def afS(s:List UInt8)(hs:s.length<=1000000000):dM G bB 240 [bu s] (PB s.length):=by
 refine en (aBe.go ?_);refine wy ?_;refine c8 (λi e h=>e=[(0,bu s),(5,bq i)]/\h=[]) s.length ⟨rfl,rfl⟩ ?_ ?_
 · rintro i e h Q ⟨rfl,rfl⟩
   have k1:=λJ=>QG (l:=s) (j:=i) aa J;have k2:=λJ=>Wm (l:=s) (i:=i+1) aa J;refine tv @xA ?_
   repeat' refine ba (λq'=>?_) λq'=>?_
   exact Mk _ ah af;exact⟨rfl,trivial⟩
 rintro e h ⟨rfl,rfl⟩;exact wy (Mk (b:=[]) _ (cc _) af)
def Un(s:List UInt8)(cA:Nat):∃p e:Int,e≠0/\cV G bB 290 [bu s,.v (.int .i64 (cA:Int))] (.bQ [.v (.int .i64 p),.v (.int .i64 e)]):=by
 rcases er cA s.length with h|h
 refine⟨cA,2,ag,eM (aln.go ?_)⟩;exact wy ((fy (bG (bH _) (bG (bH _) c_))).done);refine⟨s.length,5,ag,eM (aln.go ?_)⟩;exact wy ((fy (bG (bH _) (bG (bH _) c_))).done)
def adx(n cA:Nat)(r:bg):Prop:=∃(m:Int) (p:Nat),r=.bQ [.v (.int .i64 m),.v (.int .i64 (p:Int))]/\p<=n/\(m= -1\/(0<=m/\m<=99/\cA<p))
def D2{J:List br}{n cA:Nat}{m:Int}{p:Nat}(Y:p<=n)(V:m= -1\/(0<=m/\m<=99/\cA<p)):∃k bR,dh J k (.bQ [.v (.int .i64 m),.v (.int .i64 (p:Int))])=a_ bR/\adx n cA bR:=by
 obtain⟨k,S⟩:=(fy (bG (bH (.int .i64 m)) (bG (bH (.int .i64 (p:Int))) c_)):b_ J _ _).done;exact⟨k,_,S,m,p,rfl,Y,V⟩
def anv(s:List UInt8)(hs:s.length<=1000000000)(cA:Nat)(ha:cA<=s.length):dM G bB 289 [bu s,.v (.int .i64 (cA:Int))] (adx s.length cA):=by
 refine en (aBv.go ?_);have ws:∀c:Int,48<=c->c<=57->cN.wrap (IntKind.u8.wrap (c-48))=c-48:=λc Y V=>by
  rw[aqO,Int.emod_eq_of_lt aa aa,fq aa aa]
 have aIM:∀c d:Int,48<=c->c<=57->48<=d->d<=57->cN.wrap (cN.wrap (10*(c-48))+(d-48))=10*(c-48)+(d-48):=λc d Y V h3 h4=>by
  rw[fq (n:=10*(c-48)) aa aa,fq aa aa]
 rcases er cA s.length with h0|h0
 refine wx ?_;refine dx (QK (oY s cA:Int)) ?_;cases hd:(decide ((48:Int)<=(oY s cA:Int))&&decide ((oY s cA:Int)<=57)) with
 |false=>
  exact wx (D2 aa (bD rfl))
 |true=>
  simp only[fQ,decide_eq_true_eq] at hd;have e1:=ws _ hd.1 hd.2;refine wx ?_
  rcases er (cA+1) s.length with Y|Y
  refine wx ?_;refine dx (QK (oY s (cA+1):Int)) ?_;cases u0:(decide ((48:Int)<=(oY s (cA+1):Int))&&decide ((oY s (cA+1):Int)<=57)) with
  |false=>
   refine wx ?_;exact D2 aa (bF ⟨aa,aa,aa⟩)
  |true=>
   simp only[fQ,decide_eq_true_eq] at u0;have e2:=ws _ u0.1 u0.2;have di:=aIM _ _ hd.1 hd.2 u0.1 u0.2;refine wx ?_;refine dn (λq=>?_) λq=>?_;exact D2 aa (bD rfl)
   rcases er (cA+1+1) s.length with V|V
   refine wx ?_;refine dx (QK (oY s (cA+1+1):Int)) ?_;cases(decide ((48:Int)<=(oY s (cA+1+1):Int))&&decide ((oY s (cA+1+1):Int)<=57)) with
   |true=>
    refine wx ?_;exact D2 aa (bD rfl)
   |false=>
    refine wx ?_;exact D2 aa (bF ⟨aa,aa,aa⟩)
   refine wx ?_;exact D2 aa (bF ⟨aa,aa,aa⟩)
  refine wx ?_;exact D2 aa (bF ⟨aa,aa,aa⟩)
 refine wx ?_;exact D2 aa (bD rfl)
end
section
variable{J:List br}{v:bg}{m n:Nat}
def aqK(n:Int): -9223372036854775808<=cN.wrap n/\cN.wrap n<=9223372036854775807:=by
 simp only[acF,K5,K6];constructor<;>(simp;split<;>omega)
def Um(n:Int):0<=Im.wrap n/\Im.wrap n<18446744073709551616:=by
 rw[Fm];omega
@[go_sem]def agi(a:List UInt8):dR .eql (bu a) (.v (.string ⟨[].toArray⟩))=a_ (.v (.bool (a==[]))):=oZ a []
@[go_sem]def F1{xs:List bg}{e:TypeId}(hA:de J v xs n e)(g:List br):cG v g=a_ (.v (.int .i64 (xs.length:Int)),g):=by
 rcases hA with⟨rfl,rfl⟩|⟨id,rfl,_⟩<;>rfl
def Ln(a b:Int)(r:bg):Prop:=∃n:Int,r=.v (.int .i64 n)/\a<=n/\n<=b
def uU{a b n:Int}(Y:a<=n)(V:n<=b):∃k bR,dh J k (.v (.int .i64 n))=a_ bR/\Ln a b bR:=by
 obtain⟨k,S⟩:=(bH (.int .i64 n):b_ J _ _).done;exact⟨k,_,S,n,rfl,Y,V⟩
def DD(m n:Nat)(v:bg):Prop:=∃l:List (List UInt8),cD v (l.map bu)/\l.length<=m/\∀w∈l,w.length<=n
def DD.nil(m n:Nat):DD m n .bp:=⟨[],bF ⟨rfl,rfl⟩,gW _,af⟩
def asZ{l:List (List UInt8)}(h:de J v (l.map bu) 1 9)(Y:l.length<=m)(V:∀w∈l,w.length<=n):∃v',b_ J v v'/\DD m n v':=by
 rcases h with⟨rfl,z⟩|⟨id,rfl,_⟩
 exact⟨_,eB,DD.nil _ _⟩;exact⟨_,hD (iE λa _=>bH _),l,bD rfl,Y,V⟩
def adp(m n:Nat)(r:bg):Prop:=∃(v:bg) (p e:Int),r=.bQ [v,.v (.int .i64 p),.v (.int .i64 e)]/\DD m n v
def WT{v':bg}{p e:Int}(h:b_ J v v')(V:DD m n v'):∃k bR,dh J k (.bQ [v,.v (.int .i64 p),.v (.int .i64 e)])=a_ bR/\adp m n bR:=by
 obtain⟨k,S⟩:=(fy (bG h (bG (bH (.int .i64 p)) (bG (bH (.int .i64 e)) c_))):b_ J _ _).done;exact⟨k,_,S,v',p,e,rfl,V⟩
section
variable{G:Cells}
def aE4(c:Int):dM G bB 178 [.v (.int .u8 c)] jR:=by
 refine en (aAi.go ?_);refine wy ?_
 repeat' refine ba (λq'=>?_) λq'=>?_
 all_goals exact jj _
def auP(n:Nat)(hn:n<18446744073709551616):dM G bB 321 [.v (.int .u64 (n:Int))] (Am 20):=by
 refine en (aAj.go ?_);refine wy ?_;refine qe (n:=n+1) (λm e h=>∃(i k:Nat) (t:List UInt8),m=(if i=0 then k+1 else k)/\i<=20/\k<10^(20-i)/\t.length=i/\k<18446744073709551616/\e=[(0,.v (.int .u64 (k:Int))),(3,bu t),(4,bq i)]/\h=[]) ⟨0,n,[],rfl,aa,aa,rfl,hn,rfl,rfl⟩ ?_;rintro m e h ⟨i,k,t,rfl,Q,S,ht,hk2,rfl,rfl⟩;have e1:dR .rem (.v (.int .u64 (k:Int))) (.v (.int .u64 10))=a_ (.v (.int .u64 ((k:Int).tmod 10))):=by rw[Vw _ _ _ ag]
 have e2:dR .quo (.v (.int .u64 (k:Int))) (.v (.int .u64 10))=a_ (.v (.int .u64 ((k/10:Nat):Int))):=by
  rw[Vv _ _ _ ag,Fm];congr 4;rw[Int.tdiv_eq_ediv_of_nonneg aa];omega
 have di:∀x:Int,LF (.sl [.v (.int .u8 x)] .exact)=a_ (bu [vC x.toNat]):=λx=>rfl;have eW:∀x:Int,dR .add (bu [vC x.toNat]) (bu t)=a_ (bu ([vC x.toNat]++t)):=λx=>vM ah;have next:(i=0\/0<k)->i<20/\k/10<10^(20-(i+1))/\(if i+1=0 then k/10+1 else k/10)<(if i=0 then k+1 else k):=by
  intro T;have Xg:i<20:=by
   rcases er i 20 with z|z
   exact z;have:i=20:=aa
   subst this;simp at S;omega
  refine⟨Xg,?_,?_⟩;have:20-i=20-(i+1)+1:=aa
  rw[this,Nat.pow_succ] at S;omega;rw[if_neg aa];split;omega
  rcases T with z|z
  omega;omega
 refine wy ?_
 repeat' ((refine ba (λq'=>?_) λq'=>?_)<;>refine qK @e1 @e2 @di @eW @Ao ?_)
 all_goals first
  |exact sQ aa
  |(obtain⟨b9,z2,z3⟩:=next aa
    exact⟨_,z3,i+1,k/10,_,rfl,aa,z2,ah,aa,rfl,trivial⟩)
def af3(n:Int)(h0:0<=n)(Y:n<18446744073709551616):dM G bB 321 [.v (.int .u64 n)] (Am 20):=by
 have:=auP (G:=G) n.toNat aa
 rwa [Int.toNat_of_nonneg h0] at this
def abd(n:Int):dM G bB 310 [.v (.int .i64 n)] (Am 21):=by
 refine en (aBH.go ?_);have aEm:∀x:Int,F2 .neg (.v (.int .i64 x))=a_ (.v (.int .i64 (cN.wrap (0-x)))):=λx=>rfl;refine wy ?_;refine dn (λq=>?_) λq=>?_;refine wy ?_;refine eo (af3 _ (Um _).1 (Um _).2) ?_;rintro r ⟨t,rfl,ht⟩;have a1:dR .add (.v (.string ⟨[45].toArray⟩)) (bu t)=a_ (bu ([45]++t)):=vM (a:=[45]) ah;refine wy ?_;exact sQ ah;refine eo (af3 _ (Um _).1 (Um _).2) ?_;rintro r ⟨t,rfl,ht⟩;refine wy ?_;exact sQ aa
def aEx(s:List UInt8)(hs:s.length<=1000000000):dM G bB 286 [bu s] PT:=by
 refine en (aAV.go ?_)
 rcases Dp s.length with h0|h0
 obtain rfl:=oc h0;have l0:∀J,r6 (bu []) J=a_ (.v (.int .i64 0),J):=λ_=>rfl;refine wy ?_;exact xH ag ag;have z0:((s.length:Int)==0)=bf:=by simp;intro e;rw[e] at h0;simp at h0
 have c0:xq (bu s) (.v (.int .i64 0))=a_ (.v (.int .u8 (oY s 0:Int))):=xA (i:=0) h0;refine wy (cM (λq=>?_) λq=>?_);refine wy ?_;exact xH ag ag;refine wy ?_;refine c8 (λi e h=>∃m:Int,e=[(0,bu s),(4,.v (.int .u64 m)),(5,bq i)]/\h=[]) s.length ⟨0,rfl,rfl⟩ ?_ ?_
 · rintro i e h Q ⟨m,rfl,rfl⟩
   refine wy ?_
   repeat' refine ba (λq'=>?_) λq'=>?_
   all_goals first
    |exact xH ag ag
    |exact⟨_,rfl,trivial⟩
 · rintro e h ⟨m,rfl,rfl⟩
   refine wy (cM (λbt=>?_) λbt=>?_)
   all_goals
    refine wy ?_;refine eo (abd _) ?_;rintro r ⟨t,rfl,ht⟩;refine wy ?_;refine dn (λbV=>?_) λbV=>?_;exact xH ag ag;exact xH (aqK _).1 (aqK _).2
def ab7(s:List UInt8)(hs:s.length<=1000000000):dM G bB 241 [bu s] (Ln (-1) 999):=by
 refine en (aBf.go ?_);refine wy ?_;refine eo (aEx s hs) ?_;rintro r ⟨n,b,rfl,Y,V⟩;refine wy ?_;cases b with
 |false=>
  refine wy ?_;exact uU ag ag
 |true=>
  refine wy ?_
  repeat' refine ba (λq'=>?_) λq'=>?_
  all_goals first
   |exact uU ag ag
   |exact uU aa aa
def Zm(s:List UInt8)(hs:s.length<=100000):dM G bB 242 [bu s] (PN 100001):=by
 refine en (aBg.go ?_);have fin:∀(J:List br) (a:Bool) (v v':bg) (b:Bool),b_ J v v'->jg 100001 v'->∃n bR,dh J n (.bQ [.v (.bool a),v,.v (.bool b)])=a_ bR/\PN 100001 bR:=λJ a v v' b hf hv=>by
  obtain⟨n,hn⟩:=(fy (bG (bH (.bool a)) (bG hf (bG (bH (.bool b)) c_))):b_ J _ _).done;exact⟨n,_,hn,a,v',b,rfl,hv⟩
 refine wy (cM (λq=>?_) λq=>?_);exact wy (fin _ _ _ _ _ eB (zZ _));refine wy ?_;refine c8 (λi e h=>∃(l:List (List UInt8)) (bx:bg) (a:Nat),e=[(0,bu s),(5,bx),(6,bq a),(7,bq i)]/\a<=i/\l.length<=i/\de h bx (l.map bu) 1 9) (s.length+1) ⟨[],.bp,0,rfl,cc _,cc _,tA _ _ _⟩ ?_ ?_
 · rintro i e h Q ⟨l,bx,a,rfl,ha,hl,hA⟩
   obtain⟨v',y1,fR,mc⟩:=B5 hA DT;refine wy ?_
   repeat' refine ba (λq'=>?_) λq'=>?_
   all_goals first
    |exact⟨l,bx,a,rfl,aa,aa,hA⟩
    |(have c1:=λJ=>QH (l:=s) (i:=a) (j:=i) ha aa J
      have hw:((s.take i).drop a).length<=1000000000:=ah
      refine wy ?_;refine cw.aaA (ZR _ hw) ?_;rintro r ⟨b,rfl⟩;cases b with
      |false=>
       exact wy (fin _ _ _ _ _ b_.bp (jg.nil _))
      |true=>
       refine wy ?_;refine cw.aaA (Rx y1 aa _) ?_;rintro r ⟨b,rfl⟩;cases b with
       |true=>
        exact wy (fin _ _ _ _ _ b_.bp (jg.nil _))
       |false=>
        obtain⟨cl,g,e1,fM,_⟩:=nv (x:=bu ((s.take i).drop a)) (bW:=16) hA (zA l) rfl ag ag ah;have ab:e4 1 [bu ((s.take i).drop a)]=some (.sl [bu ((s.take i).drop a)] .exact):=rfl;refine wy ?_;exact⟨l++[(s.take i).drop a],cl,i+1,rfl,aa,ah,by rw[List.map_append];exact fM⟩)
 rintro e h ⟨l,bx,a,rfl,ha,hl,hA⟩;refine wy ?_;obtain⟨v',f1,f2⟩:=VE (n:=100001) hA aa;exact fin _ _ _ _ _ f1 f2
def aDe(s:List UInt8)(hs:s.length<=1000000000):dM G bB 101 [bu s] (adp 65536 65536):=by
 refine en (aAs.go ?_);refine wy (cM (λq=>?_) λq=>?_);exact wy (WT eB (DD.nil _ _));have nE:s.length<=65536:=aq
 refine wy ?_;refine c8 (λi e h=>∃(l:List (List UInt8)) (bx:bg) (a:Nat),e=[(0,bu s),(5,bx),(6,bq a),(7,bq i)]/\a<=i/\l.length<=i/\(∀w∈l,w.length<=65536)/\de h bx (l.map bu) 1 9) s.length ⟨[],.bp,0,rfl,cc _,cc _,af,tA _ _ _⟩ ?_ ?_;rintro i e h Q ⟨l,bx,a,rfl,ha,hl,hw,hA⟩;have c1:=λJ=>QH (l:=s) (i:=a) (j:=i) ha aa J;obtain⟨cl,g,e1,fM,_⟩:=nv (x:=bu ((s.take i).drop a)) (bW:=16) hA (zA l) rfl ag ag ah;have ab:e4 1 [bu ((s.take i).drop a)]=a_ (.sl [bu ((s.take i).drop a)] .exact):=rfl;refine oa ?_;refine dn (λq=>?_) λq=>?_;refine wy ?_;refine⟨l++[(s.take i).drop a],cl,i+1,rfl,aa,ah,?_,aLX⟩;intro w hm
 rcases fA.1 hm with z|z
 exact hw w z;rw[dW.1 z];simp;omega;exact⟨l,bx,a,rfl,aa,aa,hw,hA⟩;rintro e h ⟨l,bx,a,rfl,ha,hl,hw,hA⟩;have ln:=F1 hA;refine wy ?_;refine dn (λq=>?_) λq=>?_;exact WT eB (DD.nil _ _);obtain⟨v',f1,f2⟩:=asZ (m:=65536) (n:=65536) hA aa hw;exact WT f1 f2
end
end
section
variable{v w:bg}{l m:List Int}
def Lo(r:bg):Prop:=∃l:List Int,cD r (l.map bq)/\l.length<=256/\∀x∈l,0<=x/\x<256
@[go_sem]def HD(l:List Int):cY 1 (l.map bq)=bh:=by
 rw[cY,eJ];intro x I;obtain⟨t,ht,rfl⟩:=dV.1 I;rfl
def VG{J:List br}(h:de J v (l.map bq) 1 3)(Y:l.length<=256)(V:∀x∈l,0<=x/\x<256):∃k bR,dh J k v=a_ bR/\Lo bR:=by
 rcases h with⟨rfl,z⟩|⟨id,rfl,_⟩
 obtain⟨n,hn⟩:=(eB:b_ J _ _).done;exact⟨n,_,hn,[],bF ⟨rfl,rfl⟩,af,af⟩;obtain⟨n,hn⟩:=(hD (t:=.tok id) (iE (f:=bq) (l:=l) λa _=>bH _):b_ J _ _).done;exact⟨n,_,hn,l,bD rfl,Y,V⟩
section
variable{G:Cells}
def ath(c:Int):dM G bB 182 [.v (.int .u8 c)] jR:=by
 refine en (aA0.go ?_);refine wy ?_;refine dx (abo c) ?_;refine wy ?_;cases O:(decide ((97:Int)<=c)&&decide (c<=122))<;>refine wy ?_
 all_goals repeat' refine ba (λq'=>?_) λq'=>?_
 all_goals exact jj _
def XD(hv:cD v (l.map bq))(hl:l.length<=1000000000)(x:Int):dM G bB 250 [v,bq x] jR:=by
 refine en (aBm.go ?_);have ln:=hv.cG;rw[cS] at ln;refine wy ?_;refine c8 (λi e h=>e=[(0,v),(1,bq x),(5,bq i)]/\h=[]) l.length ⟨rfl,rfl⟩ ?_ ?_
 · rintro i e h Q ⟨rfl,rfl⟩
   obtain⟨s,hs⟩:=cO Q;have e1:ct 1 v (.v (.int .i64 (i:Int)))=a_ (.fp [bq s] 0):=hv.cB (x:=bq s) aNU rfl;unfold bq at e1;refine wy ?_
   repeat' refine ba (λq'=>?_) λq'=>?_
   exact jj _;exact⟨rfl,trivial⟩
 rintro e h ⟨rfl,rfl⟩;exact wy (jj _)
def aGo(hv:cD v (l.map bq))(hw:cD w (m.map bq))(hl:l.length<=1000000000)(hm:m.length<=1000000000):dM G bB 249 [v,w] jR:=by
 refine en (aBE.go ?_);have ln:=hv.cG;rw[cS] at ln;have lm:=hw.cG;rw[cS] at lm;refine wy (cM (λq=>?_) λq=>?_);exact wy (jj _);have aiy:l.length=m.length:=aq
 refine wy ?_;refine c8 (λi e h=>e=[(0,v),(1,w),(5,bq i)]/\h=[]) l.length ⟨rfl,rfl⟩ ?_ ?_
 · rintro i e h Q ⟨rfl,rfl⟩
   obtain⟨s,hs⟩:=cO Q;obtain⟨t,ht⟩:∃s,m[i]?=a_ s:=⟨m[i],cy aa⟩;have e1:ct 1 v (.v (.int .i64 (i:Int)))=a_ (.fp [bq s] 0):=hv.cB (x:=bq s) aNU rfl;have e2:ct 1 w (.v (.int .i64 (i:Int)))=a_ (.fp [bq t] 0):=hw.cB (x:=bq t) (by simp[ht]) rfl;unfold bq at e1 e2;refine wy ?_
   repeat' refine ba (λq'=>?_) λq'=>?_
   exact jj _;exact⟨rfl,trivial⟩
 rintro e h ⟨rfl,rfl⟩;exact wy (jj _)
def aDh(hv:cD v (l.map bq))(T:eY v)(hl:l.length<=1000000000):dM G bB 291 [v] Lo:=by
 refine en (aBw.go ?_);refine wy ?_;refine c8 (λi e h=>∃(o:List Int) (bx:bg),e=[(0,v),(3,bx),(4,bq i)]/\o.length<=i/\(∀x∈o,0<=x/\x<256)/\de h bx (o.map bq) 1 3) 256 ⟨[],.bp,rfl,af,af,tA _ _ _⟩ ?_ ?_;rintro i e h Q ⟨o,bx,rfl,ho,I,hA⟩;obtain⟨cl,g,e1,fM,_⟩:=nv (x:=bq i) (bW:=8) hA (HD o) rfl ag ag ah;have V4:decide ((i:Int)<256)=bh:=ah
 unfold bq at e1;refine wy ?_;refine eo (XD hv hl i) ?_;rintro r ⟨b,rfl⟩;cases b with
 |false=>
  refine wy ?_;exact⟨o,bx,rfl,aa,I,hA⟩
 |true=>
  refine wy ?_;refine⟨o++[(i:Int)],cl,rfl,ah,?_,aLX⟩;intro x hm
  rcases fA.1 hm with z|z
  exact I x z;rw[dW.1 z];omega
 rintro e h ⟨o,bx,rfl,ho,I,hA⟩;have V4:decide (((256:Nat):Int)<256)=bf:=ag
 exact wy (VG hA ho I)
def aIq(hv:cD v (l.map bq))(hw:cD w (m.map bq))(T:eY v)(hd:eY w)(hl:l.length<=1000000000)(hm:m.length<=1000000000)(op:Int):dM G bB 190 [v,w,bq op] Lo:=by
 refine en (aA4.go ?_);refine wy ?_;refine c8 (λi e h=>∃(o:List Int) (bx:bg),e=[(0,v),(1,w),(2,bq op),(7,bx),(8,bq i)]/\o.length<=i/\(∀x∈o,0<=x/\x<256)/\de h bx (o.map bq) 1 3) 256 ⟨[],.bp,rfl,af,af,tA _ _ _⟩ ?_ ?_
 · rintro i e h Q ⟨o,bx,rfl,ho,I,hA⟩
   obtain⟨cl,g,e1,fM,_⟩:=nv (x:=bq i) (bW:=8) hA (HD o) rfl ag ag ah;have V4:decide ((i:Int)<256)=bh:=ah
   unfold bq at e1;refine wy ?_;refine eo (XD hv hl i) ?_;rintro r ⟨b,rfl⟩;refine wy ?_;refine eo (XD hw hm i) ?_;rintro r ⟨b2,rfl⟩;have no:∃(o:List Int) (ju:bg),[(0,v),(1,w),(2,cR (.int .i64 op)),(7,bx),(8,cR (.int .i64 ((i+1:Nat):Int)))]=[(0,v),(1,w),(2,cR (.int .i64 op)),(7,ju),(8,cR (.int .i64 ((i+1:Nat):Int)))]/\o.length<=i+1/\(∀x∈o,0<=x/\x<256)/\de h ju (o.map bq) 1 3:=⟨o,bx,rfl,aa,I,hA⟩;have tw:∃(o:List Int) (ju:bg),[(0,v),(1,w),(2,cR (.int .i64 op)),(7,cl),(8,cR (.int .i64 ((i+1:Nat):Int)))]=[(0,v),(1,w),(2,cR (.int .i64 op)),(7,ju),(8,cR (.int .i64 ((i+1:Nat):Int)))]/\o.length<=i+1/\(∀x∈o,0<=x/\x<256)/\de g ju (o.map bq) 1 3:=by
    refine⟨o++[(i:Int)],cl,rfl,ah,?_,aLX⟩;intro x hm
    rcases fA.1 hm with z|z
    exact I x z;rw[dW.1 z];omega
   cases b<;>cases b2<;>refine wy ?_
   all_goals repeat' ((refine ba (λq'=>?_) λq'=>?_)<;>refine qK @Ao @e1 @ab1 @zU @vv ?_)
   all_goals first
    |(exfalso;omega)
    |exact no
    |exact tw
 rintro e h ⟨o,bx,rfl,ho,I,hA⟩;have V4:decide (((256:Nat):Int)<256)=bf:=ag
 exact wy (VG hA ho I)
end
end
end Go.Proofs.YtplgiomcbchjiaaGreatDoor

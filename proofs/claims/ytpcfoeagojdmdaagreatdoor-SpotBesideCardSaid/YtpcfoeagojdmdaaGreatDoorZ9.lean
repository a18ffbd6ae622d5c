/- Part 9 of a proof. No condition. -/
import Derived.Test.YtpcfoeagojdmdaaGreatDoorZ8
set_option linter.unusedVariables false
set_option linter.unusedSimpArgs false
set_option linter.defProp false
open Bool renaming and_eq_true->fh,false->bf,not_false->vE,not_true->z_,true->bh
open Go.bM.bg renaming agg->dG,cells->jU,mp->c8,one->cq,v->dh
open Go.bM.de renaming nil->tv
open Go.bM.br renaming cells->bw,ck->qj
open Go.bM.tE renaming mk->cQ
open Go.bM.ct renaming mono->cm,pu->dD,aat->eF,pure->h_,aE9->jG
open Go.bM.iF renaming mono->gW
open Go.bM.j4 renaming mono->wX
open Go.bM renaming Clean->eT,marks->KY
open Go.bM.b6 renaming agg->jO,bq->ey,sl->gQ,bQ->fj,v->bH
open Go.bM.e_ renaming append->BS,cons->bF,map->iw,nil->cZ
open Go.Fn renaming func->wY
open Go.IntKind renaming bits->K1,i64->cN,signed->K2,u64->Iq,wrap->acj
open Go.Lib renaming lens->Ac
open Go.Proofs.Tryz renaming prog->bA
open Go.Proofs.YtpcfoeagojdmdaaGreatDoor.Ext renaming app->mA,refl->yK
open Go.Proofs.YtpcfoeagojdmdaaGreatDoor.jf renaming nil->Ae
open Go.Value renaming int->yL
open Int renaming toNat_of_nonneg->arc
open List renaming all_cons->qk,all_eq_true->eG,all_nil->tB,append_assoc->dN,append_nil->fZ,cons_append->jy,drop_of_length_le->w4,drop_succ_cons->Ah,drop_zero->pU,eq_nil_of_length_eq_zero->ou,flatten_cons->vF,getElem?_append_right->fJ,getElem?_cons_zero->ny,getElem?_eq_getElem->cu,getElem?_eq_none_iff->acC,getElem?_eq_some_iff->cJ,getElem?_map->fD,getElem?_set_ne->bC,getElem?_set_self->bT,getElem_mem->Pq,length_append->dO,length_cons->eB,length_drop->ql,length_map->cS,length_nil->gR,length_set->rH,length_singleton->ov,map_append->gz,map_cons->fQ,map_nil->kX,mem_append->fB,mem_cons->fc,mem_cons_of_mem->sw,mem_cons_self->vG,mem_map->dX,mem_of_getElem?->cz,mem_of_mem_drop->rI,mem_or_eq_of_mem_set->Pu,mem_singleton->dP,nil_append->gd,not_mem_nil->pV,set_append_right->arv,set_eq_take_append_cons_drop->arw,sum_cons->Aj,take_length->oW,take_of_length_le->ow,take_zero->mS
open Nat renaming add_assoc->mB,add_zero->nB,eq_zero_or_pos->Dw,le_refl->b_,le_trans->ig,lt_or_ge->ei,sub_self->kY,zero_add->gA,zero_le->j0,zero_lt_succ->w_
open Ne renaming symm->e4
open Option renaming none->bn,some->a_
open Or renaming inl->bD,inr->bG
open UInt8 renaming ofNat->vI
namespace Go.Proofs.YtpcfoeagojdmdaaGreatDoor
open Go Go.bM Go.RowKit
section
variable{a b k:Nat}{h:List br}{x:bg}{aqx:List UInt8}{has:Bool}
def eL(nm:List UInt8)(cr:bg)(i p cj:Bool)(a:Int)(al:Bool)(mv:bg)(ex:List UInt8):List bg:=[bu nm,cr,i,p,cj,a,al,mv,bu ex]
def xp(k:Nat)(h:List br):Prop:=∃(nm:List UInt8) (cr:bg) (i p cj:Bool) (a:Int) (al:Bool) (mv:bg) (ex:List UInt8) (gs:List (List UInt8)),h[k]?=a_ (.cells (eL nm cr i p cj a al mv ex) bf)/\de h cr (gs.map bu) 1 9/\gs.length<=4/\jf 100001 mv/\ex.length<=40000
def oZ(k:Nat)(h h':List br):Prop:=h.length<=h'.length/\∀(j:Nat) b,j≠k->(∀c,b≠.tok c 1 9)->h[j]?=a_ b->h'[j]?=a_ b
def oZ.refl(k)(h):oZ k h h:=⟨b_ _,λ_ _ _ _ q=>q⟩
def oZ.trans{a b c}(h:oZ k a b)(q:oZ k b c):oZ k a c:=⟨ig h.1 q.1,λj x hj hn e=>q.2 j x hj hn (h.2 j x hj hn e)⟩
def oZ.set{x}:oZ k h (h.set k x):=⟨af,λj b hj _ q=>aMe⟩
def oZ.app{l}:oZ k h (h++l):=⟨af,λ_ _ _ _ q=>bU q⟩
section
variable{k:Nat}{h:List br}{nm ex:List UInt8}{cr mv:bg}{i p cj al:Bool}{a:Int}{gs:List (List UInt8)}
def j7{v}{xs}{n}{e}{Z cs'}(hA:de h v xs n e)(S:h[k]?=a_ (.cells Z bf)):de (h.set k (.cells cs' bf)) v xs n e:=by
 rcases hA with z|⟨id,b7,z2⟩
 exact bD z;exact bG ⟨id,b7,by rw[bC (by rintro rfl;rw[S] at z2;cases z2)];exact z2⟩
@[go_sem]def wI(O:h[k]?=a_ (.cells (eL nm cr i p cj a al mv ex) bf)):bz h bf 1 (.mp k 0)=a_ (bu nm)/\bz h bf 1 (.mp k 1)=a_ cr/\bz h bh 9 (.mp k 0)=a_ (.agg (eL nm cr i p cj a al mv ex)):=by
 simp only[bz,O];exact⟨rfl,rfl,rfl⟩
@[go_sem]def am4(O:h[k]?=a_ (.cells (eL nm cr i p cj a al mv ex) bf))(x:Bool):bL h 1 (.mp k 2) x=a_ (h.set k (.cells (eL nm cr x p cj a al mv ex) bf)):=aX
@[go_sem]def am5(O:h[k]?=a_ (.cells (eL nm cr i p cj a al mv ex) bf))(x:Bool):bL h 1 (.mp k 3) x=a_ (h.set k (.cells (eL nm cr i x cj a al mv ex) bf)):=aX
@[go_sem]def am6(O:h[k]?=a_ (.cells (eL nm cr i p cj a al mv ex) bf))(x:Bool):bL h 1 (.mp k 4) x=a_ (h.set k (.cells (eL nm cr i p x a al mv ex) bf)):=aX
@[go_sem]def am7(O:h[k]?=a_ (.cells (eL nm cr i p cj a al mv ex) bf))(x:Int):bL h 1 (.mp k 5) x=a_ (h.set k (.cells (eL nm cr i p cj x al mv ex) bf)):=aX
@[go_sem]def ZU(O:h[k]?=a_ (.cells (eL nm cr i p cj a al mv ex) bf))(x:Bool):bL h 1 (.mp k 6) x=a_ (h.set k (.cells (eL nm cr i p cj a x mv ex) bf)):=aX
@[go_sem]def am8(O:h[k]?=a_ (.cells (eL nm cr i p cj a al mv ex) bf))(x):bL h 1 (.mp k 8) (bu x)=a_ (h.set k (.cells (eL nm cr i p cj a al mv x) bf)):=aX
@[go_sem]def ZV(O:h[k]?=a_ (.cells (eL nm cr i p cj a al mv ex) bf))(I:cq x=bh)(T:x.cells=[x]):bL h 1 (.mp k 7) x=a_ (h.set k (.cells (eL nm cr i p cj a al x ex) bf)):=by
 simp only[bL,O,fu,T];simp[I,dS,eL]
@[go_sem]def ZT(O:h[k]?=a_ (.cells (eL nm cr i p cj a al mv ex) bf))(I:cq x=bh)(T:x.cells=[x]):bL h 1 (.mp k 1) x=a_ (h.set k (.cells (eL nm x i p cj a al mv ex) bf)):=by
 simp only[bL,O,fu,T];simp[I,dS,eL]
end
def IM(G:Cells)(f:FuncId):Prop:=∀(k:Nat) (s:List UInt8) (h:List br),s.length<=100000->xp k h->ct G bA f [.mp k 0,bu s] h λr h'=>jW r/\xp k h'/\oZ k h h'
section
variable{G:Cells}
def aFA:IM G 234:=by
 rintro k s h hs ⟨nm,cr,i,p,cj,a,al,mv,ex,gs,O,hA,hg,hm,he⟩;refine akJ.go ?_;refine wx ?_;exact⟨⟨_,rfl⟩,⟨nm,cr,bh,p,cj,a,al,mv,ex,gs,bT (gl O),j7 hA O,hg,hm,he⟩,oZ.set⟩
def aFB:IM G 235:=by
 rintro k s h hs ⟨nm,cr,i,p,cj,a,al,mv,ex,gs,O,hA,hg,hm,he⟩;refine akK.go ?_;refine wx ?_;exact⟨⟨_,rfl⟩,⟨nm,cr,i,bh,cj,a,al,mv,ex,gs,bT (gl O),j7 hA O,hg,hm,he⟩,oZ.set⟩
def aFC(cF:gu G)(hI:B4 G):IM G 236:=by
 rintro k s h hs ⟨nm,cr,i,p,cj,a,al,mv,ex,gs,O,hA,hg,hm,he⟩;refine akL.go ?_;refine wy ?_;refine eF (aqm cF hI s aa) ?_;rintro r ⟨n,b,rfl,Y,V⟩;refine wx ?_;exact⟨⟨_,rfl⟩,⟨nm,cr,i,p,cj,n,al,mv,ex,gs,bT (gl O),j7 hA O,hg,hm,he⟩,oZ.set⟩
def aFD(cF:gu G):IM G 237:=by
 rintro k s h hs ⟨nm,cr,i,p,cj,a,al,mv,ex,gs,O,hA,hg,hm,he⟩;refine akM.go ?_;refine wy ?_;refine eF (aml cF s hs) ?_;rintro r ⟨x,v,b,rfl,hv⟩;have jB:=bT (a:=.cells (eL nm cr i p cj a x mv ex) bf) (gl O);refine mQ (ZU O) (ZV jB hv.one.1 hv.one.2) ?_;exact⟨⟨_,rfl⟩,⟨nm,cr,i,p,cj,a,x,v,ex,gs,bT (gl jB),j7 (j7 hA O) jB,hg,hv,he⟩,oZ.set.trans oZ.set⟩
def aFz(cF:gu G):IM G 233:=by
 rintro k s h hs ⟨nm,cr,i,p,cj,a,al,mv,ex,gs,O,hA,hg,hm,he⟩;refine akI.go ?_;obtain⟨v',y1,fW,mz⟩:=DQ hA D3;have ln:∀J,cH cr J=a_ (.v (.int .i64 (gs.length:Int)),J):=λJ=>by
  rcases hA with⟨rfl,z⟩|⟨id,rfl,_⟩
  have:gs=[]:=aN
  subst this;rfl;simp[oc,goInt]
 refine wy ?_;refine eF (YJ cF s aa) ?_;rintro r ⟨b,rfl⟩;cases b with
 |false=>
  refine wy ?_;exact⟨⟨_,rfl⟩,⟨nm,cr,i,p,cj,a,al,mv,ex,gs,O,hA,hg,hm,he⟩,oZ.refl _ _⟩
 |true=>
  refine iD ((wI O).2.1) ?_;refine dD (L1 y1 mz aa s) ?_;refine wy (cQ (λq=>?_) λq=>?_);refine wy ?_;exact⟨⟨_,rfl⟩,⟨nm,cr,i,p,cj,a,al,mv,ex,gs,O,hA,hg,hm,he⟩,oZ.refl _ _⟩;refine mQ @q ((wI O).2.1) (cQ (λbt=>?_) λbt=>?_);refine wy ?_;exact⟨⟨_,rfl⟩,⟨nm,cr,i,p,cj,a,al,mv,ex,gs,O,hA,hg,hm,he⟩,oZ.refl _ _⟩;have XU:gs.length<4:=aMr
  obtain⟨cl,g2,e2,fM,bR,bJ,hk2⟩:=nc (x:=bu s) (cc:=16) hA (zL gs) rfl ag ag ah;have ir:∀{j} {b:br},h[j]?=a_ b->(∀c,b≠.tok c 1 9)->g2[j]?=a_ b:=λq O=>hk2 _ _ q λxs z=>by
   rcases hA with⟨b7,_⟩|⟨id,b7,z2⟩
   rw[b7] at z;cases z;rw[b7] at z;cases z;rw[q] at z2;cases z2;exact O _ rfl
  have jB:=ir O af
  have ho:cq cl=bh/\cl.cells=[cl]:=by rcases fM with⟨rfl,_⟩|⟨_,rfl,_⟩<;>exact⟨rfl,rfl⟩
  have ab:eW 1 [bu s]=a_ (.sl [bu s] .exact):=rfl;refine mQ ((wI O).2.1) (ZT jB ho.1 ho.2) ?_;refine⟨⟨_,rfl⟩,⟨nm,cl,i,p,cj,a,al,mv,ex,gs++[s],bT (gl jB),?_,ah,hm,he⟩,?_⟩;rw[gz];exact j7 fM jB;exact oZ.trans ⟨bJ,λj b _ hn q=>ir q hn⟩ oZ.set
def mM(w:List UInt8)(b:Bool)(f:FuncId):List bg:=[bu w,b,.fn (.func f) [] []]
def E6:List (List bg):=[mM [103,114,111,117,112] bh 233,mM [105,110,108,105,110,101] bf 234,mM [112,105,99,107] bf 235,mM [97,116,116,114] bh 236,mM [109,97,114,107,115] bh 237]
def aaa(h):ct G bA 172 [] h λr h'=>r=.sl (E6.map dG) .exact/\h'=h:=by
 refine ake.go ?_;have f1:∀(w) (b:Bool) (f),dI [.v (.string ⟨[].toArray⟩),bf,.v .nilFunc] [(0,1,.v (.string ⟨w.toArray⟩)),(1,1,b),(2,1,.fn (.func f) [] [])]=a_ (mM w b f):=λw b f=>rfl;have ab:eW 3 [.agg (mM [103,114,111,117,112] bh 233),.agg (mM [105,110,108,105,110,101] bf 234),.agg (mM [112,105,99,107] bf 235),.agg (mM [97,116,116,114] bh 236),.agg (mM [109,97,114,107,115] bh 237)]=a_ (.sl (E6.map dG) .exact):=rfl;exact wx tt
def azX(ha:h[a]?=a_ (.cells [bu aqx] bf))(O:h[b]?=a_ (.cells [has] bf))(w)(x)(f):
  ct G bA 173 [.agg (mM w x f),.mp a 0,.mp b 0] h λr h'=>jW r/\h'=h++[.cells (mM w x f) bf]:=by
 refine akf.go ?_;have m1:(h++[bw (mM w x f) bf])[h.length]?=a_ (.cells (mM w x f) bf):=af
 have l0:bz (h++[bw (mM w x f) bf]) bf 1 (.mp h.length 0)=a_ (bu w)/\bz (h++[bw (mM w x f) bf]) bf 1 (.mp h.length 1)=a_ (.v (.bool x)):=by
  simp only[bz,m1];exact⟨rfl,rfl⟩
 refine wy ?_;refine wy (cQ (λq=>?_) λq=>?_);have e1:IX bf (.v (.bool x)) (.v (.bool has))=a_ (.v (.bool (x==has))):=by cases x<;>cases has<;>rfl
 refine wx ?_;exact⟨⟨_,rfl⟩,trivial⟩;refine wx ?_;exact⟨⟨_,rfl⟩,trivial⟩
def azE(ha:h[a]?=a_ (.cells [bu aqx] bf))(O:h[b]?=a_ (.cells [has] bf)):
  ct G bA 171 [.sl (E6.map dG) .exact,.fn (.func 173) [] [.mp a 0,.mp b 0]] h λr h'=>(∃n:Int,r=n/\(n<0\/∃j:Nat,n=(j)/\j<5))/\∃l,h'=h++l:=by
 refine akd.go ?_;refine wy ?_;refine dj (λi e g=>e=[(0,.sl (E6.map dG) .exact),(1,.fn (.func 173) [] [.mp a 0,.mp b 0]),(7,.v (.int .i64 5)),(8,bp i)]/\∃l,g=h++l) 5 ⟨rfl,[],af⟩ ?_ ?_;rintro i e g Q ⟨rfl,l,rfl⟩;have c1:decide ((i:Int)<5)=bh:=ah
 obtain⟨w,x,f,I⟩:∃w x f,(E6.map dG)[i]?=a_ (.agg (mM w x f)):=by
  match i,Q with
  |0,_=>exact⟨_,_,_,rfl⟩
  |1,_=>exact⟨_,_,_,rfl⟩
  |2,_=>exact⟨_,_,_,rfl⟩
  |3,_=>exact⟨_,_,_,rfl⟩
  |4,_=>exact⟨_,_,_,rfl⟩
 have e1:cx 3 (.sl (E6.map dG) .exact) i=a_ (.fp (mM w x f) 0):=lE I rfl;have e2:∀J,bz J bh 3 (.fp (mM w x f) 0)=a_ (.agg (mM w x f)):=λJ=>rfl;refine wy (cm (azX (bU ha) (bU O) w x f) ?_);rintro r g2 ⟨⟨y,rfl⟩,rfl⟩;cases y with
 |true=>
  refine wy ?_;exact⟨⟨_,rfl,bG ⟨i,rfl,Q⟩⟩,l++[.cells (mM w x f) bf],aL2⟩
 |false=>
  refine wx ?_;exact⟨rfl,l++[.cells (mM w x f) bf],aL2⟩
 rintro e g ⟨rfl,l,rfl⟩;have c1:decide (((5:Nat):Int)<5)=bf:=rfl;refine wy ?_;exact⟨⟨_,rfl,bD ag⟩,l,rfl⟩
end
end
section
variable{ex nm:List UInt8}{cr mv:bg}{al i cj p:Bool}{a:Int}{k:Nat}{h:List br}
def vL(x:List bg):Prop:=∃nm cr i p cj a al mv ex,x=eL nm cr i p cj a al mv ex/\jf 4 cr/\jf 100001 mv/\ex.length<=40000
def Vg(r:bg):Prop:=∃(x:List bg) (b:Bool),r=.bQ [.agg x,b]/\vL x
def N1{J}{b:Bool}{gs:List (List UInt8)}(hA:de J cr (gs.map bu) 1 9)(hg:gs.length<=4)(hm:jf 100001 mv)(he:ex.length<=40000):
  ∃n bS,dx J n (.bQ [.agg (eL nm cr i p cj a al mv ex),b])=a_ bS/\Vg bS:=by
 obtain⟨v',b7,z2⟩:=VE hA hg;obtain⟨n,hn⟩:=(fj (bF (jO (bF (bH _) (bF b7 (bF (bH _) (bF (bH _) (bF (bH _) (bF (bH _) (bF (bH _) (bF (hm.fz J) (bF (bH _) cZ)))))))))) (bF (bH (.bool b)) cZ)):b6 J (.bQ [.agg (eL nm cr i p cj a al mv ex),b]) _).done;exact⟨n,_,hn,_,b,rfl,nm,v',i,p,cj,a,al,mv,ex,rfl,z2,hm,he⟩
def xp.app{x}(s:xp k h):xp k (h++x):=by
 obtain⟨nm,cr,i,p,cj,a,al,mv,ex,gs,O,hA,D⟩:=s;exact⟨nm,cr,i,p,cj,a,al,mv,ex,gs,bU O,hA.ext,D⟩
def xp.wN{j}{b b'}(s:xp k h)(hj:h[j]?=a_ b)(O:∀c,b≠.tok c 1 9)(S:j≠k):xp k (h.set j b'):=by
 obtain⟨nm,cr,i,p,cj,a,al,mv,ex,gs,hb',hA,D⟩:=s;refine⟨nm,cr,i,p,cj,a,al,mv,ex,gs,by rw[bC S];exact hb',?_,D⟩
 rcases hA with z|⟨id,b7,z2⟩
 exact bD z;exact bG ⟨id,b7,by rw[bC (by rintro rfl;rw[hj] at z2;cases z2;exact O _ rfl)];exact z2⟩
@[go_sem]def yd{Z x}(O:h[k]?=a_ (.cells Z bf))(T:Z.length=9)(I:x.length=9)(Y:x.all cq=bh):bL h 9 (.mp k 0) (.agg x)=a_ (h.set k (.cells x bf)):=by
 have e:(dG x).cells=x:=rfl;simp only[bL,O,fu];rw[e,if_pos ⟨I,aa,Y⟩];unfold dS;rw[mS,gd,gA,I,w4 aa,fZ]
def HD(hg:cq cr=bh)(hm:cq mv=bh):(eL nm cr i p cj a al mv ex).all cq=bh:=by
 simp only[eL,qk,tB,hg,hm];rfl
def gO:List bg:=eL [] .bq bf bf bf 0 bf .bq []
structure P3(ls:List (List UInt8)):Prop where
 each:∀w∈ls,w.length<=100000
 all:∀n,Ac (ls.drop n)+(ls.drop n).length<=1000000
 len:ls.length<=100000
section
variable{G:Cells}
def aEj(cF:gu G)(hI:B4 G){ls}(hW:P3 ls)(V:2<=ls.length):dV G bA 103 [.sl (ls.map bu) .no] Vg:=by
 refine ep (ajC.go ?_);have cW:=hW.len;obtain⟨n1,qb⟩:∃n,ls[1]?=a_ n:=⟨ls[1],cu aa⟩;have e1:cx 1 (.sl (ls.map bu) .no) (1:Int)=a_ (.fp [bu n1] 0):=lE (x:=bu n1) (by simp[qb]) rfl;have f1:∀x:List UInt8,dI gO [(0,1,bu x),(4,1,bh)]=a_ (eL x .bq bf bf bh 0 bf .bq []):=λx=>rfl;have f0:dI gO []=a_ gO:=rfl;have hz:[dh (.string ⟨[].toArray⟩),.bq,bf,bf,bf,(0:Int),bf,.bq,.v (.string ⟨[].toArray⟩)]=gO:=rfl;have s1:bL [.cells gO bf,.cells gO bf] 9 (.mp 1 0) (.agg (eL n1 .bq bf bf bh 0 bf .bq []))=a_ [.cells gO bf,.cells (eL n1 .bq bf bf bh 0 bf .bq []) bf]:=yd rfl rfl rfl rfl;have cut:∀(n) (J),n<=ls.length->qg 1 (.sl (ls.map bu) .no) (a_ (.v (.int .i64 (n)))) bn bn J=a_ (.sl ((ls.drop n).map bu) .no,J):=λn J hn=>by
  rw[List.map_drop];exact TS aLS Ud J
 have afv:=λJ=>cut 2 J V;have atz:((2:Nat):Int)=2:=rfl;rw[atz] at afv;have l2:(ls.drop 2).length=ls.length-2:=ql ..;refine wy ?_;refine dj (λi e h=>e=[(0,.sl (ls.map bu) .no),(2,.mp 0 0),(4,.mp 1 0),(5,.gm 2),(21,.sl ((ls.drop 2).map bu) .no),(22,bp ((ls.length-2:Nat):Int)),(23,bp i)]/\h[0]?=a_ (.cells gO bf)/\xp 1 h/\∃es cD,h[2]?=a_ (.eS es cD)/\FY es) (ls.length-2)
  ⟨rfl,rfl,⟨n1,.bq,bf,bf,bh,0,bf,.bq,[],[],rfl,bD ⟨rfl,rfl⟩,ag,Ae _,ag⟩,[],0,rfl,λe he=>by cases he⟩ ?_ ?_
 rintro i e h Q ⟨rfl,h0,hN,es,cD,hm,hM⟩;obtain⟨w,hw⟩:∃w,(ls.drop 2)[i]?=a_ w:=⟨(ls.drop 2)[i]' aa,cu aa⟩;have EM:=hW.each w (rI (cz hw));have e2:cx 1 (.sl ((ls.drop 2).map bu) .no) i=a_ (.fp [bu w] 0):=lE (x:=bu w) (by rw[fD,hw];rfl) rfl;refine wy ?_;refine dy (λq=>?_) λq=>?_;have w3:cN.wrap ((i)+3)=((i+3:Nat):Int):=by rw[e6 aa aa];rfl
 refine wy (jG (az6 (ls.drop (i+3)) (hW.all _)) (bO (qZ (bD rfl)) cG) ?_);rintro r ⟨t,rfl,ht⟩;refine wy ?_;refine eF (aak cF t (ig ht (hW.all _))) ?_;rintro r ⟨v,Tv,AQ,rfl,hq⟩;obtain⟨ps,hE⟩:∃ps,tJ v ps:=by
  rcases hq with⟨_,_,ps,hE⟩|⟨_,rfl⟩
  exact⟨ps,hE⟩;exact⟨[],bG ⟨rfl,rfl⟩,λi p h=>av,ag,af⟩
 refine wy (jG (aGF cF hE) (bO (Ge hE) cG) ?_);rintro r ⟨tx,rfl,aiE⟩;obtain⟨nm,cr,i1,p1,cj,a,al,mv,ex,gs,O,hA,hg,lM,he⟩:=hN;have iT:=bT (a:=.cells (eL nm cr i1 p1 bf a al mv ex) bf) (gl O)
 have ho:cq cr=bh:=az
 have p9:((h.set 1 (.cells (eL nm cr i1 p1 bf a al mv ex) bf)).set 1 (.cells (eL nm cr i1 p1 bf a al mv tx) bf))[0]?=a_ (.cells gO bf):=by rw[bC aa,bC aa];exact h0
 have oS:=yd p9 rfl (x:=eL nm cr i1 p1 bf a al mv tx) rfl (HD ho lM.one.1);exact wx (N1 (j7 (j7 (j7 hA O) iT) p9) hg lM aiE);refine eF (afw w 61 aa) ?_;rintro r ⟨a,b,f,rfl,pE,RG⟩;have s0:3<=h.length:=by have:=(gl hm);omega
 have n2:bL (h++[bw [.v (.string ⟨[].toArray⟩)] bf]++[bw [bf] bf]) 1 (.mp h.length 0) (bu a)=a_ (h++[bw [bu a] bf]++[bw [bf] bf]):=by
  rw[rC rfl (v:=.v (.string ⟨[].toArray⟩)) af];simp
 have pK:bL (h++[bw [bu a] bf]++[bw [bf] bf]) 1 (.mp (h.length+1) 0) f=a_ (h++[bw [bu a] bf]++[bw [f] bf]):=by
  have:=T9 (h++[bw [bu a] bf]) bf (x:=f) rfl rfl;simpa using this
 have ka:(h++[bw [bu a] bf]++[bw [f] bf])[h.length]?=a_ (.cells [bu a] bf):=af
 have kb:(h++[bw [bu a] bf]++[bw [f] bf])[h.length+1]?=a_ (.cells [f] bf):=af
 have v8:(h++[bw [bu a] bf]++[bw [f] bf])[0]?=a_ (.cells gO bf):=bU (bU h0);have lg:(h++[bw [bu a] bf]++[bw [f] bf])[2]?=a_ (.eS es cD):=bU (bU hm);have ahu:xp 1 (h++[bw [bu a] bf]++[bw [f] bf]):=hN.app.app;refine mQ @dO.{0} @gA ?_;generalize h++[bw [bu a] bf]++[bw [f] bf]=g at ka kb v8 lg ahu⊢;generalize h.length=m at ka kb s0⊢;refine cm (aaa g) ?_;rintro r g' ⟨rfl,rfl⟩;refine wy (cm (azE ka kb) ?_);rintro r g2 ⟨⟨fH,rfl,ayu⟩,lx,rfl⟩;have alA:(g'++lx)[m]?=a_ (.cells [bu a] bf):=bU ka;have p9:(g'++lx)[0]?=a_ (.cells gO bf):=bU v8;have qD:(g'++lx)[2]?=a_ (.eS es cD):=bU lg;have jA:xp 1 (g'++lx):=ahu.app;generalize g'++lx=g3 at alA p9 qD jA⊢;obtain⟨nl,di⟩:=NR qD hM a;obtain⟨pg,lY,eX,wg⟩:=Zy qD hM a (cN.wrap (nl+1));refine wy ?_;have alB:(g3.set 2 (.eS pg lY))[m]?=a_ (.cells [bu a] bf):=by rw[bC aa];exact alA
 have Mv:(g3.set 2 (.eS pg lY))[0]?=a_ (.cells gO bf):=by rw[bC aa];exact p9
 have M7:(g3.set 2 (.eS pg lY))[2]?=a_ (.eS pg lY):=bT (gl qD);have Ej:xp 1 (g3.set 2 (.eS pg lY)):=jA.wN qD af aa;generalize g3.set 2 (.eS pg lY)=g4 at alB Mv M7 Ej⊢;have jv:=yd Mv rfl (x:=gO) rfl rfl;have k0:=bT (a:=.cells gO bf) (gl Mv);have CM:bz (g4.set 0 (.cells gO bf)) bh 9 (.mp 0 0)=a_ (.agg gO):=(wI k0).2.2;have bad:∃n bS,dx (g4.set 0 (.cells gO bf)) n (.bQ [.agg gO,bf])=a_ bS/\Vg bS:=N1 (gs:=[]) (bD ⟨rfl,rfl⟩) ag (Ae _) ag;obtain⟨N0,n3⟩:=NR M7 wg a;have L7:dM .neq (bu a) (.v (.string ⟨[103,114,111,117,112].toArray⟩))=a_ (.v (.bool !(a==[103,114,111,117,112]))):=zI a [103,114,111,117,112];refine wy (cQ (λq1=>?_) λq1=>?_);exact mP @q1 @f0 @jv @CM bad;obtain⟨j,rfl,hj⟩:∃j:Nat,fH=(j)/\j<5:=by
  rcases ayu with z|z
  simp at q1;omega;exact z
 obtain⟨Uq,sr,f6,ay9,R7⟩:∃w x f,(E6.map dG)[j]?=a_ (.agg (mM w x f))/\IM G f:=by
  match j,hj with
  |0,_=>exact⟨_,_,_,rfl,aFz cF⟩
  |1,_=>exact⟨_,_,_,rfl,aFA⟩
  |2,_=>exact⟨_,_,_,rfl,aFB⟩
  |3,_=>exact⟨_,_,_,rfl,aFC cF hI⟩
  |4,_=>exact⟨_,_,_,rfl,aFD cF⟩
 have zd:cx 3 (.sl (E6.map dG) .exact) (.v (.int .i64 (j)))=a_ (.fp (mM Uq sr f6) 0):=lE ay9 rfl;have Hq:∀J,bz J bf 1 (.fp (mM Uq sr f6) 2)=a_ (.fn (.func f6) [] []):=λJ=>rfl;have k_:(decide ((1:Int)<N0)=bh/\(a==[103,114,111,117,112])=bf)\/decide ((1:Int)<N0)=bf\/(decide ((1:Int)<N0)=bh/\(a==[103,114,111,117,112])=bh):=by
  cases decide ((1:Int)<N0)<;>cases(a==[103,114,111,117,112])<;>simp
 rcases k_ with⟨hd,va⟩|hd|⟨hd,va⟩
 exact qh @q1 (fG alB) @n3 @hd @L7 @va @f0 @jv @CM bad;refine wy (cm (aaa g4) ?_);rintro r g' ⟨rfl,rfl⟩;refine wy (cm (R7 1 b g' aa Ej) ?_);rintro r g5 ⟨⟨y,rfl⟩,MB,zi⟩;have rT:=zi.2 _ _ aa af Mv;have wv:=zi.2 _ _ aa af M7;cases y with
 |false=>
  refine wy ?_;exact N1 (gs:=[]) (bD ⟨rfl,rfl⟩) ag (Ae _) ag
 |true=>
  refine fI ?_;exact⟨rfl,rT,MB,pg,lY,wv,wg⟩
 refine wy (cm (aaa g4) ?_);rintro r g' ⟨rfl,rfl⟩;refine wy (cm (R7 1 b g' aa Ej) ?_);rintro r g5 ⟨⟨y,rfl⟩,MB,zi⟩;have rT:=zi.2 _ _ aa af Mv;cases y with
 |false=>
  refine wy ?_;exact N1 (gs:=[]) (bD ⟨rfl,rfl⟩) ag (Ae _) ag
 |true=>
  refine fI ?_;exact⟨rfl,rT,MB,pg,lY,zi.2 _ _ aa af M7,wg⟩
 rintro e h ⟨rfl,h0,hN,es,cD,hm,hM⟩;obtain⟨nm,cr,i1,p1,cj,a,al,mv,ex,gs,O,hA,hg,lM,he⟩:=hN;have oS:=yd h0 rfl (x:=eL nm cr i1 p1 cj a al mv ex) rfl (HD az lM.one.1)
 exact oq (N1 (j7 hA h0) hg lM he)
end
end
def eV(nm:List UInt8)(v:Int)(al:Bool)(bv:bg):List bg:=[bu nm,v,al,bv]
def oB(x:List bg):Prop:=∃nm v al bv,x=eV nm v al bv/\jf 100001 bv
def II(r:bg):Prop:=∃(x:List bg) (b:Bool),r=.bQ [.agg x,b]/\oB x
def NU{J}{nm}{v}{al b:Bool}{bv}(O:jf 100001 bv):∃n bS,dx J n (.bQ [.agg (eV nm v al bv),b])=a_ bS/\II bS:=by
 obtain⟨n,hn⟩:=(fj (bF (jO (bF (bH _) (bF (bH _) (bF (bH _) (bF (O.fz J) cZ))))) (bF (bH (.bool b)) cZ)):b6 J (.bQ [.agg (eV nm v al bv),b]) _).done;exact⟨n,_,hn,_,b,rfl,nm,v,al,bv,rfl,O⟩
section
variable{k:Nat}{h:List br}{nm:List UInt8}{v:Int}{al:Bool}{bv:bg}
@[go_sem]def SS(O:h[k]?=a_ (.cells (eV nm v al bv) bf)):bz h bf 1 (.mp k 0)=a_ (bu nm)/\bz h bh 4 (.mp k 0)=a_ (.agg (eV nm v al bv)):=by
 simp only[bz,O];exact⟨rfl,rfl⟩
@[go_sem]def SU(O:h[k]?=a_ (.cells (eV nm v al bv) bf))(x:Int):bL h 1 (.mp k 1) x=a_ (h.set k (.cells (eV nm x al bv) bf)):=aX
@[go_sem]def SV(O:h[k]?=a_ (.cells (eV nm v al bv) bf))(x:Bool):bL h 1 (.mp k 2) x=a_ (h.set k (.cells (eV nm v x bv) bf)):=aX
@[go_sem]def SW(O:h[k]?=a_ (.cells (eV nm v al bv) bf)){x}(I:cq x=bh)(T:x.cells=[x]):bL h 1 (.mp k 3) x=a_ (h.set k (.cells (eV nm v al x) bf)):=by
 simp only[bL,O,fu,T];simp[I,dS,eV]
@[go_sem]def CS{Z x}(O:h[k]?=a_ (.cells Z bf))(T:Z.length=4)(I:x.length=4)(Y:x.all cq=bh):bL h 4 (.mp k 0) (.agg x)=a_ (h.set k (.cells x bf)):=by
 have e:(dG x).cells=x:=rfl;simp only[bL,O,fu];rw[e,if_pos ⟨I,aa,Y⟩];unfold dS;rw[mS,gd,gA,I,w4 aa,fZ]
def ZI(O:cq bv=bh):(eV nm v al bv).all cq=bh:=by
 simp only[eV,qk,tB,O];rfl
end
def gw:List bg:=eV [] 0 bf .bq
section
variable{G:Cells}
def aDC(cF:gu G)(hI:B4 G){ls}(hW:P3 ls)(V:2<=ls.length):dV G bA 106 [.sl (ls.map bu) .no] II:=by
 refine ep (ajF.go ?_);have cW:=hW.len;obtain⟨n1,qb⟩:∃n,ls[1]?=a_ n:=⟨ls[1],cu aa⟩;have e1:cx 1 (.sl (ls.map bu) .no) (1:Int)=a_ (.fp [bu n1] 0):=lE (x:=bu n1) (by simp[qb]) rfl;have f1:∀x:List UInt8,dI gw [(0,1,bu x)]=a_ (eV x 0 bf .bq):=λx=>rfl;have f0:dI gw []=a_ gw:=rfl;have hz:[dh (.string ⟨[].toArray⟩),(0:Int),bf,.bq]=gw:=rfl;have s1:bL [.cells gw bf,.cells gw bf] 4 (.mp 1 0) (.agg (eV n1 0 bf .bq))=a_ [.cells gw bf,.cells (eV n1 0 bf .bq) bf]:=CS rfl rfl rfl rfl;have afv:∀J,qg 1 (.sl (ls.map bu) .no) (a_ (.v (.int .i64 2))) bn bn J=a_ (.sl ((ls.drop 2).map bu) .no,J):=λJ=>by
  rw[List.map_drop];exact TS aD Ud J
 have l2:(ls.drop 2).length=ls.length-2:=ql ..;refine wy ?_;refine dj (λi e h=>e=[(2,.mp 0 0),(4,.mp 1 0),(5,.gm 2),(18,.sl ((ls.drop 2).map bu) .no),(19,bp ((ls.length-2:Nat):Int)),(20,bp i)]/\h[0]?=a_ (.cells gw bf)/\(∃x,h[1]?=a_ (.cells x bf)/\oB x)/\∃es cD,h[2]?=a_ (.eS es cD)/\FY es) (ls.length-2)
  ⟨rfl,rfl,⟨_,rfl,n1,0,bf,.bq,rfl,Ae _⟩,[],0,rfl,λe he=>by cases he⟩ ?_ ?_
 · rintro i e h Q ⟨rfl,h0,⟨x,Y,nm,v,al,bv,rfl,xS⟩,es,cD,hm,hM⟩
   obtain⟨w,hw⟩:∃w,(ls.drop 2)[i]?=a_ w:=⟨(ls.drop 2)[i]' aa,cu aa⟩;have EM:=hW.each w (rI (cz hw));have e2:cx 1 (.sl ((ls.drop 2).map bu) .no) i=a_ (.fp [bu w] 0):=lE (x:=bu w) (by rw[fD,hw];rfl) rfl;refine wy ?_;refine eF (afw w 61 aa) ?_;rintro r ⟨a,b,f,rfl,pE,RG⟩;have My:=gl Y;refine wy ?_;refine dy (λq=>?_) λq=>?_;refine eF (aqm cF hI b aa) ?_;rintro r ⟨n,ok,rfl,_,_⟩;have st:=SU Y n;have u6:(h.set 1 (.cells (eV nm n al bv) bf))[1]?=a_ (.cells (eV nm n al bv) bf):=bT My;have rT:(h.set 1 (.cells (eV nm n al bv) bf))[0]?=a_ (.cells gw bf):=by rw[bC aa];exact h0
   have wv:(h.set 1 (.cells (eV nm n al bv) bf))[2]?=a_ (.eS es cD):=by rw[bC aa];exact hm
   refine wy ?_;generalize h.set 1 (.cells (eV nm n al bv) bf)=g5 at u6 rT wv⊢;obtain⟨zJ,v5,y6,uU,XG,tP⟩:∃zJ v5 y6 uU,jf 100001 uU/\eV nm n al bv=eV zJ v5 y6 uU:=⟨_,_,_,_,xS,rfl⟩;rw[tP] at u6
   rotate_left
   refine dy (λbt=>?_) λbt=>?_;refine eF (aml cF b aa) ?_;rintro r ⟨ij,gL,ok,rfl,u_⟩;have st:=SV Y ij;have awB:=bT (a:=.cells (eV nm v ij bv) bf) My;have rB:=SW awB u_.one.1 u_.one.2;have u6:((h.set 1 (.cells (eV nm v ij bv) bf)).set 1 (.cells (eV nm v ij gL) bf))[1]?=a_ (.cells (eV nm v ij gL) bf):=bT (by simpa using My);have rT:((h.set 1 (.cells (eV nm v ij bv) bf)).set 1 (.cells (eV nm v ij gL) bf))[0]?=a_ (.cells gw bf):=by rw[bC aa,bC aa];exact h0
   have wv:((h.set 1 (.cells (eV nm v ij bv) bf)).set 1 (.cells (eV nm v ij gL) bf))[2]?=a_ (.eS es cD):=by rw[bC aa,bC aa];exact hm
   refine wy ?_;generalize(h.set 1 (.cells (eV nm v ij bv) bf)).set 1 (.cells (eV nm v ij gL) bf)=g5 at u6 rT wv⊢;obtain⟨zJ,v5,y6,uU,XG,tP⟩:∃zJ v5 y6 uU,jf 100001 uU/\eV nm v ij gL=eV zJ v5 y6 uU:=⟨_,_,_,_,u_,rfl⟩;rw[tP] at u6
   rotate_left
   obtain⟨g5,GQ⟩:∃g5,g5=h:=⟨h,rfl⟩;obtain⟨zJ,v5,y6,uU,XG,tP⟩:∃zJ v5 y6 uU,jf 100001 uU/\eV nm v al bv=eV zJ v5 y6 uU:=⟨_,_,_,_,xS,rfl⟩;have u6:=Y;have rT:=h0;have wv:=hm;rw[tP] at u6;refine wy ?_;rw[<-GQ] at u6 rT wv⊢;obtain⟨nl,di⟩:=NR wv hM a;obtain⟨pg,lY,eX,wg⟩:=Zy wv hM a (cN.wrap (nl+1));have Eg:(g5.set 2 (.eS pg lY))[0]?=a_ (.cells gw bf):=by rw[bC aa];exact rT
   have Rt:(g5.set 2 (.eS pg lY))[1]?=a_ (.cells (eV zJ v5 y6 uU) bf):=by rw[bC aa];exact u6
   have EA:(g5.set 2 (.eS pg lY))[2]?=a_ (.eS pg lY):=bT (gl wv);refine nv @di @eX ?_;generalize g5.set 2 (.eS pg lY)=g6 at Eg Rt EA⊢;have jv:=CS Eg rfl (x:=gw) rfl rfl;have k0:=bT (a:=.cells gw bf) (gl Eg);have CM:bz (g6.set 0 (.cells gw bf)) bh 4 (.mp 0 0)=a_ (.agg gw):=(SS k0).2;have bad:∃n bS,dx (g6.set 0 (.cells gw bf)) n (.bQ [.agg gw,bf])=a_ bS/\II bS:=NU (Ae _);cases f with
   |false=>
    exact mP @vE @f0 @jv @CM bad
   |true=>
    exact qQ @z_ @vE @f0 @jv @CM bad
   all_goals
    obtain⟨nl,di⟩:=NR wv hM a;obtain⟨pg,lY,eX,wg⟩:=Zy wv hM a (cN.wrap (nl+1));have Eg:(g5.set 2 (.eS pg lY))[0]?=a_ (.cells gw bf):=by rw[bC aa];exact rT
    have Rt:(g5.set 2 (.eS pg lY))[1]?=a_ (.cells (eV zJ v5 y6 uU) bf):=by rw[bC aa];exact u6
    have EA:(g5.set 2 (.eS pg lY))[2]?=a_ (.eS pg lY):=bT (gl wv);refine wy ?_;generalize g5.set 2 (.eS pg lY)=g6 at Eg Rt EA⊢;obtain⟨N0,n3⟩:=NR EA wg a;have jv:=CS Eg rfl (x:=gw) rfl rfl;have k0:=bT (a:=.cells gw bf) (gl Eg);have CM:bz (g6.set 0 (.cells gw bf)) bh 4 (.mp 0 0)=a_ (.agg gw):=(SS k0).2;have bad:∃n bS,dx (g6.set 0 (.cells gw bf)) n (.bQ [.agg gw,bf])=a_ bS/\II bS:=NU (Ae _);cases f with
    |false=>
     exact jE @f0 @jv @CM bad
    |true=>
     cases ok with
     |false=>
      exact jE @f0 @jv @CM bad
     |true=>
      refine wy ?_;refine dy (λnq=>?_) λnq=>?_;exact jE @f0 @jv @CM bad;exact⟨rfl,Eg,⟨_,Rt,zJ,v5,y6,uU,rfl,XG⟩,pg,lY,EA,wg⟩
 rintro e h ⟨rfl,h0,⟨x,Y,nm,v,al,bv,rfl,xS⟩,es,cD,hm,hM⟩;have oS:=CS h0 rfl (x:=eV nm v al bv) rfl (ZI xS.one.1);exact oq (NU xS)
end
section
variable{v:bg}{xs:List (List bg)}{k n:Nat}{x z:List bg}{g h h':List br}{a b:List UInt8}
def sF(v:bg)(xs:List (List bg)):Prop:=(v=.bq/\xs=[])\/∃t,v=.sl (xs.map dG) t
@[go_sem]def sF.len(h:sF v xs)(J):cH v J=a_ (.v (.int .i64 (xs.length:Int)),J):=by
 rcases h with⟨rfl,rfl⟩|⟨t,rfl⟩
 rfl;simp[oc,goInt]
@[go_sem]def sF.cw(h:sF v xs){i:Nat}(I:xs[i]?=a_ x)(hn:x.length=n):cx n v i=a_ (.fp x 0):=by
 rcases h with⟨rfl,rfl⟩|⟨t,rfl⟩
 simp at I;exact lE (x:=.agg x) aA hn
@[go_sem]def sF.gk(hn:x.length=n)(J):bz J bh n (.fp x 0)=a_ (.agg x):=by
 show e9 bh n x 0=_;unfold e9;rw[if_pos rfl,if_pos aa,pU,ow aa]
structure uN(h:List br)(q:bg)(x:List bg):Prop where
 nl:y8 q=a_ q
 ne:∀neg,oD .ptr neg q (.v (.pointer bn))=a_ (.v (.bool neg))
 fa:∀o,∃Ou,k6 o q=a_ Ou/\(∀o2,k6 o2 Ou=k6 (o+o2) q)/\∀g,Ext h g->∀y,x[o]?=a_ y->bz g bf 1 Ou=a_ y
 gk:∀g,Ext h g->bz g bh x.length q=a_ (.agg x)
def uN.ext{q}(s:uN h q x)(he:Ext h h'):uN h' q x:=
 ⟨s.nl,s.ne,λo=>by obtain⟨Ou,Y,h3,V⟩:=s.fa o;exact⟨Ou,Y,h3,λg hg=>V g λj b q=>hg j b (he j b q)⟩,λg hg=>s.gk g λj b q=>hg j b (he j b q)⟩
@[go_sem]def aap(x):e9 bh x.length x 0=a_ (.agg x):=by
 unfold e9;rw[if_pos rfl,if_pos aa,pU,oW]
def uN.fp(h)(x):uN h (.fp x 0) x:=
 ⟨rfl,λneg=>aar x 0 neg,λo=>⟨.fp x (0+o),rfl,λo2=>by simp only[k6,gA,mB],λg _ y hy=>by rw[gA];exact hy⟩,λg _=>aap x⟩
def uN.mp{h}{k}{x}(S:h[k]?=a_ (.cells x bf)):uN h (.mp k 0) x:=
 ⟨rfl,λneg=>aas k 0 neg,λo=>⟨.mp k (0+o),rfl,λo2=>by simp only[k6,gA,mB],λg hg y hy=>by
  have:=hg _ _ S;simp only[bz,this];rw[gA];exact hy⟩,λg hg=>by
  have:=hg _ _ S;simp only[bz,this];exact aap x⟩
structure o4(n:Nat)(h:List br)(v:bg)(xs:List (List bg)):Prop where
 len:∀g,cH v g=a_ (.v (.int .i64 (xs.length:Int)),g)
 cw:∀(i:Nat) x,xs[i]?=a_ x->∃q,cx n v i=a_ q/\uN h q x
 el:∀x∈xs,x.length=n
def o4.ext(s:o4 n h v xs)(he:Ext h h'):o4 n h' v xs:=
 ⟨s.len,λi x I=>by obtain⟨q,Y,V⟩:=s.cw i x I;exact⟨q,Y,V.ext he⟩,s.el⟩
def o4.slc(h)(hv:sF v xs)(hn:∀x∈xs,x.length=n):o4 n h v xs:=
 ⟨hv.len,λi x I=>⟨_,hv.cw I (hn x (cz I)),uN.fp h x⟩,hn⟩
def o4.row(D:kf n h k v xs):o4 n h v xs:=
 ⟨D.len,λi x I=>⟨_,D.cw (gl I),by
  have EN:=(D.each x (cz I)).1;have kp:∀g,Ext h g->kf n g k v xs:=λg hg=>D.keep λZ q=>hg _ _ q;refine⟨HY _ _ _,λneg=>?_,λo=>⟨_,C8 o _ _ _,λo2=>by simp only[k6,mB],λg hg y hy=>((kp g hg).iW I (by have:=(gl hy);omega) hy)⟩,λg hg=>?_⟩;cases neg<;>rfl;have:=(kp g hg).al6 (o:=0) (w:=n) I aa;rw[nB,pU,ow aa] at this;rw[EN];exact this⟩,λx I=>(D.each x I).1⟩
def U7(n:Nat)(r:bg):Prop:=∃m:Int,r=m/\(m= -1\/∃j:Nat,m=(j:Int)/\j<n)
section
variable{G:Cells}{v y:bg}{xs:List (List bg)}{h:List br}
def azF(hv:o4 9 h v xs)(hl:xs.length<=100000)(mG:∀x∈xs,∀g,Ext h g->j4 G bA y [.agg x] g λr g'=>jW r/\∃l,g'=g++l):
  ct G bA 174 [v,y] h λr h'=>U7 xs.length r/\∃l,h'=h++l:=by
 refine akg.go ?_;refine iD @hv.len ?_;refine dj (λi e g=>e=[(0,v),(1,y),(7,bp xs.length),(8,bp i)]/\∃l,g=h++l) xs.length ⟨rfl,[],af⟩ ?_ ?_;rintro i e g Q ⟨rfl,l,rfl⟩;obtain⟨x,I⟩:=dW Q;obtain⟨q,Y,V⟩:=hv.cw i x I;have h3:=V.gk (h++l) mA;rw[(hv.el x (cz I))] at h3;refine wy (wX (mG x (cz I) _ mA) ?_);rintro r g2 ⟨⟨b,rfl⟩,l2,rfl⟩;cases b with
 |true=>
  refine wy ?_;exact⟨⟨_,rfl,bG ⟨i,rfl,Q⟩⟩,l++l2,aL2⟩
 |false=>
  refine wx ?_;exact⟨rfl,l++l2,aL2⟩
 rintro e g ⟨rfl,l,rfl⟩;refine wy ?_;exact⟨⟨_,rfl,bD rfl⟩,l,rfl⟩
def aiY(hv:o4 4 h v xs)(hl:xs.length<=100000)(mG:∀x∈xs,∀g,Ext h g->j4 G bA y [.agg x] g λr g'=>jW r/\∃l,g'=g++l):
  ct G bA 111 [v,y] h λr h'=>U7 xs.length r/\∃l,h'=h++l:=by
 refine ajK.go ?_;refine iD @hv.len ?_;refine dj (λi e g=>e=[(0,v),(1,y),(7,bp xs.length),(8,bp i)]/\∃l,g=h++l) xs.length ⟨rfl,[],af⟩ ?_ ?_;rintro i e g Q ⟨rfl,l,rfl⟩;obtain⟨x,I⟩:=dW Q;obtain⟨q,Y,V⟩:=hv.cw i x I;have h3:=V.gk (h++l) mA;rw[(hv.el x (cz I))] at h3;refine wy (wX (mG x (cz I) _ mA) ?_);rintro r g2 ⟨⟨b,rfl⟩,l2,rfl⟩;cases b with
 |true=>
  refine wy ?_;exact⟨⟨_,rfl,bG ⟨i,rfl,Q⟩⟩,l++l2,aL2⟩
 |false=>
  refine wx ?_;exact⟨rfl,l++l2,aL2⟩
 rintro e g ⟨rfl,l,rfl⟩;refine wy ?_;exact⟨⟨_,rfl,bD rfl⟩,l,rfl⟩
def azT(S:g[k]?=a_ (.cells z bf))(I:x[0]?=a_ (bu a))(hz:z[0]?=a_ (bu b)):
  j4 G bA (.fn (.func 105) [] [.mp k 0]) [.agg x] g λr g'=>jW r/\∃l,g'=g++l:=by
 show ct G bA 105 [.agg x,.mp k 0] g _;refine ajE.go ?_;refine wy ?_;exact⟨⟨_,rfl⟩,_,rfl⟩
def azU(S:g[k]?=a_ (.cells z bf))(I:x[0]?=a_ (bu a))(hz:z[0]?=a_ (bu b)):
  j4 G bA (.fn (.func 108) [] [.mp k 0]) [.agg x] g λr g'=>jW r/\∃l,g'=g++l:=by
 show ct G bA 108 [.agg x,.mp k 0] g _;refine ajH.go ?_;refine wy ?_;exact⟨⟨_,rfl⟩,_,rfl⟩
def asI(hv:o4 9 h v xs)(hl:xs.length<=100000)(mG:∀x∈xs,∀g,Ext h g->j4 G bA y [.agg x] g λr g'=>jW r/\∃l,g'=g++l):
  ct G bA 104 [v,y] h λr h'=>jW r/\∃l,h'=h++l:=by
 refine ajD.go ?_;refine wy (cm (azF hv hl mG) ?_);rintro r g ⟨⟨m,rfl,_⟩,l,rfl⟩;refine wy ?_;exact⟨⟨_,rfl⟩,l,rfl⟩
def asJ(hv:o4 4 h v xs)(hl:xs.length<=100000)(mG:∀x∈xs,∀g,Ext h g->j4 G bA y [.agg x] g λr g'=>jW r/\∃l,g'=g++l):
  ct G bA 107 [v,y] h λr h'=>jW r/\∃l,h'=h++l:=by
 refine ajG.go ?_;refine wy (cm (aiY hv hl mG) ?_);rintro r g ⟨⟨m,rfl,_⟩,l,rfl⟩;refine wy ?_;exact⟨⟨_,rfl⟩,l,rfl⟩
end
end
section
variable{h g:List br}{k o n cc B:Nat}{e:TypeId}{Z xs:List bg}{v x:bg}
def Ao(k n:Nat)(e:TypeId)(h g:List br):Prop:=h.length<=g.length/\∀(j:Nat) b,h[j]?=a_ b->j≠k->(∀c,b≠.tok c n e)->g[j]?=a_ b
def Ao.cells{j:Nat}{c:List bg}{f:Bool}(q:Ao k n e h g)(O:h[j]?=a_ (.cells c f))(hj:j≠k):g[j]?=a_ (.cells c f):=q.2 _ _ O hj af
def Ao.DP{Z:List bg}{m:Nat}{e':TypeId}{w:bg}{ys:List bg}(q:Ao k n e h g)(S:h[k]?=a_ (.cells Z bf))(hw:de h w ys m e')(bR:m≠n\/e'≠e):de g w ys m e':=by
 rcases hw with z|⟨id,b7,z2⟩
 exact bD z;exact bG ⟨id,b7,q.2 _ _ z2 (by rintro rfl;rw[S] at z2;cases z2) aMR⟩
def Ao.own{Z:List bg}{m B:Nat}{e':TypeId}{w:bg}{ys:List bg}(q:Ao k n e h g)(S:h[k]?=a_ (.cells Z bf))(hw:mY B h w ys m e')(bR:m≠n\/e'≠e):mY B g w ys m e':=by
 rcases hw with z|⟨id,b7,z2,z3⟩
 exact bD z;exact bG ⟨id,b7,z2,q.2 _ _ z3 (by rintro rfl;rw[S] at z3;cases z3) aMR⟩
def Ao.lG(q:Ao k n e h g):iY k h g:=⟨q.1,λj c f hj O=>q.cells O hj⟩
@[go_sem]def W2(O:g[k]?=a_ (.cells Z bf))(Y:cq v=bh)(ho:o<Z.length):bL g 1 (.mp k o) v=a_ (g.set k (.cells (Z.set o v) bf)):=DT O Y ho
def Mm(hA:de h v xs n e)(O:h[k]?=a_ (.cells Z bf))(ho:o<Z.length)(iC:cY n xs=bh)(ZX:cY n [x]=bh)(hn:0<n)(hy:0<cc)(hf:(xs.length+1)*cc<=140737488355328):
  ∃v' g,eg h n cc e v (.sl [x] .exact)=a_ (v',g)/\bL g 1 (.mp k o) v'=a_ (g.set k (.cells (Z.set o v') bf))/\cq v'=bh/\de (g.set k (.cells (Z.set o v') bf)) v' (xs++[x]) n e/\(g.set k (.cells (Z.set o v') bf))[k]?=a_ (.cells (Z.set o v') bf)/\Ao k n e h (g.set k (.cells (Z.set o v') bf)):=by
 obtain⟨v',g,e1,hB,_,hl,S⟩:=nc hA iC ZX hn hy hf;have ir:∀{j:Nat} {b:br},h[j]?=a_ b->(∀c,b≠.tok c n e)->g[j]?=a_ b:=λq hn=>S _ _ q λys z=>by
  rcases hA with⟨b7,_⟩|⟨id,b7,z2⟩
  rw[b7] at z;cases z;rw[b7] at z;cases z;rw[q] at z2;cases z2;exact hn _ rfl
 have kb:=ir O af
 have o1:cq v'=bh:=by rcases hB with⟨rfl,_⟩|⟨_,rfl,_⟩<;>rfl
 exact⟨v',g,e1,W2 kb o1 ho,o1,j7 hB kb,bT (gl kb),aI,λj b q hj hn=>by rw[bC (e4 hj)];exact ir q hn⟩
def agL(hA:mY B h v xs n e)(hB:B<=h.length)(O:h[k]?=a_ (.cells Z bf))(ho:o<Z.length)(iC:cY n xs=bh)(ZX:cY n [x]=bh)(hn:0<n)(hy:0<cc)(hf:(xs.length+1)*cc<=140737488355328):
  ∃v' g,eg h n cc e v (.sl [x] .exact)=a_ (v',g)/\bL g 1 (.mp k o) v'=a_ (g.set k (.cells (Z.set o v') bf))/\cq v'=bh/\mY B (g.set k (.cells (Z.set o v') bf)) v' (xs++[x]) n e/\(g.set k (.cells (Z.set o v') bf))[k]?=a_ (.cells (Z.set o v') bf)/\Ao k n e h (g.set k (.cells (Z.set o v') bf)):=by
 obtain⟨v',g,e1,hC,hl,S⟩:=HJ hA hB iC ZX hn hy hf;have ir:∀{j:Nat} {b:br},h[j]?=a_ b->(∀c,b≠.tok c n e)->g[j]?=a_ b:=λq hn=>S _ _ q λys z=>by
  rcases hA with b7|⟨id,b7,_,z2⟩
  rw[b7] at z;cases z;rw[b7] at z;cases z;rw[q] at z2;cases z2;exact hn _ rfl
 have kb:=ir O af
 have o1:cq v'=bh:=by rcases hC with rfl|⟨_,rfl,_⟩<;>rfl
 refine⟨v',g,e1,W2 kb o1 ho,o1,?_,bT (gl kb),aI,λj b q hj hn=>by rw[bC (e4 hj)];exact ir q hn⟩
 rcases hC with z|⟨id,b7,z2,z3⟩
 exact bD z;exact bG ⟨id,b7,z2,by rw[bC (by rintro rfl;rw[kb] at z3;cases z3)];exact z3⟩
end
section
variable{x:List bg}{n:Nat}{xs:List (List bg)}{h:List br}{v:bg}{e:TypeId}
def vL.ok(h:vL x):x.length=9/\x.all cq=bh/\∃nm,x[0]?=a_ (bu nm):=by
 obtain⟨nm,cr,i,p,cj,a,al,mv,ex,rfl,hg,hm,_⟩:=h;exact⟨rfl,HD hg.one.1 hm.one.1,nm,rfl⟩
def oB.ok(h:oB x):x.length=4/\x.all cq=bh/\∃nm,x[0]?=a_ (bu nm):=by
 obtain⟨nm,v,al,bv,rfl,O⟩:=h;exact⟨rfl,ZI O.one.1,nm,rfl⟩
@[go_sem]def wJ(h:∀x∈xs,x.length=n/\x.all cq=bh):cY n (xs.map dG)=bh:=by
 rw[cY,eG];intro y hy;obtain⟨x,I,rfl⟩:=dX.1 hy;obtain⟨Y,V⟩:=h x I;simp only[jU,Y,V,beq_self_eq_true,Bool.and_self]
def AD(hA:de h v (xs.map dG) n e):sF v xs:=by
 rcases hA with⟨q,z⟩|⟨id,q,_⟩
 exact bD ⟨q,aN⟩;exact bG ⟨_,q⟩
structure uH(e1 e2:TypeId)(yV:List bg->Prop)(k:Nat)(bB mv:bg)(cA marks:List (List bg))(h:List br):Prop where
 b:h[k]?=a_ (.cells [bB,mv] bf)
 n:de h bB (cA.map dG) 9 e1
 m:de h mv (marks.map dG) 4 e2
 nj:∀x∈cA,yV x
 hY:∀x∈marks,oB x
 nl:cA.length<=24
 ml:marks.length<=8
abbrev arJ:=uH 109 144 vL
def PJ(k:Nat)(h:List br):Prop:=∃bB mv cA marks,arJ k bB mv cA marks h
section
variable{e1 e2:TypeId}{yV:List bg->Prop}{k:Nat}{bB mv:bg}{cA marks:List (List bg)}{h:List br}
def uH.app{x}(s:uH e1 e2 yV k bB mv cA marks h):uH e1 e2 yV k bB mv cA marks (h++x):=⟨bU s.b,s.n.ext,s.m.ext,s.nj,s.hY,s.nl,s.ml⟩
@[go_sem]def uH.gk(s:uH e1 e2 yV k bB mv cA marks h):bz h bf 1 (.mp k 0)=a_ bB/\bz h bf 1 (.mp k 1)=a_ mv/\bz h bh 2 (.mp k 0)=a_ (.agg [bB,mv]):=by
 simp only[bz,s.b];exact⟨rfl,rfl,rfl⟩
def AB{xs}(hA:de h v xs n e):cq v=bh/\v.cells=[v]:=by
 rcases hA with⟨rfl,_⟩|⟨_,rfl,_⟩<;>exact⟨rfl,rfl⟩
def uH.anZ(s:uH e1 e2 yV k bB mv cA marks h)(hN:∀{x},yV x->x.length=9/\x.all cq=bh/\∃nm,x[0]?=a_ (bu nm))(I:yV x)(hl:cA.length<24):
  ∃kF g,eg h 9 104 e1 bB (.sl [.agg x] .exact)=a_ (kF,g)/\bL g 1 (.mp k 0) kF=a_ (g.set k (.cells [kF,mv] bf))/\uH e1 e2 yV k kF mv (cA++[x]) marks (g.set k (.cells [kF,mv] bf))/\iY k h (g.set k (.cells [kF,mv] bf)):=by
 obtain⟨kF,g,e1,e2,_,hA,O,q⟩:=Mm (cc:=104) (o:=0) s.n s.b af (wJ λy hy=>⟨(hN (s.nj y hy)).1,(hN (s.nj y hy)).2.1⟩) (wJ λy hy=>by rw[dP.1 hy];exact⟨(hN I).1,(hN I).2.1⟩) ag ag ah;exact⟨kF,g,e1,e2,⟨O,by rw[gz];exact hA,q.DP s.b s.m (bD ag),λy hy=>(fB.1 hy).elim (s.nj y) λq=>aNE,s.hY,ah,s.ml⟩,q.lG⟩
def uH.anY(s:uH e1 e2 yV k bB mv cA marks h)(I:oB x)(hl:marks.length<8):
  ∃od g,eg h 4 56 e2 mv (.sl [.agg x] .exact)=a_ (od,g)/\bL g 1 (.mp k 1) od=a_ (g.set k (.cells [bB,od] bf))/\uH e1 e2 yV k bB od cA (marks++[x]) (g.set k (.cells [bB,od] bf))/\iY k h (g.set k (.cells [bB,od] bf)):=by
 obtain⟨od,g,e1,e2,_,hA,O,q⟩:=Mm (cc:=56) (o:=1) s.m s.b af (wJ λy hy=>⟨(s.hY y hy).ok.1,(s.hY y hy).ok.2.1⟩) (wJ λy hy=>by rw[dP.1 hy];exact⟨I.ok.1,I.ok.2.1⟩) ag ag ah;exact⟨od,g,e1,e2,⟨O,q.DP s.b s.n (bD ag),by rw[gz];exact hA,s.nj,λy hy=>(fB.1 hy).elim (s.hY y) λq=>aNE,s.nl,ah⟩,q.lG⟩
@[go_sem]def N2(h)(I:x.length=9)(Y:x.all cq=bh):bL (h++[bw gO bf]) 9 (.mp h.length 0) (.agg x)=a_ (h++[bw x bf]):=by
 rw[yd (Z:=gO) af rfl I Y];simp
@[go_sem]def ZH(h)(I:x.length=4)(Y:x.all cq=bh):bL (h++[bw gw bf]) 4 (.mp h.length 0) (.agg x)=a_ (h++[bw x bf]):=by
 rw[CS (Z:=gw) af rfl I Y];simp
end
section
variable{G:Cells}
def asj(cF:gu G)(hI:B4 G){k}(kS:PJ k h){ls}(hW:P3 ls):
  ct G bA 62 [.mp k 0,.sl (ls.map bu) .no] h λr h'=>(∃e:Int,r=e)/\PJ k h'/\iY k h h':=by
 obtain⟨bB,mv,cA,marks,hS⟩:=kS;refine ajj.go ?_;have cW:=hW.len;have keep:(∃e:Int,dh (.int .i64 2)=.v (.int .i64 e))/\PJ k h/\iY k h h:=⟨⟨2,rfl⟩,⟨bB,mv,cA,marks,hS⟩,iY.refl _ _⟩;have Nu:[dh (.string ⟨[].toArray⟩),.bq,.v (.bool bf),.v (.bool bf),.v (.bool bf),.v (.int .i64 0),.v (.bool bf),.bq,.v (.string ⟨[].toArray⟩)]=gO:=rfl;have aiO:[dh (.string ⟨[].toArray⟩),.v (.int .i64 0),.v (.bool bf),.bq]=gw:=rfl;refine wy ?_;refine dy (λq=>keep) λq=>?_;have V:2<=ls.length:=au
 obtain⟨w1,aiJ⟩:∃n,ls[1]?=a_ n:=⟨ls[1],cu aa⟩;obtain⟨w0,Ns⟩:∃n,ls[0]?=a_ n:=⟨ls[0],cu aa⟩;have e1:cx 1 (.sl (ls.map bu) .no) (1:Int)=a_ (.fp [bu w1] 0):=lE (x:=bu w1) (by simp[aiJ]) rfl;have e0:cx 1 (.sl (ls.map bu) .no) (0:Int)=a_ (.fp [bu w0] 0):=lE (x:=bu w0) (by simp[Ns]) rfl;refine wy ?_;refine eF (YJ cF w1 (by have:=hW.each w1 (cz aiJ);omega)) ?_;rintro r ⟨b,rfl⟩;cases b with
 |false=>
  exact fI keep
 |true=>
  refine wy ?_;refine dy (λaFk=>?_) λaFk=>?_;refine jG (aEj cF hI hW V) (bO (qZ (bD rfl)) cG) ?_;rintro r ⟨x,ok,rfl,I⟩;obtain⟨oL,qd,nm,ua⟩:=I.ok;have nn:=N2 h oL qd;have fe:=hS.app (x:=[bw x bf]);have kx:(h++[bw x bf])[h.length]?=a_ (.cells x bf):=af
  have q4:iY k h (h++[bw x bf]):=iY.app;refine wy ?_;generalize h.length=m at kx⊢;generalize h++[bw x bf]=g at fe kx q4⊢;cases ok with
  |false=>
   refine fI ?_;exact⟨⟨_,rfl⟩,⟨_,_,_,_,fe⟩,q4⟩
  |true=>
   refine wy ?_;refine dy (λaFm=>?_) λaFm=>?_;exact⟨⟨_,rfl⟩,⟨_,_,_,_,fe⟩,q4⟩;refine cm (asI (o4.slc _ (AD fe.n) λy hy=>(hS.nj y hy).ok.1) (by have:=hS.nl;omega) λy hy g2 l_=>azT (l_ _ _ kx) (hS.nj y hy).ok.2.2.choose_spec ua) ?_;rintro r g2 ⟨⟨b,rfl⟩,l2,rfl⟩;have gq:=fe.app (x:=l2);have Hp:(g++l2)[m]?=a_ (.cells x bf):=bU kx;have sS:iY k h (g++l2):=q4.trans iY.app;generalize g++l2=g3 at gq Hp sS⊢;cases b with
   |true=>
    refine fI ?_;exact⟨⟨_,rfl⟩,⟨_,_,_,_,gq⟩,sS⟩
   |false=>
    refine mQ @gq.gk.1 ((AD gq.n).len) (cQ (λnq=>?_) λnq=>?_);refine e3 @nq ?_;exact⟨⟨_,rfl⟩,⟨_,_,_,_,gq⟩,sS⟩;obtain⟨kF,g4,p1,p2,p3,jm⟩:=gq.anZ vL.ok I (by have:=gq.nl;simp at nq;omega);have lx:bz g3 bh 9 (.mp m 0)=a_ (.agg x):=by
     simp only[bz,Hp];unfold e9;rw[if_pos rfl,if_pos aa,pU,ow aa]
    have ab:eW 9 [.agg x]=a_ (.sl [.agg x] .exact):=by
     have:=wJ λy hy=>aLL
     simp only[fQ,kX] at this;simp[eW,this]
    refine wx ?_;exact⟨⟨_,rfl⟩,⟨_,_,_,_,p3⟩,sS.trans jm⟩
  refine dy (λBE=>?_) λBE=>keep;refine jG (aDC cF hI hW V) (bO (qZ (bD rfl)) cG) ?_;rintro r ⟨x,ok,rfl,I⟩;obtain⟨oL,qd,nm,ua⟩:=I.ok;have nn:=ZH h oL qd;have fe:=hS.app (x:=[bw x bf]);have kx:(h++[bw x bf])[h.length]?=a_ (.cells x bf):=af
  have q4:iY k h (h++[bw x bf]):=iY.app;refine wy ?_;generalize h.length=m at kx⊢;generalize h++[bw x bf]=g at fe kx q4⊢;cases ok with
  |false=>
   refine fI ?_;exact⟨⟨_,rfl⟩,⟨_,_,_,_,fe⟩,q4⟩
  |true=>
   refine wx (cm (asJ (o4.slc _ (AD fe.m) λy hy=>(hS.hY y hy).ok.1) (by have:=hS.ml;omega) λy hy g2 l_=>azU (l_ _ _ kx) (hS.hY y hy).ok.2.2.choose_spec ua) ?_);rintro r g2 ⟨⟨b,rfl⟩,l2,rfl⟩;have gq:=fe.app (x:=l2);have Hp:(g++l2)[m]?=a_ (.cells x bf):=bU kx;have sS:iY k h (g++l2):=q4.trans iY.app;generalize g++l2=g3 at gq Hp sS⊢;cases b with
   |true=>
    refine fI ?_;exact⟨⟨_,rfl⟩,⟨_,_,_,_,gq⟩,sS⟩
   |false=>
    refine mQ @gq.gk.2.1 ((AD gq.m).len) (cQ (λnq=>?_) λnq=>?_);refine e3 @nq ?_;exact⟨⟨_,rfl⟩,⟨_,_,_,_,gq⟩,sS⟩;obtain⟨od,g4,p1,p2,p3,jm⟩:=gq.anY I (by have:=gq.ml;simp at nq;omega);have lx:bz g3 bh 4 (.mp m 0)=a_ (.agg x):=by
     simp only[bz,Hp];unfold e9;rw[if_pos rfl,if_pos aa,pU,ow aa]
    have ab:eW 4 [.agg x]=a_ (.sl [.agg x] .exact):=by
     have:=wJ λy hy=>aLL
     simp only[fQ,kX] at this;simp[eW,this]
    refine wx ?_;exact⟨⟨_,rfl⟩,⟨_,_,_,_,p3⟩,sS.trans jm⟩
end
end
section
variable{x:List bg}{h J:List br}{k:Nat}{a b:bg}
def amf:∀(l) (n),Ac (l.drop n)+(l.drop n).length<=Ac l+l.length
 |l,0=>af
 |[],n+1=>af
 |x::r,n+1=>by
  have:=amf r n;simp only[Ah,Ac,eB,fQ,Aj] at this⊢;omega
def apw(c):∀s:List UInt8,Ac (jx c s)+(jx c s).length=s.length+1
 |[]=>by simp[jx,Ac]
 |b::r=>by
  have ih:=apw c r;unfold jx;split;simp only[Ac,eB,fQ,Aj,gR] at ih⊢;omega;split;rename_i he;rw[he] at ih;simp[Ac] at ih;rename_i h t he;rw[he] at ih;simp only[Ac,eB,fQ,Aj] at ih⊢;omega
def aID{s}(hs:s.length<=70000)(c):P3 (jx c s):=by
 obtain⟨Y,V⟩:=OI c s;have h3:=apw c s;exact⟨λw hw=>by have:=V w hw;omega,λn=>by have:=amf (jx c s) n;omega,aa⟩
def arM(bB mv:bg):Prop:=∃cA marks:List (List bg),cC bB (cA.map dG)/\cC mv (marks.map dG)/\(∀x∈cA,vL x)/\(∀x∈marks,oB x)/\cA.length<=24/\marks.length<=8
def acW(r:bg):Prop:=∃(bB mv:bg) (a e:Int),r=.bQ [.agg [bB,mv],bp a,bp e]/\arM bB mv
def vL.fz(h:vL x)(J):b6 J (.agg x) (.agg x):=by
 obtain⟨nm,cr,i,p,cj,a,al,mv,ex,rfl,hg,hm,_⟩:=h;exact jO (bF (bH _) (bF (hg.fz J) (bF (bH _) (bF (bH _) (bF (bH _) (bF (bH _) (bF (bH _) (bF (hm.fz J) (bF (bH _) cZ)))))))))
def oB.fz(h:oB x)(J):b6 J (.agg x) (.agg x):=by
 obtain⟨nm,v,al,bv,rfl,O⟩:=h;exact jO (bF (bH _) (bF (bH _) (bF (bH _) (bF (O.fz J) cZ))))
def aoy{v}{xs:List (List bg)}{n}{e}(hA:de J v (xs.map dG) n e)(I:∀x∈xs,b6 J (.agg x) (.agg x)):∃v',b6 J v v'/\cC v' (xs.map dG):=by
 rcases hA with⟨rfl,z⟩|⟨id,rfl,_⟩
 exact⟨_,ey,bG ⟨rfl,z⟩⟩;exact⟨_,gQ (iw I),bD rfl⟩
def Wm(a e:Int):∃n bS,dx J n (.bQ [.agg [.bq,.bq],a,e])=a_ bS/\acW bS:=by
 obtain⟨n,hn⟩:=(fj (bF (jO (bF ey (bF ey cZ))) (bF (bH (.int .i64 a)) (bF (bH (.int .i64 e)) cZ))):b6 J _ _).done;exact⟨n,_,hn,.bq,.bq,a,e,rfl,[],[],bG ⟨rfl,rfl⟩,bG ⟨rfl,rfl⟩,af,af,ag,ag⟩
@[go_sem]def abF{Z}(O:h[k]?=a_ (.cells Z bf))(T:Z.length=2)(ha:cq a=bh)(jB:cq b=bh):bL h 2 (.mp k 0) (.agg [a,b])=a_ (h.set k (.cells [a,b] bf)):=by
 have e:(dG [a,b]).cells=[a,b]:=rfl;simp only[bL,O,fu];rw[e,if_pos ⟨rfl,aa,by simp[ha,jB]⟩];unfold dS;rw[mS,gd,gA,w4 ah,fZ]
@[go_sem]def aIf(O:h[k]?=a_ (.cells [a,b] bf)):bz h bh 2 (.mp k 0)=a_ (.agg [a,b]):=by
 simp only[bz,O];rfl
def aC6(s):∃v a e,J2 s=(v,a,e)/\(e≠0\/(e=0/\∃ls:List (List UInt8),cC v (ls.map bu)/\ls.length<=65537/\∀l∈ls,l.length<=65536)):=by
 obtain⟨Y,V⟩:=OI 10 s;unfold J2;split;exact⟨_,_,_,rfl,bD ag⟩;split;exact⟨_,_,_,rfl,bG ⟨rfl,[],bG ⟨rfl,rfl⟩,ag,af⟩⟩;split;refine⟨_,_,_,rfl,bG ⟨rfl,_,bD rfl,by rw[List.length_dropLast];omega,λl hl=>?_⟩⟩;have:=V l ((List.dropLast_sublist _).subset hl);omega;exact⟨_,_,_,rfl,bD ag⟩
section
variable{G:Cells}
def aEW(cF:gu G)(hI:B4 G)(s)(hs:s.length<=1000000):dV G bA 41 [bu s] acW:=by
 refine ep (alb.go ?_);obtain⟨v,a,e,aid,hq⟩:=aC6 s;have sp:=aC4 cF s aa;rw[aid] at sp;refine wy ?_;refine dD sp ?_;refine wy ?_
 rcases hq with he|⟨rfl,ls,hv,hl1,jC⟩
 have q:(e !=0)=bh:=aLR
 exact wy (Wm _ _);have ln:=hv.cH;rw[cS] at ln;refine wy ?_;refine dj (λi e h=>e=[(2,.mp 0 0),(8,.mp 1 0),(24,v),(25,bp ls.length),(26,bp i)]/\h[0]?=a_ (.cells [.bq,.bq] bf)/\PJ 1 h) ls.length ⟨rfl,rfl,.bq,.bq,[],[],rfl,bD ⟨rfl,rfl⟩,bD ⟨rfl,rfl⟩,af,af,ag,ag⟩ ?_ ?_;rintro i e h Q ⟨rfl,h0,kS⟩;obtain⟨w,hw⟩:=dW Q;have EM:=jC w (cz hw);have e1:cx 1 v i=a_ (.fp [bu w] 0):=hv.cw (x:=bu w) aLZ rfl;refine wy ?_;refine dD (aG5 cF w aa) ?_;by_cases Ns:w=[];subst Ns;have e0:yx []=(.bq,0):=rfl;rw[e0];have Zk:∀J,cH .bq J=a_ (.v (.int .i64 0),J):=λJ=>rfl;have c0:decide ((0:Int)<0)=bf:=rfl;refine jE @bp.eq_1 @Zk @c0 ?_;exact⟨trivial,h0,kS⟩;by_cases fR:(jx 32 w).all Fu=bh;have e0:yx w=(.sl ((jx 32 w).map bu) .no,0):=by unfold yx;rw[if_neg Ns,if_pos fR]
 rw[e0];refine wy ?_;refine dy (λq=>?_) λq=>?_;refine cm (asj cF hI kS (aID aa 32)) ?_;rintro r g ⟨⟨e,rfl⟩,A2,hB⟩;have p9:=hB.2 _ _ _ ag h0;refine wy ?_;refine dy (λbt=>(Wm _ _)) λbt=>?_;exact⟨rfl,p9,A2⟩;exact⟨rfl,h0,kS⟩;have e0:yx w=(.bq,2):=by unfold yx;rw[if_neg Ns,if_neg fR]
 rw[e0];exact wy (Wm _ _);rintro e h ⟨rfl,h0,bB,mv,cA,marks,hS⟩;have oS:=abF h0 rfl (AB hS.n).1 (AB hS.m).1;refine oq ?_;obtain⟨kF,b7,z2⟩:=aoy (j7 hS.n h0) λx I=>(hS.nj x I).fz _;obtain⟨od,z3,z4⟩:=aoy (j7 hS.m h0) λx I=>(hS.hY x I).fz _;obtain⟨n,hn⟩:=(fj (bF (jO (bF b7 (bF z3 cZ))) (bF (bH (.int .i64 0)) (bF (bH (.int .i64 0)) cZ)))).done;exact⟨n,_,hn,kF,od,0,0,rfl,cA,marks,z2,z4,hS.nj,hS.hY,hS.nl,hS.ml⟩
end
end
section
variable{x:List bg}{k:Nat}{g:List br}{a b:List UInt8}
def p4(x:List bg):Prop:=∃(y:List bg) (b:Bool) (cL:bg),x=y++[.v (.bool b),cL]/\vL y/\(cL=.v (.pointer bn)\/B3 cL)
structure tL(h:List br)(p bB mv:bg)(rows marks:List (List bg)):Prop where
 pp:uN h p [bB,mv]
 rr:o4 11 h bB rows
 uk:o4 4 h mv marks
 rc:∀x∈rows,p4 x
 hY:∀x∈marks,oB x
 rl:rows.length<=24
 ml:marks.length<=8
def tL.ext{h h'}{p bB mv}{rows marks}(s:tL h p bB mv rows marks)(he:Ext h h'):tL h' p bB mv rows marks:=⟨s.pp.ext he,s.rr.ext he,s.uk.ext he,s.rc,s.hY,s.rl,s.ml⟩
def p4.at(h:p4 x):∃nm cr i p cj a al mv ex b cL,x=[bu nm,cr,.v (.bool i),.v (.bool p),.v (.bool cj),.v (.int .i64 a),.v (.bool al),mv,bu ex,.v (.bool b),cL]/\jf 4 cr/\jf 100001 mv/\ex.length<=40000/\(cL=.v (.pointer bn)\/B3 cL):=by
 obtain⟨y,b,cL,rfl,⟨nm,cr,i,p,cj,a,al,mv,ex,rfl,Y,V,h3⟩,h4⟩:=h;exact⟨nm,cr,i,p,cj,a,al,mv,ex,b,cL,rfl,Y,V,h3,h4⟩
section
variable{G:Cells}{h:List br}{p bB mv:bg}{rows marks:List (List bg)}
def aqj(s:tL h p bB mv rows marks):ct G bA 164 [p] h λr h'=>r=.v (.int .i64 (rows.length:Int))/\h'=h:=by
 refine YN.go ?_;obtain⟨q0,f0,_,l0⟩:=s.pp.fa 0;have Y6:=l0 h (yK h) bB rfl;exact Dh @s.pp.ne @s.pp.nl @s.rr.len tt
def arE(h:List br)(rows:List (List bg))(t:Int)(r:bg):Prop:=(r=.v (.pointer bn)/\(t<1\/(rows.length:Int)<t))\/∃(i:Nat) (x:List bg),t=(i:Int)+1/\rows[i]?=a_ x/\uN h r x
def aeg(s:tL h p bB mv rows marks)(t):ct G bA 123 [p,.v (.int .i64 t)] h λr h'=>arE h rows t r/\h'=h:=by
 refine Ss.go ?_;have nN:=s.rl;obtain⟨q0,f0,_,l0⟩:=s.pp.fa 0;have Y6:=l0 h (yK h) bB rfl;refine iD @s.pp.ne ?_;refine dy (λq=>?_) λq=>?_;exact⟨bD ⟨rfl,bD an⟩,trivial⟩;refine mQ @s.pp.nl @s.rr.len ?_;refine dy (λbt=>?_) λbt=>?_;exact⟨bD ⟨rfl,bG aZ⟩,trivial⟩;obtain⟨i,rfl⟩:∃i:Nat,t=(i)+1:=⟨(t-1).toNat,au⟩;have Q:i<rows.length:=aMr
 obtain⟨x,I⟩:=dW Q;obtain⟨Tw,Y,V⟩:=s.rr.cw i x I;have w1:cN.wrap ((i)+1-1)=(i):=by rw[e6 aa aa];omega
 refine iD @s.pp.nl ?_;exact⟨bG ⟨i,x,rfl,I,V⟩,trivial⟩
def azJ(s:tL h p bB mv rows marks)(t):ct G bA 71 [p,.v (.int .i64 t)] h λr h'=>jW r/\h'=h:=by
 refine YM.go ?_;refine wy (cm (aeg s t) ?_);rintro r g ⟨ha,rfl⟩;refine iD @s.pp.ne ?_;refine dy (λq=>?_) λq=>?_;exact⟨⟨_,rfl⟩,trivial⟩
 rcases ha with⟨rfl,_⟩|⟨i,x,rfl,I,J⟩
 refine wx ?_;exact⟨⟨_,rfl⟩,trivial⟩;obtain⟨nm,cr,i1,p1,cj,a,al,vh,ex,b,cL,rfl,_⟩:=(s.rc x (cz I)).at
 obtain⟨q0,f0,avg,_⟩:=J.fa 0;obtain⟨bt,f2,_,l2⟩:=J.fa 2;have aKO:=l2 g (yK g) _ rfl;refine Dh @q @J.ne @J.nl ?_;exact⟨⟨_,rfl⟩,trivial⟩
def azV(S:g[k]?=a_ (.cells [bu b] bf))(I:x[0]?=a_ (bu a)):
  j4 G bA (.fn (.func 110) [] [.mp k 0]) [.agg x] g λr g'=>jW r/\∃l,g'=g++l:=by
 show ct G bA 110 [.agg x,.mp k 0] g _;refine ajJ.go ?_;refine wy ?_;exact⟨⟨_,rfl⟩,_,rfl⟩
def azW(S:g[k]?=a_ (.cells [bu b] bf))(I:x[0]?=a_ (bu a)):
  j4 G bA (.fn (.func 112) [] [.mp k 0]) [.agg x] g λr g'=>jW r/\∃l,g'=g++l:=by
 show ct G bA 112 [.agg x,.mp k 0] g _;refine ajL.go ?_;refine wy ?_;exact⟨⟨_,rfl⟩,_,rfl⟩
def azD{y v}{xs}(hv:o4 11 h v xs)(hl:xs.length<=100000)(mG:∀x∈xs,∀g,Ext h g->j4 G bA y [.agg x] g λr g'=>jW r/\∃l,g'=g++l):
  ct G bA 109 [v,y] h λr h'=>U7 xs.length r/\∃l,h'=h++l:=by
 refine ajI.go ?_;refine iD @hv.len ?_;refine dj (λi e g=>e=[(0,v),(1,y),(7,bp xs.length),(8,bp i)]/\∃l,g=h++l) xs.length ⟨rfl,[],af⟩ ?_ ?_;rintro i e g Q ⟨rfl,l,rfl⟩;obtain⟨x,I⟩:=dW Q;obtain⟨q,Y,V⟩:=hv.cw i x I;have h3:=V.gk (h++l) mA;rw[(hv.el x (cz I))] at h3;refine wy (wX (mG x (cz I) _ mA) ?_);rintro r g2 ⟨⟨b,rfl⟩,l2,rfl⟩;cases b with
 |true=>
  refine wy ?_;exact⟨⟨_,rfl,bG ⟨i,rfl,Q⟩⟩,l++l2,aL2⟩
 |false=>
  refine wx ?_;exact⟨rfl,l++l2,aL2⟩
 rintro e g ⟨rfl,l,rfl⟩;refine wy ?_;exact⟨⟨_,rfl,bD rfl⟩,l,rfl⟩
def arL(n:Nat)(r:bg):Prop:=∃(t:Nat) (b:Bool),r=.bQ [.v (.int .i64 (t:Int)),.v (.bool b)]/\t<=n
def agn(s:tL h p bB mv rows marks)(w):ct G bA 63 [p,bu w] h λr h'=>arL rows.length r/\∃l,h'=h++l:=by
 refine ajk.go ?_;have nN:=s.rl;have et:dM .eql (bu w) (.v (.string ⟨[116,101,120,116].toArray⟩))=a_ (.v (.bool (w==[116,101,120,116]))):=pe w [116,101,120,116];have k1:(h++[bw [bu w] bf])[h.length]?=a_ (.cells [bu w] bf):=af
 have s1:=s.ext (h':=h++[bw [bu w] bf]) mA;obtain⟨q0,f0,_,l0⟩:=s1.pp.fa 0;have Y6:=l0 _ (yK _) bB rfl;refine iD @s.pp.ne ?_;generalize hg:h++[bw [bu w] bf]=g at k1 s1 l0 Y6⊢;refine nv (fG k1) @et ?_;refine dy (λq=>?_) λq=>?_;exact⟨⟨0,bh,rfl,j0 _⟩,_,hg.symm⟩;refine iD @s1.pp.nl ?_;refine cm (azD s1.rr aa λx I g2 l_=>?_) ?_;obtain⟨nm,cr,i1,p1,cj,a,al,vh,ex,b,cL,rfl,_⟩:=(s.rc x I).at
 exact azV (l_ _ _ k1) rfl;rintro r g2 ⟨⟨m,rfl,hm⟩,l,rfl⟩
 rcases hm with rfl|⟨j,rfl,hj⟩
 refine wy ?_;exact⟨⟨0,_,rfl,j0 _⟩,[bw [bu w] bf]++l,by rw[<-hg,dN]⟩;refine wy ?_;exact⟨⟨j+1,_,rfl,aa⟩,[bw [bu w] bf]++l,by rw[<-hg,dN]⟩
end
end
def AR(e:Int):List PanicEntry:=[{v:=.iface 95 (.agg #[.int .i64 e]),recovered:=bf}]
def zF{G}(b:Bool)(e:Int)(J):iF G bA 42 [b,e] J (λr h'=>b=bh/\h'=J) λch h'=>b=bf/\ch=AR e/\h'=J:=by
 refine alc.AY ?_;have f1:dI [.v (.int .i64 0)] [(0,1,.v (.int .i64 e))]=a_ [.v (.int .i64 e)]:=rfl;have c1:rP (.eD 95 (.agg [e]))=a_ (.iface 95 (.agg #[.int .i64 e])):=rfl;cases b with
 |false=>
  refine wx ?_;exact⟨trivial,rfl,trivial⟩
 |true=>
  exact wx tt
section
variable{G:Cells}{h:List br}{p bB mv:bg}{rows marks:List (List bg)}
def avn(s:tL h p bB mv rows marks)(w):ct G bA 65 [p,bu w] h λr h'=>(∃(t:Int) (b:Bool),r=.bQ [t,b])/\∃l,h'=h++l:=by
 refine ajm.go ?_;have n8:=s.ml;have k1:(h++[bw [bu w] bf])[h.length]?=a_ (.cells [bu w] bf):=af
 have s1:=s.ext (h':=h++[bw [bu w] bf]) mA;obtain⟨q1,f1,_,l1⟩:=s1.pp.fa 1;have NI:=l1 _ (yK _) mv rfl;have aKV:∀m:Int,rL bh [.v (.int .i64 m),.v (.int .i64 0)]=a_ (.v (.int .i64 (if(0:Int)>m then 0 else m))):=λm=>rfl;refine iD @s.pp.ne ?_;generalize hg:h++[bw [bu w] bf]=g at k1 s1 l1 NI⊢;refine jE @s1.pp.nl @f1 @NI (cm (aiY s1.uk aa λx I g2 l_=>?_) ?_);obtain⟨nm,v,al,bv,rfl,_⟩:=s.hY x I;exact azW (l_ _ _ k1) rfl;rintro r g2 ⟨⟨m,rfl,hm⟩,l,rfl⟩;refine wy ?_;exact⟨⟨_,_,rfl⟩,[bw [bu w] bf]++l,by rw[<-hg,dN]⟩
def aCc(s:tL h p bB mv rows marks){k}(S:h[k]?=a_ (.cells [p] bf))(w):ct G bA 64 [bu w,.mp k 0] h λr h'=>jW r/\∃l,h'=h++l:=by
 refine ajl.go ?_;refine wy (cm (avn s w) ?_);rintro r g ⟨⟨t,b,rfl⟩,l,rfl⟩;refine wy ?_;exact⟨⟨_,rfl⟩,l,rfl⟩
def tc(n:Nat):bg:=bp (n:Int)
def aww(s:tL h p bB mv rows marks)(w):ct G bA 116 [p,bu w] h λr h'=>(∃ts:List Nat,cC r (ts.map tc)/\(∀t∈ts,t<=24)/\ts.length<=24)/\h'=h:=by
 refine ct.Wf (ajP.go ?_);have nN:=s.rl;refine wy ?_;refine dj (λi e g=>∃ts bx,e=[(0,p),(1,bu w),(5,bx),(6,((i+1:Nat):Int))]/\Ext h g/\de g bx (ts.map tc) 1 3/\(∀id,BL bx id->h.length<=id)/\(∀t∈ts,t<=24)/\ts.length<=i) rows.length ⟨[],.bq,rfl,yK h,bD ⟨rfl,rfl⟩,λid ⟨_,q⟩=>ax,af,j0 _⟩ ?_ ?_;rintro i e g Q ⟨ts,bx,rfl,hE,hA,hid,ht,G5⟩;have s1:=s.ext hE;refine wy (cm (aqj s1) ?_);rintro r g1 ⟨rfl,rfl⟩;refine wy (cm (aeg s1 ((i+1:Nat):Int)) ?_);rintro r g2 ⟨jX,rfl⟩;obtain⟨x,I,J⟩:∃x,rows[i]?=a_ x/\uN g2 r x:=by
  rcases jX with⟨_,z⟩|⟨j,x,z,I,J⟩
  omega;obtain rfl:j=i:=aa
  exact⟨x,I,J⟩
 obtain⟨nm,cr,i1,p1,cj,a,al,vh,ex,b,cL,rfl,Eu,_⟩:=(s.rc x (cz I)).at
 obtain⟨q0,f0,avg,_⟩:=J.fa 0;obtain⟨q1,f1,_,l1⟩:=J.fa 1;have NI:=l1 g2 (yK _) cr rfl;obtain⟨gs,Bc,kU⟩:=Eu;have w2:cN.wrap (((i+1:Nat):Int)+1)=((i+1+1:Nat):Int):=kI aa;refine iD @J.nl (h_ (L1 Bc (qZ Bc) aa w) (bO (qZ Bc) (bO (uX _) cG)) ?_);refine wy (cQ (λq=>?_) λq=>?_);have anr:cY 1 (ts.map tc)=bh:=by
  rw[cY,eG];intro y hy;obtain⟨t,_,rfl⟩:=dX.1 hy;rfl
 obtain⟨cX,g3,di,rU,bR,bJ,wk⟩:=nc (x:=tc (i+1)) (cc:=8) hA anr rfl ag ag ah;have ab:eW 1 [((i+1:Nat):Int)]=a_ (.sl [tc (i+1)] .exact):=rfl;refine wy ?_;refine⟨ts++[i+1],cX,rfl,λj b O=>wk j b (hE j b O) λxs e=>?_,by rw[gz];exact rU,λid ⟨xs,e⟩=>?_,λt h=>?_,ah⟩;have:=hid j ⟨xs,e⟩;have:=gl O;omega
 rcases rU with⟨z,_⟩|⟨n_,z,z2⟩
 rw[z] at e;cases e;rw[z] at e;cases e
 rcases hA with⟨y,fW⟩|⟨YB,y,fW⟩
 rw[y] at di;have Wr:eg g2 1 8 3 .bq (.sl [tc (i+1)] .exact)=a_ (.sl [tc (i+1)] (.tok g2.length),g2++[.tok 1 1 3]):=rfl;rw[Wr] at di;cases di;injection z with b7 z2
 injection z2 with z3
 have:=hE.len;omega;rw[y] at di;have h4:¬([tc (i+1)]=([]:List bg)):=af
 have o1:cY 1 [tc (i+1)]=bh:=rfl;have Wr:eg g2 1 8 3 (.sl (ts.map tc) (.tok YB)) (.sl [tc (i+1)] .exact)=a_ (.sl (ts.map tc++[tc (i+1)]) (.tok YB),g2.set YB (.tok ((ts.map tc).length+1) 1 3)):=by
  simp only[eg,gY,iI,iA,o1,anr,h4,if_false,and_self,w_,if_true,true_and,fW,eB,gR,gA];rw[if_pos ah]
 rw[Wr] at di;cases di;cases z;exact hid _ ⟨_,y⟩
 rcases fB.1 h with h|h
 exact ht t h;rw[dP.1 h];omega;refine nv @q @w2 ?_;exact⟨ts,bx,rfl,hE,hA,hid,ht,aa⟩;rintro e g ⟨ts,bx,rfl,hE,hA,hid,ht,G5⟩;refine wy (cm (aqj (s.ext hE)) ?_);rintro r g1 ⟨rfl,rfl⟩;refine wy ?_;refine⟨hE.split,?_⟩
 rcases hA with⟨rfl,z⟩|⟨id,rfl,_⟩
 obtain⟨n,hn⟩:=(ey:b6 (oN h.length g1) _ _).done;exact⟨n,_,hn,ts,bG ⟨rfl,z⟩,ht,aa⟩;obtain⟨n,hn⟩:=(gQ (iw λa _=>bH _):b6 (oN h.length g1) _ _).done;exact⟨n,_,hn,ts,bD rfl,ht,aa⟩
def atW{v}{ts:List Nat}(h:cC v (ts.map tc)):eT v:=by
 rcases h with rfl|⟨rfl,_⟩
 refine k7 λx I c T=>?_;obtain⟨n,_,rfl⟩:=dX.1 I;rw[dP.1 (show c∈[tc n] from T)];exact cP _;exact Gh (n:=1) rfl
def amG(s:tL h p bB mv rows marks)(w):ct G bA 67 [p,bu w] h λr h'=>∃B l,r=cg B/\h'=h++l:=by
 refine ajo.go ?_;have nN:=s.rl;have s1:=s.ext (h':=h++[bw (bY 0) bf]) mA;have fin:∀(l) (B),(h++[bw (bY 0) bf]++l).set h.length (.cells (bY B) bf)=h++([bw (bY B) bf]++l):=λl B=>by
  rw[dN,arv _ _ (b_ _),kY];rfl
 refine wy (cm (agn s1 w) ?_);rintro r g ⟨⟨t,b,rfl,ht⟩,l,rfl⟩;have k2:(h++[bw (bY 0) bf]++l)[h.length]?=a_ (.cells (bY 0) bf):=bU af;cases b with
 |true=>
  have ab:eW 1 [t]=a_ (.sl ([t].map λn:Nat=>bp (n)) .exact):=rfl;have sp:cI G bA 115 [.sl ([t].map λn:Nat=>bp (n)) .no] (cg (fX [t])):=ZZ (bD rfl) (λn hn=>by rw[dP.1 hn];omega) af;have st:=LM k2 (fX [t]);have gN:=bT (a:=.cells (bY (fX [t])) bf) (gl k2);refine so (h_ sp (bO (k7 λx I c T=>?_) cG) ?_);obtain⟨n,_,rfl⟩:=dX.1 I;rw[dP.1 (show c∈[bp (n)] from T)];exact cP _;refine nv @st (AF gN) ?_;exact⟨_,_,rfl,fin l _⟩
 |false=>
  refine wy (cm (aww (s1.ext mA) w) ?_);rintro v g2 ⟨⟨ts,hv,Y,V⟩,rfl⟩;have st:=LM k2 (fX ts);have gN:=bT (a:=.cells (bY (fX ts)) bf) (gl k2);refine wy (h_ (ZZ hv (λn hn=>by have:=Y n hn;omega) aa) (bO (atW hv) cG) ?_);refine nv @st (AF gN) ?_;exact⟨_,_,rfl,fin l _⟩
def aDP(s:tL h p bB mv rows marks):DB G h (.fn (.func 67) [p] []):=
 ⟨rfl,λw g hw hg=>by
  show ct G bA 67 [p,bu w] g _;exact amG (s.ext hg) w⟩
end
def aHN{cL}(h:cL=.v (.pointer bn)\/B3 cL):cq cL=bh:=by
 rcases h with rfl|⟨rows,rfl,_⟩<;>rfl
def p4.len{x}(h:p4 x):x.length=11/\x.all cq=bh:=by
 obtain⟨nm,cr,i,p,cj,a,al,mv,ex,b,cL,rfl,hg,hm,_,ht⟩:=h.at
 refine⟨rfl,?_⟩;simp only[qk,tB,hg.one.1,hm.one.1,aHN ht];rfl
@[go_sem]def aow{n k}{h}{Z x}(O:h[k]?=a_ (.cells Z bf))(T:Z.length=n)(I:x.length=n)(Y:x.all cq=bh):bL h n (.mp k 0) (.agg x)=a_ (h.set k (.cells x bf)):=by
 have e:(dG x).cells=x:=rfl;simp only[bL,O,fu];rw[e,if_pos ⟨I,aa,Y⟩];unfold dS;rw[mS,gd,gA,I,w4 aa,fZ]
@[go_sem]def OC{n}(h){z x}(hz:z.length=n)(I:x.length=n)(Y:x.all cq=bh):bL (h++[bw z bf]) n (.mp h.length 0) (.agg x)=a_ (h++[bw x bf]):=by
 rw[aow af hz I Y];simp
def TJ:List bg:=[.v (.string ⟨[].toArray⟩),.bq,bf,bf,bf,(0:Int),bf,.bq,.v (.string ⟨[].toArray⟩),bf,.v (.pointer bn)]
def Ext.trans{a b c}(h:Ext a b)(k:Ext b c):Ext a c:=λj x q=>k j x (h j x q)
section
variable{G:Cells}{h:List br}{p bB mv:bg}{rows marks:List (List bg)}
def aD7(s:tL h p bB mv rows marks)(eK:p.cells=[p]):iF G bA 43 [p] h (λr h'=>(∃l,h'=h++l)/\0<rows.length) λch h'=>∃e,e≠0/\ch=AR e/\∃l,h'=h++l:=by
 refine ald.AY ?_;have nN:=s.rl;have n8:=s.ml;have pq:Ext h (h++[bw [p] bf]):=mA;have k1:(h++[bw [p] bf])[h.length]?=a_ (.cells [p] bf):=af
 obtain⟨q0,f0,_,l0⟩:=s.pp.fa 0;obtain⟨q1,f1,_,l1⟩:=s.pp.fa 1;have kk:∀g,Ext (h++[bw [p] bf]) g->bz g bf 1 (.mp h.length 0)=a_ p/\bz g bf 1 q0=a_ bB/\bz g bf 1 q1=a_ mv:=λg hg=>⟨fG (hg _ _ k1),l0 g (pq.trans hg) bB rfl,l1 g (pq.trans hg) mv rfl⟩;have bad:∀(e) (g),e≠0->Ext (h++[bw [p] bf]) g->∃e',e'≠0/\AR e=AR e'/\∃l,g=h++l:=λe g he hg=>⟨e,he,rfl,(pq.trans hg).split⟩;have hz:[dh (.string ⟨[].toArray⟩),.bq,bf,bf,bf,(0:Int),bf,.bq,.v (.string ⟨[].toArray⟩),bf,.v (.pointer bn)]=TJ:=rfl;have aiO:[dh (.string ⟨[].toArray⟩),(0:Int),bf,.bq]=gw:=rfl;refine iP (λe g=>e=[(1,.mp h.length 0)]/\g=h++[bw [p] bf]) ?_ ?_;exact wx tt;rintro e g ⟨rfl,rfl⟩;generalize h++[bw [p] bf]=O at pq k1 kk bad⊢;refine iP (λe g=>e=[(1,.mp h.length 0)]/\g=O/\0<rows.length) ?_ ?_;refine mQ @s.pp.nl @s.rr.len (gW (zF _ 14 O) ?_ ?_);rintro r g ⟨iT,rfl⟩;refine wx ?_;exact⟨trivial,trivial,by simpa using iT⟩;rintro ch g ⟨_,rfl,rfl⟩;exact bad 14 g ag (yK _);rintro e g ⟨rfl,rfl,r3⟩;refine iP (λe g'=>e=[(1,.mp h.length 0)]/\Ext g g') ?_ ?_;refine mQ @s.pp.nl @s.rr.len ?_;refine dj (λi e g'=>e=[(1,.mp h.length 0),(29,bB),(30,bp rows.length),(31,bp i)]/\Ext g g') rows.length ⟨rfl,yK _⟩ ?_ ?_;rintro i e g1 Q ⟨rfl,hE⟩;obtain⟨x,I⟩:=dW Q;have mj:=s.rc x (cz I);obtain⟨Tw,Y,V⟩:=s.rr.cw i x I;have h3:=V.gk g1 (pq.trans hE);rw[mj.len.1] at h3;have n1:=OC (n:=11) g1 (z:=TJ) rfl mj.len.1 mj.len.2;have kx:(g1++[bw x bf])[g1.length]?=a_ (.cells x bf):=af
 have l8:Ext g (g1++[bw x bf]):=hE.qX;obtain⟨nm,cr,i1,p1,cj,a,al,vh,ex,b,cL,rfl,Eu,_⟩:=mj.at
 obtain⟨gs,Bc,kU⟩:=Eu;have NN:=Bc.cH;rw[cS] at NN;refine wy ?_;refine wy ?_;refine dj (λj e g'=>e=[(1,.mp h.length 0),(29,bB),(30,bp rows.length),(31,bp i),(37,cr),(38,bp gs.length),(39,bp j)]/\Ext g g') gs.length ⟨rfl,l8⟩ ?_ ?_;rintro j e g3 hj ⟨rfl,qB⟩;obtain⟨w,hw⟩:=dW hj;have e1:cx 1 cr j=a_ (.fp [bu w] 0):=Bc.cw (x:=bu w) aLZ rfl;refine wy (cm (agn (s.ext (pq.trans qB)) w) ?_);rintro r g4 ⟨⟨t,b,rfl,_⟩,l,rfl⟩;refine wy (gW (zF _ 9 _) ?_ ?_);rintro r g5 ⟨_,rfl⟩;refine wx ?_;exact⟨rfl,qB.qX⟩;rintro ch g5 ⟨_,rfl,rfl⟩;exact bad 9 _ ag qB.qX;rintro e g3 ⟨rfl,qB⟩;refine e3 @bp.eq_1 ?_;exact⟨trivial,qB⟩;rintro e g1 ⟨rfl,hE⟩;refine e3 @bp.eq_1 ?_;exact⟨trivial,hE⟩;rintro e g1 ⟨rfl,hE⟩;obtain⟨x0,JS⟩:=dW r3;obtain⟨aFp,v8,p9⟩:=s.rr.cw 0 x0 JS;obtain⟨am0,aJZ,i0,g_,aCZ,aJo,aJp,aKX,aJR,aJw,aLm,rfl,_⟩:=(s.rc x0 (cz JS)).at
 refine iP (λe g'=>e=[(1,.mp h.length 0)]/\g'=g1) ?_ ?_
 · obtain⟨bS,nu,v0,_⟩:=p9.fa 0
   obtain⟨r2,u2,_,w2⟩:=p9.fa 2;obtain⟨zP,u4,_,wS⟩:=p9.fa 4;have aLp:=w2 g1 (pq.trans hE) _ rfl;have OS:=wS g1 (pq.trans hE) _ rfl;have aJ0:cx 11 bB (0:Int)=a_ aFp:=v8;have done:∀b:Bool,iF G bA 42 [b,(13:Int)] g1 (λr h'=>h'=g1) λch h'=>ch=AR 13/\h'=g1:=λb=>gW (zF b 13 g1) (λr h' q=>q.2) λch h' q=>q.2;cases aCZ with
   |true=>
    refine iD @s.pp.nl (gW (done _) ?_ ?_);rintro r g2 rfl;exact wx tt;rintro ch g2 ⟨rfl,rfl⟩;exact bad 13 _ ag hE
   |false=>
    refine iD @s.pp.nl (gW (done _) ?_ ?_);rintro r g2 rfl;exact wx tt;rintro ch g2 ⟨rfl,rfl⟩;exact bad 13 _ ag hE
 rintro e g2 ⟨rfl,rfl⟩;refine iP (λe g'=>e=[(1,.mp h.length 0)]/\Ext g g') ?_ ?_;refine mQ @s.pp.nl @s.rr.len ?_;refine dj (λi e g'=>e=[(1,.mp h.length 0),(78,bB),(79,bp rows.length),(80,bp i)]/\Ext g g') rows.length ⟨rfl,hE⟩ ?_ ?_
 · rintro i e g1 Q ⟨rfl,hE⟩
   obtain⟨x,I⟩:=dW Q;have mj:=s.rc x (cz I);obtain⟨Tw,Y,V⟩:=s.rr.cw i x I;have h3:=V.gk g1 (pq.trans hE);rw[mj.len.1] at h3;have n1:=OC (n:=11) g1 (z:=TJ) rfl mj.len.1 mj.len.2;have kx:(g1++[bw x bf])[g1.length]?=a_ (.cells x bf):=af
   have l8:Ext g (g1++[bw x bf]):=hE.qX;obtain⟨nm,cr,i1,p1,cj,a,al,vh,ex,b,cL,rfl,Eu,_⟩:=mj.at
   refine wy ?_;generalize g1++[bw _ bf]=g2 at kx l8⊢;have done:∀b:Bool,iF G bA 42 [b,(13:Int)] g2 (λr h'=>h'=g2) λch h'=>ch=AR 13/\h'=g2:=λb=>gW (zF b 13 g2) (λr h' q=>q.2) λch h' q=>q.2;cases cj with
   |true=>
    refine wy (gW (done _) ?_ ?_);rintro r g3 rfl;refine fI ?_;exact⟨rfl,l8⟩;rintro ch g3 ⟨rfl,rfl⟩;exact bad 13 _ ag l8
   |false=>
    refine wy (gW (done _) ?_ ?_);rintro r g3 rfl;refine fI ?_;exact⟨rfl,l8⟩;rintro ch g3 ⟨rfl,rfl⟩;exact bad 13 _ ag l8
 rintro e g1 ⟨rfl,hE⟩;refine e3 @bp.eq_1 ?_;exact⟨trivial,hE⟩;rintro e g3 ⟨rfl,qB⟩;refine iP (λe g'=>e=[(1,.mp h.length 0),(10,.fn (.func 64) [] [.mp h.length 0])]/\g'=g3) ?_ ?_;exact wx tt;rintro e g4 ⟨rfl,rfl⟩;have alR:∀(g'),Ext g g'->∀w,ct G bA 64 [bu w,.mp h.length 0] g' λr h'=>jW r/\∃l,h'=g'++l:=λg' RO w=>aCc (s.ext (pq.trans RO)) (RO _ _ k1) w;refine iP (λe g'=>e=[(1,.mp h.length 0),(10,.fn (.func 64) [] [.mp h.length 0])]/\Ext g g') ?_ ?_;refine mQ @s.pp.nl @s.rr.len ?_;refine dj (λi e g'=>e=[(1,.mp h.length 0),(10,.fn (.func 64) [] [.mp h.length 0]),(99,bB),(100,bp rows.length),(101,bp i)]/\Ext g g') rows.length ⟨rfl,qB⟩ ?_ ?_;rintro i e g1 Q ⟨rfl,hE⟩;obtain⟨x,I⟩:=dW Q;have mj:=s.rc x (cz I);obtain⟨Tw,Y,V⟩:=s.rr.cw i x I;have h3:=V.gk g1 (pq.trans hE);rw[mj.len.1] at h3;have n1:=OC (n:=11) g1 (z:=TJ) rfl mj.len.1 mj.len.2;have kx:(g1++[bw x bf])[g1.length]?=a_ (.cells x bf):=af
 have l8:Ext g (g1++[bw x bf]):=hE.qX;obtain⟨nm,cr,i1,p1,cj,a,al,vh,ex,b,cL,rfl,Eu,lM,_⟩:=mj.at
 obtain⟨ms,M8,ayp⟩:=lM;have NN:=M8.cH;rw[cS] at NN;refine wy ?_;refine wy ?_;refine dj (λj e g'=>e=[(1,.mp h.length 0),(10,.fn (.func 64) [] [.mp h.length 0]),(99,bB),(100,bp rows.length),(101,bp i),(107,vh),(108,bp ms.length),(109,bp j)]/\Ext g g') ms.length ⟨rfl,l8⟩ ?_ ?_;rintro j e g3 hj ⟨rfl,qB⟩;obtain⟨w,hw⟩:=dW hj;have e1:cx 1 vh j=a_ (.fp [bu w] 0):=M8.cw (x:=bu w) aLZ rfl;refine wy (cm (alR g3 qB w) ?_);rintro r g4 ⟨⟨b,rfl⟩,l,rfl⟩;refine wy (gW (zF _ 6 _) ?_ ?_);rintro r g5 ⟨_,rfl⟩;refine wx ?_;exact⟨rfl,qB.qX⟩;rintro ch g5 ⟨_,rfl,rfl⟩;exact bad 6 _ ag qB.qX;rintro e g3 ⟨rfl,qB⟩;refine e3 @bp.eq_1 ?_;exact⟨trivial,qB⟩;rintro e g1 ⟨rfl,hE⟩;refine e3 @bp.eq_1 ?_;exact⟨trivial,hE⟩;rintro e g5 ⟨rfl,awM⟩;refine mQ @s.pp.nl @s.uk.len ?_;refine dj (λi e g'=>e=[(10,.fn (.func 64) [] [.mp h.length 0]),(122,mv),(123,bp marks.length),(124,bp i)]/\Ext g g') marks.length ⟨rfl,awM⟩ ?_ ?_;rintro i e g1 Q ⟨rfl,hE⟩;obtain⟨x,I⟩:=dW Q;have mj:=s.hY x (cz I);obtain⟨Tw,Y,V⟩:=s.uk.cw i x I;have h3:=V.gk g1 (pq.trans hE);rw[mj.ok.1] at h3;have n1:=OC (n:=4) g1 (z:=gw) rfl mj.ok.1 mj.ok.2.1;have kx:(g1++[bw x bf])[g1.length]?=a_ (.cells x bf):=af
 have l8:Ext g (g1++[bw x bf]):=hE.qX;obtain⟨nm,v,al,bv,rfl,xS⟩:=mj;obtain⟨ms,M8,ayp⟩:=xS;have NN:=M8.cH;rw[cS] at NN;refine so ?_;generalize g1++[bw _ bf]=g2 at kx l8⊢;generalize g1.length=m at kx⊢;have SH:bz g2 bf 1 (.mp m 3)=a_ bv:=by simp only[bz,kx];rfl
 refine wx ?_;refine dj (λj e g'=>e=[(10,.fn (.func 64) [] [.mp h.length 0]),(122,mv),(123,bp marks.length),(124,bp i),(129,bv),(130,bp ms.length),(131,bp j)]/\Ext g g') ms.length ⟨rfl,l8⟩ ?_ ?_;rintro j e g3 hj ⟨rfl,qB⟩;obtain⟨w,hw⟩:=dW hj;have e1:cx 1 bv j=a_ (.fp [bu w] 0):=M8.cw (x:=bu w) aLZ rfl;refine wy (cm (alR g3 qB w) ?_);rintro r g4 ⟨⟨b,rfl⟩,l,rfl⟩;refine wy (gW (zF _ 6 _) ?_ ?_);rintro r g5 ⟨_,rfl⟩;refine wx ?_;exact⟨rfl,qB.qX⟩;rintro ch g5 ⟨_,rfl,rfl⟩;exact bad 6 _ ag qB.qX;rintro e g3 ⟨rfl,qB⟩;refine e3 @bp.eq_1 ?_;exact⟨trivial,qB⟩;rintro e g1 ⟨rfl,hE⟩;refine e3 @bp.eq_1 ?_;exact⟨(pq.trans hE).split,r3⟩
end
section
variable{i j o:Nat}{b':br}{x:List bg}{y:bg}
structure p0(ks bZ:Nat)(bB mv:bg)(rows marks:List (List bg))(h:List br):Prop where
 b:h[ks]?=a_ (.cells [bB,mv] bf)
 r:kf 11 h bZ bB rows
 m:sF mv marks
 rc:∀x∈rows,p4 x
 hY:∀x∈marks,oB x
 rl:rows.length<=24
 ml:marks.length<=8
section
variable{ks bZ:Nat}{bB mv:bg}{rows marks:List (List bg)}{h:List br}
def p0.A(s:p0 ks bZ bB mv rows marks h):tL h (.mp ks 0) bB mv rows marks:=⟨uN.mp s.b,o4.row s.r,o4.slc h s.m λx I=>(s.hY x I).ok.1,s.rc,s.hY,s.rl,s.ml⟩
def p0.ext{h'}(s:p0 ks bZ bB mv rows marks h)(he:Ext h h'):p0 ks bZ bB mv rows marks h':=⟨he _ _ s.b,s.r.keep λZ q=>he _ _ q,s.m,s.rc,s.hY,s.rl,s.ml⟩
def p0.set(s:p0 ks bZ bB mv rows marks h)(Y:j≠ks)(V:j≠bZ):p0 ks bZ bB mv rows marks (h.set j b'):=⟨by rw[bC Y];exact s.b,s.r.keep λZ q=>by rw[bC V];exact q,s.m,s.rc,s.hY,s.rl,s.ml⟩
def p0.ne(s:p0 ks bZ bB mv rows marks h):ks≠bZ:=by
 rintro rfl;have V:=s.r.b;rw[s.b] at V;simp at V
def p0.write(s:p0 ks bZ bB mv rows marks h)(I:rows[i]?=a_ x)(ho:o+1<=11)(hy:y.cells=[y])(Y:cq y=bh)(D:p4 (dS x o [y])):
  bL h 1 (.rp bZ rows.flatten.length (i*11+o)) y=a_ (h.set bZ (.cells (rows.set i (dS x o [y])).flatten bh))/\p0 ks bZ bB mv (rows.set i (dS x o [y])) marks (h.set bZ (.cells (rows.set i (dS x o [y])).flatten bh)):=by
 obtain⟨q1,bt⟩:=s.r.st I (by rw[hy];rfl) ho (by rw[hy];simp[Y]);rw[hy] at q1 bt;refine⟨q1,⟨by rw[bC (e4 s.ne)];exact s.b,bt,s.m,λz hz=>?_,s.hY,by rw[rH];exact s.rl,s.ml⟩⟩
 rcases Pu hz with q|rfl
 exact s.rc z q;exact D
end
structure mV(ks bZ i m n:Nat)(bB mv:bg)(marks:List (List bg))(N:Nat)(h0:List br)(rows:List (List bg))(g:List br):Prop where
 s:p0 ks bZ bB mv rows marks g
 kp:∀(j:Nat) b,j≠bZ->h0[j]?=a_ b->g[j]?=a_ b
 le:h0.length<=g.length
 b2:g[n]?=a_ (.cells [.mp ks 0] bf)
 b3:g[n+1]?=a_ (.cells [.rp bZ m (i*11)] bf)
 hn:h0.length<=n
 len:rows.length=N
 hm:rows.flatten.length=m
 lt:ks<h0.length/\bZ<h0.length/\i<N
section
variable{ks bZ i m n:Nat}{bB mv:bg}{marks:List (List bg)}{N:Nat}{h0:List br}{rows:List (List bg)}{g:List br}
def mV.ext{g'}(c:mV ks bZ i m n bB mv marks N h0 rows g)(he:Ext g g'):mV ks bZ i m n bB mv marks N h0 rows g':=
 ⟨c.s.ext he,λj b hj q=>he _ _ (c.kp j b hj q),ig c.le he.len,he _ _ c.b2,he _ _ c.b3,c.hn,c.len,c.hm,c.lt⟩
def mV.set(c:mV ks bZ i m n bB mv marks N h0 rows g)(hj:n+2<=j):mV ks bZ i m n bB mv marks N h0 rows (g.set j b'):=by
 have:=c.lt;have:=c.hn;refine⟨c.s.set aa aa,λj' b wj q=>?_,by simpa using c.le,?_,?_,c.hn,c.len,c.hm,c.lt⟩;have:=gl q;rw[bC aa];exact c.kp j' b wj q;rw[bC aa];exact c.b2;rw[bC aa];exact c.b3
@[go_sem]def mV.at(c:mV ks bZ i m n bB mv marks N h0 rows g):∃x,rows[i]?=a_ x/\p4 x/\∀o y,x[o]?=a_ y->bz g bf 1 (.rp bZ m (i*11+o))=a_ y:=by
 have hl:i<rows.length:=by rw[c.len];exact c.lt.2.2
 refine⟨rows[i],cu hl,c.s.rc _ (Pq hl),λo y hy=>?_⟩;have I:=cu hl;have Y:=(c.s.r.each _ (Pq hl)).1;have:=c.s.r.iW I (by have:=(gl hy);omega) hy
 rwa [c.hm] at this
def mV.write(c:mV ks bZ i m n bB mv marks N h0 rows g)(I:rows[i]?=a_ x)(ho:o+1<=11)(hy:y.cells=[y])(Y:cq y=bh)(D:p4 (dS x o [y])):
  ∃ju g',bL g 1 (.rp bZ m (i*11+o)) y=a_ g'/\mV ks bZ i m n bB mv marks N h0 ju g'/\∀(j) b,j≠bZ->g[j]?=a_ b->g'[j]?=a_ b:=by
 obtain⟨q1,bt⟩:=c.s.write I ho hy Y D;rw[c.hm] at q1;have c6:=c.lt;have hn:=c.hn;have kp:∀(j) b,j≠bZ->g[j]?=a_ b->(g.set bZ (.cells (rows.set i (dS x o [y])).flatten bh))[j]?=a_ b:=λj b hj q=>aMe
 refine⟨_,_,q1,⟨bt,λj b hj q=>kp j b hj (c.kp j b hj q),by simpa using c.le,kp _ _ aa c.b2,kp _ _ aa c.b3,c.hn,by rw[rH];exact c.len,?_,c.lt⟩,kp⟩;rw[Ec bt.r.each,rH,<-Ec c.s.r.each];exact c.hm
def mV.fin{g2}(c:mV ks bZ i m n bB mv marks N h0 rows g)(he:oy h0.length g g2):mV ks bZ i m n bB mv marks N h0 rows g2:=by
 have kc:∀(j:Nat) Z fz,g[j]?=a_ (.cells Z fz)->g2[j]?=a_ (.cells Z fz):=λj Z fz q=>by
  rcases he.2 j with z|⟨_,z,_⟩
  rw[z];exact q;rw[z] at q;cases q
 refine⟨⟨kc _ _ _ c.s.b,c.s.r.keep λZ q=>kc _ _ _ q,c.s.m,c.s.rc,c.s.hY,c.s.rl,c.s.ml⟩,λj b hj q=>?_,by rw[he.1];exact c.le,kc _ _ _ c.b2,kc _ _ _ c.b3,c.hn,c.len,c.hm,c.lt⟩;have mb:=gl q
 rcases he.2 j with z|⟨z,_,_⟩
 rw[z];exact c.kp j b hj q;omega
end
@[go_sem]def aaw(h:o<x.length):dS x o [y]=x.set o y:=by
 unfold dS;rw[ov,arw,if_pos h,dN];rfl
def U2(ks bZ:Nat)(bB mv:bg)(marks:List (List bg))(N:Nat)(h0 h':List br):Prop:=∃rows,p0 ks bZ bB mv rows marks h'/\rows.length=N/\h0.length<=h'.length/\∀(j:Nat) b,j≠bZ->h0[j]?=a_ b->h'[j]?=a_ b
def mV.q{ks bZ i m n}{bB mv}{marks}{N}{h0}{rows}{g}(c:mV ks bZ i m n bB mv marks N h0 rows g):U2 ks bZ bB mv marks N h0 g:=⟨rows,c.s,c.len,c.le,c.kp⟩
def acT(ks bZ:Nat)(bB mv:bg)(marks:List (List bg))(N:Nat)(h0:List br)(ch:List PanicEntry)(h':List br):Prop:=∃e,e≠0/\ch=AR e/\U2 ks bZ bB mv marks N h0 h'
section
variable{G:Cells}
def aun(cF:gu G){ks bZ}{bB mv}{rows marks}{h}(s:p0 ks bZ bB mv rows marks h)(Q:i<rows.length):
  iF G bA 44 [.mp ks 0,.rp bZ rows.flatten.length (i*11)] h (λr h'=>U2 ks bZ bB mv marks rows.length h h') (acT ks bZ bB mv marks rows.length h):=by
 refine ale.AY ?_;have c0:(c8 ks 0).cells=[.mp ks 0]:=rfl;have c1:(bg.rp bZ rows.flatten.length (i*11)).cells=[.rp bZ rows.flatten.length (i*11)]:=rfl;have AZ:mV ks bZ i rows.flatten.length h.length bB mv marks rows.length h rows (h++[bw [c8 ks 0] bf]++[bw [bg.rp bZ rows.flatten.length (i*11)] bf]):=
  ⟨(s.ext mA).ext mA,λj b _ q=>bU (bU q),af,af,aLM,b_ _,rfl,rfl,gl s.b,gl s.r.b,Q⟩
 generalize rows.length=N at AZ⊢;generalize aym:rows.flatten.length=m at AZ c1⊢;have gP:∀(e) (g),e≠0->(∃ju,mV ks bZ i m h.length bB mv marks N h ju g)->∀bl,oy h.length g bl->acT ks bZ bB mv marks N h (AR e) bl:=λe g he ⟨ju,T⟩ bl D=>⟨e,he,rfl,(T.fin D).q⟩;refine eN (λe g=>e=[(2,.mp h.length 0),(3,.mp (h.length+1) 0)]/\g=h++[bw [c8 ks 0] bf]++[bw [bg.rp bZ m (i*11)] bf]) ?_ ?_;refine Df @c0 @c1 @dO.{0} @eB.{0} @gR.{0} @gA ?_;exact⟨trivial,trivial⟩;rintro e g ⟨rfl,rfl⟩;generalize h++[bw [c8 ks 0] bf]++[bw [bg.rp bZ m (i*11)] bf]=g at AZ⊢;clear aym s Q;obtain⟨x,I,mj,s6⟩:=AZ.at
 obtain⟨nm,cr,i1,p1,cj,a,al,vh,ex,b,cL,rfl,Eu,lM,XP,aKF⟩:=mj.at
 have l4:=s6 4 _ rfl;have Hr:=s6 8 _ rfl;have Kc:y8 (.rp bZ m (i*11))=a_ (.rp bZ m (i*11)):=rfl;have Jl:∀o,k6 o (.rp bZ m (i*11))=a_ (.rp bZ m (i*11+o)):=λo=>rfl;have WZ:∀o,k6 o (.rp bZ m (i*11+0))=a_ (.rp bZ m (i*11+o)):=λo=>rfl;cases cj with
 |true=>
  refine qQ (fG AZ.b3) @Kc @Jl @WZ @l4 ?_;rw[HV];intro bl he;exact fI ((AZ.fin he).q)
 |false=>
  refine iP (λe g'=>e=[(2,.mp h.length 0),(3,.mp (h.length+1) 0)]/\g'=g) ?_ ?_;exact qQ (fG AZ.b3) @Kc @Jl @WZ @l4 tt;rintro e g' ⟨rfl,rfl⟩;refine eN (λe uZ=>∃v ps,e=[(2,.mp h.length 0),(3,.mp (h.length+1) 0),(4,v)]/\tJ v ps/\uZ=g') ?_ ?_;refine qQ (fG AZ.b3) @Kc @Jl @WZ @Hr ?_;refine eF (aak cF ex aa) ?_;rintro r ⟨v,Tv,AQ,rfl,hq⟩;obtain⟨ps,hE⟩:∃ps,tJ v ps:=by
   rcases hq with⟨_,_,ps,hE⟩|⟨_,rfl⟩
   exact⟨ps,hE⟩;exact⟨[],bG ⟨rfl,rfl⟩,λi p h=>av,ag,af⟩
  refine e3 @bp.eq_1 ?_;exact⟨v,ps,rfl,hE,trivial⟩;rintro e uZ ⟨v,ps,rfl,hE,rfl⟩;have hz:[dh (.int .u64 0),.v (.int .u64 0),.v (.int .u64 0),.v (.int .u64 0)]=bY 0:=by simp[bY,d_,wd]
  have ahW:h.length+2<=uZ.length:=by have:=(gl AZ.b3);omega
  have GD:=AZ.ext (g':=uZ++[bw (bY 0) bf]) mA;have s8:(uZ++[bw (bY 0) bf])[uZ.length]?=a_ (.cells (bY 0) bf):=af
  refine eN (λe g'=>e=[(2,.mp h.length 0),(3,.mp (h.length+1) 0),(4,v),(7,.mp uZ.length 0)]/\g'=uZ++[bw (bY 0) bf]) ?_ ?_;exact e3 @hz tt;rintro e g1 ⟨rfl,rfl⟩;generalize Yc:uZ.length=m7 at ahW s8⊢;generalize uZ++[bw (bY 0) bf]=g1 at GD s8⊢;refine eN (λe g'=>e=[(2,.mp h.length 0),(3,.mp (h.length+1) 0),(4,v),(7,.mp m7 0),(8,.fn (.func 67) [.mp ks 0] [])]/\g'=g1) ?_ ?_;exact e3 (fG GD.b2) tt;rintro e g2 ⟨rfl,rfl⟩;refine iP (λe g'=>∃A ju,e=[(2,.mp h.length 0),(3,.mp (h.length+1) 0),(4,v),(7,.mp m7 0),(8,.fn (.func 67) [.mp ks 0] [])]/\mV ks bZ i m h.length bB mv marks N h ju g'/\g'[m7]?=a_ (.cells (bY A) bf)) ?_ ?_;refine fI (jG (amS hE) (bO (Ge hE) cG) ?_);rintro r ⟨l,hl,qa,ve⟩;have ln:=hl.cH;rw[cS] at ln;have mm:∀J,cH r J=a_ (.v (.int .i64 (l.length:Int)),J):=λJ=>aLB
  have q7:=hE.len;refine e3 @mm ?_;refine dj (λj e g'=>∃A ju,e=[(2,.mp h.length 0),(3,.mp (h.length+1) 0),(4,v),(7,.mp m7 0),(8,.fn (.func 67) [.mp ks 0] []),(35,r),(36,bp l.length),(37,bp j)]/\mV ks bZ i m h.length bB mv marks N h ju g'/\g'[m7]?=a_ (.cells (bY A) bf)) l.length ⟨0,_,rfl,GD,s8⟩ ?_ ?_;rintro j e g3 hj ⟨A,ju,rfl,hC,s8⟩;obtain⟨w,hw⟩:=dW hj;have e1:cx 1 r (.v (.int .i64 (j)))=a_ (.fp [bu w] 0):=hl.cw (x:=bu w) aLZ rfl;refine Df @bp.eq_1 @e1 @xQ @gd.{0} @jy.{0} @fZ.{0} ?_;refine cm (amG hC.s.A w) ?_;rintro _ g4 ⟨B,lx,rfl,rfl⟩;have n1:=VQ (g3++lx) B;have Eh:=(hC.ext mA).ext (g':=g3++lx++[bw (bY B) bf]) mA;have Su:(g3++lx++[bw (bY B) bf])[m7]?=a_ (.cells (bY A) bf):=bU (bU s8);have JW:(g3++lx++[bw (bY B) bf])[(g3++lx).length]?=a_ (.cells (bY B) bf):=af
  have fz:dI [.v (.int .u64 0),.v (.int .u64 0),.v (.int .u64 0),.v (.int .u64 0)] []=a_ (bY 0):=by rw[hz];rfl
  obtain⟨F8,RF⟩:∃b:Bool,sI [.i,.i,.i,.i] bh (cg B) (.agg (bY 0))=a_ (.v (.bool b)):=by
   obtain⟨d,hd⟩:=WE B 0;refine⟨bh !=d,?_⟩;show(fy [.i,.i,.i,.i] (cg B).cells (cg 0).cells).map (λr=>dh (.bool (bh !=r)))=_;rw[hd];rfl
  refine e3 @n1 ?_;generalize(g3++lx).length=aKU at JW⊢;generalize g3++lx++[bw (bY B) bf]=g5 at Eh Su JW⊢;refine jE (AF JW) @fz @RF (gW (zF F8 6 g5) ?_ ?_);rintro r2 g6 ⟨_,rfl⟩;refine nv (AF JW) (AF Su) (h_ (Kg A B) (bO (mE _) (bO (mE _) cG)) ?_);refine e3 (LM Su (A|||B)) ?_;exact⟨A|||B,ju,rfl,Eh.set ahW,bT (gl Su)⟩;rintro ch g6 ⟨_,rfl,rfl⟩;exact gP 6 _ ag ⟨ju,Eh⟩;rintro e g3 ⟨A,ju,rfl,hC,s8⟩;refine e3 @bp.eq_1 ?_;exact⟨A,ju,trivial,hC,s8⟩;rintro e g3 ⟨A,HX,rfl,aho,ak_⟩;have ahp:=aho.ext (g':=g3++[bw [.v (.bool bf)] bf]) mA;have ala:(g3++[bw [.v (.bool bf)] bf])[m7]?=a_ (.cells (bY A) bf):=bU ak_;have JX:(g3++[bw [.v (.bool bf)] bf])[g3.length]?=a_ (.cells [.v (.bool bf)] bf):=af
  have aDW:=T9 g3 (.v (.bool bf)) (x:=.v (.bool bf)) rfl rfl;have ahU:h.length+2<=g3.length:=by have:=(gl aho.b3);omega
  refine eN (λe g'=>e=[(2,.mp h.length 0),(3,.mp (h.length+1) 0),(4,v),(7,.mp m7 0),(8,.fn (.func 67) [.mp ks 0] []),(12,.mp g3.length 0)]/\g'=g3++[bw [.v (.bool bf)] bf]) ?_ ?_;exact e3 @aDW tt;rintro e g4 ⟨rfl,rfl⟩;have ayj:m7<g3.length:=gl ak_;generalize aKx:g3.length=zD at JX ahU ayj⊢;generalize g3++[bw [.v (.bool bf)] bf]=g4 at ahp ala JX⊢;refine eN (λe g'=>∃ju c,e=[(3,.mp (h.length+1) 0),(4,v),(8,.fn (.func 67) [.mp ks 0] []),(12,.mp zD 0)]/\mV ks bZ i m h.length bB mv marks N h ju g'/\g'[zD]?=a_ (.cells [.v (.bool c)] bf)) ?_ ?_
  · refine e3 (AF ala) (cm (LF A _) ?_)
    rintro _ g5 ⟨rfl,rfl⟩;refine fI ?_;rw[BN];refine⟨_,_,_,rfl,λk S bW ok hR=>?_⟩;have we:=((ahp.ext mA).ext mA).ext (g':=g4++[bw (bY A) bf]++KY bf++[qj .ready bn bW #[54] ok]) mA;have ag8:(g4++[bw (bY A) bf]++KY bf++[qj .ready bn bW #[54] ok])[k]?=a_ (.ck .ready bn bW #[54] ok):=by rw[S];simp[KY]
    have ag9:(g4++[bw (bY A) bf]++KY bf++[qj .ready bn bW #[54] ok])[g4.length]?=a_ (.cells (bY A) bf):=bU (bU af);have NA:(g4++[bw (bY A) bf]++KY bf++[qj .ready bn bW #[54] ok])[zD]?=a_ (.cells [.v (.bool bf)] bf):=bU (bU (bU JX));have kl:h.length+2<=k:=by
     have:=gl JX;rw[S];simp;omega
    show ct _ _ _ _ (g4++[bw (bY A) bf]++KY bf++[qj .ready bn bW #[54] ok]) _;generalize g4++[bw (bY A) bf]++KY bf++[qj .ready bn bW #[54] ok]=X at we ag8 ag9 NA⊢;refine cm (LG cF (Stop:=λ_=>False) (Inv:=λdone g=>∃ju c,mV ks bZ i m h.length bB mv marks N h ju g/\g[zD]?=a_ (.cells [.v (.bool c)] bf)/\g[k]?=a_ (.ck .ready bn bW #[54] ok)) ?_ ag9 ⟨_,bf,we,NA,ag8⟩) ?_
    · rintro done q g6 ⟨OD,gM,Xk,NB,wm⟩ iT ayF
      refine hR [_] g6 _ rfl ⟨bn,wm⟩ ?_;have se:vr [(2,c8 h.length 0),(3,c8 (h.length+1) 0),(4,v),(8,bg.fn (.func 67) [.mp ks 0] []),(12,c8 zD 0),(53,bg.fn (wY 121) [] [c8 g4.length 0])] (List.zip [54] [dh (yL cN (q))])=[(54,dh (yL cN (q))),(2,c8 h.length 0),(3,c8 (h.length+1) 0),(4,v),(8,bg.fn (.func 67) [.mp ks 0] []),(12,c8 zD 0),(53,bg.fn (wY 121) [] [c8 g4.length 0])]:=rfl;rw[se];refine fI ?_;refine⟨⟨bn,wm⟩,λgG=>?_⟩;have ZQ:k≠zD:=by rintro rfl;rw[NB] at wm;cases wm
      have Ei:=Xk.set (b':=.ck .busy gG bW #[54] ok) kl;have So:(g6.set k (.ck .busy gG bW #[54] ok))[zD]?=a_ (.cells [.v (.bool gM)] bf):=by rw[bC ZQ];exact NB
      have M0:(g6.set k (.ck .busy gG bW #[54] ok))[k]?=a_ (.ck .busy gG bW #[54] ok):=bT (gl wm);generalize g6.set k (.ck .busy gG bW #[54] ok)=g7 at Ei So M0⊢;have fin:∀(g8) aaS ie,mV ks bZ i m h.length bB mv marks N h aaS g8->g8[zD]?=a_ (.cells [.v (.bool ie)] bf)->g8[k]?=a_ (.ck .busy gG bW #[54] ok)->
        (∃st pd,g8[k]?=a_ (.ck st pd bW #[54] ok))/\∃c:Bool,dh (.bool bh)=.v (.bool c)/\(c=bh->∃ju c,mV ks bZ i m h.length bB mv marks N h ju (g8.set k (.ck .ready bn bW #[54] ok))/\(g8.set k (.ck .ready bn bW #[54] ok))[zD]?=a_ (.cells [.v (.bool c)] bf)/\(g8.set k (.ck .ready bn bW #[54] ok))[k]?=a_ (.ck .ready bn bW #[54] ok))/\(c=bf->False):=λg8 aaS ie Y V h3=>
       ⟨⟨.busy,gG,h3⟩,bh,rfl,λ_=>⟨aaS,ie,Y.set kl,by rw[bC ZQ];exact V,bT (gl h3)⟩,λz=>by cases z⟩
      refine e3 (fG Ei.b2) (cm (azJ Ei.s.A (q)) ?_);rintro r g8 ⟨⟨b,rfl⟩,rfl⟩;cases b with
      |true=>
       obtain⟨x,I,mj,_⟩:=Ei.at
       have uc:p4 (dS x 9 [.v (.bool bh)]):=by
        obtain⟨y,b,cL,rfl,hy,ht⟩:=mj;obtain⟨h9,_⟩:=hy.ok;refine⟨y,bh,cL,?_,hy,ht⟩;rw[aaw ah,arv _ _ aa,h9];rfl
       obtain⟨aox,g9,tP,Xl,Y4⟩:=Ei.write I ag rfl rfl uc;refine mP (fG Ei.b3) @Kc @Jl @tP ?_;have BB:bZ≠zD/\bZ≠k:=by
        have:=Ei.lt;exact⟨aa,aa⟩
       exact fin g9 aox gM Xl (Y4 _ _ (e4 BB.1) So) (Y4 _ _ (e4 BB.2) M0)
      |false=>
       have aGh:=rC (w:=.v (.bool bh)) rfl So;exact e3 @aGh (fin _ OD bh (Ei.set ahU) (bT (gl So)) (by rw[bC (e4 ZQ)];exact M0))
    rintro r g6 ⟨rfl,⟨OD,gM,Xk,NB,wm⟩|hf⟩;refine⟨.ready,bn,wm,ag,?_⟩;refine e3 @Bt.eq_1 ?_;exact⟨OD,gM,trivial,Xk.set kl,by rw[bC (by rintro rfl;rw[NB] at wm;cases wm)];exact NB⟩;exact hf.elim
  rintro e g5 ⟨aLe,c5,rfl,we,NA⟩;refine iP (λe g'=>e=[(3,.mp (h.length+1) 0),(4,v),(8,.fn (.func 67) [.mp ks 0] [])]/\g'=g5) ?_ ?_
  · have done:∀b:Bool,iF G bA 42 [.v (.bool b),.v (.int .i64 13)] g5 (λr h'=>h'=g5) λch h'=>ch=AR 13/\h'=g5:=λb=>gW (zF b 13 g5) (λr h' q=>q.2) λch h' q=>q.2
    obtain⟨x,I,mj,s6⟩:=we.at
    obtain⟨nm,cr,i1,p1,cj,a,al,vh,ex,b,cL,rfl,_⟩:=mj.at
    have ya:=s6 9 _ rfl;cases c5 with
    |true=>
     refine qQ (fG NA) (fG we.b3) @Kc @Jl @ya (gW (done _) ?_ ?_);rintro r g6 rfl;exact fI tt;rintro ch g6 ⟨rfl,rfl⟩;exact gP 13 _ ag ⟨_,we⟩
    |false=>
     refine e3 (fG NA) (gW (done _) ?_ ?_);rintro r g6 rfl;exact fI tt;rintro ch g6 ⟨rfl,rfl⟩;exact gP 13 _ ag ⟨_,we⟩
  rintro e g6 ⟨rfl,rfl⟩;refine eN (λe g'=>∃ec f,e=[(3,.mp (h.length+1) 0),(14,ec),(15,.v (.int .i64 f))]/\((f=0/\Li ec)\/f≠0)/\g'=g6) ?_ ?_;refine fI (cm (aD9 cF hE (aDP we.s.A) λneg=>aL1) ?_);rintro r g7 ⟨⟨ec,f,rfl,hq⟩,rfl⟩;refine e3 @bp.eq_1 ?_;exact⟨ec,f,rfl,hq.imp id λz=>z.1,trivial⟩;rintro e g7 ⟨ec,f,rfl,EC,rfl⟩;refine iP (λe g'=>e=[(3,.mp (h.length+1) 0),(14,ec)]/\g'=g7/\Li ec) ?_ ?_;refine fI (gW (zF _ f g7) ?_ ?_);rintro r g8 ⟨hf,rfl⟩;have axA:f=0:=aNo
  refine fI ?_;exact⟨trivial,trivial,EC.elim (λz=>z.2) λz=>absurd axA z⟩;rintro ch g8 ⟨hf,rfl,rfl⟩;exact gP f _ aNo ⟨_,we⟩;rintro e g8 ⟨rfl,rfl,hN⟩;have jH:eT ec:=by
   obtain⟨on,cy,bx,bv,F,E,e,rfl,ho,O,_⟩:=hN;exact afc ho O
  refine eN (λe g'=>∃tab f,e=[(3,.mp (h.length+1) 0),(15,.v (.int .i64 f)),(16,tab)]/\((f=0/\B3 tab)\/f≠0)/\g'=g8) ?_ ?_;refine fI ?_;refine eF (aEa cF hN) ?_;rintro r ⟨tab,f,rfl,hq⟩;refine e3 @bp.eq_1 ?_;exact⟨tab,f,rfl,hq.imp id λz=>z.1,trivial⟩;rintro e g9 ⟨tab,f,rfl,ay1,rfl⟩;refine iP (λe g'=>e=[(3,.mp (h.length+1) 0),(16,tab)]/\g'=g9/\B3 tab) ?_ ?_;refine fI (gW (zF _ f g9) ?_ ?_);rintro r g8 ⟨hf,rfl⟩;refine fI ?_;exact⟨trivial,trivial,ay1.elim (λz=>z.2) λz=>absurd aNo z⟩;rintro ch g8 ⟨hf,rfl,rfl⟩;exact gP f _ aNo ⟨_,we⟩;rintro e avL ⟨rfl,rfl,hT⟩;obtain⟨x,I,mj,_⟩:=we.at
  have uc:p4 (dS x 10 [tab]):=by
   obtain⟨y,b,cL,rfl,hy,ht⟩:=mj;obtain⟨h9,_⟩:=hy.ok;refine⟨y,b,tab,?_,hy,bG hT⟩;rw[aaw ah,arv _ _ aa,h9];rfl
  have Nn:tab.cells=[tab]/\cq tab=bh:=by
   obtain⟨rows,rfl,_⟩:=hT;exact⟨rfl,rfl⟩
  obtain⟨aox,aJW,tP,Xl,Y4⟩:=we.write I ag Nn.1 Nn.2 uc;refine mP (fG we.b3) @Kc @Jl @tP ?_;rw[aaO];intro bl he;exact fI ((Xl.fin he).q)
end
end
section
variable{x:List bg}{g h J:List br}{ks:Nat}{mv oP v0 v1:bg}{marks rows:List (List bg)}{e:Int}
def Ll(x:bg):Prop:=∃(bB mv:bg) (rows marks:List (List bg)),x=.fp [bB,mv] 0/\cC bB (rows.map dG)/\cC mv (marks.map dG)/\(∀x∈rows,p4 x)/\(∀x∈marks,oB x)/\0<rows.length/\rows.length<=24/\marks.length<=8
def P0(r:bg):Prop:=∃(x:bg) (e:Int),r=.bQ [x,bp e]/\((e=0/\Ll x)\/(e≠0/\x=.v (.pointer bn)))
def B3.fz{x}(h:B3 x)(J):b6 J x x:=by
 obtain⟨rows,rfl,D,_⟩:=h;refine b6.fp (bF (gQ (iw λr ko=>?_)) cZ);obtain⟨l,b,rfl,_⟩:=D r ko;exact jO (BS (iw λn _=>bH _) (bF (bH _) cZ))
def vL.Mo(h:vL x)(J):e_ J x x:=by
 obtain⟨nm,cr,i,p,cj,a,al,mv,ex,rfl,hg,hm,_⟩:=h;exact bF (bH _) (bF (hg.fz J) (bF (bH _) (bF (bH _) (bF (bH _) (bF (bH _) (bF (bH _) (bF (hm.fz J) (bF (bH _) cZ))))))))
def p4.Mo(h:p4 x)(J):e_ J x x:=by
 obtain⟨y,b,cL,rfl,hy,ht⟩:=h;refine BS (hy.Mo J) (bF (bH _) (bF ?_ cZ))
 rcases ht with rfl|ht
 exact bH _;exact ht.fz J
def agX:∀{ls:List (List bg)},(∀x∈ls,e_ J x x)->e_ J ls.flatten ls.flatten
 |[],_=>cZ
 |x::r,h=>by
  rw[vF];exact BS (h x (vG ..)) (agX λy hy=>h y (sw _ hy))
def aF2{v}{xs}(h:sF v xs)(I:∀x∈xs,b6 J (.agg x) (.agg x)):∃v',b6 J v v'/\cC v' (xs.map dG):=by
 rcases h with⟨rfl,rfl⟩|⟨t,rfl⟩
 exact⟨_,ey,bG ⟨rfl,rfl⟩⟩;exact⟨_,gQ (iw I),bD rfl⟩
def aGo{bZ}{bB}(s:p0 ks bZ bB mv rows marks h)(h0:0<rows.length):∃n bS,dx h n (.bQ [.mp ks 0,(0:Int)])=a_ bS/\P0 bS:=by
 have V:=b6.rs (sz:=11) (o:=0) (len:=rows.length) s.r.b rfl (agX λx I=>(s.rc x I).Mo h);have e:=Q9 [] s.r.each;rw[gd,show([]:List bg).length=0 from rfl] at e;rw[e,<-s.r.v] at V;obtain⟨od,b7,z2⟩:=aF2 s.m λx I=>(s.hY x I).fz h;obtain⟨n,hn⟩:=(fj (bF (b6.mp s.b (bF V (bF b7 cZ))) (bF (bH (.int .i64 0)) cZ)):b6 h (.bQ [.mp ks 0,(0:Int)]) _).done;exact⟨n,_,hn,_,0,rfl,bD ⟨rfl,_,od,rows,marks,rfl,bD rfl,z2,s.rc,s.hY,h0,s.rl,s.ml⟩⟩
def aGn(he:e≠0):∃n bS,dx J n (.bQ [.v (.pointer bn),e])=a_ bS/\P0 bS:=by
 obtain⟨n,hn⟩:=(fj (bF (bH (.pointer bn)) (bF (bH (.int .i64 e)) cZ)):b6 J _ _).done;exact⟨n,_,hn,_,e,rfl,bG ⟨he,rfl⟩⟩
section
variable{G:Cells}{J:List br}{K:List br->Prop}
def aCq(h:K J):kZ G bA 40 [.mp 0 0,.mp 1 0] J bn K:=by
 refine YU.QM (x:=bn) trivial ?_;have e1:oD .eD bh (qK bn) (.v .nilIface)=a_ (.v (.bool bf)):=rfl;exact wy h
def avR(h0:J[0]?=a_ (.cells [v0] bf))(Y:J[1]?=a_ (.cells [v1] bf))
  (h:∀bl:List br,bl[0]?=a_ (.cells [.v (.pointer bn)] bf)->bl[1]?=a_ (.cells [bp e] bf)->K bl):
  kZ G bA 40 [.mp 0 0,.mp 1 0] J (a_ (.iface 95 (.agg #[.int .i64 e]))) K:=by
 refine YU.QM (x:=a_ (.eD 95 (.agg [.v (.int .i64 e)]))) ⟨rfl,rfl⟩ ?_;have e1:oD .eD bh (qK (a_ (.eD 95 (.agg [.v (.int .i64 e)])))) (.v .nilIface)=a_ (.v (.bool bh)):=rfl;have t1:I3 95 (.agg [.v (.int .i64 0)]) bh (qK (a_ (.eD 95 (.agg [.v (.int .i64 e)]))))=a_ (.bQ [.agg [.v (.int .i64 e)],.v (.bool bh)]):=rfl;have s1:bL (J++[.cells [.v (.int .i64 0)] bf]) 1 (.mp J.length 0) (.agg [.v (.int .i64 e)])=a_ (J++[.cells [.v (.int .i64 e)] bf]):=by
  simp only[bL,fJ (b_ _),kY,ny,fu];simp[jU,cq,dS]
 have q0:(J++[bw [.v (.int .i64 e)] bf])[0]?=a_ (.cells [v0] bf):=bU h0;have q1:(J++[bw [.v (.int .i64 e)] bf])[1]?=a_ (.cells [v1] bf):=bU Y;have BE:(J++[bw [.v (.int .i64 e)] bf])[J.length]?=a_ (.cells [.v (.int .i64 e)] bf):=af
 have c6:=gl Y;refine so ?_;generalize J++[bw [.v (.int .i64 e)] bf]=g at q0 q1 BE⊢;generalize J.length=m at BE c6⊢;have z0:=rC (w:=.v (.pointer bn)) rfl q0;have b7:=rC (k:=1) (g:=g.set 0 (.cells [.v (.pointer bn)] bf)) (w:=.v (.int .i64 e)) rfl (by rw[bC aa];exact q1);have y0:=fG BE;have y1:bz (g.set 0 (.cells [.v (.pointer bn)] bf)) bf 1 (.mp m 0)=a_ (.v (.int .i64 e)):=fG (by rw[bC aa];exact BE);have hg:=gl q1;refine lT @y0 @z0 @b7 @y1 @oh (h _ ?_ ?_);rw[bC ag,bT aa];rw[bT ah];rfl
end
section
variable{G:Cells}
def aF3(I:x.length=11/\x.all cq=bh):qW h 11 120 112 .bq (.sl [.agg x] .exact)=a_ (.rs h.length [x].flatten.length 11 0 1,h++[.cells [x].flatten bh]):=by
 have ok:cY 11 [dG x]=bh:=wJ λy hy=>aNt
 have zo:eO [dG x]=[x].flatten:=by simp[eO,jU]
 have h3:¬([dG x]=([]:List bg)):=af
 simp only[qW,iA,h3,if_false,ok,true_and,zo,eB,gR];rw[if_pos ag]
structure As(ks:Nat)(oP mv:bg)(rows:List (List bg))(g:List br):Prop where
 b:g[ks]?=a_ (.cells [oP,mv] bf)
 r:(oP=.bq/\rows=[])\/∃bZ,kf 11 g bZ oP rows
 rc:∀x∈rows,p4 x
 rl:rows.length<=24
def As.ext{g'}(s:As ks oP mv rows g)(he:Ext g g'):As ks oP mv rows g':=
 ⟨he _ _ s.b,s.r.imp id λ⟨bZ,D⟩=>⟨bZ,D.keep λZ q=>he _ _ q⟩,s.rc,s.rl⟩
def As.A(s:As ks oP mv rows g)(hm:sF mv marks)(Cu:∀x∈marks,oB x)(n8:marks.length<=8):tL g (.mp ks 0) oP mv rows marks:=by
 refine⟨uN.mp s.b,?_,o4.slc g hm λx I=>(Cu x I).ok.1,s.rc,Cu,s.rl,n8⟩
 rcases s.r with⟨rfl,rfl⟩|⟨bZ,D⟩
 exact o4.slc g (bD ⟨rfl,rfl⟩) af;exact o4.row D
def As.push(s:As ks oP mv rows g)(I:p4 x)(hl:rows.length<24):
  ∃v' g1,qW g 11 120 112 oP (.sl [.agg x] .exact)=a_ (v',g1)/\bL g1 1 (.mp ks 0) v'=a_ (g1.set ks (.cells [v',mv] bf))/\As ks v' mv (rows++[x]) (g1.set ks (.cells [v',mv] bf))/\∀(j:Nat) Z,g[j]?=a_ (.cells Z bf)->g1[j]?=a_ (.cells Z bf):=by
 have sZ:=gl s.b;have s6:=I.len;have Ty:∀y∈rows++[x],p4 y:=λy hy=>by
  rcases fB.1 hy with q|q
  exact s.rc y q;rw[dP.1 q];exact I
 have st:∀{g1} {k n o l} {a b},g1[ks]?=a_ (.cells [a,b] bf)->bL g1 1 (.mp ks 0) (.rs k n 11 o l)=a_ (g1.set ks (.cells [.rs k n 11 o l,b] bf)):=λq=>by
  simp only[bL,q];rfl
 rcases s.r with⟨rfl,rfl⟩|⟨bZ,D⟩
 have O:(g++[bw [x].flatten bh])[ks]?=a_ (.cells [.bq,mv] bf):=bU s.b;have D:kf 11 (g++[bw [x].flatten bh]) g.length (.rs g.length [x].flatten.length 11 0 1) [x]:=kf.new (λy hy=>by rw[dP.1 hy];exact s6);refine⟨_,_,aF3 s6,st O,⟨bT ah,bG ⟨g.length,D.keep λZ q=>by rw[bC aa];exact q⟩,Ty,af⟩,λj Z q=>bU q⟩;obtain⟨v',e1,ko⟩:=D.push (cc:=120) ag ag s6 aa;have bR:ks≠bZ:=by
  rintro rfl;have V:=D.b;rw[s.b] at V;simp at V
 have O:(g.set bZ (.cells (rows++[x]).flatten bh))[ks]?=a_ (.cells [oP,mv] bf):=by rw[bC (e4 bR)];exact s.b
 refine⟨v',_,e1,by rw[ko.v];exact st O,⟨bT (by simpa using sZ),bG ⟨bZ,ko.keep λZ q=>by rw[bC bR];exact q⟩,Ty,ah⟩,λj Z q=>?_⟩;rw[bC (by rintro rfl;rw[D.b] at q;simp at q)];exact q
def aoi{F}{e}(h0:g[0]?=a_ (.cells [v0] bf))(Y:g[1]?=a_ (.cells [v1] bf))(e2:gU e 2=a_ (.mp 0 0))(di:gU e 3=a_ (.mp 1 0))(hF:F (.bQ [v0,v1])):
  @hD _ (lz e g [(.c 2 bf 1),(.c 3 bf 1)]) ⟨F⟩:=by
 exact ke @e2 @di (fG h0) (fG Y) hF
def aD_(cF:gu G)(hI:B4 G)(s)(hs:s.length<=1000000):dV G bA 18 [bu s] P0:=by
 refine ep (Sp.go ?_);refine wy ?_;refine⟨[0,1],rfl,?_⟩
 conv in k3.bc _=>whnf
 have tS:∀{e} (e2:gU e 2=a_ (.mp 0 0)) (di:gU e 3=a_ (.mp 1 0)) (ch) (V),(∃b9,b9≠0/\ch=AR b9)->(∃v0,V[0]?=a_ (.cells [v0] bf))->(∃v1,V[1]?=a_ (.cells [v1] bf))->
   ∃v,ch=[{v:=v,recovered:=bf}]/\kZ G bA 40 ([0,1].map λk=>.mp k 0) V (a_ v) λg=>@hD _ (lz e g [(.c 2 bf 1),(.c 3 bf 1)]) ⟨λr=>∃n bS,dx g n r=a_ bS/\P0 bS⟩:=by
  rintro e e2 di ch V ⟨b9,he,rfl⟩ ⟨v0,h0⟩ ⟨v1,Y⟩;exact⟨_,rfl,avR h0 Y λg g0 g1=>aoi g0 g1 e2 di (aGn he)⟩
 have Q3:∀mv:bg,cq mv=bh->dI [.bq,.bq] [(1,1,mv)]=a_ [.bq,mv]:=λmv Y=>by
  have T:mv.cells=[mv]:=by cases mv<;>first|rfl|cases Y
  simp[dI,T,Y,dS]
 have Nu:[dh (.string ⟨[].toArray⟩),.bq,.v (.bool bf),.v (.bool bf),.v (.bool bf),.v (.int .i64 0),.v (.bool bf),.bq,.v (.string ⟨[].toArray⟩)]=gO:=rfl;have Ji:∀x:List bg,vL x->dI [.v (.string ⟨[].toArray⟩),.bq,.v (.bool bf),.v (.bool bf),.v (.bool bf),.v (.int .i64 0),.v (.bool bf),.bq,.v (.string ⟨[].toArray⟩),.v (.bool bf),.v (.pointer bn)] [(0,9,.agg x)]=a_ (x++[.v (.bool bf),.v (.pointer bn)]):=λx I=>by
  obtain⟨nm,cr,i,p,cj,a,al,mv,ex,rfl,hg,hm,_⟩:=I;simp[dI,jU,eL,dS,hg.one.1,hm.one.1,cq,bu]
 have Y9:∀{g} {a b},g[3]?=a_ (.cells [a,b] bf)->bz g bf 1 (.mp 3 0)=a_ a:=λq=>by simp only[bz,q];rfl
 refine iP (λe g=>∃(bB mv:bg) (b9:Int) (cA marks:List (List bg)),e=[(2,.mp 0 0),(3,.mp 1 0),(4,.mp 2 0),(6,.v (.int .i64 b9))]/\g=[bw [dh (.pointer bn)] bf,bw [dh (.int .i64 0)] bf,bw [bB,mv] bf]/\cC bB (cA.map dG)/\cC mv (marks.map dG)/\(∀x∈cA,vL x)/\(∀x∈marks,oB x)/\cA.length<=24/\marks.length<=8) ?_ ?_;refine wy ?_;refine eF (aEW cF hI s hs) ?_;rintro r ⟨bB,mv,cv,e,rfl,cA,marks,Nb,lM,Yg,Cu,wz,n8⟩
 have on:cq bB=bh/\bB.cells=[bB]:=by rcases Nb with rfl|⟨rfl,_⟩<;>exact⟨rfl,rfl⟩
 have qH:cq mv=bh/\mv.cells=[mv]:=aL3
 have rB:bL [bw [dh (.pointer bn)] bf,bw [dh (.int .i64 0)] bf,bw [.bq,.bq] bf] 2 (.mp 2 0) (.agg [bB,mv])=a_ [bw [dh (.pointer bn)] bf,bw [dh (.int .i64 0)] bf,bw [bB,mv] bf]:=abF rfl rfl on.1 qH.1;refine wy ?_;exact⟨bB,mv,e,cA,marks,rfl,rfl,Nb,lM,Yg,Cu,wz,n8⟩;rintro e g ⟨bB,mv,b9,cA,marks,rfl,rfl,Nb,lM,Yg,Cu,wz,n8⟩
 have qH:cq mv=bh/\mv.cells=[mv]:=aL3
 have aif:sF mv marks:=by
  rcases lM with rfl|⟨rfl,z⟩
  exact bG ⟨_,rfl⟩;exact bD ⟨rfl,aN⟩
 refine iP (λe g=>e=[(2,.mp 0 0),(3,.mp 1 0),(4,.mp 2 0)]/\g=[bw [dh (.pointer bn)] bf,bw [dh (.int .i64 0)] bf,bw [bB,mv] bf]) ?_ ?_;refine wy (gW (zF _ b9 _) ?_ ?_);rintro r g ⟨he,rfl⟩;exact wx tt;rintro ch g ⟨he,rfl,rfl⟩;exact tS rfl rfl _ _ ⟨b9,aLR,rfl⟩ ⟨_,rfl⟩ ⟨_,rfl⟩;rintro e g ⟨rfl,rfl⟩;have bc:(dG [.bq,mv]).cells=[.bq,mv]:=rfl;have ln:=Nb.cH;rw[cS] at ln;refine eN (λe g=>e=[(2,.mp 0 0),(3,.mp 1 0),(4,.mp 2 0)]/\g=[bw [c8 3 0] bf,bw [dh (.int .i64 0)] bf,bw [bB,mv] bf,bw [.bq,mv] bf]) ?_ ?_;exact mQ (Q3 mv qH.1) @bc tt;rintro e g ⟨rfl,rfl⟩;refine eN (λe g=>∃oP rows,e=[(2,.mp 0 0),(3,.mp 1 0)]/\g[0]?=a_ (.cells [.mp 3 0] bf)/\g[1]?=a_ (.cells [.v (.int .i64 0)] bf)/\As 3 oP mv rows g) ?_ ?_;refine wy ?_;refine dj (λi e g=>∃oP rows,e=[(2,.mp 0 0),(3,.mp 1 0),(26,bB),(27,bp cA.length),(28,bp i)]/\g[0]?=a_ (.cells [.mp 3 0] bf)/\g[1]?=a_ (.cells [.v (.int .i64 0)] bf)/\As 3 oP mv rows g/\rows.length=i) cA.length ⟨.bq,[],rfl,rfl,rfl,⟨rfl,bD ⟨rfl,rfl⟩,af,ag⟩,rfl⟩ ?_ ?_;rintro i e g Q ⟨oP,rows,rfl,g0,g1,hS,aiz⟩;obtain⟨x,I⟩:=dW Q;have G7:=Yg x (cz I);obtain⟨oL,qd,_⟩:=G7.ok;have e1:cx 9 bB (.v (.int .i64 (i)))=a_ (.fp x 0):=Nb.cw (x:=.agg x) aA oL;have e2:=λJ=>sF.gk oL J;have nn:=N2 g oL qd;have kx:(g++[bw x bf])[g.length]?=a_ (.cells x bf):=af
 have Jn:(g++[bw x bf])[0]?=a_ (.cells [.mp 3 0] bf):=bU g0;have Rj:(g++[bw x bf])[1]?=a_ (.cells [.v (.int .i64 0)] bf):=bU g1;have gq:=hS.ext (g':=g++[bw x bf]) mA;refine so ?_;generalize g.length=m at kx⊢;generalize g++[bw x bf]=g2 at kx Jn Rj gq⊢;have lx:bz g2 bh 9 (.mp m 0)=a_ (.agg x):=by
  simp only[bz,kx];unfold e9;rw[if_pos rfl,if_pos aa,pU,ow aa]
 have JO:p4 (x++[.v (.bool bf),.v (.pointer bn)]):=⟨x,bf,_,rfl,G7,bD rfl⟩;obtain⟨v',g3,p1,p2,p3,jm⟩:=gq.push JO aa;have ab:eW 11 [.agg (x++[.v (.bool bf),.v (.pointer bn)])]=a_ (.sl [.agg (x++[.v (.bool bf),.v (.pointer bn)])] .exact):=by
  have:=wJ λy hy=>by rw[dP.1 hy];exact JO.len
  simp only[fQ,kX] at this;simp[eW,this]
 have Mp:=jm _ _ Jn;refine qh (fG Jn) (Y9 gq.b) @lx (Ji x G7) @ab @p1 (fG Mp) @p2 @oh ?_;refine⟨v',_,rfl,?_,?_,p3,by simp[aiz]⟩;rw[bC ag];exact Mp;rw[bC ag];exact jm _ _ Rj;rintro e g ⟨oP,rows,rfl,g0,g1,hS,aiz⟩;refine e3 @bp.eq_1 ?_;exact⟨oP,rows,trivial,g0,g1,hS⟩;rintro e g ⟨oP,rows,rfl,g0,g1,hS⟩;refine iP (λe g=>e=[(2,.mp 0 0),(3,.mp 1 0)]/\g[0]?=a_ (.cells [.mp 3 0] bf)/\g[1]?=a_ (.cells [.v (.int .i64 0)] bf)/\0<rows.length/\∃bZ,p0 3 bZ oP mv rows marks g) ?_ ?_;refine wy (gW (aD7 (hS.A aif Cu n8) rfl) ?_ ?_);rintro r g2 ⟨⟨l,rfl⟩,r3⟩;refine fI ?_;refine⟨trivial,bU g0,bU g1,r3,?_⟩;have gq:=hS.ext (g':=g++l) mA
 rcases gq.r with⟨_,z⟩|⟨bZ,D⟩
 rw[z] at r3;exact absurd r3 ag;exact⟨bZ,gq.b,D,aif,gq.rc,Cu,gq.rl,n8⟩;rintro ch g2 ⟨e,he,rfl,l,rfl⟩;exact tS rfl rfl _ _ ⟨e,he,rfl⟩ ⟨_,bU g0⟩ ⟨_,bU g1⟩;rintro e g2 ⟨rfl,Jn,Rj,r3,bZ,hM⟩;refine iP (λe g=>∃ju,e=[(2,.mp 0 0),(3,.mp 1 0)]/\g[0]?=a_ (.cells [.mp 3 0] bf)/\g[1]?=a_ (.cells [.v (.int .i64 0)] bf)/\p0 3 bZ oP mv ju marks g/\ju.length=rows.length) ?_ ?_;have nN:=hM.rl;refine Dh (fG Jn) (Y9 hM.b) @hM.r.len ?_;refine dj (λi e g=>∃ju,e=[(2,.mp 0 0),(3,.mp 1 0),(50,bp rows.length),(51,bp i)]/\g[0]?=a_ (.cells [.mp 3 0] bf)/\g[1]?=a_ (.cells [.v (.int .i64 0)] bf)/\p0 3 bZ oP mv ju marks g/\ju.length=rows.length) rows.length ⟨rows,rfl,Jn,Rj,hM,rfl⟩ ?_ ?_;rintro i e g Q ⟨ju,rfl,g0,g1,hM,aiA⟩;have kj:i<ju.length:=aa
 have BB:bZ≠0/\bZ≠1:=by
  have O:=hM.r.b;refine⟨?_,?_⟩<;>rintro rfl;rw[g0] at O;simp at O;rw[g1] at O;simp at O
 refine aqD (fG g0) (Y9 hM.b) (hM.r.cw kj) (gW (aun cF hM kj) ?_ ?_);rintro r g3 ⟨HX,MA,h3,_,kp⟩;refine fI ?_;exact⟨HX,rfl,kp _ _ (e4 BB.1) g0,kp _ _ (e4 BB.2) g1,MA,aa⟩;rintro ch g3 ⟨e,he,rfl,HX,MA,h3,_,kp⟩;exact tS rfl rfl _ _ ⟨e,he,rfl⟩ ⟨_,kp _ _ (e4 BB.1) g0⟩ ⟨_,kp _ _ (e4 BB.2) g1⟩;rintro e g ⟨ju,rfl,g0,g1,hM,aiA⟩;refine e3 @bp.eq_1 ?_;exact⟨ju,trivial,g0,g1,hM,aiA⟩;rintro e g3 ⟨HX,rfl,Mp,agY,MA,h3⟩;have avM:(g3.set 0 (.cells [.mp 3 0] bf))[1]?=a_ (.cells [.v (.int .i64 0)] bf):=by rw[bC ag];exact agY
 have k1:=bT (a:=.cells [.v (.int .i64 0)] bf) (gl avM);have k0:((g3.set 0 (.cells [.mp 3 0] bf)).set 1 (.cells [.v (.int .i64 0)] bf))[0]?=a_ (.cells [.mp 3 0] bf):=by
  rw[bC ag,bT (gl Mp)]
 have BB:bZ≠0/\bZ≠1:=by
  have O:=MA.r.b;refine⟨?_,?_⟩<;>rintro rfl;rw[Mp] at O;simp at O;rw[agY] at O;simp at O
 exact wy (aCq (aoi k0 k1 rfl rfl (aGo ((MA.set (j:=0) (b':=.cells [.mp 3 0] bf) ag (e4 BB.1)).set (j:=1) (b':=.cells [.v (.int .i64 0)] bf) ag (e4 BB.2)) aa)))
end
end
section
variable{v:bg}{rows:List (List bg)}
structure mD(hk bB mv:bg)(rows marks:List (List bg)):Prop where
 eq:hk=.fp [bB,mv] 0
 n:cC bB (rows.map dG)
 m:cC mv (marks.map dG)
 rc:∀x∈rows,p4 x
 hY:∀x∈marks,oB x
 bS:0<rows.length
 rl:rows.length<=24
 ml:marks.length<=8
def Ll.c{hk:bg}(h:Ll hk):∃bB mv rows marks,mD hk bB mv rows marks:=by
 obtain⟨bB,mv,rows,marks,e,Y,V,h3,h4,h5,h6,h7⟩:=h;exact⟨bB,mv,rows,marks,e,Y,V,h3,h4,h5,h6,h7⟩
def at1{x:bg}(h:B3 x):eT x:=by
 obtain⟨rows,rfl,Y,_⟩:=h;refine Gf λc T=>?_;rw[dP.1 T];refine k7 λx I c T=>?_;obtain⟨r,D,rfl⟩:=dX.1 I;obtain⟨l,b,rfl,_⟩:=Y r D
 rcases fB.1 (show c∈l.map bp++[.v (.bool b)] from T) with q|q
 obtain⟨n,_,rfl⟩:=dX.1 q;exact cP _;rw[dP.1 q];exact cP _
def at0(h:cC v (rows.map dG))(D:∀x∈rows,p4 x):eT v:=by
 have I:∀x∈rows.map dG,∀c∈x.cells,eT c:=λx I c T=>by
  obtain⟨y,hy,rfl⟩:=dX.1 I;obtain⟨nm,cr,i1,p1,cj,a,al,vh,ex,b,cL,rfl,⟨l1,g1,_⟩,⟨l2,g2,_⟩,_,ht⟩:=(D y hy).at
  have jr:c∈[bu nm,cr,.v (.bool i1),.v (.bool p1),.v (.bool cj),.v (.int .i64 a),.v (.bool al),vh,bu ex,.v (.bool b),cL]:=T;simp only[fc,pV,or_false] at jr
  rcases jr with rfl|rfl|rfl|rfl|rfl|rfl|rfl|rfl|rfl|rfl|rfl
  exact cP _;exact qZ g1;exact cP _;exact cP _;exact cP _;exact cP _;exact cP _;exact qZ g2;exact cP _;exact cP _
  rcases ht with rfl|ht
  exact cP _;exact at1 ht
 rcases h with rfl|⟨rfl,_⟩
 exact k7 I;exact nY
def atZ(h:cC v (rows.map dG))(D:∀x∈rows,oB x):eT v:=by
 have I:∀x∈rows.map dG,∀c∈x.cells,eT c:=λx I c T=>by
  obtain⟨y,hy,rfl⟩:=dX.1 I;obtain⟨nm,n,al,bv,rfl,l,g1,_⟩:=D y hy;have jr:c∈eV nm n al bv:=T;simp only[eV,fc,pV,or_false] at jr
  rcases jr with rfl|rfl|rfl|rfl
  exact cP _;exact cP _;exact cP _;exact qZ g1
 rcases h with rfl|⟨rfl,_⟩
 exact k7 I;exact nY
def ai7(i:Nat)(x:List bg):Bool:=match x[i]? with
 |some (.v (.bool b))=>b
 |_=>bf
def ai8(i:Nat)(x:List bg):Int:=match x[i]? with
 |some (.v (.int _ n))=>n
 |_=>0
def C7(rows:List (List bg))(t:Int):Option (List bg):=if 1<=t then rows[(t-1).toNat]? else bn
def NM(rows:List (List bg))(t:Int):Bool:=t==0||(C7 rows t).any (ai7 4)
def Sk(rows:List (List bg))(t:Int):Bool:=t==0||(C7 rows t).any (ai7 2)
def I4(rows:List (List bg))(t:Int):Int:=((C7 rows t).map (ai8 5)).getD 0
section
variable{G:Cells}{hk bB mv:bg}{rows marks:List (List bg)}
def mD.clean(s:mD hk bB mv rows marks):eT hk:=by
 rw[s.eq];refine Gf λc T=>?_;simp only[fc,pV,or_false] at T
 rcases T with rfl|rfl
 exact at0 s.n s.rc;exact atZ s.m s.hY
def mD.gk(s:mD hk bB mv rows marks)(h:List br):bz h bf 1 (.fp [bB,mv] 0)=a_ bB/\bz h bf 1 (.fp [bB,mv] 1)=a_ mv:=⟨rfl,rfl⟩
def aIh(s:mD hk bB mv rows marks):cI G bA 164 [hk] (.v (.int .i64 (rows.length:Int))):=by
 rw[s.eq];refine eA (YN.go ?_);have ln:=s.n.cH;rw[cS] at ln;refine wy ?_;exact(bH _).done
def VK(s:mD hk bB mv rows marks){t:Int}(h:C7 rows t=bn):cI G bA 123 [hk,.v (.int .i64 t)] (.v (.pointer bn)):=by
 rw[s.eq];refine eA (Ss.go ?_);have nN:=s.rl;have ln:=s.n.cH;rw[cS] at ln;refine wy ?_;refine cQ (λq=>?_) λq=>?_;refine wy ?_;exact(bH _).done;refine wy ?_;refine cQ (λbt=>?_) λbt=>?_;refine wy ?_;exact(bH _).done;exfalso;unfold C7 at h;have q1:¬t<1:=an
 rw[if_pos aa,acC] at h;simp at bt;omega
def VL(s:mD hk bB mv rows marks){i:Nat}{x:List bg}(I:rows[i]?=a_ x):cI G bA 123 [hk,.v (.int .i64 ((i:Int)+1))] (.fp x 0):=by
 rw[s.eq];refine eA (Ss.go ?_);have nN:=s.rl;have Q:=(cJ.1 I).1;have ln:=s.n.cH;rw[cS] at ln;have D:=s.rc x (cz I);have cw:cx 11 bB (.v (.int .i64 (i:Int)))=a_ (.fp x 0):=s.n.cw (x:=.agg x) aA D.len.1;have w1:cN.wrap ((i:Int)+1-1)=(i:Int):=by rw[e6 aa aa];omega
 have d1:decide ((i:Int)+1<1)=bf:=decide_eq_false aa;have d2:decide ((i:Int)+1>(rows.length:Int))=bf:=decide_eq_false aa;refine wy ?_;exact(b6.fp (D.Mo _)).done
def aaP(rows:List (List bg))(t:Int):C7 rows t=bn\/∃(i:Nat) (x:List bg),t=(i:Int)+1/\rows[i]?=a_ x/\C7 rows t=a_ x:=by
 cases h:C7 rows t with
 |none=>exact bD rfl
 |some x=>
  right;unfold C7 at h;split at h;exact⟨(t-1).toNat,x,aa,h,rfl⟩;cases h
def azK(s:mD hk bB mv rows marks)(t:Int):cI G bA 71 [hk,.v (.int .i64 t)] (.v (.bool (Sk rows t))):=by
 have T:=s.clean;have e:=s.eq;refine eA (YM.go ?_);refine fS ?_
 rcases aaP rows t with h|⟨i,x,rfl,I,D⟩
 refine h_ (VK s h) (bO T (bO (cP _) cG)) ?_;rw[e];unfold Sk;rw[h];refine wy ?_;refine cQ (λq=>?_) λq=>?_;refine wy ?_;exact(bH _).done;refine eE @q ?_;exact(bH _).done;obtain⟨nm,cr,i1,p1,cj,a,al,vh,ex,b,cL,rfl,_⟩:=(s.rc x (cz I)).at
 refine h_ (VL s I) (bO T (bO (cP _) cG)) ?_;rw[e];unfold Sk;rw[D];have q0:((i:Int)+1==0)=bf:=beq_eq_false_iff_ne.2 aa;refine wy ?_;exact(bH _).done
def amc(s:mD hk bB mv rows marks)(t:Int):cI G bA 99 [hk,.v (.int .i64 t)] (.v (.bool (NM rows t))):=by
 have T:=s.clean;have e:=s.eq;refine eA (ajb.go ?_);refine fS ?_
 rcases aaP rows t with h|⟨i,x,rfl,I,D⟩
 refine h_ (VK s h) (bO T (bO (cP _) cG)) ?_;rw[e];unfold NM;rw[h];refine wy ?_;refine cQ (λq=>?_) λq=>?_;refine wy ?_;exact(bH _).done;refine eE @q ?_;exact(bH _).done;obtain⟨nm,cr,i1,p1,cj,a,al,vh,ex,b,cL,rfl,_⟩:=(s.rc x (cz I)).at
 refine h_ (VL s I) (bO T (bO (cP _) cG)) ?_;rw[e];unfold NM;rw[D];have q0:((i:Int)+1==0)=bf:=beq_eq_false_iff_ne.2 aa;refine wy ?_;exact(bH _).done
def asX(s:mD hk bB mv rows marks)(t:Int):cI G bA 138 [hk,.v (.int .i64 t)] (.v (.int .i64 (I4 rows t))):=by
 have T:=s.clean;have e:=s.eq;refine eA (ajw.go ?_);refine fS ?_
 rcases aaP rows t with h|⟨i,x,rfl,I,D⟩
 refine h_ (VK s h) (bO T (bO (cP _) cG)) ?_;unfold I4;rw[h];refine fS ?_;exact(bH _).done;obtain⟨nm,cr,i1,p1,cj,a,al,vh,ex,b,cL,rfl,_⟩:=(s.rc x (cz I)).at
 refine h_ (VL s I) (bO T (bO (cP _) cG)) ?_;unfold I4;rw[D];refine wy ?_;exact(bH _).done
def aei(s:mD hk bB mv rows marks)(t a:Int):cI G bA 98 [hk,.v (.int .i64 t),.v (.int .i64 a)] (.v (.bool (decide (t>=1)&&decide (t<=(rows.length:Int))&&decide (a>=0)&&decide (a<=I4 rows t)))):=by
 have T:=s.clean;refine eA (aja.go ?_);refine wy ?_;refine cQ (λq=>?_) λq=>?_;refine wy ?_;refine h_ (aIh s) (bO T cG) ?_;refine wy ?_;refine cQ (λbt=>?_) λbt=>?_;refine wy ?_;refine cQ (λbV=>?_) λbV=>?_;refine wy ?_;refine h_ (asX s t) (bO T (bO (cP _) cG)) ?_;refine wy ?_;exact(bH _).done;refine wy ?_;exact(bH _).done;refine wy ?_;exact(bH _).done;refine wy ?_;exact(bH _).done
end
end
def o9(l:List UInt8)(i:Nat):Nat:=(l[i]?.getD 0).toNat
@[go_sem]def xG{l:List UInt8}{i:Nat}{k:IntKind}(h:i<l.length):xx (bu l) (.v (.int k (i:Int)))=a_ (.v (.int .u8 (o9 l i:Int))):=by
 obtain⟨c,T⟩:=dW h;rw[ae8 T];unfold o9;rw[T];rfl
section
variable{G:Cells}
def abe(c:Int):cI G bA 219 [.v (.int .u8 c)] (.v (.bool (decide (97<=c)&&decide (c<=122)))):=by
 refine eA (aBi.go ?_);refine wy ?_
 repeat' refine ba (λq'=>?_) λq'=>?_
 all_goals exact(bH _).done
def QN(c:Int):cI G bA 220 [.v (.int .u8 c)] (.v (.bool (decide (48<=c)&&decide (c<=57)))):=by
 refine eA (aBj.go ?_);refine wy ?_
 repeat' refine ba (λq'=>?_) λq'=>?_
 all_goals exact(bH _).done
def RD{v:bg}{l:List (List UInt8)}(hv:cC v (l.map bu))(hl:l.length<=1000000000)(x:List UInt8):dV G bA 157 [v,bu x] jW:=by
 refine ep (aka.go ?_);have ln:=hv.cH;rw[cS] at ln;refine wy ?_;refine dj (λi e h=>e=[(0,v),(1,bu x),(5,bp i)]/\h=[]) l.length ⟨rfl,rfl⟩ ?_ ?_
 · rintro i e h Q ⟨rfl,rfl⟩
   obtain⟨s,hs⟩:=dW Q;have e1:cx 1 v (.v (.int .i64 (i:Int)))=a_ (.fp [bu s] 0):=hv.cw (x:=bu s) aNu rfl;refine wy ?_
   repeat' refine ba (λq'=>?_) λq'=>?_
   exact ji _;exact⟨rfl,trivial⟩
 rintro e h ⟨rfl,rfl⟩;exact wy (ji _)
def ZL(s:List UInt8)(hs:s.length<=1000000000):dV G bA 151 [bu s] jW:=by
 refine ep (aAW.go ?_);refine wy ?_;refine dj (λi e h=>e=[(0,bu s),(3,bp i)]/\h=[]) s.length ⟨rfl,rfl⟩ ?_ ?_
 · rintro i e h Q ⟨rfl,rfl⟩
   refine oq ?_
   repeat' refine ba (λq'=>?_) λq'=>?_
   all_goals first|(exfalso;omega)|exact ji _|exact⟨rfl,trivial⟩|exact⟨rfl,rfl⟩|exact⟨trivial,trivial⟩
 · rintro e h ⟨rfl,rfl⟩
   refine wy ?_
   repeat' refine ba (λq'=>?_) λq'=>?_
   all_goals exact ji _
def afx(s:List UInt8)(hs:s.length<=1000000000):dV G bA 214 [bu s] (PG s.length):=by
 refine ep (aBe.go ?_);refine wy ?_;refine dj (λi e h=>e=[(0,bu s),(5,bp i)]/\h=[]) s.length ⟨rfl,rfl⟩ ?_ ?_
 · rintro i e h Q ⟨rfl,rfl⟩
   have k1:=λJ=>QK (l:=s) (j:=i) aa J;have k2:=λJ=>Wk (l:=s) (i:=i+1) aa J;refine tr @xG ?_
   repeat' refine ba (λq'=>?_) λq'=>?_
   exact Mj _ ah af;exact⟨rfl,trivial⟩
 rintro e h ⟨rfl,rfl⟩;exact wy (Mj (b:=[]) _ (b_ _) af)
def Uw(s:List UInt8)(cv:Nat):∃p e:Int,e≠0/\cI G bA 267 [bu s,.v (.int .i64 (cv:Int))] (.bQ [.v (.int .i64 p),.v (.int .i64 e)]):=by
 rcases ei cv s.length with h|h
 refine⟨cv,2,ag,eA (ak2.go ?_)⟩;exact wy ((fj (bF (bH _) (bF (bH _) cZ))).done);refine⟨s.length,5,ag,eA (ak2.go ?_)⟩;exact wy ((fj (bF (bH _) (bF (bH _) cZ))).done)
def adf(n cv:Nat)(r:bg):Prop:=∃(m:Int) (p:Nat),r=.bQ [.v (.int .i64 m),.v (.int .i64 (p:Int))]/\p<=n/\(m= -1\/(0<=m/\m<=99/\cv<p))
def Eb{J:List br}{n cv:Nat}{m:Int}{p:Nat}(Y:p<=n)(V:m= -1\/(0<=m/\m<=99/\cv<p)):∃k bS,dx J k (.bQ [.v (.int .i64 m),.v (.int .i64 (p:Int))])=a_ bS/\adf n cv bS:=by
 obtain⟨k,S⟩:=(fj (bF (bH (.int .i64 m)) (bF (bH (.int .i64 (p:Int))) cZ)):b6 J _ _).done;exact⟨k,_,S,m,p,rfl,Y,V⟩
def ang(s:List UInt8)(hs:s.length<=1000000000)(cv:Nat)(ha:cv<=s.length):dV G bA 266 [bu s,.v (.int .i64 (cv:Int))] (adf s.length cv):=by
 refine ep (aBv.go ?_);have ws:∀c:Int,48<=c->c<=57->cN.wrap (IntKind.u8.wrap (c-48))=c-48:=λc Y V=>by
  rw[aqC,Int.emod_eq_of_lt aa aa,e6 aa aa]
 have aIz:∀c d:Int,48<=c->c<=57->48<=d->d<=57->cN.wrap (cN.wrap (10*(c-48))+(d-48))=10*(c-48)+(d-48):=λc d Y V h3 h4=>by
  rw[e6 (n:=10*(c-48)) aa aa,e6 aa aa]
 rcases ei cv s.length with h0|h0
 refine wx ?_;refine dD (QN (o9 s cv:Int)) ?_;cases hd:(decide ((48:Int)<=(o9 s cv:Int))&&decide ((o9 s cv:Int)<=57)) with
 |false=>
  exact wx (Eb aa (bD rfl))
 |true=>
  simp only[fh,decide_eq_true_eq] at hd;have e1:=ws _ hd.1 hd.2;refine wx ?_
  rcases ei (cv+1) s.length with Y|Y
  refine wx ?_;refine dD (QN (o9 s (cv+1):Int)) ?_;cases va:(decide ((48:Int)<=(o9 s (cv+1):Int))&&decide ((o9 s (cv+1):Int)<=57)) with
  |false=>
   refine wx ?_;exact Eb aa (bG ⟨aa,aa,aa⟩)
  |true=>
   simp only[fh,decide_eq_true_eq] at va;have e2:=ws _ va.1 va.2;have di:=aIz _ _ hd.1 hd.2 va.1 va.2;refine wx ?_;refine dy (λq=>?_) λq=>?_;exact Eb aa (bD rfl)
   rcases ei (cv+1+1) s.length with V|V
   refine wx ?_;refine dD (QN (o9 s (cv+1+1):Int)) ?_;cases(decide ((48:Int)<=(o9 s (cv+1+1):Int))&&decide ((o9 s (cv+1+1):Int)<=57)) with
   |true=>
    refine wx ?_;exact Eb aa (bD rfl)
   |false=>
    refine wx ?_;exact Eb aa (bG ⟨aa,aa,aa⟩)
   refine wx ?_;exact Eb aa (bG ⟨aa,aa,aa⟩)
  refine wx ?_;exact Eb aa (bG ⟨aa,aa,aa⟩)
 refine wx ?_;exact Eb aa (bD rfl)
end
section
variable{J:List br}{v:bg}{m n:Nat}
def aqy(n:Int): -9223372036854775808<=cN.wrap n/\cN.wrap n<=9223372036854775807:=by
 simp only[acj,K1,K2];constructor<;>(simp;split<;>omega)
def Uv(n:Int):0<=Iq.wrap n/\Iq.wrap n<18446744073709551616:=by
 rw[Fv];omega
@[go_sem]def afY(a:List UInt8):dM .eql (bu a) (.v (.string ⟨[].toArray⟩))=a_ (.v (.bool (a==[]))):=pe a []
@[go_sem]def F4{xs:List bg}{e:TypeId}(hA:de J v xs n e)(g:List br):cH v g=a_ (.v (.int .i64 (xs.length:Int)),g):=by
 rcases hA with⟨rfl,rfl⟩|⟨id,rfl,_⟩<;>rfl
def Lg(a b:Int)(r:bg):Prop:=∃n:Int,r=.v (.int .i64 n)/\a<=n/\n<=b
def uY{a b n:Int}(Y:a<=n)(V:n<=b):∃k bS,dx J k (.v (.int .i64 n))=a_ bS/\Lg a b bS:=by
 obtain⟨k,S⟩:=(bH (.int .i64 n):b6 J _ _).done;exact⟨k,_,S,n,rfl,Y,V⟩
def DI(m n:Nat)(v:bg):Prop:=∃l:List (List UInt8),cC v (l.map bu)/\l.length<=m/\∀w∈l,w.length<=n
def DI.nil(m n:Nat):DI m n .bq:=⟨[],bG ⟨rfl,rfl⟩,j0 _,af⟩
def asQ{l:List (List UInt8)}(h:de J v (l.map bu) 1 9)(Y:l.length<=m)(V:∀w∈l,w.length<=n):∃v',b6 J v v'/\DI m n v':=by
 rcases h with⟨rfl,z⟩|⟨id,rfl,_⟩
 exact⟨_,ey,DI.nil _ _⟩;exact⟨_,gQ (iw λa _=>bH _),l,bD rfl,Y,V⟩
def ac6(m n:Nat)(r:bg):Prop:=∃(v:bg) (p e:Int),r=.bQ [v,.v (.int .i64 p),.v (.int .i64 e)]/\DI m n v
def WS{v':bg}{p e:Int}(h:b6 J v v')(V:DI m n v'):∃k bS,dx J k (.bQ [v,.v (.int .i64 p),.v (.int .i64 e)])=a_ bS/\ac6 m n bS:=by
 obtain⟨k,S⟩:=(fj (bF h (bF (bH (.int .i64 p)) (bF (bH (.int .i64 e)) cZ))):b6 J _ _).done;exact⟨k,_,S,v',p,e,rfl,V⟩
section
variable{G:Cells}
def aE3(c:Int):dV G bA 150 [.v (.int .u8 c)] jW:=by
 refine ep (aAk.go ?_);refine wy ?_
 repeat' refine ba (λq'=>?_) λq'=>?_
 all_goals exact ji _
def auH(n:Nat)(hn:n<18446744073709551616):dV G bA 300 [.v (.int .u64 (n:Int))] (At 20):=by
 refine ep (aAl.go ?_);refine wy ?_;refine oo (n:=n+1) (λm e h=>∃(i k:Nat) (t:List UInt8),m=(if i=0 then k+1 else k)/\i<=20/\k<10^(20-i)/\t.length=i/\k<18446744073709551616/\e=[(0,.v (.int .u64 (k:Int))),(3,bu t),(4,bp i)]/\h=[]) ⟨0,n,[],rfl,aa,aa,rfl,hn,rfl,rfl⟩ ?_;rintro m e h ⟨i,k,t,rfl,Q,S,ht,hk2,rfl,rfl⟩;have e1:dM .rem (.v (.int .u64 (k:Int))) (.v (.int .u64 10))=a_ (.v (.int .u64 ((k:Int).tmod 10))):=by rw[Vw _ _ _ ag]
 have e2:dM .quo (.v (.int .u64 (k:Int))) (.v (.int .u64 10))=a_ (.v (.int .u64 ((k/10:Nat):Int))):=by
  rw[Vv _ _ _ ag,Fv];congr 4;rw[Int.tdiv_eq_ediv_of_nonneg aa];omega
 have di:∀x:Int,Lz (.sl [.v (.int .u8 x)] .exact)=a_ (bu [vI x.toNat]):=λx=>rfl;have eX:∀x:Int,dM .add (bu [vI x.toNat]) (bu t)=a_ (bu ([vI x.toNat]++t)):=λx=>vT ah;have next:(i=0\/0<k)->i<20/\k/10<10^(20-(i+1))/\(if i+1=0 then k/10+1 else k/10)<(if i=0 then k+1 else k):=by
  intro T;have Xg:i<20:=by
   rcases ei i 20 with z|z
   exact z;have:i=20:=aa
   subst this;simp at S;omega
  refine⟨Xg,?_,?_⟩;have:20-i=20-(i+1)+1:=aa
  rw[this,Nat.pow_succ] at S;omega;rw[if_neg aa];split;omega
  rcases T with z|z
  omega;omega
 refine wy ?_
 repeat' ((refine ba (λq'=>?_) λq'=>?_)<;>refine qQ @e1 @e2 @di @eX @Av ?_)
 all_goals first
  |exact sP aa
  |(obtain⟨b7,z2,z3⟩:=next aa
    exact⟨_,z3,i+1,k/10,_,rfl,aa,z2,ah,aa,rfl,trivial⟩)
def afI(n:Int)(h0:0<=n)(Y:n<18446744073709551616):dV G bA 300 [.v (.int .u64 n)] (At 20):=by
 have:=auH (G:=G) n.toNat aa
 rwa [arc h0] at this
def aa4(n:Int):dV G bA 288 [.v (.int .i64 n)] (At 21):=by
 refine ep (aBG.go ?_);have aK1:∀x:Int,F5 .neg (.v (.int .i64 x))=a_ (.v (.int .i64 (cN.wrap (0-x)))):=λx=>rfl;refine wy ?_;refine dy (λq=>?_) λq=>?_;refine wy ?_;refine eF (afI _ (Uv _).1 (Uv _).2) ?_;rintro r ⟨t,rfl,ht⟩;have a1:dM .add (.v (.string ⟨[45].toArray⟩)) (bu t)=a_ (bu ([45]++t)):=vT (a:=[45]) ah;refine wy ?_;exact sP ah;refine eF (afI _ (Uv _).1 (Uv _).2) ?_;rintro r ⟨t,rfl,ht⟩;refine wy ?_;exact sP aa
def aEq(s:List UInt8)(hs:s.length<=1000000000):dV G bA 263 [bu s] PX:=by
 refine ep (aAV.go ?_)
 rcases Dw s.length with h0|h0
 obtain rfl:=ou h0;have l0:∀J,r6 (bu []) J=a_ (.v (.int .i64 0),J):=λ_=>rfl;refine wy ?_;exact xO ag ag;have z0:((s.length:Int)==0)=bf:=by simp;intro e;rw[e] at h0;simp at h0
 have c0:xx (bu s) (.v (.int .i64 0))=a_ (.v (.int .u8 (o9 s 0:Int))):=xG (i:=0) h0;refine wy (cQ (λq=>?_) λq=>?_);refine wy ?_;exact xO ag ag;refine wy ?_;refine dj (λi e h=>∃m:Int,e=[(0,bu s),(4,.v (.int .u64 m)),(5,bp i)]/\h=[]) s.length ⟨0,rfl,rfl⟩ ?_ ?_
 · rintro i e h Q ⟨m,rfl,rfl⟩
   refine wy ?_
   repeat' refine ba (λq'=>?_) λq'=>?_
   all_goals first
    |exact xO ag ag
    |exact⟨_,rfl,trivial⟩
 · rintro e h ⟨m,rfl,rfl⟩
   refine wy (cQ (λbt=>?_) λbt=>?_)
   all_goals
    refine wy ?_;refine eF (aa4 _) ?_;rintro r ⟨t,rfl,ht⟩;refine wy ?_;refine dy (λbV=>?_) λbV=>?_;exact xO ag ag;exact xO (aqy _).1 (aqy _).2
def abQ(s:List UInt8)(hs:s.length<=1000000000):dV G bA 215 [bu s] (Lg (-1) 999):=by
 refine ep (aBf.go ?_);refine wy ?_;refine eF (aEq s hs) ?_;rintro r ⟨n,b,rfl,Y,V⟩;refine wy ?_;cases b with
 |false=>
  refine wy ?_;exact uY ag ag
 |true=>
  refine wy ?_
  repeat' refine ba (λq'=>?_) λq'=>?_
  all_goals first
   |exact uY ag ag
   |exact uY aa aa
def Zj(s:List UInt8)(hs:s.length<=100000):dV G bA 216 [bu s] (PU 100001):=by
 refine ep (aBg.go ?_);have fin:∀(J:List br) (a:Bool) (v v':bg) (b:Bool),b6 J v v'->jf 100001 v'->∃n bS,dx J n (.bQ [.v (.bool a),v,.v (.bool b)])=a_ bS/\PU 100001 bS:=λJ a v v' b hf hv=>by
  obtain⟨n,hn⟩:=(fj (bF (bH (.bool a)) (bF hf (bF (bH (.bool b)) cZ))):b6 J _ _).done;exact⟨n,_,hn,a,v',b,rfl,hv⟩
 refine wy (cQ (λq=>?_) λq=>?_);exact wy (fin _ _ _ _ _ ey (Ae _));refine wy ?_;refine dj (λi e h=>∃(l:List (List UInt8)) (bx:bg) (a:Nat),e=[(0,bu s),(5,bx),(6,bp a),(7,bp i)]/\a<=i/\l.length<=i/\de h bx (l.map bu) 1 9) (s.length+1) ⟨[],.bq,0,rfl,b_ _,b_ _,tv _ _ _⟩ ?_ ?_
 · rintro i e h Q ⟨l,bx,a,rfl,ha,hl,hA⟩
   obtain⟨v',y1,fW,mz⟩:=DQ hA D3;refine wy ?_
   repeat' refine ba (λq'=>?_) λq'=>?_
   all_goals first
    |exact⟨l,bx,a,rfl,aa,aa,hA⟩
    |(have c1:=λJ=>QL (l:=s) (i:=a) (j:=i) ha aa J
      have hw:((s.take i).drop a).length<=1000000000:=ah
      refine wy ?_;refine ct.aat (ZL _ hw) ?_;rintro r ⟨b,rfl⟩;cases b with
      |false=>
       exact wy (fin _ _ _ _ _ b6.bq (jf.nil _))
      |true=>
       refine wy ?_;refine ct.aat (RD y1 aa _) ?_;rintro r ⟨b,rfl⟩;cases b with
       |true=>
        exact wy (fin _ _ _ _ _ b6.bq (jf.nil _))
       |false=>
        obtain⟨cl,g,e1,fM,_⟩:=nc (x:=bu ((s.take i).drop a)) (cc:=16) hA (zL l) rfl ag ag ah;have ab:eW 1 [bu ((s.take i).drop a)]=some (.sl [bu ((s.take i).drop a)] .exact):=rfl;refine wy ?_;exact⟨l++[(s.take i).drop a],cl,i+1,rfl,aa,ah,by rw[List.map_append];exact fM⟩)
 rintro e h ⟨l,bx,a,rfl,ha,hl,hA⟩;refine wy ?_;obtain⟨v',f1,f2⟩:=VE (n:=100001) hA aa;exact fin _ _ _ _ _ f1 f2
def aC5(s:List UInt8)(hs:s.length<=1000000000):dV G bA 85 [bu s] (ac6 65536 65536):=by
 refine ep (aAu.go ?_);refine wy (cQ (λq=>?_) λq=>?_);exact wy (WS ey (DI.nil _ _));have q9:s.length<=65536:=au
 refine wy ?_;refine dj (λi e h=>∃(l:List (List UInt8)) (bx:bg) (a:Nat),e=[(0,bu s),(5,bx),(6,bp a),(7,bp i)]/\a<=i/\l.length<=i/\(∀w∈l,w.length<=65536)/\de h bx (l.map bu) 1 9) s.length ⟨[],.bq,0,rfl,b_ _,b_ _,af,tv _ _ _⟩ ?_ ?_;rintro i e h Q ⟨l,bx,a,rfl,ha,hl,hw,hA⟩;have c1:=λJ=>QL (l:=s) (i:=a) (j:=i) ha aa J;obtain⟨cl,g,e1,fM,_⟩:=nc (x:=bu ((s.take i).drop a)) (cc:=16) hA (zL l) rfl ag ag ah;have ab:eW 1 [bu ((s.take i).drop a)]=a_ (.sl [bu ((s.take i).drop a)] .exact):=rfl;refine oq ?_;refine dy (λq=>?_) λq=>?_;refine wy ?_;refine⟨l++[(s.take i).drop a],cl,i+1,rfl,aa,ah,?_,aLx⟩;intro w hm
 rcases fB.1 hm with z|z
 exact hw w z;rw[dP.1 z];simp;omega;exact⟨l,bx,a,rfl,aa,aa,hw,hA⟩;rintro e h ⟨l,bx,a,rfl,ha,hl,hw,hA⟩;have ln:=F4 hA;refine wy ?_;refine dy (λq=>?_) λq=>?_;exact WS ey (DI.nil _ _);obtain⟨v',f1,f2⟩:=asQ (m:=65536) (n:=65536) hA aa hw;exact WS f1 f2
end
end
section
variable{v w:bg}{l m:List Int}
def Lh(r:bg):Prop:=∃l:List Int,cC r (l.map bp)/\l.length<=256/\∀x∈l,0<=x/\x<256
@[go_sem]def HG(l:List Int):cY 1 (l.map bp)=bh:=by
 rw[cY,eG];intro x I;obtain⟨t,ht,rfl⟩:=dX.1 I;rfl
def VF{J:List br}(h:de J v (l.map bp) 1 3)(Y:l.length<=256)(V:∀x∈l,0<=x/\x<256):∃k bS,dx J k v=a_ bS/\Lh bS:=by
 rcases h with⟨rfl,z⟩|⟨id,rfl,_⟩
 obtain⟨n,hn⟩:=(ey:b6 J _ _).done;exact⟨n,_,hn,[],bG ⟨rfl,rfl⟩,af,af⟩;obtain⟨n,hn⟩:=(gQ (t:=.tok id) (iw (f:=bp) (l:=l) λa _=>bH _):b6 J _ _).done;exact⟨n,_,hn,l,bD rfl,Y,V⟩
section
variable{G:Cells}
def as9(c:Int):dV G bA 154 [.v (.int .u8 c)] jW:=by
 refine ep (aA0.go ?_);refine wy ?_;refine dD (abe c) ?_;refine wy ?_;cases O:(decide ((97:Int)<=c)&&decide (c<=122))<;>refine wy ?_
 all_goals repeat' refine ba (λq'=>?_) λq'=>?_
 all_goals exact ji _
def XC(hv:cC v (l.map bp))(hl:l.length<=1000000000)(x:Int):dV G bA 224 [v,bp x] jW:=by
 refine ep (aBm.go ?_);have ln:=hv.cH;rw[cS] at ln;refine wy ?_;refine dj (λi e h=>e=[(0,v),(1,bp x),(5,bp i)]/\h=[]) l.length ⟨rfl,rfl⟩ ?_ ?_
 · rintro i e h Q ⟨rfl,rfl⟩
   obtain⟨s,hs⟩:=dW Q;have e1:cx 1 v (.v (.int .i64 (i:Int)))=a_ (.fp [bp s] 0):=hv.cw (x:=bp s) aNu rfl;unfold bp at e1;refine wy ?_
   repeat' refine ba (λq'=>?_) λq'=>?_
   exact ji _;exact⟨rfl,trivial⟩
 rintro e h ⟨rfl,rfl⟩;exact wy (ji _)
def aGi(hv:cC v (l.map bp))(hw:cC w (m.map bp))(hl:l.length<=1000000000)(hm:m.length<=1000000000):dV G bA 223 [v,w] jW:=by
 refine ep (aBD.go ?_);have ln:=hv.cH;rw[cS] at ln;have lm:=hw.cH;rw[cS] at lm;refine wy (cQ (λq=>?_) λq=>?_);exact wy (ji _);have aid:l.length=m.length:=au
 refine wy ?_;refine dj (λi e h=>e=[(0,v),(1,w),(5,bp i)]/\h=[]) l.length ⟨rfl,rfl⟩ ?_ ?_
 · rintro i e h Q ⟨rfl,rfl⟩
   obtain⟨s,hs⟩:=dW Q;obtain⟨t,ht⟩:∃s,m[i]?=a_ s:=⟨m[i],cu aa⟩;have e1:cx 1 v (.v (.int .i64 (i:Int)))=a_ (.fp [bp s] 0):=hv.cw (x:=bp s) aNu rfl;have e2:cx 1 w (.v (.int .i64 (i:Int)))=a_ (.fp [bp t] 0):=hw.cw (x:=bp t) (by simp[ht]) rfl;unfold bp at e1 e2;refine wy ?_
   repeat' refine ba (λq'=>?_) λq'=>?_
   exact ji _;exact⟨rfl,trivial⟩
 rintro e h ⟨rfl,rfl⟩;exact wy (ji _)
def aC8(hv:cC v (l.map bp))(T:eT v)(hl:l.length<=1000000000):dV G bA 268 [v] Lh:=by
 refine ep (aBw.go ?_);refine wy ?_;refine dj (λi e h=>∃(o:List Int) (bx:bg),e=[(0,v),(3,bx),(4,bp i)]/\o.length<=i/\(∀x∈o,0<=x/\x<256)/\de h bx (o.map bp) 1 3) 256 ⟨[],.bq,rfl,af,af,tv _ _ _⟩ ?_ ?_;rintro i e h Q ⟨o,bx,rfl,ho,I,hA⟩;obtain⟨cl,g,e1,fM,_⟩:=nc (x:=bp i) (cc:=8) hA (HG o) rfl ag ag ah;have V3:decide ((i:Int)<256)=bh:=ah
 unfold bp at e1;refine wy ?_;refine eF (XC hv hl i) ?_;rintro r ⟨b,rfl⟩;cases b with
 |false=>
  refine wy ?_;exact⟨o,bx,rfl,aa,I,hA⟩
 |true=>
  refine wy ?_;refine⟨o++[(i:Int)],cl,rfl,ah,?_,aLx⟩;intro x hm
  rcases fB.1 hm with z|z
  exact I x z;rw[dP.1 z];omega
 rintro e h ⟨o,bx,rfl,ho,I,hA⟩;have V3:decide (((256:Nat):Int)<256)=bf:=ag
 exact wy (VF hA ho I)
def aIe(hv:cC v (l.map bp))(hw:cC w (m.map bp))(T:eT v)(hd:eT w)(hl:l.length<=1000000000)(hm:m.length<=1000000000)(op:Int):dV G bA 162 [v,w,bp op] Lh:=by
 refine ep (aA4.go ?_);refine wy ?_;refine dj (λi e h=>∃(o:List Int) (bx:bg),e=[(0,v),(1,w),(2,bp op),(7,bx),(8,bp i)]/\o.length<=i/\(∀x∈o,0<=x/\x<256)/\de h bx (o.map bp) 1 3) 256 ⟨[],.bq,rfl,af,af,tv _ _ _⟩ ?_ ?_
 · rintro i e h Q ⟨o,bx,rfl,ho,I,hA⟩
   obtain⟨cl,g,e1,fM,_⟩:=nc (x:=bp i) (cc:=8) hA (HG o) rfl ag ag ah;have V3:decide ((i:Int)<256)=bh:=ah
   unfold bp at e1;refine wy ?_;refine eF (XC hv hl i) ?_;rintro r ⟨b,rfl⟩;refine wy ?_;refine eF (XC hw hm i) ?_;rintro r ⟨b2,rfl⟩;have no:∃(o:List Int) (jt:bg),[(0,v),(1,w),(2,dh (.int .i64 op)),(7,bx),(8,dh (.int .i64 ((i+1:Nat):Int)))]=[(0,v),(1,w),(2,dh (.int .i64 op)),(7,jt),(8,dh (.int .i64 ((i+1:Nat):Int)))]/\o.length<=i+1/\(∀x∈o,0<=x/\x<256)/\de h jt (o.map bp) 1 3:=⟨o,bx,rfl,aa,I,hA⟩;have tu:∃(o:List Int) (jt:bg),[(0,v),(1,w),(2,dh (.int .i64 op)),(7,cl),(8,dh (.int .i64 ((i+1:Nat):Int)))]=[(0,v),(1,w),(2,dh (.int .i64 op)),(7,jt),(8,dh (.int .i64 ((i+1:Nat):Int)))]/\o.length<=i+1/\(∀x∈o,0<=x/\x<256)/\de g jt (o.map bp) 1 3:=by
    refine⟨o++[(i:Int)],cl,rfl,ah,?_,aLx⟩;intro x hm
    rcases fB.1 hm with z|z
    exact I x z;rw[dP.1 z];omega
   cases b<;>cases b2<;>refine wy ?_
   all_goals repeat' ((refine ba (λq'=>?_) λq'=>?_)<;>refine qQ @Av @e1 @abK @z_ @vE ?_)
   all_goals first
    |(exfalso;omega)
    |exact no
    |exact tu
 rintro e h ⟨o,bx,rfl,ho,I,hA⟩;have V3:decide (((256:Nat):Int)<256)=bf:=ag
 exact wy (VF hA ho I)
end
end
end Go.Proofs.YtpcfoeagojdmdaaGreatDoor

/- Part 9 of a proof. No condition. -/
import Derived.Test.YtepejmecchhifaaGreatDoorZ8
set_option linter.unusedVariables false
set_option linter.unusedSimpArgs false
set_option linter.defProp false
open Bool renaming and_eq_true->dV,not_false->rK,not_true->vL
open Go.aH.U renaming agg->b8,cells->gN,mp->bN,one->bl,v->bO
open Go.aH.bU renaming nil->p4
open Go.aH.aa renaming cells->aj,aS->iB
open Go.aH.p_ renaming mk->bI
open Go.aH.bq renaming mono->a_,pu->dx,T9->dh,pure->fo,awe->gO
open Go.aH.fJ renaming mono->e4
open Go.aH.gW renaming mono->rL
open Go.aH renaming Clean->dm,marks->Dv
open Go.aH.aW renaming agg->iC,af->cX,sl->e5,aK->dQ,v->aB
open Go.aH.dK renaming append->zf,cons->aA,map->fY,nil->bT
open Go.Fn renaming func->sN
open Go.IntKind renaming bits->Dx,i64->bP,signed->Dy,u64->Dz,wrap->VY
open Go.Lib renaming lens->vN
open Go.Proofs.Tryz renaming prog->ay
open Go.Proofs.YtepejmecchhifaaGreatDoor.Ext renaming app->jU,refl->p7
open Go.Proofs.YtepejmecchhifaaGreatDoor.gm renaming nil->uu
open Go.Value renaming int->uw
open List renaming all_cons->l5,all_eq_true->c7,all_nil->oV,append_assoc->cj,append_nil->ff,cons_append->gP,drop_of_length_le->sO,drop_succ_cons->xW,drop_zero->ni,eq_nil_of_length_eq_zero->lG,flatten_cons->vP,getElem?_append_right->en,getElem?_cons_zero->l6,getElem?_eq_getElem->br,getElem?_eq_none_iff->ajo,getElem?_eq_some_iff->bF,getElem?_map->eo,getElem?_set_ne->av,getElem?_set_self->aO,getElem_mem->We,length_append->cG,length_cons->di,length_drop->uz,length_map->bX,length_nil->fI,length_set->rM,length_singleton->nM,map_append->eD,map_cons->ep,map_nil->kn,mem_append->dN,mem_cons->dW,mem_cons_of_mem->qJ,mem_cons_self->vS,mem_map->cI,mem_of_getElem?->bA,mem_of_mem_drop->rN,mem_or_eq_of_mem_set->J7,mem_singleton->cw,nil_append->eH,not_mem_nil->nN,set_append_right->ajx,set_eq_take_append_cons_drop->ajy,sum_cons->vU,take_length->p8,take_of_length_le->lH,take_zero->ou
open Nat renaming add_assoc->kK,add_zero->nP,eq_zero_or_pos->zn,le_refl->bg,le_trans->fy,lt_or_ge->cH,sub_self->kL,zero_add->e6,zero_le->iE,zero_lt_succ->vV
open Ne renaming symm->dj
open Or renaming inl->ax,inr->az
open UInt8 renaming ofNat->rP
namespace Go.Proofs.YtepejmecchhifaaGreatDoor
open Go Go.aH Go.RowKit
section
variable{a b k:Nat}{h:List aa}{x:U}{word:List UInt8}{has:Bool}
def cY(nm:List UInt8)(bp:U)(i p aY:Bool)(a:Int)(al:Bool)(mv:U)(ex:List UInt8):List U:=[ai nm,bp,i,p,aY,a,al,mv,ai ex]
def s6(k:Nat)(h:List aa):Prop:=∃(nm:List UInt8) (bp:U) (i p aY:Bool) (a:Int) (al:Bool) (mv:U) (ex:List UInt8) (gs:List (List UInt8)),h[k]?=some (.cells (cY nm bp i p aY a al mv ex) false)/\bU h bp (gs.map ai) 1 9/\gs.length<=4/\gm 100001 mv/\ex.length<=40000
def l8(k:Nat)(h h':List aa):Prop:=h.length<=h'.length/\∀(j:Nat) b,j≠k->(∀c,b≠.tok c 1 9)->h[j]?=some b->h'[j]?=some b
def l8.refl(k:Nat)(h:List aa):l8 k h h:=⟨bg _,λ_ _ _ _ q=>q⟩
def l8.trans{a b c:List aa}(h:l8 k a b)(q:l8 k b c):l8 k a c:=⟨fy h.1 q.1,λj x hj hn e=>q.2 j x hj hn (h.2 j x hj hn e)⟩
def l8.set{x:aa}:l8 k h (h.set k x):=⟨aCt,λj b hj _ q=>aDS⟩
def l8.app{l:List aa}:l8 k h (h++l):=⟨aCt,λ_ _ _ _ q=>aJ q⟩
section
variable{k:Nat}{h:List aa}{nm ex:List UInt8}{bp mv:U}{i p aY al:Bool}{a:Int}{gs:List (List UInt8)}
def ie{v:U}{xs:List U}{n:Nat}{e:TypeId}{Z cs':List U}(hA:bU h v xs n e)(S:h[k]?=some (.cells Z false)):bU (h.set k (.cells cs' false)) v xs n e:=by
 rcases hA with z|⟨id,aT,z2⟩
 exact ax z;exact az ⟨id,aT,by rw[av (by rintro rfl;rw[S] at z2;cases z2)];exact z2⟩
@[go_sem]def sA(O:h[k]?=some (.cells (cY nm bp i p aY a al mv ex) false)):aq h false 1 (.mp k 0)=some (ai nm)/\aq h false 1 (.mp k 1)=some bp/\aq h true 9 (.mp k 0)=some (.agg (cY nm bp i p aY a al mv ex)):=by
 simp only[aq,O];exact⟨rfl,rfl,rfl⟩
@[go_sem]def afD(O:h[k]?=some (.cells (cY nm bp i p aY a al mv ex) false))(x:Bool):aE h 1 (.mp k 2) x=some (h.set k (.cells (cY nm bp x p aY a al mv ex) false)):=aC3
@[go_sem]def afE(O:h[k]?=some (.cells (cY nm bp i p aY a al mv ex) false))(x:Bool):aE h 1 (.mp k 3) x=some (h.set k (.cells (cY nm bp i x aY a al mv ex) false)):=aC3
@[go_sem]def afF(O:h[k]?=some (.cells (cY nm bp i p aY a al mv ex) false))(x:Bool):aE h 1 (.mp k 4) x=some (h.set k (.cells (cY nm bp i p x a al mv ex) false)):=aC3
@[go_sem]def afG(O:h[k]?=some (.cells (cY nm bp i p aY a al mv ex) false))(x:Int):aE h 1 (.mp k 5) x=some (h.set k (.cells (cY nm bp i p aY x al mv ex) false)):=aC3
@[go_sem]def TA(O:h[k]?=some (.cells (cY nm bp i p aY a al mv ex) false))(x:Bool):aE h 1 (.mp k 6) x=some (h.set k (.cells (cY nm bp i p aY a x mv ex) false)):=aC3
@[go_sem]def afH(O:h[k]?=some (.cells (cY nm bp i p aY a al mv ex) false))(x:List UInt8):aE h 1 (.mp k 8) (ai x)=some (h.set k (.cells (cY nm bp i p aY a al mv x) false)):=aC3
@[go_sem]def TB(O:h[k]?=some (.cells (cY nm bp i p aY a al mv ex) false))(I:bl x=true)(T:x.cells=[x]):aE h 1 (.mp k 7) x=some (h.set k (.cells (cY nm bp i p aY a al x ex) false)):=by
 simp only[aE,O,dG,T];simp[I,putAt,cY]
@[go_sem]def Tz(O:h[k]?=some (.cells (cY nm bp i p aY a al mv ex) false))(I:bl x=true)(T:x.cells=[x]):aE h 1 (.mp k 1) x=some (h.set k (.cells (cY nm x i p aY a al mv ex) false)):=by
 simp only[aE,O,dG,T];simp[I,putAt,cY]
end
def DS(G:Cells)(f:FuncId):Prop:=∀(k:Nat) (s:List UInt8) (h:List aa),s.length<=100000->s6 k h->bq G ay f [.mp k 0,ai s] h λr h'=>hJ r/\s6 k h'/\l8 k h h'
section
variable{G:Cells}
def awH:DS G 222:=by
 rintro k s h hs ⟨nm,bp,i,p,aY,a,al,mv,ex,gs,O,hA,hg,hm,he⟩;refine adI.go ?_;refine wx ?_;exact⟨⟨_,rfl⟩,⟨nm,bp,true,p,aY,a,al,mv,ex,gs,aO (gl O),ie hA O,hg,hm,he⟩,l8.set⟩
def awI:DS G 223:=by
 rintro k s h hs ⟨nm,bp,i,p,aY,a,al,mv,ex,gs,O,hA,hg,hm,he⟩;refine adJ.go ?_;refine wx ?_;exact⟨⟨_,rfl⟩,⟨nm,bp,i,true,aY,a,al,mv,ex,gs,aO (gl O),ie hA O,hg,hm,he⟩,l8.set⟩
def awJ(bh:dL G)(hI:x9 G):DS G 224:=by
 rintro k s h hs ⟨nm,bp,i,p,aY,a,al,mv,ex,gs,O,hA,hg,hm,he⟩;refine adK.go ?_;refine wy ?_;refine dh (aiA bh hI s aCs) ?_;rintro r ⟨n,b,rfl,Y,V⟩;refine wx ?_;exact⟨⟨_,rfl⟩,⟨nm,bp,i,p,aY,n,al,mv,ex,gs,aO (gl O),ie hA O,hg,hm,he⟩,l8.set⟩
def awK(bh:dL G):DS G 225:=by
 rintro k s h hs ⟨nm,bp,i,p,aY,a,al,mv,ex,gs,O,hA,hg,hm,he⟩;refine adL.go ?_;refine wy ?_;refine dh (aeY bh s hs) ?_;rintro r ⟨x,v,b,rfl,hv⟩;have gI:=aO (a:=.cells (cY nm bp i p aY a x mv ex) false) (gl O);refine ki (TA O) (TB gI hv.one.1 hv.one.2) ?_;exact⟨⟨_,rfl⟩,⟨nm,bp,i,p,aY,a,x,v,ex,gs,aO (gl gI),ie (ie hA O) gI,hg,hv,he⟩,l8.set.trans l8.set⟩
def awG(bh:dL G):DS G 221:=by
 rintro k s h hs ⟨nm,bp,i,p,aY,a,al,mv,ex,gs,O,hA,hg,hm,he⟩;refine adH.go ?_;obtain⟨v',y1,eu,jT⟩:=zK hA zX;have ln:∀J,bL bp J=some (.v (.int .i64 (gs.length:Int)),J):=λJ=>by
  rcases hA with⟨rfl,z⟩|⟨id,rfl,_⟩
  have:gs=[]:=aCT
  subst this;rfl;simp[m_,goInt]
 refine wy ?_;refine dh (Sx bh s aCs) ?_;rintro r ⟨b,rfl⟩;cases b with
 |false=>
  refine wy ?_;exact⟨⟨_,rfl⟩,⟨nm,bp,i,p,aY,a,al,mv,ex,gs,O,hA,hg,hm,he⟩,l8.refl _ _⟩
 |true=>
  refine fG ((sA O).2.1) ?_;refine dx (GS y1 jT aCs s) ?_;refine wy (bI (λq=>?_) λq=>?_);refine wy ?_;exact⟨⟨_,rfl⟩,⟨nm,bp,i,p,aY,a,al,mv,ex,gs,O,hA,hg,hm,he⟩,l8.refl _ _⟩;refine ki @q ((sA O).2.1) (bI (λah=>?_) λah=>?_);refine wy ?_;exact⟨⟨_,rfl⟩,⟨nm,bp,i,p,aY,a,al,mv,ex,gs,O,hA,hg,hm,he⟩,l8.refl _ _⟩;have Ak:gs.length<4:=aD6
  obtain⟨bf,g2,e2,dS,hne,hle,hk2⟩:=kQ (x:=ai s) (aZ:=16) hA (vn gs) rfl aCu aCu aCv;have gy:∀{j:Nat} {b:aa},h[j]?=some b->(∀c,b≠.tok c 1 9)->g2[j]?=some b:=λq O=>hk2 _ _ q λxs z=>by
   rcases hA with⟨aT,_⟩|⟨id,aT,z2⟩
   rw[aT] at z;cases z;rw[aT] at z;cases z;rw[q] at z2;cases z2;exact O _ rfl
  have gI:=gy O aCt
  have ho:bl bf=true/\bf.cells=[bf]:=by rcases dS with⟨rfl,_⟩|⟨_,rfl,_⟩<;>exact⟨rfl,rfl⟩
  have ab:dy 1 [ai s]=some (.sl [ai s] .exact):=rfl;refine ki ((sA O).2.1) (Tz gI ho.1 ho.2) ?_;refine⟨⟨_,rfl⟩,⟨nm,bf,i,p,aY,a,al,mv,ex,gs++[s],aO (gl gI),?_,aCv,hm,he⟩,?_⟩;rw[eD];exact ie dS gI;exact l8.trans ⟨hle,λj b _ hn q=>gy q hn⟩ l8.set
def j9(w:List UInt8)(b:Bool)(f:FuncId):List U:=[ai w,b,.fn (.func f) [] []]
def AR:List (List U):=[j9 [103,114,111,117,112] true 221,j9 [105,110,108,105,110,101] false 222,j9 [112,105,99,107] false 223,j9 [97,116,116,114] true 224,j9 [109,97,114,107,115] true 225]
def TR(h:List aa):bq G ay 162 [] h λr h'=>r=.sl (AR.map b8) .exact/\h'=h:=by
 refine adb.go ?_;have f1:∀(w:List UInt8) (b:Bool) (f:FuncId),cq [.v (.string ⟨[].toArray⟩),false,.v .nilFunc] [(0,1,.v (.string ⟨w.toArray⟩)),(1,1,b),(2,1,.fn (.func f) [] [])]=some (j9 w b f):=λw b f=>rfl;have ab:dy 3 [.agg (j9 [103,114,111,117,112] true 221),.agg (j9 [105,110,108,105,110,101] false 222),.agg (j9 [112,105,99,107] false 223),.agg (j9 [97,116,116,114] true 224),.agg (j9 [109,97,114,107,115] true 225)]=some (.sl (AR.map b8) .exact):=rfl;exact wx tt
def aq5(ha:h[a]?=some (.cells [ai word] false))(O:h[b]?=some (.cells [has] false))(w:List UInt8)(x:Bool)(f:FuncId):
  bq G ay 163 [.agg (j9 w x f),.mp a 0,.mp b 0] h λr h'=>hJ r/\h'=h++[.cells (j9 w x f) false]:=by
 refine ade.go ?_;have m1:(h++[aj (j9 w x f) false])[h.length]?=some (.cells (j9 w x f) false):=aCt
 have l0:aq (h++[aj (j9 w x f) false]) false 1 (.mp h.length 0)=some (ai w)/\aq (h++[aj (j9 w x f) false]) false 1 (.mp h.length 1)=some (.v (.bool x)):=by
  simp only[aq,m1];exact⟨rfl,rfl⟩
 refine wy ?_;refine wy (bI (λq=>?_) λq=>?_);have e1:Gx false (.v (.bool x)) (.v (.bool has))=some (.v (.bool (x==has))):=by cases x<;>cases has<;>rfl
 refine wx ?_;exact⟨⟨_,rfl⟩,trivial⟩;refine wx ?_;exact⟨⟨_,rfl⟩,trivial⟩
def aqQ(ha:h[a]?=some (.cells [ai word] false))(O:h[b]?=some (.cells [has] false)):
  bq G ay 161 [.sl (AR.map b8) .exact,.fn (.func 163) [] [.mp a 0,.mp b 0]] h λr h'=>(∃n:Int,r=n/\(n<0\/∃j:Nat,n=(j:Int)/\j<5))/\∃l,h'=h++l:=by
 refine ada.go ?_;refine wy ?_;refine b9 (λi e g=>e=[(0,.sl (AR.map b8) .exact),(1,.fn (.func 163) [] [.mp a 0,.mp b 0]),(7,.v (.int .i64 5)),(8,ag i)]/\∃l,g=h++l) 5 ⟨rfl,[],aCt⟩ ?_ ?_;rintro i e g Q ⟨rfl,l,rfl⟩;have c1:decide ((i:Int)<5)=true:=aCv
 obtain⟨w,x,f,I⟩:∃w x f,(AR.map b8)[i]?=some (.agg (j9 w x f)):=by
  match i,Q with
  |0,_=>exact⟨_,_,_,rfl⟩
  |1,_=>exact⟨_,_,_,rfl⟩
  |2,_=>exact⟨_,_,_,rfl⟩
  |3,_=>exact⟨_,_,_,rfl⟩
  |4,_=>exact⟨_,_,_,rfl⟩
 have e1:bw 3 (.sl (AR.map b8) .exact) i=some (.fp (j9 w x f) 0):=jY I rfl;have e2:∀J,aq J true 3 (.fp (j9 w x f) 0)=some (.agg (j9 w x f)):=λJ=>rfl;refine wy (a_ (aq5 (aJ ha) (aJ O) w x f) ?_);rintro r g2 ⟨⟨y,rfl⟩,rfl⟩;cases y with
 |true=>
  refine wy ?_;exact⟨⟨_,rfl,az ⟨i,rfl,Q⟩⟩,l++[.cells (j9 w x f) false],aDE⟩
 |false=>
  refine wx ?_;exact⟨rfl,l++[.cells (j9 w x f) false],aDE⟩
 rintro e g ⟨rfl,l,rfl⟩;have c1:decide (((5:Nat):Int)<5)=false:=rfl;refine wy ?_;exact⟨⟨_,rfl,ax aCu⟩,l,rfl⟩
end
end
section
variable{ex nm:List UInt8}{bp mv:U}{al i aY p:Bool}{a:Int}{k:Nat}{h:List aa}
def rS(x:List U):Prop:=∃nm bp i p aY a al mv ex,x=cY nm bp i p aY a al mv ex/\gm 4 bp/\gm 100001 mv/\ex.length<=40000
def Ph(r:U):Prop:=∃(x:List U) (b:Bool),r=.aK [.agg x,b]/\rS x
def IV{J:List aa}{b:Bool}{gs:List (List UInt8)}(hA:bU J bp (gs.map ai) 1 9)(hg:gs.length<=4)(hm:gm 100001 mv)(he:ex.length<=40000):
  ∃n aM,b7 J n (.aK [.agg (cY nm bp i p aY a al mv ex),b])=some aM/\Ph aM:=by
 obtain⟨v',aT,z2⟩:=PI hA hg;obtain⟨n,hn⟩:=(dQ (aA (iC (aA (aB _) (aA aT (aA (aB _) (aA (aB _) (aA (aB _) (aA (aB _) (aA (aB _) (aA (hm.fz J) (aA (aB _) bT)))))))))) (aA (aB (.bool b)) bT)):aW J (.aK [.agg (cY nm bp i p aY a al mv ex),b]) _).done;exact⟨n,_,hn,_,b,rfl,nm,v',i,p,aY,a,al,mv,ex,rfl,z2,hm,he⟩
def s6.app{x:List aa}(s:s6 k h):s6 k (h++x):=by
 obtain⟨nm,bp,i,p,aY,a,al,mv,ex,gs,O,hA,D⟩:=s;exact⟨nm,bp,i,p,aY,a,al,mv,ex,gs,aJ O,hA.ext,D⟩
def s6.sE{j:Nat}{b b':aa}(s:s6 k h)(hj:h[j]?=some b)(O:∀c,b≠.tok c 1 9)(S:j≠k):s6 k (h.set j b'):=by
 obtain⟨nm,bp,i,p,aY,a,al,mv,ex,gs,hb',hA,D⟩:=s;refine⟨nm,bp,i,p,aY,a,al,mv,ex,gs,by rw[av S];exact hb',?_,D⟩
 rcases hA with z|⟨id,aT,z2⟩
 exact ax z;exact az ⟨id,aT,by rw[av (by rintro rfl;rw[hj] at z2;cases z2;exact O _ rfl)];exact z2⟩
@[go_sem]def tS{Z x:List U}(O:h[k]?=some (.cells Z false))(T:Z.length=9)(I:x.length=9)(Y:x.all bl=true):aE h 9 (.mp k 0) (.agg x)=some (h.set k (.cells x false)):=by
 have e:(b8 x).cells=x:=rfl;simp only[aE,O,dG];rw[e,if_pos ⟨I,aCs,Y⟩];unfold putAt;rw[ou,eH,e6,I,sO aCs,ff]
def CX(hg:bl bp=true)(hm:bl mv=true):(cY nm bp i p aY a al mv ex).all bl=true:=by
 simp only[cY,l5,oV,hg,hm];rfl
def eT:List U:=cY [] .af false false false 0 false .af []
structure Kx(ls:List (List UInt8)):Prop where
 each:∀w∈ls,w.length<=100000
 all:∀n,vN (ls.drop n)+(ls.drop n).length<=1000000
 len:ls.length<=100000
section
variable{G:Cells}
def avr(bh:dL G)(hI:x9 G){ls:List (List UInt8)}(hW:Kx ls)(V:2<=ls.length):cC G ay 95 [.sl (ls.map ai) .no] Ph:=by
 refine cU (acz.go ?_);have hlen:=hW.len;obtain⟨n1,mW⟩:∃n,ls[1]?=some n:=⟨ls[1],br aCs⟩;have e1:bw 1 (.sl (ls.map ai) .no) (1:Int)=some (.fp [ai n1] 0):=jY (i:=1) (x:=ai n1) (by simp[mW]) rfl;have f1:∀x:List UInt8,cq eT [(0,1,ai x),(4,1,true)]=some (cY x .af false false true 0 false .af []):=λx=>rfl;have f0:cq eT []=some eT:=rfl;have hz:[bO (.string ⟨[].toArray⟩),.af,false,false,false,(0:Int),false,.af,.v (.string ⟨[].toArray⟩)]=eT:=rfl;have s1:aE [.cells eT false,.cells eT false] 9 (.mp 1 0) (.agg (cY n1 .af false false true 0 false .af []))=some [.cells eT false,.cells (cY n1 .af false false true 0 false .af []) false]:=tS (k:=1) rfl rfl rfl rfl;have cut:∀(n:Nat) (J:List aa),n<=ls.length->pU 1 (.sl (ls.map ai) .no) (some (.v (.int .i64 (n:Int)))) none none J=some (.sl ((ls.drop n).map ai) .no,J):=λn J hn=>by
  rw[List.map_drop];exact NV aDP Od J
 have YW:=λJ=>cut 2 J V;have alq:((2:Nat):Int)=2:=rfl;rw[alq] at YW;have l2:(ls.drop 2).length=ls.length-2:=uz ..;refine wy ?_;refine b9 (λi e h=>e=[(0,.sl (ls.map ai) .no),(2,.mp 0 0),(4,.mp 1 0),(5,.dZ 2),(21,.sl ((ls.drop 2).map ai) .no),(22,ag ((ls.length-2:Nat):Int)),(23,ag i)]/\h[0]?=some (.cells eT false)/\s6 1 h/\∃es bx,h[2]?=some (.cQ es bx)/\BH es) (ls.length-2)
  ⟨rfl,rfl,⟨n1,.af,false,false,true,0,false,.af,[],[],rfl,ax ⟨rfl,rfl⟩,aCu,uu _,aCu⟩,[],0,rfl,λe he=>by cases he⟩ ?_ ?_
 rintro i e h Q ⟨rfl,h0,hN,es,bx,hm,hM⟩;obtain⟨w,hw⟩:∃w,(ls.drop 2)[i]?=some w:=⟨(ls.drop 2)[i]' aCs,br aCs⟩;have EN:w∈ls:=rN (bA hw);have Ax:=hW.each w EN;have e2:bw 1 (.sl ((ls.drop 2).map ai) .no) i=some (.fp [ai w] 0):=jY (x:=ai w) (by rw[eo,hw];rfl) rfl;refine wy ?_;refine b5 (λq=>?_) λq=>?_;have w3:bP.wrap ((i:Int)+3)=((i+3:Nat):Int):=by rw[wrap_i64 aCs aCs];rfl
 refine wy (gO (arc (ls.drop (i+3)) (hW.all _)) (bn (nZ (ax rfl)) cx) ?_);rintro r ⟨t,rfl,ht⟩;refine wy ?_;refine dh (TZ bh t (fy ht (hW.all _))) ?_;rintro r ⟨v,NC,wO,rfl,hq⟩;obtain⟨ps,hE⟩:∃ps,qe v ps:=by
  rcases hq with⟨_,_,ps,hE⟩|⟨_,rfl⟩
  exact⟨ps,hE⟩;exact⟨[],az ⟨rfl,rfl⟩,λi p h=>aCC,aCu,aCt⟩
 refine wy (gO (axV bh hE) (bn (BV hE) cx) ?_);rintro r ⟨tx,rfl,abE⟩;obtain⟨nm,bp,i1,p1,aY,a,al,mv,ex,gs,O,hA,hg,jx,he⟩:=hN;have fV:=aO (a:=.cells (cY nm bp i1 p1 false a al mv ex) false) (gl O)
 have ho:bl bp=true:=aCF
 have mT:((h.set 1 (.cells (cY nm bp i1 p1 false a al mv ex) false)).set 1 (.cells (cY nm bp i1 p1 false a al mv tx) false))[0]?=some (.cells eT false):=by rw[av aCs,av aCs];exact h0
 have kX:=tS mT rfl (x:=cY nm bp i1 p1 false a al mv tx) rfl (CX ho jx.one.1);exact wx (IV (ie (ie (ie hA O) fV) mT) hg jx abE);refine dh (YX w 61 aCs) ?_;rintro r ⟨a,b,f,rfl,hal,L5⟩;have pL:3<=h.length:=by have:=(gl hm);omega
 have n2:aE (h++[aj [.v (.string ⟨[].toArray⟩)] false]++[aj [false] false]) 1 (.mp h.length 0) (ai a)=some (h++[aj [ai a] false]++[aj [false] false]):=by
  rw[oh (w:=ai a) rfl (v:=.v (.string ⟨[].toArray⟩)) aCt];simp
 have mB:aE (h++[aj [ai a] false]++[aj [false] false]) 1 (.mp (h.length+1) 0) f=some (h++[aj [ai a] false]++[aj [f] false]):=by
  have:=N9 (h++[aj [ai a] false]) false (x:=f) rfl rfl;simpa using this
 have ka:(h++[aj [ai a] false]++[aj [f] false])[h.length]?=some (.cells [ai a] false):=aCt
 have kb:(h++[aj [ai a] false]++[aj [f] false])[h.length+1]?=some (.cells [f] false):=aCt
 have r_:(h++[aj [ai a] false]++[aj [f] false])[0]?=some (.cells eT false):=aJ (aJ h0);have mV:(h++[aj [ai a] false]++[aj [f] false])[2]?=some (.cQ es bx):=aJ (aJ hm);have hN1:s6 1 (h++[aj [ai a] false]++[aj [f] false]):=hN.app.app;refine ki @cG.{0} @e6 ?_;generalize h++[aj [ai a] false]++[aj [f] false]=g at ka kb r_ mV hN1⊢;generalize h.length=m at ka kb pL⊢;refine a_ (TR g) ?_;rintro r g' ⟨rfl,rfl⟩;refine wy (a_ (aqQ ka kb) ?_);rintro r g2 ⟨⟨dO,rfl,apT⟩,lx,rfl⟩;have aem:(g'++lx)[m]?=some (.cells [ai a] false):=aJ ka;have mT:(g'++lx)[0]?=some (.cells eT false):=aJ r_;have hm2:(g'++lx)[2]?=some (.cQ es bx):=aJ mV;have gT:s6 1 (g'++lx):=hN1.app;generalize g'++lx=g3 at aem mT hm2 gT⊢;obtain⟨nl,bW⟩:=CR hm2 hM a;obtain⟨jw,hO,cO,pH⟩:=MV hm2 hM a (bP.wrap (nl+1));refine wy ?_;have aen:(g3.set 2 (.cQ jw hO))[m]?=some (.cells [ai a] false):=by rw[av aCs];exact aem
 have Cb:(g3.set 2 (.cQ jw hO))[0]?=some (.cells eT false):=by rw[av aCs];exact mT
 have H8:(g3.set 2 (.cQ jw hO))[2]?=some (.cQ jw hO):=aO (gl hm2);have Af:s6 1 (g3.set 2 (.cQ jw hO)):=gT.sE hm2 aCt aCs;generalize g3.set 2 (.cQ jw hO)=g4 at aen Cb H8 Af⊢;have fF:=tS Cb rfl (x:=eT) rfl rfl;have k0:=aO (a:=.cells eT false) (gl Cb);have sx:aq (g4.set 0 (.cells eT false)) true 9 (.mp 0 0)=some (.agg eT):=(sA k0).2.2;have bad:∃n aM,b7 (g4.set 0 (.cells eT false)) n (.aK [.agg eT,false])=some aM/\Ph aM:=IV (gs:=[]) (ax ⟨rfl,rfl⟩) aCu (uu _) aCu;obtain⟨E4,kS⟩:=CR H8 pH a;have G1:cr .neq (ai a) (.v (.string ⟨[103,114,111,117,112].toArray⟩))=some (.v (.bool !(a==[103,114,111,117,112]))):=vk a [103,114,111,117,112];refine wy (bI (λq1=>?_) λq1=>?_);exact kg @q1 @f0 @fF @sx bad;obtain⟨j,rfl,hj⟩:∃j:Nat,dO=(j:Int)/\j<5:=by
  rcases apT with z|z
  simp at q1;omega;exact z
 obtain⟨Ou,oT,f6,aqn,hrd⟩:∃w x f,(AR.map b8)[j]?=some (.agg (j9 w x f))/\DS G f:=by
  match j,hj with
  |0,_=>exact⟨_,_,_,rfl,awG bh⟩
  |1,_=>exact⟨_,_,_,rfl,awH⟩
  |2,_=>exact⟨_,_,_,rfl,awI⟩
  |3,_=>exact⟨_,_,_,rfl,awJ bh hI⟩
  |4,_=>exact⟨_,_,_,rfl,awK bh⟩
 have uT:bw 3 (.sl (AR.map b8) .exact) (.v (.int .i64 (j:Int)))=some (.fp (j9 Ou oT f6) 0):=jY aqn rfl;have CJ:∀J,aq J false 1 (.fp (j9 Ou oT f6) 2)=some (.fn (.func f6) [] []):=λJ=>rfl;have jj:(decide ((1:Int)<E4)=true/\(a==[103,114,111,117,112])=false)\/decide ((1:Int)<E4)=false\/(decide ((1:Int)<E4)=true/\(a==[103,114,111,117,112])=true):=by
  cases decide ((1:Int)<E4)<;>cases(a==[103,114,111,117,112])<;>simp
 rcases jj with⟨hd,q5⟩|hd|⟨hd,q5⟩
 exact oR @q1 (cy aen) @kS @hd @G1 @q5 @f0 @fF @sx bad;refine wy (a_ (TR g4) ?_);rintro r g' ⟨rfl,rfl⟩;refine wy (a_ (hrd 1 b g' aCs Af) ?_);rintro r g5 ⟨⟨y,rfl⟩,Hz,uZ⟩;have n5:=uZ.2 _ _ aCs aCt Cb;have n7:=uZ.2 _ _ aCs aCt H8;cases y with
 |false=>
  refine wy ?_;exact IV (gs:=[]) (ax ⟨rfl,rfl⟩) aCu (uu _) aCu
 |true=>
  refine dP ?_;exact⟨rfl,n5,Hz,jw,hO,n7,pH⟩
 refine wy (a_ (TR g4) ?_);rintro r g' ⟨rfl,rfl⟩;refine wy (a_ (hrd 1 b g' aCs Af) ?_);rintro r g5 ⟨⟨y,rfl⟩,Hz,uZ⟩;have n5:=uZ.2 _ _ aCs aCt Cb;have n7:=uZ.2 _ _ aCs aCt H8;cases y with
 |false=>
  refine wy ?_;exact IV (gs:=[]) (ax ⟨rfl,rfl⟩) aCu (uu _) aCu
 |true=>
  refine dP ?_;exact⟨rfl,n5,Hz,jw,hO,n7,pH⟩
 rintro e h ⟨rfl,h0,hN,es,bx,hm,hM⟩;obtain⟨nm,bp,i1,p1,aY,a,al,mv,ex,gs,O,hA,hg,jx,he⟩:=hN
 have ho:bl bp=true:=aCF
 have kX:=tS h0 rfl (x:=cY nm bp i1 p1 aY a al mv ex) rfl (CX ho jx.one.1);exact lE (IV (ie hA h0) hg jx he)
end
end
def c_(nm:List UInt8)(v:Int)(al:Bool)(bv:U):List U:=[ai nm,v,al,bv]
def lM(x:List U):Prop:=∃nm v al bv,x=c_ nm v al bv/\gm 100001 bv
def BI(r:U):Prop:=∃(x:List U) (b:Bool),r=.aK [.agg x,b]/\lM x
def E2{J:List aa}{nm:List UInt8}{v:Int}{al b:Bool}{bv:U}(O:gm 100001 bv):∃n aM,b7 J n (.aK [.agg (c_ nm v al bv),b])=some aM/\BI aM:=by
 obtain⟨n,hn⟩:=(dQ (aA (iC (aA (aB _) (aA (aB _) (aA (aB _) (aA (O.fz J) bT))))) (aA (aB (.bool b)) bT)):aW J (.aK [.agg (c_ nm v al bv),b]) _).done;exact⟨n,_,hn,_,b,rfl,nm,v,al,bv,rfl,O⟩
section
variable{k:Nat}{h:List aa}{nm:List UInt8}{v:Int}{al:Bool}{bv:U}
@[go_sem]def IM(O:h[k]?=some (.cells (c_ nm v al bv) false)):aq h false 1 (.mp k 0)=some (ai nm)/\aq h true 4 (.mp k 0)=some (.agg (c_ nm v al bv)):=by
 simp only[aq,O];exact⟨rfl,rfl⟩
@[go_sem]def M3(O:h[k]?=some (.cells (c_ nm v al bv) false))(x:Int):aE h 1 (.mp k 1) x=some (h.set k (.cells (c_ nm x al bv) false)):=aC3
@[go_sem]def M4(O:h[k]?=some (.cells (c_ nm v al bv) false))(x:Bool):aE h 1 (.mp k 2) x=some (h.set k (.cells (c_ nm v x bv) false)):=aC3
@[go_sem]def M5(O:h[k]?=some (.cells (c_ nm v al bv) false)){x:U}(I:bl x=true)(T:x.cells=[x]):aE h 1 (.mp k 3) x=some (h.set k (.cells (c_ nm v al x) false)):=by
 simp only[aE,O,dG,T];simp[I,putAt,c_]
@[go_sem]def xz{Z x:List U}(O:h[k]?=some (.cells Z false))(T:Z.length=4)(I:x.length=4)(Y:x.all bl=true):aE h 4 (.mp k 0) (.agg x)=some (h.set k (.cells x false)):=by
 have e:(b8 x).cells=x:=rfl;simp only[aE,O,dG];rw[e,if_pos ⟨I,aCs,Y⟩];unfold putAt;rw[ou,eH,e6,I,sO aCs,ff]
def Tp(O:bl bv=true):(c_ nm v al bv).all bl=true:=by
 simp only[c_,l5,oV,O];rfl
end
def d_:List U:=c_ [] 0 false .af
section
variable{G:Cells}
def auG(bh:dL G)(hI:x9 G){ls:List (List UInt8)}(hW:Kx ls)(V:2<=ls.length):cC G ay 98 [.sl (ls.map ai) .no] BI:=by
 refine cU (acC.go ?_);have hlen:=hW.len;obtain⟨n1,mW⟩:∃n,ls[1]?=some n:=⟨ls[1],br aCs⟩;have e1:bw 1 (.sl (ls.map ai) .no) (1:Int)=some (.fp [ai n1] 0):=jY (i:=1) (x:=ai n1) (by simp[mW]) rfl;have f1:∀x:List UInt8,cq d_ [(0,1,ai x)]=some (c_ x 0 false .af):=λx=>rfl;have f0:cq d_ []=some d_:=rfl;have hz:[bO (.string ⟨[].toArray⟩),(0:Int),false,.af]=d_:=rfl;have s1:aE [.cells d_ false,.cells d_ false] 4 (.mp 1 0) (.agg (c_ n1 0 false .af))=some [.cells d_ false,.cells (c_ n1 0 false .af) false]:=xz (k:=1) rfl rfl rfl rfl;have YW:∀J,pU 1 (.sl (ls.map ai) .no) (some (.v (.int .i64 2))) none none J=some (.sl ((ls.drop 2).map ai) .no,J):=λJ=>by
  rw[List.map_drop];exact NV (i:=2) aCK Od J
 have l2:(ls.drop 2).length=ls.length-2:=uz ..;refine wy ?_;refine b9 (λi e h=>e=[(2,.mp 0 0),(4,.mp 1 0),(5,.dZ 2),(18,.sl ((ls.drop 2).map ai) .no),(19,ag ((ls.length-2:Nat):Int)),(20,ag i)]/\h[0]?=some (.cells d_ false)/\(∃x,h[1]?=some (.cells x false)/\lM x)/\∃es bx,h[2]?=some (.cQ es bx)/\BH es) (ls.length-2)
  ⟨rfl,rfl,⟨_,rfl,n1,0,false,.af,rfl,uu _⟩,[],0,rfl,λe he=>by cases he⟩ ?_ ?_
 rintro i e h Q ⟨rfl,h0,⟨x,Y,nm,v,al,bv,rfl,tD⟩,es,bx,hm,hM⟩;obtain⟨w,hw⟩:∃w,(ls.drop 2)[i]?=some w:=⟨(ls.drop 2)[i]' aCs,br aCs⟩;have EN:w∈ls:=rN (bA hw);have Ax:=hW.each w EN;have e2:bw 1 (.sl ((ls.drop 2).map ai) .no) i=some (.fp [ai w] 0):=jY (x:=ai w) (by rw[eo,hw];rfl) rfl;refine wy ?_;refine dh (YX w 61 aCs) ?_;rintro r ⟨a,b,f,rfl,hal,L5⟩;have Hw:=gl Y;refine wy ?_;refine b5 (λq=>?_) λq=>?_;refine dh (aiA bh hI b aCs) ?_;rintro r ⟨n,ok,rfl,_,_⟩;have st:=M3 Y n;have uY:(h.set 1 (.cells (c_ nm n al bv) false))[1]?=some (.cells (c_ nm n al bv) false):=aO Hw;have n5:(h.set 1 (.cells (c_ nm n al bv) false))[0]?=some (.cells d_ false):=by rw[av aCs];exact h0
 have n7:(h.set 1 (.cells (c_ nm n al bv) false))[2]?=some (.cQ es bx):=by rw[av aCs];exact hm
 refine wy ?_;generalize h.set 1 (.cells (c_ nm n al bv) false)=g5 at uY n5 n7⊢;obtain⟨sy,v5,r0,pg,L6,ql⟩:∃sy v5 r0 pg,gm 100001 pg/\c_ nm n al bv=c_ sy v5 r0 pg:=⟨_,_,_,_,tD,rfl⟩;rw[ql] at uY;obtain⟨nl,bW⟩:=CR n7 hM a;obtain⟨jw,hO,cO,pH⟩:=MV n7 hM a (bP.wrap (nl+1));have sg:(g5.set 2 (.cQ jw hO))[0]?=some (.cells d_ false):=by rw[av aCs];exact n5
 have Cc:(g5.set 2 (.cQ jw hO))[1]?=some (.cells (c_ sy v5 r0 pg) false):=by rw[av aCs];exact uY
 have tI:(g5.set 2 (.cQ jw hO))[2]?=some (.cQ jw hO):=aO (gl n7);refine wy ?_;generalize g5.set 2 (.cQ jw hO)=g6 at sg Cc tI⊢;obtain⟨E4,kS⟩:=CR tI pH a;have fF:=xz sg rfl (x:=d_) rfl rfl;have k0:=aO (a:=.cells d_ false) (gl sg);have sx:aq (g6.set 0 (.cells d_ false)) true 4 (.mp 0 0)=some (.agg d_):=(IM k0).2;have bad:∃n aM,b7 (g6.set 0 (.cells d_ false)) n (.aK [.agg d_,false])=some aM/\BI aM:=E2 (uu _);cases f with
 |false=>
  exact gj @f0 @fF @sx bad
 |true=>
  cases ok with
  |false=>
   exact gj @f0 @fF @sx bad
  |true=>
   refine wy ?_;refine b5 (λjP=>?_) λjP=>?_;refine gj @f0 @fF @sx ?_;exact bad;exact⟨rfl,sg,⟨_,Cc,sy,v5,r0,pg,rfl,L6⟩,jw,hO,tI,pH⟩
 refine b5 (λah=>?_) λah=>?_;refine dh (aeY bh b aCs) ?_;rintro r ⟨fB,eS,ok,rfl,q4⟩;have st:=M4 Y fB;have an_:=aO (a:=.cells (c_ nm v fB bv) false) Hw;have rD:=M5 an_ q4.one.1 q4.one.2;have uY:((h.set 1 (.cells (c_ nm v fB bv) false)).set 1 (.cells (c_ nm v fB eS) false))[1]?=some (.cells (c_ nm v fB eS) false):=aO (by simpa using Hw);have n5:((h.set 1 (.cells (c_ nm v fB bv) false)).set 1 (.cells (c_ nm v fB eS) false))[0]?=some (.cells d_ false):=by rw[av aCs,av aCs];exact h0
 have n7:((h.set 1 (.cells (c_ nm v fB bv) false)).set 1 (.cells (c_ nm v fB eS) false))[2]?=some (.cQ es bx):=by rw[av aCs,av aCs];exact hm
 refine wy ?_;generalize(h.set 1 (.cells (c_ nm v fB bv) false)).set 1 (.cells (c_ nm v fB eS) false)=g5 at uY n5 n7⊢;obtain⟨sy,v5,r0,pg,L6,ql⟩:∃sy v5 r0 pg,gm 100001 pg/\c_ nm v fB eS=c_ sy v5 r0 pg:=⟨_,_,_,_,q4,rfl⟩;rw[ql] at uY;obtain⟨nl,bW⟩:=CR n7 hM a;obtain⟨jw,hO,cO,pH⟩:=MV n7 hM a (bP.wrap (nl+1));have sg:(g5.set 2 (.cQ jw hO))[0]?=some (.cells d_ false):=by rw[av aCs];exact n5
 have Cc:(g5.set 2 (.cQ jw hO))[1]?=some (.cells (c_ sy v5 r0 pg) false):=by rw[av aCs];exact uY
 have tI:(g5.set 2 (.cQ jw hO))[2]?=some (.cQ jw hO):=aO (gl n7);refine wy ?_;generalize g5.set 2 (.cQ jw hO)=g6 at sg Cc tI⊢;obtain⟨E4,kS⟩:=CR tI pH a;have fF:=xz sg rfl (x:=d_) rfl rfl;have k0:=aO (a:=.cells d_ false) (gl sg);have sx:aq (g6.set 0 (.cells d_ false)) true 4 (.mp 0 0)=some (.agg d_):=(IM k0).2;have bad:∃n aM,b7 (g6.set 0 (.cells d_ false)) n (.aK [.agg d_,false])=some aM/\BI aM:=E2 (uu _);cases f with
 |false=>
  exact gj @f0 @fF @sx bad
 |true=>
  cases ok with
  |false=>
   exact gj @f0 @fF @sx bad
  |true=>
   refine wy ?_;refine b5 (λjP=>?_) λjP=>?_;refine gj @f0 @fF @sx ?_;exact bad;exact⟨rfl,sg,⟨_,Cc,sy,v5,r0,pg,rfl,L6⟩,jw,hO,tI,pH⟩
 obtain⟨g5,Cp⟩:∃g5,g5=h:=⟨h,rfl⟩;obtain⟨sy,v5,r0,pg,L6,ql⟩:∃sy v5 r0 pg,gm 100001 pg/\c_ nm v al bv=c_ sy v5 r0 pg:=⟨_,_,_,_,tD,rfl⟩;have uY:=Y;have n5:=h0;have n7:=hm;rw[ql] at uY;refine wy ?_;rw[<-Cp] at uY n5 n7⊢;obtain⟨nl,bW⟩:=CR n7 hM a;obtain⟨jw,hO,cO,pH⟩:=MV n7 hM a (bP.wrap (nl+1));have sg:(g5.set 2 (.cQ jw hO))[0]?=some (.cells d_ false):=by rw[av aCs];exact n5
 have Cc:(g5.set 2 (.cQ jw hO))[1]?=some (.cells (c_ sy v5 r0 pg) false):=by rw[av aCs];exact uY
 have tI:(g5.set 2 (.cQ jw hO))[2]?=some (.cQ jw hO):=aO (gl n7);refine kH @bW @cO ?_;generalize g5.set 2 (.cQ jw hO)=g6 at sg Cc tI⊢;have fF:=xz sg rfl (x:=d_) rfl rfl;have k0:=aO (a:=.cells d_ false) (gl sg);have sx:aq (g6.set 0 (.cells d_ false)) true 4 (.mp 0 0)=some (.agg d_):=(IM k0).2;have bad:∃n aM,b7 (g6.set 0 (.cells d_ false)) n (.aK [.agg d_,false])=some aM/\BI aM:=E2 (uu _);cases f with
 |false=>
  exact kg @rK @f0 @fF @sx bad
 |true=>
  exact nL @vL @rK @f0 @fF @sx bad
 rintro e h ⟨rfl,h0,⟨x,Y,nm,v,al,bv,rfl,tD⟩,es,bx,hm,hM⟩;have kX:=xz h0 rfl (x:=c_ nm v al bv) rfl (Tp tD.one.1);exact lE (E2 tD)
end
section
variable{v:U}{xs:List (List U)}{k n:Nat}{x z:List U}{g h h':List aa}{a b:List UInt8}
def o7(v:U)(xs:List (List U)):Prop:=(v=.af/\xs=[])\/∃t,v=.sl (xs.map b8) t
@[go_sem]def o7.len(h:o7 v xs)(J:List aa):bL v J=some (.v (.int .i64 (xs.length:Int)),J):=by
 rcases h with⟨rfl,rfl⟩|⟨t,rfl⟩
 rfl;simp[m_,goInt]
@[go_sem]def o7.bC(h:o7 v xs){i:Nat}(I:xs[i]?=some x)(hn:x.length=n):bw n v i=some (.fp x 0):=by
 rcases h with⟨rfl,rfl⟩|⟨t,rfl⟩
 simp at I;exact jY (x:=.agg x) aCG hn
@[go_sem]def o7.eE(hn:x.length=n)(J:List aa):aq J true n (.fp x 0)=some (.agg x):=by
 show dI true n x 0=_;unfold dI;rw[if_pos rfl,if_pos aCs,ni,lH aCs]
structure qR(h:List aa)(q:U)(x:List U):Prop where
 nl:uQ q=some q
 ne:∀neg,mO .ptr neg q (.v (.pointer none))=some (.v (.bool neg))
 fa:∀o,∃Je,ji o q=some Je/\(∀o2,ji o2 Je=ji (o+o2) q)/\∀g,Ext h g->∀y,x[o]?=some y->aq g false 1 Je=some y
 eE:∀g,Ext h g->aq g true x.length q=some (.agg x)
def qR.ext{q:U}(s:qR h q x)(he:Ext h h'):qR h' q x:=
 ⟨s.nl,s.ne,λo=>by obtain⟨Je,Y,h3,V⟩:=s.fa o;exact⟨Je,Y,h3,λg hg=>V g λj b q=>hg j b (he j b q)⟩,λg hg=>s.eE g λj b q=>hg j b (he j b q)⟩
@[go_sem]def T6(x:List U):dI true x.length x 0=some (.agg x):=by
 unfold dI;rw[if_pos rfl,if_pos aCs,ni,p8]
def qR.fp(h:List aa)(x:List U):qR h (.fp x 0) x:=
 ⟨rfl,λneg=>T7 x 0 neg,λo=>⟨.fp x (0+o),rfl,λo2=>by simp only[ji,e6,kK],λg _ y hy=>by rw[e6];exact hy⟩,λg _=>T6 x⟩
def qR.mp{h:List aa}{k:Nat}{x:List U}(S:h[k]?=some (.cells x false)):qR h (.mp k 0) x:=
 ⟨rfl,λneg=>T8 k 0 neg,λo=>⟨.mp k (0+o),rfl,λo2=>by simp only[ji,e6,kK],λg hg y hy=>by
  have:=hg _ _ S;simp only[aq,this];rw[e6];exact hy⟩,λg hg=>by
  have:=hg _ _ S;simp only[aq,this];exact T6 x⟩
structure mb(n:Nat)(h:List aa)(v:U)(xs:List (List U)):Prop where
 len:∀g,bL v g=some (.v (.int .i64 (xs.length:Int)),g)
 bC:∀(i:Nat) x,xs[i]?=some x->∃q,bw n v i=some q/\qR h q x
 el:∀x∈xs,x.length=n
def mb.ext(s:mb n h v xs)(he:Ext h h'):mb n h' v xs:=
 ⟨s.len,λi x I=>by obtain⟨q,Y,V⟩:=s.bC i x I;exact⟨q,Y,V.ext he⟩,s.el⟩
def mb.slc(h:List aa)(hv:o7 v xs)(hn:∀x∈xs,x.length=n):mb n h v xs:=
 ⟨hv.len,λi x I=>⟨_,hv.bC I (hn x (bA I)),qR.fp h x⟩,hn⟩
def mb.row(D:gR n h k v xs):mb n h v xs:=
 ⟨D.len,λi x I=>⟨_,D.bC (gl I),by
  have q9:=(D.each x (bA I)).1;have kp:∀g,Ext h g->gR n g k v xs:=λg hg=>D.keep λZ q=>hg _ _ q;refine⟨De _ _ _,λneg=>?_,λo=>⟨_,yY o _ _ _,λo2=>by simp only[ji,kK],λg hg y hy=>?_⟩,λg hg=>?_⟩;cases neg<;>rfl;exact(kp g hg).fP I (by have:=(gl hy);omega) hy;have:=(kp g hg).S0 (o:=0) (w:=n) I aCs;rw[nP,ni,lH aCs] at this;rw[q9];exact this⟩,λx I=>(D.each x I).1⟩
def O9(n:Nat)(r:U):Prop:=∃m:Int,r=m/\(m= -1\/∃j:Nat,m=(j:Int)/\j<n)
section
variable{G:Cells}{v y:U}{xs:List (List U)}{h:List aa}
def aqR(hv:mb 9 h v xs)(hl:xs.length<=100000)(j4:∀x∈xs,∀g,Ext h g->gW G ay y [.agg x] g λr g'=>hJ r/\∃l,g'=g++l):
  bq G ay 164 [v,y] h λr h'=>O9 xs.length r/\∃l,h'=h++l:=by
 refine adf.go ?_;refine fG @hv.len ?_;refine b9 (λi e g=>e=[(0,v),(1,y),(7,ag xs.length),(8,ag i)]/\∃l,g=h++l) xs.length ⟨rfl,[],aCt⟩ ?_ ?_;rintro i e g Q ⟨rfl,l,rfl⟩;obtain⟨x,I⟩:=cF Q;have q9:=hv.el x (bA I);obtain⟨q,Y,V⟩:=hv.bC i x I;have h3:=V.eE (h++l) jU;rw[q9] at h3;refine wy (rL (j4 x (bA I) _ jU) ?_);rintro r g2 ⟨⟨b,rfl⟩,l2,rfl⟩;cases b with
 |true=>
  refine wy ?_;exact⟨⟨_,rfl,az ⟨i,rfl,Q⟩⟩,l++l2,aDE⟩
 |false=>
  refine wx ?_;exact⟨rfl,l++l2,aDE⟩
 rintro e g ⟨rfl,l,rfl⟩;refine wy ?_;exact⟨⟨_,rfl,ax rfl⟩,l,rfl⟩
def abR(hv:mb 4 h v xs)(hl:xs.length<=100000)(j4:∀x∈xs,∀g,Ext h g->gW G ay y [.agg x] g λr g'=>hJ r/\∃l,g'=g++l):
  bq G ay 103 [v,y] h λr h'=>O9 xs.length r/\∃l,h'=h++l:=by
 refine acH.go ?_;refine fG @hv.len ?_;refine b9 (λi e g=>e=[(0,v),(1,y),(7,ag xs.length),(8,ag i)]/\∃l,g=h++l) xs.length ⟨rfl,[],aCt⟩ ?_ ?_;rintro i e g Q ⟨rfl,l,rfl⟩;obtain⟨x,I⟩:=cF Q;have q9:=hv.el x (bA I);obtain⟨q,Y,V⟩:=hv.bC i x I;have h3:=V.eE (h++l) jU;rw[q9] at h3;refine wy (rL (j4 x (bA I) _ jU) ?_);rintro r g2 ⟨⟨b,rfl⟩,l2,rfl⟩;cases b with
 |true=>
  refine wy ?_;exact⟨⟨_,rfl,az ⟨i,rfl,Q⟩⟩,l++l2,aDE⟩
 |false=>
  refine wx ?_;exact⟨rfl,l++l2,aDE⟩
 rintro e g ⟨rfl,l,rfl⟩;refine wy ?_;exact⟨⟨_,rfl,ax rfl⟩,l,rfl⟩
def aq1(S:g[k]?=some (.cells z false))(I:x[0]?=some (ai a))(hz:z[0]?=some (ai b)):
  gW G ay (.fn (.func 97) [] [.mp k 0]) [.agg x] g λr g'=>hJ r/\∃l,g'=g++l:=by
 show bq G ay 97 [.agg x,.mp k 0] g _;refine acB.go ?_;refine wy ?_;exact⟨⟨_,rfl⟩,_,rfl⟩
def aq2(S:g[k]?=some (.cells z false))(I:x[0]?=some (ai a))(hz:z[0]?=some (ai b)):
  gW G ay (.fn (.func 100) [] [.mp k 0]) [.agg x] g λr g'=>hJ r/\∃l,g'=g++l:=by
 show bq G ay 100 [.agg x,.mp k 0] g _;refine acE.go ?_;refine wy ?_;exact⟨⟨_,rfl⟩,_,rfl⟩
def akC(hv:mb 9 h v xs)(hl:xs.length<=100000)(j4:∀x∈xs,∀g,Ext h g->gW G ay y [.agg x] g λr g'=>hJ r/\∃l,g'=g++l):
  bq G ay 96 [v,y] h λr h'=>hJ r/\∃l,h'=h++l:=by
 refine acA.go ?_;refine wy (a_ (aqR hv hl j4) ?_);rintro r g ⟨⟨m,rfl,_⟩,l,rfl⟩;refine wy ?_;exact⟨⟨_,rfl⟩,l,rfl⟩
def akD(hv:mb 4 h v xs)(hl:xs.length<=100000)(j4:∀x∈xs,∀g,Ext h g->gW G ay y [.agg x] g λr g'=>hJ r/\∃l,g'=g++l):
  bq G ay 99 [v,y] h λr h'=>hJ r/\∃l,h'=h++l:=by
 refine acD.go ?_;refine wy (a_ (abR hv hl j4) ?_);rintro r g ⟨⟨m,rfl,_⟩,l,rfl⟩;refine wy ?_;exact⟨⟨_,rfl⟩,l,rfl⟩
end
end
section
variable{h g:List aa}{k o n aZ B:Nat}{e:TypeId}{Z xs:List U}{v x:U}
def vZ(k n:Nat)(e:TypeId)(h g:List aa):Prop:=h.length<=g.length/\∀(j:Nat) b,h[j]?=some b->j≠k->(∀c,b≠.tok c n e)->g[j]?=some b
def vZ.cells{j:Nat}{c:List U}{f:Bool}(q:vZ k n e h g)(O:h[j]?=some (.cells c f))(hj:j≠k):g[j]?=some (.cells c f):=q.2 _ _ O hj aCt
def vZ.zJ{Z:List U}{m:Nat}{e':TypeId}{w:U}{ys:List U}(q:vZ k n e h g)(S:h[k]?=some (.cells Z false))(hw:bU h w ys m e')(hne:m≠n\/e'≠e):bU g w ys m e':=by
 rcases hw with z|⟨id,aT,z2⟩
 exact ax z;exact az ⟨id,aT,q.2 _ _ z2 (by rintro rfl;rw[S] at z2;cases z2) aEt⟩
def vZ.own{Z:List U}{m B:Nat}{e':TypeId}{w:U}{ys:List U}(q:vZ k n e h g)(S:h[k]?=some (.cells Z false))(hw:ku B h w ys m e')(hne:m≠n\/e'≠e):ku B g w ys m e':=by
 rcases hw with z|⟨id,aT,z2,z3⟩
 exact ax z;exact az ⟨id,aT,z2,q.2 _ _ z3 (by rintro rfl;rw[S] at z3;cases z3) aEt⟩
def vZ.jt(q:vZ k n e h g):f_ k h g:=⟨q.1,λj c f hj O=>q.cells O hj⟩
@[go_sem]def Q4(O:g[k]?=some (.cells Z false))(Y:bl v=true)(ho:o<Z.length):aE g 1 (.mp k o) v=some (g.set k (.cells (Z.set o v) false)):=PM O Y ho
def Hi(hA:bU h v xs n e)(O:h[k]?=some (.cells Z false))(ho:o<Z.length)(fD:bS n xs=true)(TD:bS n [x]=true)(hn:0<n)(hy:0<aZ)(hf:(xs.length+1)*aZ<=140737488355328):
  ∃v' g,cM h n aZ e v (.sl [x] .exact)=some (v',g)/\aE g 1 (.mp k o) v'=some (g.set k (.cells (Z.set o v') false))/\bl v'=true/\bU (g.set k (.cells (Z.set o v') false)) v' (xs++[x]) n e/\(g.set k (.cells (Z.set o v') false))[k]?=some (.cells (Z.set o v') false)/\vZ k n e h (g.set k (.cells (Z.set o v') false)):=by
 obtain⟨v',g,e1,hB,_,hl,S⟩:=kQ hA fD TD hn hy hf;have gy:∀{j:Nat} {b:aa},h[j]?=some b->(∀c,b≠.tok c n e)->g[j]?=some b:=λq hn=>S _ _ q λys z=>by
  rcases hA with⟨aT,_⟩|⟨id,aT,z2⟩
  rw[aT] at z;cases z;rw[aT] at z;cases z;rw[q] at z2;cases z2;exact hn _ rfl
 have kb:=gy O aCt
 have o1:bl v'=true:=by rcases hB with⟨rfl,_⟩|⟨_,rfl,_⟩<;>rfl
 exact⟨v',g,e1,Q4 kb o1 ho,o1,ie hB kb,aO (gl kb),aCO,λj b q hj hn=>by rw[av (dj hj)];exact gy q hn⟩
def Z4(hA:ku B h v xs n e)(hB:B<=h.length)(O:h[k]?=some (.cells Z false))(ho:o<Z.length)(fD:bS n xs=true)(TD:bS n [x]=true)(hn:0<n)(hy:0<aZ)(hf:(xs.length+1)*aZ<=140737488355328):
  ∃v' g,cM h n aZ e v (.sl [x] .exact)=some (v',g)/\aE g 1 (.mp k o) v'=some (g.set k (.cells (Z.set o v') false))/\bl v'=true/\ku B (g.set k (.cells (Z.set o v') false)) v' (xs++[x]) n e/\(g.set k (.cells (Z.set o v') false))[k]?=some (.cells (Z.set o v') false)/\vZ k n e h (g.set k (.cells (Z.set o v') false)):=by
 obtain⟨v',g,e1,hC,hl,S⟩:=C3 hA hB fD TD hn hy hf;have gy:∀{j:Nat} {b:aa},h[j]?=some b->(∀c,b≠.tok c n e)->g[j]?=some b:=λq hn=>S _ _ q λys z=>by
  rcases hA with aT|⟨id,aT,_,z2⟩
  rw[aT] at z;cases z;rw[aT] at z;cases z;rw[q] at z2;cases z2;exact hn _ rfl
 have kb:=gy O aCt
 have o1:bl v'=true:=by rcases hC with rfl|⟨_,rfl,_⟩<;>rfl
 refine⟨v',g,e1,Q4 kb o1 ho,o1,?_,aO (gl kb),aCO,λj b q hj hn=>by rw[av (dj hj)];exact gy q hn⟩
 rcases hC with z|⟨id,aT,z2,z3⟩
 exact ax z;exact az ⟨id,aT,z2,by rw[av (by rintro rfl;rw[kb] at z3;cases z3)];exact z3⟩
end
section
variable{x:List U}{n:Nat}{xs:List (List U)}{h:List aa}{v:U}{e:TypeId}
def rS.ok(h:rS x):x.length=9/\x.all bl=true/\∃nm,x[0]?=some (ai nm):=by
 obtain⟨nm,bp,i,p,aY,a,al,mv,ex,rfl,hg,hm,_⟩:=h;exact⟨rfl,CX hg.one.1 hm.one.1,nm,rfl⟩
def lM.ok(h:lM x):x.length=4/\x.all bl=true/\∃nm,x[0]?=some (ai nm):=by
 obtain⟨nm,v,al,bv,rfl,O⟩:=h;exact⟨rfl,Tp O.one.1,nm,rfl⟩
@[go_sem]def sB(h:∀x∈xs,x.length=n/\x.all bl=true):bS n (xs.map b8)=true:=by
 rw[bS,c7];intro y hy;obtain⟨x,I,rfl⟩:=cI.1 hy;obtain⟨Y,V⟩:=h x I;simp only[gN,Y,V,beq_self_eq_true,Bool.and_self]
def wB(hA:bU h v (xs.map b8) n e):o7 v xs:=by
 rcases hA with⟨q,z⟩|⟨id,q,_⟩
 exact ax ⟨q,aCT⟩;exact az ⟨_,q⟩
structure qM(e1 e2:TypeId)(uG:List U->Prop)(k:Nat)(au mv:U)(nodes marks:List (List U))(h:List aa):Prop where
 b:h[k]?=some (.cells [au,mv] false)
 n:bU h au (nodes.map b8) 9 e1
 m:bU h mv (marks.map b8) 4 e2
 kF:∀x∈nodes,uG x
 fj:∀x∈marks,lM x
 nl:nodes.length<=24
 ml:marks.length<=8
abbrev ajN:=qM 88 140 rS
def Kh(k:Nat)(h:List aa):Prop:=∃au mv nodes marks,ajN k au mv nodes marks h
section
variable{e1 e2:TypeId}{uG:List U->Prop}{k:Nat}{au mv:U}{nodes marks:List (List U)}{h:List aa}
def qM.app{x:List aa}(s:qM e1 e2 uG k au mv nodes marks h):qM e1 e2 uG k au mv nodes marks (h++x):=⟨aJ s.b,s.n.ext,s.m.ext,s.kF,s.fj,s.nl,s.ml⟩
@[go_sem]def qM.eE(s:qM e1 e2 uG k au mv nodes marks h):aq h false 1 (.mp k 0)=some au/\aq h false 1 (.mp k 1)=some mv/\aq h true 2 (.mp k 0)=some (.agg [au,mv]):=by
 simp only[aq,s.b];exact⟨rfl,rfl,rfl⟩
def wA{xs:List U}(hA:bU h v xs n e):bl v=true/\v.cells=[v]:=by
 rcases hA with⟨rfl,_⟩|⟨_,rfl,_⟩<;>exact⟨rfl,rfl⟩
def qM.agn(s:qM e1 e2 uG k au mv nodes marks h)(hN:∀{x},uG x->x.length=9/\x.all bl=true/\∃nm,x[0]?=some (ai nm))(I:uG x)(hl:nodes.length<24):
  ∃iL g,cM h 9 104 e1 au (.sl [.agg x] .exact)=some (iL,g)/\aE g 1 (.mp k 0) iL=some (g.set k (.cells [iL,mv] false))/\qM e1 e2 uG k iL mv (nodes++[x]) marks (g.set k (.cells [iL,mv] false))/\f_ k h (g.set k (.cells [iL,mv] false)):=by
 obtain⟨iL,g,e1,e2,_,hA,O,q⟩:=Hi (x:=.agg x) (aZ:=104) (o:=0) s.n s.b aCt (sB (n:=9) (xs:=nodes) λy hy=>⟨(hN (s.kF y hy)).1,(hN (s.kF y hy)).2.1⟩) (sB (xs:=[x]) λy hy=>by rw[cw.1 hy];exact⟨(hN I).1,(hN I).2.1⟩) aCu aCu aCv;exact⟨iL,g,e1,e2,⟨O,by rw[eD];exact hA,q.zJ s.b s.m (ax aCu),λy hy=>(dN.1 hy).elim (s.kF y) λq=>aFn,s.fj,aCv,s.ml⟩,q.jt⟩
def qM.agm(s:qM e1 e2 uG k au mv nodes marks h)(I:lM x)(hl:marks.length<8):
  ∃lq g,cM h 4 56 e2 mv (.sl [.agg x] .exact)=some (lq,g)/\aE g 1 (.mp k 1) lq=some (g.set k (.cells [au,lq] false))/\qM e1 e2 uG k au lq nodes (marks++[x]) (g.set k (.cells [au,lq] false))/\f_ k h (g.set k (.cells [au,lq] false)):=by
 obtain⟨lq,g,e1,e2,_,hA,O,q⟩:=Hi (x:=.agg x) (aZ:=56) (o:=1) s.m s.b aCt (sB (n:=4) (xs:=marks) λy hy=>⟨(s.fj y hy).ok.1,(s.fj y hy).ok.2.1⟩) (sB (xs:=[x]) λy hy=>by rw[cw.1 hy];exact⟨I.ok.1,I.ok.2.1⟩) aCu aCu aCv;exact⟨lq,g,e1,e2,⟨O,q.zJ s.b s.n (ax aCu),by rw[eD];exact hA,s.kF,λy hy=>(dN.1 hy).elim (s.fj y) λq=>aFn,s.nl,aCv⟩,q.jt⟩
@[go_sem]def IW(h:List aa)(I:x.length=9)(Y:x.all bl=true):aE (h++[aj eT false]) 9 (.mp h.length 0) (.agg x)=some (h++[aj x false]):=by
 rw[tS (k:=h.length) (Z:=eT) aCt rfl I Y];simp
@[go_sem]def To(h:List aa)(I:x.length=4)(Y:x.all bl=true):aE (h++[aj d_ false]) 4 (.mp h.length 0) (.agg x)=some (h++[aj x false]):=by
 rw[xz (k:=h.length) (Z:=d_) aCt rfl I Y];simp
end
section
variable{G:Cells}
def aki(bh:dL G)(hI:x9 G){k:Nat}(iZ:Kh k h){ls:List (List UInt8)}(hW:Kx ls):
  bq G ay 57 [.mp k 0,.sl (ls.map ai) .no] h λr h'=>(∃e:Int,r=e)/\Kh k h'/\f_ k h h':=by
 obtain⟨au,mv,nodes,marks,hS⟩:=iZ;refine acd.go ?_;have hlen:=hW.len;have keep:(∃e:Int,bO (.int .i64 2)=.v (.int .i64 e))/\Kh k h/\f_ k h h:=⟨⟨2,rfl⟩,⟨au,mv,nodes,marks,hS⟩,f_.refl _ _⟩;have Iq:[bO (.string ⟨[].toArray⟩),.af,.v (.bool false),.v (.bool false),.v (.bool false),.v (.int .i64 0),.v (.bool false),.af,.v (.string ⟨[].toArray⟩)]=eT:=rfl;have abJ:[bO (.string ⟨[].toArray⟩),.v (.int .i64 0),.v (.bool false),.af]=d_:=rfl;refine wy ?_;refine b5 (λq=>?_) λq=>?_;exact keep;have V:2<=ls.length:=aCB
 obtain⟨w1,hw1⟩:∃n,ls[1]?=some n:=⟨ls[1],br aCs⟩;obtain⟨w0,hw0⟩:∃n,ls[0]?=some n:=⟨ls[0],br aCs⟩;have e1:bw 1 (.sl (ls.map ai) .no) (1:Int)=some (.fp [ai w1] 0):=jY (i:=1) (x:=ai w1) (by simp[hw1]) rfl;have e0:bw 1 (.sl (ls.map ai) .no) (0:Int)=some (.fp [ai w0] 0):=jY (i:=0) (x:=ai w0) (by simp[hw0]) rfl;refine wy ?_;refine dh (Sx bh w1 (by have:=hW.each w1 (bA hw1);omega)) ?_;rintro r ⟨b,rfl⟩;cases b with
 |false=>
  exact dP keep
 |true=>
  refine wy ?_;refine b5 (λaws=>?_) λaws=>?_;refine gO (avr bh hI hW V) (bn (nZ (ax rfl)) cx) ?_;rintro r ⟨x,ok,rfl,I⟩;obtain⟨hx1,hx2,nm,hnm⟩:=I.ok;have nn:=IW h hx1 hx2;have dz:=hS.app (x:=[aj x false]);have kx:(h++[aj x false])[h.length]?=some (.cells x false):=aCt
  have n6:f_ k h (h++[aj x false]):=f_.app;refine wy ?_;generalize h.length=m at kx⊢;generalize h++[aj x false]=g at dz kx n6⊢;cases ok with
  |false=>
   refine dP ?_;exact⟨⟨_,rfl⟩,⟨_,_,_,_,dz⟩,n6⟩
  |true=>
   refine wy ?_;refine b5 (λawu=>?_) λawu=>?_;exact⟨⟨_,rfl⟩,⟨_,_,_,_,dz⟩,n6⟩;refine a_ (akC (mb.slc _ (wB dz.n) λy hy=>(hS.kF y hy).ok.1) (by have:=hS.nl;omega) λy hy g2 gd=>aq1 (gd _ _ kx) (hS.kF y hy).ok.2.2.choose_spec hnm) ?_;rintro r g2 ⟨⟨b,rfl⟩,l2,rfl⟩;have eB:=dz.app (x:=l2);have CI:(g++l2)[m]?=some (.cells x false):=aJ kx;have pG:f_ k h (g++l2):=n6.trans f_.app;generalize g++l2=g3 at eB CI pG⊢;cases b with
   |true=>
    refine dP ?_;exact⟨⟨_,rfl⟩,⟨_,_,_,_,eB⟩,pG⟩
   |false=>
    refine ki @eB.eE.1 ((wB eB.n).len) (bI (λjP=>?_) λjP=>?_);refine dr @jP ?_;exact⟨⟨_,rfl⟩,⟨_,_,_,_,eB⟩,pG⟩;have apB:nodes.length<24:=by have:=eB.nl;simp at jP;omega
    obtain⟨iL,g4,p1,p2,p3,gr⟩:=eB.agn rS.ok I apB;have lx:aq g3 true 9 (.mp m 0)=some (.agg x):=by
     simp only[aq,CI];unfold dI;rw[if_pos rfl,if_pos aCs,ni,lH aCs]
    have ab:dy 9 [.agg x]=some (.sl [.agg x] .exact):=by
     have:=sB (n:=9) (xs:=[x]) λy hy=>aDl
     simp only[ep,kn] at this;simp[dy,this]
    refine wx ?_;exact⟨⟨_,rfl⟩,⟨_,_,_,_,p3⟩,pG.trans gr⟩
  refine b5 (λxE=>?_) λxE=>?_;refine gO (auG bh hI hW V) (bn (nZ (ax rfl)) cx) ?_;rintro r ⟨x,ok,rfl,I⟩;obtain⟨hx1,hx2,nm,hnm⟩:=I.ok;have nn:=To h hx1 hx2;have dz:=hS.app (x:=[aj x false]);have kx:(h++[aj x false])[h.length]?=some (.cells x false):=aCt
  have n6:f_ k h (h++[aj x false]):=f_.app;refine wy ?_;generalize h.length=m at kx⊢;generalize h++[aj x false]=g at dz kx n6⊢;cases ok with
  |false=>
   refine dP ?_;exact⟨⟨_,rfl⟩,⟨_,_,_,_,dz⟩,n6⟩
  |true=>
   refine wx (a_ (akD (mb.slc _ (wB dz.m) λy hy=>(hS.fj y hy).ok.1) (by have:=hS.ml;omega) λy hy g2 gd=>aq2 (gd _ _ kx) (hS.fj y hy).ok.2.2.choose_spec hnm) ?_);rintro r g2 ⟨⟨b,rfl⟩,l2,rfl⟩;have eB:=dz.app (x:=l2);have CI:(g++l2)[m]?=some (.cells x false):=aJ kx;have pG:f_ k h (g++l2):=n6.trans f_.app;generalize g++l2=g3 at eB CI pG⊢;cases b with
   |true=>
    refine dP ?_;exact⟨⟨_,rfl⟩,⟨_,_,_,_,eB⟩,pG⟩
   |false=>
    refine ki @eB.eE.2.1 ((wB eB.m).len) (bI (λjP=>?_) λjP=>?_);refine dr @jP ?_;exact⟨⟨_,rfl⟩,⟨_,_,_,_,eB⟩,pG⟩;have apD:marks.length<8:=by have:=eB.ml;simp at jP;omega
    obtain⟨lq,g4,p1,p2,p3,gr⟩:=eB.agm I apD;have lx:aq g3 true 4 (.mp m 0)=some (.agg x):=by
     simp only[aq,CI];unfold dI;rw[if_pos rfl,if_pos aCs,ni,lH aCs]
    have ab:dy 4 [.agg x]=some (.sl [.agg x] .exact):=by
     have:=sB (n:=4) (xs:=[x]) λy hy=>aDl
     simp only[ep,kn] at this;simp[dy,this]
    refine wx ?_;exact⟨⟨_,rfl⟩,⟨_,_,_,_,p3⟩,pG.trans gr⟩
  exact keep
end
end
section
variable{x:List U}{h J:List aa}{k:Nat}{a b:U}
def aeU:∀(l:List (List UInt8)) (n:Nat),vN (l.drop n)+(l.drop n).length<=vN l+l.length
 |l,0=>aCt
 |[],n+1=>aCt
 |x::r,n+1=>by
  have:=aeU r n;simp only[xW,vN,di,ep,vU] at this⊢;omega
def ahN(c:Nat):∀s:List UInt8,vN (gD c s)+(gD c s).length=s.length+1
 |[]=>by simp[gD,vN]
 |b::r=>by
  have ih:=ahN c r;unfold gD;split;simp only[vN,di,ep,vU,fI] at ih⊢;omega;split;rename_i he;rw[he] at ih;simp[vN] at ih;rename_i h t he;rw[he] at ih;simp only[vN,di,ep,vU] at ih⊢;omega
def azO{s:List UInt8}(hs:s.length<=70000)(c:Nat):Kx (gD c s):=by
 obtain⟨Y,V⟩:=Jt c s;have h3:=ahN c s;exact⟨λw hw=>by have:=V w hw;omega,λn=>by have:=aeU (gD c s) n;omega,aCs⟩
def ajQ(au mv:U):Prop:=∃nodes marks:List (List U),bH au (nodes.map b8)/\bH mv (marks.map b8)/\(∀x∈nodes,rS x)/\(∀x∈marks,lM x)/\nodes.length<=24/\marks.length<=8
def Wy(r:U):Prop:=∃(au mv:U) (a e:Int),r=.aK [.agg [au,mv],ag a,ag e]/\ajQ au mv
def rS.fz(h:rS x)(J:List aa):aW J (.agg x) (.agg x):=by
 obtain⟨nm,bp,i,p,aY,a,al,mv,ex,rfl,hg,hm,_⟩:=h;exact iC (aA (aB _) (aA (hg.fz J) (aA (aB _) (aA (aB _) (aA (aB _) (aA (aB _) (aA (aB _) (aA (hm.fz J) (aA (aB _) bT)))))))))
def lM.fz(h:lM x)(J:List aa):aW J (.agg x) (.agg x):=by
 obtain⟨nm,v,al,bv,rfl,O⟩:=h;exact iC (aA (aB _) (aA (aB _) (aA (aB _) (aA (O.fz J) bT))))
def agV{v:U}{xs:List (List U)}{n:Nat}{e:TypeId}(hA:bU J v (xs.map b8) n e)(I:∀x∈xs,aW J (.agg x) (.agg x)):∃v',aW J v v'/\bH v' (xs.map b8):=by
 rcases hA with⟨rfl,z⟩|⟨id,rfl,_⟩
 exact⟨_,cX,az ⟨rfl,z⟩⟩;exact⟨_,e5 (fY I),ax rfl⟩
def Qo(a e:Int):∃n aM,b7 J n (.aK [.agg [.af,.af],a,e])=some aM/\Wy aM:=by
 obtain⟨n,hn⟩:=(dQ (aA (iC (aA cX (aA cX bT))) (aA (aB (.int .i64 a)) (aA (aB (.int .i64 e)) bT))):aW J _ _).done;exact⟨n,_,hn,.af,.af,a,e,rfl,[],[],az ⟨rfl,rfl⟩,az ⟨rfl,rfl⟩,aCt,aCt,aCu,aCu⟩
@[go_sem]def Vj{Z:List U}(O:h[k]?=some (.cells Z false))(T:Z.length=2)(ha:bl a=true)(gI:bl b=true):aE h 2 (.mp k 0) (.agg [a,b])=some (h.set k (.cells [a,b] false)):=by
 have e:(b8 [a,b]).cells=[a,b]:=rfl;simp only[aE,O,dG];rw[e,if_pos ⟨rfl,aCs,by simp[ha,gI]⟩];unfold putAt;rw[ou,eH,e6,sO aCv,ff]
@[go_sem]def azn(O:h[k]?=some (.cells [a,b] false)):aq h true 2 (.mp k 0)=some (.agg [a,b]):=by
 simp only[aq,O];rfl
def aub(s:List UInt8):∃v a e,EW s=(v,a,e)/\(e≠0\/(e=0/\∃ls:List (List UInt8),bH v (ls.map ai)/\ls.length<=65537/\∀l∈ls,l.length<=65536)):=by
 obtain⟨Y,V⟩:=Jt 10 s;unfold EW;split;exact⟨_,_,_,rfl,ax aCu⟩;split;exact⟨_,_,_,rfl,az ⟨rfl,[],az ⟨rfl,rfl⟩,aCu,aCt⟩⟩;split;refine⟨_,_,_,rfl,az ⟨rfl,_,ax rfl,by rw[List.length_dropLast];omega,λl hl=>?_⟩⟩;have:=V l ((List.dropLast_sublist _).subset hl);omega;exact⟨_,_,_,rfl,ax aCu⟩
section
variable{G:Cells}
def av2(bh:dL G)(hI:x9 G)(s:List UInt8)(hs:s.length<=1000000):cC G ay 42 [ai s] Wy:=by
 refine cU (aec.go ?_);obtain⟨v,a,e,abi,hq⟩:=aub s;have sp:=at7 bh s aCs;rw[abi] at sp;refine wy ?_;refine dx sp ?_;refine wy ?_
 rcases hq with he|⟨rfl,ls,hv,hl1,gX⟩
 have q:(e !=0)=true:=aDw
 exact wy (Qo _ _);have ln:=hv.bL;rw[bX] at ln;refine wy ?_;refine b9 (λi e h=>e=[(2,.mp 0 0),(8,.mp 1 0),(24,v),(25,ag ls.length),(26,ag i)]/\h[0]?=some (.cells [.af,.af] false)/\Kh 1 h) ls.length ⟨rfl,rfl,.af,.af,[],[],rfl,ax ⟨rfl,rfl⟩,ax ⟨rfl,rfl⟩,aCt,aCt,aCu,aCu⟩ ?_ ?_;rintro i e h Q ⟨rfl,h0,iZ⟩;obtain⟨w,hw⟩:=cF Q;have Ax:=gX w (bA hw);have e1:bw 1 v i=some (.fp [ai w] 0):=hv.bC (x:=ai w) aDB rfl;refine wy ?_;refine dx (ayl bh w aCs) ?_;by_cases hw0:w=[];subst hw0;have e0:uf []=(.af,0):=rfl;rw[e0];have IE:∀J,bL .af J=some (.v (.int .i64 0),J):=λJ=>rfl;have c0:decide ((0:Int)<0)=false:=rfl;refine gj @ag.eq_1 @IE @c0 ?_;exact⟨trivial,h0,iZ⟩;by_cases hok:(gD 32 w).all Bh=true;have e0:uf w=(.sl ((gD 32 w).map ai) .no,0):=by unfold uf;rw[if_neg hw0,if_pos hok]
 rw[e0];refine wy ?_;refine b5 (λq=>?_) λq=>?_;refine a_ (aki bh hI iZ (azO aCs 32)) ?_;rintro r g ⟨⟨e,rfl⟩,wY,hB⟩;have mT:=hB.2 _ _ _ aCu h0;refine wy ?_;refine b5 (λah=>?_) λah=>?_;exact Qo _ _;exact⟨rfl,mT,wY⟩;exact⟨rfl,h0,iZ⟩;have e0:uf w=(.af,2):=by unfold uf;rw[if_neg hw0,if_neg hok]
 rw[e0];exact wy (Qo _ _);rintro e h ⟨rfl,h0,au,mv,nodes,marks,hS⟩;have kX:=Vj h0 rfl (wA hS.n).1 (wA hS.m).1;refine lE ?_;obtain⟨iL,aT,z2⟩:=agV (J:=h.set 0 (.cells [au,mv] false)) (ie hS.n h0) λx I=>(hS.kF x I).fz _;obtain⟨lq,z3,z4⟩:=agV (J:=h.set 0 (.cells [au,mv] false)) (ie hS.m h0) λx I=>(hS.fj x I).fz _;obtain⟨n,hn⟩:=(dQ (aA (iC (aA aT (aA z3 bT))) (aA (aB (.int .i64 0)) (aA (aB (.int .i64 0)) bT)))).done;exact⟨n,_,hn,iL,lq,0,0,rfl,nodes,marks,z2,z4,hS.kF,hS.fj,hS.nl,hS.ml⟩
end
end
section
variable{x:List U}{k:Nat}{g:List aa}{a b:List UInt8}
def mM(x:List U):Prop:=∃(y:List U) (b:Bool) (bB:U),x=y++[.v (.bool b),bB]/\rS y/\(bB=.v (.pointer none)\/x7 bB)
structure qh(h:List aa)(p au mv:U)(rows marks:List (List U)):Prop where
 pp:qR h p [au,mv]
 rr:mb 11 h au rows
 qz:mb 4 h mv marks
 rc:∀x∈rows,mM x
 fj:∀x∈marks,lM x
 rl:rows.length<=24
 ml:marks.length<=8
def qh.ext{h h':List aa}{p au mv:U}{rows marks:List (List U)}(s:qh h p au mv rows marks)(he:Ext h h'):qh h' p au mv rows marks:=⟨s.pp.ext he,s.rr.ext he,s.qz.ext he,s.rc,s.fj,s.rl,s.ml⟩
def mM.at(h:mM x):∃nm bp i p aY a al mv ex b bB,x=[ai nm,bp,.v (.bool i),.v (.bool p),.v (.bool aY),.v (.int .i64 a),.v (.bool al),mv,ai ex,.v (.bool b),bB]/\gm 4 bp/\gm 100001 mv/\ex.length<=40000/\(bB=.v (.pointer none)\/x7 bB):=by
 obtain⟨y,b,bB,rfl,⟨nm,bp,i,p,aY,a,al,mv,ex,rfl,Y,V,h3⟩,h4⟩:=h;exact⟨nm,bp,i,p,aY,a,al,mv,ex,b,bB,rfl,Y,V,h3,h4⟩
section
variable{G:Cells}{h:List aa}{p au mv:U}{rows marks:List (List U)}
def aix(s:qh h p au mv rows marks):bq G ay 154 [p] h λr h'=>r=.v (.int .i64 (rows.length:Int))/\h'=h:=by
 refine SD.go ?_;obtain⟨q0,f0,_,l0⟩:=s.pp.fa 0;have SS:=l0 h (p7 h) au rfl;exact y9 @s.pp.ne @s.pp.nl @s.rr.len tt
def ajJ(h:List aa)(rows:List (List U))(t:Int)(r:U):Prop:=(r=.v (.pointer none)/\(t<1\/(rows.length:Int)<t))\/∃(i:Nat) (x:List U),t=(i:Int)+1/\rows[i]?=some x/\qR h r x
def XP(s:qh h p au mv rows marks)(t:Int):bq G ay 35 [p,.v (.int .i64 t)] h λr h'=>ajJ h rows t r/\h'=h:=by
 refine MF.go ?_;have hrl:=s.rl;obtain⟨q0,f0,_,l0⟩:=s.pp.fa 0;have SS:=l0 h (p7 h) au rfl;refine fG @s.pp.ne ?_;refine b5 (λq=>?_) λq=>?_;exact⟨ax ⟨rfl,ax aCy⟩,trivial⟩;refine ki @s.pp.nl @s.rr.len ?_;refine b5 (λah=>?_) λah=>?_;exact⟨ax ⟨rfl,az aCU⟩,trivial⟩;obtain⟨i,rfl⟩:∃i:Nat,t=(i:Int)+1:=⟨(t-1).toNat,aCB⟩;have Q:i<rows.length:=aD6
 obtain⟨x,I⟩:=cF Q;obtain⟨ND,Y,V⟩:=s.rr.bC i x I;have w1:bP.wrap ((i:Int)+1-1)=(i:Int):=by rw[wrap_i64 aCs aCs];omega
 refine fG @s.pp.nl ?_;exact⟨az ⟨i,x,rfl,I,V⟩,trivial⟩
def aqV(s:qh h p au mv rows marks)(t:Int):bq G ay 19 [p,.v (.int .i64 t)] h λr h'=>hJ r/\h'=h:=by
 refine SA.go ?_;refine wy (a_ (XP s t) ?_);rintro r g ⟨ha,rfl⟩;refine fG @s.pp.ne ?_;refine b5 (λq=>?_) λq=>?_;exact⟨⟨_,rfl⟩,trivial⟩
 rcases ha with⟨rfl,_⟩|⟨i,x,rfl,I,J⟩
 refine wx ?_;exact⟨⟨_,rfl⟩,trivial⟩;obtain⟨nm,bp,i1,p1,aY,a,al,q_,ex,b,bB,rfl,_⟩:=(s.rc x (bA I)).at
 obtain⟨q0,f0,amS,_⟩:=J.fa 0;obtain⟨ah,f2,_,l2⟩:=J.fa 2;have aBY:=l2 g (p7 g) _ rfl;refine y9 @q @J.ne @J.nl ?_;exact⟨⟨_,rfl⟩,trivial⟩
def aq3(S:g[k]?=some (.cells [ai b] false))(I:x[0]?=some (ai a)):
  gW G ay (.fn (.func 102) [] [.mp k 0]) [.agg x] g λr g'=>hJ r/\∃l,g'=g++l:=by
 show bq G ay 102 [.agg x,.mp k 0] g _;refine acG.go ?_;refine wy ?_;exact⟨⟨_,rfl⟩,_,rfl⟩
def aq4(S:g[k]?=some (.cells [ai b] false))(I:x[0]?=some (ai a)):
  gW G ay (.fn (.func 104) [] [.mp k 0]) [.agg x] g λr g'=>hJ r/\∃l,g'=g++l:=by
 show bq G ay 104 [.agg x,.mp k 0] g _;refine acI.go ?_;refine wy ?_;exact⟨⟨_,rfl⟩,_,rfl⟩
def aqP{y v:U}{xs:List (List U)}(hv:mb 11 h v xs)(hl:xs.length<=100000)(j4:∀x∈xs,∀g,Ext h g->gW G ay y [.agg x] g λr g'=>hJ r/\∃l,g'=g++l):
  bq G ay 101 [v,y] h λr h'=>O9 xs.length r/\∃l,h'=h++l:=by
 refine acF.go ?_;refine fG @hv.len ?_;refine b9 (λi e g=>e=[(0,v),(1,y),(7,ag xs.length),(8,ag i)]/\∃l,g=h++l) xs.length ⟨rfl,[],aCt⟩ ?_ ?_;rintro i e g Q ⟨rfl,l,rfl⟩;obtain⟨x,I⟩:=cF Q;have q9:=hv.el x (bA I);obtain⟨q,Y,V⟩:=hv.bC i x I;have h3:=V.eE (h++l) jU;rw[q9] at h3;refine wy (rL (j4 x (bA I) _ jU) ?_);rintro r g2 ⟨⟨b,rfl⟩,l2,rfl⟩;cases b with
 |true=>
  refine wy ?_;exact⟨⟨_,rfl,az ⟨i,rfl,Q⟩⟩,l++l2,aDE⟩
 |false=>
  refine wx ?_;exact⟨rfl,l++l2,aDE⟩
 rintro e g ⟨rfl,l,rfl⟩;refine wy ?_;exact⟨⟨_,rfl,ax rfl⟩,l,rfl⟩
def ajP(n:Nat)(r:U):Prop:=∃(t:Nat) (b:Bool),r=.aK [.v (.int .i64 (t:Int)),.v (.bool b)]/\t<=n
def ZG(s:qh h p au mv rows marks)(w:List UInt8):bq G ay 58 [p,ai w] h λr h'=>ajP rows.length r/\∃l,h'=h++l:=by
 refine ace.go ?_;have hrl:=s.rl;have et:cr .eql (ai w) (.v (.string ⟨[116,101,120,116].toArray⟩))=some (.v (.bool (w==[116,101,120,116]))):=mm w [116,101,120,116];have k1:(h++[aj [ai w] false])[h.length]?=some (.cells [ai w] false):=aCt
 have s1:=s.ext (h':=h++[aj [ai w] false]) jU;obtain⟨q0,f0,_,l0⟩:=s1.pp.fa 0;have SS:=l0 _ (p7 _) au rfl;refine fG @s.pp.ne ?_;generalize hg:h++[aj [ai w] false]=g at k1 s1 l0 SS⊢;refine kH (cy k1) @et ?_;refine b5 (λq=>?_) λq=>?_;exact⟨⟨0,true,rfl,iE _⟩,_,hg.symm⟩;refine fG @s1.pp.nl ?_;refine a_ (aqP s1.rr aCs λx I g2 gd=>?_) ?_;obtain⟨nm,bp,i1,p1,aY,a,al,q_,ex,b,bB,rfl,_⟩:=(s.rc x I).at
 exact aq3 (gd _ _ k1) rfl;rintro r g2 ⟨⟨m,rfl,hm⟩,l,rfl⟩
 rcases hm with rfl|⟨j,rfl,hj⟩
 refine wy ?_;exact⟨⟨0,_,rfl,iE _⟩,[aj [ai w] false]++l,by rw[<-hg,cj]⟩;refine wy ?_;exact⟨⟨j+1,_,rfl,aCs⟩,[aj [ai w] false]++l,by rw[<-hg,cj]⟩
end
end
def wP(e:Int):List PanicEntry:=[{v:=.iface 104 (.agg #[.int .i64 e]),recovered:=false}]
def vh{G:Cells}(b:Bool)(e:Int)(J:List aa):fJ G ay 43 [b,e] J (λr h'=>b=true/\h'=J) λch h'=>b=false/\ch=wP e/\h'=J:=by
 refine aed.wW ?_;have f1:cq [.v (.int .i64 0)] [(0,1,.v (.int .i64 e))]=some [.v (.int .i64 e)]:=rfl;have c1:ox (.cT 104 (.agg [e]))=some (.iface 104 (.agg #[.int .i64 e])):=rfl;cases b with
 |false=>
  refine wx ?_;exact⟨trivial,rfl,trivial⟩
 |true=>
  exact wx tt
section
variable{G:Cells}{h:List aa}{p au mv:U}{rows marks:List (List U)}
def amZ(s:qh h p au mv rows marks)(w:List UInt8):bq G ay 60 [p,ai w] h λr h'=>(∃(t:Int) (b:Bool),r=.aK [t,b])/\∃l,h'=h++l:=by
 refine acg.go ?_;have hml:=s.ml;have k1:(h++[aj [ai w] false])[h.length]?=some (.cells [ai w] false):=aCt
 have s1:=s.ext (h':=h++[aj [ai w] false]) jU;obtain⟨q1,f1,_,l1⟩:=s1.pp.fa 1;have IB:=l1 _ (p7 _) mv rfl;have aB4:∀m:Int,o9 true [.v (.int .i64 m),.v (.int .i64 0)]=some (.v (.int .i64 (if(0:Int)>m then 0 else m))):=λm=>rfl;refine fG @s.pp.ne ?_;generalize hg:h++[aj [ai w] false]=g at k1 s1 l1 IB⊢;refine gj @s1.pp.nl @f1 @IB (a_ (abR s1.qz aCs λx I g2 gd=>?_) ?_);obtain⟨nm,v,al,bv,rfl,_⟩:=s.fj x I;exact aq4 (gd _ _ k1) rfl;rintro r g2 ⟨⟨m,rfl,hm⟩,l,rfl⟩;refine wy ?_;exact⟨⟨_,_,rfl⟩,[aj [ai w] false]++l,by rw[<-hg,cj]⟩
def ati(s:qh h p au mv rows marks){k:Nat}(S:h[k]?=some (.cells [p] false))(w:List UInt8):bq G ay 59 [ai w,.mp k 0] h λr h'=>hJ r/\∃l,h'=h++l:=by
 refine acf.go ?_;refine wy (a_ (amZ s w) ?_);rintro r g ⟨⟨t,b,rfl⟩,l,rfl⟩;refine wy ?_;exact⟨⟨_,rfl⟩,l,rfl⟩
def ob(n:Nat):U:=ag (n:Int)
def an6(s:qh h p au mv rows marks)(w:List UInt8):bq G ay 108 [p,ai w] h λr h'=>(∃ts:List Nat,bH r (ts.map ob)/\(∀t∈ts,t<=24)/\ts.length<=24)/\h'=h:=by
 refine bq.Qh (acM.go ?_);have hrl:=s.rl;refine wy ?_;refine b9 (λi e g=>∃ts ak,e=[(0,p),(1,ai w),(5,ak),(6,((i+1:Nat):Int))]/\Ext h g/\bU g ak (ts.map ob) 1 3/\(∀id,xI ak id->h.length<=id)/\(∀t∈ts,t<=24)/\ts.length<=i) rows.length ⟨[],.af,rfl,p7 h,ax ⟨rfl,rfl⟩,λid ⟨_,q⟩=>aCE,aCt,iE _⟩ ?_ ?_;rintro i e g Q ⟨ts,ak,rfl,hE,hA,hid,ht,Cz⟩;have s1:=s.ext hE;refine wy (a_ (aix s1) ?_);rintro r g1 ⟨rfl,rfl⟩;refine wy (a_ (XP s1 ((i+1:Nat):Int)) ?_);rintro r g2 ⟨hU,rfl⟩;obtain⟨x,I,J⟩:∃x,rows[i]?=some x/\qR g2 r x:=by
  rcases hU with⟨_,z⟩|⟨j,x,z,I,J⟩
  omega;obtain rfl:j=i:=aCs
  exact⟨x,I,J⟩
 obtain⟨nm,bp,i1,p1,aY,a,al,q_,ex,b,bB,rfl,Am,_⟩:=(s.rc x (bA I)).at
 obtain⟨q0,f0,amS,_⟩:=J.fa 0;obtain⟨q1,f1,_,l1⟩:=J.fa 1;have IB:=l1 g2 (p7 _) bp rfl;obtain⟨gs,xb,ja⟩:=Am;have w2:bP.wrap (((i+1:Nat):Int)+1)=((i+1+1:Nat):Int):=jd aCs;refine fG @J.nl (fo (GS xb (nZ xb) aCs w) (bn (nZ xb) (bn (r4 _) cx)) ?_);refine wy (bI (λq=>?_) λq=>?_);have afV:bS 1 (ts.map ob)=true:=by
  rw[bS,c7];intro y hy;obtain⟨t,_,rfl⟩:=cI.1 hy;rfl
 obtain⟨bD,g3,bW,oC,hne,hle,qu⟩:=kQ (x:=ob (i+1)) (aZ:=8) hA afV rfl aCu aCu aCv;have ab:dy 1 [((i+1:Nat):Int)]=some (.sl [ob (i+1)] .exact):=rfl;refine wy ?_;refine⟨ts++[i+1],bD,rfl,λj b O=>qu j b (hE j b O) λxs e=>?_,by rw[eD];exact oC,λid ⟨xs,e⟩=>?_,λt h=>?_,aCv⟩;have:=hid j ⟨xs,e⟩;have:=gl O;omega
 rcases oC with⟨z,_⟩|⟨id',z,z2⟩
 rw[z] at e;cases e;rw[z] at e;cases e
 rcases hA with⟨y,eu⟩|⟨Sp,y,eu⟩
 rw[y] at bW;have Qt:cM g2 1 8 3 .af (.sl [ob (i+1)] .exact)=some (.sl [ob (i+1)] (.tok g2.length),g2++[.tok 1 1 3]):=rfl;rw[Qt] at bW;cases bW;injection z with aT z2
 injection z2 with z3
 have:=hE.len;omega;rw[y] at bW;have h4:¬([ob (i+1)]=([]:List U)):=aCt
 have o1:bS 1 [ob (i+1)]=true:=rfl;have hfit:((ts.map ob).length+1)*8<=140737488355328:=aCv
 have Qt:cM g2 1 8 3 (.sl (ts.map ob) (.tok Sp)) (.sl [ob (i+1)] .exact)=some (.sl (ts.map ob++[ob (i+1)]) (.tok Sp),g2.set Sp (.tok ((ts.map ob).length+1) 1 3)):=by
  simp only[cM,fA,gp,contents,o1,afV,h4,if_false,and_self,vV,if_true,true_and,eu,di,fI,e6];rw[if_pos hfit]
 rw[Qt] at bW;cases bW;cases z;exact hid _ ⟨_,y⟩
 rcases dN.1 h with h|h
 exact ht t h;rw[cw.1 h];omega;refine kH @q @w2 ?_;exact⟨ts,ak,rfl,hE,hA,hid,ht,aCs⟩;rintro e g ⟨ts,ak,rfl,hE,hA,hid,ht,Cz⟩;have s1:=s.ext hE;refine wy (a_ (aix s1) ?_);rintro r g1 ⟨rfl,rfl⟩;refine wy ?_;refine⟨hE.split,?_⟩
 rcases hA with⟨rfl,z⟩|⟨id,rfl,_⟩
 obtain⟨n,hn⟩:=(cX:aW (mask h.length g1) _ _).done;exact⟨n,_,hn,ts,az ⟨rfl,z⟩,ht,aCs⟩;obtain⟨n,hn⟩:=(e5 (t:=.tok id) (fY (f:=ob) (l:=ts) λa _=>aB _):aW (mask h.length g1) _ _).done;exact⟨n,_,hn,ts,ax rfl,ht,aCs⟩
def alI{v:U}{ts:List Nat}(h:bH v (ts.map ob)):dm v:=by
 rcases h with rfl|⟨rfl,_⟩
 refine j0 λx I c T=>?_;obtain⟨n,_,rfl⟩:=cI.1 I;rw[cw.1 (show c∈[ob n] from T)];exact cm _;exact BZ (n:=1) rfl
def afg(s:qh h p au mv rows marks)(w:List UInt8):bq G ay 62 [p,ai w] h λr h'=>∃B l,r=aX B/\h'=h++l:=by
 refine aci.go ?_;have hrl:=s.rl;have k1:(h++[aj (aN 0) false])[h.length]?=some (.cells (aN 0) false):=aCt
 have s1:=s.ext (h':=h++[aj (aN 0) false]) jU;have fin:∀(l:List aa) (B:Nat),(h++[aj (aN 0) false]++l).set h.length (.cells (aN B) false)=h++([aj (aN B) false]++l):=λl B=>by
  rw[cj,ajx _ _ (bg _),kL];rfl
 refine wy (a_ (ZG s1 w) ?_);rintro r g ⟨⟨t,b,rfl,ht⟩,l,rfl⟩;have k2:(h++[aj (aN 0) false]++l)[h.length]?=some (.cells (aN 0) false):=aJ k1;cases b with
 |true=>
  have ab:dy 1 [t]=some (.sl ([t].map λn:Nat=>ag (n:Int)) .exact):=rfl;have sp:b_ G ay 107 [.sl ([t].map λn:Nat=>ag (n:Int)) .no] (aX (ek [t])):=TF (l:=[t]) (ax rfl) (λn hn=>by rw[cw.1 hn];omega) aCt;have st:=GG k2 (ek [t]);have dY:=aO (a:=.cells (aN (ek [t])) false) (gl k2);refine oS (fo sp (bn (j0 λx I c T=>?_) cx) ?_);obtain⟨n,_,rfl⟩:=cI.1 I;rw[cw.1 (show c∈[ag (n:Int)] from T)];exact cm _;refine kH @st (wE dY) ?_;exact⟨_,_,rfl,fin l _⟩
 |false=>
  refine wy (a_ (an6 (s1.ext jU) w) ?_);rintro v g2 ⟨⟨ts,hv,Y,V⟩,rfl⟩;have sp:b_ G ay 107 [v] (aX (ek ts)):=TF hv (λn hn=>by have:=Y n hn;omega) aCs;have st:=GG k2 (ek ts);have dY:=aO (a:=.cells (aN (ek ts)) false) (gl k2);refine wy (fo sp (bn (alI hv) cx) ?_);refine kH @st (wE dY) ?_;exact⟨_,_,rfl,fin l _⟩
def auR(s:qh h p au mv rows marks):zw G h (.fn (.func 62) [p] []):=
 ⟨rfl,λw g hw hg=>by
  show bq G ay 62 [p,ai w] g _;exact afg (s.ext hg) w⟩
end
def ayW{bB:U}(h:bB=.v (.pointer none)\/x7 bB):bl bB=true:=by
 rcases h with rfl|⟨rows,rfl,_⟩<;>rfl
def mM.len{x:List U}(h:mM x):x.length=11/\x.all bl=true:=by
 obtain⟨nm,bp,i,p,aY,a,al,mv,ex,b,bB,rfl,hg,hm,_,ht⟩:=h.at
 refine⟨rfl,?_⟩;simp only[l5,oV,hg.one.1,hm.one.1,ayW ht];rfl
@[go_sem]def agT{n k:Nat}{h:List aa}{Z x:List U}(O:h[k]?=some (.cells Z false))(T:Z.length=n)(I:x.length=n)(Y:x.all bl=true):aE h n (.mp k 0) (.agg x)=some (h.set k (.cells x false)):=by
 have e:(b8 x).cells=x:=rfl;simp only[aE,O,dG];rw[e,if_pos ⟨I,aCs,Y⟩];unfold putAt;rw[ou,eH,e6,I,sO aCs,ff]
@[go_sem]def Jn{n:Nat}(h:List aa){z x:List U}(hz:z.length=n)(I:x.length=n)(Y:x.all bl=true):aE (h++[aj z false]) n (.mp h.length 0) (.agg x)=some (h++[aj x false]):=by
 rw[agT (k:=h.length) (Z:=z) aCt hz I Y];simp
def NQ:List U:=[.v (.string ⟨[].toArray⟩),.af,false,false,false,(0:Int),false,.af,.v (.string ⟨[].toArray⟩),false,.v (.pointer none)]
def Ext.trans{a b c:List aa}(h:Ext a b)(k:Ext b c):Ext a c:=λj x q=>k j x (h j x q)
section
variable{G:Cells}{h:List aa}{p au mv:U}{rows marks:List (List U)}
def au7(s:qh h p au mv rows marks)(cZ:p.cells=[p]):fJ G ay 44 [p] h (λr h'=>(∃l,h'=h++l)/\0<rows.length) λch h'=>∃e,e≠0/\ch=wP e/\∃l,h'=h++l:=by
 refine aee.wW ?_;have hrl:=s.rl;have hml:=s.ml;have mq:Ext h (h++[aj [p] false]):=jU;have k1:(h++[aj [p] false])[h.length]?=some (.cells [p] false):=aCt
 obtain⟨q0,f0,_,l0⟩:=s.pp.fa 0;obtain⟨q1,f1,_,l1⟩:=s.pp.fa 1;have kk:∀g,Ext (h++[aj [p] false]) g->aq g false 1 (.mp h.length 0)=some p/\aq g false 1 q0=some au/\aq g false 1 q1=some mv:=λg hg=>⟨cy (hg _ _ k1),l0 g (mq.trans hg) au rfl,l1 g (mq.trans hg) mv rfl⟩;have bad:∀(e:Int) (g:List aa),e≠0->Ext (h++[aj [p] false]) g->∃e',e'≠0/\wP e=wP e'/\∃l,g=h++l:=λe g he hg=>⟨e,he,rfl,(mq.trans hg).split⟩;have hz:[bO (.string ⟨[].toArray⟩),.af,false,false,false,(0:Int),false,.af,.v (.string ⟨[].toArray⟩),false,.v (.pointer none)]=NQ:=rfl;have abJ:[bO (.string ⟨[].toArray⟩),(0:Int),false,.af]=d_:=rfl;refine fR (λe g=>e=[(1,.mp h.length 0)]/\g=h++[aj [p] false]) ?_ ?_;exact wx tt;rintro e g ⟨rfl,rfl⟩;generalize h++[aj [p] false]=O at mq k1 kk bad⊢;refine fR (λe g=>e=[(1,.mp h.length 0)]/\g=O/\0<rows.length) ?_ ?_;refine ki @s.pp.nl @s.rr.len (e4 (vh _ 14 O) ?_ ?_);rintro r g ⟨fV,rfl⟩;refine wx ?_;exact⟨trivial,trivial,by simpa using fV⟩;rintro ch g ⟨_,rfl,rfl⟩;exact bad 14 g aCu (p7 _);rintro e g ⟨rfl,rfl,hpos⟩;refine fR (λe g'=>e=[(1,.mp h.length 0)]/\Ext g g') ?_ ?_;refine ki @s.pp.nl @s.rr.len ?_;refine b9 (λi e g'=>e=[(1,.mp h.length 0),(29,au),(30,ag rows.length),(31,ag i)]/\Ext g g') rows.length ⟨rfl,p7 _⟩ ?_ ?_;rintro i e g1 Q ⟨rfl,hE⟩;obtain⟨x,I⟩:=cF Q;have jM:=s.rc x (bA I);obtain⟨ND,Y,V⟩:=s.rr.bC i x I;have h3:=V.eE g1 (mq.trans hE);rw[jM.len.1] at h3;have n1:=Jn (n:=11) g1 (z:=NQ) rfl jM.len.1 jM.len.2;have kx:(g1++[aj x false])[g1.length]?=some (.cells x false):=aCt
 have jJ:Ext g (g1++[aj x false]):=hE.nW;obtain⟨nm,bp,i1,p1,aY,a,al,q_,ex,b,bB,rfl,Am,_⟩:=jM.at
 obtain⟨gs,xb,ja⟩:=Am;have IF:=xb.bL;rw[bX] at IF;refine wy ?_;refine wy ?_;refine b9 (λj e g'=>e=[(1,.mp h.length 0),(29,au),(30,ag rows.length),(31,ag i),(37,bp),(38,ag gs.length),(39,ag j)]/\Ext g g') gs.length ⟨rfl,jJ⟩ ?_ ?_;rintro j e g3 hj ⟨rfl,nA⟩;obtain⟨w,hw⟩:=cF hj;have e1:bw 1 bp j=some (.fp [ai w] 0):=xb.bC (x:=ai w) aDB rfl;refine wy (a_ (ZG (s.ext (mq.trans nA)) w) ?_);rintro r g4 ⟨⟨t,b,rfl,_⟩,l,rfl⟩;refine wy (e4 (vh _ 9 _) ?_ ?_);rintro r g5 ⟨_,rfl⟩;refine wx ?_;exact⟨rfl,nA.nW⟩;rintro ch g5 ⟨_,rfl,rfl⟩;exact bad 9 _ aCu nA.nW;rintro e g3 ⟨rfl,nA⟩;refine dr @ag.eq_1 ?_;exact⟨trivial,nA⟩;rintro e g1 ⟨rfl,hE⟩;refine dr @ag.eq_1 ?_;exact⟨trivial,hE⟩;rintro e g1 ⟨rfl,hE⟩;obtain⟨x0,hx0⟩:=cF hpos;obtain⟨awx,r_,mT⟩:=s.rr.bC 0 x0 hx0;obtain⟨afz,aBa,i0,fE,at2,aAD,aAE,aB6,aA5,aAL,aCo,rfl,_⟩:=(s.rc x0 (bA hx0)).at
 refine fR (λe g'=>e=[(1,.mp h.length 0)]/\g'=g1) ?_ ?_
 · obtain⟨aM,kG,v0,_⟩:=mT.fa 0
   obtain⟨r2,u2,_,w2⟩:=mT.fa 2;obtain⟨tY,u4,_,vH⟩:=mT.fa 4;have aCr:=w2 g1 (mq.trans hE) _ rfl;have JC:=vH g1 (mq.trans hE) _ rfl;have aBb:bw 11 au (0:Int)=some awx:=r_;have done:∀b:Bool,fJ G ay 43 [b,(13:Int)] g1 (λr h'=>h'=g1) λch h'=>ch=wP 13/\h'=g1:=λb=>e4 (vh b 13 g1) (λr h' q=>q.2) λch h' q=>q.2;cases at2 with
   |true=>
    refine fG @s.pp.nl (e4 (done _) ?_ ?_);rintro r g2 rfl;exact wx tt;rintro ch g2 ⟨rfl,rfl⟩;exact bad 13 _ aCu hE
   |false=>
    refine fG @s.pp.nl (e4 (done _) ?_ ?_);rintro r g2 rfl;exact wx tt;rintro ch g2 ⟨rfl,rfl⟩;exact bad 13 _ aCu hE
 rintro e g2 ⟨rfl,rfl⟩;refine fR (λe g'=>e=[(1,.mp h.length 0)]/\Ext g g') ?_ ?_;refine ki @s.pp.nl @s.rr.len ?_;refine b9 (λi e g'=>e=[(1,.mp h.length 0),(78,au),(79,ag rows.length),(80,ag i)]/\Ext g g') rows.length ⟨rfl,hE⟩ ?_ ?_
 · rintro i e g1 Q ⟨rfl,hE⟩
   obtain⟨x,I⟩:=cF Q;have jM:=s.rc x (bA I);obtain⟨ND,Y,V⟩:=s.rr.bC i x I;have h3:=V.eE g1 (mq.trans hE);rw[jM.len.1] at h3;have n1:=Jn (n:=11) g1 (z:=NQ) rfl jM.len.1 jM.len.2;have kx:(g1++[aj x false])[g1.length]?=some (.cells x false):=aCt
   have jJ:Ext g (g1++[aj x false]):=hE.nW;obtain⟨nm,bp,i1,p1,aY,a,al,q_,ex,b,bB,rfl,Am,_⟩:=jM.at
   refine wy ?_;generalize g1++[aj _ false]=g2 at kx jJ⊢;have done:∀b:Bool,fJ G ay 43 [b,(13:Int)] g2 (λr h'=>h'=g2) λch h'=>ch=wP 13/\h'=g2:=λb=>e4 (vh b 13 g2) (λr h' q=>q.2) λch h' q=>q.2;cases aY with
   |true=>
    refine wy (e4 (done _) ?_ ?_);rintro r g3 rfl;refine dP ?_;exact⟨rfl,jJ⟩;rintro ch g3 ⟨rfl,rfl⟩;exact bad 13 _ aCu jJ
   |false=>
    refine wy (e4 (done _) ?_ ?_);rintro r g3 rfl;refine dP ?_;exact⟨rfl,jJ⟩;rintro ch g3 ⟨rfl,rfl⟩;exact bad 13 _ aCu jJ
 rintro e g1 ⟨rfl,hE⟩;refine dr @ag.eq_1 ?_;exact⟨trivial,hE⟩;rintro e g3 ⟨rfl,nA⟩;refine fR (λe g'=>e=[(1,.mp h.length 0),(10,.fn (.func 59) [] [.mp h.length 0])]/\g'=g3) ?_ ?_;exact wx tt;rintro e g4 ⟨rfl,rfl⟩;have known:∀(g':List aa),Ext g g'->∀w,bq G ay 59 [ai w,.mp h.length 0] g' λr h'=>hJ r/\∃l,h'=g'++l:=λg' hg' w=>ati (s.ext (mq.trans hg')) (hg' _ _ k1) w;refine fR (λe g'=>e=[(1,.mp h.length 0),(10,.fn (.func 59) [] [.mp h.length 0])]/\Ext g g') ?_ ?_;refine ki @s.pp.nl @s.rr.len ?_;refine b9 (λi e g'=>e=[(1,.mp h.length 0),(10,.fn (.func 59) [] [.mp h.length 0]),(99,au),(100,ag rows.length),(101,ag i)]/\Ext g g') rows.length ⟨rfl,nA⟩ ?_ ?_;rintro i e g1 Q ⟨rfl,hE⟩;obtain⟨x,I⟩:=cF Q;have jM:=s.rc x (bA I);obtain⟨ND,Y,V⟩:=s.rr.bC i x I;have h3:=V.eE g1 (mq.trans hE);rw[jM.len.1] at h3;have n1:=Jn (n:=11) g1 (z:=NQ) rfl jM.len.1 jM.len.2;have kx:(g1++[aj x false])[g1.length]?=some (.cells x false):=aCt
 have jJ:Ext g (g1++[aj x false]):=hE.nW;obtain⟨nm,bp,i1,p1,aY,a,al,q_,ex,b,bB,rfl,Am,jx,_⟩:=jM.at
 obtain⟨ms,H9,apP⟩:=jx;have IF:=H9.bL;rw[bX] at IF;refine wy ?_;refine wy ?_;refine b9 (λj e g'=>e=[(1,.mp h.length 0),(10,.fn (.func 59) [] [.mp h.length 0]),(99,au),(100,ag rows.length),(101,ag i),(107,q_),(108,ag ms.length),(109,ag j)]/\Ext g g') ms.length ⟨rfl,jJ⟩ ?_ ?_;rintro j e g3 hj ⟨rfl,nA⟩;obtain⟨w,hw⟩:=cF hj;have e1:bw 1 q_ j=some (.fp [ai w] 0):=H9.bC (x:=ai w) aDB rfl;refine wy (a_ (known g3 nA w) ?_);rintro r g4 ⟨⟨b,rfl⟩,l,rfl⟩;refine wy (e4 (vh _ 6 _) ?_ ?_);rintro r g5 ⟨_,rfl⟩;refine wx ?_;exact⟨rfl,nA.nW⟩;rintro ch g5 ⟨_,rfl,rfl⟩;exact bad 6 _ aCu nA.nW;rintro e g3 ⟨rfl,nA⟩;refine dr @ag.eq_1 ?_;exact⟨trivial,nA⟩;rintro e g1 ⟨rfl,hE⟩;refine dr @ag.eq_1 ?_;exact⟨trivial,hE⟩;rintro e g5 ⟨rfl,aoh⟩;refine ki @s.pp.nl @s.qz.len ?_;refine b9 (λi e g'=>e=[(10,.fn (.func 59) [] [.mp h.length 0]),(122,mv),(123,ag marks.length),(124,ag i)]/\Ext g g') marks.length ⟨rfl,aoh⟩ ?_ ?_;rintro i e g1 Q ⟨rfl,hE⟩;obtain⟨x,I⟩:=cF Q;have jM:=s.fj x (bA I);obtain⟨ND,Y,V⟩:=s.qz.bC i x I;have h3:=V.eE g1 (mq.trans hE);rw[jM.ok.1] at h3;have n1:=Jn (n:=4) g1 (z:=d_) rfl jM.ok.1 jM.ok.2.1;have kx:(g1++[aj x false])[g1.length]?=some (.cells x false):=aCt
 have jJ:Ext g (g1++[aj x false]):=hE.nW;obtain⟨nm,v,al,bv,rfl,tD⟩:=jM;obtain⟨ms,H9,apP⟩:=tD;have IF:=H9.bL;rw[bX] at IF;refine oS ?_;generalize g1++[aj _ false]=g2 at kx jJ⊢;generalize g1.length=m at kx⊢;have MR:aq g2 false 1 (.mp m 3)=some bv:=by simp only[aq,kx];rfl
 refine wx ?_;refine b9 (λj e g'=>e=[(10,.fn (.func 59) [] [.mp h.length 0]),(122,mv),(123,ag marks.length),(124,ag i),(129,bv),(130,ag ms.length),(131,ag j)]/\Ext g g') ms.length ⟨rfl,jJ⟩ ?_ ?_;rintro j e g3 hj ⟨rfl,nA⟩;obtain⟨w,hw⟩:=cF hj;have e1:bw 1 bv j=some (.fp [ai w] 0):=H9.bC (x:=ai w) aDB rfl;refine wy (a_ (known g3 nA w) ?_);rintro r g4 ⟨⟨b,rfl⟩,l,rfl⟩;refine wy (e4 (vh _ 6 _) ?_ ?_);rintro r g5 ⟨_,rfl⟩;refine wx ?_;exact⟨rfl,nA.nW⟩;rintro ch g5 ⟨_,rfl,rfl⟩;exact bad 6 _ aCu nA.nW;rintro e g3 ⟨rfl,nA⟩;refine dr @ag.eq_1 ?_;exact⟨trivial,nA⟩;rintro e g1 ⟨rfl,hE⟩;refine dr @ag.eq_1 ?_;exact⟨(mq.trans hE).split,hpos⟩
end
section
variable{i j o:Nat}{b':aa}{x:List U}{y:U}
structure mL(ks aQ:Nat)(au mv:U)(rows marks:List (List U))(h:List aa):Prop where
 b:h[ks]?=some (.cells [au,mv] false)
 r:gR 11 h aQ au rows
 m:o7 mv marks
 rc:∀x∈rows,mM x
 fj:∀x∈marks,lM x
 rl:rows.length<=24
 ml:marks.length<=8
section
variable{ks aQ:Nat}{au mv:U}{rows marks:List (List U)}{h:List aa}
def mL.A(s:mL ks aQ au mv rows marks h):qh h (.mp ks 0) au mv rows marks:=⟨qR.mp s.b,mb.row s.r,mb.slc h s.m λx I=>(s.fj x I).ok.1,s.rc,s.fj,s.rl,s.ml⟩
def mL.ext{h':List aa}(s:mL ks aQ au mv rows marks h)(he:Ext h h'):mL ks aQ au mv rows marks h':=⟨he _ _ s.b,s.r.keep λZ q=>he _ _ q,s.m,s.rc,s.fj,s.rl,s.ml⟩
def mL.set(s:mL ks aQ au mv rows marks h)(Y:j≠ks)(V:j≠aQ):mL ks aQ au mv rows marks (h.set j b'):=⟨by rw[av Y];exact s.b,s.r.keep λZ q=>by rw[av V];exact q,s.m,s.rc,s.fj,s.rl,s.ml⟩
def mL.ne(s:mL ks aQ au mv rows marks h):ks≠aQ:=by
 rintro rfl;have Y:=s.b;have V:=s.r.b;rw[Y] at V;simp at V
def mL.write(s:mL ks aQ au mv rows marks h)(I:rows[i]?=some x)(ho:o+1<=11)(hy:y.cells=[y])(Y:bl y=true)(D:mM (putAt x o [y])):
  aE h 1 (.rp aQ rows.flatten.length (i*11+o)) y=some (h.set aQ (.cells (rows.set i (putAt x o [y])).flatten true))/\mL ks aQ au mv (rows.set i (putAt x o [y])) marks (h.set aQ (.cells (rows.set i (putAt x o [y])).flatten true)):=by
 obtain⟨q1,ah⟩:=s.r.st (w:=1) (o:=o) (y:=y) I (by rw[hy];rfl) ho (by rw[hy];simp[Y]);rw[hy] at q1 ah;refine⟨q1,⟨by rw[av (dj s.ne)];exact s.b,ah,s.m,λz hz=>?_,s.fj,by rw[rM];exact s.rl,s.ml⟩⟩
 rcases J7 hz with q|rfl
 exact s.rc z q;exact D
end
structure kr(ks aQ i m n:Nat)(au mv:U)(marks:List (List U))(N:Nat)(h0:List aa)(rows:List (List U))(g:List aa):Prop where
 s:mL ks aQ au mv rows marks g
 kp:∀(j:Nat) b,j≠aQ->h0[j]?=some b->g[j]?=some b
 le:h0.length<=g.length
 b2:g[n]?=some (.cells [.mp ks 0] false)
 b3:g[n+1]?=some (.cells [.rp aQ m (i*11)] false)
 hn:h0.length<=n
 len:rows.length=N
 hm:rows.flatten.length=m
 lt:ks<h0.length/\aQ<h0.length/\i<N
section
variable{ks aQ i m n:Nat}{au mv:U}{marks:List (List U)}{N:Nat}{h0:List aa}{rows:List (List U)}{g:List aa}
def kr.ext{g':List aa}(c:kr ks aQ i m n au mv marks N h0 rows g)(he:Ext g g'):kr ks aQ i m n au mv marks N h0 rows g':=
 ⟨c.s.ext he,λj b hj q=>he _ _ (c.kp j b hj q),fy c.le he.len,he _ _ c.b2,he _ _ c.b3,c.hn,c.len,c.hm,c.lt⟩
def kr.set(c:kr ks aQ i m n au mv marks N h0 rows g)(hj:n+2<=j):kr ks aQ i m n au mv marks N h0 rows (g.set j b'):=by
 have:=c.lt;have:=c.hn;refine⟨c.s.set aCs aCs,λj' b hj' q=>?_,by simpa using c.le,?_,?_,c.hn,c.len,c.hm,c.lt⟩;have:=gl q;rw[av aCs];exact c.kp j' b hj' q;rw[av aCs];exact c.b2;rw[av aCs];exact c.b3
@[go_sem]def kr.at(c:kr ks aQ i m n au mv marks N h0 rows g):∃x,rows[i]?=some x/\mM x/\∀o y,x[o]?=some y->aq g false 1 (.rp aQ m (i*11+o))=some y:=by
 have hl:i<rows.length:=by rw[c.len];exact c.lt.2.2
 refine⟨rows[i],br hl,c.s.rc _ (We hl),λo y hy=>?_⟩;have I:=br hl;have Y:=(c.s.r.each _ (We hl)).1;have:=c.s.r.fP I (by have:=(gl hy);omega) hy;rw[c.hm] at this;exact this
def kr.write(c:kr ks aQ i m n au mv marks N h0 rows g)(I:rows[i]?=some x)(ho:o+1<=11)(hy:y.cells=[y])(Y:bl y=true)(D:mM (putAt x o [y])):
  ∃gB g',aE g 1 (.rp aQ m (i*11+o)) y=some g'/\kr ks aQ i m n au mv marks N h0 gB g'/\∀(j:Nat) b,j≠aQ->g[j]?=some b->g'[j]?=some b:=by
 obtain⟨q1,ah⟩:=c.s.write I ho hy Y D;rw[c.hm] at q1;have hlt:=c.lt;have hn:=c.hn;have kp:∀(j:Nat) b,j≠aQ->g[j]?=some b->(g.set aQ (.cells (rows.set i (putAt x o [y])).flatten true))[j]?=some b:=λj b hj q=>aDS
 refine⟨_,_,q1,⟨ah,λj b hj q=>kp j b hj (c.kp j b hj q),by simpa using c.le,kp _ _ aCs c.b2,kp _ _ aCs c.b3,c.hn,by rw[rM];exact c.len,?_,c.lt⟩,kp⟩;rw[z_ ah.r.each,rM,<-z_ c.s.r.each];exact c.hm
def kr.fin{g2:List aa}(c:kr ks aQ i m n au mv marks N h0 rows g)(he:lJ h0.length g g2):kr ks aQ i m n au mv marks N h0 rows g2:=by
 have kc:∀(j:Nat) Z fz,g[j]?=some (.cells Z fz)->g2[j]?=some (.cells Z fz):=λj Z fz q=>by
  rcases he.2 j with z|⟨_,z,_⟩
  rw[z];exact q;rw[z] at q;cases q
 refine⟨⟨kc _ _ _ c.s.b,c.s.r.keep λZ q=>kc _ _ _ q,c.s.m,c.s.rc,c.s.fj,c.s.rl,c.s.ml⟩,λj b hj q=>?_,by rw[he.1];exact c.le,kc _ _ _ c.b2,kc _ _ _ c.b3,c.hn,c.len,c.hm,c.lt⟩;have hjl:=gl q
 rcases he.2 j with z|⟨z,_,_⟩
 rw[z];exact c.kp j b hj q;omega
end
@[go_sem]def Ud(h:o<x.length):putAt x o [y]=x.set o y:=by
 unfold putAt;rw[nM,ajy,if_pos h,cj];rfl
def O4(ks aQ:Nat)(au mv:U)(marks:List (List U))(N:Nat)(h0 h':List aa):Prop:=∃rows,mL ks aQ au mv rows marks h'/\rows.length=N/\h0.length<=h'.length/\∀(j:Nat) b,j≠aQ->h0[j]?=some b->h'[j]?=some b
def kr.q{ks aQ i m n:Nat}{au mv:U}{marks:List (List U)}{N:Nat}{h0:List aa}{rows:List (List U)}{g:List aa}(c:kr ks aQ i m n au mv marks N h0 rows g):O4 ks aQ au mv marks N h0 g:=⟨rows,c.s,c.len,c.le,c.kp⟩
def Ww(ks aQ:Nat)(au mv:U)(marks:List (List U))(N:Nat)(h0:List aa)(ch:List PanicEntry)(h':List aa):Prop:=∃e,e≠0/\ch=wP e/\O4 ks aQ au mv marks N h0 h'
section
variable{G:Cells}
def al6(bh:dL G){ks aQ:Nat}{au mv:U}{rows marks:List (List U)}{h:List aa}(s:mL ks aQ au mv rows marks h)(Q:i<rows.length):
  fJ G ay 45 [.mp ks 0,.rp aQ rows.flatten.length (i*11)] h (λr h'=>O4 ks aQ au mv marks rows.length h h') (Ww ks aQ au mv marks rows.length h):=by
 refine aef.wW ?_;have c0:(bN ks 0).cells=[.mp ks 0]:=rfl;have c1:(U.rp aQ rows.flatten.length (i*11)).cells=[.rp aQ rows.flatten.length (i*11)]:=rfl;have hks:=gl s.b;have hkr:=gl s.r.b;have wX:kr ks aQ i rows.flatten.length h.length au mv marks rows.length h rows (h++[aj [bN ks 0] false]++[aj [U.rp aQ rows.flatten.length (i*11)] false]):=
  ⟨(s.ext jU).ext jU,λj b _ q=>aJ (aJ q),aCt,aCt,aDs,bg _,rfl,rfl,hks,hkr,Q⟩
 generalize rows.length=N at wX⊢;generalize apN:rows.flatten.length=m at wX c1⊢;have eU:∀(e:Int) (g:List aa),e≠0->(∃gB,kr ks aQ i m h.length au mv marks N h gB g)->∀hp',lJ h.length g hp'->Ww ks aQ au mv marks N h (wP e) hp':=λe g he ⟨gB,T⟩ hp' D=>⟨e,he,rfl,(T.fin D).q⟩;refine cB (λe g=>e=[(2,.mp h.length 0),(3,.mp (h.length+1) 0)]/\g=h++[aj [bN ks 0] false]++[aj [U.rp aQ m (i*11)] false]) ?_ ?_;refine y8 @c0 @c1 @cG.{0} @di.{0} @fI.{0} @e6 ?_;exact⟨trivial,trivial⟩;rintro e g ⟨rfl,rfl⟩;generalize h++[aj [bN ks 0] false]++[aj [U.rp aQ m (i*11)] false]=g at wX⊢;clear apN s Q;obtain⟨x,I,jM,hxl⟩:=wX.at
 obtain⟨nm,bp,i1,p1,aY,a,al,q_,ex,b,bB,rfl,Am,jx,hex,aBN⟩:=jM.at
 have l4:=hxl 4 _ rfl;have CK:=hxl 8 _ rfl;have E7:uQ (.rp aQ m (i*11))=some (.rp aQ m (i*11)):=rfl;have El:∀o,ji o (.rp aQ m (i*11))=some (.rp aQ m (i*11+o)):=λo=>rfl;have Q1:∀o,ji o (.rp aQ m (i*11+0))=some (.rp aQ m (i*11+o)):=λo=>rfl;cases aY with
 |true=>
  refine nL (cy wX.b3) @E7 @El @Q1 @l4 ?_;rw[A3];intro hp' he;exact dP ((wX.fin he).q)
 |false=>
  refine fR (λe g'=>e=[(2,.mp h.length 0),(3,.mp (h.length+1) 0)]/\g'=g) ?_ ?_;exact nL (cy wX.b3) @E7 @El @Q1 @l4 tt;rintro e g' ⟨rfl,rfl⟩;refine cB (λe qZ=>∃v ps,e=[(2,.mp h.length 0),(3,.mp (h.length+1) 0),(4,v)]/\qe v ps/\qZ=g') ?_ ?_;refine nL (cy wX.b3) @E7 @El @Q1 @CK ?_;refine dh (TZ bh ex aCs) ?_;rintro r ⟨v,NC,wO,rfl,hq⟩;obtain⟨ps,hE⟩:∃ps,qe v ps:=by
   rcases hq with⟨_,_,ps,hE⟩|⟨_,rfl⟩
   exact⟨ps,hE⟩;exact⟨[],az ⟨rfl,rfl⟩,λi p h=>aCC,aCu,aCt⟩
  refine dr @ag.eq_1 ?_;exact⟨v,ps,rfl,hE,trivial⟩;rintro e qZ ⟨v,ps,rfl,hE,rfl⟩;have hz:[bO (.int .u64 0),.v (.int .u64 0),.v (.int .u64 0),.v (.int .u64 0)]=aN 0:=by simp[aN,cA,wd]
  have aa1:h.length+2<=qZ.length:=by have:=(gl wX.b3);omega
  have Cf:=wX.ext (g':=qZ++[aj (aN 0) false]) jU;have pO:(qZ++[aj (aN 0) false])[qZ.length]?=some (.cells (aN 0) false):=aCt
  refine cB (λe g'=>e=[(2,.mp h.length 0),(3,.mp (h.length+1) 0),(4,v),(7,.mp qZ.length 0)]/\g'=qZ++[aj (aN 0) false]) ?_ ?_;exact dr @hz tt;rintro e g1 ⟨rfl,rfl⟩;generalize R9:qZ.length=m7 at aa1 pO⊢;generalize qZ++[aj (aN 0) false]=g1 at Cf pO⊢;refine cB (λe g'=>e=[(2,.mp h.length 0),(3,.mp (h.length+1) 0),(4,v),(7,.mp m7 0),(8,.fn (.func 62) [.mp ks 0] [])]/\g'=g1) ?_ ?_;exact dr (cy Cf.b2) tt;rintro e g2 ⟨rfl,rfl⟩;have hfn:∀neg,mO .Ek neg (.fn (.func 62) [.mp ks 0] []) (.v .nilFunc)=some (.v (.bool neg)):=λneg=>aDD
  refine fR (λe g'=>∃A gB,e=[(2,.mp h.length 0),(3,.mp (h.length+1) 0),(4,v),(7,.mp m7 0),(8,.fn (.func 62) [.mp ks 0] [])]/\kr ks aQ i m h.length au mv marks N h gB g'/\g'[m7]?=some (.cells (aN A) false)) ?_ ?_;refine dP (gO (afs hE) (bn (BV hE) cx) ?_);rintro r ⟨l,hl,mU,so⟩;have ln:=hl.bL;rw[bX] at ln;have jN:∀J,bL r J=some (.v (.int .i64 (l.length:Int)),J):=λJ=>aDf
  have hpl:=hE.len;refine dr @jN ?_;refine b9 (λj e g'=>∃A gB,e=[(2,.mp h.length 0),(3,.mp (h.length+1) 0),(4,v),(7,.mp m7 0),(8,.fn (.func 62) [.mp ks 0] []),(35,r),(36,ag l.length),(37,ag j)]/\kr ks aQ i m h.length au mv marks N h gB g'/\g'[m7]?=some (.cells (aN A) false)) l.length ⟨0,_,rfl,Cf,pO⟩ ?_ ?_;rintro j e g3 hj ⟨A,gB,rfl,hC,pO⟩;obtain⟨w,hw⟩:=cF hj;have e1:bw 1 r (.v (.int .i64 (j:Int)))=some (.fp [ai w] 0):=hl.bC (x:=ai w) aDB rfl;refine y8 @ag.eq_1 @e1 @tC @eH.{0} @gP.{0} @ff.{0} ?_;refine a_ (afg hC.s.A w) ?_;rintro _ g4 ⟨B,lx,rfl,rfl⟩;have n1:=PT (g3++lx) B;have Ad:=(hC.ext (g':=g3++lx) jU).ext (g':=g3++lx++[aj (aN B) false]) jU;have MI:(g3++lx++[aj (aN B) false])[m7]?=some (.cells (aN A) false):=aJ (aJ pO);have ER:(g3++lx++[aj (aN B) false])[(g3++lx).length]?=some (.cells (aN B) false):=aCt
  have fz:cq [.v (.int .u64 0),.v (.int .u64 0),.v (.int .u64 0),.v (.int .u64 0)] []=some (aN 0):=by rw[hz];rfl
  obtain⟨BS,L4⟩:∃b:Bool,qi [.i,.i,.i,.i] true (aX B) (.agg (aN 0))=some (.v (.bool b)):=by
   obtain⟨d,hd⟩:=QH B 0;refine⟨true !=d,?_⟩;show(dF [.i,.i,.i,.i] (aX B).cells (aX 0).cells).map (λr=>bO (.bool (true !=r)))=_;rw[hd];rfl
  refine dr @n1 ?_;generalize(g3++lx).length=m11 at ER⊢;generalize g3++lx++[aj (aN B) false]=g5 at Ad MI ER⊢;refine gj (wE ER) @fz @L4 (e4 (vh BS 6 g5) ?_ ?_);rintro r2 g6 ⟨_,rfl⟩;refine kH (wE ER) (wE MI) (fo (Fb A B) (bn (jZ _) (bn (jZ _) cx)) ?_);refine dr (GG MI (A|||B)) ?_;exact⟨A|||B,gB,rfl,Ad.set aa1,aO (gl MI)⟩;rintro ch g6 ⟨_,rfl,rfl⟩;exact eU 6 _ aCu ⟨gB,Ad⟩;rintro e g3 ⟨A,gB,rfl,hC,pO⟩;refine dr @ag.eq_1 ?_;exact⟨A,gB,trivial,hC,pO⟩;rintro e g3 ⟨A,Dd,rfl,aaz,aea⟩;have aaA:=aaz.ext (g':=g3++[aj [.v (.bool false)] false]) jU;have aeb:(g3++[aj [.v (.bool false)] false])[m7]?=some (.cells (aN A) false):=aJ aea;have ES:(g3++[aj [.v (.bool false)] false])[g3.length]?=some (.cells [.v (.bool false)] false):=aCt
  have auX:=N9 g3 (.v (.bool false)) (x:=.v (.bool false)) rfl rfl;have aa0:h.length+2<=g3.length:=by have:=(gl aaz.b3);omega
  refine cB (λe g'=>e=[(2,.mp h.length 0),(3,.mp (h.length+1) 0),(4,v),(7,.mp m7 0),(8,.fn (.func 62) [.mp ks 0] []),(12,.mp g3.length 0)]/\g'=g3++[aj [.v (.bool false)] false]) ?_ ?_;exact dr @auX tt;rintro e g4 ⟨rfl,rfl⟩;have apL:m7<g3.length:=gl aea;generalize aBD:g3.length=m12 at ES aa0 apL⊢;generalize g3++[aj [.v (.bool false)] false]=g4 at aaA aeb ES⊢;refine cB (λe g'=>∃gB c,e=[(3,.mp (h.length+1) 0),(4,v),(8,.fn (.func 62) [.mp ks 0] []),(12,.mp m12 0)]/\kr ks aQ i m h.length au mv marks N h gB g'/\g'[m12]?=some (.cells [.v (.bool c)] false)) ?_ ?_
  · refine dr (wE aeb) (a_ (GA A _) ?_)
    rintro _ g5 ⟨rfl,rfl⟩;refine dP ?_;rw[vI];refine⟨_,_,_,rfl,λk S ats ok hR=>?_⟩;have sj:=((aaA.ext (g':=g4++[aj (aN A) false]) jU).ext (g':=g4++[aj (aN A) false]++Dv false) jU).ext (g':=g4++[aj (aN A) false]++Dv false++[iB .ready none ats #[54] ok]) jU;have Eo:(g4++[aj (aN A) false]++Dv false++[iB .ready none ats #[54] ok])[k]?=some (.aS .ready none ats #[54] ok):=by rw[S];simp[Dv]
    have Ep:(g4++[aj (aN A) false]++Dv false++[iB .ready none ats #[54] ok])[g4.length]?=some (.cells (aN A) false):=aJ (aJ aCt);have AD:(g4++[aj (aN A) false]++Dv false++[iB .ready none ats #[54] ok])[m12]?=some (.cells [.v (.bool false)] false):=aJ (aJ (aJ ES));have kl:h.length+2<=k:=by
     have:=gl ES;rw[S];simp;omega
    show bq _ _ _ _ (g4++[aj (aN A) false]++Dv false++[iB .ready none ats #[54] ok]) _;generalize g4++[aj (aN A) false]++Dv false++[iB .ready none ats #[54] ok]=X at sj Eo Ep AD⊢;refine a_ (GB bh (B:=A) (kb:=g4.length) (Stop:=λ_=>False) (Inv:=λdone g=>∃gB c,kr ks aQ i m h.length au mv marks N h gB g/\g[m12]?=some (.cells [.v (.bool c)] false)/\g[k]?=some (.aS .ready none ats #[54] ok)) ?_ Ep ⟨_,false,sj,AD,Eo⟩) ?_
    · rintro done q g6 ⟨Jo,fN,Rm,Iv,sn⟩ fV ap2
      refine hR [_] g6 _ rfl ⟨none,sn⟩ ?_;have se:rA [(2,bN h.length 0),(3,bN (h.length+1) 0),(4,v),(8,U.fn (.func 62) [.mp ks 0] []),(12,bN m12 0),(53,U.fn (sN 113) [] [bN g4.length 0])] (List.zip [54] [bO (uw bP (q:Int))])=[(54,bO (uw bP (q:Int))),(2,bN h.length 0),(3,bN (h.length+1) 0),(4,v),(8,U.fn (.func 62) [.mp ks 0] []),(12,bN m12 0),(53,U.fn (sN 113) [] [bN g4.length 0])]:=rfl;rw[se];refine dP ?_;refine⟨⟨none,sn⟩,λeF=>?_⟩;have cV:=gl sn;have IT:k≠m12:=by rintro rfl;rw[Iv] at sn;cases sn
      have Ae:=Rm.set (j:=k) (b':=.aS .busy eF ats #[54] ok) kl;have MB:(g6.set k (.aS .busy eF ats #[54] ok))[m12]?=some (.cells [.v (.bool fN)] false):=by rw[av IT];exact Iv
      have HY:(g6.set k (.aS .busy eF ats #[54] ok))[k]?=some (.aS .busy eF ats #[54] ok):=aO cV;generalize g6.set k (.aS .busy eF ats #[54] ok)=g7 at Ae MB HY⊢;have fin:∀(g8:List aa) Uz gw,kr ks aQ i m h.length au mv marks N h Uz g8->g8[m12]?=some (.cells [.v (.bool gw)] false)->g8[k]?=some (.aS .busy eF ats #[54] ok)->
        (∃st pd,g8[k]?=some (.aS st pd ats #[54] ok))/\∃c:Bool,bO (.bool true)=.v (.bool c)/\(c=true->∃gB c,kr ks aQ i m h.length au mv marks N h gB (g8.set k (.aS .ready none ats #[54] ok))/\(g8.set k (.aS .ready none ats #[54] ok))[m12]?=some (.cells [.v (.bool c)] false)/\(g8.set k (.aS .ready none ats #[54] ok))[k]?=some (.aS .ready none ats #[54] ok))/\(c=false->False):=λg8 Uz gw Y V h3=>
       ⟨⟨.busy,eF,h3⟩,true,rfl,λ_=>⟨Uz,gw,Y.set kl,by rw[av IT];exact V,aO (gl h3)⟩,λz=>by cases z⟩
      refine dr (cy Ae.b2) (a_ (aqV Ae.s.A (q:Int)) ?_);rintro r g8 ⟨⟨b,rfl⟩,rfl⟩;cases b with
      |true=>
       obtain⟨x,I,jM,_⟩:=Ae.at
       have hr2:mM (putAt x 9 [.v (.bool true)]):=by
        obtain⟨y,b,bB,rfl,hy,ht⟩:=jM;obtain⟨h9,_⟩:=hy.ok;refine⟨y,true,bB,?_,hy,ht⟩;rw[Ud aCv,ajx _ _ aCs,h9];rfl
       obtain⟨agU,g9,ql,Rn,SQ⟩:=Ae.write I aCu (y:=.v (.bool true)) rfl rfl hr2;refine kg (cy Ae.b3) @E7 @El @ql ?_;have xA:aQ≠m12/\aQ≠k:=by
        have:=Ae.lt;exact⟨aCs,aCs⟩
       exact fin g9 agU fN Rn (SQ _ _ (dj xA.1) MB) (SQ _ _ (dj xA.2) HY)
      |false=>
       have axw:=oh (w:=.v (.bool true)) rfl MB;refine dr @axw ?_;exact fin _ Jo true (Ae.set aa0) (aO (gl MB)) (by rw[av (dj IT)];exact HY)
    rintro r g6 ⟨rfl,⟨Jo,fN,Rm,Iv,sn⟩|hf⟩;refine⟨.ready,none,sn,aCu,?_⟩;have IT:k≠m12:=by rintro rfl;rw[Iv] at sn;cases sn
    refine dr @vb.eq_1 ?_;exact⟨Jo,fN,trivial,Rm.set kl,by rw[av IT];exact Iv⟩;exact hf.elim
  rintro e g5 ⟨aCh,c5,rfl,sj,AD⟩;refine fR (λe g'=>e=[(3,.mp (h.length+1) 0),(4,v),(8,.fn (.func 62) [.mp ks 0] [])]/\g'=g5) ?_ ?_
  · have done:∀b:Bool,fJ G ay 43 [.v (.bool b),.v (.int .i64 13)] g5 (λr h'=>h'=g5) λch h'=>ch=wP 13/\h'=g5:=λb=>e4 (vh b 13 g5) (λr h' q=>q.2) λch h' q=>q.2
    obtain⟨x,I,jM,hxl⟩:=sj.at
    obtain⟨nm,bp,i1,p1,aY,a,al,q_,ex,b,bB,rfl,_⟩:=jM.at
    have tP:=hxl 9 _ rfl;cases c5 with
    |true=>
     refine nL (cy AD) (cy sj.b3) @E7 @El @tP (e4 (done _) ?_ ?_);rintro r g6 rfl;exact dP tt;rintro ch g6 ⟨rfl,rfl⟩;exact eU 13 _ aCu ⟨_,sj⟩
    |false=>
     refine dr (cy AD) (e4 (done _) ?_ ?_);rintro r g6 rfl;exact dP tt;rintro ch g6 ⟨rfl,rfl⟩;exact eU 13 _ aCu ⟨_,sj⟩
  rintro e g6 ⟨rfl,rfl⟩;refine cB (λe g'=>∃cD f,e=[(3,.mp (h.length+1) 0),(14,cD),(15,.v (.int .i64 f))]/\((f=0/\Gg cD)\/f≠0)/\g'=g6) ?_ ?_;refine dP (a_ (au_ bh hE (auR sj.s.A) hfn) ?_);rintro r g7 ⟨⟨cD,f,rfl,hq⟩,rfl⟩;refine dr @ag.eq_1 ?_;exact⟨cD,f,rfl,hq.imp id λz=>z.1,trivial⟩;rintro e g7 ⟨cD,f,rfl,Ar,rfl⟩;refine fR (λe g'=>e=[(3,.mp (h.length+1) 0),(14,cD)]/\g'=g7/\Gg cD) ?_ ?_;refine dP (e4 (vh _ f g7) ?_ ?_);rintro r g8 ⟨hf,rfl⟩;have HM:f=0:=aE8
  refine dP ?_;exact⟨trivial,trivial,Ar.elim (λz=>z.2) λz=>absurd HM z⟩;rintro ch g8 ⟨hf,rfl,rfl⟩;exact eU f _ aE8 ⟨_,sj⟩;rintro e g8 ⟨rfl,rfl,hN⟩;have hcl:dm cD:=by
   obtain⟨on,bt,ak,bv,F,E,e,rfl,ho,O,_⟩:=hN;exact YE ho O
  refine cB (λe g'=>∃tab f,e=[(3,.mp (h.length+1) 0),(15,.v (.int .i64 f)),(16,tab)]/\((f=0/\x7 tab)\/f≠0)/\g'=g8) ?_ ?_;refine dP ?_;refine dh (avb bh hN) ?_;rintro r ⟨tab,f,rfl,hq⟩;refine dr @ag.eq_1 ?_;exact⟨tab,f,rfl,hq.imp id λz=>z.1,trivial⟩;rintro e g9 ⟨tab,f,rfl,htab,rfl⟩;refine fR (λe g'=>e=[(3,.mp (h.length+1) 0),(16,tab)]/\g'=g9/\x7 tab) ?_ ?_;refine dP (e4 (vh _ f g9) ?_ ?_);rintro r g8 ⟨hf,rfl⟩;have HM:f=0:=aE8
  refine dP ?_;exact⟨trivial,trivial,htab.elim (λz=>z.2) λz=>absurd HM z⟩;rintro ch g8 ⟨hf,rfl,rfl⟩;exact eU f _ aE8 ⟨_,sj⟩;rintro e g10 ⟨rfl,rfl,hT⟩;obtain⟨x,I,jM,_⟩:=sj.at
  have hr2:mM (putAt x 10 [tab]):=by
   obtain⟨y,b,bB,rfl,hy,ht⟩:=jM;obtain⟨h9,_⟩:=hy.ok;refine⟨y,b,tab,?_,hy,az hT⟩;rw[Ud aCv,ajx _ _ aCs,h9];rfl
  have Il:tab.cells=[tab]/\bl tab=true:=by
   obtain⟨rows,rfl,_⟩:=hT;exact⟨rfl,rfl⟩
  obtain⟨agU,aA8,ql,Rn,SQ⟩:=sj.write I aCu Il.1 Il.2 hr2;refine kg (cy sj.b3) @E7 @El @ql ?_;rw[Uv];intro hp' he;exact dP ((Rn.fin he).q)
end
end
section
variable{x:List U}{g h J:List aa}{ks:Nat}{mv lW v0 v1:U}{marks rows:List (List U)}{e:Int}
def Gi(x:U):Prop:=∃(au mv:U) (rows marks:List (List U)),x=.fp [au,mv] 0/\bH au (rows.map b8)/\bH mv (marks.map b8)/\(∀x∈rows,mM x)/\(∀x∈marks,lM x)/\0<rows.length/\rows.length<=24/\marks.length<=8
def Ku(r:U):Prop:=∃(x:U) (e:Int),r=.aK [x,ag e]/\((e=0/\Gi x)\/(e≠0/\x=.v (.pointer none)))
def x7.fz{x:U}(h:x7 x)(J:List aa):aW J x x:=by
 obtain⟨rows,rfl,D,_⟩:=h;refine aW.fp (aA (e5 (fY λr hr'=>?_)) bT);obtain⟨l,b,rfl,_⟩:=D r hr';exact iC (zf (fY λn _=>aB _) (aA (aB _) bT))
def rS.Ho(h:rS x)(J:List aa):dK J x x:=by
 obtain⟨nm,bp,i,p,aY,a,al,mv,ex,rfl,hg,hm,_⟩:=h;exact aA (aB _) (aA (hg.fz J) (aA (aB _) (aA (aB _) (aA (aB _) (aA (aB _) (aA (aB _) (aA (hm.fz J) (aA (aB _) bT))))))))
def mM.Ho(h:mM x)(J:List aa):dK J x x:=by
 obtain⟨y,b,bB,rfl,hy,ht⟩:=h;refine zf (hy.Ho J) (aA (aB _) (aA ?_ bT))
 rcases ht with rfl|ht
 exact aB _;exact ht.fz J
def aaf:∀{ls:List (List U)},(∀x∈ls,dK J x x)->dK J ls.flatten ls.flatten
 |[],_=>bT
 |x::r,h=>by
  rw[vP];exact zf (h x (vS ..)) (aaf λy hy=>h y (qJ _ hy))
def axc{v:U}{xs:List (List U)}(h:o7 v xs)(I:∀x∈xs,aW J (.agg x) (.agg x)):∃v',aW J v v'/\bH v' (xs.map b8):=by
 rcases h with⟨rfl,rfl⟩|⟨t,rfl⟩
 exact⟨_,cX,az ⟨rfl,rfl⟩⟩;exact⟨_,e5 (fY I),ax rfl⟩
def axH{aQ:Nat}{au:U}(s:mL ks aQ au mv rows marks h)(h0:0<rows.length):∃n aM,b7 h n (.aK [.mp ks 0,(0:Int)])=some aM/\Ku aM:=by
 have V:=aW.rs (sz:=11) (o:=0) (len:=rows.length) s.r.b rfl (aaf λx I=>(s.rc x I).Ho h);have e:=LB [] s.r.each;rw[eH,show([]:List U).length=0 from rfl] at e;rw[e,<-s.r.v] at V;obtain⟨lq,aT,z2⟩:=axc s.m λx I=>(s.fj x I).fz h;obtain⟨n,hn⟩:=(dQ (aA (aW.mp s.b (aA V (aA aT bT))) (aA (aB (.int .i64 0)) bT)):aW h (.aK [.mp ks 0,(0:Int)]) _).done;exact⟨n,_,hn,_,0,rfl,ax ⟨rfl,_,lq,rows,marks,rfl,ax rfl,z2,s.rc,s.fj,h0,s.rl,s.ml⟩⟩
def axG(he:e≠0):∃n aM,b7 J n (.aK [.v (.pointer none),e])=some aM/\Ku aM:=by
 obtain⟨n,hn⟩:=(dQ (aA (aB (.pointer none)) (aA (aB (.int .i64 e)) bT)):aW J _ _).done;exact⟨n,_,hn,_,e,rfl,az ⟨he,rfl⟩⟩
section
variable{G:Cells}{J:List aa}{K:List aa->Prop}
def atv(h:K J):jf G ay 41 [.mp 0 0,.mp 1 0] J none K:=by
 refine SJ.Lf (x:=none) trivial ?_;have e1:mO .cT true (nG none) (.v .nilIface)=some (.v (.bool false)):=rfl;exact wy h
def ano(h0:J[0]?=some (.cells [v0] false))(Y:J[1]?=some (.cells [v1] false))
  (h:∀hp':List aa,hp'[0]?=some (.cells [.v (.pointer none)] false)->hp'[1]?=some (.cells [ag e] false)->K hp'):
  jf G ay 41 [.mp 0 0,.mp 1 0] J (some (.iface 104 (.agg #[.int .i64 e]))) K:=by
 refine SJ.Lf (x:=some (.cT 104 (.agg [.v (.int .i64 e)]))) ⟨rfl,rfl⟩ ?_;have e1:mO .cT true (nG (some (.cT 104 (.agg [.v (.int .i64 e)])))) (.v .nilIface)=some (.v (.bool true)):=rfl;have t1:D6 104 (.agg [.v (.int .i64 0)]) true (nG (some (.cT 104 (.agg [.v (.int .i64 e)]))))=some (.aK [.agg [.v (.int .i64 e)],.v (.bool true)]):=rfl;have s1:aE (J++[.cells [.v (.int .i64 0)] false]) 1 (.mp J.length 0) (.agg [.v (.int .i64 e)])=some (J++[.cells [.v (.int .i64 e)] false]):=by
  simp only[aE,en (bg _),kL,l6,dG];simp[gN,bl,putAt]
 have q0:(J++[aj [.v (.int .i64 e)] false])[0]?=some (.cells [v0] false):=aJ h0;have q1:(J++[aj [.v (.int .i64 e)] false])[1]?=some (.cells [v1] false):=aJ Y;have xE:(J++[aj [.v (.int .i64 e)] false])[J.length]?=some (.cells [.v (.int .i64 e)] false):=aCt
 have hlt:=gl Y;refine oS ?_;generalize J++[aj [.v (.int .i64 e)] false]=g at q0 q1 xE⊢;generalize J.length=m at xE hlt⊢;have z0:=oh (w:=.v (.pointer none)) rfl q0;have aT:=oh (k:=1) (g:=g.set 0 (.cells [.v (.pointer none)] false)) (v:=v1) (w:=.v (.int .i64 e)) rfl (by rw[av aCs];exact q1);have y0:=cy xE;have y1:aq (g.set 0 (.cells [.v (.pointer none)] false)) false 1 (.mp m 0)=some (.v (.int .i64 e)):=cy (by rw[av aCs];exact xE);have hg:=gl q1;refine lD @y0 @z0 @aT @y1 @qB (h _ ?_ ?_);rw[av aCu,aO aCs];rw[aO aCv];rfl
end
section
variable{G:Cells}
def axd(I:x.length=11/\x.all bl=true):mc h 11 120 91 .af (.sl [.agg x] .exact)=some (.rs h.length [x].flatten.length 11 0 1,h++[.cells [x].flatten true]):=by
 have ok:bS 11 [b8 x]=true:=sB (xs:=[x]) λy hy=>aFc
 have hfl:flat [b8 x]=[x].flatten:=aFi
 have h3:¬([b8 x]=([]:List U)):=aCt
 simp only[mc,contents,h3,if_false,ok,true_and,hfl,di,fI];rw[if_pos aCu]
structure wh(ks:Nat)(lW mv:U)(rows:List (List U))(g:List aa):Prop where
 b:g[ks]?=some (.cells [lW,mv] false)
 r:(lW=.af/\rows=[])\/∃aQ,gR 11 g aQ lW rows
 rc:∀x∈rows,mM x
 rl:rows.length<=24
def wh.ext{g':List aa}(s:wh ks lW mv rows g)(he:Ext g g'):wh ks lW mv rows g':=
 ⟨he _ _ s.b,s.r.imp id λ⟨aQ,D⟩=>⟨aQ,D.keep λZ q=>he _ _ q⟩,s.rc,s.rl⟩
def wh.A(s:wh ks lW mv rows g)(hm:o7 mv marks)(u7:∀x∈marks,lM x)(hml:marks.length<=8):qh g (.mp ks 0) lW mv rows marks:=by
 refine⟨qR.mp s.b,?_,mb.slc g hm λx I=>(u7 x I).ok.1,s.rc,u7,s.rl,hml⟩
 rcases s.r with⟨rfl,rfl⟩|⟨aQ,D⟩
 exact mb.slc g (ax ⟨rfl,rfl⟩) aCt;exact mb.row D
def wh.push(s:wh ks lW mv rows g)(I:mM x)(hl:rows.length<24):
  ∃v' g1,mc g 11 120 91 lW (.sl [.agg x] .exact)=some (v',g1)/\aE g1 1 (.mp ks 0) v'=some (g1.set ks (.cells [v',mv] false))/\wh ks v' mv (rows++[x]) (g1.set ks (.cells [v',mv] false))/\∀(j:Nat) Z,g[j]?=some (.cells Z false)->g1[j]?=some (.cells Z false):=by
 have hks:=gl s.b;have hxl:=I.len;have rc':∀y∈rows++[x],mM y:=λy hy=>by
  rcases dN.1 hy with q|q
  exact s.rc y q;rw[cw.1 q];exact I
 have st:∀{g1:List aa} {k n o l:Nat} {a b:U},g1[ks]?=some (.cells [a,b] false)->aE g1 1 (.mp ks 0) (.rs k n 11 o l)=some (g1.set ks (.cells [.rs k n 11 o l,b] false)):=λq=>by
  simp only[aE,q];rfl
 rcases s.r with⟨rfl,rfl⟩|⟨aQ,D⟩
 have O:(g++[aj [x].flatten true])[ks]?=some (.cells [.af,mv] false):=aJ s.b;have hE:jE 11 [x]:=λy hy=>by rw[cw.1 hy];exact hxl
 have D:gR 11 (g++[aj [x].flatten true]) g.length (.rs g.length [x].flatten.length 11 0 1) [x]:=gR.new hE;refine⟨_,_,axd hxl,st O,⟨aO aCv,az ⟨g.length,D.keep λZ q=>by rw[av aCs];exact q⟩,rc',aCt⟩,λj Z q=>aJ q⟩;obtain⟨v',e1,hr'⟩:=D.push (aZ:=120) (e:=91) aCu aCu hxl aCs;have hne:ks≠aQ:=by
  rintro rfl;have V:=D.b;rw[s.b] at V;simp at V
 have O:(g.set aQ (.cells (rows++[x]).flatten true))[ks]?=some (.cells [lW,mv] false):=by rw[av (dj hne)];exact s.b
 refine⟨v',_,e1,by rw[hr'.v];exact st O,⟨aO (by simpa using hks),az ⟨aQ,hr'.keep λZ q=>by rw[av hne];exact q⟩,rc',aCv⟩,λj Z q=>?_⟩;rw[av (by rintro rfl;rw[D.b] at q;simp at q)];exact q
def agF{F:U->Prop}{e:Env}(h0:g[0]?=some (.cells [v0] false))(Y:g[1]?=some (.cells [v1] false))(e2:eX e 2=some (.mp 0 0))(bW:eX e 3=some (.mp 1 0))(hF:F (.aK [v0,v1])):
  @e_ _ (jn e g [(.c 2 false 1),(.c 3 false 1)]) ⟨F⟩:=by
 exact kY @e2 @bW (cy h0) (cy Y) hF
def ava(bh:dL G)(hI:x9 G)(s:List UInt8)(hs:s.length<=1000000):cC G ay 27 [ai s] Ku:=by
 refine cU (MC.go ?_);refine wy ?_;refine⟨[0,1],rfl,?_⟩
 conv in jg.bc _=>whnf
 have qn:∀{e:Env} (e2:eX e 2=some (.mp 0 0)) (bW:eX e 3=some (.mp 1 0)) (ch:List PanicEntry) (V:List aa),(∃aV,aV≠0/\ch=wP aV)->(∃v0,V[0]?=some (.cells [v0] false))->(∃v1,V[1]?=some (.cells [v1] false))->
   ∃v,ch=[{v:=v,recovered:=false}]/\jf G ay 41 ([0,1].map λk=>.mp k 0) V (some v) λg=>@e_ _ (jn e g [(.c 2 false 1),(.c 3 false 1)]) ⟨λr=>∃n aM,b7 g n r=some aM/\Ku aM⟩:=by
  rintro e e2 bW ch V ⟨aV,he,rfl⟩ ⟨v0,h0⟩ ⟨v1,Y⟩;exact⟨_,rfl,ano h0 Y λg g0 g1=>agF g0 g1 e2 bW (axG he)⟩
 have Lv:∀mv:U,bl mv=true->cq [.af,.af] [(1,1,mv)]=some [.af,mv]:=λmv Y=>by
  have T:mv.cells=[mv]:=by cases mv<;>first|rfl|cases Y
  simp[cq,T,Y,putAt]
 have Iq:[bO (.string ⟨[].toArray⟩),.af,.v (.bool false),.v (.bool false),.v (.bool false),.v (.int .i64 0),.v (.bool false),.af,.v (.string ⟨[].toArray⟩)]=eT:=rfl;have f11:∀x:List U,rS x->cq [.v (.string ⟨[].toArray⟩),.af,.v (.bool false),.v (.bool false),.v (.bool false),.v (.int .i64 0),.v (.bool false),.af,.v (.string ⟨[].toArray⟩),.v (.bool false),.v (.pointer none)] [(0,9,.agg x)]=some (x++[.v (.bool false),.v (.pointer none)]):=λx I=>by
  obtain⟨nm,bp,i,p,aY,a,al,mv,ex,rfl,hg,hm,_⟩:=I;simp[cq,gN,cY,putAt,hg.one.1,hm.one.1,bl,ai]
 have SU:∀{g:List aa} {a b:U},g[3]?=some (.cells [a,b] false)->aq g false 1 (.mp 3 0)=some a:=λq=>by simp only[aq,q];rfl
 refine fR (λe g=>∃(au mv:U) (aV:Int) (nodes marks:List (List U)),e=[(2,.mp 0 0),(3,.mp 1 0),(4,.mp 2 0),(6,.v (.int .i64 aV))]/\g=[aj [bO (.pointer none)] false,aj [bO (.int .i64 0)] false,aj [au,mv] false]/\bH au (nodes.map b8)/\bH mv (marks.map b8)/\(∀x∈nodes,rS x)/\(∀x∈marks,lM x)/\nodes.length<=24/\marks.length<=8) ?_ ?_;refine wy ?_;refine dh (av2 bh hI s hs) ?_;rintro r ⟨au,mv,aU,e,rfl,nodes,marks,Ib,jx,hnc,u7,u9,hml⟩
 have on:bl au=true/\au.cells=[au]:=by rcases Ib with rfl|⟨rfl,_⟩<;>exact⟨rfl,rfl⟩
 have nD:bl mv=true/\mv.cells=[mv]:=aDF
 have rD:aE [aj [bO (.pointer none)] false,aj [bO (.int .i64 0)] false,aj [.af,.af] false] 2 (.mp 2 0) (.agg [au,mv])=some [aj [bO (.pointer none)] false,aj [bO (.int .i64 0)] false,aj [au,mv] false]:=Vj (k:=2) rfl rfl on.1 nD.1;refine wy ?_;exact⟨au,mv,e,nodes,marks,rfl,rfl,Ib,jx,hnc,u7,u9,hml⟩;rintro e g ⟨au,mv,aV,nodes,marks,rfl,rfl,Ib,jx,hnc,u7,u9,hml⟩
 have nD:bl mv=true/\mv.cells=[mv]:=aDF
 have abl:o7 mv marks:=by
  rcases jx with rfl|⟨rfl,z⟩
  exact az ⟨_,rfl⟩;exact ax ⟨rfl,aCT⟩
 refine fR (λe g=>e=[(2,.mp 0 0),(3,.mp 1 0),(4,.mp 2 0)]/\g=[aj [bO (.pointer none)] false,aj [bO (.int .i64 0)] false,aj [au,mv] false]) ?_ ?_;refine wy (e4 (vh _ aV _) ?_ ?_);rintro r g ⟨he,rfl⟩;exact wx tt;rintro ch g ⟨he,rfl,rfl⟩;exact qn rfl rfl _ _ ⟨aV,aDw,rfl⟩ ⟨_,rfl⟩ ⟨_,rfl⟩;rintro e g ⟨rfl,rfl⟩;have bc:(b8 [.af,mv]).cells=[.af,mv]:=rfl;have ln:=Ib.bL;rw[bX] at ln;refine cB (λe g=>e=[(2,.mp 0 0),(3,.mp 1 0),(4,.mp 2 0)]/\g=[aj [bN 3 0] false,aj [bO (.int .i64 0)] false,aj [au,mv] false,aj [.af,mv] false]) ?_ ?_;exact ki (Lv mv nD.1) @bc tt;rintro e g ⟨rfl,rfl⟩;refine cB (λe g=>∃lW rows,e=[(2,.mp 0 0),(3,.mp 1 0)]/\g[0]?=some (.cells [.mp 3 0] false)/\g[1]?=some (.cells [.v (.int .i64 0)] false)/\wh 3 lW mv rows g) ?_ ?_;refine wy ?_;refine b9 (λi e g=>∃lW rows,e=[(2,.mp 0 0),(3,.mp 1 0),(26,au),(27,ag nodes.length),(28,ag i)]/\g[0]?=some (.cells [.mp 3 0] false)/\g[1]?=some (.cells [.v (.int .i64 0)] false)/\wh 3 lW mv rows g/\rows.length=i) nodes.length ⟨.af,[],rfl,rfl,rfl,⟨rfl,ax ⟨rfl,rfl⟩,aCt,aCu⟩,rfl⟩ ?_ ?_;rintro i e g Q ⟨lW,rows,rfl,g0,g1,hS,abA⟩;obtain⟨x,I⟩:=cF Q;have CA:=hnc x (bA I);obtain⟨hx1,hx2,_⟩:=CA.ok;have e1:bw 9 au (.v (.int .i64 (i:Int)))=some (.fp x 0):=Ib.bC (x:=.agg x) aCG hx1;have e2:=λJ=>o7.eE hx1 J;have nn:=IW g hx1 hx2;have kx:(g++[aj x false])[g.length]?=some (.cells x false):=aCt
 have En:(g++[aj x false])[0]?=some (.cells [.mp 3 0] false):=aJ g0;have g12:(g++[aj x false])[1]?=some (.cells [.v (.int .i64 0)] false):=aJ g1;have eB:=hS.ext (g':=g++[aj x false]) jU;refine oS ?_;generalize g.length=m at kx⊢;generalize g++[aj x false]=g2 at kx En g12 eB⊢;have lx:aq g2 true 9 (.mp m 0)=some (.agg x):=by
  simp only[aq,kx];unfold dI;rw[if_pos rfl,if_pos aCs,ni,lH aCs]
 have hrow:mM (x++[.v (.bool false),.v (.pointer none)]):=⟨x,false,_,rfl,CA,ax rfl⟩;obtain⟨v',g3,p1,p2,p3,gr⟩:=eB.push hrow aCs;have ab:dy 11 [.agg (x++[.v (.bool false),.v (.pointer none)])]=some (.sl [.agg (x++[.v (.bool false),.v (.pointer none)])] .exact):=by
  have:=sB (n:=11) (xs:=[x++[.v (.bool false),.v (.pointer none)]]) λy hy=>by rw[cw.1 hy];exact hrow.len
  simp only[ep,kn] at this;simp[dy,this]
 have Hp:=gr _ _ En;refine oR (cy En) (SU eB.b) @lx (f11 x CA) @ab @p1 (cy Hp) @p2 @qB ?_;refine⟨v',_,rfl,?_,?_,p3,by simp[abA]⟩;rw[av aCu];exact Hp;rw[av aCu];exact gr _ _ g12;rintro e g ⟨lW,rows,rfl,g0,g1,hS,abA⟩;refine dr @ag.eq_1 ?_;exact⟨lW,rows,trivial,g0,g1,hS⟩;rintro e g ⟨lW,rows,rfl,g0,g1,hS⟩;refine fR (λe g=>e=[(2,.mp 0 0),(3,.mp 1 0)]/\g[0]?=some (.cells [.mp 3 0] false)/\g[1]?=some (.cells [.v (.int .i64 0)] false)/\0<rows.length/\∃aQ,mL 3 aQ lW mv rows marks g) ?_ ?_;refine wy (e4 (au7 (hS.A abl u7 hml) rfl) ?_ ?_);rintro r g2 ⟨⟨l,rfl⟩,hpos⟩;refine dP ?_;refine⟨trivial,aJ g0,aJ g1,hpos,?_⟩;have eB:=hS.ext (g':=g++l) jU
 rcases eB.r with⟨_,z⟩|⟨aQ,D⟩
 rw[z] at hpos;exact absurd hpos aCu;exact⟨aQ,eB.b,D,abl,eB.rc,u7,eB.rl,hml⟩;rintro ch g2 ⟨e,he,rfl,l,rfl⟩;exact qn rfl rfl _ _ ⟨e,he,rfl⟩ ⟨_,aJ g0⟩ ⟨_,aJ g1⟩;rintro e g2 ⟨rfl,En,g12,hpos,aQ,hM⟩;refine fR (λe g=>∃gB,e=[(2,.mp 0 0),(3,.mp 1 0)]/\g[0]?=some (.cells [.mp 3 0] false)/\g[1]?=some (.cells [.v (.int .i64 0)] false)/\mL 3 aQ lW mv gB marks g/\gB.length=rows.length) ?_ ?_;have hrl:=hM.rl;refine y9 (cy En) (SU hM.b) @hM.r.len ?_;refine b9 (λi e g=>∃gB,e=[(2,.mp 0 0),(3,.mp 1 0),(50,ag rows.length),(51,ag i)]/\g[0]?=some (.cells [.mp 3 0] false)/\g[1]?=some (.cells [.v (.int .i64 0)] false)/\mL 3 aQ lW mv gB marks g/\gB.length=rows.length) rows.length ⟨rows,rfl,En,g12,hM,rfl⟩ ?_ ?_;rintro i e g Q ⟨gB,rfl,g0,g1,hM,abB⟩;have hi':i<gB.length:=aCs
 have xA:aQ≠0/\aQ≠1:=by
  have O:=hM.r.b;refine⟨?_,?_⟩<;>rintro rfl;rw[g0] at O;simp at O;rw[g1] at O;simp at O
 refine aiP (cy g0) (SU hM.b) (hM.r.bC hi') (e4 (al6 bh hM hi') ?_ ?_);rintro r g3 ⟨Dd,Hy,h3,_,kp⟩;refine dP ?_;exact⟨Dd,rfl,kp _ _ (dj xA.1) g0,kp _ _ (dj xA.2) g1,Hy,aCs⟩;rintro ch g3 ⟨e,he,rfl,Dd,Hy,h3,_,kp⟩;exact qn rfl rfl _ _ ⟨e,he,rfl⟩ ⟨_,kp _ _ (dj xA.1) g0⟩ ⟨_,kp _ _ (dj xA.2) g1⟩;rintro e g ⟨gB,rfl,g0,g1,hM,abB⟩;refine dr @ag.eq_1 ?_;exact⟨gB,trivial,g0,g1,hM,abB⟩;rintro e g3 ⟨Dd,rfl,Hp,g13,Hy,h3⟩;have g14:(g3.set 0 (.cells [.mp 3 0] false))[1]?=some (.cells [.v (.int .i64 0)] false):=by rw[av aCu];exact g13
 have k1:=aO (a:=.cells [.v (.int .i64 0)] false) (gl g14);have k0:((g3.set 0 (.cells [.mp 3 0] false)).set 1 (.cells [.v (.int .i64 0)] false))[0]?=some (.cells [.mp 3 0] false):=by
  rw[av aCu,aO (gl Hp)]
 have xA:aQ≠0/\aQ≠1:=by
  have O:=Hy.r.b;refine⟨?_,?_⟩<;>rintro rfl;rw[Hp] at O;simp at O;rw[g13] at O;simp at O
 have aor:=(Hy.set (j:=0) (b':=.cells [.mp 3 0] false) aCu (dj xA.1)).set (j:=1) (b':=.cells [.v (.int .i64 0)] false) aCu (dj xA.2);exact wy (atv (agF k0 k1 rfl rfl (axH aor aCs)))
end
end
section
variable{v:U}{rows:List (List U)}
structure jX(hk au mv:U)(rows marks:List (List U)):Prop where
 eq:hk=.fp [au,mv] 0
 n:bH au (rows.map b8)
 m:bH mv (marks.map b8)
 rc:∀x∈rows,mM x
 fj:∀x∈marks,lM x
 aM:0<rows.length
 rl:rows.length<=24
 ml:marks.length<=8
def Gi.c{hk:U}(h:Gi hk):∃au mv rows marks,jX hk au mv rows marks:=by
 obtain⟨au,mv,rows,marks,e,Y,V,h3,h4,h5,h6,h7⟩:=h;exact⟨au,mv,rows,marks,e,Y,V,h3,h4,h5,h6,h7⟩
def alN{x:U}(h:x7 x):dm x:=by
 obtain⟨rows,rfl,Y,_⟩:=h;refine BW λc T=>?_;rw[cw.1 T];refine j0 λx I c T=>?_;obtain⟨r,D,rfl⟩:=cI.1 I;obtain⟨l,b,rfl,_⟩:=Y r D
 rcases dN.1 (show c∈l.map ag++[.v (.bool b)] from T) with q|q
 obtain⟨n,_,rfl⟩:=cI.1 q;exact cm _;rw[cw.1 q];exact cm _
def alM(h:bH v (rows.map b8))(D:∀x∈rows,mM x):dm v:=by
 have I:∀x∈rows.map b8,∀c∈x.cells,dm c:=λx I c T=>by
  obtain⟨y,hy,rfl⟩:=cI.1 I;obtain⟨nm,bp,i1,p1,aY,a,al,q_,ex,b,bB,rfl,⟨l1,g1,_⟩,⟨l2,g2,_⟩,_,ht⟩:=(D y hy).at
  have gx:c∈[ai nm,bp,.v (.bool i1),.v (.bool p1),.v (.bool aY),.v (.int .i64 a),.v (.bool al),q_,ai ex,.v (.bool b),bB]:=T;simp only[dW,nN,or_false] at gx
  rcases gx with rfl|rfl|rfl|rfl|rfl|rfl|rfl|rfl|rfl|rfl|rfl
  exact cm _;exact nZ g1;exact cm _;exact cm _;exact cm _;exact cm _;exact cm _;exact nZ g2;exact cm _;exact cm _
  rcases ht with rfl|ht
  exact cm _;exact alN ht
 rcases h with rfl|⟨rfl,_⟩
 exact j0 I;exact mh
def alL(h:bH v (rows.map b8))(D:∀x∈rows,lM x):dm v:=by
 have I:∀x∈rows.map b8,∀c∈x.cells,dm c:=λx I c T=>by
  obtain⟨y,hy,rfl⟩:=cI.1 I;obtain⟨nm,n,al,bv,rfl,l,g1,_⟩:=D y hy;have gx:c∈c_ nm n al bv:=T;simp only[c_,dW,nN,or_false] at gx
  rcases gx with rfl|rfl|rfl|rfl
  exact cm _;exact cm _;exact cm _;exact nZ g1
 rcases h with rfl|⟨rfl,_⟩
 exact j0 I;exact mh
def abY(i:Nat)(x:List U):Bool:=match x[i]? with
 |some (.v (.bool b))=>b
 |_=>false
def abZ(i:Nat)(x:List U):Int:=match x[i]? with
 |some (.v (.int _ n))=>n
 |_=>0
def rowOf(rows:List (List U))(t:Int):Option (List U):=if 1<=t then rows[(t-1).toNat]? else none
def ID(rows:List (List U))(t:Int):Bool:=t==0||(rowOf rows t).any (abY 4)
def Mx(rows:List (List U))(t:Int):Bool:=t==0||(rowOf rows t).any (abY 2)
def D7(rows:List (List U))(t:Int):Int:=((rowOf rows t).map (abZ 5)).getD 0
section
variable{G:Cells}{hk au mv:U}{rows marks:List (List U)}
def jX.clean(s:jX hk au mv rows marks):dm hk:=by
 rw[s.eq];refine BW λc T=>?_;simp only[dW,nN,or_false] at T
 rcases T with rfl|rfl
 exact alM s.n s.rc;exact alL s.m s.fj
def jX.eE(s:jX hk au mv rows marks)(h:List aa):aq h false 1 (.fp [au,mv] 0)=some au/\aq h false 1 (.fp [au,mv] 1)=some mv:=⟨rfl,rfl⟩
def azo(s:jX hk au mv rows marks):b_ G ay 154 [hk] (.v (.int .i64 (rows.length:Int))):=by
 rw[s.eq];refine eg (SD.go ?_);have ln:=s.n.bL;rw[bX] at ln;refine wy ?_;exact(aB _).done
def PN(s:jX hk au mv rows marks){t:Int}(h:rowOf rows t=none):b_ G ay 35 [hk,.v (.int .i64 t)] (.v (.pointer none)):=by
 rw[s.eq];refine eg (MF.go ?_);have hrl:=s.rl;have ln:=s.n.bL;rw[bX] at ln;refine wy ?_;refine bI (λq=>?_) λq=>?_;refine wy ?_;exact(aB _).done;refine wy ?_;refine bI (λah=>?_) λah=>?_;refine wy ?_;exact(aB _).done;exfalso;unfold rowOf at h;have q1:¬t<1:=aCy
 rw[if_pos aCs,ajo] at h;simp at ah;omega
def PO(s:jX hk au mv rows marks){i:Nat}{x:List U}(I:rows[i]?=some x):b_ G ay 35 [hk,.v (.int .i64 ((i:Int)+1))] (.fp x 0):=by
 rw[s.eq];refine eg (MF.go ?_);have hrl:=s.rl;have Q:=(bF.1 I).1;have ln:=s.n.bL;rw[bX] at ln;have D:=s.rc x (bA I);have bC:bw 11 au (.v (.int .i64 (i:Int)))=some (.fp x 0):=s.n.bC (x:=.agg x) aCG D.len.1;have w1:bP.wrap ((i:Int)+1-1)=(i:Int):=by rw[wrap_i64 aCs aCs];omega
 have d1:decide ((i:Int)+1<1)=false:=decide_eq_false aCs;have d2:decide ((i:Int)+1>(rows.length:Int))=false:=decide_eq_false aCs;refine wy ?_;exact(aW.fp (D.Ho _)).done
def Uw(rows:List (List U))(t:Int):rowOf rows t=none\/∃(i:Nat) (x:List U),t=(i:Int)+1/\rows[i]?=some x/\rowOf rows t=some x:=by
 cases h:rowOf rows t with
 |none=>exact ax rfl
 |some x=>
  right;unfold rowOf at h;split at h;exact⟨(t-1).toNat,x,aCs,h,rfl⟩;cases h
def aqW(s:jX hk au mv rows marks)(t:Int):b_ G ay 19 [hk,.v (.int .i64 t)] (.v (.bool (Mx rows t))):=by
 have T:=s.clean;have e:=s.eq;refine eg (SA.go ?_);refine e3 ?_
 rcases Uw rows t with h|⟨i,x,rfl,I,D⟩
 refine fo (PN s h) (bn T (bn (cm _) cx)) ?_;rw[e];unfold Mx;rw[h];refine wy ?_;refine bI (λq=>?_) λq=>?_;refine wy ?_;exact(aB _).done;refine dc @q ?_;exact(aB _).done;obtain⟨nm,bp,i1,p1,aY,a,al,q_,ex,b,bB,rfl,_⟩:=(s.rc x (bA I)).at
 refine fo (PO s I) (bn T (bn (cm _) cx)) ?_;rw[e];unfold Mx;rw[D];have q0:((i:Int)+1==0)=false:=beq_eq_false_iff_ne.2 aCs;refine wy ?_;exact(aB _).done
def aeS(s:jX hk au mv rows marks)(t:Int):b_ G ay 91 [hk,.v (.int .i64 t)] (.v (.bool (ID rows t))):=by
 have T:=s.clean;have e:=s.eq;refine eg (ab3.go ?_);refine e3 ?_
 rcases Uw rows t with h|⟨i,x,rfl,I,D⟩
 refine fo (PN s h) (bn T (bn (cm _) cx)) ?_;rw[e];unfold ID;rw[h];refine wy ?_;refine bI (λq=>?_) λq=>?_;refine wy ?_;exact(aB _).done;refine dc @q ?_;exact(aB _).done;obtain⟨nm,bp,i1,p1,aY,a,al,q_,ex,b,bB,rfl,_⟩:=(s.rc x (bA I)).at
 refine fo (PO s I) (bn T (bn (cm _) cx)) ?_;rw[e];unfold ID;rw[D];have q0:((i:Int)+1==0)=false:=beq_eq_false_iff_ne.2 aCs;refine wy ?_;exact(aB _).done
def akP(s:jX hk au mv rows marks)(t:Int):b_ G ay 129 [hk,.v (.int .i64 t)] (.v (.int .i64 (D7 rows t))):=by
 have T:=s.clean;have e:=s.eq;refine eg (acr.go ?_);refine e3 ?_
 rcases Uw rows t with h|⟨i,x,rfl,I,D⟩
 refine fo (PN s h) (bn T (bn (cm _) cx)) ?_;unfold D7;rw[h];refine e3 ?_;exact(aB _).done;obtain⟨nm,bp,i1,p1,aY,a,al,q_,ex,b,bB,rfl,_⟩:=(s.rc x (bA I)).at
 refine fo (PO s I) (bn T (bn (cm _) cx)) ?_;unfold D7;rw[D];refine wy ?_;exact(aB _).done
def XR(s:jX hk au mv rows marks)(t a:Int):b_ G ay 90 [hk,.v (.int .i64 t),.v (.int .i64 a)] (.v (.bool (decide (t>=1)&&decide (t<=(rows.length:Int))&&decide (a>=0)&&decide (a<=D7 rows t)))):=by
 have T:=s.clean;refine eg (ab2.go ?_);refine wy ?_;refine bI (λq=>?_) λq=>?_;refine wy ?_;refine fo (azo s) (bn T cx) ?_;refine wy ?_;refine bI (λah=>?_) λah=>?_;refine wy ?_;refine bI (λaP=>?_) λaP=>?_;refine wy ?_;refine fo (akP s t) (bn T (bn (cm _) cx)) ?_;refine wy ?_;exact(aB _).done;refine wy ?_;exact(aB _).done;refine wy ?_;exact(aB _).done;refine wy ?_;exact(aB _).done
end
end
def mg(l:List UInt8)(i:Nat):Nat:=(l[i]?.getD 0).toNat
@[go_sem]def tq{l:List UInt8}{i:Nat}{k:IntKind}(h:i<l.length):tc (ai l) (.v (.int k (i:Int)))=some (.v (.int .u8 (mg l i:Int))):=by
 obtain⟨c,T⟩:=cF h;rw[Yz T];unfold mg;rw[T];rfl
section
variable{G:Cells}
def UY(c:Int):b_ G ay 208 [.v (.int .u8 c)] (.v (.bool (decide (97<=c)&&decide (c<=122)))):=by
 refine eg (asu.go ?_);refine wy ?_
 repeat' refine ba (λq'=>?_) λq'=>?_
 all_goals exact(aB _).done
def Lg(c:Int):b_ G ay 209 [.v (.int .u8 c)] (.v (.bool (decide (48<=c)&&decide (c<=57)))):=by
 refine eg (asv.go ?_);refine wy ?_
 repeat' refine ba (λq'=>?_) λq'=>?_
 all_goals exact(aB _).done
def L2{v:U}{l:List (List UInt8)}(hv:bH v (l.map ai))(hl:l.length<=1000000000)(x:List UInt8):cC G ay 147 [v,ai x] hJ:=by
 refine cU (ac8.go ?_);have ln:=hv.bL;rw[bX] at ln;refine wy ?_;refine b9 (λi e h=>e=[(0,v),(1,ai x),(5,ag i)]/\h=[]) l.length ⟨rfl,rfl⟩ ?_ ?_
 · rintro i e h Q ⟨rfl,rfl⟩
   obtain⟨s,hs⟩:=cF Q;have e1:bw 1 v (.v (.int .i64 (i:Int)))=some (.fp [ai s] 0):=hv.bC (x:=ai s) aFd rfl;refine wy ?_
   repeat' refine ba (λq'=>?_) λq'=>?_
   exact gq _;exact⟨rfl,trivial⟩
 rintro e h ⟨rfl,rfl⟩;exact wy (gq _)
def Ts(s:List UInt8)(hs:s.length<=1000000000):cC G ay 141 [ai s] hJ:=by
 refine cU (ar7.go ?_);refine wy ?_;refine b9 (λi e h=>e=[(0,ai s),(3,ag i)]/\h=[]) s.length ⟨rfl,rfl⟩ ?_ ?_
 · rintro i e h Q ⟨rfl,rfl⟩
   refine lE ?_
   repeat' refine ba (λq'=>?_) λq'=>?_
   all_goals first|(exfalso;omega)|exact gq _|exact⟨rfl,trivial⟩|exact⟨rfl,rfl⟩|exact⟨trivial,trivial⟩
 · rintro e h ⟨rfl,rfl⟩
   refine wy ?_
   repeat' refine ba (λq'=>?_) λq'=>?_
   all_goals exact gq _
def YY(s:List UInt8)(hs:s.length<=1000000000):cC G ay 203 [ai s] (Kf s.length):=by
 refine cU (asq.go ?_);refine wy ?_;refine b9 (λi e h=>e=[(0,ai s),(5,ag i)]/\h=[]) s.length ⟨rfl,rfl⟩ ?_ ?_
 · rintro i e h Q ⟨rfl,rfl⟩
   have k1:=λJ=>Ld (l:=s) (j:=i) aCs J;have k2:=λJ=>Ql (l:=s) (i:=i+1) aCs J;refine p0 @tq ?_
   repeat' refine ba (λq'=>?_) λq'=>?_
   exact Hf _ aCv aCt;exact⟨rfl,trivial⟩
 rintro e h ⟨rfl,rfl⟩;exact wy (Hf (b:=[]) _ (bg _) aCt)
def Oz(s:List UInt8)(aU:Nat):∃p e:Int,e≠0/\b_ G ay 255 [ai s,.v (.int .i64 (aU:Int))] (.aK [.v (.int .i64 p),.v (.int .i64 e)]):=by
 rcases cH aU s.length with h|h
 refine⟨aU,2,aCu,eg (ad0.go ?_)⟩;exact wy ((dQ (aA (aB _) (aA (aB _) bT))).done);refine⟨s.length,5,aCu,eg (ad0.go ?_)⟩;exact wy ((dQ (aA (aB _) (aA (aB _) bT))).done)
def WQ(n aU:Nat)(r:U):Prop:=∃(m:Int) (p:Nat),r=.aK [.v (.int .i64 m),.v (.int .i64 (p:Int))]/\p<=n/\(m= -1\/(0<=m/\m<=99/\aU<p))
def z8{J:List aa}{n aU:Nat}{m:Int}{p:Nat}(Y:p<=n)(V:m= -1\/(0<=m/\m<=99/\aU<p)):∃k aM,b7 J k (.aK [.v (.int .i64 m),.v (.int .i64 (p:Int))])=some aM/\WQ n aU aM:=by
 obtain⟨k,S⟩:=(dQ (aA (aB (.int .i64 m)) (aA (aB (.int .i64 (p:Int))) bT)):aW J _ _).done;exact⟨k,_,S,m,p,rfl,Y,V⟩
def afO(s:List UInt8)(hs:s.length<=1000000000)(aU:Nat)(ha:aU<=s.length):cC G ay 254 [ai s,.v (.int .i64 (aU:Int))] (WQ s.length aU):=by
 refine cU (asI.go ?_);have ws:∀c:Int,48<=c->c<=57->bP.wrap (IntKind.u8.wrap (c-48))=c-48:=λc Y V=>by
  rw[wrap_u8,Int.emod_eq_of_lt aCs aCs,wrap_i64 aCs aCs]
 have azJ:∀c d:Int,48<=c->c<=57->48<=d->d<=57->bP.wrap (bP.wrap (10*(c-48))+(d-48))=10*(c-48)+(d-48):=λc d Y V h3 h4=>by
  rw[wrap_i64 (n:=10*(c-48)) aCs aCs,wrap_i64 aCs aCs]
 rcases cH aU s.length with h0|h0
 refine wx ?_;refine dx (Lg (mg s aU:Int)) ?_;cases hd:(decide ((48:Int)<=(mg s aU:Int))&&decide ((mg s aU:Int)<=57)) with
 |false=>
  exact wx (z8 aCs (ax rfl))
 |true=>
  simp only[dV,decide_eq_true_eq] at hd;have e1:=ws _ hd.1 hd.2;refine wx ?_
  rcases cH (aU+1) s.length with Y|Y
  refine wx ?_;refine dx (Lg (mg s (aU+1):Int)) ?_;cases q5:(decide ((48:Int)<=(mg s (aU+1):Int))&&decide ((mg s (aU+1):Int)<=57)) with
  |false=>
   refine wx ?_;exact z8 aCs (az ⟨aCs,aCs,aCs⟩)
  |true=>
   simp only[dV,decide_eq_true_eq] at q5;have e2:=ws _ q5.1 q5.2;have bW:=azJ _ _ hd.1 hd.2 q5.1 q5.2;refine wx ?_;refine b5 (λq=>?_) λq=>?_;exact z8 aCs (ax rfl)
   rcases cH (aU+1+1) s.length with V|V
   refine wx ?_;refine dx (Lg (mg s (aU+1+1):Int)) ?_;cases(decide ((48:Int)<=(mg s (aU+1+1):Int))&&decide ((mg s (aU+1+1):Int)<=57)) with
   |true=>
    refine wx ?_;exact z8 aCs (ax rfl)
   |false=>
    refine wx ?_;exact z8 aCs (az ⟨aCs,aCs,aCs⟩)
   refine wx ?_;exact z8 aCs (az ⟨aCs,aCs,aCs⟩)
  refine wx ?_;exact z8 aCs (az ⟨aCs,aCs,aCs⟩)
 refine wx ?_;exact z8 aCs (ax rfl)
end
section
variable{J:List aa}{v:U}{m n:Nat}
def aiL(n:Int): -9223372036854775808<=bP.wrap n/\bP.wrap n<=9223372036854775807:=by
 simp only[VY,Dx,Dy];constructor<;>(simp;split<;>omega)
def Oy(n:Int):0<=Dz.wrap n/\Dz.wrap n<18446744073709551616:=by
 rw[wrap_u64];omega
@[go_sem]def Zj(a:List UInt8):cr .eql (ai a) (.v (.string ⟨[].toArray⟩))=some (.v (.bool (a==[]))):=mm a []
@[go_sem]def BO{xs:List U}{e:TypeId}(hA:bU J v xs n e)(g:List aa):bL v g=some (.v (.int .i64 (xs.length:Int)),g):=by
 rcases hA with⟨rfl,rfl⟩|⟨id,rfl,_⟩<;>rfl
def Ge(a b:Int)(r:U):Prop:=∃n:Int,r=.v (.int .i64 n)/\a<=n/\n<=b
def qY{a b n:Int}(Y:a<=n)(V:n<=b):∃k aM,b7 J k (.v (.int .i64 n))=some aM/\Ge a b aM:=by
 obtain⟨k,S⟩:=(aB (.int .i64 n):aW J _ _).done;exact⟨k,_,S,n,rfl,Y,V⟩
def zD(m n:Nat)(v:U):Prop:=∃l:List (List UInt8),bH v (l.map ai)/\l.length<=m/\∀w∈l,w.length<=n
def zD.nil(m n:Nat):zD m n .af:=⟨[],az ⟨rfl,rfl⟩,iE _,aCt⟩
def akK{l:List (List UInt8)}(h:bU J v (l.map ai) 1 9)(Y:l.length<=m)(V:∀w∈l,w.length<=n):∃v',aW J v v'/\zD m n v':=by
 rcases h with⟨rfl,z⟩|⟨id,rfl,_⟩
 exact⟨_,cX,zD.nil _ _⟩;exact⟨_,e5 (fY λa _=>aB _),l,ax rfl,Y,V⟩
def WJ(m n:Nat)(r:U):Prop:=∃(v:U) (p e:Int),r=.aK [v,.v (.int .i64 p),.v (.int .i64 e)]/\zD m n v
def QU{v':U}{p e:Int}(h:aW J v v')(V:zD m n v'):∃k aM,b7 J k (.aK [v,.v (.int .i64 p),.v (.int .i64 e)])=some aM/\WJ m n aM:=by
 obtain⟨k,S⟩:=(dQ (aA h (aA (aB (.int .i64 p)) (aA (aB (.int .i64 e)) bT))):aW J _ _).done;exact⟨k,_,S,v',p,e,rfl,V⟩
section
variable{G:Cells}
def av8(c:Int):cC G ay 140 [.v (.int .u8 c)] hJ:=by
 refine cU (arv.go ?_);refine wy ?_
 repeat' refine ba (λq'=>?_) λq'=>?_
 all_goals exact gq _
def amm(n:Nat)(hn:n<18446744073709551616):cC G ay 288 [.v (.int .u64 (n:Int))] (wj 20):=by
 refine cU (arw.go ?_);refine wy ?_;refine nh (n:=n+1) (λm e h=>∃(i k:Nat) (t:List UInt8),m=(if i=0 then k+1 else k)/\i<=20/\k<10^(20-i)/\t.length=i/\k<18446744073709551616/\e=[(0,.v (.int .u64 (k:Int))),(3,ai t),(4,ag i)]/\h=[]) ⟨0,n,[],rfl,aCs,aCs,rfl,hn,rfl,rfl⟩ ?_;rintro m e h ⟨i,k,t,rfl,Q,S,ht,hk2,rfl,rfl⟩;have e1:cr .rem (.v (.int .u64 (k:Int))) (.v (.int .u64 10))=some (.v (.int .u64 ((k:Int).tmod 10))):=by rw[Pz _ _ _ aCu]
 have e2:cr .quo (.v (.int .u64 (k:Int))) (.v (.int .u64 10))=some (.v (.int .u64 ((k/10:Nat):Int))):=by
  rw[Py _ _ _ aCu,wrap_u64];congr 4;rw[Int.tdiv_eq_ediv_of_nonneg aCs];omega
 have bW:∀x:Int,Gu (.sl [.v (.int .u8 x)] .exact)=some (ai [rP x.toNat]):=λx=>rfl;have cO:∀x:Int,cr .add (ai [rP x.toNat]) (ai t)=some (ai ([rP x.toNat]++t)):=λx=>rZ aCv;have next:(i=0\/0<k)->i<20/\k/10<10^(20-(i+1))/\(if i+1=0 then k/10+1 else k/10)<(if i=0 then k+1 else k):=by
  intro T;have Ri:i<20:=by
   rcases cH i 20 with z|z
   exact z;have:i=20:=aCs
   subst this;simp at S;omega
  refine⟨Ri,?_,?_⟩;have:20-i=20-(i+1)+1:=aCs
  rw[this,Nat.pow_succ] at S;omega;rw[if_neg aCs];split;omega
  rcases T with z|z
  omega;omega
 refine wy ?_
 repeat' ((refine ba (λq'=>?_) λq'=>?_)<;>refine nL @e1 @e2 @bW @cO @wm ?_)
 all_goals first
  |exact pz aCs
  |(obtain⟨aT,z2,z3⟩:=next aCs
    exact⟨_,z3,i+1,k/10,_,rfl,aCs,z2,aCv,aCs,rfl,trivial⟩)
def digits(n:Int)(h0:0<=n)(Y:n<18446744073709551616):cC G ay 288 [.v (.int .u64 n)] (wj 20):=by
 have:=amm (G:=G) n.toNat aCs
 rwa [Int.toNat_of_nonneg h0] at this
def UK(n:Int):cC G ay 276 [.v (.int .i64 n)] (wj 21):=by
 refine cU (asW.go ?_);have aB9:∀x:Int,BP .neg (.v (.int .i64 x))=some (.v (.int .i64 (bP.wrap (0-x)))):=λx=>rfl;refine wy ?_;refine b5 (λq=>?_) λq=>?_;refine wy ?_;refine dh (digits _ (Oy _).1 (Oy _).2) ?_;rintro r ⟨t,rfl,ht⟩;have a1:cr .add (.v (.string ⟨[45].toArray⟩)) (ai t)=some (ai ([45]++t)):=rZ (a:=[45]) aCv;refine wy ?_;exact pz aCv;refine dh (digits _ (Oy _).1 (Oy _).2) ?_;rintro r ⟨t,rfl,ht⟩;refine wy ?_;exact pz aCs
def avy(s:List UInt8)(hs:s.length<=1000000000):cC G ay 251 [ai s] Kq:=by
 refine cU (ar6.go ?_)
 rcases zn s.length with h0|h0
 obtain rfl:=lG h0;have l0:∀J,oI (ai []) J=some (.v (.int .i64 0),J):=λ_=>rfl;refine wy ?_;exact tA aCu aCu;have z0:((s.length:Int)==0)=false:=by simp;intro e;rw[e] at h0;simp at h0
 have c0:tc (ai s) (.v (.int .i64 0))=some (.v (.int .u8 (mg s 0:Int))):=tq (i:=0) h0;refine wy (bI (λq=>?_) λq=>?_);refine wy ?_;exact tA aCu aCu;refine wy ?_;refine b9 (λi e h=>∃m:Int,e=[(0,ai s),(4,.v (.int .u64 m)),(5,ag i)]/\h=[]) s.length ⟨0,rfl,rfl⟩ ?_ ?_
 · rintro i e h Q ⟨m,rfl,rfl⟩
   refine wy ?_
   repeat' refine ba (λq'=>?_) λq'=>?_
   all_goals first
    |exact tA aCu aCu
    |exact⟨_,rfl,trivial⟩
 · rintro e h ⟨m,rfl,rfl⟩
   refine wy (bI (λah=>?_) λah=>?_)
   all_goals
    refine wy ?_;refine dh (UK _) ?_;rintro r ⟨t,rfl,ht⟩;refine wy ?_;refine b5 (λaP=>?_) λaP=>?_;exact tA aCu aCu;exact tA (aiL _).1 (aiL _).2
def Vt(s:List UInt8)(hs:s.length<=1000000000):cC G ay 204 [ai s] (Ge (-1) 999):=by
 refine cU (asr.go ?_);refine wy ?_;refine dh (avy s hs) ?_;rintro r ⟨n,b,rfl,Y,V⟩;refine wy ?_;cases b with
 |false=>
  refine wy ?_;exact qY aCu aCu
 |true=>
  refine wy ?_
  repeat' refine ba (λq'=>?_) λq'=>?_
  all_goals first
   |exact qY aCu aCu
   |exact qY aCs aCs
def S4(s:List UInt8)(hs:s.length<=100000):cC G ay 205 [ai s] (Kn 100001):=by
 refine cU (ass.go ?_);have fin:∀(J:List aa) (a:Bool) (v v':U) (b:Bool),aW J v v'->gm 100001 v'->∃n aM,b7 J n (.aK [.v (.bool a),v,.v (.bool b)])=some aM/\Kn 100001 aM:=λJ a v v' b hf hv=>by
  obtain⟨n,hn⟩:=(dQ (aA (aB (.bool a)) (aA hf (aA (aB (.bool b)) bT))):aW J _ _).done;exact⟨n,_,hn,a,v',b,rfl,hv⟩
 refine wy (bI (λq=>?_) λq=>?_);exact wy (fin _ _ _ _ _ cX (uu _));refine wy ?_;refine b9 (λi e h=>∃(l:List (List UInt8)) (ak:U) (a:Nat),e=[(0,ai s),(5,ak),(6,ag a),(7,ag i)]/\a<=i/\l.length<=i/\bU h ak (l.map ai) 1 9) (s.length+1) ⟨[],.af,0,rfl,bg _,bg _,p4 _ _ _⟩ ?_ ?_
 · rintro i e h Q ⟨l,ak,a,rfl,ha,hl,hA⟩
   obtain⟨v',y1,eu,jT⟩:=zK hA zX;refine wy ?_
   repeat' refine ba (λq'=>?_) λq'=>?_
   all_goals first
    |exact⟨l,ak,a,rfl,aCs,aCs,hA⟩
    |(have c1:=λJ=>Le (l:=s) (i:=a) (j:=i) ha aCs J
      have hw:((s.take i).drop a).length<=1000000000:=aCv
      refine wy ?_;refine bq.T9 (Ts _ hw) ?_;rintro r ⟨b,rfl⟩;cases b with
      |false=>
       exact wy (fin _ _ _ _ _ aW.af (gm.nil _))
      |true=>
       refine wy ?_;refine bq.T9 (L2 y1 aCs _) ?_;rintro r ⟨b,rfl⟩;cases b with
       |true=>
        exact wy (fin _ _ _ _ _ aW.af (gm.nil _))
       |false=>
        obtain⟨bf,g,e1,dS,_⟩:=kQ (x:=ai ((s.take i).drop a)) (aZ:=16) hA (vn l) rfl aCu aCu aCv;have ab:dy 1 [ai ((s.take i).drop a)]=some (.sl [ai ((s.take i).drop a)] .exact):=rfl;refine wy ?_;exact⟨l++[(s.take i).drop a],bf,i+1,rfl,aCs,aCv,by rw[List.map_append];exact dS⟩)
 rintro e h ⟨l,ak,a,rfl,ha,hl,hA⟩;refine wy ?_;obtain⟨v',f1,f2⟩:=PI (n:=100001) hA aCs;exact fin _ _ _ _ _ f1 f2
def aua(s:List UInt8)(hs:s.length<=1000000000):cC G ay 77 [ai s] (WJ 65536 65536):=by
 refine cU (arF.go ?_);refine wy (bI (λq=>?_) λq=>?_);exact wy (QU cX (zD.nil _ _));have hs2:s.length<=65536:=aCB
 refine wy ?_;refine b9 (λi e h=>∃(l:List (List UInt8)) (ak:U) (a:Nat),e=[(0,ai s),(5,ak),(6,ag a),(7,ag i)]/\a<=i/\l.length<=i/\(∀w∈l,w.length<=65536)/\bU h ak (l.map ai) 1 9) s.length ⟨[],.af,0,rfl,bg _,bg _,aCt,p4 _ _ _⟩ ?_ ?_;rintro i e h Q ⟨l,ak,a,rfl,ha,hl,hw,hA⟩;have c1:=λJ=>Le (l:=s) (i:=a) (j:=i) ha aCs J;obtain⟨bf,g,e1,dS,_⟩:=kQ (x:=ai ((s.take i).drop a)) (aZ:=16) hA (vn l) rfl aCu aCu aCv;have ab:dy 1 [ai ((s.take i).drop a)]=some (.sl [ai ((s.take i).drop a)] .exact):=rfl;refine lE ?_;refine b5 (λq=>?_) λq=>?_;refine wy ?_;refine⟨l++[(s.take i).drop a],bf,i+1,rfl,aCs,aCv,?_,aDb⟩;intro w hm
 rcases dN.1 hm with z|z
 exact hw w z;rw[cw.1 z];simp;omega;exact⟨l,ak,a,rfl,aCs,aCs,hw,hA⟩;rintro e h ⟨l,ak,a,rfl,ha,hl,hw,hA⟩;have ln:=BO hA;refine wy ?_;refine b5 (λq=>?_) λq=>?_;exact QU cX (zD.nil _ _);obtain⟨v',f1,f2⟩:=akK (m:=65536) (n:=65536) hA aCs hw;exact QU f1 f2
end
end
section
variable{v w:U}{l m:List Int}
def Gf(r:U):Prop:=∃l:List Int,bH r (l.map ag)/\l.length<=256/\∀x∈l,0<=x/\x<256
@[go_sem]def C0(l:List Int):bS 1 (l.map ag)=true:=by
 rw[bS,c7];intro x I;obtain⟨t,ht,rfl⟩:=cI.1 I;rfl
def PJ{J:List aa}(h:bU J v (l.map ag) 1 3)(Y:l.length<=256)(V:∀x∈l,0<=x/\x<256):∃k aM,b7 J k v=some aM/\Gf aM:=by
 rcases h with⟨rfl,z⟩|⟨id,rfl,_⟩
 obtain⟨n,hn⟩:=(cX:aW J _ _).done;exact⟨n,_,hn,[],az ⟨rfl,rfl⟩,aCt,aCt⟩;obtain⟨n,hn⟩:=(e5 (t:=.tok id) (fY (f:=ag) (l:=l) λa _=>aB _):aW J _ _).done;exact⟨n,_,hn,l,ax rfl,Y,V⟩
section
variable{G:Cells}
def ak1(c:Int):cC G ay 144 [.v (.int .u8 c)] hJ:=by
 refine cU (asa.go ?_);refine wy ?_;refine dx (UY c) ?_;refine wy ?_;cases O:(decide ((97:Int)<=c)&&decide (c<=122))<;>refine wy ?_
 all_goals repeat' refine ba (λq'=>?_) λq'=>?_
 all_goals exact gq _
def RD(hv:bH v (l.map ag))(hl:l.length<=1000000000)(x:Int):cC G ay 212 [v,ag x] hJ:=by
 refine cU (asy.go ?_);have ln:=hv.bL;rw[bX] at ln;refine wy ?_;refine b9 (λi e h=>e=[(0,v),(1,ag x),(5,ag i)]/\h=[]) l.length ⟨rfl,rfl⟩ ?_ ?_
 · rintro i e h Q ⟨rfl,rfl⟩
   obtain⟨s,hs⟩:=cF Q;have e1:bw 1 v (.v (.int .i64 (i:Int)))=some (.fp [ag s] 0):=hv.bC (x:=ag s) aFd rfl;unfold ag at e1;refine wy ?_
   repeat' refine ba (λq'=>?_) λq'=>?_
   exact gq _;exact⟨rfl,trivial⟩
 rintro e h ⟨rfl,rfl⟩;exact wy (gq _)
def axz(hv:bH v (l.map ag))(hw:bH w (m.map ag))(hl:l.length<=1000000000)(hm:m.length<=1000000000):cC G ay 29 [v,w] hJ:=by
 refine cU (ad9.go ?_);have ln:=hv.bL;rw[bX] at ln;have lm:=hw.bL;rw[bX] at lm;refine wy (bI (λq=>?_) λq=>?_);exact wy (gq _);have abi:l.length=m.length:=aCB
 refine wy ?_;refine b9 (λi e h=>e=[(0,v),(1,w),(5,ag i)]/\h=[]) l.length ⟨rfl,rfl⟩ ?_ ?_
 · rintro i e h Q ⟨rfl,rfl⟩
   obtain⟨s,hs⟩:=cF Q;obtain⟨t,ht⟩:∃s,m[i]?=some s:=⟨m[i],br aCs⟩;have e1:bw 1 v (.v (.int .i64 (i:Int)))=some (.fp [ag s] 0):=hv.bC (x:=ag s) aFd rfl;have e2:bw 1 w (.v (.int .i64 (i:Int)))=some (.fp [ag t] 0):=hw.bC (x:=ag t) (by simp[ht]) rfl;unfold ag at e1 e2;refine wy ?_
   repeat' refine ba (λq'=>?_) λq'=>?_
   exact gq _;exact⟨rfl,trivial⟩
 rintro e h ⟨rfl,rfl⟩;exact wy (gq _)
def aud(hv:bH v (l.map ag))(T:dm v)(hl:l.length<=1000000000):cC G ay 256 [v] Gf:=by
 refine cU (asJ.go ?_);refine wy ?_;refine b9 (λi e h=>∃(o:List Int) (ak:U),e=[(0,v),(3,ak),(4,ag i)]/\o.length<=i/\(∀x∈o,0<=x/\x<256)/\bU h ak (o.map ag) 1 3) 256 ⟨[],.af,rfl,aCt,aCt,p4 _ _ _⟩ ?_ ?_;rintro i e h Q ⟨o,ak,rfl,ho,I,hA⟩;obtain⟨bf,g,e1,dS,_⟩:=kQ (x:=ag i) (aZ:=8) hA (C0 o) rfl aCu aCu aCv;have P7:decide ((i:Int)<256)=true:=aCv
 unfold ag at e1;refine wy ?_;refine dh (RD hv hl i) ?_;rintro r ⟨b,rfl⟩;cases b with
 |false=>
  refine wy ?_;exact⟨o,ak,rfl,aCs,I,hA⟩
 |true=>
  refine wy ?_;refine⟨o++[(i:Int)],bf,rfl,aCv,?_,aDb⟩;intro x hm
  rcases dN.1 hm with z|z
  exact I x z;rw[cw.1 z];omega
 rintro e h ⟨o,ak,rfl,ho,I,hA⟩;have P7:decide (((256:Nat):Int)<256)=false:=aCu
 exact wy (PJ hA ho I)
def azm(hv:bH v (l.map ag))(hw:bH w (m.map ag))(T:dm v)(hd:dm w)(hl:l.length<=1000000000)(hm:m.length<=1000000000)(op:Int):cC G ay 152 [v,w,ag op] Gf:=by
 refine cU (ase.go ?_);refine wy ?_;refine b9 (λi e h=>∃(o:List Int) (ak:U),e=[(0,v),(1,w),(2,ag op),(7,ak),(8,ag i)]/\o.length<=i/\(∀x∈o,0<=x/\x<256)/\bU h ak (o.map ag) 1 3) 256 ⟨[],.af,rfl,aCt,aCt,p4 _ _ _⟩ ?_ ?_
 · rintro i e h Q ⟨o,ak,rfl,ho,I,hA⟩
   obtain⟨bf,g,e1,dS,_⟩:=kQ (x:=ag i) (aZ:=8) hA (C0 o) rfl aCu aCu aCv;have P7:decide ((i:Int)<256)=true:=aCv
   unfold ag at e1;refine wy ?_;refine dh (RD hv hl i) ?_;rintro r ⟨b,rfl⟩;refine wy ?_;refine dh (RD hw hm i) ?_;rintro r ⟨b2,rfl⟩;have no:∃(o:List Int) (gA:U),[(0,v),(1,w),(2,bO (.int .i64 op)),(7,ak),(8,bO (.int .i64 ((i+1:Nat):Int)))]=[(0,v),(1,w),(2,bO (.int .i64 op)),(7,gA),(8,bO (.int .i64 ((i+1:Nat):Int)))]/\o.length<=i+1/\(∀x∈o,0<=x/\x<256)/\bU h gA (o.map ag) 1 3:=⟨o,ak,rfl,aCs,I,hA⟩;have yes:∃(o:List Int) (gA:U),[(0,v),(1,w),(2,bO (.int .i64 op)),(7,bf),(8,bO (.int .i64 ((i+1:Nat):Int)))]=[(0,v),(1,w),(2,bO (.int .i64 op)),(7,gA),(8,bO (.int .i64 ((i+1:Nat):Int)))]/\o.length<=i+1/\(∀x∈o,0<=x/\x<256)/\bU g gA (o.map ag) 1 3:=by
    refine⟨o++[(i:Int)],bf,rfl,aCv,?_,aDb⟩;intro x hm
    rcases dN.1 hm with z|z
    exact I x z;rw[cw.1 z];omega
   cases b<;>cases b2<;>refine wy ?_
   all_goals repeat' ((refine ba (λq'=>?_) λq'=>?_)<;>refine nL @wm @e1 @Vn @vL @rK ?_)
   all_goals first
    |(exfalso;omega)
    |exact no
    |exact yes
 rintro e h ⟨o,ak,rfl,ho,I,hA⟩;have P7:decide (((256:Nat):Int)<256)=false:=aCu
 exact wy (PJ hA ho I)
end
end
end Go.Proofs.YtepejmecchhifaaGreatDoor

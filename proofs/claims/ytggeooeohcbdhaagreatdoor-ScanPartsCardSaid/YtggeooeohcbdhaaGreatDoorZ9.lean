/- Part 9 of a proof. No condition. -/
import Derived.Test.YtggeooeohcbdhaaGreatDoorZ8
set_option linter.unusedVariables false
set_option linter.unusedSimpArgs false
set_option linter.defProp false
open Bool renaming and_eq_true->dY,not_false->rS,not_true->vU
open Go.aJ.U renaming agg->bT,cells->gm,mp->bB,one->bn,v->bP
open Go.aJ.bX renaming nil->qa
open Go.aJ.aa renaming cells->aj,aT->iB
open Go.aJ.qf renaming mk->bA
open Go.aJ.aE renaming mono->aZ,pure->dx,avB->gf
open Go.aJ.fI renaming mono->e3
open Go.aJ.gP renaming mono->rT
open Go.aJ renaming Clean->dn,marks->DB
open Go.aJ.aX renaming agg->iO,af->cS,sl->fj,aK->dR,v->aB
open Go.aJ.dD renaming append->zk,cons->aA,map->gh,nil->bW
open Go.Fn renaming func->qM
open Go.IntKind renaming bits->F5,i64->b7,signed->F6,u64->DD,wrap->VW
open Go.Lib renaming lens->vW
open Go.Proofs.Tryz renaming prog->az
open Go.Proofs.YtggeooeohcbdhaaGreatDoor.Ext renaming app->jV,refl->Br
open Go.Proofs.YtggeooeohcbdhaaGreatDoor.gi renaming nil->uE
open Go.Value renaming int->uF
open List renaming all_cons->lD,all_eq_true->c_,all_nil->oy,append_assoc->cq,append_nil->e4,cons_append->jW,drop_of_length_le->sY,drop_succ_cons->x6,drop_zero->nk,eq_nil_of_length_eq_zero->lE,flatten_cons->v7,getElem?_append_right->er,getElem?_cons_zero->l6,getElem?_eq_getElem->br,getElem?_eq_none_iff->aje,getElem?_eq_some_iff->bE,getElem?_map->eC,getElem?_set_ne->av,getElem?_set_self->aR,getElem_mem->Wb,length_append->cB,length_cons->dm,length_drop->v_,length_map->b_,length_nil->fQ,length_set->rU,length_singleton->nq,map_append->eX,map_cons->eD,map_nil->kX,mem_append->dZ,mem_cons->ek,mem_cons_of_mem->qP,mem_cons_self->zw,mem_map->cO,mem_of_getElem?->bG,mem_of_mem_drop->uH,mem_or_eq_of_mem_set->Ga,mem_singleton->cr,nil_append->eR,not_mem_nil->oz,set_append_right->We,set_eq_take_append_cons_drop->ajm,sum_cons->wh,take_length->rV,take_of_length_le->kG,take_zero->qQ
open Nat renaming add_assoc->lF,add_zero->rW,eq_zero_or_pos->x8,le_refl->bl,le_trans->fk,lt_or_ge->cE,sub_self->kj,zero_add->e5,zero_le->ic,zero_lt_succ->x9
open Ne renaming symm->dr
open Or renaming inl->ay,inr->ax
open UInt8 renaming ofNat->rY
namespace Go.Proofs.YtggeooeohcbdhaaGreatDoor
open Go Go.aJ Go.RowKit
section
variable{a b k:Nat}{h:List aa}{x:U}{word:List UInt8}{has:Bool}
def cU(nm:List UInt8)(bp:U)(i p bf:Bool)(a:Int)(al:Bool)(mv:U)(ex:List UInt8):List U:=[ai nm,bp,i,p,bf,a,al,mv,ai ex]
def th(k:Nat)(h:List aa):Prop:=∃(nm:List UInt8) (bp:U) (i p bf:Bool) (a:Int) (al:Bool) (mv:U) (ex:List UInt8) (gs:List (List UInt8)),h[k]?=some (.cells (cU nm bp i p bf a al mv ex) false)/\bX h bp (gs.map ai) 1 9/\gs.length<=4/\gi 100001 mv/\ex.length<=40000
def l8(k:Nat)(h h':List aa):Prop:=h.length<=h'.length/\∀(j:Nat) b,j≠k->(∀c,b≠.tok c 1 9)->h[j]?=some b->h'[j]?=some b
def l8.refl(k:Nat)(h:List aa):l8 k h h:=⟨bl _,λ_ _ _ _ q=>q⟩
def l8.trans{a b c:List aa}(h:l8 k a b)(q:l8 k b c):l8 k a c:=⟨fk h.1 q.1,λj x hj hn e=>q.2 j x hj hn (h.2 j x hj hn e)⟩
def l8.set{x:aa}:l8 k h (h.set k x):=⟨aBI,λj b hj _ q=>aD9⟩
def l8.app{l:List aa}:l8 k h (h++l):=⟨aBI,λ_ _ _ _ q=>aM q⟩
section
variable{k:Nat}{h:List aa}{nm ex:List UInt8}{bp mv:U}{i p bf al:Bool}{a:Int}{gs:List (List UInt8)}
def hU{v:U}{xs:List U}{n:Nat}{e:TypeId}{cs cs':List U}(hA:bX h v xs n e)(hk:h[k]?=some (.cells cs false)):bX (h.set k (.cells cs' false)) v xs n e:=by
 rcases hA with z|⟨id,bh,z2⟩
 exact ay z;exact ax ⟨id,bh,by rw[av (by rintro rfl;rw[hk] at z2;cases z2)];exact z2⟩
@[go_sem]def sL(hb:h[k]?=some (.cells (cU nm bp i p bf a al mv ex) false)):aq h false 1 (.mp k 0)=some (ai nm)/\aq h false 1 (.mp k 1)=some bp/\aq h true 9 (.mp k 0)=some (.agg (cU nm bp i p bf a al mv ex)):=by
 simp only[aq,hb];exact⟨rfl,rfl,rfl⟩
@[go_sem]def afr(hb:h[k]?=some (.cells (cU nm bp i p bf a al mv ex) false))(x:Bool):aF h 1 (.mp k 2) x=some (h.set k (.cells (cU nm bp x p bf a al mv ex) false)):=aCg
@[go_sem]def afs(hb:h[k]?=some (.cells (cU nm bp i p bf a al mv ex) false))(x:Bool):aF h 1 (.mp k 3) x=some (h.set k (.cells (cU nm bp i x bf a al mv ex) false)):=aCg
@[go_sem]def aft(hb:h[k]?=some (.cells (cU nm bp i p bf a al mv ex) false))(x:Bool):aF h 1 (.mp k 4) x=some (h.set k (.cells (cU nm bp i p x a al mv ex) false)):=aCg
@[go_sem]def afu(hb:h[k]?=some (.cells (cU nm bp i p bf a al mv ex) false))(x:Int):aF h 1 (.mp k 5) x=some (h.set k (.cells (cU nm bp i p bf x al mv ex) false)):=aCg
@[go_sem]def TE(hb:h[k]?=some (.cells (cU nm bp i p bf a al mv ex) false))(x:Bool):aF h 1 (.mp k 6) x=some (h.set k (.cells (cU nm bp i p bf a x mv ex) false)):=aCg
@[go_sem]def afv(hb:h[k]?=some (.cells (cU nm bp i p bf a al mv ex) false))(x:List UInt8):aF h 1 (.mp k 8) (ai x)=some (h.set k (.cells (cU nm bp i p bf a al mv x) false)):=aCg
@[go_sem]def TF(hb:h[k]?=some (.cells (cU nm bp i p bf a al mv ex) false))(hx:bn x=true)(hc:x.cells=[x]):aF h 1 (.mp k 7) x=some (h.set k (.cells (cU nm bp i p bf a al x ex) false)):=by
 simp only[aF,hb,dJ,hc];simp[hx,putAt,cU]
@[go_sem]def TD(hb:h[k]?=some (.cells (cU nm bp i p bf a al mv ex) false))(hx:bn x=true)(hc:x.cells=[x]):aF h 1 (.mp k 1) x=some (h.set k (.cells (cU nm x i p bf a al mv ex) false)):=by
 simp only[aF,hb,dJ,hc];simp[hx,putAt,cU]
end
def DX(G:Cells)(f:FuncId):Prop:=∀(k:Nat) (s:List UInt8) (h:List aa),s.length<=100000->th k h->aE G az f [.mp k 0,ai s] h λr h'=>gW r/\th k h'/\l8 k h h'
section
variable{G:Cells}
def av6:DX G 214:=by
 rintro k s h hs ⟨nm,bp,i,p,bf,a,al,mv,ex,gs,hb,hA,hg,hm,he⟩;refine adA.go ?_;refine wx ?_;exact⟨⟨_,rfl⟩,⟨nm,bp,true,p,bf,a,al,mv,ex,gs,aR (gl hb),hU hA hb,hg,hm,he⟩,l8.set⟩
def av7:DX G 215:=by
 rintro k s h hs ⟨nm,bp,i,p,bf,a,al,mv,ex,gs,hb,hA,hg,hm,he⟩;refine adB.go ?_;refine wx ?_;exact⟨⟨_,rfl⟩,⟨nm,bp,i,true,bf,a,al,mv,ex,gs,aR (gl hb),hU hA hb,hg,hm,he⟩,l8.set⟩
def av8(bz:eE G)(hI:yf G):DX G 216:=by
 rintro k s h hs ⟨nm,bp,i,p,bf,a,al,mv,ex,gs,hb,hA,hg,hm,he⟩;refine adC.go ?_;refine wy ?_;refine aE.cY (ain bz hI s aBH) ?_;rintro r ⟨n,b,rfl,h1,h2⟩;refine wx ?_;exact⟨⟨_,rfl⟩,⟨nm,bp,i,p,bf,n,al,mv,ex,gs,aR (gl hb),hU hA hb,hg,hm,he⟩,l8.set⟩
def av9(bz:eE G):DX G 217:=by
 rintro k s h hs ⟨nm,bp,i,p,bf,a,al,mv,ex,gs,hb,hA,hg,hm,he⟩;refine adD.go ?_;refine wy ?_;refine aE.cY (aeO bz s hs) ?_;rintro r ⟨x,v,b,rfl,hv⟩;have gD:=aR (a:=.cells (cU nm bp i p bf a x mv ex) false) (gl hb);refine kg (TE hb) (TF gD hv.one.1 hv.one.2) ?_;exact⟨⟨_,rfl⟩,⟨nm,bp,i,p,bf,a,x,v,ex,gs,aR (gl gD),hU (hU hA hb) gD,hg,hv,he⟩,l8.set.trans l8.set⟩
def av5(bz:eE G):DX G 213:=by
 rintro k s h hs ⟨nm,bp,i,p,bf,a,al,mv,ex,gs,hb,hA,hg,hm,he⟩;refine adz.go ?_;obtain⟨v',y1,eg,jU⟩:=zN hA zZ;have ln:∀hp,bO bp hp=some (.v (.int .i64 (gs.length:Int)),hp):=λhp=>by
  rcases hA with⟨rfl,z⟩|⟨id,rfl,_⟩
  have:gs=[]:=aCa
  subst this;rfl;simp[nF,goInt]
 refine wy ?_;refine aE.cY (SD bz s aBH) ?_;rintro r ⟨b,rfl⟩;cases b with
 |false=>
  refine wy ?_;exact⟨⟨_,rfl⟩,⟨nm,bp,i,p,bf,a,al,mv,ex,gs,hb,hA,hg,hm,he⟩,l8.refl _ _⟩
 |true=>
  refine fC ((sL hb).2.1) ?_;refine aE.pu (G1 y1 jU aBH s) ?_;refine wy (bA (λq=>?_) λq=>?_);refine wy ?_;exact⟨⟨_,rfl⟩,⟨nm,bp,i,p,bf,a,al,mv,ex,gs,hb,hA,hg,hm,he⟩,l8.refl _ _⟩;refine kg @q ((sL hb).2.1) (bA (λah=>?_) λah=>?_);refine wy ?_;exact⟨⟨_,rfl⟩,⟨nm,bp,i,p,bf,a,al,mv,ex,gs,hb,hA,hg,hm,he⟩,l8.refl _ _⟩;have RW:gs.length<4:=aDp
  obtain⟨bg,g2,e2,dO,hne,hle,hk2⟩:=kL (x:=ai s) (aY:=16) hA (vv gs) rfl aBJ aBJ aBK;have gu:∀{j:Nat} {b:aa},h[j]?=some b->(∀c,b≠.tok c 1 9)->g2[j]?=some b:=λq hb=>hk2 _ _ q λxs z=>by
   rcases hA with⟨bh,_⟩|⟨id,bh,z2⟩
   rw[bh] at z;cases z;rw[bh] at z;cases z;rw[q] at z2;cases z2;exact hb _ rfl
  have gD:=gu hb aBI
  have ho:bn bg=true/\bg.cells=[bg]:=by rcases dO with⟨rfl,_⟩|⟨_,rfl,_⟩<;>exact⟨rfl,rfl⟩
  have ab:dA 1 [ai s]=some (.sl [ai s] .exact):=rfl;refine kg ((sL hb).2.1) (TD gD ho.1 ho.2) ?_;refine⟨⟨_,rfl⟩,⟨nm,bg,i,p,bf,a,al,mv,ex,gs++[s],aR (gl gD),?_,aBK,hm,he⟩,?_⟩;rw[eX];exact hU dO gD;exact l8.trans ⟨hle,λj b _ hn q=>gu q hn⟩ l8.set
def j8(w:List UInt8)(b:Bool)(f:FuncId):List U:=[ai w,b,.fn (.func f) [] []]
def AR:List (List U):=[j8 [103,114,111,117,112] true 213,j8 [105,110,108,105,110,101] false 214,j8 [112,105,99,107] false 215,j8 [97,116,116,114] true 216,j8 [109,97,114,107,115] true 217]
def TW(h:List aa):aE G az 154 [] h λr h'=>r=.sl (AR.map bT) .exact/\h'=h:=by
 refine ac4.go ?_;have f1:∀(w:List UInt8) (b:Bool) (f:FuncId),cm [.v (.string ⟨[].toArray⟩),false,.v .nilFunc] [(0,1,.v (.string ⟨w.toArray⟩)),(1,1,b),(2,1,.fn (.func f) [] [])]=some (j8 w b f):=λw b f=>rfl;have ab:dA 3 [.agg (j8 [103,114,111,117,112] true 213),.agg (j8 [105,110,108,105,110,101] false 214),.agg (j8 [112,105,99,107] false 215),.agg (j8 [97,116,116,114] true 216),.agg (j8 [109,97,114,107,115] true 217)]=some (.sl (AR.map bT) .exact):=rfl;exact wx tt
def aqM(ha:h[a]?=some (.cells [ai word] false))(hb:h[b]?=some (.cells [has] false))(w:List UInt8)(x:Bool)(f:FuncId):
  aE G az 155 [.agg (j8 w x f),.mp a 0,.mp b 0] h λr h'=>gW r/\h'=h++[.cells (j8 w x f) false]:=by
 refine ac5.go ?_;have m1:(h++[aj (j8 w x f) false])[h.length]?=some (.cells (j8 w x f) false):=aBI
 have l0:aq (h++[aj (j8 w x f) false]) false 1 (.mp h.length 0)=some (ai w)/\aq (h++[aj (j8 w x f) false]) false 1 (.mp h.length 1)=some (.v (.bool x)):=by
  simp only[aq,m1];exact⟨rfl,rfl⟩
 refine wy ?_;refine wy (bA (λq=>?_) λq=>?_);have e1:GF false (.v (.bool x)) (.v (.bool has))=some (.v (.bool (x==has))):=by cases x<;>cases has<;>rfl
 refine wx ?_;exact⟨⟨_,rfl⟩,trivial⟩;refine wx ?_;exact⟨⟨_,rfl⟩,trivial⟩
def aqy(ha:h[a]?=some (.cells [ai word] false))(hb:h[b]?=some (.cells [has] false)):
  aE G az 153 [.sl (AR.map bT) .exact,.fn (.func 155) [] [.mp a 0,.mp b 0]] h λr h'=>(∃n:Int,r=n/\(n<0\/∃j:Nat,n=(j:Int)/\j<5))/\∃l,h'=h++l:=by
 refine ac3.go ?_;refine wy ?_;refine cj (λi e g=>e=[(0,.sl (AR.map bT) .exact),(1,.fn (.func 155) [] [.mp a 0,.mp b 0]),(7,.v (.int .i64 5)),(8,ag i)]/\∃l,g=h++l) 5 ⟨rfl,[],aBI⟩ ?_ ?_;rintro i e g hi ⟨rfl,l,rfl⟩;have c1:decide ((i:Int)<5)=true:=aBK
 obtain⟨w,x,f,hx⟩:∃w x f,(AR.map bT)[i]?=some (.agg (j8 w x f)):=by
  match i,hi with
  |0,_=>exact⟨_,_,_,rfl⟩
  |1,_=>exact⟨_,_,_,rfl⟩
  |2,_=>exact⟨_,_,_,rfl⟩
  |3,_=>exact⟨_,_,_,rfl⟩
  |4,_=>exact⟨_,_,_,rfl⟩
 have e1:bu 3 (.sl (AR.map bT) .exact) i=some (.fp (j8 w x f) 0):=ku hx rfl;have e2:∀hp,aq hp true 3 (.fp (j8 w x f) 0)=some (.agg (j8 w x f)):=λhp=>rfl;refine wy (aZ (aqM (aM ha) (aM hb) w x f) ?_);rintro r g2 ⟨⟨y,rfl⟩,rfl⟩;cases y with
 |true=>
  refine wy ?_;exact⟨⟨_,rfl,ax ⟨i,rfl,hi⟩⟩,l++[.cells (j8 w x f) false],aCW⟩
 |false=>
  refine wx ?_;exact⟨rfl,l++[.cells (j8 w x f) false],aCW⟩
 rintro e g ⟨rfl,l,rfl⟩;have c1:decide (((5:Nat):Int)<5)=false:=rfl;refine wy ?_;exact⟨⟨_,rfl,ay aBJ⟩,l,rfl⟩
end
end
section
variable{ex nm:List UInt8}{bp mv:U}{al i bf p:Bool}{a:Int}{k:Nat}{h:List aa}
def r0(x:List U):Prop:=∃nm bp i p bf a al mv ex,x=cU nm bp i p bf a al mv ex/\gi 4 bp/\gi 100001 mv/\ex.length<=40000
def Pj(r:U):Prop:=∃(x:List U) (b:Bool),r=.aK [.agg x,b]/\r0 x
def I3{hp:List aa}{b:Bool}{gs:List (List UInt8)}(hA:bX hp bp (gs.map ai) 1 9)(hg:gs.length<=4)(hm:gi 100001 mv)(he:ex.length<=40000):
  ∃n aQ,b9 hp n (.aK [.agg (cU nm bp i p bf a al mv ex),b])=some aQ/\Pj aQ:=by
 obtain⟨v',bh,z2⟩:=PL hA hg;obtain⟨n,hn⟩:=(dR (aA (iO (aA (aB _) (aA bh (aA (aB _) (aA (aB _) (aA (aB _) (aA (aB _) (aA (aB _) (aA (hm.fz hp) (aA (aB _) bW)))))))))) (aA (aB (.bool b)) bW)):aX hp (.aK [.agg (cU nm bp i p bf a al mv ex),b]) _).done;exact⟨n,_,hn,_,b,rfl,nm,v',i,p,bf,a,al,mv,ex,rfl,z2,hm,he⟩
def th.app{x:List aa}(s:th k h):th k (h++x):=by
 obtain⟨nm,bp,i,p,bf,a,al,mv,ex,gs,hb,hA,hr⟩:=s;exact⟨nm,bp,i,p,bf,a,al,mv,ex,gs,aM hb,hA.ext,hr⟩
def th.sP{j:Nat}{b b':aa}(s:th k h)(hj:h[j]?=some b)(hb:∀c,b≠.tok c 1 9)(hk:j≠k):th k (h.set j b'):=by
 obtain⟨nm,bp,i,p,bf,a,al,mv,ex,gs,hb',hA,hr⟩:=s;refine⟨nm,bp,i,p,bf,a,al,mv,ex,gs,by rw[av hk];exact hb',?_,hr⟩
 rcases hA with z|⟨id,bh,z2⟩
 exact ay z;exact ax ⟨id,bh,by rw[av (by rintro rfl;rw[hj] at z2;cases z2;exact hb _ rfl)];exact z2⟩
@[go_sem]def ue{cs x:List U}(hb:h[k]?=some (.cells cs false))(hc:cs.length=9)(hx:x.length=9)(h1:x.all bn=true):aF h 9 (.mp k 0) (.agg x)=some (h.set k (.cells x false)):=by
 have e:(bT x).cells=x:=rfl;simp only[aF,hb,dJ];rw[e,if_pos ⟨hx,aBH,h1⟩];unfold putAt;rw[qQ,eR,e5,hx,sY aBH,e4]
def C0(hg:bn bp=true)(hm:bn mv=true):(cU nm bp i p bf a al mv ex).all bn=true:=by
 simp only[cU,lD,oy,hg,hm];rfl
def eV:List U:=cU [] .af false false false 0 false .af []
structure KG(ls:List (List UInt8)):Prop where
 each:∀w∈ls,w.length<=100000
 all:∀n,vW (ls.drop n)+(ls.drop n).length<=1000000
 len:ls.length<=100000
section
variable{G:Cells}
def auR(bz:eE G)(hI:yf G){ls:List (List UInt8)}(hW:KG ls)(h2:2<=ls.length):cx G az 87 [.sl (ls.map ai) .no] Pj:=by
 refine cR (acp.go ?_);have hlen:=hW.len;obtain⟨n1,mZ⟩:∃n,ls[1]?=some n:=⟨ls[1],br aBH⟩;have e1:bu 1 (.sl (ls.map ai) .no) (1:Int)=some (.fp [ai n1] 0):=ku (i:=1) (x:=ai n1) (by simp[mZ]) rfl;have f1:∀x:List UInt8,cm eV [(0,1,ai x),(4,1,true)]=some (cU x .af false false true 0 false .af []):=λx=>rfl;have f0:cm eV []=some eV:=rfl;have hz:[bP (.string ⟨[].toArray⟩),.af,false,false,false,(0:Int),false,.af,.v (.string ⟨[].toArray⟩)]=eV:=rfl;have s1:aF [.cells eV false,.cells eV false] 9 (.mp 1 0) (.agg (cU n1 .af false false true 0 false .af []))=some [.cells eV false,.cells (cU n1 .af false false true 0 false .af []) false]:=ue (k:=1) rfl rfl rfl rfl;have cut:∀(n:Nat) (hp:List aa),n<=ls.length->p0 1 (.sl (ls.map ai) .no) (some (.v (.int .i64 (n:Int)))) none none hp=some (.sl ((ls.drop n).map ai) .no,hp):=λn hp hn=>by
  rw[List.map_drop];exact NY aDP Og hp
 have YM:=λhp=>cut 2 hp h2;have alb:((2:Nat):Int)=2:=rfl;rw[alb] at YM;have l2:(ls.drop 2).length=ls.length-2:=v_ ..;refine wy ?_;refine cj (λi e h=>e=[(0,.sl (ls.map ai) .no),(2,.mp 0 0),(4,.mp 1 0),(5,.ey 2),(21,.sl ((ls.drop 2).map ai) .no),(22,ag ((ls.length-2:Nat):Int)),(23,ag i)]/\h[0]?=some (.cells eV false)/\th 1 h/\∃es bw,h[2]?=some (.cL es bw)/\BF es) (ls.length-2)
  ⟨rfl,rfl,⟨n1,.af,false,false,true,0,false,.af,[],[],rfl,ay ⟨rfl,rfl⟩,aBJ,uE _,aBJ⟩,[],0,rfl,λe he=>by cases he⟩ ?_ ?_
 rintro i e h hi ⟨rfl,h0,hN,es,bw,hm,hM⟩;obtain⟨w,hw⟩:∃w,(ls.drop 2)[i]?=some w:=⟨(ls.drop 2)[i]' aBH,br aBH⟩;have EV:w∈ls:=uH (bG hw);have Ax:=hW.each w EV;have e2:bu 1 (.sl ((ls.drop 2).map ai) .no) i=some (.fp [ai w] 0):=ku (x:=ai w) (by rw[eC,hw];rfl) rfl;refine wy ?_;refine b8 (λq=>?_) λq=>?_;have w3:b7.wrap ((i:Int)+3)=((i+3:Nat):Int):=by rw[wrap_i64 aBH aBH];rfl
 refine wy (gf (aqU (ls.drop (i+3)) (hW.all _)) (aP (n6 (ay rfl)) bS) ?_);rintro r ⟨t,rfl,ht⟩;refine wy ?_;refine aE.cY (T7 bz t (fk ht (hW.all _))) ?_;rintro r ⟨v,ND,wU,rfl,hq⟩;obtain⟨ps,hE⟩:∃ps,qk v ps:=by
  rcases hq with⟨_,_,ps,hE⟩|⟨_,rfl⟩
  exact⟨ps,hE⟩;exact⟨[],ax ⟨rfl,rfl⟩,λi p h=>aBR,aBJ,aBI⟩
 refine wy (gf (axm bz hE) (aP (BS hE) bS) ?_);rintro r ⟨tx,rfl,abu⟩;obtain⟨nm,bp,i1,p1,bf,a,al,mv,ex,gs,hb,hA,hg,jv,he⟩:=hN;have fU:=aR (a:=.cells (cU nm bp i1 p1 false a al mv ex) false) (gl hb)
 have ho:bn bp=true:=aBV
 have mV:((h.set 1 (.cells (cU nm bp i1 p1 false a al mv ex) false)).set 1 (.cells (cU nm bp i1 p1 false a al mv tx) false))[0]?=some (.cells eV false):=by rw[av aBH,av aBH];exact h0
 have kU:=ue mV rfl (x:=cU nm bp i1 p1 false a al mv tx) rfl (C0 ho jv.one.1);exact wx (I3 (hU (hU (hU hA hb) fU) mV) hg jv abu);refine aE.cY (YN w 61 aBH) ?_;rintro r ⟨a,b,f,rfl,hal,L9⟩;have mW:3<=h.length:=by have:=(gl hm);omega
 have n2:aF (h++[aj [.v (.string ⟨[].toArray⟩)] false]++[aj [false] false]) 1 (.mp h.length 0) (ai a)=some (h++[aj [ai a] false]++[aj [false] false]):=by
  rw[ou (w:=ai a) rfl (v:=.v (.string ⟨[].toArray⟩)) aBI];simp
 have mz:aF (h++[aj [ai a] false]++[aj [false] false]) 1 (.mp (h.length+1) 0) f=some (h++[aj [ai a] false]++[aj [f] false]):=by
  have:=Ob (h++[aj [ai a] false]) false (x:=f) rfl rfl;simpa using this
 have ka:(h++[aj [ai a] false]++[aj [f] false])[h.length]?=some (.cells [ai a] false):=aBI
 have kb:(h++[aj [ai a] false]++[aj [f] false])[h.length+1]?=some (.cells [f] false):=aBI
 have sw:(h++[aj [ai a] false]++[aj [f] false])[0]?=some (.cells eV false):=aM (aM h0);have mY:(h++[aj [ai a] false]++[aj [f] false])[2]?=some (.cL es bw):=aM (aM hm);have hN1:th 1 (h++[aj [ai a] false]++[aj [f] false]):=hN.app.app;refine kg @cB.{0} @e5 ?_;generalize h++[aj [ai a] false]++[aj [f] false]=g at ka kb sw mY hN1⊢;generalize h.length=m at ka kb mW⊢;refine aZ (TW g) ?_;rintro r g' ⟨rfl,rfl⟩;refine wy (aZ (aqy ka kb) ?_);rintro r g2 ⟨⟨dQ,rfl,apA⟩,lx,rfl⟩;have aee:(g'++lx)[m]?=some (.cells [ai a] false):=aM ka;have mV:(g'++lx)[0]?=some (.cells eV false):=aM sw;have hm2:(g'++lx)[2]?=some (.cL es bw):=aM mY;have gM:th 1 (g'++lx):=hN1.app;generalize g'++lx=g3 at aee mV hm2 gM⊢;obtain⟨nl,bQ⟩:=CU hm2 hM a;obtain⟨ju,gX,cC,pK⟩:=MX hm2 hM a (b7.wrap (nl+1));refine wy ?_;have aef:(g3.set 2 (.cL ju gX))[m]?=some (.cells [ai a] false):=by rw[av aBH];exact aee
 have B7:(g3.set 2 (.cL ju gX))[0]?=some (.cells eV false):=by rw[av aBH];exact mV
 have Cp:(g3.set 2 (.cL ju gX))[2]?=some (.cL ju gX):=aR (gl hm2);have Ag:th 1 (g3.set 2 (.cL ju gX)):=gM.sP hm2 aBI aBH;generalize g3.set 2 (.cL ju gX)=g4 at aef B7 Cp Ag⊢;have iK:=ue B7 rfl (x:=eV) rfl rfl;have k0:=aR (a:=.cells eV false) (gl B7);have sJ:aq (g4.set 0 (.cells eV false)) true 9 (.mp 0 0)=some (.agg eV):=(sL k0).2.2;have bad:∃n aQ,b9 (g4.set 0 (.cells eV false)) n (.aK [.agg eV,false])=some aQ/\Pj aQ:=I3 (gs:=[]) (ay ⟨rfl,rfl⟩) aBJ (uE _) aBJ;obtain⟨Fa,iW⟩:=CU Cp pK a;have G8:ct .neq (ai a) (.v (.string ⟨[103,114,111,117,112].toArray⟩))=some (.v (.bool !(a==[103,114,111,117,112]))):=vt a [103,114,111,117,112];refine wy (bA (λq1=>?_) λq1=>?_);exact kf @q1 @f0 @iK @sJ bad;obtain⟨j,rfl,hj⟩:∃j:Nat,dQ=(j:Int)/\j<5:=by
  rcases apA with z|z
  simp at q1;omega;exact z
 obtain⟨Ow,oX,f6,ap_,hrd⟩:∃w x f,(AR.map bT)[j]?=some (.agg (j8 w x f))/\DX G f:=by
  match j,hj with
  |0,_=>exact⟨_,_,_,rfl,av5 bz⟩
  |1,_=>exact⟨_,_,_,rfl,av6⟩
  |2,_=>exact⟨_,_,_,rfl,av7⟩
  |3,_=>exact⟨_,_,_,rfl,av8 bz hI⟩
  |4,_=>exact⟨_,_,_,rfl,av9 bz⟩
 have sn:bu 3 (.sl (AR.map bT) .exact) (.v (.int .i64 (j:Int)))=some (.fp (j8 Ow oX f6) 0):=ku ap_ rfl;have CM:∀hp,aq hp false 1 (.fp (j8 Ow oX f6) 2)=some (.fn (.func f6) [] []):=λhp=>rfl;have jj:(decide ((1:Int)<Fa)=true/\(a==[103,114,111,117,112])=false)\/decide ((1:Int)<Fa)=false\/(decide ((1:Int)<Fa)=true/\(a==[103,114,111,117,112])=true):=by
  cases decide ((1:Int)<Fa)<;>cases(a==[103,114,111,117,112])<;>simp
 rcases jj with⟨hd,pN⟩|hd|⟨hd,pN⟩
 exact vS @q1 (c6 aef) @iW @hd @G8 @pN @f0 @iK @sJ bad;refine wy (aZ (TW g4) ?_);rintro r g' ⟨rfl,rfl⟩;refine wy (aZ (hrd 1 b g' aBH Ag) ?_);rintro r g5 ⟨⟨y,rfl⟩,HI,vc⟩;have n9:=vc.2 _ _ aBH aBI B7;have oa:=vc.2 _ _ aBH aBI Cp;cases y with
 |false=>
  refine wy ?_;exact I3 (gs:=[]) (ay ⟨rfl,rfl⟩) aBJ (uE _) aBJ
 |true=>
  refine dP ?_;exact⟨rfl,n9,HI,ju,gX,oa,pK⟩
 refine wy (aZ (TW g4) ?_);rintro r g' ⟨rfl,rfl⟩;refine wy (aZ (hrd 1 b g' aBH Ag) ?_);rintro r g5 ⟨⟨y,rfl⟩,HI,vc⟩;have n9:=vc.2 _ _ aBH aBI B7;have oa:=vc.2 _ _ aBH aBI Cp;cases y with
 |false=>
  refine wy ?_;exact I3 (gs:=[]) (ay ⟨rfl,rfl⟩) aBJ (uE _) aBJ
 |true=>
  refine dP ?_;exact⟨rfl,n9,HI,ju,gX,oa,pK⟩
 rintro e h ⟨rfl,h0,hN,es,bw,hm,hM⟩;obtain⟨nm,bp,i1,p1,bf,a,al,mv,ex,gs,hb,hA,hg,jv,he⟩:=hN
 have ho:bn bp=true:=aBV
 have kU:=ue h0 rfl (x:=cU nm bp i1 p1 bf a al mv ex) rfl (C0 ho jv.one.1);exact lC (I3 (hU hA h0) hg jv he)
end
end
def c7(nm:List UInt8)(v:Int)(al:Bool)(bv:U):List U:=[ai nm,v,al,bv]
def lJ(x:List U):Prop:=∃nm v al bv,x=c7 nm v al bv/\gi 100001 bv
def BG(r:U):Prop:=∃(x:List U) (b:Bool),r=.aK [.agg x,b]/\lJ x
def E9{hp:List aa}{nm:List UInt8}{v:Int}{al b:Bool}{bv:U}(hb:gi 100001 bv):∃n aQ,b9 hp n (.aK [.agg (c7 nm v al bv),b])=some aQ/\BG aQ:=by
 obtain⟨n,hn⟩:=(dR (aA (iO (aA (aB _) (aA (aB _) (aA (aB _) (aA (hb.fz hp) bW))))) (aA (aB (.bool b)) bW)):aX hp (.aK [.agg (c7 nm v al bv),b]) _).done;exact⟨n,_,hn,_,b,rfl,nm,v,al,bv,rfl,hb⟩
section
variable{k:Nat}{h:List aa}{nm:List UInt8}{v:Int}{al:Bool}{bv:U}
@[go_sem]def IV(hb:h[k]?=some (.cells (c7 nm v al bv) false)):aq h false 1 (.mp k 0)=some (ai nm)/\aq h true 4 (.mp k 0)=some (.agg (c7 nm v al bv)):=by
 simp only[aq,hb];exact⟨rfl,rfl⟩
@[go_sem]def M4(hb:h[k]?=some (.cells (c7 nm v al bv) false))(x:Int):aF h 1 (.mp k 1) x=some (h.set k (.cells (c7 nm x al bv) false)):=aCg
@[go_sem]def M5(hb:h[k]?=some (.cells (c7 nm v al bv) false))(x:Bool):aF h 1 (.mp k 2) x=some (h.set k (.cells (c7 nm v x bv) false)):=aCg
@[go_sem]def M6(hb:h[k]?=some (.cells (c7 nm v al bv) false)){x:U}(hx:bn x=true)(hc:x.cells=[x]):aF h 1 (.mp k 3) x=some (h.set k (.cells (c7 nm v al x) false)):=by
 simp only[aF,hb,dJ,hc];simp[hx,putAt,c7]
@[go_sem]def xE{cs x:List U}(hb:h[k]?=some (.cells cs false))(hc:cs.length=4)(hx:x.length=4)(h1:x.all bn=true):aF h 4 (.mp k 0) (.agg x)=some (h.set k (.cells x false)):=by
 have e:(bT x).cells=x:=rfl;simp only[aF,hb,dJ];rw[e,if_pos ⟨hx,aBH,h1⟩];unfold putAt;rw[qQ,eR,e5,hx,sY aBH,e4]
def Tt(hb:bn bv=true):(c7 nm v al bv).all bn=true:=by
 simp only[c7,lD,oy,hb];rfl
end
def dX:List U:=c7 [] 0 false .af
section
variable{G:Cells}
def auf(bz:eE G)(hI:yf G){ls:List (List UInt8)}(hW:KG ls)(h2:2<=ls.length):cx G az 90 [.sl (ls.map ai) .no] BG:=by
 refine cR (acs.go ?_);have hlen:=hW.len;obtain⟨n1,mZ⟩:∃n,ls[1]?=some n:=⟨ls[1],br aBH⟩;have e1:bu 1 (.sl (ls.map ai) .no) (1:Int)=some (.fp [ai n1] 0):=ku (i:=1) (x:=ai n1) (by simp[mZ]) rfl;have f1:∀x:List UInt8,cm dX [(0,1,ai x)]=some (c7 x 0 false .af):=λx=>rfl;have f0:cm dX []=some dX:=rfl;have hz:[bP (.string ⟨[].toArray⟩),(0:Int),false,.af]=dX:=rfl;have s1:aF [.cells dX false,.cells dX false] 4 (.mp 1 0) (.agg (c7 n1 0 false .af))=some [.cells dX false,.cells (c7 n1 0 false .af) false]:=xE (k:=1) rfl rfl rfl rfl;have YM:∀hp,p0 1 (.sl (ls.map ai) .no) (some (.v (.int .i64 2))) none none hp=some (.sl ((ls.drop 2).map ai) .no,hp):=λhp=>by
  rw[List.map_drop];exact NY (i:=2) aBY Og hp
 have l2:(ls.drop 2).length=ls.length-2:=v_ ..;refine wy ?_;refine cj (λi e h=>e=[(2,.mp 0 0),(4,.mp 1 0),(5,.ey 2),(18,.sl ((ls.drop 2).map ai) .no),(19,ag ((ls.length-2:Nat):Int)),(20,ag i)]/\h[0]?=some (.cells dX false)/\(∃x,h[1]?=some (.cells x false)/\lJ x)/\∃es bw,h[2]?=some (.cL es bw)/\BF es) (ls.length-2)
  ⟨rfl,rfl,⟨_,rfl,n1,0,false,.af,rfl,uE _⟩,[],0,rfl,λe he=>by cases he⟩ ?_ ?_
 rintro i e h hi ⟨rfl,h0,⟨x,h1,nm,v,al,bv,rfl,tO⟩,es,bw,hm,hM⟩;obtain⟨w,hw⟩:∃w,(ls.drop 2)[i]?=some w:=⟨(ls.drop 2)[i]' aBH,br aBH⟩;have EV:w∈ls:=uH (bG hw);have Ax:=hW.each w EV;have e2:bu 1 (.sl ((ls.drop 2).map ai) .no) i=some (.fp [ai w] 0):=ku (x:=ai w) (by rw[eC,hw];rfl) rfl;refine wy ?_;refine aE.cY (YN w 61 aBH) ?_;rintro r ⟨a,b,f,rfl,hal,L9⟩;have HE:=gl h1;refine wy ?_;refine b8 (λq=>?_) λq=>?_;refine aE.cY (ain bz hI b aBH) ?_;rintro r ⟨n,ok,rfl,_,_⟩;have st:=M4 h1 n;have vb:(h.set 1 (.cells (c7 nm n al bv) false))[1]?=some (.cells (c7 nm n al bv) false):=aR HE;have n9:(h.set 1 (.cells (c7 nm n al bv) false))[0]?=some (.cells dX false):=by rw[av aBH];exact h0
 have oa:(h.set 1 (.cells (c7 nm n al bv) false))[2]?=some (.cL es bw):=by rw[av aBH];exact hm
 refine wy ?_;generalize h.set 1 (.cells (c7 nm n al bv) false)=g5 at vb n9 oa⊢;obtain⟨sK,v5,r_,pq,L_,qp⟩:∃sK v5 r_ pq,gi 100001 pq/\c7 nm n al bv=c7 sK v5 r_ pq:=⟨_,_,_,_,tO,rfl⟩;rw[qp] at vb;obtain⟨nl,bQ⟩:=CU oa hM a;obtain⟨ju,gX,cC,pK⟩:=MX oa hM a (b7.wrap (nl+1));have sx:(g5.set 2 (.cL ju gX))[0]?=some (.cells dX false):=by rw[av aBH];exact n9
 have B8:(g5.set 2 (.cL ju gX))[1]?=some (.cells (c7 sK v5 r_ pq) false):=by rw[av aBH];exact vb
 have tS:(g5.set 2 (.cL ju gX))[2]?=some (.cL ju gX):=aR (gl oa);refine wy ?_;generalize g5.set 2 (.cL ju gX)=g6 at sx B8 tS⊢;obtain⟨Fa,iW⟩:=CU tS pK a;have iK:=xE sx rfl (x:=dX) rfl rfl;have k0:=aR (a:=.cells dX false) (gl sx);have sJ:aq (g6.set 0 (.cells dX false)) true 4 (.mp 0 0)=some (.agg dX):=(IV k0).2;have bad:∃n aQ,b9 (g6.set 0 (.cells dX false)) n (.aK [.agg dX,false])=some aQ/\BG aQ:=E9 (uE _);cases f with
 |false=>
  exact fB @f0 @iK @sJ bad
 |true=>
  cases ok with
  |false=>
   exact fB @f0 @iK @sJ bad
  |true=>
   refine wy ?_;refine b8 (λjQ=>?_) λjQ=>?_;refine fB @f0 @iK @sJ ?_;exact bad;exact⟨rfl,sx,⟨_,B8,sK,v5,r_,pq,rfl,L_⟩,ju,gX,tS,pK⟩
 refine b8 (λah=>?_) λah=>?_;refine aE.cY (aeO bz b aBH) ?_;rintro r ⟨fq,eU,ok,rfl,ry⟩;have st:=M5 h1 fq;have anU:=aR (a:=.cells (c7 nm v fq bv) false) HE;have vJ:=M6 anU ry.one.1 ry.one.2;have vb:((h.set 1 (.cells (c7 nm v fq bv) false)).set 1 (.cells (c7 nm v fq eU) false))[1]?=some (.cells (c7 nm v fq eU) false):=aR (by simpa using HE);have n9:((h.set 1 (.cells (c7 nm v fq bv) false)).set 1 (.cells (c7 nm v fq eU) false))[0]?=some (.cells dX false):=by rw[av aBH,av aBH];exact h0
 have oa:((h.set 1 (.cells (c7 nm v fq bv) false)).set 1 (.cells (c7 nm v fq eU) false))[2]?=some (.cL es bw):=by rw[av aBH,av aBH];exact hm
 refine wy ?_;generalize(h.set 1 (.cells (c7 nm v fq bv) false)).set 1 (.cells (c7 nm v fq eU) false)=g5 at vb n9 oa⊢;obtain⟨sK,v5,r_,pq,L_,qp⟩:∃sK v5 r_ pq,gi 100001 pq/\c7 nm v fq eU=c7 sK v5 r_ pq:=⟨_,_,_,_,ry,rfl⟩;rw[qp] at vb;obtain⟨nl,bQ⟩:=CU oa hM a;obtain⟨ju,gX,cC,pK⟩:=MX oa hM a (b7.wrap (nl+1));have sx:(g5.set 2 (.cL ju gX))[0]?=some (.cells dX false):=by rw[av aBH];exact n9
 have B8:(g5.set 2 (.cL ju gX))[1]?=some (.cells (c7 sK v5 r_ pq) false):=by rw[av aBH];exact vb
 have tS:(g5.set 2 (.cL ju gX))[2]?=some (.cL ju gX):=aR (gl oa);refine wy ?_;generalize g5.set 2 (.cL ju gX)=g6 at sx B8 tS⊢;obtain⟨Fa,iW⟩:=CU tS pK a;have iK:=xE sx rfl (x:=dX) rfl rfl;have k0:=aR (a:=.cells dX false) (gl sx);have sJ:aq (g6.set 0 (.cells dX false)) true 4 (.mp 0 0)=some (.agg dX):=(IV k0).2;have bad:∃n aQ,b9 (g6.set 0 (.cells dX false)) n (.aK [.agg dX,false])=some aQ/\BG aQ:=E9 (uE _);cases f with
 |false=>
  exact fB @f0 @iK @sJ bad
 |true=>
  cases ok with
  |false=>
   exact fB @f0 @iK @sJ bad
  |true=>
   refine wy ?_;refine b8 (λjQ=>?_) λjQ=>?_;refine fB @f0 @iK @sJ ?_;exact bad;exact⟨rfl,sx,⟨_,B8,sK,v5,r_,pq,rfl,L_⟩,ju,gX,tS,pK⟩
 obtain⟨g5,Cm⟩:∃g5,g5=h:=⟨h,rfl⟩;obtain⟨sK,v5,r_,pq,L_,qp⟩:∃sK v5 r_ pq,gi 100001 pq/\c7 nm v al bv=c7 sK v5 r_ pq:=⟨_,_,_,_,tO,rfl⟩;have vb:=h1;have n9:=h0;have oa:=hm;rw[qp] at vb;refine wy ?_;rw[<-Cm] at vb n9 oa⊢;obtain⟨nl,bQ⟩:=CU oa hM a;obtain⟨ju,gX,cC,pK⟩:=MX oa hM a (b7.wrap (nl+1));have sx:(g5.set 2 (.cL ju gX))[0]?=some (.cells dX false):=by rw[av aBH];exact n9
 have B8:(g5.set 2 (.cL ju gX))[1]?=some (.cells (c7 sK v5 r_ pq) false):=by rw[av aBH];exact vb
 have tS:(g5.set 2 (.cL ju gX))[2]?=some (.cL ju gX):=aR (gl oa);refine kE @bQ @cC ?_;generalize g5.set 2 (.cL ju gX)=g6 at sx B8 tS⊢;have iK:=xE sx rfl (x:=dX) rfl rfl;have k0:=aR (a:=.cells dX false) (gl sx);have sJ:aq (g6.set 0 (.cells dX false)) true 4 (.mp 0 0)=some (.agg dX):=(IV k0).2;have bad:∃n aQ,b9 (g6.set 0 (.cells dX false)) n (.aK [.agg dX,false])=some aQ/\BG aQ:=E9 (uE _);cases f with
 |false=>
  exact kf @rS @f0 @iK @sJ bad
 |true=>
  exact nP @vU @rS @f0 @iK @sJ bad
 rintro e h ⟨rfl,h0,⟨x,h1,nm,v,al,bv,rfl,tO⟩,es,bw,hm,hM⟩;have kU:=xE h0 rfl (x:=c7 nm v al bv) rfl (Tt tO.one.1);exact lC (E9 tO)
end
section
variable{v:U}{xs:List (List U)}{k n:Nat}{x z:List U}{g h h':List aa}{a b:List UInt8}
def o9(v:U)(xs:List (List U)):Prop:=(v=.af/\xs=[])\/∃t,v=.sl (xs.map bT) t
@[go_sem]def o9.len(h:o9 v xs)(hp:List aa):bO v hp=some (.v (.int .i64 (xs.length:Int)),hp):=by
 rcases h with⟨rfl,rfl⟩|⟨t,rfl⟩
 rfl;simp[nF,goInt]
@[go_sem]def o9.bK(h:o9 v xs){i:Nat}(hx:xs[i]?=some x)(hn:x.length=n):bu n v i=some (.fp x 0):=by
 rcases h with⟨rfl,rfl⟩|⟨t,rfl⟩
 simp at hx;exact ku (x:=.agg x) aBU hn
@[go_sem]def o9.eG(hn:x.length=n)(hp:List aa):aq hp true n (.fp x 0)=some (.agg x):=by
 show dB true n x 0=_;unfold dB;rw[if_pos rfl,if_pos aBH,nk,kG aBH]
structure q2(h:List aa)(q:U)(x:List U):Prop where
 nl:uZ q=some q
 ne:∀neg,oC .ptr neg q (.v (.pointer none))=some (.v (.bool neg))
 fa:∀o,∃Jn,je o q=some Jn/\(∀o2,je o2 Jn=je (o+o2) q)/\∀g,Ext h g->∀y,x[o]?=some y->aq g false 1 Jn=some y
 eG:∀g,Ext h g->aq g true x.length q=some (.agg x)
def q2.ext{q:U}(s:q2 h q x)(he:Ext h h'):q2 h' q x:=
 ⟨s.nl,s.ne,λo=>by obtain⟨Jn,h1,h3,h2⟩:=s.fa o;exact⟨Jn,h1,h3,λg hg=>h2 g λj b q=>hg j b (he j b q)⟩,λg hg=>s.eG g λj b q=>hg j b (he j b q)⟩
@[go_sem]def Ub(x:List U):dB true x.length x 0=some (.agg x):=by
 unfold dB;rw[if_pos rfl,if_pos aBH,nk,rV]
def q2.fp(h:List aa)(x:List U):q2 h (.fp x 0) x:=
 ⟨rfl,λneg=>Uc x 0 neg,λo=>⟨.fp x (0+o),rfl,λo2=>by simp only[je,e5,lF],λg _ y hy=>by rw[e5];exact hy⟩,λg _=>Ub x⟩
def q2.mp{h:List aa}{k:Nat}{x:List U}(hk:h[k]?=some (.cells x false)):q2 h (.mp k 0) x:=
 ⟨rfl,λneg=>Ud k 0 neg,λo=>⟨.mp k (0+o),rfl,λo2=>by simp only[je,e5,lF],λg hg y hy=>by
  have:=hg _ _ hk;simp only[aq,this];rw[e5];exact hy⟩,λg hg=>by
  have:=hg _ _ hk;simp only[aq,this];exact Ub x⟩
structure l_(n:Nat)(h:List aa)(v:U)(xs:List (List U)):Prop where
 len:∀g,bO v g=some (.v (.int .i64 (xs.length:Int)),g)
 bK:∀(i:Nat) x,xs[i]?=some x->∃q,bu n v i=some q/\q2 h q x
 el:∀x∈xs,x.length=n
def l_.ext(s:l_ n h v xs)(he:Ext h h'):l_ n h' v xs:=
 ⟨s.len,λi x hx=>by obtain⟨q,h1,h2⟩:=s.bK i x hx;exact⟨q,h1,h2.ext he⟩,s.el⟩
def l_.slc(h:List aa)(hv:o9 v xs)(hn:∀x∈xs,x.length=n):l_ n h v xs:=
 ⟨hv.len,λi x hx=>⟨_,hv.bK hx (hn x (bG hx)),q2.fp h x⟩,hn⟩
def l_.row(hr:gJ n h k v xs):l_ n h v xs:=
 ⟨hr.len,λi x hx=>⟨_,hr.bK (gl hx),by
  have rC:=(hr.each x (bG hx)).1;have kp:∀g,Ext h g->gJ n g k v xs:=λg hg=>hr.keep λcs q=>hg _ _ q;refine⟨Dj _ _ _,λneg=>?_,λo=>⟨_,y6 o _ _ _,λo2=>by simp only[je,lF],λg hg y hy=>?_⟩,λg hg=>?_⟩;cases neg<;>rfl;exact(kp g hg).fy hx (by have:=(gl hy);omega) hy;have:=(kp g hg).S3 (o:=0) (w:=n) hx aBH;rw[rW,nk,kG aBH] at this;rw[rC];exact this⟩,λx hx=>(hr.each x hx).1⟩
def O_(n:Nat)(r:U):Prop:=∃m:Int,r=m/\(m= -1\/∃j:Nat,m=(j:Int)/\j<n)
section
variable{G:Cells}{v y:U}{xs:List (List U)}{h:List aa}
def aqz(hv:l_ 9 h v xs)(hl:xs.length<=100000)(iI:∀x∈xs,∀g,Ext h g->gP G az y [.agg x] g λr g'=>gW r/\∃l,g'=g++l):
  aE G az 156 [v,y] h λr h'=>O_ xs.length r/\∃l,h'=h++l:=by
 refine ac6.go ?_;refine fC @hv.len ?_;refine cj (λi e g=>e=[(0,v),(1,y),(7,ag xs.length),(8,ag i)]/\∃l,g=h++l) xs.length ⟨rfl,[],aBI⟩ ?_ ?_;rintro i e g hi ⟨rfl,l,rfl⟩;obtain⟨x,hx⟩:=cD hi;have rC:=hv.el x (bG hx);obtain⟨q,h1,h2⟩:=hv.bK i x hx;have h3:=h2.eG (h++l) jV;rw[rC] at h3;refine wy (rT (iI x (bG hx) _ jV) ?_);rintro r g2 ⟨⟨b,rfl⟩,l2,rfl⟩;cases b with
 |true=>
  refine wy ?_;exact⟨⟨_,rfl,ax ⟨i,rfl,hi⟩⟩,l++l2,aCW⟩
 |false=>
  refine wx ?_;exact⟨rfl,l++l2,aCW⟩
 rintro e g ⟨rfl,l,rfl⟩;refine wy ?_;exact⟨⟨_,rfl,ay rfl⟩,l,rfl⟩
def abG(hv:l_ 4 h v xs)(hl:xs.length<=100000)(iI:∀x∈xs,∀g,Ext h g->gP G az y [.agg x] g λr g'=>gW r/\∃l,g'=g++l):
  aE G az 95 [v,y] h λr h'=>O_ xs.length r/\∃l,h'=h++l:=by
 refine acz.go ?_;refine fC @hv.len ?_;refine cj (λi e g=>e=[(0,v),(1,y),(7,ag xs.length),(8,ag i)]/\∃l,g=h++l) xs.length ⟨rfl,[],aBI⟩ ?_ ?_;rintro i e g hi ⟨rfl,l,rfl⟩;obtain⟨x,hx⟩:=cD hi;have rC:=hv.el x (bG hx);obtain⟨q,h1,h2⟩:=hv.bK i x hx;have h3:=h2.eG (h++l) jV;rw[rC] at h3;refine wy (rT (iI x (bG hx) _ jV) ?_);rintro r g2 ⟨⟨b,rfl⟩,l2,rfl⟩;cases b with
 |true=>
  refine wy ?_;exact⟨⟨_,rfl,ax ⟨i,rfl,hi⟩⟩,l++l2,aCW⟩
 |false=>
  refine wx ?_;exact⟨rfl,l++l2,aCW⟩
 rintro e g ⟨rfl,l,rfl⟩;refine wy ?_;exact⟨⟨_,rfl,ay rfl⟩,l,rfl⟩
def aqI(hk:g[k]?=some (.cells z false))(hx:x[0]?=some (ai a))(hz:z[0]?=some (ai b)):
  gP G az (.fn (.func 89) [] [.mp k 0]) [.agg x] g λr g'=>gW r/\∃l,g'=g++l:=by
 show aE G az 89 [.agg x,.mp k 0] g _;refine acr.go ?_;refine wy ?_;exact⟨⟨_,rfl⟩,_,rfl⟩
def aqJ(hk:g[k]?=some (.cells z false))(hx:x[0]?=some (ai a))(hz:z[0]?=some (ai b)):
  gP G az (.fn (.func 92) [] [.mp k 0]) [.agg x] g λr g'=>gW r/\∃l,g'=g++l:=by
 show aE G az 92 [.agg x,.mp k 0] g _;refine acv.go ?_;refine wy ?_;exact⟨⟨_,rfl⟩,_,rfl⟩
def aks(hv:l_ 9 h v xs)(hl:xs.length<=100000)(iI:∀x∈xs,∀g,Ext h g->gP G az y [.agg x] g λr g'=>gW r/\∃l,g'=g++l):
  aE G az 88 [v,y] h λr h'=>gW r/\∃l,h'=h++l:=by
 refine acq.go ?_;refine wy (aZ (aqz hv hl iI) ?_);rintro r g ⟨⟨m,rfl,_⟩,l,rfl⟩;refine wy ?_;exact⟨⟨_,rfl⟩,l,rfl⟩
def akt(hv:l_ 4 h v xs)(hl:xs.length<=100000)(iI:∀x∈xs,∀g,Ext h g->gP G az y [.agg x] g λr g'=>gW r/\∃l,g'=g++l):
  aE G az 91 [v,y] h λr h'=>gW r/\∃l,h'=h++l:=by
 refine acu.go ?_;refine wy (aZ (abG hv hl iI) ?_);rintro r g ⟨⟨m,rfl,_⟩,l,rfl⟩;refine wy ?_;exact⟨⟨_,rfl⟩,l,rfl⟩
end
end
section
variable{h g:List aa}{k o n aY B:Nat}{e:TypeId}{cs xs:List U}{v x:U}
def wo(k n:Nat)(e:TypeId)(h g:List aa):Prop:=h.length<=g.length/\∀(j:Nat) b,h[j]?=some b->j≠k->(∀c,b≠.tok c n e)->g[j]?=some b
def wo.cells{j:Nat}{c:List U}{f:Bool}(q:wo k n e h g)(hb:h[j]?=some (.cells c f))(hj:j≠k):g[j]?=some (.cells c f):=q.2 _ _ hb hj aBI
def wo.zM{cs:List U}{m:Nat}{e':TypeId}{w:U}{ys:List U}(q:wo k n e h g)(hk:h[k]?=some (.cells cs false))(hw:bX h w ys m e')(hne:m≠n\/e'≠e):bX g w ys m e':=by
 rcases hw with z|⟨id,bh,z2⟩
 exact ay z;exact ax ⟨id,bh,q.2 _ _ z2 (by rintro rfl;rw[hk] at z2;cases z2) aDL⟩
def wo.own{cs:List U}{m B:Nat}{e':TypeId}{w:U}{ys:List U}(q:wo k n e h g)(hk:h[k]?=some (.cells cs false))(hw:jE B h w ys m e')(hne:m≠n\/e'≠e):jE B g w ys m e':=by
 rcases hw with z|⟨id,bh,z2,z3⟩
 exact ay z;exact ax ⟨id,bh,z2,q.2 _ _ z3 (by rintro rfl;rw[hk] at z3;cases z3) aDL⟩
def wo.jf(q:wo k n e h g):f_ k h g:=⟨q.1,λj c f hj hb=>q.cells hb hj⟩
@[go_sem]def Q8(hb:g[k]?=some (.cells cs false))(h1:bn v=true)(ho:o<cs.length):aF g 1 (.mp k o) v=some (g.set k (.cells (cs.set o v) false)):=PS hb h1 ho
def Hv(hA:bX h v xs n e)(hb:h[k]?=some (.cells cs false))(ho:o<cs.length)(fE:bV n xs=true)(TI:bV n [x]=true)(hn:0<n)(hy:0<aY)(hf:(xs.length+1)*aY<=140737488355328):
  ∃v' g,cG h n aY e v (.sl [x] .exact)=some (v',g)/\aF g 1 (.mp k o) v'=some (g.set k (.cells (cs.set o v') false))/\bn v'=true/\bX (g.set k (.cells (cs.set o v') false)) v' (xs++[x]) n e/\(g.set k (.cells (cs.set o v') false))[k]?=some (.cells (cs.set o v') false)/\wo k n e h (g.set k (.cells (cs.set o v') false)):=by
 obtain⟨v',g,e1,hB,_,hl,hk⟩:=kL hA fE TI hn hy hf;have gu:∀{j:Nat} {b:aa},h[j]?=some b->(∀c,b≠.tok c n e)->g[j]?=some b:=λq hn=>hk _ _ q λys z=>by
  rcases hA with⟨bh,_⟩|⟨id,bh,z2⟩
  rw[bh] at z;cases z;rw[bh] at z;cases z;rw[q] at z2;cases z2;exact hn _ rfl
 have kb:=gu hb aBI
 have o1:bn v'=true:=by rcases hB with⟨rfl,_⟩|⟨_,rfl,_⟩<;>rfl
 exact⟨v',g,e1,Q8 kb o1 ho,o1,hU hB kb,aR (gl kb),aB5,λj b q hj hn=>by rw[av (dr hj)];exact gu q hn⟩
def ZU(hA:jE B h v xs n e)(hB:B<=h.length)(hb:h[k]?=some (.cells cs false))(ho:o<cs.length)(fE:bV n xs=true)(TI:bV n [x]=true)(hn:0<n)(hy:0<aY)(hf:(xs.length+1)*aY<=140737488355328):
  ∃v' g,cG h n aY e v (.sl [x] .exact)=some (v',g)/\aF g 1 (.mp k o) v'=some (g.set k (.cells (cs.set o v') false))/\bn v'=true/\jE B (g.set k (.cells (cs.set o v') false)) v' (xs++[x]) n e/\(g.set k (.cells (cs.set o v') false))[k]?=some (.cells (cs.set o v') false)/\wo k n e h (g.set k (.cells (cs.set o v') false)):=by
 obtain⟨v',g,e1,hC,hl,hk⟩:=C6 hA hB fE TI hn hy hf;have gu:∀{j:Nat} {b:aa},h[j]?=some b->(∀c,b≠.tok c n e)->g[j]?=some b:=λq hn=>hk _ _ q λys z=>by
  rcases hA with bh|⟨id,bh,_,z2⟩
  rw[bh] at z;cases z;rw[bh] at z;cases z;rw[q] at z2;cases z2;exact hn _ rfl
 have kb:=gu hb aBI
 have o1:bn v'=true:=by rcases hC with rfl|⟨_,rfl,_⟩<;>rfl
 refine⟨v',g,e1,Q8 kb o1 ho,o1,?_,aR (gl kb),aB5,λj b q hj hn=>by rw[av (dr hj)];exact gu q hn⟩
 rcases hC with z|⟨id,bh,z2,z3⟩
 exact ay z;exact ax ⟨id,bh,z2,by rw[av (by rintro rfl;rw[kb] at z3;cases z3)];exact z3⟩
end
section
variable{x:List U}{n:Nat}{xs:List (List U)}{h:List aa}{v:U}{e:TypeId}
def r0.ok(h:r0 x):x.length=9/\x.all bn=true/\∃nm,x[0]?=some (ai nm):=by
 obtain⟨nm,bp,i,p,bf,a,al,mv,ex,rfl,hg,hm,_⟩:=h;exact⟨rfl,C0 hg.one.1 hm.one.1,nm,rfl⟩
def lJ.ok(h:lJ x):x.length=4/\x.all bn=true/\∃nm,x[0]?=some (ai nm):=by
 obtain⟨nm,v,al,bv,rfl,hb⟩:=h;exact⟨rfl,Tt hb.one.1,nm,rfl⟩
@[go_sem]def sM(h:∀x∈xs,x.length=n/\x.all bn=true):bV n (xs.map bT)=true:=by
 rw[bV,c_];intro y hy;obtain⟨x,hx,rfl⟩:=cO.1 hy;obtain⟨h1,h2⟩:=h x hx;simp only[gm,h1,h2,beq_self_eq_true,Bool.and_self]
def wI(hA:bX h v (xs.map bT) n e):o9 v xs:=by
 rcases hA with⟨q,z⟩|⟨id,q,_⟩
 exact ay ⟨q,aCa⟩;exact ax ⟨_,q⟩
structure qT(e1 e2:TypeId)(uN:List U->Prop)(k:Nat)(au mv:U)(nodes marks:List (List U))(h:List aa):Prop where
 b:h[k]?=some (.cells [au,mv] false)
 n:bX h au (nodes.map bT) 9 e1
 m:bX h mv (marks.map bT) 4 e2
 kC:∀x∈nodes,uN x
 eM:∀x∈marks,lJ x
 nl:nodes.length<=24
 ml:marks.length<=8
abbrev ajz:=qT 98 134 r0
def Kq(k:Nat)(h:List aa):Prop:=∃au mv nodes marks,ajz k au mv nodes marks h
section
variable{e1 e2:TypeId}{uN:List U->Prop}{k:Nat}{au mv:U}{nodes marks:List (List U)}{h:List aa}
def qT.app{x:List aa}(s:qT e1 e2 uN k au mv nodes marks h):qT e1 e2 uN k au mv nodes marks (h++x):=⟨aM s.b,s.n.ext,s.m.ext,s.kC,s.eM,s.nl,s.ml⟩
@[go_sem]def qT.eG(s:qT e1 e2 uN k au mv nodes marks h):aq h false 1 (.mp k 0)=some au/\aq h false 1 (.mp k 1)=some mv/\aq h true 2 (.mp k 0)=some (.agg [au,mv]):=by
 simp only[aq,s.b];exact⟨rfl,rfl,rfl⟩
def wH{xs:List U}(hA:bX h v xs n e):bn v=true/\v.cells=[v]:=by
 rcases hA with⟨rfl,_⟩|⟨_,rfl,_⟩<;>exact⟨rfl,rfl⟩
def qT.aga(s:qT e1 e2 uN k au mv nodes marks h)(hN:∀{x},uN x->x.length=9/\x.all bn=true/\∃nm,x[0]?=some (ai nm))(hx:uN x)(hl:nodes.length<24):
  ∃iJ g,cG h 9 104 e1 au (.sl [.agg x] .exact)=some (iJ,g)/\aF g 1 (.mp k 0) iJ=some (g.set k (.cells [iJ,mv] false))/\qT e1 e2 uN k iJ mv (nodes++[x]) marks (g.set k (.cells [iJ,mv] false))/\f_ k h (g.set k (.cells [iJ,mv] false)):=by
 obtain⟨iJ,g,e1,e2,_,hA,hb,q⟩:=Hv (x:=.agg x) (aY:=104) (o:=0) s.n s.b aBI (sM (n:=9) (xs:=nodes) λy hy=>⟨(hN (s.kC y hy)).1,(hN (s.kC y hy)).2.1⟩) (sM (xs:=[x]) λy hy=>by rw[cr.1 hy];exact⟨(hN hx).1,(hN hx).2.1⟩) aBJ aBJ aBK;exact⟨iJ,g,e1,e2,⟨hb,by rw[eX];exact hA,q.zM s.b s.m (ay aBJ),λy hy=>(dZ.1 hy).elim (s.kC y) λq=>aEt,s.eM,aBK,s.ml⟩,q.jf⟩
def qT.af_(s:qT e1 e2 uN k au mv nodes marks h)(hx:lJ x)(hl:marks.length<8):
  ∃lg g,cG h 4 56 e2 mv (.sl [.agg x] .exact)=some (lg,g)/\aF g 1 (.mp k 1) lg=some (g.set k (.cells [au,lg] false))/\qT e1 e2 uN k au lg nodes (marks++[x]) (g.set k (.cells [au,lg] false))/\f_ k h (g.set k (.cells [au,lg] false)):=by
 obtain⟨lg,g,e1,e2,_,hA,hb,q⟩:=Hv (x:=.agg x) (aY:=56) (o:=1) s.m s.b aBI (sM (n:=4) (xs:=marks) λy hy=>⟨(s.eM y hy).ok.1,(s.eM y hy).ok.2.1⟩) (sM (xs:=[x]) λy hy=>by rw[cr.1 hy];exact⟨hx.ok.1,hx.ok.2.1⟩) aBJ aBJ aBK;exact⟨lg,g,e1,e2,⟨hb,q.zM s.b s.n (ay aBJ),by rw[eX];exact hA,s.kC,λy hy=>(dZ.1 hy).elim (s.eM y) λq=>aEt,s.nl,aBK⟩,q.jf⟩
@[go_sem]def I4(h:List aa)(hx:x.length=9)(h1:x.all bn=true):aF (h++[aj eV false]) 9 (.mp h.length 0) (.agg x)=some (h++[aj x false]):=by
 rw[ue (k:=h.length) (cs:=eV) aBI rfl hx h1];simp
@[go_sem]def Ts(h:List aa)(hx:x.length=4)(h1:x.all bn=true):aF (h++[aj dX false]) 4 (.mp h.length 0) (.agg x)=some (h++[aj x false]):=by
 rw[xE (k:=h.length) (cs:=dX) aBI rfl hx h1];simp
end
section
variable{G:Cells}
def aj6(bz:eE G)(hI:yf G){k:Nat}(iY:Kq k h){ls:List (List UInt8)}(hW:KG ls):
  aE G az 47 [.mp k 0,.sl (ls.map ai) .no] h λr h'=>(∃e:Int,r=e)/\Kq k h'/\f_ k h h':=by
 obtain⟨au,mv,nodes,marks,hS⟩:=iY;refine ab3.go ?_;have hlen:=hW.len;have keep:(∃e:Int,bP (.int .i64 2)=.v (.int .i64 e))/\Kq k h/\f_ k h h:=⟨⟨2,rfl⟩,⟨au,mv,nodes,marks,hS⟩,f_.refl _ _⟩;have Iw:[bP (.string ⟨[].toArray⟩),.af,.v (.bool false),.v (.bool false),.v (.bool false),.v (.int .i64 0),.v (.bool false),.af,.v (.string ⟨[].toArray⟩)]=eV:=rfl;have aby:[bP (.string ⟨[].toArray⟩),.v (.int .i64 0),.v (.bool false),.af]=dX:=rfl;refine wy ?_;refine b8 (λq=>?_) λq=>?_;exact keep;have h2:2<=ls.length:=aBQ
 obtain⟨w1,hw1⟩:∃n,ls[1]?=some n:=⟨ls[1],br aBH⟩;obtain⟨w0,hw0⟩:∃n,ls[0]?=some n:=⟨ls[0],br aBH⟩;have e1:bu 1 (.sl (ls.map ai) .no) (1:Int)=some (.fp [ai w1] 0):=ku (i:=1) (x:=ai w1) (by simp[hw1]) rfl;have e0:bu 1 (.sl (ls.map ai) .no) (0:Int)=some (.fp [ai w0] 0):=ku (i:=0) (x:=ai w0) (by simp[hw0]) rfl;refine wy ?_;refine aE.cY (SD bz w1 (by have:=hW.each w1 (bG hw1);omega)) ?_;rintro r ⟨b,rfl⟩;cases b with
 |false=>
  exact dP keep
 |true=>
  refine wy ?_;refine b8 (λavR=>?_) λavR=>?_;refine gf (auR bz hI hW h2) (aP (n6 (ay rfl)) bS) ?_;rintro r ⟨x,ok,rfl,hx⟩;obtain⟨hx1,hx2,nm,hnm⟩:=hx.ok;have nn:=I4 h hx1 hx2;have dy:=hS.app (x:=[aj x false]);have kx:(h++[aj x false])[h.length]?=some (.cells x false):=aBI
  have n_:f_ k h (h++[aj x false]):=f_.app;refine wy ?_;generalize h.length=m at kx⊢;generalize h++[aj x false]=g at dy kx n_⊢;cases ok with
  |false=>
   refine dP ?_;exact⟨⟨_,rfl⟩,⟨_,_,_,_,dy⟩,n_⟩
  |true=>
   refine wy ?_;refine b8 (λavT=>?_) λavT=>?_;exact⟨⟨_,rfl⟩,⟨_,_,_,_,dy⟩,n_⟩;refine aZ (aks (l_.slc _ (wI dy.n) λy hy=>(hS.kC y hy).ok.1) (by have:=hS.nl;omega) λy hy g2 h_=>aqI (h_ _ _ kx) (hS.kC y hy).ok.2.2.choose_spec hnm) ?_;rintro r g2 ⟨⟨b,rfl⟩,l2,rfl⟩;have eB:=dy.app (x:=l2);have CL:(g++l2)[m]?=some (.cells x false):=aM kx;have pJ:f_ k h (g++l2):=n_.trans f_.app;generalize g++l2=g3 at eB CL pJ⊢;cases b with
   |true=>
    refine dP ?_;exact⟨⟨_,rfl⟩,⟨_,_,_,_,eB⟩,pJ⟩
   |false=>
    refine kg @eB.eG.1 ((wI eB.n).len) (bA (λjQ=>?_) λjQ=>?_);refine di @jQ ?_;exact⟨⟨_,rfl⟩,⟨_,_,_,_,eB⟩,pJ⟩;have apj:nodes.length<24:=by have:=eB.nl;simp at jQ;omega
    obtain⟨iJ,g4,p1,p2,p3,fW⟩:=eB.aga r0.ok hx apj;have lx:aq g3 true 9 (.mp m 0)=some (.agg x):=by
     simp only[aq,CL];unfold dB;rw[if_pos rfl,if_pos aBH,nk,kG aBH]
    have ab:dA 9 [.agg x]=some (.sl [.agg x] .exact):=by
     have:=sM (n:=9) (xs:=[x]) λy hy=>aCC
     simp only[eD,kX] at this;simp[dA,this]
    refine wx ?_;exact⟨⟨_,rfl⟩,⟨_,_,_,_,p3⟩,pJ.trans fW⟩
  refine b8 (λxI=>?_) λxI=>?_;refine gf (auf bz hI hW h2) (aP (n6 (ay rfl)) bS) ?_;rintro r ⟨x,ok,rfl,hx⟩;obtain⟨hx1,hx2,nm,hnm⟩:=hx.ok;have nn:=Ts h hx1 hx2;have dy:=hS.app (x:=[aj x false]);have kx:(h++[aj x false])[h.length]?=some (.cells x false):=aBI
  have n_:f_ k h (h++[aj x false]):=f_.app;refine wy ?_;generalize h.length=m at kx⊢;generalize h++[aj x false]=g at dy kx n_⊢;cases ok with
  |false=>
   refine dP ?_;exact⟨⟨_,rfl⟩,⟨_,_,_,_,dy⟩,n_⟩
  |true=>
   refine wx (aZ (akt (l_.slc _ (wI dy.m) λy hy=>(hS.eM y hy).ok.1) (by have:=hS.ml;omega) λy hy g2 h_=>aqJ (h_ _ _ kx) (hS.eM y hy).ok.2.2.choose_spec hnm) ?_);rintro r g2 ⟨⟨b,rfl⟩,l2,rfl⟩;have eB:=dy.app (x:=l2);have CL:(g++l2)[m]?=some (.cells x false):=aM kx;have pJ:f_ k h (g++l2):=n_.trans f_.app;generalize g++l2=g3 at eB CL pJ⊢;cases b with
   |true=>
    refine dP ?_;exact⟨⟨_,rfl⟩,⟨_,_,_,_,eB⟩,pJ⟩
   |false=>
    refine kg @eB.eG.2.1 ((wI eB.m).len) (bA (λjQ=>?_) λjQ=>?_);refine di @jQ ?_;exact⟨⟨_,rfl⟩,⟨_,_,_,_,eB⟩,pJ⟩;have apl:marks.length<8:=by have:=eB.ml;simp at jQ;omega
    obtain⟨lg,g4,p1,p2,p3,fW⟩:=eB.af_ hx apl;have lx:aq g3 true 4 (.mp m 0)=some (.agg x):=by
     simp only[aq,CL];unfold dB;rw[if_pos rfl,if_pos aBH,nk,kG aBH]
    have ab:dA 4 [.agg x]=some (.sl [.agg x] .exact):=by
     have:=sM (n:=4) (xs:=[x]) λy hy=>aCC
     simp only[eD,kX] at this;simp[dA,this]
    refine wx ?_;exact⟨⟨_,rfl⟩,⟨_,_,_,_,p3⟩,pJ.trans fW⟩
  exact keep
end
end
section
variable{x:List U}{h hp:List aa}{k:Nat}{a b:U}
def aeK:∀(l:List (List UInt8)) (n:Nat),vW (l.drop n)+(l.drop n).length<=vW l+l.length
 |l,0=>aBI
 |[],n+1=>aBI
 |x::r,n+1=>by
  have:=aeK r n;simp only[x6,vW,dm,eD,wh] at this⊢;omega
def ahD(c:Nat):∀s:List UInt8,vW (gz c s)+(gz c s).length=s.length+1
 |[]=>by simp[gz,vW]
 |b::r=>by
  have ih:=ahD c r;unfold gz;split;simp only[vW,dm,eD,wh,fQ] at ih⊢;omega;split;rename_i he;rw[he] at ih;simp[vW] at ih;rename_i h t he;rw[he] at ih;simp only[vW,dm,eD,wh] at ih⊢;omega
def ay_{s:List UInt8}(hs:s.length<=70000)(c:Nat):KG (gz c s):=by
 obtain⟨h1,h2⟩:=JE c s;have h3:=ahD c s;exact⟨λw hw=>by have:=h2 w hw;omega,λn=>by have:=aeK (gz c s) n;omega,aBH⟩
def ajC(au mv:U):Prop:=∃nodes marks:List (List U),bL au (nodes.map bT)/\bL mv (marks.map bT)/\(∀x∈nodes,r0 x)/\(∀x∈marks,lJ x)/\nodes.length<=24/\marks.length<=8
def Ww(r:U):Prop:=∃(au mv:U) (a e:Int),r=.aK [.agg [au,mv],ag a,ag e]/\ajC au mv
def r0.fz(h:r0 x)(hp:List aa):aX hp (.agg x) (.agg x):=by
 obtain⟨nm,bp,i,p,bf,a,al,mv,ex,rfl,hg,hm,_⟩:=h;exact iO (aA (aB _) (aA (hg.fz hp) (aA (aB _) (aA (aB _) (aA (aB _) (aA (aB _) (aA (aB _) (aA (hm.fz hp) (aA (aB _) bW)))))))))
def lJ.fz(h:lJ x)(hp:List aa):aX hp (.agg x) (.agg x):=by
 obtain⟨nm,v,al,bv,rfl,hb⟩:=h;exact iO (aA (aB _) (aA (aB _) (aA (aB _) (aA (hb.fz hp) bW))))
def agJ{v:U}{xs:List (List U)}{n:Nat}{e:TypeId}(hA:bX hp v (xs.map bT) n e)(hx:∀x∈xs,aX hp (.agg x) (.agg x)):∃v',aX hp v v'/\bL v' (xs.map bT):=by
 rcases hA with⟨rfl,z⟩|⟨id,rfl,_⟩
 exact⟨_,cS,ax ⟨rfl,z⟩⟩;exact⟨_,fj (gh hx),ay rfl⟩
def Qs(a e:Int):∃n aQ,b9 hp n (.aK [.agg [.af,.af],a,e])=some aQ/\Ww aQ:=by
 obtain⟨n,hn⟩:=(dR (aA (iO (aA cS (aA cS bW))) (aA (aB (.int .i64 a)) (aA (aB (.int .i64 e)) bW))):aX hp _ _).done;exact⟨n,_,hn,.af,.af,a,e,rfl,[],[],ax ⟨rfl,rfl⟩,ax ⟨rfl,rfl⟩,aBI,aBI,aBJ,aBJ⟩
@[go_sem]def Vl{cs:List U}(hb:h[k]?=some (.cells cs false))(hc:cs.length=2)(ha:bn a=true)(gD:bn b=true):aF h 2 (.mp k 0) (.agg [a,b])=some (h.set k (.cells [a,b] false)):=by
 have e:(bT [a,b]).cells=[a,b]:=rfl;simp only[aF,hb,dJ];rw[e,if_pos ⟨rfl,aBH,by simp[ha,gD]⟩];unfold putAt;rw[qQ,eR,e5,sY aBK,e4]
@[go_sem]def ayL(hb:h[k]?=some (.cells [a,b] false)):aq h true 2 (.mp k 0)=some (.agg [a,b]):=by
 simp only[aq,hb];rfl
def atJ(s:List UInt8):∃v a e,E1 s=(v,a,e)/\(e≠0\/(e=0/\∃ls:List (List UInt8),bL v (ls.map ai)/\ls.length<=65537/\∀l∈ls,l.length<=65536)):=by
 obtain⟨h1,h2⟩:=JE 10 s;unfold E1;split;exact⟨_,_,_,rfl,ay aBJ⟩;split;exact⟨_,_,_,rfl,ax ⟨rfl,[],ax ⟨rfl,rfl⟩,aBJ,aBI⟩⟩;split;refine⟨_,_,_,rfl,ax ⟨rfl,_,ay rfl,by rw[List.length_dropLast];omega,λl hl=>?_⟩⟩;have:=h2 l ((List.dropLast_sublist _).subset hl);omega;exact⟨_,_,_,rfl,ay aBJ⟩
section
variable{G:Cells}
def avo(bz:eE G)(hI:yf G)(s:List UInt8)(hs:s.length<=1000000):cx G az 27 [ai s] Ww:=by
 refine cR (ad5.go ?_);obtain⟨v,a,e,aa_,hq⟩:=atJ s;have sp:=atH bz s aBH;rw[aa_] at sp;refine wy ?_;refine aE.pu sp ?_;refine wy ?_
 rcases hq with he|⟨rfl,ls,hv,hl1,fu⟩
 have q:(e !=0)=true:=aCM
 exact wy (Qs _ _);have ln:=hv.bO;rw[b_] at ln;refine wy ?_;refine cj (λi e h=>e=[(2,.mp 0 0),(8,.mp 1 0),(24,v),(25,ag ls.length),(26,ag i)]/\h[0]?=some (.cells [.af,.af] false)/\Kq 1 h) ls.length ⟨rfl,rfl,.af,.af,[],[],rfl,ay ⟨rfl,rfl⟩,ay ⟨rfl,rfl⟩,aBI,aBI,aBJ,aBJ⟩ ?_ ?_;rintro i e h hi ⟨rfl,h0,iY⟩;obtain⟨w,hw⟩:=cD hi;have Ax:=fu w (bG hw);have e1:bu 1 v i=some (.fp [ai w] 0):=hv.bK (x:=ai w) aCS rfl;refine wy ?_;refine aE.pu (axL bz w aBH) ?_;by_cases hw0:w=[];subst hw0;have e0:uw []=(.af,0):=rfl;rw[e0];have atO:∀hp,bO .af hp=some (.v (.int .i64 0),hp):=λhp=>rfl;have c0:decide ((0:Int)<0)=false:=rfl;refine fB @ag.eq_1 @atO @c0 ?_;exact⟨trivial,h0,iY⟩;by_cases hok:(gz 32 w).all Be=true;have e0:uw w=(.sl ((gz 32 w).map ai) .no,0):=by unfold uw;rw[if_neg hw0,if_pos hok]
 rw[e0];refine wy ?_;refine b8 (λq=>?_) λq=>?_;refine aZ (aj6 bz hI iY (ay_ aBH 32)) ?_;rintro r g ⟨⟨e,rfl⟩,w7,hB⟩;have mV:=hB.2 _ _ _ aBJ h0;refine wy ?_;refine b8 (λah=>?_) λah=>?_;exact Qs _ _;exact⟨rfl,mV,w7⟩;exact⟨rfl,h0,iY⟩;have e0:uw w=(.af,2):=by unfold uw;rw[if_neg hw0,if_neg hok]
 rw[e0];exact wy (Qs _ _);rintro e h ⟨rfl,h0,au,mv,nodes,marks,hS⟩;have kU:=Vl h0 rfl (wH hS.n).1 (wH hS.m).1;refine lC ?_;obtain⟨iJ,bh,z2⟩:=agJ (hp:=h.set 0 (.cells [au,mv] false)) (hU hS.n h0) λx hx=>(hS.kC x hx).fz _;obtain⟨lg,z3,z4⟩:=agJ (hp:=h.set 0 (.cells [au,mv] false)) (hU hS.m h0) λx hx=>(hS.eM x hx).fz _;obtain⟨n,hn⟩:=(dR (aA (iO (aA bh (aA z3 bW))) (aA (aB (.int .i64 0)) (aA (aB (.int .i64 0)) bW)))).done;exact⟨n,_,hn,iJ,lg,0,0,rfl,nodes,marks,z2,z4,hS.kC,hS.eM,hS.nl,hS.ml⟩
end
end
section
variable{x:List U}{k:Nat}{g:List aa}{a b:List UInt8}
def mQ(x:List U):Prop:=∃(y:List U) (b:Bool) (bC:U),x=y++[.v (.bool b),bC]/\r0 y/\(bC=.v (.pointer none)\/yd bC)
structure qn(h:List aa)(p au mv:U)(rows marks:List (List U)):Prop where
 pp:q2 h p [au,mv]
 rr:l_ 11 h au rows
 qC:l_ 4 h mv marks
 rc:∀x∈rows,mQ x
 eM:∀x∈marks,lJ x
 rl:rows.length<=24
 ml:marks.length<=8
def qn.ext{h h':List aa}{p au mv:U}{rows marks:List (List U)}(s:qn h p au mv rows marks)(he:Ext h h'):qn h' p au mv rows marks:=⟨s.pp.ext he,s.rr.ext he,s.qC.ext he,s.rc,s.eM,s.rl,s.ml⟩
def mQ.at(h:mQ x):∃nm bp i p bf a al mv ex b bC,x=[ai nm,bp,.v (.bool i),.v (.bool p),.v (.bool bf),.v (.int .i64 a),.v (.bool al),mv,ai ex,.v (.bool b),bC]/\gi 4 bp/\gi 100001 mv/\ex.length<=40000/\(bC=.v (.pointer none)\/yd bC):=by
 obtain⟨y,b,bC,rfl,⟨nm,bp,i,p,bf,a,al,mv,ex,rfl,h1,h2,h3⟩,h4⟩:=h;exact⟨nm,bp,i,p,bf,a,al,mv,ex,b,bC,rfl,h1,h2,h3,h4⟩
section
variable{G:Cells}{h:List aa}{p au mv:U}{rows marks:List (List U)}
def aik(s:qn h p au mv rows marks):aE G az 146 [p] h λr h'=>r=.v (.int .i64 (rows.length:Int))/\h'=h:=by
 refine SH.go ?_;obtain⟨q0,f0,_,l0⟩:=s.pp.fa 0;have SY:=l0 h (Br h) au rfl;exact ze @s.pp.ne @s.pp.nl @s.rr.len tt
def ajv(h:List aa)(rows:List (List U))(t:Int)(r:U):Prop:=(r=.v (.pointer none)/\(t<1\/(rows.length:Int)<t))\/∃(i:Nat) (x:List U),t=(i:Int)+1/\rows[i]?=some x/\q2 h r x
def XK(s:qn h p au mv rows marks)(t:Int):aE G az 37 [p,.v (.int .i64 t)] h λr h'=>ajv h rows t r/\h'=h:=by
 refine MH.go ?_;have hrl:=s.rl;obtain⟨q0,f0,_,l0⟩:=s.pp.fa 0;have SY:=l0 h (Br h) au rfl;refine fC @s.pp.ne ?_;refine b8 (λq=>?_) λq=>?_;exact⟨ay ⟨rfl,ay aBN⟩,trivial⟩;refine kg @s.pp.nl @s.rr.len ?_;refine b8 (λah=>?_) λah=>?_;exact⟨ay ⟨rfl,ax aB8⟩,trivial⟩;obtain⟨i,rfl⟩:∃i:Nat,t=(i:Int)+1:=⟨(t-1).toNat,aBQ⟩;have hi:i<rows.length:=aDp
 obtain⟨x,hx⟩:=cD hi;obtain⟨NG,h1,h2⟩:=s.rr.bK i x hx;have w1:b7.wrap ((i:Int)+1-1)=(i:Int):=by rw[wrap_i64 aBH aBH];omega
 refine fC @s.pp.nl ?_;exact⟨ax ⟨i,x,rfl,hx,h2⟩,trivial⟩
def aqD(s:qn h p au mv rows marks)(t:Int):aE G az 17 [p,.v (.int .i64 t)] h λr h'=>gW r/\h'=h:=by
 refine SG.go ?_;refine wy (aZ (XK s t) ?_);rintro r g ⟨ha,rfl⟩;refine fC @s.pp.ne ?_;refine b8 (λq=>?_) λq=>?_;exact⟨⟨_,rfl⟩,trivial⟩
 rcases ha with⟨rfl,_⟩|⟨i,x,rfl,hx,hp⟩
 refine wx ?_;exact⟨⟨_,rfl⟩,trivial⟩;obtain⟨nm,bp,i1,p1,bf,a,al,rD,ex,b,bC,rfl,_⟩:=(s.rc x (bG hx)).at
 obtain⟨q0,f0,amC,_⟩:=hp.fa 0;obtain⟨ah,f2,_,l2⟩:=hp.fa 2;have aBd:=l2 g (Br g) _ rfl;refine ze @q @hp.ne @hp.nl ?_;exact⟨⟨_,rfl⟩,trivial⟩
def aqK(hk:g[k]?=some (.cells [ai b] false))(hx:x[0]?=some (ai a)):
  gP G az (.fn (.func 94) [] [.mp k 0]) [.agg x] g λr g'=>gW r/\∃l,g'=g++l:=by
 show aE G az 94 [.agg x,.mp k 0] g _;refine acy.go ?_;refine wy ?_;exact⟨⟨_,rfl⟩,_,rfl⟩
def aqL(hk:g[k]?=some (.cells [ai b] false))(hx:x[0]?=some (ai a)):
  gP G az (.fn (.func 96) [] [.mp k 0]) [.agg x] g λr g'=>gW r/\∃l,g'=g++l:=by
 show aE G az 96 [.agg x,.mp k 0] g _;refine acA.go ?_;refine wy ?_;exact⟨⟨_,rfl⟩,_,rfl⟩
def aqx{y v:U}{xs:List (List U)}(hv:l_ 11 h v xs)(hl:xs.length<=100000)(iI:∀x∈xs,∀g,Ext h g->gP G az y [.agg x] g λr g'=>gW r/\∃l,g'=g++l):
  aE G az 93 [v,y] h λr h'=>O_ xs.length r/\∃l,h'=h++l:=by
 refine acw.go ?_;refine fC @hv.len ?_;refine cj (λi e g=>e=[(0,v),(1,y),(7,ag xs.length),(8,ag i)]/\∃l,g=h++l) xs.length ⟨rfl,[],aBI⟩ ?_ ?_;rintro i e g hi ⟨rfl,l,rfl⟩;obtain⟨x,hx⟩:=cD hi;have rC:=hv.el x (bG hx);obtain⟨q,h1,h2⟩:=hv.bK i x hx;have h3:=h2.eG (h++l) jV;rw[rC] at h3;refine wy (rT (iI x (bG hx) _ jV) ?_);rintro r g2 ⟨⟨b,rfl⟩,l2,rfl⟩;cases b with
 |true=>
  refine wy ?_;exact⟨⟨_,rfl,ax ⟨i,rfl,hi⟩⟩,l++l2,aCW⟩
 |false=>
  refine wx ?_;exact⟨rfl,l++l2,aCW⟩
 rintro e g ⟨rfl,l,rfl⟩;refine wy ?_;exact⟨⟨_,rfl,ay rfl⟩,l,rfl⟩
def ajB(n:Nat)(r:U):Prop:=∃(t:Nat) (b:Bool),r=.aK [.v (.int .i64 (t:Int)),.v (.bool b)]/\t<=n
def Zv(s:qn h p au mv rows marks)(w:List UInt8):aE G az 48 [p,ai w] h λr h'=>ajB rows.length r/\∃l,h'=h++l:=by
 refine ab4.go ?_;have hrl:=s.rl;have et:ct .eql (ai w) (.v (.string ⟨[116,101,120,116].toArray⟩))=some (.v (.bool (w==[116,101,120,116]))):=mj w [116,101,120,116];have k1:(h++[aj [ai w] false])[h.length]?=some (.cells [ai w] false):=aBI
 have s1:=s.ext (h':=h++[aj [ai w] false]) jV;obtain⟨q0,f0,_,l0⟩:=s1.pp.fa 0;have SY:=l0 _ (Br _) au rfl;refine fC @s.pp.ne ?_;generalize hg:h++[aj [ai w] false]=g at k1 s1 l0 SY⊢;refine kE (c6 k1) @et ?_;refine b8 (λq=>?_) λq=>?_;exact⟨⟨0,true,rfl,ic _⟩,_,hg.symm⟩;refine fC @s1.pp.nl ?_;refine aZ (aqx s1.rr aBH λx hx g2 h_=>?_) ?_;obtain⟨nm,bp,i1,p1,bf,a,al,rD,ex,b,bC,rfl,_⟩:=(s.rc x hx).at
 exact aqK (h_ _ _ k1) rfl;rintro r g2 ⟨⟨m,rfl,hm⟩,l,rfl⟩
 rcases hm with rfl|⟨j,rfl,hj⟩
 refine wy ?_;exact⟨⟨0,_,rfl,ic _⟩,[aj [ai w] false]++l,by rw[<-hg,cq]⟩;refine wy ?_;exact⟨⟨j+1,_,rfl,aBH⟩,[aj [ai w] false]++l,by rw[<-hg,cq]⟩
end
end
def wV(e:Int):List PanicEntry:=[{v:=.iface 84 (.agg #[.int .i64 e]),recovered:=false}]
def vp{G:Cells}(b:Bool)(e:Int)(hp:List aa):fI G az 28 [b,e] hp (λr h'=>b=true/\h'=hp) λch h'=>b=false/\ch=wV e/\h'=hp:=by
 refine ad6.w5 ?_;have f1:cm [.v (.int .i64 0)] [(0,1,.v (.int .i64 e))]=some [.v (.int .i64 e)]:=rfl;have c1:oD (.cQ 84 (.agg [e]))=some (.iface 84 (.agg #[.int .i64 e])):=rfl;cases b with
 |false=>
  refine wx ?_;exact⟨trivial,rfl,trivial⟩
 |true=>
  exact wx tt
section
variable{G:Cells}{h:List aa}{p au mv:U}{rows marks:List (List U)}
def amK(s:qn h p au mv rows marks)(w:List UInt8):aE G az 50 [p,ai w] h λr h'=>(∃(t:Int) (b:Bool),r=.aK [t,b])/\∃l,h'=h++l:=by
 refine ab6.go ?_;have hml:=s.ml;have k1:(h++[aj [ai w] false])[h.length]?=some (.cells [ai w] false):=aBI
 have s1:=s.ext (h':=h++[aj [ai w] false]) jV;obtain⟨q1,f1,_,l1⟩:=s1.pp.fa 1;have II:=l1 _ (Br _) mv rfl;have aBj:∀m:Int,nZ true [.v (.int .i64 m),.v (.int .i64 0)]=some (.v (.int .i64 (if(0:Int)>m then 0 else m))):=λm=>rfl;refine fC @s.pp.ne ?_;generalize hg:h++[aj [ai w] false]=g at k1 s1 l1 II⊢;refine fB @s1.pp.nl @f1 @II (aZ (abG s1.qC aBH λx hx g2 h_=>?_) ?_);obtain⟨nm,v,al,bv,rfl,_⟩:=s.eM x hx;exact aqL (h_ _ _ k1) rfl;rintro r g2 ⟨⟨m,rfl,hm⟩,l,rfl⟩;refine wy ?_;exact⟨⟨_,_,rfl⟩,[aj [ai w] false]++l,by rw[<-hg,cq]⟩
def asV(s:qn h p au mv rows marks){k:Nat}(hk:h[k]?=some (.cells [p] false))(w:List UInt8):aE G az 49 [ai w,.mp k 0] h λr h'=>gW r/\∃l,h'=h++l:=by
 refine ab5.go ?_;refine wy (aZ (amK s w) ?_);rintro r g ⟨⟨t,b,rfl⟩,l,rfl⟩;refine wy ?_;exact⟨⟨_,rfl⟩,l,rfl⟩
def oh(n:Nat):U:=ag (n:Int)
def anQ(s:qn h p au mv rows marks)(w:List UInt8):aE G az 100 [p,ai w] h λr h'=>(∃ts:List Nat,bL r (ts.map oh)/\(∀t∈ts,t<=24)/\ts.length<=24)/\h'=h:=by
 refine aE.Ql (acE.go ?_);have hrl:=s.rl;refine wy ?_;refine cj (λi e g=>∃ts ak,e=[(0,p),(1,ai w),(5,ak),(6,((i+1:Nat):Int))]/\Ext h g/\bX g ak (ts.map oh) 1 3/\(∀id,xN ak id->h.length<=id)/\(∀t∈ts,t<=24)/\ts.length<=i) rows.length ⟨[],.af,rfl,Br h,ay ⟨rfl,rfl⟩,λid ⟨_,q⟩=>aBT,aBI,ic _⟩ ?_ ?_;rintro i e g hi ⟨ts,ak,rfl,hE,hA,hid,ht,Cx⟩;have s1:=s.ext hE;refine wy (aZ (aik s1) ?_);rintro r g1 ⟨rfl,rfl⟩;refine wy (aZ (XK s1 ((i+1:Nat):Int)) ?_);rintro r g2 ⟨gY,rfl⟩;obtain⟨x,hx,hp⟩:∃x,rows[i]?=some x/\q2 g2 r x:=by
  rcases gY with⟨_,z⟩|⟨j,x,z,hx,hp⟩
  omega;obtain rfl:j=i:=aBH
  exact⟨x,hx,hp⟩
 obtain⟨nm,bp,i1,p1,bf,a,al,rD,ex,b,bC,rfl,Al,_⟩:=(s.rc x (bG hx)).at
 obtain⟨q0,f0,amC,_⟩:=hp.fa 0;obtain⟨q1,f1,_,l1⟩:=hp.fa 1;have II:=l1 g2 (Br _) bp rfl;obtain⟨gs,xj,ji⟩:=Al;have w2:b7.wrap (((i+1:Nat):Int)+1)=((i+1+1:Nat):Int):=jA aBH;refine fC @hp.nl (dx (G1 xj (n6 xj) aBH w) (aP (n6 xj) (aP (q9 _) bS)) ?_);refine wy (bA (λq=>?_) λq=>?_);have afJ:bV 1 (ts.map oh)=true:=by
  rw[bV,c_];intro y hy;obtain⟨t,_,rfl⟩:=cO.1 hy;rfl
 obtain⟨bD,g3,bQ,oJ,hne,hle,sC⟩:=kL (x:=oh (i+1)) (aY:=8) hA afJ rfl aBJ aBJ aBK;have ab:dA 1 [((i+1:Nat):Int)]=some (.sl [oh (i+1)] .exact):=rfl;refine wy ?_;refine⟨ts++[i+1],bD,rfl,λj b hb=>sC j b (hE j b hb) λxs e=>?_,by rw[eX];exact oJ,λid ⟨xs,e⟩=>?_,λt h=>?_,aBK⟩;have:=hid j ⟨xs,e⟩;have:=gl hb;omega
 rcases oJ with⟨z,_⟩|⟨id',z,z2⟩
 rw[z] at e;cases e;rw[z] at e;cases e
 rcases hA with⟨y,eg⟩|⟨Sv,y,eg⟩
 rw[y] at bQ;have Qx:cG g2 1 8 3 .af (.sl [oh (i+1)] .exact)=some (.sl [oh (i+1)] (.tok g2.length),g2++[.tok 1 1 3]):=rfl;rw[Qx] at bQ;cases bQ;injection z with bh z2
 injection z2 with z3
 have:=hE.len;omega;rw[y] at bQ;have h4:¬([oh (i+1)]=([]:List U)):=aBI
 have o1:bV 1 [oh (i+1)]=true:=rfl;have hfit:((ts.map oh).length+1)*8<=140737488355328:=aBK
 have Qx:cG g2 1 8 3 (.sl (ts.map oh) (.tok Sv)) (.sl [oh (i+1)] .exact)=some (.sl (ts.map oh++[oh (i+1)]) (.tok Sv),g2.set Sv (.tok ((ts.map oh).length+1) 1 3)):=by
  simp only[cG,e9,ga,contents,o1,afJ,h4,if_false,and_self,x9,if_true,true_and,eg,dm,fQ,e5];rw[if_pos hfit]
 rw[Qx] at bQ;cases bQ;cases z;exact hid _ ⟨_,y⟩
 rcases dZ.1 h with h|h
 exact ht t h;rw[cr.1 h];omega;refine kE @q @w2 ?_;exact⟨ts,ak,rfl,hE,hA,hid,ht,aBH⟩;rintro e g ⟨ts,ak,rfl,hE,hA,hid,ht,Cx⟩;have s1:=s.ext hE;refine wy (aZ (aik s1) ?_);rintro r g1 ⟨rfl,rfl⟩;refine wy ?_;refine⟨hE.split,?_⟩
 rcases hA with⟨rfl,z⟩|⟨id,rfl,_⟩
 obtain⟨n,hn⟩:=(cS:aX (mask h.length g1) _ _).done;exact⟨n,_,hn,ts,ax ⟨rfl,z⟩,ht,aBH⟩;obtain⟨n,hn⟩:=(fj (t:=.tok id) (gh (f:=oh) (l:=ts) λa _=>aB _):aX (mask h.length g1) _ _).done;exact⟨n,_,hn,ts,ay rfl,ht,aBH⟩
def als{v:U}{ts:List Nat}(h:bL v (ts.map oh)):dn v:=by
 rcases h with rfl|⟨rfl,_⟩
 refine jZ λx hx c hc=>?_;obtain⟨n,_,rfl⟩:=cO.1 hx;rw[cr.1 (show c∈[oh n] from hc)];exact bM _;exact BV (n:=1) rfl
def ae5(s:qn h p au mv rows marks)(w:List UInt8):aE G az 52 [p,ai w] h λr h'=>∃B l,r=a_ B/\h'=h++l:=by
 refine ab8.go ?_;have hrl:=s.rl;have k1:(h++[aj (aO 0) false])[h.length]?=some (.cells (aO 0) false):=aBI
 have s1:=s.ext (h':=h++[aj (aO 0) false]) jV;have fin:∀(l:List aa) (B:Nat),(h++[aj (aO 0) false]++l).set h.length (.cells (aO B) false)=h++([aj (aO B) false]++l):=λl B=>by
  rw[cq,We _ _ (bl _),kj];rfl
 refine wy (aZ (Zv s1 w) ?_);rintro r g ⟨⟨t,b,rfl,ht⟩,l,rfl⟩;have k2:(h++[aj (aO 0) false]++l)[h.length]?=some (.cells (aO 0) false):=aM k1;cases b with
 |true=>
  have ab:dA 1 [t]=some (.sl ([t].map λn:Nat=>ag (n:Int)) .exact):=rfl;have sp:ck G az 99 [.sl ([t].map λn:Nat=>ag (n:Int)) .no] (a_ (ec [t])):=TK (l:=[t]) (ay rfl) (λn hn=>by rw[cr.1 hn];omega) aBI;have st:=GQ k2 (ec [t]);have eF:=aR (a:=.cells (aO (ec [t])) false) (gl k2);refine ni (dx sp (aP (jZ λx hx c hc=>?_) bS) ?_);obtain⟨n,_,rfl⟩:=cO.1 hx;rw[cr.1 (show c∈[ag (n:Int)] from hc)];exact bM _;refine kE @st (wK eF) ?_;exact⟨_,_,rfl,fin l _⟩
 |false=>
  refine wy (aZ (anQ (s1.ext jV) w) ?_);rintro v g2 ⟨⟨ts,hv,h1,h2⟩,rfl⟩;have sp:ck G az 99 [v] (a_ (ec ts)):=TK hv (λn hn=>by have:=h1 n hn;omega) aBH;have st:=GQ k2 (ec ts);have eF:=aR (a:=.cells (aO (ec ts)) false) (gl k2);refine wy (dx sp (aP (als hv) bS) ?_);refine kE @st (wK eF) ?_;exact⟨_,_,rfl,fin l _⟩
def auq(s:qn h p au mv rows marks):zA G h (.fn (.func 52) [p] []):=
 ⟨rfl,λw g hw hg=>by
  show aE G az 52 [p,ai w] g _;exact ae5 (s.ext hg) w⟩
end
def ayl{bC:U}(h:bC=.v (.pointer none)\/yd bC):bn bC=true:=by
 rcases h with rfl|⟨rows,rfl,_⟩<;>rfl
def mQ.len{x:List U}(h:mQ x):x.length=11/\x.all bn=true:=by
 obtain⟨nm,bp,i,p,bf,a,al,mv,ex,b,bC,rfl,hg,hm,_,ht⟩:=h.at
 refine⟨rfl,?_⟩;simp only[lD,oy,hg.one.1,hm.one.1,ayl ht];rfl
@[go_sem]def agH{n k:Nat}{h:List aa}{cs x:List U}(hb:h[k]?=some (.cells cs false))(hc:cs.length=n)(hx:x.length=n)(h1:x.all bn=true):aF h n (.mp k 0) (.agg x)=some (h.set k (.cells x false)):=by
 have e:(bT x).cells=x:=rfl;simp only[aF,hb,dJ];rw[e,if_pos ⟨hx,aBH,h1⟩];unfold putAt;rw[qQ,eR,e5,hx,sY aBH,e4]
@[go_sem]def Jw{n:Nat}(h:List aa){z x:List U}(hz:z.length=n)(hx:x.length=n)(h1:x.all bn=true):aF (h++[aj z false]) n (.mp h.length 0) (.agg x)=some (h++[aj x false]):=by
 rw[agH (k:=h.length) (cs:=z) aBI hz hx h1];simp
def NU:List U:=[.v (.string ⟨[].toArray⟩),.af,false,false,false,(0:Int),false,.af,.v (.string ⟨[].toArray⟩),false,.v (.pointer none)]
def Ext.trans{a b c:List aa}(h:Ext a b)(k:Ext b c):Ext a c:=λj x q=>k j x (h j x q)
section
variable{G:Cells}{h:List aa}{p au mv:U}{rows marks:List (List U)}
def auG(s:qn h p au mv rows marks)(cW:p.cells=[p]):fI G az 29 [p] h (λr h'=>(∃l,h'=h++l)/\0<rows.length) λch h'=>∃e,e≠0/\ch=wV e/\∃l,h'=h++l:=by
 refine ad7.w5 ?_;have hrl:=s.rl;have hml:=s.ml;have mo:Ext h (h++[aj [p] false]):=jV;have k1:(h++[aj [p] false])[h.length]?=some (.cells [p] false):=aBI
 obtain⟨q0,f0,_,l0⟩:=s.pp.fa 0;obtain⟨q1,f1,_,l1⟩:=s.pp.fa 1;have kk:∀g,Ext (h++[aj [p] false]) g->aq g false 1 (.mp h.length 0)=some p/\aq g false 1 q0=some au/\aq g false 1 q1=some mv:=λg hg=>⟨c6 (hg _ _ k1),l0 g (mo.trans hg) au rfl,l1 g (mo.trans hg) mv rfl⟩;have bad:∀(e:Int) (g:List aa),e≠0->Ext (h++[aj [p] false]) g->∃e',e'≠0/\wV e=wV e'/\∃l,g=h++l:=λe g he hg=>⟨e,he,rfl,(mo.trans hg).split⟩;have hz:[bP (.string ⟨[].toArray⟩),.af,false,false,false,(0:Int),false,.af,.v (.string ⟨[].toArray⟩),false,.v (.pointer none)]=NU:=rfl;have aby:[bP (.string ⟨[].toArray⟩),(0:Int),false,.af]=dX:=rfl;refine fh (λe g=>e=[(1,.mp h.length 0)]/\g=h++[aj [p] false]) ?_ ?_;exact wx tt;rintro e g ⟨rfl,rfl⟩;generalize h++[aj [p] false]=hb at mo k1 kk bad⊢;refine fh (λe g=>e=[(1,.mp h.length 0)]/\g=hb/\0<rows.length) ?_ ?_;refine kg @s.pp.nl @s.rr.len (e3 (vp _ 14 hb) ?_ ?_);rintro r g ⟨fU,rfl⟩;refine wx ?_;exact⟨trivial,trivial,by simpa using fU⟩;rintro ch g ⟨_,rfl,rfl⟩;exact bad 14 g aBJ (Br _);rintro e g ⟨rfl,rfl,hpos⟩;refine fh (λe g'=>e=[(1,.mp h.length 0)]/\Ext g g') ?_ ?_;refine kg @s.pp.nl @s.rr.len ?_;refine cj (λi e g'=>e=[(1,.mp h.length 0),(29,au),(30,ag rows.length),(31,ag i)]/\Ext g g') rows.length ⟨rfl,Br _⟩ ?_ ?_;rintro i e g1 hi ⟨rfl,hE⟩;obtain⟨x,hx⟩:=cD hi;have jN:=s.rc x (bG hx);obtain⟨NG,h1,h2⟩:=s.rr.bK i x hx;have h3:=h2.eG g1 (mo.trans hE);rw[jN.len.1] at h3;have n1:=Jw (n:=11) g1 (z:=NU) rfl jN.len.1 jN.len.2;have kx:(g1++[aj x false])[g1.length]?=some (.cells x false):=aBI
 have jL:Ext g (g1++[aj x false]):=hE.n3;obtain⟨nm,bp,i1,p1,bf,a,al,rD,ex,b,bC,rfl,Al,_⟩:=jN.at
 obtain⟨gs,xj,ji⟩:=Al;have IM:=xj.bO;rw[b_] at IM;refine wy ?_;refine wy ?_;refine cj (λj e g'=>e=[(1,.mp h.length 0),(29,au),(30,ag rows.length),(31,ag i),(37,bp),(38,ag gs.length),(39,ag j)]/\Ext g g') gs.length ⟨rfl,jL⟩ ?_ ?_;rintro j e g3 hj ⟨rfl,nD⟩;obtain⟨w,hw⟩:=cD hj;have e1:bu 1 bp j=some (.fp [ai w] 0):=xj.bK (x:=ai w) aCS rfl;refine wy (aZ (Zv (s.ext (mo.trans nD)) w) ?_);rintro r g4 ⟨⟨t,b,rfl,_⟩,l,rfl⟩;refine wy (e3 (vp _ 9 _) ?_ ?_);rintro r g5 ⟨_,rfl⟩;refine wx ?_;exact⟨rfl,nD.n3⟩;rintro ch g5 ⟨_,rfl,rfl⟩;exact bad 9 _ aBJ nD.n3;rintro e g3 ⟨rfl,nD⟩;refine di @ag.eq_1 ?_;exact⟨trivial,nD⟩;rintro e g1 ⟨rfl,hE⟩;refine di @ag.eq_1 ?_;exact⟨trivial,hE⟩;rintro e g1 ⟨rfl,hE⟩;obtain⟨x0,hx0⟩:=cD hpos;obtain⟨avW,sw,mV⟩:=s.rr.bK 0 x0 hx0;obtain⟨afn,aAu,i0,fF,atC,azY,azZ,aBk,aAo,az5,aBD,rfl,_⟩:=(s.rc x0 (bG hx0)).at
 refine fh (λe g'=>e=[(1,.mp h.length 0)]/\g'=g1) ?_ ?_
 · obtain⟨aQ,oV,v0,_⟩:=mV.fa 0
   obtain⟨r2,u2,_,w2⟩:=mV.fa 2;obtain⟨xJ,u4,_,vQ⟩:=mV.fa 4;have aBG:=w2 g1 (mo.trans hE) _ rfl;have JM:=vQ g1 (mo.trans hE) _ rfl;have aAv:bu 11 au (0:Int)=some avW:=sw;have done:∀b:Bool,fI G az 28 [b,(13:Int)] g1 (λr h'=>h'=g1) λch h'=>ch=wV 13/\h'=g1:=λb=>e3 (vp b 13 g1) (λr h' q=>q.2) λch h' q=>q.2;cases atC with
   |true=>
    refine fC @s.pp.nl (e3 (done _) ?_ ?_);rintro r g2 rfl;exact wx tt;rintro ch g2 ⟨rfl,rfl⟩;exact bad 13 _ aBJ hE
   |false=>
    refine fC @s.pp.nl (e3 (done _) ?_ ?_);rintro r g2 rfl;exact wx tt;rintro ch g2 ⟨rfl,rfl⟩;exact bad 13 _ aBJ hE
 rintro e g2 ⟨rfl,rfl⟩;refine fh (λe g'=>e=[(1,.mp h.length 0)]/\Ext g g') ?_ ?_;refine kg @s.pp.nl @s.rr.len ?_;refine cj (λi e g'=>e=[(1,.mp h.length 0),(78,au),(79,ag rows.length),(80,ag i)]/\Ext g g') rows.length ⟨rfl,hE⟩ ?_ ?_
 · rintro i e g1 hi ⟨rfl,hE⟩
   obtain⟨x,hx⟩:=cD hi;have jN:=s.rc x (bG hx);obtain⟨NG,h1,h2⟩:=s.rr.bK i x hx;have h3:=h2.eG g1 (mo.trans hE);rw[jN.len.1] at h3;have n1:=Jw (n:=11) g1 (z:=NU) rfl jN.len.1 jN.len.2;have kx:(g1++[aj x false])[g1.length]?=some (.cells x false):=aBI
   have jL:Ext g (g1++[aj x false]):=hE.n3;obtain⟨nm,bp,i1,p1,bf,a,al,rD,ex,b,bC,rfl,Al,_⟩:=jN.at
   refine wy ?_;generalize g1++[aj _ false]=g2 at kx jL⊢;have done:∀b:Bool,fI G az 28 [b,(13:Int)] g2 (λr h'=>h'=g2) λch h'=>ch=wV 13/\h'=g2:=λb=>e3 (vp b 13 g2) (λr h' q=>q.2) λch h' q=>q.2;cases bf with
   |true=>
    refine wy (e3 (done _) ?_ ?_);rintro r g3 rfl;refine dP ?_;exact⟨rfl,jL⟩;rintro ch g3 ⟨rfl,rfl⟩;exact bad 13 _ aBJ jL
   |false=>
    refine wy (e3 (done _) ?_ ?_);rintro r g3 rfl;refine dP ?_;exact⟨rfl,jL⟩;rintro ch g3 ⟨rfl,rfl⟩;exact bad 13 _ aBJ jL
 rintro e g1 ⟨rfl,hE⟩;refine di @ag.eq_1 ?_;exact⟨trivial,hE⟩;rintro e g3 ⟨rfl,nD⟩;refine fh (λe g'=>e=[(1,.mp h.length 0),(10,.fn (.func 49) [] [.mp h.length 0])]/\g'=g3) ?_ ?_;exact wx tt;rintro e g4 ⟨rfl,rfl⟩;have known:∀(g':List aa),Ext g g'->∀w,aE G az 49 [ai w,.mp h.length 0] g' λr h'=>gW r/\∃l,h'=g'++l:=λg' hg' w=>asV (s.ext (mo.trans hg')) (hg' _ _ k1) w;refine fh (λe g'=>e=[(1,.mp h.length 0),(10,.fn (.func 49) [] [.mp h.length 0])]/\Ext g g') ?_ ?_;refine kg @s.pp.nl @s.rr.len ?_;refine cj (λi e g'=>e=[(1,.mp h.length 0),(10,.fn (.func 49) [] [.mp h.length 0]),(99,au),(100,ag rows.length),(101,ag i)]/\Ext g g') rows.length ⟨rfl,nD⟩ ?_ ?_;rintro i e g1 hi ⟨rfl,hE⟩;obtain⟨x,hx⟩:=cD hi;have jN:=s.rc x (bG hx);obtain⟨NG,h1,h2⟩:=s.rr.bK i x hx;have h3:=h2.eG g1 (mo.trans hE);rw[jN.len.1] at h3;have n1:=Jw (n:=11) g1 (z:=NU) rfl jN.len.1 jN.len.2;have kx:(g1++[aj x false])[g1.length]?=some (.cells x false):=aBI
 have jL:Ext g (g1++[aj x false]):=hE.n3;obtain⟨nm,bp,i1,p1,bf,a,al,rD,ex,b,bC,rfl,Al,jv,_⟩:=jN.at
 obtain⟨ms,EI,apw⟩:=jv;have IM:=EI.bO;rw[b_] at IM;refine wy ?_;refine wy ?_;refine cj (λj e g'=>e=[(1,.mp h.length 0),(10,.fn (.func 49) [] [.mp h.length 0]),(99,au),(100,ag rows.length),(101,ag i),(107,rD),(108,ag ms.length),(109,ag j)]/\Ext g g') ms.length ⟨rfl,jL⟩ ?_ ?_;rintro j e g3 hj ⟨rfl,nD⟩;obtain⟨w,hw⟩:=cD hj;have e1:bu 1 rD j=some (.fp [ai w] 0):=EI.bK (x:=ai w) aCS rfl;refine wy (aZ (known g3 nD w) ?_);rintro r g4 ⟨⟨b,rfl⟩,l,rfl⟩;refine wy (e3 (vp _ 6 _) ?_ ?_);rintro r g5 ⟨_,rfl⟩;refine wx ?_;exact⟨rfl,nD.n3⟩;rintro ch g5 ⟨_,rfl,rfl⟩;exact bad 6 _ aBJ nD.n3;rintro e g3 ⟨rfl,nD⟩;refine di @ag.eq_1 ?_;exact⟨trivial,nD⟩;rintro e g1 ⟨rfl,hE⟩;refine di @ag.eq_1 ?_;exact⟨trivial,hE⟩;rintro e g5 ⟨rfl,an2⟩;refine kg @s.pp.nl @s.qC.len ?_;refine cj (λi e g'=>e=[(10,.fn (.func 49) [] [.mp h.length 0]),(122,mv),(123,ag marks.length),(124,ag i)]/\Ext g g') marks.length ⟨rfl,an2⟩ ?_ ?_;rintro i e g1 hi ⟨rfl,hE⟩;obtain⟨x,hx⟩:=cD hi;have jN:=s.eM x (bG hx);obtain⟨NG,h1,h2⟩:=s.qC.bK i x hx;have h3:=h2.eG g1 (mo.trans hE);rw[jN.ok.1] at h3;have n1:=Jw (n:=4) g1 (z:=dX) rfl jN.ok.1 jN.ok.2.1;have kx:(g1++[aj x false])[g1.length]?=some (.cells x false):=aBI
 have jL:Ext g (g1++[aj x false]):=hE.n3;obtain⟨nm,v,al,bv,rfl,tO⟩:=jN;obtain⟨ms,EI,apw⟩:=tO;have IM:=EI.bO;rw[b_] at IM;refine ni ?_;generalize g1++[aj _ false]=g2 at kx jL⊢;generalize g1.length=m at kx⊢;have MT:aq g2 false 1 (.mp m 3)=some bv:=by simp only[aq,kx];rfl
 refine wx ?_;refine cj (λj e g'=>e=[(10,.fn (.func 49) [] [.mp h.length 0]),(122,mv),(123,ag marks.length),(124,ag i),(129,bv),(130,ag ms.length),(131,ag j)]/\Ext g g') ms.length ⟨rfl,jL⟩ ?_ ?_;rintro j e g3 hj ⟨rfl,nD⟩;obtain⟨w,hw⟩:=cD hj;have e1:bu 1 bv j=some (.fp [ai w] 0):=EI.bK (x:=ai w) aCS rfl;refine wy (aZ (known g3 nD w) ?_);rintro r g4 ⟨⟨b,rfl⟩,l,rfl⟩;refine wy (e3 (vp _ 6 _) ?_ ?_);rintro r g5 ⟨_,rfl⟩;refine wx ?_;exact⟨rfl,nD.n3⟩;rintro ch g5 ⟨_,rfl,rfl⟩;exact bad 6 _ aBJ nD.n3;rintro e g3 ⟨rfl,nD⟩;refine di @ag.eq_1 ?_;exact⟨trivial,nD⟩;rintro e g1 ⟨rfl,hE⟩;refine di @ag.eq_1 ?_;exact⟨(mo.trans hE).split,hpos⟩
end
section
variable{i j o:Nat}{b':aa}{x:List U}{y:U}
structure mP(ks aS:Nat)(au mv:U)(rows marks:List (List U))(h:List aa):Prop where
 b:h[ks]?=some (.cells [au,mv] false)
 r:gJ 11 h aS au rows
 m:o9 mv marks
 rc:∀x∈rows,mQ x
 eM:∀x∈marks,lJ x
 rl:rows.length<=24
 ml:marks.length<=8
section
variable{ks aS:Nat}{au mv:U}{rows marks:List (List U)}{h:List aa}
def mP.A(s:mP ks aS au mv rows marks h):qn h (.mp ks 0) au mv rows marks:=⟨q2.mp s.b,l_.row s.r,l_.slc h s.m λx hx=>(s.eM x hx).ok.1,s.rc,s.eM,s.rl,s.ml⟩
def mP.ext{h':List aa}(s:mP ks aS au mv rows marks h)(he:Ext h h'):mP ks aS au mv rows marks h':=⟨he _ _ s.b,s.r.keep λcs q=>he _ _ q,s.m,s.rc,s.eM,s.rl,s.ml⟩
def mP.set(s:mP ks aS au mv rows marks h)(h1:j≠ks)(h2:j≠aS):mP ks aS au mv rows marks (h.set j b'):=⟨by rw[av h1];exact s.b,s.r.keep λcs q=>by rw[av h2];exact q,s.m,s.rc,s.eM,s.rl,s.ml⟩
def mP.ne(s:mP ks aS au mv rows marks h):ks≠aS:=by
 rintro rfl;have h1:=s.b;have h2:=s.r.b;rw[h1] at h2;simp at h2
def mP.write(s:mP ks aS au mv rows marks h)(hx:rows[i]?=some x)(ho:o+1<=11)(hy:y.cells=[y])(h1:bn y=true)(hr:mQ (putAt x o [y])):
  aF h 1 (.rp aS rows.flatten.length (i*11+o)) y=some (h.set aS (.cells (rows.set i (putAt x o [y])).flatten true))/\mP ks aS au mv (rows.set i (putAt x o [y])) marks (h.set aS (.cells (rows.set i (putAt x o [y])).flatten true)):=by
 obtain⟨q1,ah⟩:=s.r.st (w:=1) (o:=o) (y:=y) hx (by rw[hy];rfl) ho (by rw[hy];simp[h1]);rw[hy] at q1 ah;refine⟨q1,⟨by rw[av (dr s.ne)];exact s.b,ah,s.m,λz hz=>?_,s.eM,by rw[rU];exact s.rl,s.ml⟩⟩
 rcases Ga hz with q|rfl
 exact s.rc z q;exact hr
end
structure ko(ks aS i m n:Nat)(au mv:U)(marks:List (List U))(N:Nat)(h0:List aa)(rows:List (List U))(g:List aa):Prop where
 s:mP ks aS au mv rows marks g
 kp:∀(j:Nat) b,j≠aS->h0[j]?=some b->g[j]?=some b
 le:h0.length<=g.length
 b2:g[n]?=some (.cells [.mp ks 0] false)
 b3:g[n+1]?=some (.cells [.rp aS m (i*11)] false)
 hn:h0.length<=n
 len:rows.length=N
 hm:rows.flatten.length=m
 lt:ks<h0.length/\aS<h0.length/\i<N
section
variable{ks aS i m n:Nat}{au mv:U}{marks:List (List U)}{N:Nat}{h0:List aa}{rows:List (List U)}{g:List aa}
def ko.ext{g':List aa}(c:ko ks aS i m n au mv marks N h0 rows g)(he:Ext g g'):ko ks aS i m n au mv marks N h0 rows g':=
 ⟨c.s.ext he,λj b hj q=>he _ _ (c.kp j b hj q),fk c.le he.len,he _ _ c.b2,he _ _ c.b3,c.hn,c.len,c.hm,c.lt⟩
def ko.set(c:ko ks aS i m n au mv marks N h0 rows g)(hj:n+2<=j):ko ks aS i m n au mv marks N h0 rows (g.set j b'):=by
 have:=c.lt;have:=c.hn;refine⟨c.s.set aBH aBH,λj' b hj' q=>?_,by simpa using c.le,?_,?_,c.hn,c.len,c.hm,c.lt⟩;have:=gl q;rw[av aBH];exact c.kp j' b hj' q;rw[av aBH];exact c.b2;rw[av aBH];exact c.b3
@[go_sem]def ko.at(c:ko ks aS i m n au mv marks N h0 rows g):∃x,rows[i]?=some x/\mQ x/\∀o y,x[o]?=some y->aq g false 1 (.rp aS m (i*11+o))=some y:=by
 have hl:i<rows.length:=by rw[c.len];exact c.lt.2.2
 refine⟨rows[i],br hl,c.s.rc _ (Wb hl),λo y hy=>?_⟩;have hx:=br hl;have h1:=(c.s.r.each _ (Wb hl)).1;have:=c.s.r.fy hx (by have:=(gl hy);omega) hy;rw[c.hm] at this;exact this
def ko.write(c:ko ks aS i m n au mv marks N h0 rows g)(hx:rows[i]?=some x)(ho:o+1<=11)(hy:y.cells=[y])(h1:bn y=true)(hr:mQ (putAt x o [y])):
  ∃gx g',aF g 1 (.rp aS m (i*11+o)) y=some g'/\ko ks aS i m n au mv marks N h0 gx g'/\∀(j:Nat) b,j≠aS->g[j]?=some b->g'[j]?=some b:=by
 obtain⟨q1,ah⟩:=c.s.write hx ho hy h1 hr;rw[c.hm] at q1;have hlt:=c.lt;have hn:=c.hn;have kp:∀(j:Nat) b,j≠aS->g[j]?=some b->(g.set aS (.cells (rows.set i (putAt x o [y])).flatten true))[j]?=some b:=λj b hj q=>aD9
 refine⟨_,_,q1,⟨ah,λj b hj q=>kp j b hj (c.kp j b hj q),by simpa using c.le,kp _ _ aBH c.b2,kp _ _ aBH c.b3,c.hn,by rw[rU];exact c.len,?_,c.lt⟩,kp⟩;rw[Aa ah.r.each,rU,<-Aa c.s.r.each];exact c.hm
def ko.fin{g2:List aa}(c:ko ks aS i m n au mv marks N h0 rows g)(he:lH h0.length g g2):ko ks aS i m n au mv marks N h0 rows g2:=by
 have kc:∀(j:Nat) cs fz,g[j]?=some (.cells cs fz)->g2[j]?=some (.cells cs fz):=λj cs fz q=>by
  rcases he.2 j with z|⟨_,z,_⟩
  rw[z];exact q;rw[z] at q;cases q
 refine⟨⟨kc _ _ _ c.s.b,c.s.r.keep λcs q=>kc _ _ _ q,c.s.m,c.s.rc,c.s.eM,c.s.rl,c.s.ml⟩,λj b hj q=>?_,by rw[he.1];exact c.le,kc _ _ _ c.b2,kc _ _ _ c.b3,c.hn,c.len,c.hm,c.lt⟩;have hjl:=gl q
 rcases he.2 j with z|⟨z,_,_⟩
 rw[z];exact c.kp j b hj q;omega
end
@[go_sem]def Ui(h:o<x.length):putAt x o [y]=x.set o y:=by
 unfold putAt;rw[nq,ajm,if_pos h,cq];rfl
def O5(ks aS:Nat)(au mv:U)(marks:List (List U))(N:Nat)(h0 h':List aa):Prop:=∃rows,mP ks aS au mv rows marks h'/\rows.length=N/\h0.length<=h'.length/\∀(j:Nat) b,j≠aS->h0[j]?=some b->h'[j]?=some b
def ko.q{ks aS i m n:Nat}{au mv:U}{marks:List (List U)}{N:Nat}{h0:List aa}{rows:List (List U)}{g:List aa}(c:ko ks aS i m n au mv marks N h0 rows g):O5 ks aS au mv marks N h0 g:=⟨rows,c.s,c.len,c.le,c.kp⟩
def Wu(ks aS:Nat)(au mv:U)(marks:List (List U))(N:Nat)(h0:List aa)(ch:List PanicEntry)(h':List aa):Prop:=∃e,e≠0/\ch=wV e/\O5 ks aS au mv marks N h0 h'
section
variable{G:Cells}
def alR(bz:eE G){ks aS:Nat}{au mv:U}{rows marks:List (List U)}{h:List aa}(s:mP ks aS au mv rows marks h)(hi:i<rows.length):
  fI G az 30 [.mp ks 0,.rp aS rows.flatten.length (i*11)] h (λr h'=>O5 ks aS au mv marks rows.length h h') (Wu ks aS au mv marks rows.length h):=by
 refine ad8.w5 ?_;have c0:(bB ks 0).cells=[.mp ks 0]:=rfl;have c1:(U.rp aS rows.flatten.length (i*11)).cells=[.rp aS rows.flatten.length (i*11)]:=rfl;have hks:=gl s.b;have hkr:=gl s.r.b;have w6:ko ks aS i rows.flatten.length h.length au mv marks rows.length h rows (h++[aj [bB ks 0] false]++[aj [U.rp aS rows.flatten.length (i*11)] false]):=
  ⟨(s.ext jV).ext jV,λj b _ q=>aM (aM q),aBI,aBI,aCJ,bl _,rfl,rfl,hks,hkr,hi⟩
 generalize rows.length=N at w6⊢;generalize apu:rows.flatten.length=m at w6 c1⊢;have eW:∀(e:Int) (g:List aa),e≠0->(∃gx,ko ks aS i m h.length au mv marks N h gx g)->∀hp',lH h.length g hp'->Wu ks aS au mv marks N h (wV e) hp':=λe g he ⟨gx,hc⟩ hp' hr=>⟨e,he,rfl,(hc.fin hr).q⟩;refine cM (λe g=>e=[(2,.mp h.length 0),(3,.mp (h.length+1) 0)]/\g=h++[aj [bB ks 0] false]++[aj [U.rp aS m (i*11)] false]) ?_ ?_;refine zd @c0 @c1 @cB.{0} @dm.{0} @fQ.{0} @e5 ?_;exact⟨trivial,trivial⟩;rintro e g ⟨rfl,rfl⟩;generalize h++[aj [bB ks 0] false]++[aj [U.rp aS m (i*11)] false]=g at w6⊢;clear apu s hi;obtain⟨x,hx,jN,hxl⟩:=w6.at
 obtain⟨nm,bp,i1,p1,bf,a,al,rD,ex,b,bC,rfl,Al,jv,hex,aA4⟩:=jN.at
 have l4:=hxl 4 _ rfl;have CN:=hxl 8 _ rfl;have Fe:uZ (.rp aS m (i*11))=some (.rp aS m (i*11)):=rfl;have yD:∀o,je o (.rp aS m (i*11))=some (.rp aS m (i*11+o)):=λo=>rfl;have Q5:∀o,je o (.rp aS m (i*11+0))=some (.rp aS m (i*11+o)):=λo=>rfl;cases bf with
 |true=>
  refine nP (c6 w6.b3) @Fe @yD @Q5 @l4 ?_;rw[A2];intro hp' he;exact dP ((w6.fin he).q)
 |false=>
  refine fh (λe g'=>e=[(2,.mp h.length 0),(3,.mp (h.length+1) 0)]/\g'=g) ?_ ?_;exact nP (c6 w6.b3) @Fe @yD @Q5 @l4 tt;rintro e g' ⟨rfl,rfl⟩;refine cM (λe ri=>∃v ps,e=[(2,.mp h.length 0),(3,.mp (h.length+1) 0),(4,v)]/\qk v ps/\ri=g') ?_ ?_;refine nP (c6 w6.b3) @Fe @yD @Q5 @CN ?_;refine aE.cY (T7 bz ex aBH) ?_;rintro r ⟨v,ND,wU,rfl,hq⟩;obtain⟨ps,hE⟩:∃ps,qk v ps:=by
   rcases hq with⟨_,_,ps,hE⟩|⟨_,rfl⟩
   exact⟨ps,hE⟩;exact⟨[],ax ⟨rfl,rfl⟩,λi p h=>aBR,aBJ,aBI⟩
  refine di @ag.eq_1 ?_;exact⟨v,ps,rfl,hE,trivial⟩;rintro e ri ⟨v,ps,rfl,hE,rfl⟩;have hz:[bP (.int .u64 0),.v (.int .u64 0),.v (.int .u64 0),.v (.int .u64 0)]=aO 0:=by simp[aO,cw,wd]
  have aaR:h.length+2<=ri.length:=by have:=(gl w6.b3);omega
  have Ca:=w6.ext (g':=ri++[aj (aO 0) false]) jV;have pS:(ri++[aj (aO 0) false])[ri.length]?=some (.cells (aO 0) false):=aBI
  refine cM (λe g'=>e=[(2,.mp h.length 0),(3,.mp (h.length+1) 0),(4,v),(7,.mp ri.length 0)]/\g'=ri++[aj (aO 0) false]) ?_ ?_;exact di @hz tt;rintro e g1 ⟨rfl,rfl⟩;generalize Sc:ri.length=m7 at aaR pS⊢;generalize ri++[aj (aO 0) false]=g1 at Ca pS⊢;refine cM (λe g'=>e=[(2,.mp h.length 0),(3,.mp (h.length+1) 0),(4,v),(7,.mp m7 0),(8,.fn (.func 52) [.mp ks 0] [])]/\g'=g1) ?_ ?_;exact di (c6 Ca.b2) tt;rintro e g2 ⟨rfl,rfl⟩;have hfn:∀neg,oC .Hu neg (.fn (.func 52) [.mp ks 0] []) (.v .nilFunc)=some (.v (.bool neg)):=λneg=>aCV
  refine fh (λe g'=>∃A gx,e=[(2,.mp h.length 0),(3,.mp (h.length+1) 0),(4,v),(7,.mp m7 0),(8,.fn (.func 52) [.mp ks 0] [])]/\ko ks aS i m h.length au mv marks N h gx g'/\g'[m7]?=some (.cells (aO A) false)) ?_ ?_;refine dP (gf (afh hE) (aP (BS hE) bS) ?_);rintro r ⟨l,hl,mX,sF⟩;have ln:=hl.bO;rw[b_] at ln;have jO:∀hp,bO r hp=some (.v (.int .i64 (l.length:Int)),hp):=λhp=>aCl
  have hpl:=hE.len;refine di @jO ?_;refine cj (λj e g'=>∃A gx,e=[(2,.mp h.length 0),(3,.mp (h.length+1) 0),(4,v),(7,.mp m7 0),(8,.fn (.func 52) [.mp ks 0] []),(35,r),(36,ag l.length),(37,ag j)]/\ko ks aS i m h.length au mv marks N h gx g'/\g'[m7]?=some (.cells (aO A) false)) l.length ⟨0,_,rfl,Ca,pS⟩ ?_ ?_;rintro j e g3 hj ⟨A,gx,rfl,hC,pS⟩;obtain⟨w,hw⟩:=cD hj;have e1:bu 1 r (.v (.int .i64 (j:Int)))=some (.fp [ai w] 0):=hl.bK (x:=ai w) aCS rfl;refine zd @ag.eq_1 @e1 @tN @eR.{0} @jW.{0} @e4.{0} ?_;refine aZ (ae5 hC.s.A w) ?_;rintro _ g4 ⟨B,lx,rfl,rfl⟩;have n1:=PY (g3++lx) B;have Ae:=(hC.ext (g':=g3++lx) jV).ext (g':=g3++lx++[aj (aO B) false]) jV;have MJ:(g3++lx++[aj (aO B) false])[m7]?=some (.cells (aO A) false):=aM (aM pS);have AB:(g3++lx++[aj (aO B) false])[(g3++lx).length]?=some (.cells (aO B) false):=aBI
  have fz:cm [.v (.int .u64 0),.v (.int .u64 0),.v (.int .u64 0),.v (.int .u64 0)] []=some (aO 0):=by rw[hz];rfl
  obtain⟨BP,L8⟩:∃b:Bool,q6 [.i,.i,.i,.i] true (a_ B) (.agg (aO 0))=some (.v (.bool b)):=by
   obtain⟨d,hd⟩:=QK B 0;refine⟨true !=d,?_⟩;show(dN [.i,.i,.i,.i] (a_ B).cells (a_ 0).cells).map (λr=>bP (.bool (true !=r)))=_;rw[hd];rfl
  refine di @n1 ?_;generalize(g3++lx).length=m11 at AB⊢;generalize g3++lx++[aj (aO B) false]=g5 at Ae MJ AB⊢;refine fB (wK AB) @fz @L8 (e3 (vp BP 6 g5) ?_ ?_);rintro r2 g6 ⟨_,rfl⟩;refine kE (wK AB) (wK MJ) (dx (Fj A B) (aP (jY _) (aP (jY _) bS)) ?_);refine di (GQ MJ (A|||B)) ?_;exact⟨A|||B,gx,rfl,Ae.set aaR,aR (gl MJ)⟩;rintro ch g6 ⟨_,rfl,rfl⟩;exact eW 6 _ aBJ ⟨gx,Ae⟩;rintro e g3 ⟨A,gx,rfl,hC,pS⟩;refine di @ag.eq_1 ?_;exact⟨A,gx,trivial,hC,pS⟩;rintro e g3 ⟨A,Di,rfl,aar,ad3⟩;have aas:=aar.ext (g':=g3++[aj [.v (.bool false)] false]) jV;have ad4:(g3++[aj [.v (.bool false)] false])[m7]?=some (.cells (aO A) false):=aM ad3;have EY:(g3++[aj [.v (.bool false)] false])[g3.length]?=some (.cells [.v (.bool false)] false):=aBI
  have auv:=Ob g3 (.v (.bool false)) (x:=.v (.bool false)) rfl rfl;have aaQ:h.length+2<=g3.length:=by have:=(gl aar.b3);omega
  refine cM (λe g'=>e=[(2,.mp h.length 0),(3,.mp (h.length+1) 0),(4,v),(7,.mp m7 0),(8,.fn (.func 52) [.mp ks 0] []),(12,.mp g3.length 0)]/\g'=g3++[aj [.v (.bool false)] false]) ?_ ?_;exact di @auv tt;rintro e g4 ⟨rfl,rfl⟩;have apt:m7<g3.length:=gl ad3;generalize aAW:g3.length=m12 at EY aaQ apt⊢;generalize g3++[aj [.v (.bool false)] false]=g4 at aas ad4 EY⊢;refine cM (λe g'=>∃gx c,e=[(3,.mp (h.length+1) 0),(4,v),(8,.fn (.func 52) [.mp ks 0] []),(12,.mp m12 0)]/\ko ks aS i m h.length au mv marks N h gx g'/\g'[m12]?=some (.cells [.v (.bool c)] false)) ?_ ?_
  · refine di (wK ad4) (aZ (GI A _) ?_)
    rintro _ g5 ⟨rfl,rfl⟩;refine dP ?_;rw[vR];refine⟨_,_,_,rfl,λk hk ats ok hR=>?_⟩;have sA:=((aas.ext (g':=g4++[aj (aO A) false]) jV).ext (g':=g4++[aj (aO A) false]++DB false) jV).ext (g':=g4++[aj (aO A) false]++DB false++[iB .ready none ats #[54] ok]) jV;have Es:(g4++[aj (aO A) false]++DB false++[iB .ready none ats #[54] ok])[k]?=some (.aT .ready none ats #[54] ok):=by rw[hk];simp[DB]
    have Et:(g4++[aj (aO A) false]++DB false++[iB .ready none ats #[54] ok])[g4.length]?=some (.cells (aO A) false):=aM (aM aBI);have CG:(g4++[aj (aO A) false]++DB false++[iB .ready none ats #[54] ok])[m12]?=some (.cells [.v (.bool false)] false):=aM (aM (aM EY));have kl:h.length+2<=k:=by
     have:=gl EY;rw[hk];simp;omega
    show aE _ _ _ _ (g4++[aj (aO A) false]++DB false++[iB .ready none ats #[54] ok]) _;generalize g4++[aj (aO A) false]++DB false++[iB .ready none ats #[54] ok]=X at sA Es Et CG⊢;refine aZ (GJ bz (B:=A) (kb:=g4.length) (Stop:=λ_=>False) (Inv:=λdone g=>∃gx c,ko ks aS i m h.length au mv marks N h gx g/\g[m12]?=some (.cells [.v (.bool c)] false)/\g[k]?=some (.aT .ready none ats #[54] ok)) ?_ Et ⟨_,false,sA,CG,Es⟩) ?_
    · rintro done q g6 ⟨Jx,fM,Rq,IC,sD⟩ fU apL
      refine hR [_] g6 _ rfl ⟨none,sD⟩ ?_;have se:qI [(2,bB h.length 0),(3,bB (h.length+1) 0),(4,v),(8,U.fn (.func 52) [.mp ks 0] []),(12,bB m12 0),(53,U.fn (qM 105) [] [bB g4.length 0])] (List.zip [54] [bP (uF b7 (q:Int))])=[(54,bP (uF b7 (q:Int))),(2,bB h.length 0),(3,bB (h.length+1) 0),(4,v),(8,U.fn (.func 52) [.mp ks 0] []),(12,bB m12 0),(53,U.fn (qM 105) [] [bB g4.length 0])]:=rfl;rw[se];refine dP ?_;refine⟨⟨none,sD⟩,λdz=>?_⟩;have cK:=gl sD;have I1:k≠m12:=by rintro rfl;rw[IC] at sD;cases sD
      have Af:=Rq.set (j:=k) (b':=.aT .busy dz ats #[54] ok) kl;have MD:(g6.set k (.aT .busy dz ats #[54] ok))[m12]?=some (.cells [.v (.bool fM)] false):=by rw[av I1];exact IC
      have Ic:(g6.set k (.aT .busy dz ats #[54] ok))[k]?=some (.aT .busy dz ats #[54] ok):=aR cK;generalize g6.set k (.aT .busy dz ats #[54] ok)=g7 at Af MD Ic⊢;have fin:∀(g8:List aa) UC gq,ko ks aS i m h.length au mv marks N h UC g8->g8[m12]?=some (.cells [.v (.bool gq)] false)->g8[k]?=some (.aT .busy dz ats #[54] ok)->
        (∃st pd,g8[k]?=some (.aT st pd ats #[54] ok))/\∃c:Bool,bP (.bool true)=.v (.bool c)/\(c=true->∃gx c,ko ks aS i m h.length au mv marks N h gx (g8.set k (.aT .ready none ats #[54] ok))/\(g8.set k (.aT .ready none ats #[54] ok))[m12]?=some (.cells [.v (.bool c)] false)/\(g8.set k (.aT .ready none ats #[54] ok))[k]?=some (.aT .ready none ats #[54] ok))/\(c=false->False):=λg8 UC gq h1 h2 h3=>
       ⟨⟨.busy,dz,h3⟩,true,rfl,λ_=>⟨UC,gq,h1.set kl,by rw[av I1];exact h2,aR (gl h3)⟩,λz=>by cases z⟩
      refine di (c6 Af.b2) (aZ (aqD Af.s.A (q:Int)) ?_);rintro r g8 ⟨⟨b,rfl⟩,rfl⟩;cases b with
      |true=>
       obtain⟨x,hx,jN,_⟩:=Af.at
       have hr2:mQ (putAt x 9 [.v (.bool true)]):=by
        obtain⟨y,b,bC,rfl,hy,ht⟩:=jN;obtain⟨h9,_⟩:=hy.ok;refine⟨y,true,bC,?_,hy,ht⟩;rw[Ui aBK,We _ _ aBH,h9];rfl
       obtain⟨agI,g9,qp,Rr,SW⟩:=Af.write hx aBJ (y:=.v (.bool true)) rfl rfl hr2;refine kf (c6 Af.b3) @Fe @yD @qp ?_;have xF:aS≠m12/\aS≠k:=by
        have:=Af.lt;exact⟨aBH,aBH⟩
       exact fin g9 agI fM Rr (SW _ _ (dr xF.1) MD) (SW _ _ (dr xF.2) Ic)
      |false=>
       have awX:=ou (w:=.v (.bool true)) rfl MD;refine di @awX ?_;exact fin _ Jx true (Af.set aaQ) (aR (gl MD)) (by rw[av (dr I1)];exact Ic)
    rintro r g6 ⟨rfl,⟨Jx,fM,Rq,IC,sD⟩|hf⟩;refine⟨.ready,none,sD,aBJ,?_⟩;have I1:k≠m12:=by rintro rfl;rw[IC] at sD;cases sD
    refine di @vk.eq_1 ?_;exact⟨Jx,fM,trivial,Rq.set kl,by rw[av I1];exact IC⟩;exact hf.elim
  rintro e g5 ⟨aBw,c5,rfl,sA,CG⟩;refine fh (λe g'=>e=[(3,.mp (h.length+1) 0),(4,v),(8,.fn (.func 52) [.mp ks 0] [])]/\g'=g5) ?_ ?_
  · have done:∀b:Bool,fI G az 28 [.v (.bool b),.v (.int .i64 13)] g5 (λr h'=>h'=g5) λch h'=>ch=wV 13/\h'=g5:=λb=>e3 (vp b 13 g5) (λr h' q=>q.2) λch h' q=>q.2
    obtain⟨x,hx,jN,hxl⟩:=sA.at
    obtain⟨nm,bp,i1,p1,bf,a,al,rD,ex,b,bC,rfl,_⟩:=jN.at
    have ua:=hxl 9 _ rfl;cases c5 with
    |true=>
     refine nP (c6 CG) (c6 sA.b3) @Fe @yD @ua (e3 (done _) ?_ ?_);rintro r g6 rfl;exact dP tt;rintro ch g6 ⟨rfl,rfl⟩;exact eW 13 _ aBJ ⟨_,sA⟩
    |false=>
     refine di (c6 CG) (e3 (done _) ?_ ?_);rintro r g6 rfl;exact dP tt;rintro ch g6 ⟨rfl,rfl⟩;exact eW 13 _ aBJ ⟨_,sA⟩
  rintro e g6 ⟨rfl,rfl⟩;refine cM (λe g'=>∃cy f,e=[(3,.mp (h.length+1) 0),(14,cy),(15,.v (.int .i64 f))]/\((f=0/\Gn cy)\/f≠0)/\g'=g6) ?_ ?_;refine dP (aZ (auH bz hE (auq sA.s.A) hfn) ?_);rintro r g7 ⟨⟨cy,f,rfl,hq⟩,rfl⟩;refine di @ag.eq_1 ?_;exact⟨cy,f,rfl,hq.imp id λz=>z.1,trivial⟩;rintro e g7 ⟨cy,f,rfl,Aq,rfl⟩;refine fh (λe g'=>e=[(3,.mp (h.length+1) 0),(14,cy)]/\g'=g7/\Gn cy) ?_ ?_;refine dP (e3 (vp _ f g7) ?_ ?_);rintro r g8 ⟨hf,rfl⟩;have HW:f=0:=aEn
  refine dP ?_;exact⟨trivial,trivial,Aq.elim (λz=>z.2) λz=>absurd HW z⟩;rintro ch g8 ⟨hf,rfl,rfl⟩;exact eW f _ aEn ⟨_,sA⟩;rintro e g8 ⟨rfl,rfl,hN⟩;have hcl:dn cy:=by
   obtain⟨on,bq,ak,bv,F,E,e,rfl,ho,hb,_⟩:=hN;exact Yu ho hb
  refine cM (λe g'=>∃tab f,e=[(3,.mp (h.length+1) 0),(15,.v (.int .i64 f)),(16,tab)]/\((f=0/\yd tab)\/f≠0)/\g'=g8) ?_ ?_;refine dP ?_;refine aE.cY (auJ bz hN) ?_;rintro r ⟨tab,f,rfl,hq⟩;refine di @ag.eq_1 ?_;exact⟨tab,f,rfl,hq.imp id λz=>z.1,trivial⟩;rintro e g9 ⟨tab,f,rfl,htab,rfl⟩;refine fh (λe g'=>e=[(3,.mp (h.length+1) 0),(16,tab)]/\g'=g9/\yd tab) ?_ ?_;refine dP (e3 (vp _ f g9) ?_ ?_);rintro r g8 ⟨hf,rfl⟩;have HW:f=0:=aEn
  refine dP ?_;exact⟨trivial,trivial,htab.elim (λz=>z.2) λz=>absurd HW z⟩;rintro ch g8 ⟨hf,rfl,rfl⟩;exact eW f _ aEn ⟨_,sA⟩;rintro e g10 ⟨rfl,rfl,hT⟩;obtain⟨x,hx,jN,_⟩:=sA.at
  have hr2:mQ (putAt x 10 [tab]):=by
   obtain⟨y,b,bC,rfl,hy,ht⟩:=jN;obtain⟨h9,_⟩:=hy.ok;refine⟨y,b,tab,?_,hy,ax hT⟩;rw[Ui aBK,We _ _ aBH,h9];rfl
  have It:tab.cells=[tab]/\bn tab=true:=by
   obtain⟨rows,rfl,_⟩:=hT;exact⟨rfl,rfl⟩
  obtain⟨agI,aAr,qp,Rr,SW⟩:=sA.write hx aBJ It.1 It.2 hr2;refine kf (c6 sA.b3) @Fe @yD @qp ?_;rw[Uy];intro hp' he;exact dP ((Rr.fin he).q)
end
end
section
variable{x:List U}{g h hp:List aa}{ks:Nat}{mv lU v0 v1:U}{marks rows:List (List U)}{e:Int}
def Gq(x:U):Prop:=∃(au mv:U) (rows marks:List (List U)),x=.fp [au,mv] 0/\bL au (rows.map bT)/\bL mv (marks.map bT)/\(∀x∈rows,mQ x)/\(∀x∈marks,lJ x)/\0<rows.length/\rows.length<=24/\marks.length<=8
def KD(r:U):Prop:=∃(x:U) (e:Int),r=.aK [x,ag e]/\((e=0/\Gq x)\/(e≠0/\x=.v (.pointer none)))
def yd.fz{x:U}(h:yd x)(hp:List aa):aX hp x x:=by
 obtain⟨rows,rfl,hr,_⟩:=h;refine aX.fp (aA (fj (gh λr hr'=>?_)) bW);obtain⟨l,b,rfl,_⟩:=hr r hr';exact iO (zk (gh λn _=>aB _) (aA (aB _) bW))
def r0.Hy(h:r0 x)(hp:List aa):dD hp x x:=by
 obtain⟨nm,bp,i,p,bf,a,al,mv,ex,rfl,hg,hm,_⟩:=h;exact aA (aB _) (aA (hg.fz hp) (aA (aB _) (aA (aB _) (aA (aB _) (aA (aB _) (aA (aB _) (aA (hm.fz hp) (aA (aB _) bW))))))))
def mQ.Hy(h:mQ x)(hp:List aa):dD hp x x:=by
 obtain⟨y,b,bC,rfl,hy,ht⟩:=h;refine zk (hy.Hy hp) (aA (aB _) (aA ?_ bW))
 rcases ht with rfl|ht
 exact aB _;exact ht.fz hp
def Z7:∀{ls:List (List U)},(∀x∈ls,dD hp x x)->dD hp ls.flatten ls.flatten
 |[],_=>bW
 |x::r,h=>by
  rw[v7];exact zk (h x (zw ..)) (Z7 λy hy=>h y (qP _ hy))
def awB{v:U}{xs:List (List U)}(h:o9 v xs)(hx:∀x∈xs,aX hp (.agg x) (.agg x)):∃v',aX hp v v'/\bL v' (xs.map bT):=by
 rcases h with⟨rfl,rfl⟩|⟨t,rfl⟩
 exact⟨_,cS,ax ⟨rfl,rfl⟩⟩;exact⟨_,fj (gh hx),ay rfl⟩
def aw7{aS:Nat}{au:U}(s:mP ks aS au mv rows marks h)(h0:0<rows.length):∃n aQ,b9 h n (.aK [.mp ks 0,(0:Int)])=some aQ/\KD aQ:=by
 have h2:=aX.rs (sz:=11) (o:=0) (len:=rows.length) s.r.b rfl (Z7 λx hx=>(s.rc x hx).Hy h);have e:=Ht [] s.r.each;rw[eR,show([]:List U).length=0 from rfl] at e;rw[e,<-s.r.v] at h2;obtain⟨lg,bh,z2⟩:=awB s.m λx hx=>(s.eM x hx).fz h;obtain⟨n,hn⟩:=(dR (aA (aX.mp s.b (aA h2 (aA bh bW))) (aA (aB (.int .i64 0)) bW)):aX h (.aK [.mp ks 0,(0:Int)]) _).done;exact⟨n,_,hn,_,0,rfl,ay ⟨rfl,_,lg,rows,marks,rfl,ay rfl,z2,s.rc,s.eM,h0,s.rl,s.ml⟩⟩
def aw6(he:e≠0):∃n aQ,b9 hp n (.aK [.v (.pointer none),e])=some aQ/\KD aQ:=by
 obtain⟨n,hn⟩:=(dR (aA (aB (.pointer none)) (aA (aB (.int .i64 e)) bW)):aX hp _ _).done;exact⟨n,_,hn,_,e,rfl,ax ⟨he,rfl⟩⟩
section
variable{G:Cells}{hp:List aa}{K:List aa->Prop}
def as8(h:K hp):jb G az 26 [.mp 0 0,.mp 1 0] hp none K:=by
 refine SN.Lo (x:=none) trivial ?_;have e1:oC .cQ true (nL none) (.v .nilIface)=some (.v (.bool false)):=rfl;exact wy h
def am9(h0:hp[0]?=some (.cells [v0] false))(h1:hp[1]?=some (.cells [v1] false))
  (h:∀hp':List aa,hp'[0]?=some (.cells [.v (.pointer none)] false)->hp'[1]?=some (.cells [ag e] false)->K hp'):
  jb G az 26 [.mp 0 0,.mp 1 0] hp (some (.iface 84 (.agg #[.int .i64 e]))) K:=by
 refine SN.Lo (x:=some (.cQ 84 (.agg [.v (.int .i64 e)]))) ⟨rfl,rfl⟩ ?_;have e1:oC .cQ true (nL (some (.cQ 84 (.agg [.v (.int .i64 e)])))) (.v .nilIface)=some (.v (.bool true)):=rfl;have t1:D_ 84 (.agg [.v (.int .i64 0)]) true (nL (some (.cQ 84 (.agg [.v (.int .i64 e)]))))=some (.aK [.agg [.v (.int .i64 e)],.v (.bool true)]):=rfl;have s1:aF (hp++[.cells [.v (.int .i64 0)] false]) 1 (.mp hp.length 0) (.agg [.v (.int .i64 e)])=some (hp++[.cells [.v (.int .i64 e)] false]):=by
  simp only[aF,er (bl _),kj,l6,dJ];simp[gm,bn,putAt]
 have q0:(hp++[aj [.v (.int .i64 e)] false])[0]?=some (.cells [v0] false):=aM h0;have q1:(hp++[aj [.v (.int .i64 e)] false])[1]?=some (.cells [v1] false):=aM h1;have xI:(hp++[aj [.v (.int .i64 e)] false])[hp.length]?=some (.cells [.v (.int .i64 e)] false):=aBI
 have hlt:=gl h1;refine ni ?_;generalize hp++[aj [.v (.int .i64 e)] false]=g at q0 q1 xI⊢;generalize hp.length=m at xI hlt⊢;have z0:=ou (w:=.v (.pointer none)) rfl q0;have bh:=ou (k:=1) (g:=g.set 0 (.cells [.v (.pointer none)] false)) (v:=v1) (w:=.v (.int .i64 e)) rfl (by rw[av aBH];exact q1);have y0:=c6 xI;have y1:aq (g.set 0 (.cells [.v (.pointer none)] false)) false 1 (.mp m 0)=some (.v (.int .i64 e)):=c6 (by rw[av aBH];exact xI);have hg:=gl q1;refine nQ @y0 @z0 @bh @y1 @qE (h _ ?_ ?_);rw[av aBJ,aR aBH];rw[aR aBK];rfl
end
section
variable{G:Cells}
def awC(hx:x.length=11/\x.all bn=true):mb h 11 120 101 .af (.sl [.agg x] .exact)=some (.rs h.length [x].flatten.length 11 0 1,h++[.cells [x].flatten true]):=by
 have ok:bV 11 [bT x]=true:=sM (xs:=[x]) λy hy=>aEj
 have hfl:flat [bT x]=[x].flatten:=aEA
 have h3:¬([bT x]=([]:List U)):=aBI
 simp only[mb,contents,h3,if_false,ok,true_and,hfl,dm,fQ];rw[if_pos aBJ]
structure wA(ks:Nat)(lU mv:U)(rows:List (List U))(g:List aa):Prop where
 b:g[ks]?=some (.cells [lU,mv] false)
 r:(lU=.af/\rows=[])\/∃aS,gJ 11 g aS lU rows
 rc:∀x∈rows,mQ x
 rl:rows.length<=24
def wA.ext{g':List aa}(s:wA ks lU mv rows g)(he:Ext g g'):wA ks lU mv rows g':=
 ⟨he _ _ s.b,s.r.imp id λ⟨aS,hr⟩=>⟨aS,hr.keep λcs q=>he _ _ q⟩,s.rc,s.rl⟩
def wA.A(s:wA ks lU mv rows g)(hm:o9 mv marks)(yH:∀x∈marks,lJ x)(hml:marks.length<=8):qn g (.mp ks 0) lU mv rows marks:=by
 refine⟨q2.mp s.b,?_,l_.slc g hm λx hx=>(yH x hx).ok.1,s.rc,yH,s.rl,hml⟩
 rcases s.r with⟨rfl,rfl⟩|⟨aS,hr⟩
 exact l_.slc g (ay ⟨rfl,rfl⟩) aBI;exact l_.row hr
def wA.push(s:wA ks lU mv rows g)(hx:mQ x)(hl:rows.length<24):
  ∃v' g1,mb g 11 120 101 lU (.sl [.agg x] .exact)=some (v',g1)/\aF g1 1 (.mp ks 0) v'=some (g1.set ks (.cells [v',mv] false))/\wA ks v' mv (rows++[x]) (g1.set ks (.cells [v',mv] false))/\∀(j:Nat) cs,g[j]?=some (.cells cs false)->g1[j]?=some (.cells cs false):=by
 have hks:=gl s.b;have hxl:=hx.len;have rc':∀y∈rows++[x],mQ y:=λy hy=>by
  rcases dZ.1 hy with q|q
  exact s.rc y q;rw[cr.1 q];exact hx
 have st:∀{g1:List aa} {k n o l:Nat} {a b:U},g1[ks]?=some (.cells [a,b] false)->aF g1 1 (.mp ks 0) (.rs k n 11 o l)=some (g1.set ks (.cells [.rs k n 11 o l,b] false)):=λq=>by
  simp only[aF,q];rfl
 rcases s.r with⟨rfl,rfl⟩|⟨aS,hr⟩
 have hb:(g++[aj [x].flatten true])[ks]?=some (.cells [.af,mv] false):=aM s.b;have hE:jD 11 [x]:=λy hy=>by rw[cr.1 hy];exact hxl
 have hr:gJ 11 (g++[aj [x].flatten true]) g.length (.rs g.length [x].flatten.length 11 0 1) [x]:=gJ.new hE;refine⟨_,_,awC hxl,st hb,⟨aR aBK,ax ⟨g.length,hr.keep λcs q=>by rw[av aBH];exact q⟩,rc',aBI⟩,λj cs q=>aM q⟩;obtain⟨v',e1,hr'⟩:=hr.push (aY:=120) (e:=101) aBJ aBJ hxl aBH;have hne:ks≠aS:=by
  rintro rfl;have h2:=hr.b;rw[s.b] at h2;simp at h2
 have hb:(g.set aS (.cells (rows++[x]).flatten true))[ks]?=some (.cells [lU,mv] false):=by rw[av (dr hne)];exact s.b
 refine⟨v',_,e1,by rw[hr'.v];exact st hb,⟨aR (by simpa using hks),ax ⟨aS,hr'.keep λcs q=>by rw[av hne];exact q⟩,rc',aBK⟩,λj cs q=>?_⟩;rw[av (by rintro rfl;rw[hr.b] at q;simp at q)];exact q
def agt{F:U->Prop}{e:Env}(h0:g[0]?=some (.cells [v0] false))(h1:g[1]?=some (.cells [v1] false))(e2:eZ e 2=some (.mp 0 0))(bQ:eZ e 3=some (.mp 1 0))(hF:F (.aK [v0,v1])):
  @e_ _ (jn e g [(.c 2 false 1),(.c 3 false 1)]) ⟨F⟩:=by
 exact mG @e2 @bQ (c6 h0) (c6 h1) hF
def auI(bz:eE G)(hI:yf G)(s:List UInt8)(hs:s.length<=1000000):cx G az 9 [ai s] KD:=by
 refine cR (ME.go ?_);refine wy ?_;refine⟨[0,1],rfl,?_⟩
 conv in jc.bc _=>whnf
 have qs:∀{e:Env} (e2:eZ e 2=some (.mp 0 0)) (bQ:eZ e 3=some (.mp 1 0)) (ch:List PanicEntry) (h2:List aa),(∃aW,aW≠0/\ch=wV aW)->(∃v0,h2[0]?=some (.cells [v0] false))->(∃v1,h2[1]?=some (.cells [v1] false))->
   ∃v,ch=[{v:=v,recovered:=false}]/\jb G az 26 ([0,1].map λk=>.mp k 0) h2 (some v) λg=>@e_ _ (jn e g [(.c 2 false 1),(.c 3 false 1)]) ⟨λr=>∃n aQ,b9 g n r=some aQ/\KD aQ⟩:=by
  rintro e e2 bQ ch h2 ⟨aW,he,rfl⟩ ⟨v0,h0⟩ ⟨v1,h1⟩;exact⟨_,rfl,am9 h0 h1 λg g0 g1=>agt g0 g1 e2 bQ (aw6 he)⟩
 have LC:∀mv:U,bn mv=true->cm [.af,.af] [(1,1,mv)]=some [.af,mv]:=λmv h1=>by
  have hc:mv.cells=[mv]:=by cases mv<;>first|rfl|cases h1
  simp[cm,hc,h1,putAt]
 have Iw:[bP (.string ⟨[].toArray⟩),.af,.v (.bool false),.v (.bool false),.v (.bool false),.v (.int .i64 0),.v (.bool false),.af,.v (.string ⟨[].toArray⟩)]=eV:=rfl;have f11:∀x:List U,r0 x->cm [.v (.string ⟨[].toArray⟩),.af,.v (.bool false),.v (.bool false),.v (.bool false),.v (.int .i64 0),.v (.bool false),.af,.v (.string ⟨[].toArray⟩),.v (.bool false),.v (.pointer none)] [(0,9,.agg x)]=some (x++[.v (.bool false),.v (.pointer none)]):=λx hx=>by
  obtain⟨nm,bp,i,p,bf,a,al,mv,ex,rfl,hg,hm,_⟩:=hx;simp[cm,gm,cU,putAt,hg.one.1,hm.one.1,bn,ai]
 have SZ:∀{g:List aa} {a b:U},g[3]?=some (.cells [a,b] false)->aq g false 1 (.mp 3 0)=some a:=λq=>by simp only[aq,q];rfl
 refine fh (λe g=>∃(au mv:U) (aW:Int) (nodes marks:List (List U)),e=[(2,.mp 0 0),(3,.mp 1 0),(4,.mp 2 0),(6,.v (.int .i64 aW))]/\g=[aj [bP (.pointer none)] false,aj [bP (.int .i64 0)] false,aj [au,mv] false]/\bL au (nodes.map bT)/\bL mv (marks.map bT)/\(∀x∈nodes,r0 x)/\(∀x∈marks,lJ x)/\nodes.length<=24/\marks.length<=8) ?_ ?_;refine wy ?_;refine aE.cY (avo bz hI s hs) ?_;rintro r ⟨au,mv,aV,e,rfl,nodes,marks,Ik,jv,hnc,yH,vi,hml⟩
 have on:bn au=true/\au.cells=[au]:=by rcases Ik with rfl|⟨rfl,_⟩<;>exact⟨rfl,rfl⟩
 have nI:bn mv=true/\mv.cells=[mv]:=aCX
 have vJ:aF [aj [bP (.pointer none)] false,aj [bP (.int .i64 0)] false,aj [.af,.af] false] 2 (.mp 2 0) (.agg [au,mv])=some [aj [bP (.pointer none)] false,aj [bP (.int .i64 0)] false,aj [au,mv] false]:=Vl (k:=2) rfl rfl on.1 nI.1;refine wy ?_;exact⟨au,mv,e,nodes,marks,rfl,rfl,Ik,jv,hnc,yH,vi,hml⟩;rintro e g ⟨au,mv,aW,nodes,marks,rfl,rfl,Ik,jv,hnc,yH,vi,hml⟩
 have nI:bn mv=true/\mv.cells=[mv]:=aCX
 have abb:o9 mv marks:=by
  rcases jv with rfl|⟨rfl,z⟩
  exact ax ⟨_,rfl⟩;exact ay ⟨rfl,aCa⟩
 refine fh (λe g=>e=[(2,.mp 0 0),(3,.mp 1 0),(4,.mp 2 0)]/\g=[aj [bP (.pointer none)] false,aj [bP (.int .i64 0)] false,aj [au,mv] false]) ?_ ?_;refine wy (e3 (vp _ aW _) ?_ ?_);rintro r g ⟨he,rfl⟩;exact wx tt;rintro ch g ⟨he,rfl,rfl⟩;exact qs rfl rfl _ _ ⟨aW,aCM,rfl⟩ ⟨_,rfl⟩ ⟨_,rfl⟩;rintro e g ⟨rfl,rfl⟩;have bc:(bT [.af,mv]).cells=[.af,mv]:=rfl;have ln:=Ik.bO;rw[b_] at ln;refine cM (λe g=>e=[(2,.mp 0 0),(3,.mp 1 0),(4,.mp 2 0)]/\g=[aj [bB 3 0] false,aj [bP (.int .i64 0)] false,aj [au,mv] false,aj [.af,mv] false]) ?_ ?_;exact kg (LC mv nI.1) @bc tt;rintro e g ⟨rfl,rfl⟩;refine cM (λe g=>∃lU rows,e=[(2,.mp 0 0),(3,.mp 1 0)]/\g[0]?=some (.cells [.mp 3 0] false)/\g[1]?=some (.cells [.v (.int .i64 0)] false)/\wA 3 lU mv rows g) ?_ ?_;refine wy ?_;refine cj (λi e g=>∃lU rows,e=[(2,.mp 0 0),(3,.mp 1 0),(26,au),(27,ag nodes.length),(28,ag i)]/\g[0]?=some (.cells [.mp 3 0] false)/\g[1]?=some (.cells [.v (.int .i64 0)] false)/\wA 3 lU mv rows g/\rows.length=i) nodes.length ⟨.af,[],rfl,rfl,rfl,⟨rfl,ay ⟨rfl,rfl⟩,aBI,aBJ⟩,rfl⟩ ?_ ?_;rintro i e g hi ⟨lU,rows,rfl,g0,g1,hS,abp⟩;obtain⟨x,hx⟩:=cD hi;have CA:=hnc x (bG hx);obtain⟨hx1,hx2,_⟩:=CA.ok;have e1:bu 9 au (.v (.int .i64 (i:Int)))=some (.fp x 0):=Ik.bK (x:=.agg x) aBU hx1;have e2:=λhp=>o9.eG hx1 hp;have nn:=I4 g hx1 hx2;have kx:(g++[aj x false])[g.length]?=some (.cells x false):=aBI
 have Er:(g++[aj x false])[0]?=some (.cells [.mp 3 0] false):=aM g0;have g12:(g++[aj x false])[1]?=some (.cells [.v (.int .i64 0)] false):=aM g1;have eB:=hS.ext (g':=g++[aj x false]) jV;refine ni ?_;generalize g.length=m at kx⊢;generalize g++[aj x false]=g2 at kx Er g12 eB⊢;have lx:aq g2 true 9 (.mp m 0)=some (.agg x):=by
  simp only[aq,kx];unfold dB;rw[if_pos rfl,if_pos aBH,nk,kG aBH]
 have hrow:mQ (x++[.v (.bool false),.v (.pointer none)]):=⟨x,false,_,rfl,CA,ay rfl⟩;obtain⟨v',g3,p1,p2,p3,fW⟩:=eB.push hrow aBH;have ab:dA 11 [.agg (x++[.v (.bool false),.v (.pointer none)])]=some (.sl [.agg (x++[.v (.bool false),.v (.pointer none)])] .exact):=by
  have:=sM (n:=11) (xs:=[x++[.v (.bool false),.v (.pointer none)]]) λy hy=>by rw[cr.1 hy];exact hrow.len
  simp only[eD,kX] at this;simp[dA,this]
 have Hz:=fW _ _ Er;refine vS (c6 Er) (SZ eB.b) @lx (f11 x CA) @ab @p1 (c6 Hz) @p2 @qE ?_;refine⟨v',_,rfl,?_,?_,p3,by simp[abp]⟩;rw[av aBJ];exact Hz;rw[av aBJ];exact fW _ _ g12;rintro e g ⟨lU,rows,rfl,g0,g1,hS,abp⟩;refine di @ag.eq_1 ?_;exact⟨lU,rows,trivial,g0,g1,hS⟩;rintro e g ⟨lU,rows,rfl,g0,g1,hS⟩;refine fh (λe g=>e=[(2,.mp 0 0),(3,.mp 1 0)]/\g[0]?=some (.cells [.mp 3 0] false)/\g[1]?=some (.cells [.v (.int .i64 0)] false)/\0<rows.length/\∃aS,mP 3 aS lU mv rows marks g) ?_ ?_;refine wy (e3 (auG (hS.A abb yH hml) rfl) ?_ ?_);rintro r g2 ⟨⟨l,rfl⟩,hpos⟩;refine dP ?_;refine⟨trivial,aM g0,aM g1,hpos,?_⟩;have eB:=hS.ext (g':=g++l) jV
 rcases eB.r with⟨_,z⟩|⟨aS,hr⟩
 rw[z] at hpos;exact absurd hpos aBJ;exact⟨aS,eB.b,hr,abb,eB.rc,yH,eB.rl,hml⟩;rintro ch g2 ⟨e,he,rfl,l,rfl⟩;exact qs rfl rfl _ _ ⟨e,he,rfl⟩ ⟨_,aM g0⟩ ⟨_,aM g1⟩;rintro e g2 ⟨rfl,Er,g12,hpos,aS,hM⟩;refine fh (λe g=>∃gx,e=[(2,.mp 0 0),(3,.mp 1 0)]/\g[0]?=some (.cells [.mp 3 0] false)/\g[1]?=some (.cells [.v (.int .i64 0)] false)/\mP 3 aS lU mv gx marks g/\gx.length=rows.length) ?_ ?_;have hrl:=hM.rl;refine ze (c6 Er) (SZ hM.b) @hM.r.len ?_;refine cj (λi e g=>∃gx,e=[(2,.mp 0 0),(3,.mp 1 0),(50,ag rows.length),(51,ag i)]/\g[0]?=some (.cells [.mp 3 0] false)/\g[1]?=some (.cells [.v (.int .i64 0)] false)/\mP 3 aS lU mv gx marks g/\gx.length=rows.length) rows.length ⟨rows,rfl,Er,g12,hM,rfl⟩ ?_ ?_;rintro i e g hi ⟨gx,rfl,g0,g1,hM,abq⟩;have hi':i<gx.length:=aBH
 have xF:aS≠0/\aS≠1:=by
  have hb:=hM.r.b;refine⟨?_,?_⟩<;>rintro rfl;rw[g0] at hb;simp at hb;rw[g1] at hb;simp at hb
 refine aiD (c6 g0) (SZ hM.b) (hM.r.bK hi') (e3 (alR bz hM hi') ?_ ?_);rintro r g3 ⟨Di,HH,h3,_,kp⟩;refine dP ?_;exact⟨Di,rfl,kp _ _ (dr xF.1) g0,kp _ _ (dr xF.2) g1,HH,aBH⟩;rintro ch g3 ⟨e,he,rfl,Di,HH,h3,_,kp⟩;exact qs rfl rfl _ _ ⟨e,he,rfl⟩ ⟨_,kp _ _ (dr xF.1) g0⟩ ⟨_,kp _ _ (dr xF.2) g1⟩;rintro e g ⟨gx,rfl,g0,g1,hM,abq⟩;refine di @ag.eq_1 ?_;exact⟨gx,trivial,g0,g1,hM,abq⟩;rintro e g3 ⟨Di,rfl,Hz,g13,HH,h3⟩;have g14:(g3.set 0 (.cells [.mp 3 0] false))[1]?=some (.cells [.v (.int .i64 0)] false):=by rw[av aBJ];exact g13
 have k1:=aR (a:=.cells [.v (.int .i64 0)] false) (gl g14);have k0:((g3.set 0 (.cells [.mp 3 0] false)).set 1 (.cells [.v (.int .i64 0)] false))[0]?=some (.cells [.mp 3 0] false):=by
  rw[av aBJ,aR (gl Hz)]
 have xF:aS≠0/\aS≠1:=by
  have hb:=HH.r.b;refine⟨?_,?_⟩<;>rintro rfl;rw[Hz] at hb;simp at hb;rw[g13] at hb;simp at hb
 have an9:=(HH.set (j:=0) (b':=.cells [.mp 3 0] false) aBJ (dr xF.1)).set (j:=1) (b':=.cells [.v (.int .i64 0)] false) aBJ (dr xF.2);exact wy (as8 (agt k0 k1 rfl rfl (aw7 an9 aBH)))
end
end
section
variable{v:U}{rows:List (List U)}
structure jF(S au mv:U)(rows marks:List (List U)):Prop where
 eq:S=.fp [au,mv] 0
 n:bL au (rows.map bT)
 m:bL mv (marks.map bT)
 rc:∀x∈rows,mQ x
 eM:∀x∈marks,lJ x
 aQ:0<rows.length
 rl:rows.length<=24
 ml:marks.length<=8
def Gq.c{S:U}(h:Gq S):∃au mv rows marks,jF S au mv rows marks:=by
 obtain⟨au,mv,rows,marks,e,h1,h2,h3,h4,h5,h6,h7⟩:=h;exact⟨au,mv,rows,marks,e,h1,h2,h3,h4,h5,h6,h7⟩
def aly{x:U}(h:yd x):dn x:=by
 obtain⟨rows,rfl,h1,_⟩:=h;refine BT λc hc=>?_;rw[cr.1 hc];refine jZ λx hx c hc=>?_;obtain⟨r,hr,rfl⟩:=cO.1 hx;obtain⟨l,b,rfl,_⟩:=h1 r hr
 rcases dZ.1 (show c∈l.map ag++[.v (.bool b)] from hc) with q|q
 obtain⟨n,_,rfl⟩:=cO.1 q;exact bM _;rw[cr.1 q];exact bM _
def alx(h:bL v (rows.map bT))(hr:∀x∈rows,mQ x):dn v:=by
 have hx:∀x∈rows.map bT,∀c∈x.cells,dn c:=λx hx c hc=>by
  obtain⟨y,hy,rfl⟩:=cO.1 hx;obtain⟨nm,bp,i1,p1,bf,a,al,rD,ex,b,bC,rfl,⟨l1,g1,_⟩,⟨l2,g2,_⟩,_,ht⟩:=(hr y hy).at
  have gr:c∈[ai nm,bp,.v (.bool i1),.v (.bool p1),.v (.bool bf),.v (.int .i64 a),.v (.bool al),rD,ai ex,.v (.bool b),bC]:=hc;simp only[ek,oz,or_false] at gr
  rcases gr with rfl|rfl|rfl|rfl|rfl|rfl|rfl|rfl|rfl|rfl|rfl
  exact bM _;exact n6 g1;exact bM _;exact bM _;exact bM _;exact bM _;exact bM _;exact n6 g2;exact bM _;exact bM _
  rcases ht with rfl|ht
  exact bM _;exact aly ht
 rcases h with rfl|⟨rfl,_⟩
 exact jZ hx;exact mg
def alw(h:bL v (rows.map bT))(hr:∀x∈rows,lJ x):dn v:=by
 have hx:∀x∈rows.map bT,∀c∈x.cells,dn c:=λx hx c hc=>by
  obtain⟨y,hy,rfl⟩:=cO.1 hx;obtain⟨nm,n,al,bv,rfl,l,g1,_⟩:=hr y hy;have gr:c∈c7 nm n al bv:=hc;simp only[c7,ek,oz,or_false] at gr
  rcases gr with rfl|rfl|rfl|rfl
  exact bM _;exact bM _;exact bM _;exact n6 g1
 rcases h with rfl|⟨rfl,_⟩
 exact jZ hx;exact mg
def abO(i:Nat)(x:List U):Bool:=match x[i]? with
 |some (.v (.bool b))=>b
 |_=>false
def abP(i:Nat)(x:List U):Int:=match x[i]? with
 |some (.v (.int _ n))=>n
 |_=>0
def rowOf(rows:List (List U))(t:Int):Option (List U):=if 1<=t then rows[(t-1).toNat]? else none
def AL(rows:List (List U))(t:Int):Bool:=t==0||(rowOf rows t).any (abO 4)
def j6(rows:List (List U))(t:Int):Bool:=t==0||(rowOf rows t).any (abO 2)
def yt(rows:List (List U))(t:Int):Int:=((rowOf rows t).map (abP 5)).getD 0
section
variable{G:Cells}{S au mv:U}{rows marks:List (List U)}
def jF.clean(s:jF S au mv rows marks):dn S:=by
 rw[s.eq];refine BT λc hc=>?_;simp only[ek,oz,or_false] at hc
 rcases hc with rfl|rfl
 exact alx s.n s.rc;exact alw s.m s.eM
def jF.eG(s:jF S au mv rows marks)(h:List aa):aq h false 1 (.fp [au,mv] 0)=some au/\aq h false 1 (.fp [au,mv] 1)=some mv:=⟨rfl,rfl⟩
def ayM(s:jF S au mv rows marks):ck G az 146 [S] (.v (.int .i64 (rows.length:Int))):=by
 rw[s.eq];refine ef (SH.go ?_);have ln:=s.n.bO;rw[b_] at ln;refine wy ?_;exact(aB _).done
def PT(s:jF S au mv rows marks){t:Int}(h:rowOf rows t=none):ck G az 37 [S,.v (.int .i64 t)] (.v (.pointer none)):=by
 rw[s.eq];refine ef (MH.go ?_);have hrl:=s.rl;have ln:=s.n.bO;rw[b_] at ln;refine wy ?_;refine bA (λq=>?_) λq=>?_;refine wy ?_;exact(aB _).done;refine wy ?_;refine bA (λah=>?_) λah=>?_;refine wy ?_;exact(aB _).done;exfalso;unfold rowOf at h;have q1:¬t<1:=aBN
 rw[if_pos aBH,aje] at h;simp at ah;omega
def PU(s:jF S au mv rows marks){i:Nat}{x:List U}(hx:rows[i]?=some x):ck G az 37 [S,.v (.int .i64 ((i:Int)+1))] (.fp x 0):=by
 rw[s.eq];refine ef (MH.go ?_);have hrl:=s.rl;have hi:=(bE.1 hx).1;have ln:=s.n.bO;rw[b_] at ln;have hr:=s.rc x (bG hx);have bK:bu 11 au (.v (.int .i64 (i:Int)))=some (.fp x 0):=s.n.bK (x:=.agg x) aBU hr.len.1;have w1:b7.wrap ((i:Int)+1-1)=(i:Int):=by rw[wrap_i64 aBH aBH];omega
 have d1:decide ((i:Int)+1<1)=false:=decide_eq_false aBH;have d2:decide ((i:Int)+1>(rows.length:Int))=false:=decide_eq_false aBH;refine wy ?_;exact(aX.fp (hr.Hy _)).done
def Uz(rows:List (List U))(t:Int):rowOf rows t=none\/∃(i:Nat) (x:List U),t=(i:Int)+1/\rows[i]?=some x/\rowOf rows t=some x:=by
 cases h:rowOf rows t with
 |none=>exact ay rfl
 |some x=>
  right;unfold rowOf at h;split at h;exact⟨(t-1).toNat,x,aBH,h,rfl⟩;cases h
def abH(s:jF S au mv rows marks)(t:Int):ck G az 17 [S,.v (.int .i64 t)] (.v (.bool (j6 rows t))):=by
 have hc:=s.clean;have e:=s.eq;refine ef (SG.go ?_);refine fY ?_
 rcases Uz rows t with h|⟨i,x,rfl,hx,hr⟩
 refine dx (PT s h) (aP hc (aP (bM _) bS)) ?_;rw[e];unfold j6;rw[h];refine wy ?_;refine bA (λq=>?_) λq=>?_;refine wy ?_;exact(aB _).done;refine cV @q ?_;exact(aB _).done;obtain⟨nm,bp,i1,p1,bf,a,al,rD,ex,b,bC,rfl,_⟩:=(s.rc x (bG hx)).at
 refine dx (PU s hx) (aP hc (aP (bM _) bS)) ?_;rw[e];unfold j6;rw[hr];have q0:((i:Int)+1==0)=false:=beq_eq_false_iff_ne.2 aBH;refine wy ?_;exact(aB _).done
def IK(s:jF S au mv rows marks)(t:Int):ck G az 83 [S,.v (.int .i64 t)] (.v (.bool (AL rows t))):=by
 have hc:=s.clean;have e:=s.eq;refine ef (abT.go ?_);refine fY ?_
 rcases Uz rows t with h|⟨i,x,rfl,hx,hr⟩
 refine dx (PT s h) (aP hc (aP (bM _) bS)) ?_;rw[e];unfold AL;rw[h];refine wy ?_;refine bA (λq=>?_) λq=>?_;refine wy ?_;exact(aB _).done;refine cV @q ?_;exact(aB _).done;obtain⟨nm,bp,i1,p1,bf,a,al,rD,ex,b,bC,rfl,_⟩:=(s.rc x (bG hx)).at
 refine dx (PU s hx) (aP hc (aP (bM _) bS)) ?_;rw[e];unfold AL;rw[hr];have q0:((i:Int)+1==0)=false:=beq_eq_false_iff_ne.2 aBH;refine wy ?_;exact(aB _).done
def akF(s:jF S au mv rows marks)(t:Int):ck G az 121 [S,.v (.int .i64 t)] (.v (.int .i64 (yt rows t))):=by
 have hc:=s.clean;have e:=s.eq;refine ef (aci.go ?_);refine fY ?_
 rcases Uz rows t with h|⟨i,x,rfl,hx,hr⟩
 refine dx (PT s h) (aP hc (aP (bM _) bS)) ?_;unfold yt;rw[h];refine fY ?_;exact(aB _).done;obtain⟨nm,bp,i1,p1,bf,a,al,rD,ex,b,bC,rfl,_⟩:=(s.rc x (bG hx)).at
 refine dx (PU s hx) (aP hc (aP (bM _) bS)) ?_;unfold yt;rw[hr];refine wy ?_;exact(aB _).done
def GL(s:jF S au mv rows marks)(t a:Int):ck G az 82 [S,.v (.int .i64 t),.v (.int .i64 a)] (.v (.bool (decide (t>=1)&&decide (t<=(rows.length:Int))&&decide (a>=0)&&decide (a<=yt rows t)))):=by
 have hc:=s.clean;refine ef (abS.go ?_);refine wy ?_;refine bA (λq=>?_) λq=>?_;refine wy ?_;refine dx (ayM s) (aP hc bS) ?_;refine wy ?_;refine bA (λah=>?_) λah=>?_;refine wy ?_;refine bA (λaN=>?_) λaN=>?_;refine wy ?_;refine dx (akF s t) (aP hc (aP (bM _) bS)) ?_;refine wy ?_;exact(aB _).done;refine wy ?_;exact(aB _).done;refine wy ?_;exact(aB _).done;refine wy ?_;exact(aB _).done
end
end
def me(l:List UInt8)(i:Nat):Nat:=(l[i]?.getD 0).toNat
@[go_sem]def tG{l:List UInt8}{i:Nat}{k:IntKind}(h:i<l.length):tv (ai l) (.v (.int k (i:Int)))=some (.v (.int .u8 (me l i:Int))):=by
 obtain⟨c,hc⟩:=cD h;rw[Yp hc];unfold me;rw[hc];rfl
section
variable{G:Cells}
def U1(c:Int):ck G az 200 [.v (.int .u8 c)] (.v (.bool (decide (97<=c)&&decide (c<=122)))):=by
 refine ef (asa.go ?_);refine wy ?_
 repeat' refine ba (λq'=>?_) λq'=>?_
 all_goals exact(aB _).done
def Lp(c:Int):ck G az 201 [.v (.int .u8 c)] (.v (.bool (decide (48<=c)&&decide (c<=57)))):=by
 refine ef (asb.go ?_);refine wy ?_
 repeat' refine ba (λq'=>?_) λq'=>?_
 all_goals exact(aB _).done
def L6{v:U}{l:List (List UInt8)}(hv:bL v (l.map ai))(hl:l.length<=1000000000)(x:List UInt8):cx G az 139 [v,ai x] gW:=by
 refine cR (ac0.go ?_);have ln:=hv.bO;rw[b_] at ln;refine wy ?_;refine cj (λi e h=>e=[(0,v),(1,ai x),(5,ag i)]/\h=[]) l.length ⟨rfl,rfl⟩ ?_ ?_
 · rintro i e h hi ⟨rfl,rfl⟩
   obtain⟨s,hs⟩:=cD hi;have e1:bu 1 v (.v (.int .i64 (i:Int)))=some (.fp [ai s] 0):=hv.bK (x:=ai s) aEs rfl;refine wy ?_
   repeat' refine ba (λq'=>?_) λq'=>?_
   exact gj _;exact⟨rfl,trivial⟩
 rintro e h ⟨rfl,rfl⟩;exact wy (gj _)
def Tw(s:List UInt8)(hs:s.length<=1000000000):cx G az 133 [ai s] gW:=by
 refine cR (arO.go ?_);refine wy ?_;refine cj (λi e h=>e=[(0,ai s),(3,ag i)]/\h=[]) s.length ⟨rfl,rfl⟩ ?_ ?_
 · rintro i e h hi ⟨rfl,rfl⟩
   refine lC ?_
   repeat' refine ba (λq'=>?_) λq'=>?_
   all_goals first|(exfalso;omega)|exact gj _|exact⟨rfl,trivial⟩|exact⟨rfl,rfl⟩|exact⟨trivial,trivial⟩
 · rintro e h ⟨rfl,rfl⟩
   refine wy ?_
   repeat' refine ba (λq'=>?_) λq'=>?_
   all_goals exact gj _
def YO(s:List UInt8)(hs:s.length<=1000000000):cx G az 195 [ai s] (Ko s.length):=by
 refine cR (ar7.go ?_);refine wy ?_;refine cj (λi e h=>e=[(0,ai s),(5,ag i)]/\h=[]) s.length ⟨rfl,rfl⟩ ?_ ?_
 · rintro i e h hi ⟨rfl,rfl⟩
   have k1:=λhp=>Lm (l:=s) (j:=i) aBH hp;have k2:=λhp=>Qp (l:=s) (i:=i+1) aBH hp;refine p_ @tG ?_
   repeat' refine ba (λq'=>?_) λq'=>?_
   exact Hq _ aBK aBI;exact⟨rfl,trivial⟩
 rintro e h ⟨rfl,rfl⟩;exact wy (Hq (b:=[]) _ (bl _) aBI)
def OB(s:List UInt8)(aV:Nat):∃p e:Int,e≠0/\ck G az 247 [ai s,.v (.int .i64 (aV:Int))] (.aK [.v (.int .i64 p),.v (.int .i64 e)]):=by
 rcases cE aV s.length with h|h
 refine⟨aV,2,aBJ,ef (adT.go ?_)⟩;exact wy ((dR (aA (aB _) (aA (aB _) bW))).done);refine⟨s.length,5,aBJ,ef (adT.go ?_)⟩;exact wy ((dR (aA (aB _) (aA (aB _) bW))).done)
def WN(n aV:Nat)(r:U):Prop:=∃(m:Int) (p:Nat),r=.aK [.v (.int .i64 m),.v (.int .i64 (p:Int))]/\p<=n/\(m= -1\/(0<=m/\m<=99/\aV<p))
def z_{hp:List aa}{n aV:Nat}{m:Int}{p:Nat}(h1:p<=n)(h2:m= -1\/(0<=m/\m<=99/\aV<p)):∃k aQ,b9 hp k (.aK [.v (.int .i64 m),.v (.int .i64 (p:Int))])=some aQ/\WN n aV aQ:=by
 obtain⟨k,hk⟩:=(dR (aA (aB (.int .i64 m)) (aA (aB (.int .i64 (p:Int))) bW)):aX hp _ _).done;exact⟨k,_,hk,m,p,rfl,h1,h2⟩
def afC(s:List UInt8)(hs:s.length<=1000000000)(aV:Nat)(ha:aV<=s.length):cx G az 246 [ai s,.v (.int .i64 (aV:Int))] (WN s.length aV):=by
 refine cR (aso.go ?_);have ws:∀c:Int,48<=c->c<=57->b7.wrap (IntKind.u8.wrap (c-48))=c-48:=λc h1 h2=>by
  rw[wrap_u8,Int.emod_eq_of_lt aBH aBH,wrap_i64 aBH aBH]
 have ay5:∀c d:Int,48<=c->c<=57->48<=d->d<=57->b7.wrap (b7.wrap (10*(c-48))+(d-48))=10*(c-48)+(d-48):=λc d h1 h2 h3 h4=>by
  rw[wrap_i64 (n:=10*(c-48)) aBH aBH,wrap_i64 aBH aBH]
 rcases cE aV s.length with h0|h0
 refine wx ?_;refine aE.pu (Lp (me s aV:Int)) ?_;cases hd:(decide ((48:Int)<=(me s aV:Int))&&decide ((me s aV:Int)<=57)) with
 |false=>
  exact wx (z_ aBH (ay rfl))
 |true=>
  simp only[dY,decide_eq_true_eq] at hd;have e1:=ws _ hd.1 hd.2;refine wx ?_
  rcases cE (aV+1) s.length with h1|h1
  refine wx ?_;refine aE.pu (Lp (me s (aV+1):Int)) ?_;cases pN:(decide ((48:Int)<=(me s (aV+1):Int))&&decide ((me s (aV+1):Int)<=57)) with
  |false=>
   refine wx ?_;exact z_ aBH (ax ⟨aBH,aBH,aBH⟩)
  |true=>
   simp only[dY,decide_eq_true_eq] at pN;have e2:=ws _ pN.1 pN.2;have bQ:=ay5 _ _ hd.1 hd.2 pN.1 pN.2;refine wx ?_;refine b8 (λq=>?_) λq=>?_;exact z_ aBH (ay rfl)
   rcases cE (aV+1+1) s.length with h2|h2
   refine wx ?_;refine aE.pu (Lp (me s (aV+1+1):Int)) ?_;cases(decide ((48:Int)<=(me s (aV+1+1):Int))&&decide ((me s (aV+1+1):Int)<=57)) with
   |true=>
    refine wx ?_;exact z_ aBH (ay rfl)
   |false=>
    refine wx ?_;exact z_ aBH (ax ⟨aBH,aBH,aBH⟩)
   refine wx ?_;exact z_ aBH (ax ⟨aBH,aBH,aBH⟩)
  refine wx ?_;exact z_ aBH (ax ⟨aBH,aBH,aBH⟩)
 refine wx ?_;exact z_ aBH (ay rfl)
end
section
variable{hp:List aa}{v:U}{m n:Nat}
def aiz(n:Int): -9223372036854775808<=b7.wrap n/\b7.wrap n<=9223372036854775807:=by
 simp only[VW,F5,F6];constructor<;>(simp;split<;>omega)
def OA(n:Int):0<=DD.wrap n/\DD.wrap n<18446744073709551616:=by
 rw[wrap_u64];omega
@[go_sem]def Y8(a:List UInt8):ct .eql (ai a) (.v (.string ⟨[].toArray⟩))=some (.v (.bool (a==[]))):=mj a []
@[go_sem]def BN{xs:List U}{e:TypeId}(hA:bX hp v xs n e)(g:List aa):bO v g=some (.v (.int .i64 (xs.length:Int)),g):=by
 rcases hA with⟨rfl,rfl⟩|⟨id,rfl,_⟩<;>rfl
def Gl(a b:Int)(r:U):Prop:=∃n:Int,r=.v (.int .i64 n)/\a<=n/\n<=b
def q_{a b n:Int}(h1:a<=n)(h2:n<=b):∃k aQ,b9 hp k (.v (.int .i64 n))=some aQ/\Gl a b aQ:=by
 obtain⟨k,hk⟩:=(aB (.int .i64 n):aX hp _ _).done;exact⟨k,_,hk,n,rfl,h1,h2⟩
def zG(m n:Nat)(v:U):Prop:=∃l:List (List UInt8),bL v (l.map ai)/\l.length<=m/\∀w∈l,w.length<=n
def zG.nil(m n:Nat):zG m n .af:=⟨[],ax ⟨rfl,rfl⟩,ic _,aBI⟩
def akA{l:List (List UInt8)}(h:bX hp v (l.map ai) 1 9)(h1:l.length<=m)(h2:∀w∈l,w.length<=n):∃v',aX hp v v'/\zG m n v':=by
 rcases h with⟨rfl,z⟩|⟨id,rfl,_⟩
 exact⟨_,cS,zG.nil _ _⟩;exact⟨_,fj (gh λa _=>aB _),l,ay rfl,h1,h2⟩
def WH(m n:Nat)(r:U):Prop:=∃(v:U) (p e:Int),r=.aK [v,.v (.int .i64 p),.v (.int .i64 e)]/\zG m n v
def QX{v':U}{p e:Int}(h:aX hp v v')(h2:zG m n v'):∃k aQ,b9 hp k (.aK [v,.v (.int .i64 p),.v (.int .i64 e)])=some aQ/\WH m n aQ:=by
 obtain⟨k,hk⟩:=(dR (aA h (aA (aB (.int .i64 p)) (aA (aB (.int .i64 e)) bW))):aX hp _ _).done;exact⟨k,_,hk,v',p,e,rfl,h2⟩
section
variable{G:Cells}
def avv(c:Int):cx G az 132 [.v (.int .u8 c)] gW:=by
 refine cR (aq_.go ?_);refine wy ?_
 repeat' refine ba (λq'=>?_) λq'=>?_
 all_goals exact gj _
def al9(n:Nat)(hn:n<18446744073709551616):cx G az 280 [.v (.int .u64 (n:Int))] (wB 20):=by
 refine cR (ara.go ?_);refine wy ?_;refine mF (n:=n+1) (λm e h=>∃(i k:Nat) (t:List UInt8),m=(if i=0 then k+1 else k)/\i<=20/\k<10^(20-i)/\t.length=i/\k<18446744073709551616/\e=[(0,.v (.int .u64 (k:Int))),(3,ai t),(4,ag i)]/\h=[]) ⟨0,n,[],rfl,aBH,aBH,rfl,hn,rfl,rfl⟩ ?_;rintro m e h ⟨i,k,t,rfl,hi,hk,ht,hk2,rfl,rfl⟩;have e1:ct .rem (.v (.int .u64 (k:Int))) (.v (.int .u64 10))=some (.v (.int .u64 ((k:Int).tmod 10))):=by rw[PB _ _ _ aBJ]
 have e2:ct .quo (.v (.int .u64 (k:Int))) (.v (.int .u64 10))=some (.v (.int .u64 ((k/10:Nat):Int))):=by
  rw[PA _ _ _ aBJ,wrap_u64];congr 4;rw[Int.tdiv_eq_ediv_of_nonneg aBH];omega
 have bQ:∀x:Int,GB (.sl [.v (.int .u8 x)] .exact)=some (ai [rY x.toNat]):=λx=>rfl;have cC:∀x:Int,ct .add (ai [rY x.toNat]) (ai t)=some (ai ([rY x.toNat]++t)):=λx=>r9 aBK;have next:(i=0\/0<k)->i<20/\k/10<10^(20-(i+1))/\(if i+1=0 then k/10+1 else k/10)<(if i=0 then k+1 else k):=by
  intro hc;have Rl:i<20:=by
   rcases cE i 20 with z|z
   exact z;have:i=20:=aBH
   subst this;simp at hk;omega
  refine⟨Rl,?_,?_⟩;have:20-i=20-(i+1)+1:=aBH
  rw[this,Nat.pow_succ] at hk;omega;rw[if_neg aBH];split;omega
  rcases hc with z|z
  omega;omega
 refine wy ?_
 repeat' ((refine ba (λq'=>?_) λq'=>?_)<;>refine nP @e1 @e2 @bQ @cC @wD ?_)
 all_goals first
  |exact pG aBH
  |(obtain⟨bh,z2,z3⟩:=next aBH
    exact⟨_,z3,i+1,k/10,_,rfl,aBH,z2,aBK,aBH,rfl,trivial⟩)
def digits(n:Int)(h0:0<=n)(h1:n<18446744073709551616):cx G az 280 [.v (.int .u64 n)] (wB 20):=by
 have:=al9 (G:=G) n.toNat aBH
 rwa [Int.toNat_of_nonneg h0] at this
def UO(n:Int):cx G az 268 [.v (.int .i64 n)] (wB 21):=by
 refine cR (asF.go ?_);have aBn:∀x:Int,BO .neg (.v (.int .i64 x))=some (.v (.int .i64 (b7.wrap (0-x)))):=λx=>rfl;refine wy ?_;refine b8 (λq=>?_) λq=>?_;refine wy ?_;refine aE.cY (digits _ (OA _).1 (OA _).2) ?_;rintro r ⟨t,rfl,ht⟩;have a1:ct .add (.v (.string ⟨[45].toArray⟩)) (ai t)=some (ai ([45]++t)):=r9 (a:=[45]) aBK;refine wy ?_;exact pG aBK;refine aE.cY (digits _ (OA _).1 (OA _).2) ?_;rintro r ⟨t,rfl,ht⟩;refine wy ?_;exact pG aBH
def auY(s:List UInt8)(hs:s.length<=1000000000):cx G az 243 [ai s] Kz:=by
 refine cR (arN.go ?_)
 rcases x8 s.length with h0|h0
 obtain rfl:=lE h0;have l0:∀hp,oP (ai []) hp=some (.v (.int .i64 0),hp):=λ_=>rfl;refine wy ?_;exact tL aBJ aBJ;have z0:((s.length:Int)==0)=false:=by simp;intro e;rw[e] at h0;simp at h0
 have c0:tv (ai s) (.v (.int .i64 0))=some (.v (.int .u8 (me s 0:Int))):=tG (i:=0) h0;refine wy (bA (λq=>?_) λq=>?_);refine wy ?_;exact tL aBJ aBJ;refine wy ?_;refine cj (λi e h=>∃m:Int,e=[(0,ai s),(4,.v (.int .u64 m)),(5,ag i)]/\h=[]) s.length ⟨0,rfl,rfl⟩ ?_ ?_
 · rintro i e h hi ⟨m,rfl,rfl⟩
   refine wy ?_
   repeat' refine ba (λq'=>?_) λq'=>?_
   all_goals first
    |exact tL aBJ aBJ
    |exact⟨_,rfl,trivial⟩
 · rintro e h ⟨m,rfl,rfl⟩
   refine wy (bA (λah=>?_) λah=>?_)
   all_goals
    refine wy ?_;refine aE.cY (UO _) ?_;rintro r ⟨t,rfl,ht⟩;refine wy ?_;refine b8 (λaN=>?_) λaN=>?_;exact tL aBJ aBJ;exact tL (aiz _).1 (aiz _).2
def Vv(s:List UInt8)(hs:s.length<=1000000000):cx G az 196 [ai s] (Gl (-1) 999):=by
 refine cR (ar8.go ?_);refine wy ?_;refine aE.cY (auY s hs) ?_;rintro r ⟨n,b,rfl,h1,h2⟩;refine wy ?_;cases b with
 |false=>
  refine wy ?_;exact q_ aBJ aBJ
 |true=>
  refine wy ?_
  repeat' refine ba (λq'=>?_) λq'=>?_
  all_goals first
   |exact q_ aBJ aBJ
   |exact q_ aBH aBH
def S7(s:List UInt8)(hs:s.length<=100000):cx G az 197 [ai s] (Kw 100001):=by
 refine cR (ar9.go ?_);have fin:∀(hp:List aa) (a:Bool) (v v':U) (b:Bool),aX hp v v'->gi 100001 v'->∃n aQ,b9 hp n (.aK [.v (.bool a),v,.v (.bool b)])=some aQ/\Kw 100001 aQ:=λhp a v v' b hf hv=>by
  obtain⟨n,hn⟩:=(dR (aA (aB (.bool a)) (aA hf (aA (aB (.bool b)) bW))):aX hp _ _).done;exact⟨n,_,hn,a,v',b,rfl,hv⟩
 refine wy (bA (λq=>?_) λq=>?_);exact wy (fin _ _ _ _ _ cS (uE _));refine wy ?_;refine cj (λi e h=>∃(l:List (List UInt8)) (ak:U) (a:Nat),e=[(0,ai s),(5,ak),(6,ag a),(7,ag i)]/\a<=i/\l.length<=i/\bX h ak (l.map ai) 1 9) (s.length+1) ⟨[],.af,0,rfl,bl _,bl _,qa _ _ _⟩ ?_ ?_
 · rintro i e h hi ⟨l,ak,a,rfl,ha,hl,hA⟩
   obtain⟨v',y1,eg,jU⟩:=zN hA zZ;refine wy ?_
   repeat' refine ba (λq'=>?_) λq'=>?_
   all_goals first
    |exact⟨l,ak,a,rfl,aBH,aBH,hA⟩
    |(have c1:=λhp=>Ln (l:=s) (i:=a) (j:=i) ha aBH hp
      have hw:((s.take i).drop a).length<=1000000000:=aBK
      refine wy ?_;refine aE.cY (Tw _ hw) ?_;rintro r ⟨b,rfl⟩;cases b with
      |false=>
       exact wy (fin _ _ _ _ _ aX.af (gi.nil _))
      |true=>
       refine wy ?_;refine aE.cY (L6 y1 aBH _) ?_;rintro r ⟨b,rfl⟩;cases b with
       |true=>
        exact wy (fin _ _ _ _ _ aX.af (gi.nil _))
       |false=>
        obtain⟨bg,g,e1,dO,_⟩:=kL (x:=ai ((s.take i).drop a)) (aY:=16) hA (vv l) rfl aBJ aBJ aBK;have ab:dA 1 [ai ((s.take i).drop a)]=some (.sl [ai ((s.take i).drop a)] .exact):=rfl;refine wy ?_;exact⟨l++[(s.take i).drop a],bg,i+1,rfl,aBH,aBK,by rw[List.map_append];exact dO⟩)
 rintro e h ⟨l,ak,a,rfl,ha,hl,hA⟩;refine wy ?_;obtain⟨v',f1,f2⟩:=PL (n:=100001) hA aBH;exact fin _ _ _ _ _ f1 f2
def atI(s:List UInt8)(hs:s.length<=1000000000):cx G az 69 [ai s] (WH 65536 65536):=by
 refine cR (ark.go ?_);refine wy (bA (λq=>?_) λq=>?_);exact wy (QX cS (zG.nil _ _));have hs2:s.length<=65536:=aBQ
 refine wy ?_;refine cj (λi e h=>∃(l:List (List UInt8)) (ak:U) (a:Nat),e=[(0,ai s),(5,ak),(6,ag a),(7,ag i)]/\a<=i/\l.length<=i/\(∀w∈l,w.length<=65536)/\bX h ak (l.map ai) 1 9) s.length ⟨[],.af,0,rfl,bl _,bl _,aBI,qa _ _ _⟩ ?_ ?_;rintro i e h hi ⟨l,ak,a,rfl,ha,hl,hw,hA⟩;have c1:=λhp=>Ln (l:=s) (i:=a) (j:=i) ha aBH hp;obtain⟨bg,g,e1,dO,_⟩:=kL (x:=ai ((s.take i).drop a)) (aY:=16) hA (vv l) rfl aBJ aBJ aBK;have ab:dA 1 [ai ((s.take i).drop a)]=some (.sl [ai ((s.take i).drop a)] .exact):=rfl;refine lC ?_;refine b8 (λq=>?_) λq=>?_;refine wy ?_;refine⟨l++[(s.take i).drop a],bg,i+1,rfl,aBH,aBK,?_,aCm⟩;intro w hm
 rcases dZ.1 hm with z|z
 exact hw w z;rw[cr.1 z];simp;omega;exact⟨l,ak,a,rfl,aBH,aBH,hw,hA⟩;rintro e h ⟨l,ak,a,rfl,ha,hl,hw,hA⟩;have ln:=BN hA;refine wy ?_;refine b8 (λq=>?_) λq=>?_;exact QX cS (zG.nil _ _);obtain⟨v',f1,f2⟩:=akA (m:=65536) (n:=65536) hA aBH hw;exact QX f1 f2
end
end
section
variable{v w:U}{l m:List Int}
def Gm(r:U):Prop:=∃l:List Int,bL r (l.map ag)/\l.length<=256/\∀x∈l,0<=x/\x<256
@[go_sem]def C3(l:List Int):bV 1 (l.map ag)=true:=by
 rw[bV,c_];intro x hx;obtain⟨t,ht,rfl⟩:=cO.1 hx;rfl
def PM{hp:List aa}(h:bX hp v (l.map ag) 1 3)(h1:l.length<=256)(h2:∀x∈l,0<=x/\x<256):∃k aQ,b9 hp k v=some aQ/\Gm aQ:=by
 rcases h with⟨rfl,z⟩|⟨id,rfl,_⟩
 obtain⟨n,hn⟩:=(cS:aX hp _ _).done;exact⟨n,_,hn,[],ax ⟨rfl,rfl⟩,aBI,aBI⟩;obtain⟨n,hn⟩:=(fj (t:=.tok id) (gh (f:=ag) (l:=l) λa _=>aB _):aX hp _ _).done;exact⟨n,_,hn,l,ay rfl,h1,h2⟩
section
variable{G:Cells}
def akP(c:Int):cx G az 136 [.v (.int .u8 c)] gW:=by
 refine cR (arS.go ?_);refine wy ?_;refine aE.pu (U1 c) ?_;refine wy ?_;cases hb:(decide ((97:Int)<=c)&&decide (c<=122))<;>refine wy ?_
 all_goals repeat' refine ba (λq'=>?_) λq'=>?_
 all_goals exact gj _
def RG(hv:bL v (l.map ag))(hl:l.length<=1000000000)(x:Int):cx G az 204 [v,ag x] gW:=by
 refine cR (ase.go ?_);have ln:=hv.bO;rw[b_] at ln;refine wy ?_;refine cj (λi e h=>e=[(0,v),(1,ag x),(5,ag i)]/\h=[]) l.length ⟨rfl,rfl⟩ ?_ ?_
 · rintro i e h hi ⟨rfl,rfl⟩
   obtain⟨s,hs⟩:=cD hi;have e1:bu 1 v (.v (.int .i64 (i:Int)))=some (.fp [ag s] 0):=hv.bK (x:=ag s) aEs rfl;unfold ag at e1;refine wy ?_
   repeat' refine ba (λq'=>?_) λq'=>?_
   exact gj _;exact⟨rfl,trivial⟩
 rintro e h ⟨rfl,rfl⟩;exact wy (gj _)
def awZ(hv:bL v (l.map ag))(hw:bL w (m.map ag))(hl:l.length<=1000000000)(hm:m.length<=1000000000):cx G az 11 [v,w] gW:=by
 refine cR (ad1.go ?_);have ln:=hv.bO;rw[b_] at ln;have lm:=hw.bO;rw[b_] at lm;refine wy (bA (λq=>?_) λq=>?_);exact wy (gj _);have aa_:l.length=m.length:=aBQ
 refine wy ?_;refine cj (λi e h=>e=[(0,v),(1,w),(5,ag i)]/\h=[]) l.length ⟨rfl,rfl⟩ ?_ ?_
 · rintro i e h hi ⟨rfl,rfl⟩
   obtain⟨s,hs⟩:=cD hi;obtain⟨t,ht⟩:∃s,m[i]?=some s:=⟨m[i],br aBH⟩;have e1:bu 1 v (.v (.int .i64 (i:Int)))=some (.fp [ag s] 0):=hv.bK (x:=ag s) aEs rfl;have e2:bu 1 w (.v (.int .i64 (i:Int)))=some (.fp [ag t] 0):=hw.bK (x:=ag t) (by simp[ht]) rfl;unfold ag at e1 e2;refine wy ?_
   repeat' refine ba (λq'=>?_) λq'=>?_
   exact gj _;exact⟨rfl,trivial⟩
 rintro e h ⟨rfl,rfl⟩;exact wy (gj _)
def atL(hv:bL v (l.map ag))(hc:dn v)(hl:l.length<=1000000000):cx G az 248 [v] Gm:=by
 refine cR (asp.go ?_);refine wy ?_;refine cj (λi e h=>∃(o:List Int) (ak:U),e=[(0,v),(3,ak),(4,ag i)]/\o.length<=i/\(∀x∈o,0<=x/\x<256)/\bX h ak (o.map ag) 1 3) 256 ⟨[],.af,rfl,aBI,aBI,qa _ _ _⟩ ?_ ?_;rintro i e h hi ⟨o,ak,rfl,ho,hx,hA⟩;obtain⟨bg,g,e1,dO,_⟩:=kL (x:=ag i) (aY:=8) hA (C3 o) rfl aBJ aBJ aBK;have Qb:decide ((i:Int)<256)=true:=aBK
 unfold ag at e1;refine wy ?_;refine aE.cY (RG hv hl i) ?_;rintro r ⟨b,rfl⟩;cases b with
 |false=>
  refine wy ?_;exact⟨o,ak,rfl,aBH,hx,hA⟩
 |true=>
  refine wy ?_;refine⟨o++[(i:Int)],bg,rfl,aBK,?_,aCm⟩;intro x hm
  rcases dZ.1 hm with z|z
  exact hx x z;rw[cr.1 z];omega
 rintro e h ⟨o,ak,rfl,ho,hx,hA⟩;have Qb:decide (((256:Nat):Int)<256)=false:=aBJ
 exact wy (PM hA ho hx)
def ayK(hv:bL v (l.map ag))(hw:bL w (m.map ag))(hc:dn v)(hd:dn w)(hl:l.length<=1000000000)(hm:m.length<=1000000000)(op:Int):cx G az 144 [v,w,ag op] Gm:=by
 refine cR (arW.go ?_);refine wy ?_;refine cj (λi e h=>∃(o:List Int) (ak:U),e=[(0,v),(1,w),(2,ag op),(7,ak),(8,ag i)]/\o.length<=i/\(∀x∈o,0<=x/\x<256)/\bX h ak (o.map ag) 1 3) 256 ⟨[],.af,rfl,aBI,aBI,qa _ _ _⟩ ?_ ?_
 · rintro i e h hi ⟨o,ak,rfl,ho,hx,hA⟩
   obtain⟨bg,g,e1,dO,_⟩:=kL (x:=ag i) (aY:=8) hA (C3 o) rfl aBJ aBJ aBK;have Qb:decide ((i:Int)<256)=true:=aBK
   unfold ag at e1;refine wy ?_;refine aE.cY (RG hv hl i) ?_;rintro r ⟨b,rfl⟩;refine wy ?_;refine aE.cY (RG hw hm i) ?_;rintro r ⟨b2,rfl⟩;have no:∃(o:List Int) (gw:U),[(0,v),(1,w),(2,bP (.int .i64 op)),(7,ak),(8,bP (.int .i64 ((i+1:Nat):Int)))]=[(0,v),(1,w),(2,bP (.int .i64 op)),(7,gw),(8,bP (.int .i64 ((i+1:Nat):Int)))]/\o.length<=i+1/\(∀x∈o,0<=x/\x<256)/\bX h gw (o.map ag) 1 3:=⟨o,ak,rfl,aBH,hx,hA⟩;have yes:∃(o:List Int) (gw:U),[(0,v),(1,w),(2,bP (.int .i64 op)),(7,bg),(8,bP (.int .i64 ((i+1:Nat):Int)))]=[(0,v),(1,w),(2,bP (.int .i64 op)),(7,gw),(8,bP (.int .i64 ((i+1:Nat):Int)))]/\o.length<=i+1/\(∀x∈o,0<=x/\x<256)/\bX g gw (o.map ag) 1 3:=by
    refine⟨o++[(i:Int)],bg,rfl,aBK,?_,aCm⟩;intro x hm
    rcases dZ.1 hm with z|z
    exact hx x z;rw[cr.1 z];omega
   cases b<;>cases b2<;>refine wy ?_
   all_goals repeat' ((refine ba (λq'=>?_) λq'=>?_)<;>refine nP @wD @e1 @Vp @vU @rS ?_)
   all_goals first
    |(exfalso;omega)
    |exact no
    |exact yes
 rintro e h ⟨o,ak,rfl,ho,hx,hA⟩;have Qb:decide (((256:Nat):Int)<256)=false:=aBJ
 exact wy (PM hA ho hx)
end
end
end Go.Proofs.YtggeooeohcbdhaaGreatDoor

/- Part 10 of a proof. No condition. -/
import Derived.Test.YtpcfoeagojdmdaaGreatDoorZ9
set_option linter.unusedVariables false
set_option linter.unusedSimpArgs false
set_option linter.defProp false
open Bool renaming eq_iff_iff->Fz,false->bf,not_false->vE,not_true->z_,true->bh
open Classical renaming propDecidable->aI9
open Go.bM.bg renaming agg->dG,cells->jU,one->cq,v->dh
open Go.bM.de renaming nil->tv
open Go.bM.br renaming cells->bw
open Go.bM.tE renaming mk->cQ
open Go.bM.ct renaming mono->cm,pu->dD,aat->eF,pure->h_,aE9->jG
open Go.bM renaming Clean->eT
open Go.bM.b6 renaming agg->jO,bq->ey,sl->gQ,bQ->fj,v->bH
open Go.bM.e_ renaming cons->bF,map->iw,nil->cZ
open Go.IntKind renaming i64->cN
open Go.Proofs.Tryz renaming prog->bA
open Go.Proofs.YtpcfoeagojdmdaaGreatDoor.cV renaming bE->su,cells->rG,many->FF
open Go.Proofs.YtpcfoeagojdmdaaGreatDoor.dJ renaming bE->nx,cells->iE
open Go.Proofs.YtpcfoeagojdmdaaGreatDoor.jf renaming nil->Ae
open Int renaming eq_ofNat_of_zero_le->pT,le_refl->Ds,toNat_natCast->wZ
open List renaming all_cons->qk,all_eq_true->eG,all_nil->tB,any_eq_true->K4,append_assoc->dN,append_nil->fZ,cons_append->jy,drop_zero->pU,getElem?_append->acB,getElem?_append_left->fT,getElem?_append_right->fJ,getElem?_cons_zero->ny,getElem?_eq_getElem->cu,getElem?_eq_none->jV,getElem?_eq_some_iff->cJ,getElem?_map->fD,getElem?_set_ne->bC,getElem?_set_self->bT,getElem_of_mem->Iy,length_append->dO,length_cons->eB,length_map->cS,length_nil->gR,length_pos_iff->FK,length_singleton->ov,map_append->gz,map_congr_left->B0,map_cons->fQ,map_map->yM,map_nil->kX,map_singleton->arn,mem_append->fB,mem_cons->fc,mem_map->dX,mem_of_getElem?->cz,mem_singleton->dP,nil_append->gd,set_set->Pv,sum_append->arx,sum_cons->Aj,sum_nil->Iz,take_add_one->yP,take_append_drop->K8,take_length->oW,take_of_length_le->ow
open Nat renaming add_assoc->mB,add_sub_cancel->Pw,add_zero->nB,eq_zero_or_pos->Dw,le_refl->b_,le_trans->ig,lt_or_ge->ei,min_eq_left->FL,mul_comm->acH,one_mul->FM,sub_self->kY,sub_zero->FN,zero_add->gA,zero_le->j0
open Option renaming none->bn,some->a_
open Or renaming inl->bD,inr->bG
namespace Go.Proofs.YtpcfoeagojdmdaaGreatDoor
open Go Go.bM Go.RowKit
section
variable{J:List br}
def IC(low high:Int):Prop:=0<=low/\low<=20/\(high= -1\/(1<=high/\high<=20/\low<=high))
def dJ.xq(x:dJ):Prop:=1<=x.kind/\x.kind<=5/\x.name.length<=12/\(x.kind=5->IC x.low x.high)
def Vo(a n:Nat)(r:bg):Prop:=∃(x:dJ) (p e:Int),r=.bQ [x.bE,.v (.int .i64 p),.v (.int .i64 e)]/\(e=0->∃p':Nat,p=(p':Int)/\a<p'/\p'<=n/\x.xq)
def pn{a n:Nat}(x:dJ){p e:Int}(h:e=0->∃p':Nat,p=(p':Int)/\a<p'/\p'<=n/\x.xq):∃k bS,dx J k (.bQ [.agg x.cells,.v (.int .i64 p),.v (.int .i64 e)])=a_ bS/\Vo a n bS:=by
 obtain⟨k,S⟩:=(fj (bF (jO (bF (bH _) (bF (bH _) (bF (bH _) (bF (bH _) (bF (bH _) cZ)))))) (bF (bH (.int .i64 p)) (bF (bH (.int .i64 e)) cZ))):b6 J (.bQ [.agg x.cells,.v (.int .i64 p),.v (.int .i64 e)]) _).done;exact⟨k,_,S,x,p,e,rfl,h⟩
@[go_sem]def ab0(z x:dJ)(l:List br):bL (.cells z.cells bf::l) 5 (.mp 0 0) (.agg x.cells)=a_ (.cells x.cells bf::l):=by
 rw[wP (k:=0) (Z:=z.cells) rfl rfl x];rfl
@[go_sem]def BO(x:dJ)(l:List br):bz (.cells x.cells bf::l) bh 5 (.mp 0 0)=a_ (.agg x.cells):=wO rfl
@[go_sem]def aqK(b:br)(z x:dJ)(l:List br):bL (b:: .cells z.cells bf::l) 5 (.mp 1 0) (.agg x.cells)=a_ (b:: .cells x.cells bf::l):=by
 rw[wP (k:=1) (Z:=z.cells) rfl rfl x];rfl
@[go_sem]def Fw(b:br)(x:dJ)(l:List br):bz (b:: .cells x.cells bf::l) bh 5 (.mp 1 0)=a_ (.agg x.cells):=wO rfl
@[go_sem]def aqJ(b:br)(k a lo Q n:Int)(w:List UInt8)(l:List br):bL (b:: .cells (iE ⟨k,a,lo,Q,w⟩) bf::l) 1 (.mp 1 2) (.v (.int .i64 n))=a_ (b:: .cells (iE ⟨k,a,n,Q,w⟩) bf::l):=rfl
@[go_sem]def Uy(b:br)(k a lo Q n:Int)(w:List UInt8)(l:List br):bL (b:: .cells (iE ⟨k,a,lo,Q,w⟩) bf::l) 1 (.mp 1 3) (.v (.int .i64 n))=a_ (b:: .cells (iE ⟨k,a,lo,n,w⟩) bf::l):=rfl
def Dl:dJ:=⟨0,0,0,0,[]⟩
def abZ:iE Dl=[.v (.int .i64 0),.v (.int .i64 0),.v (.int .i64 0),.v (.int .i64 0),.v (.string ⟨[].toArray⟩)]:=rfl
section
variable{G:Cells}
def aur(s:List UInt8)(hs:s.length<=1000000000)(cv:Nat)(ha:cv<s.length):dV G bA 221 [bu s,.v (.int .i64 (cv:Int))] (Vo cv s.length):=by
 refine ep (aBk.go ?_);have f1:dI [.v (.int .i64 0),.v (.int .i64 0),.v (.int .i64 0),.v (.int .i64 0),.v (.string ⟨[].toArray⟩)] [(0,1,.v (.int .i64 5)),(1,1,.v (.int .i64 (cv:Int)))]=a_ (iE ⟨5,cv,0,0,[]⟩):=rfl;have p1:=λb x l=>aqK b Dl x l;have g_:=λx l=>ab0 Dl x l;rw[abZ] at p1 g_;refine wy ?_;refine eF (ang s hs (cv+1) ha) ?_;rintro r ⟨m,p,rfl,J,hm⟩;refine wy (cQ (λq=>?_) λq=>?_);obtain⟨p',e,he,sp⟩:=Uw (G:=G) s p;refine wy ?_;refine dD sp ?_;exact wx (pn ⟨5,cv,0,0,[]⟩ λz=>absurd z he);have nM:0<=m:=an
 have ok:∀hh:Int,m<=20->(hh= -1\/(1<=hh/\hh<=20/\m<=hh))->dJ.xq ⟨5,cv,m,hh,[]⟩:=λhh Xg h=>⟨aLJ,aM8,aMf,λ_=>⟨nM,Xg,h⟩⟩;refine so ?_
 repeat' ((refine cQ (λq=>?_) λq=>?_)<;>(have q':=q)<;>(simp -failIfUnchanged only[qs] at q')<;>(refine jE @yb @xG @q ?_))
 all_goals first
  |(refine wx ?_
    exact pn ⟨5,cv,0,0,[]⟩ λz=>absurd z ag)
  |skip
 all_goals
  have M6:m<=20:=aa
  refine fq @aqJ @Uy @xG ?_
  repeat' ((refine cQ (λq=>?_) λq=>?_)<;>(have q':=q)<;>(simp -failIfUnchanged only[qs] at q')<;>(refine jE @yb @xG @q ?_))
 all_goals first
  |(obtain⟨p',e,he,sp⟩:=Uw (G:=G) s p
    refine dD sp ?_;exact fq @Fw @g_ @BO (pn ⟨5,cv,m,m,[]⟩ λz=>absurd z he))
  |skip
 all_goals first
  |(exfalso;omega)
  |(refine fq @Fw @g_ @BO ?_
    exact pn ⟨5,cv,m,m,[]⟩ λ_=>⟨p+1,rfl,aa,aa,ok m M6 (bG ⟨aa,aa,aa⟩)⟩)
  |skip
 all_goals
  refine ff @Uy @xG ?_
  repeat' ((refine cQ (λq=>?_) λq=>?_)<;>(have q':=q)<;>(simp -failIfUnchanged only[qs] at q')<;>(refine jE @yb @xG @q ?_))
 all_goals first
  |(exfalso;omega)
  |(refine fq @Fw @g_ @BO ?_
    exact pn ⟨5,cv,m, -1,[]⟩ λ_=>⟨p+1+1,rfl,aa,aa,ok _ M6 (bD rfl)⟩)
  |skip
 all_goals
  refine eF (ang s hs (p+1) aa) ?_;rintro r ⟨k,p2,rfl,jk,S⟩;refine fS (cQ (λq=>?_) λq=>?_);obtain⟨p',e,he,sp⟩:=Uw (G:=G) s p2;refine eE @q ?_;refine dD sp ?_;exact fq @Fw @g_ @BO (pn ⟨5,cv,m, -1,[]⟩ λz=>absurd z he);have xV:0<=k:=an
  refine eE @q ?_
  repeat' ((refine cQ (λq=>?_) λq=>?_)<;>(have q':=q)<;>(simp -failIfUnchanged only[qs] at q')<;>(refine jE @yb @xG @q ?_))
 all_goals first
  |(refine fq @Fw @g_ @BO ?_
    exact pn ⟨5,cv,m, -1,[]⟩ λz=>absurd z ag)
  |skip
 all_goals
  refine ff @Uy @xG ?_
  repeat' ((refine cQ (λq=>?_) λq=>?_)<;>(have q':=q)<;>(simp -failIfUnchanged only[qs] at q')<;>(refine jE @yb @xG @q ?_))
 all_goals first
  |(exfalso;omega)
  |(refine fq @Fw @g_ @BO ?_
    exact pn ⟨5,cv,m,k,[]⟩ λ_=>⟨p2+1,rfl,aa,aa,ok k M6 (bG ⟨aa,aa,aa⟩)⟩)
  |(obtain⟨p',e,he,sp⟩:=Uw (G:=G) s p2
    refine dD sp ?_;exact fq @Fw @g_ @BO (pn ⟨5,cv,m,k,[]⟩ λz=>absurd z he))
def aEC(s:List UInt8)(hs:s.length<=1000000000)(cv:Nat)(ha:cv<s.length):dV G bA 155 [bu s,.v (.int .i64 (cv:Int))] (Vo cv s.length):=by
 refine ep (aA1.go ?_);have fz:dI [.v (.int .i64 0),.v (.int .i64 0),.v (.int .i64 0),.v (.int .i64 0),.v (.string ⟨[].toArray⟩)] []=a_ (iE Dl):=rfl;have f1:∀w,dI [.v (.int .i64 0),.v (.int .i64 0),.v (.int .i64 0),.v (.int .i64 0),.v (.string ⟨[].toArray⟩)] [(0,1,.v (.int .i64 1)),(1,1,.v (.int .i64 (cv:Int))),(4,1,bu w)]=a_ (iE ⟨1,cv,0,0,w⟩):=λw=>rfl;have f2:∀k:Int,dI [.v (.int .i64 0),.v (.int .i64 0),.v (.int .i64 0),.v (.int .i64 0),.v (.string ⟨[].toArray⟩)] [(0,1,.v (.int .i64 k)),(1,1,.v (.int .i64 (cv:Int)))]=a_ (iE ⟨k,cv,0,0,[]⟩):=λk=>rfl;have f5:∀h:Int,dI [.v (.int .i64 0),.v (.int .i64 0),.v (.int .i64 0),.v (.int .i64 0),.v (.string ⟨[].toArray⟩)] [(0,1,.v (.int .i64 5)),(1,1,.v (.int .i64 (cv:Int))),(3,1,.v (.int .i64 h))]=a_ (iE ⟨5,cv,0,h,[]⟩):=λk=>rfl;have f6:dI [.v (.int .i64 0),.v (.int .i64 0),.v (.int .i64 0),.v (.int .i64 0),.v (.string ⟨[].toArray⟩)] [(0,1,.v (.int .i64 5)),(1,1,.v (.int .i64 (cv:Int))),(2,1,.v (.int .i64 1)),(3,1,.v (.int .i64 (-1)))]=a_ (iE ⟨5,cv,1, -1,[]⟩):=rfl;have g_:=λx l=>ab0 Dl x l;rw[abZ] at g_;have w1:cN.wrap ((cv:Int)+1)=((cv+1:Nat):Int):=kI aa;have anp:∀w:List UInt8,w.length<=12->dJ.xq ⟨1,cv,0,0,w⟩:=λw hw=>⟨(by show(1:Int)<=1;decide),aLJ,hw,λq=>absurd (show(1:Int)=5 from q) ag⟩;have Z3:∀k:Int,1<=k->k<=4->dJ.xq ⟨k,cv,0,0,[]⟩:=λk Y V=>⟨Y,(by show k<=5;omega),aMf,λq=>absurd (show k=5 from q) aa⟩;have nk:∀lo Q:Int,IC lo Q->dJ.xq ⟨5,cv,lo,Q,[]⟩:=λlo Q h=>⟨aLJ,aM8,aMf,λ_=>h⟩;refine wx ?_;refine dD (abe (o9 s cv:Int)) ?_;cases Yo:(decide ((97:Int)<=(o9 s cv:Int))&&decide ((o9 s cv:Int)<=122)) with
 |true=>
  refine wy ?_;refine oo (n:=s.length-cv) (λm e h=>∃i:Nat,m=s.length-i/\cv<=i/\i<=cv+12/\i<=s.length/\e=[(0,bu s),(1,.v (.int .i64 (cv:Int))),(4,.mp 0 0),(8,bp i)]/\h=[.cells (iE Dl) bf]) ⟨cv,rfl,aa,aa,aa,rfl,rfl⟩ ?_;rintro m e h ⟨i,rfl,Q,hi2,axR,rfl,rfl⟩;rw[abZ];refine wy ?_
  rcases ei i s.length with hl|hl
  refine wx ?_;refine dD (abe (o9 s i:Int)) ?_;cases s5:(decide ((97:Int)<=(o9 s i:Int))&&decide ((o9 s i:Int)<=122)) with
  |true=>
   refine wy ?_;refine dy (λq=>?_) λq=>?_;exact pn Dl λz=>absurd z ag;have:i-cv≠12:=by intro e;rw[e] at q;cases q
   exact⟨s.length-(i+1),aa,i+1,rfl,aa,aa,aa,rfl,trivial⟩
  |false=>
   refine wx ?_;refine dD (QN (o9 s i:Int)) ?_;cases q9:(decide ((48:Int)<=(o9 s i:Int))&&decide ((o9 s i:Int)<=57)) with
   |true=>
    refine wy ?_;refine dy (λq=>?_) λq=>?_;exact pn Dl λz=>absurd z ag;have:i-cv≠12:=by intro e;rw[e] at q;cases q
    exact⟨s.length-(i+1),aa,i+1,rfl,aa,aa,aa,rfl,trivial⟩
   |false=>
    have bR:cv<i:=by
     rcases ei cv i with z|z
     exact z;have:i=cv:=aa
     subst this;rw[Yo] at s5;cases s5
    exact wx (pn ⟨1,cv,0,0,(s.take i).drop cv⟩ λ_=>⟨i,rfl,aa,aa,anp _ ah⟩)
  refine wx ?_;exact pn ⟨1,cv,0,0,(s.take i).drop cv⟩ λ_=>⟨i,rfl,aa,aa,anp _ ah⟩
 |false=>
  refine wy ?_
  repeat' ((refine cQ (λq=>?_) λq=>?_)<;>(have q':=q)<;>(simp -failIfUnchanged only[qs] at q')<;>(refine O5 @f2 @f5 @f6 @fz @g_ @BO @w1 @q ?_))
  all_goals first
   |exact pn ⟨2,cv,0,0,[]⟩ λ_=>⟨cv+1,rfl,aa,aa,Z3 _ ag ag⟩
   |exact pn ⟨3,cv,0,0,[]⟩ λ_=>⟨cv+1,rfl,aa,aa,Z3 _ ag ag⟩
   |exact pn ⟨4,cv,0,0,[]⟩ λ_=>⟨cv+1,rfl,aa,aa,Z3 _ ag ag⟩
   |exact pn ⟨5,cv,0, -1,[]⟩ λ_=>⟨cv+1,rfl,aa,aa,nk _ _ ⟨ag,ag,bD rfl⟩⟩
   |exact pn ⟨5,cv,1, -1,[]⟩ λ_=>⟨cv+1,rfl,aa,aa,nk _ _ ⟨ag,ag,bD rfl⟩⟩
   |exact pn ⟨5,cv,0,1,[]⟩ λ_=>⟨cv+1,rfl,aa,aa,nk _ _ ⟨ag,ag,bG ⟨ag,ag,ag⟩⟩⟩
   |exact pn Dl λz=>absurd z ag
   |(refine eF (aur s hs cv ha) ?_
     rintro r ⟨x,p,e,rfl,I⟩;exact mQ @dJ.bE.eq_1 @BO (pn x I))
def ac5(n:Nat)(r:bg):Prop:=∃(v:bg) (l:List dJ) (p e:Int),r=.bQ [v,.v (.int .i64 p),.v (.int .i64 e)]/\cC v (l.map nx)/\l.length<=n/\∀x∈l,x.xq
def agS(x:dJ):b6 J x.bE x.bE:=jO (bF (bH _) (bF (bH _) (bF (bH _) (bF (bH _) (bF (bH _) cZ)))))
@[go_sem]def Td(l:List dJ):cY 5 (l.map nx)=bh:=by
 rw[cY,eG];intro x I;obtain⟨t,ht,rfl⟩:=dX.1 I;rfl
def aCY(s:List UInt8)(hs:s.length<=1000000000):dV G bA 90 [bu s] (ac5 s.length):=by
 refine ep (aAy.go ?_);have bad:∀(J:List br) (p e:Int),∃k bS,dx J k (.bQ [.bq,.v (.int .i64 p),.v (.int .i64 e)])=a_ bS/\ac5 s.length bS:=λJ p e=>by
  obtain⟨k,S⟩:=(fj (bF ey (bF (bH (.int .i64 p)) (bF (bH (.int .i64 e)) cZ))):b6 J _ _).done;exact⟨k,_,S,.bq,[],p,e,rfl,bG ⟨rfl,rfl⟩,af,af⟩
 refine wy ?_;refine oo (n:=s.length) (λm e h=>∃(i:Nat) (l:List dJ) (bx:bg),m=s.length-i/\i<=s.length/\l.length<=i/\(∀x∈l,x.xq)/\e=[(0,bu s),(5,bx),(6,bp i)]/\de h bx (l.map nx) 5 187) ⟨0,[],.bq,rfl,aa,af,af,rfl,tv _ _ _⟩ ?_;rintro m e h ⟨i,l,bx,rfl,Q,hl,I,rfl,hA⟩;have ln:=F4 hA;refine wy ?_
 rcases ei i s.length with hl1|hl1
 · refine wx (cQ (λq=>?_) λq=>?_)
   refine wy ?_;exact⟨s.length-(i+1),aa,i+1,l,bx,rfl,aa,aa,I,rfl,hA⟩;refine wy ?_;have ext:∀b:br,de (h++[b]) bx (l.map nx) 5 187:=λb=>by
    rcases hA with z|⟨id,b7,z2⟩
    exact bD z;exact bG ⟨id,b7,bU z2⟩
   refine dy (λbt=>?_) λbt=>?_;refine eF (as9 _) ?_;rintro r ⟨b,rfl⟩;cases b
   rotate_left
   exact fS (bad _ _ _)
   all_goals
    refine wy ?_;refine eF (aEC s hs i hl1) ?_;rintro r ⟨x,p,e,rfl,aza⟩;have s1:=zT h x;unfold iQ at s1;have g1:bz (h++[bw x.cells bf]) bh 5 (.mp h.length 0)=a_ (.agg x.cells):=wO af;refine iD @dJ.bE.eq_1 (cQ (λbV=>?_) λbV=>?_);exact eE @bV (bad _ _ _);obtain⟨p',rfl,Y,V,h3⟩:=aza (by simpa using bV);obtain⟨cl,g,e1,fM,_⟩:=nc (x:=x.bE) (cc:=48) (ext (.cells x.cells bf)) (Td l) rfl ag ag ah;have ab:eW 5 [.agg x.cells]=a_ (.sl [x.bE] .exact):=rfl;refine wy ?_;refine⟨s.length-p',aa,p',l++[x],cl,rfl,aa,ah,?_,rfl,aLx⟩;intro y hy
    rcases fB.1 hy with z|z
    exact I y z;rw[dP.1 z];exact h3
 refine wy ?_
 rcases hA with⟨rfl,z⟩|⟨id,rfl,_⟩
 exact bad _ _ _;obtain⟨k,S⟩:=(fj (bF (gQ (t:=.tok id) (iw (f:=nx) (l:=l) λa _=>agS a)) (bF (bH (.int .i64 0)) (bF (bH (.int .i64 0)) cZ))):b6 h _ _).done;exact⟨k,_,S,_,l,0,0,rfl,bD rfl,aa,I⟩
end
end
section
variable{l:List dJ}{i:Nat}{k:Int}
def kd(l:List dJ)(i:Nat):Int:=((l[i]?).map dJ.kind).getD 0
def EV{x:dJ}(h:l[i]?=a_ x):kd l i=x.kind:=by unfold kd;rw[h];rfl
def yA(k:Int):Int:=if k=2 then 1 else if k=3 then -1 else 0
def gT(l:List dJ)(a:Nat):Nat->Int
 |0=>0
 |n+1=>gT l a n+yA (kd l (a+n))
def xI(l:List dJ)(a n:Nat):gT l a (n+1)=gT l a n+yA (kd l (a+n)):=rfl
def L5(l:List dJ)(a m:Nat):∀n,gT l a (m+n)=gT l a m+gT l (a+m) n
 |0=>by simp[gT]
 |n+1=>by rw[<-mB,xI,xI,L5 l a m n,mB a m n];omega
def apD(k:Int): -1<=yA k/\yA k<=1:=by unfold yA;split<;>(try split)<;>omega
def Ib(h:k=2):yA k=1:=by unfold yA;rw[if_pos h]
def T_(h:k=3):yA k= -1:=by unfold yA;rw[if_neg aa,if_pos h]
def Ia(h:k≠2)(h3:k≠3):yA k=0:=by unfold yA;rw[if_neg h,if_neg h3]
def Wo(l:List dJ)(a:Nat):∀n:Nat, -(n:Int)<=gT l a n/\gT l a n<=(n:Int)
 |0=>by simp[gT]
 |n+1=>by
  have h:=Wo l a n;have V:=apD (kd l (a+n));rw[xI];omega
structure vR(l:List dJ):Prop where
 first:0<l.length->kd l 0=1\/kd l 0=2
 Ta:∀i,i<l.length->(kd l i=2\/kd l i=4)->i+1<l.length/\(kd l (i+1)=1\/kd l (i+1)=2)
 cnt:∀i,i<l.length->kd l i=5->0<i/\(kd l (i-1)=1\/kd l (i-1)=3)
 low:∀n,n<=l.length->0<=gT l 0 n
 shut:gT l 0 l.length=0
structure mZ(l:List dJ)(a b:Nat):Prop where
 lt:a<b
 le:b<=l.length
 hd:kd l a=1\/kd l a=2
 auV:kd l (b-1)≠2
 L_:kd l (b-1)≠4
 low:∀n,a+n<=b->0<=gT l a n
 shut:gT l a (b-a)=0
def avs(p:Nat->Prop):∀N:Nat,p N->∃n,n<=N/\p n/\∀t,t<n->¬p t:=by
 intro N
 induction N using Nat.strongRecOn with
 |_ N ih=>
  intro h;by_cases I:∃t,t<N/\p t;obtain⟨t,Y,V⟩:=I;obtain⟨n,g1,g2,g3⟩:=ih t Y V;exact⟨n,aa,g2,g3⟩;exact⟨N,b_ _,h,λt ht J=>I ⟨t,ht,J⟩⟩
def vR.all(h:vR l)(S:∀i,i<l.length->1<=kd l i/\kd l i<=5)(h0:0<l.length):mZ l 0 l.length:=by
 have hl:=h.Ta (l.length-1) aa;refine⟨h0,b_ _,h.first h0,λe=>?_,λe=>?_,λn hn=>h.low n aa,by rw[FN];exact h.shut⟩;have:=(hl (bD e)).1;omega;have:=(hl (bG e)).1;omega
def j5(l:List dJ)(a i:Nat):Prop:=gT l a (i-a)=0
def Aq(l:List dJ)(a b:Nat):Prop:=∀t,a<=t->t<b->j5 l a t->kd l t≠4
def DD(l:List dJ)(a b:Nat):Prop:=∀t,a<t->t<b->j5 l a t->kd l t≠1/\kd l t≠2
section
variable{l:List dJ}{a b:Nat}
def j5.succ(h:j5 l a i)(ha:a<=i)(V:kd l i≠2)(h3:kd l i≠3):j5 l a (i+1):=by
 unfold j5 at*;rw[show i+1-a=(i-a)+1 by omega,xI,h,show a+(i-a)=i by omega,Ia V h3];rfl
def mZ.E5(h:mZ l a b)(ha:a<=i)(O:i<b)(ht:j5 l a i):kd l i≠3:=by
 intro e;have:=h.low (i-a+1) aa;unfold j5 at ht;rw[xI,ht,show a+(i-a)=i by omega,T_ e] at this;omega
def mZ.skip(h:mZ l a b){n:Nat}(ha:a<=i)(O:i<b)(ht:j5 l a i)(V:kd l i=2)(hz:i+n<l.length->gT l i (n+1)=0)(hn:∀t,t<n->gT l i (t+1)≠0):
  i+n<b/\j5 l a (i+n+1)/\∀t,i<t->t<=i+n->¬j5 l a t:=by
 have e1:gT l i (b-i)=0:=by
  have:=L5 l a (i-a) (b-i);rw[show i-a+(b-i)=b-a by omega,h.shut,show a+(i-a)=i by omega] at this;unfold j5 at ht;omega
 have c6:i+n<b:=by
  rcases ei (i+n) b with z|z
  exact z;exact absurd (by rw[show b-i-1+1=b-i by omega];exact e1) (hn (b-i-1) aa)
 have hd:=λt=>L5 l a (i-a) t;have bJ:=h.le;refine⟨c6,?_,λt Y h3 hq=>?_⟩;unfold j5 at*;rw[show i+n+1-a=i-a+(n+1) by omega,hd,ht,show a+(i-a)=i by omega,hz aa];rfl;unfold j5 at*;rw[show t-a=i-a+(t-i-1+1) by omega,hd,ht,show a+(i-a)=i by omega] at hq;exact hn (t-i-1) aa aa
def mZ.piece(h:mZ l a b){c:Nat}(Jv:a<=c)(XL:c<i)(X2:i<=b)(T:j5 l a c)(Q:j5 l a i)(S:kd l c=1\/kd l c=2)(V:kd l (i-1)≠2)(h4:kd l (i-1)≠4):mZ l c i:=by
 have e:∀n,gT l c n=gT l a (c-a+n):=λn=>by
  have:=L5 l a (c-a) n;rw[show a+(c-a)=c by omega] at this;unfold j5 at T;omega
 have bJ:=h.le;refine⟨XL,aa,S,V,h4,λn hn=>?_,?_⟩;rw[e];exact h.low _ aa;rw[e,show c-a+(i-c)=i-a by omega];exact Q
def vR.prev(w:vR l)(Q:0<i)(hl:i<l.length)(Y:kd l i≠1)(V:kd l i≠2):kd l (i-1)≠2/\kd l (i-1)≠4:=by
 have:=w.Ta (i-1) aa;rw[show i-1+1=i by omega] at this;exact⟨λe=>by have:=this (bD e);omega,λe=>by have:=this (bG e);omega⟩
def mZ.aIv(h:mZ l a b)(w:vR l)(h5:kd l (b-1)=5):mZ l a (b-1):=by
 have c6:=h.lt;have bJ:=h.le;have hd:=h.hd;have hab:a≠b-1:=by intro e;rw[<-e] at h5;omega
 obtain⟨p1,p2⟩:=w.prev (i:=b-1) aa aa aa aa;refine⟨aa,aa,h.hd,p1,p2,λn hn=>h.low n aa,?_⟩;have:=h.shut;rw[show b-a=b-1-a+1 by omega,xI,show a+(b-1-a)=b-1 by omega,Ia aa aa] at this;omega
def mZ.inner(h:mZ l a b)(w:vR l)(S:∀i,i<l.length->1<=kd l i/\kd l i<=5)(nb:Aq l a b)(ns:DD l a b)(V:kd l a=2)(h5:kd l (b-1)≠5):mZ l (a+1) (b-1):=by
 have c6:=h.lt;have bJ:=h.le;obtain⟨n,n1,n2,pK⟩:=avs (λn=>gT l a (n+1)=0) (b-a-1) (by show gT l a (b-a-1+1)=0;rw[show b-a-1+1=b-a by omega];exact h.shut);have n0:n≠0:=by
  intro e;subst e;have:gT l a 1=1:=by rw[xI,nB,Ib V];rfl
  have q:gT l a 1=0:=n2;omega
 have axz:a+n=b-1:=by
  rcases ei (a+n) (b-1) with z|z
  have asB:∀k,a+n+1+k<b->j5 l a (a+n+1+k)/\kd l (a+n+1+k)=5:=by
   intro k
   induction k with
   |zero=>
    intro gj;have ht:j5 l a (a+n+1+0):=by
     unfold j5;rw[show a+n+1+0-a=n+1 by omega];exact n2
    have:=h.E5 aa gj ht;have:=nb _ aa gj ht;have:=ns _ aa gj ht;have:=S (a+n+1+0) aa;exact⟨ht,aa⟩
   |succ k ih=>
    intro gj;obtain⟨t1,t2⟩:=ih aa;have ht:j5 l a (a+n+1+(k+1)):=t1.succ aa aa aa;have:=h.E5 aa gj ht;have:=nb _ aa gj ht;have:=ns _ aa gj ht;have:=S (a+n+1+(k+1)) aa;exact⟨ht,aa⟩
  have:=(asB (b-1-(a+n+1)) aa).2;rw[show a+n+1+(b-1-(a+n+1))=b-1 by omega] at this;exact absurd this h5;omega
 have pos:∀t,t<n->1<=gT l a (t+1):=λt ht=>by
  have:=pK t ht;have:=h.low (t+1) aa;omega
 have qb:gT l a n=1/\kd l (b-1)=3:=by
  have e:=n2;rw[xI,axz] at e;have p:=pos (n-1) aa;rw[show n-1+1=n by omega] at p;have s:=apD (kd l (b-1));refine⟨aa,?_⟩;by_cases q:kd l (b-1)=2;rw[Ib q] at e;omega;by_cases bV:kd l (b-1)=3;exact bV;rw[Ia q bV] at e;omega
 have e:∀n,gT l (a+1) n=gT l a (n+1)-1:=λn=>by
  have:=L5 l a 1 n;have q:gT l a 1=1:=by rw[xI,nB,Ib V];rfl
  rw[Nat.add_comm 1 n] at this;omega
 have fH:=(w.Ta a aa (bD V)).2;have bR:a+1≠b-1:=by intro e;rw[e,qb.2] at fH;omega
 obtain⟨p1,p2⟩:=w.prev (i:=b-1) aa aa (by rw[qb.2];decide) (by rw[qb.2];decide);refine⟨aa,aa,fH,p1,p2,λt ht=>?_,?_⟩;rw[e];have:=pos t aa;omega;rw[e,show b-1-(a+1)+1=n by omega,qb.1];rfl
end
structure U3(l:List dJ)(a b e:Nat)(Z:List Nat):Prop where
 kg:∀x∈Z,a<=x/\x<=b
 two:2<=Z.length
 seg:∀k x y,Z[k]?=a_ x->Z[k+1]?=a_ y->k+2<Z.length->mZ l x (y-e)/\e<=y/\y-e-x<b-a
 fin:∀k x y,Z[k]?=a_ x->Z[k+1]?=a_ y->k+2=Z.length->mZ l x y/\(2<Z.length->y-x<b-a)
structure sy(l:List dJ)(a b e i:Nat)(Z:List Nat)(c:Nat):Prop where
 kg:∀x∈Z,a<=x/\x<=b
 last:Z[Z.length-1]?=a_ c
 ne:0<Z.length
 ac:a<=c
 ci:c<=i
 cb:c<b
 cn:Z.length<=i+1
 S:kd l c=1\/kd l c=2
 Fo:j5 l a c
 ti:j5 l a i
 fst:1<Z.length->a<c
 seg:∀k x y,Z[k]?=a_ x->Z[k+1]?=a_ y->mZ l x (y-e)/\e<=y/\y-e-x<b-a
section
variable{l:List dJ}{a b e i c:Nat}{Z:List Nat}
def sy.push(h:sy l a b e i Z c){y:Nat}(D:mZ l c (y-e))(he:e<=y)(hs:y-e-c<b-a)(hy:a<y)(G8:y<=i+1)(Sf:y<b)(S:kd l y=1\/kd l y=2)(ty:j5 l a y)(j:Nat)(hj:i+1<=j)(ON:j5 l a j):sy l a b e j (Z++[y]) y:=by
 have hl:=h.ne;have A5:=h.cn;have c6:=D.lt;refine⟨λx I=>by
  rcases fB.1 I with z|z
  exact h.kg x z;rw[dP.1 z];omega,af,af,aa,aa,Sf,ah,S,ty,ON,λ_=>hy,?_⟩
 intro k x z Y V;rw[acB] at Y V;split at V;rename_i q;rw[if_pos aa] at Y;exact h.seg k x z Y V;rename_i q;have hk2:k+1=Z.length:=by
  rcases ei (k+1-Z.length) 1 with w|w
  omega;rw[jV ah] at V;cases V
 rw[hk2,kY] at V;rw[if_pos aa,show k=Z.length-1 by omega,h.last] at Y;cases Y;have:y=z:=aD
 subst this;exact⟨D,he,hs⟩
def sy.skip(h:sy l a b e i Z c){j:Nat}(hj:i<=j)(ON:j5 l a j):sy l a b e j Z c:=by
 have:=h.ci;have:=h.cn;exact⟨h.kg,h.last,h.ne,h.ac,aa,h.cb,aa,h.S,h.Fo,ON,h.fst,h.seg⟩
def sy.done(h:sy l a b e b Z c)(R:mZ l a b):U3 l a b e (Z++[b]):=by
 have hl:=h.ne;have XJ:=h.cb;have Jv:=h.ac;have D:mZ l c b:=R.piece h.ac h.cb (b_ _) h.Fo R.shut h.S R.auV R.L_;refine⟨λx I=>by
  rcases fB.1 I with z|z
  exact h.kg x z;rw[dP.1 z];omega,ah,?_,?_⟩
 intro k x z Y V h3;rw[dO,ov] at h3;rw[acB,if_pos aa] at Y V;exact h.seg k x z Y V;intro k x z Y V h3;rw[dO,ov] at h3;rw[acB,if_pos aa] at Y;rw[acB,if_neg aa] at V;rw[show k=Z.length-1 by omega,h.last] at Y;cases Y;rw[show k+1-Z.length=0 by omega] at V;have:b=z:=aD
 subst this;refine⟨D,λq=>?_⟩;have:=h.fst au;omega
def sy.start(R:mZ l a b):sy l a b e a [a] a:=by
 have t0:j5 l a a:=by unfold j5;rw[kY];rfl
 have:=R.lt;refine⟨λx I=>by rw[dP.1 I];omega,rfl,af,b_ _,b_ _,R.lt,af,R.hd,t0,t0,λq=>by simp at q,?_⟩;intro k x y Y V;rw[jV af] at V;cases V
end
end
section
variable{l:List dJ}{J:List br}{a b:Nat}
def FT(l:List dJ)(i:Nat):Prop:=i=0\/kd l (i-1)=2\/kd l (i-1)=4
def Ld(l:List dJ)(i:Nat):Prop:=i=0\/(kd l (i-1)≠1/\kd l (i-1)≠3)
structure PF(l:List dJ)(i:Nat):Prop where
 low:∀n,n<=i->0<=gT l 0 n
 fr:∀j,j<i->FT l j->kd l j=1\/kd l j=2
 fl:∀j,j<i->kd l j=5->¬Ld l j
def PF.Ft(h:PF l l.length)(Y:0<l.length->¬FT l l.length)(V:gT l 0 l.length<=0):vR l:=by
 refine⟨λh0=>h.fr 0 h0 (bD rfl),λi Q S=>?_,λi Q S=>?_,h.low,?_⟩;have f:FT l (i+1):=by
  unfold FT;rw[Pw];exact bG S
 rcases ei (i+1) l.length with z|z
 exact⟨z,h.fr _ z f⟩;rw[show i+1=l.length by omega] at f;exact absurd f (Y aa);have:=h.fl i Q S;unfold Ld at this;refine⟨?_,?_⟩
 rcases Dw i with z|z
 exact absurd (bD z) this;exact z;by_cases q1:kd l (i-1)=1;exact bD q1;by_cases bV:kd l (i-1)=3;exact bG bV;exact absurd (bG ⟨q1,bV⟩) this;have:=h.low l.length (b_ _);omega
def acS(l:List dJ)(r:bg):Prop:=∃(p:Int) (b:Bool),r=.bQ [.v (.int .i64 p),.v (.bool b)]/\((p= -1/\(b=bf->vR l))\/∃i:Nat,p=(i:Int)/\i<l.length)
def agm{p:Int}{b:Bool}(h:(p= -1/\(b=bf->vR l))\/∃i:Nat,p=(i:Int)/\i<l.length):∃k bS,dx J k (.bQ [.v (.int .i64 p),.v (.bool b)])=a_ bS/\acS l bS:=by
 obtain⟨k,S⟩:=(fj (bF (bH (.int .i64 p)) (bF (bH (.bool b)) cZ)):b6 J _ _).done;exact⟨k,_,S,p,b,rfl,h⟩
@[go_sem]def r5(x:dJ)(J:List br):bz J bf 1 (.fp x.cells 0)=a_ (.v (.int .i64 x.kind)):=rfl
def adp(l:List dJ)(i:Nat)(r:bg):Prop:=∃n:Nat,r=.v (.int .i64 ((i+n:Nat):Int))/\i+n<=l.length/\(i+n<l.length->gT l i (n+1)=0)/\∀t,t<n->gT l i (t+1)≠0
def Q7{i n:Nat}(h:i+n<=l.length/\(i+n<l.length->gT l i (n+1)=0)/\∀t,t<n->gT l i (t+1)≠0):∃k bS,dx J k (.v (.int .i64 ((i+n:Nat):Int)))=a_ bS/\adp l i bS:=by
 obtain⟨k,S⟩:=(bH (.int .i64 ((i+n:Nat):Int)):b6 J _ _).done;exact⟨k,_,S,n,rfl,h⟩
def oO(Z:List Nat):List bg:=Z.map λc:Nat=>dh (.int .i64 (c:Int))
@[go_sem]def Oa(Z:List Nat):cY 1 (oO Z)=bh:=by
 rw[cY,eG];intro x I;obtain⟨t,ht,rfl⟩:=dX.1 I;rfl
def PI(l:List dJ)(a b e:Nat)(X:Prop)(r:bg):Prop:=∃Z:List Nat,r=.sl (oO Z) .no/\U3 l a b e Z/\Z.length<=l.length+2/\(Z.length=2->X)
def anJ{v:bg}{e:Nat}{X:Prop}{Z:List Nat}(h:mY 0 J v (oO Z) 1 3)(Y:U3 l a b e Z)(V:Z.length<=l.length+2)(h3:Z.length=2->X):∃k bS,dx J k v=a_ bS/\PI l a b e X bS:=by
 rcases h with rfl|⟨id,rfl,_⟩
 obtain⟨n,hn⟩:=(gQ (t:=.exact) (iw (f:=λc:Nat=>dh (.int .i64 (c:Int))) (l:=Z) λa _=>bH _):b6 J _ _).done;exact⟨n,_,hn,Z,rfl,Y,V,h3⟩;obtain⟨n,hn⟩:=(gQ (t:=.tok id) (iw (f:=λc:Nat=>dh (.int .i64 (c:Int))) (l:=Z) λa _=>bH _):b6 J _ _).done;exact⟨n,_,hn,Z,rfl,Y,V,h3⟩
section
variable{G:Cells}{v:bg}{l:List dJ}
def atK(hv:cC v (l.map nx))(hl:l.length<=1000000000):dV G bA 91 [v] (acS l):=by
 refine ep (aAz.go ?_);have ln:=hv.cH;rw[cS] at ln;have mm:∀J,cH v J=a_ (.v (.int .i64 (l.length:Int)),J):=λJ=>aLB
 refine fI ?_;refine dj (λi e h=>∃(d:Int) (f g:Bool),e=[(0,v),(4,.v (.int .i64 d)),(5,.v (.bool f)),(6,.v (.bool g)),(7,bp i)]/\d=gT l 0 i/\(f=bh↔FT l i)/\(g=bh↔Ld l i)/\PF l i/\h=[]) l.length ⟨0,bh,bh,rfl,rfl,⟨λ_=>bD rfl,λ_=>rfl⟩,⟨λ_=>bD rfl,λ_=>rfl⟩,⟨λn hn=>by rw[show n=0 by omega];exact Ds _,λj hj=>aa,λj hj=>aa⟩,rfl⟩ ?_ ?_
 · rintro i e h Q ⟨d,f,g,rfl,hd,hf,hg,hC,rfl⟩
   obtain⟨x,I⟩:=dW Q;have e1:cx 5 v (.v (.int .i64 (i:Int)))=a_ (.fp x.cells 0):=hv.cw (x:=x.bE) aA rfl;have S:=EV I;have hab:=Wo l 0 i;rw[<-hd] at hab;have XN:0<=d:=by rw[hd];exact hC.low i (b_ _)
   have dr:=xI l 0 i;rw[gA,S,<-hd] at dr;have d2:x.kind=2->cN.wrap (d+1)=gT l 0 (i+1):=λq=>by rw[dr,Ib q,e6 aa aa]
   have d3:x.kind=3->cN.wrap (d-1)=gT l 0 (i+1):=λq=>by rw[dr,T_ q,e6 aa aa];rfl
   have d0:x.kind≠2->x.kind≠3->d=gT l 0 (i+1):=λq bV=>by rw[dr,Ia q bV];omega
   have Es:FT l (i+1)↔x.kind=2\/x.kind=4:=by unfold FT;rw[Pw,S];simp
   have zo:Ld l (i+1)↔x.kind≠1/\x.kind≠3:=by unfold Ld;rw[Pw,S];simp
   have step:(x.kind=3->d≠0)->(f=bh->x.kind=1\/x.kind=2)->(x.kind=5->g=bf)->PF l (i+1):=λY V h3=>by
    refine⟨λn hn=>?_,λj hj q=>?_,λj hj q=>?_⟩
    rcases ei n (i+1) with z|z
    exact hC.low n aa;rw[show n=i+1 by omega,dr];by_cases bt:x.kind=2;rw[Ib bt];omega;by_cases bV:x.kind=3;have:=Y bV;rw[T_ bV];omega;rw[Ia bt bV];omega
    rcases ei j i with z|z
    exact hC.fr j z q;obtain rfl:j=i:=aa
    rw[S];exact V (hf.2 q)
    rcases ei j i with z|z
    exact hC.fl j z q;obtain rfl:j=i:=aa
    rw[S] at q;intro bt;have:=hg.2 bt;rw[h3 q] at this;cases this
   cases f<;>cases g
   all_goals
    refine qQ @bp.eq_1 @mm @e1 @Aw @r5 ?_
    repeat' ((refine cQ (λq=>?_) λq=>?_)<;>(have q':=q)<;>(simp -failIfUnchanged only[qs] at q')<;>(refine e3 @q ?_))
   all_goals first
    |(exfalso;omega)
    |exact agm (bG ⟨i,rfl,Q⟩)
    |exact⟨_,_,_,rfl,d2 aa,aNv,aNw,step (λ_=>aa) (λq=>aMH) (λ_=>aMS),trivial⟩
    |exact⟨_,_,_,rfl,d3 aa,aNv,aNw,step (λ_=>aa) (λq=>aMH) (λ_=>aMS),trivial⟩
    |exact⟨_,_,_,rfl,d0 aa aa,aNv,aNw,step (λ_=>aa) (λq=>aMH) (λ_=>aMS),trivial⟩
 · rintro e h ⟨d,f,g,rfl,hd,hf,hg,hC,rfl⟩
   refine wy ?_;cases f
   all_goals repeat' refine ba (λq'=>?_) λq'=>?_
   all_goals
    exact agm (bD ⟨rfl,λe=>by
     first
      |(cases e;done)
      |exact hC.Ft (λq=>aa) (by rw[show l.length=0 by omega];exact Ds _)
      |exact hC.Ft (λq z=>by cases(hf.2 z)) (by rw[<-hd];simp at e;omega)⟩)
def ao3(hv:cC v (l.map nx))(hl:l.length<=1000000000)(i0:Nat)(GR:i0<=l.length):dV G bA 222 [v,.v (.int .i64 (i0:Int))] (adp l i0):=by
 refine ep (aBl.go ?_);have ln:=hv.cH;rw[cS] at ln;have mm:∀J,cH v J=a_ (.v (.int .i64 (l.length:Int)),J):=λJ=>aLB
 refine wy ?_;refine dj (λn e h=>∃d:Int,e=[(0,v),(5,.v (.int .i64 d)),(6,.v (.int .i64 ((i0+n:Nat):Int)))]/\d=gT l i0 n/\(∀t,t<n->gT l i0 (t+1)≠0)/\h=[]) (l.length-i0) ⟨0,rfl,rfl,λt ht=>aa,rfl⟩ ?_ ?_;rintro n e h hn ⟨d,rfl,hd,hI,rfl⟩;obtain⟨x,I⟩:∃x,l[i0+n]?=a_ x:=⟨l[i0+n],cu aa⟩;have e1:cx 5 v (.v (.int .i64 ((i0+n:Nat):Int)))=a_ (.fp x.cells 0):=hv.cw (x:=x.bE) aA rfl;have S:=EV I;have hab:=Wo l i0 n;rw[<-hd] at hab;have dr:=xI l i0 n;rw[S,<-hd] at dr;have d2:x.kind=2->cN.wrap (d+1)=gT l i0 (n+1):=λq=>by rw[dr,Ib q,e6 aa aa]
 have d3:x.kind=3->cN.wrap (d-1)=gT l i0 (n+1):=λq=>by rw[dr,T_ q,e6 aa aa];rfl
 have d0:x.kind≠2->x.kind≠3->d=gT l i0 (n+1):=λq bV=>by rw[dr,Ia q bV];omega
 have fH:cN.wrap (((i0+n:Nat):Int)+1)=((i0+(n+1):Nat):Int):=by rw[kI aa];rfl
 have Wj:gT l i0 (n+1)≠0->∀t,t<n+1->gT l i0 (t+1)≠0:=λq t ht=>by
  rcases ei t n with z|z
  exact hI t z;rw[show t=n by omega];exact q
 have Hx:decide (((i0+n:Nat):Int)<(l.length:Int))=bh:=ah
 by_cases bt:x.kind=2;have:=d2 bt;refine rE @mm @Hx @e1 @r5 @bt @this ?_;refine dy (λq=>?_) λq=>?_;exact Q7 ⟨aa,λ_=>an,hI⟩;refine eE @fH ?_;exact⟨_,rfl,rfl,Wj an,trivial⟩;have n2:(x.kind==2)=bf:=aZ
 by_cases bV:x.kind=3;have:=d3 bV;refine rE @mm @Hx @e1 @r5 @bV @this ?_;refine dy (λq=>?_) λq=>?_;exact Q7 ⟨aa,λ_=>an,hI⟩;refine eE @fH ?_;exact⟨_,rfl,rfl,Wj an,trivial⟩;have pK:(x.kind==3)=bf:=by simpa using bV
 have:=d0 bt bV;refine rE @mm @Hx @e1 @r5 @n2 @pK ?_;refine dy (λq=>?_) λq=>?_;exact Q7 ⟨aa,λ_=>by rw[<-this];simpa using q,hI⟩;refine eE @fH ?_;exact⟨_,rfl,this,Wj (by rw[<-this];simpa using q),trivial⟩;rintro e h ⟨d,rfl,hd,hI,rfl⟩;refine wy ?_;have:=Q7 (J:=[]) (l:=l) (i:=i0) (n:=l.length-i0) ⟨aa,λq=>aa,hI⟩;rw[show i0+(l.length-i0)=l.length by omega] at this;exact this
def as7(hv:cC v (l.map nx))(T:eT v)(hl:l.length<=1000000000)(w:vR l)(R:mZ l a b):dV G bA 156 [v,.v (.int .i64 (a:Int)),.v (.int .i64 (b:Int)),.v (.int .i64 3)] (PI l a b 1 (Aq l a b)):=by
 refine ep (akb.go ?_);have bJ:=R.le;have c6:=R.lt;refine so ?_;refine oo (n:=b-a) (λm e h=>∃(i c:Nat) (Z:List Nat) (bx:bg),m=b-i/\i<=b/\e=[(0,v),(1,.v (.int .i64 (a:Int))),(2,.v (.int .i64 (b:Int))),(3,.v (.int .i64 3)),(9,bx),(10,.v (.int .i64 (i:Int)))]/\sy l a b 1 i Z c/\(Z.length=1->Aq l a i)/\mY 0 h bx (oO Z) 1 3) ⟨a,a,[a],_,rfl,aa,rfl,sy.start R,λ_ t Y V=>aa,bD rfl⟩ ?_;rintro m e h ⟨i,c,Z,bx,rfl,X2,rfl,hI,hN,hA⟩
 rcases ei i b with Q|Q
 obtain⟨x,I⟩:∃x,l[i]?=a_ x:=⟨l[i],cu aa⟩;have e1:cx 5 v (.v (.int .i64 (i:Int)))=a_ (.fp x.cells 0):=hv.cw (x:=x.bE) aA rfl;have S:=EV I;have Jv:=hI.ac;have XL:=hI.ci;have A5:=hI.cn;have E5:=R.E5 aa Q hI.ti;have ext:∀j,i<=j->(∀t,i<=t->t<j->j5 l a t->kd l t≠4)->Z.length=1->Aq l a j:=λj hj Y V t t1 t2 t3=>by
  rcases ei t i with z|z
  exact hN V t t1 z t3;exact Y t z t2 t3
 by_cases fP:x.kind=4;have jl:kd l i=4:=by rw[S,fP]
 have aKe:c≠i:=by intro e;have:=hI.S;rw[e,jl] at this;omega
 obtain⟨p1,p2⟩:=w.prev (i:=i) aa aa aa aa;have pc:=R.piece Jv aa (by omega:i<=b) hI.Fo hI.ti hI.S p1 p2;obtain⟨_,fH⟩:=w.Ta i aa (bG jl);have axS:i+1<b:=by
  rcases ei (i+1) b with z|z
  exact z;have:=R.L_;rw[show b-1=i by omega] at this;exact absurd jl this
 have ty:=hI.ti.succ aa aa aa;have P:=hI.push (y:=i+1) (by rw[Pw];exact pc) aa aa aa aa axS fH ty (i+1) (b_ _) ty;obtain⟨cl,g,e2,fM,_⟩:=HJ (x:=.v (.int .i64 ((i+1:Nat):Int))) (cc:=8) hA (j0 _) (Oa Z) rfl ag ag aNp;refine Df @e1 @Aw @r5 @fP @Av @e2 ?_;exact⟨b-(i+1),aa,i+1,i+1,Z++[i+1],cl,rfl,aa,rfl,P,λz=>aL6,aLw⟩;have n4:(x.kind==4)=bf:=aMc
 by_cases bt:x.kind=2;have k2:kd l i=2:=by rw[S,bt]
 refine tr @r5 ?_;refine eF (ao3 hv hl i aa) ?_;rintro r ⟨n,rfl,Y,V,h3⟩;obtain⟨s1,s2,ek⟩:=R.skip aa Q hI.ti k2 V h3;refine wy ?_;refine⟨b-(i+n+1),aa,i+n+1,c,Z,bx,rfl,aa,rfl,hI.skip aa s2,ext _ aa λt t1 t2 t3=>?_,hA⟩
 rcases ei i t with z|z
 exact absurd t3 (ek t z aa);rw[show t=i by omega,k2];decide;have n2:(x.kind==2)=bf:=aZ
 refine qQ @e1 @Aw @r5 @n4 @n2 ?_;refine⟨b-(i+1),aa,i+1,c,Z,bx,rfl,aa,rfl,hI.skip aa (hI.ti.succ aa (by rw[S];exact bt) E5),ext _ aa λt t1 t2 t3=>?_,hA⟩;rw[show t=i by omega,S];exact fP;obtain rfl:i=b:=aa
 have A5:=hI.cn;obtain⟨cl,g,e2,fM,_⟩:=HJ (x:=.v (.int .i64 (i:Int))) (cc:=8) hA (j0 _) (Oa Z) rfl ag ag aNp;exact wy (anJ (Z:=Z++[i]) aLw (hI.done R) ah λz=>hN aN)
def aGv(hv:cC v (l.map nx))(T:eT v)(hl:l.length<=1000000000)(w:vR l)(R:mZ l a b)(nb:Aq l a b):dV G bA 156 [v,.v (.int .i64 (a:Int)),.v (.int .i64 (b:Int)),.v (.int .i64 2)] (PI l a b 0 (DD l a b)):=by
 refine ep (akb.go ?_);have bJ:=R.le;have c6:=R.lt;refine wy ?_;refine oo (n:=b-a) (λm e h=>∃(i c:Nat) (Z:List Nat) (bx:bg),m=b-i/\i<=b/\e=[(0,v),(1,.v (.int .i64 (a:Int))),(2,.v (.int .i64 (b:Int))),(3,.v (.int .i64 2)),(9,bx),(10,.v (.int .i64 (i:Int)))]/\sy l a b 0 i Z c/\(c<i\/i=a)/\(Z.length=1->DD l a i)/\mY 0 h bx (oO Z) 1 3) ⟨a,a,[a],_,rfl,aa,rfl,sy.start R,bG rfl,λ_ t Y V=>aa,bD rfl⟩ ?_;rintro m e h ⟨i,c,Z,bx,rfl,X2,rfl,hI,aKf,hN,hA⟩
 rcases ei i b with Q|Q
 obtain⟨x,I⟩:∃x,l[i]?=a_ x:=⟨l[i],cu aa⟩;have e1:cx 5 v (.v (.int .i64 (i:Int)))=a_ (.fp x.cells 0):=hv.cw (x:=x.bE) aA rfl;have S:=EV I;have Jv:=hI.ac;have XL:=hI.ci;have A5:=hI.cn;have E5:=R.E5 aa Q hI.ti;have ext:∀j,i<=j->(∀t,a<t->i<=t->t<j->j5 l a t->kd l t≠1/\kd l t≠2)->Z.length=1->DD l a j:=λj hj Y V t t1 t2 t3=>by
  rcases ei t i with z|z
  exact hN V t t1 z t3;exact Y t t1 z t2 t3
 have cut:a<i->(kd l i=1\/kd l i=2)->∀j,i+1<=j->j5 l a j->sy l a b 0 j (Z++[i]) i:=λY V j hj ON=>by
  have pr:j5 l a (i-1)->kd l (i-1)≠4:=λq=>nb _ aa aa q;have di:gT l a (i-a)=gT l a (i-1-a)+yA (kd l (i-1)):=by
   rw[show i-a=i-1-a+1 by omega,xI,show a+(i-1-a)=i-1 by omega]
  have ti:=hI.ti;unfold j5 at ti pr;have p2:kd l (i-1)≠2:=λq=>by
   rw[Ib q] at di;have:=R.low (i-1-a) aa;omega
  have jm:kd l (i-1)≠4:=λq=>by
   rw[Ia aa aa] at di;exact pr aa q
  exact hI.push (y:=i) (R.piece Jv aa X2 hI.Fo hI.ti hI.S p2 jm) (j0 _) aa Y aa Q V hI.ti j hj ON
 have aoP:=ao3 (G:=G) hv hl i aa;obtain⟨cl,g,e2,fM,_⟩:=HJ (x:=.v (.int .i64 (i:Int))) (cc:=8) hA (j0 _) (Oa Z) rfl ag ag aNp;have rU:mY 0 g cl (oO (Z++[i])) 1 3:=aLw
 by_cases bt:x.kind=2;have k2:kd l i=2:=by rw[S,bt]
 rcases ei a i with hai|hai
 refine iD @r5 ?_;refine eF aoP ?_;rintro r ⟨n,rfl,Y,V,h3⟩;obtain⟨s1,s2,ek⟩:=R.skip aa Q hI.ti k2 V h3;refine wy ?_;exact⟨b-(i+n+1),aa,i+n+1,i,Z++[i],cl,rfl,aa,rfl,cut hai (bG k2) _ aa s2,bD aa,λz=>aL6,rU⟩;refine Di @r5 ?_;refine eF aoP ?_;rintro r ⟨n,rfl,Y,V,h3⟩;obtain⟨s1,s2,ek⟩:=R.skip aa Q hI.ti k2 V h3;refine so ?_;refine⟨b-(i+n+1),aa,i+n+1,c,Z,bx,rfl,aa,rfl,hI.skip aa s2,bD aa,ext _ aa λt t0 t1 t2 t3=>?_,hA⟩;exact absurd t3 (ek t aa aa);have n2:(x.kind==2)=bf:=aZ
 have ts:=hI.ti.succ aa (by rw[S];exact bt) E5;by_cases q1:x.kind=1;have k1:kd l i=1:=by rw[S,q1]
 rcases ei a i with hai|hai
 have GH:decide ((a:Int)<(i:Int))=bh:=qw hai;refine pQ @e1 @Aw @r5 @q1 @GH @Av @e2 ?_;exact⟨b-(i+1),aa,i+1,i,Z++[i],cl,rfl,aa,rfl,cut hai (bD k1) _ aa ts,bD aa,λz=>aL6,rU⟩;have GH:decide ((a:Int)<(i:Int))=bf:=xJ hai;refine qQ @e1 @Aw @r5 @q1 @GH ?_;exact⟨b-(i+1),aa,i+1,c,Z,bx,rfl,aa,rfl,hI.skip aa ts,bD aa,ext _ aa λt t0 t1 t2 t3=>aa,hA⟩;have n1:(x.kind==1)=bf:=aL_
 have fin:∃m,m<b-i/\∃(i' c:Nat) (Z:List Nat) (jt:bg),m=b-i'/\i'<=b/\[(0,v),(1,dh (.int .i64 (a:Int))),(2,dh (.int .i64 (b:Int))),(3,dh (.int .i64 2)),(9,bx),(10,dh (.int .i64 ((i+1:Nat):Int)))]=[(0,v),(1,dh (.int .i64 (a:Int))),(2,dh (.int .i64 (b:Int))),(3,dh (.int .i64 2)),(9,jt),(10,dh (.int .i64 (i':Int)))]/\sy l a b 0 i' Z c/\(c<i'\/i'=a)/\(Z.length=1->DD l a i')/\mY 0 h jt (oO Z) 1 3:=
  ⟨b-(i+1),aa,i+1,c,Z,bx,rfl,aa,rfl,hI.skip aa ts,bD aa,ext _ aa λt t0 t1 t2 t3=>by rw[show t=i by omega,S];exact⟨q1,bt⟩,hA⟩
 rcases ei a i with hai|hai
 have GH:decide ((a:Int)<(i:Int))=bh:=qw hai;exact lT @e1 @r5 @n1 @n2 @GH fin;have GH:decide ((a:Int)<(i:Int))=bf:=xJ hai;exact lT @e1 @r5 @n1 @n2 @GH fin;obtain rfl:i=b:=aa
 have A5:=hI.cn;obtain⟨cl,g,e2,fM,_⟩:=HJ (x:=.v (.int .i64 (i:Int))) (cc:=8) hA (j0 _) (Oa Z) rfl ag ag aNp;exact wy (anJ (Z:=Z++[i]) aLw (hI.done R) ah λz=>hN aN)
end
end
section
variable{ps:List cV}{p:cV}{a b c d v x:bg}{g J:List br}{K:Nat}
def cV.xq(i:Nat)(p:cV):Prop:=((p.kind=1/\p.name.length<=12/\p.kids=[])\/((p.kind=2\/p.kind=3)/\2<=p.kids.length)\/(p.kind=4/\p.kids.length=1/\IC p.low p.high))/\∀x∈p.kids,0<=x/\x<(i:Int)
def yX(ps:List cV):Prop:=∀(i:Nat) p,ps[i]?=a_ p->p.xq i
def yX.push(h:yX ps)(J:p.xq ps.length):yX (ps++[p]):=by
 intro i q hq
 rcases Nat.lt_trichotomy i ps.length with c|c|c
 rw[fT c] at hq;exact h i q hq;subst c;simp at hq;rw[<-hq];exact J;rw[jV ah] at hq;cases hq
def aE8(h:yX ps):yX (ps.map cV.cD):=by
 intro i p J;rw[fD] at J;cases hq:ps[i]? with
 |none=>rw[hq] at J;cases J
 |some q=>
  rw[hq] at J;cases J;exact h i q hq
def aEo:br->Prop
 |.tok _ _ e=>e≠190
 |_=>True
def An(J bl:List br):Prop:=J.length<=bl.length/\∀(j:Nat) b,aEo b->J[j]?=a_ b->bl[j]?=a_ b
def An.refl(J:List br):An J J:=⟨b_ _,λ_ _ _ h=>h⟩
def An.trans{a b c:List br}(h:An a b)(q:An b c):An a c:=⟨ig h.1 q.1,λj x hn e=>q.2 j x hn (h.2 j x hn e)⟩
def apG{dz:List cV}:∀{i:Nat} {st:List Int},i<=ps.length->qP ps i st->qP (ps++dz) i st
 |0,_,_,h=>h
 |i+1,_,Q,⟨p,rA,Y,V,h3⟩=>⟨p,rA,by rw[fT aa];exact Y,apG aa V,h3⟩
def abo{st:List Int}(h:qP ps ps.length (st++p.kids)):qP (ps++[p]) (ps++[p]).length (st++[(((ps++[p]).length-1:Nat):Int)]):=by
 rw[dO,ov,Pw];exact⟨p,st,af,apG (b_ _) h,rfl⟩
def apH:∀{i:Nat} {st:List Int},qP ps i st->qP (ps.map cV.cD) i st
 |0,_,h=>h
 |i+1,_,⟨p,rA,Y,V,h3⟩=>⟨p.cD,rA,by rw[fD,Y];rfl,apH V,h3⟩
def acO(ps:List cV)(m:Nat)(J:List br)(r:bg)(bl:List br):Prop:=∃dz:List cV,dz≠[]/\dz.length+1<=2*m/\de bl r ((ps++dz).map su) 5 190/\yX (ps++dz)/\An J bl/\∀st,qP ps ps.length st->qP (ps++dz) (ps++dz).length (st++[(((ps++dz).length-1:Nat):Int)])
def aaQ(hA:de J v (ps.map su) 5 190)(hn:ps.length<=4000000000)(p:cV):
  ∃v' g,eg J 5 64 190 v (.sl [p.bE] .exact)=a_ (v',g)/\de g v' ((ps++[p]).map su) 5 190/\An J g:=by
 obtain⟨cl,g,e1,fM,_,h3,h4⟩:=nc (x:=p.bE) (cc:=64) hA (Z8 ps) (Kf p) ag ag ah;refine⟨cl,g,e1,aLx,h3,λj b O hj=>h4 j b hj λxs q=>?_⟩
 rcases hA with⟨z,_⟩|⟨id,b7,z2⟩
 rw[z] at q;cases q;rw[b7] at q;cases q;rw[hj] at z2;cases z2;exact O rfl
@[go_sem]def apC{y:bg}(S:g[K]?=a_ (.cells [a,b,c,d,x] bf))(Y:cq y=bh)(V:y.cells=[y]):bL g 1 (.mp K 4) y=a_ (g.set K (.cells [a,b,c,d,y] bf)):=by
 simp only[bL,S,fu];rw[V];simp[dS,Y]
@[go_sem]def amb(S:g[K]?=a_ (.cells [a,b,c,d,x] bf))(Y:cq x=bh):bz g bf 1 (.mp K 4)=a_ x:=by
 simp only[bz,S];rfl
@[go_sem]def alY(S:g[K]?=a_ (.cells [a,b,c,d,x] bf)):bz g bh 5 (.mp K 0)=a_ (.agg [a,b,c,d,x]):=by
 simp only[bz,S];rfl
def PO(B:Nat)(J:List br)(v:bg)(xs:List bg):Prop:=(v=.bq/\xs=[])\/∃id,v=.sl xs (.tok id)/\B<=id/\J[id]?=a_ (.tok xs.length 1 3)
def aB7{B:Nat}{xs:List bg}(hA:PO B J v xs)(hB:B<=J.length)(I:cY 1 xs=bh)(hy:cY 1 [x]=bh)(hfit:(xs.length+1)*8<=140737488355328):
  ∃v' bl,eg J 1 8 3 v (.sl [x] .exact)=a_ (v',bl)/\PO B bl v' (xs++[x])/\J.length<=bl.length/\cq v'=bh/\v'.cells=[v']/\∀(j:Nat) b,J[j]?=a_ b->(∀xs,v≠.sl xs (.tok j))->bl[j]?=a_ b:=by
 rcases hA with⟨rfl,rfl⟩|⟨id,rfl,hid,S⟩
 refine⟨.sl ([]++[x]) (.tok J.length),J++[.tok 1 1 3],?_,bG ⟨J.length,rfl,hB,af⟩,af,rfl,rfl,λj b h _=>bU h⟩;simp only[eg,gY,iI,iA,hy];simp;have hl:id<J.length:=gl S;refine⟨.sl (xs++[x]) (.tok id),J.set id (.tok (xs.length+1) 1 3),?_,bG ⟨id,rfl,hid,aLT⟩,af,rfl,rfl,λj b h bR=>?_⟩;simp[eg,gY,iI,iA,hy,hfit,I,S];rw[bC (λq=>bR xs (by rw[q]))];exact h
structure acP(l:List dJ)(ps:List cV)(hJ:Int)(a b K k c:Nat)(Z:List Nat)(J:List br)(rv kv:bg)(dz:List cV)(kids:List Int)(h:List br):Prop where
 blk:h[K]?=a_ (.cells [bp hJ,bp 0,bp 0,bu [],kv] bf)
 alI:PO K h kv (kids.map bp)
 kl:kids.length=k
 alS:∀x∈kids,0<=x/\x<((ps++dz).length:Nat)
 row:de h rv ((ps++dz).map su) 5 190
 ok:yX (ps++dz)
 lG:An J h
 at_:Z[k]?=a_ c
 ac:a<=c
 cb:c<=b
 cnt:dz.length+k<=2*(c-a)
 stk:∀st,qP ps ps.length st->qP (ps++dz) (ps++dz).length (st++kids)
section
variable{G:Cells}{v:bg}{l:List dJ}
@[go_sem]def al_(x:dJ)(J:List br):bz J bf 1 (.fp x.cells 2)=a_ (.v (.int .i64 x.low)):=rfl
@[go_sem]def al9(x:dJ)(J:List br):bz J bf 1 (.fp x.cells 3)=a_ (.v (.int .i64 x.high)):=rfl
@[go_sem]def ama(x:dJ)(J:List br):bz J bf 1 (.fp x.cells 4)=a_ (bu x.name):=rfl
def att(hv:cC v (l.map nx))(T:eT v)(fR:∀x∈l,x.xq)(hl:l.length<=1000000000)(w:vR l):∀(m a b:Nat),b-a<=m->mZ l a b->∀(ps:List cV) (bx:bg) (J:List br),de J bx (ps.map su) 5 190->yX ps->ps.length+2*(b-a)<=4000000000->
  ct G bA 92 [bx,v,.v (.int .i64 (a:Int)),.v (.int .i64 (b:Int))] J (acO ps (b-a) J):=by
 have JB:∀i,i<l.length->1<=kd l i/\kd l i<=5:=λi Q=>by
  have I:l[i]?=a_ l[i]:=cu Q;rw[EV I];have:=fR _ (cz I);exact⟨this.1,this.2.1⟩
 intro m
 induction m with
 |zero=>intro a b h R;have:=R.lt;omega
 |succ m ih=>
  intro a b hm R ps bx J hA iU dw;have c6:=R.lt;have bJ:=R.le;refine aAB.go ?_;refine wy ?_;refine dj (λk e h=>∃hJ:Int,e=[(0,bx),(1,v),(2,.v (.int .i64 (a:Int))),(3,.v (.int .i64 (b:Int))),(9,.v (.int .i64 hJ))]/\h=J/\((k=0/\hJ=3)\/(k=1/\hJ=2/\Aq l a b)\/(k=2/\hJ=1/\Aq l a b/\DD l a b))) 2 ⟨3,rfl,rfl,bD ⟨rfl,rfl⟩⟩ ?_ ?_;rintro i e h Q ⟨hJ,rfl,rfl,hI⟩;obtain⟨e,X,sp,hX,aiQ⟩:∃(e:Nat) (X:Prop),dV G bA 156 [v,.v (.int .i64 (a:Int)),.v (.int .i64 (b:Int)),.v (.int .i64 hJ)] (PI l a b e X)/\(X->((i+1=0/\hJ-1=3)\/(i+1=1/\hJ-1=2/\Aq l a b)\/(i+1=2/\hJ-1=1/\Aq l a b/\DD l a b)))/\((hJ=3/\e=1)\/(hJ=2/\e=0)):=by
   rcases hI with⟨rfl,rfl⟩|⟨rfl,rfl,nb⟩|⟨rfl,_⟩
   exact⟨1,_,as7 hv T hl w R,λx=>bG (bD ⟨rfl,rfl,x⟩),bD ⟨rfl,rfl⟩⟩;exact⟨0,_,aGv hv T hl w R nb,λx=>bG (bG ⟨rfl,rfl,nb,x⟩),bG ⟨rfl,rfl⟩⟩;omega
  have c2:decide ((2:Int)<=hJ)=bh:=ah
  have w1:cN.wrap (hJ-1)=hJ-1:=e6 aa aa;refine wy ?_;refine eF sp ?_;rintro r ⟨Z,rfl,hP,jH,Xx⟩;have Zl:∀g,cH (.sl (oO Z) .no) g=a_ (.v (.int .i64 (Z.length:Int)),g):=λg=>by
   rw[oc];simp[oO,jj]
  have aJ8:=hP.two;refine wy (cQ (λq=>?_) λq=>?_);refine wx ?_;exact⟨hJ-1,rfl,trivial,by simpa using hX (Xx au)⟩;have aKh:3<=Z.length:=au
  have f1:dI [.v (.int .i64 0),.v (.int .i64 0),.v (.int .i64 0),.v (.string ⟨[].toArray⟩),.bq] [(0,1,.v (.int .i64 hJ))]=a_ (rG ⟨hJ,0,0,[],[],.no⟩):=rfl;have s1:=zW h ⟨hJ,0,0,[],[],.no⟩;have Xj:de (h++[.cells (rG ⟨hJ,0,0,[],[],.no⟩) bf]) bx (ps.map su) 5 190:=by
   rcases hA with z|⟨id,b7,z2⟩
   exact bD z;exact bG ⟨id,b7,bU z2⟩
  have b1:An h (h++[.cells (rG ⟨hJ,0,0,[],[],.no⟩) bf]):=⟨af,λj b _ q=>bU q⟩;obtain⟨c0,El⟩:∃c,Z[0]?=a_ c:=⟨Z[0],cu aa⟩;refine wy ?_;refine oo (n:=Z.length) (λm e g=>∃(k c:Nat) (rv kv:bg) (dz:List cV) (kids:List Int),m=Z.length-k/\k+1<=Z.length/\e=[(0,rv),(1,v),(9,.v (.int .i64 hJ)),(10,.sl (oO Z) .no),(11,.mp h.length 0),(12,.v (.int .i64 (k:Int)))]/\acP l ps hJ a b h.length k c Z h rv kv dz kids g) ⟨0,c0,bx,.bq,[],[],rfl,aa,rfl,by rw[fJ (b_ _),kY];rfl,bD ⟨rfl,rfl⟩,rfl,af,by rw[fZ];exact Xj,by rw[fZ];exact iU,b1,El,(hP.kg _ (cz El)).1,(hP.kg _ (cz El)).2,af,λst hs=>by rw[fZ,fZ];exact hs⟩ ?_;rintro m e g ⟨k,c,rv,kv,dz,kids,rfl,gj,rfl,hB⟩;have Jv:=hB.ac;have XJ:=hB.cb;have En:=hB.cnt;have aJ5:h.length<g.length:=gl hB.blk
  rcases ei (k+1) Z.length with hk2|hk2
  · obtain⟨y,hy⟩:=dW hk2
    have Sf:=hP.kg y (cz hy);have aJS:cx 1 (.sl (oO Z) .no) (.v (.int .i64 ((k+1:Nat):Int)))=a_ (.fp [.v (.int .i64 (y:Int))] 0):=lE (x:=.v (.int .i64 (y:Int))) (by simp[oO,hy]) rfl;have ex:cx 1 (.sl (oO Z) .no) (.v (.int .i64 (k:Int)))=a_ (.fp [.v (.int .i64 (c:Int))] 0):=lE (x:=.v (.int .i64 (c:Int))) (by simp[oO,hB.at_]) rfl;obtain⟨ja,hR,hs,aKk,h3⟩:∃ja:Nat,mZ l c ja/\ja-c<b-a/\ja<=y/\(((hJ==3)=bh/\k+2<Z.length/\cN.wrap ((y:Int)-1)=(ja:Int))\/((hJ==3)=bh/\Z.length<=k+2/\0<Z.length/\ja=y)\/((hJ==3)=bf/\0<Z.length/\0<Z.length/\ja=y)):=by
     rcases ei (k+2) Z.length with z|z
     obtain⟨g1,g2,g3⟩:=hP.seg k c y hB.at_ hy z
     rcases aiQ with⟨rfl,rfl⟩|⟨rfl,rfl⟩
     exact⟨y-1,g1,g3,aa,bD ⟨rfl,z,KX aa aa⟩⟩;exact⟨y,g1,g3,b_ _,bG (bG ⟨rfl,aa,aa,rfl⟩)⟩;obtain⟨g1,g2⟩:=hP.fin k c y hB.at_ hy aa
     rcases aiQ with⟨rfl,rfl⟩|⟨rfl,rfl⟩
     exact⟨y,g1,g2 aa,b_ _,bG (bD ⟨rfl,z,aa,rfl⟩)⟩;exact⟨y,g1,g2 aa,b_ _,bG (bG ⟨rfl,aa,aa,rfl⟩)⟩
    have nN:=hR.lt;have Em:=ih c ja aa hR (ps++dz) rv g hB.row hB.ok aMA;have step:∀(r:bg) (g2:List br),acO (ps++dz) (ja-c) g r g2->∃(N:Nat) (cl:bg) (g3:List br) (ts:List cV),cH r g2=a_ (.v (.int .i64 (N:Int)),g2)/\cN.wrap ((N:Int)-1)=((N-1:Nat):Int)/\bz g2 bf 1 (.mp h.length 4)=a_ kv/\eg g2 1 8 3 kv (.sl [.v (.int .i64 ((N-1:Nat):Int))] .exact)=a_ (cl,g3)/\bL g3 1 (.mp h.length 4) cl=a_ (g3.set h.length (.cells [bp hJ,bp 0,bp 0,bu [],cl] bf))/\acP l ps hJ a b h.length (k+1) y Z h r cl (dz++ts) (kids++[((N-1:Nat):Int)]) (g3.set h.length (.cells [bp hJ,bp 0,bp 0,bu [],cl] bf)):=by
     rintro r g2 ⟨ts,x7,Nn,fM,EE,O,e8⟩;have ln:=F4 fM;rw[cS] at ln;have k1:=O.2 _ _ (by exact trivial) hB.blk;have NG:PO h.length g2 kv (kids.map bp):=by
      rcases hB.alI with z|⟨id,b7,z2,z3⟩
      exact bD z;exact bG ⟨id,b7,z2,O.2 _ _ (by show(3:Nat)≠190;decide) z3⟩
     have aLj:=FK.2 x7;have hN:(ps++dz++ts).length=ps.length+dz.length+ts.length:=ah
     obtain⟨cl,g3,p1,p2,p3,po,pc,jm⟩:=aB7 (x:=.v (.int .i64 (((ps++dz++ts).length-1:Nat):Int))) NG (by have:=O.1;omega) (HG kids) rfl (by simp;have:=hB.kl;omega);have k2:=jm _ _ k1 (λxs q=>by
      rcases NG with⟨z,_⟩|⟨id,b7,_,z2⟩
      rw[z] at q;cases q;rw[b7] at q;cases q;rw[k1] at z2;cases z2)
     have aFZ:de g3 r ((ps++dz++ts).map su) 5 190:=by
      rcases fM with z|⟨id,b7,z2⟩
      exact bD z;refine bG ⟨id,b7,jm _ _ z2 λxs q=>?_⟩
      rcases NG with⟨z,_⟩|⟨azq,y1,_,fW⟩
      rw[z] at q;cases q;rw[y1] at q;cases q;rw[z2] at fW;simp at fW
     have Rv:=gl k2;have eM:cq kv=bh:=by
      rcases NG with⟨rfl,_⟩|⟨id,rfl,_⟩<;>rfl
     refine⟨(ps++dz++ts).length,cl,g3,ts,ln _,KX aa aa,amb k1 eM,p1,apC k2 po pc,?_⟩;refine⟨bT Rv,?_,by simp[hB.kl],?_,?_,?_,?_,hy,Sf.1,Sf.2,?_,λst hs=>by rw[<-dN,<-dN];exact e8 _ (hB.stk st hs)⟩;rw[gz]
     rcases p2 with z|⟨id,b7,z2,z3⟩
     exact bD z;refine bG ⟨id,b7,z2,?_⟩;rw[bC (λq=>by subst q;rw[k2] at z3;cases z3)];exact z3;intro x I;rw[<-dN,hN]
     rcases fB.1 I with z|z
     have:=hB.alS x z;rw[dO] at this;omega;rw[dP.1 z,hN];omega;rw[<-dN];exact j7 aFZ k2;rw[<-dN];exact EE;refine⟨by have:=hB.lG.1;have:=O.1;simp;omega,λj b iT hj=>?_⟩;have mb:=gl hj;rw[bC aa];refine jm _ _ (O.2 _ _ iT (hB.lG.2 _ _ iT hj)) λxs q=>?_
     rcases NG with⟨z,_⟩|⟨azq,y1,y0,fW⟩
     rw[z] at q;cases q;rw[y1] at q;cases q;omega;rw[dO];omega
    rcases h3 with⟨t1,t2,t3⟩|⟨t1,t2,t3,rfl⟩|⟨t1,t2,t3,rfl⟩
    all_goals
     refine wy (cm Em ?_);intro r g2 D;obtain⟨N,cl,g3,ts,u1,u2,u3,u4,aLo,aIq⟩:=step r g2 D;refine wy ?_;exact⟨Z.length-(k+1),aa,k+1,_,r,cl,dz++ts,kids++[((N-1:Nat):Int)],rfl,aa,rfl,aIq⟩
  have eP:=hB.kl;obtain⟨id,rfl,_,_⟩:∃id,kv=.sl (kids.map bp) (.tok id)/\True/\True:=by
   rcases hB.alI with⟨_,z⟩|⟨id,z,_⟩
   have:kids=[]:=aN
   rw[this] at eP;simp at eP;omega;exact⟨id,z,trivial,trivial⟩
  have p_:[bp hJ,bp 0,bp 0,bu [],.sl (kids.map bp) (.tok id)]=rG ⟨hJ,0,0,[],kids,.tok id⟩:=by
   cases kids with
   |nil=>simp at eP;omega
   |cons x r=>rfl
  have aye:=alY hB.blk;rw[p_] at aye;obtain⟨v',g2,p1,p2,p3⟩:=aaQ hB.row aMA ⟨hJ,0,0,[],kids,.tok id⟩;have ab:=LA ⟨hJ,0,0,[],kids,.tok id⟩;unfold su at ab p1;refine wy ?_;refine⟨dz++[⟨hJ,0,0,[],kids,.tok id⟩],af,ah,by rw[<-dN];exact p2,?_,hB.lG.trans p3,λst hs=>by rw[<-dN];exact abo (p:=⟨hJ,0,0,[],kids,.tok id⟩) (hB.stk st hs)⟩;rw[<-dN];exact hB.ok.push ⟨bG (bD ⟨by show hJ=2\/hJ=3;omega,by show 2<=kids.length;omega⟩),hB.alS⟩;rintro e h ⟨hJ,rfl,rfl,hI⟩;obtain⟨rfl,nb,ns⟩:hJ=1/\Aq l a b/\DD l a b:=by
   rcases hI with⟨z,_⟩|⟨z,_⟩|⟨_,z⟩
   omega;omega;exact z
  obtain⟨x,I⟩:∃x,l[b-1]?=a_ x:=⟨l[b-1],cu aa⟩;obtain⟨y,hy⟩:∃x,l[a]?=a_ x:=⟨l[a],cu aa⟩;have e1:cx 5 v (.v (.int .i64 ((b-1:Nat):Int)))=a_ (.fp x.cells 0):=hv.cw (x:=x.bE) aA rfl;have e2:cx 5 v (.v (.int .i64 (a:Int)))=a_ (.fp y.cells 0):=hv.cw (x:=y.bE) aT rfl;have RT:=EV I;have ax9:=EV hy;have EO:=fR x (cz I);have G9:=fR y (cz hy);have aty:decide ((2:Int)<=1)=bf:=ag
  have wb:cN.wrap ((b:Int)-1)=((b-1:Nat):Int):=KX aa aa;by_cases iN:x.kind=5;have D:=ih a (b-1) aa (R.aIv w (by rw[RT];exact iN)) ps bx h hA iU aa;refine iD @r5 (cm D ?_);rintro r g ⟨dz,R6,ais,fM,EE,O,e8⟩;have ln:=F4 fM;rw[cS] at ln;have r3:0<(ps++dz).length:=by rw[dO];have:=FK.2 R6;omega
  have aiF:(ps++dz).length<=4000000000:=aMA
  obtain⟨v',g2,p1,p2,p3⟩:=aaQ fM aiF ⟨4,x.low,x.high,[],[(((ps++dz).length-1:Nat):Int)],.exact⟩;have wl:cN.wrap (((ps++dz).length:Int)-1)=(((ps++dz).length-1:Nat):Int):=KX aa aa;have f4:dI [.v (.int .i64 0),.v (.int .i64 0),.v (.int .i64 0),.v (.string ⟨[].toArray⟩),.bq] [(0,1,.v (.int .i64 4)),(1,1,.v (.int .i64 x.low)),(2,1,.v (.int .i64 x.high)),(4,1,.sl [.v (.int .i64 (((ps++dz).length-1:Nat):Int))] .exact)]=a_ (rG ⟨4,x.low,x.high,[],[(((ps++dz).length-1:Nat):Int)],.exact⟩):=rfl;have ab:=LA ⟨4,x.low,x.high,[],[(((ps++dz).length-1:Nat):Int)],.exact⟩;unfold su at ab p1;generalize hN:(ps++dz).length=N at ln wl f4 ab p1 p2 r3 aiF;refine qQ (dB @wb @e1 @Aw @al_) (dB @al9 @ln @wl @Av) @f4 @ab @p1 ?_;refine⟨dz++[⟨4,x.low,x.high,[],[((N-1:Nat):Int)],.exact⟩],af,ah,by rw[<-dN];exact p2,?_,O.trans p3,λst hs=>by rw[<-dN];exact abo (p:=⟨4,x.low,x.high,[],[((N-1:Nat):Int)],.exact⟩) (by have:=e8 st hs;rw[hN] at this⊢;exact this)⟩;rw[<-dN];refine EE.push ⟨bG (bG ⟨rfl,rfl,EO.2.2.2 iN⟩),λz hz=>?_⟩;rw[dP.1 (show z∈[((N-1:Nat):Int)] from hz),hN];omega;have jR:(x.kind==5)=bf:=by simpa using iN
  by_cases bt:y.kind=2;have D:=ih (a+1) (b-1) aa (R.inner w JB nb ns (by rw[ax9];exact bt) (by rw[RT];exact iN)) ps bx h hA iU aa;refine iD @r5 (cm D ?_);rintro r g ⟨dz,R6,ais,fM,EE,O,e8⟩;refine wy ?_;exact⟨dz,R6,aa,fM,EE,O,e8⟩;have n2:(y.kind==2)=bf:=aZ
  obtain⟨v',g2,p1,p2,p3⟩:=aaQ hA aa ⟨1,0,0,y.name,[],.no⟩;have f4:dI [.v (.int .i64 0),.v (.int .i64 0),.v (.int .i64 0),.v (.string ⟨[].toArray⟩),.bq] [(0,1,.v (.int .i64 1)),(3,1,bu y.name)]=a_ (rG ⟨1,0,0,y.name,[],.no⟩):=rfl;have ab:=LA ⟨1,0,0,y.name,[],.no⟩;unfold su at ab p1;refine jE (dB @aty @wb @e1 @e2) (dB @Aw @r5 @ama @jR) (dB @n2 @f4 @ab @p1) ?_;refine⟨[⟨1,0,0,y.name,[],.no⟩],af,ah,p2,?_,p3,λst hs=>abo (p:=⟨1,0,0,y.name,[],.no⟩) (by rw[fZ];exact hs)⟩;exact iU.push ⟨bD ⟨rfl,G9.2.2.1,rfl⟩,λz hz=>by cases hz⟩
end
structure yU(n:Nat)(v:bg)(ps:List cV):Prop where
 v:cC v (ps.map su)
 ok:yX ps
 len:ps.length<=2*n
 top:ps=[]\/∃x,qP ps ps.length [x]
 no:∀p∈ps,p.tail=.no
def adb(n:Nat)(r:bg):Prop:=∃(v:bg) (ps:List cV) (p e:Int),r=.bQ [v,.v (.int .i64 p),.v (.int .i64 e)]/\yU n v ps
def anL{G:Cells}(s:List UInt8)(hs:s.length<=1000000000):dV G bA 55 [bu s] (adb s.length):=by
 refine ep (aAf.go ?_);have bad:∀(J:List br) (p e:Int),∃k bS,dx J k (.bQ [.bq,.v (.int .i64 p),.v (.int .i64 e)])=a_ bS/\adb s.length bS:=λJ p e=>by
  obtain⟨k,S⟩:=(fj (bF ey (bF (bH (.int .i64 p)) (bF (bH (.int .i64 e)) cZ))):b6 J _ _).done;exact⟨k,_,S,.bq,[],p,e,rfl,bG ⟨rfl,rfl⟩,λi p h=>av,j0 _,bD rfl,af⟩
 refine wy ?_;refine eF (aCY s hs) ?_;rintro r ⟨v,l,p,e,rfl,hv,hl,fR⟩;have T:eT v:=by
  rcases hv with rfl|⟨rfl,_⟩
  exact k7 We;exact nY
 have ln:=hv.cH;rw[cS] at ln;refine wy (cQ (λq=>?_) λq=>?_);exact eE @q (bad _ _ _);refine wy ?_;refine eF (atK hv aa) ?_;rintro r ⟨p2,b2,rfl,hK⟩;refine wy (cQ (λbt=>?_) λbt=>?_)
 rcases hK with⟨rfl,_⟩|⟨i,rfl,Q⟩
 simp at bt;obtain⟨x,I⟩:=dW Q;have e1:cx 5 v (.v (.int .i64 (i:Int)))=a_ (.fp x.cells 0):=hv.cw (x:=x.bE) aA rfl;have e2:∀J,bz J bf 1 (.fp x.cells 1)=a_ (.v (.int .i64 x.at_)):=λJ=>rfl;exact fq @bt @e1 @e2 (bad _ _ _);cases b2 with
 |true=>
  exact eE @bt (bad _ _ _)
 |false=>
  have hW:vR l:=by
   rcases hK with⟨rfl,h⟩|⟨i,rfl,Q⟩
   exact h rfl;simp at bt
  refine wy ?_;refine dy (λbV=>?_) λbV=>?_;exact bad _ _ _;have h0:0<l.length:=by simp at bV;exact FK.2 bV
  have JB:∀i,i<l.length->1<=kd l i/\kd l i<=5:=λi Q=>by
   have I:l[i]?=a_ l[i]:=cu Q;rw[EV I];have:=fR _ (cz I);exact⟨this.1,this.2.1⟩
  refine wy (cm (att hv T fR aa hW l.length 0 l.length aa (hW.all JB h0) [] .bq _ (tv _ _ _) (λi p h=>av) ah) ?_);rintro r g ⟨dz,R6,ais,fM,EE,O,e8⟩;refine wy ?_;have CA:=e8 [] rfl;rw[gd] at fM EE CA
  rcases fM with⟨rfl,z⟩|⟨id,rfl,_⟩
  exact bad _ _ _;obtain⟨k,S⟩:=(fj (bF (gQ (t:=.tok id) (e_.SL λa _=>W5 g a)) (bF (bH (.int .i64 0)) (bF (bH (.int .i64 0)) cZ))):b6 g (.bQ [.sl (dz.map su) (.tok id),.v (.int .i64 0),.v (.int .i64 0)]) (.bQ [.sl (dz.map λp=>p.cD.bE) .no,.v (.int .i64 0),.v (.int .i64 0)])).done;refine⟨k,_,S,.sl (dz.map λp=>p.cD.bE) .no,dz.map cV.cD,0,0,rfl,bD ?_,aE8 EE,ah,bG ⟨_,by rw[cS];exact apH CA⟩,λp J=>?_⟩;rw[yM];rfl;obtain⟨q,_,rfl⟩:=dX.1 J;rfl
end
section
variable{a b:List UInt8}{bx v:bg}{l:List dJ}{ps:List cV}{p:cV}{n:Nat}{t:o6}{h:List br}
@[go_sem]def adM(h:a.length+b.length<=1000):dM .add (.v (.string ⟨a.toArray⟩)) (bu b)=a_ (bu (a++b)):=vT (a:=a) aa
@[go_sem]def IW(h:a.length+b.length<=1000000000):dM .add (bu a) (.v (.string ⟨b.toArray⟩))=a_ (bu (a++b)):=vT (b:=b) aa
section
variable{G:Cells}
def aH6(lo Q:Int):dV G bA 289 [.v (.int .i64 lo),.v (.int .i64 Q)] (At 60):=by
 refine ep (aBy.go ?_);refine so ?_
 repeat' refine ba (λq'=>?_) λq'=>?_
 all_goals first
  |(exfalso;omega)
  |exact sP (t:=[42]) ag
  |exact sP (t:=[43]) ag
  |exact sP (t:=[63]) ag
  |(refine eF (aa4 lo) ?_
    rintro r ⟨t,rfl,ht⟩;have a1:dM .add (.v (.string ⟨[123].toArray⟩)) (bu t)=a_ (bu ([123]++t)):=adM ah;have a2:dM .add (bu ([123]++t)) (.v (.string ⟨[125].toArray⟩))=a_ (bu ([123]++t++[125])):=IW ah;have a3:dM .add (bu ([123]++t)) (.v (.string ⟨[44,125].toArray⟩))=a_ (bu ([123]++t++[44,125])):=IW ah;have a4:dM .add (bu ([123]++t)) (.v (.string ⟨[44].toArray⟩))=a_ (bu ([123]++t++[44])):=IW ah;refine e3 @a1 ?_
    repeat' ((refine cQ (λq=>?_) λq=>?_)<;>(have q':=q)<;>(simp -failIfUnchanged only[qs] at q')<;>(refine mP @a2 @a3 @a4 @q ?_))
    all_goals first
     |(exfalso;omega)
     |exact sP (t:=[123]++t++[125]) (by simp only[dO,eB,gR];omega)
     |exact sP (t:=[123]++t++[44,125]) (by simp only[dO,eB,gR];omega)
     |(refine eF (aa4 Q) ?_
       rintro r ⟨t2,rfl,No⟩;have a5:dM .add (bu ([123]++t++[44])) (bu t2)=a_ (bu ([123]++t++[44]++t2)):=vT ah;have a6:dM .add (bu ([123]++t++[44]++t2)) (.v (.string ⟨[125].toArray⟩))=a_ (bu ([123]++t++[44]++t2++[125])):=IW ah;refine nv @a5 @a6 ?_;exact sP ah))
def dJ.IK(x:dJ):Prop:=1<=x.kind/\x.kind<=5/\x.name.length<=12
def aGI(hv:cC v (l.map nx))(fR:∀x∈l,x.IK)(hl:l.length<=1000000):dV G bA 264 [v] (At (100*l.length)):=by
 refine ep (aBt.go ?_);have ln:=hv.cH;rw[cS] at ln;have ab:eW 1 [.v (.string ⟨[].toArray⟩),.v (.string ⟨[].toArray⟩),.v (.string ⟨[40].toArray⟩),.v (.string ⟨[41].toArray⟩),.v (.string ⟨[124].toArray⟩)]=a_ (.sl [bu [],bu [],bu [40],bu [41],bu [124]] .exact):=rfl;have i2:cx 1 (.sl [bu [],bu [],bu [40],bu [41],bu [124]] .exact) (.v (.int .i64 2))=a_ (.fp [bu [40]] 0):=rfl;have i3:cx 1 (.sl [bu [],bu [],bu [40],bu [41],bu [124]] .exact) (.v (.int .i64 3))=a_ (.fp [bu [41]] 0):=rfl;have i4:cx 1 (.sl [bu [],bu [],bu [40],bu [41],bu [124]] .exact) (.v (.int .i64 4))=a_ (.fp [bu [124]] 0):=rfl;refine wy ?_;refine dj (λi e h=>∃t:List UInt8,e=[(0,v),(3,.sl [bu [],bu [],bu [40],bu [41],bu [124]] .exact),(4,bu t),(5,bp i)]/\t.length<=100*i) l.length ⟨[],rfl,af⟩ ?_ ?_
 · rintro i e J Q ⟨t,rfl,ht⟩
   obtain⟨x,I⟩:=dW Q;have EO:=fR x (cz I);have e1:cx 5 v (.v (.int .i64 (i:Int)))=a_ (.fp x.cells 0):=hv.cw (x:=x.bE) aA rfl;have e2:∀J,bz J bh 5 (.fp x.cells 0)=a_ (.agg x.cells):=λJ=>rfl;have s1:=zT J x;unfold iQ at s1;have gk:∀g:List br,g[J.length]?=a_ (.cells x.cells bf)->bz g bf 1 (.mp J.length 0)=a_ (.v (.int .i64 x.kind))/\bz g bf 1 (.mp J.length 2)=a_ (.v (.int .i64 x.low))/\bz g bf 1 (.mp J.length 3)=a_ (.v (.int .i64 x.high))/\bz g bf 1 (.mp J.length 4)=a_ (bu x.name):=λg q=>by
    simp only[bz,q];exact⟨rfl,rfl,rfl,rfl⟩
   have hm:(J++[bw x.cells bf])[J.length]?=a_ (.cells x.cells bf):=af
   obtain⟨l0,l2,l3,l4⟩:=gk _ hm;have sp:dM .add (bu t) (.v (.string ⟨[32].toArray⟩))=a_ (bu (t++[32])):=IW ah;have E3:∀u:List UInt8,u.length<=100*i+1->(∀w:List UInt8,w.length<=60->dM .add (bu u) (bu w)=a_ (bu (u++w)))/\(∀w:List UInt8,w.length<=60->(u++w).length<=100*(i+1)):=λu hu=>⟨λw hw=>vT aa,λw hw=>ah⟩;obtain⟨k1,k2,hn⟩:=EO;have XI:x.kind=1\/x.kind=2\/x.kind=3\/x.kind=4\/x.kind=5:=aa
   have b1:=(E3 t aa).1 x.name aa;have b2:=(E3 (t++[32]) ah).1 x.name aa;have d1:=(E3 t aa).2 x.name aa;have d2:=(E3 (t++[32]) ah).2 x.name aa;have c1:=λw hw=>(E3 t aa).1 w hw;have c2:=λw hw=>(E3 (t++[32]) ah).1 w hw;have b7:=λw hw=>(E3 t aa).2 w hw;have z2:=λw hw=>(E3 (t++[32]) ah).2 w hw
   rcases XI with q|q|q|q|q
   all_goals
    rw[q] at l0;refine wy ?_
    repeat' ((refine cQ (λq=>?_) λq=>?_)<;>(have q':=q)<;>(simp -failIfUnchanged only[qs] at q')<;>(refine pQ (dB @m_ @l0 @sp @l4) (dB @b1 @b2 @i2 @i3) (dB @i4 @xQ (c1 [40] ag) (c2 [40] ag)) (dB (c1 [41] ag) (c2 [41] ag) (c1 [124] ag) (c2 [124] ag)) @l2 @l3 @q ?_))
   all_goals first
    |(exfalso;omega)
    |exact⟨_,rfl,d1⟩
    |exact⟨_,rfl,d2⟩
    |exact⟨_,rfl,b7 _ ag⟩
    |exact⟨_,rfl,z2 _ ag⟩
    |(refine eF (aH6 _ _) ?_
      rintro r ⟨w,rfl,hw⟩;refine wy ?_
      first
       |exact⟨_,rfl,b7 w hw⟩
       |exact⟨_,rfl,z2 w hw⟩)
 rintro e h ⟨t,rfl,ht⟩;exact wy (sP ht)
end
def ID(ps:List cV):Prop:=∀(i:Nat) p,ps[i]?=a_ p->∀x∈p.kids,0<=x/\x<(i:Int)
def yX.kids(h:yX ps):ID ps:=λi p J=>(h i p J).2
def aHI(h:ID ps):∀(n f g:Nat) (i:Int),i.toNat<n->i.toNat<f->i.toNat<g->yC ps f i=yC ps g i:=by
 intro n
 induction n with
 |zero=>intro f g i h0;omega
 |succ n ih=>
  intro f g i h0 Y V;obtain⟨f,rfl⟩:∃f',f=f'+1:=⟨f-1,aa⟩;obtain⟨g,rfl⟩:∃g',g=g'+1:=⟨g-1,aa⟩;unfold yC;cases J:ps[i.toNat]? with
  |none=>rfl
  |some p=>
   dsimp only;congr 2;refine B0 λk S=>?_;have:=h _ p J k S;rw[ih f g k aa aa aa]
def Uf(h:ID ps){i:Nat}(J:ps[i]?=a_ p):sz ps (i:Int)=3+(p.kids.map λk=>sz ps k+1).sum:=by
 show yC ps (i+1) (i:Int)=_;unfold yC;rw[wZ,J];dsimp only;congr 2;refine B0 λk S=>?_;have:=h _ p J k S;rw[aHI h (i+1) i (k.toNat+1) k aa aa aa];rfl
def abn(h:ID ps):∀{i:Nat} {st:List Int},qP ps i st->(st.map λk=>sz ps k+1).sum<=4*i
 |0,st,hs=>by rw[show st=[] from hs];simp
 |i+1,st,⟨p,rA,J,Y,V⟩=>by
  have:=abn h Y;rw[V];simp only[gz,arx,fQ,kX,Aj,Iz] at this⊢;rw[Uf h J];omega
def Ue(f:Int->Nat):∀ks:List Int,ks.length<=(ks.map λk=>f k+1).sum
 |[]=>b_ _
 |k::r=>by have:=Ue f r;simp only[fQ,Aj,eB];omega
def ar3(n:Nat)(r:bg):Prop:=∃l:List dJ,r=.sl (l.map nx) .no/\l≠[]/\l.length<=n/\∀x∈l,x.IK
def ad8{J:List br}{xs ys:List bg}{cc:Nat}{e:TypeId}(hA:de J v xs n e)(I:cY n xs=bh)(hy:cY n ys=bh)(bR:ys≠[])(hn:0<n)(O:0<cc)(hfit:(xs.length+ys.length)*cc<=140737488355328):
  ∃v' bl,eg J n cc e v (.sl ys t)=a_ (v',bl)/\de bl v' (xs++ys) n e/\∀(j:Nat) b,J[j]?=a_ b->(∀xs,v≠.sl xs (.tok j))->bl[j]?=a_ b:=by
 rcases hA with⟨rfl,rfl⟩|⟨id,rfl,S⟩
 refine⟨.sl ([]++ys) (.tok J.length),J++[.tok ys.length n e],?_,bG ⟨J.length,rfl,af⟩,λj b h _=>bU h⟩;simp only[gR,gA] at hfit;simp[eg,gY,iI,iA,bR,hy,hn,O,hfit];have hl:id<J.length:=gl S;refine⟨.sl (xs++ys) (.tok id),J.set id (.tok (xs.length+ys.length) n e),?_,bG ⟨id,rfl,aLT⟩,λj b h bR=>?_⟩;simp[eg,gY,iI,iA,bR,hy,hn,O,hfit,I,S];rw[bC (λq=>bR xs (by rw[q]))];exact h
structure vP(p:cV)(l:List dJ)(bx:bg)(h:List br):Prop where
 b:h[0]?=a_ (.cells p.cells bf)
 a:de h bx (l.map nx) 5 187
 ok:∀x∈l,x.IK
def vP.Om{m:List dJ}(s:vP p l bx h)(hm:∀x∈m,x.IK)(bR:m≠[])(hl:l.length+m.length<=2000000):∃cl g,eg h 5 48 187 bx (.sl (m.map nx) t)=a_ (cl,g)/\vP p (l++m) cl g:=by
 obtain⟨cl,g,e1,hA,S⟩:=ad8 (ys:=m.map nx) (cc:=48) (t:=t) s.a (Td l) (Td m) (by simpa using bR) ag ag ah;refine⟨cl,g,e1,S _ _ s.b λxs z=>?_,by rw[gz];exact hA,λx I=>?_⟩
 rcases s.a with⟨q,_⟩|⟨id,q1,bt⟩
 rw[q] at z;cases z;rw[q1] at z;cases z;rw[s.b] at bt;cases bt
 rcases fB.1 I with z|z
 exact s.ok x z;exact hm x z
def vP.push(s:vP p l bx h)(x:dJ)(I:x.IK)(hl:l.length<=1000000):∃cl g,eg h 5 48 187 bx (.sl [.agg x.cells] .exact)=a_ (cl,g)/\vP p (l++[x]) cl g:=
 s.Om (m:=[x]) (λy hy=>aNt) af ah
def Ce(h:yU n v ps):eT v:=by
 rcases h.v with rfl|⟨rfl,_⟩
 refine k7 λx I c T=>?_;obtain⟨p,J,rfl⟩:=dX.1 I;have qc:=h.no p J;have:c=bp p.kind\/c=bp p.low\/c=bp p.high\/c=bu p.name\/c=p.kv:=by simpa[su,jU,rG] using T
 rcases this with rfl|rfl|rfl|rfl|rfl
 exact cP _;exact cP _;exact cP _;exact cP _;unfold cV.kv;split;exact nY;rw[qc];refine k7 λx I c T=>?_;obtain⟨t,_,rfl⟩:=dX.1 I;rw[dP.1 (show c∈[bp t] from T)];exact cP _;exact nY
section
variable{G:Cells}
def aGN(h:yU n v ps):∀(m i:Nat),i<m->i<ps.length->sz ps (i:Int)<=1000000->∀b:Bool,dV G bA 265 [v,.v (.int .i64 (i:Int)),.v (.bool b)] (ar3 (sz ps (i:Int))):=by
 intro m
 induction m with
 |zero=>intro i Q;omega
 |succ m ih=>
  intro i Q ld dw b;obtain⟨p,J⟩:=dW ld;have mh:=h.ok i p J;have qc:=h.no p (cz J);have hs:=Uf h.ok.kids J;have eP:=Ue (λk=>sz ps k) p.kids;have lk:=zB qc aa;have kc:=Ce h;have e1:cx 5 v (.v (.int .i64 (i:Int)))=a_ (.fp p.cells 0):=h.v.cw (x:=p.bE) (by simp[J]) rfl;have agi:∀c:Int,dI [.v (.int .i64 0),.v (.int .i64 0),.v (.int .i64 0),.v (.int .i64 0),.v (.string ⟨#[]⟩)] [(0,1,.v (.int .i64 c))]=a_ (iE ⟨c,0,0,0,[]⟩):=λc=>rfl;have f1:dI [.v (.int .i64 0),.v (.int .i64 0),.v (.int .i64 0),.v (.int .i64 0),.v (.string ⟨#[]⟩)] [(0,1,.v (.int .i64 1)),(4,1,bu p.name)]=a_ (iE ⟨1,0,0,0,p.name⟩):=rfl;have f5:dI [.v (.int .i64 0),.v (.int .i64 0),.v (.int .i64 0),.v (.int .i64 0),.v (.string ⟨#[]⟩)] [(0,1,.v (.int .i64 5)),(2,1,.v (.int .i64 p.low)),(3,1,.v (.int .i64 p.high))]=a_ (iE ⟨5,0,p.low,p.high,[]⟩):=rfl;have pM:∀c:Int,2<=c->c<=4->dJ.IK ⟨c,0,0,0,[]⟩:=λc Y V=>⟨by show 1<=c;omega,by show c<=5;omega,aMf⟩;have gk:∀g:List br,g[0]?=a_ (.cells p.cells bf)->bz g bf 1 (.mp 0 0)=a_ (.v (.int .i64 p.kind))/\bz g bf 1 (.mp 0 1)=a_ (.v (.int .i64 p.low))/\bz g bf 1 (.mp 0 2)=a_ (.v (.int .i64 p.high))/\bz g bf 1 (.mp 0 3)=a_ (bu p.name)/\bz g bf 1 (.mp 0 4)=a_ p.kv:=λg q=>by
   simp only[bz,q];exact⟨rfl,rfl,rfl,rfl,rfl⟩
  refine ep (aBu.go ?_);have s1:=zW [] p;simp only[gd,gR] at s1;refine eN (λe g=>e=[(0,v),(1,.v (.int .i64 (i:Int))),(2,.v (.bool b))]/\g=[]) ?_ ?_;refine wx ?_
  first|exact⟨rfl,rfl⟩|exact⟨trivial,trivial⟩|trivial
  rintro e g ⟨rfl,rfl⟩;refine eN (λe g=>e=[(0,v),(1,.v (.int .i64 (i:Int))),(2,.v (.bool b)),(7,.bq)]/\g=[]) ?_ ?_;refine wx ?_
  first|exact⟨rfl,rfl⟩|exact⟨trivial,trivial⟩|trivial
  rintro e g ⟨rfl,rfl⟩;refine eN (λe g=>e=[(0,v),(2,.v (.bool b)),(7,.bq),(8,.mp 0 0)]/\g=[.cells p.cells bf]) ?_ ?_;refine wx ?_
  first|exact⟨rfl,rfl⟩|exact⟨trivial,trivial⟩|trivial
  rintro e g ⟨rfl,rfl⟩;have adl:vP p [] .bq [.cells p.cells bf]:=⟨rfl,tv _ _ _,af⟩;refine eN (λe g=>∃l bx,e=[(0,v),(2,.v (.bool b)),(7,bx),(8,.mp 0 0)]/\vP p l bx g/\l.length<=1) ?_ ?_;obtain⟨cl,g,p1,p2⟩:=adl.push ⟨2,0,0,0,[]⟩ (pM 2 ag ag) af;cases b with
  |true=>
   refine wx ?_;exact⟨_,cl,rfl,p2,af⟩
  |false=>
   refine wy ?_;exact⟨[],.bq,rfl,adl,af⟩
  rintro e g ⟨l1,o1,rfl,Vl,hl1⟩;obtain⟨d0,d1,d2,d3,d4⟩:=gk g Vl.b;refine eN (λe g=>∃l bx,e=[(0,v),(2,.v (.bool b)),(7,bx),(8,.mp 0 0)]/\vP p l bx g/\l.length<=1+(if p.kind=1 then 1 else 0)/\(p.kind=1->l≠[])) ?_ ?_;by_cases q1:p.kind=1;have hn:p.name.length<=12:=by
   rcases mh.1 with z|z|z
   exact z.2.1;omega;omega
  obtain⟨cl,g2,p1,p2⟩:=Vl.push ⟨1,0,0,0,p.name⟩ ⟨by show(1:Int)<=1;decide,aLJ,hn⟩ aa;refine wx ?_;exact⟨_,cl,rfl,p2,ah,λ_=>af⟩;have n1:(p.kind==1)=bf:=aL_
  refine ff @d0 @n1 ?_;exact⟨l1,o1,rfl,Vl,aa,λz=>absurd z q1⟩;rintro e g ⟨l2,o2,rfl,arZ,jC,aik⟩;have Cr:(if p.kind=1 then 1 else 0)<=1:=by split<;>omega
  refine eN (λe g=>∃l bx,e=[(2,.v (.bool b)),(7,bx),(8,.mp 0 0)]/\vP p l bx g/\l.length<=1+(if p.kind=1 then 1 else 0)+(p.kids.map λk=>sz ps k+1).sum/\l≠[]) ?_ ?_;refine wy ?_;refine dj (λj e g=>∃l bx,e=[(0,v),(2,.v (.bool b)),(7,bx),(8,.mp 0 0),(9,bp j)]/\vP p l bx g/\l.length<=1+(if p.kind=1 then 1 else 0)+((p.kids.take j).map λk=>sz ps k+1).sum/\((p.kind=1\/0<j)->l≠[])) p.kids.length ⟨l2,o2,rfl,arZ,ah,λz=>aik aa⟩ ?_ ?_
  · rintro j e g hj ⟨l3,kz,rfl,IT,s0,Yi⟩
    obtain⟨x,I⟩:=dW hj;obtain⟨x0,x1⟩:=mh.2 x (cz I);obtain⟨xn,rfl⟩:=pT x0;obtain⟨q,hq⟩:∃q,ps[xn]?=a_ q:=⟨ps[xn],cu aa⟩;have yB:=zX (f:=λk=>sz ps k+1) I;have sl:=Db (λk=>sz ps k+1) p.kids (j+1);have n3:cx 1 p.kv (.v (.int .i64 (j:Int)))=a_ (.fp [.v (.int .i64 (xn:Int))] 0):=by
     unfold cV.kv;split;rename_i z;rw[z] at I;simp at I;exact lE (x:=bp (xn:Int)) (by rw[fD,I];rfl) rfl
    have zd:cx 5 v (.v (.int .i64 (xn:Int)))=a_ (.fp q.cells 0):=h.v.cw (x:=q.bE) aLs rfl;have L6:∀J,bz J bf 1 (.fp q.cells 0)=a_ (.v (.int .i64 q.kind)):=λJ=>rfl;obtain⟨c0,_,_,_,c4⟩:=gk g IT.b;obtain⟨bv,Rl,b1,ado⟩:=IT.push ⟨4,0,0,0,[]⟩ (pM 4 ag ag) aa;obtain⟨nu,_,_,_,u4⟩:=gk Rl ado.b;have KU:cN.wrap ((j:Int)+1)=((j+1:Nat):Int):=kI aa;refine wy ?_
    repeat' ((refine cQ (λq=>?_) λq=>?_)<;>(have q':=q)<;>(simp -failIfUnchanged only[qs] at q')<;>(refine wT (dB @m_ @c4 @c0 @u4) (dB @nu @lk @n3 @xQ) @zd @Aw @L6 @agi @adH @b1 @q ?_))
    all_goals first
     |(exfalso;omega)
     |(refine eF (ih xn aa aa aa _) ?_
       rintro r ⟨ys,rfl,y1,fW,mz⟩
       first
        |(obtain⟨cl,g2,p1,p2⟩:=IT.Om (t:=.no) mz y1 aa
          refine wy ?_;exact⟨_,cl,rfl,p2,aMA,λ_=>by simp[y1]⟩)
        |(obtain⟨cl,g2,p1,p2⟩:=ado.Om (t:=.no) mz y1 ah
          refine ff @p1 @KU ?_;exact⟨_,cl,rfl,p2,by rw[dO,dO,ov];omega,λ_=>by simp[y1]⟩))
  rintro e g ⟨l3,kz,rfl,IT,s0,Yi⟩;obtain⟨d0,d1,d2,d3,d4⟩:=gk g IT.b;refine wy ?_;rw[oW] at s0;refine⟨l3,kz,rfl,IT,s0,Yi ?_⟩
  rcases mh.1 with z|z|z
  exact bD z.1;exact bG aa;exact bG aa;rintro e g ⟨l4,lq,rfl,Vn,aya,ayr⟩;obtain⟨d0,d1,d2,d3,d4⟩:=gk g Vn.b;refine eN (λe g=>∃l bx,e=[(2,.v (.bool b)),(7,bx)]/\vP p l bx g/\l.length<=2+(p.kids.map λk=>sz ps k+1).sum/\l≠[]) ?_ ?_;by_cases fP:p.kind=4;rw[if_neg aa] at aya;obtain⟨cl,g2,p1,p2⟩:=Vn.push ⟨5,0,p.low,p.high,[]⟩ ⟨aLJ,aM8,aMf⟩ aa;refine wx ?_;exact⟨_,cl,rfl,p2,ah,af⟩;have n4:(p.kind==4)=bf:=aMc
  refine wy ?_;exact⟨l4,lq,rfl,Vn,aa,ayr⟩;rintro e g ⟨EY,qG,rfl,adm,X7,ays⟩;refine eN (λe g=>∃l bx,e=[(7,bx)]/\vP p l bx g/\l.length<=3+(p.kids.map λk=>sz ps k+1).sum/\l≠[]) ?_ ?_;cases b with
  |true=>
   obtain⟨cl,g2,p1,p2⟩:=adm.push ⟨3,0,0,0,[]⟩ (pM 3 ag ag) aa;refine wx ?_;exact⟨_,cl,rfl,p2,ah,af⟩
  |false=>
   refine wy ?_;exact⟨EY,qG,rfl,adm,aa,ays⟩
  rintro e g ⟨Hq,vk,rfl,adn,RV,ail⟩;refine wy ?_
  rcases adn.a with⟨rfl,z⟩|⟨id,rfl,_⟩
  exact absurd aN ail;obtain⟨k,S⟩:=(gQ (t:=.tok id) (iw (f:=nx) (l:=Hq) λa _=>agS a):b6 g _ _).done;exact⟨k,_,S,Hq,rfl,ail,aa,adn.ok⟩
def aGG(h:yU n v ps)(hn:n<=100000)(bR:ps≠[]):dV G bA 218 [v] (At (800*n)):=by
 have hl:=h.len;obtain⟨x,I⟩:=h.top.resolve_left bR;have D:=abp bR I;have hs:=abn h.ok.kids I;rw[D] at hs;simp only[fQ,kX,Aj,Iz] at hs;have ln:=h.v.cH;rw[cS] at ln;refine ep (aBh.go ?_);refine wy (jG (aGN h ps.length (ps.length-1) aa aa aa bf) (bO (Ce h) (bO (cP _) (bO (cP _) cG))) ?_);rintro r ⟨ys,rfl,y1,fW,mz⟩;refine wy (jG (aGI (bD rfl) mz aa) (bO (k7 We) cG) ?_);rintro r ⟨t,rfl,ht⟩;refine wy ?_;exact sP aa
end
end
section
variable{l:List (List UInt8)}{w:List UInt8}{v:bg}
def kr:List (List UInt8)->Nat
 |[]=>0
 |w::r=>w.length+1+kr r
def SJ(a b:List (List UInt8)):kr (a++b)=kr a+kr b:=by
 induction a with
 |nil=>simp[kr]
 |cons x r ih=>simp only[jy,kr,ih];omega
def Zm(l:List (List UInt8))(n:Nat):kr (l.take n)+kr (l.drop n)=kr l:=by
 rw[<-SJ,K8]
def amr{i:Nat}(h:l[i]?=a_ w):kr (l.take (i+1))=kr (l.take i)+w.length+1:=by
 rw[yP,h,SJ];simp[kr];omega
def J3:∀l:List (List UInt8),l.length<=kr l
 |[]=>b_ _
 |w::r=>by have:=J3 r;simp only[kr,eB];omega
def amq(h:w∈l):w.length<=kr l:=by
 obtain⟨i,Q,rfl⟩:=Iy h;have Y:=amr (cu Q);have V:=Zm l (i+1);omega
def adu(n:Nat)(r:bg):Prop:=∃(v:bg) (e:Int) (l:List (List UInt8)),r=.bQ [v,.v (.int .i64 e)]/\cC v (l.map bu)/\kr l<=n
section
variable{G:Cells}
def az7(hv:cC v (l.map bu))(hl:kr l<=1000000):dV G bA 217 [v] (At (kr l)):=by
 refine ep (aBH.go ?_);have qa:=J3 l;have ln:=hv.cH;rw[cS] at ln;refine wy ?_;refine dj (λi e h=>∃t:List UInt8,e=[(0,v),(3,bu t),(4,bp i)]/\t.length<=kr (l.take i)/\h=[]) l.length ⟨[],rfl,af,rfl⟩ ?_ ?_;rintro i e h Q ⟨t,rfl,ht,rfl⟩;obtain⟨s,hs⟩:=dW Q;have Y:=amr hs;have V:=Zm l (i+1);have e1:cx 1 v (.v (.int .i64 (i:Int)))=a_ (.fp [bu s] 0):=hv.cw (x:=bu s) aNu rfl;have a1:dM .add (bu t) (.v (.string ⟨[32].toArray⟩))=a_ (bu (t++[32])):=vT (b:=[32]) ah;have a3:dM .add (bu (t++[32])) (bu s)=a_ (bu (t++[32]++s)):=vT ah;refine wy (cQ (λq=>?_) λq=>?_);refine wx ?_;exact⟨_,rfl,ah,trivial⟩;refine wx ?_;exact⟨_,rfl,ah,trivial⟩;rintro e h ⟨t,rfl,ht,rfl⟩;rw[oW] at ht;exact wy (sP ht)
def aG6(s:List UInt8)(hs:s.length<=1000000):dV G bA 86 [bu s] (adu (s.length+1)):=by
 refine ep (aBJ.go ?_);have bad:∀(J:List br) (e:Int),∃k bS,dx J k (.bQ [.bq,.v (.int .i64 e)])=a_ bS/\adu (s.length+1) bS:=λJ e=>by
  obtain⟨k,S⟩:=(fj (bF ey (bF (bH (.int .i64 e)) cZ)):b6 J _ _).done;exact⟨k,_,S,.bq,e,[],rfl,bG ⟨rfl,rfl⟩,j0 _⟩
 refine wy ?_;refine dj (λi e h=>∃(l:List (List UInt8)) (bx:bg) (t:List UInt8),e=[(0,bu s),(4,bx),(5,bu t),(6,bp i)]/\kr l+t.length<=i/\de h bx (l.map bu) 1 9) s.length ⟨[],.bq,[],rfl,b_ _,tv _ _ _⟩ ?_ ?_
 · rintro i e h Q ⟨l,bx,t,rfl,ht,hA⟩
   have qa:=J3 l;obtain⟨cl,g,e1,fM,_⟩:=nc (x:=bu t) (cc:=16) hA (zL l) rfl ag ag ah;have ab:eW 1 [bu t]=a_ (.sl [bu t] .exact):=rfl;have pu:kr (l++[t])=kr l+t.length+1:=by rw[SJ];simp[kr];omega
   have c1:=λJ=>QL (l:=s) (i:=i) (j:=i+1) aa aa J;have a1:dM .add (bu t) (bu ((s.take (i+1)).drop i))=a_ (bu (t++(s.take (i+1)).drop i)):=vT ah;have r1:((t++(s.take (i+1)).drop i)).length<=t.length+1:=ah
   refine oq ?_
   repeat' ((refine ba (λq'=>?_) λq'=>?_)<;>refine qQ @yb @afY @ab @e1 @xG ?_)
   all_goals first
    |exact bad _ _
    |exact⟨l++[t],cl,[],rfl,by rw[pu];simp;omega,aLx⟩
    |(refine eF (aE3 _) ?_
      rintro r ⟨b,rfl⟩;cases b with
      |false=>
       exact fS (bad _ _)
      |true=>
       refine wy ?_;exact⟨l,bx,_,rfl,aa,hA⟩)
 rintro e h ⟨l,bx,t,rfl,ht,hA⟩;have qa:=J3 l;obtain⟨cl,g,e1,fM,_⟩:=nc (x:=bu t) (cc:=16) hA (zL l) rfl ag ag ah;have ab:eW 1 [bu t]=a_ (.sl [bu t] .exact):=rfl;have pu:kr (l++[t])=kr l+t.length+1:=by rw[SJ];simp[kr];omega
 refine wy ?_;refine dy (λq=>?_) λq=>?_;exact bad _ _;refine wy ?_;rw[<-arn,<-gz] at fM
 rcases fM with⟨rfl,z⟩|⟨id,rfl,_⟩
 exact bad _ _;obtain⟨k,S⟩:=(fj (bF (gQ (t:=.tok id) (iw (f:=bu) (l:=l++[t]) λa _=>bH _)) (bF (bH (.int .i64 0)) cZ)):b6 g _ _).done;exact⟨k,_,S,_,0,l++[t],rfl,bD rfl,by rw[pu];omega⟩
def NT{X:List br}(h0:X[0]?=a_ (.cells gw bf)):bL X 4 (.mp 0 0) (.agg gw)=a_ (X.set 0 (.cells gw bf))/\bz (X.set 0 (.cells gw bf)) bh 4 (.mp 0 0)=a_ (.agg gw)/\∃n bS,dx (X.set 0 (.cells gw bf)) n (.bQ [.agg gw,.v (.bool bf)])=a_ bS/\II bS:=
 ⟨CS h0 rfl (x:=gw) rfl rfl,(SS (bT (a:=.cells gw bf) (gl h0))).2,NU (Ae _)⟩
@[go_sem]def amM{h:List br}{k:Nat}{nm:List UInt8}{v:Int}{al:Bool}{bv:bg}(O:h[k]?=a_ (.cells (eV nm v al bv) bf)):bz h bf 1 (.mp k 1)=a_ (.v (.int .i64 v)):=by
 simp only[bz,O];rfl
def aDD{ls:List (List UInt8)}(hv:cC v (ls.map bu))(cW:ls.length<=100000)(hw:∀w∈ls,w.length<=100000)(V:2<=ls.length):dV G bA 152 [v] II:=by
 refine ep (aAX.go ?_);obtain⟨n1,qb⟩:∃n,ls[1]?=a_ n:=⟨ls[1],cu aa⟩;have e1:cx 1 v (.v (.int .i64 1))=a_ (.fp [bu n1] 0):=hv.cw (i:=1) (x:=bu n1) (by simp[qb]) rfl;have f1:∀x:List UInt8,dI gw [(0,1,bu x)]=a_ (eV x 0 bf .bq):=λx=>rfl;have f0:dI gw []=a_ gw:=rfl;have hz:[dh (.string ⟨[].toArray⟩),.v (.int .i64 0),.v (.bool bf),.bq]=gw:=rfl;have s1:bL [.cells gw bf,.cells gw bf] 4 (.mp 1 0) (.agg (eV n1 0 bf .bq))=a_ [.cells gw bf,.cells (eV n1 0 bf .bq) bf]:=CS (k:=1) rfl rfl rfl rfl;have ln:=hv.cH;rw[cS] at ln;refine wy ?_;refine dj (λn e h=>∃(l:List (List UInt8)) (bx:bg),e=[(0,v),(2,.mp 0 0),(4,.mp 1 0),(5,bx),(6,.v (.int .i64 ((2+n:Nat):Int)))]/\h[0]?=a_ (.cells gw bf)/\(∃x,h[1]?=a_ (.cells x bf)/\oB x)/\de h bx (l.map bu) 1 9/\l.length<=n) (ls.length-2)
  ⟨[],.bq,rfl,rfl,⟨_,rfl,n1,0,bf,.bq,rfl,Ae _⟩,tv _ _ _,af⟩ ?_ ?_
 rintro n e h hn ⟨l,bx,rfl,h0,⟨x,Y,nm,tj,al,bv,rfl,xS⟩,hA,hl⟩;obtain⟨w,EL⟩:∃w,ls[2+n]?=a_ w:=⟨ls[2+n]' aa,cu aa⟩;have EM:=hw w (cz EL);have e2:cx 1 v (.v (.int .i64 ((2+n:Nat):Int)))=a_ (.fp [bu w] 0):=hv.cw (x:=bu w) (by simp[EL]) rfl;have wn:cN.wrap (((2+n:Nat):Int)+1)=((2+(n+1):Nat):Int):=by rw[kI aa];rfl
 obtain⟨v',y1,fW,mz⟩:=DQ hA D3;refine wy ?_;refine eF (afx w aa) ?_;rintro r ⟨a,b,f,rfl,pE,RG⟩;obtain⟨cl,g,p1,pA,_,_,jm⟩:=nc (x:=bu a) (cc:=16) hA (zL l) rfl ag ag ah;have ir:∀{j:Nat} {c:br},h[j]?=a_ c->(∀x n e,c≠.tok x n e)->g[j]?=a_ c:=λq O=>jm _ _ q λxs z=>by
  rcases hA with⟨b7,_⟩|⟨id,b7,z2⟩
  rw[b7] at z;cases z;rw[b7] at z;cases z;rw[q] at z2;cases z2;exact O _ _ _ rfl
 have k0:=ir h0 af;have k1:=ir Y af;have Of:de g cl ((l++[a]).map bu) 1 9:=by rw[gz];exact pA
 have ab:eW 1 [bu a]=a_ (.sl [bu a] .exact):=rfl;have Bb:=gl k1;obtain⟨m1,m2,m3⟩:=NT k0;have one:f=bh\/f=bf:=by cases f<;>simp
 rcases one with rfl|rfl
 · refine wy ?_
   refine eF (RD y1 aa a) ?_;rintro r ⟨b2,rfl⟩;cases b2
   all_goals
    refine wy ?_;refine dy (λq=>?_) λq=>?_
    · refine eF (abQ b aa) ?_
      rintro r ⟨z,rfl,_,_⟩;have st:=SU k1 z;have i1:(g.set 1 (.cells (eV nm z al bv) bf))[1]?=a_ (.cells (eV nm z al bv) bf):=bT Bb;have i0:(g.set 1 (.cells (eV nm z al bv) bf))[0]?=a_ (.cells gw bf):=by rw[bC aa];exact k0
      have G_:=j7 (cs':=eV nm z al bv) Of k1;obtain⟨u1,u2,u3⟩:=NT i0;refine lT @st (amM i1) @u1 @u2 @wn ?_
      repeat' ((refine ba (λq'=>?_) λq'=>?_)<;>refine Df @z_ @vE @f0 @u1 @u2 @wn ?_)
      all_goals first
       |exact u3
       |exact⟨l++[a],cl,rfl,i0,⟨_,i1,nm,z,al,bv,rfl,xS⟩,G_,ah⟩
    refine dy (λbt=>?_) λbt=>?_
    · refine eF (Zj b aa) ?_
      rintro r ⟨ij,gL,ok,rfl,u_⟩;have st:=SV k1 ij;have i1:=bT (a:=.cells (eV nm tj ij bv) bf) Bb;have rB:=SW i1 u_.one.1 u_.one.2;have j1:((g.set 1 (.cells (eV nm tj ij bv) bf)).set 1 (.cells (eV nm tj ij gL) bf))[1]?=a_ (.cells (eV nm tj ij gL) bf):=bT (by simpa using Bb);have CG:((g.set 1 (.cells (eV nm tj ij bv) bf)).set 1 (.cells (eV nm tj ij gL) bf))[0]?=a_ (.cells gw bf):=by rw[bC aa,bC aa];exact k0
      have az4:=j7 (cs':=eV nm tj ij gL) (j7 (cs':=eV nm tj ij bv) Of k1) i1;obtain⟨u1,u2,u3⟩:=NT CG;cases ok
      all_goals
       refine lT @st @rB @u1 @u2 @wn ?_
       first
        |exact u3
        |exact⟨l++[a],cl,rfl,CG,⟨_,j1,nm,tj,ij,gL,rfl,u_⟩,az4,ah⟩
    refine ff @m1 @m2 ?_;exact m3
 refine wy ?_;refine dy (λq=>?_) λq=>?_;refine eF (abQ b aa) ?_;rintro r ⟨z,rfl,_,_⟩;have st:=SU k1 z;have i0:(g.set 1 (.cells (eV nm z al bv) bf))[0]?=a_ (.cells gw bf):=by rw[bC aa];exact k0
 obtain⟨u1,u2,u3⟩:=NT i0;exact fq @st @u1 @u2 u3;refine dy (λbt=>?_) λbt=>?_;refine eF (Zj b aa) ?_;rintro r ⟨ij,gL,ok,rfl,u_⟩;have st:=SV k1 ij;have i1:=bT (a:=.cells (eV nm tj ij bv) bf) Bb;have rB:=SW i1 u_.one.1 u_.one.2;have CG:((g.set 1 (.cells (eV nm tj ij bv) bf)).set 1 (.cells (eV nm tj ij gL) bf))[0]?=a_ (.cells gw bf):=by rw[bC aa,bC aa];exact k0
 obtain⟨u1,u2,u3⟩:=NT CG;exact ke @st @rB @u1 @u2 u3;refine ff @m1 @m2 ?_;exact m3;rintro e h ⟨l,bx,rfl,h0,⟨x,Y,nm,tj,al,bv,rfl,xS⟩,hA,hl⟩;have oS:=CS h0 rfl (x:=eV nm tj al bv) rfl (ZI xS.one.1);exact wx (NU xS)
end
end
section
variable{J:List br}{cr mv v:bg}{ex nm:List UInt8}{al i cj p:Bool}{a:Int}
def Sep(v w:bg):Prop:=∀id xs ys,v=.sl xs (.tok id)->w=.sl ys (.tok id)->False
def ad7{x w:bg}{xs ys:List bg}{n cc m:Nat}{e e2:TypeId}(hA:de J v xs n e)(hW:de J w ys m e2)(hs:Sep v w)(I:cY n xs=bh)(hy:cY n [x]=bh)(hn:0<n)(O:0<cc)(hfit:(xs.length+1)*cc<=140737488355328):
  ∃v' bl,eg J n cc e v (.sl [x] .exact)=a_ (v',bl)/\de bl v' (xs++[x]) n e/\de bl w ys m e2/\Sep v' w/\cq v'=bh/\v'.cells=[v']/\∀(j:Nat) b,J[j]?=a_ b->(∀a c d,b≠.tok a c d)->bl[j]?=a_ b:=by
 rcases hA with⟨rfl,rfl⟩|⟨id,rfl,S⟩
 refine⟨.sl ([]++[x]) (.tok J.length),J++[.tok 1 n e],?_,bG ⟨J.length,rfl,af⟩,?_,?_,rfl,rfl,λj b h _=>bU h⟩;simp only[gR,gA] at hfit;simp only[eg,gY,iI,iA,hy,hn,O];simp;omega
 rcases hW with z|⟨i2,b7,z2⟩
 exact bD z;exact bG ⟨i2,b7,bU z2⟩;intro i a c Y V;cases Y
 rcases hW with⟨z,_⟩|⟨i2,b7,z2⟩
 rw[z] at V;cases V;rw[b7] at V;cases V;have:=(cJ.1 z2).1;omega;have hl:id<J.length:=(cJ.1 S).1;refine⟨.sl (xs++[x]) (.tok id),J.set id (.tok (xs.length+1) n e),?_,bG ⟨id,rfl,aLT⟩,?_,?_,rfl,rfl,λj b h bR=>?_⟩;simp[eg,gY,iI,iA,hy,hn,O,hfit,I,S]
 rcases hW with z|⟨i2,b7,z2⟩
 exact bD z;refine bG ⟨i2,b7,?_⟩;rw[bC (λq=>hs id xs ys rfl (by rw[q];exact b7))];exact z2;intro i a c Y V;cases Y;exact hs id xs c rfl V;rw[bC (λq=>by subst q;rw[S] at h;cases h;exact bR _ _ _ rfl)];exact h
def vM(x:List bg):Prop:=∃nm cr i p cj a al mv ex,x=eL nm cr i p cj a al mv ex/\jf 5 cr/\jf 100001 mv/\ex.length<=100000000
def Vh(r:bg):Prop:=∃(x:List bg) (b:Bool),r=.bQ [.agg x,.v (.bool b)]/\vM x
def S6{b:Bool}{gs:List (List UInt8)}(hA:de J cr (gs.map bu) 1 9)(hg:gs.length<=5)(hm:jf 100001 mv)(he:ex.length<=100000000):
  ∃n bS,dx J n (.bQ [.agg (eL nm cr i p cj a al mv ex),.v (.bool b)])=a_ bS/\Vh bS:=by
 obtain⟨v',b7,z2⟩:=VE hA hg;obtain⟨n,hn⟩:=(fj (bF (jO (bF (bH _) (bF b7 (bF (bH _) (bF (bH _) (bF (bH _) (bF (bH _) (bF (bH _) (bF (hm.fz J) (bF (bH _) cZ)))))))))) (bF (bH (.bool b)) cZ)):b6 J (.bQ [.agg (eL nm cr i p cj a al mv ex),.v (.bool b)]) _).done;exact⟨n,_,hn,_,b,rfl,nm,v',i,p,cj,a,al,mv,ex,rfl,z2,hm,he⟩
def Ka{X:List br}(h0:X[0]?=a_ (.cells gO bf)):bL X 9 (.mp 0 0) (.agg gO)=a_ (X.set 0 (.cells gO bf))/\bz (X.set 0 (.cells gO bf)) bh 9 (.mp 0 0)=a_ (.agg gO)/\∃n bS,dx (X.set 0 (.cells gO bf)) n (.bQ [.agg gO,.v (.bool bf)])=a_ bS/\Vh bS:=
 ⟨yd h0 rfl (x:=gO) rfl rfl,(wI (bT (a:=.cells gO bf) (cJ.1 h0).1)).2.2,S6 (gs:=[]) (bD ⟨rfl,rfl⟩) af (Ae _) ag⟩
@[go_sem]def am2{h:List br}{k:Nat}(O:h[k]?=a_ (.cells (eL nm cr i p cj a al mv ex) bf)):bz h bf 1 (.mp k 5)=a_ (.v (.int .i64 a)):=by
 simp only[bz,O];rfl
def Ve(n:Nat)(h:List br)(bx:bg):Prop:=∃(l gs:List (List UInt8)) (nm:List UInt8) (cr:bg) (i p cj:Bool) (a:Int) (al:Bool) (mv:bg),h[0]?=a_ (.cells gO bf)/\h[1]?=a_ (.cells (eL nm cr i p cj a al mv []) bf)/\de h bx (l.map bu) 1 9/\l.length<=n/\de h cr (gs.map bu) 1 9/\gs.length<=4/\Sep bx cr/\jf 100001 mv
section
variable{G:Cells}
set_option maxHeartbeats 1000000 in
def aEk{v:bg}{ls:List (List UInt8)}(hv:cC v (ls.map bu))(RY:kr ls<=90000)(V:2<=ls.length):dV G bA 153 [v] Vh:=by
 refine ep (aAY.go ?_);have cW:=J3 ls;have hw:∀w∈ls,w.length<=90000:=λw hm=>ig (amq hm) RY;obtain⟨n1,qb⟩:∃n,ls[1]?=a_ n:=⟨ls[1],cu aa⟩;have e1:cx 1 v (.v (.int .i64 1))=a_ (.fp [bu n1] 0):=hv.cw (i:=1) (x:=bu n1) (by simp[qb]) rfl;have f1:∀x:List UInt8,dI gO [(0,1,bu x),(4,1,.v (.bool bh))]=a_ (eL x .bq bf bf bh 0 bf .bq []):=λx=>rfl;have f0:dI gO []=a_ gO:=rfl;have hz:[dh (.string ⟨[].toArray⟩),.bq,.v (.bool bf),.v (.bool bf),.v (.bool bf),.v (.int .i64 0),.v (.bool bf),.bq,.v (.string ⟨[].toArray⟩)]=gO:=rfl;have s1:bL [.cells gO bf,.cells gO bf] 9 (.mp 1 0) (.agg (eL n1 .bq bf bf bh 0 bf .bq []))=a_ [.cells gO bf,.cells (eL n1 .bq bf bf bh 0 bf .bq []) bf]:=yd (k:=1) rfl rfl rfl rfl;have ln:=hv.cH;rw[cS] at ln;have mm:∀J,cH v J=a_ (.v (.int .i64 (ls.length:Int)),J):=λJ=>aLB
 obtain⟨aKR,t0,wC⟩:∃(a b:Nat),v=.sl (ls.map bu) .no:=by
  rcases hv with z|⟨_,z⟩
  exact⟨0,0,z⟩;have:ls=[]:=aN
  rw[this] at V;simp at V
 refine O5 @hz @e1 @f1 @s1 @gd.{0} @jy.{0} @gR.{0} @eB.{0} ?_;refine dj (λn e h=>∃bx:bg,e=[(0,v),(2,.mp 0 0),(4,.mp 1 0),(5,bx),(6,.v (.int .i64 ((2+n:Nat):Int)))]/\Ve n h bx) (ls.length-2)
  ⟨.bq,rfl,[],[],n1,.bq,bf,bf,bh,0,bf,.bq,rfl,rfl,tv _ _ _,af,tv _ _ _,af,(by intro id xs ys q;cases q),Ae _⟩ ?_ ?_
 · rintro n e h hn ⟨bx,rfl,l,gs,nm,cr,ib,pb,cj,cv,al,mv,h0,Y,hA,hl,Et,kU,gr,lM⟩
   obtain⟨w,EL⟩:∃w,ls[2+n]?=a_ w:=⟨ls[2+n]' aa,cu aa⟩;have EM:=hw w (cz EL);have e2:cx 1 v (.v (.int .i64 ((2+n:Nat):Int)))=a_ (.fp [bu w] 0):=hv.cw (x:=bu w) (by simp[EL]) rfl;have wn:cN.wrap (((2+n:Nat):Int)+1)=((2+(n+1):Nat):Int):=by rw[kI aa];rfl
   have Hx:decide (((2+n:Nat):Int)<(ls.length:Int))=bh:=qw aa;have auK:dM .eql (bu w) (.v (.string ⟨[58].toArray⟩))=a_ (.v (.bool (w==[58]))):=pe w [58];have My:=(cJ.1 Y).1;have Rq:cq cr=bh:=(AB Et).1;refine mP @mm @Hx @e2 @auK ?_;refine cQ (λq=>?_) λq=>?_;have auw:∀J,qg 1 v (a_ (.v (.int .i64 ((2+(n+1):Nat):Int)))) bn bn J=a_ (.sl ((ls.drop (2+(n+1))).map bu) .no,J):=λJ=>by
    rw[wC,List.map_drop];exact TS ah Ud J
   have hd:=Zm ls (2+(n+1));refine jE @q @wn @auw ?_;refine jG (az7 (v:=.sl ((ls.drop (2+(n+1))).map bu) .no) (bD rfl) aa) (bO (qZ (bD rfl)) cG) ?_;rintro r ⟨t,rfl,ht⟩;refine fI ?_;refine jG (anL t aa) (bO (uX _) cG) ?_;rintro r ⟨v2,ps,Tv,AQ,rfl,hE⟩;have Zl:=hE.v.cH;rw[cS] at Zl;have aDb:∀J,cH v2 J=a_ (.v (.int .i64 (ps.length:Int)),J):=λJ=>by rw[Zl J,jj]
   have iT:=bT (a:=.cells (eL nm cr ib pb bf cv al mv []) bf) My;have v8:(h.set 1 (.cells (eL nm cr ib pb bf cv al mv []) bf))[0]?=a_ (.cells gO bf):=by rw[bC aa];exact h0
   have W7:=j7 (cs':=eL nm cr ib pb bf cv al mv []) Et Y;have jn:=am6 Y bf;generalize h.set 1 (.cells (eL nm cr ib pb bf cv al mv []) bf)=g at iT v8 W7 jn;refine nv @jn @aDb ?_;refine cQ (λbt=>?_) λbt=>?_;have bR:ps≠[]:=by intro z;rw[z] at bt;simp at bt
   refine e3 @bt ?_;refine jG (aGG hE aa bR) (bO (Ce hE) cG) ?_;rintro r ⟨tx,rfl,aiE⟩;have qO:=am8 iT tx;have axH:=(cJ.1 iT).1;have jB:=bT (a:=.cells (eL nm cr ib pb bf cv al mv tx) bf) axH;have p9:(g.set 1 (.cells (eL nm cr ib pb bf cv al mv tx) bf))[0]?=a_ (.cells gO bf):=by rw[bC aa];exact v8
   have avN:=j7 (cs':=eL nm cr ib pb bf cv al mv tx) W7 iT;have oS:=yd p9 rfl (x:=eL nm cr ib pb bf cv al mv tx) rfl (HD Rq lM.one.1);have k0:=bT (a:=.cells (eL nm cr ib pb bf cv al mv tx) bf) (cJ.1 p9).1;refine mP @qO ((wI jB).2.2) @oS ((wI k0).2.2) ?_;exact S6 (j7 avN p9) aa lM aa;have oS:=yd v8 rfl (x:=eL nm cr ib pb bf cv al mv []) rfl (HD Rq lM.one.1);have k0:=bT (a:=.cells (eL nm cr ib pb bf cv al mv []) bf) (cJ.1 v8).1;refine mP @bt ((wI iT).2.2) @oS ((wI k0).2.2) ?_;exact S6 (j7 W7 v8) aa lM ag;obtain⟨v',y1,fW,mz⟩:=DQ hA D3;obtain⟨aJY,x1,x2,x3⟩:=DQ Et D3;refine nv @q @e2 ?_;refine jG (afx w aa) (bO (uX _) cG) ?_;rintro r ⟨a,b,f,rfl,pE,RG⟩;refine fI ?_;refine jG (RD y1 aa a) (bO fW (bO (uX _) cG)) ?_;rintro r ⟨c0,rfl⟩;obtain⟨cl,g,p1,pA,aaj,anK,_,_,jm⟩:=ad7 (x:=bu a) (cc:=16) hA Et gr (zL l) rfl ag ag ah;have k0:=jm _ _ h0 af;have k1:=jm _ _ Y af;have Of:de g cl ((l++[a]).map bu) 1 9:=by rw[gz];exact pA
   have ab:∀z:List UInt8,eW 1 [bu z]=a_ (.sl [bu z] .exact):=λz=>rfl;have L7:dM .eql (bu a) (.v (.string ⟨[103,114,111,117,112].toArray⟩))=a_ (.v (.bool (a==[103,114,111,117,112]))):=pe a [103,114,111,117,112];have afT:dM .eql (bu a) (.v (.string ⟨[105,110,108,105,110,101].toArray⟩))=a_ (.v (.bool (a==[105,110,108,105,110,101]))):=pe a [105,110,108,105,110,101];have afW:dM .eql (bu a) (.v (.string ⟨[112,105,99,107].toArray⟩))=a_ (.v (.bool (a==[112,105,99,107]))):=pe a [112,105,99,107];have ea:dM .eql (bu a) (.v (.string ⟨[97,116,116,114].toArray⟩))=a_ (.v (.bool (a==[97,116,116,114]))):=pe a [97,116,116,114];have em:dM .eql (bu a) (.v (.string ⟨[109,97,114,107,115].toArray⟩))=a_ (.v (.bool (a==[109,97,114,107,115]))):=pe a [109,97,114,107,115];have Bb:=(cJ.1 k1).1;have alW:(l++[a]).length<=n+1:=ah
   obtain⟨m1,m2,m3⟩:=Ka k0;clear jm h0 Y hA Et;have amo:=F4 aaj;rw[cS] at amo;have K:∀(i2 p2:Bool) (a2:Int) (ij:Bool) (mo:bg),jf 100001 mo->(g.set 1 (.cells (eL nm cr i2 p2 cj a2 ij mo []) bf))[1]?=a_ (.cells (eL nm cr i2 p2 cj a2 ij mo []) bf)/\(g.set 1 (.cells (eL nm cr i2 p2 cj a2 ij mo []) bf))[0]?=a_ (.cells gO bf)/\Ve (n+1) (g.set 1 (.cells (eL nm cr i2 p2 cj a2 ij mo []) bf)) cl:=λi2 p2 a2 ij mo hm=>by
    have j1:(g.set 1 (.cells (eL nm cr i2 p2 cj a2 ij mo []) bf))[1]?=a_ (.cells (eL nm cr i2 p2 cj a2 ij mo []) bf):=bT Bb;have CG:(g.set 1 (.cells (eL nm cr i2 p2 cj a2 ij mo []) bf))[0]?=a_ (.cells gO bf):=by rw[bC aa];exact k0
    exact⟨j1,CG,l++[a],gs,nm,cr,i2,p2,cj,a2,ij,mo,CG,j1,j7 Of k1,alW,j7 aaj k1,kU,anK,hm⟩
   obtain⟨aKZ,aDY,aDZ⟩:=K bh pb cv al mv lM;obtain⟨aK0,aD0,aD1⟩:=K ib bh cv al mv lM;obtain⟨aIi,aIj,aIl⟩:=Ka aDY;obtain⟨aIm,aIn,aIo⟩:=Ka aD0;have t2:=am4 k1 bh;have t3:=am5 k1 bh;have aEU:Sep cr cl:=λid xs ys Y V=>anK id ys xs V Y;obtain⟨Ef,g5,r1,aFr,aFu,aFs,ro,rc,zP⟩:=ad7 (x:=bu b) (cc:=16) aaj Of aEU (zL gs) rfl ag ag ah;have CG:=zP _ _ k0 af;have j1:=zP _ _ k1 af;have Ua:=ZT j1 ro rc;have GQ:=(cJ.1 j1).1;have b7:(g5.set 1 (.cells (eL nm Ef ib pb cj cv al mv []) bf))[1]?=a_ (.cells (eL nm Ef ib pb cj cv al mv []) bf):=bT GQ;have z0:(g5.set 1 (.cells (eL nm Ef ib pb cj cv al mv []) bf))[0]?=a_ (.cells gO bf):=by rw[bC aa];exact CG
   have aI4:de (g5.set 1 (.cells (eL nm Ef ib pb cj cv al mv []) bf)) Ef ((gs++[b]).map bu) 1 9:=by rw[gz];exact j7 aFr j1
   have aFt:Sep cl Ef:=λid xs ys Y V=>aFs id ys xs V Y;have aI5:gs.length<4->Ve (n+1) (g5.set 1 (.cells (eL nm Ef ib pb cj cv al mv []) bf)) cl:=λh4=>
    ⟨l++[a],gs++[b],nm,Ef,ib,pb,cj,cv,al,mv,z0,b7,j7 aFu j1,alW,aI4,ah,aFt,lM⟩
   obtain⟨Uk,u32,abI⟩:=Ka z0;have NK:=(wI k1).2.1;cases f with
   |false=>
    cases c0
    all_goals
     refine jE @ab @p1 @L7 ?_
     repeat' ((refine cQ (λq=>?_) λq=>?_)<;>(have q':=q)<;>(simp -failIfUnchanged only[qs] at q')<;>(refine wT (dB @z_ @vE @ab @p1) (dB @L7 @afT @afW @ea) (dB @em @m_ @t2 @t3) (dB @f0 @m1 @m2 @aIi) @aIj @aIm @aIn @wn @q ?_))
    all_goals first
     |exact m3
     |exact aIl
     |exact aIo
     |exact⟨_,rfl,aDZ⟩
     |exact⟨_,rfl,aD1⟩
   |true=>
    cases c0
    all_goals
     refine jE @ab @p1 @L7 ?_;refine cQ (λaaB=>?_) λaaB=>?_
     · refine e3 @aaB ?_
       refine jG (ZL b aa) (bO (uX _) cG) ?_;rintro r ⟨b2,rfl⟩;cases b2 with
       |false=>
        refine pQ @NK @ab @r1 @Ua @f0 @Uk @u32 ?_;exact abI
       |true=>
        refine e3 @NK ?_;refine jG (RD x1 aa b) (bO x2 (bO (uX _) cG)) ?_;rintro r ⟨b3,rfl⟩;cases b3 with
        |true=>
         refine pQ @NK @ab @r1 @Ua @f0 @Uk @u32 ?_;exact abI
        |false=>
         refine wT @NK @amo @ab @r1 @Ua @f0 @Uk @u32 @wn ?_
         repeat' ((refine cQ (λq=>?_) λq=>?_)<;>(have q':=q)<;>(simp -failIfUnchanged only[qs] at q')<;>(refine wT (dB @z_ @vE @m_ @NK) @ab @r1 @Ua @f0 @Uk @u32 @wn @q ?_))
         all_goals first
          |exact abI
          |exact⟨_,rfl,aI5 aa⟩
     refine nv @aaB @afT ?_;refine cQ (λan2=>?_) λan2=>?_
     all_goals
      refine nv @an2 @afW ?_;refine cQ (λan4=>?_) λan4=>?_
      all_goals
       refine nv @an4 @ea ?_;refine cQ (λaaA=>?_) λaaA=>?_
       · refine e3 @aaA ?_
         refine jG (abQ b aa) (bO (uX _) cG) ?_;rintro r ⟨z,rfl,_,_⟩;obtain⟨w1,w2,w3⟩:=K ib pb z al mv lM;obtain⟨Ul,Um,abJ⟩:=Ka w2;have t5:=am7 k1 z;refine Df @t5 (am2 w1) @f0 @Ul @Um @wn ?_
         repeat' ((refine cQ (λq=>?_) λq=>?_)<;>(have q':=q)<;>(simp -failIfUnchanged only[qs] at q')<;>(refine pQ @z_ @vE @f0 @Ul @Um @wn @q ?_))
         all_goals first
          |exact abJ
          |exact⟨_,rfl,w3⟩
       refine nv @aaA @em ?_;refine cQ (λBE=>?_) λBE=>?_
       · refine e3 @BE ?_
         refine jG (Zj b aa) (bO (uX _) cG) ?_;rintro r ⟨ij,gL,ok,rfl,u_⟩;obtain⟨w1,w2,w3⟩:=K ib pb cv ij gL u_;obtain⟨Ul,Um,abJ⟩:=Ka w2;have t6:=ZU k1 ij;have i1:=bT (a:=.cells (eL nm cr ib pb cj cv ij mv []) bf) Bb;have t7:=ZV i1 u_.one.1 u_.one.2;rw[Pv] at t7;cases ok
         all_goals
          refine Df @t6 @t7 @f0 @Ul @Um @wn ?_
          first
           |exact abJ
           |exact⟨_,rfl,w3⟩
       refine mP @BE @f0 @m1 @m2 ?_;exact m3
 rintro e h ⟨bx,rfl,l,gs,nm,cr,ib,pb,cj,cv,al,mv,h0,Y,hA,hl,Et,kU,gr,lM⟩;have Rq:cq cr=bh:=(AB Et).1;have oS:=yd h0 rfl (x:=eL nm cr ib pb cj cv al mv []) rfl (HD Rq lM.one.1);have k0:=bT (a:=.cells (eL nm cr ib pb cj cv al mv []) bf) (cJ.1 h0).1;have Hx:decide (((2+(ls.length-2):Nat):Int)<(ls.length:Int))=bf:=xJ aa;refine qQ @mm @Hx ((wI Y).2.2) @oS ((wI k0).2.2) ?_;exact S6 (j7 Et h0) aa lM ag
end
end
section
variable{x:List bg}
def vM.ok(h:vM x):x.length=9/\x.all cq=bh/\∃nm,x[0]?=a_ (bu nm):=by
 obtain⟨nm,cr,i,p,cj,a,al,mv,ex,rfl,hg,hm,_⟩:=h;exact⟨rfl,HD hg.one.1 hm.one.1,nm,rfl⟩
abbrev acV:=uH 131 181 vM
structure FQ(bB mv:bg)(cA marks:List (List bg))(h:List br):Prop where
 n:de h bB (cA.map dG) 9 131
 m:de h mv (marks.map dG) 4 181
 nj:∀x∈cA,vM x
 hY:∀x∈marks,oB x
 nl:cA.length<=24
 ml:marks.length<=8
def ac0(J bl:List br):Prop:=J.length<=bl.length/\∀(j:Nat) Z fz,J[j]?=a_ (.cells Z fz)->bl[j]?=a_ (.cells Z fz)
def adg(J:List br)(r:bg)(bl:List br):Prop:=∃bB mv cA marks,∃e:Int,r=.bQ [.agg [bB,mv],.v (.int .i64 e)]/\FQ bB mv cA marks bl/\ac0 J bl
structure Al(J:List br)(K:Nat)(bB mv:bg)(cA marks:List (List bg))(g:List br):Prop where
 s:acV K bB mv cA marks g
 r:g[K+1]?=a_ (.cells [.bq,.bq] bf)
 ge:J.length<=K
 fr:ac0 J g
section
variable{J:List br}{K:Nat}{bB mv:bg}{cA marks:List (List bg)}{g:List br}
def Al.app{x:List br}(s:Al J K bB mv cA marks g):Al J K bB mv cA marks (g++x):=⟨s.s.app,bU s.r,s.ge,⟨by have:=s.fr.1;simp;omega,λj Z fz h=>bU (s.fr.2 j Z fz h)⟩⟩
def Al.put(s:Al J K bB mv cA marks g){kF od:bg}{N3 NS:List (List bg)}{g':List br}(hk:acV K kF od N3 NS g')(hB:iY K g g'):Al J K kF od N3 NS g':=
 ⟨hk,hB.2 _ _ _ aa s.r,s.ge,⟨ig s.fr.1 hB.1,λj Z fz h=>by
  have hj:=gl h;have hg:=s.ge;exact hB.2 _ _ _ aa (s.fr.2 j Z fz h)⟩⟩
def Al.ret(s:Al J K bB mv cA marks g):bL g 2 (.mp (K+1) 0) (.agg [bB,mv])=a_ (g.set (K+1) (.cells [bB,mv] bf))/\bz (g.set (K+1) (.cells [bB,mv] bf)) bh 2 (.mp (K+1) 0)=a_ (.agg [bB,mv])/\∀e:Int,adg J (.bQ [.agg [bB,mv],.v (.int .i64 e)]) (g.set (K+1) (.cells [bB,mv] bf)):=by
 have o1:=AB s.s.n;have o2:=AB s.s.m;have hl:=gl s.r;have hg:=s.ge;have hs:=bT (a:=.cells [bB,mv] bf) hl;refine⟨?_,?_,λe=>⟨bB,mv,cA,marks,e,rfl,⟨j7 s.s.n s.r,j7 s.s.m s.r,s.s.nj,s.s.hY,s.s.nl,s.s.ml⟩,⟨by have:=s.fr.1;simp;omega,λj Z fz h=>?_⟩⟩⟩;simp only[bL,s.r,fu];have e:(dG [bB,mv]).cells=[bB,mv]:=rfl;rw[e];simp[o1.1,o2.1,dS];simp only[bz,hs];rfl;have hj:=gl h;rw[bC aa];exact s.fr.2 j Z fz h
end
section
variable{G:Cells}
def asl{v:bg}{ls:List (List UInt8)}(hv:cC v (ls.map bu))(T:eT v)(RY:kr ls<=90000){bB mv:bg}{cA marks:List (List bg)}{J:List br}(kS:FQ bB mv cA marks J):ct G bA 87 [.agg [bB,mv],v] J (adg J):=by
 refine aAv.go ?_;have cW:=J3 ls;have hw:∀w∈ls,w.length<=90000:=λw hm=>ig (amq hm) RY;have ln:=hv.cH;rw[cS] at ln;have aiO:[dh (.string ⟨[].toArray⟩),.v (.int .i64 0),.v (.bool bf),.bq]=gw:=rfl;have Nu:[dh (.string ⟨[].toArray⟩),.bq,.v (.bool bf),.v (.bool bf),.v (.bool bf),.v (.int .i64 0),.v (.bool bf),.bq,.v (.string ⟨[].toArray⟩)]=gO:=rfl;refine eN (λe g=>e=[(1,v),(2,.mp J.length 0),(4,.mp (J.length+1) 0)]/\Al J J.length bB mv cA marks g) ?_ ?_;refine iD @dO.{0} ?_;have b0:(J++[bw [bB,mv] bf]++[bw [.bq,.bq] bf])[J.length]?=a_ (.cells [bB,mv] bf):=bU af;have b1:(J++[bw [bB,mv] bf]++[bw [.bq,.bq] bf])[J.length+1]?=a_ (.cells [.bq,.bq] bf):=af
 have A:Al J J.length bB mv cA marks (J++[bw [bB,mv] bf]++[bw [.bq,.bq] bf]):=⟨⟨b0,kS.n.ext.ext,kS.m.ext.ext,kS.nj,kS.hY,kS.nl,kS.ml⟩,b1,b_ _,⟨af,λj Z fz h=>bU (bU h)⟩⟩
 first|exact⟨rfl,A⟩|exact⟨trivial,A⟩
 rintro e g ⟨rfl,A⟩;generalize J.length=K at A;obtain⟨r1,r2,jT⟩:=A.ret;have Ze:=A.s.gk.2.2;refine wy (cQ (λq=>?_) λq=>?_);exact ke @q @Ze @r1 @r2 (jT _);have V:2<=ls.length:=au
 obtain⟨n1,qb⟩:∃n,ls[1]?=a_ n:=⟨ls[1],cu aa⟩;obtain⟨n0,mH⟩:∃n,ls[0]?=a_ n:=⟨ls[0],cu aa⟩;have e1:cx 1 v (.v (.int .i64 1))=a_ (.fp [bu n1] 0):=hv.cw (i:=1) (x:=bu n1) (by simp[qb]) rfl;have e0:cx 1 v (.v (.int .i64 0))=a_ (.fp [bu n0] 0):=hv.cw (i:=0) (x:=bu n0) (by simp[mH]) rfl;have w1:=hw n1 (cz qb);have k1:dM .neq (bu n0) (.v (.string ⟨[110,111,100,101].toArray⟩))=a_ (.v (.bool !(n0==[110,111,100,101]))):=zI n0 [110,111,100,101];have k2:dM .neq (bu n0) (.v (.string ⟨[109,97,114,107].toArray⟩))=a_ (.v (.bool !(n0==[109,97,114,107]))):=zI n0 [109,97,114,107];have gN:dM .eql (bu n0) (.v (.string ⟨[109,97,114,107].toArray⟩))=a_ (.v (.bool (n0==[109,97,114,107]))):=pe n0 [109,97,114,107];refine wy ?_;refine eF (ZL n1 aa) ?_;rintro r ⟨b,rfl⟩;cases b with
 |false=>
  exact fq @Ze @r1 @r2 (jT _)
 |true=>
  have Jt:n0=[109,97,114,107]\/n0=[110,111,100,101]\/((n0==[110,111,100,101])=bf/\(n0==[109,97,114,107])=bf):=by
   by_cases x:n0=[109,97,114,107];exact bD x;by_cases y:n0=[110,111,100,101];exact bG (bD y);exact bG (bG ⟨by simpa using y,by simpa using x⟩)
  rcases Jt with x|x|⟨x,y⟩
  have b7:(n0==[110,111,100,101])=bf:=by rw[x];rfl
  have z2:(n0==[109,97,114,107])=bh:=by rw[x];rfl
  refine rE @e0 @k1 @k2 @gN @b7 @z2 ?_;refine eF (aDD hv aa (λw hm=>by have:=hw w hm;omega) V) ?_;rintro r ⟨x,ok,rfl,I⟩;obtain⟨oL,qd,nm,ua⟩:=I.ok;have nn:=ZH g oL qd;have A1:=A.app (x:=[bw x bf]);have kx:(g++[bw x bf])[g.length]?=a_ (.cells x bf):=af
  refine wy ?_;generalize g.length=m at kx⊢;generalize g++[bw x bf]=g1 at A1 kx⊢;obtain⟨s1,s2,ek⟩:=A1.ret;obtain⟨d0,d1,d2⟩:=A1.s.gk;have n8:=A1.s.ml;cases ok with
  |false=>
   exact fq @d2 @s1 @s2 (ek _)
  |true=>
   refine wy ?_;refine dj (λj e h=>e=[(2,.mp K 0),(4,.mp (K+1) 0),(6,.mp m 0),(8,bp j)]/\h=g1) marks.length ⟨rfl,rfl⟩ ?_ ?_;rintro j e h hj ⟨rfl,rfl⟩;obtain⟨y,hy⟩:=dW hj;obtain⟨CD,JT,S5,R3⟩:=(A1.s.hY y (cz hy)).ok;have oa:=(AD A1.s.m).cw hy CD;refine tr ((AD A1.s.m).len) (cQ (λnq=>?_) λnq=>?_);exact ke @nq @d2 @s1 @s2 (ek _);exact wx rt;rintro e h ⟨rfl,rfl⟩;refine tr ((AD A1.s.m).len) (cQ (λnq=>?_) λnq=>?_);exact ke @nq @d2 @s1 @s2 (ek _);obtain⟨od,g4,p1,p2,p3,jm⟩:=A1.s.anY I (by simp at nq;omega);have lx:bz h bh 4 (.mp m 0)=a_ (.agg x):=by
    simp only[bz,kx];unfold e9;rw[if_pos rfl,if_pos aa,pU,ow aa]
   have ab:eW 4 [.agg x]=a_ (.sl [.agg x] .exact):=by
    have:=wJ (n:=4) (xs:=[x]) λy hy=>aLL
    simp only[fQ,kX] at this;simp[eW,this]
   have K_:=A1.put p3 jm;obtain⟨t1,t2,t3⟩:=K_.ret;exact qh @nq @d1 @lx @ab @p1 @p2 @K_.s.gk.2.2 @t1 @t2 (t3 _)
  have b7:(n0==[110,111,100,101])=bh:=by rw[x];rfl
  have z2:(n0==[109,97,114,107])=bf:=by rw[x];rfl
  refine rE @e0 @k1 @k2 @gN @b7 @z2 ?_;refine eF (aEk hv RY V) ?_;rintro r ⟨x,ok,rfl,I⟩;obtain⟨oL,qd,nm,ua⟩:=I.ok;have nn:=N2 g oL qd;have A1:=A.app (x:=[bw x bf]);have kx:(g++[bw x bf])[g.length]?=a_ (.cells x bf):=af
  refine wy ?_;generalize g.length=m at kx⊢;generalize g++[bw x bf]=g1 at A1 kx⊢;obtain⟨s1,s2,ek⟩:=A1.ret;obtain⟨d0,d1,d2⟩:=A1.s.gk;have wz:=A1.s.nl;cases ok with
  |false=>
   exact fq @d2 @s1 @s2 (ek _)
  |true=>
   refine wy (cQ (λyj=>?_) λyj=>?_);exact ke @yj @d2 @s1 @s2 (ek _);refine wy ?_;refine dj (λj e h=>e=[(2,.mp K 0),(4,.mp (K+1) 0),(9,.mp m 0),(11,bp j)]/\h=g1) cA.length ⟨rfl,rfl⟩ ?_ ?_;rintro j e h hj ⟨rfl,rfl⟩;obtain⟨y,hy⟩:=dW hj;obtain⟨CD,JT,S5,R3⟩:=(A1.s.nj y (cz hy)).ok;have oa:=(AD A1.s.n).cw hy CD;refine tr ((AD A1.s.n).len) (cQ (λnq=>?_) λnq=>?_);exact ke @nq @d2 @s1 @s2 (ek _);exact wx rt;rintro e h ⟨rfl,rfl⟩;refine tr ((AD A1.s.n).len) (cQ (λnq=>?_) λnq=>?_);exact ke @nq @d2 @s1 @s2 (ek _);obtain⟨kF,g4,p1,p2,p3,jm⟩:=A1.s.anZ vM.ok I (by simp at nq;omega);have lx:bz h bh 9 (.mp m 0)=a_ (.agg x):=by
    simp only[bz,kx];unfold e9;rw[if_pos rfl,if_pos aa,pU,ow aa]
   have ab:eW 9 [.agg x]=a_ (.sl [.agg x] .exact):=by
    have:=wJ (n:=9) (xs:=[x]) λy hy=>aLL
    simp only[fQ,kX] at this;simp[eW,this]
   have K_:=A1.put p3 jm;obtain⟨t1,t2,t3⟩:=K_.ret;exact qh @nq @d0 @lx @ab @p1 @p2 @K_.s.gk.2.2 @t1 @t2 (t3 _)
  exact Ii @e0 @k1 @k2 @x @y @Ze @r1 @r2 (jT _)
end
end
section
variable{x:List bg}{X J:List br}{k:Nat}{a b:bg}
def vM.fz(h:vM x)(J:List br):b6 J (.agg x) (.agg x):=by
 obtain⟨nm,cr,i,p,cj,a,al,mv,ex,rfl,hg,hm,_⟩:=h;exact jO (bF (bH _) (bF (hg.fz J) (bF (bH _) (bF (bH _) (bF (bH _) (bF (bH _) (bF (bH _) (bF (hm.fz J) (bF (bH _) cZ)))))))))
def oB.agR(h:oB x)(J:List br):b6 J (.agg x) (.agg x):=by
 obtain⟨nm,v,al,bv,rfl,O⟩:=h;exact jO (bF (bH _) (bF (bH _) (bF (bH _) (bF (O.fz J) cZ))))
def aou{v:bg}{xs:List (List bg)}{n:Nat}{e:TypeId}(hA:de J v (xs.map dG) n e)(h:∀x∈xs,b6 J (.agg x) (.agg x)):∃v',b6 J v v'/\cC v' (xs.map dG):=by
 rcases hA with⟨rfl,z⟩|⟨id,rfl,_⟩
 exact⟨_,ey,bG ⟨rfl,z⟩⟩;exact⟨_,gQ (e_.SL h),bD rfl⟩
structure rJ(bB mv:bg)(cA marks:List (List bg)):Prop where
 n:cC bB (cA.map dG)
 m:cC mv (marks.map dG)
 nj:∀x∈cA,vM x
 hY:∀x∈marks,oB x
 nl:cA.length<=24
 ml:marks.length<=8
def acX(r:bg):Prop:=∃bB mv cA marks,∃p e:Int,r=.bQ [.agg [bB,mv],.v (.int .i64 p),.v (.int .i64 e)]/\rJ bB mv cA marks
def L3{bB mv:bg}{cA marks:List (List bg)}(h:FQ bB mv cA marks J)(p e:Int):∃k bS,dx J k (.bQ [.agg [bB,mv],.v (.int .i64 p),.v (.int .i64 e)])=a_ bS/\acX bS:=by
 obtain⟨a,a1,a2⟩:=aou h.n λx I=>(h.nj x I).fz J;obtain⟨b,b1,b2⟩:=aou h.m λx I=>(h.hY x I).agR J;obtain⟨k,S⟩:=(fj (bF (jO (bF a1 (bF b1 cZ))) (bF (bH (.int .i64 p)) (bF (bH (.int .i64 e)) cZ))):b6 J _ _).done;exact⟨k,_,S,a,b,cA,marks,p,e,rfl,a2,b2,h.nj,h.hY,h.nl,h.ml⟩
def L4(J:List br):FQ .bq .bq [] [] J:=⟨tv _ _ _,tv _ _ _,af,af,af,af⟩
@[go_sem]def KR{c d:bg}(h:X[k]?=a_ (.cells [a,b] bf))(Y:cq c=bh)(V:cq d=bh):bL X 2 (.mp k 0) (.agg [c,d])=a_ (X.set k (.cells [c,d] bf)):=by
 simp only[bL,h,fu];have e:(dG [c,d]).cells=[c,d]:=rfl;rw[e];simp[Y,V,dS]
@[go_sem]def Ui(h:X[k]?=a_ (.cells [a,b] bf)):bz X bh 2 (.mp k 0)=a_ (.agg [a,b]):=by
 simp only[bz,h];rfl
section
variable{G:Cells}
def aEV(s:List UInt8)(hs:s.length<=1000000):dV G bA 53 [bu s] acX:=by
 refine ep (aAd.go ?_);have f0:dI [.bq,.bq] []=a_ [.bq,.bq]:=rfl;have bad:∀X:List br,X[0]?=a_ (.cells [.bq,.bq] bf)->bL X 2 (.mp 0 0) (.agg [.bq,.bq])=a_ (X.set 0 (.cells [.bq,.bq] bf))/\bz (X.set 0 (.cells [.bq,.bq] bf)) bh 2 (.mp 0 0)=a_ (.agg [.bq,.bq]):=λX h=>
  ⟨KR h rfl rfl,Ui (bT (gl h))⟩
 refine wy ?_;refine eF (aC5 s aa) ?_;rintro r ⟨v,p,e,rfl,l,hv,hl,hw⟩;have ln:=hv.cH;rw[cS] at ln;refine wy (cQ (λq=>?_) λq=>?_);exact wy (L3 (L4 _) _ _);refine wy ?_;refine dj (λi e h=>e=[(2,.mp 0 0),(5,v),(8,.mp 1 0),(9,bp i)]/\h[0]?=a_ (.cells [.bq,.bq] bf)/\∃bB mv cA marks,h[1]?=a_ (.cells [bB,mv] bf)/\FQ bB mv cA marks h) l.length ⟨rfl,rfl,.bq,.bq,[],[],rfl,L4 _⟩ ?_ ?_;rintro i e h Q ⟨rfl,h0,bB,mv,cA,marks,Y,kS⟩;obtain⟨w,EL⟩:=dW Q;have EM:=hw w (cz EL);have e1:cx 1 v (.v (.int .i64 (i:Int)))=a_ (.fp [bu w] 0):=hv.cw (x:=bu w) (by simp[EL]) rfl;obtain⟨u1,u2⟩:=bad h h0;refine wy ?_;refine eF (aG6 w aa) ?_;rintro r ⟨oq,e2,ws,rfl,Yw,aKH⟩;have aDd:=Yw.cH;rw[cS] at aDd;refine wy ?_;refine dy (λbt=>?_) λbt=>?_;refine wy ?_;refine dy (λbV=>?_) λbV=>?_;refine cm (asl Yw (qZ Yw) aa kS) ?_;rintro r g ⟨kF,od,N3,NS,di,rfl,A2,hF⟩;have g0:=hF.2 _ _ _ h0;have g1:=hF.2 _ _ _ Y;have st:=KR g1 (AB A2.n).1 (AB A2.m).1;have k1:=bT (a:=.cells [kF,od] bf) (gl g1);have k0:(g.set 1 (.cells [kF,od] bf))[0]?=a_ (.cells [.bq,.bq] bf):=by rw[bC aa];exact g0
 have Xm:FQ kF od N3 NS (g.set 1 (.cells [kF,od] bf)):=⟨j7 A2.n g1,j7 A2.m g1,A2.nj,A2.hY,A2.nl,A2.ml⟩;refine wy ?_;refine dy (λfP=>?_) λfP=>?_;exact L3 (L4 _) _ _;exact⟨rfl,k0,kF,od,N3,NS,k1,Xm⟩
 · repeat' refine ba (λq'=>?_) λq'=>?_
   all_goals first
    |exact L3 (L4 _) _ _
    |exact⟨rfl,h0,bB,mv,cA,marks,Y,kS⟩
 · repeat' refine ba (λq'=>?_) λq'=>?_
   all_goals first
    |exact L3 (L4 _) _ _
    |exact⟨rfl,h0,bB,mv,cA,marks,Y,kS⟩
 rintro e h ⟨rfl,h0,bB,mv,cA,marks,Y,kS⟩;have st:=KR h0 (AB kS.n).1 (AB kS.m).1;have k0:=bT (a:=.cells [bB,mv] bf) (gl h0);have Xm:FQ bB mv cA marks (h.set 0 (.cells [bB,mv] bf)):=⟨j7 kS.n h0,j7 kS.m h0,kS.nj,kS.hY,kS.nl,kS.ml⟩;exact oq (L3 Xm _ _)
end
end
section
variable{G:Cells}{bB mv a b c:bg}{cA marks:List (List bg)}
def ago(hr:rJ bB mv cA marks)(s:List UInt8):dV G bA 88 [.agg [bB,mv,a,b,c],bu s] (Lg (-1) 24):=by
 refine ep (aAw.go ?_);have wz:=hr.nl;have ln:=hr.n.cH;rw[cS] at ln;refine wy (cQ (λq=>?_) λq=>?_);refine wy ?_;exact uY ag ag;refine wy ?_;refine dj (λi e h=>e=[(1,bu s),(2,.mp 0 0),(5,bp i)]/\h=[.cells [bB,mv,a,b,c] bf]) cA.length ⟨rfl,rfl⟩ ?_ ?_;rintro i e h Q ⟨rfl,rfl⟩;obtain⟨y,hy⟩:=dW Q;obtain⟨CD,JT,S5,R3⟩:=(hr.nj y (cz hy)).ok;have oa:cx 9 bB (.v (.int .i64 (i:Int)))=a_ (.fp y 0):=hr.n.cw (x:=.agg y) aT (by exact CD);refine wy ?_;refine dy (λbt=>?_) λbt=>?_;exact uY aa aa;exact⟨rfl,trivial⟩;rintro e h ⟨rfl,rfl⟩;refine wy ?_;exact uY ag ag
def agr(hr:rJ bB mv cA marks)(s:List UInt8):dV G bA 89 [.agg [bB,mv,a,b,c],bu s] (Lg (-1) 24):=by
 refine ep (aAx.go ?_);have n8:=hr.ml;have ln:=hr.m.cH;rw[cS] at ln;refine wy ?_;refine dj (λi e h=>e=[(1,bu s),(2,.mp 0 0),(5,bp i)]/\h=[.cells [bB,mv,a,b,c] bf]) marks.length ⟨rfl,rfl⟩ ?_ ?_;rintro i e h Q ⟨rfl,rfl⟩;obtain⟨y,hy⟩:=dW Q;obtain⟨CD,JT,S5,R3⟩:=(hr.hY y (cz hy)).ok;have oa:cx 4 mv (.v (.int .i64 (i:Int)))=a_ (.fp y 0):=hr.m.cw (x:=.agg y) aT (by exact CD);refine wy ?_;refine dy (λbt=>?_) λbt=>?_;exact uY aa aa;exact⟨rfl,trivial⟩;rintro e h ⟨rfl,rfl⟩;refine wy ?_;exact uY ag ag
end
def xm(x:List bg):Prop:=∃(nm:List UInt8) (iv:bg) (l:List Int),x=[bu nm,iv]/\cC iv (l.map bp)/\eT iv/\l.length<=256/\∀z∈l,(0:Int)<=z/\z<256
section
variable{G:Cells}
def aDO{v:bg}{rows:List (List bg)}(hv:cC v (rows.map dG))(D:∀x∈rows,xm x)(hl:rows.length<=1000000000)(s:List UInt8):dV G bA 225 [v,bu s] Lh:=by
 refine ep (aBn.go ?_);have ln:=hv.cH;rw[cS] at ln;have mm:∀J,cH v J=a_ (.v (.int .i64 (rows.length:Int)),J):=λJ=>aLB
 have bn:∀J:List br,∃k bS,dx J k .bq=a_ bS/\Lh bS:=λJ=>VF (l:=[]) (tv J 1 3) af af;refine wy ?_;refine dj (λi e h=>e=[(0,v),(1,bu s),(5,bp i)]/\h=[]) rows.length ⟨rfl,rfl⟩ ?_ ?_;rintro i e h Q ⟨rfl,rfl⟩;obtain⟨y,hy⟩:=dW Q;obtain⟨nm,iv,l,rfl,zq,JA,qa,Ew⟩:=D y (cz hy);have oa:cx 2 v (.v (.int .i64 (i:Int)))=a_ (.fp [bu nm,iv] 0):=hv.cw (x:=.agg [bu nm,iv]) aT rfl;refine wy (cQ (λbt=>?_) λbt=>?_);refine wy ?_;refine eF (aC8 zq JA aa) ?_;rintro r ⟨o,ho,rZ,JH⟩;refine wy ?_
 rcases ho with rfl|⟨rfl,z⟩
 obtain⟨n,hn⟩:=(gQ (t:=.no) (iw (f:=bp) (l:=o) λa _=>bH _):b6 [] _ _).done;exact⟨n,_,hn,o,bD rfl,rZ,JH⟩;exact bn _;exact wx rt;rintro e h ⟨rfl,rfl⟩;exact ff @bp.eq_1 @mm (bn _)
end
@[go_sem]def am3(h:List br){x:List bg}(I:vM x):bL (h++[bw gO bf]) 9 (.mp h.length 0) (.agg x)=a_ (h++[bw x bf]):=N2 h I.ok.1 I.ok.2.1
section
variable{G:Cells}{bB mv a b c:bg}{cA marks:List (List bg)}
def aD5(hr:rJ bB mv cA marks)(hS:eT (.agg [bB,mv,a,b,c])):dV G bA 54 [.agg [bB,mv,a,b,c]] (Lg 0 14):=by
 refine ep (aAe.go ?_);have wz:=hr.nl;have n8:=hr.ml;have Nu:[dh (.string ⟨[].toArray⟩),.bq,.v (.bool bf),.v (.bool bf),.v (.bool bf),.v (.int .i64 0),.v (.bool bf),.bq,.v (.string ⟨[].toArray⟩)]=gO:=rfl;have ln:=hr.n.cH;rw[cS] at ln;have mm:∀J,cH bB J=a_ (.v (.int .i64 (cA.length:Int)),J):=λJ=>aLB
 have lm:=hr.m.cH;rw[cS] at lm;have J0:∀h:List br,h[0]?=a_ (.cells [bB,mv,a,b,c] bf)->bz h bf 1 (.mp 0 0)=a_ bB/\bz h bf 1 (.mp 0 1)=a_ mv/\bz h bh 5 (.mp 0 0)=a_ (.agg [bB,mv,a,b,c]):=λh q=>by
  simp only[bz,q];exact⟨rfl,rfl,rfl⟩
 have strs:∀{n:Nat} {v:bg},jf n v->∃l:List (List UInt8),cC v (l.map bu)/\l.length<=n/\∀J,cH v J=a_ (.v (.int .i64 (l.length:Int)),J):=λ{n v} h=>by
  obtain⟨l,Y,V⟩:=h;have SH:=Y.cH;rw[cS] at SH;exact⟨l,Y,V,λJ=>by rw[SH J,jj]⟩
 have node:∀i,i<cA.length->∃(y:List bg) (nm:List UInt8) (cr:bg) (ib pb cj:Bool) (a2:Int) (al:Bool) (mo:bg) (ex:List UInt8) (gs ms:List (List UInt8)),vM y/\y=eL nm cr ib pb cj a2 al mo ex/\cx 9 bB (.v (.int .i64 (i:Int)))=a_ (.fp y 0)/\cC cr (gs.map bu)/\gs.length<=5/\(∀J,cH cr J=a_ (.v (.int .i64 (gs.length:Int)),J))/\cC mo (ms.map bu)/\ms.length<=100001/\(∀J,cH mo J=a_ (.v (.int .i64 (ms.length:Int)),J))/\(∀J,bz J bf 1 (.fp y 1)=a_ cr)/\(∀J,bz J bf 1 (.fp y 7)=a_ mo)/\(∀J,bz J bh 9 (.fp y 0)=a_ (.agg y)):=λi Q=>by
  have hy:cA[i]?=a_ cA[i]:=cu Q;generalize cA[i]=y at hy;have mJ:=hr.nj y (cz hy);have oa:cx 9 bB (.v (.int .i64 (i:Int)))=a_ (.fp y 0):=hr.n.cw (x:=.agg y) aT aNA;have aze:=mJ;obtain⟨nm,cr,ib,pb,cj,a2,al,mo,ex,rfl,hg,hm,_⟩:=aze;obtain⟨gs,g1,g2,g3⟩:=strs hg;obtain⟨ms,m1,m2,m3⟩:=strs hm;exact⟨_,nm,cr,ib,pb,cj,a2,al,mo,ex,gs,ms,mJ,rfl,oa,g1,g2,g3,m1,m2,m3,λ_=>rfl,λ_=>rfl,λ_=>rfl⟩
 have l0:=(J0 [bw [bB,mv,a,b,c] bf] rfl);refine wy (cQ (λq=>?_) λq=>?_);refine wy ?_;exact uY ag ag;refine wy ?_;refine dj (λi e h=>e=[(1,.mp 0 0),(3,bp i)]/\h=[.cells [bB,mv,a,b,c] bf]) cA.length ⟨rfl,rfl⟩ ?_ ?_;rintro i e h Q ⟨rfl,rfl⟩;obtain⟨y,nm,cr,ib,pb,cj,a2,al,mo,ex,gs,ms,mJ,Sg,oa,g1,g2,g3,m1,m2,m3,r1,yl,aaE⟩:=node i Q;refine wy ?_;refine dj (λj e h=>e=[(1,.mp 0 0),(3,.v (.int .i64 (i:Int))),(4,bp j)]/\h=[.cells [bB,mv,a,b,c] bf]) gs.length ⟨rfl,rfl⟩ ?_ ?_;rintro j e h hj ⟨rfl,rfl⟩;obtain⟨w,hw⟩:=dW hj;have Sm:cx 1 cr (.v (.int .i64 (j:Int)))=a_ (.fp [bu w] 0):=g1.cw (x:=bu w) aLZ rfl;refine lT @bp.eq_1 @oa @r1 @g3 @Sm ?_;refine eF (ago hr w) ?_;rintro r ⟨z,rfl,_,_⟩;refine wy ?_;refine dy (λbt=>?_) λbt=>?_;exact uY ag ag;exact⟨rfl,trivial⟩;rintro e h ⟨rfl,rfl⟩;refine ke @bp.eq_1 @oa @r1 @g3 ?_
 first|exact⟨rfl,trivial⟩|trivial
 rintro e h ⟨rfl,rfl⟩;refine wy ?_;refine dj (λi e h=>e=[(1,.mp 0 0),(5,bp i)]/\h[0]?=a_ (.cells [bB,mv,a,b,c] bf)) cA.length ⟨rfl,rfl⟩ ?_ ?_
 · rintro i e h Q ⟨rfl,h0⟩
   obtain⟨y,nm,cr,ib,pb,cj,a2,al,mo,ex,gs,ms,mJ,Sg,oa,g1,g2,g3,m1,m2,m3,r1,yl,aaE⟩:=node i Q;obtain⟨b0,b1,b2⟩:=J0 h h0;have nn:=am3 h mJ;have n0:(h++[bw y bf])[0]?=a_ (.cells [bB,mv,a,b,c] bf):=bU h0;have pR:bz (h++[bw y bf]) bf 1 (.mp h.length 4)=a_ (.v (.bool cj)):=by
    rw[Sg];simp only[bz,fJ (b_ _),kY,ny];rfl
   have x2:bz (h++[bw y bf]) bf 1 (.mp h.length 2)=a_ (.v (.bool ib)):=by
    rw[Sg];simp only[bz,fJ (b_ _),kY,ny];rfl
   refine pQ @bp.eq_1 @b0 @mm @oa @aaE @Nu @nn ?_;cases cj<;>cases ib
   all_goals repeat' ((refine cQ (λq=>?_) λq=>?_)<;>(have q':=q)<;>(simp -failIfUnchanged only[qs] at q')<;>(refine Df @m_ @pR @x2 @z_ @vE @q ?_))
   all_goals first
    |exact uY ag ag
    |exact⟨rfl,n0⟩
 rintro e h ⟨rfl,h0⟩;obtain⟨b0,b1,b2⟩:=J0 h h0;refine wy ?_;refine dj (λi e g=>e=[(1,.mp 0 0),(7,bp i)]/\g=h) cA.length ⟨rfl,rfl⟩ ?_ ?_;rintro i e g Q ⟨rfl,rfl⟩;obtain⟨y,nm,cr,ib,pb,cj,a2,al,mo,ex,gs,ms,mJ,Sg,oa,g1,g2,g3,m1,m2,m3,r1,yl,aaE⟩:=node i Q;refine wy ?_;refine dj (λj e h=>e=[(1,.mp 0 0),(7,.v (.int .i64 (i:Int))),(8,bp j)]/\h=g) ms.length ⟨rfl,rfl⟩ ?_ ?_;rintro j e h hj ⟨rfl,rfl⟩;obtain⟨w,hw⟩:=dW hj;have Sm:cx 1 mo (.v (.int .i64 (j:Int)))=a_ (.fp [bu w] 0):=m1.cw (x:=bu w) aLZ rfl;refine Dg @bp.eq_1 @b0 @b2 @oa @yl @m3 @Sm ?_;refine eF (agr hr w) ?_;rintro r ⟨z,rfl,_,_⟩;refine wy ?_;refine dy (λbt=>?_) λbt=>?_;exact uY ag ag;exact⟨rfl,trivial⟩;rintro e h ⟨rfl,rfl⟩;refine lT @bp.eq_1 @b0 @oa @yl @m3 ?_
 first|exact⟨rfl,trivial⟩|trivial
 rintro e g ⟨rfl,rfl⟩;refine wy ?_;refine dj (λi e h=>e=[(1,.mp 0 0),(9,bp i)]/\h=g) marks.length ⟨rfl,rfl⟩ ?_ ?_;rintro i e h Q ⟨rfl,rfl⟩;have hy:marks[i]?=a_ marks[i]:=cu Q;generalize marks[i]=y at hy;have mJ:=hr.hY y (cz hy);have oa:cx 4 mv (.v (.int .i64 (i:Int)))=a_ (.fp y 0):=hr.m.cw (x:=.agg y) aT aNA;obtain⟨nm,tj,al,bv,rfl,O⟩:=mJ;obtain⟨ms,m1,m2,m3⟩:=strs O;have jT:∀J,bz J bf 1 (.fp (eV nm tj al bv) 3)=a_ bv:=λ_=>rfl;refine wy ?_;refine dj (λj e g=>e=[(1,.mp 0 0),(9,.v (.int .i64 (i:Int))),(10,bp j)]/\g=h) ms.length ⟨rfl,rfl⟩ ?_ ?_;rintro j e g hj ⟨rfl,rfl⟩;obtain⟨w,hw⟩:=dW hj;have Sm:cx 1 bv (.v (.int .i64 (j:Int)))=a_ (.fp [bu w] 0):=m1.cw (x:=bu w) aLZ rfl;refine wy ?_;refine eF (agr hr w) ?_;rintro r ⟨z,rfl,_,_⟩;refine wy ?_;refine dy (λbt=>?_) λbt=>?_;exact uY ag ag;exact wx rt;rintro e g ⟨rfl,rfl⟩;refine lT @bp.eq_1 @b1 @oa @jT @m3 ?_
 first|exact⟨rfl,trivial⟩|trivial
 rintro e h ⟨rfl,rfl⟩;refine wy ?_;exact uY ag ag
end
section
variable{ps:List cV}
def auk(h:ID ps):∀(n f g:Nat) (i:Int),i.toNat<n->i.toNat<f->i.toNat<g->q2 ps f i=q2 ps g i:=by
 intro n
 induction n with
 |zero=>intro f g i h0;omega
 |succ n ih=>
  intro f g i h0 Y V;obtain⟨f,rfl⟩:∃f',f=f'+1:=⟨f-1,aa⟩;obtain⟨g,rfl⟩:∃g',g=g'+1:=⟨g-1,aa⟩;unfold q2;cases J:ps[i.toNat]? with
  |none=>rfl
  |some p=>
   dsimp only;have e:(p.kids.map λk=>q2 ps f k)=p.kids.map λk=>q2 ps g k:=B0 λk S=>by
    have:=h _ p J k S;exact ih f g k aa aa aa
   rw[e]
def afi(h:ID ps){i:Nat}{p:cV}(J:ps[i]?=a_ p):cnt ps (i:Int)=if p.kind=1 then 1 else(if p.kind=4 then p.many else 1)*(p.kids.map λk=>cnt ps k).sum:=by
 show q2 ps (i+1) (i:Int)=_;unfold q2;rw[wZ,J];dsimp only;have e:(p.kids.map λk=>q2 ps i k)=p.kids.map λk=>cnt ps k:=B0 λk S=>by
  have:=h _ p J k S;exact auk h (i+1) i (k.toNat+1) k aa aa aa
 rw[e]
def aDu{G:Cells}{n0:Nat}{v:bg}(h:yU n0 v ps):∀(n i:Nat),i<n->i<ps.length->sz ps (i:Int)<=1000000000->cI G bA 95 [v,.v (.int .i64 (i:Int))] (.v (.int .i64 ((min (cnt ps (i:Int)) 257:Nat):Int))):=by
 intro n
 induction n with
 |zero=>intro i Q;omega
 |succ n ih=>
  intro i Q hl dw;obtain⟨p,eK⟩:=dW hl;have mh:=h.ok i p eK;have qc:=h.no p (cz eK);have hs:=Uf h.ok.kids eK;have eP:=Ue (λk=>sz ps k) p.kids;have T:=afi h.ok.kids eK;refine eA (aAD.go ?_);have e1:cx 5 v (.v (.int .i64 (i:Int)))=a_ (.fp p.cells 0):=h.v.cw (x:=p.bE) aMC rfl;have e2:∀J,bz J bh 5 (.fp p.cells 0)=a_ (.agg p.cells):=λJ=>rfl;have s1:=zW [] p;rw[gd,gd] at s1;have z0:([]:List br).length=0:=rfl;rw[z0] at s1;have l0:bz [.cells p.cells bf] bf 1 (.mp 0 0)=a_ (.v (.int .i64 p.kind)):=rfl;have l1:bz [.cells p.cells bf] bf 1 (.mp 0 1)=a_ (.v (.int .i64 p.low)):=rfl;have l2:bz [.cells p.cells bf] bf 1 (.mp 0 2)=a_ (.v (.int .i64 p.high)):=rfl;have l4:bz [.cells p.cells bf] bf 1 (.mp 0 4)=a_ p.kv:=rfl;have lk:=zB qc aa;refine wy (cQ (λq=>?_) λq=>?_);have q':p.kind=1:=an
  rw[T,if_pos q'];exact wy ((bH _).done);have q':p.kind≠1:=an
  rw[if_neg q'] at T;refine wy ?_;refine dj (λj e J=>e=[(0,v),(5,.mp 0 0),(6,.v (.int .i64 ((min ((p.kids.take j).map λk=>cnt ps k).sum 257:Nat):Int))),(7,bp j)]/\J=[.cells p.cells bf]) p.kids.length ⟨rfl,rfl⟩ ?_ ?_;rintro j e J hj ⟨rfl,rfl⟩;obtain⟨x,I⟩:=dW hj;obtain⟨x0,x1⟩:=mh.2 x (cz I);obtain⟨xn,rfl⟩:=pT x0;have n3:cx 1 p.kv (.v (.int .i64 (j:Int)))=a_ (.fp [.v (.int .i64 (xn:Int))] 0):=by
   unfold cV.kv;split;rename_i z;rw[z] at I;simp at I;exact lE (x:=bp (xn:Int)) (by rw[fD,I];rfl) rfl
  have aHF:=zX (f:=λk=>sz ps k+1) I;have aHG:=Db (λk=>sz ps k+1) p.kids (j+1);have yB:=zX (f:=λx=>cnt ps x) I;have m1:=J7 (min ((p.kids.take j).map λk=>cnt ps k).sum 257+min (cnt ps (xn:Int)) 257) 0;have ja:min (min ((p.kids.take j).map λk=>cnt ps k).sum 257+min (cnt ps (xn:Int)) 257) 257=min ((p.kids.take (j+1)).map λk=>cnt ps k).sum 257:=by rw[yB];omega
  refine wy (h_ (ih xn aa aa aa) (bO (Ce h) (bO (cP _) cG)) ?_);refine wx ?_
  first
   |exact⟨rfl,trivial⟩
   |exact⟨rfl,rfl⟩
  rintro e J ⟨rfl,rfl⟩;rw[oW];refine wy ?_;generalize(p.kids.map λk=>cnt ps k).sum=hk at T⊢;by_cases C2:p.kind=4;rw[if_pos C2] at T;have O:IC p.low p.high:=by
   rcases mh.1 with z|z|z
   omega;omega;exact z.2.2
  obtain⟨iT,jB,GI⟩:=O;have m0:rL bh [.v (.int .i64 p.low),.v (.int .i64 1)]=a_ (.v (.int .i64 (if(1:Int)>p.low then 1 else p.low))):=rfl;have lg:1<=p.many/\p.many<=20:=by
   unfold FF;constructor<;>(split<;>(try split))<;>omega
  have ayB:min hk 257*p.many<=257*20:=Nat.mul_le_mul (Nat.min_le_right _ _) lg.2;have w1:cN.wrap (((min hk 257:Nat):Int)*(p.many:Int))=((min hk 257*p.many:Nat):Int):=by
   rw[<-Int.natCast_mul,e6 aa aa]
  have ja:min (min hk 257*p.many) 257=min (p.many*hk) 257:=by
   rcases Nat.le_total hk 257 with z|z
   rw[FL z,acH];have V:257*p.many<=p.many*hk:=aMY
   rw[Nat.min_eq_right z];omega
  have m1:=J7 (min hk 257*p.many) 0;rw[ja] at m1;rw[T];refine wy (cQ (λiN=>?_) λiN=>?_);have Gp:(if(1:Int)>p.low then 1 else p.low)=(p.many:Int):=by
   have:p.high<0:=by simpa using iN
   unfold FF;rw[if_pos this];split<;>omega
  rw[Gp] at m0;exact wy ((bH _).done);have Gp:p.high=(p.many:Int):=by
   have:¬p.high<0:=by simp at iN;omega
   unfold FF;rw[if_neg this];omega
  rw[Gp] at l2;exact wy ((bH _).done);have n4:(p.kind==4)=bf:=by simpa using C2
  rw[if_neg C2,FM] at T;have m1:=J7 (min hk 257) 0;have ja:min (min hk 257) 257=min hk 257:=aa
  rw[ja] at m1;rw[T];exact wy ((bH _).done)
end
section
variable{v:bg}
noncomputable def RQ(y:List bg)(s:List UInt8):Bool:=@decide (∃xs,y[1]?=a_ (.sl xs .no)/\bu s∈xs) (aI9 _)
def aHx{a b:List UInt8}(h:bu a=bu b):a=b:=by
 unfold bu at h;simpa using h
def axY{y:List bg}{cr:bg}{gs:List (List UInt8)}(h:y[1]?=a_ cr)(hg:cC cr (gs.map bu))(s:List UInt8):RQ y s=gs.any (· ==s):=by
 unfold RQ;rw[Fz,@decide_eq_true_iff _ (aI9 _),K4];constructor;rintro⟨xs,Y,V⟩;rw[h] at Y
 rcases hg with rfl|⟨rfl,_⟩
 cases Y;obtain⟨t,ht,e⟩:=dX.1 V;exact⟨t,ht,by rw[aHx e];simp⟩;cases Y;rintro⟨t,ht,e⟩;have:t=s:=aMX
 subst this
 rcases hg with rfl|⟨rfl,z⟩
 exact⟨_,h,dX.2 ⟨t,ht,rfl⟩⟩;have:gs=[]:=aN
 rw[this] at ht;cases ht
noncomputable def qA(cA:List (List bg))(s:List UInt8):Nat->List Int
 |0=>[]
 |i+1=>qA cA s i++(match cA[i]? with|some y=>if RQ y s then [((i+1:Nat):Int)] else []|none=>[])
def Xe(cA:List (List bg))(s:List UInt8):∀i,(qA cA s i).length<=i/\∀x∈qA cA s i,1<=x/\x<=(i:Int)
 |0=>⟨by simp[qA],by simp[qA]⟩
 |i+1=>by
  obtain⟨Y,V⟩:=Xe cA s i;unfold qA;split;split;refine⟨ah,λx I=>?_⟩
  rcases fB.1 I with z|z
  have:=V x z;omega;rw[dP.1 z];omega;rw[fZ];exact⟨aa,λx I=>by have:=V x I;omega⟩;rw[fZ];exact⟨aa,λx I=>by have:=V x I;omega⟩
def oM(l:List Int):bg:=match l with
 |[]=>.bq
 |_=>.sl (l.map bp) .no
def ai4(l:List Int):cC (oM l) (l.map bp):=by
 unfold oM;split;exact bG ⟨rfl,rfl⟩;exact bD rfl
def asO{J:List br}{l:List Int}(h:de J v (l.map bp) 1 3)(hn:l=[]->v=.bq):∃k,dx J k v=a_ (oM l):=by
 cases l with
 |nil=>
  rw[hn rfl];exact(ey:b6 J _ _).done
 |cons x r=>
  rcases h with⟨_,z⟩|⟨id,rfl,_⟩
  simp at z;exact(gQ (t:=.tok id) (iw (f:=bp) (l:=x::r) λa _=>bH _):b6 J _ _).done
section
variable{G:Cells}{bB mv a b c:bg}{cA marks:List (List bg)}
def axc{l:List (List UInt8)}(hv:cC v (l.map bu))(hl:l.length<=1000000)(x:List UInt8):cI G bA 157 [v,bu x] (.v (.bool (l.any (· ==x)))):=by
 refine eA (aka.go ?_);have ln:=hv.cH;rw[cS] at ln;refine wy ?_;refine dj (λi e h=>e=[(0,v),(1,bu x),(5,bp i)]/\h=[]/\∀j s,j<i->l[j]?=a_ s->(s==x)=bf) l.length ⟨rfl,rfl,λj s h=>aa⟩ ?_ ?_;rintro i e h Q ⟨rfl,rfl,hI⟩;obtain⟨s,hs⟩:=dW Q;have e1:cx 1 v (.v (.int .i64 (i:Int)))=a_ (.fp [bu s] 0):=hv.cw (x:=bu s) aNu rfl;refine wy ?_;refine dy (λq=>?_) λq=>?_;rw[show l.any (· ==x)=bh from K4.2 ⟨s,cz hs,q⟩];exact(bH _).done;refine⟨rfl,trivial,λj t hj ht=>?_⟩
 rcases ei j i with z|z
 exact hI j t z ht;rw[show j=i by omega,hs] at ht;cases ht;exact q;rintro e h ⟨rfl,rfl,hI⟩;refine wy ?_;rw[show l.any (· ==x)=bf from by
  rw[List.any_eq_false];intro s hm;obtain⟨j,hj,rfl⟩:=Iy hm;rw[hI j _ hj (cu hj)];decide]
 exact(bH _).done
def awv(hr:rJ bB mv cA marks)(s:List UInt8):cI G bA 93 [.agg [bB,mv,a,b,c],bu s] (oM (qA cA s cA.length)):=by
 refine eA (aAC.go ?_);have wz:=hr.nl;have ln:=hr.n.cH;rw[cS] at ln;refine wy ?_;refine dj (λi e h=>∃bx:bg,e=[(1,bu s),(2,.mp 0 0),(5,bx),(6,bp i)]/\h[0]?=a_ (.cells [bB,mv,a,b,c] bf)/\de h bx ((qA cA s i).map bp) 1 3/\(qA cA s i=[]->bx=.bq)) cA.length ⟨.bq,rfl,rfl,tv _ _ _,λ_=>rfl⟩ ?_ ?_;rintro i e h Q ⟨bx,rfl,h0,hA,M9⟩;obtain⟨y,hy⟩:=dW Q;have mJ:=hr.nj y (cz hy);obtain⟨CD,JT,S5,R3⟩:=mJ.ok;have oa:cx 9 bB (.v (.int .i64 (i:Int)))=a_ (.fp y 0):=hr.n.cw (x:=.agg y) aT (by exact CD);obtain⟨cr,Eu,SH,lh⟩:∃cr,jf 5 cr/\(∀h,bz h bf 1 (.fp y 1)=a_ cr)/\y[1]?=a_ cr:=by
  obtain⟨nm,cr,i2,p2,cj,a2,al,mo,ex,rfl,hg,hm,_⟩:=mJ;exact⟨cr,hg,λh=>rfl,rfl⟩
 obtain⟨gs,Bc,kU⟩:=Eu;have aJX:eT cr:=qZ Bc;have wi:cN.wrap ((i:Int)+1)=((i+1:Nat):Int):=kI aa;have aKn:=(Xe cA s i).1;obtain⟨cl,g,e1,fM,bR,_,S⟩:=nc (x:=.v (.int .i64 ((i+1:Nat):Int))) (cc:=8) hA (HG _) rfl ag ag ah;have g0:=S _ _ h0 λxs z=>by
  rcases hA with⟨b7,_⟩|⟨id,b7,z2⟩
  rw[b7] at z;cases z;rw[b7] at z;cases z;rw[h0] at z2;cases z2
 have hh:=axY lh Bc s;refine wy ?_;refine dD (axc Bc aa s) ?_;rw[<-hh];cases O:RQ y s with
 |false=>
  have tP:qA cA s (i+1)=qA cA s i:=by
   rw[qA,hy];simp[O]
  refine fS ?_;exact⟨bx,rfl,h0,by rw[tP];exact hA,by rw[tP];exact M9⟩
 |true=>
  have tP:qA cA s (i+1)=qA cA s i++[((i+1:Nat):Int)]:=by
   rw[qA,hy];simp[O]
  refine ff @wi @e1 ?_;exact⟨cl,rfl,g0,by rw[tP,gz];exact fM,by rw[tP];intro z;simp at z⟩
 rintro e h ⟨bx,rfl,h0,hA,M9⟩;exact wy (asO hA M9)
end
end
section
variable{v:bg}{x:List bg}
def DC(x:List bg):Prop:=∃(nm:List UInt8) (l:List Int),(x=[bu nm,oM l]\/x=[bu nm,.sl (l.map bp) .exact])/\l.length<=256/\∀z∈l,(0:Int)<=z/\z<256
def Gg{l:List Int}(h:cC v (l.map bp)):eT v:=by
 rcases h with rfl|⟨rfl,_⟩
 refine k7 λx I c T=>?_;obtain⟨t,_,rfl⟩:=dX.1 I;rw[dP.1 (show c∈[bp t] from T)];exact cP _;exact nY
def ai3(l:List Int):cq (oM l)=bh/\(oM l).cells=[oM l]:=by
 unfold oM;split<;>exact⟨rfl,rfl⟩
def azR(l:List Int)(J:List br):b6 J (oM l) (oM l):=by
 unfold oM;split;exact ey;exact gQ (iw λa _=>bH _)
def DC.ok(h:DC x):x.length=2/\x.all cq=bh:=by
 obtain⟨nm,l,rfl|rfl,_,_⟩:=h;refine⟨rfl,?_⟩;simp only[qk,tB,(ai3 l).1];rfl;exact⟨rfl,rfl⟩
def DC.fz(h:DC x)(J:List br):∃x',b6 J (.agg x) (.agg x')/\xm x':=by
 obtain⟨nm,l,rfl|rfl,Y,V⟩:=h;exact⟨_,jO (bF (bH _) (bF (azR l J) cZ)),nm,_,l,rfl,ai4 l,Gg (ai4 l),Y,V⟩;exact⟨[bu nm,.sl (l.map bp) .no],jO (bF (bH _) (bF (gQ (iw λa _=>bH _)) cZ)),nm,_,l,rfl,bD rfl,Gg (bD rfl),Y,V⟩
def amJ(J:List br):∀{xs:List (List bg)},(∀x∈xs,DC x)->∃ys:List (List bg),e_ J (xs.map dG) (ys.map dG)/\(∀y∈ys,xm y)/\ys.length=xs.length
 |[],_=>⟨[],cZ,af,rfl⟩
 |x::r,h=>by
  obtain⟨x',a1,a2⟩:=(h x af).fz J;obtain⟨ys,b1,b2,b3⟩:=amJ J (xs:=r) λy hy=>h y aT;refine⟨x'::ys,bF a1 b1,λy hy=>?_,by simp[b3]⟩
  rcases fc.1 hy with rfl|hy
  exact a2;exact b2 y hy
def arP(n:Nat)(r:bg):Prop:=∃rows:List (List bg),cC r (rows.map dG)/\(∀x∈rows,xm x)/\rows.length<=n
section
variable{G:Cells}{bB mv a b c:bg}{cA marks:List (List bg)}
def aDN{n0:Nat}{ps:List cV}(hr:rJ bB mv cA marks)(hS:eT (.agg [bB,mv,a,b,c]))(h:yU n0 v ps)(hn:n0<=1000000000):dV G bA 56 [.agg [bB,mv,a,b,c],v] (arP ps.length):=by
 refine ep (aAg.go ?_);have hl:=h.len;have wz:=hr.nl;have ln:=h.v.cH;rw[cS] at ln;refine wy ?_;refine dj (λi e h=>∃(xs:List (List bg)) (bx:bg),e=[(1,v),(2,.mp 0 0),(5,bx),(6,bp i)]/\h[0]?=a_ (.cells [bB,mv,a,b,c] bf)/\de h bx (xs.map dG) 2 193/\xs.length<=i/\∀x∈xs,DC x) ps.length ⟨[],.bq,rfl,rfl,tv _ _ _,af,af⟩ ?_ ?_;rintro i e g Q ⟨xs,bx,rfl,h0,hA,s6,I⟩;obtain⟨p,J⟩:=dW Q;have e1:cx 5 v (.v (.int .i64 (i:Int)))=a_ (.fp p.cells 0):=h.v.cw (x:=p.bE) (by simp[J]) rfl;have l0:∀J,bz J bf 1 (.fp p.cells 0)=a_ (.v (.int .i64 p.kind)):=λJ=>rfl;have l3:∀J,bz J bf 1 (.fp p.cells 3)=a_ (bu p.name):=λJ=>rfl;have Y_:∀g:List br,g[0]?=a_ (.cells [bB,mv,a,b,c] bf)->bz g bh 5 (.mp 0 0)=a_ (.agg [bB,mv,a,b,c]):=λg q=>by
  simp only[bz,q];rfl
 refine so (cQ (λq=>?_) λq=>?_);refine eE @q ?_;exact⟨xs,bx,rfl,h0,hA,aa,I⟩;refine wy ?_;refine⟨_,_,bO hS (bO (uX _) cG),awv hr p.name,?_⟩;obtain⟨gl,Rl⟩:=Xe cA p.name cA.length;have avh:dI [.v (.string ⟨[].toArray⟩),.bq] [(0,1,bu p.name),(1,1,oM (qA cA p.name cA.length))]=a_ [bu p.name,oM (qA cA p.name cA.length)]:=by
  generalize qA cA p.name cA.length=L;cases L<;>rfl
 generalize qA cA p.name cA.length=L at gl Rl avh⊢;have nn:bL (g++[bw [.v (.string ⟨[].toArray⟩),.bq] bf]) 2 (.mp g.length 0) (.agg [bu p.name,oM L])=a_ (g++[bw [bu p.name,oM L] bf]):=by
  rw[KR (k:=g.length) (a:=.v (.string ⟨[].toArray⟩)) (b:=.bq) af rfl (ai3 L).1];simp
 have Jr:(g++[bw [bu p.name,oM L] bf])[0]?=a_ (.cells [bB,mv,a,b,c] bf):=bU h0;have kx:(g++[bw [bu p.name,oM L] bf])[g.length]?=a_ (.cells [bu p.name,oM L] bf):=af
 have v_:de (g++[bw [bu p.name,oM L] bf]) bx (xs.map dG) 2 193:=hA.ext;have MU:g.length≠0:=by have:=(cJ.1 h0).1;omega
 refine wy ?_;generalize g++[bw [bu p.name,oM L] bf]=g1 at Jr kx v_⊢;generalize g.length=K at kx MU⊢;refine wy ?_;refine eF (ago hr p.name) ?_;rintro r ⟨z,rfl,b7,z2⟩;have push:∀(g2:List br) (x:List bg),de g2 bx (xs.map dG) 2 193->g2[0]?=a_ (.cells [bB,mv,a,b,c] bf)->DC x->∃cl g3,eW 2 [.agg x]=a_ (.sl [.agg x] .exact)/\eg g2 2 40 193 bx (.sl [.agg x] .exact)=a_ (cl,g3)/\g3[0]?=a_ (.cells [bB,mv,a,b,c] bf)/\de g3 cl ((xs++[x]).map dG) 2 193/\∀y∈xs++[x],DC y:=λg2 x fM p9 EO=>by
  have Z0:cY 2 [dG x]=bh:=wJ (xs:=[x]) λy hy=>by rw[dP.1 hy];exact EO.ok
  obtain⟨cl,g3,di,rU,_,_,S⟩:=nc (x:=dG x) (cc:=40) fM (wJ λy hy=>(I y hy).ok) Z0 ag ag ah;refine⟨cl,g3,by simp[eW,Z0],di,S _ _ p9 λys w=>?_,by rw[gz];exact rU,λy hy=>?_⟩
  rcases fM with⟨w1,_⟩|⟨id,w1,w2⟩
  rw[w1] at w;cases w;rw[w1] at w;cases w;rw[p9] at w2;cases w2
  rcases fB.1 hy with w|w
  exact I y w;rw[dP.1 w];exact EO
 refine wy (cQ (λbt=>?_) λbt=>?_);have aiN:0<=z:=aZ
 have s1:bL g1 1 (.mp K 1) (.sl [.v (.int .i64 z)] .exact)=a_ (g1.set K (.cells [bu p.name,.sl [.v (.int .i64 z)] .exact] bf)):=by
  simp only[bL,kx];rfl
 have Hp:=bT (a:=.cells [bu p.name,.sl [.v (.int .i64 z)] .exact] bf) (cJ.1 kx).1;have p9:(g1.set K (.cells [bu p.name,.sl [.v (.int .i64 z)] .exact] bf))[0]?=a_ (.cells [bB,mv,a,b,c] bf):=by rw[bC MU];exact Jr
 obtain⟨cl,g3,p1,p2,p3,jm,Ki⟩:=push _ [bu p.name,.sl [.v (.int .i64 z)] .exact] (j7 v_ kx) p9 ⟨p.name,[z],bG rfl,af,λy hy=>by rw[dP.1 hy];omega⟩;refine qQ @bt @s1 (Ui Hp) @p1 @p2 ?_;exact⟨_,cl,rfl,p3,jm,ah,Ki⟩;obtain⟨cl,g3,p1,p2,p3,jm,Ki⟩:=push g1 [bu p.name,oM L] v_ Jr ⟨p.name,L,bD rfl,aa,λy hy=>by have:=Rl y hy;omega⟩;refine ke @bt (Ui kx) @p1 @p2 ?_;exact⟨_,cl,rfl,p3,jm,ah,Ki⟩;rintro e g ⟨xs,bx,rfl,h0,hA,s6,I⟩;refine wy ?_;obtain⟨ys,y1,fW,mz⟩:=amJ g I
 rcases hA with⟨rfl,z⟩|⟨id,rfl,_⟩
 obtain⟨n,hn⟩:=(ey:b6 g _ _).done;exact⟨n,_,hn,[],bG ⟨rfl,rfl⟩,af,af⟩;obtain⟨n,hn⟩:=(gQ (t:=.tok id) y1:b6 g _ _).done;exact⟨n,_,hn,ys,bD rfl,fW,aa⟩
end
end
section
variable{G:Cells}{bB mv a b c:bg}{cA marks:List (List bg)}
def aH3(hr:rJ bB mv cA marks)(n:Int):dV G bA 158 [.agg [bB,mv,a,b,c],.v (.int .i64 n)] λr=>∃t:Bool,r=.v (.bool t)/\(t=bh->1<=n/\n<=(cA.length:Int)):=by
 refine ep (aAb.go ?_);have ln:=hr.n.cH;rw[cS] at ln;refine wy ?_;refine dy (λq=>?_) λq=>?_;refine wy ?_;obtain⟨k,S⟩:=(bH (.bool (decide (n<=(cA.length:Int)))):b6 [bw [bB,mv,a,b,c] bf] _ _).done;exact⟨k,_,S,_,rfl,λz=>⟨an,aN⟩⟩;obtain⟨k,S⟩:=(bH (.bool bf):b6 [bw [bB,mv,a,b,c] bf] _ _).done;exact⟨k,_,S,_,rfl,λz=>by cases z⟩
def aEl(hr:rJ bB mv cA marks)(n:Nat)(Y:1<=n)(V:n<=cA.length):dV G bA 159 [.agg [bB,mv,a,b,c],.v (.int .i64 (n:Int))] λr=>∃y,r=.agg y/\vM y:=by
 refine ep (aBF.go ?_);have wz:=hr.nl;have Nu:[dh (.string ⟨[].toArray⟩),.bq,.v (.bool bf),.v (.bool bf),.v (.bool bf),.v (.int .i64 0),.v (.bool bf),.bq,.v (.string ⟨[].toArray⟩)]=gO:=rfl;obtain⟨y,hy⟩:∃y,cA[n-1]?=a_ y:=⟨cA[n-1]' aa,cu aa⟩;have mJ:=hr.nj y (cz hy);have oa:cx 9 bB (.v (.int .i64 ((n-1:Nat):Int)))=a_ (.fp y 0):=hr.n.cw (x:=.agg y) aT aNA;have ly:=λJ=>sF.gk mJ.ok.1 J;have st:bL [bw [bB,mv,a,b,c] bf,.cells gO bf] 9 (.mp 1 0) (.agg y)=a_ [.cells [bB,mv,a,b,c] bf,.cells y bf]:=yd (k:=1) rfl rfl mJ.ok.1 mJ.ok.2.1;have la:bz [bw [bB,mv,a,b,c] bf,.cells y bf] bh 9 (.mp 1 0)=a_ (.agg y):=by
  obtain⟨nm,cr,i,p,cj,a2,al,mo,ex,rfl,_⟩:=mJ;rfl
 refine wy ?_;obtain⟨k,S⟩:=(mJ.fz [bw [bB,mv,a,b,c] bf,.cells y bf]).done;exact⟨k,_,S,y,rfl,mJ⟩
def YG(hr:rJ bB mv cA marks)(hS:eT (.agg [bB,mv,a,b,c]))(n:Int):dV G bA 94 [.agg [bB,mv,a,b,c],.v (.int .i64 n)] jW:=by
 refine ep (aAc.go ?_);have Y_:bz [bw [bB,mv,a,b,c] bf] bh 5 (.mp 0 0)=a_ (.agg [bB,mv,a,b,c]):=rfl;refine wy ?_;refine dy (λq=>?_) λq=>?_;exact ji _;refine eF (aH3 hr n) ?_;rintro r ⟨t,rfl,ht⟩;cases t with
 |false=>
  exact wy (ji _)
 |true=>
  obtain⟨Y,V⟩:=ht rfl;obtain⟨m,rfl⟩:=pT (show 0<=n by omega);refine wy ?_;refine eF (aEl hr m aa aa) ?_;rintro r ⟨y,rfl,nm,cr,i,p,cj,a2,al,mo,ex,rfl,_⟩;have f:IZ bf 1 2 (.agg (eL nm cr i p cj a2 al mo ex))=a_ (.v (.bool i)):=rfl;exact wy (ji _)
end
end Go.Proofs.YtpcfoeagojdmdaaGreatDoor

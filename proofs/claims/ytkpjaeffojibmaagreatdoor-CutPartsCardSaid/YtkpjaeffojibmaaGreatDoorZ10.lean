/- Part 10 of a proof. No condition. -/
import Derived.Test.YtkpjaeffojibmaaGreatDoorZ9
set_option linter.unusedVariables false
set_option linter.unusedSimpArgs false
set_option linter.defProp false
open Bool renaming eq_iff_iff->Hw,false->bf,not_false->va,not_true->zH,true->bh
open Classical renaming propDecidable->apy
open Go.bM.bg renaming agg->dG,cells->jK,one->cr,v->cI
open Go.bM.cT renaming nil->sW
open Go.bM.br renaming cells->bw
open Go.bM.s5 renaming mk->cN
open Go.bM.cq renaming mono->ck,pu->dX,ZE->ei,pure->hU,aDt->jy
open Go.bM renaming Clean->eM
open Go.bM.b7 renaming agg->kf,bp->ez,sl->gU,bQ->fB,v->bH
open Go.bM.fm renaming cons->bG,map->iC,nil->cX
open Go.IntKind renaming i64->de
open Go.Proofs.Tryz renaming prog->bC
open Go.Proofs.YtkpjaeffojibmaaGreatDoor.cP renaming bA->rY,cells->q7,many->E3
open Go.Proofs.YtkpjaeffojibmaaGreatDoor.dF renaming bA->mT,cells->iD
open Go.Proofs.YtkpjaeffojibmaaGreatDoor.jf renaming nil->zM
open Int renaming eq_ofNat_of_zero_le->o8,le_refl->CS,toNat_natCast->yf
open List renaming all_cons->pY,all_eq_true->eP,all_nil->sY,any_eq_true->Kv,append_assoc->dR,append_nil->gd,cons_append->lY,drop_zero->o9,getElem?_append->abJ,getElem?_append_left->fT,getElem?_append_right->fY,getElem?_cons_zero->nA,getElem?_eq_getElem->cz,getElem?_eq_none->jU,getElem?_eq_some_iff->cL,getElem?_map->fR,getElem?_set_ne->bD,getElem?_set_self->bU,getElem_of_mem->HH,length_append->ec,length_cons->eW,length_map->cM,length_nil->hY,length_pos_iff->HI,length_singleton->pZ,map_append->gf,map_congr_left->Bv,map_cons->fG,map_drop->ON,map_map->yl,map_nil->lu,mem_append->gj,mem_cons->fS,mem_map->eg,mem_of_getElem?->cG,mem_singleton->dP,nil_append->gN,set_set->ap_,sum_append->aqa,sum_cons->zQ,sum_nil->HJ,take_add_one->wH,take_append_drop->OP,take_length->n3,take_of_length_le->mA
open Nat renaming add_assoc->n5,add_sub_cancel->T8,add_zero->vc,eq_zero_or_pos->CV,le_refl->cj,le_trans->h_,lt_or_ge->en,min_eq_left->CX,mul_comm->abQ,one_mul->E7,sub_self->mU,sub_zero->E8,zero_add->gk,zero_le->js
open Option renaming none->bn,some->a_
open Or renaming inl->bE,inr->bF
namespace Go.Proofs.YtkpjaeffojibmaaGreatDoor
open Go Go.bM Go.RowKit
section
variable{J:List br}
def HL(low high:Int):Prop:=0<=low/\low<=20/\(high= -1\/(1<=high/\high<=20/\low<=high))
def dF.wZ(x:dF):Prop:=1<=x.kind/\x.kind<=5/\x.name.length<=12/\(x.kind=5->HL x.low x.high)
def UA(a n:Nat)(r:bg):Prop:=∃(x:dF) (p e:Int),r=.bQ [x.bA,.v (.int .i64 p),.v (.int .i64 e)]/\(e=0->∃p':Nat,p=(p':Int)/\a<p'/\p'<=n/\x.wZ)
def oP{a n:Nat}(x:dF){p e:Int}(h:e=0->∃p':Nat,p=(p':Int)/\a<p'/\p'<=n/\x.wZ):∃k bV,di J k (.bQ [.agg x.cells,.v (.int .i64 p),.v (.int .i64 e)])=a_ bV/\UA a n bV:=by
 obtain⟨k,S⟩:=(fB (bG (kf (bG (bH _) (bG (bH _) (bG (bH _) (bG (bH _) (bG (bH _) cX)))))) (bG (bH (.int .i64 p)) (bG (bH (.int .i64 e)) cX))):b7 J (.bQ [.agg x.cells,.v (.int .i64 p),.v (.int .i64 e)]) _).done;exact⟨k,_,S,x,p,e,rfl,h⟩
@[go_sem]def aba(z x:dF)(l:List br):bL (.cells z.cells bf::l) 5 (.mp 0 0) (.agg x.cells)=a_ (.cells x.cells bf::l):=by
 rw[wo (k:=0) (Z:=z.cells) rfl rfl x];rfl
@[go_sem]def Bk(x:dF)(l:List br):bz (.cells x.cells bf::l) bh 5 (.mp 0 0)=a_ (.agg x.cells):=wm rfl
@[go_sem]def apu(b:br)(z x:dF)(l:List br):bL (b:: .cells z.cells bf::l) 5 (.mp 1 0) (.agg x.cells)=a_ (b:: .cells x.cells bf::l):=by
 rw[wo (k:=1) (Z:=z.cells) rfl rfl x];rfl
@[go_sem]def EV(b:br)(x:dF)(l:List br):bz (b:: .cells x.cells bf::l) bh 5 (.mp 1 0)=a_ (.agg x.cells):=wm rfl
@[go_sem]def apt(b:br)(k a lo Q n:Int)(w:List UInt8)(l:List br):bL (b:: .cells (iD ⟨k,a,lo,Q,w⟩) bf::l) 1 (.mp 1 2) (.v (.int .i64 n))=a_ (b:: .cells (iD ⟨k,a,n,Q,w⟩) bf::l):=rfl
@[go_sem]def TH(b:br)(k a lo Q n:Int)(w:List UInt8)(l:List br):bL (b:: .cells (iD ⟨k,a,lo,Q,w⟩) bf::l) 1 (.mp 1 3) (.v (.int .i64 n))=a_ (b:: .cells (iD ⟨k,a,lo,n,w⟩) bf::l):=rfl
def CL:dF:=⟨0,0,0,0,[]⟩
def aa_:iD CL=[.v (.int .i64 0),.v (.int .i64 0),.v (.int .i64 0),.v (.int .i64 0),.v (.string ⟨[].toArray⟩)]:=rfl
section
variable{G:Cells}
def asZ(s:List UInt8)(hs:s.length<=1000000000)(cw:Nat)(ha:cw<s.length):dM G bC 239 [bu s,.v (.int .i64 (cw:Int))] (UA cw s.length):=by
 refine ek (azK.go ?_);have f1:dJ [.v (.int .i64 0),.v (.int .i64 0),.v (.int .i64 0),.v (.int .i64 0),.v (.string ⟨[].toArray⟩)] [(0,1,.v (.int .i64 5)),(1,1,.v (.int .i64 (cw:Int)))]=a_ (iD ⟨5,cw,0,0,[]⟩):=rfl;have p1:=λb x l=>apu b CL x l;have iM:=λx l=>aba CL x l;rw[aa_] at p1 iM;refine wy ?_;refine ei (amb s hs (cw+1) ha) ?_;rintro r ⟨m,p,rfl,J,hm⟩;refine wy (cN (λq=>?_) λq=>?_);obtain⟨p',e,he,sp⟩:=TF (G:=G) s p;refine wy ?_;refine dX sp ?_;exact wx (oP ⟨5,cw,0,0,[]⟩ λz=>absurd z he);have pO:0<=m:=ak
 have ok:∀hh:Int,m<=20->(hh= -1\/(1<=hh/\hh<=20/\m<=hh))->dF.wZ ⟨5,cw,m,hh,[]⟩:=λhh Wi h=>⟨aJ0,aLq,aKx,λ_=>⟨pO,Wi,h⟩⟩;refine rW ?_
 repeat' ((refine cN (λq=>?_) λq=>?_)<;>(have q':=q)<;>(simp -failIfUnchanged only[p8] at q')<;>(refine jw @xM @xe @q ?_))
 all_goals first
  |(refine wx ?_
    exact oP ⟨5,cw,0,0,[]⟩ λz=>absurd z ag)
  |skip
 all_goals
  have Mv:m<=20:=aa
  refine gC @apt @TH @xe ?_
  repeat' ((refine cN (λq=>?_) λq=>?_)<;>(have q':=q)<;>(simp -failIfUnchanged only[p8] at q')<;>(refine jw @xM @xe @q ?_))
 all_goals first
  |(obtain⟨p',e,he,sp⟩:=TF (G:=G) s p
    refine dX sp ?_;exact gC @EV @iM @Bk (oP ⟨5,cw,m,m,[]⟩ λz=>absurd z he))
  |skip
 all_goals first
  |(exfalso;omega)
  |(refine gC @EV @iM @Bk ?_
    exact oP ⟨5,cw,m,m,[]⟩ λ_=>⟨p+1,rfl,aa,aa,ok m Mv (bF ⟨aa,aa,aa⟩)⟩)
  |skip
 all_goals
  refine hO @TH @xe ?_
  repeat' ((refine cN (λq=>?_) λq=>?_)<;>(have q':=q)<;>(simp -failIfUnchanged only[p8] at q')<;>(refine jw @xM @xe @q ?_))
 all_goals first
  |(exfalso;omega)
  |(refine gC @EV @iM @Bk ?_
    exact oP ⟨5,cw,m, -1,[]⟩ λ_=>⟨p+1+1,rfl,aa,aa,ok _ Mv (bE rfl)⟩)
  |skip
 all_goals
  refine ei (amb s hs (p+1) aa) ?_;rintro r ⟨k,p2,rfl,jA,S⟩;refine fc (cN (λq=>?_) λq=>?_);obtain⟨p',e,he,sp⟩:=TF (G:=G) s p2;refine dK @q ?_;refine dX sp ?_;exact gC @EV @iM @Bk (oP ⟨5,cw,m, -1,[]⟩ λz=>absurd z he);have xz:0<=k:=ak
  refine dK @q ?_
  repeat' ((refine cN (λq=>?_) λq=>?_)<;>(have q':=q)<;>(simp -failIfUnchanged only[p8] at q')<;>(refine jw @xM @xe @q ?_))
 all_goals first
  |(refine gC @EV @iM @Bk ?_
    exact oP ⟨5,cw,m, -1,[]⟩ λz=>absurd z ag)
  |skip
 all_goals
  refine hO @TH @xe ?_
  repeat' ((refine cN (λq=>?_) λq=>?_)<;>(have q':=q)<;>(simp -failIfUnchanged only[p8] at q')<;>(refine jw @xM @xe @q ?_))
 all_goals first
  |(exfalso;omega)
  |(refine gC @EV @iM @Bk ?_
    exact oP ⟨5,cw,m,k,[]⟩ λ_=>⟨p2+1,rfl,aa,aa,ok k Mv (bF ⟨aa,aa,aa⟩)⟩)
  |(obtain⟨p',e,he,sp⟩:=TF (G:=G) s p2
    refine dX sp ?_;exact gC @EV @iM @Bk (oP ⟨5,cw,m,k,[]⟩ λz=>absurd z he))
def aCV(s:List UInt8)(hs:s.length<=1000000000)(cw:Nat)(ha:cw<s.length):dM G bC 175 [bu s,.v (.int .i64 (cw:Int))] (UA cw s.length):=by
 refine ek (azq.go ?_);have fz:dJ [.v (.int .i64 0),.v (.int .i64 0),.v (.int .i64 0),.v (.int .i64 0),.v (.string ⟨[].toArray⟩)] []=a_ (iD CL):=rfl;have f1:∀w,dJ [.v (.int .i64 0),.v (.int .i64 0),.v (.int .i64 0),.v (.int .i64 0),.v (.string ⟨[].toArray⟩)] [(0,1,.v (.int .i64 1)),(1,1,.v (.int .i64 (cw:Int))),(4,1,bu w)]=a_ (iD ⟨1,cw,0,0,w⟩):=λw=>rfl;have f2:∀k:Int,dJ [.v (.int .i64 0),.v (.int .i64 0),.v (.int .i64 0),.v (.int .i64 0),.v (.string ⟨[].toArray⟩)] [(0,1,.v (.int .i64 k)),(1,1,.v (.int .i64 (cw:Int)))]=a_ (iD ⟨k,cw,0,0,[]⟩):=λk=>rfl;have f5:∀h:Int,dJ [.v (.int .i64 0),.v (.int .i64 0),.v (.int .i64 0),.v (.int .i64 0),.v (.string ⟨[].toArray⟩)] [(0,1,.v (.int .i64 5)),(1,1,.v (.int .i64 (cw:Int))),(3,1,.v (.int .i64 h))]=a_ (iD ⟨5,cw,0,h,[]⟩):=λk=>rfl;have f6:dJ [.v (.int .i64 0),.v (.int .i64 0),.v (.int .i64 0),.v (.int .i64 0),.v (.string ⟨[].toArray⟩)] [(0,1,.v (.int .i64 5)),(1,1,.v (.int .i64 (cw:Int))),(2,1,.v (.int .i64 1)),(3,1,.v (.int .i64 (-1)))]=a_ (iD ⟨5,cw,1, -1,[]⟩):=rfl;have iM:=λx l=>aba CL x l;rw[aa_] at iM;have w1:de.wrap ((cw:Int)+1)=((cw+1:Nat):Int):=nx aa;have amh:∀w:List UInt8,w.length<=12->dF.wZ ⟨1,cw,0,0,w⟩:=λw hw=>⟨(by show(1:Int)<=1;decide),aJ0,hw,λq=>absurd (show(1:Int)=5 from q) ag⟩;have Zf:∀k:Int,1<=k->k<=4->dF.wZ ⟨k,cw,0,0,[]⟩:=λk Y V=>⟨Y,(by show k<=5;omega),aKx,λq=>absurd (show k=5 from q) aa⟩;have Zd:∀lo Q:Int,HL lo Q->dF.wZ ⟨5,cw,lo,Q,[]⟩:=λlo Q h=>⟨aJ0,aLq,aKx,λ_=>h⟩;refine wx ?_;refine dX (aap (oM s cw:Int)) ?_;cases Xx:(decide ((97:Int)<=(oM s cw:Int))&&decide ((oM s cw:Int)<=122)) with
 |true=>
  refine wy ?_;refine pV (n:=s.length-cw) (λm e h=>∃i:Nat,m=s.length-i/\cw<=i/\i<=cw+12/\i<=s.length/\e=[(0,bu s),(1,.v (.int .i64 (cw:Int))),(4,.mp 0 0),(8,bq i)]/\h=[.cells (iD CL) bf]) ⟨cw,rfl,aa,aa,aa,rfl,rfl⟩ ?_;rintro m e h ⟨i,rfl,Q,hi2,awg,rfl,rfl⟩;rw[aa_];refine wy ?_
  rcases en i s.length with hl|hl
  refine wx ?_;refine dX (aap (oM s i:Int)) ?_;cases sF:(decide ((97:Int)<=(oM s i:Int))&&decide ((oM s i:Int)<=122)) with
  |true=>
   refine wy ?_;refine dm (λq=>?_) λq=>?_;exact oP CL λz=>absurd z ag;have:i-cw≠12:=by intro e;rw[e] at q;cases q
   exact⟨s.length-(i+1),aa,i+1,rfl,aa,aa,aa,rfl,trivial⟩
  |false=>
   refine wx ?_;refine dX (P9 (oM s i:Int)) ?_;cases nO:(decide ((48:Int)<=(oM s i:Int))&&decide ((oM s i:Int)<=57)) with
   |true=>
    refine wy ?_;refine dm (λq=>?_) λq=>?_;exact oP CL λz=>absurd z ag;have:i-cw≠12:=by intro e;rw[e] at q;cases q
    exact⟨s.length-(i+1),aa,i+1,rfl,aa,aa,aa,rfl,trivial⟩
   |false=>
    have bR:cw<i:=by
     rcases en cw i with z|z
     exact z;have:i=cw:=aa
     subst this;rw[Xx] at sF;cases sF
    exact wx (oP ⟨1,cw,0,0,(s.take i).drop cw⟩ λ_=>⟨i,rfl,aa,aa,amh _ ah⟩)
  refine wx ?_;exact oP ⟨1,cw,0,0,(s.take i).drop cw⟩ λ_=>⟨i,rfl,aa,aa,amh _ ah⟩
 |false=>
  refine wy ?_
  repeat' ((refine cN (λq=>?_) λq=>?_)<;>(have q':=q)<;>(simp -failIfUnchanged only[p8] at q')<;>(refine Ov @f2 @f5 @f6 @fz @iM @Bk @w1 @q ?_))
  all_goals first
   |exact oP ⟨2,cw,0,0,[]⟩ λ_=>⟨cw+1,rfl,aa,aa,Zf _ ag ag⟩
   |exact oP ⟨3,cw,0,0,[]⟩ λ_=>⟨cw+1,rfl,aa,aa,Zf _ ag ag⟩
   |exact oP ⟨4,cw,0,0,[]⟩ λ_=>⟨cw+1,rfl,aa,aa,Zf _ ag ag⟩
   |exact oP ⟨5,cw,0, -1,[]⟩ λ_=>⟨cw+1,rfl,aa,aa,Zd _ _ ⟨ag,ag,bE rfl⟩⟩
   |exact oP ⟨5,cw,1, -1,[]⟩ λ_=>⟨cw+1,rfl,aa,aa,Zd _ _ ⟨ag,ag,bE rfl⟩⟩
   |exact oP ⟨5,cw,0,1,[]⟩ λ_=>⟨cw+1,rfl,aa,aa,Zd _ _ ⟨ag,ag,bF ⟨ag,ag,ag⟩⟩⟩
   |exact oP CL λz=>absurd z ag
   |(refine ei (asZ s hs cw ha) ?_
     rintro r ⟨x,p,e,rfl,I⟩;exact mw @dF.bA.eq_1 @Bk (oP x I))
def aci(n:Nat)(r:bg):Prop:=∃(v:bg) (l:List dF) (p e:Int),r=.bQ [v,.v (.int .i64 p),.v (.int .i64 e)]/\cC v (l.map mT)/\l.length<=n/\∀x∈l,x.wZ
def af5(x:dF):b7 J x.bA x.bA:=kf (bG (bH _) (bG (bH _) (bG (bH _) (bG (bH _) (bG (bH _) cX)))))
@[go_sem]def Sn(l:List dF):cZ 5 (l.map mT)=bh:=by
 rw[cZ,eP];intro x I;obtain⟨t,ht,rfl⟩:=eg.1 I;rfl
def aBp(s:List UInt8)(hs:s.length<=1000000000):dM G bC 99 [bu s] (aci s.length):=by
 refine ek (ayY.go ?_);have bad:∀(J:List br) (p e:Int),∃k bV,di J k (.bQ [.bp,.v (.int .i64 p),.v (.int .i64 e)])=a_ bV/\aci s.length bV:=λJ p e=>by
  obtain⟨k,S⟩:=(fB (bG ez (bG (bH (.int .i64 p)) (bG (bH (.int .i64 e)) cX))):b7 J _ _).done;exact⟨k,_,S,.bp,[],p,e,rfl,bF ⟨rfl,rfl⟩,af,af⟩
 refine wy ?_;refine pV (n:=s.length) (λm e h=>∃(i:Nat) (l:List dF) (bx:bg),m=s.length-i/\i<=s.length/\l.length<=i/\(∀x∈l,x.wZ)/\e=[(0,bu s),(5,bx),(6,bq i)]/\cT h bx (l.map mT) 5 193) ⟨0,[],.bp,rfl,aa,af,af,rfl,sW _ _ _⟩ ?_;rintro m e h ⟨i,l,bx,rfl,Q,hl,I,rfl,hA⟩;have ln:=Fp hA;refine wy ?_
 rcases en i s.length with hl1|hl1
 · refine wx (cN (λq=>?_) λq=>?_)
   refine wy ?_;exact⟨s.length-(i+1),aa,i+1,l,bx,rfl,aa,aa,I,rfl,hA⟩;refine wy ?_;have ext:∀b:br,cT (h++[b]) bx (l.map mT) 5 193:=λb=>by
    rcases hA with z|⟨id,b_,z2⟩
    exact bE z;exact bF ⟨id,b_,bT z2⟩
   refine dm (λbt=>?_) λbt=>?_;refine ei (arO _) ?_;rintro r ⟨b,rfl⟩;cases b
   rotate_left
   exact fc (bad _ _ _)
   all_goals
    refine wy ?_;refine ei (aCV s hs i hl1) ?_;rintro r ⟨x,p,e,rfl,axC⟩;have s1:=zu h x;unfold iQ at s1;have g1:bz (h++[bw x.cells bf]) bh 5 (.mp h.length 0)=a_ (.agg x.cells):=wm af;refine iB @dF.bA.eq_1 (cN (λbS=>?_) λbS=>?_);exact dK @bS (bad _ _ _);obtain⟨p',rfl,Y,V,h3⟩:=axC (by simpa using bS);obtain⟨cl,g,e1,fJ,_⟩:=nc (x:=x.bA) (b9:=48) (ext (.cells x.cells bf)) (Sn l) rfl ag ag ah;have ab:eV 5 [.agg x.cells]=a_ (.sl [x.bA] .exact):=rfl;refine wy ?_;refine⟨s.length-p',aa,p',l++[x],cl,rfl,aa,ah,?_,rfl,aJQ⟩;intro y hy
    rcases gj.1 hy with z|z
    exact I y z;rw[dP.1 z];exact h3
 refine wy ?_
 rcases hA with⟨rfl,z⟩|⟨id,rfl,_⟩
 exact bad _ _ _;obtain⟨k,S⟩:=(fB (bG (gU (t:=.tok id) (iC (f:=mT) (l:=l) λa _=>af5 a)) (bG (bH (.int .i64 0)) (bG (bH (.int .i64 0)) cX))):b7 h _ _).done;exact⟨k,_,S,_,l,0,0,rfl,bE rfl,aa,I⟩
end
end
section
variable{l:List dF}{i:Nat}{k:Int}
def kd(l:List dF)(i:Nat):Int:=((l[i]?).map dF.kind).getD 0
def Ej{x:dF}(h:l[i]?=a_ x):kd l i=x.kind:=by unfold kd;rw[h];rfl
def x8(k:Int):Int:=if k=2 then 1 else if k=3 then -1 else 0
def gP(l:List dF)(a:Nat):Nat->Int
 |0=>0
 |n+1=>gP l a n+x8 (kd l (a+n))
def xh(l:List dF)(a n:Nat):gP l a (n+1)=gP l a n+x8 (kd l (a+n)):=rfl
def Lt(l:List dF)(a m:Nat):∀n,gP l a (m+n)=gP l a m+gP l (a+m) n
 |0=>by simp[gP]
 |n+1=>by rw[<-n5,xh,xh,Lt l a m n,n5 a m n];omega
def aor(k:Int): -1<=x8 k/\x8 k<=1:=by unfold x8;split<;>(try split)<;>omega
def Hp(h:k=2):x8 k=1:=by unfold x8;rw[if_pos h]
def Te(h:k=3):x8 k= -1:=by unfold x8;rw[if_neg aa,if_pos h]
def Ho(h:k≠2)(h3:k≠3):x8 k=0:=by unfold x8;rw[if_neg h,if_neg h3]
def Vu(l:List dF)(a:Nat):∀n:Nat, -(n:Int)<=gP l a n/\gP l a n<=(n:Int)
 |0=>by simp[gP]
 |n+1=>by
  have h:=Vu l a n;have V:=aor (kd l (a+n));rw[xh];omega
structure vq(l:List dF):Prop where
 first:0<l.length->kd l 0=1\/kd l 0=2
 Sk:∀i,i<l.length->(kd l i=2\/kd l i=4)->i+1<l.length/\(kd l (i+1)=1\/kd l (i+1)=2)
 cnt:∀i,i<l.length->kd l i=5->0<i/\(kd l (i-1)=1\/kd l (i-1)=3)
 low:∀n,n<=l.length->0<=gP l 0 n
 shut:gP l 0 l.length=0
structure mH(l:List dF)(a b:Nat):Prop where
 lt:a<b
 le:b<=l.length
 hd:kd l a=1\/kd l a=2
 atq:kd l (b-1)≠2
 Ly:kd l (b-1)≠4
 low:∀n,a+n<=b->0<=gP l a n
 shut:gP l a (b-a)=0
def at0(p:Nat->Prop):∀N:Nat,p N->∃n,n<=N/\p n/\∀t,t<n->¬p t:=by
 intro N
 induction N using Nat.strongRecOn with
 |_ N ih=>
  intro h;by_cases I:∃t,t<N/\p t;obtain⟨t,Y,V⟩:=I;obtain⟨n,g1,g2,g3⟩:=ih t Y V;exact⟨n,aa,g2,g3⟩;exact⟨N,cj _,h,λt ht J=>I ⟨t,ht,J⟩⟩
def vq.all(h:vq l)(S:∀i,i<l.length->1<=kd l i/\kd l i<=5)(h0:0<l.length):mH l 0 l.length:=by
 have hl:=h.Sk (l.length-1) aa;refine⟨h0,cj _,h.first h0,λe=>?_,λe=>?_,λn hn=>h.low n aa,by rw[E8];exact h.shut⟩;have:=(hl (bE e)).1;omega;have:=(hl (bF e)).1;omega
def jV(l:List dF)(a i:Nat):Prop:=gP l a (i-a)=0
def zW(l:List dF)(a b:Nat):Prop:=∀t,a<=t->t<b->jV l a t->kd l t≠4
def C4(l:List dF)(a b:Nat):Prop:=∀t,a<t->t<b->jV l a t->kd l t≠1/\kd l t≠2
section
variable{l:List dF}{a b:Nat}
def jV.succ(h:jV l a i)(ha:a<=i)(V:kd l i≠2)(h3:kd l i≠3):jV l a (i+1):=by
 unfold jV at*;rw[show i+1-a=(i-a)+1 by omega,xh,h,show a+(i-a)=i by omega,Ho V h3];rfl
def mH.Eu(h:mH l a b)(ha:a<=i)(O:i<b)(ht:jV l a i):kd l i≠3:=by
 intro e;have:=h.low (i-a+1) aa;unfold jV at ht;rw[xh,ht,show a+(i-a)=i by omega,Te e] at this;omega
def mH.skip(h:mH l a b){n:Nat}(ha:a<=i)(O:i<b)(ht:jV l a i)(V:kd l i=2)(hz:i+n<l.length->gP l i (n+1)=0)(hn:∀t,t<n->gP l i (t+1)≠0):
  i+n<b/\jV l a (i+n+1)/\∀t,i<t->t<=i+n->¬jV l a t:=by
 have e1:gP l i (b-i)=0:=by
  have:=Lt l a (i-a) (b-i);rw[show i-a+(b-i)=b-a by omega,h.shut,show a+(i-a)=i by omega] at this;unfold jV at ht;omega
 have cQ:i+n<b:=by
  rcases en (i+n) b with z|z
  exact z;exact absurd (by rw[show b-i-1+1=b-i by omega];exact e1) (hn (b-i-1) aa)
 have hd:=λt=>Lt l a (i-a) t;have bK:=h.le;refine⟨cQ,?_,λt Y h3 hq=>?_⟩;unfold jV at*;rw[show i+n+1-a=i-a+(n+1) by omega,hd,ht,show a+(i-a)=i by omega,hz aa];rfl;unfold jV at*;rw[show t-a=i-a+(t-i-1+1) by omega,hd,ht,show a+(i-a)=i by omega] at hq;exact hn (t-i-1) aa aa
def mH.piece(h:mH l a b){c:Nat}(IM:a<=c)(WQ:c<i)(W8:i<=b)(T:jV l a c)(Q:jV l a i)(S:kd l c=1\/kd l c=2)(V:kd l (i-1)≠2)(h4:kd l (i-1)≠4):mH l c i:=by
 have e:∀n,gP l c n=gP l a (c-a+n):=λn=>by
  have:=Lt l a (c-a) n;rw[show a+(c-a)=c by omega] at this;unfold jV at T;omega
 have bK:=h.le;refine⟨WQ,aa,S,V,h4,λn hn=>?_,?_⟩;rw[e];exact h.low _ aa;rw[e,show c-a+(i-c)=i-a by omega];exact Q
def vq.prev(w:vq l)(Q:0<i)(hl:i<l.length)(Y:kd l i≠1)(V:kd l i≠2):kd l (i-1)≠2/\kd l (i-1)≠4:=by
 have:=w.Sk (i-1) aa;rw[show i-1+1=i by omega] at this;exact⟨λe=>by have:=this (bE e);omega,λe=>by have:=this (bF e);omega⟩
def mH.aGN(h:mH l a b)(w:vq l)(h5:kd l (b-1)=5):mH l a (b-1):=by
 have cQ:=h.lt;have bK:=h.le;have hd:=h.hd;have hab:a≠b-1:=by intro e;rw[<-e] at h5;omega
 obtain⟨p1,p2⟩:=w.prev (i:=b-1) aa aa aa aa;refine⟨aa,aa,h.hd,p1,p2,λn hn=>h.low n aa,?_⟩;have:=h.shut;rw[show b-a=b-1-a+1 by omega,xh,show a+(b-1-a)=b-1 by omega,Ho aa aa] at this;omega
def mH.inner(h:mH l a b)(w:vq l)(S:∀i,i<l.length->1<=kd l i/\kd l i<=5)(nb:zW l a b)(ns:C4 l a b)(V:kd l a=2)(h5:kd l (b-1)≠5):mH l (a+1) (b-1):=by
 have cQ:=h.lt;have bK:=h.le;obtain⟨n,n1,n2,oY⟩:=at0 (λn=>gP l a (n+1)=0) (b-a-1) (by show gP l a (b-a-1+1)=0;rw[show b-a-1+1=b-a by omega];exact h.shut);have n0:n≠0:=by
  intro e;subst e;have:gP l a 1=1:=by rw[xh,vc,Hp V];rfl
  have q:gP l a 1=0:=n2;omega
 have av2:a+n=b-1:=by
  rcases en (a+n) (b-1) with z|z
  have are:∀k,a+n+1+k<b->jV l a (a+n+1+k)/\kd l (a+n+1+k)=5:=by
   intro k
   induction k with
   |zero=>
    intro gR;have ht:jV l a (a+n+1+0):=by
     unfold jV;rw[show a+n+1+0-a=n+1 by omega];exact n2
    have:=h.Eu aa gR ht;have:=nb _ aa gR ht;have:=ns _ aa gR ht;have:=S (a+n+1+0) aa;exact⟨ht,aa⟩
   |succ k ih=>
    intro gR;obtain⟨t1,t2⟩:=ih aa;have ht:jV l a (a+n+1+(k+1)):=t1.succ aa aa aa;have:=h.Eu aa gR ht;have:=nb _ aa gR ht;have:=ns _ aa gR ht;have:=S (a+n+1+(k+1)) aa;exact⟨ht,aa⟩
  have:=(are (b-1-(a+n+1)) aa).2;rw[show a+n+1+(b-1-(a+n+1))=b-1 by omega] at this;exact absurd this h5;omega
 have pos:∀t,t<n->1<=gP l a (t+1):=λt ht=>by
  have:=oY t ht;have:=h.low (t+1) aa;omega
 have pQ:gP l a n=1/\kd l (b-1)=3:=by
  have e:=n2;rw[xh,av2] at e;have p:=pos (n-1) aa;rw[show n-1+1=n by omega] at p;have s:=aor (kd l (b-1));refine⟨aa,?_⟩;by_cases q:kd l (b-1)=2;rw[Hp q] at e;omega;by_cases bS:kd l (b-1)=3;exact bS;rw[Ho q bS] at e;omega
 have e:∀n,gP l (a+1) n=gP l a (n+1)-1:=λn=>by
  have:=Lt l a 1 n;have q:gP l a 1=1:=by rw[xh,vc,Hp V];rfl
  rw[Nat.add_comm 1 n] at this;omega
 have fE:=(w.Sk a aa (bE V)).2;have bR:a+1≠b-1:=by intro e;rw[e,pQ.2] at fE;omega
 obtain⟨p1,p2⟩:=w.prev (i:=b-1) aa aa (by rw[pQ.2];decide) (by rw[pQ.2];decide);refine⟨aa,aa,fE,p1,p2,λt ht=>?_,?_⟩;rw[e];have:=pos t aa;omega;rw[e,show b-1-(a+1)+1=n by omega,pQ.1];rfl
end
structure Ug(l:List dF)(a b e:Nat)(Z:List Nat):Prop where
 j6:∀x∈Z,a<=x/\x<=b
 two:2<=Z.length
 seg:∀k x y,Z[k]?=a_ x->Z[k+1]?=a_ y->k+2<Z.length->mH l x (y-e)/\e<=y/\y-e-x<b-a
 fin:∀k x y,Z[k]?=a_ x->Z[k+1]?=a_ y->k+2=Z.length->mH l x y/\(2<Z.length->y-x<b-a)
structure r0(l:List dF)(a b e i:Nat)(Z:List Nat)(c:Nat):Prop where
 j6:∀x∈Z,a<=x/\x<=b
 last:Z[Z.length-1]?=a_ c
 ne:0<Z.length
 ac:a<=c
 ci:c<=i
 cb:c<b
 cn:Z.length<=i+1
 S:kd l c=1\/kd l c=2
 zA:jV l a c
 ti:jV l a i
 fst:1<Z.length->a<c
 seg:∀k x y,Z[k]?=a_ x->Z[k+1]?=a_ y->mH l x (y-e)/\e<=y/\y-e-x<b-a
section
variable{l:List dF}{a b e i c:Nat}{Z:List Nat}
def r0.push(h:r0 l a b e i Z c){y:Nat}(D:mH l c (y-e))(he:e<=y)(hs:y-e-c<b-a)(hy:a<y)(Ru:y<=i+1)(Rr:y<b)(S:kd l y=1\/kd l y=2)(ty:jV l a y)(j:Nat)(hj:i+1<=j)(Oc:jV l a j):r0 l a b e j (Z++[y]) y:=by
 have hl:=h.ne;have AH:=h.cn;have cQ:=D.lt;refine⟨λx I=>by
  rcases gj.1 I with z|z
  exact h.j6 x z;rw[dP.1 z];omega,af,af,aa,aa,Rr,ah,S,ty,Oc,λ_=>hy,?_⟩
 intro k x z Y V;rw[abJ] at Y V;split at V;rename_i q;rw[if_pos aa] at Y;exact h.seg k x z Y V;rename_i q;have hk2:k+1=Z.length:=by
  rcases en (k+1-Z.length) 1 with w|w
  omega;rw[jU ah] at V;cases V
 rw[hk2,mU] at V;rw[if_pos aa,show k=Z.length-1 by omega,h.last] at Y;cases Y;have:y=z:=aG
 subst this;exact⟨D,he,hs⟩
def r0.skip(h:r0 l a b e i Z c){j:Nat}(hj:i<=j)(Oc:jV l a j):r0 l a b e j Z c:=by
 have:=h.ci;have:=h.cn;exact⟨h.j6,h.last,h.ne,h.ac,aa,h.cb,aa,h.S,h.zA,Oc,h.fst,h.seg⟩
def r0.done(h:r0 l a b e b Z c)(R:mH l a b):Ug l a b e (Z++[b]):=by
 have hl:=h.ne;have WN:=h.cb;have IM:=h.ac;have D:mH l c b:=R.piece h.ac h.cb (cj _) h.zA R.shut h.S R.atq R.Ly;refine⟨λx I=>by
  rcases gj.1 I with z|z
  exact h.j6 x z;rw[dP.1 z];omega,ah,?_,?_⟩
 intro k x z Y V h3;rw[ec,pZ] at h3;rw[abJ,if_pos aa] at Y V;exact h.seg k x z Y V;intro k x z Y V h3;rw[ec,pZ] at h3;rw[abJ,if_pos aa] at Y;rw[abJ,if_neg aa] at V;rw[show k=Z.length-1 by omega,h.last] at Y;cases Y;rw[show k+1-Z.length=0 by omega] at V;have:b=z:=aG
 subst this;refine⟨D,λq=>?_⟩;have:=h.fst aq;omega
def r0.start(R:mH l a b):r0 l a b e a [a] a:=by
 have t0:jV l a a:=by unfold jV;rw[mU];rfl
 have:=R.lt;refine⟨λx I=>by rw[dP.1 I];omega,rfl,af,cj _,cj _,R.lt,af,R.hd,t0,t0,λq=>by simp at q,?_⟩;intro k x y Y V;rw[jU af] at V;cases V
end
end
section
variable{l:List dF}{J:List br}{a b:Nat}
def Fe(l:List dF)(i:Nat):Prop:=i=0\/kd l (i-1)=2\/kd l (i-1)=4
def KG(l:List dF)(i:Nat):Prop:=i=0\/(kd l (i-1)≠1/\kd l (i-1)≠3)
structure OX(l:List dF)(i:Nat):Prop where
 low:∀n,n<=i->0<=gP l 0 n
 fr:∀j,j<i->Fe l j->kd l j=1\/kd l j=2
 fl:∀j,j<i->kd l j=5->¬KG l j
def OX.CE(h:OX l l.length)(Y:0<l.length->¬Fe l l.length)(V:gP l 0 l.length<=0):vq l:=by
 refine⟨λh0=>h.fr 0 h0 (bE rfl),λi Q S=>?_,λi Q S=>?_,h.low,?_⟩;have f:Fe l (i+1):=by
  unfold Fe;rw[T8];exact bF S
 rcases en (i+1) l.length with z|z
 exact⟨z,h.fr _ z f⟩;rw[show i+1=l.length by omega] at f;exact absurd f (Y aa);have:=h.fl i Q S;unfold KG at this;refine⟨?_,?_⟩
 rcases CV i with z|z
 exact absurd (bE z) this;exact z;by_cases q1:kd l (i-1)=1;exact bE q1;by_cases bS:kd l (i-1)=3;exact bF bS;exact absurd (bF ⟨q1,bS⟩) this;have:=h.low l.length (cj _);omega
def ab2(l:List dF)(r:bg):Prop:=∃(p:Int) (b:Bool),r=.bQ [.v (.int .i64 p),.v (.bool b)]/\((p= -1/\(b=bf->vq l))\/∃i:Nat,p=(i:Int)/\i<l.length)
def afy{p:Int}{b:Bool}(h:(p= -1/\(b=bf->vq l))\/∃i:Nat,p=(i:Int)/\i<l.length):∃k bV,di J k (.bQ [.v (.int .i64 p),.v (.bool b)])=a_ bV/\ab2 l bV:=by
 obtain⟨k,S⟩:=(fB (bG (bH (.int .i64 p)) (bG (bH (.bool b)) cX)):b7 J _ _).done;exact⟨k,_,S,p,b,rfl,h⟩
@[go_sem]def rJ(x:dF)(J:List br):bz J bf 1 (.fp x.cells 0)=a_ (.v (.int .i64 x.kind)):=rfl
def acI(l:List dF)(i:Nat)(r:bg):Prop:=∃n:Nat,r=.v (.int .i64 ((i+n:Nat):Int))/\i+n<=l.length/\(i+n<l.length->gP l i (n+1)=0)/\∀t,t<n->gP l i (t+1)≠0
def Qo{i n:Nat}(h:i+n<=l.length/\(i+n<l.length->gP l i (n+1)=0)/\∀t,t<n->gP l i (t+1)≠0):∃k bV,di J k (.v (.int .i64 ((i+n:Nat):Int)))=a_ bV/\acI l i bV:=by
 obtain⟨k,S⟩:=(bH (.int .i64 ((i+n:Nat):Int)):b7 J _ _).done;exact⟨k,_,S,n,rfl,h⟩
def ov(Z:List Nat):List bg:=Z.map λc:Nat=>cI (.int .i64 (c:Int))
@[go_sem]def ND(Z:List Nat):cZ 1 (ov Z)=bh:=by
 rw[cZ,eP];intro x I;obtain⟨t,ht,rfl⟩:=eg.1 I;rfl
def OZ(l:List dF)(a b e:Nat)(X:Prop)(r:bg):Prop:=∃Z:List Nat,r=.sl (ov Z) .no/\Ug l a b e Z/\Z.length<=l.length+2/\(Z.length=2->X)
def amx{v:bg}{e:Nat}{X:Prop}{Z:List Nat}(h:mG 0 J v (ov Z) 1 3)(Y:Ug l a b e Z)(V:Z.length<=l.length+2)(h3:Z.length=2->X):∃k bV,di J k v=a_ bV/\OZ l a b e X bV:=by
 rcases h with rfl|⟨id,rfl,_⟩
 obtain⟨n,hn⟩:=(gU (t:=.exact) (iC (f:=λc:Nat=>cI (.int .i64 (c:Int))) (l:=Z) λa _=>bH _):b7 J _ _).done;exact⟨n,_,hn,Z,rfl,Y,V,h3⟩;obtain⟨n,hn⟩:=(gU (t:=.tok id) (iC (f:=λc:Nat=>cI (.int .i64 (c:Int))) (l:=Z) λa _=>bH _):b7 J _ _).done;exact⟨n,_,hn,Z,rfl,Y,V,h3⟩
section
variable{G:Cells}{v:bg}{l:List dF}
def asl(hv:cC v (l.map mT))(hl:l.length<=1000000000):dM G bC 100 [v] (ab2 l):=by
 refine ek (ayZ.go ?_);have ln:=hv.cH;rw[cM] at ln;have lQ:∀J,cH v J=a_ (.v (.int .i64 (l.length:Int)),J):=λJ=>aJT
 refine fF ?_;refine dj (λi e h=>∃(d:Int) (f g:Bool),e=[(0,v),(4,.v (.int .i64 d)),(5,.v (.bool f)),(6,.v (.bool g)),(7,bq i)]/\d=gP l 0 i/\(f=bh↔Fe l i)/\(g=bh↔KG l i)/\OX l i/\h=[]) l.length ⟨0,bh,bh,rfl,rfl,⟨λ_=>bE rfl,λ_=>rfl⟩,⟨λ_=>bE rfl,λ_=>rfl⟩,⟨λn hn=>by rw[show n=0 by omega];exact CS _,λj hj=>aa,λj hj=>aa⟩,rfl⟩ ?_ ?_
 · rintro i e h Q ⟨d,f,g,rfl,hd,hf,hg,hC,rfl⟩
   obtain⟨x,I⟩:=dQ Q;have e1:ct 5 v (.v (.int .i64 (i:Int)))=a_ (.fp x.cells 0):=hv.cE (x:=x.bA) aA rfl;have S:=Ej I;have hab:=Vu l 0 i;rw[<-hd] at hab;have WS:0<=d:=by rw[hd];exact hC.low i (cj _)
   have dh:=xh l 0 i;rw[gk,S,<-hd] at dh;have d2:x.kind=2->de.wrap (d+1)=gP l 0 (i+1):=λq=>by rw[dh,Hp q,fO aa aa]
   have d3:x.kind=3->de.wrap (d-1)=gP l 0 (i+1):=λq=>by rw[dh,Te q,fO aa aa];rfl
   have d0:x.kind≠2->x.kind≠3->d=gP l 0 (i+1):=λq bS=>by rw[dh,Ho q bS];omega
   have BU:Fe l (i+1)↔x.kind=2\/x.kind=4:=by unfold Fe;rw[T8,S];simp
   have vM:KG l (i+1)↔x.kind≠1/\x.kind≠3:=by unfold KG;rw[T8,S];simp
   have step:(x.kind=3->d≠0)->(f=bh->x.kind=1\/x.kind=2)->(x.kind=5->g=bf)->OX l (i+1):=λY V h3=>by
    refine⟨λn hn=>?_,λj hj q=>?_,λj hj q=>?_⟩
    rcases en n (i+1) with z|z
    exact hC.low n aa;rw[show n=i+1 by omega,dh];by_cases bt:x.kind=2;rw[Hp bt];omega;by_cases bS:x.kind=3;have:=Y bS;rw[Te bS];omega;rw[Ho bt bS];omega
    rcases en j i with z|z
    exact hC.fr j z q;obtain rfl:j=i:=aa
    rw[S];exact V (hf.2 q)
    rcases en j i with z|z
    exact hC.fl j z q;obtain rfl:j=i:=aa
    rw[S] at q;intro bt;have:=hg.2 bt;rw[h3 q] at this;cases this
   cases f<;>cases g
   all_goals
    refine qx @bq.eq_1 @lQ @e1 @z7 @rJ ?_
    repeat' ((refine cN (λq=>?_) λq=>?_)<;>(have q':=q)<;>(simp -failIfUnchanged only[p8] at q')<;>(refine e5 @q ?_))
   all_goals first
    |(exfalso;omega)
    |exact afy (bF ⟨i,rfl,Q⟩)
    |exact⟨_,_,_,rfl,d2 aa,aLO,aLP,step (λ_=>aa) (λq=>aKZ) (λ_=>aK_),trivial⟩
    |exact⟨_,_,_,rfl,d3 aa,aLO,aLP,step (λ_=>aa) (λq=>aKZ) (λ_=>aK_),trivial⟩
    |exact⟨_,_,_,rfl,d0 aa aa,aLO,aLP,step (λ_=>aa) (λq=>aKZ) (λ_=>aK_),trivial⟩
 · rintro e h ⟨d,f,g,rfl,hd,hf,hg,hC,rfl⟩
   refine wy ?_;cases f
   all_goals repeat' refine ba (λq'=>?_) λq'=>?_
   all_goals
    exact afy (bE ⟨rfl,λe=>by
     first
      |(cases e;done)
      |exact hC.CE (λq=>aa) (by rw[show l.length=0 by omega];exact CS _)
      |exact hC.CE (λq z=>by cases(hf.2 z)) (by rw[<-hd];simp at e;omega)⟩)
def anU(hv:cC v (l.map mT))(hl:l.length<=1000000000)(i0:Nat)(xy:i0<=l.length):dM G bC 240 [v,.v (.int .i64 (i0:Int))] (acI l i0):=by
 refine ek (azL.go ?_);have ln:=hv.cH;rw[cM] at ln;have lQ:∀J,cH v J=a_ (.v (.int .i64 (l.length:Int)),J):=λJ=>aJT
 refine wy ?_;refine dj (λn e h=>∃d:Int,e=[(0,v),(5,.v (.int .i64 d)),(6,.v (.int .i64 ((i0+n:Nat):Int)))]/\d=gP l i0 n/\(∀t,t<n->gP l i0 (t+1)≠0)/\h=[]) (l.length-i0) ⟨0,rfl,rfl,λt ht=>aa,rfl⟩ ?_ ?_;rintro n e h hn ⟨d,rfl,hd,hI,rfl⟩;obtain⟨x,I⟩:∃x,l[i0+n]?=a_ x:=⟨l[i0+n],cz aa⟩;have e1:ct 5 v (.v (.int .i64 ((i0+n:Nat):Int)))=a_ (.fp x.cells 0):=hv.cE (x:=x.bA) aA rfl;have S:=Ej I;have hab:=Vu l i0 n;rw[<-hd] at hab;have dh:=xh l i0 n;rw[S,<-hd] at dh;have d2:x.kind=2->de.wrap (d+1)=gP l i0 (n+1):=λq=>by rw[dh,Hp q,fO aa aa]
 have d3:x.kind=3->de.wrap (d-1)=gP l i0 (n+1):=λq=>by rw[dh,Te q,fO aa aa];rfl
 have d0:x.kind≠2->x.kind≠3->d=gP l i0 (n+1):=λq bS=>by rw[dh,Ho q bS];omega
 have fE:de.wrap (((i0+n:Nat):Int)+1)=((i0+(n+1):Nat):Int):=by rw[nx aa];rfl
 have Vq:gP l i0 (n+1)≠0->∀t,t<n+1->gP l i0 (t+1)≠0:=λq t ht=>by
  rcases en t n with z|z
  exact hI t z;rw[show t=n by omega];exact q
 have GJ:decide (((i0+n:Nat):Int)<(l.length:Int))=bh:=ah
 by_cases bt:x.kind=2;have:=d2 bt;refine u7 @lQ @GJ @e1 @rJ @bt @this ?_;refine dm (λq=>?_) λq=>?_;exact Qo ⟨aa,λ_=>ak,hI⟩;refine dK @fE ?_;exact⟨_,rfl,rfl,Vq ak,trivial⟩;have n2:(x.kind==2)=bf:=aW
 by_cases bS:x.kind=3;have:=d3 bS;refine u7 @lQ @GJ @e1 @rJ @bS @this ?_;refine dm (λq=>?_) λq=>?_;exact Qo ⟨aa,λ_=>ak,hI⟩;refine dK @fE ?_;exact⟨_,rfl,rfl,Vq ak,trivial⟩;have oY:(x.kind==3)=bf:=by simpa using bS
 have:=d0 bt bS;refine u7 @lQ @GJ @e1 @rJ @n2 @oY ?_;refine dm (λq=>?_) λq=>?_;exact Qo ⟨aa,λ_=>by rw[<-this];simpa using q,hI⟩;refine dK @fE ?_;exact⟨_,rfl,this,Vq (by rw[<-this];simpa using q),trivial⟩;rintro e h ⟨d,rfl,hd,hI,rfl⟩;refine wy ?_;have:=Qo (J:=[]) (l:=l) (i:=i0) (n:=l.length-i0) ⟨aa,λq=>aa,hI⟩;rw[show i0+(l.length-i0)=l.length by omega] at this;exact this
def arN(hv:cC v (l.map mT))(T:eM v)(hl:l.length<=1000000000)(w:vq l)(R:mH l a b):dM G bC 176 [v,.v (.int .i64 (a:Int)),.v (.int .i64 (b:Int)),.v (.int .i64 3)] (OZ l a b 1 (zW l a b)):=by
 refine ek (ajk.go ?_);have bK:=R.le;have cQ:=R.lt;refine rW ?_;refine pV (n:=b-a) (λm e h=>∃(i c:Nat) (Z:List Nat) (bx:bg),m=b-i/\i<=b/\e=[(0,v),(1,.v (.int .i64 (a:Int))),(2,.v (.int .i64 (b:Int))),(3,.v (.int .i64 3)),(9,bx),(10,.v (.int .i64 (i:Int)))]/\r0 l a b 1 i Z c/\(Z.length=1->zW l a i)/\mG 0 h bx (ov Z) 1 3) ⟨a,a,[a],_,rfl,aa,rfl,r0.start R,λ_ t Y V=>aa,bE rfl⟩ ?_;rintro m e h ⟨i,c,Z,bx,rfl,W8,rfl,hI,hN,hA⟩
 rcases en i b with Q|Q
 obtain⟨x,I⟩:∃x,l[i]?=a_ x:=⟨l[i],cz aa⟩;have e1:ct 5 v (.v (.int .i64 (i:Int)))=a_ (.fp x.cells 0):=hv.cE (x:=x.bA) aA rfl;have S:=Ej I;have IM:=hI.ac;have WQ:=hI.ci;have AH:=hI.cn;have Eu:=R.Eu aa Q hI.ti;have ext:∀j,i<=j->(∀t,i<=t->t<j->jV l a t->kd l t≠4)->Z.length=1->zW l a j:=λj hj Y V t t1 t2 t3=>by
  rcases en t i with z|z
  exact hN V t t1 z t3;exact Y t z t2 t3
 by_cases fk:x.kind=4;have ir:kd l i=4:=by rw[S,fk]
 have aIt:c≠i:=by intro e;have:=hI.S;rw[e,ir] at this;omega
 obtain⟨p1,p2⟩:=w.prev (i:=i) aa aa aa aa;have pc:=R.piece IM aa (by omega:i<=b) hI.zA hI.ti hI.S p1 p2;obtain⟨_,fE⟩:=w.Sk i aa (bF ir);have awh:i+1<b:=by
  rcases en (i+1) b with z|z
  exact z;have:=R.Ly;rw[show b-1=i by omega] at this;exact absurd ir this
 have ty:=hI.ti.succ aa aa aa;have P:=hI.push (y:=i+1) (by rw[T8];exact pc) aa aa aa aa awh fE ty (i+1) (cj _) ty;obtain⟨cl,g,e2,fJ,_⟩:=GX (x:=.v (.int .i64 ((i+1:Nat):Int))) (b9:=8) hA (js _) (ND Z) rfl ag ag aLH;refine CG @e1 @z7 @rJ @fk @z6 @e2 ?_;exact⟨b-(i+1),aa,i+1,i+1,Z++[i+1],cl,rfl,aa,rfl,P,λz=>aKl,aJP⟩;have n4:(x.kind==4)=bf:=aKv
 by_cases bt:x.kind=2;have k2:kd l i=2:=by rw[S,bt]
 refine sU @rJ ?_;refine ei (anU hv hl i aa) ?_;rintro r ⟨n,rfl,Y,V,h3⟩;obtain⟨s1,s2,eU⟩:=R.skip aa Q hI.ti k2 V h3;refine wy ?_;refine⟨b-(i+n+1),aa,i+n+1,c,Z,bx,rfl,aa,rfl,hI.skip aa s2,ext _ aa λt t1 t2 t3=>?_,hA⟩
 rcases en i t with z|z
 exact absurd t3 (eU t z aa);rw[show t=i by omega,k2];decide;have n2:(x.kind==2)=bf:=aW
 refine qx @e1 @z7 @rJ @n4 @n2 ?_;refine⟨b-(i+1),aa,i+1,c,Z,bx,rfl,aa,rfl,hI.skip aa (hI.ti.succ aa (by rw[S];exact bt) Eu),ext _ aa λt t1 t2 t3=>?_,hA⟩;rw[show t=i by omega,S];exact fk;obtain rfl:i=b:=aa
 have AH:=hI.cn;obtain⟨cl,g,e2,fJ,_⟩:=GX (x:=.v (.int .i64 (i:Int))) (b9:=8) hA (js _) (ND Z) rfl ag ag aLH;exact wy (amx (Z:=Z++[i]) aJP (hI.done R) ah λz=>hN aN)
def aEW(hv:cC v (l.map mT))(T:eM v)(hl:l.length<=1000000000)(w:vq l)(R:mH l a b)(nb:zW l a b):dM G bC 176 [v,.v (.int .i64 (a:Int)),.v (.int .i64 (b:Int)),.v (.int .i64 2)] (OZ l a b 0 (C4 l a b)):=by
 refine ek (ajk.go ?_);have bK:=R.le;have cQ:=R.lt;refine wy ?_;refine pV (n:=b-a) (λm e h=>∃(i c:Nat) (Z:List Nat) (bx:bg),m=b-i/\i<=b/\e=[(0,v),(1,.v (.int .i64 (a:Int))),(2,.v (.int .i64 (b:Int))),(3,.v (.int .i64 2)),(9,bx),(10,.v (.int .i64 (i:Int)))]/\r0 l a b 0 i Z c/\(c<i\/i=a)/\(Z.length=1->C4 l a i)/\mG 0 h bx (ov Z) 1 3) ⟨a,a,[a],_,rfl,aa,rfl,r0.start R,bF rfl,λ_ t Y V=>aa,bE rfl⟩ ?_;rintro m e h ⟨i,c,Z,bx,rfl,W8,rfl,hI,aIu,hN,hA⟩
 rcases en i b with Q|Q
 obtain⟨x,I⟩:∃x,l[i]?=a_ x:=⟨l[i],cz aa⟩;have e1:ct 5 v (.v (.int .i64 (i:Int)))=a_ (.fp x.cells 0):=hv.cE (x:=x.bA) aA rfl;have S:=Ej I;have IM:=hI.ac;have WQ:=hI.ci;have AH:=hI.cn;have Eu:=R.Eu aa Q hI.ti;have ext:∀j,i<=j->(∀t,a<t->i<=t->t<j->jV l a t->kd l t≠1/\kd l t≠2)->Z.length=1->C4 l a j:=λj hj Y V t t1 t2 t3=>by
  rcases en t i with z|z
  exact hN V t t1 z t3;exact Y t t1 z t2 t3
 have cut:a<i->(kd l i=1\/kd l i=2)->∀j,i+1<=j->jV l a j->r0 l a b 0 j (Z++[i]) i:=λY V j hj Oc=>by
  have pr:jV l a (i-1)->kd l (i-1)≠4:=λq=>nb _ aa aa q;have dr:gP l a (i-a)=gP l a (i-1-a)+x8 (kd l (i-1)):=by
   rw[show i-a=i-1-a+1 by omega,xh,show a+(i-1-a)=i-1 by omega]
  have ti:=hI.ti;unfold jV at ti pr;have p2:kd l (i-1)≠2:=λq=>by
   rw[Hp q] at dr;have:=R.low (i-1-a) aa;omega
  have jd:kd l (i-1)≠4:=λq=>by
   rw[Ho aa aa] at dr;exact pr aa q
  exact hI.push (y:=i) (R.piece IM aa W8 hI.zA hI.ti hI.S p2 jd) (js _) aa Y aa Q V hI.ti j hj Oc
 have anG:=anU (G:=G) hv hl i aa;obtain⟨cl,g,e2,fJ,_⟩:=GX (x:=.v (.int .i64 (i:Int))) (b9:=8) hA (js _) (ND Z) rfl ag ag aLH;have rA:mG 0 g cl (ov (Z++[i])) 1 3:=aJP
 by_cases bt:x.kind=2;have k2:kd l i=2:=by rw[S,bt]
 rcases en a i with hai|hai
 refine iB @rJ ?_;refine ei anG ?_;rintro r ⟨n,rfl,Y,V,h3⟩;obtain⟨s1,s2,eU⟩:=R.skip aa Q hI.ti k2 V h3;refine wy ?_;exact⟨b-(i+n+1),aa,i+n+1,i,Z++[i],cl,rfl,aa,rfl,cut hai (bF k2) _ aa s2,bE aa,λz=>aKl,rA⟩;refine CI @rJ ?_;refine ei anG ?_;rintro r ⟨n,rfl,Y,V,h3⟩;obtain⟨s1,s2,eU⟩:=R.skip aa Q hI.ti k2 V h3;refine rW ?_;refine⟨b-(i+n+1),aa,i+n+1,c,Z,bx,rfl,aa,rfl,hI.skip aa s2,bE aa,ext _ aa λt t0 t1 t2 t3=>?_,hA⟩;exact absurd t3 (eU t aa aa);have n2:(x.kind==2)=bf:=aW
 have ts:=hI.ti.succ aa (by rw[S];exact bt) Eu;by_cases q1:x.kind=1;have k1:kd l i=1:=by rw[S,q1]
 rcases en a i with hai|hai
 have F0:decide ((a:Int)<(i:Int))=bh:=vA hai;refine o6 @e1 @z7 @rJ @q1 @F0 @z6 @e2 ?_;exact⟨b-(i+1),aa,i+1,i,Z++[i],cl,rfl,aa,rfl,cut hai (bE k1) _ aa ts,bE aa,λz=>aKl,rA⟩;have F0:decide ((a:Int)<(i:Int))=bf:=yR hai;refine qx @e1 @z7 @rJ @q1 @F0 ?_;exact⟨b-(i+1),aa,i+1,c,Z,bx,rfl,aa,rfl,hI.skip aa ts,bE aa,ext _ aa λt t0 t1 t2 t3=>aa,hA⟩;have n1:(x.kind==1)=bf:=aKr
 have fin:∃m,m<b-i/\∃(i' c:Nat) (Z:List Nat) (jo:bg),m=b-i'/\i'<=b/\[(0,v),(1,cI (.int .i64 (a:Int))),(2,cI (.int .i64 (b:Int))),(3,cI (.int .i64 2)),(9,bx),(10,cI (.int .i64 ((i+1:Nat):Int)))]=[(0,v),(1,cI (.int .i64 (a:Int))),(2,cI (.int .i64 (b:Int))),(3,cI (.int .i64 2)),(9,jo),(10,cI (.int .i64 (i':Int)))]/\r0 l a b 0 i' Z c/\(c<i'\/i'=a)/\(Z.length=1->C4 l a i')/\mG 0 h jo (ov Z) 1 3:=
  ⟨b-(i+1),aa,i+1,c,Z,bx,rfl,aa,rfl,hI.skip aa ts,bE aa,ext _ aa λt t0 t1 t2 t3=>by rw[show t=i by omega,S];exact⟨q1,bt⟩,hA⟩
 rcases en a i with hai|hai
 have F0:decide ((a:Int)<(i:Int))=bh:=vA hai;exact pW @e1 @rJ @n1 @n2 @F0 fin;have F0:decide ((a:Int)<(i:Int))=bf:=yR hai;exact pW @e1 @rJ @n1 @n2 @F0 fin;obtain rfl:i=b:=aa
 have AH:=hI.cn;obtain⟨cl,g,e2,fJ,_⟩:=GX (x:=.v (.int .i64 (i:Int))) (b9:=8) hA (js _) (ND Z) rfl ag ag aLH;exact wy (amx (Z:=Z++[i]) aJP (hI.done R) ah λz=>hN aN)
end
end
section
variable{ps:List cP}{p:cP}{a b c d v x:bg}{g J:List br}{K:Nat}
def cP.wZ(i:Nat)(p:cP):Prop:=((p.kind=1/\p.name.length<=12/\p.kids=[])\/((p.kind=2\/p.kind=3)/\2<=p.kids.length)\/(p.kind=4/\p.kids.length=1/\HL p.low p.high))/\∀x∈p.kids,0<=x/\x<(i:Int)
def yA(ps:List cP):Prop:=∀(i:Nat) p,ps[i]?=a_ p->p.wZ i
def yA.push(h:yA ps)(J:p.wZ ps.length):yA (ps++[p]):=by
 intro i q hq
 rcases Nat.lt_trichotomy i ps.length with c|c|c
 rw[fT c] at hq;exact h i q hq;subst c;simp at hq;rw[<-hq];exact J;rw[jU ah] at hq;cases hq
def aDs(h:yA ps):yA (ps.map cP.cB):=by
 intro i p J;rw[fR] at J;cases hq:ps[i]? with
 |none=>rw[hq] at J;cases J
 |some q=>
  rw[hq] at J;cases J;exact h i q hq
def aCJ:br->Prop
 |.tok _ _ e=>e≠197
 |_=>True
def zT(J bl:List br):Prop:=J.length<=bl.length/\∀(j:Nat) b,aCJ b->J[j]?=a_ b->bl[j]?=a_ b
def zT.refl(J:List br):zT J J:=⟨cj _,λ_ _ _ h=>h⟩
def zT.trans{a b c:List br}(h:zT a b)(q:zT b c):zT a c:=⟨h_ h.1 q.1,λj x hn e=>q.2 j x hn (h.2 j x hn e)⟩
def aou{dw:List cP}:∀{i:Nat} {st:List Int},i<=ps.length->qw ps i st->qw (ps++dw) i st
 |0,_,_,h=>h
 |i+1,_,Q,⟨p,q3,Y,V,h3⟩=>⟨p,q3,by rw[fT aa];exact Y,aou aa V,h3⟩
def aaz{st:List Int}(h:qw ps ps.length (st++p.kids)):qw (ps++[p]) (ps++[p]).length (st++[(((ps++[p]).length-1:Nat):Int)]):=by
 rw[ec,pZ,T8];exact⟨p,st,af,aou (cj _) h,rfl⟩
def aov:∀{i:Nat} {st:List Int},qw ps i st->qw (ps.map cP.cB) i st
 |0,_,h=>h
 |i+1,_,⟨p,q3,Y,V,h3⟩=>⟨p.cB,q3,by rw[fR,Y];rfl,aov V,h3⟩
def abX(ps:List cP)(m:Nat)(J:List br)(r:bg)(bl:List br):Prop:=∃dw:List cP,dw≠[]/\dw.length+1<=2*m/\cT bl r ((ps++dw).map rY) 5 197/\yA (ps++dw)/\zT J bl/\∀st,qw ps ps.length st->qw (ps++dw) (ps++dw).length (st++[(((ps++dw).length-1:Nat):Int)])
def Z3(hA:cT J v (ps.map rY) 5 197)(hn:ps.length<=4000000000)(p:cP):
  ∃v' g,ef J 5 64 197 v (.sl [p.bA] .exact)=a_ (v',g)/\cT g v' ((ps++[p]).map rY) 5 197/\zT J g:=by
 obtain⟨cl,g,e1,fJ,_,h3,h4⟩:=nc (x:=p.bA) (b9:=64) hA (Zj ps) (JC p) ag ag ah;refine⟨cl,g,e1,aJQ,h3,λj b O hj=>h4 j b hj λxs q=>?_⟩
 rcases hA with⟨z,_⟩|⟨id,b_,z2⟩
 rw[z] at q;cases q;rw[b_] at q;cases q;rw[hj] at z2;cases z2;exact O rfl
@[go_sem]def aoq{y:bg}(S:g[K]?=a_ (.cells [a,b,c,d,x] bf))(Y:cr y=bh)(V:y.cells=[y]):bL g 1 (.mp K 4) y=a_ (g.set K (.cells [a,b,c,d,y] bf)):=by
 simp only[bL,S,fq];rw[V];simp[dV,Y]
@[go_sem]def ala(S:g[K]?=a_ (.cells [a,b,c,d,x] bf))(Y:cr x=bh):bz g bf 1 (.mp K 4)=a_ x:=by
 simp only[bz,S];rfl
@[go_sem]def akY(S:g[K]?=a_ (.cells [a,b,c,d,x] bf)):bz g bh 5 (.mp K 0)=a_ (.agg [a,b,c,d,x]):=by
 simp only[bz,S];rfl
def O5(B:Nat)(J:List br)(v:bg)(xs:List bg):Prop:=(v=.bp/\xs=[])\/∃id,v=.sl xs (.tok id)/\B<=id/\J[id]?=a_ (.tok xs.length 1 3)
def aAA{B:Nat}{xs:List bg}(hA:O5 B J v xs)(hB:B<=J.length)(I:cZ 1 xs=bh)(hy:cZ 1 [x]=bh)(hfit:(xs.length+1)*8<=140737488355328):
  ∃v' bl,ef J 1 8 3 v (.sl [x] .exact)=a_ (v',bl)/\O5 B bl v' (xs++[x])/\J.length<=bl.length/\cr v'=bh/\v'.cells=[v']/\∀(j:Nat) b,J[j]?=a_ b->(∀xs,v≠.sl xs (.tok j))->bl[j]?=a_ b:=by
 rcases hA with⟨rfl,rfl⟩|⟨id,rfl,hid,S⟩
 refine⟨.sl ([]++[x]) (.tok J.length),J++[.tok 1 1 3],?_,bF ⟨J.length,rfl,hB,af⟩,af,rfl,rfl,λj b h _=>bT h⟩;simp only[ef,gG,iy,ij,hy];simp;have hl:id<J.length:=gl S;refine⟨.sl (xs++[x]) (.tok id),J.set id (.tok (xs.length+1) 1 3),?_,bF ⟨id,rfl,hid,aJ9⟩,af,rfl,rfl,λj b h bR=>?_⟩;simp[ef,gG,iy,ij,hy,hfit,I,S];rw[bD (λq=>bR xs (by rw[q]))];exact h
structure abY(l:List dF)(ps:List cP)(gZ:Int)(a b K k c:Nat)(Z:List Nat)(J:List br)(rv kv:bg)(dw:List cP)(kids:List Int)(h:List br):Prop where
 blk:h[K]?=a_ (.cells [bq gZ,bq 0,bq 0,bu [],kv] bf)
 akM:O5 K h kv (kids.map bq)
 kl:kids.length=k
 akS:∀x∈kids,0<=x/\x<((ps++dw).length:Nat)
 row:cT h rv ((ps++dw).map rY) 5 197
 ok:yA (ps++dw)
 k5:zT J h
 at_:Z[k]?=a_ c
 ac:a<=c
 cb:c<=b
 cnt:dw.length+k<=2*(c-a)
 stk:∀st,qw ps ps.length st->qw (ps++dw) (ps++dw).length (st++kids)
section
variable{G:Cells}{v:bg}{l:List dF}
@[go_sem]def ak9(x:dF)(J:List br):bz J bf 1 (.fp x.cells 2)=a_ (.v (.int .i64 x.low)):=rfl
@[go_sem]def ak8(x:dF)(J:List br):bz J bf 1 (.fp x.cells 3)=a_ (.v (.int .i64 x.high)):=rfl
@[go_sem]def ak_(x:dF)(J:List br):bz J bf 1 (.fp x.cells 4)=a_ (bu x.name):=rfl
def ar4(hv:cC v (l.map mT))(T:eM v)(fM:∀x∈l,x.wZ)(hl:l.length<=1000000000)(w:vq l):∀(m a b:Nat),b-a<=m->mH l a b->∀(ps:List cP) (bx:bg) (J:List br),cT J bx (ps.map rY) 5 197->yA ps->ps.length+2*(b-a)<=4000000000->
  cq G bC 101 [bx,v,.v (.int .i64 (a:Int)),.v (.int .i64 (b:Int))] J (abX ps (b-a) J):=by
 have IX:∀i,i<l.length->1<=kd l i/\kd l i<=5:=λi Q=>by
  have I:l[i]?=a_ l[i]:=cz Q;rw[Ej I];have:=fM _ (cG I);exact⟨this.1,this.2.1⟩
 intro m
 induction m with
 |zero=>intro a b h R;have:=R.lt;omega
 |succ m ih=>
  intro a b hm R ps bx J hA iU dD;have cQ:=R.lt;have bK:=R.le;refine ay1.go ?_;refine wy ?_;refine dj (λk e h=>∃gZ:Int,e=[(0,bx),(1,v),(2,.v (.int .i64 (a:Int))),(3,.v (.int .i64 (b:Int))),(9,.v (.int .i64 gZ))]/\h=J/\((k=0/\gZ=3)\/(k=1/\gZ=2/\zW l a b)\/(k=2/\gZ=1/\zW l a b/\C4 l a b))) 2 ⟨3,rfl,rfl,bE ⟨rfl,rfl⟩⟩ ?_ ?_;rintro i e h Q ⟨gZ,rfl,rfl,hI⟩;obtain⟨e,X,sp,hX,ah0⟩:∃(e:Nat) (X:Prop),dM G bC 176 [v,.v (.int .i64 (a:Int)),.v (.int .i64 (b:Int)),.v (.int .i64 gZ)] (OZ l a b e X)/\(X->((i+1=0/\gZ-1=3)\/(i+1=1/\gZ-1=2/\zW l a b)\/(i+1=2/\gZ-1=1/\zW l a b/\C4 l a b)))/\((gZ=3/\e=1)\/(gZ=2/\e=0)):=by
   rcases hI with⟨rfl,rfl⟩|⟨rfl,rfl,nb⟩|⟨rfl,_⟩
   exact⟨1,_,arN hv T hl w R,λx=>bF (bE ⟨rfl,rfl,x⟩),bE ⟨rfl,rfl⟩⟩;exact⟨0,_,aEW hv T hl w R nb,λx=>bF (bF ⟨rfl,rfl,nb,x⟩),bF ⟨rfl,rfl⟩⟩;omega
  have c2:decide ((2:Int)<=gZ)=bh:=ah
  have w1:de.wrap (gZ-1)=gZ-1:=fO aa aa;refine wy ?_;refine ei sp ?_;rintro r ⟨Z,rfl,hP,jz,Wz⟩;have Yx:∀g,cH (.sl (ov Z) .no) g=a_ (.v (.int .i64 (Z.length:Int)),g):=λg=>by
   rw[ot];simp[ov,k7]
  have aIm:=hP.two;refine wy (cN (λq=>?_) λq=>?_);refine wx ?_;exact⟨gZ-1,rfl,trivial,by simpa using hX (Wz aq)⟩;have aIw:3<=Z.length:=aq
  have f1:dJ [.v (.int .i64 0),.v (.int .i64 0),.v (.int .i64 0),.v (.string ⟨[].toArray⟩),.bp] [(0,1,.v (.int .i64 gZ))]=a_ (q7 ⟨gZ,0,0,[],[],.no⟩):=rfl;have s1:=zy h ⟨gZ,0,0,[],[],.no⟩;have Wl:cT (h++[.cells (q7 ⟨gZ,0,0,[],[],.no⟩) bf]) bx (ps.map rY) 5 197:=by
   rcases hA with z|⟨id,b_,z2⟩
   exact bE z;exact bF ⟨id,b_,bT z2⟩
  have b1:zT h (h++[.cells (q7 ⟨gZ,0,0,[],[],.no⟩) bf]):=⟨af,λj b _ q=>bT q⟩;obtain⟨c0,DM⟩:∃c,Z[0]?=a_ c:=⟨Z[0],cz aa⟩;refine wy ?_;refine pV (n:=Z.length) (λm e g=>∃(k c:Nat) (rv kv:bg) (dw:List cP) (kids:List Int),m=Z.length-k/\k+1<=Z.length/\e=[(0,rv),(1,v),(9,.v (.int .i64 gZ)),(10,.sl (ov Z) .no),(11,.mp h.length 0),(12,.v (.int .i64 (k:Int)))]/\abY l ps gZ a b h.length k c Z h rv kv dw kids g) ⟨0,c0,bx,.bp,[],[],rfl,aa,rfl,by rw[fY (cj _),mU];rfl,bE ⟨rfl,rfl⟩,rfl,af,by rw[gd];exact Wl,by rw[gd];exact iU,b1,DM,(hP.j6 _ (cG DM)).1,(hP.j6 _ (cG DM)).2,af,λst hs=>by rw[gd,gd];exact hs⟩ ?_;rintro m e g ⟨k,c,rv,kv,dw,kids,rfl,gR,rfl,hB⟩;have IM:=hB.ac;have WN:=hB.cb;have DO:=hB.cnt;have aIj:h.length<g.length:=gl hB.blk
  rcases en (k+1) Z.length with hk2|hk2
  · obtain⟨y,hy⟩:=dQ hk2
    have Rr:=hP.j6 y (cG hy);have aH8:ct 1 (.sl (ov Z) .no) (.v (.int .i64 ((k+1:Nat):Int)))=a_ (.fp [.v (.int .i64 (y:Int))] 0):=lD (x:=.v (.int .i64 (y:Int))) (by simp[ov,hy]) rfl;have ex:ct 1 (.sl (ov Z) .no) (.v (.int .i64 (k:Int)))=a_ (.fp [.v (.int .i64 (c:Int))] 0):=lD (x:=.v (.int .i64 (c:Int))) (by simp[ov,hB.at_]) rfl;obtain⟨lH,hR,hs,aIz,h3⟩:∃lH:Nat,mH l c lH/\lH-c<b-a/\lH<=y/\(((gZ==3)=bh/\k+2<Z.length/\de.wrap ((y:Int)-1)=(lH:Int))\/((gZ==3)=bh/\Z.length<=k+2/\0<Z.length/\lH=y)\/((gZ==3)=bf/\0<Z.length/\0<Z.length/\lH=y)):=by
     rcases en (k+2) Z.length with z|z
     obtain⟨g1,g2,g3⟩:=hP.seg k c y hB.at_ hy z
     rcases ah0 with⟨rfl,rfl⟩|⟨rfl,rfl⟩
     exact⟨y-1,g1,g3,aa,bE ⟨rfl,z,Kn aa aa⟩⟩;exact⟨y,g1,g3,cj _,bF (bF ⟨rfl,aa,aa,rfl⟩)⟩;obtain⟨g1,g2⟩:=hP.fin k c y hB.at_ hy aa
     rcases ah0 with⟨rfl,rfl⟩|⟨rfl,rfl⟩
     exact⟨y,g1,g2 aa,cj _,bF (bE ⟨rfl,z,aa,rfl⟩)⟩;exact⟨y,g1,g2 aa,cj _,bF (bF ⟨rfl,aa,aa,rfl⟩)⟩
    have nr:=hR.lt;have DN:=ih c lH aa hR (ps++dw) rv g hB.row hB.ok aKm;have step:∀(r:bg) (g2:List br),abX (ps++dw) (lH-c) g r g2->∃(N:Nat) (cl:bg) (g3:List br) (ts:List cP),cH r g2=a_ (.v (.int .i64 (N:Int)),g2)/\de.wrap ((N:Int)-1)=((N-1:Nat):Int)/\bz g2 bf 1 (.mp h.length 4)=a_ kv/\ef g2 1 8 3 kv (.sl [.v (.int .i64 ((N-1:Nat):Int))] .exact)=a_ (cl,g3)/\bL g3 1 (.mp h.length 4) cl=a_ (g3.set h.length (.cells [bq gZ,bq 0,bq 0,bu [],cl] bf))/\abY l ps gZ a b h.length (k+1) y Z h r cl (dw++ts) (kids++[((N-1:Nat):Int)]) (g3.set h.length (.cells [bq gZ,bq 0,bq 0,bu [],cl] bf)):=by
     rintro r g2 ⟨ts,xH,MM,fJ,D3,O,e9⟩;have ln:=Fp fJ;rw[cM] at ln;have k1:=O.2 _ _ (by exact trivial) hB.blk;have M4:O5 h.length g2 kv (kids.map bq):=by
      rcases hB.akM with z|⟨id,b_,z2,z3⟩
      exact bE z;exact bF ⟨id,b_,z2,O.2 _ _ (by show(3:Nat)≠197;decide) z3⟩
     have aJB:=HI.2 xH;have hN:(ps++dw++ts).length=ps.length+dw.length+ts.length:=ah
     obtain⟨cl,g3,p1,p2,p3,po,pc,jd⟩:=aAA (x:=.v (.int .i64 (((ps++dw++ts).length-1:Nat):Int))) M4 (by have:=O.1;omega) (GU kids) rfl (by simp;have:=hB.kl;omega);have k2:=jd _ _ k1 (λxs q=>by
      rcases M4 with⟨z,_⟩|⟨id,b_,_,z2⟩
      rw[z] at q;cases q;rw[b_] at q;cases q;rw[k1] at z2;cases z2)
     have aEm:cT g3 r ((ps++dw++ts).map rY) 5 197:=by
      rcases fJ with z|⟨id,b_,z2⟩
      exact bE z;refine bF ⟨id,b_,jd _ _ z2 λxs q=>?_⟩
      rcases M4 with⟨z,_⟩|⟨axR,y1,_,fV⟩
      rw[z] at q;cases q;rw[y1] at q;cases q;rw[z2] at fV;simp at fV
     have BS:=gl k2;have eo:cr kv=bh:=by
      rcases M4 with⟨rfl,_⟩|⟨id,rfl,_⟩<;>rfl
     refine⟨(ps++dw++ts).length,cl,g3,ts,ln _,Kn aa aa,ala k1 eo,p1,aoq k2 po pc,?_⟩;refine⟨bU BS,?_,by simp[hB.kl],?_,?_,?_,?_,hy,Rr.1,Rr.2,?_,λst hs=>by rw[<-dR,<-dR];exact e9 _ (hB.stk st hs)⟩;rw[gf]
     rcases p2 with z|⟨id,b_,z2,z3⟩
     exact bE z;refine bF ⟨id,b_,z2,?_⟩;rw[bD (λq=>by subst q;rw[k2] at z3;cases z3)];exact z3;intro x I;rw[<-dR,hN]
     rcases gj.1 I with z|z
     have:=hB.akS x z;rw[ec] at this;omega;rw[dP.1 z,hN];omega;rw[<-dR];exact jX aEm k2;rw[<-dR];exact D3;refine⟨by have:=hB.k5.1;have:=O.1;simp;omega,λj b iT hj=>?_⟩;have kR:=gl hj;rw[bD aa];refine jd _ _ (O.2 _ _ iT (hB.k5.2 _ _ iT hj)) λxs q=>?_
     rcases M4 with⟨z,_⟩|⟨axR,y1,y0,fV⟩
     rw[z] at q;cases q;rw[y1] at q;cases q;omega;rw[ec];omega
    rcases h3 with⟨t1,t2,t3⟩|⟨t1,t2,t3,rfl⟩|⟨t1,t2,t3,rfl⟩
    all_goals
     refine wy (ck DN ?_);intro r g2 D;obtain⟨N,cl,g3,ts,u1,u2,u3,u4,aJF,aGH⟩:=step r g2 D;refine wy ?_;exact⟨Z.length-(k+1),aa,k+1,_,r,cl,dw++ts,kids++[((N-1:Nat):Int)],rfl,aa,rfl,aGH⟩
  have e6:=hB.kl;obtain⟨id,rfl,_,_⟩:∃id,kv=.sl (kids.map bq) (.tok id)/\True/\True:=by
   rcases hB.akM with⟨_,z⟩|⟨id,z,_⟩
   have:kids=[]:=aN
   rw[this] at e6;simp at e6;omega;exact⟨id,z,trivial,trivial⟩
  have pM:[bq gZ,bq 0,bq 0,bu [],.sl (kids.map bq) (.tok id)]=q7 ⟨gZ,0,0,[],kids,.tok id⟩:=by
   cases kids with
   |nil=>simp at e6;omega
   |cons x r=>rfl
  have awD:=akY hB.blk;rw[pM] at awD;obtain⟨v',g2,p1,p2,p3⟩:=Z3 hB.row aKm ⟨gZ,0,0,[],kids,.tok id⟩;have ab:=K1 ⟨gZ,0,0,[],kids,.tok id⟩;unfold rY at ab p1;refine wy ?_;refine⟨dw++[⟨gZ,0,0,[],kids,.tok id⟩],af,ah,by rw[<-dR];exact p2,?_,hB.k5.trans p3,λst hs=>by rw[<-dR];exact aaz (p:=⟨gZ,0,0,[],kids,.tok id⟩) (hB.stk st hs)⟩;rw[<-dR];exact hB.ok.push ⟨bF (bE ⟨by show gZ=2\/gZ=3;omega,by show 2<=kids.length;omega⟩),hB.akS⟩;rintro e h ⟨gZ,rfl,rfl,hI⟩;obtain⟨rfl,nb,ns⟩:gZ=1/\zW l a b/\C4 l a b:=by
   rcases hI with⟨z,_⟩|⟨z,_⟩|⟨_,z⟩
   omega;omega;exact z
  obtain⟨x,I⟩:∃x,l[b-1]?=a_ x:=⟨l[b-1],cz aa⟩;obtain⟨y,hy⟩:∃x,l[a]?=a_ x:=⟨l[a],cz aa⟩;have e1:ct 5 v (.v (.int .i64 ((b-1:Nat):Int)))=a_ (.fp x.cells 0):=hv.cE (x:=x.bA) aA rfl;have e2:ct 5 v (.v (.int .i64 (a:Int)))=a_ (.fp y.cells 0):=hv.cE (x:=y.bA) aS rfl;have Q6:=Ej I;have awx:=Ej hy;have Ee:=fM x (cG I);have MU:=fM y (cG hy);have ar_:decide ((2:Int)<=1)=bf:=ag
  have wb:de.wrap ((b:Int)-1)=((b-1:Nat):Int):=Kn aa aa;by_cases hJ:x.kind=5;have D:=ih a (b-1) aa (R.aGN w (by rw[Q6];exact hJ)) ps bx h hA iU aa;refine iB @rJ (ck D ?_);rintro r g ⟨dw,Rh,ahC,fJ,D3,O,e9⟩;have ln:=Fp fJ;rw[cM] at ln;have rG:0<(ps++dw).length:=by rw[ec];have:=HI.2 Rh;omega
  have ahR:(ps++dw).length<=4000000000:=aKm
  obtain⟨v',g2,p1,p2,p3⟩:=Z3 fJ ahR ⟨4,x.low,x.high,[],[(((ps++dw).length-1:Nat):Int)],.exact⟩;have wl:de.wrap (((ps++dw).length:Int)-1)=(((ps++dw).length-1:Nat):Int):=Kn aa aa;have f4:dJ [.v (.int .i64 0),.v (.int .i64 0),.v (.int .i64 0),.v (.string ⟨[].toArray⟩),.bp] [(0,1,.v (.int .i64 4)),(1,1,.v (.int .i64 x.low)),(2,1,.v (.int .i64 x.high)),(4,1,.sl [.v (.int .i64 (((ps++dw).length-1:Nat):Int))] .exact)]=a_ (q7 ⟨4,x.low,x.high,[],[(((ps++dw).length-1:Nat):Int)],.exact⟩):=rfl;have ab:=K1 ⟨4,x.low,x.high,[],[(((ps++dw).length-1:Nat):Int)],.exact⟩;unfold rY at ab p1;generalize hN:(ps++dw).length=N at ln wl f4 ab p1 p2 rG ahR;refine qx (fN @wb @e1 @z7 @ak9) (fN @ak8 @ln @wl @z6) @f4 @ab @p1 ?_;refine⟨dw++[⟨4,x.low,x.high,[],[((N-1:Nat):Int)],.exact⟩],af,ah,by rw[<-dR];exact p2,?_,O.trans p3,λst hs=>by rw[<-dR];exact aaz (p:=⟨4,x.low,x.high,[],[((N-1:Nat):Int)],.exact⟩) (by have:=e9 st hs;rw[hN] at this⊢;exact this)⟩;rw[<-dR];refine D3.push ⟨bF (bF ⟨rfl,rfl,Ee.2.2.2 hJ⟩),λz hz=>?_⟩;rw[dP.1 (show z∈[((N-1:Nat):Int)] from hz),hN];omega;have jI:(x.kind==5)=bf:=by simpa using hJ
  by_cases bt:y.kind=2;have D:=ih (a+1) (b-1) aa (R.inner w IX nb ns (by rw[awx];exact bt) (by rw[Q6];exact hJ)) ps bx h hA iU aa;refine iB @rJ (ck D ?_);rintro r g ⟨dw,Rh,ahC,fJ,D3,O,e9⟩;refine wy ?_;exact⟨dw,Rh,aa,fJ,D3,O,e9⟩;have n2:(y.kind==2)=bf:=aW
  obtain⟨v',g2,p1,p2,p3⟩:=Z3 hA aa ⟨1,0,0,y.name,[],.no⟩;have f4:dJ [.v (.int .i64 0),.v (.int .i64 0),.v (.int .i64 0),.v (.string ⟨[].toArray⟩),.bp] [(0,1,.v (.int .i64 1)),(3,1,bu y.name)]=a_ (q7 ⟨1,0,0,y.name,[],.no⟩):=rfl;have ab:=K1 ⟨1,0,0,y.name,[],.no⟩;unfold rY at ab p1;refine jw (fN @ar_ @wb @e1 @e2) (fN @z7 @rJ @ak_ @jI) (fN @n2 @f4 @ab @p1) ?_;refine⟨[⟨1,0,0,y.name,[],.no⟩],af,ah,p2,?_,p3,λst hs=>aaz (p:=⟨1,0,0,y.name,[],.no⟩) (by rw[gd];exact hs)⟩;exact iU.push ⟨bE ⟨rfl,MU.2.2.1,rfl⟩,λz hz=>by cases hz⟩
end
structure yx(n:Nat)(v:bg)(ps:List cP):Prop where
 v:cC v (ps.map rY)
 ok:yA ps
 len:ps.length<=2*n
 top:ps=[]\/∃x,qw ps ps.length [x]
 no:∀p∈ps,p.tail=.no
def acr(n:Nat)(r:bg):Prop:=∃(v:bg) (ps:List cP) (p e:Int),r=.bQ [v,.v (.int .i64 p),.v (.int .i64 e)]/\yx n v ps
def amz{G:Cells}(s:List UInt8)(hs:s.length<=1000000000):dM G bC 53 [bu s] (acr s.length):=by
 refine ek (ayF.go ?_);have bad:∀(J:List br) (p e:Int),∃k bV,di J k (.bQ [.bp,.v (.int .i64 p),.v (.int .i64 e)])=a_ bV/\acr s.length bV:=λJ p e=>by
  obtain⟨k,S⟩:=(fB (bG ez (bG (bH (.int .i64 p)) (bG (bH (.int .i64 e)) cX))):b7 J _ _).done;exact⟨k,_,S,.bp,[],p,e,rfl,bF ⟨rfl,rfl⟩,λi p h=>au,js _,bE rfl,af⟩
 refine wy ?_;refine ei (aBp s hs) ?_;rintro r ⟨v,l,p,e,rfl,hv,hl,fM⟩;have T:eM v:=by
  rcases hv with rfl|⟨rfl,_⟩
  exact k6 Vl;exact mJ
 have ln:=hv.cH;rw[cM] at ln;refine wy (cN (λq=>?_) λq=>?_);exact dK @q (bad _ _ _);refine wy ?_;refine ei (asl hv aa) ?_;rintro r ⟨p2,b2,rfl,hK⟩;refine wy (cN (λbt=>?_) λbt=>?_)
 rcases hK with⟨rfl,_⟩|⟨i,rfl,Q⟩
 simp at bt;obtain⟨x,I⟩:=dQ Q;have e1:ct 5 v (.v (.int .i64 (i:Int)))=a_ (.fp x.cells 0):=hv.cE (x:=x.bA) aA rfl;have e2:∀J,bz J bf 1 (.fp x.cells 1)=a_ (.v (.int .i64 x.at_)):=λJ=>rfl;exact gC @bt @e1 @e2 (bad _ _ _);cases b2 with
 |true=>
  exact dK @bt (bad _ _ _)
 |false=>
  have hW:vq l:=by
   rcases hK with⟨rfl,h⟩|⟨i,rfl,Q⟩
   exact h rfl;simp at bt
  refine wy ?_;refine dm (λbS=>?_) λbS=>?_;exact bad _ _ _;have h0:0<l.length:=by simp at bS;exact HI.2 bS
  have IX:∀i,i<l.length->1<=kd l i/\kd l i<=5:=λi Q=>by
   have I:l[i]?=a_ l[i]:=cz Q;rw[Ej I];have:=fM _ (cG I);exact⟨this.1,this.2.1⟩
  refine wy (ck (ar4 hv T fM aa hW l.length 0 l.length aa (hW.all IX h0) [] .bp _ (sW _ _ _) (λi p h=>au) ah) ?_);rintro r g ⟨dw,Rh,ahC,fJ,D3,O,e9⟩;refine wy ?_;have B2:=e9 [] rfl;rw[gN] at fJ D3 B2
  rcases fJ with⟨rfl,z⟩|⟨id,rfl,_⟩
  exact bad _ _ _;obtain⟨k,S⟩:=(fB (bG (gU (t:=.tok id) (fm.RX λa _=>V9 g a)) (bG (bH (.int .i64 0)) (bG (bH (.int .i64 0)) cX))):b7 g (.bQ [.sl (dw.map rY) (.tok id),.v (.int .i64 0),.v (.int .i64 0)]) (.bQ [.sl (dw.map λp=>p.cB.bA) .no,.v (.int .i64 0),.v (.int .i64 0)])).done;refine⟨k,_,S,.sl (dw.map λp=>p.cB.bA) .no,dw.map cP.cB,0,0,rfl,bE ?_,aDs D3,ah,bF ⟨_,by rw[cM];exact aov B2⟩,λp J=>?_⟩;rw[yl];rfl;obtain⟨q,_,rfl⟩:=eg.1 J;rfl
end
section
variable{a b:List UInt8}{bx v:bg}{l:List dF}{ps:List cP}{p:cP}{n:Nat}{t:ob}{h:List br}
@[go_sem]def ac4(h:a.length+b.length<=1000):dL .add (.v (.string ⟨a.toArray⟩)) (bu b)=a_ (bu (a++b)):=vt (a:=a) aa
@[go_sem]def H_(h:a.length+b.length<=1000000000):dL .add (bu a) (.v (.string ⟨b.toArray⟩))=a_ (bu (a++b)):=vt (b:=b) aa
section
variable{G:Cells}
def aGn(lo Q:Int):dM G bC 303 [.v (.int .i64 lo),.v (.int .i64 Q)] (zZ 60):=by
 refine ek (azY.go ?_);refine rW ?_
 repeat' refine ba (λq'=>?_) λq'=>?_
 all_goals first
  |(exfalso;omega)
  |exact sr (t:=[42]) ag
  |exact sr (t:=[43]) ag
  |exact sr (t:=[63]) ag
  |(refine ei (aae lo) ?_
    rintro r ⟨t,rfl,ht⟩;have a1:dL .add (.v (.string ⟨[123].toArray⟩)) (bu t)=a_ (bu ([123]++t)):=ac4 ah;have a2:dL .add (bu ([123]++t)) (.v (.string ⟨[125].toArray⟩))=a_ (bu ([123]++t++[125])):=H_ ah;have a3:dL .add (bu ([123]++t)) (.v (.string ⟨[44,125].toArray⟩))=a_ (bu ([123]++t++[44,125])):=H_ ah;have a4:dL .add (bu ([123]++t)) (.v (.string ⟨[44].toArray⟩))=a_ (bu ([123]++t++[44])):=H_ ah;refine e5 @a1 ?_
    repeat' ((refine cN (λq=>?_) λq=>?_)<;>(have q':=q)<;>(simp -failIfUnchanged only[p8] at q')<;>(refine mu @a2 @a3 @a4 @q ?_))
    all_goals first
     |(exfalso;omega)
     |exact sr (t:=[123]++t++[125]) (by simp only[ec,eW,hY];omega)
     |exact sr (t:=[123]++t++[44,125]) (by simp only[ec,eW,hY];omega)
     |(refine ei (aae Q) ?_
       rintro r ⟨t2,rfl,MN⟩;have a5:dL .add (bu ([123]++t++[44])) (bu t2)=a_ (bu ([123]++t++[44]++t2)):=vt ah;have a6:dL .add (bu ([123]++t++[44]++t2)) (.v (.string ⟨[125].toArray⟩))=a_ (bu ([123]++t++[44]++t2++[125])):=H_ ah;refine mS @a5 @a6 ?_;exact sr ah))
def dF.HU(x:dF):Prop:=1<=x.kind/\x.kind<=5/\x.name.length<=12
def aE8(hv:cC v (l.map mT))(fM:∀x∈l,x.HU)(hl:l.length<=1000000):dM G bC 279 [v] (zZ (100*l.length)):=by
 refine ek (azT.go ?_);have ln:=hv.cH;rw[cM] at ln;have ab:eV 1 [.v (.string ⟨[].toArray⟩),.v (.string ⟨[].toArray⟩),.v (.string ⟨[40].toArray⟩),.v (.string ⟨[41].toArray⟩),.v (.string ⟨[124].toArray⟩)]=a_ (.sl [bu [],bu [],bu [40],bu [41],bu [124]] .exact):=rfl;have i2:ct 1 (.sl [bu [],bu [],bu [40],bu [41],bu [124]] .exact) (.v (.int .i64 2))=a_ (.fp [bu [40]] 0):=rfl;have i3:ct 1 (.sl [bu [],bu [],bu [40],bu [41],bu [124]] .exact) (.v (.int .i64 3))=a_ (.fp [bu [41]] 0):=rfl;have i4:ct 1 (.sl [bu [],bu [],bu [40],bu [41],bu [124]] .exact) (.v (.int .i64 4))=a_ (.fp [bu [124]] 0):=rfl;refine wy ?_;refine dj (λi e h=>∃t:List UInt8,e=[(0,v),(3,.sl [bu [],bu [],bu [40],bu [41],bu [124]] .exact),(4,bu t),(5,bq i)]/\t.length<=100*i) l.length ⟨[],rfl,af⟩ ?_ ?_
 · rintro i e J Q ⟨t,rfl,ht⟩
   obtain⟨x,I⟩:=dQ Q;have Ee:=fM x (cG I);have e1:ct 5 v (.v (.int .i64 (i:Int)))=a_ (.fp x.cells 0):=hv.cE (x:=x.bA) aA rfl;have e2:∀J,bz J bh 5 (.fp x.cells 0)=a_ (.agg x.cells):=λJ=>rfl;have s1:=zu J x;unfold iQ at s1;have fA:∀g:List br,g[J.length]?=a_ (.cells x.cells bf)->bz g bf 1 (.mp J.length 0)=a_ (.v (.int .i64 x.kind))/\bz g bf 1 (.mp J.length 2)=a_ (.v (.int .i64 x.low))/\bz g bf 1 (.mp J.length 3)=a_ (.v (.int .i64 x.high))/\bz g bf 1 (.mp J.length 4)=a_ (bu x.name):=λg q=>by
    simp only[bz,q];exact⟨rfl,rfl,rfl,rfl⟩
   have hm:(J++[bw x.cells bf])[J.length]?=a_ (.cells x.cells bf):=af
   obtain⟨l0,l2,l3,l4⟩:=fA _ hm;have sp:dL .add (bu t) (.v (.string ⟨[32].toArray⟩))=a_ (bu (t++[32])):=H_ ah;have Es:∀u:List UInt8,u.length<=100*i+1->(∀w:List UInt8,w.length<=60->dL .add (bu u) (bu w)=a_ (bu (u++w)))/\(∀w:List UInt8,w.length<=60->(u++w).length<=100*(i+1)):=λu hu=>⟨λw hw=>vt aa,λw hw=>ah⟩;obtain⟨k1,k2,hn⟩:=Ee;have WM:x.kind=1\/x.kind=2\/x.kind=3\/x.kind=4\/x.kind=5:=aa
   have b1:=(Es t aa).1 x.name aa;have b2:=(Es (t++[32]) ah).1 x.name aa;have d1:=(Es t aa).2 x.name aa;have d2:=(Es (t++[32]) ah).2 x.name aa;have c1:=λw hw=>(Es t aa).1 w hw;have c2:=λw hw=>(Es (t++[32]) ah).1 w hw;have b_:=λw hw=>(Es t aa).2 w hw;have z2:=λw hw=>(Es (t++[32]) ah).2 w hw
   rcases WM with q|q|q|q|q
   all_goals
    rw[q] at l0;refine wy ?_
    repeat' ((refine cN (λq=>?_) λq=>?_)<;>(have q':=q)<;>(simp -failIfUnchanged only[p8] at q')<;>(refine o6 (fN @mI @l0 @sp @l4) (fN @b1 @b2 @i2 @i3) (fN @i4 @xq (c1 [40] ag) (c2 [40] ag)) (fN (c1 [41] ag) (c2 [41] ag) (c1 [124] ag) (c2 [124] ag)) @l2 @l3 @q ?_))
   all_goals first
    |(exfalso;omega)
    |exact⟨_,rfl,d1⟩
    |exact⟨_,rfl,d2⟩
    |exact⟨_,rfl,b_ _ ag⟩
    |exact⟨_,rfl,z2 _ ag⟩
    |(refine ei (aGn _ _) ?_
      rintro r ⟨w,rfl,hw⟩;refine wy ?_
      first
       |exact⟨_,rfl,b_ w hw⟩
       |exact⟨_,rfl,z2 w hw⟩)
 rintro e h ⟨t,rfl,ht⟩;exact wy (sr ht)
end
def HO(ps:List cP):Prop:=∀(i:Nat) p,ps[i]?=a_ p->∀x∈p.kids,0<=x/\x<(i:Int)
def yA.kids(h:yA ps):HO ps:=λi p J=>(h i p J).2
def aF0(h:HO ps):∀(n f g:Nat) (i:Int),i.toNat<n->i.toNat<f->i.toNat<g->x9 ps f i=x9 ps g i:=by
 intro n
 induction n with
 |zero=>intro f g i h0;omega
 |succ n ih=>
  intro f g i h0 Y V;obtain⟨f,rfl⟩:∃f',f=f'+1:=⟨f-1,aa⟩;obtain⟨g,rfl⟩:∃g',g=g'+1:=⟨g-1,aa⟩;unfold x9;cases J:ps[i.toNat]? with
  |none=>rfl
  |some p=>
   dsimp only;congr 2;refine Bv λk S=>?_;have:=h _ p J k S;rw[ih f g k aa aa aa]
def Tk(h:HO ps){i:Nat}(J:ps[i]?=a_ p):sz ps (i:Int)=3+(p.kids.map λk=>sz ps k+1).sum:=by
 show x9 ps (i+1) (i:Int)=_;unfold x9;rw[yf,J];dsimp only;congr 2;refine Bv λk S=>?_;have:=h _ p J k S;rw[aF0 h (i+1) i (k.toNat+1) k aa aa aa];rfl
def aay(h:HO ps):∀{i:Nat} {st:List Int},qw ps i st->(st.map λk=>sz ps k+1).sum<=4*i
 |0,st,hs=>by rw[show st=[] from hs];simp
 |i+1,st,⟨p,q3,J,Y,V⟩=>by
  have:=aay h Y;rw[V];simp only[gf,aqa,fG,lu,zQ,HJ] at this⊢;rw[Tk h J];omega
def Tj(f:Int->Nat):∀ks:List Int,ks.length<=(ks.map λk=>f k+1).sum
 |[]=>cj _
 |k::r=>by have:=Tj f r;simp only[fG,zQ,eW];omega
def aqH(n:Nat)(r:bg):Prop:=∃l:List dF,r=.sl (l.map mT) .no/\l≠[]/\l.length<=n/\∀x∈l,x.HU
def adq{J:List br}{xs ys:List bg}{b9:Nat}{e:TypeId}(hA:cT J v xs n e)(I:cZ n xs=bh)(hy:cZ n ys=bh)(bR:ys≠[])(hn:0<n)(O:0<b9)(hfit:(xs.length+ys.length)*b9<=140737488355328):
  ∃v' bl,ef J n b9 e v (.sl ys t)=a_ (v',bl)/\cT bl v' (xs++ys) n e/\∀(j:Nat) b,J[j]?=a_ b->(∀xs,v≠.sl xs (.tok j))->bl[j]?=a_ b:=by
 rcases hA with⟨rfl,rfl⟩|⟨id,rfl,S⟩
 refine⟨.sl ([]++ys) (.tok J.length),J++[.tok ys.length n e],?_,bF ⟨J.length,rfl,af⟩,λj b h _=>bT h⟩;simp only[hY,gk] at hfit;simp[ef,gG,iy,ij,bR,hy,hn,O,hfit];have hl:id<J.length:=gl S;refine⟨.sl (xs++ys) (.tok id),J.set id (.tok (xs.length+ys.length) n e),?_,bF ⟨id,rfl,aJ9⟩,λj b h bR=>?_⟩;simp[ef,gG,iy,ij,bR,hy,hn,O,hfit,I,S];rw[bD (λq=>bR xs (by rw[q]))];exact h
structure vn(p:cP)(l:List dF)(bx:bg)(h:List br):Prop where
 b:h[0]?=a_ (.cells p.cells bf)
 a:cT h bx (l.map mT) 5 193
 ok:∀x∈l,x.HU
def vn.NP{m:List dF}(s:vn p l bx h)(hm:∀x∈m,x.HU)(bR:m≠[])(hl:l.length+m.length<=2000000):∃cl g,ef h 5 48 193 bx (.sl (m.map mT) t)=a_ (cl,g)/\vn p (l++m) cl g:=by
 obtain⟨cl,g,e1,hA,S⟩:=adq (ys:=m.map mT) (b9:=48) (t:=t) s.a (Sn l) (Sn m) (by simpa using bR) ag ag ah;refine⟨cl,g,e1,S _ _ s.b λxs z=>?_,by rw[gf];exact hA,λx I=>?_⟩
 rcases s.a with⟨q,_⟩|⟨id,q1,bt⟩
 rw[q] at z;cases z;rw[q1] at z;cases z;rw[s.b] at bt;cases bt
 rcases gj.1 I with z|z
 exact s.ok x z;exact hm x z
def vn.push(s:vn p l bx h)(x:dF)(I:x.HU)(hl:l.length<=1000000):∃cl g,ef h 5 48 193 bx (.sl [.agg x.cells] .exact)=a_ (cl,g)/\vn p (l++[x]) cl g:=
 s.NP (m:=[x]) (λy hy=>aLM) af ah
def BJ(h:yx n v ps):eM v:=by
 rcases h.v with rfl|⟨rfl,_⟩
 refine k6 λx I c T=>?_;obtain⟨p,J,rfl⟩:=eg.1 I;have pR:=h.no p J;have:c=bq p.kind\/c=bq p.low\/c=bq p.high\/c=bu p.name\/c=p.kv:=by simpa[rY,jK,q7] using T
 rcases this with rfl|rfl|rfl|rfl|rfl
 exact dn _;exact dn _;exact dn _;exact dn _;unfold cP.kv;split;exact mJ;rw[pR];refine k6 λx I c T=>?_;obtain⟨t,_,rfl⟩:=eg.1 I;rw[dP.1 (show c∈[bq t] from T)];exact dn _;exact mJ
section
variable{G:Cells}
def aFc(h:yx n v ps):∀(m i:Nat),i<m->i<ps.length->sz ps (i:Int)<=1000000->∀b:Bool,dM G bC 280 [v,.v (.int .i64 (i:Int)),.v (.bool b)] (aqH (sz ps (i:Int))):=by
 intro m
 induction m with
 |zero=>intro i Q;omega
 |succ m ih=>
  intro i Q kQ dD b;obtain⟨p,J⟩:=dQ kQ;have lO:=h.ok i p J;have pR:=h.no p (cG J);have hs:=Tk h.ok.kids J;have e6:=Tj (λk=>sz ps k) p.kids;have lk:=zb pR aa;have kc:=BJ h;have e1:ct 5 v (.v (.int .i64 (i:Int)))=a_ (.fp p.cells 0):=h.v.cE (x:=p.bA) (by simp[J]) rfl;have afu:∀c:Int,dJ [.v (.int .i64 0),.v (.int .i64 0),.v (.int .i64 0),.v (.int .i64 0),.v (.string ⟨#[]⟩)] [(0,1,.v (.int .i64 c))]=a_ (iD ⟨c,0,0,0,[]⟩):=λc=>rfl;have f1:dJ [.v (.int .i64 0),.v (.int .i64 0),.v (.int .i64 0),.v (.int .i64 0),.v (.string ⟨#[]⟩)] [(0,1,.v (.int .i64 1)),(4,1,bu p.name)]=a_ (iD ⟨1,0,0,0,p.name⟩):=rfl;have f5:dJ [.v (.int .i64 0),.v (.int .i64 0),.v (.int .i64 0),.v (.int .i64 0),.v (.string ⟨#[]⟩)] [(0,1,.v (.int .i64 5)),(2,1,.v (.int .i64 p.low)),(3,1,.v (.int .i64 p.high))]=a_ (iD ⟨5,0,p.low,p.high,[]⟩):=rfl;have oZ:∀c:Int,2<=c->c<=4->dF.HU ⟨c,0,0,0,[]⟩:=λc Y V=>⟨by show 1<=c;omega,by show c<=5;omega,aKx⟩;have fA:∀g:List br,g[0]?=a_ (.cells p.cells bf)->bz g bf 1 (.mp 0 0)=a_ (.v (.int .i64 p.kind))/\bz g bf 1 (.mp 0 1)=a_ (.v (.int .i64 p.low))/\bz g bf 1 (.mp 0 2)=a_ (.v (.int .i64 p.high))/\bz g bf 1 (.mp 0 3)=a_ (bu p.name)/\bz g bf 1 (.mp 0 4)=a_ p.kv:=λg q=>by
   simp only[bz,q];exact⟨rfl,rfl,rfl,rfl,rfl⟩
  refine ek (azU.go ?_);have s1:=zy [] p;simp only[gN,hY] at s1;refine eu (λe g=>e=[(0,v),(1,.v (.int .i64 (i:Int))),(2,.v (.bool b))]/\g=[]) ?_ ?_;refine wx ?_
  first|exact⟨rfl,rfl⟩|exact⟨trivial,trivial⟩|trivial
  rintro e g ⟨rfl,rfl⟩;refine eu (λe g=>e=[(0,v),(1,.v (.int .i64 (i:Int))),(2,.v (.bool b)),(7,.bp)]/\g=[]) ?_ ?_;refine wx ?_
  first|exact⟨rfl,rfl⟩|exact⟨trivial,trivial⟩|trivial
  rintro e g ⟨rfl,rfl⟩;refine eu (λe g=>e=[(0,v),(2,.v (.bool b)),(7,.bp),(8,.mp 0 0)]/\g=[.cells p.cells bf]) ?_ ?_;refine wx ?_
  first|exact⟨rfl,rfl⟩|exact⟨trivial,trivial⟩|trivial
  rintro e g ⟨rfl,rfl⟩;have acE:vn p [] .bp [.cells p.cells bf]:=⟨rfl,sW _ _ _,af⟩;refine eu (λe g=>∃l bx,e=[(0,v),(2,.v (.bool b)),(7,bx),(8,.mp 0 0)]/\vn p l bx g/\l.length<=1) ?_ ?_;obtain⟨cl,g,p1,p2⟩:=acE.push ⟨2,0,0,0,[]⟩ (oZ 2 ag ag) af;cases b with
  |true=>
   refine wx ?_;exact⟨_,cl,rfl,p2,af⟩
  |false=>
   refine wy ?_;exact⟨[],.bp,rfl,acE,af⟩
  rintro e g ⟨l1,o1,rfl,Ux,hl1⟩;obtain⟨d0,d1,d2,d3,d4⟩:=fA g Ux.b;refine eu (λe g=>∃l bx,e=[(0,v),(2,.v (.bool b)),(7,bx),(8,.mp 0 0)]/\vn p l bx g/\l.length<=1+(if p.kind=1 then 1 else 0)/\(p.kind=1->l≠[])) ?_ ?_;by_cases q1:p.kind=1;have hn:p.name.length<=12:=by
   rcases lO.1 with z|z|z
   exact z.2.1;omega;omega
  obtain⟨cl,g2,p1,p2⟩:=Ux.push ⟨1,0,0,0,p.name⟩ ⟨by show(1:Int)<=1;decide,aJ0,hn⟩ aa;refine wx ?_;exact⟨_,cl,rfl,p2,ah,λ_=>af⟩;have n1:(p.kind==1)=bf:=aKr
  refine hO @d0 @n1 ?_;exact⟨l1,o1,rfl,Ux,aa,λz=>absurd z q1⟩;rintro e g ⟨l2,o2,rfl,aqD,gS,ahr⟩;have IT:(if p.kind=1 then 1 else 0)<=1:=by split<;>omega
  refine eu (λe g=>∃l bx,e=[(2,.v (.bool b)),(7,bx),(8,.mp 0 0)]/\vn p l bx g/\l.length<=1+(if p.kind=1 then 1 else 0)+(p.kids.map λk=>sz ps k+1).sum/\l≠[]) ?_ ?_;refine wy ?_;refine dj (λj e g=>∃l bx,e=[(0,v),(2,.v (.bool b)),(7,bx),(8,.mp 0 0),(9,bq j)]/\vn p l bx g/\l.length<=1+(if p.kind=1 then 1 else 0)+((p.kids.take j).map λk=>sz ps k+1).sum/\((p.kind=1\/0<j)->l≠[])) p.kids.length ⟨l2,o2,rfl,aqD,ah,λz=>ahr aa⟩ ?_ ?_
  · rintro j e g hj ⟨l3,j9,rfl,H6,pN,Xo⟩
    obtain⟨x,I⟩:=dQ hj;obtain⟨x0,x1⟩:=lO.2 x (cG I);obtain⟨xn,rfl⟩:=o8 x0;obtain⟨q,hq⟩:∃q,ps[xn]?=a_ q:=⟨ps[xn],cz aa⟩;have uZ:=zz (f:=λk=>sz ps k+1) I;have sl:=CA (λk=>sz ps k+1) p.kids (j+1);have nJ:ct 1 p.kv (.v (.int .i64 (j:Int)))=a_ (.fp [.v (.int .i64 (xn:Int))] 0):=by
     unfold cP.kv;split;rename_i z;rw[z] at I;simp at I;exact lD (x:=bq (xn:Int)) aLr rfl
    have yS:ct 5 v (.v (.int .i64 (xn:Int)))=a_ (.fp q.cells 0):=h.v.cE (x:=q.bA) aJL rfl;have Lu:∀J,bz J bf 1 (.fp q.cells 0)=a_ (.v (.int .i64 q.kind)):=λJ=>rfl;obtain⟨c0,_,_,_,c4⟩:=fA g H6.b;obtain⟨bv,FQ,b1,acH⟩:=H6.push ⟨4,0,0,0,[]⟩ (oZ 4 ag ag) aa;obtain⟨rV,_,_,_,u4⟩:=fA FQ acH.b;have Kj:de.wrap ((j:Int)+1)=((j+1:Nat):Int):=nx aa;refine wy ?_
    repeat' ((refine cN (λq=>?_) λq=>?_)<;>(have q':=q)<;>(simp -failIfUnchanged only[p8] at q')<;>(refine wA (fN @mI @c4 @c0 @u4) (fN @rV @lk @nJ @xq) @yS @z7 @Lu @afu @acZ @b1 @q ?_))
    all_goals first
     |(exfalso;omega)
     |(refine ei (ih xn aa aa aa _) ?_
       rintro r ⟨ys,rfl,y1,fV,lW⟩
       first
        |(obtain⟨cl,g2,p1,p2⟩:=H6.NP (t:=.no) lW y1 aa
          refine wy ?_;exact⟨_,cl,rfl,p2,aKm,λ_=>by simp[y1]⟩)
        |(obtain⟨cl,g2,p1,p2⟩:=acH.NP (t:=.no) lW y1 ah
          refine hO @p1 @Kj ?_;exact⟨_,cl,rfl,p2,by rw[ec,ec,pZ];omega,λ_=>by simp[y1]⟩))
  rintro e g ⟨l3,j9,rfl,H6,pN,Xo⟩;obtain⟨d0,d1,d2,d3,d4⟩:=fA g H6.b;refine wy ?_;rw[n3] at pN;refine⟨l3,j9,rfl,H6,pN,Xo ?_⟩
  rcases lO.1 with z|z|z
  exact bE z.1;exact bF aa;exact bF aa;rintro e g ⟨l4,mP,rfl,Uz,awz,awO⟩;obtain⟨d0,d1,d2,d3,d4⟩:=fA g Uz.b;refine eu (λe g=>∃l bx,e=[(2,.v (.bool b)),(7,bx)]/\vn p l bx g/\l.length<=2+(p.kids.map λk=>sz ps k+1).sum/\l≠[]) ?_ ?_;by_cases fk:p.kind=4;rw[if_neg aa] at awz;obtain⟨cl,g2,p1,p2⟩:=Uz.push ⟨5,0,p.low,p.high,[]⟩ ⟨aJ0,aLq,aKx⟩ aa;refine wx ?_;exact⟨_,cl,rfl,p2,ah,af⟩;have n4:(p.kind==4)=bf:=aKv
  refine wy ?_;exact⟨l4,mP,rfl,Uz,aa,awO⟩;rintro e g ⟨El,qo,rfl,acF,Xd,awP⟩;refine eu (λe g=>∃l bx,e=[(7,bx)]/\vn p l bx g/\l.length<=3+(p.kids.map λk=>sz ps k+1).sum/\l≠[]) ?_ ?_;cases b with
  |true=>
   obtain⟨cl,g2,p1,p2⟩:=acF.push ⟨3,0,0,0,[]⟩ (oZ 3 ag ag) aa;refine wx ?_;exact⟨_,cl,rfl,p2,ah,af⟩
  |false=>
   refine wy ?_;exact⟨El,qo,rfl,acF,aa,awP⟩
  rintro e g ⟨GB,uP,rfl,acG,Q8,ahs⟩;refine wy ?_
  rcases acG.a with⟨rfl,z⟩|⟨id,rfl,_⟩
  exact absurd aN ahs;obtain⟨k,S⟩:=(gU (t:=.tok id) (iC (f:=mT) (l:=GB) λa _=>af5 a):b7 g _ _).done;exact⟨k,_,S,GB,rfl,ahs,aa,acG.ok⟩
def aE6(h:yx n v ps)(hn:n<=100000)(bR:ps≠[]):dM G bC 236 [v] (zZ (800*n)):=by
 have hl:=h.len;obtain⟨x,I⟩:=h.top.resolve_left bR;have D:=aaA bR I;have hs:=aay h.ok.kids I;rw[D] at hs;simp only[fG,lu,zQ,HJ] at hs;have ln:=h.v.cH;rw[cM] at ln;refine ek (azH.go ?_);refine wy (jy (aFc h ps.length (ps.length-1) aa aa aa bf) (bX (BJ h) (bX (dn _) (bX (dn _) dc))) ?_);rintro r ⟨ys,rfl,y1,fV,lW⟩;refine wy (jy (aE8 (bE rfl) lW aa) (bX (k6 Vl) dc) ?_);rintro r ⟨t,rfl,ht⟩;refine wy ?_;exact sr aa
end
end
section
variable{l:List (List UInt8)}{w:List UInt8}{v:bg}
def j7:List (List UInt8)->Nat
 |[]=>0
 |w::r=>w.length+1+j7 r
def RV(a b:List (List UInt8)):j7 (a++b)=j7 a+j7 b:=by
 induction a with
 |nil=>simp[j7]
 |cons x r ih=>simp only[lY,j7,ih];omega
def Yy(l:List (List UInt8))(n:Nat):j7 (l.take n)+j7 (l.drop n)=j7 l:=by
 rw[<-RV,OP]
def alk{i:Nat}(h:l[i]?=a_ w):j7 (l.take (i+1))=j7 (l.take i)+w.length+1:=by
 rw[wH,h,RV];simp[j7];omega
def Jp:∀l:List (List UInt8),l.length<=j7 l
 |[]=>cj _
 |w::r=>by have:=Jp r;simp only[j7,eW];omega
def alj(h:w∈l):w.length<=j7 l:=by
 obtain⟨i,Q,rfl⟩:=HH h;have Y:=alk (cz Q);have V:=Yy l (i+1);omega
def acM(n:Nat)(r:bg):Prop:=∃(v:bg) (e:Int) (l:List (List UInt8)),r=.bQ [v,.v (.int .i64 e)]/\cC v (l.map bu)/\j7 l<=n
section
variable{G:Cells}
def ayu(hv:cC v (l.map bu))(hl:j7 l<=1000000):dM G bC 235 [v] (zZ (j7 l)):=by
 refine ek (az7.go ?_);have kS:=Jp l;have ln:=hv.cH;rw[cM] at ln;refine wy ?_;refine dj (λi e h=>∃t:List UInt8,e=[(0,v),(3,bu t),(4,bq i)]/\t.length<=j7 (l.take i)/\h=[]) l.length ⟨[],rfl,af,rfl⟩ ?_ ?_;rintro i e h Q ⟨t,rfl,ht,rfl⟩;obtain⟨s,hs⟩:=dQ Q;have Y:=alk hs;have V:=Yy l (i+1);have e1:ct 1 v (.v (.int .i64 (i:Int)))=a_ (.fp [bu s] 0):=hv.cE (x:=bu s) aLN rfl;have a1:dL .add (bu t) (.v (.string ⟨[32].toArray⟩))=a_ (bu (t++[32])):=vt (b:=[32]) ah;have a3:dL .add (bu (t++[32])) (bu s)=a_ (bu (t++[32]++s)):=vt ah;refine wy (cN (λq=>?_) λq=>?_);refine wx ?_;exact⟨_,rfl,ah,trivial⟩;refine wx ?_;exact⟨_,rfl,ah,trivial⟩;rintro e h ⟨t,rfl,ht,rfl⟩;rw[n3] at ht;exact wy (sr ht)
def aFt(s:List UInt8)(hs:s.length<=1000000):dM G bC 95 [bu s] (acM (s.length+1)):=by
 refine ek (az9.go ?_);have bad:∀(J:List br) (e:Int),∃k bV,di J k (.bQ [.bp,.v (.int .i64 e)])=a_ bV/\acM (s.length+1) bV:=λJ e=>by
  obtain⟨k,S⟩:=(fB (bG ez (bG (bH (.int .i64 e)) cX)):b7 J _ _).done;exact⟨k,_,S,.bp,e,[],rfl,bF ⟨rfl,rfl⟩,js _⟩
 refine wy ?_;refine dj (λi e h=>∃(l:List (List UInt8)) (bx:bg) (t:List UInt8),e=[(0,bu s),(4,bx),(5,bu t),(6,bq i)]/\j7 l+t.length<=i/\cT h bx (l.map bu) 1 9) s.length ⟨[],.bp,[],rfl,cj _,sW _ _ _⟩ ?_ ?_
 · rintro i e h Q ⟨l,bx,t,rfl,ht,hA⟩
   have kS:=Jp l;obtain⟨cl,g,e1,fJ,_⟩:=nc (x:=bu t) (b9:=16) hA (zl l) rfl ag ag ah;have ab:eV 1 [bu t]=a_ (.sl [bu t] .exact):=rfl;have pu:j7 (l++[t])=j7 l+t.length+1:=by rw[RV];simp[j7];omega
   have c1:=λJ=>P7 (l:=s) (i:=i) (j:=i+1) aa aa J;have a1:dL .add (bu t) (bu ((s.take (i+1)).drop i))=a_ (bu (t++(s.take (i+1)).drop i)):=vt ah;have r1:((t++(s.take (i+1)).drop i)).length<=t.length+1:=ah
   refine nV ?_
   repeat' ((refine ba (λq'=>?_) λq'=>?_)<;>refine qx @xM @ae_ @ab @e1 @xe ?_)
   all_goals first
    |exact bad _ _
    |exact⟨l++[t],cl,[],rfl,by rw[pu];simp;omega,aJQ⟩
    |(refine ei (aDn _) ?_
      rintro r ⟨b,rfl⟩;cases b with
      |false=>
       exact fc (bad _ _)
      |true=>
       refine wy ?_;exact⟨l,bx,_,rfl,aa,hA⟩)
 rintro e h ⟨l,bx,t,rfl,ht,hA⟩;have kS:=Jp l;obtain⟨cl,g,e1,fJ,_⟩:=nc (x:=bu t) (b9:=16) hA (zl l) rfl ag ag ah;have ab:eV 1 [bu t]=a_ (.sl [bu t] .exact):=rfl;have pu:j7 (l++[t])=j7 l+t.length+1:=by rw[RV];simp[j7];omega
 refine wy ?_;refine dm (λq=>?_) λq=>?_;exact bad _ _;refine wy ?_;rw[<-List.map_singleton,<-gf] at fJ
 rcases fJ with⟨rfl,z⟩|⟨id,rfl,_⟩
 exact bad _ _;obtain⟨k,S⟩:=(fB (bG (gU (t:=.tok id) (iC (f:=bu) (l:=l++[t]) λa _=>bH _)) (bG (bH (.int .i64 0)) cX)):b7 g _ _).done;exact⟨k,_,S,_,0,l++[t],rfl,bE rfl,by rw[pu];omega⟩
def Nk{X:List br}(h0:X[0]?=a_ (.cells gq bf)):bL X 4 (.mp 0 0) (.agg gq)=a_ (X.set 0 (.cells gq bf))/\bz (X.set 0 (.cells gq bf)) bh 4 (.mp 0 0)=a_ (.agg gq)/\∃n bV,di (X.set 0 (.cells gq bf)) n (.bQ [.agg gq,.v (.bool bf)])=a_ bV/\HS bV:=
 ⟨Ci h0 rfl (x:=gq) rfl rfl,(R4 (bU (a:=.cells gq bf) (gl h0))).2,Nl (zM _)⟩
@[go_sem]def alJ{h:List br}{k:Nat}{nm:List UInt8}{v:Int}{al:Bool}{bv:bg}(O:h[k]?=a_ (.cells (eT nm v al bv) bf)):bz h bf 1 (.mp k 1)=a_ (.v (.int .i64 v)):=by
 simp only[bz,O];rfl
def aB1{ls:List (List UInt8)}(hv:cC v (ls.map bu))(c6:ls.length<=100000)(hw:∀w∈ls,w.length<=100000)(V:2<=ls.length):dM G bC 172 [v] HS:=by
 refine ek (azm.go ?_);obtain⟨n1,pQ⟩:∃n,ls[1]?=a_ n:=⟨ls[1],cz aa⟩;have e1:ct 1 v (.v (.int .i64 1))=a_ (.fp [bu n1] 0):=hv.cE (i:=1) (x:=bu n1) (by simp[pQ]) rfl;have f1:∀x:List UInt8,dJ gq [(0,1,bu x)]=a_ (eT x 0 bf .bp):=λx=>rfl;have f0:dJ gq []=a_ gq:=rfl;have hz:[cI (.string ⟨[].toArray⟩),.v (.int .i64 0),.v (.bool bf),.bp]=gq:=rfl;have s1:bL [.cells gq bf,.cells gq bf] 4 (.mp 1 0) (.agg (eT n1 0 bf .bp))=a_ [.cells gq bf,.cells (eT n1 0 bf .bp) bf]:=Ci (k:=1) rfl rfl rfl rfl;have ln:=hv.cH;rw[cM] at ln;refine wy ?_;refine dj (λn e h=>∃(l:List (List UInt8)) (bx:bg),e=[(0,v),(2,.mp 0 0),(4,.mp 1 0),(5,bx),(6,.v (.int .i64 ((2+n:Nat):Int)))]/\h[0]?=a_ (.cells gq bf)/\(∃x,h[1]?=a_ (.cells x bf)/\n_ x)/\cT h bx (l.map bu) 1 9/\l.length<=n) (ls.length-2)
  ⟨[],.bp,rfl,rfl,⟨_,rfl,n1,0,bf,.bp,rfl,zM _⟩,sW _ _ _,af⟩ ?_ ?_
 rintro n e h hn ⟨l,bx,rfl,h0,⟨x,Y,nm,sR,al,bv,rfl,xu⟩,hA,hl⟩;obtain⟨w,Eb⟩:∃w,ls[2+n]?=a_ w:=⟨ls[2+n]' aa,cz aa⟩;have Ec:=hw w (cG Eb);have e2:ct 1 v (.v (.int .i64 ((2+n:Nat):Int)))=a_ (.fp [bu w] 0):=hv.cE (x:=bu w) (by simp[Eb]) rfl;have wn:de.wrap (((2+n:Nat):Int)+1)=((2+(n+1):Nat):Int):=by rw[nx aa];rfl
 obtain⟨v',y1,fV,lW⟩:=Ac hA Dt;refine wy ?_;refine ei (aeM w aa) ?_;rintro r ⟨a,b,f,rfl,pL,QV⟩;obtain⟨cl,g,p1,pA,_,_,jd⟩:=nc (x:=bu a) (b9:=16) hA (zl l) rfl ag ag ah;have gW:∀{j:Nat} {c:br},h[j]?=a_ c->(∀x n e,c≠.tok x n e)->g[j]?=a_ c:=λq O=>jd _ _ q λxs z=>by
  rcases hA with⟨b_,_⟩|⟨id,b_,z2⟩
  rw[b_] at z;cases z;rw[b_] at z;cases z;rw[q] at z2;cases z2;exact O _ _ _ rfl
 have k0:=gW h0 af;have k1:=gW Y af;have NJ:cT g cl ((l++[a]).map bu) 1 9:=by rw[gf];exact pA
 have ab:eV 1 [bu a]=a_ (.sl [bu a] .exact):=rfl;have qP:=gl k1;obtain⟨m1,m2,m3⟩:=Nk k0;have one:f=bh\/f=bf:=by cases f<;>simp
 rcases one with rfl|rfl
 · refine wy ?_
   refine ei (QS y1 aa a) ?_;rintro r ⟨b2,rfl⟩;cases b2
   all_goals
    refine wy ?_;refine dm (λq=>?_) λq=>?_
    · refine ei (aa1 b aa) ?_
      rintro r ⟨z,rfl,_,_⟩;have st:=R5 k1 z;have i1:(g.set 1 (.cells (eT nm z al bv) bf))[1]?=a_ (.cells (eT nm z al bv) bf):=bU qP;have i0:(g.set 1 (.cells (eT nm z al bv) bf))[0]?=a_ (.cells gq bf):=by rw[bD aa];exact k0
      have axN:=jX (cs':=eT nm z al bv) NJ k1;obtain⟨u1,u2,u3⟩:=Nk i0;refine pW @st (alJ i1) @u1 @u2 @wn ?_
      repeat' ((refine ba (λq'=>?_) λq'=>?_)<;>refine CG @zH @va @f0 @u1 @u2 @wn ?_)
      all_goals first
       |exact u3
       |exact⟨l++[a],cl,rfl,i0,⟨_,i1,nm,z,al,bv,rfl,xu⟩,axN,ah⟩
    refine dm (λbt=>?_) λbt=>?_
    · refine ei (Yv b aa) ?_
      rintro r ⟨ig,gH,ok,rfl,uE⟩;have st:=R6 k1 ig;have i1:=bU (a:=.cells (eT nm sR ig bv) bf) qP;have zx:=R7 i1 uE.one.1 uE.one.2;have j1:((g.set 1 (.cells (eT nm sR ig bv) bf)).set 1 (.cells (eT nm sR ig gH) bf))[1]?=a_ (.cells (eT nm sR ig gH) bf):=bU (by simpa using qP);have B7:((g.set 1 (.cells (eT nm sR ig bv) bf)).set 1 (.cells (eT nm sR ig gH) bf))[0]?=a_ (.cells gq bf):=by rw[bD aa,bD aa];exact k0
      have ayq:=jX (cs':=eT nm sR ig gH) (jX (cs':=eT nm sR ig bv) NJ k1) i1;obtain⟨u1,u2,u3⟩:=Nk B7;cases ok
      all_goals
       refine pW @st @zx @u1 @u2 @wn ?_
       first
        |exact u3
        |exact⟨l++[a],cl,rfl,B7,⟨_,j1,nm,sR,ig,gH,rfl,uE⟩,ayq,ah⟩
    refine hO @m1 @m2 ?_;exact m3
 refine wy ?_;refine dm (λq=>?_) λq=>?_;refine ei (aa1 b aa) ?_;rintro r ⟨z,rfl,_,_⟩;have st:=R5 k1 z;have i0:(g.set 1 (.cells (eT nm z al bv) bf))[0]?=a_ (.cells gq bf):=by rw[bD aa];exact k0
 obtain⟨u1,u2,u3⟩:=Nk i0;exact gC @st @u1 @u2 u3;refine dm (λbt=>?_) λbt=>?_;refine ei (Yv b aa) ?_;rintro r ⟨ig,gH,ok,rfl,uE⟩;have st:=R6 k1 ig;have i1:=bU (a:=.cells (eT nm sR ig bv) bf) qP;have zx:=R7 i1 uE.one.1 uE.one.2;have B7:((g.set 1 (.cells (eT nm sR ig bv) bf)).set 1 (.cells (eT nm sR ig gH) bf))[0]?=a_ (.cells gq bf):=by rw[bD aa,bD aa];exact k0
 obtain⟨u1,u2,u3⟩:=Nk B7;exact lU @st @zx @u1 @u2 u3;refine hO @m1 @m2 ?_;exact m3;rintro e h ⟨l,bx,rfl,h0,⟨x,Y,nm,sR,al,bv,rfl,xu⟩,hA,hl⟩;have oB:=Ci h0 rfl (x:=eT nm sR al bv) rfl (YU xu.one.1);exact wx (Nl xu)
end
end
section
variable{J:List br}{cm mv v:bg}{ex nm:List UInt8}{al i cg p:Bool}{a:Int}
def Sep(v w:bg):Prop:=∀id xs ys,v=.sl xs (.tok id)->w=.sl ys (.tok id)->False
def adp{x w:bg}{xs ys:List bg}{n b9 m:Nat}{e e2:TypeId}(hA:cT J v xs n e)(hW:cT J w ys m e2)(hs:Sep v w)(I:cZ n xs=bh)(hy:cZ n [x]=bh)(hn:0<n)(O:0<b9)(hfit:(xs.length+1)*b9<=140737488355328):
  ∃v' bl,ef J n b9 e v (.sl [x] .exact)=a_ (v',bl)/\cT bl v' (xs++[x]) n e/\cT bl w ys m e2/\Sep v' w/\cr v'=bh/\v'.cells=[v']/\∀(j:Nat) b,J[j]?=a_ b->(∀a c d,b≠.tok a c d)->bl[j]?=a_ b:=by
 rcases hA with⟨rfl,rfl⟩|⟨id,rfl,S⟩
 refine⟨.sl ([]++[x]) (.tok J.length),J++[.tok 1 n e],?_,bF ⟨J.length,rfl,af⟩,?_,?_,rfl,rfl,λj b h _=>bT h⟩;simp only[hY,gk] at hfit;simp only[ef,gG,iy,ij,hy,hn,O];simp;omega
 rcases hW with z|⟨i2,b_,z2⟩
 exact bE z;exact bF ⟨i2,b_,bT z2⟩;intro i a c Y V;cases Y
 rcases hW with⟨z,_⟩|⟨i2,b_,z2⟩
 rw[z] at V;cases V;rw[b_] at V;cases V;have:=(cL.1 z2).1;omega;have hl:id<J.length:=(cL.1 S).1;refine⟨.sl (xs++[x]) (.tok id),J.set id (.tok (xs.length+1) n e),?_,bF ⟨id,rfl,aJ9⟩,?_,?_,rfl,rfl,λj b h bR=>?_⟩;simp[ef,gG,iy,ij,hy,hn,O,hfit,I,S]
 rcases hW with z|⟨i2,b_,z2⟩
 exact bE z;refine bF ⟨i2,b_,?_⟩;rw[bD (λq=>hs id xs ys rfl (by rw[q];exact b_))];exact z2;intro i a c Y V;cases Y;exact hs id xs c rfl V;rw[bD (λq=>by subst q;rw[S] at h;cases h;exact bR _ _ _ rfl)];exact h
def vk(x:List bg):Prop:=∃nm cm i p cg a al mv ex,x=eH nm cm i p cg a al mv ex/\jf 5 cm/\jf 100001 mv/\ex.length<=100000000
def Ut(r:bg):Prop:=∃(x:List bg) (b:Bool),r=.bQ [.agg x,.v (.bool b)]/\vk x
def Sf{b:Bool}{gs:List (List UInt8)}(hA:cT J cm (gs.map bu) 1 9)(hg:gs.length<=5)(hm:jf 100001 mv)(he:ex.length<=100000000):
  ∃n bV,di J n (.bQ [.agg (eH nm cm i p cg a al mv ex),.v (.bool b)])=a_ bV/\Ut bV:=by
 obtain⟨v',b_,z2⟩:=UO hA hg;obtain⟨n,hn⟩:=(fB (bG (kf (bG (bH _) (bG b_ (bG (bH _) (bG (bH _) (bG (bH _) (bG (bH _) (bG (bH _) (bG (hm.fz J) (bG (bH _) cX)))))))))) (bG (bH (.bool b)) cX)):b7 J (.bQ [.agg (eH nm cm i p cg a al mv ex),.v (.bool b)]) _).done;exact⟨n,_,hn,_,b,rfl,nm,v',i,p,cg,a,al,mv,ex,rfl,z2,hm,he⟩
def Jx{X:List br}(h0:X[0]?=a_ (.cells gL bf)):bL X 9 (.mp 0 0) (.agg gL)=a_ (X.set 0 (.cells gL bf))/\bz (X.set 0 (.cells gL bf)) bh 9 (.mp 0 0)=a_ (.agg gL)/\∃n bV,di (X.set 0 (.cells gL bf)) n (.bQ [.agg gL,.v (.bool bf)])=a_ bV/\Ut bV:=
 ⟨xO h0 rfl (x:=gL) rfl rfl,(we (bU (a:=.cells gL bf) (cL.1 h0).1)).2.2,Sf (gs:=[]) (bE ⟨rfl,rfl⟩) af (zM _) ag⟩
@[go_sem]def alZ{h:List br}{k:Nat}(O:h[k]?=a_ (.cells (eH nm cm i p cg a al mv ex) bf)):bz h bf 1 (.mp k 5)=a_ (.v (.int .i64 a)):=by
 simp only[bz,O];rfl
def Uq(n:Nat)(h:List br)(bx:bg):Prop:=∃(l gs:List (List UInt8)) (nm:List UInt8) (cm:bg) (i p cg:Bool) (a:Int) (al:Bool) (mv:bg),h[0]?=a_ (.cells gL bf)/\h[1]?=a_ (.cells (eH nm cm i p cg a al mv []) bf)/\cT h bx (l.map bu) 1 9/\l.length<=n/\cT h cm (gs.map bu) 1 9/\gs.length<=4/\Sep bx cm/\jf 100001 mv
section
variable{G:Cells}
set_option maxHeartbeats 1000000 in
def aCF{v:bg}{ls:List (List UInt8)}(hv:cC v (ls.map bu))(Q_:j7 ls<=90000)(V:2<=ls.length):dM G bC 173 [v] Ut:=by
 refine ek (azn.go ?_);have c6:=Jp ls;have hw:∀w∈ls,w.length<=90000:=λw hm=>h_ (alj hm) Q_;obtain⟨n1,pQ⟩:∃n,ls[1]?=a_ n:=⟨ls[1],cz aa⟩;have e1:ct 1 v (.v (.int .i64 1))=a_ (.fp [bu n1] 0):=hv.cE (i:=1) (x:=bu n1) (by simp[pQ]) rfl;have f1:∀x:List UInt8,dJ gL [(0,1,bu x),(4,1,.v (.bool bh))]=a_ (eH x .bp bf bf bh 0 bf .bp []):=λx=>rfl;have f0:dJ gL []=a_ gL:=rfl;have hz:[cI (.string ⟨[].toArray⟩),.bp,.v (.bool bf),.v (.bool bf),.v (.bool bf),.v (.int .i64 0),.v (.bool bf),.bp,.v (.string ⟨[].toArray⟩)]=gL:=rfl;have s1:bL [.cells gL bf,.cells gL bf] 9 (.mp 1 0) (.agg (eH n1 .bp bf bf bh 0 bf .bp []))=a_ [.cells gL bf,.cells (eH n1 .bp bf bf bh 0 bf .bp []) bf]:=xO (k:=1) rfl rfl rfl rfl;have ln:=hv.cH;rw[cM] at ln;have lQ:∀J,cH v J=a_ (.v (.int .i64 (ls.length:Int)),J):=λJ=>aJT
 obtain⟨aI_,t0,vZ⟩:∃(a b:Nat),v=.sl (ls.map bu) .no:=by
  rcases hv with z|⟨_,z⟩
  exact⟨0,0,z⟩;have:ls=[]:=aN
  rw[this] at V;simp at V
 refine Ov @hz @e1 @f1 @s1 @gN.{0} @lY.{0} @hY.{0} @eW.{0} ?_;refine dj (λn e h=>∃bx:bg,e=[(0,v),(2,.mp 0 0),(4,.mp 1 0),(5,bx),(6,.v (.int .i64 ((2+n:Nat):Int)))]/\Uq n h bx) (ls.length-2)
  ⟨.bp,rfl,[],[],n1,.bp,bf,bf,bh,0,bf,.bp,rfl,rfl,sW _ _ _,af,sW _ _ _,af,(by intro id xs ys q;cases q),zM _⟩ ?_ ?_
 · rintro n e h hn ⟨bx,rfl,l,gs,nm,cm,ib,pb,cg,cw,al,mv,h0,Y,hA,hl,DR,kO,gJ,k_⟩
   obtain⟨w,Eb⟩:∃w,ls[2+n]?=a_ w:=⟨ls[2+n]' aa,cz aa⟩;have Ec:=hw w (cG Eb);have e2:ct 1 v (.v (.int .i64 ((2+n:Nat):Int)))=a_ (.fp [bu w] 0):=hv.cE (x:=bu w) (by simp[Eb]) rfl;have wn:de.wrap (((2+n:Nat):Int)+1)=((2+(n+1):Nat):Int):=by rw[nx aa];rfl
   have GJ:decide (((2+n:Nat):Int)<(ls.length:Int))=bh:=vA aa;have ath:dL .eql (bu w) (.v (.string ⟨[58].toArray⟩))=a_ (.v (.bool (w==[58]))):=oN w [58];have LY:=(cL.1 Y).1;have QH:cr cm=bh:=(Aa DR).1;refine mu @lQ @GJ @e2 @ath ?_;refine cN (λq=>?_) λq=>?_;have as5:∀J,q2 1 v (a_ (.v (.int .i64 ((2+(n+1):Nat):Int)))) bn bn J=a_ (.sl ((ls.drop (2+(n+1))).map bu) .no,J):=λJ=>by
    rw[vZ,ON];exact S0 ah Ti J
   have hd:=Yy ls (2+(n+1));refine jw @q @wn @as5 ?_;refine jy (ayu (v:=.sl ((ls.drop (2+(n+1))).map bu) .no) (bE rfl) aa) (bX (qI (bE rfl)) dc) ?_;rintro r ⟨t,rfl,ht⟩;refine fF ?_;refine jy (amz t aa) (bX (ux _) dc) ?_;rintro r ⟨v2,ps,SC,Aq,rfl,hE⟩;have Yx:=hE.v.cH;rw[cM] at Yx;have aBC:∀J,cH v2 J=a_ (.v (.int .i64 (ps.length:Int)),J):=λJ=>by rw[Yx J,k7]
   have iT:=bU (a:=.cells (eH nm cm ib pb bf cw al mv []) bf) LY;have vH:(h.set 1 (.cells (eH nm cm ib pb bf cw al mv []) bf))[0]?=a_ (.cells gL bf):=by rw[bD aa];exact h0
   have Wa:=jX (cs':=eH nm cm ib pb bf cw al mv []) DR Y;have j_:=al3 Y bf;generalize h.set 1 (.cells (eH nm cm ib pb bf cw al mv []) bf)=g at iT vH Wa j_;refine mS @j_ @aBC ?_;refine cN (λbt=>?_) λbt=>?_;have bR:ps≠[]:=by intro z;rw[z] at bt;simp at bt
   refine e5 @bt ?_;refine jy (aE6 hE aa bR) (bX (BJ hE) dc) ?_;rintro r ⟨tx,rfl,ahQ⟩;have rQ:=al5 iT tx;have av9:=(cL.1 iT).1;have ju:=bU (a:=.cells (eH nm cm ib pb bf cw al mv tx) bf) av9;have pK:(g.set 1 (.cells (eH nm cm ib pb bf cw al mv tx) bf))[0]?=a_ (.cells gL bf):=by rw[bD aa];exact vH
   have aum:=jX (cs':=eH nm cm ib pb bf cw al mv tx) Wa iT;have oB:=xO pK rfl (x:=eH nm cm ib pb bf cw al mv tx) rfl (GP QH k_.one.1);have k0:=bU (a:=.cells (eH nm cm ib pb bf cw al mv tx) bf) (cL.1 pK).1;refine mu @rQ ((we ju).2.2) @oB ((we k0).2.2) ?_;exact Sf (jX aum pK) aa k_ aa;have oB:=xO vH rfl (x:=eH nm cm ib pb bf cw al mv []) rfl (GP QH k_.one.1);have k0:=bU (a:=.cells (eH nm cm ib pb bf cw al mv []) bf) (cL.1 vH).1;refine mu @bt ((we iT).2.2) @oB ((we k0).2.2) ?_;exact Sf (jX Wa vH) aa k_ ag;obtain⟨v',y1,fV,lW⟩:=Ac hA Dt;obtain⟨aId,x1,x2,x3⟩:=Ac DR Dt;refine mS @q @e2 ?_;refine jy (aeM w aa) (bX (ux _) dc) ?_;rintro r ⟨a,b,f,rfl,pL,QV⟩;refine fF ?_;refine jy (QS y1 aa a) (bX fV (bX (ux _) dc)) ?_;rintro r ⟨c0,rfl⟩;obtain⟨cl,g,p1,pA,Zu,amy,_,_,jd⟩:=adp (x:=bu a) (b9:=16) hA DR gJ (zl l) rfl ag ag ah;have k0:=jd _ _ h0 af;have k1:=jd _ _ Y af;have NJ:cT g cl ((l++[a]).map bu) 1 9:=by rw[gf];exact pA
   have ab:∀z:List UInt8,eV 1 [bu z]=a_ (.sl [bu z] .exact):=λz=>rfl;have Lv:dL .eql (bu a) (.v (.string ⟨[103,114,111,117,112].toArray⟩))=a_ (.v (.bool (a==[103,114,111,117,112]))):=oN a [103,114,111,117,112];have ae6:dL .eql (bu a) (.v (.string ⟨[105,110,108,105,110,101].toArray⟩))=a_ (.v (.bool (a==[105,110,108,105,110,101]))):=oN a [105,110,108,105,110,101];have ae8:dL .eql (bu a) (.v (.string ⟨[112,105,99,107].toArray⟩))=a_ (.v (.bool (a==[112,105,99,107]))):=oN a [112,105,99,107];have ea:dL .eql (bu a) (.v (.string ⟨[97,116,116,114].toArray⟩))=a_ (.v (.bool (a==[97,116,116,114]))):=oN a [97,116,116,114];have em:dL .eql (bu a) (.v (.string ⟨[109,97,114,107,115].toArray⟩))=a_ (.v (.bool (a==[109,97,114,107,115]))):=oN a [109,97,114,107,115];have qP:=(cL.1 k1).1;have akW:(l++[a]).length<=n+1:=ah
   obtain⟨m1,m2,m3⟩:=Jx k0;clear jd h0 Y hA DR;have ali:=Fp Zu;rw[cM] at ali;have K:∀(i2 p2:Bool) (a2:Int) (ig:Bool) (lR:bg),jf 100001 lR->(g.set 1 (.cells (eH nm cm i2 p2 cg a2 ig lR []) bf))[1]?=a_ (.cells (eH nm cm i2 p2 cg a2 ig lR []) bf)/\(g.set 1 (.cells (eH nm cm i2 p2 cg a2 ig lR []) bf))[0]?=a_ (.cells gL bf)/\Uq (n+1) (g.set 1 (.cells (eH nm cm i2 p2 cg a2 ig lR []) bf)) cl:=λi2 p2 a2 ig lR hm=>by
    have j1:(g.set 1 (.cells (eH nm cm i2 p2 cg a2 ig lR []) bf))[1]?=a_ (.cells (eH nm cm i2 p2 cg a2 ig lR []) bf):=bU qP;have B7:(g.set 1 (.cells (eH nm cm i2 p2 cg a2 ig lR []) bf))[0]?=a_ (.cells gL bf):=by rw[bD aa];exact k0
    exact⟨j1,B7,l++[a],gs,nm,cm,i2,p2,cg,a2,ig,lR,B7,j1,jX NJ k1,akW,jX Zu k1,kO,amy,hm⟩
   obtain⟨aJh,aCj,aCk⟩:=K bh pb cw al mv k_;obtain⟨aJi,aCl,aCm⟩:=K ib bh cw al mv k_;obtain⟨aGz,aGA,aGC⟩:=Jx aCj;obtain⟨aGD,aGE,aGF⟩:=Jx aCl;have t2:=al1 k1 bh;have t3:=al2 k1 bh;have aDc:Sep cm cl:=λid xs ys Y V=>amy id ys xs V Y;obtain⟨DF,g5,r1,aDM,aDP,aDN,ro,rc,Ba⟩:=adp (x:=bu b) (b9:=16) Zu NJ aDc (zl gs) rfl ag ag ah;have B7:=Ba _ _ k0 af;have j1:=Ba _ _ k1 af;have Tf:=Y6 j1 ro rc;have F_:=(cL.1 j1).1;have b_:(g5.set 1 (.cells (eH nm DF ib pb cg cw al mv []) bf))[1]?=a_ (.cells (eH nm DF ib pb cg cw al mv []) bf):=bU F_;have z0:(g5.set 1 (.cells (eH nm DF ib pb cg cw al mv []) bf))[0]?=a_ (.cells gL bf):=by rw[bD aa];exact B7
   have aHk:cT (g5.set 1 (.cells (eH nm DF ib pb cg cw al mv []) bf)) DF ((gs++[b]).map bu) 1 9:=by rw[gf];exact jX aDM j1
   have aDO:Sep cl DF:=λid xs ys Y V=>aDN id ys xs V Y;have aHl:gs.length<4->Uq (n+1) (g5.set 1 (.cells (eH nm DF ib pb cg cw al mv []) bf)) cl:=λh4=>
    ⟨l++[a],gs++[b],nm,DF,ib,pb,cg,cw,al,mv,z0,b_,jX aDP j1,akW,aHk,ah,aDO,k_⟩
   obtain⟨Tr,u32,aaS⟩:=Jx z0;have M7:=(we k1).2.1;cases f with
   |false=>
    cases c0
    all_goals
     refine jw @ab @p1 @Lv ?_
     repeat' ((refine cN (λq=>?_) λq=>?_)<;>(have q':=q)<;>(simp -failIfUnchanged only[p8] at q')<;>(refine wA (fN @zH @va @ab @p1) (fN @Lv @ae6 @ae8 @ea) (fN @em @mI @t2 @t3) (fN @f0 @m1 @m2 @aGz) @aGA @aGD @aGE @wn @q ?_))
    all_goals first
     |exact m3
     |exact aGC
     |exact aGF
     |exact⟨_,rfl,aCk⟩
     |exact⟨_,rfl,aCm⟩
   |true=>
    cases c0
    all_goals
     refine jw @ab @p1 @Lv ?_;refine cN (λZO=>?_) λZO=>?_
     · refine e5 @ZO ?_
       refine jy (YY b aa) (bX (ux _) dc) ?_;rintro r ⟨b2,rfl⟩;cases b2 with
       |false=>
        refine o6 @M7 @ab @r1 @Tf @f0 @Tr @u32 ?_;exact aaS
       |true=>
        refine e5 @M7 ?_;refine jy (QS x1 aa b) (bX x2 (bX (ux _) dc)) ?_;rintro r ⟨b3,rfl⟩;cases b3 with
        |true=>
         refine o6 @M7 @ab @r1 @Tf @f0 @Tr @u32 ?_;exact aaS
        |false=>
         refine wA @M7 @ali @ab @r1 @Tf @f0 @Tr @u32 @wn ?_
         repeat' ((refine cN (λq=>?_) λq=>?_)<;>(have q':=q)<;>(simp -failIfUnchanged only[p8] at q')<;>(refine wA (fN @zH @va @mI @M7) @ab @r1 @Tf @f0 @Tr @u32 @wn @q ?_))
         all_goals first
          |exact aaS
          |exact⟨_,rfl,aHl aa⟩
     refine mS @ZO @ae6 ?_;refine cN (λamP=>?_) λamP=>?_
     all_goals
      refine mS @amP @ae8 ?_;refine cN (λamR=>?_) λamR=>?_
      all_goals
       refine mS @amR @ea ?_;refine cN (λZN=>?_) λZN=>?_
       · refine e5 @ZN ?_
         refine jy (aa1 b aa) (bX (ux _) dc) ?_;rintro r ⟨z,rfl,_,_⟩;obtain⟨w1,w2,w3⟩:=K ib pb z al mv k_;obtain⟨Ts,Tt,aaT⟩:=Jx w2;have t5:=al4 k1 z;refine CG @t5 (alZ w1) @f0 @Ts @Tt @wn ?_
         repeat' ((refine cN (λq=>?_) λq=>?_)<;>(have q':=q)<;>(simp -failIfUnchanged only[p8] at q')<;>(refine o6 @zH @va @f0 @Ts @Tt @wn @q ?_))
         all_goals first
          |exact aaT
          |exact⟨_,rfl,w3⟩
       refine mS @ZN @em ?_;refine cN (λA_=>?_) λA_=>?_
       · refine e5 @A_ ?_
         refine jy (Yv b aa) (bX (ux _) dc) ?_;rintro r ⟨ig,gH,ok,rfl,uE⟩;obtain⟨w1,w2,w3⟩:=K ib pb cw ig gH uE;obtain⟨Ts,Tt,aaT⟩:=Jx w2;have t6:=Y7 k1 ig;have i1:=bU (a:=.cells (eH nm cm ib pb cg cw ig mv []) bf) qP;have t7:=Y8 i1 uE.one.1 uE.one.2;rw[ap_] at t7;cases ok
         all_goals
          refine CG @t6 @t7 @f0 @Ts @Tt @wn ?_
          first
           |exact aaT
           |exact⟨_,rfl,w3⟩
       refine mu @A_ @f0 @m1 @m2 ?_;exact m3
 rintro e h ⟨bx,rfl,l,gs,nm,cm,ib,pb,cg,cw,al,mv,h0,Y,hA,hl,DR,kO,gJ,k_⟩;have QH:cr cm=bh:=(Aa DR).1;have oB:=xO h0 rfl (x:=eH nm cm ib pb cg cw al mv []) rfl (GP QH k_.one.1);have k0:=bU (a:=.cells (eH nm cm ib pb cg cw al mv []) bf) (cL.1 h0).1;have GJ:decide (((2+(ls.length-2):Nat):Int)<(ls.length:Int))=bf:=yR aa;refine qx @lQ @GJ ((we Y).2.2) @oB ((we k0).2.2) ?_;exact Sf (jX DR h0) aa k_ ag
end
end
section
variable{x:List bg}
def vk.ok(h:vk x):x.length=9/\x.all cr=bh/\∃nm,x[0]?=a_ (bu nm):=by
 obtain⟨nm,cm,i,p,cg,a,al,mv,ex,rfl,hg,hm,_⟩:=h;exact⟨rfl,GP hg.one.1 hm.one.1,nm,rfl⟩
abbrev ab5:=ua 125 187 vk
structure Fb(bB mv:bg)(cv marks:List (List bg))(h:List br):Prop where
 n:cT h bB (cv.map dG) 9 125
 m:cT h mv (marks.map dG) 4 187
 mO:∀x∈cv,vk x
 hG:∀x∈marks,n_ x
 nl:cv.length<=24
 ml:marks.length<=8
def ab_(J bl:List br):Prop:=J.length<=bl.length/\∀(j:Nat) Z fz,J[j]?=a_ (.cells Z fz)->bl[j]?=a_ (.cells Z fz)
def acz(J:List br)(r:bg)(bl:List br):Prop:=∃bB mv cv marks,∃e:Int,r=.bQ [.agg [bB,mv],.v (.int .i64 e)]/\Fb bB mv cv marks bl/\ab_ J bl
structure zR(J:List br)(K:Nat)(bB mv:bg)(cv marks:List (List bg))(g:List br):Prop where
 s:ab5 K bB mv cv marks g
 r:g[K+1]?=a_ (.cells [.bp,.bp] bf)
 ge:J.length<=K
 fr:ab_ J g
section
variable{J:List br}{K:Nat}{bB mv:bg}{cv marks:List (List bg)}{g:List br}
def zR.app{x:List br}(s:zR J K bB mv cv marks g):zR J K bB mv cv marks (g++x):=⟨s.s.app,bT s.r,s.ge,⟨by have:=s.fr.1;simp;omega,λj Z fz h=>bT (s.fr.2 j Z fz h)⟩⟩
def zR.put(s:zR J K bB mv cv marks g){ku nR:bg}{Nv Ni:List (List bg)}{g':List br}(hk:ab5 K ku nR Nv Ni g')(hB:iZ K g g'):zR J K ku nR Nv Ni g':=
 ⟨hk,hB.2 _ _ _ aa s.r,s.ge,⟨h_ s.fr.1 hB.1,λj Z fz h=>by
  have hj:=gl h;have hg:=s.ge;exact hB.2 _ _ _ aa (s.fr.2 j Z fz h)⟩⟩
def zR.ret(s:zR J K bB mv cv marks g):bL g 2 (.mp (K+1) 0) (.agg [bB,mv])=a_ (g.set (K+1) (.cells [bB,mv] bf))/\bz (g.set (K+1) (.cells [bB,mv] bf)) bh 2 (.mp (K+1) 0)=a_ (.agg [bB,mv])/\∀e:Int,acz J (.bQ [.agg [bB,mv],.v (.int .i64 e)]) (g.set (K+1) (.cells [bB,mv] bf)):=by
 have o1:=Aa s.s.n;have o2:=Aa s.s.m;have hl:=gl s.r;have hg:=s.ge;have hs:=bU (a:=.cells [bB,mv] bf) hl;refine⟨?_,?_,λe=>⟨bB,mv,cv,marks,e,rfl,⟨jX s.s.n s.r,jX s.s.m s.r,s.s.mO,s.s.hG,s.s.nl,s.s.ml⟩,⟨by have:=s.fr.1;simp;omega,λj Z fz h=>?_⟩⟩⟩;simp only[bL,s.r,fq];have e:(dG [bB,mv]).cells=[bB,mv]:=rfl;rw[e];simp[o1.1,o2.1,dV];simp only[bz,hs];rfl;have hj:=gl h;rw[bD aa];exact s.fr.2 j Z fz h
end
section
variable{G:Cells}
def aqZ{v:bg}{ls:List (List UInt8)}(hv:cC v (ls.map bu))(T:eM v)(Q_:j7 ls<=90000){bB mv:bg}{cv marks:List (List bg)}{J:List br}(kH:Fb bB mv cv marks J):cq G bC 96 [.agg [bB,mv],v] J (acz J):=by
 refine ayV.go ?_;have c6:=Jp ls;have hw:∀w∈ls,w.length<=90000:=λw hm=>h_ (alj hm) Q_;have ln:=hv.cH;rw[cM] at ln;have ahY:[cI (.string ⟨[].toArray⟩),.v (.int .i64 0),.v (.bool bf),.bp]=gq:=rfl;have MV:[cI (.string ⟨[].toArray⟩),.bp,.v (.bool bf),.v (.bool bf),.v (.bool bf),.v (.int .i64 0),.v (.bool bf),.bp,.v (.string ⟨[].toArray⟩)]=gL:=rfl;refine eu (λe g=>e=[(1,v),(2,.mp J.length 0),(4,.mp (J.length+1) 0)]/\zR J J.length bB mv cv marks g) ?_ ?_;refine iB @ec.{0} ?_;have b0:(J++[bw [bB,mv] bf]++[bw [.bp,.bp] bf])[J.length]?=a_ (.cells [bB,mv] bf):=bT af;have b1:(J++[bw [bB,mv] bf]++[bw [.bp,.bp] bf])[J.length+1]?=a_ (.cells [.bp,.bp] bf):=af
 have A:zR J J.length bB mv cv marks (J++[bw [bB,mv] bf]++[bw [.bp,.bp] bf]):=⟨⟨b0,kH.n.ext.ext,kH.m.ext.ext,kH.mO,kH.hG,kH.nl,kH.ml⟩,b1,cj _,⟨af,λj Z fz h=>bT (bT h)⟩⟩
 first|exact⟨rfl,A⟩|exact⟨trivial,A⟩
 rintro e g ⟨rfl,A⟩;generalize J.length=K at A;obtain⟨r1,r2,iu⟩:=A.ret;have Ys:=A.s.fA.2.2;refine wy (cN (λq=>?_) λq=>?_);exact lU @q @Ys @r1 @r2 (iu _);have V:2<=ls.length:=aq
 obtain⟨n1,pQ⟩:∃n,ls[1]?=a_ n:=⟨ls[1],cz aa⟩;obtain⟨n0,oU⟩:∃n,ls[0]?=a_ n:=⟨ls[0],cz aa⟩;have e1:ct 1 v (.v (.int .i64 1))=a_ (.fp [bu n1] 0):=hv.cE (i:=1) (x:=bu n1) (by simp[pQ]) rfl;have e0:ct 1 v (.v (.int .i64 0))=a_ (.fp [bu n0] 0):=hv.cE (i:=0) (x:=bu n0) (by simp[oU]) rfl;have w1:=hw n1 (cG pQ);have k1:dL .neq (bu n0) (.v (.string ⟨[110,111,100,101].toArray⟩))=a_ (.v (.bool !(n0==[110,111,100,101]))):=zi n0 [110,111,100,101];have k2:dL .neq (bu n0) (.v (.string ⟨[109,97,114,107].toArray⟩))=a_ (.v (.bool !(n0==[109,97,114,107]))):=zi n0 [109,97,114,107];have gK:dL .eql (bu n0) (.v (.string ⟨[109,97,114,107].toArray⟩))=a_ (.v (.bool (n0==[109,97,114,107]))):=oN n0 [109,97,114,107];refine wy ?_;refine ei (YY n1 aa) ?_;rintro r ⟨b,rfl⟩;cases b with
 |false=>
  exact gC @Ys @r1 @r2 (iu _)
 |true=>
  have II:n0=[109,97,114,107]\/n0=[110,111,100,101]\/((n0==[110,111,100,101])=bf/\(n0==[109,97,114,107])=bf):=by
   by_cases x:n0=[109,97,114,107];exact bE x;by_cases y:n0=[110,111,100,101];exact bF (bE y);exact bF (bF ⟨by simpa using y,by simpa using x⟩)
  rcases II with x|x|⟨x,y⟩
  have b_:(n0==[110,111,100,101])=bf:=by rw[x];rfl
  have z2:(n0==[109,97,114,107])=bh:=by rw[x];rfl
  refine u7 @e0 @k1 @k2 @gK @b_ @z2 ?_;refine ei (aB1 hv aa (λw hm=>by have:=hw w hm;omega) V) ?_;rintro r ⟨x,ok,rfl,I⟩;obtain⟨qm,pS,nm,qQ⟩:=I.ok;have nn:=YT g qm pS;have A1:=A.app (x:=[bw x bf]);have kx:(g++[bw x bf])[g.length]?=a_ (.cells x bf):=af
  refine wy ?_;generalize g.length=m at kx⊢;generalize g++[bw x bf]=g1 at A1 kx⊢;obtain⟨s1,s2,eU⟩:=A1.ret;obtain⟨d0,d1,d2⟩:=A1.s.fA;have nN:=A1.s.ml;cases ok with
  |false=>
   exact gC @d2 @s1 @s2 (eU _)
  |true=>
   refine wy ?_;refine dj (λj e h=>e=[(2,.mp K 0),(4,.mp (K+1) 0),(6,.mp m 0),(8,bq j)]/\h=g1) marks.length ⟨rfl,rfl⟩ ?_ ?_;rintro j e h hj ⟨rfl,rfl⟩;obtain⟨y,hy⟩:=dQ hj;obtain⟨B4,Jg,Se,Re⟩:=(A1.s.hG y (cG hy)).ok;have nQ:=(Ab A1.s.m).cE hy B4;refine sU ((Ab A1.s.m).len) (cN (λmQ=>?_) λmQ=>?_);exact lU @mQ @d2 @s1 @s2 (eU _);exact wx rt;rintro e h ⟨rfl,rfl⟩;refine sU ((Ab A1.s.m).len) (cN (λmQ=>?_) λmQ=>?_);exact lU @mQ @d2 @s1 @s2 (eU _);obtain⟨nR,g4,p1,p2,p3,jd⟩:=A1.s.amK I (by simp at mQ;omega);have lx:bz h bh 4 (.mp m 0)=a_ (.agg x):=by
    simp only[bz,kx];unfold e_;rw[if_pos rfl,if_pos aa,o9,mA aa]
   have ab:eV 4 [.agg x]=a_ (.sl [.agg x] .exact):=by
    have:=wg (n:=4) (xs:=[x]) λy hy=>aJ2
    simp only[fG,lu] at this;simp[eV,this]
   have KB:=A1.put p3 jd;obtain⟨t1,t2,t3⟩:=KB.ret;exact wB @mQ @d1 @lx @ab @p1 @p2 @KB.s.fA.2.2 @t1 @t2 (t3 _)
  have b_:(n0==[110,111,100,101])=bh:=by rw[x];rfl
  have z2:(n0==[109,97,114,107])=bf:=by rw[x];rfl
  refine u7 @e0 @k1 @k2 @gK @b_ @z2 ?_;refine ei (aCF hv Q_ V) ?_;rintro r ⟨x,ok,rfl,I⟩;obtain⟨qm,pS,nm,qQ⟩:=I.ok;have nn:=Nt g qm pS;have A1:=A.app (x:=[bw x bf]);have kx:(g++[bw x bf])[g.length]?=a_ (.cells x bf):=af
  refine wy ?_;generalize g.length=m at kx⊢;generalize g++[bw x bf]=g1 at A1 kx⊢;obtain⟨s1,s2,eU⟩:=A1.ret;obtain⟨d0,d1,d2⟩:=A1.s.fA;have y6:=A1.s.nl;cases ok with
  |false=>
   exact gC @d2 @s1 @s2 (eU _)
  |true=>
   refine wy (cN (λxU=>?_) λxU=>?_);exact lU @xU @d2 @s1 @s2 (eU _);refine wy ?_;refine dj (λj e h=>e=[(2,.mp K 0),(4,.mp (K+1) 0),(9,.mp m 0),(11,bq j)]/\h=g1) cv.length ⟨rfl,rfl⟩ ?_ ?_;rintro j e h hj ⟨rfl,rfl⟩;obtain⟨y,hy⟩:=dQ hj;obtain⟨B4,Jg,Se,Re⟩:=(A1.s.mO y (cG hy)).ok;have nQ:=(Ab A1.s.n).cE hy B4;refine sU ((Ab A1.s.n).len) (cN (λmQ=>?_) λmQ=>?_);exact lU @mQ @d2 @s1 @s2 (eU _);exact wx rt;rintro e h ⟨rfl,rfl⟩;refine sU ((Ab A1.s.n).len) (cN (λmQ=>?_) λmQ=>?_);exact lU @mQ @d2 @s1 @s2 (eU _);obtain⟨ku,g4,p1,p2,p3,jd⟩:=A1.s.amL vk.ok I (by simp at mQ;omega);have lx:bz h bh 9 (.mp m 0)=a_ (.agg x):=by
    simp only[bz,kx];unfold e_;rw[if_pos rfl,if_pos aa,o9,mA aa]
   have ab:eV 9 [.agg x]=a_ (.sl [.agg x] .exact):=by
    have:=wg (n:=9) (xs:=[x]) λy hy=>aJ2
    simp only[fG,lu] at this;simp[eV,this]
   have KB:=A1.put p3 jd;obtain⟨t1,t2,t3⟩:=KB.ret;exact wB @mQ @d0 @lx @ab @p1 @p2 @KB.s.fA.2.2 @t1 @t2 (t3 _)
  exact Ko @e0 @k1 @k2 @x @y @Ys @r1 @r2 (iu _)
end
end
section
variable{x:List bg}{X J:List br}{k:Nat}{a b:bg}
def vk.fz(h:vk x)(J:List br):b7 J (.agg x) (.agg x):=by
 obtain⟨nm,cm,i,p,cg,a,al,mv,ex,rfl,hg,hm,_⟩:=h;exact kf (bG (bH _) (bG (hg.fz J) (bG (bH _) (bG (bH _) (bG (bH _) (bG (bH _) (bG (bH _) (bG (hm.fz J) (bG (bH _) cX)))))))))
def n_.af4(h:n_ x)(J:List br):b7 J (.agg x) (.agg x):=by
 obtain⟨nm,v,al,bv,rfl,O⟩:=h;exact kf (bG (bH _) (bG (bH _) (bG (bH _) (bG (O.fz J) cX))))
def anl{v:bg}{xs:List (List bg)}{n:Nat}{e:TypeId}(hA:cT J v (xs.map dG) n e)(h:∀x∈xs,b7 J (.agg x) (.agg x)):∃v',b7 J v v'/\cC v' (xs.map dG):=by
 rcases hA with⟨rfl,z⟩|⟨id,rfl,_⟩
 exact⟨_,ez,bF ⟨rfl,z⟩⟩;exact⟨_,gU (fm.RX h),bE rfl⟩
structure q8(bB mv:bg)(cv marks:List (List bg)):Prop where
 n:cC bB (cv.map dG)
 m:cC mv (marks.map dG)
 mO:∀x∈cv,vk x
 hG:∀x∈marks,n_ x
 nl:cv.length<=24
 ml:marks.length<=8
def ab7(r:bg):Prop:=∃bB mv cv marks,∃p e:Int,r=.bQ [.agg [bB,mv],.v (.int .i64 p),.v (.int .i64 e)]/\q8 bB mv cv marks
def Lr{bB mv:bg}{cv marks:List (List bg)}(h:Fb bB mv cv marks J)(p e:Int):∃k bV,di J k (.bQ [.agg [bB,mv],.v (.int .i64 p),.v (.int .i64 e)])=a_ bV/\ab7 bV:=by
 obtain⟨a,a1,a2⟩:=anl h.n λx I=>(h.mO x I).fz J;obtain⟨b,b1,b2⟩:=anl h.m λx I=>(h.hG x I).af4 J;obtain⟨k,S⟩:=(fB (bG (kf (bG a1 (bG b1 cX))) (bG (bH (.int .i64 p)) (bG (bH (.int .i64 e)) cX))):b7 J _ _).done;exact⟨k,_,S,a,b,cv,marks,p,e,rfl,a2,b2,h.mO,h.hG,h.nl,h.ml⟩
def Ls(J:List br):Fb .bp .bp [] [] J:=⟨sW _ _ _,sW _ _ _,af,af,af,af⟩
@[go_sem]def Kf{c d:bg}(h:X[k]?=a_ (.cells [a,b] bf))(Y:cr c=bh)(V:cr d=bh):bL X 2 (.mp k 0) (.agg [c,d])=a_ (X.set k (.cells [c,d] bf)):=by
 simp only[bL,h,fq];have e:(dG [c,d]).cells=[c,d]:=rfl;rw[e];simp[Y,V,dV]
@[go_sem]def To(h:X[k]?=a_ (.cells [a,b] bf)):bz X bh 2 (.mp k 0)=a_ (.agg [a,b]):=by
 simp only[bz,h];rfl
section
variable{G:Cells}
def aDd(s:List UInt8)(hs:s.length<=1000000):dM G bC 51 [bu s] ab7:=by
 refine ek (ayD.go ?_);have f0:dJ [.bp,.bp] []=a_ [.bp,.bp]:=rfl;have bad:∀X:List br,X[0]?=a_ (.cells [.bp,.bp] bf)->bL X 2 (.mp 0 0) (.agg [.bp,.bp])=a_ (X.set 0 (.cells [.bp,.bp] bf))/\bz (X.set 0 (.cells [.bp,.bp] bf)) bh 2 (.mp 0 0)=a_ (.agg [.bp,.bp]):=λX h=>
  ⟨Kf h rfl rfl,To (bU (gl h))⟩
 refine wy ?_;refine ei (aBw s aa) ?_;rintro r ⟨v,p,e,rfl,l,hv,hl,hw⟩;have ln:=hv.cH;rw[cM] at ln;refine wy (cN (λq=>?_) λq=>?_);exact wy (Lr (Ls _) _ _);refine wy ?_;refine dj (λi e h=>e=[(2,.mp 0 0),(5,v),(8,.mp 1 0),(9,bq i)]/\h[0]?=a_ (.cells [.bp,.bp] bf)/\∃bB mv cv marks,h[1]?=a_ (.cells [bB,mv] bf)/\Fb bB mv cv marks h) l.length ⟨rfl,rfl,.bp,.bp,[],[],rfl,Ls _⟩ ?_ ?_;rintro i e h Q ⟨rfl,h0,bB,mv,cv,marks,Y,kH⟩;obtain⟨w,Eb⟩:=dQ Q;have Ec:=hw w (cG Eb);have e1:ct 1 v (.v (.int .i64 (i:Int)))=a_ (.fp [bu w] 0):=hv.cE (x:=bu w) (by simp[Eb]) rfl;obtain⟨u1,u2⟩:=bad h h0;refine wy ?_;refine ei (aFt w aa) ?_;rintro r ⟨nV,e2,ws,rfl,XD,aIZ⟩;have aBE:=XD.cH;rw[cM] at aBE;refine wy ?_;refine dm (λbt=>?_) λbt=>?_;refine wy ?_;refine dm (λbS=>?_) λbS=>?_;refine ck (aqZ XD (qI XD) aa kH) ?_;rintro r g ⟨ku,nR,Nv,Ni,dr,rfl,AB,hF⟩;have g0:=hF.2 _ _ _ h0;have g1:=hF.2 _ _ _ Y;have st:=Kf g1 (Aa AB.n).1 (Aa AB.m).1;have k1:=bU (a:=.cells [ku,nR] bf) (gl g1);have k0:(g.set 1 (.cells [ku,nR] bf))[0]?=a_ (.cells [.bp,.bp] bf):=by rw[bD aa];exact g0
 have Wo:Fb ku nR Nv Ni (g.set 1 (.cells [ku,nR] bf)):=⟨jX AB.n g1,jX AB.m g1,AB.mO,AB.hG,AB.nl,AB.ml⟩;refine wy ?_;refine dm (λfk=>?_) λfk=>?_;exact Lr (Ls _) _ _;exact⟨rfl,k0,ku,nR,Nv,Ni,k1,Wo⟩
 · repeat' refine ba (λq'=>?_) λq'=>?_
   all_goals first
    |exact Lr (Ls _) _ _
    |exact⟨rfl,h0,bB,mv,cv,marks,Y,kH⟩
 · repeat' refine ba (λq'=>?_) λq'=>?_
   all_goals first
    |exact Lr (Ls _) _ _
    |exact⟨rfl,h0,bB,mv,cv,marks,Y,kH⟩
 rintro e h ⟨rfl,h0,bB,mv,cv,marks,Y,kH⟩;have st:=Kf h0 (Aa kH.n).1 (Aa kH.m).1;have k0:=bU (a:=.cells [bB,mv] bf) (gl h0);have Wo:Fb bB mv cv marks (h.set 0 (.cells [bB,mv] bf)):=⟨jX kH.n h0,jX kH.m h0,kH.mO,kH.hG,kH.nl,kH.ml⟩;exact nV (Lr Wo _ _)
end
end
section
variable{G:Cells}{bB mv a b c:bg}{cv marks:List (List bg)}
def afA(hr:q8 bB mv cv marks)(s:List UInt8):dM G bC 97 [.agg [bB,mv,a,b,c],bu s] (KJ (-1) 24):=by
 refine ek (ayW.go ?_);have y6:=hr.nl;have ln:=hr.n.cH;rw[cM] at ln;refine wy (cN (λq=>?_) λq=>?_);refine wy ?_;exact uy ag ag;refine wy ?_;refine dj (λi e h=>e=[(1,bu s),(2,.mp 0 0),(5,bq i)]/\h=[.cells [bB,mv,a,b,c] bf]) cv.length ⟨rfl,rfl⟩ ?_ ?_;rintro i e h Q ⟨rfl,rfl⟩;obtain⟨y,hy⟩:=dQ Q;obtain⟨B4,Jg,Se,Re⟩:=(hr.mO y (cG hy)).ok;have nQ:ct 9 bB (.v (.int .i64 (i:Int)))=a_ (.fp y 0):=hr.n.cE (x:=.agg y) aS (by exact B4);refine wy ?_;refine dm (λbt=>?_) λbt=>?_;exact uy aa aa;exact⟨rfl,trivial⟩;rintro e h ⟨rfl,rfl⟩;refine wy ?_;exact uy ag ag
def afD(hr:q8 bB mv cv marks)(s:List UInt8):dM G bC 98 [.agg [bB,mv,a,b,c],bu s] (KJ (-1) 24):=by
 refine ek (ayX.go ?_);have nN:=hr.ml;have ln:=hr.m.cH;rw[cM] at ln;refine wy ?_;refine dj (λi e h=>e=[(1,bu s),(2,.mp 0 0),(5,bq i)]/\h=[.cells [bB,mv,a,b,c] bf]) marks.length ⟨rfl,rfl⟩ ?_ ?_;rintro i e h Q ⟨rfl,rfl⟩;obtain⟨y,hy⟩:=dQ Q;obtain⟨B4,Jg,Se,Re⟩:=(hr.hG y (cG hy)).ok;have nQ:ct 4 mv (.v (.int .i64 (i:Int)))=a_ (.fp y 0):=hr.m.cE (x:=.agg y) aS (by exact B4);refine wy ?_;refine dm (λbt=>?_) λbt=>?_;exact uy aa aa;exact⟨rfl,trivial⟩;rintro e h ⟨rfl,rfl⟩;refine wy ?_;exact uy ag ag
end
def wW(x:List bg):Prop:=∃(nm:List UInt8) (iv:bg) (l:List Int),x=[bu nm,iv]/\cC iv (l.map bq)/\eM iv/\l.length<=256/\∀z∈l,(0:Int)<=z/\z<256
section
variable{G:Cells}
def aCb{v:bg}{rows:List (List bg)}(hv:cC v (rows.map dG))(D:∀x∈rows,wW x)(hl:rows.length<=1000000000)(s:List UInt8):dM G bC 243 [v,bu s] KK:=by
 refine ek (azN.go ?_);have ln:=hv.cH;rw[cM] at ln;have lQ:∀J,cH v J=a_ (.v (.int .i64 (rows.length:Int)),J):=λJ=>aJT
 have bn:∀J:List br,∃k bV,di J k .bp=a_ bV/\KK bV:=λJ=>UP (l:=[]) (sW J 1 3) af af;refine wy ?_;refine dj (λi e h=>e=[(0,v),(1,bu s),(5,bq i)]/\h=[]) rows.length ⟨rfl,rfl⟩ ?_ ?_;rintro i e h Q ⟨rfl,rfl⟩;obtain⟨y,hy⟩:=dQ Q;obtain⟨nm,iv,l,rfl,y4,IW,kS,DU⟩:=D y (cG hy);have nQ:ct 2 v (.v (.int .i64 (i:Int)))=a_ (.fp [bu nm,iv] 0):=hv.cE (x:=.agg [bu nm,iv]) aS rfl;refine wy (cN (λbt=>?_) λbt=>?_);refine wy ?_;refine ei (aBz y4 IW aa) ?_;rintro r ⟨o,ho,ql,I5⟩;refine wy ?_
 rcases ho with rfl|⟨rfl,z⟩
 obtain⟨n,hn⟩:=(gU (t:=.no) (iC (f:=bq) (l:=o) λa _=>bH _):b7 [] _ _).done;exact⟨n,_,hn,o,bE rfl,ql,I5⟩;exact bn _;exact wx rt;rintro e h ⟨rfl,rfl⟩;exact hO @bq.eq_1 @lQ (bn _)
end
@[go_sem]def al0(h:List br){x:List bg}(I:vk x):bL (h++[bw gL bf]) 9 (.mp h.length 0) (.agg x)=a_ (h++[bw x bf]):=Nt h I.ok.1 I.ok.2.1
section
variable{G:Cells}{bB mv a b c:bg}{cv marks:List (List bg)}
def aCq(hr:q8 bB mv cv marks)(hS:eM (.agg [bB,mv,a,b,c])):dM G bC 52 [.agg [bB,mv,a,b,c]] (KJ 0 14):=by
 refine ek (ayE.go ?_);have y6:=hr.nl;have nN:=hr.ml;have MV:[cI (.string ⟨[].toArray⟩),.bp,.v (.bool bf),.v (.bool bf),.v (.bool bf),.v (.int .i64 0),.v (.bool bf),.bp,.v (.string ⟨[].toArray⟩)]=gL:=rfl;have ln:=hr.n.cH;rw[cM] at ln;have lQ:∀J,cH bB J=a_ (.v (.int .i64 (cv.length:Int)),J):=λJ=>aJT
 have lm:=hr.m.cH;rw[cM] at lm;have Jm:∀h:List br,h[0]?=a_ (.cells [bB,mv,a,b,c] bf)->bz h bf 1 (.mp 0 0)=a_ bB/\bz h bf 1 (.mp 0 1)=a_ mv/\bz h bh 5 (.mp 0 0)=a_ (.agg [bB,mv,a,b,c]):=λh q=>by
  simp only[bz,q];exact⟨rfl,rfl,rfl⟩
 have strs:∀{n:Nat} {v:bg},jf n v->∃l:List (List UInt8),cC v (l.map bu)/\l.length<=n/\∀J,cH v J=a_ (.v (.int .i64 (l.length:Int)),J):=λ{n v} h=>by
  obtain⟨l,Y,V⟩:=h;have RT:=Y.cH;rw[cM] at RT;exact⟨l,Y,V,λJ=>by rw[RT J,k7]⟩
 have node:∀i,i<cv.length->∃(y:List bg) (nm:List UInt8) (cm:bg) (ib pb cg:Bool) (a2:Int) (al:Bool) (lR:bg) (ex:List UInt8) (gs ms:List (List UInt8)),vk y/\y=eH nm cm ib pb cg a2 al lR ex/\ct 9 bB (.v (.int .i64 (i:Int)))=a_ (.fp y 0)/\cC cm (gs.map bu)/\gs.length<=5/\(∀J,cH cm J=a_ (.v (.int .i64 (gs.length:Int)),J))/\cC lR (ms.map bu)/\ms.length<=100001/\(∀J,cH lR J=a_ (.v (.int .i64 (ms.length:Int)),J))/\(∀J,bz J bf 1 (.fp y 1)=a_ cm)/\(∀J,bz J bf 1 (.fp y 7)=a_ lR)/\(∀J,bz J bh 9 (.fp y 0)=a_ (.agg y)):=λi Q=>by
  have hy:cv[i]?=a_ cv[i]:=cz Q;generalize cv[i]=y at hy;have me:=hr.mO y (cG hy);have nQ:ct 9 bB (.v (.int .i64 (i:Int)))=a_ (.fp y 0):=hr.n.cE (x:=.agg y) aS aLT;have axG:=me;obtain⟨nm,cm,ib,pb,cg,a2,al,lR,ex,rfl,hg,hm,_⟩:=axG;obtain⟨gs,g1,g2,g3⟩:=strs hg;obtain⟨ms,m1,m2,m3⟩:=strs hm;exact⟨_,nm,cm,ib,pb,cg,a2,al,lR,ex,gs,ms,me,rfl,nQ,g1,g2,g3,m1,m2,m3,λ_=>rfl,λ_=>rfl,λ_=>rfl⟩
 have l0:=(Jm [bw [bB,mv,a,b,c] bf] rfl);refine wy (cN (λq=>?_) λq=>?_);refine wy ?_;exact uy ag ag;refine wy ?_;refine dj (λi e h=>e=[(1,.mp 0 0),(3,bq i)]/\h=[.cells [bB,mv,a,b,c] bf]) cv.length ⟨rfl,rfl⟩ ?_ ?_;rintro i e h Q ⟨rfl,rfl⟩;obtain⟨y,nm,cm,ib,pb,cg,a2,al,lR,ex,gs,ms,me,Rs,nQ,g1,g2,g3,m1,m2,m3,r1,xV,ZR⟩:=node i Q;refine wy ?_;refine dj (λj e h=>e=[(1,.mp 0 0),(3,.v (.int .i64 (i:Int))),(4,bq j)]/\h=[.cells [bB,mv,a,b,c] bf]) gs.length ⟨rfl,rfl⟩ ?_ ?_;rintro j e h hj ⟨rfl,rfl⟩;obtain⟨w,hw⟩:=dQ hj;have Ry:ct 1 cm (.v (.int .i64 (j:Int)))=a_ (.fp [bu w] 0):=g1.cE (x:=bu w) aKe rfl;refine pW @bq.eq_1 @nQ @r1 @g3 @Ry ?_;refine ei (afA hr w) ?_;rintro r ⟨z,rfl,_,_⟩;refine wy ?_;refine dm (λbt=>?_) λbt=>?_;exact uy ag ag;exact⟨rfl,trivial⟩;rintro e h ⟨rfl,rfl⟩;refine lU @bq.eq_1 @nQ @r1 @g3 ?_
 first|exact⟨rfl,trivial⟩|trivial
 rintro e h ⟨rfl,rfl⟩;refine wy ?_;refine dj (λi e h=>e=[(1,.mp 0 0),(5,bq i)]/\h[0]?=a_ (.cells [bB,mv,a,b,c] bf)) cv.length ⟨rfl,rfl⟩ ?_ ?_
 · rintro i e h Q ⟨rfl,h0⟩
   obtain⟨y,nm,cm,ib,pb,cg,a2,al,lR,ex,gs,ms,me,Rs,nQ,g1,g2,g3,m1,m2,m3,r1,xV,ZR⟩:=node i Q;obtain⟨b0,b1,b2⟩:=Jm h h0;have nn:=al0 h me;have n0:(h++[bw y bf])[0]?=a_ (.cells [bB,mv,a,b,c] bf):=bT h0;have qy:bz (h++[bw y bf]) bf 1 (.mp h.length 4)=a_ (.v (.bool cg)):=by
    rw[Rs];simp only[bz,fY (cj _),mU,nA];rfl
   have x2:bz (h++[bw y bf]) bf 1 (.mp h.length 2)=a_ (.v (.bool ib)):=by
    rw[Rs];simp only[bz,fY (cj _),mU,nA];rfl
   refine o6 @bq.eq_1 @b0 @lQ @nQ @ZR @MV @nn ?_;cases cg<;>cases ib
   all_goals repeat' ((refine cN (λq=>?_) λq=>?_)<;>(have q':=q)<;>(simp -failIfUnchanged only[p8] at q')<;>(refine CG @mI @qy @x2 @zH @va @q ?_))
   all_goals first
    |exact uy ag ag
    |exact⟨rfl,n0⟩
 rintro e h ⟨rfl,h0⟩;obtain⟨b0,b1,b2⟩:=Jm h h0;refine wy ?_;refine dj (λi e g=>e=[(1,.mp 0 0),(7,bq i)]/\g=h) cv.length ⟨rfl,rfl⟩ ?_ ?_;rintro i e g Q ⟨rfl,rfl⟩;obtain⟨y,nm,cm,ib,pb,cg,a2,al,lR,ex,gs,ms,me,Rs,nQ,g1,g2,g3,m1,m2,m3,r1,xV,ZR⟩:=node i Q;refine wy ?_;refine dj (λj e h=>e=[(1,.mp 0 0),(7,.v (.int .i64 (i:Int))),(8,bq j)]/\h=g) ms.length ⟨rfl,rfl⟩ ?_ ?_;rintro j e h hj ⟨rfl,rfl⟩;obtain⟨w,hw⟩:=dQ hj;have Ry:ct 1 lR (.v (.int .i64 (j:Int)))=a_ (.fp [bu w] 0):=m1.cE (x:=bu w) aKe rfl;refine ET @bq.eq_1 @b0 @b2 @nQ @xV @m3 @Ry ?_;refine ei (afD hr w) ?_;rintro r ⟨z,rfl,_,_⟩;refine wy ?_;refine dm (λbt=>?_) λbt=>?_;exact uy ag ag;exact⟨rfl,trivial⟩;rintro e h ⟨rfl,rfl⟩;refine pW @bq.eq_1 @b0 @nQ @xV @m3 ?_
 first|exact⟨rfl,trivial⟩|trivial
 rintro e g ⟨rfl,rfl⟩;refine wy ?_;refine dj (λi e h=>e=[(1,.mp 0 0),(9,bq i)]/\h=g) marks.length ⟨rfl,rfl⟩ ?_ ?_;rintro i e h Q ⟨rfl,rfl⟩;have hy:marks[i]?=a_ marks[i]:=cz Q;generalize marks[i]=y at hy;have me:=hr.hG y (cG hy);have nQ:ct 4 mv (.v (.int .i64 (i:Int)))=a_ (.fp y 0):=hr.m.cE (x:=.agg y) aS aLT;obtain⟨nm,sR,al,bv,rfl,O⟩:=me;obtain⟨ms,m1,m2,m3⟩:=strs O;have iu:∀J,bz J bf 1 (.fp (eT nm sR al bv) 3)=a_ bv:=λ_=>rfl;refine wy ?_;refine dj (λj e g=>e=[(1,.mp 0 0),(9,.v (.int .i64 (i:Int))),(10,bq j)]/\g=h) ms.length ⟨rfl,rfl⟩ ?_ ?_;rintro j e g hj ⟨rfl,rfl⟩;obtain⟨w,hw⟩:=dQ hj;have Ry:ct 1 bv (.v (.int .i64 (j:Int)))=a_ (.fp [bu w] 0):=m1.cE (x:=bu w) aKe rfl;refine wy ?_;refine ei (afD hr w) ?_;rintro r ⟨z,rfl,_,_⟩;refine wy ?_;refine dm (λbt=>?_) λbt=>?_;exact uy ag ag;exact wx rt;rintro e g ⟨rfl,rfl⟩;refine pW @bq.eq_1 @b1 @nQ @iu @m3 ?_
 first|exact⟨rfl,trivial⟩|trivial
 rintro e h ⟨rfl,rfl⟩;refine wy ?_;exact uy ag ag
end
section
variable{ps:List cP}
def asS(h:HO ps):∀(n f g:Nat) (i:Int),i.toNat<n->i.toNat<f->i.toNat<g->qJ ps f i=qJ ps g i:=by
 intro n
 induction n with
 |zero=>intro f g i h0;omega
 |succ n ih=>
  intro f g i h0 Y V;obtain⟨f,rfl⟩:∃f',f=f'+1:=⟨f-1,aa⟩;obtain⟨g,rfl⟩:∃g',g=g'+1:=⟨g-1,aa⟩;unfold qJ;cases J:ps[i.toNat]? with
  |none=>rfl
  |some p=>
   dsimp only;have e:(p.kids.map λk=>qJ ps f k)=p.kids.map λk=>qJ ps g k:=Bv λk S=>by
    have:=h _ p J k S;exact ih f g k aa aa aa
   rw[e]
def aex(h:HO ps){i:Nat}{p:cP}(J:ps[i]?=a_ p):cnt ps (i:Int)=if p.kind=1 then 1 else(if p.kind=4 then p.many else 1)*(p.kids.map λk=>cnt ps k).sum:=by
 show qJ ps (i+1) (i:Int)=_;unfold qJ;rw[yf,J];dsimp only;have e:(p.kids.map λk=>qJ ps i k)=p.kids.map λk=>cnt ps k:=Bv λk S=>by
  have:=h _ p J k S;exact asS h (i+1) i (k.toNat+1) k aa aa aa
 rw[e]
def aBS{G:Cells}{n0:Nat}{v:bg}(h:yx n0 v ps):∀(n i:Nat),i<n->i<ps.length->sz ps (i:Int)<=1000000000->cY G bC 104 [v,.v (.int .i64 (i:Int))] (.v (.int .i64 ((min (cnt ps (i:Int)) 257:Nat):Int))):=by
 intro n
 induction n with
 |zero=>intro i Q;omega
 |succ n ih=>
  intro i Q hl dD;obtain⟨p,eI⟩:=dQ hl;have lO:=h.ok i p eI;have pR:=h.no p (cG eI);have hs:=Tk h.ok.kids eI;have e6:=Tj (λk=>sz ps k) p.kids;have T:=aex h.ok.kids eI;refine e3 (ay3.go ?_);have e1:ct 5 v (.v (.int .i64 (i:Int)))=a_ (.fp p.cells 0):=h.v.cE (x:=p.bA) aKT rfl;have e2:∀J,bz J bh 5 (.fp p.cells 0)=a_ (.agg p.cells):=λJ=>rfl;have s1:=zy [] p;rw[gN,gN] at s1;have z0:([]:List br).length=0:=rfl;rw[z0] at s1;have l0:bz [.cells p.cells bf] bf 1 (.mp 0 0)=a_ (.v (.int .i64 p.kind)):=rfl;have l1:bz [.cells p.cells bf] bf 1 (.mp 0 1)=a_ (.v (.int .i64 p.low)):=rfl;have l2:bz [.cells p.cells bf] bf 1 (.mp 0 2)=a_ (.v (.int .i64 p.high)):=rfl;have l4:bz [.cells p.cells bf] bf 1 (.mp 0 4)=a_ p.kv:=rfl;have lk:=zb pR aa;refine wy (cN (λq=>?_) λq=>?_);have q':p.kind=1:=ak
  rw[T,if_pos q'];exact wy ((bH _).done);have q':p.kind≠1:=ak
  rw[if_neg q'] at T;refine wy ?_;refine dj (λj e J=>e=[(0,v),(5,.mp 0 0),(6,.v (.int .i64 ((min ((p.kids.take j).map λk=>cnt ps k).sum 257:Nat):Int))),(7,bq j)]/\J=[.cells p.cells bf]) p.kids.length ⟨rfl,rfl⟩ ?_ ?_;rintro j e J hj ⟨rfl,rfl⟩;obtain⟨x,I⟩:=dQ hj;obtain⟨x0,x1⟩:=lO.2 x (cG I);obtain⟨xn,rfl⟩:=o8 x0;have nJ:ct 1 p.kv (.v (.int .i64 (j:Int)))=a_ (.fp [.v (.int .i64 (xn:Int))] 0):=by
   unfold cP.kv;split;rename_i z;rw[z] at I;simp at I;exact lD (x:=bq (xn:Int)) aLr rfl
  have aFX:=zz (f:=λk=>sz ps k+1) I;have aFY:=CA (λk=>sz ps k+1) p.kids (j+1);have uZ:=zz (f:=λx=>cnt ps x) I;have m1:=Jt (min ((p.kids.take j).map λk=>cnt ps k).sum 257+min (cnt ps (xn:Int)) 257) 0;have lH:min (min ((p.kids.take j).map λk=>cnt ps k).sum 257+min (cnt ps (xn:Int)) 257) 257=min ((p.kids.take (j+1)).map λk=>cnt ps k).sum 257:=by rw[uZ];omega
  refine wy (hU (ih xn aa aa aa) (bX (BJ h) (bX (dn _) dc)) ?_);refine wx ?_
  first
   |exact⟨rfl,trivial⟩
   |exact⟨rfl,rfl⟩
  rintro e J ⟨rfl,rfl⟩;rw[n3];refine wy ?_;generalize(p.kids.map λk=>cnt ps k).sum=hk at T⊢;by_cases Cq:p.kind=4;rw[if_pos Cq] at T;have O:HL p.low p.high:=by
   rcases lO.1 with z|z|z
   omega;omega;exact z.2.2
  obtain⟨iT,ju,F1⟩:=O;have m0:pF bh [.v (.int .i64 p.low),.v (.int .i64 1)]=a_ (.v (.int .i64 (if(1:Int)>p.low then 1 else p.low))):=rfl;have pP:1<=p.many/\p.many<=20:=by
   unfold E3;constructor<;>(split<;>(try split))<;>omega
  have awX:min hk 257*p.many<=257*20:=Nat.mul_le_mul (Nat.min_le_right _ _) pP.2;have w1:de.wrap (((min hk 257:Nat):Int)*(p.many:Int))=((min hk 257*p.many:Nat):Int):=by
   rw[<-Int.natCast_mul,fO aa aa]
  have lH:min (min hk 257*p.many) 257=min (p.many*hk) 257:=by
   rcases Nat.le_total hk 257 with z|z
   rw[CX z,abQ];have V:257*p.many<=p.many*hk:=aLe
   rw[Nat.min_eq_right z];omega
  have m1:=Jt (min hk 257*p.many) 0;rw[lH] at m1;rw[T];refine wy (cN (λhJ=>?_) λhJ=>?_);have FI:(if(1:Int)>p.low then 1 else p.low)=(p.many:Int):=by
   have:p.high<0:=by simpa using hJ
   unfold E3;rw[if_pos this];split<;>omega
  rw[FI] at m0;exact wy ((bH _).done);have FI:p.high=(p.many:Int):=by
   have:¬p.high<0:=by simp at hJ;omega
   unfold E3;rw[if_neg this];omega
  rw[FI] at l2;exact wy ((bH _).done);have n4:(p.kind==4)=bf:=by simpa using Cq
  rw[if_neg Cq,E7] at T;have m1:=Jt (min hk 257) 0;have lH:min (min hk 257) 257=min hk 257:=aa
  rw[lH] at m1;rw[T];exact wy ((bH _).done)
end
section
variable{v:bg}
noncomputable def Q3(y:List bg)(s:List UInt8):Bool:=@decide (∃xs,y[1]?=a_ (.sl xs .no)/\bu s∈xs) (apy _)
def aFP{a b:List UInt8}(h:bu a=bu b):a=b:=by
 unfold bu at h;simpa using h
def awm{y:List bg}{cm:bg}{gs:List (List UInt8)}(h:y[1]?=a_ cm)(hg:cC cm (gs.map bu))(s:List UInt8):Q3 y s=gs.any (· ==s):=by
 unfold Q3;rw[Hw,@decide_eq_true_iff _ (apy _),Kv];constructor;rintro⟨xs,Y,V⟩;rw[h] at Y
 rcases hg with rfl|⟨rfl,_⟩
 cases Y;obtain⟨t,ht,e⟩:=eg.1 V;exact⟨t,ht,by rw[aFP e];simp⟩;cases Y;rintro⟨t,ht,e⟩;have:t=s:=aLd
 subst this
 rcases hg with rfl|⟨rfl,z⟩
 exact⟨_,h,eg.2 ⟨t,ht,rfl⟩⟩;have:gs=[]:=aN
 rw[this] at ht;cases ht
noncomputable def qh(cv:List (List bg))(s:List UInt8):Nat->List Int
 |0=>[]
 |i+1=>qh cv s i++(match cv[i]? with|some y=>if Q3 y s then [((i+1:Nat):Int)] else []|none=>[])
def Wg(cv:List (List bg))(s:List UInt8):∀i,(qh cv s i).length<=i/\∀x∈qh cv s i,1<=x/\x<=(i:Int)
 |0=>⟨by simp[qh],by simp[qh]⟩
 |i+1=>by
  obtain⟨Y,V⟩:=Wg cv s i;unfold qh;split;split;refine⟨ah,λx I=>?_⟩
  rcases gj.1 I with z|z
  have:=V x z;omega;rw[dP.1 z];omega;rw[gd];exact⟨aa,λx I=>by have:=V x I;omega⟩;rw[gd];exact⟨aa,λx I=>by have:=V x I;omega⟩
def oq(l:List Int):bg:=match l with
 |[]=>.bp
 |_=>.sl (l.map bq) .no
def aib(l:List Int):cC (oq l) (l.map bq):=by
 unfold oq;split;exact bF ⟨rfl,rfl⟩;exact bE rfl
def aru{J:List br}{l:List Int}(h:cT J v (l.map bq) 1 3)(hn:l=[]->v=.bp):∃k,di J k v=a_ (oq l):=by
 cases l with
 |nil=>
  rw[hn rfl];exact(ez:b7 J _ _).done
 |cons x r=>
  rcases h with⟨_,z⟩|⟨id,rfl,_⟩
  simp at z;exact(gU (t:=.tok id) (iC (f:=bq) (l:=x::r) λa _=>bH _):b7 J _ _).done
section
variable{G:Cells}{bB mv a b c:bg}{cv marks:List (List bg)}
def avI{l:List (List UInt8)}(hv:cC v (l.map bu))(hl:l.length<=1000000)(x:List UInt8):cY G bC 177 [v,bu x] (.v (.bool (l.any (· ==x)))):=by
 refine e3 (ajj.go ?_);have ln:=hv.cH;rw[cM] at ln;refine wy ?_;refine dj (λi e h=>e=[(0,v),(1,bu x),(5,bq i)]/\h=[]/\∀j s,j<i->l[j]?=a_ s->(s==x)=bf) l.length ⟨rfl,rfl,λj s h=>aa⟩ ?_ ?_;rintro i e h Q ⟨rfl,rfl,hI⟩;obtain⟨s,hs⟩:=dQ Q;have e1:ct 1 v (.v (.int .i64 (i:Int)))=a_ (.fp [bu s] 0):=hv.cE (x:=bu s) aLN rfl;refine wy ?_;refine dm (λq=>?_) λq=>?_;rw[show l.any (· ==x)=bh from Kv.2 ⟨s,cG hs,q⟩];exact(bH _).done;refine⟨rfl,trivial,λj t hj ht=>?_⟩
 rcases en j i with z|z
 exact hI j t z ht;rw[show j=i by omega,hs] at ht;cases ht;exact q;rintro e h ⟨rfl,rfl,hI⟩;refine wy ?_;rw[show l.any (· ==x)=bf from by
  rw[List.any_eq_false];intro s hm;obtain⟨j,hj,rfl⟩:=HH hm;rw[hI j _ hj (cz hj)];decide]
 exact(bH _).done
def au3(hr:q8 bB mv cv marks)(s:List UInt8):cY G bC 102 [.agg [bB,mv,a,b,c],bu s] (oq (qh cv s cv.length)):=by
 refine e3 (ay2.go ?_);have y6:=hr.nl;have ln:=hr.n.cH;rw[cM] at ln;refine wy ?_;refine dj (λi e h=>∃bx:bg,e=[(1,bu s),(2,.mp 0 0),(5,bx),(6,bq i)]/\h[0]?=a_ (.cells [bB,mv,a,b,c] bf)/\cT h bx ((qh cv s i).map bq) 1 3/\(qh cv s i=[]->bx=.bp)) cv.length ⟨.bp,rfl,rfl,sW _ _ _,λ_=>rfl⟩ ?_ ?_;rintro i e h Q ⟨bx,rfl,h0,hA,Mz⟩;obtain⟨y,hy⟩:=dQ Q;have me:=hr.mO y (cG hy);obtain⟨B4,Jg,Se,Re⟩:=me.ok;have nQ:ct 9 bB (.v (.int .i64 (i:Int)))=a_ (.fp y 0):=hr.n.cE (x:=.agg y) aS (by exact B4);obtain⟨cm,DS,RT,lh⟩:∃cm,jf 5 cm/\(∀h,bz h bf 1 (.fp y 1)=a_ cm)/\y[1]?=a_ cm:=by
  obtain⟨nm,cm,i2,p2,cg,a2,al,lR,ex,rfl,hg,hm,_⟩:=me;exact⟨cm,hg,λh=>rfl,rfl⟩
 obtain⟨gs,AN,kO⟩:=DS;have aIc:eM cm:=qI AN;have wi:de.wrap ((i:Int)+1)=((i+1:Nat):Int):=nx aa;have aIC:=(Wg cv s i).1;obtain⟨cl,g,e1,fJ,bR,_,S⟩:=nc (x:=.v (.int .i64 ((i+1:Nat):Int))) (b9:=8) hA (GU _) rfl ag ag ah;have g0:=S _ _ h0 λxs z=>by
  rcases hA with⟨b_,_⟩|⟨id,b_,z2⟩
  rw[b_] at z;cases z;rw[b_] at z;cases z;rw[h0] at z2;cases z2
 have hh:=awm lh AN s;refine wy ?_;refine dX (avI AN aa s) ?_;rw[<-hh];cases O:Q3 y s with
 |false=>
  have th:qh cv s (i+1)=qh cv s i:=by
   rw[qh,hy];simp[O]
  refine fc ?_;exact⟨bx,rfl,h0,by rw[th];exact hA,by rw[th];exact Mz⟩
 |true=>
  have th:qh cv s (i+1)=qh cv s i++[((i+1:Nat):Int)]:=by
   rw[qh,hy];simp[O]
  refine hO @wi @e1 ?_;exact⟨cl,rfl,g0,by rw[th,gf];exact fJ,by rw[th];intro z;simp at z⟩
 rintro e h ⟨bx,rfl,h0,hA,Mz⟩;exact wy (aru hA Mz)
end
end
section
variable{v:bg}{x:List bg}
def C3(x:List bg):Prop:=∃(nm:List UInt8) (l:List Int),(x=[bu nm,oq l]\/x=[bu nm,.sl (l.map bq) .exact])/\l.length<=256/\∀z∈l,(0:Int)<=z/\z<256
def FC{l:List Int}(h:cC v (l.map bq)):eM v:=by
 rcases h with rfl|⟨rfl,_⟩
 refine k6 λx I c T=>?_;obtain⟨t,_,rfl⟩:=eg.1 I;rw[dP.1 (show c∈[bq t] from T)];exact dn _;exact mJ
def aia(l:List Int):cr (oq l)=bh/\(oq l).cells=[oq l]:=by
 unfold oq;split<;>exact⟨rfl,rfl⟩
def ayc(l:List Int)(J:List br):b7 J (oq l) (oq l):=by
 unfold oq;split;exact ez;exact gU (iC λa _=>bH _)
def C3.ok(h:C3 x):x.length=2/\x.all cr=bh:=by
 obtain⟨nm,l,rfl|rfl,_,_⟩:=h;refine⟨rfl,?_⟩;simp only[pY,sY,(aia l).1];rfl;exact⟨rfl,rfl⟩
def C3.fz(h:C3 x)(J:List br):∃x',b7 J (.agg x) (.agg x')/\wW x':=by
 obtain⟨nm,l,rfl|rfl,Y,V⟩:=h;exact⟨_,kf (bG (bH _) (bG (ayc l J) cX)),nm,_,l,rfl,aib l,FC (aib l),Y,V⟩;exact⟨[bu nm,.sl (l.map bq) .no],kf (bG (bH _) (bG (gU (iC λa _=>bH _)) cX)),nm,_,l,rfl,bE rfl,FC (bE rfl),Y,V⟩
def alG(J:List br):∀{xs:List (List bg)},(∀x∈xs,C3 x)->∃ys:List (List bg),fm J (xs.map dG) (ys.map dG)/\(∀y∈ys,wW y)/\ys.length=xs.length
 |[],_=>⟨[],cX,af,rfl⟩
 |x::r,h=>by
  obtain⟨x',a1,a2⟩:=(h x af).fz J;obtain⟨ys,b1,b2,b3⟩:=alG J (xs:=r) λy hy=>h y aS;refine⟨x'::ys,bG a1 b1,λy hy=>?_,by simp[b3]⟩
  rcases fS.1 hy with rfl|hy
  exact a2;exact b2 y hy
def aqt(n:Nat)(r:bg):Prop:=∃rows:List (List bg),cC r (rows.map dG)/\(∀x∈rows,wW x)/\rows.length<=n
section
variable{G:Cells}{bB mv a b c:bg}{cv marks:List (List bg)}
def aCa{n0:Nat}{ps:List cP}(hr:q8 bB mv cv marks)(hS:eM (.agg [bB,mv,a,b,c]))(h:yx n0 v ps)(hn:n0<=1000000000):dM G bC 54 [.agg [bB,mv,a,b,c],v] (aqt ps.length):=by
 refine ek (ayG.go ?_);have hl:=h.len;have y6:=hr.nl;have ln:=h.v.cH;rw[cM] at ln;refine wy ?_;refine dj (λi e h=>∃(xs:List (List bg)) (bx:bg),e=[(1,v),(2,.mp 0 0),(5,bx),(6,bq i)]/\h[0]?=a_ (.cells [bB,mv,a,b,c] bf)/\cT h bx (xs.map dG) 2 200/\xs.length<=i/\∀x∈xs,C3 x) ps.length ⟨[],.bp,rfl,rfl,sW _ _ _,af,af⟩ ?_ ?_;rintro i e g Q ⟨xs,bx,rfl,h0,hA,sG,I⟩;obtain⟨p,J⟩:=dQ Q;have e1:ct 5 v (.v (.int .i64 (i:Int)))=a_ (.fp p.cells 0):=h.v.cE (x:=p.bA) (by simp[J]) rfl;have l0:∀J,bz J bf 1 (.fp p.cells 0)=a_ (.v (.int .i64 p.kind)):=λJ=>rfl;have l3:∀J,bz J bf 1 (.fp p.cells 3)=a_ (bu p.name):=λJ=>rfl;have Yn:∀g:List br,g[0]?=a_ (.cells [bB,mv,a,b,c] bf)->bz g bh 5 (.mp 0 0)=a_ (.agg [bB,mv,a,b,c]):=λg q=>by
  simp only[bz,q];rfl
 refine rW (cN (λq=>?_) λq=>?_);refine dK @q ?_;exact⟨xs,bx,rfl,h0,hA,aa,I⟩;refine wy ?_;refine⟨_,_,bX hS (bX (ux _) dc),au3 hr p.name,?_⟩;obtain⟨gl,FQ⟩:=Wg cv p.name cv.length;have atO:dJ [.v (.string ⟨[].toArray⟩),.bp] [(0,1,bu p.name),(1,1,oq (qh cv p.name cv.length))]=a_ [bu p.name,oq (qh cv p.name cv.length)]:=by
  generalize qh cv p.name cv.length=L;cases L<;>rfl
 generalize qh cv p.name cv.length=L at gl FQ atO⊢;have nn:bL (g++[bw [.v (.string ⟨[].toArray⟩),.bp] bf]) 2 (.mp g.length 0) (.agg [bu p.name,oq L])=a_ (g++[bw [bu p.name,oq L] bf]):=by
  rw[Kf (k:=g.length) (a:=.v (.string ⟨[].toArray⟩)) (b:=.bp) af rfl (aia L).1];simp
 have IG:(g++[bw [bu p.name,oq L] bf])[0]?=a_ (.cells [bB,mv,a,b,c] bf):=bT h0;have kx:(g++[bw [bu p.name,oq L] bf])[g.length]?=a_ (.cells [bu p.name,oq L] bf):=af
 have vI:cT (g++[bw [bu p.name,oq L] bf]) bx (xs.map dG) 2 200:=hA.ext;have Mi:g.length≠0:=by have:=(cL.1 h0).1;omega
 refine wy ?_;generalize g++[bw [bu p.name,oq L] bf]=g1 at IG kx vI⊢;generalize g.length=K at kx Mi⊢;refine wy ?_;refine ei (afA hr p.name) ?_;rintro r ⟨z,rfl,b_,z2⟩;have push:∀(g2:List br) (x:List bg),cT g2 bx (xs.map dG) 2 200->g2[0]?=a_ (.cells [bB,mv,a,b,c] bf)->C3 x->∃cl g3,eV 2 [.agg x]=a_ (.sl [.agg x] .exact)/\ef g2 2 40 200 bx (.sl [.agg x] .exact)=a_ (cl,g3)/\g3[0]?=a_ (.cells [bB,mv,a,b,c] bf)/\cT g3 cl ((xs++[x]).map dG) 2 200/\∀y∈xs++[x],C3 y:=λg2 x fJ pK Ee=>by
  have Zc:cZ 2 [dG x]=bh:=wg (xs:=[x]) λy hy=>by rw[dP.1 hy];exact Ee.ok
  obtain⟨cl,g3,dr,rA,_,_,S⟩:=nc (x:=dG x) (b9:=40) fJ (wg λy hy=>(I y hy).ok) Zc ag ag ah;refine⟨cl,g3,by simp[eV,Zc],dr,S _ _ pK λys w=>?_,by rw[gf];exact rA,λy hy=>?_⟩
  rcases fJ with⟨w1,_⟩|⟨id,w1,w2⟩
  rw[w1] at w;cases w;rw[w1] at w;cases w;rw[pK] at w2;cases w2
  rcases gj.1 hy with w|w
  exact I y w;rw[dP.1 w];exact Ee
 refine wy (cN (λbt=>?_) λbt=>?_);have ahX:0<=z:=aW
 have s1:bL g1 1 (.mp K 1) (.sl [.v (.int .i64 z)] .exact)=a_ (g1.set K (.cells [bu p.name,.sl [.v (.int .i64 z)] .exact] bf)):=by
  simp only[bL,kx];rfl
 have Gz:=bU (a:=.cells [bu p.name,.sl [.v (.int .i64 z)] .exact] bf) (cL.1 kx).1;have pK:(g1.set K (.cells [bu p.name,.sl [.v (.int .i64 z)] .exact] bf))[0]?=a_ (.cells [bB,mv,a,b,c] bf):=by rw[bD Mi];exact IG
 obtain⟨cl,g3,p1,p2,p3,jd,JF⟩:=push _ [bu p.name,.sl [.v (.int .i64 z)] .exact] (jX vI kx) pK ⟨p.name,[z],bF rfl,af,λy hy=>by rw[dP.1 hy];omega⟩;refine qx @bt @s1 (To Gz) @p1 @p2 ?_;exact⟨_,cl,rfl,p3,jd,ah,JF⟩;obtain⟨cl,g3,p1,p2,p3,jd,JF⟩:=push g1 [bu p.name,oq L] vI IG ⟨p.name,L,bE rfl,aa,λy hy=>by have:=FQ y hy;omega⟩;refine lU @bt (To kx) @p1 @p2 ?_;exact⟨_,cl,rfl,p3,jd,ah,JF⟩;rintro e g ⟨xs,bx,rfl,h0,hA,sG,I⟩;refine wy ?_;obtain⟨ys,y1,fV,lW⟩:=alG g I
 rcases hA with⟨rfl,z⟩|⟨id,rfl,_⟩
 obtain⟨n,hn⟩:=(ez:b7 g _ _).done;exact⟨n,_,hn,[],bF ⟨rfl,rfl⟩,af,af⟩;obtain⟨n,hn⟩:=(gU (t:=.tok id) y1:b7 g _ _).done;exact⟨n,_,hn,ys,bE rfl,fV,aa⟩
end
end
section
variable{G:Cells}{bB mv a b c:bg}{cv marks:List (List bg)}
def aGk(hr:q8 bB mv cv marks)(n:Int):dM G bC 178 [.agg [bB,mv,a,b,c],.v (.int .i64 n)] λr=>∃t:Bool,r=.v (.bool t)/\(t=bh->1<=n/\n<=(cv.length:Int)):=by
 refine ek (ayB.go ?_);have ln:=hr.n.cH;rw[cM] at ln;refine wy ?_;refine dm (λq=>?_) λq=>?_;refine wy ?_;obtain⟨k,S⟩:=(bH (.bool (decide (n<=(cv.length:Int)))):b7 [bw [bB,mv,a,b,c] bf] _ _).done;exact⟨k,_,S,_,rfl,λz=>⟨ak,aN⟩⟩;obtain⟨k,S⟩:=(bH (.bool bf):b7 [bw [bB,mv,a,b,c] bf] _ _).done;exact⟨k,_,S,_,rfl,λz=>by cases z⟩
def aCG(hr:q8 bB mv cv marks)(n:Nat)(Y:1<=n)(V:n<=cv.length):dM G bC 179 [.agg [bB,mv,a,b,c],.v (.int .i64 (n:Int))] λr=>∃y,r=.agg y/\vk y:=by
 refine ek (az5.go ?_);have y6:=hr.nl;have MV:[cI (.string ⟨[].toArray⟩),.bp,.v (.bool bf),.v (.bool bf),.v (.bool bf),.v (.int .i64 0),.v (.bool bf),.bp,.v (.string ⟨[].toArray⟩)]=gL:=rfl;obtain⟨y,hy⟩:∃y,cv[n-1]?=a_ y:=⟨cv[n-1]' aa,cz aa⟩;have me:=hr.mO y (cG hy);have nQ:ct 9 bB (.v (.int .i64 ((n-1:Nat):Int)))=a_ (.fp y 0):=hr.n.cE (x:=.agg y) aS aLT;have ly:=λJ=>r8.fA me.ok.1 J;have st:bL [bw [bB,mv,a,b,c] bf,.cells gL bf] 9 (.mp 1 0) (.agg y)=a_ [.cells [bB,mv,a,b,c] bf,.cells y bf]:=xO (k:=1) rfl rfl me.ok.1 me.ok.2.1;have la:bz [bw [bB,mv,a,b,c] bf,.cells y bf] bh 9 (.mp 1 0)=a_ (.agg y):=by
  obtain⟨nm,cm,i,p,cg,a2,al,lR,ex,rfl,_⟩:=me;rfl
 refine wy ?_;obtain⟨k,S⟩:=(me.fz [bw [bB,mv,a,b,c] bf,.cells y bf]).done;exact⟨k,_,S,y,rfl,me⟩
def XN(hr:q8 bB mv cv marks)(hS:eM (.agg [bB,mv,a,b,c]))(n:Int):dM G bC 103 [.agg [bB,mv,a,b,c],.v (.int .i64 n)] jL:=by
 refine ek (ayC.go ?_);have Yn:bz [bw [bB,mv,a,b,c] bf] bh 5 (.mp 0 0)=a_ (.agg [bB,mv,a,b,c]):=rfl;refine wy ?_;refine dm (λq=>?_) λq=>?_;exact ji _;refine ei (aGk hr n) ?_;rintro r ⟨t,rfl,ht⟩;cases t with
 |false=>
  exact wy (ji _)
 |true=>
  obtain⟨Y,V⟩:=ht rfl;obtain⟨m,rfl⟩:=o8 (show 0<=n by omega);refine wy ?_;refine ei (aCG hr m aa aa) ?_;rintro r ⟨y,rfl,nm,cm,i,p,cg,a2,al,lR,ex,rfl,_⟩;have f:K4 bf 1 2 (.agg (eH nm cm i p cg a2 al lR ex))=a_ (.v (.bool i)):=rfl;exact wy (ji _)
end
end Go.Proofs.YtkpjaeffojibmaaGreatDoor

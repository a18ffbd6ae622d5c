/- Part 10 of a proof. No condition. -/
import Derived.Test.YtgfjdechmbleeaaGreatDoorZ9
set_option linter.unusedVariables false
set_option linter.unusedSimpArgs false
set_option linter.defProp false
open Bool renaming eq_iff_iff->GQ,false->bf,not_false->uC,not_true->yV,true->bh
open Classical renaming propDecidable->aE8
open Go.bP.bg renaming agg->dD,cells->jy,one->cr,v->cU
open Go.bP.cV renaming nil->sr
open Go.bP.br renaming cells->bw
open Go.bP.sB renaming mk->cL
open Go.bP.cy renaming mono->cm,pu->fk,Yz->ek,pure->gO,aA6->jz
open Go.bP renaming Clean->eP
open Go.bP.b8 renaming agg->kA,bp->eB,sl->gP,bQ->fD,v->bH
open Go.bP.e4 renaming cons->bG,map->iW,nil->cW
open Go.IntKind renaming i64->dy
open Go.Proofs.Tryz renaming prog->bE
open Go.Proofs.YtgfjdechmbleeaaGreatDoor.cM renaming bN->q9,cells->qC,many->Ep
open Go.Proofs.YtgfjdechmbleeaaGreatDoor.dw renaming bN->mH,cells->hG
open Go.Proofs.YtgfjdechmbleeaaGreatDoor.iR renaming nil->yZ
open Int renaming eq_ofNat_of_zero_le->oI,le_refl->Cq,toNat_natCast->xu
open List renaming all_cons->oJ,all_eq_true->eO,all_nil->sw,any_eq_true->GX,append_assoc->dU,append_nil->hJ,cons_append->k6,drop_zero->pg,getElem?_append->aaE,getElem?_append_left->fE,getElem?_append_right->fF,getElem?_cons_zero->n4,getElem?_eq_getElem->cx,getElem?_eq_none->jJ,getElem?_eq_some_iff->cJ,getElem?_map->fL,getElem?_set_ne->bC,getElem?_set_self->bV,getElem_of_mem->Eu,length_append->en,length_cons->eV,length_map->dj,length_nil->iP,length_pos_iff->NL,length_singleton->p8,map_append->gQ,map_congr_left->AU,map_cons->fM,map_map->y6,map_nil->mI,mem_append->gA,mem_cons->fB,mem_map->dZ,mem_of_getElem?->cE,mem_singleton->dR,nil_append->gV,set_set->aoO,sum_append->aoP,sum_cons->y8,sum_nil->GY,take_add_one->Ew,take_append_drop->aaJ,take_length->sy,take_of_length_le->n6
open Nat renaming add_assoc->nG,add_sub_cancel->SV,add_zero->uE,eq_zero_or_pos->Ct,le_refl->ck,le_trans->gY,lt_or_ge->d_,min_eq_left->JR,mul_comm->aaK,one_mul->Ex,sub_self->lM,sub_zero->GZ,zero_add->gF,zero_le->jR
open Option renaming none->bn,some->a_
open Or renaming inl->bD,inr->bF
namespace Go.Proofs.YtgfjdechmbleeaaGreatDoor
open Go Go.bP Go.RowKit
section
variable{J:List br}
def G3(low high:Int):Prop:=0<=low/\low<=20/\(high= -1\/(1<=high/\high<=20/\low<=high))
def dw.wg(x:dw):Prop:=1<=x.kind/\x.kind<=5/\x.name.length<=12/\(x.kind=5->G3 x.low x.high)
def Ts(a n:Nat)(r:bg):Prop:=∃(x:dw) (p e:Int),r=.bQ [x.bN,.v (.int .i64 p),.v (.int .i64 e)]/\(e=0->∃p':Nat,p=(p':Int)/\a<p'/\p'<=n/\x.wg)
def om{a n:Nat}(x:dw){p e:Int}(h:e=0->∃p':Nat,p=(p':Int)/\a<p'/\p'<=n/\x.wg):∃k bS,cX J k (.bQ [.agg x.cells,.v (.int .i64 p),.v (.int .i64 e)])=a_ bS/\Ts a n bS:=by
 obtain⟨k,S⟩:=(fD (bG (kA (bG (bH _) (bG (bH _) (bG (bH _) (bG (bH _) (bG (bH _) cW)))))) (bG (bH (.int .i64 p)) (bG (bH (.int .i64 e)) cW))):b8 J (.bQ [.agg x.cells,.v (.int .i64 p),.v (.int .i64 e)]) _).done;exact⟨k,_,S,x,p,e,rfl,h⟩
@[go_sem]def Z9(z x:dw)(l:List br):bL (.cells z.cells bf::l) 5 (.mp 0 0) (.agg x.cells)=a_ (.cells x.cells bf::l):=by
 rw[vA (k:=0) (Z:=z.cells) rfl rfl x];rfl
@[go_sem]def AI(x:dw)(l:List br):bA (.cells x.cells bf::l) bh 5 (.mp 0 0)=a_ (.agg x.cells):=vz rfl
@[go_sem]def an9(b:br)(z x:dw)(l:List br):bL (b:: .cells z.cells bf::l) 5 (.mp 1 0) (.agg x.cells)=a_ (b:: .cells x.cells bf::l):=by
 rw[vA (k:=1) (Z:=z.cells) rfl rfl x];rfl
@[go_sem]def Eh(b:br)(x:dw)(l:List br):bA (b:: .cells x.cells bf::l) bh 5 (.mp 1 0)=a_ (.agg x.cells):=vz rfl
@[go_sem]def an8(b:br)(k a lo Q n:Int)(w:List UInt8)(l:List br):bL (b:: .cells (hG ⟨k,a,lo,Q,w⟩) bf::l) 1 (.mp 1 2) (.v (.int .i64 n))=a_ (b:: .cells (hG ⟨k,a,n,Q,w⟩) bf::l):=rfl
@[go_sem]def SB(b:br)(k a lo Q n:Int)(w:List UInt8)(l:List br):bL (b:: .cells (hG ⟨k,a,lo,Q,w⟩) bf::l) 1 (.mp 1 3) (.v (.int .i64 n))=a_ (b:: .cells (hG ⟨k,a,lo,n,w⟩) bf::l):=rfl
def Cf:dw:=⟨0,0,0,0,[]⟩
def Z8:hG Cf=[.v (.int .i64 0),.v (.int .i64 0),.v (.int .i64 0),.v (.int .i64 0),.v (.string ⟨[].toArray⟩)]:=rfl
section
variable{G:Cells}
def arn(s:List UInt8)(hs:s.length<=1000000000)(cw:Nat)(ha:cw<s.length):dA G bE 149 [bu s,.v (.int .i64 (cw:Int))] (Ts cw s.length):=by
 refine dX (axV.go ?_);have f1:dH [.v (.int .i64 0),.v (.int .i64 0),.v (.int .i64 0),.v (.int .i64 0),.v (.string ⟨[].toArray⟩)] [(0,1,.v (.int .i64 5)),(1,1,.v (.int .i64 (cw:Int)))]=a_ (hG ⟨5,cw,0,0,[]⟩):=rfl;have p1:=λb x l=>an9 b Cf x l;have iN:=λx l=>Z9 Cf x l;rw[Z8] at p1 iN;refine wy ?_;refine ek (akJ s hs (cw+1) ha) ?_;rintro r ⟨m,p,rfl,J,hm⟩;refine wy (cL (λq=>?_) λq=>?_);obtain⟨p',e,he,sp⟩:=Sy (G:=G) s p;refine wy ?_;refine fk sp ?_;exact wx (om ⟨5,cw,0,0,[]⟩ λz=>absurd z he);have oY:0<=m:=an
 have ok:∀hh:Int,m<=20->(hh= -1\/(1<=hh/\hh<=20/\m<=hh))->dw.wg ⟨5,cw,m,hh,[]⟩:=λhh Vm h=>⟨aHJ,aI9,aId,λ_=>⟨oY,Vm,h⟩⟩;refine q7 ?_
 repeat' ((refine cL (λq=>?_) λq=>?_)<;>(have q':=q)<;>(simp -failIfUnchanged only[pG] at q')<;>(refine jl @wX @wz @q ?_))
 all_goals first
  |(refine wx ?_
    exact om ⟨5,cw,0,0,[]⟩ λz=>absurd z ag)
  |skip
 all_goals
  have LF:m<=20:=aa
  refine iu @an8 @SB @wz ?_
  repeat' ((refine cL (λq=>?_) λq=>?_)<;>(have q':=q)<;>(simp -failIfUnchanged only[pG] at q')<;>(refine jl @wX @wz @q ?_))
 all_goals first
  |(obtain⟨p',e,he,sp⟩:=Sy (G:=G) s p
    refine fk sp ?_;exact iu @Eh @iN @AI (om ⟨5,cw,m,m,[]⟩ λz=>absurd z he))
  |skip
 all_goals first
  |(exfalso;omega)
  |(refine iu @Eh @iN @AI ?_
    exact om ⟨5,cw,m,m,[]⟩ λ_=>⟨p+1,rfl,aa,aa,ok m LF (bF ⟨aa,aa,aa⟩)⟩)
  |skip
 all_goals
  refine iF @SB @wz ?_
  repeat' ((refine cL (λq=>?_) λq=>?_)<;>(have q':=q)<;>(simp -failIfUnchanged only[pG] at q')<;>(refine jl @wX @wz @q ?_))
 all_goals first
  |(exfalso;omega)
  |(refine iu @Eh @iN @AI ?_
    exact om ⟨5,cw,m, -1,[]⟩ λ_=>⟨p+1+1,rfl,aa,aa,ok _ LF (bD rfl)⟩)
  |skip
 all_goals
  refine ek (akJ s hs (p+1) aa) ?_;rintro r ⟨k,p2,rfl,jr,S⟩;refine ir (cL (λq=>?_) λq=>?_);obtain⟨p',e,he,sp⟩:=Sy (G:=G) s p2;refine fy @q ?_;refine fk sp ?_;exact iu @Eh @iN @AI (om ⟨5,cw,m, -1,[]⟩ λz=>absurd z he);have wL:0<=k:=an
  refine fy @q ?_
  repeat' ((refine cL (λq=>?_) λq=>?_)<;>(have q':=q)<;>(simp -failIfUnchanged only[pG] at q')<;>(refine jl @wX @wz @q ?_))
 all_goals first
  |(refine iu @Eh @iN @AI ?_
    exact om ⟨5,cw,m, -1,[]⟩ λz=>absurd z ag)
  |skip
 all_goals
  refine iF @SB @wz ?_
  repeat' ((refine cL (λq=>?_) λq=>?_)<;>(have q':=q)<;>(simp -failIfUnchanged only[pG] at q')<;>(refine jl @wX @wz @q ?_))
 all_goals first
  |(exfalso;omega)
  |(refine iu @Eh @iN @AI ?_
    exact om ⟨5,cw,m,k,[]⟩ λ_=>⟨p2+1,rfl,aa,aa,ok k LF (bF ⟨aa,aa,aa⟩)⟩)
  |(obtain⟨p',e,he,sp⟩:=Sy (G:=G) s p2
    refine fk sp ?_;exact iu @Eh @iN @AI (om ⟨5,cw,m,k,[]⟩ λz=>absurd z he))
def aAE(s:List UInt8)(hs:s.length<=1000000000)(cw:Nat)(ha:cw<s.length):dA G bE 81 [bu s,.v (.int .i64 (cw:Int))] (Ts cw s.length):=by
 refine dX (axB.go ?_);have fz:dH [.v (.int .i64 0),.v (.int .i64 0),.v (.int .i64 0),.v (.int .i64 0),.v (.string ⟨[].toArray⟩)] []=a_ (hG Cf):=rfl;have f1:∀w,dH [.v (.int .i64 0),.v (.int .i64 0),.v (.int .i64 0),.v (.int .i64 0),.v (.string ⟨[].toArray⟩)] [(0,1,.v (.int .i64 1)),(1,1,.v (.int .i64 (cw:Int))),(4,1,bu w)]=a_ (hG ⟨1,cw,0,0,w⟩):=λw=>rfl;have f2:∀k:Int,dH [.v (.int .i64 0),.v (.int .i64 0),.v (.int .i64 0),.v (.int .i64 0),.v (.string ⟨[].toArray⟩)] [(0,1,.v (.int .i64 k)),(1,1,.v (.int .i64 (cw:Int)))]=a_ (hG ⟨k,cw,0,0,[]⟩):=λk=>rfl;have f5:∀h:Int,dH [.v (.int .i64 0),.v (.int .i64 0),.v (.int .i64 0),.v (.int .i64 0),.v (.string ⟨[].toArray⟩)] [(0,1,.v (.int .i64 5)),(1,1,.v (.int .i64 (cw:Int))),(3,1,.v (.int .i64 h))]=a_ (hG ⟨5,cw,0,h,[]⟩):=λk=>rfl;have f6:dH [.v (.int .i64 0),.v (.int .i64 0),.v (.int .i64 0),.v (.int .i64 0),.v (.string ⟨[].toArray⟩)] [(0,1,.v (.int .i64 5)),(1,1,.v (.int .i64 (cw:Int))),(2,1,.v (.int .i64 1)),(3,1,.v (.int .i64 (-1)))]=a_ (hG ⟨5,cw,1, -1,[]⟩):=rfl;have iN:=λx l=>Z9 Cf x l;rw[Z8] at iN;have w1:dy.wrap ((cw:Int)+1)=((cw+1:Nat):Int):=lG aa;have akQ:∀w:List UInt8,w.length<=12->dw.wg ⟨1,cw,0,0,w⟩:=λw hw=>⟨(by show(1:Int)<=1;decide),aHJ,hw,λq=>absurd (show(1:Int)=5 from q) ag⟩;have Yb:∀k:Int,1<=k->k<=4->dw.wg ⟨k,cw,0,0,[]⟩:=λk Y V=>⟨Y,(by show k<=5;omega),aId,λq=>absurd (show k=5 from q) aa⟩;have X_:∀lo Q:Int,G3 lo Q->dw.wg ⟨5,cw,lo,Q,[]⟩:=λlo Q h=>⟨aHJ,aI9,aId,λ_=>h⟩;refine wx ?_;refine fk (Zk (oc s cw:Int)) ?_;cases Wz:(decide ((97:Int)<=(oc s cw:Int))&&decide ((oc s cw:Int)<=122)) with
 |true=>
  refine wy ?_;refine o9 (n:=s.length-cw) (λm e h=>∃i:Nat,m=s.length-i/\cw<=i/\i<=cw+12/\i<=s.length/\e=[(0,bu s),(1,.v (.int .i64 (cw:Int))),(4,.mp 0 0),(8,bq i)]/\h=[.cells (hG Cf) bf]) ⟨cw,rfl,aa,aa,aa,rfl,rfl⟩ ?_;rintro m e h ⟨i,rfl,Q,hi2,auC,rfl,rfl⟩;rw[Z8];refine wy ?_
  rcases d_ i s.length with hl|hl
  refine wx ?_;refine fk (Zk (oc s i:Int)) ?_;cases pQ:(decide ((97:Int)<=(oc s i:Int))&&decide ((oc s i:Int)<=122)) with
  |true=>
   refine wy ?_;refine c_ (λq=>?_) λq=>?_;exact om Cf λz=>absurd z ag;have:i-cw≠12:=by intro e;rw[e] at q;cases q
   exact⟨s.length-(i+1),aa,i+1,rfl,aa,aa,aa,rfl,trivial⟩
  |false=>
   refine wx ?_;refine fk (OZ (oc s i:Int)) ?_;cases oA:(decide ((48:Int)<=(oc s i:Int))&&decide ((oc s i:Int)<=57)) with
   |true=>
    refine wy ?_;refine c_ (λq=>?_) λq=>?_;exact om Cf λz=>absurd z ag;have:i-cw≠12:=by intro e;rw[e] at q;cases q
    exact⟨s.length-(i+1),aa,i+1,rfl,aa,aa,aa,rfl,trivial⟩
   |false=>
    have bR:cw<i:=by
     rcases d_ cw i with z|z
     exact z;have:i=cw:=aa
     subst this;rw[Wz] at pQ;cases pQ
    exact wx (om ⟨1,cw,0,0,(s.take i).drop cw⟩ λ_=>⟨i,rfl,aa,aa,akQ _ ah⟩)
  refine wx ?_;exact om ⟨1,cw,0,0,(s.take i).drop cw⟩ λ_=>⟨i,rfl,aa,aa,akQ _ ah⟩
 |false=>
  refine wy ?_
  repeat' ((refine cL (λq=>?_) λq=>?_)<;>(have q':=q)<;>(simp -failIfUnchanged only[pG] at q')<;>(refine Ns @f2 @f5 @f6 @fz @iN @AI @w1 @q ?_))
  all_goals first
   |exact om ⟨2,cw,0,0,[]⟩ λ_=>⟨cw+1,rfl,aa,aa,Yb _ ag ag⟩
   |exact om ⟨3,cw,0,0,[]⟩ λ_=>⟨cw+1,rfl,aa,aa,Yb _ ag ag⟩
   |exact om ⟨4,cw,0,0,[]⟩ λ_=>⟨cw+1,rfl,aa,aa,Yb _ ag ag⟩
   |exact om ⟨5,cw,0, -1,[]⟩ λ_=>⟨cw+1,rfl,aa,aa,X_ _ _ ⟨ag,ag,bD rfl⟩⟩
   |exact om ⟨5,cw,1, -1,[]⟩ λ_=>⟨cw+1,rfl,aa,aa,X_ _ _ ⟨ag,ag,bD rfl⟩⟩
   |exact om ⟨5,cw,0,1,[]⟩ λ_=>⟨cw+1,rfl,aa,aa,X_ _ _ ⟨ag,ag,bF ⟨ag,ag,ag⟩⟩⟩
   |exact om Cf λz=>absurd z ag
   |(refine ek (arn s hs cw ha) ?_
     rintro r ⟨x,p,e,rfl,I⟩;exact l6 @dw.bN.eq_1 @AI (om x I))
def aa9(n:Nat)(r:bg):Prop:=∃(v:bg) (l:List dw) (p e:Int),r=.bQ [v,.v (.int .i64 p),.v (.int .i64 e)]/\cG v (l.map mH)/\l.length<=n/\∀x∈l,x.wg
def aeW(x:dw):b8 J x.bN x.bN:=kA (bG (bH _) (bG (bH _) (bG (bH _) (bG (bH _) (bG (bH _) cW)))))
@[go_sem]def Rj(l:List dw):c8 5 (l.map mH)=bh:=by
 rw[c8,eO];intro x I;obtain⟨t,ht,rfl⟩:=dZ.1 I;rfl
def azb(s:List UInt8)(hs:s.length<=1000000000):dA G bE 42 [bu s] (aa9 s.length):=by
 refine dX (aw6.go ?_);have bad:∀(J:List br) (p e:Int),∃k bS,cX J k (.bQ [.bp,.v (.int .i64 p),.v (.int .i64 e)])=a_ bS/\aa9 s.length bS:=λJ p e=>by
  obtain⟨k,S⟩:=(fD (bG eB (bG (bH (.int .i64 p)) (bG (bH (.int .i64 e)) cW))):b8 J _ _).done;exact⟨k,_,S,.bp,[],p,e,rfl,bF ⟨rfl,rfl⟩,af,af⟩
 refine wy ?_;refine o9 (n:=s.length) (λm e h=>∃(i:Nat) (l:List dw) (bx:bg),m=s.length-i/\i<=s.length/\l.length<=i/\(∀x∈l,x.wg)/\e=[(0,bu s),(5,bx),(6,bq i)]/\cV h bx (l.map mH) 5 121) ⟨0,[],.bp,rfl,aa,af,af,rfl,sr _ _ _⟩ ?_;rintro m e h ⟨i,l,bx,rfl,Q,hl,I,rfl,hA⟩;have ln:=EO hA;refine wy ?_
 rcases d_ i s.length with hl1|hl1
 · refine wx (cL (λq=>?_) λq=>?_)
   refine wy ?_;exact⟨s.length-(i+1),aa,i+1,l,bx,rfl,aa,aa,I,rfl,hA⟩;refine wy ?_;have ext:∀b:br,cV (h++[b]) bx (l.map mH) 5 121:=λb=>by
    rcases hA with z|⟨id,cg,z2⟩
    exact bD z;exact bF ⟨id,cg,bU z2⟩
   refine c_ (λbt=>?_) λbt=>?_;refine ek (aqj _) ?_;rintro r ⟨b,rfl⟩;cases b
   rotate_left
   exact ir (bad _ _ _)
   all_goals
    refine wy ?_;refine ek (aAE s hs i hl1) ?_;rintro r ⟨x,p,e,rfl,avS⟩;have s1:=yE h x;unfold iw at s1;have g1:bA (h++[bw x.cells bf]) bh 5 (.mp h.length 0)=a_ (.agg x.cells):=vz af;refine hD @dw.bN.eq_1 (cL (λbT=>?_) λbT=>?_);exact fy @bT (bad _ _ _);obtain⟨p',rfl,Y,V,h3⟩:=avS (by simpa using bT);obtain⟨cj,g,e1,fo,_⟩:=ni (x:=x.bN) (b6:=48) (ext (.cells x.cells bf)) (Rj l) rfl ag ag ah;have ab:e9 5 [.agg x.cells]=a_ (.sl [x.bN] .exact):=rfl;refine wy ?_;refine⟨s.length-p',aa,p',l++[x],cj,rfl,aa,ah,?_,rfl,aHz⟩;intro y hy
    rcases gA.1 hy with z|z
    exact I y z;rw[dR.1 z];exact h3
 refine wy ?_
 rcases hA with⟨rfl,z⟩|⟨id,rfl,_⟩
 exact bad _ _ _;obtain⟨k,S⟩:=(fD (bG (gP (t:=.tok id) (iW (f:=mH) (l:=l) λa _=>aeW a)) (bG (bH (.int .i64 0)) (bG (bH (.int .i64 0)) cW))):b8 h _ _).done;exact⟨k,_,S,_,l,0,0,rfl,bD rfl,aa,I⟩
end
end
section
variable{l:List dw}{i:Nat}{k:Int}
def kd(l:List dw)(i:Nat):Int:=((l[i]?).map dw.kind).getD 0
def DJ{x:dw}(h:l[i]?=a_ x):kd l i=x.kind:=by unfold kd;rw[h];rfl
def xj(k:Int):Int:=if k=2 then 1 else if k=3 then -1 else 0
def gB(l:List dw)(a:Nat):Nat->Int
 |0=>0
 |n+1=>gB l a n+xj (kd l (a+n))
def wA(l:List dw)(a n:Nat):gB l a (n+1)=gB l a n+xj (kd l (a+n)):=rfl
def KF(l:List dw)(a m:Nat):∀n,gB l a (m+n)=gB l a m+gB l (a+m) n
 |0=>by simp[gB]
 |n+1=>by rw[<-nG,wA,wA,KF l a m n,nG a m n];omega
def am3(k:Int): -1<=xj k/\xj k<=1:=by unfold xj;split<;>(try split)<;>omega
def GG(h:k=2):xj k=1:=by unfold xj;rw[if_pos h]
def R9(h:k=3):xj k= -1:=by unfold xj;rw[if_neg aa,if_pos h]
def GF(h:k≠2)(h3:k≠3):xj k=0:=by unfold xj;rw[if_neg h,if_neg h3]
def Uv(l:List dw)(a:Nat):∀n:Nat, -(n:Int)<=gB l a n/\gB l a n<=(n:Int)
 |0=>by simp[gB]
 |n+1=>by
  have h:=Uv l a n;have V:=am3 (kd l (a+n));rw[wA];omega
structure uO(l:List dw):Prop where
 first:0<l.length->kd l 0=1\/kd l 0=2
 Rg:∀i,i<l.length->(kd l i=2\/kd l i=4)->i+1<l.length/\(kd l (i+1)=1\/kd l (i+1)=2)
 cnt:∀i,i<l.length->kd l i=5->0<i/\(kd l (i-1)=1\/kd l (i-1)=3)
 low:∀n,n<=l.length->0<=gB l 0 n
 shut:gB l 0 l.length=0
structure mg(l:List dw)(a b:Nat):Prop where
 lt:a<b
 le:b<=l.length
 hd:kd l a=1\/kd l a=2
 arM:kd l (b-1)≠2
 KK:kd l (b-1)≠4
 low:∀n,a+n<=b->0<=gB l a n
 shut:gB l a (b-a)=0
def asg(p:Nat->Prop):∀N:Nat,p N->∃n,n<=N/\p n/\∀t,t<n->¬p t:=by
 intro N
 induction N using Nat.strongRecOn with
 |_ N ih=>
  intro h;by_cases I:∃t,t<N/\p t;obtain⟨t,Y,V⟩:=I;obtain⟨n,g1,g2,g3⟩:=ih t Y V;exact⟨n,aa,g2,g3⟩;exact⟨N,ck _,h,λt ht J=>I ⟨t,ht,J⟩⟩
def uO.all(h:uO l)(S:∀i,i<l.length->1<=kd l i/\kd l i<=5)(h0:0<l.length):mg l 0 l.length:=by
 have hl:=h.Rg (l.length-1) aa;refine⟨h0,ck _,h.first h0,λe=>?_,λe=>?_,λn hn=>h.low n aa,by rw[GZ];exact h.shut⟩;have:=(hl (bD e)).1;omega;have:=(hl (bF e)).1;omega
def jL(l:List dw)(a i:Nat):Prop:=gB l a (i-a)=0
def ze(l:List dw)(a b:Nat):Prop:=∀t,a<=t->t<b->jL l a t->kd l t≠4
def CB(l:List dw)(a b:Nat):Prop:=∀t,a<t->t<b->jL l a t->kd l t≠1/\kd l t≠2
section
variable{l:List dw}{a b:Nat}
def jL.succ(h:jL l a i)(ha:a<=i)(V:kd l i≠2)(h3:kd l i≠3):jL l a (i+1):=by
 unfold jL at*;rw[show i+1-a=(i-a)+1 by omega,wA,h,show a+(i-a)=i by omega,GF V h3];rfl
def mg.DV(h:mg l a b)(ha:a<=i)(O:i<b)(ht:jL l a i):kd l i≠3:=by
 intro e;have:=h.low (i-a+1) aa;unfold jL at ht;rw[wA,ht,show a+(i-a)=i by omega,R9 e] at this;omega
def mg.skip(h:mg l a b){n:Nat}(ha:a<=i)(O:i<b)(ht:jL l a i)(V:kd l i=2)(hz:i+n<l.length->gB l i (n+1)=0)(hn:∀t,t<n->gB l i (t+1)≠0):
  i+n<b/\jL l a (i+n+1)/\∀t,i<t->t<=i+n->¬jL l a t:=by
 have e1:gB l i (b-i)=0:=by
  have:=KF l a (i-a) (b-i);rw[show i-a+(b-i)=b-a by omega,h.shut,show a+(i-a)=i by omega] at this;unfold jL at ht;omega
 have cQ:i+n<b:=by
  rcases d_ (i+n) b with z|z
  exact z;exact absurd (by rw[show b-i-1+1=b-i by omega];exact e1) (hn (b-i-1) aa)
 have hd:=λt=>KF l a (i-a) t;have bK:=h.le;refine⟨cQ,?_,λt Y h3 hq=>?_⟩;unfold jL at*;rw[show i+n+1-a=i-a+(n+1) by omega,hd,ht,show a+(i-a)=i by omega,hz aa];rfl;unfold jL at*;rw[show t-a=i-a+(t-i-1+1) by omega,hd,ht,show a+(i-a)=i by omega] at hq;exact hn (t-i-1) aa aa
def mg.piece(h:mg l a b){c:Nat}(HX:a<=c)(VR:c<i)(Wa:i<=b)(T:jL l a c)(Q:jL l a i)(S:kd l c=1\/kd l c=2)(V:kd l (i-1)≠2)(h4:kd l (i-1)≠4):mg l c i:=by
 have e:∀n,gB l c n=gB l a (c-a+n):=λn=>by
  have:=KF l a (c-a) n;rw[show a+(c-a)=c by omega] at this;unfold jL at T;omega
 have bK:=h.le;refine⟨VR,aa,S,V,h4,λn hn=>?_,?_⟩;rw[e];exact h.low _ aa;rw[e,show c-a+(i-c)=i-a by omega];exact Q
def uO.prev(w:uO l)(Q:0<i)(hl:i<l.length)(Y:kd l i≠1)(V:kd l i≠2):kd l (i-1)≠2/\kd l (i-1)≠4:=by
 have:=w.Rg (i-1) aa;rw[show i-1+1=i by omega] at this;exact⟨λe=>by have:=this (bD e);omega,λe=>by have:=this (bF e);omega⟩
def mg.aEv(h:mg l a b)(w:uO l)(h5:kd l (b-1)=5):mg l a (b-1):=by
 have cQ:=h.lt;have bK:=h.le;have hd:=h.hd;have hab:a≠b-1:=by intro e;rw[<-e] at h5;omega
 obtain⟨p1,p2⟩:=w.prev (i:=b-1) aa aa aa aa;refine⟨aa,aa,h.hd,p1,p2,λn hn=>h.low n aa,?_⟩;have:=h.shut;rw[show b-a=b-1-a+1 by omega,wA,show a+(b-1-a)=b-1 by omega,GF aa aa] at this;omega
def mg.inner(h:mg l a b)(w:uO l)(S:∀i,i<l.length->1<=kd l i/\kd l i<=5)(nb:ze l a b)(ns:CB l a b)(V:kd l a=2)(h5:kd l (b-1)≠5):mg l (a+1) (b-1):=by
 have cQ:=h.lt;have bK:=h.le;obtain⟨n,n1,n2,lX⟩:=asg (λn=>gB l a (n+1)=0) (b-a-1) (by show gB l a (b-a-1+1)=0;rw[show b-a-1+1=b-a by omega];exact h.shut);have n0:n≠0:=by
  intro e;subst e;have:gB l a 1=1:=by rw[wA,uE,GG V];rfl
  have q:gB l a 1=0:=n2;omega
 have aum:a+n=b-1:=by
  rcases d_ (a+n) (b-1) with z|z
  have apO:∀k,a+n+1+k<b->jL l a (a+n+1+k)/\kd l (a+n+1+k)=5:=by
   intro k
   induction k with
   |zero=>
    intro gD;have ht:jL l a (a+n+1+0):=by
     unfold jL;rw[show a+n+1+0-a=n+1 by omega];exact n2
    have:=h.DV aa gD ht;have:=nb _ aa gD ht;have:=ns _ aa gD ht;have:=S (a+n+1+0) aa;exact⟨ht,aa⟩
   |succ k ih=>
    intro gD;obtain⟨t1,t2⟩:=ih aa;have ht:jL l a (a+n+1+(k+1)):=t1.succ aa aa aa;have:=h.DV aa gD ht;have:=nb _ aa gD ht;have:=ns _ aa gD ht;have:=S (a+n+1+(k+1)) aa;exact⟨ht,aa⟩
  have:=(apO (b-1-(a+n+1)) aa).2;rw[show a+n+1+(b-1-(a+n+1))=b-1 by omega] at this;exact absurd this h5;omega
 have pos:∀t,t<n->1<=gB l a (t+1):=λt ht=>by
  have:=lX t ht;have:=h.low (t+1) aa;omega
 have o3:gB l a n=1/\kd l (b-1)=3:=by
  have e:=n2;rw[wA,aum] at e;have p:=pos (n-1) aa;rw[show n-1+1=n by omega] at p;have s:=am3 (kd l (b-1));refine⟨aa,?_⟩;by_cases q:kd l (b-1)=2;rw[GG q] at e;omega;by_cases bT:kd l (b-1)=3;exact bT;rw[GF q bT] at e;omega
 have e:∀n,gB l (a+1) n=gB l a (n+1)-1:=λn=>by
  have:=KF l a 1 n;have q:gB l a 1=1:=by rw[wA,uE,GG V];rfl
  rw[Nat.add_comm 1 n] at this;omega
 have ff:=(w.Rg a aa (bD V)).2;have bR:a+1≠b-1:=by intro e;rw[e,o3.2] at ff;omega
 obtain⟨p1,p2⟩:=w.prev (i:=b-1) aa aa (by rw[o3.2];decide) (by rw[o3.2];decide);refine⟨aa,aa,ff,p1,p2,λt ht=>?_,?_⟩;rw[e];have:=pos t aa;omega;rw[e,show b-1-(a+1)+1=n by omega,o3.1];rfl
end
structure S9(l:List dw)(a b e:Nat)(Z:List Nat):Prop where
 j6:∀x∈Z,a<=x/\x<=b
 two:2<=Z.length
 seg:∀k x y,Z[k]?=a_ x->Z[k+1]?=a_ y->k+2<Z.length->mg l x (y-e)/\e<=y/\y-e-x<b-a
 fin:∀k x y,Z[k]?=a_ x->Z[k+1]?=a_ y->k+2=Z.length->mg l x y/\(2<Z.length->y-x<b-a)
structure ri(l:List dw)(a b e i:Nat)(Z:List Nat)(c:Nat):Prop where
 j6:∀x∈Z,a<=x/\x<=b
 last:Z[Z.length-1]?=a_ c
 ne:0<Z.length
 ac:a<=c
 ci:c<=i
 cb:c<b
 cn:Z.length<=i+1
 S:kd l c=1\/kd l c=2
 D_:jL l a c
 ti:jL l a i
 fst:1<Z.length->a<c
 seg:∀k x y,Z[k]?=a_ x->Z[k+1]?=a_ y->mg l x (y-e)/\e<=y/\y-e-x<b-a
section
variable{l:List dw}{a b e i c:Nat}{Z:List Nat}
def ri.push(h:ri l a b e i Z c){y:Nat}(D:mg l c (y-e))(he:e<=y)(hs:y-e-c<b-a)(hy:a<y)(aGJ:y<=i+1)(Qp:y<b)(S:kd l y=1\/kd l y=2)(ty:jL l a y)(j:Nat)(hj:i+1<=j)(M9:jL l a j):ri l a b e j (Z++[y]) y:=by
 have hl:=h.ne;have zY:=h.cn;have cQ:=D.lt;refine⟨λx I=>by
  rcases gA.1 I with z|z
  exact h.j6 x z;rw[dR.1 z];omega,af,af,aa,aa,Qp,ah,S,ty,M9,λ_=>hy,?_⟩
 intro k x z Y V;rw[aaE] at Y V;split at V;rename_i q;rw[if_pos aa] at Y;exact h.seg k x z Y V;rename_i q;have hk2:k+1=Z.length:=by
  rcases d_ (k+1-Z.length) 1 with w|w
  omega;rw[jJ ah] at V;cases V
 rw[hk2,lM] at V;rw[if_pos aa,show k=Z.length-1 by omega,h.last] at Y;cases Y;have:y=z:=aE
 subst this;exact⟨D,he,hs⟩
def ri.skip(h:ri l a b e i Z c){j:Nat}(hj:i<=j)(M9:jL l a j):ri l a b e j Z c:=by
 have:=h.ci;have:=h.cn;exact⟨h.j6,h.last,h.ne,h.ac,aa,h.cb,aa,h.S,h.D_,M9,h.fst,h.seg⟩
def ri.done(h:ri l a b e b Z c)(R:mg l a b):S9 l a b e (Z++[b]):=by
 have hl:=h.ne;have VP:=h.cb;have HX:=h.ac;have D:mg l c b:=R.piece h.ac h.cb (ck _) h.D_ R.shut h.S R.arM R.KK;refine⟨λx I=>by
  rcases gA.1 I with z|z
  exact h.j6 x z;rw[dR.1 z];omega,ah,?_,?_⟩
 intro k x z Y V h3;rw[en,p8] at h3;rw[aaE,if_pos aa] at Y V;exact h.seg k x z Y V;intro k x z Y V h3;rw[en,p8] at h3;rw[aaE,if_pos aa] at Y;rw[aaE,if_neg aa] at V;rw[show k=Z.length-1 by omega,h.last] at Y;cases Y;rw[show k+1-Z.length=0 by omega] at V;have:b=z:=aE
 subst this;refine⟨D,λq=>?_⟩;have:=h.fst au;omega
def ri.start(R:mg l a b):ri l a b e a [a] a:=by
 have t0:jL l a a:=by unfold jL;rw[lM];rfl
 have:=R.lt;refine⟨λx I=>by rw[dR.1 I];omega,rfl,af,ck _,ck _,R.lt,af,R.hd,t0,t0,λq=>by simp at q,?_⟩;intro k x y Y V;rw[jJ af] at V;cases V
end
end
section
variable{l:List dw}{J:List br}{a b:Nat}
def EC(l:List dw)(i:Nat):Prop:=i=0\/kd l (i-1)=2\/kd l (i-1)=4
def JX(l:List dw)(i:Nat):Prop:=i=0\/(kd l (i-1)≠1/\kd l (i-1)≠3)
structure NU(l:List dw)(i:Nat):Prop where
 low:∀n,n<=i->0<=gB l 0 n
 fr:∀j,j<i->EC l j->kd l j=1\/kd l j=2
 fl:∀j,j<i->kd l j=5->¬JX l j
def NU.Ec(h:NU l l.length)(Y:0<l.length->¬EC l l.length)(V:gB l 0 l.length<=0):uO l:=by
 refine⟨λh0=>h.fr 0 h0 (bD rfl),λi Q S=>?_,λi Q S=>?_,h.low,?_⟩;have f:EC l (i+1):=by
  unfold EC;rw[SV];exact bF S
 rcases d_ (i+1) l.length with z|z
 exact⟨z,h.fr _ z f⟩;rw[show i+1=l.length by omega] at f;exact absurd f (Y aa);have:=h.fl i Q S;unfold JX at this;refine⟨?_,?_⟩
 rcases Ct i with z|z
 exact absurd (bD z) this;exact z;by_cases q1:kd l (i-1)=1;exact bD q1;by_cases bT:kd l (i-1)=3;exact bF bT;exact absurd (bF ⟨q1,bT⟩) this;have:=h.low l.length (ck _);omega
def aaV(l:List dw)(r:bg):Prop:=∃(p:Int) (b:Bool),r=.bQ [.v (.int .i64 p),.v (.bool b)]/\((p= -1/\(b=bf->uO l))\/∃i:Nat,p=(i:Int)/\i<l.length)
def aep{p:Int}{b:Bool}(h:(p= -1/\(b=bf->uO l))\/∃i:Nat,p=(i:Int)/\i<l.length):∃k bS,cX J k (.bQ [.v (.int .i64 p),.v (.bool b)])=a_ bS/\aaV l bS:=by
 obtain⟨k,S⟩:=(fD (bG (bH (.int .i64 p)) (bG (bH (.bool b)) cW)):b8 J _ _).done;exact⟨k,_,S,p,b,rfl,h⟩
@[go_sem]def qW(x:dw)(J:List br):bA J bf 1 (.fp x.cells 0)=a_ (.v (.int .i64 x.kind)):=rfl
def abq(l:List dw)(i:Nat)(r:bg):Prop:=∃n:Nat,r=.v (.int .i64 ((i+n:Nat):Int))/\i+n<=l.length/\(i+n<l.length->gB l i (n+1)=0)/\∀t,t<n->gB l i (t+1)≠0
def Ph{i n:Nat}(h:i+n<=l.length/\(i+n<l.length->gB l i (n+1)=0)/\∀t,t<n->gB l i (t+1)≠0):∃k bS,cX J k (.v (.int .i64 ((i+n:Nat):Int)))=a_ bS/\abq l i bS:=by
 obtain⟨k,S⟩:=(bH (.int .i64 ((i+n:Nat):Int)):b8 J _ _).done;exact⟨k,_,S,n,rfl,h⟩
def nS(Z:List Nat):List bg:=Z.map λc:Nat=>cU (.int .i64 (c:Int))
@[go_sem]def My(Z:List Nat):c8 1 (nS Z)=bh:=by
 rw[c8,eO];intro x I;obtain⟨t,ht,rfl⟩:=dZ.1 I;rfl
def NW(l:List dw)(a b e:Nat)(X:Prop)(r:bg):Prop:=∃Z:List Nat,r=.sl (nS Z) .no/\S9 l a b e Z/\Z.length<=l.length+2/\(Z.length=2->X)
def ak6{v:bg}{e:Nat}{X:Prop}{Z:List Nat}(h:me 0 J v (nS Z) 1 3)(Y:S9 l a b e Z)(V:Z.length<=l.length+2)(h3:Z.length=2->X):∃k bS,cX J k v=a_ bS/\NW l a b e X bS:=by
 rcases h with rfl|⟨id,rfl,_⟩
 obtain⟨n,hn⟩:=(gP (t:=.exact) (iW (f:=λc:Nat=>cU (.int .i64 (c:Int))) (l:=Z) λa _=>bH _):b8 J _ _).done;exact⟨n,_,hn,Z,rfl,Y,V,h3⟩;obtain⟨n,hn⟩:=(gP (t:=.tok id) (iW (f:=λc:Nat=>cU (.int .i64 (c:Int))) (l:=Z) λa _=>bH _):b8 J _ _).done;exact⟨n,_,hn,Z,rfl,Y,V,h3⟩
section
variable{G:Cells}{v:bg}{l:List dw}
def aqJ(hv:cG v (l.map mH))(hl:l.length<=1000000000):dA G bE 43 [v] (aaV l):=by
 refine dX (aw7.go ?_);have ln:=hv.cN;rw[dj] at ln;have lC:∀J,cN v J=a_ (.v (.int .i64 (l.length:Int)),J):=λJ=>aHC
 refine fj ?_;refine dx (λi e h=>∃(d:Int) (f g:Bool),e=[(0,v),(4,.v (.int .i64 d)),(5,.v (.bool f)),(6,.v (.bool g)),(7,bq i)]/\d=gB l 0 i/\(f=bh↔EC l i)/\(g=bh↔JX l i)/\NU l i/\h=[]) l.length ⟨0,bh,bh,rfl,rfl,⟨λ_=>bD rfl,λ_=>rfl⟩,⟨λ_=>bD rfl,λ_=>rfl⟩,⟨λn hn=>by rw[show n=0 by omega];exact Cq _,λj hj=>aa,λj hj=>aa⟩,rfl⟩ ?_ ?_
 · rintro i e h Q ⟨d,f,g,rfl,hd,hf,hg,hC,rfl⟩
   obtain⟨x,I⟩:=cO Q;have e1:cA 5 v (.v (.int .i64 (i:Int)))=a_ (.fp x.cells 0):=hv.cI (x:=x.bN) aA rfl;have S:=DJ I;have hab:=Uv l 0 i;rw[<-hd] at hab;have VT:0<=d:=by rw[hd];exact hC.low i (ck _)
   have c6:=wA l 0 i;rw[gF,S,<-hd] at c6;have d2:x.kind=2->dy.wrap (d+1)=gB l 0 (i+1):=λq=>by rw[c6,GG q,gN aa aa]
   have d3:x.kind=3->dy.wrap (d-1)=gB l 0 (i+1):=λq=>by rw[c6,R9 q,gN aa aa];rfl
   have d0:x.kind≠2->x.kind≠3->d=gB l 0 (i+1):=λq bT=>by rw[c6,GF q bT];omega
   have Bq:EC l (i+1)↔x.kind=2\/x.kind=4:=by unfold EC;rw[SV,S];simp
   have x6:JX l (i+1)↔x.kind≠1/\x.kind≠3:=by unfold JX;rw[SV,S];simp
   have step:(x.kind=3->d≠0)->(f=bh->x.kind=1\/x.kind=2)->(x.kind=5->g=bf)->NU l (i+1):=λY V h3=>by
    refine⟨λn hn=>?_,λj hj q=>?_,λj hj q=>?_⟩
    rcases d_ n (i+1) with z|z
    exact hC.low n aa;rw[show n=i+1 by omega,c6];by_cases bt:x.kind=2;rw[GG bt];omega;by_cases bT:x.kind=3;have:=Y bT;rw[R9 bT];omega;rw[GF bt bT];omega
    rcases d_ j i with z|z
    exact hC.fr j z q;obtain rfl:j=i:=aa
    rw[S];exact V (hf.2 q)
    rcases d_ j i with z|z
    exact hC.fl j z q;obtain rfl:j=i:=aa
    rw[S] at q;intro bt;have:=hg.2 bt;rw[h3 q] at this;cases this
   cases f<;>cases g
   all_goals
    refine p5 @bq.eq_1 @lC @e1 @zl @qW ?_
    repeat' ((refine cL (λq=>?_) λq=>?_)<;>(have q':=q)<;>(simp -failIfUnchanged only[pG] at q')<;>(refine eN @q ?_))
   all_goals first
    |(exfalso;omega)
    |exact aep (bF ⟨i,rfl,Q⟩)
    |exact⟨_,_,_,rfl,d2 aa,aJs,aJt,step (λ_=>aa) (λq=>aIG) (λ_=>aIR),trivial⟩
    |exact⟨_,_,_,rfl,d3 aa,aJs,aJt,step (λ_=>aa) (λq=>aIG) (λ_=>aIR),trivial⟩
    |exact⟨_,_,_,rfl,d0 aa aa,aJs,aJt,step (λ_=>aa) (λq=>aIG) (λ_=>aIR),trivial⟩
 · rintro e h ⟨d,f,g,rfl,hd,hf,hg,hC,rfl⟩
   refine wy ?_;cases f
   all_goals repeat' refine ba (λq'=>?_) λq'=>?_
   all_goals
    exact aep (bD ⟨rfl,λe=>by
     first
      |(cases e;done)
      |exact hC.Ec (λq=>aa) (by rw[show l.length=0 by omega];exact Cq _)
      |exact hC.Ec (λq z=>by cases(hf.2 z)) (by rw[<-hd];simp at e;omega)⟩)
def amt(hv:cG v (l.map mH))(hl:l.length<=1000000000)(i0:Nat)(V8:i0<=l.length):dA G bE 150 [v,.v (.int .i64 (i0:Int))] (abq l i0):=by
 refine dX (axW.go ?_);have ln:=hv.cN;rw[dj] at ln;have lC:∀J,cN v J=a_ (.v (.int .i64 (l.length:Int)),J):=λJ=>aHC
 refine wy ?_;refine dx (λn e h=>∃d:Int,e=[(0,v),(5,.v (.int .i64 d)),(6,.v (.int .i64 ((i0+n:Nat):Int)))]/\d=gB l i0 n/\(∀t,t<n->gB l i0 (t+1)≠0)/\h=[]) (l.length-i0) ⟨0,rfl,rfl,λt ht=>aa,rfl⟩ ?_ ?_;rintro n e h hn ⟨d,rfl,hd,hI,rfl⟩;obtain⟨x,I⟩:∃x,l[i0+n]?=a_ x:=⟨l[i0+n],cx aa⟩;have e1:cA 5 v (.v (.int .i64 ((i0+n:Nat):Int)))=a_ (.fp x.cells 0):=hv.cI (x:=x.bN) aA rfl;have S:=DJ I;have hab:=Uv l i0 n;rw[<-hd] at hab;have c6:=wA l i0 n;rw[S,<-hd] at c6;have d2:x.kind=2->dy.wrap (d+1)=gB l i0 (n+1):=λq=>by rw[c6,GG q,gN aa aa]
 have d3:x.kind=3->dy.wrap (d-1)=gB l i0 (n+1):=λq=>by rw[c6,R9 q,gN aa aa];rfl
 have d0:x.kind≠2->x.kind≠3->d=gB l i0 (n+1):=λq bT=>by rw[c6,GF q bT];omega
 have ff:dy.wrap (((i0+n:Nat):Int)+1)=((i0+(n+1):Nat):Int):=by rw[lG aa];rfl
 have Ur:gB l i0 (n+1)≠0->∀t,t<n+1->gB l i0 (t+1)≠0:=λq t ht=>by
  rcases d_ t n with z|z
  exact hI t z;rw[show t=n by omega];exact q
 have F9:decide (((i0+n:Nat):Int)<(l.length:Int))=bh:=ah
 by_cases bt:x.kind=2;have:=d2 bt;refine yQ @lC @F9 @e1 @qW @bt @this ?_;refine c_ (λq=>?_) λq=>?_;exact Ph ⟨aa,λ_=>an,hI⟩;refine fy @ff ?_;exact⟨_,rfl,rfl,Ur an,trivial⟩;have n2:(x.kind==2)=bf:=aX
 by_cases bT:x.kind=3;have:=d3 bT;refine yQ @lC @F9 @e1 @qW @bT @this ?_;refine c_ (λq=>?_) λq=>?_;exact Ph ⟨aa,λ_=>an,hI⟩;refine fy @ff ?_;exact⟨_,rfl,rfl,Ur an,trivial⟩;have lX:(x.kind==3)=bf:=by simpa using bT
 have:=d0 bt bT;refine yQ @lC @F9 @e1 @qW @n2 @lX ?_;refine c_ (λq=>?_) λq=>?_;exact Ph ⟨aa,λ_=>by rw[<-this];simpa using q,hI⟩;refine fy @ff ?_;exact⟨_,rfl,this,Ur (by rw[<-this];simpa using q),trivial⟩;rintro e h ⟨d,rfl,hd,hI,rfl⟩;refine wy ?_;have:=Ph (J:=[]) (l:=l) (i:=i0) (n:=l.length-i0) ⟨aa,λq=>aa,hI⟩;rw[show i0+(l.length-i0)=l.length by omega] at this;exact this
def aqi(hv:cG v (l.map mH))(T:eP v)(hl:l.length<=1000000000)(w:uO l)(R:mg l a b):dA G bE 82 [v,.v (.int .i64 (a:Int)),.v (.int .i64 (b:Int)),.v (.int .i64 3)] (NW l a b 1 (ze l a b)):=by
 refine dX (ah7.go ?_);have bK:=R.le;have cQ:=R.lt;refine q7 ?_;refine o9 (n:=b-a) (λm e h=>∃(i c:Nat) (Z:List Nat) (bx:bg),m=b-i/\i<=b/\e=[(0,v),(1,.v (.int .i64 (a:Int))),(2,.v (.int .i64 (b:Int))),(3,.v (.int .i64 3)),(9,bx),(10,.v (.int .i64 (i:Int)))]/\ri l a b 1 i Z c/\(Z.length=1->ze l a i)/\me 0 h bx (nS Z) 1 3) ⟨a,a,[a],_,rfl,aa,rfl,ri.start R,λ_ t Y V=>aa,bD rfl⟩ ?_;rintro m e h ⟨i,c,Z,bx,rfl,Wa,rfl,hI,hN,hA⟩
 rcases d_ i b with Q|Q
 obtain⟨x,I⟩:∃x,l[i]?=a_ x:=⟨l[i],cx aa⟩;have e1:cA 5 v (.v (.int .i64 (i:Int)))=a_ (.fp x.cells 0):=hv.cI (x:=x.bN) aA rfl;have S:=DJ I;have HX:=hI.ac;have VR:=hI.ci;have zY:=hI.cn;have DV:=R.DV aa Q hI.ti;have ext:∀j,i<=j->(∀t,i<=t->t<j->jL l a t->kd l t≠4)->Z.length=1->ze l a j:=λj hj Y V t t1 t2 t3=>by
  rcases d_ t i with z|z
  exact hN V t t1 z t3;exact Y t z t2 t3
 by_cases fh:x.kind=4;have jG:kd l i=4:=by rw[S,fh]
 have aGf:c≠i:=by intro e;have:=hI.S;rw[e,jG] at this;omega
 obtain⟨p1,p2⟩:=w.prev (i:=i) aa aa aa aa;have pc:=R.piece HX aa (by omega:i<=b) hI.D_ hI.ti hI.S p1 p2;obtain⟨_,ff⟩:=w.Rg i aa (bF jG);have auD:i+1<b:=by
  rcases d_ (i+1) b with z|z
  exact z;have:=R.KK;rw[show b-1=i by omega] at this;exact absurd jG this
 have ty:=hI.ti.succ aa aa aa;have P:=hI.push (y:=i+1) (by rw[SV];exact pc) aa aa aa aa auD ff ty (i+1) (ck _) ty;obtain⟨cj,g,e2,fo,_⟩:=Gh (x:=.v (.int .i64 ((i+1:Nat):Int))) (b6:=8) hA (jR _) (My Z) rfl ag ag aJn;refine Cb @e1 @zl @qW @fh @zk @e2 ?_;exact⟨b-(i+1),aa,i+1,i+1,Z++[i+1],cj,rfl,aa,rfl,P,λz=>aH4,aHy⟩;have ie:(x.kind==4)=bf:=aIb
 by_cases bt:x.kind=2;have k2:kd l i=2:=by rw[S,bt]
 refine sn @qW ?_;refine ek (amt hv hl i aa) ?_;rintro r ⟨n,rfl,Y,V,h3⟩;obtain⟨s1,s2,eK⟩:=R.skip aa Q hI.ti k2 V h3;refine wy ?_;refine⟨b-(i+n+1),aa,i+n+1,c,Z,bx,rfl,aa,rfl,hI.skip aa s2,ext _ aa λt t1 t2 t3=>?_,hA⟩
 rcases d_ i t with z|z
 exact absurd t3 (eK t z aa);rw[show t=i by omega,k2];decide;have n2:(x.kind==2)=bf:=aX
 refine p5 @e1 @zl @qW @ie @n2 ?_;refine⟨b-(i+1),aa,i+1,c,Z,bx,rfl,aa,rfl,hI.skip aa (hI.ti.succ aa (by rw[S];exact bt) DV),ext _ aa λt t1 t2 t3=>?_,hA⟩;rw[show t=i by omega,S];exact fh;obtain rfl:i=b:=aa
 have zY:=hI.cn;obtain⟨cj,g,e2,fo,_⟩:=Gh (x:=.v (.int .i64 (i:Int))) (b6:=8) hA (jR _) (My Z) rfl ag ag aJn;exact wy (ak6 (Z:=Z++[i]) aHy (hI.done R) ah λz=>hN aN)
def aCy(hv:cG v (l.map mH))(T:eP v)(hl:l.length<=1000000000)(w:uO l)(R:mg l a b)(nb:ze l a b):dA G bE 82 [v,.v (.int .i64 (a:Int)),.v (.int .i64 (b:Int)),.v (.int .i64 2)] (NW l a b 0 (CB l a b)):=by
 refine dX (ah7.go ?_);have bK:=R.le;have cQ:=R.lt;refine wy ?_;refine o9 (n:=b-a) (λm e h=>∃(i c:Nat) (Z:List Nat) (bx:bg),m=b-i/\i<=b/\e=[(0,v),(1,.v (.int .i64 (a:Int))),(2,.v (.int .i64 (b:Int))),(3,.v (.int .i64 2)),(9,bx),(10,.v (.int .i64 (i:Int)))]/\ri l a b 0 i Z c/\(c<i\/i=a)/\(Z.length=1->CB l a i)/\me 0 h bx (nS Z) 1 3) ⟨a,a,[a],_,rfl,aa,rfl,ri.start R,bF rfl,λ_ t Y V=>aa,bD rfl⟩ ?_;rintro m e h ⟨i,c,Z,bx,rfl,Wa,rfl,hI,aGg,hN,hA⟩
 rcases d_ i b with Q|Q
 obtain⟨x,I⟩:∃x,l[i]?=a_ x:=⟨l[i],cx aa⟩;have e1:cA 5 v (.v (.int .i64 (i:Int)))=a_ (.fp x.cells 0):=hv.cI (x:=x.bN) aA rfl;have S:=DJ I;have HX:=hI.ac;have VR:=hI.ci;have zY:=hI.cn;have DV:=R.DV aa Q hI.ti;have ext:∀j,i<=j->(∀t,a<t->i<=t->t<j->jL l a t->kd l t≠1/\kd l t≠2)->Z.length=1->CB l a j:=λj hj Y V t t1 t2 t3=>by
  rcases d_ t i with z|z
  exact hN V t t1 z t3;exact Y t t1 z t2 t3
 have cut:a<i->(kd l i=1\/kd l i=2)->∀j,i+1<=j->jL l a j->ri l a b 0 j (Z++[i]) i:=λY V j hj M9=>by
  have pr:jL l a (i-1)->kd l (i-1)≠4:=λq=>nb _ aa aa q;have dc:gB l a (i-a)=gB l a (i-1-a)+xj (kd l (i-1)):=by
   rw[show i-a=i-1-a+1 by omega,wA,show a+(i-1-a)=i-1 by omega]
  have ti:=hI.ti;unfold jL at ti pr;have p2:kd l (i-1)≠2:=λq=>by
   rw[GG q] at dc;have:=R.low (i-1-a) aa;omega
  have jj:kd l (i-1)≠4:=λq=>by
   rw[GF aa aa] at dc;exact pr aa q
  exact hI.push (y:=i) (R.piece HX aa Wa hI.D_ hI.ti hI.S p2 jj) (jR _) aa Y aa Q V hI.ti j hj M9
 have amd:=amt (G:=G) hv hl i aa;obtain⟨cj,g,e2,fo,_⟩:=Gh (x:=.v (.int .i64 (i:Int))) (b6:=8) hA (jR _) (My Z) rfl ag ag aJn;have qN:me 0 g cj (nS (Z++[i])) 1 3:=aHy
 by_cases bt:x.kind=2;have k2:kd l i=2:=by rw[S,bt]
 rcases d_ a i with hai|hai
 refine hD @qW ?_;refine ek amd ?_;rintro r ⟨n,rfl,Y,V,h3⟩;obtain⟨s1,s2,eK⟩:=R.skip aa Q hI.ti k2 V h3;refine wy ?_;exact⟨b-(i+n+1),aa,i+n+1,i,Z++[i],cj,rfl,aa,rfl,cut hai (bF k2) _ aa s2,bD aa,λz=>aH4,qN⟩;refine Cd @qW ?_;refine ek amd ?_;rintro r ⟨n,rfl,Y,V,h3⟩;obtain⟨s1,s2,eK⟩:=R.skip aa Q hI.ti k2 V h3;refine q7 ?_;refine⟨b-(i+n+1),aa,i+n+1,c,Z,bx,rfl,aa,rfl,hI.skip aa s2,bD aa,ext _ aa λt t0 t1 t2 t3=>?_,hA⟩;exact absurd t3 (eK t aa aa);have n2:(x.kind==2)=bf:=aX
 have ts:=hI.ti.succ aa (by rw[S];exact bt) DV;by_cases q1:x.kind=1;have k1:kd l i=1:=by rw[S,q1]
 rcases d_ a i with hai|hai
 have Fo:decide ((a:Int)<(i:Int))=bh:=zD hai;refine oH @e1 @zl @qW @q1 @Fo @zk @e2 ?_;exact⟨b-(i+1),aa,i+1,i,Z++[i],cj,rfl,aa,rfl,cut hai (bD k1) _ aa ts,bD aa,λz=>aH4,qN⟩;have Fo:decide ((a:Int)<(i:Int))=bf:=CY hai;refine p5 @e1 @zl @qW @q1 @Fo ?_;exact⟨b-(i+1),aa,i+1,c,Z,bx,rfl,aa,rfl,hI.skip aa ts,bD aa,ext _ aa λt t0 t1 t2 t3=>aa,hA⟩;have n1:(x.kind==1)=bf:=aH8
 have fin:∃m,m<b-i/\∃(i' c:Nat) (Z:List Nat) (jc:bg),m=b-i'/\i'<=b/\[(0,v),(1,cU (.int .i64 (a:Int))),(2,cU (.int .i64 (b:Int))),(3,cU (.int .i64 2)),(9,bx),(10,cU (.int .i64 ((i+1:Nat):Int)))]=[(0,v),(1,cU (.int .i64 (a:Int))),(2,cU (.int .i64 (b:Int))),(3,cU (.int .i64 2)),(9,jc),(10,cU (.int .i64 (i':Int)))]/\ri l a b 0 i' Z c/\(c<i'\/i'=a)/\(Z.length=1->CB l a i')/\me 0 h jc (nS Z) 1 3:=
  ⟨b-(i+1),aa,i+1,c,Z,bx,rfl,aa,rfl,hI.skip aa ts,bD aa,ext _ aa λt t0 t1 t2 t3=>by rw[show t=i by omega,S];exact⟨q1,bt⟩,hA⟩
 rcases d_ a i with hai|hai
 have Fo:decide ((a:Int)<(i:Int))=bh:=zD hai;exact p6 @e1 @qW @n1 @n2 @Fo fin;have Fo:decide ((a:Int)<(i:Int))=bf:=CY hai;exact p6 @e1 @qW @n1 @n2 @Fo fin;obtain rfl:i=b:=aa
 have zY:=hI.cn;obtain⟨cj,g,e2,fo,_⟩:=Gh (x:=.v (.int .i64 (i:Int))) (b6:=8) hA (jR _) (My Z) rfl ag ag aJn;exact wy (ak6 (Z:=Z++[i]) aHy (hI.done R) ah λz=>hN aN)
end
end
section
variable{ps:List cM}{p:cM}{a b c d v x:bg}{g J:List br}{K:Nat}
def cM.wg(i:Nat)(p:cM):Prop:=((p.kind=1/\p.name.length<=12/\p.kids=[])\/((p.kind=2\/p.kind=3)/\2<=p.kids.length)\/(p.kind=4/\p.kids.length=1/\G3 p.low p.high))/\∀x∈p.kids,0<=x/\x<(i:Int)
def xF(ps:List cM):Prop:=∀(i:Nat) p,ps[i]?=a_ p->p.wg i
def xF.push(h:xF ps)(J:p.wg ps.length):xF (ps++[p]):=by
 intro i q hq
 rcases Nat.lt_trichotomy i ps.length with c|c|c
 rw[fE c] at hq;exact h i q hq;subst c;simp at hq;rw[<-hq];exact J;rw[jJ ah] at hq;cases hq
def aA5(h:xF ps):xF (ps.map cM.cC):=by
 intro i p J;rw[fL] at J;cases hq:ps[i]? with
 |none=>rw[hq] at J;cases J
 |some q=>
  rw[hq] at J;cases J;exact h i q hq
def aAs:br->Prop
 |.tok _ _ e=>e≠125
 |_=>True
def za(J bl:List br):Prop:=J.length<=bl.length/\∀(j:Nat) b,aAs b->J[j]?=a_ b->bl[j]?=a_ b
def za.refl(J:List br):za J J:=⟨ck _,λ_ _ _ h=>h⟩
def za.trans{a b c:List br}(h:za a b)(q:za b c):za a c:=⟨gY h.1 q.1,λj x hn e=>q.2 j x hn (h.2 j x hn e)⟩
def am6{de:List cM}:∀{i:Nat} {st:List Int},i<=ps.length->p4 ps i st->p4 (ps++de) i st
 |0,_,_,h=>h
 |i+1,_,Q,⟨p,qy,Y,V,h3⟩=>⟨p,qy,by rw[fE aa];exact Y,am6 aa V,h3⟩
def Zt{st:List Int}(h:p4 ps ps.length (st++p.kids)):p4 (ps++[p]) (ps++[p]).length (st++[(((ps++[p]).length-1:Nat):Int)]):=by
 rw[en,p8,SV];exact⟨p,st,af,am6 (ck _) h,rfl⟩
def am7:∀{i:Nat} {st:List Int},p4 ps i st->p4 (ps.map cM.cC) i st
 |0,_,h=>h
 |i+1,_,⟨p,qy,Y,V,h3⟩=>⟨p.cC,qy,by rw[fL,Y];rfl,am7 V,h3⟩
def aaR(ps:List cM)(m:Nat)(J:List br)(r:bg)(bl:List br):Prop:=∃de:List cM,de≠[]/\de.length+1<=2*m/\cV bl r ((ps++de).map q9) 5 125/\xF (ps++de)/\za J bl/\∀st,p4 ps ps.length st->p4 (ps++de) (ps++de).length (st++[(((ps++de).length-1:Nat):Int)])
def YY(hA:cV J v (ps.map q9) 5 125)(hn:ps.length<=4000000000)(p:cM):
  ∃v' g,eu J 5 64 125 v (.sl [p.bN] .exact)=a_ (v',g)/\cV g v' ((ps++[p]).map q9) 5 125/\za J g:=by
 obtain⟨cj,g,e1,fo,_,h3,h4⟩:=ni (x:=p.bN) (b6:=64) hA (Yf ps) (I0 p) ag ag ah;refine⟨cj,g,e1,aHz,h3,λj b O hj=>h4 j b hj λxs q=>?_⟩
 rcases hA with⟨z,_⟩|⟨id,cg,z2⟩
 rw[z] at q;cases q;rw[cg] at q;cases q;rw[hj] at z2;cases z2;exact O rfl
@[go_sem]def am2{y:bg}(S:g[K]?=a_ (.cells [a,b,c,d,x] bf))(Y:cr y=bh)(V:y.cells=[y]):bL g 1 (.mp K 4) y=a_ (g.set K (.cells [a,b,c,d,y] bf)):=by
 simp only[bL,S,e5];rw[V];simp[dN,Y]
@[go_sem]def ajM(S:g[K]?=a_ (.cells [a,b,c,d,x] bf))(Y:cr x=bh):bA g bf 1 (.mp K 4)=a_ x:=by
 simp only[bA,S];rfl
@[go_sem]def ajA(S:g[K]?=a_ (.cells [a,b,c,d,x] bf)):bA g bh 5 (.mp K 0)=a_ (.agg [a,b,c,d,x]):=by
 simp only[bA,S];rfl
def N4(B:Nat)(J:List br)(v:bg)(xs:List bg):Prop:=(v=.bp/\xs=[])\/∃id,v=.sl xs (.tok id)/\B<=id/\J[id]?=a_ (.tok xs.length 1 3)
def ayt{B:Nat}{xs:List bg}(hA:N4 B J v xs)(hB:B<=J.length)(I:c8 1 xs=bh)(hy:c8 1 [x]=bh)(hfit:(xs.length+1)*8<=140737488355328):
  ∃v' bl,eu J 1 8 3 v (.sl [x] .exact)=a_ (v',bl)/\N4 B bl v' (xs++[x])/\J.length<=bl.length/\cr v'=bh/\v'.cells=[v']/\∀(j:Nat) b,J[j]?=a_ b->(∀xs,v≠.sl xs (.tok j))->bl[j]?=a_ b:=by
 rcases hA with⟨rfl,rfl⟩|⟨id,rfl,hid,S⟩
 refine⟨.sl ([]++[x]) (.tok J.length),J++[.tok 1 1 3],?_,bF ⟨J.length,rfl,hB,af⟩,af,rfl,rfl,λj b h _=>bU h⟩;simp only[eu,gZ,iY,iK,hy];simp;have hl:id<J.length:=gl S;refine⟨.sl (xs++[x]) (.tok id),J.set id (.tok (xs.length+1) 1 3),?_,bF ⟨id,rfl,hid,aHS⟩,af,rfl,rfl,λj b h bR=>?_⟩;simp[eu,gZ,iY,iK,hy,hfit,I,S];rw[bC (λq=>bR xs aIA)];exact h
structure aaS(l:List dw)(ps:List cM)(gJ:Int)(a b K k c:Nat)(Z:List Nat)(J:List br)(rv kv:bg)(de:List cM)(kids:List Int)(h:List br):Prop where
 blk:h[K]?=a_ (.cells [bq gJ,bq 0,bq 0,bu [],kv] bf)
 ajm:N4 K h kv (kids.map bq)
 kl:kids.length=k
 ajt:∀x∈kids,0<=x/\x<((ps++de).length:Nat)
 row:cV h rv ((ps++de).map q9) 5 125
 ok:xF (ps++de)
 kU:za J h
 at_:Z[k]?=a_ c
 ac:a<=c
 cb:c<=b
 cnt:de.length+k<=2*(c-a)
 stk:∀st,p4 ps ps.length st->p4 (ps++de) (ps++de).length (st++kids)
section
variable{G:Cells}{v:bg}{l:List dw}
@[go_sem]def ajK(x:dw)(J:List br):bA J bf 1 (.fp x.cells 2)=a_ (.v (.int .i64 x.low)):=rfl
@[go_sem]def ajJ(x:dw)(J:List br):bA J bf 1 (.fp x.cells 3)=a_ (.v (.int .i64 x.high)):=rfl
@[go_sem]def ajL(x:dw)(J:List br):bA J bf 1 (.fp x.cells 4)=a_ (bu x.name):=rfl
def aqx(hv:cG v (l.map mH))(T:eP v)(fG:∀x∈l,x.wg)(hl:l.length<=1000000000)(w:uO l):∀(m a b:Nat),b-a<=m->mg l a b->∀(ps:List cM) (bx:bg) (J:List br),cV J bx (ps.map q9) 5 125->xF ps->ps.length+2*(b-a)<=4000000000->
  cy G bE 44 [bx,v,.v (.int .i64 (a:Int)),.v (.int .i64 (b:Int))] J (aaR ps (b-a) J):=by
 have Ie:∀i,i<l.length->1<=kd l i/\kd l i<=5:=λi Q=>by
  have I:l[i]?=a_ l[i]:=cx Q;rw[DJ I];have:=fG _ (cE I);exact⟨this.1,this.2.1⟩
 intro m
 induction m with
 |zero=>intro a b h R;have:=R.lt;omega
 |succ m ih=>
  intro a b hm R ps bx J hA iB dG;have cQ:=R.lt;have bK:=R.le;refine aw9.go ?_;refine wy ?_;refine dx (λk e h=>∃gJ:Int,e=[(0,bx),(1,v),(2,.v (.int .i64 (a:Int))),(3,.v (.int .i64 (b:Int))),(9,.v (.int .i64 gJ))]/\h=J/\((k=0/\gJ=3)\/(k=1/\gJ=2/\ze l a b)\/(k=2/\gJ=1/\ze l a b/\CB l a b))) 2 ⟨3,rfl,rfl,bD ⟨rfl,rfl⟩⟩ ?_ ?_;rintro i e h Q ⟨gJ,rfl,rfl,hI⟩;obtain⟨e,X,sp,hX,agL⟩:∃(e:Nat) (X:Prop),dA G bE 82 [v,.v (.int .i64 (a:Int)),.v (.int .i64 (b:Int)),.v (.int .i64 gJ)] (NW l a b e X)/\(X->((i+1=0/\gJ-1=3)\/(i+1=1/\gJ-1=2/\ze l a b)\/(i+1=2/\gJ-1=1/\ze l a b/\CB l a b)))/\((gJ=3/\e=1)\/(gJ=2/\e=0)):=by
   rcases hI with⟨rfl,rfl⟩|⟨rfl,rfl,nb⟩|⟨rfl,_⟩
   exact⟨1,_,aqi hv T hl w R,λx=>bF (bD ⟨rfl,rfl,x⟩),bD ⟨rfl,rfl⟩⟩;exact⟨0,_,aCy hv T hl w R nb,λx=>bF (bF ⟨rfl,rfl,nb,x⟩),bF ⟨rfl,rfl⟩⟩;omega
  have c2:decide ((2:Int)<=gJ)=bh:=ah
  have w1:dy.wrap (gJ-1)=gJ-1:=gN aa aa;refine wy ?_;refine ek sp ?_;rintro r ⟨Z,rfl,hP,jq,VD⟩;have Xr:∀g,cN (.sl (nS Z) .no) g=a_ (.v (.int .i64 (Z.length:Int)),g):=λg=>by
   rw[qq];simp[nS,mq]
  have aF_:=hP.two;refine wy (cL (λq=>?_) λq=>?_);refine wx ?_;exact⟨gJ-1,rfl,trivial,by simpa using hX (VD au)⟩;have aGi:3<=Z.length:=au
  have f1:dH [.v (.int .i64 0),.v (.int .i64 0),.v (.int .i64 0),.v (.string ⟨[].toArray⟩),.bp] [(0,1,.v (.int .i64 gJ))]=a_ (qC ⟨gJ,0,0,[],[],.no⟩):=rfl;have s1:=yI h ⟨gJ,0,0,[],[],.no⟩;have Vp:cV (h++[.cells (qC ⟨gJ,0,0,[],[],.no⟩) bf]) bx (ps.map q9) 5 125:=by
   rcases hA with z|⟨id,cg,z2⟩
   exact bD z;exact bF ⟨id,cg,bU z2⟩
  have b1:za h (h++[.cells (qC ⟨gJ,0,0,[],[],.no⟩) bf]):=⟨af,λj b _ q=>bU q⟩;obtain⟨c0,Dd⟩:∃c,Z[0]?=a_ c:=⟨Z[0],cx aa⟩;refine wy ?_;refine o9 (n:=Z.length) (λm e g=>∃(k c:Nat) (rv kv:bg) (de:List cM) (kids:List Int),m=Z.length-k/\k+1<=Z.length/\e=[(0,rv),(1,v),(9,.v (.int .i64 gJ)),(10,.sl (nS Z) .no),(11,.mp h.length 0),(12,.v (.int .i64 (k:Int)))]/\aaS l ps gJ a b h.length k c Z h rv kv de kids g) ⟨0,c0,bx,.bp,[],[],rfl,aa,rfl,by rw[fF (ck _),lM];rfl,bD ⟨rfl,rfl⟩,rfl,af,by rw[hJ];exact Vp,by rw[hJ];exact iB,b1,Dd,(hP.j6 _ (cE Dd)).1,(hP.j6 _ (cE Dd)).2,af,λst hs=>by rw[hJ,hJ];exact hs⟩ ?_;rintro m e g ⟨k,c,rv,kv,de,kids,rfl,gD,rfl,hB⟩;have HX:=hB.ac;have VP:=hB.cb;have Dg:=hB.cnt;have aF7:h.length<g.length:=gl hB.blk
  rcases d_ (k+1) Z.length with hk2|hk2
  · obtain⟨y,hy⟩:=cO hk2
    have Qp:=hP.j6 y (cE hy);have UW:cA 1 (.sl (nS Z) .no) (.v (.int .i64 ((k+1:Nat):Int)))=a_ (.fp [.v (.int .i64 (y:Int))] 0):=mP (x:=.v (.int .i64 (y:Int))) (by simp[nS,hy]) rfl;have ex:cA 1 (.sl (nS Z) .no) (.v (.int .i64 (k:Int)))=a_ (.fp [.v (.int .i64 (c:Int))] 0):=mP (x:=.v (.int .i64 (c:Int))) (by simp[nS,hB.at_]) rfl;obtain⟨nq,hR,hs,aGl,h3⟩:∃nq:Nat,mg l c nq/\nq-c<b-a/\nq<=y/\(((gJ==3)=bh/\k+2<Z.length/\dy.wrap ((y:Int)-1)=(nq:Int))\/((gJ==3)=bh/\Z.length<=k+2/\0<Z.length/\nq=y)\/((gJ==3)=bf/\0<Z.length/\0<Z.length/\nq=y)):=by
     rcases d_ (k+2) Z.length with z|z
     obtain⟨g1,g2,g3⟩:=hP.seg k c y hB.at_ hy z
     rcases agL with⟨rfl,rfl⟩|⟨rfl,rfl⟩
     exact⟨y-1,g1,g3,aa,bD ⟨rfl,z,JD aa aa⟩⟩;exact⟨y,g1,g3,ck _,bF (bF ⟨rfl,aa,aa,rfl⟩)⟩;obtain⟨g1,g2⟩:=hP.fin k c y hB.at_ hy aa
     rcases agL with⟨rfl,rfl⟩|⟨rfl,rfl⟩
     exact⟨y,g1,g2 aa,ck _,bF (bD ⟨rfl,z,aa,rfl⟩)⟩;exact⟨y,g1,g2 aa,ck _,bF (bF ⟨rfl,aa,aa,rfl⟩)⟩
    have nw:=hR.lt;have De:=ih c nq aa hR (ps++de) rv g hB.row hB.ok aIy;have step:∀(r:bg) (g2:List br),aaR (ps++de) (nq-c) g r g2->∃(N:Nat) (cj:bg) (g3:List br) (ts:List cM),cN r g2=a_ (.v (.int .i64 (N:Int)),g2)/\dy.wrap ((N:Int)-1)=((N-1:Nat):Int)/\bA g2 bf 1 (.mp h.length 4)=a_ kv/\eu g2 1 8 3 kv (.sl [.v (.int .i64 ((N-1:Nat):Int))] .exact)=a_ (cj,g3)/\bL g3 1 (.mp h.length 4) cj=a_ (g3.set h.length (.cells [bq gJ,bq 0,bq 0,bu [],cj] bf))/\aaS l ps gJ a b h.length (k+1) y Z h r cj (de++ts) (kids++[((N-1:Nat):Int)]) (g3.set h.length (.cells [bq gJ,bq 0,bq 0,bu [],cj] bf)):=by
     rintro r g2 ⟨ts,wQ,LR,fo,Du,O,eU⟩;have ln:=EO fo;rw[dj] at ln;have k1:=O.2 _ _ (by exact trivial) hB.blk;have L7:N4 h.length g2 kv (kids.map bq):=by
      rcases hB.ajm with z|⟨id,cg,z2,z3⟩
      exact bD z;exact bF ⟨id,cg,z2,O.2 _ _ (by show(3:Nat)≠125;decide) z3⟩
     have aHl:=NL.2 wQ;have hN:(ps++de++ts).length=ps.length+de.length+ts.length:=ah
     obtain⟨cj,g3,p1,p2,p3,po,pc,jj⟩:=ayt (x:=.v (.int .i64 (((ps++de++ts).length-1:Nat):Int))) L7 (by have:=O.1;omega) (Ge kids) rfl (by simp;have:=hB.kl;omega);have k2:=jj _ _ k1 (λxs q=>by
      rcases L7 with⟨z,_⟩|⟨id,cg,_,z2⟩
      rw[z] at q;cases q;rw[cg] at q;cases q;rw[k1] at z2;cases z2)
     have aBW:cV g3 r ((ps++de++ts).map q9) 5 125:=by
      rcases fo with z|⟨id,cg,z2⟩
      exact bD z;refine bF ⟨id,cg,jj _ _ z2 λxs q=>?_⟩
      rcases L7 with⟨z,_⟩|⟨av6,y1,_,fK⟩
      rw[z] at q;cases q;rw[y1] at q;cases q;rw[z2] at fK;simp at fK
     have PK:=gl k2;have dW:cr kv=bh:=by
      rcases L7 with⟨rfl,_⟩|⟨id,rfl,_⟩<;>rfl
     refine⟨(ps++de++ts).length,cj,g3,ts,ln _,JD aa aa,ajM k1 dW,p1,am2 k2 po pc,?_⟩;refine⟨bV PK,?_,by simp[hB.kl],?_,?_,?_,?_,hy,Qp.1,Qp.2,?_,λst hs=>by rw[<-dU,<-dU];exact eU _ (hB.stk st hs)⟩;rw[gQ]
     rcases p2 with z|⟨id,cg,z2,z3⟩
     exact bD z;refine bF ⟨id,cg,z2,?_⟩;rw[bC (λq=>by subst q;rw[k2] at z3;cases z3)];exact z3;intro x I;rw[<-dU,hN]
     rcases gA.1 I with z|z
     have:=hB.ajt x z;rw[en] at this;omega;rw[dR.1 z,hN];omega;rw[<-dU];exact jN aBW k2;rw[<-dU];exact Du;refine⟨by have:=hB.kU.1;have:=O.1;simp;omega,λj b g_ hj=>?_⟩;have lz:=gl hj;rw[bC aa];refine jj _ _ (O.2 _ _ g_ (hB.kU.2 _ _ g_ hj)) λxs q=>?_
     rcases L7 with⟨z,_⟩|⟨av6,y1,y0,fK⟩
     rw[z] at q;cases q;rw[y1] at q;cases q;omega;rw[en];omega
    rcases h3 with⟨t1,t2,t3⟩|⟨t1,t2,t3,rfl⟩|⟨t1,t2,t3,rfl⟩
    all_goals
     refine wy (cm De ?_);intro r g2 D;obtain⟨N,cj,g3,ts,u1,u2,u3,u4,aHp,aEq⟩:=step r g2 D;refine wy ?_;exact⟨Z.length-(k+1),aa,k+1,_,r,cj,de++ts,kids++[((N-1:Nat):Int)],rfl,aa,rfl,aEq⟩
  have eS:=hB.kl;obtain⟨id,rfl,_,_⟩:∃id,kv=.sl (kids.map bq) (.tok id)/\True/\True:=by
   rcases hB.ajm with⟨_,z⟩|⟨id,z,_⟩
   have:kids=[]:=aN
   rw[this] at eS;simp at eS;omega;exact⟨id,z,trivial,trivial⟩
  have oW:[bq gJ,bq 0,bq 0,bu [],.sl (kids.map bq) (.tok id)]=qC ⟨gJ,0,0,[],kids,.tok id⟩:=by
   cases kids with
   |nil=>simp at eS;omega
   |cons x r=>rfl
  have auZ:=ajA hB.blk;rw[oW] at auZ;obtain⟨v',g2,p1,p2,p3⟩:=YY hB.row aIy ⟨gJ,0,0,[],kids,.tok id⟩;have ab:=Kg ⟨gJ,0,0,[],kids,.tok id⟩;unfold q9 at ab p1;refine wy ?_;refine⟨de++[⟨gJ,0,0,[],kids,.tok id⟩],af,ah,by rw[<-dU];exact p2,?_,hB.kU.trans p3,λst hs=>by rw[<-dU];exact Zt (p:=⟨gJ,0,0,[],kids,.tok id⟩) (hB.stk st hs)⟩;rw[<-dU];exact hB.ok.push ⟨bF (bD ⟨by show gJ=2\/gJ=3;omega,by show 2<=kids.length;omega⟩),hB.ajt⟩;rintro e h ⟨gJ,rfl,rfl,hI⟩;obtain⟨rfl,nb,ns⟩:gJ=1/\ze l a b/\CB l a b:=by
   rcases hI with⟨z,_⟩|⟨z,_⟩|⟨_,z⟩
   omega;omega;exact z
  obtain⟨x,I⟩:∃x,l[b-1]?=a_ x:=⟨l[b-1],cx aa⟩;obtain⟨y,hy⟩:∃x,l[a]?=a_ x:=⟨l[a],cx aa⟩;have e1:cA 5 v (.v (.int .i64 ((b-1:Nat):Int)))=a_ (.fp x.cells 0):=hv.cI (x:=x.bN) aA rfl;have e2:cA 5 v (.v (.int .i64 (a:Int)))=a_ (.fp y.cells 0):=hv.cI (x:=y.bN) aT rfl;have P5:=DJ I;have auT:=DJ hy;have DF:=fG x (cE I);have LX:=fG y (cE hy);have aqB:decide ((2:Int)<=1)=bf:=ag
  have wb:dy.wrap ((b:Int)-1)=((b-1:Nat):Int):=JD aa aa;by_cases iO:x.kind=5;have D:=ih a (b-1) aa (R.aEv w (by rw[P5];exact iO)) ps bx h hA iB aa;refine hD @qW (cm D ?_);rintro r g ⟨de,Qg,agq,fo,Du,O,eU⟩;have ln:=EO fo;rw[dj] at ln;have s5:0<(ps++de).length:=by rw[en];have:=NL.2 Qg;omega
  have agD:(ps++de).length<=4000000000:=aIy
  obtain⟨v',g2,p1,p2,p3⟩:=YY fo agD ⟨4,x.low,x.high,[],[(((ps++de).length-1:Nat):Int)],.exact⟩;have wl:dy.wrap (((ps++de).length:Int)-1)=(((ps++de).length-1:Nat):Int):=JD aa aa;have f4:dH [.v (.int .i64 0),.v (.int .i64 0),.v (.int .i64 0),.v (.string ⟨[].toArray⟩),.bp] [(0,1,.v (.int .i64 4)),(1,1,.v (.int .i64 x.low)),(2,1,.v (.int .i64 x.high)),(4,1,.sl [.v (.int .i64 (((ps++de).length-1:Nat):Int))] .exact)]=a_ (qC ⟨4,x.low,x.high,[],[(((ps++de).length-1:Nat):Int)],.exact⟩):=rfl;have ab:=Kg ⟨4,x.low,x.high,[],[(((ps++de).length-1:Nat):Int)],.exact⟩;unfold q9 at ab p1;generalize hN:(ps++de).length=N at ln wl f4 ab p1 p2 s5 agD;refine p5 (fH @wb @e1 @zl @ajK) (fH @ajJ @ln @wl @zk) @f4 @ab @p1 ?_;refine⟨de++[⟨4,x.low,x.high,[],[((N-1:Nat):Int)],.exact⟩],af,ah,by rw[<-dU];exact p2,?_,O.trans p3,λst hs=>by rw[<-dU];exact Zt (p:=⟨4,x.low,x.high,[],[((N-1:Nat):Int)],.exact⟩) (by have:=eU st hs;rw[hN] at this⊢;exact this)⟩;rw[<-dU];refine Du.push ⟨bF (bF ⟨rfl,rfl,DF.2.2.2 iO⟩),λz hz=>?_⟩;rw[dR.1 (show z∈[((N-1:Nat):Int)] from hz),hN];omega;have jt:(x.kind==5)=bf:=by simpa using iO
  by_cases bt:y.kind=2;have D:=ih (a+1) (b-1) aa (R.inner w Ie nb ns (by rw[auT];exact bt) (by rw[P5];exact iO)) ps bx h hA iB aa;refine hD @qW (cm D ?_);rintro r g ⟨de,Qg,agq,fo,Du,O,eU⟩;refine wy ?_;exact⟨de,Qg,aa,fo,Du,O,eU⟩;have n2:(y.kind==2)=bf:=aX
  obtain⟨v',g2,p1,p2,p3⟩:=YY hA aa ⟨1,0,0,y.name,[],.no⟩;have f4:dH [.v (.int .i64 0),.v (.int .i64 0),.v (.int .i64 0),.v (.string ⟨[].toArray⟩),.bp] [(0,1,.v (.int .i64 1)),(3,1,bu y.name)]=a_ (qC ⟨1,0,0,y.name,[],.no⟩):=rfl;have ab:=Kg ⟨1,0,0,y.name,[],.no⟩;unfold q9 at ab p1;refine jl (fH @aqB @wb @e1 @e2) (fH @zl @qW @ajL @jt) (fH @n2 @f4 @ab @p1) ?_;refine⟨[⟨1,0,0,y.name,[],.no⟩],af,ah,p2,?_,p3,λst hs=>Zt (p:=⟨1,0,0,y.name,[],.no⟩) (by rw[hJ];exact hs)⟩;exact iB.push ⟨bD ⟨rfl,LX.2.2.1,rfl⟩,λz hz=>by cases hz⟩
end
structure xC(n:Nat)(v:bg)(ps:List cM):Prop where
 v:cG v (ps.map q9)
 ok:xF ps
 len:ps.length<=2*n
 top:ps=[]\/∃x,p4 ps ps.length [x]
 no:∀p∈ps,p.tail=.no
def abf(n:Nat)(r:bg):Prop:=∃(v:bg) (ps:List cM) (p e:Int),r=.bQ [v,.v (.int .i64 p),.v (.int .i64 e)]/\xC n v ps
def ak8{G:Cells}(s:List UInt8)(hs:s.length<=1000000000):dA G bE 24 [bu s] (abf s.length):=by
 refine dX (awN.go ?_);have bad:∀(J:List br) (p e:Int),∃k bS,cX J k (.bQ [.bp,.v (.int .i64 p),.v (.int .i64 e)])=a_ bS/\abf s.length bS:=λJ p e=>by
  obtain⟨k,S⟩:=(fD (bG eB (bG (bH (.int .i64 p)) (bG (bH (.int .i64 e)) cW))):b8 J _ _).done;exact⟨k,_,S,.bp,[],p,e,rfl,bF ⟨rfl,rfl⟩,λi p h=>aq,jR _,bD rfl,af⟩
 refine wy ?_;refine ek (azb s hs) ?_;rintro r ⟨v,l,p,e,rfl,hv,hl,fG⟩;have T:eP v:=by
  rcases hv with rfl|⟨rfl,_⟩
  exact lQ Um;exact od
 have ln:=hv.cN;rw[dj] at ln;refine wy (cL (λq=>?_) λq=>?_);exact fy @q (bad _ _ _);refine wy ?_;refine ek (aqJ hv aa) ?_;rintro r ⟨p2,b2,rfl,hK⟩;refine wy (cL (λbt=>?_) λbt=>?_)
 rcases hK with⟨rfl,_⟩|⟨i,rfl,Q⟩
 simp at bt;obtain⟨x,I⟩:=cO Q;have e1:cA 5 v (.v (.int .i64 (i:Int)))=a_ (.fp x.cells 0):=hv.cI (x:=x.bN) aA rfl;have e2:∀J,bA J bf 1 (.fp x.cells 1)=a_ (.v (.int .i64 x.at_)):=λJ=>rfl;exact iu @bt @e1 @e2 (bad _ _ _);cases b2 with
 |true=>
  exact fy @bt (bad _ _ _)
 |false=>
  have hW:uO l:=by
   rcases hK with⟨rfl,h⟩|⟨i,rfl,Q⟩
   exact h rfl;simp at bt
  refine wy ?_;refine c_ (λbT=>?_) λbT=>?_;exact bad _ _ _;have h0:0<l.length:=by simp at bT;exact NL.2 bT
  have Ie:∀i,i<l.length->1<=kd l i/\kd l i<=5:=λi Q=>by
   have I:l[i]?=a_ l[i]:=cx Q;rw[DJ I];have:=fG _ (cE I);exact⟨this.1,this.2.1⟩
  refine wy (cm (aqx hv T fG aa hW l.length 0 l.length aa (hW.all Ie h0) [] .bp _ (sr _ _ _) (λi p h=>aq) ah) ?_);rintro r g ⟨de,Qg,agq,fo,Du,O,eU⟩;refine wy ?_;have Bz:=eU [] rfl;rw[gV] at fo Du Bz
  rcases fo with⟨rfl,z⟩|⟨id,rfl,_⟩
  exact bad _ _ _;obtain⟨k,S⟩:=(fD (bG (gP (t:=.tok id) (e4.QW λa _=>Va g a)) (bG (bH (.int .i64 0)) (bG (bH (.int .i64 0)) cW))):b8 g (.bQ [.sl (de.map q9) (.tok id),.v (.int .i64 0),.v (.int .i64 0)]) (.bQ [.sl (de.map λp=>p.cC.bN) .no,.v (.int .i64 0),.v (.int .i64 0)])).done;refine⟨k,_,S,.sl (de.map λp=>p.cC.bN) .no,de.map cM.cC,0,0,rfl,bD ?_,aA5 Du,ah,bF ⟨_,by rw[dj];exact am7 Bz⟩,λp J=>?_⟩;rw[y6];rfl;obtain⟨q,_,rfl⟩:=dZ.1 J;rfl
end
section
variable{a b:List UInt8}{bx v:bg}{l:List dw}{ps:List cM}{p:cM}{n:Nat}{t:n_}{h:List br}
@[go_sem]def abM(h:a.length+b.length<=1000):dF .add (.v (.string ⟨a.toArray⟩)) (bu b)=a_ (bu (a++b)):=uQ (a:=a) aa
@[go_sem]def Hr(h:a.length+b.length<=1000000000):dF .add (bu a) (.v (.string ⟨b.toArray⟩))=a_ (bu (a++b)):=uQ (b:=b) aa
section
variable{G:Cells}
def aDY(lo Q:Int):dA G bE 243 [.v (.int .i64 lo),.v (.int .i64 Q)] (zi 60):=by
 refine dX (ax9.go ?_);refine q7 ?_
 repeat' refine ba (λq'=>?_) λq'=>?_
 all_goals first
  |(exfalso;omega)
  |exact rJ (t:=[42]) ag
  |exact rJ (t:=[43]) ag
  |exact rJ (t:=[63]) ag
  |(refine ek (Za lo) ?_
    rintro r ⟨t,rfl,ht⟩;have a1:dF .add (.v (.string ⟨[123].toArray⟩)) (bu t)=a_ (bu ([123]++t)):=abM ah;have a2:dF .add (bu ([123]++t)) (.v (.string ⟨[125].toArray⟩))=a_ (bu ([123]++t++[125])):=Hr ah;have a3:dF .add (bu ([123]++t)) (.v (.string ⟨[44,125].toArray⟩))=a_ (bu ([123]++t++[44,125])):=Hr ah;have a4:dF .add (bu ([123]++t)) (.v (.string ⟨[44].toArray⟩))=a_ (bu ([123]++t++[44])):=Hr ah;refine eN @a1 ?_
    repeat' ((refine cL (λq=>?_) λq=>?_)<;>(have q':=q)<;>(simp -failIfUnchanged only[pG] at q')<;>(refine l5 @a2 @a3 @a4 @q ?_))
    all_goals first
     |(exfalso;omega)
     |exact rJ (t:=[123]++t++[125]) (by simp only[en,eV,iP];omega)
     |exact rJ (t:=[123]++t++[44,125]) (by simp only[en,eV,iP];omega)
     |(refine ek (Za Q) ?_
       rintro r ⟨t2,rfl,LS⟩;have a5:dF .add (bu ([123]++t++[44])) (bu t2)=a_ (bu ([123]++t++[44]++t2)):=uQ ah;have a6:dF .add (bu ([123]++t++[44]++t2)) (.v (.string ⟨[125].toArray⟩))=a_ (bu ([123]++t++[44]++t2++[125])):=Hr ah;refine mG @a5 @a6 ?_;exact rJ ah))
def dw.Hf(x:dw):Prop:=1<=x.kind/\x.kind<=5/\x.name.length<=12
def aCK(hv:cG v (l.map mH))(fG:∀x∈l,x.Hf)(hl:l.length<=1000000):dA G bE 203 [v] (zi (100*l.length)):=by
 refine dX (ax4.go ?_);have ln:=hv.cN;rw[dj] at ln;have ab:e9 1 [.v (.string ⟨[].toArray⟩),.v (.string ⟨[].toArray⟩),.v (.string ⟨[40].toArray⟩),.v (.string ⟨[41].toArray⟩),.v (.string ⟨[124].toArray⟩)]=a_ (.sl [bu [],bu [],bu [40],bu [41],bu [124]] .exact):=rfl;have i2:cA 1 (.sl [bu [],bu [],bu [40],bu [41],bu [124]] .exact) (.v (.int .i64 2))=a_ (.fp [bu [40]] 0):=rfl;have i3:cA 1 (.sl [bu [],bu [],bu [40],bu [41],bu [124]] .exact) (.v (.int .i64 3))=a_ (.fp [bu [41]] 0):=rfl;have i4:cA 1 (.sl [bu [],bu [],bu [40],bu [41],bu [124]] .exact) (.v (.int .i64 4))=a_ (.fp [bu [124]] 0):=rfl;refine wy ?_;refine dx (λi e h=>∃t:List UInt8,e=[(0,v),(3,.sl [bu [],bu [],bu [40],bu [41],bu [124]] .exact),(4,bu t),(5,bq i)]/\t.length<=100*i) l.length ⟨[],rfl,af⟩ ?_ ?_
 · rintro i e J Q ⟨t,rfl,ht⟩
   obtain⟨x,I⟩:=cO Q;have DF:=fG x (cE I);have e1:cA 5 v (.v (.int .i64 (i:Int)))=a_ (.fp x.cells 0):=hv.cI (x:=x.bN) aA rfl;have e2:∀J,bA J bh 5 (.fp x.cells 0)=a_ (.agg x.cells):=λJ=>rfl;have s1:=yE J x;unfold iw at s1;have fY:∀g:List br,g[J.length]?=a_ (.cells x.cells bf)->bA g bf 1 (.mp J.length 0)=a_ (.v (.int .i64 x.kind))/\bA g bf 1 (.mp J.length 2)=a_ (.v (.int .i64 x.low))/\bA g bf 1 (.mp J.length 3)=a_ (.v (.int .i64 x.high))/\bA g bf 1 (.mp J.length 4)=a_ (bu x.name):=λg q=>by
    simp only[bA,q];exact⟨rfl,rfl,rfl,rfl⟩
   have hm:(J++[bw x.cells bf])[J.length]?=a_ (.cells x.cells bf):=af
   obtain⟨l0,l2,l3,l4⟩:=fY _ hm;have sp:dF .add (bu t) (.v (.string ⟨[32].toArray⟩))=a_ (bu (t++[32])):=Hr ah;have DR:∀u:List UInt8,u.length<=100*i+1->(∀w:List UInt8,w.length<=60->dF .add (bu u) (bu w)=a_ (bu (u++w)))/\(∀w:List UInt8,w.length<=60->(u++w).length<=100*(i+1)):=λu hu=>⟨λw hw=>uQ aa,λw hw=>ah⟩;obtain⟨k1,k2,hn⟩:=DF;have VO:x.kind=1\/x.kind=2\/x.kind=3\/x.kind=4\/x.kind=5:=aa
   have b1:=(DR t aa).1 x.name aa;have b2:=(DR (t++[32]) ah).1 x.name aa;have d1:=(DR t aa).2 x.name aa;have d2:=(DR (t++[32]) ah).2 x.name aa;have c1:=λw hw=>(DR t aa).1 w hw;have c2:=λw hw=>(DR (t++[32]) ah).1 w hw;have cg:=λw hw=>(DR t aa).2 w hw;have z2:=λw hw=>(DR (t++[32]) ah).2 w hw
   rcases VO with q|q|q|q|q
   all_goals
    rw[q] at l0;refine wy ?_
    repeat' ((refine cL (λq=>?_) λq=>?_)<;>(have q':=q)<;>(simp -failIfUnchanged only[pG] at q')<;>(refine oH (fH @mh @l0 @sp @l4) (fH @b1 @b2 @i2 @i3) (fH @i4 @wH (c1 [40] ag) (c2 [40] ag)) (fH (c1 [41] ag) (c2 [41] ag) (c1 [124] ag) (c2 [124] ag)) @l2 @l3 @q ?_))
   all_goals first
    |(exfalso;omega)
    |exact⟨_,rfl,d1⟩
    |exact⟨_,rfl,d2⟩
    |exact⟨_,rfl,cg _ ag⟩
    |exact⟨_,rfl,z2 _ ag⟩
    |(refine ek (aDY _ _) ?_
      rintro r ⟨w,rfl,hw⟩;refine wy ?_
      first
       |exact⟨_,rfl,cg w hw⟩
       |exact⟨_,rfl,z2 w hw⟩)
 rintro e h ⟨t,rfl,ht⟩;exact wy (rJ ht)
end
def G5(ps:List cM):Prop:=∀(i:Nat) p,ps[i]?=a_ p->∀x∈p.kids,0<=x/\x<(i:Int)
def xF.kids(h:xF ps):G5 ps:=λi p J=>(h i p J).2
def aDB(h:G5 ps):∀(n f g:Nat) (i:Int),i.toNat<n->i.toNat<f->i.toNat<g->xl ps f i=xl ps g i:=by
 intro n
 induction n with
 |zero=>intro f g i h0;omega
 |succ n ih=>
  intro f g i h0 Y V;obtain⟨f,rfl⟩:∃f',f=f'+1:=⟨f-1,aa⟩;obtain⟨g,rfl⟩:∃g',g=g'+1:=⟨g-1,aa⟩;unfold xl;cases J:ps[i.toNat]? with
  |none=>rfl
  |some p=>
   dsimp only;congr 2;refine AU λk S=>?_;have:=h _ p J k S;rw[ih f g k aa aa aa]
def Se(h:G5 ps){i:Nat}(J:ps[i]?=a_ p):sz ps (i:Int)=3+(p.kids.map λk=>sz ps k+1).sum:=by
 show xl ps (i+1) (i:Int)=_;unfold xl;rw[xu,J];dsimp only;congr 2;refine AU λk S=>?_;have:=h _ p J k S;rw[aDB h (i+1) i (k.toNat+1) k aa aa aa];rfl
def Zs(h:G5 ps):∀{i:Nat} {st:List Int},p4 ps i st->(st.map λk=>sz ps k+1).sum<=4*i
 |0,st,hs=>by rw[show st=[] from hs];simp
 |i+1,st,⟨p,qy,J,Y,V⟩=>by
  have:=Zs h Y;rw[V];simp only[gQ,aoP,fM,mI,y8,GY] at this⊢;rw[Se h J];omega
def Sd(f:Int->Nat):∀ks:List Int,ks.length<=(ks.map λk=>f k+1).sum
 |[]=>ck _
 |k::r=>by have:=Sd f r;simp only[fM,y8,eV];omega
def apm(n:Nat)(r:bg):Prop:=∃l:List dw,r=.sl (l.map mH) .no/\l≠[]/\l.length<=n/\∀x∈l,x.Hf
def ab5{J:List br}{xs ys:List bg}{b6:Nat}{e:TypeId}(hA:cV J v xs n e)(I:c8 n xs=bh)(hy:c8 n ys=bh)(bR:ys≠[])(hn:0<n)(O:0<b6)(hfit:(xs.length+ys.length)*b6<=140737488355328):
  ∃v' bl,eu J n b6 e v (.sl ys t)=a_ (v',bl)/\cV bl v' (xs++ys) n e/\∀(j:Nat) b,J[j]?=a_ b->(∀xs,v≠.sl xs (.tok j))->bl[j]?=a_ b:=by
 rcases hA with⟨rfl,rfl⟩|⟨id,rfl,S⟩
 refine⟨.sl ([]++ys) (.tok J.length),J++[.tok ys.length n e],?_,bF ⟨J.length,rfl,af⟩,λj b h _=>bU h⟩;simp only[iP,gF] at hfit;simp[eu,gZ,iY,iK,bR,hy,hn,O,hfit];have hl:id<J.length:=gl S;refine⟨.sl (xs++ys) (.tok id),J.set id (.tok (xs.length+ys.length) n e),?_,bF ⟨id,rfl,aHS⟩,λj b h bR=>?_⟩;simp[eu,gZ,iY,iK,bR,hy,hn,O,hfit,I,S];rw[bC (λq=>bR xs aIA)];exact h
structure uM(p:cM)(l:List dw)(bx:bg)(h:List br):Prop where
 b:h[0]?=a_ (.cells p.cells bf)
 a:cV h bx (l.map mH) 5 121
 ok:∀x∈l,x.Hf
def uM.MH{m:List dw}(s:uM p l bx h)(hm:∀x∈m,x.Hf)(bR:m≠[])(hl:l.length+m.length<=2000000):∃cj g,eu h 5 48 121 bx (.sl (m.map mH) t)=a_ (cj,g)/\uM p (l++m) cj g:=by
 obtain⟨cj,g,e1,hA,S⟩:=ab5 (ys:=m.map mH) (b6:=48) (t:=t) s.a (Rj l) (Rj m) (by simpa using bR) ag ag ah;refine⟨cj,g,e1,S _ _ s.b λxs z=>?_,by rw[gQ];exact hA,λx I=>?_⟩
 rcases s.a with⟨q,_⟩|⟨id,q1,bt⟩
 rw[q] at z;cases z;rw[q1] at z;cases z;rw[s.b] at bt;cases bt
 rcases gA.1 I with z|z
 exact s.ok x z;exact hm x z
def uM.push(s:uM p l bx h)(x:dw)(I:x.Hf)(hl:l.length<=1000000):∃cj g,eu h 5 48 121 bx (.sl [.agg x.cells] .exact)=a_ (cj,g)/\uM p (l++[x]) cj g:=
 s.MH (m:=[x]) (λy hy=>aJq) af ah
def Bd(h:xC n v ps):eP v:=by
 rcases h.v with rfl|⟨rfl,_⟩
 refine lQ λx I c T=>?_;obtain⟨p,J,rfl⟩:=dZ.1 I;have o4:=h.no p J;have:c=bq p.kind\/c=bq p.low\/c=bq p.high\/c=bu p.name\/c=p.kv:=by simpa[q9,jy,qC] using T
 rcases this with rfl|rfl|rfl|rfl|rfl
 exact dz _;exact dz _;exact dz _;exact dz _;unfold cM.kv;split;exact od;rw[o4];refine lQ λx I c T=>?_;obtain⟨t,_,rfl⟩:=dZ.1 I;rw[dR.1 (show c∈[bq t] from T)];exact dz _;exact od
section
variable{G:Cells}
def aCP(h:xC n v ps):∀(m i:Nat),i<m->i<ps.length->sz ps (i:Int)<=1000000->∀b:Bool,dA G bE 204 [v,.v (.int .i64 (i:Int)),.v (.bool b)] (apm (sz ps (i:Int))):=by
 intro m
 induction m with
 |zero=>intro i Q;omega
 |succ m ih=>
  intro i Q kJ dG b;obtain⟨p,J⟩:=cO kJ;have lA:=h.ok i p J;have o4:=h.no p (cE J);have hs:=Se h.ok.kids J;have eS:=Sd (λk=>sz ps k) p.kids;have lk:=yj o4 aa;have kc:=Bd h;have e1:cA 5 v (.v (.int .i64 (i:Int)))=a_ (.fp p.cells 0):=h.v.cI (x:=p.bN) (by simp[J]) rfl;have ael:∀c:Int,dH [.v (.int .i64 0),.v (.int .i64 0),.v (.int .i64 0),.v (.int .i64 0),.v (.string ⟨#[]⟩)] [(0,1,.v (.int .i64 c))]=a_ (hG ⟨c,0,0,0,[]⟩):=λc=>rfl;have f1:dH [.v (.int .i64 0),.v (.int .i64 0),.v (.int .i64 0),.v (.int .i64 0),.v (.string ⟨#[]⟩)] [(0,1,.v (.int .i64 1)),(4,1,bu p.name)]=a_ (hG ⟨1,0,0,0,p.name⟩):=rfl;have f5:dH [.v (.int .i64 0),.v (.int .i64 0),.v (.int .i64 0),.v (.int .i64 0),.v (.string ⟨#[]⟩)] [(0,1,.v (.int .i64 5)),(2,1,.v (.int .i64 p.low)),(3,1,.v (.int .i64 p.high))]=a_ (hG ⟨5,0,p.low,p.high,[]⟩):=rfl;have oD:∀c:Int,2<=c->c<=4->dw.Hf ⟨c,0,0,0,[]⟩:=λc Y V=>⟨by show 1<=c;omega,by show c<=5;omega,aId⟩;have fY:∀g:List br,g[0]?=a_ (.cells p.cells bf)->bA g bf 1 (.mp 0 0)=a_ (.v (.int .i64 p.kind))/\bA g bf 1 (.mp 0 1)=a_ (.v (.int .i64 p.low))/\bA g bf 1 (.mp 0 2)=a_ (.v (.int .i64 p.high))/\bA g bf 1 (.mp 0 3)=a_ (bu p.name)/\bA g bf 1 (.mp 0 4)=a_ p.kv:=λg q=>by
   simp only[bA,q];exact⟨rfl,rfl,rfl,rfl,rfl⟩
  refine dX (ax5.go ?_);have s1:=yI [] p;simp only[gV,iP] at s1;refine eE (λe g=>e=[(0,v),(1,.v (.int .i64 (i:Int))),(2,.v (.bool b))]/\g=[]) ?_ ?_;refine wx ?_
  first|exact⟨rfl,rfl⟩|exact⟨trivial,trivial⟩|trivial
  rintro e g ⟨rfl,rfl⟩;refine eE (λe g=>e=[(0,v),(1,.v (.int .i64 (i:Int))),(2,.v (.bool b)),(7,.bp)]/\g=[]) ?_ ?_;refine wx ?_
  first|exact⟨rfl,rfl⟩|exact⟨trivial,trivial⟩|trivial
  rintro e g ⟨rfl,rfl⟩;refine eE (λe g=>e=[(0,v),(2,.v (.bool b)),(7,.bp),(8,.mp 0 0)]/\g=[.cells p.cells bf]) ?_ ?_;refine wx ?_
  first|exact⟨rfl,rfl⟩|exact⟨trivial,trivial⟩|trivial
  rintro e g ⟨rfl,rfl⟩;have abm:uM p [] .bp [.cells p.cells bf]:=⟨rfl,sr _ _ _,af⟩;refine eE (λe g=>∃l bx,e=[(0,v),(2,.v (.bool b)),(7,bx),(8,.mp 0 0)]/\uM p l bx g/\l.length<=1) ?_ ?_;obtain⟨cj,g,p1,p2⟩:=abm.push ⟨2,0,0,0,[]⟩ (oD 2 ag ag) af;cases b with
  |true=>
   refine wx ?_;exact⟨_,cj,rfl,p2,af⟩
  |false=>
   refine wy ?_;exact⟨[],.bp,rfl,abm,af⟩
  rintro e g ⟨l1,o1,rfl,Tp,hl1⟩;obtain⟨d0,d1,d2,d3,d4⟩:=fY g Tp.b;refine eE (λe g=>∃l bx,e=[(0,v),(2,.v (.bool b)),(7,bx),(8,.mp 0 0)]/\uM p l bx g/\l.length<=1+(if p.kind=1 then 1 else 0)/\(p.kind=1->l≠[])) ?_ ?_;by_cases q1:p.kind=1;have hn:p.name.length<=12:=by
   rcases lA.1 with z|z|z
   exact z.2.1;omega;omega
  obtain⟨cj,g2,p1,p2⟩:=Tp.push ⟨1,0,0,0,p.name⟩ ⟨by show(1:Int)<=1;decide,aHJ,hn⟩ aa;refine wx ?_;exact⟨_,cj,rfl,p2,ah,λ_=>af⟩;have n1:(p.kind==1)=bf:=aH8
  refine iF @d0 @n1 ?_;exact⟨l1,o1,rfl,Tp,aa,λz=>absurd z q1⟩;rintro e g ⟨l2,o2,rfl,api,jP,agh⟩;have H9:(if p.kind=1 then 1 else 0)<=1:=by split<;>omega
  refine eE (λe g=>∃l bx,e=[(2,.v (.bool b)),(7,bx),(8,.mp 0 0)]/\uM p l bx g/\l.length<=1+(if p.kind=1 then 1 else 0)+(p.kids.map λk=>sz ps k+1).sum/\l≠[]) ?_ ?_;refine wy ?_;refine dx (λj e g=>∃l bx,e=[(0,v),(2,.v (.bool b)),(7,bx),(8,.mp 0 0),(9,bq j)]/\uM p l bx g/\l.length<=1+(if p.kind=1 then 1 else 0)+((p.kids.take j).map λk=>sz ps k+1).sum/\((p.kind=1\/0<j)->l≠[])) p.kids.length ⟨l2,o2,rfl,api,ah,λz=>agh aa⟩ ?_ ?_
  · rintro j e g hj ⟨l3,jH,rfl,Ho,rR,Ws⟩
    obtain⟨x,I⟩:=cO hj;obtain⟨x0,x1⟩:=lA.2 x (cE I);obtain⟨xn,rfl⟩:=oI x0;obtain⟨q,hq⟩:∃q,ps[xn]?=a_ q:=⟨ps[xn],cx aa⟩;have xk:=yJ (f:=λk=>sz ps k+1) I;have sl:=B7 (λk=>sz ps k+1) p.kids (j+1);have nk:cA 1 p.kv (.v (.int .i64 (j:Int)))=a_ (.fp [.v (.int .i64 (xn:Int))] 0):=by
     unfold cM.kv;split;rename_i z;rw[z] at I;simp at I;exact mP (x:=bq (xn:Int)) aJC rfl
    have xT:cA 5 v (.v (.int .i64 (xn:Int)))=a_ (.fp q.cells 0):=h.v.cI (x:=q.bN) aHu rfl;have KG:∀J,bA J bf 1 (.fp q.cells 0)=a_ (.v (.int .i64 q.kind)):=λJ=>rfl;obtain⟨c0,_,_,_,c4⟩:=fY g Ho.b;obtain⟨bv,PA,b1,abp⟩:=Ho.push ⟨4,0,0,0,[]⟩ (oD 4 ag ag) aa;obtain⟨q6,_,_,_,u4⟩:=fY PA abp.b;have JA:dy.wrap ((j:Int)+1)=((j+1:Nat):Int):=lG aa;refine wy ?_
    repeat' ((refine cL (λq=>?_) λq=>?_)<;>(have q':=q)<;>(simp -failIfUnchanged only[pG] at q')<;>(refine vG (fH @mh @c4 @c0 @u4) (fH @q6 @lk @nk @wH) @xT @zl @KG @ael @abH @b1 @q ?_))
    all_goals first
     |(exfalso;omega)
     |(refine ek (ih xn aa aa aa _) ?_
       rintro r ⟨ys,rfl,y1,fK,lI⟩
       first
        |(obtain⟨cj,g2,p1,p2⟩:=Ho.MH (t:=.no) lI y1 aa
          refine wy ?_;exact⟨_,cj,rfl,p2,aIy,λ_=>by simp[y1]⟩)
        |(obtain⟨cj,g2,p1,p2⟩:=abp.MH (t:=.no) lI y1 ah
          refine iF @p1 @JA ?_;exact⟨_,cj,rfl,p2,by rw[en,en,p8];omega,λ_=>by simp[y1]⟩))
  rintro e g ⟨l3,jH,rfl,Ho,rR,Ws⟩;obtain⟨d0,d1,d2,d3,d4⟩:=fY g Ho.b;refine wy ?_;rw[sy] at rR;refine⟨l3,jH,rfl,Ho,rR,Ws ?_⟩
  rcases lA.1 with z|z|z
  exact bD z.1;exact bF aa;exact bF aa;rintro e g ⟨l4,mC,rfl,Tr,auV,au_⟩;obtain⟨d0,d1,d2,d3,d4⟩:=fY g Tr.b;refine eE (λe g=>∃l bx,e=[(2,.v (.bool b)),(7,bx)]/\uM p l bx g/\l.length<=2+(p.kids.map λk=>sz ps k+1).sum/\l≠[]) ?_ ?_;by_cases fh:p.kind=4;rw[if_neg aa] at auV;obtain⟨cj,g2,p1,p2⟩:=Tr.push ⟨5,0,p.low,p.high,[]⟩ ⟨aHJ,aI9,aId⟩ aa;refine wx ?_;exact⟨_,cj,rfl,p2,ah,af⟩;have ie:(p.kind==4)=bf:=aIb
  refine wy ?_;exact⟨l4,mC,rfl,Tr,aa,au_⟩;rintro e g ⟨DL,pU,rfl,abn,Wg,ava⟩;refine eE (λe g=>∃l bx,e=[(7,bx)]/\uM p l bx g/\l.length<=3+(p.kids.map λk=>sz ps k+1).sum/\l≠[]) ?_ ?_;cases b with
  |true=>
   obtain⟨cj,g2,p1,p2⟩:=abn.push ⟨3,0,0,0,[]⟩ (oD 3 ag ag) aa;refine wx ?_;exact⟨_,cj,rfl,p2,ah,af⟩
  |false=>
   refine wy ?_;exact⟨DL,pU,rfl,abn,aa,ava⟩
  rintro e g ⟨F2,uh,rfl,abo,P7,agi⟩;refine wy ?_
  rcases abo.a with⟨rfl,z⟩|⟨id,rfl,_⟩
  exact absurd aN agi;obtain⟨k,S⟩:=(gP (t:=.tok id) (iW (f:=mH) (l:=F2) λa _=>aeW a):b8 g _ _).done;exact⟨k,_,S,F2,rfl,agi,aa,abo.ok⟩
def aCI(h:xC n v ps)(hn:n<=100000)(bR:ps≠[]):dA G bE 146 [v] (zi (800*n)):=by
 have hl:=h.len;obtain⟨x,I⟩:=h.top.resolve_left bR;have D:=Zu bR I;have hs:=Zs h.ok.kids I;rw[D] at hs;simp only[fM,mI,y8,GY] at hs;have ln:=h.v.cN;rw[dj] at ln;refine dX (axS.go ?_);refine wy (jz (aCP h ps.length (ps.length-1) aa aa aa bf) (cl (Bd h) (cl (dz _) (cl (dz _) dK))) ?_);rintro r ⟨ys,rfl,y1,fK,lI⟩;refine wy (jz (aCK (bD rfl) lI aa) (cl (lQ Um) dK) ?_);rintro r ⟨t,rfl,ht⟩;refine wy ?_;exact rJ aa
end
end
section
variable{l:List (List UInt8)}{w:List UInt8}{v:bg}
def jZ:List (List UInt8)->Nat
 |[]=>0
 |w::r=>w.length+1+jZ r
def QU(a b:List (List UInt8)):jZ (a++b)=jZ a+jZ b:=by
 induction a with
 |nil=>simp[jZ]
 |cons x r ih=>simp only[k6,jZ,ih];omega
def Xs(l:List (List UInt8))(n:Nat):jZ (l.take n)+jZ (l.drop n)=jZ l:=by
 rw[<-QU,aaJ]
def ajX{i:Nat}(h:l[i]?=a_ w):jZ (l.take (i+1))=jZ (l.take i)+w.length+1:=by
 rw[Ew,h,QU];simp[jZ];omega
def IK:∀l:List (List UInt8),l.length<=jZ l
 |[]=>ck _
 |w::r=>by have:=IK r;simp only[jZ,eV];omega
def ajW(h:w∈l):w.length<=jZ l:=by
 obtain⟨i,Q,rfl⟩:=Eu h;have Y:=ajX (cx Q);have V:=Xs l (i+1);omega
def abt(n:Nat)(r:bg):Prop:=∃(v:bg) (e:Int) (l:List (List UInt8)),r=.bQ [v,.v (.int .i64 e)]/\cG v (l.map bu)/\jZ l<=n
section
variable{G:Cells}
def awE(hv:cG v (l.map bu))(hl:jZ l<=1000000):dA G bE 145 [v] (zi (jZ l)):=by
 refine dX (ayi.go ?_);have oX:=IK l;have ln:=hv.cN;rw[dj] at ln;refine wy ?_;refine dx (λi e h=>∃t:List UInt8,e=[(0,v),(3,bu t),(4,bq i)]/\t.length<=jZ (l.take i)/\h=[]) l.length ⟨[],rfl,af,rfl⟩ ?_ ?_;rintro i e h Q ⟨t,rfl,ht,rfl⟩;obtain⟨s,hs⟩:=cO Q;have Y:=ajX hs;have V:=Xs l (i+1);have e1:cA 1 v (.v (.int .i64 (i:Int)))=a_ (.fp [bu s] 0):=hv.cI (x:=bu s) aJr rfl;have a1:dF .add (bu t) (.v (.string ⟨[32].toArray⟩))=a_ (bu (t++[32])):=uQ (b:=[32]) ah;have a3:dF .add (bu (t++[32])) (bu s)=a_ (bu (t++[32]++s)):=uQ ah;refine wy (cL (λq=>?_) λq=>?_);refine wx ?_;exact⟨_,rfl,ah,trivial⟩;refine wx ?_;exact⟨_,rfl,ah,trivial⟩;rintro e h ⟨t,rfl,ht,rfl⟩;rw[sy] at ht;exact wy (rJ ht)
def aC6(s:List UInt8)(hs:s.length<=1000000):dA G bE 38 [bu s] (abt (s.length+1)):=by
 refine dX (ayk.go ?_);have bad:∀(J:List br) (e:Int),∃k bS,cX J k (.bQ [.bp,.v (.int .i64 e)])=a_ bS/\abt (s.length+1) bS:=λJ e=>by
  obtain⟨k,S⟩:=(fD (bG eB (bG (bH (.int .i64 e)) cW)):b8 J _ _).done;exact⟨k,_,S,.bp,e,[],rfl,bF ⟨rfl,rfl⟩,jR _⟩
 refine wy ?_;refine dx (λi e h=>∃(l:List (List UInt8)) (bx:bg) (t:List UInt8),e=[(0,bu s),(4,bx),(5,bu t),(6,bq i)]/\jZ l+t.length<=i/\cV h bx (l.map bu) 1 9) s.length ⟨[],.bp,[],rfl,ck _,sr _ _ _⟩ ?_ ?_
 · rintro i e h Q ⟨l,bx,t,rfl,ht,hA⟩
   have oX:=IK l;obtain⟨cj,g,e1,fo,_⟩:=ni (x:=bu t) (b6:=16) hA (yy l) rfl ag ag ah;have ab:e9 1 [bu t]=a_ (.sl [bu t] .exact):=rfl;have pu:jZ (l++[t])=jZ l+t.length+1:=by rw[QU];simp[jZ];omega
   have c1:=λJ=>OX (l:=s) (i:=i) (j:=i+1) aa aa J;have a1:dF .add (bu t) (bu ((s.take (i+1)).drop i))=a_ (bu (t++(s.take (i+1)).drop i)):=uQ ah;have r1:((t++(s.take (i+1)).drop i)).length<=t.length+1:=ah
   refine nD ?_
   repeat' ((refine ba (λq'=>?_) λq'=>?_)<;>refine p5 @wX @ad1 @ab @e1 @wz ?_)
   all_goals first
    |exact bad _ _
    |exact⟨l++[t],cj,[],rfl,by rw[pu];simp;omega,aHz⟩
    |(refine ek (aA0 _) ?_
      rintro r ⟨b,rfl⟩;cases b with
      |false=>
       exact ir (bad _ _)
      |true=>
       refine wy ?_;exact⟨l,bx,_,rfl,aa,hA⟩)
 rintro e h ⟨l,bx,t,rfl,ht,hA⟩;have oX:=IK l;obtain⟨cj,g,e1,fo,_⟩:=ni (x:=bu t) (b6:=16) hA (yy l) rfl ag ag ah;have ab:e9 1 [bu t]=a_ (.sl [bu t] .exact):=rfl;have pu:jZ (l++[t])=jZ l+t.length+1:=by rw[QU];simp[jZ];omega
 refine wy ?_;refine c_ (λq=>?_) λq=>?_;exact bad _ _;refine wy ?_;rw[<-List.map_singleton,<-gQ] at fo
 rcases fo with⟨rfl,z⟩|⟨id,rfl,_⟩
 exact bad _ _;obtain⟨k,S⟩:=(fD (bG (gP (t:=.tok id) (iW (f:=bu) (l:=l++[t]) λa _=>bH _)) (bG (bH (.int .i64 0)) cW)):b8 g _ _).done;exact⟨k,_,S,_,0,l++[t],rfl,bD rfl,by rw[pu];omega⟩
def Mi{X:List br}(h0:X[0]?=a_ (.cells fZ bf)):bL X 4 (.mp 0 0) (.agg fZ)=a_ (X.set 0 (.cells fZ bf))/\bA (X.set 0 (.cells fZ bf)) bh 4 (.mp 0 0)=a_ (.agg fZ)/\∃n bS,cX (X.set 0 (.cells fZ bf)) n (.bQ [.agg fZ,.v (.bool bf)])=a_ bS/\G9 bS:=
 ⟨BP h0 rfl (x:=fZ) rfl rfl,(Q2 (bV (a:=.cells fZ bf) (gl h0))).2,Mj (yZ _)⟩
@[go_sem]def akf{h:List br}{k:Nat}{nm:List UInt8}{v:Int}{al:Bool}{bv:bg}(O:h[k]?=a_ (.cells (eJ nm v al bv) bf)):bA h bf 1 (.mp k 1)=a_ (.v (.int .i64 v)):=by
 simp only[bA,O];rfl
def azL{ls:List (List UInt8)}(hv:cG v (ls.map bu))(c7:ls.length<=100000)(hw:∀w∈ls,w.length<=100000)(V:2<=ls.length):dA G bE 78 [v] G9:=by
 refine dX (axx.go ?_);obtain⟨n1,o3⟩:∃n,ls[1]?=a_ n:=⟨ls[1],cx aa⟩;have e1:cA 1 v (.v (.int .i64 1))=a_ (.fp [bu n1] 0):=hv.cI (i:=1) (x:=bu n1) (by simp[o3]) rfl;have f1:∀x:List UInt8,dH fZ [(0,1,bu x)]=a_ (eJ x 0 bf .bp):=λx=>rfl;have f0:dH fZ []=a_ fZ:=rfl;have hz:[cU (.string ⟨[].toArray⟩),.v (.int .i64 0),.v (.bool bf),.bp]=fZ:=rfl;have s1:bL [.cells fZ bf,.cells fZ bf] 4 (.mp 1 0) (.agg (eJ n1 0 bf .bp))=a_ [.cells fZ bf,.cells (eJ n1 0 bf .bp) bf]:=BP (k:=1) rfl rfl rfl rfl;have ln:=hv.cN;rw[dj] at ln;refine wy ?_;refine dx (λn e h=>∃(l:List (List UInt8)) (bx:bg),e=[(0,v),(2,.mp 0 0),(4,.mp 1 0),(5,bx),(6,.v (.int .i64 ((2+n:Nat):Int)))]/\h[0]?=a_ (.cells fZ bf)/\(∃x,h[1]?=a_ (.cells x bf)/\nJ x)/\cV h bx (l.map bu) 1 9/\l.length<=n) (ls.length-2)
  ⟨[],.bp,rfl,rfl,⟨_,rfl,n1,0,bf,.bp,rfl,yZ _⟩,sr _ _ _,af⟩ ?_ ?_
 rintro n e h hn ⟨l,bx,rfl,h0,⟨x,Y,nm,si,al,bv,rfl,wI⟩,hA,hl⟩;obtain⟨w,DC⟩:∃w,ls[2+n]?=a_ w:=⟨ls[2+n]' aa,cx aa⟩;have DD:=hw w (cE DC);have e2:cA 1 v (.v (.int .i64 ((2+n:Nat):Int)))=a_ (.fp [bu w] 0):=hv.cI (x:=bu w) (by simp[DC]) rfl;have wn:dy.wrap (((2+n:Nat):Int)+1)=((2+(n+1):Nat):Int):=by rw[lG aa];rfl
 obtain⟨v',y1,fK,lI⟩:=CN hA CW;refine wy ?_;refine ek (adC w aa) ?_;rintro r ⟨a,b,f,rfl,oV,PV⟩;obtain⟨cj,g,p1,pA,_,_,jj⟩:=ni (x:=bu a) (b6:=16) hA (yy l) rfl ag ag ah;have ig:∀{j:Nat} {c:br},h[j]?=a_ c->(∀x n e,c≠.tok x n e)->g[j]?=a_ c:=λq O=>jj _ _ q λxs z=>by
  rcases hA with⟨cg,_⟩|⟨id,cg,z2⟩
  rw[cg] at z;cases z;rw[cg] at z;cases z;rw[q] at z2;cases z2;exact O _ _ _ rfl
 have k0:=ig h0 af;have k1:=ig Y af;have MC:cV g cj ((l++[a]).map bu) 1 9:=by rw[gQ];exact pA
 have ab:e9 1 [bu a]=a_ (.sl [bu a] .exact):=rfl;have z_:=gl k1;obtain⟨m1,m2,m3⟩:=Mi k0;have one:f=bh\/f=bf:=by cases f<;>simp
 rcases one with rfl|rfl
 · refine wy ?_
   refine ek (PS y1 aa a) ?_;rintro r ⟨b2,rfl⟩;cases b2
   all_goals
    refine wy ?_;refine c_ (λq=>?_) λq=>?_
    · refine ek (ZY b aa) ?_
      rintro r ⟨z,rfl,_,_⟩;have st:=Q3 k1 z;have i1:(g.set 1 (.cells (eJ nm z al bv) bf))[1]?=a_ (.cells (eJ nm z al bv) bf):=bV z_;have i0:(g.set 1 (.cells (eJ nm z al bv) bf))[0]?=a_ (.cells fZ bf):=by rw[bC aa];exact k0
      have av2:=jN (cs':=eJ nm z al bv) MC k1;obtain⟨u1,u2,u3⟩:=Mi i0;refine p6 @st (akf i1) @u1 @u2 @wn ?_
      repeat' ((refine ba (λq'=>?_) λq'=>?_)<;>refine Cb @yV @uC @f0 @u1 @u2 @wn ?_)
      all_goals first
       |exact u3
       |exact⟨l++[a],cj,rfl,i0,⟨_,i1,nm,z,al,bv,rfl,wI⟩,av2,ah⟩
    refine c_ (λbt=>?_) λbt=>?_
    · refine ek (Xq b aa) ?_
      rintro r ⟨gW,gy,ok,rfl,tZ⟩;have st:=Q4 k1 gW;have i1:=bV (a:=.cells (eJ nm si gW bv) bf) z_;have yH:=Q5 i1 tZ.one.1 tZ.one.2;have j1:((g.set 1 (.cells (eJ nm si gW bv) bf)).set 1 (.cells (eJ nm si gW gy) bf))[1]?=a_ (.cells (eJ nm si gW gy) bf):=bV (by simpa using z_);have BE:((g.set 1 (.cells (eJ nm si gW bv) bf)).set 1 (.cells (eJ nm si gW gy) bf))[0]?=a_ (.cells fZ bf):=by rw[bC aa,bC aa];exact k0
      have awB:=jN (cs':=eJ nm si gW gy) (jN (cs':=eJ nm si gW bv) MC k1) i1;obtain⟨u1,u2,u3⟩:=Mi BE;cases ok
      all_goals
       refine p6 @st @yH @u1 @u2 @wn ?_
       first
        |exact u3
        |exact⟨l++[a],cj,rfl,BE,⟨_,j1,nm,si,gW,gy,rfl,tZ⟩,awB,ah⟩
    refine iF @m1 @m2 ?_;exact m3
 refine wy ?_;refine c_ (λq=>?_) λq=>?_;refine ek (ZY b aa) ?_;rintro r ⟨z,rfl,_,_⟩;have st:=Q3 k1 z;have i0:(g.set 1 (.cells (eJ nm z al bv) bf))[0]?=a_ (.cells fZ bf):=by rw[bC aa];exact k0
 obtain⟨u1,u2,u3⟩:=Mi i0;exact iu @st @u1 @u2 u3;refine c_ (λbt=>?_) λbt=>?_;refine ek (Xq b aa) ?_;rintro r ⟨gW,gy,ok,rfl,tZ⟩;have st:=Q4 k1 gW;have i1:=bV (a:=.cells (eJ nm si gW bv) bf) z_;have yH:=Q5 i1 tZ.one.1 tZ.one.2;have BE:((g.set 1 (.cells (eJ nm si gW bv) bf)).set 1 (.cells (eJ nm si gW gy) bf))[0]?=a_ (.cells fZ bf):=by rw[bC aa,bC aa];exact k0
 obtain⟨u1,u2,u3⟩:=Mi BE;exact o_ @st @yH @u1 @u2 u3;refine iF @m1 @m2 ?_;exact m3;rintro e h ⟨l,bx,rfl,h0,⟨x,Y,nm,si,al,bv,rfl,wI⟩,hA,hl⟩;have nW:=BP h0 rfl (x:=eJ nm si al bv) rfl (XO wI.one.1);exact wx (Mj wI)
end
end
section
variable{J:List br}{cq mv v:bg}{ex nm:List UInt8}{al i b_ p:Bool}{a:Int}
def Sep(v w:bg):Prop:=∀id xs ys,v=.sl xs (.tok id)->w=.sl ys (.tok id)->False
def ab4{x w:bg}{xs ys:List bg}{n b6 m:Nat}{e e2:TypeId}(hA:cV J v xs n e)(hW:cV J w ys m e2)(hs:Sep v w)(I:c8 n xs=bh)(hy:c8 n [x]=bh)(hn:0<n)(O:0<b6)(hfit:(xs.length+1)*b6<=140737488355328):
  ∃v' bl,eu J n b6 e v (.sl [x] .exact)=a_ (v',bl)/\cV bl v' (xs++[x]) n e/\cV bl w ys m e2/\Sep v' w/\cr v'=bh/\v'.cells=[v']/\∀(j:Nat) b,J[j]?=a_ b->(∀a c d,b≠.tok a c d)->bl[j]?=a_ b:=by
 rcases hA with⟨rfl,rfl⟩|⟨id,rfl,S⟩
 refine⟨.sl ([]++[x]) (.tok J.length),J++[.tok 1 n e],?_,bF ⟨J.length,rfl,af⟩,?_,?_,rfl,rfl,λj b h _=>bU h⟩;simp only[iP,gF] at hfit;simp only[eu,gZ,iY,iK,hy,hn,O];simp;omega
 rcases hW with z|⟨i2,cg,z2⟩
 exact bD z;exact bF ⟨i2,cg,bU z2⟩;intro i a c Y V;cases Y
 rcases hW with⟨z,_⟩|⟨i2,cg,z2⟩
 rw[z] at V;cases V;rw[cg] at V;cases V;have:=(cJ.1 z2).1;omega;have hl:id<J.length:=(cJ.1 S).1;refine⟨.sl (xs++[x]) (.tok id),J.set id (.tok (xs.length+1) n e),?_,bF ⟨id,rfl,aHS⟩,?_,?_,rfl,rfl,λj b h bR=>?_⟩;simp[eu,gZ,iY,iK,hy,hn,O,hfit,I,S]
 rcases hW with z|⟨i2,cg,z2⟩
 exact bD z;refine bF ⟨i2,cg,?_⟩;rw[bC (λq=>hs id xs ys rfl (by rw[q];exact cg))];exact z2;intro i a c Y V;cases Y;exact hs id xs c rfl V;rw[bC (λq=>by subst q;rw[S] at h;cases h;exact bR _ _ _ rfl)];exact h
def uJ(x:List bg):Prop:=∃nm cq i p b_ a al mv ex,x=eA nm cq i p b_ a al mv ex/\iR 5 cq/\iR 100001 mv/\ex.length<=100000000
def Tl(r:bg):Prop:=∃(x:List bg) (b:Bool),r=.bQ [.agg x,.v (.bool b)]/\uJ x
def Rb{b:Bool}{gs:List (List UInt8)}(hA:cV J cq (gs.map bu) 1 9)(hg:gs.length<=5)(hm:iR 100001 mv)(he:ex.length<=100000000):
  ∃n bS,cX J n (.bQ [.agg (eA nm cq i p b_ a al mv ex),.v (.bool b)])=a_ bS/\Tl bS:=by
 obtain⟨v',cg,z2⟩:=TI hA hg;obtain⟨n,hn⟩:=(fD (bG (kA (bG (bH _) (bG cg (bG (bH _) (bG (bH _) (bG (bH _) (bG (bH _) (bG (bH _) (bG (hm.fz J) (bG (bH _) cW)))))))))) (bG (bH (.bool b)) cW)):b8 J (.bQ [.agg (eA nm cq i p b_ a al mv ex),.v (.bool b)]) _).done;exact⟨n,_,hn,_,b,rfl,nm,v',i,p,b_,a,al,mv,ex,rfl,z2,hm,he⟩
def IU{X:List br}(h0:X[0]?=a_ (.cells gz bf)):bL X 9 (.mp 0 0) (.agg gz)=a_ (X.set 0 (.cells gz bf))/\bA (X.set 0 (.cells gz bf)) bh 9 (.mp 0 0)=a_ (.agg gz)/\∃n bS,cX (X.set 0 (.cells gz bf)) n (.bQ [.agg gz,.v (.bool bf)])=a_ bS/\Tl bS:=
 ⟨wZ h0 rfl (x:=gz) rfl rfl,(vo (bV (a:=.cells gz bf) (cJ.1 h0).1)).2.2,Rb (gs:=[]) (bD ⟨rfl,rfl⟩) af (yZ _) ag⟩
@[go_sem]def akw{h:List br}{k:Nat}(O:h[k]?=a_ (.cells (eA nm cq i p b_ a al mv ex) bf)):bA h bf 1 (.mp k 5)=a_ (.v (.int .i64 a)):=by
 simp only[bA,O];rfl
def Ti(n:Nat)(h:List br)(bx:bg):Prop:=∃(l gs:List (List UInt8)) (nm:List UInt8) (cq:bg) (i p b_:Bool) (a:Int) (al:Bool) (mv:bg),h[0]?=a_ (.cells gz bf)/\h[1]?=a_ (.cells (eA nm cq i p b_ a al mv []) bf)/\cV h bx (l.map bu) 1 9/\l.length<=n/\cV h cq (gs.map bu) 1 9/\gs.length<=4/\Sep bx cq/\iR 100001 mv
section
variable{G:Cells}
set_option maxHeartbeats 1000000 in
def aAo{v:bg}{ls:List (List UInt8)}(hv:cG v (ls.map bu))(P8:jZ ls<=90000)(V:2<=ls.length):dA G bE 79 [v] Tl:=by
 refine dX (axy.go ?_);have c7:=IK ls;have hw:∀w∈ls,w.length<=90000:=λw hm=>gY (ajW hm) P8;obtain⟨n1,o3⟩:∃n,ls[1]?=a_ n:=⟨ls[1],cx aa⟩;have e1:cA 1 v (.v (.int .i64 1))=a_ (.fp [bu n1] 0):=hv.cI (i:=1) (x:=bu n1) (by simp[o3]) rfl;have f1:∀x:List UInt8,dH gz [(0,1,bu x),(4,1,.v (.bool bh))]=a_ (eA x .bp bf bf bh 0 bf .bp []):=λx=>rfl;have f0:dH gz []=a_ gz:=rfl;have hz:[cU (.string ⟨[].toArray⟩),.bp,.v (.bool bf),.v (.bool bf),.v (.bool bf),.v (.int .i64 0),.v (.bool bf),.bp,.v (.string ⟨[].toArray⟩)]=gz:=rfl;have s1:bL [.cells gz bf,.cells gz bf] 9 (.mp 1 0) (.agg (eA n1 .bp bf bf bh 0 bf .bp []))=a_ [.cells gz bf,.cells (eA n1 .bp bf bf bh 0 bf .bp []) bf]:=wZ (k:=1) rfl rfl rfl rfl;have ln:=hv.cN;rw[dj] at ln;have lC:∀J,cN v J=a_ (.v (.int .i64 (ls.length:Int)),J):=λJ=>aHC
 obtain⟨aGU,t0,vj⟩:∃(a b:Nat),v=.sl (ls.map bu) .no:=by
  rcases hv with z|⟨_,z⟩
  exact⟨0,0,z⟩;have:ls=[]:=aN
  rw[this] at V;simp at V
 refine Ns @hz @e1 @f1 @s1 @gV.{0} @k6.{0} @iP.{0} @eV.{0} ?_;refine dx (λn e h=>∃bx:bg,e=[(0,v),(2,.mp 0 0),(4,.mp 1 0),(5,bx),(6,.v (.int .i64 ((2+n:Nat):Int)))]/\Ti n h bx) (ls.length-2)
  ⟨.bp,rfl,[],[],n1,.bp,bf,bf,bh,0,bf,.bp,rfl,rfl,sr _ _ _,af,sr _ _ _,af,(by intro id xs ys q;cases q),yZ _⟩ ?_ ?_
 · rintro n e h hn ⟨bx,rfl,l,gs,nm,cq,ib,pb,b_,cw,al,mv,h0,Y,hA,hl,Dj,kH,gk,kX⟩
   obtain⟨w,DC⟩:∃w,ls[2+n]?=a_ w:=⟨ls[2+n]' aa,cx aa⟩;have DD:=hw w (cE DC);have e2:cA 1 v (.v (.int .i64 ((2+n:Nat):Int)))=a_ (.fp [bu w] 0):=hv.cI (x:=bu w) (by simp[DC]) rfl;have wn:dy.wrap (((2+n:Nat):Int)+1)=((2+(n+1):Nat):Int):=by rw[lG aa];rfl
   have F9:decide (((2+n:Nat):Int)<(ls.length:Int))=bh:=zD aa;have arE:dF .eql (bu w) (.v (.string ⟨[58].toArray⟩))=a_ (.v (.bool (w==[58]))):=og w [58];have K6:=(cJ.1 Y).1;have PG:cr cq=bh:=(zp Dj).1;refine l5 @lC @F9 @e2 @arE ?_;refine cL (λq=>?_) λq=>?_;have aru:∀J,r7 1 v (a_ (.v (.int .i64 ((2+(n+1):Nat):Int)))) bn bn J=a_ (.sl ((ls.drop (2+(n+1))).map bu) .no,J):=λJ=>by
    rw[vj,List.map_drop];exact RU ah Sc J
   have hd:=Xs ls (2+(n+1));refine jl @q @wn @aru ?_;refine jz (awE (v:=.sl ((ls.drop (2+(n+1))).map bu) .no) (bD rfl) aa) (cl (qh (bD rfl)) dK) ?_;rintro r ⟨t,rfl,ht⟩;refine fj ?_;refine jz (ak8 t aa) (cl (uT _) dK) ?_;rintro r ⟨v2,ps,Rz,zI,rfl,hE⟩;have Xr:=hE.v.cN;rw[dj] at Xr;have azp:∀J,cN v2 J=a_ (.v (.int .i64 (ps.length:Int)),J):=λJ=>by rw[Xr J,mq]
   have g_:=bV (a:=.cells (eA nm cq ib pb bf cw al mv []) bf) K6;have u5:(h.set 1 (.cells (eA nm cq ib pb bf cw al mv []) bf))[0]?=a_ (.cells gz bf):=by rw[bC aa];exact h0
   have Vd:=jN (cs':=eA nm cq ib pb bf cw al mv []) Dj Y;have kr:=akA Y bf;generalize h.set 1 (.cells (eA nm cq ib pb bf cw al mv []) bf)=g at g_ u5 Vd kr;refine mG @kr @azp ?_;refine cL (λbt=>?_) λbt=>?_;have bR:ps≠[]:=by intro z;rw[z] at bt;simp at bt
   refine eN @bt ?_;refine jz (aCI hE aa bR) (cl (Bd hE) dK) ?_;rintro r ⟨tx,rfl,agC⟩;have tn:=akC g_ tx;have aut:=(cJ.1 g_).1;have i_:=bV (a:=.cells (eA nm cq ib pb bf cw al mv tx) bf) aut;have oU:(g.set 1 (.cells (eA nm cq ib pb bf cw al mv tx) bf))[0]?=a_ (.cells gz bf):=by rw[bC aa];exact u5
   have asB:=jN (cs':=eA nm cq ib pb bf cw al mv tx) Vd g_;have nW:=wZ oU rfl (x:=eA nm cq ib pb bf cw al mv tx) rfl (Gc PG kX.one.1);have k0:=bV (a:=.cells (eA nm cq ib pb bf cw al mv tx) bf) (cJ.1 oU).1;refine l5 @tn ((vo i_).2.2) @nW ((vo k0).2.2) ?_;exact Rb (jN asB oU) aa kX aa;have nW:=wZ u5 rfl (x:=eA nm cq ib pb bf cw al mv []) rfl (Gc PG kX.one.1);have k0:=bV (a:=.cells (eA nm cq ib pb bf cw al mv []) bf) (cJ.1 u5).1;refine l5 @bt ((vo g_).2.2) @nW ((vo k0).2.2) ?_;exact Rb (jN Vd u5) aa kX ag;obtain⟨v',y1,fK,lI⟩:=CN hA CW;obtain⟨aF1,x1,x2,x3⟩:=CN Dj CW;refine mG @q @e2 ?_;refine jz (adC w aa) (cl (uT _) dK) ?_;rintro r ⟨a,b,f,rfl,oV,PV⟩;refine fj ?_;refine jz (PS y1 aa a) (cl fK (cl (uT _) dK)) ?_;rintro r ⟨c0,rfl⟩;obtain⟨cj,g,p1,pA,Yq,ak7,_,_,jj⟩:=ab4 (x:=bu a) (b6:=16) hA Dj gk (yy l) rfl ag ag ah;have k0:=jj _ _ h0 af;have k1:=jj _ _ Y af;have MC:cV g cj ((l++[a]).map bu) 1 9:=by rw[gQ];exact pA
   have ab:∀z:List UInt8,e9 1 [bu z]=a_ (.sl [bu z] .exact):=λz=>rfl;have KH:dF .eql (bu a) (.v (.string ⟨[103,114,111,117,112].toArray⟩))=a_ (.v (.bool (a==[103,114,111,117,112]))):=og a [103,114,111,117,112];have adX:dF .eql (bu a) (.v (.string ⟨[105,110,108,105,110,101].toArray⟩))=a_ (.v (.bool (a==[105,110,108,105,110,101]))):=og a [105,110,108,105,110,101];have adZ:dF .eql (bu a) (.v (.string ⟨[112,105,99,107].toArray⟩))=a_ (.v (.bool (a==[112,105,99,107]))):=og a [112,105,99,107];have ea:dF .eql (bu a) (.v (.string ⟨[97,116,116,114].toArray⟩))=a_ (.v (.bool (a==[97,116,116,114]))):=og a [97,116,116,114];have em:dF .eql (bu a) (.v (.string ⟨[109,97,114,107,115].toArray⟩))=a_ (.v (.bool (a==[109,97,114,107,115]))):=og a [109,97,114,107,115];have z_:=(cJ.1 k1).1;have ajy:(l++[a]).length<=n+1:=ah
   obtain⟨m1,m2,m3⟩:=IU k0;clear jj h0 Y hA Dj;have ajV:=EO Yq;rw[dj] at ajV;have K:∀(i2 p2:Bool) (a2:Int) (gW:Bool) (lD:bg),iR 100001 lD->(g.set 1 (.cells (eA nm cq i2 p2 b_ a2 gW lD []) bf))[1]?=a_ (.cells (eA nm cq i2 p2 b_ a2 gW lD []) bf)/\(g.set 1 (.cells (eA nm cq i2 p2 b_ a2 gW lD []) bf))[0]?=a_ (.cells gz bf)/\Ti (n+1) (g.set 1 (.cells (eA nm cq i2 p2 b_ a2 gW lD []) bf)) cj:=λi2 p2 a2 gW lD hm=>by
    have j1:(g.set 1 (.cells (eA nm cq i2 p2 b_ a2 gW lD []) bf))[1]?=a_ (.cells (eA nm cq i2 p2 b_ a2 gW lD []) bf):=bV z_;have BE:(g.set 1 (.cells (eA nm cq i2 p2 b_ a2 gW lD []) bf))[0]?=a_ (.cells gz bf):=by rw[bC aa];exact k0
    exact⟨j1,BE,l++[a],gs,nm,cq,i2,p2,b_,a2,gW,lD,BE,j1,jN MC k1,ajy,jN Yq k1,kH,ak7,hm⟩
   obtain⟨aG2,az1,az2⟩:=K bh pb cw al mv kX;obtain⟨aG3,az3,az4⟩:=K ib bh cw al mv kX;obtain⟨aEi,aEj,aEl⟩:=IU az1;obtain⟨aEm,aEn,aEo⟩:=IU az3;have t2:=aky k1 bh;have t3:=akz k1 bh;have aAS:Sep cq cj:=λid xs ys Y V=>ak7 id ys xs V Y;obtain⟨C9,g5,r1,aBp,aBs,aBq,ro,rc,BY⟩:=ab4 (x:=bu b) (b6:=16) Yq MC aAS (yy gs) rfl ag ag ah;have BE:=BY _ _ k0 af;have j1:=BY _ _ k1 af;have R_:=X3 j1 ro rc;have Fy:=(cJ.1 j1).1;have cg:(g5.set 1 (.cells (eA nm C9 ib pb b_ cw al mv []) bf))[1]?=a_ (.cells (eA nm C9 ib pb b_ cw al mv []) bf):=bV Fy;have z0:(g5.set 1 (.cells (eA nm C9 ib pb b_ cw al mv []) bf))[0]?=a_ (.cells gz bf):=by rw[bC aa];exact BE
   have aE3:cV (g5.set 1 (.cells (eA nm C9 ib pb b_ cw al mv []) bf)) C9 ((gs++[b]).map bu) 1 9:=by rw[gQ];exact jN aBp j1
   have aBr:Sep cj C9:=λid xs ys Y V=>aBq id ys xs V Y;have aE4:gs.length<4->Ti (n+1) (g5.set 1 (.cells (eA nm C9 ib pb b_ cw al mv []) bf)) cj:=λh4=>
    ⟨l++[a],gs++[b],nm,C9,ib,pb,b_,cw,al,mv,z0,cg,jN aBs j1,ajy,aE3,ah,aBr,kX⟩
   obtain⟨Sm,u32,ZQ⟩:=IU z0;have L_:=(vo k1).2.1;cases f with
   |false=>
    cases c0
    all_goals
     refine jl @ab @p1 @KH ?_
     repeat' ((refine cL (λq=>?_) λq=>?_)<;>(have q':=q)<;>(simp -failIfUnchanged only[pG] at q')<;>(refine vG (fH @yV @uC @ab @p1) (fH @KH @adX @adZ @ea) (fH @em @mh @t2 @t3) (fH @f0 @m1 @m2 @aEi) @aEj @aEm @aEn @wn @q ?_))
    all_goals first
     |exact m3
     |exact aEl
     |exact aEo
     |exact⟨_,rfl,az2⟩
     |exact⟨_,rfl,az4⟩
   |true=>
    cases c0
    all_goals
     refine jl @ab @p1 @KH ?_;refine cL (λYI=>?_) λYI=>?_
     · refine eN @YI ?_
       refine jz (XS b aa) (cl (uT _) dK) ?_;rintro r ⟨b2,rfl⟩;cases b2 with
       |false=>
        refine oH @L_ @ab @r1 @R_ @f0 @Sm @u32 ?_;exact ZQ
       |true=>
        refine eN @L_ ?_;refine jz (PS x1 aa b) (cl x2 (cl (uT _) dK)) ?_;rintro r ⟨b3,rfl⟩;cases b3 with
        |true=>
         refine oH @L_ @ab @r1 @R_ @f0 @Sm @u32 ?_;exact ZQ
        |false=>
         refine vG @L_ @ajV @ab @r1 @R_ @f0 @Sm @u32 @wn ?_
         repeat' ((refine cL (λq=>?_) λq=>?_)<;>(have q':=q)<;>(simp -failIfUnchanged only[pG] at q')<;>(refine vG (fH @yV @uC @mh @L_) @ab @r1 @R_ @f0 @Sm @u32 @wn @q ?_))
         all_goals first
          |exact ZQ
          |exact⟨_,rfl,aE4 aa⟩
     refine mG @YI @adX ?_;refine cL (λalp=>?_) λalp=>?_
     all_goals
      refine mG @alp @adZ ?_;refine cL (λalr=>?_) λalr=>?_
      all_goals
       refine mG @alr @ea ?_;refine cL (λYH=>?_) λYH=>?_
       · refine eN @YH ?_
         refine jz (ZY b aa) (cl (uT _) dK) ?_;rintro r ⟨z,rfl,_,_⟩;obtain⟨w1,w2,w3⟩:=K ib pb z al mv kX;obtain⟨Sn,So,ZR⟩:=IU w2;have t5:=akB k1 z;refine Cb @t5 (akw w1) @f0 @Sn @So @wn ?_
         repeat' ((refine cL (λq=>?_) λq=>?_)<;>(have q':=q)<;>(simp -failIfUnchanged only[pG] at q')<;>(refine oH @yV @uC @f0 @Sn @So @wn @q ?_))
         all_goals first
          |exact ZR
          |exact⟨_,rfl,w3⟩
       refine mG @YH @em ?_;refine cL (λAw=>?_) λAw=>?_
       · refine eN @Aw ?_
         refine jz (Xq b aa) (cl (uT _) dK) ?_;rintro r ⟨gW,gy,ok,rfl,tZ⟩;obtain⟨w1,w2,w3⟩:=K ib pb cw gW gy tZ;obtain⟨Sn,So,ZR⟩:=IU w2;have t6:=X4 k1 gW;have i1:=bV (a:=.cells (eA nm cq ib pb b_ cw gW mv []) bf) z_;have t7:=X5 i1 tZ.one.1 tZ.one.2;rw[aoO] at t7;cases ok
         all_goals
          refine Cb @t6 @t7 @f0 @Sn @So @wn ?_
          first
           |exact ZR
           |exact⟨_,rfl,w3⟩
       refine l5 @Aw @f0 @m1 @m2 ?_;exact m3
 rintro e h ⟨bx,rfl,l,gs,nm,cq,ib,pb,b_,cw,al,mv,h0,Y,hA,hl,Dj,kH,gk,kX⟩;have PG:cr cq=bh:=(zp Dj).1;have nW:=wZ h0 rfl (x:=eA nm cq ib pb b_ cw al mv []) rfl (Gc PG kX.one.1);have k0:=bV (a:=.cells (eA nm cq ib pb b_ cw al mv []) bf) (cJ.1 h0).1;have F9:decide (((2+(ls.length-2):Nat):Int)<(ls.length:Int))=bf:=CY aa;refine p5 @lC @F9 ((vo Y).2.2) @nW ((vo k0).2.2) ?_;exact Rb (jN Dj h0) aa kX ag
end
end
section
variable{x:List bg}
def uJ.ok(h:uJ x):x.length=9/\x.all cr=bh/\∃nm,x[0]?=a_ (bu nm):=by
 obtain⟨nm,cq,i,p,b_,a,al,mv,ex,rfl,hg,hm,_⟩:=h;exact⟨rfl,Gc hg.one.1 hm.one.1,nm,rfl⟩
abbrev aaY:=tD 79 115 uJ
structure EA(bB mv:bg)(cv marks:List (List bg))(h:List br):Prop where
 n:cV h bB (cv.map dD) 9 79
 m:cV h mv (marks.map dD) 4 115
 mB:∀x∈cv,uJ x
 gL:∀x∈marks,nJ x
 nl:cv.length<=24
 ml:marks.length<=8
def aa3(J bl:List br):Prop:=J.length<=bl.length/\∀(j:Nat) Z fz,J[j]?=a_ (.cells Z fz)->bl[j]?=a_ (.cells Z fz)
def abh(J:List br)(r:bg)(bl:List br):Prop:=∃bB mv cv marks,∃e:Int,r=.bQ [.agg [bB,mv],.v (.int .i64 e)]/\EA bB mv cv marks bl/\aa3 J bl
structure y9(J:List br)(K:Nat)(bB mv:bg)(cv marks:List (List bg))(g:List br):Prop where
 s:aaY K bB mv cv marks g
 r:g[K+1]?=a_ (.cells [.bp,.bp] bf)
 ge:J.length<=K
 fr:aa3 J g
section
variable{J:List br}{K:Nat}{bB mv:bg}{cv marks:List (List bg)}{g:List br}
def y9.app{x:List br}(s:y9 J K bB mv cv marks g):y9 J K bB mv cv marks (g++x):=⟨s.s.app,bU s.r,s.ge,⟨by have:=s.fr.1;simp;omega,λj Z fz h=>bU (s.fr.2 j Z fz h)⟩⟩
def y9.put(s:y9 J K bB mv cv marks g){j9 nA:bg}{Mr Mh:List (List bg)}{g':List br}(hk:aaY K j9 nA Mr Mh g')(hB:iH K g g'):y9 J K j9 nA Mr Mh g':=
 ⟨hk,hB.2 _ _ _ aa s.r,s.ge,⟨gY s.fr.1 hB.1,λj Z fz h=>by
  have hj:=gl h;have hg:=s.ge;exact hB.2 _ _ _ aa (s.fr.2 j Z fz h)⟩⟩
def y9.ret(s:y9 J K bB mv cv marks g):bL g 2 (.mp (K+1) 0) (.agg [bB,mv])=a_ (g.set (K+1) (.cells [bB,mv] bf))/\bA (g.set (K+1) (.cells [bB,mv] bf)) bh 2 (.mp (K+1) 0)=a_ (.agg [bB,mv])/\∀e:Int,abh J (.bQ [.agg [bB,mv],.v (.int .i64 e)]) (g.set (K+1) (.cells [bB,mv] bf)):=by
 have o1:=zp s.s.n;have o2:=zp s.s.m;have hl:=gl s.r;have hg:=s.ge;have hs:=bV (a:=.cells [bB,mv] bf) hl;refine⟨?_,?_,λe=>⟨bB,mv,cv,marks,e,rfl,⟨jN s.s.n s.r,jN s.s.m s.r,s.s.mB,s.s.gL,s.s.nl,s.s.ml⟩,⟨by have:=s.fr.1;simp;omega,λj Z fz h=>?_⟩⟩⟩;simp only[bL,s.r,e5];have e:(dD [bB,mv]).cells=[bB,mv]:=rfl;rw[e];simp[o1.1,o2.1,dN];simp only[bA,hs];rfl;have hj:=gl h;rw[bC aa];exact s.fr.2 j Z fz h
end
section
variable{G:Cells}
def apC{v:bg}{ls:List (List UInt8)}(hv:cG v (ls.map bu))(T:eP v)(P8:jZ ls<=90000){bB mv:bg}{cv marks:List (List bg)}{J:List br}(jE:EA bB mv cv marks J):cy G bE 39 [.agg [bB,mv],v] J (abh J):=by
 refine aw3.go ?_;have c7:=IK ls;have hw:∀w∈ls,w.length<=90000:=λw hm=>gY (ajW hm) P8;have ln:=hv.cN;rw[dj] at ln;have agJ:[cU (.string ⟨[].toArray⟩),.v (.int .i64 0),.v (.bool bf),.bp]=fZ:=rfl;have LY:[cU (.string ⟨[].toArray⟩),.bp,.v (.bool bf),.v (.bool bf),.v (.bool bf),.v (.int .i64 0),.v (.bool bf),.bp,.v (.string ⟨[].toArray⟩)]=gz:=rfl;refine eE (λe g=>e=[(1,v),(2,.mp J.length 0),(4,.mp (J.length+1) 0)]/\y9 J J.length bB mv cv marks g) ?_ ?_;refine hD @en.{0} ?_;have b0:(J++[bw [bB,mv] bf]++[bw [.bp,.bp] bf])[J.length]?=a_ (.cells [bB,mv] bf):=bU af;have b1:(J++[bw [bB,mv] bf]++[bw [.bp,.bp] bf])[J.length+1]?=a_ (.cells [.bp,.bp] bf):=af
 have A:y9 J J.length bB mv cv marks (J++[bw [bB,mv] bf]++[bw [.bp,.bp] bf]):=⟨⟨b0,jE.n.ext.ext,jE.m.ext.ext,jE.mB,jE.gL,jE.nl,jE.ml⟩,b1,ck _,⟨af,λj Z fz h=>bU (bU h)⟩⟩
 first|exact⟨rfl,A⟩|exact⟨trivial,A⟩
 rintro e g ⟨rfl,A⟩;generalize J.length=K at A;obtain⟨r1,r2,jk⟩:=A.ret;have Xo:=A.s.fY.2.2;refine wy (cL (λq=>?_) λq=>?_);exact o_ @q @Xo @r1 @r2 (jk _);have V:2<=ls.length:=au
 obtain⟨n1,o3⟩:∃n,ls[1]?=a_ n:=⟨ls[1],cx aa⟩;obtain⟨n0,oy⟩:∃n,ls[0]?=a_ n:=⟨ls[0],cx aa⟩;have e1:cA 1 v (.v (.int .i64 1))=a_ (.fp [bu n1] 0):=hv.cI (i:=1) (x:=bu n1) (by simp[o3]) rfl;have e0:cA 1 v (.v (.int .i64 0))=a_ (.fp [bu n0] 0):=hv.cI (i:=0) (x:=bu n0) (by simp[oy]) rfl;have w1:=hw n1 (cE o3);have k1:dF .neq (bu n0) (.v (.string ⟨[110,111,100,101].toArray⟩))=a_ (.v (.bool !(n0==[110,111,100,101]))):=yu n0 [110,111,100,101];have k2:dF .neq (bu n0) (.v (.string ⟨[109,97,114,107].toArray⟩))=a_ (.v (.bool !(n0==[109,97,114,107]))):=yu n0 [109,97,114,107];have fX:dF .eql (bu n0) (.v (.string ⟨[109,97,114,107].toArray⟩))=a_ (.v (.bool (n0==[109,97,114,107]))):=og n0 [109,97,114,107];refine wy ?_;refine ek (XS n1 aa) ?_;rintro r ⟨b,rfl⟩;cases b with
 |false=>
  exact iu @Xo @r1 @r2 (jk _)
 |true=>
  have HU:n0=[109,97,114,107]\/n0=[110,111,100,101]\/((n0==[110,111,100,101])=bf/\(n0==[109,97,114,107])=bf):=by
   by_cases x:n0=[109,97,114,107];exact bD x;by_cases y:n0=[110,111,100,101];exact bF (bD y);exact bF (bF ⟨by simpa using y,by simpa using x⟩)
  rcases HU with x|x|⟨x,y⟩
  have cg:(n0==[110,111,100,101])=bf:=by rw[x];rfl
  have z2:(n0==[109,97,114,107])=bh:=by rw[x];rfl
  refine yQ @e0 @k1 @k2 @fX @cg @z2 ?_;refine ek (azL hv aa (λw hm=>by have:=hw w hm;omega) V) ?_;rintro r ⟨x,ok,rfl,I⟩;obtain⟨pR,o5,nm,s0⟩:=I.ok;have nn:=XN g pR o5;have A1:=A.app (x:=[bw x bf]);have kx:(g++[bw x bf])[g.length]?=a_ (.cells x bf):=af
  refine wy ?_;generalize g.length=m at kx⊢;generalize g++[bw x bf]=g1 at A1 kx⊢;obtain⟨s1,s2,eK⟩:=A1.ret;obtain⟨d0,d1,d2⟩:=A1.s.fY;have nv:=A1.s.ml;cases ok with
  |false=>
   exact iu @d2 @s1 @s2 (eK _)
  |true=>
   refine wy ?_;refine dx (λj e h=>e=[(2,.mp K 0),(4,.mp (K+1) 0),(6,.mp m 0),(8,bq j)]/\h=g1) marks.length ⟨rfl,rfl⟩ ?_ ?_;rintro j e h hj ⟨rfl,rfl⟩;obtain⟨y,hy⟩:=cO hj;obtain⟨BB,IB,Ra,Qd⟩:=(A1.s.gL y (cE hy)).ok;have ny:=(zq A1.s.m).cI hy BB;refine sn ((zq A1.s.m).len) (cL (λmD=>?_) λmD=>?_);exact o_ @mD @d2 @s1 @s2 (eK _);exact wx rt;rintro e h ⟨rfl,rfl⟩;refine sn ((zq A1.s.m).len) (cL (λmD=>?_) λmD=>?_);exact o_ @mD @d2 @s1 @s2 (eK _);obtain⟨nA,g4,p1,p2,p3,jj⟩:=A1.s.alk I (by simp at mD;omega);have lx:bA h bh 4 (.mp m 0)=a_ (.agg x):=by
    simp only[bA,kx];unfold eZ;rw[if_pos rfl,if_pos aa,pg,n6 aa]
   have ab:e9 4 [.agg x]=a_ (.sl [.agg x] .exact):=by
    have:=vr (n:=4) (xs:=[x]) λy hy=>aHL
    simp only[fM,mI] at this;simp[e9,this]
   have JT:=A1.put p3 jj;obtain⟨t1,t2,t3⟩:=JT.ret;exact yS @mD @d1 @lx @ab @p1 @p2 @JT.s.fY.2.2 @t1 @t2 (t3 _)
  have cg:(n0==[110,111,100,101])=bh:=by rw[x];rfl
  have z2:(n0==[109,97,114,107])=bf:=by rw[x];rfl
  refine yQ @e0 @k1 @k2 @fX @cg @z2 ?_;refine ek (aAo hv P8 V) ?_;rintro r ⟨x,ok,rfl,I⟩;obtain⟨pR,o5,nm,s0⟩:=I.ok;have nn:=Mq g pR o5;have A1:=A.app (x:=[bw x bf]);have kx:(g++[bw x bf])[g.length]?=a_ (.cells x bf):=af
  refine wy ?_;generalize g.length=m at kx⊢;generalize g++[bw x bf]=g1 at A1 kx⊢;obtain⟨s1,s2,eK⟩:=A1.ret;obtain⟨d0,d1,d2⟩:=A1.s.fY;have x_:=A1.s.nl;cases ok with
  |false=>
   exact iu @d2 @s1 @s2 (eK _)
  |true=>
   refine wy (cL (λvu=>?_) λvu=>?_);exact o_ @vu @d2 @s1 @s2 (eK _);refine wy ?_;refine dx (λj e h=>e=[(2,.mp K 0),(4,.mp (K+1) 0),(9,.mp m 0),(11,bq j)]/\h=g1) cv.length ⟨rfl,rfl⟩ ?_ ?_;rintro j e h hj ⟨rfl,rfl⟩;obtain⟨y,hy⟩:=cO hj;obtain⟨BB,IB,Ra,Qd⟩:=(A1.s.mB y (cE hy)).ok;have ny:=(zq A1.s.n).cI hy BB;refine sn ((zq A1.s.n).len) (cL (λmD=>?_) λmD=>?_);exact o_ @mD @d2 @s1 @s2 (eK _);exact wx rt;rintro e h ⟨rfl,rfl⟩;refine sn ((zq A1.s.n).len) (cL (λmD=>?_) λmD=>?_);exact o_ @mD @d2 @s1 @s2 (eK _);obtain⟨j9,g4,p1,p2,p3,jj⟩:=A1.s.alm uJ.ok I (by simp at mD;omega);have lx:bA h bh 9 (.mp m 0)=a_ (.agg x):=by
    simp only[bA,kx];unfold eZ;rw[if_pos rfl,if_pos aa,pg,n6 aa]
   have ab:e9 9 [.agg x]=a_ (.sl [.agg x] .exact):=by
    have:=vr (n:=9) (xs:=[x]) λy hy=>aHL
    simp only[fM,mI] at this;simp[e9,this]
   have JT:=A1.put p3 jj;obtain⟨t1,t2,t3⟩:=JT.ret;exact yS @mD @d0 @lx @ab @p1 @p2 @JT.s.fY.2.2 @t1 @t2 (t3 _)
  exact GK @e0 @k1 @k2 @x @y @Xo @r1 @r2 (jk _)
end
end
section
variable{x:List bg}{X J:List br}{k:Nat}{a b:bg}
def uJ.fz(h:uJ x)(J:List br):b8 J (.agg x) (.agg x):=by
 obtain⟨nm,cq,i,p,b_,a,al,mv,ex,rfl,hg,hm,_⟩:=h;exact kA (bG (bH _) (bG (hg.fz J) (bG (bH _) (bG (bH _) (bG (bH _) (bG (bH _) (bG (bH _) (bG (hm.fz J) (bG (bH _) cW)))))))))
def nJ.aeV(h:nJ x)(J:List br):b8 J (.agg x) (.agg x):=by
 obtain⟨nm,v,al,bv,rfl,O⟩:=h;exact kA (bG (bH _) (bG (bH _) (bG (bH _) (bG (O.fz J) cW))))
def alT{v:bg}{xs:List (List bg)}{n:Nat}{e:TypeId}(hA:cV J v (xs.map dD) n e)(h:∀x∈xs,b8 J (.agg x) (.agg x)):∃v',b8 J v v'/\cG v' (xs.map dD):=by
 rcases hA with⟨rfl,z⟩|⟨id,rfl,_⟩
 exact⟨_,eB,bF ⟨rfl,z⟩⟩;exact⟨_,gP (e4.QW h),bD rfl⟩
structure qE(bB mv:bg)(cv marks:List (List bg)):Prop where
 n:cG bB (cv.map dD)
 m:cG mv (marks.map dD)
 mB:∀x∈cv,uJ x
 gL:∀x∈marks,nJ x
 nl:cv.length<=24
 ml:marks.length<=8
def aa0(r:bg):Prop:=∃bB mv cv marks,∃p e:Int,r=.bQ [.agg [bB,mv],.v (.int .i64 p),.v (.int .i64 e)]/\qE bB mv cv marks
def KD{bB mv:bg}{cv marks:List (List bg)}(h:EA bB mv cv marks J)(p e:Int):∃k bS,cX J k (.bQ [.agg [bB,mv],.v (.int .i64 p),.v (.int .i64 e)])=a_ bS/\aa0 bS:=by
 obtain⟨a,a1,a2⟩:=alT h.n λx I=>(h.mB x I).fz J;obtain⟨b,b1,b2⟩:=alT h.m λx I=>(h.gL x I).aeV J;obtain⟨k,S⟩:=(fD (bG (kA (bG a1 (bG b1 cW))) (bG (bH (.int .i64 p)) (bG (bH (.int .i64 e)) cW))):b8 J _ _).done;exact⟨k,_,S,a,b,cv,marks,p,e,rfl,a2,b2,h.mB,h.gL,h.nl,h.ml⟩
def KE(J:List br):EA .bp .bp [] [] J:=⟨sr _ _ _,sr _ _ _,af,af,af,af⟩
@[go_sem]def Jx{c d:bg}(h:X[k]?=a_ (.cells [a,b] bf))(Y:cr c=bh)(V:cr d=bh):bL X 2 (.mp k 0) (.agg [c,d])=a_ (X.set k (.cells [c,d] bf)):=by
 simp only[bL,h,e5];have e:(dD [c,d]).cells=[c,d]:=rfl;rw[e];simp[Y,V,dN]
@[go_sem]def Sl(h:X[k]?=a_ (.cells [a,b] bf)):bA X bh 2 (.mp k 0)=a_ (.agg [a,b]):=by
 simp only[bA,h];rfl
section
variable{G:Cells}
def aAT(s:List UInt8)(hs:s.length<=1000000):dA G bE 22 [bu s] aa0:=by
 refine dX (awL.go ?_);have f0:dH [.bp,.bp] []=a_ [.bp,.bp]:=rfl;have bad:∀X:List br,X[0]?=a_ (.cells [.bp,.bp] bf)->bL X 2 (.mp 0 0) (.agg [.bp,.bp])=a_ (X.set 0 (.cells [.bp,.bp] bf))/\bA (X.set 0 (.cells [.bp,.bp] bf)) bh 2 (.mp 0 0)=a_ (.agg [.bp,.bp]):=λX h=>
  ⟨Jx h rfl rfl,Sl (bV (gl h))⟩
 refine wy ?_;refine ek (azi s aa) ?_;rintro r ⟨v,p,e,rfl,l,hv,hl,hw⟩;have ln:=hv.cN;rw[dj] at ln;refine wy (cL (λq=>?_) λq=>?_);exact wy (KD (KE _) _ _);refine wy ?_;refine dx (λi e h=>e=[(2,.mp 0 0),(5,v),(8,.mp 1 0),(9,bq i)]/\h[0]?=a_ (.cells [.bp,.bp] bf)/\∃bB mv cv marks,h[1]?=a_ (.cells [bB,mv] bf)/\EA bB mv cv marks h) l.length ⟨rfl,rfl,.bp,.bp,[],[],rfl,KE _⟩ ?_ ?_;rintro i e h Q ⟨rfl,h0,bB,mv,cv,marks,Y,jE⟩;obtain⟨w,DC⟩:=cO Q;have DD:=hw w (cE DC);have e1:cA 1 v (.v (.int .i64 (i:Int)))=a_ (.fp [bu w] 0):=hv.cI (x:=bu w) (by simp[DC]) rfl;obtain⟨u1,u2⟩:=bad h h0;refine wy ?_;refine ek (aC6 w aa) ?_;rintro r ⟨nD,e2,ws,rfl,WI,aGI⟩;have azr:=WI.cN;rw[dj] at azr;refine wy ?_;refine c_ (λbt=>?_) λbt=>?_;refine wy ?_;refine c_ (λbT=>?_) λbT=>?_;refine cm (apC WI (qh WI) aa jE) ?_;rintro r g ⟨j9,nA,Mr,Mh,dc,rfl,zV,hF⟩;have g0:=hF.2 _ _ _ h0;have g1:=hF.2 _ _ _ Y;have st:=Jx g1 (zp zV.n).1 (zp zV.m).1;have k1:=bV (a:=.cells [j9,nA] bf) (gl g1);have k0:(g.set 1 (.cells [j9,nA] bf))[0]?=a_ (.cells [.bp,.bp] bf):=by rw[bC aa];exact g0
 have Vs:EA j9 nA Mr Mh (g.set 1 (.cells [j9,nA] bf)):=⟨jN zV.n g1,jN zV.m g1,zV.mB,zV.gL,zV.nl,zV.ml⟩;refine wy ?_;refine c_ (λfh=>?_) λfh=>?_;exact KD (KE _) _ _;exact⟨rfl,k0,j9,nA,Mr,Mh,k1,Vs⟩
 · repeat' refine ba (λq'=>?_) λq'=>?_
   all_goals first
    |exact KD (KE _) _ _
    |exact⟨rfl,h0,bB,mv,cv,marks,Y,jE⟩
 · repeat' refine ba (λq'=>?_) λq'=>?_
   all_goals first
    |exact KD (KE _) _ _
    |exact⟨rfl,h0,bB,mv,cv,marks,Y,jE⟩
 rintro e h ⟨rfl,h0,bB,mv,cv,marks,Y,jE⟩;have st:=Jx h0 (zp jE.n).1 (zp jE.m).1;have k0:=bV (a:=.cells [bB,mv] bf) (gl h0);have Vs:EA bB mv cv marks (h.set 0 (.cells [bB,mv] bf)):=⟨jN jE.n h0,jN jE.m h0,jE.mB,jE.gL,jE.nl,jE.ml⟩;exact nD (KD Vs _ _)
end
end
section
variable{G:Cells}{bB mv a b c:bg}{cv marks:List (List bg)}
def aer(hr:qE bB mv cv marks)(s:List UInt8):dA G bE 40 [.agg [bB,mv,a,b,c],bu s] (J0 (-1) 24):=by
 refine dX (aw4.go ?_);have x_:=hr.nl;have ln:=hr.n.cN;rw[dj] at ln;refine wy (cL (λq=>?_) λq=>?_);refine wy ?_;exact tU ag ag;refine wy ?_;refine dx (λi e h=>e=[(1,bu s),(2,.mp 0 0),(5,bq i)]/\h=[.cells [bB,mv,a,b,c] bf]) cv.length ⟨rfl,rfl⟩ ?_ ?_;rintro i e h Q ⟨rfl,rfl⟩;obtain⟨y,hy⟩:=cO Q;obtain⟨BB,IB,Ra,Qd⟩:=(hr.mB y (cE hy)).ok;have ny:cA 9 bB (.v (.int .i64 (i:Int)))=a_ (.fp y 0):=hr.n.cI (x:=.agg y) aT (by exact BB);refine wy ?_;refine c_ (λbt=>?_) λbt=>?_;exact tU aa aa;exact⟨rfl,trivial⟩;rintro e h ⟨rfl,rfl⟩;refine wy ?_;exact tU ag ag
def aeu(hr:qE bB mv cv marks)(s:List UInt8):dA G bE 41 [.agg [bB,mv,a,b,c],bu s] (J0 (-1) 24):=by
 refine dX (aw5.go ?_);have nv:=hr.ml;have ln:=hr.m.cN;rw[dj] at ln;refine wy ?_;refine dx (λi e h=>e=[(1,bu s),(2,.mp 0 0),(5,bq i)]/\h=[.cells [bB,mv,a,b,c] bf]) marks.length ⟨rfl,rfl⟩ ?_ ?_;rintro i e h Q ⟨rfl,rfl⟩;obtain⟨y,hy⟩:=cO Q;obtain⟨BB,IB,Ra,Qd⟩:=(hr.gL y (cE hy)).ok;have ny:cA 4 mv (.v (.int .i64 (i:Int)))=a_ (.fp y 0):=hr.m.cI (x:=.agg y) aT (by exact BB);refine wy ?_;refine c_ (λbt=>?_) λbt=>?_;exact tU aa aa;exact⟨rfl,trivial⟩;rintro e h ⟨rfl,rfl⟩;refine wy ?_;exact tU ag ag
end
def v8(x:List bg):Prop:=∃(nm:List UInt8) (iv:bg) (l:List Int),x=[bu nm,iv]/\cG iv (l.map bq)/\eP iv/\l.length<=256/\∀z∈l,(0:Int)<=z/\z<256
section
variable{G:Cells}
def azU{v:bg}{rows:List (List bg)}(hv:cG v (rows.map dD))(D:∀x∈rows,v8 x)(hl:rows.length<=1000000000)(s:List UInt8):dA G bE 153 [v,bu s] J1:=by
 refine dX (axY.go ?_);have ln:=hv.cN;rw[dj] at ln;have lC:∀J,cN v J=a_ (.v (.int .i64 (rows.length:Int)),J):=λJ=>aHC
 have bn:∀J:List br,∃k bS,cX J k .bp=a_ bS/\J1 bS:=λJ=>TJ (l:=[]) (sr J 1 3) af af;refine wy ?_;refine dx (λi e h=>e=[(0,v),(1,bu s),(5,bq i)]/\h=[]) rows.length ⟨rfl,rfl⟩ ?_ ?_;rintro i e h Q ⟨rfl,rfl⟩;obtain⟨y,hy⟩:=cO Q;obtain⟨nm,iv,l,rfl,x8,Ic,oX,Dl⟩:=D y (cE hy);have ny:cA 2 v (.v (.int .i64 (i:Int)))=a_ (.fp [bu nm,iv] 0):=hv.cI (x:=.agg [bu nm,iv]) aT rfl;refine wy (cL (λbt=>?_) λbt=>?_);refine wy ?_;refine ek (azl x8 Ic aa) ?_;rintro r ⟨o,ho,qS,Io⟩;refine wy ?_
 rcases ho with rfl|⟨rfl,z⟩
 obtain⟨n,hn⟩:=(gP (t:=.no) (iW (f:=bq) (l:=o) λa _=>bH _):b8 [] _ _).done;exact⟨n,_,hn,o,bD rfl,qS,Io⟩;exact bn _;exact wx rt;rintro e h ⟨rfl,rfl⟩;exact iF @bq.eq_1 @lC (bn _)
end
@[go_sem]def akx(h:List br){x:List bg}(I:uJ x):bL (h++[bw gz bf]) 9 (.mp h.length 0) (.agg x)=a_ (h++[bw x bf]):=Mq h I.ok.1 I.ok.2.1
section
variable{G:Cells}{bB mv a b c:bg}{cv marks:List (List bg)}
def az8(hr:qE bB mv cv marks)(hS:eP (.agg [bB,mv,a,b,c])):dA G bE 23 [.agg [bB,mv,a,b,c]] (J0 0 14):=by
 refine dX (awM.go ?_);have x_:=hr.nl;have nv:=hr.ml;have LY:[cU (.string ⟨[].toArray⟩),.bp,.v (.bool bf),.v (.bool bf),.v (.bool bf),.v (.int .i64 0),.v (.bool bf),.bp,.v (.string ⟨[].toArray⟩)]=gz:=rfl;have ln:=hr.n.cN;rw[dj] at ln;have lC:∀J,cN bB J=a_ (.v (.int .i64 (cv.length:Int)),J):=λJ=>aHC
 have lm:=hr.m.cN;rw[dj] at lm;have IG:∀h:List br,h[0]?=a_ (.cells [bB,mv,a,b,c] bf)->bA h bf 1 (.mp 0 0)=a_ bB/\bA h bf 1 (.mp 0 1)=a_ mv/\bA h bh 5 (.mp 0 0)=a_ (.agg [bB,mv,a,b,c]):=λh q=>by
  simp only[bA,q];exact⟨rfl,rfl,rfl⟩
 have strs:∀{n:Nat} {v:bg},iR n v->∃l:List (List UInt8),cG v (l.map bu)/\l.length<=n/\∀J,cN v J=a_ (.v (.int .i64 (l.length:Int)),J):=λ{n v} h=>by
  obtain⟨l,Y,V⟩:=h;have QS:=Y.cN;rw[dj] at QS;exact⟨l,Y,V,λJ=>by rw[QS J,mq]⟩
 have node:∀i,i<cv.length->∃(y:List bg) (nm:List UInt8) (cq:bg) (ib pb b_:Bool) (a2:Int) (al:Bool) (lD:bg) (ex:List UInt8) (gs ms:List (List UInt8)),uJ y/\y=eA nm cq ib pb b_ a2 al lD ex/\cA 9 bB (.v (.int .i64 (i:Int)))=a_ (.fp y 0)/\cG cq (gs.map bu)/\gs.length<=5/\(∀J,cN cq J=a_ (.v (.int .i64 (gs.length:Int)),J))/\cG lD (ms.map bu)/\ms.length<=100001/\(∀J,cN lD J=a_ (.v (.int .i64 (ms.length:Int)),J))/\(∀J,bA J bf 1 (.fp y 1)=a_ cq)/\(∀J,bA J bf 1 (.fp y 7)=a_ lD)/\(∀J,bA J bh 9 (.fp y 0)=a_ (.agg y)):=λi Q=>by
  have hy:cv[i]?=a_ cv[i]:=cx Q;generalize cv[i]=y at hy;have lV:=hr.mB y (cE hy);have ny:cA 9 bB (.v (.int .i64 (i:Int)))=a_ (.fp y 0):=hr.n.cI (x:=.agg y) aT aJx;have avW:=lV;obtain⟨nm,cq,ib,pb,b_,a2,al,lD,ex,rfl,hg,hm,_⟩:=avW;obtain⟨gs,g1,g2,g3⟩:=strs hg;obtain⟨ms,m1,m2,m3⟩:=strs hm;exact⟨_,nm,cq,ib,pb,b_,a2,al,lD,ex,gs,ms,lV,rfl,ny,g1,g2,g3,m1,m2,m3,λ_=>rfl,λ_=>rfl,λ_=>rfl⟩
 have l0:=(IG [bw [bB,mv,a,b,c] bf] rfl);refine wy (cL (λq=>?_) λq=>?_);refine wy ?_;exact tU ag ag;refine wy ?_;refine dx (λi e h=>e=[(1,.mp 0 0),(3,bq i)]/\h=[.cells [bB,mv,a,b,c] bf]) cv.length ⟨rfl,rfl⟩ ?_ ?_;rintro i e h Q ⟨rfl,rfl⟩;obtain⟨y,nm,cq,ib,pb,b_,a2,al,lD,ex,gs,ms,lV,Qq,ny,g1,g2,g3,m1,m2,m3,r1,w8,YL⟩:=node i Q;refine wy ?_;refine dx (λj e h=>e=[(1,.mp 0 0),(3,.v (.int .i64 (i:Int))),(4,bq j)]/\h=[.cells [bB,mv,a,b,c] bf]) gs.length ⟨rfl,rfl⟩ ?_ ?_;rintro j e h hj ⟨rfl,rfl⟩;obtain⟨w,hw⟩:=cO hj;have Qv:cA 1 cq (.v (.int .i64 (j:Int)))=a_ (.fp [bu w] 0):=g1.cI (x:=bu w) aHY rfl;refine p6 @bq.eq_1 @ny @r1 @g3 @Qv ?_;refine ek (aer hr w) ?_;rintro r ⟨z,rfl,_,_⟩;refine wy ?_;refine c_ (λbt=>?_) λbt=>?_;exact tU ag ag;exact⟨rfl,trivial⟩;rintro e h ⟨rfl,rfl⟩;refine o_ @bq.eq_1 @ny @r1 @g3 ?_
 first|exact⟨rfl,trivial⟩|trivial
 rintro e h ⟨rfl,rfl⟩;refine wy ?_;refine dx (λi e h=>e=[(1,.mp 0 0),(5,bq i)]/\h[0]?=a_ (.cells [bB,mv,a,b,c] bf)) cv.length ⟨rfl,rfl⟩ ?_ ?_
 · rintro i e h Q ⟨rfl,h0⟩
   obtain⟨y,nm,cq,ib,pb,b_,a2,al,lD,ex,gs,ms,lV,Qq,ny,g1,g2,g3,m1,m2,m3,r1,w8,YL⟩:=node i Q;obtain⟨b0,b1,b2⟩:=IG h h0;have nn:=akx h lV;have n0:(h++[bw y bf])[0]?=a_ (.cells [bB,mv,a,b,c] bf):=bU h0;have p7:bA (h++[bw y bf]) bf 1 (.mp h.length 4)=a_ (.v (.bool b_)):=by
    rw[Qq];simp only[bA,fF (ck _),lM,n4];rfl
   have x2:bA (h++[bw y bf]) bf 1 (.mp h.length 2)=a_ (.v (.bool ib)):=by
    rw[Qq];simp only[bA,fF (ck _),lM,n4];rfl
   refine oH @bq.eq_1 @b0 @lC @ny @YL @LY @nn ?_;cases b_<;>cases ib
   all_goals repeat' ((refine cL (λq=>?_) λq=>?_)<;>(have q':=q)<;>(simp -failIfUnchanged only[pG] at q')<;>(refine Cb @mh @p7 @x2 @yV @uC @q ?_))
   all_goals first
    |exact tU ag ag
    |exact⟨rfl,n0⟩
 rintro e h ⟨rfl,h0⟩;obtain⟨b0,b1,b2⟩:=IG h h0;refine wy ?_;refine dx (λi e g=>e=[(1,.mp 0 0),(7,bq i)]/\g=h) cv.length ⟨rfl,rfl⟩ ?_ ?_;rintro i e g Q ⟨rfl,rfl⟩;obtain⟨y,nm,cq,ib,pb,b_,a2,al,lD,ex,gs,ms,lV,Qq,ny,g1,g2,g3,m1,m2,m3,r1,w8,YL⟩:=node i Q;refine wy ?_;refine dx (λj e h=>e=[(1,.mp 0 0),(7,.v (.int .i64 (i:Int))),(8,bq j)]/\h=g) ms.length ⟨rfl,rfl⟩ ?_ ?_;rintro j e h hj ⟨rfl,rfl⟩;obtain⟨w,hw⟩:=cO hj;have Qv:cA 1 lD (.v (.int .i64 (j:Int)))=a_ (.fp [bu w] 0):=m1.cI (x:=bu w) aHY rfl;refine yR @bq.eq_1 @b0 @b2 @ny @w8 @m3 @Qv ?_;refine ek (aeu hr w) ?_;rintro r ⟨z,rfl,_,_⟩;refine wy ?_;refine c_ (λbt=>?_) λbt=>?_;exact tU ag ag;exact⟨rfl,trivial⟩;rintro e h ⟨rfl,rfl⟩;refine p6 @bq.eq_1 @b0 @ny @w8 @m3 ?_
 first|exact⟨rfl,trivial⟩|trivial
 rintro e g ⟨rfl,rfl⟩;refine wy ?_;refine dx (λi e h=>e=[(1,.mp 0 0),(9,bq i)]/\h=g) marks.length ⟨rfl,rfl⟩ ?_ ?_;rintro i e h Q ⟨rfl,rfl⟩;have hy:marks[i]?=a_ marks[i]:=cx Q;generalize marks[i]=y at hy;have lV:=hr.gL y (cE hy);have ny:cA 4 mv (.v (.int .i64 (i:Int)))=a_ (.fp y 0):=hr.m.cI (x:=.agg y) aT aJx;obtain⟨nm,si,al,bv,rfl,O⟩:=lV;obtain⟨ms,m1,m2,m3⟩:=strs O;have jk:∀J,bA J bf 1 (.fp (eJ nm si al bv) 3)=a_ bv:=λ_=>rfl;refine wy ?_;refine dx (λj e g=>e=[(1,.mp 0 0),(9,.v (.int .i64 (i:Int))),(10,bq j)]/\g=h) ms.length ⟨rfl,rfl⟩ ?_ ?_;rintro j e g hj ⟨rfl,rfl⟩;obtain⟨w,hw⟩:=cO hj;have Qv:cA 1 bv (.v (.int .i64 (j:Int)))=a_ (.fp [bu w] 0):=m1.cI (x:=bu w) aHY rfl;refine wy ?_;refine ek (aeu hr w) ?_;rintro r ⟨z,rfl,_,_⟩;refine wy ?_;refine c_ (λbt=>?_) λbt=>?_;exact tU ag ag;exact wx rt;rintro e g ⟨rfl,rfl⟩;refine p6 @bq.eq_1 @b1 @ny @jk @m3 ?_
 first|exact⟨rfl,trivial⟩|trivial
 rintro e h ⟨rfl,rfl⟩;refine wy ?_;exact tU ag ag
end
section
variable{ps:List cM}
def arf(h:G5 ps):∀(n f g:Nat) (i:Int),i.toNat<n->i.toNat<f->i.toNat<g->qi ps f i=qi ps g i:=by
 intro n
 induction n with
 |zero=>intro f g i h0;omega
 |succ n ih=>
  intro f g i h0 Y V;obtain⟨f,rfl⟩:∃f',f=f'+1:=⟨f-1,aa⟩;obtain⟨g,rfl⟩:∃g',g=g'+1:=⟨g-1,aa⟩;unfold qi;cases J:ps[i.toNat]? with
  |none=>rfl
  |some p=>
   dsimp only;have e:(p.kids.map λk=>qi ps f k)=p.kids.map λk=>qi ps g k:=AU λk S=>by
    have:=h _ p J k S;exact ih f g k aa aa aa
   rw[e]
def adn(h:G5 ps){i:Nat}{p:cM}(J:ps[i]?=a_ p):cnt ps (i:Int)=if p.kind=1 then 1 else(if p.kind=4 then p.many else 1)*(p.kids.map λk=>cnt ps k).sum:=by
 show qi ps (i+1) (i:Int)=_;unfold qi;rw[xu,J];dsimp only;have e:(p.kids.map λk=>qi ps i k)=p.kids.map λk=>cnt ps k:=AU λk S=>by
  have:=h _ p J k S;exact arf h (i+1) i (k.toNat+1) k aa aa aa
 rw[e]
def azC{G:Cells}{n0:Nat}{v:bg}(h:xC n0 v ps):∀(n i:Nat),i<n->i<ps.length->sz ps (i:Int)<=1000000000->dL G bE 47 [v,.v (.int .i64 (i:Int))] (.v (.int .i64 ((min (cnt ps (i:Int)) 257:Nat):Int))):=by
 intro n
 induction n with
 |zero=>intro i Q;omega
 |succ n ih=>
  intro i Q hl dG;obtain⟨p,eD⟩:=cO hl;have lA:=h.ok i p eD;have o4:=h.no p (cE eD);have hs:=Se h.ok.kids eD;have eS:=Sd (λk=>sz ps k) p.kids;have T:=adn h.ok.kids eD;refine gr (axa.go ?_);have e1:cA 5 v (.v (.int .i64 (i:Int)))=a_ (.fp p.cells 0):=h.v.cI (x:=p.bN) aIB rfl;have e2:∀J,bA J bh 5 (.fp p.cells 0)=a_ (.agg p.cells):=λJ=>rfl;have s1:=yI [] p;rw[gV,gV] at s1;have z0:([]:List br).length=0:=rfl;rw[z0] at s1;have l0:bA [.cells p.cells bf] bf 1 (.mp 0 0)=a_ (.v (.int .i64 p.kind)):=rfl;have l1:bA [.cells p.cells bf] bf 1 (.mp 0 1)=a_ (.v (.int .i64 p.low)):=rfl;have l2:bA [.cells p.cells bf] bf 1 (.mp 0 2)=a_ (.v (.int .i64 p.high)):=rfl;have l4:bA [.cells p.cells bf] bf 1 (.mp 0 4)=a_ p.kv:=rfl;have lk:=yj o4 aa;refine wy (cL (λq=>?_) λq=>?_);have q':p.kind=1:=an
  rw[T,if_pos q'];exact wy ((bH _).done);have q':p.kind≠1:=an
  rw[if_neg q'] at T;refine wy ?_;refine dx (λj e J=>e=[(0,v),(5,.mp 0 0),(6,.v (.int .i64 ((min ((p.kids.take j).map λk=>cnt ps k).sum 257:Nat):Int))),(7,bq j)]/\J=[.cells p.cells bf]) p.kids.length ⟨rfl,rfl⟩ ?_ ?_;rintro j e J hj ⟨rfl,rfl⟩;obtain⟨x,I⟩:=cO hj;obtain⟨x0,x1⟩:=lA.2 x (cE I);obtain⟨xn,rfl⟩:=oI x0;have nk:cA 1 p.kv (.v (.int .i64 (j:Int)))=a_ (.fp [.v (.int .i64 (xn:Int))] 0):=by
   unfold cM.kv;split;rename_i z;rw[z] at I;simp at I;exact mP (x:=bq (xn:Int)) aJC rfl
  have aDy:=yJ (f:=λk=>sz ps k+1) I;have aDz:=B7 (λk=>sz ps k+1) p.kids (j+1);have xk:=yJ (f:=λx=>cnt ps x) I;have m1:=IN (min ((p.kids.take j).map λk=>cnt ps k).sum 257+min (cnt ps (xn:Int)) 257) 0;have nq:min (min ((p.kids.take j).map λk=>cnt ps k).sum 257+min (cnt ps (xn:Int)) 257) 257=min ((p.kids.take (j+1)).map λk=>cnt ps k).sum 257:=by rw[xk];omega
  refine wy (gO (ih xn aa aa aa) (cl (Bd h) (cl (dz _) dK)) ?_);refine wx ?_
  first
   |exact⟨rfl,trivial⟩
   |exact⟨rfl,rfl⟩
  rintro e J ⟨rfl,rfl⟩;rw[sy];refine wy ?_;generalize(p.kids.map λk=>cnt ps k).sum=hk at T⊢;by_cases BW:p.kind=4;rw[if_pos BW] at T;have O:G3 p.low p.high:=by
   rcases lA.1 with z|z|z
   omega;omega;exact z.2.2
  obtain⟨g_,i_,Bp⟩:=O;have m0:rD bh [.v (.int .i64 p.low),.v (.int .i64 1)]=a_ (.v (.int .i64 (if(1:Int)>p.low then 1 else p.low))):=rfl;have oZ:1<=p.many/\p.many<=20:=by
   unfold Ep;constructor<;>(split<;>(try split))<;>omega
  have avh:min hk 257*p.many<=257*20:=Nat.mul_le_mul (Nat.min_le_right _ _) oZ.2;have w1:dy.wrap (((min hk 257:Nat):Int)*(p.many:Int))=((min hk 257*p.many:Nat):Int):=by
   rw[<-Int.natCast_mul,gN aa aa]
  have nq:min (min hk 257*p.many) 257=min (p.many*hk) 257:=by
   rcases Nat.le_total hk 257 with z|z
   rw[JR z,aaK];have V:257*p.many<=p.many*hk:=aIX
   rw[Nat.min_eq_right z];omega
  have m1:=IN (min hk 257*p.many) 0;rw[nq] at m1;rw[T];refine wy (cL (λiO=>?_) λiO=>?_);have E7:(if(1:Int)>p.low then 1 else p.low)=(p.many:Int):=by
   have:p.high<0:=by simpa using iO
   unfold Ep;rw[if_pos this];split<;>omega
  rw[E7] at m0;exact wy ((bH _).done);have E7:p.high=(p.many:Int):=by
   have:¬p.high<0:=by simp at iO;omega
   unfold Ep;rw[if_neg this];omega
  rw[E7] at l2;exact wy ((bH _).done);have ie:(p.kind==4)=bf:=by simpa using BW
  rw[if_neg BW,Ex] at T;have m1:=IN (min hk 257) 0;have nq:min (min hk 257) 257=min hk 257:=aa
  rw[nq] at m1;rw[T];exact wy ((bH _).done)
end
section
variable{v:bg}
noncomputable def P2(y:List bg)(s:List UInt8):Bool:=@decide (∃xs,y[1]?=a_ (.sl xs .no)/\bu s∈xs) (aE8 _)
def aDr{a b:List UInt8}(h:bu a=bu b):a=b:=by
 unfold bu at h;simpa using h
def auI{y:List bg}{cq:bg}{gs:List (List UInt8)}(h:y[1]?=a_ cq)(hg:cG cq (gs.map bu))(s:List UInt8):P2 y s=gs.any (· ==s):=by
 unfold P2;rw[GQ,@decide_eq_true_iff _ (aE8 _),GX];constructor;rintro⟨xs,Y,V⟩;rw[h] at Y
 rcases hg with rfl|⟨rfl,_⟩
 cases Y;obtain⟨t,ht,e⟩:=dZ.1 V;exact⟨t,ht,by rw[aDr e];simp⟩;cases Y;rintro⟨t,ht,e⟩;have:t=s:=aIW
 subst this
 rcases hg with rfl|⟨rfl,z⟩
 exact⟨_,h,dZ.2 ⟨t,ht,rfl⟩⟩;have:gs=[]:=aN
 rw[this] at ht;cases ht
noncomputable def pN(cv:List (List bg))(s:List UInt8):Nat->List Int
 |0=>[]
 |i+1=>pN cv s i++(match cv[i]? with|some y=>if P2 y s then [((i+1:Nat):Int)] else []|none=>[])
def Vk(cv:List (List bg))(s:List UInt8):∀i,(pN cv s i).length<=i/\∀x∈pN cv s i,1<=x/\x<=(i:Int)
 |0=>⟨by simp[pN],by simp[pN]⟩
 |i+1=>by
  obtain⟨Y,V⟩:=Vk cv s i;unfold pN;split;split;refine⟨ah,λx I=>?_⟩
  rcases gA.1 I with z|z
  have:=V x z;omega;rw[dR.1 z];omega;rw[hJ];exact⟨aa,λx I=>by have:=V x I;omega⟩;rw[hJ];exact⟨aa,λx I=>by have:=V x I;omega⟩
def nQ(l:List Int):bg:=match l with
 |[]=>.bp
 |_=>.sl (l.map bq) .no
def agW(l:List Int):cG (nQ l) (l.map bq):=by
 unfold nQ;split;exact bF ⟨rfl,rfl⟩;exact bD rfl
def ap0{J:List br}{l:List Int}(h:cV J v (l.map bq) 1 3)(hn:l=[]->v=.bp):∃k,cX J k v=a_ (nQ l):=by
 cases l with
 |nil=>
  rw[hn rfl];exact(eB:b8 J _ _).done
 |cons x r=>
  rcases h with⟨_,z⟩|⟨id,rfl,_⟩
  simp at z;exact(gP (t:=.tok id) (iW (f:=bq) (l:=x::r) λa _=>bH _):b8 J _ _).done
section
variable{G:Cells}{bB mv a b c:bg}{cv marks:List (List bg)}
def atY{l:List (List UInt8)}(hv:cG v (l.map bu))(hl:l.length<=1000000)(x:List UInt8):dL G bE 83 [v,bu x] (.v (.bool (l.any (· ==x)))):=by
 refine gr (ah6.go ?_);have ln:=hv.cN;rw[dj] at ln;refine wy ?_;refine dx (λi e h=>e=[(0,v),(1,bu x),(5,bq i)]/\h=[]/\∀j s,j<i->l[j]?=a_ s->(s==x)=bf) l.length ⟨rfl,rfl,λj s h=>aa⟩ ?_ ?_;rintro i e h Q ⟨rfl,rfl,hI⟩;obtain⟨s,hs⟩:=cO Q;have e1:cA 1 v (.v (.int .i64 (i:Int)))=a_ (.fp [bu s] 0):=hv.cI (x:=bu s) aJr rfl;refine wy ?_;refine c_ (λq=>?_) λq=>?_;rw[show l.any (· ==x)=bh from GX.2 ⟨s,cE hs,q⟩];exact(bH _).done;refine⟨rfl,trivial,λj t hj ht=>?_⟩
 rcases d_ j i with z|z
 exact hI j t z ht;rw[show j=i by omega,hs] at ht;cases ht;exact q;rintro e h ⟨rfl,rfl,hI⟩;refine wy ?_;rw[show l.any (· ==x)=bf from by
  rw[List.any_eq_false];intro s hm;obtain⟨j,hj,rfl⟩:=Eu hm;rw[hI j _ hj (cx hj)];decide]
 exact(bH _).done
def ati(hr:qE bB mv cv marks)(s:List UInt8):dL G bE 45 [.agg [bB,mv,a,b,c],bu s] (nQ (pN cv s cv.length)):=by
 refine gr (aw_.go ?_);have x_:=hr.nl;have ln:=hr.n.cN;rw[dj] at ln;refine wy ?_;refine dx (λi e h=>∃bx:bg,e=[(1,bu s),(2,.mp 0 0),(5,bx),(6,bq i)]/\h[0]?=a_ (.cells [bB,mv,a,b,c] bf)/\cV h bx ((pN cv s i).map bq) 1 3/\(pN cv s i=[]->bx=.bp)) cv.length ⟨.bp,rfl,rfl,sr _ _ _,λ_=>rfl⟩ ?_ ?_;rintro i e h Q ⟨bx,rfl,h0,hA,LI⟩;obtain⟨y,hy⟩:=cO Q;have lV:=hr.mB y (cE hy);obtain⟨BB,IB,Ra,Qd⟩:=lV.ok;have ny:cA 9 bB (.v (.int .i64 (i:Int)))=a_ (.fp y 0):=hr.n.cI (x:=.agg y) aT (by exact BB);obtain⟨cq,Dk,QS,lh⟩:∃cq,iR 5 cq/\(∀h,bA h bf 1 (.fp y 1)=a_ cq)/\y[1]?=a_ cq:=by
  obtain⟨nm,cq,i2,p2,b_,a2,al,lD,ex,rfl,hg,hm,_⟩:=lV;exact⟨cq,hg,λh=>rfl,rfl⟩
 obtain⟨gs,Aa,kH⟩:=Dk;have aF0:eP cq:=qh Aa;have wi:dy.wrap ((i:Int)+1)=((i+1:Nat):Int):=lG aa;have aGo:=(Vk cv s i).1;obtain⟨cj,g,e1,fo,bR,_,S⟩:=ni (x:=.v (.int .i64 ((i+1:Nat):Int))) (b6:=8) hA (Ge _) rfl ag ag ah;have g0:=S _ _ h0 λxs z=>by
  rcases hA with⟨cg,_⟩|⟨id,cg,z2⟩
  rw[cg] at z;cases z;rw[cg] at z;cases z;rw[h0] at z2;cases z2
 have hh:=auI lh Aa s;refine wy ?_;refine fk (atY Aa aa s) ?_;rw[<-hh];cases O:P2 y s with
 |false=>
  have sN:pN cv s (i+1)=pN cv s i:=by
   rw[pN,hy];simp[O]
  refine ir ?_;exact⟨bx,rfl,h0,by rw[sN];exact hA,by rw[sN];exact LI⟩
 |true=>
  have sN:pN cv s (i+1)=pN cv s i++[((i+1:Nat):Int)]:=by
   rw[pN,hy];simp[O]
  refine iF @wi @e1 ?_;exact⟨cj,rfl,g0,by rw[sN,gQ];exact fo,by rw[sN];intro z;simp at z⟩
 rintro e h ⟨bx,rfl,h0,hA,LI⟩;exact wy (ap0 hA LI)
end
end
section
variable{v:bg}{x:List bg}
def CA(x:List bg):Prop:=∃(nm:List UInt8) (l:List Int),(x=[bu nm,nQ l]\/x=[bu nm,.sl (l.map bq) .exact])/\l.length<=256/\∀z∈l,(0:Int)<=z/\z<256
def EZ{l:List Int}(h:cG v (l.map bq)):eP v:=by
 rcases h with rfl|⟨rfl,_⟩
 refine lQ λx I c T=>?_;obtain⟨t,_,rfl⟩:=dZ.1 I;rw[dR.1 (show c∈[bq t] from T)];exact dz _;exact od
def agV(l:List Int):cr (nQ l)=bh/\(nQ l).cells=[nQ l]:=by
 unfold nQ;split<;>exact⟨rfl,rfl⟩
def awq(l:List Int)(J:List br):b8 J (nQ l) (nQ l):=by
 unfold nQ;split;exact eB;exact gP (iW λa _=>bH _)
def CA.ok(h:CA x):x.length=2/\x.all cr=bh:=by
 obtain⟨nm,l,rfl|rfl,_,_⟩:=h;refine⟨rfl,?_⟩;simp only[oJ,sw,(agV l).1];rfl;exact⟨rfl,rfl⟩
def CA.fz(h:CA x)(J:List br):∃x',b8 J (.agg x) (.agg x')/\v8 x':=by
 obtain⟨nm,l,rfl|rfl,Y,V⟩:=h;exact⟨_,kA (bG (bH _) (bG (awq l J) cW)),nm,_,l,rfl,agW l,EZ (agW l),Y,V⟩;exact⟨[bu nm,.sl (l.map bq) .no],kA (bG (bH _) (bG (gP (iW λa _=>bH _)) cW)),nm,_,l,rfl,bD rfl,EZ (bD rfl),Y,V⟩
def akc(J:List br):∀{xs:List (List bg)},(∀x∈xs,CA x)->∃ys:List (List bg),e4 J (xs.map dD) (ys.map dD)/\(∀y∈ys,v8 y)/\ys.length=xs.length
 |[],_=>⟨[],cW,af,rfl⟩
 |x::r,h=>by
  obtain⟨x',a1,a2⟩:=(h x af).fz J;obtain⟨ys,b1,b2,b3⟩:=akc J (xs:=r) λy hy=>h y aT;refine⟨x'::ys,bG a1 b1,λy hy=>?_,by simp[b3]⟩
  rcases fB.1 hy with rfl|hy
  exact a2;exact b2 y hy
def ao_(n:Nat)(r:bg):Prop:=∃rows:List (List bg),cG r (rows.map dD)/\(∀x∈rows,v8 x)/\rows.length<=n
section
variable{G:Cells}{bB mv a b c:bg}{cv marks:List (List bg)}
def azT{n0:Nat}{ps:List cM}(hr:qE bB mv cv marks)(hS:eP (.agg [bB,mv,a,b,c]))(h:xC n0 v ps)(hn:n0<=1000000000):dA G bE 25 [.agg [bB,mv,a,b,c],v] (ao_ ps.length):=by
 refine dX (awO.go ?_);have hl:=h.len;have x_:=hr.nl;have ln:=h.v.cN;rw[dj] at ln;refine wy ?_;refine dx (λi e h=>∃(xs:List (List bg)) (bx:bg),e=[(1,v),(2,.mp 0 0),(5,bx),(6,bq i)]/\h[0]?=a_ (.cells [bB,mv,a,b,c] bf)/\cV h bx (xs.map dD) 2 128/\xs.length<=i/\∀x∈xs,CA x) ps.length ⟨[],.bp,rfl,rfl,sr _ _ _,af,af⟩ ?_ ?_;rintro i e g Q ⟨xs,bx,rfl,h0,hA,rU,I⟩;obtain⟨p,J⟩:=cO Q;have e1:cA 5 v (.v (.int .i64 (i:Int)))=a_ (.fp p.cells 0):=h.v.cI (x:=p.bN) (by simp[J]) rfl;have l0:∀J,bA J bf 1 (.fp p.cells 0)=a_ (.v (.int .i64 p.kind)):=λJ=>rfl;have l3:∀J,bA J bf 1 (.fp p.cells 3)=a_ (bu p.name):=λJ=>rfl;have Xj:∀g:List br,g[0]?=a_ (.cells [bB,mv,a,b,c] bf)->bA g bh 5 (.mp 0 0)=a_ (.agg [bB,mv,a,b,c]):=λg q=>by
  simp only[bA,q];rfl
 refine q7 (cL (λq=>?_) λq=>?_);refine fy @q ?_;exact⟨xs,bx,rfl,h0,hA,aa,I⟩;refine wy ?_;refine⟨_,_,cl hS (cl (uT _) dK),ati hr p.name,?_⟩;obtain⟨gl,PA⟩:=Vk cv p.name cv.length;have ar6:dH [.v (.string ⟨[].toArray⟩),.bp] [(0,1,bu p.name),(1,1,nQ (pN cv p.name cv.length))]=a_ [bu p.name,nQ (pN cv p.name cv.length)]:=by
  generalize pN cv p.name cv.length=L;cases L<;>rfl
 generalize pN cv p.name cv.length=L at gl PA ar6⊢;have nn:bL (g++[bw [.v (.string ⟨[].toArray⟩),.bp] bf]) 2 (.mp g.length 0) (.agg [bu p.name,nQ L])=a_ (g++[bw [bu p.name,nQ L] bf]):=by
  rw[Jx (k:=g.length) (a:=.v (.string ⟨[].toArray⟩)) (b:=.bp) af rfl (agV L).1];simp
 have HT:(g++[bw [bu p.name,nQ L] bf])[0]?=a_ (.cells [bB,mv,a,b,c] bf):=bU h0;have kx:(g++[bw [bu p.name,nQ L] bf])[g.length]?=a_ (.cells [bu p.name,nQ L] bf):=af
 have u6:cV (g++[bw [bu p.name,nQ L] bf]) bx (xs.map dD) 2 128:=hA.ext;have Lr:g.length≠0:=by have:=(cJ.1 h0).1;omega
 refine wy ?_;generalize g++[bw [bu p.name,nQ L] bf]=g1 at HT kx u6⊢;generalize g.length=K at kx Lr⊢;refine wy ?_;refine ek (aer hr p.name) ?_;rintro r ⟨z,rfl,cg,z2⟩;have push:∀(g2:List br) (x:List bg),cV g2 bx (xs.map dD) 2 128->g2[0]?=a_ (.cells [bB,mv,a,b,c] bf)->CA x->∃cj g3,e9 2 [.agg x]=a_ (.sl [.agg x] .exact)/\eu g2 2 40 128 bx (.sl [.agg x] .exact)=a_ (cj,g3)/\g3[0]?=a_ (.cells [bB,mv,a,b,c] bf)/\cV g3 cj ((xs++[x]).map dD) 2 128/\∀y∈xs++[x],CA y:=λg2 x fo oU DF=>by
  have X9:c8 2 [dD x]=bh:=vr (xs:=[x]) λy hy=>by rw[dR.1 hy];exact DF.ok
  obtain⟨cj,g3,dc,qN,_,_,S⟩:=ni (x:=dD x) (b6:=40) fo (vr λy hy=>(I y hy).ok) X9 ag ag ah;refine⟨cj,g3,by simp[e9,X9],dc,S _ _ oU λys w=>?_,by rw[gQ];exact qN,λy hy=>?_⟩
  rcases fo with⟨w1,_⟩|⟨id,w1,w2⟩
  rw[w1] at w;cases w;rw[w1] at w;cases w;rw[oU] at w2;cases w2
  rcases gA.1 hy with w|w
  exact I y w;rw[dR.1 w];exact DF
 refine wy (cL (λbt=>?_) λbt=>?_);have aGL:0<=z:=aX
 have s1:bL g1 1 (.mp K 1) (.sl [.v (.int .i64 z)] .exact)=a_ (g1.set K (.cells [bu p.name,.sl [.v (.int .i64 z)] .exact] bf)):=by
  simp only[bL,kx];rfl
 have F1:=bV (a:=.cells [bu p.name,.sl [.v (.int .i64 z)] .exact] bf) (cJ.1 kx).1;have oU:(g1.set K (.cells [bu p.name,.sl [.v (.int .i64 z)] .exact] bf))[0]?=a_ (.cells [bB,mv,a,b,c] bf):=by rw[bC Lr];exact HT
 obtain⟨cj,g3,p1,p2,p3,jj,Rp⟩:=push _ [bu p.name,.sl [.v (.int .i64 z)] .exact] (jN u6 kx) oU ⟨p.name,[z],bF rfl,af,λy hy=>by rw[dR.1 hy];omega⟩;refine p5 @bt @s1 (Sl F1) @p1 @p2 ?_;exact⟨_,cj,rfl,p3,jj,ah,Rp⟩;obtain⟨cj,g3,p1,p2,p3,jj,Rp⟩:=push g1 [bu p.name,nQ L] u6 HT ⟨p.name,L,bD rfl,aa,λy hy=>by have:=PA y hy;omega⟩;refine o_ @bt (Sl kx) @p1 @p2 ?_;exact⟨_,cj,rfl,p3,jj,ah,Rp⟩;rintro e g ⟨xs,bx,rfl,h0,hA,rU,I⟩;refine wy ?_;obtain⟨ys,y1,fK,lI⟩:=akc g I
 rcases hA with⟨rfl,z⟩|⟨id,rfl,_⟩
 obtain⟨n,hn⟩:=(eB:b8 g _ _).done;exact⟨n,_,hn,[],bF ⟨rfl,rfl⟩,af,af⟩;obtain⟨n,hn⟩:=(gP (t:=.tok id) y1:b8 g _ _).done;exact⟨n,_,hn,ys,bD rfl,fK,aa⟩
end
end
section
variable{G:Cells}{bB mv a b c:bg}{cv marks:List (List bg)}
def aDV(hr:qE bB mv cv marks)(n:Int):dA G bE 84 [.agg [bB,mv,a,b,c],.v (.int .i64 n)] λr=>∃t:Bool,r=.v (.bool t)/\(t=bh->1<=n/\n<=(cv.length:Int)):=by
 refine dX (awJ.go ?_);have ln:=hr.n.cN;rw[dj] at ln;refine wy ?_;refine c_ (λq=>?_) λq=>?_;refine wy ?_;obtain⟨k,S⟩:=(bH (.bool (decide (n<=(cv.length:Int)))):b8 [bw [bB,mv,a,b,c] bf] _ _).done;exact⟨k,_,S,_,rfl,λz=>⟨an,aN⟩⟩;obtain⟨k,S⟩:=(bH (.bool bf):b8 [bw [bB,mv,a,b,c] bf] _ _).done;exact⟨k,_,S,_,rfl,λz=>by cases z⟩
def aAp(hr:qE bB mv cv marks)(n:Nat)(Y:1<=n)(V:n<=cv.length):dA G bE 85 [.agg [bB,mv,a,b,c],.v (.int .i64 (n:Int))] λr=>∃y,r=.agg y/\uJ y:=by
 refine dX (ayg.go ?_);have x_:=hr.nl;have LY:[cU (.string ⟨[].toArray⟩),.bp,.v (.bool bf),.v (.bool bf),.v (.bool bf),.v (.int .i64 0),.v (.bool bf),.bp,.v (.string ⟨[].toArray⟩)]=gz:=rfl;obtain⟨y,hy⟩:∃y,cv[n-1]?=a_ y:=⟨cv[n-1]' aa,cx aa⟩;have lV:=hr.mB y (cE hy);have ny:cA 9 bB (.v (.int .i64 ((n-1:Nat):Int)))=a_ (.fp y 0):=hr.n.cI (x:=.agg y) aT aJx;have ly:=λJ=>rz.fY lV.ok.1 J;have st:bL [bw [bB,mv,a,b,c] bf,.cells gz bf] 9 (.mp 1 0) (.agg y)=a_ [.cells [bB,mv,a,b,c] bf,.cells y bf]:=wZ (k:=1) rfl rfl lV.ok.1 lV.ok.2.1;have la:bA [bw [bB,mv,a,b,c] bf,.cells y bf] bh 9 (.mp 1 0)=a_ (.agg y):=by
  obtain⟨nm,cq,i,p,b_,a2,al,lD,ex,rfl,_⟩:=lV;rfl
 refine wy ?_;obtain⟨k,S⟩:=(lV.fz [bw [bB,mv,a,b,c] bf,.cells y bf]).done;exact⟨k,_,S,y,rfl,lV⟩
def WS(hr:qE bB mv cv marks)(hS:eP (.agg [bB,mv,a,b,c]))(n:Int):dA G bE 46 [.agg [bB,mv,a,b,c],.v (.int .i64 n)] jD:=by
 refine dX (awK.go ?_);have Xj:bA [bw [bB,mv,a,b,c] bf] bh 5 (.mp 0 0)=a_ (.agg [bB,mv,a,b,c]):=rfl;refine wy ?_;refine c_ (λq=>?_) λq=>?_;exact iS _;refine ek (aDV hr n) ?_;rintro r ⟨t,rfl,ht⟩;cases t with
 |false=>
  exact wy (iS _)
 |true=>
  obtain⟨Y,V⟩:=ht rfl;obtain⟨m,rfl⟩:=oI (show 0<=n by omega);refine wy ?_;refine ek (aAp hr m aa aa) ?_;rintro r ⟨y,rfl,nm,cq,i,p,b_,a2,al,lD,ex,rfl,_⟩;have f:Ki bf 1 2 (.agg (eA nm cq i p b_ a2 al lD ex))=a_ (.v (.bool i)):=rfl;exact wy (iS _)
end
end Go.Proofs.YtgfjdechmbleeaaGreatDoor

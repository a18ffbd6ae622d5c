/- Part 10 of a proof. No condition. -/
import Derived.Test.YtplgiomcbchjiaaGreatDoorZ9
set_option linter.unusedVariables false
set_option linter.unusedSimpArgs false
set_option linter.defProp false
open Bool renaming eq_iff_iff->Ij,false->bf,not_false->vv,not_true->zU,true->bh
open Classical renaming propDecidable->aq0
open Go.bM.bg renaming agg->dG,cells->jD,one->cu,v->cR
open Go.bM.de renaming nil->tA
open Go.bM.br renaming cells->bw
open Go.bM.tG renaming mk->cM
open Go.bM.cw renaming mono->cm,pu->dx,aaA->eo,pure->ic,aFa->jE
open Go.bM renaming Clean->eY
open Go.bM.b_ renaming agg->j0,bp->eB,sl->hD,bQ->fy,v->bH
open Go.bM.fC renaming cons->bG,map->iE,nil->c_
open Go.IntKind renaming i64->cN
open Go.Proofs.Tryz renaming prog->bB
open Go.Proofs.YtplgiomcbchjiaaGreatDoor.cT renaming bA->su,cells->rI,many->Fy
open Go.Proofs.YtplgiomcbchjiaaGreatDoor.dL renaming bA->nh,cells->iF
open Go.Proofs.YtplgiomcbchjiaaGreatDoor.jg renaming nil->zZ
open Int renaming eq_ofNat_of_zero_le->pJ,le_refl->Dm,toNat_natCast->yw
open List renaming all_cons->pK,all_eq_true->eJ,all_nil->tC,any_eq_true->Ir,append_assoc->dQ,append_nil->gV,cons_append->gB,drop_zero->pL,getElem?_append->acS,getElem?_append_left->fY,getElem?_append_right->gh,getElem?_cons_zero->nL,getElem?_eq_getElem->cy,getElem?_eq_none->j4,getElem?_eq_some_iff->cK,getElem?_map->e9,getElem?_set_ne->bE,getElem?_set_self->bT,getElem_of_mem->FC,length_append->ek,length_cons->eZ,length_map->cS,length_nil->iG,length_pos_iff->Is,length_singleton->qg,map_append->gC,map_congr_left->BU,map_cons->fc,map_map->yz,map_nil->kM,mem_append->fA,mem_cons->fo,mem_map->dV,mem_of_getElem?->cv,mem_singleton->dW,nil_append->gM,set_set->arE,sum_append->arF,sum_cons->Aa,sum_nil->Iu,take_add_one->vA,take_append_drop->UO,take_length->od,take_of_length_le->oe
open Nat renaming add_assoc->nM,add_sub_cancel->UP,add_zero->sx,eq_zero_or_pos->Dp,le_refl->cc,le_trans->iz,lt_or_ge->er,min_eq_left->Lc,mul_comm->acY,one_mul->FF,sub_self->ni,sub_zero->FG,zero_add->gi,zero_le->gW
open Option renaming none->bn,some->a_
open Or renaming inl->bD,inr->bF
namespace Go.Proofs.YtplgiomcbchjiaaGreatDoor
open Go Go.bM Go.RowKit
section
variable{J:List br}
def Ix(low high:Int):Prop:=0<=low/\low<=20/\(high= -1\/(1<=high/\high<=20/\low<=high))
def dL.xm(x:dL):Prop:=1<=x.kind/\x.kind<=5/\x.name.length<=12/\(x.kind=5->Ix x.low x.high)
def Vo(a n:Nat)(r:bg):Prop:=∃(x:dL) (p e:Int),r=.bQ [x.bA,.v (.int .i64 p),.v (.int .i64 e)]/\(e=0->∃p':Nat,p=(p':Int)/\a<p'/\p'<=n/\x.xm)
def o4{a n:Nat}(x:dL){p e:Int}(h:e=0->∃p':Nat,p=(p':Int)/\a<p'/\p'<=n/\x.xm):∃k bR,dh J k (.bQ [.agg x.cells,.v (.int .i64 p),.v (.int .i64 e)])=a_ bR/\Vo a n bR:=by
 obtain⟨k,S⟩:=(fy (bG (j0 (bG (bH _) (bG (bH _) (bG (bH _) (bG (bH _) (bG (bH _) c_)))))) (bG (bH (.int .i64 p)) (bG (bH (.int .i64 e)) c_))):b_ J (.bQ [.agg x.cells,.v (.int .i64 p),.v (.int .i64 e)]) _).done;exact⟨k,_,S,x,p,e,rfl,h⟩
@[go_sem]def acm(z x:dL)(l:List br):bL (.cells z.cells bf::l) 5 (.mp 0 0) (.agg x.cells)=a_ (.cells x.cells bf::l):=by
 rw[wL (k:=0) (Z:=z.cells) rfl rfl x];rfl
@[go_sem]def BJ(x:dL)(l:List br):bz (.cells x.cells bf::l) bh 5 (.mp 0 0)=a_ (.agg x.cells):=wK rfl
@[go_sem]def aqW(b:br)(z x:dL)(l:List br):bL (b:: .cells z.cells bf::l) 5 (.mp 1 0) (.agg x.cells)=a_ (b:: .cells x.cells bf::l):=by
 rw[wL (k:=1) (Z:=z.cells) rfl rfl x];rfl
@[go_sem]def Fp(b:br)(x:dL)(l:List br):bz (b:: .cells x.cells bf::l) bh 5 (.mp 1 0)=a_ (.agg x.cells):=wK rfl
@[go_sem]def aqV(b:br)(k a lo Q n:Int)(w:List UInt8)(l:List br):bL (b:: .cells (iF ⟨k,a,lo,Q,w⟩) bf::l) 1 (.mp 1 2) (.v (.int .i64 n))=a_ (b:: .cells (iF ⟨k,a,n,Q,w⟩) bf::l):=rfl
@[go_sem]def Ur(b:br)(k a lo Q n:Int)(w:List UInt8)(l:List br):bL (b:: .cells (iF ⟨k,a,lo,Q,w⟩) bf::l) 1 (.mp 1 3) (.v (.int .i64 n))=a_ (b:: .cells (iF ⟨k,a,lo,n,w⟩) bf::l):=rfl
def De:dL:=⟨0,0,0,0,[]⟩
def ack:iF De=[.v (.int .i64 0),.v (.int .i64 0),.v (.int .i64 0),.v (.int .i64 0),.v (.string ⟨[].toArray⟩)]:=rfl
section
variable{G:Cells}
def auy(s:List UInt8)(hs:s.length<=1000000000)(cA:Nat)(ha:cA<s.length):dM G bB 247 [bu s,.v (.int .i64 (cA:Int))] (Vo cA s.length):=by
 refine en (aBk.go ?_);have f1:dN [.v (.int .i64 0),.v (.int .i64 0),.v (.int .i64 0),.v (.int .i64 0),.v (.string ⟨[].toArray⟩)] [(0,1,.v (.int .i64 5)),(1,1,.v (.int .i64 (cA:Int)))]=a_ (iF ⟨5,cA,0,0,[]⟩):=rfl;have p1:=λb x l=>aqW b De x l;have je:=λx l=>acm De x l;rw[ack] at p1 je;refine wy ?_;refine eo (anv s hs (cA+1) ha) ?_;rintro r ⟨m,p,rfl,J,hm⟩;refine wy (cM (λq=>?_) λq=>?_);obtain⟨p',e,he,sp⟩:=Un (G:=G) s p;refine wy ?_;refine dx sp ?_;exact wx (o4 ⟨5,cA,0,0,[]⟩ λz=>absurd z he);have p6:0<=m:=ak
 have ok:∀hh:Int,m<=20->(hh= -1\/(1<=hh/\hh<=20/\m<=hh))->dL.xm ⟨5,cA,m,hh,[]⟩:=λhh Xg h=>⟨aL8,aNB,aMG,λ_=>⟨p6,Xg,h⟩⟩;refine rF ?_
 repeat' ((refine cM (λq=>?_) λq=>?_)<;>(have q':=q)<;>(simp -failIfUnchanged only[qm] at q')<;>(refine jB @x4 @xA @q ?_))
 all_goals first
  |(refine wx ?_
    exact o4 ⟨5,cA,0,0,[]⟩ λz=>absurd z ag)
  |skip
 all_goals
  have M9:m<=20:=aa
  refine fu @aqV @Ur @xA ?_
  repeat' ((refine cM (λq=>?_) λq=>?_)<;>(have q':=q)<;>(simp -failIfUnchanged only[qm] at q')<;>(refine jB @x4 @xA @q ?_))
 all_goals first
  |(obtain⟨p',e,he,sp⟩:=Un (G:=G) s p
    refine dx sp ?_;exact fu @Fp @je @BJ (o4 ⟨5,cA,m,m,[]⟩ λz=>absurd z he))
  |skip
 all_goals first
  |(exfalso;omega)
  |(refine fu @Fp @je @BJ ?_
    exact o4 ⟨5,cA,m,m,[]⟩ λ_=>⟨p+1,rfl,aa,aa,ok m M9 (bF ⟨aa,aa,aa⟩)⟩)
  |skip
 all_goals
  refine gf @Ur @xA ?_
  repeat' ((refine cM (λq=>?_) λq=>?_)<;>(have q':=q)<;>(simp -failIfUnchanged only[qm] at q')<;>(refine jB @x4 @xA @q ?_))
 all_goals first
  |(exfalso;omega)
  |(refine fu @Fp @je @BJ ?_
    exact o4 ⟨5,cA,m, -1,[]⟩ λ_=>⟨p+1+1,rfl,aa,aa,ok _ M9 (bD rfl)⟩)
  |skip
 all_goals
  refine eo (anv s hs (p+1) aa) ?_;rintro r ⟨k,p2,rfl,jG,S⟩;refine eO (cM (λq=>?_) λq=>?_);obtain⟨p',e,he,sp⟩:=Un (G:=G) s p2;refine dJ @q ?_;refine dx sp ?_;exact fu @Fp @je @BJ (o4 ⟨5,cA,m, -1,[]⟩ λz=>absurd z he);have xO:0<=k:=ak
  refine dJ @q ?_
  repeat' ((refine cM (λq=>?_) λq=>?_)<;>(have q':=q)<;>(simp -failIfUnchanged only[qm] at q')<;>(refine jB @x4 @xA @q ?_))
 all_goals first
  |(refine fu @Fp @je @BJ ?_
    exact o4 ⟨5,cA,m, -1,[]⟩ λz=>absurd z ag)
  |skip
 all_goals
  refine gf @Ur @xA ?_
  repeat' ((refine cM (λq=>?_) λq=>?_)<;>(have q':=q)<;>(simp -failIfUnchanged only[qm] at q')<;>(refine jB @x4 @xA @q ?_))
 all_goals first
  |(exfalso;omega)
  |(refine fu @Fp @je @BJ ?_
    exact o4 ⟨5,cA,m,k,[]⟩ λ_=>⟨p2+1,rfl,aa,aa,ok k M9 (bF ⟨aa,aa,aa⟩)⟩)
  |(obtain⟨p',e,he,sp⟩:=Un (G:=G) s p2
    refine dx sp ?_;exact fu @Fp @je @BJ (o4 ⟨5,cA,m,k,[]⟩ λz=>absurd z he))
def aEG(s:List UInt8)(hs:s.length<=1000000000)(cA:Nat)(ha:cA<s.length):dM G bB 183 [bu s,.v (.int .i64 (cA:Int))] (Vo cA s.length):=by
 refine en (aA1.go ?_);have fz:dN [.v (.int .i64 0),.v (.int .i64 0),.v (.int .i64 0),.v (.int .i64 0),.v (.string ⟨[].toArray⟩)] []=a_ (iF De):=rfl;have f1:∀w,dN [.v (.int .i64 0),.v (.int .i64 0),.v (.int .i64 0),.v (.int .i64 0),.v (.string ⟨[].toArray⟩)] [(0,1,.v (.int .i64 1)),(1,1,.v (.int .i64 (cA:Int))),(4,1,bu w)]=a_ (iF ⟨1,cA,0,0,w⟩):=λw=>rfl;have f2:∀k:Int,dN [.v (.int .i64 0),.v (.int .i64 0),.v (.int .i64 0),.v (.int .i64 0),.v (.string ⟨[].toArray⟩)] [(0,1,.v (.int .i64 k)),(1,1,.v (.int .i64 (cA:Int)))]=a_ (iF ⟨k,cA,0,0,[]⟩):=λk=>rfl;have f5:∀h:Int,dN [.v (.int .i64 0),.v (.int .i64 0),.v (.int .i64 0),.v (.int .i64 0),.v (.string ⟨[].toArray⟩)] [(0,1,.v (.int .i64 5)),(1,1,.v (.int .i64 (cA:Int))),(3,1,.v (.int .i64 h))]=a_ (iF ⟨5,cA,0,h,[]⟩):=λk=>rfl;have f6:dN [.v (.int .i64 0),.v (.int .i64 0),.v (.int .i64 0),.v (.int .i64 0),.v (.string ⟨[].toArray⟩)] [(0,1,.v (.int .i64 5)),(1,1,.v (.int .i64 (cA:Int))),(2,1,.v (.int .i64 1)),(3,1,.v (.int .i64 (-1)))]=a_ (iF ⟨5,cA,1, -1,[]⟩):=rfl;have je:=λx l=>acm De x l;rw[ack] at je;have w1:cN.wrap ((cA:Int)+1)=((cA+1:Nat):Int):=jZ aa;have anD:∀w:List UInt8,w.length<=12->dL.xm ⟨1,cA,0,0,w⟩:=λw hw=>⟨(by show(1:Int)<=1;decide),aL8,hw,λq=>absurd (show(1:Int)=5 from q) ag⟩;have Z_:∀k:Int,1<=k->k<=4->dL.xm ⟨k,cA,0,0,[]⟩:=λk Y V=>⟨Y,(by show k<=5;omega),aMG,λq=>absurd (show k=5 from q) aa⟩;have Z8:∀lo Q:Int,Ix lo Q->dL.xm ⟨5,cA,lo,Q,[]⟩:=λlo Q h=>⟨aL8,aNB,aMG,λ_=>h⟩;refine wx ?_;refine dx (abo (oY s cA:Int)) ?_;cases Yr:(decide ((97:Int)<=(oY s cA:Int))&&decide ((oY s cA:Int)<=122)) with
 |true=>
  refine wy ?_;refine qe (n:=s.length-cA) (λm e h=>∃i:Nat,m=s.length-i/\cA<=i/\i<=cA+12/\i<=s.length/\e=[(0,bu s),(1,.v (.int .i64 (cA:Int))),(4,.mp 0 0),(8,bq i)]/\h=[.cells (iF De) bf]) ⟨cA,rfl,aa,aa,aa,rfl,rfl⟩ ?_;rintro m e h ⟨i,rfl,Q,hi2,axR,rfl,rfl⟩;rw[ack];refine wy ?_
  rcases er i s.length with hl|hl
  refine wx ?_;refine dx (abo (oY s i:Int)) ?_;cases qx:(decide ((97:Int)<=(oY s i:Int))&&decide ((oY s i:Int)<=122)) with
  |true=>
   refine wy ?_;refine dn (λq=>?_) λq=>?_;exact o4 De λz=>absurd z ag;have:i-cA≠12:=by intro e;rw[e] at q;cases q
   exact⟨s.length-(i+1),aa,i+1,rfl,aa,aa,aa,rfl,trivial⟩
  |false=>
   refine wx ?_;refine dx (QK (oY s i:Int)) ?_;cases nE:(decide ((48:Int)<=(oY s i:Int))&&decide ((oY s i:Int)<=57)) with
   |true=>
    refine wy ?_;refine dn (λq=>?_) λq=>?_;exact o4 De λz=>absurd z ag;have:i-cA≠12:=by intro e;rw[e] at q;cases q
    exact⟨s.length-(i+1),aa,i+1,rfl,aa,aa,aa,rfl,trivial⟩
   |false=>
    have bP:cA<i:=by
     rcases er cA i with z|z
     exact z;have:i=cA:=aa
     subst this;rw[Yr] at qx;cases qx
    exact wx (o4 ⟨1,cA,0,0,(s.take i).drop cA⟩ λ_=>⟨i,rfl,aa,aa,anD _ ah⟩)
  refine wx ?_;exact o4 ⟨1,cA,0,0,(s.take i).drop cA⟩ λ_=>⟨i,rfl,aa,aa,anD _ ah⟩
 |false=>
  refine wy ?_
  repeat' ((refine cM (λq=>?_) λq=>?_)<;>(have q':=q)<;>(simp -failIfUnchanged only[qm] at q')<;>(refine O6 @f2 @f5 @f6 @fz @je @BJ @w1 @q ?_))
  all_goals first
   |exact o4 ⟨2,cA,0,0,[]⟩ λ_=>⟨cA+1,rfl,aa,aa,Z_ _ ag ag⟩
   |exact o4 ⟨3,cA,0,0,[]⟩ λ_=>⟨cA+1,rfl,aa,aa,Z_ _ ag ag⟩
   |exact o4 ⟨4,cA,0,0,[]⟩ λ_=>⟨cA+1,rfl,aa,aa,Z_ _ ag ag⟩
   |exact o4 ⟨5,cA,0, -1,[]⟩ λ_=>⟨cA+1,rfl,aa,aa,Z8 _ _ ⟨ag,ag,bD rfl⟩⟩
   |exact o4 ⟨5,cA,1, -1,[]⟩ λ_=>⟨cA+1,rfl,aa,aa,Z8 _ _ ⟨ag,ag,bD rfl⟩⟩
   |exact o4 ⟨5,cA,0,1,[]⟩ λ_=>⟨cA+1,rfl,aa,aa,Z8 _ _ ⟨ag,ag,bF ⟨ag,ag,ag⟩⟩⟩
   |exact o4 De λz=>absurd z ag
   |(refine eo (auy s hs cA ha) ?_
     rintro r ⟨x,p,e,rfl,I⟩;exact mI @dL.bA.eq_1 @BJ (o4 x I))
def ado(n:Nat)(r:bg):Prop:=∃(v:bg) (l:List dL) (p e:Int),r=.bQ [v,.v (.int .i64 p),.v (.int .i64 e)]/\cD v (l.map nh)/\l.length<=n/\∀x∈l,x.xm
def ahh(x:dL):b_ J x.bA x.bA:=j0 (bG (bH _) (bG (bH _) (bG (bH _) (bG (bH _) (bG (bH _) c_)))))
@[go_sem]def S3(l:List dL):cY 5 (l.map nh)=bh:=by
 rw[cY,eJ];intro x I;obtain⟨t,ht,rfl⟩:=dV.1 I;rfl
def aC8(s:List UInt8)(hs:s.length<=1000000000):dM G bB 106 [bu s] (ado s.length):=by
 refine en (aAw.go ?_);have bad:∀(J:List br) (p e:Int),∃k bR,dh J k (.bQ [.bp,.v (.int .i64 p),.v (.int .i64 e)])=a_ bR/\ado s.length bR:=λJ p e=>by
  obtain⟨k,S⟩:=(fy (bG eB (bG (bH (.int .i64 p)) (bG (bH (.int .i64 e)) c_))):b_ J _ _).done;exact⟨k,_,S,.bp,[],p,e,rfl,bF ⟨rfl,rfl⟩,af,af⟩
 refine wy ?_;refine qe (n:=s.length) (λm e h=>∃(i:Nat) (l:List dL) (bx:bg),m=s.length-i/\i<=s.length/\l.length<=i/\(∀x∈l,x.xm)/\e=[(0,bu s),(5,bx),(6,bq i)]/\de h bx (l.map nh) 5 198) ⟨0,[],.bp,rfl,aa,af,af,rfl,tA _ _ _⟩ ?_;rintro m e h ⟨i,l,bx,rfl,Q,hl,I,rfl,hA⟩;have ln:=F1 hA;refine wy ?_
 rcases er i s.length with hl1|hl1
 · refine wx (cM (λq=>?_) λq=>?_)
   refine wy ?_;exact⟨s.length-(i+1),aa,i+1,l,bx,rfl,aa,aa,I,rfl,hA⟩;refine wy ?_;have ext:∀b:br,de (h++[b]) bx (l.map nh) 5 198:=λb=>by
    rcases hA with z|⟨id,b9,z2⟩
    exact bD z;exact bF ⟨id,b9,bS z2⟩
   refine dn (λbt=>?_) λbt=>?_;refine eo (ath _) ?_;rintro r ⟨b,rfl⟩;cases b
   rotate_left
   exact eO (bad _ _ _)
   all_goals
    refine wy ?_;refine eo (aEG s hs i hl1) ?_;rintro r ⟨x,p,e,rfl,ay8⟩;have s1:=zG h x;unfold iP at s1;have g1:bz (h++[bw x.cells bf]) bh 5 (.mp h.length 0)=a_ (.agg x.cells):=wK af;refine iD @dL.bA.eq_1 (cM (λbV=>?_) λbV=>?_);exact dJ @bV (bad _ _ _);obtain⟨p',rfl,Y,V,h3⟩:=ay8 (by simpa using bV);obtain⟨cl,g,e1,fM,_⟩:=nv (x:=x.bA) (bW:=48) (ext (.cells x.cells bf)) (S3 l) rfl ag ag ah;have ab:e4 5 [.agg x.cells]=a_ (.sl [x.bA] .exact):=rfl;refine wy ?_;refine⟨s.length-p',aa,p',l++[x],cl,rfl,aa,ah,?_,rfl,aLX⟩;intro y hy
    rcases fA.1 hy with z|z
    exact I y z;rw[dW.1 z];exact h3
 refine wy ?_
 rcases hA with⟨rfl,z⟩|⟨id,rfl,_⟩
 exact bad _ _ _;obtain⟨k,S⟩:=(fy (bG (hD (t:=.tok id) (iE (f:=nh) (l:=l) λa _=>ahh a)) (bG (bH (.int .i64 0)) (bG (bH (.int .i64 0)) c_))):b_ h _ _).done;exact⟨k,_,S,_,l,0,0,rfl,bD rfl,aa,I⟩
end
end
section
variable{l:List dL}{i:Nat}{k:Int}
def kd(l:List dL)(i:Nat):Int:=((l[i]?).map dL.kind).getD 0
def EL{x:dL}(h:l[i]?=a_ x):kd l i=x.kind:=by unfold kd;rw[h];rfl
def yj(k:Int):Int:=if k=2 then 1 else if k=3 then -1 else 0
def gX(l:List dL)(a:Nat):Nat->Int
 |0=>0
 |n+1=>gX l a n+yj (kd l (a+n))
def xB(l:List dL)(a n:Nat):gX l a (n+1)=gX l a n+yj (kd l (a+n)):=rfl
def L7(l:List dL)(a m:Nat):∀n,gX l a (m+n)=gX l a m+gX l (a+m) n
 |0=>by simp[gX]
 |n+1=>by rw[<-nM,xB,xB,L7 l a m n,nM a m n];omega
def apN(k:Int): -1<=yj k/\yj k<=1:=by unfold yj;split<;>(try split)<;>omega
def H9(h:k=2):yj k=1:=by unfold yj;rw[if_pos h]
def TV(h:k=3):yj k= -1:=by unfold yj;rw[if_neg aa,if_pos h]
def H8(h:k≠2)(h3:k≠3):yj k=0:=by unfold yj;rw[if_neg h,if_neg h3]
def Wo(l:List dL)(a:Nat):∀n:Nat, -(n:Int)<=gX l a n/\gX l a n<=(n:Int)
 |0=>by simp[gX]
 |n+1=>by
  have h:=Wo l a n;have V:=apN (kd l (a+n));rw[xB];omega
structure vK(l:List dL):Prop where
 first:0<l.length->kd l 0=1\/kd l 0=2
 S0:∀i,i<l.length->(kd l i=2\/kd l i=4)->i+1<l.length/\(kd l (i+1)=1\/kd l (i+1)=2)
 cnt:∀i,i<l.length->kd l i=5->0<i/\(kd l (i-1)=1\/kd l (i-1)=3)
 low:∀n,n<=l.length->0<=gX l 0 n
 shut:gX l 0 l.length=0
structure mO(l:List dL)(a b:Nat):Prop where
 lt:a<b
 le:b<=l.length
 hd:kd l a=1\/kd l a=2
 au0:kd l (b-1)≠2
 Mb:kd l (b-1)≠4
 low:∀n,a+n<=b->0<=gX l a n
 shut:gX l a (b-a)=0
def avx(p:Nat->Prop):∀N:Nat,p N->∃n,n<=N/\p n/\∀t,t<n->¬p t:=by
 intro N
 induction N using Nat.strongRecOn with
 |_ N ih=>
  intro h;by_cases I:∃t,t<N/\p t;obtain⟨t,Y,V⟩:=I;obtain⟨n,g1,g2,g3⟩:=ih t Y V;exact⟨n,aa,g2,g3⟩;exact⟨N,cc _,h,λt ht J=>I ⟨t,ht,J⟩⟩
def vK.all(h:vK l)(S:∀i,i<l.length->1<=kd l i/\kd l i<=5)(h0:0<l.length):mO l 0 l.length:=by
 have hl:=h.S0 (l.length-1) aa;refine⟨h0,cc _,h.first h0,λe=>?_,λe=>?_,λn hn=>h.low n aa,by rw[FG];exact h.shut⟩;have:=(hl (bD e)).1;omega;have:=(hl (bF e)).1;omega
def j5(l:List dL)(a i:Nat):Prop:=gX l a (i-a)=0
def Ai(l:List dL)(a b:Nat):Prop:=∀t,a<=t->t<b->j5 l a t->kd l t≠4
def Dx(l:List dL)(a b:Nat):Prop:=∀t,a<t->t<b->j5 l a t->kd l t≠1/\kd l t≠2
section
variable{l:List dL}{a b:Nat}
def j5.succ(h:j5 l a i)(ha:a<=i)(V:kd l i≠2)(h3:kd l i≠3):j5 l a (i+1):=by
 unfold j5 at*;rw[show i+1-a=(i-a)+1 by omega,xB,h,show a+(i-a)=i by omega,H8 V h3];rfl
def mO.EZ(h:mO l a b)(ha:a<=i)(O:i<b)(ht:j5 l a i):kd l i≠3:=by
 intro e;have:=h.low (i-a+1) aa;unfold j5 at ht;rw[xB,ht,show a+(i-a)=i by omega,TV e] at this;omega
def mO.skip(h:mO l a b){n:Nat}(ha:a<=i)(O:i<b)(ht:j5 l a i)(V:kd l i=2)(hz:i+n<l.length->gX l i (n+1)=0)(hn:∀t,t<n->gX l i (t+1)≠0):
  i+n<b/\j5 l a (i+n+1)/\∀t,i<t->t<=i+n->¬j5 l a t:=by
 have e1:gX l i (b-i)=0:=by
  have:=L7 l a (i-a) (b-i);rw[show i-a+(b-i)=b-a by omega,h.shut,show a+(i-a)=i by omega] at this;unfold j5 at ht;omega
 have cX:i+n<b:=by
  rcases er (i+n) b with z|z
  exact z;exact absurd (by rw[show b-i-1+1=b-i by omega];exact e1) (hn (b-i-1) aa)
 have hd:=λt=>L7 l a (i-a) t;have bK:=h.le;refine⟨cX,?_,λt Y h3 hq=>?_⟩;unfold j5 at*;rw[show i+n+1-a=i-a+(n+1) by omega,hd,ht,show a+(i-a)=i by omega,hz aa];rfl;unfold j5 at*;rw[show t-a=i-a+(t-i-1+1) by omega,hd,ht,show a+(i-a)=i by omega] at hq;exact hn (t-i-1) aa aa
def mO.piece(h:mO l a b){c:Nat}(Jo:a<=c)(XM:c<i)(X3:i<=b)(T:j5 l a c)(Q:j5 l a i)(S:kd l c=1\/kd l c=2)(V:kd l (i-1)≠2)(h4:kd l (i-1)≠4):mO l c i:=by
 have e:∀n,gX l c n=gX l a (c-a+n):=λn=>by
  have:=L7 l a (c-a) n;rw[show a+(c-a)=c by omega] at this;unfold j5 at T;omega
 have bK:=h.le;refine⟨XM,aa,S,V,h4,λn hn=>?_,?_⟩;rw[e];exact h.low _ aa;rw[e,show c-a+(i-c)=i-a by omega];exact Q
def vK.prev(w:vK l)(Q:0<i)(hl:i<l.length)(Y:kd l i≠1)(V:kd l i≠2):kd l (i-1)≠2/\kd l (i-1)≠4:=by
 have:=w.S0 (i-1) aa;rw[show i-1+1=i by omega] at this;exact⟨λe=>by have:=this (bD e);omega,λe=>by have:=this (bF e);omega⟩
def mO.aIH(h:mO l a b)(w:vK l)(h5:kd l (b-1)=5):mO l a (b-1):=by
 have cX:=h.lt;have bK:=h.le;have hd:=h.hd;have hab:a≠b-1:=by intro e;rw[<-e] at h5;omega
 obtain⟨p1,p2⟩:=w.prev (i:=b-1) aa aa aa aa;refine⟨aa,aa,h.hd,p1,p2,λn hn=>h.low n aa,?_⟩;have:=h.shut;rw[show b-a=b-1-a+1 by omega,xB,show a+(b-1-a)=b-1 by omega,H8 aa aa] at this;omega
def mO.inner(h:mO l a b)(w:vK l)(S:∀i,i<l.length->1<=kd l i/\kd l i<=5)(nb:Ai l a b)(ns:Dx l a b)(V:kd l a=2)(h5:kd l (b-1)≠5):mO l (a+1) (b-1):=by
 have cX:=h.lt;have bK:=h.le;obtain⟨n,n1,n2,ld⟩:=avx (λn=>gX l a (n+1)=0) (b-a-1) (by show gX l a (b-a-1+1)=0;rw[show b-a-1+1=b-a by omega];exact h.shut);have n0:n≠0:=by
  intro e;subst e;have:gX l a 1=1:=by rw[xB,sx,H9 V];rfl
  have q:gX l a 1=0:=n2;omega
 have axC:a+n=b-1:=by
  rcases er (a+n) (b-1) with z|z
  have asM:∀k,a+n+1+k<b->j5 l a (a+n+1+k)/\kd l (a+n+1+k)=5:=by
   intro k
   induction k with
   |zero=>
    intro gZ;have ht:j5 l a (a+n+1+0):=by
     unfold j5;rw[show a+n+1+0-a=n+1 by omega];exact n2
    have:=h.EZ aa gZ ht;have:=nb _ aa gZ ht;have:=ns _ aa gZ ht;have:=S (a+n+1+0) aa;exact⟨ht,aa⟩
   |succ k ih=>
    intro gZ;obtain⟨t1,t2⟩:=ih aa;have ht:j5 l a (a+n+1+(k+1)):=t1.succ aa aa aa;have:=h.EZ aa gZ ht;have:=nb _ aa gZ ht;have:=ns _ aa gZ ht;have:=S (a+n+1+(k+1)) aa;exact⟨ht,aa⟩
  have:=(asM (b-1-(a+n+1)) aa).2;rw[show a+n+1+(b-1-(a+n+1))=b-1 by omega] at this;exact absurd this h5;omega
 have pos:∀t,t<n->1<=gX l a (t+1):=λt ht=>by
  have:=ld t ht;have:=h.low (t+1) aa;omega
 have p8:gX l a n=1/\kd l (b-1)=3:=by
  have e:=n2;rw[xB,axC] at e;have p:=pos (n-1) aa;rw[show n-1+1=n by omega] at p;have s:=apN (kd l (b-1));refine⟨aa,?_⟩;by_cases q:kd l (b-1)=2;rw[H9 q] at e;omega;by_cases bV:kd l (b-1)=3;exact bV;rw[H8 q bV] at e;omega
 have e:∀n,gX l (a+1) n=gX l a (n+1)-1:=λn=>by
  have:=L7 l a 1 n;have q:gX l a 1=1:=by rw[xB,sx,H9 V];rfl
  rw[Nat.add_comm 1 n] at this;omega
 have fI:=(w.S0 a aa (bD V)).2;have bP:a+1≠b-1:=by intro e;rw[e,p8.2] at fI;omega
 obtain⟨p1,p2⟩:=w.prev (i:=b-1) aa aa (by rw[p8.2];decide) (by rw[p8.2];decide);refine⟨aa,aa,fI,p1,p2,λt ht=>?_,?_⟩;rw[e];have:=pos t aa;omega;rw[e,show b-1-(a+1)+1=n by omega,p8.1];rfl
end
structure U5(l:List dL)(a b e:Nat)(Z:List Nat):Prop where
 ki:∀x∈Z,a<=x/\x<=b
 two:2<=Z.length
 seg:∀k x y,Z[k]?=a_ x->Z[k+1]?=a_ y->k+2<Z.length->mO l x (y-e)/\e<=y/\y-e-x<b-a
 fin:∀k x y,Z[k]?=a_ x->Z[k+1]?=a_ y->k+2=Z.length->mO l x y/\(2<Z.length->y-x<b-a)
structure sA(l:List dL)(a b e i:Nat)(Z:List Nat)(c:Nat):Prop where
 ki:∀x∈Z,a<=x/\x<=b
 last:Z[Z.length-1]?=a_ c
 ne:0<Z.length
 ac:a<=c
 ci:c<=i
 cb:c<b
 cn:Z.length<=i+1
 S:kd l c=1\/kd l c=2
 Fh:j5 l a c
 ti:j5 l a i
 fst:1<Z.length->a<c
 seg:∀k x y,Z[k]?=a_ x->Z[k+1]?=a_ y->mO l x (y-e)/\e<=y/\y-e-x<b-a
section
variable{l:List dL}{a b e i c:Nat}{Z:List Nat}
def sA.push(h:sA l a b e i Z c){y:Nat}(D:mO l c (y-e))(he:e<=y)(hs:y-e-c<b-a)(hy:a<y)(aK4:y<=i+1)(R_:y<b)(S:kd l y=1\/kd l y=2)(ty:j5 l a y)(j:Nat)(hj:i+1<=j)(OP:j5 l a j):sA l a b e j (Z++[y]) y:=by
 have hl:=h.ne;have A4:=h.cn;have cX:=D.lt;refine⟨λx I=>by
  rcases fA.1 I with z|z
  exact h.ki x z;rw[dW.1 z];omega,af,af,aa,aa,R_,ah,S,ty,OP,λ_=>hy,?_⟩
 intro k x z Y V;rw[acS] at Y V;split at V;rename_i q;rw[if_pos aa] at Y;exact h.seg k x z Y V;rename_i q;have hk2:k+1=Z.length:=by
  rcases er (k+1-Z.length) 1 with w|w
  omega;rw[j4 ah] at V;cases V
 rw[hk2,ni] at V;rw[if_pos aa,show k=Z.length-1 by omega,h.last] at Y;cases Y;have:y=z:=aG
 subst this;exact⟨D,he,hs⟩
def sA.skip(h:sA l a b e i Z c){j:Nat}(hj:i<=j)(OP:j5 l a j):sA l a b e j Z c:=by
 have:=h.ci;have:=h.cn;exact⟨h.ki,h.last,h.ne,h.ac,aa,h.cb,aa,h.S,h.Fh,OP,h.fst,h.seg⟩
def sA.done(h:sA l a b e b Z c)(R:mO l a b):U5 l a b e (Z++[b]):=by
 have hl:=h.ne;have XK:=h.cb;have Jo:=h.ac;have D:mO l c b:=R.piece h.ac h.cb (cc _) h.Fh R.shut h.S R.au0 R.Mb;refine⟨λx I=>by
  rcases fA.1 I with z|z
  exact h.ki x z;rw[dW.1 z];omega,ah,?_,?_⟩
 intro k x z Y V h3;rw[ek,qg] at h3;rw[acS,if_pos aa] at Y V;exact h.seg k x z Y V;intro k x z Y V h3;rw[ek,qg] at h3;rw[acS,if_pos aa] at Y;rw[acS,if_neg aa] at V;rw[show k=Z.length-1 by omega,h.last] at Y;cases Y;rw[show k+1-Z.length=0 by omega] at V;have:b=z:=aG
 subst this;refine⟨D,λq=>?_⟩;have:=h.fst aq;omega
def sA.start(R:mO l a b):sA l a b e a [a] a:=by
 have t0:j5 l a a:=by unfold j5;rw[ni];rfl
 have:=R.lt;refine⟨λx I=>by rw[dW.1 I];omega,rfl,af,cc _,cc _,R.lt,af,R.hd,t0,t0,λq=>by simp at q,?_⟩;intro k x y Y V;rw[j4 af] at V;cases V
end
end
section
variable{l:List dL}{J:List br}{a b:Nat}
def FM(l:List dL)(i:Nat):Prop:=i=0\/kd l (i-1)=2\/kd l (i-1)=4
def Li(l:List dL)(i:Nat):Prop:=i=0\/(kd l (i-1)≠1/\kd l (i-1)≠3)
structure PA(l:List dL)(i:Nat):Prop where
 low:∀n,n<=i->0<=gX l 0 n
 fr:∀j,j<i->FM l j->kd l j=1\/kd l j=2
 fl:∀j,j<i->kd l j=5->¬Li l j
def PA.C8(h:PA l l.length)(Y:0<l.length->¬FM l l.length)(V:gX l 0 l.length<=0):vK l:=by
 refine⟨λh0=>h.fr 0 h0 (bD rfl),λi Q S=>?_,λi Q S=>?_,h.low,?_⟩;have f:FM l (i+1):=by
  unfold FM;rw[UP];exact bF S
 rcases er (i+1) l.length with z|z
 exact⟨z,h.fr _ z f⟩;rw[show i+1=l.length by omega] at f;exact absurd f (Y aa);have:=h.fl i Q S;unfold Li at this;refine⟨?_,?_⟩
 rcases Dp i with z|z
 exact absurd (bD z) this;exact z;by_cases q1:kd l (i-1)=1;exact bD q1;by_cases bV:kd l (i-1)=3;exact bF bV;exact absurd (bF ⟨q1,bV⟩) this;have:=h.low l.length (cc _);omega
def ac9(l:List dL)(r:bg):Prop:=∃(p:Int) (b:Bool),r=.bQ [.v (.int .i64 p),.v (.bool b)]/\((p= -1/\(b=bf->vK l))\/∃i:Nat,p=(i:Int)/\i<l.length)
def agH{p:Int}{b:Bool}(h:(p= -1/\(b=bf->vK l))\/∃i:Nat,p=(i:Int)/\i<l.length):∃k bR,dh J k (.bQ [.v (.int .i64 p),.v (.bool b)])=a_ bR/\ac9 l bR:=by
 obtain⟨k,S⟩:=(fy (bG (bH (.int .i64 p)) (bG (bH (.bool b)) c_)):b_ J _ _).done;exact⟨k,_,S,p,b,rfl,h⟩
@[go_sem]def r5(x:dL)(J:List br):bz J bf 1 (.fp x.cells 0)=a_ (.v (.int .i64 x.kind)):=rfl
def adI(l:List dL)(i:Nat)(r:bg):Prop:=∃n:Nat,r=.v (.int .i64 ((i+n:Nat):Int))/\i+n<=l.length/\(i+n<l.length->gX l i (n+1)=0)/\∀t,t<n->gX l i (t+1)≠0
def Q5{i n:Nat}(h:i+n<=l.length/\(i+n<l.length->gX l i (n+1)=0)/\∀t,t<n->gX l i (t+1)≠0):∃k bR,dh J k (.v (.int .i64 ((i+n:Nat):Int)))=a_ bR/\adI l i bR:=by
 obtain⟨k,S⟩:=(bH (.int .i64 ((i+n:Nat):Int)):b_ J _ _).done;exact⟨k,_,S,n,rfl,h⟩
def oE(Z:List Nat):List bg:=Z.map λc:Nat=>cR (.int .i64 (c:Int))
@[go_sem]def Oa(Z:List Nat):cY 1 (oE Z)=bh:=by
 rw[cY,eJ];intro x I;obtain⟨t,ht,rfl⟩:=dV.1 I;rfl
def PC(l:List dL)(a b e:Nat)(X:Prop)(r:bg):Prop:=∃Z:List Nat,r=.sl (oE Z) .no/\U5 l a b e Z/\Z.length<=l.length+2/\(Z.length=2->X)
def anT{v:bg}{e:Nat}{X:Prop}{Z:List Nat}(h:mN 0 J v (oE Z) 1 3)(Y:U5 l a b e Z)(V:Z.length<=l.length+2)(h3:Z.length=2->X):∃k bR,dh J k v=a_ bR/\PC l a b e X bR:=by
 rcases h with rfl|⟨id,rfl,_⟩
 obtain⟨n,hn⟩:=(hD (t:=.exact) (iE (f:=λc:Nat=>cR (.int .i64 (c:Int))) (l:=Z) λa _=>bH _):b_ J _ _).done;exact⟨n,_,hn,Z,rfl,Y,V,h3⟩;obtain⟨n,hn⟩:=(hD (t:=.tok id) (iE (f:=λc:Nat=>cR (.int .i64 (c:Int))) (l:=Z) λa _=>bH _):b_ J _ _).done;exact⟨n,_,hn,Z,rfl,Y,V,h3⟩
section
variable{G:Cells}{v:bg}{l:List dL}
def atP(hv:cD v (l.map nh))(hl:l.length<=1000000000):dM G bB 107 [v] (ac9 l):=by
 refine en (aAx.go ?_);have ln:=hv.cG;rw[cS] at ln;have l5:∀J,cG v J=a_ (.v (.int .i64 (l.length:Int)),J):=λJ=>aL0
 refine fJ ?_;refine c8 (λi e h=>∃(d:Int) (f g:Bool),e=[(0,v),(4,.v (.int .i64 d)),(5,.v (.bool f)),(6,.v (.bool g)),(7,bq i)]/\d=gX l 0 i/\(f=bh↔FM l i)/\(g=bh↔Li l i)/\PA l i/\h=[]) l.length ⟨0,bh,bh,rfl,rfl,⟨λ_=>bD rfl,λ_=>rfl⟩,⟨λ_=>bD rfl,λ_=>rfl⟩,⟨λn hn=>by rw[show n=0 by omega];exact Dm _,λj hj=>aa,λj hj=>aa⟩,rfl⟩ ?_ ?_
 · rintro i e h Q ⟨d,f,g,rfl,hd,hf,hg,hC,rfl⟩
   obtain⟨x,I⟩:=cO Q;have e1:ct 5 v (.v (.int .i64 (i:Int)))=a_ (.fp x.cells 0):=hv.cB (x:=x.bA) aA rfl;have S:=EL I;have hab:=Wo l 0 i;rw[<-hd] at hab;have XO:0<=d:=by rw[hd];exact hC.low i (cc _)
   have dr:=xB l 0 i;rw[gi,S,<-hd] at dr;have d2:x.kind=2->cN.wrap (d+1)=gX l 0 (i+1):=λq=>by rw[dr,H9 q,fq aa aa]
   have d3:x.kind=3->cN.wrap (d-1)=gX l 0 (i+1):=λq=>by rw[dr,TV q,fq aa aa];rfl
   have d0:x.kind≠2->x.kind≠3->d=gX l 0 (i+1):=λq bV=>by rw[dr,H8 q bV];omega
   have za:FM l (i+1)↔x.kind=2\/x.kind=4:=by unfold FM;rw[UP,S];simp
   have v_:Li l (i+1)↔x.kind≠1/\x.kind≠3:=by unfold Li;rw[UP,S];simp
   have step:(x.kind=3->d≠0)->(f=bh->x.kind=1\/x.kind=2)->(x.kind=5->g=bf)->PA l (i+1):=λY V h3=>by
    refine⟨λn hn=>?_,λj hj q=>?_,λj hj q=>?_⟩
    rcases er n (i+1) with z|z
    exact hC.low n aa;rw[show n=i+1 by omega,dr];by_cases bt:x.kind=2;rw[H9 bt];omega;by_cases bV:x.kind=3;have:=Y bV;rw[TV bV];omega;rw[H8 bt bV];omega
    rcases er j i with z|z
    exact hC.fr j z q;obtain rfl:j=i:=aa
    rw[S];exact V (hf.2 q)
    rcases er j i with z|z
    exact hC.fl j z q;obtain rfl:j=i:=aa
    rw[S] at q;intro bt;have:=hg.2 bt;rw[h3 q] at this;cases this
   cases f<;>cases g
   all_goals
    refine qK @bq.eq_1 @l5 @e1 @Ap @r5 ?_
    repeat' ((refine cM (λq=>?_) λq=>?_)<;>(have q':=q)<;>(simp -failIfUnchanged only[qm] at q')<;>(refine e6 @q ?_))
   all_goals first
    |(exfalso;omega)
    |exact agH (bF ⟨i,rfl,Q⟩)
    |exact⟨_,_,_,rfl,d2 aa,aNV,aNW,step (λ_=>aa) (λq=>aM9) (λ_=>aNj),trivial⟩
    |exact⟨_,_,_,rfl,d3 aa,aNV,aNW,step (λ_=>aa) (λq=>aM9) (λ_=>aNj),trivial⟩
    |exact⟨_,_,_,rfl,d0 aa aa,aNV,aNW,step (λ_=>aa) (λq=>aM9) (λ_=>aNj),trivial⟩
 · rintro e h ⟨d,f,g,rfl,hd,hf,hg,hC,rfl⟩
   refine wy ?_;cases f
   all_goals repeat' refine ba (λq'=>?_) λq'=>?_
   all_goals
    exact agH (bD ⟨rfl,λe=>by
     first
      |(cases e;done)
      |exact hC.C8 (λq=>aa) (by rw[show l.length=0 by omega];exact Dm _)
      |exact hC.C8 (λq z=>by cases(hf.2 z)) (by rw[<-hd];simp at e;omega)⟩)
def apc(hv:cD v (l.map nh))(hl:l.length<=1000000000)(i0:Nat)(xN:i0<=l.length):dM G bB 248 [v,.v (.int .i64 (i0:Int))] (adI l i0):=by
 refine en (aBl.go ?_);have ln:=hv.cG;rw[cS] at ln;have l5:∀J,cG v J=a_ (.v (.int .i64 (l.length:Int)),J):=λJ=>aL0
 refine wy ?_;refine c8 (λn e h=>∃d:Int,e=[(0,v),(5,.v (.int .i64 d)),(6,.v (.int .i64 ((i0+n:Nat):Int)))]/\d=gX l i0 n/\(∀t,t<n->gX l i0 (t+1)≠0)/\h=[]) (l.length-i0) ⟨0,rfl,rfl,λt ht=>aa,rfl⟩ ?_ ?_;rintro n e h hn ⟨d,rfl,hd,hI,rfl⟩;obtain⟨x,I⟩:∃x,l[i0+n]?=a_ x:=⟨l[i0+n],cy aa⟩;have e1:ct 5 v (.v (.int .i64 ((i0+n:Nat):Int)))=a_ (.fp x.cells 0):=hv.cB (x:=x.bA) aA rfl;have S:=EL I;have hab:=Wo l i0 n;rw[<-hd] at hab;have dr:=xB l i0 n;rw[S,<-hd] at dr;have d2:x.kind=2->cN.wrap (d+1)=gX l i0 (n+1):=λq=>by rw[dr,H9 q,fq aa aa]
 have d3:x.kind=3->cN.wrap (d-1)=gX l i0 (n+1):=λq=>by rw[dr,TV q,fq aa aa];rfl
 have d0:x.kind≠2->x.kind≠3->d=gX l i0 (n+1):=λq bV=>by rw[dr,H8 q bV];omega
 have fI:cN.wrap (((i0+n:Nat):Int)+1)=((i0+(n+1):Nat):Int):=by rw[jZ aa];rfl
 have Wl:gX l i0 (n+1)≠0->∀t,t<n+1->gX l i0 (t+1)≠0:=λq t ht=>by
  rcases er t n with z|z
  exact hI t z;rw[show t=n by omega];exact q
 have Hu:decide (((i0+n:Nat):Int)<(l.length:Int))=bh:=ah
 by_cases bt:x.kind=2;have:=d2 bt;refine vr @l5 @Hu @e1 @r5 @bt @this ?_;refine dn (λq=>?_) λq=>?_;exact Q5 ⟨aa,λ_=>ak,hI⟩;refine dJ @fI ?_;exact⟨_,rfl,rfl,Wl ak,trivial⟩;have n2:(x.kind==2)=bf:=aX
 by_cases bV:x.kind=3;have:=d3 bV;refine vr @l5 @Hu @e1 @r5 @bV @this ?_;refine dn (λq=>?_) λq=>?_;exact Q5 ⟨aa,λ_=>ak,hI⟩;refine dJ @fI ?_;exact⟨_,rfl,rfl,Wl ak,trivial⟩;have ld:(x.kind==3)=bf:=by simpa using bV
 have:=d0 bt bV;refine vr @l5 @Hu @e1 @r5 @n2 @ld ?_;refine dn (λq=>?_) λq=>?_;exact Q5 ⟨aa,λ_=>by rw[<-this];simpa using q,hI⟩;refine dJ @fI ?_;exact⟨_,rfl,this,Wl (by rw[<-this];simpa using q),trivial⟩;rintro e h ⟨d,rfl,hd,hI,rfl⟩;refine wy ?_;have:=Q5 (J:=[]) (l:=l) (i:=i0) (n:=l.length-i0) ⟨aa,λq=>aa,hI⟩;rw[show i0+(l.length-i0)=l.length by omega] at this;exact this
def atg(hv:cD v (l.map nh))(T:eY v)(hl:l.length<=1000000000)(w:vK l)(R:mO l a b):dM G bB 184 [v,.v (.int .i64 (a:Int)),.v (.int .i64 (b:Int)),.v (.int .i64 3)] (PC l a b 1 (Ai l a b)):=by
 refine en (akw.go ?_);have bK:=R.le;have cX:=R.lt;refine rF ?_;refine qe (n:=b-a) (λm e h=>∃(i c:Nat) (Z:List Nat) (bx:bg),m=b-i/\i<=b/\e=[(0,v),(1,.v (.int .i64 (a:Int))),(2,.v (.int .i64 (b:Int))),(3,.v (.int .i64 3)),(9,bx),(10,.v (.int .i64 (i:Int)))]/\sA l a b 1 i Z c/\(Z.length=1->Ai l a i)/\mN 0 h bx (oE Z) 1 3) ⟨a,a,[a],_,rfl,aa,rfl,sA.start R,λ_ t Y V=>aa,bD rfl⟩ ?_;rintro m e h ⟨i,c,Z,bx,rfl,X3,rfl,hI,hN,hA⟩
 rcases er i b with Q|Q
 obtain⟨x,I⟩:∃x,l[i]?=a_ x:=⟨l[i],cy aa⟩;have e1:ct 5 v (.v (.int .i64 (i:Int)))=a_ (.fp x.cells 0):=hv.cB (x:=x.bA) aA rfl;have S:=EL I;have Jo:=hI.ac;have XM:=hI.ci;have A4:=hI.cn;have EZ:=R.EZ aa Q hI.ti;have ext:∀j,i<=j->(∀t,i<=t->t<j->j5 l a t->kd l t≠4)->Z.length=1->Ai l a j:=λj hj Y V t t1 t2 t3=>by
  rcases er t i with z|z
  exact hN V t t1 z t3;exact Y t z t2 t3
 by_cases fU:x.kind=4;have gv:kd l i=4:=by rw[S,fU]
 have aKz:c≠i:=by intro e;have:=hI.S;rw[e,gv] at this;omega
 obtain⟨p1,p2⟩:=w.prev (i:=i) aa aa aa aa;have pc:=R.piece Jo aa (by omega:i<=b) hI.Fh hI.ti hI.S p1 p2;obtain⟨_,fI⟩:=w.S0 i aa (bF gv);have axS:i+1<b:=by
  rcases er (i+1) b with z|z
  exact z;have:=R.Mb;rw[show b-1=i by omega] at this;exact absurd gv this
 have ty:=hI.ti.succ aa aa aa;have P:=hI.push (y:=i+1) (by rw[UP];exact pc) aa aa aa aa axS fI ty (i+1) (cc _) ty;obtain⟨cl,g,e2,fM,_⟩:=HG (x:=.v (.int .i64 ((i+1:Nat):Int))) (bW:=8) hA (gW _) (Oa Z) rfl ag ag aNQ;refine C_ @e1 @Ap @r5 @fU @Ao @e2 ?_;exact⟨b-(i+1),aa,i+1,i+1,Z++[i+1],cl,rfl,aa,rfl,P,λz=>aMv,aLW⟩;have n4:(x.kind==4)=bf:=aMD
 by_cases bt:x.kind=2;have k2:kd l i=2:=by rw[S,bt]
 refine tv @r5 ?_;refine eo (apc hv hl i aa) ?_;rintro r ⟨n,rfl,Y,V,h3⟩;obtain⟨s1,s2,eA⟩:=R.skip aa Q hI.ti k2 V h3;refine wy ?_;refine⟨b-(i+n+1),aa,i+n+1,c,Z,bx,rfl,aa,rfl,hI.skip aa s2,ext _ aa λt t1 t2 t3=>?_,hA⟩
 rcases er i t with z|z
 exact absurd t3 (eA t z aa);rw[show t=i by omega,k2];decide;have n2:(x.kind==2)=bf:=aX
 refine qK @e1 @Ap @r5 @n4 @n2 ?_;refine⟨b-(i+1),aa,i+1,c,Z,bx,rfl,aa,rfl,hI.skip aa (hI.ti.succ aa (by rw[S];exact bt) EZ),ext _ aa λt t1 t2 t3=>?_,hA⟩;rw[show t=i by omega,S];exact fU;obtain rfl:i=b:=aa
 have A4:=hI.cn;obtain⟨cl,g,e2,fM,_⟩:=HG (x:=.v (.int .i64 (i:Int))) (bW:=8) hA (gW _) (Oa Z) rfl ag ag aNQ;exact wy (anT (Z:=Z++[i]) aLW (hI.done R) ah λz=>hN aN)
def aGJ(hv:cD v (l.map nh))(T:eY v)(hl:l.length<=1000000000)(w:vK l)(R:mO l a b)(nb:Ai l a b):dM G bB 184 [v,.v (.int .i64 (a:Int)),.v (.int .i64 (b:Int)),.v (.int .i64 2)] (PC l a b 0 (Dx l a b)):=by
 refine en (akw.go ?_);have bK:=R.le;have cX:=R.lt;refine wy ?_;refine qe (n:=b-a) (λm e h=>∃(i c:Nat) (Z:List Nat) (bx:bg),m=b-i/\i<=b/\e=[(0,v),(1,.v (.int .i64 (a:Int))),(2,.v (.int .i64 (b:Int))),(3,.v (.int .i64 2)),(9,bx),(10,.v (.int .i64 (i:Int)))]/\sA l a b 0 i Z c/\(c<i\/i=a)/\(Z.length=1->Dx l a i)/\mN 0 h bx (oE Z) 1 3) ⟨a,a,[a],_,rfl,aa,rfl,sA.start R,bF rfl,λ_ t Y V=>aa,bD rfl⟩ ?_;rintro m e h ⟨i,c,Z,bx,rfl,X3,rfl,hI,aKA,hN,hA⟩
 rcases er i b with Q|Q
 obtain⟨x,I⟩:∃x,l[i]?=a_ x:=⟨l[i],cy aa⟩;have e1:ct 5 v (.v (.int .i64 (i:Int)))=a_ (.fp x.cells 0):=hv.cB (x:=x.bA) aA rfl;have S:=EL I;have Jo:=hI.ac;have XM:=hI.ci;have A4:=hI.cn;have EZ:=R.EZ aa Q hI.ti;have ext:∀j,i<=j->(∀t,a<t->i<=t->t<j->j5 l a t->kd l t≠1/\kd l t≠2)->Z.length=1->Dx l a j:=λj hj Y V t t1 t2 t3=>by
  rcases er t i with z|z
  exact hN V t t1 z t3;exact Y t t1 z t2 t3
 have cut:a<i->(kd l i=1\/kd l i=2)->∀j,i+1<=j->j5 l a j->sA l a b 0 j (Z++[i]) i:=λY V j hj OP=>by
  have pr:j5 l a (i-1)->kd l (i-1)≠4:=λq=>nb _ aa aa q;have di:gX l a (i-a)=gX l a (i-1-a)+yj (kd l (i-1)):=by
   rw[show i-a=i-1-a+1 by omega,xB,show a+(i-1-a)=i-1 by omega]
  have ti:=hI.ti;unfold j5 at ti pr;have p2:kd l (i-1)≠2:=λq=>by
   rw[H9 q] at di;have:=R.low (i-1-a) aa;omega
  have jA:kd l (i-1)≠4:=λq=>by
   rw[H8 aa aa] at di;exact pr aa q
  exact hI.push (y:=i) (R.piece Jo aa X3 hI.Fh hI.ti hI.S p2 jA) (gW _) aa Y aa Q V hI.ti j hj OP
 have aoZ:=apc (G:=G) hv hl i aa;obtain⟨cl,g,e2,fM,_⟩:=HG (x:=.v (.int .i64 (i:Int))) (bW:=8) hA (gW _) (Oa Z) rfl ag ag aNQ;have rT:mN 0 g cl (oE (Z++[i])) 1 3:=aLW
 by_cases bt:x.kind=2;have k2:kd l i=2:=by rw[S,bt]
 rcases er a i with hai|hai
 refine iD @r5 ?_;refine eo aoZ ?_;rintro r ⟨n,rfl,Y,V,h3⟩;obtain⟨s1,s2,eA⟩:=R.skip aa Q hI.ti k2 V h3;refine wy ?_;exact⟨b-(i+n+1),aa,i+n+1,i,Z++[i],cl,rfl,aa,rfl,cut hai (bF k2) _ aa s2,bD aa,λz=>aMv,rT⟩;refine Db @r5 ?_;refine eo aoZ ?_;rintro r ⟨n,rfl,Y,V,h3⟩;obtain⟨s1,s2,eA⟩:=R.skip aa Q hI.ti k2 V h3;refine rF ?_;refine⟨b-(i+n+1),aa,i+n+1,c,Z,bx,rfl,aa,rfl,hI.skip aa s2,bD aa,ext _ aa λt t0 t1 t2 t3=>?_,hA⟩;exact absurd t3 (eA t aa aa);have n2:(x.kind==2)=bf:=aX
 have ts:=hI.ti.succ aa (by rw[S];exact bt) EZ;by_cases q1:x.kind=1;have k1:kd l i=1:=by rw[S,q1]
 rcases er a i with hai|hai
 have GD:decide ((a:Int)<(i:Int))=bh:=lR hai;refine pH @e1 @Ap @r5 @q1 @GD @Ao @e2 ?_;exact⟨b-(i+1),aa,i+1,i,Z++[i],cl,rfl,aa,rfl,cut hai (bD k1) _ aa ts,bD aa,λz=>aMv,rT⟩;have GD:decide ((a:Int)<(i:Int))=bf:=q2 hai;refine qK @e1 @Ap @r5 @q1 @GD ?_;exact⟨b-(i+1),aa,i+1,c,Z,bx,rfl,aa,rfl,hI.skip aa ts,bD aa,ext _ aa λt t0 t1 t2 t3=>aa,hA⟩;have n1:(x.kind==1)=bf:=aMz
 have fin:∃m,m<b-i/\∃(i' c:Nat) (Z:List Nat) (ju:bg),m=b-i'/\i'<=b/\[(0,v),(1,cR (.int .i64 (a:Int))),(2,cR (.int .i64 (b:Int))),(3,cR (.int .i64 2)),(9,bx),(10,cR (.int .i64 ((i+1:Nat):Int)))]=[(0,v),(1,cR (.int .i64 (a:Int))),(2,cR (.int .i64 (b:Int))),(3,cR (.int .i64 2)),(9,ju),(10,cR (.int .i64 (i':Int)))]/\sA l a b 0 i' Z c/\(c<i'\/i'=a)/\(Z.length=1->Dx l a i')/\mN 0 h ju (oE Z) 1 3:=
  ⟨b-(i+1),aa,i+1,c,Z,bx,rfl,aa,rfl,hI.skip aa ts,bD aa,ext _ aa λt t0 t1 t2 t3=>by rw[show t=i by omega,S];exact⟨q1,bt⟩,hA⟩
 rcases er a i with hai|hai
 have GD:decide ((a:Int)<(i:Int))=bh:=lR hai;exact nI @e1 @r5 @n1 @n2 @GD fin;have GD:decide ((a:Int)<(i:Int))=bf:=q2 hai;exact nI @e1 @r5 @n1 @n2 @GD fin;obtain rfl:i=b:=aa
 have A4:=hI.cn;obtain⟨cl,g,e2,fM,_⟩:=HG (x:=.v (.int .i64 (i:Int))) (bW:=8) hA (gW _) (Oa Z) rfl ag ag aNQ;exact wy (anT (Z:=Z++[i]) aLW (hI.done R) ah λz=>hN aN)
end
end
section
variable{ps:List cT}{p:cT}{a b c d v x:bg}{g J:List br}{K:Nat}
def cT.xm(i:Nat)(p:cT):Prop:=((p.kind=1/\p.name.length<=12/\p.kids=[])\/((p.kind=2\/p.kind=3)/\2<=p.kids.length)\/(p.kind=4/\p.kids.length=1/\Ix p.low p.high))/\∀x∈p.kids,0<=x/\x<(i:Int)
def yJ(ps:List cT):Prop:=∀(i:Nat) p,ps[i]?=a_ p->p.xm i
def yJ.push(h:yJ ps)(J:p.xm ps.length):yJ (ps++[p]):=by
 intro i q hq
 rcases Nat.lt_trichotomy i ps.length with c|c|c
 rw[fY c] at hq;exact h i q hq;subst c;simp at hq;rw[<-hq];exact J;rw[j4 ah] at hq;cases hq
def aE_(h:yJ ps):yJ (ps.map cT.cH):=by
 intro i p J;rw[e9] at J;cases hq:ps[i]? with
 |none=>rw[hq] at J;cases J
 |some q=>
  rw[hq] at J;cases J;exact h i q hq
def aEv:br->Prop
 |.tok _ _ e=>e≠202
 |_=>True
def Ad(J bl:List br):Prop:=J.length<=bl.length/\∀(j:Nat) b,aEv b->J[j]?=a_ b->bl[j]?=a_ b
def Ad.refl(J:List br):Ad J J:=⟨cc _,λ_ _ _ h=>h⟩
def Ad.trans{a b c:List br}(h:Ad a b)(q:Ad b c):Ad a c:=⟨iz h.1 q.1,λj x hn e=>q.2 j x hn (h.2 j x hn e)⟩
def apQ{dz:List cT}:∀{i:Nat} {st:List Int},i<=ps.length->qI ps i st->qI (ps++dz) i st
 |0,_,_,h=>h
 |i+1,_,Q,⟨p,rB,Y,V,h3⟩=>⟨p,rB,by rw[fY aa];exact Y,apQ aa V,h3⟩
def abz{st:List Int}(h:qI ps ps.length (st++p.kids)):qI (ps++[p]) (ps++[p]).length (st++[(((ps++[p]).length-1:Nat):Int)]):=by
 rw[ek,qg,UP];exact⟨p,st,af,apQ (cc _) h,rfl⟩
def apR:∀{i:Nat} {st:List Int},qI ps i st->qI (ps.map cT.cH) i st
 |0,_,h=>h
 |i+1,_,⟨p,rB,Y,V,h3⟩=>⟨p.cH,rB,by rw[e9,Y];rfl,apR V,h3⟩
def ac5(ps:List cT)(m:Nat)(J:List br)(r:bg)(bl:List br):Prop:=∃dz:List cT,dz≠[]/\dz.length+1<=2*m/\de bl r ((ps++dz).map su) 5 202/\yJ (ps++dz)/\Ad J bl/\∀st,qI ps ps.length st->qI (ps++dz) (ps++dz).length (st++[(((ps++dz).length-1:Nat):Int)])
def aa0(hA:de J v (ps.map su) 5 202)(hn:ps.length<=4000000000)(p:cT):
  ∃v' g,ei J 5 64 202 v (.sl [p.bA] .exact)=a_ (v',g)/\de g v' ((ps++[p]).map su) 5 202/\Ad J g:=by
 obtain⟨cl,g,e1,fM,_,h3,h4⟩:=nv (x:=p.bA) (bW:=64) hA (aaf ps) (Kh p) ag ag ah;refine⟨cl,g,e1,aLX,h3,λj b O hj=>h4 j b hj λxs q=>?_⟩
 rcases hA with⟨z,_⟩|⟨id,b9,z2⟩
 rw[z] at q;cases q;rw[b9] at q;cases q;rw[hj] at z2;cases z2;exact O rfl
@[go_sem]def apM{y:bg}(S:g[K]?=a_ (.cells [a,b,c,d,x] bf))(Y:cu y=bh)(V:y.cells=[y]):bL g 1 (.mp K 4) y=a_ (g.set K (.cells [a,b,c,d,y] bf)):=by
 simp only[bL,S,fD];rw[V];simp[d_,Y]
@[go_sem]def amm(S:g[K]?=a_ (.cells [a,b,c,d,x] bf))(Y:cu x=bh):bz g bf 1 (.mp K 4)=a_ x:=by
 simp only[bz,S];rfl
@[go_sem]def al_(S:g[K]?=a_ (.cells [a,b,c,d,x] bf)):bz g bh 5 (.mp K 0)=a_ (.agg [a,b,c,d,x]):=by
 simp only[bz,S];rfl
def PK(B:Nat)(J:List br)(v:bg)(xs:List bg):Prop:=(v=.bp/\xs=[])\/∃id,v=.sl xs (.tok id)/\B<=id/\J[id]?=a_ (.tok xs.length 1 3)
def aCh{B:Nat}{xs:List bg}(hA:PK B J v xs)(hB:B<=J.length)(I:cY 1 xs=bh)(hy:cY 1 [x]=bh)(hfit:(xs.length+1)*8<=140737488355328):
  ∃v' bl,ei J 1 8 3 v (.sl [x] .exact)=a_ (v',bl)/\PK B bl v' (xs++[x])/\J.length<=bl.length/\cu v'=bh/\v'.cells=[v']/\∀(j:Nat) b,J[j]?=a_ b->(∀xs,v≠.sl xs (.tok j))->bl[j]?=a_ b:=by
 rcases hA with⟨rfl,rfl⟩|⟨id,rfl,hid,S⟩
 refine⟨.sl ([]++[x]) (.tok J.length),J++[.tok 1 1 3],?_,bF ⟨J.length,rfl,hB,af⟩,af,rfl,rfl,λj b h _=>bS h⟩;simp only[ei,gR,iA,iq,hy];simp;have hl:id<J.length:=gl S;refine⟨.sl (xs++[x]) (.tok id),J.set id (.tok (xs.length+1) 1 3),?_,bF ⟨id,rfl,hid,aMh⟩,af,rfl,rfl,λj b h bP=>?_⟩;simp[ei,gR,iA,iq,hy,hfit,I,S];rw[bE (λq=>bP xs aL2)];exact h
structure ac6(l:List dL)(ps:List cT)(hU:Int)(a b K k c:Nat)(Z:List Nat)(J:List br)(rv kv:bg)(dz:List cT)(kids:List Int)(h:List br):Prop where
 blk:h[K]?=a_ (.cells [bq hU,bq 0,bq 0,bu [],kv] bf)
 alY:PK K h kv (kids.map bq)
 kl:kids.length=k
 al4:∀x∈kids,0<=x/\x<((ps++dz).length:Nat)
 row:de h rv ((ps++dz).map su) 5 202
 ok:yJ (ps++dz)
 lB:Ad J h
 at_:Z[k]?=a_ c
 ac:a<=c
 cb:c<=b
 cnt:dz.length+k<=2*(c-a)
 stk:∀st,qI ps ps.length st->qI (ps++dz) (ps++dz).length (st++kids)
section
variable{G:Cells}{v:bg}{l:List dL}
@[go_sem]def amk(x:dL)(J:List br):bz J bf 1 (.fp x.cells 2)=a_ (.v (.int .i64 x.low)):=rfl
@[go_sem]def amj(x:dL)(J:List br):bz J bf 1 (.fp x.cells 3)=a_ (.v (.int .i64 x.high)):=rfl
@[go_sem]def aml(x:dL)(J:List br):bz J bf 1 (.fp x.cells 4)=a_ (bu x.name):=rfl
def atx(hv:cD v (l.map nh))(T:eY v)(fN:∀x∈l,x.xm)(hl:l.length<=1000000000)(w:vK l):∀(m a b:Nat),b-a<=m->mO l a b->∀(ps:List cT) (bx:bg) (J:List br),de J bx (ps.map su) 5 202->yJ ps->ps.length+2*(b-a)<=4000000000->
  cw G bB 108 [bx,v,.v (.int .i64 (a:Int)),.v (.int .i64 (b:Int))] J (ac5 ps (b-a) J):=by
 have Jy:∀i,i<l.length->1<=kd l i/\kd l i<=5:=λi Q=>by
  have I:l[i]?=a_ l[i]:=cy Q;rw[EL I];have:=fN _ (cv I);exact⟨this.1,this.2.1⟩
 intro m
 induction m with
 |zero=>intro a b h R;have:=R.lt;omega
 |succ m ih=>
  intro a b hm R ps bx J hA iU dF;have cX:=R.lt;have bK:=R.le;refine aAz.go ?_;refine wy ?_;refine c8 (λk e h=>∃hU:Int,e=[(0,bx),(1,v),(2,.v (.int .i64 (a:Int))),(3,.v (.int .i64 (b:Int))),(9,.v (.int .i64 hU))]/\h=J/\((k=0/\hU=3)\/(k=1/\hU=2/\Ai l a b)\/(k=2/\hU=1/\Ai l a b/\Dx l a b))) 2 ⟨3,rfl,rfl,bD ⟨rfl,rfl⟩⟩ ?_ ?_;rintro i e h Q ⟨hU,rfl,rfl,hI⟩;obtain⟨e,X,sp,hX,ai9⟩:∃(e:Nat) (X:Prop),dM G bB 184 [v,.v (.int .i64 (a:Int)),.v (.int .i64 (b:Int)),.v (.int .i64 hU)] (PC l a b e X)/\(X->((i+1=0/\hU-1=3)\/(i+1=1/\hU-1=2/\Ai l a b)\/(i+1=2/\hU-1=1/\Ai l a b/\Dx l a b)))/\((hU=3/\e=1)\/(hU=2/\e=0)):=by
   rcases hI with⟨rfl,rfl⟩|⟨rfl,rfl,nb⟩|⟨rfl,_⟩
   exact⟨1,_,atg hv T hl w R,λx=>bF (bD ⟨rfl,rfl,x⟩),bD ⟨rfl,rfl⟩⟩;exact⟨0,_,aGJ hv T hl w R nb,λx=>bF (bF ⟨rfl,rfl,nb,x⟩),bF ⟨rfl,rfl⟩⟩;omega
  have c2:decide ((2:Int)<=hU)=bh:=ah
  have w1:cN.wrap (hU-1)=hU-1:=fq aa aa;refine wy ?_;refine eo sp ?_;rintro r ⟨Z,rfl,hP,jF,Xx⟩;have Zo:∀g,cG (.sl (oE Z) .no) g=a_ (.v (.int .i64 (Z.length:Int)),g):=λg=>by
   rw[pq];simp[oE,j9]
  have aKt:=hP.two;refine wy (cM (λq=>?_) λq=>?_);refine wx ?_;exact⟨hU-1,rfl,trivial,by simpa using hX (Xx aq)⟩;have aKC:3<=Z.length:=aq
  have f1:dN [.v (.int .i64 0),.v (.int .i64 0),.v (.int .i64 0),.v (.string ⟨[].toArray⟩),.bp] [(0,1,.v (.int .i64 hU))]=a_ (rI ⟨hU,0,0,[],[],.no⟩):=rfl;have s1:=zL h ⟨hU,0,0,[],[],.no⟩;have Xj:de (h++[.cells (rI ⟨hU,0,0,[],[],.no⟩) bf]) bx (ps.map su) 5 202:=by
   rcases hA with z|⟨id,b9,z2⟩
   exact bD z;exact bF ⟨id,b9,bS z2⟩
  have b1:Ad h (h++[.cells (rI ⟨hU,0,0,[],[],.no⟩) bf]):=⟨af,λj b _ q=>bS q⟩;obtain⟨c0,Ec⟩:∃c,Z[0]?=a_ c:=⟨Z[0],cy aa⟩;refine wy ?_;refine qe (n:=Z.length) (λm e g=>∃(k c:Nat) (rv kv:bg) (dz:List cT) (kids:List Int),m=Z.length-k/\k+1<=Z.length/\e=[(0,rv),(1,v),(9,.v (.int .i64 hU)),(10,.sl (oE Z) .no),(11,.mp h.length 0),(12,.v (.int .i64 (k:Int)))]/\ac6 l ps hU a b h.length k c Z h rv kv dz kids g) ⟨0,c0,bx,.bp,[],[],rfl,aa,rfl,by rw[gh (cc _),ni];rfl,bD ⟨rfl,rfl⟩,rfl,af,by rw[gV];exact Xj,by rw[gV];exact iU,b1,Ec,(hP.ki _ (cv Ec)).1,(hP.ki _ (cv Ec)).2,af,λst hs=>by rw[gV,gV];exact hs⟩ ?_;rintro m e g ⟨k,c,rv,kv,dz,kids,rfl,gZ,rfl,hB⟩;have Jo:=hB.ac;have XK:=hB.cb;have Eg:=hB.cnt;have aKq:h.length<g.length:=gl hB.blk
  rcases er (k+1) Z.length with hk2|hk2
  · obtain⟨y,hy⟩:=cO hk2
    have R_:=hP.ki y (cv hy);have WQ:ct 1 (.sl (oE Z) .no) (.v (.int .i64 ((k+1:Nat):Int)))=a_ (.fp [.v (.int .i64 (y:Int))] 0):=lN (x:=.v (.int .i64 (y:Int))) (by simp[oE,hy]) rfl;have ex:ct 1 (.sl (oE Z) .no) (.v (.int .i64 (k:Int)))=a_ (.fp [.v (.int .i64 (c:Int))] 0):=lN (x:=.v (.int .i64 (c:Int))) (by simp[oE,hB.at_]) rfl;obtain⟨mQ,hR,hs,aKF,h3⟩:∃mQ:Nat,mO l c mQ/\mQ-c<b-a/\mQ<=y/\(((hU==3)=bh/\k+2<Z.length/\cN.wrap ((y:Int)-1)=(mQ:Int))\/((hU==3)=bh/\Z.length<=k+2/\0<Z.length/\mQ=y)\/((hU==3)=bf/\0<Z.length/\0<Z.length/\mQ=y)):=by
     rcases er (k+2) Z.length with z|z
     obtain⟨g1,g2,g3⟩:=hP.seg k c y hB.at_ hy z
     rcases ai9 with⟨rfl,rfl⟩|⟨rfl,rfl⟩
     exact⟨y-1,g1,g3,aa,bD ⟨rfl,z,K0 aa aa⟩⟩;exact⟨y,g1,g3,cc _,bF (bF ⟨rfl,aa,aa,rfl⟩)⟩;obtain⟨g1,g2⟩:=hP.fin k c y hB.at_ hy aa
     rcases ai9 with⟨rfl,rfl⟩|⟨rfl,rfl⟩
     exact⟨y,g1,g2 aa,cc _,bF (bD ⟨rfl,z,aa,rfl⟩)⟩;exact⟨y,g1,g2 aa,cc _,bF (bF ⟨rfl,aa,aa,rfl⟩)⟩
    have nD:=hR.lt;have Ee:=ih c mQ aa hR (ps++dz) rv g hB.row hB.ok aMf;have step:∀(r:bg) (g2:List br),ac5 (ps++dz) (mQ-c) g r g2->∃(N:Nat) (cl:bg) (g3:List br) (ts:List cT),cG r g2=a_ (.v (.int .i64 (N:Int)),g2)/\cN.wrap ((N:Int)-1)=((N-1:Nat):Int)/\bz g2 bf 1 (.mp h.length 4)=a_ kv/\ei g2 1 8 3 kv (.sl [.v (.int .i64 ((N-1:Nat):Int))] .exact)=a_ (cl,g3)/\bL g3 1 (.mp h.length 4) cl=a_ (g3.set h.length (.cells [bq hU,bq 0,bq 0,bu [],cl] bf))/\ac6 l ps hU a b h.length (k+1) y Z h r cl (dz++ts) (kids++[((N-1:Nat):Int)]) (g3.set h.length (.cells [bq hU,bq 0,bq 0,bu [],cl] bf)):=by
     rintro r g2 ⟨ts,xT,Nn,fM,Ew,O,e8⟩;have ln:=F1 fM;rw[cS] at ln;have k1:=O.2 _ _ (by exact trivial) hB.blk;have ND:PK h.length g2 kv (kids.map bq):=by
      rcases hB.alY with z|⟨id,b9,z2,z3⟩
      exact bD z;exact bF ⟨id,b9,z2,O.2 _ _ (by show(3:Nat)≠202;decide) z3⟩
     have aLH:=Is.2 xT;have hN:(ps++dz++ts).length=ps.length+dz.length+ts.length:=ah
     obtain⟨cl,g3,p1,p2,p3,po,pc,jA⟩:=aCh (x:=.v (.int .i64 (((ps++dz++ts).length-1:Nat):Int))) ND (by have:=O.1;omega) (HD kids) rfl (by simp;have:=hB.kl;omega);have k2:=jA _ _ k1 (λxs q=>by
      rcases ND with⟨z,_⟩|⟨id,b9,_,z2⟩
      rw[z] at q;cases q;rw[b9] at q;cases q;rw[k1] at z2;cases z2)
     have aF0:de g3 r ((ps++dz++ts).map su) 5 202:=by
      rcases fM with z|⟨id,b9,z2⟩
      exact bD z;refine bF ⟨id,b9,jA _ _ z2 λxs q=>?_⟩
      rcases ND with⟨z,_⟩|⟨azm,y1,_,fR⟩
      rw[z] at q;cases q;rw[y1] at q;cases q;rw[z2] at fR;simp at fR
     have Rs:=gl k2;have dU:cu kv=bh:=by
      rcases ND with⟨rfl,_⟩|⟨id,rfl,_⟩<;>rfl
     refine⟨(ps++dz++ts).length,cl,g3,ts,ln _,K0 aa aa,amm k1 dU,p1,apM k2 po pc,?_⟩;refine⟨bT Rs,?_,by simp[hB.kl],?_,?_,?_,?_,hy,R_.1,R_.2,?_,λst hs=>by rw[<-dQ,<-dQ];exact e8 _ (hB.stk st hs)⟩;rw[gC]
     rcases p2 with z|⟨id,b9,z2,z3⟩
     exact bD z;refine bF ⟨id,b9,z2,?_⟩;rw[bE (λq=>by subst q;rw[k2] at z3;cases z3)];exact z3;intro x I;rw[<-dQ,hN]
     rcases fA.1 I with z|z
     have:=hB.al4 x z;rw[ek] at this;omega;rw[dW.1 z,hN];omega;rw[<-dQ];exact j7 aF0 k2;rw[<-dQ];exact Ew;refine⟨by have:=hB.lB.1;have:=O.1;simp;omega,λj b iC hj=>?_⟩;have lW:=gl hj;rw[bE aa];refine jA _ _ (O.2 _ _ iC (hB.lB.2 _ _ iC hj)) λxs q=>?_
     rcases ND with⟨z,_⟩|⟨azm,y1,y0,fR⟩
     rw[z] at q;cases q;rw[y1] at q;cases q;omega;rw[ek];omega
    rcases h3 with⟨t1,t2,t3⟩|⟨t1,t2,t3,rfl⟩|⟨t1,t2,t3,rfl⟩
    all_goals
     refine wy (cm Ee ?_);intro r g2 D;obtain⟨N,cl,g3,ts,u1,u2,u3,u4,aLL,aIB⟩:=step r g2 D;refine wy ?_;exact⟨Z.length-(k+1),aa,k+1,_,r,cl,dz++ts,kids++[((N-1:Nat):Int)],rfl,aa,rfl,aIB⟩
  have e7:=hB.kl;obtain⟨id,rfl,_,_⟩:∃id,kv=.sl (kids.map bq) (.tok id)/\True/\True:=by
   rcases hB.alY with⟨_,z⟩|⟨id,z,_⟩
   have:kids=[]:=aN
   rw[this] at e7;simp at e7;omega;exact⟨id,z,trivial,trivial⟩
  have p5:[bq hU,bq 0,bq 0,bu [],.sl (kids.map bq) (.tok id)]=rI ⟨hU,0,0,[],kids,.tok id⟩:=by
   cases kids with
   |nil=>simp at e7;omega
   |cons x r=>rfl
  have aye:=al_ hB.blk;rw[p5] at aye;obtain⟨v',g2,p1,p2,p3⟩:=aa0 hB.row aMf ⟨hU,0,0,[],kids,.tok id⟩;have ab:=LG ⟨hU,0,0,[],kids,.tok id⟩;unfold su at ab p1;refine wy ?_;refine⟨dz++[⟨hU,0,0,[],kids,.tok id⟩],af,ah,by rw[<-dQ];exact p2,?_,hB.lB.trans p3,λst hs=>by rw[<-dQ];exact abz (p:=⟨hU,0,0,[],kids,.tok id⟩) (hB.stk st hs)⟩;rw[<-dQ];exact hB.ok.push ⟨bF (bD ⟨by show hU=2\/hU=3;omega,by show 2<=kids.length;omega⟩),hB.al4⟩;rintro e h ⟨hU,rfl,rfl,hI⟩;obtain⟨rfl,nb,ns⟩:hU=1/\Ai l a b/\Dx l a b:=by
   rcases hI with⟨z,_⟩|⟨z,_⟩|⟨_,z⟩
   omega;omega;exact z
  obtain⟨x,I⟩:∃x,l[b-1]?=a_ x:=⟨l[b-1],cy aa⟩;obtain⟨y,hy⟩:∃x,l[a]?=a_ x:=⟨l[a],cy aa⟩;have e1:ct 5 v (.v (.int .i64 ((b-1:Nat):Int)))=a_ (.fp x.cells 0):=hv.cB (x:=x.bA) aA rfl;have e2:ct 5 v (.v (.int .i64 (a:Int)))=a_ (.fp y.cells 0):=hv.cB (x:=y.bA) aT rfl;have RN:=EL I;have ax8:=EL hy;have EG:=fN x (cv I);have Nt:=fN y (cv hy);have atE:decide ((2:Int)<=1)=bf:=ag
  have wb:cN.wrap ((b:Int)-1)=((b-1:Nat):Int):=K0 aa aa;by_cases iN:x.kind=5;have D:=ih a (b-1) aa (R.aIH w (by rw[RN];exact iN)) ps bx h hA iU aa;refine iD @r5 (cm D ?_);rintro r g ⟨dz,R1,aiM,fM,Ew,O,e8⟩;have ln:=F1 fM;rw[cS] at ln;have rZ:0<(ps++dz).length:=by rw[ek];have:=Is.2 R1;omega
  have ai0:(ps++dz).length<=4000000000:=aMf
  obtain⟨v',g2,p1,p2,p3⟩:=aa0 fM ai0 ⟨4,x.low,x.high,[],[(((ps++dz).length-1:Nat):Int)],.exact⟩;have wl:cN.wrap (((ps++dz).length:Int)-1)=(((ps++dz).length-1:Nat):Int):=K0 aa aa;have f4:dN [.v (.int .i64 0),.v (.int .i64 0),.v (.int .i64 0),.v (.string ⟨[].toArray⟩),.bp] [(0,1,.v (.int .i64 4)),(1,1,.v (.int .i64 x.low)),(2,1,.v (.int .i64 x.high)),(4,1,.sl [.v (.int .i64 (((ps++dz).length-1:Nat):Int))] .exact)]=a_ (rI ⟨4,x.low,x.high,[],[(((ps++dz).length-1:Nat):Int)],.exact⟩):=rfl;have ab:=LG ⟨4,x.low,x.high,[],[(((ps++dz).length-1:Nat):Int)],.exact⟩;unfold su at ab p1;generalize hN:(ps++dz).length=N at ln wl f4 ab p1 p2 rZ ai0;refine qK (eI @wb @e1 @Ap @amk) (eI @amj @ln @wl @Ao) @f4 @ab @p1 ?_;refine⟨dz++[⟨4,x.low,x.high,[],[((N-1:Nat):Int)],.exact⟩],af,ah,by rw[<-dQ];exact p2,?_,O.trans p3,λst hs=>by rw[<-dQ];exact abz (p:=⟨4,x.low,x.high,[],[((N-1:Nat):Int)],.exact⟩) (by have:=e8 st hs;rw[hN] at this⊢;exact this)⟩;rw[<-dQ];refine Ew.push ⟨bF (bF ⟨rfl,rfl,EG.2.2.2 iN⟩),λz hz=>?_⟩;rw[dW.1 (show z∈[((N-1:Nat):Int)] from hz),hN];omega;have jI:(x.kind==5)=bf:=by simpa using iN
  by_cases bt:y.kind=2;have D:=ih (a+1) (b-1) aa (R.inner w Jy nb ns (by rw[ax8];exact bt) (by rw[RN];exact iN)) ps bx h hA iU aa;refine iD @r5 (cm D ?_);rintro r g ⟨dz,R1,aiM,fM,Ew,O,e8⟩;refine wy ?_;exact⟨dz,R1,aa,fM,Ew,O,e8⟩;have n2:(y.kind==2)=bf:=aX
  obtain⟨v',g2,p1,p2,p3⟩:=aa0 hA aa ⟨1,0,0,y.name,[],.no⟩;have f4:dN [.v (.int .i64 0),.v (.int .i64 0),.v (.int .i64 0),.v (.string ⟨[].toArray⟩),.bp] [(0,1,.v (.int .i64 1)),(3,1,bu y.name)]=a_ (rI ⟨1,0,0,y.name,[],.no⟩):=rfl;have ab:=LG ⟨1,0,0,y.name,[],.no⟩;unfold su at ab p1;refine jB (eI @atE @wb @e1 @e2) (eI @Ap @r5 @aml @jI) (eI @n2 @f4 @ab @p1) ?_;refine⟨[⟨1,0,0,y.name,[],.no⟩],af,ah,p2,?_,p3,λst hs=>abz (p:=⟨1,0,0,y.name,[],.no⟩) (by rw[gV];exact hs)⟩;exact iU.push ⟨bD ⟨rfl,Nt.2.2.1,rfl⟩,λz hz=>by cases hz⟩
end
structure yG(n:Nat)(v:bg)(ps:List cT):Prop where
 v:cD v (ps.map su)
 ok:yJ ps
 len:ps.length<=2*n
 top:ps=[]\/∃x,qI ps ps.length [x]
 no:∀p∈ps,p.tail=.no
def adw(n:Nat)(r:bg):Prop:=∃(v:bg) (ps:List cT) (p e:Int),r=.bQ [v,.v (.int .i64 p),.v (.int .i64 e)]/\yG n v ps
def anW{G:Cells}(s:List UInt8)(hs:s.length<=1000000000):dM G bB 60 [bu s] (adw s.length):=by
 refine en (aAd.go ?_);have bad:∀(J:List br) (p e:Int),∃k bR,dh J k (.bQ [.bp,.v (.int .i64 p),.v (.int .i64 e)])=a_ bR/\adw s.length bR:=λJ p e=>by
  obtain⟨k,S⟩:=(fy (bG eB (bG (bH (.int .i64 p)) (bG (bH (.int .i64 e)) c_))):b_ J _ _).done;exact⟨k,_,S,.bp,[],p,e,rfl,bF ⟨rfl,rfl⟩,λi p h=>au,gW _,bD rfl,af⟩
 refine wy ?_;refine eo (aC8 s hs) ?_;rintro r ⟨v,l,p,e,rfl,hv,hl,fN⟩;have T:eY v:=by
  rcases hv with rfl|⟨rfl,_⟩
  exact k4 Wg;exact nA
 have ln:=hv.cG;rw[cS] at ln;refine wy (cM (λq=>?_) λq=>?_);exact dJ @q (bad _ _ _);refine wy ?_;refine eo (atP hv aa) ?_;rintro r ⟨p2,b2,rfl,hK⟩;refine wy (cM (λbt=>?_) λbt=>?_)
 rcases hK with⟨rfl,_⟩|⟨i,rfl,Q⟩
 simp at bt;obtain⟨x,I⟩:=cO Q;have e1:ct 5 v (.v (.int .i64 (i:Int)))=a_ (.fp x.cells 0):=hv.cB (x:=x.bA) aA rfl;have e2:∀J,bz J bf 1 (.fp x.cells 1)=a_ (.v (.int .i64 x.at_)):=λJ=>rfl;exact fu @bt @e1 @e2 (bad _ _ _);cases b2 with
 |true=>
  exact dJ @bt (bad _ _ _)
 |false=>
  have hW:vK l:=by
   rcases hK with⟨rfl,h⟩|⟨i,rfl,Q⟩
   exact h rfl;simp at bt
  refine wy ?_;refine dn (λbV=>?_) λbV=>?_;exact bad _ _ _;have h0:0<l.length:=by simp at bV;exact Is.2 bV
  have Jy:∀i,i<l.length->1<=kd l i/\kd l i<=5:=λi Q=>by
   have I:l[i]?=a_ l[i]:=cy Q;rw[EL I];have:=fN _ (cv I);exact⟨this.1,this.2.1⟩
  refine wy (cm (atx hv T fN aa hW l.length 0 l.length aa (hW.all Jy h0) [] .bp _ (tA _ _ _) (λi p h=>au) ah) ?_);rintro r g ⟨dz,R1,aiM,fM,Ew,O,e8⟩;refine wy ?_;have Ct:=e8 [] rfl;rw[gM] at fM Ew Ct
  rcases fM with⟨rfl,z⟩|⟨id,rfl,_⟩
  exact bad _ _ _;obtain⟨k,S⟩:=(fy (bG (hD (t:=.tok id) (fC.SD λa _=>W7 g a)) (bG (bH (.int .i64 0)) (bG (bH (.int .i64 0)) c_))):b_ g (.bQ [.sl (dz.map su) (.tok id),.v (.int .i64 0),.v (.int .i64 0)]) (.bQ [.sl (dz.map λp=>p.cH.bA) .no,.v (.int .i64 0),.v (.int .i64 0)])).done;refine⟨k,_,S,.sl (dz.map λp=>p.cH.bA) .no,dz.map cT.cH,0,0,rfl,bD ?_,aE_ Ew,ah,bF ⟨_,by rw[cS];exact apR Ct⟩,λp J=>?_⟩;rw[yz];rfl;obtain⟨q,_,rfl⟩:=dV.1 J;rfl
end
section
variable{a b:List UInt8}{bx v:bg}{l:List dL}{ps:List cT}{p:cT}{n:Nat}{t:nR}{h:List br}
@[go_sem]def ad4(h:a.length+b.length<=1000):dR .add (.v (.string ⟨a.toArray⟩)) (bu b)=a_ (bu (a++b)):=vM (a:=a) aa
@[go_sem]def IT(h:a.length+b.length<=1000000000):dR .add (bu a) (.v (.string ⟨b.toArray⟩))=a_ (bu (a++b)):=vM (b:=b) aa
section
variable{G:Cells}
def aIe(lo Q:Int):dM G bB 311 [.v (.int .i64 lo),.v (.int .i64 Q)] (Am 60):=by
 refine en (aBz.go ?_);refine rF ?_
 repeat' refine ba (λq'=>?_) λq'=>?_
 all_goals first
  |(exfalso;omega)
  |exact sQ (t:=[42]) ag
  |exact sQ (t:=[43]) ag
  |exact sQ (t:=[63]) ag
  |(refine eo (abd lo) ?_
    rintro r ⟨t,rfl,ht⟩;have a1:dR .add (.v (.string ⟨[123].toArray⟩)) (bu t)=a_ (bu ([123]++t)):=ad4 ah;have a2:dR .add (bu ([123]++t)) (.v (.string ⟨[125].toArray⟩))=a_ (bu ([123]++t++[125])):=IT ah;have a3:dR .add (bu ([123]++t)) (.v (.string ⟨[44,125].toArray⟩))=a_ (bu ([123]++t++[44,125])):=IT ah;have a4:dR .add (bu ([123]++t)) (.v (.string ⟨[44].toArray⟩))=a_ (bu ([123]++t++[44])):=IT ah;refine e6 @a1 ?_
    repeat' ((refine cM (λq=>?_) λq=>?_)<;>(have q':=q)<;>(simp -failIfUnchanged only[qm] at q')<;>(refine mH @a2 @a3 @a4 @q ?_))
    all_goals first
     |(exfalso;omega)
     |exact sQ (t:=[123]++t++[125]) (by simp only[ek,eZ,iG];omega)
     |exact sQ (t:=[123]++t++[44,125]) (by simp only[ek,eZ,iG];omega)
     |(refine eo (abd Q) ?_
       rintro r ⟨t2,rfl,No⟩;have a5:dR .add (bu ([123]++t++[44])) (bu t2)=a_ (bu ([123]++t++[44]++t2)):=vM ah;have a6:dR .add (bu ([123]++t++[44]++t2)) (.v (.string ⟨[125].toArray⟩))=a_ (bu ([123]++t++[44]++t2++[125])):=IT ah;refine nc @a5 @a6 ?_;exact sQ ah))
def dL.II(x:dL):Prop:=1<=x.kind/\x.kind<=5/\x.name.length<=12
def aGV(hv:cD v (l.map nh))(fN:∀x∈l,x.II)(hl:l.length<=1000000):dM G bB 287 [v] (Am (100*l.length)):=by
 refine en (aBt.go ?_);have ln:=hv.cG;rw[cS] at ln;have ab:e4 1 [.v (.string ⟨[].toArray⟩),.v (.string ⟨[].toArray⟩),.v (.string ⟨[40].toArray⟩),.v (.string ⟨[41].toArray⟩),.v (.string ⟨[124].toArray⟩)]=a_ (.sl [bu [],bu [],bu [40],bu [41],bu [124]] .exact):=rfl;have i2:ct 1 (.sl [bu [],bu [],bu [40],bu [41],bu [124]] .exact) (.v (.int .i64 2))=a_ (.fp [bu [40]] 0):=rfl;have i3:ct 1 (.sl [bu [],bu [],bu [40],bu [41],bu [124]] .exact) (.v (.int .i64 3))=a_ (.fp [bu [41]] 0):=rfl;have i4:ct 1 (.sl [bu [],bu [],bu [40],bu [41],bu [124]] .exact) (.v (.int .i64 4))=a_ (.fp [bu [124]] 0):=rfl;refine wy ?_;refine c8 (λi e h=>∃t:List UInt8,e=[(0,v),(3,.sl [bu [],bu [],bu [40],bu [41],bu [124]] .exact),(4,bu t),(5,bq i)]/\t.length<=100*i) l.length ⟨[],rfl,af⟩ ?_ ?_
 · rintro i e J Q ⟨t,rfl,ht⟩
   obtain⟨x,I⟩:=cO Q;have EG:=fN x (cv I);have e1:ct 5 v (.v (.int .i64 (i:Int)))=a_ (.fp x.cells 0):=hv.cB (x:=x.bA) aA rfl;have e2:∀J,bz J bh 5 (.fp x.cells 0)=a_ (.agg x.cells):=λJ=>rfl;have s1:=zG J x;unfold iP at s1;have fT:∀g:List br,g[J.length]?=a_ (.cells x.cells bf)->bz g bf 1 (.mp J.length 0)=a_ (.v (.int .i64 x.kind))/\bz g bf 1 (.mp J.length 2)=a_ (.v (.int .i64 x.low))/\bz g bf 1 (.mp J.length 3)=a_ (.v (.int .i64 x.high))/\bz g bf 1 (.mp J.length 4)=a_ (bu x.name):=λg q=>by
    simp only[bz,q];exact⟨rfl,rfl,rfl,rfl⟩
   have hm:(J++[bw x.cells bf])[J.length]?=a_ (.cells x.cells bf):=af
   obtain⟨l0,l2,l3,l4⟩:=fT _ hm;have sp:dR .add (bu t) (.v (.string ⟨[32].toArray⟩))=a_ (bu (t++[32])):=IT ah;have EV:∀u:List UInt8,u.length<=100*i+1->(∀w:List UInt8,w.length<=60->dR .add (bu u) (bu w)=a_ (bu (u++w)))/\(∀w:List UInt8,w.length<=60->(u++w).length<=100*(i+1)):=λu hu=>⟨λw hw=>vM aa,λw hw=>ah⟩;obtain⟨k1,k2,hn⟩:=EG;have XJ:x.kind=1\/x.kind=2\/x.kind=3\/x.kind=4\/x.kind=5:=aa
   have b1:=(EV t aa).1 x.name aa;have b2:=(EV (t++[32]) ah).1 x.name aa;have d1:=(EV t aa).2 x.name aa;have d2:=(EV (t++[32]) ah).2 x.name aa;have c1:=λw hw=>(EV t aa).1 w hw;have c2:=λw hw=>(EV (t++[32]) ah).1 w hw;have b9:=λw hw=>(EV t aa).2 w hw;have z2:=λw hw=>(EV (t++[32]) ah).2 w hw
   rcases XJ with q|q|q|q|q
   all_goals
    rw[q] at l0;refine wy ?_
    repeat' ((refine cM (λq=>?_) λq=>?_)<;>(have q':=q)<;>(simp -failIfUnchanged only[qm] at q')<;>(refine pH (eI @mP @l0 @sp @l4) (eI @b1 @b2 @i2 @i3) (eI @i4 @xJ (c1 [40] ag) (c2 [40] ag)) (eI (c1 [41] ag) (c2 [41] ag) (c1 [124] ag) (c2 [124] ag)) @l2 @l3 @q ?_))
   all_goals first
    |(exfalso;omega)
    |exact⟨_,rfl,d1⟩
    |exact⟨_,rfl,d2⟩
    |exact⟨_,rfl,b9 _ ag⟩
    |exact⟨_,rfl,z2 _ ag⟩
    |(refine eo (aIe _ _) ?_
      rintro r ⟨w,rfl,hw⟩;refine wy ?_
      first
       |exact⟨_,rfl,b9 w hw⟩
       |exact⟨_,rfl,z2 w hw⟩)
 rintro e h ⟨t,rfl,ht⟩;exact wy (sQ ht)
end
def IB(ps:List cT):Prop:=∀(i:Nat) p,ps[i]?=a_ p->∀x∈p.kids,0<=x/\x<(i:Int)
def yJ.kids(h:yJ ps):IB ps:=λi p J=>(h i p J).2
def aHQ(h:IB ps):∀(n f g:Nat) (i:Int),i.toNat<n->i.toNat<f->i.toNat<g->yl ps f i=yl ps g i:=by
 intro n
 induction n with
 |zero=>intro f g i h0;omega
 |succ n ih=>
  intro f g i h0 Y V;obtain⟨f,rfl⟩:∃f',f=f'+1:=⟨f-1,aa⟩;obtain⟨g,rfl⟩:∃g',g=g'+1:=⟨g-1,aa⟩;unfold yl;cases J:ps[i.toNat]? with
  |none=>rfl
  |some p=>
   dsimp only;congr 2;refine BU λk S=>?_;have:=h _ p J k S;rw[ih f g k aa aa aa]
def T3(h:IB ps){i:Nat}(J:ps[i]?=a_ p):sz ps (i:Int)=3+(p.kids.map λk=>sz ps k+1).sum:=by
 show yl ps (i+1) (i:Int)=_;unfold yl;rw[yw,J];dsimp only;congr 2;refine BU λk S=>?_;have:=h _ p J k S;rw[aHQ h (i+1) i (k.toNat+1) k aa aa aa];rfl
def aby(h:IB ps):∀{i:Nat} {st:List Int},qI ps i st->(st.map λk=>sz ps k+1).sum<=4*i
 |0,st,hs=>by rw[show st=[] from hs];simp
 |i+1,st,⟨p,rB,J,Y,V⟩=>by
  have:=aby h Y;rw[V];simp only[gC,arF,fc,kM,Aa,Iu] at this⊢;rw[T3 h J];omega
def T0(f:Int->Nat):∀ks:List Int,ks.length<=(ks.map λk=>f k+1).sum
 |[]=>cc _
 |k::r=>by have:=T0 f r;simp only[fc,Aa,eZ];omega
def asb(n:Nat)(r:bg):Prop:=∃l:List dL,r=.sl (l.map nh) .no/\l≠[]/\l.length<=n/\∀x∈l,x.II
def aeo{J:List br}{xs ys:List bg}{bW:Nat}{e:TypeId}(hA:de J v xs n e)(I:cY n xs=bh)(hy:cY n ys=bh)(bP:ys≠[])(hn:0<n)(O:0<bW)(hfit:(xs.length+ys.length)*bW<=140737488355328):
  ∃v' bl,ei J n bW e v (.sl ys t)=a_ (v',bl)/\de bl v' (xs++ys) n e/\∀(j:Nat) b,J[j]?=a_ b->(∀xs,v≠.sl xs (.tok j))->bl[j]?=a_ b:=by
 rcases hA with⟨rfl,rfl⟩|⟨id,rfl,S⟩
 refine⟨.sl ([]++ys) (.tok J.length),J++[.tok ys.length n e],?_,bF ⟨J.length,rfl,af⟩,λj b h _=>bS h⟩;simp only[iG,gi] at hfit;simp[ei,gR,iA,iq,bP,hy,hn,O,hfit];have hl:id<J.length:=gl S;refine⟨.sl (xs++ys) (.tok id),J.set id (.tok (xs.length+ys.length) n e),?_,bF ⟨id,rfl,aMh⟩,λj b h bP=>?_⟩;simp[ei,gR,iA,iq,bP,hy,hn,O,hfit,I,S];rw[bE (λq=>bP xs aL2)];exact h
structure vI(p:cT)(l:List dL)(bx:bg)(h:List br):Prop where
 b:h[0]?=a_ (.cells p.cells bf)
 a:de h bx (l.map nh) 5 198
 ok:∀x∈l,x.II
def vI.Ok{m:List dL}(s:vI p l bx h)(hm:∀x∈m,x.II)(bP:m≠[])(hl:l.length+m.length<=2000000):∃cl g,ei h 5 48 198 bx (.sl (m.map nh) t)=a_ (cl,g)/\vI p (l++m) cl g:=by
 obtain⟨cl,g,e1,hA,S⟩:=aeo (ys:=m.map nh) (bW:=48) (t:=t) s.a (S3 l) (S3 m) (by simpa using bP) ag ag ah;refine⟨cl,g,e1,S _ _ s.b λxs z=>?_,by rw[gC];exact hA,λx I=>?_⟩
 rcases s.a with⟨q,_⟩|⟨id,q1,bt⟩
 rw[q] at z;cases z;rw[q1] at z;cases z;rw[s.b] at bt;cases bt
 rcases fA.1 I with z|z
 exact s.ok x z;exact hm x z
def vI.push(s:vI p l bx h)(x:dL)(I:x.II)(hl:l.length<=1000000):∃cl g,ei h 5 48 198 bx (.sl [.agg x.cells] .exact)=a_ (cl,g)/\vI p (l++[x]) cl g:=
 s.Ok (m:=[x]) (λy hy=>aNT) af ah
def B9(h:yG n v ps):eY v:=by
 rcases h.v with rfl|⟨rfl,_⟩
 refine k4 λx I c T=>?_;obtain⟨p,J,rfl⟩:=dV.1 I;have p9:=h.no p J;have:c=bq p.kind\/c=bq p.low\/c=bq p.high\/c=bu p.name\/c=p.kv:=by simpa[su,jD,rI] using T
 rcases this with rfl|rfl|rfl|rfl|rfl
 exact dD _;exact dD _;exact dD _;exact dD _;unfold cT.kv;split;exact nA;rw[p9];refine k4 λx I c T=>?_;obtain⟨t,_,rfl⟩:=dV.1 I;rw[dW.1 (show c∈[bq t] from T)];exact dD _;exact nA
section
variable{G:Cells}
def aG0(h:yG n v ps):∀(m i:Nat),i<m->i<ps.length->sz ps (i:Int)<=1000000->∀b:Bool,dM G bB 288 [v,.v (.int .i64 (i:Int)),.v (.bool b)] (asb (sz ps (i:Int))):=by
 intro m
 induction m with
 |zero=>intro i Q;omega
 |succ m ih=>
  intro i Q k7 dF b;obtain⟨p,J⟩:=cO k7;have lX:=h.ok i p J;have p9:=h.no p (cv J);have hs:=T3 h.ok.kids J;have e7:=T0 (λk=>sz ps k) p.kids;have lk:=zn p9 aa;have kc:=B9 h;have e1:ct 5 v (.v (.int .i64 (i:Int)))=a_ (.fp p.cells 0):=h.v.cB (x:=p.bA) (by simp[J]) rfl;have agD:∀c:Int,dN [.v (.int .i64 0),.v (.int .i64 0),.v (.int .i64 0),.v (.int .i64 0),.v (.string ⟨#[]⟩)] [(0,1,.v (.int .i64 c))]=a_ (iF ⟨c,0,0,0,[]⟩):=λc=>rfl;have f1:dN [.v (.int .i64 0),.v (.int .i64 0),.v (.int .i64 0),.v (.int .i64 0),.v (.string ⟨#[]⟩)] [(0,1,.v (.int .i64 1)),(4,1,bu p.name)]=a_ (iF ⟨1,0,0,0,p.name⟩):=rfl;have f5:dN [.v (.int .i64 0),.v (.int .i64 0),.v (.int .i64 0),.v (.int .i64 0),.v (.string ⟨#[]⟩)] [(0,1,.v (.int .i64 5)),(2,1,.v (.int .i64 p.low)),(3,1,.v (.int .i64 p.high))]=a_ (iF ⟨5,0,p.low,p.high,[]⟩):=rfl;have n8:∀c:Int,2<=c->c<=4->dL.II ⟨c,0,0,0,[]⟩:=λc Y V=>⟨by show 1<=c;omega,by show c<=5;omega,aMG⟩;have fT:∀g:List br,g[0]?=a_ (.cells p.cells bf)->bz g bf 1 (.mp 0 0)=a_ (.v (.int .i64 p.kind))/\bz g bf 1 (.mp 0 1)=a_ (.v (.int .i64 p.low))/\bz g bf 1 (.mp 0 2)=a_ (.v (.int .i64 p.high))/\bz g bf 1 (.mp 0 3)=a_ (bu p.name)/\bz g bf 1 (.mp 0 4)=a_ p.kv:=λg q=>by
   simp only[bz,q];exact⟨rfl,rfl,rfl,rfl,rfl⟩
  refine en (aBu.go ?_);have s1:=zL [] p;simp only[gM,iG] at s1;refine eN (λe g=>e=[(0,v),(1,.v (.int .i64 (i:Int))),(2,.v (.bool b))]/\g=[]) ?_ ?_;refine wx ?_
  first|exact⟨rfl,rfl⟩|exact⟨trivial,trivial⟩|trivial
  rintro e g ⟨rfl,rfl⟩;refine eN (λe g=>e=[(0,v),(1,.v (.int .i64 (i:Int))),(2,.v (.bool b)),(7,.bp)]/\g=[]) ?_ ?_;refine wx ?_
  first|exact⟨rfl,rfl⟩|exact⟨trivial,trivial⟩|trivial
  rintro e g ⟨rfl,rfl⟩;refine eN (λe g=>e=[(0,v),(2,.v (.bool b)),(7,.bp),(8,.mp 0 0)]/\g=[.cells p.cells bf]) ?_ ?_;refine wx ?_
  first|exact⟨rfl,rfl⟩|exact⟨trivial,trivial⟩|trivial
  rintro e g ⟨rfl,rfl⟩;have adD:vI p [] .bp [.cells p.cells bf]:=⟨rfl,tA _ _ _,af⟩;refine eN (λe g=>∃l bx,e=[(0,v),(2,.v (.bool b)),(7,bx),(8,.mp 0 0)]/\vI p l bx g/\l.length<=1) ?_ ?_;obtain⟨cl,g,p1,p2⟩:=adD.push ⟨2,0,0,0,[]⟩ (n8 2 ag ag) af;cases b with
  |true=>
   refine wx ?_;exact⟨_,cl,rfl,p2,af⟩
  |false=>
   refine wy ?_;exact⟨[],.bp,rfl,adD,af⟩
  rintro e g ⟨l1,o1,rfl,Vl,hl1⟩;obtain⟨d0,d1,d2,d3,d4⟩:=fT g Vl.b;refine eN (λe g=>∃l bx,e=[(0,v),(2,.v (.bool b)),(7,bx),(8,.mp 0 0)]/\vI p l bx g/\l.length<=1+(if p.kind=1 then 1 else 0)/\(p.kind=1->l≠[])) ?_ ?_;by_cases q1:p.kind=1;have hn:p.name.length<=12:=by
   rcases lX.1 with z|z|z
   exact z.2.1;omega;omega
  obtain⟨cl,g2,p1,p2⟩:=Vl.push ⟨1,0,0,0,p.name⟩ ⟨by show(1:Int)<=1;decide,aL8,hn⟩ aa;refine wx ?_;exact⟨_,cl,rfl,p2,ah,λ_=>af⟩;have n1:(p.kind==1)=bf:=aMz
  refine gf @d0 @n1 ?_;exact⟨l1,o1,rfl,Vl,aa,λz=>absurd z q1⟩;rintro e g ⟨l2,o2,rfl,adE,js,RW⟩;have Ed:(if p.kind=1 then 1 else 0)<=1:=by split<;>omega
  refine eN (λe g=>∃l bx,e=[(2,.v (.bool b)),(7,bx),(8,.mp 0 0)]/\vI p l bx g/\l.length<=1+(if p.kind=1 then 1 else 0)+(p.kids.map λk=>sz ps k+1).sum/\l≠[]) ?_ ?_;refine wy ?_;refine c8 (λj e g=>∃l bx,e=[(0,v),(2,.v (.bool b)),(7,bx),(8,.mp 0 0),(9,bq j)]/\vI p l bx g/\l.length<=1+(if p.kind=1 then 1 else 0)+((p.kids.take j).map λk=>sz ps k+1).sum/\((p.kind=1\/0<j)->l≠[])) p.kids.length ⟨l2,o2,rfl,adE,ah,λz=>RW aa⟩ ?_ ?_
  · rintro j e g hj ⟨l3,jW,rfl,IP,s0,Yi⟩
    obtain⟨x,I⟩:=cO hj;obtain⟨x0,x1⟩:=lX.2 x (cv I);obtain⟨xn,rfl⟩:=pJ x0;obtain⟨q,hq⟩:∃q,ps[xn]?=a_ q:=⟨ps[xn],cy aa⟩;have wO:=zM (f:=λk=>sz ps k+1) I;have sl:=C4 (λk=>sz ps k+1) p.kids (j+1);have nV:ct 1 p.kv (.v (.int .i64 (j:Int)))=a_ (.fp [.v (.int .i64 (xn:Int))] 0):=by
     unfold cT.kv;split;rename_i z;rw[z] at I;simp at I;exact lN (x:=bq (xn:Int)) aN5 rfl
    have y2:ct 5 v (.v (.int .i64 (xn:Int)))=a_ (.fp q.cells 0):=h.v.cB (x:=q.bA) aLS rfl;have L8:∀J,bz J bf 1 (.fp q.cells 0)=a_ (.v (.int .i64 q.kind)):=λJ=>rfl;obtain⟨c0,_,_,_,c4⟩:=fT g IP.b;obtain⟨bv,Gu,b1,adH⟩:=IP.push ⟨4,0,0,0,[]⟩ (n8 4 ag ag) aa;obtain⟨sn,_,_,_,u4⟩:=fT Gu adH.b;have KX:cN.wrap ((j:Int)+1)=((j+1:Nat):Int):=jZ aa;refine wy ?_
    repeat' ((refine cM (λq=>?_) λq=>?_)<;>(have q':=q)<;>(simp -failIfUnchanged only[qm] at q')<;>(refine wR (eI @mP @c4 @c0 @u4) (eI @sn @lk @nV @xJ) @y2 @Ap @L8 @agD @adZ @b1 @q ?_))
    all_goals first
     |(exfalso;omega)
     |(refine eo (ih xn aa aa aa _) ?_
       rintro r ⟨ys,rfl,y1,fR,mc⟩
       first
        |(obtain⟨cl,g2,p1,p2⟩:=IP.Ok (t:=.no) mc y1 aa
          refine wy ?_;exact⟨_,cl,rfl,p2,aMf,λ_=>by simp[y1]⟩)
        |(obtain⟨cl,g2,p1,p2⟩:=adH.Ok (t:=.no) mc y1 ah
          refine gf @p1 @KX ?_;exact⟨_,cl,rfl,p2,by rw[ek,ek,qg];omega,λ_=>by simp[y1]⟩))
  rintro e g ⟨l3,jW,rfl,IP,s0,Yi⟩;obtain⟨d0,d1,d2,d3,d4⟩:=fT g IP.b;refine wy ?_;rw[od] at s0;refine⟨l3,jW,rfl,IP,s0,Yi ?_⟩
  rcases lX.1 with z|z|z
  exact bD z.1;exact bF aa;exact bF aa;rintro e g ⟨l4,mY,rfl,Vn,aya,ayo⟩;obtain⟨d0,d1,d2,d3,d4⟩:=fT g Vn.b;refine eN (λe g=>∃l bx,e=[(2,.v (.bool b)),(7,bx)]/\vI p l bx g/\l.length<=2+(p.kids.map λk=>sz ps k+1).sum/\l≠[]) ?_ ?_;by_cases fU:p.kind=4;rw[if_neg aa] at aya;obtain⟨cl,g2,p1,p2⟩:=Vn.push ⟨5,0,p.low,p.high,[]⟩ ⟨aL8,aNB,aMG⟩ aa;refine wx ?_;exact⟨_,cl,rfl,p2,ah,af⟩;have n4:(p.kind==4)=bf:=aMD
  refine wy ?_;exact⟨l4,mY,rfl,Vn,aa,ayo⟩;rintro e g ⟨EN,qA,rfl,adF,X8,ayp⟩;refine eN (λe g=>∃l bx,e=[(7,bx)]/\vI p l bx g/\l.length<=3+(p.kids.map λk=>sz ps k+1).sum/\l≠[]) ?_ ?_;cases b with
  |true=>
   obtain⟨cl,g2,p1,p2⟩:=adF.push ⟨3,0,0,0,[]⟩ (n8 3 ag ag) aa;refine wx ?_;exact⟨_,cl,rfl,p2,ah,af⟩
  |false=>
   refine wy ?_;exact⟨EN,qA,rfl,adF,aa,ayp⟩
  rintro e g ⟨Ho,ve,rfl,adG,RP,aiD⟩;refine wy ?_
  rcases adG.a with⟨rfl,z⟩|⟨id,rfl,_⟩
  exact absurd aN aiD;obtain⟨k,S⟩:=(hD (t:=.tok id) (iE (f:=nh) (l:=Ho) λa _=>ahh a):b_ g _ _).done;exact⟨k,_,S,Ho,rfl,aiD,aa,adG.ok⟩
def aGT(h:yG n v ps)(hn:n<=100000)(bP:ps≠[]):dM G bB 244 [v] (Am (800*n)):=by
 have hl:=h.len;obtain⟨x,I⟩:=h.top.resolve_left bP;have D:=abA bP I;have hs:=aby h.ok.kids I;rw[D] at hs;simp only[fc,kM,Aa,Iu] at hs;have ln:=h.v.cG;rw[cS] at ln;refine en (aBh.go ?_);refine wy (jE (aG0 h ps.length (ps.length-1) aa aa aa bf) (bY (B9 h) (bY (dD _) (bY (dD _) dw))) ?_);rintro r ⟨ys,rfl,y1,fR,mc⟩;refine wy (jE (aGV (bD rfl) mc aa) (bY (k4 Wg) dw) ?_);rintro r ⟨t,rfl,ht⟩;refine wy ?_;exact sQ aa
end
end
section
variable{l:List (List UInt8)}{w:List UInt8}{v:bg}
def ku:List (List UInt8)->Nat
 |[]=>0
 |w::r=>w.length+1+ku r
def SB(a b:List (List UInt8)):ku (a++b)=ku a+ku b:=by
 induction a with
 |nil=>simp[ku]
 |cons x r ih=>simp only[gB,ku,ih];omega
def Zp(l:List (List UInt8))(n:Nat):ku (l.take n)+ku (l.drop n)=ku l:=by
 rw[<-SB,UO]
def amB{i:Nat}(h:l[i]?=a_ w):ku (l.take (i+1))=ku (l.take i)+w.length+1:=by
 rw[vA,h,SB];simp[ku];omega
def J3:∀l:List (List UInt8),l.length<=ku l
 |[]=>cc _
 |w::r=>by have:=J3 r;simp only[ku,eZ];omega
def amA(h:w∈l):w.length<=ku l:=by
 obtain⟨i,Q,rfl⟩:=FC h;have Y:=amB (cy Q);have V:=Zp l (i+1);omega
def adL(n:Nat)(r:bg):Prop:=∃(v:bg) (e:Int) (l:List (List UInt8)),r=.bQ [v,.v (.int .i64 e)]/\cD v (l.map bu)/\ku l<=n
section
variable{G:Cells}
def az2(hv:cD v (l.map bu))(hl:ku l<=1000000):dM G bB 243 [v] (Am (ku l)):=by
 refine en (aBI.go ?_);have oz:=J3 l;have ln:=hv.cG;rw[cS] at ln;refine wy ?_;refine c8 (λi e h=>∃t:List UInt8,e=[(0,v),(3,bu t),(4,bq i)]/\t.length<=ku (l.take i)/\h=[]) l.length ⟨[],rfl,af,rfl⟩ ?_ ?_;rintro i e h Q ⟨t,rfl,ht,rfl⟩;obtain⟨s,hs⟩:=cO Q;have Y:=amB hs;have V:=Zp l (i+1);have e1:ct 1 v (.v (.int .i64 (i:Int)))=a_ (.fp [bu s] 0):=hv.cB (x:=bu s) aNU rfl;have a1:dR .add (bu t) (.v (.string ⟨[32].toArray⟩))=a_ (bu (t++[32])):=vM (b:=[32]) ah;have a3:dR .add (bu (t++[32])) (bu s)=a_ (bu (t++[32]++s)):=vM ah;refine wy (cM (λq=>?_) λq=>?_);refine wx ?_;exact⟨_,rfl,ah,trivial⟩;refine wx ?_;exact⟨_,rfl,ah,trivial⟩;rintro e h ⟨t,rfl,ht,rfl⟩;rw[od] at ht;exact wy (sQ ht)
def aHi(s:List UInt8)(hs:s.length<=1000000):dM G bB 102 [bu s] (adL (s.length+1)):=by
 refine en (aBK.go ?_);have bad:∀(J:List br) (e:Int),∃k bR,dh J k (.bQ [.bp,.v (.int .i64 e)])=a_ bR/\adL (s.length+1) bR:=λJ e=>by
  obtain⟨k,S⟩:=(fy (bG eB (bG (bH (.int .i64 e)) c_)):b_ J _ _).done;exact⟨k,_,S,.bp,e,[],rfl,bF ⟨rfl,rfl⟩,gW _⟩
 refine wy ?_;refine c8 (λi e h=>∃(l:List (List UInt8)) (bx:bg) (t:List UInt8),e=[(0,bu s),(4,bx),(5,bu t),(6,bq i)]/\ku l+t.length<=i/\de h bx (l.map bu) 1 9) s.length ⟨[],.bp,[],rfl,cc _,tA _ _ _⟩ ?_ ?_
 · rintro i e h Q ⟨l,bx,t,rfl,ht,hA⟩
   have oz:=J3 l;obtain⟨cl,g,e1,fM,_⟩:=nv (x:=bu t) (bW:=16) hA (zA l) rfl ag ag ah;have ab:e4 1 [bu t]=a_ (.sl [bu t] .exact):=rfl;have pu:ku (l++[t])=ku l+t.length+1:=by rw[SB];simp[ku];omega
   have c1:=λJ=>QH (l:=s) (i:=i) (j:=i+1) aa aa J;have a1:dR .add (bu t) (bu ((s.take (i+1)).drop i))=a_ (bu (t++(s.take (i+1)).drop i)):=vM ah;have r1:((t++(s.take (i+1)).drop i)).length<=t.length+1:=ah
   refine oa ?_
   repeat' ((refine ba (λq'=>?_) λq'=>?_)<;>refine qK @x4 @agi @ab @e1 @xA ?_)
   all_goals first
    |exact bad _ _
    |exact⟨l++[t],cl,[],rfl,by rw[pu];simp;omega,aLX⟩
    |(refine eo (aE4 _) ?_
      rintro r ⟨b,rfl⟩;cases b with
      |false=>
       exact eO (bad _ _)
      |true=>
       refine wy ?_;exact⟨l,bx,_,rfl,aa,hA⟩)
 rintro e h ⟨l,bx,t,rfl,ht,hA⟩;have oz:=J3 l;obtain⟨cl,g,e1,fM,_⟩:=nv (x:=bu t) (bW:=16) hA (zA l) rfl ag ag ah;have ab:e4 1 [bu t]=a_ (.sl [bu t] .exact):=rfl;have pu:ku (l++[t])=ku l+t.length+1:=by rw[SB];simp[ku];omega
 refine wy ?_;refine dn (λq=>?_) λq=>?_;exact bad _ _;refine wy ?_;rw[<-List.map_singleton,<-gC] at fM
 rcases fM with⟨rfl,z⟩|⟨id,rfl,_⟩
 exact bad _ _;obtain⟨k,S⟩:=(fy (bG (hD (t:=.tok id) (iE (f:=bu) (l:=l++[t]) λa _=>bH _)) (bG (bH (.int .i64 0)) c_)):b_ g _ _).done;exact⟨k,_,S,_,0,l++[t],rfl,bD rfl,by rw[pu];omega⟩
def NU{X:List br}(h0:X[0]?=a_ (.cells gy bf)):bL X 4 (.mp 0 0) (.agg gy)=a_ (X.set 0 (.cells gy bf))/\bz (X.set 0 (.cells gy bf)) bh 4 (.mp 0 0)=a_ (.agg gy)/\∃n bR,dh (X.set 0 (.cells gy bf)) n (.bQ [.agg gy,.v (.bool bf)])=a_ bR/\IF bR:=
 ⟨CL h0 rfl (x:=gy) rfl rfl,(SJ (bT (a:=.cells gy bf) (gl h0))).2,NV (zZ _)⟩
@[go_sem]def amX{h:List br}{k:Nat}{nm:List UInt8}{v:Int}{al:Bool}{bv:bg}(O:h[k]?=a_ (.cells (eX nm v al bv) bf)):bz h bf 1 (.mp k 1)=a_ (.v (.int .i64 v)):=by
 simp only[bz,O];rfl
def aDL{ls:List (List UInt8)}(hv:cD v (ls.map bu))(c7:ls.length<=100000)(hw:∀w∈ls,w.length<=100000)(V:2<=ls.length):dM G bB 180 [v] IF:=by
 refine en (aAX.go ?_);obtain⟨n1,p8⟩:∃n,ls[1]?=a_ n:=⟨ls[1],cy aa⟩;have e1:ct 1 v (.v (.int .i64 1))=a_ (.fp [bu n1] 0):=hv.cB (i:=1) (x:=bu n1) (by simp[p8]) rfl;have f1:∀x:List UInt8,dN gy [(0,1,bu x)]=a_ (eX x 0 bf .bp):=λx=>rfl;have f0:dN gy []=a_ gy:=rfl;have hz:[cR (.string ⟨[].toArray⟩),.v (.int .i64 0),.v (.bool bf),.bp]=gy:=rfl;have s1:bL [.cells gy bf,.cells gy bf] 4 (.mp 1 0) (.agg (eX n1 0 bf .bp))=a_ [.cells gy bf,.cells (eX n1 0 bf .bp) bf]:=CL (k:=1) rfl rfl rfl rfl;have ln:=hv.cG;rw[cS] at ln;refine wy ?_;refine c8 (λn e h=>∃(l:List (List UInt8)) (bx:bg),e=[(0,v),(2,.mp 0 0),(4,.mp 1 0),(5,bx),(6,.v (.int .i64 ((2+n:Nat):Int)))]/\h[0]?=a_ (.cells gy bf)/\(∃x,h[1]?=a_ (.cells x bf)/\om x)/\de h bx (l.map bu) 1 9/\l.length<=n) (ls.length-2)
  ⟨[],.bp,rfl,rfl,⟨_,rfl,n1,0,bf,.bp,rfl,zZ _⟩,tA _ _ _,af⟩ ?_ ?_
 rintro n e h hn ⟨l,bx,rfl,h0,⟨x,Y,nm,tq,al,bv,rfl,xK⟩,hA,hl⟩;obtain⟨w,ED⟩:∃w,ls[2+n]?=a_ w:=⟨ls[2+n]' aa,cy aa⟩;have EE:=hw w (cv ED);have e2:ct 1 v (.v (.int .i64 ((2+n:Nat):Int)))=a_ (.fp [bu w] 0):=hv.cB (x:=bu w) (by simp[ED]) rfl;have wn:cN.wrap (((2+n:Nat):Int)+1)=((2+(n+1):Nat):Int):=by rw[jZ aa];rfl
 obtain⟨v',y1,fR,mc⟩:=B5 hA DT;refine wy ?_;refine eo (afS w aa) ?_;rintro r ⟨a,b,f,rfl,p4,RA⟩;obtain⟨cl,g,p1,pA,_,_,jA⟩:=nv (x:=bu a) (bW:=16) hA (zA l) rfl ag ag ah;have gI:∀{j:Nat} {c:br},h[j]?=a_ c->(∀x n e,c≠.tok x n e)->g[j]?=a_ c:=λq O=>jA _ _ q λxs z=>by
  rcases hA with⟨b9,_⟩|⟨id,b9,z2⟩
  rw[b9] at z;cases z;rw[b9] at z;cases z;rw[q] at z2;cases z2;exact O _ _ _ rfl
 have k0:=gI h0 af;have k1:=gI Y af;have Oe:de g cl ((l++[a]).map bu) 1 9:=by rw[gC];exact pA
 have ab:e4 1 [bu a]=a_ (.sl [bu a] .exact):=rfl;have A_:=gl k1;obtain⟨m1,m2,m3⟩:=NU k0;have one:f=bh\/f=bf:=by cases f<;>simp
 rcases one with rfl|rfl
 · refine wy ?_
   refine eo (Rx y1 aa a) ?_;rintro r ⟨b2,rfl⟩;cases b2
   all_goals
    refine wy ?_;refine dn (λq=>?_) λq=>?_
    · refine eo (ab7 b aa) ?_
      rintro r ⟨z,rfl,_,_⟩;have st:=SK k1 z;have i1:(g.set 1 (.cells (eX nm z al bv) bf))[1]?=a_ (.cells (eX nm z al bv) bf):=bT A_;have i0:(g.set 1 (.cells (eX nm z al bv) bf))[0]?=a_ (.cells gy bf):=by rw[bE aa];exact k0
      have azi:=j7 (cs':=eX nm z al bv) Oe k1;obtain⟨u1,u2,u3⟩:=NU i0;refine nI @st (amX i1) @u1 @u2 @wn ?_
      repeat' ((refine ba (λq'=>?_) λq'=>?_)<;>refine C_ @zU @vv @f0 @u1 @u2 @wn ?_)
      all_goals first
       |exact u3
       |exact⟨l++[a],cl,rfl,i0,⟨_,i1,nm,z,al,bv,rfl,xK⟩,azi,ah⟩
    refine dn (λbt=>?_) λbt=>?_
    · refine eo (Zm b aa) ?_
      rintro r ⟨iw,gS,ok,rfl,uZ⟩;have st:=SL k1 iw;have i1:=bT (a:=.cells (eX nm tq iw bv) bf) A_;have zK:=SM i1 uZ.one.1 uZ.one.2;have j1:((g.set 1 (.cells (eX nm tq iw bv) bf)).set 1 (.cells (eX nm tq iw gS) bf))[1]?=a_ (.cells (eX nm tq iw gS) bf):=bT (by simpa using A_);have Cy:((g.set 1 (.cells (eX nm tq iw bv) bf)).set 1 (.cells (eX nm tq iw gS) bf))[0]?=a_ (.cells gy bf):=by rw[bE aa,bE aa];exact k0
      have azX:=j7 (cs':=eX nm tq iw gS) (j7 (cs':=eX nm tq iw bv) Oe k1) i1;obtain⟨u1,u2,u3⟩:=NU Cy;cases ok
      all_goals
       refine nI @st @zK @u1 @u2 @wn ?_
       first
        |exact u3
        |exact⟨l++[a],cl,rfl,Cy,⟨_,j1,nm,tq,iw,gS,rfl,uZ⟩,azX,ah⟩
    refine gf @m1 @m2 ?_;exact m3
 refine wy ?_;refine dn (λq=>?_) λq=>?_;refine eo (ab7 b aa) ?_;rintro r ⟨z,rfl,_,_⟩;have st:=SK k1 z;have i0:(g.set 1 (.cells (eX nm z al bv) bf))[0]?=a_ (.cells gy bf):=by rw[bE aa];exact k0
 obtain⟨u1,u2,u3⟩:=NU i0;exact fu @st @u1 @u2 u3;refine dn (λbt=>?_) λbt=>?_;refine eo (Zm b aa) ?_;rintro r ⟨iw,gS,ok,rfl,uZ⟩;have st:=SL k1 iw;have i1:=bT (a:=.cells (eX nm tq iw bv) bf) A_;have zK:=SM i1 uZ.one.1 uZ.one.2;have Cy:((g.set 1 (.cells (eX nm tq iw bv) bf)).set 1 (.cells (eX nm tq iw gS) bf))[0]?=a_ (.cells gy bf):=by rw[bE aa,bE aa];exact k0
 obtain⟨u1,u2,u3⟩:=NU Cy;exact oO @st @zK @u1 @u2 u3;refine gf @m1 @m2 ?_;exact m3;rintro e h ⟨l,bx,rfl,h0,⟨x,Y,nm,tq,al,bv,rfl,xK⟩,hA,hl⟩;have oJ:=CL h0 rfl (x:=eX nm tq al bv) rfl (ZO xK.one.1);exact wx (NV xK)
end
end
section
variable{J:List br}{cq mv v:bg}{ex nm:List UInt8}{al i cj p:Bool}{a:Int}
def Sep(v w:bg):Prop:=∀id xs ys,v=.sl xs (.tok id)->w=.sl ys (.tok id)->False
def aen{x w:bg}{xs ys:List bg}{n bW m:Nat}{e e2:TypeId}(hA:de J v xs n e)(hW:de J w ys m e2)(hs:Sep v w)(I:cY n xs=bh)(hy:cY n [x]=bh)(hn:0<n)(O:0<bW)(hfit:(xs.length+1)*bW<=140737488355328):
  ∃v' bl,ei J n bW e v (.sl [x] .exact)=a_ (v',bl)/\de bl v' (xs++[x]) n e/\de bl w ys m e2/\Sep v' w/\cu v'=bh/\v'.cells=[v']/\∀(j:Nat) b,J[j]?=a_ b->(∀a c d,b≠.tok a c d)->bl[j]?=a_ b:=by
 rcases hA with⟨rfl,rfl⟩|⟨id,rfl,S⟩
 refine⟨.sl ([]++[x]) (.tok J.length),J++[.tok 1 n e],?_,bF ⟨J.length,rfl,af⟩,?_,?_,rfl,rfl,λj b h _=>bS h⟩;simp only[iG,gi] at hfit;simp only[ei,gR,iA,iq,hy,hn,O];simp;omega
 rcases hW with z|⟨i2,b9,z2⟩
 exact bD z;exact bF ⟨i2,b9,bS z2⟩;intro i a c Y V;cases Y
 rcases hW with⟨z,_⟩|⟨i2,b9,z2⟩
 rw[z] at V;cases V;rw[b9] at V;cases V;have:=(cK.1 z2).1;omega;have hl:id<J.length:=(cK.1 S).1;refine⟨.sl (xs++[x]) (.tok id),J.set id (.tok (xs.length+1) n e),?_,bF ⟨id,rfl,aMh⟩,?_,?_,rfl,rfl,λj b h bP=>?_⟩;simp[ei,gR,iA,iq,hy,hn,O,hfit,I,S]
 rcases hW with z|⟨i2,b9,z2⟩
 exact bD z;refine bF ⟨i2,b9,?_⟩;rw[bE (λq=>hs id xs ys rfl (by rw[q];exact b9))];exact z2;intro i a c Y V;cases Y;exact hs id xs c rfl V;rw[bE (λq=>by subst q;rw[S] at h;cases h;exact bP _ _ _ rfl)];exact h
def vF(x:List bg):Prop:=∃nm cq i p cj a al mv ex,x=eH nm cq i p cj a al mv ex/\jg 5 cq/\jg 100001 mv/\ex.length<=100000000
def Vh(r:bg):Prop:=∃(x:List bg) (b:Bool),r=.bQ [.agg x,.v (.bool b)]/\vF x
def SV{b:Bool}{gs:List (List UInt8)}(hA:de J cq (gs.map bu) 1 9)(hg:gs.length<=5)(hm:jg 100001 mv)(he:ex.length<=100000000):
  ∃n bR,dh J n (.bQ [.agg (eH nm cq i p cj a al mv ex),.v (.bool b)])=a_ bR/\Vh bR:=by
 obtain⟨v',b9,z2⟩:=VE hA hg;obtain⟨n,hn⟩:=(fy (bG (j0 (bG (bH _) (bG b9 (bG (bH _) (bG (bH _) (bG (bH _) (bG (bH _) (bG (bH _) (bG (hm.fz J) (bG (bH _) c_)))))))))) (bG (bH (.bool b)) c_)):b_ J (.bQ [.agg (eH nm cq i p cj a al mv ex),.v (.bool b)]) _).done;exact⟨n,_,hn,_,b,rfl,nm,v',i,p,cj,a,al,mv,ex,rfl,z2,hm,he⟩
def Ka{X:List br}(h0:X[0]?=a_ (.cells gU bf)):bL X 9 (.mp 0 0) (.agg gU)=a_ (X.set 0 (.cells gU bf))/\bz (X.set 0 (.cells gU bf)) bh 9 (.mp 0 0)=a_ (.agg gU)/\∃n bR,dh (X.set 0 (.cells gU bf)) n (.bQ [.agg gU,.v (.bool bf)])=a_ bR/\Vh bR:=
 ⟨x6 h0 rfl (x:=gU) rfl rfl,(wC (bT (a:=.cells gU bf) (cK.1 h0).1)).2.2,SV (gs:=[]) (bD ⟨rfl,rfl⟩) af (zZ _) ag⟩
@[go_sem]def anf{h:List br}{k:Nat}(O:h[k]?=a_ (.cells (eH nm cq i p cj a al mv ex) bf)):bz h bf 1 (.mp k 5)=a_ (.v (.int .i64 a)):=by
 simp only[bz,O];rfl
def Ve(n:Nat)(h:List br)(bx:bg):Prop:=∃(l gs:List (List UInt8)) (nm:List UInt8) (cq:bg) (i p cj:Bool) (a:Int) (al:Bool) (mv:bg),h[0]?=a_ (.cells gU bf)/\h[1]?=a_ (.cells (eH nm cq i p cj a al mv []) bf)/\de h bx (l.map bu) 1 9/\l.length<=n/\de h cq (gs.map bu) 1 9/\gs.length<=4/\Sep bx cq/\jg 100001 mv
section
variable{G:Cells}
set_option maxHeartbeats 1000000 in
def aEr{v:bg}{ls:List (List UInt8)}(hv:cD v (ls.map bu))(RR:ku ls<=90000)(V:2<=ls.length):dM G bB 181 [v] Vh:=by
 refine en (aAY.go ?_);have c7:=J3 ls;have hw:∀w∈ls,w.length<=90000:=λw hm=>iz (amA hm) RR;obtain⟨n1,p8⟩:∃n,ls[1]?=a_ n:=⟨ls[1],cy aa⟩;have e1:ct 1 v (.v (.int .i64 1))=a_ (.fp [bu n1] 0):=hv.cB (i:=1) (x:=bu n1) (by simp[p8]) rfl;have f1:∀x:List UInt8,dN gU [(0,1,bu x),(4,1,.v (.bool bh))]=a_ (eH x .bp bf bf bh 0 bf .bp []):=λx=>rfl;have f0:dN gU []=a_ gU:=rfl;have hz:[cR (.string ⟨[].toArray⟩),.bp,.v (.bool bf),.v (.bool bf),.v (.bool bf),.v (.int .i64 0),.v (.bool bf),.bp,.v (.string ⟨[].toArray⟩)]=gU:=rfl;have s1:bL [.cells gU bf,.cells gU bf] 9 (.mp 1 0) (.agg (eH n1 .bp bf bf bh 0 bf .bp []))=a_ [.cells gU bf,.cells (eH n1 .bp bf bf bh 0 bf .bp []) bf]:=x6 (k:=1) rfl rfl rfl rfl;have ln:=hv.cG;rw[cS] at ln;have l5:∀J,cG v J=a_ (.v (.int .i64 (ls.length:Int)),J):=λJ=>aL0
 obtain⟨aLe,t0,wu⟩:∃(a b:Nat),v=.sl (ls.map bu) .no:=by
  rcases hv with z|⟨_,z⟩
  exact⟨0,0,z⟩;have:ls=[]:=aN
  rw[this] at V;simp at V
 refine O6 @hz @e1 @f1 @s1 @gM.{0} @gB.{0} @iG.{0} @eZ.{0} ?_;refine c8 (λn e h=>∃bx:bg,e=[(0,v),(2,.mp 0 0),(4,.mp 1 0),(5,bx),(6,.v (.int .i64 ((2+n:Nat):Int)))]/\Ve n h bx) (ls.length-2)
  ⟨.bp,rfl,[],[],n1,.bp,bf,bf,bh,0,bf,.bp,rfl,rfl,tA _ _ _,af,tA _ _ _,af,(by intro id xs ys q;cases q),zZ _⟩ ?_ ?_
 · rintro n e h hn ⟨bx,rfl,l,gs,nm,cq,ib,pb,cj,cA,al,mv,h0,Y,hA,hl,Ej,kS,gH,lE⟩
   obtain⟨w,ED⟩:∃w,ls[2+n]?=a_ w:=⟨ls[2+n]' aa,cy aa⟩;have EE:=hw w (cv ED);have e2:ct 1 v (.v (.int .i64 ((2+n:Nat):Int)))=a_ (.fp [bu w] 0):=hv.cB (x:=bu w) (by simp[ED]) rfl;have wn:cN.wrap (((2+n:Nat):Int)+1)=((2+(n+1):Nat):Int):=by rw[jZ aa];rfl
   have Hu:decide (((2+n:Nat):Int)<(ls.length:Int))=bh:=lR aa;have auR:dR .eql (bu w) (.v (.string ⟨[58].toArray⟩))=a_ (.v (.bool (w==[58]))):=oZ w [58];have MC:=(cK.1 Y).1;have Rp:cu cq=bh:=(At Ej).1;refine mH @l5 @Hu @e2 @auR ?_;refine cM (λq=>?_) λq=>?_;have auE:∀J,rz 1 v (a_ (.v (.int .i64 ((2+(n+1):Nat):Int)))) bn bn J=a_ (.sl ((ls.drop (2+(n+1))).map bu) .no,J):=λJ=>by
    rw[wu,List.map_drop];exact TG ah TZ J
   have hd:=Zp ls (2+(n+1));refine jB @q @wn @auE ?_;refine jE (az2 (v:=.sl ((ls.drop (2+(n+1))).map bu) .no) (bD rfl) aa) (bY (qX (bD rfl)) dw) ?_;rintro r ⟨t,rfl,ht⟩;refine fJ ?_;refine jE (anW t aa) (bY (tT _) dw) ?_;rintro r ⟨v2,ps,Ti,xF,rfl,hE⟩;have Zo:=hE.v.cG;rw[cS] at Zo;have aDl:∀J,cG v2 J=a_ (.v (.int .i64 (ps.length:Int)),J):=λJ=>by rw[Zo J,j9]
   have iC:=bT (a:=.cells (eH nm cq ib pb bf cA al mv []) bf) MC;have vX:(h.set 1 (.cells (eH nm cq ib pb bf cA al mv []) bf))[0]?=a_ (.cells gU bf):=by rw[bE aa];exact h0
   have W9:=j7 (cs':=eH nm cq ib pb bf cA al mv []) Ej Y;have kA:=anj Y bf;generalize h.set 1 (.cells (eH nm cq ib pb bf cA al mv []) bf)=g at iC vX W9 kA;refine nc @kA @aDl ?_;refine cM (λbt=>?_) λbt=>?_;have bP:ps≠[]:=by intro z;rw[z] at bt;simp at bt
   refine e6 @bt ?_;refine jE (aGT hE aa bP) (bY (B9 hE) dw) ?_;rintro r ⟨tx,rfl,aiZ⟩;have uw:=anl iC tx;have axJ:=(cK.1 iC).1;have iS:=bT (a:=.cells (eH nm cq ib pb bf cA al mv tx) bf) axJ;have p0:(g.set 1 (.cells (eH nm cq ib pb bf cA al mv tx) bf))[0]?=a_ (.cells gU bf):=by rw[bE aa];exact vX
   have avT:=j7 (cs':=eH nm cq ib pb bf cA al mv tx) W9 iC;have oJ:=x6 p0 rfl (x:=eH nm cq ib pb bf cA al mv tx) rfl (HB Rp lE.one.1);have k0:=bT (a:=.cells (eH nm cq ib pb bf cA al mv tx) bf) (cK.1 p0).1;refine mH @uw ((wC iS).2.2) @oJ ((wC k0).2.2) ?_;exact SV (j7 avT p0) aa lE aa;have oJ:=x6 vX rfl (x:=eH nm cq ib pb bf cA al mv []) rfl (HB Rp lE.one.1);have k0:=bT (a:=.cells (eH nm cq ib pb bf cA al mv []) bf) (cK.1 vX).1;refine mH @bt ((wC iC).2.2) @oJ ((wC k0).2.2) ?_;exact SV (j7 W9 vX) aa lE ag;obtain⟨v',y1,fR,mc⟩:=B5 hA DT;obtain⟨aKk,x1,x2,x3⟩:=B5 Ej DT;refine nc @q @e2 ?_;refine jE (afS w aa) (bY (tT _) dw) ?_;rintro r ⟨a,b,f,rfl,p4,RA⟩;refine fJ ?_;refine jE (Rx y1 aa a) (bY fR (bY (tT _) dw)) ?_;rintro r ⟨c0,rfl⟩;obtain⟨cl,g,p1,pA,aar,anV,_,_,jA⟩:=aen (x:=bu a) (bW:=16) hA Ej gH (zA l) rfl ag ag ah;have k0:=jA _ _ h0 af;have k1:=jA _ _ Y af;have Oe:de g cl ((l++[a]).map bu) 1 9:=by rw[gC];exact pA
   have ab:∀z:List UInt8,e4 1 [bu z]=a_ (.sl [bu z] .exact):=λz=>rfl;have L9:dR .eql (bu a) (.v (.string ⟨[103,114,111,117,112].toArray⟩))=a_ (.v (.bool (a==[103,114,111,117,112]))):=oZ a [103,114,111,117,112];have agc:dR .eql (bu a) (.v (.string ⟨[105,110,108,105,110,101].toArray⟩))=a_ (.v (.bool (a==[105,110,108,105,110,101]))):=oZ a [105,110,108,105,110,101];have agf:dR .eql (bu a) (.v (.string ⟨[112,105,99,107].toArray⟩))=a_ (.v (.bool (a==[112,105,99,107]))):=oZ a [112,105,99,107];have ea:dR .eql (bu a) (.v (.string ⟨[97,116,116,114].toArray⟩))=a_ (.v (.bool (a==[97,116,116,114]))):=oZ a [97,116,116,114];have em:dR .eql (bu a) (.v (.string ⟨[109,97,114,107,115].toArray⟩))=a_ (.v (.bool (a==[109,97,114,107,115]))):=oZ a [109,97,114,107,115];have A_:=(cK.1 k1).1;have al8:(l++[a]).length<=n+1:=ah
   obtain⟨m1,m2,m3⟩:=Ka k0;clear jA h0 Y hA Ej;have amz:=F1 aar;rw[cS] at amz;have K:∀(i2 p2:Bool) (a2:Int) (iw:Bool) (l6:bg),jg 100001 l6->(g.set 1 (.cells (eH nm cq i2 p2 cj a2 iw l6 []) bf))[1]?=a_ (.cells (eH nm cq i2 p2 cj a2 iw l6 []) bf)/\(g.set 1 (.cells (eH nm cq i2 p2 cj a2 iw l6 []) bf))[0]?=a_ (.cells gU bf)/\Ve (n+1) (g.set 1 (.cells (eH nm cq i2 p2 cj a2 iw l6 []) bf)) cl:=λi2 p2 a2 iw l6 hm=>by
    have j1:(g.set 1 (.cells (eH nm cq i2 p2 cj a2 iw l6 []) bf))[1]?=a_ (.cells (eH nm cq i2 p2 cj a2 iw l6 []) bf):=bT A_;have Cy:(g.set 1 (.cells (eH nm cq i2 p2 cj a2 iw l6 []) bf))[0]?=a_ (.cells gU bf):=by rw[bE aa];exact k0
    exact⟨j1,Cy,l++[a],gs,nm,cq,i2,p2,cj,a2,iw,l6,Cy,j1,j7 Oe k1,al8,j7 aar k1,kS,anV,hm⟩
   obtain⟨aLm,aD4,aD5⟩:=K bh pb cA al mv lE;obtain⟨aLn,aD6,aD7⟩:=K ib bh cA al mv lE;obtain⟨aIt,aIu,aIw⟩:=Ka aD4;obtain⟨aIx,aIy,aIz⟩:=Ka aD6;have t2:=anh k1 bh;have t3:=ani k1 bh;have aEW:Sep cq cl:=λid xs ys Y V=>anV id ys xs V Y;obtain⟨D7,g5,r1,aFt,aFw,aFu,ro,rc,CV⟩:=aen (x:=bu b) (bW:=16) aar Oe aEW (zA gs) rfl ag ag ah;have Cy:=CV _ _ k0 af;have j1:=CV _ _ k1 af;have TW:=Z0 j1 ro rc;have GN:=(cK.1 j1).1;have b9:(g5.set 1 (.cells (eH nm D7 ib pb cj cA al mv []) bf))[1]?=a_ (.cells (eH nm D7 ib pb cj cA al mv []) bf):=bT GN;have z0:(g5.set 1 (.cells (eH nm D7 ib pb cj cA al mv []) bf))[0]?=a_ (.cells gU bf):=by rw[bE aa];exact Cy
   have aJg:de (g5.set 1 (.cells (eH nm D7 ib pb cj cA al mv []) bf)) D7 ((gs++[b]).map bu) 1 9:=by rw[gC];exact j7 aFt j1
   have aFv:Sep cl D7:=λid xs ys Y V=>aFu id ys xs V Y;have aJh:gs.length<4->Ve (n+1) (g5.set 1 (.cells (eH nm D7 ib pb cj cA al mv []) bf)) cl:=λh4=>
    ⟨l++[a],gs++[b],nm,D7,ib,pb,cj,cA,al,mv,z0,b9,j7 aFw j1,al8,aJg,ah,aFv,lE⟩
   obtain⟨Ua,u32,abZ⟩:=Ka z0;have NJ:=(wC k1).2.1;cases f with
   |false=>
    cases c0
    all_goals
     refine jB @ab @p1 @L9 ?_
     repeat' ((refine cM (λq=>?_) λq=>?_)<;>(have q':=q)<;>(simp -failIfUnchanged only[qm] at q')<;>(refine wR (eI @zU @vv @ab @p1) (eI @L9 @agc @agf @ea) (eI @em @mP @t2 @t3) (eI @f0 @m1 @m2 @aIt) @aIu @aIx @aIy @wn @q ?_))
    all_goals first
     |exact m3
     |exact aIw
     |exact aIz
     |exact⟨_,rfl,aD5⟩
     |exact⟨_,rfl,aD7⟩
   |true=>
    cases c0
    all_goals
     refine jB @ab @p1 @L9 ?_;refine cM (λaaK=>?_) λaaK=>?_
     · refine e6 @aaK ?_
       refine jE (ZR b aa) (bY (tT _) dw) ?_;rintro r ⟨b2,rfl⟩;cases b2 with
       |false=>
        refine pH @NJ @ab @r1 @TW @f0 @Ua @u32 ?_;exact abZ
       |true=>
        refine e6 @NJ ?_;refine jE (Rx x1 aa b) (bY x2 (bY (tT _) dw)) ?_;rintro r ⟨b3,rfl⟩;cases b3 with
        |true=>
         refine pH @NJ @ab @r1 @TW @f0 @Ua @u32 ?_;exact abZ
        |false=>
         refine wR @NJ @amz @ab @r1 @TW @f0 @Ua @u32 @wn ?_
         repeat' ((refine cM (λq=>?_) λq=>?_)<;>(have q':=q)<;>(simp -failIfUnchanged only[qm] at q')<;>(refine wR (eI @zU @vv @mP @NJ) @ab @r1 @TW @f0 @Ua @u32 @wn @q ?_))
         all_goals first
          |exact abZ
          |exact⟨_,rfl,aJh aa⟩
     refine nc @aaK @agc ?_;refine cM (λaoc=>?_) λaoc=>?_
     all_goals
      refine nc @aoc @agf ?_;refine cM (λaoe=>?_) λaoe=>?_
      all_goals
       refine nc @aoe @ea ?_;refine cM (λaaJ=>?_) λaaJ=>?_
       · refine e6 @aaJ ?_
         refine jE (ab7 b aa) (bY (tT _) dw) ?_;rintro r ⟨z,rfl,_,_⟩;obtain⟨w1,w2,w3⟩:=K ib pb z al mv lE;obtain⟨Ub,Uc,ab0⟩:=Ka w2;have t5:=ank k1 z;refine C_ @t5 (anf w1) @f0 @Ub @Uc @wn ?_
         repeat' ((refine cM (λq=>?_) λq=>?_)<;>(have q':=q)<;>(simp -failIfUnchanged only[qm] at q')<;>(refine pH @zU @vv @f0 @Ub @Uc @wn @q ?_))
         all_goals first
          |exact ab0
          |exact⟨_,rfl,w3⟩
       refine nc @aaJ @em ?_;refine cM (λBx=>?_) λBx=>?_
       · refine e6 @Bx ?_
         refine jE (Zm b aa) (bY (tT _) dw) ?_;rintro r ⟨iw,gS,ok,rfl,uZ⟩;obtain⟨w1,w2,w3⟩:=K ib pb cA iw gS uZ;obtain⟨Ub,Uc,ab0⟩:=Ka w2;have t6:=Z1 k1 iw;have i1:=bT (a:=.cells (eH nm cq ib pb cj cA iw mv []) bf) A_;have t7:=Z2 i1 uZ.one.1 uZ.one.2;rw[arE] at t7;cases ok
         all_goals
          refine C_ @t6 @t7 @f0 @Ub @Uc @wn ?_
          first
           |exact ab0
           |exact⟨_,rfl,w3⟩
       refine mH @Bx @f0 @m1 @m2 ?_;exact m3
 rintro e h ⟨bx,rfl,l,gs,nm,cq,ib,pb,cj,cA,al,mv,h0,Y,hA,hl,Ej,kS,gH,lE⟩;have Rp:cu cq=bh:=(At Ej).1;have oJ:=x6 h0 rfl (x:=eH nm cq ib pb cj cA al mv []) rfl (HB Rp lE.one.1);have k0:=bT (a:=.cells (eH nm cq ib pb cj cA al mv []) bf) (cK.1 h0).1;have Hu:decide (((2+(ls.length-2):Nat):Int)<(ls.length:Int))=bf:=q2 aa;refine qK @l5 @Hu ((wC Y).2.2) @oJ ((wC k0).2.2) ?_;exact SV (j7 Ej h0) aa lE ag
end
end
section
variable{x:List bg}
def vF.ok(h:vF x):x.length=9/\x.all cu=bh/\∃nm,x[0]?=a_ (bu nm):=by
 obtain⟨nm,cq,i,p,cj,a,al,mv,ex,rfl,hg,hm,_⟩:=h;exact⟨rfl,HB hg.one.1 hm.one.1,nm,rfl⟩
abbrev adb:=uH 130 192 vF
structure FK(bC mv:bg)(cC marks:List (List bg))(h:List br):Prop where
 n:de h bC (cC.map dG) 9 130
 m:de h mv (marks.map dG) 4 192
 mX:∀x∈cC,vF x
 ia:∀x∈marks,om x
 nl:cC.length<=24
 ml:marks.length<=8
def adi(J bl:List br):Prop:=J.length<=bl.length/\∀(j:Nat) Z fz,J[j]?=a_ (.cells Z fz)->bl[j]?=a_ (.cells Z fz)
def ady(J:List br)(r:bg)(bl:List br):Prop:=∃bC mv cC marks,∃e:Int,r=.bQ [.agg [bC,mv],.v (.int .i64 e)]/\FK bC mv cC marks bl/\adi J bl
structure Ab(J:List br)(K:Nat)(bC mv:bg)(cC marks:List (List bg))(g:List br):Prop where
 s:adb K bC mv cC marks g
 r:g[K+1]?=a_ (.cells [.bp,.bp] bf)
 ge:J.length<=K
 fr:adi J g
section
variable{J:List br}{K:Nat}{bC mv:bg}{cC marks:List (List bg)}{g:List br}
def Ab.app{x:List br}(s:Ab J K bC mv cC marks g):Ab J K bC mv cC marks (g++x):=⟨s.s.app,bS s.r,s.ge,⟨by have:=s.fr.1;simp;omega,λj Z fz h=>bS (s.fr.2 j Z fz h)⟩⟩
def Ab.put(s:Ab J K bC mv cC marks g){kJ n7:bg}{N4 NS:List (List bg)}{g':List br}(hk:adb K kJ n7 N4 NS g')(hB:iZ K g g'):Ab J K kJ n7 N4 NS g':=
 ⟨hk,hB.2 _ _ _ aa s.r,s.ge,⟨iz s.fr.1 hB.1,λj Z fz h=>by
  have hj:=gl h;have hg:=s.ge;exact hB.2 _ _ _ aa (s.fr.2 j Z fz h)⟩⟩
def Ab.ret(s:Ab J K bC mv cC marks g):bL g 2 (.mp (K+1) 0) (.agg [bC,mv])=a_ (g.set (K+1) (.cells [bC,mv] bf))/\bz (g.set (K+1) (.cells [bC,mv] bf)) bh 2 (.mp (K+1) 0)=a_ (.agg [bC,mv])/\∀e:Int,ady J (.bQ [.agg [bC,mv],.v (.int .i64 e)]) (g.set (K+1) (.cells [bC,mv] bf)):=by
 have o1:=At s.s.n;have o2:=At s.s.m;have hl:=gl s.r;have hg:=s.ge;have hs:=bT (a:=.cells [bC,mv] bf) hl;refine⟨?_,?_,λe=>⟨bC,mv,cC,marks,e,rfl,⟨j7 s.s.n s.r,j7 s.s.m s.r,s.s.mX,s.s.ia,s.s.nl,s.s.ml⟩,⟨by have:=s.fr.1;simp;omega,λj Z fz h=>?_⟩⟩⟩;simp only[bL,s.r,fD];have e:(dG [bC,mv]).cells=[bC,mv]:=rfl;rw[e];simp[o1.1,o2.1,d_];simp only[bz,hs];rfl;have hj:=gl h;rw[bE aa];exact s.fr.2 j Z fz h
end
section
variable{G:Cells}
def ast{v:bg}{ls:List (List UInt8)}(hv:cD v (ls.map bu))(T:eY v)(RR:ku ls<=90000){bC mv:bg}{cC marks:List (List bg)}{J:List br}(jT:FK bC mv cC marks J):cw G bB 103 [.agg [bC,mv],v] J (ady J):=by
 refine aAt.go ?_;have c7:=J3 ls;have hw:∀w∈ls,w.length<=90000:=λw hm=>iz (amA hm) RR;have ln:=hv.cG;rw[cS] at ln;have ai7:[cR (.string ⟨[].toArray⟩),.v (.int .i64 0),.v (.bool bf),.bp]=gy:=rfl;have Nu:[cR (.string ⟨[].toArray⟩),.bp,.v (.bool bf),.v (.bool bf),.v (.bool bf),.v (.int .i64 0),.v (.bool bf),.bp,.v (.string ⟨[].toArray⟩)]=gU:=rfl;refine eN (λe g=>e=[(1,v),(2,.mp J.length 0),(4,.mp (J.length+1) 0)]/\Ab J J.length bC mv cC marks g) ?_ ?_;refine iD @ek.{0} ?_;have b0:(J++[bw [bC,mv] bf]++[bw [.bp,.bp] bf])[J.length]?=a_ (.cells [bC,mv] bf):=bS af;have b1:(J++[bw [bC,mv] bf]++[bw [.bp,.bp] bf])[J.length+1]?=a_ (.cells [.bp,.bp] bf):=af
 have A:Ab J J.length bC mv cC marks (J++[bw [bC,mv] bf]++[bw [.bp,.bp] bf]):=⟨⟨b0,jT.n.ext.ext,jT.m.ext.ext,jT.mX,jT.ia,jT.nl,jT.ml⟩,b1,cc _,⟨af,λj Z fz h=>bS (bS h)⟩⟩
 first|exact⟨rfl,A⟩|exact⟨trivial,A⟩
 rintro e g ⟨rfl,A⟩;generalize J.length=K at A;obtain⟨r1,r2,jn⟩:=A.ret;have Zk:=A.s.fT.2.2;refine wy (cM (λq=>?_) λq=>?_);exact oO @q @Zk @r1 @r2 (jn _);have V:2<=ls.length:=aq
 obtain⟨n1,p8⟩:∃n,ls[1]?=a_ n:=⟨ls[1],cy aa⟩;obtain⟨n0,pg⟩:∃n,ls[0]?=a_ n:=⟨ls[0],cy aa⟩;have e1:ct 1 v (.v (.int .i64 1))=a_ (.fp [bu n1] 0):=hv.cB (i:=1) (x:=bu n1) (by simp[p8]) rfl;have e0:ct 1 v (.v (.int .i64 0))=a_ (.fp [bu n0] 0):=hv.cB (i:=0) (x:=bu n0) (by simp[pg]) rfl;have w1:=hw n1 (cv p8);have k1:dR .neq (bu n0) (.v (.string ⟨[110,111,100,101].toArray⟩))=a_ (.v (.bool !(n0==[110,111,100,101]))):=zx n0 [110,111,100,101];have k2:dR .neq (bu n0) (.v (.string ⟨[109,97,114,107].toArray⟩))=a_ (.v (.bool !(n0==[109,97,114,107]))):=zx n0 [109,97,114,107];have gp:dR .eql (bu n0) (.v (.string ⟨[109,97,114,107].toArray⟩))=a_ (.v (.bool (n0==[109,97,114,107]))):=oZ n0 [109,97,114,107];refine wy ?_;refine eo (ZR n1 aa) ?_;rintro r ⟨b,rfl⟩;cases b with
 |false=>
  exact fu @Zk @r1 @r2 (jn _)
 |true=>
  have Jk:n0=[109,97,114,107]\/n0=[110,111,100,101]\/((n0==[110,111,100,101])=bf/\(n0==[109,97,114,107])=bf):=by
   by_cases x:n0=[109,97,114,107];exact bD x;by_cases y:n0=[110,111,100,101];exact bF (bD y);exact bF (bF ⟨by simpa using y,by simpa using x⟩)
  rcases Jk with x|x|⟨x,y⟩
  have b9:(n0==[110,111,100,101])=bf:=by rw[x];rfl
  have z2:(n0==[109,97,114,107])=bh:=by rw[x];rfl
  refine vr @e0 @k1 @k2 @gp @b9 @z2 ?_;refine eo (aDL hv aa (λw hm=>by have:=hw w hm;omega) V) ?_;rintro r ⟨x,ok,rfl,I⟩;obtain⟨oA,p_,nm,q6⟩:=I.ok;have nn:=ZN g oA p_;have A1:=A.app (x:=[bw x bf]);have kx:(g++[bw x bf])[g.length]?=a_ (.cells x bf):=af
  refine wy ?_;generalize g.length=m at kx⊢;generalize g++[bw x bf]=g1 at A1 kx⊢;obtain⟨s1,s2,eA⟩:=A1.ret;obtain⟨d0,d1,d2⟩:=A1.s.fT;have n3:=A1.s.ml;cases ok with
  |false=>
   exact fu @d2 @s1 @s2 (eA _)
  |true=>
   refine wy ?_;refine c8 (λj e h=>e=[(2,.mp K 0),(4,.mp (K+1) 0),(6,.mp m 0),(8,bq j)]/\h=g1) marks.length ⟨rfl,rfl⟩ ?_ ?_;rintro j e h hj ⟨rfl,rfl⟩;obtain⟨y,hy⟩:=cO hj;obtain⟨Cv,JU,SU,RY⟩:=(A1.s.ia y (cv hy)).ok;have n6:=(Au A1.s.m).cB hy Cv;refine tv ((Au A1.s.m).len) (cM (λmZ=>?_) λmZ=>?_);exact oO @mZ @d2 @s1 @s2 (eA _);exact wx rt;rintro e h ⟨rfl,rfl⟩;refine tv ((Au A1.s.m).len) (cM (λmZ=>?_) λmZ=>?_);exact oO @mZ @d2 @s1 @s2 (eA _);obtain⟨n7,g4,p1,p2,p3,jA⟩:=A1.s.an8 I (by simp at mZ;omega);have lx:bz h bh 4 (.mp m 0)=a_ (.agg x):=by
    simp only[bz,kx];unfold fh;rw[if_pos rfl,if_pos aa,pL,oe aa]
   have ab:e4 4 [.agg x]=a_ (.sl [.agg x] .exact):=by
    have:=wE (n:=4) (xs:=[x]) λy hy=>aL_
    simp only[fc,kM] at this;simp[e4,this]
   have Le:=A1.put p3 jA;obtain⟨t1,t2,t3⟩:=Le.ret;exact ng @mZ @d1 @lx @ab @p1 @p2 @Le.s.fT.2.2 @t1 @t2 (t3 _)
  have b9:(n0==[110,111,100,101])=bh:=by rw[x];rfl
  have z2:(n0==[109,97,114,107])=bf:=by rw[x];rfl
  refine vr @e0 @k1 @k2 @gp @b9 @z2 ?_;refine eo (aEr hv RR V) ?_;rintro r ⟨x,ok,rfl,I⟩;obtain⟨oA,p_,nm,q6⟩:=I.ok;have nn:=N3 g oA p_;have A1:=A.app (x:=[bw x bf]);have kx:(g++[bw x bf])[g.length]?=a_ (.cells x bf):=af
  refine wy ?_;generalize g.length=m at kx⊢;generalize g++[bw x bf]=g1 at A1 kx⊢;obtain⟨s1,s2,eA⟩:=A1.ret;obtain⟨d0,d1,d2⟩:=A1.s.fT;have zf:=A1.s.nl;cases ok with
  |false=>
   exact fu @d2 @s1 @s2 (eA _)
  |true=>
   refine wy (cM (λwH=>?_) λwH=>?_);exact oO @wH @d2 @s1 @s2 (eA _);refine wy ?_;refine c8 (λj e h=>e=[(2,.mp K 0),(4,.mp (K+1) 0),(9,.mp m 0),(11,bq j)]/\h=g1) cC.length ⟨rfl,rfl⟩ ?_ ?_;rintro j e h hj ⟨rfl,rfl⟩;obtain⟨y,hy⟩:=cO hj;obtain⟨Cv,JU,SU,RY⟩:=(A1.s.mX y (cv hy)).ok;have n6:=(Au A1.s.n).cB hy Cv;refine tv ((Au A1.s.n).len) (cM (λmZ=>?_) λmZ=>?_);exact oO @mZ @d2 @s1 @s2 (eA _);exact wx rt;rintro e h ⟨rfl,rfl⟩;refine tv ((Au A1.s.n).len) (cM (λmZ=>?_) λmZ=>?_);exact oO @mZ @d2 @s1 @s2 (eA _);obtain⟨kJ,g4,p1,p2,p3,jA⟩:=A1.s.an9 vF.ok I (by simp at mZ;omega);have lx:bz h bh 9 (.mp m 0)=a_ (.agg x):=by
    simp only[bz,kx];unfold fh;rw[if_pos rfl,if_pos aa,pL,oe aa]
   have ab:e4 9 [.agg x]=a_ (.sl [.agg x] .exact):=by
    have:=wE (n:=9) (xs:=[x]) λy hy=>aL_
    simp only[fc,kM] at this;simp[e4,this]
   have Le:=A1.put p3 jA;obtain⟨t1,t2,t3⟩:=Le.ret;exact ng @mZ @d0 @lx @ab @p1 @p2 @Le.s.fT.2.2 @t1 @t2 (t3 _)
  exact Ie @e0 @k1 @k2 @x @y @Zk @r1 @r2 (jn _)
end
end
section
variable{x:List bg}{X J:List br}{k:Nat}{a b:bg}
def vF.fz(h:vF x)(J:List br):b_ J (.agg x) (.agg x):=by
 obtain⟨nm,cq,i,p,cj,a,al,mv,ex,rfl,hg,hm,_⟩:=h;exact j0 (bG (bH _) (bG (hg.fz J) (bG (bH _) (bG (bH _) (bG (bH _) (bG (bH _) (bG (bH _) (bG (hm.fz J) (bG (bH _) c_)))))))))
def om.ahg(h:om x)(J:List br):b_ J (.agg x) (.agg x):=by
 obtain⟨nm,v,al,bv,rfl,O⟩:=h;exact j0 (bG (bH _) (bG (bH _) (bG (bH _) (bG (O.fz J) c_))))
def aoF{v:bg}{xs:List (List bg)}{n:Nat}{e:TypeId}(hA:de J v (xs.map dG) n e)(h:∀x∈xs,b_ J (.agg x) (.agg x)):∃v',b_ J v v'/\cD v' (xs.map dG):=by
 rcases hA with⟨rfl,z⟩|⟨id,rfl,_⟩
 exact⟨_,eB,bF ⟨rfl,z⟩⟩;exact⟨_,hD (fC.SD h),bD rfl⟩
structure rK(bC mv:bg)(cC marks:List (List bg)):Prop where
 n:cD bC (cC.map dG)
 m:cD mv (marks.map dG)
 mX:∀x∈cC,vF x
 ia:∀x∈marks,om x
 nl:cC.length<=24
 ml:marks.length<=8
def adf(r:bg):Prop:=∃bC mv cC marks,∃p e:Int,r=.bQ [.agg [bC,mv],.v (.int .i64 p),.v (.int .i64 e)]/\rK bC mv cC marks
def L5{bC mv:bg}{cC marks:List (List bg)}(h:FK bC mv cC marks J)(p e:Int):∃k bR,dh J k (.bQ [.agg [bC,mv],.v (.int .i64 p),.v (.int .i64 e)])=a_ bR/\adf bR:=by
 obtain⟨a,a1,a2⟩:=aoF h.n λx I=>(h.mX x I).fz J;obtain⟨b,b1,b2⟩:=aoF h.m λx I=>(h.ia x I).ahg J;obtain⟨k,S⟩:=(fy (bG (j0 (bG a1 (bG b1 c_))) (bG (bH (.int .i64 p)) (bG (bH (.int .i64 e)) c_))):b_ J _ _).done;exact⟨k,_,S,a,b,cC,marks,p,e,rfl,a2,b2,h.mX,h.ia,h.nl,h.ml⟩
def L6(J:List br):FK .bp .bp [] [] J:=⟨tA _ _ _,tA _ _ _,af,af,af,af⟩
@[go_sem]def KT{c d:bg}(h:X[k]?=a_ (.cells [a,b] bf))(Y:cu c=bh)(V:cu d=bh):bL X 2 (.mp k 0) (.agg [c,d])=a_ (X.set k (.cells [c,d] bf)):=by
 simp only[bL,h,fD];have e:(dG [c,d]).cells=[c,d]:=rfl;rw[e];simp[Y,V,d_]
@[go_sem]def T9(h:X[k]?=a_ (.cells [a,b] bf)):bz X bh 2 (.mp k 0)=a_ (.agg [a,b]):=by
 simp only[bz,h];rfl
section
variable{G:Cells}
def aEX(s:List UInt8)(hs:s.length<=1000000):dM G bB 58 [bu s] adf:=by
 refine en (aAb.go ?_);have f0:dN [.bp,.bp] []=a_ [.bp,.bp]:=rfl;have bad:∀X:List br,X[0]?=a_ (.cells [.bp,.bp] bf)->bL X 2 (.mp 0 0) (.agg [.bp,.bp])=a_ (X.set 0 (.cells [.bp,.bp] bf))/\bz (X.set 0 (.cells [.bp,.bp] bf)) bh 2 (.mp 0 0)=a_ (.agg [.bp,.bp]):=λX h=>
  ⟨KT h rfl rfl,T9 (bT (gl h))⟩
 refine wy ?_;refine eo (aDe s aa) ?_;rintro r ⟨v,p,e,rfl,l,hv,hl,hw⟩;have ln:=hv.cG;rw[cS] at ln;refine wy (cM (λq=>?_) λq=>?_);exact wy (L5 (L6 _) _ _);refine wy ?_;refine c8 (λi e h=>e=[(2,.mp 0 0),(5,v),(8,.mp 1 0),(9,bq i)]/\h[0]?=a_ (.cells [.bp,.bp] bf)/\∃bC mv cC marks,h[1]?=a_ (.cells [bC,mv] bf)/\FK bC mv cC marks h) l.length ⟨rfl,rfl,.bp,.bp,[],[],rfl,L6 _⟩ ?_ ?_;rintro i e h Q ⟨rfl,h0,bC,mv,cC,marks,Y,jT⟩;obtain⟨w,ED⟩:=cO Q;have EE:=hw w (cv ED);have e1:ct 1 v (.v (.int .i64 (i:Int)))=a_ (.fp [bu w] 0):=hv.cB (x:=bu w) (by simp[ED]) rfl;obtain⟨u1,u2⟩:=bad h h0;refine wy ?_;refine eo (aHi w aa) ?_;rintro r ⟨oa,e2,ws,rfl,Yy,aK3⟩;have aDn:=Yy.cG;rw[cS] at aDn;refine wy ?_;refine dn (λbt=>?_) λbt=>?_;refine wy ?_;refine dn (λbV=>?_) λbV=>?_;refine cm (ast Yy (qX Yy) aa jT) ?_;rintro r g ⟨kJ,n7,N4,NS,di,rfl,AY,hF⟩;have g0:=hF.2 _ _ _ h0;have g1:=hF.2 _ _ _ Y;have st:=KT g1 (At AY.n).1 (At AY.m).1;have k1:=bT (a:=.cells [kJ,n7] bf) (gl g1);have k0:(g.set 1 (.cells [kJ,n7] bf))[0]?=a_ (.cells [.bp,.bp] bf):=by rw[bE aa];exact g0
 have Xm:FK kJ n7 N4 NS (g.set 1 (.cells [kJ,n7] bf)):=⟨j7 AY.n g1,j7 AY.m g1,AY.mX,AY.ia,AY.nl,AY.ml⟩;refine wy ?_;refine dn (λfU=>?_) λfU=>?_;exact L5 (L6 _) _ _;exact⟨rfl,k0,kJ,n7,N4,NS,k1,Xm⟩
 · repeat' refine ba (λq'=>?_) λq'=>?_
   all_goals first
    |exact L5 (L6 _) _ _
    |exact⟨rfl,h0,bC,mv,cC,marks,Y,jT⟩
 · repeat' refine ba (λq'=>?_) λq'=>?_
   all_goals first
    |exact L5 (L6 _) _ _
    |exact⟨rfl,h0,bC,mv,cC,marks,Y,jT⟩
 rintro e h ⟨rfl,h0,bC,mv,cC,marks,Y,jT⟩;have st:=KT h0 (At jT.n).1 (At jT.m).1;have k0:=bT (a:=.cells [bC,mv] bf) (gl h0);have Xm:FK bC mv cC marks (h.set 0 (.cells [bC,mv] bf)):=⟨j7 jT.n h0,j7 jT.m h0,jT.mX,jT.ia,jT.nl,jT.ml⟩;exact oa (L5 Xm _ _)
end
end
section
variable{G:Cells}{bC mv a b c:bg}{cC marks:List (List bg)}
def agJ(hr:rK bC mv cC marks)(s:List UInt8):dM G bB 104 [.agg [bC,mv,a,b,c],bu s] (Ln (-1) 24):=by
 refine en (aAu.go ?_);have zf:=hr.nl;have ln:=hr.n.cG;rw[cS] at ln;refine wy (cM (λq=>?_) λq=>?_);refine wy ?_;exact uU ag ag;refine wy ?_;refine c8 (λi e h=>e=[(1,bu s),(2,.mp 0 0),(5,bq i)]/\h=[.cells [bC,mv,a,b,c] bf]) cC.length ⟨rfl,rfl⟩ ?_ ?_;rintro i e h Q ⟨rfl,rfl⟩;obtain⟨y,hy⟩:=cO Q;obtain⟨Cv,JU,SU,RY⟩:=(hr.mX y (cv hy)).ok;have n6:ct 9 bC (.v (.int .i64 (i:Int)))=a_ (.fp y 0):=hr.n.cB (x:=.agg y) aT (by exact Cv);refine wy ?_;refine dn (λbt=>?_) λbt=>?_;exact uU aa aa;exact⟨rfl,trivial⟩;rintro e h ⟨rfl,rfl⟩;refine wy ?_;exact uU ag ag
def agM(hr:rK bC mv cC marks)(s:List UInt8):dM G bB 105 [.agg [bC,mv,a,b,c],bu s] (Ln (-1) 24):=by
 refine en (aAv.go ?_);have n3:=hr.ml;have ln:=hr.m.cG;rw[cS] at ln;refine wy ?_;refine c8 (λi e h=>e=[(1,bu s),(2,.mp 0 0),(5,bq i)]/\h=[.cells [bC,mv,a,b,c] bf]) marks.length ⟨rfl,rfl⟩ ?_ ?_;rintro i e h Q ⟨rfl,rfl⟩;obtain⟨y,hy⟩:=cO Q;obtain⟨Cv,JU,SU,RY⟩:=(hr.ia y (cv hy)).ok;have n6:ct 4 mv (.v (.int .i64 (i:Int)))=a_ (.fp y 0):=hr.m.cB (x:=.agg y) aT (by exact Cv);refine wy ?_;refine dn (λbt=>?_) λbt=>?_;exact uU aa aa;exact⟨rfl,trivial⟩;rintro e h ⟨rfl,rfl⟩;refine wy ?_;exact uU ag ag
end
def xj(x:List bg):Prop:=∃(nm:List UInt8) (iv:bg) (l:List Int),x=[bu nm,iv]/\cD iv (l.map bq)/\eY iv/\l.length<=256/\∀z∈l,(0:Int)<=z/\z<256
section
variable{G:Cells}
def aDU{v:bg}{rows:List (List bg)}(hv:cD v (rows.map dG))(D:∀x∈rows,xj x)(hl:rows.length<=1000000000)(s:List UInt8):dM G bB 251 [v,bu s] Lo:=by
 refine en (aBn.go ?_);have ln:=hv.cG;rw[cS] at ln;have l5:∀J,cG v J=a_ (.v (.int .i64 (rows.length:Int)),J):=λJ=>aL0
 have bn:∀J:List br,∃k bR,dh J k .bp=a_ bR/\Lo bR:=λJ=>VG (l:=[]) (tA J 1 3) af af;refine wy ?_;refine c8 (λi e h=>e=[(0,v),(1,bu s),(5,bq i)]/\h=[]) rows.length ⟨rfl,rfl⟩ ?_ ?_;rintro i e h Q ⟨rfl,rfl⟩;obtain⟨y,hy⟩:=cO Q;obtain⟨nm,iv,l,rfl,zc,Jx,oz,Em⟩:=D y (cv hy);have n6:ct 2 v (.v (.int .i64 (i:Int)))=a_ (.fp [bu nm,iv] 0):=hv.cB (x:=.agg [bu nm,iv]) aT rfl;refine wy (cM (λbt=>?_) λbt=>?_);refine wy ?_;refine eo (aDh zc Jx aa) ?_;rintro r ⟨o,ho,rY,JG⟩;refine wy ?_
 rcases ho with rfl|⟨rfl,z⟩
 obtain⟨n,hn⟩:=(hD (t:=.no) (iE (f:=bq) (l:=o) λa _=>bH _):b_ [] _ _).done;exact⟨n,_,hn,o,bD rfl,rY,JG⟩;exact bn _;exact wx rt;rintro e h ⟨rfl,rfl⟩;exact gf @bq.eq_1 @l5 (bn _)
end
@[go_sem]def ang(h:List br){x:List bg}(I:vF x):bL (h++[bw gU bf]) 9 (.mp h.length 0) (.agg x)=a_ (h++[bw x bf]):=N3 h I.ok.1 I.ok.2.1
section
variable{G:Cells}{bC mv a b c:bg}{cC marks:List (List bg)}
def aEa(hr:rK bC mv cC marks)(hS:eY (.agg [bC,mv,a,b,c])):dM G bB 59 [.agg [bC,mv,a,b,c]] (Ln 0 14):=by
 refine en (aAc.go ?_);have zf:=hr.nl;have n3:=hr.ml;have Nu:[cR (.string ⟨[].toArray⟩),.bp,.v (.bool bf),.v (.bool bf),.v (.bool bf),.v (.int .i64 0),.v (.bool bf),.bp,.v (.string ⟨[].toArray⟩)]=gU:=rfl;have ln:=hr.n.cG;rw[cS] at ln;have l5:∀J,cG bC J=a_ (.v (.int .i64 (cC.length:Int)),J):=λJ=>aL0
 have lm:=hr.m.cG;rw[cS] at lm;have J0:∀h:List br,h[0]?=a_ (.cells [bC,mv,a,b,c] bf)->bz h bf 1 (.mp 0 0)=a_ bC/\bz h bf 1 (.mp 0 1)=a_ mv/\bz h bh 5 (.mp 0 0)=a_ (.agg [bC,mv,a,b,c]):=λh q=>by
  simp only[bz,q];exact⟨rfl,rfl,rfl⟩
 have strs:∀{n:Nat} {v:bg},jg n v->∃l:List (List UInt8),cD v (l.map bu)/\l.length<=n/\∀J,cG v J=a_ (.v (.int .i64 (l.length:Int)),J):=λ{n v} h=>by
  obtain⟨l,Y,V⟩:=h;have Sz:=Y.cG;rw[cS] at Sz;exact⟨l,Y,V,λJ=>by rw[Sz J,j9]⟩
 have node:∀i,i<cC.length->∃(y:List bg) (nm:List UInt8) (cq:bg) (ib pb cj:Bool) (a2:Int) (al:Bool) (l6:bg) (ex:List UInt8) (gs ms:List (List UInt8)),vF y/\y=eH nm cq ib pb cj a2 al l6 ex/\ct 9 bC (.v (.int .i64 (i:Int)))=a_ (.fp y 0)/\cD cq (gs.map bu)/\gs.length<=5/\(∀J,cG cq J=a_ (.v (.int .i64 (gs.length:Int)),J))/\cD l6 (ms.map bu)/\ms.length<=100001/\(∀J,cG l6 J=a_ (.v (.int .i64 (ms.length:Int)),J))/\(∀J,bz J bf 1 (.fp y 1)=a_ cq)/\(∀J,bz J bf 1 (.fp y 7)=a_ l6)/\(∀J,bz J bh 9 (.fp y 0)=a_ (.agg y)):=λi Q=>by
  have hy:cC[i]?=a_ cC[i]:=cy Q;generalize cC[i]=y at hy;have mD:=hr.mX y (cv hy);have n6:ct 9 bC (.v (.int .i64 (i:Int)))=a_ (.fp y 0):=hr.n.cB (x:=.agg y) aT aN0;have azb:=mD;obtain⟨nm,cq,ib,pb,cj,a2,al,l6,ex,rfl,hg,hm,_⟩:=azb;obtain⟨gs,g1,g2,g3⟩:=strs hg;obtain⟨ms,m1,m2,m3⟩:=strs hm;exact⟨_,nm,cq,ib,pb,cj,a2,al,l6,ex,gs,ms,mD,rfl,n6,g1,g2,g3,m1,m2,m3,λ_=>rfl,λ_=>rfl,λ_=>rfl⟩
 have l0:=(J0 [bw [bC,mv,a,b,c] bf] rfl);refine wy (cM (λq=>?_) λq=>?_);refine wy ?_;exact uU ag ag;refine wy ?_;refine c8 (λi e h=>e=[(1,.mp 0 0),(3,bq i)]/\h=[.cells [bC,mv,a,b,c] bf]) cC.length ⟨rfl,rfl⟩ ?_ ?_;rintro i e h Q ⟨rfl,rfl⟩;obtain⟨y,nm,cq,ib,pb,cj,a2,al,l6,ex,gs,ms,mD,Sa,n6,g1,g2,g3,m1,m2,m3,r1,ya,aaN⟩:=node i Q;refine wy ?_;refine c8 (λj e h=>e=[(1,.mp 0 0),(3,.v (.int .i64 (i:Int))),(4,bq j)]/\h=[.cells [bC,mv,a,b,c] bf]) gs.length ⟨rfl,rfl⟩ ?_ ?_;rintro j e h hj ⟨rfl,rfl⟩;obtain⟨w,hw⟩:=cO hj;have Sf:ct 1 cq (.v (.int .i64 (j:Int)))=a_ (.fp [bu w] 0):=g1.cB (x:=bu w) aMo rfl;refine nI @bq.eq_1 @n6 @r1 @g3 @Sf ?_;refine eo (agJ hr w) ?_;rintro r ⟨z,rfl,_,_⟩;refine wy ?_;refine dn (λbt=>?_) λbt=>?_;exact uU ag ag;exact⟨rfl,trivial⟩;rintro e h ⟨rfl,rfl⟩;refine oO @bq.eq_1 @n6 @r1 @g3 ?_
 first|exact⟨rfl,trivial⟩|trivial
 rintro e h ⟨rfl,rfl⟩;refine wy ?_;refine c8 (λi e h=>e=[(1,.mp 0 0),(5,bq i)]/\h[0]?=a_ (.cells [bC,mv,a,b,c] bf)) cC.length ⟨rfl,rfl⟩ ?_ ?_
 · rintro i e h Q ⟨rfl,h0⟩
   obtain⟨y,nm,cq,ib,pb,cj,a2,al,l6,ex,gs,ms,mD,Sa,n6,g1,g2,g3,m1,m2,m3,r1,ya,aaN⟩:=node i Q;obtain⟨b0,b1,b2⟩:=J0 h h0;have nn:=ang h mD;have n0:(h++[bw y bf])[0]?=a_ (.cells [bC,mv,a,b,c] bf):=bS h0;have qL:bz (h++[bw y bf]) bf 1 (.mp h.length 4)=a_ (.v (.bool cj)):=by
    rw[Sa];simp only[bz,gh (cc _),ni,nL];rfl
   have x2:bz (h++[bw y bf]) bf 1 (.mp h.length 2)=a_ (.v (.bool ib)):=by
    rw[Sa];simp only[bz,gh (cc _),ni,nL];rfl
   refine pH @bq.eq_1 @b0 @l5 @n6 @aaN @Nu @nn ?_;cases cj<;>cases ib
   all_goals repeat' ((refine cM (λq=>?_) λq=>?_)<;>(have q':=q)<;>(simp -failIfUnchanged only[qm] at q')<;>(refine C_ @mP @qL @x2 @zU @vv @q ?_))
   all_goals first
    |exact uU ag ag
    |exact⟨rfl,n0⟩
 rintro e h ⟨rfl,h0⟩;obtain⟨b0,b1,b2⟩:=J0 h h0;refine wy ?_;refine c8 (λi e g=>e=[(1,.mp 0 0),(7,bq i)]/\g=h) cC.length ⟨rfl,rfl⟩ ?_ ?_;rintro i e g Q ⟨rfl,rfl⟩;obtain⟨y,nm,cq,ib,pb,cj,a2,al,l6,ex,gs,ms,mD,Sa,n6,g1,g2,g3,m1,m2,m3,r1,ya,aaN⟩:=node i Q;refine wy ?_;refine c8 (λj e h=>e=[(1,.mp 0 0),(7,.v (.int .i64 (i:Int))),(8,bq j)]/\h=g) ms.length ⟨rfl,rfl⟩ ?_ ?_;rintro j e h hj ⟨rfl,rfl⟩;obtain⟨w,hw⟩:=cO hj;have Sf:ct 1 l6 (.v (.int .i64 (j:Int)))=a_ (.fp [bu w] 0):=m1.cB (x:=bu w) aMo rfl;refine BI @bq.eq_1 @b0 @b2 @n6 @ya @m3 @Sf ?_;refine eo (agM hr w) ?_;rintro r ⟨z,rfl,_,_⟩;refine wy ?_;refine dn (λbt=>?_) λbt=>?_;exact uU ag ag;exact⟨rfl,trivial⟩;rintro e h ⟨rfl,rfl⟩;refine nI @bq.eq_1 @b0 @n6 @ya @m3 ?_
 first|exact⟨rfl,trivial⟩|trivial
 rintro e g ⟨rfl,rfl⟩;refine wy ?_;refine c8 (λi e h=>e=[(1,.mp 0 0),(9,bq i)]/\h=g) marks.length ⟨rfl,rfl⟩ ?_ ?_;rintro i e h Q ⟨rfl,rfl⟩;have hy:marks[i]?=a_ marks[i]:=cy Q;generalize marks[i]=y at hy;have mD:=hr.ia y (cv hy);have n6:ct 4 mv (.v (.int .i64 (i:Int)))=a_ (.fp y 0):=hr.m.cB (x:=.agg y) aT aN0;obtain⟨nm,tq,al,bv,rfl,O⟩:=mD;obtain⟨ms,m1,m2,m3⟩:=strs O;have jn:∀J,bz J bf 1 (.fp (eX nm tq al bv) 3)=a_ bv:=λ_=>rfl;refine wy ?_;refine c8 (λj e g=>e=[(1,.mp 0 0),(9,.v (.int .i64 (i:Int))),(10,bq j)]/\g=h) ms.length ⟨rfl,rfl⟩ ?_ ?_;rintro j e g hj ⟨rfl,rfl⟩;obtain⟨w,hw⟩:=cO hj;have Sf:ct 1 bv (.v (.int .i64 (j:Int)))=a_ (.fp [bu w] 0):=m1.cB (x:=bu w) aMo rfl;refine wy ?_;refine eo (agM hr w) ?_;rintro r ⟨z,rfl,_,_⟩;refine wy ?_;refine dn (λbt=>?_) λbt=>?_;exact uU ag ag;exact wx rt;rintro e g ⟨rfl,rfl⟩;refine nI @bq.eq_1 @b1 @n6 @jn @m3 ?_
 first|exact⟨rfl,trivial⟩|trivial
 rintro e h ⟨rfl,rfl⟩;refine wy ?_;exact uU ag ag
end
section
variable{ps:List cT}
def auq(h:IB ps):∀(n f g:Nat) (i:Int),i.toNat<n->i.toNat<f->i.toNat<g->qZ ps f i=qZ ps g i:=by
 intro n
 induction n with
 |zero=>intro f g i h0;omega
 |succ n ih=>
  intro f g i h0 Y V;obtain⟨f,rfl⟩:∃f',f=f'+1:=⟨f-1,aa⟩;obtain⟨g,rfl⟩:∃g',g=g'+1:=⟨g-1,aa⟩;unfold qZ;cases J:ps[i.toNat]? with
  |none=>rfl
  |some p=>
   dsimp only;have e:(p.kids.map λk=>qZ ps f k)=p.kids.map λk=>qZ ps g k:=BU λk S=>by
    have:=h _ p J k S;exact ih f g k aa aa aa
   rw[e]
def afC(h:IB ps){i:Nat}{p:cT}(J:ps[i]?=a_ p):cnt ps (i:Int)=if p.kind=1 then 1 else(if p.kind=4 then p.many else 1)*(p.kids.map λk=>cnt ps k).sum:=by
 show qZ ps (i+1) (i:Int)=_;unfold qZ;rw[yw,J];dsimp only;have e:(p.kids.map λk=>qZ ps i k)=p.kids.map λk=>cnt ps k:=BU λk S=>by
  have:=h _ p J k S;exact auq h (i+1) i (k.toNat+1) k aa aa aa
 rw[e]
def aDC{G:Cells}{n0:Nat}{v:bg}(h:yG n0 v ps):∀(n i:Nat),i<n->i<ps.length->sz ps (i:Int)<=1000000000->cV G bB 111 [v,.v (.int .i64 (i:Int))] (.v (.int .i64 ((min (cnt ps (i:Int)) 257:Nat):Int))):=by
 intro n
 induction n with
 |zero=>intro i Q;omega
 |succ n ih=>
  intro i Q hl dF;obtain⟨p,eL⟩:=cO hl;have lX:=h.ok i p eL;have p9:=h.no p (cv eL);have hs:=T3 h.ok.kids eL;have e7:=T0 (λk=>sz ps k) p.kids;have T:=afC h.ok.kids eL;refine eM (aAB.go ?_);have e1:ct 5 v (.v (.int .i64 (i:Int)))=a_ (.fp p.cells 0):=h.v.cB (x:=p.bA) aM3 rfl;have e2:∀J,bz J bh 5 (.fp p.cells 0)=a_ (.agg p.cells):=λJ=>rfl;have s1:=zL [] p;rw[gM,gM] at s1;have z0:([]:List br).length=0:=rfl;rw[z0] at s1;have l0:bz [.cells p.cells bf] bf 1 (.mp 0 0)=a_ (.v (.int .i64 p.kind)):=rfl;have l1:bz [.cells p.cells bf] bf 1 (.mp 0 1)=a_ (.v (.int .i64 p.low)):=rfl;have l2:bz [.cells p.cells bf] bf 1 (.mp 0 2)=a_ (.v (.int .i64 p.high)):=rfl;have l4:bz [.cells p.cells bf] bf 1 (.mp 0 4)=a_ p.kv:=rfl;have lk:=zn p9 aa;refine wy (cM (λq=>?_) λq=>?_);have q':p.kind=1:=ak
  rw[T,if_pos q'];exact wy ((bH _).done);have q':p.kind≠1:=ak
  rw[if_neg q'] at T;refine wy ?_;refine c8 (λj e J=>e=[(0,v),(5,.mp 0 0),(6,.v (.int .i64 ((min ((p.kids.take j).map λk=>cnt ps k).sum 257:Nat):Int))),(7,bq j)]/\J=[.cells p.cells bf]) p.kids.length ⟨rfl,rfl⟩ ?_ ?_;rintro j e J hj ⟨rfl,rfl⟩;obtain⟨x,I⟩:=cO hj;obtain⟨x0,x1⟩:=lX.2 x (cv I);obtain⟨xn,rfl⟩:=pJ x0;have nV:ct 1 p.kv (.v (.int .i64 (j:Int)))=a_ (.fp [.v (.int .i64 (xn:Int))] 0):=by
   unfold cT.kv;split;rename_i z;rw[z] at I;simp at I;exact lN (x:=bq (xn:Int)) aN5 rfl
  have aHN:=zM (f:=λk=>sz ps k+1) I;have aHO:=C4 (λk=>sz ps k+1) p.kids (j+1);have wO:=zM (f:=λx=>cnt ps x) I;have m1:=J6 (min ((p.kids.take j).map λk=>cnt ps k).sum 257+min (cnt ps (xn:Int)) 257) 0;have mQ:min (min ((p.kids.take j).map λk=>cnt ps k).sum 257+min (cnt ps (xn:Int)) 257) 257=min ((p.kids.take (j+1)).map λk=>cnt ps k).sum 257:=by rw[wO];omega
  refine wy (ic (ih xn aa aa aa) (bY (B9 h) (bY (dD _) dw)) ?_);refine wx ?_
  first
   |exact⟨rfl,trivial⟩
   |exact⟨rfl,rfl⟩
  rintro e J ⟨rfl,rfl⟩;rw[od];refine wy ?_;generalize(p.kids.map λk=>cnt ps k).sum=hk at T⊢;by_cases CT:p.kind=4;rw[if_pos CT] at T;have O:Ix p.low p.high:=by
   rcases lX.1 with z|z|z
   omega;omega;exact z.2.2
  obtain⟨iC,iS,A3⟩:=O;have m0:qT bh [.v (.int .i64 p.low),.v (.int .i64 1)]=a_ (.v (.int .i64 (if(1:Int)>p.low then 1 else p.low))):=rfl;have p7:1<=p.many/\p.many<=20:=by
   unfold Fy;constructor<;>(split<;>(try split))<;>omega
  have ayx:min hk 257*p.many<=257*20:=Nat.mul_le_mul (Nat.min_le_right _ _) p7.2;have w1:cN.wrap (((min hk 257:Nat):Int)*(p.many:Int))=((min hk 257*p.many:Nat):Int):=by
   rw[<-Int.natCast_mul,fq aa aa]
  have mQ:min (min hk 257*p.many) 257=min (p.many*hk) 257:=by
   rcases Nat.le_total hk 257 with z|z
   rw[Lc z,acY];have V:257*p.many<=p.many*hk:=aNp
   rw[Nat.min_eq_right z];omega
  have m1:=J6 (min hk 257*p.many) 0;rw[mQ] at m1;rw[T];refine wy (cM (λiN=>?_) λiN=>?_);have Gj:(if(1:Int)>p.low then 1 else p.low)=(p.many:Int):=by
   have:p.high<0:=by simpa using iN
   unfold Fy;rw[if_pos this];split<;>omega
  rw[Gj] at m0;exact wy ((bH _).done);have Gj:p.high=(p.many:Int):=by
   have:¬p.high<0:=by simp at iN;omega
   unfold Fy;rw[if_neg this];omega
  rw[Gj] at l2;exact wy ((bH _).done);have n4:(p.kind==4)=bf:=by simpa using CT
  rw[if_neg CT,FF] at T;have m1:=J6 (min hk 257) 0;have mQ:min (min hk 257) 257=min hk 257:=aa
  rw[mQ] at m1;rw[T];exact wy ((bH _).done)
end
section
variable{v:bg}
noncomputable def RJ(y:List bg)(s:List UInt8):Bool:=@decide (∃xs,y[1]?=a_ (.sl xs .no)/\bu s∈xs) (aq0 _)
def aHG{a b:List UInt8}(h:bu a=bu b):a=b:=by
 unfold bu at h;simpa using h
def axX{y:List bg}{cq:bg}{gs:List (List UInt8)}(h:y[1]?=a_ cq)(hg:cD cq (gs.map bu))(s:List UInt8):RJ y s=gs.any (· ==s):=by
 unfold RJ;rw[Ij,@decide_eq_true_iff _ (aq0 _),Ir];constructor;rintro⟨xs,Y,V⟩;rw[h] at Y
 rcases hg with rfl|⟨rfl,_⟩
 cases Y;obtain⟨t,ht,e⟩:=dV.1 V;exact⟨t,ht,by rw[aHG e];simp⟩;cases Y;rintro⟨t,ht,e⟩;have:t=s:=aNo
 subst this
 rcases hg with rfl|⟨rfl,z⟩
 exact⟨_,h,dV.2 ⟨t,ht,rfl⟩⟩;have:gs=[]:=aN
 rw[this] at ht;cases ht
noncomputable def qu(cC:List (List bg))(s:List UInt8):Nat->List Int
 |0=>[]
 |i+1=>qu cC s i++(match cC[i]? with|some y=>if RJ y s then [((i+1:Nat):Int)] else []|none=>[])
def Xe(cC:List (List bg))(s:List UInt8):∀i,(qu cC s i).length<=i/\∀x∈qu cC s i,1<=x/\x<=(i:Int)
 |0=>⟨by simp[qu],by simp[qu]⟩
 |i+1=>by
  obtain⟨Y,V⟩:=Xe cC s i;unfold qu;split;split;refine⟨ah,λx I=>?_⟩
  rcases fA.1 I with z|z
  have:=V x z;omega;rw[dW.1 z];omega;rw[gV];exact⟨aa,λx I=>by have:=V x I;omega⟩;rw[gV];exact⟨aa,λx I=>by have:=V x I;omega⟩
def oB(l:List Int):bg:=match l with
 |[]=>.bp
 |_=>.sl (l.map bq) .no
def ajk(l:List Int):cD (oB l) (l.map bq):=by
 unfold oB;split;exact bF ⟨rfl,rfl⟩;exact bD rfl
def asY{J:List br}{l:List Int}(h:de J v (l.map bq) 1 3)(hn:l=[]->v=.bp):∃k,dh J k v=a_ (oB l):=by
 cases l with
 |nil=>
  rw[hn rfl];exact(eB:b_ J _ _).done
 |cons x r=>
  rcases h with⟨_,z⟩|⟨id,rfl,_⟩
  simp at z;exact(hD (t:=.tok id) (iE (f:=bq) (l:=x::r) λa _=>bH _):b_ J _ _).done
section
variable{G:Cells}{bC mv a b c:bg}{cC marks:List (List bg)}
def axh{l:List (List UInt8)}(hv:cD v (l.map bu))(hl:l.length<=1000000)(x:List UInt8):cV G bB 185 [v,bu x] (.v (.bool (l.any (· ==x)))):=by
 refine eM (akv.go ?_);have ln:=hv.cG;rw[cS] at ln;refine wy ?_;refine c8 (λi e h=>e=[(0,v),(1,bu x),(5,bq i)]/\h=[]/\∀j s,j<i->l[j]?=a_ s->(s==x)=bf) l.length ⟨rfl,rfl,λj s h=>aa⟩ ?_ ?_;rintro i e h Q ⟨rfl,rfl,hI⟩;obtain⟨s,hs⟩:=cO Q;have e1:ct 1 v (.v (.int .i64 (i:Int)))=a_ (.fp [bu s] 0):=hv.cB (x:=bu s) aNU rfl;refine wy ?_;refine dn (λq=>?_) λq=>?_;rw[show l.any (· ==x)=bh from Ir.2 ⟨s,cv hs,q⟩];exact(bH _).done;refine⟨rfl,trivial,λj t hj ht=>?_⟩
 rcases er j i with z|z
 exact hI j t z ht;rw[show j=i by omega,hs] at ht;cases ht;exact q;rintro e h ⟨rfl,rfl,hI⟩;refine wy ?_;rw[show l.any (· ==x)=bf from by
  rw[List.any_eq_false];intro s hm;obtain⟨j,hj,rfl⟩:=FC hm;rw[hI j _ hj (cy hj)];decide]
 exact(bH _).done
def awC(hr:rK bC mv cC marks)(s:List UInt8):cV G bB 109 [.agg [bC,mv,a,b,c],bu s] (oB (qu cC s cC.length)):=by
 refine eM (aAA.go ?_);have zf:=hr.nl;have ln:=hr.n.cG;rw[cS] at ln;refine wy ?_;refine c8 (λi e h=>∃bx:bg,e=[(1,bu s),(2,.mp 0 0),(5,bx),(6,bq i)]/\h[0]?=a_ (.cells [bC,mv,a,b,c] bf)/\de h bx ((qu cC s i).map bq) 1 3/\(qu cC s i=[]->bx=.bp)) cC.length ⟨.bp,rfl,rfl,tA _ _ _,λ_=>rfl⟩ ?_ ?_;rintro i e h Q ⟨bx,rfl,h0,hA,Nc⟩;obtain⟨y,hy⟩:=cO Q;have mD:=hr.mX y (cv hy);obtain⟨Cv,JU,SU,RY⟩:=mD.ok;have n6:ct 9 bC (.v (.int .i64 (i:Int)))=a_ (.fp y 0):=hr.n.cB (x:=.agg y) aT (by exact Cv);obtain⟨cq,Ek,Sz,lh⟩:∃cq,jg 5 cq/\(∀h,bz h bf 1 (.fp y 1)=a_ cq)/\y[1]?=a_ cq:=by
  obtain⟨nm,cq,i2,p2,cj,a2,al,l6,ex,rfl,hg,hm,_⟩:=mD;exact⟨cq,hg,λh=>rfl,rfl⟩
 obtain⟨gs,Ba,kS⟩:=Ek;have aKj:eY cq:=qX Ba;have wi:cN.wrap ((i:Int)+1)=((i+1:Nat):Int):=jZ aa;have aKI:=(Xe cC s i).1;obtain⟨cl,g,e1,fM,bP,_,S⟩:=nv (x:=.v (.int .i64 ((i+1:Nat):Int))) (bW:=8) hA (HD _) rfl ag ag ah;have g0:=S _ _ h0 λxs z=>by
  rcases hA with⟨b9,_⟩|⟨id,b9,z2⟩
  rw[b9] at z;cases z;rw[b9] at z;cases z;rw[h0] at z2;cases z2
 have hh:=axX lh Ba s;refine wy ?_;refine dx (axh Ba aa s) ?_;rw[<-hh];cases O:RJ y s with
 |false=>
  have tU:qu cC s (i+1)=qu cC s i:=by
   rw[qu,hy];simp[O]
  refine eO ?_;exact⟨bx,rfl,h0,by rw[tU];exact hA,by rw[tU];exact Nc⟩
 |true=>
  have tU:qu cC s (i+1)=qu cC s i++[((i+1:Nat):Int)]:=by
   rw[qu,hy];simp[O]
  refine gf @wi @e1 ?_;exact⟨cl,rfl,g0,by rw[tU,gC];exact fM,by rw[tU];intro z;simp at z⟩
 rintro e h ⟨bx,rfl,h0,hA,Nc⟩;exact wy (asY hA Nc)
end
end
section
variable{v:bg}{x:List bg}
def Dw(x:List bg):Prop:=∃(nm:List UInt8) (l:List Int),(x=[bu nm,oB l]\/x=[bu nm,.sl (l.map bq) .exact])/\l.length<=256/\∀z∈l,(0:Int)<=z/\z<256
def Gc{l:List Int}(h:cD v (l.map bq)):eY v:=by
 rcases h with rfl|⟨rfl,_⟩
 refine k4 λx I c T=>?_;obtain⟨t,_,rfl⟩:=dV.1 I;rw[dW.1 (show c∈[bq t] from T)];exact dD _;exact nA
def ajj(l:List Int):cu (oB l)=bh/\(oB l).cells=[oB l]:=by
 unfold oB;split<;>exact⟨rfl,rfl⟩
def azL(l:List Int)(J:List br):b_ J (oB l) (oB l):=by
 unfold oB;split;exact eB;exact hD (iE λa _=>bH _)
def Dw.ok(h:Dw x):x.length=2/\x.all cu=bh:=by
 obtain⟨nm,l,rfl|rfl,_,_⟩:=h;refine⟨rfl,?_⟩;simp only[pK,tC,(ajj l).1];rfl;exact⟨rfl,rfl⟩
def Dw.fz(h:Dw x)(J:List br):∃x',b_ J (.agg x) (.agg x')/\xj x':=by
 obtain⟨nm,l,rfl|rfl,Y,V⟩:=h;exact⟨_,j0 (bG (bH _) (bG (azL l J) c_)),nm,_,l,rfl,ajk l,Gc (ajk l),Y,V⟩;exact⟨[bu nm,.sl (l.map bq) .no],j0 (bG (bH _) (bG (hD (iE λa _=>bH _)) c_)),nm,_,l,rfl,bD rfl,Gc (bD rfl),Y,V⟩
def amU(J:List br):∀{xs:List (List bg)},(∀x∈xs,Dw x)->∃ys:List (List bg),fC J (xs.map dG) (ys.map dG)/\(∀y∈ys,xj y)/\ys.length=xs.length
 |[],_=>⟨[],c_,af,rfl⟩
 |x::r,h=>by
  obtain⟨x',a1,a2⟩:=(h x af).fz J;obtain⟨ys,b1,b2,b3⟩:=amU J (xs:=r) λy hy=>h y aT;refine⟨x'::ys,bG a1 b1,λy hy=>?_,by simp[b3]⟩
  rcases fo.1 hy with rfl|hy
  exact a2;exact b2 y hy
def ar0(n:Nat)(r:bg):Prop:=∃rows:List (List bg),cD r (rows.map dG)/\(∀x∈rows,xj x)/\rows.length<=n
section
variable{G:Cells}{bC mv a b c:bg}{cC marks:List (List bg)}
def aDT{n0:Nat}{ps:List cT}(hr:rK bC mv cC marks)(hS:eY (.agg [bC,mv,a,b,c]))(h:yG n0 v ps)(hn:n0<=1000000000):dM G bB 61 [.agg [bC,mv,a,b,c],v] (ar0 ps.length):=by
 refine en (aAe.go ?_);have hl:=h.len;have zf:=hr.nl;have ln:=h.v.cG;rw[cS] at ln;refine wy ?_;refine c8 (λi e h=>∃(xs:List (List bg)) (bx:bg),e=[(1,v),(2,.mp 0 0),(5,bx),(6,bq i)]/\h[0]?=a_ (.cells [bC,mv,a,b,c] bf)/\de h bx (xs.map dG) 2 205/\xs.length<=i/\∀x∈xs,Dw x) ps.length ⟨[],.bp,rfl,rfl,tA _ _ _,af,af⟩ ?_ ?_;rintro i e g Q ⟨xs,bx,rfl,h0,hA,s5,I⟩;obtain⟨p,J⟩:=cO Q;have e1:ct 5 v (.v (.int .i64 (i:Int)))=a_ (.fp p.cells 0):=h.v.cB (x:=p.bA) (by simp[J]) rfl;have l0:∀J,bz J bf 1 (.fp p.cells 0)=a_ (.v (.int .i64 p.kind)):=λJ=>rfl;have l3:∀J,bz J bf 1 (.fp p.cells 3)=a_ (bu p.name):=λJ=>rfl;have Zf:∀g:List br,g[0]?=a_ (.cells [bC,mv,a,b,c] bf)->bz g bh 5 (.mp 0 0)=a_ (.agg [bC,mv,a,b,c]):=λg q=>by
  simp only[bz,q];rfl
 refine rF (cM (λq=>?_) λq=>?_);refine dJ @q ?_;exact⟨xs,bx,rfl,h0,hA,aa,I⟩;refine wy ?_;refine⟨_,_,bY hS (bY (tT _) dw),awC hr p.name,?_⟩;obtain⟨gl,Gu⟩:=Xe cC p.name cC.length;have avm:dN [.v (.string ⟨[].toArray⟩),.bp] [(0,1,bu p.name),(1,1,oB (qu cC p.name cC.length))]=a_ [bu p.name,oB (qu cC p.name cC.length)]:=by
  generalize qu cC p.name cC.length=L;cases L<;>rfl
 generalize qu cC p.name cC.length=L at gl Gu avm⊢;have nn:bL (g++[bw [.v (.string ⟨[].toArray⟩),.bp] bf]) 2 (.mp g.length 0) (.agg [bu p.name,oB L])=a_ (g++[bw [bu p.name,oB L] bf]):=by
  rw[KT (k:=g.length) (a:=.v (.string ⟨[].toArray⟩)) (b:=.bp) af rfl (ajj L).1];simp
 have Jj:(g++[bw [bu p.name,oB L] bf])[0]?=a_ (.cells [bC,mv,a,b,c] bf):=bS h0;have kx:(g++[bw [bu p.name,oB L] bf])[g.length]?=a_ (.cells [bu p.name,oB L] bf):=af
 have vY:de (g++[bw [bu p.name,oB L] bf]) bx (xs.map dG) 2 205:=hA.ext;have MX:g.length≠0:=by have:=(cK.1 h0).1;omega
 refine wy ?_;generalize g++[bw [bu p.name,oB L] bf]=g1 at Jj kx vY⊢;generalize g.length=K at kx MX⊢;refine wy ?_;refine eo (agJ hr p.name) ?_;rintro r ⟨z,rfl,b9,z2⟩;have push:∀(g2:List br) (x:List bg),de g2 bx (xs.map dG) 2 205->g2[0]?=a_ (.cells [bC,mv,a,b,c] bf)->Dw x->∃cl g3,e4 2 [.agg x]=a_ (.sl [.agg x] .exact)/\ei g2 2 40 205 bx (.sl [.agg x] .exact)=a_ (cl,g3)/\g3[0]?=a_ (.cells [bC,mv,a,b,c] bf)/\de g3 cl ((xs++[x]).map dG) 2 205/\∀y∈xs++[x],Dw y:=λg2 x fM p0 EG=>by
  have Z7:cY 2 [dG x]=bh:=wE (xs:=[x]) λy hy=>by rw[dW.1 hy];exact EG.ok
  obtain⟨cl,g3,di,rT,_,_,S⟩:=nv (x:=dG x) (bW:=40) fM (wE λy hy=>(I y hy).ok) Z7 ag ag ah;refine⟨cl,g3,by simp[e4,Z7],di,S _ _ p0 λys w=>?_,by rw[gC];exact rT,λy hy=>?_⟩
  rcases fM with⟨w1,_⟩|⟨id,w1,w2⟩
  rw[w1] at w;cases w;rw[w1] at w;cases w;rw[p0] at w2;cases w2
  rcases fA.1 hy with w|w
  exact I y w;rw[dW.1 w];exact EG
 refine wy (cM (λbt=>?_) λbt=>?_);have ai6:0<=z:=aX
 have s1:bL g1 1 (.mp K 1) (.sl [.v (.int .i64 z)] .exact)=a_ (g1.set K (.cells [bu p.name,.sl [.v (.int .i64 z)] .exact] bf)):=by
  simp only[bL,kx];rfl
 have Hj:=bT (a:=.cells [bu p.name,.sl [.v (.int .i64 z)] .exact] bf) (cK.1 kx).1;have p0:(g1.set K (.cells [bu p.name,.sl [.v (.int .i64 z)] .exact] bf))[0]?=a_ (.cells [bC,mv,a,b,c] bf):=by rw[bE MX];exact Jj
 obtain⟨cl,g3,p1,p2,p3,jA,S9⟩:=push _ [bu p.name,.sl [.v (.int .i64 z)] .exact] (j7 vY kx) p0 ⟨p.name,[z],bF rfl,af,λy hy=>by rw[dW.1 hy];omega⟩;refine qK @bt @s1 (T9 Hj) @p1 @p2 ?_;exact⟨_,cl,rfl,p3,jA,ah,S9⟩;obtain⟨cl,g3,p1,p2,p3,jA,S9⟩:=push g1 [bu p.name,oB L] vY Jj ⟨p.name,L,bD rfl,aa,λy hy=>by have:=Gu y hy;omega⟩;refine oO @bt (T9 kx) @p1 @p2 ?_;exact⟨_,cl,rfl,p3,jA,ah,S9⟩;rintro e g ⟨xs,bx,rfl,h0,hA,s5,I⟩;refine wy ?_;obtain⟨ys,y1,fR,mc⟩:=amU g I
 rcases hA with⟨rfl,z⟩|⟨id,rfl,_⟩
 obtain⟨n,hn⟩:=(eB:b_ g _ _).done;exact⟨n,_,hn,[],bF ⟨rfl,rfl⟩,af,af⟩;obtain⟨n,hn⟩:=(hD (t:=.tok id) y1:b_ g _ _).done;exact⟨n,_,hn,ys,bD rfl,fR,aa⟩
end
end
section
variable{G:Cells}{bC mv a b c:bg}{cC marks:List (List bg)}
def aIb(hr:rK bC mv cC marks)(n:Int):dM G bB 186 [.agg [bC,mv,a,b,c],.v (.int .i64 n)] λr=>∃t:Bool,r=.v (.bool t)/\(t=bh->1<=n/\n<=(cC.length:Int)):=by
 refine en (az_.go ?_);have ln:=hr.n.cG;rw[cS] at ln;refine wy ?_;refine dn (λq=>?_) λq=>?_;refine wy ?_;obtain⟨k,S⟩:=(bH (.bool (decide (n<=(cC.length:Int)))):b_ [bw [bC,mv,a,b,c] bf] _ _).done;exact⟨k,_,S,_,rfl,λz=>⟨ak,aN⟩⟩;obtain⟨k,S⟩:=(bH (.bool bf):b_ [bw [bC,mv,a,b,c] bf] _ _).done;exact⟨k,_,S,_,rfl,λz=>by cases z⟩
def aEs(hr:rK bC mv cC marks)(n:Nat)(Y:1<=n)(V:n<=cC.length):dM G bB 187 [.agg [bC,mv,a,b,c],.v (.int .i64 (n:Int))] λr=>∃y,r=.agg y/\vF y:=by
 refine en (aBG.go ?_);have zf:=hr.nl;have Nu:[cR (.string ⟨[].toArray⟩),.bp,.v (.bool bf),.v (.bool bf),.v (.bool bf),.v (.int .i64 0),.v (.bool bf),.bp,.v (.string ⟨[].toArray⟩)]=gU:=rfl;obtain⟨y,hy⟩:∃y,cC[n-1]?=a_ y:=⟨cC[n-1]' aa,cy aa⟩;have mD:=hr.mX y (cv hy);have n6:ct 9 bC (.v (.int .i64 ((n-1:Nat):Int)))=a_ (.fp y 0):=hr.n.cB (x:=.agg y) aT aN0;have ly:=λJ=>sG.fT mD.ok.1 J;have st:bL [bw [bC,mv,a,b,c] bf,.cells gU bf] 9 (.mp 1 0) (.agg y)=a_ [.cells [bC,mv,a,b,c] bf,.cells y bf]:=x6 (k:=1) rfl rfl mD.ok.1 mD.ok.2.1;have la:bz [bw [bC,mv,a,b,c] bf,.cells y bf] bh 9 (.mp 1 0)=a_ (.agg y):=by
  obtain⟨nm,cq,i,p,cj,a2,al,l6,ex,rfl,_⟩:=mD;rfl
 refine wy ?_;obtain⟨k,S⟩:=(mD.fz [bw [bC,mv,a,b,c] bf,.cells y bf]).done;exact⟨k,_,S,y,rfl,mD⟩
def YH(hr:rK bC mv cC marks)(hS:eY (.agg [bC,mv,a,b,c]))(n:Int):dM G bB 110 [.agg [bC,mv,a,b,c],.v (.int .i64 n)] jR:=by
 refine en (aAa.go ?_);have Zf:bz [bw [bC,mv,a,b,c] bf] bh 5 (.mp 0 0)=a_ (.agg [bC,mv,a,b,c]):=rfl;refine wy ?_;refine dn (λq=>?_) λq=>?_;exact jj _;refine eo (aIb hr n) ?_;rintro r ⟨t,rfl,ht⟩;cases t with
 |false=>
  exact wy (jj _)
 |true=>
  obtain⟨Y,V⟩:=ht rfl;obtain⟨m,rfl⟩:=pJ (show 0<=n by omega);refine wy ?_;refine eo (aEs hr m aa aa) ?_;rintro r ⟨y,rfl,nm,cq,i,p,cj,a2,al,l6,ex,rfl,_⟩;have f:LI bf 1 2 (.agg (eH nm cq i p cj a2 al l6 ex))=a_ (.v (.bool i)):=rfl;exact wy (jj _)
end
end Go.Proofs.YtplgiomcbchjiaaGreatDoor

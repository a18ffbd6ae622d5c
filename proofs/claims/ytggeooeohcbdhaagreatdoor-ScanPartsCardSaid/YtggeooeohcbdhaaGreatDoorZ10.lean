/- Part 10 of a proof. No condition. -/
import Derived.Test.YtggeooeohcbdhaaGreatDoorZ9
set_option linter.unusedVariables false
set_option linter.unusedSimpArgs false
set_option linter.defProp false
open Bool renaming eq_iff_iff->Bl,not_false->rS,not_true->vU
open Classical renaming propDecidable->azF
open Go.aJ.U renaming agg->bT,cells->gm,one->bn,v->bP
open Go.aJ.bX renaming nil->qa
open Go.aJ.aa renaming cells->aj
open Go.aJ.qf renaming mk->bA
open Go.aJ.aE renaming mono->aZ,pure->dx,avB->gf
open Go.aJ renaming Clean->dn
open Go.aJ.aX renaming agg->iO,af->cS,sl->fj,aK->dR,v->aB
open Go.aJ.dD renaming cons->aA,map->gh,nil->bW
open Go.IntKind renaming i64->b7
open Go.Proofs.Tryz renaming prog->az
open Go.Proofs.YtggeooeohcbdhaaGreatDoor.bJ renaming aG->ox,cells->nR,many->Bs
open Go.Proofs.YtggeooeohcbdhaaGreatDoor.cg renaming aG->kF,cells->fH
open Go.Proofs.YtggeooeohcbdhaaGreatDoor.gi renaming nil->uE
open Int renaming eq_ofNat_of_zero_le->mJ,le_refl->nj,toNat_natCast->uG
open List renaming all_cons->lD,all_eq_true->c_,all_nil->oy,any_eq_true->F7,append_assoc->cq,append_nil->e4,cons_append->jW,drop_zero->nk,getElem?_append->V_,getElem?_append_left->ei,getElem?_append_right->er,getElem?_cons_zero->l6,getElem?_eq_getElem->br,getElem?_eq_none->hG,getElem?_eq_some_iff->bE,getElem?_map->eC,getElem?_set_ne->av,getElem?_set_self->aR,getElem_of_mem->DJ,length_append->cB,length_cons->dm,length_map->b_,length_nil->fQ,length_pos_iff->DK,length_singleton->nq,map_append->eX,map_congr_left->zv,map_cons->eD,map_map->we,map_nil->kX,mem_append->dZ,mem_cons->ek,mem_map->cO,mem_of_getElem?->bG,mem_singleton->cr,nil_append->eR,set_set->ajn,sum_append->ajo,sum_cons->wh,sum_nil->DL,take_add_one->Gc,take_append_drop->Wg,take_length->rV,take_of_length_le->kG
open Nat renaming add_assoc->lF,add_sub_cancel->Kg,add_zero->rW,eq_zero_or_pos->x8,le_refl->bl,le_trans->fk,lt_or_ge->cE,min_eq_left->Gd,mul_comm->Wi,one_mul->Bx,sub_self->kj,sub_zero->DM,zero_add->e5,zero_le->ic
open Or renaming inl->ay,inr->ax
namespace Go.Proofs.YtggeooeohcbdhaaGreatDoor
open Go Go.aJ Go.RowKit
section
variable{hp:List aa}
def DP(low high:Int):Prop:=0<=low/\low<=20/\(high= -1\/(1<=high/\high<=20/\low<=high))
def cg.tj(x:cg):Prop:=1<=x.kind/\x.kind<=5/\x.name.length<=12/\(x.kind=5->DP x.low x.high)
def Pu(a n:Nat)(r:U):Prop:=∃(x:cg) (p e:Int),r=.aK [x.aG,.v (.int .i64 p),.v (.int .i64 e)]/\(e=0->∃p':Nat,p=(p':Int)/\a<p'/\p'<=n/\x.tj)
def mm{a n:Nat}(x:cg){p e:Int}(h:e=0->∃p':Nat,p=(p':Int)/\a<p'/\p'<=n/\x.tj):∃k aQ,b9 hp k (.aK [.agg x.cells,.v (.int .i64 p),.v (.int .i64 e)])=some aQ/\Pu a n aQ:=by
 obtain⟨k,hk⟩:=(dR (aA (iO (aA (aB _) (aA (aB _) (aA (aB _) (aA (aB _) (aA (aB _) bW)))))) (aA (aB (.int .i64 p)) (aA (aB (.int .i64 e)) bW))):aX hp (.aK [.agg x.cells,.v (.int .i64 p),.v (.int .i64 e)]) _).done;exact⟨k,_,hk,x,p,e,rfl,h⟩
@[go_sem]def VF(z x:cg)(l:List aa):aF (.cells z.cells false::l) 5 (.mp 0 0) (.agg x.cells)=some (.cells x.cells false::l):=by
 rw[sR (k:=0) (cs:=z.cells) rfl rfl x];rfl
@[go_sem]def xS(x:cg)(l:List aa):aq (.cells x.cells false::l) true 5 (.mp 0 0)=some (.agg x.cells):=rL rfl
@[go_sem]def aiI(b:aa)(z x:cg)(l:List aa):aF (b:: .cells z.cells false::l) 5 (.mp 1 0) (.agg x.cells)=some (b:: .cells x.cells false::l):=by
 rw[sR (k:=1) (cs:=z.cells) rfl rfl x];rfl
@[go_sem]def Bi(b:aa)(x:cg)(l:List aa):aq (b:: .cells x.cells false::l) true 5 (.mp 1 0)=some (.agg x.cells):=rL rfl
@[go_sem]def aiH(b:aa)(k a lo hi n:Int)(w:List UInt8)(l:List aa):aF (b:: .cells (fH ⟨k,a,lo,hi,w⟩) false::l) 1 (.mp 1 2) (.v (.int .i64 n))=some (b:: .cells (fH ⟨k,a,n,hi,w⟩) false::l):=rfl
@[go_sem]def OD(b:aa)(k a lo hi n:Int)(w:List UInt8)(l:List aa):aF (b:: .cells (fH ⟨k,a,lo,hi,w⟩) false::l) 1 (.mp 1 3) (.v (.int .i64 n))=some (b:: .cells (fH ⟨k,a,lo,n,w⟩) false::l):=rfl
def zg:cg:=⟨0,0,0,0,[]⟩
def VE:fH zg=[.v (.int .i64 0),.v (.int .i64 0),.v (.int .i64 0),.v (.int .i64 0),.v (.string ⟨[].toArray⟩)]:=rfl
section
variable{G:Cells}
def alT(s:List UInt8)(hs:s.length<=1000000000)(aV:Nat)(ha:aV<s.length):cx G az 202 [ai s,.v (.int .i64 (aV:Int))] (Pu aV s.length):=by
 refine cR (asc.go ?_);have f1:cm [.v (.int .i64 0),.v (.int .i64 0),.v (.int .i64 0),.v (.int .i64 0),.v (.string ⟨[].toArray⟩)] [(0,1,.v (.int .i64 5)),(1,1,.v (.int .i64 (aV:Int)))]=some (fH ⟨5,aV,0,0,[]⟩):=rfl;have p1:=λb x l=>aiI b zg x l;have fF:=λx l=>VF zg x l;rw[VE] at p1 fF;refine wy ?_;refine aE.cY (afC s hs (aV+1) ha) ?_;rintro r ⟨m,p,rfl,hp,hm⟩;refine wy (bA (λq=>?_) λq=>?_);obtain⟨p',e,he,sp⟩:=OB (G:=G) s p;refine wy ?_;refine aE.pu sp ?_;exact wx (mm ⟨5,aV,0,0,[]⟩ λz=>absurd z he);have hm0:0<=m:=aBN
 have ok:∀hh:Int,m<=20->(hh= -1\/(1<=hh/\hh<=20/\m<=hh))->cg.tj ⟨5,aV,m,hh,[]⟩:=λhh Rl h=>⟨aCG,aD_,aC8,λ_=>⟨hm0,Rl,h⟩⟩;refine ni ?_
 repeat' ((refine bA (λq=>?_) λq=>?_)<;>(have q':=q)<;>(simp -failIfUnchanged only[lO] at q')<;>(refine fB @uc @tG @q ?_))
 all_goals first
  |(refine wx ?_
    exact mm ⟨5,aV,0,0,[]⟩ λz=>absurd z aBJ)
  |skip
 all_goals
  have Ih:m<=20:=aBH
  refine gV @aiH @OD @tG ?_
  repeat' ((refine bA (λq=>?_) λq=>?_)<;>(have q':=q)<;>(simp -failIfUnchanged only[lO] at q')<;>(refine fB @uc @tG @q ?_))
 all_goals first
  |(obtain⟨p',e,he,sp⟩:=OB (G:=G) s p
    refine aE.pu sp ?_;exact gV @Bi @fF @xS (mm ⟨5,aV,m,m,[]⟩ λz=>absurd z he))
  |skip
 all_goals first
  |(exfalso;omega)
  |(refine gV @Bi @fF @xS ?_
    exact mm ⟨5,aV,m,m,[]⟩ λ_=>⟨p+1,rfl,aBH,aBH,ok m Ih (ax ⟨aBH,aBH,aBH⟩)⟩)
  |skip
 all_goals
  refine fG @OD @tG ?_
  repeat' ((refine bA (λq=>?_) λq=>?_)<;>(have q':=q)<;>(simp -failIfUnchanged only[lO] at q')<;>(refine fB @uc @tG @q ?_))
 all_goals first
  |(exfalso;omega)
  |(refine gV @Bi @fF @xS ?_
    exact mm ⟨5,aV,m, -1,[]⟩ λ_=>⟨p+1+1,rfl,aBH,aBH,ok _ Ih (ay rfl)⟩)
  |skip
 all_goals
  refine aE.cY (afC s hs (p+1) aBH) ?_;rintro r ⟨k,p2,rfl,gE,hk⟩;refine fY (bA (λq=>?_) λq=>?_);obtain⟨p',e,he,sp⟩:=OB (G:=G) s p2;refine cV @q ?_;refine aE.pu sp ?_;exact gV @Bi @fF @xS (mm ⟨5,aV,m, -1,[]⟩ λz=>absurd z he);have hk0:0<=k:=aBN
  refine cV @q ?_
  repeat' ((refine bA (λq=>?_) λq=>?_)<;>(have q':=q)<;>(simp -failIfUnchanged only[lO] at q')<;>(refine fB @uc @tG @q ?_))
 all_goals first
  |(refine gV @Bi @fF @xS ?_
    exact mm ⟨5,aV,m, -1,[]⟩ λz=>absurd z aBJ)
  |skip
 all_goals
  refine fG @OD @tG ?_
  repeat' ((refine bA (λq=>?_) λq=>?_)<;>(have q':=q)<;>(simp -failIfUnchanged only[lO] at q')<;>(refine fB @uc @tG @q ?_))
 all_goals first
  |(exfalso;omega)
  |(refine gV @Bi @fF @xS ?_
    exact mm ⟨5,aV,m,k,[]⟩ λ_=>⟨p2+1,rfl,aBH,aBH,ok k Ih (ax ⟨aBH,aBH,aBH⟩)⟩)
  |(obtain⟨p',e,he,sp⟩:=OB (G:=G) s p2
    refine aE.pu sp ?_;exact gV @Bi @fF @xS (mm ⟨5,aV,m,k,[]⟩ λz=>absurd z he))
def afK(s:List UInt8)(hs:s.length<=1000000000)(aV:Nat)(ha:aV<s.length):cx G az 137 [ai s,.v (.int .i64 (aV:Int))] (Pu aV s.length):=by
 refine cR (arT.go ?_);have fz:cm [.v (.int .i64 0),.v (.int .i64 0),.v (.int .i64 0),.v (.int .i64 0),.v (.string ⟨[].toArray⟩)] []=some (fH zg):=rfl;have f1:∀w,cm [.v (.int .i64 0),.v (.int .i64 0),.v (.int .i64 0),.v (.int .i64 0),.v (.string ⟨[].toArray⟩)] [(0,1,.v (.int .i64 1)),(1,1,.v (.int .i64 (aV:Int))),(4,1,ai w)]=some (fH ⟨1,aV,0,0,w⟩):=λw=>rfl;have f2:∀k:Int,cm [.v (.int .i64 0),.v (.int .i64 0),.v (.int .i64 0),.v (.int .i64 0),.v (.string ⟨[].toArray⟩)] [(0,1,.v (.int .i64 k)),(1,1,.v (.int .i64 (aV:Int)))]=some (fH ⟨k,aV,0,0,[]⟩):=λk=>rfl;have f5:∀h:Int,cm [.v (.int .i64 0),.v (.int .i64 0),.v (.int .i64 0),.v (.int .i64 0),.v (.string ⟨[].toArray⟩)] [(0,1,.v (.int .i64 5)),(1,1,.v (.int .i64 (aV:Int))),(3,1,.v (.int .i64 h))]=some (fH ⟨5,aV,0,h,[]⟩):=λk=>rfl;have f6:cm [.v (.int .i64 0),.v (.int .i64 0),.v (.int .i64 0),.v (.int .i64 0),.v (.string ⟨[].toArray⟩)] [(0,1,.v (.int .i64 5)),(1,1,.v (.int .i64 (aV:Int))),(2,1,.v (.int .i64 1)),(3,1,.v (.int .i64 (-1)))]=some (fH ⟨5,aV,1, -1,[]⟩):=rfl;have fF:=λx l=>VF zg x l;rw[VE] at fF;have w1:b7.wrap ((aV:Int)+1)=((aV+1:Nat):Int):=jA aBH;have afI:∀w:List UInt8,w.length<=12->cg.tj ⟨1,aV,0,0,w⟩:=λw hw=>⟨(by show(1:Int)<=1;decide),aCG,hw,λq=>absurd (show(1:Int)=5 from q) aBJ⟩;have TP:∀k:Int,1<=k->k<=4->cg.tj ⟨k,aV,0,0,[]⟩:=λk h1 h2=>⟨h1,(by show k<=5;omega),aC8,λq=>absurd (show k=5 from q) aBH⟩;have TM:∀lo hi:Int,DP lo hi->cg.tj ⟨5,aV,lo,hi,[]⟩:=λlo hi h=>⟨aCG,aD_,aC8,λ_=>h⟩;refine wx ?_;refine aE.pu (U1 (me s aV:Int)) ?_;cases Sm:(decide ((97:Int)<=(me s aV:Int))&&decide ((me s aV:Int)<=122)) with
 |true=>
  refine wy ?_;refine mF (n:=s.length-aV) (λm e h=>∃i:Nat,m=s.length-i/\aV<=i/\i<=aV+12/\i<=s.length/\e=[(0,ai s),(1,.v (.int .i64 (aV:Int))),(4,.mp 0 0),(8,ag i)]/\h=[.cells (fH zg) false]) ⟨aV,rfl,aBH,aBH,aBH,rfl,rfl⟩ ?_;rintro m e h ⟨i,rfl,hi,hi2,ao1,rfl,rfl⟩;rw[VE];refine wy ?_
  rcases cE i s.length with hl|hl
  refine wx ?_;refine aE.pu (U1 (me s i:Int)) ?_;cases hs1:(decide ((97:Int)<=(me s i:Int))&&decide ((me s i:Int)<=122)) with
  |true=>
   refine wy ?_;refine b8 (λq=>?_) λq=>?_;exact mm zg λz=>absurd z aBJ;have:i-aV≠12:=by intro e;rw[e] at q;cases q
   exact⟨s.length-(i+1),aBH,i+1,rfl,aBH,aBH,aBH,rfl,trivial⟩
  |false=>
   refine wx ?_;refine aE.pu (Lp (me s i:Int)) ?_;cases hs2:(decide ((48:Int)<=(me s i:Int))&&decide ((me s i:Int)<=57)) with
   |true=>
    refine wy ?_;refine b8 (λq=>?_) λq=>?_;exact mm zg λz=>absurd z aBJ;have:i-aV≠12:=by intro e;rw[e] at q;cases q
    exact⟨s.length-(i+1),aBH,i+1,rfl,aBH,aBH,aBH,rfl,trivial⟩
   |false=>
    have hne:aV<i:=by
     rcases cE aV i with z|z
     exact z;have:i=aV:=aBH
     subst this;rw[Sm] at hs1;cases hs1
    exact wx (mm ⟨1,aV,0,0,(s.take i).drop aV⟩ λ_=>⟨i,rfl,aBH,aBH,afI _ aBK⟩)
  refine wx ?_;exact mm ⟨1,aV,0,0,(s.take i).drop aV⟩ λ_=>⟨i,rfl,aBH,aBH,afI _ aBK⟩
 |false=>
  refine wy ?_
  repeat' ((refine bA (λq=>?_) λq=>?_)<;>(have q':=q)<;>(simp -failIfUnchanged only[lO] at q')<;>(refine F0 @f2 @f5 @f6 @fz @fF @xS @w1 @q ?_))
  all_goals first
   |exact mm ⟨2,aV,0,0,[]⟩ λ_=>⟨aV+1,rfl,aBH,aBH,TP _ aBJ aBJ⟩
   |exact mm ⟨3,aV,0,0,[]⟩ λ_=>⟨aV+1,rfl,aBH,aBH,TP _ aBJ aBJ⟩
   |exact mm ⟨4,aV,0,0,[]⟩ λ_=>⟨aV+1,rfl,aBH,aBH,TP _ aBJ aBJ⟩
   |exact mm ⟨5,aV,0, -1,[]⟩ λ_=>⟨aV+1,rfl,aBH,aBH,TM _ _ ⟨aBJ,aBJ,ay rfl⟩⟩
   |exact mm ⟨5,aV,1, -1,[]⟩ λ_=>⟨aV+1,rfl,aBH,aBH,TM _ _ ⟨aBJ,aBJ,ay rfl⟩⟩
   |exact mm ⟨5,aV,0,1,[]⟩ λ_=>⟨aV+1,rfl,aBH,aBH,TM _ _ ⟨aBJ,aBJ,ax ⟨aBJ,aBJ,aBJ⟩⟩⟩
   |exact mm zg λz=>absurd z aBJ
   |(refine aE.cY (alT s hs aV ha) ?_
     rintro r ⟨x,p,e,rfl,hx⟩;exact kg @cg.aG.eq_1 @xS (mm x hx))
def WG(n:Nat)(r:U):Prop:=∃(v:U) (l:List cg) (p e:Int),r=.aK [v,.v (.int .i64 p),.v (.int .i64 e)]/\bL v (l.map kF)/\l.length<=n/\∀x∈l,x.tj
def Z2(x:cg):aX hp x.aG x.aG:=iO (aA (aB _) (aA (aB _) (aA (aB _) (aA (aB _) (aA (aB _) bW)))))
@[go_sem]def Ja(l:List cg):bV 5 (l.map kF)=true:=by
 rw[bV,c_];intro x hx;obtain⟨t,ht,rfl⟩:=cO.1 hx;rfl
def atB(s:List UInt8)(hs:s.length<=1000000000):cx G az 74 [ai s] (WG s.length):=by
 refine cR (arp.go ?_);have bad:∀(hp:List aa) (p e:Int),∃k aQ,b9 hp k (.aK [.af,.v (.int .i64 p),.v (.int .i64 e)])=some aQ/\WG s.length aQ:=λhp p e=>by
  obtain⟨k,hk⟩:=(dR (aA cS (aA (aB (.int .i64 p)) (aA (aB (.int .i64 e)) bW))):aX hp _ _).done;exact⟨k,_,hk,.af,[],p,e,rfl,ax ⟨rfl,rfl⟩,aBI,aBI⟩
 refine wy ?_;refine mF (n:=s.length) (λm e h=>∃(i:Nat) (l:List cg) (ak:U),m=s.length-i/\i<=s.length/\l.length<=i/\(∀x∈l,x.tj)/\e=[(0,ai s),(5,ak),(6,ag i)]/\bX h ak (l.map kF) 5 175) ⟨0,[],.af,rfl,aBH,aBI,aBI,rfl,qa _ _ _⟩ ?_;rintro m e h ⟨i,l,ak,rfl,hi,hl,hx,rfl,hA⟩;have ln:=BN hA;refine wy ?_
 rcases cE i s.length with hl1|hl1
 refine wx (bA (λq=>?_) λq=>?_);refine wy ?_;exact⟨s.length-(i+1),aBH,i+1,l,ak,rfl,aBH,aBH,hx,rfl,hA⟩;refine wy ?_;have ext:∀b:aa,bX (h++[b]) ak (l.map kF) 5 175:=λb=>by
  rcases hA with z|⟨id,bh,z2⟩
  exact ay z;exact ax ⟨id,bh,aM z2⟩
 refine b8 (λah=>?_) λah=>?_;refine aE.cY (akP _) ?_;rintro r ⟨b,rfl⟩;cases b with
 |true=>
  exact fY (bad _ _ _)
 |false=>
  refine wy ?_;refine aE.cY (afK s hs i hl1) ?_;rintro r ⟨x,p,e,rfl,Sr⟩;have s1:=sQ h x;unfold fD at s1;have g1:aq (h++[aj x.cells false]) true 5 (.mp h.length 0)=some (.agg x.cells):=rL aBI;refine fC @cg.aG.eq_1 (bA (λaN=>?_) λaN=>?_);exact cV @aN (bad _ _ _);obtain⟨p',rfl,h1,h2,h3⟩:=Sr aEm;obtain⟨bg,g,e1,dO,_⟩:=kL (x:=x.aG) (aY:=48) (ext (.cells x.cells false)) (Ja l) rfl aBJ aBJ aBK;have ab:dA 5 [.agg x.cells]=some (.sl [x.aG] .exact):=rfl;refine wy ?_;refine⟨s.length-p',aBH,p',l++[x],bg,rfl,aBH,aBK,?_,rfl,aCm⟩;intro y hy
  rcases dZ.1 hy with z|z
  exact hx y z;rw[cr.1 z];exact h3
 refine aE.cY (afK s hs i hl1) ?_;rintro r ⟨x,p,e,rfl,Sr⟩;have s1:=sQ h x;unfold fD at s1;have g1:aq (h++[aj x.cells false]) true 5 (.mp h.length 0)=some (.agg x.cells):=rL aBI;refine fC @cg.aG.eq_1 (bA (λaN=>?_) λaN=>?_);exact cV @aN (bad _ _ _);obtain⟨p',rfl,h1,h2,h3⟩:=Sr aEm;obtain⟨bg,g,e1,dO,_⟩:=kL (x:=x.aG) (aY:=48) (ext (.cells x.cells false)) (Ja l) rfl aBJ aBJ aBK;have ab:dA 5 [.agg x.cells]=some (.sl [x.aG] .exact):=rfl;refine wy ?_;refine⟨s.length-p',aBH,p',l++[x],bg,rfl,aBH,aBK,?_,rfl,aCm⟩;intro y hy
 rcases dZ.1 hy with z|z
 exact hx y z;rw[cr.1 z];exact h3;refine wy ?_
 rcases hA with⟨rfl,z⟩|⟨id,rfl,_⟩
 exact bad _ _ _;obtain⟨k,hk⟩:=(dR (aA (fj (t:=.tok id) (gh (f:=kF) (l:=l) λa _=>Z2 a)) (aA (aB (.int .i64 0)) (aA (aB (.int .i64 0)) bW))):aX h _ _).done;exact⟨k,_,hk,_,l,0,0,rfl,ay rfl,aBH,hx⟩
end
end
section
variable{l:List cg}{i:Nat}{k:Int}
def kd(l:List cg)(i:Nat):Int:=((l[i]?).map cg.kind).getD 0
def AE{x:cg}(h:l[i]?=some x):kd l i=x.kind:=by unfold kd;rw[h];rfl
def uy(k:Int):Int:=if k=2 then 1 else if k=3 then -1 else 0
def dep(l:List cg)(a:Nat):Nat->Int
 |0=>0
 |n+1=>dep l a n+uy (kd l (a+n))
def tH(l:List cg)(a n:Nat):dep l a (n+1)=dep l a n+uy (kd l (a+n)):=rfl
def G4(l:List cg)(a m:Nat):∀n,dep l a (m+n)=dep l a m+dep l (a+m) n
 |0=>by simp[dep]
 |n+1=>by rw[<-lF,tH,tH,G4 l a m n,lF a m n];omega
def ahL(k:Int): -1<=uy k/\uy k<=1:=by unfold uy;split<;>(try split)<;>omega
def step2(h:k=2):uy k=1:=by unfold uy;rw[if_pos h]
def Oc(h:k=3):uy k= -1:=by unfold uy;rw[if_neg aBH,if_pos h]
def step0(h:k≠2)(h3:k≠3):uy k=0:=by unfold uy;rw[if_neg h,if_neg h3]
def Qt(l:List cg)(a:Nat):∀n:Nat, -(n:Int)<=dep l a n/\dep l a n<=(n:Int)
 |0=>by simp[dep]
 |n+1=>by
  have h:=Qt l a n;have h2:=ahL (kd l (a+n));rw[tH];omega
structure r7(l:List cg):Prop where
 first:0<l.length->kd l 0=1\/kd l 0=2
 Nj:∀i,i<l.length->(kd l i=2\/kd l i=4)->i+1<l.length/\(kd l (i+1)=1\/kd l (i+1)=2)
 cnt:∀i,i<l.length->kd l i=5->0<i/\(kd l (i-1)=1\/kd l (i-1)=3)
 low:∀n,n<=l.length->0<=dep l 0 n
 shut:dep l 0 l.length=0
structure kr(l:List cg)(a b:Nat):Prop where
 lt:a<b
 le:b<=l.length
 hd:kd l a=1\/kd l a=2
 ami:kd l (b-1)≠2
 He:kd l (b-1)≠4
 low:∀n,a+n<=b->0<=dep l a n
 shut:dep l a (b-a)=0
def amP(p:Nat->Prop):∀N:Nat,p N->∃n,n<=N/\p n/\∀t,t<n->¬p t:=by
 intro N
 induction N using Nat.strongRecOn with
 |_ N ih=>
  intro h;by_cases hx:∃t,t<N/\p t;obtain⟨t,h1,h2⟩:=hx;obtain⟨n,g1,g2,g3⟩:=ih t h1 h2;exact⟨n,aBH,g2,g3⟩;exact⟨N,bl _,h,λt ht hp=>hx ⟨t,ht,hp⟩⟩
def r7.all(h:r7 l)(hk:∀i,i<l.length->1<=kd l i/\kd l i<=5)(h0:0<l.length):kr l 0 l.length:=by
 have hl:=h.Nj (l.length-1) aBH;refine⟨h0,bl _,h.first h0,λe=>?_,λe=>?_,λn hn=>h.low n aBH,by rw[DM];exact h.shut⟩;have:=(hl (ay e)).1;omega;have:=(hl (ax e)).1;omega
def hJ(l:List cg)(a i:Nat):Prop:=dep l a (i-a)=0
def wv(l:List cg)(a b:Nat):Prop:=∀t,a<=t->t<b->hJ l a t->kd l t≠4
def zC(l:List cg)(a b:Nat):Prop:=∀t,a<t->t<b->hJ l a t->kd l t≠1/\kd l t≠2
section
variable{l:List cg}{a b:Nat}
def hJ.succ(h:hJ l a i)(ha:a<=i)(h2:kd l i≠2)(h3:kd l i≠3):hJ l a (i+1):=by
 unfold hJ at*;rw[show i+1-a=(i-a)+1 by omega,tH,h,show a+(i-a)=i by omega,step0 h2 h3];rfl
def kr.AQ(h:kr l a b)(ha:a<=i)(hb:i<b)(ht:hJ l a i):kd l i≠3:=by
 intro e;have:=h.low (i-a+1) aBH;unfold hJ at ht;rw[tH,ht,show a+(i-a)=i by omega,Oc e] at this;omega
def kr.skip(h:kr l a b){n:Nat}(ha:a<=i)(hb:i<b)(ht:hJ l a i)(h2:kd l i=2)(hz:i+n<l.length->dep l i (n+1)=0)(hn:∀t,t<n->dep l i (t+1)≠0):
  i+n<b/\hJ l a (i+n+1)/\∀t,i<t->t<=i+n->¬hJ l a t:=by
 have e1:dep l i (b-i)=0:=by
  have:=G4 l a (i-a) (b-i);rw[show i-a+(b-i)=b-a by omega,h.shut,show a+(i-a)=i by omega] at this;unfold hJ at ht;omega
 have hlt:i+n<b:=by
  rcases cE (i+n) b with z|z
  exact z;exact absurd (by rw[show b-i-1+1=b-i by omega];exact e1) (hn (b-i-1) aBH)
 have hd:=λt=>G4 l a (i-a) t;have hle:=h.le;refine⟨hlt,?_,λt h1 h3 hq=>?_⟩;unfold hJ at*;rw[show i+n+1-a=i-a+(n+1) by omega,hd,ht,show a+(i-a)=i by omega,hz aBH];rfl;unfold hJ at*;rw[show t-a=i-a+(t-i-1+1) by omega,hd,ht,show a+(i-a)=i by omega] at hq;exact hn (t-i-1) aBH aBH
def kr.piece(h:kr l a b){c:Nat}(hac:a<=c)(RO:c<i)(hib:i<=b)(hc:hJ l a c)(hi:hJ l a i)(hk:kd l c=1\/kd l c=2)(h2:kd l (i-1)≠2)(h4:kd l (i-1)≠4):kr l c i:=by
 have e:∀n,dep l c n=dep l a (c-a+n):=λn=>by
  have:=G4 l a (c-a) n;rw[show a+(c-a)=c by omega] at this;unfold hJ at hc;omega
 have hle:=h.le;refine⟨RO,aBH,hk,h2,h4,λn hn=>?_,?_⟩;rw[e];exact h.low _ aBH;rw[e,show c-a+(i-c)=i-a by omega];exact hi
def r7.prev(w:r7 l)(hi:0<i)(hl:i<l.length)(h1:kd l i≠1)(h2:kd l i≠2):kd l (i-1)≠2/\kd l (i-1)≠4:=by
 have:=w.Nj (i-1) aBH;rw[show i-1+1=i by omega] at this;exact⟨λe=>by have:=this (ay e);omega,λe=>by have:=this (ax e);omega⟩
def kr.ay0(h:kr l a b)(w:r7 l)(h5:kd l (b-1)=5):kr l a (b-1):=by
 have hlt:=h.lt;have hle:=h.le;have hd:=h.hd;have hab:a≠b-1:=by intro e;rw[<-e] at h5;omega
 obtain⟨p1,p2⟩:=w.prev (i:=b-1) aBH aBH aBH aBH;refine⟨aBH,aBH,h.hd,p1,p2,λn hn=>h.low n aBH,?_⟩;have:=h.shut;rw[show b-a=b-1-a+1 by omega,tH,show a+(b-1-a)=b-1 by omega,step0 aBH aBH] at this;omega
def kr.inner(h:kr l a b)(w:r7 l)(hk:∀i,i<l.length->1<=kd l i/\kd l i<=5)(nb:wv l a b)(ns:zC l a b)(h2:kd l a=2)(h5:kd l (b-1)≠5):kr l (a+1) (b-1):=by
 have hlt:=h.lt;have hle:=h.le;obtain⟨n,n1,n2,mz⟩:=amP (λn=>dep l a (n+1)=0) (b-a-1) (by show dep l a (b-a-1+1)=0;rw[show b-a-1+1=b-a by omega];exact h.shut);have n0:n≠0:=by
  intro e;subst e;have:dep l a 1=1:=by rw[tH,rW,step2 h2];rfl
  have q:dep l a 1=0:=n2;omega
 have hend:a+n=b-1:=by
  rcases cE (a+n) (b-1) with z|z
  have akk:∀k,a+n+1+k<b->hJ l a (a+n+1+k)/\kd l (a+n+1+k)=5:=by
   intro k
   induction k with
   |zero=>
    intro eL;have ht:hJ l a (a+n+1+0):=by
     unfold hJ;rw[show a+n+1+0-a=n+1 by omega];exact n2
    have:=h.AQ aBH eL ht;have:=nb _ aBH eL ht;have:=ns _ aBH eL ht;have:=hk (a+n+1+0) aBH;exact⟨ht,aBH⟩
   |succ k ih=>
    intro eL;obtain⟨t1,t2⟩:=ih aBH;have ht:hJ l a (a+n+1+(k+1)):=t1.succ aBH aBH aBH;have:=h.AQ aBH eL ht;have:=nb _ aBH eL ht;have:=ns _ aBH eL ht;have:=hk (a+n+1+(k+1)) aBH;exact⟨ht,aBH⟩
  have:=(akk (b-1-(a+n+1)) aBH).2;rw[show a+n+1+(b-1-(a+n+1))=b-1 by omega] at this;exact absurd this h5;omega
 have pos:∀t,t<n->1<=dep l a (t+1):=λt ht=>by
  have:=mz t ht;have:=h.low (t+1) aBH;omega
 have mZ:dep l a n=1/\kd l (b-1)=3:=by
  have e:=n2;rw[tH,hend] at e;have p:=pos (n-1) aBH;rw[show n-1+1=n by omega] at p;have s:=ahL (kd l (b-1));refine⟨aBH,?_⟩;by_cases q:kd l (b-1)=2;rw[step2 q] at e;omega;by_cases aN:kd l (b-1)=3;exact aN;rw[step0 q aN] at e;omega
 have e:∀n,dep l (a+1) n=dep l a (n+1)-1:=λn=>by
  have:=G4 l a 1 n;have q:dep l a 1=1:=by rw[tH,rW,step2 h2];rfl
  rw[Nat.add_comm 1 n] at this;omega
 have dQ:=(w.Nj a aBH (ay h2)).2;have hne:a+1≠b-1:=by intro e;rw[e,mZ.2] at dQ;omega
 obtain⟨p1,p2⟩:=w.prev (i:=b-1) aBH aBH (by rw[mZ.2];decide) (by rw[mZ.2];decide);refine⟨aBH,aBH,dQ,p1,p2,λt ht=>?_,?_⟩;rw[e];have:=pos t aBH;omega;rw[e,show b-1-(a+1)+1=n by omega,mZ.1];rfl
end
structure O6(l:List cg)(a b e:Nat)(cs:List Nat):Prop where
 iG:∀x∈cs,a<=x/\x<=b
 two:2<=cs.length
 seg:∀k x y,cs[k]?=some x->cs[k+1]?=some y->k+2<cs.length->kr l x (y-e)/\e<=y/\y-e-x<b-a
 fin:∀k x y,cs[k]?=some x->cs[k+1]?=some y->k+2=cs.length->kr l x y/\(2<cs.length->y-x<b-a)
structure o3(l:List cg)(a b e i:Nat)(cs:List Nat)(c:Nat):Prop where
 iG:∀x∈cs,a<=x/\x<=b
 last:cs[cs.length-1]?=some c
 ne:0<cs.length
 ac:a<=c
 ci:c<=i
 cb:c<b
 cn:cs.length<=i+1
 hk:kd l c=1\/kd l c=2
 Ba:hJ l a c
 ti:hJ l a i
 fst:1<cs.length->a<c
 seg:∀k x y,cs[k]?=some x->cs[k+1]?=some y->kr l x (y-e)/\e<=y/\y-e-x<b-a
section
variable{l:List cg}{a b e i c:Nat}{cs:List Nat}
def o3.push(h:o3 l a b e i cs c){y:Nat}(hr:kr l c (y-e))(he:e<=y)(hs:y-e-c<b-a)(hy:a<y)(aA7:y<=i+1)(Mu:y<b)(hk:kd l y=1\/kd l y=2)(ty:hJ l a y)(j:Nat)(hj:i+1<=j)(JH:hJ l a j):o3 l a b e j (cs++[y]) y:=by
 have hl:=h.ne;have xb:=h.cn;have hlt:=hr.lt;refine⟨λx hx=>by
  rcases dZ.1 hx with z|z
  exact h.iG x z;rw[cr.1 z];omega,aBI,aBI,aBH,aBH,Mu,aBK,hk,ty,JH,λ_=>hy,?_⟩
 intro k x z h1 h2;rw[V_] at h1 h2;split at h2;rename_i q;rw[if_pos aBH] at h1;exact h.seg k x z h1 h2;rename_i q;have hk2:k+1=cs.length:=by
  rcases cE (k+1-cs.length) 1 with w|w
  omega;rw[hG aBK] at h2;cases h2
 rw[hk2,kj] at h2;rw[if_pos aBH,show k=cs.length-1 by omega,h.last] at h1;cases h1;have:y=z:=aBY
 subst this;exact⟨hr,he,hs⟩
def o3.skip(h:o3 l a b e i cs c){j:Nat}(hj:i<=j)(JH:hJ l a j):o3 l a b e j cs c:=by
 have:=h.ci;have:=h.cn;exact⟨h.iG,h.last,h.ne,h.ac,aBH,h.cb,aBH,h.hk,h.Ba,JH,h.fst,h.seg⟩
def o3.done(h:o3 l a b e b cs c)(R:kr l a b):O6 l a b e (cs++[b]):=by
 have hl:=h.ne;have hcb:=h.cb;have hac:=h.ac;have hr:kr l c b:=R.piece h.ac h.cb (bl _) h.Ba R.shut h.hk R.ami R.He;refine⟨λx hx=>by
  rcases dZ.1 hx with z|z
  exact h.iG x z;rw[cr.1 z];omega,aBK,?_,?_⟩
 intro k x z h1 h2 h3;rw[cB,nq] at h3;rw[V_,if_pos aBH] at h1 h2;exact h.seg k x z h1 h2;intro k x z h1 h2 h3;rw[cB,nq] at h3;rw[V_,if_pos aBH] at h1;rw[V_,if_neg aBH] at h2;rw[show k=cs.length-1 by omega,h.last] at h1;cases h1;rw[show k+1-cs.length=0 by omega] at h2;have:b=z:=aBY
 subst this;refine⟨hr,λq=>?_⟩;have:=h.fst aBQ;omega
def o3.start(R:kr l a b):o3 l a b e a [a] a:=by
 have t0:hJ l a a:=by unfold hJ;rw[kj];rfl
 have:=R.lt;refine⟨λx hx=>by rw[cr.1 hx];omega,rfl,aBI,bl _,bl _,R.lt,aBI,R.hd,t0,t0,λq=>by simp at q,?_⟩;intro k x y h1 h2;rw[hG aBI] at h2;cases h2
end
end
section
variable{l:List cg}{hp:List aa}{a b:Nat}
def BB(l:List cg)(i:Nat):Prop:=i=0\/kd l (i-1)=2\/kd l (i-1)=4
def Gi(l:List cg)(i:Nat):Prop:=i=0\/(kd l (i-1)≠1/\kd l (i-1)≠3)
structure Kn(l:List cg)(i:Nat):Prop where
 low:∀n,n<=i->0<=dep l 0 n
 fr:∀j,j<i->BB l j->kd l j=1\/kd l j=2
 fl:∀j,j<i->kd l j=5->¬Gi l j
def Kn.Bd(h:Kn l l.length)(h1:0<l.length->¬BB l l.length)(h2:dep l 0 l.length<=0):r7 l:=by
 refine⟨λh0=>h.fr 0 h0 (ay rfl),λi hi hk=>?_,λi hi hk=>?_,h.low,?_⟩;have f:BB l (i+1):=by
  unfold BB;rw[Kg];exact ax hk
 rcases cE (i+1) l.length with z|z
 exact⟨z,h.fr _ z f⟩;rw[show i+1=l.length by omega] at f;exact absurd f (h1 aBH);have:=h.fl i hi hk;unfold Gi at this;refine⟨?_,?_⟩
 rcases x8 i with z|z
 exact absurd (ay z) this;exact z;by_cases q1:kd l (i-1)=1;exact ay q1;by_cases aN:kd l (i-1)=3;exact ax aN;exact absurd (ax ⟨q1,aN⟩) this;have:=h.low l.length (bl _);omega
def Wt(l:List cg)(r:U):Prop:=∃(p:Int) (b:Bool),r=.aK [.v (.int .i64 p),.v (.bool b)]/\((p= -1/\(b=false->r7 l))\/∃i:Nat,p=(i:Int)/\i<l.length)
def Zu{p:Int}{b:Bool}(h:(p= -1/\(b=false->r7 l))\/∃i:Nat,p=(i:Int)/\i<l.length):∃k aQ,b9 hp k (.aK [.v (.int .i64 p),.v (.bool b)])=some aQ/\Wt l aQ:=by
 obtain⟨k,hk⟩:=(dR (aA (aB (.int .i64 p)) (aA (aB (.bool b)) bW)):aX hp _ _).done;exact⟨k,_,hk,p,b,rfl,h⟩
@[go_sem]def oO(x:cg)(hp:List aa):aq hp false 1 (.fp x.cells 0)=some (.v (.int .i64 x.kind)):=rfl
def WZ(l:List cg)(i:Nat)(r:U):Prop:=∃n:Nat,r=.v (.int .i64 ((i+n:Nat):Int))/\i+n<=l.length/\(i+n<l.length->dep l i (n+1)=0)/\∀t,t<n->dep l i (t+1)≠0
def LH{i n:Nat}(h:i+n<=l.length/\(i+n<l.length->dep l i (n+1)=0)/\∀t,t<n->dep l i (t+1)≠0):∃k aQ,b9 hp k (.v (.int .i64 ((i+n:Nat):Int)))=some aQ/\WZ l i aQ:=by
 obtain⟨k,hk⟩:=(aB (.int .i64 ((i+n:Nat):Int)):aX hp _ _).done;exact⟨k,_,hk,n,rfl,h⟩
def lT(cs:List Nat):List U:=cs.map λc:Nat=>bP (.int .i64 (c:Int))
@[go_sem]def I_(cs:List Nat):bV 1 (lT cs)=true:=by
 rw[bV,c_];intro x hx;obtain⟨t,ht,rfl⟩:=cO.1 hx;rfl
def Kp(l:List cg)(a b e:Nat)(X:Prop)(r:U):Prop:=∃cs:List Nat,r=.sl (lT cs) .no/\O6 l a b e cs/\cs.length<=l.length+2/\(cs.length=2->X)
def afW{v:U}{e:Nat}{X:Prop}{cs:List Nat}(h:jE 0 hp v (lT cs) 1 3)(h1:O6 l a b e cs)(h2:cs.length<=l.length+2)(h3:cs.length=2->X):∃k aQ,b9 hp k v=some aQ/\Kp l a b e X aQ:=by
 rcases h with rfl|⟨id,rfl,_⟩
 obtain⟨n,hn⟩:=(fj (t:=.exact) (gh (f:=λc:Nat=>bP (.int .i64 (c:Int))) (l:=cs) λa _=>aB _):aX hp _ _).done;exact⟨n,_,hn,cs,rfl,h1,h2,h3⟩;obtain⟨n,hn⟩:=(fj (t:=.tok id) (gh (f:=λc:Nat=>bP (.int .i64 (c:Int))) (l:=cs) λa _=>aB _):aX hp _ _).done;exact⟨n,_,hn,cs,rfl,h1,h2,h3⟩
section
variable{G:Cells}{v:U}{l:List cg}
def alg(hv:bL v (l.map kF))(hl:l.length<=1000000000):cx G az 75 [v] (Wt l):=by
 refine cR (arq.go ?_);have ln:=hv.bO;rw[b_] at ln;have jO:∀hp,bO v hp=some (.v (.int .i64 (l.length:Int)),hp):=λhp=>aCl
 refine dP ?_;refine cj (λi e h=>∃(d:Int) (f g:Bool),e=[(0,v),(4,.v (.int .i64 d)),(5,.v (.bool f)),(6,.v (.bool g)),(7,ag i)]/\d=dep l 0 i/\(f=true↔BB l i)/\(g=true↔Gi l i)/\Kn l i/\h=[]) l.length ⟨0,true,true,rfl,rfl,⟨λ_=>ay rfl,λ_=>rfl⟩,⟨λ_=>ay rfl,λ_=>rfl⟩,⟨λn hn=>by rw[show n=0 by omega];exact nj _,λj hj=>aBH,λj hj=>aBH⟩,rfl⟩ ?_ ?_
 · rintro i e h hi ⟨d,f,g,rfl,hd,hf,hg,hC,rfl⟩
   obtain⟨x,hx⟩:=cD hi;have e1:bu 5 v (.v (.int .i64 (i:Int)))=some (.fp x.cells 0):=hv.bK (x:=x.aG) aBU rfl;have hk:=AE hx;have hab:=Qt l 0 i;rw[<-hd] at hab;have hd0:0<=d:=by rw[hd];exact hC.low i (bl _)
   have bN:=tH l 0 i;rw[e5,hk,<-hd] at bN;have d2:x.kind=2->b7.wrap (d+1)=dep l 0 (i+1):=λq=>by rw[bN,step2 q,wrap_i64 aBH aBH]
   have d3:x.kind=3->b7.wrap (d-1)=dep l 0 (i+1):=λq=>by rw[bN,Oc q,wrap_i64 aBH aBH];rfl
   have d0:x.kind≠2->x.kind≠3->d=dep l 0 (i+1):=λq aN=>by rw[bN,step0 q aN];omega
   have hfr:BB l (i+1)↔x.kind=2\/x.kind=4:=by unfold BB;rw[Kg,hk];simp
   have hfl:Gi l (i+1)↔x.kind≠1/\x.kind≠3:=by unfold Gi;rw[Kg,hk];simp
   have step:(x.kind=3->d≠0)->(f=true->x.kind=1\/x.kind=2)->(x.kind=5->g=false)->Kn l (i+1):=λh1 h2 h3=>by
    refine⟨λn hn=>?_,λj hj q=>?_,λj hj q=>?_⟩
    rcases cE n (i+1) with z|z
    exact hC.low n aBH;rw[show n=i+1 by omega,bN];by_cases ah:x.kind=2;rw[step2 ah];omega;by_cases aN:x.kind=3;have:=h1 aN;rw[Oc aN];omega;rw[step0 ah aN];omega
    rcases cE j i with z|z
    exact hC.fr j z q;obtain rfl:j=i:=aBH
    rw[hk];exact h2 (hf.2 q)
    rcases cE j i with z|z
    exact hC.fl j z q;obtain rfl:j=i:=aBH
    rw[hk] at q;intro ah;have:=hg.2 ah;rw[h3 q] at this;cases this
   cases f<;>cases g
   all_goals
    refine nP @ag.eq_1 @jO @e1 @wE @oO ?_
    repeat' ((refine bA (λq=>?_) λq=>?_)<;>(have q':=q)<;>(simp -failIfUnchanged only[lO] at q')<;>(refine di @q ?_))
   all_goals first
    |(exfalso;omega)
    |exact Zu (ax ⟨i,rfl,hi⟩)
    |exact⟨_,_,_,rfl,d2 aBH,aEk,aEl,step (λ_=>aBH) (λq=>aDG) (λ_=>aDS),trivial⟩
    |exact⟨_,_,_,rfl,d3 aBH,aEk,aEl,step (λ_=>aBH) (λq=>aDG) (λ_=>aDS),trivial⟩
    |exact⟨_,_,_,rfl,d0 aBH aBH,aEk,aEl,step (λ_=>aBH) (λq=>aDG) (λ_=>aDS),trivial⟩
 · rintro e h ⟨d,f,g,rfl,hd,hf,hg,hC,rfl⟩
   refine wy ?_;cases f
   all_goals repeat' refine ba (λq'=>?_) λq'=>?_
   all_goals
    exact Zu (ay ⟨rfl,λe=>by
     first
      |(cases e;done)
      |exact hC.Bd (λq=>aBH) (by rw[show l.length=0 by omega];exact nj _)
      |exact hC.Bd (λq z=>by cases(hf.2 z)) (by rw[<-hd];simp at e;omega)⟩)
def ahd(hv:bL v (l.map kF))(hl:l.length<=1000000000)(i0:Nat)(R3:i0<=l.length):cx G az 203 [v,.v (.int .i64 (i0:Int))] (WZ l i0):=by
 refine cR (asd.go ?_);have ln:=hv.bO;rw[b_] at ln;have jO:∀hp,bO v hp=some (.v (.int .i64 (l.length:Int)),hp):=λhp=>aCl
 refine wy ?_;refine cj (λn e h=>∃d:Int,e=[(0,v),(5,.v (.int .i64 d)),(6,.v (.int .i64 ((i0+n:Nat):Int)))]/\d=dep l i0 n/\(∀t,t<n->dep l i0 (t+1)≠0)/\h=[]) (l.length-i0) ⟨0,rfl,rfl,λt ht=>aBH,rfl⟩ ?_ ?_;rintro n e h hn ⟨d,rfl,hd,hI,rfl⟩;obtain⟨x,hx⟩:∃x,l[i0+n]?=some x:=⟨l[i0+n],br aBH⟩;have e1:bu 5 v (.v (.int .i64 ((i0+n:Nat):Int)))=some (.fp x.cells 0):=hv.bK (x:=x.aG) aBU rfl;have hk:=AE hx;have hab:=Qt l i0 n;rw[<-hd] at hab;have bN:=tH l i0 n;rw[hk,<-hd] at bN;have d2:x.kind=2->b7.wrap (d+1)=dep l i0 (n+1):=λq=>by rw[bN,step2 q,wrap_i64 aBH aBH]
 have d3:x.kind=3->b7.wrap (d-1)=dep l i0 (n+1):=λq=>by rw[bN,Oc q,wrap_i64 aBH aBH];rfl
 have d0:x.kind≠2->x.kind≠3->d=dep l i0 (n+1):=λq aN=>by rw[bN,step0 q aN];omega
 have dQ:b7.wrap (((i0+n:Nat):Int)+1)=((i0+(n+1):Nat):Int):=by rw[jA aBH];rfl
 have cont:dep l i0 (n+1)≠0->∀t,t<n+1->dep l i0 (t+1)≠0:=λq t ht=>by
  rcases cE t n with z|z
  exact hI t z;rw[show t=n by omega];exact q
 have CS:decide (((i0+n:Nat):Int)<(l.length:Int))=true:=aBK
 by_cases ah:x.kind=2;have:=d2 ah;refine xQ @jO @CS @e1 @oO @ah @this ?_;refine b8 (λq=>?_) λq=>?_;exact LH ⟨aBH,λ_=>aBN,hI⟩;refine cV @dQ ?_;exact⟨_,rfl,rfl,cont aBN,trivial⟩;have n2:(x.kind==2)=false:=aB8
 by_cases aN:x.kind=3;have:=d3 aN;refine xQ @jO @CS @e1 @oO @aN @this ?_;refine b8 (λq=>?_) λq=>?_;exact LH ⟨aBH,λ_=>aBN,hI⟩;refine cV @dQ ?_;exact⟨_,rfl,rfl,cont aBN,trivial⟩;have mz:(x.kind==3)=false:=aEm
 have:=d0 ah aN;refine xQ @jO @CS @e1 @oO @n2 @mz ?_;refine b8 (λq=>?_) λq=>?_;exact LH ⟨aBH,λ_=>by rw[<-this];simpa using q,hI⟩;refine cV @dQ ?_;exact⟨_,rfl,this,cont (by rw[<-this];simpa using q),trivial⟩;rintro e h ⟨d,rfl,hd,hI,rfl⟩;refine wy ?_;have:=LH (hp:=[]) (l:=l) (i:=i0) (n:=l.length-i0) ⟨aBH,λq=>aBH,hI⟩;rw[show i0+(l.length-i0)=l.length by omega] at this;exact this
def akO(hv:bL v (l.map kF))(hc:dn v)(hl:l.length<=1000000000)(w:r7 l)(R:kr l a b):cx G az 138 [v,.v (.int .i64 (a:Int)),.v (.int .i64 (b:Int)),.v (.int .i64 3)] (Kp l a b 1 (wv l a b)):=by
 refine cR (ac1.go ?_);have hle:=R.le;have hlt:=R.lt;refine ni ?_;refine mF (n:=b-a) (λm e h=>∃(i c:Nat) (cs:List Nat) (ak:U),m=b-i/\i<=b/\e=[(0,v),(1,.v (.int .i64 (a:Int))),(2,.v (.int .i64 (b:Int))),(3,.v (.int .i64 3)),(9,ak),(10,.v (.int .i64 (i:Int)))]/\o3 l a b 1 i cs c/\(cs.length=1->wv l a i)/\jE 0 h ak (lT cs) 1 3) ⟨a,a,[a],_,rfl,aBH,rfl,o3.start R,λ_ t h1 h2=>aBH,ay rfl⟩ ?_;rintro m e h ⟨i,c,cs,ak,rfl,hib,rfl,hI,hN,hA⟩
 rcases cE i b with hi|hi
 obtain⟨x,hx⟩:∃x,l[i]?=some x:=⟨l[i],br aBH⟩;have e1:bu 5 v (.v (.int .i64 (i:Int)))=some (.fp x.cells 0):=hv.bK (x:=x.aG) aBU rfl;have hk:=AE hx;have hac:=hI.ac;have RO:=hI.ci;have xb:=hI.cn;have AQ:=R.AQ aBH hi hI.ti;have ext:∀j,i<=j->(∀t,i<=t->t<j->hJ l a t->kd l t≠4)->cs.length=1->wv l a j:=λj hj h1 h2 t t1 t2 t3=>by
  rcases cE t i with z|z
  exact hN h2 t t1 z t3;exact h1 t z t2 t3
 by_cases dI:x.kind=4;have gZ:kd l i=4:=by rw[hk,dI]
 have aAI:c≠i:=by intro e;have:=hI.hk;rw[e,gZ] at this;omega
 obtain⟨p1,p2⟩:=w.prev (i:=i) aBH aBH aBH aBH;have pc:=R.piece hac aBH (by omega:i<=b) hI.Ba hI.ti hI.hk p1 p2;obtain⟨_,dQ⟩:=w.Nj i aBH (ax gZ);have ao2:i+1<b:=by
  rcases cE (i+1) b with z|z
  exact z;have:=R.He;rw[show b-1=i by omega] at this;exact absurd gZ this
 have ty:=hI.ti.succ aBH aBH aBH;have P:=hI.push (y:=i+1) (by rw[Kg];exact pc) aBH aBH aBH aBH ao2 dQ ty (i+1) (bl _) ty;obtain⟨bg,g,e2,dO,_⟩:=C6 (x:=.v (.int .i64 ((i+1:Nat):Int))) (aY:=8) hA (ic _) (I_ cs) rfl aBJ aBJ aEo;refine zd @e1 @wE @oO @dI @wD @e2 ?_;exact⟨b-(i+1),aBH,i+1,i+1,cs++[i+1],bg,rfl,aBH,rfl,P,λz=>aCZ,aCt⟩;have gF:(x.kind==4)=false:=aC5
 by_cases ah:x.kind=2;have k2:kd l i=2:=by rw[hk,ah]
 refine p_ @oO ?_;refine aE.cY (ahd hv hl i aBH) ?_;rintro r ⟨n,rfl,h1,h2,h3⟩;obtain⟨s1,s2,c8⟩:=R.skip aBH hi hI.ti k2 h2 h3;refine wy ?_;refine⟨b-(i+n+1),aBH,i+n+1,c,cs,ak,rfl,aBH,rfl,hI.skip aBH s2,ext _ aBH λt t1 t2 t3=>?_,hA⟩
 rcases cE i t with z|z
 exact absurd t3 (c8 t z aBH);rw[show t=i by omega,k2];decide;have n2:(x.kind==2)=false:=aB8
 refine nP @e1 @wE @oO @gF @n2 ?_;refine⟨b-(i+1),aBH,i+1,c,cs,ak,rfl,aBH,rfl,hI.skip aBH (hI.ti.succ aBH (by rw[hk];exact ah) AQ),ext _ aBH λt t1 t2 t3=>?_,hA⟩;rw[show t=i by omega,hk];exact dI;obtain rfl:i=b:=aBH
 have xb:=hI.cn;obtain⟨bg,g,e2,dO,_⟩:=C6 (x:=.v (.int .i64 (i:Int))) (aY:=8) hA (ic _) (I_ cs) rfl aBJ aBJ aEo;exact wy (afW (cs:=cs++[i]) aCt (hI.done R) aBK λz=>hN aCa)
def axd(hv:bL v (l.map kF))(hc:dn v)(hl:l.length<=1000000000)(w:r7 l)(R:kr l a b)(nb:wv l a b):cx G az 138 [v,.v (.int .i64 (a:Int)),.v (.int .i64 (b:Int)),.v (.int .i64 2)] (Kp l a b 0 (zC l a b)):=by
 refine cR (ac1.go ?_);have hle:=R.le;have hlt:=R.lt;refine wy ?_;refine mF (n:=b-a) (λm e h=>∃(i c:Nat) (cs:List Nat) (ak:U),m=b-i/\i<=b/\e=[(0,v),(1,.v (.int .i64 (a:Int))),(2,.v (.int .i64 (b:Int))),(3,.v (.int .i64 2)),(9,ak),(10,.v (.int .i64 (i:Int)))]/\o3 l a b 0 i cs c/\(c<i\/i=a)/\(cs.length=1->zC l a i)/\jE 0 h ak (lT cs) 1 3) ⟨a,a,[a],_,rfl,aBH,rfl,o3.start R,ax rfl,λ_ t h1 h2=>aBH,ay rfl⟩ ?_;rintro m e h ⟨i,c,cs,ak,rfl,hib,rfl,hI,hca,hN,hA⟩
 rcases cE i b with hi|hi
 obtain⟨x,hx⟩:∃x,l[i]?=some x:=⟨l[i],br aBH⟩;have e1:bu 5 v (.v (.int .i64 (i:Int)))=some (.fp x.cells 0):=hv.bK (x:=x.aG) aBU rfl;have hk:=AE hx;have hac:=hI.ac;have RO:=hI.ci;have xb:=hI.cn;have AQ:=R.AQ aBH hi hI.ti;have ext:∀j,i<=j->(∀t,a<t->i<=t->t<j->hJ l a t->kd l t≠1/\kd l t≠2)->cs.length=1->zC l a j:=λj hj h1 h2 t t1 t2 t3=>by
  rcases cE t i with z|z
  exact hN h2 t t1 z t3;exact h1 t t1 z t2 t3
 have cut:a<i->(kd l i=1\/kd l i=2)->∀j,i+1<=j->hJ l a j->o3 l a b 0 j (cs++[i]) i:=λh1 h2 j hj JH=>by
  have pr:hJ l a (i-1)->kd l (i-1)≠4:=λq=>nb _ aBH aBH q;have bQ:dep l a (i-a)=dep l a (i-1-a)+uy (kd l (i-1)):=by
   rw[show i-a=i-1-a+1 by omega,tH,show a+(i-1-a)=i-1 by omega]
  have ti:=hI.ti;unfold hJ at ti pr;have p2:kd l (i-1)≠2:=λq=>by
   rw[step2 q] at bQ;have:=R.low (i-1-a) aBH;omega
  have fW:kd l (i-1)≠4:=λq=>by
   rw[step0 aBH aBH] at bQ;exact pr aBH q
  exact hI.push (y:=i) (R.piece hac aBH hib hI.Ba hI.ti hI.hk p2 fW) (ic _) aBH h1 aBH hi h2 hI.ti j hj JH
 have ag1:=ahd (G:=G) hv hl i aBH;obtain⟨bg,g,e2,dO,_⟩:=C6 (x:=.v (.int .i64 (i:Int))) (aY:=8) hA (ic _) (I_ cs) rfl aBJ aBJ aEo;have oJ:jE 0 g bg (lT (cs++[i])) 1 3:=aCt
 by_cases ah:x.kind=2;have k2:kd l i=2:=by rw[hk,ah]
 rcases cE a i with hai|hai
 refine fC @oO ?_;refine aE.cY ag1 ?_;rintro r ⟨n,rfl,h1,h2,h3⟩;obtain⟨s1,s2,c8⟩:=R.skip aBH hi hI.ti k2 h2 h3;refine wy ?_;exact⟨b-(i+n+1),aBH,i+n+1,i,cs++[i],bg,rfl,aBH,rfl,cut hai (ax k2) _ aBH s2,ay aBH,λz=>aCZ,oJ⟩;refine xR @oO ?_;refine aE.cY ag1 ?_;rintro r ⟨n,rfl,h1,h2,h3⟩;obtain⟨s1,s2,c8⟩:=R.skip aBH hi hI.ti k2 h2 h3;refine ni ?_;refine⟨b-(i+n+1),aBH,i+n+1,c,cs,ak,rfl,aBH,rfl,hI.skip aBH s2,ay aBH,ext _ aBH λt t0 t1 t2 t3=>?_,hA⟩;exact absurd t3 (c8 t aBH aBH);have n2:(x.kind==2)=false:=aB8
 have ts:=hI.ti.succ aBH (by rw[hk];exact ah) AQ;by_cases q1:x.kind=1;have k1:kd l i=1:=by rw[hk,q1]
 rcases cE a i with hai|hai
 have Cc:decide ((a:Int)<(i:Int))=true:=G6 hai;refine lB @e1 @wE @oO @q1 @Cc @wD @e2 ?_;exact⟨b-(i+1),aBH,i+1,i,cs++[i],bg,rfl,aBH,rfl,cut hai (ay k1) _ aBH ts,ay aBH,λz=>aCZ,oJ⟩;have Cc:decide ((a:Int)<(i:Int))=false:=G5 hai;refine nP @e1 @wE @oO @q1 @Cc ?_;exact⟨b-(i+1),aBH,i+1,c,cs,ak,rfl,aBH,rfl,hI.skip aBH ts,ay aBH,ext _ aBH λt t0 t1 t2 t3=>aBH,hA⟩;have n1:(x.kind==1)=false:=aCN
 have fin:∃m,m<b-i/\∃(i' c:Nat) (cs:List Nat) (gw:U),m=b-i'/\i'<=b/\[(0,v),(1,bP (.int .i64 (a:Int))),(2,bP (.int .i64 (b:Int))),(3,bP (.int .i64 2)),(9,ak),(10,bP (.int .i64 ((i+1:Nat):Int)))]=[(0,v),(1,bP (.int .i64 (a:Int))),(2,bP (.int .i64 (b:Int))),(3,bP (.int .i64 2)),(9,gw),(10,bP (.int .i64 (i':Int)))]/\o3 l a b 0 i' cs c/\(c<i'\/i'=a)/\(cs.length=1->zC l a i')/\jE 0 h gw (lT cs) 1 3:=
  ⟨b-(i+1),aBH,i+1,c,cs,ak,rfl,aBH,rfl,hI.skip aBH ts,ay aBH,ext _ aBH λt t0 t1 t2 t3=>by rw[show t=i by omega,hk];exact⟨q1,ah⟩,hA⟩
 rcases cE a i with hai|hai
 have Cc:decide ((a:Int)<(i:Int))=true:=G6 hai;exact nQ @e1 @oO @n1 @n2 @Cc fin;have Cc:decide ((a:Int)<(i:Int))=false:=G5 hai;exact nQ @e1 @oO @n1 @n2 @Cc fin;obtain rfl:i=b:=aBH
 have xb:=hI.cn;obtain⟨bg,g,e2,dO,_⟩:=C6 (x:=.v (.int .i64 (i:Int))) (aY:=8) hA (ic _) (I_ cs) rfl aBJ aBJ aEo;exact wy (afW (cs:=cs++[i]) aCt (hI.done R) aBK λz=>hN aCa)
end
end
section
variable{ps:List bJ}{p:bJ}{a b c d v x:U}{g hp:List aa}{K:Nat}
def bJ.tj(i:Nat)(p:bJ):Prop:=((p.kind=1/\p.name.length<=12/\p.kids=[])\/((p.kind=2\/p.kind=3)/\2<=p.kids.length)\/(p.kind=4/\p.kids.length=1/\DP p.low p.high))/\∀x∈p.kids,0<=x/\x<(i:Int)
def uP(ps:List bJ):Prop:=∀(i:Nat) p,ps[i]?=some p->p.tj i
def uP.push(h:uP ps)(hp:p.tj ps.length):uP (ps++[p]):=by
 intro i q hq
 rcases Nat.lt_trichotomy i ps.length with c|c|c
 rw[ei c] at hq;exact h i q hq;subst c;simp at hq;rw[<-hq];exact hp;rw[hG aBK] at hq;cases hq
def avA(h:uP ps):uP (ps.map bJ.bw):=by
 intro i p hp;rw[eC] at hp;cases hq:ps[i]? with
 |none=>rw[hq] at hp;cases hp
 |some q=>
  rw[hq] at hp;cases hp;exact h i q hq
def auW:aa->Prop
 |.tok _ _ e=>e≠178
 |_=>True
def wm(hp hp':List aa):Prop:=hp.length<=hp'.length/\∀(j:Nat) b,auW b->hp[j]?=some b->hp'[j]?=some b
def wm.refl(hp:List aa):wm hp hp:=⟨bl _,λ_ _ _ h=>h⟩
def wm.trans{a b c:List aa}(h:wm a b)(q:wm b c):wm a c:=⟨fk h.1 q.1,λj x hn e=>q.2 j x hn (h.2 j x hn e)⟩
def ahO{b6:List bJ}:∀{i:Nat} {st:List Int},i<=ps.length->nO ps i st->nO (ps++b6) i st
 |0,_,_,h=>h
 |i+1,_,hi,⟨p,ot,h1,h2,h3⟩=>⟨p,ot,by rw[ei aBH];exact h1,ahO aBH h2,h3⟩
def Va{st:List Int}(h:nO ps ps.length (st++p.kids)):nO (ps++[p]) (ps++[p]).length (st++[(((ps++[p]).length-1:Nat):Int)]):=by
 rw[cB,nq,Kg];exact⟨p,st,aBI,ahO (bl _) h,rfl⟩
def ahP:∀{i:Nat} {st:List Int},nO ps i st->nO (ps.map bJ.bw) i st
 |0,_,h=>h
 |i+1,_,⟨p,ot,h1,h2,h3⟩=>⟨p.bw,ot,by rw[eC,h1];rfl,ahP h2,h3⟩
def Wp(ps:List bJ)(m:Nat)(hp:List aa)(r:U)(hp':List aa):Prop:=∃b6:List bJ,b6≠[]/\b6.length+1<=2*m/\bX hp' r ((ps++b6).map ox) 5 178/\uP (ps++b6)/\wm hp hp'/\∀st,nO ps ps.length st->nO (ps++b6) (ps++b6).length (st++[(((ps++b6).length-1:Nat):Int)])
def UA(hA:bX hp v (ps.map ox) 5 178)(hn:ps.length<=4000000000)(p:bJ):
  ∃v' g,cG hp 5 64 178 v (.sl [p.aG] .exact)=some (v',g)/\bX g v' ((ps++[p]).map ox) 5 178/\wm hp g:=by
 obtain⟨bg,g,e1,dO,_,h3,h4⟩:=kL (x:=p.aG) (aY:=64) hA (TT ps) (Fh p) aBJ aBJ aBK;refine⟨bg,g,e1,aCm,h3,λj b hb hj=>h4 j b hj λxs q=>?_⟩
 rcases hA with⟨z,_⟩|⟨id,bh,z2⟩
 rw[z] at q;cases q;rw[bh] at q;cases q;rw[hj] at z2;cases z2;exact hb rfl
@[go_sem]def ahK{y:U}(hk:g[K]?=some (.cells [a,b,c,d,x] false))(h1:bn y=true)(h2:y.cells=[y]):aF g 1 (.mp K 4) y=some (g.set K (.cells [a,b,c,d,y] false)):=by
 simp only[aF,hk,dJ];rw[h2];simp[putAt,h1]
@[go_sem]def aeJ(hk:g[K]?=some (.cells [a,b,c,d,x] false))(h1:bn x=true):aq g false 1 (.mp K 4)=some x:=by
 simp only[aq,hk];rfl
@[go_sem]def aez(hk:g[K]?=some (.cells [a,b,c,d,x] false)):aq g true 5 (.mp K 0)=some (.agg [a,b,c,d,x]):=by
 simp only[aq,hk];rfl
def Ku(B:Nat)(hp:List aa)(v:U)(xs:List U):Prop:=(v=.af/\xs=[])\/∃id,v=.sl xs (.tok id)/\B<=id/\hp[id]?=some (.tok xs.length 1 3)
def asP{B:Nat}{xs:List U}(hA:Ku B hp v xs)(hB:B<=hp.length)(hx:bV 1 xs=true)(hy:bV 1 [x]=true)(hfit:(xs.length+1)*8<=140737488355328):
  ∃v' hp',cG hp 1 8 3 v (.sl [x] .exact)=some (v',hp')/\Ku B hp' v' (xs++[x])/\hp.length<=hp'.length/\bn v'=true/\v'.cells=[v']/\∀(j:Nat) b,hp[j]?=some b->(∀xs,v≠.sl xs (.tok j))->hp'[j]?=some b:=by
 rcases hA with⟨rfl,rfl⟩|⟨id,rfl,hid,hk⟩
 refine⟨.sl ([]++[x]) (.tok hp.length),hp++[.tok 1 1 3],?_,ax ⟨hp.length,rfl,hB,aBI⟩,aBI,rfl,rfl,λj b h _=>aM h⟩;simp only[cG,e9,ga,contents,hy];simp;have hl:id<hp.length:=gl hk;refine⟨.sl (xs++[x]) (.tok id),hp.set id (.tok (xs.length+1) 1 3),?_,ax ⟨id,rfl,hid,aCr⟩,aBI,rfl,rfl,λj b h hne=>?_⟩;simp[cG,e9,ga,contents,hy,hfit,hx,hk];rw[av (λq=>hne xs (by rw[q]))];exact h
structure Wq(l:List cg)(ps:List bJ)(fe:Int)(a b K k c:Nat)(cs:List Nat)(hp:List aa)(rv kv:U)(b6:List bJ)(kids:List Int)(h:List aa):Prop where
 blk:h[K]?=some (.cells [ag fe,ag 0,ag 0,ai [],kv] false)
 aen:Ku K h kv (kids.map ag)
 kl:kids.length=k
 aes:∀x∈kids,0<=x/\x<((ps++b6).length:Nat)
 row:bX h rv ((ps++b6).map ox) 5 178
 ok:uP (ps++b6)
 jf:wm hp h
 at_:cs[k]?=some c
 ac:a<=c
 cb:c<=b
 cnt:b6.length+k<=2*(c-a)
 stk:∀st,nO ps ps.length st->nO (ps++b6) (ps++b6).length (st++kids)
section
variable{G:Cells}{v:U}{l:List cg}
@[go_sem]def aeH(x:cg)(hp:List aa):aq hp false 1 (.fp x.cells 2)=some (.v (.int .i64 x.low)):=rfl
@[go_sem]def aeG(x:cg)(hp:List aa):aq hp false 1 (.fp x.cells 3)=some (.v (.int .i64 x.high)):=rfl
@[go_sem]def aeI(x:cg)(hp:List aa):aq hp false 1 (.fp x.cells 4)=some (ai x.name):=rfl
def ak7(hv:bL v (l.map kF))(hc:dn v)(hok:∀x∈l,x.tj)(hl:l.length<=1000000000)(w:r7 l):∀(m a b:Nat),b-a<=m->kr l a b->∀(ps:List bJ) (ak:U) (hp:List aa),bX hp ak (ps.map ox) 5 178->uP ps->ps.length+2*(b-a)<=4000000000->
  aE G az 76 [ak,v,.v (.int .i64 (a:Int)),.v (.int .i64 (b:Int))] hp (Wp ps (b-a) hp):=by
 have EF:∀i,i<l.length->1<=kd l i/\kd l i<=5:=λi hi=>by
  have hx:l[i]?=some l[i]:=br hi;rw[AE hx];have:=hok _ (bG hx);exact⟨this.1,this.2.1⟩
 intro m
 induction m with
 |zero=>intro a b h R;have:=R.lt;omega
 |succ m ih=>
  intro a b hm R ps ak hp hA hps hsz;have hlt:=R.lt;have hle:=R.le;refine art.go ?_;refine wy ?_;refine cj (λk e h=>∃fe:Int,e=[(0,ak),(1,v),(2,.v (.int .i64 (a:Int))),(3,.v (.int .i64 (b:Int))),(9,.v (.int .i64 fe))]/\h=hp/\((k=0/\fe=3)\/(k=1/\fe=2/\wv l a b)\/(k=2/\fe=1/\wv l a b/\zC l a b))) 2 ⟨3,rfl,rfl,ay ⟨rfl,rfl⟩⟩ ?_ ?_;rintro i e h hi ⟨fe,rfl,rfl,hI⟩;obtain⟨e,X,sp,hX,abA⟩:∃(e:Nat) (X:Prop),cx G az 138 [v,.v (.int .i64 (a:Int)),.v (.int .i64 (b:Int)),.v (.int .i64 fe)] (Kp l a b e X)/\(X->((i+1=0/\fe-1=3)\/(i+1=1/\fe-1=2/\wv l a b)\/(i+1=2/\fe-1=1/\wv l a b/\zC l a b)))/\((fe=3/\e=1)\/(fe=2/\e=0)):=by
   rcases hI with⟨rfl,rfl⟩|⟨rfl,rfl,nb⟩|⟨rfl,_⟩
   exact⟨1,_,akO hv hc hl w R,λx=>ax (ay ⟨rfl,rfl,x⟩),ay ⟨rfl,rfl⟩⟩;exact⟨0,_,axd hv hc hl w R nb,λx=>ax (ax ⟨rfl,rfl,nb,x⟩),ax ⟨rfl,rfl⟩⟩;omega
  have c2:decide ((2:Int)<=fe)=true:=aBK
  have w1:b7.wrap (fe-1)=fe-1:=wrap_i64 aBH aBH;refine wy ?_;refine aE.cY sp ?_;rintro r ⟨cs,rfl,hP,hcl,HL⟩;have S8:∀g,bO (.sl (lT cs) .no) g=some (.v (.int .i64 (cs.length:Int)),g):=λg=>by
   rw[nF];simp[lT,kN]
  have aAB:=hP.two;refine wy (bA (λq=>?_) λq=>?_);refine wx ?_;exact⟨fe-1,rfl,trivial,by simpa using hX (HL aBQ)⟩;have aAJ:3<=cs.length:=aBQ
  have f1:cm [.v (.int .i64 0),.v (.int .i64 0),.v (.int .i64 0),.v (.string ⟨[].toArray⟩),.af] [(0,1,.v (.int .i64 fe))]=some (nR ⟨fe,0,0,[],[],.no⟩):=rfl;have s1:=vK h ⟨fe,0,0,[],[],.no⟩;have Ro:bX (h++[.cells (nR ⟨fe,0,0,[],[],.no⟩) false]) ak (ps.map ox) 5 178:=by
   rcases hA with z|⟨id,bh,z2⟩
   exact ay z;exact ax ⟨id,bh,aM z2⟩
  have b1:wm h (h++[.cells (nR ⟨fe,0,0,[],[],.no⟩) false]):=⟨aBI,λj b _ q=>aM q⟩;obtain⟨c0,hc0⟩:∃c,cs[0]?=some c:=⟨cs[0],br aBH⟩;refine wy ?_;refine mF (n:=cs.length) (λm e g=>∃(k c:Nat) (rv kv:U) (b6:List bJ) (kids:List Int),m=cs.length-k/\k+1<=cs.length/\e=[(0,rv),(1,v),(9,.v (.int .i64 fe)),(10,.sl (lT cs) .no),(11,.mp h.length 0),(12,.v (.int .i64 (k:Int)))]/\Wq l ps fe a b h.length k c cs h rv kv b6 kids g) ⟨0,c0,ak,.af,[],[],rfl,aBH,rfl,by rw[er (bl _),kj];rfl,ay ⟨rfl,rfl⟩,rfl,aBI,by rw[e4];exact Ro,by rw[e4];exact hps,b1,hc0,(hP.iG _ (bG hc0)).1,(hP.iG _ (bG hc0)).2,aBI,λst hs=>by rw[e4,e4];exact hs⟩ ?_;rintro m e g ⟨k,c,rv,kv,b6,kids,rfl,eL,rfl,hB⟩;have hac:=hB.ac;have hcb:=hB.cb;have Ah:=hB.cnt;have aAz:h.length<g.length:=gl hB.blk
  rcases cE (k+1) cs.length with hk2|hk2
  · obtain⟨y,hy⟩:=cD hk2
    have Mu:=hP.iG y (bG hy);have aAp:bu 1 (.sl (lT cs) .no) (.v (.int .i64 ((k+1:Nat):Int)))=some (.fp [.v (.int .i64 (y:Int))] 0):=ku (x:=.v (.int .i64 (y:Int))) (by simp[lT,hy]) rfl;have ex:bu 1 (.sl (lT cs) .no) (.v (.int .i64 (k:Int)))=some (.fp [.v (.int .i64 (c:Int))] 0):=ku (x:=.v (.int .i64 (c:Int))) (by simp[lT,hB.at_]) rfl;obtain⟨k9,hR,hs,aAM,h3⟩:∃k9:Nat,kr l c k9/\k9-c<b-a/\k9<=y/\(((fe==3)=true/\k+2<cs.length/\b7.wrap ((y:Int)-1)=(k9:Int))\/((fe==3)=true/\cs.length<=k+2/\0<cs.length/\k9=y)\/((fe==3)=false/\0<cs.length/\0<cs.length/\k9=y)):=by
     rcases cE (k+2) cs.length with z|z
     obtain⟨g1,g2,g3⟩:=hP.seg k c y hB.at_ hy z
     rcases abA with⟨rfl,rfl⟩|⟨rfl,rfl⟩
     exact⟨y-1,g1,g3,aBH,ay ⟨rfl,z,F1 aBH aBH⟩⟩;exact⟨y,g1,g3,bl _,ax (ax ⟨rfl,aBH,aBH,rfl⟩)⟩;obtain⟨g1,g2⟩:=hP.fin k c y hB.at_ hy aBH
     rcases abA with⟨rfl,rfl⟩|⟨rfl,rfl⟩
     exact⟨y,g1,g2 aBH,bl _,ax (ay ⟨rfl,z,aBH,rfl⟩)⟩;exact⟨y,g1,g2 aBH,bl _,ax (ax ⟨rfl,aBH,aBH,rfl⟩)⟩
    have hrl:=hR.lt;have w_:=ih c k9 aBH hR (ps++b6) rv g hB.row hB.ok aC0;have step:∀(r:U) (g2:List aa),Wp (ps++b6) (k9-c) g r g2->∃(N:Nat) (bg:U) (g3:List aa) (ts:List bJ),bO r g2=some (.v (.int .i64 (N:Int)),g2)/\b7.wrap ((N:Int)-1)=((N-1:Nat):Int)/\aq g2 false 1 (.mp h.length 4)=some kv/\cG g2 1 8 3 kv (.sl [.v (.int .i64 ((N-1:Nat):Int))] .exact)=some (bg,g3)/\aF g3 1 (.mp h.length 4) bg=some (g3.set h.length (.cells [ag fe,ag 0,ag 0,ai [],bg] false))/\Wq l ps fe a b h.length (k+1) y cs h r bg (b6++ts) (kids++[((N-1:Nat):Int)]) (g3.set h.length (.cells [ag fe,ag 0,ag 0,ai [],bg] false)):=by
     rintro r g2 ⟨ts,tX,It,dO,As,hb,hst⟩;have ln:=BN dO;rw[b_] at ln;have k1:=hb.2 _ _ (by exact trivial) hB.blk;have IF:Ku h.length g2 kv (kids.map ag):=by
      rcases hB.aen with z|⟨id,bh,z2,z3⟩
      exact ay z;exact ax ⟨id,bh,z2,hb.2 _ _ (by show(3:Nat)≠178;decide) z3⟩
     have aBA:=DK.2 tX;have hN:(ps++b6++ts).length=ps.length+b6.length+ts.length:=aBK
     obtain⟨bg,g3,p1,p2,p3,po,pc,fW⟩:=asP (x:=.v (.int .i64 (((ps++b6++ts).length-1:Nat):Int))) IF (by have:=hb.1;omega) (C3 kids) rfl (by simp;have:=hB.kl;omega);have k2:=fW _ _ k1 (λxs q=>by
      rcases IF with⟨z,_⟩|⟨id,bh,_,z2⟩
      rw[z] at q;cases q;rw[bh] at q;cases q;rw[k1] at z2;cases z2)
     have awy:bX g3 r ((ps++b6++ts).map ox) 5 178:=by
      rcases dO with z|⟨id,bh,z2⟩
      exact ay z;refine ax ⟨id,bh,fW _ _ z2 λxs q=>?_⟩
      rcases IF with⟨z,_⟩|⟨aql,y1,_,eg⟩
      rw[z] at q;cases q;rw[y1] at q;cases q;rw[z2] at eg;simp at eg
     have L1:=gl k2;have cX:bn kv=true:=by
      rcases IF with⟨rfl,_⟩|⟨id,rfl,_⟩<;>rfl
     refine⟨(ps++b6++ts).length,bg,g3,ts,ln _,F1 aBH aBH,aeJ k1 cX,p1,ahK k2 po pc,?_⟩;refine⟨aR L1,?_,by simp[hB.kl],?_,?_,?_,?_,hy,Mu.1,Mu.2,?_,λst hs=>by rw[<-cq,<-cq];exact hst _ (hB.stk st hs)⟩;rw[eX]
     rcases p2 with z|⟨id,bh,z2,z3⟩
     exact ay z;refine ax ⟨id,bh,z2,?_⟩;rw[av (λq=>by subst q;rw[k2] at z3;cases z3)];exact z3;intro x hx;rw[<-cq,hN]
     rcases dZ.1 hx with z|z
     have:=hB.aes x z;rw[cB] at this;omega;rw[cr.1 z,hN];omega;rw[<-cq];exact hU awy k2;rw[<-cq];exact As;refine⟨by have:=hB.jf.1;have:=hb.1;simp;omega,λj b fU hj=>?_⟩;have hjl:=gl hj;rw[av aBH];refine fW _ _ (hb.2 _ _ fU (hB.jf.2 _ _ fU hj)) λxs q=>?_
     rcases IF with⟨z,_⟩|⟨aql,y1,y0,eg⟩
     rw[z] at q;cases q;rw[y1] at q;cases q;omega;rw[cB];omega
    rcases h3 with⟨t1,t2,t3⟩|⟨t1,t2,t3,rfl⟩|⟨t1,t2,t3,rfl⟩
    all_goals
     refine wy (aZ w_ ?_);intro r g2 hr;obtain⟨N,bg,g3,ts,u1,u2,u3,u4,aBF,ayV⟩:=step r g2 hr;refine wy ?_;exact⟨cs.length-(k+1),aBH,k+1,_,r,bg,b6++ts,kids++[((N-1:Nat):Int)],rfl,aBH,rfl,ayV⟩
  have cK:=hB.kl;obtain⟨id,rfl,_,_⟩:∃id,kv=.sl (kids.map ag) (.tok id)/\True/\True:=by
   rcases hB.aen with⟨_,z⟩|⟨id,z,_⟩
   have:kids=[]:=aCa
   rw[this] at cK;simp at cK;omega;exact⟨id,z,trivial,trivial⟩
  have hcell:[ag fe,ag 0,ag 0,ai [],.sl (kids.map ag) (.tok id)]=nR ⟨fe,0,0,[],kids,.tok id⟩:=by
   cases kids with
   |nil=>simp at cK;omega
   |cons x r=>rfl
  have apo:=aez hB.blk;rw[hcell] at apo;obtain⟨v',g2,p1,p2,p3⟩:=UA hB.row aC0 ⟨fe,0,0,[],kids,.tok id⟩;have ab:=GC ⟨fe,0,0,[],kids,.tok id⟩;unfold ox at ab p1;refine wy ?_;refine⟨b6++[⟨fe,0,0,[],kids,.tok id⟩],aBI,aBK,by rw[<-cq];exact p2,?_,hB.jf.trans p3,λst hs=>by rw[<-cq];exact Va (p:=⟨fe,0,0,[],kids,.tok id⟩) (hB.stk st hs)⟩;rw[<-cq];exact hB.ok.push ⟨ax (ay ⟨by show fe=2\/fe=3;omega,by show 2<=kids.length;omega⟩),hB.aes⟩;rintro e h ⟨fe,rfl,rfl,hI⟩;obtain⟨rfl,nb,ns⟩:fe=1/\wv l a b/\zC l a b:=by
   rcases hI with⟨z,_⟩|⟨z,_⟩|⟨_,z⟩
   omega;omega;exact z
  obtain⟨x,hx⟩:∃x,l[b-1]?=some x:=⟨l[b-1],br aBH⟩;obtain⟨y,hy⟩:∃x,l[a]?=some x:=⟨l[a],br aBH⟩;have e1:bu 5 v (.v (.int .i64 ((b-1:Nat):Int)))=some (.fp x.cells 0):=hv.bK (x:=x.aG) aBU rfl;have e2:bu 5 v (.v (.int .i64 (a:Int)))=some (.fp y.cells 0):=hv.bK (x:=y.aG) aB9 rfl;have Mf:=AE hx;have aph:=AE hy;have xw:=hok x (bG hx);have CB:=hok y (bG hy);have c21:decide ((2:Int)<=1)=false:=aBJ
  have wb:b7.wrap ((b:Int)-1)=((b-1:Nat):Int):=F1 aBH aBH;by_cases gd:x.kind=5;have hr:=ih a (b-1) aBH (R.ay0 w (by rw[Mf];exact gd)) ps ak h hA hps aBH;refine fC @oO (aZ hr ?_);rintro r g ⟨b6,Mo,hq1,dO,As,hb,hst⟩;have ln:=BN dO;rw[b_] at ln;have hpos:0<(ps++b6).length:=by rw[cB];have:=DK.2 Mo;omega
  have abv:(ps++b6).length<=4000000000:=aC0
  obtain⟨v',g2,p1,p2,p3⟩:=UA dO abv ⟨4,x.low,x.high,[],[(((ps++b6).length-1:Nat):Int)],.exact⟩;have wl:b7.wrap (((ps++b6).length:Int)-1)=(((ps++b6).length-1:Nat):Int):=F1 aBH aBH;have f4:cm [.v (.int .i64 0),.v (.int .i64 0),.v (.int .i64 0),.v (.string ⟨[].toArray⟩),.af] [(0,1,.v (.int .i64 4)),(1,1,.v (.int .i64 x.low)),(2,1,.v (.int .i64 x.high)),(4,1,.sl [.v (.int .i64 (((ps++b6).length-1:Nat):Int))] .exact)]=some (nR ⟨4,x.low,x.high,[],[(((ps++b6).length-1:Nat):Int)],.exact⟩):=rfl;have ab:=GC ⟨4,x.low,x.high,[],[(((ps++b6).length-1:Nat):Int)],.exact⟩;unfold ox at ab p1;generalize hN:(ps++b6).length=N at ln wl f4 ab p1 p2 hpos abv;refine nP (dV @wb @e1 @wE @aeH) (dV @aeG @ln @wl @wD) @f4 @ab @p1 ?_;refine⟨b6++[⟨4,x.low,x.high,[],[((N-1:Nat):Int)],.exact⟩],aBI,aBK,by rw[<-cq];exact p2,?_,hb.trans p3,λst hs=>by rw[<-cq];exact Va (p:=⟨4,x.low,x.high,[],[((N-1:Nat):Int)],.exact⟩) (by have:=hst st hs;rw[hN] at this⊢;exact this)⟩;rw[<-cq];refine As.push ⟨ax (ax ⟨rfl,rfl,xw.2.2.2 gd⟩),λz hz=>?_⟩;rw[cr.1 (show z∈[((N-1:Nat):Int)] from hz),hN];omega;have gS:(x.kind==5)=false:=by simpa using gd
  by_cases ah:y.kind=2;have hr:=ih (a+1) (b-1) aBH (R.inner w EF nb ns (by rw[aph];exact ah) (by rw[Mf];exact gd)) ps ak h hA hps aBH;refine fC @oO (aZ hr ?_);rintro r g ⟨b6,Mo,hq1,dO,As,hb,hst⟩;refine wy ?_;exact⟨b6,Mo,aBH,dO,As,hb,hst⟩;have n2:(y.kind==2)=false:=aB8
  obtain⟨v',g2,p1,p2,p3⟩:=UA hA aBH ⟨1,0,0,y.name,[],.no⟩;have f4:cm [.v (.int .i64 0),.v (.int .i64 0),.v (.int .i64 0),.v (.string ⟨[].toArray⟩),.af] [(0,1,.v (.int .i64 1)),(3,1,ai y.name)]=some (nR ⟨1,0,0,y.name,[],.no⟩):=rfl;have ab:=GC ⟨1,0,0,y.name,[],.no⟩;unfold ox at ab p1;refine fB (dV @c21 @wb @e1 @e2) (dV @wE @oO @aeI @gS) (dV @n2 @f4 @ab @p1) ?_;refine⟨[⟨1,0,0,y.name,[],.no⟩],aBI,aBK,p2,?_,p3,λst hs=>Va (p:=⟨1,0,0,y.name,[],.no⟩) (by rw[e4];exact hs)⟩;exact hps.push ⟨ay ⟨rfl,CB.2.2.1,rfl⟩,λz hz=>by cases hz⟩
end
structure uM(n:Nat)(v:U)(ps:List bJ):Prop where
 v:bL v (ps.map ox)
 ok:uP ps
 len:ps.length<=2*n
 top:ps=[]\/∃x,nO ps ps.length [x]
 no:∀p∈ps,p.tail=.no
def WL(n:Nat)(r:U):Prop:=∃(v:U) (ps:List bJ) (p e:Int),r=.aK [v,.v (.int .i64 p),.v (.int .i64 e)]/\uM n v ps
def afZ{G:Cells}(s:List UInt8)(hs:s.length<=1000000000):cx G az 40 [ai s] (WL s.length):=by
 refine cR (aq4.go ?_);have bad:∀(hp:List aa) (p e:Int),∃k aQ,b9 hp k (.aK [.af,.v (.int .i64 p),.v (.int .i64 e)])=some aQ/\WL s.length aQ:=λhp p e=>by
  obtain⟨k,hk⟩:=(dR (aA cS (aA (aB (.int .i64 p)) (aA (aB (.int .i64 e)) bW))):aX hp _ _).done;exact⟨k,_,hk,.af,[],p,e,rfl,ax ⟨rfl,rfl⟩,λi p h=>aBR,ic _,ay rfl,aBI⟩
 refine wy ?_;refine aE.cY (atB s hs) ?_;rintro r ⟨v,l,p,e,rfl,hv,hl,hok⟩;have hc:dn v:=by
  rcases hv with rfl|⟨rfl,_⟩
  exact jZ Qk;exact mg
 have ln:=hv.bO;rw[b_] at ln;refine wy (bA (λq=>?_) λq=>?_);exact cV @q (bad _ _ _);refine wy ?_;refine aE.cY (alg hv aBH) ?_;rintro r ⟨p2,b2,rfl,hK⟩;refine wy (bA (λah=>?_) λah=>?_)
 rcases hK with⟨rfl,_⟩|⟨i,rfl,hi⟩
 simp at ah;obtain⟨x,hx⟩:=cD hi;have e1:bu 5 v (.v (.int .i64 (i:Int)))=some (.fp x.cells 0):=hv.bK (x:=x.aG) aBU rfl;have e2:∀hp,aq hp false 1 (.fp x.cells 1)=some (.v (.int .i64 x.at_)):=λhp=>rfl;exact gV @ah @e1 @e2 (bad _ _ _);cases b2 with
 |true=>
  exact cV @ah (bad _ _ _)
 |false=>
  have hW:r7 l:=by
   rcases hK with⟨rfl,h⟩|⟨i,rfl,hi⟩
   exact h rfl;simp at ah
  refine wy ?_;refine b8 (λaN=>?_) λaN=>?_;exact bad _ _ _;have h0:0<l.length:=by simp at aN;exact DK.2 aN
  have EF:∀i,i<l.length->1<=kd l i/\kd l i<=5:=λi hi=>by
   have hx:l[i]?=some l[i]:=br hi;rw[AE hx];have:=hok _ (bG hx);exact⟨this.1,this.2.1⟩
  refine wy (aZ (ak7 hv hc hok aBH hW l.length 0 l.length aBH (hW.all EF h0) [] .af _ (qa _ _ _) (λi p h=>aBR) aBK) ?_);rintro r g ⟨b6,Mo,hq1,dO,As,hb,hst⟩;refine wy ?_;have ES:=hst [] rfl;rw[eR] at dO As ES
  rcases dO with⟨rfl,z⟩|⟨id,rfl,_⟩
  exact bad _ _ _;obtain⟨k,hk⟩:=(dR (aA (fj (t:=.tok id) (dD.MW λa _=>Ra g a)) (aA (aB (.int .i64 0)) (aA (aB (.int .i64 0)) bW))):aX g (.aK [.sl (b6.map ox) (.tok id),.v (.int .i64 0),.v (.int .i64 0)]) (.aK [.sl (b6.map λp=>p.bw.aG) .no,.v (.int .i64 0),.v (.int .i64 0)])).done;refine⟨k,_,hk,.sl (b6.map λp=>p.bw.aG) .no,b6.map bJ.bw,0,0,rfl,ay ?_,avA As,aBK,ax ⟨_,by rw[b_];exact ahP ES⟩,λp hp=>?_⟩;rw[we];rfl;obtain⟨q,_,rfl⟩:=cO.1 hp;rfl
end
section
variable{a b:List UInt8}{ak v:U}{l:List cg}{ps:List bJ}{p:bJ}{n:Nat}{t:iD}{h:List aa}
@[go_sem]def Xj(h:a.length+b.length<=1000):ct .add (.v (.string ⟨a.toArray⟩)) (ai b)=some (ai (a++b)):=r9 (a:=a) aBH
@[go_sem]def D5(h:a.length+b.length<=1000000000):ct .add (ai a) (.v (.string ⟨b.toArray⟩))=some (ai (a++b)):=r9 (b:=b) aBH
section
variable{G:Cells}
def ayB(lo hi:Int):cx G az 269 [.v (.int .i64 lo),.v (.int .i64 hi)] (wB 60):=by
 refine cR (ass.go ?_);refine ni ?_
 repeat' refine ba (λq'=>?_) λq'=>?_
 all_goals first
  |(exfalso;omega)
  |exact pG (t:=[42]) aBJ
  |exact pG (t:=[43]) aBJ
  |exact pG (t:=[63]) aBJ
  |(refine aE.cY (UO lo) ?_
    rintro r ⟨t,rfl,ht⟩;have a1:ct .add (.v (.string ⟨[123].toArray⟩)) (ai t)=some (ai ([123]++t)):=Xj aBK;have a2:ct .add (ai ([123]++t)) (.v (.string ⟨[125].toArray⟩))=some (ai ([123]++t++[125])):=D5 aBK;have a3:ct .add (ai ([123]++t)) (.v (.string ⟨[44,125].toArray⟩))=some (ai ([123]++t++[44,125])):=D5 aBK;have a4:ct .add (ai ([123]++t)) (.v (.string ⟨[44].toArray⟩))=some (ai ([123]++t++[44])):=D5 aBK;refine di @a1 ?_
    repeat' ((refine bA (λq=>?_) λq=>?_)<;>(have q':=q)<;>(simp -failIfUnchanged only[lO] at q')<;>(refine kf @a2 @a3 @a4 @q ?_))
    all_goals first
     |(exfalso;omega)
     |exact pG (t:=[123]++t++[125]) (by simp only[cB,dm,fQ];omega)
     |exact pG (t:=[123]++t++[44,125]) (by simp only[cB,dm,fQ];omega)
     |(refine aE.cY (UO hi) ?_
       rintro r ⟨t2,rfl,Cw⟩;have a5:ct .add (ai ([123]++t++[44])) (ai t2)=some (ai ([123]++t++[44]++t2)):=r9 aBK;have a6:ct .add (ai ([123]++t++[44]++t2)) (.v (.string ⟨[125].toArray⟩))=some (ai ([123]++t++[44]++t2++[125])):=D5 aBK;refine kE @a5 @a6 ?_;exact pG aBK))
def cg.DW(x:cg):Prop:=1<=x.kind/\x.kind<=5/\x.name.length<=12
def axp(hv:bL v (l.map kF))(hok:∀x∈l,x.DW)(hl:l.length<=1000000):cx G az 244 [v] (wB (100*l.length)):=by
 refine cR (asm.go ?_);have ln:=hv.bO;rw[b_] at ln;have ab:dA 1 [.v (.string ⟨[].toArray⟩),.v (.string ⟨[].toArray⟩),.v (.string ⟨[40].toArray⟩),.v (.string ⟨[41].toArray⟩),.v (.string ⟨[124].toArray⟩)]=some (.sl [ai [],ai [],ai [40],ai [41],ai [124]] .exact):=rfl;have i2:bu 1 (.sl [ai [],ai [],ai [40],ai [41],ai [124]] .exact) (.v (.int .i64 2))=some (.fp [ai [40]] 0):=rfl;have i3:bu 1 (.sl [ai [],ai [],ai [40],ai [41],ai [124]] .exact) (.v (.int .i64 3))=some (.fp [ai [41]] 0):=rfl;have i4:bu 1 (.sl [ai [],ai [],ai [40],ai [41],ai [124]] .exact) (.v (.int .i64 4))=some (.fp [ai [124]] 0):=rfl;refine wy ?_;refine cj (λi e h=>∃t:List UInt8,e=[(0,v),(3,.sl [ai [],ai [],ai [40],ai [41],ai [124]] .exact),(4,ai t),(5,ag i)]/\t.length<=100*i) l.length ⟨[],rfl,aBI⟩ ?_ ?_
 · rintro i e hp hi ⟨t,rfl,ht⟩
   obtain⟨x,hx⟩:=cD hi;have xw:=hok x (bG hx);have e1:bu 5 v (.v (.int .i64 (i:Int)))=some (.fp x.cells 0):=hv.bK (x:=x.aG) aBU rfl;have e2:∀hp,aq hp true 5 (.fp x.cells 0)=some (.agg x.cells):=λhp=>rfl;have s1:=sQ hp x;unfold fD at s1;have eG:∀g:List aa,g[hp.length]?=some (.cells x.cells false)->aq g false 1 (.mp hp.length 0)=some (.v (.int .i64 x.kind))/\aq g false 1 (.mp hp.length 2)=some (.v (.int .i64 x.low))/\aq g false 1 (.mp hp.length 3)=some (.v (.int .i64 x.high))/\aq g false 1 (.mp hp.length 4)=some (ai x.name):=λg q=>by
    simp only[aq,q];exact⟨rfl,rfl,rfl,rfl⟩
   have hm:(hp++[aj x.cells false])[hp.length]?=some (.cells x.cells false):=aBI
   obtain⟨l0,l2,l3,l4⟩:=eG _ hm;have sp:ct .add (ai t) (.v (.string ⟨[32].toArray⟩))=some (ai (t++[32])):=D5 aBK;have main:∀u:List UInt8,u.length<=100*i+1->(∀w:List UInt8,w.length<=60->ct .add (ai u) (ai w)=some (ai (u++w)))/\(∀w:List UInt8,w.length<=60->(u++w).length<=100*(i+1)):=λu hu=>⟨λw hw=>r9 aBH,λw hw=>aBK⟩;obtain⟨k1,k2,hn⟩:=xw;have RM:x.kind=1\/x.kind=2\/x.kind=3\/x.kind=4\/x.kind=5:=aBH
   have b1:=(main t aBH).1 x.name aBH;have b2:=(main (t++[32]) aBK).1 x.name aBH;have d1:=(main t aBH).2 x.name aBH;have d2:=(main (t++[32]) aBK).2 x.name aBH;have c1:=λw hw=>(main t aBH).1 w hw;have c2:=λw hw=>(main (t++[32]) aBK).1 w hw;have bh:=λw hw=>(main t aBH).2 w hw;have z2:=λw hw=>(main (t++[32]) aBK).2 w hw
   rcases RM with q|q|q|q|q
   all_goals
    rw[q] at l0;refine wy ?_
    repeat' ((refine bA (λq=>?_) λq=>?_)<;>(have q':=q)<;>(simp -failIfUnchanged only[lO] at q')<;>(refine lB (dV @iE @l0 @sp @l4) (dV @b1 @b2 @i2 @i3) (dV @i4 @tN (c1 [40] aBJ) (c2 [40] aBJ)) (dV (c1 [41] aBJ) (c2 [41] aBJ) (c1 [124] aBJ) (c2 [124] aBJ)) @l2 @l3 @q ?_))
   all_goals first
    |(exfalso;omega)
    |exact⟨_,rfl,d1⟩
    |exact⟨_,rfl,d2⟩
    |exact⟨_,rfl,bh _ aBJ⟩
    |exact⟨_,rfl,z2 _ aBJ⟩
    |(refine aE.cY (ayB _ _) ?_
      rintro r ⟨w,rfl,hw⟩;refine wy ?_
      first
       |exact⟨_,rfl,bh w hw⟩
       |exact⟨_,rfl,z2 w hw⟩)
 rintro e h ⟨t,rfl,ht⟩;exact wy (pG ht)
end
def DQ(ps:List bJ):Prop:=∀(i:Nat) p,ps[i]?=some p->∀x∈p.kids,0<=x/\x<(i:Int)
def uP.kids(h:uP ps):DQ ps:=λi p hp=>(h i p hp).2
def ayg(h:DQ ps):∀(n f g:Nat) (i:Int),i.toNat<n->i.toNat<f->i.toNat<g->uA ps f i=uA ps g i:=by
 intro n
 induction n with
 |zero=>intro f g i h0;omega
 |succ n ih=>
  intro f g i h0 h1 h2;obtain⟨f,rfl⟩:∃f',f=f'+1:=⟨f-1,aBH⟩;obtain⟨g,rfl⟩:∃g',g=g'+1:=⟨g-1,aBH⟩;unfold uA;cases hp:ps[i.toNat]? with
  |none=>rfl
  |some p=>
   dsimp only;congr 2;refine zv λk hk=>?_;have:=h _ p hp k hk;rw[ih f g k aBH aBH aBH]
def Oi(h:DQ ps){i:Nat}(hp:ps[i]?=some p):sz ps (i:Int)=3+(p.kids.map λk=>sz ps k+1).sum:=by
 show uA ps (i+1) (i:Int)=_;unfold uA;rw[uG,hp];dsimp only;congr 2;refine zv λk hk=>?_;have:=h _ p hp k hk;rw[ayg h (i+1) i (k.toNat+1) k aBH aBH aBH];rfl
def U_(h:DQ ps):∀{i:Nat} {st:List Int},nO ps i st->(st.map λk=>sz ps k+1).sum<=4*i
 |0,st,hs=>by rw[show st=[] from hs];simp
 |i+1,st,⟨p,ot,hp,h1,h2⟩=>by
  have:=U_ h h1;rw[h2];simp only[eX,ajo,eD,kX,wh,DL] at this⊢;rw[Oi h hp];omega
def Oh(f:Int->Nat):∀ks:List Int,ks.length<=(ks.map λk=>f k+1).sum
 |[]=>bl _
 |k::r=>by have:=Oh f r;simp only[eD,wh,dm];omega
def ajR(n:Nat)(r:U):Prop:=∃l:List cg,r=.sl (l.map kF) .no/\l≠[]/\l.length<=n/\∀x∈l,x.DW
def XA{hp:List aa}{xs ys:List U}{aY:Nat}{e:TypeId}(hA:bX hp v xs n e)(hx:bV n xs=true)(hy:bV n ys=true)(hne:ys≠[])(hn:0<n)(hb:0<aY)(hfit:(xs.length+ys.length)*aY<=140737488355328):
  ∃v' hp',cG hp n aY e v (.sl ys t)=some (v',hp')/\bX hp' v' (xs++ys) n e/\∀(j:Nat) b,hp[j]?=some b->(∀xs,v≠.sl xs (.tok j))->hp'[j]?=some b:=by
 rcases hA with⟨rfl,rfl⟩|⟨id,rfl,hk⟩
 refine⟨.sl ([]++ys) (.tok hp.length),hp++[.tok ys.length n e],?_,ax ⟨hp.length,rfl,aBI⟩,λj b h _=>aM h⟩;simp only[fQ,e5] at hfit;simp[cG,e9,ga,contents,hne,hy,hn,hb,hfit];have hl:id<hp.length:=gl hk;refine⟨.sl (xs++ys) (.tok id),hp.set id (.tok (xs.length+ys.length) n e),?_,ax ⟨id,rfl,aCr⟩,λj b h hne=>?_⟩;simp[cG,e9,ga,contents,hne,hy,hn,hb,hfit,hx,hk];rw[av (λq=>hne xs (by rw[q]))];exact h
structure r5(p:bJ)(l:List cg)(ak:U)(h:List aa):Prop where
 b:h[0]?=some (.cells p.cells false)
 a:bX h ak (l.map kF) 5 175
 ok:∀x∈l,x.DW
def r5.Jg{m:List cg}(s:r5 p l ak h)(hm:∀x∈m,x.DW)(hne:m≠[])(hl:l.length+m.length<=2000000):∃bg g,cG h 5 48 175 ak (.sl (m.map kF) t)=some (bg,g)/\r5 p (l++m) bg g:=by
 obtain⟨bg,g,e1,hA,hk⟩:=XA (ys:=m.map kF) (aY:=48) (t:=t) s.a (Ja l) (Ja m) (by simpa using hne) aBJ aBJ aBK;refine⟨bg,g,e1,hk _ _ s.b λxs z=>?_,by rw[eX];exact hA,λx hx=>?_⟩
 rcases s.a with⟨q,_⟩|⟨id,q1,ah⟩
 rw[q] at z;cases z;rw[q1] at z;cases z;rw[s.b] at ah;cases ah
 rcases dZ.1 hx with z|z
 exact s.ok x z;exact hm x z
def r5.push(s:r5 p l ak h)(x:cg)(hx:x.DW)(hl:l.length<=1000000):∃bg g,cG h 5 48 175 ak (.sl [.agg x.cells] .exact)=some (bg,g)/\r5 p (l++[x]) bg g:=
 s.Jg (m:=[x]) (λy hy=>aEj) aBI aBK
def yx(h:uM n v ps):dn v:=by
 rcases h.v with rfl|⟨rfl,_⟩
 refine jZ λx hx c hc=>?_;obtain⟨p,hp,rfl⟩:=cO.1 hx;have m_:=h.no p hp;have:c=ag p.kind\/c=ag p.low\/c=ag p.high\/c=ai p.name\/c=p.kv:=by simpa[ox,gm,nR] using hc
 rcases this with rfl|rfl|rfl|rfl|rfl
 exact bM _;exact bM _;exact bM _;exact bM _;unfold bJ.kv;split;exact mg;rw[m_];refine jZ λx hx c hc=>?_;obtain⟨t,_,rfl⟩:=cO.1 hx;rw[cr.1 (show c∈[ag t] from hc)];exact bM _;exact mg
section
variable{G:Cells}
def axu(h:uM n v ps):∀(m i:Nat),i<m->i<ps.length->sz ps (i:Int)<=1000000->∀b:Bool,cx G az 245 [v,.v (.int .i64 (i:Int)),.v (.bool b)] (ajR (sz ps (i:Int))):=by
 intro m
 induction m with
 |zero=>intro i hi;omega
 |succ m ih=>
  intro i hi jk hsz b;obtain⟨p,hp⟩:=cD jk;have jl:=h.ok i p hp;have m_:=h.no p (bG hp);have hs:=Oi h.ok.kids hp;have cK:=Oh (λk=>sz ps k) p.kids;have lk:=vn m_ aBH;have kc:=yx h;have e1:bu 5 v (.v (.int .i64 (i:Int)))=some (.fp p.cells 0):=h.v.bK (x:=p.aG) (by simp[hp]) rfl;have Zq:∀c:Int,cm [.v (.int .i64 0),.v (.int .i64 0),.v (.int .i64 0),.v (.int .i64 0),.v (.string ⟨#[]⟩)] [(0,1,.v (.int .i64 c))]=some (fH ⟨c,0,0,0,[]⟩):=λc=>rfl;have f1:cm [.v (.int .i64 0),.v (.int .i64 0),.v (.int .i64 0),.v (.int .i64 0),.v (.string ⟨#[]⟩)] [(0,1,.v (.int .i64 1)),(4,1,ai p.name)]=some (fH ⟨1,0,0,0,p.name⟩):=rfl;have f5:cm [.v (.int .i64 0),.v (.int .i64 0),.v (.int .i64 0),.v (.int .i64 0),.v (.string ⟨#[]⟩)] [(0,1,.v (.int .i64 5)),(2,1,.v (.int .i64 p.low)),(3,1,.v (.int .i64 p.high))]=some (fH ⟨5,0,p.low,p.high,[]⟩):=rfl;have j7:∀c:Int,2<=c->c<=4->cg.DW ⟨c,0,0,0,[]⟩:=λc h1 h2=>⟨by show 1<=c;omega,by show c<=5;omega,aC8⟩;have eG:∀g:List aa,g[0]?=some (.cells p.cells false)->aq g false 1 (.mp 0 0)=some (.v (.int .i64 p.kind))/\aq g false 1 (.mp 0 1)=some (.v (.int .i64 p.low))/\aq g false 1 (.mp 0 2)=some (.v (.int .i64 p.high))/\aq g false 1 (.mp 0 3)=some (ai p.name)/\aq g false 1 (.mp 0 4)=some p.kv:=λg q=>by
   simp only[aq,q];exact⟨rfl,rfl,rfl,rfl,rfl⟩
  refine cR (asn.go ?_);have s1:=vK [] p;simp only[eR,fQ] at s1;refine cM (λe g=>e=[(0,v),(1,.v (.int .i64 (i:Int))),(2,.v (.bool b))]/\g=[]) ?_ ?_;refine wx ?_
  first|exact⟨rfl,rfl⟩|exact⟨trivial,trivial⟩|trivial
  rintro e g ⟨rfl,rfl⟩;refine cM (λe g=>e=[(0,v),(1,.v (.int .i64 (i:Int))),(2,.v (.bool b)),(7,.af)]/\g=[]) ?_ ?_;refine wx ?_
  first|exact⟨rfl,rfl⟩|exact⟨trivial,trivial⟩|trivial
  rintro e g ⟨rfl,rfl⟩;refine cM (λe g=>e=[(0,v),(2,.v (.bool b)),(7,.af),(8,.mp 0 0)]/\g=[.cells p.cells false]) ?_ ?_;refine wx ?_
  first|exact⟨rfl,rfl⟩|exact⟨trivial,trivial⟩|trivial
  rintro e g ⟨rfl,rfl⟩;have WT:r5 p [] .af [.cells p.cells false]:=⟨rfl,qa _ _ _,aBI⟩;refine cM (λe g=>∃l ak,e=[(0,v),(2,.v (.bool b)),(7,ak),(8,.mp 0 0)]/\r5 p l ak g/\l.length<=1) ?_ ?_;obtain⟨bg,g,p1,p2⟩:=WT.push ⟨2,0,0,0,[]⟩ (j7 2 aBJ aBJ) aBI;cases b with
  |true=>
   refine wx ?_;exact⟨_,bg,rfl,p2,aBI⟩
  |false=>
   refine wy ?_;exact⟨[],.af,rfl,WT,aBI⟩
  rintro e g ⟨l1,o1,rfl,Pp,hl1⟩;obtain⟨d0,d1,d2,d3,d4⟩:=eG g Pp.b;refine cM (λe g=>∃l ak,e=[(0,v),(2,.v (.bool b)),(7,ak),(8,.mp 0 0)]/\r5 p l ak g/\l.length<=1+(if p.kind=1 then 1 else 0)/\(p.kind=1->l≠[])) ?_ ?_;by_cases q1:p.kind=1;have hn:p.name.length<=12:=by
   rcases jl.1 with z|z|z
   exact z.2.1;omega;omega
  obtain⟨bg,g2,p1,p2⟩:=Pp.push ⟨1,0,0,0,p.name⟩ ⟨by show(1:Int)<=1;decide,aCG,hn⟩ aBH;refine wx ?_;exact⟨_,bg,rfl,p2,aBK,λ_=>aBI⟩;have n1:(p.kind==1)=false:=aCN
  refine fG @d0 @n1 ?_;exact⟨l1,o1,rfl,Pp,aBH,λz=>absurd z q1⟩;rintro e g ⟨l2,o2,rfl,ajQ,fu,abe⟩;have ED:(if p.kind=1 then 1 else 0)<=1:=by split<;>omega
  refine cM (λe g=>∃l ak,e=[(2,.v (.bool b)),(7,ak),(8,.mp 0 0)]/\r5 p l ak g/\l.length<=1+(if p.kind=1 then 1 else 0)+(p.kids.map λk=>sz ps k+1).sum/\l≠[]) ?_ ?_;refine wy ?_;refine cj (λj e g=>∃l ak,e=[(0,v),(2,.v (.bool b)),(7,ak),(8,.mp 0 0),(9,ag j)]/\r5 p l ak g/\l.length<=1+(if p.kind=1 then 1 else 0)+((p.kids.take j).map λk=>sz ps k+1).sum/\((p.kind=1\/0<j)->l≠[])) p.kids.length ⟨l2,o2,rfl,ajQ,aBK,λz=>abe aBH⟩ ?_ ?_
  · rintro j e g hj ⟨l3,iw,rfl,D2,mW,Sf⟩
    obtain⟨x,hx⟩:=cD hj;obtain⟨x0,x1⟩:=jl.2 x (bG hx);obtain⟨xn,rfl⟩:=mJ x0;obtain⟨q,hq⟩:∃q,ps[xn]?=some q:=⟨ps[xn],br aBH⟩;have uz:=vL (f:=λk=>sz ps k+1) hx;have sl:=y_ (λk=>sz ps k+1) p.kids (j+1);have iW:bu 1 p.kv (.v (.int .i64 (j:Int)))=some (.fp [.v (.int .i64 (xn:Int))] 0):=by
     unfold bJ.kv;split;rename_i z;rw[z] at hx;simp at hx;exact ku (x:=ag (xn:Int)) (by rw[eC,hx];rfl) rfl
    have sn:bu 5 v (.v (.int .i64 (xn:Int)))=some (.fp q.cells 0):=h.v.bK (x:=q.aG) aCp rfl;have G7:∀hp,aq hp false 1 (.fp q.cells 0)=some (.v (.int .i64 q.kind)):=λhp=>rfl;obtain⟨c0,_,_,_,c4⟩:=eG g D2.b;obtain⟨bv,LU,b1,WW⟩:=D2.push ⟨4,0,0,0,[]⟩ (j7 4 aBJ aBJ) aBH;obtain⟨oV,_,_,_,u4⟩:=eG LU WW.b;have FX:b7.wrap ((j:Int)+1)=((j+1:Nat):Int):=jA aBH;refine wy ?_
    repeat' ((refine bA (λq=>?_) λq=>?_)<;>(have q':=q)<;>(simp -failIfUnchanged only[lO] at q')<;>(refine p9 (dV @iE @c4 @c0 @u4) (dV @oV @lk @iW @tN) @sn @wE @G7 @Zq @Xe @b1 @q ?_))
    all_goals first
     |(exfalso;omega)
     |(refine aE.cY (ih xn aBH aBH aBH _) ?_
       rintro r ⟨ys,rfl,y1,eg,jU⟩
       first
        |(obtain⟨bg,g2,p1,p2⟩:=D2.Jg (t:=.no) jU y1 aBH
          refine wy ?_;exact⟨_,bg,rfl,p2,aC0,λ_=>by simp[y1]⟩)
        |(obtain⟨bg,g2,p1,p2⟩:=WW.Jg (t:=.no) jU y1 aBK
          refine fG @p1 @FX ?_;exact⟨_,bg,rfl,p2,by rw[cB,cB,nq];omega,λ_=>by simp[y1]⟩))
  rintro e g ⟨l3,iw,rfl,D2,mW,Sf⟩;obtain⟨d0,d1,d2,d3,d4⟩:=eG g D2.b;refine wy ?_;rw[rV] at mW;refine⟨l3,iw,rfl,D2,mW,Sf ?_⟩
  rcases jl.1 with z|z|z
  exact ay z.1;exact ax aBH;exact ax aBH;rintro e g ⟨l4,kD,rfl,Pr,apk,apy⟩;obtain⟨d0,d1,d2,d3,d4⟩:=eG g Pr.b;refine cM (λe g=>∃l ak,e=[(2,.v (.bool b)),(7,ak)]/\r5 p l ak g/\l.length<=2+(p.kids.map λk=>sz ps k+1).sum/\l≠[]) ?_ ?_;by_cases dI:p.kind=4;rw[if_neg aBH] at apk;obtain⟨bg,g2,p1,p2⟩:=Pr.push ⟨5,0,p.low,p.high,[]⟩ ⟨aCG,aD_,aC8⟩ aBH;refine wx ?_;exact⟨_,bg,rfl,p2,aBK,aBI⟩;have gF:(p.kind==4)=false:=aC5
  refine wy ?_;exact⟨l4,kD,rfl,Pr,aBH,apy⟩;rintro e g ⟨AG,nH,rfl,WU,R8,apz⟩;refine cM (λe g=>∃l ak,e=[(7,ak)]/\r5 p l ak g/\l.length<=3+(p.kids.map λk=>sz ps k+1).sum/\l≠[]) ?_ ?_;cases b with
  |true=>
   obtain⟨bg,g2,p1,p2⟩:=WU.push ⟨3,0,0,0,[]⟩ (j7 3 aBJ aBJ) aBH;refine wx ?_;exact⟨_,bg,rfl,p2,aBK,aBI⟩
  |false=>
   refine wy ?_;exact⟨AG,nH,rfl,WU,aBH,apz⟩
  rintro e g ⟨CM,rF,rfl,WV,Mh,abf⟩;refine wy ?_
  rcases WV.a with⟨rfl,z⟩|⟨id,rfl,_⟩
  exact absurd aCa abf;obtain⟨k,hk⟩:=(fj (t:=.tok id) (gh (f:=kF) (l:=CM) λa _=>Z2 a):aX g _ _).done;exact⟨k,_,hk,CM,rfl,abf,aBH,WV.ok⟩
def axn(h:uM n v ps)(hn:n<=100000)(hne:ps≠[]):cx G az 199 [v] (wB (800*n)):=by
 have hl:=h.len;obtain⟨x,hx⟩:=h.top.resolve_left hne;have hr:=Vb hne hx;have hs:=U_ h.ok.kids hx;rw[hr] at hs;simp only[eD,kX,wh,DL] at hs;have ln:=h.v.bO;rw[b_] at ln;refine cR (ar_.go ?_);refine wy (gf (axu h ps.length (ps.length-1) aBH aBH aBH false) (aP (yx h) (aP (bM _) (aP (bM _) bS))) ?_);rintro r ⟨ys,rfl,y1,eg,jU⟩;refine wy (gf (axp (ay rfl) jU aBH) (aP (jZ Qk) bS) ?_);rintro r ⟨t,rfl,ht⟩;refine wy ?_;exact pG aBH
end
end
section
variable{l:List (List UInt8)}{w:List UInt8}{v:U}
def ir:List (List UInt8)->Nat
 |[]=>0
 |w::r=>w.length+1+ir r
def MV(a b:List (List UInt8)):ir (a++b)=ir a+ir b:=by
 induction a with
 |nil=>simp[ir]
 |cons x r ih=>simp only[jW,ir,ih];omega
def S9(l:List (List UInt8))(n:Nat):ir (l.take n)+ir (l.drop n)=ir l:=by
 rw[<-MV,Wg]
def aeT{i:Nat}(h:l[i]?=some w):ir (l.take (i+1))=ir (l.take i)+w.length+1:=by
 rw[Gc,h,MV];simp[ir];omega
def E3:∀l:List (List UInt8),l.length<=ir l
 |[]=>bl _
 |w::r=>by have:=E3 r;simp only[ir,dm];omega
def aeS(h:w∈l):w.length<=ir l:=by
 obtain⟨i,hi,rfl⟩:=DJ h;have h1:=aeT (br hi);have h2:=S9 l (i+1);omega
def W3(n:Nat)(r:U):Prop:=∃(v:U) (e:Int) (l:List (List UInt8)),r=.aK [v,.v (.int .i64 e)]/\bL v (l.map ai)/\ir l<=n
section
variable{G:Cells}
def aqV(hv:bL v (l.map ai))(hl:ir l<=1000000):cx G az 198 [v] (wB (ir l)):=by
 refine cR (asG.go ?_);have mX:=E3 l;have ln:=hv.bO;rw[b_] at ln;refine wy ?_;refine cj (λi e h=>∃t:List UInt8,e=[(0,v),(3,ai t),(4,ag i)]/\t.length<=ir (l.take i)/\h=[]) l.length ⟨[],rfl,aBI,rfl⟩ ?_ ?_;rintro i e h hi ⟨t,rfl,ht,rfl⟩;obtain⟨s,hs⟩:=cD hi;have h1:=aeT hs;have h2:=S9 l (i+1);have e1:bu 1 v (.v (.int .i64 (i:Int)))=some (.fp [ai s] 0):=hv.bK (x:=ai s) aEs rfl;have a1:ct .add (ai t) (.v (.string ⟨[32].toArray⟩))=some (ai (t++[32])):=r9 (b:=[32]) aBK;have a3:ct .add (ai (t++[32])) (ai s)=some (ai (t++[32]++s)):=r9 aBK;refine wy (bA (λq=>?_) λq=>?_);refine wx ?_;exact⟨_,rfl,aBK,trivial⟩;refine wx ?_;exact⟨_,rfl,aBK,trivial⟩;rintro e h ⟨t,rfl,ht,rfl⟩;rw[rV] at ht;exact wy (pG ht)
def axM(s:List UInt8)(hs:s.length<=1000000):cx G az 70 [ai s] (W3 (s.length+1)):=by
 refine cR (asI.go ?_);have bad:∀(hp:List aa) (e:Int),∃k aQ,b9 hp k (.aK [.af,.v (.int .i64 e)])=some aQ/\W3 (s.length+1) aQ:=λhp e=>by
  obtain⟨k,hk⟩:=(dR (aA cS (aA (aB (.int .i64 e)) bW)):aX hp _ _).done;exact⟨k,_,hk,.af,e,[],rfl,ax ⟨rfl,rfl⟩,ic _⟩
 refine wy ?_;refine cj (λi e h=>∃(l:List (List UInt8)) (ak:U) (t:List UInt8),e=[(0,ai s),(4,ak),(5,ai t),(6,ag i)]/\ir l+t.length<=i/\bX h ak (l.map ai) 1 9) s.length ⟨[],.af,[],rfl,bl _,qa _ _ _⟩ ?_ ?_
 · rintro i e h hi ⟨l,ak,t,rfl,ht,hA⟩
   have mX:=E3 l;obtain⟨bg,g,e1,dO,_⟩:=kL (x:=ai t) (aY:=16) hA (vv l) rfl aBJ aBJ aBK;have ab:dA 1 [ai t]=some (.sl [ai t] .exact):=rfl;have pu:ir (l++[t])=ir l+t.length+1:=by rw[MV];simp[ir];omega
   have c1:=λhp=>Ln (l:=s) (i:=i) (j:=i+1) aBH aBH hp;have a1:ct .add (ai t) (ai ((s.take (i+1)).drop i))=some (ai (t++(s.take (i+1)).drop i)):=r9 aBK;have r1:((t++(s.take (i+1)).drop i)).length<=t.length+1:=aBK
   refine lC ?_
   repeat' ((refine ba (λq'=>?_) λq'=>?_)<;>refine nP @uc @Y8 @ab @e1 @tG ?_)
   all_goals first
    |exact bad _ _
    |exact⟨l++[t],bg,[],rfl,by rw[pu];simp;omega,aCm⟩
    |(refine aE.cY (avv _) ?_
      rintro r ⟨b,rfl⟩;cases b with
      |false=>
       exact fY (bad _ _)
      |true=>
       refine wy ?_;exact⟨l,ak,_,rfl,aBH,hA⟩)
 rintro e h ⟨l,ak,t,rfl,ht,hA⟩;have mX:=E3 l;obtain⟨bg,g,e1,dO,_⟩:=kL (x:=ai t) (aY:=16) hA (vv l) rfl aBJ aBJ aBK;have ab:dA 1 [ai t]=some (.sl [ai t] .exact):=rfl;have pu:ir (l++[t])=ir l+t.length+1:=by rw[MV];simp[ir];omega
 refine wy ?_;refine b8 (λq=>?_) λq=>?_;exact bad _ _;refine wy ?_;rw[<-List.map_singleton,<-eX] at dO
 rcases dO with⟨rfl,z⟩|⟨id,rfl,_⟩
 exact bad _ _;obtain⟨k,hk⟩:=(dR (aA (fj (t:=.tok id) (gh (f:=ai) (l:=l++[t]) λa _=>aB _)) (aA (aB (.int .i64 0)) bW)):aX g _ _).done;exact⟨k,_,hk,_,0,l++[t],rfl,ay rfl,by rw[pu];omega⟩
def IU{X:List aa}(h0:X[0]?=some (.cells dX false)):aF X 4 (.mp 0 0) (.agg dX)=some (X.set 0 (.cells dX false))/\aq (X.set 0 (.cells dX false)) true 4 (.mp 0 0)=some (.agg dX)/\∃n aQ,b9 (X.set 0 (.cells dX false)) n (.aK [.agg dX,.v (.bool false)])=some aQ/\BG aQ:=
 ⟨xE h0 rfl (x:=dX) rfl rfl,(IV (aR (a:=.cells dX false) (gl h0))).2,E9 (uE _)⟩
@[go_sem]def afa{h:List aa}{k:Nat}{nm:List UInt8}{v:Int}{al:Bool}{bv:U}(hb:h[k]?=some (.cells (c7 nm v al bv) false)):aq h false 1 (.mp k 1)=some (.v (.int .i64 v)):=by
 simp only[aq,hb];rfl
def aug{ls:List (List UInt8)}(hv:bL v (ls.map ai))(hlen:ls.length<=100000)(hw:∀w∈ls,w.length<=100000)(h2:2<=ls.length):cx G az 134 [v] BG:=by
 refine cR (arP.go ?_);obtain⟨n1,mZ⟩:∃n,ls[1]?=some n:=⟨ls[1],br aBH⟩;have e1:bu 1 v (.v (.int .i64 1))=some (.fp [ai n1] 0):=hv.bK (i:=1) (x:=ai n1) (by simp[mZ]) rfl;have f1:∀x:List UInt8,cm dX [(0,1,ai x)]=some (c7 x 0 false .af):=λx=>rfl;have f0:cm dX []=some dX:=rfl;have hz:[bP (.string ⟨[].toArray⟩),.v (.int .i64 0),.v (.bool false),.af]=dX:=rfl;have s1:aF [.cells dX false,.cells dX false] 4 (.mp 1 0) (.agg (c7 n1 0 false .af))=some [.cells dX false,.cells (c7 n1 0 false .af) false]:=xE (k:=1) rfl rfl rfl rfl;have ln:=hv.bO;rw[b_] at ln;refine wy ?_;refine cj (λn e h=>∃(l:List (List UInt8)) (ak:U),e=[(0,v),(2,.mp 0 0),(4,.mp 1 0),(5,ak),(6,.v (.int .i64 ((2+n:Nat):Int)))]/\h[0]?=some (.cells dX false)/\(∃x,h[1]?=some (.cells x false)/\lJ x)/\bX h ak (l.map ai) 1 9/\l.length<=n) (ls.length-2)
  ⟨[],.af,rfl,rfl,⟨_,rfl,n1,0,false,.af,rfl,uE _⟩,qa _ _ _,aBI⟩ ?_ ?_
 rintro n e h hn ⟨l,ak,rfl,h0,⟨x,h1,nm,p7,al,bv,rfl,tO⟩,hA,hl⟩;obtain⟨w,hwi⟩:∃w,ls[2+n]?=some w:=⟨ls[2+n]' aBH,br aBH⟩;have Ax:=hw w (bG hwi);have e2:bu 1 v (.v (.int .i64 ((2+n:Nat):Int)))=some (.fp [ai w] 0):=hv.bK (x:=ai w) (by simp[hwi]) rfl;have wn:b7.wrap (((2+n:Nat):Int)+1)=((2+(n+1):Nat):Int):=by rw[jA aBH];rfl
 obtain⟨v',y1,eg,jU⟩:=zN hA zZ;refine wy ?_;refine aE.cY (YO w aBH) ?_;rintro r ⟨a,b,f,rfl,hal,L9⟩;obtain⟨bg,g,p1,pA,_,_,fW⟩:=kL (x:=ai a) (aY:=16) hA (vv l) rfl aBJ aBJ aBK;have gu:∀{j:Nat} {c:aa},h[j]?=some c->(∀x n e,c≠.tok x n e)->g[j]?=some c:=λq hb=>fW _ _ q λxs z=>by
  rcases hA with⟨bh,_⟩|⟨id,bh,z2⟩
  rw[bh] at z;cases z;rw[bh] at z;cases z;rw[q] at z2;cases z2;exact hb _ _ _ rfl
 have k0:=gu h0 aBI;have k1:=gu h1 aBI;have Jd:bX g bg ((l++[a]).map ai) 1 9:=by rw[eX];exact pA
 have ab:dA 1 [ai a]=some (.sl [ai a] .exact):=rfl;have qx:=gl k1;obtain⟨m1,m2,m3⟩:=IU k0;have one:f=true\/f=false:=by cases f<;>simp
 rcases one with rfl|rfl
 · refine wy ?_
   refine aE.cY (L6 y1 aBH a) ?_;rintro r ⟨b2,rfl⟩;cases b2
   all_goals
    refine wy ?_;refine b8 (λq=>?_) λq=>?_
    · refine aE.cY (Vv b aBH) ?_
      rintro r ⟨z,rfl,_,_⟩;have st:=M4 k1 z;have i1:(g.set 1 (.cells (c7 nm z al bv) false))[1]?=some (.cells (c7 nm z al bv) false):=aR qx;have i0:(g.set 1 (.cells (c7 nm z al bv) false))[0]?=some (.cells dX false):=by rw[av aBH];exact k0
      have aqh:=hU (cs':=c7 nm z al bv) Jd k1;obtain⟨u1,u2,u3⟩:=IU i0;refine nQ @st (afa i1) @u1 @u2 @wn ?_
      repeat' ((refine ba (λq'=>?_) λq'=>?_)<;>refine zd @vU @rS @f0 @u1 @u2 @wn ?_)
      all_goals first
       |exact u3
       |exact⟨l++[a],bg,rfl,i0,⟨_,i1,nm,z,al,bv,rfl,tO⟩,aqh,aBK⟩
    refine b8 (λah=>?_) λah=>?_
    · refine aE.cY (S7 b aBH) ?_
      rintro r ⟨fq,eU,ok,rfl,ry⟩;have st:=M5 k1 fq;have i1:=aR (a:=.cells (c7 nm p7 fq bv) false) qx;have vJ:=M6 i1 ry.one.1 ry.one.2;have j1:((g.set 1 (.cells (c7 nm p7 fq bv) false)).set 1 (.cells (c7 nm p7 fq eU) false))[1]?=some (.cells (c7 nm p7 fq eU) false):=aR (by simpa using qx);have yM:((g.set 1 (.cells (c7 nm p7 fq bv) false)).set 1 (.cells (c7 nm p7 fq eU) false))[0]?=some (.cells dX false):=by rw[av aBH,av aBH];exact k0
      have aqS:=hU (cs':=c7 nm p7 fq eU) (hU (cs':=c7 nm p7 fq bv) Jd k1) i1;obtain⟨u1,u2,u3⟩:=IU yM;cases ok
      all_goals
       refine nQ @st @vJ @u1 @u2 @wn ?_
       first
        |exact u3
        |exact⟨l++[a],bg,rfl,yM,⟨_,j1,nm,p7,fq,eU,rfl,ry⟩,aqS,aBK⟩
    refine fG @m1 @m2 ?_;exact m3
 refine wy ?_;refine b8 (λq=>?_) λq=>?_;refine aE.cY (Vv b aBH) ?_;rintro r ⟨z,rfl,_,_⟩;have st:=M4 k1 z;have i0:(g.set 1 (.cells (c7 nm z al bv) false))[0]?=some (.cells dX false):=by rw[av aBH];exact k0
 obtain⟨u1,u2,u3⟩:=IU i0;exact gV @st @u1 @u2 u3;refine b8 (λah=>?_) λah=>?_;refine aE.cY (S7 b aBH) ?_;rintro r ⟨fq,eU,ok,rfl,ry⟩;have st:=M5 k1 fq;have i1:=aR (a:=.cells (c7 nm p7 fq bv) false) qx;have vJ:=M6 i1 ry.one.1 ry.one.2;have yM:((g.set 1 (.cells (c7 nm p7 fq bv) false)).set 1 (.cells (c7 nm p7 fq eU) false))[0]?=some (.cells dX false):=by rw[av aBH,av aBH];exact k0
 obtain⟨u1,u2,u3⟩:=IU yM;exact mG @st @vJ @u1 @u2 u3;refine fG @m1 @m2 ?_;exact m3;rintro e h ⟨l,ak,rfl,h0,⟨x,h1,nm,p7,al,bv,rfl,tO⟩,hA,hl⟩;have kU:=xE h0 rfl (x:=c7 nm p7 al bv) rfl (Tt tO.one.1);exact wx (E9 tO)
end
end
section
variable{hp:List aa}{bp mv v:U}{ex nm:List UInt8}{al i bf p:Bool}{a:Int}
def Sep(v w:U):Prop:=∀id xs ys,v=.sl xs (.tok id)->w=.sl ys (.tok id)->False
def Xz{x w:U}{xs ys:List U}{n aY m:Nat}{e e2:TypeId}(hA:bX hp v xs n e)(hW:bX hp w ys m e2)(hs:Sep v w)(hx:bV n xs=true)(hy:bV n [x]=true)(hn:0<n)(hb:0<aY)(hfit:(xs.length+1)*aY<=140737488355328):
  ∃v' hp',cG hp n aY e v (.sl [x] .exact)=some (v',hp')/\bX hp' v' (xs++[x]) n e/\bX hp' w ys m e2/\Sep v' w/\bn v'=true/\v'.cells=[v']/\∀(j:Nat) b,hp[j]?=some b->(∀a c d,b≠.tok a c d)->hp'[j]?=some b:=by
 rcases hA with⟨rfl,rfl⟩|⟨id,rfl,hk⟩
 refine⟨.sl ([]++[x]) (.tok hp.length),hp++[.tok 1 n e],?_,ax ⟨hp.length,rfl,aBI⟩,?_,?_,rfl,rfl,λj b h _=>aM h⟩;simp only[fQ,e5] at hfit;simp only[cG,e9,ga,contents,hy,hn,hb];simp;omega
 rcases hW with z|⟨i2,bh,z2⟩
 exact ay z;exact ax ⟨i2,bh,aM z2⟩;intro i a c h1 h2;cases h1
 rcases hW with⟨z,_⟩|⟨i2,bh,z2⟩
 rw[z] at h2;cases h2;rw[bh] at h2;cases h2;have:=(bE.1 z2).1;omega;have hl:id<hp.length:=(bE.1 hk).1;refine⟨.sl (xs++[x]) (.tok id),hp.set id (.tok (xs.length+1) n e),?_,ax ⟨id,rfl,aCr⟩,?_,?_,rfl,rfl,λj b h hne=>?_⟩;simp[cG,e9,ga,contents,hy,hn,hb,hfit,hx,hk]
 rcases hW with z|⟨i2,bh,z2⟩
 exact ay z;refine ax ⟨i2,bh,?_⟩;rw[av (λq=>hs id xs ys rfl (by rw[q];exact bh))];exact z2;intro i a c h1 h2;cases h1;exact hs id xs c rfl h2;rw[av (λq=>by subst q;rw[hk] at h;cases h;exact hne _ _ _ rfl)];exact h
def r3(x:List U):Prop:=∃nm bp i p bf a al mv ex,x=cU nm bp i p bf a al mv ex/\gi 5 bp/\gi 100001 mv/\ex.length<=100000000
def Pk(r:U):Prop:=∃(x:List U) (b:Bool),r=.aK [.agg x,.v (.bool b)]/\r3 x
def Nd{b:Bool}{gs:List (List UInt8)}(hA:bX hp bp (gs.map ai) 1 9)(hg:gs.length<=5)(hm:gi 100001 mv)(he:ex.length<=100000000):
  ∃n aQ,b9 hp n (.aK [.agg (cU nm bp i p bf a al mv ex),.v (.bool b)])=some aQ/\Pk aQ:=by
 obtain⟨v',bh,z2⟩:=PL hA hg;obtain⟨n,hn⟩:=(dR (aA (iO (aA (aB _) (aA bh (aA (aB _) (aA (aB _) (aA (aB _) (aA (aB _) (aA (aB _) (aA (hm.fz hp) (aA (aB _) bW)))))))))) (aA (aB (.bool b)) bW)):aX hp (.aK [.agg (cU nm bp i p bf a al mv ex),.v (.bool b)]) _).done;exact⟨n,_,hn,_,b,rfl,nm,v',i,p,bf,a,al,mv,ex,rfl,z2,hm,he⟩
def Fb{X:List aa}(h0:X[0]?=some (.cells eV false)):aF X 9 (.mp 0 0) (.agg eV)=some (X.set 0 (.cells eV false))/\aq (X.set 0 (.cells eV false)) true 9 (.mp 0 0)=some (.agg eV)/\∃n aQ,b9 (X.set 0 (.cells eV false)) n (.aK [.agg eV,.v (.bool false)])=some aQ/\Pk aQ:=
 ⟨ue h0 rfl (x:=eV) rfl rfl,(sL (aR (a:=.cells eV false) (bE.1 h0).1)).2.2,Nd (gs:=[]) (ay ⟨rfl,rfl⟩) aBI (uE _) aBJ⟩
@[go_sem]def afp{h:List aa}{k:Nat}(hb:h[k]?=some (.cells (cU nm bp i p bf a al mv ex) false)):aq h false 1 (.mp k 5)=some (.v (.int .i64 a)):=by
 simp only[aq,hb];rfl
def Pg(n:Nat)(h:List aa)(ak:U):Prop:=∃(l gs:List (List UInt8)) (nm:List UInt8) (bp:U) (i p bf:Bool) (a:Int) (al:Bool) (mv:U),h[0]?=some (.cells eV false)/\h[1]?=some (.cells (cU nm bp i p bf a al mv []) false)/\bX h ak (l.map ai) 1 9/\l.length<=n/\bX h bp (gs.map ai) 1 9/\gs.length<=4/\Sep ak bp/\gi 100001 mv
section
variable{G:Cells}
set_option maxHeartbeats 1000000 in
def auS{v:U}{ls:List (List UInt8)}(hv:bL v (ls.map ai))(Mj:ir ls<=90000)(h2:2<=ls.length):cx G az 135 [v] Pk:=by
 refine cR (arQ.go ?_);have hlen:=E3 ls;have hw:∀w∈ls,w.length<=90000:=λw hm=>fk (aeS hm) Mj;obtain⟨n1,mZ⟩:∃n,ls[1]?=some n:=⟨ls[1],br aBH⟩;have e1:bu 1 v (.v (.int .i64 1))=some (.fp [ai n1] 0):=hv.bK (i:=1) (x:=ai n1) (by simp[mZ]) rfl;have f1:∀x:List UInt8,cm eV [(0,1,ai x),(4,1,.v (.bool true))]=some (cU x .af false false true 0 false .af []):=λx=>rfl;have f0:cm eV []=some eV:=rfl;have hz:[bP (.string ⟨[].toArray⟩),.af,.v (.bool false),.v (.bool false),.v (.bool false),.v (.int .i64 0),.v (.bool false),.af,.v (.string ⟨[].toArray⟩)]=eV:=rfl;have s1:aF [.cells eV false,.cells eV false] 9 (.mp 1 0) (.agg (cU n1 .af false false true 0 false .af []))=some [.cells eV false,.cells (cU n1 .af false false true 0 false .af []) false]:=ue (k:=1) rfl rfl rfl rfl;have ln:=hv.bO;rw[b_] at ln;have jO:∀hp,bO v hp=some (.v (.int .i64 (ls.length:Int)),hp):=λhp=>aCl
 obtain⟨aBg,t0,hvs⟩:∃(a b:Nat),v=.sl (ls.map ai) .no:=by
  rcases hv with z|⟨_,z⟩
  exact⟨0,0,z⟩;have:ls=[]:=aCa
  rw[this] at h2;simp at h2
 refine F0 @hz @e1 @f1 @s1 @eR.{0} @jW.{0} @fQ.{0} @dm.{0} ?_;refine cj (λn e h=>∃ak:U,e=[(0,v),(2,.mp 0 0),(4,.mp 1 0),(5,ak),(6,.v (.int .i64 ((2+n:Nat):Int)))]/\Pg n h ak) (ls.length-2)
  ⟨.af,rfl,[],[],n1,.af,false,false,true,0,false,.af,rfl,rfl,qa _ _ _,aBI,qa _ _ _,aBI,(by intro id xs ys q;cases q),uE _⟩ ?_ ?_
 · rintro n e h hn ⟨ak,rfl,l,gs,nm,bp,ib,pb,bf,aV,al,mv,h0,h1,hA,hl,Ak,ji,hsp,jv⟩
   obtain⟨w,hwi⟩:∃w,ls[2+n]?=some w:=⟨ls[2+n]' aBH,br aBH⟩;have Ax:=hw w (bG hwi);have e2:bu 1 v (.v (.int .i64 ((2+n:Nat):Int)))=some (.fp [ai w] 0):=hv.bK (x:=ai w) (by simp[hwi]) rfl;have wn:b7.wrap (((2+n:Nat):Int)+1)=((2+(n+1):Nat):Int):=by rw[jA aBH];rfl
   have CS:decide (((2+n:Nat):Int)<(ls.length:Int))=true:=G6 aBH;have ama:ct .eql (ai w) (.v (.string ⟨[58].toArray⟩))=some (.v (.bool (w==[58]))):=mj w [58];have HE:=(bE.1 h1).1;have LZ:bn bp=true:=(wH Ak).1;refine kf @jO @CS @e2 @ama ?_;refine bA (λq=>?_) λq=>?_;have al0:∀hp,p0 1 v (some (.v (.int .i64 ((2+(n+1):Nat):Int)))) none none hp=some (.sl ((ls.drop (2+(n+1))).map ai) .no,hp):=λhp=>by
    rw[hvs,List.map_drop];exact NY aBK Og hp
   have hd:=S9 ls (2+(n+1));refine fB @q @wn @al0 ?_;refine gf (aqV (v:=.sl ((ls.drop (2+(n+1))).map ai) .no) (ay rfl) aBH) (aP (n6 (ay rfl)) bS) ?_;rintro r ⟨t,rfl,ht⟩;refine dP ?_;refine gf (afZ t aBH) (aP (q9 _) bS) ?_;rintro r ⟨v2,ps,ND,wU,rfl,hE⟩;have S8:=hE.v.bO;rw[b_] at S8;have atP:∀hp,bO v2 hp=some (.v (.int .i64 (ps.length:Int)),hp):=λhp=>by rw[S8 hp,kN]
   have fU:=aR (a:=.cells (cU nm bp ib pb false aV al mv []) false) HE;have sw:(h.set 1 (.cells (cU nm bp ib pb false aV al mv []) false))[0]?=some (.cells eV false):=by rw[av aBH];exact h0
   have Rc:=hU (cs':=cU nm bp ib pb false aV al mv []) Ak h1;have iy:=aft h1 false;generalize h.set 1 (.cells (cU nm bp ib pb false aV al mv []) false)=g at fU sw Rc iy;refine kE @iy @atP ?_;refine bA (λah=>?_) λah=>?_;have hne:ps≠[]:=by intro z;rw[z] at ah;simp at ah
   refine di @ah ?_;refine gf (axn hE aBH hne) (aP (yx hE) bS) ?_;rintro r ⟨tx,rfl,abu⟩;have qH:=afv fU tx;have aoT:=(bE.1 fU).1;have gD:=aR (a:=.cells (cU nm bp ib pb false aV al mv tx) false) aoT;have mV:(g.set 1 (.cells (cU nm bp ib pb false aV al mv tx) false))[0]?=some (.cells eV false):=by rw[av aBH];exact sw
   have am5:=hU (cs':=cU nm bp ib pb false aV al mv tx) Rc fU;have kU:=ue mV rfl (x:=cU nm bp ib pb false aV al mv tx) rfl (C0 LZ jv.one.1);have k0:=aR (a:=.cells (cU nm bp ib pb false aV al mv tx) false) (bE.1 mV).1;refine kf @qH ((sL gD).2.2) @kU ((sL k0).2.2) ?_;exact Nd (hU am5 mV) aBH jv aBH;have kU:=ue sw rfl (x:=cU nm bp ib pb false aV al mv []) rfl (C0 LZ jv.one.1);have k0:=aR (a:=.cells (cU nm bp ib pb false aV al mv []) false) (bE.1 sw).1;refine kf @ah ((sL fU).2.2) @kU ((sL k0).2.2) ?_;exact Nd (hU Rc sw) aBH jv aBJ;obtain⟨v',y1,eg,jU⟩:=zN hA zZ;obtain⟨aAt,x1,x2,x3⟩:=zN Ak zZ;refine kE @q @e2 ?_;refine gf (YO w aBH) (aP (q9 _) bS) ?_;rintro r ⟨a,b,f,rfl,hal,L9⟩;refine dP ?_;refine gf (L6 y1 aBH a) (aP eg (aP (q9 _) bS)) ?_;rintro r ⟨c0,rfl⟩;obtain⟨bg,g,p1,pA,T6,afY,_,_,fW⟩:=Xz (x:=ai a) (aY:=16) hA Ak hsp (vv l) rfl aBJ aBJ aBK;have k0:=fW _ _ h0 aBI;have k1:=fW _ _ h1 aBI;have Jd:bX g bg ((l++[a]).map ai) 1 9:=by rw[eX];exact pA
   have ab:∀z:List UInt8,dA 1 [ai z]=some (.sl [ai z] .exact):=λz=>rfl;have G8:ct .eql (ai a) (.v (.string ⟨[103,114,111,117,112].toArray⟩))=some (.v (.bool (a==[103,114,111,117,112]))):=mj a [103,114,111,117,112];have Y4:ct .eql (ai a) (.v (.string ⟨[105,110,108,105,110,101].toArray⟩))=some (.v (.bool (a==[105,110,108,105,110,101]))):=mj a [105,110,108,105,110,101];have Y6:ct .eql (ai a) (.v (.string ⟨[112,105,99,107].toArray⟩))=some (.v (.bool (a==[112,105,99,107]))):=mj a [112,105,99,107];have ea:ct .eql (ai a) (.v (.string ⟨[97,116,116,114].toArray⟩))=some (.v (.bool (a==[97,116,116,114]))):=mj a [97,116,116,114];have em:ct .eql (ai a) (.v (.string ⟨[109,97,114,107,115].toArray⟩))=some (.v (.bool (a==[109,97,114,107,115]))):=mj a [109,97,114,107,115];have qx:=(bE.1 k1).1;have aex:(l++[a]).length<=n+1:=aBK
   obtain⟨m1,m2,m3⟩:=Fb k0;clear fW h0 h1 hA Ak;have aeQ:=BN T6;rw[b_] at aeQ;have K:∀(i2 p2:Bool) (a2:Int) (fq:Bool) (jP:U),gi 100001 jP->(g.set 1 (.cells (cU nm bp i2 p2 bf a2 fq jP []) false))[1]?=some (.cells (cU nm bp i2 p2 bf a2 fq jP []) false)/\(g.set 1 (.cells (cU nm bp i2 p2 bf a2 fq jP []) false))[0]?=some (.cells eV false)/\Pg (n+1) (g.set 1 (.cells (cU nm bp i2 p2 bf a2 fq jP []) false)) bg:=λi2 p2 a2 fq jP hm=>by
    have j1:(g.set 1 (.cells (cU nm bp i2 p2 bf a2 fq jP []) false))[1]?=some (.cells (cU nm bp i2 p2 bf a2 fq jP []) false):=aR qx;have yM:(g.set 1 (.cells (cU nm bp i2 p2 bf a2 fq jP []) false))[0]?=some (.cells eV false):=by rw[av aBH];exact k0
    exact⟨j1,yM,l++[a],gs,nm,bp,i2,p2,bf,a2,fq,jP,yM,j1,hU Jd k1,aex,hU T6 k1,ji,afY,hm⟩
   obtain⟨aBl,auw,auy⟩:=K true pb aV al mv jv;obtain⟨aBm,auz,auA⟩:=K ib true aV al mv jv;obtain⟨ayN,ayO,ayQ⟩:=Fb auw;obtain⟨ayR,ayS,ayT⟩:=Fb auz;have t2:=afr k1 true;have t3:=afs k1 true;have avm:Sep bp bg:=λid xs ys h1 h2=>afY id ys xs h2 h1;obtain⟨Ad,g5,r1,avY,av1,avZ,ro,rc,xJ⟩:=Xz (x:=ai b) (aY:=16) T6 Jd avm (vv gs) rfl aBJ aBJ aBK;have yM:=xJ _ _ k0 aBI;have j1:=xJ _ _ k1 aBI;have Od:=TD j1 ro rc;have Cm:=(bE.1 j1).1;have bh:(g5.set 1 (.cells (cU nm Ad ib pb bf aV al mv []) false))[1]?=some (.cells (cU nm Ad ib pb bf aV al mv []) false):=aR Cm;have z0:(g5.set 1 (.cells (cU nm Ad ib pb bf aV al mv []) false))[0]?=some (.cells eV false):=by rw[av aBH];exact yM
   have azA:bX (g5.set 1 (.cells (cU nm Ad ib pb bf aV al mv []) false)) Ad ((gs++[b]).map ai) 1 9:=by rw[eX];exact hU avY j1
   have av0:Sep bg Ad:=λid xs ys h1 h2=>avZ id ys xs h2 h1;have azB:gs.length<4->Pg (n+1) (g5.set 1 (.cells (cU nm Ad ib pb bf aV al mv []) false)) bg:=λh4=>
    ⟨l++[a],gs++[b],nm,Ad,ib,pb,bf,aV,al,mv,z0,bh,hU av1 j1,aex,azA,aBK,av0,jv⟩
   obtain⟨On,u32,Vn⟩:=Fb z0;have IJ:=(sL k1).2.1;cases f with
   |false=>
    cases c0
    all_goals
     refine fB @ab @p1 @G8 ?_
     repeat' ((refine bA (λq=>?_) λq=>?_)<;>(have q':=q)<;>(simp -failIfUnchanged only[lO] at q')<;>(refine p9 (dV @vU @rS @ab @p1) (dV @G8 @Y4 @Y6 @ea) (dV @em @iE @t2 @t3) (dV @f0 @m1 @m2 @ayN) @ayO @ayR @ayS @wn @q ?_))
    all_goals first
     |exact m3
     |exact ayQ
     |exact ayT
     |exact⟨_,rfl,auy⟩
     |exact⟨_,rfl,auA⟩
   |true=>
    cases c0
    all_goals
     refine fB @ab @p1 @G8 ?_;refine bA (λUm=>?_) λUm=>?_
     · refine di @Um ?_
       refine gf (Tw b aBH) (aP (q9 _) bS) ?_;rintro r ⟨b2,rfl⟩;cases b2 with
       |false=>
        refine lB @IJ @ab @r1 @Od @f0 @On @u32 ?_;exact Vn
       |true=>
        refine di @IJ ?_;refine gf (L6 x1 aBH b) (aP x2 (aP (q9 _) bS)) ?_;rintro r ⟨b3,rfl⟩;cases b3 with
        |true=>
         refine lB @IJ @ab @r1 @Od @f0 @On @u32 ?_;exact Vn
        |false=>
         refine p9 @IJ @aeQ @ab @r1 @Od @f0 @On @u32 @wn ?_
         repeat' ((refine bA (λq=>?_) λq=>?_)<;>(have q':=q)<;>(simp -failIfUnchanged only[lO] at q')<;>(refine p9 (dV @vU @rS @iE @IJ) @ab @r1 @Od @f0 @On @u32 @wn @q ?_))
         all_goals first
          |exact Vn
          |exact⟨_,rfl,azB aBH⟩
     refine kE @Um @Y4 ?_;refine bA (λagd=>?_) λagd=>?_
     all_goals
      refine kE @agd @Y6 ?_;refine bA (λagf=>?_) λagf=>?_
      all_goals
       refine kE @agf @ea ?_;refine bA (λUl=>?_) λUl=>?_
       · refine di @Ul ?_
         refine gf (Vv b aBH) (aP (q9 _) bS) ?_;rintro r ⟨z,rfl,_,_⟩;obtain⟨w1,w2,w3⟩:=K ib pb z al mv jv;obtain⟨Oo,Oq,Vo⟩:=Fb w2;have t5:=afu k1 z;refine zd @t5 (afp w1) @f0 @Oo @Oq @wn ?_
         repeat' ((refine bA (λq=>?_) λq=>?_)<;>(have q':=q)<;>(simp -failIfUnchanged only[lO] at q')<;>(refine lB @vU @rS @f0 @Oo @Oq @wn @q ?_))
         all_goals first
          |exact Vo
          |exact⟨_,rfl,w3⟩
       refine kE @Ul @em ?_;refine bA (λxI=>?_) λxI=>?_
       · refine di @xI ?_
         refine gf (S7 b aBH) (aP (q9 _) bS) ?_;rintro r ⟨fq,eU,ok,rfl,ry⟩;obtain⟨w1,w2,w3⟩:=K ib pb aV fq eU ry;obtain⟨Oo,Oq,Vo⟩:=Fb w2;have t6:=TE k1 fq;have i1:=aR (a:=.cells (cU nm bp ib pb bf aV fq mv []) false) qx;have t7:=TF i1 ry.one.1 ry.one.2;rw[ajn] at t7;cases ok
         all_goals
          refine zd @t6 @t7 @f0 @Oo @Oq @wn ?_
          first
           |exact Vo
           |exact⟨_,rfl,w3⟩
       refine kf @xI @f0 @m1 @m2 ?_;exact m3
 rintro e h ⟨ak,rfl,l,gs,nm,bp,ib,pb,bf,aV,al,mv,h0,h1,hA,hl,Ak,ji,hsp,jv⟩;have LZ:bn bp=true:=(wH Ak).1;have kU:=ue h0 rfl (x:=cU nm bp ib pb bf aV al mv []) rfl (C0 LZ jv.one.1);have k0:=aR (a:=.cells (cU nm bp ib pb bf aV al mv []) false) (bE.1 h0).1;have CS:decide (((2+(ls.length-2):Nat):Int)<(ls.length:Int))=false:=G5 aBH;refine nP @jO @CS ((sL h1).2.2) @kU ((sL k0).2.2) ?_;exact Nd (hU Ak h0) aBH jv aBJ
end
end
section
variable{x:List U}
def r3.ok(h:r3 x):x.length=9/\x.all bn=true/\∃nm,x[0]?=some (ai nm):=by
 obtain⟨nm,bp,i,p,bf,a,al,mv,ex,rfl,hg,hm,_⟩:=h;exact⟨rfl,C0 hg.one.1 hm.one.1,nm,rfl⟩
abbrev Wv:=qT 121 169 r3
structure Bz(au mv:U)(nodes marks:List (List U))(h:List aa):Prop where
 n:bX h au (nodes.map bT) 9 121
 m:bX h mv (marks.map bT) 4 169
 kC:∀x∈nodes,r3 x
 eM:∀x∈marks,lJ x
 nl:nodes.length<=24
 ml:marks.length<=8
def WA(hp hp':List aa):Prop:=hp.length<=hp'.length/\∀(j:Nat) cs fz,hp[j]?=some (.cells cs fz)->hp'[j]?=some (.cells cs fz)
def WO(hp:List aa)(r:U)(hp':List aa):Prop:=∃au mv nodes marks,∃e:Int,r=.aK [.agg [au,mv],.v (.int .i64 e)]/\Bz au mv nodes marks hp'/\WA hp hp'
structure wj(hp:List aa)(K:Nat)(au mv:U)(nodes marks:List (List U))(g:List aa):Prop where
 s:Wv K au mv nodes marks g
 r:g[K+1]?=some (.cells [.af,.af] false)
 ge:hp.length<=K
 fr:WA hp g
section
variable{hp:List aa}{K:Nat}{au mv:U}{nodes marks:List (List U)}{g:List aa}
def wj.app{x:List aa}(s:wj hp K au mv nodes marks g):wj hp K au mv nodes marks (g++x):=⟨s.s.app,aM s.r,s.ge,⟨by have:=s.fr.1;simp;omega,λj cs fz h=>aM (s.fr.2 j cs fz h)⟩⟩
def wj.put(s:wj hp K au mv nodes marks g){iJ lg:U}{nodes' marks':List (List U)}{g':List aa}(S:Wv K iJ lg nodes' marks' g')(hB:f_ K g g'):wj hp K iJ lg nodes' marks' g':=
 ⟨S,hB.2 _ _ _ aBH s.r,s.ge,⟨fk s.fr.1 hB.1,λj cs fz h=>by
  have hj:=gl h;have hg:=s.ge;exact hB.2 _ _ _ aBH (s.fr.2 j cs fz h)⟩⟩
def wj.ret(s:wj hp K au mv nodes marks g):aF g 2 (.mp (K+1) 0) (.agg [au,mv])=some (g.set (K+1) (.cells [au,mv] false))/\aq (g.set (K+1) (.cells [au,mv] false)) true 2 (.mp (K+1) 0)=some (.agg [au,mv])/\∀e:Int,WO hp (.aK [.agg [au,mv],.v (.int .i64 e)]) (g.set (K+1) (.cells [au,mv] false)):=by
 have o1:=wH s.s.n;have o2:=wH s.s.m;have hl:=gl s.r;have hg:=s.ge;have hs:=aR (a:=.cells [au,mv] false) hl;refine⟨?_,?_,λe=>⟨au,mv,nodes,marks,e,rfl,⟨hU s.s.n s.r,hU s.s.m s.r,s.s.kC,s.s.eM,s.s.nl,s.s.ml⟩,⟨by have:=s.fr.1;simp;omega,λj cs fz h=>?_⟩⟩⟩;simp only[aF,s.r,dJ];have e:(bT [au,mv]).cells=[au,mv]:=rfl;rw[e];simp[o1.1,o2.1,putAt];simp only[aq,hs];rfl;have hj:=gl h;rw[av aBH];exact s.fr.2 j cs fz h
end
section
variable{G:Cells}
def aj7{v:U}{ls:List (List UInt8)}(hv:bL v (ls.map ai))(hc:dn v)(Mj:ir ls<=90000){au mv:U}{nodes marks:List (List U)}{hp:List aa}(iY:Bz au mv nodes marks hp):aE G az 71 [.agg [au,mv],v] hp (WO hp):=by
 refine arl.go ?_;have hlen:=E3 ls;have hw:∀w∈ls,w.length<=90000:=λw hm=>fk (aeS hm) Mj;have ln:=hv.bO;rw[b_] at ln;have aby:[bP (.string ⟨[].toArray⟩),.v (.int .i64 0),.v (.bool false),.af]=dX:=rfl;have Iw:[bP (.string ⟨[].toArray⟩),.af,.v (.bool false),.v (.bool false),.v (.bool false),.v (.int .i64 0),.v (.bool false),.af,.v (.string ⟨[].toArray⟩)]=eV:=rfl;refine cM (λe g=>e=[(1,v),(2,.mp hp.length 0),(4,.mp (hp.length+1) 0)]/\wj hp hp.length au mv nodes marks g) ?_ ?_;refine fC @cB.{0} ?_;have b0:(hp++[aj [au,mv] false]++[aj [.af,.af] false])[hp.length]?=some (.cells [au,mv] false):=aM aBI;have b1:(hp++[aj [au,mv] false]++[aj [.af,.af] false])[hp.length+1]?=some (.cells [.af,.af] false):=aBI
 have A:wj hp hp.length au mv nodes marks (hp++[aj [au,mv] false]++[aj [.af,.af] false]):=⟨⟨b0,iY.n.ext.ext,iY.m.ext.ext,iY.kC,iY.eM,iY.nl,iY.ml⟩,b1,bl _,⟨aBI,λj cs fz h=>aM (aM h)⟩⟩
 first|exact⟨rfl,A⟩|exact⟨trivial,A⟩
 rintro e g ⟨rfl,A⟩;generalize hp.length=K at A;obtain⟨r1,r2,fX⟩:=A.ret;have S5:=A.s.eG.2.2;refine wy (bA (λq=>?_) λq=>?_);exact mG @q @S5 @r1 @r2 (fX _);have h2:2<=ls.length:=aBQ
 obtain⟨n1,mZ⟩:∃n,ls[1]?=some n:=⟨ls[1],br aBH⟩;obtain⟨n0,hn0⟩:∃n,ls[0]?=some n:=⟨ls[0],br aBH⟩;have e1:bu 1 v (.v (.int .i64 1))=some (.fp [ai n1] 0):=hv.bK (i:=1) (x:=ai n1) (by simp[mZ]) rfl;have e0:bu 1 v (.v (.int .i64 0))=some (.fp [ai n0] 0):=hv.bK (i:=0) (x:=ai n0) (by simp[hn0]) rfl;have w1:=hw n1 (bG mZ);have k1:ct .neq (ai n0) (.v (.string ⟨[110,111,100,101].toArray⟩))=some (.v (.bool !(n0==[110,111,100,101]))):=vt n0 [110,111,100,101];have k2:ct .neq (ai n0) (.v (.string ⟨[109,97,114,107].toArray⟩))=some (.v (.bool !(n0==[109,97,114,107]))):=vt n0 [109,97,114,107];have eF:ct .eql (ai n0) (.v (.string ⟨[109,97,114,107].toArray⟩))=some (.v (.bool (n0==[109,97,114,107]))):=mj n0 [109,97,114,107];refine wy ?_;refine aE.cY (Tw n1 aBH) ?_;rintro r ⟨b,rfl⟩;cases b with
 |false=>
  exact gV @S5 @r1 @r2 (fX _)
 |true=>
  have Ev:n0=[109,97,114,107]\/n0=[110,111,100,101]\/((n0==[110,111,100,101])=false/\(n0==[109,97,114,107])=false):=by
   by_cases x:n0=[109,97,114,107];exact ay x;by_cases y:n0=[110,111,100,101];exact ax (ay y);exact ax (ax ⟨by simpa using y,by simpa using x⟩)
  rcases Ev with x|x|⟨x,y⟩
  have bh:(n0==[110,111,100,101])=false:=by rw[x];rfl
  have z2:(n0==[109,97,114,107])=true:=by rw[x];rfl
  refine xQ @e0 @k1 @k2 @eF @bh @z2 ?_;refine aE.cY (aug hv aBH (λw hm=>by have:=hw w hm;omega) h2) ?_;rintro r ⟨x,ok,rfl,hx⟩;obtain⟨hx1,hx2,nm,hnm⟩:=hx.ok;have nn:=Ts g hx1 hx2;have A1:=A.app (x:=[aj x false]);have kx:(g++[aj x false])[g.length]?=some (.cells x false):=aBI
  refine wy ?_;generalize g.length=m at kx⊢;generalize g++[aj x false]=g1 at A1 kx⊢;obtain⟨s1,s2,c8⟩:=A1.ret;obtain⟨d0,d1,d2⟩:=A1.s.eG;have hml:=A1.s.ml;cases ok with
  |false=>
   exact gV @d2 @s1 @s2 (c8 _)
  |true=>
   refine wy ?_;refine cj (λj e h=>e=[(2,.mp K 0),(4,.mp (K+1) 0),(6,.mp m 0),(8,ag j)]/\h=g1) marks.length ⟨rfl,rfl⟩ ?_ ?_;rintro j e h hj ⟨rfl,rfl⟩;obtain⟨y,hy⟩:=cD hj;obtain⟨hy1,EX,Nc,Mm⟩:=(A1.s.eM y (bG hy)).ok;have lf:=(wI A1.s.m).bK hy hy1;refine p_ ((wI A1.s.m).len) (bA (λjQ=>?_) λjQ=>?_);exact mG @jQ @d2 @s1 @s2 (c8 _);exact wx rt;rintro e h ⟨rfl,rfl⟩;refine p_ ((wI A1.s.m).len) (bA (λjQ=>?_) λjQ=>?_);exact mG @jQ @d2 @s1 @s2 (c8 _);obtain⟨lg,g4,p1,p2,p3,fW⟩:=A1.s.af_ hx (by simp at jQ;omega);have lx:aq h true 4 (.mp m 0)=some (.agg x):=by
    simp only[aq,kx];unfold dB;rw[if_pos rfl,if_pos aBH,nk,kG aBH]
   have ab:dA 4 [.agg x]=some (.sl [.agg x] .exact):=by
    have:=sM (n:=4) (xs:=[x]) λy hy=>aCC
    simp only[eD,kX] at this;simp[dA,this]
   have zx:=A1.put p3 fW;obtain⟨t1,t2,t3⟩:=zx.ret;exact vS @jQ @d1 @lx @ab @p1 @p2 @zx.s.eG.2.2 @t1 @t2 (t3 _)
  have bh:(n0==[110,111,100,101])=true:=by rw[x];rfl
  have z2:(n0==[109,97,114,107])=false:=by rw[x];rfl
  refine xQ @e0 @k1 @k2 @eF @bh @z2 ?_;refine aE.cY (auS hv Mj h2) ?_;rintro r ⟨x,ok,rfl,hx⟩;obtain⟨hx1,hx2,nm,hnm⟩:=hx.ok;have nn:=I4 g hx1 hx2;have A1:=A.app (x:=[aj x false]);have kx:(g++[aj x false])[g.length]?=some (.cells x false):=aBI
  refine wy ?_;generalize g.length=m at kx⊢;generalize g++[aj x false]=g1 at A1 kx⊢;obtain⟨s1,s2,c8⟩:=A1.ret;obtain⟨d0,d1,d2⟩:=A1.s.eG;have vi:=A1.s.nl;cases ok with
  |false=>
   exact gV @d2 @s1 @s2 (c8 _)
  |true=>
   refine wy (bA (λpY=>?_) λpY=>?_);exact mG @pY @d2 @s1 @s2 (c8 _);refine wy ?_;refine cj (λj e h=>e=[(2,.mp K 0),(4,.mp (K+1) 0),(9,.mp m 0),(11,ag j)]/\h=g1) nodes.length ⟨rfl,rfl⟩ ?_ ?_;rintro j e h hj ⟨rfl,rfl⟩;obtain⟨y,hy⟩:=cD hj;obtain⟨hy1,EX,Nc,Mm⟩:=(A1.s.kC y (bG hy)).ok;have lf:=(wI A1.s.n).bK hy hy1;refine p_ ((wI A1.s.n).len) (bA (λjQ=>?_) λjQ=>?_);exact mG @jQ @d2 @s1 @s2 (c8 _);exact wx rt;rintro e h ⟨rfl,rfl⟩;refine p_ ((wI A1.s.n).len) (bA (λjQ=>?_) λjQ=>?_);exact mG @jQ @d2 @s1 @s2 (c8 _);obtain⟨iJ,g4,p1,p2,p3,fW⟩:=A1.s.aga r3.ok hx (by simp at jQ;omega);have lx:aq h true 9 (.mp m 0)=some (.agg x):=by
    simp only[aq,kx];unfold dB;rw[if_pos rfl,if_pos aBH,nk,kG aBH]
   have ab:dA 9 [.agg x]=some (.sl [.agg x] .exact):=by
    have:=sM (n:=9) (xs:=[x]) λy hy=>aCC
    simp only[eD,kX] at this;simp[dA,this]
   have zx:=A1.put p3 fW;obtain⟨t1,t2,t3⟩:=zx.ret;exact vS @jQ @d0 @lx @ab @p1 @p2 @zx.s.eG.2.2 @t1 @t2 (t3 _)
  exact Bf @e0 @k1 @k2 @x @y @S5 @r1 @r2 (fX _)
end
end
section
variable{x:List U}{X hp:List aa}{k:Nat}{a b:U}
def r3.fz(h:r3 x)(hp:List aa):aX hp (.agg x) (.agg x):=by
 obtain⟨nm,bp,i,p,bf,a,al,mv,ex,rfl,hg,hm,_⟩:=h;exact iO (aA (aB _) (aA (hg.fz hp) (aA (aB _) (aA (aB _) (aA (aB _) (aA (aB _) (aA (aB _) (aA (hm.fz hp) (aA (aB _) bW)))))))))
def lJ.Z1(h:lJ x)(hp:List aa):aX hp (.agg x) (.agg x):=by
 obtain⟨nm,v,al,bv,rfl,hb⟩:=h;exact iO (aA (aB _) (aA (aB _) (aA (aB _) (aA (hb.fz hp) bW))))
def agF{v:U}{xs:List (List U)}{n:Nat}{e:TypeId}(hA:bX hp v (xs.map bT) n e)(h:∀x∈xs,aX hp (.agg x) (.agg x)):∃v',aX hp v v'/\bL v' (xs.map bT):=by
 rcases hA with⟨rfl,z⟩|⟨id,rfl,_⟩
 exact⟨_,cS,ax ⟨rfl,z⟩⟩;exact⟨_,fj (dD.MW h),ay rfl⟩
structure oA(au mv:U)(nodes marks:List (List U)):Prop where
 n:bL au (nodes.map bT)
 m:bL mv (marks.map bT)
 kC:∀x∈nodes,r3 x
 eM:∀x∈marks,lJ x
 nl:nodes.length<=24
 ml:marks.length<=8
def Wx(r:U):Prop:=∃au mv nodes marks,∃p e:Int,r=.aK [.agg [au,mv],.v (.int .i64 p),.v (.int .i64 e)]/\oA au mv nodes marks
def G2{au mv:U}{nodes marks:List (List U)}(h:Bz au mv nodes marks hp)(p e:Int):∃k aQ,b9 hp k (.aK [.agg [au,mv],.v (.int .i64 p),.v (.int .i64 e)])=some aQ/\Wx aQ:=by
 obtain⟨a,a1,a2⟩:=agF h.n λx hx=>(h.kC x hx).fz hp;obtain⟨b,b1,b2⟩:=agF h.m λx hx=>(h.eM x hx).Z1 hp;obtain⟨k,hk⟩:=(dR (aA (iO (aA a1 (aA b1 bW))) (aA (aB (.int .i64 p)) (aA (aB (.int .i64 e)) bW))):aX hp _ _).done;exact⟨k,_,hk,a,b,nodes,marks,p,e,rfl,a2,b2,h.kC,h.eM,h.nl,h.ml⟩
def G3(hp:List aa):Bz .af .af [] [] hp:=⟨qa _ _ _,qa _ _ _,aBI,aBI,aBI,aBI⟩
@[go_sem]def FU{c d:U}(h:X[k]?=some (.cells [a,b] false))(h1:bn c=true)(h2:bn d=true):aF X 2 (.mp k 0) (.agg [c,d])=some (X.set k (.cells [c,d] false)):=by
 simp only[aF,h,dJ];have e:(bT [c,d]).cells=[c,d]:=rfl;rw[e];simp[h1,h2,putAt]
@[go_sem]def Om(h:X[k]?=some (.cells [a,b] false)):aq X true 2 (.mp k 0)=some (.agg [a,b]):=by
 simp only[aq,h];rfl
section
variable{G:Cells}
def avn(s:List UInt8)(hs:s.length<=1000000):cx G az 38 [ai s] Wx:=by
 refine cR (aq2.go ?_);have f0:cm [.af,.af] []=some [.af,.af]:=rfl;have bad:∀X:List aa,X[0]?=some (.cells [.af,.af] false)->aF X 2 (.mp 0 0) (.agg [.af,.af])=some (X.set 0 (.cells [.af,.af] false))/\aq (X.set 0 (.cells [.af,.af] false)) true 2 (.mp 0 0)=some (.agg [.af,.af]):=λX h=>
  ⟨FU h rfl rfl,Om (aR (gl h))⟩
 refine wy ?_;refine aE.cY (atI s aBH) ?_;rintro r ⟨v,p,e,rfl,l,hv,hl,hw⟩;have ln:=hv.bO;rw[b_] at ln;refine wy (bA (λq=>?_) λq=>?_);exact wy (G2 (G3 _) _ _);refine wy ?_;refine cj (λi e h=>e=[(2,.mp 0 0),(5,v),(8,.mp 1 0),(9,ag i)]/\h[0]?=some (.cells [.af,.af] false)/\∃au mv nodes marks,h[1]?=some (.cells [au,mv] false)/\Bz au mv nodes marks h) l.length ⟨rfl,rfl,.af,.af,[],[],rfl,G3 _⟩ ?_ ?_;rintro i e h hi ⟨rfl,h0,au,mv,nodes,marks,h1,iY⟩;obtain⟨w,hwi⟩:=cD hi;have Ax:=hw w (bG hwi);have e1:bu 1 v (.v (.int .i64 (i:Int)))=some (.fp [ai w] 0):=hv.bK (x:=ai w) (by simp[hwi]) rfl;obtain⟨u1,u2⟩:=bad h h0;refine wy ?_;refine aE.cY (axM w aBH) ?_;rintro r ⟨lC,e2,ws,rfl,Sp,aA6⟩;have atS:=Sp.bO;rw[b_] at atS;refine wy ?_;refine b8 (λah=>?_) λah=>?_;refine wy ?_;refine b8 (λaN=>?_) λaN=>?_;refine aZ (aj7 Sp (n6 Sp) aBH iY) ?_;rintro r g ⟨iJ,lg,nodes',marks',bQ,rfl,w7,hF⟩;have g0:=hF.2 _ _ _ h0;have g1:=hF.2 _ _ _ h1;have st:=FU g1 (wH w7.n).1 (wH w7.m).1;have k1:=aR (a:=.cells [iJ,lg] false) (gl g1);have k0:(g.set 1 (.cells [iJ,lg] false))[0]?=some (.cells [.af,.af] false):=by rw[av aBH];exact g0
 have Rs:Bz iJ lg nodes' marks' (g.set 1 (.cells [iJ,lg] false)):=⟨hU w7.n g1,hU w7.m g1,w7.kC,w7.eM,w7.nl,w7.ml⟩;refine wy ?_;refine b8 (λdI=>?_) λdI=>?_;exact G2 (G3 _) _ _;exact⟨rfl,k0,iJ,lg,nodes',marks',k1,Rs⟩
 · repeat' refine ba (λq'=>?_) λq'=>?_
   all_goals first
    |exact G2 (G3 _) _ _
    |exact⟨rfl,h0,au,mv,nodes,marks,h1,iY⟩
 · repeat' refine ba (λq'=>?_) λq'=>?_
   all_goals first
    |exact G2 (G3 _) _ _
    |exact⟨rfl,h0,au,mv,nodes,marks,h1,iY⟩
 rintro e h ⟨rfl,h0,au,mv,nodes,marks,h1,iY⟩;have st:=FU h0 (wH iY.n).1 (wH iY.m).1;have k0:=aR (a:=.cells [au,mv] false) (gl h0);have Rs:Bz au mv nodes marks (h.set 0 (.cells [au,mv] false)):=⟨hU iY.n h0,hU iY.m h0,iY.kC,iY.eM,iY.nl,iY.ml⟩;exact lC (G2 Rs _ _)
end
end
section
variable{G:Cells}{au mv a b c:U}{nodes marks:List (List U)}
def Zw(D:oA au mv nodes marks)(s:List UInt8):cx G az 72 [.agg [au,mv,a,b,c],ai s] (Gl (-1) 24):=by
 refine cR (arn.go ?_);have vi:=D.nl;have ln:=D.n.bO;rw[b_] at ln;refine wy (bA (λq=>?_) λq=>?_);refine wy ?_;exact q_ aBJ aBJ;refine wy ?_;refine cj (λi e h=>e=[(1,ai s),(2,.mp 0 0),(5,ag i)]/\h=[.cells [au,mv,a,b,c] false]) nodes.length ⟨rfl,rfl⟩ ?_ ?_;rintro i e h hi ⟨rfl,rfl⟩;obtain⟨y,hy⟩:=cD hi;obtain⟨hy1,EX,Nc,Mm⟩:=(D.kC y (bG hy)).ok;have lf:bu 9 au (.v (.int .i64 (i:Int)))=some (.fp y 0):=D.n.bK (x:=.agg y) aB9 (by exact hy1);refine wy ?_;refine b8 (λah=>?_) λah=>?_;exact q_ aBH aBH;exact⟨rfl,trivial⟩;rintro e h ⟨rfl,rfl⟩;refine wy ?_;exact q_ aBJ aBJ
def Zz(D:oA au mv nodes marks)(s:List UInt8):cx G az 73 [.agg [au,mv,a,b,c],ai s] (Gl (-1) 24):=by
 refine cR (aro.go ?_);have hml:=D.ml;have ln:=D.m.bO;rw[b_] at ln;refine wy ?_;refine cj (λi e h=>e=[(1,ai s),(2,.mp 0 0),(5,ag i)]/\h=[.cells [au,mv,a,b,c] false]) marks.length ⟨rfl,rfl⟩ ?_ ?_;rintro i e h hi ⟨rfl,rfl⟩;obtain⟨y,hy⟩:=cD hi;obtain⟨hy1,EX,Nc,Mm⟩:=(D.eM y (bG hy)).ok;have lf:bu 4 mv (.v (.int .i64 (i:Int)))=some (.fp y 0):=D.m.bK (x:=.agg y) aB9 (by exact hy1);refine wy ?_;refine b8 (λah=>?_) λah=>?_;exact q_ aBH aBH;exact⟨rfl,trivial⟩;rintro e h ⟨rfl,rfl⟩;refine wy ?_;exact q_ aBJ aBJ
end
def tf(x:List U):Prop:=∃(nm:List UInt8) (iv:U) (l:List Int),x=[ai nm,iv]/\bL iv (l.map ag)/\dn iv/\l.length<=256/\∀z∈l,(0:Int)<=z/\z<256
section
variable{G:Cells}
def aup{v:U}{rows:List (List U)}(hv:bL v (rows.map bT))(hr:∀x∈rows,tf x)(hl:rows.length<=1000000000)(s:List UInt8):cx G az 205 [v,ai s] Gm:=by
 refine cR (asf.go ?_);have ln:=hv.bO;rw[b_] at ln;have jO:∀hp,bO v hp=some (.v (.int .i64 (rows.length:Int)),hp):=λhp=>aCl
 have none:∀hp:List aa,∃k aQ,b9 hp k .af=some aQ/\Gm aQ:=λhp=>PM (l:=[]) (qa hp 1 3) aBI aBI;refine wy ?_;refine cj (λi e h=>e=[(0,v),(1,ai s),(5,ag i)]/\h=[]) rows.length ⟨rfl,rfl⟩ ?_ ?_;rintro i e h hi ⟨rfl,rfl⟩;obtain⟨y,hy⟩:=cD hi;obtain⟨nm,iv,l,rfl,hiv,hic,mX,hlb⟩:=hr y (bG hy);have lf:bu 2 v (.v (.int .i64 (i:Int)))=some (.fp [ai nm,iv] 0):=hv.bK (x:=.agg [ai nm,iv]) aB9 rfl;refine wy (bA (λah=>?_) λah=>?_);refine wy ?_;refine aE.cY (atL hiv hic aBH) ?_;rintro r ⟨o,ho,oM,EK⟩;refine wy ?_
 rcases ho with rfl|⟨rfl,z⟩
 obtain⟨n,hn⟩:=(fj (t:=.no) (gh (f:=ag) (l:=o) λa _=>aB _):aX [] _ _).done;exact⟨n,_,hn,o,ay rfl,oM,EK⟩;exact none _;exact wx rt;rintro e h ⟨rfl,rfl⟩;exact fG @ag.eq_1 @jO (none _)
end
@[go_sem]def afq(h:List aa){x:List U}(hx:r3 x):aF (h++[aj eV false]) 9 (.mp h.length 0) (.agg x)=some (h++[aj x false]):=I4 h hx.ok.1 hx.ok.2.1
section
variable{G:Cells}{au mv a b c:U}{nodes marks:List (List U)}
def auE(D:oA au mv nodes marks)(hS:dn (.agg [au,mv,a,b,c])):cx G az 39 [.agg [au,mv,a,b,c]] (Gl 0 14):=by
 refine cR (aq3.go ?_);have vi:=D.nl;have hml:=D.ml;have Iw:[bP (.string ⟨[].toArray⟩),.af,.v (.bool false),.v (.bool false),.v (.bool false),.v (.int .i64 0),.v (.bool false),.af,.v (.string ⟨[].toArray⟩)]=eV:=rfl;have ln:=D.n.bO;rw[b_] at ln;have jO:∀hp,bO au hp=some (.v (.int .i64 (nodes.length:Int)),hp):=λhp=>aCl
 have lm:=D.m.bO;rw[b_] at lm;have EZ:∀h:List aa,h[0]?=some (.cells [au,mv,a,b,c] false)->aq h false 1 (.mp 0 0)=some au/\aq h false 1 (.mp 0 1)=some mv/\aq h true 5 (.mp 0 0)=some (.agg [au,mv,a,b,c]):=λh q=>by
  simp only[aq,q];exact⟨rfl,rfl,rfl⟩
 have strs:∀{n:Nat} {v:U},gi n v->∃l:List (List UInt8),bL v (l.map ai)/\l.length<=n/\∀hp,bO v hp=some (.v (.int .i64 (l.length:Int)),hp):=λ{n v} h=>by
  obtain⟨l,h1,h2⟩:=h;have MT:=h1.bO;rw[b_] at MT;exact⟨l,h1,h2,λhp=>by rw[MT hp,kN]⟩
 have node:∀i,i<nodes.length->∃(y:List U) (nm:List UInt8) (bp:U) (ib pb bf:Bool) (a2:Int) (al:Bool) (jP:U) (ex:List UInt8) (gs ms:List (List UInt8)),r3 y/\y=cU nm bp ib pb bf a2 al jP ex/\bu 9 au (.v (.int .i64 (i:Int)))=some (.fp y 0)/\bL bp (gs.map ai)/\gs.length<=5/\(∀hp,bO bp hp=some (.v (.int .i64 (gs.length:Int)),hp))/\bL jP (ms.map ai)/\ms.length<=100001/\(∀hp,bO jP hp=some (.v (.int .i64 (ms.length:Int)),hp))/\(∀hp,aq hp false 1 (.fp y 1)=some bp)/\(∀hp,aq hp false 1 (.fp y 7)=some jP)/\(∀hp,aq hp true 9 (.fp y 0)=some (.agg y)):=λi hi=>by
  have hy:nodes[i]?=some nodes[i]:=br hi;generalize nodes[i]=y at hy;have j4:=D.kC y (bG hy);have lf:bu 9 au (.v (.int .i64 (i:Int)))=some (.fp y 0):=D.n.bK (x:=.agg y) aB9 aEB;have aqd:=j4;obtain⟨nm,bp,ib,pb,bf,a2,al,jP,ex,rfl,hg,hm,_⟩:=aqd;obtain⟨gs,g1,g2,g3⟩:=strs hg;obtain⟨ms,m1,m2,m3⟩:=strs hm;exact⟨_,nm,bp,ib,pb,bf,a2,al,jP,ex,gs,ms,j4,rfl,lf,g1,g2,g3,m1,m2,m3,λ_=>rfl,λ_=>rfl,λ_=>rfl⟩
 have l0:=(EZ [aj [au,mv,a,b,c] false] rfl);refine wy (bA (λq=>?_) λq=>?_);refine wy ?_;exact q_ aBJ aBJ;refine wy ?_;refine cj (λi e h=>e=[(1,.mp 0 0),(3,ag i)]/\h=[.cells [au,mv,a,b,c] false]) nodes.length ⟨rfl,rfl⟩ ?_ ?_;rintro i e h hi ⟨rfl,rfl⟩;obtain⟨y,nm,bp,ib,pb,bf,a2,al,jP,ex,gs,ms,j4,Mv,lf,g1,g2,g3,m1,m2,m3,r1,uk,Up⟩:=node i hi;refine wy ?_;refine cj (λj e h=>e=[(1,.mp 0 0),(3,.v (.int .i64 (i:Int))),(4,ag j)]/\h=[.cells [au,mv,a,b,c] false]) gs.length ⟨rfl,rfl⟩ ?_ ?_;rintro j e h hj ⟨rfl,rfl⟩;obtain⟨w,hw⟩:=cD hj;have MA:bu 1 bp (.v (.int .i64 (j:Int)))=some (.fp [ai w] 0):=g1.bK (x:=ai w) aCS rfl;refine nQ @ag.eq_1 @lf @r1 @g3 @MA ?_;refine aE.cY (Zw D w) ?_;rintro r ⟨z,rfl,_,_⟩;refine wy ?_;refine b8 (λah=>?_) λah=>?_;exact q_ aBJ aBJ;exact⟨rfl,trivial⟩;rintro e h ⟨rfl,rfl⟩;refine mG @ag.eq_1 @lf @r1 @g3 ?_
 first|exact⟨rfl,trivial⟩|trivial
 rintro e h ⟨rfl,rfl⟩;refine wy ?_;refine cj (λi e h=>e=[(1,.mp 0 0),(5,ag i)]/\h[0]?=some (.cells [au,mv,a,b,c] false)) nodes.length ⟨rfl,rfl⟩ ?_ ?_
 · rintro i e h hi ⟨rfl,h0⟩
   obtain⟨y,nm,bp,ib,pb,bf,a2,al,jP,ex,gs,ms,j4,Mv,lf,g1,g2,g3,m1,m2,m3,r1,uk,Up⟩:=node i hi;obtain⟨b0,b1,b2⟩:=EZ h h0;have nn:=afq h j4;have n0:(h++[aj y false])[0]?=some (.cells [au,mv,a,b,c] false):=aM h0;have mH:aq (h++[aj y false]) false 1 (.mp h.length 4)=some (.v (.bool bf)):=by
    rw[Mv];simp only[aq,er (bl _),kj,l6];rfl
   have x2:aq (h++[aj y false]) false 1 (.mp h.length 2)=some (.v (.bool ib)):=by
    rw[Mv];simp only[aq,er (bl _),kj,l6];rfl
   refine lB @ag.eq_1 @b0 @jO @lf @Up @Iw @nn ?_;cases bf<;>cases ib
   all_goals repeat' ((refine bA (λq=>?_) λq=>?_)<;>(have q':=q)<;>(simp -failIfUnchanged only[lO] at q')<;>(refine zd @iE @mH @x2 @vU @rS @q ?_))
   all_goals first
    |exact q_ aBJ aBJ
    |exact⟨rfl,n0⟩
 rintro e h ⟨rfl,h0⟩;obtain⟨b0,b1,b2⟩:=EZ h h0;refine wy ?_;refine cj (λi e g=>e=[(1,.mp 0 0),(7,ag i)]/\g=h) nodes.length ⟨rfl,rfl⟩ ?_ ?_;rintro i e g hi ⟨rfl,rfl⟩;obtain⟨y,nm,bp,ib,pb,bf,a2,al,jP,ex,gs,ms,j4,Mv,lf,g1,g2,g3,m1,m2,m3,r1,uk,Up⟩:=node i hi;refine wy ?_;refine cj (λj e h=>e=[(1,.mp 0 0),(7,.v (.int .i64 (i:Int))),(8,ag j)]/\h=g) ms.length ⟨rfl,rfl⟩ ?_ ?_;rintro j e h hj ⟨rfl,rfl⟩;obtain⟨w,hw⟩:=cD hj;have MA:bu 1 jP (.v (.int .i64 (j:Int)))=some (.fp [ai w] 0):=m1.bK (x:=ai w) aCS rfl;refine Du @ag.eq_1 @b0 @b2 @lf @uk @m3 @MA ?_;refine aE.cY (Zz D w) ?_;rintro r ⟨z,rfl,_,_⟩;refine wy ?_;refine b8 (λah=>?_) λah=>?_;exact q_ aBJ aBJ;exact⟨rfl,trivial⟩;rintro e h ⟨rfl,rfl⟩;refine nQ @ag.eq_1 @b0 @lf @uk @m3 ?_
 first|exact⟨rfl,trivial⟩|trivial
 rintro e g ⟨rfl,rfl⟩;refine wy ?_;refine cj (λi e h=>e=[(1,.mp 0 0),(9,ag i)]/\h=g) marks.length ⟨rfl,rfl⟩ ?_ ?_;rintro i e h hi ⟨rfl,rfl⟩;have hy:marks[i]?=some marks[i]:=br hi;generalize marks[i]=y at hy;have j4:=D.eM y (bG hy);have lf:bu 4 mv (.v (.int .i64 (i:Int)))=some (.fp y 0):=D.m.bK (x:=.agg y) aB9 aEB;obtain⟨nm,p7,al,bv,rfl,hb⟩:=j4;obtain⟨ms,m1,m2,m3⟩:=strs hb;have fX:∀hp,aq hp false 1 (.fp (c7 nm p7 al bv) 3)=some bv:=λ_=>rfl;refine wy ?_;refine cj (λj e g=>e=[(1,.mp 0 0),(9,.v (.int .i64 (i:Int))),(10,ag j)]/\g=h) ms.length ⟨rfl,rfl⟩ ?_ ?_;rintro j e g hj ⟨rfl,rfl⟩;obtain⟨w,hw⟩:=cD hj;have MA:bu 1 bv (.v (.int .i64 (j:Int)))=some (.fp [ai w] 0):=m1.bK (x:=ai w) aCS rfl;refine wy ?_;refine aE.cY (Zz D w) ?_;rintro r ⟨z,rfl,_,_⟩;refine wy ?_;refine b8 (λah=>?_) λah=>?_;exact q_ aBJ aBJ;exact wx rt;rintro e g ⟨rfl,rfl⟩;refine nQ @ag.eq_1 @b1 @lf @fX @m3 ?_
 first|exact⟨rfl,trivial⟩|trivial
 rintro e h ⟨rfl,rfl⟩;refine wy ?_;exact q_ aBJ aBJ
end
section
variable{ps:List bJ}
def alO(h:DQ ps):∀(n f g:Nat) (i:Int),i.toNat<n->i.toNat<f->i.toNat<g->n7 ps f i=n7 ps g i:=by
 intro n
 induction n with
 |zero=>intro f g i h0;omega
 |succ n ih=>
  intro f g i h0 h1 h2;obtain⟨f,rfl⟩:∃f',f=f'+1:=⟨f-1,aBH⟩;obtain⟨g,rfl⟩:∃g',g=g'+1:=⟨g-1,aBH⟩;unfold n7;cases hp:ps[i.toNat]? with
  |none=>rfl
  |some p=>
   dsimp only;have e:(p.kids.map λk=>n7 ps f k)=p.kids.map λk=>n7 ps g k:=zv λk hk=>by
    have:=h _ p hp k hk;exact ih f g k aBH aBH aBH
   rw[e]
def YA(h:DQ ps){i:Nat}{p:bJ}(hp:ps[i]?=some p):cnt ps (i:Int)=if p.kind=1 then 1 else(if p.kind=4 then p.many else 1)*(p.kids.map λk=>cnt ps k).sum:=by
 show n7 ps (i+1) (i:Int)=_;unfold n7;rw[uG,hp];dsimp only;have e:(p.kids.map λk=>n7 ps i k)=p.kids.map λk=>cnt ps k:=zv λk hk=>by
  have:=h _ p hp k hk;exact alO h (i+1) i (k.toNat+1) k aBH aBH aBH
 rw[e]
def at5{G:Cells}{n0:Nat}{v:U}(h:uM n0 v ps):∀(n i:Nat),i<n->i<ps.length->sz ps (i:Int)<=1000000000->ck G az 79 [v,.v (.int .i64 (i:Int))] (.v (.int .i64 ((min (cnt ps (i:Int)) 257:Nat):Int))):=by
 intro n
 induction n with
 |zero=>intro i hi;omega
 |succ n ih=>
  intro i hi hl hsz;obtain⟨p,cW⟩:=cD hl;have jl:=h.ok i p cW;have m_:=h.no p (bG cW);have hs:=Oi h.ok.kids cW;have cK:=Oh (λk=>sz ps k) p.kids;have hc:=YA h.ok.kids cW;refine ef (arv.go ?_);have e1:bu 5 v (.v (.int .i64 (i:Int)))=some (.fp p.cells 0):=h.v.bK (x:=p.aG) aDz rfl;have e2:∀hp,aq hp true 5 (.fp p.cells 0)=some (.agg p.cells):=λhp=>rfl;have s1:=vK [] p;rw[eR,eR] at s1;have z0:([]:List aa).length=0:=rfl;rw[z0] at s1;have l0:aq [.cells p.cells false] false 1 (.mp 0 0)=some (.v (.int .i64 p.kind)):=rfl;have l1:aq [.cells p.cells false] false 1 (.mp 0 1)=some (.v (.int .i64 p.low)):=rfl;have l2:aq [.cells p.cells false] false 1 (.mp 0 2)=some (.v (.int .i64 p.high)):=rfl;have l4:aq [.cells p.cells false] false 1 (.mp 0 4)=some p.kv:=rfl;have lk:=vn m_ aBH;refine wy (bA (λq=>?_) λq=>?_);have q':p.kind=1:=aBN
  rw[hc,if_pos q'];exact wy ((aB _).done);have q':p.kind≠1:=aBN
  rw[if_neg q'] at hc;refine wy ?_;refine cj (λj e hp=>e=[(0,v),(5,.mp 0 0),(6,.v (.int .i64 ((min ((p.kids.take j).map λk=>cnt ps k).sum 257:Nat):Int))),(7,ag j)]/\hp=[.cells p.cells false]) p.kids.length ⟨rfl,rfl⟩ ?_ ?_;rintro j e hp hj ⟨rfl,rfl⟩;obtain⟨x,hx⟩:=cD hj;obtain⟨x0,x1⟩:=jl.2 x (bG hx);obtain⟨xn,rfl⟩:=mJ x0;have iW:bu 1 p.kv (.v (.int .i64 (j:Int)))=some (.fp [.v (.int .i64 (xn:Int))] 0):=by
   unfold bJ.kv;split;rename_i z;rw[z] at hx;simp at hx;exact ku (x:=ag (xn:Int)) (by rw[eC,hx];rfl) rfl
  have ayd:=vL (f:=λk=>sz ps k+1) hx;have aye:=y_ (λk=>sz ps k+1) p.kids (j+1);have uz:=vL (f:=λx=>cnt ps x) hx;have m1:=E7 (min ((p.kids.take j).map λk=>cnt ps k).sum 257+min (cnt ps (xn:Int)) 257) 0;have k9:min (min ((p.kids.take j).map λk=>cnt ps k).sum 257+min (cnt ps (xn:Int)) 257) 257=min ((p.kids.take (j+1)).map λk=>cnt ps k).sum 257:=by rw[uz];omega
  refine wy (dx (ih xn aBH aBH aBH) (aP (yx h) (aP (bM _) bS)) ?_);refine wx ?_
  first
   |exact⟨rfl,trivial⟩
   |exact⟨rfl,rfl⟩
  rintro e hp ⟨rfl,rfl⟩;rw[rV];refine wy ?_;generalize(p.kids.map λk=>cnt ps k).sum=S at hc⊢;by_cases vz:p.kind=4;rw[if_pos vz] at hc;have hb:DP p.low p.high:=by
   rcases jl.1 with z|z|z
   omega;omega;exact z.2.2
  obtain⟨fU,gD,Cd⟩:=hb;have m0:nZ true [.v (.int .i64 p.low),.v (.int .i64 1)]=some (.v (.int .i64 (if(1:Int)>p.low then 1 else p.low))):=rfl;have mY:1<=p.many/\p.many<=20:=by
   unfold Bs;constructor<;>(split<;>(try split))<;>omega
  have apG:min S 257*p.many<=257*20:=Nat.mul_le_mul (Nat.min_le_right _ _) mY.2;have w1:b7.wrap (((min S 257:Nat):Int)*(p.many:Int))=((min S 257*p.many:Nat):Int):=by
   rw[<-Int.natCast_mul,wrap_i64 aBH aBH]
  have k9:min (min S 257*p.many) 257=min (p.many*S) 257:=by
   rcases Nat.le_total S 257 with z|z
   rw[Gd z,Wi];have h2:257*p.many<=p.many*S:=aD3
   rw[Nat.min_eq_right z];omega
  have m1:=E7 (min S 257*p.many) 0;rw[k9] at m1;rw[hc];refine wy (bA (λgd=>?_) λgd=>?_);have B0:(if(1:Int)>p.low then 1 else p.low)=(p.many:Int):=by
   have:p.high<0:=by simpa using gd
   unfold Bs;rw[if_pos this];split<;>omega
  rw[B0] at m0;exact wy ((aB _).done);have B0:p.high=(p.many:Int):=by
   have:¬p.high<0:=by simp at gd;omega
   unfold Bs;rw[if_neg this];omega
  rw[B0] at l2;exact wy ((aB _).done);have gF:(p.kind==4)=false:=by simpa using vz
  rw[if_neg vz,Bx] at hc;have m1:=E7 (min S 257) 0;have k9:min (min S 257) 257=min S 257:=aBH
  rw[k9] at m1;rw[hc];exact wy ((aB _).done)
end
section
variable{v:U}
noncomputable def Me(y:List U)(s:List UInt8):Bool:=@decide (∃xs,y[1]?=some (.sl xs .no)/\ai s∈xs) (azF _)
def ax7{a b:List UInt8}(h:ai a=ai b):a=b:=by
 unfold ai at h;simpa using h
def ao6{y:List U}{bp:U}{gs:List (List UInt8)}(h:y[1]?=some bp)(hg:bL bp (gs.map ai))(s:List UInt8):Me y s=gs.any (· ==s):=by
 unfold Me;rw[Bl,@decide_eq_true_iff _ (azF _),F7];constructor;rintro⟨xs,h1,h2⟩;rw[h] at h1
 rcases hg with rfl|⟨rfl,_⟩
 cases h1;obtain⟨t,ht,e⟩:=cO.1 h2;exact⟨t,ht,by rw[ax7 e];simp⟩;cases h1;rintro⟨t,ht,e⟩;have:t=s:=aDZ
 subst this
 rcases hg with rfl|⟨rfl,z⟩
 exact⟨_,h,cO.2 ⟨t,ht,rfl⟩⟩;have:gs=[]:=aCa
 rw[this] at ht;cases ht
noncomputable def nB(nodes:List (List U))(s:List UInt8):Nat->List Int
 |0=>[]
 |i+1=>nB nodes s i++(match nodes[i]? with|some y=>if Me y s then [((i+1:Nat):Int)] else []|none=>[])
def Rj(nodes:List (List U))(s:List UInt8):∀i,(nB nodes s i).length<=i/\∀x∈nB nodes s i,1<=x/\x<=(i:Int)
 |0=>⟨by simp[nB],by simp[nB]⟩
 |i+1=>by
  obtain⟨h1,h2⟩:=Rj nodes s i;unfold nB;split;split;refine⟨aBK,λx hx=>?_⟩
  rcases dZ.1 hx with z|z
  have:=h2 x z;omega;rw[cr.1 z];omega;rw[e4];exact⟨aBH,λx hx=>aEu⟩;rw[e4];exact⟨aBH,λx hx=>aEu⟩
def lS(l:List Int):U:=match l with
 |[]=>.af
 |_=>.sl (l.map ag) .no
def abL(l:List Int):bL (lS l) (l.map ag):=by
 unfold lS;split;exact ax ⟨rfl,rfl⟩;exact ay rfl
def aky{hp:List aa}{l:List Int}(h:bX hp v (l.map ag) 1 3)(hn:l=[]->v=.af):∃k,b9 hp k v=some (lS l):=by
 cases l with
 |nil=>
  rw[hn rfl];exact(cS:aX hp _ _).done
 |cons x r=>
  rcases h with⟨_,z⟩|⟨id,rfl,_⟩
  simp at z;exact(fj (t:=.tok id) (gh (f:=ag) (l:=x::r) λa _=>aB _):aX hp _ _).done
section
variable{G:Cells}{au mv a b c:U}{nodes marks:List (List U)}
def aos{l:List (List UInt8)}(hv:bL v (l.map ai))(hl:l.length<=1000000)(x:List UInt8):ck G az 139 [v,ai x] (.v (.bool (l.any (· ==x)))):=by
 refine ef (ac0.go ?_);have ln:=hv.bO;rw[b_] at ln;refine wy ?_;refine cj (λi e h=>e=[(0,v),(1,ai x),(5,ag i)]/\h=[]/\∀j s,j<i->l[j]?=some s->(s==x)=false) l.length ⟨rfl,rfl,λj s h=>aBH⟩ ?_ ?_;rintro i e h hi ⟨rfl,rfl,hI⟩;obtain⟨s,hs⟩:=cD hi;have e1:bu 1 v (.v (.int .i64 (i:Int)))=some (.fp [ai s] 0):=hv.bK (x:=ai s) aEs rfl;refine wy ?_;refine b8 (λq=>?_) λq=>?_;rw[show l.any (· ==x)=true from F7.2 ⟨s,bG hs,q⟩];exact(aB _).done;refine⟨rfl,trivial,λj t hj ht=>?_⟩
 rcases cE j i with z|z
 exact hI j t z ht;rw[show j=i by omega,hs] at ht;cases ht;exact q;rintro e h ⟨rfl,rfl,hI⟩;refine wy ?_;rw[show l.any (· ==x)=false from by
  rw[List.any_eq_false];intro s hm;obtain⟨j,hj,rfl⟩:=DJ hm;rw[hI j _ hj (br hj)];decide]
 exact(aB _).done
def anP(D:oA au mv nodes marks)(s:List UInt8):ck G az 77 [.agg [au,mv,a,b,c],ai s] (lS (nB nodes s nodes.length)):=by
 refine ef (aru.go ?_);have vi:=D.nl;have ln:=D.n.bO;rw[b_] at ln;refine wy ?_;refine cj (λi e h=>∃ak:U,e=[(1,ai s),(2,.mp 0 0),(5,ak),(6,ag i)]/\h[0]?=some (.cells [au,mv,a,b,c] false)/\bX h ak ((nB nodes s i).map ag) 1 3/\(nB nodes s i=[]->ak=.af)) nodes.length ⟨.af,rfl,rfl,qa _ _ _,λ_=>rfl⟩ ?_ ?_;rintro i e h hi ⟨ak,rfl,h0,hA,Ii⟩;obtain⟨y,hy⟩:=cD hi;have j4:=D.kC y (bG hy);obtain⟨hy1,EX,Nc,Mm⟩:=j4.ok;have lf:bu 9 au (.v (.int .i64 (i:Int)))=some (.fp y 0):=D.n.bK (x:=.agg y) aB9 (by exact hy1);obtain⟨bp,Al,MT,lh⟩:∃bp,gi 5 bp/\(∀h,aq h false 1 (.fp y 1)=some bp)/\y[1]?=some bp:=by
  obtain⟨nm,bp,i2,p2,bf,a2,al,jP,ex,rfl,hg,hm,_⟩:=j4;exact⟨bp,hg,λh=>rfl,rfl⟩
 obtain⟨gs,xj,ji⟩:=Al;have aAs:dn bp:=n6 xj;have wi:b7.wrap ((i:Int)+1)=((i+1:Nat):Int):=jA aBH;have aAP:=(Rj nodes s i).1;obtain⟨bg,g,e1,dO,hne,_,hk⟩:=kL (x:=.v (.int .i64 ((i+1:Nat):Int))) (aY:=8) hA (C3 _) rfl aBJ aBJ aBK;have g0:=hk _ _ h0 λxs z=>by
  rcases hA with⟨bh,_⟩|⟨id,bh,z2⟩
  rw[bh] at z;cases z;rw[bh] at z;cases z;rw[h0] at z2;cases z2
 have hh:=ao6 lh xj s;refine wy ?_;refine aE.pu (aos xj aBH s) ?_;rw[<-hh];cases hb:Me y s with
 |false=>
  have qp:nB nodes s (i+1)=nB nodes s i:=by
   rw[nB,hy];simp[hb]
  refine fY ?_;exact⟨ak,rfl,h0,by rw[qp];exact hA,by rw[qp];exact Ii⟩
 |true=>
  have qp:nB nodes s (i+1)=nB nodes s i++[((i+1:Nat):Int)]:=by
   rw[nB,hy];simp[hb]
  refine fG @wi @e1 ?_;exact⟨bg,rfl,g0,by rw[qp,eX];exact dO,by rw[qp];intro z;simp at z⟩
 rintro e h ⟨ak,rfl,h0,hA,Ii⟩;exact wy (aky hA Ii)
end
end
section
variable{v:U}{x:List U}
def zB(x:List U):Prop:=∃(nm:List UInt8) (l:List Int),(x=[ai nm,lS l]\/x=[ai nm,.sl (l.map ag) .exact])/\l.length<=256/\∀z∈l,(0:Int)<=z/\z<256
def BU{l:List Int}(h:bL v (l.map ag)):dn v:=by
 rcases h with rfl|⟨rfl,_⟩
 refine jZ λx hx c hc=>?_;obtain⟨t,_,rfl⟩:=cO.1 hx;rw[cr.1 (show c∈[ag t] from hc)];exact bM _;exact mg
def abK(l:List Int):bn (lS l)=true/\(lS l).cells=[lS l]:=by
 unfold lS;split<;>exact⟨rfl,rfl⟩
def aqG(l:List Int)(hp:List aa):aX hp (lS l) (lS l):=by
 unfold lS;split;exact cS;exact fj (gh λa _=>aB _)
def zB.ok(h:zB x):x.length=2/\x.all bn=true:=by
 obtain⟨nm,l,rfl|rfl,_,_⟩:=h;refine⟨rfl,?_⟩;simp only[lD,oy,(abK l).1];rfl;exact⟨rfl,rfl⟩
def zB.fz(h:zB x)(hp:List aa):∃x',aX hp (.agg x) (.agg x')/\tf x':=by
 obtain⟨nm,l,rfl|rfl,h1,h2⟩:=h;exact⟨_,iO (aA (aB _) (aA (aqG l hp) bW)),nm,_,l,rfl,abL l,BU (abL l),h1,h2⟩;exact⟨[ai nm,.sl (l.map ag) .no],iO (aA (aB _) (aA (fj (gh λa _=>aB _)) bW)),nm,_,l,rfl,ay rfl,BU (ay rfl),h1,h2⟩
def ae8(hp:List aa):∀{xs:List (List U)},(∀x∈xs,zB x)->∃ys:List (List U),dD hp (xs.map bT) (ys.map bT)/\(∀y∈ys,tf y)/\ys.length=xs.length
 |[],_=>⟨[],bW,aBI,rfl⟩
 |x::r,h=>by
  obtain⟨x',a1,a2⟩:=(h x aBI).fz hp;obtain⟨ys,b1,b2,b3⟩:=ae8 hp (xs:=r) λy hy=>h y aB9;refine⟨x'::ys,aA a1 b1,λy hy=>?_,by simp[b3]⟩
  rcases ek.1 hy with rfl|hy
  exact a2;exact b2 y hy
def ajF(n:Nat)(r:U):Prop:=∃rows:List (List U),bL r (rows.map bT)/\(∀x∈rows,tf x)/\rows.length<=n
section
variable{G:Cells}{au mv a b c:U}{nodes marks:List (List U)}
def auo{n0:Nat}{ps:List bJ}(D:oA au mv nodes marks)(hS:dn (.agg [au,mv,a,b,c]))(h:uM n0 v ps)(hn:n0<=1000000000):cx G az 41 [.agg [au,mv,a,b,c],v] (ajF ps.length):=by
 refine cR (aq5.go ?_);have hl:=h.len;have vi:=D.nl;have ln:=h.v.bO;rw[b_] at ln;refine wy ?_;refine cj (λi e h=>∃(xs:List (List U)) (ak:U),e=[(1,v),(2,.mp 0 0),(5,ak),(6,ag i)]/\h[0]?=some (.cells [au,mv,a,b,c] false)/\bX h ak (xs.map bT) 2 181/\xs.length<=i/\∀x∈xs,zB x) ps.length ⟨[],.af,rfl,rfl,qa _ _ _,aBI,aBI⟩ ?_ ?_;rintro i e g hi ⟨xs,ak,rfl,h0,hA,hxl,hx⟩;obtain⟨p,hp⟩:=cD hi;have e1:bu 5 v (.v (.int .i64 (i:Int)))=some (.fp p.cells 0):=h.v.bK (x:=p.aG) (by simp[hp]) rfl;have l0:∀hp,aq hp false 1 (.fp p.cells 0)=some (.v (.int .i64 p.kind)):=λhp=>rfl;have l3:∀hp,aq hp false 1 (.fp p.cells 3)=some (ai p.name):=λhp=>rfl;have S0:∀g:List aa,g[0]?=some (.cells [au,mv,a,b,c] false)->aq g true 5 (.mp 0 0)=some (.agg [au,mv,a,b,c]):=λg q=>by
  simp only[aq,q];rfl
 refine ni (bA (λq=>?_) λq=>?_);refine cV @q ?_;exact⟨xs,ak,rfl,h0,hA,aBH,hx⟩;refine wy ?_;refine⟨_,_,aP hS (aP (q9 _) bS),anP D p.name,?_⟩;obtain⟨gl,LU⟩:=Rj nodes p.name nodes.length;have amD:cm [.v (.string ⟨[].toArray⟩),.af] [(0,1,ai p.name),(1,1,lS (nB nodes p.name nodes.length))]=some [ai p.name,lS (nB nodes p.name nodes.length)]:=by
  generalize nB nodes p.name nodes.length=L;cases L<;>rfl
 generalize nB nodes p.name nodes.length=L at gl LU amD⊢;have nn:aF (g++[aj [.v (.string ⟨[].toArray⟩),.af] false]) 2 (.mp g.length 0) (.agg [ai p.name,lS L])=some (g++[aj [ai p.name,lS L] false]):=by
  rw[FU (k:=g.length) (a:=.v (.string ⟨[].toArray⟩)) (b:=.af) aBI rfl (abK L).1];simp
 have h0':(g++[aj [ai p.name,lS L] false])[0]?=some (.cells [au,mv,a,b,c] false):=aM h0;have kx:(g++[aj [ai p.name,lS L] false])[g.length]?=some (.cells [ai p.name,lS L] false):=aBI
 have sy:bX (g++[aj [ai p.name,lS L] false]) ak (xs.map bT) 2 181:=hA.ext;have Cl:g.length≠0:=by have:=(bE.1 h0).1;omega
 refine wy ?_;generalize g++[aj [ai p.name,lS L] false]=g1 at h0' kx sy⊢;generalize g.length=K at kx Cl⊢;refine wy ?_;refine aE.cY (Zw D p.name) ?_;rintro r ⟨z,rfl,bh,z2⟩;have push:∀(g2:List aa) (x:List U),bX g2 ak (xs.map bT) 2 181->g2[0]?=some (.cells [au,mv,a,b,c] false)->zB x->∃bg g3,dA 2 [.agg x]=some (.sl [.agg x] .exact)/\cG g2 2 40 181 ak (.sl [.agg x] .exact)=some (bg,g3)/\g3[0]?=some (.cells [au,mv,a,b,c] false)/\bX g3 bg ((xs++[x]).map bT) 2 181/\∀y∈xs++[x],zB y:=λg2 x dO mV xw=>by
  have TL:bV 2 [bT x]=true:=sM (xs:=[x]) λy hy=>by rw[cr.1 hy];exact xw.ok
  obtain⟨bg,g3,bQ,oJ,_,_,hk⟩:=kL (x:=bT x) (aY:=40) dO (sM λy hy=>(hx y hy).ok) TL aBJ aBJ aBK;refine⟨bg,g3,by simp[dA,TL],bQ,hk _ _ mV λys w=>?_,by rw[eX];exact oJ,λy hy=>?_⟩
  rcases dO with⟨w1,_⟩|⟨id,w1,w2⟩
  rw[w1] at w;cases w;rw[w1] at w;cases w;rw[mV] at w2;cases w2
  rcases dZ.1 hy with w|w
  exact hx y w;rw[cr.1 w];exact xw
 refine wy (bA (λah=>?_) λah=>?_);have aA9:0<=z:=aB8
 have s1:aF g1 1 (.mp K 1) (.sl [.v (.int .i64 z)] .exact)=some (g1.set K (.cells [ai p.name,.sl [.v (.int .i64 z)] .exact] false)):=by
  simp only[aF,kx];rfl
 have CL:=aR (a:=.cells [ai p.name,.sl [.v (.int .i64 z)] .exact] false) (bE.1 kx).1;have mV:(g1.set K (.cells [ai p.name,.sl [.v (.int .i64 z)] .exact] false))[0]?=some (.cells [au,mv,a,b,c] false):=by rw[av Cl];exact h0'
 obtain⟨bg,g3,p1,p2,p3,fW,C7⟩:=push _ [ai p.name,.sl [.v (.int .i64 z)] .exact] (hU sy kx) mV ⟨p.name,[z],ax rfl,aBI,λy hy=>by rw[cr.1 hy];omega⟩;refine nP @ah @s1 (Om CL) @p1 @p2 ?_;exact⟨_,bg,rfl,p3,fW,aBK,C7⟩;obtain⟨bg,g3,p1,p2,p3,fW,C7⟩:=push g1 [ai p.name,lS L] sy h0' ⟨p.name,L,ay rfl,aBH,λy hy=>by have:=LU y hy;omega⟩;refine mG @ah (Om kx) @p1 @p2 ?_;exact⟨_,bg,rfl,p3,fW,aBK,C7⟩;rintro e g ⟨xs,ak,rfl,h0,hA,hxl,hx⟩;refine wy ?_;obtain⟨ys,y1,eg,jU⟩:=ae8 g hx
 rcases hA with⟨rfl,z⟩|⟨id,rfl,_⟩
 obtain⟨n,hn⟩:=(cS:aX g _ _).done;exact⟨n,_,hn,[],ax ⟨rfl,rfl⟩,aBI,aBI⟩;obtain⟨n,hn⟩:=(fj (t:=.tok id) y1:aX g _ _).done;exact⟨n,_,hn,ys,ay rfl,eg,aBH⟩
end
end
section
variable{G:Cells}{au mv a b c:U}{nodes marks:List (List U)}
def ayz(D:oA au mv nodes marks)(n:Int):cx G az 140 [.agg [au,mv,a,b,c],.v (.int .i64 n)] λr=>∃t:Bool,r=.v (.bool t)/\(t=true->1<=n/\n<=(nodes.length:Int)):=by
 refine cR (aq0.go ?_);have ln:=D.n.bO;rw[b_] at ln;refine wy ?_;refine b8 (λq=>?_) λq=>?_;refine wy ?_;obtain⟨k,hk⟩:=(aB (.bool (decide (n<=(nodes.length:Int)))):aX [aj [au,mv,a,b,c] false] _ _).done;exact⟨k,_,hk,_,rfl,λz=>⟨aBN,aCa⟩⟩;obtain⟨k,hk⟩:=(aB (.bool false):aX [aj [au,mv,a,b,c] false] _ _).done;exact⟨k,_,hk,_,rfl,λz=>by cases z⟩
def auT(D:oA au mv nodes marks)(n:Nat)(h1:1<=n)(h2:n<=nodes.length):cx G az 141 [.agg [au,mv,a,b,c],.v (.int .i64 (n:Int))] λr=>∃y,r=.agg y/\r3 y:=by
 refine cR (asE.go ?_);have vi:=D.nl;have Iw:[bP (.string ⟨[].toArray⟩),.af,.v (.bool false),.v (.bool false),.v (.bool false),.v (.int .i64 0),.v (.bool false),.af,.v (.string ⟨[].toArray⟩)]=eV:=rfl;obtain⟨y,hy⟩:∃y,nodes[n-1]?=some y:=⟨nodes[n-1]' aBH,br aBH⟩;have j4:=D.kC y (bG hy);have lf:bu 9 au (.v (.int .i64 ((n-1:Nat):Int)))=some (.fp y 0):=D.n.bK (x:=.agg y) aB9 aEB;have ly:=λhp=>o9.eG j4.ok.1 hp;have st:aF [aj [au,mv,a,b,c] false,.cells eV false] 9 (.mp 1 0) (.agg y)=some [.cells [au,mv,a,b,c] false,.cells y false]:=ue (k:=1) rfl rfl j4.ok.1 j4.ok.2.1;have la:aq [aj [au,mv,a,b,c] false,.cells y false] true 9 (.mp 1 0)=some (.agg y):=by
  obtain⟨nm,bp,i,p,bf,a2,al,jP,ex,rfl,_⟩:=j4;rfl
 refine wy ?_;obtain⟨k,hk⟩:=(j4.fz [aj [au,mv,a,b,c] false,.cells y false]).done;exact⟨k,_,hk,y,rfl,j4⟩
def SA(D:oA au mv nodes marks)(hS:dn (.agg [au,mv,a,b,c]))(n:Int):cx G az 78 [.agg [au,mv,a,b,c],.v (.int .i64 n)] gW:=by
 refine cR (aq1.go ?_);have S0:aq [aj [au,mv,a,b,c] false] true 5 (.mp 0 0)=some (.agg [au,mv,a,b,c]):=rfl;refine wy ?_;refine b8 (λq=>?_) λq=>?_;exact gj _;refine aE.cY (ayz D n) ?_;rintro r ⟨t,rfl,ht⟩;cases t with
 |false=>
  exact wy (gj _)
 |true=>
  obtain⟨h1,h2⟩:=ht rfl;obtain⟨m,rfl⟩:=mJ (show 0<=n by omega);refine wy ?_;refine aE.cY (auT D m aBH aBH) ?_;rintro r ⟨y,rfl,nm,bp,i,p,bf,a2,al,jP,ex,rfl,_⟩;have f:GG false 1 2 (.agg (cU nm bp i p bf a2 al jP ex))=some (.v (.bool i)):=rfl;exact wy (gj _)
end
end Go.Proofs.YtggeooeohcbdhaaGreatDoor

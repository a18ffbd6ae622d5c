/- Part 10 of a proof. No condition. -/
import Derived.Test.YtepejmecchhifaaGreatDoorZ9
set_option linter.unusedVariables false
set_option linter.unusedSimpArgs false
set_option linter.defProp false
open Bool renaming eq_iff_iff->Ds,not_false->rK,not_true->vL
open Classical renaming propDecidable->aAn
open Go.aH.U renaming agg->b8,cells->gN,one->bl,v->bO
open Go.aH.bU renaming nil->p4
open Go.aH.aa renaming cells->aj
open Go.aH.p_ renaming mk->bI
open Go.aH.bq renaming mono->a_,pu->dx,T9->dh,pure->fo,awe->gO
open Go.aH renaming Clean->dm
open Go.aH.aW renaming agg->iC,af->cX,sl->e5,aK->dQ,v->aB
open Go.aH.dK renaming cons->aA,map->fY,nil->bT
open Go.IntKind renaming i64->bP
open Go.Proofs.Tryz renaming prog->ay
open Go.Proofs.YtepejmecchhifaaGreatDoor.bK renaming aF->oU,cells->ot,many->Bs
open Go.Proofs.YtepejmecchhifaaGreatDoor.ck renaming aF->kJ,cells->fH
open Go.Proofs.YtepejmecchhifaaGreatDoor.gm renaming nil->uu
open Int renaming eq_ofNat_of_zero_le->mI,le_refl->zk,toNat_natCast->ux
open List renaming all_cons->l5,all_eq_true->c7,all_nil->oV,any_eq_true->F0,append_assoc->cj,append_nil->ff,cons_append->gP,drop_zero->ni,getElem?_append->Wc,getElem?_append_left->ei,getElem?_append_right->en,getElem?_cons_zero->l6,getElem?_eq_getElem->br,getElem?_eq_none->h_,getElem?_eq_some_iff->bF,getElem?_map->eo,getElem?_set_ne->av,getElem?_set_self->aO,getElem_of_mem->DF,length_append->cG,length_cons->di,length_map->bX,length_nil->fI,length_pos_iff->F4,length_singleton->nM,map_append->eD,map_congr_left->vR,map_cons->ep,map_map->uA,map_nil->kn,map_singleton->ajp,mem_append->dN,mem_cons->dW,mem_map->cI,mem_of_getElem?->bA,mem_singleton->cw,nil_append->eH,set_set->ajz,sum_append->ajA,sum_cons->vU,sum_nil->DG,take_add_one->By,take_append_drop->Wi,take_length->p8,take_of_length_le->lH
open Nat renaming add_assoc->kK,add_sub_cancel->OW,add_zero->nP,eq_zero_or_pos->zn,le_refl->bg,le_trans->fy,lt_or_ge->cH,min_eq_left->F5,mul_comm->Wk,one_mul->Bz,sub_self->kL,sub_zero->DH,zero_add->e6,zero_le->iE
open Or renaming inl->ax,inr->az
namespace Go.Proofs.YtepejmecchhifaaGreatDoor
open Go Go.aH Go.RowKit
section
variable{J:List aa}
def DK(low high:Int):Prop:=0<=low/\low<=20/\(high= -1\/(1<=high/\high<=20/\low<=high))
def ck.s7(x:ck):Prop:=1<=x.kind/\x.kind<=5/\x.name.length<=12/\(x.kind=5->DK x.low x.high)
def Pr(a n:Nat)(r:U):Prop:=∃(x:ck) (p e:Int),r=.aK [x.aF,.v (.int .i64 p),.v (.int .i64 e)]/\(e=0->∃p':Nat,p=(p':Int)/\a<p'/\p'<=n/\x.s7)
def mo{a n:Nat}(x:ck){p e:Int}(h:e=0->∃p':Nat,p=(p':Int)/\a<p'/\p'<=n/\x.s7):∃k aM,b7 J k (.aK [.agg x.cells,.v (.int .i64 p),.v (.int .i64 e)])=some aM/\Pr a n aM:=by
 obtain⟨k,S⟩:=(dQ (aA (iC (aA (aB _) (aA (aB _) (aA (aB _) (aA (aB _) (aA (aB _) bT)))))) (aA (aB (.int .i64 p)) (aA (aB (.int .i64 e)) bT))):aW J (.aK [.agg x.cells,.v (.int .i64 p),.v (.int .i64 e)]) _).done;exact⟨k,_,S,x,p,e,rfl,h⟩
@[go_sem]def VF(z x:ck)(l:List aa):aE (.cells z.cells false::l) 5 (.mp 0 0) (.agg x.cells)=some (.cells x.cells false::l):=by
 rw[sG (k:=0) (Z:=z.cells) rfl rfl x];rfl
@[go_sem]def xK(x:ck)(l:List aa):aq (.cells x.cells false::l) true 5 (.mp 0 0)=some (.agg x.cells):=sF rfl
@[go_sem]def aiU(b:aa)(z x:ck)(l:List aa):aE (b:: .cells z.cells false::l) 5 (.mp 1 0) (.agg x.cells)=some (b:: .cells x.cells false::l):=by
 rw[sG (k:=1) (Z:=z.cells) rfl rfl x];rfl
@[go_sem]def Bk(b:aa)(x:ck)(l:List aa):aq (b:: .cells x.cells false::l) true 5 (.mp 1 0)=some (.agg x.cells):=sF rfl
@[go_sem]def aiT(b:aa)(k a lo Q n:Int)(w:List UInt8)(l:List aa):aE (b:: .cells (fH ⟨k,a,lo,Q,w⟩) false::l) 1 (.mp 1 2) (.v (.int .i64 n))=some (b:: .cells (fH ⟨k,a,n,Q,w⟩) false::l):=rfl
@[go_sem]def OB(b:aa)(k a lo Q n:Int)(w:List UInt8)(l:List aa):aE (b:: .cells (fH ⟨k,a,lo,Q,w⟩) false::l) 1 (.mp 1 3) (.v (.int .i64 n))=some (b:: .cells (fH ⟨k,a,lo,n,w⟩) false::l):=rfl
def zb:ck:=⟨0,0,0,0,[]⟩
def VE:fH zb=[.v (.int .i64 0),.v (.int .i64 0),.v (.int .i64 0),.v (.int .i64 0),.v (.string ⟨[].toArray⟩)]:=rfl
section
variable{G:Cells}
def al8(s:List UInt8)(hs:s.length<=1000000000)(aU:Nat)(ha:aU<s.length):cC G ay 210 [ai s,.v (.int .i64 (aU:Int))] (Pr aU s.length):=by
 refine cU (asw.go ?_);have f1:cq [.v (.int .i64 0),.v (.int .i64 0),.v (.int .i64 0),.v (.int .i64 0),.v (.string ⟨[].toArray⟩)] [(0,1,.v (.int .i64 5)),(1,1,.v (.int .i64 (aU:Int)))]=some (fH ⟨5,aU,0,0,[]⟩):=rfl;have p1:=λb x l=>aiU b zb x l;have fE:=λx l=>VF zb x l;rw[VE] at p1 fE;refine wy ?_;refine dh (afO s hs (aU+1) ha) ?_;rintro r ⟨m,p,rfl,J,hm⟩;refine wy (bI (λq=>?_) λq=>?_);obtain⟨p',e,he,sp⟩:=Oz (G:=G) s p;refine wy ?_;refine dx sp ?_;exact wx (mo ⟨5,aU,0,0,[]⟩ λz=>absurd z he);have hm0:0<=m:=aCy
 have ok:∀hh:Int,m<=20->(hh= -1\/(1<=hh/\hh<=20/\m<=hh))->ck.s7 ⟨5,aU,m,hh,[]⟩:=λhh Ri h=>⟨aDo,aEP,aDT,λ_=>⟨hm0,Ri,h⟩⟩;refine oS ?_
 repeat' ((refine bI (λq=>?_) λq=>?_)<;>(have q':=q)<;>(simp -failIfUnchanged only[nq] at q')<;>(refine gj @tQ @tq @q ?_))
 all_goals first
  |(refine wx ?_
    exact mo ⟨5,aU,0,0,[]⟩ λz=>absurd z aCu)
  |skip
 all_goals
  have H7:m<=20:=aCs
  refine eV @aiT @OB @tq ?_
  repeat' ((refine bI (λq=>?_) λq=>?_)<;>(have q':=q)<;>(simp -failIfUnchanged only[nq] at q')<;>(refine gj @tQ @tq @q ?_))
 all_goals first
  |(obtain⟨p',e,he,sp⟩:=Oz (G:=G) s p
    refine dx sp ?_;exact eV @Bk @fE @xK (mo ⟨5,aU,m,m,[]⟩ λz=>absurd z he))
  |skip
 all_goals first
  |(exfalso;omega)
  |(refine eV @Bk @fE @xK ?_
    exact mo ⟨5,aU,m,m,[]⟩ λ_=>⟨p+1,rfl,aCs,aCs,ok m H7 (az ⟨aCs,aCs,aCs⟩)⟩)
  |skip
 all_goals
  refine fm @OB @tq ?_
  repeat' ((refine bI (λq=>?_) λq=>?_)<;>(have q':=q)<;>(simp -failIfUnchanged only[nq] at q')<;>(refine gj @tQ @tq @q ?_))
 all_goals first
  |(exfalso;omega)
  |(refine eV @Bk @fE @xK ?_
    exact mo ⟨5,aU,m, -1,[]⟩ λ_=>⟨p+1+1,rfl,aCs,aCs,ok _ H7 (ax rfl)⟩)
  |skip
 all_goals
  refine dh (afO s hs (p+1) aCs) ?_;rintro r ⟨k,p2,rfl,gJ,S⟩;refine e3 (bI (λq=>?_) λq=>?_);obtain⟨p',e,he,sp⟩:=Oz (G:=G) s p2;refine dc @q ?_;refine dx sp ?_;exact eV @Bk @fE @xK (mo ⟨5,aU,m, -1,[]⟩ λz=>absurd z he);have hk0:0<=k:=aCy
  refine dc @q ?_
  repeat' ((refine bI (λq=>?_) λq=>?_)<;>(have q':=q)<;>(simp -failIfUnchanged only[nq] at q')<;>(refine gj @tQ @tq @q ?_))
 all_goals first
  |(refine eV @Bk @fE @xK ?_
    exact mo ⟨5,aU,m, -1,[]⟩ λz=>absurd z aCu)
  |skip
 all_goals
  refine fm @OB @tq ?_
  repeat' ((refine bI (λq=>?_) λq=>?_)<;>(have q':=q)<;>(simp -failIfUnchanged only[nq] at q')<;>(refine gj @tQ @tq @q ?_))
 all_goals first
  |(exfalso;omega)
  |(refine eV @Bk @fE @xK ?_
    exact mo ⟨5,aU,m,k,[]⟩ λ_=>⟨p2+1,rfl,aCs,aCs,ok k H7 (az ⟨aCs,aCs,aCs⟩)⟩)
  |(obtain⟨p',e,he,sp⟩:=Oz (G:=G) s p2
    refine dx sp ?_;exact eV @Bk @fE @xK (mo ⟨5,aU,m,k,[]⟩ λz=>absurd z he))
def avJ(s:List UInt8)(hs:s.length<=1000000000)(aU:Nat)(ha:aU<s.length):cC G ay 145 [ai s,.v (.int .i64 (aU:Int))] (Pr aU s.length):=by
 refine cU (asb.go ?_);have fz:cq [.v (.int .i64 0),.v (.int .i64 0),.v (.int .i64 0),.v (.int .i64 0),.v (.string ⟨[].toArray⟩)] []=some (fH zb):=rfl;have f1:∀w,cq [.v (.int .i64 0),.v (.int .i64 0),.v (.int .i64 0),.v (.int .i64 0),.v (.string ⟨[].toArray⟩)] [(0,1,.v (.int .i64 1)),(1,1,.v (.int .i64 (aU:Int))),(4,1,ai w)]=some (fH ⟨1,aU,0,0,w⟩):=λw=>rfl;have f2:∀k:Int,cq [.v (.int .i64 0),.v (.int .i64 0),.v (.int .i64 0),.v (.int .i64 0),.v (.string ⟨[].toArray⟩)] [(0,1,.v (.int .i64 k)),(1,1,.v (.int .i64 (aU:Int)))]=some (fH ⟨k,aU,0,0,[]⟩):=λk=>rfl;have f5:∀h:Int,cq [.v (.int .i64 0),.v (.int .i64 0),.v (.int .i64 0),.v (.int .i64 0),.v (.string ⟨[].toArray⟩)] [(0,1,.v (.int .i64 5)),(1,1,.v (.int .i64 (aU:Int))),(3,1,.v (.int .i64 h))]=some (fH ⟨5,aU,0,h,[]⟩):=λk=>rfl;have f6:cq [.v (.int .i64 0),.v (.int .i64 0),.v (.int .i64 0),.v (.int .i64 0),.v (.string ⟨[].toArray⟩)] [(0,1,.v (.int .i64 5)),(1,1,.v (.int .i64 (aU:Int))),(2,1,.v (.int .i64 1)),(3,1,.v (.int .i64 (-1)))]=some (fH ⟨5,aU,1, -1,[]⟩):=rfl;have fE:=λx l=>VF zb x l;rw[VE] at fE;have w1:bP.wrap ((aU:Int)+1)=((aU+1:Nat):Int):=jd aCs;have afU:∀w:List UInt8,w.length<=12->ck.s7 ⟨1,aU,0,0,w⟩:=λw hw=>⟨(by show(1:Int)<=1;decide),aDo,hw,λq=>absurd (show(1:Int)=5 from q) aCu⟩;have TK:∀k:Int,1<=k->k<=4->ck.s7 ⟨k,aU,0,0,[]⟩:=λk Y V=>⟨Y,(by show k<=5;omega),aDT,λq=>absurd (show k=5 from q) aCs⟩;have TI:∀lo Q:Int,DK lo Q->ck.s7 ⟨5,aU,lo,Q,[]⟩:=λlo Q h=>⟨aDo,aEP,aDT,λ_=>h⟩;refine wx ?_;refine dx (UY (mg s aU:Int)) ?_;cases Si:(decide ((97:Int)<=(mg s aU:Int))&&decide ((mg s aU:Int)<=122)) with
 |true=>
  refine wy ?_;refine nh (n:=s.length-aU) (λm e h=>∃i:Nat,m=s.length-i/\aU<=i/\i<=aU+12/\i<=s.length/\e=[(0,ai s),(1,.v (.int .i64 (aU:Int))),(4,.mp 0 0),(8,ag i)]/\h=[.cells (fH zb) false]) ⟨aU,rfl,aCs,aCs,aCs,rfl,rfl⟩ ?_;rintro m e h ⟨i,rfl,Q,hi2,aph,rfl,rfl⟩;rw[VE];refine wy ?_
  rcases cH i s.length with hl|hl
  refine wx ?_;refine dx (UY (mg s i:Int)) ?_;cases hs1:(decide ((97:Int)<=(mg s i:Int))&&decide ((mg s i:Int)<=122)) with
  |true=>
   refine wy ?_;refine b5 (λq=>?_) λq=>?_;exact mo zb λz=>absurd z aCu;have:i-aU≠12:=by intro e;rw[e] at q;cases q
   exact⟨s.length-(i+1),aCs,i+1,rfl,aCs,aCs,aCs,rfl,trivial⟩
  |false=>
   refine wx ?_;refine dx (Lg (mg s i:Int)) ?_;cases hs2:(decide ((48:Int)<=(mg s i:Int))&&decide ((mg s i:Int)<=57)) with
   |true=>
    refine wy ?_;refine b5 (λq=>?_) λq=>?_;exact mo zb λz=>absurd z aCu;have:i-aU≠12:=by intro e;rw[e] at q;cases q
    exact⟨s.length-(i+1),aCs,i+1,rfl,aCs,aCs,aCs,rfl,trivial⟩
   |false=>
    have hne:aU<i:=by
     rcases cH aU i with z|z
     exact z;have:i=aU:=aCs
     subst this;rw[Si] at hs1;cases hs1
    exact wx (mo ⟨1,aU,0,0,(s.take i).drop aU⟩ λ_=>⟨i,rfl,aCs,aCs,afU _ aCv⟩)
  refine wx ?_;exact mo ⟨1,aU,0,0,(s.take i).drop aU⟩ λ_=>⟨i,rfl,aCs,aCs,afU _ aCv⟩
 |false=>
  refine wy ?_
  repeat' ((refine bI (λq=>?_) λq=>?_)<;>(have q':=q)<;>(simp -failIfUnchanged only[nq] at q')<;>(refine JO @f2 @f5 @f6 @fz @fE @xK @w1 @q ?_))
  all_goals first
   |exact mo ⟨2,aU,0,0,[]⟩ λ_=>⟨aU+1,rfl,aCs,aCs,TK _ aCu aCu⟩
   |exact mo ⟨3,aU,0,0,[]⟩ λ_=>⟨aU+1,rfl,aCs,aCs,TK _ aCu aCu⟩
   |exact mo ⟨4,aU,0,0,[]⟩ λ_=>⟨aU+1,rfl,aCs,aCs,TK _ aCu aCu⟩
   |exact mo ⟨5,aU,0, -1,[]⟩ λ_=>⟨aU+1,rfl,aCs,aCs,TI _ _ ⟨aCu,aCu,ax rfl⟩⟩
   |exact mo ⟨5,aU,1, -1,[]⟩ λ_=>⟨aU+1,rfl,aCs,aCs,TI _ _ ⟨aCu,aCu,ax rfl⟩⟩
   |exact mo ⟨5,aU,0,1,[]⟩ λ_=>⟨aU+1,rfl,aCs,aCs,TI _ _ ⟨aCu,aCu,az ⟨aCu,aCu,aCu⟩⟩⟩
   |exact mo zb λz=>absurd z aCu
   |(refine dh (al8 s hs aU ha) ?_
     rintro r ⟨x,p,e,rfl,I⟩;exact ki @ck.aF.eq_1 @xK (mo x I))
def WI(n:Nat)(r:U):Prop:=∃(v:U) (l:List ck) (p e:Int),r=.aK [v,.v (.int .i64 p),.v (.int .i64 e)]/\bH v (l.map kJ)/\l.length<=n/\∀x∈l,x.s7
def aaa(x:ck):aW J x.aF x.aF:=iC (aA (aB _) (aA (aB _) (aA (aB _) (aA (aB _) (aA (aB _) bT)))))
@[go_sem]def Nl(l:List ck):bS 5 (l.map kJ)=true:=by
 rw[bS,c7];intro x I;obtain⟨t,ht,rfl⟩:=cI.1 I;rfl
def at1(s:List UInt8)(hs:s.length<=1000000000):cC G ay 82 [ai s] (WI s.length):=by
 refine cU (arJ.go ?_);have bad:∀(J:List aa) (p e:Int),∃k aM,b7 J k (.aK [.af,.v (.int .i64 p),.v (.int .i64 e)])=some aM/\WI s.length aM:=λJ p e=>by
  obtain⟨k,S⟩:=(dQ (aA cX (aA (aB (.int .i64 p)) (aA (aB (.int .i64 e)) bT))):aW J _ _).done;exact⟨k,_,S,.af,[],p,e,rfl,az ⟨rfl,rfl⟩,aCt,aCt⟩
 refine wy ?_;refine nh (n:=s.length) (λm e h=>∃(i:Nat) (l:List ck) (ak:U),m=s.length-i/\i<=s.length/\l.length<=i/\(∀x∈l,x.s7)/\e=[(0,ai s),(5,ak),(6,ag i)]/\bU h ak (l.map kJ) 5 180) ⟨0,[],.af,rfl,aCs,aCt,aCt,rfl,p4 _ _ _⟩ ?_;rintro m e h ⟨i,l,ak,rfl,Q,hl,I,rfl,hA⟩;have ln:=BO hA;refine wy ?_
 rcases cH i s.length with hl1|hl1
 · refine wx (bI (λq=>?_) λq=>?_)
   refine wy ?_;exact⟨s.length-(i+1),aCs,i+1,l,ak,rfl,aCs,aCs,I,rfl,hA⟩;refine wy ?_;have ext:∀b:aa,bU (h++[b]) ak (l.map kJ) 5 180:=λb=>by
    rcases hA with z|⟨id,aT,z2⟩
    exact ax z;exact az ⟨id,aT,aJ z2⟩
   refine b5 (λah=>?_) λah=>?_;refine dh (ak1 _) ?_;rintro r ⟨b,rfl⟩;cases b
   rotate_left
   exact e3 (bad _ _ _)
   all_goals
    refine wy ?_;refine dh (avJ s hs i hl1) ?_;rintro r ⟨x,p,e,rfl,aqp⟩;have s1:=vz h x;unfold fS at s1;have g1:aq (h++[aj x.cells false]) true 5 (.mp h.length 0)=some (.agg x.cells):=sF aCt;refine fG @ck.aF.eq_1 (bI (λaP=>?_) λaP=>?_);exact dc @aP (bad _ _ _);obtain⟨p',rfl,Y,V,h3⟩:=aqp (by simpa using aP);obtain⟨bf,g,e1,dS,_⟩:=kQ (x:=x.aF) (aZ:=48) (ext (.cells x.cells false)) (Nl l) rfl aCu aCu aCv;have ab:dy 5 [.agg x.cells]=some (.sl [x.aF] .exact):=rfl;refine wy ?_;refine⟨s.length-p',aCs,p',l++[x],bf,rfl,aCs,aCv,?_,rfl,aDb⟩;intro y hy
    rcases dN.1 hy with z|z
    exact I y z;rw[cw.1 z];exact h3
 refine wy ?_
 rcases hA with⟨rfl,z⟩|⟨id,rfl,_⟩
 exact bad _ _ _;obtain⟨k,S⟩:=(dQ (aA (e5 (t:=.tok id) (fY (f:=kJ) (l:=l) λa _=>aaa a)) (aA (aB (.int .i64 0)) (aA (aB (.int .i64 0)) bT))):aW h _ _).done;exact⟨k,_,S,_,l,0,0,rfl,ax rfl,aCs,I⟩
end
end
section
variable{l:List ck}{i:Nat}{k:Int}
def kd(l:List ck)(i:Nat):Int:=((l[i]?).map ck.kind).getD 0
def AF{x:ck}(h:l[i]?=some x):kd l i=x.kind:=by unfold kd;rw[h];rfl
def uh(k:Int):Int:=if k=2 then 1 else if k=3 then -1 else 0
def dep(l:List ck)(a:Nat):Nat->Int
 |0=>0
 |n+1=>dep l a n+uh (kd l (a+n))
def tr(l:List ck)(a n:Nat):dep l a (n+1)=dep l a n+uh (kd l (a+n)):=rfl
def GW(l:List ck)(a m:Nat):∀n,dep l a (m+n)=dep l a m+dep l (a+m) n
 |0=>by simp[dep]
 |n+1=>by rw[<-kK,tr,tr,GW l a m n,kK a m n];omega
def ahV(k:Int): -1<=uh k/\uh k<=1:=by unfold uh;split<;>(try split)<;>omega
def step2(h:k=2):uh k=1:=by unfold uh;rw[if_pos h]
def N_(h:k=3):uh k= -1:=by unfold uh;rw[if_neg aCs,if_pos h]
def step0(h:k≠2)(h3:k≠3):uh k=0:=by unfold uh;rw[if_neg h,if_neg h3]
def Qq(l:List ck)(a:Nat):∀n:Nat, -(n:Int)<=dep l a n/\dep l a n<=(n:Int)
 |0=>by simp[dep]
 |n+1=>by
  have h:=Qq l a n;have V:=ahV (kd l (a+n));rw[tr];omega
structure rX(l:List ck):Prop where
 first:0<l.length->kd l 0=1\/kd l 0=2
 Ni:∀i,i<l.length->(kd l i=2\/kd l i=4)->i+1<l.length/\(kd l (i+1)=1\/kd l (i+1)=2)
 cnt:∀i,i<l.length->kd l i=5->0<i/\(kd l (i-1)=1\/kd l (i-1)=3)
 low:∀n,n<=l.length->0<=dep l 0 n
 shut:dep l 0 l.length=0
structure kA(l:List ck)(a b:Nat):Prop where
 lt:a<b
 le:b<=l.length
 hd:kd l a=1\/kd l a=2
 amy:kd l (b-1)≠2
 G4:kd l (b-1)≠4
 low:∀n,a+n<=b->0<=dep l a n
 shut:dep l a (b-a)=0
def am4(p:Nat->Prop):∀N:Nat,p N->∃n,n<=N/\p n/\∀t,t<n->¬p t:=by
 intro N
 induction N using Nat.strongRecOn with
 |_ N ih=>
  intro h;by_cases I:∃t,t<N/\p t;obtain⟨t,Y,V⟩:=I;obtain⟨n,g1,g2,g3⟩:=ih t Y V;exact⟨n,aCs,g2,g3⟩;exact⟨N,bg _,h,λt ht J=>I ⟨t,ht,J⟩⟩
def rX.all(h:rX l)(S:∀i,i<l.length->1<=kd l i/\kd l i<=5)(h0:0<l.length):kA l 0 l.length:=by
 have hl:=h.Ni (l.length-1) aCs;refine⟨h0,bg _,h.first h0,λe=>?_,λe=>?_,λn hn=>h.low n aCs,by rw[DH];exact h.shut⟩;have:=(hl (ax e)).1;omega;have:=(hl (az e)).1;omega
def ia(l:List ck)(a i:Nat):Prop:=dep l a (i-a)=0
def v_(l:List ck)(a b:Nat):Prop:=∀t,a<=t->t<b->ia l a t->kd l t≠4
def zz(l:List ck)(a b:Nat):Prop:=∀t,a<t->t<b->ia l a t->kd l t≠1/\kd l t≠2
section
variable{l:List ck}{a b:Nat}
def ia.succ(h:ia l a i)(ha:a<=i)(V:kd l i≠2)(h3:kd l i≠3):ia l a (i+1):=by
 unfold ia at*;rw[show i+1-a=(i-a)+1 by omega,tr,h,show a+(i-a)=i by omega,step0 V h3];rfl
def kA.AQ(h:kA l a b)(ha:a<=i)(O:i<b)(ht:ia l a i):kd l i≠3:=by
 intro e;have:=h.low (i-a+1) aCs;unfold ia at ht;rw[tr,ht,show a+(i-a)=i by omega,N_ e] at this;omega
def kA.skip(h:kA l a b){n:Nat}(ha:a<=i)(O:i<b)(ht:ia l a i)(V:kd l i=2)(hz:i+n<l.length->dep l i (n+1)=0)(hn:∀t,t<n->dep l i (t+1)≠0):
  i+n<b/\ia l a (i+n+1)/\∀t,i<t->t<=i+n->¬ia l a t:=by
 have e1:dep l i (b-i)=0:=by
  have:=GW l a (i-a) (b-i);rw[show i-a+(b-i)=b-a by omega,h.shut,show a+(i-a)=i by omega] at this;unfold ia at ht;omega
 have hlt:i+n<b:=by
  rcases cH (i+n) b with z|z
  exact z;exact absurd (by rw[show b-i-1+1=b-i by omega];exact e1) (hn (b-i-1) aCs)
 have hd:=λt=>GW l a (i-a) t;have hle:=h.le;refine⟨hlt,?_,λt Y h3 hq=>?_⟩;unfold ia at*;rw[show i+n+1-a=i-a+(n+1) by omega,hd,ht,show a+(i-a)=i by omega,hz aCs];rfl;unfold ia at*;rw[show t-a=i-a+(t-i-1+1) by omega,hd,ht,show a+(i-a)=i by omega] at hq;exact hn (t-i-1) aCs aCs
def kA.piece(h:kA l a b){c:Nat}(hac:a<=c)(RL:c<i)(hib:i<=b)(T:ia l a c)(Q:ia l a i)(S:kd l c=1\/kd l c=2)(V:kd l (i-1)≠2)(h4:kd l (i-1)≠4):kA l c i:=by
 have e:∀n,dep l c n=dep l a (c-a+n):=λn=>by
  have:=GW l a (c-a) n;rw[show a+(c-a)=c by omega] at this;unfold ia at T;omega
 have hle:=h.le;refine⟨RL,aCs,S,V,h4,λn hn=>?_,?_⟩;rw[e];exact h.low _ aCs;rw[e,show c-a+(i-c)=i-a by omega];exact Q
def rX.prev(w:rX l)(Q:0<i)(hl:i<l.length)(Y:kd l i≠1)(V:kd l i≠2):kd l (i-1)≠2/\kd l (i-1)≠4:=by
 have:=w.Ni (i-1) aCs;rw[show i-1+1=i by omega] at this;exact⟨λe=>by have:=this (ax e);omega,λe=>by have:=this (az e);omega⟩
def kA.azD(h:kA l a b)(w:rX l)(h5:kd l (b-1)=5):kA l a (b-1):=by
 have hlt:=h.lt;have hle:=h.le;have hd:=h.hd;have hab:a≠b-1:=by intro e;rw[<-e] at h5;omega
 obtain⟨p1,p2⟩:=w.prev (i:=b-1) aCs aCs aCs aCs;refine⟨aCs,aCs,h.hd,p1,p2,λn hn=>h.low n aCs,?_⟩;have:=h.shut;rw[show b-a=b-1-a+1 by omega,tr,show a+(b-1-a)=b-1 by omega,step0 aCs aCs] at this;omega
def kA.inner(h:kA l a b)(w:rX l)(S:∀i,i<l.length->1<=kd l i/\kd l i<=5)(nb:v_ l a b)(ns:zz l a b)(V:kd l a=2)(h5:kd l (b-1)≠5):kA l (a+1) (b-1):=by
 have hlt:=h.lt;have hle:=h.le;obtain⟨n,n1,n2,mB⟩:=am4 (λn=>dep l a (n+1)=0) (b-a-1) (by show dep l a (b-a-1+1)=0;rw[show b-a-1+1=b-a by omega];exact h.shut);have n0:n≠0:=by
  intro e;subst e;have:dep l a 1=1:=by rw[tr,nP,step2 V];rfl
  have q:dep l a 1=0:=n2;omega
 have hend:a+n=b-1:=by
  rcases cH (a+n) (b-1) with z|z
  have akx:∀k,a+n+1+k<b->ia l a (a+n+1+k)/\kd l (a+n+1+k)=5:=by
   intro k
   induction k with
   |zero=>
    intro eY;have ht:ia l a (a+n+1+0):=by
     unfold ia;rw[show a+n+1+0-a=n+1 by omega];exact n2
    have:=h.AQ aCs eY ht;have:=nb _ aCs eY ht;have:=ns _ aCs eY ht;have:=S (a+n+1+0) aCs;exact⟨ht,aCs⟩
   |succ k ih=>
    intro eY;obtain⟨t1,t2⟩:=ih aCs;have ht:ia l a (a+n+1+(k+1)):=t1.succ aCs aCs aCs;have:=h.AQ aCs eY ht;have:=nb _ aCs eY ht;have:=ns _ aCs eY ht;have:=S (a+n+1+(k+1)) aCs;exact⟨ht,aCs⟩
  have:=(akx (b-1-(a+n+1)) aCs).2;rw[show a+n+1+(b-1-(a+n+1))=b-1 by omega] at this;exact absurd this h5;omega
 have pos:∀t,t<n->1<=dep l a (t+1):=λt ht=>by
  have:=mB t ht;have:=h.low (t+1) aCs;omega
 have mW:dep l a n=1/\kd l (b-1)=3:=by
  have e:=n2;rw[tr,hend] at e;have p:=pos (n-1) aCs;rw[show n-1+1=n by omega] at p;have s:=ahV (kd l (b-1));refine⟨aCs,?_⟩;by_cases q:kd l (b-1)=2;rw[step2 q] at e;omega;by_cases aP:kd l (b-1)=3;exact aP;rw[step0 q aP] at e;omega
 have e:∀n,dep l (a+1) n=dep l a (n+1)-1:=λn=>by
  have:=GW l a 1 n;have q:dep l a 1=1:=by rw[tr,nP,step2 V];rfl
  rw[Nat.add_comm 1 n] at this;omega
 have dO:=(w.Ni a aCs (ax V)).2;have hne:a+1≠b-1:=by intro e;rw[e,mW.2] at dO;omega
 obtain⟨p1,p2⟩:=w.prev (i:=b-1) aCs aCs (by rw[mW.2];decide) (by rw[mW.2];decide);refine⟨aCs,aCs,dO,p1,p2,λt ht=>?_,?_⟩;rw[e];have:=pos t aCs;omega;rw[e,show b-1-(a+1)+1=n by omega,mW.1];rfl
end
structure O5(l:List ck)(a b e:Nat)(Z:List Nat):Prop where
 iH:∀x∈Z,a<=x/\x<=b
 two:2<=Z.length
 seg:∀k x y,Z[k]?=some x->Z[k+1]?=some y->k+2<Z.length->kA l x (y-e)/\e<=y/\y-e-x<b-a
 fin:∀k x y,Z[k]?=some x->Z[k+1]?=some y->k+2=Z.length->kA l x y/\(2<Z.length->y-x<b-a)
structure oY(l:List ck)(a b e i:Nat)(Z:List Nat)(c:Nat):Prop where
 iH:∀x∈Z,a<=x/\x<=b
 last:Z[Z.length-1]?=some c
 ne:0<Z.length
 ac:a<=c
 ci:c<=i
 cb:c<b
 cn:Z.length<=i+1
 S:kd l c=1\/kd l c=2
 Bd:ia l a c
 ti:ia l a i
 fst:1<Z.length->a<c
 seg:∀k x y,Z[k]?=some x->Z[k+1]?=some y->kA l x (y-e)/\e<=y/\y-e-x<b-a
section
variable{l:List ck}{a b e i c:Nat}{Z:List Nat}
def oY.push(h:oY l a b e i Z c){y:Nat}(D:kA l c (y-e))(he:e<=y)(hs:y-e-c<b-a)(hy:a<y)(aBQ:y<=i+1)(Mt:y<b)(S:kd l y=1\/kd l y=2)(ty:ia l a y)(j:Nat)(hj:i+1<=j)(Jw:ia l a j):oY l a b e j (Z++[y]) y:=by
 have hl:=h.ne;have w6:=h.cn;have hlt:=D.lt;refine⟨λx I=>by
  rcases dN.1 I with z|z
  exact h.iH x z;rw[cw.1 z];omega,aCt,aCt,aCs,aCs,Mt,aCv,S,ty,Jw,λ_=>hy,?_⟩
 intro k x z Y V;rw[Wc] at Y V;split at V;rename_i q;rw[if_pos aCs] at Y;exact h.seg k x z Y V;rename_i q;have hk2:k+1=Z.length:=by
  rcases cH (k+1-Z.length) 1 with w|w
  omega;rw[h_ aCv] at V;cases V
 rw[hk2,kL] at V;rw[if_pos aCs,show k=Z.length-1 by omega,h.last] at Y;cases Y;have:y=z:=aCK
 subst this;exact⟨D,he,hs⟩
def oY.skip(h:oY l a b e i Z c){j:Nat}(hj:i<=j)(Jw:ia l a j):oY l a b e j Z c:=by
 have:=h.ci;have:=h.cn;exact⟨h.iH,h.last,h.ne,h.ac,aCs,h.cb,aCs,h.S,h.Bd,Jw,h.fst,h.seg⟩
def oY.done(h:oY l a b e b Z c)(R:kA l a b):O5 l a b e (Z++[b]):=by
 have hl:=h.ne;have hcb:=h.cb;have hac:=h.ac;have D:kA l c b:=R.piece h.ac h.cb (bg _) h.Bd R.shut h.S R.amy R.G4;refine⟨λx I=>by
  rcases dN.1 I with z|z
  exact h.iH x z;rw[cw.1 z];omega,aCv,?_,?_⟩
 intro k x z Y V h3;rw[cG,nM] at h3;rw[Wc,if_pos aCs] at Y V;exact h.seg k x z Y V;intro k x z Y V h3;rw[cG,nM] at h3;rw[Wc,if_pos aCs] at Y;rw[Wc,if_neg aCs] at V;rw[show k=Z.length-1 by omega,h.last] at Y;cases Y;rw[show k+1-Z.length=0 by omega] at V;have:b=z:=aCK
 subst this;refine⟨D,λq=>?_⟩;have:=h.fst aCB;omega
def oY.start(R:kA l a b):oY l a b e a [a] a:=by
 have t0:ia l a a:=by unfold ia;rw[kL];rfl
 have:=R.lt;refine⟨λx I=>by rw[cw.1 I];omega,rfl,aCt,bg _,bg _,R.lt,aCt,R.hd,t0,t0,λq=>by simp at q,?_⟩;intro k x y Y V;rw[h_ aCt] at V;cases V
end
end
section
variable{l:List ck}{J:List aa}{a b:Nat}
def BD(l:List ck)(i:Nat):Prop:=i=0\/kd l (i-1)=2\/kd l (i-1)=4
def Gb(l:List ck)(i:Nat):Prop:=i=0\/(kd l (i-1)≠1/\kd l (i-1)≠3)
structure Ke(l:List ck)(i:Nat):Prop where
 low:∀n,n<=i->0<=dep l 0 n
 fr:∀j,j<i->BD l j->kd l j=1\/kd l j=2
 fl:∀j,j<i->kd l j=5->¬Gb l j
def Ke.Bg(h:Ke l l.length)(Y:0<l.length->¬BD l l.length)(V:dep l 0 l.length<=0):rX l:=by
 refine⟨λh0=>h.fr 0 h0 (ax rfl),λi Q S=>?_,λi Q S=>?_,h.low,?_⟩;have f:BD l (i+1):=by
  unfold BD;rw[OW];exact az S
 rcases cH (i+1) l.length with z|z
 exact⟨z,h.fr _ z f⟩;rw[show i+1=l.length by omega] at f;exact absurd f (Y aCs);have:=h.fl i Q S;unfold Gb at this;refine⟨?_,?_⟩
 rcases zn i with z|z
 exact absurd (ax z) this;exact z;by_cases q1:kd l (i-1)=1;exact ax q1;by_cases aP:kd l (i-1)=3;exact az aP;exact absurd (az ⟨q1,aP⟩) this;have:=h.low l.length (bg _);omega
def Wv(l:List ck)(r:U):Prop:=∃(p:Int) (b:Bool),r=.aK [.v (.int .i64 p),.v (.bool b)]/\((p= -1/\(b=false->rX l))\/∃i:Nat,p=(i:Int)/\i<l.length)
def ZF{p:Int}{b:Bool}(h:(p= -1/\(b=false->rX l))\/∃i:Nat,p=(i:Int)/\i<l.length):∃k aM,b7 J k (.aK [.v (.int .i64 p),.v (.bool b)])=some aM/\Wv l aM:=by
 obtain⟨k,S⟩:=(dQ (aA (aB (.int .i64 p)) (aA (aB (.bool b)) bT)):aW J _ _).done;exact⟨k,_,S,p,b,rfl,h⟩
@[go_sem]def oH(x:ck)(J:List aa):aq J false 1 (.fp x.cells 0)=some (.v (.int .i64 x.kind)):=rfl
def W1(l:List ck)(i:Nat)(r:U):Prop:=∃n:Nat,r=.v (.int .i64 ((i+n:Nat):Int))/\i+n<=l.length/\(i+n<l.length->dep l i (n+1)=0)/\∀t,t<n->dep l i (t+1)≠0
def Lz{i n:Nat}(h:i+n<=l.length/\(i+n<l.length->dep l i (n+1)=0)/\∀t,t<n->dep l i (t+1)≠0):∃k aM,b7 J k (.v (.int .i64 ((i+n:Nat):Int)))=some aM/\W1 l i aM:=by
 obtain⟨k,S⟩:=(aB (.int .i64 ((i+n:Nat):Int)):aW J _ _).done;exact⟨k,_,S,n,rfl,h⟩
def lV(Z:List Nat):List U:=Z.map λc:Nat=>bO (.int .i64 (c:Int))
@[go_sem]def I2(Z:List Nat):bS 1 (lV Z)=true:=by
 rw[bS,c7];intro x I;obtain⟨t,ht,rfl⟩:=cI.1 I;rfl
def Kg(l:List ck)(a b e:Nat)(X:Prop)(r:U):Prop:=∃Z:List Nat,r=.sl (lV Z) .no/\O5 l a b e Z/\Z.length<=l.length+2/\(Z.length=2->X)
def af8{v:U}{e:Nat}{X:Prop}{Z:List Nat}(h:ku 0 J v (lV Z) 1 3)(Y:O5 l a b e Z)(V:Z.length<=l.length+2)(h3:Z.length=2->X):∃k aM,b7 J k v=some aM/\Kg l a b e X aM:=by
 rcases h with rfl|⟨id,rfl,_⟩
 obtain⟨n,hn⟩:=(e5 (t:=.exact) (fY (f:=λc:Nat=>bO (.int .i64 (c:Int))) (l:=Z) λa _=>aB _):aW J _ _).done;exact⟨n,_,hn,Z,rfl,Y,V,h3⟩;obtain⟨n,hn⟩:=(e5 (t:=.tok id) (fY (f:=λc:Nat=>bO (.int .i64 (c:Int))) (l:=Z) λa _=>aB _):aW J _ _).done;exact⟨n,_,hn,Z,rfl,Y,V,h3⟩
section
variable{G:Cells}{v:U}{l:List ck}
def alx(hv:bH v (l.map kJ))(hl:l.length<=1000000000):cC G ay 83 [v] (Wv l):=by
 refine cU (arK.go ?_);have ln:=hv.bL;rw[bX] at ln;have jN:∀J,bL v J=some (.v (.int .i64 (l.length:Int)),J):=λJ=>aDf
 refine dP ?_;refine b9 (λi e h=>∃(d:Int) (f g:Bool),e=[(0,v),(4,.v (.int .i64 d)),(5,.v (.bool f)),(6,.v (.bool g)),(7,ag i)]/\d=dep l 0 i/\(f=true↔BD l i)/\(g=true↔Gb l i)/\Ke l i/\h=[]) l.length ⟨0,true,true,rfl,rfl,⟨λ_=>ax rfl,λ_=>rfl⟩,⟨λ_=>ax rfl,λ_=>rfl⟩,⟨λn hn=>by rw[show n=0 by omega];exact zk _,λj hj=>aCs,λj hj=>aCs⟩,rfl⟩ ?_ ?_
 · rintro i e h Q ⟨d,f,g,rfl,hd,hf,hg,hC,rfl⟩
   obtain⟨x,I⟩:=cF Q;have e1:bw 5 v (.v (.int .i64 (i:Int)))=some (.fp x.cells 0):=hv.bC (x:=x.aF) aCG rfl;have S:=AF I;have hab:=Qq l 0 i;rw[<-hd] at hab;have hd0:0<=d:=by rw[hd];exact hC.low i (bg _)
   have bQ:=tr l 0 i;rw[e6,S,<-hd] at bQ;have d2:x.kind=2->bP.wrap (d+1)=dep l 0 (i+1):=λq=>by rw[bQ,step2 q,wrap_i64 aCs aCs]
   have d3:x.kind=3->bP.wrap (d-1)=dep l 0 (i+1):=λq=>by rw[bQ,N_ q,wrap_i64 aCs aCs];rfl
   have d0:x.kind≠2->x.kind≠3->d=dep l 0 (i+1):=λq aP=>by rw[bQ,step0 q aP];omega
   have hfr:BD l (i+1)↔x.kind=2\/x.kind=4:=by unfold BD;rw[OW,S];simp
   have hfl:Gb l (i+1)↔x.kind≠1/\x.kind≠3:=by unfold Gb;rw[OW,S];simp
   have step:(x.kind=3->d≠0)->(f=true->x.kind=1\/x.kind=2)->(x.kind=5->g=false)->Ke l (i+1):=λY V h3=>by
    refine⟨λn hn=>?_,λj hj q=>?_,λj hj q=>?_⟩
    rcases cH n (i+1) with z|z
    exact hC.low n aCs;rw[show n=i+1 by omega,bQ];by_cases ah:x.kind=2;rw[step2 ah];omega;by_cases aP:x.kind=3;have:=Y aP;rw[N_ aP];omega;rw[step0 ah aP];omega
    rcases cH j i with z|z
    exact hC.fr j z q;obtain rfl:j=i:=aCs
    rw[S];exact V (hf.2 q)
    rcases cH j i with z|z
    exact hC.fl j z q;obtain rfl:j=i:=aCs
    rw[S] at q;intro ah;have:=hg.2 ah;rw[h3 q] at this;cases this
   cases f<;>cases g
   all_goals
    refine nL @ag.eq_1 @jN @e1 @wo @oH ?_
    repeat' ((refine bI (λq=>?_) λq=>?_)<;>(have q':=q)<;>(simp -failIfUnchanged only[nq] at q')<;>(refine dr @q ?_))
   all_goals first
    |(exfalso;omega)
    |exact ZF (az ⟨i,rfl,Q⟩)
    |exact⟨_,_,_,rfl,d2 aCs,aE5,aE6,step (λ_=>aCs) (λq=>aEq) (λ_=>aEA),trivial⟩
    |exact⟨_,_,_,rfl,d3 aCs,aE5,aE6,step (λ_=>aCs) (λq=>aEq) (λ_=>aEA),trivial⟩
    |exact⟨_,_,_,rfl,d0 aCs aCs,aE5,aE6,step (λ_=>aCs) (λq=>aEq) (λ_=>aEA),trivial⟩
 · rintro e h ⟨d,f,g,rfl,hd,hf,hg,hC,rfl⟩
   refine wy ?_;cases f
   all_goals repeat' refine ba (λq'=>?_) λq'=>?_
   all_goals
    exact ZF (ax ⟨rfl,λe=>by
     first
      |(cases e;done)
      |exact hC.Bg (λq=>aCs) (by rw[show l.length=0 by omega];exact zk _)
      |exact hC.Bg (λq z=>by cases(hf.2 z)) (by rw[<-hd];simp at e;omega)⟩)
def ahp(hv:bH v (l.map kJ))(hl:l.length<=1000000000)(i0:Nat)(RZ:i0<=l.length):cC G ay 211 [v,.v (.int .i64 (i0:Int))] (W1 l i0):=by
 refine cU (asx.go ?_);have ln:=hv.bL;rw[bX] at ln;have jN:∀J,bL v J=some (.v (.int .i64 (l.length:Int)),J):=λJ=>aDf
 refine wy ?_;refine b9 (λn e h=>∃d:Int,e=[(0,v),(5,.v (.int .i64 d)),(6,.v (.int .i64 ((i0+n:Nat):Int)))]/\d=dep l i0 n/\(∀t,t<n->dep l i0 (t+1)≠0)/\h=[]) (l.length-i0) ⟨0,rfl,rfl,λt ht=>aCs,rfl⟩ ?_ ?_;rintro n e h hn ⟨d,rfl,hd,hI,rfl⟩;obtain⟨x,I⟩:∃x,l[i0+n]?=some x:=⟨l[i0+n],br aCs⟩;have e1:bw 5 v (.v (.int .i64 ((i0+n:Nat):Int)))=some (.fp x.cells 0):=hv.bC (x:=x.aF) aCG rfl;have S:=AF I;have hab:=Qq l i0 n;rw[<-hd] at hab;have bQ:=tr l i0 n;rw[S,<-hd] at bQ;have d2:x.kind=2->bP.wrap (d+1)=dep l i0 (n+1):=λq=>by rw[bQ,step2 q,wrap_i64 aCs aCs]
 have d3:x.kind=3->bP.wrap (d-1)=dep l i0 (n+1):=λq=>by rw[bQ,N_ q,wrap_i64 aCs aCs];rfl
 have d0:x.kind≠2->x.kind≠3->d=dep l i0 (n+1):=λq aP=>by rw[bQ,step0 q aP];omega
 have dO:bP.wrap (((i0+n:Nat):Int)+1)=((i0+(n+1):Nat):Int):=by rw[jd aCs];rfl
 have cont:dep l i0 (n+1)≠0->∀t,t<n+1->dep l i0 (t+1)≠0:=λq t ht=>by
  rcases cH t n with z|z
  exact hI t z;rw[show t=n by omega];exact q
 have CQ:decide (((i0+n:Nat):Int)<(l.length:Int))=true:=aCv
 by_cases ah:x.kind=2;have:=d2 ah;refine uo @jN @CQ @e1 @oH @ah @this ?_;refine b5 (λq=>?_) λq=>?_;exact Lz ⟨aCs,λ_=>aCy,hI⟩;refine dc @dO ?_;exact⟨_,rfl,rfl,cont aCy,trivial⟩;have n2:(x.kind==2)=false:=aCU
 by_cases aP:x.kind=3;have:=d3 aP;refine uo @jN @CQ @e1 @oH @aP @this ?_;refine b5 (λq=>?_) λq=>?_;exact Lz ⟨aCs,λ_=>aCy,hI⟩;refine dc @dO ?_;exact⟨_,rfl,rfl,cont aCy,trivial⟩;have mB:(x.kind==3)=false:=by simpa using aP
 have:=d0 ah aP;refine uo @jN @CQ @e1 @oH @n2 @mB ?_;refine b5 (λq=>?_) λq=>?_;exact Lz ⟨aCs,λ_=>by rw[<-this];simpa using q,hI⟩;refine dc @dO ?_;exact⟨_,rfl,this,cont (by rw[<-this];simpa using q),trivial⟩;rintro e h ⟨d,rfl,hd,hI,rfl⟩;refine wy ?_;have:=Lz (J:=[]) (l:=l) (i:=i0) (n:=l.length-i0) ⟨aCs,λq=>aCs,hI⟩;rw[show i0+(l.length-i0)=l.length by omega] at this;exact this
def ak0(hv:bH v (l.map kJ))(T:dm v)(hl:l.length<=1000000000)(w:rX l)(R:kA l a b):cC G ay 146 [v,.v (.int .i64 (a:Int)),.v (.int .i64 (b:Int)),.v (.int .i64 3)] (Kg l a b 1 (v_ l a b)):=by
 refine cU (ac9.go ?_);have hle:=R.le;have hlt:=R.lt;refine oS ?_;refine nh (n:=b-a) (λm e h=>∃(i c:Nat) (Z:List Nat) (ak:U),m=b-i/\i<=b/\e=[(0,v),(1,.v (.int .i64 (a:Int))),(2,.v (.int .i64 (b:Int))),(3,.v (.int .i64 3)),(9,ak),(10,.v (.int .i64 (i:Int)))]/\oY l a b 1 i Z c/\(Z.length=1->v_ l a i)/\ku 0 h ak (lV Z) 1 3) ⟨a,a,[a],_,rfl,aCs,rfl,oY.start R,λ_ t Y V=>aCs,ax rfl⟩ ?_;rintro m e h ⟨i,c,Z,ak,rfl,hib,rfl,hI,hN,hA⟩
 rcases cH i b with Q|Q
 obtain⟨x,I⟩:∃x,l[i]?=some x:=⟨l[i],br aCs⟩;have e1:bw 5 v (.v (.int .i64 (i:Int)))=some (.fp x.cells 0):=hv.bC (x:=x.aF) aCG rfl;have S:=AF I;have hac:=hI.ac;have RL:=hI.ci;have w6:=hI.cn;have AQ:=R.AQ aCs Q hI.ti;have ext:∀j,i<=j->(∀t,i<=t->t<j->ia l a t->kd l t≠4)->Z.length=1->v_ l a j:=λj hj Y V t t1 t2 t3=>by
  rcases cH t i with z|z
  exact hN V t t1 z t3;exact Y t z t2 t3
 by_cases ec:x.kind=4;have eC:kd l i=4:=by rw[S,ec]
 have aBp:c≠i:=by intro e;have:=hI.S;rw[e,eC] at this;omega
 obtain⟨p1,p2⟩:=w.prev (i:=i) aCs aCs aCs aCs;have pc:=R.piece hac aCs (by omega:i<=b) hI.Bd hI.ti hI.S p1 p2;obtain⟨_,dO⟩:=w.Ni i aCs (az eC);have api:i+1<b:=by
  rcases cH (i+1) b with z|z
  exact z;have:=R.G4;rw[show b-1=i by omega] at this;exact absurd eC this
 have ty:=hI.ti.succ aCs aCs aCs;have P:=hI.push (y:=i+1) (by rw[OW];exact pc) aCs aCs aCs aCs api dO ty (i+1) (bg _) ty;obtain⟨bf,g,e2,dS,_⟩:=C3 (x:=.v (.int .i64 ((i+1:Nat):Int))) (aZ:=8) hA (iE _) (I2 Z) rfl aCu aCu aE9;refine y8 @e1 @wo @oH @ec @wm @e2 ?_;exact⟨b-(i+1),aCs,i+1,i+1,Z++[i+1],bf,rfl,aCs,rfl,P,λz=>aDI,aDa⟩;have fX:(x.kind==4)=false:=aDQ
 by_cases ah:x.kind=2;have k2:kd l i=2:=by rw[S,ah]
 refine p0 @oH ?_;refine dh (ahp hv hl i aCs) ?_;rintro r ⟨n,rfl,Y,V,h3⟩;obtain⟨s1,s2,cW⟩:=R.skip aCs Q hI.ti k2 V h3;refine wy ?_;refine⟨b-(i+n+1),aCs,i+n+1,c,Z,ak,rfl,aCs,rfl,hI.skip aCs s2,ext _ aCs λt t1 t2 t3=>?_,hA⟩
 rcases cH i t with z|z
 exact absurd t3 (cW t z aCs);rw[show t=i by omega,k2];decide;have n2:(x.kind==2)=false:=aCU
 refine nL @e1 @wo @oH @fX @n2 ?_;refine⟨b-(i+1),aCs,i+1,c,Z,ak,rfl,aCs,rfl,hI.skip aCs (hI.ti.succ aCs (by rw[S];exact ah) AQ),ext _ aCs λt t1 t2 t3=>?_,hA⟩;rw[show t=i by omega,S];exact ec;obtain rfl:i=b:=aCs
 have w6:=hI.cn;obtain⟨bf,g,e2,dS,_⟩:=C3 (x:=.v (.int .i64 (i:Int))) (aZ:=8) hA (iE _) (I2 Z) rfl aCu aCu aE9;exact wy (af8 (Z:=Z++[i]) aDa (hI.done R) aCv λz=>hN aCT)
def axM(hv:bH v (l.map kJ))(T:dm v)(hl:l.length<=1000000000)(w:rX l)(R:kA l a b)(nb:v_ l a b):cC G ay 146 [v,.v (.int .i64 (a:Int)),.v (.int .i64 (b:Int)),.v (.int .i64 2)] (Kg l a b 0 (zz l a b)):=by
 refine cU (ac9.go ?_);have hle:=R.le;have hlt:=R.lt;refine wy ?_;refine nh (n:=b-a) (λm e h=>∃(i c:Nat) (Z:List Nat) (ak:U),m=b-i/\i<=b/\e=[(0,v),(1,.v (.int .i64 (a:Int))),(2,.v (.int .i64 (b:Int))),(3,.v (.int .i64 2)),(9,ak),(10,.v (.int .i64 (i:Int)))]/\oY l a b 0 i Z c/\(c<i\/i=a)/\(Z.length=1->zz l a i)/\ku 0 h ak (lV Z) 1 3) ⟨a,a,[a],_,rfl,aCs,rfl,oY.start R,az rfl,λ_ t Y V=>aCs,ax rfl⟩ ?_;rintro m e h ⟨i,c,Z,ak,rfl,hib,rfl,hI,hca,hN,hA⟩
 rcases cH i b with Q|Q
 obtain⟨x,I⟩:∃x,l[i]?=some x:=⟨l[i],br aCs⟩;have e1:bw 5 v (.v (.int .i64 (i:Int)))=some (.fp x.cells 0):=hv.bC (x:=x.aF) aCG rfl;have S:=AF I;have hac:=hI.ac;have RL:=hI.ci;have w6:=hI.cn;have AQ:=R.AQ aCs Q hI.ti;have ext:∀j,i<=j->(∀t,a<t->i<=t->t<j->ia l a t->kd l t≠1/\kd l t≠2)->Z.length=1->zz l a j:=λj hj Y V t t1 t2 t3=>by
  rcases cH t i with z|z
  exact hN V t t1 z t3;exact Y t t1 z t2 t3
 have cut:a<i->(kd l i=1\/kd l i=2)->∀j,i+1<=j->ia l a j->oY l a b 0 j (Z++[i]) i:=λY V j hj Jw=>by
  have pr:ia l a (i-1)->kd l (i-1)≠4:=λq=>nb _ aCs aCs q;have bW:dep l a (i-a)=dep l a (i-1-a)+uh (kd l (i-1)):=by
   rw[show i-a=i-1-a+1 by omega,tr,show a+(i-1-a)=i-1 by omega]
  have ti:=hI.ti;unfold ia at ti pr;have p2:kd l (i-1)≠2:=λq=>by
   rw[step2 q] at bW;have:=R.low (i-1-a) aCs;omega
  have gr:kd l (i-1)≠4:=λq=>by
   rw[step0 aCs aCs] at bW;exact pr aCs q
  exact hI.push (y:=i) (R.piece hac aCs hib hI.Bd hI.ti hI.S p2 gr) (iE _) aCs Y aCs Q V hI.ti j hj Jw
 have ahb:=ahp (G:=G) hv hl i aCs;obtain⟨bf,g,e2,dS,_⟩:=C3 (x:=.v (.int .i64 (i:Int))) (aZ:=8) hA (iE _) (I2 Z) rfl aCu aCu aE9;have oC:ku 0 g bf (lV (Z++[i])) 1 3:=aDa
 by_cases ah:x.kind=2;have k2:kd l i=2:=by rw[S,ah]
 rcases cH a i with hai|hai
 refine fG @oH ?_;refine dh ahb ?_;rintro r ⟨n,rfl,Y,V,h3⟩;obtain⟨s1,s2,cW⟩:=R.skip aCs Q hI.ti k2 V h3;refine wy ?_;exact⟨b-(i+n+1),aCs,i+n+1,i,Z++[i],bf,rfl,aCs,rfl,cut hai (az k2) _ aCs s2,ax aCs,λz=>aDI,oC⟩;refine y_ @oH ?_;refine dh ahb ?_;rintro r ⟨n,rfl,Y,V,h3⟩;obtain⟨s1,s2,cW⟩:=R.skip aCs Q hI.ti k2 V h3;refine oS ?_;refine⟨b-(i+n+1),aCs,i+n+1,c,Z,ak,rfl,aCs,rfl,hI.skip aCs s2,ax aCs,ext _ aCs λt t0 t1 t2 t3=>?_,hA⟩;exact absurd t3 (cW t aCs aCs);have n2:(x.kind==2)=false:=aCU
 have ts:=hI.ti.succ aCs (by rw[S];exact ah) AQ;by_cases q1:x.kind=1;have k1:kd l i=1:=by rw[S,q1]
 rcases cH a i with hai|hai
 have Ch:decide ((a:Int)<(i:Int))=true:=GY hai;refine mF @e1 @wo @oH @q1 @Ch @wm @e2 ?_;exact⟨b-(i+1),aCs,i+1,i,Z++[i],bf,rfl,aCs,rfl,cut hai (ax k1) _ aCs ts,ax aCs,λz=>aDI,oC⟩;have Ch:decide ((a:Int)<(i:Int))=false:=GX hai;refine nL @e1 @wo @oH @q1 @Ch ?_;exact⟨b-(i+1),aCs,i+1,c,Z,ak,rfl,aCs,rfl,hI.skip aCs ts,ax aCs,ext _ aCs λt t0 t1 t2 t3=>aCs,hA⟩;have n1:(x.kind==1)=false:=aDM
 have fin:∃m,m<b-i/\∃(i' c:Nat) (Z:List Nat) (gA:U),m=b-i'/\i'<=b/\[(0,v),(1,bO (.int .i64 (a:Int))),(2,bO (.int .i64 (b:Int))),(3,bO (.int .i64 2)),(9,ak),(10,bO (.int .i64 ((i+1:Nat):Int)))]=[(0,v),(1,bO (.int .i64 (a:Int))),(2,bO (.int .i64 (b:Int))),(3,bO (.int .i64 2)),(9,gA),(10,bO (.int .i64 (i':Int)))]/\oY l a b 0 i' Z c/\(c<i'\/i'=a)/\(Z.length=1->zz l a i')/\ku 0 h gA (lV Z) 1 3:=
  ⟨b-(i+1),aCs,i+1,c,Z,ak,rfl,aCs,rfl,hI.skip aCs ts,ax aCs,ext _ aCs λt t0 t1 t2 t3=>by rw[show t=i by omega,S];exact⟨q1,ah⟩,hA⟩
 rcases cH a i with hai|hai
 have Ch:decide ((a:Int)<(i:Int))=true:=GY hai;exact lD @e1 @oH @n1 @n2 @Ch fin;have Ch:decide ((a:Int)<(i:Int))=false:=GX hai;exact lD @e1 @oH @n1 @n2 @Ch fin;obtain rfl:i=b:=aCs
 have w6:=hI.cn;obtain⟨bf,g,e2,dS,_⟩:=C3 (x:=.v (.int .i64 (i:Int))) (aZ:=8) hA (iE _) (I2 Z) rfl aCu aCu aE9;exact wy (af8 (Z:=Z++[i]) aDa (hI.done R) aCv λz=>hN aCT)
end
end
section
variable{ps:List bK}{p:bK}{a b c d v x:U}{g J:List aa}{K:Nat}
def bK.s7(i:Nat)(p:bK):Prop:=((p.kind=1/\p.name.length<=12/\p.kids=[])\/((p.kind=2\/p.kind=3)/\2<=p.kids.length)\/(p.kind=4/\p.kids.length=1/\DK p.low p.high))/\∀x∈p.kids,0<=x/\x<(i:Int)
def uI(ps:List bK):Prop:=∀(i:Nat) p,ps[i]?=some p->p.s7 i
def uI.push(h:uI ps)(J:p.s7 ps.length):uI (ps++[p]):=by
 intro i q hq
 rcases Nat.lt_trichotomy i ps.length with c|c|c
 rw[ei c] at hq;exact h i q hq;subst c;simp at hq;rw[<-hq];exact J;rw[h_ aCv] at hq;cases hq
def awd(h:uI ps):uI (ps.map bK.bx):=by
 intro i p J;rw[eo] at J;cases hq:ps[i]? with
 |none=>rw[hq] at J;cases J
 |some q=>
  rw[hq] at J;cases J;exact h i q hq
def avw:aa->Prop
 |.tok _ _ e=>e≠183
 |_=>True
def vY(J hp':List aa):Prop:=J.length<=hp'.length/\∀(j:Nat) b,avw b->J[j]?=some b->hp'[j]?=some b
def vY.refl(J:List aa):vY J J:=⟨bg _,λ_ _ _ h=>h⟩
def vY.trans{a b c:List aa}(h:vY a b)(q:vY b c):vY a c:=⟨fy h.1 q.1,λj x hn e=>q.2 j x hn (h.2 j x hn e)⟩
def ahY{cc:List bK}:∀{i:Nat} {st:List Int},i<=ps.length->nJ ps i st->nJ (ps++cc) i st
 |0,_,_,h=>h
 |i+1,_,Q,⟨p,og,Y,V,h3⟩=>⟨p,og,by rw[ei aCs];exact Y,ahY aCs V,h3⟩
def U7{st:List Int}(h:nJ ps ps.length (st++p.kids)):nJ (ps++[p]) (ps++[p]).length (st++[(((ps++[p]).length-1:Nat):Int)]):=by
 rw[cG,nM,OW];exact⟨p,st,aCt,ahY (bg _) h,rfl⟩
def ahZ:∀{i:Nat} {st:List Int},nJ ps i st->nJ (ps.map bK.bx) i st
 |0,_,h=>h
 |i+1,_,⟨p,og,Y,V,h3⟩=>⟨p.bx,og,by rw[eo,Y];rfl,ahZ V,h3⟩
def Wr(ps:List bK)(m:Nat)(J:List aa)(r:U)(hp':List aa):Prop:=∃cc:List bK,cc≠[]/\cc.length+1<=2*m/\bU hp' r ((ps++cc).map oU) 5 183/\uI (ps++cc)/\vY J hp'/\∀st,nJ ps ps.length st->nJ (ps++cc) (ps++cc).length (st++[(((ps++cc).length-1:Nat):Int)])
def Ux(hA:bU J v (ps.map oU) 5 183)(hn:ps.length<=4000000000)(p:bK):
  ∃v' g,cM J 5 64 183 v (.sl [p.aF] .exact)=some (v',g)/\bU g v' ((ps++[p]).map oU) 5 183/\vY J g:=by
 obtain⟨bf,g,e1,dS,_,h3,h4⟩:=kQ (x:=p.aF) (aZ:=64) hA (TO ps) (E_ p) aCu aCu aCv;refine⟨bf,g,e1,aDb,h3,λj b O hj=>h4 j b hj λxs q=>?_⟩
 rcases hA with⟨z,_⟩|⟨id,aT,z2⟩
 rw[z] at q;cases q;rw[aT] at q;cases q;rw[hj] at z2;cases z2;exact O rfl
@[go_sem]def ahU{y:U}(S:g[K]?=some (.cells [a,b,c,d,x] false))(Y:bl y=true)(V:y.cells=[y]):aE g 1 (.mp K 4) y=some (g.set K (.cells [a,b,c,d,y] false)):=by
 simp only[aE,S,dG];rw[V];simp[putAt,Y]
@[go_sem]def aeR(S:g[K]?=some (.cells [a,b,c,d,x] false))(Y:bl x=true):aq g false 1 (.mp K 4)=some x:=by
 simp only[aq,S];rfl
@[go_sem]def aeH(S:g[K]?=some (.cells [a,b,c,d,x] false)):aq g true 5 (.mp K 0)=some (.agg [a,b,c,d,x]):=by
 simp only[aq,S];rfl
def Kl(B:Nat)(J:List aa)(v:U)(xs:List U):Prop:=(v=.af/\xs=[])\/∃id,v=.sl xs (.tok id)/\B<=id/\J[id]?=some (.tok xs.length 1 3)
def atd{B:Nat}{xs:List U}(hA:Kl B J v xs)(hB:B<=J.length)(I:bS 1 xs=true)(hy:bS 1 [x]=true)(hfit:(xs.length+1)*8<=140737488355328):
  ∃v' hp',cM J 1 8 3 v (.sl [x] .exact)=some (v',hp')/\Kl B hp' v' (xs++[x])/\J.length<=hp'.length/\bl v'=true/\v'.cells=[v']/\∀(j:Nat) b,J[j]?=some b->(∀xs,v≠.sl xs (.tok j))->hp'[j]?=some b:=by
 rcases hA with⟨rfl,rfl⟩|⟨id,rfl,hid,S⟩
 refine⟨.sl ([]++[x]) (.tok J.length),J++[.tok 1 1 3],?_,az ⟨J.length,rfl,hB,aCt⟩,aCt,rfl,rfl,λj b h _=>aJ h⟩;simp only[cM,fA,gp,contents,hy];simp;have hl:id<J.length:=gl S;refine⟨.sl (xs++[x]) (.tok id),J.set id (.tok (xs.length+1) 1 3),?_,az ⟨id,rfl,hid,aDi⟩,aCt,rfl,rfl,λj b h hne=>?_⟩;simp[cM,fA,gp,contents,hy,hfit,I,S];rw[av (λq=>hne xs (by rw[q]))];exact h
structure Ws(l:List ck)(ps:List bK)(fe:Int)(a b K k c:Nat)(Z:List Nat)(J:List aa)(rv kv:U)(cc:List bK)(kids:List Int)(h:List aa):Prop where
 blk:h[K]?=some (.cells [ag fe,ag 0,ag 0,ai [],kv] false)
 aeu:Kl K h kv (kids.map ag)
 kl:kids.length=k
 aeA:∀x∈kids,0<=x/\x<((ps++cc).length:Nat)
 row:bU h rv ((ps++cc).map oU) 5 183
 ok:uI (ps++cc)
 jt:vY J h
 at_:Z[k]?=some c
 ac:a<=c
 cb:c<=b
 cnt:cc.length+k<=2*(c-a)
 stk:∀st,nJ ps ps.length st->nJ (ps++cc) (ps++cc).length (st++kids)
section
variable{G:Cells}{v:U}{l:List ck}
@[go_sem]def aeP(x:ck)(J:List aa):aq J false 1 (.fp x.cells 2)=some (.v (.int .i64 x.low)):=rfl
@[go_sem]def aeO(x:ck)(J:List aa):aq J false 1 (.fp x.cells 3)=some (.v (.int .i64 x.high)):=rfl
@[go_sem]def aeQ(x:ck)(J:List aa):aq J false 1 (.fp x.cells 4)=some (ai x.name):=rfl
def alk(hv:bH v (l.map kJ))(T:dm v)(hok:∀x∈l,x.s7)(hl:l.length<=1000000000)(w:rX l):∀(m a b:Nat),b-a<=m->kA l a b->∀(ps:List bK) (ak:U) (J:List aa),bU J ak (ps.map oU) 5 183->uI ps->ps.length+2*(b-a)<=4000000000->
  bq G ay 84 [ak,v,.v (.int .i64 (a:Int)),.v (.int .i64 (b:Int))] J (Wr ps (b-a) J):=by
 have EB:∀i,i<l.length->1<=kd l i/\kd l i<=5:=λi Q=>by
  have I:l[i]?=some l[i]:=br Q;rw[AF I];have:=hok _ (bA I);exact⟨this.1,this.2.1⟩
 intro m
 induction m with
 |zero=>intro a b h R;have:=R.lt;omega
 |succ m ih=>
  intro a b hm R ps ak J hA hps hsz;have hlt:=R.lt;have hle:=R.le;refine arM.go ?_;refine wy ?_;refine b9 (λk e h=>∃fe:Int,e=[(0,ak),(1,v),(2,.v (.int .i64 (a:Int))),(3,.v (.int .i64 (b:Int))),(9,.v (.int .i64 fe))]/\h=J/\((k=0/\fe=3)\/(k=1/\fe=2/\v_ l a b)\/(k=2/\fe=1/\v_ l a b/\zz l a b))) 2 ⟨3,rfl,rfl,ax ⟨rfl,rfl⟩⟩ ?_ ?_;rintro i e h Q ⟨fe,rfl,rfl,hI⟩;obtain⟨e,X,sp,hX,abL⟩:∃(e:Nat) (X:Prop),cC G ay 146 [v,.v (.int .i64 (a:Int)),.v (.int .i64 (b:Int)),.v (.int .i64 fe)] (Kg l a b e X)/\(X->((i+1=0/\fe-1=3)\/(i+1=1/\fe-1=2/\v_ l a b)\/(i+1=2/\fe-1=1/\v_ l a b/\zz l a b)))/\((fe=3/\e=1)\/(fe=2/\e=0)):=by
   rcases hI with⟨rfl,rfl⟩|⟨rfl,rfl,nb⟩|⟨rfl,_⟩
   exact⟨1,_,ak0 hv T hl w R,λx=>az (ax ⟨rfl,rfl,x⟩),ax ⟨rfl,rfl⟩⟩;exact⟨0,_,axM hv T hl w R nb,λx=>az (az ⟨rfl,rfl,nb,x⟩),az ⟨rfl,rfl⟩⟩;omega
  have c2:decide ((2:Int)<=fe)=true:=aCv
  have w1:bP.wrap (fe-1)=fe-1:=wrap_i64 aCs aCs;refine wy ?_;refine dh sp ?_;rintro r ⟨Z,rfl,hP,hcl,Ag⟩;have S5:∀g,bL (.sl (lV Z) .no) g=some (.v (.int .i64 (Z.length:Int)),g):=λg=>by
   rw[m_];simp[lV,kT]
  have aBi:=hP.two;refine wy (bI (λq=>?_) λq=>?_);refine wx ?_;exact⟨fe-1,rfl,trivial,by simpa using hX (Ag aCB)⟩;have aBq:3<=Z.length:=aCB
  have f1:cq [.v (.int .i64 0),.v (.int .i64 0),.v (.int .i64 0),.v (.string ⟨[].toArray⟩),.af] [(0,1,.v (.int .i64 fe))]=some (ot ⟨fe,0,0,[],[],.no⟩):=rfl;have s1:=vC h ⟨fe,0,0,[],[],.no⟩;have Rl:bU (h++[.cells (ot ⟨fe,0,0,[],[],.no⟩) false]) ak (ps.map oU) 5 183:=by
   rcases hA with z|⟨id,aT,z2⟩
   exact ax z;exact az ⟨id,aT,aJ z2⟩
  have b1:vY h (h++[.cells (ot ⟨fe,0,0,[],[],.no⟩) false]):=⟨aCt,λj b _ q=>aJ q⟩;obtain⟨c0,hc0⟩:∃c,Z[0]?=some c:=⟨Z[0],br aCs⟩;refine wy ?_;refine nh (n:=Z.length) (λm e g=>∃(k c:Nat) (rv kv:U) (cc:List bK) (kids:List Int),m=Z.length-k/\k+1<=Z.length/\e=[(0,rv),(1,v),(9,.v (.int .i64 fe)),(10,.sl (lV Z) .no),(11,.mp h.length 0),(12,.v (.int .i64 (k:Int)))]/\Ws l ps fe a b h.length k c Z h rv kv cc kids g) ⟨0,c0,ak,.af,[],[],rfl,aCs,rfl,by rw[en (bg _),kL];rfl,ax ⟨rfl,rfl⟩,rfl,aCt,by rw[ff];exact Rl,by rw[ff];exact hps,b1,hc0,(hP.iH _ (bA hc0)).1,(hP.iH _ (bA hc0)).2,aCt,λst hs=>by rw[ff,ff];exact hs⟩ ?_;rintro m e g ⟨k,c,rv,kv,cc,kids,rfl,eY,rfl,hB⟩;have hac:=hB.ac;have hcb:=hB.cb;have Ah:=hB.cnt;have aBf:h.length<g.length:=gl hB.blk
  rcases cH (k+1) Z.length with hk2|hk2
  · obtain⟨y,hy⟩:=cF hk2
    have Mt:=hP.iH y (bA hy);have aA6:bw 1 (.sl (lV Z) .no) (.v (.int .i64 ((k+1:Nat):Int)))=some (.fp [.v (.int .i64 (y:Int))] 0):=jY (x:=.v (.int .i64 (y:Int))) (by simp[lV,hy]) rfl;have ex:bw 1 (.sl (lV Z) .no) (.v (.int .i64 (k:Int)))=some (.fp [.v (.int .i64 (c:Int))] 0):=jY (x:=.v (.int .i64 (c:Int))) (by simp[lV,hB.at_]) rfl;obtain⟨jv,hR,hs,aBt,h3⟩:∃jv:Nat,kA l c jv/\jv-c<b-a/\jv<=y/\(((fe==3)=true/\k+2<Z.length/\bP.wrap ((y:Int)-1)=(jv:Int))\/((fe==3)=true/\Z.length<=k+2/\0<Z.length/\jv=y)\/((fe==3)=false/\0<Z.length/\0<Z.length/\jv=y)):=by
     rcases cH (k+2) Z.length with z|z
     obtain⟨g1,g2,g3⟩:=hP.seg k c y hB.at_ hy z
     rcases abL with⟨rfl,rfl⟩|⟨rfl,rfl⟩
     exact⟨y-1,g1,g3,aCs,ax ⟨rfl,z,FT aCs aCs⟩⟩;exact⟨y,g1,g3,bg _,az (az ⟨rfl,aCs,aCs,rfl⟩)⟩;obtain⟨g1,g2⟩:=hP.fin k c y hB.at_ hy aCs
     rcases abL with⟨rfl,rfl⟩|⟨rfl,rfl⟩
     exact⟨y,g1,g2 aCs,bg _,az (ax ⟨rfl,z,aCs,rfl⟩)⟩;exact⟨y,g1,g2 aCs,bg _,az (az ⟨rfl,aCs,aCs,rfl⟩)⟩
    have hrl:=hR.lt;have w5:=ih c jv aCs hR (ps++cc) rv g hB.row hB.ok aEg;have step:∀(r:U) (g2:List aa),Wr (ps++cc) (jv-c) g r g2->∃(N:Nat) (bf:U) (g3:List aa) (ts:List bK),bL r g2=some (.v (.int .i64 (N:Int)),g2)/\bP.wrap ((N:Int)-1)=((N-1:Nat):Int)/\aq g2 false 1 (.mp h.length 4)=some kv/\cM g2 1 8 3 kv (.sl [.v (.int .i64 ((N-1:Nat):Int))] .exact)=some (bf,g3)/\aE g3 1 (.mp h.length 4) bf=some (g3.set h.length (.cells [ag fe,ag 0,ag 0,ai [],bf] false))/\Ws l ps fe a b h.length (k+1) y Z h r bf (cc++ts) (kids++[((N-1:Nat):Int)]) (g3.set h.length (.cells [ag fe,ag 0,ag 0,ai [],bf] false)):=by
     rintro r g2 ⟨ts,tL,Il,dS,As,O,hst⟩;have ln:=BO dS;rw[bX] at ln;have k1:=O.2 _ _ (by exact trivial) hB.blk;have Iy:Kl h.length g2 kv (kids.map ag):=by
      rcases hB.aeu with z|⟨id,aT,z2,z3⟩
      exact ax z;exact az ⟨id,aT,z2,O.2 _ _ (by show(3:Nat)≠183;decide) z3⟩
     have aCl:=F4.2 tL;have hN:(ps++cc++ts).length=ps.length+cc.length+ts.length:=aCv
     obtain⟨bf,g3,p1,p2,p3,po,pc,gr⟩:=atd (x:=.v (.int .i64 (((ps++cc++ts).length-1:Nat):Int))) Iy (by have:=O.1;omega) (C0 kids) rfl (by simp;have:=hB.kl;omega);have k2:=gr _ _ k1 (λxs q=>by
      rcases Iy with⟨z,_⟩|⟨id,aT,_,z2⟩
      rw[z] at q;cases q;rw[aT] at q;cases q;rw[k1] at z2;cases z2)
     have aw_:bU g3 r ((ps++cc++ts).map oU) 5 183:=by
      rcases dS with z|⟨id,aT,z2⟩
      exact ax z;refine az ⟨id,aT,gr _ _ z2 λxs q=>?_⟩
      rcases Iy with⟨z,_⟩|⟨aqD,y1,_,eu⟩
      rw[z] at q;cases q;rw[y1] at q;cases q;rw[z2] at eu;simp at eu
     have LW:=gl k2;have c6:bl kv=true:=by
      rcases Iy with⟨rfl,_⟩|⟨id,rfl,_⟩<;>rfl
     refine⟨(ps++cc++ts).length,bf,g3,ts,ln _,FT aCs aCs,aeR k1 c6,p1,ahU k2 po pc,?_⟩;refine⟨aO LW,?_,by simp[hB.kl],?_,?_,?_,?_,hy,Mt.1,Mt.2,?_,λst hs=>by rw[<-cj,<-cj];exact hst _ (hB.stk st hs)⟩;rw[eD]
     rcases p2 with z|⟨id,aT,z2,z3⟩
     exact ax z;refine az ⟨id,aT,z2,?_⟩;rw[av (λq=>by subst q;rw[k2] at z3;cases z3)];exact z3;intro x I;rw[<-cj,hN]
     rcases dN.1 I with z|z
     have:=hB.aeA x z;rw[cG] at this;omega;rw[cw.1 z,hN];omega;rw[<-cj];exact ie aw_ k2;rw[<-cj];exact As;refine⟨by have:=hB.jt.1;have:=O.1;simp;omega,λj b fV hj=>?_⟩;have hjl:=gl hj;rw[av aCs];refine gr _ _ (O.2 _ _ fV (hB.jt.2 _ _ fV hj)) λxs q=>?_
     rcases Iy with⟨z,_⟩|⟨aqD,y1,y0,eu⟩
     rw[z] at q;cases q;rw[y1] at q;cases q;omega;rw[cG];omega
    rcases h3 with⟨t1,t2,t3⟩|⟨t1,t2,t3,rfl⟩|⟨t1,t2,t3,rfl⟩
    all_goals
     refine wy (a_ w5 ?_);intro r g2 D;obtain⟨N,bf,g3,ts,u1,u2,u3,u4,aCq,azx⟩:=step r g2 D;refine wy ?_;exact⟨Z.length-(k+1),aCs,k+1,_,r,bf,cc++ts,kids++[((N-1:Nat):Int)],rfl,aCs,rfl,azx⟩
  have cV:=hB.kl;obtain⟨id,rfl,_,_⟩:∃id,kv=.sl (kids.map ag) (.tok id)/\True/\True:=by
   rcases hB.aeu with⟨_,z⟩|⟨id,z,_⟩
   have:kids=[]:=aCT
   rw[this] at cV;simp at cV;omega;exact⟨id,z,trivial,trivial⟩
  have hcell:[ag fe,ag 0,ag 0,ai [],.sl (kids.map ag) (.tok id)]=ot ⟨fe,0,0,[],kids,.tok id⟩:=by
   cases kids with
   |nil=>simp at cV;omega
   |cons x r=>rfl
  have apG:=aeH hB.blk;rw[hcell] at apG;obtain⟨v',g2,p1,p2,p3⟩:=Ux hB.row aEg ⟨fe,0,0,[],kids,.tok id⟩;have ab:=Gv ⟨fe,0,0,[],kids,.tok id⟩;unfold oU at ab p1;refine wy ?_;refine⟨cc++[⟨fe,0,0,[],kids,.tok id⟩],aCt,aCv,by rw[<-cj];exact p2,?_,hB.jt.trans p3,λst hs=>by rw[<-cj];exact U7 (p:=⟨fe,0,0,[],kids,.tok id⟩) (hB.stk st hs)⟩;rw[<-cj];exact hB.ok.push ⟨az (ax ⟨by show fe=2\/fe=3;omega,by show 2<=kids.length;omega⟩),hB.aeA⟩;rintro e h ⟨fe,rfl,rfl,hI⟩;obtain⟨rfl,nb,ns⟩:fe=1/\v_ l a b/\zz l a b:=by
   rcases hI with⟨z,_⟩|⟨z,_⟩|⟨_,z⟩
   omega;omega;exact z
  obtain⟨x,I⟩:∃x,l[b-1]?=some x:=⟨l[b-1],br aCs⟩;obtain⟨y,hy⟩:∃x,l[a]?=some x:=⟨l[a],br aCs⟩;have e1:bw 5 v (.v (.int .i64 ((b-1:Nat):Int)))=some (.fp x.cells 0):=hv.bC (x:=x.aF) aCG rfl;have e2:bw 5 v (.v (.int .i64 (a:Int)))=some (.fp y.cells 0):=hv.bC (x:=y.aF) aCZ rfl;have Mc:=AF I;have apz:=AF hy;have Ay:=hok x (bA I);have Ip:=hok y (bA hy);have c21:decide ((2:Int)<=1)=false:=aCu
  have wb:bP.wrap ((b:Int)-1)=((b-1:Nat):Int):=FT aCs aCs;by_cases gh:x.kind=5;have D:=ih a (b-1) aCs (R.azD w (by rw[Mc];exact gh)) ps ak h hA hps aCs;refine fG @oH (a_ D ?_);rintro r g ⟨cc,Ml,hq1,dS,As,O,hst⟩;have ln:=BO dS;rw[bX] at ln;have hpos:0<(ps++cc).length:=by rw[cG];have:=F4.2 Ml;omega
  have abF:(ps++cc).length<=4000000000:=aEg
  obtain⟨v',g2,p1,p2,p3⟩:=Ux dS abF ⟨4,x.low,x.high,[],[(((ps++cc).length-1:Nat):Int)],.exact⟩;have wl:bP.wrap (((ps++cc).length:Int)-1)=(((ps++cc).length-1:Nat):Int):=FT aCs aCs;have f4:cq [.v (.int .i64 0),.v (.int .i64 0),.v (.int .i64 0),.v (.string ⟨[].toArray⟩),.af] [(0,1,.v (.int .i64 4)),(1,1,.v (.int .i64 x.low)),(2,1,.v (.int .i64 x.high)),(4,1,.sl [.v (.int .i64 (((ps++cc).length-1:Nat):Int))] .exact)]=some (ot ⟨4,x.low,x.high,[],[(((ps++cc).length-1:Nat):Int)],.exact⟩):=rfl;have ab:=Gv ⟨4,x.low,x.high,[],[(((ps++cc).length-1:Nat):Int)],.exact⟩;unfold oU at ab p1;generalize hN:(ps++cc).length=N at ln wl f4 ab p1 p2 hpos abF;refine nL (cu @wb @e1 @wo @aeP) (cu @aeO @ln @wl @wm) @f4 @ab @p1 ?_;refine⟨cc++[⟨4,x.low,x.high,[],[((N-1:Nat):Int)],.exact⟩],aCt,aCv,by rw[<-cj];exact p2,?_,O.trans p3,λst hs=>by rw[<-cj];exact U7 (p:=⟨4,x.low,x.high,[],[((N-1:Nat):Int)],.exact⟩) (by have:=hst st hs;rw[hN] at this⊢;exact this)⟩;rw[<-cj];refine As.push ⟨az (az ⟨rfl,rfl,Ay.2.2.2 gh⟩),λz hz=>?_⟩;rw[cw.1 (show z∈[((N-1:Nat):Int)] from hz),hN];omega;have gZ:(x.kind==5)=false:=by simpa using gh
  by_cases ah:y.kind=2;have D:=ih (a+1) (b-1) aCs (R.inner w EB nb ns (by rw[apz];exact ah) (by rw[Mc];exact gh)) ps ak h hA hps aCs;refine fG @oH (a_ D ?_);rintro r g ⟨cc,Ml,hq1,dS,As,O,hst⟩;refine wy ?_;exact⟨cc,Ml,aCs,dS,As,O,hst⟩;have n2:(y.kind==2)=false:=aCU
  obtain⟨v',g2,p1,p2,p3⟩:=Ux hA aCs ⟨1,0,0,y.name,[],.no⟩;have f4:cq [.v (.int .i64 0),.v (.int .i64 0),.v (.int .i64 0),.v (.string ⟨[].toArray⟩),.af] [(0,1,.v (.int .i64 1)),(3,1,ai y.name)]=some (ot ⟨1,0,0,y.name,[],.no⟩):=rfl;have ab:=Gv ⟨1,0,0,y.name,[],.no⟩;unfold oU at ab p1;refine gj (cu @c21 @wb @e1 @e2) (cu @wo @oH @aeQ @gZ) (cu @n2 @f4 @ab @p1) ?_;refine⟨[⟨1,0,0,y.name,[],.no⟩],aCt,aCv,p2,?_,p3,λst hs=>U7 (p:=⟨1,0,0,y.name,[],.no⟩) (by rw[ff];exact hs)⟩;exact hps.push ⟨ax ⟨rfl,Ip.2.2.1,rfl⟩,λz hz=>by cases hz⟩
end
structure uF(n:Nat)(v:U)(ps:List bK):Prop where
 v:bH v (ps.map oU)
 ok:uI ps
 len:ps.length<=2*n
 top:ps=[]\/∃x,nJ ps ps.length [x]
 no:∀p∈ps,p.tail=.no
def WN(n:Nat)(r:U):Prop:=∃(v:U) (ps:List bK) (p e:Int),r=.aK [v,.v (.int .i64 p),.v (.int .i64 e)]/\uF n v ps
def af_{G:Cells}(s:List UInt8)(hs:s.length<=1000000000):cC G ay 50 [ai s] (WN s.length):=by
 refine cU (aro.go ?_);have bad:∀(J:List aa) (p e:Int),∃k aM,b7 J k (.aK [.af,.v (.int .i64 p),.v (.int .i64 e)])=some aM/\WN s.length aM:=λJ p e=>by
  obtain⟨k,S⟩:=(dQ (aA cX (aA (aB (.int .i64 p)) (aA (aB (.int .i64 e)) bT))):aW J _ _).done;exact⟨k,_,S,.af,[],p,e,rfl,az ⟨rfl,rfl⟩,λi p h=>aCC,iE _,ax rfl,aCt⟩
 refine wy ?_;refine dh (at1 s hs) ?_;rintro r ⟨v,l,p,e,rfl,hv,hl,hok⟩;have T:dm v:=by
  rcases hv with rfl|⟨rfl,_⟩
  exact j0 Qg;exact mh
 have ln:=hv.bL;rw[bX] at ln;refine wy (bI (λq=>?_) λq=>?_);exact dc @q (bad _ _ _);refine wy ?_;refine dh (alx hv aCs) ?_;rintro r ⟨p2,b2,rfl,hK⟩;refine wy (bI (λah=>?_) λah=>?_)
 rcases hK with⟨rfl,_⟩|⟨i,rfl,Q⟩
 simp at ah;obtain⟨x,I⟩:=cF Q;have e1:bw 5 v (.v (.int .i64 (i:Int)))=some (.fp x.cells 0):=hv.bC (x:=x.aF) aCG rfl;have e2:∀J,aq J false 1 (.fp x.cells 1)=some (.v (.int .i64 x.at_)):=λJ=>rfl;exact eV @ah @e1 @e2 (bad _ _ _);cases b2 with
 |true=>
  exact dc @ah (bad _ _ _)
 |false=>
  have hW:rX l:=by
   rcases hK with⟨rfl,h⟩|⟨i,rfl,Q⟩
   exact h rfl;simp at ah
  refine wy ?_;refine b5 (λaP=>?_) λaP=>?_;exact bad _ _ _;have h0:0<l.length:=by simp at aP;exact F4.2 aP
  have EB:∀i,i<l.length->1<=kd l i/\kd l i<=5:=λi Q=>by
   have I:l[i]?=some l[i]:=br Q;rw[AF I];have:=hok _ (bA I);exact⟨this.1,this.2.1⟩
  refine wy (a_ (alk hv T hok aCs hW l.length 0 l.length aCs (hW.all EB h0) [] .af _ (p4 _ _ _) (λi p h=>aCC) aCv) ?_);rintro r g ⟨cc,Ml,hq1,dS,As,O,hst⟩;refine wy ?_;have yC:=hst [] rfl;rw[eH] at dS As yC
  rcases dS with⟨rfl,z⟩|⟨id,rfl,_⟩
  exact bad _ _ _;obtain⟨k,S⟩:=(dQ (aA (e5 (t:=.tok id) (dK.MU λa _=>Q7 g a)) (aA (aB (.int .i64 0)) (aA (aB (.int .i64 0)) bT))):aW g (.aK [.sl (cc.map oU) (.tok id),.v (.int .i64 0),.v (.int .i64 0)]) (.aK [.sl (cc.map λp=>p.bx.aF) .no,.v (.int .i64 0),.v (.int .i64 0)])).done;refine⟨k,_,S,.sl (cc.map λp=>p.bx.aF) .no,cc.map bK.bx,0,0,rfl,ax ?_,awd As,aCv,az ⟨_,by rw[bX];exact ahZ yC⟩,λp J=>?_⟩;rw[uA];rfl;obtain⟨q,_,rfl⟩:=cI.1 J;rfl
end
section
variable{a b:List UInt8}{ak v:U}{l:List ck}{ps:List bK}{p:bK}{n:Nat}{t:iU}{h:List aa}
@[go_sem]def Xm(h:a.length+b.length<=1000):cr .add (.v (.string ⟨a.toArray⟩)) (ai b)=some (ai (a++b)):=rZ (a:=a) aCs
@[go_sem]def D1(h:a.length+b.length<=1000000000):cr .add (ai a) (.v (.string ⟨b.toArray⟩))=some (ai (a++b)):=rZ (b:=b) aCs
section
variable{G:Cells}
def azd(lo Q:Int):cC G ay 277 [.v (.int .i64 lo),.v (.int .i64 Q)] (wj 60):=by
 refine cU (asL.go ?_);refine oS ?_
 repeat' refine ba (λq'=>?_) λq'=>?_
 all_goals first
  |(exfalso;omega)
  |exact pz (t:=[42]) aCu
  |exact pz (t:=[43]) aCu
  |exact pz (t:=[63]) aCu
  |(refine dh (UK lo) ?_
    rintro r ⟨t,rfl,ht⟩;have a1:cr .add (.v (.string ⟨[123].toArray⟩)) (ai t)=some (ai ([123]++t)):=Xm aCv;have a2:cr .add (ai ([123]++t)) (.v (.string ⟨[125].toArray⟩))=some (ai ([123]++t++[125])):=D1 aCv;have a3:cr .add (ai ([123]++t)) (.v (.string ⟨[44,125].toArray⟩))=some (ai ([123]++t++[44,125])):=D1 aCv;have a4:cr .add (ai ([123]++t)) (.v (.string ⟨[44].toArray⟩))=some (ai ([123]++t++[44])):=D1 aCv;refine dr @a1 ?_
    repeat' ((refine bI (λq=>?_) λq=>?_)<;>(have q':=q)<;>(simp -failIfUnchanged only[nq] at q')<;>(refine kg @a2 @a3 @a4 @q ?_))
    all_goals first
     |(exfalso;omega)
     |exact pz (t:=[123]++t++[125]) (by simp only[cG,di,fI];omega)
     |exact pz (t:=[123]++t++[44,125]) (by simp only[cG,di,fI];omega)
     |(refine dh (UK Q) ?_
       rintro r ⟨t2,rfl,Im⟩;have a5:cr .add (ai ([123]++t++[44])) (ai t2)=some (ai ([123]++t++[44]++t2)):=rZ aCv;have a6:cr .add (ai ([123]++t++[44]++t2)) (.v (.string ⟨[125].toArray⟩))=some (ai ([123]++t++[44]++t2++[125])):=D1 aCv;refine kH @a5 @a6 ?_;exact pz aCv))
def ck.DR(x:ck):Prop:=1<=x.kind/\x.kind<=5/\x.name.length<=12
def axY(hv:bH v (l.map kJ))(hok:∀x∈l,x.DR)(hl:l.length<=1000000):cC G ay 252 [v] (wj (100*l.length)):=by
 refine cU (asF.go ?_);have ln:=hv.bL;rw[bX] at ln;have ab:dy 1 [.v (.string ⟨[].toArray⟩),.v (.string ⟨[].toArray⟩),.v (.string ⟨[40].toArray⟩),.v (.string ⟨[41].toArray⟩),.v (.string ⟨[124].toArray⟩)]=some (.sl [ai [],ai [],ai [40],ai [41],ai [124]] .exact):=rfl;have i2:bw 1 (.sl [ai [],ai [],ai [40],ai [41],ai [124]] .exact) (.v (.int .i64 2))=some (.fp [ai [40]] 0):=rfl;have i3:bw 1 (.sl [ai [],ai [],ai [40],ai [41],ai [124]] .exact) (.v (.int .i64 3))=some (.fp [ai [41]] 0):=rfl;have i4:bw 1 (.sl [ai [],ai [],ai [40],ai [41],ai [124]] .exact) (.v (.int .i64 4))=some (.fp [ai [124]] 0):=rfl;refine wy ?_;refine b9 (λi e h=>∃t:List UInt8,e=[(0,v),(3,.sl [ai [],ai [],ai [40],ai [41],ai [124]] .exact),(4,ai t),(5,ag i)]/\t.length<=100*i) l.length ⟨[],rfl,aCt⟩ ?_ ?_
 · rintro i e J Q ⟨t,rfl,ht⟩
   obtain⟨x,I⟩:=cF Q;have Ay:=hok x (bA I);have e1:bw 5 v (.v (.int .i64 (i:Int)))=some (.fp x.cells 0):=hv.bC (x:=x.aF) aCG rfl;have e2:∀J,aq J true 5 (.fp x.cells 0)=some (.agg x.cells):=λJ=>rfl;have s1:=vz J x;unfold fS at s1;have eE:∀g:List aa,g[J.length]?=some (.cells x.cells false)->aq g false 1 (.mp J.length 0)=some (.v (.int .i64 x.kind))/\aq g false 1 (.mp J.length 2)=some (.v (.int .i64 x.low))/\aq g false 1 (.mp J.length 3)=some (.v (.int .i64 x.high))/\aq g false 1 (.mp J.length 4)=some (ai x.name):=λg q=>by
    simp only[aq,q];exact⟨rfl,rfl,rfl,rfl⟩
   have hm:(J++[aj x.cells false])[J.length]?=some (.cells x.cells false):=aCt
   obtain⟨l0,l2,l3,l4⟩:=eE _ hm;have sp:cr .add (ai t) (.v (.string ⟨[32].toArray⟩))=some (ai (t++[32])):=D1 aCv;have main:∀u:List UInt8,u.length<=100*i+1->(∀w:List UInt8,w.length<=60->cr .add (ai u) (ai w)=some (ai (u++w)))/\(∀w:List UInt8,w.length<=60->(u++w).length<=100*(i+1)):=λu hu=>⟨λw hw=>rZ aCs,λw hw=>aCv⟩;obtain⟨k1,k2,hn⟩:=Ay;have RI:x.kind=1\/x.kind=2\/x.kind=3\/x.kind=4\/x.kind=5:=aCs
   have b1:=(main t aCs).1 x.name aCs;have b2:=(main (t++[32]) aCv).1 x.name aCs;have d1:=(main t aCs).2 x.name aCs;have d2:=(main (t++[32]) aCv).2 x.name aCs;have c1:=λw hw=>(main t aCs).1 w hw;have c2:=λw hw=>(main (t++[32]) aCv).1 w hw;have aT:=λw hw=>(main t aCs).2 w hw;have z2:=λw hw=>(main (t++[32]) aCv).2 w hw
   rcases RI with q|q|q|q|q
   all_goals
    rw[q] at l0;refine wy ?_
    repeat' ((refine bI (λq=>?_) λq=>?_)<;>(have q':=q)<;>(simp -failIfUnchanged only[nq] at q')<;>(refine mF (cu @kB @l0 @sp @l4) (cu @b1 @b2 @i2 @i3) (cu @i4 @tC (c1 [40] aCu) (c2 [40] aCu)) (cu (c1 [41] aCu) (c2 [41] aCu) (c1 [124] aCu) (c2 [124] aCu)) @l2 @l3 @q ?_))
   all_goals first
    |(exfalso;omega)
    |exact⟨_,rfl,d1⟩
    |exact⟨_,rfl,d2⟩
    |exact⟨_,rfl,aT _ aCu⟩
    |exact⟨_,rfl,z2 _ aCu⟩
    |(refine dh (azd _ _) ?_
      rintro r ⟨w,rfl,hw⟩;refine wy ?_
      first
       |exact⟨_,rfl,aT w hw⟩
       |exact⟨_,rfl,z2 w hw⟩)
 rintro e h ⟨t,rfl,ht⟩;exact wy (pz ht)
end
def DL(ps:List bK):Prop:=∀(i:Nat) p,ps[i]?=some p->∀x∈p.kids,0<=x/\x<(i:Int)
def uI.kids(h:uI ps):DL ps:=λi p J=>(h i p J).2
def ayS(h:DL ps):∀(n f g:Nat) (i:Int),i.toNat<n->i.toNat<f->i.toNat<g->uk ps f i=uk ps g i:=by
 intro n
 induction n with
 |zero=>intro f g i h0;omega
 |succ n ih=>
  intro f g i h0 Y V;obtain⟨f,rfl⟩:∃f',f=f'+1:=⟨f-1,aCs⟩;obtain⟨g,rfl⟩:∃g',g=g'+1:=⟨g-1,aCs⟩;unfold uk;cases J:ps[i.toNat]? with
  |none=>rfl
  |some p=>
   dsimp only;congr 2;refine vR λk S=>?_;have:=h _ p J k S;rw[ih f g k aCs aCs aCs]
def Of(h:DL ps){i:Nat}(J:ps[i]?=some p):sz ps (i:Int)=3+(p.kids.map λk=>sz ps k+1).sum:=by
 show uk ps (i+1) (i:Int)=_;unfold uk;rw[ux,J];dsimp only;congr 2;refine vR λk S=>?_;have:=h _ p J k S;rw[ayS h (i+1) i (k.toNat+1) k aCs aCs aCs];rfl
def U6(h:DL ps):∀{i:Nat} {st:List Int},nJ ps i st->(st.map λk=>sz ps k+1).sum<=4*i
 |0,st,hs=>by rw[show st=[] from hs];simp
 |i+1,st,⟨p,og,J,Y,V⟩=>by
  have:=U6 h Y;rw[V];simp only[eD,ajA,ep,kn,vU,DG] at this⊢;rw[Of h J];omega
def Oe(f:Int->Nat):∀ks:List Int,ks.length<=(ks.map λk=>f k+1).sum
 |[]=>bg _
 |k::r=>by have:=Oe f r;simp only[ep,vU,di];omega
def aj4(n:Nat)(r:U):Prop:=∃l:List ck,r=.sl (l.map kJ) .no/\l≠[]/\l.length<=n/\∀x∈l,x.DR
def XF{J:List aa}{xs ys:List U}{aZ:Nat}{e:TypeId}(hA:bU J v xs n e)(I:bS n xs=true)(hy:bS n ys=true)(hne:ys≠[])(hn:0<n)(O:0<aZ)(hfit:(xs.length+ys.length)*aZ<=140737488355328):
  ∃v' hp',cM J n aZ e v (.sl ys t)=some (v',hp')/\bU hp' v' (xs++ys) n e/\∀(j:Nat) b,J[j]?=some b->(∀xs,v≠.sl xs (.tok j))->hp'[j]?=some b:=by
 rcases hA with⟨rfl,rfl⟩|⟨id,rfl,S⟩
 refine⟨.sl ([]++ys) (.tok J.length),J++[.tok ys.length n e],?_,az ⟨J.length,rfl,aCt⟩,λj b h _=>aJ h⟩;simp only[fI,e6] at hfit;simp[cM,fA,gp,contents,hne,hy,hn,O,hfit];have hl:id<J.length:=gl S;refine⟨.sl (xs++ys) (.tok id),J.set id (.tok (xs.length+ys.length) n e),?_,az ⟨id,rfl,aDi⟩,λj b h hne=>?_⟩;simp[cM,fA,gp,contents,hne,hy,hn,O,hfit,I,S];rw[av (λq=>hne xs (by rw[q]))];exact h
structure rV(p:bK)(l:List ck)(ak:U)(h:List aa):Prop where
 b:h[0]?=some (.cells p.cells false)
 a:bU h ak (l.map kJ) 5 180
 ok:∀x∈l,x.DR
def rV.I9{m:List ck}(s:rV p l ak h)(hm:∀x∈m,x.DR)(hne:m≠[])(hl:l.length+m.length<=2000000):∃bf g,cM h 5 48 180 ak (.sl (m.map kJ) t)=some (bf,g)/\rV p (l++m) bf g:=by
 obtain⟨bf,g,e1,hA,S⟩:=XF (ys:=m.map kJ) (aZ:=48) (t:=t) s.a (Nl l) (Nl m) (by simpa using hne) aCu aCu aCv;refine⟨bf,g,e1,S _ _ s.b λxs z=>?_,by rw[eD];exact hA,λx I=>?_⟩
 rcases s.a with⟨q,_⟩|⟨id,q1,ah⟩
 rw[q] at z;cases z;rw[q1] at z;cases z;rw[s.b] at ah;cases ah
 rcases dN.1 I with z|z
 exact s.ok x z;exact hm x z
def rV.push(s:rV p l ak h)(x:ck)(I:x.DR)(hl:l.length<=1000000):∃bf g,cM h 5 48 180 ak (.sl [.agg x.cells] .exact)=some (bf,g)/\rV p (l++[x]) bf g:=
 s.I9 (m:=[x]) (λy hy=>aFc) aCt aCv
def yl(h:uF n v ps):dm v:=by
 rcases h.v with rfl|⟨rfl,_⟩
 refine j0 λx I c T=>?_;obtain⟨p,J,rfl⟩:=cI.1 I;have mY:=h.no p J;have:c=ag p.kind\/c=ag p.low\/c=ag p.high\/c=ai p.name\/c=p.kv:=by simpa[oU,gN,ot] using T
 rcases this with rfl|rfl|rfl|rfl|rfl
 exact cm _;exact cm _;exact cm _;exact cm _;unfold bK.kv;split;exact mh;rw[mY];refine j0 λx I c T=>?_;obtain⟨t,_,rfl⟩:=cI.1 I;rw[cw.1 (show c∈[ag t] from T)];exact cm _;exact mh
section
variable{G:Cells}
def ax5(h:uF n v ps):∀(m i:Nat),i<m->i<ps.length->sz ps (i:Int)<=1000000->∀b:Bool,cC G ay 253 [v,.v (.int .i64 (i:Int)),.v (.bool b)] (aj4 (sz ps (i:Int))):=by
 intro m
 induction m with
 |zero=>intro i Q;omega
 |succ m ih=>
  intro i Q jk hsz b;obtain⟨p,J⟩:=cF jk;have jl:=h.ok i p J;have mY:=h.no p (bA J);have hs:=Of h.ok.kids J;have cV:=Oe (λk=>sz ps k) p.kids;have lk:=vf mY aCs;have kc:=yl h;have e1:bw 5 v (.v (.int .i64 (i:Int)))=some (.fp p.cells 0):=h.v.bC (x:=p.aF) (by simp[J]) rfl;have ZB:∀c:Int,cq [.v (.int .i64 0),.v (.int .i64 0),.v (.int .i64 0),.v (.int .i64 0),.v (.string ⟨#[]⟩)] [(0,1,.v (.int .i64 c))]=some (fH ⟨c,0,0,0,[]⟩):=λc=>rfl;have f1:cq [.v (.int .i64 0),.v (.int .i64 0),.v (.int .i64 0),.v (.int .i64 0),.v (.string ⟨#[]⟩)] [(0,1,.v (.int .i64 1)),(4,1,ai p.name)]=some (fH ⟨1,0,0,0,p.name⟩):=rfl;have f5:cq [.v (.int .i64 0),.v (.int .i64 0),.v (.int .i64 0),.v (.int .i64 0),.v (.string ⟨#[]⟩)] [(0,1,.v (.int .i64 5)),(2,1,.v (.int .i64 p.low)),(3,1,.v (.int .i64 p.high))]=some (fH ⟨5,0,p.low,p.high,[]⟩):=rfl;have j8:∀c:Int,2<=c->c<=4->ck.DR ⟨c,0,0,0,[]⟩:=λc Y V=>⟨by show 1<=c;omega,by show c<=5;omega,aDT⟩;have eE:∀g:List aa,g[0]?=some (.cells p.cells false)->aq g false 1 (.mp 0 0)=some (.v (.int .i64 p.kind))/\aq g false 1 (.mp 0 1)=some (.v (.int .i64 p.low))/\aq g false 1 (.mp 0 2)=some (.v (.int .i64 p.high))/\aq g false 1 (.mp 0 3)=some (ai p.name)/\aq g false 1 (.mp 0 4)=some p.kv:=λg q=>by
   simp only[aq,q];exact⟨rfl,rfl,rfl,rfl,rfl⟩
  refine cU (asG.go ?_);have s1:=vC [] p;simp only[eH,fI] at s1;refine cB (λe g=>e=[(0,v),(1,.v (.int .i64 (i:Int))),(2,.v (.bool b))]/\g=[]) ?_ ?_;refine wx ?_
  first|exact⟨rfl,rfl⟩|exact⟨trivial,trivial⟩|trivial
  rintro e g ⟨rfl,rfl⟩;refine cB (λe g=>e=[(0,v),(1,.v (.int .i64 (i:Int))),(2,.v (.bool b)),(7,.af)]/\g=[]) ?_ ?_;refine wx ?_
  first|exact⟨rfl,rfl⟩|exact⟨trivial,trivial⟩|trivial
  rintro e g ⟨rfl,rfl⟩;refine cB (λe g=>e=[(0,v),(2,.v (.bool b)),(7,.af),(8,.mp 0 0)]/\g=[.cells p.cells false]) ?_ ?_;refine wx ?_
  first|exact⟨rfl,rfl⟩|exact⟨trivial,trivial⟩|trivial
  rintro e g ⟨rfl,rfl⟩;have WV:rV p [] .af [.cells p.cells false]:=⟨rfl,p4 _ _ _,aCt⟩;refine cB (λe g=>∃l ak,e=[(0,v),(2,.v (.bool b)),(7,ak),(8,.mp 0 0)]/\rV p l ak g/\l.length<=1) ?_ ?_;obtain⟨bf,g,p1,p2⟩:=WV.push ⟨2,0,0,0,[]⟩ (j8 2 aCu aCu) aCt;cases b with
  |true=>
   refine wx ?_;exact⟨_,bf,rfl,p2,aCt⟩
  |false=>
   refine wy ?_;exact⟨[],.af,rfl,WV,aCt⟩
  rintro e g ⟨l1,o1,rfl,Po,hl1⟩;obtain⟨d0,d1,d2,d3,d4⟩:=eE g Po.b;refine cB (λe g=>∃l ak,e=[(0,v),(2,.v (.bool b)),(7,ak),(8,.mp 0 0)]/\rV p l ak g/\l.length<=1+(if p.kind=1 then 1 else 0)/\(p.kind=1->l≠[])) ?_ ?_;by_cases q1:p.kind=1;have hn:p.name.length<=12:=by
   rcases jl.1 with z|z|z
   exact z.2.1;omega;omega
  obtain⟨bf,g2,p1,p2⟩:=Po.push ⟨1,0,0,0,p.name⟩ ⟨by show(1:Int)<=1;decide,aDo,hn⟩ aCs;refine wx ?_;exact⟨_,bf,rfl,p2,aCv,λ_=>aCt⟩;have n1:(p.kind==1)=false:=aDM
  refine fm @d0 @n1 ?_;exact⟨l1,o1,rfl,Po,aCs,λz=>absurd z q1⟩;rintro e g ⟨l2,o2,rfl,aj3,gX,abo⟩;have Ez:(if p.kind=1 then 1 else 0)<=1:=by split<;>omega
  refine cB (λe g=>∃l ak,e=[(2,.v (.bool b)),(7,ak),(8,.mp 0 0)]/\rV p l ak g/\l.length<=1+(if p.kind=1 then 1 else 0)+(p.kids.map λk=>sz ps k+1).sum/\l≠[]) ?_ ?_;refine wy ?_;refine b9 (λj e g=>∃l ak,e=[(0,v),(2,.v (.bool b)),(7,ak),(8,.mp 0 0),(9,ag j)]/\rV p l ak g/\l.length<=1+(if p.kind=1 then 1 else 0)+((p.kids.take j).map λk=>sz ps k+1).sum/\((p.kind=1\/0<j)->l≠[])) p.kids.length ⟨l2,o2,rfl,aj3,aCv,λz=>abo aCs⟩ ?_ ?_
  · rintro j e g hj ⟨l3,iA,rfl,DY,pL,Sb⟩
    obtain⟨x,I⟩:=cF hj;obtain⟨x0,x1⟩:=jl.2 x (bA I);obtain⟨xn,rfl⟩:=mI x0;obtain⟨q,hq⟩:∃q,ps[xn]?=some q:=⟨ps[xn],br aCs⟩;have uj:=vD (f:=λk=>sz ps k+1) I;have sl:=y4 (λk=>sz ps k+1) p.kids (j+1);have kS:bw 1 p.kv (.v (.int .i64 (j:Int)))=some (.fp [.v (.int .i64 (xn:Int))] 0):=by
     unfold bK.kv;split;rename_i z;rw[z] at I;simp at I;exact jY (x:=ag (xn:Int)) (by rw[eo,I];rfl) rfl
    have uT:bw 5 v (.v (.int .i64 (xn:Int)))=some (.fp q.cells 0):=h.v.bC (x:=q.aF) aC8 rfl;have GZ:∀J,aq J false 1 (.fp q.cells 0)=some (.v (.int .i64 q.kind)):=λJ=>rfl;obtain⟨c0,_,_,_,c4⟩:=eE g DY.b;obtain⟨bv,LN,b1,WY⟩:=DY.push ⟨4,0,0,0,[]⟩ (j8 4 aCu aCu) aCs;obtain⟨kG,_,_,_,u4⟩:=eE LN WY.b;have FP:bP.wrap ((j:Int)+1)=((j+1:Nat):Int):=jd aCs;refine wy ?_
    repeat' ((refine bI (λq=>?_) λq=>?_)<;>(have q':=q)<;>(simp -failIfUnchanged only[nq] at q')<;>(refine sJ (cu @kB @c4 @c0 @u4) (cu @kG @lk @kS @tC) @uT @wo @GZ @ZB @Xh @b1 @q ?_))
    all_goals first
     |(exfalso;omega)
     |(refine dh (ih xn aCs aCs aCs _) ?_
       rintro r ⟨ys,rfl,y1,eu,jT⟩
       first
        |(obtain⟨bf,g2,p1,p2⟩:=DY.I9 (t:=.no) jT y1 aCs
          refine wy ?_;exact⟨_,bf,rfl,p2,aEg,λ_=>by simp[y1]⟩)
        |(obtain⟨bf,g2,p1,p2⟩:=WY.I9 (t:=.no) jT y1 aCv
          refine fm @p1 @FP ?_;exact⟨_,bf,rfl,p2,by rw[cG,cG,nM];omega,λ_=>by simp[y1]⟩))
  rintro e g ⟨l3,iA,rfl,DY,pL,Sb⟩;obtain⟨d0,d1,d2,d3,d4⟩:=eE g DY.b;refine wy ?_;rw[p8] at pL;refine⟨l3,iA,rfl,DY,pL,Sb ?_⟩
  rcases jl.1 with z|z|z
  exact ax z.1;exact az aCs;exact az aCs;rintro e g ⟨l4,iM,rfl,Pq,apC,apR⟩;obtain⟨d0,d1,d2,d3,d4⟩:=eE g Pq.b;refine cB (λe g=>∃l ak,e=[(2,.v (.bool b)),(7,ak)]/\rV p l ak g/\l.length<=2+(p.kids.map λk=>sz ps k+1).sum/\l≠[]) ?_ ?_;by_cases ec:p.kind=4;rw[if_neg aCs] at apC;obtain⟨bf,g2,p1,p2⟩:=Pq.push ⟨5,0,p.low,p.high,[]⟩ ⟨aDo,aEP,aDT⟩ aCs;refine wx ?_;exact⟨_,bf,rfl,p2,aCv,aCt⟩;have fX:(p.kind==4)=false:=aDQ
  refine wy ?_;exact⟨l4,iM,rfl,Pq,aCs,apR⟩;rintro e g ⟨AH,nC,rfl,WW,R3,apS⟩;refine cB (λe g=>∃l ak,e=[(7,ak)]/\rV p l ak g/\l.length<=3+(p.kids.map λk=>sz ps k+1).sum/\l≠[]) ?_ ?_;cases b with
  |true=>
   obtain⟨bf,g2,p1,p2⟩:=WW.push ⟨3,0,0,0,[]⟩ (j8 3 aCu aCu) aCs;refine wx ?_;exact⟨_,bf,rfl,p2,aCv,aCt⟩
  |false=>
   refine wy ?_;exact⟨AH,nC,rfl,WW,aCs,apS⟩
  rintro e g ⟨CJ,rm,rfl,WX,Me,abp⟩;refine wy ?_
  rcases WX.a with⟨rfl,z⟩|⟨id,rfl,_⟩
  exact absurd aCT abp;obtain⟨k,S⟩:=(e5 (t:=.tok id) (fY (f:=kJ) (l:=CJ) λa _=>aaa a):aW g _ _).done;exact⟨k,_,S,CJ,rfl,abp,aCs,WX.ok⟩
def axW(h:uF n v ps)(hn:n<=100000)(hne:ps≠[]):cC G ay 207 [v] (wj (800*n)):=by
 have hl:=h.len;obtain⟨x,I⟩:=h.top.resolve_left hne;have D:=U8 hne I;have hs:=U6 h.ok.kids I;rw[D] at hs;simp only[ep,kn,vU,DG] at hs;have ln:=h.v.bL;rw[bX] at ln;refine cU (ast.go ?_);refine wy (gO (ax5 h ps.length (ps.length-1) aCs aCs aCs false) (bn (yl h) (bn (cm _) (bn (cm _) cx))) ?_);rintro r ⟨ys,rfl,y1,eu,jT⟩;refine wy (gO (axY (ax rfl) jT aCs) (bn (j0 Qg) cx) ?_);rintro r ⟨t,rfl,ht⟩;refine wy ?_;exact pz aCs
end
end
section
variable{l:List (List UInt8)}{w:List UInt8}{v:U}
def iy:List (List UInt8)->Nat
 |[]=>0
 |w::r=>w.length+1+iy r
def MT(a b:List (List UInt8)):iy (a++b)=iy a+iy b:=by
 induction a with
 |nil=>simp[iy]
 |cons x r ih=>simp only[gP,iy,ih];omega
def S6(l:List (List UInt8))(n:Nat):iy (l.take n)+iy (l.drop n)=iy l:=by
 rw[<-MT,Wi]
def ae3{i:Nat}(h:l[i]?=some w):iy (l.take (i+1))=iy (l.take i)+w.length+1:=by
 rw[By,h,MT];simp[iy];omega
def EX:∀l:List (List UInt8),l.length<=iy l
 |[]=>bg _
 |w::r=>by have:=EX r;simp only[iy,di];omega
def ae2(h:w∈l):w.length<=iy l:=by
 obtain⟨i,Q,rfl⟩:=DF h;have Y:=ae3 (br Q);have V:=S6 l (i+1);omega
def W5(n:Nat)(r:U):Prop:=∃(v:U) (e:Int) (l:List (List UInt8)),r=.aK [v,.v (.int .i64 e)]/\bH v (l.map ai)/\iy l<=n
section
variable{G:Cells}
def ard(hv:bH v (l.map ai))(hl:iy l<=1000000):cC G ay 206 [v] (wj (iy l)):=by
 refine cU (asX.go ?_);have mU:=EX l;have ln:=hv.bL;rw[bX] at ln;refine wy ?_;refine b9 (λi e h=>∃t:List UInt8,e=[(0,v),(3,ai t),(4,ag i)]/\t.length<=iy (l.take i)/\h=[]) l.length ⟨[],rfl,aCt,rfl⟩ ?_ ?_;rintro i e h Q ⟨t,rfl,ht,rfl⟩;obtain⟨s,hs⟩:=cF Q;have Y:=ae3 hs;have V:=S6 l (i+1);have e1:bw 1 v (.v (.int .i64 (i:Int)))=some (.fp [ai s] 0):=hv.bC (x:=ai s) aFd rfl;have a1:cr .add (ai t) (.v (.string ⟨[32].toArray⟩))=some (ai (t++[32])):=rZ (b:=[32]) aCv;have a3:cr .add (ai (t++[32])) (ai s)=some (ai (t++[32]++s)):=rZ aCv;refine wy (bI (λq=>?_) λq=>?_);refine wx ?_;exact⟨_,rfl,aCv,trivial⟩;refine wx ?_;exact⟨_,rfl,aCv,trivial⟩;rintro e h ⟨t,rfl,ht,rfl⟩;rw[p8] at ht;exact wy (pz ht)
def aym(s:List UInt8)(hs:s.length<=1000000):cC G ay 78 [ai s] (W5 (s.length+1)):=by
 refine cU (asZ.go ?_);have bad:∀(J:List aa) (e:Int),∃k aM,b7 J k (.aK [.af,.v (.int .i64 e)])=some aM/\W5 (s.length+1) aM:=λJ e=>by
  obtain⟨k,S⟩:=(dQ (aA cX (aA (aB (.int .i64 e)) bT)):aW J _ _).done;exact⟨k,_,S,.af,e,[],rfl,az ⟨rfl,rfl⟩,iE _⟩
 refine wy ?_;refine b9 (λi e h=>∃(l:List (List UInt8)) (ak:U) (t:List UInt8),e=[(0,ai s),(4,ak),(5,ai t),(6,ag i)]/\iy l+t.length<=i/\bU h ak (l.map ai) 1 9) s.length ⟨[],.af,[],rfl,bg _,p4 _ _ _⟩ ?_ ?_
 · rintro i e h Q ⟨l,ak,t,rfl,ht,hA⟩
   have mU:=EX l;obtain⟨bf,g,e1,dS,_⟩:=kQ (x:=ai t) (aZ:=16) hA (vn l) rfl aCu aCu aCv;have ab:dy 1 [ai t]=some (.sl [ai t] .exact):=rfl;have pu:iy (l++[t])=iy l+t.length+1:=by rw[MT];simp[iy];omega
   have c1:=λJ=>Le (l:=s) (i:=i) (j:=i+1) aCs aCs J;have a1:cr .add (ai t) (ai ((s.take (i+1)).drop i))=some (ai (t++(s.take (i+1)).drop i)):=rZ aCv;have r1:((t++(s.take (i+1)).drop i)).length<=t.length+1:=aCv
   refine lE ?_
   repeat' ((refine ba (λq'=>?_) λq'=>?_)<;>refine nL @tQ @Zj @ab @e1 @tq ?_)
   all_goals first
    |exact bad _ _
    |exact⟨l++[t],bf,[],rfl,by rw[pu];simp;omega,aDb⟩
    |(refine dh (av8 _) ?_
      rintro r ⟨b,rfl⟩;cases b with
      |false=>
       exact e3 (bad _ _)
      |true=>
       refine wy ?_;exact⟨l,ak,_,rfl,aCs,hA⟩)
 rintro e h ⟨l,ak,t,rfl,ht,hA⟩;have mU:=EX l;obtain⟨bf,g,e1,dS,_⟩:=kQ (x:=ai t) (aZ:=16) hA (vn l) rfl aCu aCu aCv;have ab:dy 1 [ai t]=some (.sl [ai t] .exact):=rfl;have pu:iy (l++[t])=iy l+t.length+1:=by rw[MT];simp[iy];omega
 refine wy ?_;refine b5 (λq=>?_) λq=>?_;exact bad _ _;refine wy ?_;rw[<-ajp,<-eD] at dS
 rcases dS with⟨rfl,z⟩|⟨id,rfl,_⟩
 exact bad _ _;obtain⟨k,S⟩:=(dQ (aA (e5 (t:=.tok id) (fY (f:=ai) (l:=l++[t]) λa _=>aB _)) (aA (aB (.int .i64 0)) bT)):aW g _ _).done;exact⟨k,_,S,_,0,l++[t],rfl,ax rfl,by rw[pu];omega⟩
def IL{X:List aa}(h0:X[0]?=some (.cells d_ false)):aE X 4 (.mp 0 0) (.agg d_)=some (X.set 0 (.cells d_ false))/\aq (X.set 0 (.cells d_ false)) true 4 (.mp 0 0)=some (.agg d_)/\∃n aM,b7 (X.set 0 (.cells d_ false)) n (.aK [.agg d_,.v (.bool false)])=some aM/\BI aM:=
 ⟨xz h0 rfl (x:=d_) rfl rfl,(IM (aO (a:=.cells d_ false) (gl h0))).2,E2 (uu _)⟩
@[go_sem]def afm{h:List aa}{k:Nat}{nm:List UInt8}{v:Int}{al:Bool}{bv:U}(O:h[k]?=some (.cells (c_ nm v al bv) false)):aq h false 1 (.mp k 1)=some (.v (.int .i64 v)):=by
 simp only[aq,O];rfl
def auH{ls:List (List UInt8)}(hv:bH v (ls.map ai))(hlen:ls.length<=100000)(hw:∀w∈ls,w.length<=100000)(V:2<=ls.length):cC G ay 142 [v] BI:=by
 refine cU (ar8.go ?_);obtain⟨n1,mW⟩:∃n,ls[1]?=some n:=⟨ls[1],br aCs⟩;have e1:bw 1 v (.v (.int .i64 1))=some (.fp [ai n1] 0):=hv.bC (i:=1) (x:=ai n1) (by simp[mW]) rfl;have f1:∀x:List UInt8,cq d_ [(0,1,ai x)]=some (c_ x 0 false .af):=λx=>rfl;have f0:cq d_ []=some d_:=rfl;have hz:[bO (.string ⟨[].toArray⟩),.v (.int .i64 0),.v (.bool false),.af]=d_:=rfl;have s1:aE [.cells d_ false,.cells d_ false] 4 (.mp 1 0) (.agg (c_ n1 0 false .af))=some [.cells d_ false,.cells (c_ n1 0 false .af) false]:=xz (k:=1) rfl rfl rfl rfl;have ln:=hv.bL;rw[bX] at ln;refine wy ?_;refine b9 (λn e h=>∃(l:List (List UInt8)) (ak:U),e=[(0,v),(2,.mp 0 0),(4,.mp 1 0),(5,ak),(6,.v (.int .i64 ((2+n:Nat):Int)))]/\h[0]?=some (.cells d_ false)/\(∃x,h[1]?=some (.cells x false)/\lM x)/\bU h ak (l.map ai) 1 9/\l.length<=n) (ls.length-2)
  ⟨[],.af,rfl,rfl,⟨_,rfl,n1,0,false,.af,rfl,uu _⟩,p4 _ _ _,aCt⟩ ?_ ?_
 rintro n e h hn ⟨l,ak,rfl,h0,⟨x,Y,nm,pY,al,bv,rfl,tD⟩,hA,hl⟩;obtain⟨w,hwi⟩:∃w,ls[2+n]?=some w:=⟨ls[2+n]' aCs,br aCs⟩;have Ax:=hw w (bA hwi);have e2:bw 1 v (.v (.int .i64 ((2+n:Nat):Int)))=some (.fp [ai w] 0):=hv.bC (x:=ai w) (by simp[hwi]) rfl;have wn:bP.wrap (((2+n:Nat):Int)+1)=((2+(n+1):Nat):Int):=by rw[jd aCs];rfl
 obtain⟨v',y1,eu,jT⟩:=zK hA zX;refine wy ?_;refine dh (YY w aCs) ?_;rintro r ⟨a,b,f,rfl,hal,L5⟩;obtain⟨bf,g,p1,pA,_,_,gr⟩:=kQ (x:=ai a) (aZ:=16) hA (vn l) rfl aCu aCu aCv;have gy:∀{j:Nat} {c:aa},h[j]?=some c->(∀x n e,c≠.tok x n e)->g[j]?=some c:=λq O=>gr _ _ q λxs z=>by
  rcases hA with⟨aT,_⟩|⟨id,aT,z2⟩
  rw[aT] at z;cases z;rw[aT] at z;cases z;rw[q] at z2;cases z2;exact O _ _ _ rfl
 have k0:=gy h0 aCt;have k1:=gy Y aCt;have I5:bU g bf ((l++[a]).map ai) 1 9:=by rw[eD];exact pA
 have ab:dy 1 [ai a]=some (.sl [ai a] .exact):=rfl;have qs:=gl k1;obtain⟨m1,m2,m3⟩:=IL k0;have one:f=true\/f=false:=by cases f<;>simp
 rcases one with rfl|rfl
 · refine wy ?_
   refine dh (L2 y1 aCs a) ?_;rintro r ⟨b2,rfl⟩;cases b2
   all_goals
    refine wy ?_;refine b5 (λq=>?_) λq=>?_
    · refine dh (Vt b aCs) ?_
      rintro r ⟨z,rfl,_,_⟩;have st:=M3 k1 z;have i1:(g.set 1 (.cells (c_ nm z al bv) false))[1]?=some (.cells (c_ nm z al bv) false):=aO qs;have i0:(g.set 1 (.cells (c_ nm z al bv) false))[0]?=some (.cells d_ false):=by rw[av aCs];exact k0
      have aqy:=ie (cs':=c_ nm z al bv) I5 k1;obtain⟨u1,u2,u3⟩:=IL i0;refine lD @st (afm i1) @u1 @u2 @wn ?_
      repeat' ((refine ba (λq'=>?_) λq'=>?_)<;>refine y8 @vL @rK @f0 @u1 @u2 @wn ?_)
      all_goals first
       |exact u3
       |exact⟨l++[a],bf,rfl,i0,⟨_,i1,nm,z,al,bv,rfl,tD⟩,aqy,aCv⟩
    refine b5 (λah=>?_) λah=>?_
    · refine dh (S4 b aCs) ?_
      rintro r ⟨fB,eS,ok,rfl,q4⟩;have st:=M4 k1 fB;have i1:=aO (a:=.cells (c_ nm pY fB bv) false) qs;have rD:=M5 i1 q4.one.1 q4.one.2;have j1:((g.set 1 (.cells (c_ nm pY fB bv) false)).set 1 (.cells (c_ nm pY fB eS) false))[1]?=some (.cells (c_ nm pY fB eS) false):=aO (by simpa using qs);have yF:((g.set 1 (.cells (c_ nm pY fB bv) false)).set 1 (.cells (c_ nm pY fB eS) false))[0]?=some (.cells d_ false):=by rw[av aCs,av aCs];exact k0
      have ara:=ie (cs':=c_ nm pY fB eS) (ie (cs':=c_ nm pY fB bv) I5 k1) i1;obtain⟨u1,u2,u3⟩:=IL yF;cases ok
      all_goals
       refine lD @st @rD @u1 @u2 @wn ?_
       first
        |exact u3
        |exact⟨l++[a],bf,rfl,yF,⟨_,j1,nm,pY,fB,eS,rfl,q4⟩,ara,aCv⟩
    refine fm @m1 @m2 ?_;exact m3
 refine wy ?_;refine b5 (λq=>?_) λq=>?_;refine dh (Vt b aCs) ?_;rintro r ⟨z,rfl,_,_⟩;have st:=M3 k1 z;have i0:(g.set 1 (.cells (c_ nm z al bv) false))[0]?=some (.cells d_ false):=by rw[av aCs];exact k0
 obtain⟨u1,u2,u3⟩:=IL i0;exact eV @st @u1 @u2 u3;refine b5 (λah=>?_) λah=>?_;refine dh (S4 b aCs) ?_;rintro r ⟨fB,eS,ok,rfl,q4⟩;have st:=M4 k1 fB;have i1:=aO (a:=.cells (c_ nm pY fB bv) false) qs;have rD:=M5 i1 q4.one.1 q4.one.2;have yF:((g.set 1 (.cells (c_ nm pY fB bv) false)).set 1 (.cells (c_ nm pY fB eS) false))[0]?=some (.cells d_ false):=by rw[av aCs,av aCs];exact k0
 obtain⟨u1,u2,u3⟩:=IL yF;exact kY @st @rD @u1 @u2 u3;refine fm @m1 @m2 ?_;exact m3;rintro e h ⟨l,ak,rfl,h0,⟨x,Y,nm,pY,al,bv,rfl,tD⟩,hA,hl⟩;have kX:=xz h0 rfl (x:=c_ nm pY al bv) rfl (Tp tD.one.1);exact wx (E2 tD)
end
end
section
variable{J:List aa}{bp mv v:U}{ex nm:List UInt8}{al i aY p:Bool}{a:Int}
def Sep(v w:U):Prop:=∀id xs ys,v=.sl xs (.tok id)->w=.sl ys (.tok id)->False
def XE{x w:U}{xs ys:List U}{n aZ m:Nat}{e e2:TypeId}(hA:bU J v xs n e)(hW:bU J w ys m e2)(hs:Sep v w)(I:bS n xs=true)(hy:bS n [x]=true)(hn:0<n)(O:0<aZ)(hfit:(xs.length+1)*aZ<=140737488355328):
  ∃v' hp',cM J n aZ e v (.sl [x] .exact)=some (v',hp')/\bU hp' v' (xs++[x]) n e/\bU hp' w ys m e2/\Sep v' w/\bl v'=true/\v'.cells=[v']/\∀(j:Nat) b,J[j]?=some b->(∀a c d,b≠.tok a c d)->hp'[j]?=some b:=by
 rcases hA with⟨rfl,rfl⟩|⟨id,rfl,S⟩
 refine⟨.sl ([]++[x]) (.tok J.length),J++[.tok 1 n e],?_,az ⟨J.length,rfl,aCt⟩,?_,?_,rfl,rfl,λj b h _=>aJ h⟩;simp only[fI,e6] at hfit;simp only[cM,fA,gp,contents,hy,hn,O];simp;omega
 rcases hW with z|⟨i2,aT,z2⟩
 exact ax z;exact az ⟨i2,aT,aJ z2⟩;intro i a c Y V;cases Y
 rcases hW with⟨z,_⟩|⟨i2,aT,z2⟩
 rw[z] at V;cases V;rw[aT] at V;cases V;have:=(bF.1 z2).1;omega;have hl:id<J.length:=(bF.1 S).1;refine⟨.sl (xs++[x]) (.tok id),J.set id (.tok (xs.length+1) n e),?_,az ⟨id,rfl,aDi⟩,?_,?_,rfl,rfl,λj b h hne=>?_⟩;simp[cM,fA,gp,contents,hy,hn,O,hfit,I,S]
 rcases hW with z|⟨i2,aT,z2⟩
 exact ax z;refine az ⟨i2,aT,?_⟩;rw[av (λq=>hs id xs ys rfl (by rw[q];exact aT))];exact z2;intro i a c Y V;cases Y;exact hs id xs c rfl V;rw[av (λq=>by subst q;rw[S] at h;cases h;exact hne _ _ _ rfl)];exact h
def rT(x:List U):Prop:=∃nm bp i p aY a al mv ex,x=cY nm bp i p aY a al mv ex/\gm 5 bp/\gm 100001 mv/\ex.length<=100000000
def Pj(r:U):Prop:=∃(x:List U) (b:Bool),r=.aK [.agg x,.v (.bool b)]/\rT x
def Nc{b:Bool}{gs:List (List UInt8)}(hA:bU J bp (gs.map ai) 1 9)(hg:gs.length<=5)(hm:gm 100001 mv)(he:ex.length<=100000000):
  ∃n aM,b7 J n (.aK [.agg (cY nm bp i p aY a al mv ex),.v (.bool b)])=some aM/\Pj aM:=by
 obtain⟨v',aT,z2⟩:=PI hA hg;obtain⟨n,hn⟩:=(dQ (aA (iC (aA (aB _) (aA aT (aA (aB _) (aA (aB _) (aA (aB _) (aA (aB _) (aA (aB _) (aA (hm.fz J) (aA (aB _) bT)))))))))) (aA (aB (.bool b)) bT)):aW J (.aK [.agg (cY nm bp i p aY a al mv ex),.v (.bool b)]) _).done;exact⟨n,_,hn,_,b,rfl,nm,v',i,p,aY,a,al,mv,ex,rfl,z2,hm,he⟩
def E5{X:List aa}(h0:X[0]?=some (.cells eT false)):aE X 9 (.mp 0 0) (.agg eT)=some (X.set 0 (.cells eT false))/\aq (X.set 0 (.cells eT false)) true 9 (.mp 0 0)=some (.agg eT)/\∃n aM,b7 (X.set 0 (.cells eT false)) n (.aK [.agg eT,.v (.bool false)])=some aM/\Pj aM:=
 ⟨tS h0 rfl (x:=eT) rfl rfl,(sA (aO (a:=.cells eT false) (bF.1 h0).1)).2.2,Nc (gs:=[]) (ax ⟨rfl,rfl⟩) aCt (uu _) aCu⟩
@[go_sem]def afB{h:List aa}{k:Nat}(O:h[k]?=some (.cells (cY nm bp i p aY a al mv ex) false)):aq h false 1 (.mp k 5)=some (.v (.int .i64 a)):=by
 simp only[aq,O];rfl
def Pf(n:Nat)(h:List aa)(ak:U):Prop:=∃(l gs:List (List UInt8)) (nm:List UInt8) (bp:U) (i p aY:Bool) (a:Int) (al:Bool) (mv:U),h[0]?=some (.cells eT false)/\h[1]?=some (.cells (cY nm bp i p aY a al mv []) false)/\bU h ak (l.map ai) 1 9/\l.length<=n/\bU h bp (gs.map ai) 1 9/\gs.length<=4/\Sep ak bp/\gm 100001 mv
section
variable{G:Cells}
set_option maxHeartbeats 1000000 in
def avs{v:U}{ls:List (List UInt8)}(hv:bH v (ls.map ai))(Mg:iy ls<=90000)(V:2<=ls.length):cC G ay 143 [v] Pj:=by
 refine cU (ar9.go ?_);have hlen:=EX ls;have hw:∀w∈ls,w.length<=90000:=λw hm=>fy (ae2 hm) Mg;obtain⟨n1,mW⟩:∃n,ls[1]?=some n:=⟨ls[1],br aCs⟩;have e1:bw 1 v (.v (.int .i64 1))=some (.fp [ai n1] 0):=hv.bC (i:=1) (x:=ai n1) (by simp[mW]) rfl;have f1:∀x:List UInt8,cq eT [(0,1,ai x),(4,1,.v (.bool true))]=some (cY x .af false false true 0 false .af []):=λx=>rfl;have f0:cq eT []=some eT:=rfl;have hz:[bO (.string ⟨[].toArray⟩),.af,.v (.bool false),.v (.bool false),.v (.bool false),.v (.int .i64 0),.v (.bool false),.af,.v (.string ⟨[].toArray⟩)]=eT:=rfl;have s1:aE [.cells eT false,.cells eT false] 9 (.mp 1 0) (.agg (cY n1 .af false false true 0 false .af []))=some [.cells eT false,.cells (cY n1 .af false false true 0 false .af []) false]:=tS (k:=1) rfl rfl rfl rfl;have ln:=hv.bL;rw[bX] at ln;have jN:∀J,bL v J=some (.v (.int .i64 (ls.length:Int)),J):=λJ=>aDf
 obtain⟨aB1,t0,hvs⟩:∃(a b:Nat),v=.sl (ls.map ai) .no:=by
  rcases hv with z|⟨_,z⟩
  exact⟨0,0,z⟩;have:ls=[]:=aCT
  rw[this] at V;simp at V
 refine JO @hz @e1 @f1 @s1 @eH.{0} @gP.{0} @fI.{0} @di.{0} ?_;refine b9 (λn e h=>∃ak:U,e=[(0,v),(2,.mp 0 0),(4,.mp 1 0),(5,ak),(6,.v (.int .i64 ((2+n:Nat):Int)))]/\Pf n h ak) (ls.length-2)
  ⟨.af,rfl,[],[],n1,.af,false,false,true,0,false,.af,rfl,rfl,p4 _ _ _,aCt,p4 _ _ _,aCt,(by intro id xs ys q;cases q),uu _⟩ ?_ ?_
 · rintro n e h hn ⟨ak,rfl,l,gs,nm,bp,ib,pb,aY,aU,al,mv,h0,Y,hA,hl,Al,ja,hsp,jx⟩
   obtain⟨w,hwi⟩:∃w,ls[2+n]?=some w:=⟨ls[2+n]' aCs,br aCs⟩;have Ax:=hw w (bA hwi);have e2:bw 1 v (.v (.int .i64 ((2+n:Nat):Int)))=some (.fp [ai w] 0):=hv.bC (x:=ai w) (by simp[hwi]) rfl;have wn:bP.wrap (((2+n:Nat):Int)+1)=((2+(n+1):Nat):Int):=by rw[jd aCs];rfl
   have CQ:decide (((2+n:Nat):Int)<(ls.length:Int))=true:=GY aCs;have amo:cr .eql (ai w) (.v (.string ⟨[58].toArray⟩))=some (.v (.bool (w==[58]))):=mm w [58];have Hw:=(bF.1 Y).1;have LS:bl bp=true:=(wA Al).1;refine kg @jN @CQ @e2 @amo ?_;refine bI (λq=>?_) λq=>?_;have ame:∀J,pU 1 v (some (.v (.int .i64 ((2+(n+1):Nat):Int)))) none none J=some (.sl ((ls.drop (2+(n+1))).map ai) .no,J):=λJ=>by
    rw[hvs,List.map_drop];exact NV aCv Od J
   have hd:=S6 ls (2+(n+1));refine gj @q @wn @ame ?_;refine gO (ard (v:=.sl ((ls.drop (2+(n+1))).map ai) .no) (ax rfl) aCs) (bn (nZ (ax rfl)) cx) ?_;rintro r ⟨t,rfl,ht⟩;refine dP ?_;refine gO (af_ t aCs) (bn (r4 _) cx) ?_;rintro r ⟨v2,ps,NC,wO,rfl,hE⟩;have S5:=hE.v.bL;rw[bX] at S5;have auh:∀J,bL v2 J=some (.v (.int .i64 (ps.length:Int)),J):=λJ=>by rw[S5 J,kT]
   have fV:=aO (a:=.cells (cY nm bp ib pb false aU al mv []) false) Hw;have r_:(h.set 1 (.cells (cY nm bp ib pb false aU al mv []) false))[0]?=some (.cells eT false):=by rw[av aCs];exact h0
   have Q9:=ie (cs':=cY nm bp ib pb false aU al mv []) Al Y;have gi:=afF Y false;generalize h.set 1 (.cells (cY nm bp ib pb false aU al mv []) false)=g at fV r_ Q9 gi;refine kH @gi @auh ?_;refine bI (λah=>?_) λah=>?_;have hne:ps≠[]:=by intro z;rw[z] at ah;simp at ah
   refine dr @ah ?_;refine gO (axW hE aCs hne) (bn (yl hE) cx) ?_;rintro r ⟨tx,rfl,abE⟩;have qD:=afH fV tx;have ao_:=(bF.1 fV).1;have gI:=aO (a:=.cells (cY nm bp ib pb false aU al mv tx) false) ao_;have mT:(g.set 1 (.cells (cY nm bp ib pb false aU al mv tx) false))[0]?=some (.cells eT false):=by rw[av aCs];exact r_
   have ank:=ie (cs':=cY nm bp ib pb false aU al mv tx) Q9 fV;have kX:=tS mT rfl (x:=cY nm bp ib pb false aU al mv tx) rfl (CX LS jx.one.1);have k0:=aO (a:=.cells (cY nm bp ib pb false aU al mv tx) false) (bF.1 mT).1;refine kg @qD ((sA gI).2.2) @kX ((sA k0).2.2) ?_;exact Nc (ie ank mT) aCs jx aCs;have kX:=tS r_ rfl (x:=cY nm bp ib pb false aU al mv []) rfl (CX LS jx.one.1);have k0:=aO (a:=.cells (cY nm bp ib pb false aU al mv []) false) (bF.1 r_).1;refine kg @ah ((sA fV).2.2) @kX ((sA k0).2.2) ?_;exact Nc (ie Q9 r_) aCs jx aCu;obtain⟨v',y1,eu,jT⟩:=zK hA zX;obtain⟨aA_,x1,x2,x3⟩:=zK Al zX;refine kH @q @e2 ?_;refine gO (YY w aCs) (bn (r4 _) cx) ?_;rintro r ⟨a,b,f,rfl,hal,L5⟩;refine dP ?_;refine gO (L2 y1 aCs a) (bn eu (bn (r4 _) cx)) ?_;rintro r ⟨c0,rfl⟩;obtain⟨bf,g,p1,pA,TY,af9,_,_,gr⟩:=XE (x:=ai a) (aZ:=16) hA Al hsp (vn l) rfl aCu aCu aCv;have k0:=gr _ _ h0 aCt;have k1:=gr _ _ Y aCt;have I5:bU g bf ((l++[a]).map ai) 1 9:=by rw[eD];exact pA
   have ab:∀z:List UInt8,dy 1 [ai z]=some (.sl [ai z] .exact):=λz=>rfl;have G1:cr .eql (ai a) (.v (.string ⟨[103,114,111,117,112].toArray⟩))=some (.v (.bool (a==[103,114,111,117,112]))):=mm a [103,114,111,117,112];have Zf:cr .eql (ai a) (.v (.string ⟨[105,110,108,105,110,101].toArray⟩))=some (.v (.bool (a==[105,110,108,105,110,101]))):=mm a [105,110,108,105,110,101];have Zh:cr .eql (ai a) (.v (.string ⟨[112,105,99,107].toArray⟩))=some (.v (.bool (a==[112,105,99,107]))):=mm a [112,105,99,107];have ea:cr .eql (ai a) (.v (.string ⟨[97,116,116,114].toArray⟩))=some (.v (.bool (a==[97,116,116,114]))):=mm a [97,116,116,114];have em:cr .eql (ai a) (.v (.string ⟨[109,97,114,107,115].toArray⟩))=some (.v (.bool (a==[109,97,114,107,115]))):=mm a [109,97,114,107,115];have qs:=(bF.1 k1).1;have aeF:(l++[a]).length<=n+1:=aCv
   obtain⟨m1,m2,m3⟩:=E5 k0;clear gr h0 Y hA Al;have ae1:=BO TY;rw[bX] at ae1;have K:∀(i2 p2:Bool) (a2:Int) (fB:Bool) (jO:U),gm 100001 jO->(g.set 1 (.cells (cY nm bp i2 p2 aY a2 fB jO []) false))[1]?=some (.cells (cY nm bp i2 p2 aY a2 fB jO []) false)/\(g.set 1 (.cells (cY nm bp i2 p2 aY a2 fB jO []) false))[0]?=some (.cells eT false)/\Pf (n+1) (g.set 1 (.cells (cY nm bp i2 p2 aY a2 fB jO []) false)) bf:=λi2 p2 a2 fB jO hm=>by
    have j1:(g.set 1 (.cells (cY nm bp i2 p2 aY a2 fB jO []) false))[1]?=some (.cells (cY nm bp i2 p2 aY a2 fB jO []) false):=aO qs;have yF:(g.set 1 (.cells (cY nm bp i2 p2 aY a2 fB jO []) false))[0]?=some (.cells eT false):=by rw[av aCs];exact k0
    exact⟨j1,yF,l++[a],gs,nm,bp,i2,p2,aY,a2,fB,jO,yF,j1,ie I5 k1,aeF,ie TY k1,ja,af9,hm⟩
   obtain⟨aB7,auY,auZ⟩:=K true pb aU al mv jx;obtain⟨aB8,au0,au1⟩:=K ib true aU al mv jx;obtain⟨azp,azq,azs⟩:=E5 auY;obtain⟨azt,azu,azv⟩:=E5 au0;have t2:=afD k1 true;have t3:=afE k1 true;have av0:Sep bp bf:=λid xs ys Y V=>af9 id ys xs V Y;obtain⟨Ac,g5,r1,awz,awC,awA,ro,rc,tY⟩:=XE (x:=ai b) (aZ:=16) TY I5 av0 (vn gs) rfl aCu aCu aCv;have yF:=tY _ _ k0 aCt;have j1:=tY _ _ k1 aCt;have Oa:=Tz j1 ro rc;have Cp:=(bF.1 j1).1;have aT:(g5.set 1 (.cells (cY nm Ac ib pb aY aU al mv []) false))[1]?=some (.cells (cY nm Ac ib pb aY aU al mv []) false):=aO Cp;have z0:(g5.set 1 (.cells (cY nm Ac ib pb aY aU al mv []) false))[0]?=some (.cells eT false):=by rw[av aCs];exact yF
   have aAi:bU (g5.set 1 (.cells (cY nm Ac ib pb aY aU al mv []) false)) Ac ((gs++[b]).map ai) 1 9:=by rw[eD];exact ie awz j1
   have awB:Sep bf Ac:=λid xs ys Y V=>awA id ys xs V Y;have aAj:gs.length<4->Pf (n+1) (g5.set 1 (.cells (cY nm Ac ib pb aY aU al mv []) false)) bf:=λh4=>
    ⟨l++[a],gs++[b],nm,Ac,ib,pb,aY,aU,al,mv,z0,aT,ie awC j1,aeF,aAi,aCv,awB,jx⟩
   obtain⟨Ol,u32,Vl⟩:=E5 z0;have IC:=(sA k1).2.1;cases f with
   |false=>
    cases c0
    all_goals
     refine gj @ab @p1 @G1 ?_
     repeat' ((refine bI (λq=>?_) λq=>?_)<;>(have q':=q)<;>(simp -failIfUnchanged only[nq] at q')<;>(refine sJ (cu @vL @rK @ab @p1) (cu @G1 @Zf @Zh @ea) (cu @em @kB @t2 @t3) (cu @f0 @m1 @m2 @azp) @azq @azt @azu @wn @q ?_))
    all_goals first
     |exact m3
     |exact azs
     |exact azv
     |exact⟨_,rfl,auZ⟩
     |exact⟨_,rfl,au1⟩
   |true=>
    cases c0
    all_goals
     refine gj @ab @p1 @G1 ?_;refine bI (λUj=>?_) λUj=>?_
     · refine dr @Uj ?_
       refine gO (Ts b aCs) (bn (r4 _) cx) ?_;rintro r ⟨b2,rfl⟩;cases b2 with
       |false=>
        refine mF @IC @ab @r1 @Oa @f0 @Ol @u32 ?_;exact Vl
       |true=>
        refine dr @IC ?_;refine gO (L2 x1 aCs b) (bn x2 (bn (r4 _) cx)) ?_;rintro r ⟨b3,rfl⟩;cases b3 with
        |true=>
         refine mF @IC @ab @r1 @Oa @f0 @Ol @u32 ?_;exact Vl
        |false=>
         refine sJ @IC @ae1 @ab @r1 @Oa @f0 @Ol @u32 @wn ?_
         repeat' ((refine bI (λq=>?_) λq=>?_)<;>(have q':=q)<;>(simp -failIfUnchanged only[nq] at q')<;>(refine sJ (cu @vL @rK @kB @IC) @ab @r1 @Oa @f0 @Ol @u32 @wn @q ?_))
         all_goals first
          |exact Vl
          |exact⟨_,rfl,aAj aCs⟩
     refine kH @Uj @Zf ?_;refine bI (λagq=>?_) λagq=>?_
     all_goals
      refine kH @agq @Zh ?_;refine bI (λags=>?_) λags=>?_
      all_goals
       refine kH @ags @ea ?_;refine bI (λUi=>?_) λUi=>?_
       · refine dr @Ui ?_
         refine gO (Vt b aCs) (bn (r4 _) cx) ?_;rintro r ⟨z,rfl,_,_⟩;obtain⟨w1,w2,w3⟩:=K ib pb z al mv jx;obtain⟨Om,On,Vm⟩:=E5 w2;have t5:=afG k1 z;refine y8 @t5 (afB w1) @f0 @Om @On @wn ?_
         repeat' ((refine bI (λq=>?_) λq=>?_)<;>(have q':=q)<;>(simp -failIfUnchanged only[nq] at q')<;>(refine mF @vL @rK @f0 @Om @On @wn @q ?_))
         all_goals first
          |exact Vm
          |exact⟨_,rfl,w3⟩
       refine kH @Ui @em ?_;refine bI (λxE=>?_) λxE=>?_
       · refine dr @xE ?_
         refine gO (S4 b aCs) (bn (r4 _) cx) ?_;rintro r ⟨fB,eS,ok,rfl,q4⟩;obtain⟨w1,w2,w3⟩:=K ib pb aU fB eS q4;obtain⟨Om,On,Vm⟩:=E5 w2;have t6:=TA k1 fB;have i1:=aO (a:=.cells (cY nm bp ib pb aY aU fB mv []) false) qs;have t7:=TB i1 q4.one.1 q4.one.2;rw[ajz] at t7;cases ok
         all_goals
          refine y8 @t6 @t7 @f0 @Om @On @wn ?_
          first
           |exact Vm
           |exact⟨_,rfl,w3⟩
       refine kg @xE @f0 @m1 @m2 ?_;exact m3
 rintro e h ⟨ak,rfl,l,gs,nm,bp,ib,pb,aY,aU,al,mv,h0,Y,hA,hl,Al,ja,hsp,jx⟩;have LS:bl bp=true:=(wA Al).1;have kX:=tS h0 rfl (x:=cY nm bp ib pb aY aU al mv []) rfl (CX LS jx.one.1);have k0:=aO (a:=.cells (cY nm bp ib pb aY aU al mv []) false) (bF.1 h0).1;have CQ:decide (((2+(ls.length-2):Nat):Int)<(ls.length:Int))=false:=GX aCs;refine nL @jN @CQ ((sA Y).2.2) @kX ((sA k0).2.2) ?_;exact Nc (ie Al h0) aCs jx aCu
end
end
section
variable{x:List U}
def rT.ok(h:rT x):x.length=9/\x.all bl=true/\∃nm,x[0]?=some (ai nm):=by
 obtain⟨nm,bp,i,p,aY,a,al,mv,ex,rfl,hg,hm,_⟩:=h;exact⟨rfl,CX hg.one.1 hm.one.1,nm,rfl⟩
abbrev Wx:=qM 127 174 rT
structure BB(au mv:U)(nodes marks:List (List U))(h:List aa):Prop where
 n:bU h au (nodes.map b8) 9 127
 m:bU h mv (marks.map b8) 4 174
 kF:∀x∈nodes,rT x
 fj:∀x∈marks,lM x
 nl:nodes.length<=24
 ml:marks.length<=8
def WC(J hp':List aa):Prop:=J.length<=hp'.length/\∀(j:Nat) Z fz,J[j]?=some (.cells Z fz)->hp'[j]?=some (.cells Z fz)
def WR(J:List aa)(r:U)(hp':List aa):Prop:=∃au mv nodes marks,∃e:Int,r=.aK [.agg [au,mv],.v (.int .i64 e)]/\BB au mv nodes marks hp'/\WC J hp'
structure vW(J:List aa)(K:Nat)(au mv:U)(nodes marks:List (List U))(g:List aa):Prop where
 s:Wx K au mv nodes marks g
 r:g[K+1]?=some (.cells [.af,.af] false)
 ge:J.length<=K
 fr:WC J g
section
variable{J:List aa}{K:Nat}{au mv:U}{nodes marks:List (List U)}{g:List aa}
def vW.app{x:List aa}(s:vW J K au mv nodes marks g):vW J K au mv nodes marks (g++x):=⟨s.s.app,aJ s.r,s.ge,⟨by have:=s.fr.1;simp;omega,λj Z fz h=>aJ (s.fr.2 j Z fz h)⟩⟩
def vW.put(s:vW J K au mv nodes marks g){iL lq:U}{nodes' marks':List (List U)}{g':List aa}(hk:Wx K iL lq nodes' marks' g')(hB:f_ K g g'):vW J K iL lq nodes' marks' g':=
 ⟨hk,hB.2 _ _ _ aCs s.r,s.ge,⟨fy s.fr.1 hB.1,λj Z fz h=>by
  have hj:=gl h;have hg:=s.ge;exact hB.2 _ _ _ aCs (s.fr.2 j Z fz h)⟩⟩
def vW.ret(s:vW J K au mv nodes marks g):aE g 2 (.mp (K+1) 0) (.agg [au,mv])=some (g.set (K+1) (.cells [au,mv] false))/\aq (g.set (K+1) (.cells [au,mv] false)) true 2 (.mp (K+1) 0)=some (.agg [au,mv])/\∀e:Int,WR J (.aK [.agg [au,mv],.v (.int .i64 e)]) (g.set (K+1) (.cells [au,mv] false)):=by
 have o1:=wA s.s.n;have o2:=wA s.s.m;have hl:=gl s.r;have hg:=s.ge;have hs:=aO (a:=.cells [au,mv] false) hl;refine⟨?_,?_,λe=>⟨au,mv,nodes,marks,e,rfl,⟨ie s.s.n s.r,ie s.s.m s.r,s.s.kF,s.s.fj,s.s.nl,s.s.ml⟩,⟨by have:=s.fr.1;simp;omega,λj Z fz h=>?_⟩⟩⟩;simp only[aE,s.r,dG];have e:(b8 [au,mv]).cells=[au,mv]:=rfl;rw[e];simp[o1.1,o2.1,putAt];simp only[aq,hs];rfl;have hj:=gl h;rw[av aCs];exact s.fr.2 j Z fz h
end
section
variable{G:Cells}
def akj{v:U}{ls:List (List UInt8)}(hv:bH v (ls.map ai))(T:dm v)(Mg:iy ls<=90000){au mv:U}{nodes marks:List (List U)}{J:List aa}(iZ:BB au mv nodes marks J):bq G ay 79 [.agg [au,mv],v] J (WR J):=by
 refine arG.go ?_;have hlen:=EX ls;have hw:∀w∈ls,w.length<=90000:=λw hm=>fy (ae2 hm) Mg;have ln:=hv.bL;rw[bX] at ln;have abJ:[bO (.string ⟨[].toArray⟩),.v (.int .i64 0),.v (.bool false),.af]=d_:=rfl;have Iq:[bO (.string ⟨[].toArray⟩),.af,.v (.bool false),.v (.bool false),.v (.bool false),.v (.int .i64 0),.v (.bool false),.af,.v (.string ⟨[].toArray⟩)]=eT:=rfl;refine cB (λe g=>e=[(1,v),(2,.mp J.length 0),(4,.mp (J.length+1) 0)]/\vW J J.length au mv nodes marks g) ?_ ?_;refine fG @cG.{0} ?_;have b0:(J++[aj [au,mv] false]++[aj [.af,.af] false])[J.length]?=some (.cells [au,mv] false):=aJ aCt;have b1:(J++[aj [au,mv] false]++[aj [.af,.af] false])[J.length+1]?=some (.cells [.af,.af] false):=aCt
 have A:vW J J.length au mv nodes marks (J++[aj [au,mv] false]++[aj [.af,.af] false]):=⟨⟨b0,iZ.n.ext.ext,iZ.m.ext.ext,iZ.kF,iZ.fj,iZ.nl,iZ.ml⟩,b1,bg _,⟨aCt,λj Z fz h=>aJ (aJ h)⟩⟩
 first|exact⟨rfl,A⟩|exact⟨trivial,A⟩
 rintro e g ⟨rfl,A⟩;generalize J.length=K at A;obtain⟨r1,r2,hD⟩:=A.ret;have S2:=A.s.eE.2.2;refine wy (bI (λq=>?_) λq=>?_);exact kY @q @S2 @r1 @r2 (hD _);have V:2<=ls.length:=aCB
 obtain⟨n1,mW⟩:∃n,ls[1]?=some n:=⟨ls[1],br aCs⟩;obtain⟨n0,hn0⟩:∃n,ls[0]?=some n:=⟨ls[0],br aCs⟩;have e1:bw 1 v (.v (.int .i64 1))=some (.fp [ai n1] 0):=hv.bC (i:=1) (x:=ai n1) (by simp[mW]) rfl;have e0:bw 1 v (.v (.int .i64 0))=some (.fp [ai n0] 0):=hv.bC (i:=0) (x:=ai n0) (by simp[hn0]) rfl;have w1:=hw n1 (bA mW);have k1:cr .neq (ai n0) (.v (.string ⟨[110,111,100,101].toArray⟩))=some (.v (.bool !(n0==[110,111,100,101]))):=vk n0 [110,111,100,101];have k2:cr .neq (ai n0) (.v (.string ⟨[109,97,114,107].toArray⟩))=some (.v (.bool !(n0==[109,97,114,107]))):=vk n0 [109,97,114,107];have dY:cr .eql (ai n0) (.v (.string ⟨[109,97,114,107].toArray⟩))=some (.v (.bool (n0==[109,97,114,107]))):=mm n0 [109,97,114,107];refine wy ?_;refine dh (Ts n1 aCs) ?_;rintro r ⟨b,rfl⟩;cases b with
 |false=>
  exact eV @S2 @r1 @r2 (hD _)
 |true=>
  have Es:n0=[109,97,114,107]\/n0=[110,111,100,101]\/((n0==[110,111,100,101])=false/\(n0==[109,97,114,107])=false):=by
   by_cases x:n0=[109,97,114,107];exact ax x;by_cases y:n0=[110,111,100,101];exact az (ax y);exact az (az ⟨by simpa using y,by simpa using x⟩)
  rcases Es with x|x|⟨x,y⟩
  have aT:(n0==[110,111,100,101])=false:=by rw[x];rfl
  have z2:(n0==[109,97,114,107])=true:=by rw[x];rfl
  refine uo @e0 @k1 @k2 @dY @aT @z2 ?_;refine dh (auH hv aCs (λw hm=>by have:=hw w hm;omega) V) ?_;rintro r ⟨x,ok,rfl,I⟩;obtain⟨hx1,hx2,nm,hnm⟩:=I.ok;have nn:=To g hx1 hx2;have A1:=A.app (x:=[aj x false]);have kx:(g++[aj x false])[g.length]?=some (.cells x false):=aCt
  refine wy ?_;generalize g.length=m at kx⊢;generalize g++[aj x false]=g1 at A1 kx⊢;obtain⟨s1,s2,cW⟩:=A1.ret;obtain⟨d0,d1,d2⟩:=A1.s.eE;have hml:=A1.s.ml;cases ok with
  |false=>
   exact eV @d2 @s1 @s2 (cW _)
  |true=>
   refine wy ?_;refine b9 (λj e h=>e=[(2,.mp K 0),(4,.mp (K+1) 0),(6,.mp m 0),(8,ag j)]/\h=g1) marks.length ⟨rfl,rfl⟩ ?_ ?_;rintro j e h hj ⟨rfl,rfl⟩;obtain⟨y,hy⟩:=cF hj;obtain⟨hy1,EP,Nb,Mj⟩:=(A1.s.fj y (bA hy)).ok;have lp:=(wB A1.s.m).bC hy hy1;refine p0 ((wB A1.s.m).len) (bI (λjP=>?_) λjP=>?_);exact kY @jP @d2 @s1 @s2 (cW _);exact wx rt;rintro e h ⟨rfl,rfl⟩;refine p0 ((wB A1.s.m).len) (bI (λjP=>?_) λjP=>?_);exact kY @jP @d2 @s1 @s2 (cW _);obtain⟨lq,g4,p1,p2,p3,gr⟩:=A1.s.agm I (by simp at jP;omega);have lx:aq h true 4 (.mp m 0)=some (.agg x):=by
    simp only[aq,kx];unfold dI;rw[if_pos rfl,if_pos aCs,ni,lH aCs]
   have ab:dy 4 [.agg x]=some (.sl [.agg x] .exact):=by
    have:=sB (n:=4) (xs:=[x]) λy hy=>aDl
    simp only[ep,kn] at this;simp[dy,this]
   have F7:=A1.put p3 gr;obtain⟨t1,t2,t3⟩:=F7.ret;exact oR @jP @d1 @lx @ab @p1 @p2 @F7.s.eE.2.2 @t1 @t2 (t3 _)
  have aT:(n0==[110,111,100,101])=true:=by rw[x];rfl
  have z2:(n0==[109,97,114,107])=false:=by rw[x];rfl
  refine uo @e0 @k1 @k2 @dY @aT @z2 ?_;refine dh (avs hv Mg V) ?_;rintro r ⟨x,ok,rfl,I⟩;obtain⟨hx1,hx2,nm,hnm⟩:=I.ok;have nn:=IW g hx1 hx2;have A1:=A.app (x:=[aj x false]);have kx:(g++[aj x false])[g.length]?=some (.cells x false):=aCt
  refine wy ?_;generalize g.length=m at kx⊢;generalize g++[aj x false]=g1 at A1 kx⊢;obtain⟨s1,s2,cW⟩:=A1.ret;obtain⟨d0,d1,d2⟩:=A1.s.eE;have u9:=A1.s.nl;cases ok with
  |false=>
   exact eV @d2 @s1 @s2 (cW _)
  |true=>
   refine wy (bI (λtX=>?_) λtX=>?_);exact kY @tX @d2 @s1 @s2 (cW _);refine wy ?_;refine b9 (λj e h=>e=[(2,.mp K 0),(4,.mp (K+1) 0),(9,.mp m 0),(11,ag j)]/\h=g1) nodes.length ⟨rfl,rfl⟩ ?_ ?_;rintro j e h hj ⟨rfl,rfl⟩;obtain⟨y,hy⟩:=cF hj;obtain⟨hy1,EP,Nb,Mj⟩:=(A1.s.kF y (bA hy)).ok;have lp:=(wB A1.s.n).bC hy hy1;refine p0 ((wB A1.s.n).len) (bI (λjP=>?_) λjP=>?_);exact kY @jP @d2 @s1 @s2 (cW _);exact wx rt;rintro e h ⟨rfl,rfl⟩;refine p0 ((wB A1.s.n).len) (bI (λjP=>?_) λjP=>?_);exact kY @jP @d2 @s1 @s2 (cW _);obtain⟨iL,g4,p1,p2,p3,gr⟩:=A1.s.agn rT.ok I (by simp at jP;omega);have lx:aq h true 9 (.mp m 0)=some (.agg x):=by
    simp only[aq,kx];unfold dI;rw[if_pos rfl,if_pos aCs,ni,lH aCs]
   have ab:dy 9 [.agg x]=some (.sl [.agg x] .exact):=by
    have:=sB (n:=9) (xs:=[x]) λy hy=>aDl
    simp only[ep,kn] at this;simp[dy,this]
   have F7:=A1.put p3 gr;obtain⟨t1,t2,t3⟩:=F7.ret;exact oR @jP @d0 @lx @ab @p1 @p2 @F7.s.eE.2.2 @t1 @t2 (t3 _)
  exact Bj @e0 @k1 @k2 @x @y @S2 @r1 @r2 (hD _)
end
end
section
variable{x:List U}{X J:List aa}{k:Nat}{a b:U}
def rT.fz(h:rT x)(J:List aa):aW J (.agg x) (.agg x):=by
 obtain⟨nm,bp,i,p,aY,a,al,mv,ex,rfl,hg,hm,_⟩:=h;exact iC (aA (aB _) (aA (hg.fz J) (aA (aB _) (aA (aB _) (aA (aB _) (aA (aB _) (aA (aB _) (aA (hm.fz J) (aA (aB _) bT)))))))))
def lM.Z_(h:lM x)(J:List aa):aW J (.agg x) (.agg x):=by
 obtain⟨nm,v,al,bv,rfl,O⟩:=h;exact iC (aA (aB _) (aA (aB _) (aA (aB _) (aA (O.fz J) bT))))
def agR{v:U}{xs:List (List U)}{n:Nat}{e:TypeId}(hA:bU J v (xs.map b8) n e)(h:∀x∈xs,aW J (.agg x) (.agg x)):∃v',aW J v v'/\bH v' (xs.map b8):=by
 rcases hA with⟨rfl,z⟩|⟨id,rfl,_⟩
 exact⟨_,cX,az ⟨rfl,z⟩⟩;exact⟨_,e5 (dK.MU h),ax rfl⟩
structure ov(au mv:U)(nodes marks:List (List U)):Prop where
 n:bH au (nodes.map b8)
 m:bH mv (marks.map b8)
 kF:∀x∈nodes,rT x
 fj:∀x∈marks,lM x
 nl:nodes.length<=24
 ml:marks.length<=8
def Wz(r:U):Prop:=∃au mv nodes marks,∃p e:Int,r=.aK [.agg [au,mv],.v (.int .i64 p),.v (.int .i64 e)]/\ov au mv nodes marks
def GU{au mv:U}{nodes marks:List (List U)}(h:BB au mv nodes marks J)(p e:Int):∃k aM,b7 J k (.aK [.agg [au,mv],.v (.int .i64 p),.v (.int .i64 e)])=some aM/\Wz aM:=by
 obtain⟨a,a1,a2⟩:=agR h.n λx I=>(h.kF x I).fz J;obtain⟨b,b1,b2⟩:=agR h.m λx I=>(h.fj x I).Z_ J;obtain⟨k,S⟩:=(dQ (aA (iC (aA a1 (aA b1 bT))) (aA (aB (.int .i64 p)) (aA (aB (.int .i64 e)) bT))):aW J _ _).done;exact⟨k,_,S,a,b,nodes,marks,p,e,rfl,a2,b2,h.kF,h.fj,h.nl,h.ml⟩
def GV(J:List aa):BB .af .af [] [] J:=⟨p4 _ _ _,p4 _ _ _,aCt,aCt,aCt,aCt⟩
@[go_sem]def FM{c d:U}(h:X[k]?=some (.cells [a,b] false))(Y:bl c=true)(V:bl d=true):aE X 2 (.mp k 0) (.agg [c,d])=some (X.set k (.cells [c,d] false)):=by
 simp only[aE,h,dG];have e:(b8 [c,d]).cells=[c,d]:=rfl;rw[e];simp[Y,V,putAt]
@[go_sem]def Ok(h:X[k]?=some (.cells [a,b] false)):aq X true 2 (.mp k 0)=some (.agg [a,b]):=by
 simp only[aq,h];rfl
section
variable{G:Cells}
def av1(s:List UInt8)(hs:s.length<=1000000):cC G ay 48 [ai s] Wz:=by
 refine cU (arl.go ?_);have f0:cq [.af,.af] []=some [.af,.af]:=rfl;have bad:∀X:List aa,X[0]?=some (.cells [.af,.af] false)->aE X 2 (.mp 0 0) (.agg [.af,.af])=some (X.set 0 (.cells [.af,.af] false))/\aq (X.set 0 (.cells [.af,.af] false)) true 2 (.mp 0 0)=some (.agg [.af,.af]):=λX h=>
  ⟨FM h rfl rfl,Ok (aO (gl h))⟩
 refine wy ?_;refine dh (aua s aCs) ?_;rintro r ⟨v,p,e,rfl,l,hv,hl,hw⟩;have ln:=hv.bL;rw[bX] at ln;refine wy (bI (λq=>?_) λq=>?_);exact wy (GU (GV _) _ _);refine wy ?_;refine b9 (λi e h=>e=[(2,.mp 0 0),(5,v),(8,.mp 1 0),(9,ag i)]/\h[0]?=some (.cells [.af,.af] false)/\∃au mv nodes marks,h[1]?=some (.cells [au,mv] false)/\BB au mv nodes marks h) l.length ⟨rfl,rfl,.af,.af,[],[],rfl,GV _⟩ ?_ ?_;rintro i e h Q ⟨rfl,h0,au,mv,nodes,marks,Y,iZ⟩;obtain⟨w,hwi⟩:=cF Q;have Ax:=hw w (bA hwi);have e1:bw 1 v (.v (.int .i64 (i:Int)))=some (.fp [ai w] 0):=hv.bC (x:=ai w) (by simp[hwi]) rfl;obtain⟨u1,u2⟩:=bad h h0;refine wy ?_;refine dh (aym w aCs) ?_;rintro r ⟨lE,e2,ws,rfl,Sl,aBP⟩;have auj:=Sl.bL;rw[bX] at auj;refine wy ?_;refine b5 (λah=>?_) λah=>?_;refine wy ?_;refine b5 (λaP=>?_) λaP=>?_;refine a_ (akj Sl (nZ Sl) aCs iZ) ?_;rintro r g ⟨iL,lq,nodes',marks',bW,rfl,wY,hF⟩;have g0:=hF.2 _ _ _ h0;have g1:=hF.2 _ _ _ Y;have st:=FM g1 (wA wY.n).1 (wA wY.m).1;have k1:=aO (a:=.cells [iL,lq] false) (gl g1);have k0:(g.set 1 (.cells [iL,lq] false))[0]?=some (.cells [.af,.af] false):=by rw[av aCs];exact g0
 have Ro:BB iL lq nodes' marks' (g.set 1 (.cells [iL,lq] false)):=⟨ie wY.n g1,ie wY.m g1,wY.kF,wY.fj,wY.nl,wY.ml⟩;refine wy ?_;refine b5 (λec=>?_) λec=>?_;exact GU (GV _) _ _;exact⟨rfl,k0,iL,lq,nodes',marks',k1,Ro⟩
 · repeat' refine ba (λq'=>?_) λq'=>?_
   all_goals first
    |exact GU (GV _) _ _
    |exact⟨rfl,h0,au,mv,nodes,marks,Y,iZ⟩
 · repeat' refine ba (λq'=>?_) λq'=>?_
   all_goals first
    |exact GU (GV _) _ _
    |exact⟨rfl,h0,au,mv,nodes,marks,Y,iZ⟩
 rintro e h ⟨rfl,h0,au,mv,nodes,marks,Y,iZ⟩;have st:=FM h0 (wA iZ.n).1 (wA iZ.m).1;have k0:=aO (a:=.cells [au,mv] false) (gl h0);have Ro:BB au mv nodes marks (h.set 0 (.cells [au,mv] false)):=⟨ie iZ.n h0,ie iZ.m h0,iZ.kF,iZ.fj,iZ.nl,iZ.ml⟩;exact lE (GU Ro _ _)
end
end
section
variable{G:Cells}{au mv a b c:U}{nodes marks:List (List U)}
def ZH(hr:ov au mv nodes marks)(s:List UInt8):cC G ay 80 [.agg [au,mv,a,b,c],ai s] (Ge (-1) 24):=by
 refine cU (arH.go ?_);have u9:=hr.nl;have ln:=hr.n.bL;rw[bX] at ln;refine wy (bI (λq=>?_) λq=>?_);refine wy ?_;exact qY aCu aCu;refine wy ?_;refine b9 (λi e h=>e=[(1,ai s),(2,.mp 0 0),(5,ag i)]/\h=[.cells [au,mv,a,b,c] false]) nodes.length ⟨rfl,rfl⟩ ?_ ?_;rintro i e h Q ⟨rfl,rfl⟩;obtain⟨y,hy⟩:=cF Q;obtain⟨hy1,EP,Nb,Mj⟩:=(hr.kF y (bA hy)).ok;have lp:bw 9 au (.v (.int .i64 (i:Int)))=some (.fp y 0):=hr.n.bC (x:=.agg y) aCZ (by exact hy1);refine wy ?_;refine b5 (λah=>?_) λah=>?_;exact qY aCs aCs;exact⟨rfl,trivial⟩;rintro e h ⟨rfl,rfl⟩;refine wy ?_;exact qY aCu aCu
def ZK(hr:ov au mv nodes marks)(s:List UInt8):cC G ay 81 [.agg [au,mv,a,b,c],ai s] (Ge (-1) 24):=by
 refine cU (arI.go ?_);have hml:=hr.ml;have ln:=hr.m.bL;rw[bX] at ln;refine wy ?_;refine b9 (λi e h=>e=[(1,ai s),(2,.mp 0 0),(5,ag i)]/\h=[.cells [au,mv,a,b,c] false]) marks.length ⟨rfl,rfl⟩ ?_ ?_;rintro i e h Q ⟨rfl,rfl⟩;obtain⟨y,hy⟩:=cF Q;obtain⟨hy1,EP,Nb,Mj⟩:=(hr.fj y (bA hy)).ok;have lp:bw 4 mv (.v (.int .i64 (i:Int)))=some (.fp y 0):=hr.m.bC (x:=.agg y) aCZ (by exact hy1);refine wy ?_;refine b5 (λah=>?_) λah=>?_;exact qY aCs aCs;exact⟨rfl,trivial⟩;rintro e h ⟨rfl,rfl⟩;refine wy ?_;exact qY aCu aCu
end
def s4(x:List U):Prop:=∃(nm:List UInt8) (iv:U) (l:List Int),x=[ai nm,iv]/\bH iv (l.map ag)/\dm iv/\l.length<=256/\∀z∈l,(0:Int)<=z/\z<256
section
variable{G:Cells}
def auQ{v:U}{rows:List (List U)}(hv:bH v (rows.map b8))(D:∀x∈rows,s4 x)(hl:rows.length<=1000000000)(s:List UInt8):cC G ay 213 [v,ai s] Gf:=by
 refine cU (asz.go ?_);have ln:=hv.bL;rw[bX] at ln;have jN:∀J,bL v J=some (.v (.int .i64 (rows.length:Int)),J):=λJ=>aDf
 have none:∀J:List aa,∃k aM,b7 J k .af=some aM/\Gf aM:=λJ=>PJ (l:=[]) (p4 J 1 3) aCt aCt;refine wy ?_;refine b9 (λi e h=>e=[(0,v),(1,ai s),(5,ag i)]/\h=[]) rows.length ⟨rfl,rfl⟩ ?_ ?_;rintro i e h Q ⟨rfl,rfl⟩;obtain⟨y,hy⟩:=cF Q;obtain⟨nm,iv,l,rfl,hiv,hic,mU,hlb⟩:=D y (bA hy);have lp:bw 2 v (.v (.int .i64 (i:Int)))=some (.fp [ai nm,iv] 0):=hv.bC (x:=.agg [ai nm,iv]) aCZ rfl;refine wy (bI (λah=>?_) λah=>?_);refine wy ?_;refine dh (aud hiv hic aCs) ?_;rintro r ⟨o,ho,oF,EE⟩;refine wy ?_
 rcases ho with rfl|⟨rfl,z⟩
 obtain⟨n,hn⟩:=(e5 (t:=.no) (fY (f:=ag) (l:=o) λa _=>aB _):aW [] _ _).done;exact⟨n,_,hn,o,ax rfl,oF,EE⟩;exact none _;exact wx rt;rintro e h ⟨rfl,rfl⟩;exact fm @ag.eq_1 @jN (none _)
end
@[go_sem]def afC(h:List aa){x:List U}(I:rT x):aE (h++[aj eT false]) 9 (.mp h.length 0) (.agg x)=some (h++[aj x false]):=IW h I.ok.1 I.ok.2.1
section
variable{G:Cells}{au mv a b c:U}{nodes marks:List (List U)}
def au5(hr:ov au mv nodes marks)(hS:dm (.agg [au,mv,a,b,c])):cC G ay 49 [.agg [au,mv,a,b,c]] (Ge 0 14):=by
 refine cU (arn.go ?_);have u9:=hr.nl;have hml:=hr.ml;have Iq:[bO (.string ⟨[].toArray⟩),.af,.v (.bool false),.v (.bool false),.v (.bool false),.v (.int .i64 0),.v (.bool false),.af,.v (.string ⟨[].toArray⟩)]=eT:=rfl;have ln:=hr.n.bL;rw[bX] at ln;have jN:∀J,bL au J=some (.v (.int .i64 (nodes.length:Int)),J):=λJ=>aDf
 have lm:=hr.m.bL;rw[bX] at lm;have EU:∀h:List aa,h[0]?=some (.cells [au,mv,a,b,c] false)->aq h false 1 (.mp 0 0)=some au/\aq h false 1 (.mp 0 1)=some mv/\aq h true 5 (.mp 0 0)=some (.agg [au,mv,a,b,c]):=λh q=>by
  simp only[aq,q];exact⟨rfl,rfl,rfl⟩
 have strs:∀{n:Nat} {v:U},gm n v->∃l:List (List UInt8),bH v (l.map ai)/\l.length<=n/\∀J,bL v J=some (.v (.int .i64 (l.length:Int)),J):=λ{n v} h=>by
  obtain⟨l,Y,V⟩:=h;have MR:=Y.bL;rw[bX] at MR;exact⟨l,Y,V,λJ=>by rw[MR J,kT]⟩
 have node:∀i,i<nodes.length->∃(y:List U) (nm:List UInt8) (bp:U) (ib pb aY:Bool) (a2:Int) (al:Bool) (jO:U) (ex:List UInt8) (gs ms:List (List UInt8)),rT y/\y=cY nm bp ib pb aY a2 al jO ex/\bw 9 au (.v (.int .i64 (i:Int)))=some (.fp y 0)/\bH bp (gs.map ai)/\gs.length<=5/\(∀J,bL bp J=some (.v (.int .i64 (gs.length:Int)),J))/\bH jO (ms.map ai)/\ms.length<=100001/\(∀J,bL jO J=some (.v (.int .i64 (ms.length:Int)),J))/\(∀J,aq J false 1 (.fp y 1)=some bp)/\(∀J,aq J false 1 (.fp y 7)=some jO)/\(∀J,aq J true 9 (.fp y 0)=some (.agg y)):=λi Q=>by
  have hy:nodes[i]?=some nodes[i]:=br Q;generalize nodes[i]=y at hy;have j6:=hr.kF y (bA hy);have lp:bw 9 au (.v (.int .i64 (i:Int)))=some (.fp y 0):=hr.n.bC (x:=.agg y) aCZ aFj;have aqs:=j6;obtain⟨nm,bp,ib,pb,aY,a2,al,jO,ex,rfl,hg,hm,_⟩:=aqs;obtain⟨gs,g1,g2,g3⟩:=strs hg;obtain⟨ms,m1,m2,m3⟩:=strs hm;exact⟨_,nm,bp,ib,pb,aY,a2,al,jO,ex,gs,ms,j6,rfl,lp,g1,g2,g3,m1,m2,m3,λ_=>rfl,λ_=>rfl,λ_=>rfl⟩
 have l0:=(EU [aj [au,mv,a,b,c] false] rfl);refine wy (bI (λq=>?_) λq=>?_);refine wy ?_;exact qY aCu aCu;refine wy ?_;refine b9 (λi e h=>e=[(1,.mp 0 0),(3,ag i)]/\h=[.cells [au,mv,a,b,c] false]) nodes.length ⟨rfl,rfl⟩ ?_ ?_;rintro i e h Q ⟨rfl,rfl⟩;obtain⟨y,nm,bp,ib,pb,aY,a2,al,jO,ex,gs,ms,j6,Mu,lp,g1,g2,g3,m1,m2,m3,r1,tZ,Um⟩:=node i Q;refine wy ?_;refine b9 (λj e h=>e=[(1,.mp 0 0),(3,.v (.int .i64 (i:Int))),(4,ag j)]/\h=[.cells [au,mv,a,b,c] false]) gs.length ⟨rfl,rfl⟩ ?_ ?_;rintro j e h hj ⟨rfl,rfl⟩;obtain⟨w,hw⟩:=cF hj;have Mz:bw 1 bp (.v (.int .i64 (j:Int)))=some (.fp [ai w] 0):=g1.bC (x:=ai w) aDB rfl;refine lD @ag.eq_1 @lp @r1 @g3 @Mz ?_;refine dh (ZH hr w) ?_;rintro r ⟨z,rfl,_,_⟩;refine wy ?_;refine b5 (λah=>?_) λah=>?_;exact qY aCu aCu;exact⟨rfl,trivial⟩;rintro e h ⟨rfl,rfl⟩;refine kY @ag.eq_1 @lp @r1 @g3 ?_
 first|exact⟨rfl,trivial⟩|trivial
 rintro e h ⟨rfl,rfl⟩;refine wy ?_;refine b9 (λi e h=>e=[(1,.mp 0 0),(5,ag i)]/\h[0]?=some (.cells [au,mv,a,b,c] false)) nodes.length ⟨rfl,rfl⟩ ?_ ?_
 · rintro i e h Q ⟨rfl,h0⟩
   obtain⟨y,nm,bp,ib,pb,aY,a2,al,jO,ex,gs,ms,j6,Mu,lp,g1,g2,g3,m1,m2,m3,r1,tZ,Um⟩:=node i Q;obtain⟨b0,b1,b2⟩:=EU h h0;have nn:=afC h j6;have n0:(h++[aj y false])[0]?=some (.cells [au,mv,a,b,c] false):=aJ h0;have mG:aq (h++[aj y false]) false 1 (.mp h.length 4)=some (.v (.bool aY)):=by
    rw[Mu];simp only[aq,en (bg _),kL,l6];rfl
   have x2:aq (h++[aj y false]) false 1 (.mp h.length 2)=some (.v (.bool ib)):=by
    rw[Mu];simp only[aq,en (bg _),kL,l6];rfl
   refine mF @ag.eq_1 @b0 @jN @lp @Um @Iq @nn ?_;cases aY<;>cases ib
   all_goals repeat' ((refine bI (λq=>?_) λq=>?_)<;>(have q':=q)<;>(simp -failIfUnchanged only[nq] at q')<;>(refine y8 @kB @mG @x2 @vL @rK @q ?_))
   all_goals first
    |exact qY aCu aCu
    |exact⟨rfl,n0⟩
 rintro e h ⟨rfl,h0⟩;obtain⟨b0,b1,b2⟩:=EU h h0;refine wy ?_;refine b9 (λi e g=>e=[(1,.mp 0 0),(7,ag i)]/\g=h) nodes.length ⟨rfl,rfl⟩ ?_ ?_;rintro i e g Q ⟨rfl,rfl⟩;obtain⟨y,nm,bp,ib,pb,aY,a2,al,jO,ex,gs,ms,j6,Mu,lp,g1,g2,g3,m1,m2,m3,r1,tZ,Um⟩:=node i Q;refine wy ?_;refine b9 (λj e h=>e=[(1,.mp 0 0),(7,.v (.int .i64 (i:Int))),(8,ag j)]/\h=g) ms.length ⟨rfl,rfl⟩ ?_ ?_;rintro j e h hj ⟨rfl,rfl⟩;obtain⟨w,hw⟩:=cF hj;have Mz:bw 1 jO (.v (.int .i64 (j:Int)))=some (.fp [ai w] 0):=m1.bC (x:=ai w) aDB rfl;refine Bi @ag.eq_1 @b0 @b2 @lp @tZ @m3 @Mz ?_;refine dh (ZK hr w) ?_;rintro r ⟨z,rfl,_,_⟩;refine wy ?_;refine b5 (λah=>?_) λah=>?_;exact qY aCu aCu;exact⟨rfl,trivial⟩;rintro e h ⟨rfl,rfl⟩;refine lD @ag.eq_1 @b0 @lp @tZ @m3 ?_
 first|exact⟨rfl,trivial⟩|trivial
 rintro e g ⟨rfl,rfl⟩;refine wy ?_;refine b9 (λi e h=>e=[(1,.mp 0 0),(9,ag i)]/\h=g) marks.length ⟨rfl,rfl⟩ ?_ ?_;rintro i e h Q ⟨rfl,rfl⟩;have hy:marks[i]?=some marks[i]:=br Q;generalize marks[i]=y at hy;have j6:=hr.fj y (bA hy);have lp:bw 4 mv (.v (.int .i64 (i:Int)))=some (.fp y 0):=hr.m.bC (x:=.agg y) aCZ aFj;obtain⟨nm,pY,al,bv,rfl,O⟩:=j6;obtain⟨ms,m1,m2,m3⟩:=strs O;have hD:∀J,aq J false 1 (.fp (c_ nm pY al bv) 3)=some bv:=λ_=>rfl;refine wy ?_;refine b9 (λj e g=>e=[(1,.mp 0 0),(9,.v (.int .i64 (i:Int))),(10,ag j)]/\g=h) ms.length ⟨rfl,rfl⟩ ?_ ?_;rintro j e g hj ⟨rfl,rfl⟩;obtain⟨w,hw⟩:=cF hj;have Mz:bw 1 bv (.v (.int .i64 (j:Int)))=some (.fp [ai w] 0):=m1.bC (x:=ai w) aDB rfl;refine wy ?_;refine dh (ZK hr w) ?_;rintro r ⟨z,rfl,_,_⟩;refine wy ?_;refine b5 (λah=>?_) λah=>?_;exact qY aCu aCu;exact wx rt;rintro e g ⟨rfl,rfl⟩;refine lD @ag.eq_1 @b1 @lp @hD @m3 ?_
 first|exact⟨rfl,trivial⟩|trivial
 rintro e h ⟨rfl,rfl⟩;refine wy ?_;exact qY aCu aCu
end
section
variable{ps:List bK}
def al3(h:DL ps):∀(n f g:Nat) (i:Int),i.toNat<n->i.toNat<f->i.toNat<g->n3 ps f i=n3 ps g i:=by
 intro n
 induction n with
 |zero=>intro f g i h0;omega
 |succ n ih=>
  intro f g i h0 Y V;obtain⟨f,rfl⟩:∃f',f=f'+1:=⟨f-1,aCs⟩;obtain⟨g,rfl⟩:∃g',g=g'+1:=⟨g-1,aCs⟩;unfold n3;cases J:ps[i.toNat]? with
  |none=>rfl
  |some p=>
   dsimp only;have e:(p.kids.map λk=>n3 ps f k)=p.kids.map λk=>n3 ps g k:=vR λk S=>by
    have:=h _ p J k S;exact ih f g k aCs aCs aCs
   rw[e]
def YK(h:DL ps){i:Nat}{p:bK}(J:ps[i]?=some p):cnt ps (i:Int)=if p.kind=1 then 1 else(if p.kind=4 then p.many else 1)*(p.kids.map λk=>cnt ps k).sum:=by
 show n3 ps (i+1) (i:Int)=_;unfold n3;rw[ux,J];dsimp only;have e:(p.kids.map λk=>n3 ps i k)=p.kids.map λk=>cnt ps k:=vR λk S=>by
  have:=h _ p J k S;exact al3 h (i+1) i (k.toNat+1) k aCs aCs aCs
 rw[e]
def auy{G:Cells}{n0:Nat}{v:U}(h:uF n0 v ps):∀(n i:Nat),i<n->i<ps.length->sz ps (i:Int)<=1000000000->b_ G ay 87 [v,.v (.int .i64 (i:Int))] (.v (.int .i64 ((min (cnt ps (i:Int)) 257:Nat):Int))):=by
 intro n
 induction n with
 |zero=>intro i Q;omega
 |succ n ih=>
  intro i Q hl hsz;obtain⟨p,cZ⟩:=cF hl;have jl:=h.ok i p cZ;have mY:=h.no p (bA cZ);have hs:=Of h.ok.kids cZ;have cV:=Oe (λk=>sz ps k) p.kids;have T:=YK h.ok.kids cZ;refine eg (arO.go ?_);have e1:bw 5 v (.v (.int .i64 (i:Int)))=some (.fp p.cells 0):=h.v.bC (x:=p.aF) aEi rfl;have e2:∀J,aq J true 5 (.fp p.cells 0)=some (.agg p.cells):=λJ=>rfl;have s1:=vC [] p;rw[eH,eH] at s1;have z0:([]:List aa).length=0:=rfl;rw[z0] at s1;have l0:aq [.cells p.cells false] false 1 (.mp 0 0)=some (.v (.int .i64 p.kind)):=rfl;have l1:aq [.cells p.cells false] false 1 (.mp 0 1)=some (.v (.int .i64 p.low)):=rfl;have l2:aq [.cells p.cells false] false 1 (.mp 0 2)=some (.v (.int .i64 p.high)):=rfl;have l4:aq [.cells p.cells false] false 1 (.mp 0 4)=some p.kv:=rfl;have lk:=vf mY aCs;refine wy (bI (λq=>?_) λq=>?_);have q':p.kind=1:=aCy
  rw[T,if_pos q'];exact wy ((aB _).done);have q':p.kind≠1:=aCy
  rw[if_neg q'] at T;refine wy ?_;refine b9 (λj e J=>e=[(0,v),(5,.mp 0 0),(6,.v (.int .i64 ((min ((p.kids.take j).map λk=>cnt ps k).sum 257:Nat):Int))),(7,ag j)]/\J=[.cells p.cells false]) p.kids.length ⟨rfl,rfl⟩ ?_ ?_;rintro j e J hj ⟨rfl,rfl⟩;obtain⟨x,I⟩:=cF hj;obtain⟨x0,x1⟩:=jl.2 x (bA I);obtain⟨xn,rfl⟩:=mI x0;have kS:bw 1 p.kv (.v (.int .i64 (j:Int)))=some (.fp [.v (.int .i64 (xn:Int))] 0):=by
   unfold bK.kv;split;rename_i z;rw[z] at I;simp at I;exact jY (x:=ag (xn:Int)) (by rw[eo,I];rfl) rfl
  have ayP:=vD (f:=λk=>sz ps k+1) I;have ayQ:=y4 (λk=>sz ps k+1) p.kids (j+1);have uj:=vD (f:=λx=>cnt ps x) I;have m1:=E0 (min ((p.kids.take j).map λk=>cnt ps k).sum 257+min (cnt ps (xn:Int)) 257) 0;have jv:min (min ((p.kids.take j).map λk=>cnt ps k).sum 257+min (cnt ps (xn:Int)) 257) 257=min ((p.kids.take (j+1)).map λk=>cnt ps k).sum 257:=by rw[uj];omega
  refine wy (fo (ih xn aCs aCs aCs) (bn (yl h) (bn (cm _) cx)) ?_);refine wx ?_
  first
   |exact⟨rfl,trivial⟩
   |exact⟨rfl,rfl⟩
  rintro e J ⟨rfl,rfl⟩;rw[p8];refine wy ?_;generalize(p.kids.map λk=>cnt ps k).sum=hk at T⊢;by_cases yV:p.kind=4;rw[if_pos yV] at T;have O:DK p.low p.high:=by
   rcases jl.1 with z|z|z
   omega;omega;exact z.2.2
  obtain⟨fV,gI,Ci⟩:=O;have m0:o9 true [.v (.int .i64 p.low),.v (.int .i64 1)]=some (.v (.int .i64 (if(1:Int)>p.low then 1 else p.low))):=rfl;have mV:1<=p.many/\p.many<=20:=by
   unfold Bs;constructor<;>(split<;>(try split))<;>omega
  have apY:min hk 257*p.many<=257*20:=Nat.mul_le_mul (Nat.min_le_right _ _) mV.2;have w1:bP.wrap (((min hk 257:Nat):Int)*(p.many:Int))=((min hk 257*p.many:Nat):Int):=by
   rw[<-Int.natCast_mul,wrap_i64 aCs aCs]
  have jv:min (min hk 257*p.many) 257=min (p.many*hk) 257:=by
   rcases Nat.le_total hk 257 with z|z
   rw[F5 z,Wk];have V:257*p.many<=p.many*hk:=aEL
   rw[Nat.min_eq_right z];omega
  have m1:=E0 (min hk 257*p.many) 0;rw[jv] at m1;rw[T];refine wy (bI (λgh=>?_) λgh=>?_);have B4:(if(1:Int)>p.low then 1 else p.low)=(p.many:Int):=by
   have:p.high<0:=by simpa using gh
   unfold Bs;rw[if_pos this];split<;>omega
  rw[B4] at m0;exact wy ((aB _).done);have B4:p.high=(p.many:Int):=by
   have:¬p.high<0:=by simp at gh;omega
   unfold Bs;rw[if_neg this];omega
  rw[B4] at l2;exact wy ((aB _).done);have fX:(p.kind==4)=false:=by simpa using yV
  rw[if_neg yV,Bz] at T;have m1:=E0 (min hk 257) 0;have jv:min (min hk 257) 257=min hk 257:=aCs
  rw[jv] at m1;rw[T];exact wy ((aB _).done)
end
section
variable{v:U}
noncomputable def Mb(y:List U)(s:List UInt8):Bool:=@decide (∃xs,y[1]?=some (.sl xs .no)/\ai s∈xs) (aAn _)
def ayI{a b:List UInt8}(h:ai a=ai b):a=b:=by
 unfold ai at h;simpa using h
def apm{y:List U}{bp:U}{gs:List (List UInt8)}(h:y[1]?=some bp)(hg:bH bp (gs.map ai))(s:List UInt8):Mb y s=gs.any (· ==s):=by
 unfold Mb;rw[Ds,@decide_eq_true_iff _ (aAn _),F0];constructor;rintro⟨xs,Y,V⟩;rw[h] at Y
 rcases hg with rfl|⟨rfl,_⟩
 cases Y;obtain⟨t,ht,e⟩:=cI.1 V;exact⟨t,ht,by rw[ayI e];simp⟩;cases Y;rintro⟨t,ht,e⟩;have:t=s:=aEG
 subst this
 rcases hg with rfl|⟨rfl,z⟩
 exact⟨_,h,cI.2 ⟨t,ht,rfl⟩⟩;have:gs=[]:=aCT
 rw[this] at ht;cases ht
noncomputable def ny(nodes:List (List U))(s:List UInt8):Nat->List Int
 |0=>[]
 |i+1=>ny nodes s i++(match nodes[i]? with|some y=>if Mb y s then [((i+1:Nat):Int)] else []|none=>[])
def Rg(nodes:List (List U))(s:List UInt8):∀i,(ny nodes s i).length<=i/\∀x∈ny nodes s i,1<=x/\x<=(i:Int)
 |0=>⟨by simp[ny],by simp[ny]⟩
 |i+1=>by
  obtain⟨Y,V⟩:=Rg nodes s i;unfold ny;split;split;refine⟨aCv,λx I=>?_⟩
  rcases dN.1 I with z|z
  have:=V x z;omega;rw[cw.1 z];omega;rw[ff];exact⟨aCs,λx I=>by have:=V x I;omega⟩;rw[ff];exact⟨aCs,λx I=>by have:=V x I;omega⟩
def lU(l:List Int):U:=match l with
 |[]=>.af
 |_=>.sl (l.map ag) .no
def abV(l:List Int):bH (lU l) (l.map ag):=by
 unfold lU;split;exact az ⟨rfl,rfl⟩;exact ax rfl
def akI{J:List aa}{l:List Int}(h:bU J v (l.map ag) 1 3)(hn:l=[]->v=.af):∃k,b7 J k v=some (lU l):=by
 cases l with
 |nil=>
  rw[hn rfl];exact(cX:aW J _ _).done
 |cons x r=>
  rcases h with⟨_,z⟩|⟨id,rfl,_⟩
  simp at z;exact(e5 (t:=.tok id) (fY (f:=ag) (l:=x::r) λa _=>aB _):aW J _ _).done
section
variable{G:Cells}{au mv a b c:U}{nodes marks:List (List U)}
def aoK{l:List (List UInt8)}(hv:bH v (l.map ai))(hl:l.length<=1000000)(x:List UInt8):b_ G ay 147 [v,ai x] (.v (.bool (l.any (· ==x)))):=by
 refine eg (ac8.go ?_);have ln:=hv.bL;rw[bX] at ln;refine wy ?_;refine b9 (λi e h=>e=[(0,v),(1,ai x),(5,ag i)]/\h=[]/\∀j s,j<i->l[j]?=some s->(s==x)=false) l.length ⟨rfl,rfl,λj s h=>aCs⟩ ?_ ?_;rintro i e h Q ⟨rfl,rfl,hI⟩;obtain⟨s,hs⟩:=cF Q;have e1:bw 1 v (.v (.int .i64 (i:Int)))=some (.fp [ai s] 0):=hv.bC (x:=ai s) aFd rfl;refine wy ?_;refine b5 (λq=>?_) λq=>?_;rw[show l.any (· ==x)=true from F0.2 ⟨s,bA hs,q⟩];exact(aB _).done;refine⟨rfl,trivial,λj t hj ht=>?_⟩
 rcases cH j i with z|z
 exact hI j t z ht;rw[show j=i by omega,hs] at ht;cases ht;exact q;rintro e h ⟨rfl,rfl,hI⟩;refine wy ?_;rw[show l.any (· ==x)=false from by
  rw[List.any_eq_false];intro s hm;obtain⟨j,hj,rfl⟩:=DF hm;rw[hI j _ hj (br hj)];decide]
 exact(aB _).done
def an5(hr:ov au mv nodes marks)(s:List UInt8):b_ G ay 85 [.agg [au,mv,a,b,c],ai s] (lU (ny nodes s nodes.length)):=by
 refine eg (arN.go ?_);have u9:=hr.nl;have ln:=hr.n.bL;rw[bX] at ln;refine wy ?_;refine b9 (λi e h=>∃ak:U,e=[(1,ai s),(2,.mp 0 0),(5,ak),(6,ag i)]/\h[0]?=some (.cells [au,mv,a,b,c] false)/\bU h ak ((ny nodes s i).map ag) 1 3/\(ny nodes s i=[]->ak=.af)) nodes.length ⟨.af,rfl,rfl,p4 _ _ _,λ_=>rfl⟩ ?_ ?_;rintro i e h Q ⟨ak,rfl,h0,hA,H_⟩;obtain⟨y,hy⟩:=cF Q;have j6:=hr.kF y (bA hy);obtain⟨hy1,EP,Nb,Mj⟩:=j6.ok;have lp:bw 9 au (.v (.int .i64 (i:Int)))=some (.fp y 0):=hr.n.bC (x:=.agg y) aCZ (by exact hy1);obtain⟨bp,Am,MR,lh⟩:∃bp,gm 5 bp/\(∀h,aq h false 1 (.fp y 1)=some bp)/\y[1]?=some bp:=by
  obtain⟨nm,bp,i2,p2,aY,a2,al,jO,ex,rfl,hg,hm,_⟩:=j6;exact⟨bp,hg,λh=>rfl,rfl⟩
 obtain⟨gs,xb,ja⟩:=Am;have aA9:dm bp:=nZ xb;have wi:bP.wrap ((i:Int)+1)=((i+1:Nat):Int):=jd aCs;have aBv:=(Rg nodes s i).1;obtain⟨bf,g,e1,dS,hne,_,S⟩:=kQ (x:=.v (.int .i64 ((i+1:Nat):Int))) (aZ:=8) hA (C0 _) rfl aCu aCu aCv;have g0:=S _ _ h0 λxs z=>by
  rcases hA with⟨aT,_⟩|⟨id,aT,z2⟩
  rw[aT] at z;cases z;rw[aT] at z;cases z;rw[h0] at z2;cases z2
 have hh:=apm lh xb s;refine wy ?_;refine dx (aoK xb aCs s) ?_;rw[<-hh];cases O:Mb y s with
 |false=>
  have ql:ny nodes s (i+1)=ny nodes s i:=by
   rw[ny,hy];simp[O]
  refine e3 ?_;exact⟨ak,rfl,h0,by rw[ql];exact hA,by rw[ql];exact H_⟩
 |true=>
  have ql:ny nodes s (i+1)=ny nodes s i++[((i+1:Nat):Int)]:=by
   rw[ny,hy];simp[O]
  refine fm @wi @e1 ?_;exact⟨bf,rfl,g0,by rw[ql,eD];exact dS,by rw[ql];intro z;simp at z⟩
 rintro e h ⟨ak,rfl,h0,hA,H_⟩;exact wy (akI hA H_)
end
end
section
variable{v:U}{x:List U}
def zx(x:List U):Prop:=∃(nm:List UInt8) (l:List Int),(x=[ai nm,lU l]\/x=[ai nm,.sl (l.map ag) .exact])/\l.length<=256/\∀z∈l,(0:Int)<=z/\z<256
def BX{l:List Int}(h:bH v (l.map ag)):dm v:=by
 rcases h with rfl|⟨rfl,_⟩
 refine j0 λx I c T=>?_;obtain⟨t,_,rfl⟩:=cI.1 I;rw[cw.1 (show c∈[ag t] from T)];exact cm _;exact mh
def abU(l:List Int):bl (lU l)=true/\(lU l).cells=[lU l]:=by
 unfold lU;split<;>exact⟨rfl,rfl⟩
def aqZ(l:List Int)(J:List aa):aW J (lU l) (lU l):=by
 unfold lU;split;exact cX;exact e5 (fY λa _=>aB _)
def zx.ok(h:zx x):x.length=2/\x.all bl=true:=by
 obtain⟨nm,l,rfl|rfl,_,_⟩:=h;refine⟨rfl,?_⟩;simp only[l5,oV,(abU l).1];rfl;exact⟨rfl,rfl⟩
def zx.fz(h:zx x)(J:List aa):∃x',aW J (.agg x) (.agg x')/\s4 x':=by
 obtain⟨nm,l,rfl|rfl,Y,V⟩:=h;exact⟨_,iC (aA (aB _) (aA (aqZ l J) bT)),nm,_,l,rfl,abV l,BX (abV l),Y,V⟩;exact⟨[ai nm,.sl (l.map ag) .no],iC (aA (aB _) (aA (e5 (fY λa _=>aB _)) bT)),nm,_,l,rfl,ax rfl,BX (ax rfl),Y,V⟩
def afj(J:List aa):∀{xs:List (List U)},(∀x∈xs,zx x)->∃ys:List (List U),dK J (xs.map b8) (ys.map b8)/\(∀y∈ys,s4 y)/\ys.length=xs.length
 |[],_=>⟨[],bT,aCt,rfl⟩
 |x::r,h=>by
  obtain⟨x',a1,a2⟩:=(h x aCt).fz J;obtain⟨ys,b1,b2,b3⟩:=afj J (xs:=r) λy hy=>h y aCZ;refine⟨x'::ys,aA a1 b1,λy hy=>?_,by simp[b3]⟩
  rcases dW.1 hy with rfl|hy
  exact a2;exact b2 y hy
def ajT(n:Nat)(r:U):Prop:=∃rows:List (List U),bH r (rows.map b8)/\(∀x∈rows,s4 x)/\rows.length<=n
section
variable{G:Cells}{au mv a b c:U}{nodes marks:List (List U)}
def auP{n0:Nat}{ps:List bK}(hr:ov au mv nodes marks)(hS:dm (.agg [au,mv,a,b,c]))(h:uF n0 v ps)(hn:n0<=1000000000):cC G ay 51 [.agg [au,mv,a,b,c],v] (ajT ps.length):=by
 refine cU (arp.go ?_);have hl:=h.len;have u9:=hr.nl;have ln:=h.v.bL;rw[bX] at ln;refine wy ?_;refine b9 (λi e h=>∃(xs:List (List U)) (ak:U),e=[(1,v),(2,.mp 0 0),(5,ak),(6,ag i)]/\h[0]?=some (.cells [au,mv,a,b,c] false)/\bU h ak (xs.map b8) 2 186/\xs.length<=i/\∀x∈xs,zx x) ps.length ⟨[],.af,rfl,rfl,p4 _ _ _,aCt,aCt⟩ ?_ ?_;rintro i e g Q ⟨xs,ak,rfl,h0,hA,hxl,I⟩;obtain⟨p,J⟩:=cF Q;have e1:bw 5 v (.v (.int .i64 (i:Int)))=some (.fp p.cells 0):=h.v.bC (x:=p.aF) (by simp[J]) rfl;have l0:∀J,aq J false 1 (.fp p.cells 0)=some (.v (.int .i64 p.kind)):=λJ=>rfl;have l3:∀J,aq J false 1 (.fp p.cells 3)=some (ai p.name):=λJ=>rfl;have SW:∀g:List aa,g[0]?=some (.cells [au,mv,a,b,c] false)->aq g true 5 (.mp 0 0)=some (.agg [au,mv,a,b,c]):=λg q=>by
  simp only[aq,q];rfl
 refine oS (bI (λq=>?_) λq=>?_);refine dc @q ?_;exact⟨xs,ak,rfl,h0,hA,aCs,I⟩;refine wy ?_;refine⟨_,_,bn hS (bn (r4 _) cx),an5 hr p.name,?_⟩;obtain⟨gl,LN⟩:=Rg nodes p.name nodes.length;have amT:cq [.v (.string ⟨[].toArray⟩),.af] [(0,1,ai p.name),(1,1,lU (ny nodes p.name nodes.length))]=some [ai p.name,lU (ny nodes p.name nodes.length)]:=by
  generalize ny nodes p.name nodes.length=L;cases L<;>rfl
 generalize ny nodes p.name nodes.length=L at gl LN amT⊢;have nn:aE (g++[aj [.v (.string ⟨[].toArray⟩),.af] false]) 2 (.mp g.length 0) (.agg [ai p.name,lU L])=some (g++[aj [ai p.name,lU L] false]):=by
  rw[FM (k:=g.length) (a:=.v (.string ⟨[].toArray⟩)) (b:=.af) aCt rfl (abU L).1];simp
 have h0':(g++[aj [ai p.name,lU L] false])[0]?=some (.cells [au,mv,a,b,c] false):=aJ h0;have kx:(g++[aj [ai p.name,lU L] false])[g.length]?=some (.cells [ai p.name,lU L] false):=aCt
 have si:bU (g++[aj [ai p.name,lU L] false]) ak (xs.map b8) 2 186:=hA.ext;have HR:g.length≠0:=by have:=(bF.1 h0).1;omega
 refine wy ?_;generalize g++[aj [ai p.name,lU L] false]=g1 at h0' kx si⊢;generalize g.length=K at kx HR⊢;refine wy ?_;refine dh (ZH hr p.name) ?_;rintro r ⟨z,rfl,aT,z2⟩;have push:∀(g2:List aa) (x:List U),bU g2 ak (xs.map b8) 2 186->g2[0]?=some (.cells [au,mv,a,b,c] false)->zx x->∃bf g3,dy 2 [.agg x]=some (.sl [.agg x] .exact)/\cM g2 2 40 186 ak (.sl [.agg x] .exact)=some (bf,g3)/\g3[0]?=some (.cells [au,mv,a,b,c] false)/\bU g3 bf ((xs++[x]).map b8) 2 186/\∀y∈xs++[x],zx y:=λg2 x dS mT Ay=>by
  have TG:bS 2 [b8 x]=true:=sB (xs:=[x]) λy hy=>by rw[cw.1 hy];exact Ay.ok
  obtain⟨bf,g3,bW,oC,_,_,S⟩:=kQ (x:=b8 x) (aZ:=40) dS (sB λy hy=>(I y hy).ok) TG aCu aCu aCv;refine⟨bf,g3,by simp[dy,TG],bW,S _ _ mT λys w=>?_,by rw[eD];exact oC,λy hy=>?_⟩
  rcases dS with⟨w1,_⟩|⟨id,w1,w2⟩
  rw[w1] at w;cases w;rw[w1] at w;cases w;rw[mT] at w2;cases w2
  rcases dN.1 hy with w|w
  exact I y w;rw[cw.1 w];exact Ay
 refine wy (bI (λah=>?_) λah=>?_);have aBT:0<=z:=aCU
 have s1:aE g1 1 (.mp K 1) (.sl [.v (.int .i64 z)] .exact)=some (g1.set K (.cells [ai p.name,.sl [.v (.int .i64 z)] .exact] false)):=by
  simp only[aE,kx];rfl
 have CI:=aO (a:=.cells [ai p.name,.sl [.v (.int .i64 z)] .exact] false) (bF.1 kx).1;have mT:(g1.set K (.cells [ai p.name,.sl [.v (.int .i64 z)] .exact] false))[0]?=some (.cells [au,mv,a,b,c] false):=by rw[av HR];exact h0'
 obtain⟨bf,g3,p1,p2,p3,gr,Fe⟩:=push _ [ai p.name,.sl [.v (.int .i64 z)] .exact] (ie si kx) mT ⟨p.name,[z],az rfl,aCt,λy hy=>by rw[cw.1 hy];omega⟩;refine nL @ah @s1 (Ok CI) @p1 @p2 ?_;exact⟨_,bf,rfl,p3,gr,aCv,Fe⟩;obtain⟨bf,g3,p1,p2,p3,gr,Fe⟩:=push g1 [ai p.name,lU L] si h0' ⟨p.name,L,ax rfl,aCs,λy hy=>by have:=LN y hy;omega⟩;refine kY @ah (Ok kx) @p1 @p2 ?_;exact⟨_,bf,rfl,p3,gr,aCv,Fe⟩;rintro e g ⟨xs,ak,rfl,h0,hA,hxl,I⟩;refine wy ?_;obtain⟨ys,y1,eu,jT⟩:=afj g I
 rcases hA with⟨rfl,z⟩|⟨id,rfl,_⟩
 obtain⟨n,hn⟩:=(cX:aW g _ _).done;exact⟨n,_,hn,[],az ⟨rfl,rfl⟩,aCt,aCt⟩;obtain⟨n,hn⟩:=(e5 (t:=.tok id) y1:aW g _ _).done;exact⟨n,_,hn,ys,ax rfl,eu,aCs⟩
end
end
section
variable{G:Cells}{au mv a b c:U}{nodes marks:List (List U)}
def aza(hr:ov au mv nodes marks)(n:Int):cC G ay 148 [.agg [au,mv,a,b,c],.v (.int .i64 n)] λr=>∃t:Bool,r=.v (.bool t)/\(t=true->1<=n/\n<=(nodes.length:Int)):=by
 refine cU (arj.go ?_);have ln:=hr.n.bL;rw[bX] at ln;refine wy ?_;refine b5 (λq=>?_) λq=>?_;refine wy ?_;obtain⟨k,S⟩:=(aB (.bool (decide (n<=(nodes.length:Int)))):aW [aj [au,mv,a,b,c] false] _ _).done;exact⟨k,_,S,_,rfl,λz=>⟨aCy,aCT⟩⟩;obtain⟨k,S⟩:=(aB (.bool false):aW [aj [au,mv,a,b,c] false] _ _).done;exact⟨k,_,S,_,rfl,λz=>by cases z⟩
def avt(hr:ov au mv nodes marks)(n:Nat)(Y:1<=n)(V:n<=nodes.length):cC G ay 149 [.agg [au,mv,a,b,c],.v (.int .i64 (n:Int))] λr=>∃y,r=.agg y/\rT y:=by
 refine cU (asV.go ?_);have u9:=hr.nl;have Iq:[bO (.string ⟨[].toArray⟩),.af,.v (.bool false),.v (.bool false),.v (.bool false),.v (.int .i64 0),.v (.bool false),.af,.v (.string ⟨[].toArray⟩)]=eT:=rfl;obtain⟨y,hy⟩:∃y,nodes[n-1]?=some y:=⟨nodes[n-1]' aCs,br aCs⟩;have j6:=hr.kF y (bA hy);have lp:bw 9 au (.v (.int .i64 ((n-1:Nat):Int)))=some (.fp y 0):=hr.n.bC (x:=.agg y) aCZ aFj;have ly:=λJ=>o7.eE j6.ok.1 J;have st:aE [aj [au,mv,a,b,c] false,.cells eT false] 9 (.mp 1 0) (.agg y)=some [.cells [au,mv,a,b,c] false,.cells y false]:=tS (k:=1) rfl rfl j6.ok.1 j6.ok.2.1;have la:aq [aj [au,mv,a,b,c] false,.cells y false] true 9 (.mp 1 0)=some (.agg y):=by
  obtain⟨nm,bp,i,p,aY,a2,al,jO,ex,rfl,_⟩:=j6;rfl
 refine wy ?_;obtain⟨k,S⟩:=(j6.fz [aj [au,mv,a,b,c] false,.cells y false]).done;exact⟨k,_,S,y,rfl,j6⟩
def Su(hr:ov au mv nodes marks)(hS:dm (.agg [au,mv,a,b,c]))(n:Int):cC G ay 86 [.agg [au,mv,a,b,c],.v (.int .i64 n)] hJ:=by
 refine cU (ark.go ?_);have SW:aq [aj [au,mv,a,b,c] false] true 5 (.mp 0 0)=some (.agg [au,mv,a,b,c]):=rfl;refine wy ?_;refine b5 (λq=>?_) λq=>?_;exact gq _;refine dh (aza hr n) ?_;rintro r ⟨t,rfl,ht⟩;cases t with
 |false=>
  exact wy (gq _)
 |true=>
  obtain⟨Y,V⟩:=ht rfl;obtain⟨m,rfl⟩:=mI (show 0<=n by omega);refine wy ?_;refine dh (avt hr m aCs aCs) ?_;rintro r ⟨y,rfl,nm,bp,i,p,aY,a2,al,jO,ex,rfl,_⟩;have f:Gy false 1 2 (.agg (cY nm bp i p aY a2 al jO ex))=some (.v (.bool i)):=rfl;exact wy (gq _)
end
end Go.Proofs.YtepejmecchhifaaGreatDoor

/- Part 11 of a proof. No condition. -/
import Derived.Test.YtggeooeohcbdhaaGreatDoorZ10
set_option linter.unusedVariables false
set_option linter.unusedSimpArgs false
set_option linter.defProp false
open Bool renaming true_and->J1
open Go.aJ.U renaming agg->bT,cells->gm,one->bn,v->bP
open Go.aJ.bX renaming nil->qa
open Go.aJ.aa renaming cells->aj
open Go.aJ.qf renaming mk->bA
open Go.aJ.aE renaming mono->aZ,pure->dx,avB->gf
open Go.aJ renaming Clean->dn
open Go.aJ.aX renaming agg->iO,af->cS,sl->fj,aK->dR,v->aB
open Go.aJ.dD renaming cons->aA,map->gh,nil->bW
open Go.IntKind renaming i64->b7
open Go.Proofs.Tryz renaming prog->az
open Go.Proofs.YtggeooeohcbdhaaGreatDoor.Ext renaming app->jV
open Go.Proofs.YtggeooeohcbdhaaGreatDoor.bJ renaming aG->ox,many->Bs
open Int renaming eq_ofNat_of_zero_le->mJ,le_refl->nj,reduceBEq->x4,reduceBNe->x5
open List renaming all_cons->lD,all_eq_true->c_,all_nil->oy,append_nil->e4,drop_drop->vZ,drop_eq_getElem_cons->F8,drop_of_length_le->sY,drop_zero->nk,eq_nil_of_length_eq_zero->lE,flatten_cons->v7,getElem?_concat_length->OT,getElem?_eq_getElem->br,getElem?_eq_none_iff->aje,getElem?_eq_some_iff->bE,getElem?_map->eC,getElem?_set_ne->av,getElem?_set_self->aR,length_append->cB,length_cons->dm,length_eq_one_iff->Bv,length_map->b_,length_nil->fQ,length_set->rU,length_singleton->nq,map_append->eX,map_cons->eD,map_eq_nil_iff->ajf,map_map->we,map_nil->kX,map_set->s0,mem_append->dZ,mem_cons->ek,mem_iff_getElem?->Kf,mem_map->cO,mem_of_getElem?->bG,mem_of_mem_drop->uH,mem_or_eq_of_mem_set->Ga,mem_replicate->aji,mem_singleton->cr,nil_append->eR,not_mem_nil->oz,pairwise_cons->ajj,replicate->dL,set_eq_take_append_cons_drop->ajm,sum_cons->wh,sum_nil->DL,take_length->rV,take_of_length_le->kG,take_zero->qQ
open Nat renaming add_assoc->lF,add_zero->rW,eq_zero_or_pos->x8,le_refl->bl,le_trans->fk,lt_or_ge->cE,lt_succ_self->Bw,min_eq_left->Gd,mul_le_mul_right->mK,one_mul->Bx,reduceAdd->rX,reduceEqDiff->s5,reduceLT->s6,reduceLeDiff->s7,succ_mul->qR,zero_add->e5,zero_le->ic,zero_lt_succ->x9
open Ne renaming symm->dr
open Option.some renaming inj->mL
open Or renaming inl->ay,inr->ax
namespace Go.Proofs.YtggeooeohcbdhaaGreatDoor
open Go Go.aJ Go.RowKit
section
variable{N i j:Nat}{l m:List Int}
def nW(N:Nat)(l:List Int):Prop:=l.Pairwise (· < ·)/\∀x∈l,(0:Int)<=x/\x<(N:Int)
def agB:∀(l:List Int) (a b:Int),a<=b->l.Pairwise (· < ·)->(∀x∈l,a<=x/\x<b)->(l.length:Int)<=b-a
 |[],a,b,h,_,_=>aBK
 |x::r,a,b,h,hp,hb=>by
  rw[ajj] at hp;have h1:=hb x aBI;have:=agB r (x+1) b aBH hp.2 λy hy=>⟨by have:=hp.1 y hy;omega,(hb y aB9).2⟩;rw[dm];omega
def nW.len(h:nW N l):l.length<=N:=by
 have:=agB l 0 (N:Int) aBH h.1 h.2;omega
def nW.nil(N:Nat):nW N []:=⟨List.Pairwise.nil,aBI⟩
def nW.one{n:Nat}(h:n<N):nW N [(n:Int)]:=⟨aBI,λx hx=>by rw[cr.1 hx];omega⟩
def nW.mono{M:Nat}(h:nW N l)(hm:N<=M):nW M l:=⟨h.1,λx hx=>⟨(h.2 x hx).1,by have:=(h.2 x hx).2;omega⟩⟩
def Uk{a:Int}(h:l.Pairwise (· < ·))(ha:l[i]?=some a):(∀y∈l.drop (i+1),a<y)/\(∀y∈l.drop i,a<=y)/\a∈l.drop i:=by
 have hl:=gl ha;have e:l.drop i=a::l.drop (i+1):=by
  rw[F8 hl];rw[br hl] at ha;rw[mL ha]
 have hd:(l.drop i).Pairwise (· < ·):=h.sublist (List.drop_sublist i l);rw[e,ajj] at hd;refine⟨hd.1,λy hy=>?_,by rw[e];simp⟩;rw[e] at hy
 rcases ek.1 hy with rfl|hy
 exact nj _;exact Int.le_of_lt (hd.1 y hy)
def ae6{y:Int}(h:i<=j)(hy:y∈l.drop j):y∈l.drop i:=by
 have e:l.drop j=(l.drop i).drop (j-i):=by rw[vZ];congr 1;omega
 rw[e] at hy;exact uH hy
structure yh(l m:List Int)(i j:Nat)(o:List Int):Prop where
 hi:i<=l.length
 hj:j<=m.length
 hn:o.length<=i+j
 p:o.Pairwise (· < ·)
 hm:∀x∈o,x∈l\/x∈m
 a:∀x∈o,∀y∈l.drop i,x<y
 b:∀x∈o,∀y∈m.drop j,x<y
def yh.push{o:List Int}{i' j':Nat}{z:Int}(h:yh l m i j o)(h1:i<=i')(h2:j<=j')(h3:i'<=l.length)(h4:j'<=m.length)(h5:i+j<i'+j')(hz:z∈l.drop i\/z∈m.drop j)(ha:∀y∈l.drop i',z<y)(hb:∀y∈m.drop j',z<y):yh l m i' j' (o++[z]):=by
 refine⟨h3,h4,?_,?_,?_,?_,?_⟩;have:=h.hn;rw[cB,nq];omega;rw[List.pairwise_append];refine⟨h.p,aBI,λx hx y hy=>?_⟩;rw[cr.1 hy];exact hz.elim (h.a x hx z) (h.b x hx z);intro x hx
 rcases dZ.1 hx with q|q
 exact h.hm x q;rw[cr.1 q];exact hz.elim (λq=>ay (uH q)) λq=>ax (uH q);intro x hx y hy
 rcases dZ.1 hx with q|q
 exact h.a x q y (ae6 h1 hy);rw[cr.1 q];exact ha y hy;intro x hx y hy
 rcases dZ.1 hx with q|q
 exact h.b x q y (ae6 h2 hy);rw[cr.1 q];exact hb y hy
def Y1(h:l.length<=i){P:Int->Prop}:∀y∈l.drop i,P y:=λy hy=>by
 rw[sY h] at hy;cases hy
def ajP(N:Nat)(r:U):Prop:=∃o:List Int,bL r (o.map ag)/\nW N o
def avd{G:Cells}{v w:U}(hv:bL v (l.map ag))(hw:bL w (m.map ag))(hl:nW N l)(hm:nW N m)(hN:N<=1000000):cx G az 206 [v,w] (ajP N):=by
 have mX:=hl.len;have hml:=hm.len;refine cR (asg.go ?_);have ln:=hv.bO;rw[b_] at ln;have jO:∀hp,bO v hp=some (.v (.int .i64 (l.length:Int)),hp):=λhp=>aCl
 have lm:=hw.bO;rw[b_] at lm;have CQ:∀hp,bO w hp=some (.v (.int .i64 (m.length:Int)),hp):=λhp=>by rw[lm hp,kN]
 refine wy ?_;refine mF (n:=l.length+m.length) (λk e h=>∃(i j:Nat) (o:List Int) (ak:U),k=(l.length-i)+(m.length-j)/\yh l m i j o/\e=[(0,v),(1,w),(5,ak),(6,ag i),(7,ag j)]/\bX h ak (o.map ag) 1 3) ⟨0,0,[],.af,rfl,⟨aBH,aBH,aBI,List.Pairwise.nil,aBI,aBI,aBI⟩,rfl,qa _ _ _⟩ ?_;rintro k e h ⟨i,j,o,ak,rfl,hI,rfl,hA⟩;have hi:=hI.hi;have hj:=hI.hj;have ho:=hI.hn;have push:∀z:Int,∃bg g,cG h 1 8 3 ak (.sl [.v (.int .i64 z)] .exact)=some (bg,g)/\bX g bg ((o++[z]).map ag) 1 3:=λz=>by
  obtain⟨bg,g,e1,dO,_⟩:=kL (x:=.v (.int .i64 z)) (aY:=8) hA (C3 o) rfl aBJ aBJ aBK;exact⟨bg,g,e1,aCm⟩
 have w1:b7.wrap ((i:Int)+1)=((i+1:Nat):Int):=jA aBH;have w2:b7.wrap ((j:Int)+1)=((j+1:Nat):Int):=jA aBH
 rcases cE i l.length with hi2|hi2
 obtain⟨a,ha⟩:=cD hi2;have Ix:bu 1 v (.v (.int .i64 (i:Int)))=some (.fp [ag a] 0):=hv.bK (x:=ag a) (by simp[ha]) rfl;unfold ag at Ix;obtain⟨a1,a2,a3⟩:=Uk hl.1 ha;obtain⟨bg,g,e1,e2⟩:=push a
 rcases cE j m.length with hj2|hj2
 obtain⟨b,hb⟩:=cD hj2;have CC:bu 1 w (.v (.int .i64 (j:Int)))=some (.fp [ag b] 0):=hw.bK (x:=ag b) aDb rfl;unfold ag at CC;obtain⟨b1,b2,b3⟩:=Uk hm.1 hb;obtain⟨Un,g2,d1,d2⟩:=push b
 rcases Int.lt_trichotomy a b with hab|hab|hab
 · have fin:yh l m (i+1) j (o++[a]):=hI.push aBH aBH aBH aBH aBH (ay a3) a1 λy hy=>Int.lt_of_lt_of_le hab (b2 y hy)
   refine p9 @ag.eq_1 @jO @CQ @Ix @CC @e1 @d1 @w1 @w2 ?_
   repeat' ((refine ba (λq'=>?_) λq'=>?_)<;>refine lB (dV @jO @CQ @Ix @CC) @tN @wD @e1 @d1 @w1 @w2 ?_)
   all_goals first
    |(exfalso;omega)
    |exact⟨(l.length-(i+1))+(m.length-j),aBH,i+1,j,o++[a],bg,rfl,fin,rfl,e2⟩
 · subst hab
   have fin:yh l m (i+1) (j+1) (o++[a]):=hI.push aBH aBH aBH aBH aBH (ay a3) a1 b1;have aom:(a==a)=true:=beq_self_eq_true a;refine wy ?_
   repeat' ((refine ba (λq'=>?_) λq'=>?_)<;>refine lB (dV @jO @CQ @Ix @CC) @tN @wD @e1 @w1 @w2 @aom ?_)
   all_goals first
    |(exfalso;omega)
    |exact⟨(l.length-(i+1))+(m.length-(j+1)),aBH,i+1,j+1,o++[a],bg,rfl,fin,rfl,e2⟩
 · have fin:yh l m i (j+1) (o++[b]):=hI.push aBH aBH aBH aBH aBH (ax b3) (λy hy=>Int.lt_of_lt_of_le hab (a2 y hy)) b1
   refine wy ?_
   repeat' ((refine ba (λq'=>?_) λq'=>?_)<;>refine lB (dV @jO @CQ @Ix @CC) @tN @wD @e1 @d1 @w1 @w2 ?_)
   all_goals first
    |(exfalso;omega)
    |exact⟨(l.length-i)+(m.length-(j+1)),aBH,i,j+1,o++[b],Un,rfl,fin,rfl,d2⟩
 have fin:yh l m (i+1) j (o++[a]):=hI.push aBH aBH aBH aBH aBH (ay a3) a1 (Y1 hj2);refine wy ?_;exact⟨(l.length-(i+1))+(m.length-j),aBH,i+1,j,o++[a],bg,rfl,fin,rfl,e2⟩
 rcases cE j m.length with hj2|hj2
 obtain⟨b,hb⟩:=cD hj2;have CC:bu 1 w (.v (.int .i64 (j:Int)))=some (.fp [ag b] 0):=hw.bK (x:=ag b) aDb rfl;unfold ag at CC;obtain⟨b1,b2,b3⟩:=Uk hm.1 hb;obtain⟨Un,g2,d1,d2⟩:=push b;have ao8:((j:Int)==(m.length:Int))=false:=KU aBH;have fin:yh l m i (j+1) (o++[b]):=hI.push aBH aBH aBH aBH aBH (ax b3) (Y1 hi2) b1;refine mG @ag.eq_1 @jO @CQ @ao8 ?_;refine wy ?_;refine wy ?_;exact⟨(l.length-i)+(m.length-(j+1)),aBH,i,j+1,o++[b],Un,rfl,fin,rfl,d2⟩;refine wy ?_;have hR:nW N o:=⟨hI.p,λx hx=>(hI.hm x hx).elim (hl.2 x) (hm.2 x)⟩
 rcases hA with⟨rfl,z⟩|⟨id,rfl,_⟩
 obtain⟨n,hn⟩:=(cS:aX h _ _).done;exact⟨n,_,hn,[],ax ⟨rfl,rfl⟩,nW.nil N⟩;obtain⟨n,hn⟩:=(fj (t:=.tok id) (gh (f:=ag) (l:=o) λa _=>aB _):aX h _ _).done;exact⟨n,_,hn,o,ay rfl,hR⟩
end
section
variable{bv ev fv o0 ak v w fc xf:U}{M N an cX:Nat}{G:Cells}{hp hp':List aa}{cs z:List U}{em ow:Bool}
def nV(v:U)(l:List Int):Prop:=(v=.af/\l=[])\/∃t,v=.sl (l.map ag) t
def alo(l:List Int):∀x∈l.map ag,∀c∈x.cells,dn c:=λx hx c hc=>by
 obtain⟨t,_,rfl⟩:=cO.1 hx;rw[cr.1 (show c∈[ag t] from hc)];exact bM _
section
variable{v:U}{l:List Int}
def nV.imp(h:nV v l):∃v',lI v v'/\bL v' (l.map ag):=by
 rcases h with⟨rfl,rfl⟩|⟨t,rfl⟩
 exact⟨.af,mg,ax ⟨rfl,rfl⟩⟩;exact⟨.sl (l.map ag) .no,jZ (alo l),ay rfl⟩
def nV.one(h:nV v l):bn v=true:=by rcases h with⟨rfl,_⟩|⟨t,rfl⟩<;>rfl
@[go_sem]def nV.len(h:nV v l)(hp:List aa):bO v hp=some (.v (.int .i64 (l.length:Int)),hp):=by
 rcases h with⟨rfl,rfl⟩|⟨t,rfl⟩
 rfl;rw[nF,b_,kN]
@[go_sem]def nV.bK(h:nV v l){i:Nat}{x:Int}(hx:l[i]?=some x):bu 1 v (.v (.int .i64 (i:Int)))=some (.fp [.v (.int .i64 x)] 0):=by
 rcases h with⟨rfl,rfl⟩|⟨t,rfl⟩
 simp at hx;exact ku (x:=ag x) aBU rfl
def nV.fz(h:nV v l)(hp:List aa):∃v',aX hp v v'/\bL v' (l.map ag):=by
 rcases h with⟨rfl,rfl⟩|⟨t,rfl⟩
 exact⟨.af,cS,ax ⟨rfl,rfl⟩⟩;exact⟨_,fj (gh (f:=ag) (l:=l) λa _=>aB _),ay rfl⟩
def vH(h:bL v (l.map ag)):nV v l:=by
 rcases h with rfl|⟨rfl,q⟩
 exact ax ⟨_,rfl⟩;exact ay ⟨rfl,ajf.1 q⟩
end
def n5(h:bn w=true):w.cells=[w]:=by cases w<;>first|rfl|cases h
def fJ(N:Nat)(v:U):Prop:=∃l,nV v l/\nW N l
def fJ.nil(N:Nat):fJ N .af:=⟨[],ay ⟨rfl,rfl⟩,nW.nil N⟩
def fJ.one(h:fJ N v):bn v=true:=by obtain⟨l,h1,_⟩:=h;exact h1.one
def fJ.mono(h:fJ N v)(hm:N<=M):fJ M v:=by obtain⟨l,h1,h2⟩:=h;exact⟨l,h1,h2.mono hm⟩
def Fk{K:U->List aa->Prop}(hv:fJ N v)(hw:fJ N w)(hN:N<=256)(hk:∀r,fJ N r->K r hp):aE G az 206 [v,w] hp K:=by
 obtain⟨l,h1,h2⟩:=hv;obtain⟨m,k1,k2⟩:=hw;obtain⟨v',a1,a2⟩:=h1.imp;obtain⟨w',b1,b2⟩:=k1.imp;exact aE.cY (avd a2 b2 h2 k2 aBH) λr ⟨o,q1,ah⟩=>hk r ⟨o,(vH q1),ah⟩
def kH(N M:Nat)(bv:U)(hp:List aa):Prop:=∃cs:List U,cs.length=M/\(∀c∈cs,fJ N c)/\((bv=.af/\cs=[])\/∃k,bv=.rs k M 1 0 M/\hp[k]?=some (.cells cs true))
@[go_sem]def Ji{p:Nat}{r:U}(h:p<cs.length):putAt cs p [r]=cs.set p r:=by
 rw[ajm,if_pos h];unfold putAt;simp
section
variable{N M p:Nat}{bv:U}{hp hp':List aa}
def kH.ext(h:kH N M bv hp)(hk:∀(j:Nat) cs,hp[j]?=some (.cells cs true)->hp'[j]?=some (.cells cs true)):kH N M bv hp':=by
 obtain⟨cs,h1,h2,h3⟩:=h;refine⟨cs,h1,h2,h3.elim ay ?_⟩;rintro⟨k,e,q⟩;exact ax ⟨k,e,hk k cs q⟩
def kH.mono{N':Nat}(h:kH N M bv hp)(hN:N<=N'):kH N' M bv hp:=by
 obtain⟨cs,h1,h2,h3⟩:=h;exact⟨cs,h1,λc hc=>(h2 c hc).mono hN,h3⟩
def kH.one(h:kH N M bv hp):bn bv=true:=by
 obtain⟨cs,_,_,⟨rfl,_⟩|⟨k,rfl,_⟩⟩:=h<;>rfl
structure Gv(hp hp':List aa):Prop where
 len:hp'.length=hp.length
 keep:∀(j:Nat) b,hp[j]?=some b->(∀cs,b≠.cells cs true)->hp'[j]?=some b
def kH.at(h:kH N M bv hp)(abi:p<M):∃k c,bu 1 bv (.v (.int .i64 (p:Int)))=some (.rp k M p)/\aq hp false 1 (.rp k M p)=some c/\fJ N c/\∀r,fJ N r->∃hp',aF hp 1 (.rp k M p) r=some hp'/\kH N M bv hp'/\Gv hp hp':=by
 obtain⟨cs,h1,h2,⟨rfl,rfl⟩|⟨k,rfl,hk⟩⟩:=h;simp at h1;omega;subst h1;have hlt:p<cs.length:=abi;obtain⟨c,hc⟩:=cD hlt;have cK:=gl hk;refine⟨k,c,?_,?_,h2 c (bG hc),λr hr=>⟨hp.set k (.cells (cs.set p r) true),?_,⟨cs.set p r,by rw[rU],λx hx=>?_,ax ⟨k,rfl,aR cK⟩⟩,⟨by rw[rU],λj b hj hb=>?_⟩⟩⟩;have:=NP (k:=k) (m:=cs.length) (n:=1) (len:=cs.length) (j:=p) abi;rw[Nat.mul_one] at this;exact this;simp only[aq,hk,if_true,dB];rw[if_neg aBI];exact hc;have cC:=n5 hr.one;simp only[aF,hk,if_true,dJ,cC];rw[if_pos ⟨rfl,aBH,by simp[hr.one]⟩,Ji hlt]
 rcases Ga hx with q|rfl
 exact h2 x q;exact hr;rw[av aC9];exact hj
end
section
variable{h:List aa}{k:Nat}{a b c d e w:U}
@[go_sem]def gT(hb:h[k]?=some (.cells [a,b,c,d,e] false)):aq h false 1 (.mp k 0)=some a/\aq h false 1 (.mp k 1)=some b/\aq h false 1 (.mp k 2)=some c/\aq h false 1 (.mp k 3)=some d/\aq h false 1 (.mp k 4)=some e/\aq h true 5 (.mp k 0)=some (.agg [a,b,c,d,e]):=by
 simp only[aq,hb];exact⟨rfl,rfl,rfl,rfl,rfl,rfl⟩
@[go_sem]def og(hb:h[k]?=some (.cells [a,b,c,d,e] false))(hw:bn w=true):aF h 1 (.mp k 0) w=some (h.set k (.cells [w,b,c,d,e] false))/\aF h 1 (.mp k 1) w=some (h.set k (.cells [a,w,c,d,e] false))/\aF h 1 (.mp k 2) w=some (h.set k (.cells [a,b,w,d,e] false))/\aF h 1 (.mp k 3) w=some (h.set k (.cells [a,b,c,w,e] false))/\aF h 1 (.mp k 4) w=some (h.set k (.cells [a,b,c,d,w] false)):=by
 have cC:=n5 hw;refine⟨?_,?_,?_,?_,?_⟩<;>simp only[aF,hb,dJ,cC]<;>simp[hw,putAt]
@[go_sem]def IW{a' b' c' d' e':U}(hb:h[k]?=some (.cells [a,b,c,d,e] false))(hw:[a',b',c',d',e'].all bn=true):aF h 5 (.mp k 0) (.agg [a',b',c',d',e'])=some (h.set k (.cells [a',b',c',d',e'] false)):=by
 have cC:(bT [a',b',c',d',e']).cells=[a',b',c',d',e']:=rfl;simp only[aF,hb,dJ,cC];rw[if_pos ⟨rfl,aBI,hw⟩];simp[putAt]
end
structure gC(cX:Nat)(hp hp':List aa):Prop where
 len:hp.length<=hp'.length
 keep:∀(j:Nat) b,hp[j]?=some b->j≠cX->(∀cs,b≠.cells cs true)->hp'[j]?=some b
def gC.refl(cX:Nat)(hp:List aa):gC cX hp hp:=⟨bl _,λ_ _ h _ _=>h⟩
def gC.app{x:List aa}:gC cX hp (hp++x):=⟨aBI,λ_ _ h _ _=>aM h⟩
def gC.trans{a b c:List aa}(h:gC cX a b)(k:gC cX b c):gC cX a c:=⟨fk h.len k.len,λj x q h1 h2=>k.keep j x (h.keep j x q h1 h2) h1 h2⟩
def Gv.ayx(h:Gv hp hp'):gC cX hp hp':=⟨by rw[h.len];exact bl _,λj b q _ h2=>h.keep j b q h2⟩
def gC.set{b:aa}:gC cX hp (hp.set cX b):=⟨aBI,λj x q h1 _=>by rw[av (dr h1)];exact q⟩
structure zE(N M cX:Nat)(o0 bv:U)(hp:List aa)(xc:List U)(fv ev:U)(em:Bool)(h:List aa):Prop where
 o:h[cX]?=some (.cells [o0,bv,fv,ev,.v (.bool em)] false)
 x:h[hp.length]?=some (.cells xc false)
 b:kH N M bv h
 k:gC cX hp h
def zE.put{h:List aa}{xc:List U}(s:zE N M cX o0 bv hp xc fv ev em h)(hl:cX<hp.length)(jK ev':U)(tJ:Bool):zE N M cX o0 bv hp xc jK ev' tJ (h.set cX (.cells [o0,bv,jK,ev',.v (.bool tJ)] false)):=by
 have hk:=gl s.o;refine⟨aR hk,by rw[av aBH];exact s.x,s.b.ext λj cs q=>?_,s.k.trans gC.set⟩;rw[av (by rintro rfl;rw[s.o] at q;simp at q)];exact q
def ayy(hb:hp[cX]?=some (.cells [o0,bv,fv,ev,.v (.bool em)] false))(hf:fJ N fv)(he:fJ N ev)(hB:kH N M bv hp)(ob:fJ N xf)(kQ:fJ N fc)(hNM:N<=M)(hN:N<=256):
  aE G az 249 [.mp cX 0,.agg [.af,.af,xf,fc,.v (.bool ow)]] hp λr hp'=>r=.aK []/\∃jK ev' tJ,hp'[cX]?=some (.cells [o0,bv,jK,ev',.v (.bool tJ)] false)/\fJ N jK/\fJ N ev'/\kH N M bv hp'/\gC cX hp hp':=by
 have cK:=gl hb;refine asq.go ?_;refine cM (λe h=>e=[(0,.mp cX 0),(3,.mp hp.length 0)]/\zE N M cX o0 bv hp [.af,.af,xf,fc,.v (.bool ow)] fv ev em h) ?_ ?_;refine wx ?_;exact⟨trivial,aM hb,aBI,hB.ext λj cs q=>aM q,gC.app⟩;rintro e h0 ⟨rfl,iK⟩;obtain⟨el,Ai,xe⟩:=he;have hel:=xe.len;refine cM (λe h=>e=[(0,.mp cX 0),(3,.mp hp.length 0)]/\zE N M cX o0 bv hp [.af,.af,xf,fc,.v (.bool ow)] fv ev em h) ?_ ?_;refine wy ?_;refine cj (λi e h=>e=[(0,.mp cX 0),(3,.mp hp.length 0),(4,ag i)]/\zE N M cX o0 bv hp [.af,.af,xf,fc,.v (.bool ow)] fv ev em h) el.length ⟨rfl,iK⟩ ?_ ?_;rintro i e h hi ⟨rfl,s⟩;obtain⟨x,hx⟩:=cD hi;obtain⟨x0,x1⟩:=xe.2 x (bG hx);obtain⟨p,rfl⟩:=mJ x0;obtain⟨k,c,a1,a2,a3,a4⟩:=s.b.at (p:=p) aBH;obtain⟨l0,l1,l2,l3,l4,_⟩:=gT s.o;obtain⟨m0,m1,m2,m3,m4,_⟩:=gT s.x;have aqm:=Ai.bK hx;refine p_ @Ai.len (Fk a3 ob hN λr hr=>?_);obtain⟨h',b1,b2,b3⟩:=a4 r hr;refine lB (dV @ag.eq_1 @l1 @l3 @Ai.len) @aqm @a1 @a2 @m2 @b1 @qE ?_;exact⟨b3.keep _ _ s.o aBI,b3.keep _ _ s.x aBI,b2,s.k.trans b3.ayx⟩;rintro e h ⟨rfl,s⟩;obtain⟨l0,l1,l2,l3,l4,_⟩:=gT s.o;refine fG @ag.eq_1 @l3 ?_;exact⟨trivial,s⟩;rintro e h1 ⟨rfl,s1⟩;refine cM (λe h=>e=[(0,.mp cX 0),(3,.mp hp.length 0)]/\∃jK,fJ N jK/\zE N M cX o0 bv hp [.af,.af,xf,fc,.v (.bool ow)] jK ev em h) ?_ ?_;obtain⟨l0,l1,l2,l3,l4,_⟩:=gT s1.o;obtain⟨m0,m1,m2,m3,m4,_⟩:=gT s1.x;cases em with
 |false=>
  refine wx ?_;exact⟨trivial,fv,hf,s1⟩
 |true=>
  refine wy (Fk hf ob hN λr hr=>?_);obtain⟨t0,t1,t2,t3,t4⟩:=og s1.o hr.one;refine wx ?_;exact⟨trivial,r,hr,s1.put cK r ev true⟩
 rintro e h2 ⟨rfl,jK,hf',s2⟩;have he:fJ N ev:=⟨el,Ai,xe⟩;refine cM (λe h=>e=[(0,.mp cX 0),(3,.mp hp.length 0)]/\∃ev',fJ N ev'/\zE N M cX o0 bv hp [.af,.af,xf,fc,.v (.bool ow)] jK ev' em h) ?_ ?_;obtain⟨l0,l1,l2,l3,l4,_⟩:=gT s2.o;obtain⟨m0,m1,m2,m3,m4,_⟩:=gT s2.x;cases ow with
 |false=>
  obtain⟨t0,t1,t2,t3,t4⟩:=og s2.o kQ.one;refine wx ?_;exact⟨trivial,fc,kQ,s2.put cK jK fc em⟩
 |true=>
  refine wy (Fk he kQ hN λr hr=>?_);obtain⟨t0,t1,t2,t3,t4⟩:=og s2.o hr.one;refine wx ?_;exact⟨trivial,r,hr,s2.put cK jK r em⟩
 rintro e h3 ⟨rfl,ev',he',c8⟩;obtain⟨l0,l1,l2,l3,l4,_⟩:=gT c8.o;obtain⟨m0,m1,m2,m3,m4,_⟩:=gT c8.x;have fin:∀b:Bool,aF h3 1 (.mp cX 4) (.v (.bool b))=some (h3.set cX (.cells [o0,bv,jK,ev',.v (.bool b)] false)):=λb=>(og c8.o (w:=.v (.bool b)) rfl).2.2.2.2;have Hp:∀b:Bool,∃ZZ Zg amh,(h3.set cX (.cells [o0,bv,jK,ev',.v (.bool b)] false))[cX]?=some (.cells [o0,bv,ZZ,Zg,.v (.bool amh)] false)/\fJ N ZZ/\fJ N Zg/\kH N M bv (h3.set cX (.cells [o0,bv,jK,ev',.v (.bool b)] false))/\gC cX hp (h3.set cX (.cells [o0,bv,jK,ev',.v (.bool b)] false)):=λb=>by
  have q:=c8.put cK jK ev' b;exact⟨jK,ev',b,q.o,hf',he',q.b,q.k⟩
 cases em with
 |false=>
  refine fG @l4 @fin ?_;exact⟨trivial,Hp _⟩
 |true=>
  refine gV @l4 @m4 @fin ?_;exact⟨trivial,Hp _⟩
structure qX(an:Nat)(z:List U)(N:Nat)(ak bv:U)(hp:List aa):Prop where
 b:hp[an]?=some (.cells (ak::bv::z) false)
 on:∃xs,bX hp ak xs 1 56/\xs.length=N/\∀x∈xs,∃l,nV x l/\l.length<=256/\∀y∈l,(0:Int)<=y/\y<256
 bq:kH N N bv hp
def qX.mD(h:qX an z N ak bv hp)(hk:gC cX hp hp')(ho:hp[cX]?=some (.cells cs false))(hne:cX≠an)(hB:kH N N bv hp'):qX an z N ak bv hp':=by
 refine⟨hk.keep _ _ h.b (dr hne) aBI,?_,hB⟩;obtain⟨xs,h1,h2,h3⟩:=h.on;refine⟨xs,h1.elim ay ?_,h2,h3⟩;rintro⟨id,q1,ah⟩;exact ax ⟨id,q1,hk.keep _ _ ah (by rintro rfl;rw[ho] at ah;cases ah) aBI⟩
def axc(hX:qX an z N ak bv hp)(hb:hp[cX]?=some (.cells [.af,.af,fv,ev,.v (.bool em)] false))(hne:cX≠an)(hf:fJ N fv)(he:fJ N ev)(ob:fJ N xf)(kQ:fJ N fc)(hN:N<=256):
  aE G az 207 [.mp an 0,.mp cX 0,.agg [.af,.af,xf,fc,.v (.bool ow)]] hp λr hp'=>r=.aK []/\qX an z N ak bv hp'/\gC cX hp hp'/\∃jK ev' tJ,hp'[cX]?=some (.cells [.af,.af,jK,ev',.v (.bool tJ)] false)/\fJ N jK/\fJ N ev':=by
 have cK:=gl hb;refine ash.go ?_;have hcl:(bT [.af,.af,xf,fc,.v (.bool ow)]).cells=[.af,.af,xf,fc,.v (.bool ow)]:=rfl;have g1:(hp++[aj [.af,.af,xf,fc,.v (.bool ow)] false])[cX]?=some (.cells [.af,.af,fv,ev,.v (.bool em)] false):=aM hb;have g2:(hp++[aj [.af,.af,xf,fc,.v (.bool ow)] false])[an]?=some (.cells (ak::bv::z) false):=aM hX.b;have g3:(hp++[aj [.af,.af,xf,fc,.v (.bool ow)] false])[hp.length]?=some (.cells [.af,.af,xf,fc,.v (.bool ow)] false):=aBI
 have k1:gC cX hp (hp++[aj [.af,.af,xf,fc,.v (.bool ow)] false]):=gC.app;have Ki:kH N N bv (hp++[aj [.af,.af,xf,fc,.v (.bool ow)] false]):=hX.bq.ext λj cs q=>aM q;refine ni ?_;generalize hp++[aj [.af,.af,xf,fc,.v (.bool ow)] false]=g at g1 g2 g3 k1 Ki⊢;obtain⟨t0,t1,t2,t3,t4⟩:=og g1 hX.bq.one;have ji:=gl g1;have u1:(g.set cX (.cells [.af,bv,fv,ev,.v (.bool em)] false))[cX]?=some (.cells [.af,bv,fv,ev,.v (.bool em)] false):=aR ji;have u2:(g.set cX (.cells [.af,bv,fv,ev,.v (.bool em)] false))[hp.length]?=some (.cells [.af,.af,xf,fc,.v (.bool ow)] false):=by rw[av aBH];exact g3
 have k2:gC cX hp (g.set cX (.cells [.af,bv,fv,ev,.v (.bool em)] false)):=k1.trans gC.set;have ja:kH N N bv (g.set cX (.cells [.af,bv,fv,ev,.v (.bool em)] false)):=Ki.ext λj cs q=>by
  rw[av (by rintro rfl;rw[g1] at q;simp at q)];exact q
 refine wx (aZ (ayy u1 hf he ja ob kQ (bl _) hN) ?_);rintro _ g4 ⟨rfl,jK,ev',tJ,v1,v2,v3,v4,v5⟩;have aoW:=gl v1;have eF:gC cX hp (g4.set cX (.cells [.af,.af,jK,ev',.v (.bool tJ)] false)):=(k2.trans v5).trans gC.set;have Gf:kH N N bv (g4.set cX (.cells [.af,.af,jK,ev',.v (.bool tJ)] false)):=v4.ext λj cs q=>by
  rw[av (by rintro rfl;rw[v1] at q;simp at q)];exact q
 refine fY ?_;exact⟨trivial,hX.mD eF hb hne Gf,eF,jK,ev',tJ,aR aoW,v2,v3⟩
end
open Go.Proofs.YtggeooeohcbdhaaGreatDoor.fJ renaming nil->Bt
section
variable{M N k an cX m:Nat}{cs z:List U}{g h h' hp x:List aa}
def iR(N:Nat)(cs:List U):Prop:=∃f e b,cs=[.af,.af,f,e,.v (.bool b)]/\fJ N f/\fJ N e
def z5:List U:=[.af,.af,.af,.af,.v (.bool false)]
def iR.mono(h:iR N cs)(hm:N<=M):iR M cs:=by
 obtain⟨f,e,b,rfl,h1,h2⟩:=h;exact⟨f,e,b,rfl,h1.mono hm,h2.mono hm⟩
def iR.z5(N:Nat):iR N z5:=⟨_,_,_,rfl,Bt N,Bt N⟩
def iR.one(h:iR N cs):cs.length=5/\cs.all bn=true:=by
 obtain⟨f,e,b,rfl,h1,h2⟩:=h;refine⟨rfl,?_⟩;simp only[lD,oy,h1.one,h2.one];rfl
@[go_sem]def Je(h:iR N cs){cs0:List U}(hk:g[k]?=some (.cells cs0 false))(h0:cs0.length=5):aF g 5 (.mp k 0) (.agg cs)=some (g.set k (.cells cs false)):=by
 obtain⟨h1,h2⟩:=h.one;simp only[aF,hk,dJ];have cC:(bT cs).cells=cs:=rfl;rw[cC,if_pos ⟨h1,aBH,h2⟩];unfold putAt;rw[qQ,eR,sY aBH,e4]
@[go_sem]def yZ(h:iR N cs)(g:List aa):aF (g++[.cells z5 false]) 5 (.mp g.length 0) (.agg cs)=some (g++[.cells cs false]):=by
 rw[Je h (cs0:=z5) aBI rfl];simp
@[go_sem]def vw(hk:g[k]?=some (.cells cs false))(h0:cs.length=5):aq g true 5 (.mp k 0)=some (.agg cs):=by
 simp only[aq,hk];unfold dB;rw[if_pos rfl,if_pos aBH,nk,kG aBH]
structure mO(an:Nat)(hp hp':List aa):Prop where
 len:hp.length<=hp'.length
 wN:∀(j:Nat) cs,j≠an->hp[j]?=some (.cells cs false)->hp'[j]?=some (.cells cs false)
 tok:∀(j:Nat) c,hp[j]?=some (.tok c 5 190)->hp'[j]?=some (.tok c 5 190)
def mO.refl(an:Nat)(hp:List aa):mO an hp hp:=⟨bl _,λ_ _ _ h=>h,λ_ _ h=>h⟩
def mO.trans{a b c:List aa}(h:mO an a b)(k:mO an b c):mO an a c:=⟨fk h.len k.len,λj x q ah=>k.wN j x q (h.wN j x q ah),λj x q=>k.tok j x (h.tok j x q)⟩
def mO.app:mO an hp (hp++x):=⟨aBI,λ_ _ _ h=>aM h,λ_ _ h=>aM h⟩
def mO.mD(s:mO an hp h)(t:gC cX h h')(hl:hp.length<=cX):mO an hp h':=⟨fk s.len t.len,λj cs q ah=>by
 have:=gl ah;exact t.keep j _ (s.wN j cs q ah) aBH aBI,λj c ah=>by
 have:=gl ah;exact t.keep j _ (s.tok j c ah) aBH aBI⟩
def iQ(N:Nat)(h:List aa)(m:Nat):Prop:=∃cs,h[m]?=some (.cells cs false)/\iR N cs
def iQ.mono(s:iQ N h m)(hm:N<=M):iQ M h m:=by
 obtain⟨cs,h1,h2⟩:=s;exact⟨cs,h1,h2.mono hm⟩
def iQ.mD(s:iQ N h m)(t:gC cX h h')(hne:m≠cX):iQ N h' m:=by
 obtain⟨cs,h1,h2⟩:=s;exact⟨cs,t.keep _ _ h1 hne aBI,h2⟩
def iQ.lay(s:iQ N h m)(t:mO an h h')(hne:m≠an):iQ N h' m:=by
 obtain⟨cs,h1,h2⟩:=s;exact⟨cs,t.wN _ _ hne h1,h2⟩
def iQ.app(s:iQ N h m):iQ N (h++x) m:=by
 obtain⟨cs,h1,h2⟩:=s;exact⟨cs,aM h1,h2⟩
def iQ.new(s:iR N cs):iQ N (h++[.cells cs false]) h.length:=⟨cs,aBI,s⟩
def o7(an:Nat)(z:List U)(N:Nat)(hp:List aa):Prop:=∃ak bv,qX an z N ak bv hp
def o7.app(h:o7 an z N hp):o7 an z N (hp++x):=by
 obtain⟨ak,bv,h⟩:=h;refine⟨ak,bv,aM h.b,?_,h.bq.ext λj cs q=>aM q⟩;obtain⟨xs,h1,h2,h3⟩:=h.on;refine⟨xs,h1.elim ay ?_,h2,h3⟩;rintro⟨id,q1,ah⟩;exact ax ⟨id,q1,aM ah⟩
def o7.mD{hp':List aa}(h:o7 an z N hp)(hk:gC cX hp hp')(ho:hp[cX]?=some (.cells cs false))(hne:cX≠an)(hr:∀(j:Nat) cs,hp[j]?=some (.cells cs true)->hp'[j]?=some (.cells cs true)):o7 an z N hp':=by
 obtain⟨ak,bv,h⟩:=h;exact⟨ak,bv,h.mD hk ho hne (h.bq.ext hr)⟩
def o7.lt(h:o7 an z N hp):an<hp.length:=by
 obtain⟨ak,bv,h⟩:=h;exact gl h.b
structure eu(an:Nat)(z:List U)(hp:List aa)(pc:List U)(w:Nat)(h:List aa):Prop where
 dQ:o7 an z w h
 k:mO an hp h
 r:h[hp.length]?=some (.cells z5 false)
 p:h[hp.length+1]?=some (.cells pc false)
 o:iQ w h (hp.length+2)
 lt:an<hp.length
section
variable{an:Nat}{z:List U}{hp h h' x:List aa}{pc:List U}{w w' cX m:Nat}{cs:List U}
def eu.zT(s:eu an z hp pc w h):hp.length+3<=h.length:=by
 obtain⟨cs,q,_⟩:=s.o;have:=gl q;omega
def eu.app(s:eu an z hp pc w h):eu an z hp pc w (h++x):=⟨s.dQ.app,s.k.trans mO.app,aM s.r,aM s.p,s.o.app,s.lt⟩
def eu.lay(s:eu an z hp pc w h)(t:mO an h h')(hn:o7 an z w' h')(hw:w<=w'):eu an z hp pc w' h':=
 have hl:=s.lt
 ⟨hn,s.k.trans t,t.wN _ _ aBH s.r,t.wN _ _ aBH s.p,(s.o.lay t aBH).mono hw,hl⟩
def eu.mD(s:eu an z hp pc w h)(t:gC cX h h')(hl:hp.length+2<=cX)(hn:o7 an z w h')(ho:iQ w h' (hp.length+2)):eu an z hp pc w h':=
 ⟨hn,s.k.mD t aBH,t.keep _ _ s.r aBH aBI,t.keep _ _ s.p aBH aBI,ho,s.lt⟩
def eu.put(s:eu an z hp pc w h)(hm:iQ w h m)(hl:hp.length+2<=m)(hc:iR w cs):eu an z hp pc w (h.set m (.cells cs false))/\iQ w (h.set m (.cells cs false)) m:=by
 obtain⟨c0,h1,h2⟩:=hm;have hml:=gl h1;have hlt:=s.lt;have t:gC m h (h.set m (.cells cs false)):=gC.set;have nI:iQ w (h.set m (.cells cs false)) m:=⟨cs,aR hml,hc⟩;refine⟨s.mD t hl (s.dQ.mD t h1 aBH λj c q=>aCT) ?_,nI⟩;by_cases e:hp.length+2=m;rw[e];exact nI;exact s.o.mD t e
def eu.call(s:eu an z hp pc w h){G:Cells}(hm:iQ w h m)(hl:hp.length+2<=m)(hc:iR w cs)(hw:w<=256){K:U->List aa->Prop}(hK:∀h',eu an z hp pc w h'->gC m h h'->iQ w h' m->K (.aK []) h'):aE G az 207 [.mp an 0,.mp m 0,.agg cs] h K:=by
 obtain⟨xf,fc,jT,rfl,ob,kQ⟩:=hc;obtain⟨_,h1,fv,ev,em,rfl,hf,he⟩:=hm;obtain⟨ak,bv,hX⟩:=s.dQ;have hlt:=s.lt;refine aZ (axc hX h1 aBH hf he ob kQ hw) ?_;rintro _ h' ⟨rfl,RA,t,jK,ev',tJ,k1,k2,eF⟩;have nI:iQ w h' m:=⟨_,k1,jK,ev',tJ,rfl,k2,eF⟩;refine hK h' (s.mD t hl ⟨ak,bv,RA⟩ ?_) t nI;by_cases e:hp.length+2=m;rw[e];exact nI;exact s.o.mD t e
def kZ(B w:Nat)(h:List aa)(rv:U)(rs:List (List U)):Prop:=((rv=.af/\rs=[])\/∃id,rv=.sl (rs.map bT) (.tok id)/\B<=id/\h[id]?=some (.tok rs.length 5 190))/\∀c∈rs,iR w c
variable{B:Nat}{rv:U}{rs:List (List U)}
def kZ.keep(s:kZ B w h rv rs)(hw:w<=w')(hk:∀(j:Nat) c,h[j]?=some (.tok c 5 190)->h'[j]?=some (.tok c 5 190)):kZ B w' h' rv rs:=by
 refine⟨s.1.elim ay ?_,λc hc=>(s.2 c hc).mono hw⟩;rintro⟨id,q1,ah,aN⟩;exact ax ⟨id,q1,ah,hk _ _ aN⟩
def kZ.mD(s:kZ B w h rv rs)(t:gC cX h h'){c0:List U}(ho:h[cX]?=some (.cells c0 false)):kZ B w h' rv rs:=s.keep (bl _) λj c q=>t.keep _ _ q (by rintro rfl;rw[ho] at q;cases q) aBI
@[go_sem]def Jb:∀{rs:List (List U)},(∀c∈rs,iR w c)->bV 5 (rs.map bT)=true
 |[],_=>rfl
 |c::r,h=>by
  have ih:=Jb (rs:=r) λx hx=>h x aBU;obtain⟨h1,h2⟩:=(h c aBI).one;simp only[bV,eD,lD,gm,h1,h2,beq_self_eq_true,Bool.and_self,J1] at ih⊢;exact ih
def kZ.bK(s:kZ B w h rv rs){i:Nat}{c:List U}(hc:rs[i]?=some c):bu 5 rv (.v (.int .i64 (i:Int)))=some (.fp c 0)/\(∀g,aq g true 5 (.fp c 0)=some (.agg c))/\iR w c:=by
 have hp:=s.2 c (bG hc);obtain⟨h1,h2⟩:=hp.one;refine⟨?_,λg=>?_,hp⟩
 rcases s.1 with⟨rfl,rfl⟩|⟨id,rfl,_⟩
 simp at hc;exact ku (x:=.agg c) (by simp[hc]) h1;simp only[aq];unfold dB;rw[if_pos rfl,if_pos aBH,nk,kG aBH]
def kZ.push(s:kZ B w h rv rs)(hB:B<=h.length)(hn:rs.length<=1000)(hc:iR w cs):∃y8 h',cG h 5 104 190 rv (.sl [.agg cs] .exact)=some (y8,h')/\kZ B w h' y8 (rs++[cs])/\h.length<=h'.length/\(∀(j:Nat) b,h[j]?=some b->(∀c,b≠.tok c 5 190)->h'[j]?=some b)/\∀(j:Nat) b,j<B->h[j]?=some b->h'[j]?=some b:=by
 have hx:=Jb s.2;have hy:bV 5 [bT cs]=true:=Jb (rs:=[cs]) (w:=w) (by simpa using hc);have hfit:(rs.length+1)*104<=140737488355328:=aBH
 have hmem:∀c∈rs++[cs],iR w c:=λc q=>(dZ.1 q).elim (s.2 c) λq=>by rw[cr.1 q];exact hc
 rcases s.1 with⟨rfl,rfl⟩|⟨id,rfl,hid,hk⟩
 refine⟨.sl ([]++[.agg cs]) (.tok h.length),h++[.tok 1 5 190],?_,⟨ax ⟨h.length,rfl,hB,aBI⟩,hmem⟩,aBI,λj b q _=>aM q,λj b _ q=>aM q⟩;simp only[fQ,e5] at hfit;simp[cG,e9,ga,contents,hy];have hl:id<h.length:=gl hk;refine⟨.sl (rs.map bT++[.agg cs]) (.tok id),h.set id (.tok (rs.length+1) 5 190),?_,⟨ax ⟨id,aBI,hid,aCr⟩,hmem⟩,aBI,λj b q hne=>?_,λj b hj q=>by rw[av aBH];exact q⟩;simp[cG,e9,ga,contents,hy,hfit,hx,hk];rw[av (λe=>aDJ)];exact q
def eu.rest(s:eu an z hp pc w h)(hl:h.length<=h'.length)(k1:∀(j:Nat) b,h[j]?=some b->(∀c,b≠.tok c 5 190)->h'[j]?=some b)(k2:∀(j:Nat) b,j<hp.length->h[j]?=some b->h'[j]?=some b):eu an z hp pc w h':=by
 refine⟨?_,⟨fk s.k.len hl,λj cs q ah=>k1 _ _ (s.k.wN j cs q ah) aBI,λj c ah=>k2 _ _ (gl ah) (s.k.tok j c ah)⟩,k1 _ _ s.r aBI,k1 _ _ s.p aBI,?_,s.lt⟩;obtain⟨ak,bv,hX⟩:=s.dQ;refine⟨ak,bv,k1 _ _ hX.b aBI,?_,hX.bq.ext λj cs q=>k1 _ _ q aBI⟩;obtain⟨xs,h1,h2,h3⟩:=hX.on;refine⟨xs,h1.elim ay ?_,h2,h3⟩;rintro⟨id,q1,ah⟩;exact ax ⟨id,q1,k1 _ _ ah aBI⟩;obtain⟨cs,h1,h2⟩:=s.o;exact⟨cs,k1 _ _ h1 aBI,h2⟩
end
def WD(an:Nat)(z:List U)(hp:List aa)(M:Nat)(r:U)(hp':List aa):Prop:=∃cs,r=.agg cs/\iR M cs/\o7 an z M hp'/\mO an hp hp'
def DR(an:Nat)(z:List U)(hp:List aa)(M:Nat)(h:List aa):Prop:=∃cs,h[hp.length]?=some (.cells cs false)/\iR M cs/\o7 an z M h/\mO an hp h
def Gs(G:Cells)(an:Nat)(z:List U)(v lv:U)(ps:List bJ)(i:Int):Prop:=∀N hp,o7 an z N hp->N+cnt ps i<=256->
 aE G az 145 [.mp an 0,v,.v (.int .i64 i),lv] hp (WD an z hp (N+cnt ps i))
def eu.fin{pc:List U}{w:Nat}(s:eu an z hp pc w h)(hc:iR w cs):aF h 5 (.mp hp.length 0) (.agg cs)=some (h.set hp.length (.cells cs false))/\DR an z hp w (h.set hp.length (.cells cs false)):=by
 have hl:=gl s.r;have t:gC hp.length h (h.set hp.length (.cells cs false)):=gC.set;have hlt:=s.lt;refine⟨Je hc s.r rfl,cs,aR hl,hc,s.dQ.mD t s.r aBH λj c q=>?_,s.k.mD t (bl _)⟩;rw[av (by rintro rfl;rw[s.r] at q;simp at q)];exact q
end
section
variable{N an:Nat}{bv ak r:U}{h:List aa}{z:List U}{p:bJ}
def Qa:cZ:=abZ.e.c.tl.tl.tl
def Qc:cZ:=Qa.tl
def Qd:cZ:=Qc.tl
def X8:cZ:=Qd.tl.tl
@[go_sem]def D3{w:U}(h:bn w=true):dA 1 [w]=some (.sl [w] .exact):=by
 have e:=n5 h;unfold dA;rw[if_pos ⟨by simp[bV,e,h],aBI⟩]
@[go_sem]def xH{l:List U}(h:∀x∈l,bn x=true):bV 1 l=true:=by
 rw[bV,c_];intro x hx;have:=h x hx;simp[n5 this,this]
def kH.push(s:kH N N bv h)(hN:N<=1000)(hr:fJ (N+1) r):∃bv' h',mb h 1 24 56 bv (.sl [r] .exact)=some (bv',h')/\kH (N+1) (N+1) bv' h'/\h.length<=h'.length/\∀(j:Nat) b,h[j]?=some b->(∀cs,b≠.cells cs true)->h'[j]?=some b:=by
 have hc:=n5 hr.one;have ok:bV 1 [r]=true:=xH λx hx=>by rw[cr.1 hx];exact hr.one
 obtain⟨cs,h1,h2,⟨rfl,rfl⟩|⟨k,rfl,hk⟩⟩:=s;have aob:N=0:=by simpa using h1.symm
 subst aob;have hf:flat [r]=[r]:=by simp[flat,hc]
 refine⟨.rs h.length 1 1 0 1,h++[.cells [r] true],?_,⟨[r],rfl,by simpa using hr,ax ⟨h.length,rfl,aBI⟩⟩,aBI,λj b q _=>aM q⟩;have h3:¬([r]=([]:List U)):=aBI
 simp[mb,contents,ok,hf];have cK:=gl hk;have hf:flat [r]=[r]:=by simp[flat,hc]
 have aW:j_ cs (N*1) (flat [r])=cs++[r]:=by
  unfold j_;rw[hf,kG aBH,sY aBH,e4]
 refine⟨.rs k (N+1) 1 0 (N+1),h.set k (.cells (cs++[r]) true),?_,⟨cs++[r],aC_,λx hx=>?_,ax ⟨k,rfl,aR cK⟩⟩,aBI,λj b hj hb=>by
  rw[av aC9];exact hj⟩
 have h3:¬([r]=([]:List U)):=aBI
 show e9 h 1 24 56 (.rs k N 1 0 N) (.sl [r] .exact)=_;simp only[e9,contents,ga,ok,h3,if_false,and_self,x9,if_true,true_and,hk,dm,fQ,aW];rw[if_pos aBH];simp[h1]
 rcases dZ.1 hx with q|q
 exact(h2 x q).mono aBH;rw[cr.1 q];exact hr
def qX.place(s:qX an z N ak bv h)(hN:N<=255)(hr:∃l,nV r l/\l.length<=256/\∀y∈l,(0:Int)<=y/\y<256):
  ∃bD bv' g1 g2 g3 g4,cG h 1 24 56 ak (.sl [r] .exact)=some (bD,g1)/\aF g1 1 (.mp an 0) bD=some g2/\aq g2 false 1 (.mp an 1)=some bv/\mb g2 1 24 56 bv (.sl [.af] .exact)=some (bv',g3)/\aF g3 1 (.mp an 1) bv'=some g4/\qX an z (N+1) bD bv' g4/\h.length<=g4.length/\
   ∀(j:Nat) b,h[j]?=some b->j≠an->(∀cs,b≠.cells cs true)->(∀c,b≠.tok c 1 56)->g4[j]?=some b:=by
 obtain⟨xs,hA,hxl,Mt⟩:=s.on;have At:bn r=true:=by obtain⟨l,q,_⟩:=hr;exact q.one
 have fE:bV 1 xs=true:=xH λx hx=>by obtain⟨l,q,_⟩:=Mt x hx;exact q.one
 have o1:bV 1 [r]=true:=xH λx hx=>by rw[cr.1 hx];exact At
 obtain⟨bD,g1,e1,sy,hne,hle,eL⟩:=kL (x:=r) (aY:=24) hA fE o1 aBJ aBJ aBH;have gu:∀{j:Nat} {b:aa},h[j]?=some b->(∀c,b≠.tok c 1 56)->∀ys,ak≠.sl ys (.tok j):=λ{j b} q hb ys e=>by
  rcases hA with⟨q1,_⟩|⟨id,q1,ah⟩
  rw[q1] at e;cases e;rw[q1] at e;cases e;rw[ah] at q;cases q;exact hb _ rfl
 have b1:g1[an]?=some (.cells (ak::bv::z) false):=eL _ _ s.b (gu s.b aBI)
 have ho:bn bD=true:=by rcases sy with⟨q,_⟩|⟨_,q,_⟩<;>rw[q]<;>rfl
 have apd:=gl b1;have s1:aF g1 1 (.mp an 0) bD=some (g1.set an (.cells (bD::bv::z) false)):=by
  simp only[aF,b1,dJ,n5 ho];simp[ho,putAt]
 have b2:(g1.set an (.cells (bD::bv::z) false))[an]?=some (.cells (bD::bv::z) false):=aR apd;have ja:kH N N bv (g1.set an (.cells (bD::bv::z) false)):=s.bq.ext λj cs q=>by
  rw[av (by rintro rfl;rw[s.b] at q;simp at q)];exact eL _ _ q (gu q aBI)
 have l2:aq (g1.set an (.cells (bD::bv::z) false)) false 1 (.mp an 1)=some bv:=by simp only[aq,b2];rfl
 obtain⟨bv',g3,bQ,Gf,An,sC⟩:=ja.push (r:=.af) aBH (Bt _);have b3:g3[an]?=some (.cells (bD::bv::z) false):=sC _ _ b2 aBI;have ape:=gl b3;have c8:aF g3 1 (.mp an 1) bv'=some (g3.set an (.cells (bD::bv'::z) false)):=by
  simp only[aF,b3,dJ,n5 Gf.one];simp[Gf.one,putAt]
 refine⟨bD,bv',g1,_,g3,_,e1,s1,l2,bQ,c8,⟨aR ape,⟨xs++[r],?_,by simp[hxl],λx hx=>?_⟩,Gf.ext λj cs q=>?_⟩,?_,λj b hj h1 h2 h3=>?_⟩
 rcases sy with q|⟨id,q1,ah⟩
 exact ay q;refine ax ⟨id,q1,?_⟩;have hki:an≠id:=by rintro rfl;rw[b1] at ah;cases ah
 rw[av hki];exact sC _ _ (by rw[av hki];exact ah) aBI
 rcases dZ.1 hx with q|q
 exact Mt x q;rw[cr.1 q];exact hr;rw[av (by rintro rfl;rw[b3] at q;simp at q)];exact q;rw[rU];rw[rU] at An;omega;rw[av (dr h1)];refine sC _ _ ?_ h2;rw[av (dr h1)];exact eL _ _ hj (gu hj h3)
@[go_sem]def qX.atz(s:qX an z N ak bv h)(g:List aa):bO ak g=some (.v (.int .i64 (N:Int)),g):=by
 obtain⟨xs,hA,hxl,_⟩:=s.on;rw[BN hA g,hxl]
@[go_sem]def od{X:List aa}{k:Nat}(q:X[k]?=some (.cells p.cells false)):aq X false 1 (.mp k 0)=some (.v (.int .i64 p.kind))/\aq X false 1 (.mp k 1)=some (.v (.int .i64 p.low))/\aq X false 1 (.mp k 2)=some (.v (.int .i64 p.high))/\aq X false 1 (.mp k 3)=some (ai p.name)/\aq X false 1 (.mp k 4)=some p.kv:=by
 simp only[aq,q];exact⟨rfl,rfl,rfl,rfl,rfl⟩
@[go_sem]def aev{j:Nat}{x:Int}(hx:p.kids[j]?=some x):bu 1 p.kv (.v (.int .i64 (j:Int)))=some (.fp [.v (.int .i64 x)] 0):=by
 unfold bJ.kv;split;rename_i z;rw[z] at hx;simp at hx;exact ku (x:=ag x) (by rw[eC,hx];rfl) rfl
section
variable{G:Cells}{an N:Nat}{z:List U}{hp h0:List aa}{v lv:U}{ps:List bJ}{p:bJ}{Q:Post}
def ary{rows:List (List U)}(hlv:bL lv (rows.map bT))(hlc:dn lv)(hlr:∀x∈rows,tf x)(mX:rows.length<=1000000000)(s:eu an z hp p.cells N h0)(hk:p.kind=1)(hN:N+1<=256)(hQ:∀h',DR an z hp (N+1) h'->Q .ret [(8,.mp hp.length 0)] h'):
  @cF G az false Qa ⟨Q⟩ [(0,.mp an 0),(1,v),(3,lv),(8,.mp hp.length 0),(9,.mp (hp.length+1) 0),(10,.mp (hp.length+2) 0)] h0:=by
 conv in Qa=>whnf
 obtain⟨d0,d1,d2,d3,d4⟩:=od s.p;rw[hk] at d0;obtain⟨ak,bv,hX⟩:=s.dQ;have atu:aq h0 false 1 (.mp an 0)=some ak:=by simp only[aq,hX.b];rfl
 refine lC ?_;refine aE.cY (aup hlv hlr mX p.name) ?_;rintro r ⟨l,hl1,fu,mW⟩;have At:=(vH hl1).one;obtain⟨bD,bv',g1,g2,g3,g4,e1,e2,bQ,cC,iW,RA,hle,hkp⟩:=hX.place (r:=r) aBH ⟨l,(vH hl1),fu,mW⟩;have hlt:=s.lt;have iy:eu an z hp p.cells (N+1) g4:=by
  refine⟨⟨_,_,RA⟩,⟨fk s.k.len hle,λj cs q ah=>hkp _ _ (s.k.wN j cs q ah) q aBI aBI,λj c q=>hkp _ _ (s.k.tok j c q) ?_ aBI aBI⟩,hkp _ _ s.r aBH aBI aBI,hkp _ _ s.p aBH aBI aBI,?_,hlt⟩;rintro rfl;have:=s.k.tok _ c q;rw[hX.b] at this;cases this;obtain⟨cs,q1,ah⟩:=s.o;exact⟨cs,hkp _ _ q1 aBH aBI aBI,ah.mono aBH⟩
 obtain⟨_,ho,fv,ev,em,rfl,hf,he⟩:=iy.o;have gY:fJ (N+1) (.sl [ag (N:Int)] .exact):=⟨[(N:Int)],ax ⟨_,rfl⟩,nW.one aBH⟩;have RI:bn (.sl [ag (N:Int)] .exact)=true:=rfl;unfold ag at gY RI;obtain⟨t0,t1,t2,t3,t4⟩:=og ho RI;obtain⟨iL,nH⟩:=iy.put iy.o (bl _) (cs:=[.af,.af,.sl [.v (.int .i64 (N:Int))] .exact,ev,.v (.bool em)]) ⟨_,_,_,rfl,gY,he⟩;have Sh:(g4.set (hp.length+2) (.cells [.af,.af,.sl [.v (.int .i64 (N:Int))] .exact,ev,.v (.bool em)] false))[hp.length+2]?=some (.cells [.af,.af,.sl [.v (.int .i64 (N:Int))] .exact,ev,.v (.bool em)] false):=aR (gl ho);generalize Cm:g4.set (hp.length+2) (.cells [.af,.af,.sl [.v (.int .i64 (N:Int))] .exact,ev,.v (.bool em)] false)=g5 at iL nH Sh t2;obtain⟨oV,u1,u2,u3,u4⟩:=og Sh RI;have af0:iR (N+1) [.af,.af,.sl [.v (.int .i64 (N:Int))] .exact,.sl [.v (.int .i64 (N:Int))] .exact,.v (.bool em)]:=⟨_,_,_,rfl,gY,gY⟩;obtain⟨ke,rF⟩:=iL.put nH (bl _) af0;have abh:(g5.set (hp.length+2) (.cells [.af,.af,.sl [.v (.int .i64 (N:Int))] .exact,.sl [.v (.int .i64 (N:Int))] .exact,.v (.bool em)] false))[hp.length+2]?=some (.cells [.af,.af,.sl [.v (.int .i64 (N:Int))] .exact,.sl [.v (.int .i64 (N:Int))] .exact,.v (.bool em)] false):=aR (gl Sh);generalize aoU:g5.set (hp.length+2) (.cells [.af,.af,.sl [.v (.int .i64 (N:Int))] .exact,.sl [.v (.int .i64 (N:Int))] .exact,.v (.bool em)] false)=g6 at ke rF abh u3;have CM:=(gT abh).2.2.2.2.2;obtain⟨f1,f2⟩:=ke.fin af0;exact lB (dV @atu (D3 At) @e1 @e2) (dV @bQ (D3 (w:=.af) rfl) @cC @iW) @t2 @u3 @CM @f1 @qE (hQ _ f2)
def ast(s:eu an z hp p.cells N h0)(hk:p.kind=3)(hno:p.tail=.no)(cK:p.kids.length<=1000000000)(ih:∀x∈p.kids,Gs G an z v lv ps x)(hN:N+(p.kids.map λk=>cnt ps k).sum<=256)(hQ:∀h',DR an z hp (N+(p.kids.map λk=>cnt ps k).sum) h'->Q .ret [(8,.mp hp.length 0)] h'):
  @cF G az false Qc ⟨Q⟩ [(0,.mp an 0),(1,v),(3,lv),(8,.mp hp.length 0),(9,.mp (hp.length+1) 0),(10,.mp (hp.length+2) 0)] h0:=by
 conv in Qc=>whnf
 obtain⟨d0,d1,d2,d3,d4⟩:=od s.p;rw[hk] at d0;refine wy ?_;refine cj (λj e h=>e=[(0,.mp an 0),(1,v),(3,lv),(8,.mp hp.length 0),(9,.mp (hp.length+1) 0),(10,.mp (hp.length+2) 0),(12,ag j)]/\eu an z hp p.cells (N+((p.kids.take j).map λk=>cnt ps k).sum) h) p.kids.length ⟨rfl,by simpa using s⟩ ?_ ?_;rintro j e h hj ⟨rfl,s⟩;obtain⟨x,hx⟩:=cD hj;have uz:=vL (f:=λk=>cnt ps k) hx;have sl:=y_ (λk=>cnt ps k) p.kids (j+1);obtain⟨d0,d1,d2,d3,d4⟩:=od s.p;refine lC (aZ (ih x (bG hx) _ h s.dQ aBH) ?_);rintro _ h1 ⟨cs,rfl,hc,hn,hL⟩;have s1:=s.lay hL hn aBH;have gS:=yZ hc h1;unfold z5 at gS;have s2:eu an z hp p.cells _ (h1++[.cells cs false]):=s1.app;have fE:(h1++[aj cs false])[h1.length]?=some (.cells cs false):=aBI
 have hb:=s1.zT;obtain⟨xf,fc,jT,rfl,ob,kQ⟩:=hc;refine wy ?_;generalize h1.length=m at fE hb⊢;generalize h1++[aj [.af,.af,xf,fc,.v (.bool jT)] false]=g at s2 fE⊢;obtain⟨_,ho,fv,ev,em,rfl,hf,he⟩:=s2.o;obtain⟨q0,q1,ah,aN,dI,_⟩:=gT ho;obtain⟨x0,x1,x2,x3,mH,_⟩:=gT fE;refine wy (Fk hf ob aBH λr hr=>?_);obtain⟨t0,t1,t2,t3,t4⟩:=og ho hr.one;obtain⟨c8,iw⟩:=s2.put s2.o (bl _) (cs:=[.af,.af,r,ev,.v (.bool em)]) ⟨_,_,_,rfl,hr,he⟩;have EK:(g.set (hp.length+2) (.cells [.af,.af,r,ev,.v (.bool em)] false))[hp.length+2]?=some (.cells [.af,.af,r,ev,.v (.bool em)] false):=aR (gl ho);have T5:(g.set (hp.length+2) (.cells [.af,.af,r,ev,.v (.bool em)] false))[m]?=some (.cells [.af,.af,xf,fc,.v (.bool jT)] false):=by rw[av aBH];exact fE
 refine wy ?_;generalize g.set (hp.length+2) (.cells [.af,.af,r,ev,.v (.bool em)] false)=g' at c8 iw EK T5⊢;obtain⟨q0,q1,ah,aN,dI,_⟩:=gT EK;obtain⟨x0,x1,x2,x3,mH,_⟩:=gT T5;refine wy (Fk he kQ aBH λr2 hr2=>?_);obtain⟨t0,t1,t2,t3,t4⟩:=og EK hr2.one;obtain⟨iy,kD⟩:=c8.put iw (bl _) (cs:=[.af,.af,r,r2,.v (.bool em)]) ⟨_,_,_,rfl,hr,hr2⟩;have Sg:(g'.set (hp.length+2) (.cells [.af,.af,r,r2,.v (.bool em)] false))[hp.length+2]?=some (.cells [.af,.af,r,r2,.v (.bool em)] false):=aR (gl EK);have yY:(g'.set (hp.length+2) (.cells [.af,.af,r,r2,.v (.bool em)] false))[m]?=some (.cells [.af,.af,xf,fc,.v (.bool jT)] false):=by rw[av aBH];exact T5
 refine wy ?_;generalize g'.set (hp.length+2) (.cells [.af,.af,r,r2,.v (.bool em)] false)=g2 at iy kD Sg yY⊢;obtain⟨q0,q1,ah,aN,dI,_⟩:=gT Sg;obtain⟨x0,x1,x2,x3,mH,_⟩:=gT yY;have fin:∀b:Bool,aF g2 1 (.mp (hp.length+2) 4) (.v (.bool b))=some (g2.set (hp.length+2) (.cells [.af,.af,r,r2,.v (.bool b)] false)):=λb=>(og Sg (w:=.v (.bool b)) rfl).2.2.2.2;have Hp:∀b:Bool,eu an z hp p.cells (N+((p.kids.take (j+1)).map λk=>cnt ps k).sum) (g2.set (hp.length+2) (.cells [.af,.af,r,r2,.v (.bool b)] false)):=λb=>by
  rw[uz,<-lF];exact(iy.put kD (bl _) (cs:=[.af,.af,r,r2,.v (.bool b)]) ⟨_,_,_,rfl,hr,hr2⟩).1
 cases em with
 |false=>
  refine gV @dI @mH @fin ?_;exact⟨rfl,Hp _⟩
 |true=>
  refine gV @dI @mH @fin ?_;exact⟨rfl,Hp _⟩
 rintro e h ⟨rfl,s⟩;rw[rV] at s;obtain⟨d0,d1,d2,d3,d4⟩:=od s.p;obtain⟨cs,ho,hc⟩:=s.o;obtain⟨f1,f2⟩:=s.fin hc;exact nQ @ag.eq_1 @d4 (vn hno aBH) (vw ho hc.one.1) @f1 (hQ _ f2)
def ar1(s:eu an z hp p.cells N h0)(hk:p.kind=2)(hno:p.tail=.no)(cK:p.kids.length<=1000000000)(ih:∀x∈p.kids,Gs G an z v lv ps x)(hN:N+(p.kids.map λk=>cnt ps k).sum<=256)(hQ:∀h',DR an z hp (N+(p.kids.map λk=>cnt ps k).sum) h'->Q .ret [(8,.mp hp.length 0)] h'):
  @cF G az false Qd ⟨Q⟩ [(0,.mp an 0),(1,v),(3,lv),(8,.mp hp.length 0),(9,.mp (hp.length+1) 0),(10,.mp (hp.length+2) 0)] h0:=by
 conv in Qd=>whnf
 obtain⟨_,ho,fv,ev,em,rfl,hf,he⟩:=s.o;obtain⟨t0,t1,t2,t3,t4⟩:=og ho (w:=.v (.bool true)) rfl;obtain⟨s1,o1⟩:=s.put s.o (bl _) (cs:=[.af,.af,fv,ev,.v (.bool true)]) ⟨_,_,_,rfl,hf,he⟩;obtain⟨d0,d1,d2,d3,d4⟩:=od s1.p;rw[hk] at d0;refine wy ?_;refine cj (λj e h=>e=[(0,.mp an 0),(1,v),(3,lv),(8,.mp hp.length 0),(9,.mp (hp.length+1) 0),(10,.mp (hp.length+2) 0),(14,ag j)]/\eu an z hp p.cells (N+((p.kids.take j).map λk=>cnt ps k).sum) h) p.kids.length ⟨rfl,by simpa using s1⟩ ?_ ?_;rintro j e h hj ⟨rfl,s⟩;obtain⟨x,hx⟩:=cD hj;have uz:=vL (f:=λk=>cnt ps k) hx;have sl:=y_ (λk=>cnt ps k) p.kids (j+1);obtain⟨d0,d1,d2,d3,d4⟩:=od s.p;refine lC (aZ (ih x (bG hx) _ h s.dQ aBH) ?_);rintro _ h1 ⟨cs,rfl,hc,hn,hL⟩;have s1:=s.lay hL hn aBH;have gS:=yZ hc h1;unfold z5 at gS;have s2:eu an z hp p.cells _ (h1++[.cells cs false]):=s1.app;have fE:(h1++[aj cs false])[h1.length]?=some (.cells cs false):=aBI
 refine fC (vw fE hc.one.1) (s2.call s2.o (bl _) hc aBH λh' c8 _ _=>?_);refine fY ?_;refine⟨rfl,?_⟩;rw[uz,<-lF];exact c8;rintro e h ⟨rfl,s⟩;rw[rV] at s;obtain⟨d0,d1,d2,d3,d4⟩:=od s.p;obtain⟨cs,ho,hc⟩:=s.o;obtain⟨f1,f2⟩:=s.fin hc;exact nQ @ag.eq_1 @d4 (vn hno aBH) (vw ho hc.one.1) @f1 (hQ _ f2)
end
end
section
variable{p:bJ}
section
variable{an:Nat}{z:List U}{hp h h':List aa}{pc:List U}{w:Nat}
def eu.au9(s:eu an z hp pc w h)(t:Gv h h')(hn:o7 an z w h'):eu an z hp pc w h':=by
 refine⟨hn,⟨by rw[t.len];exact s.k.len,λj cs q ah=>t.keep _ _ (s.k.wN j cs q ah) aBI,λj c q=>t.keep _ _ (s.k.tok j c q) aBI⟩,t.keep _ _ s.r aBI,t.keep _ _ s.p aBI,?_,s.lt⟩;obtain⟨cs,q1,ah⟩:=s.o;exact⟨cs,t.keep _ _ q1 aBI,ah⟩
def eu.akQ(s:eu an z hp pc w h){p:Nat}(EP:p<w):∃bv k c,aq h false 1 (.mp an 1)=some bv/\bu 1 bv (.v (.int .i64 (p:Int)))=some (.rp k w p)/\aq h false 1 (.rp k w p)=some c/\fJ w c/\∀r,fJ w r->∃h',aF h 1 (.rp k w p) r=some h'/\eu an z hp pc w h'/\Gv h h':=by
 obtain⟨ak,bv,hX⟩:=s.dQ;obtain⟨k,c,a1,a2,a3,a4⟩:=hX.bq.at EP;refine⟨bv,k,c,by simp only[aq,hX.b];rfl,a1,a2,a3,λr hr=>?_⟩;obtain⟨h',b1,b2,b3⟩:=a4 r hr;refine⟨h',b1,s.au9 b3 ⟨ak,bv,b3.keep _ _ hX.b aBI,?_,b2⟩,b3⟩;obtain⟨xs,h1,h2,h3⟩:=hX.on;refine⟨xs,h1.elim ay ?_,h2,h3⟩;rintro⟨id,q1,ah⟩;exact ax ⟨id,q1,b3.keep _ _ ah aBI⟩
end
@[go_sem]def aj5{N:Nat}{cs:List U}(h:iR N cs):dA 5 [.agg cs]=some (.sl [.agg cs] .exact):=by
 unfold dA;rw[if_pos ⟨Jb (rs:=[cs]) (w:=N) aCn,aBI⟩]
def at7(q:p.high<0):(if(1:Int)>p.low then 1 else p.low)=(p.many:Int):=by
 unfold Bs;rw[if_pos q];split<;>omega
def aub(q:¬p.high<0):p.high=(p.many:Int):=by
 unfold Bs;rw[if_neg q];omega
section
variable{G:Cells}{an N:Nat}{z:List U}{hp h0:List aa}{v lv:U}{ps:List bJ}{p:bJ}{Q:Post}
def asv{x:Int}{c:Nat}(s:eu an z hp p.cells N h0)(hb:DP p.low p.high)(vh:p.kids=[x])(hc:cnt ps x=c)(ih:Gs G an z v lv ps x)(hN:N+p.many*c<=256)(hQ:∀h',DR an z hp (N+p.many*c) h'->Q .ret [(8,.mp hp.length 0)] h'):
  @cF G az false X8 ⟨Q⟩ [(0,.mp an 0),(1,v),(3,lv),(8,.mp hp.length 0),(9,.mp (hp.length+1) 0),(10,.mp (hp.length+2) 0)] h0:=by
 conv in X8=>whnf
 obtain⟨fU,gD,Cd⟩:=hb;obtain⟨lw,Mk⟩:=mJ fU;have mY:1<=p.many/\p.many<=20:=by
  unfold Bs;constructor<;>(split<;>(try split))<;>omega
 have Mf:p.kids[0]?=some x:=by rw[vh];rfl
 have asY:=aev Mf;have aA_:bu 1 p.kv (.v (.int .i64 0))=some (.fp [.v (.int .i64 x)] 0):=asY;refine cM (λe h=>e=[(0,.mp an 0),(1,v),(3,lv),(8,.mp hp.length 0),(9,.mp (hp.length+1) 0),(10,.mp (hp.length+2) 0),(16,.v (.int .i64 p.high))]/\h=h0) ?_ ?_;obtain⟨d0,d1,d2,d3,d4⟩:=od s.p;exact wx tt;rintro e h ⟨rfl,rfl⟩;refine cM (λe h'=>e=[(0,.mp an 0),(1,v),(3,lv),(8,.mp hp.length 0),(9,.mp (hp.length+1) 0),(10,.mp (hp.length+2) 0),(16,ag p.many)]/\h'=h) ?_ ?_;obtain⟨d0,d1,d2,d3,d4⟩:=od s.p;have m0:nZ true [.v (.int .i64 p.low),.v (.int .i64 1)]=some (.v (.int .i64 (if(1:Int)>p.low then 1 else p.low))):=rfl;refine wy (bA (λq=>?_) λq=>?_);have q':p.high<0:=aBN
 rw[at7 q'] at m0;exact fG @d1 @m0 rt;have q':¬p.high<0:=aBN
 rw[aub q'];exact wx rt;rintro e h1 ⟨rfl,rfl⟩;refine cM (λe h'=>e=[(0,.mp an 0),(1,v),(3,lv),(8,.mp hp.length 0),(9,.mp (hp.length+1) 0),(10,.mp (hp.length+2) 0),(16,ag p.many),(17,.af)]/\h'=h1) ?_ ?_;exact wx tt;rintro e h2 ⟨rfl,rfl⟩;refine cM (λe h=>∃rv rs,e=[(0,.mp an 0),(8,.mp hp.length 0),(9,.mp (hp.length+1) 0),(10,.mp (hp.length+2) 0),(16,ag p.many),(17,rv)]/\eu an z hp p.cells (N+p.many*c) h/\kZ hp.length (N+p.many*c) h rv rs/\rs.length=p.many) ?_ ?_;refine wy ?_;refine cj (λj e h=>∃rv rs,e=[(0,.mp an 0),(1,v),(3,lv),(8,.mp hp.length 0),(9,.mp (hp.length+1) 0),(10,.mp (hp.length+2) 0),(16,ag p.many),(17,rv),(18,ag j)]/\eu an z hp p.cells (N+j*c) h/\kZ hp.length (N+j*c) h rv rs/\rs.length=j) p.many ⟨.af,[],rfl,by rw[Nat.zero_mul];exact s,⟨ay ⟨rfl,rfl⟩,aBI⟩,rfl⟩ ?_ ?_;rintro j e h hj ⟨rv,rs,rfl,s,hA,hrl⟩;have aaZ:N+j*c+c<=256:=by
  have:(j+1)*c<=p.many*c:=mK _ hj;rw[qR] at this;omega
 have QU:N+(j+1)*c=N+j*c+c:=by rw[qR];omega
 rw[QU];have FX:b7.wrap ((j:Int)+1)=((j+1:Nat):Int):=jA aBH;refine fh (λe h'=>e=[(0,.mp an 0),(1,v),(3,lv),(8,.mp hp.length 0),(9,.mp (hp.length+1) 0),(10,.mp (hp.length+2) 0),(16,ag p.many),(17,rv),(18,ag j)]/\h'=h) ?_ ?_;exact cV @ag.eq_1 tt;rintro e h' ⟨rfl,rfl⟩;refine cM (λe h=>∃rv rs,e=[(0,.mp an 0),(1,v),(3,lv),(8,.mp hp.length 0),(9,.mp (hp.length+1) 0),(10,.mp (hp.length+2) 0),(16,ag p.many),(17,rv),(18,ag j)]/\eu an z hp p.cells (N+j*c+c) h/\kZ hp.length (N+j*c+c) h rv rs/\rs.length=j+1) ?_ ?_;rw[xP];refine cM (λe h=>∃m cs,e=[(0,.mp an 0),(1,v),(3,lv),(8,.mp hp.length 0),(9,.mp (hp.length+1) 0),(10,.mp (hp.length+2) 0),(16,ag p.many),(17,rv),(18,ag j),(19,.mp m 0)]/\eu an z hp p.cells (N+j*c+c) h/\kZ hp.length (N+j*c+c) h rv rs/\hp.length+3<=m/\h[m]?=some (.cells cs false)/\iR (N+j*c+c) cs) ?_ ?_;obtain⟨d0,d1,d2,d3,d4⟩:=od s.p;refine wy (aZ (ih _ h' s.dQ aBH) ?_);rw[hc];rintro _ h1 ⟨cs,rfl,hcs,hn,hL⟩;have s1:=s.lay hL hn aBH;have Ro:kZ hp.length (N+j*c+c) h1 rv rs:=hA.keep aBH hL.tok;have gS:=yZ hcs h1;unfold z5 at gS;refine wy ?_;exact⟨_,cs,rfl,s1.app,Ro.keep (bl _) λj c q=>aM q,s1.zT,aBI,hcs⟩;rintro e h3 ⟨m,cs,rfl,c8,oJ,Cp,fE,hcs⟩;obtain⟨xf,fc,jT,rfl,ob,kQ⟩:=hcs;refine cM (λe h=>e=[(0,.mp an 0),(1,v),(3,lv),(8,.mp hp.length 0),(9,.mp (hp.length+1) 0),(10,.mp (hp.length+2) 0),(16,ag p.many),(17,rv),(18,ag j),(19,.mp m 0)]/\eu an z hp p.cells (N+j*c+c) h/\kZ hp.length (N+j*c+c) h rv rs/\h[m]?=some (.cells [.af,.af,xf,fc,.v (.bool jT)] false)) ?_ ?_;obtain⟨d0,d1,d2,d3,d4⟩:=od c8.p;by_cases q:p.high<0;have w1:b7.wrap ((p.many:Int)-1)=((p.many-1:Nat):Int):=by rw[wrap_i64 aBH aBH];omega
 by_cases ah:j=p.many-1;have aN:((j:Int)==((p.many-1:Nat):Int))=true:=P2 ah;obtain⟨el,Ai,xe⟩:=kQ;have hel:=xe.len;refine xQ @ag.eq_1 @d2 @q @decide_true @w1 @aN ?_;refine cj (λi e h=>e=[(0,.mp an 0),(1,v),(3,lv),(8,.mp hp.length 0),(9,.mp (hp.length+1) 0),(10,.mp (hp.length+2) 0),(16,ag p.many),(17,rv),(18,ag j),(19,.mp m 0),(20,ag i)]/\eu an z hp p.cells (N+j*c+c) h/\kZ hp.length (N+j*c+c) h rv rs/\h[m]?=some (.cells [.af,.af,xf,fc,.v (.bool jT)] false)) el.length ⟨rfl,c8,oJ,fE⟩ ?_ ?_;rintro i e h hi ⟨rfl,iy,B_,yY⟩;obtain⟨y,hy⟩:=cD hi;obtain⟨y0,y1⟩:=xe.2 y (bG hy);obtain⟨pl,rfl⟩:=mJ y0;obtain⟨bv,k,Qg,b0,a1,a2,a3,a4⟩:=iy.akQ (p:=pl) aBH;obtain⟨x0,x1,x2,x3,mH,_⟩:=gT yY;refine vS @ag.eq_1 @b0 @x3 (Ai.bK hy) @a1 @a2 @x2 @true_and @and_true (Fk a3 ob aBH λr hr=>?_);obtain⟨h5,t1,t2,t3⟩:=a4 r hr;refine lB (dV @ag.eq_1 @b0 @x3 @Ai.len) (Ai.bK hy) @a1 @a2 @x2 @t1 @qE ?_;exact⟨t2,B_.keep (bl _) λj c q=>t3.keep _ _ q aBI,t3.keep _ _ yY aBI⟩;rintro e h ⟨rfl,iy,B_,yY⟩;obtain⟨x0,x1,x2,x3,mH,_⟩:=gT yY;refine fG @ag.eq_1 @x3 ?_;exact⟨trivial,iy,B_,yY⟩;have aN:((j:Int)==((p.many-1:Nat):Int))=false:=KU ah;refine xQ @ag.eq_1 @d2 @q @decide_true @w1 @aN ?_;exact⟨trivial,c8,oJ,fE⟩;refine mG @ag.eq_1 @d2 @q @decide_false ?_;exact⟨trivial,c8,oJ,fE⟩;rintro e h4 ⟨rfl,iy,B_,yY⟩;have hcs:iR (N+j*c+c) [.af,.af,xf,fc,.v (.bool jT)]:=⟨_,_,_,rfl,ob,kQ⟩;obtain⟨y8,h5,iW,ajt,AG,sG,CH⟩:=B_.push iy.k.len aBH hcs;refine wx ?_;exact⟨y8,_,rfl,iy.rest AG sG CH,ajt,by simp[hrl]⟩;rintro e h ⟨rv,rs,rfl,s,hA,hrl⟩;refine fG @ag.eq_1 @FX ?_;exact⟨rv,rs,rfl,s,hA,hrl⟩;rintro e h ⟨rv,rs,rfl,s,hA,hrl⟩;refine cV @ag.eq_1 ?_;exact⟨rv,rs,rfl,s,hA,hrl⟩;rintro e h3 ⟨rv,rs,rfl,c8,oJ,hrl⟩;generalize hW:N+p.many*c=W at*;refine cM (λe h=>e=[(0,.mp an 0),(8,.mp hp.length 0),(9,.mp (hp.length+1) 0),(10,.mp (hp.length+2) 0),(16,ag p.many),(17,rv)]/\eu an z hp p.cells W h/\kZ hp.length W h rv rs) ?_ ?_;refine wy ?_;refine cj (λi e h=>e=[(0,.mp an 0),(8,.mp hp.length 0),(9,.mp (hp.length+1) 0),(10,.mp (hp.length+2) 0),(16,ag p.many),(17,rv),(21,ag i)]/\eu an z hp p.cells W h/\kZ hp.length W h rv rs) (min p.many lw) ⟨rfl,c8,oJ⟩ ?_ ?_;rintro i e h hi ⟨rfl,s,hA⟩;obtain⟨d0,d1,d2,d3,d4⟩:=od s.p;rw[Mk] at d1;obtain⟨cs,hcs⟩:∃cs,rs[i]?=some cs:=⟨rs[i],br aBH⟩;obtain⟨a1,a2,a3⟩:=hA.bK hcs;have FX:b7.wrap ((i:Int)+1)=((i+1:Nat):Int):=jA aBH;refine wy (s.call s.o (bl _) a3 hN λh' s' t nI=>?_);refine cV @FX ?_;obtain⟨c0,o1,_⟩:=s.o;exact⟨rfl,s',hA.mD t o1⟩;rintro e h ⟨rfl,s,hA⟩;obtain⟨d0,d1,d2,d3,d4⟩:=od s.p;rw[Mk] at d1
 rcases cE lw p.many with q|q
 rw[Nat.min_eq_right aBH];refine fG @ag.eq_1 @d1 ?_;exact⟨trivial,s,hA⟩;rw[Gd q];refine cV @ag.eq_1 ?_;exact⟨trivial,s,hA⟩;rintro e h4 ⟨rfl,iy,B_⟩;refine cM (λe h=>∃m,e=[(0,.mp an 0),(8,.mp hp.length 0),(9,.mp (hp.length+1) 0),(10,.mp (hp.length+2) 0),(16,ag p.many),(17,rv),(22,.mp m 0)]/\eu an z hp p.cells W h/\kZ hp.length W h rv rs/\iQ W h m/\hp.length+3<=m) ?_ ?_;have yy:iR W [.af,.af,.af,.af,.v (.bool true)]:=⟨_,_,_,rfl,Bt W,Bt W⟩;have gS:=yZ yy h4;unfold z5 at gS;refine wy ?_;exact⟨_,rfl,iy.app,B_.keep (bl _) λj c q=>aM q,iQ.new yy,iy.zT⟩;rintro e h5 ⟨mt,rfl,iL,anW,nH,Ao⟩;refine cM (λe h=>e=[(0,.mp an 0),(8,.mp hp.length 0),(10,.mp (hp.length+2) 0),(22,.mp mt 0)]/\eu an z hp p.cells W h/\iQ W h mt) ?_ ?_;refine wy ?_;refine cj (λi e h=>∃k:Int,k=(p.many:Int)-1-(i:Int)/\e=[(0,.mp an 0),(8,.mp hp.length 0),(9,.mp (hp.length+1) 0),(10,.mp (hp.length+2) 0),(17,rv),(22,.mp mt 0),(23,.v (.int .i64 k))]/\eu an z hp p.cells W h/\kZ hp.length W h rv rs/\iQ W h mt) (p.many-lw) ⟨_,aBH,rfl,iL,anW,nH⟩ ?_ ?_;rintro i e h hi ⟨k,hk,rfl,s,hA,TZ⟩;obtain⟨q,rfl⟩:∃q:Nat,k=(q:Int):=⟨p.many-1-i,aBH⟩;obtain⟨d0,d1,d2,d3,d4⟩:=od s.p;rw[Mk] at d1;obtain⟨cs,hcs⟩:∃cs,rs[q]?=some cs:=⟨rs[q]' aBH,br _⟩;obtain⟨a1,a2,a3⟩:=hA.bK hcs;have w2:b7.wrap ((q:Int)-1)=(q:Int)-1:=wrap_i64 aBH aBH;have gS:=yZ a3 h;unfold z5 at gS;obtain⟨yy,t1,t2⟩:=TZ;have ahZ:(h++[aj cs false])[mt]?=some (.cells yy false):=aM t1;have hge:decide ((q:Int)>=(lw:Int))=true:=aBK
 have RX:decide ((lw:Int)<=(q:Int))=true:=aBK
 refine Bf @ag.eq_1 @d1 @hge @RX @a1 @a2 @gS (vw ahZ t2.one.1) ?_;have s1:eu an z hp p.cells W (h++[aj cs false]):=s.app;have HO:=s.zT;have apx:=gl t1;refine s1.call (iQ.new a3) aBH t2 hN λh' s' t nI=>?_;have avh:iQ W h' mt:=iQ.mD ⟨yy,ahZ,t2⟩ t aBH;have sy:kZ hp.length W h' rv rs:=(hA.keep (bl _) (h':=h++[aj cs false]) λj c q=>aM q).mD t (c0:=cs) aBI;generalize h.length=mx at nI t apx HO⊢;obtain⟨_,x1,xf,fc,jT,rfl,ob,kQ⟩:=nI;obtain⟨oV,u1,u2,u3,u4⟩:=og x1 (w:=.v (.bool true)) rfl;have Qq:iR W [.af,.af,xf,fc,.v (.bool true)]:=⟨_,_,_,rfl,ob,kQ⟩;obtain⟨ke,rF⟩:=s'.put (m:=mx) ⟨_,x1,_,_,_,rfl,ob,kQ⟩ aBH Qq;have tt:gC mx h' (h'.set mx (.cells [.af,.af,xf,fc,.v (.bool true)] false)):=gC.set;have avi:=avh.mD tt aBH;have anX:=sy.mD tt x1;have oX:(h'.set mx (.cells [.af,.af,xf,fc,.v (.bool true)] false))[mx]?=some (.cells [.af,.af,xf,fc,.v (.bool true)] false):=aR (gl x1);refine cV @u4 ?_;obtain⟨alX,y1,eg⟩:=avi;obtain⟨FG,rG⟩:=ke.put (m:=mt) ⟨alX,y1,eg⟩ aBH Qq;have anY:=anX.mD (cX:=mt) (gC.set (b:=.cells [.af,.af,xf,fc,.v (.bool true)] false)) y1;refine fG (vw oX rfl) (Je Qq y1 eg.one.1) ?_;exact⟨_,aBH,rfl,FG,anY,rG⟩;rintro e h ⟨k,hk,rfl,s,hA,TZ⟩;obtain⟨d0,d1,d2,d3,d4⟩:=od s.p;rw[Mk] at d1;have hge:decide (k>=(lw:Int))=false:=aBK
 have RX:decide ((lw:Int)<=k)=false:=aBK
 refine mG @ag.eq_1 @d1 @hge @RX ?_;exact⟨trivial,s,TZ⟩;rintro e h6 ⟨rfl,ke,yy,t1,t2⟩;refine fC (vw t1 t2.one.1) (ke.call ke.o (bl _) t2 hN λh' s' t nI=>?_);obtain⟨co,o1,o2⟩:=nI;obtain⟨f1,f2⟩:=s'.fin o2;exact fG (vw o1 o2.one.1) @f1 (hQ _ f2)
end
end
section
variable{N n0:Nat}{v:U}{rows:List (List U)}
def uR(N:Nat)(v:U):Prop:=∃l:List Int,bL v (l.map ag)/\nW N l
def BD(v:U):Prop:=∃l:List Int,bL v (l.map ag)/\l.length<=256/\∀y∈l,(0:Int)<=y/\y<256
def uR.one(h:uR N v):bn v=true:=aD4
def BD.one(h:BD v):bn v=true:=aD4
def uR.clean(h:uR N v):dn v:=by obtain⟨l,q,_⟩:=h;exact BU q
def BD.clean(h:BD v):dn v:=by obtain⟨l,q,_⟩:=h;exact BU q
def fJ.fz(h:fJ N v)(hp:List aa):∃v',aX hp v v'/\uR N v':=by
 obtain⟨l,h1,h2⟩:=h;obtain⟨v',q1,ah⟩:=h1.fz hp;exact⟨v',q1,l,ah,h2⟩
def agA(hp:List aa):∀{cs:List U},(∀c∈cs,fJ N c)->∃ys,dD hp cs ys/\ys.length=cs.length/\∀y∈ys,uR N y
 |[],_=>⟨[],bW,rfl,aBI⟩
 |c::r,h=>by
  obtain⟨v',q1,ah⟩:=(h c aBI).fz hp;obtain⟨ys,k1,k2,eF⟩:=agA hp (cs:=r) λx hx=>h x aBU;refine⟨v'::ys,aA q1 k1,by simp[k2],λy hy=>?_⟩
  rcases ek.1 hy with rfl|hy
  exact ah;exact eF y hy
def abJ(hp:List aa):∀{cs:List U},(∀x∈cs,∃l,nV x l/\l.length<=256/\∀y∈l,(0:Int)<=y/\y<256)->∃ys,dD hp cs ys/\ys.length=cs.length/\∀y∈ys,BD y
 |[],_=>⟨[],bW,rfl,aBI⟩
 |c::r,h=>by
  obtain⟨l,h1,h2,h3⟩:=h c aBI;obtain⟨v',q1,ah⟩:=h1.fz hp;obtain⟨ys,k1,k2,eF⟩:=abJ hp (cs:=r) λx hx=>h x aBU;refine⟨v'::ys,aA q1 k1,by simp[k2],λy hy=>?_⟩
  rcases ek.1 hy with rfl|hy
  exact⟨l,ah,h2,h3⟩;exact eF y hy
def Gp(r:U):Prop:=∃(N:Nat) (ak bv f e:U) (b:Bool) (xs ys:List U),r=.agg [ak,bv,f,e,.v (.bool b)]/\N<=256/\bL ak xs/\xs.length=N/\(∀x∈xs,BD x)/\bL bv (ys.map λy=>.agg [y])/\ys.length=N/\(∀y∈ys,uR N y)/\uR N f/\uR N e
def axv(cs:List U):(cs.map λc=>[c]).flatten=cs:=by
 induction cs with
 |nil=>rfl
 |cons a r ih=>rw[eD,v7,ih];rfl
def Eh{xs:List U}(h:bL v xs)(hx:∀x∈xs,∀c∈x.cells,dn c):dn v:=by
 rcases h with rfl|⟨rfl,_⟩
 exact jZ hx;exact mg
def Gp.clean{r:U}(h:Gp r):dn r:=by
 obtain⟨N,ak,bv,f,e,b,xs,ys,rfl,hN,h1,h2,h3,h4,h5,h6,h7,h8⟩:=h;refine Eg λc hc=>?_;simp only[ek,oz,or_false] at hc
 rcases hc with rfl|rfl|rfl|rfl|rfl
 refine Eh h1 λx hx c hc=>?_;rw[n5 (h3 x hx).one] at hc;rw[cr.1 hc];exact(h3 x hx).clean;refine Eh h4 λx hx c hc=>?_;obtain⟨y,hy,rfl⟩:=cO.1 hx;rw[cr.1 (show c∈[y] from hc)];exact(h6 y hy).clean;exact h7.clean;exact h8.clean;exact bM _
def afj{h:List aa}{an:Nat}{z:List U}{ak bv f e:U}{b:Bool}(hX:qX an z N ak bv h)(hN:N<=256)(hf:fJ N f)(he:fJ N e){g:List aa}(hg:∀(j:Nat) cs,h[j]?=some (.cells cs true)->g[j]?=some (.cells cs true)):∃n aQ,b9 g n (.agg [ak,bv,f,e,.v (.bool b)])=some aQ/\Gp aQ:=by
 obtain⟨xs,hA,hxl,Mt⟩:=hX.on;obtain⟨xs',x1,x2,x3⟩:=abJ g Mt;obtain⟨bD,o1,o2⟩:∃bD,aX g ak bD/\bL bD xs':=by
  rcases hA with⟨rfl,q⟩|⟨id,rfl,_⟩
  rw[q] at x2;exact⟨.af,cS,ax ⟨rfl,lE (by simpa using x2)⟩⟩;exact⟨_,fj x1,ay rfl⟩
 obtain⟨cs,c1,c2,c3⟩:=hX.bq;obtain⟨ys,y1,eg,jU⟩:=agA g c2;obtain⟨bv',b1,b2⟩:∃bv',aX g bv bv'/\bL bv' (ys.map λy=>.agg [y]):=by
  rcases c3 with⟨rfl,q⟩|⟨k,rfl,hk⟩
  rw[q] at eg;have:ys=[]:=lE (by simpa using eg);subst this;exact⟨.af,cS,ax ⟨rfl,rfl⟩⟩;have h2:=aX.rs (sz:=1) (o:=0) (len:=N) (hg k cs hk) (m:=N) c1.symm y1;have hE:jD 1 (ys.map λc=>[c]):=λx hx=>by
   obtain⟨y,hy,rfl⟩:=cO.1 hx;exact⟨rfl,by simp[(jU y hy).one]⟩
  have e1:=Ht [] hE;rw[eR,show([]:List U).length=0 from rfl,axv,b_,eg,c1] at e1;rw[e1] at h2;refine⟨_,h2,ay ?_⟩;rw[we];rfl
 obtain⟨f',f1,f2⟩:=hf.fz g;obtain⟨e',e1,e2⟩:=he.fz g;obtain⟨n,hn⟩:=(iO (aA o1 (aA b1 (aA f1 (aA e1 (aA (aB (.bool b)) bW))))):aX g _ _).done;exact⟨n,_,hn,N,bD,bv',f',e',b,xs',ys,rfl,hN,o2,by rw[x2,hxl],x3,b2,by rw[eg,c1],jU,f2,e2⟩
section
variable{G:Cells}{an:Nat}{z:List U}{v lv:U}{ps:List bJ}
def akh(h:uM n0 v ps)(hn0:n0<=100000000)(hlv:bL lv (rows.map bT))(hlc:dn lv)(hlr:∀x∈rows,tf x)(mX:rows.length<=1000000000):∀(n i:Nat),i<n->i<ps.length->sz ps (i:Int)<=1000000000->Gs G an z v lv ps (i:Int):=by
 intro n
 induction n with
 |zero=>intro i hi;omega
 |succ n ih=>
  intro i hi hl hsz N hp hX Ah;obtain⟨p,cW⟩:=cD hl;have jl:=h.ok i p cW;have m_:=h.no p (bG cW);have hc:=YA h.ok.kids cW;have hpl:=h.len;have hs:=Oi h.ok.kids cW;have aAS:=Oh (λk=>sz ps k) p.kids;have hk:∀x∈p.kids,Gs G an z v lv ps x:=λx hx=>by
   obtain⟨j,hj⟩:=Kf.1 hx;have ayd:=vL (f:=λk=>sz ps k+1) hj;have aye:=y_ (λk=>sz ps k+1) p.kids (j+1);obtain⟨x0,x1⟩:=jl.2 x hx;obtain⟨xn,rfl⟩:=mJ x0;exact ih xn aBH aBH aBH
  have cK:p.kids.length<=1000000000:=aBH
  have hlt:=hX.lt;refine abZ.go ?_;have e1:bu 5 v (.v (.int .i64 (i:Int)))=some (.fp p.cells 0):=h.v.bK (x:=p.aG) aDz rfl;have e2:∀hp,aq hp true 5 (.fp p.cells 0)=some (.agg p.cells):=λhp=>rfl;refine cM (λe g=>e=[(0,.mp an 0),(1,v),(2,.v (.int .i64 (i:Int))),(3,lv),(8,.mp hp.length 0)]/\g=hp++[.cells z5 false]) ?_ ?_;exact wx rP;rintro e g ⟨rfl,hg⟩;have gl:g.length=hp.length+1:=by rw[hg];simp
  refine cM (λe g2=>e=[(0,.mp an 0),(1,v),(3,lv),(8,.mp hp.length 0),(9,.mp (hp.length+1) 0)]/\g2=g++[.cells p.cells false]) ?_ ?_;have s1:=vK g p;rw[gl] at s1;exact mG @e1 @e2 @gl @s1 tt;rintro e g2 ⟨rfl,h_⟩;have HB:g2.length=hp.length+2:=by rw[h_];simp;omega
  refine cM (λe h0=>e=[(0,.mp an 0),(1,v),(3,lv),(8,.mp hp.length 0),(9,.mp (hp.length+1) 0),(10,.mp (hp.length+2) 0)]/\eu an z hp p.cells N h0) ?_ ?_;have gS:=yZ (iR.z5 N) g2;have f5:cm [.af,.af,.af,.af,.v (.bool false)] []=some z5:=rfl;unfold z5 at gS f5;rw[HB] at gS;refine gV @f5 @HB @gS ?_;refine⟨trivial,?_⟩;show eu an z hp p.cells N (g2++[.cells z5 false]);subst hg;subst h_;refine⟨((hX.app).app).app,((mO.app.trans mO.app).trans mO.app),aBI,aBI,?_,hlt⟩;have:=iQ.new (N:=N) (h:=hp++[aj z5 false]++[aj p.cells false]) (iR.z5 N);rw[HB] at this;exact this;rintro e h0 ⟨rfl,s⟩;have fin:∀{M:Nat},M=cnt ps (i:Int)->∀h',DR an z hp (N+M) h'->@Fy [(.c 8 true 5)] ⟨WD an z hp (N+cnt ps (i:Int))⟩ ⟨λ_ _=>False⟩ .ret [(8,.mp hp.length 0)] h':=by
   rintro M rfl h' ⟨cs,q1,ah,aN,dI⟩;refine cV (vw q1 ah.one.1) ?_;exact⟨cs,rfl,ah,aN,dI⟩
  obtain⟨d0,d1,d2,d3,d4⟩:=od s.p;by_cases k1:p.kind=1;rw[if_pos k1] at hc;exact ary hlv hlc hlr mX s k1 aBH (fin hc.symm);rw[if_neg k1] at hc;have hne:(p.kind==1)=false:=by simpa using k1
  refine fh (λe h'=>e=[(0,.mp an 0),(1,v),(3,lv),(8,.mp hp.length 0),(9,.mp (hp.length+1) 0),(10,.mp (hp.length+2) 0)]/\h'=h0) ?_ ?_;exact wx tt;rintro e h1 ⟨rfl,rfl⟩;by_cases eF:p.kind=3;rw[if_neg aBH,Bx] at hc;exact ast s eF m_ cK hk aBH (fin hc.symm);have Sf:(p.kind==3)=false:=by simpa using eF
  refine fh (λe h'=>e=[(0,.mp an 0),(1,v),(3,lv),(8,.mp hp.length 0),(9,.mp (hp.length+1) 0),(10,.mp (hp.length+2) 0)]/\h'=h1) ?_ ?_;exact wx tt;rintro e h2 ⟨rfl,rfl⟩;by_cases k2:p.kind=2;rw[if_neg aBH,Bx] at hc;exact ar1 s k2 m_ cK hk aBH (fin hc.symm);have abe:(p.kind==2)=false:=by simpa using k2
  have hz:p.kind=4/\p.kids.length=1/\DP p.low p.high:=by
   rcases jl.1 with q|q|q
   omega;omega;exact q
  obtain⟨x,vh⟩:=Bv.1 hz.2.1;rw[if_pos hz.1,vh] at hc;simp only[eD,kX,wh,DL,rW] at hc;obtain⟨_,ho,fv,ev,em,rfl,hf,he⟩:=s.o;obtain⟨t0,t1,t2,t3,t4⟩:=og ho (w:=.v (.bool true)) rfl;obtain⟨s1,o1⟩:=s.put s.o (bl _) (cs:=[.af,.af,fv,ev,.v (.bool true)]) ⟨_,_,_,rfl,hf,he⟩;refine fh (λe h'=>e=[(0,.mp an 0),(1,v),(3,lv),(8,.mp hp.length 0),(9,.mp (hp.length+1) 0),(10,.mp (hp.length+2) 0)]/\eu an z hp p.cells N h') ?_ ?_;refine cV @t4 ?_;exact⟨trivial,s1⟩;rintro e h3 ⟨rfl,c8⟩;obtain⟨d0,d1,d2,d3,d4⟩:=od c8.p;refine fh (λe h'=>e=[(0,.mp an 0),(1,v),(3,lv),(8,.mp hp.length 0),(9,.mp (hp.length+1) 0),(10,.mp (hp.length+2) 0)]/\h'=h3) ?_ ?_;exact wx tt;rintro e h4 ⟨rfl,rfl⟩;exact asv c8 hz.2.2 vh rfl (hk x (by rw[vh];simp)) aBH (fin hc.symm)
def au3(h:uM n0 v ps)(hn0:n0<=100000000)(hlv:bL lv (rows.map bT))(hlc:dn lv)(hlr:∀x∈rows,tf x)(mX:rows.length<=1000000000)(Ah:ps≠[]->cnt ps ((ps.length-1:Nat):Int)<=256/\sz ps ((ps.length-1:Nat):Int)<=1000000000):cx G az 81 [v,lv] Gp:=by
 refine cR (arx.go ?_);have hpl:=h.len;have ln:=h.v.bO;rw[b_] at ln;have jO:∀hp,bO v hp=some (.v (.int .i64 (ps.length:Int)),hp):=λhp=>aCl
 have yy:iR 0 [.af,.af,.af,.af,.v (.bool true)]:=⟨_,_,_,rfl,Bt _,Bt _⟩;have f5:cm [.af,.af,.af,.af,.v (.bool false)] [(4,1,.v (.bool true))]=some [.af,.af,.af,.af,.v (.bool true)]:=rfl;refine cM (λe g=>e=[(0,v),(1,lv),(4,.mp 0 0)]/\g=[.cells z5 false]) ?_ ?_;exact wx rP;rintro e g ⟨rfl,hg⟩;have gl:g.length=1:=by rw[hg];rfl
 refine cM (λe g2=>e=[(0,v),(1,lv),(4,.mp 0 0),(5,.mp 1 0)]/\g2=[.cells z5 false]++[.cells [.af,.af,.af,.af,.v (.bool true)] false]) ?_ ?_;have gS:=yZ yy g;unfold z5 at gS;rw[gl] at gS;refine fB @f5 @gl @gS ?_;exact⟨trivial,by rw[hg]⟩;rintro e g2 ⟨rfl,h_⟩;have aaB:qX 1 [.af,.af,.v (.bool true)] 0 .af .af g2:=by
  rw[h_];exact⟨rfl,⟨[],ay ⟨rfl,rfl⟩,rfl,aBI⟩,⟨[],rfl,aBI,ay ⟨rfl,rfl⟩⟩⟩
 have g0:g2[0]?=some (.cells z5 false):=by rw[h_];rfl
 have g1:g2[1]?=some (.cells [.af,.af,.af,.af,.v (.bool true)] false):=by rw[h_];rfl
 rcases x8 ps.length with hz|hz
 have bh:((ps.length:Int)==0)=true:=aEr
 have fF:=Je yy g0 rfl;have q0:(g2.set 0 (.cells [.af,.af,.af,.af,.v (.bool true)] false))[0]?=some (.cells [.af,.af,.af,.af,.v (.bool true)] false):=aR (bE.1 g0).1;refine nQ @jO @bh (vw g1 rfl) @fF (vw q0 rfl) ?_;exact afj aaB aBH (Bt _) (Bt _) λj cs q=>by rw[av (by rintro rfl;rw[g0] at q;simp at q)];exact q
 have bh:((ps.length:Int)==0)=false:=beq_eq_false_iff_ne.2 aBH;have hne:ps≠[]:=by rintro rfl;simp at hz
 obtain⟨xb,ap0⟩:=Ah hne;have w1:b7.wrap ((ps.length:Int)-1)=((ps.length-1:Nat):Int):=by rw[wrap_i64 aBH aBH];omega
 refine gV @jO @bh @w1 ?_;refine aZ (akh (G:=G) h hn0 hlv hlc hlr mX _ (ps.length-1) (Bw _) aBH ap0 0 g2 ⟨_,_,aaB⟩ aBH) ?_;rw[e5];rintro _ g3 ⟨cs,rfl,hcs,hn,hL⟩;have gS:=yZ hcs g3;unfold z5 at gS;have aQ:(g3++[aj cs false])[0]?=some (.cells z5 false):=aM (hL.wN 0 _ aBJ g0);have hn':o7 1 [.af,.af,.v (.bool true)] (cnt ps ((ps.length-1:Nat):Int)) (g3++[aj cs false]):=hn.app;have rx:(g3++[aj cs false])[g3.length]?=some (.cells cs false):=aBI
 have ji:2<=g3.length:=by have:=hL.len;rw[h_] at this;simpa using this
 obtain⟨xf,fc,jT,rfl,ob,kQ⟩:=hcs;refine wx ?_;generalize g3.length=m at rx ji⊢;generalize g3++[aj [.af,.af,xf,fc,.v (.bool jT)] false]=X at aQ hn' rx⊢;generalize cnt ps ((ps.length-1:Nat):Int)=M at*;obtain⟨ak,bv,hX⟩:=hn';have hb:=hX.b;have avk:bn ak=true:=by
  obtain⟨xs,hA,_⟩:=hX.on
  rcases hA with⟨q,_⟩|⟨_,q,_⟩<;>rw[q]<;>rfl
 have step:∀(X:List aa) (a c d:U) (b:Bool),X[1]?=some (.cells [ak,bv,c,d,.v (.bool b)] false)->X[0]?=some (.cells z5 false)->X[m]?=some (.cells [.af,.af,xf,fc,.v (.bool jT)] false)->(∀(j:Nat) cs,X[j]?=some (.cells cs true)->X[j]?=some (.cells cs true))->∀(c' d':U) (b':Bool),
   (X.set 1 (.cells [ak,bv,c',d',.v (.bool b')] false))[1]?=some (.cells [ak,bv,c',d',.v (.bool b')] false)/\(X.set 1 (.cells [ak,bv,c',d',.v (.bool b')] false))[0]?=some (.cells z5 false)/\(X.set 1 (.cells [ak,bv,c',d',.v (.bool b')] false))[m]?=some (.cells [.af,.af,xf,fc,.v (.bool jT)] false)/\(∀(j:Nat) cs,X[j]?=some (.cells cs true)->(X.set 1 (.cells [ak,bv,c',d',.v (.bool b')] false))[j]?=some (.cells cs true)):=λX a c d b h1 h0 hm _ c' d' b'=>
  ⟨aR (bE.1 h1).1,by rw[av aBH];exact h0,by rw[av aBH];exact hm,λj cs q=>aCT⟩
 obtain⟨oV,u1,u2,u3,u4⟩:=og hb ob.one;obtain⟨a1,a0,am,yp⟩:=step X ak _ _ _ hb aQ rx (λ_ _ q=>q) xf .af true;refine wx ?_;generalize X.set 1 (.cells [ak,bv,xf,.af,.v (.bool true)] false)=BK at a1 a0 am yp⊢;obtain⟨oV,u1,u2,u3,u4⟩:=og a1 kQ.one;obtain⟨b1,b0,bm,bk⟩:=step BK ak _ _ _ a1 a0 am (λ_ _ q=>q) xf fc true;refine wx ?_;generalize BK.set 1 (.cells [ak,bv,xf,fc,.v (.bool true)] false)=uW at b1 b0 bm bk⊢;obtain⟨oV,u1,u2,u3,u4⟩:=og b1 (w:=.v (.bool jT)) rfl;obtain⟨c1,c0,sj,K8⟩:=step uW ak _ _ _ b1 b0 bm (λ_ _ q=>q) xf fc jT;refine wx ?_;generalize uW.set 1 (.cells [ak,bv,xf,fc,.v (.bool jT)] false)=ajU at c1 c0 sj K8⊢;unfold z5 at c0;have Ov:=IW (a':=ak) (b':=bv) (c':=xf) (d':=fc) (e':=.v (.bool jT)) c0 (by simp only[lD,oy,avk,hX.bq.one,ob.one,kQ.one];rfl);have v0:(ajU.set 0 (.cells [ak,bv,xf,fc,.v (.bool jT)] false))[0]?=some (.cells [ak,bv,xf,fc,.v (.bool jT)] false):=aR (bE.1 c0).1;refine wx ?_;exact afj hX xb ob kQ λj cs q=>by
  have aN:=K8 _ _ (bk _ _ (yp _ _ q));rw[av (by rintro rfl;rw[c0] at aN;simp at aN)];exact aN
end
end
section
variable{c:U}{k n:Nat}{cs:List U}{g:List aa}
def uU(N:Nat)(c:U):Prop:=∃l,nV c l/\l.length<=70000/\∀x∈l,(0:Int)<=x/\x<(N:Int)
def uU.one{N:Nat}(h:uU N c):bn c=true:=by obtain⟨l,q,_⟩:=h;exact q.one
@[go_sem]def UT{xs:List U}{t:iD}{i:Nat}(h:xs[i]?=some c)(h1:bn c=true):bu 1 (.sl xs t) (.v (.int .i64 (i:Int)))=some (.fp [c] 0):=by
 have:=ku (n:=1) (t:=t) (k:=.i64) h (by rw[n5 h1];rfl);rw[n5 h1] at this;exact this
section
variable{h:List aa}{k:Nat}{a b c:U}
@[go_sem]def CW(hb:h[k]?=some (.cells [a,b,c] false)):aq h false 1 (.mp k 0)=some a/\aq h false 1 (.mp k 1)=some b/\aq h false 1 (.mp k 2)=some c/\aq h true 3 (.mp k 0)=some (.agg [a,b,c]):=by
 simp only[aq,hb];exact⟨rfl,rfl,rfl,rfl⟩
end
@[go_sem]def tD(hk:g[k]?=some (.cells cs false))(h0:cs.length=n):aq g true n (.mp k 0)=some (.agg cs):=by
 simp only[aq,hk];unfold dB;rw[if_pos rfl,if_pos aBH,nk,kG aBH]
@[go_sem]def pn{cs0:List U}(hk:g[k]?=some (.cells cs0 false))(h0:cs0.length=n)(h1:cs.length=n)(h2:cs.all bn=true):aF g n (.mp k 0) (.agg cs)=some (g.set k (.cells cs false)):=by
 simp only[aF,hk,dJ];have cC:(bT cs).cells=cs:=rfl;rw[cC,if_pos ⟨h1,aBH,h2⟩];unfold putAt;rw[qQ,eR,sY aBH,e4]
section
variable{G:Cells}{N kt:Nat}{sv au aG w:U}{sets:List U}{t:iD}{hp:List aa}
def amI(hb:hp[kt]?=some (.cells [.sl sets t,au,aG] false))(hs:∀c∈sets,uU N c)(hl1:1<=sets.length)(fu:sets.length<=1000)(hw:uU N w):aE G az 143 [.mp kt 0,w] hp λr hp'=>hp'=hp/\∃n:Int,r=.v (.int .i64 n)/\ -1<=n/\n<(sets.length:Int):=by
 refine arV.go ?_;obtain⟨wl,w1,w2,w3⟩:=hw;obtain⟨w',wi,ws⟩:=w1.imp;refine wy ?_;refine cj (λi e h=>e=[(0,.mp kt 0),(1,w),(5,.v (.int .i64 ((i+1:Nat):Int)))]/\h=hp) (sets.length-1) ⟨rfl,rfl⟩ ?_ ?_;rintro i e h hi ⟨rfl,rfl⟩;obtain⟨c,hc⟩:∃c,sets[i+1]?=some c:=⟨sets[i+1]' aBH,br _⟩;have hcs:=hs c (bG hc);have bK:=UT (t:=t) hc hcs.one;obtain⟨bw,c1,c2,c3⟩:=hcs;obtain⟨c',ci,cs⟩:=c1.imp;refine wy ?_;refine aE.cY (awZ cs ws aBH aBH) ?_;rintro r ⟨b,rfl⟩;cases b with
 |false=>
  exact wx tt
 |true=>
  refine wx ?_;exact⟨trivial,_,rfl,aBH,aBH⟩
 rintro e h ⟨rfl,rfl⟩;refine wx ?_;exact⟨trivial,_,rfl,aBH,aBH⟩
structure Flags(N k:Nat)(bs:List U)(h:List aa):Prop where
 b:h[k]?=some (.cells bs true)
 len:bs.length=N
 ok:∀c∈bs,∃b:Bool,c=.v (.bool b)
section
variable{k p:Nat}{bs:List U}{h:List aa}
@[go_sem]def En(hp:p<N):bu 1 (.rs k N 1 0 N) (.v (.int .i64 (p:Int)))=some (.rp k N p):=by
 have:=NP (k:=k) (m:=N) (n:=1) (len:=N) (j:=p) hp;rw[Nat.mul_one] at this;exact this
def Flags.eG(s:Flags N k bs h)(hp:p<N):∃b:Bool,bs[p]?=some (.v (.bool b))/\aq h false 1 (.rp k N p)=some (.v (.bool b)):=by
 have hl:=s.len;obtain⟨c,hc⟩:∃c,bs[p]?=some c:=⟨bs[p]' aBH,br _⟩;obtain⟨b,rfl⟩:=s.ok c (bG hc);refine⟨b,hc,?_⟩;simp only[aq,s.b,s.len,if_true,dB];rw[if_neg aBI];exact hc
def Flags.st(s:Flags N k bs h)(hp:p<N):aF h 1 (.rp k N p) (.v (.bool true))=some (h.set k (.cells (bs.set p (.v (.bool true))) true))/\Flags N k (bs.set p (.v (.bool true))) (h.set k (.cells (bs.set p (.v (.bool true))) true)):=by
 have hl:=s.len;have hk:=gl s.b;refine⟨?_,aR hk,by rw[rU];exact s.len,λc hc=>?_⟩;have cC:(bP (.bool true)).cells=[.v (.bool true)]:=rfl;simp only[aF,s.b,s.len,if_true,dJ,cC];rw[if_pos ⟨rfl,aBH,rfl⟩,Ji aBH]
 rcases Ga hc with q|rfl
 exact s.ok c q;exact⟨true,rfl⟩
end
def aju(B:Nat)(h:List aa)(c:U)(xs:List U):Prop:=(c=.af/\xs=[])\/∃id,c=.sl xs (.tok id)/\B<=id/\h[id]?=some (.tok xs.length 1 3)
structure uO(B N M:Nat)(outs:List U)(h:List aa):Prop where
 len:outs.length=32
 row:∀(s:Nat) c,outs[s]?=some c->∃l:List Int,aju B h c (l.map ag)/\l.length<=M/\∀x∈l,(0:Int)<=x/\x<(N:Int)
 one:∀(s s' id:Nat) xs xs',outs[s]?=some (.sl xs (.tok id))->outs[s']?=some (.sl xs' (.tok id))->s=s'
section
variable{B M M' s:Nat}{outs:List U}{h h':List aa}{c:U}
def uO.keep(q:uO B N M outs h)(hM:M<=M')(hk:∀(j c:Nat),h[j]?=some (.tok c 1 3)->h'[j]?=some (.tok c 1 3)):uO B N M' outs h':=by
 refine⟨q.len,λs c hc=>?_,q.one⟩;obtain⟨l,h1,h2,h3⟩:=q.row s c hc;refine⟨l,h1.elim ay ?_,aBH,h3⟩;rintro⟨id,e1,eb,e2⟩;exact ax ⟨id,e1,eb,hk _ _ e2⟩
def uO.push(q:uO B N M outs h)(hc:outs[s]?=some c)(hB:B<=h.length)(hM:M<=100000){p:Nat}(hp:p<N):∃bg g,cG h 1 8 3 c (.sl [.v (.int .i64 (p:Int))] .exact)=some (bg,g)/\bn bg=true/\uO B N (M+1) (outs.set s bg) g/\h.length<=g.length/\(∀(j:Nat) cs fz,h[j]?=some (.cells cs fz)->g[j]?=some (.cells cs fz))/\∀(j:Nat) b,h[j]?=some b->(∀xs,c≠.sl xs (.tok j))->g[j]?=some b:=by
 obtain⟨l,h1,h2,h3⟩:=q.row s c hc;have tW:=gl hc;have hx:=C3 l;have hy:bV 1 [bP (.int .i64 (p:Int))]=true:=rfl;have Rm:∀x∈l++[(p:Int)],(0:Int)<=x/\x<(N:Int):=λx hx=>by
  rcases dZ.1 hx with y|y
  exact h3 x y;rw[cr.1 y];omega
 rcases h1 with⟨rfl,e⟩|⟨id,rfl,an0,hid⟩
 have:l=[]:=ajf.1 e;subst this;refine⟨.sl ([]++[.v (.int .i64 (p:Int))]) (.tok h.length),h++[.tok 1 1 3],?_,rfl,⟨by rw[rU];exact q.len,λs' c' gr=>?_,λs1 s2 id xs xs' k1 k2=>?_⟩,aBI,λj cs fz k=>aM k,λj b k _=>aM k⟩;simp[cG,e9,ga,contents,hy];by_cases ER:s=s';subst ER;rw[aR tW] at gr;cases gr;exact⟨[]++[(p:Int)],ax ⟨h.length,rfl,hB,aBI⟩,aBI,Rm⟩;rw[av ER] at gr;obtain⟨l',r1,r2,fX⟩:=q.row s' c' gr;refine⟨l',r1.elim ay ?_,aBH,fX⟩;rintro⟨id,e1,eb,e2⟩;exact ax ⟨id,e1,eb,aM e2⟩;have old:∀{s':Nat} {ys:List U},s≠s'->outs[s']?=some (.sl ys (.tok id))->id<h.length:=λ{s' ys} _ k=>by
  obtain⟨l',r1,_⟩:=q.row s' _ k
  rcases r1 with⟨r,_⟩|⟨id',r,_,r2⟩
  cases r;cases r;exact gl r2
 by_cases a1:s=s1<;>by_cases a2:s=s2;omega;subst a1;rw[aR tW] at k1;rw[av a2] at k2;cases k1;have:=old a2 k2;omega;subst a2;rw[aR tW] at k2;rw[av a1] at k1;cases k2;have:=old a1 k1;omega;rw[av a1] at k1;rw[av a2] at k2;exact q.one s1 s2 id _ _ k1 k2;have hl:id<h.length:=gl hid;rw[b_] at hid;have hfit:(l.length+1)*8<=140737488355328:=aBH
 refine⟨.sl (l.map ag++[.v (.int .i64 (p:Int))]) (.tok id),h.set id (.tok (l.length+1) 1 3),?_,rfl,⟨by rw[rU];exact q.len,λs' c' gr=>?_,λs1 s2 id' xs xs' k1 k2=>?_⟩,aBI,λj cs fz k=>by rw[av (by rintro rfl;rw[hid] at k;cases k)];exact k,λj b k hne=>by
  rw[av (by rintro rfl;exact hne _ rfl)];exact k⟩
 simp[cG,e9,ga,contents,hy,hfit,hx,hid];by_cases ER:s=s';subst ER;rw[aR tW] at gr;cases gr;exact⟨l++[(p:Int)],ax ⟨id,by simp[ag],an0,aCr⟩,aBK,Rm⟩;rw[av ER] at gr;obtain⟨l',r1,r2,fX⟩:=q.row s' c' gr;refine⟨l',r1.elim ay ?_,aBH,fX⟩;rintro⟨id',e1,eb,e2⟩;refine ax ⟨id',e1,eb,?_⟩;rw[av (by rintro rfl;subst e1;exact ER (q.one s s' _ _ _ hc gr))];exact e2;by_cases a1:s=s1<;>by_cases a2:s=s2;omega;subst a1;rw[aR tW] at k1;rw[av a2] at k2;cases k1;exact q.one _ _ _ _ _ hc k2;subst a2;rw[aR tW] at k2;rw[av a1] at k1;cases k2;exact q.one _ _ _ _ _ k1 hc;rw[av a1] at k1;rw[av a2] at k2;exact q.one s1 s2 id' _ _ k1 k2
def uO.set(q:uO B N M outs h)(hc:outs[s]?=some c)(hM:M<=70000):uU N c:=by
 obtain⟨l,h1,h2,h3⟩:=q.row s c hc;refine⟨l,?_,aBH,h3⟩
 rcases h1 with⟨rfl,e⟩|⟨id,rfl,_⟩
 exact ay ⟨rfl,ajf.1 e⟩;exact ax ⟨_,rfl⟩
end
end
end
section
variable{M N m:Nat}{cy outs:List U}{h hp:List aa}
structure uK(N:Nat)(hp:List aa)(cy:List U)(h:List aa):Prop where
 n:h[hp.length]?=some (.cells cy false)
 r:h[hp.length+1]?=some (.cells (dL 32 .af) false)
 m:∃bs,Flags N (hp.length+2) bs h
 x:Ext hp h
section
variable{N p:Nat}{hp h:List aa}{cy:List U}
def uK.st(s:uK N hp cy h)(Cr:p<N):∃h',aF h 1 (.rp (hp.length+2) N p) (.v (.bool true))=some h'/\uK N hp cy h':=by
 obtain⟨bs,q⟩:=s.m;obtain⟨a1,a2⟩:=q.st Cr;refine⟨_,a1,by rw[av aBH];exact s.n,by rw[av aBH];exact s.r,⟨_,a2⟩,λj b k=>?_⟩;have:=gl k;rw[av aBH];exact s.x j b k
end
structure uJ(N M:Nat)(hp:List aa)(cy outs:List U)(m:Nat)(h:List aa):Prop where
 s:uK N hp cy h
 o:h[m]?=some (.cells outs false)
 q:uO hp.length N M outs h
 zT:hp.length+3<=m
def uO.au7{B:Nat}(q:uO B N M outs h):outs.all bn=true:=by
 rw[c_];intro c hc;obtain⟨s,hs⟩:=Kf.1 hc;obtain⟨l,h1,_⟩:=q.row s c hs
 rcases h1 with⟨rfl,_⟩|⟨_,rfl,_⟩<;>rfl
def uJ.mono{M':Nat}(z:uJ N M hp cy outs m h)(hM:M<=M'):uJ N M' hp cy outs m h:=⟨z.s,z.o,z.q.keep hM λ_ _ k=>k,z.zT⟩
def XG{h':List aa}{n:Nat}{p v:U}(e:aF h n p v=some h'):h'.length=h.length:=by
 unfold aF at e;split at e;split at e;unfold dJ at e;split at e;cases e;simp;cases e;cases e;split at e;split at e;unfold dJ at e;split at e;cases e;simp;cases e;cases e;cases e;cases e
def uJ.push{s:Nat}{c:U}(z:uJ N M hp cy outs m h)(hc:outs[s]?=some c)(hM:M<=100000){p:Nat}(hp':p<N):∃bg g h',cG h 1 8 3 c (.sl [.v (.int .i64 (p:Int))] .exact)=some (bg,g)/\aF g 1 (.mp m s) bg=some h'/\uJ N (M+1) hp cy (outs.set s bg) m h'/\∀bs,h[hp.length+2]?=some (.cells bs true)->h'[hp.length+2]?=some (.cells bs true):=by
 obtain⟨bg,g,e1,e2,bQ,cC,iW,sn⟩:=z.q.push hc z.s.x.len hM hp';have nI:=iW _ _ _ z.o;have hml:=gl nI;have tW:=gl hc;have HO:=z.zT;have c1:=n5 e2;have st:aF g 1 (.mp m s) bg=some (g.set m (.cells (outs.set s bg) false)):=by
  simp only[aF,nI,dJ,c1];rw[if_pos ⟨rfl,aBH,by simp[e2]⟩,Ji tW]
 refine⟨bg,g,_,e1,st,⟨⟨?_,?_,?_,?_⟩,aR hml,bQ.keep (bl _) λj c k=>by rw[av (by rintro rfl;rw[nI] at k;cases k)];exact k,z.zT⟩,λbs k=>by rw[av aBH];exact iW _ _ _ k⟩;rw[av aBH];exact iW _ _ _ z.s.n;rw[av aBH];exact iW _ _ _ z.s.r;obtain⟨bs,q⟩:=z.s.m;exact⟨bs,by rw[av aBH];exact iW _ _ _ q.b,q.len,q.ok⟩;intro j b k;have hj:=gl k;rw[av aBH];refine sn _ _ (z.s.x j b k) λxs e=>?_;obtain⟨l,h1,_⟩:=z.q.row s c hc
 rcases h1 with⟨h1,_⟩|⟨id,h1,hB,h2⟩
 rw[h1] at e;cases e;rw[h1] at e;cases e;omega
section
variable{G:Cells}{N kt:Nat}{ak bv f e au aG:U}{b:Bool}{sets xs ys:List U}{t:iD}{hp:List aa}
def akS(hb:hp[kt]?=some (.cells [.sl sets t,au,aG] false))(hs:∀c∈sets,uU N c)(fu:sets.length<=1000){aV:Nat}(gY:aV<sets.length)
  (hN:N<=256) (h1:bL ak xs) (h2:xs.length=N) (h3:∀x∈xs,BD x) (h4:bL bv (ys.map λy=>.agg [y])) (h5:ys.length=N) (h6:∀y∈ys,uR N y) (h7:uR N f):
  aE G az 142 [.mp kt 0,.agg [ak,bv,f,e,.v (.bool b)],.v (.int .i64 (aV:Int))] hp λr hp'=>Ext hp hp'/\∃cs,r=.agg cs/\cs.length=32/\∀c∈cs,uU N c:=by
 refine arU.go ?_;obtain⟨cy,Aq⟩:∃cy:List U,cy=[ak,bv,f,e,.v (.bool b)]:=⟨_,rfl⟩;have aeP:∀g,bO ak g=some (.v (.int .i64 (N:Int)),g):=λg=>by rw[h1.bO,kN,h2]
 refine cM (λe' g=>e'=[(0,.mp kt 0),(2,.v (.int .i64 (aV:Int))),(4,.mp hp.length 0),(6,.mp (hp.length+1) 0)]/\g=hp++[.cells cy false]++[.cells (dL 32 .af) false]) ?_ ?_;refine fC @cB.{0} ?_;exact⟨trivial,rfl⟩;rintro e' g ⟨rfl,hg⟩;have gl:g.length=hp.length+2:=by rw[hg];simp
 have gn:g[hp.length]?=some (.cells cy false):=by rw[hg];simp
 refine cM (λe' g=>e'=[(0,.mp kt 0),(2,.v (.int .i64 (aV:Int))),(4,.mp hp.length 0),(6,.mp (hp.length+1) 0),(7,.rs (hp.length+2) N 1 0 N)]/\uK N hp cy g/\g.length=hp.length+3) ?_ ?_;have lo:aq g false 1 (.mp hp.length 0)=some ak:=by rw[Aq] at gn;exact(gT gn).1
 have m1:zL g 1 1 [.v (.bool false)] (.v (.int .i64 (N:Int))) (.v (.int .i64 (N:Int)))=some (.rs (hp.length+2) N 1 0 N,g++[.cells (dL N (.v (.bool false))) true]):=by
  unfold zL;dsimp only;rw[if_pos ⟨aBH,aBH,aBH,aBH,rfl,aBJ⟩,gl];simp
 refine fB @lo @aeP @m1 ?_;refine⟨trivial,⟨aM gn,aM (by rw[hg];simp),⟨dL N (.v (.bool false)),by rw[<-gl];simp,aBI,λc hc=>⟨false,(aji.1 hc).2⟩⟩,?_⟩,by simp[gl]⟩;rw[hg];exact(jV.n3).n3;rintro e' g1 ⟨rfl,s1,aaf⟩;refine cM (λe' g=>e'=[(0,.mp kt 0),(2,.v (.int .i64 (aV:Int))),(4,.mp hp.length 0),(6,.mp (hp.length+1) 0),(7,.rs (hp.length+2) N 1 0 N)]/\uK N hp cy g/\g.length=hp.length+3) ?_ ?_;refine wy ?_;obtain⟨fl,f1,f2⟩:=h7;have hfl:=f2.len;have LC:=(vH f1)
 rcases x8 aV with hz|hz
 have bh:((aV:Int)==0)=true:=aEr
 refine cj (λi e' g=>e'=[(0,.mp kt 0),(2,.v (.int .i64 (aV:Int))),(4,.mp hp.length 0),(6,.mp (hp.length+1) 0),(7,.rs (hp.length+2) N 1 0 N),(8,ag i)]/\uK N hp cy g/\g.length=hp.length+3) fl.length ⟨rfl,s1,aaf⟩ ?_ ?_;rintro i e' g hi ⟨rfl,s,gl⟩;obtain⟨x,hx⟩:=cD hi;obtain⟨x0,x1⟩:=f2.2 x (bG hx);obtain⟨p,rfl⟩:=mJ x0;have bf:aq g false 1 (.mp hp.length 2)=some f:=aDn
 have Cr:p<N:=aBH
 obtain⟨g',t1,t2⟩:=s.st Cr;have Rg:g'.length=hp.length+3:=by rw[<-gl];exact XG t1
 simp -failIfUnchanged -implicitDefEqProofs (disch:=first|assumption|decide|omega) only[gQ,lY,lZ,↓reduceIte,s5,rX,s6,s7,ov,x4,x5,ag,bh,iE,bf,LC.len,LC.bK hx,tN,En Cr,t1];exact⟨trivial,t2,Rg⟩;rintro e' g ⟨rfl,s,gl⟩;have bf:aq g false 1 (.mp hp.length 2)=some f:=aDn
 refine gV @ag.eq_1 @bh @bf ?_;exact⟨trivial,s,gl⟩;have bh:((aV:Int)==0)=false:=aBK
 refine cj (λi e' g=>e'=[(0,.mp kt 0),(2,.v (.int .i64 (aV:Int))),(4,.mp hp.length 0),(6,.mp (hp.length+1) 0),(7,.rs (hp.length+2) N 1 0 N),(8,ag i)]/\uK N hp cy g/\g.length=hp.length+3) 0 ⟨rfl,s1,aaf⟩ ?_ ?_;rintro i e' g hi;omega;rintro e' g ⟨rfl,s,gl⟩;refine fG @ag.eq_1 @bh ?_;exact⟨trivial,s,gl⟩;rintro e' g2 ⟨rfl,s2,HB⟩;obtain⟨c0,hc0⟩:=cD gY;have ED:=hs c0 (bG hc0);have aqj:=UT (t:=t) hc0 ED.one;obtain⟨bw,aAd,aAe,gX⟩:=ED;refine cM (λe' g=>e'=[(4,.mp hp.length 0),(6,.mp (hp.length+1) 0),(7,.rs (hp.length+2) N 1 0 N)]/\uK N hp cy g/\g.length=hp.length+3) ?_ ?_;refine wy ?_;refine cj (λi e' g=>e'=[(0,.mp kt 0),(2,.v (.int .i64 (aV:Int))),(4,.mp hp.length 0),(6,.mp (hp.length+1) 0),(7,.rs (hp.length+2) N 1 0 N),(9,ag i)]/\uK N hp cy g/\g.length=hp.length+3) bw.length ⟨rfl,s2,HB⟩ ?_ ?_;rintro i e' g hi ⟨rfl,s,gl⟩;obtain⟨x,hx⟩:=cD hi;obtain⟨x0,x1⟩:=gX x (bG hx);obtain⟨p,rfl⟩:=mJ x0;have lk:=s.x _ _ hb;have bf:aq g false 1 (.mp hp.length 1)=some bv:=by have:=s.n;rw[Aq] at this;exact(gT this).2.1
 obtain⟨y,hy⟩:∃y,ys[p]?=some y:=⟨ys[p]' aBH,br _⟩;have lf:bu 1 bv (.v (.int .i64 (p:Int)))=some (.fp [y] 0):=h4.bK (x:=.agg [y]) aB9 rfl;obtain⟨VD,y1,eg⟩:=h6 y (bG hy);have aiG:=(vH y1);have aA8:=eg.len;refine lC ?_;refine cj (λj e' g=>e'=[(0,.mp kt 0),(2,.v (.int .i64 (aV:Int))),(4,.mp hp.length 0),(6,.mp (hp.length+1) 0),(7,.rs (hp.length+2) N 1 0 N),(9,ag i),(10,y),(11,ag j)]/\uK N hp cy g/\g.length=hp.length+3) VD.length ⟨rfl,s,gl⟩ ?_ ?_;rintro j e' g hj ⟨rfl,s,gl⟩;obtain⟨x',hx'⟩:∃x,VD[j]?=some x:=⟨VD[j],br hj⟩;obtain⟨azp,OC⟩:=eg.2 x' (bG hx');obtain⟨p',rfl⟩:=mJ azp;have Cr:p'<N:=aBH
 obtain⟨g',t1,t2⟩:=s.st Cr;have Rg:g'.length=hp.length+3:=by rw[<-gl];exact XG t1
 simp -failIfUnchanged -implicitDefEqProofs (disch:=first|assumption|decide|omega) only[gQ,lY,lZ,↓reduceIte,s5,rX,s6,s7,ov,x4,x5,ag,aiG.len,aiG.bK hx',tN,En Cr,t1];exact⟨trivial,t2,Rg⟩;rintro e' g ⟨rfl,s,gl⟩;refine cV @ag.eq_1 ?_;exact⟨trivial,s,gl⟩;rintro e' g ⟨rfl,s,gl⟩;have lk:=s.x _ _ hb;refine fG @ag.eq_1 @aqj ?_;exact⟨trivial,s,gl⟩;rintro e' g3 ⟨rfl,c8,Rh⟩;refine cM (λe' g=>e'=[(4,.mp hp.length 0),(6,.mp (hp.length+1) 0),(7,.rs (hp.length+2) N 1 0 N),(12,.mp (hp.length+3) 0)]/\∃outs,uJ N 0 hp cy outs (hp.length+3) g) ?_ ?_;have azz:(dL 32 U.af).all bn=true:=rfl;have fP:=pn (n:=32) (g:=g3++[.cells (dL 32 .af) false]) (k:=g3.length) (cs:=dL 32 .af) (cs0:=dL 32 .af) aBI rfl rfl azz;have e1:(g3++[aj (dL 32 .af) false]).set g3.length (.cells (dL 32 .af) false)=g3++[.cells (dL 32 .af) false]:=aBI
 have f1:cm (dL 32 U.af) []=some (dL 32 .af):=rfl;rw[e1,Rh] at fP;simp only[dL] at fP f1;refine fG @Rh @fP ?_;refine⟨trivial,dL 32 .af,⟨aM c8.n,aM c8.r,?_,c8.x.n3⟩,?_,⟨rfl,λs c hc=>?_,λs s' id xs xs' k1 _=>?_⟩,bl _⟩;obtain⟨bs,q⟩:=c8.m;exact⟨bs,aM q.b,q.len,q.ok⟩;rw[<-Rh];exact OT;have:=(aji.1 (bG hc)).2;subst this;exact⟨[],ay ⟨rfl,rfl⟩,ic _,aBI⟩;have:=(aji.1 (bG k1)).2;cases this;rintro e' g4 ⟨rfl,avj,z4⟩;refine cM (λe' g=>e'=[(6,.mp (hp.length+1) 0),(12,.mp (hp.length+3) 0)]/\∃outs,uJ N 70000 hp cy outs (hp.length+3) g) ?_ ?_;refine wy ?_;have atQ:∀g,bO (.rs (hp.length+2) N 1 0 N) g=some (.v (.int .i64 (N:Int)),g):=λg=>rfl;refine cj (λi e' g=>e'=[(4,.mp hp.length 0),(6,.mp (hp.length+1) 0),(7,.rs (hp.length+2) N 1 0 N),(12,.mp (hp.length+3) 0),(13,ag i)]/\∃outs,uJ N (i*256) hp cy outs (hp.length+3) g) N ⟨rfl,avj,by rw[Nat.zero_mul];exact z4⟩ ?_ ?_;rintro i e' g hi ⟨rfl,outs,z⟩;obtain⟨x,hx⟩:∃x,xs[i]?=some x:=⟨xs[i]' aBH,br _⟩;have oN:=h3 x (bG hx);have ix:bu 1 ak (.v (.int .i64 (i:Int)))=some (.fp [x] 0):=by
  have:=h1.bK (n:=1) (k:=.i64) (x:=x) hx (by rw[n5 oN.one];rfl);rw[n5 oN.one] at this;exact this
 obtain⟨azx,x1,x2,x3⟩:=oN;have VC:=(vH x1);obtain⟨bs,hfl⟩:=z.s.m;obtain⟨fb,_,yO⟩:=hfl.eG hi;have w1:b7.wrap ((i:Int)+1)=((i+1:Nat):Int):=jA aBH;refine ni ?_;refine cj (λj e' g=>e'=[(4,.mp hp.length 0),(6,.mp (hp.length+1) 0),(7,.rs (hp.length+2) N 1 0 N),(12,.mp (hp.length+3) 0),(13,ag i),(14,ag j)]/\aq g false 1 (.rp (hp.length+2) N i)=some (.v (.bool fb))/\∃outs,uJ N (i*256+j) hp cy outs (hp.length+3) g) (if fb then azx.length else 0) ⟨rfl,yO,outs,z.mono aBH⟩ ?_ ?_;rintro j e' g hj ⟨rfl,yO,outs,z⟩;cases fb with
 |false=>simp at hj
 |true=>
  simp only[if_true] at hj;obtain⟨y,hy⟩:=cD hj;obtain⟨y0,y1⟩:=x3 y (bG hy);obtain⟨s,rfl⟩:=mJ y0;have lo:aq g false 1 (.mp hp.length 0)=some ak:=aDv
  simp -failIfUnchanged -implicitDefEqProofs (disch:=first|assumption|decide|omega) only[gQ,lY,lZ,↓reduceIte,s5,rX,s6,s7,ov,x4,x5,ag,En hi,yO,iE,lo,ix,tN,VC.len,VC.bK hy];refine b8 (λq=>?_) λq=>?_;have aA0:s<32:=aBQ
  have ym:jH 32 1 (.mp (hp.length+3) 0) (.v (.int .i64 (s:Int)))=some (.mp (hp.length+3) s):=by
   unfold jH;dsimp only;rw[if_pos ⟨aBH,aBH⟩];simp[iE]
  have hol:=z.q.len;obtain⟨c,hc⟩:∃c,outs[s]?=some c:=⟨outs[s]' aBH,br _⟩;have lc:aq g false 1 (.mp (hp.length+3) s)=some c:=by
   simp only[aq,z.o,dB];rw[if_neg aBI];exact hc
  obtain⟨bg,g',ri,t1,t2,t3,t4⟩:=z.push hc aBH hi;have atD:aq ri false 1 (.rp (hp.length+2) N i)=some (.v (.bool true)):=by
   obtain⟨bs,q1⟩:=z.s.m;have ah:=t4 bs q1.b;simp only[aq,q1.b] at yO;simp only[aq,ah];exact yO
  refine nQ @q @ym @lc @t1 @t2 ?_;exact⟨rfl,atD,_,t3.mono aBH⟩;exact⟨rfl,yO,outs,z.mono aBH⟩
 rintro e' g ⟨rfl,yO,outs,z⟩;have lo:aq g false 1 (.mp hp.length 0)=some ak:=aDv
 have sW:uJ N ((i+1)*256) hp cy outs (hp.length+3) g:=z.mono (by split<;>omega);cases fb with
 |false=>
  simp -failIfUnchanged -implicitDefEqProofs (disch:=first|assumption|decide|omega) only[gQ,lY,lZ,↓reduceIte,s5,rX,s6,s7,ov,x4,x5,ag,En hi,yO,w1];exact⟨trivial,outs,sW⟩
 |true=>
  simp only[if_true];simp -failIfUnchanged -implicitDefEqProofs (disch:=first|assumption|decide|omega) only[gQ,lY,lZ,↓reduceIte,s5,rX,s6,s7,ov,x4,x5,ag,En hi,yO,iE,lo,ix,tN,VC.len,w1];exact⟨trivial,outs,sW⟩
 rintro e' g ⟨rfl,outs,z⟩;refine fG @ag.eq_1 @atQ ?_;exact⟨trivial,outs,z.mono aBH⟩;rintro e' g5 ⟨rfl,outs,z5⟩;have rl:=pn (n:=32) z5.s.r aBI z5.q.len z5.q.au7;have rk:(g5.set (hp.length+1) (.cells outs false))[hp.length+1]?=some (.cells outs false):=aR (bE.1 z5.s.r).1;refine kg (tD z5.o z5.q.len) (tD rk z5.q.len) ?_;refine⟨λj b k=>?_,outs,rfl,z5.q.len,λc hc=>?_⟩;have:=(bE.1 k).1;rw[av aBH];exact z5.s.x j b k;obtain⟨s,hs⟩:=Kf.1 hc;exact z5.q.set hs aBH
end
end
section
variable{B N m n:Nat}{v:U}{xs:List U}{e:TypeId}{g:List aa}
structure iT(N:Nat)(cy sets dF rows:List U)(sv au aG:U)(h:List aa):Prop where
 n:h[0]?=some (.cells cy false)
 r:h[1]?=some (.cells [.af,.af,.af] false)
 t:h[2]?=some (.cells [sv,au,aG] false)
 s:jE 0 h sv sets 1 56
 a:jE 0 h aG dF 1 4
 w:bX h au rows 32 233
 sk:∀c∈sets,uU N c
 yp:∀c∈dF,∃b:Bool,c=.v (.bool b)
 rk:∀c∈rows,∃l:List Int,c=.agg (l.map ag)/\l.length=32
section
variable{N:Nat}{cy sets dF rows:List U}{sv au aG:U}{h h':List aa}
def jE.ext(q:jE B h v xs n e)(hk:∀(j:Nat) c,h[j]?=some (.tok c n e)->h'[j]?=some (.tok c n e)):jE B h' v xs n e:=by
 rcases q with q|⟨id,q1,ah,aN⟩
 exact ay q;exact ax ⟨id,q1,ah,hk _ _ aN⟩
def jE.sl{B:Nat}{v:U}{xs:List U}{n:Nat}{e:TypeId}(q:jE B h v xs n e):∃t,v=.sl xs t:=by
 rcases q with q|⟨id,q1,_⟩
 exact⟨_,q⟩;exact⟨_,q1⟩
def jE.one(q:jE B h v xs n e):bn v=true:=by
 obtain⟨t,rfl⟩:=q.sl;rfl
def iT.ext(z:iT N cy sets dF rows sv au aG h)(hk:∀(j:Nat) b,h[j]?=some b->(∀cs,b≠.cells cs false\/j<=2)->h'[j]?=some b):iT N cy sets dF rows sv au aG h':=by
 refine⟨hk _ _ z.n λ_=>ax aBJ,hk _ _ z.r λ_=>ax aBJ,hk _ _ z.t λ_=>ax aBJ,z.s.ext λj c q=>hk _ _ q λ_=>ay aBI,z.a.ext λj c q=>hk _ _ q λ_=>ay aBI,?_,z.sk,z.yp,z.rk⟩
 rcases z.w with q|⟨id,q1,ah⟩
 exact ay q;exact ax ⟨id,q1,hk _ _ ah λ_=>ay aBI⟩
def iT.app{x:List aa}(z:iT N cy sets dF rows sv au aG h):iT N cy sets dF rows sv au aG (h++x):=z.ext λj b q _=>aM q
def iT.set(z:iT N cy sets dF rows sv au aG h)(hm:3<=m){cs cs':List U}(hk:h[m]?=some (.cells cs false)):iT N cy sets dF rows sv au aG (h.set m (.cells cs' false)):=z.ext λj b q hb=>by
 rw[av];exact q;rintro rfl;rw[hk] at q;cases q
 rcases hb cs with k|k
 exact k rfl;omega
def Pd(h h':List aa):Prop:=h.length<=h'.length/\∀(j:Nat) cs,j≠2->h[j]?=some (.cells cs false)->h'[j]?=some (.cells cs false)
def iT.push(z:iT N cy sets dF rows sv au aG h){c:U}(hc:uU N c)(hl:sets.length<=1000):∃iM g g',cG h 1 24 56 sv (.sl [c] .exact)=some (iM,g)/\aF g 1 (.mp 2 0) iM=some g'/\iT N cy (sets++[c]) dF rows iM au aG g'/\Pd h g':=by
 obtain⟨v,g,e1,e2,_,hA,hb,q⟩:=ZU (x:=c) (aY:=24) (o:=0) z.s (ic _) z.t aBI (xH λx hx=>(z.sk x hx).one) (xH λx hx=>by rw[cr.1 hx];exact hc.one) aBJ aBJ aBH;exact⟨v,g,_,e1,e2,⟨q.cells z.n aBJ,q.cells z.r aBJ,hb,hA,q.own z.t z.a aBJ,q.zM z.t z.w aBJ,λx hx=>(dZ.1 hx).elim (z.sk x) λq=>by rw[cr.1 q];exact hc,z.yp,z.rk⟩,q.1,λj c hj hb=>q.cells hb hj⟩
def iT.avC(z:iT N cy sets dF rows sv au aG h)(b:Bool)(hl:dF.length<=1000):∃GM g g',cG h 1 1 4 aG (.sl [.v (.bool b)] .exact)=some (GM,g)/\aF g 1 (.mp 2 2) GM=some g'/\iT N cy sets (dF++[.v (.bool b)]) rows sv au GM g'/\Pd h g':=by
 obtain⟨v,g,e1,e2,_,hA,hb,q⟩:=ZU (x:=.v (.bool b)) (aY:=1) (o:=2) z.a (ic _) z.t aBI (xH λx hx=>by obtain⟨b,rfl⟩:=z.yp x hx;rfl) rfl aBJ aBJ aBH;exact⟨v,g,_,e1,e2,⟨q.cells z.n aBJ,q.cells z.r aBJ,hb,q.own z.t z.s aBJ,hA,q.zM z.t z.w aBJ,z.sk,λx hx=>(dZ.1 hx).elim (z.yp x) λq=>⟨b,cr.1 q⟩,z.rk⟩,q.1,λj c hj hb=>q.cells hb hj⟩
@[go_sem]def Nk(l:List Int)(hl:l.length=32):bV 32 [bT (l.map ag)]=true:=by
 have:(l.map ag).all bn=true:=by
  rw[c_];intro x hx;obtain⟨n,_,rfl⟩:=cO.1 hx;rfl
 simp only[bV,lD,oy,gm,this,b_,hl];rfl
def iT.AW(z:iT N cy sets dF rows sv au aG h){l:List Int}(xm:l.length=32)(hl:rows.length<=1000):∃iJ g g',cG h 32 256 233 au (.sl [.agg (l.map ag)] .exact)=some (iJ,g)/\aF g 1 (.mp 2 1) iJ=some g'/\iT N cy sets dF (rows++[.agg (l.map ag)]) sv iJ aG g'/\Pd h g':=by
 have fE:bV 32 rows=true:=by
  rw[bV,c_];intro x hx;obtain⟨l,rfl,hl⟩:=z.rk x hx;have:=Nk l hl;simpa[bV] using this
 obtain⟨v,g,e1,e2,_,hA,hb,q⟩:=Hv (x:=.agg (l.map ag)) (aY:=256) (o:=1) z.w z.t aBI fE (Nk l xm) aBJ aBJ aBH;exact⟨v,g,_,e1,e2,⟨q.cells z.n aBJ,q.cells z.r aBJ,hb,q.own z.t z.s aBJ,q.own z.t z.a aBJ,hA,z.sk,z.yp,λx hx=>(dZ.1 hx).elim (z.rk x) λq=>⟨l,cr.1 q,xm⟩⟩,q.1,λj c hj hb=>q.cells hb hj⟩
end
def W0(r:U):Prop:=∃(a b c:U) (t:Bool),r=.aK [.agg [a,b,c],.v (.bool t)]/\bn a=true/\bn b=true/\bn c=true
def ahb(hp:List aa):∀{cs:List U},(∀c∈cs,uU N c)->∃ys,dD hp cs ys
 |[],_=>⟨[],bW⟩
 |c::r,h=>by
  obtain⟨l,h1,_⟩:=h c aBI;obtain⟨v',q1,_⟩:=h1.fz hp;obtain⟨ys,k1⟩:=ahb hp (cs:=r) λx hx=>h x aBU;exact⟨v'::ys,aA q1 k1⟩
def ayo{cy sets dF rows:List U}{sv au aG:U}{h:List aa}(z:iT N cy sets dF rows sv au aG h)(b:Bool):∃n aQ,b9 g n (.aK [.agg [sv,au,aG],.v (.bool b)])=some aQ/\W0 aQ:=by
 obtain⟨t1,rfl⟩:=z.s.sl;obtain⟨t2,rfl⟩:=z.a.sl;obtain⟨ys,hy⟩:=ahb g z.sk;have ha:dD g dF dF:=dD.each λa ha=>by obtain⟨b,rfl⟩:=z.yp a ha;exact aB _
 obtain⟨iJ,hn,h1⟩:∃iJ,aX g au iJ/\bn iJ=true:=by
  rcases z.w with⟨rfl,_⟩|⟨id,rfl,_⟩
  exact⟨.af,cS,rfl⟩;have hr:dD g rows rows:=dD.each λa ha=>by
   obtain⟨l,rfl,_⟩:=z.rk a ha;exact iO (gh λa _=>aB _)
  exact⟨_,fj hr,rfl⟩
 obtain⟨n,hn⟩:=(dR (aA (iO (aA (fj (t:=t1) hy) (aA hn (aA (fj (t:=t2) ha) bW)))) (aA (aB (.bool b)) bW)):aX g _ _).done;exact⟨n,_,hn,_,_,_,b,rfl,rfl,h1,rfl⟩
@[go_sem]def Py{s:Nat}(hs:s<32):jH 32 1 (.mp m 0) (.v (.int .i64 (s:Int)))=some (.mp m s):=by
 unfold jH;dsimp only;rw[if_pos ⟨aBH,aBH⟩];simp[iE]
section
variable{G:Cells}
def auL{x:U}(hx:Gp x):cx G az 80 [x] W0:=by
 have CA:=hx.clean;obtain⟨N,ak,bv,f,e,b,xs,ys,rfl,hN,h1,h2,h3,h4,h5,h6,h7,h8⟩:=hx;refine cR (arw.go ?_);have hcl:(bT [ak,bv,f,e,.v (.bool b)]).cells=[ak,bv,f,e,.v (.bool b)]:=rfl;refine cM (λe' g=>e'=[(1,.mp 0 0),(2,.mp 1 0)]/\g=[.cells [ak,bv,f,e,.v (.bool b)] false,.cells [.af,.af,.af] false]) ?_ ?_;exact cV @hcl tt;rintro e' g ⟨rfl,hg⟩;have gl:g.length=2:=by rw[hg];rfl
 refine cM (λe' g=>e'=[(1,.mp 0 0),(2,.mp 1 0),(4,.mp 2 0)]/\∃sets dF rows sv au aG,iT N [ak,bv,f,e,.v (.bool b)] sets dF rows sv au aG g/\sets.length=1/\dF.length=1/\rows.length=0) ?_ ?_;have fP:=pn (n:=3) (g:=g++[.cells [.af,.af,.af] false]) (k:=g.length) (cs:=[.sl [.af] .exact,.af,.sl [.v (.bool b)] .exact]) (cs0:=[.af,.af,.af]) aBI rfl rfl rfl;have e1:(g++[aj [.af,.af,.af] false]).set g.length (.cells [.sl [.af] .exact,.af,.sl [.v (.bool b)] .exact] false)=g++[.cells [.sl [.af] .exact,.af,.sl [.v (.bool b)] .exact] false]:=aBI
 rw[e1,gl] at fP;refine gV (D3 (w:=.af) rfl) @gl @fP ?_;refine⟨trivial,[.af],[.v (.bool b)],[],_,_,_,⟨?_,?_,?_,ay rfl,ay rfl,ay ⟨rfl,rfl⟩,?_,?_,aBI⟩,rfl,rfl,rfl⟩;rw[hg];rfl;rw[hg];rfl;rw[hg];rfl;intro c hc;rw[cr.1 hc];exact⟨[],ay ⟨rfl,rfl⟩,aBI,aBI⟩;intro c hc;rw[cr.1 hc];exact⟨b,rfl⟩;rintro e' g1 ⟨rfl,sets,dF,rows,sv,au,aG,bh,hs1,aAE,At⟩;refine fh (λe' g=>e'=[(2,.mp 1 0),(4,.mp 2 0)]/\∃sets dF rows sv au aG,iT N [ak,bv,f,e,.v (.bool b)] sets dF rows sv au aG g) ?_ ?_;refine wy ?_;refine mF (n:=300) (λk e' g=>∃(i:Nat) (sets dF rows:List U) (sv au aG:U),k=300-i/\e'=[(1,.mp 0 0),(2,.mp 1 0),(4,.mp 2 0),(5,ag i)]/\iT N [ak,bv,f,e,.v (.bool b)] sets dF rows sv au aG g/\i<=sets.length/\1<=sets.length/\sets.length<=200/\dF.length=sets.length/\rows.length=i) ⟨0,sets,dF,rows,sv,au,aG,rfl,rfl,bh,aBH,aBH,aBH,aBH,aBH⟩ ?_;rintro k e' g ⟨i,sets,dF,rows,sv,au,aG,rfl,rfl,z,hi1,hi2,ao1,hal,hrl⟩;obtain⟨t0,tX⟩:=z.s.sl;have ir:bO sv=λg=>some (.v (.int .i64 (sets.length:Int)),g):=by funext g;rw[tX,nF,kN]
 have IN:∀g,bO sv g=some (.v (.int .i64 (sets.length:Int)),g):=λg=>by rw[ir]
 obtain⟨l0,l1,l2,l3⟩:=CW z.t
 rcases cE i sets.length with hlt|hge
 have d1:decide ((i:Int)<(sets.length:Int))=true:=aBK
 refine fh (λe' g'=>e'=[(1,.mp 0 0),(2,.mp 1 0),(4,.mp 2 0),(5,ag i)]/\g'=g) ?_ ?_;exact mG @ag.eq_1 @l0 @IN @d1 tt;rintro e' g' ⟨rfl,rfl⟩;refine fh (λe' g=>e'=[(1,.mp 0 0),(2,.mp 1 0),(4,.mp 2 0),(5,ag i)]/\∃(sets dF rows:List U) (sv au aG:U),iT N [ak,bv,f,e,.v (.bool b)] sets dF rows sv au aG g/\i+1<=sets.length/\sets.length<=200/\dF.length=sets.length/\rows.length=i+1) ?_ ?_;rw[xP];have z0:(dL 32 (ag 0)).all bn=true:=rfl;have ji:3<=g'.length:=by have:=(bE.1 z.t).1;omega
 refine fh (λe' g=>e'=[(1,.mp 0 0),(2,.mp 1 0),(4,.mp 2 0),(5,ag i),(6,.mp g'.length 0)]/\g=g'++[.cells (dL 32 (ag 0)) false]) ?_ ?_;have fP:=pn (n:=32) (g:=g'++[.cells (dL 32 (ag 0)) false]) (k:=g'.length) (cs:=dL 32 (ag 0)) (cs0:=dL 32 (ag 0)) aBI rfl rfl z0;have e1:(g'++[aj (dL 32 (ag 0)) false]).set g'.length (.cells (dL 32 (ag 0)) false)=g'++[.cells (dL 32 (ag 0)) false]:=aBI
 have f1:cm (dL 32 (ag 0)) []=some (dL 32 (ag 0)):=rfl;rw[e1] at fP;simp only[dL,ag] at fP f1;exact wx rP;rintro e' g2 ⟨rfl,h_⟩;have z2:iT N [ak,bv,f,e,.v (.bool b)] sets dF rows sv au aG g2:=by rw[h_];exact z.app
 have r2:g2[g'.length]?=some (.cells ((dL 32 (0:Int)).map ag) false):=by rw[h_];simp
 generalize g'.length=m6 at r2 ji⊢;refine fh (λe' g=>∃m7 outs,e'=[(1,.mp 0 0),(2,.mp 1 0),(4,.mp 2 0),(5,ag i),(6,.mp m6 0),(7,.mp m7 0)]/\iT N [ak,bv,f,e,.v (.bool b)] sets dF rows sv au aG g/\g[m6]?=some (.cells ((dL 32 (0:Int)).map ag) false)/\g[m7]?=some (.cells outs false)/\outs.length=32/\(∀c∈outs,uU N c)/\3<=m7/\m7≠m6) ?_ ?_;have la:=(gT z2.n).2.2.2.2.2;have zt:=z2.t;rw[tX] at zt;refine fG @ag.eq_1 @la (aZ (akS zt z2.sk aBH hlt hN h1 h2 h3 h4 h5 h6 h7) ?_);rintro _ g3 ⟨hE,cs,rfl,ED,aaG⟩;have apE:cs.all bn=true:=c_.2 λc hc=>(aaG c hc).one;have z3:iT N [ak,bv,f,e,.v (.bool b)] sets dF rows sv au aG g3:=z2.ext λj b q _=>hE j b q;have tS:=(bE.1 (hE _ _ r2)).1;have fP:=pn (n:=32) (g:=g3++[.cells (dL 32 .af) false]) (k:=g3.length) (cs:=cs) (cs0:=dL 32 .af) aBI rfl ED apE;have e1:(g3++[aj (dL 32 .af) false]).set g3.length (.cells cs false)=g3++[.cells cs false]:=aBI
 rw[e1] at fP;simp only[dL] at fP;refine cV @fP ?_;exact⟨_,cs,rfl,z3.app,aM (hE _ _ r2),aBI,ED,aaG,aBH,aBH⟩;rintro e' g3 ⟨m7,outs,rfl,z3,fX,iw,ol,os,Sc,aAU⟩;refine fh (λe' g=>e'=[(1,.mp 0 0),(2,.mp 1 0),(4,.mp 2 0),(5,ag i),(6,.mp m6 0)]/\∃(sets dF:List U) (sv aG:U) (l:List Int),iT N [ak,bv,f,e,.v (.bool b)] sets dF rows sv au aG g/\g[m6]?=some (.cells (l.map ag) false)/\l.length=32/\i<sets.length/\sets.length<=232/\dF.length=sets.length) ?_ ?_;refine wy ?_;refine cj (λs e' g=>e'=[(1,.mp 0 0),(2,.mp 1 0),(4,.mp 2 0),(5,ag i),(6,.mp m6 0),(7,.mp m7 0),(8,ag s)]/\∃(sets dF:List U) (sv aG:U) (l:List Int),iT N [ak,bv,f,e,.v (.bool b)] sets dF rows sv au aG g/\g[m6]?=some (.cells (l.map ag) false)/\l.length=32/\g[m7]?=some (.cells outs false)/\i<sets.length/\sets.length<=200+s/\dF.length=sets.length) 32 ⟨rfl,sets,dF,sv,aG,_,z3,fX,aBI,iw,hlt,aBH,hal⟩ ?_ ?_;rintro s e' g hs ⟨rfl,sets,dF,sv,aG,l,z,r,xm,o,hl1,fu,hal⟩;obtain⟨t0,tX⟩:=z.s.sl;have IN:∀g,bO sv g=some (.v (.int .i64 (sets.length:Int)),g):=λg=>by rw[tX,nF,kN]
 obtain⟨c,hc⟩:∃c,outs[s]?=some c:=⟨outs[s]' aBH,br _⟩;have hcs:=os c (bG hc);have lc:aq g false 1 (.mp m7 s)=some c:=by
  simp only[aq,o,dB];rw[if_neg aBI];exact hc
 have ajX:=Py (m:=m7) hs;have ajW:=Py (m:=m6) hs;have d2:decide ((s:Int)<32)=true:=aBK
 refine fh (λe' h=>e'=[(1,.mp 0 0),(2,.mp 1 0),(4,.mp 2 0),(5,ag i),(6,.mp m6 0),(7,.mp m7 0),(8,ag s)]/\h=g) ?_ ?_;exact fG @ag.eq_1 @d2 tt;rintro e' g' ⟨rfl,rfl⟩;refine fh (λe' g=>e'=[(1,.mp 0 0),(2,.mp 1 0),(4,.mp 2 0),(5,ag i),(6,.mp m6 0),(7,.mp m7 0),(8,ag s)]/\∃(sets dF:List U) (sv aG:U) (l:List Int),iT N [ak,bv,f,e,.v (.bool b)] sets dF rows sv au aG g/\g[m6]?=some (.cells (l.map ag) false)/\l.length=32/\g[m7]?=some (.cells outs false)/\i<sets.length/\sets.length<=200+(s+1)/\dF.length=sets.length) ?_ ?_;rw[xP];refine fh (λe' h=>e'=[(1,.mp 0 0),(2,.mp 1 0),(4,.mp 2 0),(5,ag i),(6,.mp m6 0),(7,.mp m7 0),(8,ag s),(9,c)]/\h=g') ?_ ?_;exact gV @ag.eq_1 @ajX @lc tt;rintro e' ri ⟨rfl,rfl⟩;refine fh (λe' h=>e'=[(1,.mp 0 0),(2,.mp 1 0),(4,.mp 2 0),(5,ag i),(6,.mp m6 0),(7,.mp m7 0),(8,ag s),(9,c),(10,.v (.int .i64 (-1)))]/\h=ri) ?_ ?_;exact wx tt;rintro e' g' ⟨rfl,rfl⟩;refine fh (λe' g=>∃to:Int,e'=[(1,.mp 0 0),(2,.mp 1 0),(4,.mp 2 0),(5,ag i),(6,.mp m6 0),(7,.mp m7 0),(8,ag s),(10,ag to)]/\∃(sets dF:List U) (sv aG:U),iT N [ak,bv,f,e,.v (.bool b)] sets dF rows sv au aG g/\g[m6]?=some (.cells (l.map ag) false)/\g[m7]?=some (.cells outs false)/\i<sets.length/\sets.length<=200+(s+1)/\dF.length=sets.length) ?_ ?_;obtain⟨bw,c1,c2,c3⟩:=hcs
 rcases x8 bw.length with hz|hz
 have d3:decide ((bw.length:Int)>0)=false:=decide_eq_false aBH;have al2:decide ((0:Int)<(bw.length:Int))=false:=decide_eq_false aBH;refine gV @c1.len @d3 @al2 ?_;exact⟨-1,rfl,sets,dF,sv,aG,z,r,o,hl1,aBH,hal⟩;have d3:decide ((bw.length:Int)>0)=true:=decide_eq_true aBH;have zt:=z.t;rw[tX] at zt;refine wx (aZ (amI zt z.sk aBH aBH (os c (bG hc))) ?_);rintro _ g3 ⟨rfl,n,rfl,mZ,hn2⟩;refine wy (bA (λq=>?_) λq=>?_);obtain⟨l0,l1,l2,l3⟩:=CW z.t;obtain⟨iM,g4,g5,e1,e2,z5,sG⟩:=z.push (os c (bG hc)) aBH;refine xQ @q @l0 @IN (D3 (os c (bG hc)).one) @e1 @e2 ?_;obtain⟨m0,m1,m2,m3⟩:=CW z5.t;obtain⟨n0,n1,n2,mz,gF,_⟩:=gT z5.n;obtain⟨c',ci,cs⟩:=c1.imp;obtain⟨el,bQ,cC⟩:=h8;have hel:=cC.len;refine lB @iE @m2 @mz @nM.eq_1 @oR.eq_1 @true_and @and_true (gf (ayK cs bQ (BU cs) (BU bQ) aBH aBH 1) (aP ci (aP (BU bQ) (aP (bM _) bS))) ?_);rintro r1 ⟨rl,q1,ah,aN⟩;obtain⟨GM,g6,g7,a1,a2,zf,pS⟩:=z5.avC (decide ((rl.length:Int)>0)) aBH;have ajV:cG g5 1 1 4 aG (.sl [.v (.bool (decide ((0:Int)<(rl.length:Int))))] .exact)=some (GM,g6):=a1;refine lB @m2 @mz ((vH q1).len) @a1 @ajV @a2 @qE ?_;exact⟨_,rfl,_,_,_,_,zf,pS.2 _ _ aBH (sG.2 _ _ aBH r),pS.2 _ _ aBH (sG.2 _ _ aBH o),aBK,aBK,by simp[hal]⟩;refine cV @q ?_;exact⟨n,rfl,sets,dF,sv,aG,z,r,o,hl1,aBH,hal⟩;rintro e' g3 ⟨to,rfl,sets,dF,sv,aG,z,r,o,hl1,fu,hal⟩;have aps:=(bE.1 r).1;have fP:aF g3 1 (.mp m6 s) (.v (.int .i64 to))=some (g3.set m6 (.cells ((l.set s to).map ag) false)):=by
  have cC:(bP (.int .i64 to)).cells=[.v (.int .i64 to)]:=rfl;simp only[aF,r,dJ,cC];rw[if_pos ⟨rfl,aBK,rfl⟩,Ji aBK,s0];rfl
 refine gV @ag.eq_1 @ajW @fP ?_;exact⟨trivial,sets,dF,sv,aG,_,z.set aBH r,aR aps,by simpa using xm,by rw[av aBH];exact o,hl1,fu,hal⟩;rintro e' g4 ⟨rfl,q⟩;refine cV @ag.eq_1 ?_;exact⟨trivial,q⟩;rintro e' g ⟨rfl,sets,dF,sv,aG,l,z,r,xm,o,hl1,fu,hal⟩;have d2:decide (((32:Nat):Int)<32)=false:=aBJ
 refine fG @ag.eq_1 @d2 ?_;exact⟨trivial,sets,dF,sv,aG,l,z,r,xm,hl1,fu,hal⟩;rintro e' g4 ⟨rfl,sets,dF,sv,aG,l,z,r,xm,hl1,fu,hal⟩;obtain⟨l0,l1,l2,l3⟩:=CW z.t;obtain⟨iJ,g5,g6,e1,e2,sV,CH⟩:=z.AW xm aBH;have ab:dA 32 [bT (l.map ag)]=some (.sl [.agg (l.map ag)] .exact):=by
  unfold dA;rw[if_pos ⟨Nk l xm,aBI⟩]
 obtain⟨t0,tX⟩:=sV.s.sl;have IN:∀g,bO sv g=some (.v (.int .i64 (sets.length:Int)),g):=λg=>by rw[tX,nF,kN]
 obtain⟨m0,m1,m2,m3⟩:=CW sV.t;refine fC (tD r (by simpa using xm)) (bA (λq=>?_) λq=>?_);have fP:=pn (n:=3) sV.r rfl (cs:=[.af,.af,.af]) rfl rfl;have hl1:=(bE.1 sV.r).1;have la:=tD (n:=3) (aR (a:=.cells [U.af,.af,.af] false) hl1) rfl;refine wx ?_;obtain⟨n,hn⟩:=(dR (aA (iO (aA cS (aA cS (aA cS bW)))) (aA (aB (.bool false)) bW)):aX (g6.set 1 (.cells [U.af,.af,.af] false)) _ _).done;exact⟨n,_,hn,_,_,_,false,rfl,rfl,rfl,rfl⟩;have q':sets.length<=200:=aBQ
 refine wx ?_;exact⟨trivial,sets,dF,_,sv,iJ,aG,sV,hl1,q',hal,by simp[hrl]⟩;rintro e' g3 ⟨rfl,sets,dF,rows,sv,au,aG,z,hl1,fu,hal,hrl⟩;refine wy ?_;exact⟨300-(i+1),aBH,i+1,sets,dF,rows,sv,au,aG,rfl,rfl,z,hl1,aBH,fu,hal,hrl⟩;have d1:decide ((i:Int)<(sets.length:Int))=false:=aBK
 refine mG @ag.eq_1 @l0 @IN @d1 ?_;exact⟨trivial,sets,dF,rows,sv,au,aG,z⟩;rintro e' g2 ⟨rfl,sets,dF,rows,sv,au,aG,z⟩
 have no:bn au=true:=by rcases z.w with⟨q,_⟩|⟨_,q,_⟩<;>rw[q]<;>rfl
 have fP:=pn (n:=3) z.r rfl (cs:=[sv,au,aG]) rfl (by simp[z.s.one,z.a.one,no]);have hl1:=(bE.1 z.r).1;have la:=tD (n:=3) (aR (a:=.cells [sv,au,aG] false) hl1) rfl;obtain⟨l0,l1,l2,l3⟩:=CW z.t;exact wy (ayo z true)
end
end
section
variable{n0:Nat}{v:U}{ps:List bJ}
def agl(h:uM n0 v ps)(hn:n0<=100000000)(hne:ps≠[]):sz ps ((ps.length-1:Nat):Int)<=1000000000:=by
 have hl:=h.len;obtain⟨x,hx⟩:=h.top.resolve_left hne;have hr:=Vb hne hx;have hs:=U_ h.ok.kids hx;rw[hr] at hs;simp only[eD,kX,wh,DL] at hs;omega
def WK(ps:List bJ)(r:U):Prop:=∃(t:Bool) (n:Int),r=.aK [.v (.bool t),.v (.int .i64 n)]/\0<=n/\n<=20/\(n=0->ps≠[]->cnt ps ((ps.length-1:Nat):Int)<=256)
def Hr{hp:List aa}{t:Bool}{n:Int}(h0:0<=n)(h1:n<=20)(h:n=0->ps≠[]->cnt ps ((ps.length-1:Nat):Int)<=256):∃k aQ,b9 hp k (.aK [.v (.bool t),.v (.int .i64 n)])=some aQ/\WK ps aQ:=by
 obtain⟨k,hk⟩:=(dR (aA (aB (.bool t)) (aA (aB (.int .i64 n)) bW)):aX hp _ _).done;exact⟨k,_,hk,t,n,rfl,h0,h1,h⟩
section
variable{G:Cells}{au mv a b c:U}{nodes marks:List (List U)}
def auQ{lv:U}{rows:List (List U)}(D:oA au mv nodes marks)(hS:dn (.agg [au,mv,a,b,c]))(h:uM n0 v ps)(hn:n0<=100000000)(hlv:bL lv (rows.map bT))(hlc:dn lv)(hlr:∀x∈rows,tf x)(mX:rows.length<=1000000000):
  cx G az 42 [.agg [au,mv,a,b,c],v,lv] (WK ps):=by
 refine cR (aq6.go ?_);have hpl:=h.len;have ln:=h.v.bO;rw[b_] at ln;have jO:∀hp,bO v hp=some (.v (.int .i64 (ps.length:Int)),hp):=λhp=>aCl
 have lm:=hlv.bO;rw[b_] at lm;have CQ:∀hp,bO lv hp=some (.v (.int .i64 (rows.length:Int)),hp):=λhp=>by rw[lm hp,kN]
 have S0:aq [aj [au,mv,a,b,c] false] true 5 (.mp 0 0)=some (.agg [au,mv,a,b,c]):=rfl;have H:∃X:List aa,X=[aj [au,mv,a,b,c] false]:=⟨_,rfl⟩;refine cM (λe g=>e=[(1,v),(2,lv),(3,.mp 0 0)]/\g=[aj [au,mv,a,b,c] false]) ?_ ?_;exact wx tt;rintro e g ⟨rfl,rfl⟩;refine cM (λe g=>e=[(1,v),(2,lv),(3,.mp 0 0),(8,.v (.bool false))]/\g=[aj [au,mv,a,b,c] false]) ?_ ?_;exact wx tt;rintro e g ⟨rfl,rfl⟩;refine cM (λe g=>e=[(1,v),(2,lv),(3,.mp 0 0),(8,.v (.bool false)),(9,.v (.bool false))]/\g=[aj [au,mv,a,b,c] false]) ?_ ?_;exact wx tt;rintro e g ⟨rfl,rfl⟩;refine fh (λe g=>∃t b':Bool,e=[(1,v),(2,lv),(8,.v (.bool t)),(9,.v (.bool b'))]/\g=[aj [au,mv,a,b,c] false]) ?_ ?_;refine wy ?_;refine cj (λi e h=>∃t b':Bool,e=[(1,v),(2,lv),(3,.mp 0 0),(8,.v (.bool t)),(9,.v (.bool b')),(10,ag i)]/\h=[aj [au,mv,a,b,c] false]) rows.length ⟨false,false,rfl,rfl⟩ ?_ ?_;rintro i e g hi ⟨t,b',rfl,rfl⟩;obtain⟨y,hy⟩:=cD hi;obtain⟨nm,iv,l,rfl,hiv,hic,aAT,hlb⟩:=hlr y (bG hy);have lf:bu 2 lv (.v (.int .i64 (i:Int)))=some (.fp [ai nm,iv] 0):=hlv.bK (x:=.agg [ai nm,iv]) aB9 rfl;have aqi:=vH hiv;refine lC ?_;refine b8 (λq=>?_) λq=>?_;exact Hr aBJ aBJ (λq=>absurd q aBJ);refine cj (λj e h=>∃t b':Bool,e=[(1,v),(2,lv),(3,.mp 0 0),(8,.v (.bool t)),(9,.v (.bool b')),(10,ag i),(11,ag j)]/\h=[aj [au,mv,a,b,c] false]) l.length ⟨t,b',rfl,rfl⟩ ?_ ?_;rintro j e g hj ⟨t,b',rfl,rfl⟩;obtain⟨x,hx⟩:=cD hj;have ix:=aqi.bK hx;cases t with
 |true=>
  cases b' with
  |true=>
   refine mG @ag.eq_1 @lf @ix @S0 ?_;exact⟨_,_,rfl,trivial⟩
  |false=>
   refine lC ?_;refine aE.cY (SA D hS x) ?_;rintro r ⟨z,rfl⟩;refine wx ?_;exact⟨_,_,rfl,trivial⟩
 |false=>
  refine lC ?_;refine aE.cY (SA D hS x) ?_;rintro r ⟨z,rfl⟩;cases b' with
  |true=>
   refine wx ?_;exact⟨_,_,rfl,trivial⟩
  |false=>
   refine wy ?_;refine aE.cY (SA D hS x) ?_;rintro r ⟨z2,rfl⟩;refine wx ?_;exact⟨_,_,rfl,trivial⟩
 rintro e g ⟨t,b',rfl,rfl⟩;refine fG @ag.eq_1 @lf ?_;exact⟨_,_,rfl,trivial⟩;rintro e g ⟨t,b',rfl,rfl⟩;refine fG @ag.eq_1 @CQ ?_;exact⟨t,b',rfl,trivial⟩;rintro e g ⟨t,b',rfl,rfl⟩;refine fh (λe g=>e=[(1,v),(2,lv),(8,.v (.bool t))]/\g=[aj [au,mv,a,b,c] false]) ?_ ?_;cases t with
 |false=>
  exact wx tt
 |true=>
  cases b' with
  |false=>
   exact wx tt
  |true=>
   refine wy ?_;exact Hr aBJ aBJ (λq=>absurd q aBJ)
 rintro e g ⟨rfl,rfl⟩;refine fh (λe g=>(e=[(1,v),(2,lv),(8,.v (.bool t))]/\g=[aj [au,mv,a,b,c] false])/\(ps≠[]->cnt ps ((ps.length-1:Nat):Int)<=256)) ?_ ?_
 rcases x8 ps.length with hz|hz
 have d:decide ((ps.length:Int)>0)=false:=decide_eq_false aBH;have d':decide ((0:Int)<(ps.length:Int))=false:=decide_eq_false aBH;refine gV @jO @d @d' ?_;exact⟨⟨trivial,trivial⟩,λhne=>absurd (lE hz) hne⟩;have d:decide ((ps.length:Int)>0)=true:=decide_eq_true aBH;have hne:ps≠[]:=by rintro rfl;simp at hz
 refine wy (dx (at5 h _ (ps.length-1) (Bw _) aBH (agl h hn hne)) (aP (yx h) (aP (bM _) bS)) ?_);refine wy ?_;refine b8 (λq=>?_) λq=>?_;exact Hr aBJ aBJ (λq=>absurd q aBJ);refine⟨⟨trivial,trivial⟩,λ_=>?_⟩;simp at q;omega;rintro e g ⟨⟨rfl,rfl⟩,hc⟩;have x0:∀a b,nY 0 (.aK [a,b])=some a:=λ_ _=>rfl;refine wy ?_;refine gf (au3 h aBH hlv hlc hlr mX λhne=>⟨hc hne,agl h hn hne⟩) (aP (yx h) (aP hlc bS)) ?_;intro r hr;refine wy (gf (auL hr) (aP hr.clean bS) ?_);rintro r2 ⟨y1,eg,jU,t2,rfl,o1,o2,iw⟩;have st:=pn (n:=3) (g:=[aj [au,mv,a,b,c] false,aj [.af,.af,.af] false]) (k:=1) (cs:=[y1,eg,jU]) (cs0:=[.af,.af,.af]) rfl rfl rfl (by simp only[lD,oy,o1,o2,iw];rfl);refine wy ?_;cases t2 with
 |false=>
  refine wy ?_;exact Hr aBJ aBJ (λq=>absurd q aBJ)
 |true=>
  refine wy ?_;exact Hr aBJ aBJ λ_=>hc
end
end
section
variable{mv au v w x y:U}{g h hp:List aa}{m n:Nat}{xs ys:List U}{e:TypeId}{marks nodes rows:List (List U)}
def wz(x:U):Prop:=∃(n0:Nat) (ps:List bJ),uM n0 x ps/\n0<=100000000/\(ps≠[]->cnt ps ((ps.length-1:Nat):Int)<=256)
def wz.one(h:wz x):bn x=true:=by
 obtain⟨n0,ps,h,_⟩:=h
 rcases h.v with rfl|⟨rfl,_⟩<;>rfl
def wz.fz(h:wz x)(hp:List aa):aX hp x x:=by
 obtain⟨n0,ps,h,_⟩:=h
 rcases h.v with rfl|⟨rfl,_⟩
 have fl:dD hp (ps.map ox) (ps.map ox):=gh λp apI=>by
  have:=Ra hp p;rw[show p.bw=p by
   have:=h.no p apI;cases p;simp only[bJ.bw] at*;simp[this]] at this
  exact this
 exact fj fl;exact cS
def wz.clean(h:wz x):dn x:=by
 obtain⟨n0,ps,h,_⟩:=h;exact yx h
structure Kt(S:U):Prop where
 ex:∃(au mv pv bC lv:U) (nodes marks:List (List U)) (parts texts:List U) (jm:List (List U)),S=.agg [au,mv,pv,bC,lv]/\oA au mv nodes marks/\bL pv parts/\parts.length=nodes.length/\(∀x∈parts,wz x)/\bL bC texts/\texts.length=nodes.length/\(∀x∈texts,∃b:Bool,x=.v (.bool b))/\bL lv (jm.map bT)/\(∀x∈jm,tf x)/\jm.length<=10000000000
def KC(r:U):Prop:=∃(a b c d e:U) (n:Int),r=.aK [.agg [a,b,c,d,e],.v (.int .i64 n)]/\[a,b,c,d,e].all bn=true/\(n=0->Kt (.agg [a,b,c,d,e]))/\(n≠0->[a,b,c,d,e]=[.af,.af,.af,.af,.af])
def axP{n:Int}(hn:n≠0):∃k aQ,b9 hp k (.aK [.agg [.af,.af,.af,.af,.af],.v (.int .i64 n)])=some aQ/\KC aQ:=by
 obtain⟨k,hk⟩:=(dR (aA (iO (aA cS (aA cS (aA cS (aA cS (aA cS bW)))))) (aA (aB (.int .i64 n)) bW)):aX hp _ _).done;exact⟨k,_,hk,_,_,_,_,_,n,rfl,rfl,λq=>absurd q hn,λ_=>rfl⟩
def Xx(hA:bX h v xs n e)(hk:∀(j:Nat) b,h[j]?=some b->(∀ys,v≠.sl ys (.tok j))->g[j]?=some b):∀(j:Nat) b,h[j]?=some b->(∀c,b≠.tok c n e)->g[j]?=some b:=λj b q hb=>hk j b q λys z=>by
 rcases hA with⟨q1,_⟩|⟨id,q1,ah⟩
 rw[q1] at z;cases z;rw[q1] at z;cases z;rw[ah] at q;cases q;exact hb _ rfl
def Xy{e2:TypeId}(hA:bX h w ys m e2)(kp:∀(j:Nat) b,h[j]?=some b->(∀c,b≠.tok c n e)->g[j]?=some b)(hne:(m,e2)≠(n,e)):bX g w ys m e2:=by
 rcases hA with q|⟨id,q1,ah⟩
 exact ay q;refine ax ⟨id,q1,kp _ _ ah λc z=>?_⟩;cases z;exact hne rfl
def akz{aY:Nat}(hA:bX hp v xs n e)(iI:bL y ys)(hx:bV n xs=true)(hy:bV n ys=true)(hn:0<n)(hb:0<aY)(hfit:(xs.length+ys.length)*aY<=140737488355328):
  ∃v' hp',cG hp n aY e v y=some (v',hp')/\bX hp' v' (xs++ys) n e/\∀(j:Nat) b,hp[j]?=some b->(∀xs,v≠.sl xs (.tok j))->hp'[j]?=some b:=by
 by_cases h0:ys=[];subst h0;refine⟨v,hp,?_,by rw[e4];exact hA,λj b q _=>q⟩
 have hc:contents y=some []:=by rcases iI with rfl|⟨rfl,_⟩<;>rfl
 rcases hA with⟨rfl,_⟩|⟨id,rfl,_⟩<;>simp[cG,e9,hc]
 rcases iI with rfl|⟨_,z⟩
 exact XA hA hx hy h0 hn hb hfit;exact absurd z h0
structure o_(au mv pv bC lv:U)(parts texts:List U)(jm:List (List U))(h:List aa):Prop where
 r:h[0]?=some (.cells [.af,.af,.af,.af,.af] false)
 d:h[1]?=some (.cells [au,mv] false)
 b:h[2]?=some (.cells [au,mv,pv,bC,lv] false)
 p:bX h pv parts 1 118
 t:bX h bC texts 1 4
 l:bX h lv (jm.map bT) 2 181
 pk:∀x∈parts,wz x
 tk:∀x∈texts,∃b:Bool,x=.v (.bool b)
 lk:∀x∈jm,tf x
section
variable{au mv pv bC lv:U}{parts texts:List U}{jm:List (List U)}{h:List aa}
def KO(hA:bX h v xs n e):bn v=true:=by
 rcases hA with⟨rfl,_⟩|⟨_,rfl,_⟩<;>rfl
def UL{cs cs':List U}(hA:bX g w ys m e)(hb:g[2]?=some (.cells cs false)):bX (g.set 2 (.cells cs' false)) w ys m e:=by
 rcases hA with q|⟨id,q1,ah⟩
 exact ay q;exact ax ⟨id,q1,by rw[av (by rintro rfl;rw[hb] at ah;cases ah)];exact ah⟩
def o_.avG(s:o_ au mv pv bC lv parts texts jm h)(hx:wz x)(hl:parts.length<=1000):∃v' g g',cG h 1 24 118 pv (.sl [x] .exact)=some (v',g)/\aF g 1 (.mp 2 2) v'=some g'/\o_ au mv v' bC lv (parts++[x]) texts jm g':=by
 obtain⟨v',g,e1,e2,_,hA,hb,q⟩:=Hv (x:=x) (aY:=24) (o:=2) s.p s.b aBI (xH λx hx=>(s.pk x hx).one) (xH λy hy=>by rw[cr.1 hy];exact hx.one) aBJ aBJ aBH;exact⟨v',g,_,e1,e2,q.cells s.r aBJ,q.cells s.d aBJ,hb,hA,q.zM s.b s.t aBJ,q.zM s.b s.l aBJ,λy hy=>(dZ.1 hy).elim (s.pk y) λq=>aEt,s.tk,s.lk⟩
def o_.avH(s:o_ au mv pv bC lv parts texts jm h)(b:Bool)(hl:texts.length<=1000):∃v' g g',cG h 1 1 4 bC (.sl [.v (.bool b)] .exact)=some (v',g)/\aF g 1 (.mp 2 3) v'=some g'/\o_ au mv pv v' lv parts (texts++[.v (.bool b)]) jm g':=by
 obtain⟨v',g,e1,e2,_,hA,hb,q⟩:=Hv (x:=.v (.bool b)) (aY:=1) (o:=3) s.t s.b aBI (xH λx hx=>by obtain⟨b,rfl⟩:=s.tk x hx;rfl) rfl aBJ aBJ aBH;exact⟨v',g,_,e1,e2,q.cells s.r aBJ,q.cells s.d aBJ,hb,q.zM s.b s.p aBJ,hA,q.zM s.b s.l aBJ,s.pk,λy hy=>(dZ.1 hy).elim (s.tk y) λq=>⟨b,cr.1 q⟩,s.lk⟩
@[go_sem]def TQ(h:∀x∈rows,tf x):bV 2 (rows.map bT)=true:=by
 rw[bV,c_];intro y hy;obtain⟨x,hx,rfl⟩:=cO.1 hy;obtain⟨nm,iv,l,rfl,hiv,_⟩:=h x hx;have:bn iv=true:=(vH hiv).one;simp only[gm,dm,fQ,lD,oy,this];rfl
def o_.Jg(s:o_ au mv pv bC lv parts texts jm h)(iI:bL y (rows.map bT))(hr:∀x∈rows,tf x)(hl:jm.length+rows.length<=100000000000):∃v' g g',cG h 2 40 181 lv y=some (v',g)/\aF g 1 (.mp 2 4) v'=some g'/\o_ au mv pv bC v' parts texts (jm++rows) g':=by
 obtain⟨v',g,e1,hA,hk⟩:=akz (aY:=40) s.l iI (TQ s.lk) (TQ hr) aBJ aBJ (by simp only[b_];omega);rw[<-eX] at hA;have kp:=Xx s.l hk;have b1:=kp _ _ s.b aBI;have st:=(og b1 (KO hA)).2.2.2.2;refine⟨v',g,_,e1,st,?_,?_,aR (gl b1),UL (Xy s.p kp aBJ) b1,UL (Xy s.t kp aBJ) b1,UL hA b1,s.pk,s.tk,λx hx=>?_⟩;rw[av aBJ];exact kp _ _ s.r aBI;rw[av aBJ];exact kp _ _ s.d aBI
 rcases dZ.1 hx with q|q
 exact s.lk x q;exact hr x q
def o_.imp(s:o_ au mv pv bC lv parts texts jm h)(hd:dn au)(he:dn mv):∃a b c,lI (.agg [au,mv,pv,bC,lv]) (.agg [au,mv,a,b,c])/\dn (.agg [au,mv,a,b,c]):=by
 have one:∀{v:U} {xs:List U} {n:Nat} {e:TypeId},bX h v xs n e->(∀x∈xs,∀c∈x.cells,dn c)->∃v',lI v v'/\dn v':=λ{v xs n e} hA hc=>by
  rcases hA with⟨rfl,_⟩|⟨id,rfl,_⟩
  exact⟨.af,mg,mg⟩;exact⟨.sl xs .no,jZ hc,jZ hc⟩
 obtain⟨a,a1,a2⟩:=one s.p λx hx c hc=>by
  rw[n5 (s.pk x hx).one] at hc;rw[cr.1 hc];exact(s.pk x hx).clean
 obtain⟨b,b1,b2⟩:=one s.t λx hx c hc=>by
  obtain⟨t,rfl⟩:=s.tk x hx;rw[cr.1 (show c∈[bP (.bool t)] from hc)];exact bM _
 obtain⟨c,c1,c2⟩:=one s.l λx hx c hc=>by
  obtain⟨y,hy,rfl⟩:=cO.1 hx;obtain⟨nm,iv,l,rfl,hiv,hic,_⟩:=s.lk y hy;have gr:c∈[ai nm,iv]:=hc;simp only[ek,oz,or_false] at gr
  rcases gr with rfl|rfl
  exact bM _;exact hic
 refine⟨a,b,c,abE rfl λi x y hx hy=>?_,Eg λx hx=>?_⟩
 match i with
 |0=>cases hx;cases hy;exact hd
 |1=>cases hx;cases hy;exact he
 |2=>cases hx;cases hy;exact a1
 |3=>cases hx;cases hy;exact b1
 |4=>cases hx;cases hy;exact c1
 |i+5=>simp at hx
 simp only[ek,oz,or_false] at hx
 rcases hx with rfl|rfl|rfl|rfl|rfl
 exact hd;exact he;exact a2;exact b2;exact c2
def o_.fin(s:o_ au mv pv bC lv parts texts jm h)(D:oA au mv nodes marks)(h1:parts.length=nodes.length)(h2:texts.length=nodes.length)(h3:jm.length<=10000000000)(g:List aa)(hn:aX g au au)(hm:aX g mv mv):∃k aQ,b9 g k (.aK [.agg [au,mv,pv,bC,lv],.v (.int .i64 0)])=some aQ/\KC aQ:=by
 have one:∀{v:U} {xs:List U} {n:Nat} {e:TypeId},bX h v xs n e->dD g xs xs->∃v',aX g v v'/\bL v' xs:=λ{v xs n e} hA hc=>by
  rcases hA with⟨rfl,q⟩|⟨id,rfl,_⟩
  exact⟨.af,cS,ax ⟨rfl,q⟩⟩;exact⟨.sl xs .no,fj hc,ay rfl⟩
 obtain⟨a,a1,a2⟩:=one s.p (dD.each λx hx=>(s.pk x hx).fz g);obtain⟨b,b1,b2⟩:=one s.t (dD.each λx hx=>by obtain⟨t,rfl⟩:=s.tk x hx;exact aB _);obtain⟨c,c1,c2⟩:=one s.l (gh λx hx=>by
  obtain⟨nm,iv,l,rfl,hiv,_⟩:=s.lk x hx;refine iO (aA (aB _) (aA ?_ bW))
  rcases hiv with rfl|⟨rfl,_⟩
  exact fj (gh λa _=>aB _);exact cS)
 obtain⟨k,hk⟩:=(dR (aA (iO (aA hn (aA hm (aA a1 (aA b1 (aA c1 bW)))))) (aA (aB (.int .i64 0)) bW)):aX g _ _).done
 have o:∀{v:U} {xs:List U},bL v xs->bn v=true:=λ{v xs} q=>aCs
 exact⟨k,_,hk,au,mv,a,b,c,0,rfl,by simp only[lD,oy,o D.n,o D.m,o a2,o b2,o c2];rfl,λ_=>⟨au,mv,a,b,c,nodes,marks,parts,texts,jm,rfl,D,a2,h1,s.pk,b2,h2,s.tk,c2,s.lk,h3⟩,λq=>absurd rfl q⟩
end
def alu{x:List U}(h:r3 x):∀c∈x,dn c:=by
 obtain⟨nm,bp,i,p,bf,a,al,mv,ex,rfl,hg,hm,_⟩:=h;intro c hc;obtain⟨l,g1,_⟩:=hg;obtain⟨l2,m1,_⟩:=hm;simp only[cU,ek,oz,or_false] at hc
 rcases hc with rfl|rfl|rfl|rfl|rfl|rfl|rfl|rfl|rfl
 exact bM _;exact n6 g1;exact bM _;exact bM _;exact bM _;exact bM _;exact bM _;exact n6 m1;exact bM _
def alr{x:List U}(h:lJ x):∀c∈x,dn c:=by
 obtain⟨nm,v,al,bv,rfl,l,g1,_⟩:=h;intro c hc;simp only[c7,ek,oz,or_false] at hc
 rcases hc with rfl|rfl|rfl|rfl
 exact bM _;exact bM _;exact bM _;exact n6 g1
def oA.aln(D:oA au mv nodes marks):dn au/\dn mv:=by
 refine⟨Eh D.n λx hx c hc=>?_,Eh D.m λx hx c hc=>?_⟩;obtain⟨y,hy,rfl⟩:=cO.1 hx;exact alu (D.kC y hy) c hc;obtain⟨y,hy,rfl⟩:=cO.1 hx;exact alr (D.eM y hy) c hc
def oA.Z0(D:oA au mv nodes marks)(g:List aa):aX g au au/\aX g mv mv:=by
 constructor
 rcases D.n with h|⟨h,_⟩
 rw[h];exact fj (gh λx hx=>(D.kC x hx).fz g);rw[h];exact cS
 rcases D.m with h|⟨h,_⟩
 rw[h];exact fj (gh λx hx=>(D.eM x hx).Z1 g);rw[h];exact cS
section
variable{G:Cells}
def auM(s:List UInt8)(hs:s.length<=1000000):cx G az 21 [ai s] KC:=by
 refine cR (asy.go ?_);have bad:∀{g:List aa} {n:Int},g[0]?=some (.cells [.af,.af,.af,.af,.af] false)->n≠0->aF g 5 (.mp 0 0) (.agg [.af,.af,.af,.af,.af])=some (g.set 0 (.cells [.af,.af,.af,.af,.af] false))/\aq (g.set 0 (.cells [.af,.af,.af,.af,.af] false)) true 5 (.mp 0 0)=some (.agg [.af,.af,.af,.af,.af])/\∃k aQ,b9 (g.set 0 (.cells [.af,.af,.af,.af,.af] false)) k (.aK [.agg [.af,.af,.af,.af,.af],.v (.int .i64 n)])=some aQ/\KC aQ:=λ{g n} h hn=>
  ⟨IW h rfl,(gT (aR (gl h))).2.2.2.2.2,axP hn⟩
 refine cM (λe g=>e=[(0,ai s),(2,.mp 0 0)]/\g=[.cells [.af,.af,.af,.af,.af] false]) ?_ ?_;exact wx tt;rintro e g ⟨rfl,hg⟩;refine cM (λe g=>∃au mv nodes marks,∃wU:Int,e=[(2,.mp 0 0),(4,.mp 1 0),(6,.v (.int .i64 wU))]/\g=[.cells [.af,.af,.af,.af,.af] false,.cells [au,mv] false]/\oA au mv nodes marks) ?_ ?_;refine wy ?_;refine aE.cY (avn s hs) ?_;rintro _ ⟨au,mv,nodes,marks,ND,wU,rfl,D⟩
 have o:∀{v:U} {xs:List U},bL v xs->bn v=true:=λ{v xs} q=>aCs
 have st:=FU (X:=[.cells [.af,.af,.af,.af,.af] false,.cells [.af,.af] false]) (k:=1) (a:=.af) (b:=.af) (c:=au) (d:=mv) rfl (o D.n) (o D.m);refine wy ?_;exact⟨au,mv,nodes,marks,wU,rfl,rfl,D⟩;rintro e g1 ⟨au,mv,nodes,marks,wU,rfl,rfl,D⟩;have vi:=D.nl;obtain⟨YP,YQ⟩:=D.aln;refine fh (λe g=>e=[(2,.mp 0 0),(4,.mp 1 0)]/\g=[.cells [.af,.af,.af,.af,.af] false,.cells [au,mv] false]) ?_ ?_;refine wy (bA (λq=>?_) λq=>?_);have q':wU≠0:=aBN
 obtain⟨b1,b2,b3⟩:=bad (g:=[.cells [.af,.af,.af,.af,.af] false,.cells [au,mv] false]) (n:=wU) rfl q';exact wy b3;exact wx tt;rintro e g2 ⟨rfl,rfl⟩;refine cM (λe g=>e=[(2,.mp 0 0),(4,.mp 1 0),(7,.mp 2 0)]/\o_ au mv .af .af .af [] [] [] g) ?_ ?_
 have o:∀{v:U} {xs:List U},bL v xs->bn v=true:=λ{v xs} q=>aCs
 have f1:cm [.af,.af,.af,.af,.af] [(0,2,.agg [au,mv])]=some [au,mv,.af,.af,.af]:=rfl;have st:=IW (h:=[.cells [.af,.af,.af,.af,.af] false,.cells [au,mv] false,.cells [.af,.af,.af,.af,.af] false]) (k:=2) (a':=au) (b':=mv) (c':=.af) (d':=.af) (e':=.af) rfl (by simp only[lD,oy,o D.n,o D.m];rfl);refine wx ?_;exact⟨trivial,rfl,rfl,rfl,ay ⟨rfl,rfl⟩,ay ⟨rfl,rfl⟩,ay ⟨rfl,rfl⟩,aBI,aBI,aBI⟩;rintro e g3 ⟨rfl,c8⟩;obtain⟨a3,b3,c3,i3,aqR⟩:=c8.imp YP YQ;refine cM (λe g=>∃n:Int,e=[(2,.mp 0 0),(4,.mp 1 0),(6,.v (.int .i64 n)),(7,.mp 2 0)]/\g=g3) ?_ ?_;refine fC ((gT c8.b).2.2.2.2.2) ?_;refine aE.cY (auE D aqR) ?_;rintro r ⟨n,rfl,_,_⟩;refine wx ?_;exact⟨n,rfl,trivial⟩;rintro e g4 ⟨n,rfl,rfl⟩;refine fh (λe g=>e=[(2,.mp 0 0),(4,.mp 1 0),(7,.mp 2 0)]/\g=g4) ?_ ?_;refine wy (bA (λq=>?_) λq=>?_);have q':n≠0:=aBN
 obtain⟨b1,b2,b3⟩:=bad c8.r q';exact gV @q @b1 @b2 b3;exact cV @q tt;rintro e g5 ⟨rfl,rfl⟩;have ln:=D.n.bO;rw[b_] at ln;have jO:∀hp,bO au hp=some (.v (.int .i64 (nodes.length:Int)),hp):=λhp=>aCl
 refine fh (λe g=>e=[(2,.mp 0 0),(7,.mp 2 0)]/\∃pv bC lv parts texts jm,o_ au mv pv bC lv parts texts jm g/\parts.length=nodes.length/\texts.length=nodes.length/\jm.length<=nodes.length*200000000) ?_ ?_;refine wy ?_;refine cj (λi e g=>e=[(2,.mp 0 0),(4,.mp 1 0),(7,.mp 2 0),(8,ag i)]/\∃pv bC lv parts texts jm,o_ au mv pv bC lv parts texts jm g/\parts.length=i/\texts.length=i/\jm.length<=i*200000000) nodes.length ⟨rfl,_,_,_,_,_,_,c8,rfl,rfl,ic _⟩ ?_ ?_;rintro i e g hi ⟨rfl,pv,bC,lv,parts,texts,jm,s,h1,h2,h3⟩;have eG:aq g false 1 (.mp 1 0)=some au:=by simp only[aq,s.d];rfl
 obtain⟨y,hy⟩:=cD hi;have j4:=D.kC y (bG hy);have lf:bu 9 au (.v (.int .i64 (i:Int)))=some (.fp y 0):=D.n.bK (x:=.agg y) aB9 aEB;obtain⟨nm,bp,ib,pb,bf,a2,al,jP,ex,rfl,_,_,hex⟩:=j4;have CN:∀h,aq h false 1 (.fp (cU nm bp ib pb bf a2 al jP ex) 8)=some (ai ex):=λh=>rfl;have w1:b7.wrap ((i:Int)+1)=((i+1:Nat):Int):=jA aBH;obtain⟨a4,b4,c4,i4,abR⟩:=s.imp YP YQ;have la:=(gT s.b).2.2.2.2.2;refine wy ?_;refine aE.cY (afZ ex aBH) ?_;rintro _ ⟨v,ps,ND,wU,rfl,hR⟩;have hpl:=hR.len;refine wy (gf (auo D abR hR aBH) (aP i4 (aP (yx hR) bS)) ?_);rintro lw ⟨rows,At,hr2,abl⟩;have hlc:dn lw:=Eh At λx hx c hc=>by
  obtain⟨y,hy,rfl⟩:=cO.1 hx;obtain⟨nm,iv,l,rfl,hiv,hic,_⟩:=hr2 y hy;have gr:c∈[ai nm,iv]:=hc;simp only[ek,oz,or_false] at gr
  rcases gr with rfl|rfl
  exact bM _;exact hic
 refine wy (gf (auQ D abR hR hex At hlc hr2 aBH) (aP i4 (aP (yx hR) (aP hlc bS))) ?_);rintro _ ⟨t,n,rfl,_,_,hc⟩;refine ni (bA (λq=>?_) λq=>?_);have q':n≠0:=aBN
 obtain⟨b1,b2,b3⟩:=bad s.r q';exact gV @q @b1 @b2 b3;have q':n=0:=aBN
 have hP:wz v:=⟨_,ps,hR,hex,hc q'⟩;obtain⟨NC,k1,k2,e1,e2,s1⟩:=s.avG hP aBH;obtain⟨p6,eF,gZ,bQ,cC,s2⟩:=s1.avH t aBH;obtain⟨aBh,sG,CH,iW,sn,c8⟩:=s2.Jg At hr2 aBH;obtain⟨_,_,m2,_⟩:=gT s.b;obtain⟨_,_,_,m3,_⟩:=gT s1.b;obtain⟨_,_,_,_,m4,_⟩:=gT s2.b;refine p9 (dV @q @m2 (D3 hP.one) @e1) @e2 @m3 @bQ @cC @m4 @iW @sn @w1 ?_;exact⟨rfl,_,_,_,_,_,_,c8,aC_,by simp[h2],aC0⟩;rintro e g ⟨rfl,pv,bC,lv,parts,texts,jm,s,h1,h2,h3⟩;have eG:aq g false 1 (.mp 1 0)=some au:=by simp only[aq,s.d];rfl
 refine gV @ag.eq_1 @eG @jO ?_;exact⟨trivial,pv,bC,lv,parts,texts,jm,s,h1,h2,h3⟩;rintro e g6 ⟨rfl,pv,bC,lv,parts,texts,jm,ke,h1,h2,h3⟩
 have o:∀{v:U} {xs:List U},bL v xs->bn v=true:=λ{v xs} q=>aCs
 have st:=IW (a':=au) (b':=mv) (c':=pv) (d':=bC) (e':=lv) ke.r (by simp only[lD,oy,o D.n,o D.m,KO ke.p,KO ke.t,KO ke.l];rfl);have la:=(gT (aR (a:=.cells [au,mv,pv,bC,lv] false) (gl ke.r))).2.2.2.2.2;refine kg ((gT ke.b).2.2.2.2.2) @st ?_;obtain⟨bh,z2⟩:=D.Z0 (g6.set 0 (.cells [au,mv,pv,bC,lv] false));exact ke.fin D h1 h2 aBH _ bh z2
end
end
section
variable{ms:List Int}
section
variable{G:Cells}{S au mv:U}{rows marks:List (List U)}
def CV(marks:List (List U))(t:Int):Option (List U):=if 0<=t then marks[t.toNat]? else none
def M3(marks:List (List U))(t:Int):CV marks t=none\/∃(i:Nat) (x:List U),t=(i:Int)/\marks[i]?=some x/\CV marks t=some x:=by
 cases h:CV marks t with
 |none=>exact ay rfl
 |some x=>
  right;unfold CV at h;split at h;exact⟨t.toNat,x,aBH,h,rfl⟩;cases h
def MZ(s:jF S au mv rows marks){t:Int}(h:CV marks t=none):ck G az 209 [S,.v (.int .i64 t)] (.v (.pointer none)):=by
 rw[s.eq];refine ef (SJ.go ?_);have ln:=s.m.bO;rw[b_] at ln;refine wy ?_;refine bA (λq=>?_) λq=>?_;refine wy ?_;exact(aB _).done;refine wy ?_;refine bA (λah=>?_) λah=>?_;refine wy ?_;exact(aB _).done;exfalso;unfold CV at h;have q1:¬t<0:=aBN
 rw[if_pos aBH,aje] at h;simp at ah;omega
def M0(s:jF S au mv rows marks){i:Nat}{x:List U}(hx:marks[i]?=some x):ck G az 209 [S,.v (.int .i64 (i:Int))] (.fp x 0):=by
 rw[s.eq];refine ef (SJ.go ?_);have hi:=(bE.1 hx).1;have ln:=s.m.bO;rw[b_] at ln;have hr:=s.eM x (bG hx);have bK:bu 4 mv (.v (.int .i64 (i:Int)))=some (.fp x 0):=s.m.bK (x:=.agg x) aBU hr.ok.1;have d1:decide ((i:Int)<0)=false:=decide_eq_false aBH;refine wy ?_;obtain⟨nm,n,al,bv,rfl,l,g1,g2⟩:=hr;have hb:aX [] bv bv:=by
  rcases g1 with rfl|⟨rfl,_⟩
  exact fj (gh λa _=>aB _);exact cS
 exact(aX.fp (aA (aB _) (aA (aB _) (aA (aB _) (aA hb bW))))).done
def auh(s:jF S au mv rows marks):ck G az 193 [S] (.v (.int .i64 (marks.length:Int))):=by
 rw[s.eq];refine ef (acY.go ?_);have ln:=s.m.bO;rw[b_] at ln;refine wy ?_;exact(aB _).done
def Vu(marks:List (List U))(t:Int):Int:=((CV marks t).map (abP 1)).getD 0
def auk(s:jF S au mv rows marks)(t:Int):ck G az 194 [S,.v (.int .i64 t)] (.v (.int .i64 (Vu marks t))):=by
 have hc:=s.clean;refine ef (acZ.go ?_);refine wy ?_
 rcases M3 marks t with h|⟨i,x,rfl,hx,hr⟩
 refine dx (MZ s h) (aP hc (aP (bM _) bS)) ?_;unfold Vu;rw[h];refine wy ?_;exact(aB _).done;refine dx (M0 s hx) (aP hc (aP (bM _) bS)) ?_;unfold Vu;rw[hr];obtain⟨nm,n,al,bv,rfl,_⟩:=s.eM x (bG hx);have l1:∀h,aq h false 1 (.fp (c7 nm n al bv) 1)=some (.v (.int .i64 n)):=λh=>rfl;refine wy ?_;exact(aB _).done
def akN(s:jF S au mv rows marks)(a b:Int):cx G az 149 [S,.v (.int .i64 a),.v (.int .i64 b)] gW:=by
 have hc:=s.clean;refine cR (ack.go ?_);refine wy ?_
 rcases M3 marks a with h|⟨i,x,rfl,hx,hr⟩
 refine dx (MZ s h) (aP hc (aP (bM _) bS)) ?_;refine wy ?_
 rcases M3 marks b with h2|⟨i2,x2,rfl,hx2,hr2⟩
 refine dx (MZ s h2) (aP hc (aP (bM _) bS)) ?_;refine wy ?_;exact gj _;refine dx (M0 s hx2) (aP hc (aP (bM _) bS)) ?_;refine wy ?_;exact gj _;refine dx (M0 s hx) (aP hc (aP (bM _) bS)) ?_;obtain⟨nm,n,al,bv,rfl,l,g1,g2⟩:=s.eM x (bG hx);have l2:∀h,aq h false 1 (.fp (c7 nm n al bv) 2)=some (.v (.bool al)):=λh=>rfl;have l3:∀h,aq h false 1 (.fp (c7 nm n al bv) 3)=some bv:=λh=>rfl;refine wy ?_
 rcases M3 marks b with h2|⟨i2,x2,rfl,hx2,hr2⟩
 refine dx (MZ s h2) (aP hc (aP (bM _) bS)) ?_;refine wy ?_;exact gj _;refine dx (M0 s hx2) (aP hc (aP (bM _) bS)) ?_;obtain⟨TC,n2,fq,eU,rfl,_⟩:=s.eM x2 (bG hx2);have l0:∀h,aq h false 1 (.fp (c7 TC n2 fq eU) 0)=some (ai TC):=λh=>rfl;refine wy ?_;refine bA (λq=>?_) λq=>?_;refine wy ?_;exact gj _;cases al with
 |true=>
  refine wy ?_;exact gj _
 |false=>
  refine wy ?_;refine dx (G1 g1 (n6 g1) aBH TC) (aP (n6 g1) (aP (q9 _) bS)) ?_;refine wy ?_;exact gj _
def aum(s:jF S au mv rows marks)(a b:Int):cx G az 131 [S,.v (.int .i64 a),.v (.int .i64 b)] gW:=by
 have hc:=s.clean;refine cR (acm.go ?_);refine wy ?_;refine bA (λq=>?_) λq=>?_;refine wy ?_;refine dx (auh s) (aP hc bS) ?_;refine wy ?_;refine bA (λah=>?_) λah=>?_;refine wy ?_;refine bA (λaN=>?_) λaN=>?_;refine wy ?_;refine dx (auk s a) (aP hc (aP (bM _) bS)) ?_;refine wy ?_;exact gj _;refine wy ?_;exact gj _;refine wy ?_;exact gj _;refine wy ?_;exact gj _
end
def WB(r:U):Prop:=∃(n:Int) (b:Bool),r=.aK [.v (.int .i64 n),.v (.bool b)]
def LG{hp:List aa}(n:Int)(b:Bool):∃k aQ,b9 hp k (.aK [.v (.int .i64 n),.v (.bool b)])=some aQ/\WB aQ:=by
 obtain⟨k,hk⟩:=(dR (aA (aB (.int .i64 n)) (aA (aB (.bool b)) bW)):aX hp _ _).done;exact⟨k,_,hk,n,b,rfl⟩
def K_(ms:List Int):dn (.agg (ms.map ep)):=Eg λc hc=>by
 obtain⟨n,_,rfl⟩:=cO.1 hc;exact bM _
section
variable{G:Cells}
def aor(hl:ms.length=8)(i:Int):cx G az 208 [.agg (ms.map ep),.v (.int .i64 i)] WB:=by
 refine cR (acS.go ?_);refine wy ?_;refine bA (λq=>?_) λq=>?_;refine wy ?_;exact LG _ _;refine wy ?_;refine bA (λah=>?_) λah=>?_;refine wy ?_;exact LG _ _;obtain⟨m,rfl⟩:∃m:Nat,i=(m:Int):=⟨i.toNat,aBQ⟩;have hm:m<8:=aDp
 obtain⟨x,hx⟩:∃x,ms[m]?=some x:=⟨ms[m]' aBH,br _⟩;have ym:jH 8 1 (.mp 0 0) (.v (.int .i64 (m:Int)))=some (.mp 0 m):=by
  unfold jH;dsimp only;rw[if_pos ⟨aBH,aBH⟩];simp[iE]
 have eG:aq [aj (ms.map ep) false] false 1 (.mp 0 m)=some (.v (.int .u16 x)):=by
  show dB false 1 (ms.map ep) m=_;unfold dB;rw[if_neg aBI,eC,hx];rfl
 refine wy ?_;refine bA (λaN=>?_) λaN=>?_;refine wy ?_;exact LG _ _;refine wy ?_;exact LG _ _
def ajD(r:U):Prop:=∃l:List (Int×Int),bL r (l.map λx=>.agg [ag x.1,ag x.2])/\l.length<=8
def au8(l:List (Int×Int)):bV 2 (l.map λx=>bT [ag x.1,ag x.2])=true:=by
 rw[bV,c_];intro x hx;obtain⟨t,_,rfl⟩:=cO.1 hx;rfl
def aeN(hl:ms.length=8):cx G az 147 [.agg (ms.map ep)] ajD:=by
 refine cR (acg.go ?_);refine wy ?_;refine cj (λi e g=>∃(l:List (Int×Int)) (ak:U),e=[(1,.mp 0 0),(3,ak),(7,ag i)]/\g[0]?=some (.cells (ms.map ep) false)/\bX g ak (l.map λx=>.agg [ag x.1,ag x.2]) 2 109/\l.length<=i) 8 ⟨[],.af,rfl,rfl,ay ⟨rfl,rfl⟩,bl _⟩ ?_ ?_;rintro i e g hi ⟨l,ak,rfl,h0,hA,mX⟩;have d1:decide ((i:Int)<8)=true:=decide_eq_true aBH;have w1:b7.wrap ((i:Int)+1)=((i+1:Nat):Int):=jA aBH;refine xR (tD h0 (n:=8) aB5) ?_;refine gf (aor hl _) (aP (K_ ms) (aP (bM _) bS)) ?_;rintro r ⟨n,b,rfl⟩;cases b with
 |false=>
  refine fG @LA @LB ?_;exact⟨l,ak,rfl,h0,hA,aBH⟩
 |true=>
  obtain⟨bg,g2,e1,dO,_,_,hk⟩:=kL (x:=.agg [ag (i:Int),ag n]) (aY:=16) hA (au8 l) rfl aBJ aBJ aBK;have kp:=Xx hA hk;have f1:cm [.v (.int .i64 0),.v (.int .i64 0)] [(0,1,.v (.int .i64 (i:Int))),(1,1,.v (.int .i64 n))]=some [ag (i:Int),ag n]:=rfl;have ab:dA 2 [.agg [ag (i:Int),ag n]]=some (.sl [.agg [ag (i:Int),ag n]] .exact):=rfl;refine zd @LA @LB @w1 @f1 @ab @e1 ?_;refine⟨l++[((i:Int),n)],bg,rfl,kp _ _ h0 aBI,?_,aBK⟩;rw[eX];exact dO
 rintro e g ⟨l,ak,rfl,h0,hA,mX⟩;have d1:decide (((8:Nat):Int)<8)=false:=aBJ
 refine wy ?_
 rcases hA with⟨rfl,z⟩|⟨id,rfl,_⟩
 obtain⟨k,hk⟩:=(cS:aX g _ _).done;exact⟨k,_,hk,l,ax ⟨rfl,z⟩,mX⟩;obtain⟨k,hk⟩:=(fj (t:=.tok id) (gh (f:=λx:Int×Int=>bT [ag x.1,ag x.2]) (l:=l) λa _=>iO (aA (aB _) (aA (aB _) bW))):aX g _ _).done;exact⟨k,_,hk,l,ay rfl,mX⟩
end
end
end Go.Proofs.YtggeooeohcbdhaaGreatDoor

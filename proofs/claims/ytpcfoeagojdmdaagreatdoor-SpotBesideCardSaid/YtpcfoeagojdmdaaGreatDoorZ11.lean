/- Part 11 of a proof. No condition. -/
import Derived.Test.YtpcfoeagojdmdaaGreatDoorZ10
set_option linter.unusedVariables false
set_option linter.unusedSimpArgs false
set_option linter.defProp false
open Bool renaming false->bf,true->bh,true_and->O9
open Go.bM.bg renaming agg->dG,cells->jU,one->cq,v->dh
open Go.bM.de renaming nil->tv
open Go.bM.br renaming cells->bw
open Go.bM.tE renaming mk->cQ
open Go.bM.ct renaming mono->cm,aat->eF,pure->h_,aE9->jG
open Go.bM renaming Clean->eT
open Go.bM.b6 renaming agg->jO,bq->ey,sl->gQ,bQ->fj,v->bH
open Go.bM.e_ renaming cons->bF,map->iw,nil->cZ
open Go.IntKind renaming i64->cN
open Go.Proofs.Tryz renaming prog->bA
open Go.Proofs.YtpcfoeagojdmdaaGreatDoor.Ext renaming app->mA
open Go.Proofs.YtpcfoeagojdmdaaGreatDoor.cV renaming bE->su,many->FF
open Int renaming eq_ofNat_of_zero_le->pT,le_refl->Ds,reduceBEq->BX,reduceBNe->BY
open List renaming all_cons->qk,all_eq_true->eG,all_nil->tB,append_nil->fZ,drop_drop->uD,drop_eq_getElem_cons->Ix,drop_of_length_le->w4,drop_zero->pU,eq_nil_of_length_eq_zero->ou,flatten_cons->vF,getElem?_concat_length->UL,getElem?_eq_getElem->cu,getElem?_eq_none_iff->acC,getElem?_eq_some_iff->cJ,getElem?_map->fD,getElem?_set_ne->bC,getElem?_set_self->bT,length_append->dO,length_cons->eB,length_eq_one_iff->FJ,length_map->cS,length_nil->gR,length_set->rH,length_singleton->ov,map_append->gz,map_cons->fQ,map_eq_nil_iff->arl,map_map->yM,map_nil->kX,map_set->yN,mem_append->fB,mem_cons->fc,mem_iff_getElem?->K7,mem_map->dX,mem_of_getElem?->cz,mem_of_mem_drop->rI,mem_or_eq_of_mem_set->Pu,mem_replicate->arp,mem_singleton->dP,nil_append->gd,not_mem_nil->pV,pairwise_cons->arq,replicate->fk,set_eq_take_append_cons_drop->arw,sum_cons->Aj,sum_nil->Iz,take_length->oW,take_of_length_le->ow,take_zero->mS
open Nat renaming add_assoc->mB,add_zero->nB,eq_zero_or_pos->Dw,le_refl->b_,le_trans->ig,lt_or_ge->ei,lt_succ_self->yQ,min_eq_left->FL,mul_le_mul_right->pW,one_mul->FM,reduceAdd->vH,reduceEqDiff->w7,reduceLT->w8,reduceLeDiff->w9,succ_mul->uF,zero_add->gA,zero_le->j0,zero_lt_succ->w_
open Ne renaming symm->e4
open Option renaming none->bn,some->a_
open Option.some renaming inj->oY
open Or renaming inl->bD,inr->bG
namespace Go.Proofs.YtpcfoeagojdmdaaGreatDoor
open Go Go.bM Go.RowKit
section
variable{N i j:Nat}{l m:List Int}
def qT(N:Nat)(l:List Int):Prop:=l.Pairwise (· < ·)/\∀x∈l,(0:Int)<=x/\x<(N:Int)
def aoq:∀(l:List Int) (a b:Int),a<=b->l.Pairwise (· < ·)->(∀x∈l,a<=x/\x<b)->(l.length:Int)<=b-a
 |[],a,b,h,_,_=>ah
 |x::r,a,b,h,J,O=>by
  rw[arq] at J;have Y:=O x af;have:=aoq r (x+1) b aa J.2 λy hy=>⟨by have:=J.1 y hy;omega,(O y aT).2⟩;rw[eB];omega
def qT.len(h:qT N l):l.length<=N:=by
 have:=aoq l 0 (N:Int) aa h.1 h.2;omega
def qT.nil(N:Nat):qT N []:=⟨List.Pairwise.nil,af⟩
def qT.one{n:Nat}(h:n<N):qT N [(n:Int)]:=⟨af,λx I=>by rw[dP.1 I];omega⟩
def qT.mono{M:Nat}(h:qT N l)(hm:N<=M):qT M l:=⟨h.1,λx I=>⟨(h.2 x I).1,by have:=(h.2 x I).2;omega⟩⟩
def aay{a:Int}(h:l.Pairwise (· < ·))(ha:l[i]?=a_ a):(∀y∈l.drop (i+1),a<y)/\(∀y∈l.drop i,a<=y)/\a∈l.drop i:=by
 have hl:=gl ha;have e:l.drop i=a::l.drop (i+1):=by
  rw[Ix hl];rw[cu hl] at ha;rw[oY ha]
 have hd:(l.drop i).Pairwise (· < ·):=h.sublist (List.drop_sublist i l);rw[e,arq] at hd;refine⟨hd.1,λy hy=>?_,by rw[e];simp⟩;rw[e] at hy
 rcases fc.1 hy with rfl|hy
 exact Ds _;exact Int.le_of_lt (hd.1 y hy)
def amH{y:Int}(h:i<=j)(hy:y∈l.drop j):y∈l.drop i:=by
 have e:l.drop j=(l.drop i).drop (j-i):=by rw[uD];congr 1;omega
 rw[e] at hy;exact rI hy
structure B6(l m:List Int)(i j:Nat)(o:List Int):Prop where
 Q:i<=l.length
 hj:j<=m.length
 hn:o.length<=i+j
 p:o.Pairwise (· < ·)
 hm:∀x∈o,x∈l\/x∈m
 a:∀x∈o,∀y∈l.drop i,x<y
 b:∀x∈o,∀y∈m.drop j,x<y
def B6.push{o:List Int}{i' j':Nat}{z:Int}(h:B6 l m i j o)(Y:i<=i')(V:j<=j')(h3:i'<=l.length)(h4:j'<=m.length)(h5:i+j<i'+j')(hz:z∈l.drop i\/z∈m.drop j)(ha:∀y∈l.drop i',z<y)(O:∀y∈m.drop j',z<y):B6 l m i' j' (o++[z]):=by
 refine⟨h3,h4,?_,?_,?_,?_,?_⟩;have:=h.hn;rw[dO,ov];omega;rw[List.pairwise_append];refine⟨h.p,af,λx I y hy=>?_⟩;rw[dP.1 hy];exact hz.elim (h.a x I z) (h.b x I z);intro x I
 rcases fB.1 I with q|q
 exact h.hm x q;rw[dP.1 q];exact hz.elim (λq=>bD (rI q)) λq=>bG (rI q);intro x I y hy
 rcases fB.1 I with q|q
 exact h.a x q y (amH Y hy);rw[dP.1 q];exact ha y hy;intro x I y hy
 rcases fB.1 I with q|q
 exact h.b x q y (amH V hy);rw[dP.1 q];exact O y hy
def afO(h:l.length<=i){P:Int->Prop}:∀y∈l.drop i,P y:=λy hy=>by
 rw[w4 h] at hy;cases hy
def arY(N:Nat)(r:bg):Prop:=∃o:List Int,cC r (o.map bp)/\qT N o
def aEL{G:Cells}{v w:bg}(hv:cC v (l.map bp))(hw:cC w (m.map bp))(hl:qT N l)(hm:qT N m)(hN:N<=1000000):dV G bA 226 [v,w] (arY N):=by
 have qa:=hl.len;have n8:=hm.len;refine ep (aBo.go ?_);have ln:=hv.cH;rw[cS] at ln;have mm:∀J,cH v J=a_ (.v (.int .i64 (l.length:Int)),J):=λJ=>aLB
 have lm:=hw.cH;rw[cS] at lm;have Hv:∀J,cH w J=a_ (.v (.int .i64 (m.length:Int)),J):=λJ=>by rw[lm J,jj]
 refine wy ?_;refine oo (n:=l.length+m.length) (λk e h=>∃(i j:Nat) (o:List Int) (bx:bg),k=(l.length-i)+(m.length-j)/\B6 l m i j o/\e=[(0,v),(1,w),(5,bx),(6,bp i),(7,bp j)]/\de h bx (o.map bp) 1 3) ⟨0,0,[],.bq,rfl,⟨aa,aa,af,List.Pairwise.nil,af,af,af⟩,rfl,tv _ _ _⟩ ?_;rintro k e h ⟨i,j,o,bx,rfl,hI,rfl,hA⟩;have Q:=hI.Q;have hj:=hI.hj;have ho:=hI.hn;have push:∀z:Int,∃cl g,eg h 1 8 3 bx (.sl [.v (.int .i64 z)] .exact)=a_ (cl,g)/\de g cl ((o++[z]).map bp) 1 3:=λz=>by
  obtain⟨cl,g,e1,fM,_⟩:=nc (x:=.v (.int .i64 z)) (cc:=8) hA (HG o) rfl ag ag ah;exact⟨cl,g,e1,aLx⟩
 have w1:cN.wrap ((i:Int)+1)=((i+1:Nat):Int):=kI aa;have w2:cN.wrap ((j:Int)+1)=((j+1:Nat):Int):=kI aa
 rcases ei i l.length with hi2|hi2
 obtain⟨a,ha⟩:=dW hi2;have Nw:cx 1 v (.v (.int .i64 (i:Int)))=a_ (.fp [bp a] 0):=hv.cw (x:=bp a) (by simp[ha]) rfl;unfold bp at Nw;obtain⟨a1,a2,a3⟩:=aay hl.1 ha;obtain⟨cl,g,e1,e2⟩:=push a
 rcases ei j m.length with hj2|hj2
 obtain⟨b,O⟩:=dW hj2;have He:cx 1 w (.v (.int .i64 (j:Int)))=a_ (.fp [bp b] 0):=hw.cw (x:=bp b) aMy rfl;unfold bp at He;obtain⟨b1,b2,b3⟩:=aay hm.1 O;obtain⟨aaC,g2,d1,d2⟩:=push b
 rcases Int.lt_trichotomy a b with hab|hab|hab
 · have fin:B6 l m (i+1) j (o++[a]):=hI.push aa aa aa aa aa (bD a3) a1 λy hy=>Int.lt_of_lt_of_le hab (b2 y hy)
   refine wT @bp.eq_1 @mm @Hv @Nw @He @e1 @d1 @w1 @w2 ?_
   repeat' ((refine ba (λq'=>?_) λq'=>?_)<;>refine pQ (dB @mm @Hv @Nw @He) @xQ @Av @e1 @d1 @w1 @w2 ?_)
   all_goals first
    |(exfalso;omega)
    |exact⟨(l.length-(i+1))+(m.length-j),aa,i+1,j,o++[a],cl,rfl,fin,rfl,e2⟩
 · subst hab
   have fin:B6 l m (i+1) (j+1) (o++[a]):=hI.push aa aa aa aa aa (bD a3) a1 b1;have aw7:(a==a)=bh:=beq_self_eq_true a;refine wy ?_
   repeat' ((refine ba (λq'=>?_) λq'=>?_)<;>refine pQ (dB @mm @Hv @Nw @He) @xQ @Av @e1 @w1 @w2 @aw7 ?_)
   all_goals first
    |(exfalso;omega)
    |exact⟨(l.length-(i+1))+(m.length-(j+1)),aa,i+1,j+1,o++[a],cl,rfl,fin,rfl,e2⟩
 · have fin:B6 l m i (j+1) (o++[b]):=hI.push aa aa aa aa aa (bG b3) (λy hy=>Int.lt_of_lt_of_le hab (a2 y hy)) b1
   refine wy ?_
   repeat' ((refine ba (λq'=>?_) λq'=>?_)<;>refine pQ (dB @mm @Hv @Nw @He) @xQ @Av @e1 @d1 @w1 @w2 ?_)
   all_goals first
    |(exfalso;omega)
    |exact⟨(l.length-i)+(m.length-(j+1)),aa,i,j+1,o++[b],aaC,rfl,fin,rfl,d2⟩
 have fin:B6 l m (i+1) j (o++[a]):=hI.push aa aa aa aa aa (bD a3) a1 (afO hj2);refine wy ?_;exact⟨(l.length-(i+1))+(m.length-j),aa,i+1,j,o++[a],cl,rfl,fin,rfl,e2⟩
 rcases ei j m.length with hj2|hj2
 obtain⟨b,O⟩:=dW hj2;have He:cx 1 w (.v (.int .i64 (j:Int)))=a_ (.fp [bp b] 0):=hw.cw (x:=bp b) aMy rfl;unfold bp at He;obtain⟨b1,b2,b3⟩:=aay hm.1 O;obtain⟨aaC,g2,d1,d2⟩:=push b;have ax0:((j:Int)==(m.length:Int))=bf:=Qg aa;have fin:B6 l m i (j+1) (o++[b]):=hI.push aa aa aa aa aa (bG b3) (afO hi2) b1;refine ke @bp.eq_1 @mm @Hv @ax0 ?_;refine wy ?_;refine wy ?_;exact⟨(l.length-i)+(m.length-(j+1)),aa,i,j+1,o++[b],aaC,rfl,fin,rfl,d2⟩;refine wy ?_;have hR:qT N o:=⟨hI.p,λx I=>(hI.hm x I).elim (hl.2 x) (hm.2 x)⟩
 rcases hA with⟨rfl,z⟩|⟨id,rfl,_⟩
 obtain⟨n,hn⟩:=(ey:b6 h _ _).done;exact⟨n,_,hn,[],bG ⟨rfl,rfl⟩,qT.nil N⟩;obtain⟨n,hn⟩:=(gQ (t:=.tok id) (iw (f:=bp) (l:=o) λa _=>bH _):b6 h _ _).done;exact⟨n,_,hn,o,bD rfl,hR⟩
end
section
variable{bv ev fv o0 bx v w hG xf:bg}{M N kn eM:Nat}{G:Cells}{J bl:List br}{Z z:List bg}{em rF:Bool}
def qS(v:bg)(l:List Int):Prop:=(v=.bq/\l=[])\/∃t,v=.sl (l.map bp) t
def atS(l:List Int):∀x∈l.map bp,∀c∈x.cells,eT c:=λx I c T=>by
 obtain⟨t,_,rfl⟩:=dX.1 I;rw[dP.1 (show c∈[bp t] from T)];exact cP _
section
variable{v:bg}{l:List Int}
def qS.imp(h:qS v l):∃v',lV v v'/\cC v' (l.map bp):=by
 rcases h with⟨rfl,rfl⟩|⟨t,rfl⟩
 exact⟨.bq,nY,bG ⟨rfl,rfl⟩⟩;exact⟨.sl (l.map bp) .no,k7 (atS l),bD rfl⟩
def qS.one(h:qS v l):cq v=bh:=by rcases h with⟨rfl,_⟩|⟨t,rfl⟩<;>rfl
@[go_sem]def qS.len(h:qS v l)(J:List br):cH v J=a_ (.v (.int .i64 (l.length:Int)),J):=by
 rcases h with⟨rfl,rfl⟩|⟨t,rfl⟩
 rfl;rw[oc,cS,jj]
@[go_sem]def qS.cw(h:qS v l){i:Nat}{x:Int}(I:l[i]?=a_ x):cx 1 v (.v (.int .i64 (i:Int)))=a_ (.fp [.v (.int .i64 x)] 0):=by
 rcases h with⟨rfl,rfl⟩|⟨t,rfl⟩
 simp at I;exact lE (x:=bp x) aA rfl
def qS.fz(h:qS v l)(J:List br):∃v',b6 J v v'/\cC v' (l.map bp):=by
 rcases h with⟨rfl,rfl⟩|⟨t,rfl⟩
 exact⟨.bq,ey,bG ⟨rfl,rfl⟩⟩;exact⟨_,gQ (iw (f:=bp) (l:=l) λa _=>bH _),bD rfl⟩
def zU(h:cC v (l.map bp)):qS v l:=by
 rcases h with rfl|⟨rfl,q⟩
 exact bG ⟨_,rfl⟩;exact bD ⟨rfl,arl.1 q⟩
end
def rO(h:cq w=bh):w.cells=[w]:=by cases w<;>first|rfl|cases h
def iH(N:Nat)(v:bg):Prop:=∃l,qS v l/\qT N l
def iH.nil(N:Nat):iH N .bq:=⟨[],bD ⟨rfl,rfl⟩,qT.nil N⟩
def iH.one(h:iH N v):cq v=bh:=by obtain⟨l,Y,_⟩:=h;exact Y.one
def iH.mono(h:iH N v)(hm:N<=M):iH M v:=by obtain⟨l,Y,V⟩:=h;exact⟨l,Y,V.mono hm⟩
def Kh{K:bg->List br->Prop}(hv:iH N v)(hw:iH N w)(hN:N<=256)(S:∀r,iH N r->K r J):ct G bA 226 [v,w] J K:=by
 obtain⟨l,Y,V⟩:=hv;obtain⟨m,k1,k2⟩:=hw;obtain⟨v',a1,a2⟩:=Y.imp;obtain⟨w',b1,b2⟩:=k1.imp;exact eF (aEL a2 b2 V k2 aa) λr ⟨o,q1,bt⟩=>S r ⟨o,(zU q1),bt⟩
def nC(N M:Nat)(bv:bg)(J:List br):Prop:=∃Z:List bg,Z.length=M/\(∀c∈Z,iH N c)/\((bv=.bq/\Z=[])\/∃k,bv=.rs k M 1 0 M/\J[k]?=a_ (.cells Z bh))
@[go_sem]def On{p:Nat}{r:bg}(h:p<Z.length):dS Z p [r]=Z.set p r:=by
 rw[arw,if_pos h];unfold dS;simp
section
variable{N M p:Nat}{bv:bg}{J bl:List br}
def nC.ext(h:nC N M bv J)(S:∀(j:Nat) Z,J[j]?=a_ (.cells Z bh)->bl[j]?=a_ (.cells Z bh)):nC N M bv bl:=by
 obtain⟨Z,Y,V,h3⟩:=h;refine⟨Z,Y,V,h3.elim bD ?_⟩;rintro⟨k,e,q⟩;exact bG ⟨k,e,S k Z q⟩
def nC.mono{N':Nat}(h:nC N M bv J)(hN:N<=N'):nC N' M bv J:=by
 obtain⟨Z,Y,V,h3⟩:=h;exact⟨Z,Y,λc T=>(V c T).mono hN,h3⟩
def nC.one(h:nC N M bv J):cq bv=bh:=by
 obtain⟨Z,_,_,⟨rfl,_⟩|⟨k,rfl,_⟩⟩:=h<;>rfl
structure Ls(J bl:List br):Prop where
 len:bl.length=J.length
 keep:∀(j:Nat) b,J[j]?=a_ b->(∀Z,b≠.cells Z bh)->bl[j]?=a_ b
def nC.at(h:nC N M bv J)(aip:p<M):∃k c,cx 1 bv (.v (.int .i64 (p:Int)))=a_ (.rp k M p)/\bz J bf 1 (.rp k M p)=a_ c/\iH N c/\∀r,iH N r->∃bl,bL J 1 (.rp k M p) r=a_ bl/\nC N M bv bl/\Ls J bl:=by
 obtain⟨Z,Y,V,⟨rfl,rfl⟩|⟨k,rfl,S⟩⟩:=h;simp at Y;omega;subst Y;have c6:p<Z.length:=aip;obtain⟨c,T⟩:=dW c6;have eP:=gl S;refine⟨k,c,?_,?_,V c (cz T),λr D=>⟨J.set k (.cells (Z.set p r) bh),?_,⟨Z.set p r,by rw[rH],λx I=>?_,bG ⟨k,rfl,bT eP⟩⟩,⟨by rw[rH],λj b hj O=>?_⟩⟩⟩;have:=TF (k:=k) (m:=Z.length) (n:=1) (len:=Z.length) (j:=p) aip;rw[Nat.mul_one] at this;exact this;simp only[bz,S,if_true,e9];rw[if_neg af];exact T;have eX:=rO D.one;simp only[bL,S,if_true,fu,eX];rw[if_pos ⟨rfl,aa,by simp[D.one]⟩,On c6]
 rcases Pu I with q|rfl
 exact V x q;exact D;rw[bC aMp];exact hj
end
section
variable{h:List br}{k:Nat}{a b c d e w:bg}
@[go_sem]def jS(O:h[k]?=a_ (.cells [a,b,c,d,e] bf)):bz h bf 1 (.mp k 0)=a_ a/\bz h bf 1 (.mp k 1)=a_ b/\bz h bf 1 (.mp k 2)=a_ c/\bz h bf 1 (.mp k 3)=a_ d/\bz h bf 1 (.mp k 4)=a_ e/\bz h bh 5 (.mp k 0)=a_ (.agg [a,b,c,d,e]):=by
 simp only[bz,O];exact⟨rfl,rfl,rfl,rfl,rfl,rfl⟩
@[go_sem]def rm(O:h[k]?=a_ (.cells [a,b,c,d,e] bf))(hw:cq w=bh):bL h 1 (.mp k 0) w=a_ (h.set k (.cells [w,b,c,d,e] bf))/\bL h 1 (.mp k 1) w=a_ (h.set k (.cells [a,w,c,d,e] bf))/\bL h 1 (.mp k 2) w=a_ (h.set k (.cells [a,b,w,d,e] bf))/\bL h 1 (.mp k 3) w=a_ (h.set k (.cells [a,b,c,w,e] bf))/\bL h 1 (.mp k 4) w=a_ (h.set k (.cells [a,b,c,d,w] bf)):=by
 have eX:=rO hw;refine⟨?_,?_,?_,?_,?_⟩<;>simp only[bL,O,fu,eX]<;>simp[hw,dS]
@[go_sem]def NV{a' b' c' d' e':bg}(O:h[k]?=a_ (.cells [a,b,c,d,e] bf))(hw:[a',b',c',d',e'].all cq=bh):bL h 5 (.mp k 0) (.agg [a',b',c',d',e'])=a_ (h.set k (.cells [a',b',c',d',e'] bf)):=by
 have eX:(dG [a',b',c',d',e']).cells=[a',b',c',d',e']:=rfl;simp only[bL,O,fu,eX];rw[if_pos ⟨rfl,af,hw⟩];simp[dS]
end
structure jz(eM:Nat)(J bl:List br):Prop where
 len:J.length<=bl.length
 keep:∀(j:Nat) b,J[j]?=a_ b->j≠eM->(∀Z,b≠.cells Z bh)->bl[j]?=a_ b
def jz.refl(eM:Nat)(J:List br):jz eM J J:=⟨b_ _,λ_ _ h _ _=>h⟩
def jz.app{x:List br}:jz eM J (J++x):=⟨af,λ_ _ h _ _=>bU h⟩
def jz.trans{a b c:List br}(h:jz eM a b)(k:jz eM b c):jz eM a c:=⟨ig h.len k.len,λj x q Y V=>k.keep j x (h.keep j x q Y V) Y V⟩
def Ls.aH1(h:Ls J bl):jz eM J bl:=⟨by rw[h.len];exact b_ _,λj b q _ V=>h.keep j b q V⟩
def jz.set{b:br}:jz eM J (J.set eM b):=⟨af,λj x q Y _=>by rw[bC (e4 Y)];exact q⟩
structure DG(N M eM:Nat)(o0 bv:bg)(J:List br)(xc:List bg)(fv ev:bg)(em:Bool)(h:List br):Prop where
 o:h[eM]?=a_ (.cells [o0,bv,fv,ev,.v (.bool em)] bf)
 x:h[J.length]?=a_ (.cells xc bf)
 b:nC N M bv h
 k:jz eM J h
def DG.put{h:List br}{xc:List bg}(s:DG N M eM o0 bv J xc fv ev em h)(hl:eM<J.length)(l6 nK:bg)(xL:Bool):DG N M eM o0 bv J xc l6 nK xL (h.set eM (.cells [o0,bv,l6,nK,.v (.bool xL)] bf)):=by
 have S:=gl s.o;refine⟨bT S,by rw[bC aa];exact s.x,s.b.ext λj Z q=>?_,s.k.trans jz.set⟩;rw[bC (by rintro rfl;rw[s.o] at q;simp at q)];exact q
def aH2(O:J[eM]?=a_ (.cells [o0,bv,fv,ev,.v (.bool em)] bf))(hf:iH N fv)(he:iH N ev)(hB:nC N M bv J)(q_:iH N xf)(pI:iH N hG)(aJ7:N<=M)(hN:N<=256):
  ct G bA 269 [.mp eM 0,.agg [.bq,.bq,xf,hG,.v (.bool rF)]] J λr bl=>r=.bQ []/\∃l6 nK xL,bl[eM]?=a_ (.cells [o0,bv,l6,nK,.v (.bool xL)] bf)/\iH N l6/\iH N nK/\nC N M bv bl/\jz eM J bl:=by
 have eP:=gl O;refine aBx.go ?_;refine eN (λe h=>e=[(0,.mp eM 0),(3,.mp J.length 0)]/\DG N M eM o0 bv J [.bq,.bq,xf,hG,.v (.bool rF)] fv ev em h) ?_ ?_;refine wx ?_;exact⟨trivial,bU O,af,hB.ext λj Z q=>bU q,jz.app⟩;rintro e h0 ⟨rfl,jv⟩;obtain⟨el,Ep,A8⟩:=he;have tX:=A8.len;refine eN (λe h=>e=[(0,.mp eM 0),(3,.mp J.length 0)]/\DG N M eM o0 bv J [.bq,.bq,xf,hG,.v (.bool rF)] fv ev em h) ?_ ?_;refine wy ?_;refine dj (λi e h=>e=[(0,.mp eM 0),(3,.mp J.length 0),(4,bp i)]/\DG N M eM o0 bv J [.bq,.bq,xf,hG,.v (.bool rF)] fv ev em h) el.length ⟨rfl,jv⟩ ?_ ?_;rintro i e h Q ⟨rfl,s⟩;obtain⟨x,I⟩:=dW Q;obtain⟨x0,x1⟩:=A8.2 x (cz I);obtain⟨p,rfl⟩:=pT x0;obtain⟨k,c,a1,a2,a3,a4⟩:=s.b.at (p:=p) aa;obtain⟨l0,l1,l2,l3,l4,_⟩:=jS s.o;obtain⟨m0,m1,m2,m3,m4,_⟩:=jS s.x;have azr:=Ep.cw I;refine tr @Ep.len (Kh a3 q_ hN λr D=>?_);obtain⟨h',b1,b2,b3⟩:=a4 r D;refine pQ (dB @bp.eq_1 @l1 @l3 @Ep.len) @azr @a1 @a2 @m2 @b1 @oh ?_;exact⟨b3.keep _ _ s.o af,b3.keep _ _ s.x af,b2,s.k.trans b3.aH1⟩;rintro e h ⟨rfl,s⟩;obtain⟨l0,l1,l2,l3,l4,_⟩:=jS s.o;refine ff @bp.eq_1 @l3 ?_;exact⟨trivial,s⟩;rintro e Y ⟨rfl,s1⟩;refine eN (λe h=>e=[(0,.mp eM 0),(3,.mp J.length 0)]/\∃l6,iH N l6/\DG N M eM o0 bv J [.bq,.bq,xf,hG,.v (.bool rF)] l6 ev em h) ?_ ?_;obtain⟨l0,l1,l2,l3,l4,_⟩:=jS s1.o;obtain⟨m0,m1,m2,m3,m4,_⟩:=jS s1.x;cases em with
 |false=>
  refine wx ?_;exact⟨trivial,fv,hf,s1⟩
 |true=>
  refine wy (Kh hf q_ hN λr D=>?_);obtain⟨t0,t1,t2,t3,t4⟩:=rm s1.o D.one;refine wx ?_;exact⟨trivial,r,D,s1.put eP r ev bh⟩
 rintro e V ⟨rfl,l6,eY,s2⟩;have he:iH N ev:=⟨el,Ep,A8⟩;refine eN (λe h=>e=[(0,.mp eM 0),(3,.mp J.length 0)]/\∃nK,iH N nK/\DG N M eM o0 bv J [.bq,.bq,xf,hG,.v (.bool rF)] l6 nK em h) ?_ ?_;obtain⟨l0,l1,l2,l3,l4,_⟩:=jS s2.o;obtain⟨m0,m1,m2,m3,m4,_⟩:=jS s2.x;cases rF with
 |false=>
  obtain⟨t0,t1,t2,t3,t4⟩:=rm s2.o pI.one;refine wx ?_;exact⟨trivial,hG,pI,s2.put eP l6 hG em⟩
 |true=>
  refine wy (Kh he pI hN λr D=>?_);obtain⟨t0,t1,t2,t3,t4⟩:=rm s2.o D.one;refine wx ?_;exact⟨trivial,r,D,s2.put eP l6 r em⟩
 rintro e h3 ⟨rfl,nK,wh,ek⟩;obtain⟨l0,l1,l2,l3,l4,_⟩:=jS ek.o;obtain⟨m0,m1,m2,m3,m4,_⟩:=jS ek.x;have fin:∀b:Bool,bL h3 1 (.mp eM 4) (.v (.bool b))=a_ (h3.set eM (.cells [o0,bv,l6,nK,.v (.bool b)] bf)):=λb=>(rm ek.o (w:=.v (.bool b)) rfl).2.2.2.2;have Mi:∀b:Bool,∃agP af7 auS,(h3.set eM (.cells [o0,bv,l6,nK,.v (.bool b)] bf))[eM]?=a_ (.cells [o0,bv,agP,af7,.v (.bool auS)] bf)/\iH N agP/\iH N af7/\nC N M bv (h3.set eM (.cells [o0,bv,l6,nK,.v (.bool b)] bf))/\jz eM J (h3.set eM (.cells [o0,bv,l6,nK,.v (.bool b)] bf)):=λb=>by
  have q:=ek.put eP l6 nK b;exact⟨l6,nK,b,q.o,eY,wh,q.b,q.k⟩
 cases em with
 |false=>
  refine ff @l4 @fin ?_;exact⟨trivial,Mi _⟩
 |true=>
  refine fq @l4 @m4 @fin ?_;exact⟨trivial,Mi _⟩
structure uK(kn:Nat)(z:List bg)(N:Nat)(bx bv:bg)(J:List br):Prop where
 b:J[kn]?=a_ (.cells (bx::bv::z) bf)
 on:∃xs,de J bx xs 1 42/\xs.length=N/\∀x∈xs,∃l,qS x l/\l.length<=256/\∀y∈l,(0:Int)<=y/\y<256
 cy:nC N N bv J
def uK.pP(h:uK kn z N bx bv J)(S:jz eM J bl)(ho:J[eM]?=a_ (.cells Z bf))(bR:eM≠kn)(hB:nC N N bv bl):uK kn z N bx bv bl:=by
 refine⟨S.keep _ _ h.b (e4 bR) af,?_,hB⟩;obtain⟨xs,Y,V,h3⟩:=h.on;refine⟨xs,Y.elim bD ?_,V,h3⟩;rintro⟨id,q1,bt⟩;exact bG ⟨id,q1,S.keep _ _ bt (by rintro rfl;rw[ho] at bt;cases bt) af⟩
def aGu(hX:uK kn z N bx bv J)(O:J[eM]?=a_ (.cells [.bq,.bq,fv,ev,.v (.bool em)] bf))(bR:eM≠kn)(hf:iH N fv)(he:iH N ev)(q_:iH N xf)(pI:iH N hG)(hN:N<=256):
  ct G bA 227 [.mp kn 0,.mp eM 0,.agg [.bq,.bq,xf,hG,.v (.bool rF)]] J λr bl=>r=.bQ []/\uK kn z N bx bv bl/\jz eM J bl/\∃l6 nK xL,bl[eM]?=a_ (.cells [.bq,.bq,l6,nK,.v (.bool xL)] bf)/\iH N l6/\iH N nK:=by
 have eP:=gl O;refine aBp.go ?_;have jH:(dG [.bq,.bq,xf,hG,.v (.bool rF)]).cells=[.bq,.bq,xf,hG,.v (.bool rF)]:=rfl;have g1:(J++[bw [.bq,.bq,xf,hG,.v (.bool rF)] bf])[eM]?=a_ (.cells [.bq,.bq,fv,ev,.v (.bool em)] bf):=bU O;have g2:(J++[bw [.bq,.bq,xf,hG,.v (.bool rF)] bf])[kn]?=a_ (.cells (bx::bv::z) bf):=bU hX.b;have g3:(J++[bw [.bq,.bq,xf,hG,.v (.bool rF)] bf])[J.length]?=a_ (.cells [.bq,.bq,xf,hG,.v (.bool rF)] bf):=af
 have k1:jz eM J (J++[bw [.bq,.bq,xf,hG,.v (.bool rF)] bf]):=jz.app;have Pz:nC N N bv (J++[bw [.bq,.bq,xf,hG,.v (.bool rF)] bf]):=hX.cy.ext λj Z q=>bU q;refine so ?_;generalize J++[bw [.bq,.bq,xf,hG,.v (.bool rF)] bf]=g at g1 g2 g3 k1 Pz⊢;obtain⟨t0,t1,t2,t3,t4⟩:=rm g1 hX.cy.one;have kU:=gl g1;have u1:(g.set eM (.cells [.bq,bv,fv,ev,.v (.bool em)] bf))[eM]?=a_ (.cells [.bq,bv,fv,ev,.v (.bool em)] bf):=bT kU;have u2:(g.set eM (.cells [.bq,bv,fv,ev,.v (.bool em)] bf))[J.length]?=a_ (.cells [.bq,.bq,xf,hG,.v (.bool rF)] bf):=by rw[bC aa];exact g3
 have k2:jz eM J (g.set eM (.cells [.bq,bv,fv,ev,.v (.bool em)] bf)):=k1.trans jz.set;have pX:nC N N bv (g.set eM (.cells [.bq,bv,fv,ev,.v (.bool em)] bf)):=Pz.ext λj Z q=>by
  rw[bC (by rintro rfl;rw[g1] at q;simp at q)];exact q
 refine wx (cm (aH2 u1 hf he pX q_ pI (b_ _) hN) ?_);rintro _ g4 ⟨rfl,l6,nK,xL,v1,v2,v3,v4,v5⟩;have axM:=gl v1;have gN:jz eM J (g4.set eM (.cells [.bq,.bq,l6,nK,.v (.bool xL)] bf)):=(k2.trans v5).trans jz.set;have La:nC N N bv (g4.set eM (.cells [.bq,.bq,l6,nK,.v (.bool xL)] bf)):=v4.ext λj Z q=>by
  rw[bC (by rintro rfl;rw[v1] at q;simp at q)];exact q
 refine fS ?_;exact⟨trivial,hX.pP gN O bR La,gN,l6,nK,xL,bT axM,v2,v3⟩
end
open Go.Proofs.YtpcfoeagojdmdaaGreatDoor.iH renaming nil->FG
section
variable{M N k kn eM m:Nat}{Z z:List bg}{g h h' J x:List br}
def kM(N:Nat)(Z:List bg):Prop:=∃f e b,Z=[.bq,.bq,f,e,.v (.bool b)]/\iH N f/\iH N e
def z5:List bg:=[.bq,.bq,.bq,.bq,.v (.bool bf)]
def kM.mono(h:kM N Z)(hm:N<=M):kM M Z:=by
 obtain⟨f,e,b,rfl,Y,V⟩:=h;exact⟨f,e,b,rfl,Y.mono hm,V.mono hm⟩
def kM.z5(N:Nat):kM N z5:=⟨_,_,_,rfl,FG N,FG N⟩
def kM.one(h:kM N Z):Z.length=5/\Z.all cq=bh:=by
 obtain⟨f,e,b,rfl,Y,V⟩:=h;refine⟨rfl,?_⟩;simp only[qk,tB,Y.one,V.one];rfl
@[go_sem]def Og(h:kM N Z){cs0:List bg}(S:g[k]?=a_ (.cells cs0 bf))(h0:cs0.length=5):bL g 5 (.mp k 0) (.agg Z)=a_ (g.set k (.cells Z bf)):=by
 obtain⟨Y,V⟩:=h.one;simp only[bL,S,fu];have eX:(dG Z).cells=Z:=rfl;rw[eX,if_pos ⟨Y,aa,V⟩];unfold dS;rw[mS,gd,w4 aa,fZ]
@[go_sem]def CY(h:kM N Z)(g:List br):bL (g++[.cells z5 bf]) 5 (.mp g.length 0) (.agg Z)=a_ (g++[.cells Z bf]):=by
 rw[Og h (cs0:=z5) af rfl];simp
@[go_sem]def zN(S:g[k]?=a_ (.cells Z bf))(h0:Z.length=5):bz g bh 5 (.mp k 0)=a_ (.agg Z):=by
 simp only[bz,S];unfold e9;rw[if_pos rfl,if_pos aa,pU,ow aa]
structure pZ(kn:Nat)(J bl:List br):Prop where
 len:J.length<=bl.length
 AJ:∀(j:Nat) Z,j≠kn->J[j]?=a_ (.cells Z bf)->bl[j]?=a_ (.cells Z bf)
 tok:∀(j:Nat) c,J[j]?=a_ (.tok c 5 202)->bl[j]?=a_ (.tok c 5 202)
def pZ.refl(kn:Nat)(J:List br):pZ kn J J:=⟨b_ _,λ_ _ _ h=>h,λ_ _ h=>h⟩
def pZ.trans{a b c:List br}(h:pZ kn a b)(k:pZ kn b c):pZ kn a c:=⟨ig h.len k.len,λj x q bt=>k.AJ j x q (h.AJ j x q bt),λj x q=>k.tok j x (h.tok j x q)⟩
def pZ.app:pZ kn J (J++x):=⟨af,λ_ _ _ h=>bU h,λ_ _ h=>bU h⟩
def pZ.pP(s:pZ kn J h)(t:jz eM h h')(hl:J.length<=eM):pZ kn J h':=⟨ig s.len t.len,λj Z q bt=>by
 have:=gl bt;exact t.keep j _ (s.AJ j Z q bt) aa af,λj c bt=>by
 have:=gl bt;exact t.keep j _ (s.tok j c bt) aa af⟩
def kL(N:Nat)(h:List br)(m:Nat):Prop:=∃Z,h[m]?=a_ (.cells Z bf)/\kM N Z
def kL.mono(s:kL N h m)(hm:N<=M):kL M h m:=by
 obtain⟨Z,Y,V⟩:=s;exact⟨Z,Y,V.mono hm⟩
def kL.pP(s:kL N h m)(t:jz eM h h')(bR:m≠eM):kL N h' m:=by
 obtain⟨Z,Y,V⟩:=s;exact⟨Z,t.keep _ _ Y bR af,V⟩
def kL.lay(s:kL N h m)(t:pZ kn h h')(bR:m≠kn):kL N h' m:=by
 obtain⟨Z,Y,V⟩:=s;exact⟨Z,t.AJ _ _ bR Y,V⟩
def kL.app(s:kL N h m):kL N (h++x) m:=by
 obtain⟨Z,Y,V⟩:=s;exact⟨Z,bU Y,V⟩
def kL.new(s:kM N Z):kL N (h++[.cells Z bf]) h.length:=⟨Z,af,s⟩
def sD(kn:Nat)(z:List bg)(N:Nat)(J:List br):Prop:=∃bx bv,uK kn z N bx bv J
def sD.app(h:sD kn z N J):sD kn z N (J++x):=by
 obtain⟨bx,bv,h⟩:=h;refine⟨bx,bv,bU h.b,?_,h.cy.ext λj Z q=>bU q⟩;obtain⟨xs,Y,V,h3⟩:=h.on;refine⟨xs,Y.elim bD ?_,V,h3⟩;rintro⟨id,q1,bt⟩;exact bG ⟨id,q1,bU bt⟩
def sD.pP{bl:List br}(h:sD kn z N J)(S:jz eM J bl)(ho:J[eM]?=a_ (.cells Z bf))(bR:eM≠kn)(D:∀(j:Nat) Z,J[j]?=a_ (.cells Z bh)->bl[j]?=a_ (.cells Z bh)):sD kn z N bl:=by
 obtain⟨bx,bv,h⟩:=h;exact⟨bx,bv,h.pP S ho bR (h.cy.ext D)⟩
def sD.lt(h:sD kn z N J):kn<J.length:=by
 obtain⟨bx,bv,h⟩:=h;exact gl h.b
structure gf(kn:Nat)(z:List bg)(J:List br)(pc:List bg)(w:Nat)(h:List br):Prop where
 fH:sD kn z w h
 k:pZ kn J h
 r:h[J.length]?=a_ (.cells z5 bf)
 p:h[J.length+1]?=a_ (.cells pc bf)
 o:kL w h (J.length+2)
 lt:kn<J.length
section
variable{kn:Nat}{z:List bg}{J h h' x:List br}{pc:List bg}{w w' eM m:Nat}{Z:List bg}
def gf.DY(s:gf kn z J pc w h):J.length+3<=h.length:=by
 obtain⟨Z,q,_⟩:=s.o;have:=gl q;omega
def gf.app(s:gf kn z J pc w h):gf kn z J pc w (h++x):=⟨s.fH.app,s.k.trans pZ.app,bU s.r,bU s.p,s.o.app,s.lt⟩
def gf.lay(s:gf kn z J pc w h)(t:pZ kn h h')(hn:sD kn z w' h')(hw:w<=w'):gf kn z J pc w' h':=
 have hl:=s.lt
 ⟨hn,s.k.trans t,t.AJ _ _ aa s.r,t.AJ _ _ aa s.p,(s.o.lay t aa).mono hw,hl⟩
def gf.pP(s:gf kn z J pc w h)(t:jz eM h h')(hl:J.length+2<=eM)(hn:sD kn z w h')(ho:kL w h' (J.length+2)):gf kn z J pc w h':=
 ⟨hn,s.k.pP t aa,t.keep _ _ s.r aa af,t.keep _ _ s.p aa af,ho,s.lt⟩
def gf.put(s:gf kn z J pc w h)(hm:kL w h m)(hl:J.length+2<=m)(T:kM w Z):gf kn z J pc w (h.set m (.cells Z bf))/\kL w (h.set m (.cells Z bf)) m:=by
 obtain⟨c0,Y,V⟩:=hm;have n8:=gl Y;have c6:=s.lt;have t:jz m h (h.set m (.cells Z bf)):=jz.set;have qH:kL w (h.set m (.cells Z bf)) m:=⟨Z,bT n8,T⟩;refine⟨s.pP t hl (s.fH.pP t Y aa λj c q=>aL4) ?_,qH⟩;by_cases e:J.length+2=m;rw[e];exact qH;exact s.o.pP t e
def gf.call(s:gf kn z J pc w h){G:Cells}(hm:kL w h m)(hl:J.length+2<=m)(T:kM w Z)(hw:w<=256){K:bg->List br->Prop}(hK:∀h',gf kn z J pc w h'->jz m h h'->kL w h' m->K (.bQ []) h'):ct G bA 227 [.mp kn 0,.mp m 0,.agg Z] h K:=by
 obtain⟨xf,hG,mw,rfl,q_,pI⟩:=T;obtain⟨_,Y,fv,ev,em,rfl,hf,he⟩:=hm;obtain⟨bx,bv,hX⟩:=s.fH;have c6:=s.lt;refine cm (aGu hX Y aa hf he q_ pI hw) ?_;rintro _ h' ⟨rfl,Xv,t,l6,nK,xL,k1,k2,gN⟩;have qH:kL w h' m:=⟨_,k1,l6,nK,xL,rfl,k2,gN⟩;refine hK h' (s.pP t hl ⟨bx,bv,Xv⟩ ?_) t qH;by_cases e:J.length+2=m;rw[e];exact qH;exact s.o.pP t e
def nS(B w:Nat)(h:List br)(rv:bg)(rs:List (List bg)):Prop:=((rv=.bq/\rs=[])\/∃id,rv=.sl (rs.map dG) (.tok id)/\B<=id/\h[id]?=a_ (.tok rs.length 5 202))/\∀c∈rs,kM w c
variable{B:Nat}{rv:bg}{rs:List (List bg)}
def nS.keep(s:nS B w h rv rs)(hw:w<=w')(S:∀(j:Nat) c,h[j]?=a_ (.tok c 5 202)->h'[j]?=a_ (.tok c 5 202)):nS B w' h' rv rs:=by
 refine⟨s.1.elim bD ?_,λc T=>(s.2 c T).mono hw⟩;rintro⟨id,q1,bt,bV⟩;exact bG ⟨id,q1,bt,S _ _ bV⟩
def nS.pP(s:nS B w h rv rs)(t:jz eM h h'){c0:List bg}(ho:h[eM]?=a_ (.cells c0 bf)):nS B w h' rv rs:=s.keep (b_ _) λj c q=>t.keep _ _ q (by rintro rfl;rw[ho] at q;cases q) af
@[go_sem]def Ob:∀{rs:List (List bg)},(∀c∈rs,kM w c)->cY 5 (rs.map dG)=bh
 |[],_=>rfl
 |c::r,h=>by
  have ih:=Ob (rs:=r) λx I=>h x aA;obtain⟨Y,V⟩:=(h c af).one;simp only[cY,fQ,qk,jU,Y,V,beq_self_eq_true,Bool.and_self,O9] at ih⊢;exact ih
def nS.cw(s:nS B w h rv rs){i:Nat}{c:List bg}(T:rs[i]?=a_ c):cx 5 rv (.v (.int .i64 (i:Int)))=a_ (.fp c 0)/\(∀g,bz g bh 5 (.fp c 0)=a_ (.agg c))/\kM w c:=by
 have J:=s.2 c (cz T);obtain⟨Y,V⟩:=J.one;refine⟨?_,λg=>?_,J⟩
 rcases s.1 with⟨rfl,rfl⟩|⟨id,rfl,_⟩
 simp at T;exact lE (x:=.agg c) (by simp[T]) Y;simp only[bz];unfold e9;rw[if_pos rfl,if_pos aa,pU,ow aa]
def nS.push(s:nS B w h rv rs)(hB:B<=h.length)(hn:rs.length<=1000)(T:kM w Z):∃C_ h',eg h 5 104 202 rv (.sl [.agg Z] .exact)=a_ (C_,h')/\nS B w h' C_ (rs++[Z])/\h.length<=h'.length/\(∀(j:Nat) b,h[j]?=a_ b->(∀c,b≠.tok c 5 202)->h'[j]?=a_ b)/\∀(j:Nat) b,j<B->h[j]?=a_ b->h'[j]?=a_ b:=by
 have I:=Ob s.2;have hy:cY 5 [dG Z]=bh:=Ob (rs:=[Z]) (w:=w) (by simpa using T);have hfit:(rs.length+1)*104<=140737488355328:=aa
 have Bj:∀c∈rs++[Z],kM w c:=λc q=>(fB.1 q).elim (s.2 c) λq=>by rw[dP.1 q];exact T
 rcases s.1 with⟨rfl,rfl⟩|⟨id,rfl,hid,S⟩
 refine⟨.sl ([]++[.agg Z]) (.tok h.length),h++[.tok 1 5 202],?_,⟨bG ⟨h.length,rfl,hB,af⟩,Bj⟩,af,λj b q _=>bU q,λj b _ q=>bU q⟩;simp only[gR,gA] at hfit;simp[eg,gY,iI,iA,hy];have hl:id<h.length:=gl S;refine⟨.sl (rs.map dG++[.agg Z]) (.tok id),h.set id (.tok (rs.length+1) 5 202),?_,⟨bG ⟨id,af,hid,aLT⟩,Bj⟩,af,λj b q bR=>?_,λj b hj q=>by rw[bC aa];exact q⟩;simp[eg,gY,iI,iA,hy,hfit,I,S];rw[bC (λe=>aMV)];exact q
def gf.rest(s:gf kn z J pc w h)(hl:h.length<=h'.length)(k1:∀(j:Nat) b,h[j]?=a_ b->(∀c,b≠.tok c 5 202)->h'[j]?=a_ b)(k2:∀(j:Nat) b,j<J.length->h[j]?=a_ b->h'[j]?=a_ b):gf kn z J pc w h':=by
 refine⟨?_,⟨ig s.k.len hl,λj Z q bt=>k1 _ _ (s.k.AJ j Z q bt) af,λj c bt=>k2 _ _ (gl bt) (s.k.tok j c bt)⟩,k1 _ _ s.r af,k1 _ _ s.p af,?_,s.lt⟩;obtain⟨bx,bv,hX⟩:=s.fH;refine⟨bx,bv,k1 _ _ hX.b af,?_,hX.cy.ext λj Z q=>k1 _ _ q af⟩;obtain⟨xs,Y,V,h3⟩:=hX.on;refine⟨xs,Y.elim bD ?_,V,h3⟩;rintro⟨id,q1,bt⟩;exact bG ⟨id,q1,k1 _ _ bt af⟩;obtain⟨Z,Y,V⟩:=s.o;exact⟨Z,k1 _ _ Y af,V⟩
end
def ac3(kn:Nat)(z:List bg)(J:List br)(M:Nat)(r:bg)(bl:List br):Prop:=∃Z,r=.agg Z/\kM M Z/\sD kn z M bl/\pZ kn J bl
def IE(kn:Nat)(z:List bg)(J:List br)(M:Nat)(h:List br):Prop:=∃Z,h[J.length]?=a_ (.cells Z bf)/\kM M Z/\sD kn z M h/\pZ kn J h
def Ln(G:Cells)(kn:Nat)(z:List bg)(v lv:bg)(ps:List cV)(i:Int):Prop:=∀N J,sD kn z N J->N+cnt ps i<=256->
 ct G bA 163 [.mp kn 0,v,.v (.int .i64 i),lv] J (ac3 kn z J (N+cnt ps i))
def gf.fin{pc:List bg}{w:Nat}(s:gf kn z J pc w h)(T:kM w Z):bL h 5 (.mp J.length 0) (.agg Z)=a_ (h.set J.length (.cells Z bf))/\IE kn z J w (h.set J.length (.cells Z bf)):=by
 have hl:=gl s.r;have t:jz J.length h (h.set J.length (.cells Z bf)):=jz.set;have c6:=s.lt;refine⟨Og T s.r rfl,Z,bT hl,T,s.fH.pP t s.r aa λj c q=>?_,s.k.pP t (b_ _)⟩;rw[bC (by rintro rfl;rw[s.r] at q;simp at q)];exact q
end
section
variable{N kn:Nat}{bv bx r:bg}{h:List br}{z:List bg}{p:cV}
def V2:eR:=ajh.e.c.tl.tl.tl
def V4:eR:=V2.tl
def V5:eR:=V4.tl
def aeN:eR:=V5.tl.tl
@[go_sem]def IU{w:bg}(h:cq w=bh):eW 1 [w]=a_ (.sl [w] .exact):=by
 have e:=rO h;unfold eW;rw[if_pos ⟨by simp[cY,e,h],af⟩]
@[go_sem]def BD{l:List bg}(h:∀x∈l,cq x=bh):cY 1 l=bh:=by
 rw[cY,eG];intro x I;have:=h x I;simp[rO this,this]
def nC.push(s:nC N N bv h)(hN:N<=1000)(D:iH (N+1) r):∃dc h',qW h 1 24 42 bv (.sl [r] .exact)=a_ (dc,h')/\nC (N+1) (N+1) dc h'/\h.length<=h'.length/\∀(j:Nat) b,h[j]?=a_ b->(∀Z,b≠.cells Z bh)->h'[j]?=a_ b:=by
 have T:=rO D.one;have ok:cY 1 [r]=bh:=BD λx I=>by rw[dP.1 I];exact D.one
 obtain⟨Z,Y,V,⟨rfl,rfl⟩|⟨k,rfl,S⟩⟩:=s;have awW:N=0:=by simpa using Y.symm
 subst awW;have hf:eO [r]=[r]:=by simp[eO,T]
 refine⟨.rs h.length 1 1 0 1,h++[.cells [r] bh],?_,⟨[r],rfl,by simpa using D,bG ⟨h.length,rfl,af⟩⟩,af,λj b q _=>bU q⟩;have h3:¬([r]=([]:List bg)):=af
 simp[qW,iA,ok,hf];have eP:=gl S;have hf:eO [r]=[r]:=by simp[eO,T]
 have b9:nr Z (N*1) (eO [r])=Z++[r]:=by
  unfold nr;rw[hf,ow aa,w4 aa,fZ]
 refine⟨.rs k (N+1) 1 0 (N+1),h.set k (.cells (Z++[r]) bh),?_,⟨Z++[r],aMw,λx I=>?_,bG ⟨k,rfl,bT eP⟩⟩,af,λj b hj O=>by
  rw[bC aMp];exact hj⟩
 have h3:¬([r]=([]:List bg)):=af
 show gY h 1 24 42 (.rs k N 1 0 N) (.sl [r] .exact)=_;simp only[gY,iA,iI,ok,h3,if_false,and_self,w_,if_true,true_and,S,eB,gR,b9];rw[if_pos aa];simp[Y]
 rcases fB.1 I with q|q
 exact(V x q).mono aa;rw[dP.1 q];exact D
def uK.place(s:uK kn z N bx bv h)(hN:N<=255)(D:∃l,qS r l/\l.length<=256/\∀y∈l,(0:Int)<=y/\y<256):
  ∃cX dc g1 g2 g3 g4,eg h 1 24 42 bx (.sl [r] .exact)=a_ (cX,g1)/\bL g1 1 (.mp kn 0) cX=a_ g2/\bz g2 bf 1 (.mp kn 1)=a_ bv/\qW g2 1 24 42 bv (.sl [.bq] .exact)=a_ (dc,g3)/\bL g3 1 (.mp kn 1) dc=a_ g4/\uK kn z (N+1) cX dc g4/\h.length<=g4.length/\
   ∀(j:Nat) b,h[j]?=a_ b->j≠kn->(∀Z,b≠.cells Z bh)->(∀c,b≠.tok c 1 42)->g4[j]?=a_ b:=by
 obtain⟨xs,hA,s6,Se⟩:=s.on;have EG:cq r=bh:=by obtain⟨l,q,_⟩:=D;exact q.one
 have iC:cY 1 xs=bh:=BD λx I=>by obtain⟨l,q,_⟩:=Se x I;exact q.one
 have o1:cY 1 [r]=bh:=BD λx I=>by rw[dP.1 I];exact EG
 obtain⟨cX,g1,e1,v_,bR,bJ,gj⟩:=nc (x:=r) (cc:=24) hA iC o1 ag ag aa;have ir:∀{j:Nat} {b:br},h[j]?=a_ b->(∀c,b≠.tok c 1 42)->∀ys,bx≠.sl ys (.tok j):=λ{j b} q O ys e=>by
  rcases hA with⟨q1,_⟩|⟨id,q1,bt⟩
  rw[q1] at e;cases e;rw[q1] at e;cases e;rw[bt] at q;cases q;exact O _ rfl
 have b1:g1[kn]?=a_ (.cells (bx::bv::z) bf):=gj _ _ s.b (ir s.b af)
 have ho:cq cX=bh:=by rcases v_ with⟨q,_⟩|⟨_,q,_⟩<;>rw[q]<;>rfl
 have ax5:=gl b1;have s1:bL g1 1 (.mp kn 0) cX=a_ (g1.set kn (.cells (cX::bv::z) bf)):=by
  simp only[bL,b1,fu,rO ho];simp[ho,dS]
 have b2:(g1.set kn (.cells (cX::bv::z) bf))[kn]?=a_ (.cells (cX::bv::z) bf):=bT ax5;have pX:nC N N bv (g1.set kn (.cells (cX::bv::z) bf)):=s.cy.ext λj Z q=>by
  rw[bC (by rintro rfl;rw[s.b] at q;simp at q)];exact gj _ _ q (ir q af)
 have l2:bz (g1.set kn (.cells (cX::bv::z) bf)) bf 1 (.mp kn 1)=a_ bv:=by simp only[bz,b2];rfl
 obtain⟨dc,g3,di,La,Ey,wk⟩:=pX.push (r:=.bq) aa (FG _);have b3:g3[kn]?=a_ (.cells (cX::bv::z) bf):=wk _ _ b2 af;have ax6:=gl b3;have ek:bL g3 1 (.mp kn 1) dc=a_ (g3.set kn (.cells (cX::dc::z) bf)):=by
  simp only[bL,b3,fu,rO La.one];simp[La.one,dS]
 refine⟨cX,dc,g1,_,g3,_,e1,s1,l2,di,ek,⟨bT ax6,⟨xs++[r],?_,by simp[s6],λx I=>?_⟩,La.ext λj Z q=>?_⟩,?_,λj b hj Y V h3=>?_⟩
 rcases v_ with q|⟨id,q1,bt⟩
 exact bD q;refine bG ⟨id,q1,?_⟩;have xW:kn≠id:=by rintro rfl;rw[b1] at bt;cases bt
 rw[bC xW];exact wk _ _ (by rw[bC xW];exact bt) af
 rcases fB.1 I with q|q
 exact Se x q;rw[dP.1 q];exact D;rw[bC (by rintro rfl;rw[b3] at q;simp at q)];exact q;rw[rH];rw[rH] at Ey;omega;rw[bC (e4 Y)];refine wk _ _ ?_ V;rw[bC (e4 Y)];exact gj _ _ hj (ir hj h3)
@[go_sem]def uK.aCW(s:uK kn z N bx bv h)(g:List br):cH bx g=a_ (.v (.int .i64 (N:Int)),g):=by
 obtain⟨xs,hA,s6,_⟩:=s.on;rw[F4 hA g,s6]
@[go_sem]def ri{X:List br}{k:Nat}(q:X[k]?=a_ (.cells p.cells bf)):bz X bf 1 (.mp k 0)=a_ (.v (.int .i64 p.kind))/\bz X bf 1 (.mp k 1)=a_ (.v (.int .i64 p.low))/\bz X bf 1 (.mp k 2)=a_ (.v (.int .i64 p.high))/\bz X bf 1 (.mp k 3)=a_ (bu p.name)/\bz X bf 1 (.mp k 4)=a_ p.kv:=by
 simp only[bz,q];exact⟨rfl,rfl,rfl,rfl,rfl⟩
@[go_sem]def alV{j:Nat}{x:Int}(I:p.kids[j]?=a_ x):cx 1 p.kv (.v (.int .i64 (j:Int)))=a_ (.fp [.v (.int .i64 x)] 0):=by
 unfold cV.kv;split;rename_i z;rw[z] at I;simp at I;exact lE (x:=bp x) (by rw[fD,I];rfl) rfl
section
variable{G:Cells}{kn N:Nat}{z:List bg}{J h0:List br}{v lv:bg}{ps:List cV}{p:cV}{hi:nU}
def aAG{rows:List (List bg)}(zv:cC lv (rows.map dG))(ga:eT lv)(Ez:∀x∈rows,xm x)(qa:rows.length<=1000000000)(s:gf kn z J p.cells N h0)(S:p.kind=1)(hN:N+1<=256)(hQ:∀h',IE kn z J (N+1) h'->hi .ret [(8,.mp J.length 0)] h'):
  @er G bA bf V2 ⟨hi⟩ [(0,.mp kn 0),(1,v),(3,lv),(8,.mp J.length 0),(9,.mp (J.length+1) 0),(10,.mp (J.length+2) 0)] h0:=by
 conv in V2=>whnf
 obtain⟨d0,d1,d2,d3,d4⟩:=ri s.p;rw[S] at d0;obtain⟨bx,bv,hX⟩:=s.fH;have aCO:bz h0 bf 1 (.mp kn 0)=a_ bx:=by simp only[bz,hX.b];rfl
 refine oq ?_;refine eF (aDO zv Ez qa p.name) ?_;rintro r ⟨l,hl1,jC,s0⟩;have EG:=(zU hl1).one;obtain⟨cX,dc,g1,g2,g3,g4,e1,e2,di,eX,n3,Xv,bJ,tZ⟩:=hX.place (r:=r) aa ⟨l,(zU hl1),jC,s0⟩;have c6:=s.lt;have jn:gf kn z J p.cells (N+1) g4:=by
  refine⟨⟨_,_,Xv⟩,⟨ig s.k.len bJ,λj Z q bt=>tZ _ _ (s.k.AJ j Z q bt) q af af,λj c q=>tZ _ _ (s.k.tok j c q) ?_ af af⟩,tZ _ _ s.r aa af af,tZ _ _ s.p aa af af,?_,c6⟩;rintro rfl;have:=s.k.tok _ c q;rw[hX.b] at this;cases this;obtain⟨Z,q1,bt⟩:=s.o;exact⟨Z,tZ _ _ q1 aa af af,bt.mono aa⟩
 obtain⟨_,ho,fv,ev,em,rfl,hf,he⟩:=jn.o;have jX:iH (N+1) (.sl [bp (N:Int)] .exact):=⟨[(N:Int)],bG ⟨_,rfl⟩,qT.one aa⟩;have XE:cq (.sl [bp (N:Int)] .exact)=bh:=rfl;unfold bp at jX XE;obtain⟨t0,t1,t2,t3,t4⟩:=rm ho XE;obtain⟨jw,qG⟩:=jn.put jn.o (b_ _) (Z:=[.bq,.bq,.sl [.v (.int .i64 (N:Int))] .exact,ev,.v (.bool em)]) ⟨_,_,_,rfl,jX,he⟩;have Yk:(g4.set (J.length+2) (.cells [.bq,.bq,.sl [.v (.int .i64 (N:Int))] .exact,ev,.v (.bool em)] bf))[J.length+2]?=a_ (.cells [.bq,.bq,.sl [.v (.int .i64 (N:Int))] .exact,ev,.v (.bool em)] bf):=bT (gl ho);generalize GQ:g4.set (J.length+2) (.cells [.bq,.bq,.sl [.v (.int .i64 (N:Int))] .exact,ev,.v (.bool em)] bf)=g5 at jw qG Yk t2;obtain⟨nu,u1,u2,u3,u4⟩:=rm Yk XE;have anM:kM (N+1) [.bq,.bq,.sl [.v (.int .i64 (N:Int))] .exact,.sl [.v (.int .i64 (N:Int))] .exact,.v (.bool em)]:=⟨_,_,_,rfl,jX,jX⟩;obtain⟨mq,vk⟩:=jw.put qG (b_ _) anM;have aio:(g5.set (J.length+2) (.cells [.bq,.bq,.sl [.v (.int .i64 (N:Int))] .exact,.sl [.v (.int .i64 (N:Int))] .exact,.v (.bool em)] bf))[J.length+2]?=a_ (.cells [.bq,.bq,.sl [.v (.int .i64 (N:Int))] .exact,.sl [.v (.int .i64 (N:Int))] .exact,.v (.bool em)] bf):=bT (gl Yk);generalize axI:g5.set (J.length+2) (.cells [.bq,.bq,.sl [.v (.int .i64 (N:Int))] .exact,.sl [.v (.int .i64 (N:Int))] .exact,.v (.bool em)] bf)=g6 at mq vk aio u3;have Hq:=(jS aio).2.2.2.2.2;obtain⟨f1,f2⟩:=mq.fin anM;exact pQ (dB @aCO (IU EG) @e1 @e2) (dB @di (IU (w:=.bq) rfl) @eX @n3) @t2 @u3 @Hq @f1 @oh (hQ _ f2)
def aBz(s:gf kn z J p.cells N h0)(S:p.kind=3)(Cw:p.tail=.no)(eP:p.kids.length<=1000000000)(ih:∀x∈p.kids,Ln G kn z v lv ps x)(hN:N+(p.kids.map λk=>cnt ps k).sum<=256)(hQ:∀h',IE kn z J (N+(p.kids.map λk=>cnt ps k).sum) h'->hi .ret [(8,.mp J.length 0)] h'):
  @er G bA bf V4 ⟨hi⟩ [(0,.mp kn 0),(1,v),(3,lv),(8,.mp J.length 0),(9,.mp (J.length+1) 0),(10,.mp (J.length+2) 0)] h0:=by
 conv in V4=>whnf
 obtain⟨d0,d1,d2,d3,d4⟩:=ri s.p;rw[S] at d0;refine wy ?_;refine dj (λj e h=>e=[(0,.mp kn 0),(1,v),(3,lv),(8,.mp J.length 0),(9,.mp (J.length+1) 0),(10,.mp (J.length+2) 0),(12,bp j)]/\gf kn z J p.cells (N+((p.kids.take j).map λk=>cnt ps k).sum) h) p.kids.length ⟨rfl,by simpa using s⟩ ?_ ?_;rintro j e h hj ⟨rfl,s⟩;obtain⟨x,I⟩:=dW hj;have yB:=zX (f:=λk=>cnt ps k) I;have sl:=Db (λk=>cnt ps k) p.kids (j+1);obtain⟨d0,d1,d2,d3,d4⟩:=ri s.p;refine oq (cm (ih x (cz I) _ h s.fH aa) ?_);rintro _ Y ⟨Z,rfl,T,hn,hL⟩;have s1:=s.lay hL hn aa;have jR:=CY T Y;unfold z5 at jR;have s2:gf kn z J p.cells _ (Y++[.cells Z bf]):=s1.app;have iC:(Y++[bw Z bf])[Y.length]?=a_ (.cells Z bf):=af
 have O:=s1.DY;obtain⟨xf,hG,mw,rfl,q_,pI⟩:=T;refine wy ?_;generalize Y.length=m at iC O⊢;generalize Y++[bw [.bq,.bq,xf,hG,.v (.bool mw)] bf]=g at s2 iC⊢;obtain⟨_,ho,fv,ev,em,rfl,hf,he⟩:=s2.o;obtain⟨q0,q1,bt,bV,fP,_⟩:=jS ho;obtain⟨x0,x1,x2,x3,pR,_⟩:=jS iC;refine wy (Kh hf q_ aa λr D=>?_);obtain⟨t0,t1,t2,t3,t4⟩:=rm ho D.one;obtain⟨ek,kz⟩:=s2.put s2.o (b_ _) (Z:=[.bq,.bq,r,ev,.v (.bool em)]) ⟨_,_,_,rfl,D,he⟩;have JH:(g.set (J.length+2) (.cells [.bq,.bq,r,ev,.v (.bool em)] bf))[J.length+2]?=a_ (.cells [.bq,.bq,r,ev,.v (.bool em)] bf):=bT (gl ho);have aah:(g.set (J.length+2) (.cells [.bq,.bq,r,ev,.v (.bool em)] bf))[m]?=a_ (.cells [.bq,.bq,xf,hG,.v (.bool mw)] bf):=by rw[bC aa];exact iC
 refine wy ?_;generalize g.set (J.length+2) (.cells [.bq,.bq,r,ev,.v (.bool em)] bf)=g' at ek kz JH aah⊢;obtain⟨q0,q1,bt,bV,fP,_⟩:=jS JH;obtain⟨x0,x1,x2,x3,pR,_⟩:=jS aah;refine wy (Kh he pI aa λr2 uc=>?_);obtain⟨t0,t1,t2,t3,t4⟩:=rm JH uc.one;obtain⟨jn,lq⟩:=ek.put kz (b_ _) (Z:=[.bq,.bq,r,r2,.v (.bool em)]) ⟨_,_,_,rfl,D,uc⟩;have Yj:(g'.set (J.length+2) (.cells [.bq,.bq,r,r2,.v (.bool em)] bf))[J.length+2]?=a_ (.cells [.bq,.bq,r,r2,.v (.bool em)] bf):=bT (gl JH);have CX:(g'.set (J.length+2) (.cells [.bq,.bq,r,r2,.v (.bool em)] bf))[m]?=a_ (.cells [.bq,.bq,xf,hG,.v (.bool mw)] bf):=by rw[bC aa];exact aah
 refine wy ?_;generalize g'.set (J.length+2) (.cells [.bq,.bq,r,r2,.v (.bool em)] bf)=g2 at jn lq Yj CX⊢;obtain⟨q0,q1,bt,bV,fP,_⟩:=jS Yj;obtain⟨x0,x1,x2,x3,pR,_⟩:=jS CX;have fin:∀b:Bool,bL g2 1 (.mp (J.length+2) 4) (.v (.bool b))=a_ (g2.set (J.length+2) (.cells [.bq,.bq,r,r2,.v (.bool b)] bf)):=λb=>(rm Yj (w:=.v (.bool b)) rfl).2.2.2.2;have Mi:∀b:Bool,gf kn z J p.cells (N+((p.kids.take (j+1)).map λk=>cnt ps k).sum) (g2.set (J.length+2) (.cells [.bq,.bq,r,r2,.v (.bool b)] bf)):=λb=>by
  rw[yB,<-mB];exact(jn.put lq (b_ _) (Z:=[.bq,.bq,r,r2,.v (.bool b)]) ⟨_,_,_,rfl,D,uc⟩).1
 cases em with
 |false=>
  refine fq @fP @pR @fin ?_;exact⟨rfl,Mi _⟩
 |true=>
  refine fq @fP @pR @fin ?_;exact⟨rfl,Mi _⟩
 rintro e h ⟨rfl,s⟩;rw[oW] at s;obtain⟨d0,d1,d2,d3,d4⟩:=ri s.p;obtain⟨Z,ho,T⟩:=s.o;obtain⟨f1,f2⟩:=s.fin T;exact lT @bp.eq_1 @d4 (zB Cw aa) (zN ho T.one.1) @f1 (hQ _ f2)
def aA9(s:gf kn z J p.cells N h0)(S:p.kind=2)(Cw:p.tail=.no)(eP:p.kids.length<=1000000000)(ih:∀x∈p.kids,Ln G kn z v lv ps x)(hN:N+(p.kids.map λk=>cnt ps k).sum<=256)(hQ:∀h',IE kn z J (N+(p.kids.map λk=>cnt ps k).sum) h'->hi .ret [(8,.mp J.length 0)] h'):
  @er G bA bf V5 ⟨hi⟩ [(0,.mp kn 0),(1,v),(3,lv),(8,.mp J.length 0),(9,.mp (J.length+1) 0),(10,.mp (J.length+2) 0)] h0:=by
 conv in V5=>whnf
 obtain⟨_,ho,fv,ev,em,rfl,hf,he⟩:=s.o;obtain⟨t0,t1,t2,t3,t4⟩:=rm ho (w:=.v (.bool bh)) rfl;obtain⟨s1,o1⟩:=s.put s.o (b_ _) (Z:=[.bq,.bq,fv,ev,.v (.bool bh)]) ⟨_,_,_,rfl,hf,he⟩;obtain⟨d0,d1,d2,d3,d4⟩:=ri s1.p;rw[S] at d0;refine wy ?_;refine dj (λj e h=>e=[(0,.mp kn 0),(1,v),(3,lv),(8,.mp J.length 0),(9,.mp (J.length+1) 0),(10,.mp (J.length+2) 0),(14,bp j)]/\gf kn z J p.cells (N+((p.kids.take j).map λk=>cnt ps k).sum) h) p.kids.length ⟨rfl,by simpa using s1⟩ ?_ ?_;rintro j e h hj ⟨rfl,s⟩;obtain⟨x,I⟩:=dW hj;have yB:=zX (f:=λk=>cnt ps k) I;have sl:=Db (λk=>cnt ps k) p.kids (j+1);obtain⟨d0,d1,d2,d3,d4⟩:=ri s.p;refine oq (cm (ih x (cz I) _ h s.fH aa) ?_);rintro _ Y ⟨Z,rfl,T,hn,hL⟩;have s1:=s.lay hL hn aa;have jR:=CY T Y;unfold z5 at jR;have s2:gf kn z J p.cells _ (Y++[.cells Z bf]):=s1.app;have iC:(Y++[bw Z bf])[Y.length]?=a_ (.cells Z bf):=af
 refine iD (zN iC T.one.1) (s2.call s2.o (b_ _) T aa λh' ek _ _=>?_);refine fS ?_;refine⟨rfl,?_⟩;rw[yB,<-mB];exact ek;rintro e h ⟨rfl,s⟩;rw[oW] at s;obtain⟨d0,d1,d2,d3,d4⟩:=ri s.p;obtain⟨Z,ho,T⟩:=s.o;obtain⟨f1,f2⟩:=s.fin T;exact lT @bp.eq_1 @d4 (zB Cw aa) (zN ho T.one.1) @f1 (hQ _ f2)
end
end
section
variable{p:cV}
section
variable{kn:Nat}{z:List bg}{J h h':List br}{pc:List bg}{w:Nat}
def gf.aEG(s:gf kn z J pc w h)(t:Ls h h')(hn:sD kn z w h'):gf kn z J pc w h':=by
 refine⟨hn,⟨by rw[t.len];exact s.k.len,λj Z q bt=>t.keep _ _ (s.k.AJ j Z q bt) af,λj c q=>t.keep _ _ (s.k.tok j c q) af⟩,t.keep _ _ s.r af,t.keep _ _ s.p af,?_,s.lt⟩;obtain⟨Z,q1,bt⟩:=s.o;exact⟨Z,t.keep _ _ q1 af,bt⟩
def gf.as_(s:gf kn z J pc w h){p:Nat}(JN:p<w):∃bv k c,bz h bf 1 (.mp kn 1)=a_ bv/\cx 1 bv (.v (.int .i64 (p:Int)))=a_ (.rp k w p)/\bz h bf 1 (.rp k w p)=a_ c/\iH w c/\∀r,iH w r->∃h',bL h 1 (.rp k w p) r=a_ h'/\gf kn z J pc w h'/\Ls h h':=by
 obtain⟨bx,bv,hX⟩:=s.fH;obtain⟨k,c,a1,a2,a3,a4⟩:=hX.cy.at JN;refine⟨bv,k,c,by simp only[bz,hX.b];rfl,a1,a2,a3,λr D=>?_⟩;obtain⟨h',b1,b2,b3⟩:=a4 r D;refine⟨h',b1,s.aEG b3 ⟨bx,bv,b3.keep _ _ hX.b af,?_,b2⟩,b3⟩;obtain⟨xs,Y,V,h3⟩:=hX.on;refine⟨xs,Y.elim bD ?_,V,h3⟩;rintro⟨id,q1,bt⟩;exact bG ⟨id,q1,b3.keep _ _ bt af⟩
end
@[go_sem]def asi{N:Nat}{Z:List bg}(h:kM N Z):eW 5 [.agg Z]=a_ (.sl [.agg Z] .exact):=by
 unfold eW;rw[if_pos ⟨Ob (rs:=[Z]) (w:=N) aW,af⟩]
def aDw(q:p.high<0):(if(1:Int)>p.low then 1 else p.low)=(p.many:Int):=by
 unfold FF;rw[if_pos q];split<;>omega
def aDy(q:¬p.high<0):p.high=(p.many:Int):=by
 unfold FF;rw[if_neg q];omega
section
variable{G:Cells}{kn N:Nat}{z:List bg}{J h0:List br}{v lv:bg}{ps:List cV}{p:cV}{hi:nU}
def aBA{x:Int}{c:Nat}(s:gf kn z J p.cells N h0)(O:IC p.low p.high)(zu:p.kids=[x])(T:cnt ps x=c)(ih:Ln G kn z v lv ps x)(hN:N+p.many*c<=256)(hQ:∀h',IE kn z J (N+p.many*c) h'->hi .ret [(8,.mp J.length 0)] h'):
  @er G bA bf aeN ⟨hi⟩ [(0,.mp kn 0),(1,v),(3,lv),(8,.mp J.length 0),(9,.mp (J.length+1) 0),(10,.mp (J.length+2) 0)] h0:=by
 conv in aeN=>whnf
 obtain⟨iT,jB,GI⟩:=O;obtain⟨lw,RZ⟩:=pT iT;have lg:1<=p.many/\p.many<=20:=by
  unfold FF;constructor<;>(split<;>(try split))<;>omega
 have RT:p.kids[0]?=a_ x:=by rw[zu];rfl
 have aCf:=alV RT;have aKK:cx 1 p.kv (.v (.int .i64 0))=a_ (.fp [.v (.int .i64 x)] 0):=aCf;refine eN (λe h=>e=[(0,.mp kn 0),(1,v),(3,lv),(8,.mp J.length 0),(9,.mp (J.length+1) 0),(10,.mp (J.length+2) 0),(16,.v (.int .i64 p.high))]/\h=h0) ?_ ?_;obtain⟨d0,d1,d2,d3,d4⟩:=ri s.p;exact wx tt;rintro e h ⟨rfl,rfl⟩;refine eN (λe h'=>e=[(0,.mp kn 0),(1,v),(3,lv),(8,.mp J.length 0),(9,.mp (J.length+1) 0),(10,.mp (J.length+2) 0),(16,bp p.many)]/\h'=h) ?_ ?_;obtain⟨d0,d1,d2,d3,d4⟩:=ri s.p;have m0:rL bh [.v (.int .i64 p.low),.v (.int .i64 1)]=a_ (.v (.int .i64 (if(1:Int)>p.low then 1 else p.low))):=rfl;refine wy (cQ (λq=>?_) λq=>?_);have q':p.high<0:=an
 rw[aDw q'] at m0;exact ff @d1 @m0 rt;have q':¬p.high<0:=an
 rw[aDy q'];exact wx rt;rintro e Y ⟨rfl,rfl⟩;refine eN (λe h'=>e=[(0,.mp kn 0),(1,v),(3,lv),(8,.mp J.length 0),(9,.mp (J.length+1) 0),(10,.mp (J.length+2) 0),(16,bp p.many),(17,.bq)]/\h'=Y) ?_ ?_;exact wx tt;rintro e V ⟨rfl,rfl⟩;refine eN (λe h=>∃rv rs,e=[(0,.mp kn 0),(8,.mp J.length 0),(9,.mp (J.length+1) 0),(10,.mp (J.length+2) 0),(16,bp p.many),(17,rv)]/\gf kn z J p.cells (N+p.many*c) h/\nS J.length (N+p.many*c) h rv rs/\rs.length=p.many) ?_ ?_;refine wy ?_;refine dj (λj e h=>∃rv rs,e=[(0,.mp kn 0),(1,v),(3,lv),(8,.mp J.length 0),(9,.mp (J.length+1) 0),(10,.mp (J.length+2) 0),(16,bp p.many),(17,rv),(18,bp j)]/\gf kn z J p.cells (N+j*c) h/\nS J.length (N+j*c) h rv rs/\rs.length=j) p.many ⟨.bq,[],rfl,by rw[Nat.zero_mul];exact s,⟨bD ⟨rfl,rfl⟩,af⟩,rfl⟩ ?_ ?_;rintro j e h hj ⟨rv,rs,rfl,s,hA,nN⟩;have ah4:N+j*c+c<=256:=by
  have:(j+1)*c<=p.many*c:=pW _ hj;rw[uF] at this;omega
 have WN:N+(j+1)*c=N+j*c+c:=by rw[uF];omega
 rw[WN];have KU:cN.wrap ((j:Int)+1)=((j+1:Nat):Int):=kI aa;refine iP (λe h'=>e=[(0,.mp kn 0),(1,v),(3,lv),(8,.mp J.length 0),(9,.mp (J.length+1) 0),(10,.mp (J.length+2) 0),(16,bp p.many),(17,rv),(18,bp j)]/\h'=h) ?_ ?_;exact eE @bp.eq_1 tt;rintro e h' ⟨rfl,rfl⟩;refine eN (λe h=>∃rv rs,e=[(0,.mp kn 0),(1,v),(3,lv),(8,.mp J.length 0),(9,.mp (J.length+1) 0),(10,.mp (J.length+2) 0),(16,bp p.many),(17,rv),(18,bp j)]/\gf kn z J p.cells (N+j*c+c) h/\nS J.length (N+j*c+c) h rv rs/\rs.length=j+1) ?_ ?_;rw[De];refine eN (λe h=>∃m Z,e=[(0,.mp kn 0),(1,v),(3,lv),(8,.mp J.length 0),(9,.mp (J.length+1) 0),(10,.mp (J.length+2) 0),(16,bp p.many),(17,rv),(18,bp j),(19,.mp m 0)]/\gf kn z J p.cells (N+j*c+c) h/\nS J.length (N+j*c+c) h rv rs/\J.length+3<=m/\h[m]?=a_ (.cells Z bf)/\kM (N+j*c+c) Z) ?_ ?_;obtain⟨d0,d1,d2,d3,d4⟩:=ri s.p;refine wy (cm (ih _ h' s.fH aa) ?_);rw[T];rintro _ Y ⟨Z,rfl,jb,hn,hL⟩;have s1:=s.lay hL hn aa;have Xj:nS J.length (N+j*c+c) Y rv rs:=hA.keep aa hL.tok;have jR:=CY jb Y;unfold z5 at jR;refine wy ?_;exact⟨_,Z,rfl,s1.app,Xj.keep (b_ _) λj c q=>bU q,s1.DY,af,jb⟩;rintro e h3 ⟨m,Z,rfl,ek,rU,M7,iC,jb⟩;obtain⟨xf,hG,mw,rfl,q_,pI⟩:=jb;refine eN (λe h=>e=[(0,.mp kn 0),(1,v),(3,lv),(8,.mp J.length 0),(9,.mp (J.length+1) 0),(10,.mp (J.length+2) 0),(16,bp p.many),(17,rv),(18,bp j),(19,.mp m 0)]/\gf kn z J p.cells (N+j*c+c) h/\nS J.length (N+j*c+c) h rv rs/\h[m]?=a_ (.cells [.bq,.bq,xf,hG,.v (.bool mw)] bf)) ?_ ?_;obtain⟨d0,d1,d2,d3,d4⟩:=ri ek.p;by_cases q:p.high<0;have w1:cN.wrap ((p.many:Int)-1)=((p.many-1:Nat):Int):=by rw[e6 aa aa];omega
 by_cases bt:j=p.many-1;have bV:((j:Int)==((p.many-1:Nat):Int))=bh:=VU bt;obtain⟨el,Ep,A8⟩:=pI;have tX:=A8.len;refine rE @bp.eq_1 @d2 @q @decide_true @w1 @bV ?_;refine dj (λi e h=>e=[(0,.mp kn 0),(1,v),(3,lv),(8,.mp J.length 0),(9,.mp (J.length+1) 0),(10,.mp (J.length+2) 0),(16,bp p.many),(17,rv),(18,bp j),(19,.mp m 0),(20,bp i)]/\gf kn z J p.cells (N+j*c+c) h/\nS J.length (N+j*c+c) h rv rs/\h[m]?=a_ (.cells [.bq,.bq,xf,hG,.v (.bool mw)] bf)) el.length ⟨rfl,ek,rU,iC⟩ ?_ ?_;rintro i e h Q ⟨rfl,jn,GC,CX⟩;obtain⟨y,hy⟩:=dW Q;obtain⟨y0,y1⟩:=A8.2 y (cz hy);obtain⟨pl,rfl⟩:=pT y0;obtain⟨bv,k,V9,b0,a1,a2,a3,a4⟩:=jn.as_ (p:=pl) aa;obtain⟨x0,x1,x2,x3,pR,_⟩:=jS CX;refine qh @bp.eq_1 @b0 @x3 (Ep.cw hy) @a1 @a2 @x2 @true_and @and_true (Kh a3 q_ aa λr D=>?_);obtain⟨h5,t1,t2,t3⟩:=a4 r D;refine pQ (dB @bp.eq_1 @b0 @x3 @Ep.len) (Ep.cw hy) @a1 @a2 @x2 @t1 @oh ?_;exact⟨t2,GC.keep (b_ _) λj c q=>t3.keep _ _ q af,t3.keep _ _ CX af⟩;rintro e h ⟨rfl,jn,GC,CX⟩;obtain⟨x0,x1,x2,x3,pR,_⟩:=jS CX;refine ff @bp.eq_1 @x3 ?_;exact⟨trivial,jn,GC,CX⟩;have bV:((j:Int)==((p.many-1:Nat):Int))=bf:=Qg bt;refine rE @bp.eq_1 @d2 @q @decide_true @w1 @bV ?_;exact⟨trivial,ek,rU,iC⟩;refine ke @bp.eq_1 @d2 @q @decide_false ?_;exact⟨trivial,ek,rU,iC⟩;rintro e h4 ⟨rfl,jn,GC,CX⟩;have jb:kM (N+j*c+c) [.bq,.bq,xf,hG,.v (.bool mw)]:=⟨_,_,_,rfl,q_,pI⟩;obtain⟨C_,h5,n3,arC,EY,wF,Hj⟩:=GC.push jn.k.len aa jb;refine wx ?_;exact⟨C_,_,rfl,jn.rest EY wF Hj,arC,by simp[nN]⟩;rintro e h ⟨rv,rs,rfl,s,hA,nN⟩;refine ff @bp.eq_1 @KU ?_;exact⟨rv,rs,rfl,s,hA,nN⟩;rintro e h ⟨rv,rs,rfl,s,hA,nN⟩;refine eE @bp.eq_1 ?_;exact⟨rv,rs,rfl,s,hA,nN⟩;rintro e h3 ⟨rv,rs,rfl,ek,rU,nN⟩;generalize hW:N+p.many*c=W at*;refine eN (λe h=>e=[(0,.mp kn 0),(8,.mp J.length 0),(9,.mp (J.length+1) 0),(10,.mp (J.length+2) 0),(16,bp p.many),(17,rv)]/\gf kn z J p.cells W h/\nS J.length W h rv rs) ?_ ?_;refine wy ?_;refine dj (λi e h=>e=[(0,.mp kn 0),(8,.mp J.length 0),(9,.mp (J.length+1) 0),(10,.mp (J.length+2) 0),(16,bp p.many),(17,rv),(21,bp i)]/\gf kn z J p.cells W h/\nS J.length W h rv rs) (min p.many lw) ⟨rfl,ek,rU⟩ ?_ ?_;rintro i e h Q ⟨rfl,s,hA⟩;obtain⟨d0,d1,d2,d3,d4⟩:=ri s.p;rw[RZ] at d1;obtain⟨Z,jb⟩:∃Z,rs[i]?=a_ Z:=⟨rs[i],cu aa⟩;obtain⟨a1,a2,a3⟩:=hA.cw jb;have KU:cN.wrap ((i:Int)+1)=((i+1:Nat):Int):=kI aa;refine wy (s.call s.o (b_ _) a3 hN λh' s' t qH=>?_);refine eE @KU ?_;obtain⟨c0,o1,_⟩:=s.o;exact⟨rfl,s',hA.pP t o1⟩;rintro e h ⟨rfl,s,hA⟩;obtain⟨d0,d1,d2,d3,d4⟩:=ri s.p;rw[RZ] at d1
 rcases ei lw p.many with q|q
 rw[Nat.min_eq_right aa];refine ff @bp.eq_1 @d1 ?_;exact⟨trivial,s,hA⟩;rw[FL q];refine eE @bp.eq_1 ?_;exact⟨trivial,s,hA⟩;rintro e h4 ⟨rfl,jn,GC⟩;refine eN (λe h=>∃m,e=[(0,.mp kn 0),(8,.mp J.length 0),(9,.mp (J.length+1) 0),(10,.mp (J.length+2) 0),(16,bp p.many),(17,rv),(22,.mp m 0)]/\gf kn z J p.cells W h/\nS J.length W h rv rs/\kL W h m/\J.length+3<=m) ?_ ?_;have sM:kM W [.bq,.bq,.bq,.bq,.v (.bool bh)]:=⟨_,_,_,rfl,FG W,FG W⟩;have jR:=CY sM h4;unfold z5 at jR;refine wy ?_;exact⟨_,rfl,jn.app,GC.keep (b_ _) λj c q=>bU q,kL.new sM,jn.DY⟩;rintro e h5 ⟨mt,rfl,jw,awF,qG,Bk⟩;refine eN (λe h=>e=[(0,.mp kn 0),(8,.mp J.length 0),(10,.mp (J.length+2) 0),(22,.mp mt 0)]/\gf kn z J p.cells W h/\kL W h mt) ?_ ?_;refine wy ?_;refine dj (λi e h=>∃k:Int,k=(p.many:Int)-1-(i:Int)/\e=[(0,.mp kn 0),(8,.mp J.length 0),(9,.mp (J.length+1) 0),(10,.mp (J.length+2) 0),(17,rv),(22,.mp mt 0),(23,.v (.int .i64 k))]/\gf kn z J p.cells W h/\nS J.length W h rv rs/\kL W h mt) (p.many-lw) ⟨_,aa,rfl,jw,awF,qG⟩ ?_ ?_;rintro i e h Q ⟨k,S,rfl,s,hA,aad⟩;obtain⟨q,rfl⟩:∃q:Nat,k=(q:Int):=⟨p.many-1-i,aa⟩;obtain⟨d0,d1,d2,d3,d4⟩:=ri s.p;rw[RZ] at d1;obtain⟨Z,jb⟩:∃Z,rs[q]?=a_ Z:=⟨rs[q]' aa,cu _⟩;obtain⟨a1,a2,a3⟩:=hA.cw jb;have w2:cN.wrap ((q:Int)-1)=(q:Int)-1:=e6 aa aa;have jR:=CY a3 h;unfold z5 at jR;obtain⟨sM,t1,t2⟩:=aad;have apU:(h++[bw Z bf])[mt]?=a_ (.cells sM bf):=bU t1;have hge:decide ((q:Int)>=(lw:Int))=bh:=ah
 have XV:decide ((lw:Int)<=(q:Int))=bh:=ah
 refine Ii @bp.eq_1 @d1 @hge @XV @a1 @a2 @jR (zN apU t2.one.1) ?_;have s1:gf kn z J p.cells W (h++[bw Z bf]):=s.app;have MH:=s.DY;have ayq:=gl t1;refine s1.call (kL.new a3) aa t2 hN λh' s' t qH=>?_;have aEP:kL W h' mt:=kL.pP ⟨sM,apU,t2⟩ t aa;have v_:nS J.length W h' rv rs:=(hA.keep (b_ _) (h':=h++[bw Z bf]) λj c q=>bU q).pP t (c0:=Z) af;generalize h.length=mx at qH t ayq MH⊢;obtain⟨_,x1,xf,hG,mw,rfl,q_,pI⟩:=qH;obtain⟨nu,u1,u2,u3,u4⟩:=rm x1 (w:=.v (.bool bh)) rfl;have Wl:kM W [.bq,.bq,xf,hG,.v (.bool bh)]:=⟨_,_,_,rfl,q_,pI⟩;obtain⟨mq,vk⟩:=s'.put (m:=mx) ⟨_,x1,_,_,_,rfl,q_,pI⟩ aa Wl;have tt:jz mx h' (h'.set mx (.cells [.bq,.bq,xf,hG,.v (.bool bh)] bf)):=jz.set;have aEQ:=aEP.pP tt aa;have awG:=v_.pP tt x1;have sr:(h'.set mx (.cells [.bq,.bq,xf,hG,.v (.bool bh)] bf))[mx]?=a_ (.cells [.bq,.bq,xf,hG,.v (.bool bh)] bf):=bT (gl x1);refine eE @u4 ?_;obtain⟨auu,y1,fW⟩:=aEQ;obtain⟨KD,vl⟩:=mq.put (m:=mt) ⟨auu,y1,fW⟩ aa Wl;have awH:=awG.pP (eM:=mt) (jz.set (b:=.cells [.bq,.bq,xf,hG,.v (.bool bh)] bf)) y1;refine ff (zN sr rfl) (Og Wl y1 fW.one.1) ?_;exact⟨_,aa,rfl,KD,awH,vl⟩;rintro e h ⟨k,S,rfl,s,hA,aad⟩;obtain⟨d0,d1,d2,d3,d4⟩:=ri s.p;rw[RZ] at d1;have hge:decide (k>=(lw:Int))=bf:=ah
 have XV:decide ((lw:Int)<=k)=bf:=ah
 refine ke @bp.eq_1 @d1 @hge @XV ?_;exact⟨trivial,s,aad⟩;rintro e h6 ⟨rfl,mq,sM,t1,t2⟩;refine iD (zN t1 t2.one.1) (mq.call mq.o (b_ _) t2 hN λh' s' t qH=>?_);obtain⟨co,o1,o2⟩:=qH;obtain⟨f1,f2⟩:=s'.fin o2;exact ff (zN o1 o2.one.1) @f1 (hQ _ f2)
end
end
section
variable{N n0:Nat}{v:bg}{rows:List (List bg)}
def yY(N:Nat)(v:bg):Prop:=∃l:List Int,cC v (l.map bp)/\qT N l
def FW(v:bg):Prop:=∃l:List Int,cC v (l.map bp)/\l.length<=256/\∀y∈l,(0:Int)<=y/\y<256
def yY.one(h:yY N v):cq v=bh:=aM4
def FW.one(h:FW v):cq v=bh:=aM4
def yY.clean(h:yY N v):eT v:=by obtain⟨l,q,_⟩:=h;exact Gg q
def FW.clean(h:FW v):eT v:=by obtain⟨l,q,_⟩:=h;exact Gg q
def iH.fz(h:iH N v)(J:List br):∃v',b6 J v v'/\yY N v':=by
 obtain⟨l,Y,V⟩:=h;obtain⟨v',q1,bt⟩:=Y.fz J;exact⟨v',q1,l,bt,V⟩
def aop(J:List br):∀{Z:List bg},(∀c∈Z,iH N c)->∃ys,e_ J Z ys/\ys.length=Z.length/\∀y∈ys,yY N y
 |[],_=>⟨[],cZ,rfl,af⟩
 |c::r,h=>by
  obtain⟨v',q1,bt⟩:=(h c af).fz J;obtain⟨ys,k1,k2,gN⟩:=aop J (Z:=r) λx I=>h x aA;refine⟨v'::ys,bF q1 k1,by simp[k2],λy hy=>?_⟩
  rcases fc.1 hy with rfl|hy
  exact bt;exact gN y hy
def ai2(J:List br):∀{Z:List bg},(∀x∈Z,∃l,qS x l/\l.length<=256/\∀y∈l,(0:Int)<=y/\y<256)->∃ys,e_ J Z ys/\ys.length=Z.length/\∀y∈ys,FW y
 |[],_=>⟨[],cZ,rfl,af⟩
 |c::r,h=>by
  obtain⟨l,Y,V,h3⟩:=h c af;obtain⟨v',q1,bt⟩:=Y.fz J;obtain⟨ys,k1,k2,gN⟩:=ai2 J (Z:=r) λx I=>h x aA;refine⟨v'::ys,bF q1 k1,by simp[k2],λy hy=>?_⟩
  rcases fc.1 hy with rfl|hy
  exact⟨l,bt,V,h3⟩;exact gN y hy
def Lj(r:bg):Prop:=∃(N:Nat) (bx bv f e:bg) (b:Bool) (xs ys:List bg),r=.agg [bx,bv,f,e,.v (.bool b)]/\N<=256/\cC bx xs/\xs.length=N/\(∀x∈xs,FW x)/\cC bv (ys.map λy=>.agg [y])/\ys.length=N/\(∀y∈ys,yY N y)/\yY N f/\yY N e
def aGO(Z:List bg):(Z.map λc=>[c]).flatten=Z:=by
 induction Z with
 |nil=>rfl
 |cons a r ih=>rw[fQ,vF,ih];rfl
def I_{xs:List bg}(h:cC v xs)(I:∀x∈xs,∀c∈x.cells,eT c):eT v:=by
 rcases h with rfl|⟨rfl,_⟩
 exact k7 I;exact nY
def Lj.clean{r:bg}(h:Lj r):eT r:=by
 obtain⟨N,bx,bv,f,e,b,xs,ys,rfl,hN,Y,V,h3,h4,h5,h6,h7,h8⟩:=h;refine Gd λc T=>?_;simp only[fc,pV,or_false] at T
 rcases T with rfl|rfl|rfl|rfl|rfl
 refine I_ Y λx I c T=>?_;rw[rO (h3 x I).one] at T;rw[dP.1 T];exact(h3 x I).clean;refine I_ h4 λx I c T=>?_;obtain⟨y,hy,rfl⟩:=dX.1 I;rw[dP.1 (show c∈[y] from T)];exact(h6 y hy).clean;exact h7.clean;exact h8.clean;exact cP _
def amW{h:List br}{kn:Nat}{z:List bg}{bx bv f e:bg}{b:Bool}(hX:uK kn z N bx bv h)(hN:N<=256)(hf:iH N f)(he:iH N e){g:List br}(hg:∀(j:Nat) Z,h[j]?=a_ (.cells Z bh)->g[j]?=a_ (.cells Z bh)):∃n bS,dx g n (.agg [bx,bv,f,e,.v (.bool b)])=a_ bS/\Lj bS:=by
 obtain⟨xs,hA,s6,Se⟩:=hX.on;obtain⟨xs',x1,x2,x3⟩:=ai2 g Se;obtain⟨cX,o1,o2⟩:∃cX,b6 g bx cX/\cC cX xs':=by
  rcases hA with⟨rfl,q⟩|⟨id,rfl,_⟩
  rw[q] at x2;exact⟨.bq,ey,bG ⟨rfl,ou (by simpa using x2)⟩⟩;exact⟨_,gQ x1,bD rfl⟩
 obtain⟨Z,c1,c2,c3⟩:=hX.cy;obtain⟨ys,y1,fW,mz⟩:=aop g c2;obtain⟨dc,b1,b2⟩:∃dc,b6 g bv dc/\cC dc (ys.map λy=>.agg [y]):=by
  rcases c3 with⟨rfl,q⟩|⟨k,rfl,S⟩
  rw[q] at fW;have:ys=[]:=ou (by simpa using fW);subst this;exact⟨.bq,ey,bG ⟨rfl,rfl⟩⟩;have V:=b6.rs (sz:=1) (o:=0) (len:=N) (hg k Z S) (m:=N) c1.symm y1;have hE:mW 1 (ys.map λc=>[c]):=λx I=>by
   obtain⟨y,hy,rfl⟩:=dX.1 I;exact⟨rfl,by simp[(mz y hy).one]⟩
  have e1:=Q9 [] hE;rw[gd,show([]:List bg).length=0 from rfl,aGO,cS,fW,c1] at e1;rw[e1] at V;refine⟨_,V,bD ?_⟩;rw[yM];rfl
 obtain⟨f',f1,f2⟩:=hf.fz g;obtain⟨e',e1,e2⟩:=he.fz g;obtain⟨n,hn⟩:=(jO (bF o1 (bF b1 (bF f1 (bF e1 (bF (bH (.bool b)) cZ))))):b6 g _ _).done;exact⟨n,_,hn,N,cX,dc,f',e',b,xs',ys,rfl,hN,o2,by rw[x2,s6],x3,b2,by rw[fW,c1],mz,f2,e2⟩
section
variable{G:Cells}{kn:Nat}{z:List bg}{v lv:bg}{ps:List cV}
def asy(h:yU n0 v ps)(mH:n0<=100000000)(zv:cC lv (rows.map dG))(ga:eT lv)(Ez:∀x∈rows,xm x)(qa:rows.length<=1000000000):∀(n i:Nat),i<n->i<ps.length->sz ps (i:Int)<=1000000000->Ln G kn z v lv ps (i:Int):=by
 intro n
 induction n with
 |zero=>intro i Q;omega
 |succ n ih=>
  intro i Q hl dw N J hX En;obtain⟨p,eK⟩:=dW hl;have mh:=h.ok i p eK;have qc:=h.no p (cz eK);have T:=afi h.ok.kids eK;have q7:=h.len;have hs:=Uf h.ok.kids eK;have aKr:=Ue (λk=>sz ps k) p.kids;have S:∀x∈p.kids,Ln G kn z v lv ps x:=λx I=>by
   obtain⟨j,hj⟩:=K7.1 I;have aHF:=zX (f:=λk=>sz ps k+1) hj;have aHG:=Db (λk=>sz ps k+1) p.kids (j+1);obtain⟨x0,x1⟩:=mh.2 x I;obtain⟨xn,rfl⟩:=pT x0;exact ih xn aa aa aa
  have eP:p.kids.length<=1000000000:=aa
  have c6:=hX.lt;refine ajh.go ?_;have e1:cx 5 v (.v (.int .i64 (i:Int)))=a_ (.fp p.cells 0):=h.v.cw (x:=p.bE) aMC rfl;have e2:∀J,bz J bh 5 (.fp p.cells 0)=a_ (.agg p.cells):=λJ=>rfl;refine eN (λe g=>e=[(0,.mp kn 0),(1,v),(2,.v (.int .i64 (i:Int))),(3,lv),(8,.mp J.length 0)]/\g=J++[.cells z5 bf]) ?_ ?_;exact wx vA;rintro e g ⟨rfl,hg⟩;have gl:g.length=J.length+1:=by rw[hg];simp
  refine eN (λe g2=>e=[(0,.mp kn 0),(1,v),(3,lv),(8,.mp J.length 0),(9,.mp (J.length+1) 0)]/\g2=g++[.cells p.cells bf]) ?_ ?_;have s1:=zW g p;rw[gl] at s1;exact ke @e1 @e2 @gl @s1 tt;rintro e g2 ⟨rfl,l_⟩;have Mr:g2.length=J.length+2:=by rw[l_];simp;omega
  refine eN (λe h0=>e=[(0,.mp kn 0),(1,v),(3,lv),(8,.mp J.length 0),(9,.mp (J.length+1) 0),(10,.mp (J.length+2) 0)]/\gf kn z J p.cells N h0) ?_ ?_;have jR:=CY (kM.z5 N) g2;have f5:dI [.bq,.bq,.bq,.bq,.v (.bool bf)] []=a_ z5:=rfl;unfold z5 at jR f5;rw[Mr] at jR;refine fq @f5 @Mr @jR ?_;refine⟨trivial,?_⟩;show gf kn z J p.cells N (g2++[.cells z5 bf]);subst hg;subst l_;refine⟨((hX.app).app).app,((pZ.app.trans pZ.app).trans pZ.app),af,af,?_,c6⟩;have:=kL.new (N:=N) (h:=J++[bw z5 bf]++[bw p.cells bf]) (kM.z5 N);rw[Mr] at this;exact this;rintro e h0 ⟨rfl,s⟩;have fin:∀{M:Nat},M=cnt ps (i:Int)->∀h',IE kn z J (N+M) h'->@Kw [(.c 8 bh 5)] ⟨ac3 kn z J (N+cnt ps (i:Int))⟩ ⟨λ_ _=>False⟩ .ret [(8,.mp J.length 0)] h':=by
   rintro M rfl h' ⟨Z,q1,bt,bV,fP⟩;refine eE (zN q1 bt.one.1) ?_;exact⟨Z,rfl,bt,bV,fP⟩
  obtain⟨d0,d1,d2,d3,d4⟩:=ri s.p;by_cases k1:p.kind=1;rw[if_pos k1] at T;exact aAG zv ga Ez qa s k1 aa (fin T.symm);rw[if_neg k1] at T;have bR:(p.kind==1)=bf:=by simpa using k1
  refine iP (λe h'=>e=[(0,.mp kn 0),(1,v),(3,lv),(8,.mp J.length 0),(9,.mp (J.length+1) 0),(10,.mp (J.length+2) 0)]/\h'=h0) ?_ ?_;exact wx tt;rintro e Y ⟨rfl,rfl⟩;by_cases gN:p.kind=3;rw[if_neg aa,FM] at T;exact aBz s gN qc eP S aa (fin T.symm);have Yi:(p.kind==3)=bf:=by simpa using gN
  refine iP (λe h'=>e=[(0,.mp kn 0),(1,v),(3,lv),(8,.mp J.length 0),(9,.mp (J.length+1) 0),(10,.mp (J.length+2) 0)]/\h'=Y) ?_ ?_;exact wx tt;rintro e V ⟨rfl,rfl⟩;by_cases k2:p.kind=2;rw[if_neg aa,FM] at T;exact aA9 s k2 qc eP S aa (fin T.symm);have aik:(p.kind==2)=bf:=by simpa using k2
  have hz:p.kind=4/\p.kids.length=1/\IC p.low p.high:=by
   rcases mh.1 with q|q|q
   omega;omega;exact q
  obtain⟨x,zu⟩:=FJ.1 hz.2.1;rw[if_pos hz.1,zu] at T;simp only[fQ,kX,Aj,Iz,nB] at T;obtain⟨_,ho,fv,ev,em,rfl,hf,he⟩:=s.o;obtain⟨t0,t1,t2,t3,t4⟩:=rm ho (w:=.v (.bool bh)) rfl;obtain⟨s1,o1⟩:=s.put s.o (b_ _) (Z:=[.bq,.bq,fv,ev,.v (.bool bh)]) ⟨_,_,_,rfl,hf,he⟩;refine iP (λe h'=>e=[(0,.mp kn 0),(1,v),(3,lv),(8,.mp J.length 0),(9,.mp (J.length+1) 0),(10,.mp (J.length+2) 0)]/\gf kn z J p.cells N h') ?_ ?_;refine eE @t4 ?_;exact⟨trivial,s1⟩;rintro e h3 ⟨rfl,ek⟩;obtain⟨d0,d1,d2,d3,d4⟩:=ri ek.p;refine iP (λe h'=>e=[(0,.mp kn 0),(1,v),(3,lv),(8,.mp J.length 0),(9,.mp (J.length+1) 0),(10,.mp (J.length+2) 0)]/\h'=h3) ?_ ?_;exact wx tt;rintro e h4 ⟨rfl,rfl⟩;exact aBA ek hz.2.2 zu rfl (S x (by rw[zu];simp)) aa (fin T.symm)
def aEw(h:yU n0 v ps)(mH:n0<=100000000)(zv:cC lv (rows.map dG))(ga:eT lv)(Ez:∀x∈rows,xm x)(qa:rows.length<=1000000000)(En:ps≠[]->cnt ps ((ps.length-1:Nat):Int)<=256/\sz ps ((ps.length-1:Nat):Int)<=1000000000):dV G bA 97 [v,lv] Lj:=by
 refine ep (aAF.go ?_);have q7:=h.len;have ln:=h.v.cH;rw[cS] at ln;have mm:∀J,cH v J=a_ (.v (.int .i64 (ps.length:Int)),J):=λJ=>aLB
 have sM:kM 0 [.bq,.bq,.bq,.bq,.v (.bool bh)]:=⟨_,_,_,rfl,FG _,FG _⟩;have f5:dI [.bq,.bq,.bq,.bq,.v (.bool bf)] [(4,1,.v (.bool bh))]=a_ [.bq,.bq,.bq,.bq,.v (.bool bh)]:=rfl;refine eN (λe g=>e=[(0,v),(1,lv),(4,.mp 0 0)]/\g=[.cells z5 bf]) ?_ ?_;exact wx vA;rintro e g ⟨rfl,hg⟩;have gl:g.length=1:=by rw[hg];rfl
 refine eN (λe g2=>e=[(0,v),(1,lv),(4,.mp 0 0),(5,.mp 1 0)]/\g2=[.cells z5 bf]++[.cells [.bq,.bq,.bq,.bq,.v (.bool bh)] bf]) ?_ ?_;have jR:=CY sM g;unfold z5 at jR;rw[gl] at jR;refine jE @f5 @gl @jR ?_;exact⟨trivial,by rw[hg]⟩;rintro e g2 ⟨rfl,l_⟩;have ahy:uK 1 [.bq,.bq,.v (.bool bh)] 0 .bq .bq g2:=by
  rw[l_];exact⟨rfl,⟨[],bD ⟨rfl,rfl⟩,rfl,af⟩,⟨[],rfl,af,bD ⟨rfl,rfl⟩⟩⟩
 have g0:g2[0]?=a_ (.cells z5 bf):=by rw[l_];rfl
 have g1:g2[1]?=a_ (.cells [.bq,.bq,.bq,.bq,.v (.bool bh)] bf):=by rw[l_];rfl
 rcases Dw ps.length with hz|hz
 have b7:((ps.length:Int)==0)=bh:=aNs
 have g_:=Og sM g0 rfl;have q0:(g2.set 0 (.cells [.bq,.bq,.bq,.bq,.v (.bool bh)] bf))[0]?=a_ (.cells [.bq,.bq,.bq,.bq,.v (.bool bh)] bf):=bT (cJ.1 g0).1;refine lT @mm @b7 (zN g1 rfl) @g_ (zN q0 rfl) ?_;exact amW ahy aa (FG _) (FG _) λj Z q=>by rw[bC (by rintro rfl;rw[g0] at q;simp at q)];exact q
 have b7:((ps.length:Int)==0)=bf:=beq_eq_false_iff_ne.2 aa;have bR:ps≠[]:=by rintro rfl;simp at hz
 obtain⟨A5,ayX⟩:=En bR;have w1:cN.wrap ((ps.length:Int)-1)=((ps.length-1:Nat):Int):=by rw[e6 aa aa];omega
 refine fq @mm @b7 @w1 ?_;refine cm (asy (G:=G) h mH zv ga Ez qa _ (ps.length-1) (yQ _) aa ayX 0 g2 ⟨_,_,ahy⟩ aa) ?_;rw[gA];rintro _ g3 ⟨Z,rfl,jb,hn,hL⟩;have jR:=CY jb g3;unfold z5 at jR;have bS:(g3++[bw Z bf])[0]?=a_ (.cells z5 bf):=bU (hL.AJ 0 _ ag g0);have rX:sD 1 [.bq,.bq,.v (.bool bh)] (cnt ps ((ps.length-1:Nat):Int)) (g3++[bw Z bf]):=hn.app;have rx:(g3++[bw Z bf])[g3.length]?=a_ (.cells Z bf):=af
 have kU:2<=g3.length:=by have:=hL.len;rw[l_] at this;simpa using this
 obtain⟨xf,hG,mw,rfl,q_,pI⟩:=jb;refine wx ?_;generalize g3.length=m at rx kU⊢;generalize g3++[bw [.bq,.bq,xf,hG,.v (.bool mw)] bf]=X at bS rX rx⊢;generalize cnt ps ((ps.length-1:Nat):Int)=M at*;obtain⟨bx,bv,hX⟩:=rX;have O:=hX.b;have aES:cq bx=bh:=by
  obtain⟨xs,hA,_⟩:=hX.on
  rcases hA with⟨q,_⟩|⟨_,q,_⟩<;>rw[q]<;>rfl
 have step:∀(X:List br) (a c d:bg) (b:Bool),X[1]?=a_ (.cells [bx,bv,c,d,.v (.bool b)] bf)->X[0]?=a_ (.cells z5 bf)->X[m]?=a_ (.cells [.bq,.bq,xf,hG,.v (.bool mw)] bf)->(∀(j:Nat) Z,X[j]?=a_ (.cells Z bh)->X[j]?=a_ (.cells Z bh))->∀(c' d':bg) (b':Bool),
   (X.set 1 (.cells [bx,bv,c',d',.v (.bool b')] bf))[1]?=a_ (.cells [bx,bv,c',d',.v (.bool b')] bf)/\(X.set 1 (.cells [bx,bv,c',d',.v (.bool b')] bf))[0]?=a_ (.cells z5 bf)/\(X.set 1 (.cells [bx,bv,c',d',.v (.bool b')] bf))[m]?=a_ (.cells [.bq,.bq,xf,hG,.v (.bool mw)] bf)/\(∀(j:Nat) Z,X[j]?=a_ (.cells Z bh)->(X.set 1 (.cells [bx,bv,c',d',.v (.bool b')] bf))[j]?=a_ (.cells Z bh)):=λX a c d b Y h0 hm _ c' d' b'=>
  ⟨bT (cJ.1 Y).1,by rw[bC aa];exact h0,by rw[bC aa];exact hm,λj Z q=>aL4⟩
 obtain⟨nu,u1,u2,u3,u4⟩:=rm O q_.one;obtain⟨a1,a0,am,B_⟩:=step X bx _ _ _ O bS rx (λ_ _ q=>q) xf .bq bh;refine wx ?_;generalize X.set 1 (.cells [bx,bv,xf,.bq,.v (.bool bh)] bf)=adv at a1 a0 am B_⊢;obtain⟨nu,u1,u2,u3,u4⟩:=rm a1 pI.one;obtain⟨b1,b0,bm,bk⟩:=step adv bx _ _ _ a1 a0 am (λ_ _ q=>q) xf hG bh;refine wx ?_;generalize adv.set 1 (.cells [bx,bv,xf,hG,.v (.bool bh)] bf)=y4 at b1 b0 bm bk⊢;obtain⟨nu,u1,u2,u3,u4⟩:=rm b1 (w:=.v (.bool mw)) rfl;obtain⟨c1,c0,vV,Qy⟩:=step y4 bx _ _ _ b1 b0 bm (λ_ _ q=>q) xf hG mw;refine wx ?_;generalize y4.set 1 (.cells [bx,bv,xf,hG,.v (.bool mw)] bf)=ar7 at c1 c0 vV Qy⊢;unfold z5 at c0;have Up:=NV (a':=bx) (b':=bv) (c':=xf) (d':=hG) (e':=.v (.bool mw)) c0 (by simp only[qk,tB,aES,hX.cy.one,q_.one,pI.one];rfl);have v0:(ar7.set 0 (.cells [bx,bv,xf,hG,.v (.bool mw)] bf))[0]?=a_ (.cells [bx,bv,xf,hG,.v (.bool mw)] bf):=bT (cJ.1 c0).1;refine wx ?_;exact amW hX A5 q_ pI λj Z q=>by
  have bV:=Qy _ _ (bk _ _ (B_ _ _ q));rw[bC (by rintro rfl;rw[c0] at bV;simp at bV)];exact bV
end
end
section
variable{c:bg}{k n:Nat}{Z:List bg}{g:List br}
def y2(N:Nat)(c:bg):Prop:=∃l,qS c l/\l.length<=70000/\∀x∈l,(0:Int)<=x/\x<(N:Int)
def y2.one{N:Nat}(h:y2 N c):cq c=bh:=by obtain⟨l,q,_⟩:=h;exact q.one
@[go_sem]def aa8{xs:List bg}{t:o6}{i:Nat}(h:xs[i]?=a_ c)(Y:cq c=bh):cx 1 (.sl xs t) (.v (.int .i64 (i:Int)))=a_ (.fp [c] 0):=by
 have:=lE (n:=1) (t:=t) (k:=.i64) h (by rw[rO Y];rfl);rw[rO Y] at this;exact this
section
variable{h:List br}{k:Nat}{a b c:bg}
@[go_sem]def Hz(O:h[k]?=a_ (.cells [a,b,c] bf)):bz h bf 1 (.mp k 0)=a_ a/\bz h bf 1 (.mp k 1)=a_ b/\bz h bf 1 (.mp k 2)=a_ c/\bz h bh 3 (.mp k 0)=a_ (.agg [a,b,c]):=by
 simp only[bz,O];exact⟨rfl,rfl,rfl,rfl⟩
end
@[go_sem]def AH(S:g[k]?=a_ (.cells Z bf))(h0:Z.length=n):bz g bh n (.mp k 0)=a_ (.agg Z):=by
 simp only[bz,S];unfold e9;rw[if_pos rfl,if_pos aa,pU,ow aa]
@[go_sem]def uT{cs0:List bg}(S:g[k]?=a_ (.cells cs0 bf))(h0:cs0.length=n)(Y:Z.length=n)(V:Z.all cq=bh):bL g n (.mp k 0) (.agg Z)=a_ (g.set k (.cells Z bf)):=by
 simp only[bL,S,fu];have eX:(dG Z).cells=Z:=rfl;rw[eX,if_pos ⟨Y,aa,V⟩];unfold dS;rw[mS,gd,w4 aa,fZ]
section
variable{G:Cells}{N kt:Nat}{sv bB bE w:bg}{b5:List bg}{t:o6}{J:List br}
def avl(O:J[kt]?=a_ (.cells [.sl b5 t,bB,bE] bf))(hs:∀c∈b5,y2 N c)(hl1:1<=b5.length)(jC:b5.length<=1000)(hw:y2 N w):ct G bA 161 [.mp kt 0,w] J λr bl=>bl=J/\∃n:Int,r=.v (.int .i64 n)/\ -1<=n/\n<(b5.length:Int):=by
 refine aA3.go ?_;obtain⟨wl,w1,w2,w3⟩:=hw;obtain⟨w',wi,ws⟩:=w1.imp;refine wy ?_;refine dj (λi e h=>e=[(0,.mp kt 0),(1,w),(5,.v (.int .i64 ((i+1:Nat):Int)))]/\h=J) (b5.length-1) ⟨rfl,rfl⟩ ?_ ?_;rintro i e h Q ⟨rfl,rfl⟩;obtain⟨c,T⟩:∃c,b5[i+1]?=a_ c:=⟨b5[i+1]' aa,cu _⟩;have jb:=hs c (cz T);have cw:=aa8 (t:=t) T jb.one;obtain⟨cD,c1,c2,c3⟩:=jb;obtain⟨c',ci,Z⟩:=c1.imp;refine wy ?_;refine eF (aGi Z ws aa aa) ?_;rintro r ⟨b,rfl⟩;cases b with
 |false=>
  exact wx tt
 |true=>
  refine wx ?_;exact⟨trivial,_,rfl,aa,aa⟩
 rintro e h ⟨rfl,rfl⟩;refine wx ?_;exact⟨trivial,_,rfl,aa,aa⟩
structure Flags(N k:Nat)(bs:List bg)(h:List br):Prop where
 b:h[k]?=a_ (.cells bs bh)
 len:bs.length=N
 ok:∀c∈bs,∃b:Bool,c=.v (.bool b)
section
variable{k p:Nat}{bs:List bg}{h:List br}
@[go_sem]def Jk(J:p<N):cx 1 (.rs k N 1 0 N) (.v (.int .i64 (p:Int)))=a_ (.rp k N p):=by
 have:=TF (k:=k) (m:=N) (n:=1) (len:=N) (j:=p) J;rw[Nat.mul_one] at this;exact this
def Flags.gk(s:Flags N k bs h)(J:p<N):∃b:Bool,bs[p]?=a_ (.v (.bool b))/\bz h bf 1 (.rp k N p)=a_ (.v (.bool b)):=by
 have hl:=s.len;obtain⟨c,T⟩:∃c,bs[p]?=a_ c:=⟨bs[p]' aa,cu _⟩;obtain⟨b,rfl⟩:=s.ok c (cz T);refine⟨b,T,?_⟩;simp only[bz,s.b,s.len,if_true,e9];rw[if_neg af];exact T
def Flags.st(s:Flags N k bs h)(J:p<N):bL h 1 (.rp k N p) (.v (.bool bh))=a_ (h.set k (.cells (bs.set p (.v (.bool bh))) bh))/\Flags N k (bs.set p (.v (.bool bh))) (h.set k (.cells (bs.set p (.v (.bool bh))) bh)):=by
 have hl:=s.len;have S:=gl s.b;refine⟨?_,bT S,aMT,λc T=>?_⟩;have eX:(dh (.bool bh)).cells=[.v (.bool bh)]:=rfl;simp only[bL,s.b,s.len,if_true,fu,eX];rw[if_pos ⟨rfl,aa,rfl⟩,On aa]
 rcases Pu T with q|rfl
 exact s.ok c q;exact⟨bh,rfl⟩
end
def arD(B:Nat)(h:List br)(c:bg)(xs:List bg):Prop:=(c=.bq/\xs=[])\/∃id,c=.sl xs (.tok id)/\B<=id/\h[id]?=a_ (.tok xs.length 1 3)
structure yW(B N M:Nat)(fO:List bg)(h:List br):Prop where
 len:fO.length=32
 row:∀(s:Nat) c,fO[s]?=a_ c->∃l:List Int,arD B h c (l.map bp)/\l.length<=M/\∀x∈l,(0:Int)<=x/\x<(N:Int)
 one:∀(s s' id:Nat) xs xs',fO[s]?=a_ (.sl xs (.tok id))->fO[s']?=a_ (.sl xs' (.tok id))->s=s'
section
variable{B M M' s:Nat}{fO:List bg}{h h':List br}{c:bg}
def yW.keep(q:yW B N M fO h)(hM:M<=M')(S:∀(j c:Nat),h[j]?=a_ (.tok c 1 3)->h'[j]?=a_ (.tok c 1 3)):yW B N M' fO h':=by
 refine⟨q.len,λs c T=>?_,q.one⟩;obtain⟨l,Y,V,h3⟩:=q.row s c T;refine⟨l,Y.elim bD ?_,aa,h3⟩;rintro⟨id,e1,eb,e2⟩;exact bG ⟨id,e1,eb,S _ _ e2⟩
def yW.push(q:yW B N M fO h)(T:fO[s]?=a_ c)(hB:B<=h.length)(hM:M<=100000){p:Nat}(J:p<N):∃cl g,eg h 1 8 3 c (.sl [.v (.int .i64 (p:Int))] .exact)=a_ (cl,g)/\cq cl=bh/\yW B N (M+1) (fO.set s cl) g/\h.length<=g.length/\(∀(j:Nat) Z fz,h[j]?=a_ (.cells Z fz)->g[j]?=a_ (.cells Z fz))/\∀(j:Nat) b,h[j]?=a_ b->(∀xs,c≠.sl xs (.tok j))->g[j]?=a_ b:=by
 obtain⟨l,Y,V,h3⟩:=q.row s c T;have wA:=gl T;have I:=HG l;have hy:cY 1 [dh (.int .i64 (p:Int))]=bh:=rfl;have Xh:∀x∈l++[(p:Int)],(0:Int)<=x/\x<(N:Int):=λx I=>by
  rcases fB.1 I with y|y
  exact h3 x y;rw[dP.1 y];omega
 rcases Y with⟨rfl,e⟩|⟨id,rfl,awK,hid⟩
 have:l=[]:=arl.1 e;subst this;refine⟨.sl ([]++[.v (.int .i64 (p:Int))]) (.tok h.length),h++[.tok 1 1 3],?_,rfl,⟨by rw[rH];exact q.len,λs' c' jr=>?_,λs1 s2 id xs xs' k1 k2=>?_⟩,af,λj Z fz k=>bU k,λj b k _=>bU k⟩;simp[eg,gY,iI,iA,hy];by_cases JP:s=s';subst JP;rw[bT wA] at jr;cases jr;exact⟨[]++[(p:Int)],bG ⟨h.length,rfl,hB,af⟩,af,Xh⟩;rw[bC JP] at jr;obtain⟨l',r1,r2,jT⟩:=q.row s' c' jr;refine⟨l',r1.elim bD ?_,aa,jT⟩;rintro⟨id,e1,eb,e2⟩;exact bG ⟨id,e1,eb,bU e2⟩;have old:∀{s':Nat} {ys:List bg},s≠s'->fO[s']?=a_ (.sl ys (.tok id))->id<h.length:=λ{s' ys} _ k=>by
  obtain⟨l',r1,_⟩:=q.row s' _ k
  rcases r1 with⟨r,_⟩|⟨n_,r,_,r2⟩
  cases r;cases r;exact gl r2
 by_cases a1:s=s1<;>by_cases a2:s=s2;omega;subst a1;rw[bT wA] at k1;rw[bC a2] at k2;cases k1;have:=old a2 k2;omega;subst a2;rw[bT wA] at k2;rw[bC a1] at k1;cases k2;have:=old a1 k1;omega;rw[bC a1] at k1;rw[bC a2] at k2;exact q.one s1 s2 id _ _ k1 k2;have hl:id<h.length:=gl hid;rw[cS] at hid;have hfit:(l.length+1)*8<=140737488355328:=aa
 refine⟨.sl (l.map bp++[.v (.int .i64 (p:Int))]) (.tok id),h.set id (.tok (l.length+1) 1 3),?_,rfl,⟨by rw[rH];exact q.len,λs' c' jr=>?_,λs1 s2 n_ xs xs' k1 k2=>?_⟩,af,λj Z fz k=>by rw[bC (by rintro rfl;rw[hid] at k;cases k)];exact k,λj b k bR=>by
  rw[bC (by rintro rfl;exact bR _ rfl)];exact k⟩
 simp[eg,gY,iI,iA,hy,hfit,I,hid];by_cases JP:s=s';subst JP;rw[bT wA] at jr;cases jr;exact⟨l++[(p:Int)],bG ⟨id,by simp[bp],awK,aLT⟩,ah,Xh⟩;rw[bC JP] at jr;obtain⟨l',r1,r2,jT⟩:=q.row s' c' jr;refine⟨l',r1.elim bD ?_,aa,jT⟩;rintro⟨n_,e1,eb,e2⟩;refine bG ⟨n_,e1,eb,?_⟩;rw[bC (by rintro rfl;subst e1;exact JP (q.one s s' _ _ _ T jr))];exact e2;by_cases a1:s=s1<;>by_cases a2:s=s2;omega;subst a1;rw[bT wA] at k1;rw[bC a2] at k2;cases k1;exact q.one _ _ _ _ _ T k2;subst a2;rw[bT wA] at k2;rw[bC a1] at k1;cases k2;exact q.one _ _ _ _ _ k1 T;rw[bC a1] at k1;rw[bC a2] at k2;exact q.one s1 s2 n_ _ _ k1 k2
def yW.set(q:yW B N M fO h)(T:fO[s]?=a_ c)(hM:M<=70000):y2 N c:=by
 obtain⟨l,Y,V,h3⟩:=q.row s c T;refine⟨l,?_,aa,h3⟩
 rcases Y with⟨rfl,e⟩|⟨id,rfl,_⟩
 exact bD ⟨rfl,arl.1 e⟩;exact bG ⟨_,rfl⟩
end
end
end
section
variable{M N m:Nat}{ec fO:List bg}{h J:List br}
structure yS(N:Nat)(J:List br)(ec:List bg)(h:List br):Prop where
 n:h[J.length]?=a_ (.cells ec bf)
 r:h[J.length+1]?=a_ (.cells (fk 32 .bq) bf)
 m:∃bs,Flags N (J.length+2) bs h
 x:Ext J h
section
variable{N p:Nat}{J h:List br}{ec:List bg}
def yS.st(s:yS N J ec h)(GY:p<N):∃h',bL h 1 (.rp (J.length+2) N p) (.v (.bool bh))=a_ h'/\yS N J ec h':=by
 obtain⟨bs,q⟩:=s.m;obtain⟨a1,a2⟩:=q.st GY;refine⟨_,a1,by rw[bC aa];exact s.n,by rw[bC aa];exact s.r,⟨_,a2⟩,λj b k=>?_⟩;have:=gl k;rw[bC aa];exact s.x j b k
end
structure yR(N M:Nat)(J:List br)(ec fO:List bg)(m:Nat)(h:List br):Prop where
 s:yS N J ec h
 o:h[m]?=a_ (.cells fO bf)
 q:yW J.length N M fO h
 DY:J.length+3<=m
def yW.aEE{B:Nat}(q:yW B N M fO h):fO.all cq=bh:=by
 rw[eG];intro c T;obtain⟨s,hs⟩:=K7.1 T;obtain⟨l,Y,_⟩:=q.row s c hs
 rcases Y with⟨rfl,_⟩|⟨_,rfl,_⟩<;>rfl
def yR.mono{M':Nat}(z:yR N M J ec fO m h)(hM:M<=M'):yR N M' J ec fO m h:=⟨z.s,z.o,z.q.keep hM λ_ _ k=>k,z.DY⟩
def aee{h':List br}{n:Nat}{p v:bg}(e:bL h n p v=a_ h'):h'.length=h.length:=by
 unfold bL at e;split at e;split at e;unfold fu at e;split at e;cases e;simp;cases e;cases e;split at e;split at e;unfold fu at e;split at e;cases e;simp;cases e;cases e;cases e;cases e
def yR.push{s:Nat}{c:bg}(z:yR N M J ec fO m h)(T:fO[s]?=a_ c)(hM:M<=100000){p:Nat}(bl:p<N):∃cl g h',eg h 1 8 3 c (.sl [.v (.int .i64 (p:Int))] .exact)=a_ (cl,g)/\bL g 1 (.mp m s) cl=a_ h'/\yR N (M+1) J ec (fO.set s cl) m h'/\∀bs,h[J.length+2]?=a_ (.cells bs bh)->h'[J.length+2]?=a_ (.cells bs bh):=by
 obtain⟨cl,g,e1,e2,di,eX,n3,zd⟩:=z.q.push T z.s.x.len hM bl;have qH:=n3 _ _ _ z.o;have n8:=gl qH;have wA:=gl T;have MH:=z.DY;have c1:=rO e2;have st:bL g 1 (.mp m s) cl=a_ (g.set m (.cells (fO.set s cl) bf)):=by
  simp only[bL,qH,fu,c1];rw[if_pos ⟨rfl,aa,by simp[e2]⟩,On wA]
 refine⟨cl,g,_,e1,st,⟨⟨?_,?_,?_,?_⟩,bT n8,di.keep (b_ _) λj c k=>by rw[bC (by rintro rfl;rw[qH] at k;cases k)];exact k,z.DY⟩,λbs k=>by rw[bC aa];exact n3 _ _ _ k⟩;rw[bC aa];exact n3 _ _ _ z.s.n;rw[bC aa];exact n3 _ _ _ z.s.r;obtain⟨bs,q⟩:=z.s.m;exact⟨bs,by rw[bC aa];exact n3 _ _ _ q.b,q.len,q.ok⟩;intro j b k;have hj:=gl k;rw[bC aa];refine zd _ _ (z.s.x j b k) λxs e=>?_;obtain⟨l,Y,_⟩:=z.q.row s c T
 rcases Y with⟨Y,_⟩|⟨id,Y,hB,V⟩
 rw[Y] at e;cases e;rw[Y] at e;cases e;omega
section
variable{G:Cells}{N kt:Nat}{bx bv f e bB bE:bg}{b:Bool}{b5 xs ys:List bg}{t:o6}{J:List br}
def atc(O:J[kt]?=a_ (.cells [.sl b5 t,bB,bE] bf))(hs:∀c∈b5,y2 N c)(jC:b5.length<=1000){cv:Nat}(jX:cv<b5.length)
  (hN:N<=256) (Y:cC bx xs) (V:xs.length=N) (h3:∀x∈xs,FW x) (h4:cC bv (ys.map λy=>.agg [y])) (h5:ys.length=N) (h6:∀y∈ys,yY N y) (h7:yY N f):
  ct G bA 160 [.mp kt 0,.agg [bx,bv,f,e,.v (.bool b)],.v (.int .i64 (cv:Int))] J λr bl=>Ext J bl/\∃Z,r=.agg Z/\Z.length=32/\∀c∈Z,y2 N c:=by
 refine aA2.go ?_;obtain⟨ec,EC⟩:∃ec:List bg,ec=[bx,bv,f,e,.v (.bool b)]:=⟨_,rfl⟩;have amn:∀g,cH bx g=a_ (.v (.int .i64 (N:Int)),g):=λg=>by rw[Y.cH,jj,V]
 refine eN (λe' g=>e'=[(0,.mp kt 0),(2,.v (.int .i64 (cv:Int))),(4,.mp J.length 0),(6,.mp (J.length+1) 0)]/\g=J++[.cells ec bf]++[.cells (fk 32 .bq) bf]) ?_ ?_;refine iD @dO.{0} ?_;exact⟨trivial,rfl⟩;rintro e' g ⟨rfl,hg⟩;have gl:g.length=J.length+2:=by rw[hg];simp
 have gn:g[J.length]?=a_ (.cells ec bf):=by rw[hg];simp
 refine eN (λe' g=>e'=[(0,.mp kt 0),(2,.v (.int .i64 (cv:Int))),(4,.mp J.length 0),(6,.mp (J.length+1) 0),(7,.rs (J.length+2) N 1 0 N)]/\yS N J ec g/\g.length=J.length+3) ?_ ?_;have lo:bz g bf 1 (.mp J.length 0)=a_ bx:=by rw[EC] at gn;exact(jS gn).1
 have m1:DN g 1 1 [.v (.bool bf)] (.v (.int .i64 (N:Int))) (.v (.int .i64 (N:Int)))=a_ (.rs (J.length+2) N 1 0 N,g++[.cells (fk N (.v (.bool bf))) bh]):=by
  unfold DN;dsimp only;rw[if_pos ⟨aa,aa,aa,aa,rfl,ag⟩,gl];simp
 refine jE @lo @amn @m1 ?_;refine⟨trivial,⟨bU gn,bU (by rw[hg];simp),⟨fk N (.v (.bool bf)),by rw[<-gl];simp,af,λc T=>⟨bf,(arp.1 T).2⟩⟩,?_⟩,by simp[gl]⟩;rw[hg];exact(mA.qX).qX;rintro e' g1 ⟨rfl,s1,ag_⟩;refine eN (λe' g=>e'=[(0,.mp kt 0),(2,.v (.int .i64 (cv:Int))),(4,.mp J.length 0),(6,.mp (J.length+1) 0),(7,.rs (J.length+2) N 1 0 N)]/\yS N J ec g/\g.length=J.length+3) ?_ ?_;refine wy ?_;obtain⟨fl,f1,f2⟩:=h7;have zo:=f2.len;have Q3:=(zU f1)
 rcases Dw cv with hz|hz
 have b7:((cv:Int)==0)=bh:=aNs
 refine dj (λi e' g=>e'=[(0,.mp kt 0),(2,.v (.int .i64 (cv:Int))),(4,.mp J.length 0),(6,.mp (J.length+1) 0),(7,.rs (J.length+2) N 1 0 N),(8,bp i)]/\yS N J ec g/\g.length=J.length+3) fl.length ⟨rfl,s1,ag_⟩ ?_ ?_;rintro i e' g Q ⟨rfl,s,gl⟩;obtain⟨x,I⟩:=dW Q;obtain⟨x0,x1⟩:=f2.2 x (cz I);obtain⟨p,rfl⟩:=pT x0;have cj:bz g bf 1 (.mp J.length 2)=a_ f:=aMq
 have GY:p<N:=aa
 obtain⟨g',t1,t2⟩:=s.st GY;have Xb:g'.length=J.length+3:=by rw[<-gl];exact aee t1
 simp -failIfUnchanged -implicitDefEqProofs (disch:=first|assumption|decide|omega) only[jQ,oU,oV,↓reduceIte,w7,vH,w8,w9,rD,BX,BY,bp,b7,m_,cj,Q3.len,Q3.cw I,xQ,Jk GY,t1];exact⟨trivial,t2,Xb⟩;rintro e' g ⟨rfl,s,gl⟩;have cj:bz g bf 1 (.mp J.length 2)=a_ f:=aMq
 refine fq @bp.eq_1 @b7 @cj ?_;exact⟨trivial,s,gl⟩;have b7:((cv:Int)==0)=bf:=ah
 refine dj (λi e' g=>e'=[(0,.mp kt 0),(2,.v (.int .i64 (cv:Int))),(4,.mp J.length 0),(6,.mp (J.length+1) 0),(7,.rs (J.length+2) N 1 0 N),(8,bp i)]/\yS N J ec g/\g.length=J.length+3) 0 ⟨rfl,s1,ag_⟩ ?_ ?_;rintro i e' g Q;omega;rintro e' g ⟨rfl,s,gl⟩;refine ff @bp.eq_1 @b7 ?_;exact⟨trivial,s,gl⟩;rintro e' g2 ⟨rfl,s2,Mr⟩;obtain⟨c0,El⟩:=dW jX;have Cr:=hs c0 (cz El);have azn:=aa8 (t:=t) El Cr.one;obtain⟨cD,aJE,aJF,lY⟩:=Cr;refine eN (λe' g=>e'=[(4,.mp J.length 0),(6,.mp (J.length+1) 0),(7,.rs (J.length+2) N 1 0 N)]/\yS N J ec g/\g.length=J.length+3) ?_ ?_;refine wy ?_;refine dj (λi e' g=>e'=[(0,.mp kt 0),(2,.v (.int .i64 (cv:Int))),(4,.mp J.length 0),(6,.mp (J.length+1) 0),(7,.rs (J.length+2) N 1 0 N),(9,bp i)]/\yS N J ec g/\g.length=J.length+3) cD.length ⟨rfl,s2,Mr⟩ ?_ ?_;rintro i e' g Q ⟨rfl,s,gl⟩;obtain⟨x,I⟩:=dW Q;obtain⟨x0,x1⟩:=lY x (cz I);obtain⟨p,rfl⟩:=pT x0;have lk:=s.x _ _ O;have cj:bz g bf 1 (.mp J.length 1)=a_ bv:=by have:=s.n;rw[EC] at this;exact(jS this).2.1
 obtain⟨y,hy⟩:∃y,ys[p]?=a_ y:=⟨ys[p]' aa,cu _⟩;have oa:cx 1 bv (.v (.int .i64 (p:Int)))=a_ (.fp [y] 0):=h4.cw (x:=.agg [y]) aT rfl;obtain⟨abY,y1,fW⟩:=h6 y (cz hy);have aqG:=(zU y1);have aKI:=fW.len;refine oq ?_;refine dj (λj e' g=>e'=[(0,.mp kt 0),(2,.v (.int .i64 (cv:Int))),(4,.mp J.length 0),(6,.mp (J.length+1) 0),(7,.rs (J.length+2) N 1 0 N),(9,bp i),(10,y),(11,bp j)]/\yS N J ec g/\g.length=J.length+3) abY.length ⟨rfl,s,gl⟩ ?_ ?_;rintro j e' g hj ⟨rfl,s,gl⟩;obtain⟨x',hx'⟩:∃x,abY[j]?=a_ x:=⟨abY[j],cu hj⟩;obtain⟨aIX,Ux⟩:=fW.2 x' (cz hx');obtain⟨p',rfl⟩:=pT aIX;have GY:p'<N:=aa
 obtain⟨g',t1,t2⟩:=s.st GY;have Xb:g'.length=J.length+3:=by rw[<-gl];exact aee t1
 simp -failIfUnchanged -implicitDefEqProofs (disch:=first|assumption|decide|omega) only[jQ,oU,oV,↓reduceIte,w7,vH,w8,w9,rD,BX,BY,bp,aqG.len,aqG.cw hx',xQ,Jk GY,t1];exact⟨trivial,t2,Xb⟩;rintro e' g ⟨rfl,s,gl⟩;refine eE @bp.eq_1 ?_;exact⟨trivial,s,gl⟩;rintro e' g ⟨rfl,s,gl⟩;have lk:=s.x _ _ O;refine ff @bp.eq_1 @azn ?_;exact⟨trivial,s,gl⟩;rintro e' g3 ⟨rfl,ek,Xc⟩;refine eN (λe' g=>e'=[(4,.mp J.length 0),(6,.mp (J.length+1) 0),(7,.rs (J.length+2) N 1 0 N),(12,.mp (J.length+3) 0)]/\∃fO,yR N 0 J ec fO (J.length+3) g) ?_ ?_;have aI3:(fk 32 bg.bq).all cq=bh:=rfl;have gV:=uT (n:=32) (g:=g3++[.cells (fk 32 .bq) bf]) (k:=g3.length) (Z:=fk 32 .bq) (cs0:=fk 32 .bq) af rfl rfl aI3;have e1:(g3++[bw (fk 32 .bq) bf]).set g3.length (.cells (fk 32 .bq) bf)=g3++[.cells (fk 32 .bq) bf]:=af
 have f1:dI (fk 32 bg.bq) []=a_ (fk 32 .bq):=rfl;rw[e1,Xc] at gV;simp only[fk] at gV f1;refine ff @Xc @gV ?_;refine⟨trivial,fk 32 .bq,⟨bU ek.n,bU ek.r,?_,ek.x.qX⟩,?_,⟨rfl,λs c T=>?_,λs s' id xs xs' k1 _=>?_⟩,b_ _⟩;obtain⟨bs,q⟩:=ek.m;exact⟨bs,bU q.b,q.len,q.ok⟩;rw[<-Xc];exact UL;have:=(arp.1 (cz T)).2;subst this;exact⟨[],bD ⟨rfl,rfl⟩,j0 _,af⟩;have:=(arp.1 (cz k1)).2;cases this;rintro e' g4 ⟨rfl,aER,z4⟩;refine eN (λe' g=>e'=[(6,.mp (J.length+1) 0),(12,.mp (J.length+3) 0)]/\∃fO,yR N 70000 J ec fO (J.length+3) g) ?_ ?_;refine wy ?_;have aDc:∀g,cH (.rs (J.length+2) N 1 0 N) g=a_ (.v (.int .i64 (N:Int)),g):=λg=>rfl;refine dj (λi e' g=>e'=[(4,.mp J.length 0),(6,.mp (J.length+1) 0),(7,.rs (J.length+2) N 1 0 N),(12,.mp (J.length+3) 0),(13,bp i)]/\∃fO,yR N (i*256) J ec fO (J.length+3) g) N ⟨rfl,aER,by rw[Nat.zero_mul];exact z4⟩ ?_ ?_;rintro i e' g Q ⟨rfl,fO,z⟩;obtain⟨x,I⟩:∃x,xs[i]?=a_ x:=⟨xs[i]' aa,cu _⟩;have r4:=h3 x (cz I);have ix:cx 1 bx (.v (.int .i64 (i:Int)))=a_ (.fp [x] 0):=by
  have:=Y.cw (n:=1) (k:=.i64) (x:=x) I (by rw[rO r4.one];rfl);rw[rO r4.one] at this;exact this
 obtain⟨aI1,x1,x2,x3⟩:=r4;have abW:=(zU x1);obtain⟨bs,zo⟩:=z.s.m;obtain⟨fb,_,CJ⟩:=zo.gk Q;have w1:cN.wrap ((i:Int)+1)=((i+1:Nat):Int):=kI aa;refine so ?_;refine dj (λj e' g=>e'=[(4,.mp J.length 0),(6,.mp (J.length+1) 0),(7,.rs (J.length+2) N 1 0 N),(12,.mp (J.length+3) 0),(13,bp i),(14,bp j)]/\bz g bf 1 (.rp (J.length+2) N i)=a_ (.v (.bool fb))/\∃fO,yR N (i*256+j) J ec fO (J.length+3) g) (if fb then aI1.length else 0) ⟨rfl,CJ,fO,z.mono aa⟩ ?_ ?_;rintro j e' g hj ⟨rfl,CJ,fO,z⟩;cases fb with
 |false=>simp at hj
 |true=>
  simp only[if_true] at hj;obtain⟨y,hy⟩:=dW hj;obtain⟨y0,y1⟩:=x3 y (cz hy);obtain⟨s,rfl⟩:=pT y0;have lo:bz g bf 1 (.mp J.length 0)=a_ bx:=aMv
  simp -failIfUnchanged -implicitDefEqProofs (disch:=first|assumption|decide|omega) only[jQ,oU,oV,↓reduceIte,w7,vH,w8,w9,rD,BX,BY,bp,Jk Q,CJ,m_,lo,ix,xQ,abW.len,abW.cw hy];refine dy (λq=>?_) λq=>?_;have aKC:s<32:=au
  have tM:kQ 32 1 (.mp (J.length+3) 0) (.v (.int .i64 (s:Int)))=a_ (.mp (J.length+3) s):=by
   unfold kQ;dsimp only;rw[if_pos ⟨aa,aa⟩];simp[m_]
  have R4:=z.q.len;obtain⟨c,T⟩:∃c,fO[s]?=a_ c:=⟨fO[s]' aa,cu _⟩;have lc:bz g bf 1 (.mp (J.length+3) s)=a_ c:=by
   simp only[bz,z.o,e9];rw[if_neg af];exact T
  obtain⟨cl,g',uZ,t1,t2,t3,t4⟩:=z.push T aa Q;have aC0:bz uZ bf 1 (.rp (J.length+2) N i)=a_ (.v (.bool bh)):=by
   obtain⟨bs,q1⟩:=z.s.m;have bt:=t4 bs q1.b;simp only[bz,q1.b] at CJ;simp only[bz,bt];exact CJ
  refine lT @q @tM @lc @t1 @t2 ?_;exact⟨rfl,aC0,_,t3.mono aa⟩;exact⟨rfl,CJ,fO,z.mono aa⟩
 rintro e' g ⟨rfl,CJ,fO,z⟩;have lo:bz g bf 1 (.mp J.length 0)=a_ bx:=aMv
 have wV:yR N ((i+1)*256) J ec fO (J.length+3) g:=z.mono (by split<;>omega);cases fb with
 |false=>
  simp -failIfUnchanged -implicitDefEqProofs (disch:=first|assumption|decide|omega) only[jQ,oU,oV,↓reduceIte,w7,vH,w8,w9,rD,BX,BY,bp,Jk Q,CJ,w1];exact⟨trivial,fO,wV⟩
 |true=>
  simp only[if_true];simp -failIfUnchanged -implicitDefEqProofs (disch:=first|assumption|decide|omega) only[jQ,oU,oV,↓reduceIte,w7,vH,w8,w9,rD,BX,BY,bp,Jk Q,CJ,m_,lo,ix,xQ,abW.len,w1];exact⟨trivial,fO,wV⟩
 rintro e' g ⟨rfl,fO,z⟩;refine ff @bp.eq_1 @aDc ?_;exact⟨trivial,fO,z.mono aa⟩;rintro e' g5 ⟨rfl,fO,z5⟩;have rl:=uT (n:=32) z5.s.r af z5.q.len z5.q.aEE;have rk:(g5.set (J.length+1) (.cells fO bf))[J.length+1]?=a_ (.cells fO bf):=bT (cJ.1 z5.s.r).1;refine mQ (AH z5.o z5.q.len) (AH rk z5.q.len) ?_;refine⟨λj b k=>?_,fO,rfl,z5.q.len,λc T=>?_⟩;have:=(cJ.1 k).1;rw[bC aa];exact z5.s.x j b k;obtain⟨s,hs⟩:=K7.1 T;exact z5.q.set hs aa
end
end
section
variable{B N m n:Nat}{v:bg}{xs:List bg}{e:TypeId}{g:List br}
structure kN(N:Nat)(ec b5 fm rows:List bg)(sv bB bE:bg)(h:List br):Prop where
 n:h[0]?=a_ (.cells ec bf)
 r:h[1]?=a_ (.cells [.bq,.bq,.bq] bf)
 t:h[2]?=a_ (.cells [sv,bB,bE] bf)
 s:mY 0 h sv b5 1 42
 a:mY 0 h bE fm 1 4
 w:de h bB rows 32 246
 sk:∀c∈b5,y2 N c
 B_:∀c∈fm,∃b:Bool,c=.v (.bool b)
 rk:∀c∈rows,∃l:List Int,c=.agg (l.map bp)/\l.length=32
section
variable{N:Nat}{ec b5 fm rows:List bg}{sv bB bE:bg}{h h':List br}
def mY.ext(q:mY B h v xs n e)(S:∀(j:Nat) c,h[j]?=a_ (.tok c n e)->h'[j]?=a_ (.tok c n e)):mY B h' v xs n e:=by
 rcases q with q|⟨id,q1,bt,bV⟩
 exact bD q;exact bG ⟨id,q1,bt,S _ _ bV⟩
def mY.sl{B:Nat}{v:bg}{xs:List bg}{n:Nat}{e:TypeId}(q:mY B h v xs n e):∃t,v=.sl xs t:=by
 rcases q with q|⟨id,q1,_⟩
 exact⟨_,q⟩;exact⟨_,q1⟩
def mY.one(q:mY B h v xs n e):cq v=bh:=by
 obtain⟨t,rfl⟩:=q.sl;rfl
def kN.ext(z:kN N ec b5 fm rows sv bB bE h)(S:∀(j:Nat) b,h[j]?=a_ b->(∀Z,b≠.cells Z bf\/j<=2)->h'[j]?=a_ b):kN N ec b5 fm rows sv bB bE h':=by
 refine⟨S _ _ z.n λ_=>bG ag,S _ _ z.r λ_=>bG ag,S _ _ z.t λ_=>bG ag,z.s.ext λj c q=>S _ _ q λ_=>bD af,z.a.ext λj c q=>S _ _ q λ_=>bD af,?_,z.sk,z.B_,z.rk⟩
 rcases z.w with q|⟨id,q1,bt⟩
 exact bD q;exact bG ⟨id,q1,S _ _ bt λ_=>bD af⟩
def kN.app{x:List br}(z:kN N ec b5 fm rows sv bB bE h):kN N ec b5 fm rows sv bB bE (h++x):=z.ext λj b q _=>bU q
def kN.set(z:kN N ec b5 fm rows sv bB bE h)(hm:3<=m){Z cs':List bg}(S:h[m]?=a_ (.cells Z bf)):kN N ec b5 fm rows sv bB bE (h.set m (.cells cs' bf)):=z.ext λj b q O=>by
 rw[bC];exact q;rintro rfl;rw[S] at q;cases q
 rcases O Z with k|k
 exact k rfl;omega
def Vb(h h':List br):Prop:=h.length<=h'.length/\∀(j:Nat) Z,j≠2->h[j]?=a_ (.cells Z bf)->h'[j]?=a_ (.cells Z bf)
def kN.push(z:kN N ec b5 fm rows sv bB bE h){c:bg}(T:y2 N c)(hl:b5.length<=1000):∃kG g g',eg h 1 24 42 sv (.sl [c] .exact)=a_ (kG,g)/\bL g 1 (.mp 2 0) kG=a_ g'/\kN N ec (b5++[c]) fm rows kG bB bE g'/\Vb h g':=by
 obtain⟨v,g,e1,e2,_,hA,O,q⟩:=agL (x:=c) (cc:=24) (o:=0) z.s (j0 _) z.t af (BD λx I=>(z.sk x I).one) (BD λx I=>by rw[dP.1 I];exact T.one) ag ag aa;exact⟨v,g,_,e1,e2,⟨q.cells z.n ag,q.cells z.r ag,O,hA,q.own z.t z.a ag,q.DP z.t z.w ag,λx I=>(fB.1 I).elim (z.sk x) λq=>by rw[dP.1 q];exact T,z.B_,z.rk⟩,q.1,λj c hj O=>q.cells O hj⟩
def kN.aFa(z:kN N ec b5 fm rows sv bB bE h)(b:Bool)(hl:fm.length<=1000):∃LL g g',eg h 1 1 4 bE (.sl [.v (.bool b)] .exact)=a_ (LL,g)/\bL g 1 (.mp 2 2) LL=a_ g'/\kN N ec b5 (fm++[.v (.bool b)]) rows sv bB LL g'/\Vb h g':=by
 obtain⟨v,g,e1,e2,_,hA,O,q⟩:=agL (x:=.v (.bool b)) (cc:=1) (o:=2) z.a (j0 _) z.t af (BD λx I=>by obtain⟨b,rfl⟩:=z.B_ x I;rfl) rfl ag ag aa;exact⟨v,g,_,e1,e2,⟨q.cells z.n ag,q.cells z.r ag,O,q.own z.t z.s ag,hA,q.DP z.t z.w ag,z.sk,λx I=>(fB.1 I).elim (z.B_ x) λq=>⟨b,dP.1 q⟩,z.rk⟩,q.1,λj c hj O=>q.cells O hj⟩
@[go_sem]def Tb(l:List Int)(hl:l.length=32):cY 32 [dG (l.map bp)]=bh:=by
 have:(l.map bp).all cq=bh:=by
  rw[eG];intro x I;obtain⟨n,_,rfl⟩:=dX.1 I;rfl
 simp only[cY,qk,tB,jU,this,cS,hl];rfl
def kN.Fa(z:kN N ec b5 fm rows sv bB bE h){l:List Int}(Bh:l.length=32)(hl:rows.length<=1000):∃kF g g',eg h 32 256 246 bB (.sl [.agg (l.map bp)] .exact)=a_ (kF,g)/\bL g 1 (.mp 2 1) kF=a_ g'/\kN N ec b5 fm (rows++[.agg (l.map bp)]) sv kF bE g'/\Vb h g':=by
 have iC:cY 32 rows=bh:=by
  rw[cY,eG];intro x I;obtain⟨l,rfl,hl⟩:=z.rk x I;have:=Tb l hl;simpa[cY] using this
 obtain⟨v,g,e1,e2,_,hA,O,q⟩:=Mm (x:=.agg (l.map bp)) (cc:=256) (o:=1) z.w z.t af iC (Tb l Bh) ag ag aa;exact⟨v,g,_,e1,e2,⟨q.cells z.n ag,q.cells z.r ag,O,q.own z.t z.s ag,q.own z.t z.a ag,hA,z.sk,z.B_,λx I=>(fB.1 I).elim (z.rk x) λq=>⟨l,dP.1 q,Bh⟩⟩,q.1,λj c hj O=>q.cells O hj⟩
end
def adr(r:bg):Prop:=∃(a b c:bg) (t:Bool),r=.bQ [.agg [a,b,c],.v (.bool t)]/\cq a=bh/\cq b=bh/\cq c=bh
def ao1(J:List br):∀{Z:List bg},(∀c∈Z,y2 N c)->∃ys,e_ J Z ys
 |[],_=>⟨[],cZ⟩
 |c::r,h=>by
  obtain⟨l,Y,_⟩:=h c af;obtain⟨v',q1,_⟩:=Y.fz J;obtain⟨ys,k1⟩:=ao1 J (Z:=r) λx I=>h x aA;exact⟨v'::ys,bF q1 k1⟩
def aHQ{ec b5 fm rows:List bg}{sv bB bE:bg}{h:List br}(z:kN N ec b5 fm rows sv bB bE h)(b:Bool):∃n bS,dx g n (.bQ [.agg [sv,bB,bE],.v (.bool b)])=a_ bS/\adr bS:=by
 obtain⟨t1,rfl⟩:=z.s.sl;obtain⟨t2,rfl⟩:=z.a.sl;obtain⟨ys,hy⟩:=ao1 g z.sk;have ha:e_ g fm fm:=e_.each λa ha=>by obtain⟨b,rfl⟩:=z.B_ a ha;exact bH _
 obtain⟨kF,hn,Y⟩:∃kF,b6 g bB kF/\cq kF=bh:=by
  rcases z.w with⟨rfl,_⟩|⟨id,rfl,_⟩
  exact⟨.bq,ey,rfl⟩;have D:e_ g rows rows:=e_.each λa ha=>by
   obtain⟨l,rfl,_⟩:=z.rk a ha;exact jO (iw λa _=>bH _)
  exact⟨_,gQ D,rfl⟩
 obtain⟨n,hn⟩:=(fj (bF (jO (bF (gQ (t:=t1) hy) (bF hn (bF (gQ (t:=t2) ha) cZ)))) (bF (bH (.bool b)) cZ)):b6 g _ _).done;exact⟨n,_,hn,_,_,_,b,rfl,rfl,Y,rfl⟩
@[go_sem]def Vt{s:Nat}(hs:s<32):kQ 32 1 (.mp m 0) (.v (.int .i64 (s:Int)))=a_ (.mp m s):=by
 unfold kQ;dsimp only;rw[if_pos ⟨aa,aa⟩];simp[m_]
section
variable{G:Cells}
def aEc{x:bg}(I:Lj x):dV G bA 96 [x] adr:=by
 have G7:=I.clean;obtain⟨N,bx,bv,f,e,b,xs,ys,rfl,hN,Y,V,h3,h4,h5,h6,h7,h8⟩:=I;refine ep (aAE.go ?_);have jH:(dG [bx,bv,f,e,.v (.bool b)]).cells=[bx,bv,f,e,.v (.bool b)]:=rfl;refine eN (λe' g=>e'=[(1,.mp 0 0),(2,.mp 1 0)]/\g=[.cells [bx,bv,f,e,.v (.bool b)] bf,.cells [.bq,.bq,.bq] bf]) ?_ ?_;exact eE @jH tt;rintro e' g ⟨rfl,hg⟩;have gl:g.length=2:=by rw[hg];rfl
 refine eN (λe' g=>e'=[(1,.mp 0 0),(2,.mp 1 0),(4,.mp 2 0)]/\∃b5 fm rows sv bB bE,kN N [bx,bv,f,e,.v (.bool b)] b5 fm rows sv bB bE g/\b5.length=1/\fm.length=1/\rows.length=0) ?_ ?_;have gV:=uT (n:=3) (g:=g++[.cells [.bq,.bq,.bq] bf]) (k:=g.length) (Z:=[.sl [.bq] .exact,.bq,.sl [.v (.bool b)] .exact]) (cs0:=[.bq,.bq,.bq]) af rfl rfl rfl;have e1:(g++[bw [.bq,.bq,.bq] bf]).set g.length (.cells [.sl [.bq] .exact,.bq,.sl [.v (.bool b)] .exact] bf)=g++[.cells [.sl [.bq] .exact,.bq,.sl [.v (.bool b)] .exact] bf]:=af
 rw[e1,gl] at gV;refine fq (IU (w:=.bq) rfl) @gl @gV ?_;refine⟨trivial,[.bq],[.v (.bool b)],[],_,_,_,⟨?_,?_,?_,bD rfl,bD rfl,bD ⟨rfl,rfl⟩,?_,?_,af⟩,rfl,rfl,rfl⟩;rw[hg];rfl;rw[hg];rfl;rw[hg];rfl;intro c T;rw[dP.1 T];exact⟨[],bD ⟨rfl,rfl⟩,af,af⟩;intro c T;rw[dP.1 T];exact⟨b,rfl⟩;rintro e' g1 ⟨rfl,b5,fm,rows,sv,bB,bE,b7,s5,aKa,EG⟩;refine iP (λe' g=>e'=[(2,.mp 1 0),(4,.mp 2 0)]/\∃b5 fm rows sv bB bE,kN N [bx,bv,f,e,.v (.bool b)] b5 fm rows sv bB bE g) ?_ ?_;refine wy ?_;refine oo (n:=300) (λk e' g=>∃(i:Nat) (b5 fm rows:List bg) (sv bB bE:bg),k=300-i/\e'=[(1,.mp 0 0),(2,.mp 1 0),(4,.mp 2 0),(5,bp i)]/\kN N [bx,bv,f,e,.v (.bool b)] b5 fm rows sv bB bE g/\i<=b5.length/\1<=b5.length/\b5.length<=200/\fm.length=b5.length/\rows.length=i) ⟨0,b5,fm,rows,sv,bB,bE,rfl,rfl,b7,aa,aa,aa,aa,aa⟩ ?_;rintro k e' g ⟨i,b5,fm,rows,sv,bB,bE,rfl,rfl,z,RP,hi2,axR,pE,nN⟩;obtain⟨t0,x7⟩:=z.s.sl;have kr:cH sv=λg=>a_ (.v (.int .i64 (b5.length:Int)),g):=by funext g;rw[x7,oc,jj]
 have NO:∀g,cH sv g=a_ (.v (.int .i64 (b5.length:Int)),g):=λg=>by rw[kr]
 obtain⟨l0,l1,l2,l3⟩:=Hz z.t
 rcases ei i b5.length with c6|hge
 have d1:decide ((i:Int)<(b5.length:Int))=bh:=ah
 refine iP (λe' g'=>e'=[(1,.mp 0 0),(2,.mp 1 0),(4,.mp 2 0),(5,bp i)]/\g'=g) ?_ ?_;exact ke @bp.eq_1 @l0 @NO @d1 tt;rintro e' g' ⟨rfl,rfl⟩;refine iP (λe' g=>e'=[(1,.mp 0 0),(2,.mp 1 0),(4,.mp 2 0),(5,bp i)]/\∃(b5 fm rows:List bg) (sv bB bE:bg),kN N [bx,bv,f,e,.v (.bool b)] b5 fm rows sv bB bE g/\i+1<=b5.length/\b5.length<=200/\fm.length=b5.length/\rows.length=i+1) ?_ ?_;rw[De];have z0:(fk 32 (bp 0)).all cq=bh:=rfl;have kU:3<=g'.length:=by have:=(cJ.1 z.t).1;omega
 refine iP (λe' g=>e'=[(1,.mp 0 0),(2,.mp 1 0),(4,.mp 2 0),(5,bp i),(6,.mp g'.length 0)]/\g=g'++[.cells (fk 32 (bp 0)) bf]) ?_ ?_;have gV:=uT (n:=32) (g:=g'++[.cells (fk 32 (bp 0)) bf]) (k:=g'.length) (Z:=fk 32 (bp 0)) (cs0:=fk 32 (bp 0)) af rfl rfl z0;have e1:(g'++[bw (fk 32 (bp 0)) bf]).set g'.length (.cells (fk 32 (bp 0)) bf)=g'++[.cells (fk 32 (bp 0)) bf]:=af
 have f1:dI (fk 32 (bp 0)) []=a_ (fk 32 (bp 0)):=rfl;rw[e1] at gV;simp only[fk,bp] at gV f1;exact wx vA;rintro e' g2 ⟨rfl,l_⟩;have z2:kN N [bx,bv,f,e,.v (.bool b)] b5 fm rows sv bB bE g2:=by rw[l_];exact z.app
 have r2:g2[g'.length]?=a_ (.cells ((fk 32 (0:Int)).map bp) bf):=by rw[l_];simp
 generalize g'.length=m6 at r2 kU⊢;refine iP (λe' g=>∃m7 fO,e'=[(1,.mp 0 0),(2,.mp 1 0),(4,.mp 2 0),(5,bp i),(6,.mp m6 0),(7,.mp m7 0)]/\kN N [bx,bv,f,e,.v (.bool b)] b5 fm rows sv bB bE g/\g[m6]?=a_ (.cells ((fk 32 (0:Int)).map bp) bf)/\g[m7]?=a_ (.cells fO bf)/\fO.length=32/\(∀c∈fO,y2 N c)/\3<=m7/\m7≠m6) ?_ ?_;have la:=(jS z2.n).2.2.2.2.2;have zt:=z2.t;rw[x7] at zt;refine ff @bp.eq_1 @la (cm (atc zt z2.sk aa c6 hN Y V h3 h4 h5 h6 h7) ?_);rintro _ g3 ⟨hE,Z,rfl,Cr,ahH⟩;have ayz:Z.all cq=bh:=eG.2 λc T=>(ahH c T).one;have z3:kN N [bx,bv,f,e,.v (.bool b)] b5 fm rows sv bB bE g3:=z2.ext λj b q _=>hE j b q;have EA:=(cJ.1 (hE _ _ r2)).1;have gV:=uT (n:=32) (g:=g3++[.cells (fk 32 .bq) bf]) (k:=g3.length) (Z:=Z) (cs0:=fk 32 .bq) af rfl Cr ayz;have e1:(g3++[bw (fk 32 .bq) bf]).set g3.length (.cells Z bf)=g3++[.cells Z bf]:=af
 rw[e1] at gV;simp only[fk] at gV;refine eE @gV ?_;exact⟨_,Z,rfl,z3.app,bU (hE _ _ r2),af,Cr,ahH,aa,aa⟩;rintro e' g3 ⟨m7,fO,rfl,z3,jT,kz,ol,os,Yc,aKv⟩;refine iP (λe' g=>e'=[(1,.mp 0 0),(2,.mp 1 0),(4,.mp 2 0),(5,bp i),(6,.mp m6 0)]/\∃(b5 fm:List bg) (sv bE:bg) (l:List Int),kN N [bx,bv,f,e,.v (.bool b)] b5 fm rows sv bB bE g/\g[m6]?=a_ (.cells (l.map bp) bf)/\l.length=32/\i<b5.length/\b5.length<=232/\fm.length=b5.length) ?_ ?_;refine wy ?_;refine dj (λs e' g=>e'=[(1,.mp 0 0),(2,.mp 1 0),(4,.mp 2 0),(5,bp i),(6,.mp m6 0),(7,.mp m7 0),(8,bp s)]/\∃(b5 fm:List bg) (sv bE:bg) (l:List Int),kN N [bx,bv,f,e,.v (.bool b)] b5 fm rows sv bB bE g/\g[m6]?=a_ (.cells (l.map bp) bf)/\l.length=32/\g[m7]?=a_ (.cells fO bf)/\i<b5.length/\b5.length<=200+s/\fm.length=b5.length) 32 ⟨rfl,b5,fm,sv,bE,_,z3,jT,af,kz,c6,aa,pE⟩ ?_ ?_;rintro s e' g hs ⟨rfl,b5,fm,sv,bE,l,z,r,Bh,o,hl1,jC,pE⟩;obtain⟨t0,x7⟩:=z.s.sl;have NO:∀g,cH sv g=a_ (.v (.int .i64 (b5.length:Int)),g):=λg=>by rw[x7,oc,jj]
 obtain⟨c,T⟩:∃c,fO[s]?=a_ c:=⟨fO[s]' aa,cu _⟩;have jb:=os c (cz T);have lc:bz g bf 1 (.mp m7 s)=a_ c:=by
  simp only[bz,o,e9];rw[if_neg af];exact T
 have asa:=Vt (m:=m7) hs;have ar_:=Vt (m:=m6) hs;have d2:decide ((s:Int)<32)=bh:=ah
 refine iP (λe' h=>e'=[(1,.mp 0 0),(2,.mp 1 0),(4,.mp 2 0),(5,bp i),(6,.mp m6 0),(7,.mp m7 0),(8,bp s)]/\h=g) ?_ ?_;exact ff @bp.eq_1 @d2 tt;rintro e' g' ⟨rfl,rfl⟩;refine iP (λe' g=>e'=[(1,.mp 0 0),(2,.mp 1 0),(4,.mp 2 0),(5,bp i),(6,.mp m6 0),(7,.mp m7 0),(8,bp s)]/\∃(b5 fm:List bg) (sv bE:bg) (l:List Int),kN N [bx,bv,f,e,.v (.bool b)] b5 fm rows sv bB bE g/\g[m6]?=a_ (.cells (l.map bp) bf)/\l.length=32/\g[m7]?=a_ (.cells fO bf)/\i<b5.length/\b5.length<=200+(s+1)/\fm.length=b5.length) ?_ ?_;rw[De];refine iP (λe' h=>e'=[(1,.mp 0 0),(2,.mp 1 0),(4,.mp 2 0),(5,bp i),(6,.mp m6 0),(7,.mp m7 0),(8,bp s),(9,c)]/\h=g') ?_ ?_;exact fq @bp.eq_1 @asa @lc tt;rintro e' uZ ⟨rfl,rfl⟩;refine iP (λe' h=>e'=[(1,.mp 0 0),(2,.mp 1 0),(4,.mp 2 0),(5,bp i),(6,.mp m6 0),(7,.mp m7 0),(8,bp s),(9,c),(10,.v (.int .i64 (-1)))]/\h=uZ) ?_ ?_;exact wx tt;rintro e' g' ⟨rfl,rfl⟩;refine iP (λe' g=>∃to:Int,e'=[(1,.mp 0 0),(2,.mp 1 0),(4,.mp 2 0),(5,bp i),(6,.mp m6 0),(7,.mp m7 0),(8,bp s),(10,bp to)]/\∃(b5 fm:List bg) (sv bE:bg),kN N [bx,bv,f,e,.v (.bool b)] b5 fm rows sv bB bE g/\g[m6]?=a_ (.cells (l.map bp) bf)/\g[m7]?=a_ (.cells fO bf)/\i<b5.length/\b5.length<=200+(s+1)/\fm.length=b5.length) ?_ ?_;obtain⟨cD,c1,c2,c3⟩:=jb
 rcases Dw cD.length with hz|hz
 have d3:decide ((cD.length:Int)>0)=bf:=decide_eq_false aa;have auz:decide ((0:Int)<(cD.length:Int))=bf:=decide_eq_false aa;refine fq @c1.len @d3 @auz ?_;exact⟨-1,rfl,b5,fm,sv,bE,z,r,o,hl1,aa,pE⟩;have d3:decide ((cD.length:Int)>0)=bh:=decide_eq_true aa;have zt:=z.t;rw[x7] at zt;refine wx (cm (avl zt z.sk aa aa (os c (cz T))) ?_);rintro _ g3 ⟨rfl,n,rfl,qb,aih⟩;refine wy (cQ (λq=>?_) λq=>?_);obtain⟨l0,l1,l2,l3⟩:=Hz z.t;obtain⟨kG,g4,g5,e1,e2,z5,wF⟩:=z.push (os c (cz T)) aa;refine rE @q @l0 @NO (IU (os c (cz T)).one) @e1 @e2 ?_;obtain⟨m0,m1,m2,m3⟩:=Hz z5.t;obtain⟨n0,n1,n2,pK,n4,_⟩:=jS z5.n;obtain⟨c',ci,Z⟩:=c1.imp;obtain⟨el,di,eX⟩:=h8;have tX:=eX.len;refine pQ @m_ @m2 @pK @qL.eq_1 @r_.eq_1 @true_and @and_true (jG (aIe Z di (Gg Z) (Gg di) aa aa 1) (bO ci (bO (Gg di) (bO (cP _) cG))) ?_);rintro r1 ⟨rl,q1,bt,bV⟩;obtain⟨LL,g6,g7,a1,a2,Dk,s8⟩:=z5.aFa (decide ((rl.length:Int)>0)) aa;have ar8:eg g5 1 1 4 bE (.sl [.v (.bool (decide ((0:Int)<(rl.length:Int))))] .exact)=a_ (LL,g6):=a1;refine pQ @m2 @pK ((zU q1).len) @a1 @ar8 @a2 @oh ?_;exact⟨_,rfl,_,_,_,_,Dk,s8.2 _ _ aa (wF.2 _ _ aa r),s8.2 _ _ aa (wF.2 _ _ aa o),ah,ah,by simp[pE]⟩;refine eE @q ?_;exact⟨n,rfl,b5,fm,sv,bE,z,r,o,hl1,aa,pE⟩;rintro e' g3 ⟨to,rfl,b5,fm,sv,bE,z,r,o,hl1,jC,pE⟩;have ayi:=(cJ.1 r).1;have gV:bL g3 1 (.mp m6 s) (.v (.int .i64 to))=a_ (g3.set m6 (.cells ((l.set s to).map bp) bf)):=by
  have eX:(dh (.int .i64 to)).cells=[.v (.int .i64 to)]:=rfl;simp only[bL,r,fu,eX];rw[if_pos ⟨rfl,ah,rfl⟩,On ah,yN];rfl
 refine fq @bp.eq_1 @ar_ @gV ?_;exact⟨trivial,b5,fm,sv,bE,_,z.set aa r,bT ayi,by simpa using Bh,by rw[bC aa];exact o,hl1,jC,pE⟩;rintro e' g4 ⟨rfl,q⟩;refine eE @bp.eq_1 ?_;exact⟨trivial,q⟩;rintro e' g ⟨rfl,b5,fm,sv,bE,l,z,r,Bh,o,hl1,jC,pE⟩;have d2:decide (((32:Nat):Int)<32)=bf:=ag
 refine ff @bp.eq_1 @d2 ?_;exact⟨trivial,b5,fm,sv,bE,l,z,r,Bh,hl1,jC,pE⟩;rintro e' g4 ⟨rfl,b5,fm,sv,bE,l,z,r,Bh,hl1,jC,pE⟩;obtain⟨l0,l1,l2,l3⟩:=Hz z.t;obtain⟨kF,g5,g6,e1,e2,wU,Hj⟩:=z.Fa Bh aa;have ab:eW 32 [dG (l.map bp)]=a_ (.sl [.agg (l.map bp)] .exact):=by
  unfold eW;rw[if_pos ⟨Tb l Bh,af⟩]
 obtain⟨t0,x7⟩:=wU.s.sl;have NO:∀g,cH sv g=a_ (.v (.int .i64 (b5.length:Int)),g):=λg=>by rw[x7,oc,jj]
 obtain⟨m0,m1,m2,m3⟩:=Hz wU.t;refine iD (AH r (by simpa using Bh)) (cQ (λq=>?_) λq=>?_);have gV:=uT (n:=3) wU.r rfl (Z:=[.bq,.bq,.bq]) rfl rfl;have hl1:=(cJ.1 wU.r).1;have la:=AH (n:=3) (bT (a:=.cells [bg.bq,.bq,.bq] bf) hl1) rfl;refine wx ?_;obtain⟨n,hn⟩:=(fj (bF (jO (bF ey (bF ey (bF ey cZ)))) (bF (bH (.bool bf)) cZ)):b6 (g6.set 1 (.cells [bg.bq,.bq,.bq] bf)) _ _).done;exact⟨n,_,hn,_,_,_,bf,rfl,rfl,rfl,rfl⟩;have q':b5.length<=200:=au
 refine wx ?_;exact⟨trivial,b5,fm,_,sv,kF,bE,wU,hl1,q',pE,by simp[nN]⟩;rintro e' g3 ⟨rfl,b5,fm,rows,sv,bB,bE,z,hl1,jC,pE,nN⟩;refine wy ?_;exact⟨300-(i+1),aa,i+1,b5,fm,rows,sv,bB,bE,rfl,rfl,z,hl1,aa,jC,pE,nN⟩;have d1:decide ((i:Int)<(b5.length:Int))=bf:=ah
 refine ke @bp.eq_1 @l0 @NO @d1 ?_;exact⟨trivial,b5,fm,rows,sv,bB,bE,z⟩;rintro e' g2 ⟨rfl,b5,fm,rows,sv,bB,bE,z⟩
 have no:cq bB=bh:=by rcases z.w with⟨q,_⟩|⟨_,q,_⟩<;>rw[q]<;>rfl
 have gV:=uT (n:=3) z.r rfl (Z:=[sv,bB,bE]) rfl (by simp[z.s.one,z.a.one,no]);have hl1:=(cJ.1 z.r).1;have la:=AH (n:=3) (bT (a:=.cells [sv,bB,bE] bf) hl1) rfl;obtain⟨l0,l1,l2,l3⟩:=Hz z.t;exact wy (aHQ z bh)
end
end
section
variable{n0:Nat}{v:bg}{ps:List cV}
def an_(h:yU n0 v ps)(hn:n0<=100000000)(bR:ps≠[]):sz ps ((ps.length-1:Nat):Int)<=1000000000:=by
 have hl:=h.len;obtain⟨x,I⟩:=h.top.resolve_left bR;have D:=abp bR I;have hs:=abn h.ok.kids I;rw[D] at hs;simp only[fQ,kX,Aj,Iz] at hs;omega
def ac_(ps:List cV)(r:bg):Prop:=∃(t:Bool) (n:Int),r=.bQ [.v (.bool t),.v (.int .i64 n)]/\0<=n/\n<=20/\(n=0->ps≠[]->cnt ps ((ps.length-1:Nat):Int)<=256)
def Mk{J:List br}{t:Bool}{n:Int}(h0:0<=n)(Y:n<=20)(h:n=0->ps≠[]->cnt ps ((ps.length-1:Nat):Int)<=256):∃k bS,dx J k (.bQ [.v (.bool t),.v (.int .i64 n)])=a_ bS/\ac_ ps bS:=by
 obtain⟨k,S⟩:=(fj (bF (bH (.bool t)) (bF (bH (.int .i64 n)) cZ)):b6 J _ _).done;exact⟨k,_,S,t,n,rfl,h0,Y,h⟩
section
variable{G:Cells}{bB mv a b c:bg}{cA marks:List (List bg)}
def aEi{lv:bg}{rows:List (List bg)}(hr:rJ bB mv cA marks)(hS:eT (.agg [bB,mv,a,b,c]))(h:yU n0 v ps)(hn:n0<=100000000)(zv:cC lv (rows.map dG))(ga:eT lv)(Ez:∀x∈rows,xm x)(qa:rows.length<=1000000000):
  dV G bA 57 [.agg [bB,mv,a,b,c],v,lv] (ac_ ps):=by
 refine ep (aAh.go ?_);have q7:=h.len;have ln:=h.v.cH;rw[cS] at ln;have mm:∀J,cH v J=a_ (.v (.int .i64 (ps.length:Int)),J):=λJ=>aLB
 have lm:=zv.cH;rw[cS] at lm;have Hv:∀J,cH lv J=a_ (.v (.int .i64 (rows.length:Int)),J):=λJ=>by rw[lm J,jj]
 have Y_:bz [bw [bB,mv,a,b,c] bf] bh 5 (.mp 0 0)=a_ (.agg [bB,mv,a,b,c]):=rfl;have H:∃X:List br,X=[bw [bB,mv,a,b,c] bf]:=⟨_,rfl⟩;refine eN (λe g=>e=[(1,v),(2,lv),(3,.mp 0 0)]/\g=[bw [bB,mv,a,b,c] bf]) ?_ ?_;exact wx tt;rintro e g ⟨rfl,rfl⟩;refine eN (λe g=>e=[(1,v),(2,lv),(3,.mp 0 0),(8,.v (.bool bf))]/\g=[bw [bB,mv,a,b,c] bf]) ?_ ?_;exact wx tt;rintro e g ⟨rfl,rfl⟩;refine eN (λe g=>e=[(1,v),(2,lv),(3,.mp 0 0),(8,.v (.bool bf)),(9,.v (.bool bf))]/\g=[bw [bB,mv,a,b,c] bf]) ?_ ?_;exact wx tt;rintro e g ⟨rfl,rfl⟩;refine iP (λe g=>∃t b':Bool,e=[(1,v),(2,lv),(8,.v (.bool t)),(9,.v (.bool b'))]/\g=[bw [bB,mv,a,b,c] bf]) ?_ ?_;refine wy ?_;refine dj (λi e h=>∃t b':Bool,e=[(1,v),(2,lv),(3,.mp 0 0),(8,.v (.bool t)),(9,.v (.bool b')),(10,bp i)]/\h=[bw [bB,mv,a,b,c] bf]) rows.length ⟨bf,bf,rfl,rfl⟩ ?_ ?_;rintro i e g Q ⟨t,b',rfl,rfl⟩;obtain⟨y,hy⟩:=dW Q;obtain⟨nm,iv,l,rfl,zq,JA,aKt,Ew⟩:=Ez y (cz hy);have oa:cx 2 lv (.v (.int .i64 (i:Int)))=a_ (.fp [bu nm,iv] 0):=zv.cw (x:=.agg [bu nm,iv]) aT rfl;have azm:=zU zq;refine oq ?_;refine dy (λq=>?_) λq=>?_;exact Mk ag ag (λq=>absurd q ag);refine dj (λj e h=>∃t b':Bool,e=[(1,v),(2,lv),(3,.mp 0 0),(8,.v (.bool t)),(9,.v (.bool b')),(10,bp i),(11,bp j)]/\h=[bw [bB,mv,a,b,c] bf]) l.length ⟨t,b',rfl,rfl⟩ ?_ ?_;rintro j e g hj ⟨t,b',rfl,rfl⟩;obtain⟨x,I⟩:=dW hj;have ix:=azm.cw I;cases t with
 |true=>
  cases b' with
  |true=>
   refine ke @bp.eq_1 @oa @ix @Y_ ?_;exact⟨_,_,rfl,trivial⟩
  |false=>
   refine oq ?_;refine eF (YG hr hS x) ?_;rintro r ⟨z,rfl⟩;refine wx ?_;exact⟨_,_,rfl,trivial⟩
 |false=>
  refine oq ?_;refine eF (YG hr hS x) ?_;rintro r ⟨z,rfl⟩;cases b' with
  |true=>
   refine wx ?_;exact⟨_,_,rfl,trivial⟩
  |false=>
   refine wy ?_;refine eF (YG hr hS x) ?_;rintro r ⟨z2,rfl⟩;refine wx ?_;exact⟨_,_,rfl,trivial⟩
 rintro e g ⟨t,b',rfl,rfl⟩;refine ff @bp.eq_1 @oa ?_;exact⟨_,_,rfl,trivial⟩;rintro e g ⟨t,b',rfl,rfl⟩;refine ff @bp.eq_1 @Hv ?_;exact⟨t,b',rfl,trivial⟩;rintro e g ⟨t,b',rfl,rfl⟩;refine iP (λe g=>e=[(1,v),(2,lv),(8,.v (.bool t))]/\g=[bw [bB,mv,a,b,c] bf]) ?_ ?_;cases t with
 |false=>
  exact wx tt
 |true=>
  cases b' with
  |false=>
   exact wx tt
  |true=>
   refine wy ?_;exact Mk ag ag (λq=>absurd q ag)
 rintro e g ⟨rfl,rfl⟩;refine iP (λe g=>(e=[(1,v),(2,lv),(8,.v (.bool t))]/\g=[bw [bB,mv,a,b,c] bf])/\(ps≠[]->cnt ps ((ps.length-1:Nat):Int)<=256)) ?_ ?_
 rcases Dw ps.length with hz|hz
 have d:decide ((ps.length:Int)>0)=bf:=decide_eq_false aa;have d':decide ((0:Int)<(ps.length:Int))=bf:=decide_eq_false aa;refine fq @mm @d @d' ?_;exact⟨⟨trivial,trivial⟩,λbR=>absurd (ou hz) bR⟩;have d:decide ((ps.length:Int)>0)=bh:=decide_eq_true aa;have bR:ps≠[]:=by rintro rfl;simp at hz
 refine wy (h_ (aDu h _ (ps.length-1) (yQ _) aa (an_ h hn bR)) (bO (Ce h) (bO (cP _) cG)) ?_);refine wy ?_;refine dy (λq=>?_) λq=>?_;exact Mk ag ag (λq=>absurd q ag);refine⟨⟨trivial,trivial⟩,λ_=>?_⟩;simp at q;omega;rintro e g ⟨⟨rfl,rfl⟩,T⟩;have x0:∀a b,oE 0 (.bQ [a,b])=a_ a:=λ_ _=>rfl;refine wy ?_;refine jG (aEw h aa zv ga Ez qa λbR=>⟨T bR,an_ h hn bR⟩) (bO (Ce h) (bO ga cG)) ?_;intro r D;refine wy (jG (aEc D) (bO D.clean cG) ?_);rintro r2 ⟨y1,fW,mz,t2,rfl,o1,o2,kz⟩;have st:=uT (n:=3) (g:=[bw [bB,mv,a,b,c] bf,bw [.bq,.bq,.bq] bf]) (k:=1) (Z:=[y1,fW,mz]) (cs0:=[.bq,.bq,.bq]) rfl rfl rfl (by simp only[qk,tB,o1,o2,kz];rfl);refine wy ?_;cases t2 with
 |false=>
  refine wy ?_;exact Mk ag ag (λq=>absurd q ag)
 |true=>
  refine wy ?_;exact Mk ag ag λ_=>T
end
end
section
variable{mv bB v w x y:bg}{g h J:List br}{m n:Nat}{xs ys:List bg}{e:TypeId}{marks cA rows:List (List bg)}
def Ar(x:bg):Prop:=∃(n0:Nat) (ps:List cV),yU n0 x ps/\n0<=100000000/\(ps≠[]->cnt ps ((ps.length-1:Nat):Int)<=256)
def Ar.one(h:Ar x):cq x=bh:=by
 obtain⟨n0,ps,h,_⟩:=h
 rcases h.v with rfl|⟨rfl,_⟩<;>rfl
def Ar.fz(h:Ar x)(J:List br):b6 J x x:=by
 obtain⟨n0,ps,h,_⟩:=h
 rcases h.v with rfl|⟨rfl,_⟩
 have fl:e_ J (ps.map su) (ps.map su):=iw λp ayD=>by
  have:=W5 J p;rw[show p.cD=p by
   have:=h.no p ayD;cases p;simp only[cV.cD] at*;simp[this]] at this
  exact this
 exact gQ fl;exact ey
def Ar.clean(h:Ar x):eT x:=by
 obtain⟨n0,ps,h,_⟩:=h;exact Ce h
structure PM(hk:bg):Prop where
 ex:∃(bB mv pv cL lv:bg) (cA marks:List (List bg)) (jJ lB:List bg) (lp:List (List bg)),hk=.agg [bB,mv,pv,cL,lv]/\rJ bB mv cA marks/\cC pv jJ/\jJ.length=cA.length/\(∀x∈jJ,Ar x)/\cC cL lB/\lB.length=cA.length/\(∀x∈lB,∃b:Bool,x=.v (.bool b))/\cC lv (lp.map dG)/\(∀x∈lp,xm x)/\lp.length<=10000000000
def PZ(r:bg):Prop:=∃(a b c d e:bg) (n:Int),r=.bQ [.agg [a,b,c,d,e],.v (.int .i64 n)]/\[a,b,c,d,e].all cq=bh/\(n=0->PM (.agg [a,b,c,d,e]))/\(n≠0->[a,b,c,d,e]=[.bq,.bq,.bq,.bq,.bq])
def aHc{n:Int}(hn:n≠0):∃k bS,dx J k (.bQ [.agg [.bq,.bq,.bq,.bq,.bq],.v (.int .i64 n)])=a_ bS/\PZ bS:=by
 obtain⟨k,S⟩:=(fj (bF (jO (bF ey (bF ey (bF ey (bF ey (bF ey cZ)))))) (bF (bH (.int .i64 n)) cZ)):b6 J _ _).done;exact⟨k,_,S,_,_,_,_,_,n,rfl,rfl,λq=>absurd q hn,λ_=>rfl⟩
def ad5(hA:de h v xs n e)(S:∀(j:Nat) b,h[j]?=a_ b->(∀ys,v≠.sl ys (.tok j))->g[j]?=a_ b):∀(j:Nat) b,h[j]?=a_ b->(∀c,b≠.tok c n e)->g[j]?=a_ b:=λj b q O=>S j b q λys z=>by
 rcases hA with⟨q1,_⟩|⟨id,q1,bt⟩
 rw[q1] at z;cases z;rw[q1] at z;cases z;rw[bt] at q;cases q;exact O _ rfl
def ad6{e2:TypeId}(hA:de h w ys m e2)(kp:∀(j:Nat) b,h[j]?=a_ b->(∀c,b≠.tok c n e)->g[j]?=a_ b)(bR:(m,e2)≠(n,e)):de g w ys m e2:=by
 rcases hA with q|⟨id,q1,bt⟩
 exact bD q;refine bG ⟨id,q1,kp _ _ bt λc z=>?_⟩;cases z;exact bR rfl
def asP{cc:Nat}(hA:de J v xs n e)(mG:cC y ys)(I:cY n xs=bh)(hy:cY n ys=bh)(hn:0<n)(O:0<cc)(hfit:(xs.length+ys.length)*cc<=140737488355328):
  ∃v' bl,eg J n cc e v y=a_ (v',bl)/\de bl v' (xs++ys) n e/\∀(j:Nat) b,J[j]?=a_ b->(∀xs,v≠.sl xs (.tok j))->bl[j]?=a_ b:=by
 by_cases h0:ys=[];subst h0;refine⟨v,J,?_,by rw[fZ];exact hA,λj b q _=>q⟩
 have T:iA y=a_ []:=by rcases mG with rfl|⟨rfl,_⟩<;>rfl
 rcases hA with⟨rfl,_⟩|⟨id,rfl,_⟩<;>simp[eg,gY,T]
 rcases mG with rfl|⟨_,z⟩
 exact ad8 hA I hy h0 hn O hfit;exact absurd z h0
structure sH(bB mv pv cL lv:bg)(jJ lB:List bg)(lp:List (List bg))(h:List br):Prop where
 r:h[0]?=a_ (.cells [.bq,.bq,.bq,.bq,.bq] bf)
 d:h[1]?=a_ (.cells [bB,mv] bf)
 b:h[2]?=a_ (.cells [bB,mv,pv,cL,lv] bf)
 p:de h pv jJ 1 128
 t:de h cL lB 1 4
 l:de h lv (lp.map dG) 2 193
 pk:∀x∈jJ,Ar x
 tk:∀x∈lB,∃b:Bool,x=.v (.bool b)
 lk:∀x∈lp,xm x
section
variable{bB mv pv cL lv:bg}{jJ lB:List bg}{lp:List (List bg)}{h:List br}
def Qa(hA:de h v xs n e):cq v=bh:=by
 rcases hA with⟨rfl,_⟩|⟨_,rfl,_⟩<;>rfl
def aa1{Z cs':List bg}(hA:de g w ys m e)(O:g[2]?=a_ (.cells Z bf)):de (g.set 2 (.cells cs' bf)) w ys m e:=by
 rcases hA with q|⟨id,q1,bt⟩
 exact bD q;exact bG ⟨id,q1,by rw[bC (by rintro rfl;rw[O] at bt;cases bt)];exact bt⟩
def sH.aFe(s:sH bB mv pv cL lv jJ lB lp h)(I:Ar x)(hl:jJ.length<=1000):∃v' g g',eg h 1 24 128 pv (.sl [x] .exact)=a_ (v',g)/\bL g 1 (.mp 2 2) v'=a_ g'/\sH bB mv v' cL lv (jJ++[x]) lB lp g':=by
 obtain⟨v',g,e1,e2,_,hA,O,q⟩:=Mm (x:=x) (cc:=24) (o:=2) s.p s.b af (BD λx I=>(s.pk x I).one) (BD λy hy=>by rw[dP.1 hy];exact I.one) ag ag aa;exact⟨v',g,_,e1,e2,q.cells s.r ag,q.cells s.d ag,O,hA,q.DP s.b s.t ag,q.DP s.b s.l ag,λy hy=>(fB.1 hy).elim (s.pk y) λq=>aNE,s.tk,s.lk⟩
def sH.aFf(s:sH bB mv pv cL lv jJ lB lp h)(b:Bool)(hl:lB.length<=1000):∃v' g g',eg h 1 1 4 cL (.sl [.v (.bool b)] .exact)=a_ (v',g)/\bL g 1 (.mp 2 3) v'=a_ g'/\sH bB mv pv v' lv jJ (lB++[.v (.bool b)]) lp g':=by
 obtain⟨v',g,e1,e2,_,hA,O,q⟩:=Mm (x:=.v (.bool b)) (cc:=1) (o:=3) s.t s.b af (BD λx I=>by obtain⟨b,rfl⟩:=s.tk x I;rfl) rfl ag ag aa;exact⟨v',g,_,e1,e2,q.cells s.r ag,q.cells s.d ag,O,q.DP s.b s.p ag,hA,q.DP s.b s.l ag,s.pk,λy hy=>(fB.1 hy).elim (s.tk y) λq=>⟨b,dP.1 q⟩,s.lk⟩
@[go_sem]def Z5(h:∀x∈rows,xm x):cY 2 (rows.map dG)=bh:=by
 rw[cY,eG];intro y hy;obtain⟨x,I,rfl⟩:=dX.1 hy;obtain⟨nm,iv,l,rfl,zq,_⟩:=h x I;have:cq iv=bh:=(zU zq).one;simp only[jU,eB,gR,qk,tB,this];rfl
def sH.Om(s:sH bB mv pv cL lv jJ lB lp h)(mG:cC y (rows.map dG))(D:∀x∈rows,xm x)(hl:lp.length+rows.length<=100000000000):∃v' g g',eg h 2 40 193 lv y=a_ (v',g)/\bL g 1 (.mp 2 4) v'=a_ g'/\sH bB mv pv cL v' jJ lB (lp++rows) g':=by
 obtain⟨v',g,e1,hA,S⟩:=asP (cc:=40) s.l mG (Z5 s.lk) (Z5 D) ag ag (by simp only[cS];omega);rw[<-gz] at hA;have kp:=ad5 s.l S;have b1:=kp _ _ s.b af;have st:=(rm b1 (Qa hA)).2.2.2.2;refine⟨v',g,_,e1,st,?_,?_,bT (gl b1),aa1 (ad6 s.p kp ag) b1,aa1 (ad6 s.t kp ag) b1,aa1 hA b1,s.pk,s.tk,λx I=>?_⟩;rw[bC ag];exact kp _ _ s.r af;rw[bC ag];exact kp _ _ s.d af
 rcases fB.1 I with q|q
 exact s.lk x q;exact D x q
def sH.imp(s:sH bB mv pv cL lv jJ lB lp h)(hd:eT bB)(he:eT mv):∃a b c,lV (.agg [bB,mv,pv,cL,lv]) (.agg [bB,mv,a,b,c])/\eT (.agg [bB,mv,a,b,c]):=by
 have one:∀{v:bg} {xs:List bg} {n:Nat} {e:TypeId},de h v xs n e->(∀x∈xs,∀c∈x.cells,eT c)->∃v',lV v v'/\eT v':=λ{v xs n e} hA T=>by
  rcases hA with⟨rfl,_⟩|⟨id,rfl,_⟩
  exact⟨.bq,nY,nY⟩;exact⟨.sl xs .no,k7 T,k7 T⟩
 obtain⟨a,a1,a2⟩:=one s.p λx I c T=>by
  rw[rO (s.pk x I).one] at T;rw[dP.1 T];exact(s.pk x I).clean
 obtain⟨b,b1,b2⟩:=one s.t λx I c T=>by
  obtain⟨t,rfl⟩:=s.tk x I;rw[dP.1 (show c∈[dh (.bool t)] from T)];exact cP _
 obtain⟨c,c1,c2⟩:=one s.l λx I c T=>by
  obtain⟨y,hy,rfl⟩:=dX.1 I;obtain⟨nm,iv,l,rfl,zq,JA,_⟩:=s.lk y hy;have jr:c∈[bu nm,iv]:=T;simp only[fc,pV,or_false] at jr
  rcases jr with rfl|rfl
  exact cP _;exact JA
 refine⟨a,b,c,aiU rfl λi x y I hy=>?_,Gd λx I=>?_⟩
 match i with
 |0=>cases I;cases hy;exact hd
 |1=>cases I;cases hy;exact he
 |2=>cases I;cases hy;exact a1
 |3=>cases I;cases hy;exact b1
 |4=>cases I;cases hy;exact c1
 |i+5=>simp at I
 simp only[fc,pV,or_false] at I
 rcases I with rfl|rfl|rfl|rfl|rfl
 exact hd;exact he;exact a2;exact b2;exact c2
def sH.fin(s:sH bB mv pv cL lv jJ lB lp h)(hr:rJ bB mv cA marks)(Y:jJ.length=cA.length)(V:lB.length=cA.length)(h3:lp.length<=10000000000)(g:List br)(hn:b6 g bB bB)(hm:b6 g mv mv):∃k bS,dx g k (.bQ [.agg [bB,mv,pv,cL,lv],.v (.int .i64 0)])=a_ bS/\PZ bS:=by
 have one:∀{v:bg} {xs:List bg} {n:Nat} {e:TypeId},de h v xs n e->e_ g xs xs->∃v',b6 g v v'/\cC v' xs:=λ{v xs n e} hA T=>by
  rcases hA with⟨rfl,q⟩|⟨id,rfl,_⟩
  exact⟨.bq,ey,bG ⟨rfl,q⟩⟩;exact⟨.sl xs .no,gQ T,bD rfl⟩
 obtain⟨a,a1,a2⟩:=one s.p (e_.each λx I=>(s.pk x I).fz g);obtain⟨b,b1,b2⟩:=one s.t (e_.each λx I=>by obtain⟨t,rfl⟩:=s.tk x I;exact bH _);obtain⟨c,c1,c2⟩:=one s.l (iw λx I=>by
  obtain⟨nm,iv,l,rfl,zq,_⟩:=s.lk x I;refine jO (bF (bH _) (bF ?_ cZ))
  rcases zq with rfl|⟨rfl,_⟩
  exact gQ (iw λa _=>bH _);exact ey)
 obtain⟨k,S⟩:=(fj (bF (jO (bF hn (bF hm (bF a1 (bF b1 (bF c1 cZ)))))) (bF (bH (.int .i64 0)) cZ)):b6 g _ _).done
 have o:∀{v:bg} {xs:List bg},cC v xs->cq v=bh:=λ{v xs} q=>aLv
 exact⟨k,_,S,bB,mv,a,b,c,0,rfl,by simp only[qk,tB,o hr.n,o hr.m,o a2,o b2,o c2];rfl,λ_=>⟨bB,mv,a,b,c,cA,marks,jJ,lB,lp,rfl,hr,a2,Y,s.pk,b2,V,s.tk,c2,s.lk,h3⟩,λq=>absurd rfl q⟩
end
def atX{x:List bg}(h:vM x):∀c∈x,eT c:=by
 obtain⟨nm,cr,i,p,cj,a,al,mv,ex,rfl,hg,hm,_⟩:=h;intro c T;obtain⟨l,g1,_⟩:=hg;obtain⟨l2,m1,_⟩:=hm;simp only[eL,fc,pV,or_false] at T
 rcases T with rfl|rfl|rfl|rfl|rfl|rfl|rfl|rfl|rfl
 exact cP _;exact qZ g1;exact cP _;exact cP _;exact cP _;exact cP _;exact cP _;exact qZ m1;exact cP _
def atV{x:List bg}(h:oB x):∀c∈x,eT c:=by
 obtain⟨nm,v,al,bv,rfl,l,g1,_⟩:=h;intro c T;simp only[eV,fc,pV,or_false] at T
 rcases T with rfl|rfl|rfl|rfl
 exact cP _;exact cP _;exact cP _;exact qZ g1
def rJ.atQ(hr:rJ bB mv cA marks):eT bB/\eT mv:=by
 refine⟨I_ hr.n λx I c T=>?_,I_ hr.m λx I c T=>?_⟩;obtain⟨y,hy,rfl⟩:=dX.1 I;exact atX (hr.nj y hy) c T;obtain⟨y,hy,rfl⟩:=dX.1 I;exact atV (hr.hY y hy) c T
def rJ.agQ(hr:rJ bB mv cA marks)(g:List br):b6 g bB bB/\b6 g mv mv:=by
 constructor
 rcases hr.n with h|⟨h,_⟩
 rw[h];exact gQ (iw λx I=>(hr.nj x I).fz g);rw[h];exact ey
 rcases hr.m with h|⟨h,_⟩
 rw[h];exact gQ (iw λx I=>(hr.hY x I).agR g);rw[h];exact ey
section
variable{G:Cells}
def aEd(s:List UInt8)(hs:s.length<=1000000):dV G bA 35 [bu s] PZ:=by
 refine ep (aBC.go ?_);have bad:∀{g:List br} {n:Int},g[0]?=a_ (.cells [.bq,.bq,.bq,.bq,.bq] bf)->n≠0->bL g 5 (.mp 0 0) (.agg [.bq,.bq,.bq,.bq,.bq])=a_ (g.set 0 (.cells [.bq,.bq,.bq,.bq,.bq] bf))/\bz (g.set 0 (.cells [.bq,.bq,.bq,.bq,.bq] bf)) bh 5 (.mp 0 0)=a_ (.agg [.bq,.bq,.bq,.bq,.bq])/\∃k bS,dx (g.set 0 (.cells [.bq,.bq,.bq,.bq,.bq] bf)) k (.bQ [.agg [.bq,.bq,.bq,.bq,.bq],.v (.int .i64 n)])=a_ bS/\PZ bS:=λ{g n} h hn=>
  ⟨NV h rfl,(jS (bT (gl h))).2.2.2.2.2,aHc hn⟩
 refine eN (λe g=>e=[(0,bu s),(2,.mp 0 0)]/\g=[.cells [.bq,.bq,.bq,.bq,.bq] bf]) ?_ ?_;exact wx tt;rintro e g ⟨rfl,hg⟩;refine eN (λe g=>∃bB mv cA marks,∃AQ:Int,e=[(2,.mp 0 0),(4,.mp 1 0),(6,.v (.int .i64 AQ))]/\g=[.cells [.bq,.bq,.bq,.bq,.bq] bf,.cells [bB,mv] bf]/\rJ bB mv cA marks) ?_ ?_;refine wy ?_;refine eF (aEV s hs) ?_;rintro _ ⟨bB,mv,cA,marks,Tv,AQ,rfl,hr⟩
 have o:∀{v:bg} {xs:List bg},cC v xs->cq v=bh:=λ{v xs} q=>aLv
 have st:=KR (X:=[.cells [.bq,.bq,.bq,.bq,.bq] bf,.cells [.bq,.bq] bf]) (k:=1) (a:=.bq) (b:=.bq) (c:=bB) (d:=mv) rfl (o hr.n) (o hr.m);refine wy ?_;exact⟨bB,mv,cA,marks,AQ,rfl,rfl,hr⟩;rintro e g1 ⟨bB,mv,cA,marks,AQ,rfl,rfl,hr⟩;have wz:=hr.nl;obtain⟨afz,afA⟩:=hr.atQ;refine iP (λe g=>e=[(2,.mp 0 0),(4,.mp 1 0)]/\g=[.cells [.bq,.bq,.bq,.bq,.bq] bf,.cells [bB,mv] bf]) ?_ ?_;refine wy (cQ (λq=>?_) λq=>?_);have q':AQ≠0:=an
 obtain⟨b1,b2,b3⟩:=bad (g:=[.cells [.bq,.bq,.bq,.bq,.bq] bf,.cells [bB,mv] bf]) (n:=AQ) rfl q';exact wy b3;exact wx tt;rintro e g2 ⟨rfl,rfl⟩;refine eN (λe g=>e=[(2,.mp 0 0),(4,.mp 1 0),(7,.mp 2 0)]/\sH bB mv .bq .bq .bq [] [] [] g) ?_ ?_
 have o:∀{v:bg} {xs:List bg},cC v xs->cq v=bh:=λ{v xs} q=>aLv
 have f1:dI [.bq,.bq,.bq,.bq,.bq] [(0,2,.agg [bB,mv])]=a_ [bB,mv,.bq,.bq,.bq]:=rfl;have st:=NV (h:=[.cells [.bq,.bq,.bq,.bq,.bq] bf,.cells [bB,mv] bf,.cells [.bq,.bq,.bq,.bq,.bq] bf]) (k:=2) (a':=bB) (b':=mv) (c':=.bq) (d':=.bq) (e':=.bq) rfl (by simp only[qk,tB,o hr.n,o hr.m];rfl);refine wx ?_;exact⟨trivial,rfl,rfl,rfl,bD ⟨rfl,rfl⟩,bD ⟨rfl,rfl⟩,bD ⟨rfl,rfl⟩,af,af,af⟩;rintro e g3 ⟨rfl,ek⟩;obtain⟨a3,b3,c3,i3,az3⟩:=ek.imp afz afA;refine eN (λe g=>∃n:Int,e=[(2,.mp 0 0),(4,.mp 1 0),(6,.v (.int .i64 n)),(7,.mp 2 0)]/\g=g3) ?_ ?_;refine iD ((jS ek.b).2.2.2.2.2) ?_;refine eF (aD5 hr az3) ?_;rintro r ⟨n,rfl,_,_⟩;refine wx ?_;exact⟨n,rfl,trivial⟩;rintro e g4 ⟨n,rfl,rfl⟩;refine iP (λe g=>e=[(2,.mp 0 0),(4,.mp 1 0),(7,.mp 2 0)]/\g=g4) ?_ ?_;refine wy (cQ (λq=>?_) λq=>?_);have q':n≠0:=an
 obtain⟨b1,b2,b3⟩:=bad ek.r q';exact fq @q @b1 @b2 b3;exact eE @q tt;rintro e g5 ⟨rfl,rfl⟩;have ln:=hr.n.cH;rw[cS] at ln;have mm:∀J,cH bB J=a_ (.v (.int .i64 (cA.length:Int)),J):=λJ=>aLB
 refine iP (λe g=>e=[(2,.mp 0 0),(7,.mp 2 0)]/\∃pv cL lv jJ lB lp,sH bB mv pv cL lv jJ lB lp g/\jJ.length=cA.length/\lB.length=cA.length/\lp.length<=cA.length*200000000) ?_ ?_;refine wy ?_;refine dj (λi e g=>e=[(2,.mp 0 0),(4,.mp 1 0),(7,.mp 2 0),(8,bp i)]/\∃pv cL lv jJ lB lp,sH bB mv pv cL lv jJ lB lp g/\jJ.length=i/\lB.length=i/\lp.length<=i*200000000) cA.length ⟨rfl,_,_,_,_,_,_,ek,rfl,rfl,j0 _⟩ ?_ ?_;rintro i e g Q ⟨rfl,pv,cL,lv,jJ,lB,lp,s,Y,V,h3⟩;have gk:bz g bf 1 (.mp 1 0)=a_ bB:=by simp only[bz,s.d];rfl
 obtain⟨y,hy⟩:=dW Q;have mJ:=hr.nj y (cz hy);have oa:cx 9 bB (.v (.int .i64 (i:Int)))=a_ (.fp y 0):=hr.n.cw (x:=.agg y) aT aNA;obtain⟨nm,cr,ib,pb,cj,a2,al,mo,ex,rfl,_,_,XP⟩:=mJ;have Hr:∀h,bz h bf 1 (.fp (eL nm cr ib pb cj a2 al mo ex) 8)=a_ (bu ex):=λh=>rfl;have w1:cN.wrap ((i:Int)+1)=((i+1:Nat):Int):=kI aa;obtain⟨a4,b4,c4,i4,ai_⟩:=s.imp afz afA;have la:=(jS s.b).2.2.2.2.2;refine wy ?_;refine eF (anL ex aa) ?_;rintro _ ⟨v,ps,Tv,AQ,rfl,hR⟩;have q7:=hR.len;refine wy (jG (aDN hr ai_ hR aa) (bO i4 (bO (Ce hR) cG)) ?_);rintro lw ⟨rows,EG,uc,aiu⟩;have ga:eT lw:=I_ EG λx I c T=>by
  obtain⟨y,hy,rfl⟩:=dX.1 I;obtain⟨nm,iv,l,rfl,zq,JA,_⟩:=uc y hy;have jr:c∈[bu nm,iv]:=T;simp only[fc,pV,or_false] at jr
  rcases jr with rfl|rfl
  exact cP _;exact JA
 refine wy (jG (aEi hr ai_ hR XP EG ga uc aa) (bO i4 (bO (Ce hR) (bO ga cG))) ?_);rintro _ ⟨t,n,rfl,_,_,T⟩;refine so (cQ (λq=>?_) λq=>?_);have q':n≠0:=an
 obtain⟨b1,b2,b3⟩:=bad s.r q';exact fq @q @b1 @b2 b3;have q':n=0:=an
 have hP:Ar v:=⟨_,ps,hR,XP,T q'⟩;obtain⟨Tu,k1,k2,e1,e2,s1⟩:=s.aFe hP aa;obtain⟨uz,gN,jl,di,eX,s2⟩:=s1.aFf t aa;obtain⟨aKS,wF,Hj,n3,zd,ek⟩:=s2.Om EG uc aa;obtain⟨_,_,m2,_⟩:=jS s.b;obtain⟨_,_,_,m3,_⟩:=jS s1.b;obtain⟨_,_,_,_,m4,_⟩:=jS s2.b;refine wT (dB @q @m2 (IU hP.one) @e1) @e2 @m3 @di @eX @m4 @n3 @zd @w1 ?_;exact⟨rfl,_,_,_,_,_,_,ek,aMw,by simp[V],aMA⟩;rintro e g ⟨rfl,pv,cL,lv,jJ,lB,lp,s,Y,V,h3⟩;have gk:bz g bf 1 (.mp 1 0)=a_ bB:=by simp only[bz,s.d];rfl
 refine fq @bp.eq_1 @gk @mm ?_;exact⟨trivial,pv,cL,lv,jJ,lB,lp,s,Y,V,h3⟩;rintro e g6 ⟨rfl,pv,cL,lv,jJ,lB,lp,mq,Y,V,h3⟩
 have o:∀{v:bg} {xs:List bg},cC v xs->cq v=bh:=λ{v xs} q=>aLv
 have st:=NV (a':=bB) (b':=mv) (c':=pv) (d':=cL) (e':=lv) mq.r (by simp only[qk,tB,o hr.n,o hr.m,Qa mq.p,Qa mq.t,Qa mq.l];rfl);have la:=(jS (bT (a:=.cells [bB,mv,pv,cL,lv] bf) (gl mq.r))).2.2.2.2.2;refine mQ ((jS mq.b).2.2.2.2.2) @st ?_;obtain⟨b7,z2⟩:=hr.agQ (g6.set 0 (.cells [bB,mv,pv,cL,lv] bf));exact mq.fin hr Y V aa _ b7 z2
end
end
section
variable{ms:List Int}
section
variable{G:Cells}{hk bB mv:bg}{rows marks:List (List bg)}
def Hy(marks:List (List bg))(t:Int):Option (List bg):=if 0<=t then marks[t.toNat]? else bn
def SR(marks:List (List bg))(t:Int):Hy marks t=bn\/∃(i:Nat) (x:List bg),t=(i:Int)/\marks[i]?=a_ x/\Hy marks t=a_ x:=by
 cases h:Hy marks t with
 |none=>exact bD rfl
 |some x=>
  right;unfold Hy at h;split at h;exact⟨t.toNat,x,aa,h,rfl⟩;cases h
def SN(s:mD hk bB mv rows marks){t:Int}(h:Hy marks t=bn):cI G bA 229 [hk,.v (.int .i64 t)] (.v (.pointer bn)):=by
 rw[s.eq];refine eA (YP.go ?_);have ln:=s.m.cH;rw[cS] at ln;refine wy ?_;refine cQ (λq=>?_) λq=>?_;refine wy ?_;exact(bH _).done;refine wy ?_;refine cQ (λbt=>?_) λbt=>?_;refine wy ?_;exact(bH _).done;exfalso;unfold Hy at h;have q1:¬t<0:=an
 rw[if_pos aa,acC] at h;simp at bt;omega
def SO(s:mD hk bB mv rows marks){i:Nat}{x:List bg}(I:marks[i]?=a_ x):cI G bA 229 [hk,.v (.int .i64 (i:Int))] (.fp x 0):=by
 rw[s.eq];refine eA (YP.go ?_);have Q:=(cJ.1 I).1;have ln:=s.m.cH;rw[cS] at ln;have D:=s.hY x (cz I);have cw:cx 4 mv (.v (.int .i64 (i:Int)))=a_ (.fp x 0):=s.m.cw (x:=.agg x) aA D.ok.1;have d1:decide ((i:Int)<0)=bf:=decide_eq_false aa;refine wy ?_;obtain⟨nm,n,al,bv,rfl,l,g1,g2⟩:=D;have O:b6 [] bv bv:=by
  rcases g1 with rfl|⟨rfl,_⟩
  exact gQ (iw λa _=>bH _);exact ey
 exact(b6.fp (bF (bH _) (bF (bH _) (bF (bH _) (bF O cZ))))).done
def aDE(s:mD hk bB mv rows marks):cI G bA 211 [hk] (.v (.int .i64 (marks.length:Int))):=by
 rw[s.eq];refine eA (aj9.go ?_);have ln:=s.m.cH;rw[cS] at ln;refine wy ?_;exact(bH _).done
def abP(marks:List (List bg))(t:Int):Int:=((Hy marks t).map (ai8 1)).getD 0
def aDH(s:mD hk bB mv rows marks)(t:Int):cI G bA 212 [hk,.v (.int .i64 t)] (.v (.int .i64 (abP marks t))):=by
 have T:=s.clean;refine eA (aj_.go ?_);refine wy ?_
 rcases SR marks t with h|⟨i,x,rfl,I,D⟩
 refine h_ (SN s h) (bO T (bO (cP _) cG)) ?_;unfold abP;rw[h];refine wy ?_;exact(bH _).done;refine h_ (SO s I) (bO T (bO (cP _) cG)) ?_;unfold abP;rw[D];obtain⟨nm,n,al,bv,rfl,_⟩:=s.hY x (cz I);have l1:∀h,bz h bf 1 (.fp (eV nm n al bv) 1)=a_ (.v (.int .i64 n)):=λh=>rfl;refine wy ?_;exact(bH _).done
def as6(s:mD hk bB mv rows marks)(a b:Int):dV G bA 167 [hk,.v (.int .i64 a),.v (.int .i64 b)] jW:=by
 have T:=s.clean;refine ep (ajy.go ?_);refine wy ?_
 rcases SR marks a with h|⟨i,x,rfl,I,D⟩
 refine h_ (SN s h) (bO T (bO (cP _) cG)) ?_;refine wy ?_
 rcases SR marks b with V|⟨i2,x2,rfl,qd,uc⟩
 refine h_ (SN s V) (bO T (bO (cP _) cG)) ?_;refine wy ?_;exact ji _;refine h_ (SO s qd) (bO T (bO (cP _) cG)) ?_;refine wy ?_;exact ji _;refine h_ (SO s I) (bO T (bO (cP _) cG)) ?_;obtain⟨nm,n,al,bv,rfl,l,g1,g2⟩:=s.hY x (cz I);have l2:∀h,bz h bf 1 (.fp (eV nm n al bv) 2)=a_ (.v (.bool al)):=λh=>rfl;have l3:∀h,bz h bf 1 (.fp (eV nm n al bv) 3)=a_ bv:=λh=>rfl;refine wy ?_
 rcases SR marks b with V|⟨i2,x2,rfl,qd,uc⟩
 refine h_ (SN s V) (bO T (bO (cP _) cG)) ?_;refine wy ?_;exact ji _;refine h_ (SO s qd) (bO T (bO (cP _) cG)) ?_;obtain⟨ZS,n2,ij,gL,rfl,_⟩:=s.hY x2 (cz qd);have l0:∀h,bz h bf 1 (.fp (eV ZS n2 ij gL) 0)=a_ (bu ZS):=λh=>rfl;refine wy ?_;refine cQ (λq=>?_) λq=>?_;refine wy ?_;exact ji _;cases al with
 |true=>
  refine wy ?_;exact ji _
 |false=>
  refine wy ?_;refine h_ (L1 g1 (qZ g1) aa ZS) (bO (qZ g1) (bO (uX _) cG)) ?_;refine wy ?_;exact ji _
def aDK(s:mD hk bB mv rows marks)(a b:Int):dV G bA 148 [hk,.v (.int .i64 a),.v (.int .i64 b)] jW:=by
 have T:=s.clean;refine ep (ajz.go ?_);refine wy ?_;refine cQ (λq=>?_) λq=>?_;refine wy ?_;refine h_ (aDE s) (bO T cG) ?_;refine wy ?_;refine cQ (λbt=>?_) λbt=>?_;refine wy ?_;refine cQ (λbV=>?_) λbV=>?_;refine wy ?_;refine h_ (aDH s a) (bO T (bO (cP _) cG)) ?_;refine wy ?_;exact ji _;refine wy ?_;exact ji _;refine wy ?_;exact ji _;refine wy ?_;exact ji _
end
def ac1(r:bg):Prop:=∃(n:Int) (b:Bool),r=.bQ [.v (.int .i64 n),.v (.bool b)]
def Q6{J:List br}(n:Int)(b:Bool):∃k bS,dx J k (.bQ [.v (.int .i64 n),.v (.bool b)])=a_ bS/\ac1 bS:=by
 obtain⟨k,S⟩:=(fj (bF (bH (.int .i64 n)) (bF (bH (.bool b)) cZ)):b6 J _ _).done;exact⟨k,_,S,n,b,rfl⟩
def QA(ms:List Int):eT (.agg (ms.map fY)):=Gd λc T=>by
 obtain⟨n,_,rfl⟩:=dX.1 T;exact cP _
section
variable{G:Cells}
def axb(hl:ms.length=8)(i:Int):dV G bA 228 [.agg (ms.map fY),.v (.int .i64 i)] ac1:=by
 refine ep (aj3.go ?_);refine wy ?_;refine cQ (λq=>?_) λq=>?_;refine wy ?_;exact Q6 _ _;refine wy ?_;refine cQ (λbt=>?_) λbt=>?_;refine wy ?_;exact Q6 _ _;obtain⟨m,rfl⟩:∃m:Nat,i=(m:Int):=⟨i.toNat,au⟩;have hm:m<8:=aMr
 obtain⟨x,I⟩:∃x,ms[m]?=a_ x:=⟨ms[m]' aa,cu _⟩;have tM:kQ 8 1 (.mp 0 0) (.v (.int .i64 (m:Int)))=a_ (.mp 0 m):=by
  unfold kQ;dsimp only;rw[if_pos ⟨aa,aa⟩];simp[m_]
 have gk:bz [bw (ms.map fY) bf] bf 1 (.mp 0 m)=a_ (.v (.int .u16 x)):=by
  show e9 bf 1 (ms.map fY) m=_;unfold e9;rw[if_neg af,fD,I];rfl
 refine wy ?_;refine cQ (λbV=>?_) λbV=>?_;refine wy ?_;exact Q6 _ _;refine wy ?_;exact Q6 _ _
def arN(r:bg):Prop:=∃l:List (Int×Int),cC r (l.map λx=>.agg [bp x.1,bp x.2])/\l.length<=8
def aEF(l:List (Int×Int)):cY 2 (l.map λx=>dG [bp x.1,bp x.2])=bh:=by
 rw[cY,eG];intro x I;obtain⟨t,_,rfl⟩:=dX.1 I;rfl
def amk(hl:ms.length=8):dV G bA 165 [.agg (ms.map fY)] arN:=by
 refine ep (aju.go ?_);refine wy ?_;refine dj (λi e g=>∃(l:List (Int×Int)) (bx:bg),e=[(1,.mp 0 0),(3,bx),(7,bp i)]/\g[0]?=a_ (.cells (ms.map fY) bf)/\de g bx (l.map λx=>.agg [bp x.1,bp x.2]) 2 70/\l.length<=i) 8 ⟨[],.bq,rfl,rfl,bD ⟨rfl,rfl⟩,b_ _⟩ ?_ ?_;rintro i e g Q ⟨l,bx,rfl,h0,hA,qa⟩;have d1:decide ((i:Int)<8)=bh:=decide_eq_true aa;have w1:cN.wrap ((i:Int)+1)=((i+1:Nat):Int):=kI aa;refine Di (AH h0 (n:=8) aI) ?_;refine jG (axb hl _) (bO (QA ms) (bO (cP _) cG)) ?_;rintro r ⟨n,b,rfl⟩;cases b with
 |false=>
  refine ff @Q1 @Q2 ?_;exact⟨l,bx,rfl,h0,hA,aa⟩
 |true=>
  obtain⟨cl,g2,e1,fM,_,_,S⟩:=nc (x:=.agg [bp (i:Int),bp n]) (cc:=16) hA (aEF l) rfl ag ag ah;have kp:=ad5 hA S;have f1:dI [.v (.int .i64 0),.v (.int .i64 0)] [(0,1,.v (.int .i64 (i:Int))),(1,1,.v (.int .i64 n))]=a_ [bp (i:Int),bp n]:=rfl;have ab:eW 2 [.agg [bp (i:Int),bp n]]=a_ (.sl [.agg [bp (i:Int),bp n]] .exact):=rfl;refine Df @Q1 @Q2 @w1 @f1 @ab @e1 ?_;refine⟨l++[((i:Int),n)],cl,rfl,kp _ _ h0 af,?_,ah⟩;rw[gz];exact fM
 rintro e g ⟨l,bx,rfl,h0,hA,qa⟩;have d1:decide (((8:Nat):Int)<8)=bf:=ag
 refine wy ?_
 rcases hA with⟨rfl,z⟩|⟨id,rfl,_⟩
 obtain⟨k,S⟩:=(ey:b6 g _ _).done;exact⟨k,_,S,l,bG ⟨rfl,z⟩,qa⟩;obtain⟨k,S⟩:=(gQ (t:=.tok id) (iw (f:=λx:Int×Int=>dG [bp x.1,bp x.2]) (l:=l) λa _=>jO (bF (bH _) (bF (bH _) cZ))):b6 g _ _).done;exact⟨k,_,S,l,bD rfl,qa⟩
end
end
end Go.Proofs.YtpcfoeagojdmdaaGreatDoor

/- Part 11 of a proof. No condition. -/
import Derived.Test.YtplgiomcbchjiaaGreatDoorZ10
set_option linter.unusedVariables false
set_option linter.unusedSimpArgs false
set_option linter.defProp false
open Bool renaming false->bf,true->bh,true_and->O_
open Go.bM.bg renaming agg->dG,cells->jD,one->cu,v->cR
open Go.bM.de renaming nil->tA
open Go.bM.br renaming cells->bw
open Go.bM.tG renaming mk->cM
open Go.bM.cw renaming mono->cm,aaA->eo,pure->ic,aFa->jE
open Go.bM renaming Clean->eY
open Go.bM.b_ renaming agg->j0,bp->eB,sl->hD,bQ->fy,v->bH
open Go.bM.fC renaming cons->bG,map->iE,nil->c_
open Go.IntKind renaming i64->cN
open Go.Proofs.Tryz renaming prog->bB
open Go.Proofs.YtplgiomcbchjiaaGreatDoor.Ext renaming app->mg
open Go.Proofs.YtplgiomcbchjiaaGreatDoor.cT renaming bA->su,many->Fy
open Int renaming eq_ofNat_of_zero_le->pJ,le_refl->Dm,reduceBEq->BS,reduceBNe->BT
open List renaming all_cons->pK,all_eq_true->eJ,all_nil->tC,append_nil->gV,drop_drop->z6,drop_eq_getElem_cons->UD,drop_of_length_le->tD,drop_zero->pL,eq_nil_of_length_eq_zero->oc,flatten_cons->yx,getElem?_concat_length->UG,getElem?_eq_getElem->cy,getElem?_eq_none_iff->arv,getElem?_eq_some_iff->cK,getElem?_map->e9,getElem?_set_ne->bE,getElem?_set_self->bT,length_append->ek,length_cons->eZ,length_eq_one_iff->FD,length_map->cS,length_nil->iG,length_set->wY,length_singleton->qg,map_append->gC,map_cons->fc,map_eq_nil_iff->UJ,map_map->yz,map_nil->kM,map_set->yA,mem_append->fA,mem_cons->fo,mem_iff_getElem?->Pq,mem_map->dV,mem_of_getElem?->cv,mem_of_mem_drop->vz,mem_or_eq_of_mem_set->UK,mem_replicate->ary,mem_singleton->dW,nil_append->gM,not_mem_nil->pM,pairwise_cons->arz,replicate->fB,set_eq_take_append_cons_drop->arD,sum_cons->Aa,sum_nil->Iu,take_length->od,take_of_length_le->oe,take_zero->oR
open Nat renaming add_assoc->nM,add_zero->sx,eq_zero_or_pos->Dp,le_refl->cc,le_trans->iz,lt_or_ge->er,lt_succ_self->yB,min_eq_left->Lc,mul_le_mul_right->qh,one_mul->FF,reduceAdd->vB,reduceEqDiff->w6,reduceLT->w7,reduceLeDiff->w8,succ_mul->uF,zero_add->gi,zero_le->gW,zero_lt_succ->w9
open Ne renaming symm->e3
open Option renaming none->bn,some->a_
open Option.some renaming inj->lI
open Or renaming inl->bD,inr->bF
namespace Go.Proofs.YtplgiomcbchjiaaGreatDoor
open Go Go.bM Go.RowKit
section
variable{N i j:Nat}{l m:List Int}
def qP(N:Nat)(l:List Int):Prop:=l.Pairwise (· < ·)/\∀x∈l,(0:Int)<=x/\x<(N:Int)
def aoB:∀(l:List Int) (a b:Int),a<=b->l.Pairwise (· < ·)->(∀x∈l,a<=x/\x<b)->(l.length:Int)<=b-a
 |[],a,b,h,_,_=>ah
 |x::r,a,b,h,J,O=>by
  rw[arz] at J;have Y:=O x af;have:=aoB r (x+1) b aa J.2 λy hy=>⟨by have:=J.1 y hy;omega,(O y aT).2⟩;rw[eZ];omega
def qP.len(h:qP N l):l.length<=N:=by
 have:=aoB l 0 (N:Int) aa h.1 h.2;omega
def qP.nil(N:Nat):qP N []:=⟨List.Pairwise.nil,af⟩
def qP.one{n:Nat}(h:n<N):qP N [(n:Int)]:=⟨af,λx I=>by rw[dW.1 I];omega⟩
def qP.mono{M:Nat}(h:qP N l)(hm:N<=M):qP M l:=⟨h.1,λx I=>⟨(h.2 x I).1,by have:=(h.2 x I).2;omega⟩⟩
def aaH{a:Int}(h:l.Pairwise (· < ·))(ha:l[i]?=a_ a):(∀y∈l.drop (i+1),a<y)/\(∀y∈l.drop i,a<=y)/\a∈l.drop i:=by
 have hl:=gl ha;have e:l.drop i=a::l.drop (i+1):=by
  rw[UD hl];rw[cy hl] at ha;rw[lI ha]
 have hd:(l.drop i).Pairwise (· < ·):=h.sublist (List.drop_sublist i l);rw[e,arz] at hd;refine⟨hd.1,λy hy=>?_,by rw[e];simp⟩;rw[e] at hy
 rcases fo.1 hy with rfl|hy
 exact Dm _;exact Int.le_of_lt (hd.1 y hy)
def amR{y:Int}(h:i<=j)(hy:y∈l.drop j):y∈l.drop i:=by
 have e:l.drop j=(l.drop i).drop (j-i):=by rw[z6];congr 1;omega
 rw[e] at hy;exact vz hy
structure BZ(l m:List Int)(i j:Nat)(o:List Int):Prop where
 Q:i<=l.length
 hj:j<=m.length
 hn:o.length<=i+j
 p:o.Pairwise (· < ·)
 hm:∀x∈o,x∈l\/x∈m
 a:∀x∈o,∀y∈l.drop i,x<y
 b:∀x∈o,∀y∈m.drop j,x<y
def BZ.push{o:List Int}{i' j':Nat}{z:Int}(h:BZ l m i j o)(Y:i<=i')(V:j<=j')(h3:i'<=l.length)(h4:j'<=m.length)(h5:i+j<i'+j')(hz:z∈l.drop i\/z∈m.drop j)(ha:∀y∈l.drop i',z<y)(O:∀y∈m.drop j',z<y):BZ l m i' j' (o++[z]):=by
 refine⟨h3,h4,?_,?_,?_,?_,?_⟩;have:=h.hn;rw[ek,qg];omega;rw[List.pairwise_append];refine⟨h.p,af,λx I y hy=>?_⟩;rw[dW.1 hy];exact hz.elim (h.a x I z) (h.b x I z);intro x I
 rcases fA.1 I with q|q
 exact h.hm x q;rw[dW.1 q];exact hz.elim (λq=>bD (vz q)) λq=>bF (vz q);intro x I y hy
 rcases fA.1 I with q|q
 exact h.a x q y (amR Y hy);rw[dW.1 q];exact ha y hy;intro x I y hy
 rcases fA.1 I with q|q
 exact h.b x q y (amR V hy);rw[dW.1 q];exact O y hy
def af_(h:l.length<=i){P:Int->Prop}:∀y∈l.drop i,P y:=λy hy=>by
 rw[tD h] at hy;cases hy
def ar8(N:Nat)(r:bg):Prop:=∃o:List Int,cD r (o.map bq)/\qP N o
def aEO{G:Cells}{v w:bg}(hv:cD v (l.map bq))(hw:cD w (m.map bq))(hl:qP N l)(hm:qP N m)(hN:N<=1000000):dM G bB 252 [v,w] (ar8 N):=by
 have oz:=hl.len;have n3:=hm.len;refine en (aBo.go ?_);have ln:=hv.cG;rw[cS] at ln;have l5:∀J,cG v J=a_ (.v (.int .i64 (l.length:Int)),J):=λJ=>aL0
 have lm:=hw.cG;rw[cS] at lm;have Hs:∀J,cG w J=a_ (.v (.int .i64 (m.length:Int)),J):=λJ=>by rw[lm J,j9]
 refine wy ?_;refine qe (n:=l.length+m.length) (λk e h=>∃(i j:Nat) (o:List Int) (bx:bg),k=(l.length-i)+(m.length-j)/\BZ l m i j o/\e=[(0,v),(1,w),(5,bx),(6,bq i),(7,bq j)]/\de h bx (o.map bq) 1 3) ⟨0,0,[],.bp,rfl,⟨aa,aa,af,List.Pairwise.nil,af,af,af⟩,rfl,tA _ _ _⟩ ?_;rintro k e h ⟨i,j,o,bx,rfl,hI,rfl,hA⟩;have Q:=hI.Q;have hj:=hI.hj;have ho:=hI.hn;have push:∀z:Int,∃cl g,ei h 1 8 3 bx (.sl [.v (.int .i64 z)] .exact)=a_ (cl,g)/\de g cl ((o++[z]).map bq) 1 3:=λz=>by
  obtain⟨cl,g,e1,fM,_⟩:=nv (x:=.v (.int .i64 z)) (bW:=8) hA (HD o) rfl ag ag ah;exact⟨cl,g,e1,aLX⟩
 have w1:cN.wrap ((i:Int)+1)=((i+1:Nat):Int):=jZ aa;have w2:cN.wrap ((j:Int)+1)=((j+1:Nat):Int):=jZ aa
 rcases er i l.length with hi2|hi2
 obtain⟨a,ha⟩:=cO hi2;have Nv:ct 1 v (.v (.int .i64 (i:Int)))=a_ (.fp [bq a] 0):=hv.cB (x:=bq a) (by simp[ha]) rfl;unfold bq at Nv;obtain⟨a1,a2,a3⟩:=aaH hl.1 ha;obtain⟨cl,g,e1,e2⟩:=push a
 rcases er j m.length with hj2|hj2
 obtain⟨b,O⟩:=cO hj2;have G8:ct 1 w (.v (.int .i64 (j:Int)))=a_ (.fp [bq b] 0):=hw.cB (x:=bq b) aM0 rfl;unfold bq at G8;obtain⟨b1,b2,b3⟩:=aaH hm.1 O;obtain⟨aaL,g2,d1,d2⟩:=push b
 rcases Int.lt_trichotomy a b with hab|hab|hab
 · have fin:BZ l m (i+1) j (o++[a]):=hI.push aa aa aa aa aa (bD a3) a1 λy hy=>Int.lt_of_lt_of_le hab (b2 y hy)
   refine wR @bq.eq_1 @l5 @Hs @Nv @G8 @e1 @d1 @w1 @w2 ?_
   repeat' ((refine ba (λq'=>?_) λq'=>?_)<;>refine pH (eI @l5 @Hs @Nv @G8) @xJ @Ao @e1 @d1 @w1 @w2 ?_)
   all_goals first
    |(exfalso;omega)
    |exact⟨(l.length-(i+1))+(m.length-j),aa,i+1,j,o++[a],cl,rfl,fin,rfl,e2⟩
 · subst hab
   have fin:BZ l m (i+1) (j+1) (o++[a]):=hI.push aa aa aa aa aa (bD a3) a1 b1;have axb:(a==a)=bh:=beq_self_eq_true a;refine wy ?_
   repeat' ((refine ba (λq'=>?_) λq'=>?_)<;>refine pH (eI @l5 @Hs @Nv @G8) @xJ @Ao @e1 @w1 @w2 @axb ?_)
   all_goals first
    |(exfalso;omega)
    |exact⟨(l.length-(i+1))+(m.length-(j+1)),aa,i+1,j+1,o++[a],cl,rfl,fin,rfl,e2⟩
 · have fin:BZ l m i (j+1) (o++[b]):=hI.push aa aa aa aa aa (bF b3) (λy hy=>Int.lt_of_lt_of_le hab (a2 y hy)) b1
   refine wy ?_
   repeat' ((refine ba (λq'=>?_) λq'=>?_)<;>refine pH (eI @l5 @Hs @Nv @G8) @xJ @Ao @e1 @d1 @w1 @w2 ?_)
   all_goals first
    |(exfalso;omega)
    |exact⟨(l.length-i)+(m.length-(j+1)),aa,i,j+1,o++[b],aaL,rfl,fin,rfl,d2⟩
 have fin:BZ l m (i+1) j (o++[a]):=hI.push aa aa aa aa aa (bD a3) a1 (af_ hj2);refine wy ?_;exact⟨(l.length-(i+1))+(m.length-j),aa,i+1,j,o++[a],cl,rfl,fin,rfl,e2⟩
 rcases er j m.length with hj2|hj2
 obtain⟨b,O⟩:=cO hj2;have G8:ct 1 w (.v (.int .i64 (j:Int)))=a_ (.fp [bq b] 0):=hw.cB (x:=bq b) aM0 rfl;unfold bq at G8;obtain⟨b1,b2,b3⟩:=aaH hm.1 O;obtain⟨aaL,g2,d1,d2⟩:=push b;have axZ:((j:Int)==(m.length:Int))=bf:=Qb aa;have fin:BZ l m i (j+1) (o++[b]):=hI.push aa aa aa aa aa (bF b3) (af_ hi2) b1;refine oO @bq.eq_1 @l5 @Hs @axZ ?_;refine wy ?_;refine wy ?_;exact⟨(l.length-i)+(m.length-(j+1)),aa,i,j+1,o++[b],aaL,rfl,fin,rfl,d2⟩;refine wy ?_;have hR:qP N o:=⟨hI.p,λx I=>(hI.hm x I).elim (hl.2 x) (hm.2 x)⟩
 rcases hA with⟨rfl,z⟩|⟨id,rfl,_⟩
 obtain⟨n,hn⟩:=(eB:b_ h _ _).done;exact⟨n,_,hn,[],bF ⟨rfl,rfl⟩,qP.nil N⟩;obtain⟨n,hn⟩:=(hD (t:=.tok id) (iE (f:=bq) (l:=o) λa _=>bH _):b_ h _ _).done;exact⟨n,_,hn,o,bD rfl,hR⟩
end
section
variable{bv ev fv o0 bx v w hO xf:bg}{M N kn dU:Nat}{G:Cells}{J bl:List br}{Z z:List bg}{em rG:Bool}
def qO(v:bg)(l:List Int):Prop:=(v=.bp/\l=[])\/∃t,v=.sl (l.map bq) t
def atY(l:List Int):∀x∈l.map bq,∀c∈x.cells,eY c:=λx I c T=>by
 obtain⟨t,_,rfl⟩:=dV.1 I;rw[dW.1 (show c∈[bq t] from T)];exact dD _
section
variable{v:bg}{l:List Int}
def qO.imp(h:qO v l):∃v',kC v v'/\cD v' (l.map bq):=by
 rcases h with⟨rfl,rfl⟩|⟨t,rfl⟩
 exact⟨.bp,nA,bF ⟨rfl,rfl⟩⟩;exact⟨.sl (l.map bq) .no,k4 (atY l),bD rfl⟩
def qO.one(h:qO v l):cu v=bh:=by rcases h with⟨rfl,_⟩|⟨t,rfl⟩<;>rfl
@[go_sem]def qO.len(h:qO v l)(J:List br):cG v J=a_ (.v (.int .i64 (l.length:Int)),J):=by
 rcases h with⟨rfl,rfl⟩|⟨t,rfl⟩
 rfl;rw[pq,cS,j9]
@[go_sem]def qO.cB(h:qO v l){i:Nat}{x:Int}(I:l[i]?=a_ x):ct 1 v (.v (.int .i64 (i:Int)))=a_ (.fp [.v (.int .i64 x)] 0):=by
 rcases h with⟨rfl,rfl⟩|⟨t,rfl⟩
 simp at I;exact lN (x:=bq x) aA rfl
def qO.fz(h:qO v l)(J:List br):∃v',b_ J v v'/\cD v' (l.map bq):=by
 rcases h with⟨rfl,rfl⟩|⟨t,rfl⟩
 exact⟨.bp,eB,bF ⟨rfl,rfl⟩⟩;exact⟨_,hD (iE (f:=bq) (l:=l) λa _=>bH _),bD rfl⟩
def zI(h:cD v (l.map bq)):qO v l:=by
 rcases h with rfl|⟨rfl,q⟩
 exact bF ⟨_,rfl⟩;exact bD ⟨rfl,UJ.1 q⟩
end
def rO(h:cu w=bh):w.cells=[w]:=by cases w<;>first|rfl|cases h
def iJ(N:Nat)(v:bg):Prop:=∃l,qO v l/\qP N l
def iJ.nil(N:Nat):iJ N .bp:=⟨[],bD ⟨rfl,rfl⟩,qP.nil N⟩
def iJ.one(h:iJ N v):cu v=bh:=by obtain⟨l,Y,_⟩:=h;exact Y.one
def iJ.mono(h:iJ N v)(hm:N<=M):iJ M v:=by obtain⟨l,Y,V⟩:=h;exact⟨l,Y,V.mono hm⟩
def Kj{K:bg->List br->Prop}(hv:iJ N v)(hw:iJ N w)(hN:N<=256)(S:∀r,iJ N r->K r J):cw G bB 252 [v,w] J K:=by
 obtain⟨l,Y,V⟩:=hv;obtain⟨m,k1,k2⟩:=hw;obtain⟨v',a1,a2⟩:=Y.imp;obtain⟨w',b1,b2⟩:=k1.imp;exact eo (aEO a2 b2 V k2 aa) λr ⟨o,q1,bt⟩=>S r ⟨o,(zI q1),bt⟩
def nk(N M:Nat)(bv:bg)(J:List br):Prop:=∃Z:List bg,Z.length=M/\(∀c∈Z,iJ N c)/\((bv=.bp/\Z=[])\/∃k,bv=.rs k M 1 0 M/\J[k]?=a_ (.cells Z bh))
@[go_sem]def Om{p:Nat}{r:bg}(h:p<Z.length):d_ Z p [r]=Z.set p r:=by
 rw[arD,if_pos h];unfold d_;simp
section
variable{N M p:Nat}{bv:bg}{J bl:List br}
def nk.ext(h:nk N M bv J)(S:∀(j:Nat) Z,J[j]?=a_ (.cells Z bh)->bl[j]?=a_ (.cells Z bh)):nk N M bv bl:=by
 obtain⟨Z,Y,V,h3⟩:=h;refine⟨Z,Y,V,h3.elim bD ?_⟩;rintro⟨k,e,q⟩;exact bF ⟨k,e,S k Z q⟩
def nk.mono{N':Nat}(h:nk N M bv J)(hN:N<=N'):nk N' M bv J:=by
 obtain⟨Z,Y,V,h3⟩:=h;exact⟨Z,Y,λc T=>(V c T).mono hN,h3⟩
def nk.one(h:nk N M bv J):cu bv=bh:=by
 obtain⟨Z,_,_,⟨rfl,_⟩|⟨k,rfl,_⟩⟩:=h<;>rfl
structure Ly(J bl:List br):Prop where
 len:bl.length=J.length
 keep:∀(j:Nat) b,J[j]?=a_ b->(∀Z,b≠.cells Z bh)->bl[j]?=a_ b
def nk.at(h:nk N M bv J)(aiI:p<M):∃k c,ct 1 bv (.v (.int .i64 (p:Int)))=a_ (.rp k M p)/\bz J bf 1 (.rp k M p)=a_ c/\iJ N c/\∀r,iJ N r->∃bl,bL J 1 (.rp k M p) r=a_ bl/\nk N M bv bl/\Ly J bl:=by
 obtain⟨Z,Y,V,⟨rfl,rfl⟩|⟨k,rfl,S⟩⟩:=h;simp at Y;omega;subst Y;have cX:p<Z.length:=aiI;obtain⟨c,T⟩:=cO cX;have e7:=gl S;refine⟨k,c,?_,?_,V c (cv T),λr D=>⟨J.set k (.cells (Z.set p r) bh),?_,⟨Z.set p r,by rw[wY],λx I=>?_,bF ⟨k,rfl,bT e7⟩⟩,⟨by rw[wY],λj b hj O=>?_⟩⟩⟩;have:=Tv (k:=k) (m:=Z.length) (n:=1) (len:=Z.length) (j:=p) aiI;rw[Nat.mul_one] at this;exact this;simp only[bz,S,if_true,fh];rw[if_neg af];exact T;have eW:=rO D.one;simp only[bL,S,if_true,fD,eW];rw[if_pos ⟨rfl,aa,by simp[D.one]⟩,Om cX]
 rcases UK I with q|rfl
 exact V x q;exact D;rw[bE aMP];exact hj
end
section
variable{h:List br}{k:Nat}{a b c d e w:bg}
@[go_sem]def jP(O:h[k]?=a_ (.cells [a,b,c,d,e] bf)):bz h bf 1 (.mp k 0)=a_ a/\bz h bf 1 (.mp k 1)=a_ b/\bz h bf 1 (.mp k 2)=a_ c/\bz h bf 1 (.mp k 3)=a_ d/\bz h bf 1 (.mp k 4)=a_ e/\bz h bh 5 (.mp k 0)=a_ (.agg [a,b,c,d,e]):=by
 simp only[bz,O];exact⟨rfl,rfl,rfl,rfl,rfl,rfl⟩
@[go_sem]def rj(O:h[k]?=a_ (.cells [a,b,c,d,e] bf))(hw:cu w=bh):bL h 1 (.mp k 0) w=a_ (h.set k (.cells [w,b,c,d,e] bf))/\bL h 1 (.mp k 1) w=a_ (h.set k (.cells [a,w,c,d,e] bf))/\bL h 1 (.mp k 2) w=a_ (h.set k (.cells [a,b,w,d,e] bf))/\bL h 1 (.mp k 3) w=a_ (h.set k (.cells [a,b,c,w,e] bf))/\bL h 1 (.mp k 4) w=a_ (h.set k (.cells [a,b,c,d,w] bf)):=by
 have eW:=rO hw;refine⟨?_,?_,?_,?_,?_⟩<;>simp only[bL,O,fD,eW]<;>simp[hw,d_]
@[go_sem]def NX{a' b' c' d' e':bg}(O:h[k]?=a_ (.cells [a,b,c,d,e] bf))(hw:[a',b',c',d',e'].all cu=bh):bL h 5 (.mp k 0) (.agg [a',b',c',d',e'])=a_ (h.set k (.cells [a',b',c',d',e'] bf)):=by
 have eW:(dG [a',b',c',d',e']).cells=[a',b',c',d',e']:=rfl;simp only[bL,O,fD,eW];rw[if_pos ⟨rfl,af,hw⟩];simp[d_]
end
structure jy(dU:Nat)(J bl:List br):Prop where
 len:J.length<=bl.length
 keep:∀(j:Nat) b,J[j]?=a_ b->j≠dU->(∀Z,b≠.cells Z bh)->bl[j]?=a_ b
def jy.refl(dU:Nat)(J:List br):jy dU J J:=⟨cc _,λ_ _ h _ _=>h⟩
def jy.app{x:List br}:jy dU J (J++x):=⟨af,λ_ _ h _ _=>bS h⟩
def jy.trans{a b c:List br}(h:jy dU a b)(k:jy dU b c):jy dU a c:=⟨iz h.len k.len,λj x q Y V=>k.keep j x (h.keep j x q Y V) Y V⟩
def Ly.aH_(h:Ly J bl):jy dU J bl:=⟨by rw[h.len];exact cc _,λj b q _ V=>h.keep j b q V⟩
def jy.set{b:br}:jy dU J (J.set dU b):=⟨af,λj x q Y _=>by rw[bE (e3 Y)];exact q⟩
structure DB(N M dU:Nat)(o0 bv:bg)(J:List br)(xc:List bg)(fv ev:bg)(em:Bool)(h:List br):Prop where
 o:h[dU]?=a_ (.cells [o0,bv,fv,ev,.v (.bool em)] bf)
 x:h[J.length]?=a_ (.cells xc bf)
 b:nk N M bv h
 k:jy dU J h
def DB.put{h:List br}{xc:List bg}(s:DB N M dU o0 bv J xc fv ev em h)(hl:dU<J.length)(lT nB:bg)(xD:Bool):DB N M dU o0 bv J xc lT nB xD (h.set dU (.cells [o0,bv,lT,nB,.v (.bool xD)] bf)):=by
 have S:=gl s.o;refine⟨bT S,by rw[bE aa];exact s.x,s.b.ext λj Z q=>?_,s.k.trans jy.set⟩;rw[bE (by rintro rfl;rw[s.o] at q;simp at q)];exact q
def aIa(O:J[dU]?=a_ (.cells [o0,bv,fv,ev,.v (.bool em)] bf))(hf:iJ N fv)(he:iJ N ev)(hB:nk N M bv J)(q9:iJ N xf)(pn:iJ N hO)(aKs:N<=M)(hN:N<=256):
  cw G bB 292 [.mp dU 0,.agg [.bp,.bp,xf,hO,.v (.bool rG)]] J λr bl=>r=.bQ []/\∃lT nB xD,bl[dU]?=a_ (.cells [o0,bv,lT,nB,.v (.bool xD)] bf)/\iJ N lT/\iJ N nB/\nk N M bv bl/\jy dU J bl:=by
 have e7:=gl O;refine aBx.go ?_;refine eN (λe h=>e=[(0,.mp dU 0),(3,.mp J.length 0)]/\DB N M dU o0 bv J [.bp,.bp,xf,hO,.v (.bool rG)] fv ev em h) ?_ ?_;refine wx ?_;exact⟨trivial,bS O,af,hB.ext λj Z q=>bS q,jy.app⟩;rintro e h0 ⟨rfl,nG⟩;obtain⟨el,Eh,A6⟩:=he;have uc:=A6.len;refine eN (λe h=>e=[(0,.mp dU 0),(3,.mp J.length 0)]/\DB N M dU o0 bv J [.bp,.bp,xf,hO,.v (.bool rG)] fv ev em h) ?_ ?_;refine wy ?_;refine c8 (λi e h=>e=[(0,.mp dU 0),(3,.mp J.length 0),(4,bq i)]/\DB N M dU o0 bv J [.bp,.bp,xf,hO,.v (.bool rG)] fv ev em h) el.length ⟨rfl,nG⟩ ?_ ?_;rintro i e h Q ⟨rfl,s⟩;obtain⟨x,I⟩:=cO Q;obtain⟨x0,x1⟩:=A6.2 x (cv I);obtain⟨p,rfl⟩:=pJ x0;obtain⟨k,c,a1,a2,a3,a4⟩:=s.b.at (p:=p) aa;obtain⟨l0,l1,l2,l3,l4,_⟩:=jP s.o;obtain⟨m0,m1,m2,m3,m4,_⟩:=jP s.x;have azn:=Eh.cB I;refine tv @Eh.len (Kj a3 q9 hN λr D=>?_);obtain⟨h',b1,b2,b3⟩:=a4 r D;refine pH (eI @bq.eq_1 @l1 @l3 @Eh.len) @azn @a1 @a2 @m2 @b1 @ru ?_;exact⟨b3.keep _ _ s.o af,b3.keep _ _ s.x af,b2,s.k.trans b3.aH_⟩;rintro e h ⟨rfl,s⟩;obtain⟨l0,l1,l2,l3,l4,_⟩:=jP s.o;refine gf @bq.eq_1 @l3 ?_;exact⟨trivial,s⟩;rintro e Y ⟨rfl,s1⟩;refine eN (λe h=>e=[(0,.mp dU 0),(3,.mp J.length 0)]/\∃lT,iJ N lT/\DB N M dU o0 bv J [.bp,.bp,xf,hO,.v (.bool rG)] lT ev em h) ?_ ?_;obtain⟨l0,l1,l2,l3,l4,_⟩:=jP s1.o;obtain⟨m0,m1,m2,m3,m4,_⟩:=jP s1.x;cases em with
 |false=>
  refine wx ?_;exact⟨trivial,fv,hf,s1⟩
 |true=>
  refine wy (Kj hf q9 hN λr D=>?_);obtain⟨t0,t1,t2,t3,t4⟩:=rj s1.o D.one;refine wx ?_;exact⟨trivial,r,D,s1.put e7 r ev bh⟩
 rintro e V ⟨rfl,lT,e5,s2⟩;have he:iJ N ev:=⟨el,Eh,A6⟩;refine eN (λe h=>e=[(0,.mp dU 0),(3,.mp J.length 0)]/\∃nB,iJ N nB/\DB N M dU o0 bv J [.bp,.bp,xf,hO,.v (.bool rG)] lT nB em h) ?_ ?_;obtain⟨l0,l1,l2,l3,l4,_⟩:=jP s2.o;obtain⟨m0,m1,m2,m3,m4,_⟩:=jP s2.x;cases rG with
 |false=>
  obtain⟨t0,t1,t2,t3,t4⟩:=rj s2.o pn.one;refine wx ?_;exact⟨trivial,hO,pn,s2.put e7 lT hO em⟩
 |true=>
  refine wy (Kj he pn hN λr D=>?_);obtain⟨t0,t1,t2,t3,t4⟩:=rj s2.o D.one;refine wx ?_;exact⟨trivial,r,D,s2.put e7 lT r em⟩
 rintro e h3 ⟨rfl,nB,v8,eA⟩;obtain⟨l0,l1,l2,l3,l4,_⟩:=jP eA.o;obtain⟨m0,m1,m2,m3,m4,_⟩:=jP eA.x;have fin:∀b:Bool,bL h3 1 (.mp dU 4) (.v (.bool b))=a_ (h3.set dU (.cells [o0,bv,lT,nB,.v (.bool b)] bf)):=λb=>(rj eA.o (w:=.v (.bool b)) rfl).2.2.2.2;have Mj:∀b:Bool,∃ahe ags auZ,(h3.set dU (.cells [o0,bv,lT,nB,.v (.bool b)] bf))[dU]?=a_ (.cells [o0,bv,ahe,ags,.v (.bool auZ)] bf)/\iJ N ahe/\iJ N ags/\nk N M bv (h3.set dU (.cells [o0,bv,lT,nB,.v (.bool b)] bf))/\jy dU J (h3.set dU (.cells [o0,bv,lT,nB,.v (.bool b)] bf)):=λb=>by
  have q:=eA.put e7 lT nB b;exact⟨lT,nB,b,q.o,e5,v8,q.b,q.k⟩
 cases em with
 |false=>
  refine gf @l4 @fin ?_;exact⟨trivial,Mj _⟩
 |true=>
  refine fu @l4 @m4 @fin ?_;exact⟨trivial,Mj _⟩
structure uJ(kn:Nat)(z:List bg)(N:Nat)(bx bv:bg)(J:List br):Prop where
 b:J[kn]?=a_ (.cells (bx::bv::z) bf)
 on:∃xs,de J bx xs 1 200/\xs.length=N/\∀x∈xs,∃l,qO x l/\l.length<=256/\∀y∈l,(0:Int)<=y/\y<256
 cz:nk N N bv J
def uJ.pG(h:uJ kn z N bx bv J)(S:jy dU J bl)(ho:J[dU]?=a_ (.cells Z bf))(bP:dU≠kn)(hB:nk N N bv bl):uJ kn z N bx bv bl:=by
 refine⟨S.keep _ _ h.b (e3 bP) af,?_,hB⟩;obtain⟨xs,Y,V,h3⟩:=h.on;refine⟨xs,Y.elim bD ?_,V,h3⟩;rintro⟨id,q1,bt⟩;exact bF ⟨id,q1,S.keep _ _ bt (by rintro rfl;rw[ho] at bt;cases bt) af⟩
def aGI(hX:uJ kn z N bx bv J)(O:J[dU]?=a_ (.cells [.bp,.bp,fv,ev,.v (.bool em)] bf))(bP:dU≠kn)(hf:iJ N fv)(he:iJ N ev)(q9:iJ N xf)(pn:iJ N hO)(hN:N<=256):
  cw G bB 253 [.mp kn 0,.mp dU 0,.agg [.bp,.bp,xf,hO,.v (.bool rG)]] J λr bl=>r=.bQ []/\uJ kn z N bx bv bl/\jy dU J bl/\∃lT nB xD,bl[dU]?=a_ (.cells [.bp,.bp,lT,nB,.v (.bool xD)] bf)/\iJ N lT/\iJ N nB:=by
 have e7:=gl O;refine aBp.go ?_;have jF:(dG [.bp,.bp,xf,hO,.v (.bool rG)]).cells=[.bp,.bp,xf,hO,.v (.bool rG)]:=rfl;have g1:(J++[bw [.bp,.bp,xf,hO,.v (.bool rG)] bf])[dU]?=a_ (.cells [.bp,.bp,fv,ev,.v (.bool em)] bf):=bS O;have g2:(J++[bw [.bp,.bp,xf,hO,.v (.bool rG)] bf])[kn]?=a_ (.cells (bx::bv::z) bf):=bS hX.b;have g3:(J++[bw [.bp,.bp,xf,hO,.v (.bool rG)] bf])[J.length]?=a_ (.cells [.bp,.bp,xf,hO,.v (.bool rG)] bf):=af
 have k1:jy dU J (J++[bw [.bp,.bp,xf,hO,.v (.bool rG)] bf]):=jy.app;have Pu:nk N N bv (J++[bw [.bp,.bp,xf,hO,.v (.bool rG)] bf]):=hX.cz.ext λj Z q=>bS q;refine rF ?_;generalize J++[bw [.bp,.bp,xf,hO,.v (.bool rG)] bf]=g at g1 g2 g3 k1 Pu⊢;obtain⟨t0,t1,t2,t3,t4⟩:=rj g1 hX.cz.one;have kS:=gl g1;have u1:(g.set dU (.cells [.bp,bv,fv,ev,.v (.bool em)] bf))[dU]?=a_ (.cells [.bp,bv,fv,ev,.v (.bool em)] bf):=bT kS;have u2:(g.set dU (.cells [.bp,bv,fv,ev,.v (.bool em)] bf))[J.length]?=a_ (.cells [.bp,.bp,xf,hO,.v (.bool rG)] bf):=by rw[bE aa];exact g3
 have k2:jy dU J (g.set dU (.cells [.bp,bv,fv,ev,.v (.bool em)] bf)):=k1.trans jy.set;have pO:nk N N bv (g.set dU (.cells [.bp,bv,fv,ev,.v (.bool em)] bf)):=Pu.ext λj Z q=>by
  rw[bE (by rintro rfl;rw[g1] at q;simp at q)];exact q
 refine wx (cm (aIa u1 hf he pO q9 pn (cc _) hN) ?_);rintro _ g4 ⟨rfl,lT,nB,xD,v1,v2,v3,v4,v5⟩;have axN:=gl v1;have gp:jy dU J (g4.set dU (.cells [.bp,.bp,lT,nB,.v (.bool xD)] bf)):=(k2.trans v5).trans jy.set;have Lf:nk N N bv (g4.set dU (.cells [.bp,.bp,lT,nB,.v (.bool xD)] bf)):=v4.ext λj Z q=>by
  rw[bE (by rintro rfl;rw[v1] at q;simp at q)];exact q
 refine eO ?_;exact⟨trivial,hX.pG gp O bP Lf,gp,lT,nB,xD,bT axN,v2,v3⟩
end
open Go.Proofs.YtplgiomcbchjiaaGreatDoor.iJ renaming nil->Fz
section
variable{M N k kn dU m:Nat}{Z z:List bg}{g h h' J x:List br}
def kO(N:Nat)(Z:List bg):Prop:=∃f e b,Z=[.bp,.bp,f,e,.v (.bool b)]/\iJ N f/\iJ N e
def z5:List bg:=[.bp,.bp,.bp,.bp,.v (.bool bf)]
def kO.mono(h:kO N Z)(hm:N<=M):kO M Z:=by
 obtain⟨f,e,b,rfl,Y,V⟩:=h;exact⟨f,e,b,rfl,Y.mono hm,V.mono hm⟩
def kO.z5(N:Nat):kO N z5:=⟨_,_,_,rfl,Fz N,Fz N⟩
def kO.one(h:kO N Z):Z.length=5/\Z.all cu=bh:=by
 obtain⟨f,e,b,rfl,Y,V⟩:=h;refine⟨rfl,?_⟩;simp only[pK,tC,Y.one,V.one];rfl
@[go_sem]def Of(h:kO N Z){cs0:List bg}(S:g[k]?=a_ (.cells cs0 bf))(h0:cs0.length=5):bL g 5 (.mp k 0) (.agg Z)=a_ (g.set k (.cells Z bf)):=by
 obtain⟨Y,V⟩:=h.one;simp only[bL,S,fD];have eW:(dG Z).cells=Z:=rfl;rw[eW,if_pos ⟨Y,aa,V⟩];unfold d_;rw[oR,gM,tD aa,gV]
@[go_sem]def CQ(h:kO N Z)(g:List br):bL (g++[.cells z5 bf]) 5 (.mp g.length 0) (.agg Z)=a_ (g++[.cells Z bf]):=by
 rw[Of h (cs0:=z5) af rfl];simp
@[go_sem]def zB(S:g[k]?=a_ (.cells Z bf))(h0:Z.length=5):bz g bh 5 (.mp k 0)=a_ (.agg Z):=by
 simp only[bz,S];unfold fh;rw[if_pos rfl,if_pos aa,pL,oe aa]
structure pP(kn:Nat)(J bl:List br):Prop where
 len:J.length<=bl.length
 AA:∀(j:Nat) Z,j≠kn->J[j]?=a_ (.cells Z bf)->bl[j]?=a_ (.cells Z bf)
 tok:∀(j:Nat) c,J[j]?=a_ (.tok c 5 214)->bl[j]?=a_ (.tok c 5 214)
def pP.refl(kn:Nat)(J:List br):pP kn J J:=⟨cc _,λ_ _ _ h=>h,λ_ _ h=>h⟩
def pP.trans{a b c:List br}(h:pP kn a b)(k:pP kn b c):pP kn a c:=⟨iz h.len k.len,λj x q bt=>k.AA j x q (h.AA j x q bt),λj x q=>k.tok j x (h.tok j x q)⟩
def pP.app:pP kn J (J++x):=⟨af,λ_ _ _ h=>bS h,λ_ _ h=>bS h⟩
def pP.pG(s:pP kn J h)(t:jy dU h h')(hl:J.length<=dU):pP kn J h':=⟨iz s.len t.len,λj Z q bt=>by
 have:=gl bt;exact t.keep j _ (s.AA j Z q bt) aa af,λj c bt=>by
 have:=gl bt;exact t.keep j _ (s.tok j c bt) aa af⟩
def kN(N:Nat)(h:List br)(m:Nat):Prop:=∃Z,h[m]?=a_ (.cells Z bf)/\kO N Z
def kN.mono(s:kN N h m)(hm:N<=M):kN M h m:=by
 obtain⟨Z,Y,V⟩:=s;exact⟨Z,Y,V.mono hm⟩
def kN.pG(s:kN N h m)(t:jy dU h h')(bP:m≠dU):kN N h' m:=by
 obtain⟨Z,Y,V⟩:=s;exact⟨Z,t.keep _ _ Y bP af,V⟩
def kN.lay(s:kN N h m)(t:pP kn h h')(bP:m≠kn):kN N h' m:=by
 obtain⟨Z,Y,V⟩:=s;exact⟨Z,t.AA _ _ bP Y,V⟩
def kN.app(s:kN N h m):kN N (h++x) m:=by
 obtain⟨Z,Y,V⟩:=s;exact⟨Z,bS Y,V⟩
def kN.new(s:kO N Z):kN N (h++[.cells Z bf]) h.length:=⟨Z,af,s⟩
def sE(kn:Nat)(z:List bg)(N:Nat)(J:List br):Prop:=∃bx bv,uJ kn z N bx bv J
def sE.app(h:sE kn z N J):sE kn z N (J++x):=by
 obtain⟨bx,bv,h⟩:=h;refine⟨bx,bv,bS h.b,?_,h.cz.ext λj Z q=>bS q⟩;obtain⟨xs,Y,V,h3⟩:=h.on;refine⟨xs,Y.elim bD ?_,V,h3⟩;rintro⟨id,q1,bt⟩;exact bF ⟨id,q1,bS bt⟩
def sE.pG{bl:List br}(h:sE kn z N J)(S:jy dU J bl)(ho:J[dU]?=a_ (.cells Z bf))(bP:dU≠kn)(D:∀(j:Nat) Z,J[j]?=a_ (.cells Z bh)->bl[j]?=a_ (.cells Z bh)):sE kn z N bl:=by
 obtain⟨bx,bv,h⟩:=h;exact⟨bx,bv,h.pG S ho bP (h.cz.ext D)⟩
def sE.lt(h:sE kn z N J):kn<J.length:=by
 obtain⟨bx,bv,h⟩:=h;exact gl h.b
structure gj(kn:Nat)(z:List bg)(J:List br)(pc:List bg)(w:Nat)(h:List br):Prop where
 fI:sE kn z w h
 k:pP kn J h
 r:h[J.length]?=a_ (.cells z5 bf)
 p:h[J.length+1]?=a_ (.cells pc bf)
 o:kN w h (J.length+2)
 lt:kn<J.length
section
variable{kn:Nat}{z:List bg}{J h h' x:List br}{pc:List bg}{w w' dU m:Nat}{Z:List bg}
def gj.DO(s:gj kn z J pc w h):J.length+3<=h.length:=by
 obtain⟨Z,q,_⟩:=s.o;have:=gl q;omega
def gj.app(s:gj kn z J pc w h):gj kn z J pc w (h++x):=⟨s.fI.app,s.k.trans pP.app,bS s.r,bS s.p,s.o.app,s.lt⟩
def gj.lay(s:gj kn z J pc w h)(t:pP kn h h')(hn:sE kn z w' h')(hw:w<=w'):gj kn z J pc w' h':=
 have hl:=s.lt
 ⟨hn,s.k.trans t,t.AA _ _ aa s.r,t.AA _ _ aa s.p,(s.o.lay t aa).mono hw,hl⟩
def gj.pG(s:gj kn z J pc w h)(t:jy dU h h')(hl:J.length+2<=dU)(hn:sE kn z w h')(ho:kN w h' (J.length+2)):gj kn z J pc w h':=
 ⟨hn,s.k.pG t aa,t.keep _ _ s.r aa af,t.keep _ _ s.p aa af,ho,s.lt⟩
def gj.put(s:gj kn z J pc w h)(hm:kN w h m)(hl:J.length+2<=m)(T:kO w Z):gj kn z J pc w (h.set m (.cells Z bf))/\kN w (h.set m (.cells Z bf)) m:=by
 obtain⟨c0,Y,V⟩:=hm;have n3:=gl Y;have cX:=s.lt;have t:jy m h (h.set m (.cells Z bf)):=jy.set;have qB:kN w (h.set m (.cells Z bf)) m:=⟨Z,bT n3,T⟩;refine⟨s.pG t hl (s.fI.pG t Y aa λj c q=>aMs) ?_,qB⟩;by_cases e:J.length+2=m;rw[e];exact qB;exact s.o.pG t e
def gj.call(s:gj kn z J pc w h){G:Cells}(hm:kN w h m)(hl:J.length+2<=m)(T:kO w Z)(hw:w<=256){K:bg->List br->Prop}(hK:∀h',gj kn z J pc w h'->jy m h h'->kN w h' m->K (.bQ []) h'):cw G bB 253 [.mp kn 0,.mp m 0,.agg Z] h K:=by
 obtain⟨xf,hO,mb,rfl,q9,pn⟩:=T;obtain⟨_,Y,fv,ev,em,rfl,hf,he⟩:=hm;obtain⟨bx,bv,hX⟩:=s.fI;have cX:=s.lt;refine cm (aGI hX Y aa hf he q9 pn hw) ?_;rintro _ h' ⟨rfl,Xv,t,lT,nB,xD,k1,k2,gp⟩;have qB:kN w h' m:=⟨_,k1,lT,nB,xD,rfl,k2,gp⟩;refine hK h' (s.pG t hl ⟨bx,bv,Xv⟩ ?_) t qB;by_cases e:J.length+2=m;rw[e];exact qB;exact s.o.pG t e
def nO(B w:Nat)(h:List br)(rv:bg)(rs:List (List bg)):Prop:=((rv=.bp/\rs=[])\/∃id,rv=.sl (rs.map dG) (.tok id)/\B<=id/\h[id]?=a_ (.tok rs.length 5 214))/\∀c∈rs,kO w c
variable{B:Nat}{rv:bg}{rs:List (List bg)}
def nO.keep(s:nO B w h rv rs)(hw:w<=w')(S:∀(j:Nat) c,h[j]?=a_ (.tok c 5 214)->h'[j]?=a_ (.tok c 5 214)):nO B w' h' rv rs:=by
 refine⟨s.1.elim bD ?_,λc T=>(s.2 c T).mono hw⟩;rintro⟨id,q1,bt,bV⟩;exact bF ⟨id,q1,bt,S _ _ bV⟩
def nO.pG(s:nO B w h rv rs)(t:jy dU h h'){c0:List bg}(ho:h[dU]?=a_ (.cells c0 bf)):nO B w h' rv rs:=s.keep (cc _) λj c q=>t.keep _ _ q (by rintro rfl;rw[ho] at q;cases q) af
@[go_sem]def Ob:∀{rs:List (List bg)},(∀c∈rs,kO w c)->cY 5 (rs.map dG)=bh
 |[],_=>rfl
 |c::r,h=>by
  have ih:=Ob (rs:=r) λx I=>h x aA;obtain⟨Y,V⟩:=(h c af).one;simp only[cY,fc,pK,jD,Y,V,beq_self_eq_true,Bool.and_self,O_] at ih⊢;exact ih
def nO.cB(s:nO B w h rv rs){i:Nat}{c:List bg}(T:rs[i]?=a_ c):ct 5 rv (.v (.int .i64 (i:Int)))=a_ (.fp c 0)/\(∀g,bz g bh 5 (.fp c 0)=a_ (.agg c))/\kO w c:=by
 have J:=s.2 c (cv T);obtain⟨Y,V⟩:=J.one;refine⟨?_,λg=>?_,J⟩
 rcases s.1 with⟨rfl,rfl⟩|⟨id,rfl,_⟩
 simp at T;exact lN (x:=.agg c) (by simp[T]) Y;simp only[bz];unfold fh;rw[if_pos rfl,if_pos aa,pL,oe aa]
def nO.push(s:nO B w h rv rs)(hB:B<=h.length)(hn:rs.length<=1000)(T:kO w Z):∃C2 h',ei h 5 104 214 rv (.sl [.agg Z] .exact)=a_ (C2,h')/\nO B w h' C2 (rs++[Z])/\h.length<=h'.length/\(∀(j:Nat) b,h[j]?=a_ b->(∀c,b≠.tok c 5 214)->h'[j]?=a_ b)/\∀(j:Nat) b,j<B->h[j]?=a_ b->h'[j]?=a_ b:=by
 have I:=Ob s.2;have hy:cY 5 [dG Z]=bh:=Ob (rs:=[Z]) (w:=w) (by simpa using T);have hfit:(rs.length+1)*104<=140737488355328:=aa
 have JB:∀c∈rs++[Z],kO w c:=λc q=>(fA.1 q).elim (s.2 c) λq=>by rw[dW.1 q];exact T
 rcases s.1 with⟨rfl,rfl⟩|⟨id,rfl,hid,S⟩
 refine⟨.sl ([]++[.agg Z]) (.tok h.length),h++[.tok 1 5 214],?_,⟨bF ⟨h.length,rfl,hB,af⟩,JB⟩,af,λj b q _=>bS q,λj b _ q=>bS q⟩;simp only[iG,gi] at hfit;simp[ei,gR,iA,iq,hy];have hl:id<h.length:=gl S;refine⟨.sl (rs.map dG++[.agg Z]) (.tok id),h.set id (.tok (rs.length+1) 5 214),?_,⟨bF ⟨id,af,hid,aMh⟩,JB⟩,af,λj b q bP=>?_,λj b hj q=>by rw[bE aa];exact q⟩;simp[ei,gR,iA,iq,hy,hfit,I,S];rw[bE (λe=>aNm)];exact q
def gj.rest(s:gj kn z J pc w h)(hl:h.length<=h'.length)(k1:∀(j:Nat) b,h[j]?=a_ b->(∀c,b≠.tok c 5 214)->h'[j]?=a_ b)(k2:∀(j:Nat) b,j<J.length->h[j]?=a_ b->h'[j]?=a_ b):gj kn z J pc w h':=by
 refine⟨?_,⟨iz s.k.len hl,λj Z q bt=>k1 _ _ (s.k.AA j Z q bt) af,λj c bt=>k2 _ _ (gl bt) (s.k.tok j c bt)⟩,k1 _ _ s.r af,k1 _ _ s.p af,?_,s.lt⟩;obtain⟨bx,bv,hX⟩:=s.fI;refine⟨bx,bv,k1 _ _ hX.b af,?_,hX.cz.ext λj Z q=>k1 _ _ q af⟩;obtain⟨xs,Y,V,h3⟩:=hX.on;refine⟨xs,Y.elim bD ?_,V,h3⟩;rintro⟨id,q1,bt⟩;exact bF ⟨id,q1,k1 _ _ bt af⟩;obtain⟨Z,Y,V⟩:=s.o;exact⟨Z,k1 _ _ Y af,V⟩
end
def adm(kn:Nat)(z:List bg)(J:List br)(M:Nat)(r:bg)(bl:List br):Prop:=∃Z,r=.agg Z/\kO M Z/\sE kn z M bl/\pP kn J bl
def IC(kn:Nat)(z:List bg)(J:List br)(M:Nat)(h:List br):Prop:=∃Z,h[J.length]?=a_ (.cells Z bf)/\kO M Z/\sE kn z M h/\pP kn J h
def Ls(G:Cells)(kn:Nat)(z:List bg)(v lv:bg)(ps:List cT)(i:Int):Prop:=∀N J,sE kn z N J->N+cnt ps i<=256->
 cw G bB 191 [.mp kn 0,v,.v (.int .i64 i),lv] J (adm kn z J (N+cnt ps i))
def gj.fin{pc:List bg}{w:Nat}(s:gj kn z J pc w h)(T:kO w Z):bL h 5 (.mp J.length 0) (.agg Z)=a_ (h.set J.length (.cells Z bf))/\IC kn z J w (h.set J.length (.cells Z bf)):=by
 have hl:=gl s.r;have t:jy J.length h (h.set J.length (.cells Z bf)):=jy.set;have cX:=s.lt;refine⟨Of T s.r rfl,Z,bT hl,T,s.fI.pG t s.r aa λj c q=>?_,s.k.pG t (cc _)⟩;rw[bE (by rintro rfl;rw[s.r] at q;simp at q)];exact q
end
section
variable{N kn:Nat}{bv bx r:bg}{h:List br}{z:List bg}{p:cT}
def V3:eS:=ajC.e.c.tl.tl.tl
def V5:eS:=V3.tl
def V6:eS:=V5.tl
def ae3:eS:=V6.tl.tl
@[go_sem]def IQ{w:bg}(h:cu w=bh):e4 1 [w]=a_ (.sl [w] .exact):=by
 have e:=rO h;unfold e4;rw[if_pos ⟨by simp[cY,e,h],af⟩]
@[go_sem]def Bw{l:List bg}(h:∀x∈l,cu x=bh):cY 1 l=bh:=by
 rw[cY,eJ];intro x I;have:=h x I;simp[rO this,this]
def nk.push(s:nk N N bv h)(hN:N<=1000)(D:iJ (N+1) r):∃dc h',ql h 1 24 200 bv (.sl [r] .exact)=a_ (dc,h')/\nk (N+1) (N+1) dc h'/\h.length<=h'.length/\∀(j:Nat) b,h[j]?=a_ b->(∀Z,b≠.cells Z bh)->h'[j]?=a_ b:=by
 have T:=rO D.one;have ok:cY 1 [r]=bh:=Bw λx I=>by rw[dW.1 I];exact D.one
 obtain⟨Z,Y,V,⟨rfl,rfl⟩|⟨k,rfl,S⟩⟩:=s;have aw3:N=0:=by simpa using Y.symm
 subst aw3;have hf:ez [r]=[r]:=by simp[ez,T]
 refine⟨.rs h.length 1 1 0 1,h++[.cells [r] bh],?_,⟨[r],rfl,by simpa using D,bF ⟨h.length,rfl,af⟩⟩,af,λj b q _=>bS q⟩;have h3:¬([r]=([]:List bg)):=af
 simp[ql,iq,ok,hf];have e7:=gl S;have hf:ez [r]=[r]:=by simp[ez,T]
 have b7:l8 Z (N*1) (ez [r])=Z++[r]:=by
  unfold l8;rw[hf,oe aa,tD aa,gV]
 refine⟨.rs k (N+1) 1 0 (N+1),h.set k (.cells (Z++[r]) bh),?_,⟨Z++[r],aMY,λx I=>?_,bF ⟨k,rfl,bT e7⟩⟩,af,λj b hj O=>by
  rw[bE aMP];exact hj⟩
 have h3:¬([r]=([]:List bg)):=af
 show gR h 1 24 200 (.rs k N 1 0 N) (.sl [r] .exact)=_;simp only[gR,iq,iA,ok,h3,if_false,and_self,w9,if_true,true_and,S,eZ,iG,b7];rw[if_pos aa];simp[Y]
 rcases fA.1 I with q|q
 exact(V x q).mono aa;rw[dW.1 q];exact D
def uJ.place(s:uJ kn z N bx bv h)(hN:N<=255)(D:∃l,qO r l/\l.length<=256/\∀y∈l,(0:Int)<=y/\y<256):
  ∃cZ dc g1 g2 g3 g4,ei h 1 24 200 bx (.sl [r] .exact)=a_ (cZ,g1)/\bL g1 1 (.mp kn 0) cZ=a_ g2/\bz g2 bf 1 (.mp kn 1)=a_ bv/\ql g2 1 24 200 bv (.sl [.bp] .exact)=a_ (dc,g3)/\bL g3 1 (.mp kn 1) dc=a_ g4/\uJ kn z (N+1) cZ dc g4/\h.length<=g4.length/\
   ∀(j:Nat) b,h[j]?=a_ b->j≠kn->(∀Z,b≠.cells Z bh)->(∀c,b≠.tok c 1 200)->g4[j]?=a_ b:=by
 obtain⟨xs,hA,s5,R9⟩:=s.on;have Bk:cu r=bh:=by obtain⟨l,q,_⟩:=D;exact q.one
 have gd:cY 1 xs=bh:=Bw λx I=>by obtain⟨l,q,_⟩:=R9 x I;exact q.one
 have o1:cY 1 [r]=bh:=Bw λx I=>by rw[dW.1 I];exact Bk
 obtain⟨cZ,g1,e1,vY,bP,bK,gZ⟩:=nv (x:=r) (bW:=24) hA gd o1 ag ag aa;have gI:∀{j:Nat} {b:br},h[j]?=a_ b->(∀c,b≠.tok c 1 200)->∀ys,bx≠.sl ys (.tok j):=λ{j b} q O ys e=>by
  rcases hA with⟨q1,_⟩|⟨id,q1,bt⟩
  rw[q1] at e;cases e;rw[q1] at e;cases e;rw[bt] at q;cases q;exact O _ rfl
 have b1:g1[kn]?=a_ (.cells (bx::bv::z) bf):=gZ _ _ s.b (gI s.b af)
 have ho:cu cZ=bh:=by rcases vY with⟨q,_⟩|⟨_,q,_⟩<;>rw[q]<;>rfl
 have ax4:=gl b1;have s1:bL g1 1 (.mp kn 0) cZ=a_ (g1.set kn (.cells (cZ::bv::z) bf)):=by
  simp only[bL,b1,fD,rO ho];simp[ho,d_]
 have b2:(g1.set kn (.cells (cZ::bv::z) bf))[kn]?=a_ (.cells (cZ::bv::z) bf):=bT ax4;have pO:nk N N bv (g1.set kn (.cells (cZ::bv::z) bf)):=s.cz.ext λj Z q=>by
  rw[bE (by rintro rfl;rw[s.b] at q;simp at q)];exact gZ _ _ q (gI q af)
 have l2:bz (g1.set kn (.cells (cZ::bv::z) bf)) bf 1 (.mp kn 1)=a_ bv:=by simp only[bz,b2];rfl
 obtain⟨dc,g3,di,Lf,Eo,wg⟩:=pO.push (r:=.bp) aa (Fz _);have b3:g3[kn]?=a_ (.cells (cZ::bv::z) bf):=wg _ _ b2 af;have ax5:=gl b3;have eA:bL g3 1 (.mp kn 1) dc=a_ (g3.set kn (.cells (cZ::dc::z) bf)):=by
  simp only[bL,b3,fD,rO Lf.one];simp[Lf.one,d_]
 refine⟨cZ,dc,g1,_,g3,_,e1,s1,l2,di,eA,⟨bT ax5,⟨xs++[r],?_,by simp[s5],λx I=>?_⟩,Lf.ext λj Z q=>?_⟩,?_,λj b hj Y V h3=>?_⟩
 rcases vY with q|⟨id,q1,bt⟩
 exact bD q;refine bF ⟨id,q1,?_⟩;have oy:kn≠id:=by rintro rfl;rw[b1] at bt;cases bt
 rw[bE oy];exact wg _ _ (by rw[bE oy];exact bt) af
 rcases fA.1 I with q|q
 exact R9 x q;rw[dW.1 q];exact D;rw[bE (by rintro rfl;rw[b3] at q;simp at q)];exact q;rw[wY];rw[wY] at Eo;omega;rw[bE (e3 Y)];refine wg _ _ ?_ V;rw[bE (e3 Y)];exact gZ _ _ hj (gI hj h3)
@[go_sem]def uJ.aC7(s:uJ kn z N bx bv h)(g:List br):cG bx g=a_ (.v (.int .i64 (N:Int)),g):=by
 obtain⟨xs,hA,s5,_⟩:=s.on;rw[F1 hA g,s5]
@[go_sem]def q_{X:List br}{k:Nat}(q:X[k]?=a_ (.cells p.cells bf)):bz X bf 1 (.mp k 0)=a_ (.v (.int .i64 p.kind))/\bz X bf 1 (.mp k 1)=a_ (.v (.int .i64 p.low))/\bz X bf 1 (.mp k 2)=a_ (.v (.int .i64 p.high))/\bz X bf 1 (.mp k 3)=a_ (bu p.name)/\bz X bf 1 (.mp k 4)=a_ p.kv:=by
 simp only[bz,q];exact⟨rfl,rfl,rfl,rfl,rfl⟩
@[go_sem]def al7{j:Nat}{x:Int}(I:p.kids[j]?=a_ x):ct 1 p.kv (.v (.int .i64 (j:Int)))=a_ (.fp [.v (.int .i64 x)] 0):=by
 unfold cT.kv;split;rename_i z;rw[z] at I;simp at I;exact lN (x:=bq x) aN5 rfl
section
variable{G:Cells}{kn N:Nat}{z:List bg}{J h0:List br}{v lv:bg}{ps:List cT}{p:cT}{hi:nQ}
def aAE{rows:List (List bg)}(Cn:cD lv (rows.map dG))(ga:eY lv)(Ep:∀x∈rows,xj x)(oz:rows.length<=1000000000)(s:gj kn z J p.cells N h0)(S:p.kind=1)(hN:N+1<=256)(hQ:∀h',IC kn z J (N+1) h'->hi .ret [(8,.mp J.length 0)] h'):
  @ey G bB bf V3 ⟨hi⟩ [(0,.mp kn 0),(1,v),(3,lv),(8,.mp J.length 0),(9,.mp (J.length+1) 0),(10,.mp (J.length+2) 0)] h0:=by
 conv in V3=>whnf
 obtain⟨d0,d1,d2,d3,d4⟩:=q_ s.p;rw[S] at d0;obtain⟨bx,bv,hX⟩:=s.fI;have aC2:bz h0 bf 1 (.mp kn 0)=a_ bx:=by simp only[bz,hX.b];rfl
 refine oa ?_;refine eo (aDU Cn Ep oz p.name) ?_;rintro r ⟨l,hl1,js,s0⟩;have Bk:=(zI hl1).one;obtain⟨cZ,dc,g1,g2,g3,g4,e1,e2,di,eW,nV,Xv,bK,ue⟩:=hX.place (r:=r) aa ⟨l,(zI hl1),js,s0⟩;have cX:=s.lt;have kA:gj kn z J p.cells (N+1) g4:=by
  refine⟨⟨_,_,Xv⟩,⟨iz s.k.len bK,λj Z q bt=>ue _ _ (s.k.AA j Z q bt) q af af,λj c q=>ue _ _ (s.k.tok j c q) ?_ af af⟩,ue _ _ s.r aa af af,ue _ _ s.p aa af af,?_,cX⟩;rintro rfl;have:=s.k.tok _ c q;rw[hX.b] at this;cases this;obtain⟨Z,q1,bt⟩:=s.o;exact⟨Z,ue _ _ q1 aa af af,bt.mono aa⟩
 obtain⟨_,ho,fv,ev,em,rfl,hf,he⟩:=kA.o;have jU:iJ (N+1) (.sl [bq (N:Int)] .exact):=⟨[(N:Int)],bF ⟨_,rfl⟩,qP.one aa⟩;have XF:cu (.sl [bq (N:Int)] .exact)=bh:=rfl;unfold bq at jU XF;obtain⟨t0,t1,t2,t3,t4⟩:=rj ho XF;obtain⟨jY,qA⟩:=kA.put kA.o (cc _) (Z:=[.bp,.bp,.sl [.v (.int .i64 (N:Int))] .exact,ev,.v (.bool em)]) ⟨_,_,_,rfl,jU,he⟩;have Yk:(g4.set (J.length+2) (.cells [.bp,.bp,.sl [.v (.int .i64 (N:Int))] .exact,ev,.v (.bool em)] bf))[J.length+2]?=a_ (.cells [.bp,.bp,.sl [.v (.int .i64 (N:Int))] .exact,ev,.v (.bool em)] bf):=bT (gl ho);generalize GN:g4.set (J.length+2) (.cells [.bp,.bp,.sl [.v (.int .i64 (N:Int))] .exact,ev,.v (.bool em)] bf)=g5 at jY qA Yk t2;obtain⟨sn,u1,u2,u3,u4⟩:=rj Yk XF;have anX:kO (N+1) [.bp,.bp,.sl [.v (.int .i64 (N:Int))] .exact,.sl [.v (.int .i64 (N:Int))] .exact,.v (.bool em)]:=⟨_,_,_,rfl,jU,jU⟩;obtain⟨nH,ve⟩:=jY.put qA (cc _) anX;have aiH:(g5.set (J.length+2) (.cells [.bp,.bp,.sl [.v (.int .i64 (N:Int))] .exact,.sl [.v (.int .i64 (N:Int))] .exact,.v (.bool em)] bf))[J.length+2]?=a_ (.cells [.bp,.bp,.sl [.v (.int .i64 (N:Int))] .exact,.sl [.v (.int .i64 (N:Int))] .exact,.v (.bool em)] bf):=bT (gl Yk);generalize axK:g5.set (J.length+2) (.cells [.bp,.bp,.sl [.v (.int .i64 (N:Int))] .exact,.sl [.v (.int .i64 (N:Int))] .exact,.v (.bool em)] bf)=g6 at nH ve aiH u3;have Ho:=(jP aiH).2.2.2.2.2;obtain⟨f1,f2⟩:=nH.fin anX;exact pH (eI @aC2 (IQ Bk) @e1 @e2) (eI @di (IQ (w:=.bp) rfl) @eW @nV) @t2 @u3 @Ho @f1 @ru (hQ _ f2)
def aBA(s:gj kn z J p.cells N h0)(S:p.kind=3)(u9:p.tail=.no)(e7:p.kids.length<=1000000000)(ih:∀x∈p.kids,Ls G kn z v lv ps x)(hN:N+(p.kids.map λk=>cnt ps k).sum<=256)(hQ:∀h',IC kn z J (N+(p.kids.map λk=>cnt ps k).sum) h'->hi .ret [(8,.mp J.length 0)] h'):
  @ey G bB bf V5 ⟨hi⟩ [(0,.mp kn 0),(1,v),(3,lv),(8,.mp J.length 0),(9,.mp (J.length+1) 0),(10,.mp (J.length+2) 0)] h0:=by
 conv in V5=>whnf
 obtain⟨d0,d1,d2,d3,d4⟩:=q_ s.p;rw[S] at d0;refine wy ?_;refine c8 (λj e h=>e=[(0,.mp kn 0),(1,v),(3,lv),(8,.mp J.length 0),(9,.mp (J.length+1) 0),(10,.mp (J.length+2) 0),(12,bq j)]/\gj kn z J p.cells (N+((p.kids.take j).map λk=>cnt ps k).sum) h) p.kids.length ⟨rfl,by simpa using s⟩ ?_ ?_;rintro j e h hj ⟨rfl,s⟩;obtain⟨x,I⟩:=cO hj;have wO:=zM (f:=λk=>cnt ps k) I;have sl:=C4 (λk=>cnt ps k) p.kids (j+1);obtain⟨d0,d1,d2,d3,d4⟩:=q_ s.p;refine oa (cm (ih x (cv I) _ h s.fI aa) ?_);rintro _ Y ⟨Z,rfl,T,hn,hL⟩;have s1:=s.lay hL hn aa;have jI:=CQ T Y;unfold z5 at jI;have s2:gj kn z J p.cells _ (Y++[.cells Z bf]):=s1.app;have gd:(Y++[bw Z bf])[Y.length]?=a_ (.cells Z bf):=af
 have O:=s1.DO;obtain⟨xf,hO,mb,rfl,q9,pn⟩:=T;refine wy ?_;generalize Y.length=m at gd O⊢;generalize Y++[bw [.bp,.bp,xf,hO,.v (.bool mb)] bf]=g at s2 gd⊢;obtain⟨_,ho,fv,ev,em,rfl,hf,he⟩:=s2.o;obtain⟨q0,q1,bt,bV,fU,_⟩:=jP ho;obtain⟨x0,x1,x2,x3,qL,_⟩:=jP gd;refine wy (Kj hf q9 aa λr D=>?_);obtain⟨t0,t1,t2,t3,t4⟩:=rj ho D.one;obtain⟨eA,jW⟩:=s2.put s2.o (cc _) (Z:=[.bp,.bp,r,ev,.v (.bool em)]) ⟨_,_,_,rfl,D,he⟩;have JG:(g.set (J.length+2) (.cells [.bp,.bp,r,ev,.v (.bool em)] bf))[J.length+2]?=a_ (.cells [.bp,.bp,r,ev,.v (.bool em)] bf):=bT (gl ho);have aap:(g.set (J.length+2) (.cells [.bp,.bp,r,ev,.v (.bool em)] bf))[m]?=a_ (.cells [.bp,.bp,xf,hO,.v (.bool mb)] bf):=by rw[bE aa];exact gd
 refine wy ?_;generalize g.set (J.length+2) (.cells [.bp,.bp,r,ev,.v (.bool em)] bf)=g' at eA jW JG aap⊢;obtain⟨q0,q1,bt,bV,fU,_⟩:=jP JG;obtain⟨x0,x1,x2,x3,qL,_⟩:=jP aap;refine wy (Kj he pn aa λr2 r0=>?_);obtain⟨t0,t1,t2,t3,t4⟩:=rj JG r0.one;obtain⟨kA,mY⟩:=eA.put jW (cc _) (Z:=[.bp,.bp,r,r2,.v (.bool em)]) ⟨_,_,_,rfl,D,r0⟩;have Yj:(g'.set (J.length+2) (.cells [.bp,.bp,r,r2,.v (.bool em)] bf))[J.length+2]?=a_ (.cells [.bp,.bp,r,r2,.v (.bool em)] bf):=bT (gl JG);have CP:(g'.set (J.length+2) (.cells [.bp,.bp,r,r2,.v (.bool em)] bf))[m]?=a_ (.cells [.bp,.bp,xf,hO,.v (.bool mb)] bf):=by rw[bE aa];exact aap
 refine wy ?_;generalize g'.set (J.length+2) (.cells [.bp,.bp,r,r2,.v (.bool em)] bf)=g2 at kA mY Yj CP⊢;obtain⟨q0,q1,bt,bV,fU,_⟩:=jP Yj;obtain⟨x0,x1,x2,x3,qL,_⟩:=jP CP;have fin:∀b:Bool,bL g2 1 (.mp (J.length+2) 4) (.v (.bool b))=a_ (g2.set (J.length+2) (.cells [.bp,.bp,r,r2,.v (.bool b)] bf)):=λb=>(rj Yj (w:=.v (.bool b)) rfl).2.2.2.2;have Mj:∀b:Bool,gj kn z J p.cells (N+((p.kids.take (j+1)).map λk=>cnt ps k).sum) (g2.set (J.length+2) (.cells [.bp,.bp,r,r2,.v (.bool b)] bf)):=λb=>by
  rw[wO,<-nM];exact(kA.put mY (cc _) (Z:=[.bp,.bp,r,r2,.v (.bool b)]) ⟨_,_,_,rfl,D,r0⟩).1
 cases em with
 |false=>
  refine fu @fU @qL @fin ?_;exact⟨rfl,Mj _⟩
 |true=>
  refine fu @fU @qL @fin ?_;exact⟨rfl,Mj _⟩
 rintro e h ⟨rfl,s⟩;rw[od] at s;obtain⟨d0,d1,d2,d3,d4⟩:=q_ s.p;obtain⟨Z,ho,T⟩:=s.o;obtain⟨f1,f2⟩:=s.fin T;exact nI @bq.eq_1 @d4 (zn u9 aa) (zB ho T.one.1) @f1 (hQ _ f2)
def aA9(s:gj kn z J p.cells N h0)(S:p.kind=2)(u9:p.tail=.no)(e7:p.kids.length<=1000000000)(ih:∀x∈p.kids,Ls G kn z v lv ps x)(hN:N+(p.kids.map λk=>cnt ps k).sum<=256)(hQ:∀h',IC kn z J (N+(p.kids.map λk=>cnt ps k).sum) h'->hi .ret [(8,.mp J.length 0)] h'):
  @ey G bB bf V6 ⟨hi⟩ [(0,.mp kn 0),(1,v),(3,lv),(8,.mp J.length 0),(9,.mp (J.length+1) 0),(10,.mp (J.length+2) 0)] h0:=by
 conv in V6=>whnf
 obtain⟨_,ho,fv,ev,em,rfl,hf,he⟩:=s.o;obtain⟨t0,t1,t2,t3,t4⟩:=rj ho (w:=.v (.bool bh)) rfl;obtain⟨s1,o1⟩:=s.put s.o (cc _) (Z:=[.bp,.bp,fv,ev,.v (.bool bh)]) ⟨_,_,_,rfl,hf,he⟩;obtain⟨d0,d1,d2,d3,d4⟩:=q_ s1.p;rw[S] at d0;refine wy ?_;refine c8 (λj e h=>e=[(0,.mp kn 0),(1,v),(3,lv),(8,.mp J.length 0),(9,.mp (J.length+1) 0),(10,.mp (J.length+2) 0),(14,bq j)]/\gj kn z J p.cells (N+((p.kids.take j).map λk=>cnt ps k).sum) h) p.kids.length ⟨rfl,by simpa using s1⟩ ?_ ?_;rintro j e h hj ⟨rfl,s⟩;obtain⟨x,I⟩:=cO hj;have wO:=zM (f:=λk=>cnt ps k) I;have sl:=C4 (λk=>cnt ps k) p.kids (j+1);obtain⟨d0,d1,d2,d3,d4⟩:=q_ s.p;refine oa (cm (ih x (cv I) _ h s.fI aa) ?_);rintro _ Y ⟨Z,rfl,T,hn,hL⟩;have s1:=s.lay hL hn aa;have jI:=CQ T Y;unfold z5 at jI;have s2:gj kn z J p.cells _ (Y++[.cells Z bf]):=s1.app;have gd:(Y++[bw Z bf])[Y.length]?=a_ (.cells Z bf):=af
 refine iD (zB gd T.one.1) (s2.call s2.o (cc _) T aa λh' eA _ _=>?_);refine eO ?_;refine⟨rfl,?_⟩;rw[wO,<-nM];exact eA;rintro e h ⟨rfl,s⟩;rw[od] at s;obtain⟨d0,d1,d2,d3,d4⟩:=q_ s.p;obtain⟨Z,ho,T⟩:=s.o;obtain⟨f1,f2⟩:=s.fin T;exact nI @bq.eq_1 @d4 (zn u9 aa) (zB ho T.one.1) @f1 (hQ _ f2)
end
end
section
variable{p:cT}
section
variable{kn:Nat}{z:List bg}{J h h':List br}{pc:List bg}{w:Nat}
def gj.aEK(s:gj kn z J pc w h)(t:Ly h h')(hn:sE kn z w h'):gj kn z J pc w h':=by
 refine⟨hn,⟨by rw[t.len];exact s.k.len,λj Z q bt=>t.keep _ _ (s.k.AA j Z q bt) af,λj c q=>t.keep _ _ (s.k.tok j c q) af⟩,t.keep _ _ s.r af,t.keep _ _ s.p af,?_,s.lt⟩;obtain⟨Z,q1,bt⟩:=s.o;exact⟨Z,t.keep _ _ q1 af,bt⟩
def gj.ati(s:gj kn z J pc w h){p:Nat}(JM:p<w):∃bv k c,bz h bf 1 (.mp kn 1)=a_ bv/\ct 1 bv (.v (.int .i64 (p:Int)))=a_ (.rp k w p)/\bz h bf 1 (.rp k w p)=a_ c/\iJ w c/\∀r,iJ w r->∃h',bL h 1 (.rp k w p) r=a_ h'/\gj kn z J pc w h'/\Ly h h':=by
 obtain⟨bx,bv,hX⟩:=s.fI;obtain⟨k,c,a1,a2,a3,a4⟩:=hX.cz.at JM;refine⟨bv,k,c,by simp only[bz,hX.b];rfl,a1,a2,a3,λr D=>?_⟩;obtain⟨h',b1,b2,b3⟩:=a4 r D;refine⟨h',b1,s.aEK b3 ⟨bx,bv,b3.keep _ _ hX.b af,?_,b2⟩,b3⟩;obtain⟨xs,Y,V,h3⟩:=hX.on;refine⟨xs,Y.elim bD ?_,V,h3⟩;rintro⟨id,q1,bt⟩;exact bF ⟨id,q1,b3.keep _ _ bt af⟩
end
@[go_sem]def asr{N:Nat}{Z:List bg}(h:kO N Z):e4 5 [.agg Z]=a_ (.sl [.agg Z] .exact):=by
 unfold e4;rw[if_pos ⟨Ob (rs:=[Z]) (w:=N) aR,af⟩]
def aDE(q:p.high<0):(if(1:Int)>p.low then 1 else p.low)=(p.many:Int):=by
 unfold Fy;rw[if_pos q];split<;>omega
def aDG(q:¬p.high<0):p.high=(p.many:Int):=by
 unfold Fy;rw[if_neg q];omega
section
variable{G:Cells}{kn N:Nat}{z:List bg}{J h0:List br}{v lv:bg}{ps:List cT}{p:cT}{hi:nQ}
def aBB{x:Int}{c:Nat}(s:gj kn z J p.cells N h0)(O:Ix p.low p.high)(zd:p.kids=[x])(T:cnt ps x=c)(ih:Ls G kn z v lv ps x)(hN:N+p.many*c<=256)(hQ:∀h',IC kn z J (N+p.many*c) h'->hi .ret [(8,.mp J.length 0)] h'):
  @ey G bB bf ae3 ⟨hi⟩ [(0,.mp kn 0),(1,v),(3,lv),(8,.mp J.length 0),(9,.mp (J.length+1) 0),(10,.mp (J.length+2) 0)] h0:=by
 conv in ae3=>whnf
 obtain⟨iC,iS,A3⟩:=O;obtain⟨lw,RS⟩:=pJ iC;have p7:1<=p.many/\p.many<=20:=by
  unfold Fy;constructor<;>(split<;>(try split))<;>omega
 have RN:p.kids[0]?=a_ x:=by rw[zd];rfl
 have aCr:=al7 RN;have aK8:ct 1 p.kv (.v (.int .i64 0))=a_ (.fp [.v (.int .i64 x)] 0):=aCr;refine eN (λe h=>e=[(0,.mp kn 0),(1,v),(3,lv),(8,.mp J.length 0),(9,.mp (J.length+1) 0),(10,.mp (J.length+2) 0),(16,.v (.int .i64 p.high))]/\h=h0) ?_ ?_;obtain⟨d0,d1,d2,d3,d4⟩:=q_ s.p;exact wx tt;rintro e h ⟨rfl,rfl⟩;refine eN (λe h'=>e=[(0,.mp kn 0),(1,v),(3,lv),(8,.mp J.length 0),(9,.mp (J.length+1) 0),(10,.mp (J.length+2) 0),(16,bq p.many)]/\h'=h) ?_ ?_;obtain⟨d0,d1,d2,d3,d4⟩:=q_ s.p;have m0:qT bh [.v (.int .i64 p.low),.v (.int .i64 1)]=a_ (.v (.int .i64 (if(1:Int)>p.low then 1 else p.low))):=rfl;refine wy (cM (λq=>?_) λq=>?_);have q':p.high<0:=ak
 rw[aDE q'] at m0;exact gf @d1 @m0 rt;have q':¬p.high<0:=ak
 rw[aDG q'];exact wx rt;rintro e Y ⟨rfl,rfl⟩;refine eN (λe h'=>e=[(0,.mp kn 0),(1,v),(3,lv),(8,.mp J.length 0),(9,.mp (J.length+1) 0),(10,.mp (J.length+2) 0),(16,bq p.many),(17,.bp)]/\h'=Y) ?_ ?_;exact wx tt;rintro e V ⟨rfl,rfl⟩;refine eN (λe h=>∃rv rs,e=[(0,.mp kn 0),(8,.mp J.length 0),(9,.mp (J.length+1) 0),(10,.mp (J.length+2) 0),(16,bq p.many),(17,rv)]/\gj kn z J p.cells (N+p.many*c) h/\nO J.length (N+p.many*c) h rv rs/\rs.length=p.many) ?_ ?_;refine wy ?_;refine c8 (λj e h=>∃rv rs,e=[(0,.mp kn 0),(1,v),(3,lv),(8,.mp J.length 0),(9,.mp (J.length+1) 0),(10,.mp (J.length+2) 0),(16,bq p.many),(17,rv),(18,bq j)]/\gj kn z J p.cells (N+j*c) h/\nO J.length (N+j*c) h rv rs/\rs.length=j) p.many ⟨.bp,[],rfl,by rw[Nat.zero_mul];exact s,⟨bD ⟨rfl,rfl⟩,af⟩,rfl⟩ ?_ ?_;rintro j e h hj ⟨rv,rs,rfl,s,hA,nD⟩;have aip:N+j*c+c<=256:=by
  have:(j+1)*c<=p.many*c:=qh _ hj;rw[uF] at this;omega
 have WN:N+(j+1)*c=N+j*c+c:=by rw[uF];omega
 rw[WN];have KX:cN.wrap ((j:Int)+1)=((j+1:Nat):Int):=jZ aa;refine iO (λe h'=>e=[(0,.mp kn 0),(1,v),(3,lv),(8,.mp J.length 0),(9,.mp (J.length+1) 0),(10,.mp (J.length+2) 0),(16,bq p.many),(17,rv),(18,bq j)]/\h'=h) ?_ ?_;exact dJ @bq.eq_1 tt;rintro e h' ⟨rfl,rfl⟩;refine eN (λe h=>∃rv rs,e=[(0,.mp kn 0),(1,v),(3,lv),(8,.mp J.length 0),(9,.mp (J.length+1) 0),(10,.mp (J.length+2) 0),(16,bq p.many),(17,rv),(18,bq j)]/\gj kn z J p.cells (N+j*c+c) h/\nO J.length (N+j*c+c) h rv rs/\rs.length=j+1) ?_ ?_;rw[C9];refine eN (λe h=>∃m Z,e=[(0,.mp kn 0),(1,v),(3,lv),(8,.mp J.length 0),(9,.mp (J.length+1) 0),(10,.mp (J.length+2) 0),(16,bq p.many),(17,rv),(18,bq j),(19,.mp m 0)]/\gj kn z J p.cells (N+j*c+c) h/\nO J.length (N+j*c+c) h rv rs/\J.length+3<=m/\h[m]?=a_ (.cells Z bf)/\kO (N+j*c+c) Z) ?_ ?_;obtain⟨d0,d1,d2,d3,d4⟩:=q_ s.p;refine wy (cm (ih _ h' s.fI aa) ?_);rw[T];rintro _ Y ⟨Z,rfl,jb,hn,hL⟩;have s1:=s.lay hL hn aa;have Xj:nO J.length (N+j*c+c) Y rv rs:=hA.keep aa hL.tok;have jI:=CQ jb Y;unfold z5 at jI;refine wy ?_;exact⟨_,Z,rfl,s1.app,Xj.keep (cc _) λj c q=>bS q,s1.DO,af,jb⟩;rintro e h3 ⟨m,Z,rfl,eA,rT,M_,gd,jb⟩;obtain⟨xf,hO,mb,rfl,q9,pn⟩:=jb;refine eN (λe h=>e=[(0,.mp kn 0),(1,v),(3,lv),(8,.mp J.length 0),(9,.mp (J.length+1) 0),(10,.mp (J.length+2) 0),(16,bq p.many),(17,rv),(18,bq j),(19,.mp m 0)]/\gj kn z J p.cells (N+j*c+c) h/\nO J.length (N+j*c+c) h rv rs/\h[m]?=a_ (.cells [.bp,.bp,xf,hO,.v (.bool mb)] bf)) ?_ ?_;obtain⟨d0,d1,d2,d3,d4⟩:=q_ eA.p;by_cases q:p.high<0;have w1:cN.wrap ((p.many:Int)-1)=((p.many-1:Nat):Int):=by rw[fq aa aa];omega
 by_cases bt:j=p.many-1;have bV:((j:Int)==((p.many-1:Nat):Int))=bh:=VV bt;obtain⟨el,Eh,A6⟩:=pn;have uc:=A6.len;refine vr @bq.eq_1 @d2 @q @decide_true @w1 @bV ?_;refine c8 (λi e h=>e=[(0,.mp kn 0),(1,v),(3,lv),(8,.mp J.length 0),(9,.mp (J.length+1) 0),(10,.mp (J.length+2) 0),(16,bq p.many),(17,rv),(18,bq j),(19,.mp m 0),(20,bq i)]/\gj kn z J p.cells (N+j*c+c) h/\nO J.length (N+j*c+c) h rv rs/\h[m]?=a_ (.cells [.bp,.bp,xf,hO,.v (.bool mb)] bf)) el.length ⟨rfl,eA,rT,gd⟩ ?_ ?_;rintro i e h Q ⟨rfl,kA,Gz,CP⟩;obtain⟨y,hy⟩:=cO Q;obtain⟨y0,y1⟩:=A6.2 y (cv hy);obtain⟨pl,rfl⟩:=pJ y0;obtain⟨bv,k,F8,b0,a1,a2,a3,a4⟩:=kA.ati (p:=pl) aa;obtain⟨x0,x1,x2,x3,qL,_⟩:=jP CP;refine ng @bq.eq_1 @b0 @x3 (Eh.cB hy) @a1 @a2 @x2 @true_and @and_true (Kj a3 q9 aa λr D=>?_);obtain⟨h5,t1,t2,t3⟩:=a4 r D;refine pH (eI @bq.eq_1 @b0 @x3 @Eh.len) (Eh.cB hy) @a1 @a2 @x2 @t1 @ru ?_;exact⟨t2,Gz.keep (cc _) λj c q=>t3.keep _ _ q af,t3.keep _ _ CP af⟩;rintro e h ⟨rfl,kA,Gz,CP⟩;obtain⟨x0,x1,x2,x3,qL,_⟩:=jP CP;refine gf @bq.eq_1 @x3 ?_;exact⟨trivial,kA,Gz,CP⟩;have bV:((j:Int)==((p.many-1:Nat):Int))=bf:=Qb bt;refine vr @bq.eq_1 @d2 @q @decide_true @w1 @bV ?_;exact⟨trivial,eA,rT,gd⟩;refine oO @bq.eq_1 @d2 @q @decide_false ?_;exact⟨trivial,eA,rT,gd⟩;rintro e h4 ⟨rfl,kA,Gz,CP⟩;have jb:kO (N+j*c+c) [.bp,.bp,xf,hO,.v (.bool mb)]:=⟨_,_,_,rfl,q9,pn⟩;obtain⟨C2,h5,nV,arM,EN,wz,Hg⟩:=Gz.push kA.k.len aa jb;refine wx ?_;exact⟨C2,_,rfl,kA.rest EN wz Hg,arM,by simp[nD]⟩;rintro e h ⟨rv,rs,rfl,s,hA,nD⟩;refine gf @bq.eq_1 @KX ?_;exact⟨rv,rs,rfl,s,hA,nD⟩;rintro e h ⟨rv,rs,rfl,s,hA,nD⟩;refine dJ @bq.eq_1 ?_;exact⟨rv,rs,rfl,s,hA,nD⟩;rintro e h3 ⟨rv,rs,rfl,eA,rT,nD⟩;generalize hW:N+p.many*c=W at*;refine eN (λe h=>e=[(0,.mp kn 0),(8,.mp J.length 0),(9,.mp (J.length+1) 0),(10,.mp (J.length+2) 0),(16,bq p.many),(17,rv)]/\gj kn z J p.cells W h/\nO J.length W h rv rs) ?_ ?_;refine wy ?_;refine c8 (λi e h=>e=[(0,.mp kn 0),(8,.mp J.length 0),(9,.mp (J.length+1) 0),(10,.mp (J.length+2) 0),(16,bq p.many),(17,rv),(21,bq i)]/\gj kn z J p.cells W h/\nO J.length W h rv rs) (min p.many lw) ⟨rfl,eA,rT⟩ ?_ ?_;rintro i e h Q ⟨rfl,s,hA⟩;obtain⟨d0,d1,d2,d3,d4⟩:=q_ s.p;rw[RS] at d1;obtain⟨Z,jb⟩:∃Z,rs[i]?=a_ Z:=⟨rs[i],cy aa⟩;obtain⟨a1,a2,a3⟩:=hA.cB jb;have KX:cN.wrap ((i:Int)+1)=((i+1:Nat):Int):=jZ aa;refine wy (s.call s.o (cc _) a3 hN λh' s' t qB=>?_);refine dJ @KX ?_;obtain⟨c0,o1,_⟩:=s.o;exact⟨rfl,s',hA.pG t o1⟩;rintro e h ⟨rfl,s,hA⟩;obtain⟨d0,d1,d2,d3,d4⟩:=q_ s.p;rw[RS] at d1
 rcases er lw p.many with q|q
 rw[Nat.min_eq_right aa];refine gf @bq.eq_1 @d1 ?_;exact⟨trivial,s,hA⟩;rw[Lc q];refine dJ @bq.eq_1 ?_;exact⟨trivial,s,hA⟩;rintro e h4 ⟨rfl,kA,Gz⟩;refine eN (λe h=>∃m,e=[(0,.mp kn 0),(8,.mp J.length 0),(9,.mp (J.length+1) 0),(10,.mp (J.length+2) 0),(16,bq p.many),(17,rv),(22,.mp m 0)]/\gj kn z J p.cells W h/\nO J.length W h rv rs/\kN W h m/\J.length+3<=m) ?_ ?_;have vR:kO W [.bp,.bp,.bp,.bp,.v (.bool bh)]:=⟨_,_,_,rfl,Fz W,Fz W⟩;have jI:=CQ vR h4;unfold z5 at jI;refine wy ?_;exact⟨_,rfl,kA.app,Gz.keep (cc _) λj c q=>bS q,kN.new vR,kA.DO⟩;rintro e h5 ⟨mt,rfl,jY,awP,qA,Bh⟩;refine eN (λe h=>e=[(0,.mp kn 0),(8,.mp J.length 0),(10,.mp (J.length+2) 0),(22,.mp mt 0)]/\gj kn z J p.cells W h/\kN W h mt) ?_ ?_;refine wy ?_;refine c8 (λi e h=>∃k:Int,k=(p.many:Int)-1-(i:Int)/\e=[(0,.mp kn 0),(8,.mp J.length 0),(9,.mp (J.length+1) 0),(10,.mp (J.length+2) 0),(17,rv),(22,.mp mt 0),(23,.v (.int .i64 k))]/\gj kn z J p.cells W h/\nO J.length W h rv rs/\kN W h mt) (p.many-lw) ⟨_,aa,rfl,jY,awP,qA⟩ ?_ ?_;rintro i e h Q ⟨k,S,rfl,s,hA,aal⟩;obtain⟨q,rfl⟩:∃q:Nat,k=(q:Int):=⟨p.many-1-i,aa⟩;obtain⟨d0,d1,d2,d3,d4⟩:=q_ s.p;rw[RS] at d1;obtain⟨Z,jb⟩:∃Z,rs[q]?=a_ Z:=⟨rs[q]' aa,cy _⟩;obtain⟨a1,a2,a3⟩:=hA.cB jb;have w2:cN.wrap ((q:Int)-1)=(q:Int)-1:=fq aa aa;have jI:=CQ a3 h;unfold z5 at jI;obtain⟨vR,t1,t2⟩:=aal;have ap2:(h++[bw Z bf])[mt]?=a_ (.cells vR bf):=bS t1;have hge:decide ((q:Int)>=(lw:Int))=bh:=ah
 have XV:decide ((lw:Int)<=(q:Int))=bh:=ah
 refine Ie @bq.eq_1 @d1 @hge @XV @a1 @a2 @jI (zB ap2 t2.one.1) ?_;have s1:gj kn z J p.cells W (h++[bw Z bf]):=s.app;have MK:=s.DO;have ayn:=gl t1;refine s1.call (kN.new a3) aa t2 hN λh' s' t qB=>?_;have aES:kN W h' mt:=kN.pG ⟨vR,ap2,t2⟩ t aa;have vY:nO J.length W h' rv rs:=(hA.keep (cc _) (h':=h++[bw Z bf]) λj c q=>bS q).pG t (c0:=Z) af;generalize h.length=mx at qB t ayn MK⊢;obtain⟨_,x1,xf,hO,mb,rfl,q9,pn⟩:=qB;obtain⟨sn,u1,u2,u3,u4⟩:=rj x1 (w:=.v (.bool bh)) rfl;have DV:kO W [.bp,.bp,xf,hO,.v (.bool bh)]:=⟨_,_,_,rfl,q9,pn⟩;obtain⟨nH,ve⟩:=s'.put (m:=mx) ⟨_,x1,_,_,_,rfl,q9,pn⟩ aa DV;have tt:jy mx h' (h'.set mx (.cells [.bp,.bp,xf,hO,.v (.bool bh)] bf)):=jy.set;have aET:=aES.pG tt aa;have awQ:=vY.pG tt x1;have so:(h'.set mx (.cells [.bp,.bp,xf,hO,.v (.bool bh)] bf))[mx]?=a_ (.cells [.bp,.bp,xf,hO,.v (.bool bh)] bf):=bT (gl x1);refine dJ @u4 ?_;obtain⟨auC,y1,fR⟩:=aET;obtain⟨Tz,vf⟩:=nH.put (m:=mt) ⟨auC,y1,fR⟩ aa DV;have awR:=awQ.pG (dU:=mt) (jy.set (b:=.cells [.bp,.bp,xf,hO,.v (.bool bh)] bf)) y1;refine gf (zB so rfl) (Of DV y1 fR.one.1) ?_;exact⟨_,aa,rfl,Tz,awR,vf⟩;rintro e h ⟨k,S,rfl,s,hA,aal⟩;obtain⟨d0,d1,d2,d3,d4⟩:=q_ s.p;rw[RS] at d1;have hge:decide (k>=(lw:Int))=bf:=ah
 have XV:decide ((lw:Int)<=k)=bf:=ah
 refine oO @bq.eq_1 @d1 @hge @XV ?_;exact⟨trivial,s,aal⟩;rintro e h6 ⟨rfl,nH,vR,t1,t2⟩;refine iD (zB t1 t2.one.1) (nH.call nH.o (cc _) t2 hN λh' s' t qB=>?_);obtain⟨co,o1,o2⟩:=qB;obtain⟨f1,f2⟩:=s'.fin o2;exact gf (zB o1 o2.one.1) @f1 (hQ _ f2)
end
end
section
variable{N n0:Nat}{v:bg}{rows:List (List bg)}
def yK(N:Nat)(v:bg):Prop:=∃l:List Int,cD v (l.map bq)/\qP N l
def FO(v:bg):Prop:=∃l:List Int,cD v (l.map bq)/\l.length<=256/\∀y∈l,(0:Int)<=y/\y<256
def yK.one(h:yK N v):cu v=bh:=aNw
def FO.one(h:FO v):cu v=bh:=aNw
def yK.clean(h:yK N v):eY v:=by obtain⟨l,q,_⟩:=h;exact Gc q
def FO.clean(h:FO v):eY v:=by obtain⟨l,q,_⟩:=h;exact Gc q
def iJ.fz(h:iJ N v)(J:List br):∃v',b_ J v v'/\yK N v':=by
 obtain⟨l,Y,V⟩:=h;obtain⟨v',q1,bt⟩:=Y.fz J;exact⟨v',q1,l,bt,V⟩
def aoA(J:List br):∀{Z:List bg},(∀c∈Z,iJ N c)->∃ys,fC J Z ys/\ys.length=Z.length/\∀y∈ys,yK N y
 |[],_=>⟨[],c_,rfl,af⟩
 |c::r,h=>by
  obtain⟨v',q1,bt⟩:=(h c af).fz J;obtain⟨ys,k1,k2,gp⟩:=aoA J (Z:=r) λx I=>h x aA;refine⟨v'::ys,bG q1 k1,by simp[k2],λy hy=>?_⟩
  rcases fo.1 hy with rfl|hy
  exact bt;exact gp y hy
def aji(J:List br):∀{Z:List bg},(∀x∈Z,∃l,qO x l/\l.length<=256/\∀y∈l,(0:Int)<=y/\y<256)->∃ys,fC J Z ys/\ys.length=Z.length/\∀y∈ys,FO y
 |[],_=>⟨[],c_,rfl,af⟩
 |c::r,h=>by
  obtain⟨l,Y,V,h3⟩:=h c af;obtain⟨v',q1,bt⟩:=Y.fz J;obtain⟨ys,k1,k2,gp⟩:=aji J (Z:=r) λx I=>h x aA;refine⟨v'::ys,bG q1 k1,by simp[k2],λy hy=>?_⟩
  rcases fo.1 hy with rfl|hy
  exact⟨l,bt,V,h3⟩;exact gp y hy
def Lq(r:bg):Prop:=∃(N:Nat) (bx bv f e:bg) (b:Bool) (xs ys:List bg),r=.agg [bx,bv,f,e,.v (.bool b)]/\N<=256/\cD bx xs/\xs.length=N/\(∀x∈xs,FO x)/\cD bv (ys.map λy=>.agg [y])/\ys.length=N/\(∀y∈ys,yK N y)/\yK N f/\yK N e
def aG1(Z:List bg):(Z.map λc=>[c]).flatten=Z:=by
 induction Z with
 |nil=>rfl
 |cons a r ih=>rw[fc,yx,ih];rfl
def DS{xs:List bg}(h:cD v xs)(I:∀x∈xs,∀c∈x.cells,eY c):eY v:=by
 rcases h with rfl|⟨rfl,_⟩
 exact k4 I;exact nA
def Lq.clean{r:bg}(h:Lq r):eY r:=by
 obtain⟨N,bx,bv,f,e,b,xs,ys,rfl,hN,Y,V,h3,h4,h5,h6,h7,h8⟩:=h;refine I4 λc T=>?_;simp only[fo,pM,or_false] at T
 rcases T with rfl|rfl|rfl|rfl|rfl
 refine DS Y λx I c T=>?_;rw[rO (h3 x I).one] at T;rw[dW.1 T];exact(h3 x I).clean;refine DS h4 λx I c T=>?_;obtain⟨y,hy,rfl⟩:=dV.1 I;rw[dW.1 (show c∈[y] from T)];exact(h6 y hy).clean;exact h7.clean;exact h8.clean;exact dD _
def am9{h:List br}{kn:Nat}{z:List bg}{bx bv f e:bg}{b:Bool}(hX:uJ kn z N bx bv h)(hN:N<=256)(hf:iJ N f)(he:iJ N e){g:List br}(hg:∀(j:Nat) Z,h[j]?=a_ (.cells Z bh)->g[j]?=a_ (.cells Z bh)):∃n bR,dh g n (.agg [bx,bv,f,e,.v (.bool b)])=a_ bR/\Lq bR:=by
 obtain⟨xs,hA,s5,R9⟩:=hX.on;obtain⟨xs',x1,x2,x3⟩:=aji g R9;obtain⟨cZ,o1,o2⟩:∃cZ,b_ g bx cZ/\cD cZ xs':=by
  rcases hA with⟨rfl,q⟩|⟨id,rfl,_⟩
  rw[q] at x2;exact⟨.bp,eB,bF ⟨rfl,oc (by simpa using x2)⟩⟩;exact⟨_,hD x1,bD rfl⟩
 obtain⟨Z,c1,c2,c3⟩:=hX.cz;obtain⟨ys,y1,fR,mc⟩:=aoA g c2;obtain⟨dc,b1,b2⟩:∃dc,b_ g bv dc/\cD dc (ys.map λy=>.agg [y]):=by
  rcases c3 with⟨rfl,q⟩|⟨k,rfl,S⟩
  rw[q] at fR;have:ys=[]:=oc (by simpa using fR);subst this;exact⟨.bp,eB,bF ⟨rfl,rfl⟩⟩;have V:=b_.rs (sz:=1) (o:=0) (len:=N) (hg k Z S) (m:=N) c1.symm y1;have hE:mL 1 (ys.map λc=>[c]):=λx I=>by
   obtain⟨y,hy,rfl⟩:=dV.1 I;exact⟨rfl,by simp[(mc y hy).one]⟩
  have e1:=Q7 [] hE;rw[gM,show([]:List bg).length=0 from rfl,aG1,cS,fR,c1] at e1;rw[e1] at V;refine⟨_,V,bD ?_⟩;rw[yz];rfl
 obtain⟨f',f1,f2⟩:=hf.fz g;obtain⟨e',e1,e2⟩:=he.fz g;obtain⟨n,hn⟩:=(j0 (bG o1 (bG b1 (bG f1 (bG e1 (bG (bH (.bool b)) c_))))):b_ g _ _).done;exact⟨n,_,hn,N,cZ,dc,f',e',b,xs',ys,rfl,hN,o2,by rw[x2,s5],x3,b2,by rw[fR,c1],mc,f2,e2⟩
section
variable{G:Cells}{kn:Nat}{z:List bg}{v lv:bg}{ps:List cT}
def asJ(h:yG n0 v ps)(pg:n0<=100000000)(Cn:cD lv (rows.map dG))(ga:eY lv)(Ep:∀x∈rows,xj x)(oz:rows.length<=1000000000):∀(n i:Nat),i<n->i<ps.length->sz ps (i:Int)<=1000000000->Ls G kn z v lv ps (i:Int):=by
 intro n
 induction n with
 |zero=>intro i Q;omega
 |succ n ih=>
  intro i Q hl dF N J hX Eg;obtain⟨p,eL⟩:=cO hl;have lX:=h.ok i p eL;have p9:=h.no p (cv eL);have T:=afC h.ok.kids eL;have wo:=h.len;have hs:=T3 h.ok.kids eL;have aKM:=T0 (λk=>sz ps k) p.kids;have S:∀x∈p.kids,Ls G kn z v lv ps x:=λx I=>by
   obtain⟨j,hj⟩:=Pq.1 I;have aHN:=zM (f:=λk=>sz ps k+1) hj;have aHO:=C4 (λk=>sz ps k+1) p.kids (j+1);obtain⟨x0,x1⟩:=lX.2 x I;obtain⟨xn,rfl⟩:=pJ x0;exact ih xn aa aa aa
  have e7:p.kids.length<=1000000000:=aa
  have cX:=hX.lt;refine ajC.go ?_;have e1:ct 5 v (.v (.int .i64 (i:Int)))=a_ (.fp p.cells 0):=h.v.cB (x:=p.bA) aM3 rfl;have e2:∀J,bz J bh 5 (.fp p.cells 0)=a_ (.agg p.cells):=λJ=>rfl;refine eN (λe g=>e=[(0,.mp kn 0),(1,v),(2,.v (.int .i64 (i:Int))),(3,lv),(8,.mp J.length 0)]/\g=J++[.cells z5 bf]) ?_ ?_;exact wx vp;rintro e g ⟨rfl,hg⟩;have gl:g.length=J.length+1:=by rw[hg];simp
  refine eN (λe g2=>e=[(0,.mp kn 0),(1,v),(3,lv),(8,.mp J.length 0),(9,.mp (J.length+1) 0)]/\g2=g++[.cells p.cells bf]) ?_ ?_;have s1:=zL g p;rw[gl] at s1;exact oO @e1 @e2 @gl @s1 tt;rintro e g2 ⟨rfl,kH⟩;have Mv:g2.length=J.length+2:=by rw[kH];simp;omega
  refine eN (λe h0=>e=[(0,.mp kn 0),(1,v),(3,lv),(8,.mp J.length 0),(9,.mp (J.length+1) 0),(10,.mp (J.length+2) 0)]/\gj kn z J p.cells N h0) ?_ ?_;have jI:=CQ (kO.z5 N) g2;have f5:dN [.bp,.bp,.bp,.bp,.v (.bool bf)] []=a_ z5:=rfl;unfold z5 at jI f5;rw[Mv] at jI;refine fu @f5 @Mv @jI ?_;refine⟨trivial,?_⟩;show gj kn z J p.cells N (g2++[.cells z5 bf]);subst hg;subst kH;refine⟨((hX.app).app).app,((pP.app.trans pP.app).trans pP.app),af,af,?_,cX⟩;have:=kN.new (N:=N) (h:=J++[bw z5 bf]++[bw p.cells bf]) (kO.z5 N);rw[Mv] at this;exact this;rintro e h0 ⟨rfl,s⟩;have fin:∀{M:Nat},M=cnt ps (i:Int)->∀h',IC kn z J (N+M) h'->@Kw [(.c 8 bh 5)] ⟨adm kn z J (N+cnt ps (i:Int))⟩ ⟨λ_ _=>False⟩ .ret [(8,.mp J.length 0)] h':=by
   rintro M rfl h' ⟨Z,q1,bt,bV,fU⟩;refine dJ (zB q1 bt.one.1) ?_;exact⟨Z,rfl,bt,bV,fU⟩
  obtain⟨d0,d1,d2,d3,d4⟩:=q_ s.p;by_cases k1:p.kind=1;rw[if_pos k1] at T;exact aAE Cn ga Ep oz s k1 aa (fin T.symm);rw[if_neg k1] at T;have bP:(p.kind==1)=bf:=by simpa using k1
  refine iO (λe h'=>e=[(0,.mp kn 0),(1,v),(3,lv),(8,.mp J.length 0),(9,.mp (J.length+1) 0),(10,.mp (J.length+2) 0)]/\h'=h0) ?_ ?_;exact wx tt;rintro e Y ⟨rfl,rfl⟩;by_cases gp:p.kind=3;rw[if_neg aa,FF] at T;exact aBA s gp p9 e7 S aa (fin T.symm);have Yi:(p.kind==3)=bf:=by simpa using gp
  refine iO (λe h'=>e=[(0,.mp kn 0),(1,v),(3,lv),(8,.mp J.length 0),(9,.mp (J.length+1) 0),(10,.mp (J.length+2) 0)]/\h'=Y) ?_ ?_;exact wx tt;rintro e V ⟨rfl,rfl⟩;by_cases k2:p.kind=2;rw[if_neg aa,FF] at T;exact aA9 s k2 p9 e7 S aa (fin T.symm);have RW:(p.kind==2)=bf:=by simpa using k2
  have hz:p.kind=4/\p.kids.length=1/\Ix p.low p.high:=by
   rcases lX.1 with q|q|q
   omega;omega;exact q
  obtain⟨x,zd⟩:=FD.1 hz.2.1;rw[if_pos hz.1,zd] at T;simp only[fc,kM,Aa,Iu,sx] at T;obtain⟨_,ho,fv,ev,em,rfl,hf,he⟩:=s.o;obtain⟨t0,t1,t2,t3,t4⟩:=rj ho (w:=.v (.bool bh)) rfl;obtain⟨s1,o1⟩:=s.put s.o (cc _) (Z:=[.bp,.bp,fv,ev,.v (.bool bh)]) ⟨_,_,_,rfl,hf,he⟩;refine iO (λe h'=>e=[(0,.mp kn 0),(1,v),(3,lv),(8,.mp J.length 0),(9,.mp (J.length+1) 0),(10,.mp (J.length+2) 0)]/\gj kn z J p.cells N h') ?_ ?_;refine dJ @t4 ?_;exact⟨trivial,s1⟩;rintro e h3 ⟨rfl,eA⟩;obtain⟨d0,d1,d2,d3,d4⟩:=q_ eA.p;refine iO (λe h'=>e=[(0,.mp kn 0),(1,v),(3,lv),(8,.mp J.length 0),(9,.mp (J.length+1) 0),(10,.mp (J.length+2) 0)]/\h'=h3) ?_ ?_;exact wx tt;rintro e h4 ⟨rfl,rfl⟩;exact aBB eA hz.2.2 zd rfl (S x (by rw[zd];simp)) aa (fin T.symm)
def aEC(h:yG n0 v ps)(pg:n0<=100000000)(Cn:cD lv (rows.map dG))(ga:eY lv)(Ep:∀x∈rows,xj x)(oz:rows.length<=1000000000)(Eg:ps≠[]->cnt ps ((ps.length-1:Nat):Int)<=256/\sz ps ((ps.length-1:Nat):Int)<=1000000000):dM G bB 113 [v,lv] Lq:=by
 refine en (aAD.go ?_);have wo:=h.len;have ln:=h.v.cG;rw[cS] at ln;have l5:∀J,cG v J=a_ (.v (.int .i64 (ps.length:Int)),J):=λJ=>aL0
 have vR:kO 0 [.bp,.bp,.bp,.bp,.v (.bool bh)]:=⟨_,_,_,rfl,Fz _,Fz _⟩;have f5:dN [.bp,.bp,.bp,.bp,.v (.bool bf)] [(4,1,.v (.bool bh))]=a_ [.bp,.bp,.bp,.bp,.v (.bool bh)]:=rfl;refine eN (λe g=>e=[(0,v),(1,lv),(4,.mp 0 0)]/\g=[.cells z5 bf]) ?_ ?_;exact wx vp;rintro e g ⟨rfl,hg⟩;have gl:g.length=1:=by rw[hg];rfl
 refine eN (λe g2=>e=[(0,v),(1,lv),(4,.mp 0 0),(5,.mp 1 0)]/\g2=[.cells z5 bf]++[.cells [.bp,.bp,.bp,.bp,.v (.bool bh)] bf]) ?_ ?_;have jI:=CQ vR g;unfold z5 at jI;rw[gl] at jI;refine jB @f5 @gl @jI ?_;exact⟨trivial,by rw[hg]⟩;rintro e g2 ⟨rfl,kH⟩;have ahU:uJ 1 [.bp,.bp,.v (.bool bh)] 0 .bp .bp g2:=by
  rw[kH];exact⟨rfl,⟨[],bD ⟨rfl,rfl⟩,rfl,af⟩,⟨[],rfl,af,bD ⟨rfl,rfl⟩⟩⟩
 have g0:g2[0]?=a_ (.cells z5 bf):=by rw[kH];rfl
 have g1:g2[1]?=a_ (.cells [.bp,.bp,.bp,.bp,.v (.bool bh)] bf):=by rw[kH];rfl
 rcases Dp ps.length with hz|hz
 have b9:((ps.length:Int)==0)=bh:=aNS
 have je:=Of vR g0 rfl;have q0:(g2.set 0 (.cells [.bp,.bp,.bp,.bp,.v (.bool bh)] bf))[0]?=a_ (.cells [.bp,.bp,.bp,.bp,.v (.bool bh)] bf):=bT (cK.1 g0).1;refine nI @l5 @b9 (zB g1 rfl) @je (zB q0 rfl) ?_;exact am9 ahU aa (Fz _) (Fz _) λj Z q=>by rw[bE (by rintro rfl;rw[g0] at q;simp at q)];exact q
 have b9:((ps.length:Int)==0)=bf:=beq_eq_false_iff_ne.2 aa;have bP:ps≠[]:=by rintro rfl;simp at hz
 obtain⟨A4,ayR⟩:=Eg bP;have w1:cN.wrap ((ps.length:Int)-1)=((ps.length-1:Nat):Int):=by rw[fq aa aa];omega
 refine fu @l5 @b9 @w1 ?_;refine cm (asJ (G:=G) h pg Cn ga Ep oz _ (ps.length-1) (yB _) aa ayR 0 g2 ⟨_,_,ahU⟩ aa) ?_;rw[gi];rintro _ g3 ⟨Z,rfl,jb,hn,hL⟩;have jI:=CQ jb g3;unfold z5 at jI;have bR:(g3++[bw Z bf])[0]?=a_ (.cells z5 bf):=bS (hL.AA 0 _ ag g0);have rW:sE 1 [.bp,.bp,.v (.bool bh)] (cnt ps ((ps.length-1:Nat):Int)) (g3++[bw Z bf]):=hn.app;have rx:(g3++[bw Z bf])[g3.length]?=a_ (.cells Z bf):=af
 have kS:2<=g3.length:=by have:=hL.len;rw[kH] at this;simpa using this
 obtain⟨xf,hO,mb,rfl,q9,pn⟩:=jb;refine wx ?_;generalize g3.length=m at rx kS⊢;generalize g3++[bw [.bp,.bp,xf,hO,.v (.bool mb)] bf]=X at bR rW rx⊢;generalize cnt ps ((ps.length-1:Nat):Int)=M at*;obtain⟨bx,bv,hX⟩:=rW;have O:=hX.b;have aEV:cu bx=bh:=by
  obtain⟨xs,hA,_⟩:=hX.on
  rcases hA with⟨q,_⟩|⟨_,q,_⟩<;>rw[q]<;>rfl
 have step:∀(X:List br) (a c d:bg) (b:Bool),X[1]?=a_ (.cells [bx,bv,c,d,.v (.bool b)] bf)->X[0]?=a_ (.cells z5 bf)->X[m]?=a_ (.cells [.bp,.bp,xf,hO,.v (.bool mb)] bf)->(∀(j:Nat) Z,X[j]?=a_ (.cells Z bh)->X[j]?=a_ (.cells Z bh))->∀(c' d':bg) (b':Bool),
   (X.set 1 (.cells [bx,bv,c',d',.v (.bool b')] bf))[1]?=a_ (.cells [bx,bv,c',d',.v (.bool b')] bf)/\(X.set 1 (.cells [bx,bv,c',d',.v (.bool b')] bf))[0]?=a_ (.cells z5 bf)/\(X.set 1 (.cells [bx,bv,c',d',.v (.bool b')] bf))[m]?=a_ (.cells [.bp,.bp,xf,hO,.v (.bool mb)] bf)/\(∀(j:Nat) Z,X[j]?=a_ (.cells Z bh)->(X.set 1 (.cells [bx,bv,c',d',.v (.bool b')] bf))[j]?=a_ (.cells Z bh)):=λX a c d b Y h0 hm _ c' d' b'=>
  ⟨bT (cK.1 Y).1,by rw[bE aa];exact h0,by rw[bE aa];exact hm,λj Z q=>aMs⟩
 obtain⟨sn,u1,u2,u3,u4⟩:=rj O q9.one;obtain⟨a1,a0,am,B3⟩:=step X bx _ _ _ O bR rx (λ_ _ q=>q) xf .bp bh;refine wx ?_;generalize X.set 1 (.cells [bx,bv,xf,.bp,.v (.bool bh)] bf)=adM at a1 a0 am B3⊢;obtain⟨sn,u1,u2,u3,u4⟩:=rj a1 pn.one;obtain⟨b1,b0,bm,bk⟩:=step adM bx _ _ _ a1 a0 am (λ_ _ q=>q) xf hO bh;refine wx ?_;generalize adM.set 1 (.cells [bx,bv,xf,hO,.v (.bool bh)] bf)=yO at b1 b0 bm bk⊢;obtain⟨sn,u1,u2,u3,u4⟩:=rj b1 (w:=.v (.bool mb)) rfl;obtain⟨c1,c0,vQ,Wd⟩:=step yO bx _ _ _ b1 b0 bm (λ_ _ q=>q) xf hO mb;refine wx ?_;generalize yO.set 1 (.cells [bx,bv,xf,hO,.v (.bool mb)] bf)=ase at c1 c0 vQ Wd⊢;unfold z5 at c0;have Ug:=NX (a':=bx) (b':=bv) (c':=xf) (d':=hO) (e':=.v (.bool mb)) c0 (by simp only[pK,tC,aEV,hX.cz.one,q9.one,pn.one];rfl);have v0:(ase.set 0 (.cells [bx,bv,xf,hO,.v (.bool mb)] bf))[0]?=a_ (.cells [bx,bv,xf,hO,.v (.bool mb)] bf):=bT (cK.1 c0).1;refine wx ?_;exact am9 hX A4 q9 pn λj Z q=>by
  have bV:=Wd _ _ (bk _ _ (B3 _ _ q));rw[bE (by rintro rfl;rw[c0] at bV;simp at bV)];exact bV
end
end
section
variable{c:bg}{k n:Nat}{Z:List bg}{g:List br}
def yM(N:Nat)(c:bg):Prop:=∃l,qO c l/\l.length<=70000/\∀x∈l,(0:Int)<=x/\x<(N:Int)
def yM.one{N:Nat}(h:yM N c):cu c=bh:=by obtain⟨l,q,_⟩:=h;exact q.one
@[go_sem]def abh{xs:List bg}{t:nR}{i:Nat}(h:xs[i]?=a_ c)(Y:cu c=bh):ct 1 (.sl xs t) (.v (.int .i64 (i:Int)))=a_ (.fp [c] 0):=by
 have:=lN (n:=1) (t:=t) (k:=.i64) h (by rw[rO Y];rfl);rw[rO Y] at this;exact this
section
variable{h:List br}{k:Nat}{a b c:bg}
@[go_sem]def Hz(O:h[k]?=a_ (.cells [a,b,c] bf)):bz h bf 1 (.mp k 0)=a_ a/\bz h bf 1 (.mp k 1)=a_ b/\bz h bf 1 (.mp k 2)=a_ c/\bz h bh 3 (.mp k 0)=a_ (.agg [a,b,c]):=by
 simp only[bz,O];exact⟨rfl,rfl,rfl,rfl⟩
end
@[go_sem]def yY(S:g[k]?=a_ (.cells Z bf))(h0:Z.length=n):bz g bh n (.mp k 0)=a_ (.agg Z):=by
 simp only[bz,S];unfold fh;rw[if_pos rfl,if_pos aa,pL,oe aa]
@[go_sem]def tR{cs0:List bg}(S:g[k]?=a_ (.cells cs0 bf))(h0:cs0.length=n)(Y:Z.length=n)(V:Z.all cu=bh):bL g n (.mp k 0) (.agg Z)=a_ (g.set k (.cells Z bf)):=by
 simp only[bL,S,fD];have eW:(dG Z).cells=Z:=rfl;rw[eW,if_pos ⟨Y,aa,V⟩];unfold d_;rw[oR,gM,tD aa,gV]
section
variable{G:Cells}{N kt:Nat}{sv bC bA w:bg}{b5:List bg}{t:nR}{J:List br}
def avq(O:J[kt]?=a_ (.cells [.sl b5 t,bC,bA] bf))(hs:∀c∈b5,yM N c)(hl1:1<=b5.length)(js:b5.length<=1000)(hw:yM N w):cw G bB 189 [.mp kt 0,w] J λr bl=>bl=J/\∃n:Int,r=.v (.int .i64 n)/\ -1<=n/\n<(b5.length:Int):=by
 refine aA3.go ?_;obtain⟨wl,w1,w2,w3⟩:=hw;obtain⟨w',wi,ws⟩:=w1.imp;refine wy ?_;refine c8 (λi e h=>e=[(0,.mp kt 0),(1,w),(5,.v (.int .i64 ((i+1:Nat):Int)))]/\h=J) (b5.length-1) ⟨rfl,rfl⟩ ?_ ?_;rintro i e h Q ⟨rfl,rfl⟩;obtain⟨c,T⟩:∃c,b5[i+1]?=a_ c:=⟨b5[i+1]' aa,cy _⟩;have jb:=hs c (cv T);have cB:=abh (t:=t) T jb.one;obtain⟨cH,c1,c2,c3⟩:=jb;obtain⟨c',ci,Z⟩:=c1.imp;refine wy ?_;refine eo (aGo Z ws aa aa) ?_;rintro r ⟨b,rfl⟩;cases b with
 |false=>
  exact wx tt
 |true=>
  refine wx ?_;exact⟨trivial,_,rfl,aa,aa⟩
 rintro e h ⟨rfl,rfl⟩;refine wx ?_;exact⟨trivial,_,rfl,aa,aa⟩
structure Flags(N k:Nat)(bs:List bg)(h:List br):Prop where
 b:h[k]?=a_ (.cells bs bh)
 len:bs.length=N
 ok:∀c∈bs,∃b:Bool,c=.v (.bool b)
section
variable{k p:Nat}{bs:List bg}{h:List br}
@[go_sem]def Jc(J:p<N):ct 1 (.rs k N 1 0 N) (.v (.int .i64 (p:Int)))=a_ (.rp k N p):=by
 have:=Tv (k:=k) (m:=N) (n:=1) (len:=N) (j:=p) J;rw[Nat.mul_one] at this;exact this
def Flags.fT(s:Flags N k bs h)(J:p<N):∃b:Bool,bs[p]?=a_ (.v (.bool b))/\bz h bf 1 (.rp k N p)=a_ (.v (.bool b)):=by
 have hl:=s.len;obtain⟨c,T⟩:∃c,bs[p]?=a_ c:=⟨bs[p]' aa,cy _⟩;obtain⟨b,rfl⟩:=s.ok c (cv T);refine⟨b,T,?_⟩;simp only[bz,s.b,s.len,if_true,fh];rw[if_neg af];exact T
def Flags.st(s:Flags N k bs h)(J:p<N):bL h 1 (.rp k N p) (.v (.bool bh))=a_ (h.set k (.cells (bs.set p (.v (.bool bh))) bh))/\Flags N k (bs.set p (.v (.bool bh))) (h.set k (.cells (bs.set p (.v (.bool bh))) bh)):=by
 have hl:=s.len;have S:=gl s.b;refine⟨?_,bT S,by rw[wY];exact s.len,λc T=>?_⟩;have eW:(cR (.bool bh)).cells=[.v (.bool bh)]:=rfl;simp only[bL,s.b,s.len,if_true,fD,eW];rw[if_pos ⟨rfl,aa,rfl⟩,Om aa]
 rcases UK T with q|rfl
 exact s.ok c q;exact⟨bh,rfl⟩
end
def arN(B:Nat)(h:List br)(c:bg)(xs:List bg):Prop:=(c=.bp/\xs=[])\/∃id,c=.sl xs (.tok id)/\B<=id/\h[id]?=a_ (.tok xs.length 1 3)
structure yI(B N M:Nat)(fP:List bg)(h:List br):Prop where
 len:fP.length=32
 row:∀(s:Nat) c,fP[s]?=a_ c->∃l:List Int,arN B h c (l.map bq)/\l.length<=M/\∀x∈l,(0:Int)<=x/\x<(N:Int)
 one:∀(s s' id:Nat) xs xs',fP[s]?=a_ (.sl xs (.tok id))->fP[s']?=a_ (.sl xs' (.tok id))->s=s'
section
variable{B M M' s:Nat}{fP:List bg}{h h':List br}{c:bg}
def yI.keep(q:yI B N M fP h)(hM:M<=M')(S:∀(j c:Nat),h[j]?=a_ (.tok c 1 3)->h'[j]?=a_ (.tok c 1 3)):yI B N M' fP h':=by
 refine⟨q.len,λs c T=>?_,q.one⟩;obtain⟨l,Y,V,h3⟩:=q.row s c T;refine⟨l,Y.elim bD ?_,aa,h3⟩;rintro⟨id,e1,eb,e2⟩;exact bF ⟨id,e1,eb,S _ _ e2⟩
def yI.push(q:yI B N M fP h)(T:fP[s]?=a_ c)(hB:B<=h.length)(hM:M<=100000){p:Nat}(J:p<N):∃cl g,ei h 1 8 3 c (.sl [.v (.int .i64 (p:Int))] .exact)=a_ (cl,g)/\cu cl=bh/\yI B N (M+1) (fP.set s cl) g/\h.length<=g.length/\(∀(j:Nat) Z fz,h[j]?=a_ (.cells Z fz)->g[j]?=a_ (.cells Z fz))/\∀(j:Nat) b,h[j]?=a_ b->(∀xs,c≠.sl xs (.tok j))->g[j]?=a_ b:=by
 obtain⟨l,Y,V,h3⟩:=q.row s c T;have q8:=gl T;have I:=HD l;have hy:cY 1 [cR (.int .i64 (p:Int))]=bh:=rfl;have Xh:∀x∈l++[(p:Int)],(0:Int)<=x/\x<(N:Int):=λx I=>by
  rcases fA.1 I with y|y
  exact h3 x y;rw[dW.1 y];omega
 rcases Y with⟨rfl,e⟩|⟨id,rfl,awT,hid⟩
 have:l=[]:=UJ.1 e;subst this;refine⟨.sl ([]++[.v (.int .i64 (p:Int))]) (.tok h.length),h++[.tok 1 1 3],?_,rfl,⟨by rw[wY];exact q.len,λs' c' jl=>?_,λs1 s2 id xs xs' k1 k2=>?_⟩,af,λj Z fz k=>bS k,λj b k _=>bS k⟩;simp[ei,gR,iA,iq,hy];by_cases G3:s=s';subst G3;rw[bT q8] at jl;cases jl;exact⟨[]++[(p:Int)],bF ⟨h.length,rfl,hB,af⟩,af,Xh⟩;rw[bE G3] at jl;obtain⟨l',r1,r2,jn⟩:=q.row s' c' jl;refine⟨l',r1.elim bD ?_,aa,jn⟩;rintro⟨id,e1,eb,e2⟩;exact bF ⟨id,e1,eb,bS e2⟩;have old:∀{s':Nat} {ys:List bg},s≠s'->fP[s']?=a_ (.sl ys (.tok id))->id<h.length:=λ{s' ys} _ k=>by
  obtain⟨l',r1,_⟩:=q.row s' _ k
  rcases r1 with⟨r,_⟩|⟨n5,r,_,r2⟩
  cases r;cases r;exact gl r2
 by_cases a1:s=s1<;>by_cases a2:s=s2;omega;subst a1;rw[bT q8] at k1;rw[bE a2] at k2;cases k1;have:=old a2 k2;omega;subst a2;rw[bT q8] at k2;rw[bE a1] at k1;cases k2;have:=old a1 k1;omega;rw[bE a1] at k1;rw[bE a2] at k2;exact q.one s1 s2 id _ _ k1 k2;have hl:id<h.length:=gl hid;rw[cS] at hid;have hfit:(l.length+1)*8<=140737488355328:=aa
 refine⟨.sl (l.map bq++[.v (.int .i64 (p:Int))]) (.tok id),h.set id (.tok (l.length+1) 1 3),?_,rfl,⟨by rw[wY];exact q.len,λs' c' jl=>?_,λs1 s2 n5 xs xs' k1 k2=>?_⟩,af,λj Z fz k=>by rw[bE (by rintro rfl;rw[hid] at k;cases k)];exact k,λj b k bP=>by
  rw[bE (by rintro rfl;exact bP _ rfl)];exact k⟩
 simp[ei,gR,iA,iq,hy,hfit,I,hid];by_cases G3:s=s';subst G3;rw[bT q8] at jl;cases jl;exact⟨l++[(p:Int)],bF ⟨id,by simp[bq],awT,aMh⟩,ah,Xh⟩;rw[bE G3] at jl;obtain⟨l',r1,r2,jn⟩:=q.row s' c' jl;refine⟨l',r1.elim bD ?_,aa,jn⟩;rintro⟨n5,e1,eb,e2⟩;refine bF ⟨n5,e1,eb,?_⟩;rw[bE (by rintro rfl;subst e1;exact G3 (q.one s s' _ _ _ T jl))];exact e2;by_cases a1:s=s1<;>by_cases a2:s=s2;omega;subst a1;rw[bT q8] at k1;rw[bE a2] at k2;cases k1;exact q.one _ _ _ _ _ T k2;subst a2;rw[bT q8] at k2;rw[bE a1] at k1;cases k2;exact q.one _ _ _ _ _ k1 T;rw[bE a1] at k1;rw[bE a2] at k2;exact q.one s1 s2 n5 _ _ k1 k2
def yI.set(q:yI B N M fP h)(T:fP[s]?=a_ c)(hM:M<=70000):yM N c:=by
 obtain⟨l,Y,V,h3⟩:=q.row s c T;refine⟨l,?_,aa,h3⟩
 rcases Y with⟨rfl,e⟩|⟨id,rfl,_⟩
 exact bD ⟨rfl,UJ.1 e⟩;exact bF ⟨_,rfl⟩
end
end
end
section
variable{M N m:Nat}{ef fP:List bg}{h J:List br}
structure yD(N:Nat)(J:List br)(ef:List bg)(h:List br):Prop where
 n:h[J.length]?=a_ (.cells ef bf)
 r:h[J.length+1]?=a_ (.cells (fB 32 .bp) bf)
 m:∃bs,Flags N (J.length+2) bs h
 x:Ext J h
section
variable{N p:Nat}{J h:List br}{ef:List bg}
def yD.st(s:yD N J ef h)(GW:p<N):∃h',bL h 1 (.rp (J.length+2) N p) (.v (.bool bh))=a_ h'/\yD N J ef h':=by
 obtain⟨bs,q⟩:=s.m;obtain⟨a1,a2⟩:=q.st GW;refine⟨_,a1,by rw[bE aa];exact s.n,by rw[bE aa];exact s.r,⟨_,a2⟩,λj b k=>?_⟩;have:=gl k;rw[bE aa];exact s.x j b k
end
structure yC(N M:Nat)(J:List br)(ef fP:List bg)(m:Nat)(h:List br):Prop where
 s:yD N J ef h
 o:h[m]?=a_ (.cells fP bf)
 q:yI J.length N M fP h
 DO:J.length+3<=m
def yI.aEI{B:Nat}(q:yI B N M fP h):fP.all cu=bh:=by
 rw[eJ];intro c T;obtain⟨s,hs⟩:=Pq.1 T;obtain⟨l,Y,_⟩:=q.row s c hs
 rcases Y with⟨rfl,_⟩|⟨_,rfl,_⟩<;>rfl
def yC.mono{M':Nat}(z:yC N M J ef fP m h)(hM:M<=M'):yC N M' J ef fP m h:=⟨z.s,z.o,z.q.keep hM λ_ _ k=>k,z.DO⟩
def aev{h':List br}{n:Nat}{p v:bg}(e:bL h n p v=a_ h'):h'.length=h.length:=by
 unfold bL at e;split at e;split at e;unfold fD at e;split at e;cases e;simp;cases e;cases e;split at e;split at e;unfold fD at e;split at e;cases e;simp;cases e;cases e;cases e;cases e
def yC.push{s:Nat}{c:bg}(z:yC N M J ef fP m h)(T:fP[s]?=a_ c)(hM:M<=100000){p:Nat}(bl:p<N):∃cl g h',ei h 1 8 3 c (.sl [.v (.int .i64 (p:Int))] .exact)=a_ (cl,g)/\bL g 1 (.mp m s) cl=a_ h'/\yC N (M+1) J ef (fP.set s cl) m h'/\∀bs,h[J.length+2]?=a_ (.cells bs bh)->h'[J.length+2]?=a_ (.cells bs bh):=by
 obtain⟨cl,g,e1,e2,di,eW,nV,y2⟩:=z.q.push T z.s.x.len hM bl;have qB:=nV _ _ _ z.o;have n3:=gl qB;have q8:=gl T;have MK:=z.DO;have c1:=rO e2;have st:bL g 1 (.mp m s) cl=a_ (g.set m (.cells (fP.set s cl) bf)):=by
  simp only[bL,qB,fD,c1];rw[if_pos ⟨rfl,aa,by simp[e2]⟩,Om q8]
 refine⟨cl,g,_,e1,st,⟨⟨?_,?_,?_,?_⟩,bT n3,di.keep (cc _) λj c k=>by rw[bE (by rintro rfl;rw[qB] at k;cases k)];exact k,z.DO⟩,λbs k=>by rw[bE aa];exact nV _ _ _ k⟩;rw[bE aa];exact nV _ _ _ z.s.n;rw[bE aa];exact nV _ _ _ z.s.r;obtain⟨bs,q⟩:=z.s.m;exact⟨bs,by rw[bE aa];exact nV _ _ _ q.b,q.len,q.ok⟩;intro j b k;have hj:=gl k;rw[bE aa];refine y2 _ _ (z.s.x j b k) λxs e=>?_;obtain⟨l,Y,_⟩:=z.q.row s c T
 rcases Y with⟨Y,_⟩|⟨id,Y,hB,V⟩
 rw[Y] at e;cases e;rw[Y] at e;cases e;omega
section
variable{G:Cells}{N kt:Nat}{bx bv f e bC bA:bg}{b:Bool}{b5 xs ys:List bg}{t:nR}{J:List br}
def atk(O:J[kt]?=a_ (.cells [.sl b5 t,bC,bA] bf))(hs:∀c∈b5,yM N c)(js:b5.length<=1000){cA:Nat}(jU:cA<b5.length)
  (hN:N<=256) (Y:cD bx xs) (V:xs.length=N) (h3:∀x∈xs,FO x) (h4:cD bv (ys.map λy=>.agg [y])) (h5:ys.length=N) (h6:∀y∈ys,yK N y) (h7:yK N f):
  cw G bB 188 [.mp kt 0,.agg [bx,bv,f,e,.v (.bool b)],.v (.int .i64 (cA:Int))] J λr bl=>Ext J bl/\∃Z,r=.agg Z/\Z.length=32/\∀c∈Z,yM N c:=by
 refine aA2.go ?_;obtain⟨ef,Eu⟩:∃ef:List bg,ef=[bx,bv,f,e,.v (.bool b)]:=⟨_,rfl⟩;have amy:∀g,cG bx g=a_ (.v (.int .i64 (N:Int)),g):=λg=>by rw[Y.cG,j9,V]
 refine eN (λe' g=>e'=[(0,.mp kt 0),(2,.v (.int .i64 (cA:Int))),(4,.mp J.length 0),(6,.mp (J.length+1) 0)]/\g=J++[.cells ef bf]++[.cells (fB 32 .bp) bf]) ?_ ?_;refine iD @ek.{0} ?_;exact⟨trivial,rfl⟩;rintro e' g ⟨rfl,hg⟩;have gl:g.length=J.length+2:=by rw[hg];simp
 have gn:g[J.length]?=a_ (.cells ef bf):=by rw[hg];simp
 refine eN (λe' g=>e'=[(0,.mp kt 0),(2,.v (.int .i64 (cA:Int))),(4,.mp J.length 0),(6,.mp (J.length+1) 0),(7,.rs (J.length+2) N 1 0 N)]/\yD N J ef g/\g.length=J.length+3) ?_ ?_;have lo:bz g bf 1 (.mp J.length 0)=a_ bx:=by rw[Eu] at gn;exact(jP gn).1
 have m1:DI g 1 1 [.v (.bool bf)] (.v (.int .i64 (N:Int))) (.v (.int .i64 (N:Int)))=a_ (.rs (J.length+2) N 1 0 N,g++[.cells (fB N (.v (.bool bf))) bh]):=by
  unfold DI;dsimp only;rw[if_pos ⟨aa,aa,aa,aa,rfl,ag⟩,gl];simp
 refine jB @lo @amy @m1 ?_;refine⟨trivial,⟨bS gn,bS (by rw[hg];simp),⟨fB N (.v (.bool bf)),by rw[<-gl];simp,af,λc T=>⟨bf,(ary.1 T).2⟩⟩,?_⟩,by simp[gl]⟩;rw[hg];exact(mg.qU).qU;rintro e' g1 ⟨rfl,s1,ahx⟩;refine eN (λe' g=>e'=[(0,.mp kt 0),(2,.v (.int .i64 (cA:Int))),(4,.mp J.length 0),(6,.mp (J.length+1) 0),(7,.rs (J.length+2) N 1 0 N)]/\yD N J ef g/\g.length=J.length+3) ?_ ?_;refine wy ?_;obtain⟨fl,f1,f2⟩:=h7;have v_:=f2.len;have Q0:=(zI f1)
 rcases Dp cA with hz|hz
 have b9:((cA:Int)==0)=bh:=aNS
 refine c8 (λi e' g=>e'=[(0,.mp kt 0),(2,.v (.int .i64 (cA:Int))),(4,.mp J.length 0),(6,.mp (J.length+1) 0),(7,.rs (J.length+2) N 1 0 N),(8,bq i)]/\yD N J ef g/\g.length=J.length+3) fl.length ⟨rfl,s1,ahx⟩ ?_ ?_;rintro i e' g Q ⟨rfl,s,gl⟩;obtain⟨x,I⟩:=cO Q;obtain⟨x0,x1⟩:=f2.2 x (cv I);obtain⟨p,rfl⟩:=pJ x0;have cj:bz g bf 1 (.mp J.length 2)=a_ f:=aMQ
 have GW:p<N:=aa
 obtain⟨g',t1,t2⟩:=s.st GW;have Cg:g'.length=J.length+3:=by rw[<-gl];exact aev t1
 simp -failIfUnchanged -implicitDefEqProofs (disch:=first|assumption|decide|omega) only[jO,oM,oN,↓reduceIte,w6,vB,w7,w8,rE,BS,BT,bq,b9,mP,cj,Q0.len,Q0.cB I,xJ,Jc GW,t1];exact⟨trivial,t2,Cg⟩;rintro e' g ⟨rfl,s,gl⟩;have cj:bz g bf 1 (.mp J.length 2)=a_ f:=aMQ
 refine fu @bq.eq_1 @b9 @cj ?_;exact⟨trivial,s,gl⟩;have b9:((cA:Int)==0)=bf:=ah
 refine c8 (λi e' g=>e'=[(0,.mp kt 0),(2,.v (.int .i64 (cA:Int))),(4,.mp J.length 0),(6,.mp (J.length+1) 0),(7,.rs (J.length+2) N 1 0 N),(8,bq i)]/\yD N J ef g/\g.length=J.length+3) 0 ⟨rfl,s1,ahx⟩ ?_ ?_;rintro i e' g Q;omega;rintro e' g ⟨rfl,s,gl⟩;refine gf @bq.eq_1 @b9 ?_;exact⟨trivial,s,gl⟩;rintro e' g2 ⟨rfl,s2,Mv⟩;obtain⟨c0,Ec⟩:=cO jU;have Ed:=hs c0 (cv Ec);have azk:=abh (t:=t) Ec Ed.one;obtain⟨cH,aJW,aJZ,lP⟩:=Ed;refine eN (λe' g=>e'=[(4,.mp J.length 0),(6,.mp (J.length+1) 0),(7,.rs (J.length+2) N 1 0 N)]/\yD N J ef g/\g.length=J.length+3) ?_ ?_;refine wy ?_;refine c8 (λi e' g=>e'=[(0,.mp kt 0),(2,.v (.int .i64 (cA:Int))),(4,.mp J.length 0),(6,.mp (J.length+1) 0),(7,.rs (J.length+2) N 1 0 N),(9,bq i)]/\yD N J ef g/\g.length=J.length+3) cH.length ⟨rfl,s2,Mv⟩ ?_ ?_;rintro i e' g Q ⟨rfl,s,gl⟩;obtain⟨x,I⟩:=cO Q;obtain⟨x0,x1⟩:=lP x (cv I);obtain⟨p,rfl⟩:=pJ x0;have lk:=s.x _ _ O;have cj:bz g bf 1 (.mp J.length 1)=a_ bv:=by have:=s.n;rw[Eu] at this;exact(jP this).2.1
 obtain⟨y,hy⟩:∃y,ys[p]?=a_ y:=⟨ys[p]' aa,cy _⟩;have n6:ct 1 bv (.v (.int .i64 (p:Int)))=a_ (.fp [y] 0):=h4.cB (x:=.agg [y]) aT rfl;obtain⟨acj,y1,fR⟩:=h6 y (cv hy);have aqS:=(zI y1);have aK5:=fR.len;refine oa ?_;refine c8 (λj e' g=>e'=[(0,.mp kt 0),(2,.v (.int .i64 (cA:Int))),(4,.mp J.length 0),(6,.mp (J.length+1) 0),(7,.rs (J.length+2) N 1 0 N),(9,bq i),(10,y),(11,bq j)]/\yD N J ef g/\g.length=J.length+3) acj.length ⟨rfl,s,gl⟩ ?_ ?_;rintro j e' g hj ⟨rfl,s,gl⟩;obtain⟨x',hx'⟩:∃x,acj[j]?=a_ x:=⟨acj[j],cy hj⟩;obtain⟨aI_,Uo⟩:=fR.2 x' (cv hx');obtain⟨p',rfl⟩:=pJ aI_;have GW:p'<N:=aa
 obtain⟨g',t1,t2⟩:=s.st GW;have Cg:g'.length=J.length+3:=by rw[<-gl];exact aev t1
 simp -failIfUnchanged -implicitDefEqProofs (disch:=first|assumption|decide|omega) only[jO,oM,oN,↓reduceIte,w6,vB,w7,w8,rE,BS,BT,bq,aqS.len,aqS.cB hx',xJ,Jc GW,t1];exact⟨trivial,t2,Cg⟩;rintro e' g ⟨rfl,s,gl⟩;refine dJ @bq.eq_1 ?_;exact⟨trivial,s,gl⟩;rintro e' g ⟨rfl,s,gl⟩;have lk:=s.x _ _ O;refine gf @bq.eq_1 @azk ?_;exact⟨trivial,s,gl⟩;rintro e' g3 ⟨rfl,eA,Xb⟩;refine eN (λe' g=>e'=[(4,.mp J.length 0),(6,.mp (J.length+1) 0),(7,.rs (J.length+2) N 1 0 N),(12,.mp (J.length+3) 0)]/\∃fP,yC N 0 J ef fP (J.length+3) g) ?_ ?_;have aJf:(fB 32 bg.bp).all cu=bh:=rfl;have iX:=tR (n:=32) (g:=g3++[.cells (fB 32 .bp) bf]) (k:=g3.length) (Z:=fB 32 .bp) (cs0:=fB 32 .bp) af rfl rfl aJf;have e1:(g3++[bw (fB 32 .bp) bf]).set g3.length (.cells (fB 32 .bp) bf)=g3++[.cells (fB 32 .bp) bf]:=af
 have f1:dN (fB 32 bg.bp) []=a_ (fB 32 .bp):=rfl;rw[e1,Xb] at iX;simp only[fB] at iX f1;refine gf @Xb @iX ?_;refine⟨trivial,fB 32 .bp,⟨bS eA.n,bS eA.r,?_,eA.x.qU⟩,?_,⟨rfl,λs c T=>?_,λs s' id xs xs' k1 _=>?_⟩,cc _⟩;obtain⟨bs,q⟩:=eA.m;exact⟨bs,bS q.b,q.len,q.ok⟩;rw[<-Xb];exact UG;have:=(ary.1 (cv T)).2;subst this;exact⟨[],bD ⟨rfl,rfl⟩,gW _,af⟩;have:=(ary.1 (cv k1)).2;cases this;rintro e' g4 ⟨rfl,aEU,z4⟩;refine eN (λe' g=>e'=[(6,.mp (J.length+1) 0),(12,.mp (J.length+3) 0)]/\∃fP,yC N 70000 J ef fP (J.length+3) g) ?_ ?_;refine wy ?_;have aDm:∀g,cG (.rs (J.length+2) N 1 0 N) g=a_ (.v (.int .i64 (N:Int)),g):=λg=>rfl;refine c8 (λi e' g=>e'=[(4,.mp J.length 0),(6,.mp (J.length+1) 0),(7,.rs (J.length+2) N 1 0 N),(12,.mp (J.length+3) 0),(13,bq i)]/\∃fP,yC N (i*256) J ef fP (J.length+3) g) N ⟨rfl,aEU,by rw[Nat.zero_mul];exact z4⟩ ?_ ?_;rintro i e' g Q ⟨rfl,fP,z⟩;obtain⟨x,I⟩:∃x,xs[i]?=a_ x:=⟨xs[i]' aa,cy _⟩;have r4:=h3 x (cv I);have ix:ct 1 bx (.v (.int .i64 (i:Int)))=a_ (.fp [x] 0):=by
  have:=Y.cB (n:=1) (k:=.i64) (x:=x) I (by rw[rO r4.one];rfl);rw[rO r4.one] at this;exact this
 obtain⟨aJd,x1,x2,x3⟩:=r4;have ach:=(zI x1);obtain⟨bs,v_⟩:=z.s.m;obtain⟨fb,_,CC⟩:=v_.fT Q;have w1:cN.wrap ((i:Int)+1)=((i+1:Nat):Int):=jZ aa;refine rF ?_;refine c8 (λj e' g=>e'=[(4,.mp J.length 0),(6,.mp (J.length+1) 0),(7,.rs (J.length+2) N 1 0 N),(12,.mp (J.length+3) 0),(13,bq i),(14,bq j)]/\bz g bf 1 (.rp (J.length+2) N i)=a_ (.v (.bool fb))/\∃fP,yC N (i*256+j) J ef fP (J.length+3) g) (if fb then aJd.length else 0) ⟨rfl,CC,fP,z.mono aa⟩ ?_ ?_;rintro j e' g hj ⟨rfl,CC,fP,z⟩;cases fb with
 |false=>simp at hj
 |true=>
  simp only[if_true] at hj;obtain⟨y,hy⟩:=cO hj;obtain⟨y0,y1⟩:=x3 y (cv hy);obtain⟨s,rfl⟩:=pJ y0;have lo:bz g bf 1 (.mp J.length 0)=a_ bx:=aMW
  simp -failIfUnchanged -implicitDefEqProofs (disch:=first|assumption|decide|omega) only[jO,oM,oN,↓reduceIte,w6,vB,w7,w8,rE,BS,BT,bq,Jc Q,CC,mP,lo,ix,xJ,ach.len,ach.cB hy];refine dn (λq=>?_) λq=>?_;have aKX:s<32:=aq
  have yQ:nu 32 1 (.mp (J.length+3) 0) (.v (.int .i64 (s:Int)))=a_ (.mp (J.length+3) s):=by
   unfold nu;dsimp only;rw[if_pos ⟨aa,aa⟩];simp[mP]
  have RZ:=z.q.len;obtain⟨c,T⟩:∃c,fP[s]?=a_ c:=⟨fP[s]' aa,cy _⟩;have lc:bz g bf 1 (.mp (J.length+3) s)=a_ c:=by
   simp only[bz,z.o,fh];rw[if_neg af];exact T
  obtain⟨cl,g',uV,t1,t2,t3,t4⟩:=z.push T aa Q;have aC_:bz uV bf 1 (.rp (J.length+2) N i)=a_ (.v (.bool bh)):=by
   obtain⟨bs,q1⟩:=z.s.m;have bt:=t4 bs q1.b;simp only[bz,q1.b] at CC;simp only[bz,bt];exact CC
  refine nI @q @yQ @lc @t1 @t2 ?_;exact⟨rfl,aC_,_,t3.mono aa⟩;exact⟨rfl,CC,fP,z.mono aa⟩
 rintro e' g ⟨rfl,CC,fP,z⟩;have lo:bz g bf 1 (.mp J.length 0)=a_ bx:=aMW
 have wT:yC N ((i+1)*256) J ef fP (J.length+3) g:=z.mono (by split<;>omega);cases fb with
 |false=>
  simp -failIfUnchanged -implicitDefEqProofs (disch:=first|assumption|decide|omega) only[jO,oM,oN,↓reduceIte,w6,vB,w7,w8,rE,BS,BT,bq,Jc Q,CC,w1];exact⟨trivial,fP,wT⟩
 |true=>
  simp only[if_true];simp -failIfUnchanged -implicitDefEqProofs (disch:=first|assumption|decide|omega) only[jO,oM,oN,↓reduceIte,w6,vB,w7,w8,rE,BS,BT,bq,Jc Q,CC,mP,lo,ix,xJ,ach.len,w1];exact⟨trivial,fP,wT⟩
 rintro e' g ⟨rfl,fP,z⟩;refine gf @bq.eq_1 @aDm ?_;exact⟨trivial,fP,z.mono aa⟩;rintro e' g5 ⟨rfl,fP,z5⟩;have rl:=tR (n:=32) z5.s.r af z5.q.len z5.q.aEI;have rk:(g5.set (J.length+1) (.cells fP bf))[J.length+1]?=a_ (.cells fP bf):=bT (cK.1 z5.s.r).1;refine mI (yY z5.o z5.q.len) (yY rk z5.q.len) ?_;refine⟨λj b k=>?_,fP,rfl,z5.q.len,λc T=>?_⟩;have:=(cK.1 k).1;rw[bE aa];exact z5.s.x j b k;obtain⟨s,hs⟩:=Pq.1 T;exact z5.q.set hs aa
end
end
section
variable{B N m n:Nat}{v:bg}{xs:List bg}{e:TypeId}{g:List br}
structure kP(N:Nat)(ef b5 fm rows:List bg)(sv bC bA:bg)(h:List br):Prop where
 n:h[0]?=a_ (.cells ef bf)
 r:h[1]?=a_ (.cells [.bp,.bp,.bp] bf)
 t:h[2]?=a_ (.cells [sv,bC,bA] bf)
 s:mN 0 h sv b5 1 200
 a:mN 0 h bA fm 1 4
 w:de h bC rows 32 259
 sk:∀c∈b5,yM N c
 B3:∀c∈fm,∃b:Bool,c=.v (.bool b)
 rk:∀c∈rows,∃l:List Int,c=.agg (l.map bq)/\l.length=32
section
variable{N:Nat}{ef b5 fm rows:List bg}{sv bC bA:bg}{h h':List br}
def mN.ext(q:mN B h v xs n e)(S:∀(j:Nat) c,h[j]?=a_ (.tok c n e)->h'[j]?=a_ (.tok c n e)):mN B h' v xs n e:=by
 rcases q with q|⟨id,q1,bt,bV⟩
 exact bD q;exact bF ⟨id,q1,bt,S _ _ bV⟩
def mN.sl{B:Nat}{v:bg}{xs:List bg}{n:Nat}{e:TypeId}(q:mN B h v xs n e):∃t,v=.sl xs t:=by
 rcases q with q|⟨id,q1,_⟩
 exact⟨_,q⟩;exact⟨_,q1⟩
def mN.one(q:mN B h v xs n e):cu v=bh:=by
 obtain⟨t,rfl⟩:=q.sl;rfl
def kP.ext(z:kP N ef b5 fm rows sv bC bA h)(S:∀(j:Nat) b,h[j]?=a_ b->(∀Z,b≠.cells Z bf\/j<=2)->h'[j]?=a_ b):kP N ef b5 fm rows sv bC bA h':=by
 refine⟨S _ _ z.n λ_=>bF ag,S _ _ z.r λ_=>bF ag,S _ _ z.t λ_=>bF ag,z.s.ext λj c q=>S _ _ q λ_=>bD af,z.a.ext λj c q=>S _ _ q λ_=>bD af,?_,z.sk,z.B3,z.rk⟩
 rcases z.w with q|⟨id,q1,bt⟩
 exact bD q;exact bF ⟨id,q1,S _ _ bt λ_=>bD af⟩
def kP.app{x:List br}(z:kP N ef b5 fm rows sv bC bA h):kP N ef b5 fm rows sv bC bA (h++x):=z.ext λj b q _=>bS q
def kP.set(z:kP N ef b5 fm rows sv bC bA h)(hm:3<=m){Z cs':List bg}(S:h[m]?=a_ (.cells Z bf)):kP N ef b5 fm rows sv bC bA (h.set m (.cells cs' bf)):=z.ext λj b q O=>by
 rw[bE];exact q;rintro rfl;rw[S] at q;cases q
 rcases O Z with k|k
 exact k rfl;omega
def Vc(h h':List br):Prop:=h.length<=h'.length/\∀(j:Nat) Z,j≠2->h[j]?=a_ (.cells Z bf)->h'[j]?=a_ (.cells Z bf)
def kP.push(z:kP N ef b5 fm rows sv bC bA h){c:bg}(T:yM N c)(hl:b5.length<=1000):∃kK g g',ei h 1 24 200 sv (.sl [c] .exact)=a_ (kK,g)/\bL g 1 (.mp 2 0) kK=a_ g'/\kP N ef (b5++[c]) fm rows kK bC bA g'/\Vc h g':=by
 obtain⟨v,g,e1,e2,_,hA,O,q⟩:=ag8 (x:=c) (bW:=24) (o:=0) z.s (gW _) z.t af (Bw λx I=>(z.sk x I).one) (Bw λx I=>by rw[dW.1 I];exact T.one) ag ag aa;exact⟨v,g,_,e1,e2,⟨q.cells z.n ag,q.cells z.r ag,O,hA,q.own z.t z.a ag,q.DK z.t z.w ag,λx I=>(fA.1 I).elim (z.sk x) λq=>by rw[dW.1 q];exact T,z.B3,z.rk⟩,q.1,λj c hj O=>q.cells O hj⟩
def kP.aFc(z:kP N ef b5 fm rows sv bC bA h)(b:Bool)(hl:fm.length<=1000):∃LQ g g',ei h 1 1 4 bA (.sl [.v (.bool b)] .exact)=a_ (LQ,g)/\bL g 1 (.mp 2 2) LQ=a_ g'/\kP N ef b5 (fm++[.v (.bool b)]) rows sv bC LQ g'/\Vc h g':=by
 obtain⟨v,g,e1,e2,_,hA,O,q⟩:=ag8 (x:=.v (.bool b)) (bW:=1) (o:=2) z.a (gW _) z.t af (Bw λx I=>by obtain⟨b,rfl⟩:=z.B3 x I;rfl) rfl ag ag aa;exact⟨v,g,_,e1,e2,⟨q.cells z.n ag,q.cells z.r ag,O,q.own z.t z.s ag,hA,q.DK z.t z.w ag,z.sk,λx I=>(fA.1 I).elim (z.B3 x) λq=>⟨b,dW.1 q⟩,z.rk⟩,q.1,λj c hj O=>q.cells O hj⟩
@[go_sem]def S1(l:List Int)(hl:l.length=32):cY 32 [dG (l.map bq)]=bh:=by
 have:(l.map bq).all cu=bh:=by
  rw[eJ];intro x I;obtain⟨n,_,rfl⟩:=dV.1 I;rfl
 simp only[cY,pK,tC,jD,this,cS,hl];rfl
def kP.E5(z:kP N ef b5 fm rows sv bC bA h){l:List Int}(Bf:l.length=32)(hl:rows.length<=1000):∃kJ g g',ei h 32 256 259 bC (.sl [.agg (l.map bq)] .exact)=a_ (kJ,g)/\bL g 1 (.mp 2 1) kJ=a_ g'/\kP N ef b5 fm (rows++[.agg (l.map bq)]) sv kJ bA g'/\Vc h g':=by
 have gd:cY 32 rows=bh:=by
  rw[cY,eJ];intro x I;obtain⟨l,rfl,hl⟩:=z.rk x I;have:=S1 l hl;simpa[cY] using this
 obtain⟨v,g,e1,e2,_,hA,O,q⟩:=Mn (x:=.agg (l.map bq)) (bW:=256) (o:=1) z.w z.t af gd (S1 l Bf) ag ag aa;exact⟨v,g,_,e1,e2,⟨q.cells z.n ag,q.cells z.r ag,O,q.own z.t z.s ag,q.own z.t z.a ag,hA,z.sk,z.B3,λx I=>(fA.1 I).elim (z.rk x) λq=>⟨l,dW.1 q,Bf⟩⟩,q.1,λj c hj O=>q.cells O hj⟩
end
def adJ(r:bg):Prop:=∃(a b c:bg) (t:Bool),r=.bQ [.agg [a,b,c],.v (.bool t)]/\cu a=bh/\cu b=bh/\cu c=bh
def apa(J:List br):∀{Z:List bg},(∀c∈Z,yM N c)->∃ys,fC J Z ys
 |[],_=>⟨[],c_⟩
 |c::r,h=>by
  obtain⟨l,Y,_⟩:=h c af;obtain⟨v',q1,_⟩:=Y.fz J;obtain⟨ys,k1⟩:=apa J (Z:=r) λx I=>h x aA;exact⟨v'::ys,bG q1 k1⟩
def aHZ{ef b5 fm rows:List bg}{sv bC bA:bg}{h:List br}(z:kP N ef b5 fm rows sv bC bA h)(b:Bool):∃n bR,dh g n (.bQ [.agg [sv,bC,bA],.v (.bool b)])=a_ bR/\adJ bR:=by
 obtain⟨t1,rfl⟩:=z.s.sl;obtain⟨t2,rfl⟩:=z.a.sl;obtain⟨ys,hy⟩:=apa g z.sk;have ha:fC g fm fm:=fC.each λa ha=>by obtain⟨b,rfl⟩:=z.B3 a ha;exact bH _
 obtain⟨kJ,hn,Y⟩:∃kJ,b_ g bC kJ/\cu kJ=bh:=by
  rcases z.w with⟨rfl,_⟩|⟨id,rfl,_⟩
  exact⟨.bp,eB,rfl⟩;have D:fC g rows rows:=fC.each λa ha=>by
   obtain⟨l,rfl,_⟩:=z.rk a ha;exact j0 (iE λa _=>bH _)
  exact⟨_,hD D,rfl⟩
 obtain⟨n,hn⟩:=(fy (bG (j0 (bG (hD (t:=t1) hy) (bG hn (bG (hD (t:=t2) ha) c_)))) (bG (bH (.bool b)) c_)):b_ g _ _).done;exact⟨n,_,hn,_,_,_,b,rfl,rfl,Y,rfl⟩
@[go_sem]def Vt{s:Nat}(hs:s<32):nu 32 1 (.mp m 0) (.v (.int .i64 (s:Int)))=a_ (.mp m s):=by
 unfold nu;dsimp only;rw[if_pos ⟨aa,aa⟩];simp[mP]
section
variable{G:Cells}
def aEj{x:bg}(I:Lq x):dM G bB 112 [x] adJ:=by
 have G7:=I.clean;obtain⟨N,bx,bv,f,e,b,xs,ys,rfl,hN,Y,V,h3,h4,h5,h6,h7,h8⟩:=I;refine en (aAC.go ?_);have jF:(dG [bx,bv,f,e,.v (.bool b)]).cells=[bx,bv,f,e,.v (.bool b)]:=rfl;refine eN (λe' g=>e'=[(1,.mp 0 0),(2,.mp 1 0)]/\g=[.cells [bx,bv,f,e,.v (.bool b)] bf,.cells [.bp,.bp,.bp] bf]) ?_ ?_;exact dJ @jF tt;rintro e' g ⟨rfl,hg⟩;have gl:g.length=2:=by rw[hg];rfl
 refine eN (λe' g=>e'=[(1,.mp 0 0),(2,.mp 1 0),(4,.mp 2 0)]/\∃b5 fm rows sv bC bA,kP N [bx,bv,f,e,.v (.bool b)] b5 fm rows sv bC bA g/\b5.length=1/\fm.length=1/\rows.length=0) ?_ ?_;have iX:=tR (n:=3) (g:=g++[.cells [.bp,.bp,.bp] bf]) (k:=g.length) (Z:=[.sl [.bp] .exact,.bp,.sl [.v (.bool b)] .exact]) (cs0:=[.bp,.bp,.bp]) af rfl rfl rfl;have e1:(g++[bw [.bp,.bp,.bp] bf]).set g.length (.cells [.sl [.bp] .exact,.bp,.sl [.v (.bool b)] .exact] bf)=g++[.cells [.sl [.bp] .exact,.bp,.sl [.v (.bool b)] .exact] bf]:=af
 rw[e1,gl] at iX;refine fu (IQ (w:=.bp) rfl) @gl @iX ?_;refine⟨trivial,[.bp],[.v (.bool b)],[],_,_,_,⟨?_,?_,?_,bD rfl,bD rfl,bD ⟨rfl,rfl⟩,?_,?_,af⟩,rfl,rfl,rfl⟩;rw[hg];rfl;rw[hg];rfl;rw[hg];rfl;intro c T;rw[dW.1 T];exact⟨[],bD ⟨rfl,rfl⟩,af,af⟩;intro c T;rw[dW.1 T];exact⟨b,rfl⟩;rintro e' g1 ⟨rfl,b5,fm,rows,sv,bC,bA,b9,qx,aKv,Bk⟩;refine iO (λe' g=>e'=[(2,.mp 1 0),(4,.mp 2 0)]/\∃b5 fm rows sv bC bA,kP N [bx,bv,f,e,.v (.bool b)] b5 fm rows sv bC bA g) ?_ ?_;refine wy ?_;refine qe (n:=300) (λk e' g=>∃(i:Nat) (b5 fm rows:List bg) (sv bC bA:bg),k=300-i/\e'=[(1,.mp 0 0),(2,.mp 1 0),(4,.mp 2 0),(5,bq i)]/\kP N [bx,bv,f,e,.v (.bool b)] b5 fm rows sv bC bA g/\i<=b5.length/\1<=b5.length/\b5.length<=200/\fm.length=b5.length/\rows.length=i) ⟨0,b5,fm,rows,sv,bC,bA,rfl,rfl,b9,aa,aa,aa,aa,aa⟩ ?_;rintro k e' g ⟨i,b5,fm,rows,sv,bC,bA,rfl,rfl,z,X1,hi2,axR,p4,nD⟩;obtain⟨t0,xT⟩:=z.s.sl;have ku:cG sv=λg=>a_ (.v (.int .i64 (b5.length:Int)),g):=by funext g;rw[xT,pq,j9]
 have NN:∀g,cG sv g=a_ (.v (.int .i64 (b5.length:Int)),g):=λg=>by rw[ku]
 obtain⟨l0,l1,l2,l3⟩:=Hz z.t
 rcases er i b5.length with cX|hge
 have d1:decide ((i:Int)<(b5.length:Int))=bh:=ah
 refine iO (λe' g'=>e'=[(1,.mp 0 0),(2,.mp 1 0),(4,.mp 2 0),(5,bq i)]/\g'=g) ?_ ?_;exact oO @bq.eq_1 @l0 @NN @d1 tt;rintro e' g' ⟨rfl,rfl⟩;refine iO (λe' g=>e'=[(1,.mp 0 0),(2,.mp 1 0),(4,.mp 2 0),(5,bq i)]/\∃(b5 fm rows:List bg) (sv bC bA:bg),kP N [bx,bv,f,e,.v (.bool b)] b5 fm rows sv bC bA g/\i+1<=b5.length/\b5.length<=200/\fm.length=b5.length/\rows.length=i+1) ?_ ?_;rw[C9];have z0:(fB 32 (bq 0)).all cu=bh:=rfl;have kS:3<=g'.length:=by have:=(cK.1 z.t).1;omega
 refine iO (λe' g=>e'=[(1,.mp 0 0),(2,.mp 1 0),(4,.mp 2 0),(5,bq i),(6,.mp g'.length 0)]/\g=g'++[.cells (fB 32 (bq 0)) bf]) ?_ ?_;have iX:=tR (n:=32) (g:=g'++[.cells (fB 32 (bq 0)) bf]) (k:=g'.length) (Z:=fB 32 (bq 0)) (cs0:=fB 32 (bq 0)) af rfl rfl z0;have e1:(g'++[bw (fB 32 (bq 0)) bf]).set g'.length (.cells (fB 32 (bq 0)) bf)=g'++[.cells (fB 32 (bq 0)) bf]:=af
 have f1:dN (fB 32 (bq 0)) []=a_ (fB 32 (bq 0)):=rfl;rw[e1] at iX;simp only[fB,bq] at iX f1;exact wx vp;rintro e' g2 ⟨rfl,kH⟩;have z2:kP N [bx,bv,f,e,.v (.bool b)] b5 fm rows sv bC bA g2:=by rw[kH];exact z.app
 have r2:g2[g'.length]?=a_ (.cells ((fB 32 (0:Int)).map bq) bf):=by rw[kH];simp
 generalize g'.length=m6 at r2 kS⊢;refine iO (λe' g=>∃m7 fP,e'=[(1,.mp 0 0),(2,.mp 1 0),(4,.mp 2 0),(5,bq i),(6,.mp m6 0),(7,.mp m7 0)]/\kP N [bx,bv,f,e,.v (.bool b)] b5 fm rows sv bC bA g/\g[m6]?=a_ (.cells ((fB 32 (0:Int)).map bq) bf)/\g[m7]?=a_ (.cells fP bf)/\fP.length=32/\(∀c∈fP,yM N c)/\3<=m7/\m7≠m6) ?_ ?_;have la:=(jP z2.n).2.2.2.2.2;have zt:=z2.t;rw[xT] at zt;refine gf @bq.eq_1 @la (cm (atk zt z2.sk aa cX hN Y V h3 h4 h5 h6 h7) ?_);rintro _ g3 ⟨hE,Z,rfl,Ed,RB⟩;have ayw:Z.all cu=bh:=eJ.2 λc T=>(RB c T).one;have z3:kP N [bx,bv,f,e,.v (.bool b)] b5 fm rows sv bC bA g3:=z2.ext λj b q _=>hE j b q;have Es:=(cK.1 (hE _ _ r2)).1;have iX:=tR (n:=32) (g:=g3++[.cells (fB 32 .bp) bf]) (k:=g3.length) (Z:=Z) (cs0:=fB 32 .bp) af rfl Ed ayw;have e1:(g3++[bw (fB 32 .bp) bf]).set g3.length (.cells Z bf)=g3++[.cells Z bf]:=af
 rw[e1] at iX;simp only[fB] at iX;refine dJ @iX ?_;exact⟨_,Z,rfl,z3.app,bS (hE _ _ r2),af,Ed,RB,aa,aa⟩;rintro e' g3 ⟨m7,fP,rfl,z3,jn,jW,ol,os,Ye,aKP⟩;refine iO (λe' g=>e'=[(1,.mp 0 0),(2,.mp 1 0),(4,.mp 2 0),(5,bq i),(6,.mp m6 0)]/\∃(b5 fm:List bg) (sv bA:bg) (l:List Int),kP N [bx,bv,f,e,.v (.bool b)] b5 fm rows sv bC bA g/\g[m6]?=a_ (.cells (l.map bq) bf)/\l.length=32/\i<b5.length/\b5.length<=232/\fm.length=b5.length) ?_ ?_;refine wy ?_;refine c8 (λs e' g=>e'=[(1,.mp 0 0),(2,.mp 1 0),(4,.mp 2 0),(5,bq i),(6,.mp m6 0),(7,.mp m7 0),(8,bq s)]/\∃(b5 fm:List bg) (sv bA:bg) (l:List Int),kP N [bx,bv,f,e,.v (.bool b)] b5 fm rows sv bC bA g/\g[m6]?=a_ (.cells (l.map bq) bf)/\l.length=32/\g[m7]?=a_ (.cells fP bf)/\i<b5.length/\b5.length<=200+s/\fm.length=b5.length) 32 ⟨rfl,b5,fm,sv,bA,_,z3,jn,af,jW,cX,aa,p4⟩ ?_ ?_;rintro s e' g hs ⟨rfl,b5,fm,sv,bA,l,z,r,Bf,o,hl1,js,p4⟩;obtain⟨t0,xT⟩:=z.s.sl;have NN:∀g,cG sv g=a_ (.v (.int .i64 (b5.length:Int)),g):=λg=>by rw[xT,pq,j9]
 obtain⟨c,T⟩:∃c,fP[s]?=a_ c:=⟨fP[s]' aa,cy _⟩;have jb:=os c (cv T);have lc:bz g bf 1 (.mp m7 s)=a_ c:=by
  simp only[bz,o,fh];rw[if_neg af];exact T
 have asi:=Vt (m:=m7) hs;have ash:=Vt (m:=m6) hs;have d2:decide ((s:Int)<32)=bh:=ah
 refine iO (λe' h=>e'=[(1,.mp 0 0),(2,.mp 1 0),(4,.mp 2 0),(5,bq i),(6,.mp m6 0),(7,.mp m7 0),(8,bq s)]/\h=g) ?_ ?_;exact gf @bq.eq_1 @d2 tt;rintro e' g' ⟨rfl,rfl⟩;refine iO (λe' g=>e'=[(1,.mp 0 0),(2,.mp 1 0),(4,.mp 2 0),(5,bq i),(6,.mp m6 0),(7,.mp m7 0),(8,bq s)]/\∃(b5 fm:List bg) (sv bA:bg) (l:List Int),kP N [bx,bv,f,e,.v (.bool b)] b5 fm rows sv bC bA g/\g[m6]?=a_ (.cells (l.map bq) bf)/\l.length=32/\g[m7]?=a_ (.cells fP bf)/\i<b5.length/\b5.length<=200+(s+1)/\fm.length=b5.length) ?_ ?_;rw[C9];refine iO (λe' h=>e'=[(1,.mp 0 0),(2,.mp 1 0),(4,.mp 2 0),(5,bq i),(6,.mp m6 0),(7,.mp m7 0),(8,bq s),(9,c)]/\h=g') ?_ ?_;exact fu @bq.eq_1 @asi @lc tt;rintro e' uV ⟨rfl,rfl⟩;refine iO (λe' h=>e'=[(1,.mp 0 0),(2,.mp 1 0),(4,.mp 2 0),(5,bq i),(6,.mp m6 0),(7,.mp m7 0),(8,bq s),(9,c),(10,.v (.int .i64 (-1)))]/\h=uV) ?_ ?_;exact wx tt;rintro e' g' ⟨rfl,rfl⟩;refine iO (λe' g=>∃to:Int,e'=[(1,.mp 0 0),(2,.mp 1 0),(4,.mp 2 0),(5,bq i),(6,.mp m6 0),(7,.mp m7 0),(8,bq s),(10,bq to)]/\∃(b5 fm:List bg) (sv bA:bg),kP N [bx,bv,f,e,.v (.bool b)] b5 fm rows sv bC bA g/\g[m6]?=a_ (.cells (l.map bq) bf)/\g[m7]?=a_ (.cells fP bf)/\i<b5.length/\b5.length<=200+(s+1)/\fm.length=b5.length) ?_ ?_;obtain⟨cH,c1,c2,c3⟩:=jb
 rcases Dp cH.length with hz|hz
 have d3:decide ((cH.length:Int)>0)=bf:=decide_eq_false aa;have auJ:decide ((0:Int)<(cH.length:Int))=bf:=decide_eq_false aa;refine fu @c1.len @d3 @auJ ?_;exact⟨-1,rfl,b5,fm,sv,bA,z,r,o,hl1,aa,p4⟩;have d3:decide ((cH.length:Int)>0)=bh:=decide_eq_true aa;have zt:=z.t;rw[xT] at zt;refine wx (cm (avq zt z.sk aa aa (os c (cv T))) ?_);rintro _ g3 ⟨rfl,n,rfl,p8,RU⟩;refine wy (cM (λq=>?_) λq=>?_);obtain⟨l0,l1,l2,l3⟩:=Hz z.t;obtain⟨kK,g4,g5,e1,e2,z5,wz⟩:=z.push (os c (cv T)) aa;refine vr @q @l0 @NN (IQ (os c (cv T)).one) @e1 @e2 ?_;obtain⟨m0,m1,m2,m3⟩:=Hz z5.t;obtain⟨n0,n1,n2,ld,n4,_⟩:=jP z5.n;obtain⟨c',ci,Z⟩:=c1.imp;obtain⟨el,di,eW⟩:=h8;have uc:=eW.len;refine pH @mP @m2 @ld @qF.eq_1 @r9.eq_1 @true_and @and_true (jE (aIq Z di (Gc Z) (Gc di) aa aa 1) (bY ci (bY (Gc di) (bY (dD _) dw))) ?_);rintro r1 ⟨rl,q1,bt,bV⟩;obtain⟨LQ,g6,g7,a1,a2,Dd,s7⟩:=z5.aFc (decide ((rl.length:Int)>0)) aa;have asf:ei g5 1 1 4 bA (.sl [.v (.bool (decide ((0:Int)<(rl.length:Int))))] .exact)=a_ (LQ,g6):=a1;refine pH @m2 @ld ((zI q1).len) @a1 @asf @a2 @ru ?_;exact⟨_,rfl,_,_,_,_,Dd,s7.2 _ _ aa (wz.2 _ _ aa r),s7.2 _ _ aa (wz.2 _ _ aa o),ah,ah,by simp[p4]⟩;refine dJ @q ?_;exact⟨n,rfl,b5,fm,sv,bA,z,r,o,hl1,aa,p4⟩;rintro e' g3 ⟨to,rfl,b5,fm,sv,bA,z,r,o,hl1,js,p4⟩;have ayh:=(cK.1 r).1;have iX:bL g3 1 (.mp m6 s) (.v (.int .i64 to))=a_ (g3.set m6 (.cells ((l.set s to).map bq) bf)):=by
  have eW:(cR (.int .i64 to)).cells=[.v (.int .i64 to)]:=rfl;simp only[bL,r,fD,eW];rw[if_pos ⟨rfl,ah,rfl⟩,Om ah,yA];rfl
 refine fu @bq.eq_1 @ash @iX ?_;exact⟨trivial,b5,fm,sv,bA,_,z.set aa r,bT ayh,by simpa using Bf,by rw[bE aa];exact o,hl1,js,p4⟩;rintro e' g4 ⟨rfl,q⟩;refine dJ @bq.eq_1 ?_;exact⟨trivial,q⟩;rintro e' g ⟨rfl,b5,fm,sv,bA,l,z,r,Bf,o,hl1,js,p4⟩;have d2:decide (((32:Nat):Int)<32)=bf:=ag
 refine gf @bq.eq_1 @d2 ?_;exact⟨trivial,b5,fm,sv,bA,l,z,r,Bf,hl1,js,p4⟩;rintro e' g4 ⟨rfl,b5,fm,sv,bA,l,z,r,Bf,hl1,js,p4⟩;obtain⟨l0,l1,l2,l3⟩:=Hz z.t;obtain⟨kJ,g5,g6,e1,e2,wS,Hg⟩:=z.E5 Bf aa;have ab:e4 32 [dG (l.map bq)]=a_ (.sl [.agg (l.map bq)] .exact):=by
  unfold e4;rw[if_pos ⟨S1 l Bf,af⟩]
 obtain⟨t0,xT⟩:=wS.s.sl;have NN:∀g,cG sv g=a_ (.v (.int .i64 (b5.length:Int)),g):=λg=>by rw[xT,pq,j9]
 obtain⟨m0,m1,m2,m3⟩:=Hz wS.t;refine iD (yY r (by simpa using Bf)) (cM (λq=>?_) λq=>?_);have iX:=tR (n:=3) wS.r rfl (Z:=[.bp,.bp,.bp]) rfl rfl;have hl1:=(cK.1 wS.r).1;have la:=yY (n:=3) (bT (a:=.cells [bg.bp,.bp,.bp] bf) hl1) rfl;refine wx ?_;obtain⟨n,hn⟩:=(fy (bG (j0 (bG eB (bG eB (bG eB c_)))) (bG (bH (.bool bf)) c_)):b_ (g6.set 1 (.cells [bg.bp,.bp,.bp] bf)) _ _).done;exact⟨n,_,hn,_,_,_,bf,rfl,rfl,rfl,rfl⟩;have q':b5.length<=200:=aq
 refine wx ?_;exact⟨trivial,b5,fm,_,sv,kJ,bA,wS,hl1,q',p4,by simp[nD]⟩;rintro e' g3 ⟨rfl,b5,fm,rows,sv,bC,bA,z,hl1,js,p4,nD⟩;refine wy ?_;exact⟨300-(i+1),aa,i+1,b5,fm,rows,sv,bC,bA,rfl,rfl,z,hl1,aa,js,p4,nD⟩;have d1:decide ((i:Int)<(b5.length:Int))=bf:=ah
 refine oO @bq.eq_1 @l0 @NN @d1 ?_;exact⟨trivial,b5,fm,rows,sv,bC,bA,z⟩;rintro e' g2 ⟨rfl,b5,fm,rows,sv,bC,bA,z⟩
 have no:cu bC=bh:=by rcases z.w with⟨q,_⟩|⟨_,q,_⟩<;>rw[q]<;>rfl
 have iX:=tR (n:=3) z.r rfl (Z:=[sv,bC,bA]) rfl (by simp[z.s.one,z.a.one,no]);have hl1:=(cK.1 z.r).1;have la:=yY (n:=3) (bT (a:=.cells [sv,bC,bA] bf) hl1) rfl;obtain⟨l0,l1,l2,l3⟩:=Hz z.t;exact wy (aHZ z bh)
end
end
section
variable{n0:Nat}{v:bg}{ps:List cT}
def aok(h:yG n0 v ps)(hn:n0<=100000000)(bP:ps≠[]):sz ps ((ps.length-1:Nat):Int)<=1000000000:=by
 have hl:=h.len;obtain⟨x,I⟩:=h.top.resolve_left bP;have D:=abA bP I;have hs:=aby h.ok.kids I;rw[D] at hs;simp only[fc,kM,Aa,Iu] at hs;omega
def adt(ps:List cT)(r:bg):Prop:=∃(t:Bool) (n:Int),r=.bQ [.v (.bool t),.v (.int .i64 n)]/\0<=n/\n<=20/\(n=0->ps≠[]->cnt ps ((ps.length-1:Nat):Int)<=256)
def Ml{J:List br}{t:Bool}{n:Int}(h0:0<=n)(Y:n<=20)(h:n=0->ps≠[]->cnt ps ((ps.length-1:Nat):Int)<=256):∃k bR,dh J k (.bQ [.v (.bool t),.v (.int .i64 n)])=a_ bR/\adt ps bR:=by
 obtain⟨k,S⟩:=(fy (bG (bH (.bool t)) (bG (bH (.int .i64 n)) c_)):b_ J _ _).done;exact⟨k,_,S,t,n,rfl,h0,Y,h⟩
section
variable{G:Cells}{bC mv a b c:bg}{cC marks:List (List bg)}
def aEp{lv:bg}{rows:List (List bg)}(hr:rK bC mv cC marks)(hS:eY (.agg [bC,mv,a,b,c]))(h:yG n0 v ps)(hn:n0<=100000000)(Cn:cD lv (rows.map dG))(ga:eY lv)(Ep:∀x∈rows,xj x)(oz:rows.length<=1000000000):
  dM G bB 62 [.agg [bC,mv,a,b,c],v,lv] (adt ps):=by
 refine en (aAf.go ?_);have wo:=h.len;have ln:=h.v.cG;rw[cS] at ln;have l5:∀J,cG v J=a_ (.v (.int .i64 (ps.length:Int)),J):=λJ=>aL0
 have lm:=Cn.cG;rw[cS] at lm;have Hs:∀J,cG lv J=a_ (.v (.int .i64 (rows.length:Int)),J):=λJ=>by rw[lm J,j9]
 have Zf:bz [bw [bC,mv,a,b,c] bf] bh 5 (.mp 0 0)=a_ (.agg [bC,mv,a,b,c]):=rfl;have H:∃X:List br,X=[bw [bC,mv,a,b,c] bf]:=⟨_,rfl⟩;refine eN (λe g=>e=[(1,v),(2,lv),(3,.mp 0 0)]/\g=[bw [bC,mv,a,b,c] bf]) ?_ ?_;exact wx tt;rintro e g ⟨rfl,rfl⟩;refine eN (λe g=>e=[(1,v),(2,lv),(3,.mp 0 0),(8,.v (.bool bf))]/\g=[bw [bC,mv,a,b,c] bf]) ?_ ?_;exact wx tt;rintro e g ⟨rfl,rfl⟩;refine eN (λe g=>e=[(1,v),(2,lv),(3,.mp 0 0),(8,.v (.bool bf)),(9,.v (.bool bf))]/\g=[bw [bC,mv,a,b,c] bf]) ?_ ?_;exact wx tt;rintro e g ⟨rfl,rfl⟩;refine iO (λe g=>∃t b':Bool,e=[(1,v),(2,lv),(8,.v (.bool t)),(9,.v (.bool b'))]/\g=[bw [bC,mv,a,b,c] bf]) ?_ ?_;refine wy ?_;refine c8 (λi e h=>∃t b':Bool,e=[(1,v),(2,lv),(3,.mp 0 0),(8,.v (.bool t)),(9,.v (.bool b')),(10,bq i)]/\h=[bw [bC,mv,a,b,c] bf]) rows.length ⟨bf,bf,rfl,rfl⟩ ?_ ?_;rintro i e g Q ⟨t,b',rfl,rfl⟩;obtain⟨y,hy⟩:=cO Q;obtain⟨nm,iv,l,rfl,zc,Jx,aKN,Em⟩:=Ep y (cv hy);have n6:ct 2 lv (.v (.int .i64 (i:Int)))=a_ (.fp [bu nm,iv] 0):=Cn.cB (x:=.agg [bu nm,iv]) aT rfl;have azj:=zI zc;refine oa ?_;refine dn (λq=>?_) λq=>?_;exact Ml ag ag (λq=>absurd q ag);refine c8 (λj e h=>∃t b':Bool,e=[(1,v),(2,lv),(3,.mp 0 0),(8,.v (.bool t)),(9,.v (.bool b')),(10,bq i),(11,bq j)]/\h=[bw [bC,mv,a,b,c] bf]) l.length ⟨t,b',rfl,rfl⟩ ?_ ?_;rintro j e g hj ⟨t,b',rfl,rfl⟩;obtain⟨x,I⟩:=cO hj;have ix:=azj.cB I;cases t with
 |true=>
  cases b' with
  |true=>
   refine oO @bq.eq_1 @n6 @ix @Zf ?_;exact⟨_,_,rfl,trivial⟩
  |false=>
   refine oa ?_;refine eo (YH hr hS x) ?_;rintro r ⟨z,rfl⟩;refine wx ?_;exact⟨_,_,rfl,trivial⟩
 |false=>
  refine oa ?_;refine eo (YH hr hS x) ?_;rintro r ⟨z,rfl⟩;cases b' with
  |true=>
   refine wx ?_;exact⟨_,_,rfl,trivial⟩
  |false=>
   refine wy ?_;refine eo (YH hr hS x) ?_;rintro r ⟨z2,rfl⟩;refine wx ?_;exact⟨_,_,rfl,trivial⟩
 rintro e g ⟨t,b',rfl,rfl⟩;refine gf @bq.eq_1 @n6 ?_;exact⟨_,_,rfl,trivial⟩;rintro e g ⟨t,b',rfl,rfl⟩;refine gf @bq.eq_1 @Hs ?_;exact⟨t,b',rfl,trivial⟩;rintro e g ⟨t,b',rfl,rfl⟩;refine iO (λe g=>e=[(1,v),(2,lv),(8,.v (.bool t))]/\g=[bw [bC,mv,a,b,c] bf]) ?_ ?_;cases t with
 |false=>
  exact wx tt
 |true=>
  cases b' with
  |false=>
   exact wx tt
  |true=>
   refine wy ?_;exact Ml ag ag (λq=>absurd q ag)
 rintro e g ⟨rfl,rfl⟩;refine iO (λe g=>(e=[(1,v),(2,lv),(8,.v (.bool t))]/\g=[bw [bC,mv,a,b,c] bf])/\(ps≠[]->cnt ps ((ps.length-1:Nat):Int)<=256)) ?_ ?_
 rcases Dp ps.length with hz|hz
 have d:decide ((ps.length:Int)>0)=bf:=decide_eq_false aa;have d':decide ((0:Int)<(ps.length:Int))=bf:=decide_eq_false aa;refine fu @l5 @d @d' ?_;exact⟨⟨trivial,trivial⟩,λbP=>absurd (oc hz) bP⟩;have d:decide ((ps.length:Int)>0)=bh:=decide_eq_true aa;have bP:ps≠[]:=by rintro rfl;simp at hz
 refine wy (ic (aDC h _ (ps.length-1) (yB _) aa (aok h hn bP)) (bY (B9 h) (bY (dD _) dw)) ?_);refine wy ?_;refine dn (λq=>?_) λq=>?_;exact Ml ag ag (λq=>absurd q ag);refine⟨⟨trivial,trivial⟩,λ_=>?_⟩;simp at q;omega;rintro e g ⟨⟨rfl,rfl⟩,T⟩;have x0:∀a b,pU 0 (.bQ [a,b])=a_ a:=λ_ _=>rfl;refine wy ?_;refine jE (aEC h aa Cn ga Ep oz λbP=>⟨T bP,aok h hn bP⟩) (bY (B9 h) (bY ga dw)) ?_;intro r D;refine wy (jE (aEj D) (bY D.clean dw) ?_);rintro r2 ⟨y1,fR,mc,t2,rfl,o1,o2,jW⟩;have st:=tR (n:=3) (g:=[bw [bC,mv,a,b,c] bf,bw [.bp,.bp,.bp] bf]) (k:=1) (Z:=[y1,fR,mc]) (cs0:=[.bp,.bp,.bp]) rfl rfl rfl (by simp only[pK,tC,o1,o2,jW];rfl);refine wy ?_;cases t2 with
 |false=>
  refine wy ?_;exact Ml ag ag (λq=>absurd q ag)
 |true=>
  refine wy ?_;exact Ml ag ag λ_=>T
end
end
section
variable{mv bC v w x y:bg}{g h J:List br}{m n:Nat}{xs ys:List bg}{e:TypeId}{marks cC rows:List (List bg)}
def Aj(x:bg):Prop:=∃(n0:Nat) (ps:List cT),yG n0 x ps/\n0<=100000000/\(ps≠[]->cnt ps ((ps.length-1:Nat):Int)<=256)
def Aj.one(h:Aj x):cu x=bh:=by
 obtain⟨n0,ps,h,_⟩:=h
 rcases h.v with rfl|⟨rfl,_⟩<;>rfl
def Aj.fz(h:Aj x)(J:List br):b_ J x x:=by
 obtain⟨n0,ps,h,_⟩:=h
 rcases h.v with rfl|⟨rfl,_⟩
 have fl:fC J (ps.map su) (ps.map su):=iE λp ayz=>by
  have:=W7 J p;rw[show p.cH=p by
   have:=h.no p ayz;cases p;simp only[cT.cH] at*;simp[this]] at this
  exact this
 exact hD fl;exact eB
def Aj.clean(h:Aj x):eY x:=by
 obtain⟨n0,ps,h,_⟩:=h;exact B9 h
structure PI(hk:bg):Prop where
 ex:∃(bC mv pv cJ lv:bg) (cC marks:List (List bg)) (jJ lq:List bg) (k_:List (List bg)),hk=.agg [bC,mv,pv,cJ,lv]/\rK bC mv cC marks/\cD pv jJ/\jJ.length=cC.length/\(∀x∈jJ,Aj x)/\cD cJ lq/\lq.length=cC.length/\(∀x∈lq,∃b:Bool,x=.v (.bool b))/\cD lv (k_.map dG)/\(∀x∈k_,xj x)/\k_.length<=10000000000
def PV(r:bg):Prop:=∃(a b c d e:bg) (n:Int),r=.bQ [.agg [a,b,c,d,e],.v (.int .i64 n)]/\[a,b,c,d,e].all cu=bh/\(n=0->PI (.agg [a,b,c,d,e]))/\(n≠0->[a,b,c,d,e]=[.bp,.bp,.bp,.bp,.bp])
def aHl{n:Int}(hn:n≠0):∃k bR,dh J k (.bQ [.agg [.bp,.bp,.bp,.bp,.bp],.v (.int .i64 n)])=a_ bR/\PV bR:=by
 obtain⟨k,S⟩:=(fy (bG (j0 (bG eB (bG eB (bG eB (bG eB (bG eB c_)))))) (bG (bH (.int .i64 n)) c_)):b_ J _ _).done;exact⟨k,_,S,_,_,_,_,_,n,rfl,rfl,λq=>absurd q hn,λ_=>rfl⟩
def ael(hA:de h v xs n e)(S:∀(j:Nat) b,h[j]?=a_ b->(∀ys,v≠.sl ys (.tok j))->g[j]?=a_ b):∀(j:Nat) b,h[j]?=a_ b->(∀c,b≠.tok c n e)->g[j]?=a_ b:=λj b q O=>S j b q λys z=>by
 rcases hA with⟨q1,_⟩|⟨id,q1,bt⟩
 rw[q1] at z;cases z;rw[q1] at z;cases z;rw[bt] at q;cases q;exact O _ rfl
def aem{e2:TypeId}(hA:de h w ys m e2)(kp:∀(j:Nat) b,h[j]?=a_ b->(∀c,b≠.tok c n e)->g[j]?=a_ b)(bP:(m,e2)≠(n,e)):de g w ys m e2:=by
 rcases hA with q|⟨id,q1,bt⟩
 exact bD q;refine bF ⟨id,q1,kp _ _ bt λc z=>?_⟩;cases z;exact bP rfl
def aep{bW:Nat}(hA:de J v xs n e)(mB:cD y ys)(I:cY n xs=bh)(hy:cY n ys=bh)(hn:0<n)(O:0<bW)(hfit:(xs.length+ys.length)*bW<=140737488355328):
  ∃v' bl,ei J n bW e v y=a_ (v',bl)/\de bl v' (xs++ys) n e/\∀(j:Nat) b,J[j]?=a_ b->(∀xs,v≠.sl xs (.tok j))->bl[j]?=a_ b:=by
 by_cases h0:ys=[];subst h0;refine⟨v,J,?_,by rw[gV];exact hA,λj b q _=>q⟩
 have T:iq y=a_ []:=by rcases mB with rfl|⟨rfl,_⟩<;>rfl
 rcases hA with⟨rfl,_⟩|⟨id,rfl,_⟩<;>simp[ei,gR,T]
 rcases mB with rfl|⟨_,z⟩
 exact aeo hA I hy h0 hn O hfit;exact absurd z h0
structure sI(bC mv pv cJ lv:bg)(jJ lq:List bg)(k_:List (List bg))(h:List br):Prop where
 r:h[0]?=a_ (.cells [.bp,.bp,.bp,.bp,.bp] bf)
 d:h[1]?=a_ (.cells [bC,mv] bf)
 b:h[2]?=a_ (.cells [bC,mv,pv,cJ,lv] bf)
 p:de h pv jJ 1 127
 t:de h cJ lq 1 4
 l:de h lv (k_.map dG) 2 205
 pk:∀x∈jJ,Aj x
 tk:∀x∈lq,∃b:Bool,x=.v (.bool b)
 lk:∀x∈k_,xj x
section
variable{bC mv pv cJ lv:bg}{jJ lq:List bg}{k_:List (List bg)}{h:List br}
def LN(hA:de h v xs n e):cu v=bh:=by
 rcases hA with⟨rfl,_⟩|⟨_,rfl,_⟩<;>rfl
def aba{Z cs':List bg}(hA:de g w ys m e)(O:g[2]?=a_ (.cells Z bf)):de (g.set 2 (.cells cs' bf)) w ys m e:=by
 rcases hA with q|⟨id,q1,bt⟩
 exact bD q;exact bF ⟨id,q1,by rw[bE (by rintro rfl;rw[O] at bt;cases bt)];exact bt⟩
def sI.aFg(s:sI bC mv pv cJ lv jJ lq k_ h)(I:Aj x)(hl:jJ.length<=1000):∃v' g g',ei h 1 24 127 pv (.sl [x] .exact)=a_ (v',g)/\bL g 1 (.mp 2 2) v'=a_ g'/\sI bC mv v' cJ lv (jJ++[x]) lq k_ g':=by
 obtain⟨v',g,e1,e2,_,hA,O,q⟩:=Mn (x:=x) (bW:=24) (o:=2) s.p s.b af (Bw λx I=>(s.pk x I).one) (Bw λy hy=>by rw[dW.1 hy];exact I.one) ag ag aa;exact⟨v',g,_,e1,e2,q.cells s.r ag,q.cells s.d ag,O,hA,q.DK s.b s.t ag,q.DK s.b s.l ag,λy hy=>(fA.1 hy).elim (s.pk y) λq=>aN4,s.tk,s.lk⟩
def sI.aFh(s:sI bC mv pv cJ lv jJ lq k_ h)(b:Bool)(hl:lq.length<=1000):∃v' g g',ei h 1 1 4 cJ (.sl [.v (.bool b)] .exact)=a_ (v',g)/\bL g 1 (.mp 2 3) v'=a_ g'/\sI bC mv pv v' lv jJ (lq++[.v (.bool b)]) k_ g':=by
 obtain⟨v',g,e1,e2,_,hA,O,q⟩:=Mn (x:=.v (.bool b)) (bW:=1) (o:=3) s.t s.b af (Bw λx I=>by obtain⟨b,rfl⟩:=s.tk x I;rfl) rfl ag ag aa;exact⟨v',g,_,e1,e2,q.cells s.r ag,q.cells s.d ag,O,q.DK s.b s.p ag,hA,q.DK s.b s.l ag,s.pk,λy hy=>(fA.1 hy).elim (s.tk y) λq=>⟨b,dW.1 q⟩,s.lk⟩
@[go_sem]def aac(h:∀x∈rows,xj x):cY 2 (rows.map dG)=bh:=by
 rw[cY,eJ];intro y hy;obtain⟨x,I,rfl⟩:=dV.1 hy;obtain⟨nm,iv,l,rfl,zc,_⟩:=h x I;have:cu iv=bh:=(zI zc).one;simp only[jD,eZ,iG,pK,tC,this];rfl
def sI.Ok(s:sI bC mv pv cJ lv jJ lq k_ h)(mB:cD y (rows.map dG))(D:∀x∈rows,xj x)(hl:k_.length+rows.length<=100000000000):∃v' g g',ei h 2 40 205 lv y=a_ (v',g)/\bL g 1 (.mp 2 4) v'=a_ g'/\sI bC mv pv cJ v' jJ lq (k_++rows) g':=by
 obtain⟨v',g,e1,hA,S⟩:=aep (bW:=40) s.l mB (aac s.lk) (aac D) ag ag (by simp only[cS];omega);rw[<-gC] at hA;have kp:=ael s.l S;have b1:=kp _ _ s.b af;have st:=(rj b1 (LN hA)).2.2.2.2;refine⟨v',g,_,e1,st,?_,?_,bT (gl b1),aba (aem s.p kp ag) b1,aba (aem s.t kp ag) b1,aba hA b1,s.pk,s.tk,λx I=>?_⟩;rw[bE ag];exact kp _ _ s.r af;rw[bE ag];exact kp _ _ s.d af
 rcases fA.1 I with q|q
 exact s.lk x q;exact D x q
def sI.imp(s:sI bC mv pv cJ lv jJ lq k_ h)(hd:eY bC)(he:eY mv):∃a b c,kC (.agg [bC,mv,pv,cJ,lv]) (.agg [bC,mv,a,b,c])/\eY (.agg [bC,mv,a,b,c]):=by
 have one:∀{v:bg} {xs:List bg} {n:Nat} {e:TypeId},de h v xs n e->(∀x∈xs,∀c∈x.cells,eY c)->∃v',kC v v'/\eY v':=λ{v xs n e} hA T=>by
  rcases hA with⟨rfl,_⟩|⟨id,rfl,_⟩
  exact⟨.bp,nA,nA⟩;exact⟨.sl xs .no,k4 T,k4 T⟩
 obtain⟨a,a1,a2⟩:=one s.p λx I c T=>by
  rw[rO (s.pk x I).one] at T;rw[dW.1 T];exact(s.pk x I).clean
 obtain⟨b,b1,b2⟩:=one s.t λx I c T=>by
  obtain⟨t,rfl⟩:=s.tk x I;rw[dW.1 (show c∈[cR (.bool t)] from T)];exact dD _
 obtain⟨c,c1,c2⟩:=one s.l λx I c T=>by
  obtain⟨y,hy,rfl⟩:=dV.1 I;obtain⟨nm,iv,l,rfl,zc,Jx,_⟩:=s.lk y hy;have jl:c∈[bu nm,iv]:=T;simp only[fo,pM,or_false] at jl
  rcases jl with rfl|rfl
  exact dD _;exact Jx
 refine⟨a,b,c,ajc rfl λi x y I hy=>?_,I4 λx I=>?_⟩
 match i with
 |0=>cases I;cases hy;exact hd
 |1=>cases I;cases hy;exact he
 |2=>cases I;cases hy;exact a1
 |3=>cases I;cases hy;exact b1
 |4=>cases I;cases hy;exact c1
 |i+5=>simp at I
 simp only[fo,pM,or_false] at I
 rcases I with rfl|rfl|rfl|rfl|rfl
 exact hd;exact he;exact a2;exact b2;exact c2
def sI.fin(s:sI bC mv pv cJ lv jJ lq k_ h)(hr:rK bC mv cC marks)(Y:jJ.length=cC.length)(V:lq.length=cC.length)(h3:k_.length<=10000000000)(g:List br)(hn:b_ g bC bC)(hm:b_ g mv mv):∃k bR,dh g k (.bQ [.agg [bC,mv,pv,cJ,lv],.v (.int .i64 0)])=a_ bR/\PV bR:=by
 have one:∀{v:bg} {xs:List bg} {n:Nat} {e:TypeId},de h v xs n e->fC g xs xs->∃v',b_ g v v'/\cD v' xs:=λ{v xs n e} hA T=>by
  rcases hA with⟨rfl,q⟩|⟨id,rfl,_⟩
  exact⟨.bp,eB,bF ⟨rfl,q⟩⟩;exact⟨.sl xs .no,hD T,bD rfl⟩
 obtain⟨a,a1,a2⟩:=one s.p (fC.each λx I=>(s.pk x I).fz g);obtain⟨b,b1,b2⟩:=one s.t (fC.each λx I=>by obtain⟨t,rfl⟩:=s.tk x I;exact bH _);obtain⟨c,c1,c2⟩:=one s.l (iE λx I=>by
  obtain⟨nm,iv,l,rfl,zc,_⟩:=s.lk x I;refine j0 (bG (bH _) (bG ?_ c_))
  rcases zc with rfl|⟨rfl,_⟩
  exact hD (iE λa _=>bH _);exact eB)
 obtain⟨k,S⟩:=(fy (bG (j0 (bG hn (bG hm (bG a1 (bG b1 (bG c1 c_)))))) (bG (bH (.int .i64 0)) c_)):b_ g _ _).done
 have o:∀{v:bg} {xs:List bg},cD v xs->cu v=bh:=λ{v xs} q=>aLV
 exact⟨k,_,S,bC,mv,a,b,c,0,rfl,by simp only[pK,tC,o hr.n,o hr.m,o a2,o b2,o c2];rfl,λ_=>⟨bC,mv,a,b,c,cC,marks,jJ,lq,k_,rfl,hr,a2,Y,s.pk,b2,V,s.tk,c2,s.lk,h3⟩,λq=>absurd rfl q⟩
end
def at3{x:List bg}(h:vF x):∀c∈x,eY c:=by
 obtain⟨nm,cq,i,p,cj,a,al,mv,ex,rfl,hg,hm,_⟩:=h;intro c T;obtain⟨l,g1,_⟩:=hg;obtain⟨l2,m1,_⟩:=hm;simp only[eH,fo,pM,or_false] at T
 rcases T with rfl|rfl|rfl|rfl|rfl|rfl|rfl|rfl|rfl
 exact dD _;exact qX g1;exact dD _;exact dD _;exact dD _;exact dD _;exact dD _;exact qX m1;exact dD _
def at1{x:List bg}(h:om x):∀c∈x,eY c:=by
 obtain⟨nm,v,al,bv,rfl,l,g1,_⟩:=h;intro c T;simp only[eX,fo,pM,or_false] at T
 rcases T with rfl|rfl|rfl|rfl
 exact dD _;exact dD _;exact dD _;exact qX g1
def rK.atX(hr:rK bC mv cC marks):eY bC/\eY mv:=by
 refine⟨DS hr.n λx I c T=>?_,DS hr.m λx I c T=>?_⟩;obtain⟨y,hy,rfl⟩:=dV.1 I;exact at3 (hr.mX y hy) c T;obtain⟨y,hy,rfl⟩:=dV.1 I;exact at1 (hr.ia y hy) c T
def rK.ahf(hr:rK bC mv cC marks)(g:List br):b_ g bC bC/\b_ g mv mv:=by
 constructor
 rcases hr.n with h|⟨h,_⟩
 rw[h];exact hD (iE λx I=>(hr.mX x I).fz g);rw[h];exact eB
 rcases hr.m with h|⟨h,_⟩
 rw[h];exact hD (iE λx I=>(hr.ia x I).ahg g);rw[h];exact eB
section
variable{G:Cells}
def aEk(s:List UInt8)(hs:s.length<=1000000):dM G bB 26 [bu s] PV:=by
 refine en (aBD.go ?_);have bad:∀{g:List br} {n:Int},g[0]?=a_ (.cells [.bp,.bp,.bp,.bp,.bp] bf)->n≠0->bL g 5 (.mp 0 0) (.agg [.bp,.bp,.bp,.bp,.bp])=a_ (g.set 0 (.cells [.bp,.bp,.bp,.bp,.bp] bf))/\bz (g.set 0 (.cells [.bp,.bp,.bp,.bp,.bp] bf)) bh 5 (.mp 0 0)=a_ (.agg [.bp,.bp,.bp,.bp,.bp])/\∃k bR,dh (g.set 0 (.cells [.bp,.bp,.bp,.bp,.bp] bf)) k (.bQ [.agg [.bp,.bp,.bp,.bp,.bp],.v (.int .i64 n)])=a_ bR/\PV bR:=λ{g n} h hn=>
  ⟨NX h rfl,(jP (bT (gl h))).2.2.2.2.2,aHl hn⟩
 refine eN (λe g=>e=[(0,bu s),(2,.mp 0 0)]/\g=[.cells [.bp,.bp,.bp,.bp,.bp] bf]) ?_ ?_;exact wx tt;rintro e g ⟨rfl,hg⟩;refine eN (λe g=>∃bC mv cC marks,∃xF:Int,e=[(2,.mp 0 0),(4,.mp 1 0),(6,.v (.int .i64 xF))]/\g=[.cells [.bp,.bp,.bp,.bp,.bp] bf,.cells [bC,mv] bf]/\rK bC mv cC marks) ?_ ?_;refine wy ?_;refine eo (aEX s hs) ?_;rintro _ ⟨bC,mv,cC,marks,Ti,xF,rfl,hr⟩
 have o:∀{v:bg} {xs:List bg},cD v xs->cu v=bh:=λ{v xs} q=>aLV
 have st:=KT (X:=[.cells [.bp,.bp,.bp,.bp,.bp] bf,.cells [.bp,.bp] bf]) (k:=1) (a:=.bp) (b:=.bp) (c:=bC) (d:=mv) rfl (o hr.n) (o hr.m);refine wy ?_;exact⟨bC,mv,cC,marks,xF,rfl,rfl,hr⟩;rintro e g1 ⟨bC,mv,cC,marks,xF,rfl,rfl,hr⟩;have zf:=hr.nl;obtain⟨afU,afV⟩:=hr.atX;refine iO (λe g=>e=[(2,.mp 0 0),(4,.mp 1 0)]/\g=[.cells [.bp,.bp,.bp,.bp,.bp] bf,.cells [bC,mv] bf]) ?_ ?_;refine wy (cM (λq=>?_) λq=>?_);have q':xF≠0:=ak
 obtain⟨b1,b2,b3⟩:=bad (g:=[.cells [.bp,.bp,.bp,.bp,.bp] bf,.cells [bC,mv] bf]) (n:=xF) rfl q';exact wy b3;exact wx tt;rintro e g2 ⟨rfl,rfl⟩;refine eN (λe g=>e=[(2,.mp 0 0),(4,.mp 1 0),(7,.mp 2 0)]/\sI bC mv .bp .bp .bp [] [] [] g) ?_ ?_
 have o:∀{v:bg} {xs:List bg},cD v xs->cu v=bh:=λ{v xs} q=>aLV
 have f1:dN [.bp,.bp,.bp,.bp,.bp] [(0,2,.agg [bC,mv])]=a_ [bC,mv,.bp,.bp,.bp]:=rfl;have st:=NX (h:=[.cells [.bp,.bp,.bp,.bp,.bp] bf,.cells [bC,mv] bf,.cells [.bp,.bp,.bp,.bp,.bp] bf]) (k:=2) (a':=bC) (b':=mv) (c':=.bp) (d':=.bp) (e':=.bp) rfl (by simp only[pK,tC,o hr.n,o hr.m];rfl);refine wx ?_;exact⟨trivial,rfl,rfl,rfl,bD ⟨rfl,rfl⟩,bD ⟨rfl,rfl⟩,bD ⟨rfl,rfl⟩,af,af,af⟩;rintro e g3 ⟨rfl,eA⟩;obtain⟨a3,b3,c3,i3,azW⟩:=eA.imp afU afV;refine eN (λe g=>∃n:Int,e=[(2,.mp 0 0),(4,.mp 1 0),(6,.v (.int .i64 n)),(7,.mp 2 0)]/\g=g3) ?_ ?_;refine iD ((jP eA.b).2.2.2.2.2) ?_;refine eo (aEa hr azW) ?_;rintro r ⟨n,rfl,_,_⟩;refine wx ?_;exact⟨n,rfl,trivial⟩;rintro e g4 ⟨n,rfl,rfl⟩;refine iO (λe g=>e=[(2,.mp 0 0),(4,.mp 1 0),(7,.mp 2 0)]/\g=g4) ?_ ?_;refine wy (cM (λq=>?_) λq=>?_);have q':n≠0:=ak
 obtain⟨b1,b2,b3⟩:=bad eA.r q';exact fu @q @b1 @b2 b3;exact dJ @q tt;rintro e g5 ⟨rfl,rfl⟩;have ln:=hr.n.cG;rw[cS] at ln;have l5:∀J,cG bC J=a_ (.v (.int .i64 (cC.length:Int)),J):=λJ=>aL0
 refine iO (λe g=>e=[(2,.mp 0 0),(7,.mp 2 0)]/\∃pv cJ lv jJ lq k_,sI bC mv pv cJ lv jJ lq k_ g/\jJ.length=cC.length/\lq.length=cC.length/\k_.length<=cC.length*200000000) ?_ ?_;refine wy ?_;refine c8 (λi e g=>e=[(2,.mp 0 0),(4,.mp 1 0),(7,.mp 2 0),(8,bq i)]/\∃pv cJ lv jJ lq k_,sI bC mv pv cJ lv jJ lq k_ g/\jJ.length=i/\lq.length=i/\k_.length<=i*200000000) cC.length ⟨rfl,_,_,_,_,_,_,eA,rfl,rfl,gW _⟩ ?_ ?_;rintro i e g Q ⟨rfl,pv,cJ,lv,jJ,lq,k_,s,Y,V,h3⟩;have fT:bz g bf 1 (.mp 1 0)=a_ bC:=by simp only[bz,s.d];rfl
 obtain⟨y,hy⟩:=cO Q;have mD:=hr.mX y (cv hy);have n6:ct 9 bC (.v (.int .i64 (i:Int)))=a_ (.fp y 0):=hr.n.cB (x:=.agg y) aT aN0;obtain⟨nm,cq,ib,pb,cj,a2,al,l6,ex,rfl,_,_,XP⟩:=mD;have Bp:∀h,bz h bf 1 (.fp (eH nm cq ib pb cj a2 al l6 ex) 8)=a_ (bu ex):=λh=>rfl;have w1:cN.wrap ((i:Int)+1)=((i+1:Nat):Int):=jZ aa;obtain⟨a4,b4,c4,i4,ajt⟩:=s.imp afU afV;have la:=(jP s.b).2.2.2.2.2;refine wy ?_;refine eo (anW ex aa) ?_;rintro _ ⟨v,ps,Ti,xF,rfl,hR⟩;have wo:=hR.len;refine wy (jE (aDT hr ajt hR aa) (bY i4 (bY (B9 hR) dw)) ?_);rintro lw ⟨rows,Bk,r0,aiO⟩;have ga:eY lw:=DS Bk λx I c T=>by
  obtain⟨y,hy,rfl⟩:=dV.1 I;obtain⟨nm,iv,l,rfl,zc,Jx,_⟩:=r0 y hy;have jl:c∈[bu nm,iv]:=T;simp only[fo,pM,or_false] at jl
  rcases jl with rfl|rfl
  exact dD _;exact Jx
 refine wy (jE (aEp hr ajt hR XP Bk ga r0 aa) (bY i4 (bY (B9 hR) (bY ga dw))) ?_);rintro _ ⟨t,n,rfl,_,_,T⟩;refine rF (cM (λq=>?_) λq=>?_);have q':n≠0:=ak
 obtain⟨b1,b2,b3⟩:=bad s.r q';exact fu @q @b1 @b2 b3;have q':n=0:=ak
 have hP:Aj v:=⟨_,ps,hR,XP,T q'⟩;obtain⟨Th,k1,k2,e1,e2,s1⟩:=s.aFg hP aa;obtain⟨uA,gp,gv,di,eW,s2⟩:=s1.aFh t aa;obtain⟨aLf,wz,Hg,nV,y2,eA⟩:=s2.Ok Bk r0 aa;obtain⟨_,_,m2,_⟩:=jP s.b;obtain⟨_,_,_,m3,_⟩:=jP s1.b;obtain⟨_,_,_,_,m4,_⟩:=jP s2.b;refine wR (eI @q @m2 (IQ hP.one) @e1) @e2 @m3 @di @eW @m4 @nV @y2 @w1 ?_;exact⟨rfl,_,_,_,_,_,_,eA,aMY,by simp[V],aMf⟩;rintro e g ⟨rfl,pv,cJ,lv,jJ,lq,k_,s,Y,V,h3⟩;have fT:bz g bf 1 (.mp 1 0)=a_ bC:=by simp only[bz,s.d];rfl
 refine fu @bq.eq_1 @fT @l5 ?_;exact⟨trivial,pv,cJ,lv,jJ,lq,k_,s,Y,V,h3⟩;rintro e g6 ⟨rfl,pv,cJ,lv,jJ,lq,k_,nH,Y,V,h3⟩
 have o:∀{v:bg} {xs:List bg},cD v xs->cu v=bh:=λ{v xs} q=>aLV
 have st:=NX (a':=bC) (b':=mv) (c':=pv) (d':=cJ) (e':=lv) nH.r (by simp only[pK,tC,o hr.n,o hr.m,LN nH.p,LN nH.t,LN nH.l];rfl);have la:=(jP (bT (a:=.cells [bC,mv,pv,cJ,lv] bf) (gl nH.r))).2.2.2.2.2;refine mI ((jP nH.b).2.2.2.2.2) @st ?_;obtain⟨b9,z2⟩:=hr.ahf (g6.set 0 (.cells [bC,mv,pv,cJ,lv] bf));exact nH.fin hr Y V aa _ b9 z2
end
end
section
variable{ms:List Int}
section
variable{G:Cells}{hk bC mv:bg}{rows marks:List (List bg)}
def Hy(marks:List (List bg))(t:Int):Option (List bg):=if 0<=t then marks[t.toNat]? else bn
def SI(marks:List (List bg))(t:Int):Hy marks t=bn\/∃(i:Nat) (x:List bg),t=(i:Int)/\marks[i]?=a_ x/\Hy marks t=a_ x:=by
 cases h:Hy marks t with
 |none=>exact bD rfl
 |some x=>
  right;unfold Hy at h;split at h;exact⟨t.toNat,x,aa,h,rfl⟩;cases h
def SF(s:mm hk bC mv rows marks){t:Int}(h:Hy marks t=bn):cV G bB 170 [hk,.v (.int .i64 t)] (.v (.pointer bn)):=by
 rw[s.eq];refine eM (YT.go ?_);have ln:=s.m.cG;rw[cS] at ln;refine wy ?_;refine cM (λq=>?_) λq=>?_;refine wy ?_;exact(bH _).done;refine wy ?_;refine cM (λbt=>?_) λbt=>?_;refine wy ?_;exact(bH _).done;exfalso;unfold Hy at h;have q1:¬t<0:=ak
 rw[if_pos aa,arv] at h;simp at bt;omega
def SG(s:mm hk bC mv rows marks){i:Nat}{x:List bg}(I:marks[i]?=a_ x):cV G bB 170 [hk,.v (.int .i64 (i:Int))] (.fp x 0):=by
 rw[s.eq];refine eM (YT.go ?_);have Q:=(cK.1 I).1;have ln:=s.m.cG;rw[cS] at ln;have D:=s.ia x (cv I);have cB:ct 4 mv (.v (.int .i64 (i:Int)))=a_ (.fp x 0):=s.m.cB (x:=.agg x) aA D.ok.1;have d1:decide ((i:Int)<0)=bf:=decide_eq_false aa;refine wy ?_;obtain⟨nm,n,al,bv,rfl,l,g1,g2⟩:=D;have O:b_ [] bv bv:=by
  rcases g1 with rfl|⟨rfl,_⟩
  exact hD (iE λa _=>bH _);exact eB
 exact(b_.fp (bG (bH _) (bG (bH _) (bG (bH _) (bG O c_))))).done
def aDM(s:mm hk bC mv rows marks):cV G bB 233 [hk] (.v (.int .i64 (marks.length:Int))):=by
 rw[s.eq];refine eM (akt.go ?_);have ln:=s.m.cG;rw[cS] at ln;refine wy ?_;exact(bH _).done
def ab6(marks:List (List bg))(t:Int):Int:=((Hy marks t).map (ajq 1)).getD 0
def aDO(s:mm hk bC mv rows marks)(t:Int):cV G bB 234 [hk,.v (.int .i64 t)] (.v (.int .i64 (ab6 marks t))):=by
 have T:=s.clean;refine eM (aku.go ?_);refine wy ?_
 rcases SI marks t with h|⟨i,x,rfl,I,D⟩
 refine ic (SF s h) (bY T (bY (dD _) dw)) ?_;unfold ab6;rw[h];refine wy ?_;exact(bH _).done;refine ic (SG s I) (bY T (bY (dD _) dw)) ?_;unfold ab6;rw[D];obtain⟨nm,n,al,bv,rfl,_⟩:=s.ia x (cv I);have l1:∀h,bz h bf 1 (.fp (eX nm n al bv) 1)=a_ (.v (.int .i64 n)):=λh=>rfl;refine wy ?_;exact(bH _).done
def atf(s:mm hk bC mv rows marks)(a b:Int):dM G bB 167 [hk,.v (.int .i64 a),.v (.int .i64 b)] jR:=by
 have T:=s.clean;refine en (ajT.go ?_);refine wy ?_
 rcases SI marks a with h|⟨i,x,rfl,I,D⟩
 refine ic (SF s h) (bY T (bY (dD _) dw)) ?_;refine wy ?_
 rcases SI marks b with V|⟨i2,x2,rfl,p_,r0⟩
 refine ic (SF s V) (bY T (bY (dD _) dw)) ?_;refine wy ?_;exact jj _;refine ic (SG s p_) (bY T (bY (dD _) dw)) ?_;refine wy ?_;exact jj _;refine ic (SG s I) (bY T (bY (dD _) dw)) ?_;obtain⟨nm,n,al,bv,rfl,l,g1,g2⟩:=s.ia x (cv I);have l2:∀h,bz h bf 1 (.fp (eX nm n al bv) 2)=a_ (.v (.bool al)):=λh=>rfl;have l3:∀h,bz h bf 1 (.fp (eX nm n al bv) 3)=a_ bv:=λh=>rfl;refine wy ?_
 rcases SI marks b with V|⟨i2,x2,rfl,p_,r0⟩
 refine ic (SF s V) (bY T (bY (dD _) dw)) ?_;refine wy ?_;exact jj _;refine ic (SG s p_) (bY T (bY (dD _) dw)) ?_;obtain⟨ZZ,n2,iw,gS,rfl,_⟩:=s.ia x2 (cv p_);have l0:∀h,bz h bf 1 (.fp (eX ZZ n2 iw gS) 0)=a_ (bu ZZ):=λh=>rfl;refine wy ?_;refine cM (λq=>?_) λq=>?_;refine wy ?_;exact jj _;cases al with
 |true=>
  refine wy ?_;exact jj _
 |false=>
  refine wy ?_;refine ic (L2 g1 (qX g1) aa ZZ) (bY (qX g1) (bY (tT _) dw)) ?_;refine wy ?_;exact jj _
def aDQ(s:mm hk bC mv rows marks)(a b:Int):dM G bB 164 [hk,.v (.int .i64 a),.v (.int .i64 b)] jR:=by
 have T:=s.clean;refine en (ajU.go ?_);refine wy ?_;refine cM (λq=>?_) λq=>?_;refine wy ?_;refine ic (aDM s) (bY T dw) ?_;refine wy ?_;refine cM (λbt=>?_) λbt=>?_;refine wy ?_;refine cM (λbV=>?_) λbV=>?_;refine wy ?_;refine ic (aDO s a) (bY T (bY (dD _) dw)) ?_;refine wy ?_;exact jj _;refine wy ?_;exact jj _;refine wy ?_;exact jj _;refine wy ?_;exact jj _
end
def adj(r:bg):Prop:=∃(n:Int) (b:Bool),r=.bQ [.v (.int .i64 n),.v (.bool b)]
def Q4{J:List br}(n:Int)(b:Bool):∃k bR,dh J k (.bQ [.v (.int .i64 n),.v (.bool b)])=a_ bR/\adj bR:=by
 obtain⟨k,S⟩:=(fy (bG (bH (.int .i64 n)) (bG (bH (.bool b)) c_)):b_ J _ _).done;exact⟨k,_,S,n,b,rfl⟩
def Qv(ms:List Int):eY (.agg (ms.map gL)):=I4 λc T=>by
 obtain⟨n,_,rfl⟩:=dV.1 T;exact dD _
section
variable{G:Cells}
def axg(hl:ms.length=8)(i:Int):dM G bB 169 [.agg (ms.map gL),.v (.int .i64 i)] adj:=by
 refine en (akn.go ?_);refine wy ?_;refine cM (λq=>?_) λq=>?_;refine wy ?_;exact Q4 _ _;refine wy ?_;refine cM (λbt=>?_) λbt=>?_;refine wy ?_;exact Q4 _ _;obtain⟨m,rfl⟩:∃m:Nat,i=(m:Int):=⟨i.toNat,aq⟩;have hm:m<8:=aMR
 obtain⟨x,I⟩:∃x,ms[m]?=a_ x:=⟨ms[m]' aa,cy _⟩;have yQ:nu 8 1 (.mp 0 0) (.v (.int .i64 (m:Int)))=a_ (.mp 0 m):=by
  unfold nu;dsimp only;rw[if_pos ⟨aa,aa⟩];simp[mP]
 have fT:bz [bw (ms.map gL) bf] bf 1 (.mp 0 m)=a_ (.v (.int .u16 x)):=by
  show fh bf 1 (ms.map gL) m=_;unfold fh;rw[if_neg af,e9,I];rfl
 refine wy ?_;refine cM (λbV=>?_) λbV=>?_;refine wy ?_;exact Q4 _ _;refine wy ?_;exact Q4 _ _
def arY(r:bg):Prop:=∃l:List (Int×Int),cD r (l.map λx=>.agg [bq x.1,bq x.2])/\l.length<=8
def aEJ(l:List (Int×Int)):cY 2 (l.map λx=>dG [bq x.1,bq x.2])=bh:=by
 rw[cY,eJ];intro x I;obtain⟨t,_,rfl⟩:=dV.1 I;rfl
def amu(hl:ms.length=8):dM G bB 91 [.agg (ms.map gL)] arY:=by
 refine en (ajP.go ?_);refine wy ?_;refine c8 (λi e g=>∃(l:List (Int×Int)) (bx:bg),e=[(1,.mp 0 0),(3,bx),(7,bq i)]/\g[0]?=a_ (.cells (ms.map gL) bf)/\de g bx (l.map λx=>.agg [bq x.1,bq x.2]) 2 179/\l.length<=i) 8 ⟨[],.bp,rfl,rfl,bD ⟨rfl,rfl⟩,cc _⟩ ?_ ?_;rintro i e g Q ⟨l,bx,rfl,h0,hA,oz⟩;have d1:decide ((i:Int)<8)=bh:=decide_eq_true aa;have w1:cN.wrap ((i:Int)+1)=((i+1:Nat):Int):=jZ aa;refine Db (yY h0 (n:=8) aJ) ?_;refine jE (axg hl _) (bY (Qv ms) (bY (dD _) dw)) ?_;rintro r ⟨n,b,rfl⟩;cases b with
 |false=>
  refine gf @QY @QZ ?_;exact⟨l,bx,rfl,h0,hA,aa⟩
 |true=>
  obtain⟨cl,g2,e1,fM,_,_,S⟩:=nv (x:=.agg [bq (i:Int),bq n]) (bW:=16) hA (aEJ l) rfl ag ag ah;have kp:=ael hA S;have f1:dN [.v (.int .i64 0),.v (.int .i64 0)] [(0,1,.v (.int .i64 (i:Int))),(1,1,.v (.int .i64 n))]=a_ [bq (i:Int),bq n]:=rfl;have ab:e4 2 [.agg [bq (i:Int),bq n]]=a_ (.sl [.agg [bq (i:Int),bq n]] .exact):=rfl;refine C_ @QY @QZ @w1 @f1 @ab @e1 ?_;refine⟨l++[((i:Int),n)],cl,rfl,kp _ _ h0 af,?_,ah⟩;rw[gC];exact fM
 rintro e g ⟨l,bx,rfl,h0,hA,oz⟩;have d1:decide (((8:Nat):Int)<8)=bf:=ag
 refine wy ?_
 rcases hA with⟨rfl,z⟩|⟨id,rfl,_⟩
 obtain⟨k,S⟩:=(eB:b_ g _ _).done;exact⟨k,_,S,l,bF ⟨rfl,z⟩,oz⟩;obtain⟨k,S⟩:=(hD (t:=.tok id) (iE (f:=λx:Int×Int=>dG [bq x.1,bq x.2]) (l:=l) λa _=>j0 (bG (bH _) (bG (bH _) c_))):b_ g _ _).done;exact⟨k,_,S,l,bD rfl,oz⟩
end
end
end Go.Proofs.YtplgiomcbchjiaaGreatDoor

/- Part 11 of a proof. No condition. -/
import Derived.Test.YtgfjdechmbleeaaGreatDoorZ10
set_option linter.unusedVariables false
set_option linter.unusedSimpArgs false
set_option linter.defProp false
open Bool renaming false->bf,true->bh,true_and->Nv
open Go.bP.bg renaming agg->dD,cells->jy,one->cr,v->cU
open Go.bP.cV renaming nil->sr
open Go.bP.br renaming cells->bw
open Go.bP.sB renaming mk->cL
open Go.bP.cy renaming mono->cm,Yz->ek,pure->gO,aA6->jz
open Go.bP renaming Clean->eP
open Go.bP.b8 renaming agg->kA,bp->eB,sl->gP,bQ->fD,v->bH
open Go.bP.e4 renaming cons->bG,map->iW,nil->cW
open Go.IntKind renaming i64->dy
open Go.Proofs.Tryz renaming prog->bE
open Go.Proofs.YtgfjdechmbleeaaGreatDoor.Ext renaming app->lJ
open Go.Proofs.YtgfjdechmbleeaaGreatDoor.cM renaming bN->q9,many->Ep
open Int renaming eq_ofNat_of_zero_le->oI,le_refl->Cq,reduceBEq->AR,reduceBNe->AS
open List renaming all_cons->oJ,all_eq_true->eO,all_nil->sw,append_nil->hJ,drop_drop->y2,drop_eq_getElem_cons->aaB,drop_of_length_le->vO,drop_zero->pg,eq_nil_of_length_eq_zero->nF,flatten_cons->y3,getElem?_concat_length->SO,getElem?_eq_getElem->cx,getElem?_eq_none_iff->aoE,getElem?_eq_some_iff->cJ,getElem?_map->fL,getElem?_set_ne->bC,getElem?_set_self->bV,length_append->en,length_cons->eV,length_eq_one_iff->Ev,length_map->dj,length_nil->iP,length_set->vP,length_singleton->p8,map_append->gQ,map_cons->fM,map_eq_nil_iff->aoF,map_map->y6,map_nil->mI,map_set->xw,mem_append->gA,mem_cons->fB,mem_iff_getElem?->NM,mem_map->dZ,mem_of_getElem?->cE,mem_of_mem_drop->vQ,mem_or_eq_of_mem_set->SQ,mem_replicate->aoI,mem_singleton->dR,nil_append->gV,not_mem_nil->qD,pairwise_cons->aoJ,replicate->e3,set_eq_take_append_cons_drop->aoN,sum_cons->y8,sum_nil->GY,take_length->sy,take_of_length_le->n6,take_zero->tA
open Nat renaming add_assoc->nG,add_zero->uE,eq_zero_or_pos->Ct,le_refl->ck,le_trans->gY,lt_or_ge->d_,lt_succ_self->AX,min_eq_left->JR,mul_le_mul_right->pq,one_mul->Ex,reduceAdd->uF,reduceEqDiff->vT,reduceLT->vU,reduceLeDiff->vV,succ_mul->tB,zero_add->gF,zero_le->jR,zero_lt_succ->AY
open Ne renaming symm->eW
open Option renaming none->bn,some->a_
open Option.some renaming inj->mY
open Or renaming inl->bD,inr->bF
namespace Go.Proofs.YtgfjdechmbleeaaGreatDoor
open Go Go.bP Go.RowKit
section
variable{N i j:Nat}{l m:List Int}
def qc(N:Nat)(l:List Int):Prop:=l.Pairwise (· < ·)/\∀x∈l,(0:Int)<=x/\x<(N:Int)
def alP:∀(l:List Int) (a b:Int),a<=b->l.Pairwise (· < ·)->(∀x∈l,a<=x/\x<b)->(l.length:Int)<=b-a
 |[],a,b,h,_,_=>ah
 |x::r,a,b,h,J,O=>by
  rw[aoJ] at J;have Y:=O x af;have:=alP r (x+1) b aa J.2 λy hy=>⟨by have:=J.1 y hy;omega,(O y aT).2⟩;rw[eV];omega
def qc.len(h:qc N l):l.length<=N:=by
 have:=alP l 0 (N:Int) aa h.1 h.2;omega
def qc.nil(N:Nat):qc N []:=⟨List.Pairwise.nil,af⟩
def qc.one{n:Nat}(h:n<N):qc N [(n:Int)]:=⟨af,λx I=>by rw[dR.1 I];omega⟩
def qc.mono{M:Nat}(h:qc N l)(hm:N<=M):qc M l:=⟨h.1,λx I=>⟨(h.2 x I).1,by have:=(h.2 x I).2;omega⟩⟩
def YG{a:Int}(h:l.Pairwise (· < ·))(ha:l[i]?=a_ a):(∀y∈l.drop (i+1),a<y)/\(∀y∈l.drop i,a<=y)/\a∈l.drop i:=by
 have hl:=gl ha;have e:l.drop i=a::l.drop (i+1):=by
  rw[aaB hl];rw[cx hl] at ha;rw[mY ha]
 have hd:(l.drop i).Pairwise (· < ·):=h.sublist (List.drop_sublist i l);rw[e,aoJ] at hd;refine⟨hd.1,λy hy=>?_,by rw[e];simp⟩;rw[e] at hy
 rcases fB.1 hy with rfl|hy
 exact Cq _;exact Int.le_of_lt (hd.1 y hy)
def aka{y:Int}(h:i<=j)(hy:y∈l.drop j):y∈l.drop i:=by
 have e:l.drop j=(l.drop i).drop (j-i):=by rw[y2];congr 1;omega
 rw[e] at hy;exact vQ hy
structure A5(l m:List Int)(i j:Nat)(o:List Int):Prop where
 Q:i<=l.length
 hj:j<=m.length
 hn:o.length<=i+j
 p:o.Pairwise (· < ·)
 hm:∀x∈o,x∈l\/x∈m
 a:∀x∈o,∀y∈l.drop i,x<y
 b:∀x∈o,∀y∈m.drop j,x<y
def A5.push{o:List Int}{i' j':Nat}{z:Int}(h:A5 l m i j o)(Y:i<=i')(V:j<=j')(h3:i'<=l.length)(h4:j'<=m.length)(h5:i+j<i'+j')(hz:z∈l.drop i\/z∈m.drop j)(ha:∀y∈l.drop i',z<y)(O:∀y∈m.drop j',z<y):A5 l m i' j' (o++[z]):=by
 refine⟨h3,h4,?_,?_,?_,?_,?_⟩;have:=h.hn;rw[en,p8];omega;rw[List.pairwise_append];refine⟨h.p,af,λx I y hy=>?_⟩;rw[dR.1 hy];exact hz.elim (h.a x I z) (h.b x I z);intro x I
 rcases gA.1 I with q|q
 exact h.hm x q;rw[dR.1 q];exact hz.elim (λq=>bD (vQ q)) λq=>bF (vQ q);intro x I y hy
 rcases gA.1 I with q|q
 exact h.a x q y (aka Y hy);rw[dR.1 q];exact ha y hy;intro x I y hy
 rcases gA.1 I with q|q
 exact h.b x q y (aka V hy);rw[dR.1 q];exact O y hy
def adU(h:l.length<=i){P:Int->Prop}:∀y∈l.drop i,P y:=λy hy=>by
 rw[vO h] at hy;cases hy
def aph(N:Nat)(r:bg):Prop:=∃o:List Int,cG r (o.map bq)/\qc N o
def aAK{G:Cells}{v w:bg}(hv:cG v (l.map bq))(hw:cG w (m.map bq))(hl:qc N l)(hm:qc N m)(hN:N<=1000000):dA G bE 154 [v,w] (aph N):=by
 have oX:=hl.len;have nv:=hm.len;refine dX (axZ.go ?_);have ln:=hv.cN;rw[dj] at ln;have lC:∀J,cN v J=a_ (.v (.int .i64 (l.length:Int)),J):=λJ=>aHC
 have lm:=hw.cN;rw[dj] at lm;have F7:∀J,cN w J=a_ (.v (.int .i64 (m.length:Int)),J):=λJ=>by rw[lm J,mq]
 refine wy ?_;refine o9 (n:=l.length+m.length) (λk e h=>∃(i j:Nat) (o:List Int) (bx:bg),k=(l.length-i)+(m.length-j)/\A5 l m i j o/\e=[(0,v),(1,w),(5,bx),(6,bq i),(7,bq j)]/\cV h bx (o.map bq) 1 3) ⟨0,0,[],.bp,rfl,⟨aa,aa,af,List.Pairwise.nil,af,af,af⟩,rfl,sr _ _ _⟩ ?_;rintro k e h ⟨i,j,o,bx,rfl,hI,rfl,hA⟩;have Q:=hI.Q;have hj:=hI.hj;have ho:=hI.hn;have push:∀z:Int,∃cj g,eu h 1 8 3 bx (.sl [.v (.int .i64 z)] .exact)=a_ (cj,g)/\cV g cj ((o++[z]).map bq) 1 3:=λz=>by
  obtain⟨cj,g,e1,fo,_⟩:=ni (x:=.v (.int .i64 z)) (b6:=8) hA (Ge o) rfl ag ag ah;exact⟨cj,g,e1,aHz⟩
 have w1:dy.wrap ((i:Int)+1)=((i+1:Nat):Int):=lG aa;have w2:dy.wrap ((j:Int)+1)=((j+1:Nat):Int):=lG aa
 rcases d_ i l.length with hi2|hi2
 obtain⟨a,ha⟩:=cO hi2;have LZ:cA 1 v (.v (.int .i64 (i:Int)))=a_ (.fp [bq a] 0):=hv.cI (x:=bq a) (by simp[ha]) rfl;unfold bq at LZ;obtain⟨a1,a2,a3⟩:=YG hl.1 ha;obtain⟨cj,g,e1,e2⟩:=push a
 rcases d_ j m.length with hj2|hj2
 obtain⟨b,O⟩:=cO hj2;have FT:cA 1 w (.v (.int .i64 (j:Int)))=a_ (.fp [bq b] 0):=hw.cI (x:=bq b) aIw rfl;unfold bq at FT;obtain⟨b1,b2,b3⟩:=YG hm.1 O;obtain⟨YJ,g2,d1,d2⟩:=push b
 rcases Int.lt_trichotomy a b with hab|hab|hab
 · have fin:A5 l m (i+1) j (o++[a]):=hI.push aa aa aa aa aa (bD a3) a1 λy hy=>Int.lt_of_lt_of_le hab (b2 y hy)
   refine vG @bq.eq_1 @lC @F7 @LZ @FT @e1 @d1 @w1 @w2 ?_
   repeat' ((refine ba (λq'=>?_) λq'=>?_)<;>refine oH (fH @lC @F7 @LZ @FT) @wH @zk @e1 @d1 @w1 @w2 ?_)
   all_goals first
    |(exfalso;omega)
    |exact⟨(l.length-(i+1))+(m.length-j),aa,i+1,j,o++[a],cj,rfl,fin,rfl,e2⟩
 · subst hab
   have fin:A5 l m (i+1) (j+1) (o++[a]):=hI.push aa aa aa aa aa (bD a3) a1 b1;have atS:(a==a)=bh:=beq_self_eq_true a;refine wy ?_
   repeat' ((refine ba (λq'=>?_) λq'=>?_)<;>refine oH (fH @lC @F7 @LZ @FT) @wH @zk @e1 @w1 @w2 @atS ?_)
   all_goals first
    |(exfalso;omega)
    |exact⟨(l.length-(i+1))+(m.length-(j+1)),aa,i+1,j+1,o++[a],cj,rfl,fin,rfl,e2⟩
 · have fin:A5 l m i (j+1) (o++[b]):=hI.push aa aa aa aa aa (bF b3) (λy hy=>Int.lt_of_lt_of_le hab (a2 y hy)) b1
   refine wy ?_
   repeat' ((refine ba (λq'=>?_) λq'=>?_)<;>refine oH (fH @lC @F7 @LZ @FT) @wH @zk @e1 @d1 @w1 @w2 ?_)
   all_goals first
    |(exfalso;omega)
    |exact⟨(l.length-i)+(m.length-(j+1)),aa,i,j+1,o++[b],YJ,rfl,fin,rfl,d2⟩
 have fin:A5 l m (i+1) j (o++[a]):=hI.push aa aa aa aa aa (bD a3) a1 (adU hj2);refine wy ?_;exact⟨(l.length-(i+1))+(m.length-j),aa,i+1,j,o++[a],cj,rfl,fin,rfl,e2⟩
 rcases d_ j m.length with hj2|hj2
 obtain⟨b,O⟩:=cO hj2;have FT:cA 1 w (.v (.int .i64 (j:Int)))=a_ (.fp [bq b] 0):=hw.cI (x:=bq b) aIw rfl;unfold bq at FT;obtain⟨b1,b2,b3⟩:=YG hm.1 O;obtain⟨YJ,g2,d1,d2⟩:=push b;have auK:((j:Int)==(m.length:Int))=bf:=Ov aa;have fin:A5 l m i (j+1) (o++[b]):=hI.push aa aa aa aa aa (bF b3) (adU hi2) b1;refine o_ @bq.eq_1 @lC @F7 @auK ?_;refine wy ?_;refine wy ?_;exact⟨(l.length-i)+(m.length-(j+1)),aa,i,j+1,o++[b],YJ,rfl,fin,rfl,d2⟩;refine wy ?_;have hR:qc N o:=⟨hI.p,λx I=>(hI.hm x I).elim (hl.2 x) (hm.2 x)⟩
 rcases hA with⟨rfl,z⟩|⟨id,rfl,_⟩
 obtain⟨n,hn⟩:=(eB:b8 h _ _).done;exact⟨n,_,hn,[],bF ⟨rfl,rfl⟩,qc.nil N⟩;obtain⟨n,hn⟩:=(gP (t:=.tok id) (iW (f:=bq) (l:=o) λa _=>bH _):b8 h _ _).done;exact⟨n,_,hn,o,bD rfl,hR⟩
end
section
variable{bv ev fv o0 bx v w gI xf:bg}{M N bz dW:Nat}{G:Cells}{J bl:List br}{Z z:List bg}{em qB:Bool}
def qb(v:bg)(l:List Int):Prop:=(v=.bp/\l=[])\/∃t,v=.sl (l.map bq) t
def aqR(l:List Int):∀x∈l.map bq,∀c∈x.cells,eP c:=λx I c T=>by
 obtain⟨t,_,rfl⟩:=dZ.1 I;rw[dR.1 (show c∈[bq t] from T)];exact dz _
section
variable{v:bg}{l:List Int}
def qb.imp(h:qb v l):∃v',mc v v'/\cG v' (l.map bq):=by
 rcases h with⟨rfl,rfl⟩|⟨t,rfl⟩
 exact⟨.bp,od,bF ⟨rfl,rfl⟩⟩;exact⟨.sl (l.map bq) .no,lQ (aqR l),bD rfl⟩
def qb.one(h:qb v l):cr v=bh:=by rcases h with⟨rfl,_⟩|⟨t,rfl⟩<;>rfl
@[go_sem]def qb.len(h:qb v l)(J:List br):cN v J=a_ (.v (.int .i64 (l.length:Int)),J):=by
 rcases h with⟨rfl,rfl⟩|⟨t,rfl⟩
 rfl;rw[qq,dj,mq]
@[go_sem]def qb.cI(h:qb v l){i:Nat}{x:Int}(I:l[i]?=a_ x):cA 1 v (.v (.int .i64 (i:Int)))=a_ (.fp [.v (.int .i64 x)] 0):=by
 rcases h with⟨rfl,rfl⟩|⟨t,rfl⟩
 simp at I;exact mP (x:=bq x) aA rfl
def qb.fz(h:qb v l)(J:List br):∃v',b8 J v v'/\cG v' (l.map bq):=by
 rcases h with⟨rfl,rfl⟩|⟨t,rfl⟩
 exact⟨.bp,eB,bF ⟨rfl,rfl⟩⟩;exact⟨_,gP (iW (f:=bq) (l:=l) λa _=>bH _),bD rfl⟩
def yF(h:cG v (l.map bq)):qb v l:=by
 rcases h with rfl|⟨rfl,q⟩
 exact bF ⟨_,rfl⟩;exact bD ⟨rfl,aoF.1 q⟩
end
def qI(h:cr w=bh):w.cells=[w]:=by cases w<;>first|rfl|cases h
def hY(N:Nat)(v:bg):Prop:=∃l,qb v l/\qc N l
def hY.nil(N:Nat):hY N .bp:=⟨[],bD ⟨rfl,rfl⟩,qc.nil N⟩
def hY.one(h:hY N v):cr v=bh:=by obtain⟨l,Y,_⟩:=h;exact Y.one
def hY.mono(h:hY N v)(hm:N<=M):hY M v:=by obtain⟨l,Y,V⟩:=h;exact⟨l,Y,V.mono hm⟩
def I2{K:bg->List br->Prop}(hv:hY N v)(hw:hY N w)(hN:N<=256)(S:∀r,hY N r->K r J):cy G bE 154 [v,w] J K:=by
 obtain⟨l,Y,V⟩:=hv;obtain⟨m,k1,k2⟩:=hw;obtain⟨v',a1,a2⟩:=Y.imp;obtain⟨w',b1,b2⟩:=k1.imp;exact ek (aAK a2 b2 V k2 aa) λr ⟨o,q1,bt⟩=>S r ⟨o,(yF q1),bt⟩
def mK(N M:Nat)(bv:bg)(J:List br):Prop:=∃Z:List bg,Z.length=M/\(∀c∈Z,hY N c)/\((bv=.bp/\Z=[])\/∃k,bv=.rs k M 1 0 M/\J[k]?=a_ (.cells Z bh))
@[go_sem]def MJ{p:Nat}{r:bg}(h:p<Z.length):dN Z p [r]=Z.set p r:=by
 rw[aoN,if_pos h];unfold dN;simp
section
variable{N M p:Nat}{bv:bg}{J bl:List br}
def mK.ext(h:mK N M bv J)(S:∀(j:Nat) Z,J[j]?=a_ (.cells Z bh)->bl[j]?=a_ (.cells Z bh)):mK N M bv bl:=by
 obtain⟨Z,Y,V,h3⟩:=h;refine⟨Z,Y,V,h3.elim bD ?_⟩;rintro⟨k,e,q⟩;exact bF ⟨k,e,S k Z q⟩
def mK.mono{N':Nat}(h:mK N M bv J)(hN:N<=N'):mK N' M bv J:=by
 obtain⟨Z,Y,V,h3⟩:=h;exact⟨Z,Y,λc T=>(V c T).mono hN,h3⟩
def mK.one(h:mK N M bv J):cr bv=bh:=by
 obtain⟨Z,_,_,⟨rfl,_⟩|⟨k,rfl,_⟩⟩:=h<;>rfl
structure J_(J bl:List br):Prop where
 len:bl.length=J.length
 keep:∀(j:Nat) b,J[j]?=a_ b->(∀Z,b≠.cells Z bh)->bl[j]?=a_ b
def mK.at(h:mK N M bv J)(agm:p<M):∃k c,cA 1 bv (.v (.int .i64 (p:Int)))=a_ (.rp k M p)/\bA J bf 1 (.rp k M p)=a_ c/\hY N c/\∀r,hY N r->∃bl,bL J 1 (.rp k M p) r=a_ bl/\mK N M bv bl/\J_ J bl:=by
 obtain⟨Z,Y,V,⟨rfl,rfl⟩|⟨k,rfl,S⟩⟩:=h;simp at Y;omega;subst Y;have cQ:p<Z.length:=agm;obtain⟨c,T⟩:=cO cQ;have eS:=gl S;refine⟨k,c,?_,?_,V c (cE T),λr D=>⟨J.set k (.cells (Z.set p r) bh),?_,⟨Z.set p r,by rw[vP],λx I=>?_,bF ⟨k,rfl,bV eS⟩⟩,⟨by rw[vP],λj b hj O=>?_⟩⟩⟩;have:=RJ (k:=k) (m:=Z.length) (n:=1) (len:=Z.length) (j:=p) agm;rw[Nat.mul_one] at this;exact this;simp only[bA,S,if_true,eZ];rw[if_neg af];exact T;have eL:=qI D.one;simp only[bL,S,if_true,e5,eL];rw[if_pos ⟨rfl,aa,by simp[D.one]⟩,MJ cQ]
 rcases SQ I with q|rfl
 exact V x q;exact D;rw[bC aIm];exact hj
end
section
variable{h:List br}{k:Nat}{a b c d e w:bg}
@[go_sem]def jC(O:h[k]?=a_ (.cells [a,b,c,d,e] bf)):bA h bf 1 (.mp k 0)=a_ a/\bA h bf 1 (.mp k 1)=a_ b/\bA h bf 1 (.mp k 2)=a_ c/\bA h bf 1 (.mp k 3)=a_ d/\bA h bf 1 (.mp k 4)=a_ e/\bA h bh 5 (.mp k 0)=a_ (.agg [a,b,c,d,e]):=by
 simp only[bA,O];exact⟨rfl,rfl,rfl,rfl,rfl,rfl⟩
@[go_sem]def qt(O:h[k]?=a_ (.cells [a,b,c,d,e] bf))(hw:cr w=bh):bL h 1 (.mp k 0) w=a_ (h.set k (.cells [w,b,c,d,e] bf))/\bL h 1 (.mp k 1) w=a_ (h.set k (.cells [a,w,c,d,e] bf))/\bL h 1 (.mp k 2) w=a_ (h.set k (.cells [a,b,w,d,e] bf))/\bL h 1 (.mp k 3) w=a_ (h.set k (.cells [a,b,c,w,e] bf))/\bL h 1 (.mp k 4) w=a_ (h.set k (.cells [a,b,c,d,w] bf)):=by
 have eL:=qI hw;refine⟨?_,?_,?_,?_,?_⟩<;>simp only[bL,O,e5,eL]<;>simp[hw,dN]
@[go_sem]def Mk{a' b' c' d' e':bg}(O:h[k]?=a_ (.cells [a,b,c,d,e] bf))(hw:[a',b',c',d',e'].all cr=bh):bL h 5 (.mp k 0) (.agg [a',b',c',d',e'])=a_ (h.set k (.cells [a',b',c',d',e'] bf)):=by
 have eL:(dD [a',b',c',d',e']).cells=[a',b',c',d',e']:=rfl;simp only[bL,O,e5,eL];rw[if_pos ⟨rfl,af,hw⟩];simp[dN]
end
structure jg(dW:Nat)(J bl:List br):Prop where
 len:J.length<=bl.length
 keep:∀(j:Nat) b,J[j]?=a_ b->j≠dW->(∀Z,b≠.cells Z bh)->bl[j]?=a_ b
def jg.refl(dW:Nat)(J:List br):jg dW J J:=⟨ck _,λ_ _ h _ _=>h⟩
def jg.app{x:List br}:jg dW J (J++x):=⟨af,λ_ _ h _ _=>bU h⟩
def jg.trans{a b c:List br}(h:jg dW a b)(k:jg dW b c):jg dW a c:=⟨gY h.len k.len,λj x q Y V=>k.keep j x (h.keep j x q Y V) Y V⟩
def J_.aDT(h:J_ J bl):jg dW J bl:=⟨by rw[h.len];exact ck _,λj b q _ V=>h.keep j b q V⟩
def jg.set{b:br}:jg dW J (J.set dW b):=⟨af,λj x q Y _=>by rw[bC (eW Y)];exact q⟩
structure CE(N M dW:Nat)(o0 bv:bg)(J:List br)(xc:List bg)(fv ev:bg)(em:Bool)(h:List br):Prop where
 o:h[dW]?=a_ (.cells [o0,bv,fv,ev,.v (.bool em)] bf)
 x:h[J.length]?=a_ (.cells xc bf)
 b:mK N M bv h
 k:jg dW J h
def CE.put{h:List br}{xc:List bg}(s:CE N M dW o0 bv J xc fv ev em h)(hl:dW<J.length)(lg mT:bg)(wC:Bool):CE N M dW o0 bv J xc lg mT wC (h.set dW (.cells [o0,bv,lg,mT,.v (.bool wC)] bf)):=by
 have S:=gl s.o;refine⟨bV S,by rw[bC aa];exact s.x,s.b.ext λj Z q=>?_,s.k.trans jg.set⟩;rw[bC (by rintro rfl;rw[s.o] at q;simp at q)];exact q
def aDU(O:J[dW]?=a_ (.cells [o0,bv,fv,ev,.v (.bool em)] bf))(hf:hY N fv)(he:hY N ev)(hB:mK N M bv J)(qo:hY N xf)(oB:hY N gI)(aF9:N<=M)(hN:N<=256):
  cy G bE 208 [.mp dW 0,.agg [.bp,.bp,xf,gI,.v (.bool qB)]] J λr bl=>r=.bQ []/\∃lg mT wC,bl[dW]?=a_ (.cells [o0,bv,lg,mT,.v (.bool wC)] bf)/\hY N lg/\hY N mT/\mK N M bv bl/\jg dW J bl:=by
 have eS:=gl O;refine ax8.go ?_;refine eE (λe h=>e=[(0,.mp dW 0),(3,.mp J.length 0)]/\CE N M dW o0 bv J [.bp,.bp,xf,gI,.v (.bool qB)] fv ev em h) ?_ ?_;refine wx ?_;exact⟨trivial,bU O,af,hB.ext λj Z q=>bU q,jg.app⟩;rintro e h0 ⟨rfl,mV⟩;obtain⟨el,Dh,z1⟩:=he;have sW:=z1.len;refine eE (λe h=>e=[(0,.mp dW 0),(3,.mp J.length 0)]/\CE N M dW o0 bv J [.bp,.bp,xf,gI,.v (.bool qB)] fv ev em h) ?_ ?_;refine wy ?_;refine dx (λi e h=>e=[(0,.mp dW 0),(3,.mp J.length 0),(4,bq i)]/\CE N M dW o0 bv J [.bp,.bp,xf,gI,.v (.bool qB)] fv ev em h) el.length ⟨rfl,mV⟩ ?_ ?_;rintro i e h Q ⟨rfl,s⟩;obtain⟨x,I⟩:=cO Q;obtain⟨x0,x1⟩:=z1.2 x (cE I);obtain⟨p,rfl⟩:=oI x0;obtain⟨k,c,a1,a2,a3,a4⟩:=s.b.at (p:=p) aa;obtain⟨l0,l1,l2,l3,l4,_⟩:=jC s.o;obtain⟨m0,m1,m2,m3,m4,_⟩:=jC s.x;have av7:=Dh.cI I;refine sn @Dh.len (I2 a3 qo hN λr D=>?_);obtain⟨h',b1,b2,b3⟩:=a4 r D;refine oH (fH @bq.eq_1 @l1 @l3 @Dh.len) @av7 @a1 @a2 @m2 @b1 @td ?_;exact⟨b3.keep _ _ s.o af,b3.keep _ _ s.x af,b2,s.k.trans b3.aDT⟩;rintro e h ⟨rfl,s⟩;obtain⟨l0,l1,l2,l3,l4,_⟩:=jC s.o;refine iF @bq.eq_1 @l3 ?_;exact⟨trivial,s⟩;rintro e Y ⟨rfl,s1⟩;refine eE (λe h=>e=[(0,.mp dW 0),(3,.mp J.length 0)]/\∃lg,hY N lg/\CE N M dW o0 bv J [.bp,.bp,xf,gI,.v (.bool qB)] lg ev em h) ?_ ?_;obtain⟨l0,l1,l2,l3,l4,_⟩:=jC s1.o;obtain⟨m0,m1,m2,m3,m4,_⟩:=jC s1.x;cases em with
 |false=>
  refine wx ?_;exact⟨trivial,fv,hf,s1⟩
 |true=>
  refine wy (I2 hf qo hN λr D=>?_);obtain⟨t0,t1,t2,t3,t4⟩:=qt s1.o D.one;refine wx ?_;exact⟨trivial,r,D,s1.put eS r ev bh⟩
 rintro e V ⟨rfl,lg,eM,s2⟩;have he:hY N ev:=⟨el,Dh,z1⟩;refine eE (λe h=>e=[(0,.mp dW 0),(3,.mp J.length 0)]/\∃mT,hY N mT/\CE N M dW o0 bv J [.bp,.bp,xf,gI,.v (.bool qB)] lg mT em h) ?_ ?_;obtain⟨l0,l1,l2,l3,l4,_⟩:=jC s2.o;obtain⟨m0,m1,m2,m3,m4,_⟩:=jC s2.x;cases qB with
 |false=>
  obtain⟨t0,t1,t2,t3,t4⟩:=qt s2.o oB.one;refine wx ?_;exact⟨trivial,gI,oB,s2.put eS lg gI em⟩
 |true=>
  refine wy (I2 he oB hN λr D=>?_);obtain⟨t0,t1,t2,t3,t4⟩:=qt s2.o D.one;refine wx ?_;exact⟨trivial,r,D,s2.put eS lg r em⟩
 rintro e h3 ⟨rfl,mT,u_,eK⟩;obtain⟨l0,l1,l2,l3,l4,_⟩:=jC eK.o;obtain⟨m0,m1,m2,m3,m4,_⟩:=jC eK.x;have fin:∀b:Bool,bL h3 1 (.mp dW 4) (.v (.bool b))=a_ (h3.set dW (.cells [o0,bv,lg,mT,.v (.bool b)] bf)):=λb=>(qt eK.o (w:=.v (.bool b)) rfl).2.2.2.2;have KS:∀b:Bool,∃aeT aea arL,(h3.set dW (.cells [o0,bv,lg,mT,.v (.bool b)] bf))[dW]?=a_ (.cells [o0,bv,aeT,aea,.v (.bool arL)] bf)/\hY N aeT/\hY N aea/\mK N M bv (h3.set dW (.cells [o0,bv,lg,mT,.v (.bool b)] bf))/\jg dW J (h3.set dW (.cells [o0,bv,lg,mT,.v (.bool b)] bf)):=λb=>by
  have q:=eK.put eS lg mT b;exact⟨lg,mT,b,q.o,eM,u_,q.b,q.k⟩
 cases em with
 |false=>
  refine iF @l4 @fin ?_;exact⟨trivial,KS _⟩
 |true=>
  refine iu @l4 @m4 @fin ?_;exact⟨trivial,KS _⟩
structure tF(bz:Nat)(z:List bg)(N:Nat)(bx bv:bg)(J:List br):Prop where
 b:J[bz]?=a_ (.cells (bx::bv::z) bf)
 on:∃xs,cV J bx xs 1 123/\xs.length=N/\∀x∈xs,∃l,qb x l/\l.length<=256/\∀y∈l,(0:Int)<=y/\y<256
 cu:mK N N bv J
def tF.oG(h:tF bz z N bx bv J)(S:jg dW J bl)(ho:J[dW]?=a_ (.cells Z bf))(bR:dW≠bz)(hB:mK N N bv bl):tF bz z N bx bv bl:=by
 refine⟨S.keep _ _ h.b (eW bR) af,?_,hB⟩;obtain⟨xs,Y,V,h3⟩:=h.on;refine⟨xs,Y.elim bD ?_,V,h3⟩;rintro⟨id,q1,bt⟩;exact bF ⟨id,q1,S.keep _ _ bt (by rintro rfl;rw[ho] at bt;cases bt) af⟩
def aCx(hX:tF bz z N bx bv J)(O:J[dW]?=a_ (.cells [.bp,.bp,fv,ev,.v (.bool em)] bf))(bR:dW≠bz)(hf:hY N fv)(he:hY N ev)(qo:hY N xf)(oB:hY N gI)(hN:N<=256):
  cy G bE 155 [.mp bz 0,.mp dW 0,.agg [.bp,.bp,xf,gI,.v (.bool qB)]] J λr bl=>r=.bQ []/\tF bz z N bx bv bl/\jg dW J bl/\∃lg mT wC,bl[dW]?=a_ (.cells [.bp,.bp,lg,mT,.v (.bool wC)] bf)/\hY N lg/\hY N mT:=by
 have eS:=gl O;refine ax0.go ?_;have jq:(dD [.bp,.bp,xf,gI,.v (.bool qB)]).cells=[.bp,.bp,xf,gI,.v (.bool qB)]:=rfl;have g1:(J++[bw [.bp,.bp,xf,gI,.v (.bool qB)] bf])[dW]?=a_ (.cells [.bp,.bp,fv,ev,.v (.bool em)] bf):=bU O;have g2:(J++[bw [.bp,.bp,xf,gI,.v (.bool qB)] bf])[bz]?=a_ (.cells (bx::bv::z) bf):=bU hX.b;have g3:(J++[bw [.bp,.bp,xf,gI,.v (.bool qB)] bf])[J.length]?=a_ (.cells [.bp,.bp,xf,gI,.v (.bool qB)] bf):=af
 have k1:jg dW J (J++[bw [.bp,.bp,xf,gI,.v (.bool qB)] bf]):=jg.app;have NO:mK N N bv (J++[bw [.bp,.bp,xf,gI,.v (.bool qB)] bf]):=hX.cu.ext λj Z q=>bU q;refine q7 ?_;generalize J++[bw [.bp,.bp,xf,gI,.v (.bool qB)] bf]=g at g1 g2 g3 k1 NO⊢;obtain⟨t0,t1,t2,t3,t4⟩:=qt g1 hX.cu.one;have kH:=gl g1;have u1:(g.set dW (.cells [.bp,bv,fv,ev,.v (.bool em)] bf))[dW]?=a_ (.cells [.bp,bv,fv,ev,.v (.bool em)] bf):=bV kH;have u2:(g.set dW (.cells [.bp,bv,fv,ev,.v (.bool em)] bf))[J.length]?=a_ (.cells [.bp,.bp,xf,gI,.v (.bool qB)] bf):=by rw[bC aa];exact g3
 have k2:jg dW J (g.set dW (.cells [.bp,bv,fv,ev,.v (.bool em)] bf)):=k1.trans jg.set;have oK:mK N N bv (g.set dW (.cells [.bp,bv,fv,ev,.v (.bool em)] bf)):=NO.ext λj Z q=>by
  rw[bC (by rintro rfl;rw[g1] at q;simp at q)];exact q
 refine wx (cm (aDU u1 hf he oK qo oB (ck _) hN) ?_);rintro _ g4 ⟨rfl,lg,mT,wC,v1,v2,v3,v4,v5⟩;have auy:=gl v1;have fX:jg dW J (g4.set dW (.cells [.bp,.bp,lg,mT,.v (.bool wC)] bf)):=(k2.trans v5).trans jg.set;have JU:mK N N bv (g4.set dW (.cells [.bp,.bp,lg,mT,.v (.bool wC)] bf)):=v4.ext λj Z q=>by
  rw[bC (by rintro rfl;rw[v1] at q;simp at q)];exact q
 refine ir ?_;exact⟨trivial,hX.oG fX O bR JU,fX,lg,mT,wC,bV auy,v2,v3⟩
end
open Go.Proofs.YtgfjdechmbleeaaGreatDoor.hY renaming nil->Er
section
variable{M N k bz dW m:Nat}{Z z:List bg}{g h h' J x:List br}
def ki(N:Nat)(Z:List bg):Prop:=∃f e b,Z=[.bp,.bp,f,e,.v (.bool b)]/\hY N f/\hY N e
def z5:List bg:=[.bp,.bp,.bp,.bp,.v (.bool bf)]
def ki.mono(h:ki N Z)(hm:N<=M):ki M Z:=by
 obtain⟨f,e,b,rfl,Y,V⟩:=h;exact⟨f,e,b,rfl,Y.mono hm,V.mono hm⟩
def ki.z5(N:Nat):ki N z5:=⟨_,_,_,rfl,Er N,Er N⟩
def ki.one(h:ki N Z):Z.length=5/\Z.all cr=bh:=by
 obtain⟨f,e,b,rfl,Y,V⟩:=h;refine⟨rfl,?_⟩;simp only[oJ,sw,Y.one,V.one];rfl
@[go_sem]def MD(h:ki N Z){cs0:List bg}(S:g[k]?=a_ (.cells cs0 bf))(h0:cs0.length=5):bL g 5 (.mp k 0) (.agg Z)=a_ (g.set k (.cells Z bf)):=by
 obtain⟨Y,V⟩:=h.one;simp only[bL,S,e5];have eL:(dD Z).cells=Z:=rfl;rw[eL,if_pos ⟨Y,aa,V⟩];unfold dN;rw[tA,gV,vO aa,hJ]
@[go_sem]def BT(h:ki N Z)(g:List br):bL (g++[.cells z5 bf]) 5 (.mp g.length 0) (.agg Z)=a_ (g++[.cells Z bf]):=by
 rw[MD h (cs0:=z5) af rfl];simp
@[go_sem]def yz(S:g[k]?=a_ (.cells Z bf))(h0:Z.length=5):bA g bh 5 (.mp k 0)=a_ (.agg Z):=by
 simp only[bA,S];unfold eZ;rw[if_pos rfl,if_pos aa,pg,n6 aa]
structure oL(bz:Nat)(J bl:List br):Prop where
 len:J.length<=bl.length
 zB:∀(j:Nat) Z,j≠bz->J[j]?=a_ (.cells Z bf)->bl[j]?=a_ (.cells Z bf)
 tok:∀(j:Nat) c,J[j]?=a_ (.tok c 5 138)->bl[j]?=a_ (.tok c 5 138)
def oL.refl(bz:Nat)(J:List br):oL bz J J:=⟨ck _,λ_ _ _ h=>h,λ_ _ h=>h⟩
def oL.trans{a b c:List br}(h:oL bz a b)(k:oL bz b c):oL bz a c:=⟨gY h.len k.len,λj x q bt=>k.zB j x q (h.zB j x q bt),λj x q=>k.tok j x (h.tok j x q)⟩
def oL.app:oL bz J (J++x):=⟨af,λ_ _ _ h=>bU h,λ_ _ h=>bU h⟩
def oL.oG(s:oL bz J h)(t:jg dW h h')(hl:J.length<=dW):oL bz J h':=⟨gY s.len t.len,λj Z q bt=>by
 have:=gl bt;exact t.keep j _ (s.zB j Z q bt) aa af,λj c bt=>by
 have:=gl bt;exact t.keep j _ (s.tok j c bt) aa af⟩
def kg(N:Nat)(h:List br)(m:Nat):Prop:=∃Z,h[m]?=a_ (.cells Z bf)/\ki N Z
def kg.mono(s:kg N h m)(hm:N<=M):kg M h m:=by
 obtain⟨Z,Y,V⟩:=s;exact⟨Z,Y,V.mono hm⟩
def kg.oG(s:kg N h m)(t:jg dW h h')(bR:m≠dW):kg N h' m:=by
 obtain⟨Z,Y,V⟩:=s;exact⟨Z,t.keep _ _ Y bR af,V⟩
def kg.lay(s:kg N h m)(t:oL bz h h')(bR:m≠bz):kg N h' m:=by
 obtain⟨Z,Y,V⟩:=s;exact⟨Z,t.zB _ _ bR Y,V⟩
def kg.app(s:kg N h m):kg N (h++x) m:=by
 obtain⟨Z,Y,V⟩:=s;exact⟨Z,bU Y,V⟩
def kg.new(s:ki N Z):kg N (h++[.cells Z bf]) h.length:=⟨Z,af,s⟩
def ru(bz:Nat)(z:List bg)(N:Nat)(J:List br):Prop:=∃bx bv,tF bz z N bx bv J
def ru.app(h:ru bz z N J):ru bz z N (J++x):=by
 obtain⟨bx,bv,h⟩:=h;refine⟨bx,bv,bU h.b,?_,h.cu.ext λj Z q=>bU q⟩;obtain⟨xs,Y,V,h3⟩:=h.on;refine⟨xs,Y.elim bD ?_,V,h3⟩;rintro⟨id,q1,bt⟩;exact bF ⟨id,q1,bU bt⟩
def ru.oG{bl:List br}(h:ru bz z N J)(S:jg dW J bl)(ho:J[dW]?=a_ (.cells Z bf))(bR:dW≠bz)(D:∀(j:Nat) Z,J[j]?=a_ (.cells Z bh)->bl[j]?=a_ (.cells Z bh)):ru bz z N bl:=by
 obtain⟨bx,bv,h⟩:=h;exact⟨bx,bv,h.oG S ho bR (h.cu.ext D)⟩
def ru.lt(h:ru bz z N J):bz<J.length:=by
 obtain⟨bx,bv,h⟩:=h;exact gl h.b
structure fP(bz:Nat)(z:List bg)(J:List br)(pc:List bg)(w:Nat)(h:List br):Prop where
 ff:ru bz z w h
 k:oL bz J h
 r:h[J.length]?=a_ (.cells z5 bf)
 p:h[J.length+1]?=a_ (.cells pc bf)
 o:kg w h (J.length+2)
 lt:bz<J.length
section
variable{bz:Nat}{z:List bg}{J h h' x:List br}{pc:List bg}{w w' dW m:Nat}{Z:List bg}
def fP.CR(s:fP bz z J pc w h):J.length+3<=h.length:=by
 obtain⟨Z,q,_⟩:=s.o;have:=gl q;omega
def fP.app(s:fP bz z J pc w h):fP bz z J pc w (h++x):=⟨s.ff.app,s.k.trans oL.app,bU s.r,bU s.p,s.o.app,s.lt⟩
def fP.lay(s:fP bz z J pc w h)(t:oL bz h h')(hn:ru bz z w' h')(hw:w<=w'):fP bz z J pc w' h':=
 have hl:=s.lt
 ⟨hn,s.k.trans t,t.zB _ _ aa s.r,t.zB _ _ aa s.p,(s.o.lay t aa).mono hw,hl⟩
def fP.oG(s:fP bz z J pc w h)(t:jg dW h h')(hl:J.length+2<=dW)(hn:ru bz z w h')(ho:kg w h' (J.length+2)):fP bz z J pc w h':=
 ⟨hn,s.k.oG t aa,t.keep _ _ s.r aa af,t.keep _ _ s.p aa af,ho,s.lt⟩
def fP.put(s:fP bz z J pc w h)(hm:kg w h m)(hl:J.length+2<=m)(T:ki w Z):fP bz z J pc w (h.set m (.cells Z bf))/\kg w (h.set m (.cells Z bf)) m:=by
 obtain⟨c0,Y,V⟩:=hm;have nv:=gl Y;have cQ:=s.lt;have t:jg m h (h.set m (.cells Z bf)):=jg.set;have pV:kg w (h.set m (.cells Z bf)) m:=⟨Z,bV nv,T⟩;refine⟨s.oG t hl (s.ff.oG t Y aa λj c q=>aH2) ?_,pV⟩;by_cases e:J.length+2=m;rw[e];exact pV;exact s.o.oG t e
def fP.call(s:fP bz z J pc w h){G:Cells}(hm:kg w h m)(hl:J.length+2<=m)(T:ki w Z)(hw:w<=256){K:bg->List br->Prop}(hK:∀h',fP bz z J pc w h'->jg m h h'->kg w h' m->K (.bQ []) h'):cy G bE 155 [.mp bz 0,.mp m 0,.agg Z] h K:=by
 obtain⟨xf,gI,lH,rfl,qo,oB⟩:=T;obtain⟨_,Y,fv,ev,em,rfl,hf,he⟩:=hm;obtain⟨bx,bv,hX⟩:=s.ff;have cQ:=s.lt;refine cm (aCx hX Y aa hf he qo oB hw) ?_;rintro _ h' ⟨rfl,VB,t,lg,mT,wC,k1,k2,fX⟩;have pV:kg w h' m:=⟨_,k1,lg,mT,wC,rfl,k2,fX⟩;refine hK h' (s.oG t hl ⟨bx,bv,VB⟩ ?_) t pV;by_cases e:J.length+2=m;rw[e];exact pV;exact s.o.oG t e
def m_(B w:Nat)(h:List br)(rv:bg)(rs:List (List bg)):Prop:=((rv=.bp/\rs=[])\/∃id,rv=.sl (rs.map dD) (.tok id)/\B<=id/\h[id]?=a_ (.tok rs.length 5 138))/\∀c∈rs,ki w c
variable{B:Nat}{rv:bg}{rs:List (List bg)}
def m_.keep(s:m_ B w h rv rs)(hw:w<=w')(S:∀(j:Nat) c,h[j]?=a_ (.tok c 5 138)->h'[j]?=a_ (.tok c 5 138)):m_ B w' h' rv rs:=by
 refine⟨s.1.elim bD ?_,λc T=>(s.2 c T).mono hw⟩;rintro⟨id,q1,bt,bT⟩;exact bF ⟨id,q1,bt,S _ _ bT⟩
def m_.oG(s:m_ B w h rv rs)(t:jg dW h h'){c0:List bg}(ho:h[dW]?=a_ (.cells c0 bf)):m_ B w h' rv rs:=s.keep (ck _) λj c q=>t.keep _ _ q (by rintro rfl;rw[ho] at q;cases q) af
@[go_sem]def Mz:∀{rs:List (List bg)},(∀c∈rs,ki w c)->c8 5 (rs.map dD)=bh
 |[],_=>rfl
 |c::r,h=>by
  have ih:=Mz (rs:=r) λx I=>h x aA;obtain⟨Y,V⟩:=(h c af).one;simp only[c8,fM,oJ,jy,Y,V,beq_self_eq_true,Bool.and_self,Nv] at ih⊢;exact ih
def m_.cI(s:m_ B w h rv rs){i:Nat}{c:List bg}(T:rs[i]?=a_ c):cA 5 rv (.v (.int .i64 (i:Int)))=a_ (.fp c 0)/\(∀g,bA g bh 5 (.fp c 0)=a_ (.agg c))/\ki w c:=by
 have J:=s.2 c (cE T);obtain⟨Y,V⟩:=J.one;refine⟨?_,λg=>?_,J⟩
 rcases s.1 with⟨rfl,rfl⟩|⟨id,rfl,_⟩
 simp at T;exact mP (x:=.agg c) (by simp[T]) Y;simp only[bA];unfold eZ;rw[if_pos rfl,if_pos aa,pg,n6 aa]
def m_.push(s:m_ B w h rv rs)(hB:B<=h.length)(hn:rs.length<=1000)(T:ki w Z):∃B5 h',eu h 5 104 138 rv (.sl [.agg Z] .exact)=a_ (B5,h')/\m_ B w h' B5 (rs++[Z])/\h.length<=h'.length/\(∀(j:Nat) b,h[j]?=a_ b->(∀c,b≠.tok c 5 138)->h'[j]?=a_ b)/\∀(j:Nat) b,j<B->h[j]?=a_ b->h'[j]?=a_ b:=by
 have I:=Mz s.2;have hy:c8 5 [dD Z]=bh:=Mz (rs:=[Z]) (w:=w) (by simpa using T);have hfit:(rs.length+1)*104<=140737488355328:=aa
 have Ii:∀c∈rs++[Z],ki w c:=λc q=>(gA.1 q).elim (s.2 c) λq=>by rw[dR.1 q];exact T
 rcases s.1 with⟨rfl,rfl⟩|⟨id,rfl,hid,S⟩
 refine⟨.sl ([]++[.agg Z]) (.tok h.length),h++[.tok 1 5 138],?_,⟨bF ⟨h.length,rfl,hB,af⟩,Ii⟩,af,λj b q _=>bU q,λj b _ q=>bU q⟩;simp only[iP,gF] at hfit;simp[eu,gZ,iY,iK,hy];have hl:id<h.length:=gl S;refine⟨.sl (rs.map dD++[.agg Z]) (.tok id),h.set id (.tok (rs.length+1) 5 138),?_,⟨bF ⟨id,af,hid,aHS⟩,Ii⟩,af,λj b q bR=>?_,λj b hj q=>by rw[bC aa];exact q⟩;simp[eu,gZ,iY,iK,hy,hfit,I,S];rw[bC (λe=>aIT)];exact q
def fP.rest(s:fP bz z J pc w h)(hl:h.length<=h'.length)(k1:∀(j:Nat) b,h[j]?=a_ b->(∀c,b≠.tok c 5 138)->h'[j]?=a_ b)(k2:∀(j:Nat) b,j<J.length->h[j]?=a_ b->h'[j]?=a_ b):fP bz z J pc w h':=by
 refine⟨?_,⟨gY s.k.len hl,λj Z q bt=>k1 _ _ (s.k.zB j Z q bt) af,λj c bt=>k2 _ _ (gl bt) (s.k.tok j c bt)⟩,k1 _ _ s.r af,k1 _ _ s.p af,?_,s.lt⟩;obtain⟨bx,bv,hX⟩:=s.ff;refine⟨bx,bv,k1 _ _ hX.b af,?_,hX.cu.ext λj Z q=>k1 _ _ q af⟩;obtain⟨xs,Y,V,h3⟩:=hX.on;refine⟨xs,Y.elim bD ?_,V,h3⟩;rintro⟨id,q1,bt⟩;exact bF ⟨id,q1,k1 _ _ bt af⟩;obtain⟨Z,Y,V⟩:=s.o;exact⟨Z,k1 _ _ Y af,V⟩
end
def aa7(bz:Nat)(z:List bg)(J:List br)(M:Nat)(r:bg)(bl:List br):Prop:=∃Z,r=.agg Z/\ki M Z/\ru bz z M bl/\oL bz J bl
def G6(bz:Nat)(z:List bg)(J:List br)(M:Nat)(h:List br):Prop:=∃Z,h[J.length]?=a_ (.cells Z bf)/\ki M Z/\ru bz z M h/\oL bz J h
def J5(G:Cells)(bz:Nat)(z:List bg)(v lv:bg)(ps:List cM)(i:Int):Prop:=∀N J,ru bz z N J->N+cnt ps i<=256->
 cy G bE 89 [.mp bz 0,v,.v (.int .i64 i),lv] J (aa7 bz z J (N+cnt ps i))
def fP.fin{pc:List bg}{w:Nat}(s:fP bz z J pc w h)(T:ki w Z):bL h 5 (.mp J.length 0) (.agg Z)=a_ (h.set J.length (.cells Z bf))/\G6 bz z J w (h.set J.length (.cells Z bf)):=by
 have hl:=gl s.r;have t:jg J.length h (h.set J.length (.cells Z bf)):=jg.set;have cQ:=s.lt;refine⟨MD T s.r rfl,Z,bV hl,T,s.ff.oG t s.r aa λj c q=>?_,s.k.oG t (ck _)⟩;rw[bC (by rintro rfl;rw[s.r] at q;simp at q)];exact q
end
section
variable{N bz:Nat}{bv bx r:bg}{h:List br}{z:List bg}{p:cM}
def T_:eG:=ahc.e.c.tl.tl.tl
def Ub:eG:=T_.tl
def Uc:eG:=Ub.tl
def acP:eG:=Uc.tl.tl
@[go_sem]def Hp{w:bg}(h:cr w=bh):e9 1 [w]=a_ (.sl [w] .exact):=by
 have e:=qI h;unfold e9;rw[if_pos ⟨by simp[c8,e,h],af⟩]
@[go_sem]def Av{l:List bg}(h:∀x∈l,cr x=bh):c8 1 l=bh:=by
 rw[c8,eO];intro x I;have:=h x I;simp[qI this,this]
def mK.push(s:mK N N bv h)(hN:N<=1000)(D:hY (N+1) r):∃cT h',qG h 1 24 123 bv (.sl [r] .exact)=a_ (cT,h')/\mK (N+1) (N+1) cT h'/\h.length<=h'.length/\∀(j:Nat) b,h[j]?=a_ b->(∀Z,b≠.cells Z bh)->h'[j]?=a_ b:=by
 have T:=qI D.one;have ok:c8 1 [r]=bh:=Av λx I=>by rw[dR.1 I];exact D.one
 obtain⟨Z,Y,V,⟨rfl,rfl⟩|⟨k,rfl,S⟩⟩:=s;have atI:N=0:=by simpa using Y.symm
 subst atI;have hf:ey [r]=[r]:=by simp[ey,T]
 refine⟨.rs h.length 1 1 0 1,h++[.cells [r] bh],?_,⟨[r],rfl,by simpa using D,bF ⟨h.length,rfl,af⟩⟩,af,λj b q _=>bU q⟩;have h3:¬([r]=([]:List bg)):=af
 simp[qG,iK,ok,hf];have eS:=gl S;have hf:ey [r]=[r]:=by simp[ey,T]
 have b7:mE Z (N*1) (ey [r])=Z++[r]:=by
  unfold mE;rw[hf,n6 aa,vO aa,hJ]
 refine⟨.rs k (N+1) 1 0 (N+1),h.set k (.cells (Z++[r]) bh),?_,⟨Z++[r],aIu,λx I=>?_,bF ⟨k,rfl,bV eS⟩⟩,af,λj b hj O=>by
  rw[bC aIm];exact hj⟩
 have h3:¬([r]=([]:List bg)):=af
 show gZ h 1 24 123 (.rs k N 1 0 N) (.sl [r] .exact)=_;simp only[gZ,iK,iY,ok,h3,if_false,and_self,AY,if_true,true_and,S,eV,iP,b7];rw[if_pos aa];simp[Y]
 rcases gA.1 I with q|q
 exact(V x q).mono aa;rw[dR.1 q];exact D
def tF.place(s:tF bz z N bx bv h)(hN:N<=255)(D:∃l,qb r l/\l.length<=256/\∀y∈l,(0:Int)<=y/\y<256):
  ∃cR cT g1 g2 g3 g4,eu h 1 24 123 bx (.sl [r] .exact)=a_ (cR,g1)/\bL g1 1 (.mp bz 0) cR=a_ g2/\bA g2 bf 1 (.mp bz 1)=a_ bv/\qG g2 1 24 123 bv (.sl [.bp] .exact)=a_ (cT,g3)/\bL g3 1 (.mp bz 1) cT=a_ g4/\tF bz z (N+1) cR cT g4/\h.length<=g4.length/\
   ∀(j:Nat) b,h[j]?=a_ b->j≠bz->(∀Z,b≠.cells Z bh)->(∀c,b≠.tok c 1 123)->g4[j]?=a_ b:=by
 obtain⟨xs,hA,rU,Qo⟩:=s.on;have Dw:cr r=bh:=by obtain⟨l,q,_⟩:=D;exact q.one
 have f_:c8 1 xs=bh:=Av λx I=>by obtain⟨l,q,_⟩:=Qo x I;exact q.one
 have o1:c8 1 [r]=bh:=Av λx I=>by rw[dR.1 I];exact Dw
 obtain⟨cR,g1,e1,u6,bR,bK,gD⟩:=ni (x:=r) (b6:=24) hA f_ o1 ag ag aa;have ig:∀{j:Nat} {b:br},h[j]?=a_ b->(∀c,b≠.tok c 1 123)->∀ys,bx≠.sl ys (.tok j):=λ{j b} q O ys e=>by
  rcases hA with⟨q1,_⟩|⟨id,q1,bt⟩
  rw[q1] at e;cases e;rw[q1] at e;cases e;rw[bt] at q;cases q;exact O _ rfl
 have b1:g1[bz]?=a_ (.cells (bx::bv::z) bf):=gD _ _ s.b (ig s.b af)
 have ho:cr cR=bh:=by rcases u6 with⟨q,_⟩|⟨_,q,_⟩<;>rw[q]<;>rfl
 have auP:=gl b1;have s1:bL g1 1 (.mp bz 0) cR=a_ (g1.set bz (.cells (cR::bv::z) bf)):=by
  simp only[bL,b1,e5,qI ho];simp[ho,dN]
 have b2:(g1.set bz (.cells (cR::bv::z) bf))[bz]?=a_ (.cells (cR::bv::z) bf):=bV auP;have oK:mK N N bv (g1.set bz (.cells (cR::bv::z) bf)):=s.cu.ext λj Z q=>by
  rw[bC (by rintro rfl;rw[s.b] at q;simp at q)];exact gD _ _ q (ig q af)
 have l2:bA (g1.set bz (.cells (cR::bv::z) bf)) bf 1 (.mp bz 1)=a_ bv:=by simp only[bA,b2];rfl
 obtain⟨cT,g3,dc,JU,Dn,vb⟩:=oK.push (r:=.bp) aa (Er _);have b3:g3[bz]?=a_ (.cells (cR::bv::z) bf):=vb _ _ b2 af;have auQ:=gl b3;have eK:bL g3 1 (.mp bz 1) cT=a_ (g3.set bz (.cells (cR::cT::z) bf)):=by
  simp only[bL,b3,e5,qI JU.one];simp[JU.one,dN]
 refine⟨cR,cT,g1,_,g3,_,e1,s1,l2,dc,eK,⟨bV auQ,⟨xs++[r],?_,by simp[rU],λx I=>?_⟩,JU.ext λj Z q=>?_⟩,?_,λj b hj Y V h3=>?_⟩
 rcases u6 with q|⟨id,q1,bt⟩
 exact bD q;refine bF ⟨id,q1,?_⟩;have FA:bz≠id:=by rintro rfl;rw[b1] at bt;cases bt
 rw[bC FA];exact vb _ _ (by rw[bC FA];exact bt) af
 rcases gA.1 I with q|q
 exact Qo x q;rw[dR.1 q];exact D;rw[bC (by rintro rfl;rw[b3] at q;simp at q)];exact q;rw[vP];rw[vP] at Dn;omega;rw[bC (eW Y)];refine vb _ _ ?_ V;rw[bC (eW Y)];exact gD _ _ hj (ig hj h3)
@[go_sem]def tF.ay_(s:tF bz z N bx bv h)(g:List br):cN bx g=a_ (.v (.int .i64 (N:Int)),g):=by
 obtain⟨xs,hA,rU,_⟩:=s.on;rw[EO hA g,rU]
@[go_sem]def qp{X:List br}{k:Nat}(q:X[k]?=a_ (.cells p.cells bf)):bA X bf 1 (.mp k 0)=a_ (.v (.int .i64 p.kind))/\bA X bf 1 (.mp k 1)=a_ (.v (.int .i64 p.low))/\bA X bf 1 (.mp k 2)=a_ (.v (.int .i64 p.high))/\bA X bf 1 (.mp k 3)=a_ (bu p.name)/\bA X bf 1 (.mp k 4)=a_ p.kv:=by
 simp only[bA,q];exact⟨rfl,rfl,rfl,rfl,rfl⟩
@[go_sem]def ajw{j:Nat}{x:Int}(I:p.kids[j]?=a_ x):cA 1 p.kv (.v (.int .i64 (j:Int)))=a_ (.fp [.v (.int .i64 x)] 0):=by
 unfold cM.kv;split;rename_i z;rw[z] at I;simp at I;exact mP (x:=bq x) aJC rfl
section
variable{G:Cells}{bz N:Nat}{z:List bg}{J h0:List br}{v lv:bg}{ps:List cM}{p:cM}{hi:ng}
def axd{rows:List (List bg)}(Bu:cG lv (rows.map dD))(fO:eP lv)(Dp:∀x∈rows,v8 x)(oX:rows.length<=1000000000)(s:fP bz z J p.cells N h0)(S:p.kind=1)(hN:N+1<=256)(hQ:∀h',G6 bz z J (N+1) h'->hi .ret [(8,.mp J.length 0)] h'):
  @eg G bE bf T_ ⟨hi⟩ [(0,.mp bz 0),(1,v),(3,lv),(8,.mp J.length 0),(9,.mp (J.length+1) 0),(10,.mp (J.length+2) 0)] h0:=by
 conv in T_=>whnf
 obtain⟨d0,d1,d2,d3,d4⟩:=qp s.p;rw[S] at d0;obtain⟨bx,bv,hX⟩:=s.ff;have ay6:bA h0 bf 1 (.mp bz 0)=a_ bx:=by simp only[bA,hX.b];rfl
 refine nD ?_;refine ek (azU Bu Dp oX p.name) ?_;rintro r ⟨l,hl1,jP,rR⟩;have Dw:=(yF hl1).one;obtain⟨cR,cT,g1,g2,g3,g4,e1,e2,dc,eL,nk,VB,bK,sY⟩:=hX.place (r:=r) aa ⟨l,(yF hl1),jP,rR⟩;have cQ:=s.lt;have kr:fP bz z J p.cells (N+1) g4:=by
  refine⟨⟨_,_,VB⟩,⟨gY s.k.len bK,λj Z q bt=>sY _ _ (s.k.zB j Z q bt) q af af,λj c q=>sY _ _ (s.k.tok j c q) ?_ af af⟩,sY _ _ s.r aa af af,sY _ _ s.p aa af af,?_,cQ⟩;rintro rfl;have:=s.k.tok _ c q;rw[hX.b] at this;cases this;obtain⟨Z,q1,bt⟩:=s.o;exact⟨Z,sY _ _ q1 aa af af,bt.mono aa⟩
 obtain⟨_,ho,fv,ev,em,rfl,hf,he⟩:=kr.o;have jF:hY (N+1) (.sl [bq (N:Int)] .exact):=⟨[(N:Int)],bF ⟨_,rfl⟩,qc.one aa⟩;have VL:cr (.sl [bq (N:Int)] .exact)=bh:=rfl;unfold bq at jF VL;obtain⟨t0,t1,t2,t3,t4⟩:=qt ho VL;obtain⟨j_,pU⟩:=kr.put kr.o (ck _) (Z:=[.bp,.bp,.sl [.v (.int .i64 (N:Int))] .exact,ev,.v (.bool em)]) ⟨_,_,_,rfl,jF,he⟩;have Wu:(g4.set (J.length+2) (.cells [.bp,.bp,.sl [.v (.int .i64 (N:Int))] .exact,ev,.v (.bool em)] bf))[J.length+2]?=a_ (.cells [.bp,.bp,.sl [.v (.int .i64 (N:Int))] .exact,ev,.v (.bool em)] bf):=bV (gl ho);generalize Fy:g4.set (J.length+2) (.cells [.bp,.bp,.sl [.v (.int .i64 (N:Int))] .exact,ev,.v (.bool em)] bf)=g5 at j_ pU Wu t2;obtain⟨q6,u1,u2,u3,u4⟩:=qt Wu VL;have ak9:ki (N+1) [.bp,.bp,.sl [.v (.int .i64 (N:Int))] .exact,.sl [.v (.int .i64 (N:Int))] .exact,.v (.bool em)]:=⟨_,_,_,rfl,jF,jF⟩;obtain⟨mW,uh⟩:=j_.put pU (ck _) ak9;have agl:(g5.set (J.length+2) (.cells [.bp,.bp,.sl [.v (.int .i64 (N:Int))] .exact,.sl [.v (.int .i64 (N:Int))] .exact,.v (.bool em)] bf))[J.length+2]?=a_ (.cells [.bp,.bp,.sl [.v (.int .i64 (N:Int))] .exact,.sl [.v (.int .i64 (N:Int))] .exact,.v (.bool em)] bf):=bV (gl Wu);generalize auu:g5.set (J.length+2) (.cells [.bp,.bp,.sl [.v (.int .i64 (N:Int))] .exact,.sl [.v (.int .i64 (N:Int))] .exact,.v (.bool em)] bf)=g6 at mW uh agl u3;have F2:=(jC agl).2.2.2.2.2;obtain⟨f1,f2⟩:=mW.fin ak9;exact oH (fH @ay6 (Hp Dw) @e1 @e2) (fH @dc (Hp (w:=.bp) rfl) @eL @nk) @t2 @u3 @F2 @f1 @td (hQ _ f2)
def ax_(s:fP bz z J p.cells N h0)(S:p.kind=3)(ya:p.tail=.no)(eS:p.kids.length<=1000000000)(ih:∀x∈p.kids,J5 G bz z v lv ps x)(hN:N+(p.kids.map λk=>cnt ps k).sum<=256)(hQ:∀h',G6 bz z J (N+(p.kids.map λk=>cnt ps k).sum) h'->hi .ret [(8,.mp J.length 0)] h'):
  @eg G bE bf Ub ⟨hi⟩ [(0,.mp bz 0),(1,v),(3,lv),(8,.mp J.length 0),(9,.mp (J.length+1) 0),(10,.mp (J.length+2) 0)] h0:=by
 conv in Ub=>whnf
 obtain⟨d0,d1,d2,d3,d4⟩:=qp s.p;rw[S] at d0;refine wy ?_;refine dx (λj e h=>e=[(0,.mp bz 0),(1,v),(3,lv),(8,.mp J.length 0),(9,.mp (J.length+1) 0),(10,.mp (J.length+2) 0),(12,bq j)]/\fP bz z J p.cells (N+((p.kids.take j).map λk=>cnt ps k).sum) h) p.kids.length ⟨rfl,by simpa using s⟩ ?_ ?_;rintro j e h hj ⟨rfl,s⟩;obtain⟨x,I⟩:=cO hj;have xk:=yJ (f:=λk=>cnt ps k) I;have sl:=B7 (λk=>cnt ps k) p.kids (j+1);obtain⟨d0,d1,d2,d3,d4⟩:=qp s.p;refine nD (cm (ih x (cE I) _ h s.ff aa) ?_);rintro _ Y ⟨Z,rfl,T,hn,hL⟩;have s1:=s.lay hL hn aa;have jt:=BT T Y;unfold z5 at jt;have s2:fP bz z J p.cells _ (Y++[.cells Z bf]):=s1.app;have f_:(Y++[bw Z bf])[Y.length]?=a_ (.cells Z bf):=af
 have O:=s1.CR;obtain⟨xf,gI,lH,rfl,qo,oB⟩:=T;refine wy ?_;generalize Y.length=m at f_ O⊢;generalize Y++[bw [.bp,.bp,xf,gI,.v (.bool lH)] bf]=g at s2 f_⊢;obtain⟨_,ho,fv,ev,em,rfl,hf,he⟩:=s2.o;obtain⟨q0,q1,bt,bT,fh,_⟩:=jC ho;obtain⟨x0,x1,x2,x3,p7,_⟩:=jC f_;refine wy (I2 hf qo aa λr D=>?_);obtain⟨t0,t1,t2,t3,t4⟩:=qt ho D.one;obtain⟨eK,jH⟩:=s2.put s2.o (ck _) (Z:=[.bp,.bp,r,ev,.v (.bool em)]) ⟨_,_,_,rfl,D,he⟩;have Io:(g.set (J.length+2) (.cells [.bp,.bp,r,ev,.v (.bool em)] bf))[J.length+2]?=a_ (.cells [.bp,.bp,r,ev,.v (.bool em)] bf):=bV (gl ho);have Yo:(g.set (J.length+2) (.cells [.bp,.bp,r,ev,.v (.bool em)] bf))[m]?=a_ (.cells [.bp,.bp,xf,gI,.v (.bool lH)] bf):=by rw[bC aa];exact f_
 refine wy ?_;generalize g.set (J.length+2) (.cells [.bp,.bp,r,ev,.v (.bool em)] bf)=g' at eK jH Io Yo⊢;obtain⟨q0,q1,bt,bT,fh,_⟩:=jC Io;obtain⟨x0,x1,x2,x3,p7,_⟩:=jC Yo;refine wy (I2 he oB aa λr2 qT=>?_);obtain⟨t0,t1,t2,t3,t4⟩:=qt Io qT.one;obtain⟨kr,mC⟩:=eK.put jH (ck _) (Z:=[.bp,.bp,r,r2,.v (.bool em)]) ⟨_,_,_,rfl,D,qT⟩;have Wt:(g'.set (J.length+2) (.cells [.bp,.bp,r,r2,.v (.bool em)] bf))[J.length+2]?=a_ (.cells [.bp,.bp,r,r2,.v (.bool em)] bf):=bV (gl Io);have BS:(g'.set (J.length+2) (.cells [.bp,.bp,r,r2,.v (.bool em)] bf))[m]?=a_ (.cells [.bp,.bp,xf,gI,.v (.bool lH)] bf):=by rw[bC aa];exact Yo
 refine wy ?_;generalize g'.set (J.length+2) (.cells [.bp,.bp,r,r2,.v (.bool em)] bf)=g2 at kr mC Wt BS⊢;obtain⟨q0,q1,bt,bT,fh,_⟩:=jC Wt;obtain⟨x0,x1,x2,x3,p7,_⟩:=jC BS;have fin:∀b:Bool,bL g2 1 (.mp (J.length+2) 4) (.v (.bool b))=a_ (g2.set (J.length+2) (.cells [.bp,.bp,r,r2,.v (.bool b)] bf)):=λb=>(qt Wt (w:=.v (.bool b)) rfl).2.2.2.2;have KS:∀b:Bool,fP bz z J p.cells (N+((p.kids.take (j+1)).map λk=>cnt ps k).sum) (g2.set (J.length+2) (.cells [.bp,.bp,r,r2,.v (.bool b)] bf)):=λb=>by
  rw[xk,<-nG];exact(kr.put mC (ck _) (Z:=[.bp,.bp,r,r2,.v (.bool b)]) ⟨_,_,_,rfl,D,qT⟩).1
 cases em with
 |false=>
  refine iu @fh @p7 @fin ?_;exact⟨rfl,KS _⟩
 |true=>
  refine iu @fh @p7 @fin ?_;exact⟨rfl,KS _⟩
 rintro e h ⟨rfl,s⟩;rw[sy] at s;obtain⟨d0,d1,d2,d3,d4⟩:=qp s.p;obtain⟨Z,ho,T⟩:=s.o;obtain⟨f1,f2⟩:=s.fin T;exact p6 @bq.eq_1 @d4 (yj ya aa) (yz ho T.one.1) @f1 (hQ _ f2)
def axJ(s:fP bz z J p.cells N h0)(S:p.kind=2)(ya:p.tail=.no)(eS:p.kids.length<=1000000000)(ih:∀x∈p.kids,J5 G bz z v lv ps x)(hN:N+(p.kids.map λk=>cnt ps k).sum<=256)(hQ:∀h',G6 bz z J (N+(p.kids.map λk=>cnt ps k).sum) h'->hi .ret [(8,.mp J.length 0)] h'):
  @eg G bE bf Uc ⟨hi⟩ [(0,.mp bz 0),(1,v),(3,lv),(8,.mp J.length 0),(9,.mp (J.length+1) 0),(10,.mp (J.length+2) 0)] h0:=by
 conv in Uc=>whnf
 obtain⟨_,ho,fv,ev,em,rfl,hf,he⟩:=s.o;obtain⟨t0,t1,t2,t3,t4⟩:=qt ho (w:=.v (.bool bh)) rfl;obtain⟨s1,o1⟩:=s.put s.o (ck _) (Z:=[.bp,.bp,fv,ev,.v (.bool bh)]) ⟨_,_,_,rfl,hf,he⟩;obtain⟨d0,d1,d2,d3,d4⟩:=qp s1.p;rw[S] at d0;refine wy ?_;refine dx (λj e h=>e=[(0,.mp bz 0),(1,v),(3,lv),(8,.mp J.length 0),(9,.mp (J.length+1) 0),(10,.mp (J.length+2) 0),(14,bq j)]/\fP bz z J p.cells (N+((p.kids.take j).map λk=>cnt ps k).sum) h) p.kids.length ⟨rfl,by simpa using s1⟩ ?_ ?_;rintro j e h hj ⟨rfl,s⟩;obtain⟨x,I⟩:=cO hj;have xk:=yJ (f:=λk=>cnt ps k) I;have sl:=B7 (λk=>cnt ps k) p.kids (j+1);obtain⟨d0,d1,d2,d3,d4⟩:=qp s.p;refine nD (cm (ih x (cE I) _ h s.ff aa) ?_);rintro _ Y ⟨Z,rfl,T,hn,hL⟩;have s1:=s.lay hL hn aa;have jt:=BT T Y;unfold z5 at jt;have s2:fP bz z J p.cells _ (Y++[.cells Z bf]):=s1.app;have f_:(Y++[bw Z bf])[Y.length]?=a_ (.cells Z bf):=af
 refine hD (yz f_ T.one.1) (s2.call s2.o (ck _) T aa λh' eK _ _=>?_);refine ir ?_;refine⟨rfl,?_⟩;rw[xk,<-nG];exact eK;rintro e h ⟨rfl,s⟩;rw[sy] at s;obtain⟨d0,d1,d2,d3,d4⟩:=qp s.p;obtain⟨Z,ho,T⟩:=s.o;obtain⟨f1,f2⟩:=s.fin T;exact p6 @bq.eq_1 @d4 (yj ya aa) (yz ho T.one.1) @f1 (hQ _ f2)
end
end
section
variable{p:cM}
section
variable{bz:Nat}{z:List bg}{J h h':List br}{pc:List bg}{w:Nat}
def fP.aAH(s:fP bz z J pc w h)(t:J_ h h')(hn:ru bz z w h'):fP bz z J pc w h':=by
 refine⟨hn,⟨by rw[t.len];exact s.k.len,λj Z q bt=>t.keep _ _ (s.k.zB j Z q bt) af,λj c q=>t.keep _ _ (s.k.tok j c q) af⟩,t.keep _ _ s.r af,t.keep _ _ s.p af,?_,s.lt⟩;obtain⟨Z,q1,bt⟩:=s.o;exact⟨Z,t.keep _ _ q1 af,bt⟩
def fP.aqk(s:fP bz z J pc w h){p:Nat}(Iu:p<w):∃bv k c,bA h bf 1 (.mp bz 1)=a_ bv/\cA 1 bv (.v (.int .i64 (p:Int)))=a_ (.rp k w p)/\bA h bf 1 (.rp k w p)=a_ c/\hY w c/\∀r,hY w r->∃h',bL h 1 (.rp k w p) r=a_ h'/\fP bz z J pc w h'/\J_ h h':=by
 obtain⟨bx,bv,hX⟩:=s.ff;obtain⟨k,c,a1,a2,a3,a4⟩:=hX.cu.at Iu;refine⟨bv,k,c,by simp only[bA,hX.b];rfl,a1,a2,a3,λr D=>?_⟩;obtain⟨h',b1,b2,b3⟩:=a4 r D;refine⟨h',b1,s.aAH b3 ⟨bx,bv,b3.keep _ _ hX.b af,?_,b2⟩,b3⟩;obtain⟨xs,Y,V,h3⟩:=hX.on;refine⟨xs,Y.elim bD ?_,V,h3⟩;rintro⟨id,q1,bt⟩;exact bF ⟨id,q1,b3.keep _ _ bt af⟩
end
@[go_sem]def apA{N:Nat}{Z:List bg}(h:ki N Z):e9 5 [.agg Z]=a_ (.sl [.agg Z] .exact):=by
 unfold e9;rw[if_pos ⟨Mz (rs:=[Z]) (w:=N) aR,af⟩]
def azE(q:p.high<0):(if(1:Int)>p.low then 1 else p.low)=(p.many:Int):=by
 unfold Ep;rw[if_pos q];split<;>omega
def azG(q:¬p.high<0):p.high=(p.many:Int):=by
 unfold Ep;rw[if_neg q];omega
section
variable{G:Cells}{bz N:Nat}{z:List bg}{J h0:List br}{v lv:bg}{ps:List cM}{p:cM}{hi:ng}
def ayc{x:Int}{c:Nat}(s:fP bz z J p.cells N h0)(O:G3 p.low p.high)(x9:p.kids=[x])(T:cnt ps x=c)(ih:J5 G bz z v lv ps x)(hN:N+p.many*c<=256)(hQ:∀h',G6 bz z J (N+p.many*c) h'->hi .ret [(8,.mp J.length 0)] h'):
  @eg G bE bf acP ⟨hi⟩ [(0,.mp bz 0),(1,v),(3,lv),(8,.mp J.length 0),(9,.mp (J.length+1) 0),(10,.mp (J.length+2) 0)] h0:=by
 conv in acP=>whnf
 obtain⟨g_,i_,Bp⟩:=O;obtain⟨lw,P9⟩:=oI g_;have oZ:1<=p.many/\p.many<=20:=by
  unfold Ep;constructor<;>(split<;>(try split))<;>omega
 have P5:p.kids[0]?=a_ x:=by rw[x9];rfl
 have ayA:=ajw P5;have aGN:cA 1 p.kv (.v (.int .i64 0))=a_ (.fp [.v (.int .i64 x)] 0):=ayA;refine eE (λe h=>e=[(0,.mp bz 0),(1,v),(3,lv),(8,.mp J.length 0),(9,.mp (J.length+1) 0),(10,.mp (J.length+2) 0),(16,.v (.int .i64 p.high))]/\h=h0) ?_ ?_;obtain⟨d0,d1,d2,d3,d4⟩:=qp s.p;exact wx tt;rintro e h ⟨rfl,rfl⟩;refine eE (λe h'=>e=[(0,.mp bz 0),(1,v),(3,lv),(8,.mp J.length 0),(9,.mp (J.length+1) 0),(10,.mp (J.length+2) 0),(16,bq p.many)]/\h'=h) ?_ ?_;obtain⟨d0,d1,d2,d3,d4⟩:=qp s.p;have m0:rD bh [.v (.int .i64 p.low),.v (.int .i64 1)]=a_ (.v (.int .i64 (if(1:Int)>p.low then 1 else p.low))):=rfl;refine wy (cL (λq=>?_) λq=>?_);have q':p.high<0:=an
 rw[azE q'] at m0;exact iF @d1 @m0 rt;have q':¬p.high<0:=an
 rw[azG q'];exact wx rt;rintro e Y ⟨rfl,rfl⟩;refine eE (λe h'=>e=[(0,.mp bz 0),(1,v),(3,lv),(8,.mp J.length 0),(9,.mp (J.length+1) 0),(10,.mp (J.length+2) 0),(16,bq p.many),(17,.bp)]/\h'=Y) ?_ ?_;exact wx tt;rintro e V ⟨rfl,rfl⟩;refine eE (λe h=>∃rv rs,e=[(0,.mp bz 0),(8,.mp J.length 0),(9,.mp (J.length+1) 0),(10,.mp (J.length+2) 0),(16,bq p.many),(17,rv)]/\fP bz z J p.cells (N+p.many*c) h/\m_ J.length (N+p.many*c) h rv rs/\rs.length=p.many) ?_ ?_;refine wy ?_;refine dx (λj e h=>∃rv rs,e=[(0,.mp bz 0),(1,v),(3,lv),(8,.mp J.length 0),(9,.mp (J.length+1) 0),(10,.mp (J.length+2) 0),(16,bq p.many),(17,rv),(18,bq j)]/\fP bz z J p.cells (N+j*c) h/\m_ J.length (N+j*c) h rv rs/\rs.length=j) p.many ⟨.bp,[],rfl,by rw[Nat.zero_mul];exact s,⟨bD ⟨rfl,rfl⟩,af⟩,rfl⟩ ?_ ?_;rintro j e h hj ⟨rv,rs,rfl,s,hA,nw⟩;have af3:N+j*c+c<=256:=by
  have:(j+1)*c<=p.many*c:=pq _ hj;rw[tB] at this;omega
 have UT:N+(j+1)*c=N+j*c+c:=by rw[tB];omega
 rw[UT];have JA:dy.wrap ((j:Int)+1)=((j+1:Nat):Int):=lG aa;refine iq (λe h'=>e=[(0,.mp bz 0),(1,v),(3,lv),(8,.mp J.length 0),(9,.mp (J.length+1) 0),(10,.mp (J.length+2) 0),(16,bq p.many),(17,rv),(18,bq j)]/\h'=h) ?_ ?_;exact fy @bq.eq_1 tt;rintro e h' ⟨rfl,rfl⟩;refine eE (λe h=>∃rv rs,e=[(0,.mp bz 0),(1,v),(3,lv),(8,.mp J.length 0),(9,.mp (J.length+1) 0),(10,.mp (J.length+2) 0),(16,bq p.many),(17,rv),(18,bq j)]/\fP bz z J p.cells (N+j*c+c) h/\m_ J.length (N+j*c+c) h rv rs/\rs.length=j+1) ?_ ?_;rw[Ca];refine eE (λe h=>∃m Z,e=[(0,.mp bz 0),(1,v),(3,lv),(8,.mp J.length 0),(9,.mp (J.length+1) 0),(10,.mp (J.length+2) 0),(16,bq p.many),(17,rv),(18,bq j),(19,.mp m 0)]/\fP bz z J p.cells (N+j*c+c) h/\m_ J.length (N+j*c+c) h rv rs/\J.length+3<=m/\h[m]?=a_ (.cells Z bf)/\ki (N+j*c+c) Z) ?_ ?_;obtain⟨d0,d1,d2,d3,d4⟩:=qp s.p;refine wy (cm (ih _ h' s.ff aa) ?_);rw[T];rintro _ Y ⟨Z,rfl,jh,hn,hL⟩;have s1:=s.lay hL hn aa;have Vp:m_ J.length (N+j*c+c) Y rv rs:=hA.keep aa hL.tok;have jt:=BT jh Y;unfold z5 at jt;refine wy ?_;exact⟨_,Z,rfl,s1.app,Vp.keep (ck _) λj c q=>bU q,s1.CR,af,jh⟩;rintro e h3 ⟨m,Z,rfl,eK,qN,LG,f_,jh⟩;obtain⟨xf,gI,lH,rfl,qo,oB⟩:=jh;refine eE (λe h=>e=[(0,.mp bz 0),(1,v),(3,lv),(8,.mp J.length 0),(9,.mp (J.length+1) 0),(10,.mp (J.length+2) 0),(16,bq p.many),(17,rv),(18,bq j),(19,.mp m 0)]/\fP bz z J p.cells (N+j*c+c) h/\m_ J.length (N+j*c+c) h rv rs/\h[m]?=a_ (.cells [.bp,.bp,xf,gI,.v (.bool lH)] bf)) ?_ ?_;obtain⟨d0,d1,d2,d3,d4⟩:=qp eK.p;by_cases q:p.high<0;have w1:dy.wrap ((p.many:Int)-1)=((p.many-1:Nat):Int):=by rw[gN aa aa];omega
 by_cases bt:j=p.many-1;have bT:((j:Int)==((p.many-1:Nat):Int))=bh:=TY bt;obtain⟨el,Dh,z1⟩:=oB;have sW:=z1.len;refine yQ @bq.eq_1 @d2 @q @decide_true @w1 @bT ?_;refine dx (λi e h=>e=[(0,.mp bz 0),(1,v),(3,lv),(8,.mp J.length 0),(9,.mp (J.length+1) 0),(10,.mp (J.length+2) 0),(16,bq p.many),(17,rv),(18,bq j),(19,.mp m 0),(20,bq i)]/\fP bz z J p.cells (N+j*c+c) h/\m_ J.length (N+j*c+c) h rv rs/\h[m]?=a_ (.cells [.bp,.bp,xf,gI,.v (.bool lH)] bf)) el.length ⟨rfl,eK,qN,f_⟩ ?_ ?_;rintro i e h Q ⟨rfl,kr,Fj,BS⟩;obtain⟨y,hy⟩:=cO Q;obtain⟨y0,y1⟩:=z1.2 y (cE hy);obtain⟨pl,rfl⟩:=oI y0;obtain⟨bv,k,Ug,b0,a1,a2,a3,a4⟩:=kr.aqk (p:=pl) aa;obtain⟨x0,x1,x2,x3,p7,_⟩:=jC BS;refine yS @bq.eq_1 @b0 @x3 (Dh.cI hy) @a1 @a2 @x2 @true_and @and_true (I2 a3 qo aa λr D=>?_);obtain⟨h5,t1,t2,t3⟩:=a4 r D;refine oH (fH @bq.eq_1 @b0 @x3 @Dh.len) (Dh.cI hy) @a1 @a2 @x2 @t1 @td ?_;exact⟨t2,Fj.keep (ck _) λj c q=>t3.keep _ _ q af,t3.keep _ _ BS af⟩;rintro e h ⟨rfl,kr,Fj,BS⟩;obtain⟨x0,x1,x2,x3,p7,_⟩:=jC BS;refine iF @bq.eq_1 @x3 ?_;exact⟨trivial,kr,Fj,BS⟩;have bT:((j:Int)==((p.many-1:Nat):Int))=bf:=Ov bt;refine yQ @bq.eq_1 @d2 @q @decide_true @w1 @bT ?_;exact⟨trivial,eK,qN,f_⟩;refine o_ @bq.eq_1 @d2 @q @decide_false ?_;exact⟨trivial,eK,qN,f_⟩;rintro e h4 ⟨rfl,kr,Fj,BS⟩;have jh:ki (N+j*c+c) [.bp,.bp,xf,gI,.v (.bool lH)]:=⟨_,_,_,rfl,qo,oB⟩;obtain⟨B5,h5,nk,aoW,DL,vl,FY⟩:=Fj.push kr.k.len aa jh;refine wx ?_;exact⟨B5,_,rfl,kr.rest DL vl FY,aoW,by simp[nw]⟩;rintro e h ⟨rv,rs,rfl,s,hA,nw⟩;refine iF @bq.eq_1 @JA ?_;exact⟨rv,rs,rfl,s,hA,nw⟩;rintro e h ⟨rv,rs,rfl,s,hA,nw⟩;refine fy @bq.eq_1 ?_;exact⟨rv,rs,rfl,s,hA,nw⟩;rintro e h3 ⟨rv,rs,rfl,eK,qN,nw⟩;generalize hW:N+p.many*c=W at*;refine eE (λe h=>e=[(0,.mp bz 0),(8,.mp J.length 0),(9,.mp (J.length+1) 0),(10,.mp (J.length+2) 0),(16,bq p.many),(17,rv)]/\fP bz z J p.cells W h/\m_ J.length W h rv rs) ?_ ?_;refine wy ?_;refine dx (λi e h=>e=[(0,.mp bz 0),(8,.mp J.length 0),(9,.mp (J.length+1) 0),(10,.mp (J.length+2) 0),(16,bq p.many),(17,rv),(21,bq i)]/\fP bz z J p.cells W h/\m_ J.length W h rv rs) (min p.many lw) ⟨rfl,eK,qN⟩ ?_ ?_;rintro i e h Q ⟨rfl,s,hA⟩;obtain⟨d0,d1,d2,d3,d4⟩:=qp s.p;rw[P9] at d1;obtain⟨Z,jh⟩:∃Z,rs[i]?=a_ Z:=⟨rs[i],cx aa⟩;obtain⟨a1,a2,a3⟩:=hA.cI jh;have JA:dy.wrap ((i:Int)+1)=((i+1:Nat):Int):=lG aa;refine wy (s.call s.o (ck _) a3 hN λh' s' t pV=>?_);refine fy @JA ?_;obtain⟨c0,o1,_⟩:=s.o;exact⟨rfl,s',hA.oG t o1⟩;rintro e h ⟨rfl,s,hA⟩;obtain⟨d0,d1,d2,d3,d4⟩:=qp s.p;rw[P9] at d1
 rcases d_ lw p.many with q|q
 rw[Nat.min_eq_right aa];refine iF @bq.eq_1 @d1 ?_;exact⟨trivial,s,hA⟩;rw[JR q];refine fy @bq.eq_1 ?_;exact⟨trivial,s,hA⟩;rintro e h4 ⟨rfl,kr,Fj⟩;refine eE (λe h=>∃m,e=[(0,.mp bz 0),(8,.mp J.length 0),(9,.mp (J.length+1) 0),(10,.mp (J.length+2) 0),(16,bq p.many),(17,rv),(22,.mp m 0)]/\fP bz z J p.cells W h/\m_ J.length W h rv rs/\kg W h m/\J.length+3<=m) ?_ ?_;have Bf:ki W [.bp,.bp,.bp,.bp,.v (.bool bh)]:=⟨_,_,_,rfl,Er W,Er W⟩;have jt:=BT Bf h4;unfold z5 at jt;refine wy ?_;exact⟨_,rfl,kr.app,Fj.keep (ck _) λj c q=>bU q,kg.new Bf,kr.CR⟩;rintro e h5 ⟨mt,rfl,j_,atu,pU,Ah⟩;refine eE (λe h=>e=[(0,.mp bz 0),(8,.mp J.length 0),(10,.mp (J.length+2) 0),(22,.mp mt 0)]/\fP bz z J p.cells W h/\kg W h mt) ?_ ?_;refine wy ?_;refine dx (λi e h=>∃k:Int,k=(p.many:Int)-1-(i:Int)/\e=[(0,.mp bz 0),(8,.mp J.length 0),(9,.mp (J.length+1) 0),(10,.mp (J.length+2) 0),(17,rv),(22,.mp mt 0),(23,.v (.int .i64 k))]/\fP bz z J p.cells W h/\m_ J.length W h rv rs/\kg W h mt) (p.many-lw) ⟨_,aa,rfl,j_,atu,pU⟩ ?_ ?_;rintro i e h Q ⟨k,S,rfl,s,hA,Yk⟩;obtain⟨q,rfl⟩:∃q:Nat,k=(q:Int):=⟨p.many-1-i,aa⟩;obtain⟨d0,d1,d2,d3,d4⟩:=qp s.p;rw[P9] at d1;obtain⟨Z,jh⟩:∃Z,rs[q]?=a_ Z:=⟨rs[q]' aa,cx _⟩;obtain⟨a1,a2,a3⟩:=hA.cI jh;have w2:dy.wrap ((q:Int)-1)=(q:Int)-1:=gN aa aa;have jt:=BT a3 h;unfold z5 at jt;obtain⟨Bf,t1,t2⟩:=Yk;have ani:(h++[bw Z bf])[mt]?=a_ (.cells Bf bf):=bU t1;have hge:decide ((q:Int)>=(lw:Int))=bh:=ah
 have V2:decide ((lw:Int)<=(q:Int))=bh:=ah
 refine GK @bq.eq_1 @d1 @hge @V2 @a1 @a2 @jt (yz ani t2.one.1) ?_;have s1:fP bz z J p.cells W (h++[bw Z bf]):=s.app;have Ld:=s.CR;have au9:=gl t1;refine s1.call (kg.new a3) aa t2 hN λh' s' t pV=>?_;have aAO:kg W h' mt:=kg.oG ⟨Bf,ani,t2⟩ t aa;have u6:m_ J.length W h' rv rs:=(hA.keep (ck _) (h':=h++[bw Z bf]) λj c q=>bU q).oG t (c0:=Z) af;generalize h.length=mx at pV t au9 Ld⊢;obtain⟨_,x1,xf,gI,lH,rfl,qo,oB⟩:=pV;obtain⟨q6,u1,u2,u3,u4⟩:=qt x1 (w:=.v (.bool bh)) rfl;have KB:ki W [.bp,.bp,xf,gI,.v (.bool bh)]:=⟨_,_,_,rfl,qo,oB⟩;obtain⟨mW,uh⟩:=s'.put (m:=mx) ⟨_,x1,_,_,_,rfl,qo,oB⟩ aa KB;have tt:jg mx h' (h'.set mx (.cells [.bp,.bp,xf,gI,.v (.bool bh)] bf)):=jg.set;have aAP:=aAO.oG tt aa;have atv:=u6.oG tt x1;have q8:(h'.set mx (.cells [.bp,.bp,xf,gI,.v (.bool bh)] bf))[mx]?=a_ (.cells [.bp,.bp,xf,gI,.v (.bool bh)] bf):=bV (gl x1);refine fy @u4 ?_;obtain⟨ars,y1,fK⟩:=aAP;obtain⟨RO,uj⟩:=mW.put (m:=mt) ⟨ars,y1,fK⟩ aa KB;have atw:=atv.oG (dW:=mt) (jg.set (b:=.cells [.bp,.bp,xf,gI,.v (.bool bh)] bf)) y1;refine iF (yz q8 rfl) (MD KB y1 fK.one.1) ?_;exact⟨_,aa,rfl,RO,atw,uj⟩;rintro e h ⟨k,S,rfl,s,hA,Yk⟩;obtain⟨d0,d1,d2,d3,d4⟩:=qp s.p;rw[P9] at d1;have hge:decide (k>=(lw:Int))=bf:=ah
 have V2:decide ((lw:Int)<=k)=bf:=ah
 refine o_ @bq.eq_1 @d1 @hge @V2 ?_;exact⟨trivial,s,Yk⟩;rintro e h6 ⟨rfl,mW,Bf,t1,t2⟩;refine hD (yz t1 t2.one.1) (mW.call mW.o (ck _) t2 hN λh' s' t pV=>?_);obtain⟨co,o1,o2⟩:=pV;obtain⟨f1,f2⟩:=s'.fin o2;exact iF (yz o1 o2.one.1) @f1 (hQ _ f2)
end
end
section
variable{N n0:Nat}{v:bg}{rows:List (List bg)}
def xG(N:Nat)(v:bg):Prop:=∃l:List Int,cG v (l.map bq)/\qc N l
def EE(v:bg):Prop:=∃l:List Int,cG v (l.map bq)/\l.length<=256/\∀y∈l,(0:Int)<=y/\y<256
def xG.one(h:xG N v):cr v=bh:=aI3
def EE.one(h:EE v):cr v=bh:=aI3
def xG.clean(h:xG N v):eP v:=by obtain⟨l,q,_⟩:=h;exact EZ q
def EE.clean(h:EE v):eP v:=by obtain⟨l,q,_⟩:=h;exact EZ q
def hY.fz(h:hY N v)(J:List br):∃v',b8 J v v'/\xG N v':=by
 obtain⟨l,Y,V⟩:=h;obtain⟨v',q1,bt⟩:=Y.fz J;exact⟨v',q1,l,bt,V⟩
def alO(J:List br):∀{Z:List bg},(∀c∈Z,hY N c)->∃ys,e4 J Z ys/\ys.length=Z.length/\∀y∈ys,xG N y
 |[],_=>⟨[],cW,rfl,af⟩
 |c::r,h=>by
  obtain⟨v',q1,bt⟩:=(h c af).fz J;obtain⟨ys,k1,k2,fX⟩:=alO J (Z:=r) λx I=>h x aA;refine⟨v'::ys,bG q1 k1,by simp[k2],λy hy=>?_⟩
  rcases fB.1 hy with rfl|hy
  exact bt;exact fX y hy
def agU(J:List br):∀{Z:List bg},(∀x∈Z,∃l,qb x l/\l.length<=256/\∀y∈l,(0:Int)<=y/\y<256)->∃ys,e4 J Z ys/\ys.length=Z.length/\∀y∈ys,EE y
 |[],_=>⟨[],cW,rfl,af⟩
 |c::r,h=>by
  obtain⟨l,Y,V,h3⟩:=h c af;obtain⟨v',q1,bt⟩:=Y.fz J;obtain⟨ys,k1,k2,fX⟩:=agU J (Z:=r) λx I=>h x aA;refine⟨v'::ys,bG q1 k1,by simp[k2],λy hy=>?_⟩
  rcases fB.1 hy with rfl|hy
  exact⟨l,bt,V,h3⟩;exact fX y hy
def J3(r:bg):Prop:=∃(N:Nat) (bx bv f e:bg) (b:Bool) (xs ys:List bg),r=.agg [bx,bv,f,e,.v (.bool b)]/\N<=256/\cG bx xs/\xs.length=N/\(∀x∈xs,EE x)/\cG bv (ys.map λy=>.agg [y])/\ys.length=N/\(∀y∈ys,xG N y)/\xG N f/\xG N e
def aCQ(Z:List bg):(Z.map λc=>[c]).flatten=Z:=by
 induction Z with
 |nil=>rfl
 |cons a r ih=>rw[fM,y3,ih];rfl
def CV{xs:List bg}(h:cG v xs)(I:∀x∈xs,∀c∈x.cells,eP c):eP v:=by
 rcases h with rfl|⟨rfl,_⟩
 exact lQ I;exact od
def J3.clean{r:bg}(h:J3 r):eP r:=by
 obtain⟨N,bx,bv,f,e,b,xs,ys,rfl,hN,Y,V,h3,h4,h5,h6,h7,h8⟩:=h;refine HF λc T=>?_;simp only[fB,qD,or_false] at T
 rcases T with rfl|rfl|rfl|rfl|rfl
 refine CV Y λx I c T=>?_;rw[qI (h3 x I).one] at T;rw[dR.1 T];exact(h3 x I).clean;refine CV h4 λx I c T=>?_;obtain⟨y,hy,rfl⟩:=dZ.1 I;rw[dR.1 (show c∈[y] from T)];exact(h6 y hy).clean;exact h7.clean;exact h8.clean;exact dz _
def akq{h:List br}{bz:Nat}{z:List bg}{bx bv f e:bg}{b:Bool}(hX:tF bz z N bx bv h)(hN:N<=256)(hf:hY N f)(he:hY N e){g:List br}(hg:∀(j:Nat) Z,h[j]?=a_ (.cells Z bh)->g[j]?=a_ (.cells Z bh)):∃n bS,cX g n (.agg [bx,bv,f,e,.v (.bool b)])=a_ bS/\J3 bS:=by
 obtain⟨xs,hA,rU,Qo⟩:=hX.on;obtain⟨xs',x1,x2,x3⟩:=agU g Qo;obtain⟨cR,o1,o2⟩:∃cR,b8 g bx cR/\cG cR xs':=by
  rcases hA with⟨rfl,q⟩|⟨id,rfl,_⟩
  rw[q] at x2;exact⟨.bp,eB,bF ⟨rfl,nF (by simpa using x2)⟩⟩;exact⟨_,gP x1,bD rfl⟩
 obtain⟨Z,c1,c2,c3⟩:=hX.cu;obtain⟨ys,y1,fK,lI⟩:=alO g c2;obtain⟨cT,b1,b2⟩:∃cT,b8 g bv cT/\cG cT (ys.map λy=>.agg [y]):=by
  rcases c3 with⟨rfl,q⟩|⟨k,rfl,S⟩
  rw[q] at fK;have:ys=[]:=nF (by simpa using fK);subst this;exact⟨.bp,eB,bF ⟨rfl,rfl⟩⟩;have V:=b8.rs (sz:=1) (o:=0) (len:=N) (hg k Z S) (m:=N) c1.symm y1;have hE:l_ 1 (ys.map λc=>[c]):=λx I=>by
   obtain⟨y,hy,rfl⟩:=dZ.1 I;exact⟨rfl,by simp[(lI y hy).one]⟩
  have e1:=Pk [] hE;rw[gV,show([]:List bg).length=0 from rfl,aCQ,dj,fK,c1] at e1;rw[e1] at V;refine⟨_,V,bD ?_⟩;rw[y6];rfl
 obtain⟨f',f1,f2⟩:=hf.fz g;obtain⟨e',e1,e2⟩:=he.fz g;obtain⟨n,hn⟩:=(kA (bG o1 (bG b1 (bG f1 (bG e1 (bG (bH (.bool b)) cW))))):b8 g _ _).done;exact⟨n,_,hn,N,cR,cT,f',e',b,xs',ys,rfl,hN,o2,by rw[x2,rU],x3,b2,by rw[fK,c1],lI,f2,e2⟩
section
variable{G:Cells}{bz:Nat}{z:List bg}{v lv:bg}{ps:List cM}
def apM(h:xC n0 v ps)(oy:n0<=100000000)(Bu:cG lv (rows.map dD))(fO:eP lv)(Dp:∀x∈rows,v8 x)(oX:rows.length<=1000000000):∀(n i:Nat),i<n->i<ps.length->sz ps (i:Int)<=1000000000->J5 G bz z v lv ps (i:Int):=by
 intro n
 induction n with
 |zero=>intro i Q;omega
 |succ n ih=>
  intro i Q hl dG N J hX Dg;obtain⟨p,eD⟩:=cO hl;have lA:=h.ok i p eD;have o4:=h.no p (cE eD);have T:=adn h.ok.kids eD;have vh:=h.len;have hs:=Se h.ok.kids eD;have aGs:=Sd (λk=>sz ps k) p.kids;have S:∀x∈p.kids,J5 G bz z v lv ps x:=λx I=>by
   obtain⟨j,hj⟩:=NM.1 I;have aDy:=yJ (f:=λk=>sz ps k+1) hj;have aDz:=B7 (λk=>sz ps k+1) p.kids (j+1);obtain⟨x0,x1⟩:=lA.2 x I;obtain⟨xn,rfl⟩:=oI x0;exact ih xn aa aa aa
  have eS:p.kids.length<=1000000000:=aa
  have cQ:=hX.lt;refine ahc.go ?_;have e1:cA 5 v (.v (.int .i64 (i:Int)))=a_ (.fp p.cells 0):=h.v.cI (x:=p.bN) aIB rfl;have e2:∀J,bA J bh 5 (.fp p.cells 0)=a_ (.agg p.cells):=λJ=>rfl;refine eE (λe g=>e=[(0,.mp bz 0),(1,v),(2,.v (.int .i64 (i:Int))),(3,lv),(8,.mp J.length 0)]/\g=J++[.cells z5 bf]) ?_ ?_;exact wx uy;rintro e g ⟨rfl,hg⟩;have gl:g.length=J.length+1:=by rw[hg];simp
  refine eE (λe g2=>e=[(0,.mp bz 0),(1,v),(3,lv),(8,.mp J.length 0),(9,.mp (J.length+1) 0)]/\g2=g++[.cells p.cells bf]) ?_ ?_;have s1:=yI g p;rw[gl] at s1;exact o_ @e1 @e2 @gl @s1 tt;rintro e g2 ⟨rfl,lu⟩;have K0:g2.length=J.length+2:=by rw[lu];simp;omega
  refine eE (λe h0=>e=[(0,.mp bz 0),(1,v),(3,lv),(8,.mp J.length 0),(9,.mp (J.length+1) 0),(10,.mp (J.length+2) 0)]/\fP bz z J p.cells N h0) ?_ ?_;have jt:=BT (ki.z5 N) g2;have f5:dH [.bp,.bp,.bp,.bp,.v (.bool bf)] []=a_ z5:=rfl;unfold z5 at jt f5;rw[K0] at jt;refine iu @f5 @K0 @jt ?_;refine⟨trivial,?_⟩;show fP bz z J p.cells N (g2++[.cells z5 bf]);subst hg;subst lu;refine⟨((hX.app).app).app,((oL.app.trans oL.app).trans oL.app),af,af,?_,cQ⟩;have:=kg.new (N:=N) (h:=J++[bw z5 bf]++[bw p.cells bf]) (ki.z5 N);rw[K0] at this;exact this;rintro e h0 ⟨rfl,s⟩;have fin:∀{M:Nat},M=cnt ps (i:Int)->∀h',G6 bz z J (N+M) h'->@Je [(.c 8 bh 5)] ⟨aa7 bz z J (N+cnt ps (i:Int))⟩ ⟨λ_ _=>False⟩ .ret [(8,.mp J.length 0)] h':=by
   rintro M rfl h' ⟨Z,q1,bt,bT,fh⟩;refine fy (yz q1 bt.one.1) ?_;exact⟨Z,rfl,bt,bT,fh⟩
  obtain⟨d0,d1,d2,d3,d4⟩:=qp s.p;by_cases k1:p.kind=1;rw[if_pos k1] at T;exact axd Bu fO Dp oX s k1 aa (fin T.symm);rw[if_neg k1] at T;have bR:(p.kind==1)=bf:=by simpa using k1
  refine iq (λe h'=>e=[(0,.mp bz 0),(1,v),(3,lv),(8,.mp J.length 0),(9,.mp (J.length+1) 0),(10,.mp (J.length+2) 0)]/\h'=h0) ?_ ?_;exact wx tt;rintro e Y ⟨rfl,rfl⟩;by_cases fX:p.kind=3;rw[if_neg aa,Ex] at T;exact ax_ s fX o4 eS S aa (fin T.symm);have Ws:(p.kind==3)=bf:=by simpa using fX
  refine iq (λe h'=>e=[(0,.mp bz 0),(1,v),(3,lv),(8,.mp J.length 0),(9,.mp (J.length+1) 0),(10,.mp (J.length+2) 0)]/\h'=Y) ?_ ?_;exact wx tt;rintro e V ⟨rfl,rfl⟩;by_cases k2:p.kind=2;rw[if_neg aa,Ex] at T;exact axJ s k2 o4 eS S aa (fin T.symm);have agh:(p.kind==2)=bf:=by simpa using k2
  have hz:p.kind=4/\p.kids.length=1/\G3 p.low p.high:=by
   rcases lA.1 with q|q|q
   omega;omega;exact q
  obtain⟨x,x9⟩:=Ev.1 hz.2.1;rw[if_pos hz.1,x9] at T;simp only[fM,mI,y8,GY,uE] at T;obtain⟨_,ho,fv,ev,em,rfl,hf,he⟩:=s.o;obtain⟨t0,t1,t2,t3,t4⟩:=qt ho (w:=.v (.bool bh)) rfl;obtain⟨s1,o1⟩:=s.put s.o (ck _) (Z:=[.bp,.bp,fv,ev,.v (.bool bh)]) ⟨_,_,_,rfl,hf,he⟩;refine iq (λe h'=>e=[(0,.mp bz 0),(1,v),(3,lv),(8,.mp J.length 0),(9,.mp (J.length+1) 0),(10,.mp (J.length+2) 0)]/\fP bz z J p.cells N h') ?_ ?_;refine fy @t4 ?_;exact⟨trivial,s1⟩;rintro e h3 ⟨rfl,eK⟩;obtain⟨d0,d1,d2,d3,d4⟩:=qp eK.p;refine iq (λe h'=>e=[(0,.mp bz 0),(1,v),(3,lv),(8,.mp J.length 0),(9,.mp (J.length+1) 0),(10,.mp (J.length+2) 0)]/\h'=h3) ?_ ?_;exact wx tt;rintro e h4 ⟨rfl,rfl⟩;exact ayc eK hz.2.2 x9 rfl (S x (by rw[x9];simp)) aa (fin T.symm)
def aAA(h:xC n0 v ps)(oy:n0<=100000000)(Bu:cG lv (rows.map dD))(fO:eP lv)(Dp:∀x∈rows,v8 x)(oX:rows.length<=1000000000)(Dg:ps≠[]->cnt ps ((ps.length-1:Nat):Int)<=256/\sz ps ((ps.length-1:Nat):Int)<=1000000000):dA G bE 49 [v,lv] J3:=by
 refine dX (axc.go ?_);have vh:=h.len;have ln:=h.v.cN;rw[dj] at ln;have lC:∀J,cN v J=a_ (.v (.int .i64 (ps.length:Int)),J):=λJ=>aHC
 have Bf:ki 0 [.bp,.bp,.bp,.bp,.v (.bool bh)]:=⟨_,_,_,rfl,Er _,Er _⟩;have f5:dH [.bp,.bp,.bp,.bp,.v (.bool bf)] [(4,1,.v (.bool bh))]=a_ [.bp,.bp,.bp,.bp,.v (.bool bh)]:=rfl;refine eE (λe g=>e=[(0,v),(1,lv),(4,.mp 0 0)]/\g=[.cells z5 bf]) ?_ ?_;exact wx uy;rintro e g ⟨rfl,hg⟩;have gl:g.length=1:=by rw[hg];rfl
 refine eE (λe g2=>e=[(0,v),(1,lv),(4,.mp 0 0),(5,.mp 1 0)]/\g2=[.cells z5 bf]++[.cells [.bp,.bp,.bp,.bp,.v (.bool bh)] bf]) ?_ ?_;have jt:=BT Bf g;unfold z5 at jt;rw[gl] at jt;refine jl @f5 @gl @jt ?_;exact⟨trivial,by rw[hg]⟩;rintro e g2 ⟨rfl,lu⟩;have afy:tF 1 [.bp,.bp,.v (.bool bh)] 0 .bp .bp g2:=by
  rw[lu];exact⟨rfl,⟨[],bD ⟨rfl,rfl⟩,rfl,af⟩,⟨[],rfl,af,bD ⟨rfl,rfl⟩⟩⟩
 have g0:g2[0]?=a_ (.cells z5 bf):=by rw[lu];rfl
 have g1:g2[1]?=a_ (.cells [.bp,.bp,.bp,.bp,.v (.bool bh)] bf):=by rw[lu];rfl
 rcases Ct ps.length with hz|hz
 have cg:((ps.length:Int)==0)=bh:=aJp
 have iN:=MD Bf g0 rfl;have q0:(g2.set 0 (.cells [.bp,.bp,.bp,.bp,.v (.bool bh)] bf))[0]?=a_ (.cells [.bp,.bp,.bp,.bp,.v (.bool bh)] bf):=bV (cJ.1 g0).1;refine p6 @lC @cg (yz g1 rfl) @iN (yz q0 rfl) ?_;exact akq afy aa (Er _) (Er _) λj Z q=>by rw[bC (by rintro rfl;rw[g0] at q;simp at q)];exact q
 have cg:((ps.length:Int)==0)=bf:=beq_eq_false_iff_ne.2 aa;have bR:ps≠[]:=by rintro rfl;simp at hz
 obtain⟨zY,avC⟩:=Dg bR;have w1:dy.wrap ((ps.length:Int)-1)=((ps.length-1:Nat):Int):=by rw[gN aa aa];omega
 refine iu @lC @cg @w1 ?_;refine cm (apM (G:=G) h oy Bu fO Dp oX _ (ps.length-1) (AX _) aa avC 0 g2 ⟨_,_,afy⟩ aa) ?_;rw[gF];rintro _ g3 ⟨Z,rfl,jh,hn,hL⟩;have jt:=BT jh g3;unfold z5 at jt;have bS:(g3++[bw Z bf])[0]?=a_ (.cells z5 bf):=bU (hL.zB 0 _ ag g0);have qQ:ru 1 [.bp,.bp,.v (.bool bh)] (cnt ps ((ps.length-1:Nat):Int)) (g3++[bw Z bf]):=hn.app;have rx:(g3++[bw Z bf])[g3.length]?=a_ (.cells Z bf):=af
 have kH:2<=g3.length:=by have:=hL.len;rw[lu] at this;simpa using this
 obtain⟨xf,gI,lH,rfl,qo,oB⟩:=jh;refine wx ?_;generalize g3.length=m at rx kH⊢;generalize g3++[bw [.bp,.bp,xf,gI,.v (.bool lH)] bf]=X at bS qQ rx⊢;generalize cnt ps ((ps.length-1:Nat):Int)=M at*;obtain⟨bx,bv,hX⟩:=qQ;have O:=hX.b;have aAR:cr bx=bh:=by
  obtain⟨xs,hA,_⟩:=hX.on
  rcases hA with⟨q,_⟩|⟨_,q,_⟩<;>rw[q]<;>rfl
 have step:∀(X:List br) (a c d:bg) (b:Bool),X[1]?=a_ (.cells [bx,bv,c,d,.v (.bool b)] bf)->X[0]?=a_ (.cells z5 bf)->X[m]?=a_ (.cells [.bp,.bp,xf,gI,.v (.bool lH)] bf)->(∀(j:Nat) Z,X[j]?=a_ (.cells Z bh)->X[j]?=a_ (.cells Z bh))->∀(c' d':bg) (b':Bool),
   (X.set 1 (.cells [bx,bv,c',d',.v (.bool b')] bf))[1]?=a_ (.cells [bx,bv,c',d',.v (.bool b')] bf)/\(X.set 1 (.cells [bx,bv,c',d',.v (.bool b')] bf))[0]?=a_ (.cells z5 bf)/\(X.set 1 (.cells [bx,bv,c',d',.v (.bool b')] bf))[m]?=a_ (.cells [.bp,.bp,xf,gI,.v (.bool lH)] bf)/\(∀(j:Nat) Z,X[j]?=a_ (.cells Z bh)->(X.set 1 (.cells [bx,bv,c',d',.v (.bool b')] bf))[j]?=a_ (.cells Z bh)):=λX a c d b Y h0 hm _ c' d' b'=>
  ⟨bV (cJ.1 Y).1,by rw[bC aa];exact h0,by rw[bC aa];exact hm,λj Z q=>aH2⟩
 obtain⟨q6,u1,u2,u3,u4⟩:=qt O qo.one;obtain⟨a1,a0,am,A9⟩:=step X bx _ _ _ O bS rx (λ_ _ q=>q) xf .bp bh;refine wx ?_;generalize X.set 1 (.cells [bx,bv,xf,.bp,.v (.bool bh)] bf)=abu at a1 a0 am A9⊢;obtain⟨q6,u1,u2,u3,u4⟩:=qt a1 oB.one;obtain⟨b1,b0,bm,bk⟩:=step abu bx _ _ _ a1 a0 am (λ_ _ q=>q) xf gI bh;refine wx ?_;generalize abu.set 1 (.cells [bx,bv,xf,gI,.v (.bool bh)] bf)=xK at b1 b0 bm bk⊢;obtain⟨q6,u1,u2,u3,u4⟩:=qt b1 (w:=.v (.bool lH)) rfl;obtain⟨c1,c0,uU,ac_⟩:=step xK bx _ _ _ b1 b0 bm (λ_ _ q=>q) xf gI lH;refine wx ?_;generalize xK.set 1 (.cells [bx,bv,xf,gI,.v (.bool lH)] bf)=apq at c1 c0 uU ac_⊢;unfold z5 at c0;have Sr:=Mk (a':=bx) (b':=bv) (c':=xf) (d':=gI) (e':=.v (.bool lH)) c0 (by simp only[oJ,sw,aAR,hX.cu.one,qo.one,oB.one];rfl);have v0:(apq.set 0 (.cells [bx,bv,xf,gI,.v (.bool lH)] bf))[0]?=a_ (.cells [bx,bv,xf,gI,.v (.bool lH)] bf):=bV (cJ.1 c0).1;refine wx ?_;exact akq hX zY qo oB λj Z q=>by
  have bT:=ac_ _ _ (bk _ _ (A9 _ _ q));rw[bC (by rintro rfl;rw[c0] at bT;simp at bT)];exact bT
end
end
section
variable{c:bg}{k n:Nat}{Z:List bg}{g:List br}
def xI(N:Nat)(c:bg):Prop:=∃l,qb c l/\l.length<=70000/\∀x∈l,(0:Int)<=x/\x<(N:Int)
def xI.one{N:Nat}(h:xI N c):cr c=bh:=by obtain⟨l,q,_⟩:=h;exact q.one
@[go_sem]def Zd{xs:List bg}{t:n_}{i:Nat}(h:xs[i]?=a_ c)(Y:cr c=bh):cA 1 (.sl xs t) (.v (.int .i64 (i:Int)))=a_ (.fp [c] 0):=by
 have:=mP (n:=1) (t:=t) (k:=.i64) h (by rw[qI Y];rfl);rw[qI Y] at this;exact this
section
variable{h:List br}{k:Nat}{a b c:bg}
@[go_sem]def Ga(O:h[k]?=a_ (.cells [a,b,c] bf)):bA h bf 1 (.mp k 0)=a_ a/\bA h bf 1 (.mp k 1)=a_ b/\bA h bf 1 (.mp k 2)=a_ c/\bA h bh 3 (.mp k 0)=a_ (.agg [a,b,c]):=by
 simp only[bA,O];exact⟨rfl,rfl,rfl,rfl⟩
end
@[go_sem]def zz(S:g[k]?=a_ (.cells Z bf))(h0:Z.length=n):bA g bh n (.mp k 0)=a_ (.agg Z):=by
 simp only[bA,S];unfold eZ;rw[if_pos rfl,if_pos aa,pg,n6 aa]
@[go_sem]def tQ{cs0:List bg}(S:g[k]?=a_ (.cells cs0 bf))(h0:cs0.length=n)(Y:Z.length=n)(V:Z.all cr=bh):bL g n (.mp k 0) (.agg Z)=a_ (g.set k (.cells Z bf)):=by
 simp only[bL,S,e5];have eL:(dD Z).cells=Z:=rfl;rw[eL,if_pos ⟨Y,aa,V⟩];unfold dN;rw[tA,gV,vO aa,hJ]
section
variable{G:Cells}{N kt:Nat}{sv bB bN w:bg}{bZ:List bg}{t:n_}{J:List br}
def ar_(O:J[kt]?=a_ (.cells [.sl bZ t,bB,bN] bf))(hs:∀c∈bZ,xI N c)(hl1:1<=bZ.length)(jP:bZ.length<=1000)(hw:xI N w):cy G bE 87 [.mp kt 0,w] J λr bl=>bl=J/\∃n:Int,r=.v (.int .i64 n)/\ -1<=n/\n<(bZ.length:Int):=by
 refine axD.go ?_;obtain⟨wl,w1,w2,w3⟩:=hw;obtain⟨w',wi,ws⟩:=w1.imp;refine wy ?_;refine dx (λi e h=>e=[(0,.mp kt 0),(1,w),(5,.v (.int .i64 ((i+1:Nat):Int)))]/\h=J) (bZ.length-1) ⟨rfl,rfl⟩ ?_ ?_;rintro i e h Q ⟨rfl,rfl⟩;obtain⟨c,T⟩:∃c,bZ[i+1]?=a_ c:=⟨bZ[i+1]' aa,cx _⟩;have jh:=hs c (cE T);have cI:=Zd (t:=t) T jh.one;obtain⟨cC,c1,c2,c3⟩:=jh;obtain⟨c',ci,Z⟩:=c1.imp;refine wy ?_;refine ek (aCj Z ws aa aa) ?_;rintro r ⟨b,rfl⟩;cases b with
 |false=>
  exact wx tt
 |true=>
  refine wx ?_;exact⟨trivial,_,rfl,aa,aa⟩
 rintro e h ⟨rfl,rfl⟩;refine wx ?_;exact⟨trivial,_,rfl,aa,aa⟩
structure Flags(N k:Nat)(bs:List bg)(h:List br):Prop where
 b:h[k]?=a_ (.cells bs bh)
 len:bs.length=N
 ok:∀c∈bs,∃b:Bool,c=.v (.bool b)
section
variable{k p:Nat}{bs:List bg}{h:List br}
@[go_sem]def HN(J:p<N):cA 1 (.rs k N 1 0 N) (.v (.int .i64 (p:Int)))=a_ (.rp k N p):=by
 have:=RJ (k:=k) (m:=N) (n:=1) (len:=N) (j:=p) J;rw[Nat.mul_one] at this;exact this
def Flags.fY(s:Flags N k bs h)(J:p<N):∃b:Bool,bs[p]?=a_ (.v (.bool b))/\bA h bf 1 (.rp k N p)=a_ (.v (.bool b)):=by
 have hl:=s.len;obtain⟨c,T⟩:∃c,bs[p]?=a_ c:=⟨bs[p]' aa,cx _⟩;obtain⟨b,rfl⟩:=s.ok c (cE T);refine⟨b,T,?_⟩;simp only[bA,s.b,s.len,if_true,eZ];rw[if_neg af];exact T
def Flags.st(s:Flags N k bs h)(J:p<N):bL h 1 (.rp k N p) (.v (.bool bh))=a_ (h.set k (.cells (bs.set p (.v (.bool bh))) bh))/\Flags N k (bs.set p (.v (.bool bh))) (h.set k (.cells (bs.set p (.v (.bool bh))) bh)):=by
 have hl:=s.len;have S:=gl s.b;refine⟨?_,bV S,by rw[vP];exact s.len,λc T=>?_⟩;have eL:(cU (.bool bh)).cells=[.v (.bool bh)]:=rfl;simp only[bL,s.b,s.len,if_true,e5,eL];rw[if_pos ⟨rfl,aa,rfl⟩,MJ aa]
 rcases SQ T with q|rfl
 exact s.ok c q;exact⟨bh,rfl⟩
end
def aoX(B:Nat)(h:List br)(c:bg)(xs:List bg):Prop:=(c=.bp/\xs=[])\/∃id,c=.sl xs (.tok id)/\B<=id/\h[id]?=a_ (.tok xs.length 1 3)
structure xE(B N M:Nat)(fu:List bg)(h:List br):Prop where
 len:fu.length=32
 row:∀(s:Nat) c,fu[s]?=a_ c->∃l:List Int,aoX B h c (l.map bq)/\l.length<=M/\∀x∈l,(0:Int)<=x/\x<(N:Int)
 one:∀(s s' id:Nat) xs xs',fu[s]?=a_ (.sl xs (.tok id))->fu[s']?=a_ (.sl xs' (.tok id))->s=s'
section
variable{B M M' s:Nat}{fu:List bg}{h h':List br}{c:bg}
def xE.keep(q:xE B N M fu h)(hM:M<=M')(S:∀(j c:Nat),h[j]?=a_ (.tok c 1 3)->h'[j]?=a_ (.tok c 1 3)):xE B N M' fu h':=by
 refine⟨q.len,λs c T=>?_,q.one⟩;obtain⟨l,Y,V,h3⟩:=q.row s c T;refine⟨l,Y.elim bD ?_,aa,h3⟩;rintro⟨id,e1,eb,e2⟩;exact bF ⟨id,e1,eb,S _ _ e2⟩
def xE.push(q:xE B N M fu h)(T:fu[s]?=a_ c)(hB:B<=h.length)(hM:M<=100000){p:Nat}(J:p<N):∃cj g,eu h 1 8 3 c (.sl [.v (.int .i64 (p:Int))] .exact)=a_ (cj,g)/\cr cj=bh/\xE B N (M+1) (fu.set s cj) g/\h.length<=g.length/\(∀(j:Nat) Z fz,h[j]?=a_ (.cells Z fz)->g[j]?=a_ (.cells Z fz))/\∀(j:Nat) b,h[j]?=a_ b->(∀xs,c≠.sl xs (.tok j))->g[j]?=a_ b:=by
 obtain⟨l,Y,V,h3⟩:=q.row s c T;have s6:=gl T;have I:=Ge l;have hy:c8 1 [cU (.int .i64 (p:Int))]=bh:=rfl;have Vn:∀x∈l++[(p:Int)],(0:Int)<=x/\x<(N:Int):=λx I=>by
  rcases gA.1 I with y|y
  exact h3 x y;rw[dR.1 y];omega
 rcases Y with⟨rfl,e⟩|⟨id,rfl,aty,hid⟩
 have:l=[]:=aoF.1 e;subst this;refine⟨.sl ([]++[.v (.int .i64 (p:Int))]) (.tok h.length),h++[.tok 1 1 3],?_,rfl,⟨by rw[vP];exact q.len,λs' c' iT=>?_,λs1 s2 id xs xs' k1 k2=>?_⟩,af,λj Z fz k=>bU k,λj b k _=>bU k⟩;simp[eu,gZ,iY,iK,hy];by_cases Iw:s=s';subst Iw;rw[bV s6] at iT;cases iT;exact⟨[]++[(p:Int)],bF ⟨h.length,rfl,hB,af⟩,af,Vn⟩;rw[bC Iw] at iT;obtain⟨l',r1,r2,jk⟩:=q.row s' c' iT;refine⟨l',r1.elim bD ?_,aa,jk⟩;rintro⟨id,e1,eb,e2⟩;exact bF ⟨id,e1,eb,bU e2⟩;have old:∀{s':Nat} {ys:List bg},s≠s'->fu[s']?=a_ (.sl ys (.tok id))->id<h.length:=λ{s' ys} _ k=>by
  obtain⟨l',r1,_⟩:=q.row s' _ k
  rcases r1 with⟨r,_⟩|⟨nx,r,_,r2⟩
  cases r;cases r;exact gl r2
 by_cases a1:s=s1<;>by_cases a2:s=s2;omega;subst a1;rw[bV s6] at k1;rw[bC a2] at k2;cases k1;have:=old a2 k2;omega;subst a2;rw[bV s6] at k2;rw[bC a1] at k1;cases k2;have:=old a1 k1;omega;rw[bC a1] at k1;rw[bC a2] at k2;exact q.one s1 s2 id _ _ k1 k2;have hl:id<h.length:=gl hid;rw[dj] at hid;have hfit:(l.length+1)*8<=140737488355328:=aa
 refine⟨.sl (l.map bq++[.v (.int .i64 (p:Int))]) (.tok id),h.set id (.tok (l.length+1) 1 3),?_,rfl,⟨by rw[vP];exact q.len,λs' c' iT=>?_,λs1 s2 nx xs xs' k1 k2=>?_⟩,af,λj Z fz k=>by rw[bC (by rintro rfl;rw[hid] at k;cases k)];exact k,λj b k bR=>by
  rw[bC (by rintro rfl;exact bR _ rfl)];exact k⟩
 simp[eu,gZ,iY,iK,hy,hfit,I,hid];by_cases Iw:s=s';subst Iw;rw[bV s6] at iT;cases iT;exact⟨l++[(p:Int)],bF ⟨id,by simp[bq],aty,aHS⟩,ah,Vn⟩;rw[bC Iw] at iT;obtain⟨l',r1,r2,jk⟩:=q.row s' c' iT;refine⟨l',r1.elim bD ?_,aa,jk⟩;rintro⟨nx,e1,eb,e2⟩;refine bF ⟨nx,e1,eb,?_⟩;rw[bC (by rintro rfl;subst e1;exact Iw (q.one s s' _ _ _ T iT))];exact e2;by_cases a1:s=s1<;>by_cases a2:s=s2;omega;subst a1;rw[bV s6] at k1;rw[bC a2] at k2;cases k1;exact q.one _ _ _ _ _ T k2;subst a2;rw[bV s6] at k2;rw[bC a1] at k1;cases k2;exact q.one _ _ _ _ _ k1 T;rw[bC a1] at k1;rw[bC a2] at k2;exact q.one s1 s2 nx _ _ k1 k2
def xE.set(q:xE B N M fu h)(T:fu[s]?=a_ c)(hM:M<=70000):xI N c:=by
 obtain⟨l,Y,V,h3⟩:=q.row s c T;refine⟨l,?_,aa,h3⟩
 rcases Y with⟨rfl,e⟩|⟨id,rfl,_⟩
 exact bD ⟨rfl,aoF.1 e⟩;exact bF ⟨_,rfl⟩
end
end
end
section
variable{M N m:Nat}{dP fu:List bg}{h J:List br}
structure xz(N:Nat)(J:List br)(dP:List bg)(h:List br):Prop where
 n:h[J.length]?=a_ (.cells dP bf)
 r:h[J.length+1]?=a_ (.cells (e3 32 .bp) bf)
 m:∃bs,Flags N (J.length+2) bs h
 x:Ext J h
section
variable{N p:Nat}{J h:List br}{dP:List bg}
def xz.st(s:xz N J dP h)(FG:p<N):∃h',bL h 1 (.rp (J.length+2) N p) (.v (.bool bh))=a_ h'/\xz N J dP h':=by
 obtain⟨bs,q⟩:=s.m;obtain⟨a1,a2⟩:=q.st FG;refine⟨_,a1,by rw[bC aa];exact s.n,by rw[bC aa];exact s.r,⟨_,a2⟩,λj b k=>?_⟩;have:=gl k;rw[bC aa];exact s.x j b k
end
structure xy(N M:Nat)(J:List br)(dP fu:List bg)(m:Nat)(h:List br):Prop where
 s:xz N J dP h
 o:h[m]?=a_ (.cells fu bf)
 q:xE J.length N M fu h
 CR:J.length+3<=m
def xE.aAF{B:Nat}(q:xE B N M fu h):fu.all cr=bh:=by
 rw[eO];intro c T;obtain⟨s,hs⟩:=NM.1 T;obtain⟨l,Y,_⟩:=q.row s c hs
 rcases Y with⟨rfl,_⟩|⟨_,rfl,_⟩<;>rfl
def xy.mono{M':Nat}(z:xy N M J dP fu m h)(hM:M<=M'):xy N M' J dP fu m h:=⟨z.s,z.o,z.q.keep hM λ_ _ k=>k,z.CR⟩
def acd{h':List br}{n:Nat}{p v:bg}(e:bL h n p v=a_ h'):h'.length=h.length:=by
 unfold bL at e;split at e;split at e;unfold e5 at e;split at e;cases e;simp;cases e;cases e;split at e;split at e;unfold e5 at e;split at e;cases e;simp;cases e;cases e;cases e;cases e
def xy.push{s:Nat}{c:bg}(z:xy N M J dP fu m h)(T:fu[s]?=a_ c)(hM:M<=100000){p:Nat}(bl:p<N):∃cj g h',eu h 1 8 3 c (.sl [.v (.int .i64 (p:Int))] .exact)=a_ (cj,g)/\bL g 1 (.mp m s) cj=a_ h'/\xy N (M+1) J dP (fu.set s cj) m h'/\∀bs,h[J.length+2]?=a_ (.cells bs bh)->h'[J.length+2]?=a_ (.cells bs bh):=by
 obtain⟨cj,g,e1,e2,dc,eL,nk,xT⟩:=z.q.push T z.s.x.len hM bl;have pV:=nk _ _ _ z.o;have nv:=gl pV;have s6:=gl T;have Ld:=z.CR;have c1:=qI e2;have st:bL g 1 (.mp m s) cj=a_ (g.set m (.cells (fu.set s cj) bf)):=by
  simp only[bL,pV,e5,c1];rw[if_pos ⟨rfl,aa,by simp[e2]⟩,MJ s6]
 refine⟨cj,g,_,e1,st,⟨⟨?_,?_,?_,?_⟩,bV nv,dc.keep (ck _) λj c k=>by rw[bC (by rintro rfl;rw[pV] at k;cases k)];exact k,z.CR⟩,λbs k=>by rw[bC aa];exact nk _ _ _ k⟩;rw[bC aa];exact nk _ _ _ z.s.n;rw[bC aa];exact nk _ _ _ z.s.r;obtain⟨bs,q⟩:=z.s.m;exact⟨bs,by rw[bC aa];exact nk _ _ _ q.b,q.len,q.ok⟩;intro j b k;have hj:=gl k;rw[bC aa];refine xT _ _ (z.s.x j b k) λxs e=>?_;obtain⟨l,Y,_⟩:=z.q.row s c T
 rcases Y with⟨Y,_⟩|⟨id,Y,hB,V⟩
 rw[Y] at e;cases e;rw[Y] at e;cases e;omega
section
variable{G:Cells}{N kt:Nat}{bx bv f e bB bN:bg}{b:Bool}{bZ xs ys:List bg}{t:n_}{J:List br}
def aqm(O:J[kt]?=a_ (.cells [.sl bZ t,bB,bN] bf))(hs:∀c∈bZ,xI N c)(jP:bZ.length<=1000){cw:Nat}(jF:cw<bZ.length)
  (hN:N<=256) (Y:cG bx xs) (V:xs.length=N) (h3:∀x∈xs,EE x) (h4:cG bv (ys.map λy=>.agg [y])) (h5:ys.length=N) (h6:∀y∈ys,xG N y) (h7:xG N f):
  cy G bE 86 [.mp kt 0,.agg [bx,bv,f,e,.v (.bool b)],.v (.int .i64 (cw:Int))] J λr bl=>Ext J bl/\∃Z,r=.agg Z/\Z.length=32/\∀c∈Z,xI N c:=by
 refine axC.go ?_;obtain⟨dP,Dt⟩:∃dP:List bg,dP=[bx,bv,f,e,.v (.bool b)]:=⟨_,rfl⟩;have ajU:∀g,cN bx g=a_ (.v (.int .i64 (N:Int)),g):=λg=>by rw[Y.cN,mq,V]
 refine eE (λe' g=>e'=[(0,.mp kt 0),(2,.v (.int .i64 (cw:Int))),(4,.mp J.length 0),(6,.mp (J.length+1) 0)]/\g=J++[.cells dP bf]++[.cells (e3 32 .bp) bf]) ?_ ?_;refine hD @en.{0} ?_;exact⟨trivial,rfl⟩;rintro e' g ⟨rfl,hg⟩;have gl:g.length=J.length+2:=by rw[hg];simp
 have gn:g[J.length]?=a_ (.cells dP bf):=by rw[hg];simp
 refine eE (λe' g=>e'=[(0,.mp kt 0),(2,.v (.int .i64 (cw:Int))),(4,.mp J.length 0),(6,.mp (J.length+1) 0),(7,.rs (J.length+2) N 1 0 N)]/\xz N J dP g/\g.length=J.length+3) ?_ ?_;have lo:bA g bf 1 (.mp J.length 0)=a_ bx:=by rw[Dt] at gn;exact(jC gn).1
 have m1:CL g 1 1 [.v (.bool bf)] (.v (.int .i64 (N:Int))) (.v (.int .i64 (N:Int)))=a_ (.rs (J.length+2) N 1 0 N,g++[.cells (e3 N (.v (.bool bf))) bh]):=by
  unfold CL;dsimp only;rw[if_pos ⟨aa,aa,aa,aa,rfl,ag⟩,gl];simp
 refine jl @lo @ajU @m1 ?_;refine⟨trivial,⟨bU gn,bU (by rw[hg];simp),⟨e3 N (.v (.bool bf)),by rw[<-gl];simp,af,λc T=>⟨bf,(aoI.1 T).2⟩⟩,?_⟩,by simp[gl]⟩;rw[hg];exact(lJ.qf).qf;rintro e' g1 ⟨rfl,s1,afb⟩;refine eE (λe' g=>e'=[(0,.mp kt 0),(2,.v (.int .i64 (cw:Int))),(4,.mp J.length 0),(6,.mp (J.length+1) 0),(7,.rs (J.length+2) N 1 0 N)]/\xz N J dP g/\g.length=J.length+3) ?_ ?_;refine wy ?_;obtain⟨fl,f1,f2⟩:=h7;have x6:=f2.len;have Pd:=(yF f1)
 rcases Ct cw with hz|hz
 have cg:((cw:Int)==0)=bh:=aJp
 refine dx (λi e' g=>e'=[(0,.mp kt 0),(2,.v (.int .i64 (cw:Int))),(4,.mp J.length 0),(6,.mp (J.length+1) 0),(7,.rs (J.length+2) N 1 0 N),(8,bq i)]/\xz N J dP g/\g.length=J.length+3) fl.length ⟨rfl,s1,afb⟩ ?_ ?_;rintro i e' g Q ⟨rfl,s,gl⟩;obtain⟨x,I⟩:=cO Q;obtain⟨x0,x1⟩:=f2.2 x (cE I);obtain⟨p,rfl⟩:=oI x0;have b_:bA g bf 1 (.mp J.length 2)=a_ f:=aIn
 have FG:p<N:=aa
 obtain⟨g',t1,t2⟩:=s.st FG;have Vg:g'.length=J.length+3:=by rw[<-gl];exact acd t1
 simp -failIfUnchanged -implicitDefEqProofs (disch:=first|assumption|decide|omega) only[jB,nY,nZ,↓reduceIte,vT,uF,vU,vV,qA,AR,AS,bq,cg,mh,b_,Pd.len,Pd.cI I,wH,HN FG,t1];exact⟨trivial,t2,Vg⟩;rintro e' g ⟨rfl,s,gl⟩;have b_:bA g bf 1 (.mp J.length 2)=a_ f:=aIn
 refine iu @bq.eq_1 @cg @b_ ?_;exact⟨trivial,s,gl⟩;have cg:((cw:Int)==0)=bf:=ah
 refine dx (λi e' g=>e'=[(0,.mp kt 0),(2,.v (.int .i64 (cw:Int))),(4,.mp J.length 0),(6,.mp (J.length+1) 0),(7,.rs (J.length+2) N 1 0 N),(8,bq i)]/\xz N J dP g/\g.length=J.length+3) 0 ⟨rfl,s1,afb⟩ ?_ ?_;rintro i e' g Q;omega;rintro e' g ⟨rfl,s,gl⟩;refine iF @bq.eq_1 @cg ?_;exact⟨trivial,s,gl⟩;rintro e' g2 ⟨rfl,s2,K0⟩;obtain⟨c0,Dd⟩:=cO jF;have H9:=hs c0 (cE Dd);have av4:=Zd (t:=t) Dd H9.one;obtain⟨cC,aFF,aFG,k_⟩:=H9;refine eE (λe' g=>e'=[(4,.mp J.length 0),(6,.mp (J.length+1) 0),(7,.rs (J.length+2) N 1 0 N)]/\xz N J dP g/\g.length=J.length+3) ?_ ?_;refine wy ?_;refine dx (λi e' g=>e'=[(0,.mp kt 0),(2,.v (.int .i64 (cw:Int))),(4,.mp J.length 0),(6,.mp (J.length+1) 0),(7,.rs (J.length+2) N 1 0 N),(9,bq i)]/\xz N J dP g/\g.length=J.length+3) cC.length ⟨rfl,s2,K0⟩ ?_ ?_;rintro i e' g Q ⟨rfl,s,gl⟩;obtain⟨x,I⟩:=cO Q;obtain⟨x0,x1⟩:=k_ x (cE I);obtain⟨p,rfl⟩:=oI x0;have lk:=s.x _ _ O;have b_:bA g bf 1 (.mp J.length 1)=a_ bv:=by have:=s.n;rw[Dt] at this;exact(jC this).2.1
 obtain⟨y,hy⟩:∃y,ys[p]?=a_ y:=⟨ys[p]' aa,cx _⟩;have ny:cA 1 bv (.v (.int .i64 (p:Int)))=a_ (.fp [y] 0):=h4.cI (x:=.agg [y]) aT rfl;obtain⟨Z7,y1,fK⟩:=h6 y (cE hy);have an5:=(yF y1);have aGK:=fK.len;refine nD ?_;refine dx (λj e' g=>e'=[(0,.mp kt 0),(2,.v (.int .i64 (cw:Int))),(4,.mp J.length 0),(6,.mp (J.length+1) 0),(7,.rs (J.length+2) N 1 0 N),(9,bq i),(10,y),(11,bq j)]/\xz N J dP g/\g.length=J.length+3) Z7.length ⟨rfl,s,gl⟩ ?_ ?_;rintro j e' g hj ⟨rfl,s,gl⟩;obtain⟨x',hx'⟩:∃x,Z7[j]?=a_ x:=⟨Z7[j],cx hj⟩;obtain⟨aEW,Sz⟩:=fK.2 x' (cE hx');obtain⟨p',rfl⟩:=oI aEW;have FG:p'<N:=aa
 obtain⟨g',t1,t2⟩:=s.st FG;have Vg:g'.length=J.length+3:=by rw[<-gl];exact acd t1
 simp -failIfUnchanged -implicitDefEqProofs (disch:=first|assumption|decide|omega) only[jB,nY,nZ,↓reduceIte,vT,uF,vU,vV,qA,AR,AS,bq,an5.len,an5.cI hx',wH,HN FG,t1];exact⟨trivial,t2,Vg⟩;rintro e' g ⟨rfl,s,gl⟩;refine fy @bq.eq_1 ?_;exact⟨trivial,s,gl⟩;rintro e' g ⟨rfl,s,gl⟩;have lk:=s.x _ _ O;refine iF @bq.eq_1 @av4 ?_;exact⟨trivial,s,gl⟩;rintro e' g3 ⟨rfl,eK,Vh⟩;refine eE (λe' g=>e'=[(4,.mp J.length 0),(6,.mp (J.length+1) 0),(7,.rs (J.length+2) N 1 0 N),(12,.mp (J.length+3) 0)]/\∃fu,xy N 0 J dP fu (J.length+3) g) ?_ ?_;have aE2:(e3 32 bg.bp).all cr=bh:=rfl;have iE:=tQ (n:=32) (g:=g3++[.cells (e3 32 .bp) bf]) (k:=g3.length) (Z:=e3 32 .bp) (cs0:=e3 32 .bp) af rfl rfl aE2;have e1:(g3++[bw (e3 32 .bp) bf]).set g3.length (.cells (e3 32 .bp) bf)=g3++[.cells (e3 32 .bp) bf]:=af
 have f1:dH (e3 32 bg.bp) []=a_ (e3 32 .bp):=rfl;rw[e1,Vh] at iE;simp only[e3] at iE f1;refine iF @Vh @iE ?_;refine⟨trivial,e3 32 .bp,⟨bU eK.n,bU eK.r,?_,eK.x.qf⟩,?_,⟨rfl,λs c T=>?_,λs s' id xs xs' k1 _=>?_⟩,ck _⟩;obtain⟨bs,q⟩:=eK.m;exact⟨bs,bU q.b,q.len,q.ok⟩;rw[<-Vh];exact SO;have:=(aoI.1 (cE T)).2;subst this;exact⟨[],bD ⟨rfl,rfl⟩,jR _,af⟩;have:=(aoI.1 (cE k1)).2;cases this;rintro e' g4 ⟨rfl,aAQ,z4⟩;refine eE (λe' g=>e'=[(6,.mp (J.length+1) 0),(12,.mp (J.length+3) 0)]/\∃fu,xy N 70000 J dP fu (J.length+3) g) ?_ ?_;refine wy ?_;have azq:∀g,cN (.rs (J.length+2) N 1 0 N) g=a_ (.v (.int .i64 (N:Int)),g):=λg=>rfl;refine dx (λi e' g=>e'=[(4,.mp J.length 0),(6,.mp (J.length+1) 0),(7,.rs (J.length+2) N 1 0 N),(12,.mp (J.length+3) 0),(13,bq i)]/\∃fu,xy N (i*256) J dP fu (J.length+3) g) N ⟨rfl,aAQ,by rw[Nat.zero_mul];exact z4⟩ ?_ ?_;rintro i e' g Q ⟨rfl,fu,z⟩;obtain⟨x,I⟩:∃x,xs[i]?=a_ x:=⟨xs[i]' aa,cx _⟩;have qV:=h3 x (cE I);have ix:cA 1 bx (.v (.int .i64 (i:Int)))=a_ (.fp [x] 0):=by
  have:=Y.cI (n:=1) (k:=.i64) (x:=x) I (by rw[qI qV.one];rfl);rw[qI qV.one] at this;exact this
 obtain⟨aE0,x1,x2,x3⟩:=qV;have Z5:=(yF x1);obtain⟨bs,x6⟩:=z.s.m;obtain⟨fb,_,BG⟩:=x6.fY Q;have w1:dy.wrap ((i:Int)+1)=((i+1:Nat):Int):=lG aa;refine q7 ?_;refine dx (λj e' g=>e'=[(4,.mp J.length 0),(6,.mp (J.length+1) 0),(7,.rs (J.length+2) N 1 0 N),(12,.mp (J.length+3) 0),(13,bq i),(14,bq j)]/\bA g bf 1 (.rp (J.length+2) N i)=a_ (.v (.bool fb))/\∃fu,xy N (i*256+j) J dP fu (J.length+3) g) (if fb then aE0.length else 0) ⟨rfl,BG,fu,z.mono aa⟩ ?_ ?_;rintro j e' g hj ⟨rfl,BG,fu,z⟩;cases fb with
 |false=>simp at hj
 |true=>
  simp only[if_true] at hj;obtain⟨y,hy⟩:=cO hj;obtain⟨y0,y1⟩:=x3 y (cE hy);obtain⟨s,rfl⟩:=oI y0;have lo:bA g bf 1 (.mp J.length 0)=a_ bx:=aIs
  simp -failIfUnchanged -implicitDefEqProofs (disch:=first|assumption|decide|omega) only[jB,nY,nZ,↓reduceIte,vT,uF,vU,vV,qA,AR,AS,bq,HN Q,BG,mh,lo,ix,wH,Z5.len,Z5.cI hy];refine c_ (λq=>?_) λq=>?_;have aGC:s<32:=au
  have xM:mO 32 1 (.mp (J.length+3) 0) (.v (.int .i64 (s:Int)))=a_ (.mp (J.length+3) s):=by
   unfold mO;dsimp only;rw[if_pos ⟨aa,aa⟩];simp[mh]
  have Qe:=z.q.len;obtain⟨c,T⟩:∃c,fu[s]?=a_ c:=⟨fu[s]' aa,cx _⟩;have lc:bA g bf 1 (.mp (J.length+3) s)=a_ c:=by
   simp only[bA,z.o,eZ];rw[if_neg af];exact T
  obtain⟨cj,g',tV,t1,t2,t3,t4⟩:=z.push T aa Q;have azd:bA tV bf 1 (.rp (J.length+2) N i)=a_ (.v (.bool bh)):=by
   obtain⟨bs,q1⟩:=z.s.m;have bt:=t4 bs q1.b;simp only[bA,q1.b] at BG;simp only[bA,bt];exact BG
  refine p6 @q @xM @lc @t1 @t2 ?_;exact⟨rfl,azd,_,t3.mono aa⟩;exact⟨rfl,BG,fu,z.mono aa⟩
 rintro e' g ⟨rfl,BG,fu,z⟩;have lo:bA g bf 1 (.mp J.length 0)=a_ bx:=aIs
 have vI:xy N ((i+1)*256) J dP fu (J.length+3) g:=z.mono (by split<;>omega);cases fb with
 |false=>
  simp -failIfUnchanged -implicitDefEqProofs (disch:=first|assumption|decide|omega) only[jB,nY,nZ,↓reduceIte,vT,uF,vU,vV,qA,AR,AS,bq,HN Q,BG,w1];exact⟨trivial,fu,vI⟩
 |true=>
  simp only[if_true];simp -failIfUnchanged -implicitDefEqProofs (disch:=first|assumption|decide|omega) only[jB,nY,nZ,↓reduceIte,vT,uF,vU,vV,qA,AR,AS,bq,HN Q,BG,mh,lo,ix,wH,Z5.len,w1];exact⟨trivial,fu,vI⟩
 rintro e' g ⟨rfl,fu,z⟩;refine iF @bq.eq_1 @azq ?_;exact⟨trivial,fu,z.mono aa⟩;rintro e' g5 ⟨rfl,fu,z5⟩;have rl:=tQ (n:=32) z5.s.r af z5.q.len z5.q.aAF;have rk:(g5.set (J.length+1) (.cells fu bf))[J.length+1]?=a_ (.cells fu bf):=bV (cJ.1 z5.s.r).1;refine l6 (zz z5.o z5.q.len) (zz rk z5.q.len) ?_;refine⟨λj b k=>?_,fu,rfl,z5.q.len,λc T=>?_⟩;have:=(cJ.1 k).1;rw[bC aa];exact z5.s.x j b k;obtain⟨s,hs⟩:=NM.1 T;exact z5.q.set hs aa
end
end
section
variable{B N m n:Nat}{v:bg}{xs:List bg}{e:TypeId}{g:List br}
structure kj(N:Nat)(dP bZ eY rows:List bg)(sv bB bN:bg)(h:List br):Prop where
 n:h[0]?=a_ (.cells dP bf)
 r:h[1]?=a_ (.cells [.bp,.bp,.bp] bf)
 t:h[2]?=a_ (.cells [sv,bB,bN] bf)
 s:me 0 h sv bZ 1 123
 a:me 0 h bN eY 1 4
 w:cV h bB rows 32 186
 sk:∀c∈bZ,xI N c
 A9:∀c∈eY,∃b:Bool,c=.v (.bool b)
 rk:∀c∈rows,∃l:List Int,c=.agg (l.map bq)/\l.length=32
section
variable{N:Nat}{dP bZ eY rows:List bg}{sv bB bN:bg}{h h':List br}
def me.ext(q:me B h v xs n e)(S:∀(j:Nat) c,h[j]?=a_ (.tok c n e)->h'[j]?=a_ (.tok c n e)):me B h' v xs n e:=by
 rcases q with q|⟨id,q1,bt,bT⟩
 exact bD q;exact bF ⟨id,q1,bt,S _ _ bT⟩
def me.sl{B:Nat}{v:bg}{xs:List bg}{n:Nat}{e:TypeId}(q:me B h v xs n e):∃t,v=.sl xs t:=by
 rcases q with q|⟨id,q1,_⟩
 exact⟨_,q⟩;exact⟨_,q1⟩
def me.one(q:me B h v xs n e):cr v=bh:=by
 obtain⟨t,rfl⟩:=q.sl;rfl
def kj.ext(z:kj N dP bZ eY rows sv bB bN h)(S:∀(j:Nat) b,h[j]?=a_ b->(∀Z,b≠.cells Z bf\/j<=2)->h'[j]?=a_ b):kj N dP bZ eY rows sv bB bN h':=by
 refine⟨S _ _ z.n λ_=>bF ag,S _ _ z.r λ_=>bF ag,S _ _ z.t λ_=>bF ag,z.s.ext λj c q=>S _ _ q λ_=>bD af,z.a.ext λj c q=>S _ _ q λ_=>bD af,?_,z.sk,z.A9,z.rk⟩
 rcases z.w with q|⟨id,q1,bt⟩
 exact bD q;exact bF ⟨id,q1,S _ _ bt λ_=>bD af⟩
def kj.app{x:List br}(z:kj N dP bZ eY rows sv bB bN h):kj N dP bZ eY rows sv bB bN (h++x):=z.ext λj b q _=>bU q
def kj.set(z:kj N dP bZ eY rows sv bB bN h)(hm:3<=m){Z cs':List bg}(S:h[m]?=a_ (.cells Z bf)):kj N dP bZ eY rows sv bB bN (h.set m (.cells cs' bf)):=z.ext λj b q O=>by
 rw[bC];exact q;rintro rfl;rw[S] at q;cases q
 rcases O Z with k|k
 exact k rfl;omega
def Tg(h h':List br):Prop:=h.length<=h'.length/\∀(j:Nat) Z,j≠2->h[j]?=a_ (.cells Z bf)->h'[j]?=a_ (.cells Z bf)
def kj.push(z:kj N dP bZ eY rows sv bB bN h){c:bg}(T:xI N c)(hl:bZ.length<=1000):∃ke g g',eu h 1 24 123 sv (.sl [c] .exact)=a_ (ke,g)/\bL g 1 (.mp 2 0) ke=a_ g'/\kj N dP (bZ++[c]) eY rows ke bB bN g'/\Tg h g':=by
 obtain⟨v,g,e1,e2,_,hA,O,q⟩:=aeO (x:=c) (b6:=24) (o:=0) z.s (jR _) z.t af (Av λx I=>(z.sk x I).one) (Av λx I=>by rw[dR.1 I];exact T.one) ag ag aa;exact⟨v,g,_,e1,e2,⟨q.cells z.n ag,q.cells z.r ag,O,hA,q.own z.t z.a ag,q.CM z.t z.w ag,λx I=>(gA.1 I).elim (z.sk x) λq=>by rw[dR.1 q];exact T,z.A9,z.rk⟩,q.1,λj c hj O=>q.cells O hj⟩
def kj.aA8(z:kj N dP bZ eY rows sv bB bN h)(b:Bool)(hl:eY.length<=1000):∃Kn g g',eu h 1 1 4 bN (.sl [.v (.bool b)] .exact)=a_ (Kn,g)/\bL g 1 (.mp 2 2) Kn=a_ g'/\kj N dP bZ (eY++[.v (.bool b)]) rows sv bB Kn g'/\Tg h g':=by
 obtain⟨v,g,e1,e2,_,hA,O,q⟩:=aeO (x:=.v (.bool b)) (b6:=1) (o:=2) z.a (jR _) z.t af (Av λx I=>by obtain⟨b,rfl⟩:=z.A9 x I;rfl) rfl ag ag aa;exact⟨v,g,_,e1,e2,⟨q.cells z.n ag,q.cells z.r ag,O,q.own z.t z.s ag,hA,q.CM z.t z.w ag,z.sk,λx I=>(gA.1 I).elim (z.A9 x) λq=>⟨b,dR.1 q⟩,z.rk⟩,q.1,λj c hj O=>q.cells O hj⟩
@[go_sem]def Rh(l:List Int)(hl:l.length=32):c8 32 [dD (l.map bq)]=bh:=by
 have:(l.map bq).all cr=bh:=by
  rw[eO];intro x I;obtain⟨n,_,rfl⟩:=dZ.1 I;rfl
 simp only[c8,oJ,sw,jy,this,dj,hl];rfl
def kj.D0(z:kj N dP bZ eY rows sv bB bN h){l:List Int}(Af:l.length=32)(hl:rows.length<=1000):∃j9 g g',eu h 32 256 186 bB (.sl [.agg (l.map bq)] .exact)=a_ (j9,g)/\bL g 1 (.mp 2 1) j9=a_ g'/\kj N dP bZ eY (rows++[.agg (l.map bq)]) sv j9 bN g'/\Tg h g':=by
 have f_:c8 32 rows=bh:=by
  rw[c8,eO];intro x I;obtain⟨l,rfl,hl⟩:=z.rk x I;have:=Rh l hl;simpa[c8] using this
 obtain⟨v,g,e1,e2,_,hA,O,q⟩:=KW (x:=.agg (l.map bq)) (b6:=256) (o:=1) z.w z.t af f_ (Rh l Af) ag ag aa;exact⟨v,g,_,e1,e2,⟨q.cells z.n ag,q.cells z.r ag,O,q.own z.t z.s ag,q.own z.t z.a ag,hA,z.sk,z.A9,λx I=>(gA.1 I).elim (z.rk x) λq=>⟨l,dR.1 q,Af⟩⟩,q.1,λj c hj O=>q.cells O hj⟩
end
def abr(r:bg):Prop:=∃(a b c:bg) (t:Bool),r=.bQ [.agg [a,b,c],.v (.bool t)]/\cr a=bh/\cr b=bh/\cr c=bh
def amr(J:List br):∀{Z:List bg},(∀c∈Z,xI N c)->∃ys,e4 J Z ys
 |[],_=>⟨[],cW⟩
 |c::r,h=>by
  obtain⟨l,Y,_⟩:=h c af;obtain⟨v',q1,_⟩:=Y.fz J;obtain⟨ys,k1⟩:=amr J (Z:=r) λx I=>h x aA;exact⟨v'::ys,bG q1 k1⟩
def aDK{dP bZ eY rows:List bg}{sv bB bN:bg}{h:List br}(z:kj N dP bZ eY rows sv bB bN h)(b:Bool):∃n bS,cX g n (.bQ [.agg [sv,bB,bN],.v (.bool b)])=a_ bS/\abr bS:=by
 obtain⟨t1,rfl⟩:=z.s.sl;obtain⟨t2,rfl⟩:=z.a.sl;obtain⟨ys,hy⟩:=amr g z.sk;have ha:e4 g eY eY:=e4.each λa ha=>by obtain⟨b,rfl⟩:=z.A9 a ha;exact bH _
 obtain⟨j9,hn,Y⟩:∃j9,b8 g bB j9/\cr j9=bh:=by
  rcases z.w with⟨rfl,_⟩|⟨id,rfl,_⟩
  exact⟨.bp,eB,rfl⟩;have D:e4 g rows rows:=e4.each λa ha=>by
   obtain⟨l,rfl,_⟩:=z.rk a ha;exact kA (iW λa _=>bH _)
  exact⟨_,gP D,rfl⟩
 obtain⟨n,hn⟩:=(fD (bG (kA (bG (gP (t:=t1) hy) (bG hn (bG (gP (t:=t2) ha) cW)))) (bG (bH (.bool b)) cW)):b8 g _ _).done;exact⟨n,_,hn,_,_,_,b,rfl,rfl,Y,rfl⟩
@[go_sem]def Tx{s:Nat}(hs:s<32):mO 32 1 (.mp m 0) (.v (.int .i64 (s:Int)))=a_ (.mp m s):=by
 unfold mO;dsimp only;rw[if_pos ⟨aa,aa⟩];simp[mh]
section
variable{G:Cells}
def aAg{x:bg}(I:J3 x):dA G bE 48 [x] abr:=by
 have FR:=I.clean;obtain⟨N,bx,bv,f,e,b,xs,ys,rfl,hN,Y,V,h3,h4,h5,h6,h7,h8⟩:=I;refine dX (axb.go ?_);have jq:(dD [bx,bv,f,e,.v (.bool b)]).cells=[bx,bv,f,e,.v (.bool b)]:=rfl;refine eE (λe' g=>e'=[(1,.mp 0 0),(2,.mp 1 0)]/\g=[.cells [bx,bv,f,e,.v (.bool b)] bf,.cells [.bp,.bp,.bp] bf]) ?_ ?_;exact fy @jq tt;rintro e' g ⟨rfl,hg⟩;have gl:g.length=2:=by rw[hg];rfl
 refine eE (λe' g=>e'=[(1,.mp 0 0),(2,.mp 1 0),(4,.mp 2 0)]/\∃bZ eY rows sv bB bN,kj N [bx,bv,f,e,.v (.bool b)] bZ eY rows sv bB bN g/\bZ.length=1/\eY.length=1/\rows.length=0) ?_ ?_;have iE:=tQ (n:=3) (g:=g++[.cells [.bp,.bp,.bp] bf]) (k:=g.length) (Z:=[.sl [.bp] .exact,.bp,.sl [.v (.bool b)] .exact]) (cs0:=[.bp,.bp,.bp]) af rfl rfl rfl;have e1:(g++[bw [.bp,.bp,.bp] bf]).set g.length (.cells [.sl [.bp] .exact,.bp,.sl [.v (.bool b)] .exact] bf)=g++[.cells [.sl [.bp] .exact,.bp,.sl [.v (.bool b)] .exact] bf]:=af
 rw[e1,gl] at iE;refine iu (Hp (w:=.bp) rfl) @gl @iE ?_;refine⟨trivial,[.bp],[.v (.bool b)],[],_,_,_,⟨?_,?_,?_,bD rfl,bD rfl,bD ⟨rfl,rfl⟩,?_,?_,af⟩,rfl,rfl,rfl⟩;rw[hg];rfl;rw[hg];rfl;rw[hg];rfl;intro c T;rw[dR.1 T];exact⟨[],bD ⟨rfl,rfl⟩,af,af⟩;intro c T;rw[dR.1 T];exact⟨b,rfl⟩;rintro e' g1 ⟨rfl,bZ,eY,rows,sv,bB,bN,cg,pQ,aGb,Dw⟩;refine iq (λe' g=>e'=[(2,.mp 1 0),(4,.mp 2 0)]/\∃bZ eY rows sv bB bN,kj N [bx,bv,f,e,.v (.bool b)] bZ eY rows sv bB bN g) ?_ ?_;refine wy ?_;refine o9 (n:=300) (λk e' g=>∃(i:Nat) (bZ eY rows:List bg) (sv bB bN:bg),k=300-i/\e'=[(1,.mp 0 0),(2,.mp 1 0),(4,.mp 2 0),(5,bq i)]/\kj N [bx,bv,f,e,.v (.bool b)] bZ eY rows sv bB bN g/\i<=bZ.length/\1<=bZ.length/\bZ.length<=200/\eY.length=bZ.length/\rows.length=i) ⟨0,bZ,eY,rows,sv,bB,bN,rfl,rfl,cg,aa,aa,aa,aa,aa⟩ ?_;rintro k e' g ⟨i,bZ,eY,rows,sv,bB,bN,rfl,rfl,z,V9,hi2,auC,oV,nw⟩;obtain⟨t0,wQ⟩:=z.s.sl;have jZ:cN sv=λg=>a_ (.v (.int .i64 (bZ.length:Int)),g):=by funext g;rw[wQ,qq,mq]
 have Mc:∀g,cN sv g=a_ (.v (.int .i64 (bZ.length:Int)),g):=λg=>by rw[jZ]
 obtain⟨l0,l1,l2,l3⟩:=Ga z.t
 rcases d_ i bZ.length with cQ|hge
 have d1:decide ((i:Int)<(bZ.length:Int))=bh:=ah
 refine iq (λe' g'=>e'=[(1,.mp 0 0),(2,.mp 1 0),(4,.mp 2 0),(5,bq i)]/\g'=g) ?_ ?_;exact o_ @bq.eq_1 @l0 @Mc @d1 tt;rintro e' g' ⟨rfl,rfl⟩;refine iq (λe' g=>e'=[(1,.mp 0 0),(2,.mp 1 0),(4,.mp 2 0),(5,bq i)]/\∃(bZ eY rows:List bg) (sv bB bN:bg),kj N [bx,bv,f,e,.v (.bool b)] bZ eY rows sv bB bN g/\i+1<=bZ.length/\bZ.length<=200/\eY.length=bZ.length/\rows.length=i+1) ?_ ?_;rw[Ca];have z0:(e3 32 (bq 0)).all cr=bh:=rfl;have kH:3<=g'.length:=by have:=(cJ.1 z.t).1;omega
 refine iq (λe' g=>e'=[(1,.mp 0 0),(2,.mp 1 0),(4,.mp 2 0),(5,bq i),(6,.mp g'.length 0)]/\g=g'++[.cells (e3 32 (bq 0)) bf]) ?_ ?_;have iE:=tQ (n:=32) (g:=g'++[.cells (e3 32 (bq 0)) bf]) (k:=g'.length) (Z:=e3 32 (bq 0)) (cs0:=e3 32 (bq 0)) af rfl rfl z0;have e1:(g'++[bw (e3 32 (bq 0)) bf]).set g'.length (.cells (e3 32 (bq 0)) bf)=g'++[.cells (e3 32 (bq 0)) bf]:=af
 have f1:dH (e3 32 (bq 0)) []=a_ (e3 32 (bq 0)):=rfl;rw[e1] at iE;simp only[e3,bq] at iE f1;exact wx uy;rintro e' g2 ⟨rfl,lu⟩;have z2:kj N [bx,bv,f,e,.v (.bool b)] bZ eY rows sv bB bN g2:=by rw[lu];exact z.app
 have r2:g2[g'.length]?=a_ (.cells ((e3 32 (0:Int)).map bq) bf):=by rw[lu];simp
 generalize g'.length=m6 at r2 kH⊢;refine iq (λe' g=>∃m7 fu,e'=[(1,.mp 0 0),(2,.mp 1 0),(4,.mp 2 0),(5,bq i),(6,.mp m6 0),(7,.mp m7 0)]/\kj N [bx,bv,f,e,.v (.bool b)] bZ eY rows sv bB bN g/\g[m6]?=a_ (.cells ((e3 32 (0:Int)).map bq) bf)/\g[m7]?=a_ (.cells fu bf)/\fu.length=32/\(∀c∈fu,xI N c)/\3<=m7/\m7≠m6) ?_ ?_;have la:=(jC z2.n).2.2.2.2.2;have zt:=z2.t;rw[wQ] at zt;refine iF @bq.eq_1 @la (cm (aqm zt z2.sk aa cQ hN Y V h3 h4 h5 h6 h7) ?_);rintro _ g3 ⟨hE,Z,rfl,H9,afH⟩;have avg:Z.all cr=bh:=eO.2 λc T=>(afH c T).one;have z3:kj N [bx,bv,f,e,.v (.bool b)] bZ eY rows sv bB bN g3:=z2.ext λj b q _=>hE j b q;have Dr:=(cJ.1 (hE _ _ r2)).1;have iE:=tQ (n:=32) (g:=g3++[.cells (e3 32 .bp) bf]) (k:=g3.length) (Z:=Z) (cs0:=e3 32 .bp) af rfl H9 avg;have e1:(g3++[bw (e3 32 .bp) bf]).set g3.length (.cells Z bf)=g3++[.cells Z bf]:=af
 rw[e1] at iE;simp only[e3] at iE;refine fy @iE ?_;exact⟨_,Z,rfl,z3.app,bU (hE _ _ r2),af,H9,afH,aa,aa⟩;rintro e' g3 ⟨m7,fu,rfl,z3,jk,jH,ol,os,Wm,aGv⟩;refine iq (λe' g=>e'=[(1,.mp 0 0),(2,.mp 1 0),(4,.mp 2 0),(5,bq i),(6,.mp m6 0)]/\∃(bZ eY:List bg) (sv bN:bg) (l:List Int),kj N [bx,bv,f,e,.v (.bool b)] bZ eY rows sv bB bN g/\g[m6]?=a_ (.cells (l.map bq) bf)/\l.length=32/\i<bZ.length/\bZ.length<=232/\eY.length=bZ.length) ?_ ?_;refine wy ?_;refine dx (λs e' g=>e'=[(1,.mp 0 0),(2,.mp 1 0),(4,.mp 2 0),(5,bq i),(6,.mp m6 0),(7,.mp m7 0),(8,bq s)]/\∃(bZ eY:List bg) (sv bN:bg) (l:List Int),kj N [bx,bv,f,e,.v (.bool b)] bZ eY rows sv bB bN g/\g[m6]?=a_ (.cells (l.map bq) bf)/\l.length=32/\g[m7]?=a_ (.cells fu bf)/\i<bZ.length/\bZ.length<=200+s/\eY.length=bZ.length) 32 ⟨rfl,bZ,eY,sv,bN,_,z3,jk,af,jH,cQ,aa,oV⟩ ?_ ?_;rintro s e' g hs ⟨rfl,bZ,eY,sv,bN,l,z,r,Af,o,hl1,jP,oV⟩;obtain⟨t0,wQ⟩:=z.s.sl;have Mc:∀g,cN sv g=a_ (.v (.int .i64 (bZ.length:Int)),g):=λg=>by rw[wQ,qq,mq]
 obtain⟨c,T⟩:∃c,fu[s]?=a_ c:=⟨fu[s]' aa,cx _⟩;have jh:=os c (cE T);have lc:bA g bf 1 (.mp m7 s)=a_ c:=by
  simp only[bA,o,eZ];rw[if_neg af];exact T
 have apt:=Tx (m:=m7) hs;have aps:=Tx (m:=m6) hs;have d2:decide ((s:Int)<32)=bh:=ah
 refine iq (λe' h=>e'=[(1,.mp 0 0),(2,.mp 1 0),(4,.mp 2 0),(5,bq i),(6,.mp m6 0),(7,.mp m7 0),(8,bq s)]/\h=g) ?_ ?_;exact iF @bq.eq_1 @d2 tt;rintro e' g' ⟨rfl,rfl⟩;refine iq (λe' g=>e'=[(1,.mp 0 0),(2,.mp 1 0),(4,.mp 2 0),(5,bq i),(6,.mp m6 0),(7,.mp m7 0),(8,bq s)]/\∃(bZ eY:List bg) (sv bN:bg) (l:List Int),kj N [bx,bv,f,e,.v (.bool b)] bZ eY rows sv bB bN g/\g[m6]?=a_ (.cells (l.map bq) bf)/\l.length=32/\g[m7]?=a_ (.cells fu bf)/\i<bZ.length/\bZ.length<=200+(s+1)/\eY.length=bZ.length) ?_ ?_;rw[Ca];refine iq (λe' h=>e'=[(1,.mp 0 0),(2,.mp 1 0),(4,.mp 2 0),(5,bq i),(6,.mp m6 0),(7,.mp m7 0),(8,bq s),(9,c)]/\h=g') ?_ ?_;exact iu @bq.eq_1 @apt @lc tt;rintro e' tV ⟨rfl,rfl⟩;refine iq (λe' h=>e'=[(1,.mp 0 0),(2,.mp 1 0),(4,.mp 2 0),(5,bq i),(6,.mp m6 0),(7,.mp m7 0),(8,bq s),(9,c),(10,.v (.int .i64 (-1)))]/\h=tV) ?_ ?_;exact wx tt;rintro e' g' ⟨rfl,rfl⟩;refine iq (λe' g=>∃to:Int,e'=[(1,.mp 0 0),(2,.mp 1 0),(4,.mp 2 0),(5,bq i),(6,.mp m6 0),(7,.mp m7 0),(8,bq s),(10,bq to)]/\∃(bZ eY:List bg) (sv bN:bg),kj N [bx,bv,f,e,.v (.bool b)] bZ eY rows sv bB bN g/\g[m6]?=a_ (.cells (l.map bq) bf)/\g[m7]?=a_ (.cells fu bf)/\i<bZ.length/\bZ.length<=200+(s+1)/\eY.length=bZ.length) ?_ ?_;obtain⟨cC,c1,c2,c3⟩:=jh
 rcases Ct cC.length with hz|hz
 have d3:decide ((cC.length:Int)>0)=bf:=decide_eq_false aa;have arw:decide ((0:Int)<(cC.length:Int))=bf:=decide_eq_false aa;refine iu @c1.len @d3 @arw ?_;exact⟨-1,rfl,bZ,eY,sv,bN,z,r,o,hl1,aa,oV⟩;have d3:decide ((cC.length:Int)>0)=bh:=decide_eq_true aa;have zt:=z.t;rw[wQ] at zt;refine wx (cm (ar_ zt z.sk aa aa (os c (cE T))) ?_);rintro _ g3 ⟨rfl,n,rfl,o3,Qa⟩;refine wy (cL (λq=>?_) λq=>?_);obtain⟨l0,l1,l2,l3⟩:=Ga z.t;obtain⟨ke,g4,g5,e1,e2,z5,vl⟩:=z.push (os c (cE T)) aa;refine yQ @q @l0 @Mc (Hp (os c (cE T)).one) @e1 @e2 ?_;obtain⟨m0,m1,m2,m3⟩:=Ga z5.t;obtain⟨n0,n1,n2,lX,ie,_⟩:=jC z5.n;obtain⟨c',ci,Z⟩:=c1.imp;obtain⟨el,dc,eL⟩:=h8;have sW:=eL.len;refine oH @mh @m2 @lX @pZ.eq_1 @q2.eq_1 @true_and @and_true (jz (aEf Z dc (EZ Z) (EZ dc) aa aa 1) (cl ci (cl (EZ dc) (cl (dz _) dK))) ?_);rintro r1 ⟨rl,q1,bt,bT⟩;obtain⟨Kn,g6,g7,a1,a2,Ce,rW⟩:=z5.aA8 (decide ((rl.length:Int)>0)) aa;have apr:eu g5 1 1 4 bN (.sl [.v (.bool (decide ((0:Int)<(rl.length:Int))))] .exact)=a_ (Kn,g6):=a1;refine oH @m2 @lX ((yF q1).len) @a1 @apr @a2 @td ?_;exact⟨_,rfl,_,_,_,_,Ce,rW.2 _ _ aa (vl.2 _ _ aa r),rW.2 _ _ aa (vl.2 _ _ aa o),ah,ah,by simp[oV]⟩;refine fy @q ?_;exact⟨n,rfl,bZ,eY,sv,bN,z,r,o,hl1,aa,oV⟩;rintro e' g3 ⟨to,rfl,bZ,eY,sv,bN,z,r,o,hl1,jP,oV⟩;have au3:=(cJ.1 r).1;have iE:bL g3 1 (.mp m6 s) (.v (.int .i64 to))=a_ (g3.set m6 (.cells ((l.set s to).map bq) bf)):=by
  have eL:(cU (.int .i64 to)).cells=[.v (.int .i64 to)]:=rfl;simp only[bL,r,e5,eL];rw[if_pos ⟨rfl,ah,rfl⟩,MJ ah,xw];rfl
 refine iu @bq.eq_1 @aps @iE ?_;exact⟨trivial,bZ,eY,sv,bN,_,z.set aa r,bV au3,by simpa using Af,by rw[bC aa];exact o,hl1,jP,oV⟩;rintro e' g4 ⟨rfl,q⟩;refine fy @bq.eq_1 ?_;exact⟨trivial,q⟩;rintro e' g ⟨rfl,bZ,eY,sv,bN,l,z,r,Af,o,hl1,jP,oV⟩;have d2:decide (((32:Nat):Int)<32)=bf:=ag
 refine iF @bq.eq_1 @d2 ?_;exact⟨trivial,bZ,eY,sv,bN,l,z,r,Af,hl1,jP,oV⟩;rintro e' g4 ⟨rfl,bZ,eY,sv,bN,l,z,r,Af,hl1,jP,oV⟩;obtain⟨l0,l1,l2,l3⟩:=Ga z.t;obtain⟨j9,g5,g6,e1,e2,vH,FY⟩:=z.D0 Af aa;have ab:e9 32 [dD (l.map bq)]=a_ (.sl [.agg (l.map bq)] .exact):=by
  unfold e9;rw[if_pos ⟨Rh l Af,af⟩]
 obtain⟨t0,wQ⟩:=vH.s.sl;have Mc:∀g,cN sv g=a_ (.v (.int .i64 (bZ.length:Int)),g):=λg=>by rw[wQ,qq,mq]
 obtain⟨m0,m1,m2,m3⟩:=Ga vH.t;refine hD (zz r (by simpa using Af)) (cL (λq=>?_) λq=>?_);have iE:=tQ (n:=3) vH.r rfl (Z:=[.bp,.bp,.bp]) rfl rfl;have hl1:=(cJ.1 vH.r).1;have la:=zz (n:=3) (bV (a:=.cells [bg.bp,.bp,.bp] bf) hl1) rfl;refine wx ?_;obtain⟨n,hn⟩:=(fD (bG (kA (bG eB (bG eB (bG eB cW)))) (bG (bH (.bool bf)) cW)):b8 (g6.set 1 (.cells [bg.bp,.bp,.bp] bf)) _ _).done;exact⟨n,_,hn,_,_,_,bf,rfl,rfl,rfl,rfl⟩;have q':bZ.length<=200:=au
 refine wx ?_;exact⟨trivial,bZ,eY,_,sv,j9,bN,vH,hl1,q',oV,by simp[nw]⟩;rintro e' g3 ⟨rfl,bZ,eY,rows,sv,bB,bN,z,hl1,jP,oV,nw⟩;refine wy ?_;exact⟨300-(i+1),aa,i+1,bZ,eY,rows,sv,bB,bN,rfl,rfl,z,hl1,aa,jP,oV,nw⟩;have d1:decide ((i:Int)<(bZ.length:Int))=bf:=ah
 refine o_ @bq.eq_1 @l0 @Mc @d1 ?_;exact⟨trivial,bZ,eY,rows,sv,bB,bN,z⟩;rintro e' g2 ⟨rfl,bZ,eY,rows,sv,bB,bN,z⟩
 have no:cr bB=bh:=by rcases z.w with⟨q,_⟩|⟨_,q,_⟩<;>rw[q]<;>rfl
 have iE:=tQ (n:=3) z.r rfl (Z:=[sv,bB,bN]) rfl (by simp[z.s.one,z.a.one,no]);have hl1:=(cJ.1 z.r).1;have la:=zz (n:=3) (bV (a:=.cells [sv,bB,bN] bf) hl1) rfl;obtain⟨l0,l1,l2,l3⟩:=Ga z.t;exact wy (aDK z bh)
end
end
section
variable{n0:Nat}{v:bg}{ps:List cM}
def aly(h:xC n0 v ps)(hn:n0<=100000000)(bR:ps≠[]):sz ps ((ps.length-1:Nat):Int)<=1000000000:=by
 have hl:=h.len;obtain⟨x,I⟩:=h.top.resolve_left bR;have D:=Zu bR I;have hs:=Zs h.ok.kids I;rw[D] at hs;simp only[fM,mI,y8,GY] at hs;omega
def abd(ps:List cM)(r:bg):Prop:=∃(t:Bool) (n:Int),r=.bQ [.v (.bool t),.v (.int .i64 n)]/\0<=n/\n<=20/\(n=0->ps≠[]->cnt ps ((ps.length-1:Nat):Int)<=256)
def KU{J:List br}{t:Bool}{n:Int}(h0:0<=n)(Y:n<=20)(h:n=0->ps≠[]->cnt ps ((ps.length-1:Nat):Int)<=256):∃k bS,cX J k (.bQ [.v (.bool t),.v (.int .i64 n)])=a_ bS/\abd ps bS:=by
 obtain⟨k,S⟩:=(fD (bG (bH (.bool t)) (bG (bH (.int .i64 n)) cW)):b8 J _ _).done;exact⟨k,_,S,t,n,rfl,h0,Y,h⟩
section
variable{G:Cells}{bB mv a b c:bg}{cv marks:List (List bg)}
def aAm{lv:bg}{rows:List (List bg)}(hr:qE bB mv cv marks)(hS:eP (.agg [bB,mv,a,b,c]))(h:xC n0 v ps)(hn:n0<=100000000)(Bu:cG lv (rows.map dD))(fO:eP lv)(Dp:∀x∈rows,v8 x)(oX:rows.length<=1000000000):
  dA G bE 26 [.agg [bB,mv,a,b,c],v,lv] (abd ps):=by
 refine dX (awP.go ?_);have vh:=h.len;have ln:=h.v.cN;rw[dj] at ln;have lC:∀J,cN v J=a_ (.v (.int .i64 (ps.length:Int)),J):=λJ=>aHC
 have lm:=Bu.cN;rw[dj] at lm;have F7:∀J,cN lv J=a_ (.v (.int .i64 (rows.length:Int)),J):=λJ=>by rw[lm J,mq]
 have Xj:bA [bw [bB,mv,a,b,c] bf] bh 5 (.mp 0 0)=a_ (.agg [bB,mv,a,b,c]):=rfl;have H:∃X:List br,X=[bw [bB,mv,a,b,c] bf]:=⟨_,rfl⟩;refine eE (λe g=>e=[(1,v),(2,lv),(3,.mp 0 0)]/\g=[bw [bB,mv,a,b,c] bf]) ?_ ?_;exact wx tt;rintro e g ⟨rfl,rfl⟩;refine eE (λe g=>e=[(1,v),(2,lv),(3,.mp 0 0),(8,.v (.bool bf))]/\g=[bw [bB,mv,a,b,c] bf]) ?_ ?_;exact wx tt;rintro e g ⟨rfl,rfl⟩;refine eE (λe g=>e=[(1,v),(2,lv),(3,.mp 0 0),(8,.v (.bool bf)),(9,.v (.bool bf))]/\g=[bw [bB,mv,a,b,c] bf]) ?_ ?_;exact wx tt;rintro e g ⟨rfl,rfl⟩;refine iq (λe g=>∃t b':Bool,e=[(1,v),(2,lv),(8,.v (.bool t)),(9,.v (.bool b'))]/\g=[bw [bB,mv,a,b,c] bf]) ?_ ?_;refine wy ?_;refine dx (λi e h=>∃t b':Bool,e=[(1,v),(2,lv),(3,.mp 0 0),(8,.v (.bool t)),(9,.v (.bool b')),(10,bq i)]/\h=[bw [bB,mv,a,b,c] bf]) rows.length ⟨bf,bf,rfl,rfl⟩ ?_ ?_;rintro i e g Q ⟨t,b',rfl,rfl⟩;obtain⟨y,hy⟩:=cO Q;obtain⟨nm,iv,l,rfl,x8,Ic,aGt,Dl⟩:=Dp y (cE hy);have ny:cA 2 lv (.v (.int .i64 (i:Int)))=a_ (.fp [bu nm,iv] 0):=Bu.cI (x:=.agg [bu nm,iv]) aT rfl;have av3:=yF x8;refine nD ?_;refine c_ (λq=>?_) λq=>?_;exact KU ag ag (λq=>absurd q ag);refine dx (λj e h=>∃t b':Bool,e=[(1,v),(2,lv),(3,.mp 0 0),(8,.v (.bool t)),(9,.v (.bool b')),(10,bq i),(11,bq j)]/\h=[bw [bB,mv,a,b,c] bf]) l.length ⟨t,b',rfl,rfl⟩ ?_ ?_;rintro j e g hj ⟨t,b',rfl,rfl⟩;obtain⟨x,I⟩:=cO hj;have ix:=av3.cI I;cases t with
 |true=>
  cases b' with
  |true=>
   refine o_ @bq.eq_1 @ny @ix @Xj ?_;exact⟨_,_,rfl,trivial⟩
  |false=>
   refine nD ?_;refine ek (WS hr hS x) ?_;rintro r ⟨z,rfl⟩;refine wx ?_;exact⟨_,_,rfl,trivial⟩
 |false=>
  refine nD ?_;refine ek (WS hr hS x) ?_;rintro r ⟨z,rfl⟩;cases b' with
  |true=>
   refine wx ?_;exact⟨_,_,rfl,trivial⟩
  |false=>
   refine wy ?_;refine ek (WS hr hS x) ?_;rintro r ⟨z2,rfl⟩;refine wx ?_;exact⟨_,_,rfl,trivial⟩
 rintro e g ⟨t,b',rfl,rfl⟩;refine iF @bq.eq_1 @ny ?_;exact⟨_,_,rfl,trivial⟩;rintro e g ⟨t,b',rfl,rfl⟩;refine iF @bq.eq_1 @F7 ?_;exact⟨t,b',rfl,trivial⟩;rintro e g ⟨t,b',rfl,rfl⟩;refine iq (λe g=>e=[(1,v),(2,lv),(8,.v (.bool t))]/\g=[bw [bB,mv,a,b,c] bf]) ?_ ?_;cases t with
 |false=>
  exact wx tt
 |true=>
  cases b' with
  |false=>
   exact wx tt
  |true=>
   refine wy ?_;exact KU ag ag (λq=>absurd q ag)
 rintro e g ⟨rfl,rfl⟩;refine iq (λe g=>(e=[(1,v),(2,lv),(8,.v (.bool t))]/\g=[bw [bB,mv,a,b,c] bf])/\(ps≠[]->cnt ps ((ps.length-1:Nat):Int)<=256)) ?_ ?_
 rcases Ct ps.length with hz|hz
 have d:decide ((ps.length:Int)>0)=bf:=decide_eq_false aa;have d':decide ((0:Int)<(ps.length:Int))=bf:=decide_eq_false aa;refine iu @lC @d @d' ?_;exact⟨⟨trivial,trivial⟩,λbR=>absurd (nF hz) bR⟩;have d:decide ((ps.length:Int)>0)=bh:=decide_eq_true aa;have bR:ps≠[]:=by rintro rfl;simp at hz
 refine wy (gO (azC h _ (ps.length-1) (AX _) aa (aly h hn bR)) (cl (Bd h) (cl (dz _) dK)) ?_);refine wy ?_;refine c_ (λq=>?_) λq=>?_;exact KU ag ag (λq=>absurd q ag);refine⟨⟨trivial,trivial⟩,λ_=>?_⟩;simp at q;omega;rintro e g ⟨⟨rfl,rfl⟩,T⟩;have x0:∀a b,oP 0 (.bQ [a,b])=a_ a:=λ_ _=>rfl;refine wy ?_;refine jz (aAA h aa Bu fO Dp oX λbR=>⟨T bR,aly h hn bR⟩) (cl (Bd h) (cl fO dK)) ?_;intro r D;refine wy (jz (aAg D) (cl D.clean dK) ?_);rintro r2 ⟨y1,fK,lI,t2,rfl,o1,o2,jH⟩;have st:=tQ (n:=3) (g:=[bw [bB,mv,a,b,c] bf,bw [.bp,.bp,.bp] bf]) (k:=1) (Z:=[y1,fK,lI]) (cs0:=[.bp,.bp,.bp]) rfl rfl rfl (by simp only[oJ,sw,o1,o2,jH];rfl);refine wy ?_;cases t2 with
 |false=>
  refine wy ?_;exact KU ag ag (λq=>absurd q ag)
 |true=>
  refine wy ?_;exact KU ag ag λ_=>T
end
end
section
variable{mv bB v w x y:bg}{g h J:List br}{m n:Nat}{xs ys:List bg}{e:TypeId}{marks cv rows:List (List bg)}
def zf(x:bg):Prop:=∃(n0:Nat) (ps:List cM),xC n0 x ps/\n0<=100000000/\(ps≠[]->cnt ps ((ps.length-1:Nat):Int)<=256)
def zf.one(h:zf x):cr x=bh:=by
 obtain⟨n0,ps,h,_⟩:=h
 rcases h.v with rfl|⟨rfl,_⟩<;>rfl
def zf.fz(h:zf x)(J:List br):b8 J x x:=by
 obtain⟨n0,ps,h,_⟩:=h
 rcases h.v with rfl|⟨rfl,_⟩
 have fl:e4 J (ps.map q9) (ps.map q9):=iW λp avj=>by
  have:=Va J p;rw[show p.cC=p by
   have:=h.no p avj;cases p;simp only[cM.cC] at*;simp[this]] at this
  exact this
 exact gP fl;exact eB
def zf.clean(h:zf x):eP x:=by
 obtain⟨n0,ps,h,_⟩:=h;exact Bd h
structure N1(hk:bg):Prop where
 ex:∃(bB mv pv cF lv:bg) (cv marks:List (List bg)) (ju kQ:List bg) (kM:List (List bg)),hk=.agg [bB,mv,pv,cF,lv]/\qE bB mv cv marks/\cG pv ju/\ju.length=cv.length/\(∀x∈ju,zf x)/\cG cF kQ/\kQ.length=cv.length/\(∀x∈kQ,∃b:Bool,x=.v (.bool b))/\cG lv (kM.map dD)/\(∀x∈kM,v8 x)/\kM.length<=10000000000
def Oc(r:bg):Prop:=∃(a b c d e:bg) (n:Int),r=.bQ [.agg [a,b,c,d,e],.v (.int .i64 n)]/\[a,b,c,d,e].all cr=bh/\(n=0->N1 (.agg [a,b,c,d,e]))/\(n≠0->[a,b,c,d,e]=[.bp,.bp,.bp,.bp,.bp])
def aC9{n:Int}(hn:n≠0):∃k bS,cX J k (.bQ [.agg [.bp,.bp,.bp,.bp,.bp],.v (.int .i64 n)])=a_ bS/\Oc bS:=by
 obtain⟨k,S⟩:=(fD (bG (kA (bG eB (bG eB (bG eB (bG eB (bG eB cW)))))) (bG (bH (.int .i64 n)) cW)):b8 J _ _).done;exact⟨k,_,S,_,_,_,_,_,n,rfl,rfl,λq=>absurd q hn,λ_=>rfl⟩
def ab2(hA:cV h v xs n e)(S:∀(j:Nat) b,h[j]?=a_ b->(∀ys,v≠.sl ys (.tok j))->g[j]?=a_ b):∀(j:Nat) b,h[j]?=a_ b->(∀c,b≠.tok c n e)->g[j]?=a_ b:=λj b q O=>S j b q λys z=>by
 rcases hA with⟨q1,_⟩|⟨id,q1,bt⟩
 rw[q1] at z;cases z;rw[q1] at z;cases z;rw[bt] at q;cases q;exact O _ rfl
def ab3{e2:TypeId}(hA:cV h w ys m e2)(kp:∀(j:Nat) b,h[j]?=a_ b->(∀c,b≠.tok c n e)->g[j]?=a_ b)(bR:(m,e2)≠(n,e)):cV g w ys m e2:=by
 rcases hA with q|⟨id,q1,bt⟩
 exact bD q;refine bF ⟨id,q1,kp _ _ bt λc z=>?_⟩;cases z;exact bR rfl
def ap1{b6:Nat}(hA:cV J v xs n e)(lS:cG y ys)(I:c8 n xs=bh)(hy:c8 n ys=bh)(hn:0<n)(O:0<b6)(hfit:(xs.length+ys.length)*b6<=140737488355328):
  ∃v' bl,eu J n b6 e v y=a_ (v',bl)/\cV bl v' (xs++ys) n e/\∀(j:Nat) b,J[j]?=a_ b->(∀xs,v≠.sl xs (.tok j))->bl[j]?=a_ b:=by
 by_cases h0:ys=[];subst h0;refine⟨v,J,?_,by rw[hJ];exact hA,λj b q _=>q⟩
 have T:iK y=a_ []:=by rcases lS with rfl|⟨rfl,_⟩<;>rfl
 rcases hA with⟨rfl,_⟩|⟨id,rfl,_⟩<;>simp[eu,gZ,T]
 rcases lS with rfl|⟨_,z⟩
 exact ab5 hA I hy h0 hn O hfit;exact absurd z h0
structure rB(bB mv pv cF lv:bg)(ju kQ:List bg)(kM:List (List bg))(h:List br):Prop where
 r:h[0]?=a_ (.cells [.bp,.bp,.bp,.bp,.bp] bf)
 d:h[1]?=a_ (.cells [bB,mv] bf)
 b:h[2]?=a_ (.cells [bB,mv,pv,cF,lv] bf)
 p:cV h pv ju 1 74
 t:cV h cF kQ 1 4
 l:cV h lv (kM.map dD) 2 128
 pk:∀x∈ju,zf x
 tk:∀x∈kQ,∃b:Bool,x=.v (.bool b)
 lk:∀x∈kM,v8 x
section
variable{bB mv pv cF lv:bg}{ju kQ:List bg}{kM:List (List bg)}{h:List br}
def Oo(hA:cV h v xs n e):cr v=bh:=by
 rcases hA with⟨rfl,_⟩|⟨_,rfl,_⟩<;>rfl
def Y8{Z cs':List bg}(hA:cV g w ys m e)(O:g[2]?=a_ (.cells Z bf)):cV (g.set 2 (.cells cs' bf)) w ys m e:=by
 rcases hA with q|⟨id,q1,bt⟩
 exact bD q;exact bF ⟨id,q1,by rw[bC (by rintro rfl;rw[O] at bt;cases bt)];exact bt⟩
def rB.aBb(s:rB bB mv pv cF lv ju kQ kM h)(I:zf x)(hl:ju.length<=1000):∃v' g g',eu h 1 24 74 pv (.sl [x] .exact)=a_ (v',g)/\bL g 1 (.mp 2 2) v'=a_ g'/\rB bB mv v' cF lv (ju++[x]) kQ kM g':=by
 obtain⟨v',g,e1,e2,_,hA,O,q⟩:=KW (x:=x) (b6:=24) (o:=2) s.p s.b af (Av λx I=>(s.pk x I).one) (Av λy hy=>by rw[dR.1 hy];exact I.one) ag ag aa;exact⟨v',g,_,e1,e2,q.cells s.r ag,q.cells s.d ag,O,hA,q.CM s.b s.t ag,q.CM s.b s.l ag,λy hy=>(gA.1 hy).elim (s.pk y) λq=>aJB,s.tk,s.lk⟩
def rB.aBc(s:rB bB mv pv cF lv ju kQ kM h)(b:Bool)(hl:kQ.length<=1000):∃v' g g',eu h 1 1 4 cF (.sl [.v (.bool b)] .exact)=a_ (v',g)/\bL g 1 (.mp 2 3) v'=a_ g'/\rB bB mv pv v' lv ju (kQ++[.v (.bool b)]) kM g':=by
 obtain⟨v',g,e1,e2,_,hA,O,q⟩:=KW (x:=.v (.bool b)) (b6:=1) (o:=3) s.t s.b af (Av λx I=>by obtain⟨b,rfl⟩:=s.tk x I;rfl) rfl ag ag aa;exact⟨v',g,_,e1,e2,q.cells s.r ag,q.cells s.d ag,O,q.CM s.b s.p ag,hA,q.CM s.b s.l ag,s.pk,λy hy=>(gA.1 hy).elim (s.tk y) λq=>⟨b,dR.1 q⟩,s.lk⟩
@[go_sem]def Yc(h:∀x∈rows,v8 x):c8 2 (rows.map dD)=bh:=by
 rw[c8,eO];intro y hy;obtain⟨x,I,rfl⟩:=dZ.1 hy;obtain⟨nm,iv,l,rfl,x8,_⟩:=h x I;have:cr iv=bh:=(yF x8).one;simp only[jy,eV,iP,oJ,sw,this];rfl
def rB.MH(s:rB bB mv pv cF lv ju kQ kM h)(lS:cG y (rows.map dD))(D:∀x∈rows,v8 x)(hl:kM.length+rows.length<=100000000000):∃v' g g',eu h 2 40 128 lv y=a_ (v',g)/\bL g 1 (.mp 2 4) v'=a_ g'/\rB bB mv pv cF v' ju kQ (kM++rows) g':=by
 obtain⟨v',g,e1,hA,S⟩:=ap1 (b6:=40) s.l lS (Yc s.lk) (Yc D) ag ag (by simp only[dj];omega);rw[<-gQ] at hA;have kp:=ab2 s.l S;have b1:=kp _ _ s.b af;have st:=(qt b1 (Oo hA)).2.2.2.2;refine⟨v',g,_,e1,st,?_,?_,bV (gl b1),Y8 (ab3 s.p kp ag) b1,Y8 (ab3 s.t kp ag) b1,Y8 hA b1,s.pk,s.tk,λx I=>?_⟩;rw[bC ag];exact kp _ _ s.r af;rw[bC ag];exact kp _ _ s.d af
 rcases gA.1 I with q|q
 exact s.lk x q;exact D x q
def rB.imp(s:rB bB mv pv cF lv ju kQ kM h)(hd:eP bB)(he:eP mv):∃a b c,mc (.agg [bB,mv,pv,cF,lv]) (.agg [bB,mv,a,b,c])/\eP (.agg [bB,mv,a,b,c]):=by
 have one:∀{v:bg} {xs:List bg} {n:Nat} {e:TypeId},cV h v xs n e->(∀x∈xs,∀c∈x.cells,eP c)->∃v',mc v v'/\eP v':=λ{v xs n e} hA T=>by
  rcases hA with⟨rfl,_⟩|⟨id,rfl,_⟩
  exact⟨.bp,od,od⟩;exact⟨.sl xs .no,lQ T,lQ T⟩
 obtain⟨a,a1,a2⟩:=one s.p λx I c T=>by
  rw[qI (s.pk x I).one] at T;rw[dR.1 T];exact(s.pk x I).clean
 obtain⟨b,b1,b2⟩:=one s.t λx I c T=>by
  obtain⟨t,rfl⟩:=s.tk x I;rw[dR.1 (show c∈[cU (.bool t)] from T)];exact dz _
 obtain⟨c,c1,c2⟩:=one s.l λx I c T=>by
  obtain⟨y,hy,rfl⟩:=dZ.1 I;obtain⟨nm,iv,l,rfl,x8,Ic,_⟩:=s.lk y hy;have iT:c∈[bu nm,iv]:=T;simp only[fB,qD,or_false] at iT
  rcases iT with rfl|rfl
  exact dz _;exact Ic
 refine⟨a,b,c,agP rfl λi x y I hy=>?_,HF λx I=>?_⟩
 match i with
 |0=>cases I;cases hy;exact hd
 |1=>cases I;cases hy;exact he
 |2=>cases I;cases hy;exact a1
 |3=>cases I;cases hy;exact b1
 |4=>cases I;cases hy;exact c1
 |i+5=>simp at I
 simp only[fB,qD,or_false] at I
 rcases I with rfl|rfl|rfl|rfl|rfl
 exact hd;exact he;exact a2;exact b2;exact c2
def rB.fin(s:rB bB mv pv cF lv ju kQ kM h)(hr:qE bB mv cv marks)(Y:ju.length=cv.length)(V:kQ.length=cv.length)(h3:kM.length<=10000000000)(g:List br)(hn:b8 g bB bB)(hm:b8 g mv mv):∃k bS,cX g k (.bQ [.agg [bB,mv,pv,cF,lv],.v (.int .i64 0)])=a_ bS/\Oc bS:=by
 have one:∀{v:bg} {xs:List bg} {n:Nat} {e:TypeId},cV h v xs n e->e4 g xs xs->∃v',b8 g v v'/\cG v' xs:=λ{v xs n e} hA T=>by
  rcases hA with⟨rfl,q⟩|⟨id,rfl,_⟩
  exact⟨.bp,eB,bF ⟨rfl,q⟩⟩;exact⟨.sl xs .no,gP T,bD rfl⟩
 obtain⟨a,a1,a2⟩:=one s.p (e4.each λx I=>(s.pk x I).fz g);obtain⟨b,b1,b2⟩:=one s.t (e4.each λx I=>by obtain⟨t,rfl⟩:=s.tk x I;exact bH _);obtain⟨c,c1,c2⟩:=one s.l (iW λx I=>by
  obtain⟨nm,iv,l,rfl,x8,_⟩:=s.lk x I;refine kA (bG (bH _) (bG ?_ cW))
  rcases x8 with rfl|⟨rfl,_⟩
  exact gP (iW λa _=>bH _);exact eB)
 obtain⟨k,S⟩:=(fD (bG (kA (bG hn (bG hm (bG a1 (bG b1 (bG c1 cW)))))) (bG (bH (.int .i64 0)) cW)):b8 g _ _).done
 have o:∀{v:bg} {xs:List bg},cG v xs->cr v=bh:=λ{v xs} q=>aHx
 exact⟨k,_,S,bB,mv,a,b,c,0,rfl,by simp only[oJ,sw,o hr.n,o hr.m,o a2,o b2,o c2];rfl,λ_=>⟨bB,mv,a,b,c,cv,marks,ju,kQ,kM,rfl,hr,a2,Y,s.pk,b2,V,s.tk,c2,s.lk,h3⟩,λq=>absurd rfl q⟩
end
def aqW{x:List bg}(h:uJ x):∀c∈x,eP c:=by
 obtain⟨nm,cq,i,p,b_,a,al,mv,ex,rfl,hg,hm,_⟩:=h;intro c T;obtain⟨l,g1,_⟩:=hg;obtain⟨l2,m1,_⟩:=hm;simp only[eA,fB,qD,or_false] at T
 rcases T with rfl|rfl|rfl|rfl|rfl|rfl|rfl|rfl|rfl
 exact dz _;exact qh g1;exact dz _;exact dz _;exact dz _;exact dz _;exact dz _;exact qh m1;exact dz _
def aqU{x:List bg}(h:nJ x):∀c∈x,eP c:=by
 obtain⟨nm,v,al,bv,rfl,l,g1,_⟩:=h;intro c T;simp only[eJ,fB,qD,or_false] at T
 rcases T with rfl|rfl|rfl|rfl
 exact dz _;exact dz _;exact dz _;exact qh g1
def qE.aqQ(hr:qE bB mv cv marks):eP bB/\eP mv:=by
 refine⟨CV hr.n λx I c T=>?_,CV hr.m λx I c T=>?_⟩;obtain⟨y,hy,rfl⟩:=dZ.1 I;exact aqW (hr.mB y hy) c T;obtain⟨y,hy,rfl⟩:=dZ.1 I;exact aqU (hr.gL y hy) c T
def qE.aeU(hr:qE bB mv cv marks)(g:List br):b8 g bB bB/\b8 g mv mv:=by
 constructor
 rcases hr.n with h|⟨h,_⟩
 rw[h];exact gP (iW λx I=>(hr.mB x I).fz g);rw[h];exact eB
 rcases hr.m with h|⟨h,_⟩
 rw[h];exact gP (iW λx I=>(hr.gL x I).aeV g);rw[h];exact eB
section
variable{G:Cells}
def aAh(s:List UInt8)(hs:s.length<=1000000):dA G bE 9 [bu s] Oc:=by
 refine dX (ayd.go ?_);have bad:∀{g:List br} {n:Int},g[0]?=a_ (.cells [.bp,.bp,.bp,.bp,.bp] bf)->n≠0->bL g 5 (.mp 0 0) (.agg [.bp,.bp,.bp,.bp,.bp])=a_ (g.set 0 (.cells [.bp,.bp,.bp,.bp,.bp] bf))/\bA (g.set 0 (.cells [.bp,.bp,.bp,.bp,.bp] bf)) bh 5 (.mp 0 0)=a_ (.agg [.bp,.bp,.bp,.bp,.bp])/\∃k bS,cX (g.set 0 (.cells [.bp,.bp,.bp,.bp,.bp] bf)) k (.bQ [.agg [.bp,.bp,.bp,.bp,.bp],.v (.int .i64 n)])=a_ bS/\Oc bS:=λ{g n} h hn=>
  ⟨Mk h rfl,(jC (bV (gl h))).2.2.2.2.2,aC9 hn⟩
 refine eE (λe g=>e=[(0,bu s),(2,.mp 0 0)]/\g=[.cells [.bp,.bp,.bp,.bp,.bp] bf]) ?_ ?_;exact wx tt;rintro e g ⟨rfl,hg⟩;refine eE (λe g=>∃bB mv cv marks,∃zI:Int,e=[(2,.mp 0 0),(4,.mp 1 0),(6,.v (.int .i64 zI))]/\g=[.cells [.bp,.bp,.bp,.bp,.bp] bf,.cells [bB,mv] bf]/\qE bB mv cv marks) ?_ ?_;refine wy ?_;refine ek (aAT s hs) ?_;rintro _ ⟨bB,mv,cv,marks,Rz,zI,rfl,hr⟩
 have o:∀{v:bg} {xs:List bg},cG v xs->cr v=bh:=λ{v xs} q=>aHx
 have st:=Jx (X:=[.cells [.bp,.bp,.bp,.bp,.bp] bf,.cells [.bp,.bp] bf]) (k:=1) (a:=.bp) (b:=.bp) (c:=bB) (d:=mv) rfl (o hr.n) (o hr.m);refine wy ?_;exact⟨bB,mv,cv,marks,zI,rfl,rfl,hr⟩;rintro e g1 ⟨bB,mv,cv,marks,zI,rfl,rfl,hr⟩;have x_:=hr.nl;obtain⟨adG,adH⟩:=hr.aqQ;refine iq (λe g=>e=[(2,.mp 0 0),(4,.mp 1 0)]/\g=[.cells [.bp,.bp,.bp,.bp,.bp] bf,.cells [bB,mv] bf]) ?_ ?_;refine wy (cL (λq=>?_) λq=>?_);have q':zI≠0:=an
 obtain⟨b1,b2,b3⟩:=bad (g:=[.cells [.bp,.bp,.bp,.bp,.bp] bf,.cells [bB,mv] bf]) (n:=zI) rfl q';exact wy b3;exact wx tt;rintro e g2 ⟨rfl,rfl⟩;refine eE (λe g=>e=[(2,.mp 0 0),(4,.mp 1 0),(7,.mp 2 0)]/\rB bB mv .bp .bp .bp [] [] [] g) ?_ ?_
 have o:∀{v:bg} {xs:List bg},cG v xs->cr v=bh:=λ{v xs} q=>aHx
 have f1:dH [.bp,.bp,.bp,.bp,.bp] [(0,2,.agg [bB,mv])]=a_ [bB,mv,.bp,.bp,.bp]:=rfl;have st:=Mk (h:=[.cells [.bp,.bp,.bp,.bp,.bp] bf,.cells [bB,mv] bf,.cells [.bp,.bp,.bp,.bp,.bp] bf]) (k:=2) (a':=bB) (b':=mv) (c':=.bp) (d':=.bp) (e':=.bp) rfl (by simp only[oJ,sw,o hr.n,o hr.m];rfl);refine wx ?_;exact⟨trivial,rfl,rfl,rfl,bD ⟨rfl,rfl⟩,bD ⟨rfl,rfl⟩,bD ⟨rfl,rfl⟩,af,af,af⟩;rintro e g3 ⟨rfl,eK⟩;obtain⟨a3,b3,c3,i3,awA⟩:=eK.imp adG adH;refine eE (λe g=>∃n:Int,e=[(2,.mp 0 0),(4,.mp 1 0),(6,.v (.int .i64 n)),(7,.mp 2 0)]/\g=g3) ?_ ?_;refine hD ((jC eK.b).2.2.2.2.2) ?_;refine ek (az8 hr awA) ?_;rintro r ⟨n,rfl,_,_⟩;refine wx ?_;exact⟨n,rfl,trivial⟩;rintro e g4 ⟨n,rfl,rfl⟩;refine iq (λe g=>e=[(2,.mp 0 0),(4,.mp 1 0),(7,.mp 2 0)]/\g=g4) ?_ ?_;refine wy (cL (λq=>?_) λq=>?_);have q':n≠0:=an
 obtain⟨b1,b2,b3⟩:=bad eK.r q';exact iu @q @b1 @b2 b3;exact fy @q tt;rintro e g5 ⟨rfl,rfl⟩;have ln:=hr.n.cN;rw[dj] at ln;have lC:∀J,cN bB J=a_ (.v (.int .i64 (cv.length:Int)),J):=λJ=>aHC
 refine iq (λe g=>e=[(2,.mp 0 0),(7,.mp 2 0)]/\∃pv cF lv ju kQ kM,rB bB mv pv cF lv ju kQ kM g/\ju.length=cv.length/\kQ.length=cv.length/\kM.length<=cv.length*200000000) ?_ ?_;refine wy ?_;refine dx (λi e g=>e=[(2,.mp 0 0),(4,.mp 1 0),(7,.mp 2 0),(8,bq i)]/\∃pv cF lv ju kQ kM,rB bB mv pv cF lv ju kQ kM g/\ju.length=i/\kQ.length=i/\kM.length<=i*200000000) cv.length ⟨rfl,_,_,_,_,_,_,eK,rfl,rfl,jR _⟩ ?_ ?_;rintro i e g Q ⟨rfl,pv,cF,lv,ju,kQ,kM,s,Y,V,h3⟩;have fY:bA g bf 1 (.mp 1 0)=a_ bB:=by simp only[bA,s.d];rfl
 obtain⟨y,hy⟩:=cO Q;have lV:=hr.mB y (cE hy);have ny:cA 9 bB (.v (.int .i64 (i:Int)))=a_ (.fp y 0):=hr.n.cI (x:=.agg y) aT aJx;obtain⟨nm,cq,ib,pb,b_,a2,al,lD,ex,rfl,_,_,VW⟩:=lV;have F3:∀h,bA h bf 1 (.fp (eA nm cq ib pb b_ a2 al lD ex) 8)=a_ (bu ex):=λh=>rfl;have w1:dy.wrap ((i:Int)+1)=((i+1:Nat):Int):=lG aa;obtain⟨a4,b4,c4,i4,ag5⟩:=s.imp adG adH;have la:=(jC s.b).2.2.2.2.2;refine wy ?_;refine ek (ak8 ex aa) ?_;rintro _ ⟨v,ps,Rz,zI,rfl,hR⟩;have vh:=hR.len;refine wy (jz (azT hr ag5 hR aa) (cl i4 (cl (Bd hR) dK)) ?_);rintro lw ⟨rows,Dw,qT,ags⟩;have fO:eP lw:=CV Dw λx I c T=>by
  obtain⟨y,hy,rfl⟩:=dZ.1 I;obtain⟨nm,iv,l,rfl,x8,Ic,_⟩:=qT y hy;have iT:c∈[bu nm,iv]:=T;simp only[fB,qD,or_false] at iT
  rcases iT with rfl|rfl
  exact dz _;exact Ic
 refine wy (jz (aAm hr ag5 hR VW Dw fO qT aa) (cl i4 (cl (Bd hR) (cl fO dK))) ?_);rintro _ ⟨t,n,rfl,_,_,T⟩;refine q7 (cL (λq=>?_) λq=>?_);have q':n≠0:=an
 obtain⟨b1,b2,b3⟩:=bad s.r q';exact iu @q @b1 @b2 b3;have q':n=0:=an
 have hP:zf v:=⟨_,ps,hR,VW,T q'⟩;obtain⟨Ry,k1,k2,e1,e2,s1⟩:=s.aBb hP aa;obtain⟨tu,fX,jG,dc,eL,s2⟩:=s1.aBc t aa;obtain⟨aGV,vl,FY,nk,xT,eK⟩:=s2.MH Dw qT aa;obtain⟨_,_,m2,_⟩:=jC s.b;obtain⟨_,_,_,m3,_⟩:=jC s1.b;obtain⟨_,_,_,_,m4,_⟩:=jC s2.b;refine vG (fH @q @m2 (Hp hP.one) @e1) @e2 @m3 @dc @eL @m4 @nk @xT @w1 ?_;exact⟨rfl,_,_,_,_,_,_,eK,aIu,by simp[V],aIy⟩;rintro e g ⟨rfl,pv,cF,lv,ju,kQ,kM,s,Y,V,h3⟩;have fY:bA g bf 1 (.mp 1 0)=a_ bB:=by simp only[bA,s.d];rfl
 refine iu @bq.eq_1 @fY @lC ?_;exact⟨trivial,pv,cF,lv,ju,kQ,kM,s,Y,V,h3⟩;rintro e g6 ⟨rfl,pv,cF,lv,ju,kQ,kM,mW,Y,V,h3⟩
 have o:∀{v:bg} {xs:List bg},cG v xs->cr v=bh:=λ{v xs} q=>aHx
 have st:=Mk (a':=bB) (b':=mv) (c':=pv) (d':=cF) (e':=lv) mW.r (by simp only[oJ,sw,o hr.n,o hr.m,Oo mW.p,Oo mW.t,Oo mW.l];rfl);have la:=(jC (bV (a:=.cells [bB,mv,pv,cF,lv] bf) (gl mW.r))).2.2.2.2.2;refine l6 ((jC mW.b).2.2.2.2.2) @st ?_;obtain⟨cg,z2⟩:=hr.aeU (g6.set 0 (.cells [bB,mv,pv,cF,lv] bf));exact mW.fin hr Y V aa _ cg z2
end
end
section
variable{ms:List Int}
section
variable{G:Cells}{hk bB mv:bg}{rows marks:List (List bg)}
def F_(marks:List (List bg))(t:Int):Option (List bg):=if 0<=t then marks[t.toNat]? else bn
def Q1(marks:List (List bg))(t:Int):F_ marks t=bn\/∃(i:Nat) (x:List bg),t=(i:Int)/\marks[i]?=a_ x/\F_ marks t=a_ x:=by
 cases h:F_ marks t with
 |none=>exact bD rfl
 |some x=>
  right;unfold F_ at h;split at h;exact⟨t.toNat,x,aa,h,rfl⟩;cases h
def QY(s:lN hk bB mv rows marks){t:Int}(h:F_ marks t=bn):dL G bE 201 [hk,.v (.int .i64 t)] (.v (.pointer bn)):=by
 rw[s.eq];refine gr (W3.go ?_);have ln:=s.m.cN;rw[dj] at ln;refine wy ?_;refine cL (λq=>?_) λq=>?_;refine wy ?_;exact(bH _).done;refine wy ?_;refine cL (λbt=>?_) λbt=>?_;refine wy ?_;exact(bH _).done;exfalso;unfold F_ at h;have q1:¬t<0:=an
 rw[if_pos aa,aoE] at h;simp at bt;omega
def QZ(s:lN hk bB mv rows marks){i:Nat}{x:List bg}(I:marks[i]?=a_ x):dL G bE 201 [hk,.v (.int .i64 (i:Int))] (.fp x 0):=by
 rw[s.eq];refine gr (W3.go ?_);have Q:=(cJ.1 I).1;have ln:=s.m.cN;rw[dj] at ln;have D:=s.gL x (cE I);have cI:cA 4 mv (.v (.int .i64 (i:Int)))=a_ (.fp x 0):=s.m.cI (x:=.agg x) aA D.ok.1;have d1:decide ((i:Int)<0)=bf:=decide_eq_false aa;refine wy ?_;obtain⟨nm,n,al,bv,rfl,l,g1,g2⟩:=D;have O:b8 [] bv bv:=by
  rcases g1 with rfl|⟨rfl,_⟩
  exact gP (iW λa _=>bH _);exact eB
 exact(b8.fp (bG (bH _) (bG (bH _) (bG (bH _) (bG O cW))))).done
def azM(s:lN hk bB mv rows marks):dL G bE 198 [hk] (.v (.int .i64 (marks.length:Int))):=by
 rw[s.eq];refine gr (ah4.go ?_);have ln:=s.m.cN;rw[dj] at ln;refine wy ?_;exact(bH _).done
def ZX(marks:List (List bg))(t:Int):Int:=((F_ marks t).map (ag2 1)).getD 0
def azO(s:lN hk bB mv rows marks)(t:Int):dL G bE 199 [hk,.v (.int .i64 t)] (.v (.int .i64 (ZX marks t))):=by
 have T:=s.clean;refine gr (ah5.go ?_);refine wy ?_
 rcases Q1 marks t with h|⟨i,x,rfl,I,D⟩
 refine gO (QY s h) (cl T (cl (dz _) dK)) ?_;unfold ZX;rw[h];refine wy ?_;exact(bH _).done;refine gO (QZ s I) (cl T (cl (dz _) dK)) ?_;unfold ZX;rw[D];obtain⟨nm,n,al,bv,rfl,_⟩:=s.gL x (cE I);have l1:∀h,bA h bf 1 (.fp (eJ nm n al bv) 1)=a_ (.v (.int .i64 n)):=λh=>rfl;refine wy ?_;exact(bH _).done
def aqh(s:lN hk bB mv rows marks)(a b:Int):dA G bE 140 [hk,.v (.int .i64 a),.v (.int .i64 b)] jD:=by
 have T:=s.clean;refine dX (aht.go ?_);refine wy ?_
 rcases Q1 marks a with h|⟨i,x,rfl,I,D⟩
 refine gO (QY s h) (cl T (cl (dz _) dK)) ?_;refine wy ?_
 rcases Q1 marks b with V|⟨i2,x2,rfl,o5,qT⟩
 refine gO (QY s V) (cl T (cl (dz _) dK)) ?_;refine wy ?_;exact iS _;refine gO (QZ s o5) (cl T (cl (dz _) dK)) ?_;refine wy ?_;exact iS _;refine gO (QZ s I) (cl T (cl (dz _) dK)) ?_;obtain⟨nm,n,al,bv,rfl,l,g1,g2⟩:=s.gL x (cE I);have l2:∀h,bA h bf 1 (.fp (eJ nm n al bv) 2)=a_ (.v (.bool al)):=λh=>rfl;have l3:∀h,bA h bf 1 (.fp (eJ nm n al bv) 3)=a_ bv:=λh=>rfl;refine wy ?_
 rcases Q1 marks b with V|⟨i2,x2,rfl,o5,qT⟩
 refine gO (QY s V) (cl T (cl (dz _) dK)) ?_;refine wy ?_;exact iS _;refine gO (QZ s o5) (cl T (cl (dz _) dK)) ?_;obtain⟨X2,n2,gW,gy,rfl,_⟩:=s.gL x2 (cE o5);have l0:∀h,bA h bf 1 (.fp (eJ X2 n2 gW gy) 0)=a_ (bu X2):=λh=>rfl;refine wy ?_;refine cL (λq=>?_) λq=>?_;refine wy ?_;exact iS _;cases al with
 |true=>
  refine wy ?_;exact iS _
 |false=>
  refine wy ?_;refine gO (KA g1 (qh g1) aa X2) (cl (qh g1) (cl (uT _) dK)) ?_;refine wy ?_;exact iS _
def azQ(s:lN hk bB mv rows marks)(a b:Int):dA G bE 136 [hk,.v (.int .i64 a),.v (.int .i64 b)] jD:=by
 have T:=s.clean;refine dX (ahu.go ?_);refine wy ?_;refine cL (λq=>?_) λq=>?_;refine wy ?_;refine gO (azM s) (cl T dK) ?_;refine wy ?_;refine cL (λbt=>?_) λbt=>?_;refine wy ?_;refine cL (λbT=>?_) λbT=>?_;refine wy ?_;refine gO (azO s a) (cl T (cl (dz _) dK)) ?_;refine wy ?_;exact iS _;refine wy ?_;exact iS _;refine wy ?_;exact iS _;refine wy ?_;exact iS _
end
def aa4(r:bg):Prop:=∃(n:Int) (b:Bool),r=.bQ [.v (.int .i64 n),.v (.bool b)]
def Pg{J:List br}(n:Int)(b:Bool):∃k bS,cX J k (.bQ [.v (.int .i64 n),.v (.bool b)])=a_ bS/\aa4 bS:=by
 obtain⟨k,S⟩:=(fD (bG (bH (.int .i64 n)) (bG (bH (.bool b)) cW)):b8 J _ _).done;exact⟨k,_,S,n,b,rfl⟩
def OL(ms:List Int):eP (.agg (ms.map jw)):=HF λc T=>by
 obtain⟨n,_,rfl⟩:=dZ.1 T;exact dz _
section
variable{G:Cells}
def atX(hl:ms.length=8)(i:Int):dA G bE 200 [.agg (ms.map jw),.v (.int .i64 i)] aa4:=by
 refine dX (ahY.go ?_);refine wy ?_;refine cL (λq=>?_) λq=>?_;refine wy ?_;exact Pg _ _;refine wy ?_;refine cL (λbt=>?_) λbt=>?_;refine wy ?_;exact Pg _ _;obtain⟨m,rfl⟩:∃m:Nat,i=(m:Int):=⟨i.toNat,au⟩;have hm:m<8:=aIo
 obtain⟨x,I⟩:∃x,ms[m]?=a_ x:=⟨ms[m]' aa,cx _⟩;have xM:mO 8 1 (.mp 0 0) (.v (.int .i64 (m:Int)))=a_ (.mp 0 m):=by
  unfold mO;dsimp only;rw[if_pos ⟨aa,aa⟩];simp[mh]
 have fY:bA [bw (ms.map jw) bf] bf 1 (.mp 0 m)=a_ (.v (.int .u16 x)):=by
  show eZ bf 1 (ms.map jw) m=_;unfold eZ;rw[if_neg af,fL,I];rfl
 refine wy ?_;refine cL (λbT=>?_) λbT=>?_;refine wy ?_;exact Pg _ _;refine wy ?_;exact Pg _ _
def ao8(r:bg):Prop:=∃l:List (Int×Int),cG r (l.map λx=>.agg [bq x.1,bq x.2])/\l.length<=8
def aAG(l:List (Int×Int)):c8 2 (l.map λx=>dD [bq x.1,bq x.2])=bh:=by
 rw[c8,eO];intro x I;obtain⟨t,_,rfl⟩:=dZ.1 I;rfl
def ajS(hl:ms.length=8):dA G bE 138 [.agg (ms.map jw)] ao8:=by
 refine dX (ahp.go ?_);refine wy ?_;refine dx (λi e g=>∃(l:List (Int×Int)) (bx:bg),e=[(1,.mp 0 0),(3,bx),(7,bq i)]/\g[0]?=a_ (.cells (ms.map jw) bf)/\cV g bx (l.map λx=>.agg [bq x.1,bq x.2]) 2 261/\l.length<=i) 8 ⟨[],.bp,rfl,rfl,bD ⟨rfl,rfl⟩,ck _⟩ ?_ ?_;rintro i e g Q ⟨l,bx,rfl,h0,hA,oX⟩;have d1:decide ((i:Int)<8)=bh:=decide_eq_true aa;have w1:dy.wrap ((i:Int)+1)=((i+1:Nat):Int):=lG aa;refine Cd (zz h0 (n:=8) aJ) ?_;refine jz (atX hl _) (cl (OL ms) (cl (dz _) dK)) ?_;rintro r ⟨n,b,rfl⟩;cases b with
 |false=>
  refine iF @Pa @Pb ?_;exact⟨l,bx,rfl,h0,hA,aa⟩
 |true=>
  obtain⟨cj,g2,e1,fo,_,_,S⟩:=ni (x:=.agg [bq (i:Int),bq n]) (b6:=16) hA (aAG l) rfl ag ag ah;have kp:=ab2 hA S;have f1:dH [.v (.int .i64 0),.v (.int .i64 0)] [(0,1,.v (.int .i64 (i:Int))),(1,1,.v (.int .i64 n))]=a_ [bq (i:Int),bq n]:=rfl;have ab:e9 2 [.agg [bq (i:Int),bq n]]=a_ (.sl [.agg [bq (i:Int),bq n]] .exact):=rfl;refine Cb @Pa @Pb @w1 @f1 @ab @e1 ?_;refine⟨l++[((i:Int),n)],cj,rfl,kp _ _ h0 af,?_,ah⟩;rw[gQ];exact fo
 rintro e g ⟨l,bx,rfl,h0,hA,oX⟩;have d1:decide (((8:Nat):Int)<8)=bf:=ag
 refine wy ?_
 rcases hA with⟨rfl,z⟩|⟨id,rfl,_⟩
 obtain⟨k,S⟩:=(eB:b8 g _ _).done;exact⟨k,_,S,l,bF ⟨rfl,z⟩,oX⟩;obtain⟨k,S⟩:=(gP (t:=.tok id) (iW (f:=λx:Int×Int=>dD [bq x.1,bq x.2]) (l:=l) λa _=>kA (bG (bH _) (bG (bH _) cW))):b8 g _ _).done;exact⟨k,_,S,l,bD rfl,oX⟩
end
end
end Go.Proofs.YtgfjdechmbleeaaGreatDoor

/- Part 11 of a proof. No condition. -/
import Derived.Test.YtkpjaeffojibmaaGreatDoorZ10
set_option linter.unusedVariables false
set_option linter.unusedSimpArgs false
set_option linter.defProp false
open Bool renaming false->bf,true->bh,true_and->OA
open Go.bM.bg renaming agg->dG,cells->jK,one->cr,v->cI
open Go.bM.cT renaming nil->sW
open Go.bM.br renaming cells->bw
open Go.bM.s5 renaming mk->cN
open Go.bM.cq renaming mono->ck,ZE->ei,pure->hU,aDt->jy
open Go.bM renaming Clean->eM
open Go.bM.b7 renaming agg->kf,bp->ez,sl->gU,bQ->fB,v->bH
open Go.bM.fm renaming cons->bG,map->iC,nil->cX
open Go.IntKind renaming i64->de
open Go.Proofs.Tryz renaming prog->bC
open Go.Proofs.YtkpjaeffojibmaaGreatDoor.Ext renaming app->lX
open Go.Proofs.YtkpjaeffojibmaaGreatDoor.cP renaming bA->rY,many->E3
open Int renaming eq_ofNat_of_zero_le->o8,le_refl->CS,reduceBEq->Bs,reduceBNe->Bt
open List renaming all_cons->pY,all_eq_true->eP,all_nil->sY,append_nil->gd,drop_drop->yg,drop_eq_getElem_cons->abG,drop_of_length_le->sZ,drop_zero->o9,eq_nil_of_length_eq_zero->nZ,flatten_cons->yh,getElem?_concat_length->TX,getElem?_eq_getElem->cz,getElem?_eq_none_iff->ap1,getElem?_eq_some_iff->cL,getElem?_map->fR,getElem?_set_ne->bD,getElem?_set_self->bU,length_append->ec,length_cons->eW,length_eq_one_iff->E6,length_map->cM,length_nil->hY,length_set->wG,length_singleton->pZ,map_append->gf,map_cons->fG,map_eq_nil_iff->TZ,map_map->yl,map_nil->lu,map_set->ym,mem_append->gj,mem_cons->fS,mem_iff_getElem?->OO,mem_map->eg,mem_of_getElem?->cG,mem_of_mem_drop->tY,mem_or_eq_of_mem_set->T3,mem_replicate->ap4,mem_singleton->dP,nil_append->gN,not_mem_nil->p4,pairwise_cons->ap5,replicate->fo,set_eq_take_append_cons_drop->ap9,sum_cons->zQ,sum_nil->HJ,take_length->n3,take_of_length_le->mA,take_zero->oG
open Nat renaming add_assoc->n5,add_zero->vc,eq_zero_or_pos->CV,le_refl->cj,le_trans->h_,lt_or_ge->en,lt_succ_self->CW,min_eq_left->CX,mul_le_mul_right->o_,one_mul->E7,reduceAdd->ve,reduceEqDiff->wK,reduceLT->wL,reduceLeDiff->wM,succ_mul->tZ,zero_add->gk,zero_le->js,zero_lt_succ->wN
open Ne renaming symm->eX
open Option renaming none->bn,some->a_
open Option.some renaming inj->mB
open Or renaming inl->bE,inr->bF
namespace Go.Proofs.YtkpjaeffojibmaaGreatDoor
open Go Go.bM Go.RowKit
section
variable{N i j:Nat}{l m:List Int}
def qE(N:Nat)(l:List Int):Prop:=l.Pairwise (· < ·)/\∀x∈l,(0:Int)<=x/\x<(N:Int)
def ane:∀(l:List Int) (a b:Int),a<=b->l.Pairwise (· < ·)->(∀x∈l,a<=x/\x<b)->(l.length:Int)<=b-a
 |[],a,b,h,_,_=>ah
 |x::r,a,b,h,J,O=>by
  rw[ap5] at J;have Y:=O x af;have:=ane r (x+1) b aa J.2 λy hy=>⟨by have:=J.1 y hy;omega,(O y aS).2⟩;rw[eW];omega
def qE.len(h:qE N l):l.length<=N:=by
 have:=ane l 0 (N:Int) aa h.1 h.2;omega
def qE.nil(N:Nat):qE N []:=⟨List.Pairwise.nil,af⟩
def qE.one{n:Nat}(h:n<N):qE N [(n:Int)]:=⟨af,λx I=>by rw[dP.1 I];omega⟩
def qE.mono{M:Nat}(h:qE N l)(hm:N<=M):qE M l:=⟨h.1,λx I=>⟨(h.2 x I).1,by have:=(h.2 x I).2;omega⟩⟩
def ZL{a:Int}(h:l.Pairwise (· < ·))(ha:l[i]?=a_ a):(∀y∈l.drop (i+1),a<y)/\(∀y∈l.drop i,a<=y)/\a∈l.drop i:=by
 have hl:=gl ha;have e:l.drop i=a::l.drop (i+1):=by
  rw[abG hl];rw[cz hl] at ha;rw[mB ha]
 have hd:(l.drop i).Pairwise (· < ·):=h.sublist (List.drop_sublist i l);rw[e,ap5] at hd;refine⟨hd.1,λy hy=>?_,by rw[e];simp⟩;rw[e] at hy
 rcases fS.1 hy with rfl|hy
 exact CS _;exact Int.le_of_lt (hd.1 y hy)
def alD{y:Int}(h:i<=j)(hy:y∈l.drop j):y∈l.drop i:=by
 have e:l.drop j=(l.drop i).drop (j-i):=by rw[yg];congr 1;omega
 rw[e] at hy;exact tY hy
structure BA(l m:List Int)(i j:Nat)(o:List Int):Prop where
 Q:i<=l.length
 hj:j<=m.length
 hn:o.length<=i+j
 p:o.Pairwise (· < ·)
 hm:∀x∈o,x∈l\/x∈m
 a:∀x∈o,∀y∈l.drop i,x<y
 b:∀x∈o,∀y∈m.drop j,x<y
def BA.push{o:List Int}{i' j':Nat}{z:Int}(h:BA l m i j o)(Y:i<=i')(V:j<=j')(h3:i'<=l.length)(h4:j'<=m.length)(h5:i+j<i'+j')(hz:z∈l.drop i\/z∈m.drop j)(ha:∀y∈l.drop i',z<y)(O:∀y∈m.drop j',z<y):BA l m i' j' (o++[z]):=by
 refine⟨h3,h4,?_,?_,?_,?_,?_⟩;have:=h.hn;rw[ec,pZ];omega;rw[List.pairwise_append];refine⟨h.p,af,λx I y hy=>?_⟩;rw[dP.1 hy];exact hz.elim (h.a x I z) (h.b x I z);intro x I
 rcases gj.1 I with q|q
 exact h.hm x q;rw[dP.1 q];exact hz.elim (λq=>bE (tY q)) λq=>bF (tY q);intro x I y hy
 rcases gj.1 I with q|q
 exact h.a x q y (alD Y hy);rw[dP.1 q];exact ha y hy;intro x I y hy
 rcases gj.1 I with q|q
 exact h.b x q y (alD V hy);rw[dP.1 q];exact O y hy
def ae3(h:l.length<=i){P:Int->Prop}:∀y∈l.drop i,P y:=λy hy=>by
 rw[sZ h] at hy;cases hy
def aqC(N:Nat)(r:bg):Prop:=∃o:List Int,cC r (o.map bq)/\qE N o
def aC3{G:Cells}{v w:bg}(hv:cC v (l.map bq))(hw:cC w (m.map bq))(hl:qE N l)(hm:qE N m)(hN:N<=1000000):dM G bC 244 [v,w] (aqC N):=by
 have kS:=hl.len;have nN:=hm.len;refine ek (azO.go ?_);have ln:=hv.cH;rw[cM] at ln;have lQ:∀J,cH v J=a_ (.v (.int .i64 (l.length:Int)),J):=λJ=>aJT
 have lm:=hw.cH;rw[cM] at lm;have GH:∀J,cH w J=a_ (.v (.int .i64 (m.length:Int)),J):=λJ=>by rw[lm J,k7]
 refine wy ?_;refine pV (n:=l.length+m.length) (λk e h=>∃(i j:Nat) (o:List Int) (bx:bg),k=(l.length-i)+(m.length-j)/\BA l m i j o/\e=[(0,v),(1,w),(5,bx),(6,bq i),(7,bq j)]/\cT h bx (o.map bq) 1 3) ⟨0,0,[],.bp,rfl,⟨aa,aa,af,List.Pairwise.nil,af,af,af⟩,rfl,sW _ _ _⟩ ?_;rintro k e h ⟨i,j,o,bx,rfl,hI,rfl,hA⟩;have Q:=hI.Q;have hj:=hI.hj;have ho:=hI.hn;have push:∀z:Int,∃cl g,ef h 1 8 3 bx (.sl [.v (.int .i64 z)] .exact)=a_ (cl,g)/\cT g cl ((o++[z]).map bq) 1 3:=λz=>by
  obtain⟨cl,g,e1,fJ,_⟩:=nc (x:=.v (.int .i64 z)) (b9:=8) hA (GU o) rfl ag ag ah;exact⟨cl,g,e1,aJQ⟩
 have w1:de.wrap ((i:Int)+1)=((i+1:Nat):Int):=nx aa;have w2:de.wrap ((j:Int)+1)=((j+1:Nat):Int):=nx aa
 rcases en i l.length with hi2|hi2
 obtain⟨a,ha⟩:=dQ hi2;have MW:ct 1 v (.v (.int .i64 (i:Int)))=a_ (.fp [bq a] 0):=hv.cE (x:=bq a) (by simp[ha]) rfl;unfold bq at MW;obtain⟨a1,a2,a3⟩:=ZL hl.1 ha;obtain⟨cl,g,e1,e2⟩:=push a
 rcases en j m.length with hj2|hj2
 obtain⟨b,O⟩:=dQ hj2;have Gr:ct 1 w (.v (.int .i64 (j:Int)))=a_ (.fp [bq b] 0):=hw.cE (x:=bq b) aKQ rfl;unfold bq at Gr;obtain⟨b1,b2,b3⟩:=ZL hm.1 O;obtain⟨ZP,g2,d1,d2⟩:=push b
 rcases Int.lt_trichotomy a b with hab|hab|hab
 · have fin:BA l m (i+1) j (o++[a]):=hI.push aa aa aa aa aa (bE a3) a1 λy hy=>Int.lt_of_lt_of_le hab (b2 y hy)
   refine wA @bq.eq_1 @lQ @GH @MW @Gr @e1 @d1 @w1 @w2 ?_
   repeat' ((refine ba (λq'=>?_) λq'=>?_)<;>refine o6 (fN @lQ @GH @MW @Gr) @xq @z6 @e1 @d1 @w1 @w2 ?_)
   all_goals first
    |(exfalso;omega)
    |exact⟨(l.length-(i+1))+(m.length-j),aa,i+1,j,o++[a],cl,rfl,fin,rfl,e2⟩
 · subst hab
   have fin:BA l m (i+1) (j+1) (o++[a]):=hI.push aa aa aa aa aa (bE a3) a1 b1;have avC:(a==a)=bh:=beq_self_eq_true a;refine wy ?_
   repeat' ((refine ba (λq'=>?_) λq'=>?_)<;>refine o6 (fN @lQ @GH @MW @Gr) @xq @z6 @e1 @w1 @w2 @avC ?_)
   all_goals first
    |(exfalso;omega)
    |exact⟨(l.length-(i+1))+(m.length-(j+1)),aa,i+1,j+1,o++[a],cl,rfl,fin,rfl,e2⟩
 · have fin:BA l m i (j+1) (o++[b]):=hI.push aa aa aa aa aa (bF b3) (λy hy=>Int.lt_of_lt_of_le hab (a2 y hy)) b1
   refine wy ?_
   repeat' ((refine ba (λq'=>?_) λq'=>?_)<;>refine o6 (fN @lQ @GH @MW @Gr) @xq @z6 @e1 @d1 @w1 @w2 ?_)
   all_goals first
    |(exfalso;omega)
    |exact⟨(l.length-i)+(m.length-(j+1)),aa,i,j+1,o++[b],ZP,rfl,fin,rfl,d2⟩
 have fin:BA l m (i+1) j (o++[a]):=hI.push aa aa aa aa aa (bE a3) a1 (ae3 hj2);refine wy ?_;exact⟨(l.length-(i+1))+(m.length-j),aa,i+1,j,o++[a],cl,rfl,fin,rfl,e2⟩
 rcases en j m.length with hj2|hj2
 obtain⟨b,O⟩:=dQ hj2;have Gr:ct 1 w (.v (.int .i64 (j:Int)))=a_ (.fp [bq b] 0):=hw.cE (x:=bq b) aKQ rfl;unfold bq at Gr;obtain⟨b1,b2,b3⟩:=ZL hm.1 O;obtain⟨ZP,g2,d1,d2⟩:=push b;have awo:((j:Int)==(m.length:Int))=bf:=PA aa;have fin:BA l m i (j+1) (o++[b]):=hI.push aa aa aa aa aa (bF b3) (ae3 hi2) b1;refine lU @bq.eq_1 @lQ @GH @awo ?_;refine wy ?_;refine wy ?_;exact⟨(l.length-i)+(m.length-(j+1)),aa,i,j+1,o++[b],ZP,rfl,fin,rfl,d2⟩;refine wy ?_;have hR:qE N o:=⟨hI.p,λx I=>(hI.hm x I).elim (hl.2 x) (hm.2 x)⟩
 rcases hA with⟨rfl,z⟩|⟨id,rfl,_⟩
 obtain⟨n,hn⟩:=(ez:b7 h _ _).done;exact⟨n,_,hn,[],bF ⟨rfl,rfl⟩,qE.nil N⟩;obtain⟨n,hn⟩:=(gU (t:=.tok id) (iC (f:=bq) (l:=o) λa _=>bH _):b7 h _ _).done;exact⟨n,_,hn,o,bE rfl,hR⟩
end
section
variable{bv ev fv o0 bx v w gY xf:bg}{M N kn eo:Nat}{G:Cells}{J bl:List br}{Z z:List bg}{em q6:Bool}
def qD(v:bg)(l:List Int):Prop:=(v=.bp/\l=[])\/∃t,v=.sl (l.map bq) t
def ass(l:List Int):∀x∈l.map bq,∀c∈x.cells,eM c:=λx I c T=>by
 obtain⟨t,_,rfl⟩:=eg.1 I;rw[dP.1 (show c∈[bq t] from T)];exact dn _
section
variable{v:bg}{l:List Int}
def qD.imp(h:qD v l):∃v',kZ v v'/\cC v' (l.map bq):=by
 rcases h with⟨rfl,rfl⟩|⟨t,rfl⟩
 exact⟨.bp,mJ,bF ⟨rfl,rfl⟩⟩;exact⟨.sl (l.map bq) .no,k6 (ass l),bE rfl⟩
def qD.one(h:qD v l):cr v=bh:=by rcases h with⟨rfl,_⟩|⟨t,rfl⟩<;>rfl
@[go_sem]def qD.len(h:qD v l)(J:List br):cH v J=a_ (.v (.int .i64 (l.length:Int)),J):=by
 rcases h with⟨rfl,rfl⟩|⟨t,rfl⟩
 rfl;rw[ot,cM,k7]
@[go_sem]def qD.cE(h:qD v l){i:Nat}{x:Int}(I:l[i]?=a_ x):ct 1 v (.v (.int .i64 (i:Int)))=a_ (.fp [.v (.int .i64 x)] 0):=by
 rcases h with⟨rfl,rfl⟩|⟨t,rfl⟩
 simp at I;exact lD (x:=bq x) aA rfl
def qD.fz(h:qD v l)(J:List br):∃v',b7 J v v'/\cC v' (l.map bq):=by
 rcases h with⟨rfl,rfl⟩|⟨t,rfl⟩
 exact⟨.bp,ez,bF ⟨rfl,rfl⟩⟩;exact⟨_,gU (iC (f:=bq) (l:=l) λa _=>bH _),bE rfl⟩
def zv(h:cC v (l.map bq)):qD v l:=by
 rcases h with rfl|⟨rfl,q⟩
 exact bF ⟨_,rfl⟩;exact bE ⟨rfl,TZ.1 q⟩
end
def rj(h:cr w=bh):w.cells=[w]:=by cases w<;>first|rfl|cases h
def iG(N:Nat)(v:bg):Prop:=∃l,qD v l/\qE N l
def iG.nil(N:Nat):iG N .bp:=⟨[],bE ⟨rfl,rfl⟩,qE.nil N⟩
def iG.one(h:iG N v):cr v=bh:=by obtain⟨l,Y,_⟩:=h;exact Y.one
def iG.mono(h:iG N v)(hm:N<=M):iG M v:=by obtain⟨l,Y,V⟩:=h;exact⟨l,Y,V.mono hm⟩
def JE{K:bg->List br->Prop}(hv:iG N v)(hw:iG N w)(hN:N<=256)(S:∀r,iG N r->K r J):cq G bC 244 [v,w] J K:=by
 obtain⟨l,Y,V⟩:=hv;obtain⟨m,k1,k2⟩:=hw;obtain⟨v',a1,a2⟩:=Y.imp;obtain⟨w',b1,b2⟩:=k1.imp;exact ei (aC3 a2 b2 V k2 aa) λr ⟨o,q1,bt⟩=>S r ⟨o,(zv q1),bt⟩
def mV(N M:Nat)(bv:bg)(J:List br):Prop:=∃Z:List bg,Z.length=M/\(∀c∈Z,iG N c)/\((bv=.bp/\Z=[])\/∃k,bv=.rs k M 1 0 M/\J[k]?=a_ (.cells Z bh))
@[go_sem]def NR{p:Nat}{r:bg}(h:p<Z.length):dV Z p [r]=Z.set p r:=by
 rw[ap9,if_pos h];unfold dV;simp
section
variable{N M p:Nat}{bv:bg}{J bl:List br}
def mV.ext(h:mV N M bv J)(S:∀(j:Nat) Z,J[j]?=a_ (.cells Z bh)->bl[j]?=a_ (.cells Z bh)):mV N M bv bl:=by
 obtain⟨Z,Y,V,h3⟩:=h;refine⟨Z,Y,V,h3.elim bE ?_⟩;rintro⟨k,e,q⟩;exact bF ⟨k,e,S k Z q⟩
def mV.mono{N':Nat}(h:mV N M bv J)(hN:N<=N'):mV N' M bv J:=by
 obtain⟨Z,Y,V,h3⟩:=h;exact⟨Z,Y,λc T=>(V c T).mono hN,h3⟩
def mV.one(h:mV N M bv J):cr bv=bh:=by
 obtain⟨Z,_,_,⟨rfl,_⟩|⟨k,rfl,_⟩⟩:=h<;>rfl
structure KU(J bl:List br):Prop where
 len:bl.length=J.length
 keep:∀(j:Nat) b,J[j]?=a_ b->(∀Z,b≠.cells Z bh)->bl[j]?=a_ b
def mV.at(h:mV N M bv J)(ahy:p<M):∃k c,ct 1 bv (.v (.int .i64 (p:Int)))=a_ (.rp k M p)/\bz J bf 1 (.rp k M p)=a_ c/\iG N c/\∀r,iG N r->∃bl,bL J 1 (.rp k M p) r=a_ bl/\mV N M bv bl/\KU J bl:=by
 obtain⟨Z,Y,V,⟨rfl,rfl⟩|⟨k,rfl,S⟩⟩:=h;simp at Y;omega;subst Y;have cQ:p<Z.length:=ahy;obtain⟨c,T⟩:=dQ cQ;have e6:=gl S;refine⟨k,c,?_,?_,V c (cG T),λr D=>⟨J.set k (.cells (Z.set p r) bh),?_,⟨Z.set p r,by rw[wG],λx I=>?_,bF ⟨k,rfl,bU e6⟩⟩,⟨by rw[wG],λj b hj O=>?_⟩⟩⟩;have:=SQ (k:=k) (m:=Z.length) (n:=1) (len:=Z.length) (j:=p) ahy;rw[Nat.mul_one] at this;exact this;simp only[bz,S,if_true,e_];rw[if_neg af];exact T;have eS:=rj D.one;simp only[bL,S,if_true,fq,eS];rw[if_pos ⟨rfl,aa,by simp[D.one]⟩,NR cQ]
 rcases T3 I with q|rfl
 exact V x q;exact D;rw[bD aKH];exact hj
end
section
variable{h:List br}{k:Nat}{a b c d e w:bg}
@[go_sem]def jJ(O:h[k]?=a_ (.cells [a,b,c,d,e] bf)):bz h bf 1 (.mp k 0)=a_ a/\bz h bf 1 (.mp k 1)=a_ b/\bz h bf 1 (.mp k 2)=a_ c/\bz h bf 1 (.mp k 3)=a_ d/\bz h bf 1 (.mp k 4)=a_ e/\bz h bh 5 (.mp k 0)=a_ (.agg [a,b,c,d,e]):=by
 simp only[bz,O];exact⟨rfl,rfl,rfl,rfl,rfl,rfl⟩
@[go_sem]def qW(O:h[k]?=a_ (.cells [a,b,c,d,e] bf))(hw:cr w=bh):bL h 1 (.mp k 0) w=a_ (h.set k (.cells [w,b,c,d,e] bf))/\bL h 1 (.mp k 1) w=a_ (h.set k (.cells [a,w,c,d,e] bf))/\bL h 1 (.mp k 2) w=a_ (h.set k (.cells [a,b,w,d,e] bf))/\bL h 1 (.mp k 3) w=a_ (h.set k (.cells [a,b,c,w,e] bf))/\bL h 1 (.mp k 4) w=a_ (h.set k (.cells [a,b,c,d,w] bf)):=by
 have eS:=rj hw;refine⟨?_,?_,?_,?_,?_⟩<;>simp only[bL,O,fq,eS]<;>simp[hw,dV]
@[go_sem]def Nn{a' b' c' d' e':bg}(O:h[k]?=a_ (.cells [a,b,c,d,e] bf))(hw:[a',b',c',d',e'].all cr=bh):bL h 5 (.mp k 0) (.agg [a',b',c',d',e'])=a_ (h.set k (.cells [a',b',c',d',e'] bf)):=by
 have eS:(dG [a',b',c',d',e']).cells=[a',b',c',d',e']:=rfl;simp only[bL,O,fq,eS];rw[if_pos ⟨rfl,af,hw⟩];simp[dV]
end
structure jt(eo:Nat)(J bl:List br):Prop where
 len:J.length<=bl.length
 keep:∀(j:Nat) b,J[j]?=a_ b->j≠eo->(∀Z,b≠.cells Z bh)->bl[j]?=a_ b
def jt.refl(eo:Nat)(J:List br):jt eo J J:=⟨cj _,λ_ _ h _ _=>h⟩
def jt.app{x:List br}:jt eo J (J++x):=⟨af,λ_ _ h _ _=>bT h⟩
def jt.trans{a b c:List br}(h:jt eo a b)(k:jt eo b c):jt eo a c:=⟨h_ h.len k.len,λj x q Y V=>k.keep j x (h.keep j x q Y V) Y V⟩
def KU.aGi(h:KU J bl):jt eo J bl:=⟨by rw[h.len];exact cj _,λj b q _ V=>h.keep j b q V⟩
def jt.set{b:br}:jt eo J (J.set eo b):=⟨af,λj x q Y _=>by rw[bD (eX Y)];exact q⟩
structure C7(N M eo:Nat)(o0 bv:bg)(J:List br)(xc:List bg)(fv ev:bg)(em:Bool)(h:List br):Prop where
 o:h[eo]?=a_ (.cells [o0,bv,fv,ev,.v (.bool em)] bf)
 x:h[J.length]?=a_ (.cells xc bf)
 b:mV N M bv h
 k:jt eo J h
def C7.put{h:List br}{xc:List bg}(s:C7 N M eo o0 bv J xc fv ev em h)(hl:eo<J.length)(lJ nj:bg)(xk:Bool):C7 N M eo o0 bv J xc lJ nj xk (h.set eo (.cells [o0,bv,lJ,nj,.v (.bool xk)] bf)):=by
 have S:=gl s.o;refine⟨bU S,by rw[bD aa];exact s.x,s.b.ext λj Z q=>?_,s.k.trans jt.set⟩;rw[bD (by rintro rfl;rw[s.o] at q;simp at q)];exact q
def aGj(O:J[eo]?=a_ (.cells [o0,bv,fv,ev,.v (.bool em)] bf))(hf:iG N fv)(he:iG N ev)(hB:mV N M bv J)(qS:iG N xf)(oW:iG N gY)(aIl:N<=M)(hN:N<=256):
  cq G bC 284 [.mp eo 0,.agg [.bp,.bp,xf,gY,.v (.bool q6)]] J λr bl=>r=.bQ []/\∃lJ nj xk,bl[eo]?=a_ (.cells [o0,bv,lJ,nj,.v (.bool xk)] bf)/\iG N lJ/\iG N nj/\mV N M bv bl/\jt eo J bl:=by
 have e6:=gl O;refine azX.go ?_;refine eu (λe h=>e=[(0,.mp eo 0),(3,.mp J.length 0)]/\C7 N M eo o0 bv J [.bp,.bp,xf,gY,.v (.bool q6)] fv ev em h) ?_ ?_;refine wx ?_;exact⟨trivial,bT O,af,hB.ext λj Z q=>bT q,jt.app⟩;rintro e h0 ⟨rfl,nv⟩;obtain⟨el,DP,AJ⟩:=he;have tB:=AJ.len;refine eu (λe h=>e=[(0,.mp eo 0),(3,.mp J.length 0)]/\C7 N M eo o0 bv J [.bp,.bp,xf,gY,.v (.bool q6)] fv ev em h) ?_ ?_;refine wy ?_;refine dj (λi e h=>e=[(0,.mp eo 0),(3,.mp J.length 0),(4,bq i)]/\C7 N M eo o0 bv J [.bp,.bp,xf,gY,.v (.bool q6)] fv ev em h) el.length ⟨rfl,nv⟩ ?_ ?_;rintro i e h Q ⟨rfl,s⟩;obtain⟨x,I⟩:=dQ Q;obtain⟨x0,x1⟩:=AJ.2 x (cG I);obtain⟨p,rfl⟩:=o8 x0;obtain⟨k,c,a1,a2,a3,a4⟩:=s.b.at (p:=p) aa;obtain⟨l0,l1,l2,l3,l4,_⟩:=jJ s.o;obtain⟨m0,m1,m2,m3,m4,_⟩:=jJ s.x;have axS:=DP.cE I;refine sU @DP.len (JE a3 qS hN λr D=>?_);obtain⟨h',b1,b2,b3⟩:=a4 r D;refine o6 (fN @bq.eq_1 @l1 @l3 @DP.len) @axS @a1 @a2 @m2 @b1 @oA ?_;exact⟨b3.keep _ _ s.o af,b3.keep _ _ s.x af,b2,s.k.trans b3.aGi⟩;rintro e h ⟨rfl,s⟩;obtain⟨l0,l1,l2,l3,l4,_⟩:=jJ s.o;refine hO @bq.eq_1 @l3 ?_;exact⟨trivial,s⟩;rintro e Y ⟨rfl,s1⟩;refine eu (λe h=>e=[(0,.mp eo 0),(3,.mp J.length 0)]/\∃lJ,iG N lJ/\C7 N M eo o0 bv J [.bp,.bp,xf,gY,.v (.bool q6)] lJ ev em h) ?_ ?_;obtain⟨l0,l1,l2,l3,l4,_⟩:=jJ s1.o;obtain⟨m0,m1,m2,m3,m4,_⟩:=jJ s1.x;cases em with
 |false=>
  refine wx ?_;exact⟨trivial,fv,hf,s1⟩
 |true=>
  refine wy (JE hf qS hN λr D=>?_);obtain⟨t0,t1,t2,t3,t4⟩:=qW s1.o D.one;refine wx ?_;exact⟨trivial,r,D,s1.put e6 r ev bh⟩
 rintro e V ⟨rfl,lJ,eY,s2⟩;have he:iG N ev:=⟨el,DP,AJ⟩;refine eu (λe h=>e=[(0,.mp eo 0),(3,.mp J.length 0)]/\∃nj,iG N nj/\C7 N M eo o0 bv J [.bp,.bp,xf,gY,.v (.bool q6)] lJ nj em h) ?_ ?_;obtain⟨l0,l1,l2,l3,l4,_⟩:=jJ s2.o;obtain⟨m0,m1,m2,m3,m4,_⟩:=jJ s2.x;cases q6 with
 |false=>
  obtain⟨t0,t1,t2,t3,t4⟩:=qW s2.o oW.one;refine wx ?_;exact⟨trivial,gY,oW,s2.put e6 lJ gY em⟩
 |true=>
  refine wy (JE he oW hN λr D=>?_);obtain⟨t0,t1,t2,t3,t4⟩:=qW s2.o D.one;refine wx ?_;exact⟨trivial,r,D,s2.put e6 lJ r em⟩
 rintro e h3 ⟨rfl,nj,vL,eU⟩;obtain⟨l0,l1,l2,l3,l4,_⟩:=jJ eU.o;obtain⟨m0,m1,m2,m3,m4,_⟩:=jJ eU.x;have fin:∀b:Bool,bL h3 1 (.mp eo 4) (.v (.bool b))=a_ (h3.set eo (.cells [o0,bv,lJ,nj,.v (.bool b)] bf)):=λb=>(qW eU.o (w:=.v (.bool b)) rfl).2.2.2.2;have LH:∀b:Bool,∃af2 afj atp,(h3.set eo (.cells [o0,bv,lJ,nj,.v (.bool b)] bf))[eo]?=a_ (.cells [o0,bv,af2,afj,.v (.bool atp)] bf)/\iG N af2/\iG N afj/\mV N M bv (h3.set eo (.cells [o0,bv,lJ,nj,.v (.bool b)] bf))/\jt eo J (h3.set eo (.cells [o0,bv,lJ,nj,.v (.bool b)] bf)):=λb=>by
  have q:=eU.put e6 lJ nj b;exact⟨lJ,nj,b,q.o,eY,vL,q.b,q.k⟩
 cases em with
 |false=>
  refine hO @l4 @fin ?_;exact⟨trivial,LH _⟩
 |true=>
  refine gC @l4 @m4 @fin ?_;exact⟨trivial,LH _⟩
structure ud(kn:Nat)(z:List bg)(N:Nat)(bx bv:bg)(J:List br):Prop where
 b:J[kn]?=a_ (.cells (bx::bv::z) bf)
 on:∃xs,cT J bx xs 1 195/\xs.length=N/\∀x∈xs,∃l,qD x l/\l.length<=256/\∀y∈l,(0:Int)<=y/\y<256
 cu:mV N N bv J
def ud.o5(h:ud kn z N bx bv J)(S:jt eo J bl)(ho:J[eo]?=a_ (.cells Z bf))(bR:eo≠kn)(hB:mV N N bv bl):ud kn z N bx bv bl:=by
 refine⟨S.keep _ _ h.b (eX bR) af,?_,hB⟩;obtain⟨xs,Y,V,h3⟩:=h.on;refine⟨xs,Y.elim bE ?_,V,h3⟩;rintro⟨id,q1,bt⟩;exact bF ⟨id,q1,S.keep _ _ bt (by rintro rfl;rw[ho] at bt;cases bt) af⟩
def aEV(hX:ud kn z N bx bv J)(O:J[eo]?=a_ (.cells [.bp,.bp,fv,ev,.v (.bool em)] bf))(bR:eo≠kn)(hf:iG N fv)(he:iG N ev)(qS:iG N xf)(oW:iG N gY)(hN:N<=256):
  cq G bC 245 [.mp kn 0,.mp eo 0,.agg [.bp,.bp,xf,gY,.v (.bool q6)]] J λr bl=>r=.bQ []/\ud kn z N bx bv bl/\jt eo J bl/\∃lJ nj xk,bl[eo]?=a_ (.cells [.bp,.bp,lJ,nj,.v (.bool xk)] bf)/\iG N lJ/\iG N nj:=by
 have e6:=gl O;refine azP.go ?_;have jz:(dG [.bp,.bp,xf,gY,.v (.bool q6)]).cells=[.bp,.bp,xf,gY,.v (.bool q6)]:=rfl;have g1:(J++[bw [.bp,.bp,xf,gY,.v (.bool q6)] bf])[eo]?=a_ (.cells [.bp,.bp,fv,ev,.v (.bool em)] bf):=bT O;have g2:(J++[bw [.bp,.bp,xf,gY,.v (.bool q6)] bf])[kn]?=a_ (.cells (bx::bv::z) bf):=bT hX.b;have g3:(J++[bw [.bp,.bp,xf,gY,.v (.bool q6)] bf])[J.length]?=a_ (.cells [.bp,.bp,xf,gY,.v (.bool q6)] bf):=af
 have k1:jt eo J (J++[bw [.bp,.bp,xf,gY,.v (.bool q6)] bf]):=jt.app;have OR:mV N N bv (J++[bw [.bp,.bp,xf,gY,.v (.bool q6)] bf]):=hX.cu.ext λj Z q=>bT q;refine rW ?_;generalize J++[bw [.bp,.bp,xf,gY,.v (.bool q6)] bf]=g at g1 g2 g3 k1 OR⊢;obtain⟨t0,t1,t2,t3,t4⟩:=qW g1 hX.cu.one;have kO:=gl g1;have u1:(g.set eo (.cells [.bp,bv,fv,ev,.v (.bool em)] bf))[eo]?=a_ (.cells [.bp,bv,fv,ev,.v (.bool em)] bf):=bU kO;have u2:(g.set eo (.cells [.bp,bv,fv,ev,.v (.bool em)] bf))[J.length]?=a_ (.cells [.bp,.bp,xf,gY,.v (.bool q6)] bf):=by rw[bD aa];exact g3
 have k2:jt eo J (g.set eo (.cells [.bp,bv,fv,ev,.v (.bool em)] bf)):=k1.trans jt.set;have pe:mV N N bv (g.set eo (.cells [.bp,bv,fv,ev,.v (.bool em)] bf)):=OR.ext λj Z q=>by
  rw[bD (by rintro rfl;rw[g1] at q;simp at q)];exact q
 refine wx (ck (aGj u1 hf he pe qS oW (cj _) hN) ?_);rintro _ g4 ⟨rfl,lJ,nj,xk,v1,v2,v3,v4,v5⟩;have awc:=gl v1;have gK:jt eo J (g4.set eo (.cells [.bp,.bp,lJ,nj,.v (.bool xk)] bf)):=(k2.trans v5).trans jt.set;have KC:mV N N bv (g4.set eo (.cells [.bp,.bp,lJ,nj,.v (.bool xk)] bf)):=v4.ext λj Z q=>by
  rw[bD (by rintro rfl;rw[v1] at q;simp at q)];exact q
 refine fc ?_;exact⟨trivial,hX.o5 gK O bR KC,gK,lJ,nj,xk,bU awc,v2,v3⟩
end
open Go.Proofs.YtkpjaeffojibmaaGreatDoor.iG renaming nil->E4
section
variable{M N k kn eo m:Nat}{Z z:List bg}{g h h' J x:List br}
def kC(N:Nat)(Z:List bg):Prop:=∃f e b,Z=[.bp,.bp,f,e,.v (.bool b)]/\iG N f/\iG N e
def z5:List bg:=[.bp,.bp,.bp,.bp,.v (.bool bf)]
def kC.mono(h:kC N Z)(hm:N<=M):kC M Z:=by
 obtain⟨f,e,b,rfl,Y,V⟩:=h;exact⟨f,e,b,rfl,Y.mono hm,V.mono hm⟩
def kC.z5(N:Nat):kC N z5:=⟨_,_,_,rfl,E4 N,E4 N⟩
def kC.one(h:kC N Z):Z.length=5/\Z.all cr=bh:=by
 obtain⟨f,e,b,rfl,Y,V⟩:=h;refine⟨rfl,?_⟩;simp only[pY,sY,Y.one,V.one];rfl
@[go_sem]def NK(h:kC N Z){cs0:List bg}(S:g[k]?=a_ (.cells cs0 bf))(h0:cs0.length=5):bL g 5 (.mp k 0) (.agg Z)=a_ (g.set k (.cells Z bf)):=by
 obtain⟨Y,V⟩:=h.one;simp only[bL,S,fq];have eS:(dG Z).cells=Z:=rfl;rw[eS,if_pos ⟨Y,aa,V⟩];unfold dV;rw[oG,gN,sZ aa,gd]
@[go_sem]def Cn(h:kC N Z)(g:List br):bL (g++[.cells z5 bf]) 5 (.mp g.length 0) (.agg Z)=a_ (g++[.cells Z bf]):=by
 rw[NK h (cs0:=z5) af rfl];simp
@[go_sem]def zm(S:g[k]?=a_ (.cells Z bf))(h0:Z.length=5):bz g bh 5 (.mp k 0)=a_ (.agg Z):=by
 simp only[bz,S];unfold e_;rw[if_pos rfl,if_pos aa,o9,mA aa]
structure pn(kn:Nat)(J bl:List br):Prop where
 len:J.length<=bl.length
 Ai:∀(j:Nat) Z,j≠kn->J[j]?=a_ (.cells Z bf)->bl[j]?=a_ (.cells Z bf)
 tok:∀(j:Nat) c,J[j]?=a_ (.tok c 5 209)->bl[j]?=a_ (.tok c 5 209)
def pn.refl(kn:Nat)(J:List br):pn kn J J:=⟨cj _,λ_ _ _ h=>h,λ_ _ h=>h⟩
def pn.trans{a b c:List br}(h:pn kn a b)(k:pn kn b c):pn kn a c:=⟨h_ h.len k.len,λj x q bt=>k.Ai j x q (h.Ai j x q bt),λj x q=>k.tok j x (h.tok j x q)⟩
def pn.app:pn kn J (J++x):=⟨af,λ_ _ _ h=>bT h,λ_ _ h=>bT h⟩
def pn.o5(s:pn kn J h)(t:jt eo h h')(hl:J.length<=eo):pn kn J h':=⟨h_ s.len t.len,λj Z q bt=>by
 have:=gl bt;exact t.keep j _ (s.Ai j Z q bt) aa af,λj c bt=>by
 have:=gl bt;exact t.keep j _ (s.tok j c bt) aa af⟩
def kB(N:Nat)(h:List br)(m:Nat):Prop:=∃Z,h[m]?=a_ (.cells Z bf)/\kC N Z
def kB.mono(s:kB N h m)(hm:N<=M):kB M h m:=by
 obtain⟨Z,Y,V⟩:=s;exact⟨Z,Y,V.mono hm⟩
def kB.o5(s:kB N h m)(t:jt eo h h')(bR:m≠eo):kB N h' m:=by
 obtain⟨Z,Y,V⟩:=s;exact⟨Z,t.keep _ _ Y bR af,V⟩
def kB.lay(s:kB N h m)(t:pn kn h h')(bR:m≠kn):kB N h' m:=by
 obtain⟨Z,Y,V⟩:=s;exact⟨Z,t.Ai _ _ bR Y,V⟩
def kB.app(s:kB N h m):kB N (h++x) m:=by
 obtain⟨Z,Y,V⟩:=s;exact⟨Z,bT Y,V⟩
def kB.new(s:kC N Z):kB N (h++[.cells Z bf]) h.length:=⟨Z,af,s⟩
def r6(kn:Nat)(z:List bg)(N:Nat)(J:List br):Prop:=∃bx bv,ud kn z N bx bv J
def r6.app(h:r6 kn z N J):r6 kn z N (J++x):=by
 obtain⟨bx,bv,h⟩:=h;refine⟨bx,bv,bT h.b,?_,h.cu.ext λj Z q=>bT q⟩;obtain⟨xs,Y,V,h3⟩:=h.on;refine⟨xs,Y.elim bE ?_,V,h3⟩;rintro⟨id,q1,bt⟩;exact bF ⟨id,q1,bT bt⟩
def r6.o5{bl:List br}(h:r6 kn z N J)(S:jt eo J bl)(ho:J[eo]?=a_ (.cells Z bf))(bR:eo≠kn)(D:∀(j:Nat) Z,J[j]?=a_ (.cells Z bh)->bl[j]?=a_ (.cells Z bh)):r6 kn z N bl:=by
 obtain⟨bx,bv,h⟩:=h;exact⟨bx,bv,h.o5 S ho bR (h.cu.ext D)⟩
def r6.lt(h:r6 kn z N J):kn<J.length:=by
 obtain⟨bx,bv,h⟩:=h;exact gl h.b
structure fZ(kn:Nat)(z:List bg)(J:List br)(pc:List bg)(w:Nat)(h:List br):Prop where
 fE:r6 kn z w h
 k:pn kn J h
 r:h[J.length]?=a_ (.cells z5 bf)
 p:h[J.length+1]?=a_ (.cells pc bf)
 o:kB w h (J.length+2)
 lt:kn<J.length
section
variable{kn:Nat}{z:List bg}{J h h' x:List br}{pc:List bg}{w w' eo m:Nat}{Z:List bg}
def fZ.Dm(s:fZ kn z J pc w h):J.length+3<=h.length:=by
 obtain⟨Z,q,_⟩:=s.o;have:=gl q;omega
def fZ.app(s:fZ kn z J pc w h):fZ kn z J pc w (h++x):=⟨s.fE.app,s.k.trans pn.app,bT s.r,bT s.p,s.o.app,s.lt⟩
def fZ.lay(s:fZ kn z J pc w h)(t:pn kn h h')(hn:r6 kn z w' h')(hw:w<=w'):fZ kn z J pc w' h':=
 have hl:=s.lt
 ⟨hn,s.k.trans t,t.Ai _ _ aa s.r,t.Ai _ _ aa s.p,(s.o.lay t aa).mono hw,hl⟩
def fZ.o5(s:fZ kn z J pc w h)(t:jt eo h h')(hl:J.length+2<=eo)(hn:r6 kn z w h')(ho:kB w h' (J.length+2)):fZ kn z J pc w h':=
 ⟨hn,s.k.o5 t aa,t.keep _ _ s.r aa af,t.keep _ _ s.p aa af,ho,s.lt⟩
def fZ.put(s:fZ kn z J pc w h)(hm:kB w h m)(hl:J.length+2<=m)(T:kC w Z):fZ kn z J pc w (h.set m (.cells Z bf))/\kB w (h.set m (.cells Z bf)) m:=by
 obtain⟨c0,Y,V⟩:=hm;have nN:=gl Y;have cQ:=s.lt;have t:jt m h (h.set m (.cells Z bf)):=jt.set;have qp:kB w (h.set m (.cells Z bf)) m:=⟨Z,bU nN,T⟩;refine⟨s.o5 t hl (s.fE.o5 t Y aa λj c q=>aKi) ?_,qp⟩;by_cases e:J.length+2=m;rw[e];exact qp;exact s.o.o5 t e
def fZ.call(s:fZ kn z J pc w h){G:Cells}(hm:kB w h m)(hl:J.length+2<=m)(T:kC w Z)(hw:w<=256){K:bg->List br->Prop}(hK:∀h',fZ kn z J pc w h'->jt m h h'->kB w h' m->K (.bQ []) h'):cq G bC 245 [.mp kn 0,.mp m 0,.agg Z] h K:=by
 obtain⟨xf,gY,lV,rfl,qS,oW⟩:=T;obtain⟨_,Y,fv,ev,em,rfl,hf,he⟩:=hm;obtain⟨bx,bv,hX⟩:=s.fE;have cQ:=s.lt;refine ck (aEV hX Y aa hf he qS oW hw) ?_;rintro _ h' ⟨rfl,Wx,t,lJ,nj,xk,k1,k2,gK⟩;have qp:kB w h' m:=⟨_,k1,lJ,nj,xk,rfl,k2,gK⟩;refine hK h' (s.o5 t hl ⟨bx,bv,Wx⟩ ?_) t qp;by_cases e:J.length+2=m;rw[e];exact qp;exact s.o.o5 t e
def nC(B w:Nat)(h:List br)(rv:bg)(rs:List (List bg)):Prop:=((rv=.bp/\rs=[])\/∃id,rv=.sl (rs.map dG) (.tok id)/\B<=id/\h[id]?=a_ (.tok rs.length 5 209))/\∀c∈rs,kC w c
variable{B:Nat}{rv:bg}{rs:List (List bg)}
def nC.keep(s:nC B w h rv rs)(hw:w<=w')(S:∀(j:Nat) c,h[j]?=a_ (.tok c 5 209)->h'[j]?=a_ (.tok c 5 209)):nC B w' h' rv rs:=by
 refine⟨s.1.elim bE ?_,λc T=>(s.2 c T).mono hw⟩;rintro⟨id,q1,bt,bS⟩;exact bF ⟨id,q1,bt,S _ _ bS⟩
def nC.o5(s:nC B w h rv rs)(t:jt eo h h'){c0:List bg}(ho:h[eo]?=a_ (.cells c0 bf)):nC B w h' rv rs:=s.keep (cj _) λj c q=>t.keep _ _ q (by rintro rfl;rw[ho] at q;cases q) af
@[go_sem]def NF:∀{rs:List (List bg)},(∀c∈rs,kC w c)->cZ 5 (rs.map dG)=bh
 |[],_=>rfl
 |c::r,h=>by
  have ih:=NF (rs:=r) λx I=>h x aA;obtain⟨Y,V⟩:=(h c af).one;simp only[cZ,fG,pY,jK,Y,V,beq_self_eq_true,Bool.and_self,OA] at ih⊢;exact ih
def nC.cE(s:nC B w h rv rs){i:Nat}{c:List bg}(T:rs[i]?=a_ c):ct 5 rv (.v (.int .i64 (i:Int)))=a_ (.fp c 0)/\(∀g,bz g bh 5 (.fp c 0)=a_ (.agg c))/\kC w c:=by
 have J:=s.2 c (cG T);obtain⟨Y,V⟩:=J.one;refine⟨?_,λg=>?_,J⟩
 rcases s.1 with⟨rfl,rfl⟩|⟨id,rfl,_⟩
 simp at T;exact lD (x:=.agg c) (by simp[T]) Y;simp only[bz];unfold e_;rw[if_pos rfl,if_pos aa,o9,mA aa]
def nC.push(s:nC B w h rv rs)(hB:B<=h.length)(hn:rs.length<=1000)(T:kC w Z):∃Cy h',ef h 5 104 209 rv (.sl [.agg Z] .exact)=a_ (Cy,h')/\nC B w h' Cy (rs++[Z])/\h.length<=h'.length/\(∀(j:Nat) b,h[j]?=a_ b->(∀c,b≠.tok c 5 209)->h'[j]?=a_ b)/\∀(j:Nat) b,j<B->h[j]?=a_ b->h'[j]?=a_ b:=by
 have I:=NF s.2;have hy:cZ 5 [dG Z]=bh:=NF (rs:=[Z]) (w:=w) (by simpa using T);have hfit:(rs.length+1)*104<=140737488355328:=aa
 have I0:∀c∈rs++[Z],kC w c:=λc q=>(gj.1 q).elim (s.2 c) λq=>by rw[dP.1 q];exact T
 rcases s.1 with⟨rfl,rfl⟩|⟨id,rfl,hid,S⟩
 refine⟨.sl ([]++[.agg Z]) (.tok h.length),h++[.tok 1 5 209],?_,⟨bF ⟨h.length,rfl,hB,af⟩,I0⟩,af,λj b q _=>bT q,λj b _ q=>bT q⟩;simp only[hY,gk] at hfit;simp[ef,gG,iy,ij,hy];have hl:id<h.length:=gl S;refine⟨.sl (rs.map dG++[.agg Z]) (.tok id),h.set id (.tok (rs.length+1) 5 209),?_,⟨bF ⟨id,af,hid,aJ9⟩,I0⟩,af,λj b q bR=>?_,λj b hj q=>by rw[bD aa];exact q⟩;simp[ef,gG,iy,ij,hy,hfit,I,S];rw[bD (λe=>aLb)];exact q
def fZ.rest(s:fZ kn z J pc w h)(hl:h.length<=h'.length)(k1:∀(j:Nat) b,h[j]?=a_ b->(∀c,b≠.tok c 5 209)->h'[j]?=a_ b)(k2:∀(j:Nat) b,j<J.length->h[j]?=a_ b->h'[j]?=a_ b):fZ kn z J pc w h':=by
 refine⟨?_,⟨h_ s.k.len hl,λj Z q bt=>k1 _ _ (s.k.Ai j Z q bt) af,λj c bt=>k2 _ _ (gl bt) (s.k.tok j c bt)⟩,k1 _ _ s.r af,k1 _ _ s.p af,?_,s.lt⟩;obtain⟨bx,bv,hX⟩:=s.fE;refine⟨bx,bv,k1 _ _ hX.b af,?_,hX.cu.ext λj Z q=>k1 _ _ q af⟩;obtain⟨xs,Y,V,h3⟩:=hX.on;refine⟨xs,Y.elim bE ?_,V,h3⟩;rintro⟨id,q1,bt⟩;exact bF ⟨id,q1,k1 _ _ bt af⟩;obtain⟨Z,Y,V⟩:=s.o;exact⟨Z,k1 _ _ Y af,V⟩
end
def acg(kn:Nat)(z:List bg)(J:List br)(M:Nat)(r:bg)(bl:List br):Prop:=∃Z,r=.agg Z/\kC M Z/\r6 kn z M bl/\pn kn J bl
def HP(kn:Nat)(z:List bg)(J:List br)(M:Nat)(h:List br):Prop:=∃Z,h[J.length]?=a_ (.cells Z bf)/\kC M Z/\r6 kn z M h/\pn kn J h
def KP(G:Cells)(kn:Nat)(z:List bg)(v lv:bg)(ps:List cP)(i:Int):Prop:=∀N J,r6 kn z N J->N+cnt ps i<=256->
 cq G bC 183 [.mp kn 0,v,.v (.int .i64 i),lv] J (acg kn z J (N+cnt ps i))
def fZ.fin{pc:List bg}{w:Nat}(s:fZ kn z J pc w h)(T:kC w Z):bL h 5 (.mp J.length 0) (.agg Z)=a_ (h.set J.length (.cells Z bf))/\HP kn z J w (h.set J.length (.cells Z bf)):=by
 have hl:=gl s.r;have t:jt J.length h (h.set J.length (.cells Z bf)):=jt.set;have cQ:=s.lt;refine⟨NK T s.r rfl,Z,bU hl,T,s.fE.o5 t s.r aa λj c q=>?_,s.k.o5 t (cj _)⟩;rw[bD (by rintro rfl;rw[s.r] at q;simp at q)];exact q
end
section
variable{N kn:Nat}{bv bx r:bg}{h:List br}{z:List bg}{p:cP}
def Va:eN:=aiq.e.c.tl.tl.tl
def Vc:eN:=Va.tl
def Vd:eN:=Vc.tl
def ad2:eN:=Vd.tl.tl
@[go_sem]def H8{w:bg}(h:cr w=bh):eV 1 [w]=a_ (.sl [w] .exact):=by
 have e:=rj h;unfold eV;rw[if_pos ⟨by simp[cZ,e,h],af⟩]
@[go_sem]def A9{l:List bg}(h:∀x∈l,cr x=bh):cZ 1 l=bh:=by
 rw[cZ,eP];intro x I;have:=h x I;simp[rj this,this]
def mV.push(s:mV N N bv h)(hN:N<=1000)(D:iG (N+1) r):∃cW h',p7 h 1 24 195 bv (.sl [r] .exact)=a_ (cW,h')/\mV (N+1) (N+1) cW h'/\h.length<=h'.length/\∀(j:Nat) b,h[j]?=a_ b->(∀Z,b≠.cells Z bh)->h'[j]?=a_ b:=by
 have T:=rj D.one;have ok:cZ 1 [r]=bh:=A9 λx I=>by rw[dP.1 I];exact D.one
 obtain⟨Z,Y,V,⟨rfl,rfl⟩|⟨k,rfl,S⟩⟩:=s;have avs:N=0:=by simpa using Y.symm
 subst avs;have hf:eF [r]=[r]:=by simp[eF,T]
 refine⟨.rs h.length 1 1 0 1,h++[.cells [r] bh],?_,⟨[r],rfl,by simpa using D,bF ⟨h.length,rfl,af⟩⟩,af,λj b q _=>bT q⟩;have h3:¬([r]=([]:List bg)):=af
 simp[p7,ij,ok,hf];have e6:=gl S;have hf:eF [r]=[r]:=by simp[eF,T]
 have b8:lS Z (N*1) (eF [r])=Z++[r]:=by
  unfold lS;rw[hf,mA aa,sZ aa,gd]
 refine⟨.rs k (N+1) 1 0 (N+1),h.set k (.cells (Z++[r]) bh),?_,⟨Z++[r],aKO,λx I=>?_,bF ⟨k,rfl,bU e6⟩⟩,af,λj b hj O=>by
  rw[bD aKH];exact hj⟩
 have h3:¬([r]=([]:List bg)):=af
 show gG h 1 24 195 (.rs k N 1 0 N) (.sl [r] .exact)=_;simp only[gG,ij,iy,ok,h3,if_false,and_self,wN,if_true,true_and,S,eW,hY,b8];rw[if_pos aa];simp[Y]
 rcases gj.1 I with q|q
 exact(V x q).mono aa;rw[dP.1 q];exact D
def ud.place(s:ud kn z N bx bv h)(hN:N<=255)(D:∃l,qD r l/\l.length<=256/\∀y∈l,(0:Int)<=y/\y<256):
  ∃cU cW g1 g2 g3 g4,ef h 1 24 195 bx (.sl [r] .exact)=a_ (cU,g1)/\bL g1 1 (.mp kn 0) cU=a_ g2/\bz g2 bf 1 (.mp kn 1)=a_ bv/\p7 g2 1 24 195 bv (.sl [.bp] .exact)=a_ (cW,g3)/\bL g3 1 (.mp kn 1) cW=a_ g4/\ud kn z (N+1) cU cW g4/\h.length<=g4.length/\
   ∀(j:Nat) b,h[j]?=a_ b->j≠kn->(∀Z,b≠.cells Z bh)->(∀c,b≠.tok c 1 195)->g4[j]?=a_ b:=by
 obtain⟨xs,hA,sG,Rp⟩:=s.on;have xE:cr r=bh:=by obtain⟨l,q,_⟩:=D;exact q.one
 have iA:cZ 1 xs=bh:=A9 λx I=>by obtain⟨l,q,_⟩:=Rp x I;exact q.one
 have o1:cZ 1 [r]=bh:=A9 λx I=>by rw[dP.1 I];exact xE
 obtain⟨cU,g1,e1,vI,bR,bK,gR⟩:=nc (x:=r) (b9:=24) hA iA o1 ag ag aa;have gW:∀{j:Nat} {b:br},h[j]?=a_ b->(∀c,b≠.tok c 1 195)->∀ys,bx≠.sl ys (.tok j):=λ{j b} q O ys e=>by
  rcases hA with⟨q1,_⟩|⟨id,q1,bt⟩
  rw[q1] at e;cases e;rw[q1] at e;cases e;rw[bt] at q;cases q;exact O _ rfl
 have b1:g1[kn]?=a_ (.cells (bx::bv::z) bf):=gR _ _ s.b (gW s.b af)
 have ho:cr cU=bh:=by rcases vI with⟨q,_⟩|⟨_,q,_⟩<;>rw[q]<;>rfl
 have awt:=gl b1;have s1:bL g1 1 (.mp kn 0) cU=a_ (g1.set kn (.cells (cU::bv::z) bf)):=by
  simp only[bL,b1,fq,rj ho];simp[ho,dV]
 have b2:(g1.set kn (.cells (cU::bv::z) bf))[kn]?=a_ (.cells (cU::bv::z) bf):=bU awt;have pe:mV N N bv (g1.set kn (.cells (cU::bv::z) bf)):=s.cu.ext λj Z q=>by
  rw[bD (by rintro rfl;rw[s.b] at q;simp at q)];exact gR _ _ q (gW q af)
 have l2:bz (g1.set kn (.cells (cU::bv::z) bf)) bf 1 (.mp kn 1)=a_ bv:=by simp only[bz,b2];rfl
 obtain⟨cW,g3,dr,KC,DW,vO⟩:=pe.push (r:=.bp) aa (E4 _);have b3:g3[kn]?=a_ (.cells (cU::bv::z) bf):=vO _ _ b2 af;have awu:=gl b3;have eU:bL g3 1 (.mp kn 1) cW=a_ (g3.set kn (.cells (cU::cW::z) bf)):=by
  simp only[bL,b3,fq,rj KC.one];simp[KC.one,dV]
 refine⟨cU,cW,g1,_,g3,_,e1,s1,l2,dr,eU,⟨bU awu,⟨xs++[r],?_,by simp[sG],λx I=>?_⟩,KC.ext λj Z q=>?_⟩,?_,λj b hj Y V h3=>?_⟩
 rcases vI with q|⟨id,q1,bt⟩
 exact bE q;refine bF ⟨id,q1,?_⟩;have rE:kn≠id:=by rintro rfl;rw[b1] at bt;cases bt
 rw[bD rE];exact vO _ _ (by rw[bD rE];exact bt) af
 rcases gj.1 I with q|q
 exact Rp x q;rw[dP.1 q];exact D;rw[bD (by rintro rfl;rw[b3] at q;simp at q)];exact q;rw[wG];rw[wG] at DW;omega;rw[bD (eX Y)];refine vO _ _ ?_ V;rw[bD (eX Y)];exact gR _ _ hj (gW hj h3)
@[go_sem]def ud.aBn(s:ud kn z N bx bv h)(g:List br):cH bx g=a_ (.v (.int .i64 (N:Int)),g):=by
 obtain⟨xs,hA,sG,_⟩:=s.on;rw[Fp hA g,sG]
@[go_sem]def qT{X:List br}{k:Nat}(q:X[k]?=a_ (.cells p.cells bf)):bz X bf 1 (.mp k 0)=a_ (.v (.int .i64 p.kind))/\bz X bf 1 (.mp k 1)=a_ (.v (.int .i64 p.low))/\bz X bf 1 (.mp k 2)=a_ (.v (.int .i64 p.high))/\bz X bf 1 (.mp k 3)=a_ (bu p.name)/\bz X bf 1 (.mp k 4)=a_ p.kv:=by
 simp only[bz,q];exact⟨rfl,rfl,rfl,rfl,rfl⟩
@[go_sem]def akV{j:Nat}{x:Int}(I:p.kids[j]?=a_ x):ct 1 p.kv (.v (.int .i64 (j:Int)))=a_ (.fp [.v (.int .i64 x)] 0):=by
 unfold cP.kv;split;rename_i z;rw[z] at I;simp at I;exact lD (x:=bq x) aLr rfl
section
variable{G:Cells}{kn N:Nat}{z:List bg}{J h0:List br}{v lv:bg}{ps:List cP}{p:cP}{hi:nE}
def ay6{rows:List (List bg)}(BX:cC lv (rows.map dG))(fX:eM lv)(DX:∀x∈rows,wW x)(kS:rows.length<=1000000000)(s:fZ kn z J p.cells N h0)(S:p.kind=1)(hN:N+1<=256)(hQ:∀h',HP kn z J (N+1) h'->hi .ret [(8,.mp J.length 0)] h'):
  @er G bC bf Va ⟨hi⟩ [(0,.mp kn 0),(1,v),(3,lv),(8,.mp J.length 0),(9,.mp (J.length+1) 0),(10,.mp (J.length+2) 0)] h0:=by
 conv in Va=>whnf
 obtain⟨d0,d1,d2,d3,d4⟩:=qT s.p;rw[S] at d0;obtain⟨bx,bv,hX⟩:=s.fE;have aBi:bz h0 bf 1 (.mp kn 0)=a_ bx:=by simp only[bz,hX.b];rfl
 refine nV ?_;refine ei (aCb BX DX kS p.name) ?_;rintro r ⟨l,hl1,gS,pN⟩;have xE:=(zv hl1).one;obtain⟨cU,cW,g1,g2,g3,g4,e1,e2,dr,eS,nJ,Wx,bK,tD⟩:=hX.place (r:=r) aa ⟨l,(zv hl1),gS,pN⟩;have cQ:=s.lt;have j_:fZ kn z J p.cells (N+1) g4:=by
  refine⟨⟨_,_,Wx⟩,⟨h_ s.k.len bK,λj Z q bt=>tD _ _ (s.k.Ai j Z q bt) q af af,λj c q=>tD _ _ (s.k.tok j c q) ?_ af af⟩,tD _ _ s.r aa af af,tD _ _ s.p aa af af,?_,cQ⟩;rintro rfl;have:=s.k.tok _ c q;rw[hX.b] at this;cases this;obtain⟨Z,q1,bt⟩:=s.o;exact⟨Z,tD _ _ q1 aa af af,bt.mono aa⟩
 obtain⟨_,ho,fv,ev,em,rfl,hf,he⟩:=j_.o;have jO:iG (N+1) (.sl [bq (N:Int)] .exact):=⟨[(N:Int)],bF ⟨_,rfl⟩,qE.one aa⟩;have WH:cr (.sl [bq (N:Int)] .exact)=bh:=rfl;unfold bq at jO WH;obtain⟨t0,t1,t2,t3,t4⟩:=qW ho WH;obtain⟨jT,qo⟩:=j_.put j_.o (cj _) (Z:=[.bp,.bp,.sl [.v (.int .i64 (N:Int))] .exact,ev,.v (.bool em)]) ⟨_,_,_,rfl,jO,he⟩;have Xq:(g4.set (J.length+2) (.cells [.bp,.bp,.sl [.v (.int .i64 (N:Int))] .exact,ev,.v (.bool em)] bf))[J.length+2]?=a_ (.cells [.bp,.bp,.sl [.v (.int .i64 (N:Int))] .exact,ev,.v (.bool em)] bf):=bU (gl ho);generalize F_:g4.set (J.length+2) (.cells [.bp,.bp,.sl [.v (.int .i64 (N:Int))] .exact,ev,.v (.bool em)] bf)=g5 at jT qo Xq t2;obtain⟨rV,u1,u2,u3,u4⟩:=qW Xq WH;have amA:kC (N+1) [.bp,.bp,.sl [.v (.int .i64 (N:Int))] .exact,.sl [.v (.int .i64 (N:Int))] .exact,.v (.bool em)]:=⟨_,_,_,rfl,jO,jO⟩;obtain⟨nw,uP⟩:=jT.put qo (cj _) amA;have ahw:(g5.set (J.length+2) (.cells [.bp,.bp,.sl [.v (.int .i64 (N:Int))] .exact,.sl [.v (.int .i64 (N:Int))] .exact,.v (.bool em)] bf))[J.length+2]?=a_ (.cells [.bp,.bp,.sl [.v (.int .i64 (N:Int))] .exact,.sl [.v (.int .i64 (N:Int))] .exact,.v (.bool em)] bf):=bU (gl Xq);generalize av_:g5.set (J.length+2) (.cells [.bp,.bp,.sl [.v (.int .i64 (N:Int))] .exact,.sl [.v (.int .i64 (N:Int))] .exact,.v (.bool em)] bf)=g6 at nw uP ahw u3;have GB:=(jJ ahw).2.2.2.2.2;obtain⟨f1,f2⟩:=nw.fin amA;exact o6 (fN @aBi (H8 xE) @e1 @e2) (fN @dr (H8 (w:=.bp) rfl) @eS @nJ) @t2 @u3 @GB @f1 @oA (hQ _ f2)
def azZ(s:fZ kn z J p.cells N h0)(S:p.kind=3)(BZ:p.tail=.no)(e6:p.kids.length<=1000000000)(ih:∀x∈p.kids,KP G kn z v lv ps x)(hN:N+(p.kids.map λk=>cnt ps k).sum<=256)(hQ:∀h',HP kn z J (N+(p.kids.map λk=>cnt ps k).sum) h'->hi .ret [(8,.mp J.length 0)] h'):
  @er G bC bf Vc ⟨hi⟩ [(0,.mp kn 0),(1,v),(3,lv),(8,.mp J.length 0),(9,.mp (J.length+1) 0),(10,.mp (J.length+2) 0)] h0:=by
 conv in Vc=>whnf
 obtain⟨d0,d1,d2,d3,d4⟩:=qT s.p;rw[S] at d0;refine wy ?_;refine dj (λj e h=>e=[(0,.mp kn 0),(1,v),(3,lv),(8,.mp J.length 0),(9,.mp (J.length+1) 0),(10,.mp (J.length+2) 0),(12,bq j)]/\fZ kn z J p.cells (N+((p.kids.take j).map λk=>cnt ps k).sum) h) p.kids.length ⟨rfl,by simpa using s⟩ ?_ ?_;rintro j e h hj ⟨rfl,s⟩;obtain⟨x,I⟩:=dQ hj;have uZ:=zz (f:=λk=>cnt ps k) I;have sl:=CA (λk=>cnt ps k) p.kids (j+1);obtain⟨d0,d1,d2,d3,d4⟩:=qT s.p;refine nV (ck (ih x (cG I) _ h s.fE aa) ?_);rintro _ Y ⟨Z,rfl,T,hn,hL⟩;have s1:=s.lay hL hn aa;have jI:=Cn T Y;unfold z5 at jI;have s2:fZ kn z J p.cells _ (Y++[.cells Z bf]):=s1.app;have iA:(Y++[bw Z bf])[Y.length]?=a_ (.cells Z bf):=af
 have O:=s1.Dm;obtain⟨xf,gY,lV,rfl,qS,oW⟩:=T;refine wy ?_;generalize Y.length=m at iA O⊢;generalize Y++[bw [.bp,.bp,xf,gY,.v (.bool lV)] bf]=g at s2 iA⊢;obtain⟨_,ho,fv,ev,em,rfl,hf,he⟩:=s2.o;obtain⟨q0,q1,bt,bS,fk,_⟩:=jJ ho;obtain⟨x0,x1,x2,x3,qy,_⟩:=jJ iA;refine wy (JE hf qS aa λr D=>?_);obtain⟨t0,t1,t2,t3,t4⟩:=qW ho D.one;obtain⟨eU,j9⟩:=s2.put s2.o (cj _) (Z:=[.bp,.bp,r,ev,.v (.bool em)]) ⟨_,_,_,rfl,D,he⟩;have I5:(g.set (J.length+2) (.cells [.bp,.bp,r,ev,.v (.bool em)] bf))[J.length+2]?=a_ (.cells [.bp,.bp,r,ev,.v (.bool em)] bf):=bU (gl ho);have Zs:(g.set (J.length+2) (.cells [.bp,.bp,r,ev,.v (.bool em)] bf))[m]?=a_ (.cells [.bp,.bp,xf,gY,.v (.bool lV)] bf):=by rw[bD aa];exact iA
 refine wy ?_;generalize g.set (J.length+2) (.cells [.bp,.bp,r,ev,.v (.bool em)] bf)=g' at eU j9 I5 Zs⊢;obtain⟨q0,q1,bt,bS,fk,_⟩:=jJ I5;obtain⟨x0,x1,x2,x3,qy,_⟩:=jJ Zs;refine wy (JE he oW aa λr2 rH=>?_);obtain⟨t0,t1,t2,t3,t4⟩:=qW I5 rH.one;obtain⟨j_,mP⟩:=eU.put j9 (cj _) (Z:=[.bp,.bp,r,r2,.v (.bool em)]) ⟨_,_,_,rfl,D,rH⟩;have Xp:(g'.set (J.length+2) (.cells [.bp,.bp,r,r2,.v (.bool em)] bf))[J.length+2]?=a_ (.cells [.bp,.bp,r,r2,.v (.bool em)] bf):=bU (gl I5);have Cm:(g'.set (J.length+2) (.cells [.bp,.bp,r,r2,.v (.bool em)] bf))[m]?=a_ (.cells [.bp,.bp,xf,gY,.v (.bool lV)] bf):=by rw[bD aa];exact Zs
 refine wy ?_;generalize g'.set (J.length+2) (.cells [.bp,.bp,r,r2,.v (.bool em)] bf)=g2 at j_ mP Xp Cm⊢;obtain⟨q0,q1,bt,bS,fk,_⟩:=jJ Xp;obtain⟨x0,x1,x2,x3,qy,_⟩:=jJ Cm;have fin:∀b:Bool,bL g2 1 (.mp (J.length+2) 4) (.v (.bool b))=a_ (g2.set (J.length+2) (.cells [.bp,.bp,r,r2,.v (.bool b)] bf)):=λb=>(qW Xp (w:=.v (.bool b)) rfl).2.2.2.2;have LH:∀b:Bool,fZ kn z J p.cells (N+((p.kids.take (j+1)).map λk=>cnt ps k).sum) (g2.set (J.length+2) (.cells [.bp,.bp,r,r2,.v (.bool b)] bf)):=λb=>by
  rw[uZ,<-n5];exact(j_.put mP (cj _) (Z:=[.bp,.bp,r,r2,.v (.bool b)]) ⟨_,_,_,rfl,D,rH⟩).1
 cases em with
 |false=>
  refine gC @fk @qy @fin ?_;exact⟨rfl,LH _⟩
 |true=>
  refine gC @fk @qy @fin ?_;exact⟨rfl,LH _⟩
 rintro e h ⟨rfl,s⟩;rw[n3] at s;obtain⟨d0,d1,d2,d3,d4⟩:=qT s.p;obtain⟨Z,ho,T⟩:=s.o;obtain⟨f1,f2⟩:=s.fin T;exact pW @bq.eq_1 @d4 (zb BZ aa) (zm ho T.one.1) @f1 (hQ _ f2)
def azy(s:fZ kn z J p.cells N h0)(S:p.kind=2)(BZ:p.tail=.no)(e6:p.kids.length<=1000000000)(ih:∀x∈p.kids,KP G kn z v lv ps x)(hN:N+(p.kids.map λk=>cnt ps k).sum<=256)(hQ:∀h',HP kn z J (N+(p.kids.map λk=>cnt ps k).sum) h'->hi .ret [(8,.mp J.length 0)] h'):
  @er G bC bf Vd ⟨hi⟩ [(0,.mp kn 0),(1,v),(3,lv),(8,.mp J.length 0),(9,.mp (J.length+1) 0),(10,.mp (J.length+2) 0)] h0:=by
 conv in Vd=>whnf
 obtain⟨_,ho,fv,ev,em,rfl,hf,he⟩:=s.o;obtain⟨t0,t1,t2,t3,t4⟩:=qW ho (w:=.v (.bool bh)) rfl;obtain⟨s1,o1⟩:=s.put s.o (cj _) (Z:=[.bp,.bp,fv,ev,.v (.bool bh)]) ⟨_,_,_,rfl,hf,he⟩;obtain⟨d0,d1,d2,d3,d4⟩:=qT s1.p;rw[S] at d0;refine wy ?_;refine dj (λj e h=>e=[(0,.mp kn 0),(1,v),(3,lv),(8,.mp J.length 0),(9,.mp (J.length+1) 0),(10,.mp (J.length+2) 0),(14,bq j)]/\fZ kn z J p.cells (N+((p.kids.take j).map λk=>cnt ps k).sum) h) p.kids.length ⟨rfl,by simpa using s1⟩ ?_ ?_;rintro j e h hj ⟨rfl,s⟩;obtain⟨x,I⟩:=dQ hj;have uZ:=zz (f:=λk=>cnt ps k) I;have sl:=CA (λk=>cnt ps k) p.kids (j+1);obtain⟨d0,d1,d2,d3,d4⟩:=qT s.p;refine nV (ck (ih x (cG I) _ h s.fE aa) ?_);rintro _ Y ⟨Z,rfl,T,hn,hL⟩;have s1:=s.lay hL hn aa;have jI:=Cn T Y;unfold z5 at jI;have s2:fZ kn z J p.cells _ (Y++[.cells Z bf]):=s1.app;have iA:(Y++[bw Z bf])[Y.length]?=a_ (.cells Z bf):=af
 refine iB (zm iA T.one.1) (s2.call s2.o (cj _) T aa λh' eU _ _=>?_);refine fc ?_;refine⟨rfl,?_⟩;rw[uZ,<-n5];exact eU;rintro e h ⟨rfl,s⟩;rw[n3] at s;obtain⟨d0,d1,d2,d3,d4⟩:=qT s.p;obtain⟨Z,ho,T⟩:=s.o;obtain⟨f1,f2⟩:=s.fin T;exact pW @bq.eq_1 @d4 (zb BZ aa) (zm ho T.one.1) @f1 (hQ _ f2)
end
end
section
variable{p:cP}
section
variable{kn:Nat}{z:List bg}{J h h':List br}{pc:List bg}{w:Nat}
def fZ.aCY(s:fZ kn z J pc w h)(t:KU h h')(hn:r6 kn z w h'):fZ kn z J pc w h':=by
 refine⟨hn,⟨by rw[t.len];exact s.k.len,λj Z q bt=>t.keep _ _ (s.k.Ai j Z q bt) af,λj c q=>t.keep _ _ (s.k.tok j c q) af⟩,t.keep _ _ s.r af,t.keep _ _ s.p af,?_,s.lt⟩;obtain⟨Z,q1,bt⟩:=s.o;exact⟨Z,t.keep _ _ q1 af,bt⟩
def fZ.arP(s:fZ kn z J pc w h){p:Nat}(Ja:p<w):∃bv k c,bz h bf 1 (.mp kn 1)=a_ bv/\ct 1 bv (.v (.int .i64 (p:Int)))=a_ (.rp k w p)/\bz h bf 1 (.rp k w p)=a_ c/\iG w c/\∀r,iG w r->∃h',bL h 1 (.rp k w p) r=a_ h'/\fZ kn z J pc w h'/\KU h h':=by
 obtain⟨bx,bv,hX⟩:=s.fE;obtain⟨k,c,a1,a2,a3,a4⟩:=hX.cu.at Ja;refine⟨bv,k,c,by simp only[bz,hX.b];rfl,a1,a2,a3,λr D=>?_⟩;obtain⟨h',b1,b2,b3⟩:=a4 r D;refine⟨h',b1,s.aCY b3 ⟨bx,bv,b3.keep _ _ hX.b af,?_,b2⟩,b3⟩;obtain⟨xs,Y,V,h3⟩:=hX.on;refine⟨xs,Y.elim bE ?_,V,h3⟩;rintro⟨id,q1,bt⟩;exact bF ⟨id,q1,b3.keep _ _ bt af⟩
end
@[go_sem]def aqX{N:Nat}{Z:List bg}(h:kC N Z):eV 5 [.agg Z]=a_ (.sl [.agg Z] .exact):=by
 unfold eV;rw[if_pos ⟨NF (rs:=[Z]) (w:=N) aZ,af⟩]
def aBU(q:p.high<0):(if(1:Int)>p.low then 1 else p.low)=(p.many:Int):=by
 unfold E3;rw[if_pos q];split<;>omega
def aBW(q:¬p.high<0):p.high=(p.many:Int):=by
 unfold E3;rw[if_neg q];omega
section
variable{G:Cells}{kn N:Nat}{z:List bg}{J h0:List br}{v lv:bg}{ps:List cP}{p:cP}{hi:nE}
def az0{x:Int}{c:Nat}(s:fZ kn z J p.cells N h0)(O:HL p.low p.high)(y5:p.kids=[x])(T:cnt ps x=c)(ih:KP G kn z v lv ps x)(hN:N+p.many*c<=256)(hQ:∀h',HP kn z J (N+p.many*c) h'->hi .ret [(8,.mp J.length 0)] h'):
  @er G bC bf ad2 ⟨hi⟩ [(0,.mp kn 0),(1,v),(3,lv),(8,.mp J.length 0),(9,.mp (J.length+1) 0),(10,.mp (J.length+2) 0)] h0:=by
 conv in ad2=>whnf
 obtain⟨iT,ju,F1⟩:=O;obtain⟨lw,Ra⟩:=o8 iT;have pP:1<=p.many/\p.many<=20:=by
  unfold E3;constructor<;>(split<;>(try split))<;>omega
 have Q6:p.kids[0]?=a_ x:=by rw[y5];rfl
 have aAI:=akV Q6;have aI3:ct 1 p.kv (.v (.int .i64 0))=a_ (.fp [.v (.int .i64 x)] 0):=aAI;refine eu (λe h=>e=[(0,.mp kn 0),(1,v),(3,lv),(8,.mp J.length 0),(9,.mp (J.length+1) 0),(10,.mp (J.length+2) 0),(16,.v (.int .i64 p.high))]/\h=h0) ?_ ?_;obtain⟨d0,d1,d2,d3,d4⟩:=qT s.p;exact wx tt;rintro e h ⟨rfl,rfl⟩;refine eu (λe h'=>e=[(0,.mp kn 0),(1,v),(3,lv),(8,.mp J.length 0),(9,.mp (J.length+1) 0),(10,.mp (J.length+2) 0),(16,bq p.many)]/\h'=h) ?_ ?_;obtain⟨d0,d1,d2,d3,d4⟩:=qT s.p;have m0:pF bh [.v (.int .i64 p.low),.v (.int .i64 1)]=a_ (.v (.int .i64 (if(1:Int)>p.low then 1 else p.low))):=rfl;refine wy (cN (λq=>?_) λq=>?_);have q':p.high<0:=ak
 rw[aBU q'] at m0;exact hO @d1 @m0 rt;have q':¬p.high<0:=ak
 rw[aBW q'];exact wx rt;rintro e Y ⟨rfl,rfl⟩;refine eu (λe h'=>e=[(0,.mp kn 0),(1,v),(3,lv),(8,.mp J.length 0),(9,.mp (J.length+1) 0),(10,.mp (J.length+2) 0),(16,bq p.many),(17,.bp)]/\h'=Y) ?_ ?_;exact wx tt;rintro e V ⟨rfl,rfl⟩;refine eu (λe h=>∃rv rs,e=[(0,.mp kn 0),(8,.mp J.length 0),(9,.mp (J.length+1) 0),(10,.mp (J.length+2) 0),(16,bq p.many),(17,rv)]/\fZ kn z J p.cells (N+p.many*c) h/\nC J.length (N+p.many*c) h rv rs/\rs.length=p.many) ?_ ?_;refine wy ?_;refine dj (λj e h=>∃rv rs,e=[(0,.mp kn 0),(1,v),(3,lv),(8,.mp J.length 0),(9,.mp (J.length+1) 0),(10,.mp (J.length+2) 0),(16,bq p.many),(17,rv),(18,bq j)]/\fZ kn z J p.cells (N+j*c) h/\nC J.length (N+j*c) h rv rs/\rs.length=j) p.many ⟨.bp,[],rfl,by rw[Nat.zero_mul];exact s,⟨bE ⟨rfl,rfl⟩,af⟩,rfl⟩ ?_ ?_;rintro j e h hj ⟨rv,rs,rfl,s,hA,nr⟩;have ahb:N+j*c+c<=256:=by
  have:(j+1)*c<=p.many*c:=o_ _ hj;rw[tZ] at this;omega
 have VR:N+(j+1)*c=N+j*c+c:=by rw[tZ];omega
 rw[VR];have Kj:de.wrap ((j:Int)+1)=((j+1:Nat):Int):=nx aa;refine iP (λe h'=>e=[(0,.mp kn 0),(1,v),(3,lv),(8,.mp J.length 0),(9,.mp (J.length+1) 0),(10,.mp (J.length+2) 0),(16,bq p.many),(17,rv),(18,bq j)]/\h'=h) ?_ ?_;exact dK @bq.eq_1 tt;rintro e h' ⟨rfl,rfl⟩;refine eu (λe h=>∃rv rs,e=[(0,.mp kn 0),(1,v),(3,lv),(8,.mp J.length 0),(9,.mp (J.length+1) 0),(10,.mp (J.length+2) 0),(16,bq p.many),(17,rv),(18,bq j)]/\fZ kn z J p.cells (N+j*c+c) h/\nC J.length (N+j*c+c) h rv rs/\rs.length=j+1) ?_ ?_;rw[CF];refine eu (λe h=>∃m Z,e=[(0,.mp kn 0),(1,v),(3,lv),(8,.mp J.length 0),(9,.mp (J.length+1) 0),(10,.mp (J.length+2) 0),(16,bq p.many),(17,rv),(18,bq j),(19,.mp m 0)]/\fZ kn z J p.cells (N+j*c+c) h/\nC J.length (N+j*c+c) h rv rs/\J.length+3<=m/\h[m]?=a_ (.cells Z bf)/\kC (N+j*c+c) Z) ?_ ?_;obtain⟨d0,d1,d2,d3,d4⟩:=qT s.p;refine wy (ck (ih _ h' s.fE aa) ?_);rw[T];rintro _ Y ⟨Z,rfl,jb,hn,hL⟩;have s1:=s.lay hL hn aa;have Wl:nC J.length (N+j*c+c) Y rv rs:=hA.keep aa hL.tok;have jI:=Cn jb Y;unfold z5 at jI;refine wy ?_;exact⟨_,Z,rfl,s1.app,Wl.keep (cj _) λj c q=>bT q,s1.Dm,af,jb⟩;rintro e h3 ⟨m,Z,rfl,eU,rA,Mw,iA,jb⟩;obtain⟨xf,gY,lV,rfl,qS,oW⟩:=jb;refine eu (λe h=>e=[(0,.mp kn 0),(1,v),(3,lv),(8,.mp J.length 0),(9,.mp (J.length+1) 0),(10,.mp (J.length+2) 0),(16,bq p.many),(17,rv),(18,bq j),(19,.mp m 0)]/\fZ kn z J p.cells (N+j*c+c) h/\nC J.length (N+j*c+c) h rv rs/\h[m]?=a_ (.cells [.bp,.bp,xf,gY,.v (.bool lV)] bf)) ?_ ?_;obtain⟨d0,d1,d2,d3,d4⟩:=qT eU.p;by_cases q:p.high<0;have w1:de.wrap ((p.many:Int)-1)=((p.many-1:Nat):Int):=by rw[fO aa aa];omega
 by_cases bt:j=p.many-1;have bS:((j:Int)==((p.many-1:Nat):Int))=bh:=U3 bt;obtain⟨el,DP,AJ⟩:=oW;have tB:=AJ.len;refine u7 @bq.eq_1 @d2 @q @decide_true @w1 @bS ?_;refine dj (λi e h=>e=[(0,.mp kn 0),(1,v),(3,lv),(8,.mp J.length 0),(9,.mp (J.length+1) 0),(10,.mp (J.length+2) 0),(16,bq p.many),(17,rv),(18,bq j),(19,.mp m 0),(20,bq i)]/\fZ kn z J p.cells (N+j*c+c) h/\nC J.length (N+j*c+c) h rv rs/\h[m]?=a_ (.cells [.bp,.bp,xf,gY,.v (.bool lV)] bf)) el.length ⟨rfl,eU,rA,iA⟩ ?_ ?_;rintro i e h Q ⟨rfl,j_,FW,Cm⟩;obtain⟨y,hy⟩:=dQ Q;obtain⟨y0,y1⟩:=AJ.2 y (cG hy);obtain⟨pl,rfl⟩:=o8 y0;obtain⟨bv,k,Ld,b0,a1,a2,a3,a4⟩:=j_.arP (p:=pl) aa;obtain⟨x0,x1,x2,x3,qy,_⟩:=jJ Cm;refine wB @bq.eq_1 @b0 @x3 (DP.cE hy) @a1 @a2 @x2 @true_and @and_true (JE a3 qS aa λr D=>?_);obtain⟨h5,t1,t2,t3⟩:=a4 r D;refine o6 (fN @bq.eq_1 @b0 @x3 @DP.len) (DP.cE hy) @a1 @a2 @x2 @t1 @oA ?_;exact⟨t2,FW.keep (cj _) λj c q=>t3.keep _ _ q af,t3.keep _ _ Cm af⟩;rintro e h ⟨rfl,j_,FW,Cm⟩;obtain⟨x0,x1,x2,x3,qy,_⟩:=jJ Cm;refine hO @bq.eq_1 @x3 ?_;exact⟨trivial,j_,FW,Cm⟩;have bS:((j:Int)==((p.many-1:Nat):Int))=bf:=PA bt;refine u7 @bq.eq_1 @d2 @q @decide_true @w1 @bS ?_;exact⟨trivial,eU,rA,iA⟩;refine lU @bq.eq_1 @d2 @q @decide_false ?_;exact⟨trivial,eU,rA,iA⟩;rintro e h4 ⟨rfl,j_,FW,Cm⟩;have jb:kC (N+j*c+c) [.bp,.bp,xf,gY,.v (.bool lV)]:=⟨_,_,_,rfl,qS,oW⟩;obtain⟨Cy,h5,nJ,aqg,El,tH,Gw⟩:=FW.push j_.k.len aa jb;refine wx ?_;exact⟨Cy,_,rfl,j_.rest El tH Gw,aqg,by simp[nr]⟩;rintro e h ⟨rv,rs,rfl,s,hA,nr⟩;refine hO @bq.eq_1 @Kj ?_;exact⟨rv,rs,rfl,s,hA,nr⟩;rintro e h ⟨rv,rs,rfl,s,hA,nr⟩;refine dK @bq.eq_1 ?_;exact⟨rv,rs,rfl,s,hA,nr⟩;rintro e h3 ⟨rv,rs,rfl,eU,rA,nr⟩;generalize hW:N+p.many*c=W at*;refine eu (λe h=>e=[(0,.mp kn 0),(8,.mp J.length 0),(9,.mp (J.length+1) 0),(10,.mp (J.length+2) 0),(16,bq p.many),(17,rv)]/\fZ kn z J p.cells W h/\nC J.length W h rv rs) ?_ ?_;refine wy ?_;refine dj (λi e h=>e=[(0,.mp kn 0),(8,.mp J.length 0),(9,.mp (J.length+1) 0),(10,.mp (J.length+2) 0),(16,bq p.many),(17,rv),(21,bq i)]/\fZ kn z J p.cells W h/\nC J.length W h rv rs) (min p.many lw) ⟨rfl,eU,rA⟩ ?_ ?_;rintro i e h Q ⟨rfl,s,hA⟩;obtain⟨d0,d1,d2,d3,d4⟩:=qT s.p;rw[Ra] at d1;obtain⟨Z,jb⟩:∃Z,rs[i]?=a_ Z:=⟨rs[i],cz aa⟩;obtain⟨a1,a2,a3⟩:=hA.cE jb;have Kj:de.wrap ((i:Int)+1)=((i+1:Nat):Int):=nx aa;refine wy (s.call s.o (cj _) a3 hN λh' s' t qp=>?_);refine dK @Kj ?_;obtain⟨c0,o1,_⟩:=s.o;exact⟨rfl,s',hA.o5 t o1⟩;rintro e h ⟨rfl,s,hA⟩;obtain⟨d0,d1,d2,d3,d4⟩:=qT s.p;rw[Ra] at d1
 rcases en lw p.many with q|q
 rw[Nat.min_eq_right aa];refine hO @bq.eq_1 @d1 ?_;exact⟨trivial,s,hA⟩;rw[CX q];refine dK @bq.eq_1 ?_;exact⟨trivial,s,hA⟩;rintro e h4 ⟨rfl,j_,FW⟩;refine eu (λe h=>∃m,e=[(0,.mp kn 0),(8,.mp J.length 0),(9,.mp (J.length+1) 0),(10,.mp (J.length+2) 0),(16,bq p.many),(17,rv),(22,.mp m 0)]/\fZ kn z J p.cells W h/\nC J.length W h rv rs/\kB W h m/\J.length+3<=m) ?_ ?_;have qc:kC W [.bp,.bp,.bp,.bp,.v (.bool bh)]:=⟨_,_,_,rfl,E4 W,E4 W⟩;have jI:=Cn qc h4;unfold z5 at jI;refine wy ?_;exact⟨_,rfl,j_.app,FW.keep (cj _) λj c q=>bT q,kB.new qc,j_.Dm⟩;rintro e h5 ⟨mt,rfl,jT,ave,qo,AT⟩;refine eu (λe h=>e=[(0,.mp kn 0),(8,.mp J.length 0),(10,.mp (J.length+2) 0),(22,.mp mt 0)]/\fZ kn z J p.cells W h/\kB W h mt) ?_ ?_;refine wy ?_;refine dj (λi e h=>∃k:Int,k=(p.many:Int)-1-(i:Int)/\e=[(0,.mp kn 0),(8,.mp J.length 0),(9,.mp (J.length+1) 0),(10,.mp (J.length+2) 0),(17,rv),(22,.mp mt 0),(23,.v (.int .i64 k))]/\fZ kn z J p.cells W h/\nC J.length W h rv rs/\kB W h mt) (p.many-lw) ⟨_,aa,rfl,jT,ave,qo⟩ ?_ ?_;rintro i e h Q ⟨k,S,rfl,s,hA,Zo⟩;obtain⟨q,rfl⟩:∃q:Nat,k=(q:Int):=⟨p.many-1-i,aa⟩;obtain⟨d0,d1,d2,d3,d4⟩:=qT s.p;rw[Ra] at d1;obtain⟨Z,jb⟩:∃Z,rs[q]?=a_ Z:=⟨rs[q]' aa,cz _⟩;obtain⟨a1,a2,a3⟩:=hA.cE jb;have w2:de.wrap ((q:Int)-1)=(q:Int)-1:=fO aa aa;have jI:=Cn a3 h;unfold z5 at jI;obtain⟨qc,t1,t2⟩:=Zo;have aoI:(h++[bw Z bf])[mt]?=a_ (.cells qc bf):=bT t1;have hge:decide ((q:Int)>=(lw:Int))=bh:=ah
 have W0:decide ((lw:Int)<=(q:Int))=bh:=ah
 refine Ko @bq.eq_1 @d1 @hge @W0 @a1 @a2 @jI (zm aoI t2.one.1) ?_;have s1:fZ kn z J p.cells W (h++[bw Z bf]):=s.app;have L7:=s.Dm;have awN:=gl t1;refine s1.call (kB.new a3) aa t2 hN λh' s' t qp=>?_;have aC7:kB W h' mt:=kB.o5 ⟨qc,aoI,t2⟩ t aa;have vI:nC J.length W h' rv rs:=(hA.keep (cj _) (h':=h++[bw Z bf]) λj c q=>bT q).o5 t (c0:=Z) af;generalize h.length=mx at qp t awN L7⊢;obtain⟨_,x1,xf,gY,lV,rfl,qS,oW⟩:=qp;obtain⟨rV,u1,u2,u3,u4⟩:=qW x1 (w:=.v (.bool bh)) rfl;have Vs:kC W [.bp,.bp,xf,gY,.v (.bool bh)]:=⟨_,_,_,rfl,qS,oW⟩;obtain⟨nw,uP⟩:=s'.put (m:=mx) ⟨_,x1,_,_,_,rfl,qS,oW⟩ aa Vs;have tt:jt mx h' (h'.set mx (.cells [.bp,.bp,xf,gY,.v (.bool bh)] bf)):=jt.set;have aC8:=aC7.o5 tt aa;have avf:=vI.o5 tt x1;have rX:(h'.set mx (.cells [.bp,.bp,xf,gY,.v (.bool bh)] bf))[mx]?=a_ (.cells [.bp,.bp,xf,gY,.v (.bool bh)] bf):=bU (gl x1);refine dK @u4 ?_;obtain⟨as3,y1,fV⟩:=aC8;obtain⟨SU,uQ⟩:=nw.put (m:=mt) ⟨as3,y1,fV⟩ aa Vs;have avg:=avf.o5 (eo:=mt) (jt.set (b:=.cells [.bp,.bp,xf,gY,.v (.bool bh)] bf)) y1;refine hO (zm rX rfl) (NK Vs y1 fV.one.1) ?_;exact⟨_,aa,rfl,SU,avg,uQ⟩;rintro e h ⟨k,S,rfl,s,hA,Zo⟩;obtain⟨d0,d1,d2,d3,d4⟩:=qT s.p;rw[Ra] at d1;have hge:decide (k>=(lw:Int))=bf:=ah
 have W0:decide ((lw:Int)<=k)=bf:=ah
 refine lU @bq.eq_1 @d1 @hge @W0 ?_;exact⟨trivial,s,Zo⟩;rintro e h6 ⟨rfl,nw,qc,t1,t2⟩;refine iB (zm t1 t2.one.1) (nw.call nw.o (cj _) t2 hN λh' s' t qp=>?_);obtain⟨co,o1,o2⟩:=qp;obtain⟨f1,f2⟩:=s'.fin o2;exact hO (zm o1 o2.one.1) @f1 (hQ _ f2)
end
end
section
variable{N n0:Nat}{v:bg}{rows:List (List bg)}
def yB(N:Nat)(v:bg):Prop:=∃l:List Int,cC v (l.map bq)/\qE N l
def Fg(v:bg):Prop:=∃l:List Int,cC v (l.map bq)/\l.length<=256/\∀y∈l,(0:Int)<=y/\y<256
def yB.one(h:yB N v):cr v=bh:=aLk
def Fg.one(h:Fg v):cr v=bh:=aLk
def yB.clean(h:yB N v):eM v:=by obtain⟨l,q,_⟩:=h;exact FC q
def Fg.clean(h:Fg v):eM v:=by obtain⟨l,q,_⟩:=h;exact FC q
def iG.fz(h:iG N v)(J:List br):∃v',b7 J v v'/\yB N v':=by
 obtain⟨l,Y,V⟩:=h;obtain⟨v',q1,bt⟩:=Y.fz J;exact⟨v',q1,l,bt,V⟩
def anc(J:List br):∀{Z:List bg},(∀c∈Z,iG N c)->∃ys,fm J Z ys/\ys.length=Z.length/\∀y∈ys,yB N y
 |[],_=>⟨[],cX,rfl,af⟩
 |c::r,h=>by
  obtain⟨v',q1,bt⟩:=(h c af).fz J;obtain⟨ys,k1,k2,gK⟩:=anc J (Z:=r) λx I=>h x aA;refine⟨v'::ys,bG q1 k1,by simp[k2],λy hy=>?_⟩
  rcases fS.1 hy with rfl|hy
  exact bt;exact gK y hy
def ah_(J:List br):∀{Z:List bg},(∀x∈Z,∃l,qD x l/\l.length<=256/\∀y∈l,(0:Int)<=y/\y<256)->∃ys,fm J Z ys/\ys.length=Z.length/\∀y∈ys,Fg y
 |[],_=>⟨[],cX,rfl,af⟩
 |c::r,h=>by
  obtain⟨l,Y,V,h3⟩:=h c af;obtain⟨v',q1,bt⟩:=Y.fz J;obtain⟨ys,k1,k2,gK⟩:=ah_ J (Z:=r) λx I=>h x aA;refine⟨v'::ys,bG q1 k1,by simp[k2],λy hy=>?_⟩
  rcases fS.1 hy with rfl|hy
  exact⟨l,bt,V,h3⟩;exact gK y hy
def KM(r:bg):Prop:=∃(N:Nat) (bx bv f e:bg) (b:Bool) (xs ys:List bg),r=.agg [bx,bv,f,e,.v (.bool b)]/\N<=256/\cC bx xs/\xs.length=N/\(∀x∈xs,Fg x)/\cC bv (ys.map λy=>.agg [y])/\ys.length=N/\(∀y∈ys,yB N y)/\yB N f/\yB N e
def aFd(Z:List bg):(Z.map λc=>[c]).flatten=Z:=by
 induction Z with
 |nil=>rfl
 |cons a r ih=>rw[fG,yh,ih];rfl
def Ds{xs:List bg}(h:cC v xs)(I:∀x∈xs,∀c∈x.cells,eM c):eM v:=by
 rcases h with rfl|⟨rfl,_⟩
 exact k6 I;exact mJ
def KM.clean{r:bg}(h:KM r):eM r:=by
 obtain⟨N,bx,bv,f,e,b,xs,ys,rfl,hN,Y,V,h3,h4,h5,h6,h7,h8⟩:=h;refine Ip λc T=>?_;simp only[fS,p4,or_false] at T
 rcases T with rfl|rfl|rfl|rfl|rfl
 refine Ds Y λx I c T=>?_;rw[rj (h3 x I).one] at T;rw[dP.1 T];exact(h3 x I).clean;refine Ds h4 λx I c T=>?_;obtain⟨y,hy,rfl⟩:=eg.1 I;rw[dP.1 (show c∈[y] from T)];exact(h6 y hy).clean;exact h7.clean;exact h8.clean;exact dn _
def alT{h:List br}{kn:Nat}{z:List bg}{bx bv f e:bg}{b:Bool}(hX:ud kn z N bx bv h)(hN:N<=256)(hf:iG N f)(he:iG N e){g:List br}(hg:∀(j:Nat) Z,h[j]?=a_ (.cells Z bh)->g[j]?=a_ (.cells Z bh)):∃n bV,di g n (.agg [bx,bv,f,e,.v (.bool b)])=a_ bV/\KM bV:=by
 obtain⟨xs,hA,sG,Rp⟩:=hX.on;obtain⟨xs',x1,x2,x3⟩:=ah_ g Rp;obtain⟨cU,o1,o2⟩:∃cU,b7 g bx cU/\cC cU xs':=by
  rcases hA with⟨rfl,q⟩|⟨id,rfl,_⟩
  rw[q] at x2;exact⟨.bp,ez,bF ⟨rfl,nZ (by simpa using x2)⟩⟩;exact⟨_,gU x1,bE rfl⟩
 obtain⟨Z,c1,c2,c3⟩:=hX.cu;obtain⟨ys,y1,fV,lW⟩:=anc g c2;obtain⟨cW,b1,b2⟩:∃cW,b7 g bv cW/\cC cW (ys.map λy=>.agg [y]):=by
  rcases c3 with⟨rfl,q⟩|⟨k,rfl,S⟩
  rw[q] at fV;have:ys=[]:=nZ (by simpa using fV);subst this;exact⟨.bp,ez,bF ⟨rfl,rfl⟩⟩;have V:=b7.rs (sz:=1) (o:=0) (len:=N) (hg k Z S) (m:=N) c1.symm y1;have hE:mE 1 (ys.map λc=>[c]):=λx I=>by
   obtain⟨y,hy,rfl⟩:=eg.1 I;exact⟨rfl,by simp[(lW y hy).one]⟩
  have e1:=Qq [] hE;rw[gN,show([]:List bg).length=0 from rfl,aFd,cM,fV,c1] at e1;rw[e1] at V;refine⟨_,V,bE ?_⟩;rw[yl];rfl
 obtain⟨f',f1,f2⟩:=hf.fz g;obtain⟨e',e1,e2⟩:=he.fz g;obtain⟨n,hn⟩:=(kf (bG o1 (bG b1 (bG f1 (bG e1 (bG (bH (.bool b)) cX))))):b7 g _ _).done;exact⟨n,_,hn,N,cU,cW,f',e',b,xs',ys,rfl,hN,o2,by rw[x2,sG],x3,b2,by rw[fV,c1],lW,f2,e2⟩
section
variable{G:Cells}{kn:Nat}{z:List bg}{v lv:bg}{ps:List cP}
def arb(h:yx n0 v ps)(oU:n0<=100000000)(BX:cC lv (rows.map dG))(fX:eM lv)(DX:∀x∈rows,wW x)(kS:rows.length<=1000000000):∀(n i:Nat),i<n->i<ps.length->sz ps (i:Int)<=1000000000->KP G kn z v lv ps (i:Int):=by
 intro n
 induction n with
 |zero=>intro i Q;omega
 |succ n ih=>
  intro i Q hl dD N J hX DO;obtain⟨p,eI⟩:=dQ hl;have lO:=h.ok i p eI;have pR:=h.no p (cG eI);have T:=aex h.ok.kids eI;have vW:=h.len;have hs:=Tk h.ok.kids eI;have aIG:=Tj (λk=>sz ps k) p.kids;have S:∀x∈p.kids,KP G kn z v lv ps x:=λx I=>by
   obtain⟨j,hj⟩:=OO.1 I;have aFX:=zz (f:=λk=>sz ps k+1) hj;have aFY:=CA (λk=>sz ps k+1) p.kids (j+1);obtain⟨x0,x1⟩:=lO.2 x I;obtain⟨xn,rfl⟩:=o8 x0;exact ih xn aa aa aa
  have e6:p.kids.length<=1000000000:=aa
  have cQ:=hX.lt;refine aiq.go ?_;have e1:ct 5 v (.v (.int .i64 (i:Int)))=a_ (.fp p.cells 0):=h.v.cE (x:=p.bA) aKT rfl;have e2:∀J,bz J bh 5 (.fp p.cells 0)=a_ (.agg p.cells):=λJ=>rfl;refine eu (λe g=>e=[(0,.mp kn 0),(1,v),(2,.v (.int .i64 (i:Int))),(3,lv),(8,.mp J.length 0)]/\g=J++[.cells z5 bf]) ?_ ?_;exact wx u5;rintro e g ⟨rfl,hg⟩;have gl:g.length=J.length+1:=by rw[hg];simp
  refine eu (λe g2=>e=[(0,.mp kn 0),(1,v),(3,lv),(8,.mp J.length 0),(9,.mp (J.length+1) 0)]/\g2=g++[.cells p.cells bf]) ?_ ?_;have s1:=zy g p;rw[gl] at s1;exact lU @e1 @e2 @gl @s1 tt;rintro e g2 ⟨rfl,iJ⟩;have LQ:g2.length=J.length+2:=by rw[iJ];simp;omega
  refine eu (λe h0=>e=[(0,.mp kn 0),(1,v),(3,lv),(8,.mp J.length 0),(9,.mp (J.length+1) 0),(10,.mp (J.length+2) 0)]/\fZ kn z J p.cells N h0) ?_ ?_;have jI:=Cn (kC.z5 N) g2;have f5:dJ [.bp,.bp,.bp,.bp,.v (.bool bf)] []=a_ z5:=rfl;unfold z5 at jI f5;rw[LQ] at jI;refine gC @f5 @LQ @jI ?_;refine⟨trivial,?_⟩;show fZ kn z J p.cells N (g2++[.cells z5 bf]);subst hg;subst iJ;refine⟨((hX.app).app).app,((pn.app.trans pn.app).trans pn.app),af,af,?_,cQ⟩;have:=kB.new (N:=N) (h:=J++[bw z5 bf]++[bw p.cells bf]) (kC.z5 N);rw[LQ] at this;exact this;rintro e h0 ⟨rfl,s⟩;have fin:∀{M:Nat},M=cnt ps (i:Int)->∀h',HP kn z J (N+M) h'->@JT [(.c 8 bh 5)] ⟨acg kn z J (N+cnt ps (i:Int))⟩ ⟨λ_ _=>False⟩ .ret [(8,.mp J.length 0)] h':=by
   rintro M rfl h' ⟨Z,q1,bt,bS,fk⟩;refine dK (zm q1 bt.one.1) ?_;exact⟨Z,rfl,bt,bS,fk⟩
  obtain⟨d0,d1,d2,d3,d4⟩:=qT s.p;by_cases k1:p.kind=1;rw[if_pos k1] at T;exact ay6 BX fX DX kS s k1 aa (fin T.symm);rw[if_neg k1] at T;have bR:(p.kind==1)=bf:=by simpa using k1
  refine iP (λe h'=>e=[(0,.mp kn 0),(1,v),(3,lv),(8,.mp J.length 0),(9,.mp (J.length+1) 0),(10,.mp (J.length+2) 0)]/\h'=h0) ?_ ?_;exact wx tt;rintro e Y ⟨rfl,rfl⟩;by_cases gK:p.kind=3;rw[if_neg aa,E7] at T;exact azZ s gK pR e6 S aa (fin T.symm);have Xo:(p.kind==3)=bf:=by simpa using gK
  refine iP (λe h'=>e=[(0,.mp kn 0),(1,v),(3,lv),(8,.mp J.length 0),(9,.mp (J.length+1) 0),(10,.mp (J.length+2) 0)]/\h'=Y) ?_ ?_;exact wx tt;rintro e V ⟨rfl,rfl⟩;by_cases k2:p.kind=2;rw[if_neg aa,E7] at T;exact azy s k2 pR e6 S aa (fin T.symm);have ahr:(p.kind==2)=bf:=by simpa using k2
  have hz:p.kind=4/\p.kids.length=1/\HL p.low p.high:=by
   rcases lO.1 with q|q|q
   omega;omega;exact q
  obtain⟨x,y5⟩:=E6.1 hz.2.1;rw[if_pos hz.1,y5] at T;simp only[fG,lu,zQ,HJ,vc] at T;obtain⟨_,ho,fv,ev,em,rfl,hf,he⟩:=s.o;obtain⟨t0,t1,t2,t3,t4⟩:=qW ho (w:=.v (.bool bh)) rfl;obtain⟨s1,o1⟩:=s.put s.o (cj _) (Z:=[.bp,.bp,fv,ev,.v (.bool bh)]) ⟨_,_,_,rfl,hf,he⟩;refine iP (λe h'=>e=[(0,.mp kn 0),(1,v),(3,lv),(8,.mp J.length 0),(9,.mp (J.length+1) 0),(10,.mp (J.length+2) 0)]/\fZ kn z J p.cells N h') ?_ ?_;refine dK @t4 ?_;exact⟨trivial,s1⟩;rintro e h3 ⟨rfl,eU⟩;obtain⟨d0,d1,d2,d3,d4⟩:=qT eU.p;refine iP (λe h'=>e=[(0,.mp kn 0),(1,v),(3,lv),(8,.mp J.length 0),(9,.mp (J.length+1) 0),(10,.mp (J.length+2) 0)]/\h'=h3) ?_ ?_;exact wx tt;rintro e h4 ⟨rfl,rfl⟩;exact az0 eU hz.2.2 y5 rfl (S x (by rw[y5];simp)) aa (fin T.symm)
def aCR(h:yx n0 v ps)(oU:n0<=100000000)(BX:cC lv (rows.map dG))(fX:eM lv)(DX:∀x∈rows,wW x)(kS:rows.length<=1000000000)(DO:ps≠[]->cnt ps ((ps.length-1:Nat):Int)<=256/\sz ps ((ps.length-1:Nat):Int)<=1000000000):dM G bC 106 [v,lv] KM:=by
 refine ek (ay5.go ?_);have vW:=h.len;have ln:=h.v.cH;rw[cM] at ln;have lQ:∀J,cH v J=a_ (.v (.int .i64 (ps.length:Int)),J):=λJ=>aJT
 have qc:kC 0 [.bp,.bp,.bp,.bp,.v (.bool bh)]:=⟨_,_,_,rfl,E4 _,E4 _⟩;have f5:dJ [.bp,.bp,.bp,.bp,.v (.bool bf)] [(4,1,.v (.bool bh))]=a_ [.bp,.bp,.bp,.bp,.v (.bool bh)]:=rfl;refine eu (λe g=>e=[(0,v),(1,lv),(4,.mp 0 0)]/\g=[.cells z5 bf]) ?_ ?_;exact wx u5;rintro e g ⟨rfl,hg⟩;have gl:g.length=1:=by rw[hg];rfl
 refine eu (λe g2=>e=[(0,v),(1,lv),(4,.mp 0 0),(5,.mp 1 0)]/\g2=[.cells z5 bf]++[.cells [.bp,.bp,.bp,.bp,.v (.bool bh)] bf]) ?_ ?_;have jI:=Cn qc g;unfold z5 at jI;rw[gl] at jI;refine jw @f5 @gl @jI ?_;exact⟨trivial,by rw[hg]⟩;rintro e g2 ⟨rfl,iJ⟩;have agH:ud 1 [.bp,.bp,.v (.bool bh)] 0 .bp .bp g2:=by
  rw[iJ];exact⟨rfl,⟨[],bE ⟨rfl,rfl⟩,rfl,af⟩,⟨[],rfl,af,bE ⟨rfl,rfl⟩⟩⟩
 have g0:g2[0]?=a_ (.cells z5 bf):=aLl
 have g1:g2[1]?=a_ (.cells [.bp,.bp,.bp,.bp,.v (.bool bh)] bf):=aLl
 rcases CV ps.length with hz|hz
 have b_:((ps.length:Int)==0)=bh:=aLK
 have iM:=NK qc g0 rfl;have q0:(g2.set 0 (.cells [.bp,.bp,.bp,.bp,.v (.bool bh)] bf))[0]?=a_ (.cells [.bp,.bp,.bp,.bp,.v (.bool bh)] bf):=bU (cL.1 g0).1;refine pW @lQ @b_ (zm g1 rfl) @iM (zm q0 rfl) ?_;exact alT agH aa (E4 _) (E4 _) λj Z q=>by rw[bD (by rintro rfl;rw[g0] at q;simp at q)];exact q
 have b_:((ps.length:Int)==0)=bf:=beq_eq_false_iff_ne.2 aa;have bR:ps≠[]:=by rintro rfl;simp at hz
 obtain⟨AH,axj⟩:=DO bR;have w1:de.wrap ((ps.length:Int)-1)=((ps.length-1:Nat):Int):=by rw[fO aa aa];omega
 refine gC @lQ @b_ @w1 ?_;refine ck (arb (G:=G) h oU BX fX DX kS _ (ps.length-1) (CW _) aa axj 0 g2 ⟨_,_,agH⟩ aa) ?_;rw[gk];rintro _ g3 ⟨Z,rfl,jb,hn,hL⟩;have jI:=Cn jb g3;unfold z5 at jI;have bV:(g3++[bw Z bf])[0]?=a_ (.cells z5 bf):=bT (hL.Ai 0 _ ag g0);have oT:r6 1 [.bp,.bp,.v (.bool bh)] (cnt ps ((ps.length-1:Nat):Int)) (g3++[bw Z bf]):=hn.app;have rx:(g3++[bw Z bf])[g3.length]?=a_ (.cells Z bf):=af
 have kO:2<=g3.length:=by have:=hL.len;rw[iJ] at this;simpa using this
 obtain⟨xf,gY,lV,rfl,qS,oW⟩:=jb;refine wx ?_;generalize g3.length=m at rx kO⊢;generalize g3++[bw [.bp,.bp,xf,gY,.v (.bool lV)] bf]=X at bV oT rx⊢;generalize cnt ps ((ps.length-1:Nat):Int)=M at*;obtain⟨bx,bv,hX⟩:=oT;have O:=hX.b;have aC_:cr bx=bh:=by
  obtain⟨xs,hA,_⟩:=hX.on
  rcases hA with⟨q,_⟩|⟨_,q,_⟩<;>rw[q]<;>rfl
 have step:∀(X:List br) (a c d:bg) (b:Bool),X[1]?=a_ (.cells [bx,bv,c,d,.v (.bool b)] bf)->X[0]?=a_ (.cells z5 bf)->X[m]?=a_ (.cells [.bp,.bp,xf,gY,.v (.bool lV)] bf)->(∀(j:Nat) Z,X[j]?=a_ (.cells Z bh)->X[j]?=a_ (.cells Z bh))->∀(c' d':bg) (b':Bool),
   (X.set 1 (.cells [bx,bv,c',d',.v (.bool b')] bf))[1]?=a_ (.cells [bx,bv,c',d',.v (.bool b')] bf)/\(X.set 1 (.cells [bx,bv,c',d',.v (.bool b')] bf))[0]?=a_ (.cells z5 bf)/\(X.set 1 (.cells [bx,bv,c',d',.v (.bool b')] bf))[m]?=a_ (.cells [.bp,.bp,xf,gY,.v (.bool lV)] bf)/\(∀(j:Nat) Z,X[j]?=a_ (.cells Z bh)->(X.set 1 (.cells [bx,bv,c',d',.v (.bool b')] bf))[j]?=a_ (.cells Z bh)):=λX a c d b Y h0 hm _ c' d' b'=>
  ⟨bU (cL.1 Y).1,by rw[bD aa];exact h0,by rw[bD aa];exact hm,λj Z q=>aKi⟩
 obtain⟨rV,u1,u2,u3,u4⟩:=qW O qS.one;obtain⟨a1,a0,am,yH⟩:=step X bx _ _ _ O bV rx (λ_ _ q=>q) xf .bp bh;refine wx ?_;generalize X.set 1 (.cells [bx,bv,xf,.bp,.v (.bool bh)] bf)=acN at a1 a0 am yH⊢;obtain⟨rV,u1,u2,u3,u4⟩:=qW a1 oW.one;obtain⟨b1,b0,bm,bk⟩:=step acN bx _ _ _ a1 a0 am (λ_ _ q=>q) xf gY bh;refine wx ?_;generalize acN.set 1 (.cells [bx,bv,xf,gY,.v (.bool bh)] bf)=yF at b1 b0 bm bk⊢;obtain⟨rV,u1,u2,u3,u4⟩:=qW b1 (w:=.v (.bool lV)) rfl;obtain⟨c1,c0,vz,PU⟩:=step yF bx _ _ _ b1 b0 bm (λ_ _ q=>q) xf gY lV;refine wx ?_;generalize yF.set 1 (.cells [bx,bv,xf,gY,.v (.bool lV)] bf)=aqK at c1 c0 vz PU⊢;unfold z5 at c0;have Ty:=Nn (a':=bx) (b':=bv) (c':=xf) (d':=gY) (e':=.v (.bool lV)) c0 (by simp only[pY,sY,aC_,hX.cu.one,qS.one,oW.one];rfl);have v0:(aqK.set 0 (.cells [bx,bv,xf,gY,.v (.bool lV)] bf))[0]?=a_ (.cells [bx,bv,xf,gY,.v (.bool lV)] bf):=bU (cL.1 c0).1;refine wx ?_;exact alT hX AH qS oW λj Z q=>by
  have bS:=PU _ _ (bk _ _ (yH _ _ q));rw[bD (by rintro rfl;rw[c0] at bS;simp at bS)];exact bS
end
end
section
variable{c:bg}{k n:Nat}{Z:List bg}{g:List br}
def yD(N:Nat)(c:bg):Prop:=∃l,qD c l/\l.length<=70000/\∀x∈l,(0:Int)<=x/\x<(N:Int)
def yD.one{N:Nat}(h:yD N c):cr c=bh:=by obtain⟨l,q,_⟩:=h;exact q.one
@[go_sem]def aai{xs:List bg}{t:ob}{i:Nat}(h:xs[i]?=a_ c)(Y:cr c=bh):ct 1 (.sl xs t) (.v (.int .i64 (i:Int)))=a_ (.fp [c] 0):=by
 have:=lD (n:=1) (t:=t) (k:=.i64) h (by rw[rj Y];rfl);rw[rj Y] at this;exact this
section
variable{h:List br}{k:Nat}{a b c:bg}
@[go_sem]def GL(O:h[k]?=a_ (.cells [a,b,c] bf)):bz h bf 1 (.mp k 0)=a_ a/\bz h bf 1 (.mp k 1)=a_ b/\bz h bf 1 (.mp k 2)=a_ c/\bz h bh 3 (.mp k 0)=a_ (.agg [a,b,c]):=by
 simp only[bz,O];exact⟨rfl,rfl,rfl,rfl⟩
end
@[go_sem]def Ag(S:g[k]?=a_ (.cells Z bf))(h0:Z.length=n):bz g bh n (.mp k 0)=a_ (.agg Z):=by
 simp only[bz,S];unfold e_;rw[if_pos rfl,if_pos aa,o9,mA aa]
@[go_sem]def ur{cs0:List bg}(S:g[k]?=a_ (.cells cs0 bf))(h0:cs0.length=n)(Y:Z.length=n)(V:Z.all cr=bh):bL g n (.mp k 0) (.agg Z)=a_ (g.set k (.cells Z bf)):=by
 simp only[bL,S,fq];have eS:(dG Z).cells=Z:=rfl;rw[eS,if_pos ⟨Y,aa,V⟩];unfold dV;rw[oG,gN,sZ aa,gd]
section
variable{G:Cells}{N kt:Nat}{sv bB bA w:bg}{b5:List bg}{t:ob}{J:List br}
def atT(O:J[kt]?=a_ (.cells [.sl b5 t,bB,bA] bf))(hs:∀c∈b5,yD N c)(hl1:1<=b5.length)(gS:b5.length<=1000)(hw:yD N w):cq G bC 181 [.mp kt 0,w] J λr bl=>bl=J/\∃n:Int,r=.v (.int .i64 n)/\ -1<=n/\n<(b5.length:Int):=by
 refine azs.go ?_;obtain⟨wl,w1,w2,w3⟩:=hw;obtain⟨w',wi,ws⟩:=w1.imp;refine wy ?_;refine dj (λi e h=>e=[(0,.mp kt 0),(1,w),(5,.v (.int .i64 ((i+1:Nat):Int)))]/\h=J) (b5.length-1) ⟨rfl,rfl⟩ ?_ ?_;rintro i e h Q ⟨rfl,rfl⟩;obtain⟨c,T⟩:∃c,b5[i+1]?=a_ c:=⟨b5[i+1]' aa,cz _⟩;have jb:=hs c (cG T);have cE:=aai (t:=t) T jb.one;obtain⟨cB,c1,c2,c3⟩:=jb;obtain⟨c',ci,Z⟩:=c1.imp;refine wy ?_;refine ei (aEJ Z ws aa aa) ?_;rintro r ⟨b,rfl⟩;cases b with
 |false=>
  exact wx tt
 |true=>
  refine wx ?_;exact⟨trivial,_,rfl,aa,aa⟩
 rintro e h ⟨rfl,rfl⟩;refine wx ?_;exact⟨trivial,_,rfl,aa,aa⟩
structure Flags(N k:Nat)(bs:List bg)(h:List br):Prop where
 b:h[k]?=a_ (.cells bs bh)
 len:bs.length=N
 ok:∀c∈bs,∃b:Bool,c=.v (.bool b)
section
variable{k p:Nat}{bs:List bg}{h:List br}
@[go_sem]def IA(J:p<N):ct 1 (.rs k N 1 0 N) (.v (.int .i64 (p:Int)))=a_ (.rp k N p):=by
 have:=SQ (k:=k) (m:=N) (n:=1) (len:=N) (j:=p) J;rw[Nat.mul_one] at this;exact this
def Flags.fA(s:Flags N k bs h)(J:p<N):∃b:Bool,bs[p]?=a_ (.v (.bool b))/\bz h bf 1 (.rp k N p)=a_ (.v (.bool b)):=by
 have hl:=s.len;obtain⟨c,T⟩:∃c,bs[p]?=a_ c:=⟨bs[p]' aa,cz _⟩;obtain⟨b,rfl⟩:=s.ok c (cG T);refine⟨b,T,?_⟩;simp only[bz,s.b,s.len,if_true,e_];rw[if_neg af];exact T
def Flags.st(s:Flags N k bs h)(J:p<N):bL h 1 (.rp k N p) (.v (.bool bh))=a_ (h.set k (.cells (bs.set p (.v (.bool bh))) bh))/\Flags N k (bs.set p (.v (.bool bh))) (h.set k (.cells (bs.set p (.v (.bool bh))) bh)):=by
 have hl:=s.len;have S:=gl s.b;refine⟨?_,bU S,by rw[wG];exact s.len,λc T=>?_⟩;have eS:(cI (.bool bh)).cells=[.v (.bool bh)]:=rfl;simp only[bL,s.b,s.len,if_true,fq,eS];rw[if_pos ⟨rfl,aa,rfl⟩,NR aa]
 rcases T3 T with q|rfl
 exact s.ok c q;exact⟨bh,rfl⟩
end
def aqh(B:Nat)(h:List br)(c:bg)(xs:List bg):Prop:=(c=.bp/\xs=[])\/∃id,c=.sl xs (.tok id)/\B<=id/\h[id]?=a_ (.tok xs.length 1 3)
structure yz(B N M:Nat)(fL:List bg)(h:List br):Prop where
 len:fL.length=32
 row:∀(s:Nat) c,fL[s]?=a_ c->∃l:List Int,aqh B h c (l.map bq)/\l.length<=M/\∀x∈l,(0:Int)<=x/\x<(N:Int)
 one:∀(s s' id:Nat) xs xs',fL[s]?=a_ (.sl xs (.tok id))->fL[s']?=a_ (.sl xs' (.tok id))->s=s'
section
variable{B M M' s:Nat}{fL:List bg}{h h':List br}{c:bg}
def yz.keep(q:yz B N M fL h)(hM:M<=M')(S:∀(j c:Nat),h[j]?=a_ (.tok c 1 3)->h'[j]?=a_ (.tok c 1 3)):yz B N M' fL h':=by
 refine⟨q.len,λs c T=>?_,q.one⟩;obtain⟨l,Y,V,h3⟩:=q.row s c T;refine⟨l,Y.elim bE ?_,aa,h3⟩;rintro⟨id,e1,eb,e2⟩;exact bF ⟨id,e1,eb,S _ _ e2⟩
def yz.push(q:yz B N M fL h)(T:fL[s]?=a_ c)(hB:B<=h.length)(hM:M<=100000){p:Nat}(J:p<N):∃cl g,ef h 1 8 3 c (.sl [.v (.int .i64 (p:Int))] .exact)=a_ (cl,g)/\cr cl=bh/\yz B N (M+1) (fL.set s cl) g/\h.length<=g.length/\(∀(j:Nat) Z fz,h[j]?=a_ (.cells Z fz)->g[j]?=a_ (.cells Z fz))/\∀(j:Nat) b,h[j]?=a_ b->(∀xs,c≠.sl xs (.tok j))->g[j]?=a_ b:=by
 obtain⟨l,Y,V,h3⟩:=q.row s c T;have vY:=gl T;have I:=GU l;have hy:cZ 1 [cI (.int .i64 (p:Int))]=bh:=rfl;have Wj:∀x∈l++[(p:Int)],(0:Int)<=x/\x<(N:Int):=λx I=>by
  rcases gj.1 I with y|y
  exact h3 x y;rw[dP.1 y];omega
 rcases Y with⟨rfl,e⟩|⟨id,rfl,avi,hid⟩
 have:l=[]:=TZ.1 e;subst this;refine⟨.sl ([]++[.v (.int .i64 (p:Int))]) (.tok h.length),h++[.tok 1 1 3],?_,rfl,⟨by rw[wG];exact q.len,λs' c' jl=>?_,λs1 s2 id xs xs' k1 k2=>?_⟩,af,λj Z fz k=>bT k,λj b k _=>bT k⟩;simp[ef,gG,iy,ij,hy];by_cases D8:s=s';subst D8;rw[bU vY] at jl;cases jl;exact⟨[]++[(p:Int)],bF ⟨h.length,rfl,hB,af⟩,af,Wj⟩;rw[bD D8] at jl;obtain⟨l',r1,r2,iu⟩:=q.row s' c' jl;refine⟨l',r1.elim bE ?_,aa,iu⟩;rintro⟨id,e1,eb,e2⟩;exact bF ⟨id,e1,eb,bT e2⟩;have old:∀{s':Nat} {ys:List bg},s≠s'->fL[s']?=a_ (.sl ys (.tok id))->id<h.length:=λ{s' ys} _ k=>by
  obtain⟨l',r1,_⟩:=q.row s' _ k
  rcases r1 with⟨r,_⟩|⟨nP,r,_,r2⟩
  cases r;cases r;exact gl r2
 by_cases a1:s=s1<;>by_cases a2:s=s2;omega;subst a1;rw[bU vY] at k1;rw[bD a2] at k2;cases k1;have:=old a2 k2;omega;subst a2;rw[bU vY] at k2;rw[bD a1] at k1;cases k2;have:=old a1 k1;omega;rw[bD a1] at k1;rw[bD a2] at k2;exact q.one s1 s2 id _ _ k1 k2;have hl:id<h.length:=gl hid;rw[cM] at hid;have hfit:(l.length+1)*8<=140737488355328:=aa
 refine⟨.sl (l.map bq++[.v (.int .i64 (p:Int))]) (.tok id),h.set id (.tok (l.length+1) 1 3),?_,rfl,⟨by rw[wG];exact q.len,λs' c' jl=>?_,λs1 s2 nP xs xs' k1 k2=>?_⟩,af,λj Z fz k=>by rw[bD (by rintro rfl;rw[hid] at k;cases k)];exact k,λj b k bR=>by
  rw[bD (by rintro rfl;exact bR _ rfl)];exact k⟩
 simp[ef,gG,iy,ij,hy,hfit,I,hid];by_cases D8:s=s';subst D8;rw[bU vY] at jl;cases jl;exact⟨l++[(p:Int)],bF ⟨id,by simp[bq],avi,aJ9⟩,ah,Wj⟩;rw[bD D8] at jl;obtain⟨l',r1,r2,iu⟩:=q.row s' c' jl;refine⟨l',r1.elim bE ?_,aa,iu⟩;rintro⟨nP,e1,eb,e2⟩;refine bF ⟨nP,e1,eb,?_⟩;rw[bD (by rintro rfl;subst e1;exact D8 (q.one s s' _ _ _ T jl))];exact e2;by_cases a1:s=s1<;>by_cases a2:s=s2;omega;subst a1;rw[bU vY] at k1;rw[bD a2] at k2;cases k1;exact q.one _ _ _ _ _ T k2;subst a2;rw[bU vY] at k2;rw[bD a1] at k1;cases k2;exact q.one _ _ _ _ _ k1 T;rw[bD a1] at k1;rw[bD a2] at k2;exact q.one s1 s2 nP _ _ k1 k2
def yz.set(q:yz B N M fL h)(T:fL[s]?=a_ c)(hM:M<=70000):yD N c:=by
 obtain⟨l,Y,V,h3⟩:=q.row s c T;refine⟨l,?_,aa,h3⟩
 rcases Y with⟨rfl,e⟩|⟨id,rfl,_⟩
 exact bE ⟨rfl,TZ.1 e⟩;exact bF ⟨_,rfl⟩
end
end
end
section
variable{M N m:Nat}{dY fL:List bg}{h J:List br}
structure yt(N:Nat)(J:List br)(dY:List bg)(h:List br):Prop where
 n:h[J.length]?=a_ (.cells dY bf)
 r:h[J.length+1]?=a_ (.cells (fo 32 .bp) bf)
 m:∃bs,Flags N (J.length+2) bs h
 x:Ext J h
section
variable{N p:Nat}{J h:List br}{dY:List bg}
def yt.st(s:yt N J dY h)(Gg:p<N):∃h',bL h 1 (.rp (J.length+2) N p) (.v (.bool bh))=a_ h'/\yt N J dY h':=by
 obtain⟨bs,q⟩:=s.m;obtain⟨a1,a2⟩:=q.st Gg;refine⟨_,a1,by rw[bD aa];exact s.n,by rw[bD aa];exact s.r,⟨_,a2⟩,λj b k=>?_⟩;have:=gl k;rw[bD aa];exact s.x j b k
end
structure yq(N M:Nat)(J:List br)(dY fL:List bg)(m:Nat)(h:List br):Prop where
 s:yt N J dY h
 o:h[m]?=a_ (.cells fL bf)
 q:yz J.length N M fL h
 Dm:J.length+3<=m
def yz.aCW{B:Nat}(q:yz B N M fL h):fL.all cr=bh:=by
 rw[eP];intro c T;obtain⟨s,hs⟩:=OO.1 T;obtain⟨l,Y,_⟩:=q.row s c hs
 rcases Y with⟨rfl,_⟩|⟨_,rfl,_⟩<;>rfl
def yq.mono{M':Nat}(z:yq N M J dY fL m h)(hM:M<=M'):yq N M' J dY fL m h:=⟨z.s,z.o,z.q.keep hM λ_ _ k=>k,z.Dm⟩
def adw{h':List br}{n:Nat}{p v:bg}(e:bL h n p v=a_ h'):h'.length=h.length:=by
 unfold bL at e;split at e;split at e;unfold fq at e;split at e;cases e;simp;cases e;cases e;split at e;split at e;unfold fq at e;split at e;cases e;simp;cases e;cases e;cases e;cases e
def yq.push{s:Nat}{c:bg}(z:yq N M J dY fL m h)(T:fL[s]?=a_ c)(hM:M<=100000){p:Nat}(bl:p<N):∃cl g h',ef h 1 8 3 c (.sl [.v (.int .i64 (p:Int))] .exact)=a_ (cl,g)/\bL g 1 (.mp m s) cl=a_ h'/\yq N (M+1) J dY (fL.set s cl) m h'/\∀bs,h[J.length+2]?=a_ (.cells bs bh)->h'[J.length+2]?=a_ (.cells bs bh):=by
 obtain⟨cl,g,e1,e2,dr,eS,nJ,yS⟩:=z.q.push T z.s.x.len hM bl;have qp:=nJ _ _ _ z.o;have nN:=gl qp;have vY:=gl T;have L7:=z.Dm;have c1:=rj e2;have st:bL g 1 (.mp m s) cl=a_ (g.set m (.cells (fL.set s cl) bf)):=by
  simp only[bL,qp,fq,c1];rw[if_pos ⟨rfl,aa,by simp[e2]⟩,NR vY]
 refine⟨cl,g,_,e1,st,⟨⟨?_,?_,?_,?_⟩,bU nN,dr.keep (cj _) λj c k=>by rw[bD (by rintro rfl;rw[qp] at k;cases k)];exact k,z.Dm⟩,λbs k=>by rw[bD aa];exact nJ _ _ _ k⟩;rw[bD aa];exact nJ _ _ _ z.s.n;rw[bD aa];exact nJ _ _ _ z.s.r;obtain⟨bs,q⟩:=z.s.m;exact⟨bs,by rw[bD aa];exact nJ _ _ _ q.b,q.len,q.ok⟩;intro j b k;have hj:=gl k;rw[bD aa];refine yS _ _ (z.s.x j b k) λxs e=>?_;obtain⟨l,Y,_⟩:=z.q.row s c T
 rcases Y with⟨Y,_⟩|⟨id,Y,hB,V⟩
 rw[Y] at e;cases e;rw[Y] at e;cases e;omega
section
variable{G:Cells}{N kt:Nat}{bx bv f e bB bA:bg}{b:Bool}{b5 xs ys:List bg}{t:ob}{J:List br}
def arR(O:J[kt]?=a_ (.cells [.sl b5 t,bB,bA] bf))(hs:∀c∈b5,yD N c)(gS:b5.length<=1000){cw:Nat}(jO:cw<b5.length)
  (hN:N<=256) (Y:cC bx xs) (V:xs.length=N) (h3:∀x∈xs,Fg x) (h4:cC bv (ys.map λy=>.agg [y])) (h5:ys.length=N) (h6:∀y∈ys,yB N y) (h7:yB N f):
  cq G bC 180 [.mp kt 0,.agg [bx,bv,f,e,.v (.bool b)],.v (.int .i64 (cw:Int))] J λr bl=>Ext J bl/\∃Z,r=.agg Z/\Z.length=32/\∀c∈Z,yD N c:=by
 refine azr.go ?_;obtain⟨dY,D1⟩:∃dY:List bg,dY=[bx,bv,f,e,.v (.bool b)]:=⟨_,rfl⟩;have alh:∀g,cH bx g=a_ (.v (.int .i64 (N:Int)),g):=λg=>by rw[Y.cH,k7,V]
 refine eu (λe' g=>e'=[(0,.mp kt 0),(2,.v (.int .i64 (cw:Int))),(4,.mp J.length 0),(6,.mp (J.length+1) 0)]/\g=J++[.cells dY bf]++[.cells (fo 32 .bp) bf]) ?_ ?_;refine iB @ec.{0} ?_;exact⟨trivial,rfl⟩;rintro e' g ⟨rfl,hg⟩;have gl:g.length=J.length+2:=by rw[hg];simp
 have gn:g[J.length]?=a_ (.cells dY bf):=by rw[hg];simp
 refine eu (λe' g=>e'=[(0,.mp kt 0),(2,.v (.int .i64 (cw:Int))),(4,.mp J.length 0),(6,.mp (J.length+1) 0),(7,.rs (J.length+2) N 1 0 N)]/\yt N J dY g/\g.length=J.length+3) ?_ ?_;have lo:bz g bf 1 (.mp J.length 0)=a_ bx:=by rw[D1] at gn;exact(jJ gn).1
 have m1:De g 1 1 [.v (.bool bf)] (.v (.int .i64 (N:Int))) (.v (.int .i64 (N:Int)))=a_ (.rs (J.length+2) N 1 0 N,g++[.cells (fo N (.v (.bool bf))) bh]):=by
  unfold De;dsimp only;rw[if_pos ⟨aa,aa,aa,aa,rfl,ag⟩,gl];simp
 refine jw @lo @alh @m1 ?_;refine⟨trivial,⟨bT gn,bT (by rw[hg];simp),⟨fo N (.v (.bool bf)),by rw[<-gl];simp,af,λc T=>⟨bf,(ap4.1 T).2⟩⟩,?_⟩,by simp[gl]⟩;rw[hg];exact(lX.pG).pG;rintro e' g1 ⟨rfl,s1,agl⟩;refine eu (λe' g=>e'=[(0,.mp kt 0),(2,.v (.int .i64 (cw:Int))),(4,.mp J.length 0),(6,.mp (J.length+1) 0),(7,.rs (J.length+2) N 1 0 N)]/\yt N J dY g/\g.length=J.length+3) ?_ ?_;refine wy ?_;obtain⟨fl,f1,f2⟩:=h7;have vM:=f2.len;have Qk:=(zv f1)
 rcases CV cw with hz|hz
 have b_:((cw:Int)==0)=bh:=aLK
 refine dj (λi e' g=>e'=[(0,.mp kt 0),(2,.v (.int .i64 (cw:Int))),(4,.mp J.length 0),(6,.mp (J.length+1) 0),(7,.rs (J.length+2) N 1 0 N),(8,bq i)]/\yt N J dY g/\g.length=J.length+3) fl.length ⟨rfl,s1,agl⟩ ?_ ?_;rintro i e' g Q ⟨rfl,s,gl⟩;obtain⟨x,I⟩:=dQ Q;obtain⟨x0,x1⟩:=f2.2 x (cG I);obtain⟨p,rfl⟩:=o8 x0;have cg:bz g bf 1 (.mp J.length 2)=a_ f:=aKI
 have Gg:p<N:=aa
 obtain⟨g',t1,t2⟩:=s.st Gg;have qg:g'.length=J.length+3:=by rw[<-gl];exact adw t1
 simp -failIfUnchanged -implicitDefEqProofs (disch:=first|assumption|decide|omega) only[jH,oD,oE,↓reduceIte,wK,ve,wL,wM,q5,Bs,Bt,bq,b_,mI,cg,Qk.len,Qk.cE I,xq,IA Gg,t1];exact⟨trivial,t2,qg⟩;rintro e' g ⟨rfl,s,gl⟩;have cg:bz g bf 1 (.mp J.length 2)=a_ f:=aKI
 refine gC @bq.eq_1 @b_ @cg ?_;exact⟨trivial,s,gl⟩;have b_:((cw:Int)==0)=bf:=ah
 refine dj (λi e' g=>e'=[(0,.mp kt 0),(2,.v (.int .i64 (cw:Int))),(4,.mp J.length 0),(6,.mp (J.length+1) 0),(7,.rs (J.length+2) N 1 0 N),(8,bq i)]/\yt N J dY g/\g.length=J.length+3) 0 ⟨rfl,s1,agl⟩ ?_ ?_;rintro i e' g Q;omega;rintro e' g ⟨rfl,s,gl⟩;refine hO @bq.eq_1 @b_ ?_;exact⟨trivial,s,gl⟩;rintro e' g2 ⟨rfl,s2,LQ⟩;obtain⟨c0,DM⟩:=dQ jO;have IT:=hs c0 (cG DM);have axP:=aai (t:=t) DM IT.one;obtain⟨cB,aHU,aHV,lF⟩:=IT;refine eu (λe' g=>e'=[(4,.mp J.length 0),(6,.mp (J.length+1) 0),(7,.rs (J.length+2) N 1 0 N)]/\yt N J dY g/\g.length=J.length+3) ?_ ?_;refine wy ?_;refine dj (λi e' g=>e'=[(0,.mp kt 0),(2,.v (.int .i64 (cw:Int))),(4,.mp J.length 0),(6,.mp (J.length+1) 0),(7,.rs (J.length+2) N 1 0 N),(9,bq i)]/\yt N J dY g/\g.length=J.length+3) cB.length ⟨rfl,s2,LQ⟩ ?_ ?_;rintro i e' g Q ⟨rfl,s,gl⟩;obtain⟨x,I⟩:=dQ Q;obtain⟨x0,x1⟩:=lF x (cG I);obtain⟨p,rfl⟩:=o8 x0;have lk:=s.x _ _ O;have cg:bz g bf 1 (.mp J.length 1)=a_ bv:=by have:=s.n;rw[D1] at this;exact(jJ this).2.1
 obtain⟨y,hy⟩:∃y,ys[p]?=a_ y:=⟨ys[p]' aa,cz _⟩;have nQ:ct 1 bv (.v (.int .i64 (p:Int)))=a_ (.fp [y] 0):=h4.cE (x:=.agg [y]) aS rfl;obtain⟨aa9,y1,fV⟩:=h6 y (cG hy);have apq:=(zv y1);have axF:=fV.len;refine nV ?_;refine dj (λj e' g=>e'=[(0,.mp kt 0),(2,.v (.int .i64 (cw:Int))),(4,.mp J.length 0),(6,.mp (J.length+1) 0),(7,.rs (J.length+2) N 1 0 N),(9,bq i),(10,y),(11,bq j)]/\yt N J dY g/\g.length=J.length+3) aa9.length ⟨rfl,s,gl⟩ ?_ ?_;rintro j e' g hj ⟨rfl,s,gl⟩;obtain⟨x',hx'⟩:∃x,aa9[j]?=a_ x:=⟨aa9[j],cz hj⟩;obtain⟨aHd,TG⟩:=fV.2 x' (cG hx');obtain⟨p',rfl⟩:=o8 aHd;have Gg:p'<N:=aa
 obtain⟨g',t1,t2⟩:=s.st Gg;have qg:g'.length=J.length+3:=by rw[<-gl];exact adw t1
 simp -failIfUnchanged -implicitDefEqProofs (disch:=first|assumption|decide|omega) only[jH,oD,oE,↓reduceIte,wK,ve,wL,wM,q5,Bs,Bt,bq,apq.len,apq.cE hx',xq,IA Gg,t1];exact⟨trivial,t2,qg⟩;rintro e' g ⟨rfl,s,gl⟩;refine dK @bq.eq_1 ?_;exact⟨trivial,s,gl⟩;rintro e' g ⟨rfl,s,gl⟩;have lk:=s.x _ _ O;refine hO @bq.eq_1 @axP ?_;exact⟨trivial,s,gl⟩;rintro e' g3 ⟨rfl,eU,We⟩;refine eu (λe' g=>e'=[(4,.mp J.length 0),(6,.mp (J.length+1) 0),(7,.rs (J.length+2) N 1 0 N),(12,.mp (J.length+3) 0)]/\∃fL,yq N 0 J dY fL (J.length+3) g) ?_ ?_;have aHj:(fo 32 bg.bp).all cr=bh:=rfl;have iX:=ur (n:=32) (g:=g3++[.cells (fo 32 .bp) bf]) (k:=g3.length) (Z:=fo 32 .bp) (cs0:=fo 32 .bp) af rfl rfl aHj;have e1:(g3++[bw (fo 32 .bp) bf]).set g3.length (.cells (fo 32 .bp) bf)=g3++[.cells (fo 32 .bp) bf]:=af
 have f1:dJ (fo 32 bg.bp) []=a_ (fo 32 .bp):=rfl;rw[e1,We] at iX;simp only[fo] at iX f1;refine hO @We @iX ?_;refine⟨trivial,fo 32 .bp,⟨bT eU.n,bT eU.r,?_,eU.x.pG⟩,?_,⟨rfl,λs c T=>?_,λs s' id xs xs' k1 _=>?_⟩,cj _⟩;obtain⟨bs,q⟩:=eU.m;exact⟨bs,bT q.b,q.len,q.ok⟩;rw[<-We];exact TX;have:=(ap4.1 (cG T)).2;subst this;exact⟨[],bE ⟨rfl,rfl⟩,js _,af⟩;have:=(ap4.1 (cG k1)).2;cases this;rintro e' g4 ⟨rfl,aC9,z4⟩;refine eu (λe' g=>e'=[(6,.mp (J.length+1) 0),(12,.mp (J.length+3) 0)]/\∃fL,yq N 70000 J dY fL (J.length+3) g) ?_ ?_;refine wy ?_;have aBD:∀g,cH (.rs (J.length+2) N 1 0 N) g=a_ (.v (.int .i64 (N:Int)),g):=λg=>rfl;refine dj (λi e' g=>e'=[(4,.mp J.length 0),(6,.mp (J.length+1) 0),(7,.rs (J.length+2) N 1 0 N),(12,.mp (J.length+3) 0),(13,bq i)]/\∃fL,yq N (i*256) J dY fL (J.length+3) g) N ⟨rfl,aC9,by rw[Nat.zero_mul];exact z4⟩ ?_ ?_;rintro i e' g Q ⟨rfl,fL,z⟩;obtain⟨x,I⟩:∃x,xs[i]?=a_ x:=⟨xs[i]' aa,cz _⟩;have rI:=h3 x (cG I);have ix:ct 1 bx (.v (.int .i64 (i:Int)))=a_ (.fp [x] 0):=by
  have:=Y.cE (n:=1) (k:=.i64) (x:=x) I (by rw[rj rI.one];rfl);rw[rj rI.one] at this;exact this
 obtain⟨aHh,x1,x2,x3⟩:=rI;have aa7:=(zv x1);obtain⟨bs,vM⟩:=z.s.m;obtain⟨fb,_,B9⟩:=vM.fA Q;have w1:de.wrap ((i:Int)+1)=((i+1:Nat):Int):=nx aa;refine rW ?_;refine dj (λj e' g=>e'=[(4,.mp J.length 0),(6,.mp (J.length+1) 0),(7,.rs (J.length+2) N 1 0 N),(12,.mp (J.length+3) 0),(13,bq i),(14,bq j)]/\bz g bf 1 (.rp (J.length+2) N i)=a_ (.v (.bool fb))/\∃fL,yq N (i*256+j) J dY fL (J.length+3) g) (if fb then aHh.length else 0) ⟨rfl,B9,fL,z.mono aa⟩ ?_ ?_;rintro j e' g hj ⟨rfl,B9,fL,z⟩;cases fb with
 |false=>simp at hj
 |true=>
  simp only[if_true] at hj;obtain⟨y,hy⟩:=dQ hj;obtain⟨y0,y1⟩:=x3 y (cG hy);obtain⟨s,rfl⟩:=o8 y0;have lo:bz g bf 1 (.mp J.length 0)=a_ bx:=aKN
  simp -failIfUnchanged -implicitDefEqProofs (disch:=first|assumption|decide|omega) only[jH,oD,oE,↓reduceIte,wK,ve,wL,wM,q5,Bs,Bt,bq,IA Q,B9,mI,lo,ix,xq,aa7.len,aa7.cE hy];refine dm (λq=>?_) λq=>?_;have aIT:s<32:=aq
  have BD:mZ 32 1 (.mp (J.length+3) 0) (.v (.int .i64 (s:Int)))=a_ (.mp (J.length+3) s):=by
   unfold mZ;dsimp only;rw[if_pos ⟨aa,aa⟩];simp[mI]
  have Rf:=z.q.len;obtain⟨c,T⟩:∃c,fL[s]?=a_ c:=⟨fL[s]' aa,cz _⟩;have lc:bz g bf 1 (.mp (J.length+3) s)=a_ c:=by
   simp only[bz,z.o,e_];rw[if_neg af];exact T
  obtain⟨cl,g',uz,t1,t2,t3,t4⟩:=z.push T aa Q;have aBr:bz uz bf 1 (.rp (J.length+2) N i)=a_ (.v (.bool bh)):=by
   obtain⟨bs,q1⟩:=z.s.m;have bt:=t4 bs q1.b;simp only[bz,q1.b] at B9;simp only[bz,bt];exact B9
  refine pW @q @BD @lc @t1 @t2 ?_;exact⟨rfl,aBr,_,t3.mono aa⟩;exact⟨rfl,B9,fL,z.mono aa⟩
 rintro e' g ⟨rfl,B9,fL,z⟩;have lo:bz g bf 1 (.mp J.length 0)=a_ bx:=aKN
 have wD:yq N ((i+1)*256) J dY fL (J.length+3) g:=z.mono (by split<;>omega);cases fb with
 |false=>
  simp -failIfUnchanged -implicitDefEqProofs (disch:=first|assumption|decide|omega) only[jH,oD,oE,↓reduceIte,wK,ve,wL,wM,q5,Bs,Bt,bq,IA Q,B9,w1];exact⟨trivial,fL,wD⟩
 |true=>
  simp only[if_true];simp -failIfUnchanged -implicitDefEqProofs (disch:=first|assumption|decide|omega) only[jH,oD,oE,↓reduceIte,wK,ve,wL,wM,q5,Bs,Bt,bq,IA Q,B9,mI,lo,ix,xq,aa7.len,w1];exact⟨trivial,fL,wD⟩
 rintro e' g ⟨rfl,fL,z⟩;refine hO @bq.eq_1 @aBD ?_;exact⟨trivial,fL,z.mono aa⟩;rintro e' g5 ⟨rfl,fL,z5⟩;have rl:=ur (n:=32) z5.s.r af z5.q.len z5.q.aCW;have rk:(g5.set (J.length+1) (.cells fL bf))[J.length+1]?=a_ (.cells fL bf):=bU (cL.1 z5.s.r).1;refine mw (Ag z5.o z5.q.len) (Ag rk z5.q.len) ?_;refine⟨λj b k=>?_,fL,rfl,z5.q.len,λc T=>?_⟩;have:=(cL.1 k).1;rw[bD aa];exact z5.s.x j b k;obtain⟨s,hs⟩:=OO.1 T;exact z5.q.set hs aa
end
end
section
variable{B N m n:Nat}{v:bg}{xs:List bg}{e:TypeId}{g:List br}
structure kD(N:Nat)(dY b5 fh rows:List bg)(sv bB bA:bg)(h:List br):Prop where
 n:h[0]?=a_ (.cells dY bf)
 r:h[1]?=a_ (.cells [.bp,.bp,.bp] bf)
 t:h[2]?=a_ (.cells [sv,bB,bA] bf)
 s:mG 0 h sv b5 1 195
 a:mG 0 h bA fh 1 4
 w:cT h bB rows 32 252
 sk:∀c∈b5,yD N c
 yH:∀c∈fh,∃b:Bool,c=.v (.bool b)
 rk:∀c∈rows,∃l:List Int,c=.agg (l.map bq)/\l.length=32
section
variable{N:Nat}{dY b5 fh rows:List bg}{sv bB bA:bg}{h h':List br}
def mG.ext(q:mG B h v xs n e)(S:∀(j:Nat) c,h[j]?=a_ (.tok c n e)->h'[j]?=a_ (.tok c n e)):mG B h' v xs n e:=by
 rcases q with q|⟨id,q1,bt,bS⟩
 exact bE q;exact bF ⟨id,q1,bt,S _ _ bS⟩
def mG.sl{B:Nat}{v:bg}{xs:List bg}{n:Nat}{e:TypeId}(q:mG B h v xs n e):∃t,v=.sl xs t:=by
 rcases q with q|⟨id,q1,_⟩
 exact⟨_,q⟩;exact⟨_,q1⟩
def mG.one(q:mG B h v xs n e):cr v=bh:=by
 obtain⟨t,rfl⟩:=q.sl;rfl
def kD.ext(z:kD N dY b5 fh rows sv bB bA h)(S:∀(j:Nat) b,h[j]?=a_ b->(∀Z,b≠.cells Z bf\/j<=2)->h'[j]?=a_ b):kD N dY b5 fh rows sv bB bA h':=by
 refine⟨S _ _ z.n λ_=>bF ag,S _ _ z.r λ_=>bF ag,S _ _ z.t λ_=>bF ag,z.s.ext λj c q=>S _ _ q λ_=>bE af,z.a.ext λj c q=>S _ _ q λ_=>bE af,?_,z.sk,z.yH,z.rk⟩
 rcases z.w with q|⟨id,q1,bt⟩
 exact bE q;exact bF ⟨id,q1,S _ _ bt λ_=>bE af⟩
def kD.app{x:List br}(z:kD N dY b5 fh rows sv bB bA h):kD N dY b5 fh rows sv bB bA (h++x):=z.ext λj b q _=>bT q
def kD.set(z:kD N dY b5 fh rows sv bB bA h)(hm:3<=m){Z cs':List bg}(S:h[m]?=a_ (.cells Z bf)):kD N dY b5 fh rows sv bB bA (h.set m (.cells cs' bf)):=z.ext λj b q O=>by
 rw[bD];exact q;rintro rfl;rw[S] at q;cases q
 rcases O Z with k|k
 exact k rfl;omega
def Uo(h h':List br):Prop:=h.length<=h'.length/\∀(j:Nat) Z,j≠2->h[j]?=a_ (.cells Z bf)->h'[j]?=a_ (.cells Z bf)
def kD.push(z:kD N dY b5 fh rows sv bB bA h){c:bg}(T:yD N c)(hl:b5.length<=1000):∃kz g g',ef h 1 24 195 sv (.sl [c] .exact)=a_ (kz,g)/\bL g 1 (.mp 2 0) kz=a_ g'/\kD N dY (b5++[c]) fh rows kz bB bA g'/\Uo h g':=by
 obtain⟨v,g,e1,e2,_,hA,O,q⟩:=afY (x:=c) (b9:=24) (o:=0) z.s (js _) z.t af (A9 λx I=>(z.sk x I).one) (A9 λx I=>by rw[dP.1 I];exact T.one) ag ag aa;exact⟨v,g,_,e1,e2,⟨q.cells z.n ag,q.cells z.r ag,O,hA,q.own z.t z.a ag,q.Dg z.t z.w ag,λx I=>(gj.1 I).elim (z.sk x) λq=>by rw[dP.1 q];exact T,z.yH,z.rk⟩,q.1,λj c hj O=>q.cells O hj⟩
def kD.aDv(z:kD N dY b5 fh rows sv bB bA h)(b:Bool)(hl:fh.length<=1000):∃K9 g g',ef h 1 1 4 bA (.sl [.v (.bool b)] .exact)=a_ (K9,g)/\bL g 1 (.mp 2 2) K9=a_ g'/\kD N dY b5 (fh++[.v (.bool b)]) rows sv bB K9 g'/\Uo h g':=by
 obtain⟨v,g,e1,e2,_,hA,O,q⟩:=afY (x:=.v (.bool b)) (b9:=1) (o:=2) z.a (js _) z.t af (A9 λx I=>by obtain⟨b,rfl⟩:=z.yH x I;rfl) rfl ag ag aa;exact⟨v,g,_,e1,e2,⟨q.cells z.n ag,q.cells z.r ag,O,q.own z.t z.s ag,hA,q.Dg z.t z.w ag,z.sk,λx I=>(gj.1 I).elim (z.yH x) λq=>⟨b,dP.1 q⟩,z.rk⟩,q.1,λj c hj O=>q.cells O hj⟩
@[go_sem]def Sl(l:List Int)(hl:l.length=32):cZ 32 [dG (l.map bq)]=bh:=by
 have:(l.map bq).all cr=bh:=by
  rw[eP];intro x I;obtain⟨n,_,rfl⟩:=eg.1 I;rfl
 simp only[cZ,pY,sY,jK,this,cM,hl];rfl
def kD.EA(z:kD N dY b5 fh rows sv bB bA h){l:List Int}(AR:l.length=32)(hl:rows.length<=1000):∃ku g g',ef h 32 256 252 bB (.sl [.agg (l.map bq)] .exact)=a_ (ku,g)/\bL g 1 (.mp 2 1) ku=a_ g'/\kD N dY b5 fh (rows++[.agg (l.map bq)]) sv ku bA g'/\Uo h g':=by
 have iA:cZ 32 rows=bh:=by
  rw[cZ,eP];intro x I;obtain⟨l,rfl,hl⟩:=z.rk x I;have:=Sl l hl;simpa[cZ] using this
 obtain⟨v,g,e1,e2,_,hA,O,q⟩:=LL (x:=.agg (l.map bq)) (b9:=256) (o:=1) z.w z.t af iA (Sl l AR) ag ag aa;exact⟨v,g,_,e1,e2,⟨q.cells z.n ag,q.cells z.r ag,O,q.own z.t z.s ag,q.own z.t z.a ag,hA,z.sk,z.yH,λx I=>(gj.1 I).elim (z.rk x) λq=>⟨l,dP.1 q,AR⟩⟩,q.1,λj c hj O=>q.cells O hj⟩
end
def acJ(r:bg):Prop:=∃(a b c:bg) (t:Bool),r=.bQ [.agg [a,b,c],.v (.bool t)]/\cr a=bh/\cr b=bh/\cr c=bh
def anS(J:List br):∀{Z:List bg},(∀c∈Z,yD N c)->∃ys,fm J Z ys
 |[],_=>⟨[],cX⟩
 |c::r,h=>by
  obtain⟨l,Y,_⟩:=h c af;obtain⟨v',q1,_⟩:=Y.fz J;obtain⟨ys,k1⟩:=anS J (Z:=r) λx I=>h x aA;exact⟨v'::ys,bG q1 k1⟩
def aF8{dY b5 fh rows:List bg}{sv bB bA:bg}{h:List br}(z:kD N dY b5 fh rows sv bB bA h)(b:Bool):∃n bV,di g n (.bQ [.agg [sv,bB,bA],.v (.bool b)])=a_ bV/\acJ bV:=by
 obtain⟨t1,rfl⟩:=z.s.sl;obtain⟨t2,rfl⟩:=z.a.sl;obtain⟨ys,hy⟩:=anS g z.sk;have ha:fm g fh fh:=fm.each λa ha=>by obtain⟨b,rfl⟩:=z.yH a ha;exact bH _
 obtain⟨ku,hn,Y⟩:∃ku,b7 g bB ku/\cr ku=bh:=by
  rcases z.w with⟨rfl,_⟩|⟨id,rfl,_⟩
  exact⟨.bp,ez,rfl⟩;have D:fm g rows rows:=fm.each λa ha=>by
   obtain⟨l,rfl,_⟩:=z.rk a ha;exact kf (iC λa _=>bH _)
  exact⟨_,gU D,rfl⟩
 obtain⟨n,hn⟩:=(fB (bG (kf (bG (gU (t:=t1) hy) (bG hn (bG (gU (t:=t2) ha) cX)))) (bG (bH (.bool b)) cX)):b7 g _ _).done;exact⟨n,_,hn,_,_,_,b,rfl,rfl,Y,rfl⟩
@[go_sem]def UE{s:Nat}(hs:s<32):mZ 32 1 (.mp m 0) (.v (.int .i64 (s:Int)))=a_ (.mp m s):=by
 unfold mZ;dsimp only;rw[if_pos ⟨aa,aa⟩];simp[mI]
section
variable{G:Cells}
def aCx{x:bg}(I:KM x):dM G bC 105 [x] acJ:=by
 have Gq:=I.clean;obtain⟨N,bx,bv,f,e,b,xs,ys,rfl,hN,Y,V,h3,h4,h5,h6,h7,h8⟩:=I;refine ek (ay4.go ?_);have jz:(dG [bx,bv,f,e,.v (.bool b)]).cells=[bx,bv,f,e,.v (.bool b)]:=rfl;refine eu (λe' g=>e'=[(1,.mp 0 0),(2,.mp 1 0)]/\g=[.cells [bx,bv,f,e,.v (.bool b)] bf,.cells [.bp,.bp,.bp] bf]) ?_ ?_;exact dK @jz tt;rintro e' g ⟨rfl,hg⟩;have gl:g.length=2:=by rw[hg];rfl
 refine eu (λe' g=>e'=[(1,.mp 0 0),(2,.mp 1 0),(4,.mp 2 0)]/\∃b5 fh rows sv bB bA,kD N [bx,bv,f,e,.v (.bool b)] b5 fh rows sv bB bA g/\b5.length=1/\fh.length=1/\rows.length=0) ?_ ?_;have iX:=ur (n:=3) (g:=g++[.cells [.bp,.bp,.bp] bf]) (k:=g.length) (Z:=[.sl [.bp] .exact,.bp,.sl [.v (.bool b)] .exact]) (cs0:=[.bp,.bp,.bp]) af rfl rfl rfl;have e1:(g++[bw [.bp,.bp,.bp] bf]).set g.length (.cells [.sl [.bp] .exact,.bp,.sl [.v (.bool b)] .exact] bf)=g++[.cells [.sl [.bp] .exact,.bp,.sl [.v (.bool b)] .exact] bf]:=af
 rw[e1,gl] at iX;refine gC (H8 (w:=.bp) rfl) @gl @iX ?_;refine⟨trivial,[.bp],[.v (.bool b)],[],_,_,_,⟨?_,?_,?_,bE rfl,bE rfl,bE ⟨rfl,rfl⟩,?_,?_,af⟩,rfl,rfl,rfl⟩;rw[hg];rfl;rw[hg];rfl;rw[hg];rfl;intro c T;rw[dP.1 T];exact⟨[],bE ⟨rfl,rfl⟩,af,af⟩;intro c T;rw[dP.1 T];exact⟨b,rfl⟩;rintro e' g1 ⟨rfl,b5,fh,rows,sv,bB,bA,b_,sF,aIp,xE⟩;refine iP (λe' g=>e'=[(2,.mp 1 0),(4,.mp 2 0)]/\∃b5 fh rows sv bB bA,kD N [bx,bv,f,e,.v (.bool b)] b5 fh rows sv bB bA g) ?_ ?_;refine wy ?_;refine pV (n:=300) (λk e' g=>∃(i:Nat) (b5 fh rows:List bg) (sv bB bA:bg),k=300-i/\e'=[(1,.mp 0 0),(2,.mp 1 0),(4,.mp 2 0),(5,bq i)]/\kD N [bx,bv,f,e,.v (.bool b)] b5 fh rows sv bB bA g/\i<=b5.length/\1<=b5.length/\b5.length<=200/\fh.length=b5.length/\rows.length=i) ⟨0,b5,fh,rows,sv,bB,bA,rfl,rfl,b_,aa,aa,aa,aa,aa⟩ ?_;rintro k e' g ⟨i,b5,fh,rows,sv,bB,bA,rfl,rfl,z,W6,hi2,awg,pL,nr⟩;obtain⟨t0,xH⟩:=z.s.sl;have j7:cH sv=λg=>a_ (.v (.int .i64 (b5.length:Int)),g):=by funext g;rw[xH,ot,k7]
 have Nb:∀g,cH sv g=a_ (.v (.int .i64 (b5.length:Int)),g):=λg=>by rw[j7]
 obtain⟨l0,l1,l2,l3⟩:=GL z.t
 rcases en i b5.length with cQ|hge
 have d1:decide ((i:Int)<(b5.length:Int))=bh:=ah
 refine iP (λe' g'=>e'=[(1,.mp 0 0),(2,.mp 1 0),(4,.mp 2 0),(5,bq i)]/\g'=g) ?_ ?_;exact lU @bq.eq_1 @l0 @Nb @d1 tt;rintro e' g' ⟨rfl,rfl⟩;refine iP (λe' g=>e'=[(1,.mp 0 0),(2,.mp 1 0),(4,.mp 2 0),(5,bq i)]/\∃(b5 fh rows:List bg) (sv bB bA:bg),kD N [bx,bv,f,e,.v (.bool b)] b5 fh rows sv bB bA g/\i+1<=b5.length/\b5.length<=200/\fh.length=b5.length/\rows.length=i+1) ?_ ?_;rw[CF];have z0:(fo 32 (bq 0)).all cr=bh:=rfl;have kO:3<=g'.length:=by have:=(cL.1 z.t).1;omega
 refine iP (λe' g=>e'=[(1,.mp 0 0),(2,.mp 1 0),(4,.mp 2 0),(5,bq i),(6,.mp g'.length 0)]/\g=g'++[.cells (fo 32 (bq 0)) bf]) ?_ ?_;have iX:=ur (n:=32) (g:=g'++[.cells (fo 32 (bq 0)) bf]) (k:=g'.length) (Z:=fo 32 (bq 0)) (cs0:=fo 32 (bq 0)) af rfl rfl z0;have e1:(g'++[bw (fo 32 (bq 0)) bf]).set g'.length (.cells (fo 32 (bq 0)) bf)=g'++[.cells (fo 32 (bq 0)) bf]:=af
 have f1:dJ (fo 32 (bq 0)) []=a_ (fo 32 (bq 0)):=rfl;rw[e1] at iX;simp only[fo,bq] at iX f1;exact wx u5;rintro e' g2 ⟨rfl,iJ⟩;have z2:kD N [bx,bv,f,e,.v (.bool b)] b5 fh rows sv bB bA g2:=by rw[iJ];exact z.app
 have r2:g2[g'.length]?=a_ (.cells ((fo 32 (0:Int)).map bq) bf):=by rw[iJ];simp
 generalize g'.length=m6 at r2 kO⊢;refine iP (λe' g=>∃m7 fL,e'=[(1,.mp 0 0),(2,.mp 1 0),(4,.mp 2 0),(5,bq i),(6,.mp m6 0),(7,.mp m7 0)]/\kD N [bx,bv,f,e,.v (.bool b)] b5 fh rows sv bB bA g/\g[m6]?=a_ (.cells ((fo 32 (0:Int)).map bq) bf)/\g[m7]?=a_ (.cells fL bf)/\fL.length=32/\(∀c∈fL,yD N c)/\3<=m7/\m7≠m6) ?_ ?_;have la:=(jJ z2.n).2.2.2.2.2;have zt:=z2.t;rw[xH] at zt;refine hO @bq.eq_1 @la (ck (arR zt z2.sk aa cQ hN Y V h3 h4 h5 h6 h7) ?_);rintro _ g3 ⟨hE,Z,rfl,IT,WK⟩;have awW:Z.all cr=bh:=eP.2 λc T=>(WK c T).one;have z3:kD N [bx,bv,f,e,.v (.bool b)] b5 fh rows sv bB bA g3:=z2.ext λj b q _=>hE j b q;have DZ:=(cL.1 (hE _ _ r2)).1;have iX:=ur (n:=32) (g:=g3++[.cells (fo 32 .bp) bf]) (k:=g3.length) (Z:=Z) (cs0:=fo 32 .bp) af rfl IT awW;have e1:(g3++[bw (fo 32 .bp) bf]).set g3.length (.cells Z bf)=g3++[.cells Z bf]:=af
 rw[e1] at iX;simp only[fo] at iX;refine dK @iX ?_;exact⟨_,Z,rfl,z3.app,bT (hE _ _ r2),af,IT,WK,aa,aa⟩;rintro e' g3 ⟨m7,fL,rfl,z3,iu,j9,ol,os,Xk,aIK⟩;refine iP (λe' g=>e'=[(1,.mp 0 0),(2,.mp 1 0),(4,.mp 2 0),(5,bq i),(6,.mp m6 0)]/\∃(b5 fh:List bg) (sv bA:bg) (l:List Int),kD N [bx,bv,f,e,.v (.bool b)] b5 fh rows sv bB bA g/\g[m6]?=a_ (.cells (l.map bq) bf)/\l.length=32/\i<b5.length/\b5.length<=232/\fh.length=b5.length) ?_ ?_;refine wy ?_;refine dj (λs e' g=>e'=[(1,.mp 0 0),(2,.mp 1 0),(4,.mp 2 0),(5,bq i),(6,.mp m6 0),(7,.mp m7 0),(8,bq s)]/\∃(b5 fh:List bg) (sv bA:bg) (l:List Int),kD N [bx,bv,f,e,.v (.bool b)] b5 fh rows sv bB bA g/\g[m6]?=a_ (.cells (l.map bq) bf)/\l.length=32/\g[m7]?=a_ (.cells fL bf)/\i<b5.length/\b5.length<=200+s/\fh.length=b5.length) 32 ⟨rfl,b5,fh,sv,bA,_,z3,iu,af,j9,cQ,aa,pL⟩ ?_ ?_;rintro s e' g hs ⟨rfl,b5,fh,sv,bA,l,z,r,AR,o,hl1,gS,pL⟩;obtain⟨t0,xH⟩:=z.s.sl;have Nb:∀g,cH sv g=a_ (.v (.int .i64 (b5.length:Int)),g):=λg=>by rw[xH,ot,k7]
 obtain⟨c,T⟩:∃c,fL[s]?=a_ c:=⟨fL[s]' aa,cz _⟩;have jb:=os c (cG T);have lc:bz g bf 1 (.mp m7 s)=a_ c:=by
  simp only[bz,o,e_];rw[if_neg af];exact T
 have aqO:=UE (m:=m7) hs;have aqN:=UE (m:=m6) hs;have d2:decide ((s:Int)<32)=bh:=ah
 refine iP (λe' h=>e'=[(1,.mp 0 0),(2,.mp 1 0),(4,.mp 2 0),(5,bq i),(6,.mp m6 0),(7,.mp m7 0),(8,bq s)]/\h=g) ?_ ?_;exact hO @bq.eq_1 @d2 tt;rintro e' g' ⟨rfl,rfl⟩;refine iP (λe' g=>e'=[(1,.mp 0 0),(2,.mp 1 0),(4,.mp 2 0),(5,bq i),(6,.mp m6 0),(7,.mp m7 0),(8,bq s)]/\∃(b5 fh:List bg) (sv bA:bg) (l:List Int),kD N [bx,bv,f,e,.v (.bool b)] b5 fh rows sv bB bA g/\g[m6]?=a_ (.cells (l.map bq) bf)/\l.length=32/\g[m7]?=a_ (.cells fL bf)/\i<b5.length/\b5.length<=200+(s+1)/\fh.length=b5.length) ?_ ?_;rw[CF];refine iP (λe' h=>e'=[(1,.mp 0 0),(2,.mp 1 0),(4,.mp 2 0),(5,bq i),(6,.mp m6 0),(7,.mp m7 0),(8,bq s),(9,c)]/\h=g') ?_ ?_;exact gC @bq.eq_1 @aqO @lc tt;rintro e' uz ⟨rfl,rfl⟩;refine iP (λe' h=>e'=[(1,.mp 0 0),(2,.mp 1 0),(4,.mp 2 0),(5,bq i),(6,.mp m6 0),(7,.mp m7 0),(8,bq s),(9,c),(10,.v (.int .i64 (-1)))]/\h=uz) ?_ ?_;exact wx tt;rintro e' g' ⟨rfl,rfl⟩;refine iP (λe' g=>∃to:Int,e'=[(1,.mp 0 0),(2,.mp 1 0),(4,.mp 2 0),(5,bq i),(6,.mp m6 0),(7,.mp m7 0),(8,bq s),(10,bq to)]/\∃(b5 fh:List bg) (sv bA:bg),kD N [bx,bv,f,e,.v (.bool b)] b5 fh rows sv bB bA g/\g[m6]?=a_ (.cells (l.map bq) bf)/\g[m7]?=a_ (.cells fL bf)/\i<b5.length/\b5.length<=200+(s+1)/\fh.length=b5.length) ?_ ?_;obtain⟨cB,c1,c2,c3⟩:=jb
 rcases CV cB.length with hz|hz
 have d3:decide ((cB.length:Int)>0)=bf:=decide_eq_false aa;have as_:decide ((0:Int)<(cB.length:Int))=bf:=decide_eq_false aa;refine gC @c1.len @d3 @as_ ?_;exact⟨-1,rfl,b5,fh,sv,bA,z,r,o,hl1,aa,pL⟩;have d3:decide ((cB.length:Int)>0)=bh:=decide_eq_true aa;have zt:=z.t;rw[xH] at zt;refine wx (ck (atT zt z.sk aa aa (os c (cG T))) ?_);rintro _ g3 ⟨rfl,n,rfl,pQ,aho⟩;refine wy (cN (λq=>?_) λq=>?_);obtain⟨l0,l1,l2,l3⟩:=GL z.t;obtain⟨kz,g4,g5,e1,e2,z5,tH⟩:=z.push (os c (cG T)) aa;refine u7 @q @l0 @Nb (H8 (os c (cG T)).one) @e1 @e2 ?_;obtain⟨m0,m1,m2,m3⟩:=GL z5.t;obtain⟨n0,n1,n2,oY,n4,_⟩:=jJ z5.n;obtain⟨c',ci,Z⟩:=c1.imp;obtain⟨el,dr,eS⟩:=h8;have tB:=eS.len;refine o6 @mI @m2 @oY @qu.eq_1 @rN.eq_1 @true_and @and_true (jy (aGw Z dr (FC Z) (FC dr) aa aa 1) (bX ci (bX (FC dr) (bX (dn _) dc))) ?_);rintro r1 ⟨rl,q1,bt,bS⟩;obtain⟨K9,g6,g7,a1,a2,CK,sI⟩:=z5.aDv (decide ((rl.length:Int)>0)) aa;have aqL:ef g5 1 1 4 bA (.sl [.v (.bool (decide ((0:Int)<(rl.length:Int))))] .exact)=a_ (K9,g6):=a1;refine o6 @m2 @oY ((zv q1).len) @a1 @aqL @a2 @oA ?_;exact⟨_,rfl,_,_,_,_,CK,sI.2 _ _ aa (tH.2 _ _ aa r),sI.2 _ _ aa (tH.2 _ _ aa o),ah,ah,by simp[pL]⟩;refine dK @q ?_;exact⟨n,rfl,b5,fh,sv,bA,z,r,o,hl1,aa,pL⟩;rintro e' g3 ⟨to,rfl,b5,fh,sv,bA,z,r,o,hl1,gS,pL⟩;have awH:=(cL.1 r).1;have iX:bL g3 1 (.mp m6 s) (.v (.int .i64 to))=a_ (g3.set m6 (.cells ((l.set s to).map bq) bf)):=by
  have eS:(cI (.int .i64 to)).cells=[.v (.int .i64 to)]:=rfl;simp only[bL,r,fq,eS];rw[if_pos ⟨rfl,ah,rfl⟩,NR ah,ym];rfl
 refine gC @bq.eq_1 @aqN @iX ?_;exact⟨trivial,b5,fh,sv,bA,_,z.set aa r,bU awH,by simpa using AR,by rw[bD aa];exact o,hl1,gS,pL⟩;rintro e' g4 ⟨rfl,q⟩;refine dK @bq.eq_1 ?_;exact⟨trivial,q⟩;rintro e' g ⟨rfl,b5,fh,sv,bA,l,z,r,AR,o,hl1,gS,pL⟩;have d2:decide (((32:Nat):Int)<32)=bf:=ag
 refine hO @bq.eq_1 @d2 ?_;exact⟨trivial,b5,fh,sv,bA,l,z,r,AR,hl1,gS,pL⟩;rintro e' g4 ⟨rfl,b5,fh,sv,bA,l,z,r,AR,hl1,gS,pL⟩;obtain⟨l0,l1,l2,l3⟩:=GL z.t;obtain⟨ku,g5,g6,e1,e2,wC,Gw⟩:=z.EA AR aa;have ab:eV 32 [dG (l.map bq)]=a_ (.sl [.agg (l.map bq)] .exact):=by
  unfold eV;rw[if_pos ⟨Sl l AR,af⟩]
 obtain⟨t0,xH⟩:=wC.s.sl;have Nb:∀g,cH sv g=a_ (.v (.int .i64 (b5.length:Int)),g):=λg=>by rw[xH,ot,k7]
 obtain⟨m0,m1,m2,m3⟩:=GL wC.t;refine iB (Ag r (by simpa using AR)) (cN (λq=>?_) λq=>?_);have iX:=ur (n:=3) wC.r rfl (Z:=[.bp,.bp,.bp]) rfl rfl;have hl1:=(cL.1 wC.r).1;have la:=Ag (n:=3) (bU (a:=.cells [bg.bp,.bp,.bp] bf) hl1) rfl;refine wx ?_;obtain⟨n,hn⟩:=(fB (bG (kf (bG ez (bG ez (bG ez cX)))) (bG (bH (.bool bf)) cX)):b7 (g6.set 1 (.cells [bg.bp,.bp,.bp] bf)) _ _).done;exact⟨n,_,hn,_,_,_,bf,rfl,rfl,rfl,rfl⟩;have q':b5.length<=200:=aq
 refine wx ?_;exact⟨trivial,b5,fh,_,sv,ku,bA,wC,hl1,q',pL,by simp[nr]⟩;rintro e' g3 ⟨rfl,b5,fh,rows,sv,bB,bA,z,hl1,gS,pL,nr⟩;refine wy ?_;exact⟨300-(i+1),aa,i+1,b5,fh,rows,sv,bB,bA,rfl,rfl,z,hl1,aa,gS,pL,nr⟩;have d1:decide ((i:Int)<(b5.length:Int))=bf:=ah
 refine lU @bq.eq_1 @l0 @Nb @d1 ?_;exact⟨trivial,b5,fh,rows,sv,bB,bA,z⟩;rintro e' g2 ⟨rfl,b5,fh,rows,sv,bB,bA,z⟩
 have no:cr bB=bh:=by rcases z.w with⟨q,_⟩|⟨_,q,_⟩<;>rw[q]<;>rfl
 have iX:=ur (n:=3) z.r rfl (Z:=[sv,bB,bA]) rfl (by simp[z.s.one,z.a.one,no]);have hl1:=(cL.1 z.r).1;have la:=Ag (n:=3) (bU (a:=.cells [sv,bB,bA] bf) hl1) rfl;obtain⟨l0,l1,l2,l3⟩:=GL z.t;exact wy (aF8 z bh)
end
end
section
variable{n0:Nat}{v:bg}{ps:List cP}
def amX(h:yx n0 v ps)(hn:n0<=100000000)(bR:ps≠[]):sz ps ((ps.length-1:Nat):Int)<=1000000000:=by
 have hl:=h.len;obtain⟨x,I⟩:=h.top.resolve_left bR;have D:=aaA bR I;have hs:=aay h.ok.kids I;rw[D] at hs;simp only[fG,lu,zQ,HJ] at hs;omega
def aco(ps:List cP)(r:bg):Prop:=∃(t:Bool) (n:Int),r=.bQ [.v (.bool t),.v (.int .i64 n)]/\0<=n/\n<=20/\(n=0->ps≠[]->cnt ps ((ps.length-1:Nat):Int)<=256)
def LJ{J:List br}{t:Bool}{n:Int}(h0:0<=n)(Y:n<=20)(h:n=0->ps≠[]->cnt ps ((ps.length-1:Nat):Int)<=256):∃k bV,di J k (.bQ [.v (.bool t),.v (.int .i64 n)])=a_ bV/\aco ps bV:=by
 obtain⟨k,S⟩:=(fB (bG (bH (.bool t)) (bG (bH (.int .i64 n)) cX)):b7 J _ _).done;exact⟨k,_,S,t,n,rfl,h0,Y,h⟩
section
variable{G:Cells}{bB mv a b c:bg}{cv marks:List (List bg)}
def aCD{lv:bg}{rows:List (List bg)}(hr:q8 bB mv cv marks)(hS:eM (.agg [bB,mv,a,b,c]))(h:yx n0 v ps)(hn:n0<=100000000)(BX:cC lv (rows.map dG))(fX:eM lv)(DX:∀x∈rows,wW x)(kS:rows.length<=1000000000):
  dM G bC 55 [.agg [bB,mv,a,b,c],v,lv] (aco ps):=by
 refine ek (ayH.go ?_);have vW:=h.len;have ln:=h.v.cH;rw[cM] at ln;have lQ:∀J,cH v J=a_ (.v (.int .i64 (ps.length:Int)),J):=λJ=>aJT
 have lm:=BX.cH;rw[cM] at lm;have GH:∀J,cH lv J=a_ (.v (.int .i64 (rows.length:Int)),J):=λJ=>by rw[lm J,k7]
 have Yn:bz [bw [bB,mv,a,b,c] bf] bh 5 (.mp 0 0)=a_ (.agg [bB,mv,a,b,c]):=rfl;have H:∃X:List br,X=[bw [bB,mv,a,b,c] bf]:=⟨_,rfl⟩;refine eu (λe g=>e=[(1,v),(2,lv),(3,.mp 0 0)]/\g=[bw [bB,mv,a,b,c] bf]) ?_ ?_;exact wx tt;rintro e g ⟨rfl,rfl⟩;refine eu (λe g=>e=[(1,v),(2,lv),(3,.mp 0 0),(8,.v (.bool bf))]/\g=[bw [bB,mv,a,b,c] bf]) ?_ ?_;exact wx tt;rintro e g ⟨rfl,rfl⟩;refine eu (λe g=>e=[(1,v),(2,lv),(3,.mp 0 0),(8,.v (.bool bf)),(9,.v (.bool bf))]/\g=[bw [bB,mv,a,b,c] bf]) ?_ ?_;exact wx tt;rintro e g ⟨rfl,rfl⟩;refine iP (λe g=>∃t b':Bool,e=[(1,v),(2,lv),(8,.v (.bool t)),(9,.v (.bool b'))]/\g=[bw [bB,mv,a,b,c] bf]) ?_ ?_;refine wy ?_;refine dj (λi e h=>∃t b':Bool,e=[(1,v),(2,lv),(3,.mp 0 0),(8,.v (.bool t)),(9,.v (.bool b')),(10,bq i)]/\h=[bw [bB,mv,a,b,c] bf]) rows.length ⟨bf,bf,rfl,rfl⟩ ?_ ?_;rintro i e g Q ⟨t,b',rfl,rfl⟩;obtain⟨y,hy⟩:=dQ Q;obtain⟨nm,iv,l,rfl,y4,IW,aII,DU⟩:=DX y (cG hy);have nQ:ct 2 lv (.v (.int .i64 (i:Int)))=a_ (.fp [bu nm,iv] 0):=BX.cE (x:=.agg [bu nm,iv]) aS rfl;have axO:=zv y4;refine nV ?_;refine dm (λq=>?_) λq=>?_;exact LJ ag ag (λq=>absurd q ag);refine dj (λj e h=>∃t b':Bool,e=[(1,v),(2,lv),(3,.mp 0 0),(8,.v (.bool t)),(9,.v (.bool b')),(10,bq i),(11,bq j)]/\h=[bw [bB,mv,a,b,c] bf]) l.length ⟨t,b',rfl,rfl⟩ ?_ ?_;rintro j e g hj ⟨t,b',rfl,rfl⟩;obtain⟨x,I⟩:=dQ hj;have ix:=axO.cE I;cases t with
 |true=>
  cases b' with
  |true=>
   refine lU @bq.eq_1 @nQ @ix @Yn ?_;exact⟨_,_,rfl,trivial⟩
  |false=>
   refine nV ?_;refine ei (XN hr hS x) ?_;rintro r ⟨z,rfl⟩;refine wx ?_;exact⟨_,_,rfl,trivial⟩
 |false=>
  refine nV ?_;refine ei (XN hr hS x) ?_;rintro r ⟨z,rfl⟩;cases b' with
  |true=>
   refine wx ?_;exact⟨_,_,rfl,trivial⟩
  |false=>
   refine wy ?_;refine ei (XN hr hS x) ?_;rintro r ⟨z2,rfl⟩;refine wx ?_;exact⟨_,_,rfl,trivial⟩
 rintro e g ⟨t,b',rfl,rfl⟩;refine hO @bq.eq_1 @nQ ?_;exact⟨_,_,rfl,trivial⟩;rintro e g ⟨t,b',rfl,rfl⟩;refine hO @bq.eq_1 @GH ?_;exact⟨t,b',rfl,trivial⟩;rintro e g ⟨t,b',rfl,rfl⟩;refine iP (λe g=>e=[(1,v),(2,lv),(8,.v (.bool t))]/\g=[bw [bB,mv,a,b,c] bf]) ?_ ?_;cases t with
 |false=>
  exact wx tt
 |true=>
  cases b' with
  |false=>
   exact wx tt
  |true=>
   refine wy ?_;exact LJ ag ag (λq=>absurd q ag)
 rintro e g ⟨rfl,rfl⟩;refine iP (λe g=>(e=[(1,v),(2,lv),(8,.v (.bool t))]/\g=[bw [bB,mv,a,b,c] bf])/\(ps≠[]->cnt ps ((ps.length-1:Nat):Int)<=256)) ?_ ?_
 rcases CV ps.length with hz|hz
 have d:decide ((ps.length:Int)>0)=bf:=decide_eq_false aa;have d':decide ((0:Int)<(ps.length:Int))=bf:=decide_eq_false aa;refine gC @lQ @d @d' ?_;exact⟨⟨trivial,trivial⟩,λbR=>absurd (nZ hz) bR⟩;have d:decide ((ps.length:Int)>0)=bh:=decide_eq_true aa;have bR:ps≠[]:=by rintro rfl;simp at hz
 refine wy (hU (aBS h _ (ps.length-1) (CW _) aa (amX h hn bR)) (bX (BJ h) (bX (dn _) dc)) ?_);refine wy ?_;refine dm (λq=>?_) λq=>?_;exact LJ ag ag (λq=>absurd q ag);refine⟨⟨trivial,trivial⟩,λ_=>?_⟩;simp at q;omega;rintro e g ⟨⟨rfl,rfl⟩,T⟩;have x0:∀a b,oc 0 (.bQ [a,b])=a_ a:=λ_ _=>rfl;refine wy ?_;refine jy (aCR h aa BX fX DX kS λbR=>⟨T bR,amX h hn bR⟩) (bX (BJ h) (bX fX dc)) ?_;intro r D;refine wy (jy (aCx D) (bX D.clean dc) ?_);rintro r2 ⟨y1,fV,lW,t2,rfl,o1,o2,j9⟩;have st:=ur (n:=3) (g:=[bw [bB,mv,a,b,c] bf,bw [.bp,.bp,.bp] bf]) (k:=1) (Z:=[y1,fV,lW]) (cs0:=[.bp,.bp,.bp]) rfl rfl rfl (by simp only[pY,sY,o1,o2,j9];rfl);refine wy ?_;cases t2 with
 |false=>
  refine wy ?_;exact LJ ag ag (λq=>absurd q ag)
 |true=>
  refine wy ?_;exact LJ ag ag λ_=>T
end
end
section
variable{mv bB v w x y:bg}{g h J:List br}{m n:Nat}{xs ys:List bg}{e:TypeId}{marks cv rows:List (List bg)}
def zX(x:bg):Prop:=∃(n0:Nat) (ps:List cP),yx n0 x ps/\n0<=100000000/\(ps≠[]->cnt ps ((ps.length-1:Nat):Int)<=256)
def zX.one(h:zX x):cr x=bh:=by
 obtain⟨n0,ps,h,_⟩:=h
 rcases h.v with rfl|⟨rfl,_⟩<;>rfl
def zX.fz(h:zX x)(J:List br):b7 J x x:=by
 obtain⟨n0,ps,h,_⟩:=h
 rcases h.v with rfl|⟨rfl,_⟩
 have fl:fm J (ps.map rY) (ps.map rY):=iC λp awZ=>by
  have:=V9 J p;rw[show p.cB=p by
   have:=h.no p awZ;cases p;simp only[cP.cB] at*;simp[this]] at this
  exact this
 exact gU fl;exact ez
def zX.clean(h:zX x):eM x:=by
 obtain⟨n0,ps,h,_⟩:=h;exact BJ h
structure O3(hk:bg):Prop where
 ex:∃(bB mv pv cF lv:bg) (cv marks:List (List bg)) (jC kX:List bg) (kT:List (List bg)),hk=.agg [bB,mv,pv,cF,lv]/\q8 bB mv cv marks/\cC pv jC/\jC.length=cv.length/\(∀x∈jC,zX x)/\cC cF kX/\kX.length=cv.length/\(∀x∈kX,∃b:Bool,x=.v (.bool b))/\cC lv (kT.map dG)/\(∀x∈kT,wW x)/\kT.length<=10000000000
def Pe(r:bg):Prop:=∃(a b c d e:bg) (n:Int),r=.bQ [.agg [a,b,c,d,e],.v (.int .i64 n)]/\[a,b,c,d,e].all cr=bh/\(n=0->O3 (.agg [a,b,c,d,e]))/\(n≠0->[a,b,c,d,e]=[.bp,.bp,.bp,.bp,.bp])
def aFw{n:Int}(hn:n≠0):∃k bV,di J k (.bQ [.agg [.bp,.bp,.bp,.bp,.bp],.v (.int .i64 n)])=a_ bV/\Pe bV:=by
 obtain⟨k,S⟩:=(fB (bG (kf (bG ez (bG ez (bG ez (bG ez (bG ez cX)))))) (bG (bH (.int .i64 n)) cX)):b7 J _ _).done;exact⟨k,_,S,_,_,_,_,_,n,rfl,rfl,λq=>absurd q hn,λ_=>rfl⟩
def adn(hA:cT h v xs n e)(S:∀(j:Nat) b,h[j]?=a_ b->(∀ys,v≠.sl ys (.tok j))->g[j]?=a_ b):∀(j:Nat) b,h[j]?=a_ b->(∀c,b≠.tok c n e)->g[j]?=a_ b:=λj b q O=>S j b q λys z=>by
 rcases hA with⟨q1,_⟩|⟨id,q1,bt⟩
 rw[q1] at z;cases z;rw[q1] at z;cases z;rw[bt] at q;cases q;exact O _ rfl
def ado{e2:TypeId}(hA:cT h w ys m e2)(kp:∀(j:Nat) b,h[j]?=a_ b->(∀c,b≠.tok c n e)->g[j]?=a_ b)(bR:(m,e2)≠(n,e)):cT g w ys m e2:=by
 rcases hA with q|⟨id,q1,bt⟩
 exact bE q;refine bF ⟨id,q1,kp _ _ bt λc z=>?_⟩;cases z;exact bR rfl
def Pt{b9:Nat}(hA:cT J v xs n e)(l_:cC y ys)(I:cZ n xs=bh)(hy:cZ n ys=bh)(hn:0<n)(O:0<b9)(hfit:(xs.length+ys.length)*b9<=140737488355328):
  ∃v' bl,ef J n b9 e v y=a_ (v',bl)/\cT bl v' (xs++ys) n e/\∀(j:Nat) b,J[j]?=a_ b->(∀xs,v≠.sl xs (.tok j))->bl[j]?=a_ b:=by
 by_cases h0:ys=[];subst h0;refine⟨v,J,?_,by rw[gd];exact hA,λj b q _=>q⟩
 have T:ij y=a_ []:=by rcases l_ with rfl|⟨rfl,_⟩<;>rfl
 rcases hA with⟨rfl,_⟩|⟨id,rfl,_⟩<;>simp[ef,gG,T]
 rcases l_ with rfl|⟨_,z⟩
 exact adq hA I hy h0 hn O hfit;exact absurd z h0
structure r_(bB mv pv cF lv:bg)(jC kX:List bg)(kT:List (List bg))(h:List br):Prop where
 r:h[0]?=a_ (.cells [.bp,.bp,.bp,.bp,.bp] bf)
 d:h[1]?=a_ (.cells [bB,mv] bf)
 b:h[2]?=a_ (.cells [bB,mv,pv,cF,lv] bf)
 p:cT h pv jC 1 122
 t:cT h cF kX 1 4
 l:cT h lv (kT.map dG) 2 200
 pk:∀x∈jC,zX x
 tk:∀x∈kX,∃b:Bool,x=.v (.bool b)
 lk:∀x∈kT,wW x
section
variable{bB mv pv cF lv:bg}{jC kX:List bg}{kT:List (List bg)}{h:List br}
def Fq(hA:cT h v xs n e):cr v=bh:=by
 rcases hA with⟨rfl,_⟩|⟨_,rfl,_⟩<;>rfl
def aab{Z cs':List bg}(hA:cT g w ys m e)(O:g[2]?=a_ (.cells Z bf)):cT (g.set 2 (.cells cs' bf)) w ys m e:=by
 rcases hA with q|⟨id,q1,bt⟩
 exact bE q;exact bF ⟨id,q1,by rw[bD (by rintro rfl;rw[O] at bt;cases bt)];exact bt⟩
def r_.aDz(s:r_ bB mv pv cF lv jC kX kT h)(I:zX x)(hl:jC.length<=1000):∃v' g g',ef h 1 24 122 pv (.sl [x] .exact)=a_ (v',g)/\bL g 1 (.mp 2 2) v'=a_ g'/\r_ bB mv v' cF lv (jC++[x]) kX kT g':=by
 obtain⟨v',g,e1,e2,_,hA,O,q⟩:=LL (x:=x) (b9:=24) (o:=2) s.p s.b af (A9 λx I=>(s.pk x I).one) (A9 λy hy=>by rw[dP.1 hy];exact I.one) ag ag aa;exact⟨v',g,_,e1,e2,q.cells s.r ag,q.cells s.d ag,O,hA,q.Dg s.b s.t ag,q.Dg s.b s.l ag,λy hy=>(gj.1 hy).elim (s.pk y) λq=>aLX,s.tk,s.lk⟩
def r_.aDA(s:r_ bB mv pv cF lv jC kX kT h)(b:Bool)(hl:kX.length<=1000):∃v' g g',ef h 1 1 4 cF (.sl [.v (.bool b)] .exact)=a_ (v',g)/\bL g 1 (.mp 2 3) v'=a_ g'/\r_ bB mv pv v' lv jC (kX++[.v (.bool b)]) kT g':=by
 obtain⟨v',g,e1,e2,_,hA,O,q⟩:=LL (x:=.v (.bool b)) (b9:=1) (o:=3) s.t s.b af (A9 λx I=>by obtain⟨b,rfl⟩:=s.tk x I;rfl) rfl ag ag aa;exact⟨v',g,_,e1,e2,q.cells s.r ag,q.cells s.d ag,O,q.Dg s.b s.p ag,hA,q.Dg s.b s.l ag,s.pk,λy hy=>(gj.1 hy).elim (s.tk y) λq=>⟨b,dP.1 q⟩,s.lk⟩
@[go_sem]def Zg(h:∀x∈rows,wW x):cZ 2 (rows.map dG)=bh:=by
 rw[cZ,eP];intro y hy;obtain⟨x,I,rfl⟩:=eg.1 hy;obtain⟨nm,iv,l,rfl,y4,_⟩:=h x I;have:cr iv=bh:=(zv y4).one;simp only[jK,eW,hY,pY,sY,this];rfl
def r_.NP(s:r_ bB mv pv cF lv jC kX kT h)(l_:cC y (rows.map dG))(D:∀x∈rows,wW x)(hl:kT.length+rows.length<=100000000000):∃v' g g',ef h 2 40 200 lv y=a_ (v',g)/\bL g 1 (.mp 2 4) v'=a_ g'/\r_ bB mv pv cF v' jC kX (kT++rows) g':=by
 obtain⟨v',g,e1,hA,S⟩:=Pt (b9:=40) s.l l_ (Zg s.lk) (Zg D) ag ag (by simp only[cM];omega);rw[<-gf] at hA;have kp:=adn s.l S;have b1:=kp _ _ s.b af;have st:=(qW b1 (Fq hA)).2.2.2.2;refine⟨v',g,_,e1,st,?_,?_,bU (gl b1),aab (ado s.p kp ag) b1,aab (ado s.t kp ag) b1,aab hA b1,s.pk,s.tk,λx I=>?_⟩;rw[bD ag];exact kp _ _ s.r af;rw[bD ag];exact kp _ _ s.d af
 rcases gj.1 I with q|q
 exact s.lk x q;exact D x q
def r_.imp(s:r_ bB mv pv cF lv jC kX kT h)(hd:eM bB)(he:eM mv):∃a b c,kZ (.agg [bB,mv,pv,cF,lv]) (.agg [bB,mv,a,b,c])/\eM (.agg [bB,mv,a,b,c]):=by
 have one:∀{v:bg} {xs:List bg} {n:Nat} {e:TypeId},cT h v xs n e->(∀x∈xs,∀c∈x.cells,eM c)->∃v',kZ v v'/\eM v':=λ{v xs n e} hA T=>by
  rcases hA with⟨rfl,_⟩|⟨id,rfl,_⟩
  exact⟨.bp,mJ,mJ⟩;exact⟨.sl xs .no,k6 T,k6 T⟩
 obtain⟨a,a1,a2⟩:=one s.p λx I c T=>by
  rw[rj (s.pk x I).one] at T;rw[dP.1 T];exact(s.pk x I).clean
 obtain⟨b,b1,b2⟩:=one s.t λx I c T=>by
  obtain⟨t,rfl⟩:=s.tk x I;rw[dP.1 (show c∈[cI (.bool t)] from T)];exact dn _
 obtain⟨c,c1,c2⟩:=one s.l λx I c T=>by
  obtain⟨y,hy,rfl⟩:=eg.1 I;obtain⟨nm,iv,l,rfl,y4,IW,_⟩:=s.lk y hy;have jl:c∈[bu nm,iv]:=T;simp only[fS,p4,or_false] at jl
  rcases jl with rfl|rfl
  exact dn _;exact IW
 refine⟨a,b,c,ah4 rfl λi x y I hy=>?_,Ip λx I=>?_⟩
 match i with
 |0=>cases I;cases hy;exact hd
 |1=>cases I;cases hy;exact he
 |2=>cases I;cases hy;exact a1
 |3=>cases I;cases hy;exact b1
 |4=>cases I;cases hy;exact c1
 |i+5=>simp at I
 simp only[fS,p4,or_false] at I
 rcases I with rfl|rfl|rfl|rfl|rfl
 exact hd;exact he;exact a2;exact b2;exact c2
def r_.fin(s:r_ bB mv pv cF lv jC kX kT h)(hr:q8 bB mv cv marks)(Y:jC.length=cv.length)(V:kX.length=cv.length)(h3:kT.length<=10000000000)(g:List br)(hn:b7 g bB bB)(hm:b7 g mv mv):∃k bV,di g k (.bQ [.agg [bB,mv,pv,cF,lv],.v (.int .i64 0)])=a_ bV/\Pe bV:=by
 have one:∀{v:bg} {xs:List bg} {n:Nat} {e:TypeId},cT h v xs n e->fm g xs xs->∃v',b7 g v v'/\cC v' xs:=λ{v xs n e} hA T=>by
  rcases hA with⟨rfl,q⟩|⟨id,rfl,_⟩
  exact⟨.bp,ez,bF ⟨rfl,q⟩⟩;exact⟨.sl xs .no,gU T,bE rfl⟩
 obtain⟨a,a1,a2⟩:=one s.p (fm.each λx I=>(s.pk x I).fz g);obtain⟨b,b1,b2⟩:=one s.t (fm.each λx I=>by obtain⟨t,rfl⟩:=s.tk x I;exact bH _);obtain⟨c,c1,c2⟩:=one s.l (iC λx I=>by
  obtain⟨nm,iv,l,rfl,y4,_⟩:=s.lk x I;refine kf (bG (bH _) (bG ?_ cX))
  rcases y4 with rfl|⟨rfl,_⟩
  exact gU (iC λa _=>bH _);exact ez)
 obtain⟨k,S⟩:=(fB (bG (kf (bG hn (bG hm (bG a1 (bG b1 (bG c1 cX)))))) (bG (bH (.int .i64 0)) cX)):b7 g _ _).done
 have o:∀{v:bg} {xs:List bg},cC v xs->cr v=bh:=λ{v xs} q=>aJO
 exact⟨k,_,S,bB,mv,a,b,c,0,rfl,by simp only[pY,sY,o hr.n,o hr.m,o a2,o b2,o c2];rfl,λ_=>⟨bB,mv,a,b,c,cv,marks,jC,kX,kT,rfl,hr,a2,Y,s.pk,b2,V,s.tk,c2,s.lk,h3⟩,λq=>absurd rfl q⟩
end
def asx{x:List bg}(h:vk x):∀c∈x,eM c:=by
 obtain⟨nm,cm,i,p,cg,a,al,mv,ex,rfl,hg,hm,_⟩:=h;intro c T;obtain⟨l,g1,_⟩:=hg;obtain⟨l2,m1,_⟩:=hm;simp only[eH,fS,p4,or_false] at T
 rcases T with rfl|rfl|rfl|rfl|rfl|rfl|rfl|rfl|rfl
 exact dn _;exact qI g1;exact dn _;exact dn _;exact dn _;exact dn _;exact dn _;exact qI m1;exact dn _
def asv{x:List bg}(h:n_ x):∀c∈x,eM c:=by
 obtain⟨nm,v,al,bv,rfl,l,g1,_⟩:=h;intro c T;simp only[eT,fS,p4,or_false] at T
 rcases T with rfl|rfl|rfl|rfl
 exact dn _;exact dn _;exact dn _;exact qI g1
def q8.asr(hr:q8 bB mv cv marks):eM bB/\eM mv:=by
 refine⟨Ds hr.n λx I c T=>?_,Ds hr.m λx I c T=>?_⟩;obtain⟨y,hy,rfl⟩:=eg.1 I;exact asx (hr.mO y hy) c T;obtain⟨y,hy,rfl⟩:=eg.1 I;exact asv (hr.hG y hy) c T
def q8.af3(hr:q8 bB mv cv marks)(g:List br):b7 g bB bB/\b7 g mv mv:=by
 constructor
 rcases hr.n with h|⟨h,_⟩
 rw[h];exact gU (iC λx I=>(hr.mO x I).fz g);rw[h];exact ez
 rcases hr.m with h|⟨h,_⟩
 rw[h];exact gU (iC λx I=>(hr.hG x I).af4 g);rw[h];exact ez
section
variable{G:Cells}
def aCy(s:List UInt8)(hs:s.length<=1000000):dM G bC 25 [bu s] Pe:=by
 refine ek (az2.go ?_);have bad:∀{g:List br} {n:Int},g[0]?=a_ (.cells [.bp,.bp,.bp,.bp,.bp] bf)->n≠0->bL g 5 (.mp 0 0) (.agg [.bp,.bp,.bp,.bp,.bp])=a_ (g.set 0 (.cells [.bp,.bp,.bp,.bp,.bp] bf))/\bz (g.set 0 (.cells [.bp,.bp,.bp,.bp,.bp] bf)) bh 5 (.mp 0 0)=a_ (.agg [.bp,.bp,.bp,.bp,.bp])/\∃k bV,di (g.set 0 (.cells [.bp,.bp,.bp,.bp,.bp] bf)) k (.bQ [.agg [.bp,.bp,.bp,.bp,.bp],.v (.int .i64 n)])=a_ bV/\Pe bV:=λ{g n} h hn=>
  ⟨Nn h rfl,(jJ (bU (gl h))).2.2.2.2.2,aFw hn⟩
 refine eu (λe g=>e=[(0,bu s),(2,.mp 0 0)]/\g=[.cells [.bp,.bp,.bp,.bp,.bp] bf]) ?_ ?_;exact wx tt;rintro e g ⟨rfl,hg⟩;refine eu (λe g=>∃bB mv cv marks,∃Aq:Int,e=[(2,.mp 0 0),(4,.mp 1 0),(6,.v (.int .i64 Aq))]/\g=[.cells [.bp,.bp,.bp,.bp,.bp] bf,.cells [bB,mv] bf]/\q8 bB mv cv marks) ?_ ?_;refine wy ?_;refine ei (aDd s hs) ?_;rintro _ ⟨bB,mv,cv,marks,SC,Aq,rfl,hr⟩
 have o:∀{v:bg} {xs:List bg},cC v xs->cr v=bh:=λ{v xs} q=>aJO
 have st:=Kf (X:=[.cells [.bp,.bp,.bp,.bp,.bp] bf,.cells [.bp,.bp] bf]) (k:=1) (a:=.bp) (b:=.bp) (c:=bB) (d:=mv) rfl (o hr.n) (o hr.m);refine wy ?_;exact⟨bB,mv,cv,marks,Aq,rfl,rfl,hr⟩;rintro e g1 ⟨bB,mv,cv,marks,Aq,rfl,rfl,hr⟩;have y6:=hr.nl;obtain⟨aeP,aeQ⟩:=hr.asr;refine iP (λe g=>e=[(2,.mp 0 0),(4,.mp 1 0)]/\g=[.cells [.bp,.bp,.bp,.bp,.bp] bf,.cells [bB,mv] bf]) ?_ ?_;refine wy (cN (λq=>?_) λq=>?_);have q':Aq≠0:=ak
 obtain⟨b1,b2,b3⟩:=bad (g:=[.cells [.bp,.bp,.bp,.bp,.bp] bf,.cells [bB,mv] bf]) (n:=Aq) rfl q';exact wy b3;exact wx tt;rintro e g2 ⟨rfl,rfl⟩;refine eu (λe g=>e=[(2,.mp 0 0),(4,.mp 1 0),(7,.mp 2 0)]/\r_ bB mv .bp .bp .bp [] [] [] g) ?_ ?_
 have o:∀{v:bg} {xs:List bg},cC v xs->cr v=bh:=λ{v xs} q=>aJO
 have f1:dJ [.bp,.bp,.bp,.bp,.bp] [(0,2,.agg [bB,mv])]=a_ [bB,mv,.bp,.bp,.bp]:=rfl;have st:=Nn (h:=[.cells [.bp,.bp,.bp,.bp,.bp] bf,.cells [bB,mv] bf,.cells [.bp,.bp,.bp,.bp,.bp] bf]) (k:=2) (a':=bB) (b':=mv) (c':=.bp) (d':=.bp) (e':=.bp) rfl (by simp only[pY,sY,o hr.n,o hr.m];rfl);refine wx ?_;exact⟨trivial,rfl,rfl,rfl,bE ⟨rfl,rfl⟩,bE ⟨rfl,rfl⟩,bE ⟨rfl,rfl⟩,af,af,af⟩;rintro e g3 ⟨rfl,eU⟩;obtain⟨a3,b3,c3,i3,ayp⟩:=eU.imp aeP aeQ;refine eu (λe g=>∃n:Int,e=[(2,.mp 0 0),(4,.mp 1 0),(6,.v (.int .i64 n)),(7,.mp 2 0)]/\g=g3) ?_ ?_;refine iB ((jJ eU.b).2.2.2.2.2) ?_;refine ei (aCq hr ayp) ?_;rintro r ⟨n,rfl,_,_⟩;refine wx ?_;exact⟨n,rfl,trivial⟩;rintro e g4 ⟨n,rfl,rfl⟩;refine iP (λe g=>e=[(2,.mp 0 0),(4,.mp 1 0),(7,.mp 2 0)]/\g=g4) ?_ ?_;refine wy (cN (λq=>?_) λq=>?_);have q':n≠0:=ak
 obtain⟨b1,b2,b3⟩:=bad eU.r q';exact gC @q @b1 @b2 b3;exact dK @q tt;rintro e g5 ⟨rfl,rfl⟩;have ln:=hr.n.cH;rw[cM] at ln;have lQ:∀J,cH bB J=a_ (.v (.int .i64 (cv.length:Int)),J):=λJ=>aJT
 refine iP (λe g=>e=[(2,.mp 0 0),(7,.mp 2 0)]/\∃pv cF lv jC kX kT,r_ bB mv pv cF lv jC kX kT g/\jC.length=cv.length/\kX.length=cv.length/\kT.length<=cv.length*200000000) ?_ ?_;refine wy ?_;refine dj (λi e g=>e=[(2,.mp 0 0),(4,.mp 1 0),(7,.mp 2 0),(8,bq i)]/\∃pv cF lv jC kX kT,r_ bB mv pv cF lv jC kX kT g/\jC.length=i/\kX.length=i/\kT.length<=i*200000000) cv.length ⟨rfl,_,_,_,_,_,_,eU,rfl,rfl,js _⟩ ?_ ?_;rintro i e g Q ⟨rfl,pv,cF,lv,jC,kX,kT,s,Y,V,h3⟩;have fA:bz g bf 1 (.mp 1 0)=a_ bB:=by simp only[bz,s.d];rfl
 obtain⟨y,hy⟩:=dQ Q;have me:=hr.mO y (cG hy);have nQ:ct 9 bB (.v (.int .i64 (i:Int)))=a_ (.fp y 0):=hr.n.cE (x:=.agg y) aS aLT;obtain⟨nm,cm,ib,pb,cg,a2,al,lR,ex,rfl,_,_,WU⟩:=me;have GC:∀h,bz h bf 1 (.fp (eH nm cm ib pb cg a2 al lR ex) 8)=a_ (bu ex):=λh=>rfl;have w1:de.wrap ((i:Int)+1)=((i+1:Nat):Int):=nx aa;obtain⟨a4,b4,c4,i4,aii⟩:=s.imp aeP aeQ;have la:=(jJ s.b).2.2.2.2.2;refine wy ?_;refine ei (amz ex aa) ?_;rintro _ ⟨v,ps,SC,Aq,rfl,hR⟩;have vW:=hR.len;refine wy (jy (aCa hr aii hR aa) (bX i4 (bX (BJ hR) dc)) ?_);rintro lw ⟨rows,xE,rH,MG⟩;have fX:eM lw:=Ds xE λx I c T=>by
  obtain⟨y,hy,rfl⟩:=eg.1 I;obtain⟨nm,iv,l,rfl,y4,IW,_⟩:=rH y hy;have jl:c∈[bu nm,iv]:=T;simp only[fS,p4,or_false] at jl
  rcases jl with rfl|rfl
  exact dn _;exact IW
 refine wy (jy (aCD hr aii hR WU xE fX rH aa) (bX i4 (bX (BJ hR) (bX fX dc))) ?_);rintro _ ⟨t,n,rfl,_,_,T⟩;refine rW (cN (λq=>?_) λq=>?_);have q':n≠0:=ak
 obtain⟨b1,b2,b3⟩:=bad s.r q';exact gC @q @b1 @b2 b3;have q':n=0:=ak
 have hP:zX v:=⟨_,ps,hR,WU,T q'⟩;obtain⟨SB,k1,k2,e1,e2,s1⟩:=s.aDz hP aa;obtain⟨tS,gK,ir,dr,eS,s2⟩:=s1.aDA t aa;obtain⟨aJa,tH,Gw,nJ,yS,eU⟩:=s2.NP xE rH aa;obtain⟨_,_,m2,_⟩:=jJ s.b;obtain⟨_,_,_,m3,_⟩:=jJ s1.b;obtain⟨_,_,_,_,m4,_⟩:=jJ s2.b;refine wA (fN @q @m2 (H8 hP.one) @e1) @e2 @m3 @dr @eS @m4 @nJ @yS @w1 ?_;exact⟨rfl,_,_,_,_,_,_,eU,aKO,by simp[V],aKm⟩;rintro e g ⟨rfl,pv,cF,lv,jC,kX,kT,s,Y,V,h3⟩;have fA:bz g bf 1 (.mp 1 0)=a_ bB:=by simp only[bz,s.d];rfl
 refine gC @bq.eq_1 @fA @lQ ?_;exact⟨trivial,pv,cF,lv,jC,kX,kT,s,Y,V,h3⟩;rintro e g6 ⟨rfl,pv,cF,lv,jC,kX,kT,nw,Y,V,h3⟩
 have o:∀{v:bg} {xs:List bg},cC v xs->cr v=bh:=λ{v xs} q=>aJO
 have st:=Nn (a':=bB) (b':=mv) (c':=pv) (d':=cF) (e':=lv) nw.r (by simp only[pY,sY,o hr.n,o hr.m,Fq nw.p,Fq nw.t,Fq nw.l];rfl);have la:=(jJ (bU (a:=.cells [bB,mv,pv,cF,lv] bf) (gl nw.r))).2.2.2.2.2;refine mw ((jJ nw.b).2.2.2.2.2) @st ?_;obtain⟨b_,z2⟩:=hr.af3 (g6.set 0 (.cells [bB,mv,pv,cF,lv] bf));exact nw.fin hr Y V aa _ b_ z2
end
end
section
variable{ms:List Int}
section
variable{G:Cells}{hk bB mv:bg}{rows marks:List (List bg)}
def GK(marks:List (List bg))(t:Int):Option (List bg):=if 0<=t then marks[t.toNat]? else bn
def R3(marks:List (List bg))(t:Int):GK marks t=bn\/∃(i:Nat) (x:List bg),t=(i:Int)/\marks[i]?=a_ x/\GK marks t=a_ x:=by
 cases h:GK marks t with
 |none=>exact bE rfl
 |some x=>
  right;unfold GK at h;split at h;exact⟨t.toNat,x,aa,h,rfl⟩;cases h
def RZ(s:l5 hk bB mv rows marks){t:Int}(h:GK marks t=bn):cY G bC 161 [hk,.v (.int .i64 t)] (.v (.pointer bn)):=by
 rw[s.eq];refine e3 (XZ.go ?_);have ln:=s.m.cH;rw[cM] at ln;refine wy ?_;refine cN (λq=>?_) λq=>?_;refine wy ?_;exact(bH _).done;refine wy ?_;refine cN (λbt=>?_) λbt=>?_;refine wy ?_;exact(bH _).done;exfalso;unfold GK at h;have q1:¬t<0:=ak
 rw[if_pos aa,ap1] at h;simp at bt;omega
def R0(s:l5 hk bB mv rows marks){i:Nat}{x:List bg}(I:marks[i]?=a_ x):cY G bC 161 [hk,.v (.int .i64 (i:Int))] (.fp x 0):=by
 rw[s.eq];refine e3 (XZ.go ?_);have Q:=(cL.1 I).1;have ln:=s.m.cH;rw[cM] at ln;have D:=s.hG x (cG I);have cE:ct 4 mv (.v (.int .i64 (i:Int)))=a_ (.fp x 0):=s.m.cE (x:=.agg x) aA D.ok.1;have d1:decide ((i:Int)<0)=bf:=decide_eq_false aa;refine wy ?_;obtain⟨nm,n,al,bv,rfl,l,g1,g2⟩:=D;have O:b7 [] bv bv:=by
  rcases g1 with rfl|⟨rfl,_⟩
  exact gU (iC λa _=>bH _);exact ez
 exact(b7.fp (bG (bH _) (bG (bH _) (bG (bH _) (bG O cX))))).done
def aB2(s:l5 hk bB mv rows marks):cY G bC 225 [hk] (.v (.int .i64 (marks.length:Int))):=by
 rw[s.eq];refine e3 (ajh.go ?_);have ln:=s.m.cH;rw[cM] at ln;refine wy ?_;exact(bH _).done
def aa0(marks:List (List bg))(t:Int):Int:=((GK marks t).map (aif 1)).getD 0
def aB5(s:l5 hk bB mv rows marks)(t:Int):cY G bC 226 [hk,.v (.int .i64 t)] (.v (.int .i64 (aa0 marks t))):=by
 have T:=s.clean;refine e3 (aji.go ?_);refine wy ?_
 rcases R3 marks t with h|⟨i,x,rfl,I,D⟩
 refine hU (RZ s h) (bX T (bX (dn _) dc)) ?_;unfold aa0;rw[h];refine wy ?_;exact(bH _).done;refine hU (R0 s I) (bX T (bX (dn _) dc)) ?_;unfold aa0;rw[D];obtain⟨nm,n,al,bv,rfl,_⟩:=s.hG x (cG I);have l1:∀h,bz h bf 1 (.fp (eT nm n al bv) 1)=a_ (.v (.int .i64 n)):=λh=>rfl;refine wy ?_;exact(bH _).done
def arM(s:l5 hk bB mv rows marks)(a b:Int):dM G bC 158 [hk,.v (.int .i64 a),.v (.int .i64 b)] jL:=by
 have T:=s.clean;refine ek (aiH.go ?_);refine wy ?_
 rcases R3 marks a with h|⟨i,x,rfl,I,D⟩
 refine hU (RZ s h) (bX T (bX (dn _) dc)) ?_;refine wy ?_
 rcases R3 marks b with V|⟨i2,x2,rfl,pS,rH⟩
 refine hU (RZ s V) (bX T (bX (dn _) dc)) ?_;refine wy ?_;exact ji _;refine hU (R0 s pS) (bX T (bX (dn _) dc)) ?_;refine wy ?_;exact ji _;refine hU (R0 s I) (bX T (bX (dn _) dc)) ?_;obtain⟨nm,n,al,bv,rfl,l,g1,g2⟩:=s.hG x (cG I);have l2:∀h,bz h bf 1 (.fp (eT nm n al bv) 2)=a_ (.v (.bool al)):=λh=>rfl;have l3:∀h,bz h bf 1 (.fp (eT nm n al bv) 3)=a_ bv:=λh=>rfl;refine wy ?_
 rcases R3 marks b with V|⟨i2,x2,rfl,pS,rH⟩
 refine hU (RZ s V) (bX T (bX (dn _) dc)) ?_;refine wy ?_;exact ji _;refine hU (R0 s pS) (bX T (bX (dn _) dc)) ?_;obtain⟨Y5,n2,ig,gH,rfl,_⟩:=s.hG x2 (cG pS);have l0:∀h,bz h bf 1 (.fp (eT Y5 n2 ig gH) 0)=a_ (bu Y5):=λh=>rfl;refine wy ?_;refine cN (λq=>?_) λq=>?_;refine wy ?_;exact ji _;cases al with
 |true=>
  refine wy ?_;exact ji _
 |false=>
  refine wy ?_;refine hU (Lo g1 (qI g1) aa Y5) (bX (qI g1) (bX (ux _) dc)) ?_;refine wy ?_;exact ji _
def aB8(s:l5 hk bB mv rows marks)(a b:Int):dM G bC 156 [hk,.v (.int .i64 a),.v (.int .i64 b)] jL:=by
 have T:=s.clean;refine ek (aiI.go ?_);refine wy ?_;refine cN (λq=>?_) λq=>?_;refine wy ?_;refine hU (aB2 s) (bX T dc) ?_;refine wy ?_;refine cN (λbt=>?_) λbt=>?_;refine wy ?_;refine cN (λbS=>?_) λbS=>?_;refine wy ?_;refine hU (aB5 s a) (bX T (bX (dn _) dc)) ?_;refine wy ?_;exact ji _;refine wy ?_;exact ji _;refine wy ?_;exact ji _;refine wy ?_;exact ji _
end
def acd(r:bg):Prop:=∃(n:Int) (b:Bool),r=.bQ [.v (.int .i64 n),.v (.bool b)]
def Qn{J:List br}(n:Int)(b:Bool):∃k bV,di J k (.bQ [.v (.int .i64 n),.v (.bool b)])=a_ bV/\acd bV:=by
 obtain⟨k,S⟩:=(fB (bG (bH (.int .i64 n)) (bG (bH (.bool b)) cX)):b7 J _ _).done;exact⟨k,_,S,n,b,rfl⟩
def Lj(ms:List Int):eM (.agg (ms.map d_)):=Ip λc T=>by
 obtain⟨n,_,rfl⟩:=eg.1 T;exact dn _
section
variable{G:Cells}
def avH(hl:ms.length=8)(i:Int):dM G bC 160 [.agg (ms.map d_),.v (.int .i64 i)] acd:=by
 refine ek (ajb.go ?_);refine wy ?_;refine cN (λq=>?_) λq=>?_;refine wy ?_;exact Qn _ _;refine wy ?_;refine cN (λbt=>?_) λbt=>?_;refine wy ?_;exact Qn _ _;obtain⟨m,rfl⟩:∃m:Nat,i=(m:Int):=⟨i.toNat,aq⟩;have hm:m<8:=aKJ
 obtain⟨x,I⟩:∃x,ms[m]?=a_ x:=⟨ms[m]' aa,cz _⟩;have BD:mZ 8 1 (.mp 0 0) (.v (.int .i64 (m:Int)))=a_ (.mp 0 m):=by
  unfold mZ;dsimp only;rw[if_pos ⟨aa,aa⟩];simp[mI]
 have fA:bz [bw (ms.map d_) bf] bf 1 (.mp 0 m)=a_ (.v (.int .u16 x)):=by
  show e_ bf 1 (ms.map d_) m=_;unfold e_;rw[if_neg af,fR,I];rfl
 refine wy ?_;refine cN (λbS=>?_) λbS=>?_;refine wy ?_;exact Qn _ _;refine wy ?_;exact Qn _ _
def aqr(r:bg):Prop:=∃l:List (Int×Int),cC r (l.map λx=>.agg [bq x.1,bq x.2])/\l.length<=8
def aCX(l:List (Int×Int)):cZ 2 (l.map λx=>dG [bq x.1,bq x.2])=bh:=by
 rw[cZ,eP];intro x I;obtain⟨t,_,rfl⟩:=eg.1 I;rfl
def alf(hl:ms.length=8):dM G bC 82 [.agg (ms.map d_)] aqr:=by
 refine ek (aiD.go ?_);refine wy ?_;refine dj (λi e g=>∃(l:List (Int×Int)) (bx:bg),e=[(1,.mp 0 0),(3,bx),(7,bq i)]/\g[0]?=a_ (.cells (ms.map d_) bf)/\cT g bx (l.map λx=>.agg [bq x.1,bq x.2]) 2 172/\l.length<=i) 8 ⟨[],.bp,rfl,rfl,bE ⟨rfl,rfl⟩,cj _⟩ ?_ ?_;rintro i e g Q ⟨l,bx,rfl,h0,hA,kS⟩;have d1:decide ((i:Int)<8)=bh:=decide_eq_true aa;have w1:de.wrap ((i:Int)+1)=((i+1:Nat):Int):=nx aa;refine CI (Ag h0 (n:=8) aI) ?_;refine jy (avH hl _) (bX (Lj ms) (bX (dn _) dc)) ?_;rintro r ⟨n,b,rfl⟩;cases b with
 |false=>
  refine hO @Qi @Qj ?_;exact⟨l,bx,rfl,h0,hA,aa⟩
 |true=>
  obtain⟨cl,g2,e1,fJ,_,_,S⟩:=nc (x:=.agg [bq (i:Int),bq n]) (b9:=16) hA (aCX l) rfl ag ag ah;have kp:=adn hA S;have f1:dJ [.v (.int .i64 0),.v (.int .i64 0)] [(0,1,.v (.int .i64 (i:Int))),(1,1,.v (.int .i64 n))]=a_ [bq (i:Int),bq n]:=rfl;have ab:eV 2 [.agg [bq (i:Int),bq n]]=a_ (.sl [.agg [bq (i:Int),bq n]] .exact):=rfl;refine CG @Qi @Qj @w1 @f1 @ab @e1 ?_;refine⟨l++[((i:Int),n)],cl,rfl,kp _ _ h0 af,?_,ah⟩;rw[gf];exact fJ
 rintro e g ⟨l,bx,rfl,h0,hA,kS⟩;have d1:decide (((8:Nat):Int)<8)=bf:=ag
 refine wy ?_
 rcases hA with⟨rfl,z⟩|⟨id,rfl,_⟩
 obtain⟨k,S⟩:=(ez:b7 g _ _).done;exact⟨k,_,S,l,bF ⟨rfl,z⟩,kS⟩;obtain⟨k,S⟩:=(gU (t:=.tok id) (iC (f:=λx:Int×Int=>dG [bq x.1,bq x.2]) (l:=l) λa _=>kf (bG (bH _) (bG (bH _) cX))):b7 g _ _).done;exact⟨k,_,S,l,bE rfl,kS⟩
end
end
end Go.Proofs.YtkpjaeffojibmaaGreatDoor

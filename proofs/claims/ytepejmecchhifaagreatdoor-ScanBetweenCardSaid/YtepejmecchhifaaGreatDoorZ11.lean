/- Part 11 of a proof. No condition. -/
import Derived.Test.YtepejmecchhifaaGreatDoorZ10
set_option linter.unusedVariables false
set_option linter.unusedSimpArgs false
set_option linter.defProp false
open Bool renaming true_and->JR
open Go.aH.U renaming agg->b8,cells->gN,one->bl,v->bO
open Go.aH.bU renaming nil->p4
open Go.aH.aa renaming cells->aj
open Go.aH.p_ renaming mk->bI
open Go.aH.bq renaming mono->a_,T9->dh,pure->fo,awe->gO
open Go.aH renaming Clean->dm
open Go.aH.aW renaming agg->iC,af->cX,sl->e5,aK->dQ,v->aB
open Go.aH.dK renaming cons->aA,map->fY,nil->bT
open Go.IntKind renaming i64->bP
open Go.Proofs.Tryz renaming prog->ay
open Go.Proofs.YtepejmecchhifaaGreatDoor.Ext renaming app->jU
open Go.Proofs.YtepejmecchhifaaGreatDoor.bK renaming aF->oU,many->Bs
open Int renaming eq_ofNat_of_zero_le->mI,le_refl->zk,reduceBEq->xU,reduceBNe->xV
open List renaming all_cons->l5,all_eq_true->c7,all_nil->oV,append_nil->ff,drop_drop->uy,drop_eq_getElem_cons->J4,drop_of_length_le->sO,drop_zero->ni,eq_nil_of_length_eq_zero->lG,flatten_cons->vP,getElem?_concat_length->OP,getElem?_eq_getElem->br,getElem?_eq_none_iff->ajo,getElem?_eq_some_iff->bF,getElem?_map->eo,getElem?_set_ne->av,getElem?_set_self->aO,length_append->cG,length_cons->di,length_eq_one_iff->Bw,length_map->bX,length_nil->fI,length_set->rM,length_singleton->nM,map_append->eD,map_cons->ep,map_eq_nil_iff->Wg,map_map->uA,map_nil->kn,map_set->sP,mem_append->dN,mem_cons->dW,mem_iff_getElem?->J6,mem_map->cI,mem_of_getElem?->bA,mem_of_mem_drop->rN,mem_or_eq_of_mem_set->J7,mem_replicate->ajs,mem_singleton->cw,nil_append->eH,not_mem_nil->nN,pairwise_cons->ajt,replicate->dJ,set_eq_take_append_cons_drop->ajy,sum_cons->vU,sum_nil->DG,take_length->p8,take_of_length_le->lH,take_zero->ou
open Nat renaming add_assoc->kK,add_zero->nP,eq_zero_or_pos->zn,le_refl->bg,le_trans->fy,lt_or_ge->cH,lt_succ_self->zo,min_eq_left->F5,mul_le_mul_right->mJ,one_mul->Bz,reduceAdd->rO,reduceEqDiff->sU,reduceLT->sV,reduceLeDiff->sW,succ_mul->qK,zero_add->e6,zero_le->iE,zero_lt_succ->vV
open Ne renaming symm->dj
open Option.some renaming inj->l7
open Or renaming inl->ax,inr->az
namespace Go.Proofs.YtepejmecchhifaaGreatDoor
open Go Go.aH Go.RowKit
section
variable{N i j:Nat}{l m:List Int}
def nT(N:Nat)(l:List Int):Prop:=l.Pairwise (· < ·)/\∀x∈l,(0:Int)<=x/\x<(N:Int)
def agN:∀(l:List Int) (a b:Int),a<=b->l.Pairwise (· < ·)->(∀x∈l,a<=x/\x<b)->(l.length:Int)<=b-a
 |[],a,b,h,_,_=>aCv
 |x::r,a,b,h,J,O=>by
  rw[ajt] at J;have Y:=O x aCt;have:=agN r (x+1) b aCs J.2 λy hy=>⟨by have:=J.1 y hy;omega,(O y aCZ).2⟩;rw[di];omega
def nT.len(h:nT N l):l.length<=N:=by
 have:=agN l 0 (N:Int) aCs h.1 h.2;omega
def nT.nil(N:Nat):nT N []:=⟨List.Pairwise.nil,aCt⟩
def nT.one{n:Nat}(h:n<N):nT N [(n:Int)]:=⟨aCt,λx I=>by rw[cw.1 I];omega⟩
def nT.mono{M:Nat}(h:nT N l)(hm:N<=M):nT M l:=⟨h.1,λx I=>⟨(h.2 x I).1,by have:=(h.2 x I).2;omega⟩⟩
def Uf{a:Int}(h:l.Pairwise (· < ·))(ha:l[i]?=some a):(∀y∈l.drop (i+1),a<y)/\(∀y∈l.drop i,a<=y)/\a∈l.drop i:=by
 have hl:=gl ha;have e:l.drop i=a::l.drop (i+1):=by
  rw[J4 hl];rw[br hl] at ha;rw[l7 ha]
 have hd:(l.drop i).Pairwise (· < ·):=h.sublist (List.drop_sublist i l);rw[e,ajt] at hd;refine⟨hd.1,λy hy=>?_,by rw[e];simp⟩;rw[e] at hy
 rcases dW.1 hy with rfl|hy
 exact zk _;exact Int.le_of_lt (hd.1 y hy)
def afh{y:Int}(h:i<=j)(hy:y∈l.drop j):y∈l.drop i:=by
 have e:l.drop j=(l.drop i).drop (j-i):=by rw[uy];congr 1;omega
 rw[e] at hy;exact rN hy
structure ya(l m:List Int)(i j:Nat)(o:List Int):Prop where
 Q:i<=l.length
 hj:j<=m.length
 hn:o.length<=i+j
 p:o.Pairwise (· < ·)
 hm:∀x∈o,x∈l\/x∈m
 a:∀x∈o,∀y∈l.drop i,x<y
 b:∀x∈o,∀y∈m.drop j,x<y
def ya.push{o:List Int}{i' j':Nat}{z:Int}(h:ya l m i j o)(Y:i<=i')(V:j<=j')(h3:i'<=l.length)(h4:j'<=m.length)(h5:i+j<i'+j')(hz:z∈l.drop i\/z∈m.drop j)(ha:∀y∈l.drop i',z<y)(O:∀y∈m.drop j',z<y):ya l m i' j' (o++[z]):=by
 refine⟨h3,h4,?_,?_,?_,?_,?_⟩;have:=h.hn;rw[cG,nM];omega;rw[List.pairwise_append];refine⟨h.p,aCt,λx I y hy=>?_⟩;rw[cw.1 hy];exact hz.elim (h.a x I z) (h.b x I z);intro x I
 rcases dN.1 I with q|q
 exact h.hm x q;rw[cw.1 q];exact hz.elim (λq=>ax (rN q)) λq=>az (rN q);intro x I y hy
 rcases dN.1 I with q|q
 exact h.a x q y (afh Y hy);rw[cw.1 q];exact ha y hy;intro x I y hy
 rcases dN.1 I with q|q
 exact h.b x q y (afh V hy);rw[cw.1 q];exact O y hy
def Zb(h:l.length<=i){P:Int->Prop}:∀y∈l.drop i,P y:=λy hy=>by
 rw[sO h] at hy;cases hy
def aj2(N:Nat)(r:U):Prop:=∃o:List Int,bH r (o.map ag)/\nT N o
def avS{G:Cells}{v w:U}(hv:bH v (l.map ag))(hw:bH w (m.map ag))(hl:nT N l)(hm:nT N m)(hN:N<=1000000):cC G ay 214 [v,w] (aj2 N):=by
 have mU:=hl.len;have hml:=hm.len;refine cU (asA.go ?_);have ln:=hv.bL;rw[bX] at ln;have jN:∀J,bL v J=some (.v (.int .i64 (l.length:Int)),J):=λJ=>aDf
 have lm:=hw.bL;rw[bX] at lm;have CO:∀J,bL w J=some (.v (.int .i64 (m.length:Int)),J):=λJ=>by rw[lm J,kT]
 refine wy ?_;refine nh (n:=l.length+m.length) (λk e h=>∃(i j:Nat) (o:List Int) (ak:U),k=(l.length-i)+(m.length-j)/\ya l m i j o/\e=[(0,v),(1,w),(5,ak),(6,ag i),(7,ag j)]/\bU h ak (o.map ag) 1 3) ⟨0,0,[],.af,rfl,⟨aCs,aCs,aCt,List.Pairwise.nil,aCt,aCt,aCt⟩,rfl,p4 _ _ _⟩ ?_;rintro k e h ⟨i,j,o,ak,rfl,hI,rfl,hA⟩;have Q:=hI.Q;have hj:=hI.hj;have ho:=hI.hn;have push:∀z:Int,∃bf g,cM h 1 8 3 ak (.sl [.v (.int .i64 z)] .exact)=some (bf,g)/\bU g bf ((o++[z]).map ag) 1 3:=λz=>by
  obtain⟨bf,g,e1,dS,_⟩:=kQ (x:=.v (.int .i64 z)) (aZ:=8) hA (C0 o) rfl aCu aCu aCv;exact⟨bf,g,e1,aDb⟩
 have w1:bP.wrap ((i:Int)+1)=((i+1:Nat):Int):=jd aCs;have w2:bP.wrap ((j:Int)+1)=((j+1:Nat):Int):=jd aCs
 rcases cH i l.length with hi2|hi2
 obtain⟨a,ha⟩:=cF hi2;have Ir:bw 1 v (.v (.int .i64 (i:Int)))=some (.fp [ag a] 0):=hv.bC (x:=ag a) (by simp[ha]) rfl;unfold ag at Ir;obtain⟨a1,a2,a3⟩:=Uf hl.1 ha;obtain⟨bf,g,e1,e2⟩:=push a
 rcases cH j m.length with hj2|hj2
 obtain⟨b,O⟩:=cF hj2;have CB:bw 1 w (.v (.int .i64 (j:Int)))=some (.fp [ag b] 0):=hw.bC (x:=ag b) aEe rfl;unfold ag at CB;obtain⟨b1,b2,b3⟩:=Uf hm.1 O;obtain⟨Uk,g2,d1,d2⟩:=push b
 rcases Int.lt_trichotomy a b with hab|hab|hab
 · have fin:ya l m (i+1) j (o++[a]):=hI.push aCs aCs aCs aCs aCs (ax a3) a1 λy hy=>Int.lt_of_lt_of_le hab (b2 y hy)
   refine sJ @ag.eq_1 @jN @CO @Ir @CB @e1 @d1 @w1 @w2 ?_
   repeat' ((refine ba (λq'=>?_) λq'=>?_)<;>refine mF (cu @jN @CO @Ir @CB) @tC @wm @e1 @d1 @w1 @w2 ?_)
   all_goals first
    |(exfalso;omega)
    |exact⟨(l.length-(i+1))+(m.length-j),aCs,i+1,j,o++[a],bf,rfl,fin,rfl,e2⟩
 · subst hab
   have fin:ya l m (i+1) (j+1) (o++[a]):=hI.push aCs aCs aCs aCs aCs (ax a3) a1 b1;have aoE:(a==a)=true:=beq_self_eq_true a;refine wy ?_
   repeat' ((refine ba (λq'=>?_) λq'=>?_)<;>refine mF (cu @jN @CO @Ir @CB) @tC @wm @e1 @w1 @w2 @aoE ?_)
   all_goals first
    |(exfalso;omega)
    |exact⟨(l.length-(i+1))+(m.length-(j+1)),aCs,i+1,j+1,o++[a],bf,rfl,fin,rfl,e2⟩
 · have fin:ya l m i (j+1) (o++[b]):=hI.push aCs aCs aCs aCs aCs (az b3) (λy hy=>Int.lt_of_lt_of_le hab (a2 y hy)) b1
   refine wy ?_
   repeat' ((refine ba (λq'=>?_) λq'=>?_)<;>refine mF (cu @jN @CO @Ir @CB) @tC @wm @e1 @d1 @w1 @w2 ?_)
   all_goals first
    |(exfalso;omega)
    |exact⟨(l.length-i)+(m.length-(j+1)),aCs,i,j+1,o++[b],Uk,rfl,fin,rfl,d2⟩
 have fin:ya l m (i+1) j (o++[a]):=hI.push aCs aCs aCs aCs aCs (ax a3) a1 (Zb hj2);refine wy ?_;exact⟨(l.length-(i+1))+(m.length-j),aCs,i+1,j,o++[a],bf,rfl,fin,rfl,e2⟩
 rcases cH j m.length with hj2|hj2
 obtain⟨b,O⟩:=cF hj2;have CB:bw 1 w (.v (.int .i64 (j:Int)))=some (.fp [ag b] 0):=hw.bC (x:=ag b) aEe rfl;unfold ag at CB;obtain⟨b1,b2,b3⟩:=Uf hm.1 O;obtain⟨Uk,g2,d1,d2⟩:=push b;have apo:((j:Int)==(m.length:Int))=false:=KM aCs;have fin:ya l m i (j+1) (o++[b]):=hI.push aCs aCs aCs aCs aCs (az b3) (Zb hi2) b1;refine kY @ag.eq_1 @jN @CO @apo ?_;refine wy ?_;refine wy ?_;exact⟨(l.length-i)+(m.length-(j+1)),aCs,i,j+1,o++[b],Uk,rfl,fin,rfl,d2⟩;refine wy ?_;have hR:nT N o:=⟨hI.p,λx I=>(hI.hm x I).elim (hl.2 x) (hm.2 x)⟩
 rcases hA with⟨rfl,z⟩|⟨id,rfl,_⟩
 obtain⟨n,hn⟩:=(cX:aW h _ _).done;exact⟨n,_,hn,[],az ⟨rfl,rfl⟩,nT.nil N⟩;obtain⟨n,hn⟩:=(e5 (t:=.tok id) (fY (f:=ag) (l:=o) λa _=>aB _):aW h _ _).done;exact⟨n,_,hn,o,ax rfl,hR⟩
end
section
variable{bv ev fv o0 ak v w fc xf:U}{M N an c6:Nat}{G:Cells}{J hp':List aa}{Z z:List U}{em oq:Bool}
def nS(v:U)(l:List Int):Prop:=(v=.af/\l=[])\/∃t,v=.sl (l.map ag) t
def alE(l:List Int):∀x∈l.map ag,∀c∈x.cells,dm c:=λx I c T=>by
 obtain⟨t,_,rfl⟩:=cI.1 I;rw[cw.1 (show c∈[ag t] from T)];exact cm _
section
variable{v:U}{l:List Int}
def nS.imp(h:nS v l):∃v',lK v v'/\bH v' (l.map ag):=by
 rcases h with⟨rfl,rfl⟩|⟨t,rfl⟩
 exact⟨.af,mh,az ⟨rfl,rfl⟩⟩;exact⟨.sl (l.map ag) .no,j0 (alE l),ax rfl⟩
def nS.one(h:nS v l):bl v=true:=by rcases h with⟨rfl,_⟩|⟨t,rfl⟩<;>rfl
@[go_sem]def nS.len(h:nS v l)(J:List aa):bL v J=some (.v (.int .i64 (l.length:Int)),J):=by
 rcases h with⟨rfl,rfl⟩|⟨t,rfl⟩
 rfl;rw[m_,bX,kT]
@[go_sem]def nS.bC(h:nS v l){i:Nat}{x:Int}(I:l[i]?=some x):bw 1 v (.v (.int .i64 (i:Int)))=some (.fp [.v (.int .i64 x)] 0):=by
 rcases h with⟨rfl,rfl⟩|⟨t,rfl⟩
 simp at I;exact jY (x:=ag x) aCG rfl
def nS.fz(h:nS v l)(J:List aa):∃v',aW J v v'/\bH v' (l.map ag):=by
 rcases h with⟨rfl,rfl⟩|⟨t,rfl⟩
 exact⟨.af,cX,az ⟨rfl,rfl⟩⟩;exact⟨_,e5 (fY (f:=ag) (l:=l) λa _=>aB _),ax rfl⟩
def vA(h:bH v (l.map ag)):nS v l:=by
 rcases h with rfl|⟨rfl,q⟩
 exact az ⟨_,rfl⟩;exact ax ⟨rfl,Wg.1 q⟩
end
def nY(h:bl w=true):w.cells=[w]:=by cases w<;>first|rfl|cases h
def fK(N:Nat)(v:U):Prop:=∃l,nS v l/\nT N l
def fK.nil(N:Nat):fK N .af:=⟨[],ax ⟨rfl,rfl⟩,nT.nil N⟩
def fK.one(h:fK N v):bl v=true:=by obtain⟨l,Y,_⟩:=h;exact Y.one
def fK.mono(h:fK N v)(hm:N<=M):fK M v:=by obtain⟨l,Y,V⟩:=h;exact⟨l,Y,V.mono hm⟩
def Fc{K:U->List aa->Prop}(hv:fK N v)(hw:fK N w)(hN:N<=256)(S:∀r,fK N r->K r J):bq G ay 214 [v,w] J K:=by
 obtain⟨l,Y,V⟩:=hv;obtain⟨m,k1,k2⟩:=hw;obtain⟨v',a1,a2⟩:=Y.imp;obtain⟨w',b1,b2⟩:=k1.imp;exact dh (avS a2 b2 V k2 aCs) λr ⟨o,q1,ah⟩=>S r ⟨o,(vA q1),ah⟩
def kM(N M:Nat)(bv:U)(J:List aa):Prop:=∃Z:List U,Z.length=M/\(∀c∈Z,fK N c)/\((bv=.af/\Z=[])\/∃k,bv=.rs k M 1 0 M/\J[k]?=some (.cells Z true))
@[go_sem]def Ja{p:Nat}{r:U}(h:p<Z.length):putAt Z p [r]=Z.set p r:=by
 rw[ajy,if_pos h];unfold putAt;simp
section
variable{N M p:Nat}{bv:U}{J hp':List aa}
def kM.ext(h:kM N M bv J)(S:∀(j:Nat) Z,J[j]?=some (.cells Z true)->hp'[j]?=some (.cells Z true)):kM N M bv hp':=by
 obtain⟨Z,Y,V,h3⟩:=h;refine⟨Z,Y,V,h3.elim ax ?_⟩;rintro⟨k,e,q⟩;exact az ⟨k,e,S k Z q⟩
def kM.mono{N':Nat}(h:kM N M bv J)(hN:N<=N'):kM N' M bv J:=by
 obtain⟨Z,Y,V,h3⟩:=h;exact⟨Z,Y,λc T=>(V c T).mono hN,h3⟩
def kM.one(h:kM N M bv J):bl bv=true:=by
 obtain⟨Z,_,_,⟨rfl,_⟩|⟨k,rfl,_⟩⟩:=h<;>rfl
structure Gn(J hp':List aa):Prop where
 len:hp'.length=J.length
 keep:∀(j:Nat) b,J[j]?=some b->(∀Z,b≠.cells Z true)->hp'[j]?=some b
def kM.at(h:kM N M bv J)(abt:p<M):∃k c,bw 1 bv (.v (.int .i64 (p:Int)))=some (.rp k M p)/\aq J false 1 (.rp k M p)=some c/\fK N c/\∀r,fK N r->∃hp',aE J 1 (.rp k M p) r=some hp'/\kM N M bv hp'/\Gn J hp':=by
 obtain⟨Z,Y,V,⟨rfl,rfl⟩|⟨k,rfl,S⟩⟩:=h;simp at Y;omega;subst Y;have hlt:p<Z.length:=abt;obtain⟨c,T⟩:=cF hlt;have cV:=gl S;refine⟨k,c,?_,?_,V c (bA T),λr D=>⟨J.set k (.cells (Z.set p r) true),?_,⟨Z.set p r,by rw[rM],λx I=>?_,az ⟨k,rfl,aO cV⟩⟩,⟨by rw[rM],λj b hj O=>?_⟩⟩⟩;have:=NM (k:=k) (m:=Z.length) (n:=1) (len:=Z.length) (j:=p) abt;rw[Nat.mul_one] at this;exact this;simp only[aq,S,if_true,dI];rw[if_neg aCt];exact T;have cO:=nY D.one;simp only[aE,S,if_true,dG,cO];rw[if_pos ⟨rfl,aCs,by simp[D.one]⟩,Ja hlt]
 rcases J7 I with q|rfl
 exact V x q;exact D;rw[av aD3];exact hj
end
section
variable{h:List aa}{k:Nat}{a b c d e w:U}
@[go_sem]def g_(O:h[k]?=some (.cells [a,b,c,d,e] false)):aq h false 1 (.mp k 0)=some a/\aq h false 1 (.mp k 1)=some b/\aq h false 1 (.mp k 2)=some c/\aq h false 1 (.mp k 3)=some d/\aq h false 1 (.mp k 4)=some e/\aq h true 5 (.mp k 0)=some (.agg [a,b,c,d,e]):=by
 simp only[aq,O];exact⟨rfl,rfl,rfl,rfl,rfl,rfl⟩
@[go_sem]def oa(O:h[k]?=some (.cells [a,b,c,d,e] false))(hw:bl w=true):aE h 1 (.mp k 0) w=some (h.set k (.cells [w,b,c,d,e] false))/\aE h 1 (.mp k 1) w=some (h.set k (.cells [a,w,c,d,e] false))/\aE h 1 (.mp k 2) w=some (h.set k (.cells [a,b,w,d,e] false))/\aE h 1 (.mp k 3) w=some (h.set k (.cells [a,b,c,w,e] false))/\aE h 1 (.mp k 4) w=some (h.set k (.cells [a,b,c,d,w] false)):=by
 have cO:=nY hw;refine⟨?_,?_,?_,?_,?_⟩<;>simp only[aE,O,dG,cO]<;>simp[hw,putAt]
@[go_sem]def IN{a' b' c' d' e':U}(O:h[k]?=some (.cells [a,b,c,d,e] false))(hw:[a',b',c',d',e'].all bl=true):aE h 5 (.mp k 0) (.agg [a',b',c',d',e'])=some (h.set k (.cells [a',b',c',d',e'] false)):=by
 have cO:(b8 [a',b',c',d',e']).cells=[a',b',c',d',e']:=rfl;simp only[aE,O,dG,cO];rw[if_pos ⟨rfl,aCt,hw⟩];simp[putAt]
end
structure gH(c6:Nat)(J hp':List aa):Prop where
 len:J.length<=hp'.length
 keep:∀(j:Nat) b,J[j]?=some b->j≠c6->(∀Z,b≠.cells Z true)->hp'[j]?=some b
def gH.refl(c6:Nat)(J:List aa):gH c6 J J:=⟨bg _,λ_ _ h _ _=>h⟩
def gH.app{x:List aa}:gH c6 J (J++x):=⟨aCt,λ_ _ h _ _=>aJ h⟩
def gH.trans{a b c:List aa}(h:gH c6 a b)(k:gH c6 b c):gH c6 a c:=⟨fy h.len k.len,λj x q Y V=>k.keep j x (h.keep j x q Y V) Y V⟩
def Gn.ay9(h:Gn J hp'):gH c6 J hp':=⟨by rw[h.len];exact bg _,λj b q _ V=>h.keep j b q V⟩
def gH.set{b:aa}:gH c6 J (J.set c6 b):=⟨aCt,λj x q Y _=>by rw[av (dj Y)];exact q⟩
structure zB(N M c6:Nat)(o0 bv:U)(J:List aa)(xc:List U)(fv ev:U)(em:Bool)(h:List aa):Prop where
 o:h[c6]?=some (.cells [o0,bv,fv,ev,.v (.bool em)] false)
 x:h[J.length]?=some (.cells xc false)
 b:kM N M bv h
 k:gH c6 J h
def zB.put{h:List aa}{xc:List U}(s:zB N M c6 o0 bv J xc fv ev em h)(hl:c6<J.length)(jI ev':U)(tv:Bool):zB N M c6 o0 bv J xc jI ev' tv (h.set c6 (.cells [o0,bv,jI,ev',.v (.bool tv)] false)):=by
 have S:=gl s.o;refine⟨aO S,by rw[av aCs];exact s.x,s.b.ext λj Z q=>?_,s.k.trans gH.set⟩;rw[av (by rintro rfl;rw[s.o] at q;simp at q)];exact q
def ay_(O:J[c6]?=some (.cells [o0,bv,fv,ev,.v (.bool em)] false))(hf:fK N fv)(he:fK N ev)(hB:kM N M bv J)(n8:fK N xf)(mz:fK N fc)(hNM:N<=M)(hN:N<=256):
  bq G ay 257 [.mp c6 0,.agg [.af,.af,xf,fc,.v (.bool oq)]] J λr hp'=>r=.aK []/\∃jI ev' tv,hp'[c6]?=some (.cells [o0,bv,jI,ev',.v (.bool tv)] false)/\fK N jI/\fK N ev'/\kM N M bv hp'/\gH c6 J hp':=by
 have cV:=gl O;refine asK.go ?_;refine cB (λe h=>e=[(0,.mp c6 0),(3,.mp J.length 0)]/\zB N M c6 o0 bv J [.af,.af,xf,fc,.v (.bool oq)] fv ev em h) ?_ ?_;refine wx ?_;exact⟨trivial,aJ O,aCt,hB.ext λj Z q=>aJ q,gH.app⟩;rintro e h0 ⟨rfl,fF⟩;obtain⟨el,Ai,w8⟩:=he;have hel:=w8.len;refine cB (λe h=>e=[(0,.mp c6 0),(3,.mp J.length 0)]/\zB N M c6 o0 bv J [.af,.af,xf,fc,.v (.bool oq)] fv ev em h) ?_ ?_;refine wy ?_;refine b9 (λi e h=>e=[(0,.mp c6 0),(3,.mp J.length 0),(4,ag i)]/\zB N M c6 o0 bv J [.af,.af,xf,fc,.v (.bool oq)] fv ev em h) el.length ⟨rfl,fF⟩ ?_ ?_;rintro i e h Q ⟨rfl,s⟩;obtain⟨x,I⟩:=cF Q;obtain⟨x0,x1⟩:=w8.2 x (bA I);obtain⟨p,rfl⟩:=mI x0;obtain⟨k,c,a1,a2,a3,a4⟩:=s.b.at (p:=p) aCs;obtain⟨l0,l1,l2,l3,l4,_⟩:=g_ s.o;obtain⟨m0,m1,m2,m3,m4,_⟩:=g_ s.x;have aqE:=Ai.bC I;refine p0 @Ai.len (Fc a3 n8 hN λr D=>?_);obtain⟨h',b1,b2,b3⟩:=a4 r D;refine mF (cu @ag.eq_1 @l1 @l3 @Ai.len) @aqE @a1 @a2 @m2 @b1 @qB ?_;exact⟨b3.keep _ _ s.o aCt,b3.keep _ _ s.x aCt,b2,s.k.trans b3.ay9⟩;rintro e h ⟨rfl,s⟩;obtain⟨l0,l1,l2,l3,l4,_⟩:=g_ s.o;refine fm @ag.eq_1 @l3 ?_;exact⟨trivial,s⟩;rintro e Y ⟨rfl,s1⟩;refine cB (λe h=>e=[(0,.mp c6 0),(3,.mp J.length 0)]/\∃jI,fK N jI/\zB N M c6 o0 bv J [.af,.af,xf,fc,.v (.bool oq)] jI ev em h) ?_ ?_;obtain⟨l0,l1,l2,l3,l4,_⟩:=g_ s1.o;obtain⟨m0,m1,m2,m3,m4,_⟩:=g_ s1.x;cases em with
 |false=>
  refine wx ?_;exact⟨trivial,fv,hf,s1⟩
 |true=>
  refine wy (Fc hf n8 hN λr D=>?_);obtain⟨t0,t1,t2,t3,t4⟩:=oa s1.o D.one;refine wx ?_;exact⟨trivial,r,D,s1.put cV r ev true⟩
 rintro e V ⟨rfl,jI,hf',s2⟩;have he:fK N ev:=⟨el,Ai,w8⟩;refine cB (λe h=>e=[(0,.mp c6 0),(3,.mp J.length 0)]/\∃ev',fK N ev'/\zB N M c6 o0 bv J [.af,.af,xf,fc,.v (.bool oq)] jI ev' em h) ?_ ?_;obtain⟨l0,l1,l2,l3,l4,_⟩:=g_ s2.o;obtain⟨m0,m1,m2,m3,m4,_⟩:=g_ s2.x;cases oq with
 |false=>
  obtain⟨t0,t1,t2,t3,t4⟩:=oa s2.o mz.one;refine wx ?_;exact⟨trivial,fc,mz,s2.put cV jI fc em⟩
 |true=>
  refine wy (Fc he mz hN λr D=>?_);obtain⟨t0,t1,t2,t3,t4⟩:=oa s2.o D.one;refine wx ?_;exact⟨trivial,r,D,s2.put cV jI r em⟩
 rintro e h3 ⟨rfl,ev',he',cW⟩;obtain⟨l0,l1,l2,l3,l4,_⟩:=g_ cW.o;obtain⟨m0,m1,m2,m3,m4,_⟩:=g_ cW.x;have fin:∀b:Bool,aE h3 1 (.mp c6 4) (.v (.bool b))=some (h3.set c6 (.cells [o0,bv,jI,ev',.v (.bool b)] false)):=λb=>(oa cW.o (w:=.v (.bool b)) rfl).2.2.2.2;have He:∀b:Bool,∃Z8 Zr amw,(h3.set c6 (.cells [o0,bv,jI,ev',.v (.bool b)] false))[c6]?=some (.cells [o0,bv,Z8,Zr,.v (.bool amw)] false)/\fK N Z8/\fK N Zr/\kM N M bv (h3.set c6 (.cells [o0,bv,jI,ev',.v (.bool b)] false))/\gH c6 J (h3.set c6 (.cells [o0,bv,jI,ev',.v (.bool b)] false)):=λb=>by
  have q:=cW.put cV jI ev' b;exact⟨jI,ev',b,q.o,hf',he',q.b,q.k⟩
 cases em with
 |false=>
  refine fm @l4 @fin ?_;exact⟨trivial,He _⟩
 |true=>
  refine eV @l4 @m4 @fin ?_;exact⟨trivial,He _⟩
structure qO(an:Nat)(z:List U)(N:Nat)(ak bv:U)(J:List aa):Prop where
 b:J[an]?=some (.cells (ak::bv::z) false)
 on:∃xs,bU J ak xs 1 31/\xs.length=N/\∀x∈xs,∃l,nS x l/\l.length<=256/\∀y∈l,(0:Int)<=y/\y<256
 bt:kM N N bv J
def qO.mE(h:qO an z N ak bv J)(S:gH c6 J hp')(ho:J[c6]?=some (.cells Z false))(hne:c6≠an)(hB:kM N N bv hp'):qO an z N ak bv hp':=by
 refine⟨S.keep _ _ h.b (dj hne) aCt,?_,hB⟩;obtain⟨xs,Y,V,h3⟩:=h.on;refine⟨xs,Y.elim ax ?_,V,h3⟩;rintro⟨id,q1,ah⟩;exact az ⟨id,q1,S.keep _ _ ah (by rintro rfl;rw[ho] at ah;cases ah) aCt⟩
def axL(hX:qO an z N ak bv J)(O:J[c6]?=some (.cells [.af,.af,fv,ev,.v (.bool em)] false))(hne:c6≠an)(hf:fK N fv)(he:fK N ev)(n8:fK N xf)(mz:fK N fc)(hN:N<=256):
  bq G ay 215 [.mp an 0,.mp c6 0,.agg [.af,.af,xf,fc,.v (.bool oq)]] J λr hp'=>r=.aK []/\qO an z N ak bv hp'/\gH c6 J hp'/\∃jI ev' tv,hp'[c6]?=some (.cells [.af,.af,jI,ev',.v (.bool tv)] false)/\fK N jI/\fK N ev':=by
 have cV:=gl O;refine asB.go ?_;have hcl:(b8 [.af,.af,xf,fc,.v (.bool oq)]).cells=[.af,.af,xf,fc,.v (.bool oq)]:=rfl;have g1:(J++[aj [.af,.af,xf,fc,.v (.bool oq)] false])[c6]?=some (.cells [.af,.af,fv,ev,.v (.bool em)] false):=aJ O;have g2:(J++[aj [.af,.af,xf,fc,.v (.bool oq)] false])[an]?=some (.cells (ak::bv::z) false):=aJ hX.b;have g3:(J++[aj [.af,.af,xf,fc,.v (.bool oq)] false])[J.length]?=some (.cells [.af,.af,xf,fc,.v (.bool oq)] false):=aCt
 have k1:gH c6 J (J++[aj [.af,.af,xf,fc,.v (.bool oq)] false]):=gH.app;have J9:kM N N bv (J++[aj [.af,.af,xf,fc,.v (.bool oq)] false]):=hX.bt.ext λj Z q=>aJ q;refine oS ?_;generalize J++[aj [.af,.af,xf,fc,.v (.bool oq)] false]=g at g1 g2 g3 k1 J9⊢;obtain⟨t0,t1,t2,t3,t4⟩:=oa g1 hX.bt.one;have ja:=gl g1;have u1:(g.set c6 (.cells [.af,bv,fv,ev,.v (.bool em)] false))[c6]?=some (.cells [.af,bv,fv,ev,.v (.bool em)] false):=aO ja;have u2:(g.set c6 (.cells [.af,bv,fv,ev,.v (.bool em)] false))[J.length]?=some (.cells [.af,.af,xf,fc,.v (.bool oq)] false):=by rw[av aCs];exact g3
 have k2:gH c6 J (g.set c6 (.cells [.af,bv,fv,ev,.v (.bool em)] false)):=k1.trans gH.set;have jV:kM N N bv (g.set c6 (.cells [.af,bv,fv,ev,.v (.bool em)] false)):=J9.ext λj Z q=>by
  rw[av (by rintro rfl;rw[g1] at q;simp at q)];exact q
 refine wx (a_ (ay_ u1 hf he jV n8 mz (bg _) hN) ?_);rintro _ g4 ⟨rfl,jI,ev',tv,v1,v2,v3,v4,v5⟩;have apc:=gl v1;have dY:gH c6 J (g4.set c6 (.cells [.af,.af,jI,ev',.v (.bool tv)] false)):=(k2.trans v5).trans gH.set;have F8:kM N N bv (g4.set c6 (.cells [.af,.af,jI,ev',.v (.bool tv)] false)):=v4.ext λj Z q=>by
  rw[av (by rintro rfl;rw[v1] at q;simp at q)];exact q
 refine e3 ?_;exact⟨trivial,hX.mE dY O hne F8,dY,jI,ev',tv,aO apc,v2,v3⟩
end
open Go.Proofs.YtepejmecchhifaaGreatDoor.fK renaming nil->Bt
section
variable{M N k an c6 m:Nat}{Z z:List U}{g h h' J x:List aa}
def iS(N:Nat)(Z:List U):Prop:=∃f e b,Z=[.af,.af,f,e,.v (.bool b)]/\fK N f/\fK N e
def z5:List U:=[.af,.af,.af,.af,.v (.bool false)]
def iS.mono(h:iS N Z)(hm:N<=M):iS M Z:=by
 obtain⟨f,e,b,rfl,Y,V⟩:=h;exact⟨f,e,b,rfl,Y.mono hm,V.mono hm⟩
def iS.z5(N:Nat):iS N z5:=⟨_,_,_,rfl,Bt N,Bt N⟩
def iS.one(h:iS N Z):Z.length=5/\Z.all bl=true:=by
 obtain⟨f,e,b,rfl,Y,V⟩:=h;refine⟨rfl,?_⟩;simp only[l5,oV,Y.one,V.one];rfl
@[go_sem]def I6(h:iS N Z){cs0:List U}(S:g[k]?=some (.cells cs0 false))(h0:cs0.length=5):aE g 5 (.mp k 0) (.agg Z)=some (g.set k (.cells Z false)):=by
 obtain⟨Y,V⟩:=h.one;simp only[aE,S,dG];have cO:(b8 Z).cells=Z:=rfl;rw[cO,if_pos ⟨Y,aCs,V⟩];unfold putAt;rw[ou,eH,sO aCs,ff]
@[go_sem]def yS(h:iS N Z)(g:List aa):aE (g++[.cells z5 false]) 5 (.mp g.length 0) (.agg Z)=some (g++[.cells Z false]):=by
 rw[I6 h (cs0:=z5) aCt rfl];simp
@[go_sem]def vo(S:g[k]?=some (.cells Z false))(h0:Z.length=5):aq g true 5 (.mp k 0)=some (.agg Z):=by
 simp only[aq,S];unfold dI;rw[if_pos rfl,if_pos aCs,ni,lH aCs]
structure mK(an:Nat)(J hp':List aa):Prop where
 len:J.length<=hp'.length
 wH:∀(j:Nat) Z,j≠an->J[j]?=some (.cells Z false)->hp'[j]?=some (.cells Z false)
 tok:∀(j:Nat) c,J[j]?=some (.tok c 5 195)->hp'[j]?=some (.tok c 5 195)
def mK.refl(an:Nat)(J:List aa):mK an J J:=⟨bg _,λ_ _ _ h=>h,λ_ _ h=>h⟩
def mK.trans{a b c:List aa}(h:mK an a b)(k:mK an b c):mK an a c:=⟨fy h.len k.len,λj x q ah=>k.wH j x q (h.wH j x q ah),λj x q=>k.tok j x (h.tok j x q)⟩
def mK.app:mK an J (J++x):=⟨aCt,λ_ _ _ h=>aJ h,λ_ _ h=>aJ h⟩
def mK.mE(s:mK an J h)(t:gH c6 h h')(hl:J.length<=c6):mK an J h':=⟨fy s.len t.len,λj Z q ah=>by
 have:=gl ah;exact t.keep j _ (s.wH j Z q ah) aCs aCt,λj c ah=>by
 have:=gl ah;exact t.keep j _ (s.tok j c ah) aCs aCt⟩
def iR(N:Nat)(h:List aa)(m:Nat):Prop:=∃Z,h[m]?=some (.cells Z false)/\iS N Z
def iR.mono(s:iR N h m)(hm:N<=M):iR M h m:=by
 obtain⟨Z,Y,V⟩:=s;exact⟨Z,Y,V.mono hm⟩
def iR.mE(s:iR N h m)(t:gH c6 h h')(hne:m≠c6):iR N h' m:=by
 obtain⟨Z,Y,V⟩:=s;exact⟨Z,t.keep _ _ Y hne aCt,V⟩
def iR.lay(s:iR N h m)(t:mK an h h')(hne:m≠an):iR N h' m:=by
 obtain⟨Z,Y,V⟩:=s;exact⟨Z,t.wH _ _ hne Y,V⟩
def iR.app(s:iR N h m):iR N (h++x) m:=by
 obtain⟨Z,Y,V⟩:=s;exact⟨Z,aJ Y,V⟩
def iR.new(s:iS N Z):iR N (h++[.cells Z false]) h.length:=⟨Z,aCt,s⟩
def o5(an:Nat)(z:List U)(N:Nat)(J:List aa):Prop:=∃ak bv,qO an z N ak bv J
def o5.app(h:o5 an z N J):o5 an z N (J++x):=by
 obtain⟨ak,bv,h⟩:=h;refine⟨ak,bv,aJ h.b,?_,h.bt.ext λj Z q=>aJ q⟩;obtain⟨xs,Y,V,h3⟩:=h.on;refine⟨xs,Y.elim ax ?_,V,h3⟩;rintro⟨id,q1,ah⟩;exact az ⟨id,q1,aJ ah⟩
def o5.mE{hp':List aa}(h:o5 an z N J)(S:gH c6 J hp')(ho:J[c6]?=some (.cells Z false))(hne:c6≠an)(D:∀(j:Nat) Z,J[j]?=some (.cells Z true)->hp'[j]?=some (.cells Z true)):o5 an z N hp':=by
 obtain⟨ak,bv,h⟩:=h;exact⟨ak,bv,h.mE S ho hne (h.bt.ext D)⟩
def o5.lt(h:o5 an z N J):an<J.length:=by
 obtain⟨ak,bv,h⟩:=h;exact gl h.b
structure ey(an:Nat)(z:List U)(J:List aa)(pc:List U)(w:Nat)(h:List aa):Prop where
 dO:o5 an z w h
 k:mK an J h
 r:h[J.length]?=some (.cells z5 false)
 p:h[J.length+1]?=some (.cells pc false)
 o:iR w h (J.length+2)
 lt:an<J.length
section
variable{an:Nat}{z:List U}{J h h' x:List aa}{pc:List U}{w w' c6 m:Nat}{Z:List U}
def ey.zQ(s:ey an z J pc w h):J.length+3<=h.length:=by
 obtain⟨Z,q,_⟩:=s.o;have:=gl q;omega
def ey.app(s:ey an z J pc w h):ey an z J pc w (h++x):=⟨s.dO.app,s.k.trans mK.app,aJ s.r,aJ s.p,s.o.app,s.lt⟩
def ey.lay(s:ey an z J pc w h)(t:mK an h h')(hn:o5 an z w' h')(hw:w<=w'):ey an z J pc w' h':=
 have hl:=s.lt
 ⟨hn,s.k.trans t,t.wH _ _ aCs s.r,t.wH _ _ aCs s.p,(s.o.lay t aCs).mono hw,hl⟩
def ey.mE(s:ey an z J pc w h)(t:gH c6 h h')(hl:J.length+2<=c6)(hn:o5 an z w h')(ho:iR w h' (J.length+2)):ey an z J pc w h':=
 ⟨hn,s.k.mE t aCs,t.keep _ _ s.r aCs aCt,t.keep _ _ s.p aCs aCt,ho,s.lt⟩
def ey.put(s:ey an z J pc w h)(hm:iR w h m)(hl:J.length+2<=m)(T:iS w Z):ey an z J pc w (h.set m (.cells Z false))/\iR w (h.set m (.cells Z false)) m:=by
 obtain⟨c0,Y,V⟩:=hm;have hml:=gl Y;have hlt:=s.lt;have t:gH m h (h.set m (.cells Z false)):=gH.set;have nD:iR w (h.set m (.cells Z false)) m:=⟨Z,aO hml,T⟩;refine⟨s.mE t hl (s.dO.mE t Y aCs λj c q=>aDG) ?_,nD⟩;by_cases e:J.length+2=m;rw[e];exact nD;exact s.o.mE t e
def ey.call(s:ey an z J pc w h){G:Cells}(hm:iR w h m)(hl:J.length+2<=m)(T:iS w Z)(hw:w<=256){K:U->List aa->Prop}(hK:∀h',ey an z J pc w h'->gH m h h'->iR w h' m->K (.aK []) h'):bq G ay 215 [.mp an 0,.mp m 0,.agg Z] h K:=by
 obtain⟨xf,fc,jS,rfl,n8,mz⟩:=T;obtain⟨_,Y,fv,ev,em,rfl,hf,he⟩:=hm;obtain⟨ak,bv,hX⟩:=s.dO;have hlt:=s.lt;refine a_ (axL hX Y aCs hf he n8 mz hw) ?_;rintro _ h' ⟨rfl,Rx,t,jI,ev',tv,k1,k2,dY⟩;have nD:iR w h' m:=⟨_,k1,jI,ev',tv,rfl,k2,dY⟩;refine hK h' (s.mE t hl ⟨ak,bv,Rx⟩ ?_) t nD;by_cases e:J.length+2=m;rw[e];exact nD;exact s.o.mE t e
def k5(B w:Nat)(h:List aa)(rv:U)(rs:List (List U)):Prop:=((rv=.af/\rs=[])\/∃id,rv=.sl (rs.map b8) (.tok id)/\B<=id/\h[id]?=some (.tok rs.length 5 195))/\∀c∈rs,iS w c
variable{B:Nat}{rv:U}{rs:List (List U)}
def k5.keep(s:k5 B w h rv rs)(hw:w<=w')(S:∀(j:Nat) c,h[j]?=some (.tok c 5 195)->h'[j]?=some (.tok c 5 195)):k5 B w' h' rv rs:=by
 refine⟨s.1.elim ax ?_,λc T=>(s.2 c T).mono hw⟩;rintro⟨id,q1,ah,aP⟩;exact az ⟨id,q1,ah,S _ _ aP⟩
def k5.mE(s:k5 B w h rv rs)(t:gH c6 h h'){c0:List U}(ho:h[c6]?=some (.cells c0 false)):k5 B w h' rv rs:=s.keep (bg _) λj c q=>t.keep _ _ q (by rintro rfl;rw[ho] at q;cases q) aCt
@[go_sem]def I3:∀{rs:List (List U)},(∀c∈rs,iS w c)->bS 5 (rs.map b8)=true
 |[],_=>rfl
 |c::r,h=>by
  have ih:=I3 (rs:=r) λx I=>h x aCG;obtain⟨Y,V⟩:=(h c aCt).one;simp only[bS,ep,l5,gN,Y,V,beq_self_eq_true,Bool.and_self,JR] at ih⊢;exact ih
def k5.bC(s:k5 B w h rv rs){i:Nat}{c:List U}(T:rs[i]?=some c):bw 5 rv (.v (.int .i64 (i:Int)))=some (.fp c 0)/\(∀g,aq g true 5 (.fp c 0)=some (.agg c))/\iS w c:=by
 have J:=s.2 c (bA T);obtain⟨Y,V⟩:=J.one;refine⟨?_,λg=>?_,J⟩
 rcases s.1 with⟨rfl,rfl⟩|⟨id,rfl,_⟩
 simp at T;exact jY (x:=.agg c) (by simp[T]) Y;simp only[aq];unfold dI;rw[if_pos rfl,if_pos aCs,ni,lH aCs]
def k5.push(s:k5 B w h rv rs)(hB:B<=h.length)(hn:rs.length<=1000)(T:iS w Z):∃y2 h',cM h 5 104 195 rv (.sl [.agg Z] .exact)=some (y2,h')/\k5 B w h' y2 (rs++[Z])/\h.length<=h'.length/\(∀(j:Nat) b,h[j]?=some b->(∀c,b≠.tok c 5 195)->h'[j]?=some b)/\∀(j:Nat) b,j<B->h[j]?=some b->h'[j]?=some b:=by
 have I:=I3 s.2;have hy:bS 5 [b8 Z]=true:=I3 (rs:=[Z]) (w:=w) (by simpa using T);have hfit:(rs.length+1)*104<=140737488355328:=aCs
 have hmem:∀c∈rs++[Z],iS w c:=λc q=>(dN.1 q).elim (s.2 c) λq=>by rw[cw.1 q];exact T
 rcases s.1 with⟨rfl,rfl⟩|⟨id,rfl,hid,S⟩
 refine⟨.sl ([]++[.agg Z]) (.tok h.length),h++[.tok 1 5 195],?_,⟨az ⟨h.length,rfl,hB,aCt⟩,hmem⟩,aCt,λj b q _=>aJ q,λj b _ q=>aJ q⟩;simp only[fI,e6] at hfit;simp[cM,fA,gp,contents,hy];have hl:id<h.length:=gl S;refine⟨.sl (rs.map b8++[.agg Z]) (.tok id),h.set id (.tok (rs.length+1) 5 195),?_,⟨az ⟨id,aCt,hid,aDi⟩,hmem⟩,aCt,λj b q hne=>?_,λj b hj q=>by rw[av aCs];exact q⟩;simp[cM,fA,gp,contents,hy,hfit,I,S];rw[av (λe=>aEy)];exact q
def ey.rest(s:ey an z J pc w h)(hl:h.length<=h'.length)(k1:∀(j:Nat) b,h[j]?=some b->(∀c,b≠.tok c 5 195)->h'[j]?=some b)(k2:∀(j:Nat) b,j<J.length->h[j]?=some b->h'[j]?=some b):ey an z J pc w h':=by
 refine⟨?_,⟨fy s.k.len hl,λj Z q ah=>k1 _ _ (s.k.wH j Z q ah) aCt,λj c ah=>k2 _ _ (gl ah) (s.k.tok j c ah)⟩,k1 _ _ s.r aCt,k1 _ _ s.p aCt,?_,s.lt⟩;obtain⟨ak,bv,hX⟩:=s.dO;refine⟨ak,bv,k1 _ _ hX.b aCt,?_,hX.bt.ext λj Z q=>k1 _ _ q aCt⟩;obtain⟨xs,Y,V,h3⟩:=hX.on;refine⟨xs,Y.elim ax ?_,V,h3⟩;rintro⟨id,q1,ah⟩;exact az ⟨id,q1,k1 _ _ ah aCt⟩;obtain⟨Z,Y,V⟩:=s.o;exact⟨Z,k1 _ _ Y aCt,V⟩
end
def WG(an:Nat)(z:List U)(J:List aa)(M:Nat)(r:U)(hp':List aa):Prop:=∃Z,r=.agg Z/\iS M Z/\o5 an z M hp'/\mK an J hp'
def DM(an:Nat)(z:List U)(J:List aa)(M:Nat)(h:List aa):Prop:=∃Z,h[J.length]?=some (.cells Z false)/\iS M Z/\o5 an z M h/\mK an J h
def Gk(G:Cells)(an:Nat)(z:List U)(v lv:U)(ps:List bK)(i:Int):Prop:=∀N J,o5 an z N J->N+cnt ps i<=256->
 bq G ay 153 [.mp an 0,v,.v (.int .i64 i),lv] J (WG an z J (N+cnt ps i))
def ey.fin{pc:List U}{w:Nat}(s:ey an z J pc w h)(T:iS w Z):aE h 5 (.mp J.length 0) (.agg Z)=some (h.set J.length (.cells Z false))/\DM an z J w (h.set J.length (.cells Z false)):=by
 have hl:=gl s.r;have t:gH J.length h (h.set J.length (.cells Z false)):=gH.set;have hlt:=s.lt;refine⟨I6 T s.r rfl,Z,aO hl,T,s.dO.mE t s.r aCs λj c q=>?_,s.k.mE t (bg _)⟩;rw[av (by rintro rfl;rw[s.r] at q;simp at q)];exact q
end
section
variable{N an:Nat}{bv ak r:U}{h:List aa}{z:List U}{p:bK}
def P6:c8:=ab9.e.c.tl.tl.tl
def P8:c8:=P6.tl
def P_:c8:=P8.tl
def Yh:c8:=P_.tl.tl
@[go_sem]def DZ{w:U}(h:bl w=true):dy 1 [w]=some (.sl [w] .exact):=by
 have e:=nY h;unfold dy;rw[if_pos ⟨by simp[bS,e,h],aCt⟩]
@[go_sem]def xC{l:List U}(h:∀x∈l,bl x=true):bS 1 l=true:=by
 rw[bS,c7];intro x I;have:=h x I;simp[nY this,this]
def kM.push(s:kM N N bv h)(hN:N<=1000)(D:fK (N+1) r):∃bv' h',mc h 1 24 31 bv (.sl [r] .exact)=some (bv',h')/\kM (N+1) (N+1) bv' h'/\h.length<=h'.length/\∀(j:Nat) b,h[j]?=some b->(∀Z,b≠.cells Z true)->h'[j]?=some b:=by
 have T:=nY D.one;have ok:bS 1 [r]=true:=xC λx I=>by rw[cw.1 I];exact D.one
 obtain⟨Z,Y,V,⟨rfl,rfl⟩|⟨k,rfl,S⟩⟩:=s;have aou:N=0:=by simpa using Y.symm
 subst aou;have hf:flat [r]=[r]:=by simp[flat,T]
 refine⟨.rs h.length 1 1 0 1,h++[.cells [r] true],?_,⟨[r],rfl,by simpa using D,az ⟨h.length,rfl,aCt⟩⟩,aCt,λj b q _=>aJ q⟩;have h3:¬([r]=([]:List U)):=aCt
 simp[mc,contents,ok,hf];have cV:=gl S;have hf:flat [r]=[r]:=by simp[flat,T]
 have aV:ke Z (N*1) (flat [r])=Z++[r]:=by
  unfold ke;rw[hf,lH aCs,sO aCs,ff]
 refine⟨.rs k (N+1) 1 0 (N+1),h.set k (.cells (Z++[r]) true),?_,⟨Z++[r],aEd,λx I=>?_,az ⟨k,rfl,aO cV⟩⟩,aCt,λj b hj O=>by
  rw[av aD3];exact hj⟩
 have h3:¬([r]=([]:List U)):=aCt
 show fA h 1 24 31 (.rs k N 1 0 N) (.sl [r] .exact)=_;simp only[fA,contents,gp,ok,h3,if_false,and_self,vV,if_true,true_and,S,di,fI,aV];rw[if_pos aCs];simp[Y]
 rcases dN.1 I with q|q
 exact(V x q).mono aCs;rw[cw.1 q];exact D
def qO.place(s:qO an z N ak bv h)(hN:N<=255)(D:∃l,nS r l/\l.length<=256/\∀y∈l,(0:Int)<=y/\y<256):
  ∃bD bv' g1 g2 g3 g4,cM h 1 24 31 ak (.sl [r] .exact)=some (bD,g1)/\aE g1 1 (.mp an 0) bD=some g2/\aq g2 false 1 (.mp an 1)=some bv/\mc g2 1 24 31 bv (.sl [.af] .exact)=some (bv',g3)/\aE g3 1 (.mp an 1) bv'=some g4/\qO an z (N+1) bD bv' g4/\h.length<=g4.length/\
   ∀(j:Nat) b,h[j]?=some b->j≠an->(∀Z,b≠.cells Z true)->(∀c,b≠.tok c 1 31)->g4[j]?=some b:=by
 obtain⟨xs,hA,hxl,Ms⟩:=s.on;have At:bl r=true:=by obtain⟨l,q,_⟩:=D;exact q.one
 have fD:bS 1 xs=true:=xC λx I=>by obtain⟨l,q,_⟩:=Ms x I;exact q.one
 have o1:bS 1 [r]=true:=xC λx I=>by rw[cw.1 I];exact At
 obtain⟨bD,g1,e1,si,hne,hle,eY⟩:=kQ (x:=r) (aZ:=24) hA fD o1 aCu aCu aCs;have gy:∀{j:Nat} {b:aa},h[j]?=some b->(∀c,b≠.tok c 1 31)->∀ys,ak≠.sl ys (.tok j):=λ{j b} q O ys e=>by
  rcases hA with⟨q1,_⟩|⟨id,q1,ah⟩
  rw[q1] at e;cases e;rw[q1] at e;cases e;rw[ah] at q;cases q;exact O _ rfl
 have b1:g1[an]?=some (.cells (ak::bv::z) false):=eY _ _ s.b (gy s.b aCt)
 have ho:bl bD=true:=by rcases si with⟨q,_⟩|⟨_,q,_⟩<;>rw[q]<;>rfl
 have apv:=gl b1;have s1:aE g1 1 (.mp an 0) bD=some (g1.set an (.cells (bD::bv::z) false)):=by
  simp only[aE,b1,dG,nY ho];simp[ho,putAt]
 have b2:(g1.set an (.cells (bD::bv::z) false))[an]?=some (.cells (bD::bv::z) false):=aO apv;have jV:kM N N bv (g1.set an (.cells (bD::bv::z) false)):=s.bt.ext λj Z q=>by
  rw[av (by rintro rfl;rw[s.b] at q;simp at q)];exact eY _ _ q (gy q aCt)
 have l2:aq (g1.set an (.cells (bD::bv::z) false)) false 1 (.mp an 1)=some bv:=by simp only[aq,b2];rfl
 obtain⟨bv',g3,bW,F8,Ap,qu⟩:=jV.push (r:=.af) aCs (Bt _);have b3:g3[an]?=some (.cells (bD::bv::z) false):=qu _ _ b2 aCt;have apw:=gl b3;have cW:aE g3 1 (.mp an 1) bv'=some (g3.set an (.cells (bD::bv'::z) false)):=by
  simp only[aE,b3,dG,nY F8.one];simp[F8.one,putAt]
 refine⟨bD,bv',g1,_,g3,_,e1,s1,l2,bW,cW,⟨aO apw,⟨xs++[r],?_,by simp[hxl],λx I=>?_⟩,F8.ext λj Z q=>?_⟩,?_,λj b hj Y V h3=>?_⟩
 rcases si with q|⟨id,q1,ah⟩
 exact ax q;refine az ⟨id,q1,?_⟩;have hki:an≠id:=by rintro rfl;rw[b1] at ah;cases ah
 rw[av hki];exact qu _ _ (by rw[av hki];exact ah) aCt
 rcases dN.1 I with q|q
 exact Ms x q;rw[cw.1 q];exact D;rw[av (by rintro rfl;rw[b3] at q;simp at q)];exact q;rw[rM];rw[rM] at Ap;omega;rw[av (dj Y)];refine qu _ _ ?_ V;rw[av (dj Y)];exact eY _ _ hj (gy hj h3)
@[go_sem]def qO.atZ(s:qO an z N ak bv h)(g:List aa):bL ak g=some (.v (.int .i64 (N:Int)),g):=by
 obtain⟨xs,hA,hxl,_⟩:=s.on;rw[BO hA g,hxl]
@[go_sem]def n9{X:List aa}{k:Nat}(q:X[k]?=some (.cells p.cells false)):aq X false 1 (.mp k 0)=some (.v (.int .i64 p.kind))/\aq X false 1 (.mp k 1)=some (.v (.int .i64 p.low))/\aq X false 1 (.mp k 2)=some (.v (.int .i64 p.high))/\aq X false 1 (.mp k 3)=some (ai p.name)/\aq X false 1 (.mp k 4)=some p.kv:=by
 simp only[aq,q];exact⟨rfl,rfl,rfl,rfl,rfl⟩
@[go_sem]def aeD{j:Nat}{x:Int}(I:p.kids[j]?=some x):bw 1 p.kv (.v (.int .i64 (j:Int)))=some (.fp [.v (.int .i64 x)] 0):=by
 unfold bK.kv;split;rename_i z;rw[z] at I;simp at I;exact jY (x:=ag x) (by rw[eo,I];rfl) rfl
section
variable{G:Cells}{an N:Nat}{z:List U}{J h0:List aa}{v lv:U}{ps:List bK}{p:bK}{hi:Post}
def arR{rows:List (List U)}(hlv:bH lv (rows.map b8))(hlc:dm lv)(hlr:∀x∈rows,s4 x)(mU:rows.length<=1000000000)(s:ey an z J p.cells N h0)(S:p.kind=1)(hN:N+1<=256)(hQ:∀h',DM an z J (N+1) h'->hi .ret [(8,.mp J.length 0)] h'):
  @cJ G ay false P6 ⟨hi⟩ [(0,.mp an 0),(1,v),(3,lv),(8,.mp J.length 0),(9,.mp (J.length+1) 0),(10,.mp (J.length+2) 0)] h0:=by
 conv in P6=>whnf
 obtain⟨d0,d1,d2,d3,d4⟩:=n9 s.p;rw[S] at d0;obtain⟨ak,bv,hX⟩:=s.dO;have atU:aq h0 false 1 (.mp an 0)=some ak:=by simp only[aq,hX.b];rfl
 refine lE ?_;refine dh (auQ hlv hlr mU p.name) ?_;rintro r ⟨l,hl1,gX,pL⟩;have At:=(vA hl1).one;obtain⟨bD,bv',g1,g2,g3,g4,e1,e2,bW,cO,kS,Rx,hle,hkp⟩:=hX.place (r:=r) aCs ⟨l,(vA hl1),gX,pL⟩;have hlt:=s.lt;have gi:ey an z J p.cells (N+1) g4:=by
  refine⟨⟨_,_,Rx⟩,⟨fy s.k.len hle,λj Z q ah=>hkp _ _ (s.k.wH j Z q ah) q aCt aCt,λj c q=>hkp _ _ (s.k.tok j c q) ?_ aCt aCt⟩,hkp _ _ s.r aCs aCt aCt,hkp _ _ s.p aCs aCt aCt,?_,hlt⟩;rintro rfl;have:=s.k.tok _ c q;rw[hX.b] at this;cases this;obtain⟨Z,q1,ah⟩:=s.o;exact⟨Z,hkp _ _ q1 aCs aCt aCt,ah.mono aCs⟩
 obtain⟨_,ho,fv,ev,em,rfl,hf,he⟩:=gi.o;have hU:fK (N+1) (.sl [ag (N:Int)] .exact):=⟨[(N:Int)],az ⟨_,rfl⟩,nT.one aCs⟩;have RF:bl (.sl [ag (N:Int)] .exact)=true:=rfl;unfold ag at hU RF;obtain⟨t0,t1,t2,t3,t4⟩:=oa ho RF;obtain⟨iN,nC⟩:=gi.put gi.o (bg _) (Z:=[.af,.af,.sl [.v (.int .i64 (N:Int))] .exact,ev,.v (.bool em)]) ⟨_,_,_,rfl,hU,he⟩;have Sd:(g4.set (J.length+2) (.cells [.af,.af,.sl [.v (.int .i64 (N:Int))] .exact,ev,.v (.bool em)] false))[J.length+2]?=some (.cells [.af,.af,.sl [.v (.int .i64 (N:Int))] .exact,ev,.v (.bool em)] false):=aO (gl ho);generalize Cp:g4.set (J.length+2) (.cells [.af,.af,.sl [.v (.int .i64 (N:Int))] .exact,ev,.v (.bool em)] false)=g5 at iN nC Sd t2;obtain⟨kG,u1,u2,u3,u4⟩:=oa Sd RF;have aga:iS (N+1) [.af,.af,.sl [.v (.int .i64 (N:Int))] .exact,.sl [.v (.int .i64 (N:Int))] .exact,.v (.bool em)]:=⟨_,_,_,rfl,hU,hU⟩;obtain⟨kf,rm⟩:=iN.put nC (bg _) aga;have abr:(g5.set (J.length+2) (.cells [.af,.af,.sl [.v (.int .i64 (N:Int))] .exact,.sl [.v (.int .i64 (N:Int))] .exact,.v (.bool em)] false))[J.length+2]?=some (.cells [.af,.af,.sl [.v (.int .i64 (N:Int))] .exact,.sl [.v (.int .i64 (N:Int))] .exact,.v (.bool em)] false):=aO (gl Sd);generalize apa:g5.set (J.length+2) (.cells [.af,.af,.sl [.v (.int .i64 (N:Int))] .exact,.sl [.v (.int .i64 (N:Int))] .exact,.v (.bool em)] false)=g6 at kf rm abr u3;have CJ:=(g_ abr).2.2.2.2.2;obtain⟨f1,f2⟩:=kf.fin aga;exact mF (cu @atU (DZ At) @e1 @e2) (cu @bW (DZ (w:=.af) rfl) @cO @kS) @t2 @u3 @CJ @f1 @qB (hQ _ f2)
def asM(s:ey an z J p.cells N h0)(S:p.kind=3)(hno:p.tail=.no)(cV:p.kids.length<=1000000000)(ih:∀x∈p.kids,Gk G an z v lv ps x)(hN:N+(p.kids.map λk=>cnt ps k).sum<=256)(hQ:∀h',DM an z J (N+(p.kids.map λk=>cnt ps k).sum) h'->hi .ret [(8,.mp J.length 0)] h'):
  @cJ G ay false P8 ⟨hi⟩ [(0,.mp an 0),(1,v),(3,lv),(8,.mp J.length 0),(9,.mp (J.length+1) 0),(10,.mp (J.length+2) 0)] h0:=by
 conv in P8=>whnf
 obtain⟨d0,d1,d2,d3,d4⟩:=n9 s.p;rw[S] at d0;refine wy ?_;refine b9 (λj e h=>e=[(0,.mp an 0),(1,v),(3,lv),(8,.mp J.length 0),(9,.mp (J.length+1) 0),(10,.mp (J.length+2) 0),(12,ag j)]/\ey an z J p.cells (N+((p.kids.take j).map λk=>cnt ps k).sum) h) p.kids.length ⟨rfl,by simpa using s⟩ ?_ ?_;rintro j e h hj ⟨rfl,s⟩;obtain⟨x,I⟩:=cF hj;have uj:=vD (f:=λk=>cnt ps k) I;have sl:=y4 (λk=>cnt ps k) p.kids (j+1);obtain⟨d0,d1,d2,d3,d4⟩:=n9 s.p;refine lE (a_ (ih x (bA I) _ h s.dO aCs) ?_);rintro _ Y ⟨Z,rfl,T,hn,hL⟩;have s1:=s.lay hL hn aCs;have gZ:=yS T Y;unfold z5 at gZ;have s2:ey an z J p.cells _ (Y++[.cells Z false]):=s1.app;have fD:(Y++[aj Z false])[Y.length]?=some (.cells Z false):=aCt
 have O:=s1.zQ;obtain⟨xf,fc,jS,rfl,n8,mz⟩:=T;refine wy ?_;generalize Y.length=m at fD O⊢;generalize Y++[aj [.af,.af,xf,fc,.v (.bool jS)] false]=g at s2 fD⊢;obtain⟨_,ho,fv,ev,em,rfl,hf,he⟩:=s2.o;obtain⟨q0,q1,ah,aP,ec,_⟩:=g_ ho;obtain⟨x0,x1,x2,x3,mG,_⟩:=g_ fD;refine wy (Fc hf n8 aCs λr D=>?_);obtain⟨t0,t1,t2,t3,t4⟩:=oa ho D.one;obtain⟨cW,iA⟩:=s2.put s2.o (bg _) (Z:=[.af,.af,r,ev,.v (.bool em)]) ⟨_,_,_,rfl,D,he⟩;have EE:(g.set (J.length+2) (.cells [.af,.af,r,ev,.v (.bool em)] false))[J.length+2]?=some (.cells [.af,.af,r,ev,.v (.bool em)] false):=aO (gl ho);have TX:(g.set (J.length+2) (.cells [.af,.af,r,ev,.v (.bool em)] false))[m]?=some (.cells [.af,.af,xf,fc,.v (.bool jS)] false):=by rw[av aCs];exact fD
 refine wy ?_;generalize g.set (J.length+2) (.cells [.af,.af,r,ev,.v (.bool em)] false)=g' at cW iA EE TX⊢;obtain⟨q0,q1,ah,aP,ec,_⟩:=g_ EE;obtain⟨x0,x1,x2,x3,mG,_⟩:=g_ TX;refine wy (Fc he mz aCs λr2 hr2=>?_);obtain⟨t0,t1,t2,t3,t4⟩:=oa EE hr2.one;obtain⟨gi,iM⟩:=cW.put iA (bg _) (Z:=[.af,.af,r,r2,.v (.bool em)]) ⟨_,_,_,rfl,D,hr2⟩;have Sc:(g'.set (J.length+2) (.cells [.af,.af,r,r2,.v (.bool em)] false))[J.length+2]?=some (.cells [.af,.af,r,r2,.v (.bool em)] false):=aO (gl EE);have yR:(g'.set (J.length+2) (.cells [.af,.af,r,r2,.v (.bool em)] false))[m]?=some (.cells [.af,.af,xf,fc,.v (.bool jS)] false):=by rw[av aCs];exact TX
 refine wy ?_;generalize g'.set (J.length+2) (.cells [.af,.af,r,r2,.v (.bool em)] false)=g2 at gi iM Sc yR⊢;obtain⟨q0,q1,ah,aP,ec,_⟩:=g_ Sc;obtain⟨x0,x1,x2,x3,mG,_⟩:=g_ yR;have fin:∀b:Bool,aE g2 1 (.mp (J.length+2) 4) (.v (.bool b))=some (g2.set (J.length+2) (.cells [.af,.af,r,r2,.v (.bool b)] false)):=λb=>(oa Sc (w:=.v (.bool b)) rfl).2.2.2.2;have He:∀b:Bool,ey an z J p.cells (N+((p.kids.take (j+1)).map λk=>cnt ps k).sum) (g2.set (J.length+2) (.cells [.af,.af,r,r2,.v (.bool b)] false)):=λb=>by
  rw[uj,<-kK];exact(gi.put iM (bg _) (Z:=[.af,.af,r,r2,.v (.bool b)]) ⟨_,_,_,rfl,D,hr2⟩).1
 cases em with
 |false=>
  refine eV @ec @mG @fin ?_;exact⟨rfl,He _⟩
 |true=>
  refine eV @ec @mG @fin ?_;exact⟨rfl,He _⟩
 rintro e h ⟨rfl,s⟩;rw[p8] at s;obtain⟨d0,d1,d2,d3,d4⟩:=n9 s.p;obtain⟨Z,ho,T⟩:=s.o;obtain⟨f1,f2⟩:=s.fin T;exact lD @ag.eq_1 @d4 (vf hno aCs) (vo ho T.one.1) @f1 (hQ _ f2)
def asj(s:ey an z J p.cells N h0)(S:p.kind=2)(hno:p.tail=.no)(cV:p.kids.length<=1000000000)(ih:∀x∈p.kids,Gk G an z v lv ps x)(hN:N+(p.kids.map λk=>cnt ps k).sum<=256)(hQ:∀h',DM an z J (N+(p.kids.map λk=>cnt ps k).sum) h'->hi .ret [(8,.mp J.length 0)] h'):
  @cJ G ay false P_ ⟨hi⟩ [(0,.mp an 0),(1,v),(3,lv),(8,.mp J.length 0),(9,.mp (J.length+1) 0),(10,.mp (J.length+2) 0)] h0:=by
 conv in P_=>whnf
 obtain⟨_,ho,fv,ev,em,rfl,hf,he⟩:=s.o;obtain⟨t0,t1,t2,t3,t4⟩:=oa ho (w:=.v (.bool true)) rfl;obtain⟨s1,o1⟩:=s.put s.o (bg _) (Z:=[.af,.af,fv,ev,.v (.bool true)]) ⟨_,_,_,rfl,hf,he⟩;obtain⟨d0,d1,d2,d3,d4⟩:=n9 s1.p;rw[S] at d0;refine wy ?_;refine b9 (λj e h=>e=[(0,.mp an 0),(1,v),(3,lv),(8,.mp J.length 0),(9,.mp (J.length+1) 0),(10,.mp (J.length+2) 0),(14,ag j)]/\ey an z J p.cells (N+((p.kids.take j).map λk=>cnt ps k).sum) h) p.kids.length ⟨rfl,by simpa using s1⟩ ?_ ?_;rintro j e h hj ⟨rfl,s⟩;obtain⟨x,I⟩:=cF hj;have uj:=vD (f:=λk=>cnt ps k) I;have sl:=y4 (λk=>cnt ps k) p.kids (j+1);obtain⟨d0,d1,d2,d3,d4⟩:=n9 s.p;refine lE (a_ (ih x (bA I) _ h s.dO aCs) ?_);rintro _ Y ⟨Z,rfl,T,hn,hL⟩;have s1:=s.lay hL hn aCs;have gZ:=yS T Y;unfold z5 at gZ;have s2:ey an z J p.cells _ (Y++[.cells Z false]):=s1.app;have fD:(Y++[aj Z false])[Y.length]?=some (.cells Z false):=aCt
 refine fG (vo fD T.one.1) (s2.call s2.o (bg _) T aCs λh' cW _ _=>?_);refine e3 ?_;refine⟨rfl,?_⟩;rw[uj,<-kK];exact cW;rintro e h ⟨rfl,s⟩;rw[p8] at s;obtain⟨d0,d1,d2,d3,d4⟩:=n9 s.p;obtain⟨Z,ho,T⟩:=s.o;obtain⟨f1,f2⟩:=s.fin T;exact lD @ag.eq_1 @d4 (vf hno aCs) (vo ho T.one.1) @f1 (hQ _ f2)
end
end
section
variable{p:bK}
section
variable{an:Nat}{z:List U}{J h h':List aa}{pc:List U}{w:Nat}
def ey.avN(s:ey an z J pc w h)(t:Gn h h')(hn:o5 an z w h'):ey an z J pc w h':=by
 refine⟨hn,⟨by rw[t.len];exact s.k.len,λj Z q ah=>t.keep _ _ (s.k.wH j Z q ah) aCt,λj c q=>t.keep _ _ (s.k.tok j c q) aCt⟩,t.keep _ _ s.r aCt,t.keep _ _ s.p aCt,?_,s.lt⟩;obtain⟨Z,q1,ah⟩:=s.o;exact⟨Z,t.keep _ _ q1 aCt,ah⟩
def ey.ak3(s:ey an z J pc w h){p:Nat}(EJ:p<w):∃bv k c,aq h false 1 (.mp an 1)=some bv/\bw 1 bv (.v (.int .i64 (p:Int)))=some (.rp k w p)/\aq h false 1 (.rp k w p)=some c/\fK w c/\∀r,fK w r->∃h',aE h 1 (.rp k w p) r=some h'/\ey an z J pc w h'/\Gn h h':=by
 obtain⟨ak,bv,hX⟩:=s.dO;obtain⟨k,c,a1,a2,a3,a4⟩:=hX.bt.at EJ;refine⟨bv,k,c,by simp only[aq,hX.b];rfl,a1,a2,a3,λr D=>?_⟩;obtain⟨h',b1,b2,b3⟩:=a4 r D;refine⟨h',b1,s.avN b3 ⟨ak,bv,b3.keep _ _ hX.b aCt,?_,b2⟩,b3⟩;obtain⟨xs,Y,V,h3⟩:=hX.on;refine⟨xs,Y.elim ax ?_,V,h3⟩;rintro⟨id,q1,ah⟩;exact az ⟨id,q1,b3.keep _ _ ah aCt⟩
end
@[go_sem]def akh{N:Nat}{Z:List U}(h:iS N Z):dy 5 [.agg Z]=some (.sl [.agg Z] .exact):=by
 unfold dy;rw[if_pos ⟨I3 (rs:=[Z]) (w:=N) aC2,aCt⟩]
def auA(q:p.high<0):(if(1:Int)>p.low then 1 else p.low)=(p.many:Int):=by
 unfold Bs;rw[if_pos q];split<;>omega
def auC(q:¬p.high<0):p.high=(p.many:Int):=by
 unfold Bs;rw[if_neg q];omega
section
variable{G:Cells}{an N:Nat}{z:List U}{J h0:List aa}{v lv:U}{ps:List bK}{p:bK}{hi:Post}
def asN{x:Int}{c:Nat}(s:ey an z J p.cells N h0)(O:DK p.low p.high)(u6:p.kids=[x])(T:cnt ps x=c)(ih:Gk G an z v lv ps x)(hN:N+p.many*c<=256)(hQ:∀h',DM an z J (N+p.many*c) h'->hi .ret [(8,.mp J.length 0)] h'):
  @cJ G ay false Yh ⟨hi⟩ [(0,.mp an 0),(1,v),(3,lv),(8,.mp J.length 0),(9,.mp (J.length+1) 0),(10,.mp (J.length+2) 0)] h0:=by
 conv in Yh=>whnf
 obtain⟨fV,gI,Ci⟩:=O;obtain⟨lw,Mh⟩:=mI fV;have mV:1<=p.many/\p.many<=20:=by
  unfold Bs;constructor<;>(split<;>(try split))<;>omega
 have Mc:p.kids[0]?=some x:=by rw[u6];rfl
 have atl:=aeD Mc;have aBU:bw 1 p.kv (.v (.int .i64 0))=some (.fp [.v (.int .i64 x)] 0):=atl;refine cB (λe h=>e=[(0,.mp an 0),(1,v),(3,lv),(8,.mp J.length 0),(9,.mp (J.length+1) 0),(10,.mp (J.length+2) 0),(16,.v (.int .i64 p.high))]/\h=h0) ?_ ?_;obtain⟨d0,d1,d2,d3,d4⟩:=n9 s.p;exact wx tt;rintro e h ⟨rfl,rfl⟩;refine cB (λe h'=>e=[(0,.mp an 0),(1,v),(3,lv),(8,.mp J.length 0),(9,.mp (J.length+1) 0),(10,.mp (J.length+2) 0),(16,ag p.many)]/\h'=h) ?_ ?_;obtain⟨d0,d1,d2,d3,d4⟩:=n9 s.p;have m0:o9 true [.v (.int .i64 p.low),.v (.int .i64 1)]=some (.v (.int .i64 (if(1:Int)>p.low then 1 else p.low))):=rfl;refine wy (bI (λq=>?_) λq=>?_);have q':p.high<0:=aCy
 rw[auA q'] at m0;exact fm @d1 @m0 rt;have q':¬p.high<0:=aCy
 rw[auC q'];exact wx rt;rintro e Y ⟨rfl,rfl⟩;refine cB (λe h'=>e=[(0,.mp an 0),(1,v),(3,lv),(8,.mp J.length 0),(9,.mp (J.length+1) 0),(10,.mp (J.length+2) 0),(16,ag p.many),(17,.af)]/\h'=Y) ?_ ?_;exact wx tt;rintro e V ⟨rfl,rfl⟩;refine cB (λe h=>∃rv rs,e=[(0,.mp an 0),(8,.mp J.length 0),(9,.mp (J.length+1) 0),(10,.mp (J.length+2) 0),(16,ag p.many),(17,rv)]/\ey an z J p.cells (N+p.many*c) h/\k5 J.length (N+p.many*c) h rv rs/\rs.length=p.many) ?_ ?_;refine wy ?_;refine b9 (λj e h=>∃rv rs,e=[(0,.mp an 0),(1,v),(3,lv),(8,.mp J.length 0),(9,.mp (J.length+1) 0),(10,.mp (J.length+2) 0),(16,ag p.many),(17,rv),(18,ag j)]/\ey an z J p.cells (N+j*c) h/\k5 J.length (N+j*c) h rv rs/\rs.length=j) p.many ⟨.af,[],rfl,by rw[Nat.zero_mul];exact s,⟨ax ⟨rfl,rfl⟩,aCt⟩,rfl⟩ ?_ ?_;rintro j e h hj ⟨rv,rs,rfl,s,hA,hrl⟩;have aa9:N+j*c+c<=256:=by
  have:(j+1)*c<=p.many*c:=mJ _ hj;rw[qK] at this;omega
 have QO:N+(j+1)*c=N+j*c+c:=by rw[qK];omega
 rw[QO];have FP:bP.wrap ((j:Int)+1)=((j+1:Nat):Int):=jd aCs;refine fR (λe h'=>e=[(0,.mp an 0),(1,v),(3,lv),(8,.mp J.length 0),(9,.mp (J.length+1) 0),(10,.mp (J.length+2) 0),(16,ag p.many),(17,rv),(18,ag j)]/\h'=h) ?_ ?_;exact dc @ag.eq_1 tt;rintro e h' ⟨rfl,rfl⟩;refine cB (λe h=>∃rv rs,e=[(0,.mp an 0),(1,v),(3,lv),(8,.mp J.length 0),(9,.mp (J.length+1) 0),(10,.mp (J.length+2) 0),(16,ag p.many),(17,rv),(18,ag j)]/\ey an z J p.cells (N+j*c+c) h/\k5 J.length (N+j*c+c) h rv rs/\rs.length=j+1) ?_ ?_;rw[y7];refine cB (λe h=>∃m Z,e=[(0,.mp an 0),(1,v),(3,lv),(8,.mp J.length 0),(9,.mp (J.length+1) 0),(10,.mp (J.length+2) 0),(16,ag p.many),(17,rv),(18,ag j),(19,.mp m 0)]/\ey an z J p.cells (N+j*c+c) h/\k5 J.length (N+j*c+c) h rv rs/\J.length+3<=m/\h[m]?=some (.cells Z false)/\iS (N+j*c+c) Z) ?_ ?_;obtain⟨d0,d1,d2,d3,d4⟩:=n9 s.p;refine wy (a_ (ih _ h' s.dO aCs) ?_);rw[T];rintro _ Y ⟨Z,rfl,hcs,hn,hL⟩;have s1:=s.lay hL hn aCs;have Rl:k5 J.length (N+j*c+c) Y rv rs:=hA.keep aCs hL.tok;have gZ:=yS hcs Y;unfold z5 at gZ;refine wy ?_;exact⟨_,Z,rfl,s1.app,Rl.keep (bg _) λj c q=>aJ q,s1.zQ,aCt,hcs⟩;rintro e h3 ⟨m,Z,rfl,cW,oC,H8,fD,hcs⟩;obtain⟨xf,fc,jS,rfl,n8,mz⟩:=hcs;refine cB (λe h=>e=[(0,.mp an 0),(1,v),(3,lv),(8,.mp J.length 0),(9,.mp (J.length+1) 0),(10,.mp (J.length+2) 0),(16,ag p.many),(17,rv),(18,ag j),(19,.mp m 0)]/\ey an z J p.cells (N+j*c+c) h/\k5 J.length (N+j*c+c) h rv rs/\h[m]?=some (.cells [.af,.af,xf,fc,.v (.bool jS)] false)) ?_ ?_;obtain⟨d0,d1,d2,d3,d4⟩:=n9 cW.p;by_cases q:p.high<0;have w1:bP.wrap ((p.many:Int)-1)=((p.many-1:Nat):Int):=by rw[wrap_i64 aCs aCs];omega
 by_cases ah:j=p.many-1;have aP:((j:Int)==((p.many-1:Nat):Int))=true:=PX ah;obtain⟨el,Ai,w8⟩:=mz;have hel:=w8.len;refine uo @ag.eq_1 @d2 @q @decide_true @w1 @aP ?_;refine b9 (λi e h=>e=[(0,.mp an 0),(1,v),(3,lv),(8,.mp J.length 0),(9,.mp (J.length+1) 0),(10,.mp (J.length+2) 0),(16,ag p.many),(17,rv),(18,ag j),(19,.mp m 0),(20,ag i)]/\ey an z J p.cells (N+j*c+c) h/\k5 J.length (N+j*c+c) h rv rs/\h[m]?=some (.cells [.af,.af,xf,fc,.v (.bool jS)] false)) el.length ⟨rfl,cW,oC,fD⟩ ?_ ?_;rintro i e h Q ⟨rfl,gi,Ce,yR⟩;obtain⟨y,hy⟩:=cF Q;obtain⟨y0,y1⟩:=w8.2 y (bA hy);obtain⟨pl,rfl⟩:=mI y0;obtain⟨bv,k,Qc,b0,a1,a2,a3,a4⟩:=gi.ak3 (p:=pl) aCs;obtain⟨x0,x1,x2,x3,mG,_⟩:=g_ yR;refine oR @ag.eq_1 @b0 @x3 (Ai.bC hy) @a1 @a2 @x2 @true_and @and_true (Fc a3 n8 aCs λr D=>?_);obtain⟨h5,t1,t2,t3⟩:=a4 r D;refine mF (cu @ag.eq_1 @b0 @x3 @Ai.len) (Ai.bC hy) @a1 @a2 @x2 @t1 @qB ?_;exact⟨t2,Ce.keep (bg _) λj c q=>t3.keep _ _ q aCt,t3.keep _ _ yR aCt⟩;rintro e h ⟨rfl,gi,Ce,yR⟩;obtain⟨x0,x1,x2,x3,mG,_⟩:=g_ yR;refine fm @ag.eq_1 @x3 ?_;exact⟨trivial,gi,Ce,yR⟩;have aP:((j:Int)==((p.many-1:Nat):Int))=false:=KM ah;refine uo @ag.eq_1 @d2 @q @decide_true @w1 @aP ?_;exact⟨trivial,cW,oC,fD⟩;refine kY @ag.eq_1 @d2 @q @decide_false ?_;exact⟨trivial,cW,oC,fD⟩;rintro e h4 ⟨rfl,gi,Ce,yR⟩;have hcs:iS (N+j*c+c) [.af,.af,xf,fc,.v (.bool jS)]:=⟨_,_,_,rfl,n8,mz⟩;obtain⟨y2,h5,kS,ajH,AH,mA,CF⟩:=Ce.push gi.k.len aCs hcs;refine wx ?_;exact⟨y2,_,rfl,gi.rest AH mA CF,ajH,by simp[hrl]⟩;rintro e h ⟨rv,rs,rfl,s,hA,hrl⟩;refine fm @ag.eq_1 @FP ?_;exact⟨rv,rs,rfl,s,hA,hrl⟩;rintro e h ⟨rv,rs,rfl,s,hA,hrl⟩;refine dc @ag.eq_1 ?_;exact⟨rv,rs,rfl,s,hA,hrl⟩;rintro e h3 ⟨rv,rs,rfl,cW,oC,hrl⟩;generalize hW:N+p.many*c=W at*;refine cB (λe h=>e=[(0,.mp an 0),(8,.mp J.length 0),(9,.mp (J.length+1) 0),(10,.mp (J.length+2) 0),(16,ag p.many),(17,rv)]/\ey an z J p.cells W h/\k5 J.length W h rv rs) ?_ ?_;refine wy ?_;refine b9 (λi e h=>e=[(0,.mp an 0),(8,.mp J.length 0),(9,.mp (J.length+1) 0),(10,.mp (J.length+2) 0),(16,ag p.many),(17,rv),(21,ag i)]/\ey an z J p.cells W h/\k5 J.length W h rv rs) (min p.many lw) ⟨rfl,cW,oC⟩ ?_ ?_;rintro i e h Q ⟨rfl,s,hA⟩;obtain⟨d0,d1,d2,d3,d4⟩:=n9 s.p;rw[Mh] at d1;obtain⟨Z,hcs⟩:∃Z,rs[i]?=some Z:=⟨rs[i],br aCs⟩;obtain⟨a1,a2,a3⟩:=hA.bC hcs;have FP:bP.wrap ((i:Int)+1)=((i+1:Nat):Int):=jd aCs;refine wy (s.call s.o (bg _) a3 hN λh' s' t nD=>?_);refine dc @FP ?_;obtain⟨c0,o1,_⟩:=s.o;exact⟨rfl,s',hA.mE t o1⟩;rintro e h ⟨rfl,s,hA⟩;obtain⟨d0,d1,d2,d3,d4⟩:=n9 s.p;rw[Mh] at d1
 rcases cH lw p.many with q|q
 rw[Nat.min_eq_right aCs];refine fm @ag.eq_1 @d1 ?_;exact⟨trivial,s,hA⟩;rw[F5 q];refine dc @ag.eq_1 ?_;exact⟨trivial,s,hA⟩;rintro e h4 ⟨rfl,gi,Ce⟩;refine cB (λe h=>∃m,e=[(0,.mp an 0),(8,.mp J.length 0),(9,.mp (J.length+1) 0),(10,.mp (J.length+2) 0),(16,ag p.many),(17,rv),(22,.mp m 0)]/\ey an z J p.cells W h/\k5 J.length W h rv rs/\iR W h m/\J.length+3<=m) ?_ ?_;have ym:iS W [.af,.af,.af,.af,.v (.bool true)]:=⟨_,_,_,rfl,Bt W,Bt W⟩;have gZ:=yS ym h4;unfold z5 at gZ;refine wy ?_;exact⟨_,rfl,gi.app,Ce.keep (bg _) λj c q=>aJ q,iR.new ym,gi.zQ⟩;rintro e h5 ⟨mt,rfl,iN,aob,nC,xh⟩;refine cB (λe h=>e=[(0,.mp an 0),(8,.mp J.length 0),(10,.mp (J.length+2) 0),(22,.mp mt 0)]/\ey an z J p.cells W h/\iR W h mt) ?_ ?_;refine wy ?_;refine b9 (λi e h=>∃k:Int,k=(p.many:Int)-1-(i:Int)/\e=[(0,.mp an 0),(8,.mp J.length 0),(9,.mp (J.length+1) 0),(10,.mp (J.length+2) 0),(17,rv),(22,.mp mt 0),(23,.v (.int .i64 k))]/\ey an z J p.cells W h/\k5 J.length W h rv rs/\iR W h mt) (p.many-lw) ⟨_,aCs,rfl,iN,aob,nC⟩ ?_ ?_;rintro i e h Q ⟨k,S,rfl,s,hA,TT⟩;obtain⟨q,rfl⟩:∃q:Nat,k=(q:Int):=⟨p.many-1-i,aCs⟩;obtain⟨d0,d1,d2,d3,d4⟩:=n9 s.p;rw[Mh] at d1;obtain⟨Z,hcs⟩:∃Z,rs[q]?=some Z:=⟨rs[q]' aCs,br _⟩;obtain⟨a1,a2,a3⟩:=hA.bC hcs;have w2:bP.wrap ((q:Int)-1)=(q:Int)-1:=wrap_i64 aCs aCs;have gZ:=yS a3 h;unfold z5 at gZ;obtain⟨ym,t1,t2⟩:=TT;have ah_:(h++[aj Z false])[mt]?=some (.cells ym false):=aJ t1;have hge:decide ((q:Int)>=(lw:Int))=true:=aCv
 have RT:decide ((lw:Int)<=(q:Int))=true:=aCv
 refine Bj @ag.eq_1 @d1 @hge @RT @a1 @a2 @gZ (vo ah_ t2.one.1) ?_;have s1:ey an z J p.cells W (h++[aj Z false]):=s.app;have HE:=s.zQ;have apQ:=gl t1;refine s1.call (iR.new a3) aCs t2 hN λh' s' t nD=>?_;have avV:iR W h' mt:=iR.mE ⟨ym,ah_,t2⟩ t aCs;have si:k5 J.length W h' rv rs:=(hA.keep (bg _) (h':=h++[aj Z false]) λj c q=>aJ q).mE t (c0:=Z) aCt;generalize h.length=mx at nD t apQ HE⊢;obtain⟨_,x1,xf,fc,jS,rfl,n8,mz⟩:=nD;obtain⟨kG,u1,u2,u3,u4⟩:=oa x1 (w:=.v (.bool true)) rfl;have Qm:iS W [.af,.af,xf,fc,.v (.bool true)]:=⟨_,_,_,rfl,n8,mz⟩;obtain⟨kf,rm⟩:=s'.put (m:=mx) ⟨_,x1,_,_,_,rfl,n8,mz⟩ aCs Qm;have tt:gH mx h' (h'.set mx (.cells [.af,.af,xf,fc,.v (.bool true)] false)):=gH.set;have avW:=avV.mE tt aCs;have aoc:=si.mE tt x1;have oT:(h'.set mx (.cells [.af,.af,xf,fc,.v (.bool true)] false))[mx]?=some (.cells [.af,.af,xf,fc,.v (.bool true)] false):=aO (gl x1);refine dc @u4 ?_;obtain⟨amb,y1,eu⟩:=avW;obtain⟨Fz,rq⟩:=kf.put (m:=mt) ⟨amb,y1,eu⟩ aCs Qm;have aod:=aoc.mE (c6:=mt) (gH.set (b:=.cells [.af,.af,xf,fc,.v (.bool true)] false)) y1;refine fm (vo oT rfl) (I6 Qm y1 eu.one.1) ?_;exact⟨_,aCs,rfl,Fz,aod,rq⟩;rintro e h ⟨k,S,rfl,s,hA,TT⟩;obtain⟨d0,d1,d2,d3,d4⟩:=n9 s.p;rw[Mh] at d1;have hge:decide (k>=(lw:Int))=false:=aCv
 have RT:decide ((lw:Int)<=k)=false:=aCv
 refine kY @ag.eq_1 @d1 @hge @RT ?_;exact⟨trivial,s,TT⟩;rintro e h6 ⟨rfl,kf,ym,t1,t2⟩;refine fG (vo t1 t2.one.1) (kf.call kf.o (bg _) t2 hN λh' s' t nD=>?_);obtain⟨co,o1,o2⟩:=nD;obtain⟨f1,f2⟩:=s'.fin o2;exact fm (vo o1 o2.one.1) @f1 (hQ _ f2)
end
end
section
variable{N n0:Nat}{v:U}{rows:List (List U)}
def uJ(N:Nat)(v:U):Prop:=∃l:List Int,bH v (l.map ag)/\nT N l
def BF(v:U):Prop:=∃l:List Int,bH v (l.map ag)/\l.length<=256/\∀y∈l,(0:Int)<=y/\y<256
def uJ.one(h:uJ N v):bl v=true:=aEM
def BF.one(h:BF v):bl v=true:=aEM
def uJ.clean(h:uJ N v):dm v:=by obtain⟨l,q,_⟩:=h;exact BX q
def BF.clean(h:BF v):dm v:=by obtain⟨l,q,_⟩:=h;exact BX q
def fK.fz(h:fK N v)(J:List aa):∃v',aW J v v'/\uJ N v':=by
 obtain⟨l,Y,V⟩:=h;obtain⟨v',q1,ah⟩:=Y.fz J;exact⟨v',q1,l,ah,V⟩
def agM(J:List aa):∀{Z:List U},(∀c∈Z,fK N c)->∃ys,dK J Z ys/\ys.length=Z.length/\∀y∈ys,uJ N y
 |[],_=>⟨[],bT,rfl,aCt⟩
 |c::r,h=>by
  obtain⟨v',q1,ah⟩:=(h c aCt).fz J;obtain⟨ys,k1,k2,dY⟩:=agM J (Z:=r) λx I=>h x aCG;refine⟨v'::ys,aA q1 k1,by simp[k2],λy hy=>?_⟩
  rcases dW.1 hy with rfl|hy
  exact ah;exact dY y hy
def abT(J:List aa):∀{Z:List U},(∀x∈Z,∃l,nS x l/\l.length<=256/\∀y∈l,(0:Int)<=y/\y<256)->∃ys,dK J Z ys/\ys.length=Z.length/\∀y∈ys,BF y
 |[],_=>⟨[],bT,rfl,aCt⟩
 |c::r,h=>by
  obtain⟨l,Y,V,h3⟩:=h c aCt;obtain⟨v',q1,ah⟩:=Y.fz J;obtain⟨ys,k1,k2,dY⟩:=abT J (Z:=r) λx I=>h x aCG;refine⟨v'::ys,aA q1 k1,by simp[k2],λy hy=>?_⟩
  rcases dW.1 hy with rfl|hy
  exact⟨l,ah,V,h3⟩;exact dY y hy
def Gh(r:U):Prop:=∃(N:Nat) (ak bv f e:U) (b:Bool) (xs ys:List U),r=.agg [ak,bv,f,e,.v (.bool b)]/\N<=256/\bH ak xs/\xs.length=N/\(∀x∈xs,BF x)/\bH bv (ys.map λy=>.agg [y])/\ys.length=N/\(∀y∈ys,uJ N y)/\uJ N f/\uJ N e
def ax6(Z:List U):(Z.map λc=>[c]).flatten=Z:=by
 induction Z with
 |nil=>rfl
 |cons a r ih=>rw[ep,vP,ih];rfl
def zW{xs:List U}(h:bH v xs)(I:∀x∈xs,∀c∈x.cells,dm c):dm v:=by
 rcases h with rfl|⟨rfl,_⟩
 exact j0 I;exact mh
def Gh.clean{r:U}(h:Gh r):dm r:=by
 obtain⟨N,ak,bv,f,e,b,xs,ys,rfl,hN,Y,V,h3,h4,h5,h6,h7,h8⟩:=h;refine Ec λc T=>?_;simp only[dW,nN,or_false] at T
 rcases T with rfl|rfl|rfl|rfl|rfl
 refine zW Y λx I c T=>?_;rw[nY (h3 x I).one] at T;rw[cw.1 T];exact(h3 x I).clean;refine zW h4 λx I c T=>?_;obtain⟨y,hy,rfl⟩:=cI.1 I;rw[cw.1 (show c∈[y] from T)];exact(h6 y hy).clean;exact h7.clean;exact h8.clean;exact cm _
def afu{h:List aa}{an:Nat}{z:List U}{ak bv f e:U}{b:Bool}(hX:qO an z N ak bv h)(hN:N<=256)(hf:fK N f)(he:fK N e){g:List aa}(hg:∀(j:Nat) Z,h[j]?=some (.cells Z true)->g[j]?=some (.cells Z true)):∃n aM,b7 g n (.agg [ak,bv,f,e,.v (.bool b)])=some aM/\Gh aM:=by
 obtain⟨xs,hA,hxl,Ms⟩:=hX.on;obtain⟨xs',x1,x2,x3⟩:=abT g Ms;obtain⟨bD,o1,o2⟩:∃bD,aW g ak bD/\bH bD xs':=by
  rcases hA with⟨rfl,q⟩|⟨id,rfl,_⟩
  rw[q] at x2;exact⟨.af,cX,az ⟨rfl,lG (by simpa using x2)⟩⟩;exact⟨_,e5 x1,ax rfl⟩
 obtain⟨Z,c1,c2,c3⟩:=hX.bt;obtain⟨ys,y1,eu,jT⟩:=agM g c2;obtain⟨bv',b1,b2⟩:∃bv',aW g bv bv'/\bH bv' (ys.map λy=>.agg [y]):=by
  rcases c3 with⟨rfl,q⟩|⟨k,rfl,S⟩
  rw[q] at eu;have:ys=[]:=lG (by simpa using eu);subst this;exact⟨.af,cX,az ⟨rfl,rfl⟩⟩;have V:=aW.rs (sz:=1) (o:=0) (len:=N) (hg k Z S) (m:=N) c1.symm y1;have hE:jE 1 (ys.map λc=>[c]):=λx I=>by
   obtain⟨y,hy,rfl⟩:=cI.1 I;exact⟨rfl,by simp[(jT y hy).one]⟩
  have e1:=LB [] hE;rw[eH,show([]:List U).length=0 from rfl,ax6,bX,eu,c1] at e1;rw[e1] at V;refine⟨_,V,ax ?_⟩;rw[uA];rfl
 obtain⟨f',f1,f2⟩:=hf.fz g;obtain⟨e',e1,e2⟩:=he.fz g;obtain⟨n,hn⟩:=(iC (aA o1 (aA b1 (aA f1 (aA e1 (aA (aB (.bool b)) bT))))):aW g _ _).done;exact⟨n,_,hn,N,bD,bv',f',e',b,xs',ys,rfl,hN,o2,by rw[x2,hxl],x3,b2,by rw[eu,c1],jT,f2,e2⟩
section
variable{G:Cells}{an:Nat}{z:List U}{v lv:U}{ps:List bK}
def aku(h:uF n0 v ps)(hn0:n0<=100000000)(hlv:bH lv (rows.map b8))(hlc:dm lv)(hlr:∀x∈rows,s4 x)(mU:rows.length<=1000000000):∀(n i:Nat),i<n->i<ps.length->sz ps (i:Int)<=1000000000->Gk G an z v lv ps (i:Int):=by
 intro n
 induction n with
 |zero=>intro i Q;omega
 |succ n ih=>
  intro i Q hl hsz N J hX Ah;obtain⟨p,cZ⟩:=cF hl;have jl:=h.ok i p cZ;have mY:=h.no p (bA cZ);have T:=YK h.ok.kids cZ;have hpl:=h.len;have hs:=Of h.ok.kids cZ;have aBz:=Oe (λk=>sz ps k) p.kids;have S:∀x∈p.kids,Gk G an z v lv ps x:=λx I=>by
   obtain⟨j,hj⟩:=J6.1 I;have ayP:=vD (f:=λk=>sz ps k+1) hj;have ayQ:=y4 (λk=>sz ps k+1) p.kids (j+1);obtain⟨x0,x1⟩:=jl.2 x I;obtain⟨xn,rfl⟩:=mI x0;exact ih xn aCs aCs aCs
  have cV:p.kids.length<=1000000000:=aCs
  have hlt:=hX.lt;refine ab9.go ?_;have e1:bw 5 v (.v (.int .i64 (i:Int)))=some (.fp p.cells 0):=h.v.bC (x:=p.aF) aEi rfl;have e2:∀J,aq J true 5 (.fp p.cells 0)=some (.agg p.cells):=λJ=>rfl;refine cB (λe g=>e=[(0,.mp an 0),(1,v),(2,.v (.int .i64 (i:Int))),(3,lv),(8,.mp J.length 0)]/\g=J++[.cells z5 false]) ?_ ?_;exact wx rH;rintro e g ⟨rfl,hg⟩;have gl:g.length=J.length+1:=by rw[hg];simp
  refine cB (λe g2=>e=[(0,.mp an 0),(1,v),(3,lv),(8,.mp J.length 0),(9,.mp (J.length+1) 0)]/\g2=g++[.cells p.cells false]) ?_ ?_;have s1:=vC g p;rw[gl] at s1;exact kY @e1 @e2 @gl @s1 tt;rintro e g2 ⟨rfl,gd⟩;have Hr:g2.length=J.length+2:=by rw[gd];simp;omega
  refine cB (λe h0=>e=[(0,.mp an 0),(1,v),(3,lv),(8,.mp J.length 0),(9,.mp (J.length+1) 0),(10,.mp (J.length+2) 0)]/\ey an z J p.cells N h0) ?_ ?_;have gZ:=yS (iS.z5 N) g2;have f5:cq [.af,.af,.af,.af,.v (.bool false)] []=some z5:=rfl;unfold z5 at gZ f5;rw[Hr] at gZ;refine eV @f5 @Hr @gZ ?_;refine⟨trivial,?_⟩;show ey an z J p.cells N (g2++[.cells z5 false]);subst hg;subst gd;refine⟨((hX.app).app).app,((mK.app.trans mK.app).trans mK.app),aCt,aCt,?_,hlt⟩;have:=iR.new (N:=N) (h:=J++[aj z5 false]++[aj p.cells false]) (iS.z5 N);rw[Hr] at this;exact this;rintro e h0 ⟨rfl,s⟩;have fin:∀{M:Nat},M=cnt ps (i:Int)->∀h',DM an z J (N+M) h'->@Fs [(.c 8 true 5)] ⟨WG an z J (N+cnt ps (i:Int))⟩ ⟨λ_ _=>False⟩ .ret [(8,.mp J.length 0)] h':=by
   rintro M rfl h' ⟨Z,q1,ah,aP,ec⟩;refine dc (vo q1 ah.one.1) ?_;exact⟨Z,rfl,ah,aP,ec⟩
  obtain⟨d0,d1,d2,d3,d4⟩:=n9 s.p;by_cases k1:p.kind=1;rw[if_pos k1] at T;exact arR hlv hlc hlr mU s k1 aCs (fin T.symm);rw[if_neg k1] at T;have hne:(p.kind==1)=false:=by simpa using k1
  refine fR (λe h'=>e=[(0,.mp an 0),(1,v),(3,lv),(8,.mp J.length 0),(9,.mp (J.length+1) 0),(10,.mp (J.length+2) 0)]/\h'=h0) ?_ ?_;exact wx tt;rintro e Y ⟨rfl,rfl⟩;by_cases dY:p.kind=3;rw[if_neg aCs,Bz] at T;exact asM s dY mY cV S aCs (fin T.symm);have Sb:(p.kind==3)=false:=by simpa using dY
  refine fR (λe h'=>e=[(0,.mp an 0),(1,v),(3,lv),(8,.mp J.length 0),(9,.mp (J.length+1) 0),(10,.mp (J.length+2) 0)]/\h'=Y) ?_ ?_;exact wx tt;rintro e V ⟨rfl,rfl⟩;by_cases k2:p.kind=2;rw[if_neg aCs,Bz] at T;exact asj s k2 mY cV S aCs (fin T.symm);have abo:(p.kind==2)=false:=by simpa using k2
  have hz:p.kind=4/\p.kids.length=1/\DK p.low p.high:=by
   rcases jl.1 with q|q|q
   omega;omega;exact q
  obtain⟨x,u6⟩:=Bw.1 hz.2.1;rw[if_pos hz.1,u6] at T;simp only[ep,kn,vU,DG,nP] at T;obtain⟨_,ho,fv,ev,em,rfl,hf,he⟩:=s.o;obtain⟨t0,t1,t2,t3,t4⟩:=oa ho (w:=.v (.bool true)) rfl;obtain⟨s1,o1⟩:=s.put s.o (bg _) (Z:=[.af,.af,fv,ev,.v (.bool true)]) ⟨_,_,_,rfl,hf,he⟩;refine fR (λe h'=>e=[(0,.mp an 0),(1,v),(3,lv),(8,.mp J.length 0),(9,.mp (J.length+1) 0),(10,.mp (J.length+2) 0)]/\ey an z J p.cells N h') ?_ ?_;refine dc @t4 ?_;exact⟨trivial,s1⟩;rintro e h3 ⟨rfl,cW⟩;obtain⟨d0,d1,d2,d3,d4⟩:=n9 cW.p;refine fR (λe h'=>e=[(0,.mp an 0),(1,v),(3,lv),(8,.mp J.length 0),(9,.mp (J.length+1) 0),(10,.mp (J.length+2) 0)]/\h'=h3) ?_ ?_;exact wx tt;rintro e h4 ⟨rfl,rfl⟩;exact asN cW hz.2.2 u6 rfl (S x (by rw[u6];simp)) aCs (fin T.symm)
def avE(h:uF n0 v ps)(hn0:n0<=100000000)(hlv:bH lv (rows.map b8))(hlc:dm lv)(hlr:∀x∈rows,s4 x)(mU:rows.length<=1000000000)(Ah:ps≠[]->cnt ps ((ps.length-1:Nat):Int)<=256/\sz ps ((ps.length-1:Nat):Int)<=1000000000):cC G ay 89 [v,lv] Gh:=by
 refine cU (arQ.go ?_);have hpl:=h.len;have ln:=h.v.bL;rw[bX] at ln;have jN:∀J,bL v J=some (.v (.int .i64 (ps.length:Int)),J):=λJ=>aDf
 have ym:iS 0 [.af,.af,.af,.af,.v (.bool true)]:=⟨_,_,_,rfl,Bt _,Bt _⟩;have f5:cq [.af,.af,.af,.af,.v (.bool false)] [(4,1,.v (.bool true))]=some [.af,.af,.af,.af,.v (.bool true)]:=rfl;refine cB (λe g=>e=[(0,v),(1,lv),(4,.mp 0 0)]/\g=[.cells z5 false]) ?_ ?_;exact wx rH;rintro e g ⟨rfl,hg⟩;have gl:g.length=1:=by rw[hg];rfl
 refine cB (λe g2=>e=[(0,v),(1,lv),(4,.mp 0 0),(5,.mp 1 0)]/\g2=[.cells z5 false]++[.cells [.af,.af,.af,.af,.v (.bool true)] false]) ?_ ?_;have gZ:=yS ym g;unfold z5 at gZ;rw[gl] at gZ;refine gj @f5 @gl @gZ ?_;exact⟨trivial,by rw[hg]⟩;rintro e g2 ⟨rfl,gd⟩;have aaL:qO 1 [.af,.af,.v (.bool true)] 0 .af .af g2:=by
  rw[gd];exact⟨rfl,⟨[],ax ⟨rfl,rfl⟩,rfl,aCt⟩,⟨[],rfl,aCt,ax ⟨rfl,rfl⟩⟩⟩
 have g0:g2[0]?=some (.cells z5 false):=by rw[gd];rfl
 have g1:g2[1]?=some (.cells [.af,.af,.af,.af,.v (.bool true)] false):=by rw[gd];rfl
 rcases zn ps.length with hz|hz
 have aT:((ps.length:Int)==0)=true:=aFb
 have fE:=I6 ym g0 rfl;have q0:(g2.set 0 (.cells [.af,.af,.af,.af,.v (.bool true)] false))[0]?=some (.cells [.af,.af,.af,.af,.v (.bool true)] false):=aO (bF.1 g0).1;refine lD @jN @aT (vo g1 rfl) @fE (vo q0 rfl) ?_;exact afu aaL aCs (Bt _) (Bt _) λj Z q=>by rw[av (by rintro rfl;rw[g0] at q;simp at q)];exact q
 have aT:((ps.length:Int)==0)=false:=beq_eq_false_iff_ne.2 aCs;have hne:ps≠[]:=by rintro rfl;simp at hz
 obtain⟨w6,aqd⟩:=Ah hne;have w1:bP.wrap ((ps.length:Int)-1)=((ps.length-1:Nat):Int):=by rw[wrap_i64 aCs aCs];omega
 refine eV @jN @aT @w1 ?_;refine a_ (aku (G:=G) h hn0 hlv hlc hlr mU _ (ps.length-1) (zo _) aCs aqd 0 g2 ⟨_,_,aaL⟩ aCs) ?_;rw[e6];rintro _ g3 ⟨Z,rfl,hcs,hn,hL⟩;have gZ:=yS hcs g3;unfold z5 at gZ;have aM:(g3++[aj Z false])[0]?=some (.cells z5 false):=aJ (hL.wH 0 _ aCu g0);have hn':o5 1 [.af,.af,.v (.bool true)] (cnt ps ((ps.length-1:Nat):Int)) (g3++[aj Z false]):=hn.app;have rx:(g3++[aj Z false])[g3.length]?=some (.cells Z false):=aCt
 have ja:2<=g3.length:=by have:=hL.len;rw[gd] at this;simpa using this
 obtain⟨xf,fc,jS,rfl,n8,mz⟩:=hcs;refine wx ?_;generalize g3.length=m at rx ja⊢;generalize g3++[aj [.af,.af,xf,fc,.v (.bool jS)] false]=X at aM hn' rx⊢;generalize cnt ps ((ps.length-1:Nat):Int)=M at*;obtain⟨ak,bv,hX⟩:=hn';have O:=hX.b;have avY:bl ak=true:=by
  obtain⟨xs,hA,_⟩:=hX.on
  rcases hA with⟨q,_⟩|⟨_,q,_⟩<;>rw[q]<;>rfl
 have step:∀(X:List aa) (a c d:U) (b:Bool),X[1]?=some (.cells [ak,bv,c,d,.v (.bool b)] false)->X[0]?=some (.cells z5 false)->X[m]?=some (.cells [.af,.af,xf,fc,.v (.bool jS)] false)->(∀(j:Nat) Z,X[j]?=some (.cells Z true)->X[j]?=some (.cells Z true))->∀(c' d':U) (b':Bool),
   (X.set 1 (.cells [ak,bv,c',d',.v (.bool b')] false))[1]?=some (.cells [ak,bv,c',d',.v (.bool b')] false)/\(X.set 1 (.cells [ak,bv,c',d',.v (.bool b')] false))[0]?=some (.cells z5 false)/\(X.set 1 (.cells [ak,bv,c',d',.v (.bool b')] false))[m]?=some (.cells [.af,.af,xf,fc,.v (.bool jS)] false)/\(∀(j:Nat) Z,X[j]?=some (.cells Z true)->(X.set 1 (.cells [ak,bv,c',d',.v (.bool b')] false))[j]?=some (.cells Z true)):=λX a c d b Y h0 hm _ c' d' b'=>
  ⟨aO (bF.1 Y).1,by rw[av aCs];exact h0,by rw[av aCs];exact hm,λj Z q=>aDG⟩
 obtain⟨kG,u1,u2,u3,u4⟩:=oa O n8.one;obtain⟨a1,a0,am,yf⟩:=step X ak _ _ _ O aM rx (λ_ _ q=>q) xf .af true;refine wx ?_;generalize X.set 1 (.cells [ak,bv,xf,.af,.v (.bool true)] false)=W6 at a1 a0 am yf⊢;obtain⟨kG,u1,u2,u3,u4⟩:=oa a1 mz.one;obtain⟨b1,b0,bm,bk⟩:=step W6 ak _ _ _ a1 a0 am (λ_ _ q=>q) xf fc true;refine wx ?_;generalize W6.set 1 (.cells [ak,bv,xf,fc,.v (.bool true)] false)=uN at b1 b0 bm bk⊢;obtain⟨kG,u1,u2,u3,u4⟩:=oa b1 (w:=.v (.bool jS)) rfl;obtain⟨c1,c0,r5,K1⟩:=step uN ak _ _ _ b1 b0 bm (λ_ _ q=>q) xf fc jS;refine wx ?_;generalize uN.set 1 (.cells [ak,bv,xf,fc,.v (.bool jS)] false)=aj7 at c1 c0 r5 K1⊢;unfold z5 at c0;have Ot:=IN (a':=ak) (b':=bv) (c':=xf) (d':=fc) (e':=.v (.bool jS)) c0 (by simp only[l5,oV,avY,hX.bt.one,n8.one,mz.one];rfl);have v0:(aj7.set 0 (.cells [ak,bv,xf,fc,.v (.bool jS)] false))[0]?=some (.cells [ak,bv,xf,fc,.v (.bool jS)] false):=aO (bF.1 c0).1;refine wx ?_;exact afu hX w6 n8 mz λj Z q=>by
  have aP:=K1 _ _ (bk _ _ (yf _ _ q));rw[av (by rintro rfl;rw[c0] at aP;simp at aP)];exact aP
end
end
section
variable{c:U}{k n:Nat}{Z:List U}{g:List aa}
def uL(N:Nat)(c:U):Prop:=∃l,nS c l/\l.length<=70000/\∀x∈l,(0:Int)<=x/\x<(N:Int)
def uL.one{N:Nat}(h:uL N c):bl c=true:=by obtain⟨l,q,_⟩:=h;exact q.one
@[go_sem]def UQ{xs:List U}{t:iU}{i:Nat}(h:xs[i]?=some c)(Y:bl c=true):bw 1 (.sl xs t) (.v (.int .i64 (i:Int)))=some (.fp [c] 0):=by
 have:=jY (n:=1) (t:=t) (k:=.i64) h (by rw[nY Y];rfl);rw[nY Y] at this;exact this
section
variable{h:List aa}{k:Nat}{a b c:U}
@[go_sem]def CT(O:h[k]?=some (.cells [a,b,c] false)):aq h false 1 (.mp k 0)=some a/\aq h false 1 (.mp k 1)=some b/\aq h false 1 (.mp k 2)=some c/\aq h true 3 (.mp k 0)=some (.agg [a,b,c]):=by
 simp only[aq,O];exact⟨rfl,rfl,rfl,rfl⟩
end
@[go_sem]def wF(S:g[k]?=some (.cells Z false))(h0:Z.length=n):aq g true n (.mp k 0)=some (.agg Z):=by
 simp only[aq,S];unfold dI;rw[if_pos rfl,if_pos aCs,ni,lH aCs]
@[go_sem]def qW{cs0:List U}(S:g[k]?=some (.cells cs0 false))(h0:cs0.length=n)(Y:Z.length=n)(V:Z.all bl=true):aE g n (.mp k 0) (.agg Z)=some (g.set k (.cells Z false)):=by
 simp only[aE,S,dG];have cO:(b8 Z).cells=Z:=rfl;rw[cO,if_pos ⟨Y,aCs,V⟩];unfold putAt;rw[ou,eH,sO aCs,ff]
section
variable{G:Cells}{N kt:Nat}{sv au aF w:U}{sets:List U}{t:iU}{J:List aa}
def amX(O:J[kt]?=some (.cells [.sl sets t,au,aF] false))(hs:∀c∈sets,uL N c)(hl1:1<=sets.length)(gX:sets.length<=1000)(hw:uL N w):bq G ay 151 [.mp kt 0,w] J λr hp'=>hp'=J/\∃n:Int,r=.v (.int .i64 n)/\ -1<=n/\n<(sets.length:Int):=by
 refine asd.go ?_;obtain⟨wl,w1,w2,w3⟩:=hw;obtain⟨w',wi,ws⟩:=w1.imp;refine wy ?_;refine b9 (λi e h=>e=[(0,.mp kt 0),(1,w),(5,.v (.int .i64 ((i+1:Nat):Int)))]/\h=J) (sets.length-1) ⟨rfl,rfl⟩ ?_ ?_;rintro i e h Q ⟨rfl,rfl⟩;obtain⟨c,T⟩:∃c,sets[i+1]?=some c:=⟨sets[i+1]' aCs,br _⟩;have hcs:=hs c (bA T);have bC:=UQ (t:=t) T hcs.one;obtain⟨bx,c1,c2,c3⟩:=hcs;obtain⟨c',ci,Z⟩:=c1.imp;refine wy ?_;refine dh (axz Z ws aCs aCs) ?_;rintro r ⟨b,rfl⟩;cases b with
 |false=>
  exact wx tt
 |true=>
  refine wx ?_;exact⟨trivial,_,rfl,aCs,aCs⟩
 rintro e h ⟨rfl,rfl⟩;refine wx ?_;exact⟨trivial,_,rfl,aCs,aCs⟩
structure Flags(N k:Nat)(bs:List U)(h:List aa):Prop where
 b:h[k]?=some (.cells bs true)
 len:bs.length=N
 ok:∀c∈bs,∃b:Bool,c=.v (.bool b)
section
variable{k p:Nat}{bs:List U}{h:List aa}
@[go_sem]def Ej(J:p<N):bw 1 (.rs k N 1 0 N) (.v (.int .i64 (p:Int)))=some (.rp k N p):=by
 have:=NM (k:=k) (m:=N) (n:=1) (len:=N) (j:=p) J;rw[Nat.mul_one] at this;exact this
def Flags.eE(s:Flags N k bs h)(J:p<N):∃b:Bool,bs[p]?=some (.v (.bool b))/\aq h false 1 (.rp k N p)=some (.v (.bool b)):=by
 have hl:=s.len;obtain⟨c,T⟩:∃c,bs[p]?=some c:=⟨bs[p]' aCs,br _⟩;obtain⟨b,rfl⟩:=s.ok c (bA T);refine⟨b,T,?_⟩;simp only[aq,s.b,s.len,if_true,dI];rw[if_neg aCt];exact T
def Flags.st(s:Flags N k bs h)(J:p<N):aE h 1 (.rp k N p) (.v (.bool true))=some (h.set k (.cells (bs.set p (.v (.bool true))) true))/\Flags N k (bs.set p (.v (.bool true))) (h.set k (.cells (bs.set p (.v (.bool true))) true)):=by
 have hl:=s.len;have S:=gl s.b;refine⟨?_,aO S,by rw[rM];exact s.len,λc T=>?_⟩;have cO:(bO (.bool true)).cells=[.v (.bool true)]:=rfl;simp only[aE,s.b,s.len,if_true,dG,cO];rw[if_pos ⟨rfl,aCs,rfl⟩,Ja aCs]
 rcases J7 T with q|rfl
 exact s.ok c q;exact⟨true,rfl⟩
end
def ajI(B:Nat)(h:List aa)(c:U)(xs:List U):Prop:=(c=.af/\xs=[])\/∃id,c=.sl xs (.tok id)/\B<=id/\h[id]?=some (.tok xs.length 1 3)
structure uH(B N M:Nat)(outs:List U)(h:List aa):Prop where
 len:outs.length=32
 row:∀(s:Nat) c,outs[s]?=some c->∃l:List Int,ajI B h c (l.map ag)/\l.length<=M/\∀x∈l,(0:Int)<=x/\x<(N:Int)
 one:∀(s s' id:Nat) xs xs',outs[s]?=some (.sl xs (.tok id))->outs[s']?=some (.sl xs' (.tok id))->s=s'
section
variable{B M M' s:Nat}{outs:List U}{h h':List aa}{c:U}
def uH.keep(q:uH B N M outs h)(hM:M<=M')(S:∀(j c:Nat),h[j]?=some (.tok c 1 3)->h'[j]?=some (.tok c 1 3)):uH B N M' outs h':=by
 refine⟨q.len,λs c T=>?_,q.one⟩;obtain⟨l,Y,V,h3⟩:=q.row s c T;refine⟨l,Y.elim ax ?_,aCs,h3⟩;rintro⟨id,e1,eb,e2⟩;exact az ⟨id,e1,eb,S _ _ e2⟩
def uH.push(q:uH B N M outs h)(T:outs[s]?=some c)(hB:B<=h.length)(hM:M<=100000){p:Nat}(J:p<N):∃bf g,cM h 1 8 3 c (.sl [.v (.int .i64 (p:Int))] .exact)=some (bf,g)/\bl bf=true/\uH B N (M+1) (outs.set s bf) g/\h.length<=g.length/\(∀(j:Nat) Z fz,h[j]?=some (.cells Z fz)->g[j]?=some (.cells Z fz))/\∀(j:Nat) b,h[j]?=some b->(∀xs,c≠.sl xs (.tok j))->g[j]?=some b:=by
 obtain⟨l,Y,V,h3⟩:=q.row s c T;have sr:=gl T;have I:=C0 l;have hy:bS 1 [bO (.int .i64 (p:Int))]=true:=rfl;have Rj:∀x∈l++[(p:Int)],(0:Int)<=x/\x<(N:Int):=λx I=>by
  rcases dN.1 I with y|y
  exact h3 x y;rw[cw.1 y];omega
 rcases Y with⟨rfl,e⟩|⟨id,rfl,aof,hid⟩
 have:l=[]:=Wg.1 e;subst this;refine⟨.sl ([]++[.v (.int .i64 (p:Int))]) (.tok h.length),h++[.tok 1 1 3],?_,rfl,⟨by rw[rM];exact q.len,λs' c' gx=>?_,λs1 s2 id xs xs' k1 k2=>?_⟩,aCt,λj Z fz k=>aJ k,λj b k _=>aJ k⟩;simp[cM,fA,gp,contents,hy];by_cases EK:s=s';subst EK;rw[aO sr] at gx;cases gx;exact⟨[]++[(p:Int)],az ⟨h.length,rfl,hB,aCt⟩,aCt,Rj⟩;rw[av EK] at gx;obtain⟨l',r1,r2,hD⟩:=q.row s' c' gx;refine⟨l',r1.elim ax ?_,aCs,hD⟩;rintro⟨id,e1,eb,e2⟩;exact az ⟨id,e1,eb,aJ e2⟩;have old:∀{s':Nat} {ys:List U},s≠s'->outs[s']?=some (.sl ys (.tok id))->id<h.length:=λ{s' ys} _ k=>by
  obtain⟨l',r1,_⟩:=q.row s' _ k
  rcases r1 with⟨r,_⟩|⟨id',r,_,r2⟩
  cases r;cases r;exact gl r2
 by_cases a1:s=s1<;>by_cases a2:s=s2;omega;subst a1;rw[aO sr] at k1;rw[av a2] at k2;cases k1;have:=old a2 k2;omega;subst a2;rw[aO sr] at k2;rw[av a1] at k1;cases k2;have:=old a1 k1;omega;rw[av a1] at k1;rw[av a2] at k2;exact q.one s1 s2 id _ _ k1 k2;have hl:id<h.length:=gl hid;rw[bX] at hid;have hfit:(l.length+1)*8<=140737488355328:=aCs
 refine⟨.sl (l.map ag++[.v (.int .i64 (p:Int))]) (.tok id),h.set id (.tok (l.length+1) 1 3),?_,rfl,⟨by rw[rM];exact q.len,λs' c' gx=>?_,λs1 s2 id' xs xs' k1 k2=>?_⟩,aCt,λj Z fz k=>by rw[av (by rintro rfl;rw[hid] at k;cases k)];exact k,λj b k hne=>by
  rw[av (by rintro rfl;exact hne _ rfl)];exact k⟩
 simp[cM,fA,gp,contents,hy,hfit,I,hid];by_cases EK:s=s';subst EK;rw[aO sr] at gx;cases gx;exact⟨l++[(p:Int)],az ⟨id,by simp[ag],aof,aDi⟩,aCv,Rj⟩;rw[av EK] at gx;obtain⟨l',r1,r2,hD⟩:=q.row s' c' gx;refine⟨l',r1.elim ax ?_,aCs,hD⟩;rintro⟨id',e1,eb,e2⟩;refine az ⟨id',e1,eb,?_⟩;rw[av (by rintro rfl;subst e1;exact EK (q.one s s' _ _ _ T gx))];exact e2;by_cases a1:s=s1<;>by_cases a2:s=s2;omega;subst a1;rw[aO sr] at k1;rw[av a2] at k2;cases k1;exact q.one _ _ _ _ _ T k2;subst a2;rw[aO sr] at k2;rw[av a1] at k1;cases k2;exact q.one _ _ _ _ _ k1 T;rw[av a1] at k1;rw[av a2] at k2;exact q.one s1 s2 id' _ _ k1 k2
def uH.set(q:uH B N M outs h)(T:outs[s]?=some c)(hM:M<=70000):uL N c:=by
 obtain⟨l,Y,V,h3⟩:=q.row s c T;refine⟨l,?_,aCs,h3⟩
 rcases Y with⟨rfl,e⟩|⟨id,rfl,_⟩
 exact ax ⟨rfl,Wg.1 e⟩;exact az ⟨_,rfl⟩
end
end
end
section
variable{M N m:Nat}{cD outs:List U}{h J:List aa}
structure uD(N:Nat)(J:List aa)(cD:List U)(h:List aa):Prop where
 n:h[J.length]?=some (.cells cD false)
 r:h[J.length+1]?=some (.cells (dJ 32 .af) false)
 m:∃bs,Flags N (J.length+2) bs h
 x:Ext J h
section
variable{N p:Nat}{J h:List aa}{cD:List U}
def uD.st(s:uD N J cD h)(Cu:p<N):∃h',aE h 1 (.rp (J.length+2) N p) (.v (.bool true))=some h'/\uD N J cD h':=by
 obtain⟨bs,q⟩:=s.m;obtain⟨a1,a2⟩:=q.st Cu;refine⟨_,a1,by rw[av aCs];exact s.n,by rw[av aCs];exact s.r,⟨_,a2⟩,λj b k=>?_⟩;have:=gl k;rw[av aCs];exact s.x j b k
end
structure uC(N M:Nat)(J:List aa)(cD outs:List U)(m:Nat)(h:List aa):Prop where
 s:uD N J cD h
 o:h[m]?=some (.cells outs false)
 q:uH J.length N M outs h
 zQ:J.length+3<=m
def uH.avL{B:Nat}(q:uH B N M outs h):outs.all bl=true:=by
 rw[c7];intro c T;obtain⟨s,hs⟩:=J6.1 T;obtain⟨l,Y,_⟩:=q.row s c hs
 rcases Y with⟨rfl,_⟩|⟨_,rfl,_⟩<;>rfl
def uC.mono{M':Nat}(z:uC N M J cD outs m h)(hM:M<=M'):uC N M' J cD outs m h:=⟨z.s,z.o,z.q.keep hM λ_ _ k=>k,z.zQ⟩
def XL{h':List aa}{n:Nat}{p v:U}(e:aE h n p v=some h'):h'.length=h.length:=by
 unfold aE at e;split at e;split at e;unfold dG at e;split at e;cases e;simp;cases e;cases e;split at e;split at e;unfold dG at e;split at e;cases e;simp;cases e;cases e;cases e;cases e
def uC.push{s:Nat}{c:U}(z:uC N M J cD outs m h)(T:outs[s]?=some c)(hM:M<=100000){p:Nat}(hp':p<N):∃bf g h',cM h 1 8 3 c (.sl [.v (.int .i64 (p:Int))] .exact)=some (bf,g)/\aE g 1 (.mp m s) bf=some h'/\uC N (M+1) J cD (outs.set s bf) m h'/\∀bs,h[J.length+2]?=some (.cells bs true)->h'[J.length+2]?=some (.cells bs true):=by
 obtain⟨bf,g,e1,e2,bW,cO,kS,uT⟩:=z.q.push T z.s.x.len hM hp';have nD:=kS _ _ _ z.o;have hml:=gl nD;have sr:=gl T;have HE:=z.zQ;have c1:=nY e2;have st:aE g 1 (.mp m s) bf=some (g.set m (.cells (outs.set s bf) false)):=by
  simp only[aE,nD,dG,c1];rw[if_pos ⟨rfl,aCs,by simp[e2]⟩,Ja sr]
 refine⟨bf,g,_,e1,st,⟨⟨?_,?_,?_,?_⟩,aO hml,bW.keep (bg _) λj c k=>by rw[av (by rintro rfl;rw[nD] at k;cases k)];exact k,z.zQ⟩,λbs k=>by rw[av aCs];exact kS _ _ _ k⟩;rw[av aCs];exact kS _ _ _ z.s.n;rw[av aCs];exact kS _ _ _ z.s.r;obtain⟨bs,q⟩:=z.s.m;exact⟨bs,by rw[av aCs];exact kS _ _ _ q.b,q.len,q.ok⟩;intro j b k;have hj:=gl k;rw[av aCs];refine uT _ _ (z.s.x j b k) λxs e=>?_;obtain⟨l,Y,_⟩:=z.q.row s c T
 rcases Y with⟨Y,_⟩|⟨id,Y,hB,V⟩
 rw[Y] at e;cases e;rw[Y] at e;cases e;omega
section
variable{G:Cells}{N kt:Nat}{ak bv f e au aF:U}{b:Bool}{sets xs ys:List U}{t:iU}{J:List aa}
def ak5(O:J[kt]?=some (.cells [.sl sets t,au,aF] false))(hs:∀c∈sets,uL N c)(gX:sets.length<=1000){aU:Nat}(hU:aU<sets.length)
  (hN:N<=256) (Y:bH ak xs) (V:xs.length=N) (h3:∀x∈xs,BF x) (h4:bH bv (ys.map λy=>.agg [y])) (h5:ys.length=N) (h6:∀y∈ys,uJ N y) (h7:uJ N f):
  bq G ay 150 [.mp kt 0,.agg [ak,bv,f,e,.v (.bool b)],.v (.int .i64 (aU:Int))] J λr hp'=>Ext J hp'/\∃Z,r=.agg Z/\Z.length=32/\∀c∈Z,uL N c:=by
 refine asc.go ?_;obtain⟨cD,Ar⟩:∃cD:List U,cD=[ak,bv,f,e,.v (.bool b)]:=⟨_,rfl⟩;have ae0:∀g,bL ak g=some (.v (.int .i64 (N:Int)),g):=λg=>by rw[Y.bL,kT,V]
 refine cB (λe' g=>e'=[(0,.mp kt 0),(2,.v (.int .i64 (aU:Int))),(4,.mp J.length 0),(6,.mp (J.length+1) 0)]/\g=J++[.cells cD false]++[.cells (dJ 32 .af) false]) ?_ ?_;refine fG @cG.{0} ?_;exact⟨trivial,rfl⟩;rintro e' g ⟨rfl,hg⟩;have gl:g.length=J.length+2:=by rw[hg];simp
 have gn:g[J.length]?=some (.cells cD false):=by rw[hg];simp
 refine cB (λe' g=>e'=[(0,.mp kt 0),(2,.v (.int .i64 (aU:Int))),(4,.mp J.length 0),(6,.mp (J.length+1) 0),(7,.rs (J.length+2) N 1 0 N)]/\uD N J cD g/\g.length=J.length+3) ?_ ?_;have lo:aq g false 1 (.mp J.length 0)=some ak:=by rw[Ar] at gn;exact(g_ gn).1
 have m1:zH g 1 1 [.v (.bool false)] (.v (.int .i64 (N:Int))) (.v (.int .i64 (N:Int)))=some (.rs (J.length+2) N 1 0 N,g++[.cells (dJ N (.v (.bool false))) true]):=by
  unfold zH;dsimp only;rw[if_pos ⟨aCs,aCs,aCs,aCs,rfl,aCu⟩,gl];simp
 refine gj @lo @ae0 @m1 ?_;refine⟨trivial,⟨aJ gn,aJ (by rw[hg];simp),⟨dJ N (.v (.bool false)),by rw[<-gl];simp,aCt,λc T=>⟨false,(ajs.1 T).2⟩⟩,?_⟩,by simp[gl]⟩;rw[hg];exact(jU.nW).nW;rintro e' g1 ⟨rfl,s1,aao⟩;refine cB (λe' g=>e'=[(0,.mp kt 0),(2,.v (.int .i64 (aU:Int))),(4,.mp J.length 0),(6,.mp (J.length+1) 0),(7,.rs (J.length+2) N 1 0 N)]/\uD N J cD g/\g.length=J.length+3) ?_ ?_;refine wy ?_;obtain⟨fl,f1,f2⟩:=h7;have hfl:=f2.len;have Lv:=(vA f1)
 rcases zn aU with hz|hz
 have aT:((aU:Int)==0)=true:=aFb
 refine b9 (λi e' g=>e'=[(0,.mp kt 0),(2,.v (.int .i64 (aU:Int))),(4,.mp J.length 0),(6,.mp (J.length+1) 0),(7,.rs (J.length+2) N 1 0 N),(8,ag i)]/\uD N J cD g/\g.length=J.length+3) fl.length ⟨rfl,s1,aao⟩ ?_ ?_;rintro i e' g Q ⟨rfl,s,gl⟩;obtain⟨x,I⟩:=cF Q;obtain⟨x0,x1⟩:=f2.2 x (bA I);obtain⟨p,rfl⟩:=mI x0;have aY:aq g false 1 (.mp J.length 2)=some f:=aD4
 have Cu:p<N:=aCs
 obtain⟨g',t1,t2⟩:=s.st Cu;have Rd:g'.length=J.length+3:=by rw[<-gl];exact XL t1
 simp -failIfUnchanged -implicitDefEqProofs (disch:=first|assumption|decide|omega) only[gY,lY,lZ,↓reduceIte,sU,rO,sV,sW,oo,xU,xV,ag,aT,kB,aY,Lv.len,Lv.bC I,tC,Ej Cu,t1];exact⟨trivial,t2,Rd⟩;rintro e' g ⟨rfl,s,gl⟩;have aY:aq g false 1 (.mp J.length 2)=some f:=aD4
 refine eV @ag.eq_1 @aT @aY ?_;exact⟨trivial,s,gl⟩;have aT:((aU:Int)==0)=false:=aCv
 refine b9 (λi e' g=>e'=[(0,.mp kt 0),(2,.v (.int .i64 (aU:Int))),(4,.mp J.length 0),(6,.mp (J.length+1) 0),(7,.rs (J.length+2) N 1 0 N),(8,ag i)]/\uD N J cD g/\g.length=J.length+3) 0 ⟨rfl,s1,aao⟩ ?_ ?_;rintro i e' g Q;omega;rintro e' g ⟨rfl,s,gl⟩;refine fm @ag.eq_1 @aT ?_;exact⟨trivial,s,gl⟩;rintro e' g2 ⟨rfl,s2,Hr⟩;obtain⟨c0,hc0⟩:=cF hU;have Ez:=hs c0 (bA hc0);have aqA:=UQ (t:=t) hc0 Ez.one;obtain⟨bx,aAU,aAV,hO⟩:=Ez;refine cB (λe' g=>e'=[(4,.mp J.length 0),(6,.mp (J.length+1) 0),(7,.rs (J.length+2) N 1 0 N)]/\uD N J cD g/\g.length=J.length+3) ?_ ?_;refine wy ?_;refine b9 (λi e' g=>e'=[(0,.mp kt 0),(2,.v (.int .i64 (aU:Int))),(4,.mp J.length 0),(6,.mp (J.length+1) 0),(7,.rs (J.length+2) N 1 0 N),(9,ag i)]/\uD N J cD g/\g.length=J.length+3) bx.length ⟨rfl,s2,Hr⟩ ?_ ?_;rintro i e' g Q ⟨rfl,s,gl⟩;obtain⟨x,I⟩:=cF Q;obtain⟨x0,x1⟩:=hO x (bA I);obtain⟨p,rfl⟩:=mI x0;have lk:=s.x _ _ O;have aY:aq g false 1 (.mp J.length 1)=some bv:=by have:=s.n;rw[Ar] at this;exact(g_ this).2.1
 obtain⟨y,hy⟩:∃y,ys[p]?=some y:=⟨ys[p]' aCs,br _⟩;have lp:bw 1 bv (.v (.int .i64 (p:Int)))=some (.fp [y] 0):=h4.bC (x:=.agg [y]) aCZ rfl;obtain⟨VD,y1,eu⟩:=h6 y (bA hy);have aiR:=(vA y1);have aBR:=eu.len;refine lE ?_;refine b9 (λj e' g=>e'=[(0,.mp kt 0),(2,.v (.int .i64 (aU:Int))),(4,.mp J.length 0),(6,.mp (J.length+1) 0),(7,.rs (J.length+2) N 1 0 N),(9,ag i),(10,y),(11,ag j)]/\uD N J cD g/\g.length=J.length+3) VD.length ⟨rfl,s,gl⟩ ?_ ?_;rintro j e' g hj ⟨rfl,s,gl⟩;obtain⟨x',hx'⟩:∃x,VD[j]?=some x:=⟨VD[j],br hj⟩;obtain⟨az7,OA⟩:=eu.2 x' (bA hx');obtain⟨p',rfl⟩:=mI az7;have Cu:p'<N:=aCs
 obtain⟨g',t1,t2⟩:=s.st Cu;have Rd:g'.length=J.length+3:=by rw[<-gl];exact XL t1
 simp -failIfUnchanged -implicitDefEqProofs (disch:=first|assumption|decide|omega) only[gY,lY,lZ,↓reduceIte,sU,rO,sV,sW,oo,xU,xV,ag,aiR.len,aiR.bC hx',tC,Ej Cu,t1];exact⟨trivial,t2,Rd⟩;rintro e' g ⟨rfl,s,gl⟩;refine dc @ag.eq_1 ?_;exact⟨trivial,s,gl⟩;rintro e' g ⟨rfl,s,gl⟩;have lk:=s.x _ _ O;refine fm @ag.eq_1 @aqA ?_;exact⟨trivial,s,gl⟩;rintro e' g3 ⟨rfl,cW,Re⟩;refine cB (λe' g=>e'=[(4,.mp J.length 0),(6,.mp (J.length+1) 0),(7,.rs (J.length+2) N 1 0 N),(12,.mp (J.length+3) 0)]/\∃outs,uC N 0 J cD outs (J.length+3) g) ?_ ?_;have aAh:(dJ 32 U.af).all bl=true:=rfl;have fk:=qW (n:=32) (g:=g3++[.cells (dJ 32 .af) false]) (k:=g3.length) (Z:=dJ 32 .af) (cs0:=dJ 32 .af) aCt rfl rfl aAh;have e1:(g3++[aj (dJ 32 .af) false]).set g3.length (.cells (dJ 32 .af) false)=g3++[.cells (dJ 32 .af) false]:=aCt
 have f1:cq (dJ 32 U.af) []=some (dJ 32 .af):=rfl;rw[e1,Re] at fk;simp only[dJ] at fk f1;refine fm @Re @fk ?_;refine⟨trivial,dJ 32 .af,⟨aJ cW.n,aJ cW.r,?_,cW.x.nW⟩,?_,⟨rfl,λs c T=>?_,λs s' id xs xs' k1 _=>?_⟩,bg _⟩;obtain⟨bs,q⟩:=cW.m;exact⟨bs,aJ q.b,q.len,q.ok⟩;rw[<-Re];exact OP;have:=(ajs.1 (bA T)).2;subst this;exact⟨[],ax ⟨rfl,rfl⟩,iE _,aCt⟩;have:=(ajs.1 (bA k1)).2;cases this;rintro e' g4 ⟨rfl,avX,z4⟩;refine cB (λe' g=>e'=[(6,.mp (J.length+1) 0),(12,.mp (J.length+3) 0)]/\∃outs,uC N 70000 J cD outs (J.length+3) g) ?_ ?_;refine wy ?_;have aui:∀g,bL (.rs (J.length+2) N 1 0 N) g=some (.v (.int .i64 (N:Int)),g):=λg=>rfl;refine b9 (λi e' g=>e'=[(4,.mp J.length 0),(6,.mp (J.length+1) 0),(7,.rs (J.length+2) N 1 0 N),(12,.mp (J.length+3) 0),(13,ag i)]/\∃outs,uC N (i*256) J cD outs (J.length+3) g) N ⟨rfl,avX,by rw[Nat.zero_mul];exact z4⟩ ?_ ?_;rintro i e' g Q ⟨rfl,outs,z⟩;obtain⟨x,I⟩:∃x,xs[i]?=some x:=⟨xs[i]' aCs,br _⟩;have oG:=h3 x (bA I);have ix:bw 1 ak (.v (.int .i64 (i:Int)))=some (.fp [x] 0):=by
  have:=Y.bC (n:=1) (k:=.i64) (x:=x) I (by rw[nY oG.one];rfl);rw[nY oG.one] at this;exact this
 obtain⟨aAe,x1,x2,x3⟩:=oG;have VB:=(vA x1);obtain⟨bs,hfl⟩:=z.s.m;obtain⟨fb,_,yH⟩:=hfl.eE Q;have w1:bP.wrap ((i:Int)+1)=((i+1:Nat):Int):=jd aCs;refine oS ?_;refine b9 (λj e' g=>e'=[(4,.mp J.length 0),(6,.mp (J.length+1) 0),(7,.rs (J.length+2) N 1 0 N),(12,.mp (J.length+3) 0),(13,ag i),(14,ag j)]/\aq g false 1 (.rp (J.length+2) N i)=some (.v (.bool fb))/\∃outs,uC N (i*256+j) J cD outs (J.length+3) g) (if fb then aAe.length else 0) ⟨rfl,yH,outs,z.mono aCs⟩ ?_ ?_;rintro j e' g hj ⟨rfl,yH,outs,z⟩;cases fb with
 |false=>simp at hj
 |true=>
  simp only[if_true] at hj;obtain⟨y,hy⟩:=cF hj;obtain⟨y0,y1⟩:=x3 y (bA hy);obtain⟨s,rfl⟩:=mI y0;have lo:aq g false 1 (.mp J.length 0)=some ak:=aEb
  simp -failIfUnchanged -implicitDefEqProofs (disch:=first|assumption|decide|omega) only[gY,lY,lZ,↓reduceIte,sU,rO,sV,sW,oo,xU,xV,ag,Ej Q,yH,kB,lo,ix,tC,VB.len,VB.bC hy];refine b5 (λq=>?_) λq=>?_;have aBJ:s<32:=aCB
  have yd:jr 32 1 (.mp (J.length+3) 0) (.v (.int .i64 (s:Int)))=some (.mp (J.length+3) s):=by
   unfold jr;dsimp only;rw[if_pos ⟨aCs,aCs⟩];simp[kB]
  have hol:=z.q.len;obtain⟨c,T⟩:∃c,outs[s]?=some c:=⟨outs[s]' aCs,br _⟩;have lc:aq g false 1 (.mp (J.length+3) s)=some c:=by
   simp only[aq,z.o,dI];rw[if_neg aCt];exact T
  obtain⟨bf,g',qZ,t1,t2,t3,t4⟩:=z.push T aCs Q;have at3:aq qZ false 1 (.rp (J.length+2) N i)=some (.v (.bool true)):=by
   obtain⟨bs,q1⟩:=z.s.m;have ah:=t4 bs q1.b;simp only[aq,q1.b] at yH;simp only[aq,ah];exact yH
  refine lD @q @yd @lc @t1 @t2 ?_;exact⟨rfl,at3,_,t3.mono aCs⟩;exact⟨rfl,yH,outs,z.mono aCs⟩
 rintro e' g ⟨rfl,yH,outs,z⟩;have lo:aq g false 1 (.mp J.length 0)=some ak:=aEb
 have sL:uC N ((i+1)*256) J cD outs (J.length+3) g:=z.mono (by split<;>omega);cases fb with
 |false=>
  simp -failIfUnchanged -implicitDefEqProofs (disch:=first|assumption|decide|omega) only[gY,lY,lZ,↓reduceIte,sU,rO,sV,sW,oo,xU,xV,ag,Ej Q,yH,w1];exact⟨trivial,outs,sL⟩
 |true=>
  simp only[if_true];simp -failIfUnchanged -implicitDefEqProofs (disch:=first|assumption|decide|omega) only[gY,lY,lZ,↓reduceIte,sU,rO,sV,sW,oo,xU,xV,ag,Ej Q,yH,kB,lo,ix,tC,VB.len,w1];exact⟨trivial,outs,sL⟩
 rintro e' g ⟨rfl,outs,z⟩;refine fm @ag.eq_1 @aui ?_;exact⟨trivial,outs,z.mono aCs⟩;rintro e' g5 ⟨rfl,outs,z5⟩;have rl:=qW (n:=32) z5.s.r aCt z5.q.len z5.q.avL;have rk:(g5.set (J.length+1) (.cells outs false))[J.length+1]?=some (.cells outs false):=aO (bF.1 z5.s.r).1;refine ki (wF z5.o z5.q.len) (wF rk z5.q.len) ?_;refine⟨λj b k=>?_,outs,rfl,z5.q.len,λc T=>?_⟩;have:=(bF.1 k).1;rw[av aCs];exact z5.s.x j b k;obtain⟨s,hs⟩:=J6.1 T;exact z5.q.set hs aCs
end
end
section
variable{B N m n:Nat}{v:U}{xs:List U}{e:TypeId}{g:List aa}
structure iV(N:Nat)(cD sets dA rows:List U)(sv au aF:U)(h:List aa):Prop where
 n:h[0]?=some (.cells cD false)
 r:h[1]?=some (.cells [.af,.af,.af] false)
 t:h[2]?=some (.cells [sv,au,aF] false)
 s:ku 0 h sv sets 1 31
 a:ku 0 h aF dA 1 4
 w:bU h au rows 32 238
 sk:∀c∈sets,uL N c
 yf:∀c∈dA,∃b:Bool,c=.v (.bool b)
 rk:∀c∈rows,∃l:List Int,c=.agg (l.map ag)/\l.length=32
section
variable{N:Nat}{cD sets dA rows:List U}{sv au aF:U}{h h':List aa}
def ku.ext(q:ku B h v xs n e)(S:∀(j:Nat) c,h[j]?=some (.tok c n e)->h'[j]?=some (.tok c n e)):ku B h' v xs n e:=by
 rcases q with q|⟨id,q1,ah,aP⟩
 exact ax q;exact az ⟨id,q1,ah,S _ _ aP⟩
def ku.sl{B:Nat}{v:U}{xs:List U}{n:Nat}{e:TypeId}(q:ku B h v xs n e):∃t,v=.sl xs t:=by
 rcases q with q|⟨id,q1,_⟩
 exact⟨_,q⟩;exact⟨_,q1⟩
def ku.one(q:ku B h v xs n e):bl v=true:=by
 obtain⟨t,rfl⟩:=q.sl;rfl
def iV.ext(z:iV N cD sets dA rows sv au aF h)(S:∀(j:Nat) b,h[j]?=some b->(∀Z,b≠.cells Z false\/j<=2)->h'[j]?=some b):iV N cD sets dA rows sv au aF h':=by
 refine⟨S _ _ z.n λ_=>az aCu,S _ _ z.r λ_=>az aCu,S _ _ z.t λ_=>az aCu,z.s.ext λj c q=>S _ _ q λ_=>ax aCt,z.a.ext λj c q=>S _ _ q λ_=>ax aCt,?_,z.sk,z.yf,z.rk⟩
 rcases z.w with q|⟨id,q1,ah⟩
 exact ax q;exact az ⟨id,q1,S _ _ ah λ_=>ax aCt⟩
def iV.app{x:List aa}(z:iV N cD sets dA rows sv au aF h):iV N cD sets dA rows sv au aF (h++x):=z.ext λj b q _=>aJ q
def iV.set(z:iV N cD sets dA rows sv au aF h)(hm:3<=m){Z cs':List U}(S:h[m]?=some (.cells Z false)):iV N cD sets dA rows sv au aF (h.set m (.cells cs' false)):=z.ext λj b q O=>by
 rw[av];exact q;rintro rfl;rw[S] at q;cases q
 rcases O Z with k|k
 exact k rfl;omega
def Pc(h h':List aa):Prop:=h.length<=h'.length/\∀(j:Nat) Z,j≠2->h[j]?=some (.cells Z false)->h'[j]?=some (.cells Z false)
def iV.push(z:iV N cD sets dA rows sv au aF h){c:U}(T:uL N c)(hl:sets.length<=1000):∃iO g g',cM h 1 24 31 sv (.sl [c] .exact)=some (iO,g)/\aE g 1 (.mp 2 0) iO=some g'/\iV N cD (sets++[c]) dA rows iO au aF g'/\Pc h g':=by
 obtain⟨v,g,e1,e2,_,hA,O,q⟩:=Z4 (x:=c) (aZ:=24) (o:=0) z.s (iE _) z.t aCt (xC λx I=>(z.sk x I).one) (xC λx I=>by rw[cw.1 I];exact T.one) aCu aCu aCs;exact⟨v,g,_,e1,e2,⟨q.cells z.n aCu,q.cells z.r aCu,O,hA,q.own z.t z.a aCu,q.zJ z.t z.w aCu,λx I=>(dN.1 I).elim (z.sk x) λq=>by rw[cw.1 q];exact T,z.yf,z.rk⟩,q.1,λj c hj O=>q.cells O hj⟩
def iV.awf(z:iV N cD sets dA rows sv au aF h)(b:Bool)(hl:dA.length<=1000):∃GD g g',cM h 1 1 4 aF (.sl [.v (.bool b)] .exact)=some (GD,g)/\aE g 1 (.mp 2 2) GD=some g'/\iV N cD sets (dA++[.v (.bool b)]) rows sv au GD g'/\Pc h g':=by
 obtain⟨v,g,e1,e2,_,hA,O,q⟩:=Z4 (x:=.v (.bool b)) (aZ:=1) (o:=2) z.a (iE _) z.t aCt (xC λx I=>by obtain⟨b,rfl⟩:=z.yf x I;rfl) rfl aCu aCu aCs;exact⟨v,g,_,e1,e2,⟨q.cells z.n aCu,q.cells z.r aCu,O,q.own z.t z.s aCu,hA,q.zJ z.t z.w aCu,z.sk,λx I=>(dN.1 I).elim (z.yf x) λq=>⟨b,cw.1 q⟩,z.rk⟩,q.1,λj c hj O=>q.cells O hj⟩
@[go_sem]def Nj(l:List Int)(hl:l.length=32):bS 32 [b8 (l.map ag)]=true:=by
 have:(l.map ag).all bl=true:=by
  rw[c7];intro x I;obtain⟨n,_,rfl⟩:=cI.1 I;rfl
 simp only[bS,l5,oV,gN,this,bX,hl];rfl
def iV.AX(z:iV N cD sets dA rows sv au aF h){l:List Int}(xg:l.length=32)(hl:rows.length<=1000):∃iL g g',cM h 32 256 238 au (.sl [.agg (l.map ag)] .exact)=some (iL,g)/\aE g 1 (.mp 2 1) iL=some g'/\iV N cD sets dA (rows++[.agg (l.map ag)]) sv iL aF g'/\Pc h g':=by
 have fD:bS 32 rows=true:=by
  rw[bS,c7];intro x I;obtain⟨l,rfl,hl⟩:=z.rk x I;have:=Nj l hl;simpa[bS] using this
 obtain⟨v,g,e1,e2,_,hA,O,q⟩:=Hi (x:=.agg (l.map ag)) (aZ:=256) (o:=1) z.w z.t aCt fD (Nj l xg) aCu aCu aCs;exact⟨v,g,_,e1,e2,⟨q.cells z.n aCu,q.cells z.r aCu,O,q.own z.t z.s aCu,q.own z.t z.a aCu,hA,z.sk,z.yf,λx I=>(dN.1 I).elim (z.rk x) λq=>⟨l,cw.1 q,xg⟩⟩,q.1,λj c hj O=>q.cells O hj⟩
end
def W2(r:U):Prop:=∃(a b c:U) (t:Bool),r=.aK [.agg [a,b,c],.v (.bool t)]/\bl a=true/\bl b=true/\bl c=true
def ahn(J:List aa):∀{Z:List U},(∀c∈Z,uL N c)->∃ys,dK J Z ys
 |[],_=>⟨[],bT⟩
 |c::r,h=>by
  obtain⟨l,Y,_⟩:=h c aCt;obtain⟨v',q1,_⟩:=Y.fz J;obtain⟨ys,k1⟩:=ahn J (Z:=r) λx I=>h x aCG;exact⟨v'::ys,aA q1 k1⟩
def ayZ{cD sets dA rows:List U}{sv au aF:U}{h:List aa}(z:iV N cD sets dA rows sv au aF h)(b:Bool):∃n aM,b7 g n (.aK [.agg [sv,au,aF],.v (.bool b)])=some aM/\W2 aM:=by
 obtain⟨t1,rfl⟩:=z.s.sl;obtain⟨t2,rfl⟩:=z.a.sl;obtain⟨ys,hy⟩:=ahn g z.sk;have ha:dK g dA dA:=dK.each λa ha=>by obtain⟨b,rfl⟩:=z.yf a ha;exact aB _
 obtain⟨iL,hn,Y⟩:∃iL,aW g au iL/\bl iL=true:=by
  rcases z.w with⟨rfl,_⟩|⟨id,rfl,_⟩
  exact⟨.af,cX,rfl⟩;have D:dK g rows rows:=dK.each λa ha=>by
   obtain⟨l,rfl,_⟩:=z.rk a ha;exact iC (fY λa _=>aB _)
  exact⟨_,e5 D,rfl⟩
 obtain⟨n,hn⟩:=(dQ (aA (iC (aA (e5 (t:=t1) hy) (aA hn (aA (e5 (t:=t2) ha) bT)))) (aA (aB (.bool b)) bT)):aW g _ _).done;exact⟨n,_,hn,_,_,_,b,rfl,rfl,Y,rfl⟩
@[go_sem]def Pw{s:Nat}(hs:s<32):jr 32 1 (.mp m 0) (.v (.int .i64 (s:Int)))=some (.mp m s):=by
 unfold jr;dsimp only;rw[if_pos ⟨aCs,aCs⟩];simp[kB]
section
variable{G:Cells}
def avd{x:U}(I:Gh x):cC G ay 88 [x] W2:=by
 have CA:=I.clean;obtain⟨N,ak,bv,f,e,b,xs,ys,rfl,hN,Y,V,h3,h4,h5,h6,h7,h8⟩:=I;refine cU (arP.go ?_);have hcl:(b8 [ak,bv,f,e,.v (.bool b)]).cells=[ak,bv,f,e,.v (.bool b)]:=rfl;refine cB (λe' g=>e'=[(1,.mp 0 0),(2,.mp 1 0)]/\g=[.cells [ak,bv,f,e,.v (.bool b)] false,.cells [.af,.af,.af] false]) ?_ ?_;exact dc @hcl tt;rintro e' g ⟨rfl,hg⟩;have gl:g.length=2:=by rw[hg];rfl
 refine cB (λe' g=>e'=[(1,.mp 0 0),(2,.mp 1 0),(4,.mp 2 0)]/\∃sets dA rows sv au aF,iV N [ak,bv,f,e,.v (.bool b)] sets dA rows sv au aF g/\sets.length=1/\dA.length=1/\rows.length=0) ?_ ?_;have fk:=qW (n:=3) (g:=g++[.cells [.af,.af,.af] false]) (k:=g.length) (Z:=[.sl [.af] .exact,.af,.sl [.v (.bool b)] .exact]) (cs0:=[.af,.af,.af]) aCt rfl rfl rfl;have e1:(g++[aj [.af,.af,.af] false]).set g.length (.cells [.sl [.af] .exact,.af,.sl [.v (.bool b)] .exact] false)=g++[.cells [.sl [.af] .exact,.af,.sl [.v (.bool b)] .exact] false]:=aCt
 rw[e1,gl] at fk;refine eV (DZ (w:=.af) rfl) @gl @fk ?_;refine⟨trivial,[.af],[.v (.bool b)],[],_,_,_,⟨?_,?_,?_,ax rfl,ax rfl,ax ⟨rfl,rfl⟩,?_,?_,aCt⟩,rfl,rfl,rfl⟩;rw[hg];rfl;rw[hg];rfl;rw[hg];rfl;intro c T;rw[cw.1 T];exact⟨[],ax ⟨rfl,rfl⟩,aCt,aCt⟩;intro c T;rw[cw.1 T];exact⟨b,rfl⟩;rintro e' g1 ⟨rfl,sets,dA,rows,sv,au,aF,aT,hs1,aBl,At⟩;refine fR (λe' g=>e'=[(2,.mp 1 0),(4,.mp 2 0)]/\∃sets dA rows sv au aF,iV N [ak,bv,f,e,.v (.bool b)] sets dA rows sv au aF g) ?_ ?_;refine wy ?_;refine nh (n:=300) (λk e' g=>∃(i:Nat) (sets dA rows:List U) (sv au aF:U),k=300-i/\e'=[(1,.mp 0 0),(2,.mp 1 0),(4,.mp 2 0),(5,ag i)]/\iV N [ak,bv,f,e,.v (.bool b)] sets dA rows sv au aF g/\i<=sets.length/\1<=sets.length/\sets.length<=200/\dA.length=sets.length/\rows.length=i) ⟨0,sets,dA,rows,sv,au,aF,rfl,rfl,aT,aCs,aCs,aCs,aCs,aCs⟩ ?_;rintro k e' g ⟨i,sets,dA,rows,sv,au,aF,rfl,rfl,z,hi1,hi2,aph,hal,hrl⟩;obtain⟨t0,tL⟩:=z.s.sl;have iy:bL sv=λg=>some (.v (.int .i64 (sets.length:Int)),g):=by funext g;rw[tL,m_,kT]
 have IG:∀g,bL sv g=some (.v (.int .i64 (sets.length:Int)),g):=λg=>by rw[iy]
 obtain⟨l0,l1,l2,l3⟩:=CT z.t
 rcases cH i sets.length with hlt|hge
 have d1:decide ((i:Int)<(sets.length:Int))=true:=aCv
 refine fR (λe' g'=>e'=[(1,.mp 0 0),(2,.mp 1 0),(4,.mp 2 0),(5,ag i)]/\g'=g) ?_ ?_;exact kY @ag.eq_1 @l0 @IG @d1 tt;rintro e' g' ⟨rfl,rfl⟩;refine fR (λe' g=>e'=[(1,.mp 0 0),(2,.mp 1 0),(4,.mp 2 0),(5,ag i)]/\∃(sets dA rows:List U) (sv au aF:U),iV N [ak,bv,f,e,.v (.bool b)] sets dA rows sv au aF g/\i+1<=sets.length/\sets.length<=200/\dA.length=sets.length/\rows.length=i+1) ?_ ?_;rw[y7];have z0:(dJ 32 (ag 0)).all bl=true:=rfl;have ja:3<=g'.length:=by have:=(bF.1 z.t).1;omega
 refine fR (λe' g=>e'=[(1,.mp 0 0),(2,.mp 1 0),(4,.mp 2 0),(5,ag i),(6,.mp g'.length 0)]/\g=g'++[.cells (dJ 32 (ag 0)) false]) ?_ ?_;have fk:=qW (n:=32) (g:=g'++[.cells (dJ 32 (ag 0)) false]) (k:=g'.length) (Z:=dJ 32 (ag 0)) (cs0:=dJ 32 (ag 0)) aCt rfl rfl z0;have e1:(g'++[aj (dJ 32 (ag 0)) false]).set g'.length (.cells (dJ 32 (ag 0)) false)=g'++[.cells (dJ 32 (ag 0)) false]:=aCt
 have f1:cq (dJ 32 (ag 0)) []=some (dJ 32 (ag 0)):=rfl;rw[e1] at fk;simp only[dJ,ag] at fk f1;exact wx rH;rintro e' g2 ⟨rfl,gd⟩;have z2:iV N [ak,bv,f,e,.v (.bool b)] sets dA rows sv au aF g2:=by rw[gd];exact z.app
 have r2:g2[g'.length]?=some (.cells ((dJ 32 (0:Int)).map ag) false):=by rw[gd];simp
 generalize g'.length=m6 at r2 ja⊢;refine fR (λe' g=>∃m7 outs,e'=[(1,.mp 0 0),(2,.mp 1 0),(4,.mp 2 0),(5,ag i),(6,.mp m6 0),(7,.mp m7 0)]/\iV N [ak,bv,f,e,.v (.bool b)] sets dA rows sv au aF g/\g[m6]?=some (.cells ((dJ 32 (0:Int)).map ag) false)/\g[m7]?=some (.cells outs false)/\outs.length=32/\(∀c∈outs,uL N c)/\3<=m7/\m7≠m6) ?_ ?_;have la:=(g_ z2.n).2.2.2.2.2;have zt:=z2.t;rw[tL] at zt;refine fm @ag.eq_1 @la (a_ (ak5 zt z2.sk aCs hlt hN Y V h3 h4 h5 h6 h7) ?_);rintro _ g3 ⟨hE,Z,rfl,Ez,aaQ⟩;have apX:Z.all bl=true:=c7.2 λc T=>(aaQ c T).one;have z3:iV N [ak,bv,f,e,.v (.bool b)] sets dA rows sv au aF g3:=z2.ext λj b q _=>hE j b q;have tI:=(bF.1 (hE _ _ r2)).1;have fk:=qW (n:=32) (g:=g3++[.cells (dJ 32 .af) false]) (k:=g3.length) (Z:=Z) (cs0:=dJ 32 .af) aCt rfl Ez apX;have e1:(g3++[aj (dJ 32 .af) false]).set g3.length (.cells Z false)=g3++[.cells Z false]:=aCt
 rw[e1] at fk;simp only[dJ] at fk;refine dc @fk ?_;exact⟨_,Z,rfl,z3.app,aJ (hE _ _ r2),aCt,Ez,aaQ,aCs,aCs⟩;rintro e' g3 ⟨m7,outs,rfl,z3,hD,iA,ol,os,R9,aBB⟩;refine fR (λe' g=>e'=[(1,.mp 0 0),(2,.mp 1 0),(4,.mp 2 0),(5,ag i),(6,.mp m6 0)]/\∃(sets dA:List U) (sv aF:U) (l:List Int),iV N [ak,bv,f,e,.v (.bool b)] sets dA rows sv au aF g/\g[m6]?=some (.cells (l.map ag) false)/\l.length=32/\i<sets.length/\sets.length<=232/\dA.length=sets.length) ?_ ?_;refine wy ?_;refine b9 (λs e' g=>e'=[(1,.mp 0 0),(2,.mp 1 0),(4,.mp 2 0),(5,ag i),(6,.mp m6 0),(7,.mp m7 0),(8,ag s)]/\∃(sets dA:List U) (sv aF:U) (l:List Int),iV N [ak,bv,f,e,.v (.bool b)] sets dA rows sv au aF g/\g[m6]?=some (.cells (l.map ag) false)/\l.length=32/\g[m7]?=some (.cells outs false)/\i<sets.length/\sets.length<=200+s/\dA.length=sets.length) 32 ⟨rfl,sets,dA,sv,aF,_,z3,hD,aCt,iA,hlt,aCs,hal⟩ ?_ ?_;rintro s e' g hs ⟨rfl,sets,dA,sv,aF,l,z,r,xg,o,hl1,gX,hal⟩;obtain⟨t0,tL⟩:=z.s.sl;have IG:∀g,bL sv g=some (.v (.int .i64 (sets.length:Int)),g):=λg=>by rw[tL,m_,kT]
 obtain⟨c,T⟩:∃c,outs[s]?=some c:=⟨outs[s]' aCs,br _⟩;have hcs:=os c (bA T);have lc:aq g false 1 (.mp m7 s)=some c:=by
  simp only[aq,o,dI];rw[if_neg aCt];exact T
 have aj_:=Pw (m:=m7) hs;have aj9:=Pw (m:=m6) hs;have d2:decide ((s:Int)<32)=true:=aCv
 refine fR (λe' h=>e'=[(1,.mp 0 0),(2,.mp 1 0),(4,.mp 2 0),(5,ag i),(6,.mp m6 0),(7,.mp m7 0),(8,ag s)]/\h=g) ?_ ?_;exact fm @ag.eq_1 @d2 tt;rintro e' g' ⟨rfl,rfl⟩;refine fR (λe' g=>e'=[(1,.mp 0 0),(2,.mp 1 0),(4,.mp 2 0),(5,ag i),(6,.mp m6 0),(7,.mp m7 0),(8,ag s)]/\∃(sets dA:List U) (sv aF:U) (l:List Int),iV N [ak,bv,f,e,.v (.bool b)] sets dA rows sv au aF g/\g[m6]?=some (.cells (l.map ag) false)/\l.length=32/\g[m7]?=some (.cells outs false)/\i<sets.length/\sets.length<=200+(s+1)/\dA.length=sets.length) ?_ ?_;rw[y7];refine fR (λe' h=>e'=[(1,.mp 0 0),(2,.mp 1 0),(4,.mp 2 0),(5,ag i),(6,.mp m6 0),(7,.mp m7 0),(8,ag s),(9,c)]/\h=g') ?_ ?_;exact eV @ag.eq_1 @aj_ @lc tt;rintro e' qZ ⟨rfl,rfl⟩;refine fR (λe' h=>e'=[(1,.mp 0 0),(2,.mp 1 0),(4,.mp 2 0),(5,ag i),(6,.mp m6 0),(7,.mp m7 0),(8,ag s),(9,c),(10,.v (.int .i64 (-1)))]/\h=qZ) ?_ ?_;exact wx tt;rintro e' g' ⟨rfl,rfl⟩;refine fR (λe' g=>∃to:Int,e'=[(1,.mp 0 0),(2,.mp 1 0),(4,.mp 2 0),(5,ag i),(6,.mp m6 0),(7,.mp m7 0),(8,ag s),(10,ag to)]/\∃(sets dA:List U) (sv aF:U),iV N [ak,bv,f,e,.v (.bool b)] sets dA rows sv au aF g/\g[m6]?=some (.cells (l.map ag) false)/\g[m7]?=some (.cells outs false)/\i<sets.length/\sets.length<=200+(s+1)/\dA.length=sets.length) ?_ ?_;obtain⟨bx,c1,c2,c3⟩:=hcs
 rcases zn bx.length with hz|hz
 have d3:decide ((bx.length:Int)>0)=false:=decide_eq_false aCs;have amg:decide ((0:Int)<(bx.length:Int))=false:=decide_eq_false aCs;refine eV @c1.len @d3 @amg ?_;exact⟨-1,rfl,sets,dA,sv,aF,z,r,o,hl1,aCs,hal⟩;have d3:decide ((bx.length:Int)>0)=true:=decide_eq_true aCs;have zt:=z.t;rw[tL] at zt;refine wx (a_ (amX zt z.sk aCs aCs (os c (bA T))) ?_);rintro _ g3 ⟨rfl,n,rfl,mW,hn2⟩;refine wy (bI (λq=>?_) λq=>?_);obtain⟨l0,l1,l2,l3⟩:=CT z.t;obtain⟨iO,g4,g5,e1,e2,z5,mA⟩:=z.push (os c (bA T)) aCs;refine uo @q @l0 @IG (DZ (os c (bA T)).one) @e1 @e2 ?_;obtain⟨m0,m1,m2,m3⟩:=CT z5.t;obtain⟨n0,n1,n2,mB,fX,_⟩:=g_ z5.n;obtain⟨c',ci,Z⟩:=c1.imp;obtain⟨el,bW,cO⟩:=h8;have hel:=cO.len;refine mF @kB @m2 @mB @nH.eq_1 @oM.eq_1 @true_and @and_true (gO (azm Z bW (BX Z) (BX bW) aCs aCs 1) (bn ci (bn (BX bW) (bn (cm _) cx))) ?_);rintro r1 ⟨rl,q1,ah,aP⟩;obtain⟨GD,g6,g7,a1,a2,za,pO⟩:=z5.awf (decide ((rl.length:Int)>0)) aCs;have aj8:cM g5 1 1 4 aF (.sl [.v (.bool (decide ((0:Int)<(rl.length:Int))))] .exact)=some (GD,g6):=a1;refine mF @m2 @mB ((vA q1).len) @a1 @aj8 @a2 @qB ?_;exact⟨_,rfl,_,_,_,_,za,pO.2 _ _ aCs (mA.2 _ _ aCs r),pO.2 _ _ aCs (mA.2 _ _ aCs o),aCv,aCv,by simp[hal]⟩;refine dc @q ?_;exact⟨n,rfl,sets,dA,sv,aF,z,r,o,hl1,aCs,hal⟩;rintro e' g3 ⟨to,rfl,sets,dA,sv,aF,z,r,o,hl1,gX,hal⟩;have apK:=(bF.1 r).1;have fk:aE g3 1 (.mp m6 s) (.v (.int .i64 to))=some (g3.set m6 (.cells ((l.set s to).map ag) false)):=by
  have cO:(bO (.int .i64 to)).cells=[.v (.int .i64 to)]:=rfl;simp only[aE,r,dG,cO];rw[if_pos ⟨rfl,aCv,rfl⟩,Ja aCv,sP];rfl
 refine eV @ag.eq_1 @aj9 @fk ?_;exact⟨trivial,sets,dA,sv,aF,_,z.set aCs r,aO apK,by simpa using xg,by rw[av aCs];exact o,hl1,gX,hal⟩;rintro e' g4 ⟨rfl,q⟩;refine dc @ag.eq_1 ?_;exact⟨trivial,q⟩;rintro e' g ⟨rfl,sets,dA,sv,aF,l,z,r,xg,o,hl1,gX,hal⟩;have d2:decide (((32:Nat):Int)<32)=false:=aCu
 refine fm @ag.eq_1 @d2 ?_;exact⟨trivial,sets,dA,sv,aF,l,z,r,xg,hl1,gX,hal⟩;rintro e' g4 ⟨rfl,sets,dA,sv,aF,l,z,r,xg,hl1,gX,hal⟩;obtain⟨l0,l1,l2,l3⟩:=CT z.t;obtain⟨iL,g5,g6,e1,e2,sK,CF⟩:=z.AX xg aCs;have ab:dy 32 [b8 (l.map ag)]=some (.sl [.agg (l.map ag)] .exact):=by
  unfold dy;rw[if_pos ⟨Nj l xg,aCt⟩]
 obtain⟨t0,tL⟩:=sK.s.sl;have IG:∀g,bL sv g=some (.v (.int .i64 (sets.length:Int)),g):=λg=>by rw[tL,m_,kT]
 obtain⟨m0,m1,m2,m3⟩:=CT sK.t;refine fG (wF r (by simpa using xg)) (bI (λq=>?_) λq=>?_);have fk:=qW (n:=3) sK.r rfl (Z:=[.af,.af,.af]) rfl rfl;have hl1:=(bF.1 sK.r).1;have la:=wF (n:=3) (aO (a:=.cells [U.af,.af,.af] false) hl1) rfl;refine wx ?_;obtain⟨n,hn⟩:=(dQ (aA (iC (aA cX (aA cX (aA cX bT)))) (aA (aB (.bool false)) bT)):aW (g6.set 1 (.cells [U.af,.af,.af] false)) _ _).done;exact⟨n,_,hn,_,_,_,false,rfl,rfl,rfl,rfl⟩;have q':sets.length<=200:=aCB
 refine wx ?_;exact⟨trivial,sets,dA,_,sv,iL,aF,sK,hl1,q',hal,by simp[hrl]⟩;rintro e' g3 ⟨rfl,sets,dA,rows,sv,au,aF,z,hl1,gX,hal,hrl⟩;refine wy ?_;exact⟨300-(i+1),aCs,i+1,sets,dA,rows,sv,au,aF,rfl,rfl,z,hl1,aCs,gX,hal,hrl⟩;have d1:decide ((i:Int)<(sets.length:Int))=false:=aCv
 refine kY @ag.eq_1 @l0 @IG @d1 ?_;exact⟨trivial,sets,dA,rows,sv,au,aF,z⟩;rintro e' g2 ⟨rfl,sets,dA,rows,sv,au,aF,z⟩
 have no:bl au=true:=by rcases z.w with⟨q,_⟩|⟨_,q,_⟩<;>rw[q]<;>rfl
 have fk:=qW (n:=3) z.r rfl (Z:=[sv,au,aF]) rfl (by simp[z.s.one,z.a.one,no]);have hl1:=(bF.1 z.r).1;have la:=wF (n:=3) (aO (a:=.cells [sv,au,aF] false) hl1) rfl;obtain⟨l0,l1,l2,l3⟩:=CT z.t;exact wy (ayZ z true)
end
end
section
variable{n0:Nat}{v:U}{ps:List bK}
def agx(h:uF n0 v ps)(hn:n0<=100000000)(hne:ps≠[]):sz ps ((ps.length-1:Nat):Int)<=1000000000:=by
 have hl:=h.len;obtain⟨x,I⟩:=h.top.resolve_left hne;have D:=U8 hne I;have hs:=U6 h.ok.kids I;rw[D] at hs;simp only[ep,kn,vU,DG] at hs;omega
def WM(ps:List bK)(r:U):Prop:=∃(t:Bool) (n:Int),r=.aK [.v (.bool t),.v (.int .i64 n)]/\0<=n/\n<=20/\(n=0->ps≠[]->cnt ps ((ps.length-1:Nat):Int)<=256)
def Hg{J:List aa}{t:Bool}{n:Int}(h0:0<=n)(Y:n<=20)(h:n=0->ps≠[]->cnt ps ((ps.length-1:Nat):Int)<=256):∃k aM,b7 J k (.aK [.v (.bool t),.v (.int .i64 n)])=some aM/\WM ps aM:=by
 obtain⟨k,S⟩:=(dQ (aA (aB (.bool t)) (aA (aB (.int .i64 n)) bT)):aW J _ _).done;exact⟨k,_,S,t,n,rfl,h0,Y,h⟩
section
variable{G:Cells}{au mv a b c:U}{nodes marks:List (List U)}
def avq{lv:U}{rows:List (List U)}(hr:ov au mv nodes marks)(hS:dm (.agg [au,mv,a,b,c]))(h:uF n0 v ps)(hn:n0<=100000000)(hlv:bH lv (rows.map b8))(hlc:dm lv)(hlr:∀x∈rows,s4 x)(mU:rows.length<=1000000000):
  cC G ay 52 [.agg [au,mv,a,b,c],v,lv] (WM ps):=by
 refine cU (arq.go ?_);have hpl:=h.len;have ln:=h.v.bL;rw[bX] at ln;have jN:∀J,bL v J=some (.v (.int .i64 (ps.length:Int)),J):=λJ=>aDf
 have lm:=hlv.bL;rw[bX] at lm;have CO:∀J,bL lv J=some (.v (.int .i64 (rows.length:Int)),J):=λJ=>by rw[lm J,kT]
 have SW:aq [aj [au,mv,a,b,c] false] true 5 (.mp 0 0)=some (.agg [au,mv,a,b,c]):=rfl;have H:∃X:List aa,X=[aj [au,mv,a,b,c] false]:=⟨_,rfl⟩;refine cB (λe g=>e=[(1,v),(2,lv),(3,.mp 0 0)]/\g=[aj [au,mv,a,b,c] false]) ?_ ?_;exact wx tt;rintro e g ⟨rfl,rfl⟩;refine cB (λe g=>e=[(1,v),(2,lv),(3,.mp 0 0),(8,.v (.bool false))]/\g=[aj [au,mv,a,b,c] false]) ?_ ?_;exact wx tt;rintro e g ⟨rfl,rfl⟩;refine cB (λe g=>e=[(1,v),(2,lv),(3,.mp 0 0),(8,.v (.bool false)),(9,.v (.bool false))]/\g=[aj [au,mv,a,b,c] false]) ?_ ?_;exact wx tt;rintro e g ⟨rfl,rfl⟩;refine fR (λe g=>∃t b':Bool,e=[(1,v),(2,lv),(8,.v (.bool t)),(9,.v (.bool b'))]/\g=[aj [au,mv,a,b,c] false]) ?_ ?_;refine wy ?_;refine b9 (λi e h=>∃t b':Bool,e=[(1,v),(2,lv),(3,.mp 0 0),(8,.v (.bool t)),(9,.v (.bool b')),(10,ag i)]/\h=[aj [au,mv,a,b,c] false]) rows.length ⟨false,false,rfl,rfl⟩ ?_ ?_;rintro i e g Q ⟨t,b',rfl,rfl⟩;obtain⟨y,hy⟩:=cF Q;obtain⟨nm,iv,l,rfl,hiv,hic,aBA,hlb⟩:=hlr y (bA hy);have lp:bw 2 lv (.v (.int .i64 (i:Int)))=some (.fp [ai nm,iv] 0):=hlv.bC (x:=.agg [ai nm,iv]) aCZ rfl;have aqz:=vA hiv;refine lE ?_;refine b5 (λq=>?_) λq=>?_;exact Hg aCu aCu (λq=>absurd q aCu);refine b9 (λj e h=>∃t b':Bool,e=[(1,v),(2,lv),(3,.mp 0 0),(8,.v (.bool t)),(9,.v (.bool b')),(10,ag i),(11,ag j)]/\h=[aj [au,mv,a,b,c] false]) l.length ⟨t,b',rfl,rfl⟩ ?_ ?_;rintro j e g hj ⟨t,b',rfl,rfl⟩;obtain⟨x,I⟩:=cF hj;have ix:=aqz.bC I;cases t with
 |true=>
  cases b' with
  |true=>
   refine kY @ag.eq_1 @lp @ix @SW ?_;exact⟨_,_,rfl,trivial⟩
  |false=>
   refine lE ?_;refine dh (Su hr hS x) ?_;rintro r ⟨z,rfl⟩;refine wx ?_;exact⟨_,_,rfl,trivial⟩
 |false=>
  refine lE ?_;refine dh (Su hr hS x) ?_;rintro r ⟨z,rfl⟩;cases b' with
  |true=>
   refine wx ?_;exact⟨_,_,rfl,trivial⟩
  |false=>
   refine wy ?_;refine dh (Su hr hS x) ?_;rintro r ⟨z2,rfl⟩;refine wx ?_;exact⟨_,_,rfl,trivial⟩
 rintro e g ⟨t,b',rfl,rfl⟩;refine fm @ag.eq_1 @lp ?_;exact⟨_,_,rfl,trivial⟩;rintro e g ⟨t,b',rfl,rfl⟩;refine fm @ag.eq_1 @CO ?_;exact⟨t,b',rfl,trivial⟩;rintro e g ⟨t,b',rfl,rfl⟩;refine fR (λe g=>e=[(1,v),(2,lv),(8,.v (.bool t))]/\g=[aj [au,mv,a,b,c] false]) ?_ ?_;cases t with
 |false=>
  exact wx tt
 |true=>
  cases b' with
  |false=>
   exact wx tt
  |true=>
   refine wy ?_;exact Hg aCu aCu (λq=>absurd q aCu)
 rintro e g ⟨rfl,rfl⟩;refine fR (λe g=>(e=[(1,v),(2,lv),(8,.v (.bool t))]/\g=[aj [au,mv,a,b,c] false])/\(ps≠[]->cnt ps ((ps.length-1:Nat):Int)<=256)) ?_ ?_
 rcases zn ps.length with hz|hz
 have d:decide ((ps.length:Int)>0)=false:=decide_eq_false aCs;have d':decide ((0:Int)<(ps.length:Int))=false:=decide_eq_false aCs;refine eV @jN @d @d' ?_;exact⟨⟨trivial,trivial⟩,λhne=>absurd (lG hz) hne⟩;have d:decide ((ps.length:Int)>0)=true:=decide_eq_true aCs;have hne:ps≠[]:=by rintro rfl;simp at hz
 refine wy (fo (auy h _ (ps.length-1) (zo _) aCs (agx h hn hne)) (bn (yl h) (bn (cm _) cx)) ?_);refine wy ?_;refine b5 (λq=>?_) λq=>?_;exact Hg aCu aCu (λq=>absurd q aCu);refine⟨⟨trivial,trivial⟩,λ_=>?_⟩;simp at q;omega;rintro e g ⟨⟨rfl,rfl⟩,T⟩;have x0:∀a b,nV 0 (.aK [a,b])=some a:=λ_ _=>rfl;refine wy ?_;refine gO (avE h aCs hlv hlc hlr mU λhne=>⟨T hne,agx h hn hne⟩) (bn (yl h) (bn hlc cx)) ?_;intro r D;refine wy (gO (avd D) (bn D.clean cx) ?_);rintro r2 ⟨y1,eu,jT,t2,rfl,o1,o2,iA⟩;have st:=qW (n:=3) (g:=[aj [au,mv,a,b,c] false,aj [.af,.af,.af] false]) (k:=1) (Z:=[y1,eu,jT]) (cs0:=[.af,.af,.af]) rfl rfl rfl (by simp only[l5,oV,o1,o2,iA];rfl);refine wy ?_;cases t2 with
 |false=>
  refine wy ?_;exact Hg aCu aCu (λq=>absurd q aCu)
 |true=>
  refine wy ?_;exact Hg aCu aCu λ_=>T
end
end
section
variable{mv au v w x y:U}{g h J:List aa}{m n:Nat}{xs ys:List U}{e:TypeId}{marks nodes rows:List (List U)}
def we(x:U):Prop:=∃(n0:Nat) (ps:List bK),uF n0 x ps/\n0<=100000000/\(ps≠[]->cnt ps ((ps.length-1:Nat):Int)<=256)
def we.one(h:we x):bl x=true:=by
 obtain⟨n0,ps,h,_⟩:=h
 rcases h.v with rfl|⟨rfl,_⟩<;>rfl
def we.fz(h:we x)(J:List aa):aW J x x:=by
 obtain⟨n0,ps,h,_⟩:=h
 rcases h.v with rfl|⟨rfl,_⟩
 have fl:dK J (ps.map oU) (ps.map oU):=fY λp ap0=>by
  have:=Q7 J p;rw[show p.bx=p by
   have:=h.no p ap0;cases p;simp only[bK.bx] at*;simp[this]] at this
  exact this
 exact e5 fl;exact cX
def we.clean(h:we x):dm x:=by
 obtain⟨n0,ps,h,_⟩:=h;exact yl h
structure Kk(hk:U):Prop where
 ex:∃(au mv pv bB lv:U) (nodes marks:List (List U)) (parts texts:List U) (jm:List (List U)),hk=.agg [au,mv,pv,bB,lv]/\ov au mv nodes marks/\bH pv parts/\parts.length=nodes.length/\(∀x∈parts,we x)/\bH bB texts/\texts.length=nodes.length/\(∀x∈texts,∃b:Bool,x=.v (.bool b))/\bH lv (jm.map b8)/\(∀x∈jm,s4 x)/\jm.length<=10000000000
def Kt(r:U):Prop:=∃(a b c d e:U) (n:Int),r=.aK [.agg [a,b,c,d,e],.v (.int .i64 n)]/\[a,b,c,d,e].all bl=true/\(n=0->Kk (.agg [a,b,c,d,e]))/\(n≠0->[a,b,c,d,e]=[.af,.af,.af,.af,.af])
def ayp{n:Int}(hn:n≠0):∃k aM,b7 J k (.aK [.agg [.af,.af,.af,.af,.af],.v (.int .i64 n)])=some aM/\Kt aM:=by
 obtain⟨k,S⟩:=(dQ (aA (iC (aA cX (aA cX (aA cX (aA cX (aA cX bT)))))) (aA (aB (.int .i64 n)) bT)):aW J _ _).done;exact⟨k,_,S,_,_,_,_,_,n,rfl,rfl,λq=>absurd q hn,λ_=>rfl⟩
def XC(hA:bU h v xs n e)(S:∀(j:Nat) b,h[j]?=some b->(∀ys,v≠.sl ys (.tok j))->g[j]?=some b):∀(j:Nat) b,h[j]?=some b->(∀c,b≠.tok c n e)->g[j]?=some b:=λj b q O=>S j b q λys z=>by
 rcases hA with⟨q1,_⟩|⟨id,q1,ah⟩
 rw[q1] at z;cases z;rw[q1] at z;cases z;rw[ah] at q;cases q;exact O _ rfl
def XD{e2:TypeId}(hA:bU h w ys m e2)(kp:∀(j:Nat) b,h[j]?=some b->(∀c,b≠.tok c n e)->g[j]?=some b)(hne:(m,e2)≠(n,e)):bU g w ys m e2:=by
 rcases hA with q|⟨id,q1,ah⟩
 exact ax q;refine az ⟨id,q1,kp _ _ ah λc z=>?_⟩;cases z;exact hne rfl
def akJ{aZ:Nat}(hA:bU J v xs n e)(j4:bH y ys)(I:bS n xs=true)(hy:bS n ys=true)(hn:0<n)(O:0<aZ)(hfit:(xs.length+ys.length)*aZ<=140737488355328):
  ∃v' hp',cM J n aZ e v y=some (v',hp')/\bU hp' v' (xs++ys) n e/\∀(j:Nat) b,J[j]?=some b->(∀xs,v≠.sl xs (.tok j))->hp'[j]?=some b:=by
 by_cases h0:ys=[];subst h0;refine⟨v,J,?_,by rw[ff];exact hA,λj b q _=>q⟩
 have T:contents y=some []:=by rcases j4 with rfl|⟨rfl,_⟩<;>rfl
 rcases hA with⟨rfl,_⟩|⟨id,rfl,_⟩<;>simp[cM,fA,T]
 rcases j4 with rfl|⟨_,z⟩
 exact XF hA I hy h0 hn O hfit;exact absurd z h0
structure o8(au mv pv bB lv:U)(parts texts:List U)(jm:List (List U))(h:List aa):Prop where
 r:h[0]?=some (.cells [.af,.af,.af,.af,.af] false)
 d:h[1]?=some (.cells [au,mv] false)
 b:h[2]?=some (.cells [au,mv,pv,bB,lv] false)
 p:bU h pv parts 1 124
 t:bU h bB texts 1 4
 l:bU h lv (jm.map b8) 2 186
 pk:∀x∈parts,we x
 tk:∀x∈texts,∃b:Bool,x=.v (.bool b)
 lk:∀x∈jm,s4 x
section
variable{au mv pv bB lv:U}{parts texts:List U}{jm:List (List U)}{h:List aa}
def KH(hA:bU h v xs n e):bl v=true:=by
 rcases hA with⟨rfl,_⟩|⟨_,rfl,_⟩<;>rfl
def UH{Z cs':List U}(hA:bU g w ys m e)(O:g[2]?=some (.cells Z false)):bU (g.set 2 (.cells cs' false)) w ys m e:=by
 rcases hA with q|⟨id,q1,ah⟩
 exact ax q;exact az ⟨id,q1,by rw[av (by rintro rfl;rw[O] at ah;cases ah)];exact ah⟩
def o8.awj(s:o8 au mv pv bB lv parts texts jm h)(I:we x)(hl:parts.length<=1000):∃v' g g',cM h 1 24 124 pv (.sl [x] .exact)=some (v',g)/\aE g 1 (.mp 2 2) v'=some g'/\o8 au mv v' bB lv (parts++[x]) texts jm g':=by
 obtain⟨v',g,e1,e2,_,hA,O,q⟩:=Hi (x:=x) (aZ:=24) (o:=2) s.p s.b aCt (xC λx I=>(s.pk x I).one) (xC λy hy=>by rw[cw.1 hy];exact I.one) aCu aCu aCs;exact⟨v',g,_,e1,e2,q.cells s.r aCu,q.cells s.d aCu,O,hA,q.zJ s.b s.t aCu,q.zJ s.b s.l aCu,λy hy=>(dN.1 hy).elim (s.pk y) λq=>aFn,s.tk,s.lk⟩
def o8.awk(s:o8 au mv pv bB lv parts texts jm h)(b:Bool)(hl:texts.length<=1000):∃v' g g',cM h 1 1 4 bB (.sl [.v (.bool b)] .exact)=some (v',g)/\aE g 1 (.mp 2 3) v'=some g'/\o8 au mv pv v' lv parts (texts++[.v (.bool b)]) jm g':=by
 obtain⟨v',g,e1,e2,_,hA,O,q⟩:=Hi (x:=.v (.bool b)) (aZ:=1) (o:=3) s.t s.b aCt (xC λx I=>by obtain⟨b,rfl⟩:=s.tk x I;rfl) rfl aCu aCu aCs;exact⟨v',g,_,e1,e2,q.cells s.r aCu,q.cells s.d aCu,O,q.zJ s.b s.p aCu,hA,q.zJ s.b s.l aCu,s.pk,λy hy=>(dN.1 hy).elim (s.tk y) λq=>⟨b,cw.1 q⟩,s.lk⟩
@[go_sem]def TL(h:∀x∈rows,s4 x):bS 2 (rows.map b8)=true:=by
 rw[bS,c7];intro y hy;obtain⟨x,I,rfl⟩:=cI.1 hy;obtain⟨nm,iv,l,rfl,hiv,_⟩:=h x I;have:bl iv=true:=(vA hiv).one;simp only[gN,di,fI,l5,oV,this];rfl
def o8.I9(s:o8 au mv pv bB lv parts texts jm h)(j4:bH y (rows.map b8))(D:∀x∈rows,s4 x)(hl:jm.length+rows.length<=100000000000):∃v' g g',cM h 2 40 186 lv y=some (v',g)/\aE g 1 (.mp 2 4) v'=some g'/\o8 au mv pv bB v' parts texts (jm++rows) g':=by
 obtain⟨v',g,e1,hA,S⟩:=akJ (aZ:=40) s.l j4 (TL s.lk) (TL D) aCu aCu (by simp only[bX];omega);rw[<-eD] at hA;have kp:=XC s.l S;have b1:=kp _ _ s.b aCt;have st:=(oa b1 (KH hA)).2.2.2.2;refine⟨v',g,_,e1,st,?_,?_,aO (gl b1),UH (XD s.p kp aCu) b1,UH (XD s.t kp aCu) b1,UH hA b1,s.pk,s.tk,λx I=>?_⟩;rw[av aCu];exact kp _ _ s.r aCt;rw[av aCu];exact kp _ _ s.d aCt
 rcases dN.1 I with q|q
 exact s.lk x q;exact D x q
def o8.imp(s:o8 au mv pv bB lv parts texts jm h)(hd:dm au)(he:dm mv):∃a b c,lK (.agg [au,mv,pv,bB,lv]) (.agg [au,mv,a,b,c])/\dm (.agg [au,mv,a,b,c]):=by
 have one:∀{v:U} {xs:List U} {n:Nat} {e:TypeId},bU h v xs n e->(∀x∈xs,∀c∈x.cells,dm c)->∃v',lK v v'/\dm v':=λ{v xs n e} hA T=>by
  rcases hA with⟨rfl,_⟩|⟨id,rfl,_⟩
  exact⟨.af,mh,mh⟩;exact⟨.sl xs .no,j0 T,j0 T⟩
 obtain⟨a,a1,a2⟩:=one s.p λx I c T=>by
  rw[nY (s.pk x I).one] at T;rw[cw.1 T];exact(s.pk x I).clean
 obtain⟨b,b1,b2⟩:=one s.t λx I c T=>by
  obtain⟨t,rfl⟩:=s.tk x I;rw[cw.1 (show c∈[bO (.bool t)] from T)];exact cm _
 obtain⟨c,c1,c2⟩:=one s.l λx I c T=>by
  obtain⟨y,hy,rfl⟩:=cI.1 I;obtain⟨nm,iv,l,rfl,hiv,hic,_⟩:=s.lk y hy;have gx:c∈[ai nm,iv]:=T;simp only[dW,nN,or_false] at gx
  rcases gx with rfl|rfl
  exact cm _;exact hic
 refine⟨a,b,c,abP rfl λi x y I hy=>?_,Ec λx I=>?_⟩
 match i with
 |0=>cases I;cases hy;exact hd
 |1=>cases I;cases hy;exact he
 |2=>cases I;cases hy;exact a1
 |3=>cases I;cases hy;exact b1
 |4=>cases I;cases hy;exact c1
 |i+5=>simp at I
 simp only[dW,nN,or_false] at I
 rcases I with rfl|rfl|rfl|rfl|rfl
 exact hd;exact he;exact a2;exact b2;exact c2
def o8.fin(s:o8 au mv pv bB lv parts texts jm h)(hr:ov au mv nodes marks)(Y:parts.length=nodes.length)(V:texts.length=nodes.length)(h3:jm.length<=10000000000)(g:List aa)(hn:aW g au au)(hm:aW g mv mv):∃k aM,b7 g k (.aK [.agg [au,mv,pv,bB,lv],.v (.int .i64 0)])=some aM/\Kt aM:=by
 have one:∀{v:U} {xs:List U} {n:Nat} {e:TypeId},bU h v xs n e->dK g xs xs->∃v',aW g v v'/\bH v' xs:=λ{v xs n e} hA T=>by
  rcases hA with⟨rfl,q⟩|⟨id,rfl,_⟩
  exact⟨.af,cX,az ⟨rfl,q⟩⟩;exact⟨.sl xs .no,e5 T,ax rfl⟩
 obtain⟨a,a1,a2⟩:=one s.p (dK.each λx I=>(s.pk x I).fz g);obtain⟨b,b1,b2⟩:=one s.t (dK.each λx I=>by obtain⟨t,rfl⟩:=s.tk x I;exact aB _);obtain⟨c,c1,c2⟩:=one s.l (fY λx I=>by
  obtain⟨nm,iv,l,rfl,hiv,_⟩:=s.lk x I;refine iC (aA (aB _) (aA ?_ bT))
  rcases hiv with rfl|⟨rfl,_⟩
  exact e5 (fY λa _=>aB _);exact cX)
 obtain⟨k,S⟩:=(dQ (aA (iC (aA hn (aA hm (aA a1 (aA b1 (aA c1 bT)))))) (aA (aB (.int .i64 0)) bT)):aW g _ _).done
 have o:∀{v:U} {xs:List U},bH v xs->bl v=true:=λ{v xs} q=>aC_
 exact⟨k,_,S,au,mv,a,b,c,0,rfl,by simp only[l5,oV,o hr.n,o hr.m,o a2,o b2,o c2];rfl,λ_=>⟨au,mv,a,b,c,nodes,marks,parts,texts,jm,rfl,hr,a2,Y,s.pk,b2,V,s.tk,c2,s.lk,h3⟩,λq=>absurd rfl q⟩
end
def alJ{x:List U}(h:rT x):∀c∈x,dm c:=by
 obtain⟨nm,bp,i,p,aY,a,al,mv,ex,rfl,hg,hm,_⟩:=h;intro c T;obtain⟨l,g1,_⟩:=hg;obtain⟨l2,m1,_⟩:=hm;simp only[cY,dW,nN,or_false] at T
 rcases T with rfl|rfl|rfl|rfl|rfl|rfl|rfl|rfl|rfl
 exact cm _;exact nZ g1;exact cm _;exact cm _;exact cm _;exact cm _;exact cm _;exact nZ m1;exact cm _
def alH{x:List U}(h:lM x):∀c∈x,dm c:=by
 obtain⟨nm,v,al,bv,rfl,l,g1,_⟩:=h;intro c T;simp only[c_,dW,nN,or_false] at T
 rcases T with rfl|rfl|rfl|rfl
 exact cm _;exact cm _;exact cm _;exact nZ g1
def ov.alD(hr:ov au mv nodes marks):dm au/\dm mv:=by
 refine⟨zW hr.n λx I c T=>?_,zW hr.m λx I c T=>?_⟩;obtain⟨y,hy,rfl⟩:=cI.1 I;exact alJ (hr.kF y hy) c T;obtain⟨y,hy,rfl⟩:=cI.1 I;exact alH (hr.fj y hy) c T
def ov.Z9(hr:ov au mv nodes marks)(g:List aa):aW g au au/\aW g mv mv:=by
 constructor
 rcases hr.n with h|⟨h,_⟩
 rw[h];exact e5 (fY λx I=>(hr.kF x I).fz g);rw[h];exact cX
 rcases hr.m with h|⟨h,_⟩
 rw[h];exact e5 (fY λx I=>(hr.fj x I).Z_ g);rw[h];exact cX
section
variable{G:Cells}
def ave(s:List UInt8)(hs:s.length<=1000000):cC G ay 36 [ai s] Kt:=by
 refine cU (asQ.go ?_);have bad:∀{g:List aa} {n:Int},g[0]?=some (.cells [.af,.af,.af,.af,.af] false)->n≠0->aE g 5 (.mp 0 0) (.agg [.af,.af,.af,.af,.af])=some (g.set 0 (.cells [.af,.af,.af,.af,.af] false))/\aq (g.set 0 (.cells [.af,.af,.af,.af,.af] false)) true 5 (.mp 0 0)=some (.agg [.af,.af,.af,.af,.af])/\∃k aM,b7 (g.set 0 (.cells [.af,.af,.af,.af,.af] false)) k (.aK [.agg [.af,.af,.af,.af,.af],.v (.int .i64 n)])=some aM/\Kt aM:=λ{g n} h hn=>
  ⟨IN h rfl,(g_ (aO (gl h))).2.2.2.2.2,ayp hn⟩
 refine cB (λe g=>e=[(0,ai s),(2,.mp 0 0)]/\g=[.cells [.af,.af,.af,.af,.af] false]) ?_ ?_;exact wx tt;rintro e g ⟨rfl,hg⟩;refine cB (λe g=>∃au mv nodes marks,∃wO:Int,e=[(2,.mp 0 0),(4,.mp 1 0),(6,.v (.int .i64 wO))]/\g=[.cells [.af,.af,.af,.af,.af] false,.cells [au,mv] false]/\ov au mv nodes marks) ?_ ?_;refine wy ?_;refine dh (av1 s hs) ?_;rintro _ ⟨au,mv,nodes,marks,NC,wO,rfl,hr⟩
 have o:∀{v:U} {xs:List U},bH v xs->bl v=true:=λ{v xs} q=>aC_
 have st:=FM (X:=[.cells [.af,.af,.af,.af,.af] false,.cells [.af,.af] false]) (k:=1) (a:=.af) (b:=.af) (c:=au) (d:=mv) rfl (o hr.n) (o hr.m);refine wy ?_;exact⟨au,mv,nodes,marks,wO,rfl,rfl,hr⟩;rintro e g1 ⟨au,mv,nodes,marks,wO,rfl,rfl,hr⟩;have u9:=hr.nl;obtain⟨YZ,Y0⟩:=hr.alD;refine fR (λe g=>e=[(2,.mp 0 0),(4,.mp 1 0)]/\g=[.cells [.af,.af,.af,.af,.af] false,.cells [au,mv] false]) ?_ ?_;refine wy (bI (λq=>?_) λq=>?_);have q':wO≠0:=aCy
 obtain⟨b1,b2,b3⟩:=bad (g:=[.cells [.af,.af,.af,.af,.af] false,.cells [au,mv] false]) (n:=wO) rfl q';exact wy b3;exact wx tt;rintro e g2 ⟨rfl,rfl⟩;refine cB (λe g=>e=[(2,.mp 0 0),(4,.mp 1 0),(7,.mp 2 0)]/\o8 au mv .af .af .af [] [] [] g) ?_ ?_
 have o:∀{v:U} {xs:List U},bH v xs->bl v=true:=λ{v xs} q=>aC_
 have f1:cq [.af,.af,.af,.af,.af] [(0,2,.agg [au,mv])]=some [au,mv,.af,.af,.af]:=rfl;have st:=IN (h:=[.cells [.af,.af,.af,.af,.af] false,.cells [au,mv] false,.cells [.af,.af,.af,.af,.af] false]) (k:=2) (a':=au) (b':=mv) (c':=.af) (d':=.af) (e':=.af) rfl (by simp only[l5,oV,o hr.n,o hr.m];rfl);refine wx ?_;exact⟨trivial,rfl,rfl,rfl,ax ⟨rfl,rfl⟩,ax ⟨rfl,rfl⟩,ax ⟨rfl,rfl⟩,aCt,aCt,aCt⟩;rintro e g3 ⟨rfl,cW⟩;obtain⟨a3,b3,c3,i3,aq_⟩:=cW.imp YZ Y0;refine cB (λe g=>∃n:Int,e=[(2,.mp 0 0),(4,.mp 1 0),(6,.v (.int .i64 n)),(7,.mp 2 0)]/\g=g3) ?_ ?_;refine fG ((g_ cW.b).2.2.2.2.2) ?_;refine dh (au5 hr aq_) ?_;rintro r ⟨n,rfl,_,_⟩;refine wx ?_;exact⟨n,rfl,trivial⟩;rintro e g4 ⟨n,rfl,rfl⟩;refine fR (λe g=>e=[(2,.mp 0 0),(4,.mp 1 0),(7,.mp 2 0)]/\g=g4) ?_ ?_;refine wy (bI (λq=>?_) λq=>?_);have q':n≠0:=aCy
 obtain⟨b1,b2,b3⟩:=bad cW.r q';exact eV @q @b1 @b2 b3;exact dc @q tt;rintro e g5 ⟨rfl,rfl⟩;have ln:=hr.n.bL;rw[bX] at ln;have jN:∀J,bL au J=some (.v (.int .i64 (nodes.length:Int)),J):=λJ=>aDf
 refine fR (λe g=>e=[(2,.mp 0 0),(7,.mp 2 0)]/\∃pv bB lv parts texts jm,o8 au mv pv bB lv parts texts jm g/\parts.length=nodes.length/\texts.length=nodes.length/\jm.length<=nodes.length*200000000) ?_ ?_;refine wy ?_;refine b9 (λi e g=>e=[(2,.mp 0 0),(4,.mp 1 0),(7,.mp 2 0),(8,ag i)]/\∃pv bB lv parts texts jm,o8 au mv pv bB lv parts texts jm g/\parts.length=i/\texts.length=i/\jm.length<=i*200000000) nodes.length ⟨rfl,_,_,_,_,_,_,cW,rfl,rfl,iE _⟩ ?_ ?_;rintro i e g Q ⟨rfl,pv,bB,lv,parts,texts,jm,s,Y,V,h3⟩;have eE:aq g false 1 (.mp 1 0)=some au:=by simp only[aq,s.d];rfl
 obtain⟨y,hy⟩:=cF Q;have j6:=hr.kF y (bA hy);have lp:bw 9 au (.v (.int .i64 (i:Int)))=some (.fp y 0):=hr.n.bC (x:=.agg y) aCZ aFj;obtain⟨nm,bp,ib,pb,aY,a2,al,jO,ex,rfl,_,_,hex⟩:=j6;have CK:∀h,aq h false 1 (.fp (cY nm bp ib pb aY a2 al jO ex) 8)=some (ai ex):=λh=>rfl;have w1:bP.wrap ((i:Int)+1)=((i+1:Nat):Int):=jd aCs;obtain⟨a4,b4,c4,i4,ab1⟩:=s.imp YZ Y0;have la:=(g_ s.b).2.2.2.2.2;refine wy ?_;refine dh (af_ ex aCs) ?_;rintro _ ⟨v,ps,NC,wO,rfl,hR⟩;have hpl:=hR.len;refine wy (gO (auP hr ab1 hR aCs) (bn i4 (bn (yl hR) cx)) ?_);rintro lw ⟨rows,At,hr2,abw⟩;have hlc:dm lw:=zW At λx I c T=>by
  obtain⟨y,hy,rfl⟩:=cI.1 I;obtain⟨nm,iv,l,rfl,hiv,hic,_⟩:=hr2 y hy;have gx:c∈[ai nm,iv]:=T;simp only[dW,nN,or_false] at gx
  rcases gx with rfl|rfl
  exact cm _;exact hic
 refine wy (gO (avq hr ab1 hR hex At hlc hr2 aCs) (bn i4 (bn (yl hR) (bn hlc cx))) ?_);rintro _ ⟨t,n,rfl,_,_,T⟩;refine oS (bI (λq=>?_) λq=>?_);have q':n≠0:=aCy
 obtain⟨b1,b2,b3⟩:=bad s.r q';exact eV @q @b1 @b2 b3;have q':n=0:=aCy
 have hP:we v:=⟨_,ps,hR,hex,T q'⟩;obtain⟨NB,k1,k2,e1,e2,s1⟩:=s.awj hP aCs;obtain⟨pX,dY,eC,bW,cO,s2⟩:=s1.awk t aCs;obtain⟨aB2,mA,CF,kS,uT,cW⟩:=s2.I9 At hr2 aCs;obtain⟨_,_,m2,_⟩:=g_ s.b;obtain⟨_,_,_,m3,_⟩:=g_ s1.b;obtain⟨_,_,_,_,m4,_⟩:=g_ s2.b;refine sJ (cu @q @m2 (DZ hP.one) @e1) @e2 @m3 @bW @cO @m4 @kS @uT @w1 ?_;exact⟨rfl,_,_,_,_,_,_,cW,aEd,by simp[V],aEg⟩;rintro e g ⟨rfl,pv,bB,lv,parts,texts,jm,s,Y,V,h3⟩;have eE:aq g false 1 (.mp 1 0)=some au:=by simp only[aq,s.d];rfl
 refine eV @ag.eq_1 @eE @jN ?_;exact⟨trivial,pv,bB,lv,parts,texts,jm,s,Y,V,h3⟩;rintro e g6 ⟨rfl,pv,bB,lv,parts,texts,jm,kf,Y,V,h3⟩
 have o:∀{v:U} {xs:List U},bH v xs->bl v=true:=λ{v xs} q=>aC_
 have st:=IN (a':=au) (b':=mv) (c':=pv) (d':=bB) (e':=lv) kf.r (by simp only[l5,oV,o hr.n,o hr.m,KH kf.p,KH kf.t,KH kf.l];rfl);have la:=(g_ (aO (a:=.cells [au,mv,pv,bB,lv] false) (gl kf.r))).2.2.2.2.2;refine ki ((g_ kf.b).2.2.2.2.2) @st ?_;obtain⟨aT,z2⟩:=hr.Z9 (g6.set 0 (.cells [au,mv,pv,bB,lv] false));exact kf.fin hr Y V aCs _ aT z2
end
end
section
variable{ms:List Int}
section
variable{G:Cells}{hk au mv:U}{rows marks:List (List U)}
def CS(marks:List (List U))(t:Int):Option (List U):=if 0<=t then marks[t.toNat]? else none
def M1(marks:List (List U))(t:Int):CS marks t=none\/∃(i:Nat) (x:List U),t=(i:Int)/\marks[i]?=some x/\CS marks t=some x:=by
 cases h:CS marks t with
 |none=>exact ax rfl
 |some x=>
  right;unfold CS at h;split at h;exact⟨t.toNat,x,aCs,h,rfl⟩;cases h
def MX(s:jX hk au mv rows marks){t:Int}(h:CS marks t=none):b_ G ay 217 [hk,.v (.int .i64 t)] (.v (.pointer none)):=by
 rw[s.eq];refine eg (SF.go ?_);have ln:=s.m.bL;rw[bX] at ln;refine wy ?_;refine bI (λq=>?_) λq=>?_;refine wy ?_;exact(aB _).done;refine wy ?_;refine bI (λah=>?_) λah=>?_;refine wy ?_;exact(aB _).done;exfalso;unfold CS at h;have q1:¬t<0:=aCy
 rw[if_pos aCs,ajo] at h;simp at ah;omega
def MY(s:jX hk au mv rows marks){i:Nat}{x:List U}(I:marks[i]?=some x):b_ G ay 217 [hk,.v (.int .i64 (i:Int))] (.fp x 0):=by
 rw[s.eq];refine eg (SF.go ?_);have Q:=(bF.1 I).1;have ln:=s.m.bL;rw[bX] at ln;have D:=s.fj x (bA I);have bC:bw 4 mv (.v (.int .i64 (i:Int)))=some (.fp x 0):=s.m.bC (x:=.agg x) aCG D.ok.1;have d1:decide ((i:Int)<0)=false:=decide_eq_false aCs;refine wy ?_;obtain⟨nm,n,al,bv,rfl,l,g1,g2⟩:=D;have O:aW [] bv bv:=by
  rcases g1 with rfl|⟨rfl,_⟩
  exact e5 (fY λa _=>aB _);exact cX
 exact(aW.fp (aA (aB _) (aA (aB _) (aA (aB _) (aA O bT))))).done
def auI(s:jX hk au mv rows marks):b_ G ay 201 [hk] (.v (.int .i64 (marks.length:Int))):=by
 rw[s.eq];refine eg (ac6.go ?_);have ln:=s.m.bL;rw[bX] at ln;refine wy ?_;exact(aB _).done
def Vs(marks:List (List U))(t:Int):Int:=((CS marks t).map (abZ 1)).getD 0
def auK(s:jX hk au mv rows marks)(t:Int):b_ G ay 202 [hk,.v (.int .i64 t)] (.v (.int .i64 (Vs marks t))):=by
 have T:=s.clean;refine eg (ac7.go ?_);refine wy ?_
 rcases M1 marks t with h|⟨i,x,rfl,I,D⟩
 refine fo (MX s h) (bn T (bn (cm _) cx)) ?_;unfold Vs;rw[h];refine wy ?_;exact(aB _).done;refine fo (MY s I) (bn T (bn (cm _) cx)) ?_;unfold Vs;rw[D];obtain⟨nm,n,al,bv,rfl,_⟩:=s.fj x (bA I);have l1:∀h,aq h false 1 (.fp (c_ nm n al bv) 1)=some (.v (.int .i64 n)):=λh=>rfl;refine wy ?_;exact(aB _).done
def akZ(s:jX hk au mv rows marks)(a b:Int):cC G ay 157 [hk,.v (.int .i64 a),.v (.int .i64 b)] hJ:=by
 have T:=s.clean;refine cU (acu.go ?_);refine wy ?_
 rcases M1 marks a with h|⟨i,x,rfl,I,D⟩
 refine fo (MX s h) (bn T (bn (cm _) cx)) ?_;refine wy ?_
 rcases M1 marks b with V|⟨i2,x2,rfl,hx2,hr2⟩
 refine fo (MX s V) (bn T (bn (cm _) cx)) ?_;refine wy ?_;exact gq _;refine fo (MY s hx2) (bn T (bn (cm _) cx)) ?_;refine wy ?_;exact gq _;refine fo (MY s I) (bn T (bn (cm _) cx)) ?_;obtain⟨nm,n,al,bv,rfl,l,g1,g2⟩:=s.fj x (bA I);have l2:∀h,aq h false 1 (.fp (c_ nm n al bv) 2)=some (.v (.bool al)):=λh=>rfl;have l3:∀h,aq h false 1 (.fp (c_ nm n al bv) 3)=some bv:=λh=>rfl;refine wy ?_
 rcases M1 marks b with V|⟨i2,x2,rfl,hx2,hr2⟩
 refine fo (MX s V) (bn T (bn (cm _) cx)) ?_;refine wy ?_;exact gq _;refine fo (MY s hx2) (bn T (bn (cm _) cx)) ?_;obtain⟨Ty,n2,fB,eS,rfl,_⟩:=s.fj x2 (bA hx2);have l0:∀h,aq h false 1 (.fp (c_ Ty n2 fB eS) 0)=some (ai Ty):=λh=>rfl;refine wy ?_;refine bI (λq=>?_) λq=>?_;refine wy ?_;exact gq _;cases al with
 |true=>
  refine wy ?_;exact gq _
 |false=>
  refine wy ?_;refine fo (GS g1 (nZ g1) aCs Ty) (bn (nZ g1) (bn (r4 _) cx)) ?_;refine wy ?_;exact gq _
def auM(s:jX hk au mv rows marks)(a b:Int):cC G ay 139 [hk,.v (.int .i64 a),.v (.int .i64 b)] hJ:=by
 have T:=s.clean;refine cU (acv.go ?_);refine wy ?_;refine bI (λq=>?_) λq=>?_;refine wy ?_;refine fo (auI s) (bn T cx) ?_;refine wy ?_;refine bI (λah=>?_) λah=>?_;refine wy ?_;refine bI (λaP=>?_) λaP=>?_;refine wy ?_;refine fo (auK s a) (bn T (bn (cm _) cx)) ?_;refine wy ?_;exact gq _;refine wy ?_;exact gq _;refine wy ?_;exact gq _;refine wy ?_;exact gq _
end
def WD(r:U):Prop:=∃(n:Int) (b:Bool),r=.aK [.v (.int .i64 n),.v (.bool b)]
def Ly{J:List aa}(n:Int)(b:Bool):∃k aM,b7 J k (.aK [.v (.int .i64 n),.v (.bool b)])=some aM/\WD aM:=by
 obtain⟨k,S⟩:=(dQ (aA (aB (.int .i64 n)) (aA (aB (.bool b)) bT)):aW J _ _).done;exact⟨k,_,S,n,b,rfl⟩
def K3(ms:List Int):dm (.agg (ms.map eN)):=Ec λc T=>by
 obtain⟨n,_,rfl⟩:=cI.1 T;exact cm _
section
variable{G:Cells}
def aoJ(hl:ms.length=8)(i:Int):cC G ay 216 [.agg (ms.map eN),.v (.int .i64 i)] WD:=by
 refine cU (ac0.go ?_);refine wy ?_;refine bI (λq=>?_) λq=>?_;refine wy ?_;exact Ly _ _;refine wy ?_;refine bI (λah=>?_) λah=>?_;refine wy ?_;exact Ly _ _;obtain⟨m,rfl⟩:∃m:Nat,i=(m:Int):=⟨i.toNat,aCB⟩;have hm:m<8:=aD6
 obtain⟨x,I⟩:∃x,ms[m]?=some x:=⟨ms[m]' aCs,br _⟩;have yd:jr 8 1 (.mp 0 0) (.v (.int .i64 (m:Int)))=some (.mp 0 m):=by
  unfold jr;dsimp only;rw[if_pos ⟨aCs,aCs⟩];simp[kB]
 have eE:aq [aj (ms.map eN) false] false 1 (.mp 0 m)=some (.v (.int .u16 x)):=by
  show dI false 1 (ms.map eN) m=_;unfold dI;rw[if_neg aCt,eo,I];rfl
 refine wy ?_;refine bI (λaP=>?_) λaP=>?_;refine wy ?_;exact Ly _ _;refine wy ?_;exact Ly _ _
def ajR(r:U):Prop:=∃l:List (Int×Int),bH r (l.map λx=>.agg [ag x.1,ag x.2])/\l.length<=8
def avM(l:List (Int×Int)):bS 2 (l.map λx=>b8 [ag x.1,ag x.2])=true:=by
 rw[bS,c7];intro x I;obtain⟨t,_,rfl⟩:=cI.1 I;rfl
def aeX(hl:ms.length=8):cC G ay 155 [.agg (ms.map eN)] ajR:=by
 refine cU (acp.go ?_);refine wy ?_;refine b9 (λi e g=>∃(l:List (Int×Int)) (ak:U),e=[(1,.mp 0 0),(3,ak),(7,ag i)]/\g[0]?=some (.cells (ms.map eN) false)/\bU g ak (l.map λx=>.agg [ag x.1,ag x.2]) 2 23/\l.length<=i) 8 ⟨[],.af,rfl,rfl,ax ⟨rfl,rfl⟩,bg _⟩ ?_ ?_;rintro i e g Q ⟨l,ak,rfl,h0,hA,mU⟩;have d1:decide ((i:Int)<8)=true:=decide_eq_true aCs;have w1:bP.wrap ((i:Int)+1)=((i+1:Nat):Int):=jd aCs;refine y_ (wF h0 (n:=8) aCO) ?_;refine gO (aoJ hl _) (bn (K3 ms) (bn (cm _) cx)) ?_;rintro r ⟨n,b,rfl⟩;cases b with
 |false=>
  refine fm @Lt @Lu ?_;exact⟨l,ak,rfl,h0,hA,aCs⟩
 |true=>
  obtain⟨bf,g2,e1,dS,_,_,S⟩:=kQ (x:=.agg [ag (i:Int),ag n]) (aZ:=16) hA (avM l) rfl aCu aCu aCv;have kp:=XC hA S;have f1:cq [.v (.int .i64 0),.v (.int .i64 0)] [(0,1,.v (.int .i64 (i:Int))),(1,1,.v (.int .i64 n))]=some [ag (i:Int),ag n]:=rfl;have ab:dy 2 [.agg [ag (i:Int),ag n]]=some (.sl [.agg [ag (i:Int),ag n]] .exact):=rfl;refine y8 @Lt @Lu @w1 @f1 @ab @e1 ?_;refine⟨l++[((i:Int),n)],bf,rfl,kp _ _ h0 aCt,?_,aCv⟩;rw[eD];exact dS
 rintro e g ⟨l,ak,rfl,h0,hA,mU⟩;have d1:decide (((8:Nat):Int)<8)=false:=aCu
 refine wy ?_
 rcases hA with⟨rfl,z⟩|⟨id,rfl,_⟩
 obtain⟨k,S⟩:=(cX:aW g _ _).done;exact⟨k,_,S,l,az ⟨rfl,z⟩,mU⟩;obtain⟨k,S⟩:=(e5 (t:=.tok id) (fY (f:=λx:Int×Int=>b8 [ag x.1,ag x.2]) (l:=l) λa _=>iC (aA (aB _) (aA (aB _) bT))):aW g _ _).done;exact⟨k,_,S,l,ax rfl,mU⟩
end
end
end Go.Proofs.YtepejmecchhifaaGreatDoor

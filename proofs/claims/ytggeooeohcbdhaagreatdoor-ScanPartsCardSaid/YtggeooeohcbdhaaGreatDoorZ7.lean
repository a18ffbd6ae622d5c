/- Part 7 of a proof. No condition. -/
import Derived.Test.YtggeooeohcbdhaaGreatDoorZ6
set_option linter.unusedVariables false
set_option linter.unusedSimpArgs false
set_option linter.defProp false
open BitVec renaming ofInt->zi
open Bool renaming and_eq_true->dY,false_and->zj,false_eq_true->iA
open Go.aJ.U renaming agg->bT,cells->gm,mp->bB,one->bn,v->bP
open Go.aJ.aa renaming cells->aj
open Go.aJ.qf renaming mk->bA
open Go.aJ.aE renaming mono->aZ,pure->dx,avB->gf
open Go.aJ.gP renaming mono->rT
open Go.aJ renaming Clean->dn
open Go.aJ.aX renaming agg->iO,af->cS,sl->fj,aK->dR,v->aB
open Go.aJ.dD renaming append->zk,cons->aA,map->gh,nil->bW
open Go.aJ.de renaming aG->l5,bare->F2
open Go.Fn renaming func->qM
open Go.IntKind renaming i64->b7,u64->DD
open Go.Lib renaming ctz->Bp
open Go.Proofs.Tryz renaming Yj->aiY,prog->az,ahU->ai4
open Go.Proofs.YtggeooeohcbdhaaGreatDoor.jB renaming set->DF
open Go.Proofs.YtggeooeohcbdhaaGreatDoor.bJ renaming aG->ox,cells->nR
open Go.Proofs.YtggeooeohcbdhaaGreatDoor.cg renaming aG->kF,cells->fH
open Go.Value renaming int->uF
open Int renaming eq_ofNat_of_zero_le->mJ,le_refl->nj,toNat_natCast->uG
open List renaming all_cons->lD,all_eq_true->c_,all_nil->oy,append_assoc->cq,append_nil->e4,cons_append->jW,drop_drop->vZ,drop_length_add_append->ajb,drop_of_length_le->sY,drop_zero->nk,ext_getElem?->Bu,foldl_append->V9,getElem?_append_left->ei,getElem?_append_right->er,getElem?_cons_succ->v8,getElem?_cons_zero->l6,getElem?_drop->qd,getElem?_eq_getElem->br,getElem?_eq_none->hG,getElem?_eq_some_iff->bE,getElem?_map->eC,getElem?_set_ne->av,getElem?_set_self->aR,getElem?_take_of_lt->zp,getElem_mem->Wb,length->zq,length_append->cB,length_cons->dm,length_drop->v_,length_eq_one_iff->Bv,length_map->b_,length_nil->fQ,length_singleton->nq,length_take->zu,map_append->eX,map_congr_left->zv,map_cons->eD,map_map->we,map_nil->kX,mem_append->dZ,mem_cons->ek,mem_map->cO,mem_of_getElem?->bG,mem_singleton->cr,nil_append->eR,not_mem_nil->oz,replicate->dL,replicate_succ->ajk,sum_append->ajo,sum_cons->wh,sum_nil->DL,takeWhile_cons->azS,take_add_one->Gc,take_append_drop->Wg,take_append_of_le_length->ajp,take_left'->OX,take_length->rV,take_length_add_append->azT,take_of_length_le->kG
open Nat renaming add_assoc->lF,add_sub_cancel_left->OY,eq_of_testBit_eq->ajq,le_refl->bl,le_trans->fk,lt_or_ge->cE,lt_succ_self->Bw,min_eq_left->Gd,mul_comm->Wi,one_mul->Bx,reduceAdd->rX,sub_self->kj,testBit_and->ajs,testBit_or->O0,testBit_two_pow->Wj,zero_add->e5,zero_le->ic,zero_lt_succ->x9
open Ne renaming symm->dr
open Option renaming bind_some->kn,isSome_none->ya,map->DN,map_some->ie
open Or renaming inl->ay,inr->ax
namespace Go.Proofs.YtggeooeohcbdhaaGreatDoor
open Go Go.aJ Go.RowKit
section
variable{G:Cells}{k a:Nat}{l:List cg}{v pv lv:U}{ps b6:List bJ}{w:Bool}{hp h:List aa}
def MN{a}{c}(q:(t_ l a==c)=true)(hc:c≠0):∃y,l[a]?=some y/\y.kind=c:=by
 unfold t_ at q;cases hy:l[a]? with
 |none=>rw[hy] at q;simp at q;omega
 |some y=>rw[hy] at q;exact⟨y,rfl,aBN⟩
def ahe{a}(hok:∀x∈l,x.cA)(q:(t_ l a==5)=true):∃y,l[a]?=some y/\y.kind=5/\0<=y.low/\y.low<=20/\(y.high= -1\/(1<=y.high/\y.high<=20/\y.low<=y.high)):=by
 obtain⟨y,hy,hk⟩:=MN q aBJ;refine⟨y,hy,hk,?_⟩
 rcases(hok y (bG hy)).2 with z|z|z
 omega;omega;exact⟨z.2.2.1,z.2.2.2.1,z.2.2.2.2⟩
def axr{a}(hok:∀x∈l,x.cA)(q:(t_ l a==1)=true):∃y,l[a]?=some y/\y.kind=1/\pV y.name=true:=by
 obtain⟨y,hy,hk⟩:=MN q aBJ;refine⟨y,hy,hk,?_⟩
 rcases(hok y (bG hy)).2 with z|z|z
 exact z.2.1;omega;omega
structure KF(k:Nat)(l:List cg)(a:Nat)(v:U)(ps:List bJ)(hp:List aa)(n:Int)(b:Nat)(pv:U)(b6:List bJ)(h:List aa):Prop where
 lt:a<b
 le:b<=l.length
 rx:fR k l b v pv (ps++b6) false h
 jf:jB k hp h
 cnt:b6.length+2<=3*(b-a)
 n0:0<=n
 n1:n<((ps++b6).length:Nat)
 ok:oB ps->oB (ps++b6)
def KF.done{n}{b}(h1:KF k l a v ps hp n b pv b6 h):zH k l a v ps hp n h:=
 ⟨n,b,pv,b6,false,rfl,Nat.le_of_lt h1.lt,h1.le,h1.rx,h1.jf,h1.cnt,λ_=>⟨h1.n0,h1.n1,h1.ok⟩⟩
def abQ(hl:l.length<=200)(hok:∀x∈l,x.cA)(ha:a<=l.length)(hI:a<l.length->Reads G 98 k l v (a+1)):Reads G 223 k l v a:=by
 intro ps pv hp hR hps;refine adI.go ?_;refine wy (aZ (CJ hR hl) ?_);rintro _ g ⟨rfl,hh⟩;rw[hh];clear hh;refine wy ?_;refine b8 (λq=>?_) λq=>?_;obtain⟨y,hy,Ss,j4⟩:=axr hok q;have hlt:=gl hy;have e1:bu 5 v (.v (.int .i64 (a)))=some (.fp y.cells 0):=hR.v.bK (x:=y.aG) aB9 rfl;have e2:∀hp,aq hp false 1 (.fp y.cells 4)=some (ai y.name):=λhp=>rfl;have f1:cm [.v (.int .i64 0),.v (.int .i64 0),.v (.int .i64 0),.v (.string ⟨#[]⟩),.af] [(0,1,.v (.int .i64 1)),(3,1,ai y.name)]=some (nR ⟨1,0,0,y.name,[],.exact⟩):=rfl;have xo:=MQ (G:=G) hR aBH ⟨1,0,0,y.name,[],.exact⟩;unfold ox at xo;refine wx (aZ xo ?_);rintro _ g1 ⟨rfl,⟨mC,L3⟩,n_⟩;have w1:b7.wrap ((a)+1)=((a+1:Nat):Int):=jA aBH;refine lC ?_;obtain⟨n,hn⟩:∃n:Int,n=(ps.length:Int):=⟨_,rfl⟩;obtain⟨b,hb⟩:∃b,b=a+1:=⟨_,rfl⟩;obtain⟨b6,apM⟩:∃b6:List bJ,b6=[⟨1,0,0,y.name,[],.exact⟩]:=⟨_,rfl⟩;have hT:KF k l a v ps hp n b mC b6 (g1.set k (.cells [v,.v (.int .i64 ((a+1:Nat):Int)),mC,.v (.bool false)] false)):=by
  subst hb;subst hn;subst apM;refine⟨aBH,aBH,L3.put (a+1) false,n_.trans DF,aBI,aBH,aBK,λz=>z.push ⟨ay ⟨rfl,rfl,rfl,j4,rfl⟩,aBI⟩⟩
 rw[<-hn];generalize g1.set k (.cells [v,.v (.int .i64 ((a+1:Nat):Int)),mC,.v (.bool false)] false)=h at hT⊢;refine kE @D9 @iE (aZ (CJ hT.rx hl) ?_);rintro _ rm ⟨rfl,hh⟩;rw[hh];clear hh;refine dP ?_;refine b8 (λpY=>?_) λpY=>?_;obtain⟨y,hy,Ss,CB⟩:=ahe hok pY;have hlt:=gl hy;have e1:bu 5 v (.v (.int .i64 (b)))=some (.fp y.cells 0):=hT.rx.v.bK (x:=y.aG) aB9 rfl;have e2:∀hp,aq hp true 5 (.fp y.cells 0)=some (.agg y.cells):=λhp=>rfl;have s1:=sQ h y;unfold fD at s1;have hX:fR k l b v mC (ps++b6) false (h++[.cells y.cells false]):=hT.rx.keep λj c z _=>aM z;have GO:jB k hp (h++[.cells y.cells false]):=hT.jf.trans jB.app;have cK:=gl hT.rx.b;have JZ:(h++[aj y.cells false])[h.length]?=some (.cells y.cells false):=aBI
 generalize h++[aj y.cells false]=g at s1 hX GO JZ;have iI:=hX.put (b+1) false;have GP:=GO.trans (DF (x:=.cells [v,ag ((b+1:Nat):Int),mC,.v (.bool false)] false));have Dw:(g.set k (.cells [v,ag ((b+1:Nat):Int),mC,.v (.bool false)] false))[h.length]?=some (.cells y.cells false):=by rw[av aBH];exact JZ
 have w1:b7.wrap ((b)+1)=((b+1:Nat):Int):=jA aBH;have s2:=hX.fP (b+1);generalize g.set k (.cells [v,ag ((b+1:Nat):Int),mC,.v (.bool false)] false)=g2 at s2 iI GP Dw;have l2:aq g2 false 1 (.mp h.length 2)=some (.v (.int .i64 y.low)):=aDu
 have l3:aq g2 false 1 (.mp h.length 3)=some (.v (.int .i64 y.high)):=aDu
 have f1:cm [.v (.int .i64 0),.v (.int .i64 0),.v (.int .i64 0),.v (.string ⟨#[]⟩),.af] [(0,1,.v (.int .i64 4)),(1,1,.v (.int .i64 y.low)),(2,1,.v (.int .i64 y.high)),(4,1,.sl [.v (.int .i64 n)] .exact)]=some (nR ⟨4,y.low,y.high,[],[n],.exact⟩):=rfl;have apJ:=hT.cnt;have hab:=hT.lt;have xo:=MQ (G:=G) iI aBK ⟨4,y.low,y.high,[],[n],.exact⟩;unfold ox at xo;refine p9 (dV @pY @hT.rx.AI @hT.rx.fy @e1) @e2 @s1 @hX.fy @w1 @s2 @l2 @l3 @f1 (aZ xo ?_);rintro _ g3 ⟨rfl,⟨bg,hZ⟩,PW⟩;refine di @ag.eq_1 ?_;rw[cq] at hZ;refine⟨((ps++b6).length:Nat),b+1,bg,b6++[⟨4,y.low,y.high,[],[n],.exact⟩],false,rfl,aBH,aBH,hZ,GP.trans PW,aBK,λ_=>⟨aBH,aBK,λz=>?_⟩⟩;rw[<-cq];refine(hT.ok z).push ⟨ax (ax ⟨rfl,rfl,rfl,CB⟩),λx hx=>?_⟩;rw[cr.1 hx];exact⟨hT.n0,hT.n1⟩;exact hT.done;refine b8 (λah=>?_) λah=>?_;obtain⟨y,hy,Ss⟩:=MN ah aBJ;have hlt:=gl hy;have w1:b7.wrap ((a)+1)=((a+1:Nat):Int):=jA aBH;have L3:=hR.put (a+1) false;have n_:jB k hp (hp.set k (.cells [v,ag ((a+1:Nat):Int),pv,.v (.bool false)] false)):=DF;have st:=hR.fP (a+1);generalize hp.set k (.cells [v,ag ((a+1:Nat):Int),pv,.v (.bool false)] false)=h1 at L3 n_ st;refine wx (aZ (hI hlt ps pv h1 L3 aBH) ?_);rintro _ h2 ⟨n,a2,mC,b6,w,rfl,c1,c2,c3,c4,c5,fM⟩;have bad:zH k l a v ps hp (.v (.int .i64 n)) (h2.set k (.cells [v,ag (a2),mC,.v (.bool true)] false)):=
  ⟨n,a2,mC,b6,true,rfl,aBH,c2,c3.put a2 true,(n_.trans c4).trans DF,by cases w<;>simp at c5⊢<;>omega,λq=>aBT⟩
 cases w with
 |true=>
  exact aiE @c3.AK @c3.A7 bad
 |false=>
  refine wx (aZ (CJ c3 hl) ?_);rintro _ g ⟨rfl,hh⟩;rw[hh];clear hh;refine wy (bA (λaN=>?_) λaN=>?_);exact xR @c3.A7 bad;have dI:(t_ l a2==3)=true:=aEm
  obtain⟨eg,EX,_⟩:=MN dI aBJ;have hlt2:=gl EX;refine wx ?_;obtain⟨b,hb⟩:∃b,b=a2+1:=⟨_,rfl⟩;obtain⟨gL,gq,c9⟩:=fM rfl;have hT:KF k l a v ps hp n b mC b6 (h2.set k (.cells [v,ag ((a2+1:Nat):Int),mC,.v (.bool false)] false)):=by
   subst hb;exact⟨aBH,aBH,c3.put (a2+1) false,(n_.trans c4).trans DF,by simp at c5;omega,gL,gq,c9⟩
  generalize h2.set k (.cells [v,ag ((a2+1:Nat):Int),mC,.v (.bool false)] false)=h at hT⊢;refine wx (aZ (CJ hT.rx hl) ?_);rintro _ rm ⟨rfl,hh⟩;rw[hh];clear hh;refine dP ?_;refine b8 (λpY=>?_) λpY=>?_;obtain⟨y,hy,Ss,CB⟩:=ahe hok pY;have hlt:=gl hy;have e1:bu 5 v (.v (.int .i64 (b)))=some (.fp y.cells 0):=hT.rx.v.bK (x:=y.aG) aB9 rfl;have e2:∀hp,aq hp true 5 (.fp y.cells 0)=some (.agg y.cells):=λhp=>rfl;have s1:=sQ h y;unfold fD at s1;have hX:fR k l b v mC (ps++b6) false (h++[.cells y.cells false]):=hT.rx.keep λj c z _=>aM z;have GO:jB k hp (h++[.cells y.cells false]):=hT.jf.trans jB.app;have cK:=gl hT.rx.b;have JZ:(h++[aj y.cells false])[h.length]?=some (.cells y.cells false):=aBI
  generalize h++[aj y.cells false]=g at s1 hX GO JZ;have iI:=hX.put (b+1) false;have GP:=GO.trans (DF (x:=.cells [v,ag ((b+1:Nat):Int),mC,.v (.bool false)] false));have Dw:(g.set k (.cells [v,ag ((b+1:Nat):Int),mC,.v (.bool false)] false))[h.length]?=some (.cells y.cells false):=by rw[av aBH];exact JZ
  have w1:b7.wrap ((b)+1)=((b+1:Nat):Int):=jA aBH;have s2:=hX.fP (b+1);generalize g.set k (.cells [v,ag ((b+1:Nat):Int),mC,.v (.bool false)] false)=g2 at s2 iI GP Dw;have l2:aq g2 false 1 (.mp h.length 2)=some (.v (.int .i64 y.low)):=aDu
  have l3:aq g2 false 1 (.mp h.length 3)=some (.v (.int .i64 y.high)):=aDu
  have f1:cm [.v (.int .i64 0),.v (.int .i64 0),.v (.int .i64 0),.v (.string ⟨#[]⟩),.af] [(0,1,.v (.int .i64 4)),(1,1,.v (.int .i64 y.low)),(2,1,.v (.int .i64 y.high)),(4,1,.sl [.v (.int .i64 n)] .exact)]=some (nR ⟨4,y.low,y.high,[],[n],.exact⟩):=rfl;have apJ:=hT.cnt;have hab:=hT.lt;have xo:=MQ (G:=G) iI aBK ⟨4,y.low,y.high,[],[n],.exact⟩;unfold ox at xo;refine p9 (dV @pY @hT.rx.AI @hT.rx.fy @e1) @e2 @s1 @hX.fy @w1 @s2 @l2 @l3 @f1 (aZ xo ?_);rintro _ g3 ⟨rfl,⟨bg,hZ⟩,PW⟩;refine wy ?_;rw[cq] at hZ;refine⟨((ps++b6).length:Nat),b+1,bg,b6++[⟨4,y.low,y.high,[],[n],.exact⟩],false,rfl,aBH,aBH,hZ,GP.trans PW,aBK,λ_=>⟨aBH,aBK,λz=>?_⟩⟩;rw[<-cq];refine(hT.ok z).push ⟨ax (ax ⟨rfl,rfl,rfl,CB⟩),λx hx=>?_⟩;rw[cr.1 hx];exact⟨hT.n0,hT.n1⟩;exact hT.done
 exact⟨-1,a,pv,[],true,rfl,bl _,ha,by rw[e4];exact hR.put a true,DF,aBI,λq=>aBT⟩
def reads(hl:l.length<=200)(hok:∀x∈l,x.cA):∀(n a),a<=l.length->l.length-a<=n->Reads G 223 k l v a/\Reads G 166 k l v a/\Reads G 98 k l v a:=by
 intro n
 induction n with
 |zero=>
  intro a ha hn;have i:Reads G 223 k l v a:=abQ hl hok ha λq=>aBH
  have r:Reads G 166 k l v a:=agD hl ha λb h1 h2=>by
   obtain rfl:b=a:=aBH
   exact i
  exact⟨i,r,Yo hl ha λb h1 h2=>by
   obtain rfl:b=a:=aBH
   exact r⟩
 |succ n ih=>
  intro a ha hn;have i:Reads G 223 k l v a:=abQ hl hok ha λq=>(ih (a+1) aBH aBH).2.2;have r:Reads G 166 k l v a:=agD hl ha λb h1 h2=>by
   rcases Nat.eq_or_lt_of_le h1 with q|q
   subst q;exact i;exact(ih b h2 aBH).1
  exact⟨i,r,Yo hl ha λb h1 h2=>by
   rcases Nat.eq_or_lt_of_le h1 with q|q
   subst q;exact r;exact(ih b h2 aBH).2.1⟩
end
def dD.MW{α:Type}{hp}{f g}:∀{l:List α},(∀a∈l,aX hp (f a) (g a))->dD hp (l.map f) (l.map g)
 |[],_=>bW
 |a::l,h=>aA (h a aBI) (dD.MW λb hb=>h b aDb)
def bJ.bw(p:bJ):bJ:={p with tail:=.no}
def Ra(hp)(p:bJ):aX hp p.aG p.bw.aG:=by
 have hk:aX hp p.kv p.bw.kv:=by
  obtain⟨k,lo,hi,nm,kids,t⟩:=p;unfold bJ.bw bJ.kv;cases kids with
  |nil=>exact cS
  |cons x r=>exact fj (gh λa _=>aB _)
 exact iO (aA (aB _) (aA (aB _) (aA (aB _) (aA (aB _) (aA hk bW)))))
def avz{ps}(h:oB ps):oB (ps.map bJ.bw):=by
 intro i p hp;rw[eC] at hp;cases hq:ps[i]? with
 |none=>rw[hq] at hp;cases hp
 |some q=>
  rw[hq] at hp;cases hp;exact h i q hq
structure qk(v:U)(ps:List bJ):Prop where
 v:bL v (ps.map ox)
 ok:oB ps
 len:ps.length<=600
 no:∀p∈ps,p.tail=.no
def Pn(r:U):Prop:=∃(v:U) (p e:Int),r=.aK [v,ag p,ag e]/\((e=0/\p=0/\∃ps,qk v ps)\/(e≠0/\v=.af))
def Em{hp}{v v'}{p e}(hv:aX hp v v')(hQ:Pn (.aK [v',ag p,ag e])):∃n aQ,b9 hp n (.aK [v,p,e])=some aQ/\Pn aQ:=by
 obtain⟨n,hn⟩:=(dR (aA hv (aA (aB (.int .i64 p)) (aA (aB (.int .i64 e)) bW))):aX hp _ _).done;exact⟨n,_,hn,hQ⟩
def q9(s):dn (ai s):=bM _
def T7{G}(bz:eE G)(s)(hs:s.length<=1000000):cx G az 51 [ai s] Pn:=by
 refine cR (ab7.go ?_);refine wy ?_;refine aE.cY (aeL bz s hs) ?_;rintro r (⟨l,v,hl,hok,hv,rfl⟩|⟨p,e,he,rfl⟩);refine wy ?_;have ln:=hv.bO;rw[b_] at ln;refine wy ?_;refine b8 (λq=>?_) λq=>?_;exact Em cS ⟨_,_,_,rfl,ay ⟨rfl,rfl,[],ax ⟨rfl,rfl⟩,λi p h=>aBR,aBJ,aBI⟩⟩
 have f1:cm [.af,(0:Int)] [(0,1,v)]=some [v,(0:Int)]:=by rcases hv with rfl|⟨rfl,_⟩<;>rfl
 have f2:cm [.af,(0:Int),.af,false] [(0,2,.agg [v,(0:Int)])]=some [v,(0:Int),.af,false]:=rfl;refine wy ?_;have hR:fR 0 l 0 v .af [] false [.cells [v,(0:Int),.af,false] false]:=⟨rfl,hv,ay ⟨rfl,rfl⟩⟩;refine aZ ((reads hl hok l.length 0 (ic _) aBH).2.2 [] .af _ hR aBI) ?_;rintro _ h ⟨n,a,pv,b6,w,rfl,c1,c2,c3,c4,c5,fM⟩;rw[eR] at c3 fM;have l1:=c3.fy;refine wy (bA (λah=>?_) λah=>?_);have hlt:a<l.length:=by simp at ah;exact ah
 obtain⟨y,hy⟩:=cD hlt;have e1:bu 5 v (a:Int)=some (.fp y.cells 0):=hv.bK (x:=y.aG) aB9 rfl;have e2:∀hp,aq hp false 1 (.fp y.cells 1)=some (.v (.int .i64 y.at_)):=λhp=>rfl;refine wy ?_;exact Em cS ⟨_,_,_,rfl,ax ⟨aBJ,rfl⟩⟩;cases w with
 |true=>
  refine wx ?_;exact Em cS ⟨_,_,_,rfl,ax ⟨aBJ,rfl⟩⟩
 |false=>
  refine wx ?_;obtain⟨_,_,gL⟩:=fM rfl;have ok:=avz (gL λi p h=>aBR);have len:(b6.map bJ.bw).length<=600:=by simp at c5⊢;omega
  have no:∀p∈b6.map bJ.bw,p.tail=.no:=λp hp=>by
   obtain⟨x,_,rfl⟩:=cO.1 hp;rfl
  rcases c3.app with⟨rfl,z⟩|⟨id,rfl,_⟩
  have:b6=[]:=aCa
  subst this;exact Em cS ⟨_,_,_,rfl,ay ⟨rfl,rfl,_,ax ⟨rfl,rfl⟩,ok,len,no⟩⟩;refine Em (fj (dD.MW λp _=>Ra _ p)) ⟨_,_,_,rfl,ay ⟨rfl,rfl,b6.map bJ.bw,ay ?_,ok,len,no⟩⟩;rw[we];rfl
 refine wy ?_;have q:(e !=0)=true:=aCM
 exact wy (Em cS ⟨_,_,_,rfl,ax ⟨he,rfl⟩⟩)
section
variable{p:bJ}{i:Nat}
def gW(r:U):Prop:=∃b:Bool,r=b
def gj{hp}(b):∃n aQ,b9 hp n (.v (.bool b))=some aQ/\gW aQ:=by
 obtain⟨n,hn⟩:=(aB (.bool b):aX hp _ _).done;exact⟨n,_,hn,b,rfl⟩
def auC{G}(bz:eE G)(s)(hs:s.length<=1000000):cx G az 226 [ai s] gW:=by
 refine cR (adM.go ?_);refine wy ?_;refine aE.cY (aeL bz s hs) ?_;rintro r (⟨l,v,hl,hok,hv,rfl⟩|⟨p,e,he,rfl⟩);have ln:=hv.bO;rw[b_] at ln;refine wy ?_;refine b8 (λq=>?_) λq=>?_;obtain⟨y,rfl⟩:∃y,l=[y]:=Bv.1 aBQ;have e1:bu 5 v (0:Int)=some (.fp y.cells 0):=hv.bK (i:=0) rfl rfl;have e2:∀hp,aq hp false 1 (.fp y.cells 0)=some (.v (.int .i64 y.kind)):=λhp=>rfl;have bQ:∀hp,aq hp false 1 (.fp y.cells 4)=some (ai y.name):=λhp=>rfl;have cC:je 4 (.fp y.cells 0)=some (.fp y.cells 4):=rfl;refine fB @q @e1 @e2 ?_;refine b8 (λah=>?_) λah=>?_;refine kf @e1 @cC @bQ @mj ?_;exact gj _;exact gj _;exact gj _;have q:(e==0)=false:=aCM
 exact wy (gj _)
@[go_sem]def vn(h:p.tail=.no)(hl:p.kids.length<=4611686018427387904)(hp):bO p.kv hp=some (.v (.int .i64 (p.kids.length:Int)),hp):=by
 unfold bJ.kv;split;rename_i e;rw[e];rfl;simp[nF,goInt]
def akn{G}(bz:eE G)(ho:p.cA i)(ht:p.tail=.no):cx G az 171 [p.aG] gW:=by
 refine cR (adl.go ?_);have q8:p.aG.cells=p.cells:=rfl;have ln:=vn ht (fk ho.kids aBJ);obtain⟨k,lo,hi,nm,kids,t⟩:=p;have l0:aq ([]++[.cells (nR ⟨k,lo,hi,nm,kids,t⟩) false]) false 1 (.mp 0 0)=some (.v (.int .i64 k)):=rfl;have l1:aq ([]++[.cells (nR ⟨k,lo,hi,nm,kids,t⟩) false]) false 1 (.mp 0 1)=some (.v (.int .i64 lo)):=rfl;have l2:aq ([]++[.cells (nR ⟨k,lo,hi,nm,kids,t⟩) false]) false 1 (.mp 0 2)=some (.v (.int .i64 hi)):=rfl;have l3:aq ([]++[.cells (nR ⟨k,lo,hi,nm,kids,t⟩) false]) false 1 (.mp 0 3)=some (ai nm):=rfl;have l4:aq ([]++[.cells (nR ⟨k,lo,hi,nm,kids,t⟩) false]) false 1 (.mp 0 4)=some (bJ.kv ⟨k,lo,hi,nm,kids,t⟩):=rfl;generalize hg:[]++[aj (nR ⟨k,lo,hi,nm,kids,t⟩) false]=g at l0 l1 l2 l3 l4;have z0:([]:List aa).length=0:=rfl;obtain⟨oL,oM⟩:=ho;dsimp only at oL oM ln;refine kf @q8 @hg @z0 @l0 ?_
 rcases oL with⟨rfl,rfl,rfl,hn,rfl⟩|⟨hk2,rfl,rfl,rfl,hk,_⟩|⟨rfl,rfl,hk,h0,h1,h2⟩
 have n0:(((0:Nat):Int)==0)=true:=rfl;refine p9 @iE @l0 @l1 @l2 @l3 @l4 @ln @fQ.{0} @n0 ?_;have vi:nm.length<=1000000:=by
  simp only[pV,dY,decide_eq_true_eq] at hn;omega
 refine aE.cY (auC bz nm vi) ?_;rintro r ⟨b,rfl⟩;exact dP (gj _)
 · have e1:decide ((1:Int)<(kids.length:Int))=true:=by simp;omega
   have bQ:ct .eql (ai []) (.v (.string ⟨[].toArray⟩))=some (.v (.bool true)):=mj [] []
   rcases hk2 with rfl|rfl
   all_goals
    exact Bf @l0 @l1 @l2 @l3 @l4 @ln @e1 @bQ (gj _)
 have bQ:ct .eql (ai []) (.v (.string ⟨[].toArray⟩))=some (.v (.bool true)):=mj [] [];have n1:((kids.length:Int)==1)=true:=aBK
 have n2:decide (0<=lo)=true:=aBK
 have mz:decide (lo<=20)=true:=aBK
 refine lB @iE @l0 @l1 @l2 @l3 @l4 @ln (bA (λq=>?_) λq=>?_);exact Bf (dV @q @l0 @l1 @l2) @l3 @l4 @ln @n1 @n2 @mz @bQ (gj _);have m1:nZ true [lo,(1:Int)]=some (.v (.int .i64 (if(1:Int)>lo then 1 else lo))):=rfl;have m2:decide ((if(1:Int)>lo then 1 else lo)<=hi)=true:=by
  simp at q;simp only[decide_eq_true_eq];split<;>omega
 have m3:decide (hi<=20)=true:=by simp at q⊢;omega
 exact Bf (dV @q @l0 @l1 @l2) (dV @l3 @l4 @ln @n1) @n2 @mz @bQ @m1 @m2 @m3 (gj _)
def td(hp:List aa)(v:U)(xs:List Int):Prop:=(v=.af/\xs=[])\/(∃t,v=.sl (xs.map ag) t)\/∃k cs off,v=.rs k cs.length 1 off xs.length/\hp[k]?=some (.cells cs true)/\∀(i:Nat) x,xs[i]?=some x->cs[off+i]?=some (ag x)
@[go_sem]def td.len{hp}{v}{xs}(h:td hp v xs)(hl:xs.length<=4611686018427387904):bO v hp=some (.v (.int .i64 (xs.length:Int)),hp):=by
 rcases h with⟨rfl,rfl⟩|⟨t,rfl⟩|⟨k,cs,off,rfl,_,_⟩
 rfl;simp[nF,goInt];rfl
def td.get{hp}{v}{xs}(h:td hp v xs){x}(hx:xs[i]?=some x):∃p,bu 1 v (i:Int)=some p/\aq hp false 1 p=some (.v (.int .i64 x)):=by
 have hi:=gl hx
 rcases h with⟨rfl,rfl⟩|⟨t,rfl⟩|⟨k,cs,off,rfl,hk,hc⟩
 simp at hx;refine⟨.fp [ag x] 0,?_,rfl⟩;simp only[bu,eC,uG,hx,ie];rw[if_pos aBH];rfl;refine⟨.rp k cs.length (off+i*1),?_,?_⟩;show(if 0<=(i:Int)/\(i)<(xs.length:Int) then some (U.rp k cs.length (off+(i:Int).toNat*1)) else none)=_;rw[if_pos ⟨aBH,aBH⟩];simp;have:=hc i x hx;unfold ag at this;simp only[aq,hk,if_true,Nat.mul_one];simpa[dB] using this
def amw{G}{hp}{v w}{xs ys}(hv:td hp v xs)(hw:td hp w ys)(h1:xs.length<=1000000)(h2:ys.length<=1000000):aE G az 172 [v,w] hp λr hp'=>(∃b:Bool,r=b/\(b=true->xs=ys))/\hp'=hp:=by
 refine adm.go ?_;refine wx ?_;refine b8 (λq=>?_) λq=>?_;exact⟨⟨false,rfl,λh=>aB1⟩,trivial⟩;have hl:xs.length=ys.length:=aBQ
 refine kE @q (hv.len (show xs.length<=4611686018427387904 by omega)) ?_;refine cj (λi e h=>e=[(0,v),(1,w),(12,ag xs.length),(13,ag i)]/\h=hp/\∀(j),j<i->xs[j]?=ys[j]?) xs.length ⟨rfl,rfl,λj h=>aBH⟩ ?_ ?_;rintro i e h hi ⟨rfl,rfl,hI⟩;obtain⟨x,hx⟩:=cD hi;obtain⟨y,hy⟩:∃y,ys[i]?=some y:=⟨ys[i]' aBH,br aBH⟩;obtain⟨p1,a1,b1⟩:=hv.get hx;obtain⟨p2,a2,b2⟩:=hw.get hy;refine lC ?_;refine b8 (λah=>?_) λah=>?_;exact⟨⟨false,rfl,λh=>aB1⟩,trivial⟩;refine wx ?_;refine⟨rfl,trivial,λj hj=>?_⟩
 rcases cE j i with z|z
 exact hI j z;obtain rfl:j=i:=aBH
 rw[hx,hy];simp at ah;rw[ah];rintro e h ⟨rfl,rfl,hI⟩;refine di @ag.eq_1 ?_;refine⟨⟨true,rfl,λ_=>Bu λj=>?_⟩,trivial⟩
 rcases cE j xs.length with z|z
 exact hI j z;rw[hG z,hG aBH]
end
section
variable{h:de}{hp:List aa}{G:Cells}
def Dx:List U:=[.v (.int .i64 0),.v (.int .i64 0),.v (.int .i64 0),.v (.int .i32 0),.v (.int .u16 0),.v (.int .u16 0),.v (.int .u16 0),.v (.int .u16 0),.v (.int .u16 0),.v (.int .u16 0),.v (.int .u16 0),.v (.int .u16 0),.af,.af,.v (.int .i64 0),.v (.int .i64 0)]
def rO(ho:h.cA):h.cells.length=12:=by simp[de.cells,ho.len]
def JJ(ho:h.cA):∃c0 c1 c2 c3 c4 c5 fM gL gq c9 ig ij,h.cells=[c0,c1,c2,c3,c4,c5,fM,gL,gq,c9,ig,ij]:=by
 have:=rO ho
 match h.cells,this with
 |[c0,c1,c2,c3,c4,c5,fM,gL,gq,c9,ig,ij],_=>exact⟨c0,c1,c2,c3,c4,c5,fM,gL,gq,c9,ig,ij,rfl⟩
def atW(ho:h.cA)(r:List U):dB true 12 (h.cells++r) 0=some h.aG:=by
 obtain⟨c0,c1,c2,c3,c4,c5,fM,gL,gq,c9,ig,ij,e⟩:=JJ ho;simp only[l5,e];rfl
def IP(ho:h.cA):dB true 12 h.cells 0=some h.aG:=by
 have:=atW ho []
 rwa [e4] at this
def Ep(h:de):dD hp h.cells h.cells:=by
 refine dD.each λa ha=>?_;simp only[de.cells,ek,cO] at ha
 rcases ha with rfl|rfl|rfl|rfl|⟨x,_,rfl⟩<;>exact aB _
def Z5(r:List Int){t:iD}:aX hp (.sl (r.map oc) t) (.sl (r.map oc) .no):=fj (gh λa _=>aB _)
mutual
theorem Hx{hp:List aa}:∀t:T,aX hp t.aG t.aG
 |.node h ks=>by
  rw[T.aG];exact aX.fp (zk (Ep h) (aA cS (aA (Z4 ks) (aA (aB _) (aA (aB _) bW)))))
 |.leaf h=>by
  rw[T.aG];exact aX.fp (zk (Ep h) (aA cS (aA cS (aA (aB _) (aA (aB _) bW)))))
 |.text h r=>by
  rw[T.aG];exact aX.fp (zk (Ep h) (aA (Z5 r) (aA cS (aA (aB _) (aA (aB _) bW)))))
theorem Z6{hp:List aa}:∀ks:List T,dD hp (dh ks) (dh ks)
 |[]=>bW
 |k::r=>by
  rw[dh];exact aA (Hx k) (Z6 r)
theorem Z4{hp:List aa}:∀ks:List T,aX hp (gR (dh ks)) (gR (dh ks))
 |[]=>cS
 |k::r=>by
  rw[dh,gR];exact fj (aA (Hx k) (Z6 r));exact λh=>aB1
end
def atx(ho:h.cA):ck G az 24 [h.aG] (T.leaf h).aG:=by
 refine ef (ad_.go ?_);have hl:aq ([]++[aj h.aG.cells false]) true 12 (.mp ([]:List aa).length 0)=some h.aG:=IP ho;have hf:cm Dx [(0,12,h.aG),(14,1,.v (.int .i64 1)),(15,1,.v (.int .i64 1))]=some (h.cells++[.af,.af,ag 1,ag 1]):=by
  obtain⟨c0,c1,c2,c3,c4,c5,fM,gL,gq,c9,ig,ij,e⟩:=JJ ho;simp only[l5,e];rfl
 unfold Dx at hf;exact azc @hl @hf ((aX.mp rfl (zk (Ep h) (aA cS (aA cS (aA (aB _) (aA (aB _) bW)))))).done)
def PZ(ho:h.cA):(F2 h).cA:=⟨ho.hk,ho.ht,ho.ha,⟨by show(-2147483648:Int)<=0;decide,by show(0:Int)<=2147483647;decide⟩,ho.len,ho.hm⟩
def atA(ho:h.cA)(r:List Int):ck G az 25 [h.aG,.sl (r.map oc) .no] (T.text (F2 h) r).aG:=by
 refine ef (aea.go ?_);have hs:aF ([]++[aj h.aG.cells false]) 1 (.mp ([]:List aa).length (0+3)) (.v (.int .i32 0))=some ([]++[aj (F2 h).aG.cells false]):=by
  obtain⟨k,t,a,x,m⟩:=h;rfl
 have hl:aq ([]++[aj (F2 h).aG.cells false]) true 12 (.mp ([]:List aa).length 0)=some (F2 h).aG:=IP (PZ ho);have hf:cm Dx [(0,12,(F2 h).aG),(12,1,.sl (r.map oc) .no),(14,1,.v (.int .i64 r.length)),(15,1,.v (.int .i64 1))]=some ((F2 h).cells++[.sl (r.map oc) .no,.af,ag r.length,ag 1]):=by
  obtain⟨c0,c1,c2,c3,c4,c5,fM,gL,gq,c9,ig,ij,e⟩:=JJ (PZ ho);simp only[l5,e];rfl
 unfold Dx at hf;refine Vy @hs @hl @hf @goInt.eq_1 @b_.{0,0} ?_;exact(aX.mp rfl (zk (Ep _) (aA (Z5 r) (aA cS (aA (aB _) (aA (aB _) bW)))))).done
def axy(ks:List T):bL (gR (dh ks)) (dh ks):=by
 cases ks with
 |nil=>exact ax ⟨rfl,rfl⟩
 |cons k r=>exact ay (by rw[dh,gR];exact λh=>aB1)
def max2(a b:Nat):nZ true [.v (.int .i64 (a:Int)),.v (.int .i64 (b:Int))]=some (.v (.int .i64 ((max a b:Nat):Int))):=by
 simp only[nZ,D8,KM,kn,if_true];congr 3;split<;>omega
def abI(ho:h.cA){ks:List T}(hk:∀k∈ks,k.wf)(hb:sizes ks<=4611686018427387904)(hn:ks.length<=4611686018427387904):ck G az 23 [h.aG,gR (dh ks)] (T.node h ks).aG:=by
 refine ef (ad9.go ?_);obtain⟨c0,c1,c2,c3,c4,c5,fM,gL,gq,c9,ig,ij,e⟩:=JJ ho;have hl:aq ([]++[aj h.aG.cells false]) true 12 (.mp ([]:List aa).length 0)=some h.aG:=IP ho;have hv:=axy ks;have hf:cm Dx [(0,12,h.aG),(13,1,gR (dh ks)),(14,1,.v (.int .i64 2))]=some [c0,c1,c2,c3,c4,c5,fM,gL,gq,c9,ig,ij,.af,gR (dh ks),ag 2,ag 0]:=by
  simp only[l5,e]
  have hc:(gR (dh ks)).cells=[gR (dh ks)]:=by rcases hv with q|⟨q,_⟩<;>rw[q]<;>rfl
  unfold Dx cm;rw[if_pos ⟨rfl,of_decide_eq_true rfl⟩];unfold cm;rw[if_pos ⟨by rw[hc];rfl,of_decide_eq_true rfl⟩,hc];rfl
 unfold Dx at hf;refine Vy @hl @hf @hv.bO @goInt.eq_1 @GN ?_;refine cj (λi e hp=>e=[(5,.mp 1 0),(12,gR (dh ks)),(13,ag ks.length),(14,ag i)]/\hp=[.cells h.aG.cells false,.cells [c0,c1,c2,c3,c4,c5,fM,gL,gq,c9,ig,ij,.af,gR (dh ks),ag ((2+sizes (ks.take i):Nat):Int),ag ((mu (ks.take i):Nat):Int)] false]) ks.length ⟨rfl,rfl⟩ ?_ ?_;rintro i e hp hi ⟨rfl,rfl⟩;obtain⟨k,hki⟩:=cD hi;have iZ:(dh ks)[i]?=some k.aG:=by rw[Eb];simp[hki]
 have d1:decide ((i:Int)<(ks.length:Int))=true:=aBK
 have e1:bu 1 (gR (dh ks)) (.v (.int .i64 i))=some (.fp [k.aG] 0):=by rw[hv.bK iZ (by rw[T.Ea];rfl),T.Ea]
 have l1:∀hp,aq hp false 1 (.fp [k.aG] 0)=some k.aG:=λhp=>PK hp rfl;obtain⟨d0,Qr,d2,d3,d4,d5,d6,d7,d8,d9,d10,d11,p,q,aou⟩:=T.akG (hk k (bG hki));have l2:∀hp,aq hp false 1 (.fp [d0,Qr,d2,d3,d4,d5,d6,d7,d8,d9,d10,d11,p,q,ag (k.size:Int),ag (k.height:Int)] 14)=some (ag (k.size:Int)):=λhp=>PK hp rfl;have l3:∀hp,aq hp false 1 (.fp [d0,Qr,d2,d3,d4,d5,d6,d7,d8,d9,d10,d11,p,q,ag (k.size:Int),ag (k.height:Int)] 15)=some (ag (k.height:Int)):=λhp=>PK hp rfl;rw[aou] at e1 l1;simp only[ag] at e1 l1 l2 l3;have l4:∀a b,aq [.cells h.aG.cells false,.cells [c0,c1,c2,c3,c4,c5,fM,gL,gq,c9,ig,ij,.af,gR (dh ks),a,b] false] false 1 (.mp 1 14)=some a:=λa b=>rfl;have AG:∀a b,aq [.cells h.aG.cells false,.cells [c0,c1,c2,c3,c4,c5,fM,gL,gq,c9,ig,ij,.af,gR (dh ks),a,b] false] false 1 (.mp 1 15)=some b:=λa b=>rfl;have iy:∀a b n,aF [.cells h.aG.cells false,.cells [c0,c1,c2,c3,c4,c5,fM,gL,gq,c9,ig,ij,.af,gR (dh ks),a,b] false] 1 (.mp 1 14) (.v (.int .i64 n))=some [.cells h.aG.cells false,.cells [c0,c1,c2,c3,c4,c5,fM,gL,gq,c9,ig,ij,.af,gR (dh ks),.v (.int .i64 n),b] false]:=λa b n=>rfl;have iL:∀a b n,aF [.cells h.aG.cells false,.cells [c0,c1,c2,c3,c4,c5,fM,gL,gq,c9,ig,ij,.af,gR (dh ks),a,b] false] 1 (.mp 1 15) (.v (.int .i64 n))=some [.cells h.aG.cells false,.cells [c0,c1,c2,c3,c4,c5,fM,gL,gq,c9,ig,ij,.af,gR (dh ks),a,.v (.int .i64 n)] false]:=λa b n=>rfl;have t1:=ahi hki;have t2:=aoN hki;have b1:=UR ks (i+1);have w1:b7.wrap (((2+sizes (ks.take i):Nat):Int)+(k.size:Int))=((2+sizes (ks.take (i+1)):Nat):Int):=by rw[wrap_i64 aBH aBH];omega
 have w2:b7.wrap ((i:Int)+1)=((i+1:Nat):Int):=by rw[wrap_i64 aBH aBH];rfl
 have m1:=max2 (mu (ks.take i)) k.height;rw[<-t2] at m1;exact Du (dV @ag.eq_1 @d1 @e1 @l1) (dV @l2 @l3 @l4 @AG) @iy @iL @w1 @w2 @m1 tt;rintro e hp ⟨rfl,rfl⟩;have d1:decide ((ks.length:Int)<(ks.length:Int))=false:=aBI
 have AG:∀a b,aq [.cells h.aG.cells false,.cells [c0,c1,c2,c3,c4,c5,fM,gL,gq,c9,ig,ij,.af,gR (dh ks),a,b] false] false 1 (.mp 1 15)=some b:=λa b=>rfl;have iL:∀a b n,aF [.cells h.aG.cells false,.cells [c0,c1,c2,c3,c4,c5,fM,gL,gq,c9,ig,ij,.af,gR (dh ks),a,b] false] 1 (.mp 1 15) (.v (.int .i64 n))=some [.cells h.aG.cells false,.cells [c0,c1,c2,c3,c4,c5,fM,gL,gq,c9,ig,ij,.af,gR (dh ks),a,.v (.int .i64 n)] false]:=λa b n=>rfl;have h1:=RR ks;have w1:b7.wrap ((mu ks:Int)+1)=((mu ks+1:Nat):Int):=by rw[wrap_i64 aBH aBH];rfl
 refine xR @rV.{0} ?_;refine(aX.mp rfl ?_).done;have:=zk (hp:=[.cells h.aG.cells false,.cells [c0,c1,c2,c3,c4,c5,fM,gL,gq,c9,ig,ij,.af,gR (dh ks),.v (.int .i64 ((2+sizes ks:Nat):Int)),.v (.int .i64 ((mu ks+1:Nat):Int))] false]) (Ep h) (aA cS (aA (Z4 ks) (aA (aB (.int .i64 ((2+sizes ks:Nat):Int))) (aA (aB (.int .i64 ((mu ks+1:Nat):Int))) bW))));rw[e] at this;rw[e];exact this
end
end Go.Proofs.YtggeooeohcbdhaaGreatDoor
section
namespace Go.aJ
open Go.RowKit
def ajL(hp:List aa):Prop:=∀b∈hp,(∃cs r,b=.cells cs r)\/∃n s e,b=.tok n s e
end Go.aJ
namespace Go.Proofs.YtggeooeohcbdhaaGreatDoor
open Go Go.aJ Go.RowKit
def GX(t:de):∀c∈t.cells,dn c:=λc hc=>by
 simp only[de.cells,ek,cO] at hc
 rcases hc with rfl|rfl|rfl|rfl|⟨x,_,rfl⟩<;>exact bM _
def GW(t:de):dn t.aG:=Eg (GX t)
def Ext(hb hp:List aa):Prop:=∀(j:Nat) b,hb[j]?=some b->hp[j]?=some b
def Ext.refl(hb:List aa):Ext hb hb:=λ_ _ h=>h
def Ext.app{hb l:List aa}:Ext hb (hb++l):=λ_ _ h=>aM h
def Ext.n3{hb hp l:List aa}(h:Ext hb hp):Ext hb (hp++l):=λj b q=>aM (h j b q)
def Ext.nil(hp:List aa):Ext [] hp:=λj b h=>aBR
def Ext.len{hb hp:List aa}(h:Ext hb hp):hb.length<=hp.length:=by
 rcases cE hp.length hb.length with q|q
 have:=h hp.length _ (br q);rw[hG (bl _)] at this;cases this;exact q
def Ext.split{hb hp:List aa}(h:Ext hb hp):∃l,hp=hb++l:=by
 refine⟨hp.drop hb.length,?_⟩;apply Bu;intro j
 rcases cE j hb.length with q|q
 rw[ei q,h j _ (br q),br q];rw[er q,qd];congr 1;omega
def ajO(hb:List aa)(v:U)(l:List de):Prop:=∃k cs off,v=.rs k cs.length 12 off l.length/\hb[k]?=some (.cells cs true)/\∀(i:Nat) t,l[i]?=some t->off+i*12+12<=cs.length/\(cs.drop (off+i*12)).take 12=t.cells
def uQ(hb:List aa)(v:U)(l:List de):Prop:=bL v (l.map l5)\/ajO hb v l
def atT{t:de}(ho:t.cA):dB true 8 t.cells 4=some (.agg (t.marks.map ep)):=by
 have h:t.marks.length=8:=ho.len;have h2:t.cells.length=12:=rO ho;unfold dB;rw[if_pos rfl,if_pos aBH];have:t.cells.drop 4=t.marks.map ep:=rfl;rw[this,kG (by simp[h])]
def uQ.len{hb:List aa}{v:U}{l:List de}(h:uQ hb v l)(hp:List aa):bO v hp=some (.v (.int .i64 (l.length:Int)),hp):=by
 rcases h with h|⟨k,cs,off,rfl,_,_⟩
 have:=h.bO hp;rw[b_] at this;exact this;rfl
structure ajT(hb:List aa)(p:U)(t:de):Prop where
 nil:uZ p=some p
 f0:∃q,je 0 p=some q/\∀hp,Ext hb hp->aq hp false 1 q=some (.v (.int .i64 t.kind))
 f4:∃q,je 4 p=some q/\∀hp,Ext hb hp->aq hp true 8 q=some (.agg (t.marks.map ep))
 all:∀hp,Ext hb hp->aq hp true 12 p=some t.aG
def uQ.tok{hb:List aa}{v:U}{l:List de}(h:uQ hb v l){i:Nat}{t:de}(ht:l[i]?=some t)(ho:t.cA):∃p,bu 12 v (.v (.int .i64 (i:Int)))=some p/\ajT hb p t:=by
 rcases h with h|⟨k,cs,off,rfl,hk,hc⟩
 refine⟨.fp t.cells 0,h.bK (x:=t.aG) (by simp[ht]) (rO ho),rfl,⟨_,rfl,λhp _=>rfl⟩,⟨_,rfl,λhp _=>atT ho⟩,λhp _=>IP ho⟩;obtain⟨h1,h2⟩:=hc i t ht;have hi:=(bE.1 ht).1;have hg:∀j,j<12->cs[off+i*12+j]?=t.cells[j]? :=λj hj=>by
  rw[<-h2,zp hj,qd]
 refine⟨.rp k cs.length (off+i*12),?_,rfl,⟨_,rfl,λhp he=>?_⟩,⟨_,rfl,λhp he=>?_⟩,λhp he=>?_⟩;show(if 0<=(i:Int)/\(i:Int)<(l.length:Int) then some (U.rp k cs.length (off+(i:Int).toNat*12)) else none)=_;rw[if_pos ⟨aBH,aBH⟩];simp;simp only[aq,he k _ hk,if_true];have:=hg 0 aBH;exact this;simp only[aq,he k _ hk,if_true];unfold dB;rw[if_pos rfl,if_pos aBH];have:(cs.drop (off+i*12+4)).take 8=((cs.drop (off+i*12)).take 12).drop 4:=by
  rw[List.drop_take,vZ]
 rw[this,h2];rfl;simp only[aq,he k _ hk,if_true];unfold dB;rw[if_pos rfl,if_pos h1,h2];rfl
section
variable{G:Cells}{S:U}{p:de->Bool}{l:List de}{hb:List aa}
end
end Go.Proofs.YtggeooeohcbdhaaGreatDoor
end
namespace Go.Proofs.YtggeooeohcbdhaaGreatDoor
open Go Go.aJ Go.RowKit
section
variable{hb hp hp':List aa}{v:U}{ks:List T}{K i id j len m n:Nat}{k:T}{α:Type}{x:aa}{l p:List de}{t u:de}{fV:List U}
def Pc(hp:List aa)(v:U)(ks:List T):Prop:=(v=.af/\ks=[])\/(ks≠[]/\∃id,v=.sl (dh ks) (.tok id)/\hp[id]?=some (.tok ks.length 1 25))
abbrev ye:=Fr×U
variable{st:List ye}
def g_:List ye->List U
 |[]=>[]
 |(f,v)::r=>g_ r++(f.h.cells++[v])
def akx(v w:U):Prop:=∀id xs ys,v=.sl xs (.tok id)->w≠.sl ys (.tok id)
def tZ(hp:List aa):List ye->Prop
 |[]=>True
 |(f,v)::r=>Pc hp v f.ks/\(∀it∈r,akx v it.2)/\tZ hp r
def afH(ks:List T):bV 1 (dh ks)=true:=by
 rw[Eb,bV,c_];intro x hx;obtain⟨t,_,rfl⟩:=cO.1 hx;obtain⟨cs,e⟩:=t.KQ;rw[e];rfl
def avJ(k:T)(h:Pc hp v ks)(hn:ks.length<1000000000):
  ∃id hp',cG hp 1 8 25 v (.sl [k.aG] .exact)=some (.sl (dh (ks++[k])) (.tok id),hp')/\hp'[id]?=some (.tok (ks++[k]).length 1 25)/\(∀j b,j≠id->hp[j]?=some b->hp'[j]?=some b)/\
   ((∃ys,v=.sl ys (.tok id))\/hp.length<=id)/\(∀cs r,hp[id]?≠some (.cells cs r)):=by
 have e1:dh (ks++[k])=dh ks++[k.aG]:=by rw[akH];rfl
 have hk:bV 1 [k.aG]=true:=afH [k];have hne:([k.aG]:List U)≠[]:=aBI
 rcases h with⟨rfl,rfl⟩|⟨abd,id,rfl,hid⟩
 refine⟨hp.length,hp++[.tok 1 1 25],?_,?_,λj b hj h=>?_,ax (bl _),λcs r h=>?_⟩;simp[cG,e9,contents,ga,hk,e1,dh];simp;exact aM h;rw[hG (bl _)] at h;cases h;have hl:id<hp.length:=gl hid;refine⟨id,hp.set id (.tok (ks.length+1) 1 25),?_,?_,λj b hj h=>?_,ay ⟨_,rfl⟩,λcs r h=>?_⟩;have h1:((dh ks).length+[k.aG].length)*8<=140737488355328:=by rw[GN];simp only[nq];omega
 have apf:=afH ks;simp only[cG,e9,contents,ga,hk,apf,e1,hne,if_false,if_true,hid,GN,nq,true_and,and_self,x9] at h1⊢;rw[if_pos h1];rw[aR hl,cB];rfl;rw[av (dr hj)];exact h;rw[hid] at h;cases h
def MM(hj:∀j b,j≠id->hp[j]?=some b->hp'[j]?=some b):∀{st:List ye},tZ hp st->(∀it∈st,∀ys,it.2≠.sl ys (.tok id))->tZ hp' st
 |[],_,_=>trivial
 |(f,v)::r,h,hd=>by
  refine⟨?_,h.2.1,MM hj h.2.2 λit hit=>hd it (by simp[hit])⟩
  rcases h.1 with q|⟨q,i,rfl,hi⟩
  exact ay q;refine ax ⟨q,i,rfl,hj i _ (λe=>?_) hi⟩;subst e;exact hd (f,.sl (dh f.ks) (.tok i)) aBI _ rfl
def SS:∀{st:List ye},tZ hp st->∀it∈st,∀ys id,it.2=.sl ys (.tok id)->id<hp.length
 |[],_,it,hit=>by cases hit
 |(f,v)::r,h,it,hit=>λys id e=>by
  rcases ek.1 hit with rfl|hit
  rcases h.1 with⟨q,_⟩|⟨_,i,q,hi⟩
  rw[q] at e;cases e;rw[q] at e;cases e;exact gl hi;exact SS h.2.2 it hit ys id e
def asR{f:Fr}(h:tZ hp ((f,v)::st))(h1:hp'[id]?=some (.tok (f.ks++[k]).length 1 25))(h2:∀j b,j≠id->hp[j]?=some b->hp'[j]?=some b)
  (h3:(∃ys,v=.sl ys (.tok id))\/hp.length<=id):tZ hp' ((⟨f.h,f.ks++[k]⟩,.sl (dh (f.ks++[k])) (.tok id))::st):=by
 have hd:∀it∈st,∀ys,it.2≠.sl ys (.tok id):=λit hit ys e=>by
  rcases h3 with⟨zs,bQ⟩|h3
  exact h.2.1 it hit id zs ys bQ e;have:=SS h.2.2 it hit ys _ e;omega
 exact⟨ax ⟨aBI,id,rfl,h1⟩,λit hit i xs ys e=>by cases e;exact hd it hit ys,MM h2 h.2.2 hd⟩
mutual
theorem u6:∀t:T,dn t.aG
 |.node h ks=>by
  rw[T.aG];exact BT λc hc=>by
   rcases dZ.1 hc with hc|hc
   exact GX h c hc;simp only[ek,oz,or_false] at hc
   rcases hc with rfl|rfl|rfl|rfl
   exact mg;exact alp ks;exact bM _;exact bM _
 |.leaf h=>by
  rw[T.aG];exact BT λc hc=>by
   rcases dZ.1 hc with hc|hc
   exact GX h c hc;simp only[ek,oz,or_false] at hc
   rcases hc with rfl|rfl|rfl|rfl
   exact mg;exact mg;exact bM _;exact bM _
 |.text h r=>by
  rw[T.aG];exact BT λc hc=>by
   rcases dZ.1 hc with hc|hc
   exact GX h c hc;simp only[ek,oz,or_false] at hc
   rcases hc with rfl|rfl|rfl|rfl
   exact jZ λx hx c hc=>by
    obtain⟨a,_,rfl⟩:=cO.1 hx;have e:c=oc a:=by simpa[oc,gm] using hc
    subst e;exact bM _
   exact mg;exact bM _;exact bM _
theorem Qj:∀ks:List T,∀x∈dh ks,∀c∈x.cells,dn c
 |[],x,hx=>by simp[dh] at hx
 |k::r,x,hx=>λc hc=>by
  rw[dh] at hx
  rcases ek.1 hx with rfl|hx
  rw[T.Ea] at hc;obtain rfl:=cr.1 hc;exact u6 k;exact Qj r x hx c hc
theorem alp:∀ks:List T,dn (gR (dh ks))
 |[]=>mg
 |k::r=>by
  have e:gR (dh (k::r))=.sl (dh (k::r)) .no:=by rw[dh,gR];exact λh=>aB1
  rw[e];exact jZ λx hx c hc=>Qj (k::r) x hx c hc
end
def aeo(h:Pc hp v ks):lI v (gR (dh ks)):=by
 rcases h with⟨rfl,rfl⟩|⟨hne,id,rfl,_⟩
 exact abF;have e:gR (dh ks)=.sl (dh ks) .no:=by
  cases ks with
  |nil=>exact(hne rfl).elim
  |cons k r=>rw[dh,gR];exact λh=>aB1
 rw[e];exact jZ λx hx c hc=>Qj ks x hx c hc
def Ve{A B:List α}(h:A.length=n):(A++B).take n=A:=by rw[<-h,OX];rfl
def Qu{A B:List α}(h:A.length=n):(A++B).drop n=B:=by rw[<-h,List.drop_left'];rfl
section
variable{A B:List U}{h:de}{w:U}{n:Nat}
def agG(ho:h.cA)(hA:A.length=n*13):(A++(h.cells++[w])++B).length=n*13+13+B.length:=by
 simp[rO ho,hA];omega
def awD(ho:h.cA)(hA:A.length=n*13):dB true 12 (A++(h.cells++[w])++B) (n*13)=some h.aG:=by
 unfold dB;rw[if_pos rfl,if_pos (by rw[agG ho hA];omega),cq,Qu hA,cq,Ve (rO ho)];rfl
def awE(ho:h.cA)(hA:A.length=n*13)(aH:Nat):dB false aH (A++(h.cells++[w])++B) (n*13+12)=some w:=by
 unfold dB;rw[if_neg aBJ,cq,er aBH,cq,er (by rw[rO ho];omega),rO ho,hA,show n*13+12-n*13-12=0 by omega];rfl
def awF(ho:h.cA)(hA:A.length=n*13)(u:U):putAt (A++(h.cells++[w])++B) (n*13+12) [u]=A++(h.cells++[u])++B:=by
 have h1:(A++h.cells).length=n*13+12:=by rw[cB,hA,rO ho]
 have e:A++(h.cells++[w])++B=(A++h.cells)++([w]++B):=aBI
 unfold putAt;rw[e,Ve h1,nq,<-vZ,Qu h1];simp
end
def Jv:∀{st:List ye},Oa (st.map (·.1))->(g_ st).length=st.length*13
 |[],_=>rfl
 |(f,v)::r,h=>by
  have:=Jv (st:=r) h.2.2;simp only[g_,cB,dm,fQ,rO h.1,this];omega
def yX(n:Int):U:=.v (.int .i64 n)
def Bh:List U:=[.v (.int .i64 0),.v (.int .i64 0),.v (.int .i64 0),.v (.int .i32 0),.v (.int .u16 0),.v (.int .u16 0),.v (.int .u16 0),.v (.int .u16 0),.v (.int .u16 0),.v (.int .u16 0),.v (.int .u16 0),.v (.int .u16 0),.af]
structure Kj(hb:List aa)(l:List de)(i:Nat)(st:List ye)(fV:List U)(hp:List aa):Prop where
 eo:hp[hb.length]?=some (.cells (g_ st++fV) true)
 base:Ext hb hp
 ks:tZ hp st
 go:jg l.length (l.drop i) (st.map (·.1))=jg l.length l [⟨rJ,[]⟩]
 ne:st≠[]
 len:st.length<=41
 ok:Oa (st.map (·.1))
 size:sS (st.map (·.1))+st.length<=i+1
 kids:rN (st.map (·.1))<=i
 aqq:i<=l.length
def aeq:∀{st:List ye},tZ hp st->∀it∈st,∀ys id,it.2=.sl ys (.tok id)->∃n,hp[id]?=some (.tok n 1 25)
 |[],_,it,hit=>by cases hit
 |(f,v)::r,h,it,hit=>λys id e=>by
  rcases ek.1 hit with rfl|hit
  rcases h.1 with⟨q,_⟩|⟨_,i,q,hi⟩
  rw[q] at e;cases e;rw[q] at e;cases e;exact⟨_,hi⟩;exact aeq h.2.2 it hit ys id e
def aep{cs:List U}{b:Bool}(h0:hp[K]?=some (.cells cs b))(h:tZ hp st):tZ (hp.set K x) st:=
 MM (id:=K) (λj b hj q=>aD9) h λit hit ys e=>by
  obtain⟨n,hn⟩:=aeq h it hit ys K e;rw[h0] at hn;cases hn
def DO(hb:List aa):Prop:=∀b∈hb,∃cs r,b=.cells cs r
def DO.plain(h:DO hb):ajL hb:=λb hb'=>ay (h b hb')
def amB(hc:DO hb)(he:Ext hb hp)(h2:∀j b,j≠id->hp[j]?=some b->hp'[j]?=some b)(h5:∀cs r,hp[id]?≠some (.cells cs r)):Ext hb hp':=λj b q=>by
 refine h2 j b (λe=>?_) (he j b q);subst e;obtain⟨cs,r,rfl⟩:=hc b (bG q);exact h5 cs r (he _ _ q)
def Zp(he:Ext hb hp):Ext hb (hp.set hb.length x):=λj b q=>by
 have:=gl q;rw[av aBH];exact he j b q
def P7(hbc:DO hb){i':Nat}{g:Fr}{u:U}{r:List ye}(hm:m=(g_ ((g,u)::r)++fV).length)(eo:hp[hb.length]?=some (.cells (g_ ((g,u)::r)++fV) true))(aox:Ext hb hp)
  (hk:tZ hp ((g,u)::r)) (hok:Oa (g::r.map (·.1))) (hlen:r.length+1<=41) (hw:k.wf) (jj:jg l.length (l.drop i') (⟨g.h,g.ks++[k]⟩::r.map (·.1))=jg l.length l [⟨rJ,[]⟩])
  (hsz:sS (g::r.map (·.1))+k.size+(r.length+1)<=i'+1) (xl:rN (g::r.map (·.1))+1<=i') (jk:i'<=l.length) (hl:l.length<=20000):
  ∃w' hp' yI,cG hp 1 8 25 u (.sl [k.aG] .exact)=some (w',hp')/\aF hp' 1 (.rp hb.length m (r.length*13+12)) w'=some yI/\m=(g_ ((⟨g.h,g.ks++[k]⟩,w')::r)++fV).length/\Kj hb l i' ((⟨g.h,g.ks++[k]⟩,w')::r) fV yI:=by
 have hA:(g_ r).length=r.length*13:=Jv hok.2.2;have hn:g.ks.length<1000000000:=by simp only[rN] at xl;omega
 obtain⟨id,hp',h1,h2,h3,h4,h5⟩:=avJ k hk.1 hn;have va:hp'[hb.length]?=some (.cells (g_ ((g,u)::r)++fV) true):=h3 hb.length _ (λe=>by subst e;exact h5 _ _ eo) eo;have hk':=asR hk h2 h3 h4;have hc:g_ ((g,u)::r)++fV=g_ r++(g.h.cells++[u])++fV:=rfl;have Sb:∀x,(g_ r++(g.h.cells++[x])++fV).length=r.length*13+13+fV.length:=λx=>agG hok.1 hA;refine⟨.sl (dh (g.ks++[k])) (.tok id),hp',hp'.set hb.length (.cells (g_ r++(g.h.cells++[.sl (dh (g.ks++[k])) (.tok id)])++fV) true),h1,?_,?_,⟨?_,Zp (amB hbc aox h3 h5),?_,?_,aBI,aCi,⟨hok.1,λt ht=>?_,hok.2.2⟩,?_,?_,jk⟩⟩;rw[hc] at va hm;show(match hp'[hb.length]? with
  |some (.cells cs true)=>if m=cs.length then dJ hp' hb.length true cs 1 (r.length*13+12) (.sl (dh (g.ks++[k])) (.tok id)) else none
  |_=>none)=_
 rw[va];dsimp only;rw[if_pos hm];unfold dJ;rw[if_pos ⟨rfl,by rw[Sb];omega,rfl⟩];congr 4;exact awF hok.1 hA _;rw[hm,hc,Sb];show _=(g_ r++(g.h.cells++[_])++fV).length;rw[Sb];rw[aR (gl va)];rfl;exact aep va hk';exact jj
 rcases dZ.1 ht with ht|ht
 exact hok.2.1 t ht;rw[cr.1 ht];exact hw;simp only[eD,sS,FL,sizes] at hsz⊢;simp only[dm];omega;simp only[eD,rN,cB,nq] at xl⊢;omega
def PF(t:T):dA 1 [t.aG]=some (.sl [t.aG] .exact):=by
 obtain⟨cs,e⟩:=t.KQ;rw[e];rfl
def amH(ho:t.cA):cm Bh [(0,12,t.aG)]=some (t.cells++[.af]):=by
 obtain⟨c0,c1,c2,c3,c4,c5,fM,gL,gq,c9,ig,ij,e⟩:=JJ ho;simp only[l5,e];rfl
def afN(ho:t.cA):bV 13 [.agg (t.cells++[.af])]=true:=by
 have h1:(t.cells++[U.af]).length=13:=by rw[cB,rO ho];rfl
 have h2:(t.cells++[U.af]).all bn=true:=by
  rw[c_];intro c hc;simp only[de.cells,jW,ek,dZ,cO,oz,or_false] at hc
  rcases hc with rfl|rfl|rfl|rfl|⟨x,_,rfl⟩|rfl<;>rfl
 simp only[bV,lD,oy,Bool.and_true,gm,h1,h2];rfl
def aj4(ho:t.cA):dA 13 [.agg (t.cells++[.af])]=some (.sl [.agg (t.cells++[.af])] .exact):=by
 have:=afN ho;unfold dA;rw[if_pos ⟨this,aBI⟩]
def avI(hm:m=(g_ st++fV).length)(eo:hp[K]?=some (.cells (g_ st++fV) true))(hA:(g_ st).length=st.length*13)(ho:t.cA)(hl:st.length<=41):
  mb hp 13 72 76 (.rs K m 13 0 st.length) (.sl [.agg (t.cells++[.af])] .exact)=some (.rs K (g_ ((⟨t,[]⟩,.af)::st)++fV.drop 13).length 13 0 (st.length+1),hp.set K (.cells (g_ ((⟨t,[]⟩,.af)::st)++fV.drop 13) true)):=by
 have h1:=afN ho;have hr:j_ (g_ st++fV) (st.length*13) (flat [.agg (t.cells++[.af])])=g_ ((⟨t,[]⟩,.af)::st)++fV.drop 13:=by
  have hf:flat [.agg (t.cells++[.af])]=t.cells++[.af]:=aEA
  have api:(t.cells++[U.af]).length=13:=by rw[cB,rO ho];rfl
  unfold j_;rw[hf,Ve hA,api,<-vZ,Qu hA];rfl
 have h2:(st.length+(0+1))*72<=140737488355328:=aBH
 have h3:¬([bT (t.cells++[.af])]=([]:List U)):=aBI
 show e9 hp 13 72 76 (.rs K m 13 0 st.length) (.sl [.agg (t.cells++[.af])] .exact)=_;simp only[e9,contents,ga,h1,h3,if_false,and_self,x9,if_true,true_and,eo,dm,fQ];rw[if_pos h2,if_pos hm,hr]
def ak3(hI:Kj hb l i st fV hp)(ho:t.cA)(hl:st.length<=40)(jj:jg l.length (l.drop (i+1)) (⟨t,[]⟩::st.map (·.1))=jg l.length l [⟨rJ,[]⟩])(hi:i<l.length):
  Kj hb l (i+1) ((⟨t,[]⟩,.af)::st) (fV.drop 13) (hp.set hb.length (.cells (g_ ((⟨t,[]⟩,.af)::st)++fV.drop 13) true)):=by
 refine⟨?_,Zp hI.base,?_,jj,aBI,aBK,⟨ho,λk hk=>(by cases hk),hI.ok⟩,?_,?_,hi⟩;rw[aR (gl hI.eo)];exact aep hI.eo ⟨ay ⟨rfl,rfl⟩,λit hit id xs ys e=>aBX,hI.ks⟩;have:=hI.size;simp only[eD,sS,sizes,dm];omega;have:=hI.kids;simp only[eD,rN,fQ];omega
def agM{k:Nat}(h:j<=len)(hp:List aa):p0 n (.rs k m n 0 len) none (some (.v (.int .i64 (j:Int)))) none hp=some (.rs k m n 0 j,hp):=by
 have e:kz len len none (some (j:Int)) none=some (0,j,len):=by
  simp[kz,iG,h]
 show DN (λr=>(r,hp)) (kM n (.rs k m n 0 len) none (some (.v (.int .i64 (j:Int)))) none)=_;simp[kM,mA,e]
def UD{k:Nat}(h:j<len):bu n (.rs k m n 0 len) (.v (.int .i64 (j:Int)))=some (.rp k m (j*n)):=by
 show(if 0<=(j:Int)/\(j:Int)<(len:Int) then some (U.rp k m (0+(j:Int).toNat*n)) else none)=_;rw[if_pos ⟨aBH,aBH⟩];simp
def agN{k o:Nat}(hp:List aa):bO (.rs k m n o len) hp=some (.v (.int .i64 (len:Int)),hp):=rfl
def Dj(k m o:Nat):uZ (.rp k m o)=some (.rp k m o):=rfl
def y6(off k m o:Nat):je off (.rp k m o)=some (.rp k m (o+off)):=rfl
section
variable{A B:List U}{h:de}{w:U}{n m K:Nat}{hp:List aa}
def agK(eo:hp[K]?=some (.cells (A++(h.cells++[w])++B) true))(hm:m=(A++(h.cells++[w])++B).length)(ho:h.cA)(hA:A.length=n*13):aq hp true 12 (.rp K m (n*13))=some h.aG:=by
 simp only[aq,eo];rw[if_pos hm,awD ho hA]
def Jy(eo:hp[K]?=some (.cells (A++(h.cells++[w])++B) true))(hm:m=(A++(h.cells++[w])++B).length)(ho:h.cA)(hA:A.length=n*13):aq hp false 1 (.rp K m (n*13+12))=some w:=by
 simp only[aq,eo];rw[if_pos hm,awE ho hA]
end
def QL(k:IntKind):∀(a b:List Int),a.length=b.length->dN (dL a.length .i) (a.map λx=>bP (.int k x)) (b.map λx=>bP (.int k x))=some (decide (a=b))
 |[],[],_=>rfl
 |[],_::_,h=>aB1
 |_::_,[],h=>aB1
 |x::a,y::b,h=>by
  have ih:=QL k a b aCn;simp only[dm,ajk,eD,dN,lQ,if_true,ih];congr 1;by_cases hx:x=y;subst hx;simp;simp[hx]
def Za(ht:t.cA)(hu:u.cA):q6 [.i,.i,.i,.i,.i,.i,.i,.i] false (.agg (u.marks.map ep)) (.agg (t.marks.map ep))=some (.v (.bool (decide (u.marks=t.marks)))):=by
 have h:=QL .u16 u.marks t.marks (by rw[hu.len,ht.len]);rw[hu.len] at h;show(dN [.i,.i,.i,.i,.i,.i,.i,.i] (u.marks.map ep) (t.marks.map ep)).map (λr=>bP (.bool (false !=r)))=_;have e:dN [.i,.i,.i,.i,.i,.i,.i,.i] (u.marks.map ep) (t.marks.map ep)=some (decide (u.marks=t.marks)):=h;rw[e];simp
def z12:List U:=Bh.take 12
def akl(ho:u.cA)(hp:List aa):aF (hp++[.cells z12 false]) 12 (.mp hp.length 0) u.aG=some (hp++[.cells u.cells false]):=by
 have h1:(hp++[aj z12 false])[hp.length]?=some (.cells z12 false):=aBI
 have h2:u.aG.cells.all bn=true:=by
  show u.cells.all bn=true;rw[c_];intro c hc;simp only[de.cells,ek,cO] at hc
  rcases hc with rfl|rfl|rfl|rfl|⟨x,_,rfl⟩<;>rfl
 simp only[aF,h1,dJ];rw[if_pos ⟨rO ho,by show 0+12<=12;omega,h2⟩];have:putAt z12 0 u.aG.cells=u.cells:=by
  show z12.take 0++u.cells++z12.drop (0+u.cells.length)=u.cells;rw[rO ho];show []++u.cells++[]=u.cells;simp
 rw[this];simp
def atU(u:de)(hp:List aa):aq (hp++[.cells u.cells false]) false 1 (.mp hp.length 3)=some (.v (.int .i32 u.rune)):=by
 have h1:(hp++[aj u.cells false])[hp.length]?=some (.cells u.cells false):=aBI
 simp only[aq,h1];rfl
def avK{xs:List Int}{x:Int}(h:hp[id]?=some (.tok xs.length 1 21))(hn:xs.length<=1000000):
  cG hp 1 4 21 (.sl (xs.map oc) (.tok id)) (.sl [.v (.int .i32 x)] .exact)=some (.sl ((xs++[x]).map oc) (.tok id),hp.set id (.tok (xs.length+1) 1 21)):=by
 have h1:bV 1 [bP (.int .i32 x)]=true:=rfl;have h2:bV 1 (xs.map oc)=true:=by
  rw[bV,c_];intro y hy;obtain⟨a,_,rfl⟩:=cO.1 hy;rfl
 have hne:¬([bP (.int .i32 x)]=([]:List U)):=aBI
 have h3:(xs.length+(0+1))*4<=140737488355328:=aBH
 simp only[cG,e9,contents,ga,h1,h2,hne,if_false,if_true,h,b_,dm,fQ,true_and,and_self,x9,eX,eD,kX];rw[if_pos h3];rfl
def aii(p:α->Bool):∀(l:List α) x,x∈l.takeWhile p->p x=true
 |[],x,h=>aBR
 |a::l,x,h=>by
  rw[azS] at h;split at h;rename_i ha
  rcases ek.1 h with rfl|h
  exact ha;exact aii p l x h;cases h
def aij(p:α->Bool):∀(l:List α) u,l[(l.takeWhile p).length]?=some u->p u=false
 |[],u,h=>aBR
 |a::l,u,h=>by
  rw[azS] at h;split at h;exact aij p l u aCn;rename_i ha;simp at h;subst h;simpa using ha
def awJ(h:(l.drop (i+1)).takeWhile (oI t)=p):
  (∀k,k<p.length->∃u,l[i+k+1]?=some u/\oI t u=true)/\(∀u,l[i+p.length+1]?=some u->oI t u=false)/\(∀k u,p[k]?=some u->l[i+k+1]?=some u):=by
 have key:∀(k:Nat),k<p.length->(l.drop (i+1))[k]?=p[k]? :=λk hk=>by
  have e:l.drop (i+1)=p++(l.drop (i+1)).dropWhile (oI t):=by rw[<-h,List.takeWhile_append_dropWhile]
  rw[e,ei hk]
 have aei:∀(k:Nat) u,p[k]?=some u->l[i+k+1]?=some u:=λk u hu=>by
  have hk:=gl hu;have:=key k hk;rw[qd,hu] at this;rw[<-this];congr 1;omega
 refine⟨λk hk=>?_,λu hu=>?_,aei⟩;have hu:p[k]?=some p[k]:=br hk;refine⟨p[k],aei k _ hu,?_⟩;have hm:p[k]∈(l.drop (i+1)).takeWhile (oI t):=by rw[h];exact Wb hk
 exact aii _ _ _ hm;refine aij (oI t) (l.drop (i+1)) u ?_;rw[h,qd,<-hu];congr 1;omega
def awO(h:(l.drop (i+1)).takeWhile (oI t)=p)(hi:i<l.length):i+p.length<l.length:=by
 have h1:p.length<=(l.drop (i+1)).length:=by rw[<-h];exact(List.takeWhile_sublist _).length_le
 rw[v_] at h1;omega
def aur(hp:List aa)(hn:n<=1000000):BM hp 1 4 21 [.v (.int .i32 0)] (.v (.int .i64 0)) (.v (.int .i64 (n:Int)))=some (.sl [] (.tok hp.length),hp++[.tok 0 1 21]):=by
 show(if(0:Int)=0/\0<=(n:Int)/\(n:Int)*(4:Nat)<=140737488355328/\(n:Int)<=9223372036854775807/\[bP (.int .i32 0)].length=1/\1≠0 then _ else none)=_;rw[if_pos ⟨rfl,aBH,aBH,aBH,rfl,aBJ⟩]
def aw_(hv:bL v (l.map l5))(ht:l[i]?=some t)(h:∀k u,p[k]?=some u->l[i+k+1]?=some u)(hl:i+p.length<l.length)(ho:∀t∈l,t.cA)(hp:List aa):
  p0 12 v (some (.v (.int .i64 (i:Int)))) (some (.v (.int .i64 ((i+p.length+1:Nat):Int)))) none hp=some (.sl ((t::p).map l5) .no,hp):=by
 rcases hv with rfl|⟨_,hn⟩
 have hb:kz (l.map l5).length (l.map l5).length (some (i:Int)) (some ((i+p.length+1:Nat):Int)) none=some (i,i+p.length+1,(l.map l5).length):=by
  rw[b_];simp only[kz,iG,ya,zj,iA,if_false];rw[if_pos ⟨aBH,aBH⟩];dsimp only;rw[if_pos ⟨aBH,aBH⟩];simp;omega
 have hall:((l.map l5).all λx=>x.cells.length==12)=true:=by
  rw[c_];intro x hx;obtain⟨u,hu,rfl⟩:=cO.1 hx;have:=rO (ho u hu);simpa[l5,gm] using this
 have apU:((l.map l5).take (i+p.length+1)).drop i=(t::p).map l5:=by
  apply Bu;intro k;rw[qd]
  rcases cE k (p.length+1) with q|q
  rw[zp aBH];cases k with
  |zero=>simp[ht]
  |succ k=>
   have hk:p[k]?=some p[k]:=br aBH;have:=h k _ hk;simp only[eC,eD,v8,hk];rw[show i+(k+1)=i+k+1 by omega,this]
  rw[hG (by rw[zu];omega),hG aBK]
 show DN (λr=>(r,hp)) (kM 12 (.sl (l.map l5) .no) (some (.v (.int .i64 (i:Int)))) (some (.v (.int .i64 ((i+p.length+1:Nat):Int)))) none)=_;have oL:∀n:Int,mA (some (.v (.int .i64 n)))=some (some n):=λn=>rfl;have oM:mA none=some none:=rfl;unfold kM;rw[oL,oL,oM];dsimp only;rw[hb];dsimp only;rw[if_pos hall,apU];have Cw:A_ .no (l.map l5).length i (i+p.length+1) (l.map l5).length (Option.isSome (none:Option Int))=.no:=by
  unfold A_;rw[if_neg aBI];split;split<;>rfl;rfl
 rw[Cw];rfl;have:=congrArg zq hn;simp at this;subst this;simp at hl
def uQ.seg(hv:uQ hb v l)(ht:l[i]?=some t)(h:∀k u,p[k]?=some u->l[i+k+1]?=some u)(hl:i+p.length<l.length)(ho:∀t∈l,t.cA):
  ∃v',(∀hp,p0 12 v (some (.v (.int .i64 (i:Int)))) (some (.v (.int .i64 ((i+p.length+1:Nat):Int)))) none hp=some (v',hp))/\uQ hb v' (t::p):=by
 rcases hv with hv|⟨k,cs,off,rfl,hk,hc⟩
 exact⟨_,λhp=>aw_ hv ht h hl ho hp,ay (ay rfl)⟩;have hb':kz l.length l.length (some (i:Int)) (some ((i+p.length+1:Nat):Int)) none=some (i,i+p.length+1,l.length):=by
  simp only[kz,iG,ya,zj,iA,if_false];rw[if_pos ⟨aBH,aBH⟩];dsimp only;rw[if_pos ⟨aBH,aBH⟩];simp;omega
 have hall:∀(j:Nat) u,(t::p)[j]?=some u->l[i+j]?=some u:=λj u hu=>by
  cases j with
  |zero=>cases hu;exact ht
  |succ j=>exact h j u hu
 refine⟨.rs k cs.length 12 (off+i*12) (t::p).length,λhp=>?_,ax ⟨k,cs,off+i*12,rfl,hk,λj u hu=>?_⟩⟩;show DN (λr=>(r,hp)) (kM 12 (.rs k cs.length 12 off l.length) (some (.v (.int .i64 (i:Int)))) (some (.v (.int .i64 ((i+p.length+1:Nat):Int)))) none)=_;have oL:∀n:Int,mA (some (.v (.int .i64 n)))=some (some n):=λn=>rfl;have oM:mA none=some none:=rfl;unfold kM;rw[oL,oL,oM];dsimp only;rw[if_pos ⟨rfl,rfl⟩,hb'];dsimp only;by_cases R3:i=0;subst R3;rw[if_pos rfl];simp;rw[if_neg R3,if_pos aBH];simp;omega;have:=hc (i+j) u (hall j u hu);rw[show off+i*12+j*12=off+(i+j)*12 by omega];exact this
end
section
variable{p:bJ}
def alq(h:p.tail=.no):dn p.kv:=by
 unfold bJ.kv;split;exact mg;rw[h];exact jZ λx hx c hc=>by
  obtain⟨y,_,rfl⟩:=cO.1 hx;rw[cr.1 (show c∈[ag y] from hc)];exact bM _
def Yv(h:p.tail=.no):∀c∈p.cells,dn c:=λc hc=>by
 simp only[nR,ek,oz,or_false] at hc
 rcases hc with rfl|rfl|rfl|rfl|rfl
 exact bM _;exact bM _;exact bM _;exact bM _;exact alq h
def alv(h:p.tail=.no):dn p.aG:=Eg (Yv h)
def BS{v}{ps}(h:qk v ps):dn v:=by
 rcases h.v with rfl|⟨rfl,_⟩
 exact jZ λx hx c hc=>by
  obtain⟨p,hp,rfl⟩:=cO.1 hx;exact Yv (h.no p hp) c hc
 exact mg
def r4(hp:List aa)(v:U)(st:List Int):Prop:=(v=.af/\st=[])\/∃k cs,v=.rs k cs.length 1 0 st.length/\hp[k]?=some (.cells cs true)/\st.length<=cs.length/\∀(i:Nat) x,st[i]?=some x->cs[i]?=some (ag x)
def r4.app{hp l}{v}{st}(h:r4 hp v st):r4 (hp++l) v st:=by
 rcases h with h|⟨k,cs,h1,h2,h3,h4⟩
 exact ay h;exact ax ⟨k,cs,h1,aM h2,h3,h4⟩
@[go_sem]def r4.len{hp}{v}{st}(h:r4 hp v st):∀hp,bO v hp=some (.v (.int .i64 (st.length:Int)),hp):=λhp=>by
 rcases h with⟨rfl,rfl⟩|⟨k,cs,rfl,_⟩<;>rfl
def r4.lo{hp}{v}{st}{n}(h:r4 hp v st)(hn:n<=st.length):∃u,p0 1 v (some (.v (.int .i64 (n)))) none none hp=some (u,hp)/\td hp u (st.drop n):=by
 rcases h with⟨rfl,rfl⟩|⟨k,cs,rfl,hk,hle,hc⟩
 obtain rfl:n=0:=aDP
 exact⟨.af,rfl,ay ⟨rfl,rfl⟩⟩;have hb:kz st.length st.length (some (n)) none none=some (n,st.length,st.length):=by
  simp only[kz,iG,ya,zj,iA,if_false];rw[if_pos ⟨aBH,aBH⟩];simp
 have e:p0 1 (.rs k cs.length 1 0 st.length) (some (.v (.int .i64 (n)))) none none hp=some (if n=0 then .rs k cs.length 1 0 st.length else if n<st.length then .rs k cs.length 1 (0+n*1) (st.length-n) else .sl [] .no,hp):=by
  show DN (λr=>(r,hp)) (kM 1 (.rs k cs.length 1 0 st.length) (some (.v (.int .i64 (n)))) none none)=_;have oL:∀n:Int,mA (some (.v (.int .i64 n)))=some (some n):=λn=>rfl;have oM:mA none=some none:=rfl;unfold kM;rw[oL,oM];dsimp only;rw[if_pos ⟨rfl,rfl⟩,hb];dsimp only;split;rfl;split<;>rfl
 refine⟨_,e,?_⟩;split;rename_i z;subst z;exact ax (ax ⟨k,cs,0,rfl,hk,λi x hx=>by rw[e5];exact hc i x hx⟩);split;refine ax (ax ⟨k,cs,n,aBI,hk,λi x hx=>?_⟩);rw[qd] at hx;exact hc _ x hx;have:st.drop n=[]:=sY aBH;rw[this];exact ax (ay ⟨.no,rfl⟩)
def r4.push{hp}{v}{st}{n}(h:r4 hp v st)(hn:n<=st.length)(hs:st.length<=100000)(x):∃u u' hp',p0 1 v none (some (.v (.int .i64 (n)))) none hp=some (u,hp)/\mb hp 1 8 3 u (.sl [.v (.int .i64 x)] .exact)=some (u',hp')/\r4 hp' u' (st.take n++[x]):=by
 rcases h with⟨rfl,rfl⟩|⟨k,cs,rfl,hk,hle,hc⟩
 obtain rfl:n=0:=aDP
 refine⟨.af,.rs hp.length 1 1 0 1,hp++[.cells [ag x] true],rfl,rfl,ax ⟨hp.length,[ag x],rfl,aBI,aBI,λi y hy=>?_⟩⟩
 rcases i with _|i
 simp at hy;subst hy;rfl;simp at hy;have hl:=gl hk;refine⟨.rs k cs.length 1 0 n,.rs k (j_ cs n [ag x]).length 1 0 (n+1),hp.set k (.cells (j_ cs n [ag x]) true),agM hn hp,?_,ax ⟨k,j_ cs n [ag x],?_,aR hl,?_,λi y hy=>?_⟩⟩;show e9 hp 1 8 3 (.rs k cs.length 1 0 n) (.sl [.v (.int .i64 x)] .exact)=_;have h1:bV 1 [bP (.int .i64 x)]=true:=rfl;have h3:¬([bP (.int .i64 x)]=([]:List U)):=aBI
 have hf:flat [bP (.int .i64 x)]=[ag x]:=rfl;simp only[e9,contents,ga,h1,h3,if_false,and_self,x9,if_true,true_and,hk,dm,fQ,hf,Nat.mul_one];rw[if_pos aBH];simp[Gd hn];simp[j_,Gd hn];omega;unfold j_
 rcases Nat.lt_trichotomy i n with z|z|z
 rw[cq,ei aBK,zp z];rw[ei aBK,zp z] at hy;exact hc i y hy;subst z;rw[cq,er aBK];rw[er aBK] at hy;have e1:i-(cs.take i).length=0:=aBK
 have e2:i-(st.take i).length=0:=aBK
 rw[e2] at hy;rw[e1];simp at hy⊢;rw[hy];rw[hG aBK] at hy;cases hy
def nO(ps:List bJ):Nat->List Int->Prop
 |0,st=>st=[]
 |i+1,st=>∃p ot,ps[i]?=some p/\nO ps i (ot++p.kids)/\st=ot++[(i:Int)]
def ahN{ps}:∀{i} {st},nO ps i st->st.length<=i
 |0,st,h=>by rw[show st=[] from h];exact bl _
 |i+1,st,⟨p,ot,_,h1,h2⟩=>by
  have:=ahN h1;rw[h2];simp at this⊢;omega
def WQ(ps:List bJ)(r:U):Prop:=∃b:Bool,r=b/\(b=true->ps=[]\/∃x,nO ps ps.length [x])
@[go_sem]def vK(hp)(p:bJ):aF (hp++[.cells [(0:Int),(0:Int),(0:Int),.v (.string ⟨#[]⟩),.af] false]) 5 (.mp hp.length 0) (.agg p.cells)=some (hp++[.cells p.cells false]):=by
 have h1:(bT p.cells).cells.length=5:=rfl;have h2:(bT p.cells).cells.all bn=true:=by
  have:=Fh p;simp only[bV,lD,oy,Bool.and_true,dY] at this;exact this.2
 simp only[aF,er (bl _),kj,l6,dJ];rw[if_pos ⟨h1,aBI,h2⟩];simp[putAt,gm,nR]
def agz{G}(bz:eE G){v}{ps}(h:qk v ps):cx G az 107 [v] (WQ ps):=by
 refine cR (acK.go ?_);have ln:=h.v.bO;rw[b_] at ln;have hlen:=h.len;have fin:∀(hp) (b),(b=true->ps=[]\/∃x,nO ps ps.length [x])->∃n aQ,b9 hp n b=some aQ/\WQ ps aQ:=λhp b hb=>by
  obtain⟨n,hn⟩:=(aB (.bool b):aX hp _ _).done;exact⟨n,_,hn,b,rfl,hb⟩
 refine wy ?_;refine cj (λi e hp=>∃st ak,e=[(0,v),(3,ak),(7,v),(8,ag ps.length),(9,ag i)]/\nO ps i st/\r4 hp ak st) ps.length ⟨[],.af,rfl,rfl,ay ⟨rfl,rfl⟩⟩ ?_ ?_;rintro i e hp hi ⟨st,ak,rfl,hs,ho⟩;obtain⟨p,cW⟩:=cD hi;have jl:=h.ok i p cW;have m_:=h.no p (bG cW);have tW:=ahN hs;have e1:bu 5 v (.v (.int .i64 (i)))=some (.fp p.cells 0):=h.v.bK (x:=p.aG) aDz rfl;have hx:r4 (hp++[.cells p.cells false]) ak st:=ho.app;have s1:=vK hp p;have as4:aq (hp++[.cells p.cells false]) true 5 (.mp hp.length 0)=some (.agg p.cells):=by
  simp only[aq,er (bl _),kj,l6];rfl
 have l4:aq (hp++[.cells p.cells false]) false 1 (.mp hp.length 4)=some p.kv:=by
  simp only[aq,er (bl _),kj,l6];rfl
 have iq:=jl.kids;generalize hp++[.cells p.cells false]=g at hx s1 as4 l4;have w1:b7.wrap ((st.length:Int)-(p.kids.length:Int))=(st.length:Int)-(p.kids.length:Int):=wrap_i64 aBH aBH;refine lC (gf (akn bz jl m_) (aP (alv m_) bS) ?_);rintro r ⟨b,rfl⟩;refine wy ?_;cases b with
 |false=>
  exact wy (fin _ false λq=>aBT)
 |true=>
  refine wy ?_;refine b8 (λq=>?_) λq=>?_;exact fin _ false λq=>aBT
  have hle:p.kids.length<=st.length:=aBQ
  have k9:(st.length:Int)-(p.kids.length:Int)=((st.length-p.kids.length:Nat):Int):=aBH
  obtain⟨u,c1,c2⟩:=hx.lo (n:=st.length-p.kids.length) aBH;have kv:td g p.kv p.kids:=by
   unfold bJ.kv;split;rename_i z;exact ay ⟨rfl,z⟩;exact ax (ay ⟨_,rfl⟩)
  rw[k9] at q⊢;refine wy (aZ (amw c2 kv aBK aBH) ?_);rintro _ g2 ⟨⟨b2,rfl,gD⟩,hh⟩;rw[hh];clear hh;refine wy ?_;cases b2 with
  |false=>
   exact wy (fin _ false λq=>aBT)
  |true=>
   have hd:=gD rfl;obtain⟨u1,u2,g3,d1,d2,d3⟩:=hx.push (n:=st.length-p.kids.length) aBH aBH (i);refine wy ?_;refine⟨_,_,rfl,⟨p,st.take (st.length-p.kids.length),cW,?_,rfl⟩,d3⟩;have z:st.take (st.length-p.kids.length)++p.kids=st:=(congrArg (λy=>st.take (st.length-p.kids.length)++y) hd.symm).trans (Wg _ _);rw[z];exact hs
 rintro e hp ⟨st,ak,rfl,hs,ho⟩;refine lC ?_;refine b8 (λq=>?_) λq=>?_;obtain⟨x,rfl⟩:∃x,st=[x]:=Bv.1 aBQ;exact fin _ true λ_=>ax ⟨x,hs⟩;refine wy (fin _ _ λz=>ay ?_);have:(ps.length:Int)=0:=eq_of_beq z;exact List.length_eq_zero_iff.1 aBH
end
section
variable{l:List (List UInt8)}
@[go_sem]def vv(l:List (List UInt8)):bV 1 (l.map ai)=true:=by
 rw[bV,c_];intro x hx;obtain⟨t,ht,rfl⟩:=cO.1 hx;rfl
def zZ:∀x∈l.map ai,∀c∈x.cells,dn c:=λx hx c hc=>by
 obtain⟨s,_,rfl⟩:=cO.1 hx;rw[cr.1 (show c∈[ai s] from hc)];exact bM _
def n6{v}(h:bL v (l.map ai)):dn v:=by
 rcases h with rfl|⟨rfl,_⟩
 exact jZ zZ;exact mg
def zN{hp}{v}{xs}{n}{e}(h:bX hp v xs n e)(hc:∀x∈xs,∀c∈x.cells,dn c):∃v',bL v' xs/\lI v v'/\dn v':=by
 rcases h with⟨rfl,rfl⟩|⟨id,rfl,_⟩
 exact⟨.af,ax ⟨rfl,rfl⟩,mg,mg⟩;exact⟨.sl xs .no,ay rfl,jZ hc,jZ hc⟩
def aj8{G}{k}{hp}{ak}(hk:hp[k]?=some (.cells [ak] false))(hA:bX hp ak (l.map ai) 1 9)(hl:l.length<=100000)(s):
  aE G az 101 [ai s,.mp k 0] hp λr hp'=>∃bD,hp'[k]?=some (.cells [bD] false)/\bX hp' bD ((if l.any (s== ·) then l else l++[s]).map ai) 1 9:=by
 refine acF.go ?_;obtain⟨v',h1,h2,h3⟩:=zN hA zZ;refine wy ?_;refine aE.pu (G1 h1 h3 aBH s) ?_;refine wy (bA (λq=>?_) λq=>?_);have q':(l.any (s== ·))=false:=aBN
 obtain⟨bg,g2,e2,dO,hne,hle,hk2⟩:=kL (x:=ai s) (aY:=16) hA (vv l) rfl aBJ aBJ aBK;have kb:g2[k]?=some (.cells [ak] false):=hk2 _ _ hk λxs z=>by
  rcases hA with⟨q1,_⟩|⟨id,q1,ah⟩
  rw[q1] at z;cases z;rw[q1] at z;cases z;rw[hk] at ah;cases ah
 have ho:bn bg=true:=aDl
 have s1:=ou ho kb;have ab:dA 1 [ai s]=some (.sl [ai s] .exact):=rfl;refine nP @q (c6 hk) @ab @e2 @s1 ?_;refine⟨bg,aR (gl kb),?_⟩;rw[if_neg (by rw[q'];decide),eX]
 rcases dO with z|⟨id,bh,z2⟩
 exact ay z;refine ax ⟨id,bh,?_⟩;rw[av];exact z2;rintro rfl;rw[kb] at z2;cases z2;have q':(l.any (s== ·))=true:=aBN
 refine di @q ?_;refine⟨ak,hk,?_⟩;rw[if_pos q'];exact hA
def ajI(ps:List bJ)(r:U):Prop:=∃l:List (List UInt8),bL r (l.map ai)/\l.length<=ps.length/\∀s∈l,pV s=true
def afh{G}{v}{ps}(h:qk v ps):cx G az 53 [v] (ajI ps):=by
 refine cR (ab9.go ?_);have ln:=h.v.bO;rw[b_] at ln;have hlen:=h.len;refine wy ?_;refine cj (λi e hp=>∃l ak,e=[(3,.mp 0 0),(4,.fn (.func 101) [] [.mp 0 0]),(8,v),(9,ag ps.length),(10,ag i)]/\l.length<=i/\(∀s∈l,pV s=true)/\hp[0]?=some (.cells [ak] false)/\bX hp ak (l.map ai) 1 9) ps.length ⟨[],.af,rfl,bl _,aBI,rfl,ay ⟨rfl,rfl⟩⟩ ?_ ?_;rintro i e hp hi ⟨l,ak,rfl,hl,hn,h0,hA⟩;obtain⟨p,cW⟩:=cD hi;have jl:=h.ok i p cW;have e1:bu 5 v (i:Int)=some (.fp p.cells 0):=h.v.bK (x:=p.aG) aDz rfl;have e2:∀hp,aq hp true 5 (.fp p.cells 0)=some (.agg p.cells):=λhp=>rfl;have s1:=vK hp p;have l0:aq (hp++[.cells p.cells false]) false 1 (.mp hp.length 0)=some (.v (.int .i64 p.kind)):=by
  simp only[aq,er (bl _),kj,l6];rfl
 have l3:aq (hp++[.cells p.cells false]) false 1 (.mp hp.length 3)=some (ai p.name):=by
  simp only[aq,er (bl _),kj,l6];rfl
 have h0':(hp++[aj p.cells false])[0]?=some (.cells [ak] false):=aM h0;have sy:bX (hp++[aj p.cells false]) ak (l.map ai) 1 9:=by
  rcases hA with z|⟨id,bh,z2⟩
  exact ay z;exact ax ⟨id,bh,aM z2⟩
 refine wy (bA (λq=>?_) λq=>?_);refine wy (aZ (aj8 h0' sy aBH p.name) ?_);rintro r g2 ⟨bD,k1,k2⟩;have hnm:pV p.name=true:=by
  have q':p.kind=1:=aBN
  rcases jl.1 with z|z|z
  exact z.2.2.2.1;omega;omega
 refine dP ?_;refine⟨_,bD,rfl,?_,?_,k1,k2⟩;split;omega;simp;omega;intro s hs;split at hs;exact hn s hs
 rcases dZ.1 hs with z|z
 exact hn s z;rw[cr.1 z];exact hnm;refine di @q ?_;exact⟨l,ak,rfl,aBH,hn,h0',sy⟩;rintro e hp ⟨l,ak,rfl,hl,hn,h0,hA⟩;refine wy ?_
 rcases hA with⟨rfl,z⟩|⟨id,rfl,_⟩
 obtain⟨n,hn'⟩:=(cS:aX hp _ _).done;exact⟨n,_,hn',l,ax ⟨rfl,z⟩,hl,hn⟩;obtain⟨n,hn'⟩:=(fj (gh λa _=>aB _):aX hp _ _).done;exact⟨n,_,hn',l,ay rfl,hl,hn⟩
end
section
variable{i:Nat}
def uA(ps:List bJ):Nat->Int->Nat
 |0,_=>0
 |f+1,i=>match ps[i.toNat]? with
  |none=>0
  |some p=>3+(p.kids.map λk=>uA ps f k+1).sum
def ayf{ps}(h:oB ps):∀(n f g) (i),i.toNat<n->i.toNat<f->i.toNat<g->uA ps f i=uA ps g i:=by
 intro n
 induction n with
 |zero=>intro f g i h0;omega
 |succ n ih=>
  intro f g i h0 h1 h2;obtain⟨f,rfl⟩:∃f',f=f'+1:=⟨f-1,aBH⟩;obtain⟨g,rfl⟩:∃g',g=g'+1:=⟨g-1,aBH⟩;unfold uA;cases hp:ps[i.toNat]? with
  |none=>rfl
  |some p=>
   dsimp only;congr 2;refine zv λk hk=>?_;have:=(h _ p hp).2 k hk;rw[ih f g k aBH aBH aBH]
def sz(ps:List bJ)(i:Int):Nat:=uA ps (i.toNat+1) i
def ahY{ps}(h:oB ps){p}(hp:ps[i]?=some p):sz ps (i)=3+(p.kids.map λk=>sz ps k+1).sum:=by
 show uA ps (i+1) (i)=_;unfold uA;rw[uG,hp];dsimp only;congr 2;refine zv λk hk=>?_;have:=(h _ p hp).2 k hk;rw[ayf h (i+1) i (k.toNat+1) k aBH aBH aBH];rfl
def ahQ{ps}(h:oB ps):∀{i} {st},nO ps i st->(st.map λk=>sz ps k+1).sum<=4*i
 |0,st,hs=>by rw[show st=[] from hs];simp
 |i+1,st,⟨p,ot,hp,h1,h2⟩=>by
  have:=ahQ h h1;rw[h2];simp only[eX,ajo,eD,kX,wh,DL] at this⊢;rw[ahY h hp];omega
structure nr(k:Nat)(v:U)(l:List cg)(out:U)(hp:List aa):Prop where
 b:hp[k]?=some (.cells [v,out] false)
 app:bX hp out (l.map kF) 5 215
 ok:∀x∈l,x.cA
def f_(k:Nat)(hp hp':List aa):Prop:=hp.length<=hp'.length/\∀(j:Nat) cs fz,j≠k->hp[j]?=some (.cells cs fz)->hp'[j]?=some (.cells cs fz)
def f_.refl(k)(hp):f_ k hp hp:=⟨bl _,λ_ _ _ _ h=>h⟩
def f_.trans{k}{a b c}(h:f_ k a b)(q:f_ k b c):f_ k a c:=⟨fk h.1 q.1,λj x f hj e=>q.2 j x f hj (h.2 j x f hj e)⟩
def f_.app{k}{hp l}:f_ k hp (hp++l):=⟨aBI,λ_ _ _ _ h=>aM h⟩
def nr.app'{k}{v out}{l}{hp x}(h:nr k v l out hp):nr k v l out (hp++x):=by
 refine⟨aM h.b,?_,h.ok⟩
 rcases h.app with z|⟨id,bh,z2⟩
 exact ay z;exact ax ⟨id,bh,aM z2⟩
section
variable{G:Cells}{k:Nat}{v out:U}{l:List cg}{hp:List aa}
@[go_sem]def nr.AI(h:nr k v l out hp):aq hp false 1 (.mp k 0)=some v:=aCe
@[go_sem]def nr.fy(h:nr k v l out hp):aq hp false 1 (.mp k 1)=some out:=aCe
def nr.push(h:nr k v l out hp)(x)(hx:x.cA)(hl:l.length<=100000):∃o' g,cG hp 5 48 215 out (.sl [.agg x.cells] .exact)=some (o',g)/\∃g',aF g 1 (.mp k 1) o'=some g'/\nr k v (l++[x]) o' g'/\f_ k hp g':=by
 obtain⟨bg,g2,e2,dO,hne,hle,hk2⟩:=kL (aY:=48) h.app (TS l) (Nn x) aBJ aBJ aBK;have kb:g2[k]?=some (.cells [v,out] false):=hk2 _ _ h.b λxs z=>by
  rcases h.app with⟨q1,_⟩|⟨id,q1,ah⟩
  rw[q1] at z;cases z;rw[q1] at z;cases z;rw[h.b] at ah;cases ah
 have ho:bn bg=true:=aDl
 have cC:bg.cells=[bg]:=aDk
 have s2:aF g2 1 (.mp k 1) bg=some (g2.set k (.cells [v,bg] false)):=by
  simp only[aF,kb,dJ,cC];simp[ho,putAt]
 refine⟨bg,g2,e2,_,s2,⟨aR (gl kb),?_,λy hy=>?_⟩,by simpa using hle,λj cs fz hj q=>?_⟩;rw[eX]
 rcases dO with z|⟨id,bh,z2⟩
 exact ay z;refine ax ⟨id,bh,?_⟩;rw[av];exact z2;rintro rfl;rw[kb] at z2;cases z2
 rcases dZ.1 hy with z|z
 exact h.ok y z;rw[cr.1 z];exact hx;rw[av (dr hj)];exact hk2 _ _ q λxs z=>by
  rcases h.app with⟨q1,_⟩|⟨id,q1,ah⟩
  rw[q1] at z;cases z;rw[q1] at z;cases z;rw[q] at ah;cases ah
@[go_sem]def Xe(x:cg):dA 5 [.agg x.cells]=some (.sl [.agg x.cells] .exact):=PD x
def Gr(k:Nat)(v:U)(l:List cg)(n:Nat)(hp hp':List aa):Prop:=∃l2 o2,nr k v (l++l2) o2 hp'/\l2.length<=n/\f_ k hp hp'
def Pf(G:Cells)(k:Nat)(v:U)(ps:List bJ)(i:Int):Prop:=∀(b:Bool) l out hp,nr k v l out hp->l.length+sz ps i<=100000->aE G az 211 [.mp k 0,i,b] hp λr hp'=>Gr k v l (sz ps i) hp hp'
def CK(p:bJ)(g):td g p.kv p.kids:=by
 unfold bJ.kv;split;rename_i z;exact ay ⟨rfl,z⟩;exact ax (ay ⟨_,rfl⟩)
def vL{f:Int->Nat}{ks:List Int}{j}{x}(hx:ks[j]?=some x):((ks.take (j+1)).map f).sum=((ks.take j).map f).sum+f x:=by
 rw[Gc,hx];simp
def y_(f:Int->Nat)(ks:List Int)(j):((ks.take j).map f).sum<=(ks.map f).sum:=by
 conv=>rhs;rw[<-Wg j ks]
 rw[eX,ajo];omega
def atb{ps}(h:qk v ps){p}(cW:ps[i]?=some p)(ih:∀x∈p.kids,Pf G k v ps x):Pf G k v ps (i):=by
 intro b l out hp hS hn;have jl:=h.ok i p cW;have m_:=h.no p (bG cW);have iq:=jl.kids;have hsz:=ahY h.ok cW;refine adx.go ?_;have avb:cg.cA ⟨2,0,0,0,[]⟩:=⟨nj _,ax (ay ⟨ay rfl,rfl,rfl,rfl⟩)⟩;have axq:cg.cA ⟨3,0,0,0,[]⟩:=⟨nj _,ax (ay ⟨ax (ay rfl),rfl,rfl,rfl⟩)⟩;have avg:cg.cA ⟨4,0,0,0,[]⟩:=⟨nj _,ax (ay ⟨ax (ax rfl),rfl,rfl,rfl⟩)⟩;have Zq:∀c:Int,cm [.v (.int .i64 0),.v (.int .i64 0),.v (.int .i64 0),.v (.int .i64 0),.v (.string ⟨#[]⟩)] [(0,1,.v (.int .i64 c))]=some (fH ⟨c,0,0,0,[]⟩):=λc=>rfl;refine cM (λe g=>e=[(0,.mp k 0),(1,.v (.int .i64 (i))),(2,.v (.bool b))]/\Gr k v l 1 hp g) ?_ ?_;cases b with
 |true=>
  obtain⟨o1,g1,e1,g2,s1,dy,n_⟩:=hS.push _ avb aBH;refine wx ?_;exact⟨trivial,_,o1,dy,aBI,n_⟩
 |false=>
  refine wx ?_;exact⟨trivial,[],out,by rw[e4];exact hS,aBI,f_.refl _ _⟩
 rintro e g ⟨rfl,l1,o1,dy,hl1,n_⟩;refine cM (λe g2=>∃m,e=[(0,.mp k 0),(2,.v (.bool b)),(6,.mp m 0)]/\m≠k/\g2[m]?=some (.cells p.cells false)/\nr k v (l++l1) o1 g2/\f_ k hp g2) ?_ ?_;have e1:bu 5 v (.v (.int .i64 (i)))=some (.fp p.cells 0):=h.v.bK (x:=p.aG) aDz rfl;have s1:=vK g p;refine wx ?_;have:=gl dy.b;exact⟨g.length,rfl,aBH,aBI,dy.app',n_.trans f_.app⟩;rintro e g2 ⟨m,rfl,hmk,hm,eB,pJ⟩;have m0:∀hp',f_ k g2 hp'->hp'[m]?=some (.cells p.cells false):=λhp' hb=>hb.2 _ _ _ hmk hm;have eG:∀hp',hp'[m]?=some (.cells p.cells false)->aq hp' false 1 (.mp m 0)=some (.v (.int .i64 p.kind))/\aq hp' false 1 (.mp m 1)=some (.v (.int .i64 p.low))/\aq hp' false 1 (.mp m 2)=some (.v (.int .i64 p.high))/\aq hp' false 1 (.mp m 3)=some (ai p.name)/\aq hp' false 1 (.mp m 4)=some p.kv:=λhp' q=>by
  simp only[aq,q];exact⟨rfl,rfl,rfl,rfl,rfl⟩
 refine cM (λe g3=>e=[(0,.mp k 0),(2,.v (.bool b))]/\Gr k v l (sz ps (i)-1) hp g3) ?_ ?_;refine wy ?_
 rcases jl.1 with⟨hk,hlo,hhi,hnm,aAR⟩|⟨hk|hk,hlo,hhi,hnm,hk2,_⟩|⟨hk,hnm,eL,h0,h1,h2⟩
 have f1:cm [.v (.int .i64 0),.v (.int .i64 0),.v (.int .i64 0),.v (.int .i64 0),.v (.string ⟨#[]⟩)] [(0,1,.v (.int .i64 1)),(4,1,ai p.name)]=some (fH ⟨1,0,0,0,p.name⟩):=rfl;obtain⟨kD,g4,cC,g5,iL,w8,vc⟩:=eB.push ⟨1,0,0,0,p.name⟩ ⟨nj _,ay ⟨rfl,hnm,rfl,rfl⟩⟩ aBK;refine wx ?_;rw[cq] at w8;exact⟨trivial,_,kD,w8,aBK,pJ.trans vc⟩;have lk:=vn m_ (fk iq aBJ);have kv:∀g,td g p.kv p.kids:=CK p;refine wy ?_;refine cj (λj e g=>e=[(0,.mp k 0),(2,.v (.bool b)),(48,p.kv),(49,ag p.kids.length),(50,ag j)]/\∃l3 iw,nr k v (l++l3) iw g/\l3.length<=1+((p.kids.take j).map λx=>sz ps x+1).sum/\f_ k hp g) p.kids.length ⟨rfl,l1,o1,eB,aBH,pJ⟩ ?_ ?_
 · rintro j e g hj ⟨rfl,l3,iw,mq,mW,qu⟩
   obtain⟨x,hx⟩:=cD hj;have oN:=bG hx;obtain⟨x0,x1⟩:=jl.2 x oN;obtain⟨xn,rfl⟩:=mJ x0;have jk:=gl cW;obtain⟨q,hq⟩:∃q,ps[xn]?=some q:=⟨ps[xn]' aBH,br aBH⟩;have e1:bu 5 v (.v (.int .i64 (xn)))=some (.fp q.cells 0):=h.v.bK (x:=q.aG) aCp rfl;have bQ:∀hp,aq hp false 1 (.fp q.cells 0)=some (.v (.int .i64 q.kind)):=λhp=>rfl;obtain⟨pk,k1,k2⟩:=(kv g).get hx;have uz:=vL (f:=λx=>sz ps x+1) hx;have sl:=y_ (λx=>sz ps x+1) p.kids (j+1);have next:∀(c),aE G az 211 [.mp k 0,.v (.int .i64 (xn)),.v (.bool c)] g λr g'=>Gr k v (l++l3) (sz ps (xn)) g g':=λc=>ih _ oN c (l++l3) iw g mq aBK;have fin:∀g',Gr k v (l++l3) (sz ps (xn)) g g'->∃l3 iw,nr k v (l++l3) iw g'/\l3.length<=1+((p.kids.take (j+1)).map λx=>sz ps x+1).sum/\f_ k hp g':=λg' ⟨l4,kD,bh,z2,z3⟩=>⟨l3++l4,kD,by rw[<-cq];exact bh,by simp only[cB];omega,qu.trans z3⟩;refine lC ?_;refine b8 (λah=>?_) λah=>?_
   · refine aZ (next true) ?_
     intro r g' hr;refine dP ?_;exact⟨rfl,fin g' hr⟩
   · refine wx (aZ (next _) ?_)
     intro r g' hr;refine dP ?_;exact⟨rfl,fin g' hr⟩
 rintro e g ⟨rfl,l3,iw,mq,mW,qu⟩;rw[rV] at mW;refine di @ag.eq_1 ?_;exact⟨trivial,l3,iw,mq,aBH,qu⟩;have lk:=vn m_ (fk iq aBJ);have kv:∀g,td g p.kv p.kids:=CK p;refine wy ?_;refine cj (λj e g=>e=[(0,.mp k 0),(2,.v (.bool b)),(81,p.kv),(82,ag p.kids.length),(83,ag j)]/\∃l3 iw,nr k v (l++l3) iw g/\l3.length<=1+((p.kids.take j).map λx=>sz ps x+1).sum/\f_ k hp g) p.kids.length ⟨rfl,l1,o1,eB,aBH,pJ⟩ ?_ ?_;rintro j e g hj ⟨rfl,l3,iw,mq,mW,qu⟩;obtain⟨x,hx⟩:=cD hj;have oN:=bG hx;obtain⟨x0,x1⟩:=jl.2 x oN;obtain⟨xn,rfl⟩:=mJ x0;have jk:=gl cW;obtain⟨q,hq⟩:∃q,ps[xn]?=some q:=⟨ps[xn]' aBH,br aBH⟩;have e1:bu 5 v (.v (.int .i64 (xn)))=some (.fp q.cells 0):=h.v.bK (x:=q.aG) aCp rfl;have bQ:∀hp,aq hp false 1 (.fp q.cells 0)=some (.v (.int .i64 q.kind)):=λhp=>rfl;obtain⟨pk,k1,k2⟩:=(kv g).get hx;have uz:=vL (f:=λx=>sz ps x+1) hx;have sl:=y_ (λx=>sz ps x+1) p.kids (j+1);refine wy (bA (λah=>?_) λah=>?_);obtain⟨kD,g4,cC,g5,iL,w8,vc⟩:=mq.push _ avg aBK;refine wx ?_;refine aZ (ih _ oN _ (l++l3++[⟨4,0,0,0,[]⟩]) kD g5 w8 aBK) ?_;rintro r g' ⟨l4,rF,bh,z2,z3⟩;refine wx ?_;exact⟨rfl,l3++[⟨4,0,0,0,[]⟩]++l4,rF,by rw[<-cq,<-cq];exact bh,by simp only[cB,nq];omega,(qu.trans vc).trans z3⟩;refine wx (aZ (ih _ oN _ (l++l3) iw g mq aBK) ?_);rintro r g' ⟨l4,rF,bh,z2,z3⟩;refine wx ?_;exact⟨rfl,l3++l4,rF,by rw[<-cq];exact bh,by simp only[cB];omega,qu.trans z3⟩;rintro e g ⟨rfl,l3,iw,mq,mW,qu⟩;rw[rV] at mW;refine di @ag.eq_1 ?_;exact⟨trivial,l3,iw,mq,aBH,qu⟩;obtain⟨x,hx⟩:∃x,p.kids=[x]:=Bv.1 eL;have oN:x∈p.kids:=by rw[hx];simp
 obtain⟨x0,x1⟩:=jl.2 x oN;obtain⟨xn,rfl⟩:=mJ x0;have jk:=gl cW;obtain⟨q,hq⟩:∃q,ps[xn]?=some q:=⟨ps[xn]' aBH,br aBH⟩;have e1:bu 5 v (.v (.int .i64 (xn)))=some (.fp q.cells 0):=h.v.bK (x:=q.aG) aCp rfl;have bQ:∀hp,aq hp false 1 (.fp q.cells 0)=some (.v (.int .i64 q.kind)):=λhp=>rfl;obtain⟨pk,k1,k2⟩:=(CK p g2).get (i:=0) (by rw[hx];rfl);have aqY:bu 1 p.kv (.v (.int .i64 0))=some pk:=k1;rw[hx] at hsz;simp only[eD,kX,wh,DL] at hsz;refine wx (aZ (ih _ oN _ (l++l1) o1 g2 eB aBK) ?_);rintro r g' ⟨l4,rF,bh,z2,z3⟩;have f1:cm [.v (.int .i64 0),.v (.int .i64 0),.v (.int .i64 0),.v (.int .i64 0),.v (.string ⟨#[]⟩)] [(0,1,.v (.int .i64 5)),(2,1,.v (.int .i64 p.low)),(3,1,.v (.int .i64 p.high))]=some (fH ⟨5,0,p.low,p.high,[]⟩):=rfl;obtain⟨rG,g7,G7,g8,qH,Rx,anZ⟩:=bh.push ⟨5,0,p.low,p.high,[]⟩ ⟨nj _,ax (ax ⟨rfl,rfl,h0,h1,h2⟩)⟩ aBK;refine wx ?_;exact⟨trivial,l1++l4++[⟨5,0,p.low,p.high,[]⟩],rG,by rw[<-cq,<-cq];exact Rx,by simp only[cB,nq];omega,(pJ.trans z3).trans anZ⟩;rintro e g3 ⟨rfl,l3,iw,mq,mW,qu⟩;cases b with
 |true=>
  obtain⟨kD,g4,cC,g5,iL,w8,vc⟩:=mq.push _ axq aBK;refine wx ?_;rw[cq] at w8;exact⟨_,kD,w8,aBK,qu.trans vc⟩
 |false=>
  refine wy ?_;exact⟨l3,iw,mq,aBH,qu⟩
end
end
def rQ(c:UInt8):U:=.v (.int .u8 (c.toNat:Int))
def wk(hp:List aa)(k:Nat)(l:List UInt8):Prop:=∃c0 bv,hp[k]?=some (.cells [c0,bv] false)/\(c0=.fL k (372,2)\/c0=.mp k 0)/\bX hp bv (l.map rQ) 1 5/\(l=[]->bv=.af)
def zy(hp:List aa)(k:Nat)(l:List UInt8)(bv:U):Prop:=hp[k]?=some (.cells [.mp k 0,bv] false)/\bX hp bv (l.map rQ) 1 5/\(l=[]->bv=.af)
@[go_sem]def TU(l:List UInt8):bV 1 (l.map rQ)=true:=by
 rw[bV,c_];intro x hx;obtain⟨t,ht,rfl⟩:=cO.1 hx;rfl
section
variable{G:Cells}{k:Nat}{l:List UInt8}{hp:List aa}
def f_.set{x}:f_ k hp (hp.set k x):=⟨aBI,λj cs fz hj h=>aD8⟩
def Ym(h:wk hp k l):aE G az 270 [.mp k 0] hp λr hp'=>r=.aK []/\(∃bv,zy hp' k l bv)/\f_ k hp hp':=by
 obtain⟨c0,bv,h1,rfl|rfl,h3,h4⟩:=h;refine aZ (X9 aiY h1) ?_;rintro r hp' ⟨rfl,rfl⟩;refine⟨rfl,⟨bv,aR (gl h1),?_,h4⟩,f_.set⟩
 rcases h3 with z|⟨id,bh,z2⟩
 exact ay z;refine ax ⟨id,bh,?_⟩;rw[av];exact z2;rintro rfl;rw[h1] at z2;cases z2;refine aZ (Yb aiY h1) ?_;rintro r hp' ⟨rfl,rfl⟩;exact⟨rfl,⟨bv,h1,h3,h4⟩,f_.refl _ _⟩
def zy.st{bv}(h:zy hp k l bv):wk hp k l:=⟨_,bv,h.1,ax rfl,h.2⟩
@[go_sem]def zy.eG{bv}(h:zy hp k l bv):aq hp false 1 (.mp k 1)=some bv:=by
 simp only[aq,h.1];rfl
def zy.put{bv bv'}{g}{l'}(h:zy hp k l bv)(hA:bX g bv' (l'.map rQ) 1 5)(hz:l'=[]->bv'=.af)(hk:∀(j:Nat) cs fz,hp[j]?=some (.cells cs fz)->g[j]?=some (.cells cs fz))(hl:hp.length<=g.length):
  ∃g',aF g 1 (.mp k 1) bv'=some g'/\wk g' k l'/\f_ k hp g':=by
 have kb:=hk _ _ _ h.1
 have ho:bn bv'=true:=aBV
 have cC:bv'.cells=[bv']:=by cases bv'<;>first|rfl|cases ho
 have s2:aF g 1 (.mp k 1) bv'=some (g.set k (.cells [.mp k 0,bv'] false)):=by
  simp only[aF,kb,dJ,cC];simp[ho,putAt]
 refine⟨_,s2,⟨_,bv',aR (gl kb),ax rfl,?_,hz⟩,aB5,λj cs fz hj q=>?_⟩
 rcases hA with z|⟨id,bh,z2⟩
 exact ay z;refine ax ⟨id,bh,?_⟩;rw[av];exact z2;rintro rfl;rw[kb] at z2;cases z2;rw[av (dr hj)];exact hk _ _ _ q
def wM(h:wk hp k l)(hl:l.length<=100000000)(c):aE G az 253 [.mp k 0,.v (.int .u8 (c.toNat:Int))] hp λr hp'=>wk hp' k (l++[c])/\f_ k hp hp':=by
 refine acU.go ?_;refine wy (aZ (Ym h) ?_);rintro _ g ⟨rfl,⟨bv,hB⟩,hb⟩;obtain⟨bg,g2,e2,dO,hne,hle,hk2⟩:=kL (x:=rQ c) (aY:=1) hB.2.1 (TU l) rfl aBJ aBJ aBK;have oJ:bX g2 bg ((l++[c]).map rQ) 1 5:=aCm
 obtain⟨g3,c8,qu,Cd⟩:=hB.put oJ (λq=>by simp at q) (λj cs fz q=>hk2 _ _ q λxs z=>by
  rcases hB.2.1 with⟨q1,_⟩|⟨id,q1,ah⟩
  rw[q1] at z;cases z;rw[q1] at z;cases z;rw[q] at ah;cases ah) hle
 unfold rQ at e2;refine fB @hB.eG @e2 @c8 ?_;exact⟨qu,hb.trans Cd⟩
def FP(h:wk hp k l)(s)(hl:l.length+s.length<=100000000):aE G az 251 [.mp k 0,ai s] hp λr hp'=>wk hp' k (l++s)/\f_ k hp hp':=by
 refine acT.go ?_;refine wy (aZ (Ym h) ?_);rintro _ g ⟨rfl,⟨bv,hB⟩,hb⟩;have key:∃bg g2,yo g 1 5 bv (ai s)=some (bg,g2)/\bX g2 bg ((l++s).map rQ) 1 5/\(l++s=[]->bg=.af)/\g.length<=g2.length/\∀(j:Nat) cs fz,g[j]?=some (.cells cs fz)->g2[j]?=some (.cells cs fz):=by
  rcases s with _|⟨c,s⟩
  refine⟨bv,g,?_,by rw[e4];exact hB.2.1,by rw[e4];exact hB.2.2,bl _,λ_ _ _ q=>q⟩
  rcases hB.2.1 with⟨rfl,_⟩|⟨id,rfl,_⟩<;>rfl
  have hb:zU ⟨⟨c::s⟩⟩=(c::s).map rQ:=rfl;have hz:(⟨⟨c::s⟩⟩:ByteArray).size≠0:=by show(c::s).length≠0;simp
  rcases hB.2.1 with⟨rfl,e⟩|⟨id,rfl,hk⟩
  have:l=[]:=aDZ
  subst this;refine⟨.sl ((c::s).map rQ) (.tok g.length),g++[.tok (c::s).length 1 5],?_,ax ⟨g.length,rfl,aBI⟩,aBI,aBI,λ_ _ _ q=>aM q⟩;have hf:((c::s).map rQ).length*1<=140737488355328:=by simp at hl⊢;omega
  simp only[yo,ai,hz,if_false,ga,hb,x9,if_true];rw[if_pos hf];simp;have hlt:=gl hk;refine⟨.sl ((l++c::s).map rQ) (.tok id),g.set id (.tok (l++c::s).length 1 5),?_,ax ⟨id,rfl,by rw[aR hlt];simp⟩,aBI,aBI,λj cs fz q=>?_⟩;have hf:((l.map rQ).length+((c::s).map rQ).length)*1<=140737488355328:=by simp at hl⊢;omega
  simp only[yo,ai,hz,if_false,ga,hb,x9,if_true,TU,true_and,hk,and_self];rw[if_pos hf];simp;rw[av];exact q;rintro rfl;rw[hk] at q;cases q
 obtain⟨bg,g2,e2,oJ,aqe,hle,hk2⟩:=key;obtain⟨g3,c8,qu,Cd⟩:=hB.put oJ aqe hk2 hle;refine kf @hB.eG @e2 @c8 @uc ?_;exact⟨qu,hb.trans Cd⟩
def ayv(h:wk hp k l)(hl:l.length<=100000000):aE G az 252 [.mp k 0] hp λr hp'=>r=ai l/\hp'=hp:=by
 obtain⟨c0,bv,h1,_,h3,h4⟩:=h
 rcases h3 with⟨rfl,e⟩|⟨id,rfl,hk⟩
 have:l=[]:=aDZ
 subst this;exact Ya ai4 h1
 rcases l with _|⟨c,r⟩
 cases h4 rfl;rw[b_] at hk;exact X_ ai4 h1 hk aBI aBH
end
def YX(n):(jI 1 n).length<=2:=by
 unfold jI;split;simp;simp[jI]
@[go_sem]def Xk{a b}(h:a.length+b.length<=1000000):ct .add (.v (.string ⟨⟨a⟩⟩)) (ai b)=some (ai (a++b)):=r9 aBH
@[go_sem]def GD{a b}(h:a.length+b.length<=1000000):ct .add (ai a) (.v (.string ⟨⟨b⟩⟩))=some (ai (a++b)):=r9 aBH
def Vi{G}{low high}(h0:0<=low)(h1:low<=20)(h2:high= -1\/(1<=high/\high<=20)):cx G az 254 [.v (.int .i64 low),.v (.int .i64 high)] λr=>∃t:List UInt8,r=ai t/\t.length<=8:=by
 obtain⟨n,rfl⟩:=mJ h0;refine cR (adU.go ?_);have fin:∀(hp) (t),t.length<=8->∃n aQ,b9 hp n (ai t)=some aQ/\∃t:List UInt8,aQ=ai t/\t.length<=8:=λhp t ht=>by
  obtain⟨n,hn⟩:=(aB _:aX hp (ai t) (ai t)).done;exact⟨n,_,hn,t,rfl,ht⟩
 have d1:=YX n;have sp:ck G az 186 [(n:Int)] (ai (jI 1 n)):=U4 n aBH;have a1:ct .add (.v (.string ⟨[123].toArray⟩)) (ai (jI 1 n))=some (ai ([123]++jI 1 n)):=Xk aBK;have a2:ct .add (ai ([123]++jI 1 n)) (.v (.string ⟨[125].toArray⟩))=some (ai ([123]++jI 1 n++[125])):=GD aBK;have a3:ct .add (ai ([123]++jI 1 n)) (.v (.string ⟨[44,125].toArray⟩))=some (ai ([123]++jI 1 n++[44,125])):=GD aBK;have a4:ct .add (ai ([123]++jI 1 n)) (.v (.string ⟨[44].toArray⟩))=some (ai ([123]++jI 1 n++[44])):=GD aBK
 rcases h2 with rfl|⟨g0,g1⟩
 · cases hb0:((n:Int)==0)<;>cases fU:((n:Int)==1)<;>cases abg:((n:Int)== -1)
   all_goals
    refine wy ?_
    first
     |exact fin _ [42] aBJ
     |exact fin _ [43] aBJ
     |refine aE.pu sp ?_
      refine fB @a1 @a2 @a3 ?_;exact fin _ _ (by simp<;>omega)
 · obtain⟨m,rfl⟩:=mJ (show 0<=high by omega)
   have d2:=YX m;have axH:ck G az 186 [(m:Int)] (ai (jI 1 m)):=U4 m aBH;have a5:ct .add (ai ([123]++jI 1 n++[44])) (ai (jI 1 m))=some (ai ([123]++jI 1 n++[44]++jI 1 m)):=r9 aBK;have a6:ct .add (ai ([123]++jI 1 n++[44]++jI 1 m)) (.v (.string ⟨[125].toArray⟩))=some (ai ([123]++jI 1 n++[44]++jI 1 m++[125])):=GD aBK;have hm:((m:Int)== -1)=false:=aBI
   cases hb0:((n:Int)==0)<;>cases fU:((n:Int)==1)<;>cases RY:((m:Int)==1)<;>cases abg:((n)==(m:Int))
   all_goals
    refine nP @hb0 @fU @hm @RY @abg ?_
    first
     |exact fin _ [63] aBJ
     |refine aE.pu sp ?_
      refine fB @a1 @a2 @a4 ?_
      first
       |exact fin _ _ (by simp<;>omega)
       |refine aE.pu axH ?_
        refine kE @a5 @a6 ?_;exact fin _ _ (by simp<;>omega)
def axo{G}{v}{l:List cg}(hv:bL v (l.map kF))(hok:∀x∈l,x.cA)(hl:l.length<=100000):cx G az 212 [v] λr=>∃t:List UInt8,r=ai t/\t.length<=14*l.length:=by
 refine cR (ady.go ?_);have ln:=hv.bO;rw[b_] at ln;refine wy ?_;refine cj (λi e hp=>e=[(3,.mp 0 0),(6,v),(7,ag l.length),(8,ag i)]/\∃t,wk hp 0 t/\t.length<=14*i) l.length ⟨rfl,[],⟨_,_,rfl,ay rfl,ay ⟨rfl,rfl⟩,λ_=>rfl⟩,aBI⟩ ?_ ?_;rintro i e hp hi ⟨rfl,t0,aaq,tX⟩;obtain⟨x,hx⟩:=cD hi;have xw:=hok x (bG hx);have e1:bu 5 v (i:Int)=some (.fp x.cells 0):=hv.bK (x:=x.aG) aBU rfl;have e2:∀hp,aq hp true 5 (.fp x.cells 0)=some (.agg x.cells):=λhp=>rfl;have s1:=sQ hp x;unfold fD at s1;have eG:∀g:List aa,g[hp.length]?=some (.cells x.cells false)->aq g false 1 (.mp hp.length 0)=some (.v (.int .i64 x.kind))/\aq g false 1 (.mp hp.length 2)=some (.v (.int .i64 x.low))/\aq g false 1 (.mp hp.length 3)=some (.v (.int .i64 x.high))/\aq g false 1 (.mp hp.length 4)=some (ai x.name):=λg q=>by
  simp only[aq,q];exact⟨rfl,rfl,rfl,rfl⟩
 have hm:(hp++[aj x.cells false])[hp.length]?=some (.cells x.cells false):=aBI
 have hB:wk (hp++[aj x.cells false]) 0 t0:=by
  obtain⟨c0,bv,b1,b2,b3,b4⟩:=aaq;refine⟨c0,bv,aM b1,b2,?_,b4⟩
  rcases b3 with z|⟨id,bh,z2⟩
  exact ay z;exact ax ⟨id,bh,aM z2⟩
 have hm0:hp.length≠0:=by
  obtain⟨_,_,b1,_⟩:=aaq;have:=gl b1;omega
 refine wy (bA (λq=>?_) λq=>?_);refine wy (bA (λah=>?_) λah=>?_);refine wy (aZ (wM hB aBH 32) ?_);rintro r g3 ⟨hB,Ce⟩;have hm:=Ce.2 _ _ _ hm0 hm;have tX:(t0++[32]).length<=14*i+1:=aBK
 refine wy ?_
 rcases xw.2 with⟨hk,hnm,_,_⟩|⟨hk|hk|hk,_,_,_⟩|⟨hk,_,z0,bh,z2⟩
 have hn:x.name.length<=12:=by
  simp only[pV,dY,decide_eq_true_eq] at hnm;omega
 refine wy (aZ (FP hB x.name aBH) ?_);rintro r g4 ⟨jh,_⟩;refine wx ?_;exact⟨rfl,_,jh,aBK⟩;refine wy (aZ (wM hB aBH 40) ?_);rintro r g4 ⟨jh,_⟩;refine wx ?_;exact⟨rfl,_,jh,aBK⟩;refine wy (aZ (wM hB aBH 41) ?_);rintro r g4 ⟨jh,_⟩;refine wx ?_;exact⟨rfl,_,jh,aBK⟩;refine wy (aZ (wM hB aBH 124) ?_);rintro r g4 ⟨jh,_⟩;refine wx ?_;exact⟨rfl,_,jh,aBK⟩;refine wy ?_;refine gf (Vi z0 bh aBH) (aP (bM _) (aP (bM _) bS)) ?_;rintro r ⟨t2,rfl,Cw⟩;refine wy (aZ (FP hB t2 aBH) ?_);rintro r g4 ⟨jh,_⟩;refine wx ?_;exact⟨rfl,_,jh,aBK⟩;refine wy ?_
 rcases xw.2 with⟨hk,hnm,_,_⟩|⟨hk|hk|hk,_,_,_⟩|⟨hk,_,z0,bh,z2⟩
 have hn:x.name.length<=12:=by
  simp only[pV,dY,decide_eq_true_eq] at hnm;omega
 refine wy (aZ (FP hB x.name aBH) ?_);rintro r g4 ⟨jh,_⟩;refine wx ?_;exact⟨rfl,_,jh,aBK⟩;refine wy (aZ (wM hB aBH 40) ?_);rintro r g4 ⟨jh,_⟩;refine wx ?_;exact⟨rfl,_,jh,aBK⟩;refine wy (aZ (wM hB aBH 41) ?_);rintro r g4 ⟨jh,_⟩;refine wx ?_;exact⟨rfl,_,jh,aBK⟩;refine wy (aZ (wM hB aBH 124) ?_);rintro r g4 ⟨jh,_⟩;refine wx ?_;exact⟨rfl,_,jh,aBK⟩;refine wy ?_;refine gf (Vi z0 bh aBH) (aP (bM _) (aP (bM _) bS)) ?_;rintro r ⟨t2,rfl,Cw⟩;refine wy (aZ (FP hB t2 aBH) ?_);rintro r g4 ⟨jh,_⟩;refine wx ?_;exact⟨rfl,_,jh,aBK⟩;refine wy ?_
 rcases xw.2 with⟨hk,hnm,_,_⟩|⟨hk|hk|hk,_,_,_⟩|⟨hk,_,z0,bh,z2⟩
 have hn:x.name.length<=12:=by
  simp only[pV,dY,decide_eq_true_eq] at hnm;omega
 refine wy (aZ (FP hB x.name aBH) ?_);rintro r g4 ⟨jh,_⟩;refine wx ?_;exact⟨rfl,_,jh,aBK⟩;refine wy (aZ (wM hB aBH 40) ?_);rintro r g4 ⟨jh,_⟩;refine wx ?_;exact⟨rfl,_,jh,aBK⟩;refine wy (aZ (wM hB aBH 41) ?_);rintro r g4 ⟨jh,_⟩;refine wx ?_;exact⟨rfl,_,jh,aBK⟩;refine wy (aZ (wM hB aBH 124) ?_);rintro r g4 ⟨jh,_⟩;refine wx ?_;exact⟨rfl,_,jh,aBK⟩;refine wy ?_;refine gf (Vi z0 bh aBH) (aP (bM _) (aP (bM _) bS)) ?_;rintro r ⟨t2,rfl,Cw⟩;refine wy (aZ (FP hB t2 aBH) ?_);rintro r g4 ⟨jh,_⟩;refine wx ?_;exact⟨rfl,_,jh,aBK⟩;rintro e hp ⟨rfl,t,hB,ht⟩;refine wy (aZ (ayv hB aBH) ?_);rintro _ g ⟨rfl,hh⟩;refine dP ?_;obtain⟨n,hn⟩:=(aB _:aX g (ai t) (ai t)).done;exact⟨n,_,hn,t,rfl,ht⟩
section
variable{G:Cells}{v:U}{ps:List bJ}
def aki{k:Nat}(h:qk v ps):∀(n i:Nat),i<n->i<ps.length->Pf G k v ps (i:Int):=by
 intro n
 induction n with
 |zero=>intro i hi;omega
 |succ n ih=>
  intro i hi hl;obtain⟨p,hp⟩:=cD hl;refine atb h hp λx hx=>?_;obtain⟨x0,x1⟩:=(h.ok i p hp).2 x hx;obtain⟨xn,rfl⟩:=mJ x0;exact ih xn aBH aBH
def Vb{x:Int}(hn:ps≠[])(h:nO ps ps.length [x]):x=((ps.length-1:Nat):Int):=by
 cases hl:ps.length with
 |zero=>exact absurd (List.length_eq_zero_iff.1 hl) hn
 |succ n=>
  rw[hl] at h;obtain⟨p,ot,_,_,e⟩:=h;have:ot=[]:=by
   have:=congrArg zq e;simp at this;exact this
  subst this;simpa using e
def Qk{l:List cg}:∀x∈l.map kF,∀c∈x.cells,dn c:=λx hx c hc=>by
 obtain⟨s,_,rfl⟩:=cO.1 hx;have:c∈s.cells:=hc;simp only[fH,ek,oz,or_false] at this
 rcases this with rfl|rfl|rfl|rfl|rfl<;>exact bM _
def wB(n:Nat)(r:U):Prop:=∃t:List UInt8,r=ai t/\t.length<=n
def pG{hp:List aa}{n:Nat}{t:List UInt8}(ht:t.length<=n):∃m aQ,b9 hp m (ai t)=some aQ/\wB n aQ:=by
 obtain⟨m,hn⟩:=(aB _:aX hp (ai t) (ai t)).done;exact⟨m,_,hn,t,rfl,ht⟩
def axm(bz:eE G)(h:qk v ps):cx G az 152 [v] (wB 40000):=by
 refine cR (ac2.go ?_);have ln:=h.v.bO;rw[b_] at ln;have hlen:=h.len;refine wy ?_;refine b8 (λq=>?_) λq=>?_;exact pG (t:=[]) aBJ;have hne:ps≠[]:=by rintro rfl;simp at q
 refine wy (gf (agz bz h) (aP (BS h) bS) ?_);rintro r ⟨b,rfl,hb⟩;cases b with
 |false=>
  refine wy ?_;exact pG (t:=[]) aBJ
 |true=>
  obtain⟨x,hx⟩:=(hb rfl).resolve_left hne;have hr:=Vb hne hx;have hs:=ahQ h.ok hx;rw[hr] at hs;simp only[eD,kX,wh,DL] at hs
  have f1:cm [.af,.af] [(0,1,v)]=some [v,.af]:=aCL
  have hS:nr 0 v [] .af [.cells [v,.af] false]:=⟨rfl,ay ⟨rfl,rfl⟩,aBI⟩;refine wy (aZ (aki h _ (ps.length-1) (Bw _) aBH false [] .af _ hS aBK) ?_);rintro r g ⟨l2,o2,bh,z2,z3⟩;rw[eR] at bh;obtain⟨v',y1,eg,jU⟩:=zN bh.app Qk;refine wx ?_;refine aE.cY (axo y1 bh.ok aBH) ?_;rintro r ⟨t,rfl,ht⟩;refine wy ?_;exact pG aBH
end
def cw(n:Nat):U:=.v (.int .u64 (n:Int))
def wd(B i:Nat):Nat:=(B>>>(64*i)) % 2^64
def Oy(B i):wd B i<18446744073709551616:=Nat.mod_lt _ aBJ
def Bc(B i j):(wd B i).testBit j=(decide (j<64)&&B.testBit (64*i+j)):=by
 unfold wd;rw[Nat.testBit_mod_two_pow,Nat.testBit_shiftRight]
def JN(A B i):wd (A|||B) i=wd A i|||wd B i:=by
 apply ajq;intro j;rw[O0,Bc,Bc,Bc,O0];cases decide (j<64)<;>simp
def Ox(A B i):wd (A&&&B) i=wd A i&&&wd B i:=by
 apply ajq;intro j;rw[ajs,Bc,Bc,Bc,ajs];cases decide (j<64)<;>simp
def ay9(q r i)(hr:r<64):wd (2^(64*q+r)) i=if i=q then 2^r else 0:=by
 apply ajq;intro j;rw[Bc,Wj];by_cases h:i=q;subst h;rw[if_pos rfl,Wj];by_cases hj:r=j;subst hj;simp[hr];have:¬(64*i+r=64*i+j):=aBH
 simp[hj,this];rw[if_neg h,Nat.zero_testBit];by_cases hj:j<64;have:¬(64*q+r=64*i+j):=aBH
 simp[this];simp[hj]
def Oz(B q r i)(hr:r<64):wd (B|||2^(64*q+r)) i=if i=q then wd B i|||2^r else wd B i:=by
 rw[JN,ay9 q r i hr];split;rfl;rw[Nat.or_zero]
def GS{x:Nat}(h:x<18446744073709551616):(zi 64 (x)).toNat=x:=by
 rw[BitVec.toNat_ofInt];omega
@[go_sem]def afS{x y}(hx:x<18446744073709551616)(hy:y<18446744073709551616):ct .or (cw x) (cw y)=some (cw (x|||y)):=by
 have hz:x|||y<2^64:=Nat.or_lt_two_pow hx hy
 unfold cw;rw[aj0];show some (bP (.int .u64 (DD.wrap ((zi 64 (x)|||zi 64 (y)).toNat:Int))))=_;rw[BitVec.toNat_or,GS hx,GS hy,wrap_u64];congr 3;omega
@[go_sem]def Xv{x y}(hx:x<18446744073709551616)(hy:y<18446744073709551616):ct .and (cw x) (cw y)=some (cw (x&&&y)):=by
 have hz:x&&&y<2^64:=Nat.and_lt_two_pow x hy;unfold cw;rw[W6];show some (bP (.int .u64 (DD.wrap ((zi 64 (x)&&&zi 64 (y)).toNat:Int))))=_;rw[BitVec.toNat_and,GS hx,GS hy,wrap_u64];congr 3;omega
def aO(B:Nat):List U:=[cw (wd B 0),cw (wd B 1),cw (wd B 2),cw (wd B 3)]
def a_(B:Nat):U:=.agg (aO B)
def jY(B):dn (a_ B):=BV (n:=2) rfl
def u_(hp)(B):aX hp (a_ B) (a_ B):=iO (aA (aB _) (aA (aB _) (aA (aB _) (aA (aB _) bW))))
section
variable{G:Cells}
def aqu(n:Nat)(h:n<256):ck G az 225 [(n:Int)] true:=by
 refine ef (adL.go ?_);have h1:decide ((0:Int)<=(n))=true:=aBI
 have h2:decide ((n:Int)<256)=true:=aBK
 exact wy ((aB _).done)
def ait(B n:Nat)(h:n<256):ck G az 169 [a_ B,.v (.int .i64 (n))] (a_ (B|||2^n)):=by
 refine ef (adj.go ?_);have q8:(a_ B).cells=aO B:=rfl;refine wy ?_;refine aE.pu (aqu n h) ?_;obtain⟨q,r,hr,hq,rfl⟩:∃q r,r<64/\q<4/\n=64*q+r:=⟨n/64,n % 64,Nat.mod_lt _ aBJ,aBH,aBH⟩;have s1:ct .shr (.v (.int .i64 ((64*q+r:Nat):Int))) (.v (.int .u64 6))=some (.v (.int .i64 (q))):=by
  rw[aj2 (k:=.i64) (a:=((64*q+r:Nat):Int)) (b:=6) .u64 aBJ];congr 3;show Int.fdiv ((64*q+r:Nat):Int) 64=_;rw[Int.fdiv_eq_ediv_of_nonneg _ aBJ];omega
 have s2:ct .and (.v (.int .i64 ((64*q+r:Nat):Int))) (.v (.int .i64 63))=some (.v (.int .i64 (r))):=by
  rw[W6];show some (bP (.int .i64 (b7.wrap ((zi 64 ((64*q+r:Nat):Int)&&&zi 64 63).toNat:Int))))=_;rw[BitVec.toNat_and,GS aBH];have amb:(zi 64 63).toNat=2^6-1:=aBJ
  rw[amb,Nat.and_two_pow_sub_one_eq_mod,wrap_i64 aBH aBH];congr 3;omega
 have c8:D4 .u64 (.v (.int .i64 (r)))=some (.v (.int .u64 (r))):=by
  rw[PG,wrap_u64];congr 3;omega
 have hp:2^r<18446744073709551616:=Nat.pow_lt_pow_right aBJ hr;have iy:ct .shl (.v (.int .u64 1)) (.v (.int .u64 (r)))=some (cw (2^r)):=by
  rw[aj1 (k:=.u64) (a:=1) (b:=(r)) .u64 aBH];show some (bP (.int .u64 (DD.wrap (1*2^(min (r:Int).toNat 64)))))=_;rw[uG,Gd aBH,wrap_u64];unfold cw;congr 3;have:(1:Int)*2^r=((2^r:Nat):Int):=aBI
  rw[this];generalize 2^r=z at hp⊢;omega
 have apK:q=0\/q=1\/q=2\/q=3:=aBH
 have w0:=Oz B q r 0 hr;have w1:=Oz B q r 1 hr;have w2:=Oz B q r 2 hr;have w3:=Oz B q r 3 hr;have fin:∀(hp) cs,cs=aO (B|||2^(64*q+r))->∃n,b9 hp n (.agg cs)=some (a_ (B|||2^(64*q+r))):=λhp cs e=>by
  rw[e];exact(u_ hp _).done
 have Nq:∀i,ct .or (cw (wd B i)) (cw (2^r))=some (cw (wd B i|||2^r)):=λi=>afS (Oy B i) hp
 rcases apK with rfl|rfl|rfl|rfl
 have a1:jH 4 1 (.mp 0 0) (.v (.int .i64 ((0:Nat):Int)))=some (.mp 0 0):=rfl;have o1:=Nq 0;unfold cw at o1 iy;refine kg @aO.eq_1 @cw.eq_1 (fin _ _ ?_);unfold aO;rw[w0,w1,w2,w3];rfl;have a1:jH 4 1 (.mp 0 0) (.v (.int .i64 ((1:Nat):Int)))=some (.mp 0 1):=rfl;have o1:=Nq 1;unfold cw at o1 iy;refine kg @aO.eq_1 @cw.eq_1 (fin _ _ ?_);unfold aO;rw[w0,w1,w2,w3];rfl;have a1:jH 4 1 (.mp 0 0) (.v (.int .i64 ((2:Nat):Int)))=some (.mp 0 2):=rfl;have o1:=Nq 2;unfold cw at o1 iy;refine kg @aO.eq_1 @cw.eq_1 (fin _ _ ?_);unfold aO;rw[w0,w1,w2,w3];rfl;have a1:jH 4 1 (.mp 0 0) (.v (.int .i64 ((3:Nat):Int)))=some (.mp 0 3):=rfl;have o1:=Nq 3;unfold cw at o1 iy;refine kg @aO.eq_1 @cw.eq_1 (fin _ _ ?_);unfold aO;rw[w0,w1,w2,w3];rfl
end
section
variable{G:Cells}
def avc{x y}(hx:x<18446744073709551616)(hy:y<18446744073709551616):ck G az 104 [cw x,cw y] (cw (x|||y)):=by
 refine ef (acI.go ?_);exact wx ((aB _).done)
def akr{x y}(hx:x<18446744073709551616)(hy:y<18446744073709551616):ck G az 259 [cw x,cw y] (cw (x&&&y)):=by
 refine ef (adY.go ?_);exact wx ((aB _).done)
def E8(op:Nat->Nat->Nat)(A B i:Nat):List U:=[cw (if 0<i then op (wd A 0) (wd B 0) else wd A 0),cw (if 1<i then op (wd A 1) (wd B 1) else wd A 1),cw (if 2<i then op (wd A 2) (wd B 2) else wd A 2),cw (if 3<i then op (wd A 3) (wd B 3) else wd A 3)]
def XZ{f}{op}(hf:∀x y,x<18446744073709551616->y<18446744073709551616->ck G az f [cw x,cw y] (cw (op x y)))(A B):ck G az 103 [a_ A,a_ B,.fn (.func f) [] []] (.agg (E8 op A B 4)):=by
 refine ef (acH.go ?_);have q8:∀B,(a_ B).cells=aO B:=λB=>rfl;have l0:aq [.cells (aO A) false,.cells (aO B) false,.cells [.v (.int .u64 0),.v (.int .u64 0),.v (.int .u64 0),.v (.int .u64 0)] false] true 4 (.mp 1 0)=some (a_ B):=rfl;refine wy ?_;refine cj (λi e hp=>e=[(2,.fn (.func f) [] []),(3,.mp 0 0),(6,.mp 2 0),(10,a_ B),(11,ag i)]/\hp=[.cells (E8 op A B i) false,.cells (aO B) false,.cells [.v (.int .u64 0),.v (.int .u64 0),.v (.int .u64 0),.v (.int .u64 0)] false]) 4 ⟨rfl,rfl⟩ ?_ ?_;rintro i e hp hi ⟨rfl,rfl⟩;have u1:=@aO.eq_1;have u2:=@cw.eq_1;have u3:=@E8.eq_1;have c1:decide ((i:Int)<4)=true:=aBK
 have a1:jH 4 1 (.mp 0 0) (.v (.int .i64 i))=some (.mp 0 i):=by simp[jH,je];omega
 have hc:i=0\/i=1\/i=2\/i=3:=aBH
 have e1:zJ false 1 4 (a_ B) (.v (.int .i64 i))=some (cw (wd B i)):=by rcases hc with rfl|rfl|rfl|rfl<;>rfl
 rcases hc with rfl|rfl|rfl|rfl<;>(refine lC ?_;refine aE.pu (hf _ _ (Oy A _) (Oy B _)) ?_;exact azl)
 rintro e hp ⟨rfl,rfl⟩;have c1:decide (((4:Nat):Int)<4)=false:=rfl;exact aiD @aO.eq_1 @cw.eq_1 @E8.eq_1 ((iO (aA (aB _) (aA (aB _) (aA (aB _) (aA (aB _) bW))))).done)
def Fj(A B):ck G az 54 [a_ A,a_ B] (a_ (A|||B)):=by
 refine ef (ab_.go ?_);have q8:∀B,(a_ B).cells=aO B:=λB=>rfl;refine wx (dx (XZ (λx y hx hy=>avc hx hy) A B) (aP (jY _) (aP (jY _) (aP (Yt _) bS))) ?_);refine wx ?_;have e:bT (E8 (· ||| ·) A B 4)=a_ (A|||B):=by
  unfold a_ aO;rw[JN,JN,JN,JN];rfl
 rw[e];exact(u_ _ _).done
def akq(A B):ck G az 229 [a_ A,a_ B] (a_ (A&&&B)):=by
 refine ef (adP.go ?_);have q8:∀B,(a_ B).cells=aO B:=λB=>rfl;refine wx (dx (XZ (λx y hx hy=>akr hx hy) A B) (aP (jY _) (aP (jY _) (aP (Yt _) bS))) ?_);refine wx ?_;have e:bT (E8 (· &&& ·) A B 4)=a_ (A&&&B):=by
  unfold a_ aO;rw[Ox,Ox,Ox,Ox];rfl
 rw[e];exact(u_ _ _).done
def ec(l:List Nat):Nat:=l.foldl (λB n=>B|||2^n) 0
def TK{v}{l}(hv:bL v (l.map λn:Nat=>ag (n)))(hl:∀n∈l,n<256)(hn:l.length<=100000):ck G az 99 [v] (a_ (ec l)):=by
 refine ef (acD.go ?_);have ln:=hv.bO;rw[b_] at ln;refine wy ?_;refine cj (λi e hp=>e=[(2,.mp 0 0),(3,.mp 1 0),(6,v),(7,ag l.length),(8,ag i)]/\hp=[.cells [.v (.int .u64 0),.v (.int .u64 0),.v (.int .u64 0),.v (.int .u64 0)] false,.cells (aO (ec (l.take i))) false]) l.length ⟨rfl,by simp[ec,aO,cw,wd]⟩ ?_ ?_;rintro i e hp hi ⟨rfl,rfl⟩;obtain⟨x,hx⟩:=cD hi;have ap9:=hl x (bG hx);have e1:bu 1 v (i:Int)=some (.fp [ag x] 0):=hv.bK (x:=ag x) aBU rfl;have l1:aq [.cells [.v (.int .u64 0),.v (.int .u64 0),.v (.int .u64 0),.v (.int .u64 0)] false,.cells (aO (ec (l.take i))) false] true 4 (.mp 1 0)=some (a_ (ec (l.take i))):=rfl
 have ame:ec (l.take (i+1))=ec (l.take i)|||2^x:=by
  unfold ec;rw[Gc,hx];simp
 have s1:aF [.cells [.v (.int .u64 0),.v (.int .u64 0),.v (.int .u64 0),.v (.int .u64 0)] false,.cells (aO (ec (l.take i))) false] 4 (.mp 1 0) (a_ (ec (l.take i)|||2^x))=some [.cells [.v (.int .u64 0),.v (.int .u64 0),.v (.int .u64 0),.v (.int .u64 0)] false,.cells (aO (ec (l.take i)|||2^x)) false]:=rfl;refine wy (dx (ait _ x ap9) (aP (jY _) (aP (bM _) bS)) ?_);rw[ame];refine wx ?_
 first
  |exact⟨rfl,trivial⟩
  |exact⟨rfl,rfl⟩
 rintro e hp ⟨rfl,rfl⟩;rw[rV];have l1:aq [.cells [.v (.int .u64 0),.v (.int .u64 0),.v (.int .u64 0),.v (.int .u64 0)] false,.cells (aO (ec l)) false] true 4 (.mp 1 0)=some (a_ (ec l)):=rfl;have s1:aF [.cells [.v (.int .u64 0),.v (.int .u64 0),.v (.int .u64 0),.v (.int .u64 0)] false,.cells (aO (ec l)) false] 4 (.mp 0 0) (a_ (ec l))=some [.cells (aO (ec l)) false,.cells (aO (ec l)) false]:=rfl;have l2:aq [.cells (aO (ec l)) false,.cells (aO (ec l)) false] true 4 (.mp 0 0)=some (a_ (ec l)):=rfl;exact wy ((u_ _ _).done)
end
def alY{x}(h:x≠0)(hx:x<18446744073709551616):x.testBit (Bp 64 x)=true/\Bp 64 x<64:=by
 unfold Bp;rw[if_neg h];obtain⟨m,h1,h2⟩:=Lib.ctzFrom_spec 64 x aBH hx;refine⟨?_,h2⟩;generalize Lib.ctzFrom 64 x=c at h1 h2;rw[h1,Nat.testBit_two_pow_mul];simp
def Ta{x}(h:x≠0):x&&&(x-1)<x:=Nat.lt_of_le_of_lt Nat.and_le_right aBH
def wR(x:Nat):List Nat:=if h:x=0 then [] else Bp 64 x::wR (x&&&(x-1))
termination_by x
decreasing_by exact Ta h
def amg:wR 0=[]:=by rw[wR,dif_pos rfl]
def amf{x}(h:x≠0):wR x=Bp 64 x::wR (x&&&(x-1)):=by rw[wR,dif_neg h]
def G_(B:Nat):Nat->List Nat
 |0=>[]
 |i+1=>G_ B i++(wR (wd B i)).map (64*i+ ·)
def els(B:Nat):List Nat:=G_ B 4
section
variable{G:Cells}
def GI(B)(hp):aE G az 55 [a_ B] hp λr hp'=>r=.fn (.func 105) [] [.mp hp.length 0]/\hp'=hp++[.cells (aO B) false]:=by
 refine acd.go ?_;have q8:(a_ B).cells=aO B:=rfl;exact wx tt
def GJ(bz:eE G){y}{Inv:List Nat->List aa->Prop}{Stop:List aa->Prop}{B kb:Nat}{hp}
  (iI:∀done p hp,Inv done hp->B.testBit p=true->p<256->gP G az y [(p:Int)] hp λr hp'=>∃c:Bool,r=c/\(c=true->Inv (done++[p]) hp')/\(c=false->Stop hp'))
  (hb:hp[kb]?=some (.cells (aO B) false)) (h0:Inv [] hp):aE G az 105 [y,.mp kb 0] hp λr hp'=>r=.aK []/\(Inv (els B) hp'\/Stop hp'):=by
 refine acJ.go ?_;have l0:aq hp true 4 (.mp kb 0)=some (a_ B):=by simp only[aq,hb];rfl
 refine wy ?_;refine cj (λi e hp=>e=[(0,y),(6,a_ B),(7,ag i)]/\Inv (G_ B i) hp) 4 ⟨rfl,h0⟩ ?_ ?_;rintro i e hp hi ⟨rfl,hI⟩;have e1:zJ false 1 4 (a_ B) (i:Int)=some (cw (wd B i)):=by
  have hc:i=0\/i=1\/i=2\/i=3:=aBH
  rcases hc with rfl|rfl|rfl|rfl<;>rfl
 have c1:decide ((i:Int)<4)=true:=aBK
 refine wy ?_;refine mF (λm e hp=>∃pre,m<18446744073709551616/\e=[(0,y),(3,(i:Int)),(4,cw m),(6,a_ B),(7,(i:Int))]/\wR (wd B i)=pre++wR m/\(∀j,m.testBit j=true->(wd B i).testBit j=true)/\Inv (G_ B i++pre.map (64*i+ ·)) hp) ⟨[],Oy B i,rfl,rfl,λj h=>h,by rw[kX,e4];exact hI⟩ ?_;rintro m e hp ⟨pre,hm,rfl,hpre,aaF,aav⟩;refine fC @cw.eq_1 (bA (λq=>?_) λq=>?_);have hm0:m≠0:=by rintro rfl;simp at q
 obtain⟨t1,t2⟩:=alY hm0 hm;have w1:b7.wrap (64*(i))=((64*i:Nat):Int):=by rw[wrap_i64 aBH aBH];omega
 have hB:B.testBit (64*i+Bp 64 m)=true:=by
  have:=aaF _ t1;rw[Bc] at this;simp at this;exact this.2
 refine wy ?_;refine aE.pu (ahA bz m hm) ?_;have w3:DD.wrap ((m)-1)=((m-1:Nat):Int):=by rw[wrap_u64];omega
 have a1:=Xv hm (show m-1<18446744073709551616 by omega);unfold cw at a1;refine wy (rT (iI _ _ _ aav hB aBH) ?_);rintro _ g ⟨c,rfl,k1,k2⟩;cases c with
 |false=>
  refine dP ?_;exact⟨trivial,ax (k2 rfl)⟩
 |true=>
  refine kE @w3 @a1 ?_;refine⟨m&&&(m-1),Ta hm0,pre++[Bp 64 m],Nat.lt_trans (Ta hm0) hm,rfl,?_,λj hj=>?_,?_⟩;rw[hpre,amf hm0];simp;rw[ajs] at hj;simp only[dY] at hj;exact aaF j hj.1;have:=k1 rfl;rw[eX,<-cq];exact this
 have hm0:m=0:=aBQ
 subst hm0;refine wx ?_;rw[amg,e4] at hpre;refine⟨rfl,?_⟩;show Inv (G_ B i++(wR (wd B i)).map (64*i+ ·)) hp;rw[hpre];exact aav;rintro e hp ⟨rfl,hI⟩;have c1:decide (((4:Nat):Int)<4)=false:=rfl;refine kE @ag.eq_1 @c1 ?_;exact⟨trivial,ay hI⟩
end
def dS:List Nat->List U
 |[]=>[]
 |B::r=>aO B++dS r
def BQ(B):(aO B).length=4:=rfl
def wW:∀l:List Nat,(dS l).length=l.length*4
 |[]=>rfl
 |B::r=>by
  show(aO B++dS r).length=_;rw[cB,wW r,BQ,dm];omega
def ZD:∀(l m),dS (l++m)=dS l++dS m
 |[],_=>rfl
 |B::r,m=>by
  show aO B++dS (r++m)=aO B++dS r++dS m;rw[ZD r m,cq]
def LJ:∀{l} {p B},l[p]?=some B->((dS l).drop (p*4)).take 4=aO B
 |[],p,B,h=>aBR
 |A::r,0,B,h=>by
  simp at h;subst h;show(List.drop (0*4) (aO A++dS r)).take 4=_;rw[Nat.zero_mul,nk,ajp (by rw[BQ];omega),kG (by rw[BQ];omega)]
 |A::r,p+1,B,h=>by
  have:=LJ aCn;show(List.drop ((p+1)*4) (aO A++dS r)).take 4=_;rw[show(p+1)*4=(aO A).length+p*4 by rw[BQ];omega,<-vZ,List.drop_left'];exact this;rfl
@[go_sem]def LK:∀{l} {p B},p<l.length->putAt (dS l) (p*4) (aO B)=dS (l.set p B)
 |[],p,B,h=>aBR
 |A::r,0,B,h=>rfl
 |A::r,p+1,B,h=>by
  have:=LK (B:=B) aCn;unfold putAt at this⊢;show List.take ((p+1)*4) (aO A++dS r)++aO B++List.drop ((p+1)*4+(aO B).length) (aO A++dS r)=aO A++dS (r.set p B);rw[show(p+1)*4=(aO A).length+p*4 by rw[BQ];omega,azT,lF,ajb,<-this];simp only[cq]
def afL(B):(aO B).all bn=true:=rfl
def uS(hp:List aa)(v:U)(l:List Nat):Prop:=(v=.af/\l=[])\/∃k,v=.rs k (dS l).length 4 0 l.length/\hp[k]?=some (.cells (dS l) true)
section
variable{hp:List aa}{v:U}{l:List Nat}{p B:Nat}
def uS.at(h:uS hp v l)(hB:l[p]?=some B):∃k,v=.rs k (dS l).length 4 0 l.length/\hp[k]?=some (.cells (dS l) true)/\bu 4 v (p:Int)=some (.rp k (dS l).length (p*4))/\aq hp true 4 (.rp k (dS l).length (p*4))=some (a_ B):=by
 have hlt:=gl hB
 rcases h with⟨_,rfl⟩|⟨k,rfl,hk⟩
 simp at hB;refine⟨k,rfl,hk,UD hlt,?_⟩;have h1:=LJ hB;have h2:=wW l;simp only[aq,hk,if_true];unfold dB;rw[if_pos rfl,if_pos aBH,h1];rfl
@[go_sem]def uS.st{k}(hk:hp[k]?=some (.cells (dS l) true))(hlt:p<l.length)(B):aF hp 4 (.rp k (dS l).length (p*4)) (a_ B)=some (hp.set k (.cells (dS (l.set p B)) true)):=by
 have h2:=wW l;simp only[aF,hk,if_true,dJ];have e1:(a_ B).cells=aO B:=rfl;rw[e1,if_pos ⟨rfl,aBH,afL B⟩,LK hlt]
end
def rowAt(v:U)(j:Nat):Prop:=∃m l,v=.rs j m 4 0 l
def xN(v:U)(j:Nat):Prop:=∃xs,v=.sl xs (.tok j)
structure eS(an:Nat)(u v:U)(hp:List aa)(u' v':U)(hp':List aa):Prop where
 len:hp.length<=hp'.length
 keep:∀(j:Nat) b,hp[j]?=some b->j≠an->¬rowAt v j->¬xN u j->hp'[j]?=some b
 row:∀j,rowAt v' j->rowAt v j\/hp.length<=j
 tok:∀j,xN u' j->xN u j\/hp.length<=j
def eS.refl(an)(u v)(hp):eS an u v hp u v hp:=⟨bl _,λ_ _ h _ _ _=>h,λ_ h=>ay h,λ_ h=>ay h⟩
def eS.trans{an}{a b c a2 b2 c2}{x y z}(h:eS an a2 a x b2 b y)(k:eS an b2 b y c2 c z):eS an a2 a x c2 c z:=by
 refine⟨fk h.len k.len,λj d hj h1 h2 h3=>k.keep j d (h.keep j d hj h1 h2 h3) h1 (λq=>?_) (λq=>?_),λj q=>?_,λj q=>?_⟩;have:=gl hj
 rcases h.row j q with z|z
 exact h2 z;omega;have:=gl hj
 rcases h.tok j q with z|z
 exact h3 z;omega
 rcases k.row j q with z|z
 exact h.row j z;have:=h.len;right;omega
 rcases k.tok j q with z|z
 exact h.tok j z;have:=h.len;right;omega
def eS.app{an}{u v}{hp l}:eS an u v hp u v (hp++l):=⟨aBI,λ_ _ h _ _ _=>aM h,λ_ h=>ay h,λ_ h=>ay h⟩
structure dM(an:Nat)(z:List U)(on bq:List Nat)(ak bv:U)(hp:List aa):Prop where
 b:hp[an]?=some (.cells (ak::bv::z) false)
 on:bX hp ak (on.map a_) 4 142
 bq:uS hp bv bq
def dM.ext{an}{z}{on bq}{ak bv}{hp hp'}(h:dM an z on bq ak bv hp)(hk:∀(j:Nat) cs fz,hp[j]?=some (.cells cs fz)->hp'[j]?=some (.cells cs fz))(ht:∀(j:Nat) c,hp[j]?=some (.tok c 4 142)->hp'[j]?=some (.tok c 4 142)):dM an z on bq ak bv hp':=by
 refine⟨hk _ _ _ h.b,?_,?_⟩
 rcases h.on with q|⟨id,q1,ah⟩
 exact ay q;exact ax ⟨id,q1,ht _ _ ah⟩
 rcases h.bq with q|⟨k,q1,ah⟩
 exact ay q;exact ax ⟨k,q1,hk _ _ _ ah⟩
def ng(bq:List Nat)(N:Nat)(l:List Nat):List Nat:=l.foldl (λb p=>b.set p ((b[p]?.getD 0)|||N)) bq
def CP(N):∀(l bq),(ng bq N l).length=bq.length
 |[],_=>rfl
 |p::r,bq=>by
  show(ng (bq.set p _) N r).length=_;rw[CP N r];simp
def atK(bq)(N)(l)(p):ng bq N (l++[p])=(ng bq N l).set p (((ng bq N l)[p]?.getD 0)|||N):=by
 unfold ng;rw[V9];rfl
def aeM{G}(bz:eE G){an}{z}{on bq}{ak bv}{hp}(h:dM an z on bq ak bv hp)(A N)(hA:∀p,A.testBit p=true->p<256->p<bq.length):
  aE G az 227 [.mp an 0,a_ A,a_ N] hp λr hp'=>dM an z on (ng bq N (els A)) ak bv hp'/\eS an ak bv hp ak bv hp':=by
 refine adN.go ?_;have q8:∀B,(a_ B).cells=aO B:=λB=>rfl;have la:aq (hp++[.cells [.mp an 0] false]++[.cells (aO A) false]++[.cells (aO N) false]) true 4 (.mp (hp++[aj [.mp an 0] false]).length 0)=some (a_ A):=by
  simp only[aq,cq,cB,er (show hp.length<=hp.length+1 by omega),OY,dm,fQ,jW,eR];rfl
 have eM:(bB an 0).cells=[.mp an 0]:=rfl;refine wy (aZ (GI A _) ?_);rintro _ g ⟨rfl,rfl⟩;refine wy ?_;rw[vR];refine⟨_,_,_,rfl,λk hk ats ok hR=>?_⟩;generalize hH:hp++[aj [bB an 0] false]++[aj (aO A) false]++[aj (aO N) false]++[aj (aO A) false]++marks false=H at hk⊢;have aAx:H.length=hp.length+5:=by rw[<-hH];simp[marks]
 have ext:∀(j) b,hp[j]?=some b->H[j]?=some b:=λj b q=>by rw[<-hH];exact aM (aM (aM (aM (aM q))))
 have f3:H[hp.length]?=some (.cells [.mp an 0] false):=by rw[<-hH];simp[marks]
 have f5:H[hp.length+2]?=some (.cells (aO N) false):=by rw[<-hH];simp[marks,cq]
 have f6:H[hp.length+3]?=some (.cells (aO A) false):=by rw[<-hH];simp[marks,cq]
 clear hH la;simp only[cB,dm,fQ,e5,lF,rX] at hR⊢;subst hk;refine aZ (GJ bz (Stop:=λ_=>False) (Inv:=λdone g=>g[H.length]?=some (.aT .ready none ats #[9] ok)/\dM an z on (ng bq N done) ak bv g/\g[hp.length]?=some (.cells [.mp an 0] false)/\g[hp.length+2]?=some (.cells (aO N) false)/\eS an ak bv hp ak bv g) ?_ (aM f6) ⟨aBI,?_,aM f3,aM f5,?_⟩) ?_
 · rintro done p g ⟨hl,hN,g3,g5,hs⟩ hb Mn
   refine hR [_] g _ rfl ⟨none,hl⟩ ?_;have se:qI [(3,bB hp.length 0),(5,bB (hp.length+2) 0),(8,U.fn (qM 105) [] [bB (hp.length+3) 0])] (List.zip [9] [bP (uF b7 (p))])=[(9,bP (uF b7 (p))),(3,bB hp.length 0),(5,bB (hp.length+2) 0),(8,U.fn (qM 105) [] [bB (hp.length+3) 0])]:=rfl;rw[se];refine dP ?_;refine⟨⟨none,hl⟩,λdz=>?_⟩;have hlt:p<(ng bq N done).length:=by rw[CP];exact hA p hb Mn
   obtain⟨B,hB⟩:=cD hlt;have apa:=gl hl;have ne:∀{j} {cs} {fz},g[j]?=some (.cells cs fz)->H.length≠j:=λq e=>by
    rw[<-e,hl] at q;cases q
   have IY:∀{j c},g[j]?=some (.tok c 4 142)->H.length≠j:=λq e=>by
    rw[<-e,hl] at q;cases q
   have gM:dM an z on (ng bq N done) ak bv (g.set H.length (.aT .busy dz ats #[9] ok)):=
    hN.ext (λj cs fz q=>aEe) λj c q=>aEf
   have aN:(g.set H.length (.aT .busy dz ats #[9] ok))[hp.length]?=some (.cells [.mp an 0] false):=by rw[av (ne g3)];exact g3
   have gd:(g.set H.length (.aT .busy dz ats #[9] ok))[hp.length+2]?=some (.cells (aO N) false):=by rw[av (ne g5)];exact g5
   have hs2:eS an ak bv hp ak bv (g.set H.length (.aT .busy dz ats #[9] ok)):=⟨by simpa using hs.len,λj b hj h1 h2 h3=>by
    have:=gl hj;rw[av aBH];exact hs.keep j b hj h1 h2 h3,hs.row,hs.tok⟩
   have fu:(g.set H.length (.aT .busy dz ats #[9] ok))[H.length]?=some (.aT .busy dz ats #[9] ok):=aR apa;generalize g.set H.length (.aT .busy dz ats #[9] ok)=g' at gM aN gd hs2 fu⊢;obtain⟨kb,hv,hkb,r1,r2⟩:=gM.bq.at hB;have s1:=uS.st hkb hlt (B|||N);have l3:=c6 aN;have lb:aq g' false 1 (.mp an 1)=some bv:=by simp only[aq,gM.b];rfl
   have AG:aq g' true 4 (.mp (hp.length+2) 0)=some (a_ N):=by simp only[aq,gd];rfl
   refine p9 @l3 @lb @r1 @r2 @AG @nM.eq_1 @oR.eq_1 @true_and @and_true (dx (Fj B N) (aP (jY _) (aP (jY _) bS)) ?_);refine nQ @l3 @lb @r1 @s1 @qE ?_;have amd:(ng bq N (done++[p]))=(ng bq N done).set p (B|||N):=by rw[atK,hB];rfl
   have hkn:kb≠an:=by rintro rfl;rw[gM.b] at hkb;simp at hkb
   have hkk:kb≠H.length:=by rintro rfl;rw[fu] at hkb;cases hkb
   have apb:=gl hkb;have aAy:=gl fu;show(∃st pd,_=_)/\_;refine⟨⟨.busy,dz,by rw[av hkk];exact fu⟩,true,rfl,λ_=>⟨?_,?_,?_,?_,?_⟩,λq=>aBT⟩;rw[aR aBK];rw[amd];refine⟨?_,?_,ax ⟨kb,?_,?_⟩⟩;rw[av (by intro e;have:=gM.b;rw[<-e,fu] at this;cases this),av hkn];exact gM.b
   rcases gM.on with q|⟨id,q1,ah⟩
   exact ay q;refine ax ⟨id,q1,?_⟩;rw[av (by rintro rfl;rw[fu] at ah;cases ah),av (by rintro rfl;rw[hkb] at ah;cases ah)];exact ah;rw[hv,wW,wW];simp;rw[av (dr hkk),aR apb];rw[av aBH,av (by rintro rfl;rw[aN] at hkb;simp at hkb)];exact aN;rw[av aBH,av (by rintro rfl;rw[gd] at hkb;simp at hkb)];exact gd;refine⟨by simpa using hs2.len,λj b hj h1 h2 h3=>?_,λj q=>ay q,λj q=>ay q⟩;have:=gl hj;rw[av aBH,av (by rintro rfl;exact h2 ⟨_,_,hv⟩)];exact hs2.keep j b hj h1 h2 h3
 refine h.ext (λj cs fz q=>aM (ext _ _ q)) λj c q=>aM (ext _ _ q);exact⟨aBK,λj b q _ _ _=>aM (ext _ _ q),λj q=>ay q,λj q=>ay q⟩;rintro r g ⟨rfl,⟨hl,hN,g3,g5,hs⟩|hf⟩;refine⟨.ready,none,hl,aBJ,?_⟩;refine di @vk.eq_1 ?_;rw[Uy];intro g2 he;have ne:∀{j} {cs} {fz},g[j]?=some (.cells cs fz)->H.length≠j:=λq e=>by
  rw[<-e,hl] at q;cases q
 have IY:∀{j c},g[j]?=some (.tok c 4 142)->H.length≠j:=λq e=>by
  rw[<-e,hl] at q;cases q
 have kp:∀(j:Nat) b,(∀o,b≠.obj o)->(g.set H.length (.aT .exhausted none ats #[9] ok))[j]?=some b->g2[j]?=some b:=λj b hb q=>by
  rcases he.2 j with z|⟨_,z,_⟩
  rw[z];exact q;rw[z] at q;cases q;exact absurd rfl (hb _)
 refine wy ?_;refine⟨hN.ext (λj cs fz q=>kp j _ aBI aEe) (λj c q=>kp j _ aBI aEf),?_,λj b hj h1 h2 h3=>?_,λj q=>ay q,λj q=>ay q⟩;rw[he.1];simpa using hs.len;have hjl:=gl hj
 rcases he.2 j with z|⟨z,_,_⟩
 rw[z,av aBH];exact hs.keep j b hj h1 h2 h3;omega;exact hf.elim
open Go.Proofs.YtggeooeohcbdhaaGreatDoor.eS renaming app->qN
def aU(F E:Nat)(e:Bool):List U:=[cw (wd F 0),cw (wd F 1),cw (wd F 2),cw (wd F 3),cw (wd E 0),cw (wd E 1),cw (wd E 2),cw (wd E 3),e]
def i_(F E:Nat)(e:Bool):U:=.agg (aU F E e)
def z9:List U:=[.v (.int .u64 0),.v (.int .u64 0),.v (.int .u64 0),.v (.int .u64 0),.v (.int .u64 0),.v (.int .u64 0),.v (.int .u64 0),.v (.int .u64 0),false]
section
variable{X:List aa}{m F E:Nat}{e:Bool}
@[go_sem]def fO(h:X[m]?=some (.cells (aU F E e) false)):aq X true 4 (.mp m 0)=some (a_ F)/\aq X true 4 (.mp m 4)=some (a_ E)/\aq X false 1 (.mp m 8)=some (.v (.bool e))/\aq X true 9 (.mp m 0)=some (i_ F E e):=by
 simp only[aq,h];exact⟨rfl,rfl,rfl,rfl⟩
@[go_sem]def T9(h:X[m]?=some (.cells (aU F E e) false))(F'):aF X 4 (.mp m 0) (a_ F')=some (X.set m (.cells (aU F' E e) false)):=by
 simp only[aF,h];rfl
@[go_sem]def T_(h:X[m]?=some (.cells (aU F E e) false))(E'):aF X 4 (.mp m 4) (a_ E')=some (X.set m (.cells (aU F E' e) false)):=by
 simp only[aF,h];rfl
@[go_sem]def af1(h:X[m]?=some (.cells (aU F E e) false))(e'):aF X 1 (.mp m 8) (.v (.bool e'))=some (X.set m (.cells (aU F E e') false)):=by
 simp only[aF,h];rfl
@[go_sem]def uh(h:X[m]?=some (.cells z9 false))(F' E')(e'):aF X 9 (.mp m 0) (i_ F' E' e')=some (X.set m (.cells (aU F' E' e') false)):=by
 simp only[aF,h];rfl
@[go_sem]def Jf(h:X[m]?=some (.cells (aU F E e) false))(F' E')(e'):aF X 9 (.mp m 0) (i_ F' E' e')=some (X.set m (.cells (aU F' E' e') false)):=by
 simp only[aF,h];rfl
end
def eS.own{an}{u v u' v'}{hp hp'}(h:eS an u v hp u' v' hp'){j}{cs}{fz}(hj:hp[j]?=some (.cells cs fz))(h1:j≠an)(h2:¬rowAt v j)(h3:¬xN u j):hp'[j]?=some (.cells cs fz):=h.keep j _ hj h1 h2 h3
def KN{hp}{v}{xs}{n}{e}(h:bX hp v xs n e){j}(hj:hp.length<=j):¬xN v j:=λ⟨ys,e⟩=>by
 rcases h with⟨q,_⟩|⟨id,q,hk⟩
 rw[q] at e;cases e;rw[q] at e;have:=gl hk;cases e;omega
def uS.low{hp}{v}{l}(h:uS hp v l){j}(hj:hp.length<=j):¬rowAt v j:=λ⟨m,n,e⟩=>by
 rcases h with⟨q,_⟩|⟨k,q,hk⟩
 rw[q] at e;cases e;rw[q] at e;have:=gl hk;cases e;omega
def eS.fA{an}{u v u' v'}{hp hp'}{j}{x}(h:eS an u v hp u' v' hp')(hj:hp.length<=j):eS an u v hp u' v' (hp'.set j x):=⟨by simpa using h.len,λi b hi h1 h2 h3=>by
 have:=gl hi;rw[av aBH];exact h.keep i b hi h1 h2 h3,h.row,h.tok⟩
def dM.fA{an}{z}{on bq}{ak bv}{hp}{j}{cs cs'}(h:dM an z on bq ak bv hp)(hj:hp[j]?=some (.cells cs false))(hk:j≠an):dM an z on bq ak bv (hp.set j (.cells cs' false)):=by
 refine⟨by rw[av hk];exact h.b,?_,?_⟩
 rcases h.on with q|⟨id,q1,ah⟩
 exact ay q;refine ax ⟨id,q1,?_⟩;rw[av (by rintro rfl;rw[hj] at ah;cases ah)];exact ah
 rcases h.bq with q|⟨k,q1,ah⟩
 exact ay q;refine ax ⟨k,q1,?_⟩;rw[av (by rintro rfl;rw[hj] at ah;simp at ah)];exact ah
def dM.app{an}{z}{on bq}{ak bv}{hp x}(h:dM an z on bq ak bv hp):dM an z on bq ak bv (hp++x):=h.ext (λ_ _ _ q=>aM q) λ_ _ q=>aM q
def MB{G}(bz:eE G){an}{z}{on bq}{ak bv}{hp}(h:dM an z on bq ak bv hp)(eJ iV hY eK)(ae be)(hA:∀p,iV.testBit p=true->p<256->p<bq.length):
  aE G az 176 [.mp an 0,i_ eJ iV ae,i_ hY eK be] hp λr hp'=>r=i_ (if ae then eJ|||hY else eJ) (if be then eK|||iV else eK) (ae&&be)/\dM an z on (ng bq hY (els iV)) ak bv hp'/\eS an ak bv hp ak bv hp':=by
 refine adq.go ?_;have q8:∀F E e,(i_ F E e).cells=aU F E e:=λF E e=>rfl;have cK:=gl h.b;have h1:dM an z on bq ak bv (hp++[.cells (aU eJ iV ae) false]++[.cells (aU hY eK be) false]++[.cells z9 false]):=h.app.app.app;have s1:eS an ak bv hp ak bv (hp++[.cells (aU eJ iV ae) false]++[.cells (aU hY eK be) false]++[.cells z9 false]):=(qN.trans qN).trans qN;have m4:(hp++[.cells (aU eJ iV ae) false]++[.cells (aU hY eK be) false]++[aj z9 false])[hp.length]?=some (.cells (aU eJ iV ae) false):=aBI
 have m5:(hp++[.cells (aU eJ iV ae) false]++[.cells (aU hY eK be) false]++[aj z9 false])[hp.length+1]?=some (.cells (aU hY eK be) false):=aCJ
 have m6:(hp++[.cells (aU eJ iV ae) false]++[.cells (aU hY eK be) false]++[aj z9 false])[hp.length+2]?=some (.cells z9 false):=aCJ
 generalize hg:hp++[.cells (aU eJ iV ae) false]++[.cells (aU hY eK be) false]++[aj z9 false]=g at h1 s1 m4 m5 m6;unfold z9 at hg;refine ze @cB.{0} ((fO m4).2.1) ((fO m5).1) ?_;refine aZ (aeM bz h1 iV hY hA) ?_;rintro r g2 ⟨h2,s2⟩;have gF:=s2.own m4 aBH (h.bq.low (bl _)) (KN h.on (bl _));have gS:=s2.own m5 aBH (h.bq.low aBH) (KN h.on aBH);have CX:=s2.own m6 aBH (h.bq.low aBH) (KN h.on aBH);obtain⟨a0,a1,a2,a3⟩:=fO gF;obtain⟨b0,b1,b2,b3⟩:=fO gS;have hs:=s1.trans s2;have ji:g.length=hp.length+3:=by rw[<-hg];simp
 have h_:hp.length+3<=g2.length:=by have:=s2.len;omega
 have h3:dM an z on (ng bq hY (els iV)) ak bv (g2++[.cells (aU eJ eK (ae&&be)) false]):=h2.app;have hs3:eS an ak bv hp ak bv (g2++[.cells (aU eJ eK (ae&&be)) false]):=hs.trans qN;have fP:aF (g2++[.cells z9 false]) 9 (.mp g2.length 0) (.agg (aU eJ eK (ae&&be)))=some (g2++[.cells (aU eJ eK (ae&&be)) false]):=by
  have:=uh (X:=g2++[.cells z9 false]) (m:=g2.length) aBI eJ eK (ae&&be);unfold i_ at this;rw[this];simp
 unfold z9 at fP;have kD:(g2++[aj (aU eJ eK (ae&&be)) false])[hp.length]?=some (.cells (aU eJ iV ae) false):=aM gF;have nH:(g2++[aj (aU eJ eK (ae&&be)) false])[hp.length+1]?=some (.cells (aU hY eK be) false):=aM gS;have rF:(g2++[aj (aU eJ eK (ae&&be)) false])[hp.length+2]?=some (.cells z9 false):=aM CX;have rG:(g2++[aj (aU eJ eK (ae&&be)) false])[g2.length]?=some (.cells (aU eJ eK (ae&&be)) false):=aBI
 generalize g2++[aj (aU eJ eK (ae&&be)) false]=X at h3 hs3 fP kD nH rF rG;generalize hm:g2.length=m at fP rG h_⊢;have hmn:m≠an:=aBH
 have Ou:∀(X) (F E F' E') (c),dM an z on (ng bq hY (els iV)) ak bv X->eS an ak bv hp ak bv X->X[hp.length]?=some (.cells (aU eJ iV ae) false)->X[hp.length+1]?=some (.cells (aU hY eK be) false)->X[hp.length+2]?=some (.cells z9 false)->X[m]?=some (.cells (aU F E c) false)->
   dM an z on (ng bq hY (els iV)) ak bv (X.set m (.cells (aU F' E' c) false))/\eS an ak bv hp ak bv (X.set m (.cells (aU F' E' c) false))/\(X.set m (.cells (aU F' E' c) false))[hp.length]?=some (.cells (aU eJ iV ae) false)/\(X.set m (.cells (aU F' E' c) false))[hp.length+1]?=some (.cells (aU hY eK be) false)/\(X.set m (.cells (aU F' E' c) false))[hp.length+2]?=some (.cells z9 false)/\(X.set m (.cells (aU F' E' c) false))[m]?=some (.cells (aU F' E' c) false):=λX F E F' E' c x1 x2 x3 mH rR oX=>
  ⟨x1.fA oX hmn,x2.fA aBH,by rw[av aBH];exact x3,by rw[av aBH];exact mH,by rw[av aBH];exact rR,aR (gl oX)⟩
 have fin:∀(X) (F E) (c),dM an z on (ng bq hY (els iV)) ak bv X->eS an ak bv hp ak bv X->X[hp.length+2]?=some (.cells z9 false)->X[m]?=some (.cells (aU F E c) false)->
   ∃uW,aq X true 9 (.mp m 0)=some (i_ F E c)/\aF X 9 (.mp (hp.length+2) 0) (i_ F E c)=some uW/\aq uW true 9 (.mp (hp.length+2) 0)=some (i_ F E c)/\dM an z on (ng bq hY (els iV)) ak bv uW/\eS an ak bv hp ak bv uW:=λX F E c x1 x2 rR oX=>
  ⟨_,(fO oX).2.2.2,uh rR F E c,(fO (aR (gl rR))).2.2.2,x1.fA rR aBH,x2.fA aBH⟩
 have f2:∀c:Bool,cm [.v (.int .u64 0),.v (.int .u64 0),.v (.int .u64 0),.v (.int .u64 0),.v (.int .u64 0),.v (.int .u64 0),.v (.int .u64 0),.v (.int .u64 0),false] [(0,4,a_ eJ),(4,4,a_ eK),(8,1,c)]=some (aU eJ eK c):=λc=>rfl;obtain⟨fF,p1,p2,p3⟩:=fO kD;obtain⟨aQ,r1,r2,fX⟩:=fO nH;obtain⟨t0,t1,t2,t3⟩:=fO rG;have Nr:=λA B=>Fj (G:=G) A B;cases ae<;>cases be;obtain⟨uW,y1,eg,jU,Bg,Dv⟩:=fin X eJ eK false h3 hs3 rF rG;have N9:aF _ 9 (.mp m 0) (.agg (aU eJ eK false))=some X:=fP;refine lB (dV @a0 @a1 @a2 @a3) (dV @b0 @b1 @b2 @b3) (dV @f2 @hm @N9 @fF) (dV @p1 @p2 @aQ @r1) (dV @r2 @t0 @t1 @y1) @eg @jU ?_;exact⟨rfl,Bg,Dv⟩;have N9:aF _ 9 (.mp m 0) (.agg (aU eJ eK false))=some X:=fP;obtain⟨x1,x2,x3,mH,rR,oX⟩:=Ou X eJ eK eJ (eK|||iV) false h3 hs3 kD nH rF rG;have vQ:=T_ rG (eK|||iV);obtain⟨uW,y1,eg,jU,Bg,Dv⟩:=fin _ _ _ false x1 x2 rR oX;refine wy (dx (Nr eK iV) (aP (jY _) (aP (jY _) bS)) ?_);have JM:aF X 4 (.mp m 4) (a_ (eK|||iV))=some (X.set m (.cells (aU eJ (eK|||iV) false) false)):=vQ;refine kf @JM @y1 @eg @jU ?_;exact⟨rfl,Bg,Dv⟩;have N9:aF _ 9 (.mp m 0) (.agg (aU eJ eK false))=some X:=fP;obtain⟨x1,x2,x3,mH,rR,oX⟩:=Ou X eJ eK (eJ|||hY) eK false h3 hs3 kD nH rF rG;have JM:aF X 4 (.mp m 0) (a_ (eJ|||hY))=some (X.set m (.cells (aU (eJ|||hY) eK false) false)):=T9 rG (eJ|||hY);obtain⟨uW,y1,eg,jU,Bg,Dv⟩:=fin _ _ _ false x1 x2 rR oX;obtain⟨oV,u1,u2,u3⟩:=fO mH;refine wy (dx (Nr eJ hY) (aP (jY _) (aP (jY _) bS)) ?_);refine nP @JM @u2 @y1 @eg @jU ?_;exact⟨rfl,Bg,Dv⟩;have N9:aF _ 9 (.mp m 0) (.agg (aU eJ eK true))=some X:=fP;obtain⟨x1,x2,x3,mH,rR,oX⟩:=Ou X eJ eK (eJ|||hY) eK true h3 hs3 kD nH rF rG;have JM:aF X 4 (.mp m 0) (a_ (eJ|||hY))=some (X.set m (.cells (aU (eJ|||hY) eK true) false)):=T9 rG (eJ|||hY);obtain⟨oV,u1,u2,u3⟩:=fO mH;obtain⟨q0,q1,ah,aN⟩:=fO x3;obtain⟨i0,i1,i2,i3⟩:=fO oX;refine wy (dx (Nr eJ hY) (aP (jY _) (aP (jY _) bS)) ?_);have ay6:aF (X.set m (.cells (aU (eJ|||hY) eK true) false)) 4 (.mp m 4) (a_ (eK|||iV))=some ((X.set m (.cells (aU (eJ|||hY) eK true) false)).set m (.cells (aU (eJ|||hY) (eK|||iV) true) false)):=T_ oX (eK|||iV);obtain⟨v1,v2,v3,v4,v5,v6⟩:=Ou _ _ _ (eJ|||hY) (eK|||iV) true x1 x2 x3 mH rR oX;obtain⟨uW,y1,eg,jU,Bg,Dv⟩:=fin _ _ _ true v1 v2 v5 v6;refine wy (dx (Nr eK iV) (aP (jY _) (aP (jY _) bS)) ?_);refine kf @ay6 @y1 @eg @jU ?_;exact⟨rfl,Bg,Dv⟩
def bJ.many(p:bJ):Nat:=(if p.high<0 then(if(1:Int)>p.low then 1 else p.low) else p.high).toNat
def n7(ps:List bJ):Nat->Int->Nat
 |0,_=>0
 |f+1,i=>match ps[i.toNat]? with
  |none=>0
  |some p=>if p.kind=1 then 1 else(if p.kind=4 then p.many else 1)*(p.kids.map λk=>n7 ps f k).sum
def alN{ps}(h:oB ps):∀(n f g) (i),i.toNat<n->i.toNat<f->i.toNat<g->n7 ps f i=n7 ps g i:=by
 intro n
 induction n with
 |zero=>intro f g i h0;omega
 |succ n ih=>
  intro f g i h0 h1 h2;obtain⟨f,rfl⟩:∃f',f=f'+1:=⟨f-1,aBH⟩;obtain⟨g,rfl⟩:∃g',g=g'+1:=⟨g-1,aBH⟩;unfold n7;cases hp:ps[i.toNat]? with
  |none=>rfl
  |some p=>
   dsimp only;have e:(p.kids.map λk=>n7 ps f k)=p.kids.map λk=>n7 ps g k:=zv λk hk=>by
    have:=(h _ p hp).2 k hk;exact ih f g k aBH aBH aBH
   rw[e]
def cnt(ps:List bJ)(i:Int):Nat:=n7 ps (i.toNat+1) i
def Qo{ps}(h:oB ps){i:Nat}{p}(hp:ps[i]?=some p):cnt ps (i)=if p.kind=1 then 1 else(if p.kind=4 then p.many else 1)*(p.kids.map λk=>cnt ps k).sum:=by
 show n7 ps (i+1) (i)=_;unfold n7;rw[uG,hp];dsimp only;have e:(p.kids.map λk=>n7 ps i k)=p.kids.map λk=>cnt ps k:=zv λk hk=>by
  have:=(h _ p hp).2 k hk;exact alN h (i+1) i (k.toNat+1) k aBH aBH aBH
 rw[e]
@[go_sem]def E7(a b:Nat):nZ false [(a:Int),(257:Int)]=some (.v (.int .i64 ((min a 257:Nat):Int))):=by
 show some (bP (.int .i64 (if(257:Int)<(a) then 257 else(a))))=_;congr 3;split<;>omega
def avu{G}{v}{ps}(h:qk v ps):∀(n i),i<n->i<ps.length->ck G az 110 [v,(i:Int)] ((min (cnt ps (i)) 257:Nat):Int):=by
 intro n
 induction n with
 |zero=>intro i hi;omega
 |succ n ih=>
  intro i hi hl;obtain⟨p,cW⟩:=cD hl;have jl:=h.ok i p cW;have m_:=h.no p (bG cW);have iq:=jl.kids;have hc:=Qo h.ok cW;refine ef (acN.go ?_);have e1:bu 5 v (i:Int)=some (.fp p.cells 0):=h.v.bK (x:=p.aG) aDz rfl;have e2:∀hp,aq hp true 5 (.fp p.cells 0)=some (.agg p.cells):=λhp=>rfl;have s1:=vK [] p;rw[eR,eR] at s1;have z0:([]:List aa).length=0:=rfl;rw[z0] at s1;have l0:aq [.cells p.cells false] false 1 (.mp 0 0)=some (.v (.int .i64 p.kind)):=rfl;have l1:aq [.cells p.cells false] false 1 (.mp 0 1)=some (.v (.int .i64 p.low)):=rfl;have l2:aq [.cells p.cells false] false 1 (.mp 0 2)=some (.v (.int .i64 p.high)):=rfl;have l4:aq [.cells p.cells false] false 1 (.mp 0 4)=some p.kv:=rfl;have lk:=vn m_ (fk iq aBJ);refine wy (bA (λq=>?_) λq=>?_);have q':p.kind=1:=aBN
  rw[hc,if_pos q'];exact wy ((aB _).done);have q':p.kind≠1:=aBN
  rw[if_neg q'] at hc;refine wy ?_;refine cj (λj e hp=>e=[(0,v),(5,.mp 0 0),(6,((min ((p.kids.take j).map λk=>cnt ps k).sum 257:Nat):Int)),(18,p.kv),(19,ag p.kids.length),(20,ag j)]/\hp=[.cells p.cells false]) p.kids.length ⟨rfl,rfl⟩ ?_ ?_;rintro j e hp hj ⟨rfl,rfl⟩;obtain⟨x,hx⟩:=cD hj;obtain⟨x0,x1⟩:=jl.2 x (bG hx);obtain⟨xn,rfl⟩:=mJ x0;obtain⟨pk,k1,k2⟩:=(CK p [.cells p.cells false]).get hx;have uz:=vL (f:=λx=>cnt ps x) hx;have m1:=E7 (min ((p.kids.take j).map λk=>cnt ps k).sum 257+min (cnt ps (xn)) 257) 0;have k9:min (min ((p.kids.take j).map λk=>cnt ps k).sum 257+min (cnt ps (xn)) 257) 257=min ((p.kids.take (j+1)).map λk=>cnt ps k).sum 257:=by rw[uz];omega
  refine wy (dx (ih xn aBH aBH) (aP (BS h) (aP (bM _) bS)) ?_);refine wx ?_
  first
   |exact⟨rfl,trivial⟩
   |exact⟨rfl,rfl⟩
  rintro e hp ⟨rfl,rfl⟩;rw[rV];refine wy ?_;generalize(p.kids.map λk=>cnt ps k).sum=S at hc⊢;refine bA (λdI=>?_) λdI=>?_;have vz:p.kind=4:=aC5
  rw[if_pos vz] at hc;have hb:0<=p.low/\p.low<=20/\(p.high= -1\/(1<=p.high/\p.high<=20)):=by
   rcases jl.1 with z|z|z
   omega;omega;omega
  have m0:nZ true [p.low,(1:Int)]=some (.v (.int .i64 (if(1:Int)>p.low then 1 else p.low))):=rfl;have mY:1<=p.many/\p.many<=20:=by
   unfold bJ.many;constructor<;>(split<;>(try split))<;>omega
  have apG:min S 257*p.many<=257*20:=Nat.mul_le_mul (Nat.min_le_right _ _) mY.2;have w1:b7.wrap (((min S 257:Nat):Int)*(p.many:Int))=((min S 257*p.many:Nat):Int):=by
   rw[<-Int.natCast_mul,wrap_i64 aBH aBH]
  have k9:min (min S 257*p.many) 257=min (p.many*S) 257:=by
   rcases Nat.le_total S 257 with z|z
   rw[Gd z,Wi];have h2:257*p.many<=p.many*S:=aD3
   rw[Nat.min_eq_right z];omega
  have m1:=E7 (min S 257*p.many) 0;rw[k9] at m1;rw[hc];refine wy (bA (λgd=>?_) λgd=>?_);have B0:(if(1:Int)>p.low then 1 else p.low)=(p.many:Int):=by
   have:p.high<0:=by simpa using gd
   unfold bJ.many;rw[if_pos this];split<;>omega
  rw[B0] at m0;exact wy ((aB _).done);have B0:p.high=(p.many:Int):=by
   have:¬p.high<0:=by simp at gd;omega
   unfold bJ.many;rw[if_neg this];omega
  rw[B0];exact wy ((aB _).done);have vz:p.kind≠4:=aC5
  rw[if_neg vz,Bx] at hc;rw[hc];exact wy ((aB _).done)
@[go_sem]def I9(B):bV 4 [a_ B]=true:=rfl
@[go_sem]def No(l:List Nat):bV 4 (l.map a_)=true:=by
 rw[bV,c_];intro x hx;obtain⟨t,ht,rfl⟩:=cO.1 hx;rfl
@[go_sem]def PE(B):dA 4 [a_ B]=some (.sl [a_ B] .exact):=rfl
section
variable{an:Nat}{z:List U}{on bq:List Nat}{ak bv:U}{hp:List aa}
@[go_sem]def dM.ot(h:dM an z on bq ak bv hp){w}(hw:bn w=true):aF hp 1 (.mp an 0) w=some (hp.set an (.cells (w::bv::z) false)):=by
 have cC:w.cells=[w]:=aDr
 simp only[aF,h.b,dJ,cC];simp[hw,putAt]
@[go_sem]def dM.fP(h:dM an z on bq ak bv hp){w}(hw:bn w=true):aF hp 1 (.mp an 1) w=some (hp.set an (.cells (ak::w::z) false)):=by
 have cC:w.cells=[w]:=aDr
 simp only[aF,h.b,dJ,cC];simp[hw,putAt]
@[go_sem]def dM.S4(h:dM an z on bq ak bv hp):aq hp false 1 (.mp an 0)=some ak:=aCe
@[go_sem]def dM.aeF(h:dM an z on bq ak bv hp):aq hp false 1 (.mp an 1)=some bv:=aCe
@[go_sem]def dM.aty(h:dM an z on bq ak bv hp):∀g,bO ak g=some (.v (.int .i64 (on.length:Int)),g):=λg=>by
 rcases h.on with⟨rfl,e⟩|⟨id,rfl,_⟩
 have:on=[]:=aDZ
 subst this;rfl;simp[nF,goInt]
def dM.avF(h:dM an z on bq ak bv hp)(hn:on.length<=100000)(B):∃bD g g',cG hp 4 32 142 ak (.sl [a_ B] .exact)=some (bD,g)/\aF g 1 (.mp an 0) bD=some g'/\dM an z (on++[B]) bq bD bv g'/\eS an ak bv hp bD bv g':=by
 obtain⟨bg,g,e1,hA,hne,hle,hk⟩:=kL (aY:=32) h.on (No on) (I9 B) aBJ aBJ aBK;have gu:∀{j} {cs} {fz},hp[j]?=some (.cells cs fz)->∀xs,ak≠.sl xs (.tok j):=λ{j cs fz} q xs e=>by
  rcases h.on with⟨q1,_⟩|⟨id,q1,ah⟩
  rw[q1] at e;cases e;rw[q1] at e;cases e;rw[q] at ah;cases ah
 have kb:g[an]?=some (.cells (ak::bv::z) false):=hk _ _ h.b (gu h.b)
 have ho:bn bg=true:=aBV
 have cC:bg.cells=[bg]:=aDk
 have s1:aF g 1 (.mp an 0) bg=some (g.set an (.cells (bg::bv::z) false)):=by
  simp only[aF,kb,dJ,cC];simp[ho,putAt]
 refine⟨bg,g,_,e1,s1,⟨aR (gl kb),?_,?_⟩,⟨by simpa using hle,λj b hj h1 h2 h3=>?_,λj q=>ay q,λj ⟨xs,q⟩=>?_⟩⟩;rw[eX]
 rcases hA with q|⟨id,q1,ah⟩
 exact ay q;refine ax ⟨id,q1,?_⟩;rw[av (by rintro rfl;rw[kb] at ah;cases ah)];exact ah
 rcases h.bq with q|⟨k,q1,ah⟩
 exact ay q;refine ax ⟨k,q1,?_⟩;rw[av (by rintro rfl;rw[h.b] at ah;simp at ah)];exact hk _ _ ah (gu ah);rw[av (dr h1)];exact hk j b hj λxs e=>h3 ⟨xs,e⟩
 rcases cE j hp.length with hj|hj
 left
 rcases h.on with⟨q1,ah⟩|⟨id,q1,ah⟩
 subst q1;have:on=[]:=aB8
 subst this;have Qw:cG hp 4 32 142 .af (.sl [a_ B] .exact)=some (.sl [a_ B] (.tok hp.length),hp++[.tok 1 4 142]):=rfl;rw[Qw] at e1;cases e1;cases q;omega;subst q1;have hfit:((on.map a_).length+1)*32<=140737488355328:=aBK
 have Qw:cG hp 4 32 142 (.sl (on.map a_) (.tok id)) (.sl [a_ B] .exact)=some (.sl (on.map a_++[a_ B]) (.tok id),hp.set id (.tok ((on.map a_).length+1) 4 142)):=by
  have h1:=I9 B;have h2:=No on;have h3:¬([a_ B]=([]:List U)):=aBI
  simp only[cG,e9,ga,contents,h1,h2,h3,if_false,and_self,x9,if_true,true_and,ah,dm,fQ,e5];rw[if_pos hfit]
 rw[Qw] at e1;cases e1;cases q;exact⟨_,rfl⟩;exact ax hj
def dM.avD(h:dM an z on bq ak bv hp)(hn:bq.length<=100000)(B):∃bv' g g',mb hp 4 32 142 bv (.sl [a_ B] .exact)=some (bv',g)/\aF g 1 (.mp an 1) bv'=some g'/\dM an z on (bq++[B]) ak bv' g'/\eS an ak bv hp ak bv' g'/\∀(j:Nat) cs,hp[j]?=some (.cells cs false)->g[j]?=some (.cells cs false):=by
 have cK:=gl h.b
 rcases h.bq with⟨rfl,rfl⟩|⟨k,rfl,hk⟩
 have h1:dM an z on [] ak .af (hp++[.cells (aO B) true]):=h.app;refine⟨.rs hp.length 4 4 0 1,hp++[.cells (aO B) true],_,rfl,h1.fP rfl,⟨aR aBK,?_,ax ⟨hp.length,rfl,?_⟩⟩,⟨aBI,λj b hj h1 h2 h3=>?_,λj ⟨m,l,q⟩=>?_,λj q=>ay q⟩,λj cs q=>aM q⟩
 rcases h1.on with q|⟨id,q1,ah⟩
 exact ay q;refine ax ⟨id,q1,?_⟩;rw[av (by rintro rfl;rw[h1.b] at ah;cases ah)];exact ah;rw[av aBH];show(hp++[aj (aO B) true])[hp.length]?=some (.cells (aO B++[]) true);simp;rw[av (dr h1)];exact aM hj;cases q;exact ax (bl _);have hl:=gl hk;have hkn:k≠an:=by rintro rfl;rw[h.b] at hk;simp at hk
 have hfl:=wW bq;have aW:j_ (dS bq) (bq.length*4) (flat [a_ B])=dS (bq++[B]):=by
  have hf:flat [a_ B]=aO B:=rfl;unfold j_;rw[hf,ZD,kG aBH,sY aBH,e4];show _=dS bq++(aO B++[]);rw[e4]
 have e1:mb hp 4 32 142 (.rs k (dS bq).length 4 0 bq.length) (.sl [a_ B] .exact)=some (.rs k (dS (bq++[B])).length 4 0 (bq++[B]).length,hp.set k (.cells (dS (bq++[B])) true)):=by
  show e9 hp 4 32 142 (.rs k (dS bq).length 4 0 bq.length) (.sl [a_ B] .exact)=_;have h1:=I9 B;have h3:¬([a_ B]=([]:List U)):=aBI
  simp only[e9,contents,ga,h1,h3,if_false,and_self,x9,if_true,true_and,hk,dm,fQ,aW];rw[if_pos aBH];simp
 have hb':(hp.set k (.cells (dS (bq++[B])) true))[an]?=some (.cells (ak:: .rs k (dS bq).length 4 0 bq.length::z) false):=by rw[av hkn];exact h.b
 have s1:aF (hp.set k (.cells (dS (bq++[B])) true)) 1 (.mp an 1) (.rs k (dS (bq++[B])).length 4 0 (bq++[B]).length)=some ((hp.set k (.cells (dS (bq++[B])) true)).set an (.cells (ak:: .rs k (dS (bq++[B])).length 4 0 (bq++[B]).length::z) false)):=by
  simp only[aF,hb',dJ];simp[gm,bn,putAt]
 refine⟨_,_,_,e1,s1,⟨aR aBK,?_,ax ⟨k,rfl,?_⟩⟩,⟨aBI,λj b hj h1 h2 h3=>?_,λj ⟨m,l,q⟩=>?_,λj q=>ay q⟩,λj cs q=>by rw[av (by rintro rfl;rw[hk] at q;simp at q)];exact q⟩
 rcases h.on with q|⟨id,q1,ah⟩
 exact ay q;refine ax ⟨id,q1,?_⟩;rw[av (by rintro rfl;rw[h.b] at ah;cases ah),av (by rintro rfl;rw[hk] at ah;cases ah)];exact ah;rw[av (dr hkn),aR hl];rw[av (dr h1),av (by rintro rfl;exact h2 ⟨_,_,rfl⟩)];exact hj;cases q;exact ay ⟨_,_,rfl⟩
end
end Go.Proofs.YtggeooeohcbdhaaGreatDoor

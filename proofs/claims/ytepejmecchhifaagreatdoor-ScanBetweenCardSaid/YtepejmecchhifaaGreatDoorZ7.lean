/- Part 7 of a proof. No condition. -/
import Derived.Test.YtepejmecchhifaaGreatDoorZ6
set_option linter.unusedVariables false
set_option linter.unusedSimpArgs false
set_option linter.defProp false
open BitVec renaming ofInt->zd
open Bool renaming and_eq_true->dV,false_and->ze,false_eq_true->je
open Go.aH.U renaming agg->b8,cells->gN,mp->bN,one->bl,v->bO
open Go.aH.aa renaming cells->aj
open Go.aH.p_ renaming mk->bI
open Go.aH.bq renaming mono->a_,pu->dx,T9->dh,pure->fo,awe->gO
open Go.aH.gW renaming mono->rL
open Go.aH renaming Clean->dm
open Go.aH.aW renaming agg->iC,af->cX,sl->e5,aK->dQ,v->aB
open Go.aH.dK renaming append->zf,cons->aA,map->fY,nil->bT
open Go.aH.hc renaming akQ->Du,node->xO,text->xP
open Go.aH.bV renaming aF->gk,bare->FW,cells->vM
open Go.Fn renaming func->sN
open Go.IntKind renaming i64->bP,u64->Dz
open Go.Lib renaming ctz->Bq
open Go.Proofs.Tryz renaming Yt->ai9,prog->ay,ah5->aje
open Go.Proofs.YtepejmecchhifaaGreatDoor.kq renaming set->FZ
open Go.Proofs.YtepejmecchhifaaGreatDoor.bK renaming aF->oU,cells->ot
open Go.Proofs.YtepejmecchhifaaGreatDoor.ck renaming aF->kJ,cells->fH
open Go.Value renaming int->uw
open Int renaming eq_ofNat_of_zero_le->mI,le_refl->zk,toNat_natCast->ux
open List renaming all_cons->l5,all_eq_true->c7,all_nil->oV,append_assoc->cj,append_nil->ff,cons_append->gP,drop_drop->uy,drop_length_add_append->ajm,drop_of_length_le->sO,drop_zero->ni,ext_getElem?->zl,getElem?_append_left->ei,getElem?_append_right->en,getElem?_cons_succ->vQ,getElem?_cons_zero->l6,getElem?_drop->oW,getElem?_eq_getElem->br,getElem?_eq_none->h_,getElem?_eq_some_iff->bF,getElem?_map->eo,getElem?_set_ne->av,getElem?_set_self->aO,getElem?_take_of_lt->xX,getElem_mem->We,length->Bv,length_append->cG,length_cons->di,length_drop->uz,length_eq_one_iff->Bw,length_map->bX,length_nil->fI,length_singleton->nM,length_take->zm,map_append->eD,map_congr_left->vR,map_cons->ep,map_map->uA,map_nil->kn,mem_append->dN,mem_cons->dW,mem_map->cI,mem_of_getElem?->bA,mem_singleton->cw,nil_append->eH,not_mem_nil->nN,replicate->dJ,replicate_succ->ajv,sum_append->ajA,sum_cons->vU,sum_nil->DG,takeWhile_cons->ajB,take_add_one->By,take_append_drop->Wi,take_append_of_le_length->ajC,take_left'->OV,take_length->p8,take_length_add_append->aAz,take_of_length_le->lH
open Nat renaming add_assoc->kK,add_sub_cancel_left->OX,eq_of_testBit_eq->ajE,le_refl->bg,le_trans->fy,lt_or_ge->cH,lt_succ_self->zo,min_eq_left->F5,mul_comm->Wk,one_mul->Bz,reduceAdd->rO,sub_self->kL,testBit_and->ajG,testBit_or->OZ,testBit_two_pow->Wl,zero_add->e6,zero_le->iE,zero_lt_succ->vV
open Ne renaming symm->dj
open Option renaming bind_some->ko,isSome_none->x4,map->DI,map_some->ir
open Or renaming inl->ax,inr->az
namespace Go.Proofs.YtepejmecchhifaaGreatDoor
open Go Go.aH Go.RowKit
section
variable{G:Cells}{k a:Nat}{l:List ck}{v pv lv:U}{ps cc:List bK}{w:Bool}{J h:List aa}
def MM{a}{c}(q:(tO l a==c)=true)(T:c≠0):∃y,l[a]?=some y/\y.kind=c:=by
 unfold tO at q;cases hy:l[a]? with
 |none=>rw[hy] at q;simp at q;omega
 |some y=>rw[hy] at q;exact⟨y,rfl,aCy⟩
def ax4{a}(hok:∀x∈l,x.cv)(q:(tO l a==5)=true):∃y,l[a]?=some y/\y.kind=5/\0<=y.low/\y.low<=20/\(y.high= -1\/(1<=y.high/\y.high<=20/\y.low<=y.high)):=by
 obtain⟨y,hy,S⟩:=MM q aCu;refine⟨y,hy,S,?_⟩
 rcases(hok y (bA hy)).2 with z|z|z
 omega;omega;exact⟨z.2.2.1,z.2.2.2.1,z.2.2.2.2⟩
def ax2{a}(hok:∀x∈l,x.cv)(q:(tO l a==1)=true):∃y,l[a]?=some y/\y.kind=1/\rj y.name=true:=by
 obtain⟨y,hy,S⟩:=MM q aCu;refine⟨y,hy,S,?_⟩
 rcases(hok y (bA hy)).2 with z|z|z
 exact z.2.1;omega;omega
structure Kw(k:Nat)(l:List ck)(a:Nat)(v:U)(ps:List bK)(J:List aa)(n:Int)(b:Nat)(pv:U)(cc:List bK)(h:List aa):Prop where
 lt:a<b
 le:b<=l.length
 rx:ga k l b v pv (ps++cc) false h
 jt:kq k J h
 cnt:cc.length+2<=3*(b-a)
 n0:0<=n
 n1:n<((ps++cc).length:Nat)
 ok:ow ps->ow (ps++cc)
def Kw.done{n}{b}(Y:Kw k l a v ps J n b pv cc h):zE k l a v ps J n h:=
 ⟨n,b,pv,cc,false,rfl,Nat.le_of_lt Y.lt,Y.le,Y.rx,Y.jt,Y.cnt,λ_=>⟨Y.n0,Y.n1,Y.ok⟩⟩
def ab0(hl:l.length<=200)(hok:∀x∈l,x.cv)(ha:a<=l.length)(hI:a<l.length->Reads G 106 k l v (a+1)):Reads G 231 k l v a:=by
 intro ps pv J hR hps;refine adQ.go ?_;refine wy (a_ (ET hR hl) ?_);rintro _ g ⟨rfl,hh⟩;rw[hh];clear hh;refine wy ?_;refine b5 (λq=>?_) λq=>?_;obtain⟨y,hy,abI,j6⟩:=ax2 hok q;have hlt:=gl hy;have e1:bw 5 v (.v (.int .i64 (a)))=some (.fp y.cells 0):=hR.v.bC (x:=y.aF) aCZ rfl;have e2:∀J,aq J false 1 (.fp y.cells 4)=some (ai y.name):=λJ=>rfl;have f1:cq [.v (.int .i64 0),.v (.int .i64 0),.v (.int .i64 0),.v (.string ⟨#[]⟩),.af] [(0,1,.v (.int .i64 1)),(3,1,ai y.name)]=some (ot ⟨1,0,0,y.name,[],.exact⟩):=rfl;have Cs:=SZ (G:=G) hR aCs ⟨1,0,0,y.name,[],.exact⟩;unfold oU at Cs;refine wx (a_ Cs ?_);rintro _ g1 ⟨rfl,⟨oK,LZ⟩,n6⟩;have w1:bP.wrap ((a)+1)=((a+1:Nat):Int):=jd aCs;refine lE ?_;obtain⟨n,hn⟩:∃n:Int,n=(ps.length:Int):=⟨_,rfl⟩;obtain⟨b,O⟩:∃b,b=a+1:=⟨_,rfl⟩;obtain⟨cc,ap3⟩:∃cc:List bK,cc=[⟨1,0,0,y.name,[],.exact⟩]:=⟨_,rfl⟩;have hT:Kw k l a v ps J n b oK cc (g1.set k (.cells [v,.v (.int .i64 ((a+1:Nat):Int)),oK,.v (.bool false)] false)):=by
  subst O;subst hn;subst ap3;refine⟨aCs,aCs,LZ.put (a+1) false,n6.trans FZ,aCt,aCs,aCv,λz=>z.push ⟨ax ⟨rfl,rfl,rfl,j6,rfl⟩,aCt⟩⟩
 rw[<-hn];generalize g1.set k (.cells [v,.v (.int .i64 ((a+1:Nat):Int)),oK,.v (.bool false)] false)=h at hT⊢
 rotate_left
 refine b5 (λah=>?_) λah=>?_;obtain⟨y,hy,abI⟩:=MM ah aCu;have hlt:=gl hy;have w1:bP.wrap ((a)+1)=((a+1:Nat):Int):=jd aCs;have LZ:=hR.put (a+1) false;have n6:kq k J (J.set k (.cells [v,ag ((a+1:Nat):Int),pv,.v (.bool false)] false)):=FZ;have st:=hR.fk (a+1);generalize J.set k (.cells [v,ag ((a+1:Nat):Int),pv,.v (.bool false)] false)=Y at LZ n6 st;refine wx (a_ (hI hlt ps pv Y LZ aCs) ?_);rintro _ V ⟨n,a2,oK,cc,w,rfl,c1,c2,c3,c4,c5,fN⟩;have bad:zE k l a v ps J (.v (.int .i64 n)) (V.set k (.cells [v,ag (a2),oK,.v (.bool true)] false)):=
  ⟨n,a2,oK,cc,true,rfl,aCs,c2,c3.put a2 true,(n6.trans c4).trans FZ,by cases w<;>simp at c5⊢<;>omega,λq=>aCE⟩
 cases w;refine wx (a_ (ET c3 hl) ?_);rintro _ g ⟨rfl,hh⟩;rw[hh];clear hh;refine wy (bI (λaP=>?_) λaP=>?_);exact y_ @c3.A9 bad;have ec:(tO l a2==3)=true:=by simpa using aP
 obtain⟨eu,EP,_⟩:=MM ec aCu;have hlt2:=gl EP;refine wx ?_;obtain⟨b,O⟩:∃b,b=a2+1:=⟨_,rfl⟩;obtain⟨gS,gw,c9⟩:=fN rfl;have hT:Kw k l a v ps J n b oK cc (V.set k (.cells [v,ag ((a2+1:Nat):Int),oK,.v (.bool false)] false)):=by
  subst O;exact⟨aCs,aCs,c3.put (a2+1) false,(n6.trans c4).trans FZ,by simp at c5;omega,gS,gw,c9⟩
 generalize V.set k (.cells [v,ag ((a2+1:Nat):Int),oK,.v (.bool false)] false)=h at hT⊢
 rotate_left
 exact az5 @c3.AL @c3.A9 bad;exact⟨-1,a,pv,[],true,rfl,bg _,ha,by rw[ff];exact hR.put a true,FZ,aCt,λq=>aCE⟩
 all_goals
  refine kH @D5 @kB (a_ (ET hT.rx hl) ?_);rintro _ r9 ⟨rfl,hh⟩;rw[hh];clear hh;refine dP ?_;refine b5 (λtX=>?_) λtX=>?_;obtain⟨y,hy,abI,Ip⟩:=ax4 hok tX;have hlt:=gl hy;have e1:bw 5 v (.v (.int .i64 (b)))=some (.fp y.cells 0):=hT.rx.v.bC (x:=y.aF) aCZ rfl;have e2:∀J,aq J true 5 (.fp y.cells 0)=some (.agg y.cells):=λJ=>rfl;have s1:=vz h y;unfold fS at s1;have hX:ga k l b v oK (ps++cc) false (h++[.cells y.cells false]):=hT.rx.keep λj c z _=>aJ z;have XS:kq k J (h++[.cells y.cells false]):=hT.jt.trans kq.app;have cV:=gl hT.rx.b;have aiS:(h++[aj y.cells false])[h.length]?=some (.cells y.cells false):=aCt
  generalize h++[aj y.cells false]=g at s1 hX XS aiS;have j4:=hX.put (b+1) false;have XT:=XS.trans (FZ (x:=.cells [v,ag ((b+1:Nat):Int),oK,.v (.bool false)] false));have VC:(g.set k (.cells [v,ag ((b+1:Nat):Int),oK,.v (.bool false)] false))[h.length]?=some (.cells y.cells false):=by rw[av aCs];exact aiS
  have w1:bP.wrap ((b)+1)=((b+1:Nat):Int):=jd aCs;have s2:=hX.fk (b+1);generalize g.set k (.cells [v,ag ((b+1:Nat):Int),oK,.v (.bool false)] false)=g2 at s2 j4 XT VC;have l2:aq g2 false 1 (.mp h.length 2)=some (.v (.int .i64 y.low)):=by simp only[aq,VC];rfl
  have l3:aq g2 false 1 (.mp h.length 3)=some (.v (.int .i64 y.high)):=by simp only[aq,VC];rfl
  have f1:cq [.v (.int .i64 0),.v (.int .i64 0),.v (.int .i64 0),.v (.string ⟨#[]⟩),.af] [(0,1,.v (.int .i64 4)),(1,1,.v (.int .i64 y.low)),(2,1,.v (.int .i64 y.high)),(4,1,.sl [.v (.int .i64 n)] .exact)]=some (ot ⟨4,y.low,y.high,[],[n],.exact⟩):=rfl;have aBG:=hT.cnt;have hab:=hT.lt;have Cs:=SZ (G:=G) j4 aCv ⟨4,y.low,y.high,[],[n],.exact⟩;unfold oU at Cs;refine sJ (cu @tX @hT.rx.CL @hT.rx.fP @e1) @e2 @s1 @hX.fP @w1 @s2 @l2 @l3 @f1 (a_ Cs ?_);rintro _ g3 ⟨rfl,⟨bf,hZ⟩,akU⟩;refine dr @ag.eq_1 ?_;rw[cj] at hZ;refine⟨((ps++cc).length:Nat),b+1,bf,cc++[⟨4,y.low,y.high,[],[n],.exact⟩],false,rfl,aCs,aCs,hZ,XT.trans akU,aCv,λ_=>⟨aCs,aCv,λz=>?_⟩⟩;rw[<-cj];refine(hT.ok z).push ⟨az (az ⟨rfl,rfl,rfl,Ip⟩),λx I=>?_⟩;rw[cw.1 I];exact⟨hT.n0,hT.n1⟩;exact hT.done
def reads(hl:l.length<=200)(hok:∀x∈l,x.cv):∀(n a),a<=l.length->l.length-a<=n->Reads G 231 k l v a/\Reads G 174 k l v a/\Reads G 106 k l v a:=by
 intro n
 induction n with
 |zero=>
  intro a ha hn;have i:Reads G 231 k l v a:=ab0 hl hok ha λq=>aCs
  have r:Reads G 174 k l v a:=agP hl ha λb Y V=>by
   obtain rfl:b=a:=aCs
   exact i
  exact⟨i,r,Yy hl ha λb Y V=>by
   obtain rfl:b=a:=aCs
   exact r⟩
 |succ n ih=>
  intro a ha hn;have i:Reads G 231 k l v a:=ab0 hl hok ha λq=>(ih (a+1) aCs aCs).2.2;have r:Reads G 174 k l v a:=agP hl ha λb Y V=>by
   rcases Nat.eq_or_lt_of_le Y with q|q
   subst q;exact i;exact(ih b V aCs).1
  exact⟨i,r,Yy hl ha λb Y V=>by
   rcases Nat.eq_or_lt_of_le Y with q|q
   subst q;exact r;exact(ih b V aCs).2.1⟩
end
def dK.MU{α:Type}{J}{f g}:∀{l:List α},(∀a∈l,aW J (f a) (g a))->dK J (l.map f) (l.map g)
 |[],_=>bT
 |a::l,h=>aA (h a aCt) (dK.MU λb O=>h b aEe)
def bK.bx(p:bK):bK:={p with tail:=.no}
def Q7(J)(p:bK):aW J p.aF p.bx.aF:=by
 have S:aW J p.kv p.bx.kv:=by
  obtain⟨k,lo,Q,nm,kids,t⟩:=p;unfold bK.bx bK.kv;cases kids with
  |nil=>exact cX
  |cons x r=>exact e5 (fY λa _=>aB _)
 exact iC (aA (aB _) (aA (aB _) (aA (aB _) (aA (aB _) (aA S bT)))))
def awc{ps}(h:ow ps):ow (ps.map bK.bx):=by
 intro i p J;rw[eo] at J;cases hq:ps[i]? with
 |none=>rw[hq] at J;cases J
 |some q=>
  rw[hq] at J;cases J;exact h i q hq
structure qe(v:U)(ps:List bK):Prop where
 v:bH v (ps.map oU)
 ok:ow ps
 len:ps.length<=600
 no:∀p∈ps,p.tail=.no
def Pm(r:U):Prop:=∃(v:U) (p e:Int),r=.aK [v,ag p,ag e]/\((e=0/\p=0/\∃ps,qe v ps)\/(e≠0/\v=.af))
def Ei{J}{v v'}{p e}(hv:aW J v v')(hQ:Pm (.aK [v',ag p,ag e])):∃n aM,b7 J n (.aK [v,p,e])=some aM/\Pm aM:=by
 obtain⟨n,hn⟩:=(dQ (aA hv (aA (aB (.int .i64 p)) (aA (aB (.int .i64 e)) bT))):aW J _ _).done;exact⟨n,_,hn,hQ⟩
def r4(s):dm (ai s):=cm _
def TZ{G}(bh:dL G)(s)(hs:s.length<=1000000):cC G ay 61 [ai s] Pm:=by
 refine cU (ach.go ?_);refine wy ?_;refine dh (aeV bh s hs) ?_;rintro r (⟨l,v,hl,hok,hv,rfl⟩|⟨p,e,he,rfl⟩);refine wy ?_;have ln:=hv.bL;rw[bX] at ln;refine wy ?_;refine b5 (λq=>?_) λq=>?_;exact Ei cX ⟨_,_,_,rfl,ax ⟨rfl,rfl,[],az ⟨rfl,rfl⟩,λi p h=>aCC,aCu,aCt⟩⟩
 have f1:cq [.af,(0:Int)] [(0,1,v)]=some [v,(0:Int)]:=aEK
 have f2:cq [.af,(0:Int),.af,false] [(0,2,.agg [v,(0:Int)])]=some [v,(0:Int),.af,false]:=rfl;refine wy ?_;have hR:ga 0 l 0 v .af [] false [.cells [v,(0:Int),.af,false] false]:=⟨rfl,hv,ax ⟨rfl,rfl⟩⟩;refine a_ ((reads hl hok l.length 0 (iE _) aCs).2.2 [] .af _ hR aCt) ?_;rintro _ h ⟨n,a,pv,cc,w,rfl,c1,c2,c3,c4,c5,fN⟩;rw[eH] at c3 fN;have l1:=c3.fP;refine wy (bI (λah=>?_) λah=>?_);have hlt:a<l.length:=by simp at ah;exact ah
 obtain⟨y,hy⟩:=cF hlt;have e1:bw 5 v (a:Int)=some (.fp y.cells 0):=hv.bC (x:=y.aF) aCZ rfl;have e2:∀J,aq J false 1 (.fp y.cells 1)=some (.v (.int .i64 y.at_)):=λJ=>rfl;refine wy ?_;exact Ei cX ⟨_,_,_,rfl,az ⟨aCu,rfl⟩⟩;cases w with
 |true=>
  refine wx ?_;exact Ei cX ⟨_,_,_,rfl,az ⟨aCu,rfl⟩⟩
 |false=>
  refine wx ?_;obtain⟨_,_,gS⟩:=fN rfl;have ok:=awc (gS λi p h=>aCC);have len:(cc.map bK.bx).length<=600:=by simp at c5⊢;omega
  have no:∀p∈cc.map bK.bx,p.tail=.no:=λp J=>by
   obtain⟨x,_,rfl⟩:=cI.1 J;rfl
  rcases c3.app with⟨rfl,z⟩|⟨id,rfl,_⟩
  have:cc=[]:=aCT
  subst this;exact Ei cX ⟨_,_,_,rfl,ax ⟨rfl,rfl,_,az ⟨rfl,rfl⟩,ok,len,no⟩⟩;refine Ei (e5 (dK.MU λp _=>Q7 _ p)) ⟨_,_,_,rfl,ax ⟨rfl,rfl,cc.map bK.bx,ax ?_,ok,len,no⟩⟩;rw[uA];rfl
 refine wy ?_;have q:(e !=0)=true:=aDw
 exact wy (Ei cX ⟨_,_,_,rfl,az ⟨he,rfl⟩⟩)
section
variable{p:bK}{i:Nat}
def hJ(r:U):Prop:=∃b:Bool,r=b
def gq{J}(b):∃n aM,b7 J n (.v (.bool b))=some aM/\hJ aM:=by
 obtain⟨n,hn⟩:=(aB (.bool b):aW J _ _).done;exact⟨n,_,hn,b,rfl⟩
def au3{G}(bh:dL G)(s)(hs:s.length<=1000000):cC G ay 234 [ai s] hJ:=by
 refine cU (adU.go ?_);refine wy ?_;refine dh (aeV bh s hs) ?_;rintro r (⟨l,v,hl,hok,hv,rfl⟩|⟨p,e,he,rfl⟩);have ln:=hv.bL;rw[bX] at ln;refine wy ?_;refine b5 (λq=>?_) λq=>?_;obtain⟨y,rfl⟩:∃y,l=[y]:=Bw.1 aCB;have e1:bw 5 v (0:Int)=some (.fp y.cells 0):=hv.bC (i:=0) rfl rfl;have e2:∀J,aq J false 1 (.fp y.cells 0)=some (.v (.int .i64 y.kind)):=λJ=>rfl;have bW:∀J,aq J false 1 (.fp y.cells 4)=some (ai y.name):=λJ=>rfl;have cO:ji 4 (.fp y.cells 0)=some (.fp y.cells 4):=rfl;refine gj @q @e1 @e2 ?_;refine b5 (λah=>?_) λah=>?_;refine kg @e1 @cO @bW @mm ?_;exact gq _;exact gq _;exact gq _;have q:(e==0)=false:=aDw
 exact wy (gq _)
@[go_sem]def vf(h:p.tail=.no)(hl:p.kids.length<=4611686018427387904)(J):bL p.kv J=some (.v (.int .i64 (p.kids.length:Int)),J):=by
 unfold bK.kv;split;rename_i e;rw[e];rfl;simp[m_,goInt]
def akz{G}(bh:dL G)(ho:p.cv i)(ht:p.tail=.no):cC G ay 179 [p.aF] hJ:=by
 refine cU (adt.go ?_);have qX:p.aF.cells=p.cells:=rfl;have ln:=vf ht (fy ho.kids aCu);obtain⟨k,lo,Q,nm,kids,t⟩:=p;have l0:aq ([]++[.cells (ot ⟨k,lo,Q,nm,kids,t⟩) false]) false 1 (.mp 0 0)=some (.v (.int .i64 k)):=rfl;have l1:aq ([]++[.cells (ot ⟨k,lo,Q,nm,kids,t⟩) false]) false 1 (.mp 0 1)=some (.v (.int .i64 lo)):=rfl;have l2:aq ([]++[.cells (ot ⟨k,lo,Q,nm,kids,t⟩) false]) false 1 (.mp 0 2)=some (.v (.int .i64 Q)):=rfl;have l3:aq ([]++[.cells (ot ⟨k,lo,Q,nm,kids,t⟩) false]) false 1 (.mp 0 3)=some (ai nm):=rfl;have l4:aq ([]++[.cells (ot ⟨k,lo,Q,nm,kids,t⟩) false]) false 1 (.mp 0 4)=some (bK.kv ⟨k,lo,Q,nm,kids,t⟩):=rfl;generalize hg:[]++[aj (ot ⟨k,lo,Q,nm,kids,t⟩) false]=g at l0 l1 l2 l3 l4;have z0:([]:List aa).length=0:=rfl;obtain⟨oE,oF⟩:=ho;dsimp only at oE oF ln;refine kg @qX @hg @z0 @l0 ?_
 rcases oE with⟨rfl,rfl,rfl,hn,rfl⟩|⟨hk2,rfl,rfl,rfl,S,_⟩|⟨rfl,rfl,S,h0,Y,V⟩
 have n0:(((0:Nat):Int)==0)=true:=rfl;refine sJ @kB @l0 @l1 @l2 @l3 @l4 @ln @fI.{0} @n0 ?_;have u9:nm.length<=1000000:=by
  simp only[rj,dV,decide_eq_true_eq] at hn;omega
 refine dh (au3 bh nm u9) ?_;rintro r ⟨b,rfl⟩;exact dP (gq _)
 · have e1:decide ((1:Int)<(kids.length:Int))=true:=by simp;omega
   have bW:cr .eql (ai []) (.v (.string ⟨[].toArray⟩))=some (.v (.bool true)):=mm [] []
   rcases hk2 with rfl|rfl
   all_goals
    exact Bj @l0 @l1 @l2 @l3 @l4 @ln @e1 @bW (gq _)
 have bW:cr .eql (ai []) (.v (.string ⟨[].toArray⟩))=some (.v (.bool true)):=mm [] [];have n1:((kids.length:Int)==1)=true:=aCv
 have n2:decide (0<=lo)=true:=aCv
 have mB:decide (lo<=20)=true:=aCv
 refine mF @kB @l0 @l1 @l2 @l3 @l4 @ln (bI (λq=>?_) λq=>?_);exact Bj (cu @q @l0 @l1 @l2) @l3 @l4 @ln @n1 @n2 @mB @bW (gq _);have m1:o9 true [lo,(1:Int)]=some (.v (.int .i64 (if(1:Int)>lo then 1 else lo))):=rfl;have m2:decide ((if(1:Int)>lo then 1 else lo)<=Q)=true:=by
  simp at q;simp only[decide_eq_true_eq];split<;>omega
 have m3:decide (Q<=20)=true:=by simp at q⊢;omega
 exact Bj (cu @q @l0 @l1 @l2) (cu @l3 @l4 @ln @n1) @n2 @mB @bW @m1 @m2 @m3 (gq _)
def s3(J:List aa)(v:U)(xs:List Int):Prop:=(v=.af/\xs=[])\/(∃t,v=.sl (xs.map ag) t)\/∃k Z off,v=.rs k Z.length 1 off xs.length/\J[k]?=some (.cells Z true)/\∀(i:Nat) x,xs[i]?=some x->Z[off+i]?=some (ag x)
@[go_sem]def s3.len{J}{v}{xs}(h:s3 J v xs)(hl:xs.length<=4611686018427387904):bL v J=some (.v (.int .i64 (xs.length:Int)),J):=by
 rcases h with⟨rfl,rfl⟩|⟨t,rfl⟩|⟨k,Z,off,rfl,_,_⟩
 rfl;simp[m_,goInt];rfl
def s3.get{J}{v}{xs}(h:s3 J v xs){x}(I:xs[i]?=some x):∃p,bw 1 v (i:Int)=some p/\aq J false 1 p=some (.v (.int .i64 x)):=by
 have Q:=gl I
 rcases h with⟨rfl,rfl⟩|⟨t,rfl⟩|⟨k,Z,off,rfl,S,T⟩
 simp at I;refine⟨.fp [ag x] 0,?_,rfl⟩;simp only[bw,eo,ux,I,ir];rw[if_pos aCs];rfl;refine⟨.rp k Z.length (off+i*1),?_,?_⟩;show(if 0<=(i:Int)/\(i)<(xs.length:Int) then some (U.rp k Z.length (off+(i:Int).toNat*1)) else none)=_;rw[if_pos ⟨aCs,aCs⟩];simp;have:=T i x I;unfold ag at this;simp only[aq,S,if_true,Nat.mul_one];simpa[dI] using this
def amM{G}{J}{v w}{xs ys}(hv:s3 J v xs)(hw:s3 J w ys)(Y:xs.length<=1000000)(V:ys.length<=1000000):bq G ay 180 [v,w] J λr hp'=>(∃b:Bool,r=b/\(b=true->xs=ys))/\hp'=J:=by
 refine adu.go ?_;refine wx ?_;refine b5 (λq=>?_) λq=>?_;exact⟨⟨false,rfl,λh=>aCL⟩,trivial⟩;have hl:xs.length=ys.length:=aCB
 refine kH @q (hv.len (show xs.length<=4611686018427387904 by omega)) ?_;refine b9 (λi e h=>e=[(0,v),(1,w),(12,ag xs.length),(13,ag i)]/\h=J/\∀(j),j<i->xs[j]?=ys[j]?) xs.length ⟨rfl,rfl,λj h=>aCs⟩ ?_ ?_;rintro i e h Q ⟨rfl,rfl,hI⟩;obtain⟨x,I⟩:=cF Q;obtain⟨y,hy⟩:∃y,ys[i]?=some y:=⟨ys[i]' aCs,br aCs⟩;obtain⟨p1,a1,b1⟩:=hv.get I;obtain⟨p2,a2,b2⟩:=hw.get hy;refine lE ?_;refine b5 (λah=>?_) λah=>?_;exact⟨⟨false,rfl,λh=>aCL⟩,trivial⟩;refine wx ?_;refine⟨rfl,trivial,λj hj=>?_⟩
 rcases cH j i with z|z
 exact hI j z;obtain rfl:j=i:=aCs
 rw[I,hy];simp at ah;rw[ah];rintro e h ⟨rfl,rfl,hI⟩;refine dr @ag.eq_1 ?_;refine⟨⟨true,rfl,λ_=>zl λj=>?_⟩,trivial⟩
 rcases cH j xs.length with z|z
 exact hI j z;rw[h_ z,h_ aCs]
end
section
variable{h:bV}{J:List aa}{G:Cells}
def Dp:List U:=[.v (.int .i64 0),.v (.int .i64 0),.v (.int .i64 0),.v (.int .i32 0),.v (.int .u16 0),.v (.int .u16 0),.v (.int .u16 0),.v (.int .u16 0),.v (.int .u16 0),.v (.int .u16 0),.v (.int .u16 0),.v (.int .u16 0),.af,.af,.v (.int .i64 0),.v (.int .i64 0)]
def rG(ho:h.cv):h.cells.length=12:=by simp[vM,ho.len]
def Jy(ho:h.cv):∃c0 c1 c2 c3 c4 c5 fN gS gw c9 iu iw,h.cells=[c0,c1,c2,c3,c4,c5,fN,gS,gw,c9,iu,iw]:=by
 have:=rG ho
 match h.cells,this with
 |[c0,c1,c2,c3,c4,c5,fN,gS,gw,c9,iu,iw],_=>exact⟨c0,c1,c2,c3,c4,c5,fN,gS,gw,c9,iu,iw,rfl⟩
def aun(ho:h.cv)(r:List U):dI true 12 (h.cells++r) 0=some h.aF:=by
 obtain⟨c0,c1,c2,c3,c4,c5,fN,gS,gw,c9,iu,iw,e⟩:=Jy ho;simp only[gk,e];rfl
def II(ho:h.cv):dI true 12 h.cells 0=some h.aF:=by
 have:=aun ho []
 rwa [ff] at this
def B_(h:bV):dK J h.cells h.cells:=by
 refine dK.each λa ha=>?_;simp only[vM,dW,cI] at ha
 rcases ha with rfl|rfl|rfl|rfl|⟨x,_,rfl⟩<;>exact aB _
def aad(r:List Int){t:iU}:aW J (.sl (r.map jz) t) (.sl (r.map jz) .no):=e5 (fY λa _=>aB _)
mutual
theorem Hl{J:List aa}:∀t:hc,aW J t.aF t.aF
 |.node h ks=>by
  rw[hc.aF];exact aW.fp (zf (B_ h) (aA cX (aA (aac ks) (aA (aB _) (aA (aB _) bT)))))
 |.leaf h=>by
  rw[hc.aF];exact aW.fp (zf (B_ h) (aA cX (aA cX (aA (aB _) (aA (aB _) bT)))))
 |.text h r=>by
  rw[hc.aF];exact aW.fp (zf (B_ h) (aA (aad r) (aA cX (aA (aB _) (aA (aB _) bT)))))
theorem aae{J:List aa}:∀ks:List hc,dK J (cN ks) (cN ks)
 |[]=>bT
 |k::r=>by
  rw[cN];exact aA (Hl k) (aae r)
theorem aac{J:List aa}:∀ks:List hc,aW J (gf (cN ks)) (gf (cN ks))
 |[]=>cX
 |k::r=>by
  rw[cN,gf];exact e5 (aA (Hl k) (aae r));exact λh=>aCL
end
def atX(ho:h.cv):b_ G ay 39 [h.aF] (hc.leaf h).aF:=by
 refine eg (aeh.go ?_);have hl:aq ([]++[aj h.aF.cells false]) true 12 (.mp ([]:List aa).length 0)=some h.aF:=II ho;have hf:cq Dp [(0,12,h.aF),(14,1,.v (.int .i64 1)),(15,1,.v (.int .i64 1))]=some (h.cells++[.af,.af,ag 1,ag 1]):=by
  obtain⟨c0,c1,c2,c3,c4,c5,fN,gS,gw,c9,iu,iw,e⟩:=Jy ho;simp only[gk,e];rfl
 unfold Dp at hf;exact azU @hl @hf ((aW.mp rfl (zf (B_ h) (aA cX (aA cX (aA (aB _) (aA (aB _) bT)))))).done)
def PU(ho:h.cv):(FW h).cv:=⟨ho.S,ho.ht,ho.ha,⟨by show(-2147483648:Int)<=0;decide,by show(0:Int)<=2147483647;decide⟩,ho.len,ho.hm⟩
def at0(ho:h.cv)(r:List Int):b_ G ay 40 [h.aF,.sl (r.map jz) .no] (xP (FW h) r).aF:=by
 refine eg (aei.go ?_);have hs:aE ([]++[aj h.aF.cells false]) 1 (.mp ([]:List aa).length (0+3)) (.v (.int .i32 0))=some ([]++[aj (FW h).aF.cells false]):=by
  obtain⟨k,t,a,x,m⟩:=h;rfl
 have hl:aq ([]++[aj (FW h).aF.cells false]) true 12 (.mp ([]:List aa).length 0)=some (FW h).aF:=II (PU ho);have hf:cq Dp [(0,12,(FW h).aF),(12,1,.sl (r.map jz) .no),(14,1,.v (.int .i64 r.length)),(15,1,.v (.int .i64 1))]=some ((FW h).cells++[.sl (r.map jz) .no,.af,ag r.length,ag 1]):=by
  obtain⟨c0,c1,c2,c3,c4,c5,fN,gS,gw,c9,iu,iw,e⟩:=Jy (PU ho);simp only[gk,e];rfl
 unfold Dp at hf;refine Vx @hs @hl @hf @goInt.eq_1 @bX.{0,0} ?_;exact(aW.mp rfl (zf (B_ _) (aA (aad r) (aA cX (aA (aB _) (aA (aB _) bT)))))).done
def ax9(ks:List hc):bH (gf (cN ks)) (cN ks):=by
 cases ks with
 |nil=>exact az ⟨rfl,rfl⟩
 |cons k r=>exact ax (by rw[cN,gf];exact λh=>aCL)
def max2(a b:Nat):o9 true [.v (.int .i64 (a:Int)),.v (.int .i64 (b:Int))]=some (.v (.int .i64 ((max a b:Nat):Int))):=by
 simp only[o9,D4,KF,ko,if_true];congr 3;split<;>omega
def abS(ho:h.cv){ks:List hc}(S:∀k∈ks,k.wf)(O:sizes ks<=4611686018427387904)(hn:ks.length<=4611686018427387904):b_ G ay 38 [h.aF,gf (cN ks)] (xO h ks).aF:=by
 refine eg (aeg.go ?_);obtain⟨c0,c1,c2,c3,c4,c5,fN,gS,gw,c9,iu,iw,e⟩:=Jy ho;have hl:aq ([]++[aj h.aF.cells false]) true 12 (.mp ([]:List aa).length 0)=some h.aF:=II ho;have hv:=ax9 ks;have hf:cq Dp [(0,12,h.aF),(13,1,gf (cN ks)),(14,1,.v (.int .i64 2))]=some [c0,c1,c2,c3,c4,c5,fN,gS,gw,c9,iu,iw,.af,gf (cN ks),ag 2,ag 0]:=by
  simp only[gk,e]
  have T:(gf (cN ks)).cells=[gf (cN ks)]:=by rcases hv with q|⟨q,_⟩<;>rw[q]<;>rfl
  unfold Dp cq;rw[if_pos ⟨rfl,of_decide_eq_true rfl⟩];unfold cq;rw[if_pos ⟨by rw[T];rfl,of_decide_eq_true rfl⟩,T];rfl
 unfold Dp at hf;refine Vx @hl @hf @hv.bL @goInt.eq_1 @D8 ?_;refine b9 (λi e J=>e=[(5,.mp 1 0),(12,gf (cN ks)),(13,ag ks.length),(14,ag i)]/\J=[.cells h.aF.cells false,.cells [c0,c1,c2,c3,c4,c5,fN,gS,gw,c9,iu,iw,.af,gf (cN ks),ag ((2+sizes (ks.take i):Nat):Int),ag ((mw (ks.take i):Nat):Int)] false]) ks.length ⟨rfl,rfl⟩ ?_ ?_;rintro i e J Q ⟨rfl,rfl⟩;obtain⟨k,hki⟩:=cF Q;have i_:(cN ks)[i]?=some k.aF:=by rw[BQ];simp[hki]
 have d1:decide ((i:Int)<(ks.length:Int))=true:=aCv
 have e1:bw 1 (gf (cN ks)) (.v (.int .i64 i))=some (.fp [k.aF] 0):=by rw[hv.bC i_ (by rw[Du];rfl),Du]
 have l1:∀J,aq J false 1 (.fp [k.aF] 0)=some k.aF:=λJ=>PG J rfl;obtain⟨d0,Qn,d2,d3,d4,d5,d6,d7,d8,d9,d10,d11,p,q,aoM⟩:=hc.akR (S k (bA hki));have l2:∀J,aq J false 1 (.fp [d0,Qn,d2,d3,d4,d5,d6,d7,d8,d9,d10,d11,p,q,ag (k.size:Int),ag (k.height:Int)] 14)=some (ag (k.size:Int)):=λJ=>PG J rfl;have l3:∀J,aq J false 1 (.fp [d0,Qn,d2,d3,d4,d5,d6,d7,d8,d9,d10,d11,p,q,ag (k.size:Int),ag (k.height:Int)] 15)=some (ag (k.height:Int)):=λJ=>PG J rfl;rw[aoM] at e1 l1;simp only[ag] at e1 l1 l2 l3;have l4:∀a b,aq [.cells h.aF.cells false,.cells [c0,c1,c2,c3,c4,c5,fN,gS,gw,c9,iu,iw,.af,gf (cN ks),a,b] false] false 1 (.mp 1 14)=some a:=λa b=>rfl;have AH:∀a b,aq [.cells h.aF.cells false,.cells [c0,c1,c2,c3,c4,c5,fN,gS,gw,c9,iu,iw,.af,gf (cN ks),a,b] false] false 1 (.mp 1 15)=some b:=λa b=>rfl;have gi:∀a b n,aE [.cells h.aF.cells false,.cells [c0,c1,c2,c3,c4,c5,fN,gS,gw,c9,iu,iw,.af,gf (cN ks),a,b] false] 1 (.mp 1 14) (.v (.int .i64 n))=some [.cells h.aF.cells false,.cells [c0,c1,c2,c3,c4,c5,fN,gS,gw,c9,iu,iw,.af,gf (cN ks),.v (.int .i64 n),b] false]:=λa b n=>rfl;have iN:∀a b n,aE [.cells h.aF.cells false,.cells [c0,c1,c2,c3,c4,c5,fN,gS,gw,c9,iu,iw,.af,gf (cN ks),a,b] false] 1 (.mp 1 15) (.v (.int .i64 n))=some [.cells h.aF.cells false,.cells [c0,c1,c2,c3,c4,c5,fN,gS,gw,c9,iu,iw,.af,gf (cN ks),a,.v (.int .i64 n)] false]:=λa b n=>rfl;have t1:=UO hki;have t2:=ao4 hki;have b1:=NU ks (i+1);have w1:bP.wrap (((2+sizes (ks.take i):Nat):Int)+(k.size:Int))=((2+sizes (ks.take (i+1)):Nat):Int):=by rw[wrap_i64 aCs aCs];omega
 have w2:bP.wrap ((i:Int)+1)=((i+1:Nat):Int):=by rw[wrap_i64 aCs aCs];rfl
 have m1:=max2 (mw (ks.take i)) k.height;rw[<-t2] at m1;exact Bi (cu @ag.eq_1 @d1 @e1 @l1) (cu @l2 @l3 @l4 @AH) @gi @iN @w1 @w2 @m1 tt;rintro e J ⟨rfl,rfl⟩;have d1:decide ((ks.length:Int)<(ks.length:Int))=false:=aCt
 have AH:∀a b,aq [.cells h.aF.cells false,.cells [c0,c1,c2,c3,c4,c5,fN,gS,gw,c9,iu,iw,.af,gf (cN ks),a,b] false] false 1 (.mp 1 15)=some b:=λa b=>rfl;have iN:∀a b n,aE [.cells h.aF.cells false,.cells [c0,c1,c2,c3,c4,c5,fN,gS,gw,c9,iu,iw,.af,gf (cN ks),a,b] false] 1 (.mp 1 15) (.v (.int .i64 n))=some [.cells h.aF.cells false,.cells [c0,c1,c2,c3,c4,c5,fN,gS,gw,c9,iu,iw,.af,gf (cN ks),a,.v (.int .i64 n)] false]:=λa b n=>rfl;have Y:=RO ks;have w1:bP.wrap ((mw ks:Int)+1)=((mw ks+1:Nat):Int):=by rw[wrap_i64 aCs aCs];rfl
 refine y_ @p8.{0} ?_;refine(aW.mp rfl ?_).done;have:=zf (J:=[.cells h.aF.cells false,.cells [c0,c1,c2,c3,c4,c5,fN,gS,gw,c9,iu,iw,.af,gf (cN ks),.v (.int .i64 ((2+sizes ks:Nat):Int)),.v (.int .i64 ((mw ks+1:Nat):Int))] false]) (B_ h) (aA cX (aA (aac ks) (aA (aB (.int .i64 ((2+sizes ks:Nat):Int))) (aA (aB (.int .i64 ((mw ks+1:Nat):Int))) bT))));rw[e] at this;rw[e];exact this
end
end Go.Proofs.YtepejmecchhifaaGreatDoor
section
namespace Go.aH
open Go.RowKit
def ajZ(J:List aa):Prop:=∀b∈J,(∃Z r,b=.cells Z r)\/∃n s e,b=.tok n s e
end Go.aH
namespace Go.Proofs.YtepejmecchhifaaGreatDoor
open Go Go.aH Go.RowKit
def BY(t:bV):∀c∈t.cells,dm c:=λc T=>by
 simp only[vM,dW,cI] at T
 rcases T with rfl|rfl|rfl|rfl|⟨x,_,rfl⟩<;>exact cm _
def GN(t:bV):dm t.aF:=Ec (BY t)
def Ext(O J:List aa):Prop:=∀(j:Nat) b,O[j]?=some b->J[j]?=some b
def Ext.refl(O:List aa):Ext O O:=λ_ _ h=>h
def Ext.app{O l:List aa}:Ext O (O++l):=λ_ _ h=>aJ h
def Ext.nW{O J l:List aa}(h:Ext O J):Ext O (J++l):=λj b q=>aJ (h j b q)
def Ext.nil(J:List aa):Ext [] J:=λj b h=>aCC
def Ext.len{O J:List aa}(h:Ext O J):O.length<=J.length:=by
 rcases cH J.length O.length with q|q
 have:=h J.length _ (br q);rw[h_ (bg _)] at this;cases this;exact q
def Ext.split{O J:List aa}(h:Ext O J):∃l,J=O++l:=by
 refine⟨J.drop O.length,?_⟩;apply zl;intro j
 rcases cH j O.length with q|q
 rw[ei q,h j _ (br q),br q];rw[en q,oW];congr 1;omega
def aj1(O:List aa)(v:U)(l:List bV):Prop:=∃k Z off,v=.rs k Z.length 12 off l.length/\O[k]?=some (.cells Z true)/\∀(i:Nat) t,l[i]?=some t->off+i*12+12<=Z.length/\(Z.drop (off+i*12)).take 12=t.cells
def o6(O:List aa)(v:U)(l:List bV):Prop:=bH v (l.map gk)\/aj1 O v l
def auk{t:bV}(ho:t.cv):dI true 8 t.cells 4=some (.agg (t.marks.map eN)):=by
 have h:t.marks.length=8:=ho.len;have V:t.cells.length=12:=rG ho;unfold dI;rw[if_pos rfl,if_pos aCs];have:t.cells.drop 4=t.marks.map eN:=rfl;rw[this,lH (by simp[h])]
def o6.len{O:List aa}{v:U}{l:List bV}(h:o6 O v l)(J:List aa):bL v J=some (.v (.int .i64 (l.length:Int)),J):=by
 rcases h with h|⟨k,Z,off,rfl,_,_⟩
 have:=h.bL J;rw[bX] at this;exact this;rfl
structure aj6(O:List aa)(p:U)(t:bV):Prop where
 nil:uQ p=some p
 f0:∃q,ji 0 p=some q/\∀J,Ext O J->aq J false 1 q=some (.v (.int .i64 t.kind))
 f4:∃q,ji 4 p=some q/\∀J,Ext O J->aq J true 8 q=some (.agg (t.marks.map eN))
 all:∀J,Ext O J->aq J true 12 p=some t.aF
def o6.tok{O:List aa}{v:U}{l:List bV}(h:o6 O v l){i:Nat}{t:bV}(ht:l[i]?=some t)(ho:t.cv):∃p,bw 12 v (.v (.int .i64 (i:Int)))=some p/\aj6 O p t:=by
 rcases h with h|⟨k,Z,off,rfl,S,T⟩
 refine⟨.fp t.cells 0,h.bC (x:=t.aF) (by simp[ht]) (rG ho),rfl,⟨_,rfl,λJ _=>rfl⟩,⟨_,rfl,λJ _=>auk ho⟩,λJ _=>II ho⟩;obtain⟨Y,V⟩:=T i t ht;have Q:=(bF.1 ht).1;have hg:∀j,j<12->Z[off+i*12+j]?=t.cells[j]? :=λj hj=>by
  rw[<-V,xX hj,oW]
 refine⟨.rp k Z.length (off+i*12),?_,rfl,⟨_,rfl,λJ he=>?_⟩,⟨_,rfl,λJ he=>?_⟩,λJ he=>?_⟩;show(if 0<=(i:Int)/\(i:Int)<(l.length:Int) then some (U.rp k Z.length (off+(i:Int).toNat*12)) else none)=_;rw[if_pos ⟨aCs,aCs⟩];simp;simp only[aq,he k _ S,if_true];have:=hg 0 aCs;exact this;simp only[aq,he k _ S,if_true];unfold dI;rw[if_pos rfl,if_pos aCs];have:(Z.drop (off+i*12+4)).take 8=((Z.drop (off+i*12)).take 12).drop 4:=by
  rw[List.drop_take,uy]
 rw[this,V];rfl;simp only[aq,he k _ S,if_true];unfold dI;rw[if_pos rfl,if_pos Y,V];rfl
section
variable{G:Cells}{hk:U}{p:bV->Bool}{l:List bV}{O:List aa}
end
end Go.Proofs.YtepejmecchhifaaGreatDoor
end
namespace Go.Proofs.YtepejmecchhifaaGreatDoor
open Go Go.aH Go.RowKit
section
variable{O J hp':List aa}{v:U}{ks:List hc}{K i id j len m n:Nat}{k:hc}{α:Type}{x:aa}{l p:List bV}{t u:bV}{fW:List U}
def Pb(J:List aa)(v:U)(ks:List hc):Prop:=(v=.af/\ks=[])\/(ks≠[]/\∃id,v=.sl (cN ks) (.tok id)/\J[id]?=some (.tok ks.length 1 35))
abbrev x8:=Fr×U
variable{st:List x8}
def hY:List x8->List U
 |[]=>[]
 |(f,v)::r=>hY r++(f.h.cells++[v])
def akH(v w:U):Prop:=∀id xs ys,v=.sl xs (.tok id)->w≠.sl ys (.tok id)
def tN(J:List aa):List x8->Prop
 |[]=>True
 |(f,v)::r=>Pb J v f.ks/\(∀it∈r,akH v it.2)/\tN J r
def afT(ks:List hc):bS 1 (cN ks)=true:=by
 rw[BQ,bS,c7];intro x I;obtain⟨t,_,rfl⟩:=cI.1 I;obtain⟨Z,e⟩:=t.GF;rw[e];rfl
def awm(k:hc)(h:Pb J v ks)(hn:ks.length<1000000000):
  ∃id hp',cM J 1 8 35 v (.sl [k.aF] .exact)=some (.sl (cN (ks++[k])) (.tok id),hp')/\hp'[id]?=some (.tok (ks++[k]).length 1 35)/\(∀j b,j≠id->J[j]?=some b->hp'[j]?=some b)/\
   ((∃ys,v=.sl ys (.tok id))\/J.length<=id)/\(∀Z r,J[id]?≠some (.cells Z r)):=by
 have e1:cN (ks++[k])=cN ks++[k.aF]:=by rw[akS];rfl
 have S:bS 1 [k.aF]=true:=afT [k];have hne:([k.aF]:List U)≠[]:=aCt
 rcases h with⟨rfl,rfl⟩|⟨abn,id,rfl,hid⟩
 refine⟨J.length,J++[.tok 1 1 35],?_,?_,λj b hj h=>?_,az (bg _),λZ r h=>?_⟩;simp[cM,fA,contents,gp,S,e1,cN];simp;exact aJ h;rw[h_ (bg _)] at h;cases h;have hl:id<J.length:=gl hid;refine⟨id,J.set id (.tok (ks.length+1) 1 35),?_,?_,λj b hj h=>?_,ax ⟨_,rfl⟩,λZ r h=>?_⟩;have Y:((cN ks).length+[k.aF].length)*8<=140737488355328:=by rw[D8];simp only[nM];omega
 have apx:=afT ks;simp only[cM,fA,contents,gp,S,apx,e1,hne,if_false,if_true,hid,D8,nM,true_and,and_self,vV] at Y⊢;rw[if_pos Y];rw[aO hl,cG];rfl;rw[av (dj hj)];exact h;rw[hid] at h;cases h
def ML(hj:∀j b,j≠id->J[j]?=some b->hp'[j]?=some b):∀{st:List x8},tN J st->(∀it∈st,∀ys,it.2≠.sl ys (.tok id))->tN hp' st
 |[],_,_=>trivial
 |(f,v)::r,h,hd=>by
  refine⟨?_,h.2.1,ML hj h.2.2 λit hit=>hd it (by simp[hit])⟩
  rcases h.1 with q|⟨q,i,rfl,Q⟩
  exact ax q;refine az ⟨q,i,rfl,hj i _ (λe=>?_) Q⟩;subst e;exact hd (f,.sl (cN f.ks) (.tok i)) aCt _ rfl
def SN:∀{st:List x8},tN J st->∀it∈st,∀ys id,it.2=.sl ys (.tok id)->id<J.length
 |[],_,it,hit=>by cases hit
 |(f,v)::r,h,it,hit=>λys id e=>by
  rcases dW.1 hit with rfl|hit
  rcases h.1 with⟨q,_⟩|⟨_,i,q,Q⟩
  rw[q] at e;cases e;rw[q] at e;cases e;exact gl Q;exact SN h.2.2 it hit ys id e
def atf{f:Fr}(h:tN J ((f,v)::st))(Y:hp'[id]?=some (.tok (f.ks++[k]).length 1 35))(V:∀j b,j≠id->J[j]?=some b->hp'[j]?=some b)
  (h3:(∃ys,v=.sl ys (.tok id))\/J.length<=id):tN hp' ((⟨f.h,f.ks++[k]⟩,.sl (cN (f.ks++[k])) (.tok id))::st):=by
 have hd:∀it∈st,∀ys,it.2≠.sl ys (.tok id):=λit hit ys e=>by
  rcases h3 with⟨zs,bW⟩|h3
  exact h.2.1 it hit id zs ys bW e;have:=SN h.2.2 it hit ys _ e;omega
 exact⟨az ⟨aCt,id,rfl,Y⟩,λit hit i xs ys e=>by cases e;exact hd it hit ys,ML V h.2.2 hd⟩
mutual
theorem GO:∀t:hc,dm t.aF
 |.node h ks=>by
  rw[hc.aF];exact BW λc T=>by
   rcases dN.1 T with T|T
   exact BY h c T;simp only[dW,nN,or_false] at T
   rcases T with rfl|rfl|rfl|rfl
   exact mh;exact alF ks;exact cm _;exact cm _
 |.leaf h=>by
  rw[hc.aF];exact BW λc T=>by
   rcases dN.1 T with T|T
   exact BY h c T;simp only[dW,nN,or_false] at T
   rcases T with rfl|rfl|rfl|rfl
   exact mh;exact mh;exact cm _;exact cm _
 |.text h r=>by
  rw[hc.aF];exact BW λc T=>by
   rcases dN.1 T with T|T
   exact BY h c T;simp only[dW,nN,or_false] at T
   rcases T with rfl|rfl|rfl|rfl
   exact j0 λx I c T=>by
    obtain⟨a,_,rfl⟩:=cI.1 I;have e:c=jz a:=by simpa[jz,gN] using T
    subst e;exact cm _
   exact mh;exact cm _;exact cm _
theorem Qf:∀ks:List hc,∀x∈cN ks,∀c∈x.cells,dm c
 |[],x,I=>by simp[cN] at I
 |k::r,x,I=>λc T=>by
  rw[cN] at I
  rcases dW.1 I with rfl|I
  rw[Du] at T;obtain rfl:=cw.1 T;exact GO k;exact Qf r x I c T
theorem alF:∀ks:List hc,dm (gf (cN ks))
 |[]=>mh
 |k::r=>by
  have e:gf (cN (k::r))=.sl (cN (k::r)) .no:=by rw[cN,gf];exact λh=>aCL
  rw[e];exact j0 λx I c T=>Qf (k::r) x I c T
end
def aev(h:Pb J v ks):lK v (gf (cN ks)):=by
 rcases h with⟨rfl,rfl⟩|⟨hne,id,rfl,_⟩
 exact abQ;have e:gf (cN ks)=.sl (cN ks) .no:=by
  cases ks with
  |nil=>exact(hne rfl).elim
  |cons k r=>rw[cN,gf];exact λh=>aCL
 rw[e];exact j0 λx I c T=>Qf ks x I c T
def U_{A B:List α}(h:A.length=n):(A++B).take n=A:=by rw[<-h,OV];rfl
def Qr{A B:List α}(h:A.length=n):(A++B).drop n=B:=by rw[<-h,List.drop_left'];rfl
section
variable{A B:List U}{h:bV}{w:U}{n:Nat}
def agS(ho:h.cv)(hA:A.length=n*13):(A++(h.cells++[w])++B).length=n*13+13+B.length:=by
 simp[rG ho,hA];omega
def axe(ho:h.cv)(hA:A.length=n*13):dI true 12 (A++(h.cells++[w])++B) (n*13)=some h.aF:=by
 unfold dI;rw[if_pos rfl,if_pos (by rw[agS ho hA];omega),cj,Qr hA,cj,U_ (rG ho)];rfl
def axf(ho:h.cv)(hA:A.length=n*13)(aG:Nat):dI false aG (A++(h.cells++[w])++B) (n*13+12)=some w:=by
 unfold dI;rw[if_neg aCu,cj,en aCs,cj,en (by rw[rG ho];omega),rG ho,hA,show n*13+12-n*13-12=0 by omega];rfl
def axg(ho:h.cv)(hA:A.length=n*13)(u:U):putAt (A++(h.cells++[w])++B) (n*13+12) [u]=A++(h.cells++[u])++B:=by
 have Y:(A++h.cells).length=n*13+12:=by rw[cG,hA,rG ho]
 have e:A++(h.cells++[w])++B=(A++h.cells)++([w]++B):=aCt
 unfold putAt;rw[e,U_ Y,nM,<-uy,Qr Y];simp
end
def Jm:∀{st:List x8},N8 (st.map (·.1))->(hY st).length=st.length*13
 |[],_=>rfl
 |(f,v)::r,h=>by
  have:=Jm (st:=r) h.2.2;simp only[hY,cG,di,fI,rG h.1,this];omega
def yQ(n:Int):U:=.v (.int .i64 n)
def vJ:List U:=[.v (.int .i64 0),.v (.int .i64 0),.v (.int .i64 0),.v (.int .i32 0),.v (.int .u16 0),.v (.int .u16 0),.v (.int .u16 0),.v (.int .u16 0),.v (.int .u16 0),.v (.int .u16 0),.v (.int .u16 0),.v (.int .u16 0),.af]
structure J_(O:List aa)(l:List bV)(i:Nat)(st:List x8)(fW:List U)(J:List aa):Prop where
 ew:J[O.length]?=some (.cells (hY st++fW) true)
 base:Ext O J
 ks:tN J st
 go:iJ l.length (l.drop i) (st.map (·.1))=iJ l.length l [⟨rz,[]⟩]
 ne:st≠[]
 len:st.length<=41
 ok:N8 (st.map (·.1))
 size:sH (st.map (·.1))+st.length<=i+1
 kids:rE (st.map (·.1))<=i
 aqI:i<=l.length
def aex:∀{st:List x8},tN J st->∀it∈st,∀ys id,it.2=.sl ys (.tok id)->∃n,J[id]?=some (.tok n 1 35)
 |[],_,it,hit=>by cases hit
 |(f,v)::r,h,it,hit=>λys id e=>by
  rcases dW.1 hit with rfl|hit
  rcases h.1 with⟨q,_⟩|⟨_,i,q,Q⟩
  rw[q] at e;cases e;rw[q] at e;cases e;exact⟨_,Q⟩;exact aex h.2.2 it hit ys id e
def aew{Z:List U}{b:Bool}(h0:J[K]?=some (.cells Z b))(h:tN J st):tN (J.set K x) st:=
 ML (id:=K) (λj b hj q=>aDS) h λit hit ys e=>by
  obtain⟨n,hn⟩:=aex h it hit ys K e;rw[h0] at hn;cases hn
def DJ(O:List aa):Prop:=∀b∈O,∃Z r,b=.cells Z r
def DJ.plain(h:DJ O):ajZ O:=λb hb'=>ax (h b hb')
def amR(T:DJ O)(he:Ext O J)(V:∀j b,j≠id->J[j]?=some b->hp'[j]?=some b)(h5:∀Z r,J[id]?≠some (.cells Z r)):Ext O hp':=λj b q=>by
 refine V j b (λe=>?_) (he j b q);subst e;obtain⟨Z,r,rfl⟩:=T b (bA q);exact h5 Z r (he _ _ q)
def Zz(he:Ext O J):Ext O (J.set O.length x):=λj b q=>by
 have:=gl q;rw[av aCs];exact he j b q
def P2(hbc:DJ O){i':Nat}{g:Fr}{u:U}{r:List x8}(hm:m=(hY ((g,u)::r)++fW).length)(ew:J[O.length]?=some (.cells (hY ((g,u)::r)++fW) true))(aoP:Ext O J)
  (S:tN J ((g,u)::r)) (hok:N8 (g::r.map (·.1))) (hlen:r.length+1<=41) (hw:k.wf) (jj:iJ l.length (l.drop i') (⟨g.h,g.ks++[k]⟩::r.map (·.1))=iJ l.length l [⟨rz,[]⟩])
  (hsz:sH (g::r.map (·.1))+k.size+(r.length+1)<=i'+1) (xe:rE (g::r.map (·.1))+1<=i') (jk:i'<=l.length) (hl:l.length<=20000):
  ∃w' hp' yA,cM J 1 8 35 u (.sl [k.aF] .exact)=some (w',hp')/\aE hp' 1 (.rp O.length m (r.length*13+12)) w'=some yA/\m=(hY ((⟨g.h,g.ks++[k]⟩,w')::r)++fW).length/\J_ O l i' ((⟨g.h,g.ks++[k]⟩,w')::r) fW yA:=by
 have hA:(hY r).length=r.length*13:=Jm hok.2.2;have hn:g.ks.length<1000000000:=by simp only[rE] at xe;omega
 obtain⟨id,hp',Y,V,h3,h4,h5⟩:=awm k S.1 hn;have uX:hp'[O.length]?=some (.cells (hY ((g,u)::r)++fW) true):=h3 O.length _ (λe=>by subst e;exact h5 _ _ ew) ew;have hk':=atf S V h3 h4;have T:hY ((g,u)::r)++fW=hY r++(g.h.cells++[u])++fW:=rfl;have R7:∀x,(hY r++(g.h.cells++[x])++fW).length=r.length*13+13+fW.length:=λx=>agS hok.1 hA;refine⟨.sl (cN (g.ks++[k])) (.tok id),hp',hp'.set O.length (.cells (hY r++(g.h.cells++[.sl (cN (g.ks++[k])) (.tok id)])++fW) true),Y,?_,?_,⟨?_,Zz (amR hbc aoP h3 h5),?_,?_,aCt,aC4,⟨hok.1,λt ht=>?_,hok.2.2⟩,?_,?_,jk⟩⟩;rw[T] at uX hm;show(match hp'[O.length]? with
  |some (.cells Z true)=>if m=Z.length then dG hp' O.length true Z 1 (r.length*13+12) (.sl (cN (g.ks++[k])) (.tok id)) else none
  |_=>none)=_
 rw[uX];dsimp only;rw[if_pos hm];unfold dG;rw[if_pos ⟨rfl,by rw[R7];omega,rfl⟩];congr 4;exact axg hok.1 hA _;rw[hm,T,R7];show _=(hY r++(g.h.cells++[_])++fW).length;rw[R7];rw[aO (gl uX)];rfl;exact aew uX hk';exact jj
 rcases dN.1 ht with ht|ht
 exact hok.2.1 t ht;rw[cw.1 ht];exact hw;simp only[ep,sH,FE,sizes] at hsz⊢;simp only[di];omega;simp only[ep,rE,cG,nM] at xe⊢;omega
def PC(t:hc):dy 1 [t.aF]=some (.sl [t.aF] .exact):=by
 obtain⟨Z,e⟩:=t.GF;rw[e];rfl
def amW(ho:t.cv):cq vJ [(0,12,t.aF)]=some (t.cells++[.af]):=by
 obtain⟨c0,c1,c2,c3,c4,c5,fN,gS,gw,c9,iu,iw,e⟩:=Jy ho;simp only[gk,e];rfl
def afY(ho:t.cv):bS 13 [.agg (t.cells++[.af])]=true:=by
 have Y:(t.cells++[U.af]).length=13:=by rw[cG,rG ho];rfl
 have V:(t.cells++[U.af]).all bl=true:=by
  rw[c7];intro c T;simp only[vM,gP,dW,dN,cI,nN,or_false] at T
  rcases T with rfl|rfl|rfl|rfl|⟨x,_,rfl⟩|rfl<;>rfl
 simp only[bS,l5,oV,Bool.and_true,gN,Y,V];rfl
def akg(ho:t.cv):dy 13 [.agg (t.cells++[.af])]=some (.sl [.agg (t.cells++[.af])] .exact):=by
 have:=afY ho;unfold dy;rw[if_pos ⟨this,aCt⟩]
def awl(hm:m=(hY st++fW).length)(ew:J[K]?=some (.cells (hY st++fW) true))(hA:(hY st).length=st.length*13)(ho:t.cv)(hl:st.length<=41):
  mc J 13 72 97 (.rs K m 13 0 st.length) (.sl [.agg (t.cells++[.af])] .exact)=some (.rs K (hY ((⟨t,[]⟩,.af)::st)++fW.drop 13).length 13 0 (st.length+1),J.set K (.cells (hY ((⟨t,[]⟩,.af)::st)++fW.drop 13) true)):=by
 have Y:=afY ho;have D:ke (hY st++fW) (st.length*13) (flat [.agg (t.cells++[.af])])=hY ((⟨t,[]⟩,.af)::st)++fW.drop 13:=by
  have hf:flat [.agg (t.cells++[.af])]=t.cells++[.af]:=aFi
  have apA:(t.cells++[U.af]).length=13:=by rw[cG,rG ho];rfl
  unfold ke;rw[hf,U_ hA,apA,<-uy,Qr hA];rfl
 have V:(st.length+(0+1))*72<=140737488355328:=aCs
 have h3:¬([b8 (t.cells++[.af])]=([]:List U)):=aCt
 show fA J 13 72 97 (.rs K m 13 0 st.length) (.sl [.agg (t.cells++[.af])] .exact)=_;simp only[fA,contents,gp,Y,h3,if_false,and_self,vV,if_true,true_and,ew,di,fI];rw[if_pos V,if_pos hm,D]
def alg(hI:J_ O l i st fW J)(ho:t.cv)(hl:st.length<=40)(jj:iJ l.length (l.drop (i+1)) (⟨t,[]⟩::st.map (·.1))=iJ l.length l [⟨rz,[]⟩])(Q:i<l.length):
  J_ O l (i+1) ((⟨t,[]⟩,.af)::st) (fW.drop 13) (J.set O.length (.cells (hY ((⟨t,[]⟩,.af)::st)++fW.drop 13) true)):=by
 refine⟨?_,Zz hI.base,?_,jj,aCt,aCv,⟨ho,λk S=>(by cases S),hI.ok⟩,?_,?_,Q⟩;rw[aO (gl hI.ew)];exact aew hI.ew ⟨ax ⟨rfl,rfl⟩,λit hit id xs ys e=>aCI,hI.ks⟩;have:=hI.size;simp only[ep,sH,sizes,di];omega;have:=hI.kids;simp only[ep,rE,fI];omega
def agY{k:Nat}(h:j<=len)(J:List aa):pU n (.rs k m n 0 len) none (some (.v (.int .i64 (j:Int)))) none J=some (.rs k m n 0 j,J):=by
 have e:kC len len none (some (j:Int)) none=some (0,j,len):=by
  simp[kC,iH,h]
 show DI (λr=>(r,J)) (kR n (.rs k m n 0 len) none (some (.v (.int .i64 (j:Int)))) none)=_;simp[kR,mC,e]
def UA{k:Nat}(h:j<len):bw n (.rs k m n 0 len) (.v (.int .i64 (j:Int)))=some (.rp k m (j*n)):=by
 show(if 0<=(j:Int)/\(j:Int)<(len:Int) then some (U.rp k m (0+(j:Int).toNat*n)) else none)=_;rw[if_pos ⟨aCs,aCs⟩];simp
def agZ{k o:Nat}(J:List aa):bL (.rs k m n o len) J=some (.v (.int .i64 (len:Int)),J):=rfl
def De(k m o:Nat):uQ (.rp k m o)=some (.rp k m o):=rfl
def yY(off k m o:Nat):ji off (.rp k m o)=some (.rp k m (o+off)):=rfl
section
variable{A B:List U}{h:bV}{w:U}{n m K:Nat}{J:List aa}
def agW(ew:J[K]?=some (.cells (A++(h.cells++[w])++B) true))(hm:m=(A++(h.cells++[w])++B).length)(ho:h.cv)(hA:A.length=n*13):aq J true 12 (.rp K m (n*13))=some h.aF:=by
 simp only[aq,ew];rw[if_pos hm,axe ho hA]
def Jp(ew:J[K]?=some (.cells (A++(h.cells++[w])++B) true))(hm:m=(A++(h.cells++[w])++B).length)(ho:h.cv)(hA:A.length=n*13):aq J false 1 (.rp K m (n*13+12))=some w:=by
 simp only[aq,ew];rw[if_pos hm,axf ho hA]
end
def Lj(k:IntKind):∀(a b:List Int),a.length=b.length->dF (dJ a.length .i) (a.map λx=>bO (.int k x)) (b.map λx=>bO (.int k x))=some (decide (a=b))
 |[],[],_=>rfl
 |[],_::_,h=>aCL
 |_::_,[],h=>aCL
 |x::a,y::b,h=>by
  have ih:=Lj k a b aC2;simp only[di,ajv,ep,dF,lS,if_true,ih];congr 1;by_cases I:x=y;subst I;simp;simp[I]
def Lo(ht:t.cv)(hu:u.cv):qi [.i,.i,.i,.i,.i,.i,.i,.i] false (.agg (u.marks.map eN)) (.agg (t.marks.map eN))=some (.v (.bool (decide (u.marks=t.marks)))):=by
 have h:=Lj .u16 u.marks t.marks (by rw[hu.len,ht.len]);rw[hu.len] at h;show(dF [.i,.i,.i,.i,.i,.i,.i,.i] (u.marks.map eN) (t.marks.map eN)).map (λr=>bO (.bool (false !=r)))=_;have e:dF [.i,.i,.i,.i,.i,.i,.i,.i] (u.marks.map eN) (t.marks.map eN)=some (decide (u.marks=t.marks)):=h;rw[e];simp
def z12:List U:=vJ.take 12
def Xw(ho:u.cv)(J:List aa):aE (J++[.cells z12 false]) 12 (.mp J.length 0) u.aF=some (J++[.cells u.cells false]):=by
 have Y:(J++[aj z12 false])[J.length]?=some (.cells z12 false):=aCt
 have V:u.aF.cells.all bl=true:=by
  show u.cells.all bl=true;rw[c7];intro c T;simp only[vM,dW,cI] at T
  rcases T with rfl|rfl|rfl|rfl|⟨x,_,rfl⟩<;>rfl
 simp only[aE,Y,dG];rw[if_pos ⟨rG ho,by show 0+12<=12;omega,V⟩];have:putAt z12 0 u.aF.cells=u.cells:=by
  show z12.take 0++u.cells++z12.drop (0+u.cells.length)=u.cells;rw[rG ho];show []++u.cells++[]=u.cells;simp
 rw[this];simp
def aul(u:bV)(J:List aa):aq (J++[.cells u.cells false]) false 1 (.mp J.length 3)=some (.v (.int .i32 u.rune)):=by
 have Y:(J++[aj u.cells false])[J.length]?=some (.cells u.cells false):=aCt
 simp only[aq,Y];rfl
def awn{xs:List Int}{x:Int}(h:J[id]?=some (.tok xs.length 1 21))(hn:xs.length<=1000000):
  cM J 1 4 21 (.sl (xs.map jz) (.tok id)) (.sl [.v (.int .i32 x)] .exact)=some (.sl ((xs++[x]).map jz) (.tok id),J.set id (.tok (xs.length+1) 1 21)):=by
 have Y:bS 1 [bO (.int .i32 x)]=true:=rfl;have V:bS 1 (xs.map jz)=true:=by
  rw[bS,c7];intro y hy;obtain⟨a,_,rfl⟩:=cI.1 hy;rfl
 have hne:¬([bO (.int .i32 x)]=([]:List U)):=aCt
 have h3:(xs.length+(0+1))*4<=140737488355328:=aCs
 simp only[cM,fA,contents,gp,Y,V,hne,if_false,if_true,h,bX,di,fI,true_and,and_self,vV,eD,ep,kn];rw[if_pos h3];rfl
def Vh(p:α->Bool):∀(l:List α) x,x∈l.takeWhile p->p x=true
 |[],x,h=>aCC
 |a::l,x,h=>by
  rw[ajB] at h;split at h;rename_i ha
  rcases dW.1 h with rfl|h
  exact ha;exact Vh p l x h;cases h
def Vi(p:α->Bool):∀(l:List α) u,l[(l.takeWhile p).length]?=some u->p u=false
 |[],u,h=>aCC
 |a::l,u,h=>by
  rw[ajB] at h;split at h;exact Vi p l u aC2;rename_i ha;simp at h;subst h;simpa using ha
def ag0(h:(l.drop (i+1)).takeWhile (ij t)=p):
  (∀k,k<p.length->∃u,l[i+k+1]?=some u/\ij t u=true)/\(∀u,l[i+p.length+1]?=some u->ij t u=false)/\(∀k u,p[k]?=some u->l[i+k+1]?=some u):=by
 have key:∀(k:Nat),k<p.length->(l.drop (i+1))[k]?=p[k]? :=λk S=>by
  have e:l.drop (i+1)=p++(l.drop (i+1)).dropWhile (ij t):=by rw[<-h,List.takeWhile_append_dropWhile]
  rw[e,ei S]
 have aeq:∀(k:Nat) u,p[k]?=some u->l[i+k+1]?=some u:=λk u hu=>by
  have S:=gl hu;have:=key k S;rw[oW,hu] at this;rw[<-this];congr 1;omega
 refine⟨λk S=>?_,λu hu=>?_,aeq⟩;have hu:p[k]?=some p[k]:=br S;refine⟨p[k],aeq k _ hu,?_⟩;have hm:p[k]∈(l.drop (i+1)).takeWhile (ij t):=by rw[h];exact We S
 exact Vh _ _ _ hm;refine Vi (ij t) (l.drop (i+1)) u ?_;rw[h,oW,<-hu];congr 1;omega
def UC(h:(l.drop (i+1)).takeWhile (ij t)=p)(Q:i<l.length):i+p.length<l.length:=by
 have Y:p.length<=(l.drop (i+1)).length:=by rw[<-h];exact(List.takeWhile_sublist _).length_le
 rw[uz] at Y;omega
def auT(J:List aa)(hn:n<=1000000):zI J 1 4 21 [.v (.int .i32 0)] (.v (.int .i64 0)) (.v (.int .i64 (n:Int)))=some (.sl [] (.tok J.length),J++[.tok 0 1 21]):=by
 show(if(0:Int)=0/\0<=(n:Int)/\(n:Int)*(4:Nat)<=140737488355328/\(n:Int)<=9223372036854775807/\[bO (.int .i32 0)].length=1/\1≠0 then _ else none)=_;rw[if_pos ⟨rfl,aCs,aCs,aCs,rfl,aCu⟩]
def ahk(hv:bH v (l.map gk))(ht:l[i]?=some t)(h:∀k u,p[k]?=some u->l[i+k+1]?=some u)(hl:i+p.length<l.length)(ho:∀t∈l,t.cv)(J:List aa):
  pU 12 v (some (.v (.int .i64 (i:Int)))) (some (.v (.int .i64 ((i+p.length+1:Nat):Int)))) none J=some (.sl ((t::p).map gk) .no,J):=by
 rcases hv with rfl|⟨_,hn⟩
 have O:kC (l.map gk).length (l.map gk).length (some (i:Int)) (some ((i+p.length+1:Nat):Int)) none=some (i,i+p.length+1,(l.map gk).length):=by
  rw[bX];simp only[kC,iH,x4,ze,je,if_false];rw[if_pos ⟨aCs,aCs⟩];dsimp only;rw[if_pos ⟨aCs,aCs⟩];simp;omega
 have hall:((l.map gk).all λx=>x.cells.length==12)=true:=by
  rw[c7];intro x I;obtain⟨u,hu,rfl⟩:=cI.1 I;have:=rG (ho u hu);simpa[gk,gN] using this
 have Mn:((l.map gk).take (i+p.length+1)).drop i=(t::p).map gk:=by
  apply zl;intro k;rw[oW]
  rcases cH k (p.length+1) with q|q
  rw[xX aCs];cases k with
  |zero=>simp[ht]
  |succ k=>
   have S:p[k]?=some p[k]:=br aCs;have:=h k _ S;simp only[eo,ep,vQ,S];rw[show i+(k+1)=i+k+1 by omega,this]
  rw[h_ (by rw[zm];omega),h_ aCv]
 show DI (λr=>(r,J)) (kR 12 (.sl (l.map gk) .no) (some (.v (.int .i64 (i:Int)))) (some (.v (.int .i64 ((i+p.length+1:Nat):Int)))) none)=_;have oE:∀n:Int,mC (some (.v (.int .i64 n)))=some (some n):=λn=>rfl;have oF:mC none=some none:=rfl;unfold kR;rw[oE,oE,oF];dsimp only;rw[O];dsimp only;rw[if_pos hall,Mn];have Im:Bc .no (l.map gk).length i (i+p.length+1) (l.map gk).length (Option.isSome (none:Option Int))=.no:=by
  unfold Bc;rw[if_neg aCt];split;split<;>rfl;rfl
 rw[Im];rfl;have:=congrArg Bv hn;simp at this;subst this;simp at hl
def o6.seg(hv:o6 O v l)(ht:l[i]?=some t)(h:∀k u,p[k]?=some u->l[i+k+1]?=some u)(hl:i+p.length<l.length)(ho:∀t∈l,t.cv):
  ∃v',(∀J,pU 12 v (some (.v (.int .i64 (i:Int)))) (some (.v (.int .i64 ((i+p.length+1:Nat):Int)))) none J=some (v',J))/\o6 O v' (t::p):=by
 rcases hv with hv|⟨k,Z,off,rfl,S,T⟩
 exact⟨_,λJ=>ahk hv ht h hl ho J,ax (ax rfl)⟩;have hb':kC l.length l.length (some (i:Int)) (some ((i+p.length+1:Nat):Int)) none=some (i,i+p.length+1,l.length):=by
  simp only[kC,iH,x4,ze,je,if_false];rw[if_pos ⟨aCs,aCs⟩];dsimp only;rw[if_pos ⟨aCs,aCs⟩];simp;omega
 have hall:∀(j:Nat) u,(t::p)[j]?=some u->l[i+j]?=some u:=λj u hu=>by
  cases j with
  |zero=>cases hu;exact ht
  |succ j=>exact h j u hu
 refine⟨.rs k Z.length 12 (off+i*12) (t::p).length,λJ=>?_,az ⟨k,Z,off+i*12,rfl,S,λj u hu=>?_⟩⟩;show DI (λr=>(r,J)) (kR 12 (.rs k Z.length 12 off l.length) (some (.v (.int .i64 (i:Int)))) (some (.v (.int .i64 ((i+p.length+1:Nat):Int)))) none)=_;have oE:∀n:Int,mC (some (.v (.int .i64 n)))=some (some n):=λn=>rfl;have oF:mC none=some none:=rfl;unfold kR;rw[oE,oE,oF];dsimp only;rw[if_pos ⟨rfl,rfl⟩,hb'];dsimp only;by_cases RZ:i=0;subst RZ;rw[if_pos rfl];simp;rw[if_neg RZ,if_pos aCs];simp;omega;have:=T (i+j) u (hall j u hu);rw[show off+i*12+j*12=off+(i+j)*12 by omega];exact this
end
section
variable{p:bK}
def alG(h:p.tail=.no):dm p.kv:=by
 unfold bK.kv;split;exact mh;rw[h];exact j0 λx I c T=>by
  obtain⟨y,_,rfl⟩:=cI.1 I;rw[cw.1 (show c∈[ag y] from T)];exact cm _
def YF(h:p.tail=.no):∀c∈p.cells,dm c:=λc T=>by
 simp only[ot,dW,nN,or_false] at T
 rcases T with rfl|rfl|rfl|rfl|rfl
 exact cm _;exact cm _;exact cm _;exact cm _;exact alG h
def alK(h:p.tail=.no):dm p.aF:=Ec (YF h)
def BV{v}{ps}(h:qe v ps):dm v:=by
 rcases h.v with rfl|⟨rfl,_⟩
 exact j0 λx I c T=>by
  obtain⟨p,J,rfl⟩:=cI.1 I;exact YF (h.no p J) c T
 exact mh
def rU(J:List aa)(v:U)(st:List Int):Prop:=(v=.af/\st=[])\/∃k Z,v=.rs k Z.length 1 0 st.length/\J[k]?=some (.cells Z true)/\st.length<=Z.length/\∀(i:Nat) x,st[i]?=some x->Z[i]?=some (ag x)
def rU.app{J l}{v}{st}(h:rU J v st):rU (J++l) v st:=by
 rcases h with h|⟨k,Z,Y,V,h3,h4⟩
 exact ax h;exact az ⟨k,Z,Y,aJ V,h3,h4⟩
@[go_sem]def rU.len{J}{v}{st}(h:rU J v st):∀J,bL v J=some (.v (.int .i64 (st.length:Int)),J):=λJ=>by
 rcases h with⟨rfl,rfl⟩|⟨k,Z,rfl,_⟩<;>rfl
def rU.lo{J}{v}{st}{n}(h:rU J v st)(hn:n<=st.length):∃u,pU 1 v (some (.v (.int .i64 (n)))) none none J=some (u,J)/\s3 J u (st.drop n):=by
 rcases h with⟨rfl,rfl⟩|⟨k,Z,rfl,S,hle,T⟩
 obtain rfl:n=0:=aDP
 exact⟨.af,rfl,ax ⟨rfl,rfl⟩⟩;have O:kC st.length st.length (some (n)) none none=some (n,st.length,st.length):=by
  simp only[kC,iH,x4,ze,je,if_false];rw[if_pos ⟨aCs,aCs⟩];simp
 have e:pU 1 (.rs k Z.length 1 0 st.length) (some (.v (.int .i64 (n)))) none none J=some (if n=0 then .rs k Z.length 1 0 st.length else if n<st.length then .rs k Z.length 1 (0+n*1) (st.length-n) else .sl [] .no,J):=by
  show DI (λr=>(r,J)) (kR 1 (.rs k Z.length 1 0 st.length) (some (.v (.int .i64 (n)))) none none)=_;have oE:∀n:Int,mC (some (.v (.int .i64 n)))=some (some n):=λn=>rfl;have oF:mC none=some none:=rfl;unfold kR;rw[oE,oF];dsimp only;rw[if_pos ⟨rfl,rfl⟩,O];dsimp only;split;rfl;split<;>rfl
 refine⟨_,e,?_⟩;split;rename_i z;subst z;exact az (az ⟨k,Z,0,rfl,S,λi x I=>by rw[e6];exact T i x I⟩);split;refine az (az ⟨k,Z,n,aCt,S,λi x I=>?_⟩);rw[oW] at I;exact T _ x I;have:st.drop n=[]:=sO aCs;rw[this];exact az (ax ⟨.no,rfl⟩)
def rU.push{J}{v}{st}{n}(h:rU J v st)(hn:n<=st.length)(hs:st.length<=100000)(x):∃u u' hp',pU 1 v none (some (.v (.int .i64 (n)))) none J=some (u,J)/\mc J 1 8 3 u (.sl [.v (.int .i64 x)] .exact)=some (u',hp')/\rU hp' u' (st.take n++[x]):=by
 rcases h with⟨rfl,rfl⟩|⟨k,Z,rfl,S,hle,T⟩
 obtain rfl:n=0:=aDP
 refine⟨.af,.rs J.length 1 1 0 1,J++[.cells [ag x] true],rfl,rfl,az ⟨J.length,[ag x],rfl,aCt,aCt,λi y hy=>?_⟩⟩
 rcases i with _|i
 simp at hy;subst hy;rfl;simp at hy;have hl:=gl S;refine⟨.rs k Z.length 1 0 n,.rs k (ke Z n [ag x]).length 1 0 (n+1),J.set k (.cells (ke Z n [ag x]) true),agY hn J,?_,az ⟨k,ke Z n [ag x],?_,aO hl,?_,λi y hy=>?_⟩⟩;show fA J 1 8 3 (.rs k Z.length 1 0 n) (.sl [.v (.int .i64 x)] .exact)=_;have Y:bS 1 [bO (.int .i64 x)]=true:=rfl;have h3:¬([bO (.int .i64 x)]=([]:List U)):=aCt
 have hf:flat [bO (.int .i64 x)]=[ag x]:=rfl;simp only[fA,contents,gp,Y,h3,if_false,and_self,vV,if_true,true_and,S,di,fI,hf,Nat.mul_one];rw[if_pos aCs];simp[F5 hn];simp[ke,F5 hn];omega;unfold ke
 rcases Nat.lt_trichotomy i n with z|z|z
 rw[cj,ei aCv,xX z];rw[ei aCv,xX z] at hy;exact T i y hy;subst z;rw[cj,en aCv];rw[en aCv] at hy;have e1:i-(Z.take i).length=0:=aCv
 have e2:i-(st.take i).length=0:=aCv
 rw[e2] at hy;rw[e1];simp at hy⊢;rw[hy];rw[h_ aCv] at hy;cases hy
def nJ(ps:List bK):Nat->List Int->Prop
 |0,st=>st=[]
 |i+1,st=>∃p og,ps[i]?=some p/\nJ ps i (og++p.kids)/\st=og++[(i:Int)]
def ahX{ps}:∀{i} {st},nJ ps i st->st.length<=i
 |0,st,h=>by rw[show st=[] from h];exact bg _
 |i+1,st,⟨p,og,_,Y,V⟩=>by
  have:=ahX Y;rw[V];simp at this⊢;omega
def WS(ps:List bK)(r:U):Prop:=∃b:Bool,r=b/\(b=true->ps=[]\/∃x,nJ ps ps.length [x])
@[go_sem]def vC(J)(p:bK):aE (J++[.cells [(0:Int),(0:Int),(0:Int),.v (.string ⟨#[]⟩),.af] false]) 5 (.mp J.length 0) (.agg p.cells)=some (J++[.cells p.cells false]):=by
 have Y:(b8 p.cells).cells.length=5:=rfl;have V:(b8 p.cells).cells.all bl=true:=by
  have:=E_ p;simp only[bS,l5,oV,Bool.and_true,dV] at this;exact this.2
 simp only[aE,en (bg _),kL,l6,dG];rw[if_pos ⟨Y,aCt,V⟩];simp[putAt,gN,ot]
def agL{G}(bh:dL G){v}{ps}(h:qe v ps):cC G ay 115 [v] (WS ps):=by
 refine cU (acS.go ?_);have ln:=h.v.bL;rw[bX] at ln;have hlen:=h.len;have fin:∀(J) (b),(b=true->ps=[]\/∃x,nJ ps ps.length [x])->∃n aM,b7 J n b=some aM/\WS ps aM:=λJ b O=>by
  obtain⟨n,hn⟩:=(aB (.bool b):aW J _ _).done;exact⟨n,_,hn,b,rfl,O⟩
 refine wy ?_;refine b9 (λi e J=>∃st ak,e=[(0,v),(3,ak),(7,v),(8,ag ps.length),(9,ag i)]/\nJ ps i st/\rU J ak st) ps.length ⟨[],.af,rfl,rfl,ax ⟨rfl,rfl⟩⟩ ?_ ?_;rintro i e J Q ⟨st,ak,rfl,hs,ho⟩;obtain⟨p,cZ⟩:=cF Q;have jl:=h.ok i p cZ;have mY:=h.no p (bA cZ);have sr:=ahX hs;have e1:bw 5 v (.v (.int .i64 (i)))=some (.fp p.cells 0):=h.v.bC (x:=p.aF) aEi rfl;have I:rU (J++[.cells p.cells false]) ak st:=ho.app;have s1:=vC J p;have SV:aq (J++[.cells p.cells false]) true 5 (.mp J.length 0)=some (.agg p.cells):=by
  simp only[aq,en (bg _),kL,l6];rfl
 have l4:aq (J++[.cells p.cells false]) false 1 (.mp J.length 4)=some p.kv:=by
  simp only[aq,en (bg _),kL,l6];rfl
 have iK:=jl.kids;generalize J++[.cells p.cells false]=g at I s1 SV l4;have w1:bP.wrap ((st.length:Int)-(p.kids.length:Int))=(st.length:Int)-(p.kids.length:Int):=wrap_i64 aCs aCs;refine lE (gO (akz bh jl mY) (bn (alK mY) cx) ?_);rintro r ⟨b,rfl⟩;refine wy ?_;cases b with
 |false=>
  exact wy (fin _ false λq=>aCE)
 |true=>
  refine wy ?_;refine b5 (λq=>?_) λq=>?_;exact fin _ false λq=>aCE
  have hle:p.kids.length<=st.length:=aCB
  have jv:(st.length:Int)-(p.kids.length:Int)=((st.length-p.kids.length:Nat):Int):=aCs
  obtain⟨u,c1,c2⟩:=I.lo (n:=st.length-p.kids.length) aCs;have kv:s3 g p.kv p.kids:=by
   unfold bK.kv;split;rename_i z;exact ax ⟨rfl,z⟩;exact az (ax ⟨_,rfl⟩)
  rw[jv] at q⊢;refine wy (a_ (amM c2 kv aCv aCs) ?_);rintro _ g2 ⟨⟨b2,rfl,gI⟩,hh⟩;rw[hh];clear hh;refine wy ?_;cases b2 with
  |false=>
   exact wy (fin _ false λq=>aCE)
  |true=>
   have hd:=gI rfl;obtain⟨u1,u2,g3,d1,d2,d3⟩:=I.push (n:=st.length-p.kids.length) aCs aCs (i);refine wy ?_;refine⟨_,_,rfl,⟨p,st.take (st.length-p.kids.length),cZ,?_,rfl⟩,d3⟩;have z:st.take (st.length-p.kids.length)++p.kids=st:=(congrArg (λy=>st.take (st.length-p.kids.length)++y) hd.symm).trans (Wi _ _);rw[z];exact hs
 rintro e J ⟨st,ak,rfl,hs,ho⟩;refine lE ?_;refine b5 (λq=>?_) λq=>?_;obtain⟨x,rfl⟩:∃x,st=[x]:=Bw.1 aCB;exact fin _ true λ_=>az ⟨x,hs⟩;refine wy (fin _ _ λz=>ax ?_);have:(ps.length:Int)=0:=eq_of_beq z;exact List.length_eq_zero_iff.1 aCs
end
section
variable{l:List (List UInt8)}
@[go_sem]def vn(l:List (List UInt8)):bS 1 (l.map ai)=true:=by
 rw[bS,c7];intro x I;obtain⟨t,ht,rfl⟩:=cI.1 I;rfl
def zX:∀x∈l.map ai,∀c∈x.cells,dm c:=λx I c T=>by
 obtain⟨s,_,rfl⟩:=cI.1 I;rw[cw.1 (show c∈[ai s] from T)];exact cm _
def nZ{v}(h:bH v (l.map ai)):dm v:=by
 rcases h with rfl|⟨rfl,_⟩
 exact j0 zX;exact mh
def zK{J}{v}{xs}{n}{e}(h:bU J v xs n e)(T:∀x∈xs,∀c∈x.cells,dm c):∃v',bH v' xs/\lK v v'/\dm v':=by
 rcases h with⟨rfl,rfl⟩|⟨id,rfl,_⟩
 exact⟨.af,az ⟨rfl,rfl⟩,mh,mh⟩;exact⟨.sl xs .no,ax rfl,j0 T,j0 T⟩
def akk{G}{k}{J}{ak}(S:J[k]?=some (.cells [ak] false))(hA:bU J ak (l.map ai) 1 9)(hl:l.length<=100000)(s):
  bq G ay 109 [ai s,.mp k 0] J λr hp'=>∃bD,hp'[k]?=some (.cells [bD] false)/\bU hp' bD ((if l.any (s== ·) then l else l++[s]).map ai) 1 9:=by
 refine acN.go ?_;obtain⟨v',Y,V,h3⟩:=zK hA zX;refine wy ?_;refine dx (GS Y h3 aCs s) ?_;refine wy (bI (λq=>?_) λq=>?_);have q':(l.any (s== ·))=false:=aCy
 obtain⟨bf,g2,e2,dS,hne,hle,hk2⟩:=kQ (x:=ai s) (aZ:=16) hA (vn l) rfl aCu aCu aCv;have kb:g2[k]?=some (.cells [ak] false):=hk2 _ _ S λxs z=>by
  rcases hA with⟨q1,_⟩|⟨id,q1,ah⟩
  rw[q1] at z;cases z;rw[q1] at z;cases z;rw[S] at ah;cases ah
 have ho:bl bf=true:=aD1
 have s1:=oh ho kb;have ab:dy 1 [ai s]=some (.sl [ai s] .exact):=rfl;refine nL @q (cy S) @ab @e2 @s1 ?_;refine⟨bf,aO (gl kb),?_⟩;rw[if_neg (by rw[q'];decide),eD]
 rcases dS with z|⟨id,aT,z2⟩
 exact ax z;refine az ⟨id,aT,?_⟩;rw[av];exact z2;rintro rfl;rw[kb] at z2;cases z2;have q':(l.any (s== ·))=true:=aCy
 refine dr @q ?_;refine⟨ak,S,?_⟩;rw[if_pos q'];exact hA
def ajW(ps:List bK)(r:U):Prop:=∃l:List (List UInt8),bH r (l.map ai)/\l.length<=ps.length/\∀s∈l,rj s=true
def afs{G}{v}{ps}(h:qe v ps):cC G ay 63 [v] (ajW ps):=by
 refine cU (acj.go ?_);have ln:=h.v.bL;rw[bX] at ln;have hlen:=h.len;refine wy ?_;refine b9 (λi e J=>∃l ak,e=[(3,.mp 0 0),(4,.fn (.func 109) [] [.mp 0 0]),(8,v),(9,ag ps.length),(10,ag i)]/\l.length<=i/\(∀s∈l,rj s=true)/\J[0]?=some (.cells [ak] false)/\bU J ak (l.map ai) 1 9) ps.length ⟨[],.af,rfl,bg _,aCt,rfl,ax ⟨rfl,rfl⟩⟩ ?_ ?_;rintro i e J Q ⟨l,ak,rfl,hl,hn,h0,hA⟩;obtain⟨p,cZ⟩:=cF Q;have jl:=h.ok i p cZ;have e1:bw 5 v (i:Int)=some (.fp p.cells 0):=h.v.bC (x:=p.aF) aEi rfl;have e2:∀J,aq J true 5 (.fp p.cells 0)=some (.agg p.cells):=λJ=>rfl;have s1:=vC J p;have l0:aq (J++[.cells p.cells false]) false 1 (.mp J.length 0)=some (.v (.int .i64 p.kind)):=by
  simp only[aq,en (bg _),kL,l6];rfl
 have l3:aq (J++[.cells p.cells false]) false 1 (.mp J.length 3)=some (ai p.name):=by
  simp only[aq,en (bg _),kL,l6];rfl
 have h0':(J++[aj p.cells false])[0]?=some (.cells [ak] false):=aJ h0;have si:bU (J++[aj p.cells false]) ak (l.map ai) 1 9:=by
  rcases hA with z|⟨id,aT,z2⟩
  exact ax z;exact az ⟨id,aT,aJ z2⟩
 refine wy (bI (λq=>?_) λq=>?_);refine wy (a_ (akk h0' si aCs p.name) ?_);rintro r g2 ⟨bD,k1,k2⟩;have hnm:rj p.name=true:=by
  have q':p.kind=1:=aCy
  rcases jl.1 with z|z|z
  exact z.2.2.2.1;omega;omega
 refine dP ?_;refine⟨_,bD,rfl,?_,?_,k1,k2⟩;split;omega;simp;omega;intro s hs;split at hs;exact hn s hs
 rcases dN.1 hs with z|z
 exact hn s z;rw[cw.1 z];exact hnm;refine dr @q ?_;exact⟨l,ak,rfl,aCs,hn,h0',si⟩;rintro e J ⟨l,ak,rfl,hl,hn,h0,hA⟩;refine wy ?_
 rcases hA with⟨rfl,z⟩|⟨id,rfl,_⟩
 obtain⟨n,hn'⟩:=(cX:aW J _ _).done;exact⟨n,_,hn',l,az ⟨rfl,z⟩,hl,hn⟩;obtain⟨n,hn'⟩:=(e5 (fY λa _=>aB _):aW J _ _).done;exact⟨n,_,hn',l,ax rfl,hl,hn⟩
end
section
variable{i:Nat}
def uk(ps:List bK):Nat->Int->Nat
 |0,_=>0
 |f+1,i=>match ps[i.toNat]? with
  |none=>0
  |some p=>3+(p.kids.map λk=>uk ps f k+1).sum
def ayR{ps}(h:ow ps):∀(n f g) (i),i.toNat<n->i.toNat<f->i.toNat<g->uk ps f i=uk ps g i:=by
 intro n
 induction n with
 |zero=>intro f g i h0;omega
 |succ n ih=>
  intro f g i h0 Y V;obtain⟨f,rfl⟩:∃f',f=f'+1:=⟨f-1,aCs⟩;obtain⟨g,rfl⟩:∃g',g=g'+1:=⟨g-1,aCs⟩;unfold uk;cases J:ps[i.toNat]? with
  |none=>rfl
  |some p=>
   dsimp only;congr 2;refine vR λk S=>?_;have:=(h _ p J).2 k S;rw[ih f g k aCs aCs aCs]
def sz(ps:List bK)(i:Int):Nat:=uk ps (i.toNat+1) i
def ah9{ps}(h:ow ps){p}(J:ps[i]?=some p):sz ps (i)=3+(p.kids.map λk=>sz ps k+1).sum:=by
 show uk ps (i+1) (i)=_;unfold uk;rw[ux,J];dsimp only;congr 2;refine vR λk S=>?_;have:=(h _ p J).2 k S;rw[ayR h (i+1) i (k.toNat+1) k aCs aCs aCs];rfl
def ah0{ps}(h:ow ps):∀{i} {st},nJ ps i st->(st.map λk=>sz ps k+1).sum<=4*i
 |0,st,hs=>by rw[show st=[] from hs];simp
 |i+1,st,⟨p,og,J,Y,V⟩=>by
  have:=ah0 h Y;rw[V];simp only[eD,ajA,ep,kn,vU,DG] at this⊢;rw[ah9 h J];omega
structure nk(k:Nat)(v:U)(l:List ck)(out:U)(J:List aa):Prop where
 b:J[k]?=some (.cells [v,out] false)
 app:bU J out (l.map kJ) 5 220
 ok:∀x∈l,x.cv
def f_(k:Nat)(J hp':List aa):Prop:=J.length<=hp'.length/\∀(j:Nat) Z fz,j≠k->J[j]?=some (.cells Z fz)->hp'[j]?=some (.cells Z fz)
def f_.refl(k)(J):f_ k J J:=⟨bg _,λ_ _ _ _ h=>h⟩
def f_.trans{k}{a b c}(h:f_ k a b)(q:f_ k b c):f_ k a c:=⟨fy h.1 q.1,λj x f hj e=>q.2 j x f hj (h.2 j x f hj e)⟩
def f_.app{k}{J l}:f_ k J (J++l):=⟨aCt,λ_ _ _ _ h=>aJ h⟩
def nk.app'{k}{v out}{l}{J x}(h:nk k v l out J):nk k v l out (J++x):=by
 refine⟨aJ h.b,?_,h.ok⟩
 rcases h.app with z|⟨id,aT,z2⟩
 exact ax z;exact az ⟨id,aT,aJ z2⟩
section
variable{G:Cells}{k:Nat}{v out:U}{l:List ck}{J:List aa}
@[go_sem]def nk.CL(h:nk k v l out J):aq J false 1 (.mp k 0)=some v:=aCY
@[go_sem]def nk.fP(h:nk k v l out J):aq J false 1 (.mp k 1)=some out:=aCY
def nk.push(h:nk k v l out J)(x)(I:x.cv)(hl:l.length<=100000):∃o' g,cM J 5 48 220 out (.sl [.agg x.cells] .exact)=some (o',g)/\∃g',aE g 1 (.mp k 1) o'=some g'/\nk k v (l++[x]) o' g'/\f_ k J g':=by
 obtain⟨bf,g2,e2,dS,hne,hle,hk2⟩:=kQ (aZ:=48) h.app (TN l) (Nk x) aCu aCu aCv;have kb:g2[k]?=some (.cells [v,out] false):=hk2 _ _ h.b λxs z=>by
  rcases h.app with⟨q1,_⟩|⟨id,q1,ah⟩
  rw[q1] at z;cases z;rw[q1] at z;cases z;rw[h.b] at ah;cases ah
 have ho:bl bf=true:=aD1
 have cO:bf.cells=[bf]:=aD0
 have s2:aE g2 1 (.mp k 1) bf=some (g2.set k (.cells [v,bf] false)):=by
  simp only[aE,kb,dG,cO];simp[ho,putAt]
 refine⟨bf,g2,e2,_,s2,⟨aO (gl kb),?_,λy hy=>?_⟩,by simpa using hle,λj Z fz hj q=>?_⟩;rw[eD]
 rcases dS with z|⟨id,aT,z2⟩
 exact ax z;refine az ⟨id,aT,?_⟩;rw[av];exact z2;rintro rfl;rw[kb] at z2;cases z2
 rcases dN.1 hy with z|z
 exact h.ok y z;rw[cw.1 z];exact I;rw[av (dj hj)];exact hk2 _ _ q λxs z=>by
  rcases h.app with⟨q1,_⟩|⟨id,q1,ah⟩
  rw[q1] at z;cases z;rw[q1] at z;cases z;rw[q] at ah;cases ah
@[go_sem]def Xh(x:ck):dy 5 [.agg x.cells]=some (.sl [.agg x.cells] .exact):=PA x
def Gj(k:Nat)(v:U)(l:List ck)(n:Nat)(J hp':List aa):Prop:=∃l2 o2,nk k v (l++l2) o2 hp'/\l2.length<=n/\f_ k J hp'
def Pe(G:Cells)(k:Nat)(v:U)(ps:List bK)(i:Int):Prop:=∀(b:Bool) l out J,nk k v l out J->l.length+sz ps i<=100000->bq G ay 219 [.mp k 0,i,b] J λr hp'=>Gj k v l (sz ps i) J hp'
def CH(p:bK)(g):s3 g p.kv p.kids:=by
 unfold bK.kv;split;rename_i z;exact ax ⟨rfl,z⟩;exact az (ax ⟨_,rfl⟩)
def vD{f:Int->Nat}{ks:List Int}{j}{x}(I:ks[j]?=some x):((ks.take (j+1)).map f).sum=((ks.take j).map f).sum+f x:=by
 rw[By,I];simp
def y4(f:Int->Nat)(ks:List Int)(j):((ks.take j).map f).sum<=(ks.map f).sum:=by
 conv=>rhs;rw[<-Wi j ks]
 rw[eD,ajA];omega
def atB{ps}(h:qe v ps){p}(cZ:ps[i]?=some p)(ih:∀x∈p.kids,Pe G k v ps x):Pe G k v ps (i):=by
 intro b l out J hS hn;have jl:=h.ok i p cZ;have mY:=h.no p (bA cZ);have iK:=jl.kids;have hsz:=ah9 h.ok cZ;refine adF.go ?_;have avQ:ck.cv ⟨2,0,0,0,[]⟩:=⟨zk _,az (ax ⟨ax rfl,rfl,rfl,rfl⟩)⟩;have axZ:ck.cv ⟨3,0,0,0,[]⟩:=⟨zk _,az (ax ⟨az (ax rfl),rfl,rfl,rfl⟩)⟩;have avU:ck.cv ⟨4,0,0,0,[]⟩:=⟨zk _,az (ax ⟨az (az rfl),rfl,rfl,rfl⟩)⟩;have ZB:∀c:Int,cq [.v (.int .i64 0),.v (.int .i64 0),.v (.int .i64 0),.v (.int .i64 0),.v (.string ⟨#[]⟩)] [(0,1,.v (.int .i64 c))]=some (fH ⟨c,0,0,0,[]⟩):=λc=>rfl;refine cB (λe g=>e=[(0,.mp k 0),(1,.v (.int .i64 (i))),(2,.v (.bool b))]/\Gj k v l 1 J g) ?_ ?_;cases b with
 |true=>
  obtain⟨o1,g1,e1,g2,s1,dz,n6⟩:=hS.push _ avQ aCs;refine wx ?_;exact⟨trivial,_,o1,dz,aCt,n6⟩
 |false=>
  refine wx ?_;exact⟨trivial,[],out,by rw[ff];exact hS,aCt,f_.refl _ _⟩
 rintro e g ⟨rfl,l1,o1,dz,hl1,n6⟩;refine cB (λe g2=>∃m,e=[(0,.mp k 0),(2,.v (.bool b)),(6,.mp m 0)]/\m≠k/\g2[m]?=some (.cells p.cells false)/\nk k v (l++l1) o1 g2/\f_ k J g2) ?_ ?_;have e1:bw 5 v (.v (.int .i64 (i)))=some (.fp p.cells 0):=h.v.bC (x:=p.aF) aEi rfl;have s1:=vC g p;refine wx ?_;have:=gl dz.b;exact⟨g.length,rfl,aCs,aCt,dz.app',n6.trans f_.app⟩;rintro e g2 ⟨m,rfl,hmk,hm,eB,pG⟩;have m0:∀hp',f_ k g2 hp'->hp'[m]?=some (.cells p.cells false):=λhp' O=>O.2 _ _ _ hmk hm;have eE:∀hp',hp'[m]?=some (.cells p.cells false)->aq hp' false 1 (.mp m 0)=some (.v (.int .i64 p.kind))/\aq hp' false 1 (.mp m 1)=some (.v (.int .i64 p.low))/\aq hp' false 1 (.mp m 2)=some (.v (.int .i64 p.high))/\aq hp' false 1 (.mp m 3)=some (ai p.name)/\aq hp' false 1 (.mp m 4)=some p.kv:=λhp' q=>by
  simp only[aq,q];exact⟨rfl,rfl,rfl,rfl,rfl⟩
 refine cB (λe g3=>e=[(0,.mp k 0),(2,.v (.bool b))]/\Gj k v l (sz ps (i)-1) J g3) ?_ ?_;refine wy ?_
 rcases jl.1 with⟨S,hlo,hhi,hnm,aBy⟩|⟨S|S,hlo,hhi,hnm,hk2,_⟩|⟨S,hnm,eY,h0,Y,V⟩
 have f1:cq [.v (.int .i64 0),.v (.int .i64 0),.v (.int .i64 0),.v (.int .i64 0),.v (.string ⟨#[]⟩)] [(0,1,.v (.int .i64 1)),(4,1,ai p.name)]=some (fH ⟨1,0,0,0,p.name⟩):=rfl;obtain⟨iM,g4,cO,g5,iN,wZ,uZ⟩:=eB.push ⟨1,0,0,0,p.name⟩ ⟨zk _,ax ⟨rfl,hnm,rfl,rfl⟩⟩ aCv;refine wx ?_;rw[cj] at wZ;exact⟨trivial,_,iM,wZ,aCv,pG.trans uZ⟩;have lk:=vf mY (fy iK aCu);have kv:∀g,s3 g p.kv p.kids:=CH p;refine wy ?_;refine b9 (λj e g=>e=[(0,.mp k 0),(2,.v (.bool b)),(48,p.kv),(49,ag p.kids.length),(50,ag j)]/\∃l3 iA,nk k v (l++l3) iA g/\l3.length<=1+((p.kids.take j).map λx=>sz ps x+1).sum/\f_ k J g) p.kids.length ⟨rfl,l1,o1,eB,aCs,pG⟩ ?_ ?_
 · rintro j e g hj ⟨rfl,l3,iA,mu,pL,qo⟩
   obtain⟨x,I⟩:=cF hj;have oG:=bA I;obtain⟨x0,x1⟩:=jl.2 x oG;obtain⟨xn,rfl⟩:=mI x0;have jk:=gl cZ;obtain⟨q,hq⟩:∃q,ps[xn]?=some q:=⟨ps[xn]' aCs,br aCs⟩;have e1:bw 5 v (.v (.int .i64 (xn)))=some (.fp q.cells 0):=h.v.bC (x:=q.aF) aC8 rfl;have bW:∀J,aq J false 1 (.fp q.cells 0)=some (.v (.int .i64 q.kind)):=λJ=>rfl;obtain⟨pk,k1,k2⟩:=(kv g).get I;have uj:=vD (f:=λx=>sz ps x+1) I;have sl:=y4 (λx=>sz ps x+1) p.kids (j+1);have next:∀(c),bq G ay 219 [.mp k 0,.v (.int .i64 (xn)),.v (.bool c)] g λr g'=>Gj k v (l++l3) (sz ps (xn)) g g':=λc=>ih _ oG c (l++l3) iA g mu aCv;have fin:∀g',Gj k v (l++l3) (sz ps (xn)) g g'->∃l3 iA,nk k v (l++l3) iA g'/\l3.length<=1+((p.kids.take (j+1)).map λx=>sz ps x+1).sum/\f_ k J g':=λg' ⟨l4,iM,aT,z2,z3⟩=>⟨l3++l4,iM,by rw[<-cj];exact aT,by simp only[cG];omega,qo.trans z3⟩;refine lE ?_;refine b5 (λah=>?_) λah=>?_
   · refine a_ (next true) ?_
     intro r g' D;refine dP ?_;exact⟨rfl,fin g' D⟩
   · refine wx (a_ (next _) ?_)
     intro r g' D;refine dP ?_;exact⟨rfl,fin g' D⟩
 rintro e g ⟨rfl,l3,iA,mu,pL,qo⟩;rw[p8] at pL;refine dr @ag.eq_1 ?_;exact⟨trivial,l3,iA,mu,aCs,qo⟩;have lk:=vf mY (fy iK aCu);have kv:∀g,s3 g p.kv p.kids:=CH p;refine wy ?_;refine b9 (λj e g=>e=[(0,.mp k 0),(2,.v (.bool b)),(81,p.kv),(82,ag p.kids.length),(83,ag j)]/\∃l3 iA,nk k v (l++l3) iA g/\l3.length<=1+((p.kids.take j).map λx=>sz ps x+1).sum/\f_ k J g) p.kids.length ⟨rfl,l1,o1,eB,aCs,pG⟩ ?_ ?_;rintro j e g hj ⟨rfl,l3,iA,mu,pL,qo⟩;obtain⟨x,I⟩:=cF hj;have oG:=bA I;obtain⟨x0,x1⟩:=jl.2 x oG;obtain⟨xn,rfl⟩:=mI x0;have jk:=gl cZ;obtain⟨q,hq⟩:∃q,ps[xn]?=some q:=⟨ps[xn]' aCs,br aCs⟩;have e1:bw 5 v (.v (.int .i64 (xn)))=some (.fp q.cells 0):=h.v.bC (x:=q.aF) aC8 rfl;have bW:∀J,aq J false 1 (.fp q.cells 0)=some (.v (.int .i64 q.kind)):=λJ=>rfl;obtain⟨pk,k1,k2⟩:=(kv g).get I;have uj:=vD (f:=λx=>sz ps x+1) I;have sl:=y4 (λx=>sz ps x+1) p.kids (j+1);refine wy (bI (λah=>?_) λah=>?_);obtain⟨iM,g4,cO,g5,iN,wZ,uZ⟩:=mu.push _ avU aCv;refine wx ?_;refine a_ (ih _ oG _ (l++l3++[⟨4,0,0,0,[]⟩]) iM g5 wZ aCv) ?_;rintro r g' ⟨l4,rm,aT,z2,z3⟩;refine wx ?_;exact⟨rfl,l3++[⟨4,0,0,0,[]⟩]++l4,rm,by rw[<-cj,<-cj];exact aT,by simp only[cG,nM];omega,(qo.trans uZ).trans z3⟩;refine wx (a_ (ih _ oG _ (l++l3) iA g mu aCv) ?_);rintro r g' ⟨l4,rm,aT,z2,z3⟩;refine wx ?_;exact⟨rfl,l3++l4,rm,by rw[<-cj];exact aT,by simp only[cG];omega,qo.trans z3⟩;rintro e g ⟨rfl,l3,iA,mu,pL,qo⟩;rw[p8] at pL;refine dr @ag.eq_1 ?_;exact⟨trivial,l3,iA,mu,aCs,qo⟩;obtain⟨x,I⟩:∃x,p.kids=[x]:=Bw.1 eY;have oG:x∈p.kids:=by rw[I];simp
 obtain⟨x0,x1⟩:=jl.2 x oG;obtain⟨xn,rfl⟩:=mI x0;have jk:=gl cZ;obtain⟨q,hq⟩:∃q,ps[xn]?=some q:=⟨ps[xn]' aCs,br aCs⟩;have e1:bw 5 v (.v (.int .i64 (xn)))=some (.fp q.cells 0):=h.v.bC (x:=q.aF) aC8 rfl;have bW:∀J,aq J false 1 (.fp q.cells 0)=some (.v (.int .i64 q.kind)):=λJ=>rfl;obtain⟨pk,k1,k2⟩:=(CH p g2).get (i:=0) (by rw[I];rfl);have arh:bw 1 p.kv (.v (.int .i64 0))=some pk:=k1;rw[I] at hsz;simp only[ep,kn,vU,DG] at hsz;refine wx (a_ (ih _ oG _ (l++l1) o1 g2 eB aCv) ?_);rintro r g' ⟨l4,rm,aT,z2,z3⟩;have f1:cq [.v (.int .i64 0),.v (.int .i64 0),.v (.int .i64 0),.v (.int .i64 0),.v (.string ⟨#[]⟩)] [(0,1,.v (.int .i64 5)),(2,1,.v (.int .i64 p.low)),(3,1,.v (.int .i64 p.high))]=some (fH ⟨5,0,p.low,p.high,[]⟩):=rfl;obtain⟨rq,g7,GZ,g8,qD,Ru,aoe⟩:=aT.push ⟨5,0,p.low,p.high,[]⟩ ⟨zk _,az (az ⟨rfl,rfl,h0,Y,V⟩)⟩ aCv;refine wx ?_;exact⟨trivial,l1++l4++[⟨5,0,p.low,p.high,[]⟩],rq,by rw[<-cj,<-cj];exact Ru,by simp only[cG,nM];omega,(pG.trans z3).trans aoe⟩;rintro e g3 ⟨rfl,l3,iA,mu,pL,qo⟩;cases b with
 |true=>
  obtain⟨iM,g4,cO,g5,iN,wZ,uZ⟩:=mu.push _ axZ aCv;refine wx ?_;rw[cj] at wZ;exact⟨_,iM,wZ,aCv,qo.trans uZ⟩
 |false=>
  refine wy ?_;exact⟨l3,iA,mu,aCs,qo⟩
end
end
def rI(c:UInt8):U:=.v (.int .u8 (c.toNat:Int))
def vX(J:List aa)(k:Nat)(l:List UInt8):Prop:=∃c0 bv,J[k]?=some (.cells [c0,bv] false)/\(c0=.fM k (377,2)\/c0=.mp k 0)/\bU J bv (l.map rI) 1 5/\(l=[]->bv=.af)
def zp(J:List aa)(k:Nat)(l:List UInt8)(bv:U):Prop:=J[k]?=some (.cells [.mp k 0,bv] false)/\bU J bv (l.map rI) 1 5/\(l=[]->bv=.af)
@[go_sem]def TP(l:List UInt8):bS 1 (l.map rI)=true:=by
 rw[bS,c7];intro x I;obtain⟨t,ht,rfl⟩:=cI.1 I;rfl
section
variable{G:Cells}{k:Nat}{l:List UInt8}{J:List aa}
def f_.set{x}:f_ k J (J.set k x):=⟨aCt,λj Z fz hj h=>aEO⟩
def Yw(h:vX J k l):bq G ay 278 [.mp k 0] J λr hp'=>r=.aK []/\(∃bv,zp hp' k l bv)/\f_ k J hp':=by
 obtain⟨c0,bv,Y,rfl|rfl,h3,h4⟩:=h;refine a_ (Yi ai9 Y) ?_;rintro r hp' ⟨rfl,rfl⟩;refine⟨rfl,⟨bv,aO (gl Y),?_,h4⟩,f_.set⟩
 rcases h3 with z|⟨id,aT,z2⟩
 exact ax z;refine az ⟨id,aT,?_⟩;rw[av];exact z2;rintro rfl;rw[Y] at z2;cases z2;refine a_ (Yl ai9 Y) ?_;rintro r hp' ⟨rfl,rfl⟩;exact⟨rfl,⟨bv,Y,h3,h4⟩,f_.refl _ _⟩
def zp.st{bv}(h:zp J k l bv):vX J k l:=⟨_,bv,h.1,az rfl,h.2⟩
@[go_sem]def zp.eE{bv}(h:zp J k l bv):aq J false 1 (.mp k 1)=some bv:=by
 simp only[aq,h.1];rfl
def zp.put{bv bv'}{g}{l'}(h:zp J k l bv)(hA:bU g bv' (l'.map rI) 1 5)(hz:l'=[]->bv'=.af)(S:∀(j:Nat) Z fz,J[j]?=some (.cells Z fz)->g[j]?=some (.cells Z fz))(hl:J.length<=g.length):
  ∃g',aE g 1 (.mp k 1) bv'=some g'/\vX g' k l'/\f_ k J g':=by
 have kb:=S _ _ _ h.1
 have ho:bl bv'=true:=aCF
 have cO:bv'.cells=[bv']:=by cases bv'<;>first|rfl|cases ho
 have s2:aE g 1 (.mp k 1) bv'=some (g.set k (.cells [.mp k 0,bv'] false)):=by
  simp only[aE,kb,dG,cO];simp[ho,putAt]
 refine⟨_,s2,⟨_,bv',aO (gl kb),az rfl,?_,hz⟩,aCO,λj Z fz hj q=>?_⟩
 rcases hA with z|⟨id,aT,z2⟩
 exact ax z;refine az ⟨id,aT,?_⟩;rw[av];exact z2;rintro rfl;rw[kb] at z2;cases z2;rw[av (dj hj)];exact S _ _ _ q
def KP(h:vX J k l)(hl:l.length<=100000000)(c):bq G ay 261 [.mp k 0,.v (.int .u8 (c.toNat:Int))] J λr hp'=>vX hp' k (l++[c])/\f_ k J hp':=by
 refine ac2.go ?_;refine wy (a_ (Yw h) ?_);rintro _ g ⟨rfl,⟨bv,hB⟩,O⟩;obtain⟨bf,g2,e2,dS,hne,hle,hk2⟩:=kQ (x:=rI c) (aZ:=1) hB.2.1 (TP l) rfl aCu aCu aCv;have oC:bU g2 bf ((l++[c]).map rI) 1 5:=aDb
 obtain⟨g3,cW,qo,Ci⟩:=hB.put oC (λq=>by simp at q) (λj Z fz q=>hk2 _ _ q λxs z=>by
  rcases hB.2.1 with⟨q1,_⟩|⟨id,q1,ah⟩
  rw[q1] at z;cases z;rw[q1] at z;cases z;rw[q] at ah;cases ah) hle
 unfold rI at e2;refine gj @hB.eE @e2 @cW ?_;exact⟨qo,O.trans Ci⟩
def ah3(h:vX J k l)(s)(hl:l.length+s.length<=100000000):bq G ay 259 [.mp k 0,ai s] J λr hp'=>vX hp' k (l++s)/\f_ k J hp':=by
 refine ac1.go ?_;refine wy (a_ (Yw h) ?_);rintro _ g ⟨rfl,⟨bv,hB⟩,O⟩;have key:∃bf g2,ye g 1 5 bv (ai s)=some (bf,g2)/\bU g2 bf ((l++s).map rI) 1 5/\(l++s=[]->bf=.af)/\g.length<=g2.length/\∀(j:Nat) Z fz,g[j]?=some (.cells Z fz)->g2[j]?=some (.cells Z fz):=by
  rcases s with _|⟨c,s⟩
  refine⟨bv,g,?_,by rw[ff];exact hB.2.1,by rw[ff];exact hB.2.2,bg _,λ_ _ _ q=>q⟩
  rcases hB.2.1 with⟨rfl,_⟩|⟨id,rfl,_⟩<;>rfl
  have O:zR ⟨⟨c::s⟩⟩=(c::s).map rI:=rfl;have hz:(⟨⟨c::s⟩⟩:ByteArray).size≠0:=by show(c::s).length≠0;simp
  rcases hB.2.1 with⟨rfl,e⟩|⟨id,rfl,S⟩
  have:l=[]:=aEG
  subst this;refine⟨.sl ((c::s).map rI) (.tok g.length),g++[.tok (c::s).length 1 5],?_,az ⟨g.length,rfl,aCt⟩,aCt,aCt,λ_ _ _ q=>aJ q⟩;have hf:((c::s).map rI).length*1<=140737488355328:=by simp at hl⊢;omega
  simp only[ye,ai,hz,if_false,gp,O,vV,if_true];rw[if_pos hf];simp;have hlt:=gl S;refine⟨.sl ((l++c::s).map rI) (.tok id),g.set id (.tok (l++c::s).length 1 5),?_,az ⟨id,rfl,by rw[aO hlt];simp⟩,aCt,aCt,λj Z fz q=>?_⟩;have hf:((l.map rI).length+((c::s).map rI).length)*1<=140737488355328:=by simp at hl⊢;omega
  simp only[ye,ai,hz,if_false,gp,O,vV,if_true,TP,true_and,S,and_self];rw[if_pos hf];simp;rw[av];exact q;rintro rfl;rw[S] at q;cases q
 obtain⟨bf,g2,e2,oC,aqu,hle,hk2⟩:=key;obtain⟨g3,cW,qo,Ci⟩:=hB.put oC aqu hk2 hle;refine kg @hB.eE @e2 @cW @tQ ?_;exact⟨qo,O.trans Ci⟩
def ay6(h:vX J k l)(hl:l.length<=100000000):bq G ay 260 [.mp k 0] J λr hp'=>r=ai l/\hp'=J:=by
 obtain⟨c0,bv,Y,_,h3,h4⟩:=h
 rcases h3 with⟨rfl,e⟩|⟨id,rfl,S⟩
 have:l=[]:=aEG
 subst this;exact Yk aje Y
 rcases l with _|⟨c,r⟩
 cases h4 rfl;rw[bX] at S;exact Yj aje Y S aCt aCs
end
def Y8(n):(jG 1 n).length<=2:=by
 unfold jG;split;simp;simp[jG]
@[go_sem]def Xn{a b}(h:a.length+b.length<=1000000):cr .add (.v (.string ⟨⟨a⟩⟩)) (ai b)=some (ai (a++b)):=rZ aCs
@[go_sem]def Gw{a b}(h:a.length+b.length<=1000000):cr .add (ai a) (.v (.string ⟨⟨b⟩⟩))=some (ai (a++b)):=rZ aCs
def azc{G}{low high}(h0:0<=low)(Y:low<=20)(V:high= -1\/(1<=high/\high<=20)):cC G ay 262 [.v (.int .i64 low),.v (.int .i64 high)] λr=>∃t:List UInt8,r=ai t/\t.length<=8:=by
 obtain⟨n,rfl⟩:=mI h0;refine cU (ad1.go ?_);have fin:∀(J) (t),t.length<=8->∃n aM,b7 J n (ai t)=some aM/\∃t:List UInt8,aM=ai t/\t.length<=8:=λJ t ht=>by
  obtain⟨n,hn⟩:=(aB _:aW J (ai t) (ai t)).done;exact⟨n,_,hn,t,rfl,ht⟩
 have d1:=Y8 n;have sp:b_ G ay 194 [(n:Int)] (ai (jG 1 n)):=U0 n aCs;have a1:cr .add (.v (.string ⟨[123].toArray⟩)) (ai (jG 1 n))=some (ai ([123]++jG 1 n)):=Xn aCv;have a2:cr .add (ai ([123]++jG 1 n)) (.v (.string ⟨[125].toArray⟩))=some (ai ([123]++jG 1 n++[125])):=Gw aCv;have a3:cr .add (ai ([123]++jG 1 n)) (.v (.string ⟨[44,125].toArray⟩))=some (ai ([123]++jG 1 n++[44,125])):=Gw aCv;have a4:cr .add (ai ([123]++jG 1 n)) (.v (.string ⟨[44].toArray⟩))=some (ai ([123]++jG 1 n++[44])):=Gw aCv
 rcases V with rfl|⟨g0,g1⟩
 · cases hb0:((n:Int)==0)<;>cases fV:((n:Int)==1)<;>cases abq:((n:Int)== -1)
   all_goals
    refine wy ?_
    first
     |exact fin _ [42] aCu
     |exact fin _ [43] aCu
     |refine dx sp ?_
      refine gj @a1 @a2 @a3 ?_;exact fin _ _ (by simp<;>omega)
 · obtain⟨m,rfl⟩:=mI (show 0<=high by omega)
   have d2:=Y8 m;have ayh:b_ G ay 194 [(m:Int)] (ai (jG 1 m)):=U0 m aCs;have a5:cr .add (ai ([123]++jG 1 n++[44])) (ai (jG 1 m))=some (ai ([123]++jG 1 n++[44]++jG 1 m)):=rZ aCv;have a6:cr .add (ai ([123]++jG 1 n++[44]++jG 1 m)) (.v (.string ⟨[125].toArray⟩))=some (ai ([123]++jG 1 n++[44]++jG 1 m++[125])):=Gw aCv;have hm:((m:Int)== -1)=false:=aCt
   cases hb0:((n:Int)==0)<;>cases fV:((n:Int)==1)<;>cases RU:((m:Int)==1)<;>cases abq:((n)==(m:Int))
   all_goals
    refine nL @hb0 @fV @hm @RU @abq ?_
    first
     |exact fin _ [63] aCu
     |refine dx sp ?_
      refine gj @a1 @a2 @a4 ?_
      first
       |exact fin _ _ (by simp<;>omega)
       |refine dx ayh ?_
        refine kH @a5 @a6 ?_;exact fin _ _ (by simp<;>omega)
def axX{G}{v}{l:List ck}(hv:bH v (l.map kJ))(hok:∀x∈l,x.cv)(hl:l.length<=100000):cC G ay 220 [v] λr=>∃t:List UInt8,r=ai t/\t.length<=14*l.length:=by
 refine cU (adG.go ?_);have ln:=hv.bL;rw[bX] at ln;refine wy ?_;refine b9 (λi e J=>e=[(3,.mp 0 0),(6,v),(7,ag l.length),(8,ag i)]/\∃t,vX J 0 t/\t.length<=14*i) l.length ⟨rfl,[],⟨_,_,rfl,ax rfl,ax ⟨rfl,rfl⟩,λ_=>rfl⟩,aCt⟩ ?_ ?_
 · rintro i e J Q ⟨rfl,t0,aay,tL⟩
   obtain⟨x,I⟩:=cF Q;have Ay:=hok x (bA I);have e1:bw 5 v (i:Int)=some (.fp x.cells 0):=hv.bC (x:=x.aF) aCG rfl;have e2:∀J,aq J true 5 (.fp x.cells 0)=some (.agg x.cells):=λJ=>rfl;have s1:=vz J x;unfold fS at s1;have eE:∀g:List aa,g[J.length]?=some (.cells x.cells false)->aq g false 1 (.mp J.length 0)=some (.v (.int .i64 x.kind))/\aq g false 1 (.mp J.length 2)=some (.v (.int .i64 x.low))/\aq g false 1 (.mp J.length 3)=some (.v (.int .i64 x.high))/\aq g false 1 (.mp J.length 4)=some (ai x.name):=λg q=>by
    simp only[aq,q];exact⟨rfl,rfl,rfl,rfl⟩
   have hm:(J++[aj x.cells false])[J.length]?=some (.cells x.cells false):=aCt
   have hB:vX (J++[aj x.cells false]) 0 t0:=by
    obtain⟨c0,bv,b1,b2,b3,b4⟩:=aay;refine⟨c0,bv,aJ b1,b2,?_,b4⟩
    rcases b3 with z|⟨id,aT,z2⟩
    exact ax z;exact az ⟨id,aT,aJ z2⟩
   have hm0:J.length≠0:=by
    obtain⟨_,_,b1,_⟩:=aay;have:=gl b1;omega
   refine wy (bI (λq=>?_) λq=>?_);refine wy (bI (λah=>?_) λah=>?_);refine wy (a_ (KP hB aCs 32) ?_);rintro r g3 ⟨hB,Cj⟩;have hm:=Cj.2 _ _ _ hm0 hm;have tL:(t0++[32]).length<=14*i+1:=aCv
   all_goals
    refine wy ?_
    rcases Ay.2 with⟨S,hnm,_,_⟩|⟨S|S|S,_,_,_⟩|⟨S,_,z0,aT,z2⟩
    have hn:x.name.length<=12:=by
     simp only[rj,dV,decide_eq_true_eq] at hnm;omega
    refine wy (a_ (ah3 hB x.name aCs) ?_);rintro r g4 ⟨yx,_⟩;refine wx ?_;exact⟨rfl,_,yx,aCv⟩;refine wy (a_ (KP hB aCs 40) ?_);rintro r g4 ⟨yx,_⟩;refine wx ?_;exact⟨rfl,_,yx,aCv⟩;refine wy (a_ (KP hB aCs 41) ?_);rintro r g4 ⟨yx,_⟩;refine wx ?_;exact⟨rfl,_,yx,aCv⟩;refine wy (a_ (KP hB aCs 124) ?_);rintro r g4 ⟨yx,_⟩;refine wx ?_;exact⟨rfl,_,yx,aCv⟩;refine wy ?_;refine gO (azc z0 aT aCs) (bn (cm _) (bn (cm _) cx)) ?_;rintro r ⟨t2,rfl,Im⟩;refine wy (a_ (ah3 hB t2 aCs) ?_);rintro r g4 ⟨yx,_⟩;refine wx ?_;exact⟨rfl,_,yx,aCv⟩
 rintro e J ⟨rfl,t,hB,ht⟩;refine wy (a_ (ay6 hB aCs) ?_);rintro _ g ⟨rfl,hh⟩;refine dP ?_;obtain⟨n,hn⟩:=(aB _:aW g (ai t) (ai t)).done;exact⟨n,_,hn,t,rfl,ht⟩
section
variable{G:Cells}{v:U}{ps:List bK}
def akv{k:Nat}(h:qe v ps):∀(n i:Nat),i<n->i<ps.length->Pe G k v ps (i:Int):=by
 intro n
 induction n with
 |zero=>intro i Q;omega
 |succ n ih=>
  intro i Q hl;obtain⟨p,J⟩:=cF hl;refine atB h J λx I=>?_;obtain⟨x0,x1⟩:=(h.ok i p J).2 x I;obtain⟨xn,rfl⟩:=mI x0;exact ih xn aCs aCs
def U8{x:Int}(hn:ps≠[])(h:nJ ps ps.length [x]):x=((ps.length-1:Nat):Int):=by
 cases hl:ps.length with
 |zero=>exact absurd (List.length_eq_zero_iff.1 hl) hn
 |succ n=>
  rw[hl] at h;obtain⟨p,og,_,_,e⟩:=h;have:og=[]:=by
   have:=congrArg Bv e;simp at this;exact this
  subst this;simpa using e
def Qg{l:List ck}:∀x∈l.map kJ,∀c∈x.cells,dm c:=λx I c T=>by
 obtain⟨s,_,rfl⟩:=cI.1 I;have:c∈s.cells:=T;simp only[fH,dW,nN,or_false] at this
 rcases this with rfl|rfl|rfl|rfl|rfl<;>exact cm _
def wj(n:Nat)(r:U):Prop:=∃t:List UInt8,r=ai t/\t.length<=n
def pz{J:List aa}{n:Nat}{t:List UInt8}(ht:t.length<=n):∃m aM,b7 J m (ai t)=some aM/\wj n aM:=by
 obtain⟨m,hn⟩:=(aB _:aW J (ai t) (ai t)).done;exact⟨m,_,hn,t,rfl,ht⟩
def axV(bh:dL G)(h:qe v ps):cC G ay 160 [v] (wj 40000):=by
 refine cU (ac_.go ?_);have ln:=h.v.bL;rw[bX] at ln;have hlen:=h.len;refine wy ?_;refine b5 (λq=>?_) λq=>?_;exact pz (t:=[]) aCu;have hne:ps≠[]:=by rintro rfl;simp at q
 refine wy (gO (agL bh h) (bn (BV h) cx) ?_);rintro r ⟨b,rfl,O⟩;cases b with
 |false=>
  refine wy ?_;exact pz (t:=[]) aCu
 |true=>
  obtain⟨x,I⟩:=(O rfl).resolve_left hne;have D:=U8 hne I;have hs:=ah0 h.ok I;rw[D] at hs;simp only[ep,kn,vU,DG] at hs
  have f1:cq [.af,.af] [(0,1,v)]=some [v,.af]:=aDv
  have hS:nk 0 v [] .af [.cells [v,.af] false]:=⟨rfl,ax ⟨rfl,rfl⟩,aCt⟩;refine wy (a_ (akv h _ (ps.length-1) (zo _) aCs false [] .af _ hS aCv) ?_);rintro r g ⟨l2,o2,aT,z2,z3⟩;rw[eH] at aT;obtain⟨v',y1,eu,jT⟩:=zK aT.app Qg;refine wx ?_;refine dh (axX y1 aT.ok aCs) ?_;rintro r ⟨t,rfl,ht⟩;refine wy ?_;exact pz aCs
end
def cA(n:Nat):U:=.v (.int .u64 (n:Int))
def wd(B i:Nat):Nat:=(B>>>(64*i)) % 2^64
def Ow(B i):wd B i<18446744073709551616:=Nat.mod_lt _ aCu
def Bf(B i j):(wd B i).testBit j=(decide (j<64)&&B.testBit (64*i+j)):=by
 unfold wd;rw[Nat.testBit_mod_two_pow,Nat.testBit_shiftRight]
def JD(A B i):wd (A|||B) i=wd A i|||wd B i:=by
 apply ajE;intro j;rw[OZ,Bf,Bf,Bf,OZ];cases decide (j<64)<;>simp
def Ov(A B i):wd (A&&&B) i=wd A i&&&wd B i:=by
 apply ajE;intro j;rw[ajG,Bf,Bf,Bf,ajG];cases decide (j<64)<;>simp
def azN(q r i)(D:r<64):wd (2^(64*q+r)) i=if i=q then 2^r else 0:=by
 apply ajE;intro j;rw[Bf,Wl];by_cases h:i=q;subst h;rw[if_pos rfl,Wl];by_cases hj:r=j;subst hj;simp[D];have:¬(64*i+r=64*i+j):=aCs
 simp[hj,this];rw[if_neg h,Nat.zero_testBit];by_cases hj:j<64;have:¬(64*q+r=64*i+j):=aCs
 simp[this];simp[hj]
def Ox(B q r i)(D:r<64):wd (B|||2^(64*q+r)) i=if i=q then wd B i|||2^r else wd B i:=by
 rw[JD,azN q r i D];split;rfl;rw[Nat.or_zero]
def GI{x:Nat}(h:x<18446744073709551616):(zd 64 (x)).toNat=x:=by
 rw[BitVec.toNat_ofInt];omega
@[go_sem]def af3{x y}(I:x<18446744073709551616)(hy:y<18446744073709551616):cr .or (cA x) (cA y)=some (cA (x|||y)):=by
 have hz:x|||y<2^64:=Nat.or_lt_two_pow I hy
 unfold cA;rw[akc];show some (bO (.int .u64 (Dz.wrap ((zd 64 (x)|||zd 64 (y)).toNat:Int))))=_;rw[BitVec.toNat_or,GI I,GI hy,wrap_u64];congr 3;omega
@[go_sem]def XA{x y}(I:x<18446744073709551616)(hy:y<18446744073709551616):cr .and (cA x) (cA y)=some (cA (x&&&y)):=by
 have hz:x&&&y<2^64:=Nat.and_lt_two_pow x hy;unfold cA;rw[W9];show some (bO (.int .u64 (Dz.wrap ((zd 64 (x)&&&zd 64 (y)).toNat:Int))))=_;rw[BitVec.toNat_and,GI I,GI hy,wrap_u64];congr 3;omega
def aN(B:Nat):List U:=[cA (wd B 0),cA (wd B 1),cA (wd B 2),cA (wd B 3)]
def aX(B:Nat):U:=.agg (aN B)
def jZ(B):dm (aX B):=BZ (n:=2) rfl
def uW(J)(B):aW J (aX B) (aX B):=iC (aA (aB _) (aA (aB _) (aA (aB _) (aA (aB _) bT))))
section
variable{G:Cells}
def aqM(n:Nat)(h:n<256):b_ G ay 233 [(n:Int)] true:=by
 refine eg (adT.go ?_);have Y:decide ((0:Int)<=(n))=true:=aCt
 have V:decide ((n:Int)<256)=true:=aCv
 exact wy ((aB _).done)
def aiE(B n:Nat)(h:n<256):b_ G ay 177 [aX B,.v (.int .i64 (n))] (aX (B|||2^n)):=by
 refine eg (adr.go ?_);have qX:(aX B).cells=aN B:=rfl;refine wy ?_;refine dx (aqM n h) ?_;obtain⟨q,r,D,hq,rfl⟩:∃q r,r<64/\q<4/\n=64*q+r:=⟨n/64,n % 64,Nat.mod_lt _ aCu,aCs,aCs⟩;have s1:cr .shr (.v (.int .i64 ((64*q+r:Nat):Int))) (.v (.int .u64 6))=some (.v (.int .i64 (q))):=by
  rw[ake (k:=.i64) (a:=((64*q+r:Nat):Int)) (b:=6) .u64 aCu];congr 3;show Int.fdiv ((64*q+r:Nat):Int) 64=_;rw[Int.fdiv_eq_ediv_of_nonneg _ aCu];omega
 have s2:cr .and (.v (.int .i64 ((64*q+r:Nat):Int))) (.v (.int .i64 63))=some (.v (.int .i64 (r))):=by
  rw[W9];show some (bO (.int .i64 (bP.wrap ((zd 64 ((64*q+r:Nat):Int)&&&zd 64 63).toNat:Int))))=_;rw[BitVec.toNat_and,GI aCs];have amq:(zd 64 63).toNat=2^6-1:=aCu
  rw[amq,Nat.and_two_pow_sub_one_eq_mod,wrap_i64 aCs aCs];congr 3;omega
 have cW:D0 .u64 (.v (.int .i64 (r)))=some (.v (.int .u64 (r))):=by
  rw[PD,wrap_u64];congr 3;omega
 have J:2^r<18446744073709551616:=Nat.pow_lt_pow_right aCu D;have gi:cr .shl (.v (.int .u64 1)) (.v (.int .u64 (r)))=some (cA (2^r)):=by
  rw[akd (k:=.u64) (a:=1) (b:=(r)) .u64 aCs];show some (bO (.int .u64 (Dz.wrap (1*2^(min (r:Int).toNat 64)))))=_;rw[ux,F5 aCs,wrap_u64];unfold cA;congr 3;have:(1:Int)*2^r=((2^r:Nat):Int):=aCt
  rw[this];generalize 2^r=z at J⊢;omega
 have ap1:q=0\/q=1\/q=2\/q=3:=aCs
 have w0:=Ox B q r 0 D;have w1:=Ox B q r 1 D;have w2:=Ox B q r 2 D;have w3:=Ox B q r 3 D;have fin:∀(J) Z,Z=aN (B|||2^(64*q+r))->∃n,b7 J n (.agg Z)=some (aX (B|||2^(64*q+r))):=λJ Z e=>by
  rw[e];exact(uW J _).done
 have Nq:∀i,cr .or (cA (wd B i)) (cA (2^r))=some (cA (wd B i|||2^r)):=λi=>af3 (Ow B i) J
 rcases ap1 with rfl|rfl|rfl|rfl
 have a1:jr 4 1 (.mp 0 0) (.v (.int .i64 ((0:Nat):Int)))=some (.mp 0 0):=rfl;have o1:=Nq 0;unfold cA at o1 gi;refine ki @aN.eq_1 @cA.eq_1 (fin _ _ ?_);unfold aN;rw[w0,w1,w2,w3];rfl;have a1:jr 4 1 (.mp 0 0) (.v (.int .i64 ((1:Nat):Int)))=some (.mp 0 1):=rfl;have o1:=Nq 1;unfold cA at o1 gi;refine ki @aN.eq_1 @cA.eq_1 (fin _ _ ?_);unfold aN;rw[w0,w1,w2,w3];rfl;have a1:jr 4 1 (.mp 0 0) (.v (.int .i64 ((2:Nat):Int)))=some (.mp 0 2):=rfl;have o1:=Nq 2;unfold cA at o1 gi;refine ki @aN.eq_1 @cA.eq_1 (fin _ _ ?_);unfold aN;rw[w0,w1,w2,w3];rfl;have a1:jr 4 1 (.mp 0 0) (.v (.int .i64 ((3:Nat):Int)))=some (.mp 0 3):=rfl;have o1:=Nq 3;unfold cA at o1 gi;refine ki @aN.eq_1 @cA.eq_1 (fin _ _ ?_);unfold aN;rw[w0,w1,w2,w3];rfl
end
section
variable{G:Cells}
def avR{x y}(I:x<18446744073709551616)(hy:y<18446744073709551616):b_ G ay 112 [cA x,cA y] (cA (x|||y)):=by
 refine eg (acQ.go ?_);exact wx ((aB _).done)
def akB{x y}(I:x<18446744073709551616)(hy:y<18446744073709551616):b_ G ay 267 [cA x,cA y] (cA (x&&&y)):=by
 refine eg (ad5.go ?_);exact wx ((aB _).done)
def E1(op:Nat->Nat->Nat)(A B i:Nat):List U:=[cA (if 0<i then op (wd A 0) (wd B 0) else wd A 0),cA (if 1<i then op (wd A 1) (wd B 1) else wd A 1),cA (if 2<i then op (wd A 2) (wd B 2) else wd A 2),cA (if 3<i then op (wd A 3) (wd B 3) else wd A 3)]
def X8{f}{op}(hf:∀x y,x<18446744073709551616->y<18446744073709551616->b_ G ay f [cA x,cA y] (cA (op x y)))(A B):b_ G ay 111 [aX A,aX B,.fn (.func f) [] []] (.agg (E1 op A B 4)):=by
 refine eg (acP.go ?_);have qX:∀B,(aX B).cells=aN B:=λB=>rfl;have l0:aq [.cells (aN A) false,.cells (aN B) false,.cells [.v (.int .u64 0),.v (.int .u64 0),.v (.int .u64 0),.v (.int .u64 0)] false] true 4 (.mp 1 0)=some (aX B):=rfl;refine wy ?_;refine b9 (λi e J=>e=[(2,.fn (.func f) [] []),(3,.mp 0 0),(6,.mp 2 0),(10,aX B),(11,ag i)]/\J=[.cells (E1 op A B i) false,.cells (aN B) false,.cells [.v (.int .u64 0),.v (.int .u64 0),.v (.int .u64 0),.v (.int .u64 0)] false]) 4 ⟨rfl,rfl⟩ ?_ ?_;rintro i e J Q ⟨rfl,rfl⟩;have u1:=@aN.eq_1;have u2:=@cA.eq_1;have u3:=@E1.eq_1;have c1:decide ((i:Int)<4)=true:=aCv
 have a1:jr 4 1 (.mp 0 0) (.v (.int .i64 i))=some (.mp 0 i):=by simp[jr,ji];omega
 have T:i=0\/i=1\/i=2\/i=3:=aCs
 have e1:zG false 1 4 (aX B) (.v (.int .i64 i))=some (cA (wd B i)):=by rcases T with rfl|rfl|rfl|rfl<;>rfl
 rcases T with rfl|rfl|rfl|rfl<;>(refine lE ?_;refine dx (hf _ _ (Ow A _) (Ow B _)) ?_;exact az3)
 rintro e J ⟨rfl,rfl⟩;have c1:decide (((4:Nat):Int)<4)=false:=rfl;exact aiP @aN.eq_1 @cA.eq_1 @E1.eq_1 ((iC (aA (aB _) (aA (aB _) (aA (aB _) (aA (aB _) bT))))).done)
def Fb(A B):b_ G ay 64 [aX A,aX B] (aX (A|||B)):=by
 refine eg (ack.go ?_);have qX:∀B,(aX B).cells=aN B:=λB=>rfl;refine wx (fo (X8 (λx y I hy=>avR I hy) A B) (bn (jZ _) (bn (jZ _) (bn (YD _) cx))) ?_);refine wx ?_;have e:b8 (E1 (· ||| ·) A B 4)=aX (A|||B):=by
  unfold aX aN;rw[JD,JD,JD,JD];rfl
 rw[e];exact(uW _ _).done
def akA(A B):b_ G ay 237 [aX A,aX B] (aX (A&&&B)):=by
 refine eg (adX.go ?_);have qX:∀B,(aX B).cells=aN B:=λB=>rfl;refine wx (fo (X8 (λx y I hy=>akB I hy) A B) (bn (jZ _) (bn (jZ _) (bn (YD _) cx))) ?_);refine wx ?_;have e:b8 (E1 (· &&& ·) A B 4)=aX (A&&&B):=by
  unfold aX aN;rw[Ov,Ov,Ov,Ov];rfl
 rw[e];exact(uW _ _).done
def ek(l:List Nat):Nat:=l.foldl (λB n=>B|||2^n) 0
def TF{v}{l}(hv:bH v (l.map λn:Nat=>ag (n)))(hl:∀n∈l,n<256)(hn:l.length<=100000):b_ G ay 107 [v] (aX (ek l)):=by
 refine eg (acL.go ?_);have ln:=hv.bL;rw[bX] at ln;refine wy ?_;refine b9 (λi e J=>e=[(2,.mp 0 0),(3,.mp 1 0),(6,v),(7,ag l.length),(8,ag i)]/\J=[.cells [.v (.int .u64 0),.v (.int .u64 0),.v (.int .u64 0),.v (.int .u64 0)] false,.cells (aN (ek (l.take i))) false]) l.length ⟨rfl,by simp[ek,aN,cA,wd]⟩ ?_ ?_;rintro i e J Q ⟨rfl,rfl⟩;obtain⟨x,I⟩:=cF Q;have aqm:=hl x (bA I);have e1:bw 1 v (i:Int)=some (.fp [ag x] 0):=hv.bC (x:=ag x) aCG rfl;have l1:aq [.cells [.v (.int .u64 0),.v (.int .u64 0),.v (.int .u64 0),.v (.int .u64 0)] false,.cells (aN (ek (l.take i))) false] true 4 (.mp 1 0)=some (aX (ek (l.take i))):=rfl
 have ams:ek (l.take (i+1))=ek (l.take i)|||2^x:=by
  unfold ek;rw[By,I];simp
 have s1:aE [.cells [.v (.int .u64 0),.v (.int .u64 0),.v (.int .u64 0),.v (.int .u64 0)] false,.cells (aN (ek (l.take i))) false] 4 (.mp 1 0) (aX (ek (l.take i)|||2^x))=some [.cells [.v (.int .u64 0),.v (.int .u64 0),.v (.int .u64 0),.v (.int .u64 0)] false,.cells (aN (ek (l.take i)|||2^x)) false]:=rfl;refine wy (fo (aiE _ x aqm) (bn (jZ _) (bn (cm _) cx)) ?_);rw[ams];refine wx ?_
 first
  |exact⟨rfl,trivial⟩
  |exact⟨rfl,rfl⟩
 rintro e J ⟨rfl,rfl⟩;rw[p8];have l1:aq [.cells [.v (.int .u64 0),.v (.int .u64 0),.v (.int .u64 0),.v (.int .u64 0)] false,.cells (aN (ek l)) false] true 4 (.mp 1 0)=some (aX (ek l)):=rfl;have s1:aE [.cells [.v (.int .u64 0),.v (.int .u64 0),.v (.int .u64 0),.v (.int .u64 0)] false,.cells (aN (ek l)) false] 4 (.mp 0 0) (aX (ek l))=some [.cells (aN (ek l)) false,.cells (aN (ek l)) false]:=rfl;have l2:aq [.cells (aN (ek l)) false,.cells (aN (ek l)) false] true 4 (.mp 0 0)=some (aX (ek l)):=rfl;exact wy ((uW _ _).done)
end
def amc{x}(h:x≠0)(I:x<18446744073709551616):x.testBit (Bq 64 x)=true/\Bq 64 x<64:=by
 unfold Bq;rw[if_neg h];obtain⟨m,Y,V⟩:=Lib.ctzFrom_spec 64 x aCs I;refine⟨?_,V⟩;generalize Lib.ctzFrom 64 x=c at Y V;rw[Y,Nat.testBit_two_pow_mul];simp
def S8{x}(h:x≠0):x&&&(x-1)<x:=Nat.lt_of_le_of_lt Nat.and_le_right aCs
def wL(x:Nat):List Nat:=if h:x=0 then [] else Bq 64 x::wL (x&&&(x-1))
termination_by x
decreasing_by exact S8 h
def amv:wL 0=[]:=by rw[wL,dif_pos rfl]
def amu{x}(h:x≠0):wL x=Bq 64 x::wL (x&&&(x-1)):=by rw[wL,dif_neg h]
def G3(B:Nat):Nat->List Nat
 |0=>[]
 |i+1=>G3 B i++(wL (wd B i)).map (64*i+ ·)
def els(B:Nat):List Nat:=G3 B 4
section
variable{G:Cells}
def GA(B)(J):bq G ay 65 [aX B] J λr hp'=>r=.fn (.func 113) [] [.mp J.length 0]/\hp'=J++[.cells (aN B) false]:=by
 refine acm.go ?_;have qX:(aX B).cells=aN B:=rfl;exact wx tt
def GB(bh:dL G){y}{Inv:List Nat->List aa->Prop}{Stop:List aa->Prop}{B kb:Nat}{J}
  (j4:∀done p J,Inv done J->B.testBit p=true->p<256->gW G ay y [(p:Int)] J λr hp'=>∃c:Bool,r=c/\(c=true->Inv (done++[p]) hp')/\(c=false->Stop hp'))
  (O:J[kb]?=some (.cells (aN B) false)) (h0:Inv [] J):bq G ay 113 [y,.mp kb 0] J λr hp'=>r=.aK []/\(Inv (els B) hp'\/Stop hp'):=by
 refine acR.go ?_;have l0:aq J true 4 (.mp kb 0)=some (aX B):=by simp only[aq,O];rfl
 refine wy ?_;refine b9 (λi e J=>e=[(0,y),(6,aX B),(7,ag i)]/\Inv (G3 B i) J) 4 ⟨rfl,h0⟩ ?_ ?_;rintro i e J Q ⟨rfl,hI⟩;have e1:zG false 1 4 (aX B) (i:Int)=some (cA (wd B i)):=by
  have T:i=0\/i=1\/i=2\/i=3:=aCs
  rcases T with rfl|rfl|rfl|rfl<;>rfl
 have c1:decide ((i:Int)<4)=true:=aCv
 refine wy ?_;refine nh (λm e J=>∃pre,m<18446744073709551616/\e=[(0,y),(3,(i:Int)),(4,cA m),(6,aX B),(7,(i:Int))]/\wL (wd B i)=pre++wL m/\(∀j,m.testBit j=true->(wd B i).testBit j=true)/\Inv (G3 B i++pre.map (64*i+ ·)) J) ⟨[],Ow B i,rfl,rfl,λj h=>h,by rw[kn,ff];exact hI⟩ ?_;rintro m e J ⟨pre,hm,rfl,hpre,aaP,aaD⟩;refine fG @cA.eq_1 (bI (λq=>?_) λq=>?_);have hm0:m≠0:=by rintro rfl;simp at q
 obtain⟨t1,t2⟩:=amc hm0 hm;have w1:bP.wrap (64*(i))=((64*i:Nat):Int):=by rw[wrap_i64 aCs aCs];omega
 have hB:B.testBit (64*i+Bq 64 m)=true:=by
  have:=aaP _ t1;rw[Bf] at this;simp at this;exact this.2
 refine wy ?_;refine dx (ahK bh m hm) ?_;have w3:Dz.wrap ((m)-1)=((m-1:Nat):Int):=by rw[wrap_u64];omega
 have a1:=XA hm (show m-1<18446744073709551616 by omega);unfold cA at a1;refine wy (rL (j4 _ _ _ aaD hB aCs) ?_);rintro _ g ⟨c,rfl,k1,k2⟩;cases c with
 |false=>
  refine dP ?_;exact⟨trivial,az (k2 rfl)⟩
 |true=>
  refine kH @w3 @a1 ?_;refine⟨m&&&(m-1),S8 hm0,pre++[Bq 64 m],Nat.lt_trans (S8 hm0) hm,rfl,?_,λj hj=>?_,?_⟩;rw[hpre,amu hm0];simp;rw[ajG] at hj;simp only[dV] at hj;exact aaP j hj.1;have:=k1 rfl;rw[eD,<-cj];exact this
 have hm0:m=0:=aCB
 subst hm0;refine wx ?_;rw[amv,ff] at hpre;refine⟨rfl,?_⟩;show Inv (G3 B i++(wL (wd B i)).map (64*i+ ·)) J;rw[hpre];exact aaD;rintro e J ⟨rfl,hI⟩;have c1:decide (((4:Nat):Int)<4)=false:=rfl;refine kH @ag.eq_1 @c1 ?_;exact⟨trivial,ax hI⟩
end
def dR:List Nat->List U
 |[]=>[]
 |B::r=>aN B++dR r
def BT(B):(aN B).length=4:=rfl
def wR:∀l:List Nat,(dR l).length=l.length*4
 |[]=>rfl
 |B::r=>by
  show(aN B++dR r).length=_;rw[cG,wR r,BT,di];omega
def ZO:∀(l m),dR (l++m)=dR l++dR m
 |[],_=>rfl
 |B::r,m=>by
  show aN B++dR (r++m)=aN B++dR r++dR m;rw[ZO r m,cj]
def LC:∀{l} {p B},l[p]?=some B->((dR l).drop (p*4)).take 4=aN B
 |[],p,B,h=>aCC
 |A::r,0,B,h=>by
  simp at h;subst h;show(List.drop (0*4) (aN A++dR r)).take 4=_;rw[Nat.zero_mul,ni,ajC (by rw[BT];omega),lH (by rw[BT];omega)]
 |A::r,p+1,B,h=>by
  have:=LC aC2;show(List.drop ((p+1)*4) (aN A++dR r)).take 4=_;rw[show(p+1)*4=(aN A).length+p*4 by rw[BT];omega,<-uy,List.drop_left'];exact this;rfl
@[go_sem]def LD:∀{l} {p B},p<l.length->putAt (dR l) (p*4) (aN B)=dR (l.set p B)
 |[],p,B,h=>aCC
 |A::r,0,B,h=>rfl
 |A::r,p+1,B,h=>by
  have:=LD (B:=B) aC2;unfold putAt at this⊢;show List.take ((p+1)*4) (aN A++dR r)++aN B++List.drop ((p+1)*4+(aN B).length) (aN A++dR r)=aN A++dR (r.set p B);rw[show(p+1)*4=(aN A).length+p*4 by rw[BT];omega,aAz,kK,ajm,<-this];simp only[cj]
def afW(B):(aN B).all bl=true:=rfl
def uK(J:List aa)(v:U)(l:List Nat):Prop:=(v=.af/\l=[])\/∃k,v=.rs k (dR l).length 4 0 l.length/\J[k]?=some (.cells (dR l) true)
section
variable{J:List aa}{v:U}{l:List Nat}{p B:Nat}
def uK.at(h:uK J v l)(hB:l[p]?=some B):∃k,v=.rs k (dR l).length 4 0 l.length/\J[k]?=some (.cells (dR l) true)/\bw 4 v (p:Int)=some (.rp k (dR l).length (p*4))/\aq J true 4 (.rp k (dR l).length (p*4))=some (aX B):=by
 have hlt:=gl hB
 rcases h with⟨_,rfl⟩|⟨k,rfl,S⟩
 simp at hB;refine⟨k,rfl,S,UA hlt,?_⟩;have Y:=LC hB;have V:=wR l;simp only[aq,S,if_true];unfold dI;rw[if_pos rfl,if_pos aCs,Y];rfl
@[go_sem]def uK.st{k}(S:J[k]?=some (.cells (dR l) true))(hlt:p<l.length)(B):aE J 4 (.rp k (dR l).length (p*4)) (aX B)=some (J.set k (.cells (dR (l.set p B)) true)):=by
 have V:=wR l;simp only[aE,S,if_true,dG];have e1:(aX B).cells=aN B:=rfl;rw[e1,if_pos ⟨rfl,aCs,afW B⟩,LD hlt]
end
def rowAt(v:U)(j:Nat):Prop:=∃m l,v=.rs j m 4 0 l
def xI(v:U)(j:Nat):Prop:=∃xs,v=.sl xs (.tok j)
structure eP(an:Nat)(u v:U)(J:List aa)(u' v':U)(hp':List aa):Prop where
 len:J.length<=hp'.length
 keep:∀(j:Nat) b,J[j]?=some b->j≠an->¬rowAt v j->¬xI u j->hp'[j]?=some b
 row:∀j,rowAt v' j->rowAt v j\/J.length<=j
 tok:∀j,xI u' j->xI u j\/J.length<=j
def eP.refl(an)(u v)(J):eP an u v J u v J:=⟨bg _,λ_ _ h _ _ _=>h,λ_ h=>ax h,λ_ h=>ax h⟩
def eP.trans{an}{a b c a2 b2 c2}{x y z}(h:eP an a2 a x b2 b y)(k:eP an b2 b y c2 c z):eP an a2 a x c2 c z:=by
 refine⟨fy h.len k.len,λj d hj Y V h3=>k.keep j d (h.keep j d hj Y V h3) Y (λq=>?_) (λq=>?_),λj q=>?_,λj q=>?_⟩;have:=gl hj
 rcases h.row j q with z|z
 exact V z;omega;have:=gl hj
 rcases h.tok j q with z|z
 exact h3 z;omega
 rcases k.row j q with z|z
 exact h.row j z;have:=h.len;right;omega
 rcases k.tok j q with z|z
 exact h.tok j z;have:=h.len;right;omega
def eP.app{an}{u v}{J l}:eP an u v J u v (J++l):=⟨aCt,λ_ _ h _ _ _=>aJ h,λ_ h=>ax h,λ_ h=>ax h⟩
structure dM(an:Nat)(z:List U)(on bt:List Nat)(ak bv:U)(J:List aa):Prop where
 b:J[an]?=some (.cells (ak::bv::z) false)
 on:bU J ak (on.map aX) 4 148
 bt:uK J bv bt
def dM.ext{an}{z}{on bt}{ak bv}{J hp'}(h:dM an z on bt ak bv J)(S:∀(j:Nat) Z fz,J[j]?=some (.cells Z fz)->hp'[j]?=some (.cells Z fz))(ht:∀(j:Nat) c,J[j]?=some (.tok c 4 148)->hp'[j]?=some (.tok c 4 148)):dM an z on bt ak bv hp':=by
 refine⟨S _ _ _ h.b,?_,?_⟩
 rcases h.on with q|⟨id,q1,ah⟩
 exact ax q;exact az ⟨id,q1,ht _ _ ah⟩
 rcases h.bt with q|⟨k,q1,ah⟩
 exact ax q;exact az ⟨k,q1,S _ _ _ ah⟩
def nc(bt:List Nat)(N:Nat)(l:List Nat):List Nat:=l.foldl (λb p=>b.set p ((b[p]?.getD 0)|||N)) bt
def CN(N):∀(l bt),(nc bt N l).length=bt.length
 |[],_=>rfl
 |p::r,bt=>by
  show(nc (bt.set p _) N r).length=_;rw[CN N r];simp
def auc(bt)(N)(l)(p):nc bt N (l++[p])=(nc bt N l).set p (((nc bt N l)[p]?.getD 0)|||N):=by
 unfold nc;rw[List.foldl_append];rfl
def aeW{G}(bh:dL G){an}{z}{on bt}{ak bv}{J}(h:dM an z on bt ak bv J)(A N)(hA:∀p,A.testBit p=true->p<256->p<bt.length):
  bq G ay 235 [.mp an 0,aX A,aX N] J λr hp'=>dM an z on (nc bt N (els A)) ak bv hp'/\eP an ak bv J ak bv hp':=by
 refine adV.go ?_;have qX:∀B,(aX B).cells=aN B:=λB=>rfl;have la:aq (J++[.cells [.mp an 0] false]++[.cells (aN A) false]++[.cells (aN N) false]) true 4 (.mp (J++[aj [.mp an 0] false]).length 0)=some (aX A):=by
  simp only[aq,cj,cG,en (show J.length<=J.length+1 by omega),OX,di,fI,gP,eH];rfl
 have fj:(bN an 0).cells=[.mp an 0]:=rfl;refine wy (a_ (GA A _) ?_);rintro _ g ⟨rfl,rfl⟩;refine wy ?_;rw[vI];refine⟨_,_,_,rfl,λk S ats ok hR=>?_⟩;generalize hH:J++[aj [bN an 0] false]++[aj (aN A) false]++[aj (aN N) false]++[aj (aN A) false]++marks false=H at S⊢;have aBd:H.length=J.length+5:=by rw[<-hH];simp[marks]
 have ext:∀(j) b,J[j]?=some b->H[j]?=some b:=λj b q=>by rw[<-hH];exact aJ (aJ (aJ (aJ (aJ q))))
 have f3:H[J.length]?=some (.cells [.mp an 0] false):=by rw[<-hH];simp[marks]
 have f5:H[J.length+2]?=some (.cells (aN N) false):=by rw[<-hH];simp[marks,cj]
 have f6:H[J.length+3]?=some (.cells (aN A) false):=by rw[<-hH];simp[marks,cj]
 clear hH la;simp only[cG,di,fI,e6,kK,rO] at hR⊢;subst S;refine a_ (GB bh (Stop:=λ_=>False) (Inv:=λdone g=>g[H.length]?=some (.aS .ready none ats #[9] ok)/\dM an z on (nc bt N done) ak bv g/\g[J.length]?=some (.cells [.mp an 0] false)/\g[J.length+2]?=some (.cells (aN N) false)/\eP an ak bv J ak bv g) ?_ (aJ f6) ⟨aCt,?_,aJ f3,aJ f5,?_⟩) ?_
 · rintro done p g ⟨hl,hN,g3,g5,hs⟩ O Mk
   refine hR [_] g _ rfl ⟨none,hl⟩ ?_;have se:rA [(3,bN J.length 0),(5,bN (J.length+2) 0),(8,U.fn (sN 113) [] [bN (J.length+3) 0])] (List.zip [9] [bO (uw bP (p))])=[(9,bO (uw bP (p))),(3,bN J.length 0),(5,bN (J.length+2) 0),(8,U.fn (sN 113) [] [bN (J.length+3) 0])]:=rfl;rw[se];refine dP ?_;refine⟨⟨none,hl⟩,λeF=>?_⟩;have hlt:p<(nc bt N done).length:=by rw[CN];exact hA p O Mk
   obtain⟨B,hB⟩:=cF hlt;have aps:=gl hl;have ne:∀{j} {Z} {fz},g[j]?=some (.cells Z fz)->H.length≠j:=λq e=>by
    rw[<-e,hl] at q;cases q
   have IQ:∀{j c},g[j]?=some (.tok c 4 148)->H.length≠j:=λq e=>by
    rw[<-e,hl] at q;cases q
   have gT:dM an z on (nc bt N done) ak bv (g.set H.length (.aS .busy eF ats #[9] ok)):=
    hN.ext (λj Z fz q=>aEX) λj c q=>aEY
   have aP:(g.set H.length (.aS .busy eF ats #[9] ok))[J.length]?=some (.cells [.mp an 0] false):=by rw[av (ne g3)];exact g3
   have gh:(g.set H.length (.aS .busy eF ats #[9] ok))[J.length+2]?=some (.cells (aN N) false):=by rw[av (ne g5)];exact g5
   have hs2:eP an ak bv J ak bv (g.set H.length (.aS .busy eF ats #[9] ok)):=⟨by simpa using hs.len,λj b hj Y V h3=>by
    have:=gl hj;rw[av aCs];exact hs.keep j b hj Y V h3,hs.row,hs.tok⟩
   have gX:(g.set H.length (.aS .busy eF ats #[9] ok))[H.length]?=some (.aS .busy eF ats #[9] ok):=aO aps;generalize g.set H.length (.aS .busy eF ats #[9] ok)=g' at gT aP gh hs2 gX⊢;obtain⟨kb,hv,hkb,r1,r2⟩:=gT.bt.at hB;have s1:=uK.st hkb hlt (B|||N);have l3:=cy aP;have lb:aq g' false 1 (.mp an 1)=some bv:=by simp only[aq,gT.b];rfl
   have AH:aq g' true 4 (.mp (J.length+2) 0)=some (aX N):=by simp only[aq,gh];rfl
   refine sJ @l3 @lb @r1 @r2 @AH @nH.eq_1 @oM.eq_1 @true_and @and_true (fo (Fb B N) (bn (jZ _) (bn (jZ _) cx)) ?_);refine lD @l3 @lb @r1 @s1 @qB ?_;have G0:(nc bt N (done++[p]))=(nc bt N done).set p (B|||N):=by rw[auc,hB];rfl
   have hkn:kb≠an:=by rintro rfl;rw[gT.b] at hkb;simp at hkb
   have hkk:kb≠H.length:=by rintro rfl;rw[gX] at hkb;cases hkb
   have apt:=gl hkb;have aBe:=gl gX;show(∃st pd,_=_)/\_;refine⟨⟨.busy,eF,by rw[av hkk];exact gX⟩,true,rfl,λ_=>⟨?_,?_,?_,?_,?_⟩,λq=>aCE⟩;rw[aO aCv];rw[G0];refine⟨?_,?_,az ⟨kb,?_,?_⟩⟩;rw[av (by intro e;have:=gT.b;rw[<-e,gX] at this;cases this),av hkn];exact gT.b
   rcases gT.on with q|⟨id,q1,ah⟩
   exact ax q;refine az ⟨id,q1,?_⟩;rw[av (by rintro rfl;rw[gX] at ah;cases ah),av (by rintro rfl;rw[hkb] at ah;cases ah)];exact ah;rw[hv,wR,wR];simp;rw[av (dj hkk),aO apt];rw[av aCs,av (by rintro rfl;rw[aP] at hkb;simp at hkb)];exact aP;rw[av aCs,av (by rintro rfl;rw[gh] at hkb;simp at hkb)];exact gh;refine⟨by simpa using hs2.len,λj b hj Y V h3=>?_,λj q=>ax q,λj q=>ax q⟩;have:=gl hj;rw[av aCs,av (by rintro rfl;exact V ⟨_,_,hv⟩)];exact hs2.keep j b hj Y V h3
 refine h.ext (λj Z fz q=>aJ (ext _ _ q)) λj c q=>aJ (ext _ _ q);exact⟨aCv,λj b q _ _ _=>aJ (ext _ _ q),λj q=>ax q,λj q=>ax q⟩;rintro r g ⟨rfl,⟨hl,hN,g3,g5,hs⟩|hf⟩;refine⟨.ready,none,hl,aCu,?_⟩;refine dr @vb.eq_1 ?_;rw[Uv];intro g2 he;have ne:∀{j} {Z} {fz},g[j]?=some (.cells Z fz)->H.length≠j:=λq e=>by
  rw[<-e,hl] at q;cases q
 have IQ:∀{j c},g[j]?=some (.tok c 4 148)->H.length≠j:=λq e=>by
  rw[<-e,hl] at q;cases q
 have kp:∀(j:Nat) b,(∀o,b≠.obj o)->(g.set H.length (.aS .exhausted none ats #[9] ok))[j]?=some b->g2[j]?=some b:=λj b O q=>by
  rcases he.2 j with z|⟨_,z,_⟩
  rw[z];exact q;rw[z] at q;cases q;exact absurd rfl (O _)
 refine wy ?_;refine⟨hN.ext (λj Z fz q=>kp j _ aCt aEX) (λj c q=>kp j _ aCt aEY),?_,λj b hj Y V h3=>?_,λj q=>ax q,λj q=>ax q⟩;rw[he.1];simpa using hs.len;have hjl:=gl hj
 rcases he.2 j with z|⟨z,_,_⟩
 rw[z,av aCs];exact hs.keep j b hj Y V h3;omega;exact hf.elim
open Go.Proofs.YtepejmecchhifaaGreatDoor.eP renaming app->qH
def aR(F E:Nat)(e:Bool):List U:=[cA (wd F 0),cA (wd F 1),cA (wd F 2),cA (wd F 3),cA (wd E 0),cA (wd E 1),cA (wd E 2),cA (wd E 3),e]
def jb(F E:Nat)(e:Bool):U:=.agg (aR F E e)
def z9:List U:=[.v (.int .u64 0),.v (.int .u64 0),.v (.int .u64 0),.v (.int .u64 0),.v (.int .u64 0),.v (.int .u64 0),.v (.int .u64 0),.v (.int .u64 0),false]
section
variable{X:List aa}{m F E:Nat}{e:Bool}
@[go_sem]def fQ(h:X[m]?=some (.cells (aR F E e) false)):aq X true 4 (.mp m 0)=some (aX F)/\aq X true 4 (.mp m 4)=some (aX E)/\aq X false 1 (.mp m 8)=some (.v (.bool e))/\aq X true 9 (.mp m 0)=some (jb F E e):=by
 simp only[aq,h];exact⟨rfl,rfl,rfl,rfl⟩
@[go_sem]def T3(h:X[m]?=some (.cells (aR F E e) false))(F'):aE X 4 (.mp m 0) (aX F')=some (X.set m (.cells (aR F' E e) false)):=by
 simp only[aE,h];rfl
@[go_sem]def T4(h:X[m]?=some (.cells (aR F E e) false))(E'):aE X 4 (.mp m 4) (aX E')=some (X.set m (.cells (aR F E' e) false)):=by
 simp only[aE,h];rfl
@[go_sem]def agb(h:X[m]?=some (.cells (aR F E e) false))(e'):aE X 1 (.mp m 8) (.v (.bool e'))=some (X.set m (.cells (aR F E e') false)):=by
 simp only[aE,h];rfl
@[go_sem]def tV(h:X[m]?=some (.cells z9 false))(F' E')(e'):aE X 9 (.mp m 0) (jb F' E' e')=some (X.set m (.cells (aR F' E' e') false)):=by
 simp only[aE,h];rfl
@[go_sem]def I7(h:X[m]?=some (.cells (aR F E e) false))(F' E')(e'):aE X 9 (.mp m 0) (jb F' E' e')=some (X.set m (.cells (aR F' E' e') false)):=by
 simp only[aE,h];rfl
end
def eP.own{an}{u v u' v'}{J hp'}(h:eP an u v J u' v' hp'){j}{Z}{fz}(hj:J[j]?=some (.cells Z fz))(Y:j≠an)(V:¬rowAt v j)(h3:¬xI u j):hp'[j]?=some (.cells Z fz):=h.keep j _ hj Y V h3
def KG{J}{v}{xs}{n}{e}(h:bU J v xs n e){j}(hj:J.length<=j):¬xI v j:=λ⟨ys,e⟩=>by
 rcases h with⟨q,_⟩|⟨id,q,S⟩
 rw[q] at e;cases e;rw[q] at e;have:=gl S;cases e;omega
def uK.low{J}{v}{l}(h:uK J v l){j}(hj:J.length<=j):¬rowAt v j:=λ⟨m,n,e⟩=>by
 rcases h with⟨q,_⟩|⟨k,q,S⟩
 rw[q] at e;cases e;rw[q] at e;have:=gl S;cases e;omega
def eP.fC{an}{u v u' v'}{J hp'}{j}{x}(h:eP an u v J u' v' hp')(hj:J.length<=j):eP an u v J u' v' (hp'.set j x):=⟨by simpa using h.len,λi b Q Y V h3=>by
 have:=gl Q;rw[av aCs];exact h.keep i b Q Y V h3,h.row,h.tok⟩
def dM.fC{an}{z}{on bt}{ak bv}{J}{j}{Z cs'}(h:dM an z on bt ak bv J)(hj:J[j]?=some (.cells Z false))(S:j≠an):dM an z on bt ak bv (J.set j (.cells cs' false)):=by
 refine⟨by rw[av S];exact h.b,?_,?_⟩
 rcases h.on with q|⟨id,q1,ah⟩
 exact ax q;refine az ⟨id,q1,?_⟩;rw[av (by rintro rfl;rw[hj] at ah;cases ah)];exact ah
 rcases h.bt with q|⟨k,q1,ah⟩
 exact ax q;refine az ⟨k,q1,?_⟩;rw[av (by rintro rfl;rw[hj] at ah;simp at ah)];exact ah
def dM.app{an}{z}{on bt}{ak bv}{J x}(h:dM an z on bt ak bv J):dM an z on bt ak bv (J++x):=h.ext (λ_ _ _ q=>aJ q) λ_ _ q=>aJ q
def MA{G}(bh:dL G){an}{z}{on bt}{ak bv}{J}(h:dM an z on bt ak bv J)(eJ iX ig eK)(ae be)(hA:∀p,iX.testBit p=true->p<256->p<bt.length):
  bq G ay 184 [.mp an 0,jb eJ iX ae,jb ig eK be] J λr hp'=>r=jb (if ae then eJ|||ig else eJ) (if be then eK|||iX else eK) (ae&&be)/\dM an z on (nc bt ig (els iX)) ak bv hp'/\eP an ak bv J ak bv hp':=by
 refine ady.go ?_;have qX:∀F E e,(jb F E e).cells=aR F E e:=λF E e=>rfl;have cV:=gl h.b;have Y:dM an z on bt ak bv (J++[.cells (aR eJ iX ae) false]++[.cells (aR ig eK be) false]++[.cells z9 false]):=h.app.app.app;have s1:eP an ak bv J ak bv (J++[.cells (aR eJ iX ae) false]++[.cells (aR ig eK be) false]++[.cells z9 false]):=(qH.trans qH).trans qH;have m4:(J++[.cells (aR eJ iX ae) false]++[.cells (aR ig eK be) false]++[aj z9 false])[J.length]?=some (.cells (aR eJ iX ae) false):=aCt
 have m5:(J++[.cells (aR eJ iX ae) false]++[.cells (aR ig eK be) false]++[aj z9 false])[J.length+1]?=some (.cells (aR ig eK be) false):=aDs
 have m6:(J++[.cells (aR eJ iX ae) false]++[.cells (aR ig eK be) false]++[aj z9 false])[J.length+2]?=some (.cells z9 false):=aDs
 generalize hg:J++[.cells (aR eJ iX ae) false]++[.cells (aR ig eK be) false]++[aj z9 false]=g at Y s1 m4 m5 m6;unfold z9 at hg;refine y9 @cG.{0} ((fQ m4).2.1) ((fQ m5).1) ?_;refine a_ (aeW bh Y iX ig hA) ?_;rintro r g2 ⟨V,s2⟩;have fX:=s2.own m4 aCs (h.bt.low (bg _)) (KG h.on (bg _));have gZ:=s2.own m5 aCs (h.bt.low aCs) (KG h.on aCs);have CU:=s2.own m6 aCs (h.bt.low aCs) (KG h.on aCs);obtain⟨a0,a1,a2,a3⟩:=fQ fX;obtain⟨b0,b1,b2,b3⟩:=fQ gZ;have hs:=s1.trans s2;have ja:g.length=J.length+3:=by rw[<-hg];simp
 have gd:J.length+3<=g2.length:=by have:=s2.len;omega
 have h3:dM an z on (nc bt ig (els iX)) ak bv (g2++[.cells (aR eJ eK (ae&&be)) false]):=V.app;have hs3:eP an ak bv J ak bv (g2++[.cells (aR eJ eK (ae&&be)) false]):=hs.trans qH;have fk:aE (g2++[.cells z9 false]) 9 (.mp g2.length 0) (.agg (aR eJ eK (ae&&be)))=some (g2++[.cells (aR eJ eK (ae&&be)) false]):=by
  have:=tV (X:=g2++[.cells z9 false]) (m:=g2.length) aCt eJ eK (ae&&be);unfold jb at this;rw[this];simp
 unfold z9 at fk;have iM:(g2++[aj (aR eJ eK (ae&&be)) false])[J.length]?=some (.cells (aR eJ iX ae) false):=aJ fX;have nC:(g2++[aj (aR eJ eK (ae&&be)) false])[J.length+1]?=some (.cells (aR ig eK be) false):=aJ gZ;have rm:(g2++[aj (aR eJ eK (ae&&be)) false])[J.length+2]?=some (.cells z9 false):=aJ CU;have rq:(g2++[aj (aR eJ eK (ae&&be)) false])[g2.length]?=some (.cells (aR eJ eK (ae&&be)) false):=aCt
 generalize g2++[aj (aR eJ eK (ae&&be)) false]=X at h3 hs3 fk iM nC rm rq;generalize hm:g2.length=m at fk rq gd⊢;have hmn:m≠an:=aCs
 have Oq:∀(X) (F E F' E') (c),dM an z on (nc bt ig (els iX)) ak bv X->eP an ak bv J ak bv X->X[J.length]?=some (.cells (aR eJ iX ae) false)->X[J.length+1]?=some (.cells (aR ig eK be) false)->X[J.length+2]?=some (.cells z9 false)->X[m]?=some (.cells (aR F E c) false)->
   dM an z on (nc bt ig (els iX)) ak bv (X.set m (.cells (aR F' E' c) false))/\eP an ak bv J ak bv (X.set m (.cells (aR F' E' c) false))/\(X.set m (.cells (aR F' E' c) false))[J.length]?=some (.cells (aR eJ iX ae) false)/\(X.set m (.cells (aR F' E' c) false))[J.length+1]?=some (.cells (aR ig eK be) false)/\(X.set m (.cells (aR F' E' c) false))[J.length+2]?=some (.cells z9 false)/\(X.set m (.cells (aR F' E' c) false))[m]?=some (.cells (aR F' E' c) false):=λX F E F' E' c x1 x2 x3 mG rJ oT=>
  ⟨x1.fC oT hmn,x2.fC aCs,by rw[av aCs];exact x3,by rw[av aCs];exact mG,by rw[av aCs];exact rJ,aO (gl oT)⟩
 have fin:∀(X) (F E) (c),dM an z on (nc bt ig (els iX)) ak bv X->eP an ak bv J ak bv X->X[J.length+2]?=some (.cells z9 false)->X[m]?=some (.cells (aR F E c) false)->
   ∃uN,aq X true 9 (.mp m 0)=some (jb F E c)/\aE X 9 (.mp (J.length+2) 0) (jb F E c)=some uN/\aq uN true 9 (.mp (J.length+2) 0)=some (jb F E c)/\dM an z on (nc bt ig (els iX)) ak bv uN/\eP an ak bv J ak bv uN:=λX F E c x1 x2 rJ oT=>
  ⟨_,(fQ oT).2.2.2,tV rJ F E c,(fQ (aO (gl rJ))).2.2.2,x1.fC rJ aCs,x2.fC aCs⟩
 have f2:∀c:Bool,cq [.v (.int .u64 0),.v (.int .u64 0),.v (.int .u64 0),.v (.int .u64 0),.v (.int .u64 0),.v (.int .u64 0),.v (.int .u64 0),.v (.int .u64 0),false] [(0,4,aX eJ),(4,4,aX eK),(8,1,c)]=some (aR eJ eK c):=λc=>rfl;obtain⟨fE,p1,p2,p3⟩:=fQ iM;obtain⟨aM,r1,r2,hD⟩:=fQ nC;obtain⟨t0,t1,t2,t3⟩:=fQ rq;have Nr:=λA B=>Fb (G:=G) A B;cases ae<;>cases be;obtain⟨uN,y1,eu,jT,uq,Dn⟩:=fin X eJ eK false h3 hs3 rm rq;have N6:aE _ 9 (.mp m 0) (.agg (aR eJ eK false))=some X:=fk;refine mF (cu @a0 @a1 @a2 @a3) (cu @b0 @b1 @b2 @b3) (cu @f2 @hm @N6 @fE) (cu @p1 @p2 @aM @r1) (cu @r2 @t0 @t1 @y1) @eu @jT ?_;exact⟨rfl,uq,Dn⟩;have N6:aE _ 9 (.mp m 0) (.agg (aR eJ eK false))=some X:=fk;obtain⟨x1,x2,x3,mG,rJ,oT⟩:=Oq X eJ eK eJ (eK|||iX) false h3 hs3 iM nC rm rq;have vH:=T4 rq (eK|||iX);obtain⟨uN,y1,eu,jT,uq,Dn⟩:=fin _ _ _ false x1 x2 rJ oT;refine wy (fo (Nr eK iX) (bn (jZ _) (bn (jZ _) cx)) ?_);have JC:aE X 4 (.mp m 4) (aX (eK|||iX))=some (X.set m (.cells (aR eJ (eK|||iX) false) false)):=vH;refine kg @JC @y1 @eu @jT ?_;exact⟨rfl,uq,Dn⟩;have N6:aE _ 9 (.mp m 0) (.agg (aR eJ eK false))=some X:=fk;obtain⟨x1,x2,x3,mG,rJ,oT⟩:=Oq X eJ eK (eJ|||ig) eK false h3 hs3 iM nC rm rq;have JC:aE X 4 (.mp m 0) (aX (eJ|||ig))=some (X.set m (.cells (aR (eJ|||ig) eK false) false)):=T3 rq (eJ|||ig);obtain⟨uN,y1,eu,jT,uq,Dn⟩:=fin _ _ _ false x1 x2 rJ oT;obtain⟨kG,u1,u2,u3⟩:=fQ mG;refine wy (fo (Nr eJ ig) (bn (jZ _) (bn (jZ _) cx)) ?_);refine nL @JC @u2 @y1 @eu @jT ?_;exact⟨rfl,uq,Dn⟩;have N6:aE _ 9 (.mp m 0) (.agg (aR eJ eK true))=some X:=fk;obtain⟨x1,x2,x3,mG,rJ,oT⟩:=Oq X eJ eK (eJ|||ig) eK true h3 hs3 iM nC rm rq;have JC:aE X 4 (.mp m 0) (aX (eJ|||ig))=some (X.set m (.cells (aR (eJ|||ig) eK true) false)):=T3 rq (eJ|||ig);obtain⟨kG,u1,u2,u3⟩:=fQ mG;obtain⟨q0,q1,ah,aP⟩:=fQ x3;obtain⟨i0,i1,i2,i3⟩:=fQ oT;refine wy (fo (Nr eJ ig) (bn (jZ _) (bn (jZ _) cx)) ?_);have azK:aE (X.set m (.cells (aR (eJ|||ig) eK true) false)) 4 (.mp m 4) (aX (eK|||iX))=some ((X.set m (.cells (aR (eJ|||ig) eK true) false)).set m (.cells (aR (eJ|||ig) (eK|||iX) true) false)):=T4 oT (eK|||iX);obtain⟨v1,v2,v3,v4,v5,v6⟩:=Oq _ _ _ (eJ|||ig) (eK|||iX) true x1 x2 x3 mG rJ oT;obtain⟨uN,y1,eu,jT,uq,Dn⟩:=fin _ _ _ true v1 v2 v5 v6;refine wy (fo (Nr eK iX) (bn (jZ _) (bn (jZ _) cx)) ?_);refine kg @azK @y1 @eu @jT ?_;exact⟨rfl,uq,Dn⟩
def bK.many(p:bK):Nat:=(if p.high<0 then(if(1:Int)>p.low then 1 else p.low) else p.high).toNat
def n3(ps:List bK):Nat->Int->Nat
 |0,_=>0
 |f+1,i=>match ps[i.toNat]? with
  |none=>0
  |some p=>if p.kind=1 then 1 else(if p.kind=4 then p.many else 1)*(p.kids.map λk=>n3 ps f k).sum
def al2{ps}(h:ow ps):∀(n f g) (i),i.toNat<n->i.toNat<f->i.toNat<g->n3 ps f i=n3 ps g i:=by
 intro n
 induction n with
 |zero=>intro f g i h0;omega
 |succ n ih=>
  intro f g i h0 Y V;obtain⟨f,rfl⟩:∃f',f=f'+1:=⟨f-1,aCs⟩;obtain⟨g,rfl⟩:∃g',g=g'+1:=⟨g-1,aCs⟩;unfold n3;cases J:ps[i.toNat]? with
  |none=>rfl
  |some p=>
   dsimp only;have e:(p.kids.map λk=>n3 ps f k)=p.kids.map λk=>n3 ps g k:=vR λk S=>by
    have:=(h _ p J).2 k S;exact ih f g k aCs aCs aCs
   rw[e]
def cnt(ps:List bK)(i:Int):Nat:=n3 ps (i.toNat+1) i
def Qk{ps}(h:ow ps){i:Nat}{p}(J:ps[i]?=some p):cnt ps (i)=if p.kind=1 then 1 else(if p.kind=4 then p.many else 1)*(p.kids.map λk=>cnt ps k).sum:=by
 show n3 ps (i+1) (i)=_;unfold n3;rw[ux,J];dsimp only;have e:(p.kids.map λk=>n3 ps i k)=p.kids.map λk=>cnt ps k:=vR λk S=>by
  have:=(h _ p J).2 k S;exact al2 h (i+1) i (k.toNat+1) k aCs aCs aCs
 rw[e]
@[go_sem]def E0(a b:Nat):o9 false [(a:Int),(257:Int)]=some (.v (.int .i64 ((min a 257:Nat):Int))):=by
 show some (bO (.int .i64 (if(257:Int)<(a) then 257 else(a))))=_;congr 3;split<;>omega
def av7{G}{v}{ps}(h:qe v ps):∀(n i),i<n->i<ps.length->b_ G ay 118 [v,(i:Int)] ((min (cnt ps (i)) 257:Nat):Int):=by
 intro n
 induction n with
 |zero=>intro i Q;omega
 |succ n ih=>
  intro i Q hl;obtain⟨p,cZ⟩:=cF hl;have jl:=h.ok i p cZ;have mY:=h.no p (bA cZ);have iK:=jl.kids;have T:=Qk h.ok cZ;refine eg (acV.go ?_);have e1:bw 5 v (i:Int)=some (.fp p.cells 0):=h.v.bC (x:=p.aF) aEi rfl;have e2:∀J,aq J true 5 (.fp p.cells 0)=some (.agg p.cells):=λJ=>rfl;have s1:=vC [] p;rw[eH,eH] at s1;have z0:([]:List aa).length=0:=rfl;rw[z0] at s1;have l0:aq [.cells p.cells false] false 1 (.mp 0 0)=some (.v (.int .i64 p.kind)):=rfl;have l1:aq [.cells p.cells false] false 1 (.mp 0 1)=some (.v (.int .i64 p.low)):=rfl;have l2:aq [.cells p.cells false] false 1 (.mp 0 2)=some (.v (.int .i64 p.high)):=rfl;have l4:aq [.cells p.cells false] false 1 (.mp 0 4)=some p.kv:=rfl;have lk:=vf mY (fy iK aCu);refine wy (bI (λq=>?_) λq=>?_);have q':p.kind=1:=aCy
  rw[T,if_pos q'];exact wy ((aB _).done);have q':p.kind≠1:=aCy
  rw[if_neg q'] at T;refine wy ?_;refine b9 (λj e J=>e=[(0,v),(5,.mp 0 0),(6,((min ((p.kids.take j).map λk=>cnt ps k).sum 257:Nat):Int)),(18,p.kv),(19,ag p.kids.length),(20,ag j)]/\J=[.cells p.cells false]) p.kids.length ⟨rfl,rfl⟩ ?_ ?_;rintro j e J hj ⟨rfl,rfl⟩;obtain⟨x,I⟩:=cF hj;obtain⟨x0,x1⟩:=jl.2 x (bA I);obtain⟨xn,rfl⟩:=mI x0;obtain⟨pk,k1,k2⟩:=(CH p [.cells p.cells false]).get I;have uj:=vD (f:=λx=>cnt ps x) I;have m1:=E0 (min ((p.kids.take j).map λk=>cnt ps k).sum 257+min (cnt ps (xn)) 257) 0;have jv:min (min ((p.kids.take j).map λk=>cnt ps k).sum 257+min (cnt ps (xn)) 257) 257=min ((p.kids.take (j+1)).map λk=>cnt ps k).sum 257:=by rw[uj];omega
  refine wy (fo (ih xn aCs aCs) (bn (BV h) (bn (cm _) cx)) ?_);refine wx ?_
  first
   |exact⟨rfl,trivial⟩
   |exact⟨rfl,rfl⟩
  rintro e J ⟨rfl,rfl⟩;rw[p8];refine wy ?_;generalize(p.kids.map λk=>cnt ps k).sum=hk at T⊢;refine bI (λec=>?_) λec=>?_;have yV:p.kind=4:=aDQ
  rw[if_pos yV] at T;have O:0<=p.low/\p.low<=20/\(p.high= -1\/(1<=p.high/\p.high<=20)):=by
   rcases jl.1 with z|z|z
   omega;omega;omega
  have m0:o9 true [p.low,(1:Int)]=some (.v (.int .i64 (if(1:Int)>p.low then 1 else p.low))):=rfl;have mV:1<=p.many/\p.many<=20:=by
   unfold bK.many;constructor<;>(split<;>(try split))<;>omega
  have apY:min hk 257*p.many<=257*20:=Nat.mul_le_mul (Nat.min_le_right _ _) mV.2;have w1:bP.wrap (((min hk 257:Nat):Int)*(p.many:Int))=((min hk 257*p.many:Nat):Int):=by
   rw[<-Int.natCast_mul,wrap_i64 aCs aCs]
  have jv:min (min hk 257*p.many) 257=min (p.many*hk) 257:=by
   rcases Nat.le_total hk 257 with z|z
   rw[F5 z,Wk];have V:257*p.many<=p.many*hk:=aEL
   rw[Nat.min_eq_right z];omega
  have m1:=E0 (min hk 257*p.many) 0;rw[jv] at m1;rw[T];refine wy (bI (λgh=>?_) λgh=>?_);have B4:(if(1:Int)>p.low then 1 else p.low)=(p.many:Int):=by
   have:p.high<0:=by simpa using gh
   unfold bK.many;rw[if_pos this];split<;>omega
  rw[B4] at m0;exact wy ((aB _).done);have B4:p.high=(p.many:Int):=by
   have:¬p.high<0:=by simp at gh;omega
   unfold bK.many;rw[if_neg this];omega
  rw[B4];exact wy ((aB _).done);have yV:p.kind≠4:=aDQ
  rw[if_neg yV,Bz] at T;rw[T];exact wy ((aB _).done)
@[go_sem]def I1(B):bS 4 [aX B]=true:=rfl
@[go_sem]def Nn(l:List Nat):bS 4 (l.map aX)=true:=by
 rw[bS,c7];intro x I;obtain⟨t,ht,rfl⟩:=cI.1 I;rfl
@[go_sem]def PB(B):dy 4 [aX B]=some (.sl [aX B] .exact):=rfl
section
variable{an:Nat}{z:List U}{on bt:List Nat}{ak bv:U}{J:List aa}
@[go_sem]def dM.og(h:dM an z on bt ak bv J){w}(hw:bl w=true):aE J 1 (.mp an 0) w=some (J.set an (.cells (w::bv::z) false)):=by
 have cO:w.cells=[w]:=aD_
 simp only[aE,h.b,dG,cO];simp[hw,putAt]
@[go_sem]def dM.fk(h:dM an z on bt ak bv J){w}(hw:bl w=true):aE J 1 (.mp an 1) w=some (J.set an (.cells (ak::w::z) false)):=by
 have cO:w.cells=[w]:=aD_
 simp only[aE,h.b,dG,cO];simp[hw,putAt]
@[go_sem]def dM.S1(h:dM an z on bt ak bv J):aq J false 1 (.mp an 0)=some ak:=aCY
@[go_sem]def dM.aeN(h:dM an z on bt ak bv J):aq J false 1 (.mp an 1)=some bv:=aCY
@[go_sem]def dM.atY(h:dM an z on bt ak bv J):∀g,bL ak g=some (.v (.int .i64 (on.length:Int)),g):=λg=>by
 rcases h.on with⟨rfl,e⟩|⟨id,rfl,_⟩
 have:on=[]:=aEG
 subst this;rfl;simp[m_,goInt]
def dM.awi(h:dM an z on bt ak bv J)(hn:on.length<=100000)(B):∃bD g g',cM J 4 32 148 ak (.sl [aX B] .exact)=some (bD,g)/\aE g 1 (.mp an 0) bD=some g'/\dM an z (on++[B]) bt bD bv g'/\eP an ak bv J bD bv g':=by
 obtain⟨bf,g,e1,hA,hne,hle,S⟩:=kQ (aZ:=32) h.on (Nn on) (I1 B) aCu aCu aCv;have gy:∀{j} {Z} {fz},J[j]?=some (.cells Z fz)->∀xs,ak≠.sl xs (.tok j):=λ{j Z fz} q xs e=>by
  rcases h.on with⟨q1,_⟩|⟨id,q1,ah⟩
  rw[q1] at e;cases e;rw[q1] at e;cases e;rw[q] at ah;cases ah
 have kb:g[an]?=some (.cells (ak::bv::z) false):=S _ _ h.b (gy h.b)
 have ho:bl bf=true:=aCF
 have cO:bf.cells=[bf]:=aD0
 have s1:aE g 1 (.mp an 0) bf=some (g.set an (.cells (bf::bv::z) false)):=by
  simp only[aE,kb,dG,cO];simp[ho,putAt]
 refine⟨bf,g,_,e1,s1,⟨aO (gl kb),?_,?_⟩,⟨by simpa using hle,λj b hj Y V h3=>?_,λj q=>ax q,λj ⟨xs,q⟩=>?_⟩⟩;rw[eD]
 rcases hA with q|⟨id,q1,ah⟩
 exact ax q;refine az ⟨id,q1,?_⟩;rw[av (by rintro rfl;rw[kb] at ah;cases ah)];exact ah
 rcases h.bt with q|⟨k,q1,ah⟩
 exact ax q;refine az ⟨k,q1,?_⟩;rw[av (by rintro rfl;rw[h.b] at ah;simp at ah)];exact S _ _ ah (gy ah);rw[av (dj Y)];exact S j b hj λxs e=>h3 ⟨xs,e⟩
 rcases cH j J.length with hj|hj
 left
 rcases h.on with⟨q1,ah⟩|⟨id,q1,ah⟩
 subst q1;have:on=[]:=aCU
 subst this;have Qs:cM J 4 32 148 .af (.sl [aX B] .exact)=some (.sl [aX B] (.tok J.length),J++[.tok 1 4 148]):=rfl;rw[Qs] at e1;cases e1;cases q;omega;subst q1;have hfit:((on.map aX).length+1)*32<=140737488355328:=aCv
 have Qs:cM J 4 32 148 (.sl (on.map aX) (.tok id)) (.sl [aX B] .exact)=some (.sl (on.map aX++[aX B]) (.tok id),J.set id (.tok ((on.map aX).length+1) 4 148)):=by
  have Y:=I1 B;have V:=Nn on;have h3:¬([aX B]=([]:List U)):=aCt
  simp only[cM,fA,gp,contents,Y,V,h3,if_false,and_self,vV,if_true,true_and,ah,di,fI,e6];rw[if_pos hfit]
 rw[Qs] at e1;cases e1;cases q;exact⟨_,rfl⟩;exact az hj
def dM.awg(h:dM an z on bt ak bv J)(hn:bt.length<=100000)(B):∃bv' g g',mc J 4 32 148 bv (.sl [aX B] .exact)=some (bv',g)/\aE g 1 (.mp an 1) bv'=some g'/\dM an z on (bt++[B]) ak bv' g'/\eP an ak bv J ak bv' g'/\∀(j:Nat) Z,J[j]?=some (.cells Z false)->g[j]?=some (.cells Z false):=by
 have cV:=gl h.b
 rcases h.bt with⟨rfl,rfl⟩|⟨k,rfl,S⟩
 have Y:dM an z on [] ak .af (J++[.cells (aN B) true]):=h.app;refine⟨.rs J.length 4 4 0 1,J++[.cells (aN B) true],_,rfl,Y.fk rfl,⟨aO aCv,?_,az ⟨J.length,rfl,?_⟩⟩,⟨aCt,λj b hj Y V h3=>?_,λj ⟨m,l,q⟩=>?_,λj q=>ax q⟩,λj Z q=>aJ q⟩
 rcases Y.on with q|⟨id,q1,ah⟩
 exact ax q;refine az ⟨id,q1,?_⟩;rw[av (by rintro rfl;rw[Y.b] at ah;cases ah)];exact ah;rw[av aCs];show(J++[aj (aN B) true])[J.length]?=some (.cells (aN B++[]) true);simp;rw[av (dj Y)];exact aJ hj;cases q;exact az (bg _);have hl:=gl S;have hkn:k≠an:=by rintro rfl;rw[h.b] at S;simp at S
 have hfl:=wR bt;have aV:ke (dR bt) (bt.length*4) (flat [aX B])=dR (bt++[B]):=by
  have hf:flat [aX B]=aN B:=rfl;unfold ke;rw[hf,ZO,lH aCs,sO aCs,ff];show _=dR bt++(aN B++[]);rw[ff]
 have e1:mc J 4 32 148 (.rs k (dR bt).length 4 0 bt.length) (.sl [aX B] .exact)=some (.rs k (dR (bt++[B])).length 4 0 (bt++[B]).length,J.set k (.cells (dR (bt++[B])) true)):=by
  show fA J 4 32 148 (.rs k (dR bt).length 4 0 bt.length) (.sl [aX B] .exact)=_;have Y:=I1 B;have h3:¬([aX B]=([]:List U)):=aCt
  simp only[fA,contents,gp,Y,h3,if_false,and_self,vV,if_true,true_and,S,di,fI,aV];rw[if_pos aCs];simp
 have hb':(J.set k (.cells (dR (bt++[B])) true))[an]?=some (.cells (ak:: .rs k (dR bt).length 4 0 bt.length::z) false):=by rw[av hkn];exact h.b
 have s1:aE (J.set k (.cells (dR (bt++[B])) true)) 1 (.mp an 1) (.rs k (dR (bt++[B])).length 4 0 (bt++[B]).length)=some ((J.set k (.cells (dR (bt++[B])) true)).set an (.cells (ak:: .rs k (dR (bt++[B])).length 4 0 (bt++[B]).length::z) false)):=by
  simp only[aE,hb',dG];simp[gN,bl,putAt]
 refine⟨_,_,_,e1,s1,⟨aO aCv,?_,az ⟨k,rfl,?_⟩⟩,⟨aCt,λj b hj Y V h3=>?_,λj ⟨m,l,q⟩=>?_,λj q=>ax q⟩,λj Z q=>by rw[av (by rintro rfl;rw[S] at q;simp at q)];exact q⟩
 rcases h.on with q|⟨id,q1,ah⟩
 exact ax q;refine az ⟨id,q1,?_⟩;rw[av (by rintro rfl;rw[h.b] at ah;cases ah),av (by rintro rfl;rw[S] at ah;cases ah)];exact ah;rw[av (dj hkn),aO hl];rw[av (dj Y),av (by rintro rfl;exact V ⟨_,_,rfl⟩)];exact hj;cases q;exact ax ⟨_,_,rfl⟩
end
end Go.Proofs.YtepejmecchhifaaGreatDoor

/- Part 5 of a proof. No condition. -/
import Derived.Test.YtggeooeohcbdhaaGreatDoorZ4
import Derived.Sort.Grow
import Derived.Deep.Draws
import Derived.Shelf.Vars
import Derived.Lib.SplitLaws
import Derived.Lib.IndexBytes
import Derived.Lib.ItoaNum
set_option linter.unusedVariables false
set_option linter.unusedSimpArgs false
set_option linter.defProp false
open Bool renaming and_eq_true->dY,eq_iff_iff->Bl,false_and->zj,false_eq_true->iA,not_false->rS,not_true->vU,rec->Bm
open ByteArray renaming ext->VK
open Go.aJ.U renaming agg->bT,cells->gm,one->bn,v->bP
open Go.aJ.aa renaming cells->aj,aT->iB
open Go.aJ.aE renaming mono->aZ,pure->dx,ayD->Bn
open Go.aJ.fI renaming mono->e3
open Go.aJ.gP renaming mono->rT
open Go.aJ.s_ renaming mono->VM
open Go.aJ.eA renaming refl->qb
open Go.aJ.pE renaming Ej->OF
open Go.DataW renaming trod->OH
open Go.IntKind renaming bits->F5,i64->b7,max->aiV,min->aiW,signed->F6,u64->DD
open Go.Value renaming cells->vY,okWide->J_
open Go.World renaming cell?->DG
open Int renaming eq_ofNat_of_zero_le->mJ,ofNat_eq_natCast->xZ,toNat_natCast->uG
open List renaming all_cons->lD,all_eq_true->c_,any_eq_true->F7,append_nil->e4,cons_append->jW,count_cons->aja,drop_succ_cons->x6,drop_zero->nk,eq_nil_of_length_eq_zero->lE,ext_getElem?->Bu,getElem?_append_right->er,getElem?_cons_succ->v8,getElem?_cons_zero->l6,getElem?_eq_getElem->br,getElem?_eq_none->hG,getElem?_eq_some_iff->bE,getElem?_map->eC,getElem?_range->azQ,getElem?_reverse->Wa,getElem?_set_ne->av,getElem?_set_self->aR,getElem_of_mem->DJ,length->zq,length_append->cB,length_cons->dm,length_map->b_,length_pos_iff->DK,length_set->rU,length_singleton->nq,map_append->eX,map_cons->eD,map_set->s0,mem_cons->ek,mem_cons_of_mem->qP,mem_cons_self->zw,mem_map->cO,mem_of_getElem?->bG,mem_of_mem_drop->uH,nil_append->eR,range->jq,rec->wg,replicate->dL,reverse_reverse->ajl,take_length->rV,take_of_length_le->kG,take_succ_cons->x7,take_zero->qQ
open Nat renaming add_zero->rW,beq->dc,beq_eq->s3,ble->s4,blt->oY,eq_of_beq_eq_true->qe,le_of_ble_eq_true->nT,le_refl->bl,lor->Kh,lt_of_succ_le->ajr,lt_or_ge->cE,lt_succ_self->Bw,rec->Ge,sub_self->kj,zero_add->e5
open Option renaming bind_assoc->x_,bind_eq_some_iff->eY,bind_some->kn,isSome_none->ya,map->DN,map_eq_some_iff->cc,map_some->ie
open Option.some renaming injEq->lG
open Or renaming inl->ay,inr->ax
open Prod.mk renaming injEq->uI
open UInt8 renaming ofNat->rY,toNat->Wn
namespace Go.aJ
open Go.RowKit
section
variable{α:Type}{f:aa->(aa->Option U)->Option U}{a:cZ}{b id n off:Nat}{o:kK}{k:U->Option U}{e:Env}{i p x:U}{H:List aa}{g:aa->Option aa}{y:aa}{aH:Bool}{cs:List U}{op:BinOp}{L:List Nat}
section
variable{β:Type}
noncomputable def jJ(n:Nat)(k:Nat->β):β:=@Ge (λ_=>β) (k Nat.zero) (λm _=>k (Nat.succ m)) n
def su(n:Nat)(k:Nat->β):jJ n k=k n:=by cases n<;>rfl
noncomputable def LN(i:Int)(k:Int->β):β:=@Int.rec (λ_=>β) (λn=>jJ n λn=>k (.ofNat n)) (λn=>jJ n λn=>k (.negSucc n)) i
def ZS(i:Int)(k:Int->β):LN i k=k i:=by
 cases i with
 |ofNat n=>exact su n λn=>k (.ofNat n)
 |negSucc n=>exact su n λn=>k (.negSucc n)
noncomputable def Ab(b:Bool)(k:Bool->β):β:=@Bm (λ_=>β) (k false) (k true) b
def ZR(b:Bool)(k:Bool->β):Ab b k=k b:=by cases b<;>rfl
noncomputable def tM{α:Type}(f:α->(α->β)->β)(l:List α):(List α->β)->β:=@wg α (λ_=>(List α->β)->β) (λk=>k []) (λx _ ih k=>f x λx=>ih λr=>k (x::r)) l
def B4{f:α->(α->β)->β}(hf:∀x k,f x k=k x):∀(l:List α) (k:List α->β),tM f l k=k l
 |[],k=>rfl
 |x::r,k=>(hf x _).trans (B4 hf r _)
noncomputable def Q3(s:ByteArray)(k:ByteArray->β):β:=match s with
 |⟨⟨l⟩⟩=>tM (λx k=>k x) l λl=>k ⟨⟨l⟩⟩
def amX(s:ByteArray)(k:ByteArray->β):Q3 s k=k s:=by
 cases s with
 |mk a=>cases a with
  |mk l=>simp only[Q3];rw[B4 λ_ _=>rfl]
noncomputable def LO(v:Value)(k:Value->β):β:=match v with
 |.int kd i=>LN i λi=>k (.int kd i)
 |.bool b=>Ab b λb=>k (.bool b)
 |.string s=>Q3 s λs=>k (.string s)
 |v=>k v
def ZT(v:Value)(k:Value->β):LO v k=k v:=by
 cases v<;>simp only[LO,ZS,ZR,amX]
noncomputable def Q4(t:iD)(k:iD->β):β:=match t with
 |.exact=>k .exact
 |.no=>k .no
 |.tok id=>jJ id λid=>k (.tok id)
def amY(t:iD)(k:iD->β):Q4 t k=k t:=by cases t<;>simp only[Q4,su]
noncomputable def oG:Nat->U->(U->β)->β
 |0,v,k=>k v
 |n+1,v,k=>match v with
  |.v x=>LO x λx=>k (.v x)
  |.agg cs=>tM (oG n) cs λcs=>k (.agg cs)
  |.aK cs=>tM (oG n) cs λcs=>k (.aK cs)
  |.af=>k .af
  |.sl xs t=>tM (oG n) xs λxs=>Q4 t λt=>k (.sl xs t)
  |.fp cs off=>tM (oG n) cs λcs=>jJ off λoff=>k (.fp cs off)
  |.mp b off=>jJ b λb=>jJ off λoff=>k (.mp b off)
  |.rp b m off=>jJ b λb=>jJ m λm=>jJ off λoff=>k (.rp b m off)
  |.rs b m sz off len=>jJ b λb=>jJ m λm=>jJ off λoff=>jJ len λlen=>k (.rs b m sz off len)
  |.eN b=>jJ b λb=>k (.eN b)
  |.fn f a b=>tM (oG n) a λa=>tM (oG n) b λb=>k (.fn f a b)
  |.cQ t x=>oG n x λx=>k (.cQ t x)
  |.ey b=>jJ b λb=>k (.ey b)
  |.gk b=>jJ b λb=>k (.gk b)
  |.fL b t=>jJ b λb=>k (.fL b t)
  |.eW ch=>k (.eW ch)
def wY:∀(n:Nat) (v:U) (k:U->β),oG n v k=k v
 |0,v,k=>rfl
 |n+1,v,k=>by
  cases v<;>simp only[oG,ZT,amY,su,B4 (wY n),wY n]
noncomputable def G9(t:Nat)(e:Env)(k:U->β)(d:β):β:=@wg (Nat×U) (λ_=>β) d (λp _ ih=>@Bm (λ_=>β) ih (k p.2) (dc p.1 t)) e
def QB(t:Nat)(k:U->β)(d:β):∀(e:Env),G9 t e k d=match eZ e t with|some v=>k v|none=>d
 |[]=>rfl
 |(j,v)::r=>by
  have ih:=QB t k d r;simp only[eZ];by_cases h:j=t;subst h;rw[if_pos rfl];show@Bm (λ_=>β) _ (k v) (dc j j)=_;rw[show dc j j=true from Nat.beq_refl j];have hb:dc j t=false:=by cases hb:dc j t with
   |false=>rfl
   |true=>exact(h (qe hb)).elim
  rw[if_neg h,<-ih];show@Bm (λ_=>β) (G9 t r k d) (k v) (dc j t)=_;rw[hb]
noncomputable def rH(L:List Nat):Env->(Env->β)->β:=@wg Nat (λ_=>Env->(Env->β)->β) (λe k=>k []) (λj _ ih e k=>G9 j e (λv=>ih e λr=>k ((j,v)::r)) (ih e k)) L
def uf:∀(L:List Nat) (e:Env) (k:Env->β),rH L e k=k (kA L e)
 |[],e,k=>rfl
 |j::L,e,k=>by
  show G9 j e (λv=>rH L e λr=>k ((j,v)::r)) (rH L e k)=_;rw[QB];simp only[kA];cases eZ e j with
  |none=>simp only[z6,uf L e]
  |some v=>simp only[z6,uf L e]
end
def Hf:Value->Value->Bool
 |.int k a,.int k' b=>decide (k=k')&&decide (a=b)
 |.bool a,.bool b=>a==b
 |.string a,.string b=>decide (a.data.toList=b.data.toList)
 |.pointer none,.pointer none=>true
 |.nilFunc,.nilFunc=>true
 |.nilIface,.nilIface=>true
 |.map none,.map none=>true
 |_,_=>false
def Y9:∀{a b:Value},Hf a b=true->a=b:=by
 intro a b h;unfold Hf at h;split at h;simp only[dY,decide_eq_true_eq] at h;rw[h.1,h.2];rw[eq_of_beq h];simp only[decide_eq_true_eq] at h;rename_i a b;cases a with
 |mk a=>cases a with
  |mk a=>cases b with
   |mk b=>cases b with
    |mk b=>dsimp only at h;rw[h]
 all_goals first|rfl|cases h
def tK{α:Type}(f:α->α->Bool):List α->List α->Bool
 |[],[]=>true
 |a::r,b::s=>f a b&&tK f r s
 |_,_=>false
def Ls{f:α->α->Bool}(hf:∀{a b},f a b=true->a=b):∀{l m:List α},tK f l m=true->l=m
 |[],[],_=>rfl
 |a::r,b::s,h=>by
  simp only[tK,dY] at h;rw[hf h.1,Ls hf h.2]
 |[],_::_,h=>aB1
 |_::_,[],h=>aB1
def QN:iD->iD->Bool
 |.exact,.exact=>true
 |.no,.no=>true
 |.tok a,.tok b=>a==b
 |_,_=>false
def amu{a b:iD}(h:QN a b=true):a=b:=by
 cases a<;>cases b<;>first|rfl|(cases h;done)|(simp only[QN,beq_iff_eq] at h;rw[h])
def QF:Fn->Fn->Bool
 |.func a,.func b=>a==b
 |_,_=>false
def amo{a b:Fn}(h:QF a b=true):a=b:=by
 unfold QF at h;split at h;rw[eq_of_beq h];cases h
def nw:Nat->U->U->Bool
 |0,_,_=>false
 |n+1,a,b=>match a,b with
  |.v x,.v y=>Hf x y
  |.agg x,.agg y=>tK (nw n) x y
  |.aK x,.aK y=>tK (nw n) x y
  |.af,.af=>true
  |.sl x t,.sl y u=>tK (nw n) x y&&QN t u
  |.fp x i,.fp y j=>tK (nw n) x y&&i==j
  |.mp k i,.mp l j=>k==l&&i==j
  |.rp k m i,.rp l m' j=>k==l&&m==m'&&i==j
  |.rs k m s i n,.rs l m' s' j n'=>k==l&&m==m'&&s==s'&&i==j&&n==n'
  |.eN k,.eN l=>k==l
  |.fn f x y,.fn g u v=>QF f g&&tK (nw n) x u&&tK (nw n) y v
  |.cQ t x,.cQ u y=>t==u&&nw n x y
  |.ey k,.ey l=>k==l
  |.gk k,.gk l=>k==l
  |.fL k t,.fL l u=>k==l&&t.1==u.1&&t.2==u.2
  |_,_=>false
def wS:∀{n:Nat} {a b:U},nw n a b=true->a=b
 |0,a,b,h=>aB1
 |n+1,a,b,h=>by
  have ih:∀{l m:List U},tK (nw n) l m=true->l=m:=λq=>Ls (λr=>wS r) q;unfold nw at h;split at h
  all_goals try simp only[dY,beq_iff_eq] at h
  rw[Y9 h];rw[ih h];rw[ih h];rfl;rw[ih h.1,amu h.2];rw[ih h.1,h.2];rw[h.1,h.2];rw[h.1.1,h.1.2,h.2];rw[h.1.1.1.1,h.1.1.1.2,h.1.1.2,h.1.2,h.2];rw[h];rw[amo h.1.1,ih h.1.2,ih h.2];rw[h.1,wS h.2];rw[h];rw[h];rename_i k t l u;obtain⟨t1,t2⟩:=t;obtain⟨u1,u2⟩:=u;dsimp only at h;rw[h.1.1,h.1.2,h.2];cases h
noncomputable def xM(o:Option U)(k:U->Option U):Option U:=match o with
 |some v=>oG 64 v k
 |none=>none
def A5{o:Option U}:xM o k=o.bind k:=by cases o<;>simp[xM,wY]
noncomputable def N3(o:Option Value)(k:U->Option U):Option U:=match o with
 |some v=>LO v λv=>k (.v v)
 |none=>none
def aht{o:Option Value}:N3 o k=o.bind λv=>k (.v v):=by cases o<;>simp[N3,ZT]
noncomputable def Ek(t:Nat)(e:Env)(k:U->Option U):Option U:=G9 t e k none
def Lr{t:Nat}:Ek t e k=(eZ e t).bind k:=by
 unfold Ek;rw[QB];cases eZ e t<;>rfl
noncomputable def lR(x:bI)(e:Env)(k:U->Option U):Option U:=@bI.rec (λ_=>Option U) (λt=>Ek t e k) (λv=>k v) x
def pI{x:bI}:lR x e k=(cI e x).bind k:=by
 cases x with
 |t t=>exact Lr
 |c v=>rfl
noncomputable def C1{α:Type}(l:List α):Nat->(α->Option U)->Option U:=@wg α (λ_=>Nat->(α->Option U)->Option U) (λ_ _=>none) (λx _ ih n k=>@Ge (λ_=>Option U) (k x) (λm _=>ih m k) n) l
def Ff:∀{l:List α} {n:Nat} {k:α->Option U},C1 l n k=(l[n]?).bind k
 |[],n,k=>by simp[C1]
 |x::r,0,k=>rfl
 |x::r,n+1,k=>by
  rw[v8];exact Ff (l:=r) (n:=n) (k:=k)
structure dW where
 n:Nat
 l:List aa
def R(H:List aa):dW:=⟨H.length,H.reverse⟩
def Bb(h:dW):List aa:=h.l.reverse
def Dr(H:List aa):Bb (R H)=H:=ajl H
noncomputable def vu(h:dW)(b:Nat)(k:aa->Option U):Option U:=match oY b h.n with
 |true=>C1 h.l (h.n-1-b) k
 |false=>none
def XV{a:Nat}(h:a<b):oY a b=true:=Nat.ble_eq_true_of_le h
def XU{a:Nat}(h:¬a<b):oY a b=false:=by
 cases hb:oY a b with
 |false=>rfl
 |true=>exact(h (nT hb)).elim
def yV{k:aa->Option U}:vu (R H) b k=(H[b]?).bind k:=by
 unfold vu R;dsimp only;by_cases h:b<H.length;rw[XV h];dsimp only;rw[Ff,Wa aBH,show H.length-1-(H.length-1-b)=b by omega];rw[XU h,hG aBH];rfl
noncomputable def Vs(l:List aa):Nat->(aa->(aa->Option U)->Option U)->(List aa->Option U)->Option U:=@wg aa (λ_=>Nat->(aa->(aa->Option U)->Option U)->(List aa->Option U)->Option U) (λ_ _ _=>none)
 (λb r ih n f k=>@Ge (λ_=>Option U) (f b λb=>k (b::r)) (λm _=>ih m f λr=>k (b::r)) n) l
def aim(hf:∀b k,f b k=(g b).bind k):∀{h:List aa} {n:Nat} {k:List aa->Option U},Vs h n f k=(h[n]?).bind λb=>(g b).bind λb'=>k (h.set n b')
 |[],n,k=>by simp[Vs]
 |b::r,0,k=>hf b _
 |b::r,n+1,k=>by
  rw[v8];exact aim hf (h:=r) (n:=n) (k:=λr=>k (b::r))
def axh(h:b<H.length):H.reverse.set (H.length-1-b) y=(H.set b y).reverse:=by
 apply Bu;intro i
 rcases cE i H.length with q|q
 rw[Wa aBN,rU];by_cases e:H.length-1-b=i;rw[<-e,aR aBK,show H.length-1-(H.length-1-b)=b by omega,aR h];rw[av e,Wa q,av aBH];rw[hG aBN,hG aBN]
noncomputable def vP(h:dW)(b:Nat)(f:aa->(aa->Option U)->Option U)(k:dW->Option U):Option U:=match oY b h.n with
 |true=>Vs h.l (h.n-1-b) f λl=>k ⟨h.n,l⟩
 |false=>none
def Vr(hf:∀b k,f b k=(g b).bind k){k:dW->Option U}:vP (R H) b f k=(H[b]?).bind λx=>(g x).bind λy=>k (R (H.set b y)):=by
 unfold vP R;dsimp only;by_cases h:b<H.length;rw[XV h];dsimp only;rw[aim hf,Wa aBH,show H.length-1-(H.length-1-b)=b by omega];simp only[axh h,rU];rw[XU h,hG aBH];rfl
def FV{k:dW->Option U}:vP (R H) b (λ_ k=>k y) k=(H[b]?).bind λ_=>k (R (H.set b y)):=
 (Vr (f:=λ_ k=>k y) (g:=λ_=>some y) λ_ _=>rfl).trans rfl
noncomputable def AW(h:dW)(b:aa)(k:dW->Option U):Option U:=jJ (h.n+1) λn=>k ⟨n,b::h.l⟩
def NA{b:aa}{k:dW->Option U}:AW (R H) b k=k (R (H++[b])):=by
 simp only[AW,su,R,cB,nq,List.reverse_append,List.reverse_singleton,List.singleton_append]
noncomputable def LQ(H:List aa)(k:dW->Option U):Option U:=tM (λx k=>k x) H.reverse λl=>jJ H.length λn=>k ⟨n,l⟩
def ZX{k:dW->Option U}:LQ H k=k (R H):=by
 simp only[LQ,su];rw[B4 λ_ _=>rfl];rfl
noncomputable def Fq(aH:Bool):Nat->List U->Nat->(U->Option U)->Option U:=match aH with
 |false=>λ_ cs off k=>C1 cs off k
 |true=>λn cs off k=>match dB true n cs off with
  |some (.agg l)=>tM (λx k=>k x) l λl=>k (.agg l)
  |some v=>k v
  |none=>none
def Ua:Fq aH n cs off k=(dB aH n cs off).bind k:=by
 cases aH with
 |false=>simp only[Fq,Ff,dB,iA,if_false]
 |true=>
  simp only[Fq];cases h:dB true n cs off with
  |none=>rfl
  |some v=>cases v<;>simp only[kn]<;>rw[B4 λ_ _=>rfl]
noncomputable def CR:U->Bool->Nat->dW->(U->Option U)->Option U
 |.mp b off=>λaH n h k=>vu h b λblk=>match blk with
  |.cells cs r=>match r with
   |false=>Fq aH n cs off k
   |true=>none
  |_=>none
 |.fp cs off=>λaH n _ k=>Fq aH n cs off k
 |.rp b m off=>λaH n h k=>vu h b λblk=>match blk with
  |.cells cs r=>match r with
   |true=>match dc m cs.length with
    |true=>Fq aH n cs off k
    |false=>none
   |false=>none
  |_=>none
 |p=>λaH n h k=>xM (aq (Bb h) aH n p) k
def aeU:CR p aH n (R H) k=(aq H aH n p).bind k:=by
 cases p with
 |mp b off=>
  simp only[CR,yV,aq];cases H[b]? with
  |none=>rfl
  |some blk=>cases blk with
   |cells cs r=>cases r<;>simp[Ua]
   |_=>rfl
 |rp b m off=>
  simp only[CR,yV,aq];cases H[b]? with
  |none=>rfl
  |some blk=>cases blk with
   |cells cs r=>cases r with
    |false=>rfl
    |true=>
     simp only[kn];by_cases hl:m=cs.length;rw[if_pos hl,show dc m cs.length=true by rw[s3];exact hl];exact Ua;rw[if_neg hl,show dc m cs.length=false from(by cases hb:dc m cs.length with
     |false=>rfl
     |true=>exact(hl (qe hb)).elim)];rfl
   |_=>rfl
 |fp cs off=>simp only[CR,Ua,aq]
 |_=>(simp only[CR,A5,Dr])
noncomputable def GV:U->(List U->Option U)->Option U
 |.agg cs=>λk=>k cs
 |x=>λk=>k [x]
def K0{k:List U->Option U}:GV x k=k x.cells:=by cases x<;>rfl
noncomputable def AT(cs:List U):List U->(List U->Option U)->Option U:=@wg U (λ_=>List U->(List U->Option U)->Option U)
 (λvs k=>@wg U (λ_=>Option U) (k []) (λ_ _ _=>none) vs) (λc r ih vs k=>@wg U (λ_=>Option U) (k (c::r)) (λv vs _=>ih vs λr=>k (v::r)) vs) cs
def T3:∀{cs vs:List U} {k:List U->Option U},AT cs vs k=if vs.length<=cs.length then k (vs++cs.drop vs.length) else none
 |[],[],k=>by simp[AT]
 |c::r,[],k=>by simp[AT]
 |[],v::vs,k=>by simp[AT]
 |c::r,v::vs,k=>by
  have:=T3 (cs:=r) (vs:=vs) (k:=λr=>k (v::r));simp only[dm,x6,jW,Nat.add_le_add_iff_right];exact this
noncomputable def Jk(cs:List U):Nat->List U->(List U->Option U)->Option U:=@wg U (λ_=>Nat->List U->(List U->Option U)->Option U)
 (λoff vs k=>@Ge (λ_=>Option U) (AT [] vs k) (λ_ _=>none) off) (λc r ih off vs k=>@Ge (λ_=>Option U) (AT (c::r) vs k) (λm _=>ih m vs λr=>k (c::r)) off) cs
def Uj:∀{cs:List U} {off:Nat} {vs:List U} {k:List U->Option U},Jk cs off vs k=if off+vs.length<=cs.length then k (putAt cs off vs) else none
 |[],0,vs,k=>by
  show AT [] vs k=_;simp[T3,putAt]
 |[],off+1,vs,k=>by simp[Jk]
 |c::r,0,vs,k=>by
  show AT (c::r) vs k=_;simp only[T3,putAt,qQ,eR,e5]
 |c::r,off+1,vs,k=>by
  have:=Uj (cs:=r) (off:=off) (vs:=vs) (k:=λr=>k (c::r));show Jk r off vs (λr=>k (c::r))=_;rw[this];simp only[putAt,dm,x7,jW];have e1:off+1+vs.length=(off+vs.length)+1:=aBH
  rw[e1,x6];by_cases h:off+vs.length<=r.length;rw[if_pos h,if_pos aBH];rw[if_neg h,if_neg aBH]
noncomputable def JG:U->Nat->U->dW->(dW->Option U)->Option U
 |.mp b off=>λn x h k=>GV x λvs=>match dc vs.length n&&vs.all bn with
  |true=>vP h b (λblk k=>match blk with
   |.cells cs r=>match r with
    |false=>Jk cs off vs λcs=>k (.cells cs false)
    |true=>none
   |_=>none) k
  |false=>none
 |.rp b m off=>λn x h k=>GV x λvs=>match dc vs.length n&&vs.all bn with
  |true=>vP h b (λblk k=>match blk with
   |.cells cs r=>match r with
    |true=>match dc m cs.length with
     |true=>Jk cs off vs λcs=>k (.cells cs true)
     |false=>none
    |false=>none
   |_=>none) k
  |false=>none
 |p=>λn x h k=>match aF (Bb h) n p x with
  |some H=>LQ H k
  |none=>none
def ahS{row:Bool}{k:dW->Option U}:(match dc x.cells.length n&&x.cells.all bn with
  |true=>((if off+x.cells.length<=cs.length then some (aj (putAt cs off x.cells) row) else none).bind λy=>k (R (H.set b y)))
  |false=>none)=(dJ H b row cs n off x).bind λH=>k (R H):=by
 unfold dJ;by_cases hc:x.cells.length=n/\off+n<=cs.length/\x.cells.all bn=true;rw[if_pos hc];obtain⟨c1,c2,c3⟩:=hc;have ala:dc x.cells.length n=true:=by rw[s3];exact c1
 rw[ala,c3,if_pos (show off+x.cells.length<=cs.length by omega)];rfl;rw[if_neg hc];cases hq:(dc x.cells.length n&&x.cells.all bn) with
 |false=>rfl
 |true=>
  simp only[dY,s3] at hq;rw[if_neg (λq=>hc ⟨hq.1,aBH,hq.2⟩)];rfl
def ax6{k:dW->Option U}:JG p n x (R H) k=(aF H n p x).bind λH=>k (R H):=by
 cases p with
 |mp b off=>
  simp only[JG,K0];rw[Vr (g:=λblk=>match blk with
   |.cells cs false=>if off+x.cells.length<=cs.length then some (.cells (putAt cs off x.cells) false) else none
   |_=>none) (λblk k=>by
    cases blk with
    |cells cs r=>cases r with
     |false=>simp only[Uj];split<;>rfl
     |true=>rfl
    |_=>rfl)]
  simp only[aF];cases hb:H[b]? with
  |none=>cases(dc x.cells.length n&&x.cells.all bn)<;>rfl
  |some blk=>cases blk with
   |cells cs r=>cases r with
    |false=>exact ahS
    |true=>cases(dc x.cells.length n&&x.cells.all bn)<;>rfl
   |_=>cases(dc x.cells.length n&&x.cells.all bn)<;>rfl
 |rp b m off=>
  simp only[JG,K0];rw[Vr (g:=λblk=>match blk with
   |.cells cs true=>if m=cs.length then(if off+x.cells.length<=cs.length then some (.cells (putAt cs off x.cells) true) else none) else none
   |_=>none) (λblk k=>by
    cases blk with
    |cells cs r=>cases r with
     |true=>
      by_cases hl:m=cs.length;simp only[if_pos hl,show dc m cs.length=true by rw[s3];exact hl,Uj];split<;>rfl;simp only[if_neg hl,show dc m cs.length=false from(by cases hb:dc m cs.length with
      |false=>rfl
      |true=>exact(hl (qe hb)).elim)];rfl
     |false=>rfl
    |_=>rfl)]
  simp only[aF];cases hb:H[b]? with
  |none=>cases(dc x.cells.length n&&x.cells.all bn)<;>rfl
  |some blk=>cases blk with
   |cells cs r=>cases r with
    |true=>
     by_cases hl:m=cs.length;simp only[if_pos hl,kn];exact ahS;simp only[if_neg hl,kn];cases(dc x.cells.length n&&x.cells.all bn)<;>rfl
    |false=>cases(dc x.cells.length n&&x.cells.all bn)<;>rfl
   |_=>cases(dc x.cells.length n&&x.cells.all bn)<;>rfl
 |_=>
  simp only[JG,Dr];cases aF H n _ x with
  |none=>rfl
  |some H'=>exact ZX
def Xl(a b:Int):Int:=match a with
 |.ofNat m=>match b with
  |.ofNat n=>.ofNat (m+n)
  |.negSucc n=>.ofNat m+ .negSucc n
 |.negSucc m=>.negSucc m+b
def aj_(a b:Int):Xl a b=a+b:=by cases a<;>cases b<;>rfl
def Vc(a b:Int):Int:=match a with
 |.ofNat m=>match b with
  |.ofNat n=>match s4 n m with
   |true=>.ofNat (m-n)
   |false=>.ofNat m- .ofNat n
  |.negSucc n=>.ofNat m- .negSucc n
 |.negSucc m=>.negSucc m-b
def aya(a b:Int):Vc a b=a-b:=by
 cases a with
 |negSucc m=>rfl
 |ofNat m=>cases b with
  |negSucc n=>rfl
  |ofNat n=>
   simp only[Vc];cases h:s4 n m with
   |false=>rfl
   |true=>
    have:=nT h;simp only[xZ];omega
def E4(a b:Int):Bool:=match a with
 |.ofNat m=>match b with
  |.ofNat n=>s4 (m+1) n
  |.negSucc _=>false
 |.negSucc m=>match b with
  |.ofNat _=>true
  |.negSucc n=>s4 (n+1) m
def at1(a b:Int):E4 a b=decide (a<b):=by
 cases a<;>cases b<;>simp only[E4];rename_i m n;rw[Bl,Nat.ble_eq,decide_eq_true_eq];simp only[xZ];omega;rename_i m n;symm;rw[decide_eq_false_iff_not];simp only[xZ];omega;rename_i m n;symm;rw[decide_eq_true_eq];simp only[xZ];omega;rename_i m n;rw[Bl,Nat.ble_eq,decide_eq_true_eq];omega
def Lu(a b:Int):Bool:=match a with
 |.ofNat m=>match b with
  |.ofNat n=>dc m n
  |.negSucc _=>false
 |.negSucc m=>match b with
  |.ofNat _=>false
  |.negSucc n=>dc m n
def amv(a b:Int):Lu a b=(a==b):=by
 cases a<;>cases b<;>simp only[Lu];rename_i m n;rw[Bl,s3,beq_iff_eq];simp only[xZ];omega;symm;simp;symm;simp;rename_i m n;rw[Bl,s3,beq_iff_eq];simp
def Dt(kd:IntKind):Int->Int:=match kd with
 |.i64=>λn=>match n with
  |.ofNat m=>match s4 m 9223372036854775807 with
   |true=>.ofNat m
   |false=>b7.wrap (.ofNat m)
  |.negSucc m=>match s4 m 9223372036854775807 with
   |true=>.negSucc m
   |false=>b7.wrap (.negSucc m)
 |.u64=>λn=>match n with
  |.ofNat m=>.ofNat (m % 18446744073709551616)
  |.negSucc m=>DD.wrap (.negSucc m)
 |.u8=>λn=>match n with
  |.ofNat m=>.ofNat (m % 256)
  |.negSucc m=>IntKind.u8.wrap (.negSucc m)
 |kd=>λn=>kd.wrap n
def azi(kd:IntKind)(n:Int):Dt kd n=kd.wrap n:=by
 cases kd
 case i64=>
  cases n with
  |ofNat m=>
   simp only[Dt];split;rename_i h;have:=nT h;rw[wrap_i64 (by simp only[xZ];omega) (by simp only[xZ];omega)];rfl
  |negSucc m=>
   simp only[Dt];split;rename_i h;have:=nT h;rw[wrap_i64 aBH aBH];rfl
 case u8=>
  cases n with
  |ofNat m=>simp only[Dt];rw[wrap_u8];simp only[xZ];omega
  |negSucc m=>rfl
 case u64=>
  cases n with
  |ofNat m=>simp only[Dt];rw[wrap_u64];simp only[xZ];omega
  |negSucc m=>rfl
 all_goals rfl
def CI:IntKind->Nat
 |.i8=>0|.i16=>1|.i32=>2|.i64=>3|.u8=>4|.u16=>5|.u32=>6|.u64=>7
def asM{a b:IntKind}:(dc (CI a) (CI b)=true)↔a=b:=by cases a<;>cases b<;>simp[CI]
noncomputable def P4:BinOp->IntKind->Int->Int->(U->Option U)->Option U
 |.add=>λkd a b k=>LN (Dt kd (Xl a b)) λr=>k (.v (.int kd r))
 |.sub=>λkd a b k=>LN (Dt kd (Vc a b)) λr=>k (.v (.int kd r))
 |.eql=>λkd a b k=>Ab (Lu a b) λr=>k (.v (.bool r))
 |.neq=>λkd a b k=>Ab (!Lu a b) λr=>k (.v (.bool r))
 |.lss=>λkd a b k=>Ab (E4 a b) λr=>k (.v (.bool r))
 |.geq=>λkd a b k=>Ab (!E4 a b) λr=>k (.v (.bool r))
 |.gtr=>λkd a b k=>Ab (E4 b a) λr=>k (.v (.bool r))
 |.leq=>λkd a b k=>Ab (!E4 b a) λr=>k (.v (.bool r))
 |op=>λkd a b k=>N3 (j5 op kd a kd b) k
def ak0{kd:IntKind}{a b:Int}:P4 op kd a b k=(j5 op kd a kd b).bind λv=>k (.v v):=by
 have h1:(!decide (a<b))=decide (a>=b):=by rw[Bl];simp
 have h2:(!decide (b<a))=decide (a<=b):=by rw[Bl];simp
 cases op<;>simp only[P4,ZS,ZR,azi,aj_,aya,amv,at1,aht]
 all_goals first
  |(simp[j5];done)
  |(simp only[j5,ne_eq,not_true_eq_false,if_false,kn,h1,h2];done)
  |(simp only[j5,ne_eq,not_true_eq_false,if_false,kn,h1,h2];rfl)
noncomputable def P5:BinOp->U->U->(U->Option U)->Option U:=λop x=>match x with
 |.v (.int kd a)=>λy=>match y with
  |.v (.int ID b)=>λk=>match dc (CI kd) (CI ID) with
   |true=>P4 op kd a b k
   |false=>N3 (j5 op kd a ID b) k
  |y=>λk=>xM (ct op (.v (.int kd a)) y) k
 |x=>λy k=>xM (ct op x y) k
def ak2{y:U}:P5 op x y k=(ct op x y).bind k:=by
 unfold P5;split;rename_i kd a;split;rename_i ID b;cases hq:dc (CI kd) (CI ID) with
 |true=>
  have:=asM.1 hq;subst this;simp only[ak0,ct];cases j5 op kd a kd b<;>rfl
 |false=>
  simp only[ct,aht];cases j5 op kd a ID b<;>rfl
 exact A5;exact A5
noncomputable def LD(off:Nat):U->(U->Option U)->Option U
 |.mp b o=>λk=>jJ (o+off) λo=>k (.mp b o)
 |.fp cs o=>λk=>jJ (o+off) λo=>k (.fp cs o)
 |x=>λk=>xM (je off x) k
def amE:LD off x k=(je off x).bind k:=by
 cases x<;>first|(simp only[LD,A5];done)|(simp[LD,su,je];done)
noncomputable def Iz(n:Nat):U->U->(U->Option U)->Option U
 |.sl xs t=>λi k=>match i with
  |.v (.int kd (.ofNat j))=>C1 xs j λx=>GV x λcs=>match dc cs.length n with
   |true=>k (.fp cs 0)
   |false=>none
  |i=>xM (bu n (.sl xs t) i) k
 |x=>λi k=>xM (bu n x i) k
def aqk:Iz n x i k=(bu n x i).bind k:=by
 cases x with
 |sl xs t=>
  simp only[Iz];split;rename_i kd j;simp only[Ff,K0,bu];rw[if_pos (show(0:Int)<=Int.ofNat j from Int.natCast_nonneg j)];simp only[xZ,uG];cases xs[j]? with
  |none=>rfl
  |some x=>
   simp only[kn];by_cases hl:x.cells.length=n;rw[if_pos hl,show dc x.cells.length n=true by rw[s3];exact hl];rfl;rw[if_neg hl,show dc x.cells.length n=false from(by cases hb:dc x.cells.length n with
   |false=>rfl
   |true=>exact(hl (qe hb)).elim)];rfl
  (simp only[Iz,A5])
 |_=>(simp only[Iz,A5])
def ak_(l:List UInt8)(j:Nat):(⟨⟨l⟩⟩:ByteArray)[j]?=l[j]? :=by
 have h1:∀(b:ByteArray),b[j]?=if h:j<b.size then some (b[j]'h) else none:=λb=>rfl;rw[h1];by_cases h:j<l.length;rw[dif_pos (show j<(⟨⟨l⟩⟩:ByteArray).size from h),br h];rfl;rw[dif_neg (show¬j<(⟨⟨l⟩⟩:ByteArray).size from h),hG aBH]
noncomputable def Qi:U->U->(U->Option U)->Option U
 |.v (.string ⟨⟨l⟩⟩)=>λi k=>match i with
  |.v (.int kd (.ofNat j))=>C1 l j λb=>jJ b.toNat λn=>k (.v (.int .u8 (.ofNat n)))
  |i=>xM (tv (.v (.string ⟨⟨l⟩⟩)) i) k
 |x=>λi k=>xM (tv x i) k
def alm:Qi x i k=(tv x i).bind k:=by
 unfold Qi;split;rename_i l;split;rename_i kd j;simp only[Ff,tv];rw[if_pos (show(0:Int)<=Int.ofNat j from Int.natCast_nonneg j)];simp only[xZ,uG,ak_];cases l[j]? <;>simp[su];exact A5;exact A5
noncomputable def QV(i:Nat):U->(U->Option U)->Option U
 |.aK cs=>C1 cs i
 |_=>λ_=>none
def amA{i:Nat}:QV i x k=(nY i x).bind k:=by
 cases x<;>simp[QV,nY,Ff]
inductive Out where
 |val (v:U)
 |eW (ch:List PanicEntry)
structure Pe where
 ps:List Nat
 a:cZ
 b:cZ
 e:Env
abbrev o5:=List (Nat×Pe)
abbrev tn:=Out->dW->Option U
abbrev qS:=o5->U->List U->dW->tn->Option U
def Qz:kK->Bool
 |.alloc _|.box _|.st .. |.tE .. |.app .. |.yq .. |.xD .. |.yU .. |.iter _|.next _|.yT|.ud .. |.xA .. |.z7 .. |.wF .. |.wJ .. =>true
 |_=>false
noncomputable def UZ(o:kK)(e:Env)(h:dW)(k:U->dW->Option U):Option U:=match Qz o with
 |false=>match bx e (Bb h) o with
  |some (v,_)=>oG 64 v λv=>k v h
  |none=>none
 |true=>match bx e (Bb h) o with
  |some (v,H)=>LQ H λh=>oG 64 v λv=>k v h
  |none=>none
noncomputable def pX:kK->Env->dW->(U->dW->Option U)->Option U
 |.mv x=>λe h k=>lR x e λv=>k v h
 |.eG aH n x=>λe h k=>lR x e λp=>CR p aH n h λv=>k v h
 |.st n p x=>λe h k=>lR p e λp=>lR x e λx=>JG p n x h λh=>k gH h
 |.E_ x=>λe h k=>lR x e λp=>match uZ p with
  |some p=>k p h
  |none=>none
 |.bin op x y=>λe h k=>lR x e λx=>lR y e λy=>P5 op x y λv=>k v h
 |.fa off x=>λe h k=>lR x e λx=>LD off x λv=>k v h
 |.bK n x i=>λe h k=>lR x e λx=>lR i e λi=>Iz n x i λv=>k v h
 |.zY x i=>λe h k=>lR x e λx=>lR i e λi=>Qi x i λv=>k v h
 |.ext i x=>λe h k=>lR x e λx=>QV i x λv=>k v h
 |.alloc z=>λe h k=>AW h (.cells z false) λh'=>jJ h.n λn=>k (.mp n 0) h'
 |.box x=>λe h k=>lR x e λx=>GV x λcs=>AW h (.cells cs false) λh'=>jJ h.n λn=>k (.mp n 0) h'
 |o=>UZ o
def akC(ho:Qz o=false){H':List aa}{v:U}(h:bx e H o=some (v,H')):H'=H:=by
 have len:∀{x:U},bO x H=some (v,H')->H'=H:=λ{x} q=>by
  unfold bO at q;split at q;cases q;rw[cc] at q;obtain⟨_,_,q⟩:=q;cases q;rfl
 have ir:∀{x:U},oP x H=some (v,H')->H'=H:=λ{x} q=>by
  unfold oP at q;split at q;cases q;rfl;cases q
 have slc:∀{n:Nat} {x:U} {a b c:Option U},p0 n x a b c H=some (v,H')->H'=H:=λ{n x a b c} q=>by
  unfold p0 at q;split at q;cases q;rw[cc] at q;obtain⟨_,_,q⟩:=q;cases q;rfl
 have uu:∀{x:U} {a b:Option U},Dq x a b H=some (v,H')->H'=H:=λ{x a b} q=>by
  unfold Dq at q;split at q;rw[cc] at q;obtain⟨_,_,q⟩:=q;cases q;rfl;cases q
 cases o<;>first|(cases ho;done)|skip
 all_goals simp only[bx,eY,cc,uI] at h
 all_goals first
  |(obtain⟨_,_,_,q⟩:=h;exact q.symm)
  |(obtain⟨_,_,_,_,_,q⟩:=h;exact q.symm)
  |(obtain⟨_,_,_,_,_,_,_,q⟩:=h;exact q.symm)
  |(obtain⟨_,_,_,_,_,_,_,_,_,q⟩:=h;exact q.symm)
  |(obtain⟨_,_,q⟩:=h;exact len q)
  |(obtain⟨_,_,q⟩:=h;exact ir q)
  |(obtain⟨_,_,_,_,_,_,q⟩:=h;exact uu q)
  |(obtain⟨_,_,_,_,_,_,_,_,q⟩:=h;exact slc q)
def axG{k:U->dW->Option U}:UZ o e (R H) k=(bx e H o).bind λr=>k r.1 (R r.2):=by
 unfold UZ;rw[Dr];cases ho:Qz o with
 |false=>
  dsimp only;cases hs:bx e H o with
  |none=>rfl
  |some r=>
   obtain⟨v,H'⟩:=r;have:=akC ho hs;subst this;simp only[wY,kn]
 |true=>
  dsimp only;cases hs:bx e H o with
  |none=>rfl
  |some r=>simp only[ZX,wY,kn]
def afQ{k:U->dW->Option U}:pX o e (R H) k=(bx e H o).bind λr=>k r.1 (R r.2):=by
 have bm:∀{α:Type} (o:Option α) (f:α->U×List aa),((o.map f).bind λr=>k r.1 (R r.2))=o.bind λa=>k (f a).1 (R (f a).2):=λo f=>by cases o<;>rfl
 have rn:(R H).n=H.length:=rfl;cases o
 case mv=>simp only[pX,pI,bx,bm]
 case eG=>simp only[pX,pI,aeU,bx,x_,bm]
 case st=>simp only[pX,pI,ax6,bx,x_,bm]
 case bin=>simp only[pX,pI,ak2,bx,x_,bm]
 case fa=>simp only[pX,pI,amE,bx,x_,bm]
 case bK=>simp only[pX,pI,aqk,bx,x_,bm]
 case zY=>simp only[pX,pI,alm,bx,x_,bm]
 case ext=>simp only[pX,pI,amA,bx,x_,bm]
 case alloc=>simp only[pX,NA,su,bx,kn,rn]
 case box x=>
  simp only[pX,pI,K0,NA,su,bx,bm,rn]
 case E_ x=>
  simp only[pX,pI,bx,x_,bm];cases cI e x with
  |none=>rfl
  |some x=>simp only[kn];cases uZ x<;>rfl
 all_goals
  simp only[pX];exact axG
noncomputable def Ny(b5:qS)(f:FuncId)(cl:List U):Option U:=match iu (b9 [] 64) cl with
 |some bs=>b5 [] (.fn (.func f) [] []) bs (R []) λo h=>match o with
  |.val r=>b9 (Bb h) 64 r
  |.eW _=>none
 |none=>none
noncomputable def FW(k:U->dW->Option U):tn
 |.val v=>λh=>k v h
 |.eW _=>λ_=>none
noncomputable def yF(l:List bI):Env->(List U->Option U)->Option U:=@wg bI (λ_=>Env->(List U->Option U)->Option U) (λ_ k=>k []) (λx _ ih e k=>lR x e λv=>ih e λvs=>k (v::vs)) l
def Ac:∀{l:List bI} {e:Env} {k:List U->Option U},yF l e k=(k_ e l).bind k
 |[],e,k=>rfl
 |x::r,e,k=>by
  show lR x e (λv=>yF r e λvs=>k (v::vs))=_;simp only[pI,Ac,k_,x_];cases cI e x with
  |none=>rfl
  |some v=>simp only[kn];cases k_ e r<;>rfl
noncomputable def tY:fK->qS->o5->Env->dW->tn->Option U
 |.op o=>λ_ _ e h k=>pX o e h λv h=>k (.val v) h
 |.call f args=>λb5 bF e h k=>yF args e λcl=>b5 bF (.fn (.func f) [] []) cl h (FW λv h'=>k (.val v) h')
 |.lP x args=>λb5 bF e h k=>lR x e λx=>yF args e λcl=>b5 bF x cl h (FW λv h'=>k (.val v) h')
 |.lq f args=>λb5 _ e h k=>yF args e λcl=>match Ny b5 f cl with
  |some v=>oG 64 v λv=>k (.val v) h
  |none=>none
 |.mB f args r=>λb5 _ e h k=>yF args e λcl=>match Ny b5 f cl with
  |some v=>oG 64 v λv=>match nw 64 v r with
   |true=>k (.val r) h
   |false=>none
  |none=>none
 |.nu f args=>λb5 bF e h k=>yF args e λcl=>b5 bF (.fn (.func f) [] []) cl h k
 |.nv x args=>λb5 bF e h k=>lR x e λx=>match x with
  |.fn (.func f) fs cs=>yF args e λcl=>b5 bF (.fn (.func f) fs cs) cl h k
  |_=>none
 |.eW x=>λ_ _ e h k=>lR x e λx=>match oD x with
  |some v=>k (.eW [{v:=v,recovered:=false}]) h
  |none=>none
abbrev yg:=qS->o5->Env->dW->(Env->dW->Option U)->(List PanicEntry->dW->Option U)->Option U
noncomputable def TA(d:Option Nat)(next:yg):Out->yg:=match d with
 |some d=>λo=>match o with
  |.val v=>λb5 bF e h k kp=>next b5 bF ((d,v)::e) h k kp
  |.eW ch=>λ_ _ _ h _ kp=>kp ch h
 |none=>λo=>match o with
  |.val v=>λb5 bF e h k kp=>next b5 bF e h k kp
  |.eW ch=>λ_ _ _ h _ kp=>kp ch h
noncomputable def N4:aL->yg->yg
 |⟨d,none,i⟩=>λnext b5 bF e h k kp=>tY i b5 bF e h λo h'=>TA d next o b5 bF e h' k kp
 |⟨d,some (g,w),i⟩=>λnext b5 bF e h k kp=>Ek g e λv=>match v with
  |.v (.bool b)=>match Bool.xor b w with
   |false=>tY i b5 bF e h λo h'=>TA d next o b5 bF e h' k kp
   |true=>next b5 bF (nK d gH e) h k kp
  |.aK []=>next b5 bF (nK d gH e) h k kp
  |_=>none
noncomputable def Fi(l:List aL):yg:=@wg aL (λ_=>yg) (λ_ _ e h k _=>k e h) (λo _ ih=>N4 o ih) l
def aam(e:Env):Option (Nat×Bool)->Option Bool
 |none=>some true
 |some (k,w)=>match eZ e k with
  |some (.v (.bool b))=>some (b==w)
  |some (.aK [])=>some false
  |_=>none
noncomputable def NI(c:aL)(e:Env)(h:dW):Bool:=match c.ins,c.dst with
 |.op o,some d=>match aam e c.guard with
  |some true=>match eZ e d,pX o e h λu _=>some u with
   |some v,some u=>nw 64 u v
   |_,_=>false
  |some false=>match eZ e d with
   |some v=>nw 64 v gH
   |none=>false
  |none=>false
 |_,_=>false
noncomputable def TV(l:List (aL×List aL)):yg:=@wg (aL×List aL) (λ_=>yg) (λ_ _ e h k _=>k e h) (λp _ ih=>N4 p.1 λb5 bF e h k kp=>match p.2.all (λc=>NI c e h) with
 |true=>ih b5 bF e h k kp
 |false=>none) l
abbrev yc:=Exit->Env->dW->Option U
noncomputable def S_(f:Env->dW->yc->Option U)(m:Nat):Env->dW->yc->Option U:=@Ge (λ_=>Env->dW->yc->Option U) (λ_ _ _=>none) (λ_ ih e h k=>f e h λx=>match x with
 |.normal=>λe' h'=>ih e' h' k
 |x=>λe' h'=>k x e' h') m
noncomputable def xz(st:LoopState)(pd:Option Code):aa:=.aT st pd [] #[] (λ_ _=>False)
noncomputable def Us(k0:Nat)(L:List Nat)(e:Env)(k:yc)(h:dW):Option U:=vu h k0 λb=>match b with
 |.aT st pd _ _ _=>match st with
  |.busy=>none
  |_=>vP h k0 (λ_ k=>k (xz .exhausted pd)) λh2=>match pd with
   |none=>rH L e λe'=>k .normal e' h2
   |some .ret=>rH L e λe'=>k .ret e' h2
   |some (.exit id)=>rH L e λe'=>k (.exit id) e' h2
   |_=>none
 |_=>none
def told(t:U)(d:Nat):U:=match t with
 |.aK l=>go l
 |_=>.af
where go:List U->U
 |.aK [.mp j _,v]::r=>if dc j d then v else go r
 |_=>.af
abbrev l9:=qS->Nat->Bool->o5->Env->dW->yc->Option U
noncomputable def Lj(L:List Nat):l9:=λ_ _ _ _ e h k=>rH L e λe'=>k .normal e' h
noncomputable def Lg(ops:List aL)(L:List Nat):l9:=λb5 _ _ bF e h k=>Fi ops b5 bF e h (λe' h'=>rH L e' λe'=>k .normal e' h') λch h'=>k (.panic ch) (mh ops e) h'
noncomputable def BZ(xa jT:l9):l9:=λb5 bf nest bF e h k=>xa b5 bf nest bF e h λx=>match x with
 |.normal=>λe' h'=>jT b5 bf nest bF e' h' k
 |x=>λe' h'=>k x e' h'
noncomputable def Lb(c:bI)(xa jT:l9):l9:=λb5 bf nest bF e h k=>lR c e λv=>match v with
 |.v (.bool true)=>xa b5 bf nest bF e h k
 |.v (.bool false)=>jT b5 bf nest bF e h k
 |_=>none
noncomputable def BW(id:Nat)(xa:l9):l9:=λb5 bf nest bF e h k=>xa b5 bf nest bF e h λx=>match x with
 |.exit id'=>λe' h'=>match dc id' id with
  |true=>k .normal e' h'
  |false=>k (.exit id') e' h'
 |x=>λe' h'=>k x e' h'
noncomputable def alQ(xa:l9):l9:=λb5 bf nest bF e h k=>S_ (xa b5 bf nest bF) bf e h k
noncomputable def Lc(id:Nat)(L:List Nat):l9:=λ_ _ _ _ e h k=>rH L e λe'=>k (.exit id) e' h
noncomputable def Li(L:List Nat):l9:=λ_ _ _ _ e h k=>rH L e λe'=>k .ret e' h
noncomputable def Le(x:bI)(ps:List Nat)(a b:cZ)(L:List Nat):l9:=λb5 bf nest bF e h k=>lR x e λv=>match v with
 |.fn (.func g) fs cs=>(λgo=>match nest with
  |true=>go h
  |false=>AW h (.obj (.deferred none)) go) λh1=>jJ h1.n λk0=>AW h1 (xz .ready none) λh2=>
   b5 ((k0,⟨ps,a,b,e⟩)::bF) (.fn (.func g) [] []) (fs++[.gk k0]++cs) h2 (FW λ_ h'=>Us k0 L e k h')
 |_=>none
noncomputable def Lf(ls:List (List aL))(L:List Nat):l9:=λb5 _ _ bF e h k=>match ls with
 |[]=>none
 |l0::r=>match Fi l0 b5 bF e h (λe' _=>some (.aK (e'.map λp=>.aK [.mp p.1 0,p.2]))) (λ_ _=>none) with
  |some t=>match Fi (l0.map (tell (told t))) b5 bF e h (λe' h'=>rH L e' λe'=>k .normal e' h') (λch h'=>k (.panic ch) (mh ls.flatten e) h') with
   |some x=>match r.all (λl=>match Fi (l.map (tell (told t))) b5 bF e h (λe' h'=>rH L e' λe'=>k .normal e' h') (λch h'=>k (.panic ch) (mh ls.flatten e) h') with
     |some y=>nw 64 x y
     |none=>false) with
    |true=>some x
    |false=>none
   |none=>none
  |none=>none
noncomputable def Lh(l:List (aL×List aL))(L:List Nat):l9:=λb5 _ _ bF e h k=>TV l b5 bF e h (λe' h'=>rH L e' λe'=>k .normal e' h') λch h'=>k (.panic ch) (mh (l.map (·.1)) e) h'
noncomputable def BY(xa:l9):l9:=λb5 bf nest bF e h k=>xa b5 bf nest bF e h λx=>match x with
 |.goto _=>λ_ _=>none
 |x=>λe' h'=>k x e' h'
noncomputable def Ld(L:List Nat):l9:=λ_ _ _ _ e h k=>rH L e λe'=>k .normal e' h
noncomputable def alP:l9:=λ_ _ _ _ _ _ _=>none
noncomputable def j0(c:cZ):l9:=@cZ.rec (λ_=>l9) (λL=>Lj L)
 (λops L=>Lg ops L)
 (λ_ _ xa jT=>BZ xa jT)
 (λc _ _ xa jT=>Lb c xa jT)
 (λid _ xa=>BW id xa)
 (λ_ xa=>alQ xa)
 (λid L=>Lc id L)
 (λL=>Li L)
 (λx ps a b L _ _=>Le x ps a b L)
 (λls L=>Lf ls L)
 (λl L=>Lh l L)
 (λ_ xa=>BY xa)
 (λL=>Ld L)
 alP c
def YJ:j0 (.skip L)=Lj L:=rfl
def YF{ops:List aL}:j0 (.region ops L)=Lg ops L:=rfl
def G0{b:cZ}:j0 (.seq a b)=BZ (j0 a) (j0 b):=rfl
def YB{c:bI}{b:cZ}:j0 (.cond c a b)=Lb c (j0 a) (j0 b):=rfl
def GY:j0 (.block id a)=BW id (j0 a):=rfl
def YC:j0 (.exit id L)=Lc id L:=rfl
def YI:j0 (.ret L)=Li L:=rfl
def YE{x:bI}{ps:List Nat}{b:cZ}:j0 (.oQ x ps a b L)=Le x ps a b L:=rfl
def YG{ls:List (List aL)}:j0 (.oS ls L)=Lf ls L:=rfl
def YH{l:List (aL×List aL)}:j0 (.oq l L)=Lh l L:=rfl
def GZ:j0 (.scope a)=BY (j0 a):=rfl
def YD:j0 (.lab L)=Ld L:=rfl
inductive jc where
 |plain (n:Nat) (rs:List e7) (c:cZ)
 |loops (n:Nat) (rs:List e7) (c:cZ)
 |oE (n:Nat) (rs:List e7) (a:cZ) (t:Nat) (g:FuncId) (caps:List bI) (b:cZ)
 |Db (n d0 d1:Nat) (c:cZ)
 |KS (t:TypeId×Nat)
 |KW (e:TypeId)
 |M7 (l:List (TypeId×String×FuncId))
def auu:FuncId:=4000000
def Hs:List (TypeId×String×FuncId)->TypeId->String->Option FuncId
 |[],_,_=>none
 |(t',n',g)::r,t,n=>match dc t' t with
  |true=>match decide (n'=n) with
   |true=>some g
   |false=>Hs r t n
  |false=>Hs r t n
def QY:∀{l:List (TypeId×String×FuncId)} {t:TypeId} {n:String} {g:FuncId},Hs l t n=some g->(t,n,g)∈l
 |[],_,_,_,h=>aB1
 |(t',n',g')::r,t,n,g,h=>by
  unfold Hs at h;split at h;rename_i ht;have:=qe ht;subst this;split at h;rename_i hn;have:=of_decide_eq_true hn;subst this;cases h;exact zw;exact qP _ (QY h);exact qP _ (QY h)
def Gj(P:Program)(f:FuncId):jc->Prop
 |.plain n rs c=>(∃O,p4 P O f=some ⟨n,rs,c.aW⟩)/\c.fits n=true
 |.loops n rs c=>(∃O,p4 P O f=some ⟨n,rs,c.aW⟩)/\c.mU n true=true
 |.oE n rs a t g caps b=>(∃O,FM P O f=some ⟨n,rs,a.aW,t,g,caps,b.aW⟩)/\a.fits n=true/\b.fits n=true/\t<n
 |.Db n d0 d1 c=>(∃O,FN P O f=some ⟨n,d0,d1,c.aW⟩)/\c.fits n=true/\d0<n/\d1<n
 |.KS t=>Km P f t
 |.KW e=>KE P f e
 |.M7 l=>∀e∈l,M1 P e.1 e.2.1=some e.2.2
noncomputable def Uq:e7->Env->dW->(U->Option U)->Option U
 |.s t=>λe _ k=>Ek t e k
 |.c t aH n=>λe h k=>Ek t e λp=>CR p aH n h k
def av2{x:e7}:Uq x e (R H) k=(xK e H x).bind k:=by
 cases x with
 |s t=>exact Lr
 |c t aH n=>simp only[Uq,Lr,aeU,xK,x_]
noncomputable def NQ:List e7->Env->dW->(List U->Option U)->Option U
 |[]=>λ_ _ k=>k []
 |x::r=>λe h k=>Uq x e h λv=>NQ r e h λl=>k (v::l)
def agL:∀{l:List e7} {e:Env} {H:List aa} {k:List U->Option U},NQ l e (R H) k=(qF e H l).bind k
 |[],e,H,k=>rfl
 |x::r,e,H,k=>by
  simp only[NQ,av2,agL,qF,x_];cases xK e H x with
  |none=>rfl
  |some v=>simp only[kn];cases qF e H r<;>rfl
noncomputable def vC(rs:List e7)(e:Env)(h:dW)(k:tn):Option U:=NQ rs e h λl=>match l with
 |[x]=>k (.val x) h
 |l=>k (.val (.aK l)) h
def awm{rs:List e7}{k:tn}:vC rs e (R H) k=(jn e H rs).bind λv=>k (.val v) (R H):=by
 simp only[vC,agL,jn];cases qF e H rs with
 |none=>rfl
 |some l=>
  simp only[kn,ie]
  match l with
  |[]=>rfl
  |[x]=>rfl
  |x::y::l=>rfl
def MO:List U->Option (List Nat)
 |[]=>some []
 |.mp k 0::r=>match MO r with
  |some l=>some (k::l)
  |none=>none
 |_::_=>none
def Ot:List Value->Option (List U)
 |[]=>some []
 |x::r=>if plain x then(match Ot r with|some l=>some (.v x::l)|none=>none) else none
def Vq:Value->Option U
 |.iface t (.agg cs)=>match Ot cs.toList with
  |some l=>some (.cQ t (.agg l))
  |none=>none
 |.iface t x=>if plain x then some (.cQ t (.v x)) else none
 |_=>none
noncomputable def FB(T:FuncId->Option (jc×Nat))(b5:qS)(bf:Nat)(bF:o5)(g:FuncId)(ks:List Nat)(x:Option U)(h:dW)(k:dW->Option U):Option U:=match T g with
 |some (.Db n d0 d1 c,_)=>if ks.length<=n then j0 c b5 bf false bF ((d1,nL x)::(d0,nL x)::mS 0 (ks.map λk=>.mp k 0)) h (λx _ h'=>match x with
  |.normal=>k h'
  |.ret=>k h'
  |_=>none) else none
 |_=>none
noncomputable def Y5(rs:List e7)(k:tn):yc
 |.normal=>λe h'=>vC rs e h' k
 |.ret=>λe h'=>vC rs e h' k
 |.panic ch=>λ_ h'=>k (.eW ch) h'
 |_=>λ_ _=>none
noncomputable def Yn(t:TypeId×Nat)(b:Nat)(h:dW)(k:dW->Option U):Option U:=vu h b λx=>match x with
 |.cells (.fL b' t'::z) false=>match dc b' b&&dc t'.1 t.1&&dc t'.2 t.2 with
  |true=>vP h b (λ_ k=>k (.cells (.mp b 0::z) false)) k
  |false=>none
 |.cells (.mp b' 0::_) false=>match dc b' b with
  |true=>k h
  |false=>none
 |_=>none
noncomputable def NO:List U->(List UInt8->Option U)->Option U
 |[],k=>k []
 |.v (.int .u8 (.ofNat n))::r,k=>match s4 n 255 with
  |true=>NO r λl=>k (rY n::l)
  |false=>none
 |_::_,_=>none
noncomputable def ahT(e:TypeId)(b:Nat)(h:dW)(k:U->Option U):Option U:=vu h b λx=>match x with
 |.cells [_,.af] false=>k (.v (.string .empty))
 |.cells [_,.sl xs (.tok id)] false=>vu h id λy=>match y with
  |.tok n 1 e'=>match dc n xs.length&&dc e' e&&s4 1 n&&s4 n 140737488355328 with
   |true=>NO xs λl=>k (.v (.string ⟨⟨l⟩⟩))
   |false=>none
  |_=>none
 |_=>none
noncomputable def wX(T:FuncId->Option (jc×Nat)):jc->qS->Nat->o5->List U->dW->tn->Option U
 |.plain n rs c=>λb5 bf bF args h k=>if args.length<=n then j0 c b5 bf false bF (mS 0 args) h (Y5 rs k) else none
 |.loops n rs c=>λb5 bf bF args h k=>if args.length<=n then j0 c b5 bf false bF (mS 0 args) h (Y5 rs k) else none
 |.oE n rs a t g caps b=>λb5 bf bF args h k=>if args.length<=n then j0 a b5 bf false bF (mS 0 args) h (λx e h'=>match x with
  |.normal=>yF caps e λcl=>match MO cl with
   |some ks=>tM (λx k=>jJ x k) ks λks=>j0 b b5 bf false bF ((t,.fn (.func g) [] (ks.map λk=>.mp k 0))::e) h' λx e2 h2=>match x with
    |.normal=>FB T b5 bf bF g ks none h2 λh3=>vC rs e2 h3 k
    |.ret=>FB T b5 bf bF g ks none h2 λh3=>vC rs e2 h3 k
    |.panic [{v:=v,recovered:=false,goexit:=false}]=>match Vq v with
     |some xv=>FB T b5 bf bF g ks (some xv) h2 λh3=>vC rs e2 h3 k
     |none=>none
    |_=>none
   |none=>none
  |_=>none) else none
 |.Db _ _ _ _=>λ_ _ _ _ _ _=>none
 |.M7 _=>λ_ _ _ _ _ _=>none
 |.KS t=>λ_ _ _ args h k=>match args with
  |[.mp b 0]=>Yn t b h λh'=>k (.val (.aK [])) h'
  |_=>none
 |.KW e=>λ_ _ _ args h k=>match args with
  |[.mp b 0]=>ahT e b h λv=>k (.val v) h
  |_=>none
def LI(k:Nat):o5->Option (Pe×o5)
 |[]=>none
 |(j,r)::bF=>if j=k then some (r,bF) else LI k bF
noncomputable def agC(k0:Nat)(k:tn)(x:Exit)(h:dW):Option U:=vu h k0 λb=>match b with
 |.aT _ _ _ _ _=>match x with
  |.normal=>vP h k0 (λ_ k=>k (xz .ready none)) λh'=>k (.val (.v (.bool true))) h'
  |.ret=>vP h k0 (λ_ k=>k (xz .done (some .ret))) λh'=>k (.val (.v (.bool false))) h'
  |.exit id=>vP h k0 (λ_ k=>k (xz .done (some (.exit id)))) λh'=>k (.val (.v (.bool false))) h'
  |_=>none
 |_=>none
noncomputable def C9:tn:=λo h=>match o with
 |.val r=>b9 (Bb h) 64 r
 |.eW _=>none
noncomputable def FH:aa->aa->Bool
 |.cells cs r,.cells cs' r'=>tK (nw 64) cs cs'&&r==r'
 |.tok n s e,.tok n' s' e'=>dc n n'&&dc s s'&&dc e e'
 |.obj (.deferred _),.obj (.deferred _)=>true
 |.obj (.stringIter s p),.obj (.stringIter s' p')=>Hf (.string s) (.string s')&&dc p p'
 |.cL es bw,.cL es' iH=>tK (λp q=>nw 64 p.1 q.1&&nw 64 p.2.1 q.2.1&&dc p.2.2 q.2.2) es es'&&dc bw iH
 |.aT st pd _ _ _,.aT st' jx _ _ _=>(match st,st' with
  |.ready,.ready=>true
  |.busy,.busy=>true
  |.exhausted,.exhausted=>true
  |.done,.done=>true
  |_,_=>false)&&(match pd,jx with
  |none,none=>true
  |_,_=>false)
 |_,_=>false
def aw0{a b:aa}(h:FH (aW a) (aW b)=true):aW a=aW b:=by
 cases a with
 |cells cs r=>cases b with
  |cells cs' r'=>
   simp only[aW,FH,dY,beq_iff_eq] at h;show aj cs r=aj cs' r';rw[Ls (λq=>wS q) h.1,h.2]
  |obj o=>cases o<;>cases h
  |_=>cases h
 |tok n s e=>cases b with
  |tok n' s' e'=>
   simp only[aW,FH,dY,s3] at h;show aa.tok n s e=aa.tok n' s' e';rw[h.1.1,h.1.2,h.2]
  |obj o=>cases o<;>cases h
  |_=>cases h
 |cL es bw=>cases b with
  |cL es' iH=>
   simp only[aW,FH,dY,s3] at h;show aa.cL es bw=aa.cL es' iH;rw[Ls (λ{p q} w=>?_) h.1,h.2];simp only[dY,s3] at w;obtain⟨a,b,c⟩:=p;obtain⟨a',b',c'⟩:=q;obtain⟨⟨w1,w2⟩,w3⟩:=w;have e1:a=a':=wS w1;have e2:b=b':=wS w2;have bQ:c=c':=w3;rw[e1,e2,bQ]
  |obj o=>cases o<;>cases h
  |_=>cases h
 |aT st pd ats ps ok=>cases b with
  |aT st' jx GK ps' ok'=>
   simp only[aW,FH,dY] at h;obtain⟨h1,h2⟩:=h
   have e1:st=st':=by cases st<;>cases st'<;>first|rfl|cases h1
   subst e1;simp only[aW];split at h2;rename_i q1 ah;rw[q1,ah];cases h2
  |obj o=>cases o<;>cases h
  |_=>cases h
 |obj o=>
  cases b with
  |obj o'=>
   cases o<;>cases o'<;>first|rfl|(cases h;done)|skip
   rename_i s p s' p';have h':(Hf (.string s) (.string s')&&dc p p')=true:=h;rw[dY,s3] at h';have:=Y9 h'.1;cases this;rw[h'.2]
  |_=>cases o<;>cases h
noncomputable def NT:List aa->List aa->Bool
 |[],_=>true
 |_::_,[]=>false
 |a::r,b::s=>FH a b&&NT r s
def ag2:∀{l m:List aa},(∀b∈l,∃a,b=aW a)->(∀b∈m,∃a,b=aW a)->NT l m=true->m.take l.length=l
 |[],_,_,_,_=>aBI
 |_::_,[],_,_,h=>aB1
 |a::r,b::s,h1,h2,h=>by
  simp only[NT,dY] at h;obtain⟨a',ha⟩:=h1 a aBI;obtain⟨b',hb⟩:=h2 b aBI;subst ha;subst hb;simp only[dm,x7];rw[ag2 (λb hb=>h1 b aDb) (λb hb=>h2 b aDb) h.2,aw0 h.1]
noncomputable def UK(h h':dW):Bool:=s4 h.n h'.n&&NT h.l (h'.l.drop (h'.n-h.n))
def aw1{hp hp':List aa}(h:UK (R (hp.map aW)) (R (hp'.map aW))=true):(hp'.map aW).take hp.length=hp.map aW:=by
 simp only[UK,R,dY,b_] at h;obtain⟨h1,h2⟩:=h;have h1:=nT h1;have:=ag2 (λb hb=>by
  simp only[List.mem_reverse,cO] at hb;obtain⟨a,_,rfl⟩:=hb;exact⟨a,rfl⟩) (λb hb=>by
  have:=uH hb;simp only[List.mem_reverse,cO] at this;obtain⟨a,_,rfl⟩:=this;exact⟨a,rfl⟩) h2
 rw[kG aBK] at this;have h3:=congrArg List.reverse this;rw[ajl,List.drop_reverse,ajl] at h3;rw[b_] at h3;rw[<-h3];congr 1;omega
noncomputable def Yx(h:dW):tn:=λo h'=>match o with
 |.val r=>match UK h h' with
  |true=>b9 (mask h.n (Bb h')) 64 r
  |false=>none
 |.eW _=>none
noncomputable def zV(T:FuncId->Option (jc×Nat))(om:FuncId->List U->Option U)(bf:Nat)(b5:qS):qS:=λbF x=>match x with
 |.fn (.func f) fs cs=>λargs h k=>tM (λx k=>k x) (fs++args++cs) λcl=>match T f with
  |none=>match iu (b9 [] 64) cl with
   |some bs=>match om f bs with
    |some v=>oG 64 v λv=>k (.val v) h
    |none=>none
   |none=>none
  |some (nx,pu)=>match pu with
   |0=>wX T nx b5 bf bF cl h k
   |2=>match wX T nx b5 bf bF cl h (Yx h) with
    |some v=>oG 64 v λv=>k (.val v) h
    |none=>none
   |_=>match iu (b9 [] 64) cl with
    |some bs=>match wX T nx b5 bf [] bs (R []) C9 with
     |some v=>oG 64 v λv=>k (.val v) h
     |none=>none
    |none=>none
 |.fn (.method nm) [] _=>λargs h k=>match args with
  |.cQ t x::rest=>match T auu with
   |some (.M7 l,_)=>match Hs l t nm with
    |some g=>b5 bF (.fn (.func g) [] []) (x::rest) h k
    |none=>none
   |_=>none
  |_=>none
 |.gk k0=>λargs h k=>match LI k0 bF with
  |some (rc,Bj)=>if args.length=rc.ps.length then vu h k0 λb=>match b with
    |.aT .ready _ _ _ _=>j0 rc.a b5 bf true Bj (qI rc.e (rc.ps.zip args)) h λx e1 h1=>match x with
     |.normal=>vu h1 k0 λb=>match b with
      |.aT .ready _ _ _ _=>vP h1 k0 (λ_ k=>k (xz .busy none)) λh1'=>j0 rc.b b5 bf true Bj e1 h1' λx e2 h2=>agC k0 k x h2
      |_=>none
     |_=>none
    |_=>none
   else none
  |none=>none
 |_=>λ_ _ _=>none
noncomputable def Hl(T:FuncId->Option (jc×Nat))(om:FuncId->List U->Option U)(bf:Nat):Nat->qS
 |0=>λ_ _ _ _ _=>none
 |d+1=>zV T om bf (Hl T om bf d)
end
section
variable{i:fK}{E:Hid kq}{e:Env}{hp:List aa}{r v:U}{bF:o5}{st:LoopState}{pd:Option Code}{ats:List U}{ps:Array Tmp}{ok:Code->Code->Prop}
section
variable{G:Cells}{P:Program}
def SB{F F':Hid (U->List aa->Prop)}{E':Hid kq}(h:@gQ G P i F E e hp)(hF:∀v hp,F.v v hp->F'.v v hp)(hE:∀ch hp,E.v ch hp->E'.v ch hp):@gQ G P i F' E' e hp:=by
 cases i with
 |op o=>obtain⟨v,h1,h2⟩:=h;exact⟨v,h1,hF _ _ h2⟩
 |call f args=>obtain⟨cl,h1,h2⟩:=h;exact⟨cl,h1,aZ h2 hF⟩
 |lP x args=>
  obtain⟨x',h0,cl,h1,h2⟩:=h;exact⟨x',h0,cl,h1,rT h2 hF⟩
 |lq f args=>obtain⟨cl,h1,bs,r',h2,h3,h4⟩:=h;exact⟨cl,h1,bs,r',h2,h3,hF _ _ h4⟩
 |mB f args r=>obtain⟨cl,h1,bs,h2,h3,h4⟩:=h;exact⟨cl,h1,bs,h2,h3,hF _ _ h4⟩
 |nu f args=>obtain⟨cl,h1,h2⟩:=h;exact⟨cl,h1,e3 h2 hF hE⟩
 |nv x args=>
  obtain⟨x',h0,cl,h1,h2⟩:=h;exact⟨x',h0,cl,h1,VM h2 hF hE⟩
 |eW x=>obtain⟨v,h1,h2⟩:=h;exact⟨v,h1,hE _ _ h2⟩
def anS{w:Bool}{A B A' B':Hid Prop}(h:@rj w v A B)(h1:A.v->A'.v)(h2:B.v->B'.v):@rj w v A' B':=by
 unfold rj at h⊢;split at h;cases w with
 |true=>exact⟨λq=>h1 (h.1 q),λq=>h2 (h.2 q)⟩
 |false=>exact⟨λq=>h2 (h.1 q),λq=>h1 (h.2 q)⟩
 exact h2 h;exact h.elim
def Gw:∀{l:List aL} {K K':Hid (Env->List aa->Prop)} {E E':Hid kq} {e:Env} {hp:List aa},@iC G P l K E e hp->(∀e hp,K.v e hp->K'.v e hp)->(∀ch hp,E.v ch hp->E'.v ch hp)->@iC G P l K' E' e hp
 |[],K,K',E,E',e,hp,h,hk,hE=>by rw[BH] at h⊢;exact hk _ _ h
 |⟨d,g,i⟩::r,K,K',E,E',e,hp,h,hk,hE=>by
  rcases g with _|⟨k,w⟩
  rw[DZ] at h⊢;exact SB h (λv hp' q=>Gw q hk hE) hE;rw[DY] at h⊢;obtain⟨g,h1,h2⟩:=h;exact⟨g,h1,anS h2 (λq=>SB q (λv hp' q=>Gw q hk hE) hE) λq=>Gw q hk hE⟩
def WR:∀{l:List (aL×List aL)} {K K':Hid (Env->List aa->Prop)} {E E':Hid kq} {e:Env} {hp:List aa},@q3 G P l K E e hp->(∀e hp,K.v e hp->K'.v e hp)->(∀ch hp,E.v ch hp->E'.v ch hp)->@q3 G P l K' E' e hp
 |[],K,K',E,E',e,hp,h,hk,hE=>by rw[D0] at h⊢;exact hk _ _ h
 |(o,cs)::r,K,K',E,E',e,hp,h,hk,hE=>by
  rw[D1] at h⊢;exact Gw h (λe hp k=>⟨k.1,WR k.2 hk hE⟩) hE
def o6(G:Cells)(P:Program)(bF:o5)(hp:List aa):Prop:=∀k rc,(k,rc)∈bF->∃ats ok st pd,hp[k]?=some (.aT st pd ats rc.ps.toArray ok)/\
 Po G P k ats rc.ps ok (λQ e hp=>@cF G P true rc.a ⟨Q⟩ e hp) (λQ e hp=>@cF G P true rc.b ⟨Q⟩ e hp) rc.e
def o6.keeps{hp':List aa}(h:o6 G P bF hp)(hk:eA hp hp'):o6 G P bF hp':=λk rc hm=>by
 obtain⟨ats,ok,st,pd,h1,h2⟩:=h k rc hm;obtain⟨st',jx,h3⟩:=hk _ _ _ _ _ _ h1;exact⟨ats,ok,st',jx,h3,h2⟩
def S1:o6 G P [] hp:=λk rc hm=>by cases hm
def By(G:Cells)(P:Program)(b5:qS):Prop:=∀bF x args hp k r,o6 G P bF hp->b5 bF x args (R (hp.map aW)) k=some r->
 ((∀ch h,k (.eW ch) h=none)->gP G P x args hp λv hp'=>k (.val v) (R (hp'.map aW))=some r/\eA hp hp')/\
 (∀f fs cs,x=.fn (.func f) fs cs->fI G P f (fs++args++cs) hp (λv hp'=>k (.val v) (R (hp'.map aW))=some r/\eA hp hp') λch hp'=>k (.eW ch) (R (hp'.map aW))=some r/\eA hp hp')
def Eo:∀{n:Nat} {x r:U},b9 (hp.map aW) n x=some r->b9 hp n x=some r
 |0,x,r,h=>aB1
 |n+1,x,r,h=>by
  have mp:∀{l:List U} {m:List U},iu (b9 (hp.map aW) n) l=some m->iu (b9 hp n) l=some m:=by
   intro l
   induction l with
   |nil=>intro m h;exact h
   |cons a l ih=>
    intro m h;simp only[iu] at h⊢;split at h;rename_i y hy;rw[Eo hy];simp only;split at h;rename_i l' hl;rw[ih hl];exact h;cases h;cases h
  have AO:∀{l:List U} {g:List U->U} {y:U},(iu (b9 (hp.map aW) n) l).map g=some y->(iu (b9 hp n) l).map g=some y:=by
   intro l g y h;rw[cc] at h⊢;obtain⟨m,h1,h2⟩:=h;exact⟨m,mp h1,h2⟩
  unfold b9 at h⊢;cases x<;>simp only at h⊢
  case v=>exact h
  case af=>exact h
  case agg=>exact AO h
  case aK=>exact AO h
  case sl=>exact AO h
  case fp=>exact AO h
  case cQ t x=>
   rw[cc] at h⊢;obtain⟨y,h1,h2⟩:=h;exact⟨y,Eo h1,h2⟩
  case fn f a b=>
   simp only[eY] at h⊢;obtain⟨a',h1,h2⟩:=h;exact⟨a',mp h1,AO h2⟩
  case mp k off=>
   split at h;rename_i cs hk;rw[pF hk];exact AO h;cases h
  case rp k m off=>
   split at h;rename_i cs hk;rw[pF hk];simp only;split at h;rename_i hc;rw[if_pos hc];exact AO h;cases h;cases h
  case rs k m sz off len=>
   split at h;rename_i cs hk;rw[pF hk];simp only;split at h;rename_i hc;rw[if_pos hc];exact AO h;cases h;cases h
  all_goals cases h
def Ef{f:FuncId}{fs cs args:List U}{K:U->List aa->Prop}:gP G P (.fn (.func f) fs cs) args hp K=aE G P f (fs++args++cs) hp K:=rfl
def Vt{k:U->dW->Option U}:∀ch h,FW k (.eW ch) h=none:=λ_ _=>rfl
def af7{b5:qS}(gb:By G P b5){f:FuncId}{cl:List U}(h:Ny b5 f cl=some v):∃bs,mN cl bs/\ck G P f bs v:=by
 unfold Ny at h;split at h;rename_i bs HP;refine⟨bs,Q_ HP,ef ?_⟩;have:=(gb [] (.fn (.func f) [] []) bs [] _ v S1 h).1 λ_ _=>rfl;rw[Ef,eR,e4] at this;exact aZ this λr hp' k=>⟨64,Eo (by have:=k.1;rw[Dr] at this;exact this)⟩;cases h
variable{b5:qS}(gb:By G P b5)
include gb
def aqE{k:tn}(dU:o6 G P bF hp)(h:tY i b5 bF e (R (hp.map aW)) k=some r):
  @gQ G P i ⟨λv hp'=>k (.val v) (R (hp'.map aW))=some r/\eA hp hp'⟩ ⟨λch hp'=>k (.eW ch) (R (hp'.map aW))=some r/\eA hp hp'⟩ e hp:=by
 cases i with
 |op o=>
  simp only[tY,afQ,eY] at h;obtain⟨⟨v,hE⟩,h1,h2⟩:=h;obtain⟨hp',q1,rfl,aN⟩:=Yz hp v hE h1;exact⟨(v,hp'),q1,h2,aN⟩
 |call f args=>
  simp only[tY,Ac,eY] at h;obtain⟨cl,h1,h2⟩:=h;have:=(gb bF _ cl hp _ r dU h2).1 Vt;rw[Ef,eR,e4] at this;exact⟨cl,h1,this⟩
 |lP x args=>
  simp only[tY,pI,Ac,eY] at h;obtain⟨x',h0,cl,h1,h2⟩:=h;exact⟨x',h0,cl,h1,(gb bF _ cl hp _ r dU h2).1 Vt⟩
 |lq f args=>
  simp only[tY,Ac,eY] at h;obtain⟨cl,h1,h2⟩:=h;split at h2;rename_i v hv;rw[wY] at h2;obtain⟨bs,q1,ah⟩:=af7 gb hv;exact⟨cl,h1,bs,v,q1,ah,h2,qb hp⟩;cases h2
 |mB f args r'=>
  simp only[tY,Ac,eY] at h;obtain⟨cl,h1,h2⟩:=h;split at h2;rename_i v hv;rw[wY] at h2;obtain⟨bs,q1,ah⟩:=af7 gb hv;split at h2;rename_i heq;have:=wS heq;subst this;exact⟨cl,h1,bs,q1,ah,h2,qb hp⟩;cases h2;cases h2
 |nu f args=>
  simp only[tY,Ac,eY] at h;obtain⟨cl,h1,h2⟩:=h;have:=(gb bF _ cl hp _ r dU h2).2 f [] [] rfl;rw[eR,e4] at this;exact⟨cl,h1,this⟩
 |nv x args=>
  simp only[tY,pI,eY] at h;obtain⟨x',h0,h2⟩:=h;split at h2;rename_i f fs cs;simp only[Ac,eY] at h2;obtain⟨cl,h1,h2⟩:=h2;exact⟨_,h0,cl,h1,(gb bF _ cl hp _ r dU h2).2 f fs cs rfl⟩;cases h2
 |eW x=>
  simp only[tY,pI,eY] at h;obtain⟨x',h0,h2⟩:=h;split at h2;rename_i v hv;exact⟨v,by rw[h0];exact hv,h2,qb hp⟩;cases h2
def ahv{o:aL}{next:yg}{an:Env->dW->Option U}{kp:List PanicEntry->dW->Option U}{l:List aL}{K:Hid (Env->List aa->Prop)}(dU:o6 G P bF hp)(h:N4 o next b5 bF e (R (hp.map aW)) an kp=some r)
  (hn:∀e hp',eA hp hp'->next b5 bF e (R (hp'.map aW)) an kp=some r->@iC G P l K E e hp') (hE:∀ch hp',eA hp hp'->kp ch (R (hp'.map aW))=some r->E.v ch hp'):@iC G P (o::l) K E e hp:=by
 obtain⟨d,g,i⟩:=o;have yes:tY i b5 bF e (R (hp.map aW)) (λo h'=>TA d next o b5 bF e h' an kp)=some r->@gQ G P i ⟨λv hp'=>@iC G P l K E (nK d v e) hp'⟩ E e hp:=λq=>by
  refine SB (aqE gb dU q) (λv hp' ⟨k1,k2⟩=>?_) λch hp' ⟨k1,k2⟩=>hE ch hp' k2 (by cases d<;>exact k1);refine hn _ hp' k2 ?_;cases d<;>exact k1
 cases g with
 |none=>rw[DZ];exact yes h
 |some anT=>
  obtain⟨g,w⟩:=anT;rw[DY];simp only[N4,Lr,eY] at h;obtain⟨v,h1,h2⟩:=h;refine⟨v,h1,?_⟩;dsimp only;split at h2
  · rename_i b
    cases hx:Bool.xor b w with
    |false=>
     rw[hx] at h2
     have hb:b=w:=by cases b<;>cases w<;>first|rfl|cases hx
     subst hb;cases b with
     |true=>exact⟨λ_=>yes h2,nofun⟩
     |false=>exact⟨nofun,λ_=>yes h2⟩
    |true=>
     rw[hx] at h2;have no:=hn _ hp (qb hp) h2
     cases b<;>cases w<;>first|(cases hx;done)|skip
     exact⟨nofun,λ_=>no⟩;exact⟨λ_=>no,nofun⟩
  exact hn _ hp (qb hp) h2;cases h2
def Np:∀{l:List aL} {bF:o5} {e:Env} {hp:List aa} {an:Env->dW->Option U} {kp:List PanicEntry->dW->Option U} {r:U},o6 G P bF hp->Fi l b5 bF e (R (hp.map aW)) an kp=some r->
  @iC G P l ⟨λe' hp'=>an e' (R (hp'.map aW))=some r/\eA hp hp'⟩ ⟨λch hp'=>kp ch (R (hp'.map aW))=some r/\eA hp hp'⟩ e hp
 |[],bF,e,hp,an,kp,r,dU,h=>by rw[BH];exact⟨h,qb hp⟩
 |o::l,bF,e,hp,an,kp,r,dU,h=>by
  refine ahv gb (next:=Fi l) dU h (λe hp' hk q=>?_) λch hp' hk q=>⟨q,hk⟩;exact Gw (Np (dU.keeps hk) q) (λe gE k=>⟨k.1,hk.trans k.2⟩) λch gE k=>⟨k.1,hk.trans k.2⟩
omit gb in
def awb{c:aL}(h:NI c e (R (hp.map aW))=true):oR c e hp:=by
 unfold NI at h;unfold oR;split at h;rename_i o d hi hd;have yes:(match eZ e d,pX o e (R (hp.map aW)) λu _=>some u with|some v,some u=>nw 64 u v|_,_=>false)=true->@e_ _ (eZ e d) ⟨λv=>@e_ _ (bx e hp o) ⟨λr=>r.1=v⟩⟩:=λq=>by
  split at q;rename_i v u hv hu;rw[afQ,eY] at hu;obtain⟨⟨u',hE⟩,hu,h3⟩:=hu;cases h3;obtain⟨hp',q1,_,_⟩:=Yz hp _ hE hu;exact⟨v,hv,(_,hp'),q1,wS q⟩;cases q
 rw[hi,hd];simp only;unfold aam at h;split at h;rename_i hg;split at hg;rename_i hc;rw[hc];exact yes h;rename_i k w hc;rw[hc];split at hg;rename_i b hk;simp only[lG,beq_iff_eq] at hg;subst hg;refine⟨_,hk,?_⟩;cases b with
 |true=>exact⟨λ_=>yes h,nofun⟩
 |false=>exact⟨nofun,λ_=>yes h⟩
 cases hg;cases hg;rename_i hg;have no:@e_ _ (eZ e d) ⟨λv=>v=gH⟩:=by
  split at h;rename_i v hv;exact⟨v,hv,wS h⟩;cases h
 split at hg;cases hg;rename_i k w hc;rw[hc];split at hg;rename_i b hk;simp only[lG,beq_eq_false_iff_ne,ne_eq] at hg;refine⟨_,hk,?_⟩
 cases b<;>cases w<;>first|(exact(hg rfl).elim)|skip
 exact⟨nofun,λ_=>no⟩;exact⟨λ_=>no,nofun⟩;rename_i hk;exact⟨_,hk,no⟩;cases hg;cases h;cases h
def afR:∀{l:List (aL×List aL)} {bF:o5} {e:Env} {hp:List aa} {an:Env->dW->Option U} {kp:List PanicEntry->dW->Option U} {r:U},o6 G P bF hp->TV l b5 bF e (R (hp.map aW)) an kp=some r->
  @q3 G P l ⟨λe' hp'=>an e' (R (hp'.map aW))=some r/\eA hp hp'⟩ ⟨λch hp'=>kp ch (R (hp'.map aW))=some r/\eA hp hp'⟩ e hp
 |[],bF,e,hp,an,kp,r,dU,h=>by rw[D0];exact⟨h,qb hp⟩
 |(o,cs)::l,bF,e,hp,an,kp,r,dU,h=>by
  rw[D1];refine ahv gb (next:=λb5 bF e h k kp=>match cs.all (λc=>NI c e h) with
   |true=>TV l b5 bF e h k kp
   |false=>none) dU h (λe hp' hk q=>?_) λch hp' hk q=>⟨q,hk⟩
  rw[BH];dsimp only at q⊢;split at q;rename_i hall;refine⟨?_,WR (afR (dU.keeps hk) q) (λe gE k=>⟨k.1,hk.trans k.2⟩) λch gE k=>⟨k.1,hk.trans k.2⟩⟩;clear q h
  induction cs with
  |nil=>trivial
  |cons c cs ih=>
   simp only[lD,dY] at hall;exact⟨awb hall.1,ih hall.2⟩
  cases q
omit gb in
def atZ{a:cZ}{nest:Bool}{f:Env->dW->yc->Option U}{k:yc}{eo:List aa}(dU:o6 G P bF eo)(hf:∀e hp k,o6 G P bF hp->f e (R (hp.map aW)) k=some r->@cF G P nest a ⟨λx e' hp'=>k x e' (R (hp'.map aW))=some r/\eA hp hp'⟩ e hp){m:Nat}(hk:eA eo hp)(h:S_ f m e (R (hp.map aW)) k=some r):@cF G P nest (.loop a) ⟨λx e' hp'=>k x e' (R (hp'.map aW))=some r/\eA eo hp'⟩ e hp:=by
 rw[JR];refine⟨λm e hp=>S_ f m e (R (hp.map aW)) k=some r/\eA eo hp,m,⟨h,hk⟩,λm e hp ⟨h1,h2⟩=>?_⟩;cases m with
 |zero=>cases h1
 |succ m=>
  refine p8 (hf e hp _ (dU.keeps h2) h1) λx e' hp' ⟨k1,k2⟩=>?_;cases x with
  |normal=>exact⟨m,Bw m,k1,h2.trans k2⟩
  |_=>exact⟨k1,h2.trans k2⟩
omit gb in
def SQ{k:Nat}{st':LoopState}{jx:Option Code}(hk:hp[k]?=some (.aT st pd ats ps ok)):eA hp (hp.set k (.aT st' jx ats ps ok)):=λj fP af3 az1 ps1 TL h=>by
 by_cases e:k=j;subst e;rw[hk] at h;cases h;exact⟨st',jx,aR (bE.1 hk).1⟩;exact⟨fP,af3,aD6⟩
omit gb in
def Hj{k:Nat}:(hp.set k (.aT st pd ats ps ok)).map aW=(hp.map aW).set k (xz st (match st with|.busy=>none|_=>pd)):=by
 rw[s0];rfl
omit gb in
def yw:type_of% @YJ/\type_of% @Lj.eq_1/\type_of% @YF/\type_of% @Lg.eq_1/\type_of% @G0/\type_of% @BZ.eq_1/\type_of% @YB/\type_of% @Lb.eq_1/\type_of% @GY/\type_of% @BW.eq_1/\type_of% @YC/\type_of% @Lc.eq_1/\type_of% @YI/\type_of% @Li.eq_1/\type_of% @YE/\type_of% @Le.eq_1/\type_of% @YG/\type_of% @Lf.eq_def/\type_of% @YH/\type_of% @Lh.eq_1/\type_of% @GZ/\type_of% @BY.eq_1/\type_of% @YD/\type_of% @Ld.eq_1:=
 ⟨@YJ,@Lj.eq_1,@YF,@Lg.eq_1,@G0,@BZ.eq_1,@YB,@Lb.eq_1,@GY,@BW.eq_1,@YC,@Lc.eq_1,@YI,@Li.eq_1,@YE,@Le.eq_1,@YG,@Lf.eq_def,@YH,@Lh.eq_1,@GZ,@BY.eq_1,@YD,@Ld.eq_1⟩
def BX{bf:Nat}:∀{c:cZ} {nest:Bool} {bF:o5} {e:Env} {hp:List aa} {k:yc} {r:U},o6 G P bF hp->j0 c b5 bf nest bF e (R (hp.map aW)) k=some r->
  @cF G P nest c ⟨λx e' hp'=>k x e' (R (hp'.map aW))=some r/\eA hp hp'⟩ e hp:=by
 intro c
 induction c with
 |skip L=>intro nest bF e hp k r dU h;rw[JX];simp only[yw,uf] at h;exact⟨h,qb hp⟩
 |lab L=>intro nest bF e hp k r dU h;rw[JQ];simp only[yw,uf] at h;exact⟨h,qb hp⟩
 |bad=>intro nest bF e hp k r dU h;cases h
 |exit id L=>intro nest bF e hp k r dU h;rw[JP];simp only[yw,uf] at h;exact⟨h,qb hp⟩
 |ret L=>intro nest bF e hp k r dU h;rw[JV];simp only[yw,uf] at h;exact⟨h,qb hp⟩
 |region ops L=>
  intro nest bF e hp k r dU h;rw[JT];simp only[yw,uf] at h;exact Np gb dU h
 |oq l L=>
  intro nest bF e hp k r dU h;rw[JU];simp only[yw,uf] at h;exact afR gb dU h
 |oS ls L=>
  intro nest bF e hp k r dU h;rw[FZ];cases ls with
  |nil=>cases h
  |cons l0 ls=>
   simp only[yw,uf] at h;split at h;rename_i t _;split at h;rename_i x hx;split at h;rename_i hall;cases h;refine⟨told t,λl hl=>?_⟩;rw[ek] at hl
   rcases hl with rfl|hl
   exact Np gb dU hx;have:=c_.1 hall l hl;split at this;rename_i y hy;rw[<-wS this] at hy;exact Np gb dU hy;cases this;cases h;cases h;cases h
 |seq a b ia qA=>
  intro nest bF e hp k r dU h;rw[Ds];simp only[G0,BZ,GY,BW,GZ,BY] at h;refine p8 (ia dU h) λx e' hp' ⟨k1,k2⟩=>?_;cases x with
  |normal=>exact p8 (qA (dU.keeps k2) k1) λx e2 gE ⟨q1,ah⟩=>⟨q1,k2.trans ah⟩
  |_=>exact⟨k1,k2⟩
 |cond c a b ia qA=>
  intro nest bF e hp k r dU h;rw[JO];simp only[yw,pI,eY] at h;obtain⟨v,h1,h2⟩:=h;refine⟨v,h1,?_⟩;dsimp only;split at h2;exact⟨λ_=>ia dU h2,nofun⟩;exact⟨nofun,λ_=>qA dU h2⟩;cases h2
 |block id a ia=>
  intro nest bF e hp k r dU h;rw[xP];simp only[G0,BZ,GY,BW,GZ,BY] at h;refine p8 (ia dU h) λx e' hp' ⟨k1,k2⟩=>?_;cases x with
  |exit id'=>
   simp only[tC];dsimp only at k1;split at k1;rename_i hq;rw[if_pos (qe hq)];exact⟨k1,k2⟩;rename_i hq;rw[if_neg (λq=>by subst q;rw[Nat.beq_refl] at hq;cases hq)];exact⟨k1,k2⟩
  |_=>exact⟨k1,k2⟩
 |scope a ia=>
  intro nest bF e hp k r dU h;rw[JW];simp only[G0,BZ,GY,BW,GZ,BY] at h;refine p8 (ia dU h) λx e' hp' ⟨k1,k2⟩=>?_;cases x with
  |goto l=>cases k1
  |_=>exact⟨k1,k2⟩
 |loop a ia=>
  intro nest bF e hp k r dU h;exact atZ dU (λe hp k dU h=>ia dU h) (qb hp) h
 |oQ x ps a b L ia qA=>
  intro nest bF e hp k r dU h;rw[vR];simp only[yw,pI,eY] at h;obtain⟨v,h1,h2⟩:=h;split at h2
  · rename_i g fs cs
    refine⟨g,fs,cs,h1,λk0 hk0 ats ok hR=>?_⟩;have hmk:hp.map aW++(if nest=true then [] else [.obj (.deferred none)])=(hp++marks nest).map aW:=by
     rw[eX];cases nest<;>rfl
    have hlb:(hp++marks nest).map aW++[xz .ready none]=(hp++marks nest++[iB .ready none ats ps.toArray ok]).map aW:=by
     rw[eX (l₁:=hp++marks nest)];rfl
    have h2:b5 ((k0,⟨ps,a,b,e⟩)::bF) (.fn (.func g) [] []) (fs++[.gk k0]++cs) (R ((hp++marks nest++[iB .ready none ats ps.toArray ok]).map aW)) (FW λ_ h'=>Us k0 L e k h')=some r:=by
     have rn:∀H,(R H).n=H.length:=λ_=>rfl;rw[<-hlb,<-hmk];cases nest with
     |true=>
      simp only[NA,su,rn] at h2;simp only[marks,if_true,e4] at hk0⊢;rw[b_,<-hk0] at h2;exact h2
     |false=>
      simp only[NA,su,rn] at h2;simp only[marks,iA,if_false] at hk0⊢;rw[cB,b_,nq] at h2;rw[cB,nq] at hk0;rw[<-hk0] at h2;exact h2
    have gY:(hp++marks nest++[iB .ready none ats ps.toArray ok])[k0]?=some (.aT .ready none ats ps.toArray ok):=by
     rw[hk0,er (bl _),kj];rfl
    have aqf:o6 G P ((k0,⟨ps,a,b,e⟩)::bF) (hp++marks nest++[iB .ready none ats ps.toArray ok]):=λj rc hm=>by
     rcases ek.1 hm with hm|hm
     cases hm;exact⟨ats,ok,.ready,none,gY,hR⟩;exact(dU.keeps (xy.trans xy)) j rc hm
    have:=(gb _ _ _ _ _ r aqf h2).1 Vt;rw[Ef,eR,e4] at this;refine aZ this λv hp' ⟨q1,ah⟩=>?_;obtain⟨st,pd,hst⟩:=ah _ _ _ _ _ _ gY;refine⟨st,pd,hst,?_⟩;have he:(hp'.map aW)[k0]?=some (aW (.aT st pd ats ps.toArray ok)):=by rw[eC,hst];rfl
    simp only[FW,Us,yV,he,aW,kn] at q1;have hkk:eA hp (hp'.set k0 (.aT .exhausted pd ats ps.toArray ok)):=(xy.trans xy).trans (ah.trans (SQ hst));have Cv:(hp'.set k0 (.aT .exhausted pd ats ps.toArray ok)).map aW=(hp'.map aW).set k0 (xz .exhausted pd):=Hj;cases st<;>simp only[reduceCtorEq,ne_eq,not_false_eq_true,not_true_eq_false,true_and,false_and] at q1⊢
    all_goals
     rw[FV,he] at q1;simp only[kn] at q1;rw[<-Cv] at q1;cases pd with
     |none=>simp only[uf] at q1;exact⟨q1,hkk⟩
     |some c=>
      cases c with
      |ret=>simp only[uf] at q1;exact⟨q1,hkk⟩
      |exit id=>simp only[uf] at q1;exact⟨q1,hkk⟩
      |_=>cases q1
  cases h2
end
end
section
variable{hp:List aa}{r:U}{b5:qS}{bF:o5}{f:FuncId}{nx:jc}{args:List U}
section
variable{G:Cells}{P:Program}{T:FuncId->Option (jc×Nat)}{om:FuncId->List U->Option U}{bf:Nat}
def Pw(P:Program)(T:FuncId->Option (jc×Nat)):Prop:=∀f nx pu,T f=some (nx,pu)->Gj P f nx
def Pm(G:Cells)(P:Program)(T:FuncId->Option (jc×Nat))(om:FuncId->List U->Option U):Prop:=∀f args r,T f=none->om f args=some r->ck G P f args r
def awl{e:Env}{rs:List e7}(h:jn e (hp.map aW) rs=some r):jn e hp rs=some r:=by
 have key:∀{rs:List e7} {l:List U},qF e (hp.map aW) rs=some l->qF e hp rs=some l:=by
  intro rs
  induction rs with
  |nil=>intro l h;exact h
  |cons x rs ih=>
   intro l h;simp only[qF,eY,cc] at h⊢;obtain⟨a,h1,l',h2,h3⟩:=h;refine⟨a,?_,l',ih h2,h3⟩;cases x with
   |s t=>exact h1
   |c t aH n=>
    simp only[xK,eY] at h1⊢;obtain⟨p,q1,ah⟩:=h1;exact⟨p,q1,Xs ah⟩
 unfold jn at h⊢;rw[cc] at h⊢;obtain⟨l,h1,h2⟩:=h;exact⟨l,key h1,h2⟩
def QE{n0:Nat}{hp':List aa}(h:lH n0 hp hp'):hp'.map aW=hp.map aW/\eA hp hp':=by
 constructor;apply Bu;intro k;rw[eC,eC]
 rcases h.2 k with q|⟨_,q1,ah⟩
 rw[q];rw[q1,ah];rfl;intro k st pd ats ps ok hk
 rcases h.2 k with q|⟨_,q1,ah⟩
 exact⟨st,pd,by rw[q];exact hk⟩;rw[q1] at hk;cases hk
def ail:∀{l:List Value} {xs:List U},Ot l=some xs->OF xs=some l/\j9.Fs xs=true
 |[],xs,h=>by cases h;exact⟨rfl,rfl⟩
 |x::r,xs,h=>by
  simp only[Ot] at h;split at h;rename_i hp;split at h;rename_i l hl;cases h;obtain⟨h1,h2⟩:=ail hl;exact⟨by simp[OF,pE,h1],by simp[j9.Fs,j9,hp,h2]⟩;cases h;cases h
def ayZ{v:Value}{x:U}(h:Vq v=some x):uj x=true/\oD x=some v:=by
 unfold Vq at h;split at h;rename_i t cs;split at h;rename_i l hl;cases h;obtain⟨h1,h2⟩:=ail hl;exact⟨by simp[uj,j9,h2],by simp[oD,pE,h1]⟩;cases h;rename_i t x _;split at h;rename_i hp;cases h;exact⟨by simp[uj,j9,hp],by simp[oD,pE]⟩;cases h;cases h
def aet:∀{l:List U} {ks:List Nat},MO l=some ks->l=ks.map λk=>.mp k 0
 |[],ks,h=>by cases h;rfl
 |x::r,ks,h=>by
  unfold MO at h;split at h;rename_i heq;cases heq;rename_i k r' heq;cases heq;split at h;rename_i l hl;cases h;rw[aet hl];rfl;cases h;cases h
def agE:∀{xs:List U} {k:List UInt8->Option U} {r:U},NO xs k=some r->∃l:List UInt8,xs=l.map (λc=>.v (.int .u8 c.toNat))/\k l=some r
 |[],k,r,h=>⟨[],rfl,h⟩
 |x::xs,k,r,h=>by
  unfold NO at h;split at h;rename_i heq;cases heq;rename_i k' n r' heq;cases heq;split at h;rename_i hn;have hn:=nT hn;obtain⟨l,h1,h2⟩:=agE h;refine⟨rY n::l,?_,h2⟩;rw[eD,<-h1];have:(rY n).toNat=n:=aBK
  rw[this];rfl;cases h;cases h
variable(hm:P.follows .mixedOrders=true)(hT:Pw P T)
include hm hT
def awH(gb:By G P b5){g:FuncId}{ks:List Nat}{x:Option U}{v:Option Value}{k:dW->Option U}(dU:o6 G P bF hp)
  (hx:match x,v with|none,none=>True|some x,some v=>uj x=true/\oD x=some v|_,_=>False)
  (h:FB T b5 bf bF g ks x (R (hp.map aW)) k=some r):jb G P g (ks.map λk=>.mp k 0) hp v λhp'=>k (R (hp'.map aW))=some r/\eA hp hp':=by
 unfold FB at h;split at h;rename_i n d0 d1 c pu aoi;obtain⟨⟨O,F⟩,hf,h0,h1⟩:=hT _ _ _ aoi;split at h;rename_i hn;refine YS hm F hf ⟨h0,h1⟩ aDP hx ?_;refine p8 (BX gb dU h) λx e' hp' ⟨q1,ah⟩=>?_;cases x with
 |normal=>exact⟨q1,ah⟩
 |ret=>exact⟨q1,ah⟩
 |_=>cases q1
 cases h;cases h
def Q1(gb:By G P b5)(nE:Gj P f nx){k:tn}(dU:o6 G P bF hp)
  (h:wX T nx b5 bf bF args (R (hp.map aW)) k=some r):fI G P f args hp (λv hp'=>k (.val v) (R (hp'.map aW))=some r/\eA hp hp') λch hp'=>k (.eW ch) (R (hp'.map aW))=some r/\eA hp hp':=by
 have res:∀{rs:List e7} {e:Env} {cW:List aa},eA hp cW->vC rs e (R (cW.map aW)) k=some r->@e_ _ (jn e cW rs) ⟨λv=>k (.val v) (R (cW.map aW))=some r/\eA hp cW⟩:=λhk q=>by
  rw[awm,eY] at q;obtain⟨v,hv,q⟩:=q;exact⟨v,awl hv,q,hk⟩
 cases nx with
 |plain n rs c=>
  obtain⟨⟨O,F⟩,hf⟩:=nE;simp only[wX] at h;split at h;rename_i hn;refine ZL hm F hf hn (p8 (BX gb dU h) λx e' hp' ⟨q1,ah⟩=>?_);cases x with
  |normal=>exact res ah q1
  |ret=>exact res ah q1
  |panic ch=>exact⟨q1,ah⟩
  |_=>cases q1
  cases h
 |loops n rs c=>
  obtain⟨⟨O,F⟩,hf⟩:=nE;simp only[wX] at h;split at h;rename_i hn;refine ZM hm F hf hn (p8 (BX gb dU h) λx e' hp' ⟨q1,ah⟩=>?_);cases x with
  |normal=>
   intro gE he;obtain⟨w1,w2⟩:=QE he;have Jl:vC rs e' (R (gE.map aW)) k=some r:=by rw[w1];exact q1
   exact res (ah.trans w2) Jl
  |ret=>
   intro gE he;obtain⟨w1,w2⟩:=QE he;have Jl:vC rs e' (R (gE.map aW)) k=some r:=by rw[w1];exact q1
   exact res (ah.trans w2) Jl
  |panic ch=>
   intro gE he;obtain⟨w1,w2⟩:=QE he;refine⟨?_,ah.trans w2⟩;show k (.eW ch) (R (gE.map aW))=some r;rw[w1];exact q1
  |_=>cases q1
  cases h
 |oE n rs a t g caps b=>
  obtain⟨⟨O,F⟩,HY,HZ,ht⟩:=nE;simp only[wX] at h;split at h;rename_i hn;refine Bn (ZK hm F HY HZ ht hn (p8 (BX gb dU h) λx e1 cW ⟨q1,ah⟩=>?_));cases x with
  |normal=>
   simp only[Ac,eY] at q1;obtain⟨cl,w1,w2⟩:=q1;split at w2;rename_i ks hks;rw[B4 su] at w2;have aow:=aet hks;refine⟨ks,by rw[w1,aow],p8 (BX gb (dU.keeps ah) w2) λx e2 gE ⟨u1,u2⟩=>?_⟩;have aqg:=dU.keeps (ah.trans u2);have fin:∀{x:Option U} {v:Option Value},(match x,v with|none,none=>True|some x,some v=>uj x=true/\oD x=some v|_,_=>False)->FB T b5 bf bF g ks x (R (gE.map aW)) (λh3=>vC rs e2 h3 k)=some r->
     jb G P g (ks.map λk=>.mp k 0) gE v λhp'=>@e_ _ (jn e2 hp' rs) ⟨λv=>k (.val v) (R (hp'.map aW))=some r/\eA hp hp'⟩:=λhx q=>
    jb.mono (awH hm hT gb aqg hx q) λtU ⟨bh,z2⟩=>res ((ah.trans u2).trans z2) bh
   cases x with
   |normal=>exact fin (x:=none) (v:=none) trivial u1
   |ret=>exact fin (x:=none) (v:=none) trivial u1
   |panic ch=>
    split at u1;rename_i heq;cases heq;rename_i heq;cases heq;rename_i v heq;cases heq;split at u1;rename_i xv aqb;exact⟨v,rfl,fin (x:=some xv) (v:=some v) (ayZ aqb) u1⟩;cases u1;cases u1
   |_=>cases u1
   cases w2
  |_=>cases q1
  cases h
 |Db n d0 d1 c=>cases h
 |M7 l=>simp only[wX] at h;cases h
 |KS t=>
  simp only[wX] at h;split at h;rename_i b;unfold Yn at h;rw[yV,eY] at h;obtain⟨blk,EB,h⟩:=h;split at h;rename_i b' t' z;have hb:=pF EB;split at h;rename_i hc;simp only[dY,s3] at hc;obtain⟨⟨rfl,h1⟩,h2⟩:=hc;have ht:=Prod.ext h1 h2;subst ht;rw[FV,EB] at h;refine Bn (aZ (X9 nE hb) ?_);rintro r' hp' ⟨rfl,rfl⟩;have hs:(hp.set b' (.cells (.mp b' 0::z) false)).map aW=(hp.map aW).set b' (.cells (.mp b' 0::z) false):=aCu
  rw[hs];exact⟨h,vl hb nofun⟩;cases h;rename_i b' z;have hb:=pF EB;split at h;rename_i hc;have:=qe hc;subst this;refine Bn (aZ (Yb nE hb) ?_);rintro r' hp' ⟨rfl,rfl⟩;exact⟨h,qb _⟩;cases h;cases h;cases h
 |KW e=>
  simp only[wX] at h;split at h;rename_i b;unfold ahT at h;rw[yV,eY] at h;obtain⟨blk,EB,h⟩:=h;split at h;rename_i c0;have hb:=pF EB;refine Bn (aZ (Ya nE hb) ?_);rintro r' hp' ⟨rfl,rfl⟩;exact⟨h,qb _⟩;rename_i c0 xs id;have hb:=pF EB;rw[yV,eY] at h;obtain⟨az_,aoy,h⟩:=h;split at h;rename_i n e';have hid:=QT aoy;split at h;rename_i hc;simp only[dY,s3] at hc;obtain⟨⟨⟨h1,h2⟩,h3⟩,h4⟩:=hc;have h3:=nT h3;have h4:=nT h4;obtain⟨l,hl,hk⟩:=agE h;subst hl;subst h2;have hn:n=l.length:=by rw[h1,b_]
  subst hn;refine Bn (aZ (X_ nE hb hid (by intro e;subst e;simp at h3) h4) ?_);rintro r' hp' ⟨rfl,rfl⟩;exact⟨hk,qb _⟩;cases h;cases h;cases h;cases h
omit hm hT in
def Zy{k:Nat}:∀{bF:o5} {rc:Pe} {Bj:o5},LI k bF=some (rc,Bj)->(k,rc)∈bF/\∀x∈Bj,x∈bF
 |[],_,_,h=>aB1
 |(j,r)::bF,rc,Bj,h=>by
  simp only[LI] at h;split at h;rename_i e;subst e;cases h;exact⟨zw,λx hx=>qP _ hx⟩;obtain⟨h1,h2⟩:=Zy h;exact⟨qP _ h1,λx hx=>qP _ (h2 x hx)⟩
def alc(sB:Pm G P T om){b5:qS}(gb:By G P b5):By G P (zV T om bf b5):=by
 intro bF x args hp k r dU h;have fn:∀f fs cs,x=.fn (.func f) fs cs->fI G P f (fs++args++cs) hp (λv hp'=>k (.val v) (R (hp'.map aW))=some r/\eA hp hp') λch hp'=>k (.eW ch) (R (hp'.map aW))=some r/\eA hp hp':=by
  intro f fs cs hx;subst hx;simp only[zV] at h;rw[B4 λ_ _=>rfl] at h;split at h;rename_i Ry;split at h;rename_i bs HP;split at h;rename_i v hv;rw[wY] at h;exact Bn (dx (sB _ _ _ Ry hv) (Q_ HP) ⟨h,qb hp⟩);cases h;cases h;rename_i nx pu Ry;have nE:=hT _ _ _ Ry;split at h;exact Q1 hm hT gb nE dU h;split at h;rename_i v hv;rw[wY] at h;have eo:aE G P f (fs++args++cs) hp λr hp'=>(hp'.map aW).take hp.length=hp.map aW/\eA hp hp'/\∃n,b9 (mask hp.length hp') n r=some v:=by
   have:=Q1 hm hT gb nE dU hv;refine fI.ok ⟨this.1,λbase w0 C M w args' hs hr=>(this.2 base w0 C M w args' hs hr).mono λe w' ⟨aC,M',hp',h1,h2,h3⟩=>⟨aC,M',hp',h1,h2,?_⟩⟩
   rcases h3 with⟨v',u',q,rest⟩|⟨ch,q,rest⟩
   refine ay ⟨v',u',?_,rest⟩;obtain⟨q1,ah⟩:=q;simp only[Yx] at q1;split at q1;rename_i Sm;refine⟨aw1 Sm,ah,64,?_⟩;have rn:(R (hp.map aW)).n=hp.length:=b_ _;rw[rn,Dr,auj] at q1;exact Eo q1;cases q1;exact(by cases q.1)
  refine Bn (aZ (aE.close eo) ?_);rintro r' hp' ⟨rfl,q1,ah⟩;exact⟨by rw[q1];exact h,ah⟩;cases h;split at h;rename_i bs HP;split at h;rename_i v hv;rw[wY] at h;have eo:aE G P f bs [] λv' hp'=>∃n,b9 hp' n v'=some v:=by
   have:=Q1 hm hT gb nE (hp:=[]) (S1 (hp:=[])) hv;refine fI.ok ⟨this.1,λbase w0 C M w args' hs hr=>(this.2 base w0 C M w args' hs hr).mono λe w' ⟨aC,M',hp',h1,h2,h3⟩=>⟨aC,M',hp',h1,h2,?_⟩⟩
   rcases h3 with⟨v',u',q,rest⟩|⟨ch,q,rest⟩
   exact ay ⟨v',u',⟨64,Eo (by have:=q.1;simp only[C9,Dr] at this;exact this)⟩,rest⟩;exact(by cases q.1)
  exact Bn (dx (ef eo) (Q_ HP) ⟨h,qb hp⟩);cases h;cases h
 refine⟨λhnp=>?_,fn⟩;cases x with
 |fn f fs cs=>
  cases f with
  |func f=>
   rw[Ef];have:=fn f fs cs rfl;refine fI.ok ⟨this.1,λbase w0 C M w args' hs hr=>(this.2 base w0 C M w args' hs hr).mono λe w' ⟨aC,M',hp',h1,h2,h3⟩=>⟨aC,M',hp',h1,h2,?_⟩⟩
   rcases h3 with q|⟨ch,q,rest⟩
   exact ay q;rw[hnp] at q;exact(by cases q.1)
  |method nm=>
   cases fs with
   |cons a b=>simp only[zV] at h;cases h
   |nil=>
    simp only[zV] at h;split at h;rename_i t x rest;split at h;rename_i l pu aoj;split at h;rename_i g hg;have h1:=hT _ _ _ aoj _ (QY hg);have h2:=(gb _ _ _ _ _ _ dU h).1 hnp;rw[Ef,eR,e4] at h2;exact⟨t,x,rest,g,rfl,h1,h2⟩;cases h;cases h;cases h
  |_=>simp only[zV] at h;cases h
 |gk k0=>
  simp only[zV] at h;split at h;rename_i rc Bj RU;obtain⟨hmem,hsub⟩:=Zy RU;obtain⟨ats,ok,st,pd,gY,hR⟩:=dU k0 rc hmem;have abz:o6 G P Bj hp:=λj rc' hj=>dU j rc' (hsub _ hj);split at h;rename_i hlen;rw[yV,eY] at h;obtain⟨blk,Iq,h⟩:=h;split at h;rename_i af2 a0 b0 c0;obtain⟨jx,GK,ps',ok',cW,gE⟩:=Zd Iq;rw[gY] at cW;cases cW;refine hR args hp _ hlen ⟨pd,gY⟩ ?_;refine p8 (BX gb abz h) λx e1 cW ⟨q1,ah⟩=>?_;cases x with
  |normal=>
   dsimp only at q1;rw[yV,eY] at q1;obtain⟨az9,abm,q1⟩:=q1;split at q1;rename_i af3 a1 b1 c1;obtain⟨vJ,dz,ES⟩:=ah _ _ _ _ _ _ gY;obtain⟨y3,az2,aBu,aBp,tU,_⟩:=Zd abm;rw[ES] at tU;cases tU;rw[FV,abm] at q1;simp only[kn] at q1;refine⟨⟨dz,ES⟩,λaf4=>?_⟩;have Cv:(cW.map aW).set k0 (xz .busy none)=(cW.set k0 (.aT .busy af4 ats rc.ps.toArray ok)).map aW:=Hj.symm;rw[Cv] at q1;have eL:eA hp (cW.set k0 (.aT .busy af4 ats rc.ps.toArray ok)):=ah.trans (SQ ES);refine p8 (BX gb (abz.keeps eL) q1) λx e2 gE ⟨u1,u2⟩=>?_;obtain⟨N_,Nu,Ir⟩:=(eL.trans u2) _ _ _ _ _ _ gY;have he:(gE.map aW)[k0]?=some (aW (.aT N_ Nu ats rc.ps.toArray ok)):=by rw[eC,Ir];rfl
   simp only[agC,yV,he,aW,kn] at u1;have hk2:∀st pd,eA hp (gE.set k0 (.aT st pd ats rc.ps.toArray ok)):=λst pd=>(eL.trans u2).trans (SQ Ir);cases x with
   |normal=>
    dsimp only at u1;rw[FV,he] at u1;simp only[kn] at u1;refine⟨⟨N_,Nu,Ir⟩,?_,hk2 _ _⟩;rw[Hj];exact u1
   |ret=>
    dsimp only at u1;rw[FV,he] at u1;simp only[kn] at u1;refine⟨⟨N_,Nu,Ir⟩,?_,hk2 _ _⟩;rw[Hj];exact u1
   |exit id=>
    dsimp only at u1;rw[FV,he] at u1;simp only[kn] at u1;refine⟨⟨N_,Nu,Ir⟩,?_,hk2 _ _⟩;rw[Hj];exact u1
   |_=>cases u1
   cases q1
  |_=>cases q1
  cases h;cases h;cases h
 |_=>simp only[zV] at h;cases h
def Zi(sB:Pm G P T om):∀d,By G P (Hl T om bf d)
 |0=>λbF x args hp k r dU h=>aB1
 |d+1=>alc hm hT sB (Zi sB d)
inductive nX where
 |nil
 |node (l:nX) (k:FuncId) (nx:jc) (m:Nat) (r:nX)
noncomputable def nX.get(t:nX)(f:FuncId):Option (jc×Nat):=@nX.rec (λ_=>Option (jc×Nat)) none
 (λ_ k nx m _ il aqH=>@Bm (λ_=>Option (jc×Nat)) (@Bm (λ_=>Option (jc×Nat)) aqH (some (nx,m)) (dc f k)) il (oY f k)) t
def nX.cA(P:Program):nX->Prop
 |.nil=>True
 |.node l k nx _ r=>l.cA P/\Gj P k nx/\r.cA P
omit hm hT in
def nX.HA{m:Nat}:∀{t:nX},t.cA P->t.get f=some (nx,m)->Gj P f nx
 |.nil,_,h=>aB1
 |.node l k Zs m' r,ho,h=>by
  obtain⟨h1,h2,h3⟩:=ho;have hg:nX.get (.node l k Zs m' r) f=@Bm (λ_=>Option (jc×Nat)) (@Bm (λ_=>Option (jc×Nat)) (r.get f) (some (Zs,m')) (dc f k)) (l.get f) (oY f k):=rfl;rw[hg] at h;cases hb:oY f k with
  |true=>rw[hb] at h;exact nX.HA h1 h
  |false=>
   rw[hb] at h;cases hq:dc f k with
   |true=>
    rw[hq] at h;cases h;rw[qe hq];exact h2
   |false=>rw[hq] at h;exact nX.HA h3 h
def Zh(sB:Pm G P T om){d:Nat}(h:Hl T om bf d [] (.fn (.func f) [] []) args (R []) C9=some r):ck G P f args r:=by
 refine ef ?_;have:=(Zi hm hT sB d [] (.fn (.func f) [] []) args [] C9 r S1 h).1 λ_ _=>rfl;rw[Ef,eR,e4] at this;exact aZ this λr hp' k=>⟨64,Eo (by have:=k.1;simp only[C9,Dr] at this;exact this)⟩
end
end
section
variable{w:World}{b o:Nat}{v x y:Value}{C:Cells}{M:List Loc}{hp:List aa}
section
variable{G:Cells}{P:Program}{f:FuncId}
def Gk(G:Cells)(w:World):Prop:=∀b o v,G b o=some v->w.cell? ⟨b,o,none⟩=some v
def Yf(h:w.cell? ⟨b,o,none⟩=some v):b<w.heap.size:=by
 rcases cE b w.heap.size with q|q
 exact q;exfalso;unfold DG at h;dsimp only at h;have:w.heap[b]?=none:=by simp[q]
 rw[this] at h;simp at h
def yl(w:World)(C:Cells)(w':World):Cells:=λb o=>if b<w.heap.size then C b o else w'.cell? ⟨b,o,none⟩
def W2{w':World}(h:w.heap.size<=b):yl w C w' b o=w'.cell? ⟨b,o,none⟩:=by
 unfold yl;rw[if_neg aBH]
def AV{args:List U}{r:U}(he:Enters P f)(h:∀(C:Cells) (w:World) args',Gk G w/\BJ w->(∀b o v,C b o=some v->w.cell? ⟨b,o,none⟩=some v)->bY C [] [] args args'->Calls P f args'.toArray w λe w'=>∃v',e=.returned v'/\Below w.heap.size w w'/\aI (yl w C w') [] [] r v'):ck G P f args r:=
 ⟨he,λC w args' hg hc hr=>(h C w args' ⟨λb o v q=>hc b o v (hg.1 b o v q),hg.2⟩ hc hr).mono λe w' ⟨v',e1,hb,fN⟩=>by
  refine⟨yl w C w',v',e1,λb o v q=>?_,λb o v q=>?_,λb o v q=>?_,hb,fN,trivial⟩;unfold yl;rw[if_pos (Yf (hc b o v q))];exact q;unfold yl at q;split at q;exact ay q;rename_i hn;exact ax aBH;unfold yl at q;split at q;rename_i hn;rw[hb.cell (p:=⟨b,o,none⟩) hn];exact hc b o v q;exact q⟩
def Dd:∀{xs l:List Value},bY C M hp (xs.map .v) l->l=xs
 |[],[],_=>rfl
 |[],_::_,h=>by have:=h.1;simp at this
 |_::_,[],h=>by have:=h.1;simp at this
 |x::xs,y::l,h=>by
  have h0:=h.2 0 _ _ rfl rfl;have e:y=x:=by cases h0;rfl
  have:=Dd (xs:=xs) (l:=l) ⟨aDx,λi a b ha hb=>h.2 (i+1) a b aC3 aB0⟩;rw[e,this]
def af8{xs:List Value}(he:Enters P f)(hv:plain v=true)(h:∀w,Gk G w->Calls P f xs.toArray w λe w'=>e=.returned v/\Below w.heap.size w w'):ck G P f (xs.map .v) (.v v):=
 AV he λC w args' hg hc hr=>by
  rw[Dd hr];exact(h w hg.1).mono λe w' ⟨h1,h2⟩=>⟨v,h1,h2,.v hv⟩
def af9(he:Enters P f)(hv:plain v=true)(h:∀w,Gk G w->Calls P f #[x] w λe w'=>e=.returned v/\Below w.heap.size w w'):ck G P f [.v x] (.v v):=af8 (xs:=[x]) he hv h
def Ue(he:Enters P f)(hv:plain v=true)(h:∀w,Gk G w->Calls P f #[x,y] w λe w'=>e=.returned v/\Below w.heap.size w w'):ck G P f [.v x,.v y] (.v v):=af8 (xs:=[x,y]) he hv h
def awh{vs:List Value}(hC:∀(i:Nat) v,vs[i]?=some v->C b i=some v)(hp':∀v∈vs,plain v=true):aI C M hp (.sl (vs.map .v) .no) (.slice (some ⟨b,0,none⟩) vs.length vs.length):=by
 have:=aI.sl (C:=C) (M:=M) (hp:=hp) (xs:=vs.map .v) (t:=.no) (a:=⟨b,0,none⟩) (cap:=vs.length) (sz:=1) (λi j=>(vs[i]?).getD undef) (λ_=>rfl)
  (λi x hx=>by
    rw[eC,cc] at hx;obtain⟨v,_,rfl⟩:=hx;rfl)
  (λi x j c hx hc=>by
    rw[eC,cc] at hx;obtain⟨v,hv,rfl⟩:=hx;cases j with
    |zero=>
     simp only[gm,l6,lG] at hc;rw[hv];simpa using hC i v hv
    |succ j=>simp[gm] at hc)
  (λi x j c hx hc=>by
    rw[eC,cc] at hx;obtain⟨v,hv,rfl⟩:=hx;cases j with
    |zero=>
     simp only[gm,l6,lG] at hc;subst hc;rw[hv];exact .v (hp' v (bG hv))
    |succ j=>simp[gm] at hc) trivial aBI
 rw[b_] at this;exact this
def agq{a b:U}(h1:aI C M hp a x)(h2:aI C M hp b y):aI C M hp (.aK [a,b]) (.tuple #[x,y]):=.aK rfl λi u v hu hv=>by
 match i with
 |0=>simp at hu hv;subst hu;subst hv;exact h1
 |1=>simp at hu hv;subst hu;subst hv;exact h2
 |i+2=>simp at hu
def akU{B:Nat}{k:Nat}{os:Array Obj}(h:B<=w.heap.size):Below B w (Go.Sort.grow (w.drewN k) os):=by
 refine⟨rfl,rfl,rfl,?_,λi hi=>?_⟩;simp;rw[Go.Sort.heap_grow_old _ _ aBK];rfl
end
end
def ahk{α:Type}(f:α->U):Option (List α)->U
 |none=>.af
 |some l=>.sl (l.map f) .no
def axz{α:Type}(f:α->U)(o:Option (List α)):bL (ahk f o) ((o.getD []).map f):=by
 cases o with
 |none=>exact ax ⟨rfl,rfl⟩
 |some l=>exact ay rfl
structure de where
 kind:Int
 type:Int
 attr:Int
 rune:Int
 marks:List Int
def ag(n:Int):U:=.v (.int .i64 n)
def oc(n:Int):U:=.v (.int .i32 n)
def ep(n:Int):U:=.v (.int .u16 n)
def de.cells(t:de):List U:=ag t.kind::ag t.type::ag t.attr::oc t.rune::t.marks.map ep
def de.aG(t:de):U:=.agg t.cells
def Ks(n:Int):Prop:= -9223372036854775808<=n/\n<=9223372036854775807
def WC(n:Int):Prop:= -2147483648<=n/\n<=2147483647
structure de.cA(t:de):Prop where
 hk:Ks t.kind
 ht:Ks t.type
 ha:Ks t.attr
 hr:WC t.rune
 len:t.marks.length=8
 hm:∀x∈t.marks,0<=x/\x<65536
def wO{W:World}{c:kI}{L:List kI}{cs:List Value}(h:mM W (c::L) cs):∃v r,cs=v::r/\tc W c v/\mM W L r:=by
 cases cs with
 |nil=>have:=h.1;simp at this
 |cons v r=>exact⟨v,r,rfl,h.2 0 c v rfl rfl,aDC,λi a b ha hb=>h.2 (i+1) a b ha hb⟩
def KZ{W:World}{cs:List Value}(h:mM W [] cs):cs=[]:=lE h.1.symm
def zW{W:World}{k:IntKind}{v:Value}(h:tc W (.i k) v):∃n,v=.int k n/\(Lit.int k n).wf=true:=by
 cases h with
 |i h=>exact⟨_,rfl,h⟩
def Vw{n:Int}(h:(Lit.int .i64 n).wf=true):(-9223372036854775808<=n/\n<=9223372036854775807):=by
 simp[Lit.wf,aiW,aiV,F6,F5] at h;exact⟨aBH,aBH⟩
def azb{n:Int}(h:(Lit.int .i32 n).wf=true):(-2147483648<=n/\n<=2147483647):=by
 simp[Lit.wf,aiW,aiV,F6,F5] at h;exact⟨aBH,aBH⟩
def aza{n:Int}(h:(Lit.int .u16 n).wf=true):0<=n/\n<65536:=by
 simp[Lit.wf,aiW,aiV,F6,F5] at h;omega
def vB{C:Cells}{M:List Loc}{hp:List aa}{a:U}{v:Value}{cl:List U}{vs:List Value}(h:aI C M hp a v)(hs:bY C M hp cl vs):bY C M hp (a::cl) (v::vs):=
 ⟨by simp[hs.1],λi x y hx hy=>by
  cases i with
  |zero=>simp at hx hy;subst hx;subst hy;exact h
  |succ i=>simp at hx hy;exact hs.2 i x y hx hy⟩
def Ux{C:Cells}{M:List Loc}{hp:List aa}:bY C M hp [] []:=⟨rfl,λi x y hx=>aB2⟩
def AZ{C:Cells}{M:List Loc}{hp:List aa}(k:IntKind)(n:Int):aI C M hp (.v (.int k n)) (.int k n):=.v rfl
def abN{W:World}:∀(n:Nat) {cs:List Value},mM W (dL n (.i .u16)) cs->∃m:List Int,m.length=n/\(∀x∈m,0<=x/\x<65536)/\bY (s9 W) [] [] (m.map λn=>bP (.int .u16 n)) cs
 |0,cs,h=>by
  rw[KZ h];exact⟨[],rfl,λx hx=>aB2,Ux⟩
 |n+1,cs,h=>by
  obtain⟨v,r,rfl,h1,h2⟩:=wO h;obtain⟨k,rfl,hk⟩:=zW h1;obtain⟨m,e,hm,hr⟩:=abN n h2;refine⟨k::m,by simp[e],λx hx=>?_,vB (AZ _ _) hr⟩
  rcases ek.1 hx with rfl|hx
  exact aza hk;exact hm x hx
def ava{W:World}{e:List kI}{α:Type}{f:α->U}{KA:α->Prop}(hE:∀cs,mM W e cs->∃a,KA a/\bY (s9 W) [] [] (f a).cells cs)(hn:0<e.length){v:Value}(h:tc W (.sl e) v):
  ∃o:Option (List α),(∀x∈o.getD [],KA x)/\aI (s9 W) [] [] (ahk f o) v:=by
 cases h with
 |nil=>exact⟨none,λx hx=>aB2,.af⟩
 |sl g hl hc hsp hC hR=>
  rename_i a len cap;have each:∀i:Fin len,∃a,KA a/\bY (s9 W) [] [] (f a).cells ((jq e.length).map (g i.val)):=λi=>hE _ ⟨aBI,λj c v hc hv=>by
   have hj:=(bE.1 hc).1;simp only[eC,azQ hj,ie,lG] at hv;subst hv;exact hR i.val j c i.isLt hc⟩
  have hg:∀(i:Nat) x,(List.ofFn λi=>(each i).choose)[i]?=some x->∃hi:i<len,KA x/\bY (s9 W) [] [] (f x).cells ((jq e.length).map (g i)):=λi x hx=>by
   have hi:i<len:=by have:=(bE.1 hx).1;simpa using this
   rw[List.getElem?_ofFn] at hx;simp only[hi,dif_pos,lG] at hx;subst hx;exact⟨hi,(each ⟨i,hi⟩).choose_spec⟩
  generalize hl':(List.ofFn λi=>(each i).choose)=l at hg;have hlen:l.length=len:=by rw[<-hl'];simp
  refine⟨some l,λx hx=>?_,?_⟩;obtain⟨i,hi,rfl⟩:=DJ hx;obtain⟨_,h1,_⟩:=hg i _ (br hi);exact h1;have aa6:(l.map f).length=len:=by simp[hlen]
  have key:∀(i:Nat) (y:U),(l.map f)[i]?=some y->∃hi:i<len,bY (s9 W) [] [] y.cells ((jq e.length).map (g i)):=λi y hy=>by
   simp only[eC,cc] at hy;obtain⟨x,hx,rfl⟩:=hy;obtain⟨hi,_,h2⟩:=hg i x hx;exact⟨hi,h2⟩
  show aI (s9 W) [] [] (.sl (l.map f) .no) (.slice (some a) len cap);rw[<-aa6];refine .sl (sz:=e.length) g (λhne=>?_) (λi x hx=>?_) (λi x j c hx hj=>?_) (λi x j c hx hj=>?_) trivial aBH;exact hsp (by rw[<-aa6];exact DK.2 hne) hn;obtain⟨_,h2⟩:=key i x hx;rw[h2.1];simp;obtain⟨hi,h2⟩:=key i x hx;have hj':j<e.length:=aC7
  exact hC i j _ hi (br hj');obtain⟨hi,h2⟩:=key i x hx;have hj':j<e.length:=aC7
  exact h2.2 j c _ hj (by simp[azQ hj'])
def axe:List kI:=dL 8 (.i .u16)
def aib:List kI:=.i .i64:: .i .i64:: .i .i64:: .i .i32::axe
def ayE{W:World}(cs:List Value)(h:mM W aib cs):∃t:de,t.cA/\bY (s9 W) [] [] t.aG.cells cs:=by
 obtain⟨_,_,rfl,h0,g1⟩:=wO h;obtain⟨_,_,rfl,h1,g2⟩:=wO g1;obtain⟨_,_,rfl,h2,g3⟩:=wO g2;obtain⟨_,_,rfl,h3,g4⟩:=wO g3;obtain⟨a,rfl,wa⟩:=zW h0;obtain⟨b,rfl,wb⟩:=zW h1;obtain⟨c,rfl,wc⟩:=zW h2;obtain⟨d,rfl,wd⟩:=zW h3;obtain⟨m,mY,hm2,hr⟩:=abN 8 g4;exact⟨⟨a,b,c,d,m⟩,⟨Vw wa,Vw wb,Vw wc,azb wd,mY,hm2⟩,vB (AZ _ _) (vB (AZ _ _) (vB (AZ _ _) (vB (AZ _ _) hr)))⟩
def awa{P:Program}{ts:List TypeId}(h:(ts.all λt=>P.readableRec t&&decide (t<P.types.size))=true):∀t∈ts,P.readableRec t=true/\t<P.types.size:=λt ht=>by
 have:=c_.1 h t ht;simpa using this
set_option maxRecDepth 100000 in
def cellArg{P:Program}{W:World}{base:Nat}{t e':TypeId}{e:List kI}{v:Value}(ht:P.underlying t=some (.slice e'))(hv:J_ P W .any base t v)(h:mM W [.sl e] v.cells.toList):tc W (.sl e) v:=by
 obtain⟨w,r,e1,h1,h2⟩:=wO h;rw[KZ h2] at e1;have:v=w:=by
  cases v
  case agg cs=>simp[J_,ht,Cell.okWide,Cell.ok] at hv
  all_goals
   simp[vY] at e1;exact e1
 rw[this];exact h1
open Go.WideShapes
section
variable{H:Type}{enc:TypeId×Value->H}{P:Program}{W:World}{b:Nat}{sp:Nat->Bool}{held:Bool}
def abM{t e:TypeId}{n fuel:Nat}{k:IntKind}{cs:List Value}{ds:List Int}{p:List MemPlace}(ht:P.underlying t=some (.array n e))(he:P.underlying e=some (.int k))(hc:P.cellsOf e=1)
  (h:OH enc P W b sp held fuel t cs=some (.agg (ds.map λi=>.lit (.int k i)),p)) (j:Nat) (i:Int) (hj:ds[j]?=some i):cs[j]?=some (.int k i):=by
 obtain⟨xs,m,_,ex,hlen,hl,hel⟩:=DataW.trod_array ht h;have e1:=DataW.agg.inj (Prod.mk.inj ex).1;have hx:=congrArg (λl=>l[j]?) e1;simp only[eC,hj,ie] at hx;have aa1:j<xs.length:=by
  have h1:=congrArg zq e1;simp only[b_] at h1;have:=(bE.1 hj).1;omega
 have h1:=hel j aBH;rw[br aa1,hc] at h1;rw[br aa1,ie] at hx;obtain⟨z,a1,a2,_⟩:=DataW.trod_int he h1;rw[a2] at hx;simp only[lG,DataW.lit.injEq,Lit.int.injEq,true_and] at hx;subst hx;have h2:=congrArg (λl=>l[0]?) a1;simpa using h2
def iface_of_trod{t:TypeId}{ms:Array (String×TypeId)}{fuel:Nat}{cs:List Value}{name:String}{d:DataW H}{p:List MemPlace}(ht:P.underlying t=some (.interface ms))
  (h:OH enc P W b sp false fuel t cs=some (.iface name d,p)):∃u v,cs=[.iface u v]:=by
 cases fuel with
 |zero=>cases h
 |succ fuel=>
  unfold OH at h;rw[ht] at h
  split at h<;>first|(cases h;done)|(rename_i q;cases q;done)|skip
  all_goals first|exact⟨_,_,rfl⟩|skip
  all_goals simp_all
end
open Go.Lib
def qz(n:Nat):List UInt8->Nat->Int
 |[],_=> -1
 |b::r,i=>match dc b.toNat n with
  |true=>.ofNat i
  |false=>qz n r (i+1)
def KV(b c:UInt8):dc b.toNat c.toNat=(b==c):=by
 rw[Bl,s3,beq_iff_eq];exact⟨λh=>UInt8.toNat_inj.1 h,λh=>by rw[h]⟩
def abD(c:UInt8):∀(l:List UInt8) (i:Nat),qz c.toNat l i=if indexByte l c= -1 then -1 else i+indexByte l c
 |[],i=>by simp[qz,indexByte]
 |b::r,i=>by
  have hge:=indexByte_ge r c;by_cases h:b=c;subst h;simp[qz,indexByte];have hb:(b==c)=false:=aCn
  rw[qz,KV,hb];simp only[indexByte,hb,iA,if_false,beq_iff_eq];rw[abD c r (i+1)];by_cases h2:indexByte r c= -1;simp[h2];rw[if_neg h2,if_neg h2,if_neg aBH];omega
def Sx(c:UInt8)(l:List UInt8):qz c.toNat l 0=indexByte l c:=by
 rw[abD];split;rename_i h;rw[h];simp
def gz(n:Nat):List UInt8->List (List UInt8)
 |[]=>[[]]
 |b::r=>match dc b.toNat n with
  |true=>[]::gz n r
  |false=>match gz n r with
   |[]=>[[b]]
   |h::t=>(b::h)::t
def axN(n:Nat)(l:List UInt8):∃h t,gz n l=h::t:=by
 cases l with
 |nil=>exact⟨_,_,rfl⟩
 |cons b r=>
  simp only[gz];split;exact⟨_,_,rfl⟩;split<;>exact⟨_,_,rfl⟩
def N6(c:UInt8):∀(l:List UInt8),indexByte l c= -1->gz c.toNat l=[l]/\l.count c=0
 |[],_=>⟨rfl,rfl⟩
 |b::r,h=>by
  simp only[indexByte] at h;have hge:=indexByte_ge r c;cases hb:b==c with
  |true=>rw[hb] at h;simp at h
  |false=>
   rw[hb] at h;simp only[iA,if_false,beq_iff_eq] at h;have h2:indexByte r c= -1:=by
    split at h
    assumption
    omega
   obtain⟨q1,ah⟩:=N6 c r h2;refine⟨?_,?_⟩;simp only[gz,KV,hb,q1];rw[aja,ah,hb];simp
def N5(c:UInt8):∀(l:List UInt8) (i:Nat),indexByte l c=i->gz c.toNat l=l.take i::gz c.toNat (l.drop (i+1))/\l.count c=(l.drop (i+1)).count c+1
 |[],i,h=>by simp only[indexByte] at h;omega
 |b::r,i,h=>by
  simp only[indexByte] at h;have hge:=indexByte_ge r c;cases hb:b==c with
  |true=>
   rw[hb] at h;simp at h;have hi:i=0:=aBH
   subst hi;refine⟨?_,?_⟩;simp only[gz,KV,hb];try simp;simp only[e5,x6,nk];rw[aja,hb];simp
  |false=>
   rw[hb] at h;simp only[iA,if_false,beq_iff_eq] at h;split at h;omega;cases i with
   |zero=>omega
   |succ i=>
    obtain⟨q1,ah⟩:=N5 c r i aBH;refine⟨?_,?_⟩;simp only[gz,KV,hb,q1];simp;rw[aja,ah,hb];simp
def U7(c:UInt8):∀(k:Nat) (l:List UInt8),k=l.count c->splitK [c] 0 k l=gz c.toNat l
 |0,l,h=>by
  have h1:indexByte l c= -1:=by
   rcases Int.lt_or_le (indexByte l c) 0 with q|q
   have:=indexByte_ge l c;omega;obtain⟨i,hi⟩:=mJ q;have:=(N5 c l i hi).2;omega
  rw[(N6 c l h1).1];rfl
 |k+1,l,h=>by
  unfold splitK;rw[index_one]
  rcases Int.lt_or_le (indexByte l c) 0 with q|q
  have h1:indexByte l c= -1:=by have:=indexByte_ge l c;omega
  have:=(N6 c l h1).2;omega;obtain⟨i,hi⟩:=mJ q;obtain⟨q1,ah⟩:=N5 c l i hi;rw[if_neg aBK,hi,q1];have e:(i:Int).toNat=i:=rfl;rw[e,rW];congr 1;exact U7 c k _ aBK
def jI:Nat->Nat->List UInt8
 |0,u=>[rY (48+u % 10)]
 |f+1,u=>match oY u 10 with
  |true=>[rY (48+u)]
  |false=>jI f (u/10)++[rY (48+u % 10)]
def YY:∀(f u:Nat),u<10^(f+1)->jI f u=decDigits u
 |0,u,h=>by
  have:u<10:=aCn
  rw[decDigits,dif_pos this,jI,Nat.mod_eq_of_lt this]
 |f+1,u,h=>by
  rw[jI,decDigits];cases hb:oY u 10 with
  |true=>
   have:u<10:=nT hb;rw[dif_pos this]
  |false=>
   have:¬u<10:=λq=>by rw[show oY u 10=true from Nat.ble_eq_true_of_le q] at hb;cases hb
   rw[dif_neg this,YY f (u/10) (by rw[Nat.pow_succ] at h;omega)]
section
variable{f:FuncId}{args:List U}{Q:U->Prop}
def cx(G:Cells)(P:Program)(f:FuncId)(args:List U)(Q:U->Prop):Prop:=
 Enters P f/\∀(C:Cells) (w:World) (args':List Value),O8 G C w->(∀b o v,C b o=some v->w.cell? ⟨b,o,none⟩=some v)->bY C [] [] args args'->
  Calls P f args'.toArray w λe w'=>∃r,Q r/\∃aC v',e=.returned v'/\(∀b o v,C b o=some v->aC b o=some v)/\(∀b o v,aC b o=some v->C b o=some v\/w.heap.size<=b)/\
   (∀b o v,aC b o=some v->w'.cell? ⟨b,o,none⟩=some v)/\Below w.heap.size w w'/\aI aC [] [] r v'
section
variable{G:Cells}{P:Program}
def cx.mono{Q':U->Prop}(h:cx G P f args Q)(hq:∀r,Q r->Q' r):cx G P f args Q':=
 ⟨h.1,λC w args' hg hc hr=>(h.2 C w args' hg hc hr).mono λe w' ⟨r,q,rest⟩=>⟨r,hq r q,rest⟩⟩
def ck.q{f:FuncId}{args:List U}{aQ:U}{Q:U->Prop}(h:ck G P f args aQ)(hq:Q aQ):cx G P f args Q:=
 ⟨h.1,λC w args' hg hc hr=>(h.2 C w args' hg hc hr).mono λe w' ⟨aC,v',a,b,c,d,e1,g,_⟩=>⟨aQ,hq,aC,v',a,b,c,d,e1,g⟩⟩
def aE.avB{tA:List U}{hp:List aa}{K:U->List aa->Prop}(h:cx G P f args Q)(hi:mN tA args)(hk:∀r,Q r->K r hp):aE G P f tA hp K:=
 ⟨h.1,λbase w0 C M w args' hs hr=>(h.2 C w args' ⟨hs.oH,hs.tab⟩ hs.ld (hi.rep hr)).mono λe w' ⟨r,q,aC,v',he,h1,h2,h3,hb,fN⟩=>by
  obtain⟨hle,cz⟩:=UP hs h1 h2 h3 hb;exact⟨aC,M,hp,r,v',hk r q,he,hle,cz,fN.mono le_nil⟩⟩
def cR(h:aE G P f args [] λr hp'=>∃n aQ,b9 hp' n r=some aQ/\Q aQ):cx G P f args Q:=
 ⟨h.1,λC w args' hg hc hr=>(h.2 w.heap.size ⟨w,C⟩ C [] w args' (ahf hg hc) hr).mono λe w' ⟨aC,M',hp',r,v',⟨n,aQ,hfz,hq⟩,he,hle,cz,fN⟩=>by
  refine⟨aQ,hq,λb o=>match aC b o with
   |some v=>some v
   |none=>if w.heap.size<=b then w'.cell? ⟨b,o,none⟩ else none,v',he,λb o v q=>?_,λb o v q=>?_,λb o v q=>?_,cz.below,?_⟩
  simp only[hle.C b o v q];dsimp only at q;split at q;rename_i u hu;cases q
  rcases cE b w.heap.size with hb|hb
  exact ay (cz.old b o v hu hb);exact ax hb;split at q;rename_i hb;exact ax hb;cases q;dsimp only at q;split at q;rename_i u hu;cases q;exact cz.ld b o v hu;split at q;exact q;cases q;refine LR (hp:=hp') (vj:=hp') (λb o v q=>by simp only[q]) (λk cs row L hk hM i c hc=>?_) (λ_ _ _ q=>q) hfz fN;obtain⟨h1,h2,h3,h4,h5,h6⟩:=cz.cells k cs row L hk hM;obtain⟨c',q1,ah⟩:=h3 i c hc;refine⟨c',?_,ah⟩;simp only[h5 i];rw[if_pos h1];exact q1⟩
def cx.of(h:∃r,Q r/\ck G P f args r):cx G P f args Q:=by
 obtain⟨r,q,h⟩:=h;exact h.q q
end
end
def Th:bI->Nat
 |.t n=>1<<<n
 |.c _=>0
def Ti:List bI->Nat
 |[]=>0
 |x::r=>(Th x).lor (Ti r)
def aeY:List Nat->Nat
 |[]=>0
 |n::r=>Kh (1<<<n) (aeY r)
def aeX(s d:Nat):Nat:=Nat.xor s (Nat.land s (1<<<d))
def at2(s t:Nat):Nat:=Nat.xor s (Nat.land s t)
def IQ:List aL->Nat->Nat
 |[],s=>s
 |o::r,s=>Kh (Kh (match o.dst with
  |some d=>aeX (IQ r s) d
  |none=>IQ r s) (Ti (yK o.ins))) (match o.guard with
  |some g=>1<<<g.1
  |none=>0)
def Tg(s:Nat):Nat->Nat->List Nat
 |0,_=>[]
 |k+1,i=>if dc (s>>>i) 0 then [] else if dc (Nat.land (s>>>i) 1) 1 then i::Tg s k (i+1) else Tg s k (i+1)
def AN(s:Nat):List Nat:=Tg s 1000 0
def Tf:List (Nat×Nat)->Nat->Nat
 |[],_=>0
 |(j,s)::r,k=>if dc j k then s else Tf r k
def Te:List (Nat×Nat)->Nat
 |[]=>0
 |(_,s)::r=>Kh s (Te r)
@[irreducible] def Oe (l:List Nat):U:=.v (.string ⟨(l.map rY).toArray⟩)
def ff:bI->bI
 |.c (.v (.string b))=>.c (Oe (b.data.toList.map Wn))
 |x=>x
def aed:U->U
 |.v (.string b)=>Oe (b.data.toList.map Wn)
 |x=>x
def AD:U->U
 |.agg l=>.agg (l.map aed)
 |x=>aed x
def asK:kK->kK
 |.mv x=>.mv (ff x)
 |.pick c a b=>.pick (ff c) (ff a) (ff b)
 |.alloc z=>.alloc (z.map AD)
 |.box x=>.box (ff x)
 |.build z ps=>.build (z.map AD) (ps.map λp=>(p.1,p.2.1,ff p.2.2))
 |.wL n vs=>.wL n (vs.map ff)
 |.st n p x=>.st n p (ff x)
 |.bin o x y=>.bin o (ff x) (ff y)
 |.b5 k x=>.b5 k (ff x)
 |.FF x=>.FF (ff x)
 |.Ec x=>.Ec (ff x)
 |.uu x a b=>.uu (ff x) (a.map ff) (b.map ff)
 |.slc n x a b c=>.slc n x (a.map ff) (b.map ff) (c.map ff)
 |.zY x i=>.zY (ff x) (ff i)
 |.oP x=>.oP (ff x)
 |.len x=>.len (ff x)
 |.app n b e s x=>.app n b e s (ff x)
 |.xB f a b=>.xB f (a.map ff) (b.map ff)
 |.tE n vs=>.tE n (vs.map ff)
 |.yq n b e s x=>.yq n b e s (ff x)
 |.xD n b e z l c=>.xD n b e (z.map AD) l c
 |.yU n b e z l c=>.yU n b e (z.map AD) l c
 |.yS t x=>.yS t (ff x)
 |.FQ t z ok x=>.FQ t (AD z) ok x
 |.qC m xs=>.qC m (xs.map ff)
 |.iter x=>.iter (ff x)
 |.AM x=>.AM (ff x)
 |.yP aH ks z ok m k=>.yP aH ks (AD z) ok m (ff k)
 |.ud aH ks m k x=>.ud aH ks m (ff k) (ff x)
 |.xA aH ks z m k=>.xA aH ks (AD z) m (ff k)
 |.wF t z=>.wF t (z.map AD)
 |.wJ b e s x=>.wJ b e s (ff x)
 |x=>x
def asJ:fK->fK
 |.op o=>.op (asK o)
 |.call f l=>.call f (l.map ff)
 |.lq f l=>.lq f (l.map ff)
 |.nu f l=>.nu f (l.map ff)
 |.lP x l=>.lP x (l.map ff)
 |.nv x l=>.nv x (l.map ff)
 |.mB f l r=>.mB f (l.map ff) r
 |.eW x=>.eW (ff x)
def MK(o:aL):aL:=⟨o.dst,o.guard,asJ o.ins⟩
def q7(al:Nat):jt->Nat->List (Nat×Nat)->Nat->cZ×Nat
 |.skip,o,_,_=>(.skip (AN (o.lor al)),o.lor al)
 |.lab,o,_,_=>(.lab (AN (o.lor al)),o.lor al)
 |.bad,_,_,_=>(.bad,al)
 |.region l,o,_,_=>(.region (l.map MK) (AN (o.lor al)),(IQ l (o.lor al)).lor al)
 |.oS ls,o,_,_=>(.oS (ls.map λl=>l.map MK) (AN (o.lor al)),ls.foldr (λl s=>((IQ l (o.lor al)).lor al).lor s) 0)
 |.oq l,o,_,_=>(.oq (l.map λp=>(MK p.1,p.2.map MK)) (AN (o.lor al)),(IQ (l.map (·.1)) (o.lor al)).lor al)
 |.seq a b,o,ex,rt=>match q7 al b o ex rt with
  |(b,m)=>match q7 al a m ex rt with
   |(a,i)=>(.seq a b,i)
 |.cond c a b,o,ex,rt=>match q7 al a o ex rt with
  |(a,i)=>match q7 al b o ex rt with
   |(b,j)=>(.cond (ff c) a b,(i.lor j).lor (Th c))
 |.block k a,o,ex,rt=>match q7 al a o ((k,o.lor al)::ex) rt with
  |(a,i)=>(.block k a,i)
 |.scope a,o,ex,rt=>match q7 al a o ex rt with
  |(a,i)=>(.scope a,i)
 |.loop a,o,ex,rt=>Ge (motive:=λ_=>Nat->cZ×Nat) (λl=>(.bad,l)) (λ_ go l=>match q7 al a l ex rt with
  |(x,i)=>if dc (i.lor l) l then(.loop x,l) else go (i.lor l)) 20 al
 |.exit k,_,ex,_=>(.exit k (AN (Tf ex k)),(Tf ex k).lor al)
 |.ret,_,_,rt=>(.ret (AN (rt.lor al)),rt.lor al)
 |.oQ x ps a b,o,ex,rt=>match q7 al b 0 (ex.map λp=>(p.1,0)) 0 with
  |(b,bi)=>match q7 al a bi (ex.map λp=>(p.1,0)) 0 with
   |(a,ake)=>(.oQ (ff x) ps a b (AN (((o.lor al).lor rt).lor (Te ex))),((((o.lor al).lor rt).lor (Te ex)).lor (Th x)).lor (at2 ake (aeY ps)))
def vE:List e7->Nat
 |[]=>0
 |.s t::r=>Kh (1<<<t) (vE r)
 |.c t _ _::r=>Kh (1<<<t) (vE r)
def A9(l:List Nat):Oe l=.v (.string ⟨(l.map rY).toArray⟩):=by rw[Oe]
structure js(P:Program)(f:FuncId) where
 e:jc
 ok:Gj P f e
 hm:P.follows .mixedOrders=true
def Z8(P:Program)(O:iP)(f:FuncId):Option (Nat×List e7×cZ):=match p4 P O f with
 |some ⟨n,rs,c⟩=>some (n,rs,(q7 0 c (vE rs) [] (vE rs)).1)
 |none=>none
def js.c{P:Program}{f:FuncId}(O:iP){n:Nat}{rs:List e7}{c:cZ}
 (_h:Z8 P O f=some (n,rs,c):=by conv=>lhs;reduce;simp only[Int.reduceOfNat,Int.reduceNegSucc,A9,List.map,UInt8.reduceOfNat])
 (T:p4 P O f=some ⟨n,rs,c.aW⟩:=by kernel_rfl) (k5:c.fits n=true:=by kernel_rfl) (hm:P.follows .mixedOrders=true:=by kernel_rfl):js P f:=⟨.plain n rs c,⟨⟨O,T⟩,k5⟩,hm⟩
def js.m{P:Program}{f:FuncId}(O:iP){n:Nat}{rs:List e7}{c:cZ}
 (_h:Z8 P O f=some (n,rs,c):=by conv=>lhs;reduce;simp only[Int.reduceOfNat,Int.reduceNegSucc,A9,List.map,UInt8.reduceOfNat])
 (T:p4 P O f=some ⟨n,rs,c.aW⟩:=by kernel_rfl) (k5:c.mU n true=true:=by kernel_rfl) (hm:P.follows .mixedOrders=true:=by kernel_rfl):js P f:=⟨.loops n rs c,⟨⟨O,T⟩,k5⟩,hm⟩
def UX:List aL->Nat
 |[]=>1000000
 |o::r=>match o.dst with
  |some d=>d
  |none=>UX r
def To:List Nat->Nat->Bool
 |[],_=>false
 |a::r,n=>if dc a n then true else To r n
def MS(P:Program):Nat->TypeId->List gI
 |0,_=>[]
 |d+1,t=>match P.underlying t with
  |some .bool=>[.b]
  |some (.int _)=>[.i]
  |some .string=>[.s]
  |some (.array n e)=>(dL n (MS P d e)).flatten
  |some (.struct fs)=>(fs.toList.map λf=>MS P d f.type).flatten
  |_=>[]
def Tm(P:Program)(t:TypeId):Option (Bool×List gI×U):=match P.underlying t with
 |some (.map kt et)=>match iN P kt,zc P et with
  |some aH,some z=>some (aH,MS P 12 kt,z)
  |_,_=>none
 |_=>none
def axF(P:Program)(ops:Array Oper)(o:Oper):Option aL:=match o.op with
 |.binOp op t x y _=>match P.underlying t with
  |some (.struct _)|some (.array _ _)=>match y9 ops o.guard,cH x,cH y with
   |some g,some x,some y=>some ⟨o.dst,g,.op (.El (MS P 12 t) (match op with|.eql=>false|_=>true) x y)⟩
   |_,_,_=>none
  |_=>ur P ops o
 |.lookup t m k ok=>match y9 ops o.guard,cH m,cH k,Tm P t with
  |some g,some m,some k,some (aH,ks,z)=>some ⟨o.dst,g,.op (.yP aH ks z ok m k)⟩
  |_,_,_,_=>none
 |.mapUpdate t m k x|.insert t m k x=>match y9 ops o.guard,cH m,cH k,cH x,Tm P t with
  |some g,some m,some k,some x,some (aH,ks,_)=>some ⟨o.dst,g,.op (.ud aH ks m k x)⟩
  |_,_,_,_,_=>none
 |.mapEntry t m k=>match y9 ops o.guard,cH m,cH k,Tm P t with
  |some g,some m,some k,some (aH,ks,z)=>some ⟨o.dst,g,.op (.xA aH ks z m k)⟩
  |_,_,_,_=>none
 |_=>ur P ops o
def ahq(P:Program)(ops:Array Oper):List Oper->Option (List aL)
 |[]=>some []
 |o::r=>match axF P ops o,ahq P ops r with
  |some s,some l=>some (s::l)
  |_,_=>none
def xL(P:Program)(pu:iP)(V W:List Nat):Code->Option jt
 |.skip=>some .skip
 |.region _ ops draw=>match ahq P ops ops.toList with
  |some l=>if To W (UX l) then some (.oq (lA true ops.toList (qD pu l))) else if To V (UX l) then some (.region (qD pu l)) else some (.region (l.map (xO pu)))
  |none=>none
 |.seq a b=>match xL P pu V W a,xL P pu V W b with
  |some x,some y=>some (.seq x y)
  |_,_=>none
 |.cond c a b=>match cH c,xL P pu V W a,xL P pu V W b with
  |some c,some x,some y=>some (.cond c x y)
  |_,_,_=>none
 |.block id a=>match xL P pu V W a with
  |some x=>some (.block id x)
  |none=>none
 |.loop a=>match xL P pu V W a with
  |some x=>some (.loop x)
  |none=>none
 |.exit id=>some (.exit id)
 |.ret=>some .ret
 |.rangeFunc g ps a b=>match cH g,xL P pu V W a,xL P pu V W b with
  |some x,some sa,some sb=>some (.oQ x ps.toList sa sb)
  |_,_,_=>none
 |.scope a=>match xL P pu V W a with
  |some x=>some (.scope x)
  |none=>none
 |.label _=>some .lab
 |.goto _=>some .bad
 |.refuse _=>some .bad
def LS(P:Program)(O:iP)(V W:List Nat)(f:FuncId):Option (Nat×List e7×cZ):=match P.funcs[f]? with
 |some fn=>match fn.body with
  |some c=>match xL P O V W c,A4 P fn.results.toList with
   |some sc,some rs=>some (fn.ntmps,rs,(q7 0 sc (vE rs) [] (vE rs)).1)
   |_,_=>none
  |none=>none
 |none=>none
def js.u{P:Program}{f:FuncId}(O:iP)(V W:List Nat){n:Nat}{rs:List e7}{c:cZ}
 (_h:LS P O V W f=some (n,rs,c):=by conv=>lhs;reduce;simp only[Int.reduceOfNat,Int.reduceNegSucc,A9,List.map,UInt8.reduceOfNat])
 (T:p4 P O f=some ⟨n,rs,c.aW⟩:=by kernel_rfl) (k5:c.fits n=true:=by kernel_rfl) (hm:P.follows .mixedOrders=true:=by kernel_rfl):js P f:=⟨.plain n rs c,⟨⟨O,T⟩,k5⟩,hm⟩
def js.v{P:Program}{f:FuncId}(O:iP)(V W:List Nat){n:Nat}{rs:List e7}{c:cZ}
 (_h:LS P O V W f=some (n,rs,c):=by conv=>lhs;reduce;simp only[Int.reduceOfNat,Int.reduceNegSucc,A9,List.map,UInt8.reduceOfNat])
 (T:p4 P O f=some ⟨n,rs,c.aW⟩:=by kernel_rfl) (k5:c.mU n true=true:=by kernel_rfl) (hm:P.follows .mixedOrders=true:=by kernel_rfl):js P f:=⟨.loops n rs c,⟨⟨O,T⟩,k5⟩,hm⟩
def js.p{P:Program}{f:FuncId}(O:iP){n:Nat}{rs:List e7}{c:cZ}(_h:LS P O [] [] f=some (n,rs,c):=by conv=>lhs;reduce;simp only[Int.reduceOfNat,Int.reduceNegSucc,A9,List.map,UInt8.reduceOfNat])
 (T:p4 P O f=some ⟨n,rs,c.aW⟩:=by kernel_rfl) (k5:c.fits n=true:=by kernel_rfl) (hm:P.follows .mixedOrders=true:=by kernel_rfl):js P f:=⟨.plain n rs c,⟨⟨O,T⟩,k5⟩,hm⟩
def js.l{P:Program}{f:FuncId}(O:iP){n:Nat}{rs:List e7}{c:cZ}(_h:LS P O [] [] f=some (n,rs,c):=by conv=>lhs;reduce;simp only[Int.reduceOfNat,Int.reduceNegSucc,A9,List.map,UInt8.reduceOfNat])
 (T:p4 P O f=some ⟨n,rs,c.aW⟩:=by kernel_rfl) (k5:c.mU n true=true:=by kernel_rfl) (hm:P.follows .mixedOrders=true:=by kernel_rfl):js P f:=⟨.loops n rs c,⟨⟨O,T⟩,k5⟩,hm⟩
def js.x{P:Program}{f:FuncId}(O:iP)(n:Nat)(rs:List e7)(c:cZ)
 (T:p4 P O f=some ⟨n,rs,c.aW⟩:=by kernel_rfl) (k5:c.fits n=true:=by kernel_rfl) (hm:P.follows .mixedOrders=true:=by kernel_rfl):js P f:=⟨.plain n rs c,⟨⟨O,T⟩,k5⟩,hm⟩
def am6(P:Program)(O:iP)(f:FuncId):Option (Nat×List e7×cZ×Nat×FuncId×List bI×cZ):=match FM P O f with
 |some ⟨n,rs,a,t,g,caps,b⟩=>match q7 (vE rs) b (vE rs) [] (vE rs) with
  |(b,i)=>some (n,rs,(q7 (vE rs) a ((aeX i t).lor (Ti caps)) [] (vE rs)).1,t,g,caps,b)
 |none=>none
def js.d{P:Program}{f:FuncId}(O:iP){n:Nat}{rs:List e7}{a b:cZ}{t:Nat}{g:FuncId}{caps:List bI}
 (_h:am6 P O f=some (n,rs,a,t,g,caps,b):=by conv=>lhs;reduce;simp only[Int.reduceOfNat,Int.reduceNegSucc,A9,List.map,UInt8.reduceOfNat])
 (T:FM P O f=some ⟨n,rs,a.aW,t,g,caps,b.aW⟩:=by kernel_rfl) (k5:(a.fits n&&b.fits n&&oY t n)=true:=by kernel_rfl) (hm:P.follows .mixedOrders=true:=by kernel_rfl):js P f:=⟨.oE n rs a t g caps b,⟨⟨O,T⟩,by
 rw[dY,dY] at k5;exact⟨k5.1.1,k5.1.2,ajr (nT k5.2)⟩⟩,hm⟩
def am7(P:Program)(O:iP)(f:FuncId):Option (Nat×Nat×Nat×cZ):=match FN P O f with
 |some ⟨n,d0,d1,c⟩=>some (n,d0,d1,(q7 0 c 0 [] 0).1)
 |none=>none
def js.r{P:Program}{f:FuncId}(O:iP){n d0 d1:Nat}{c:cZ}
 (_h:am7 P O f=some (n,d0,d1,c):=by conv=>lhs;reduce;simp only[Int.reduceOfNat,Int.reduceNegSucc,A9,List.map,UInt8.reduceOfNat])
 (T:FN P O f=some ⟨n,d0,d1,c.aW⟩:=by kernel_rfl) (k5:(c.fits n&&oY d0 n&&oY d1 n)=true:=by kernel_rfl) (hm:P.follows .mixedOrders=true:=by kernel_rfl):js P f:=⟨.Db n d0 d1 c,⟨⟨O,T⟩,by
 rw[dY,dY] at k5;exact⟨k5.1.1,ajr (nT k5.1.2),ajr (nT k5.2)⟩⟩,hm⟩
def jc.bc:jc->cZ
 |.oE _ _ _ _ _ _ b=>b
 |_=>.bad
def Ri(G:Cells)(P:Program)(args:List U)(hp:List aa)(K:U->List aa->Prop)(E:kq)(e0:jc):jc->Prop
 |.plain n rs c=>args.length<=n/\@cF G P false c ⟨@Fy rs ⟨K⟩ ⟨E⟩⟩ (mS 0 args) hp
 |.loops n rs c=>args.length<=n/\@cF G P false c ⟨@NM hp.length rs ⟨K⟩ ⟨E⟩⟩ (mS 0 args) hp
 |.oE n rs a t g caps b=>(∀ch h,¬E ch h)/\args.length<=n/\@cF G P false a ⟨@p5 ⟨λe hp=>∃ks:List Nat,k_ e caps=some (ks.map λk=>.mp k 0)/\@cF G P false e0.bc ⟨@agu G P g ks rs ⟨K⟩⟩ ((t,.fn (.func g) [] (ks.map λk=>.mp k 0))::e) hp⟩ ⟨λ_ _ _=>False⟩⟩ (mS 0 args) hp
 |_=>False
section
variable{G:Cells}{P:Program}{f:FuncId}{args:List U}{hp:List aa}{K:U->List aa->Prop}{E:kq}
def aah(k:js P f)(h:Ri G P args hp K E k.e k.e):fI G P f args hp K E:=by
 obtain⟨e,ok,hm⟩:=k;cases e with
 |plain n rs c=>exact ZL hm ok.1.choose_spec ok.2 h.1 h.2
 |loops n rs c=>exact ZM hm ok.1.choose_spec ok.2 h.1 h.2
 |oE n rs a t g caps b=>exact Bn (ZK hm ok.1.choose_spec ok.2.1 ok.2.2.1 ok.2.2.2 h.2.1 h.2.2)
 |_=>exact h.elim
def js.w5(k:js P f){q:Prop}(h:q)(e:q->Ri G P args hp K E k.e k.e:=by
 intro hh
 conv=>whnf
 first|exact⟨Nat.le_of_ble_eq_true rfl,hh⟩|exact⟨λ_ _ z=>z,Nat.le_of_ble_eq_true rfl,hh⟩):fI G P f args hp K E:=aah k (e h)
def js.go(k:js P f){q:Prop}(h:q)(e:q->Ri G P args hp K (λ_ _=>False) k.e k.e:=by
 intro hh
 conv=>whnf
 first|exact⟨Nat.le_of_ble_eq_true rfl,hh⟩|exact⟨λ_ _ z=>z,Nat.le_of_ble_eq_true rfl,hh⟩):aE G P f args hp K:=(aah k (e h)).ok
def YR(G:Cells)(P:Program)(args:List U)(hp:List aa)(x:Option U)(K:List aa->Prop):jc->Prop
 |.Db n d0 d1 c=>args.length<=n/\@cF G P false c ⟨@agy ⟨K⟩⟩ ((d1,nL x)::(d0,nL x)::mS 0 args) hp
 |_=>False
def al3{x:Option U}{v:Option Value}{K:List aa->Prop}(k:js P f)(hx:match x,v with|none,none=>True|some x,some v=>uj x=true/\oD x=some v|_,_=>False)(h:YR G P args hp x K k.e):jb G P f args hp v K:=by
 obtain⟨e,ok,hm⟩:=k;cases e with
 |Db n d0 d1 c=>exact YS hm ok.1.choose_spec ok.2.1 ok.2.2 h.1 hx h.2
 |_=>exact h.elim
def js.Lo{x:Option U}{v:Option Value}{K:List aa->Prop}(k:js P f)(hx:match x,v with|none,none=>True|some x,some v=>uj x=true/\oD x=some v|_,_=>False){q:Prop}(h:q)(e:q->YR G P args hp x K k.e:=by
 intro hh
 conv=>whnf
 exact⟨Nat.le_of_ble_eq_true rfl,hh⟩):jb G P f args hp v K:=al3 k hx (e h)
end
def cZ.tl:cZ->cZ
 |.seq _ b=>b
 |c=>c
def jc.c:jc->cZ
 |.plain _ _ c|.loops _ _ c=>c
 |_=>.bad
inductive zF(P:Program) where
 |nil
 |node (l:zF P) (k:FuncId) (c:js P k) (m:Nat) (r:zF P)
def zF.rP{P:Program}:zF P->nX
 |.nil=>.nil
 |.node l k c m r=>.node l.rP k c.e m r.rP
def zF.ok{P:Program}:∀t:zF P,t.rP.cA P
 |.nil=>trivial
 |.node l _ c _ r=>⟨l.ok,c.ok,r.ok⟩
section
variable{x y:U}{xs ys:List U}
def aX(hp:List aa)(x y:U):Prop:=∃n0,∀n,n0<=n->b9 hp n x=some y
def dD(hp:List aa)(xs ys:List U):Prop:=∃n0,∀n,n0<=n->iu (b9 hp n) xs=some ys
section
variable{hp:List aa}
def aX.done(h:aX hp x y):∃n,b9 hp n x=some y:=by
 obtain⟨n,h⟩:=h;exact⟨n,h n (bl n)⟩
def aX.al_(h:aX hp x y):∃n aQ,b9 hp n x=some aQ/\aQ=y:=by
 obtain⟨n,h⟩:=h.done;exact⟨n,y,h,rfl⟩
def w4(h:∃n0,∀n,n0<=n->b9 hp (n+1) x=some y):aX hp x y:=by
 obtain⟨n0,h⟩:=h;refine⟨n0+1,λn hn=>?_⟩;obtain⟨m,rfl⟩:∃m,n=m+1:=⟨n-1,aBH⟩;exact h m aBH
def dD.nil:dD hp [] []:=⟨0,λn _=>rfl⟩
def dD.cons{x y:U}{xs ys:List U}(h:aX hp x y)(k:dD hp xs ys):dD hp (x::xs) (y::ys):=by
 obtain⟨n0,h⟩:=h;obtain⟨n1,k⟩:=k;exact⟨n0+n1,λn hn=>by simp only[iu,h n aBH,k n aBH]⟩
def dD.append{xs' ys':List U}(h:dD hp xs ys)(k:dD hp xs' ys'):dD hp (xs++xs') (ys++ys'):=by
 induction xs generalizing ys with
 |nil=>
  obtain⟨n0,h⟩:=h;have:=h n0 (bl _);cases this;exact k
 |cons x xs ih=>
  obtain⟨n0,h⟩:=h;have h0:=h n0 (bl _);simp only[iu] at h0;split at h0;rename_i y hy;split at h0
  · rename_i l hl
    cases h0;refine dD.cons ⟨n0,λn hn=>?_⟩ (ih ⟨n0,λn hn=>?_⟩)
    all_goals
     have h1:=h n hn;simp only[iu] at h1;split at h1;rename_i y' hy';split at h1;rename_i l' hl';cases h1
     first|exact hy'|exact hl'
     cases h1;cases h1
  cases h0;cases h0
def dD.map{α:Type}{f:α->U}:∀{l:List α},(∀a∈l,aX hp (f a) (f a))->dD hp (l.map f) (l.map f)
 |[],_=>dD.nil
 |a::l,h=>dD.cons (h a aBI) (dD.map λb hb=>h b aDb)
def dD.each{l:List U}(h:∀a∈l,aX hp a a):dD hp l l:=by
 have:=dD.map (hp:=hp) (f:=λa=>a) (l:=l) h;simpa using this
def aX.v(x:Value):aX hp (.v x) (.v x):=w4 ⟨0,λn _=>rfl⟩
def aX.af:aX hp .af .af:=w4 ⟨0,λn _=>rfl⟩
def aX.agg{xs ys:List U}(h:dD hp xs ys):aX hp (.agg xs) (.agg ys):=by
 obtain⟨n0,h⟩:=h;exact w4 ⟨n0,λn hn=>by show(iu (b9 hp n) xs).map bT=_;rw[h n hn];rfl⟩
def aX.aK(h:dD hp xs ys):aX hp (.aK xs) (.aK ys):=by
 obtain⟨n0,h⟩:=h;exact w4 ⟨n0,λn hn=>by show(iu (b9 hp n) xs).map U.aK=_;rw[h n hn];rfl⟩
def aX.sl{xs ys:List U}{t:iD}(h:dD hp xs ys):aX hp (.sl xs t) (.sl ys .no):=by
 obtain⟨n0,h⟩:=h;exact w4 ⟨n0,λn hn=>by show(iu (b9 hp n) xs).map (λys=>U.sl ys .no)=_;rw[h n hn];rfl⟩
def aX.fp{o:Nat}(h:dD hp xs ys):aX hp (.fp xs o) (.fp ys o):=by
 obtain⟨n0,h⟩:=h;exact w4 ⟨n0,λn hn=>by show(iu (b9 hp n) xs).map (λys=>U.fp ys o)=_;rw[h n hn];rfl⟩
def aX.cQ{t:TypeId}(h:aX hp x y):aX hp (.cQ t x) (.cQ t y):=by
 obtain⟨n0,h⟩:=h;exact w4 ⟨n0,λn hn=>by show(b9 hp n x).map (U.cQ t)=_;rw[h n hn];rfl⟩
def aX.mp{k o:Nat}{xs ys:List U}(hk:hp[k]?=some (.cells xs false))(h:dD hp xs ys):aX hp (.mp k o) (.fp ys o):=by
 obtain⟨n0,h⟩:=h;exact w4 ⟨n0,λn hn=>by simp only[b9,hk,h n hn,ie]⟩
def aX.rs{k m sz o len:Nat}{xs ys:List U}(hk:hp[k]?=some (.cells xs true))(hm:m=xs.length)(h:dD hp xs ys):aX hp (.rs k m sz o len) (.sl (chunks sz ys o len) .no):=by
 obtain⟨n0,h⟩:=h;exact w4 ⟨n0,λn hn=>aDY⟩
def aX.rp{k m o:Nat}{xs ys:List U}(hk:hp[k]?=some (.cells xs true))(hm:m=xs.length)(h:dD hp xs ys):aX hp (.rp k m o) (.fp ys o):=by
 obtain⟨n0,h⟩:=h;exact w4 ⟨n0,λn hn=>aDY⟩
end
def BT{cs:List U}{off:Nat}(h:∀c∈cs,Clean c):Clean (.fp cs off):=λC M hp v hr=>by
 cases hr with
 |fp f hC hR=>exact .fp f hC λi c hc=>h c (bG hc) _ _ _ _ (hR i c hc)
def Ei:Nat->U->Bool
 |0,_=>false
 |n+1,x=>match x with
  |.v _=>true
  |.af=>true
  |.agg cs=>cs.all (Ei n)
  |.aK cs=>cs.all (Ei n)
  |.fp cs _=>cs.all (Ei n)
  |.sl xs .no=>xs.all λx=>x.cells.all (Ei n)
  |_=>false
def BV:∀{n:Nat} {x:U},Ei n x=true->Clean x
 |0,x,h=>aB1
 |n+1,x,h=>by
  unfold Ei at h;split at h;exact bM _;exact mg;exact Eg λc hc=>BV (c_.1 h c hc);exact alz λc hc=>BV (c_.1 h c hc);exact BT λc hc=>BV (c_.1 h c hc);exact jZ λx hx c hc=>BV (c_.1 (c_.1 h x hx) c hc);cases h
end
def jA{i:Nat}(h:i<4611686018427387904):b7.wrap ((i:Int)+1)=((i+1:Nat):Int):=by rw[wrap_i64 aBH aBH];rfl
def aiA{i:Nat}(h:i<4611686018427387904):b7.wrap ((i:Int)+2)=((i+2:Nat):Int):=by rw[wrap_i64 aBH aBH];rfl
def F1{i:Nat}(h:1<=i)(h2:i<4611686018427387904):b7.wrap ((i:Int)-1)=((i-1:Nat):Int):=by rw[wrap_i64 aBH aBH];omega
def aiB{i j:Nat}(h:i<4611686018427387904)(h2:j<4611686018427387904):b7.wrap ((i:Int)+(j:Int))=((i+j:Nat):Int):=by rw[wrap_i64 aBH aBH];rfl
def aiC{i j:Nat}(h:j<=i)(h2:i<4611686018427387904):b7.wrap ((i:Int)-(j:Int))=((i-j:Nat):Int):=by rw[wrap_i64 aBH aBH];omega
def G6{i n:Nat}(h:i<n):decide ((i:Int)<(n:Int))=true:=aBK
def G5{i n:Nat}(h:n<=i):decide ((i:Int)<(n:Int))=false:=aBK
def Y0{i n:Nat}(h:i<=n):decide ((i:Int)<=(n:Int))=true:=aBK
def YZ{i n:Nat}(h:n<i):decide ((i:Int)<=(n:Int))=false:=aBK
def P2{i n:Nat}(h:i=n):((i:Int)==(n:Int))=true:=by simp[h]
def KU{i n:Nat}(h:i≠n):((i:Int)==(n:Int))=false:=aBK
def XX{i n:Nat}(h:i≠n):((i:Int) !=(n:Int))=true:=aBK
def XW{i n:Nat}(h:i=n):((i:Int) !=(n:Int))=false:=by simp[h]
def Vp(b:Bool):BO .not (.v (.bool b))=some (.v (.bool !b)):=rfl
def LA(a b:U):nY 0 (.aK [a,b])=some a:=rfl
def LB(a b:U):nY 1 (.aK [a,b])=some b:=rfl
def Zm(a b c:U):nY 0 (.aK [a,b,c])=some a:=rfl
def Zn(a b c:U):nY 1 (.aK [a,b,c])=some b:=rfl
def Zo(a b c:U):nY 2 (.aK [a,b,c])=some c:=rfl
def tN(x:U)(hp:List aa):aq hp false 1 (.fp [x] 0)=some x:=rfl
def Uc(cs:List U)(o:Nat)(neg:Bool):oC .ptr neg (.fp cs o) (.v (.pointer none))=some (.v (.bool neg)):=aCV
def Ud(k o:Nat)(neg:Bool):oC .ptr neg (.mp k o) (.v (.pointer none))=some (.v (.bool neg)):=aCV
def af6(neg:Bool):oC .ptr neg (.v (.pointer none)) (.v (.pointer none))=some (.v (.bool !neg)):=aCV
def kN(n:Int):goInt n=.int .i64 n:=rfl
def ov:type_of% @b_.{0,0}/\type_of% @jA/\type_of% @aiA/\type_of% @F1/\type_of% @aiB/\type_of% @aiC/\type_of% @G6/\type_of% @G5/\type_of% @Y0/\type_of% @YZ/\type_of% @P2/\type_of% @KU/\type_of% @XX/\type_of% @XW/\type_of% @Vp/\
  type_of% @LA/\type_of% @LB/\type_of% @Zm/\type_of% @Zn/\type_of% @Zo/\type_of% @tN/\type_of% @Uc/\type_of% @Ud/\type_of% @af6/\type_of% @kN/\type_of% @vU/\type_of% @rS/\type_of% @Kl/\type_of% @Kk:=
 ⟨@b_.{0,0},@jA,@aiA,@F1,@aiB,@aiC,@G6,@G5,@Y0,@YZ,@P2,@KU,@XX,@XW,@Vp,@LA,@LB,@Zm,@Zn,@Zo,@tN,@Uc,@Ud,@af6,@kN,@vU,@rS,@Kl,@Kk⟩
def dP{p q:Prop}(h:q)(e:q->p:=by intro hh;simp -failIfUnchanged -implicitDefEqProofs (disch:=first|assumption|decide|omega) only[gQ,lY,lZ,↓reduceIte,Nat.reduceEqDiff,Nat.reduceAdd,Nat.reduceLT,Nat.reduceLeDiff,ov,Int.reduceBEq,Int.reduceBNe];exact hh):p:=e h
def di{p q a0:Prop}(x0:a0)(h:q)(e:a0->q->p:=by intro f0 hh;simp -failIfUnchanged -implicitDefEqProofs (disch:=first|assumption|decide|omega) only[gQ,lY,lZ,↓reduceIte,Nat.reduceEqDiff,Nat.reduceAdd,Nat.reduceLT,Nat.reduceLeDiff,ov,Int.reduceBEq,Int.reduceBNe,f0];exact hh):p:=e x0 h
def kE{p q a b:Prop}(x:a)(y:b)(h:q)(e:a/\b->q->p:=by intro f h;exact di f h):p:=e ⟨x,y⟩ h
def fB{p q a b c:Prop}(x:a)(y:b)(z:c)(h:q)(e:a/\b/\c->q->p:=by intro f h;exact di f h):p:=e ⟨x,y,z⟩ h
def kf{p q a b c d:Prop}(x:a)(y:b)(z:c)(u:d)(h:q)(e:a/\b/\c/\d->q->p:=by intro f h;exact di f h):p:=e ⟨x,y,z,u⟩ h
def nP{p q a b c d f:Prop}(x:a)(y:b)(z:c)(u:d)(v:f)(h:q)(e:a/\b/\c/\d/\f->q->p:=by intro f h;exact di f h):p:=e ⟨x,y,z,u,v⟩ h
def zd{p q a b c d f g:Prop}(x:a)(y:b)(z:c)(u:d)(v:f)(w:g)(h:q)(e:a/\b/\c/\d/\f/\g->q->p:=by intro f h;exact di f h):p:=e ⟨x,y,z,u,v,w⟩ h
def lB{p q a b c d f g i:Prop}(x:a)(y:b)(z:c)(u:d)(v:f)(w:g)(r:i)(h:q)(e:a/\b/\c/\d/\f/\g/\i->q->p:=by intro f h;exact di f h):p:=e ⟨x,y,z,u,v,w,r⟩ h
def F0{p q a b c d f g i j:Prop}(x:a)(y:b)(z:c)(u:d)(v:f)(w:g)(r:i)(s:j)(h:q)(e:a/\b/\c/\d/\f/\g/\i/\j->q->p:=by intro f h;exact di f h):p:=e ⟨x,y,z,u,v,w,r,s⟩ h
def p9{p q a b c d f g i j k:Prop}(x:a)(y:b)(z:c)(u:d)(v:f)(w:g)(r:i)(s:j)(t:k)(h:q)(e:a/\b/\c/\d/\f/\g/\i/\j/\k->q->p:=by intro f h;exact di f h):p:=e ⟨x,y,z,u,v,w,r,s,t⟩ h
section
variable{l:List UInt8}{i j:Nat}{α:Type}
def ai(l:List UInt8):U:=.v (.string ⟨⟨l⟩⟩)
def PX(l:List UInt8):(⟨⟨l⟩⟩:ByteArray).toList=l:=aBI
def akJ(l:List UInt8)(i:Nat):(⟨⟨l⟩⟩:ByteArray)[i]?=l[i]? :=by
 rcases cE i l.length with h|h
 rw[br h];exact getElem?_pos (⟨⟨l⟩⟩:ByteArray) i h;rw[hG h];exact getElem?_neg (⟨⟨l⟩⟩:ByteArray) i (by show¬i<l.length;omega)
@[go_sem]def mj(a b:List UInt8):ct .eql (ai a) (ai b)=some (.v (.bool (a==b))):=by
 simp only[ai,ct,FI,PX,ie]
@[go_sem]def vt(a b:List UInt8):ct .neq (ai a) (ai b)=some (.v (.bool !(a==b))):=by
 simp only[ai,ct,FI,PX,ie]
@[go_sem]def r9{a b:List UInt8}(h:a.length+b.length<=4611686018427387904):ct .add (ai a) (ai b)=some (ai (a++b)):=by
 have e:(⟨⟨a⟩⟩:ByteArray)++⟨⟨b⟩⟩=⟨⟨a++b⟩⟩:=by apply VK;simp
 have h2:¬(((⟨⟨a⟩⟩:ByteArray).size+(⟨⟨b⟩⟩:ByteArray).size:Nat):Int)>b7.max:=by
  show¬((a.length+b.length:Nat):Int)>9223372036854775807;omega
 simp only[ai,ct,FI];rw[if_neg h2,e];rfl
@[go_sem]def Yp{c:UInt8}{k:IntKind}(h:l[i]?=some c):tv (ai l) (.v (.int k (i:Int)))=some (.v (.int .u8 (c.toNat:Int))):=by
 simp only[ai,tv];rw[if_pos aBH,uG,akJ,h];rfl
@[go_sem]def uc(l:List UInt8)(hp:List aa):oP (ai l) hp=some (.v (.int .i64 (l.length:Int)),hp):=rfl
@[go_sem]def Ln(h:i<=j)(h2:j<=l.length)(hp:List aa):Dq (ai l) (some (.v (.int .i64 (i:Int)))) (some (.v (.int .i64 (j:Int)))) hp=some (ai ((l.take j).drop i),hp):=by
 have e:(⟨⟨l⟩⟩:ByteArray).extract i j=⟨⟨(l.take j).drop i⟩⟩:=by
  apply VK;simp[List.drop_take]
 have hb:kz l.length l.length (some (i:Int)) (some (j:Int)) none=some (i,j,l.length):=by
  simp only[kz,iG,ya,zj,iA,if_false];rw[if_pos ⟨aBH,aBH⟩];dsimp only;rw[if_pos ⟨aBH,aBH⟩];simp
 show DN (λr=>(r,hp)) (kM 0 (.v (.string ⟨⟨l⟩⟩)) (some (.v (.int .i64 (i:Int)))) (some (.v (.int .i64 (j:Int)))) none)=_;have oL:∀n:Int,mA (some (.v (.int .i64 n)))=some (some n):=λn=>rfl;have oM:mA none=some none:=rfl;unfold kM;rw[oL,oL,oM];dsimp only;rw[if_neg aBI,show(⟨⟨l⟩⟩:ByteArray).size=l.length from rfl,hb];dsimp only;rw[e];rfl
@[go_sem]def Qp(h:i<=l.length)(hp:List aa):Dq (ai l) (some (.v (.int .i64 (i:Int)))) none hp=some (ai (l.drop i),hp):=by
 have e:(⟨⟨l⟩⟩:ByteArray).extract i l.length=⟨⟨l.drop i⟩⟩:=by
  apply VK;simp;rw[kG aBI]
 have hb:kz l.length l.length (some (i:Int)) none none=some (i,l.length,l.length):=by
  simp only[kz,iG,ya,zj,iA,if_false];rw[if_pos ⟨aBH,aBH⟩];simp
 show DN (λr=>(r,hp)) (kM 0 (.v (.string ⟨⟨l⟩⟩)) (some (.v (.int .i64 (i:Int)))) none none)=_;have oL:∀n:Int,mA (some (.v (.int .i64 n)))=some (some n):=λn=>rfl;have oM:mA none=some none:=rfl;unfold kM;rw[oL,oM];dsimp only;rw[if_neg aBI,show(⟨⟨l⟩⟩:ByteArray).size=l.length from rfl,hb];dsimp only;rw[e];rfl
@[go_sem]def Lm(h:j<=l.length)(hp:List aa):Dq (ai l) none (some (.v (.int .i64 (j:Int)))) hp=some (ai (l.take j),hp):=by
 have e:(⟨⟨l⟩⟩:ByteArray).extract 0 j=⟨⟨l.take j⟩⟩:=by
  apply VK;simp
 have hb:kz l.length l.length none (some (j:Int)) none=some (0,j,l.length):=by
  simp only[kz,iG,ya,zj,iA,if_false];rw[if_pos ⟨aBH,aBH⟩];simp
 show DN (λr=>(r,hp)) (kM 0 (.v (.string ⟨⟨l⟩⟩)) none (some (.v (.int .i64 (j:Int)))) none)=_;have oL:∀n:Int,mA (some (.v (.int .i64 n)))=some (some n):=λn=>rfl;have oM:mA none=some none:=rfl;unfold kM;rw[oL,oM];dsimp only;rw[if_neg aBI,show(⟨⟨l⟩⟩:ByteArray).size=l.length from rfl,hb];dsimp only;rw[e];rfl
def ayn(len l h m:Nat):A_ .no len l h m false=.no:=by
 unfold A_;rw[if_neg aBI];split;split<;>rfl;rfl
section
variable{xs:List U}{n:Nat}
@[go_sem]def US{lo hi:Option U}{l' h':Option Int}(h1:mA lo=some l')(h2:mA hi=some h')(hb:kz xs.length xs.length l' h' none=some (i,j,xs.length))(ho:∀x∈xs,x.cells.length=n)(hp:List aa):
  p0 n (.sl xs .no) lo hi none hp=some (.sl ((xs.take j).drop i) .no,hp):=by
 have hall:(xs.all λx=>x.cells.length==n)=true:=by
  rw[c_];intro x hx;simpa using ho x hx
 show DN (λr=>(r,hp)) (kM n (.sl xs .no) lo hi none)=_;have oM:mA none=some none:=rfl;unfold kM;rw[h1,h2,oM];dsimp only;rw[hb];dsimp only;rw[if_pos hall,show(none:Option Int).isSome=false from rfl,ayn];rfl
@[go_sem]def ahj(h:j<=xs.length)(ho:∀x∈xs,x.cells.length=n)(hp:List aa):p0 n (.sl xs .no) none (some (.v (.int .i64 (j:Int)))) none hp=some (.sl (xs.take j) .no,hp):=by
 have hb:kz xs.length xs.length none (some (j:Int)) none=some (0,j,xs.length):=by
  simp only[kz,iG,ya,zj,iA,if_false];rw[if_pos ⟨aBH,aBH⟩];simp
 exact US rfl rfl hb ho hp
@[go_sem]def NY(h:i<=xs.length)(ho:∀x∈xs,x.cells.length=n)(hp:List aa):p0 n (.sl xs .no) (some (.v (.int .i64 (i:Int)))) none none hp=some (.sl (xs.drop i) .no,hp):=by
 have hb:kz xs.length xs.length (some (i:Int)) none none=some (i,xs.length,xs.length):=by
  simp only[kz,iG,ya,zj,iA,if_false];rw[if_pos ⟨aBH,aBH⟩];simp
 have:=US (xs:=xs) (n:=n) (lo:=some (.v (.int .i64 (i:Int)))) (hi:=none) rfl rfl hb ho hp;rw[rV] at this;exact this
end
def Og{l:List (List UInt8)}:∀x∈l.map ai,x.cells.length=1:=λx hx=>by
 obtain⟨a,_,rfl⟩:=cO.1 hx;rfl
def B2{α:Type}(p:α->Bool)(l:List α):Int:=if l.any p then(l.findIdx p:Int) else -1
def amL{p:α->Bool}{l:List α}{a:α}(h:l[i]?=some a)(hp:p a=true)(hI:∀j b,j<i->l[j]?=some b->p b=false):B2 p l=(i:Int):=by
 have hi:=(bE.1 h).1;have ha:l.any p=true:=F7.2 ⟨a,bG h,hp⟩;unfold B2;rw[if_pos ha,(List.findIdx_eq hi).2 ⟨?_,λj hj=>?_⟩];rw[br hi] at h;cases h;exact hp;exact hI j _ hj (br aBH)
def amM{p:α->Bool}{l:List α}(hI:∀j b,j<l.length->l[j]?=some b->p b=false):B2 p l= -1:=by
 have ha:l.any p=false:=by
  rw[List.any_eq_false];intro a ha;obtain⟨j,hj,rfl⟩:=DJ ha;simp[hI j _ hj (br hj)]
 unfold B2;rw[ha];rfl
def amN(p:α->Bool)(l:List α):decide (0<=B2 p l)=l.any p:=by
 unfold B2;cases l.any p<;>simp
end
instance:Coe Int U:=⟨λn=>.v (.int .i64 n)⟩
instance:Coe Nat U:=⟨λn=>.v (.int .i64 (n:Int))⟩
instance:Coe Bool U:=⟨λb=>.v (.bool b)⟩
end Go.aJ

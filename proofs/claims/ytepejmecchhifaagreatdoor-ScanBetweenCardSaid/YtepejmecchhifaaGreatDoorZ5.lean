/- Part 5 of a proof. No condition. -/
import Derived.Test.YtepejmecchhifaaGreatDoorZ4
import Derived.Sort.Grow
import Derived.Deep.Draws
import Derived.Shelf.Vars
import Derived.Lib.SplitLaws
import Derived.Lib.IndexBytes
import Derived.Lib.ItoaNum
set_option linter.unusedVariables false
set_option linter.unusedSimpArgs false
set_option linter.defProp false
open Bool renaming and_eq_true->dV,eq_iff_iff->Ds,false_and->ze,false_eq_true->je,not_false->rK,not_true->vL,rec->Bn
open ByteArray renaming ext->VK
open Go.aH.U renaming agg->b8,cells->gN,one->bl,v->bO
open Go.aH.aa renaming cells->aj,aS->iB,cQ->FU
open Go.aH.bq renaming mono->a_,pure->fo,azf->Bo
open Go.aH.fJ renaming mono->e4
open Go.aH.gW renaming mono->rL
open Go.aH.sZ renaming mono->VM
open Go.aH.eA renaming refl->p5
open Go.aH.pn renaming Ee->OD
open Go.DataW renaming trod->OF
open Go.IntKind renaming bits->Dx,i64->bP,max->VW,min->VX,signed->Dy,u64->Dz
open Go.Value renaming cells->uv,okWide->DB
open Go.World renaming cell?->DC
open Int renaming eq_ofNat_of_zero_le->mI,ofNat_eq_natCast->xT,toNat_natCast->ux
open List renaming all_cons->l5,all_eq_true->c7,any_eq_true->F0,append_nil->ff,cons_append->gP,count_cons->ajl,drop_succ_cons->xW,drop_zero->ni,eq_nil_of_length_eq_zero->lG,ext_getElem?->zl,getElem?_append_right->en,getElem?_cons_succ->vQ,getElem?_cons_zero->l6,getElem?_eq_getElem->br,getElem?_eq_none->h_,getElem?_eq_some_iff->bF,getElem?_map->eo,getElem?_range->aAy,getElem?_reverse->Wd,getElem?_set_ne->av,getElem?_set_self->aO,getElem_of_mem->DF,length->Bv,length_append->cG,length_cons->di,length_map->bX,length_pos_iff->F4,length_set->rM,length_singleton->nM,map_append->eD,map_cons->ep,map_set->sP,mem_cons->dW,mem_cons_of_mem->qJ,mem_cons_self->vS,mem_map->cI,mem_of_getElem?->bA,mem_of_mem_drop->rN,nil_append->eH,range->iD,rec->vT,replicate->dJ,reverse_reverse->ajw,take_length->p8,take_of_length_le->lH,take_succ_cons->sQ,take_zero->ou
open Nat renaming add_zero->nP,beq->de,beq_eq->sR,ble->sS,blt->oX,eq_of_beq_eq_true->p9,le_of_ble_eq_true->nQ,le_refl->bg,lor->J8,lt_of_succ_le->ajF,lt_or_ge->cH,lt_succ_self->zo,rec->F6,sub_self->kL,zero_add->e6
open Option renaming bind_assoc->xZ,bind_eq_some_iff->eW,bind_some->ko,isSome_none->x4,map->DI,map_eq_some_iff->cg,map_some->ir
open Option.some renaming injEq->lI
open Or renaming inl->ax,inr->az
open Prod.mk renaming injEq->uB
open UInt8 renaming ofNat->rP,toNat->Wp
namespace Go.aH
open Go.RowKit
section
variable{α:Type}{f:aa->(aa->Option U)->Option U}{a:c8}{b id n off:Nat}{o:kP}{k:U->Option U}{e:Env}{i p x:U}{H:List aa}{g:aa->Option aa}{y:aa}{aG:Bool}{Z:List U}{op:BinOp}{L:List Nat}
section
variable{β:Type}
noncomputable def jH(n:Nat)(k:Nat->β):β:=@F6 (λ_=>β) (k Nat.zero) (λm _=>k (Nat.succ m)) n
def r8(n:Nat)(k:Nat->β):jH n k=k n:=by cases n<;>rfl
noncomputable def LH(i:Int)(k:Int->β):β:=@Int.rec (λ_=>β) (λn=>jH n λn=>k (.ofNat n)) (λn=>jH n λn=>k (.negSucc n)) i
def Z2(i:Int)(k:Int->β):LH i k=k i:=by
 cases i with
 |ofNat n=>exact r8 n λn=>k (.ofNat n)
 |negSucc n=>exact r8 n λn=>k (.negSucc n)
noncomputable def Aa(b:Bool)(k:Bool->β):β:=@Bn (λ_=>β) (k false) (k true) b
def Z1(b:Bool)(k:Bool->β):Aa b k=k b:=by cases b<;>rfl
noncomputable def tB{α:Type}(f:α->(α->β)->β)(l:List α):(List α->β)->β:=@vT α (λ_=>(List α->β)->β) (λk=>k []) (λx _ ih k=>f x λx=>ih λr=>k (x::r)) l
def B8{f:α->(α->β)->β}(hf:∀x k,f x k=k x):∀(l:List α) (k:List α->β),tB f l k=k l
 |[],k=>rfl
 |x::r,k=>(hf x _).trans (B8 hf r _)
noncomputable def QZ(s:ByteArray)(k:ByteArray->β):β:=match s with
 |⟨⟨l⟩⟩=>tB (λx k=>k x) l λl=>k ⟨⟨l⟩⟩
def anb(s:ByteArray)(k:ByteArray->β):QZ s k=k s:=by
 cases s with
 |mk a=>cases a with
  |mk l=>simp only[QZ];rw[B8 λ_ _=>rfl]
noncomputable def LI(v:Value)(k:Value->β):β:=match v with
 |.int kd i=>LH i λi=>k (.int kd i)
 |.bool b=>Aa b λb=>k (.bool b)
 |.string s=>QZ s λs=>k (.string s)
 |v=>k v
def Z3(v:Value)(k:Value->β):LI v k=k v:=by
 cases v<;>simp only[LI,Z2,Z1,anb]
noncomputable def Q0(t:iU)(k:iU->β):β:=match t with
 |.exact=>k .exact
 |.no=>k .no
 |.tok id=>jH id λid=>k (.tok id)
def anc(t:iU)(k:iU->β):Q0 t k=k t:=by cases t<;>simp only[Q0,r8]
noncomputable def oA:Nat->U->(U->β)->β
 |0,v,k=>k v
 |n+1,v,k=>match v with
  |.v x=>LI x λx=>k (.v x)
  |.agg Z=>tB (oA n) Z λZ=>k (.agg Z)
  |.aK Z=>tB (oA n) Z λZ=>k (.aK Z)
  |.af=>k .af
  |.sl xs t=>tB (oA n) xs λxs=>Q0 t λt=>k (.sl xs t)
  |.fp Z off=>tB (oA n) Z λZ=>jH off λoff=>k (.fp Z off)
  |.mp b off=>jH b λb=>jH off λoff=>k (.mp b off)
  |.rp b m off=>jH b λb=>jH m λm=>jH off λoff=>k (.rp b m off)
  |.rs b m sz off len=>jH b λb=>jH m λm=>jH off λoff=>jH len λlen=>k (.rs b m sz off len)
  |.eL b=>jH b λb=>k (.eL b)
  |.fn f a b=>tB (oA n) a λa=>tB (oA n) b λb=>k (.fn f a b)
  |.cT t x=>oA n x λx=>k (.cT t x)
  |.dZ b=>jH b λb=>k (.dZ b)
  |.gu b=>jH b λb=>k (.gu b)
  |.fM b t=>jH b λb=>k (.fM b t)
  |.eU ch=>k (.eU ch)
def wT:∀(n:Nat) (v:U) (k:U->β),oA n v k=k v
 |0,v,k=>rfl
 |n+1,v,k=>by
  cases v<;>simp only[oA,Z3,anc,r8,B8 (wT n),wT n]
noncomputable def G2(t:Nat)(e:Env)(k:U->β)(d:β):β:=@vT (Nat×U) (λ_=>β) d (λp _ ih=>@Bn (λ_=>β) ih (k p.2) (de p.1 t)) e
def Qw(t:Nat)(k:U->β)(d:β):∀(e:Env),G2 t e k d=match eX e t with|some v=>k v|none=>d
 |[]=>rfl
 |(j,v)::r=>by
  have ih:=Qw t k d r;simp only[eX];by_cases h:j=t;subst h;rw[if_pos rfl];show@Bn (λ_=>β) _ (k v) (de j j)=_;rw[show de j j=true from Nat.beq_refl j];have O:de j t=false:=by cases O:de j t with
   |false=>rfl
   |true=>exact(h (p9 O)).elim
  rw[if_neg h,<-ih];show@Bn (λ_=>β) (G2 t r k d) (k v) (de j t)=_;rw[O]
noncomputable def ru(L:List Nat):Env->(Env->β)->β:=@vT Nat (λ_=>Env->(Env->β)->β) (λe k=>k []) (λj _ ih e k=>G2 j e (λv=>ih e λr=>k ((j,v)::r)) (ih e k)) L
def tT:∀(L:List Nat) (e:Env) (k:Env->β),ru L e k=k (kD L e)
 |[],e,k=>rfl
 |j::L,e,k=>by
  show G2 j e (λv=>ru L e λr=>k ((j,v)::r)) (ru L e k)=_;rw[Qw];simp only[kD];cases eX e j with
  |none=>simp only[z1,tT L e]
  |some v=>simp only[z1,tT L e]
end
def G5:Value->Value->Bool
 |.int k a,.int k' b=>decide (k=k')&&decide (a=b)
 |.bool a,.bool b=>a==b
 |.string a,.string b=>decide (a.data.toList=b.data.toList)
 |.pointer none,.pointer none=>true
 |.nilFunc,.nilFunc=>true
 |.nilIface,.nilIface=>true
 |.map none,.map none=>true
 |_,_=>false
def Zk:∀{a b:Value},G5 a b=true->a=b:=by
 intro a b h;unfold G5 at h;split at h;simp only[dV,decide_eq_true_eq] at h;rw[h.1,h.2];rw[eq_of_beq h];simp only[decide_eq_true_eq] at h;rename_i a b;cases a with
 |mk a=>cases a with
  |mk a=>cases b with
   |mk b=>cases b with
    |mk b=>dsimp only at h;rw[h]
 all_goals first|rfl|cases h
def tw{α:Type}(f:α->α->Bool):List α->List α->Bool
 |[],[]=>true
 |a::r,b::s=>f a b&&tw f r s
 |_,_=>false
def Ll{f:α->α->Bool}(hf:∀{a b},f a b=true->a=b):∀{l m:List α},tw f l m=true->l=m
 |[],[],_=>rfl
 |a::r,b::s,h=>by
  simp only[tw,dV] at h;rw[hf h.1,Ll hf h.2]
 |[],_::_,h=>aCL
 |_::_,[],h=>aCL
def QJ:iU->iU->Bool
 |.exact,.exact=>true
 |.no,.no=>true
 |.tok a,.tok b=>a==b
 |_,_=>false
def amK{a b:iU}(h:QJ a b=true):a=b:=by
 cases a<;>cases b<;>first|rfl|(cases h;done)|(simp only[QJ,beq_iff_eq] at h;rw[h])
def QC:Fn->Fn->Bool
 |.func a,.func b=>a==b
 |_,_=>false
def amF{a b:Fn}(h:QC a b=true):a=b:=by
 unfold QC at h;split at h;rw[eq_of_beq h];cases h
def nv:Nat->U->U->Bool
 |0,_,_=>false
 |n+1,a,b=>match a,b with
  |.v x,.v y=>G5 x y
  |.agg x,.agg y=>tw (nv n) x y
  |.aK x,.aK y=>tw (nv n) x y
  |.af,.af=>true
  |.sl x t,.sl y u=>tw (nv n) x y&&QJ t u
  |.fp x i,.fp y j=>tw (nv n) x y&&i==j
  |.mp k i,.mp l j=>k==l&&i==j
  |.rp k m i,.rp l m' j=>k==l&&m==m'&&i==j
  |.rs k m s i n,.rs l m' s' j n'=>k==l&&m==m'&&s==s'&&i==j&&n==n'
  |.eL k,.eL l=>k==l
  |.fn f x y,.fn g u v=>QC f g&&tw (nv n) x u&&tw (nv n) y v
  |.cT t x,.cT u y=>t==u&&nv n x y
  |.dZ k,.dZ l=>k==l
  |.gu k,.gu l=>k==l
  |.fM k t,.fM l u=>k==l&&t.1==u.1&&t.2==u.2
  |_,_=>false
def wM:∀{n:Nat} {a b:U},nv n a b=true->a=b
 |0,a,b,h=>aCL
 |n+1,a,b,h=>by
  have ih:∀{l m:List U},tw (nv n) l m=true->l=m:=λq=>Ll (λr=>wM r) q;unfold nv at h;split at h
  all_goals try simp only[dV,beq_iff_eq] at h
  rw[Zk h];rw[ih h];rw[ih h];rfl;rw[ih h.1,amK h.2];rw[ih h.1,h.2];rw[h.1,h.2];rw[h.1.1,h.1.2,h.2];rw[h.1.1.1.1,h.1.1.1.2,h.1.1.2,h.1.2,h.2];rw[h];rw[amF h.1.1,ih h.1.2,ih h.2];rw[h.1,wM h.2];rw[h];rw[h];rename_i k t l u;obtain⟨t1,t2⟩:=t;obtain⟨u1,u2⟩:=u;dsimp only at h;rw[h.1.1,h.1.2,h.2];cases h
noncomputable def xH(o:Option U)(k:U->Option U):Option U:=match o with
 |some v=>oA 64 v k
 |none=>none
def A7{o:Option U}:xH o k=o.bind k:=by cases o<;>simp[xH,wT]
noncomputable def N0(o:Option Value)(k:U->Option U):Option U:=match o with
 |some v=>LI v λv=>k (.v v)
 |none=>none
def ahD{o:Option Value}:N0 o k=o.bind λv=>k (.v v):=by cases o<;>simp[N0,Z3]
noncomputable def Ef(t:Nat)(e:Env)(k:U->Option U):Option U:=G2 t e k none
def Li{t:Nat}:Ef t e k=(eX e t).bind k:=by
 unfold Ef;rw[Qw];cases eX e t<;>rfl
noncomputable def lT(x:bJ)(e:Env)(k:U->Option U):Option U:=@bJ.rec (λ_=>Option U) (λt=>Ef t e k) (λv=>k v) x
def pF{x:bJ}:lT x e k=(cL e x).bind k:=by
 cases x with
 |t t=>exact Li
 |c v=>rfl
noncomputable def CY{α:Type}(l:List α):Nat->(α->Option U)->Option U:=@vT α (λ_=>Nat->(α->Option U)->Option U) (λ_ _=>none) (λx _ ih n k=>@F6 (λ_=>Option U) (k x) (λm _=>ih m k) n) l
def E8:∀{l:List α} {n:Nat} {k:α->Option U},CY l n k=(l[n]?).bind k
 |[],n,k=>by simp[CY]
 |x::r,0,k=>rfl
 |x::r,n+1,k=>by
  rw[vQ];exact E8 (l:=r) (n:=n) (k:=k)
structure dX where
 n:Nat
 l:List aa
def R(H:List aa):dX:=⟨H.length,H.reverse⟩
def Be(h:dX):List aa:=h.l.reverse
def Dk(H:List aa):Be (R H)=H:=ajw H
noncomputable def vm(h:dX)(b:Nat)(k:aa->Option U):Option U:=match oX b h.n with
 |true=>CY h.l (h.n-1-b) k
 |false=>none
def X4{a:Nat}(h:a<b):oX a b=true:=Nat.ble_eq_true_of_le h
def X3{a:Nat}(h:¬a<b):oX a b=false:=by
 cases O:oX a b with
 |false=>rfl
 |true=>exact(h (nQ O)).elim
def yO{k:aa->Option U}:vm (R H) b k=(H[b]?).bind k:=by
 unfold vm R;dsimp only;by_cases h:b<H.length;rw[X4 h];dsimp only;rw[E8,Wd aCs,show H.length-1-(H.length-1-b)=b by omega];rw[X3 h,h_ aCs];rfl
noncomputable def Vq(l:List aa):Nat->(aa->(aa->Option U)->Option U)->(List aa->Option U)->Option U:=@vT aa (λ_=>Nat->(aa->(aa->Option U)->Option U)->(List aa->Option U)->Option U) (λ_ _ _=>none)
 (λb r ih n f k=>@F6 (λ_=>Option U) (f b λb=>k (b::r)) (λm _=>ih m f λr=>k (b::r)) n) l
def aiz(hf:∀b k,f b k=(g b).bind k):∀{h:List aa} {n:Nat} {k:List aa->Option U},Vq h n f k=(h[n]?).bind λb=>(g b).bind λb'=>k (h.set n b')
 |[],n,k=>by simp[Vq]
 |b::r,0,k=>hf b _
 |b::r,n+1,k=>by
  rw[vQ];exact aiz hf (h:=r) (n:=n) (k:=λr=>k (b::r))
def axQ(h:b<H.length):H.reverse.set (H.length-1-b) y=(H.set b y).reverse:=by
 apply zl;intro i
 rcases cH i H.length with q|q
 rw[Wd aCy,rM];by_cases e:H.length-1-b=i;rw[<-e,aO aCv,show H.length-1-(H.length-1-b)=b by omega,aO h];rw[av e,Wd q,av aCs];rw[h_ aCy,h_ aCy]
noncomputable def vG(h:dX)(b:Nat)(f:aa->(aa->Option U)->Option U)(k:dX->Option U):Option U:=match oX b h.n with
 |true=>Vq h.l (h.n-1-b) f λl=>k ⟨h.n,l⟩
 |false=>none
def Vp(hf:∀b k,f b k=(g b).bind k){k:dX->Option U}:vG (R H) b f k=(H[b]?).bind λx=>(g x).bind λy=>k (R (H.set b y)):=by
 unfold vG R;dsimp only;by_cases h:b<H.length;rw[X4 h];dsimp only;rw[aiz hf,Wd aCs,show H.length-1-(H.length-1-b)=b by omega];simp only[axQ h,rM];rw[X3 h,h_ aCs];rfl
def FN{k:dX->Option U}:vG (R H) b (λ_ k=>k y) k=(H[b]?).bind λ_=>k (R (H.set b y)):=
 (Vp (f:=λ_ k=>k y) (g:=λ_=>some y) λ_ _=>rfl).trans rfl
noncomputable def AX(h:dX)(b:aa)(k:dX->Option U):Option U:=jH (h.n+1) λn=>k ⟨n,b::h.l⟩
def Nz{b:aa}{k:dX->Option U}:AX (R H) b k=k (R (H++[b])):=by
 simp only[AX,r8,R,cG,nM,List.reverse_append,List.reverse_singleton,List.singleton_append]
noncomputable def LK(H:List aa)(k:dX->Option U):Option U:=tB (λx k=>k x) H.reverse λl=>jH H.length λn=>k ⟨n,l⟩
def Z6{k:dX->Option U}:LK H k=k (R H):=by
 simp only[LK,r8];rw[B8 λ_ _=>rfl];rfl
noncomputable def Fj(aG:Bool):Nat->List U->Nat->(U->Option U)->Option U:=match aG with
 |false=>λ_ Z off k=>CY Z off k
 |true=>λn Z off k=>match dI true n Z off with
  |some (.agg l)=>tB (λx k=>k x) l λl=>k (.agg l)
  |some v=>k v
  |none=>none
def T5:Fj aG n Z off k=(dI aG n Z off).bind k:=by
 cases aG with
 |false=>simp only[Fj,E8,dI,je,if_false]
 |true=>
  simp only[Fj];cases h:dI true n Z off with
  |none=>rfl
  |some v=>cases v<;>simp only[ko]<;>rw[B8 λ_ _=>rfl]
noncomputable def CP:U->Bool->Nat->dX->(U->Option U)->Option U
 |.mp b off=>λaG n h k=>vm h b λblk=>match blk with
  |.cells Z r=>match r with
   |false=>Fj aG n Z off k
   |true=>none
  |_=>none
 |.fp Z off=>λaG n _ k=>Fj aG n Z off k
 |.rp b m off=>λaG n h k=>vm h b λblk=>match blk with
  |.cells Z r=>match r with
   |true=>match de m Z.length with
    |true=>Fj aG n Z off k
    |false=>none
   |false=>none
  |_=>none
 |p=>λaG n h k=>xH (aq (Be h) aG n p) k
def ae4:CP p aG n (R H) k=(aq H aG n p).bind k:=by
 cases p with
 |mp b off=>
  simp only[CP,yO,aq];cases H[b]? with
  |none=>rfl
  |some blk=>cases blk with
   |cells Z r=>cases r<;>simp[T5]
   |_=>rfl
 |rp b m off=>
  simp only[CP,yO,aq];cases H[b]? with
  |none=>rfl
  |some blk=>cases blk with
   |cells Z r=>cases r with
    |false=>rfl
    |true=>
     simp only[ko];by_cases hl:m=Z.length;rw[if_pos hl,show de m Z.length=true by rw[sR];exact hl];exact T5;rw[if_neg hl,show de m Z.length=false from(by cases O:de m Z.length with
     |false=>rfl
     |true=>exact(hl (p9 O)).elim)];rfl
   |_=>rfl
 |fp Z off=>simp only[CP,T5,aq]
 |_=>(simp only[CP,A7,Dk])
noncomputable def GM:U->(List U->Option U)->Option U
 |.agg Z=>λk=>k Z
 |x=>λk=>k [x]
def KT{k:List U->Option U}:GM x k=k x.cells:=by cases x<;>rfl
noncomputable def AT(Z:List U):List U->(List U->Option U)->Option U:=@vT U (λ_=>List U->(List U->Option U)->Option U)
 (λvs k=>@vT U (λ_=>Option U) (k []) (λ_ _ _=>none) vs) (λc r ih vs k=>@vT U (λ_=>Option U) (k (c::r)) (λv vs _=>ih vs λr=>k (v::r)) vs) Z
def TV:∀{Z vs:List U} {k:List U->Option U},AT Z vs k=if vs.length<=Z.length then k (vs++Z.drop vs.length) else none
 |[],[],k=>by simp[AT]
 |c::r,[],k=>by simp[AT]
 |[],v::vs,k=>by simp[AT]
 |c::r,v::vs,k=>by
  have:=TV (Z:=r) (vs:=vs) (k:=λr=>k (v::r));simp only[di,xW,gP,Nat.add_le_add_iff_right];exact this
noncomputable def Jc(Z:List U):Nat->List U->(List U->Option U)->Option U:=@vT U (λ_=>Nat->List U->(List U->Option U)->Option U)
 (λoff vs k=>@F6 (λ_=>Option U) (AT [] vs k) (λ_ _=>none) off) (λc r ih off vs k=>@F6 (λ_=>Option U) (AT (c::r) vs k) (λm _=>ih m vs λr=>k (c::r)) off) Z
def Ue:∀{Z:List U} {off:Nat} {vs:List U} {k:List U->Option U},Jc Z off vs k=if off+vs.length<=Z.length then k (putAt Z off vs) else none
 |[],0,vs,k=>by
  show AT [] vs k=_;simp[TV,putAt]
 |[],off+1,vs,k=>by simp[Jc]
 |c::r,0,vs,k=>by
  show AT (c::r) vs k=_;simp only[TV,putAt,ou,eH,e6]
 |c::r,off+1,vs,k=>by
  have:=Ue (Z:=r) (off:=off) (vs:=vs) (k:=λr=>k (c::r));show Jc r off vs (λr=>k (c::r))=_;rw[this];simp only[putAt,di,sQ,gP];have e1:off+1+vs.length=(off+vs.length)+1:=aCs
  rw[e1,xW];by_cases h:off+vs.length<=r.length;rw[if_pos h,if_pos aCs];rw[if_neg h,if_neg aCs]
noncomputable def Jv:U->Nat->U->dX->(dX->Option U)->Option U
 |.mp b off=>λn x h k=>GM x λvs=>match de vs.length n&&vs.all bl with
  |true=>vG h b (λblk k=>match blk with
   |.cells Z r=>match r with
    |false=>Jc Z off vs λZ=>k (.cells Z false)
    |true=>none
   |_=>none) k
  |false=>none
 |.rp b m off=>λn x h k=>GM x λvs=>match de vs.length n&&vs.all bl with
  |true=>vG h b (λblk k=>match blk with
   |.cells Z r=>match r with
    |true=>match de m Z.length with
     |true=>Jc Z off vs λZ=>k (.cells Z true)
     |false=>none
    |false=>none
   |_=>none) k
  |false=>none
 |p=>λn x h k=>match aE (Be h) n p x with
  |some H=>LK H k
  |none=>none
def ah2{row:Bool}{k:dX->Option U}:(match de x.cells.length n&&x.cells.all bl with
  |true=>((if off+x.cells.length<=Z.length then some (aj (putAt Z off x.cells) row) else none).bind λy=>k (R (H.set b y)))
  |false=>none)=(dG H b row Z n off x).bind λH=>k (R H):=by
 unfold dG;by_cases T:x.cells.length=n/\off+n<=Z.length/\x.cells.all bl=true;rw[if_pos T];obtain⟨c1,c2,c3⟩:=T;have alp:de x.cells.length n=true:=by rw[sR];exact c1
 rw[alp,c3,if_pos (show off+x.cells.length<=Z.length by omega)];rfl;rw[if_neg T];cases hq:(de x.cells.length n&&x.cells.all bl) with
 |false=>rfl
 |true=>
  simp only[dV,sR] at hq;rw[if_neg (λq=>T ⟨hq.1,aCs,hq.2⟩)];rfl
def ayH{k:dX->Option U}:Jv p n x (R H) k=(aE H n p x).bind λH=>k (R H):=by
 cases p with
 |mp b off=>
  simp only[Jv,KT];rw[Vp (g:=λblk=>match blk with
   |.cells Z false=>if off+x.cells.length<=Z.length then some (.cells (putAt Z off x.cells) false) else none
   |_=>none) (λblk k=>by
    cases blk with
    |cells Z r=>cases r with
     |false=>simp only[Ue];split<;>rfl
     |true=>rfl
    |_=>rfl)]
  simp only[aE];cases O:H[b]? with
  |none=>cases(de x.cells.length n&&x.cells.all bl)<;>rfl
  |some blk=>cases blk with
   |cells Z r=>cases r with
    |false=>exact ah2
    |true=>cases(de x.cells.length n&&x.cells.all bl)<;>rfl
   |_=>cases(de x.cells.length n&&x.cells.all bl)<;>rfl
 |rp b m off=>
  simp only[Jv,KT];rw[Vp (g:=λblk=>match blk with
   |.cells Z true=>if m=Z.length then(if off+x.cells.length<=Z.length then some (.cells (putAt Z off x.cells) true) else none) else none
   |_=>none) (λblk k=>by
    cases blk with
    |cells Z r=>cases r with
     |true=>
      by_cases hl:m=Z.length;simp only[if_pos hl,show de m Z.length=true by rw[sR];exact hl,Ue];split<;>rfl;simp only[if_neg hl,show de m Z.length=false from(by cases O:de m Z.length with
      |false=>rfl
      |true=>exact(hl (p9 O)).elim)];rfl
     |false=>rfl
    |_=>rfl)]
  simp only[aE];cases O:H[b]? with
  |none=>cases(de x.cells.length n&&x.cells.all bl)<;>rfl
  |some blk=>cases blk with
   |cells Z r=>cases r with
    |true=>
     by_cases hl:m=Z.length;simp only[if_pos hl,ko];exact ah2;simp only[if_neg hl,ko];cases(de x.cells.length n&&x.cells.all bl)<;>rfl
    |false=>cases(de x.cells.length n&&x.cells.all bl)<;>rfl
   |_=>cases(de x.cells.length n&&x.cells.all bl)<;>rfl
 |_=>
  simp only[Jv,Dk];cases aE H n _ x with
  |none=>rfl
  |some H'=>exact Z6
def Xo(a b:Int):Int:=match a with
 |.ofNat m=>match b with
  |.ofNat n=>.ofNat (m+n)
  |.negSucc n=>.ofNat m+ .negSucc n
 |.negSucc m=>.negSucc m+b
def akm(a b:Int):Xo a b=a+b:=by cases a<;>cases b<;>rfl
def U9(a b:Int):Int:=match a with
 |.ofNat m=>match b with
  |.ofNat n=>match sS n m with
   |true=>.ofNat (m-n)
   |false=>.ofNat m- .ofNat n
  |.negSucc n=>.ofNat m- .negSucc n
 |.negSucc m=>.negSucc m-b
def ayM(a b:Int):U9 a b=a-b:=by
 cases a with
 |negSucc m=>rfl
 |ofNat m=>cases b with
  |negSucc n=>rfl
  |ofNat n=>
   simp only[U9];cases h:sS n m with
   |false=>rfl
   |true=>
    have:=nQ h;simp only[xT];omega
def EY(a b:Int):Bool:=match a with
 |.ofNat m=>match b with
  |.ofNat n=>sS (m+1) n
  |.negSucc _=>false
 |.negSucc m=>match b with
  |.ofNat _=>true
  |.negSucc n=>sS (n+1) m
def aur(a b:Int):EY a b=decide (a<b):=by
 cases a<;>cases b<;>simp only[EY];rename_i m n;rw[Ds,Nat.ble_eq,decide_eq_true_eq];simp only[xT];omega;rename_i m n;symm;rw[decide_eq_false_iff_not];simp only[xT];omega;rename_i m n;symm;rw[decide_eq_true_eq];simp only[xT];omega;rename_i m n;rw[Ds,Nat.ble_eq,decide_eq_true_eq];omega
def Ln(a b:Int):Bool:=match a with
 |.ofNat m=>match b with
  |.ofNat n=>de m n
  |.negSucc _=>false
 |.negSucc m=>match b with
  |.ofNat _=>false
  |.negSucc n=>de m n
def amL(a b:Int):Ln a b=(a==b):=by
 cases a<;>cases b<;>simp only[Ln];rename_i m n;rw[Ds,sR,beq_iff_eq];simp only[xT];omega;symm;simp;symm;simp;rename_i m n;rw[Ds,sR,beq_iff_eq];simp
def Dm(kd:IntKind):Int->Int:=match kd with
 |.i64=>λn=>match n with
  |.ofNat m=>match sS m 9223372036854775807 with
   |true=>.ofNat m
   |false=>bP.wrap (.ofNat m)
  |.negSucc m=>match sS m 9223372036854775807 with
   |true=>.negSucc m
   |false=>bP.wrap (.negSucc m)
 |.u64=>λn=>match n with
  |.ofNat m=>.ofNat (m % 18446744073709551616)
  |.negSucc m=>Dz.wrap (.negSucc m)
 |.u8=>λn=>match n with
  |.ofNat m=>.ofNat (m % 256)
  |.negSucc m=>IntKind.u8.wrap (.negSucc m)
 |kd=>λn=>kd.wrap n
def az0(kd:IntKind)(n:Int):Dm kd n=kd.wrap n:=by
 cases kd
 case i64=>
  cases n with
  |ofNat m=>
   simp only[Dm];split;rename_i h;have:=nQ h;rw[wrap_i64 (by simp only[xT];omega) (by simp only[xT];omega)];rfl
  |negSucc m=>
   simp only[Dm];split;rename_i h;have:=nQ h;rw[wrap_i64 aCs aCs];rfl
 case u8=>
  cases n with
  |ofNat m=>simp only[Dm];rw[wrap_u8];simp only[xT];omega
  |negSucc m=>rfl
 case u64=>
  cases n with
  |ofNat m=>simp only[Dm];rw[wrap_u64];simp only[xT];omega
  |negSucc m=>rfl
 all_goals rfl
def CG:IntKind->Nat
 |.i8=>0|.i16=>1|.i32=>2|.i64=>3|.u8=>4|.u16=>5|.u32=>6|.u64=>7
def ata{a b:IntKind}:(de (CG a) (CG b)=true)↔a=b:=by cases a<;>cases b<;>simp[CG]
noncomputable def PZ:BinOp->IntKind->Int->Int->(U->Option U)->Option U
 |.add=>λkd a b k=>LH (Dm kd (Xo a b)) λr=>k (.v (.int kd r))
 |.sub=>λkd a b k=>LH (Dm kd (U9 a b)) λr=>k (.v (.int kd r))
 |.eql=>λkd a b k=>Aa (Ln a b) λr=>k (.v (.bool r))
 |.neq=>λkd a b k=>Aa (!Ln a b) λr=>k (.v (.bool r))
 |.lss=>λkd a b k=>Aa (EY a b) λr=>k (.v (.bool r))
 |.geq=>λkd a b k=>Aa (!EY a b) λr=>k (.v (.bool r))
 |.gtr=>λkd a b k=>Aa (EY b a) λr=>k (.v (.bool r))
 |.leq=>λkd a b k=>Aa (!EY b a) λr=>k (.v (.bool r))
 |op=>λkd a b k=>N0 (j7 op kd a kd b) k
def ald{kd:IntKind}{a b:Int}:PZ op kd a b k=(j7 op kd a kd b).bind λv=>k (.v v):=by
 have Y:(!decide (a<b))=decide (a>=b):=by rw[Ds];simp
 have V:(!decide (b<a))=decide (a<=b):=by rw[Ds];simp
 cases op<;>simp only[PZ,Z2,Z1,az0,akm,ayM,amL,aur,ahD]
 all_goals first
  |(simp[j7];done)
  |(simp only[j7,ne_eq,not_true_eq_false,if_false,ko,Y,V];done)
  |(simp only[j7,ne_eq,not_true_eq_false,if_false,ko,Y,V];rfl)
noncomputable def P0:BinOp->U->U->(U->Option U)->Option U:=λop x=>match x with
 |.v (.int kd a)=>λy=>match y with
  |.v (.int Iw b)=>λk=>match de (CG kd) (CG Iw) with
   |true=>PZ op kd a b k
   |false=>N0 (j7 op kd a Iw b) k
  |y=>λk=>xH (cr op (.v (.int kd a)) y) k
 |x=>λy k=>xH (cr op x y) k
def alf{y:U}:P0 op x y k=(cr op x y).bind k:=by
 unfold P0;split;rename_i kd a;split;rename_i Iw b;cases hq:de (CG kd) (CG Iw) with
 |true=>
  have:=ata.1 hq;subst this;simp only[ald,cr];cases j7 op kd a kd b<;>rfl
 |false=>
  simp only[cr,ahD];cases j7 op kd a Iw b<;>rfl
 exact A7;exact A7
noncomputable def Lw(off:Nat):U->(U->Option U)->Option U
 |.mp b o=>λk=>jH (o+off) λo=>k (.mp b o)
 |.fp Z o=>λk=>jH (o+off) λo=>k (.fp Z o)
 |x=>λk=>xH (ji off x) k
def amU:Lw off x k=(ji off x).bind k:=by
 cases x<;>first|(simp only[Lw,A7];done)|(simp[Lw,r8,ji];done)
noncomputable def It(n:Nat):U->U->(U->Option U)->Option U
 |.sl xs t=>λi k=>match i with
  |.v (.int kd (.ofNat j))=>CY xs j λx=>GM x λZ=>match de Z.length n with
   |true=>k (.fp Z 0)
   |false=>none
  |i=>xH (bw n (.sl xs t) i) k
 |x=>λi k=>xH (bw n x i) k
def aqB:It n x i k=(bw n x i).bind k:=by
 cases x with
 |sl xs t=>
  simp only[It];split;rename_i kd j;simp only[E8,KT,bw];rw[if_pos (show(0:Int)<=Int.ofNat j from Int.natCast_nonneg j)];simp only[xT,ux];cases xs[j]? with
  |none=>rfl
  |some x=>
   simp only[ko];by_cases hl:x.cells.length=n;rw[if_pos hl,show de x.cells.length n=true by rw[sR];exact hl];rfl;rw[if_neg hl,show de x.cells.length n=false from(by cases O:de x.cells.length n with
   |false=>rfl
   |true=>exact(hl (p9 O)).elim)];rfl
  (simp only[It,A7])
 |_=>(simp only[It,A7])
def alo(l:List UInt8)(j:Nat):(⟨⟨l⟩⟩:ByteArray)[j]?=l[j]? :=by
 have Y:∀(b:ByteArray),b[j]?=if h:j<b.size then some (b[j]'h) else none:=λb=>rfl;rw[Y];by_cases h:j<l.length;rw[dif_pos (show j<(⟨⟨l⟩⟩:ByteArray).size from h),br h];rfl;rw[dif_neg (show¬j<(⟨⟨l⟩⟩:ByteArray).size from h),h_ aCs]
noncomputable def Qe:U->U->(U->Option U)->Option U
 |.v (.string ⟨⟨l⟩⟩)=>λi k=>match i with
  |.v (.int kd (.ofNat j))=>CY l j λb=>jH b.toNat λn=>k (.v (.int .u8 (.ofNat n)))
  |i=>xH (tc (.v (.string ⟨⟨l⟩⟩)) i) k
 |x=>λi k=>xH (tc x i) k
def alC:Qe x i k=(tc x i).bind k:=by
 unfold Qe;split;rename_i l;split;rename_i kd j;simp only[E8,tc];rw[if_pos (show(0:Int)<=Int.ofNat j from Int.natCast_nonneg j)];simp only[xT,ux,alo];cases l[j]? <;>simp[r8];exact A7;exact A7
noncomputable def QS(i:Nat):U->(U->Option U)->Option U
 |.aK Z=>CY Z i
 |_=>λ_=>none
def amQ{i:Nat}:QS i x k=(nV i x).bind k:=by
 cases x<;>simp[QS,nV,E8]
inductive Out where
 |val (v:U)
 |eU (ch:List PanicEntry)
structure Pd where
 ps:List Nat
 a:c8
 b:c8
 e:Env
abbrev o3:=List (Nat×Pd)
abbrev s8:=Out->dX->Option U
abbrev qL:=o3->U->List U->dX->s8->Option U
def Qu:kP->Bool
 |.alloc _|.box _|.st .. |.tn .. |.app .. |.yg .. |.xy .. |.yN .. |.iter _|.next _|.yM|.tR .. |.xu .. |.z6 .. |.wq .. |.wC .. =>true
 |_=>false
noncomputable def UW(o:kP)(e:Env)(h:dX)(k:U->dX->Option U):Option U:=match Qu o with
 |false=>match bz e (Be h) o with
  |some (v,_)=>oA 64 v λv=>k v h
  |none=>none
 |true=>match bz e (Be h) o with
  |some (v,H)=>LK H λh=>oA 64 v λv=>k v h
  |none=>none
noncomputable def pR:kP->Env->dX->(U->dX->Option U)->Option U
 |.mv x=>λe h k=>lT x e λv=>k v h
 |.eE aG n x=>λe h k=>lT x e λp=>CP p aG n h λv=>k v h
 |.st n p x=>λe h k=>lT p e λp=>lT x e λx=>Jv p n x h λh=>k gM h
 |.E3 x=>λe h k=>lT x e λp=>match uQ p with
  |some p=>k p h
  |none=>none
 |.bin op x y=>λe h k=>lT x e λx=>lT y e λy=>P0 op x y λv=>k v h
 |.fa off x=>λe h k=>lT x e λx=>Lw off x λv=>k v h
 |.bC n x i=>λe h k=>lT x e λx=>lT i e λi=>It n x i λv=>k v h
 |.zV x i=>λe h k=>lT x e λx=>lT i e λi=>Qe x i λv=>k v h
 |.ext i x=>λe h k=>lT x e λx=>QS i x λv=>k v h
 |.alloc z=>λe h k=>AX h (.cells z false) λh'=>jH h.n λn=>k (.mp n 0) h'
 |.box x=>λe h k=>lT x e λx=>GM x λZ=>AX h (.cells Z false) λh'=>jH h.n λn=>k (.mp n 0) h'
 |o=>UW o
def akM(ho:Qu o=false){H':List aa}{v:U}(h:bz e H o=some (v,H')):H'=H:=by
 have len:∀{x:U},bL x H=some (v,H')->H'=H:=λ{x} q=>by
  unfold bL at q;split at q;cases q;rw[cg] at q;obtain⟨_,_,q⟩:=q;cases q;rfl
 have iy:∀{x:U},oI x H=some (v,H')->H'=H:=λ{x} q=>by
  unfold oI at q;split at q;cases q;rfl;cases q
 have slc:∀{n:Nat} {x:U} {a b c:Option U},pU n x a b c H=some (v,H')->H'=H:=λ{n x a b c} q=>by
  unfold pU at q;split at q;cases q;rw[cg] at q;obtain⟨_,_,q⟩:=q;cases q;rfl
 have ud:∀{x:U} {a b:Option U},Dj x a b H=some (v,H')->H'=H:=λ{x a b} q=>by
  unfold Dj at q;split at q;rw[cg] at q;obtain⟨_,_,q⟩:=q;cases q;rfl;cases q
 cases o<;>first|(cases ho;done)|skip
 all_goals simp only[bz,eW,cg,uB] at h
 all_goals first
  |(obtain⟨_,_,_,q⟩:=h;exact q.symm)
  |(obtain⟨_,_,_,_,_,q⟩:=h;exact q.symm)
  |(obtain⟨_,_,_,_,_,_,_,q⟩:=h;exact q.symm)
  |(obtain⟨_,_,_,_,_,_,_,_,_,q⟩:=h;exact q.symm)
  |(obtain⟨_,_,q⟩:=h;exact len q)
  |(obtain⟨_,_,q⟩:=h;exact iy q)
  |(obtain⟨_,_,_,_,_,_,q⟩:=h;exact ud q)
  |(obtain⟨_,_,_,_,_,_,_,_,q⟩:=h;exact slc q)
def ayg{k:U->dX->Option U}:UW o e (R H) k=(bz e H o).bind λr=>k r.1 (R r.2):=by
 unfold UW;rw[Dk];cases ho:Qu o with
 |false=>
  dsimp only;cases hs:bz e H o with
  |none=>rfl
  |some r=>
   obtain⟨v,H'⟩:=r;have:=akM ho hs;subst this;simp only[wT,ko]
 |true=>
  dsimp only;cases hs:bz e H o with
  |none=>rfl
  |some r=>simp only[Z6,wT,ko]
def af1{k:U->dX->Option U}:pR o e (R H) k=(bz e H o).bind λr=>k r.1 (R r.2):=by
 have bm:∀{α:Type} (o:Option α) (f:α->U×List aa),((o.map f).bind λr=>k r.1 (R r.2))=o.bind λa=>k (f a).1 (R (f a).2):=λo f=>by cases o<;>rfl
 have rn:(R H).n=H.length:=rfl;cases o
 case mv=>simp only[pR,pF,bz,bm]
 case eE=>simp only[pR,pF,ae4,bz,xZ,bm]
 case st=>simp only[pR,pF,ayH,bz,xZ,bm]
 case bin=>simp only[pR,pF,alf,bz,xZ,bm]
 case fa=>simp only[pR,pF,amU,bz,xZ,bm]
 case bC=>simp only[pR,pF,aqB,bz,xZ,bm]
 case zV=>simp only[pR,pF,alC,bz,xZ,bm]
 case ext=>simp only[pR,pF,amQ,bz,xZ,bm]
 case alloc=>simp only[pR,Nz,r8,bz,ko,rn]
 case box x=>
  simp only[pR,pF,KT,Nz,r8,bz,bm,rn]
 case E3 x=>
  simp only[pR,pF,bz,xZ,bm];cases cL e x with
  |none=>rfl
  |some x=>simp only[ko];cases uQ x<;>rfl
 all_goals
  simp only[pR];exact ayg
noncomputable def Nx(b6:qL)(f:FuncId)(cl:List U):Option U:=match iz (b7 [] 64) cl with
 |some bs=>b6 [] (.fn (.func f) [] []) bs (R []) λo h=>match o with
  |.val r=>b7 (Be h) 64 r
  |.eU _=>none
 |none=>none
noncomputable def FO(k:U->dX->Option U):s8
 |.val v=>λh=>k v h
 |.eU _=>λ_=>none
noncomputable def yw(l:List bJ):Env->(List U->Option U)->Option U:=@vT bJ (λ_=>Env->(List U->Option U)->Option U) (λ_ k=>k []) (λx _ ih e k=>lT x e λv=>ih e λvs=>k (v::vs)) l
def Ab:∀{l:List bJ} {e:Env} {k:List U->Option U},yw l e k=(ld e l).bind k
 |[],e,k=>rfl
 |x::r,e,k=>by
  show lT x e (λv=>yw r e λvs=>k (v::vs))=_;simp only[pF,Ab,ld,xZ];cases cL e x with
  |none=>rfl
  |some v=>simp only[ko];cases ld e r<;>rfl
noncomputable def tM:fL->qL->o3->Env->dX->s8->Option U
 |.op o=>λ_ _ e h k=>pR o e h λv h=>k (.val v) h
 |.call f args=>λb6 bE e h k=>yw args e λcl=>b6 bE (.fn (.func f) [] []) cl h (FO λv h'=>k (.val v) h')
 |.lQ x args=>λb6 bE e h k=>lT x e λx=>yw args e λcl=>b6 bE x cl h (FO λv h'=>k (.val v) h')
 |.lz f args=>λb6 _ e h k=>yw args e λcl=>match Nx b6 f cl with
  |some v=>oA 64 v λv=>k (.val v) h
  |none=>none
 |.mD f args r=>λb6 _ e h k=>yw args e λcl=>match Nx b6 f cl with
  |some v=>oA 64 v λv=>match nv 64 v r with
   |true=>k (.val r) h
   |false=>none
  |none=>none
 |.nt f args=>λb6 bE e h k=>yw args e λcl=>b6 bE (.fn (.func f) [] []) cl h k
 |.nu x args=>λb6 bE e h k=>lT x e λx=>match x with
  |.fn (.func f) fs Z=>yw args e λcl=>b6 bE (.fn (.func f) fs Z) cl h k
  |_=>none
 |.eU x=>λ_ _ e h k=>lT x e λx=>match ox x with
  |some v=>k (.eU [{v:=v,recovered:=false}]) h
  |none=>none
abbrev x_:=qL->o3->Env->dX->(Env->dX->Option U)->(List PanicEntry->dX->Option U)->Option U
noncomputable def Tw(d:Option Nat)(next:x_):Out->x_:=match d with
 |some d=>λo=>match o with
  |.val v=>λb6 bE e h k kp=>next b6 bE ((d,v)::e) h k kp
  |.eU ch=>λ_ _ _ h _ kp=>kp ch h
 |none=>λo=>match o with
  |.val v=>λb6 bE e h k kp=>next b6 bE e h k kp
  |.eU ch=>λ_ _ _ h _ kp=>kp ch h
noncomputable def N1:aL->x_->x_
 |⟨d,none,i⟩=>λnext b6 bE e h k kp=>tM i b6 bE e h λo h'=>Tw d next o b6 bE e h' k kp
 |⟨d,some (g,w),i⟩=>λnext b6 bE e h k kp=>Ef g e λv=>match v with
  |.v (.bool b)=>match Bool.xor b w with
   |false=>tM i b6 bE e h λo h'=>Tw d next o b6 bE e h' k kp
   |true=>next b6 bE (nF d gM e) h k kp
  |.aK []=>next b6 bE (nF d gM e) h k kp
  |_=>none
noncomputable def Fa(l:List aL):x_:=@vT aL (λ_=>x_) (λ_ _ e h k _=>k e h) (λo _ ih=>N1 o ih) l
def aau(e:Env):Option (Nat×Bool)->Option Bool
 |none=>some true
 |some (k,w)=>match eX e k with
  |some (.v (.bool b))=>some (b==w)
  |some (.aK [])=>some false
  |_=>none
noncomputable def NG(c:aL)(e:Env)(h:dX):Bool:=match c.ins,c.dst with
 |.op o,some d=>match aau e c.guard with
  |some true=>match eX e d,pR o e h λu _=>some u with
   |some v,some u=>nv 64 u v
   |_,_=>false
  |some false=>match eX e d with
   |some v=>nv 64 v gM
   |none=>false
  |none=>false
 |_,_=>false
noncomputable def TQ(l:List (aL×List aL)):x_:=@vT (aL×List aL) (λ_=>x_) (λ_ _ e h k _=>k e h) (λp _ ih=>N1 p.1 λb6 bE e h k kp=>match p.2.all (λc=>NG c e h) with
 |true=>ih b6 bE e h k kp
 |false=>none) l
abbrev x6:=Exit->Env->dX->Option U
noncomputable def S7(f:Env->dX->x6->Option U)(m:Nat):Env->dX->x6->Option U:=@F6 (λ_=>Env->dX->x6->Option U) (λ_ _ _=>none) (λ_ ih e h k=>f e h λx=>match x with
 |.normal=>λe' h'=>ih e' h' k
 |x=>λe' h'=>k x e' h') m
noncomputable def xq(st:LoopState)(pd:Option Code):aa:=.aS st pd [] #[] (λ_ _=>False)
noncomputable def Up(k0:Nat)(L:List Nat)(e:Env)(k:x6)(h:dX):Option U:=vm h k0 λb=>match b with
 |.aS st pd _ _ _=>match st with
  |.busy=>none
  |_=>vG h k0 (λ_ k=>k (xq .exhausted pd)) λV=>match pd with
   |none=>ru L e λe'=>k .normal e' V
   |some .ret=>ru L e λe'=>k .ret e' V
   |some (.exit id)=>ru L e λe'=>k (.exit id) e' V
   |_=>none
 |_=>none
def told(t:U)(d:Nat):U:=match t with
 |.aK l=>go l
 |_=>.af
where go:List U->U
 |.aK [.mp j _,v]::r=>if de j d then v else go r
 |_=>.af
abbrev l9:=qL->Nat->Bool->o3->Env->dX->x6->Option U
noncomputable def Lb(L:List Nat):l9:=λ_ _ _ _ e h k=>ru L e λe'=>k .normal e' h
noncomputable def K9(ops:List aL)(L:List Nat):l9:=λb6 _ _ bE e h k=>Fa ops b6 bE e h (λe' h'=>ru L e' λe'=>k .normal e' h') λch h'=>k (.panic ch) (mj ops e) h'
noncomputable def B3(xa jS:l9):l9:=λb6 aY nest bE e h k=>xa b6 aY nest bE e h λx=>match x with
 |.normal=>λe' h'=>jS b6 aY nest bE e' h' k
 |x=>λe' h'=>k x e' h'
noncomputable def K4(c:bJ)(xa jS:l9):l9:=λb6 aY nest bE e h k=>lT c e λv=>match v with
 |.v (.bool true)=>xa b6 aY nest bE e h k
 |.v (.bool false)=>jS b6 aY nest bE e h k
 |_=>none
noncomputable def B0(id:Nat)(xa:l9):l9:=λb6 aY nest bE e h k=>xa b6 aY nest bE e h λx=>match x with
 |.exit id'=>λe' h'=>match de id' id with
  |true=>k .normal e' h'
  |false=>k (.exit id') e' h'
 |x=>λe' h'=>k x e' h'
noncomputable def al5(xa:l9):l9:=λb6 aY nest bE e h k=>S7 (xa b6 aY nest bE) aY e h k
noncomputable def K5(id:Nat)(L:List Nat):l9:=λ_ _ _ _ e h k=>ru L e λe'=>k (.exit id) e' h
noncomputable def La(L:List Nat):l9:=λ_ _ _ _ e h k=>ru L e λe'=>k .ret e' h
noncomputable def K7(x:bJ)(ps:List Nat)(a b:c8)(L:List Nat):l9:=λb6 aY nest bE e h k=>lT x e λv=>match v with
 |.fn (.func g) fs Z=>(λgo=>match nest with
  |true=>go h
  |false=>AX h (.obj (.deferred none)) go) λY=>jH Y.n λk0=>AX Y (xq .ready none) λV=>
   b6 ((k0,⟨ps,a,b,e⟩)::bE) (.fn (.func g) [] []) (fs++[.gu k0]++Z) V (FO λ_ h'=>Up k0 L e k h')
 |_=>none
noncomputable def K8(ls:List (List aL))(L:List Nat):l9:=λb6 _ _ bE e h k=>match ls with
 |[]=>none
 |l0::r=>match Fa l0 b6 bE e h (λe' _=>some (.aK (e'.map λp=>.aK [.mp p.1 0,p.2]))) (λ_ _=>none) with
  |some t=>match Fa (l0.map (tell (told t))) b6 bE e h (λe' h'=>ru L e' λe'=>k .normal e' h') (λch h'=>k (.panic ch) (mj ls.flatten e) h') with
   |some x=>match r.all (λl=>match Fa (l.map (tell (told t))) b6 bE e h (λe' h'=>ru L e' λe'=>k .normal e' h') (λch h'=>k (.panic ch) (mj ls.flatten e) h') with
     |some y=>nv 64 x y
     |none=>false) with
    |true=>some x
    |false=>none
   |none=>none
  |none=>none
noncomputable def K_(l:List (aL×List aL))(L:List Nat):l9:=λb6 _ _ bE e h k=>TQ l b6 bE e h (λe' h'=>ru L e' λe'=>k .normal e' h') λch h'=>k (.panic ch) (mj (l.map (·.1)) e) h'
noncomputable def B2(xa:l9):l9:=λb6 aY nest bE e h k=>xa b6 aY nest bE e h λx=>match x with
 |.goto _=>λ_ _=>none
 |x=>λe' h'=>k x e' h'
noncomputable def K6(L:List Nat):l9:=λ_ _ _ _ e h k=>ru L e λe'=>k .normal e' h
noncomputable def al4:l9:=λ_ _ _ _ _ _ _=>none
noncomputable def j3(c:c8):l9:=@c8.rec (λ_=>l9) (λL=>Lb L)
 (λops L=>K9 ops L)
 (λ_ _ xa jS=>B3 xa jS)
 (λc _ _ xa jS=>K4 c xa jS)
 (λid _ xa=>B0 id xa)
 (λ_ xa=>al5 xa)
 (λid L=>K5 id L)
 (λL=>La L)
 (λx ps a b L _ _=>K7 x ps a b L)
 (λls L=>K8 ls L)
 (λl L=>K_ l L)
 (λ_ xa=>B2 xa)
 (λL=>K6 L)
 al4 c
def YT:j3 (.skip L)=Lb L:=rfl
def YP{ops:List aL}:j3 (.region ops L)=K9 ops L:=rfl
def GR{b:c8}:j3 (.seq a b)=B3 (j3 a) (j3 b):=rfl
def YL{c:bJ}{b:c8}:j3 (.cond c a b)=K4 c (j3 a) (j3 b):=rfl
def GP:j3 (.block id a)=B0 id (j3 a):=rfl
def YM:j3 (.exit id L)=K5 id L:=rfl
def YS:j3 (.ret L)=La L:=rfl
def YO{x:bJ}{ps:List Nat}{b:c8}:j3 (.oL x ps a b L)=K7 x ps a b L:=rfl
def YQ{ls:List (List aL)}:j3 (.oN ls L)=K8 ls L:=rfl
def YR{l:List (aL×List aL)}:j3 (.oe l L)=K_ l L:=rfl
def GQ:j3 (.scope a)=B2 (j3 a):=rfl
def YN:j3 (.lab L)=K6 L:=rfl
inductive jg where
 |plain (n:Nat) (rs:List e8) (c:c8)
 |loops (n:Nat) (rs:List e8) (c:c8)
 |oy (n:Nat) (rs:List e8) (a:c8) (t:Nat) (g:FuncId) (caps:List bJ) (b:c8)
 |C7 (n d0 d1:Nat) (c:c8)
 |KK (t:TypeId×Nat)
 |KO (e:TypeId)
 |M6 (l:List (TypeId×String×FuncId))
def auW:FuncId:=4000000
def Hh:List (TypeId×String×FuncId)->TypeId->String->Option FuncId
 |[],_,_=>none
 |(t',n',g)::r,t,n=>match de t' t with
  |true=>match decide (n'=n) with
   |true=>some g
   |false=>Hh r t n
  |false=>Hh r t n
def QV:∀{l:List (TypeId×String×FuncId)} {t:TypeId} {n:String} {g:FuncId},Hh l t n=some g->(t,n,g)∈l
 |[],_,_,_,h=>aCL
 |(t',n',g')::r,t,n,g,h=>by
  unfold Hh at h;split at h;rename_i ht;have:=p9 ht;subst this;split at h;rename_i hn;have:=of_decide_eq_true hn;subst this;cases h;exact vS;exact qJ _ (QV h);exact qJ _ (QV h)
def Gc(P:Program)(f:FuncId):jg->Prop
 |.plain n rs c=>(∃hb,pV P hb f=some ⟨n,rs,c.aV⟩)/\c.fits n=true
 |.loops n rs c=>(∃hb,pV P hb f=some ⟨n,rs,c.aV⟩)/\c.mR n true=true
 |.oy n rs a t g caps b=>(∃hb,FF P hb f=some ⟨n,rs,a.aV,t,g,caps,b.aV⟩)/\a.fits n=true/\b.fits n=true/\t<n
 |.C7 n d0 d1 c=>(∃hb,FG P hb f=some ⟨n,d0,d1,c.aV⟩)/\c.fits n=true/\d0<n/\d1<n
 |.KK t=>Kd P f t
 |.KO e=>Kv P f e
 |.M6 l=>∀e∈l,MZ P e.1 e.2.1=some e.2.2
noncomputable def Un:e8->Env->dX->(U->Option U)->Option U
 |.s t=>λe _ k=>Ef t e k
 |.c t aG n=>λe h k=>Ef t e λp=>CP p aG n h k
def awD{x:e8}:Un x e (R H) k=(xF e H x).bind k:=by
 cases x with
 |s t=>exact Li
 |c t aG n=>simp only[Un,Li,ae4,xF,xZ]
noncomputable def NN:List e8->Env->dX->(List U->Option U)->Option U
 |[]=>λ_ _ k=>k []
 |x::r=>λe h k=>Un x e h λv=>NN r e h λl=>k (v::l)
def agX:∀{l:List e8} {e:Env} {H:List aa} {k:List U->Option U},NN l e (R H) k=(qC e H l).bind k
 |[],e,H,k=>rfl
 |x::r,e,H,k=>by
  simp only[NN,awD,agX,qC,xZ];cases xF e H x with
  |none=>rfl
  |some v=>simp only[ko];cases qC e H r<;>rfl
noncomputable def vr(rs:List e8)(e:Env)(h:dX)(k:s8):Option U:=NN rs e h λl=>match l with
 |[x]=>k (.val x) h
 |l=>k (.val (.aK l)) h
def awZ{rs:List e8}{k:s8}:vr rs e (R H) k=(jn e H rs).bind λv=>k (.val v) (R H):=by
 simp only[vr,agX,jn];cases qC e H rs with
 |none=>rfl
 |some l=>
  simp only[ko,ir]
  match l with
  |[]=>rfl
  |[x]=>rfl
  |x::y::l=>rfl
def MN:List U->Option (List Nat)
 |[]=>some []
 |.mp k 0::r=>match MN r with
  |some l=>some (k::l)
  |none=>none
 |_::_=>none
def Oo:List Value->Option (List U)
 |[]=>some []
 |x::r=>if plain x then(match Oo r with|some l=>some (.v x::l)|none=>none) else none
def Vo:Value->Option U
 |.iface t (.agg Z)=>match Oo Z.toList with
  |some l=>some (.cT t (.agg l))
  |none=>none
 |.iface t x=>if plain x then some (.cT t (.v x)) else none
 |_=>none
noncomputable def Fu(hc:FuncId->Option (jg×Nat))(b6:qL)(aY:Nat)(bE:o3)(g:FuncId)(ks:List Nat)(x:Option U)(h:dX)(k:dX->Option U):Option U:=match hc g with
 |some (.C7 n d0 d1 c,_)=>if ks.length<=n then j3 c b6 aY false bE ((d1,nG x)::(d0,nG x)::mP 0 (ks.map λk=>.mp k 0)) h (λx _ h'=>match x with
  |.normal=>k h'
  |.ret=>k h'
  |_=>none) else none
 |_=>none
noncomputable def Zg(rs:List e8)(k:s8):x6
 |.normal=>λe h'=>vr rs e h' k
 |.ret=>λe h'=>vr rs e h' k
 |.panic ch=>λ_ h'=>k (.eU ch) h'
 |_=>λ_ _=>none
noncomputable def Yx(t:TypeId×Nat)(b:Nat)(h:dX)(k:dX->Option U):Option U:=vm h b λx=>match x with
 |.cells (.fM b' t'::z) false=>match de b' b&&de t'.1 t.1&&de t'.2 t.2 with
  |true=>vG h b (λ_ k=>k (.cells (.mp b 0::z) false)) k
  |false=>none
 |.cells (.mp b' 0::_) false=>match de b' b with
  |true=>k h
  |false=>none
 |_=>none
noncomputable def NL:List U->(List UInt8->Option U)->Option U
 |[],k=>k []
 |.v (.int .u8 (.ofNat n))::r,k=>match sS n 255 with
  |true=>NL r λl=>k (rP n::l)
  |false=>none
 |_::_,_=>none
noncomputable def ah4(e:TypeId)(b:Nat)(h:dX)(k:U->Option U):Option U:=vm h b λx=>match x with
 |.cells [_,.af] false=>k (.v (.string .empty))
 |.cells [_,.sl xs (.tok id)] false=>vm h id λy=>match y with
  |.tok n 1 e'=>match de n xs.length&&de e' e&&sS 1 n&&sS n 140737488355328 with
   |true=>NL xs λl=>k (.v (.string ⟨⟨l⟩⟩))
   |false=>none
  |_=>none
 |_=>none
noncomputable def wS(hc:FuncId->Option (jg×Nat)):jg->qL->Nat->o3->List U->dX->s8->Option U
 |.plain n rs c=>λb6 aY bE args h k=>if args.length<=n then j3 c b6 aY false bE (mP 0 args) h (Zg rs k) else none
 |.loops n rs c=>λb6 aY bE args h k=>if args.length<=n then j3 c b6 aY false bE (mP 0 args) h (Zg rs k) else none
 |.oy n rs a t g caps b=>λb6 aY bE args h k=>if args.length<=n then j3 a b6 aY false bE (mP 0 args) h (λx e h'=>match x with
  |.normal=>yw caps e λcl=>match MN cl with
   |some ks=>tB (λx k=>jH x k) ks λks=>j3 b b6 aY false bE ((t,.fn (.func g) [] (ks.map λk=>.mp k 0))::e) h' λx e2 V=>match x with
    |.normal=>Fu hc b6 aY bE g ks none V λh3=>vr rs e2 h3 k
    |.ret=>Fu hc b6 aY bE g ks none V λh3=>vr rs e2 h3 k
    |.panic [{v:=v,recovered:=false,goexit:=false}]=>match Vo v with
     |some xv=>Fu hc b6 aY bE g ks (some xv) V λh3=>vr rs e2 h3 k
     |none=>none
    |_=>none
   |none=>none
  |_=>none) else none
 |.C7 _ _ _ _=>λ_ _ _ _ _ _=>none
 |.M6 _=>λ_ _ _ _ _ _=>none
 |.KK t=>λ_ _ _ args h k=>match args with
  |[.mp b 0]=>Yx t b h λh'=>k (.val (.aK [])) h'
  |_=>none
 |.KO e=>λ_ _ _ args h k=>match args with
  |[.mp b 0]=>ah4 e b h λv=>k (.val v) h
  |_=>none
def LA(k:Nat):o3->Option (Pd×o3)
 |[]=>none
 |(j,r)::bE=>if j=k then some (r,bE) else LA k bE
noncomputable def agO(k0:Nat)(k:s8)(x:Exit)(h:dX):Option U:=vm h k0 λb=>match b with
 |.aS _ _ _ _ _=>match x with
  |.normal=>vG h k0 (λ_ k=>k (xq .ready none)) λh'=>k (.val (.v (.bool true))) h'
  |.ret=>vG h k0 (λ_ k=>k (xq .done (some .ret))) λh'=>k (.val (.v (.bool false))) h'
  |.exit id=>vG h k0 (λ_ k=>k (xq .done (some (.exit id)))) λh'=>k (.val (.v (.bool false))) h'
  |_=>none
 |_=>none
noncomputable def AV:s8:=λo h=>match o with
 |.val r=>b7 (Be h) 64 r
 |.eU _=>none
noncomputable def FA:aa->aa->Bool
 |.cells Z r,.cells cs' r'=>tw (nv 64) Z cs'&&r==r'
 |.tok n s e,.tok n' s' e'=>de n n'&&de s s'&&de e e'
 |.obj (.deferred _),.obj (.deferred _)=>true
 |.obj (.stringIter s p),.obj (.stringIter s' p')=>G5 (.string s) (.string s')&&de p p'
 |.cQ es bx,.cQ es' iI=>tw (λp q=>nv 64 p.1 q.1&&nv 64 p.2.1 q.2.1&&de p.2.2 q.2.2) es es'&&de bx iI
 |.aS st pd _ _ _,.aS st' jA _ _ _=>(match st,st' with
  |.ready,.ready=>true
  |.busy,.busy=>true
  |.exhausted,.exhausted=>true
  |.done,.done=>true
  |_,_=>false)&&(match pd,jA with
  |none,none=>true
  |_,_=>false)
 |_,_=>false
def axA{a b:aa}(h:FA (aV a) (aV b)=true):aV a=aV b:=by
 cases a with
 |cells Z r=>cases b with
  |cells cs' r'=>
   simp only[aV,FA,dV,beq_iff_eq] at h;show aj Z r=aj cs' r';rw[Ll (λq=>wM q) h.1,h.2]
  |obj o=>cases o<;>cases h
  |_=>cases h
 |tok n s e=>cases b with
  |tok n' s' e'=>
   simp only[aV,FA,dV,sR] at h;show aa.tok n s e=aa.tok n' s' e';rw[h.1.1,h.1.2,h.2]
  |obj o=>cases o<;>cases h
  |_=>cases h
 |cQ es bx=>cases b with
  |cQ es' iI=>
   simp only[aV,FA,dV,sR] at h;show FU es bx=FU es' iI;rw[Ll (λ{p q} w=>?_) h.1,h.2];simp only[dV,sR] at w;obtain⟨a,b,c⟩:=p;obtain⟨a',b',c'⟩:=q;obtain⟨⟨w1,w2⟩,w3⟩:=w;have e1:a=a':=wM w1;have e2:b=b':=wM w2;have bW:c=c':=w3;rw[e1,e2,bW]
  |obj o=>cases o<;>cases h
  |_=>cases h
 |aS st pd ats ps ok=>cases b with
  |aS st' jA GC ps' ok'=>
   simp only[aV,FA,dV] at h;obtain⟨Y,V⟩:=h
   have e1:st=st':=by cases st<;>cases st'<;>first|rfl|cases Y
   subst e1;simp only[aV];split at V;rename_i q1 ah;rw[q1,ah];cases V
  |obj o=>cases o<;>cases h
  |_=>cases h
 |obj o=>
  cases b with
  |obj o'=>
   cases o<;>cases o'<;>first|rfl|(cases h;done)|skip
   rename_i s p s' p';have h':(G5 (.string s) (.string s')&&de p p')=true:=h;rw[dV,sR] at h';have:=Zk h'.1;cases this;rw[h'.2]
  |_=>cases o<;>cases h
noncomputable def NP:List aa->List aa->Bool
 |[],_=>true
 |_::_,[]=>false
 |a::r,b::s=>FA a b&&NP r s
def ahc:∀{l m:List aa},(∀b∈l,∃a,b=aV a)->(∀b∈m,∃a,b=aV a)->NP l m=true->m.take l.length=l
 |[],_,_,_,_=>aCt
 |_::_,[],_,_,h=>aCL
 |a::r,b::s,Y,V,h=>by
  simp only[NP,dV] at h;obtain⟨a',ha⟩:=Y a aCt;obtain⟨b',O⟩:=V b aCt;subst ha;subst O;simp only[di,sQ];rw[ahc (λb O=>Y b aEe) (λb O=>V b aEe) h.2,axA h.1]
noncomputable def UG(h h':dX):Bool:=sS h.n h'.n&&NP h.l (h'.l.drop (h'.n-h.n))
def axB{J hp':List aa}(h:UG (R (J.map aV)) (R (hp'.map aV))=true):(hp'.map aV).take J.length=J.map aV:=by
 simp only[UG,R,dV,bX] at h;obtain⟨Y,V⟩:=h;have Y:=nQ Y;have:=ahc (λb O=>by
  simp only[List.mem_reverse,cI] at O;obtain⟨a,_,rfl⟩:=O;exact⟨a,rfl⟩) (λb O=>by
  have:=rN O;simp only[List.mem_reverse,cI] at this;obtain⟨a,_,rfl⟩:=this;exact⟨a,rfl⟩) V
 rw[lH aCv] at this;have h3:=congrArg List.reverse this;rw[ajw,List.drop_reverse,ajw] at h3;rw[bX] at h3;rw[<-h3];congr 1;omega
noncomputable def YH(h:dX):s8:=λo h'=>match o with
 |.val r=>match UG h h' with
  |true=>b7 (mask h.n (Be h')) 64 r
  |false=>none
 |.eU _=>none
noncomputable def zS(hc:FuncId->Option (jg×Nat))(oc:FuncId->List U->Option U)(aY:Nat)(b6:qL):qL:=λbE x=>match x with
 |.fn (.func f) fs Z=>λargs h k=>tB (λx k=>k x) (fs++args++Z) λcl=>match hc f with
  |none=>match iz (b7 [] 64) cl with
   |some bs=>match oc f bs with
    |some v=>oA 64 v λv=>k (.val v) h
    |none=>none
   |none=>none
  |some (nw,pu)=>match pu with
   |0=>wS hc nw b6 aY bE cl h k
   |2=>match wS hc nw b6 aY bE cl h (YH h) with
    |some v=>oA 64 v λv=>k (.val v) h
    |none=>none
   |_=>match iz (b7 [] 64) cl with
    |some bs=>match wS hc nw b6 aY [] bs (R []) AV with
     |some v=>oA 64 v λv=>k (.val v) h
     |none=>none
    |none=>none
 |.fn (.method nm) [] _=>λargs h k=>match args with
  |.cT t x::rest=>match hc auW with
   |some (.M6 l,_)=>match Hh l t nm with
    |some g=>b6 bE (.fn (.func g) [] []) (x::rest) h k
    |none=>none
   |_=>none
  |_=>none
 |.gu k0=>λargs h k=>match LA k0 bE with
  |some (rc,Bl)=>if args.length=rc.ps.length then vm h k0 λb=>match b with
    |.aS .ready _ _ _ _=>j3 rc.a b6 aY true Bl (rA rc.e (rc.ps.zip args)) h λx e1 Y=>match x with
     |.normal=>vm Y k0 λb=>match b with
      |.aS .ready _ _ _ _=>vG Y k0 (λ_ k=>k (xq .busy none)) λh1'=>j3 rc.b b6 aY true Bl e1 h1' λx e2 V=>agO k0 k x V
      |_=>none
     |_=>none
    |_=>none
   else none
  |none=>none
 |_=>λ_ _ _=>none
noncomputable def Eh(hc:FuncId->Option (jg×Nat))(oc:FuncId->List U->Option U)(aY:Nat):Nat->qL
 |0=>λ_ _ _ _ _=>none
 |d+1=>zS hc oc aY (Eh hc oc aY d)
end
section
variable{i:fL}{E:Hid kz}{e:Env}{J:List aa}{r v:U}{bE:o3}{st:LoopState}{pd:Option Code}{ats:List U}{ps:Array Tmp}{ok:Code->Code->Prop}
section
variable{G:Cells}{P:Program}
def Sv{F F':Hid (U->List aa->Prop)}{E':Hid kz}(h:@gY G P i F E e J)(hF:∀v J,F.v v J->F'.v v J)(hE:∀ch J,E.v ch J->E'.v ch J):@gY G P i F' E' e J:=by
 cases i with
 |op o=>obtain⟨v,Y,V⟩:=h;exact⟨v,Y,hF _ _ V⟩
 |call f args=>obtain⟨cl,Y,V⟩:=h;exact⟨cl,Y,a_ V hF⟩
 |lQ x args=>
  obtain⟨x',h0,cl,Y,V⟩:=h;exact⟨x',h0,cl,Y,rL V hF⟩
 |lz f args=>obtain⟨cl,Y,bs,r',V,h3,h4⟩:=h;exact⟨cl,Y,bs,r',V,h3,hF _ _ h4⟩
 |mD f args r=>obtain⟨cl,Y,bs,V,h3,h4⟩:=h;exact⟨cl,Y,bs,V,h3,hF _ _ h4⟩
 |nt f args=>obtain⟨cl,Y,V⟩:=h;exact⟨cl,Y,e4 V hF hE⟩
 |nu x args=>
  obtain⟨x',h0,cl,Y,V⟩:=h;exact⟨x',h0,cl,Y,VM V hF hE⟩
 |eU x=>obtain⟨v,Y,V⟩:=h;exact⟨v,Y,hE _ _ V⟩
def an8{w:Bool}{A B A' B':Hid Prop}(h:@q2 w v A B)(Y:A.v->A'.v)(V:B.v->B'.v):@q2 w v A' B':=by
 unfold q2 at h⊢;split at h;cases w with
 |true=>exact⟨λq=>Y (h.1 q),λq=>V (h.2 q)⟩
 |false=>exact⟨λq=>V (h.1 q),λq=>Y (h.2 q)⟩
 exact V h;exact h.elim
def Gp:∀{l:List aL} {K K':Hid (Env->List aa->Prop)} {E E':Hid kz} {e:Env} {J:List aa},@iF G P l K E e J->(∀e J,K.v e J->K'.v e J)->(∀ch J,E.v ch J->E'.v ch J)->@iF G P l K' E' e J
 |[],K,K',E,E',e,J,h,S,hE=>by rw[BJ] at h⊢;exact S _ _ h
 |⟨d,g,i⟩::r,K,K',E,E',e,J,h,S,hE=>by
  rcases g with _|⟨k,w⟩
  rw[DV] at h⊢;exact Sv h (λv hp' q=>Gp q S hE) hE;rw[DU] at h⊢;obtain⟨g,Y,V⟩:=h;exact⟨g,Y,an8 V (λq=>Sv q (λv hp' q=>Gp q S hE) hE) λq=>Gp q S hE⟩
def WT:∀{l:List (aL×List aL)} {K K':Hid (Env->List aa->Prop)} {E E':Hid kz} {e:Env} {J:List aa},@qS G P l K E e J->(∀e J,K.v e J->K'.v e J)->(∀ch J,E.v ch J->E'.v ch J)->@qS G P l K' E' e J
 |[],K,K',E,E',e,J,h,S,hE=>by rw[DW] at h⊢;exact S _ _ h
 |(o,Z)::r,K,K',E,E',e,J,h,S,hE=>by
  rw[DX] at h⊢;exact Gp h (λe J k=>⟨k.1,WT k.2 S hE⟩) hE
def o4(G:Cells)(P:Program)(bE:o3)(J:List aa):Prop:=∀k rc,(k,rc)∈bE->∃ats ok st pd,J[k]?=some (.aS st pd ats rc.ps.toArray ok)/\
 Pn G P k ats rc.ps ok (λhi e J=>@cJ G P true rc.a ⟨hi⟩ e J) (λhi e J=>@cJ G P true rc.b ⟨hi⟩ e J) rc.e
def o4.keeps{hp':List aa}(h:o4 G P bE J)(S:eA J hp'):o4 G P bE hp':=λk rc hm=>by
 obtain⟨ats,ok,st,pd,Y,V⟩:=h k rc hm;obtain⟨st',jA,h3⟩:=S _ _ _ _ _ _ Y;exact⟨ats,ok,st',jA,h3,V⟩
def SX:o4 G P [] J:=λk rc hm=>by cases hm
def BA(G:Cells)(P:Program)(b6:qL):Prop:=∀bE x args J k r,o4 G P bE J->b6 bE x args (R (J.map aV)) k=some r->
 ((∀ch h,k (.eU ch) h=none)->gW G P x args J λv hp'=>k (.val v) (R (hp'.map aV))=some r/\eA J hp')/\
 (∀f fs Z,x=.fn (.func f) fs Z->fJ G P f (fs++args++Z) J (λv hp'=>k (.val v) (R (hp'.map aV))=some r/\eA J hp') λch hp'=>k (.eU ch) (R (hp'.map aV))=some r/\eA J hp')
def Em:∀{n:Nat} {x r:U},b7 (J.map aV) n x=some r->b7 J n x=some r
 |0,x,r,h=>aCL
 |n+1,x,r,h=>by
  have mp:∀{l:List U} {m:List U},iz (b7 (J.map aV) n) l=some m->iz (b7 J n) l=some m:=by
   intro l
   induction l with
   |nil=>intro m h;exact h
   |cons a l ih=>
    intro m h;simp only[iz] at h⊢;split at h;rename_i y hy;rw[Em hy];simp only;split at h;rename_i l' hl;rw[ih hl];exact h;cases h;cases h
  have AO:∀{l:List U} {g:List U->U} {y:U},(iz (b7 (J.map aV) n) l).map g=some y->(iz (b7 J n) l).map g=some y:=by
   intro l g y h;rw[cg] at h⊢;obtain⟨m,Y,V⟩:=h;exact⟨m,mp Y,V⟩
  unfold b7 at h⊢;cases x<;>simp only at h⊢
  case v=>exact h
  case af=>exact h
  case agg=>exact AO h
  case aK=>exact AO h
  case sl=>exact AO h
  case fp=>exact AO h
  case cT t x=>
   rw[cg] at h⊢;obtain⟨y,Y,V⟩:=h;exact⟨y,Em Y,V⟩
  case fn f a b=>
   simp only[eW] at h⊢;obtain⟨a',Y,V⟩:=h;exact⟨a',mp Y,AO V⟩
  case mp k off=>
   split at h;rename_i Z S;rw[pq S];exact AO h;cases h
  case rp k m off=>
   split at h;rename_i Z S;rw[pq S];simp only;split at h;rename_i T;rw[if_pos T];exact AO h;cases h;cases h
  case rs k m sz off len=>
   split at h;rename_i Z S;rw[pq S];simp only;split at h;rename_i T;rw[if_pos T];exact AO h;cases h;cases h
  all_goals cases h
def Eb{f:FuncId}{fs Z args:List U}{K:U->List aa->Prop}:gW G P (.fn (.func f) fs Z) args J K=bq G P f (fs++args++Z) J K:=rfl
def Vr{k:U->dX->Option U}:∀ch h,FO k (.eU ch) h=none:=λ_ _=>rfl
def agj{b6:qL}(gb:BA G P b6){f:FuncId}{cl:List U}(h:Nx b6 f cl=some v):∃bs,nj cl bs/\b_ G P f bs v:=by
 unfold Nx at h;split at h;rename_i bs HF;refine⟨bs,Q6 HF,eg ?_⟩;have:=(gb [] (.fn (.func f) [] []) bs [] _ v SX h).1 λ_ _=>rfl;rw[Eb,eH,ff] at this;exact a_ this λr hp' k=>⟨64,Em (by have:=k.1;rw[Dk] at this;exact this)⟩;cases h
variable{b6:qL}(gb:BA G P b6)
include gb
def aqX{k:s8}(dU:o4 G P bE J)(h:tM i b6 bE e (R (J.map aV)) k=some r):
  @gY G P i ⟨λv hp'=>k (.val v) (R (hp'.map aV))=some r/\eA J hp'⟩ ⟨λch hp'=>k (.eU ch) (R (hp'.map aV))=some r/\eA J hp'⟩ e J:=by
 cases i with
 |op o=>
  simp only[tM,af1,eW] at h;obtain⟨⟨v,hE⟩,Y,V⟩:=h;obtain⟨hp',q1,rfl,aP⟩:=YJ J v hE Y;exact⟨(v,hp'),q1,V,aP⟩
 |call f args=>
  simp only[tM,Ab,eW] at h;obtain⟨cl,Y,V⟩:=h;have:=(gb bE _ cl J _ r dU V).1 Vr;rw[Eb,eH,ff] at this;exact⟨cl,Y,this⟩
 |lQ x args=>
  simp only[tM,pF,Ab,eW] at h;obtain⟨x',h0,cl,Y,V⟩:=h;exact⟨x',h0,cl,Y,(gb bE _ cl J _ r dU V).1 Vr⟩
 |lz f args=>
  simp only[tM,Ab,eW] at h;obtain⟨cl,Y,V⟩:=h;split at V;rename_i v hv;rw[wT] at V;obtain⟨bs,q1,ah⟩:=agj gb hv;exact⟨cl,Y,bs,v,q1,ah,V,p5 J⟩;cases V
 |mD f args r'=>
  simp only[tM,Ab,eW] at h;obtain⟨cl,Y,V⟩:=h;split at V;rename_i v hv;rw[wT] at V;obtain⟨bs,q1,ah⟩:=agj gb hv;split at V;rename_i heq;have:=wM heq;subst this;exact⟨cl,Y,bs,q1,ah,V,p5 J⟩;cases V;cases V
 |nt f args=>
  simp only[tM,Ab,eW] at h;obtain⟨cl,Y,V⟩:=h;have:=(gb bE _ cl J _ r dU V).2 f [] [] rfl;rw[eH,ff] at this;exact⟨cl,Y,this⟩
 |nu x args=>
  simp only[tM,pF,eW] at h;obtain⟨x',h0,V⟩:=h;split at V;rename_i f fs Z;simp only[Ab,eW] at V;obtain⟨cl,Y,V⟩:=V;exact⟨_,h0,cl,Y,(gb bE _ cl J _ r dU V).2 f fs Z rfl⟩;cases V
 |eU x=>
  simp only[tM,pF,eW] at h;obtain⟨x',h0,V⟩:=h;split at V;rename_i v hv;exact⟨v,by rw[h0];exact hv,V,p5 J⟩;cases V
def ahF{o:aL}{next:x_}{an:Env->dX->Option U}{kp:List PanicEntry->dX->Option U}{l:List aL}{K:Hid (Env->List aa->Prop)}(dU:o4 G P bE J)(h:N1 o next b6 bE e (R (J.map aV)) an kp=some r)
  (hn:∀e hp',eA J hp'->next b6 bE e (R (hp'.map aV)) an kp=some r->@iF G P l K E e hp') (hE:∀ch hp',eA J hp'->kp ch (R (hp'.map aV))=some r->E.v ch hp'):@iF G P (o::l) K E e J:=by
 obtain⟨d,g,i⟩:=o;have yes:tM i b6 bE e (R (J.map aV)) (λo h'=>Tw d next o b6 bE e h' an kp)=some r->@gY G P i ⟨λv hp'=>@iF G P l K E (nF d v e) hp'⟩ E e J:=λq=>by
  refine Sv (aqX gb dU q) (λv hp' ⟨k1,k2⟩=>?_) λch hp' ⟨k1,k2⟩=>hE ch hp' k2 (by cases d<;>exact k1);refine hn _ hp' k2 ?_;cases d<;>exact k1
 cases g with
 |none=>rw[DV];exact yes h
 |some an9=>
  obtain⟨g,w⟩:=an9;rw[DU];simp only[N1,Li,eW] at h;obtain⟨v,Y,V⟩:=h;refine⟨v,Y,?_⟩;dsimp only;split at V
  · rename_i b
    cases I:Bool.xor b w with
    |false=>
     rw[I] at V
     have O:b=w:=by cases b<;>cases w<;>first|rfl|cases I
     subst O;cases b with
     |true=>exact⟨λ_=>yes V,nofun⟩
     |false=>exact⟨nofun,λ_=>yes V⟩
    |true=>
     rw[I] at V;have no:=hn _ J (p5 J) V
     cases b<;>cases w<;>first|(cases I;done)|skip
     exact⟨nofun,λ_=>no⟩;exact⟨λ_=>no,nofun⟩
  exact hn _ J (p5 J) V;cases V
def No:∀{l:List aL} {bE:o3} {e:Env} {J:List aa} {an:Env->dX->Option U} {kp:List PanicEntry->dX->Option U} {r:U},o4 G P bE J->Fa l b6 bE e (R (J.map aV)) an kp=some r->
  @iF G P l ⟨λe' hp'=>an e' (R (hp'.map aV))=some r/\eA J hp'⟩ ⟨λch hp'=>kp ch (R (hp'.map aV))=some r/\eA J hp'⟩ e J
 |[],bE,e,J,an,kp,r,dU,h=>by rw[BJ];exact⟨h,p5 J⟩
 |o::l,bE,e,J,an,kp,r,dU,h=>by
  refine ahF gb (next:=Fa l) dU h (λe hp' S q=>?_) λch hp' S q=>⟨q,S⟩;exact Gp (No (dU.keeps S) q) (λe gJ k=>⟨k.1,S.trans k.2⟩) λch gJ k=>⟨k.1,S.trans k.2⟩
omit gb in
def awN{c:aL}(h:NG c e (R (J.map aV))=true):oM c e J:=by
 unfold NG at h;unfold oM;split at h;rename_i o d Q hd;have yes:(match eX e d,pR o e (R (J.map aV)) λu _=>some u with|some v,some u=>nv 64 u v|_,_=>false)=true->@e_ _ (eX e d) ⟨λv=>@e_ _ (bz e J o) ⟨λr=>r.1=v⟩⟩:=λq=>by
  split at q;rename_i v u hv hu;rw[af1,eW] at hu;obtain⟨⟨u',hE⟩,hu,h3⟩:=hu;cases h3;obtain⟨hp',q1,_,_⟩:=YJ J _ hE hu;exact⟨v,hv,(_,hp'),q1,wM q⟩;cases q
 rw[Q,hd];simp only;unfold aau at h;split at h;rename_i hg;split at hg;rename_i T;rw[T];exact yes h;rename_i k w T;rw[T];split at hg;rename_i b S;simp only[lI,beq_iff_eq] at hg;subst hg;refine⟨_,S,?_⟩;cases b with
 |true=>exact⟨λ_=>yes h,nofun⟩
 |false=>exact⟨nofun,λ_=>yes h⟩
 cases hg;cases hg;rename_i hg;have no:@e_ _ (eX e d) ⟨λv=>v=gM⟩:=by
  split at h;rename_i v hv;exact⟨v,hv,wM h⟩;cases h
 split at hg;cases hg;rename_i k w T;rw[T];split at hg;rename_i b S;simp only[lI,beq_eq_false_iff_ne,ne_eq] at hg;refine⟨_,S,?_⟩
 cases b<;>cases w<;>first|(exact(hg rfl).elim)|skip
 exact⟨nofun,λ_=>no⟩;exact⟨λ_=>no,nofun⟩;rename_i S;exact⟨_,S,no⟩;cases hg;cases h;cases h
def af2:∀{l:List (aL×List aL)} {bE:o3} {e:Env} {J:List aa} {an:Env->dX->Option U} {kp:List PanicEntry->dX->Option U} {r:U},o4 G P bE J->TQ l b6 bE e (R (J.map aV)) an kp=some r->
  @qS G P l ⟨λe' hp'=>an e' (R (hp'.map aV))=some r/\eA J hp'⟩ ⟨λch hp'=>kp ch (R (hp'.map aV))=some r/\eA J hp'⟩ e J
 |[],bE,e,J,an,kp,r,dU,h=>by rw[DW];exact⟨h,p5 J⟩
 |(o,Z)::l,bE,e,J,an,kp,r,dU,h=>by
  rw[DX];refine ahF gb (next:=λb6 bE e h k kp=>match Z.all (λc=>NG c e h) with
   |true=>TQ l b6 bE e h k kp
   |false=>none) dU h (λe hp' S q=>?_) λch hp' S q=>⟨q,S⟩
  rw[BJ];dsimp only at q⊢;split at q;rename_i hall;refine⟨?_,WT (af2 (dU.keeps S) q) (λe gJ k=>⟨k.1,S.trans k.2⟩) λch gJ k=>⟨k.1,S.trans k.2⟩⟩;clear q h
  induction Z with
  |nil=>trivial
  |cons c Z ih=>
   simp only[l5,dV] at hall;exact⟨awN hall.1,ih hall.2⟩
  cases q
omit gb in
def auq{a:c8}{nest:Bool}{f:Env->dX->x6->Option U}{k:x6}{ew:List aa}(dU:o4 G P bE ew)(hf:∀e J k,o4 G P bE J->f e (R (J.map aV)) k=some r->@cJ G P nest a ⟨λx e' hp'=>k x e' (R (hp'.map aV))=some r/\eA J hp'⟩ e J){m:Nat}(S:eA ew J)(h:S7 f m e (R (J.map aV)) k=some r):@cJ G P nest (.loop a) ⟨λx e' hp'=>k x e' (R (hp'.map aV))=some r/\eA ew hp'⟩ e J:=by
 rw[JH];refine⟨λm e J=>S7 f m e (R (J.map aV)) k=some r/\eA ew J,m,⟨h,S⟩,λm e J ⟨Y,V⟩=>?_⟩;cases m with
 |zero=>cases Y
 |succ m=>
  refine pZ (hf e J _ (dU.keeps V) Y) λx e' hp' ⟨k1,k2⟩=>?_;cases x with
  |normal=>exact⟨m,zo m,k1,V.trans k2⟩
  |_=>exact⟨k1,V.trans k2⟩
omit gb in
def SM{k:Nat}{st':LoopState}{jA:Option Code}(S:J[k]?=some (.aS st pd ats ps ok)):eA J (J.set k (.aS st' jA ats ps ok)):=λj fk agd aAG ps1 TG h=>by
 by_cases e:k=j;subst e;rw[S] at h;cases h;exact⟨st',jA,aO (bF.1 S).1⟩;exact⟨fk,agd,aEN⟩
omit gb in
def G9{k:Nat}:(J.set k (.aS st pd ats ps ok)).map aV=(J.map aV).set k (xq st (match st with|.busy=>none|_=>pd)):=by
 rw[sP];rfl
omit gb in
def yj:type_of% @YT/\type_of% @Lb.eq_1/\type_of% @YP/\type_of% @K9.eq_1/\type_of% @GR/\type_of% @B3.eq_1/\type_of% @YL/\type_of% @K4.eq_1/\type_of% @GP/\type_of% @B0.eq_1/\type_of% @YM/\type_of% @K5.eq_1/\type_of% @YS/\type_of% @La.eq_1/\type_of% @YO/\type_of% @K7.eq_1/\type_of% @YQ/\type_of% @K8.eq_def/\type_of% @YR/\type_of% @K_.eq_1/\type_of% @GQ/\type_of% @B2.eq_1/\type_of% @YN/\type_of% @K6.eq_1:=
 ⟨@YT,@Lb.eq_1,@YP,@K9.eq_1,@GR,@B3.eq_1,@YL,@K4.eq_1,@GP,@B0.eq_1,@YM,@K5.eq_1,@YS,@La.eq_1,@YO,@K7.eq_1,@YQ,@K8.eq_def,@YR,@K_.eq_1,@GQ,@B2.eq_1,@YN,@K6.eq_1⟩
def B1{aY:Nat}:∀{c:c8} {nest:Bool} {bE:o3} {e:Env} {J:List aa} {k:x6} {r:U},o4 G P bE J->j3 c b6 aY nest bE e (R (J.map aV)) k=some r->
  @cJ G P nest c ⟨λx e' hp'=>k x e' (R (hp'.map aV))=some r/\eA J hp'⟩ e J:=by
 intro c
 induction c with
 |skip L=>intro nest bE e J k r dU h;rw[JN];simp only[yj,tT] at h;exact⟨h,p5 J⟩
 |lab L=>intro nest bE e J k r dU h;rw[JG];simp only[yj,tT] at h;exact⟨h,p5 J⟩
 |bad=>intro nest bE e J k r dU h;cases h
 |exit id L=>intro nest bE e J k r dU h;rw[JF];simp only[yj,tT] at h;exact⟨h,p5 J⟩
 |ret L=>intro nest bE e J k r dU h;rw[JL];simp only[yj,tT] at h;exact⟨h,p5 J⟩
 |region ops L=>
  intro nest bE e J k r dU h;rw[JJ];simp only[yj,tT] at h;exact No gb dU h
 |oe l L=>
  intro nest bE e J k r dU h;rw[JK];simp only[yj,tT] at h;exact af2 gb dU h
 |oN ls L=>
  intro nest bE e J k r dU h;rw[FR];cases ls with
  |nil=>cases h
  |cons l0 ls=>
   simp only[yj,tT] at h;split at h;rename_i t _;split at h;rename_i x I;split at h;rename_i hall;cases h;refine⟨told t,λl hl=>?_⟩;rw[dW] at hl
   rcases hl with rfl|hl
   exact No gb dU I;have:=c7.1 hall l hl;split at this;rename_i y hy;rw[<-wM this] at hy;exact No gb dU hy;cases this;cases h;cases h;cases h
 |seq a b iq qx=>
  intro nest bE e J k r dU h;rw[Dl];simp only[GR,B3,GP,B0,GQ,B2] at h;refine pZ (iq dU h) λx e' hp' ⟨k1,k2⟩=>?_;cases x with
  |normal=>exact pZ (qx (dU.keeps k2) k1) λx e2 gJ ⟨q1,ah⟩=>⟨q1,k2.trans ah⟩
  |_=>exact⟨k1,k2⟩
 |cond c a b iq qx=>
  intro nest bE e J k r dU h;rw[JE];simp only[yj,pF,eW] at h;obtain⟨v,Y,V⟩:=h;refine⟨v,Y,?_⟩;dsimp only;split at V;exact⟨λ_=>iq dU V,nofun⟩;exact⟨nofun,λ_=>qx dU V⟩;cases V
 |block id a iq=>
  intro nest bE e J k r dU h;rw[y7];simp only[GR,B3,GP,B0,GQ,B2] at h;refine pZ (iq dU h) λx e' hp' ⟨k1,k2⟩=>?_;cases x with
  |exit id'=>
   simp only[tj];dsimp only at k1;split at k1;rename_i hq;rw[if_pos (p9 hq)];exact⟨k1,k2⟩;rename_i hq;rw[if_neg (λq=>by subst q;rw[Nat.beq_refl] at hq;cases hq)];exact⟨k1,k2⟩
  |_=>exact⟨k1,k2⟩
 |scope a iq=>
  intro nest bE e J k r dU h;rw[JM];simp only[GR,B3,GP,B0,GQ,B2] at h;refine pZ (iq dU h) λx e' hp' ⟨k1,k2⟩=>?_;cases x with
  |goto l=>cases k1
  |_=>exact⟨k1,k2⟩
 |loop a iq=>
  intro nest bE e J k r dU h;exact auq dU (λe J k dU h=>iq dU h) (p5 J) h
 |oL x ps a b L iq qx=>
  intro nest bE e J k r dU h;rw[vI];simp only[yj,pF,eW] at h;obtain⟨v,Y,V⟩:=h;split at V
  · rename_i g fs Z
    refine⟨g,fs,Z,Y,λk0 hk0 ats ok hR=>?_⟩;have hmk:J.map aV++(if nest=true then [] else [.obj (.deferred none)])=(J++marks nest).map aV:=by
     rw[eD];cases nest<;>rfl
    have hlb:(J++marks nest).map aV++[xq .ready none]=(J++marks nest++[iB .ready none ats ps.toArray ok]).map aV:=by
     rw[eD (l₁:=J++marks nest)];rfl
    have V:b6 ((k0,⟨ps,a,b,e⟩)::bE) (.fn (.func g) [] []) (fs++[.gu k0]++Z) (R ((J++marks nest++[iB .ready none ats ps.toArray ok]).map aV)) (FO λ_ h'=>Up k0 L e k h')=some r:=by
     have rn:∀H,(R H).n=H.length:=λ_=>rfl;rw[<-hlb,<-hmk];cases nest with
     |true=>
      simp only[Nz,r8,rn] at V;simp only[marks,if_true,ff] at hk0⊢;rw[bX,<-hk0] at V;exact V
     |false=>
      simp only[Nz,r8,rn] at V;simp only[marks,je,if_false] at hk0⊢;rw[cG,bX,nM] at V;rw[cG,nM] at hk0;rw[<-hk0] at V;exact V
    have hU:(J++marks nest++[iB .ready none ats ps.toArray ok])[k0]?=some (.aS .ready none ats ps.toArray ok):=by
     rw[hk0,en (bg _),kL];rfl
    have aqw:o4 G P ((k0,⟨ps,a,b,e⟩)::bE) (J++marks nest++[iB .ready none ats ps.toArray ok]):=λj rc hm=>by
     rcases dW.1 hm with hm|hm
     cases hm;exact⟨ats,ok,.ready,none,hU,hR⟩;exact(dU.keeps (xo.trans xo)) j rc hm
    have:=(gb _ _ _ _ _ r aqw V).1 Vr;rw[Eb,eH,ff] at this;refine a_ this λv hp' ⟨q1,ah⟩=>?_;obtain⟨st,pd,hst⟩:=ah _ _ _ _ _ _ hU;refine⟨st,pd,hst,?_⟩;have he:(hp'.map aV)[k0]?=some (aV (.aS st pd ats ps.toArray ok)):=by rw[eo,hst];rfl
    simp only[FO,Up,yO,he,aV,ko] at q1;have hkk:eA J (hp'.set k0 (.aS .exhausted pd ats ps.toArray ok)):=(xo.trans xo).trans (ah.trans (SM hst));have Cy:(hp'.set k0 (.aS .exhausted pd ats ps.toArray ok)).map aV=(hp'.map aV).set k0 (xq .exhausted pd):=G9;cases st<;>simp only[reduceCtorEq,ne_eq,not_false_eq_true,not_true_eq_false,true_and,false_and] at q1⊢
    all_goals
     rw[FN,he] at q1;simp only[ko] at q1;rw[<-Cy] at q1;cases pd with
     |none=>simp only[tT] at q1;exact⟨q1,hkk⟩
     |some c=>
      cases c with
      |ret=>simp only[tT] at q1;exact⟨q1,hkk⟩
      |exit id=>simp only[tT] at q1;exact⟨q1,hkk⟩
      |_=>cases q1
  cases V
end
end
section
variable{J:List aa}{r:U}{b6:qL}{bE:o3}{f:FuncId}{nw:jg}{args:List U}
section
variable{G:Cells}{P:Program}{hc:FuncId->Option (jg×Nat)}{oc:FuncId->List U->Option U}{aY:Nat}
def Pu(P:Program)(hc:FuncId->Option (jg×Nat)):Prop:=∀f nw pu,hc f=some (nw,pu)->Gc P f nw
def Pk(G:Cells)(P:Program)(hc:FuncId->Option (jg×Nat))(oc:FuncId->List U->Option U):Prop:=∀f args r,hc f=none->oc f args=some r->b_ G P f args r
def awY{e:Env}{rs:List e8}(h:jn e (J.map aV) rs=some r):jn e J rs=some r:=by
 have key:∀{rs:List e8} {l:List U},qC e (J.map aV) rs=some l->qC e J rs=some l:=by
  intro rs
  induction rs with
  |nil=>intro l h;exact h
  |cons x rs ih=>
   intro l h;simp only[qC,eW,cg] at h⊢;obtain⟨a,Y,l',V,h3⟩:=h;refine⟨a,?_,l',ih V,h3⟩;cases x with
   |s t=>exact Y
   |c t aG n=>
    simp only[xF,eW] at Y⊢;obtain⟨p,q1,ah⟩:=Y;exact⟨p,q1,Xx ah⟩
 unfold jn at h⊢;rw[cg] at h⊢;obtain⟨l,Y,V⟩:=h;exact⟨l,key Y,V⟩
def QA{n0:Nat}{hp':List aa}(h:lJ n0 J hp'):hp'.map aV=J.map aV/\eA J hp':=by
 constructor;apply zl;intro k;rw[eo,eo]
 rcases h.2 k with q|⟨_,q1,ah⟩
 rw[q];rw[q1,ah];rfl;intro k st pd ats ps ok S
 rcases h.2 k with q|⟨_,q1,ah⟩
 exact⟨st,pd,by rw[q];exact S⟩;rw[q1] at S;cases S
def aiy:∀{l:List Value} {xs:List U},Oo l=some xs->OD xs=some l/\j_.Fk xs=true
 |[],xs,h=>by cases h;exact⟨rfl,rfl⟩
 |x::r,xs,h=>by
  simp only[Oo] at h;split at h;rename_i J;split at h;rename_i l hl;cases h;obtain⟨Y,V⟩:=aiy hl;exact⟨by simp[OD,pn,Y],by simp[j_.Fk,j_,J,V]⟩;cases h;cases h
def azC{v:Value}{x:U}(h:Vo v=some x):tW x=true/\ox x=some v:=by
 unfold Vo at h;split at h;rename_i t Z;split at h;rename_i l hl;cases h;obtain⟨Y,V⟩:=aiy hl;exact⟨by simp[tW,j_,V],by simp[ox,pn,Y]⟩;cases h;rename_i t x _;split at h;rename_i J;cases h;exact⟨by simp[tW,j_,J],by simp[ox,pn]⟩;cases h;cases h
def aeB:∀{l:List U} {ks:List Nat},MN l=some ks->l=ks.map λk=>.mp k 0
 |[],ks,h=>by cases h;rfl
 |x::r,ks,h=>by
  unfold MN at h;split at h;rename_i heq;cases heq;rename_i k r' heq;cases heq;split at h;rename_i l hl;cases h;rw[aeB hl];rfl;cases h;cases h
def agQ:∀{xs:List U} {k:List UInt8->Option U} {r:U},NL xs k=some r->∃l:List UInt8,xs=l.map (λc=>.v (.int .u8 c.toNat))/\k l=some r
 |[],k,r,h=>⟨[],rfl,h⟩
 |x::xs,k,r,h=>by
  unfold NL at h;split at h;rename_i heq;cases heq;rename_i k' n r' heq;cases heq;split at h;rename_i hn;have hn:=nQ hn;obtain⟨l,Y,V⟩:=agQ h;refine⟨rP n::l,?_,V⟩;rw[ep,<-Y];have:(rP n).toNat=n:=aCv
  rw[this];rfl;cases h;cases h
variable(hm:P.follows .mixedOrders=true)(hT:Pu P hc)
include hm hT
def axj(gb:BA G P b6){g:FuncId}{ks:List Nat}{x:Option U}{v:Option Value}{k:dX->Option U}(dU:o4 G P bE J)
  (I:match x,v with|none,none=>True|some x,some v=>tW x=true/\ox x=some v|_,_=>False)
  (h:Fu hc b6 aY bE g ks x (R (J.map aV)) k=some r):jf G P g (ks.map λk=>.mp k 0) J v λhp'=>k (R (hp'.map aV))=some r/\eA J hp':=by
 unfold Fu at h;split at h;rename_i n d0 d1 c pu aoA;obtain⟨⟨hb,F⟩,hf,h0,Y⟩:=hT _ _ _ aoA;split at h;rename_i hn;refine Y2 hm F hf ⟨h0,Y⟩ aDP I ?_;refine pZ (B1 gb dU h) λx e' hp' ⟨q1,ah⟩=>?_;cases x with
 |normal=>exact⟨q1,ah⟩
 |ret=>exact⟨q1,ah⟩
 |_=>cases q1
 cases h;cases h
def QY(gb:BA G P b6)(nB:Gc P f nw){k:s8}(dU:o4 G P bE J)
  (h:wS hc nw b6 aY bE args (R (J.map aV)) k=some r):fJ G P f args J (λv hp'=>k (.val v) (R (hp'.map aV))=some r/\eA J hp') λch hp'=>k (.eU ch) (R (hp'.map aV))=some r/\eA J hp':=by
 have res:∀{rs:List e8} {e:Env} {cZ:List aa},eA J cZ->vr rs e (R (cZ.map aV)) k=some r->@e_ _ (jn e cZ rs) ⟨λv=>k (.val v) (R (cZ.map aV))=some r/\eA J cZ⟩:=λS q=>by
  rw[awZ,eW] at q;obtain⟨v,hv,q⟩:=q;exact⟨v,awY hv,q,S⟩
 cases nw with
 |plain n rs c=>
  obtain⟨⟨hb,F⟩,hf⟩:=nB;simp only[wS] at h;split at h;rename_i hn;refine ZW hm F hf hn (pZ (B1 gb dU h) λx e' hp' ⟨q1,ah⟩=>?_);cases x with
  |normal=>exact res ah q1
  |ret=>exact res ah q1
  |panic ch=>exact⟨q1,ah⟩
  |_=>cases q1
  cases h
 |loops n rs c=>
  obtain⟨⟨hb,F⟩,hf⟩:=nB;simp only[wS] at h;split at h;rename_i hn;refine ZX hm F hf hn (pZ (B1 gb dU h) λx e' hp' ⟨q1,ah⟩=>?_);cases x with
  |normal=>
   intro gJ he;obtain⟨w1,w2⟩:=QA he;have Ug:vr rs e' (R (gJ.map aV)) k=some r:=by rw[w1];exact q1
   exact res (ah.trans w2) Ug
  |ret=>
   intro gJ he;obtain⟨w1,w2⟩:=QA he;have Ug:vr rs e' (R (gJ.map aV)) k=some r:=by rw[w1];exact q1
   exact res (ah.trans w2) Ug
  |panic ch=>
   intro gJ he;obtain⟨w1,w2⟩:=QA he;refine⟨?_,ah.trans w2⟩;show k (.eU ch) (R (gJ.map aV))=some r;rw[w1];exact q1
  |_=>cases q1
  cases h
 |oy n rs a t g caps b=>
  obtain⟨⟨hb,F⟩,HO,HP,ht⟩:=nB;simp only[wS] at h;split at h;rename_i hn;refine Bo (ZV hm F HO HP ht hn (pZ (B1 gb dU h) λx e1 cZ ⟨q1,ah⟩=>?_));cases x with
  |normal=>
   simp only[Ab,eW] at q1;obtain⟨cl,w1,w2⟩:=q1;split at w2;rename_i ks hks;rw[B8 r8] at w2;have aoO:=aeB hks;refine⟨ks,by rw[w1,aoO],pZ (B1 gb (dU.keeps ah) w2) λx e2 gJ ⟨u1,u2⟩=>?_⟩;have aqx:=dU.keeps (ah.trans u2);have fin:∀{x:Option U} {v:Option Value},(match x,v with|none,none=>True|some x,some v=>tW x=true/\ox x=some v|_,_=>False)->Fu hc b6 aY bE g ks x (R (gJ.map aV)) (λh3=>vr rs e2 h3 k)=some r->
     jf G P g (ks.map λk=>.mp k 0) gJ v λhp'=>@e_ _ (jn e2 hp' rs) ⟨λv=>k (.val v) (R (hp'.map aV))=some r/\eA J hp'⟩:=λI q=>
    jf.mono (axj hm hT gb aqx I q) λtJ ⟨aT,z2⟩=>res ((ah.trans u2).trans z2) aT
   cases x with
   |normal=>exact fin (x:=none) (v:=none) trivial u1
   |ret=>exact fin (x:=none) (v:=none) trivial u1
   |panic ch=>
    split at u1;rename_i heq;cases heq;rename_i heq;cases heq;rename_i v heq;cases heq;split at u1;rename_i xv aqq;exact⟨v,rfl,fin (x:=some xv) (v:=some v) (azC aqq) u1⟩;cases u1;cases u1
   |_=>cases u1
   cases w2
  |_=>cases q1
  cases h
 |C7 n d0 d1 c=>cases h
 |M6 l=>simp only[wS] at h;cases h
 |KK t=>
  simp only[wS] at h;split at h;rename_i b;unfold Yx at h;rw[yO,eW] at h;obtain⟨blk,Ex,h⟩:=h;split at h;rename_i b' t' z;have O:=pq Ex;split at h;rename_i T;simp only[dV,sR] at T;obtain⟨⟨rfl,Y⟩,V⟩:=T;have ht:=Prod.ext Y V;subst ht;rw[FN,Ex] at h;refine Bo (a_ (Yi nB O) ?_);rintro r' hp' ⟨rfl,rfl⟩;have hs:(J.set b' (.cells (.mp b' 0::z) false)).map aV=(J.map aV).set b' (.cells (.mp b' 0::z) false):=aDc
  rw[hs];exact⟨h,vc O nofun⟩;cases h;rename_i b' z;have O:=pq Ex;split at h;rename_i T;have:=p9 T;subst this;refine Bo (a_ (Yl nB O) ?_);rintro r' hp' ⟨rfl,rfl⟩;exact⟨h,p5 _⟩;cases h;cases h;cases h
 |KO e=>
  simp only[wS] at h;split at h;rename_i b;unfold ah4 at h;rw[yO,eW] at h;obtain⟨blk,Ex,h⟩:=h;split at h;rename_i c0;have O:=pq Ex;refine Bo (a_ (Yk nB O) ?_);rintro r' hp' ⟨rfl,rfl⟩;exact⟨h,p5 _⟩;rename_i c0 xs id;have O:=pq Ex;rw[yO,eW] at h;obtain⟨aAQ,aoQ,h⟩:=h;split at h;rename_i n e';have hid:=QM aoQ;split at h;rename_i T;simp only[dV,sR] at T;obtain⟨⟨⟨Y,V⟩,h3⟩,h4⟩:=T;have h3:=nQ h3;have h4:=nQ h4;obtain⟨l,hl,S⟩:=agQ h;subst hl;subst V;have hn:n=l.length:=by rw[Y,bX]
  subst hn;refine Bo (a_ (Yj nB O hid (by intro e;subst e;simp at h3) h4) ?_);rintro r' hp' ⟨rfl,rfl⟩;exact⟨S,p5 _⟩;cases h;cases h;cases h;cases h
omit hm hT in
def ZJ{k:Nat}:∀{bE:o3} {rc:Pd} {Bl:o3},LA k bE=some (rc,Bl)->(k,rc)∈bE/\∀x∈Bl,x∈bE
 |[],_,_,h=>aCL
 |(j,r)::bE,rc,Bl,h=>by
  simp only[LA] at h;split at h;rename_i e;subst e;cases h;exact⟨vS,λx I=>qJ _ I⟩;obtain⟨Y,V⟩:=ZJ h;exact⟨qJ _ Y,λx I=>qJ _ (V x I)⟩
def als(yz:Pk G P hc oc){b6:qL}(gb:BA G P b6):BA G P (zS hc oc aY b6):=by
 intro bE x args J k r dU h;have fn:∀f fs Z,x=.fn (.func f) fs Z->fJ G P f (fs++args++Z) J (λv hp'=>k (.val v) (R (hp'.map aV))=some r/\eA J hp') λch hp'=>k (.eU ch) (R (hp'.map aV))=some r/\eA J hp':=by
  intro f fs Z I;subst I;simp only[zS] at h;rw[B8 λ_ _=>rfl] at h;split at h;rename_i Rv;split at h;rename_i bs HF;split at h;rename_i v hv;rw[wT] at h;exact Bo (fo (yz _ _ _ Rv hv) (Q6 HF) ⟨h,p5 J⟩);cases h;cases h;rename_i nw pu Rv;have nB:=hT _ _ _ Rv;split at h;exact QY hm hT gb nB dU h;split at h;rename_i v hv;rw[wT] at h;have ew:bq G P f (fs++args++Z) J λr hp'=>(hp'.map aV).take J.length=J.map aV/\eA J hp'/\∃n,b7 (mask J.length hp') n r=some v:=by
   have:=QY hm hT gb nB dU hv;refine fJ.ok ⟨this.1,λbase w0 C M w args' hs D=>(this.2 base w0 C M w args' hs D).mono λe w' ⟨aC,M',hp',Y,V,h3⟩=>⟨aC,M',hp',Y,V,?_⟩⟩
   rcases h3 with⟨v',u',q,rest⟩|⟨ch,q,rest⟩
   refine ax ⟨v',u',?_,rest⟩;obtain⟨q1,ah⟩:=q;simp only[YH] at q1;split at q1;rename_i Si;refine⟨axB Si,ah,64,?_⟩;have rn:(R (J.map aV)).n=J.length:=bX _;rw[rn,Dk,auJ] at q1;exact Em q1;cases q1;exact(by cases q.1)
  refine Bo (a_ (bq.close ew) ?_);rintro r' hp' ⟨rfl,q1,ah⟩;exact⟨by rw[q1];exact h,ah⟩;cases h;split at h;rename_i bs HF;split at h;rename_i v hv;rw[wT] at h;have ew:bq G P f bs [] λv' hp'=>∃n,b7 hp' n v'=some v:=by
   have:=QY hm hT gb nB (J:=[]) (SX (J:=[])) hv;refine fJ.ok ⟨this.1,λbase w0 C M w args' hs D=>(this.2 base w0 C M w args' hs D).mono λe w' ⟨aC,M',hp',Y,V,h3⟩=>⟨aC,M',hp',Y,V,?_⟩⟩
   rcases h3 with⟨v',u',q,rest⟩|⟨ch,q,rest⟩
   exact ax ⟨v',u',⟨64,Em (by have:=q.1;simp only[AV,Dk] at this;exact this)⟩,rest⟩;exact(by cases q.1)
  exact Bo (fo (eg ew) (Q6 HF) ⟨h,p5 J⟩);cases h;cases h
 refine⟨λhnp=>?_,fn⟩;cases x with
 |fn f fs Z=>
  cases f with
  |func f=>
   rw[Eb];have:=fn f fs Z rfl;refine fJ.ok ⟨this.1,λbase w0 C M w args' hs D=>(this.2 base w0 C M w args' hs D).mono λe w' ⟨aC,M',hp',Y,V,h3⟩=>⟨aC,M',hp',Y,V,?_⟩⟩
   rcases h3 with q|⟨ch,q,rest⟩
   exact ax q;rw[hnp] at q;exact(by cases q.1)
  |method nm=>
   cases fs with
   |cons a b=>simp only[zS] at h;cases h
   |nil=>
    simp only[zS] at h;split at h;rename_i t x rest;split at h;rename_i l pu aoB;split at h;rename_i g hg;have Y:=hT _ _ _ aoB _ (QV hg);have V:=(gb _ _ _ _ _ _ dU h).1 hnp;rw[Eb,eH,ff] at V;exact⟨t,x,rest,g,rfl,Y,V⟩;cases h;cases h;cases h
  |_=>simp only[zS] at h;cases h
 |gu k0=>
  simp only[zS] at h;split at h;rename_i rc Bl RR;obtain⟨hmem,hsub⟩:=ZJ RR;obtain⟨ats,ok,st,pd,hU,hR⟩:=dU k0 rc hmem;have abK:o4 G P Bl J:=λj rc' hj=>dU j rc' (hsub _ hj);split at h;rename_i hlen;rw[yO,eW] at h;obtain⟨blk,Ih,h⟩:=h;split at h;rename_i agc a0 b0 c0;obtain⟨jA,GC,ps',ok',cZ,gJ⟩:=Zo Ih;rw[hU] at cZ;cases cZ;refine hR args J _ hlen ⟨pd,hU⟩ ?_;refine pZ (B1 gb abK h) λx e1 cZ ⟨q1,ah⟩=>?_;cases x with
  |normal=>
   dsimp only at q1;rw[yO,eW] at q1;obtain⟨aAP,abx,q1⟩:=q1;split at q1;rename_i agd a1 b1 c1;obtain⟨rD,eF,yC⟩:=ah _ _ _ _ _ _ hU;obtain⟨yU,aAH,aCf,aCa,tJ,_⟩:=Zo abx;rw[yC] at tJ;cases tJ;rw[FN,abx] at q1;simp only[ko] at q1;refine⟨⟨eF,yC⟩,λage=>?_⟩;have Cy:(cZ.map aV).set k0 (xq .busy none)=(cZ.set k0 (.aS .busy age ats rc.ps.toArray ok)).map aV:=G9.symm;rw[Cy] at q1;have eY:eA J (cZ.set k0 (.aS .busy age ats rc.ps.toArray ok)):=ah.trans (SM yC);refine pZ (B1 gb (abK.keeps eY) q1) λx e2 gJ ⟨u1,u2⟩=>?_;obtain⟨N7,Nu,Ij⟩:=(eY.trans u2) _ _ _ _ _ _ hU;have he:(gJ.map aV)[k0]?=some (aV (.aS N7 Nu ats rc.ps.toArray ok)):=by rw[eo,Ij];rfl
   simp only[agO,yO,he,aV,ko] at u1;have hk2:∀st pd,eA J (gJ.set k0 (.aS st pd ats rc.ps.toArray ok)):=λst pd=>(eY.trans u2).trans (SM Ij);cases x with
   |normal=>
    dsimp only at u1;rw[FN,he] at u1;simp only[ko] at u1;refine⟨⟨N7,Nu,Ij⟩,?_,hk2 _ _⟩;rw[G9];exact u1
   |ret=>
    dsimp only at u1;rw[FN,he] at u1;simp only[ko] at u1;refine⟨⟨N7,Nu,Ij⟩,?_,hk2 _ _⟩;rw[G9];exact u1
   |exit id=>
    dsimp only at u1;rw[FN,he] at u1;simp only[ko] at u1;refine⟨⟨N7,Nu,Ij⟩,?_,hk2 _ _⟩;rw[G9];exact u1
   |_=>cases u1
   cases q1
  |_=>cases q1
  cases h;cases h;cases h
 |_=>simp only[zS] at h;cases h
def Zs(yz:Pk G P hc oc):∀d,BA G P (Eh hc oc aY d)
 |0=>λbE x args J k r dU h=>aCL
 |d+1=>als hm hT yz (Zs yz d)
inductive nU where
 |nil
 |node (l:nU) (k:FuncId) (nw:jg) (m:Nat) (r:nU)
noncomputable def nU.get(t:nU)(f:FuncId):Option (jg×Nat):=@nU.rec (λ_=>Option (jg×Nat)) none
 (λ_ k nw m _ il aq0=>@Bn (λ_=>Option (jg×Nat)) (@Bn (λ_=>Option (jg×Nat)) aq0 (some (nw,m)) (de f k)) il (oX f k)) t
def nU.cv(P:Program):nU->Prop
 |.nil=>True
 |.node l k nw _ r=>l.cv P/\Gc P k nw/\r.cv P
omit hm hT in
def nU.Hq{m:Nat}:∀{t:nU},t.cv P->t.get f=some (nw,m)->Gc P f nw
 |.nil,_,h=>aCL
 |.node l k ZD m' r,ho,h=>by
  obtain⟨Y,V,h3⟩:=ho;have hg:nU.get (.node l k ZD m' r) f=@Bn (λ_=>Option (jg×Nat)) (@Bn (λ_=>Option (jg×Nat)) (r.get f) (some (ZD,m')) (de f k)) (l.get f) (oX f k):=rfl;rw[hg] at h;cases O:oX f k with
  |true=>rw[O] at h;exact nU.Hq Y h
  |false=>
   rw[O] at h;cases hq:de f k with
   |true=>
    rw[hq] at h;cases h;rw[p9 hq];exact V
   |false=>rw[hq] at h;exact nU.Hq h3 h
def QN(yz:Pk G P hc oc){d:Nat}(h:Eh hc oc aY d [] (.fn (.func f) [] []) args (R []) AV=some r):b_ G P f args r:=by
 refine eg ?_;have:=(Zs hm hT yz d [] (.fn (.func f) [] []) args [] AV r SX h).1 λ_ _=>rfl;rw[Eb,eH,ff] at this;exact a_ this λr hp' k=>⟨64,Em (by have:=k.1;simp only[AV,Dk] at this;exact this)⟩
end
end
section
variable{w:World}{b o:Nat}{v x y:Value}{C:Cells}{M:List Loc}{J:List aa}
section
variable{G:Cells}{P:Program}{f:FuncId}
def Gd(G:Cells)(w:World):Prop:=∀b o v,G b o=some v->w.cell? ⟨b,o,none⟩=some v
def Yp(h:w.cell? ⟨b,o,none⟩=some v):b<w.heap.size:=by
 rcases cH b w.heap.size with q|q
 exact q;exfalso;unfold DC at h;dsimp only at h;have:w.heap[b]?=none:=by simp[q]
 rw[this] at h;simp at h
def yc(w:World)(C:Cells)(w':World):Cells:=λb o=>if b<w.heap.size then C b o else w'.cell? ⟨b,o,none⟩
def W4{w':World}(h:w.heap.size<=b):yc w C w' b o=w'.cell? ⟨b,o,none⟩:=by
 unfold yc;rw[if_neg aCs]
def AW{args:List U}{r:U}(he:Enters P f)(h:∀(C:Cells) (w:World) args',Gd G w/\BL w->(∀b o v,C b o=some v->w.cell? ⟨b,o,none⟩=some v)->bY C [] [] args args'->Calls P f args'.toArray w λe w'=>∃v',e=.returned v'/\Below w.heap.size w w'/\aI (yc w C w') [] [] r v'):b_ G P f args r:=
 ⟨he,λC w args' hg T D=>(h C w args' ⟨λb o v q=>T b o v (hg.1 b o v q),hg.2⟩ T D).mono λe w' ⟨v',e1,O,fO⟩=>by
  refine⟨yc w C w',v',e1,λb o v q=>?_,λb o v q=>?_,λb o v q=>?_,O,fO,trivial⟩;unfold yc;rw[if_pos (Yp (T b o v q))];exact q;unfold yc at q;split at q;exact ax q;rename_i hn;exact az aCs;unfold yc at q;split at q;rename_i hn;rw[O.cell (p:=⟨b,o,none⟩) hn];exact T b o v q;exact q⟩
def C9:∀{xs l:List Value},bY C M J (xs.map .v) l->l=xs
 |[],[],_=>rfl
 |[],_::_,h=>by have:=h.1;simp at this
 |_::_,[],h=>by have:=h.1;simp at this
 |x::xs,y::l,h=>by
  have h0:=h.2 0 _ _ rfl rfl;have e:y=x:=by cases h0;rfl
  have:=C9 (xs:=xs) (l:=l) ⟨aEc,λi a b ha O=>h.2 (i+1) a b aDL aCM⟩;rw[e,this]
def agk{xs:List Value}(he:Enters P f)(hv:plain v=true)(h:∀w,Gd G w->Calls P f xs.toArray w λe w'=>e=.returned v/\Below w.heap.size w w'):b_ G P f (xs.map .v) (.v v):=
 AW he λC w args' hg T D=>by
  rw[C9 D];exact(h w hg.1).mono λe w' ⟨Y,V⟩=>⟨v,Y,V,.v hv⟩
def agl(he:Enters P f)(hv:plain v=true)(h:∀w,Gd G w->Calls P f #[x] w λe w'=>e=.returned v/\Below w.heap.size w w'):b_ G P f [.v x] (.v v):=agk (xs:=[x]) he hv h
def T_(he:Enters P f)(hv:plain v=true)(h:∀w,Gd G w->Calls P f #[x,y] w λe w'=>e=.returned v/\Below w.heap.size w w'):b_ G P f [.v x,.v y] (.v v):=agk (xs:=[x,y]) he hv h
def awU{vs:List Value}(hC:∀(i:Nat) v,vs[i]?=some v->C b i=some v)(hp':∀v∈vs,plain v=true):aI C M J (.sl (vs.map .v) .no) (.slice (some ⟨b,0,none⟩) vs.length vs.length):=by
 have:=aI.sl (C:=C) (M:=M) (J:=J) (xs:=vs.map .v) (t:=.no) (a:=⟨b,0,none⟩) (cap:=vs.length) (sz:=1) (λi j=>(vs[i]?).getD undef) (λ_=>rfl)
  (λi x I=>by
    rw[eo,cg] at I;obtain⟨v,_,rfl⟩:=I;rfl)
  (λi x j c I T=>by
    rw[eo,cg] at I;obtain⟨v,hv,rfl⟩:=I;cases j with
    |zero=>
     simp only[gN,l6,lI] at T;rw[hv];simpa using hC i v hv
    |succ j=>simp[gN] at T)
  (λi x j c I T=>by
    rw[eo,cg] at I;obtain⟨v,hv,rfl⟩:=I;cases j with
    |zero=>
     simp only[gN,l6,lI] at T;subst T;rw[hv];exact .v (hp' v (bA hv))
    |succ j=>simp[gN] at T) trivial aCt
 rw[bX] at this;exact this
def agC{a b:U}(Y:aI C M J a x)(V:aI C M J b y):aI C M J (.aK [a,b]) (.tuple #[x,y]):=.aK rfl λi u v hu hv=>by
 match i with
 |0=>simp at hu hv;subst hu;subst hv;exact Y
 |1=>simp at hu hv;subst hu;subst hv;exact V
 |i+2=>simp at hu
def ak7{B:Nat}{k:Nat}{os:Array Obj}(h:B<=w.heap.size):Below B w (Go.Sort.grow (w.drewN k) os):=by
 refine⟨rfl,rfl,rfl,?_,λi Q=>?_⟩;simp;rw[Go.Sort.heap_grow_old _ _ aCv];rfl
end
end
def ahu{α:Type}(f:α->U):Option (List α)->U
 |none=>.af
 |some l=>.sl (l.map f) .no
def ax_{α:Type}(f:α->U)(o:Option (List α)):bH (ahu f o) ((o.getD []).map f):=by
 cases o with
 |none=>exact az ⟨rfl,rfl⟩
 |some l=>exact ax rfl
structure bV where
 kind:Int
 type:Int
 attr:Int
 rune:Int
 marks:List Int
def ag(n:Int):U:=.v (.int .i64 n)
def jz(n:Int):U:=.v (.int .i32 n)
def eN(n:Int):U:=.v (.int .u16 n)
def bV.cells(t:bV):List U:=ag t.kind::ag t.type::ag t.attr::jz t.rune::t.marks.map eN
def bV.aF(t:bV):U:=.agg t.cells
def Kj(n:Int):Prop:= -9223372036854775808<=n/\n<=9223372036854775807
def WE(n:Int):Prop:= -2147483648<=n/\n<=2147483647
structure bV.cv(t:bV):Prop where
 S:Kj t.kind
 ht:Kj t.type
 ha:Kj t.attr
 D:WE t.rune
 len:t.marks.length=8
 hm:∀x∈t.marks,0<=x/\x<65536
def wI{W:World}{c:kN}{L:List kN}{Z:List Value}(h:l_ W (c::L) Z):∃v r,Z=v::r/\s0 W c v/\l_ W L r:=by
 cases Z with
 |nil=>have:=h.1;simp at this
 |cons v r=>exact⟨v,r,rfl,h.2 0 c v rfl rfl,aEm,λi a b ha O=>h.2 (i+1) a b ha O⟩
def GK{W:World}{Z:List Value}(h:l_ W [] Z):Z=[]:=lG h.1.symm
def zT{W:World}{k:IntKind}{v:Value}(h:s0 W (.i k) v):∃n,v=.int k n/\(Lit.int k n).wf=true:=by
 cases h with
 |i h=>exact⟨_,rfl,h⟩
def Vv{n:Int}(h:(Lit.int .i64 n).wf=true):(-9223372036854775808<=n/\n<=9223372036854775807):=by
 simp[Lit.wf,VX,VW,Dy,Dx] at h;exact⟨aCs,aCs⟩
def azQ{n:Int}(h:(Lit.int .i32 n).wf=true):(-2147483648<=n/\n<=2147483647):=by
 simp[Lit.wf,VX,VW,Dy,Dx] at h;exact⟨aCs,aCs⟩
def azP{n:Int}(h:(Lit.int .u16 n).wf=true):0<=n/\n<65536:=by
 simp[Lit.wf,VX,VW,Dy,Dx] at h;omega
def vq{C:Cells}{M:List Loc}{J:List aa}{a:U}{v:Value}{cl:List U}{vs:List Value}(h:aI C M J a v)(hs:bY C M J cl vs):bY C M J (a::cl) (v::vs):=
 ⟨by simp[hs.1],λi x y I hy=>by
  cases i with
  |zero=>simp at I hy;subst I;subst hy;exact h
  |succ i=>simp at I hy;exact hs.2 i x y I hy⟩
def Uu{C:Cells}{M:List Loc}{J:List aa}:bY C M J [] []:=⟨rfl,λi x y I=>aCN⟩
def A2{C:Cells}{M:List Loc}{J:List aa}(k:IntKind)(n:Int):aI C M J (.v (.int k n)) (.int k n):=.v rfl
def abX{W:World}:∀(n:Nat) {Z:List Value},l_ W (dJ n (.i .u16)) Z->∃m:List Int,m.length=n/\(∀x∈m,0<=x/\x<65536)/\bY (sY W) [] [] (m.map λn=>bO (.int .u16 n)) Z
 |0,Z,h=>by
  rw[GK h];exact⟨[],rfl,λx I=>aCN,Uu⟩
 |n+1,Z,h=>by
  obtain⟨v,r,rfl,Y,V⟩:=wI h;obtain⟨k,rfl,S⟩:=zT Y;obtain⟨m,e,hm,D⟩:=abX n V;refine⟨k::m,by simp[e],λx I=>?_,vq (A2 _ _) D⟩
  rcases dW.1 I with rfl|I
  exact azP S;exact hm x I
def avP{W:World}{e:List kN}{α:Type}{f:α->U}{Kr:α->Prop}(hE:∀Z,l_ W e Z->∃a,Kr a/\bY (sY W) [] [] (f a).cells Z)(hn:0<e.length){v:Value}(h:s0 W (.sl e) v):
  ∃o:Option (List α),(∀x∈o.getD [],Kr x)/\aI (sY W) [] [] (ahu f o) v:=by
 cases h with
 |nil=>exact⟨none,λx I=>aCN,.af⟩
 |sl g hl T hsp hC hR=>
  rename_i a len cap;have each:∀i:Fin len,∃a,Kr a/\bY (sY W) [] [] (f a).cells ((iD e.length).map (g i.val)):=λi=>hE _ ⟨aCt,λj c v T hv=>by
   have hj:=(bF.1 T).1;simp only[eo,aAy hj,ir,lI] at hv;subst hv;exact hR i.val j c i.isLt T⟩
  have hg:∀(i:Nat) x,(List.ofFn λi=>(each i).choose)[i]?=some x->∃Q:i<len,Kr x/\bY (sY W) [] [] (f x).cells ((iD e.length).map (g i)):=λi x I=>by
   have Q:i<len:=by have:=(bF.1 I).1;simpa using this
   rw[List.getElem?_ofFn] at I;simp only[Q,dif_pos,lI] at I;subst I;exact⟨Q,(each ⟨i,Q⟩).choose_spec⟩
  generalize hl':(List.ofFn λi=>(each i).choose)=l at hg;have hlen:l.length=len:=by rw[<-hl'];simp
  refine⟨some l,λx I=>?_,?_⟩;obtain⟨i,Q,rfl⟩:=DF I;obtain⟨_,Y,_⟩:=hg i _ (br Q);exact Y;have abf:(l.map f).length=len:=by simp[hlen]
  have key:∀(i:Nat) (y:U),(l.map f)[i]?=some y->∃Q:i<len,bY (sY W) [] [] y.cells ((iD e.length).map (g i)):=λi y hy=>by
   simp only[eo,cg] at hy;obtain⟨x,I,rfl⟩:=hy;obtain⟨Q,_,V⟩:=hg i x I;exact⟨Q,V⟩
  show aI (sY W) [] [] (.sl (l.map f) .no) (.slice (some a) len cap);rw[<-abf];refine .sl (sz:=e.length) g (λhne=>?_) (λi x I=>?_) (λi x j c I hj=>?_) (λi x j c I hj=>?_) trivial aCs;exact hsp (by rw[<-abf];exact F4.2 hne) hn;obtain⟨_,V⟩:=key i x I;rw[V.1];simp;obtain⟨Q,V⟩:=key i x I;have hj':j<e.length:=aDU
  exact hC i j _ Q (br hj');obtain⟨Q,V⟩:=key i x I;have hj':j<e.length:=aDU
  exact V.2 j c _ hj (by simp[aAy hj'])
def axN:List kN:=dJ 8 (.i .u16)
def aio:List kN:=.i .i64:: .i .i64:: .i .i64:: .i .i32::axN
def azg{W:World}(Z:List Value)(h:l_ W aio Z):∃t:bV,t.cv/\bY (sY W) [] [] t.aF.cells Z:=by
 obtain⟨_,_,rfl,h0,g1⟩:=wI h;obtain⟨_,_,rfl,Y,g2⟩:=wI g1;obtain⟨_,_,rfl,V,g3⟩:=wI g2;obtain⟨_,_,rfl,h3,g4⟩:=wI g3;obtain⟨a,rfl,wa⟩:=zT h0;obtain⟨b,rfl,wb⟩:=zT Y;obtain⟨c,rfl,wc⟩:=zT V;obtain⟨d,rfl,wd⟩:=zT h3;obtain⟨m,mV,hm2,D⟩:=abX 8 g4;exact⟨⟨a,b,c,d,m⟩,⟨Vv wa,Vv wb,Vv wc,azQ wd,mV,hm2⟩,vq (A2 _ _) (vq (A2 _ _) (vq (A2 _ _) (vq (A2 _ _) D)))⟩
def awM{P:Program}{ts:List TypeId}(h:(ts.all λt=>P.readableRec t&&decide (t<P.types.size))=true):∀t∈ts,P.readableRec t=true/\t<P.types.size:=λt ht=>by
 have:=c7.1 h t ht;simpa using this
set_option maxRecDepth 100000 in
def cellArg{P:Program}{W:World}{base:Nat}{t e':TypeId}{e:List kN}{v:Value}(ht:P.underlying t=some (.slice e'))(hv:DB P W .any base t v)(h:l_ W [.sl e] v.cells.toList):s0 W (.sl e) v:=by
 obtain⟨w,r,e1,Y,V⟩:=wI h;rw[GK V] at e1;have:v=w:=by
  cases v
  case agg Z=>simp[DB,ht,Cell.okWide,Cell.ok] at hv
  all_goals
   simp[uv] at e1;exact e1
 rw[this];exact Y
open Go.WideShapes
section
variable{H:Type}{enc:TypeId×Value->H}{P:Program}{W:World}{b:Nat}{sp:Nat->Bool}{held:Bool}
def abW{t e:TypeId}{n fuel:Nat}{k:IntKind}{Z:List Value}{ds:List Int}{p:List MemPlace}(ht:P.underlying t=some (.array n e))(he:P.underlying e=some (.int k))(T:P.cellsOf e=1)
  (h:OF enc P W b sp held fuel t Z=some (.agg (ds.map λi=>.lit (.int k i)),p)) (j:Nat) (i:Int) (hj:ds[j]?=some i):Z[j]?=some (.int k i):=by
 obtain⟨xs,m,_,ex,hlen,hl,hel⟩:=DataW.trod_array ht h;have e1:=DataW.agg.inj (Prod.mk.inj ex).1;have I:=congrArg (λl=>l[j]?) e1;simp only[eo,hj,ir] at I;have aba:j<xs.length:=by
  have Y:=congrArg Bv e1;simp only[bX] at Y;have:=(bF.1 hj).1;omega
 have Y:=hel j aCs;rw[br aba,T] at Y;rw[br aba,ir] at I;obtain⟨z,a1,a2,_⟩:=DataW.trod_int he Y;rw[a2] at I;simp only[lI,DataW.lit.injEq,Lit.int.injEq,true_and] at I;subst I;have V:=congrArg (λl=>l[0]?) a1;simpa using V
def iface_of_trod{t:TypeId}{ms:Array (String×TypeId)}{fuel:Nat}{Z:List Value}{name:String}{d:DataW H}{p:List MemPlace}(ht:P.underlying t=some (.interface ms))
  (h:OF enc P W b sp false fuel t Z=some (.iface name d,p)):∃u v,Z=[.iface u v]:=by
 cases fuel with
 |zero=>cases h
 |succ fuel=>
  unfold OF at h;rw[ht] at h
  split at h<;>first|(cases h;done)|(rename_i q;cases q;done)|skip
  all_goals first|exact⟨_,_,rfl⟩|skip
  all_goals simp_all
end
open Go.Lib
def qw(n:Nat):List UInt8->Nat->Int
 |[],_=> -1
 |b::r,i=>match de b.toNat n with
  |true=>.ofNat i
  |false=>qw n r (i+1)
def KN(b c:UInt8):de b.toNat c.toNat=(b==c):=by
 rw[Ds,sR,beq_iff_eq];exact⟨λh=>UInt8.toNat_inj.1 h,λh=>by rw[h]⟩
def abO(c:UInt8):∀(l:List UInt8) (i:Nat),qw c.toNat l i=if indexByte l c= -1 then -1 else i+indexByte l c
 |[],i=>by simp[qw,indexByte]
 |b::r,i=>by
  have hge:=indexByte_ge r c;by_cases h:b=c;subst h;simp[qw,indexByte];have O:(b==c)=false:=aC2
  rw[qw,KN,O];simp only[indexByte,O,je,if_false,beq_iff_eq];rw[abO c r (i+1)];by_cases V:indexByte r c= -1;simp[V];rw[if_neg V,if_neg V,if_neg aCs];omega
def Sr(c:UInt8)(l:List UInt8):qw c.toNat l 0=indexByte l c:=by
 rw[abO];split;rename_i h;rw[h];simp
def gD(n:Nat):List UInt8->List (List UInt8)
 |[]=>[[]]
 |b::r=>match de b.toNat n with
  |true=>[]::gD n r
  |false=>match gD n r with
   |[]=>[[b]]
   |h::t=>(b::h)::t
def ayn(n:Nat)(l:List UInt8):∃h t,gD n l=h::t:=by
 cases l with
 |nil=>exact⟨_,_,rfl⟩
 |cons b r=>
  simp only[gD];split;exact⟨_,_,rfl⟩;split<;>exact⟨_,_,rfl⟩
def N3(c:UInt8):∀(l:List UInt8),indexByte l c= -1->gD c.toNat l=[l]/\l.count c=0
 |[],_=>⟨rfl,rfl⟩
 |b::r,h=>by
  simp only[indexByte] at h;have hge:=indexByte_ge r c;cases O:b==c with
  |true=>rw[O] at h;simp at h
  |false=>
   rw[O] at h;simp only[je,if_false,beq_iff_eq] at h;have V:indexByte r c= -1:=by
    split at h
    assumption
    omega
   obtain⟨q1,ah⟩:=N3 c r V;refine⟨?_,?_⟩;simp only[gD,KN,O,q1];rw[ajl,ah,O];simp
def N2(c:UInt8):∀(l:List UInt8) (i:Nat),indexByte l c=i->gD c.toNat l=l.take i::gD c.toNat (l.drop (i+1))/\l.count c=(l.drop (i+1)).count c+1
 |[],i,h=>by simp only[indexByte] at h;omega
 |b::r,i,h=>by
  simp only[indexByte] at h;have hge:=indexByte_ge r c;cases O:b==c with
  |true=>
   rw[O] at h;simp at h;have Q:i=0:=aCs
   subst Q;refine⟨?_,?_⟩;simp only[gD,KN,O];try simp;simp only[e6,xW,ni];rw[ajl,O];simp
  |false=>
   rw[O] at h;simp only[je,if_false,beq_iff_eq] at h;split at h;omega;cases i with
   |zero=>omega
   |succ i=>
    obtain⟨q1,ah⟩:=N2 c r i aCs;refine⟨?_,?_⟩;simp only[gD,KN,O,q1];simp;rw[ajl,ah,O];simp
def U3(c:UInt8):∀(k:Nat) (l:List UInt8),k=l.count c->splitK [c] 0 k l=gD c.toNat l
 |0,l,h=>by
  have Y:indexByte l c= -1:=by
   rcases Int.lt_or_le (indexByte l c) 0 with q|q
   have:=indexByte_ge l c;omega;obtain⟨i,Q⟩:=mI q;have:=(N2 c l i Q).2;omega
  rw[(N3 c l Y).1];rfl
 |k+1,l,h=>by
  unfold splitK;rw[index_one]
  rcases Int.lt_or_le (indexByte l c) 0 with q|q
  have Y:indexByte l c= -1:=by have:=indexByte_ge l c;omega
  have:=(N3 c l Y).2;omega;obtain⟨i,Q⟩:=mI q;obtain⟨q1,ah⟩:=N2 c l i Q;rw[if_neg aCv,Q,q1];have e:(i:Int).toNat=i:=rfl;rw[e,nP];congr 1;exact U3 c k _ aCv
def jG:Nat->Nat->List UInt8
 |0,u=>[rP (48+u % 10)]
 |f+1,u=>match oX u 10 with
  |true=>[rP (48+u)]
  |false=>jG f (u/10)++[rP (48+u % 10)]
def Y9:∀(f u:Nat),u<10^(f+1)->jG f u=decDigits u
 |0,u,h=>by
  have:u<10:=aC2
  rw[decDigits,dif_pos this,jG,Nat.mod_eq_of_lt this]
 |f+1,u,h=>by
  rw[jG,decDigits];cases O:oX u 10 with
  |true=>
   have:u<10:=nQ O;rw[dif_pos this]
  |false=>
   have:¬u<10:=λq=>by rw[show oX u 10=true from Nat.ble_eq_true_of_le q] at O;cases O
   rw[dif_neg this,Y9 f (u/10) (by rw[Nat.pow_succ] at h;omega)]
section
variable{f:FuncId}{args:List U}{hi:U->Prop}
def cC(G:Cells)(P:Program)(f:FuncId)(args:List U)(hi:U->Prop):Prop:=
 Enters P f/\∀(C:Cells) (w:World) (args':List Value),O7 G C w->(∀b o v,C b o=some v->w.cell? ⟨b,o,none⟩=some v)->bY C [] [] args args'->
  Calls P f args'.toArray w λe w'=>∃r,hi r/\∃aC v',e=.returned v'/\(∀b o v,C b o=some v->aC b o=some v)/\(∀b o v,aC b o=some v->C b o=some v\/w.heap.size<=b)/\
   (∀b o v,aC b o=some v->w'.cell? ⟨b,o,none⟩=some v)/\Below w.heap.size w w'/\aI aC [] [] r v'
section
variable{G:Cells}{P:Program}
def cC.mono{Q':U->Prop}(h:cC G P f args hi)(hq:∀r,hi r->Q' r):cC G P f args Q':=
 ⟨h.1,λC w args' hg T D=>(h.2 C w args' hg T D).mono λe w' ⟨r,q,rest⟩=>⟨r,hq r q,rest⟩⟩
def b_.q{f:FuncId}{args:List U}{aM:U}{hi:U->Prop}(h:b_ G P f args aM)(hq:hi aM):cC G P f args hi:=
 ⟨h.1,λC w args' hg T D=>(h.2 C w args' hg T D).mono λe w' ⟨aC,v',a,b,c,d,e1,g,_⟩=>⟨aM,hq,aC,v',a,b,c,d,e1,g⟩⟩
def bq.awe{tf:List U}{J:List aa}{K:U->List aa->Prop}(h:cC G P f args hi)(Q:nj tf args)(S:∀r,hi r->K r J):bq G P f tf J K:=
 ⟨h.1,λbase w0 C M w args' hs D=>(h.2 C w args' ⟨hs.oB,hs.tab⟩ hs.lf (Q.rep D)).mono λe w' ⟨r,q,aC,v',he,Y,V,h3,O,fO⟩=>by
  obtain⟨hle,cE⟩:=UL hs Y V h3 O;exact⟨aC,M,J,r,v',S r q,he,hle,cE,fO.mono le_nil⟩⟩
def cU(h:bq G P f args [] λr hp'=>∃n aM,b7 hp' n r=some aM/\hi aM):cC G P f args hi:=
 ⟨h.1,λC w args' hg T D=>(h.2 w.heap.size ⟨w,C⟩ C [] w args' (ahq hg T) D).mono λe w' ⟨aC,M',hp',r,v',⟨n,aM,hfz,hq⟩,he,hle,cE,fO⟩=>by
  refine⟨aM,hq,λb o=>match aC b o with
   |some v=>some v
   |none=>if w.heap.size<=b then w'.cell? ⟨b,o,none⟩ else none,v',he,λb o v q=>?_,λb o v q=>?_,λb o v q=>?_,cE.below,?_⟩
  simp only[hle.C b o v q];dsimp only at q;split at q;rename_i u hu;cases q
  rcases cH b w.heap.size with O|O
  exact ax (cE.old b o v hu O);exact az O;split at q;rename_i O;exact az O;cases q;dsimp only at q;split at q;rename_i u hu;cases q;exact cE.lf b o v hu;split at q;exact q;cases q;refine LL (J:=hp') (va:=hp') (λb o v q=>by simp only[q]) (λk Z row L S hM i c T=>?_) (λ_ _ _ q=>q) hfz fO;obtain⟨Y,V,h3,h4,h5,h6⟩:=cE.cells k Z row L S hM;obtain⟨c',q1,ah⟩:=h3 i c T;refine⟨c',?_,ah⟩;simp only[h5 i];rw[if_pos Y];exact q1⟩
def cC.of(h:∃r,hi r/\b_ G P f args r):cC G P f args hi:=by
 obtain⟨r,q,h⟩:=h;exact h.q q
end
end
def Tc:bJ->Nat
 |.t n=>1<<<n
 |.c _=>0
def Td:List bJ->Nat
 |[]=>0
 |x::r=>(Tc x).lor (Td r)
def ae_:List Nat->Nat
 |[]=>0
 |n::r=>J8 (1<<<n) (ae_ r)
def ae9(s d:Nat):Nat:=Nat.xor s (Nat.land s (1<<<d))
def auu(s t:Nat):Nat:=Nat.xor s (Nat.land s t)
def IJ:List aL->Nat->Nat
 |[],s=>s
 |o::r,s=>J8 (J8 (match o.dst with
  |some d=>ae9 (IJ r s) d
  |none=>IJ r s) (Td (yD o.ins))) (match o.guard with
  |some g=>1<<<g.1
  |none=>0)
def Tb(s:Nat):Nat->Nat->List Nat
 |0,_=>[]
 |k+1,i=>if de (s>>>i) 0 then [] else if de (Nat.land (s>>>i) 1) 1 then i::Tb s k (i+1) else Tb s k (i+1)
def AN(s:Nat):List Nat:=Tb s 1000 0
def Ta:List (Nat×Nat)->Nat->Nat
 |[],_=>0
 |(j,s)::r,k=>if de j k then s else Ta r k
def S_:List (Nat×Nat)->Nat
 |[]=>0
 |(_,s)::r=>J8 s (S_ r)
@[irreducible] def Ob (l:List Nat):U:=.v (.string ⟨(l.map rP).toArray⟩)
def fh:bJ->bJ
 |.c (.v (.string b))=>.c (Ob (b.data.toList.map Wp))
 |x=>x
def ael:U->U
 |.v (.string b)=>Ob (b.data.toList.map Wp)
 |x=>x
def AE:U->U
 |.agg l=>.agg (l.map ael)
 |x=>ael x
def as5:kP->kP
 |.mv x=>.mv (fh x)
 |.pick c a b=>.pick (fh c) (fh a) (fh b)
 |.alloc z=>.alloc (z.map AE)
 |.box x=>.box (fh x)
 |.build z ps=>.build (z.map AE) (ps.map λp=>(p.1,p.2.1,fh p.2.2))
 |.wG n vs=>.wG n (vs.map fh)
 |.st n p x=>.st n p (fh x)
 |.bin o x y=>.bin o (fh x) (fh y)
 |.b6 k x=>.b6 k (fh x)
 |.Fy x=>.Fy (fh x)
 |.D9 x=>.D9 (fh x)
 |.ud x a b=>.ud (fh x) (a.map fh) (b.map fh)
 |.slc n x a b c=>.slc n x (a.map fh) (b.map fh) (c.map fh)
 |.zV x i=>.zV (fh x) (fh i)
 |.oI x=>.oI (fh x)
 |.len x=>.len (fh x)
 |.app n b e s x=>.app n b e s (fh x)
 |.xw f a b=>.xw f (a.map fh) (b.map fh)
 |.tn n vs=>.tn n (vs.map fh)
 |.yg n b e s x=>.yg n b e s (fh x)
 |.xy n b e z l c=>.xy n b e (z.map AE) l c
 |.yN n b e z l c=>.yN n b e (z.map AE) l c
 |.yL t x=>.yL t (fh x)
 |.FJ t z ok x=>.FJ t (AE z) ok x
 |.qz m xs=>.qz m (xs.map fh)
 |.iter x=>.iter (fh x)
 |.AM x=>.AM (fh x)
 |.yI aG ks z ok m k=>.yI aG ks (AE z) ok m (fh k)
 |.tR aG ks m k x=>.tR aG ks m (fh k) (fh x)
 |.xu aG ks z m k=>.xu aG ks (AE z) m (fh k)
 |.wq t z=>.wq t (z.map AE)
 |.wC b e s x=>.wC b e s (fh x)
 |x=>x
def as3:fL->fL
 |.op o=>.op (as5 o)
 |.call f l=>.call f (l.map fh)
 |.lz f l=>.lz f (l.map fh)
 |.nt f l=>.nt f (l.map fh)
 |.lQ x l=>.lQ x (l.map fh)
 |.nu x l=>.nu x (l.map fh)
 |.mD f l r=>.mD f (l.map fh) r
 |.eU x=>.eU (fh x)
def MJ(o:aL):aL:=⟨o.dst,o.guard,as3 o.ins⟩
def qV(al:Nat):jq->Nat->List (Nat×Nat)->Nat->c8×Nat
 |.skip,o,_,_=>(.skip (AN (o.lor al)),o.lor al)
 |.lab,o,_,_=>(.lab (AN (o.lor al)),o.lor al)
 |.bad,_,_,_=>(.bad,al)
 |.region l,o,_,_=>(.region (l.map MJ) (AN (o.lor al)),(IJ l (o.lor al)).lor al)
 |.oN ls,o,_,_=>(.oN (ls.map λl=>l.map MJ) (AN (o.lor al)),ls.foldr (λl s=>((IJ l (o.lor al)).lor al).lor s) 0)
 |.oe l,o,_,_=>(.oe (l.map λp=>(MJ p.1,p.2.map MJ)) (AN (o.lor al)),(IJ (l.map (·.1)) (o.lor al)).lor al)
 |.seq a b,o,ex,rt=>match qV al b o ex rt with
  |(b,m)=>match qV al a m ex rt with
   |(a,i)=>(.seq a b,i)
 |.cond c a b,o,ex,rt=>match qV al a o ex rt with
  |(a,i)=>match qV al b o ex rt with
   |(b,j)=>(.cond (fh c) a b,(i.lor j).lor (Tc c))
 |.block k a,o,ex,rt=>match qV al a o ((k,o.lor al)::ex) rt with
  |(a,i)=>(.block k a,i)
 |.scope a,o,ex,rt=>match qV al a o ex rt with
  |(a,i)=>(.scope a,i)
 |.loop a,o,ex,rt=>F6 (motive:=λ_=>Nat->c8×Nat) (λl=>(.bad,l)) (λ_ go l=>match qV al a l ex rt with
  |(x,i)=>if de (i.lor l) l then(.loop x,l) else go (i.lor l)) 20 al
 |.exit k,_,ex,_=>(.exit k (AN (Ta ex k)),(Ta ex k).lor al)
 |.ret,_,_,rt=>(.ret (AN (rt.lor al)),rt.lor al)
 |.oL x ps a b,o,ex,rt=>match qV al b 0 (ex.map λp=>(p.1,0)) 0 with
  |(b,bi)=>match qV al a bi (ex.map λp=>(p.1,0)) 0 with
   |(a,akr)=>(.oL (fh x) ps a b (AN (((o.lor al).lor rt).lor (S_ ex))),((((o.lor al).lor rt).lor (S_ ex)).lor (Tc x)).lor (auu akr (ae_ ps)))
def vu:List e8->Nat
 |[]=>0
 |.s t::r=>J8 (1<<<t) (vu r)
 |.c t _ _::r=>J8 (1<<<t) (vu r)
def Bb(l:List Nat):Ob l=.v (.string ⟨(l.map rP).toArray⟩):=by rw[Ob]
structure jo(P:Program)(f:FuncId) where
 e:jg
 ok:Gc P f e
 hm:P.follows .mixedOrders=true
def aag(P:Program)(hb:iQ)(f:FuncId):Option (Nat×List e8×c8):=match pV P hb f with
 |some ⟨n,rs,c⟩=>some (n,rs,(qV 0 c (vu rs) [] (vu rs)).1)
 |none=>none
def jo.c{P:Program}{f:FuncId}(hb:iQ){n:Nat}{rs:List e8}{c:c8}
 (_h:aag P hb f=some (n,rs,c):=by conv=>lhs;reduce;simp only[Int.reduceOfNat,Int.reduceNegSucc,Bb,List.map,UInt8.reduceOfNat])
 (hc:pV P hb f=some ⟨n,rs,c.aV⟩:=by kernel_rfl) (k8:c.fits n=true:=by kernel_rfl) (hm:P.follows .mixedOrders=true:=by kernel_rfl):jo P f:=⟨.plain n rs c,⟨⟨hb,hc⟩,k8⟩,hm⟩
def jo.m{P:Program}{f:FuncId}(hb:iQ){n:Nat}{rs:List e8}{c:c8}
 (_h:aag P hb f=some (n,rs,c):=by conv=>lhs;reduce;simp only[Int.reduceOfNat,Int.reduceNegSucc,Bb,List.map,UInt8.reduceOfNat])
 (hc:pV P hb f=some ⟨n,rs,c.aV⟩:=by kernel_rfl) (k8:c.mR n true=true:=by kernel_rfl) (hm:P.follows .mixedOrders=true:=by kernel_rfl):jo P f:=⟨.loops n rs c,⟨⟨hb,hc⟩,k8⟩,hm⟩
def UT:List aL->Nat
 |[]=>1000000
 |o::r=>match o.dst with
  |some d=>d
  |none=>UT r
def Tj:List Nat->Nat->Bool
 |[],_=>false
 |a::r,n=>if de a n then true else Tj r n
def MQ(P:Program):Nat->TypeId->List gQ
 |0,_=>[]
 |d+1,t=>match P.underlying t with
  |some .bool=>[.b]
  |some (.int _)=>[.i]
  |some .string=>[.s]
  |some (.array n e)=>(dJ n (MQ P d e)).flatten
  |some (.struct fs)=>(fs.toList.map λf=>MQ P d f.type).flatten
  |_=>[]
def Th(P:Program)(t:TypeId):Option (Bool×List gQ×U):=match P.underlying t with
 |some (.map kt et)=>match iP P kt,y6 P et with
  |some aG,some z=>some (aG,MQ P 12 kt,z)
  |_,_=>none
 |_=>none
def ayf(P:Program)(ops:Array Oper)(o:Oper):Option aL:=match o.op with
 |.binOp op t x y _=>match P.underlying t with
  |some (.struct _)|some (.array _ _)=>match y3 ops o.guard,cK x,cK y with
   |some g,some x,some y=>some ⟨o.dst,g,.op (.Eg (MQ P 12 t) (match op with|.eql=>false|_=>true) x y)⟩
   |_,_,_=>none
  |_=>uc P ops o
 |.lookup t m k ok=>match y3 ops o.guard,cK m,cK k,Th P t with
  |some g,some m,some k,some (aG,ks,z)=>some ⟨o.dst,g,.op (.yI aG ks z ok m k)⟩
  |_,_,_,_=>none
 |.mapUpdate t m k x|.insert t m k x=>match y3 ops o.guard,cK m,cK k,cK x,Th P t with
  |some g,some m,some k,some x,some (aG,ks,_)=>some ⟨o.dst,g,.op (.tR aG ks m k x)⟩
  |_,_,_,_,_=>none
 |.mapEntry t m k=>match y3 ops o.guard,cK m,cK k,Th P t with
  |some g,some m,some k,some (aG,ks,z)=>some ⟨o.dst,g,.op (.xu aG ks z m k)⟩
  |_,_,_,_=>none
 |_=>uc P ops o
def ahA(P:Program)(ops:Array Oper):List Oper->Option (List aL)
 |[]=>some []
 |o::r=>match ayf P ops o,ahA P ops r with
  |some s,some l=>some (s::l)
  |_,_=>none
def xG(P:Program)(pu:iQ)(h2 W:List Nat):Code->Option jq
 |.skip=>some .skip
 |.region _ ops draw=>match ahA P ops ops.toList with
  |some l=>if Tj W (UT l) then some (.oe (lC true ops.toList (qA pu l))) else if Tj h2 (UT l) then some (.region (qA pu l)) else some (.region (l.map (xJ pu)))
  |none=>none
 |.seq a b=>match xG P pu h2 W a,xG P pu h2 W b with
  |some x,some y=>some (.seq x y)
  |_,_=>none
 |.cond c a b=>match cK c,xG P pu h2 W a,xG P pu h2 W b with
  |some c,some x,some y=>some (.cond c x y)
  |_,_,_=>none
 |.block id a=>match xG P pu h2 W a with
  |some x=>some (.block id x)
  |none=>none
 |.loop a=>match xG P pu h2 W a with
  |some x=>some (.loop x)
  |none=>none
 |.exit id=>some (.exit id)
 |.ret=>some .ret
 |.rangeFunc g ps a b=>match cK g,xG P pu h2 W a,xG P pu h2 W b with
  |some x,some sa,some sb=>some (.oL x ps.toList sa sb)
  |_,_,_=>none
 |.scope a=>match xG P pu h2 W a with
  |some x=>some (.scope x)
  |none=>none
 |.label _=>some .lab
 |.goto _=>some .bad
 |.refuse _=>some .bad
def LM(P:Program)(hb:iQ)(h2 W:List Nat)(f:FuncId):Option (Nat×List e8×c8):=match P.funcs[f]? with
 |some fn=>match fn.body with
  |some c=>match xG P hb h2 W c,A6 P fn.results.toList with
   |some sc,some rs=>some (fn.ntmps,rs,(qV 0 sc (vu rs) [] (vu rs)).1)
   |_,_=>none
  |none=>none
 |none=>none
def jo.u{P:Program}{f:FuncId}(hb:iQ)(h2 W:List Nat){n:Nat}{rs:List e8}{c:c8}
 (_h:LM P hb h2 W f=some (n,rs,c):=by conv=>lhs;reduce;simp only[Int.reduceOfNat,Int.reduceNegSucc,Bb,List.map,UInt8.reduceOfNat])
 (hc:pV P hb f=some ⟨n,rs,c.aV⟩:=by kernel_rfl) (k8:c.fits n=true:=by kernel_rfl) (hm:P.follows .mixedOrders=true:=by kernel_rfl):jo P f:=⟨.plain n rs c,⟨⟨hb,hc⟩,k8⟩,hm⟩
def jo.v{P:Program}{f:FuncId}(hb:iQ)(h2 W:List Nat){n:Nat}{rs:List e8}{c:c8}
 (_h:LM P hb h2 W f=some (n,rs,c):=by conv=>lhs;reduce;simp only[Int.reduceOfNat,Int.reduceNegSucc,Bb,List.map,UInt8.reduceOfNat])
 (hc:pV P hb f=some ⟨n,rs,c.aV⟩:=by kernel_rfl) (k8:c.mR n true=true:=by kernel_rfl) (hm:P.follows .mixedOrders=true:=by kernel_rfl):jo P f:=⟨.loops n rs c,⟨⟨hb,hc⟩,k8⟩,hm⟩
def jo.p{P:Program}{f:FuncId}(hb:iQ){n:Nat}{rs:List e8}{c:c8}(_h:LM P hb [] [] f=some (n,rs,c):=by conv=>lhs;reduce;simp only[Int.reduceOfNat,Int.reduceNegSucc,Bb,List.map,UInt8.reduceOfNat])
 (hc:pV P hb f=some ⟨n,rs,c.aV⟩:=by kernel_rfl) (k8:c.fits n=true:=by kernel_rfl) (hm:P.follows .mixedOrders=true:=by kernel_rfl):jo P f:=⟨.plain n rs c,⟨⟨hb,hc⟩,k8⟩,hm⟩
def jo.l{P:Program}{f:FuncId}(hb:iQ){n:Nat}{rs:List e8}{c:c8}(_h:LM P hb [] [] f=some (n,rs,c):=by conv=>lhs;reduce;simp only[Int.reduceOfNat,Int.reduceNegSucc,Bb,List.map,UInt8.reduceOfNat])
 (hc:pV P hb f=some ⟨n,rs,c.aV⟩:=by kernel_rfl) (k8:c.mR n true=true:=by kernel_rfl) (hm:P.follows .mixedOrders=true:=by kernel_rfl):jo P f:=⟨.loops n rs c,⟨⟨hb,hc⟩,k8⟩,hm⟩
def jo.x{P:Program}{f:FuncId}(hb:iQ)(n:Nat)(rs:List e8)(c:c8)
 (hc:pV P hb f=some ⟨n,rs,c.aV⟩:=by kernel_rfl) (k8:c.fits n=true:=by kernel_rfl) (hm:P.follows .mixedOrders=true:=by kernel_rfl):jo P f:=⟨.plain n rs c,⟨⟨hb,hc⟩,k8⟩,hm⟩
def anl(P:Program)(hb:iQ)(f:FuncId):Option (Nat×List e8×c8×Nat×FuncId×List bJ×c8):=match FF P hb f with
 |some ⟨n,rs,a,t,g,caps,b⟩=>match qV (vu rs) b (vu rs) [] (vu rs) with
  |(b,i)=>some (n,rs,(qV (vu rs) a ((ae9 i t).lor (Td caps)) [] (vu rs)).1,t,g,caps,b)
 |none=>none
def jo.d{P:Program}{f:FuncId}(hb:iQ){n:Nat}{rs:List e8}{a b:c8}{t:Nat}{g:FuncId}{caps:List bJ}
 (_h:anl P hb f=some (n,rs,a,t,g,caps,b):=by conv=>lhs;reduce;simp only[Int.reduceOfNat,Int.reduceNegSucc,Bb,List.map,UInt8.reduceOfNat])
 (hc:FF P hb f=some ⟨n,rs,a.aV,t,g,caps,b.aV⟩:=by kernel_rfl) (k8:(a.fits n&&b.fits n&&oX t n)=true:=by kernel_rfl) (hm:P.follows .mixedOrders=true:=by kernel_rfl):jo P f:=⟨.oy n rs a t g caps b,⟨⟨hb,hc⟩,by
 rw[dV,dV] at k8;exact⟨k8.1.1,k8.1.2,ajF (nQ k8.2)⟩⟩,hm⟩
def anm(P:Program)(hb:iQ)(f:FuncId):Option (Nat×Nat×Nat×c8):=match FG P hb f with
 |some ⟨n,d0,d1,c⟩=>some (n,d0,d1,(qV 0 c 0 [] 0).1)
 |none=>none
def jo.r{P:Program}{f:FuncId}(hb:iQ){n d0 d1:Nat}{c:c8}
 (_h:anm P hb f=some (n,d0,d1,c):=by conv=>lhs;reduce;simp only[Int.reduceOfNat,Int.reduceNegSucc,Bb,List.map,UInt8.reduceOfNat])
 (hc:FG P hb f=some ⟨n,d0,d1,c.aV⟩:=by kernel_rfl) (k8:(c.fits n&&oX d0 n&&oX d1 n)=true:=by kernel_rfl) (hm:P.follows .mixedOrders=true:=by kernel_rfl):jo P f:=⟨.C7 n d0 d1 c,⟨⟨hb,hc⟩,by
 rw[dV,dV] at k8;exact⟨k8.1.1,ajF (nQ k8.1.2),ajF (nQ k8.2)⟩⟩,hm⟩
def jg.bc:jg->c8
 |.oy _ _ _ _ _ _ b=>b
 |_=>.bad
def Rf(G:Cells)(P:Program)(args:List U)(J:List aa)(K:U->List aa->Prop)(E:kz)(e0:jg):jg->Prop
 |.plain n rs c=>args.length<=n/\@cJ G P false c ⟨@Fs rs ⟨K⟩ ⟨E⟩⟩ (mP 0 args) J
 |.loops n rs c=>args.length<=n/\@cJ G P false c ⟨@NK J.length rs ⟨K⟩ ⟨E⟩⟩ (mP 0 args) J
 |.oy n rs a t g caps b=>(∀ch h,¬E ch h)/\args.length<=n/\@cJ G P false a ⟨@pW ⟨λe J=>∃ks:List Nat,ld e caps=some (ks.map λk=>.mp k 0)/\@cJ G P false e0.bc ⟨@agG G P g ks rs ⟨K⟩⟩ ((t,.fn (.func g) [] (ks.map λk=>.mp k 0))::e) J⟩ ⟨λ_ _ _=>False⟩⟩ (mP 0 args) J
 |_=>False
section
variable{G:Cells}{P:Program}{f:FuncId}{args:List U}{J:List aa}{K:U->List aa->Prop}{E:kz}
def aaq(k:jo P f)(h:Rf G P args J K E k.e k.e):fJ G P f args J K E:=by
 obtain⟨e,ok,hm⟩:=k;cases e with
 |plain n rs c=>exact ZW hm ok.1.choose_spec ok.2 h.1 h.2
 |loops n rs c=>exact ZX hm ok.1.choose_spec ok.2 h.1 h.2
 |oy n rs a t g caps b=>exact Bo (ZV hm ok.1.choose_spec ok.2.1 ok.2.2.1 ok.2.2.2 h.2.1 h.2.2)
 |_=>exact h.elim
def jo.wW(k:jo P f){q:Prop}(h:q)(e:q->Rf G P args J K E k.e k.e:=by
 intro hh
 conv=>whnf
 first|exact⟨Nat.le_of_ble_eq_true rfl,hh⟩|exact⟨λ_ _ z=>z,Nat.le_of_ble_eq_true rfl,hh⟩):fJ G P f args J K E:=aaq k (e h)
def jo.go(k:jo P f){q:Prop}(h:q)(e:q->Rf G P args J K (λ_ _=>False) k.e k.e:=by
 intro hh
 conv=>whnf
 first|exact⟨Nat.le_of_ble_eq_true rfl,hh⟩|exact⟨λ_ _ z=>z,Nat.le_of_ble_eq_true rfl,hh⟩):bq G P f args J K:=(aaq k (e h)).ok
def Y1(G:Cells)(P:Program)(args:List U)(J:List aa)(x:Option U)(K:List aa->Prop):jg->Prop
 |.C7 n d0 d1 c=>args.length<=n/\@cJ G P false c ⟨@agK ⟨K⟩⟩ ((d1,nG x)::(d0,nG x)::mP 0 args) J
 |_=>False
def amh{x:Option U}{v:Option Value}{K:List aa->Prop}(k:jo P f)(I:match x,v with|none,none=>True|some x,some v=>tW x=true/\ox x=some v|_,_=>False)(h:Y1 G P args J x K k.e):jf G P f args J v K:=by
 obtain⟨e,ok,hm⟩:=k;cases e with
 |C7 n d0 d1 c=>exact Y2 hm ok.1.choose_spec ok.2.1 ok.2.2 h.1 I h.2
 |_=>exact h.elim
def jo.Lf{x:Option U}{v:Option Value}{K:List aa->Prop}(k:jo P f)(I:match x,v with|none,none=>True|some x,some v=>tW x=true/\ox x=some v|_,_=>False){q:Prop}(h:q)(e:q->Y1 G P args J x K k.e:=by
 intro hh
 conv=>whnf
 exact⟨Nat.le_of_ble_eq_true rfl,hh⟩):jf G P f args J v K:=amh k I (e h)
end
def c8.tl:c8->c8
 |.seq _ b=>b
 |c=>c
def jg.c:jg->c8
 |.plain _ _ c|.loops _ _ c=>c
 |_=>.bad
inductive zC(P:Program) where
 |nil
 |node (l:zC P) (k:FuncId) (c:jo P k) (m:Nat) (r:zC P)
def zC.rH{P:Program}:zC P->nU
 |.nil=>.nil
 |.node l k c m r=>.node l.rH k c.e m r.rH
def zC.ok{P:Program}:∀t:zC P,t.rH.cv P
 |.nil=>trivial
 |.node l _ c _ r=>⟨l.ok,c.ok,r.ok⟩
section
variable{x y:U}{xs ys:List U}
def aW(J:List aa)(x y:U):Prop:=∃n0,∀n,n0<=n->b7 J n x=some y
def dK(J:List aa)(xs ys:List U):Prop:=∃n0,∀n,n0<=n->iz (b7 J n) xs=some ys
section
variable{J:List aa}
def aW.done(h:aW J x y):∃n,b7 J n x=some y:=by
 obtain⟨n,h⟩:=h;exact⟨n,h n (bg n)⟩
def aW.amn(h:aW J x y):∃n aM,b7 J n x=some aM/\aM=y:=by
 obtain⟨n,h⟩:=h.done;exact⟨n,y,h,rfl⟩
def wV(h:∃n0,∀n,n0<=n->b7 J (n+1) x=some y):aW J x y:=by
 obtain⟨n0,h⟩:=h;refine⟨n0+1,λn hn=>?_⟩;obtain⟨m,rfl⟩:∃m,n=m+1:=⟨n-1,aCs⟩;exact h m aCs
def dK.nil:dK J [] []:=⟨0,λn _=>rfl⟩
def dK.cons{x y:U}{xs ys:List U}(h:aW J x y)(k:dK J xs ys):dK J (x::xs) (y::ys):=by
 obtain⟨n0,h⟩:=h;obtain⟨n1,k⟩:=k;exact⟨n0+n1,λn hn=>by simp only[iz,h n aCs,k n aCs]⟩
def dK.append{xs' ys':List U}(h:dK J xs ys)(k:dK J xs' ys'):dK J (xs++xs') (ys++ys'):=by
 induction xs generalizing ys with
 |nil=>
  obtain⟨n0,h⟩:=h;have:=h n0 (bg _);cases this;exact k
 |cons x xs ih=>
  obtain⟨n0,h⟩:=h;have h0:=h n0 (bg _);simp only[iz] at h0;split at h0;rename_i y hy;split at h0
  · rename_i l hl
    cases h0;refine dK.cons ⟨n0,λn hn=>?_⟩ (ih ⟨n0,λn hn=>?_⟩)
    all_goals
     have Y:=h n hn;simp only[iz] at Y;split at Y;rename_i y' hy';split at Y;rename_i l' hl';cases Y
     first|exact hy'|exact hl'
     cases Y;cases Y
  cases h0;cases h0
def dK.map{α:Type}{f:α->U}:∀{l:List α},(∀a∈l,aW J (f a) (f a))->dK J (l.map f) (l.map f)
 |[],_=>dK.nil
 |a::l,h=>dK.cons (h a aCt) (dK.map λb O=>h b aEe)
def dK.each{l:List U}(h:∀a∈l,aW J a a):dK J l l:=by
 have:=dK.map (J:=J) (f:=λa=>a) (l:=l) h;simpa using this
def aW.v(x:Value):aW J (.v x) (.v x):=wV ⟨0,λn _=>rfl⟩
def aW.af:aW J .af .af:=wV ⟨0,λn _=>rfl⟩
def aW.agg{xs ys:List U}(h:dK J xs ys):aW J (.agg xs) (.agg ys):=by
 obtain⟨n0,h⟩:=h;exact wV ⟨n0,λn hn=>by show(iz (b7 J n) xs).map b8=_;rw[h n hn];rfl⟩
def aW.aK(h:dK J xs ys):aW J (.aK xs) (.aK ys):=by
 obtain⟨n0,h⟩:=h;exact wV ⟨n0,λn hn=>by show(iz (b7 J n) xs).map U.aK=_;rw[h n hn];rfl⟩
def aW.sl{xs ys:List U}{t:iU}(h:dK J xs ys):aW J (.sl xs t) (.sl ys .no):=by
 obtain⟨n0,h⟩:=h;exact wV ⟨n0,λn hn=>by show(iz (b7 J n) xs).map (λys=>U.sl ys .no)=_;rw[h n hn];rfl⟩
def aW.fp{o:Nat}(h:dK J xs ys):aW J (.fp xs o) (.fp ys o):=by
 obtain⟨n0,h⟩:=h;exact wV ⟨n0,λn hn=>by show(iz (b7 J n) xs).map (λys=>U.fp ys o)=_;rw[h n hn];rfl⟩
def aW.cT{t:TypeId}(h:aW J x y):aW J (.cT t x) (.cT t y):=by
 obtain⟨n0,h⟩:=h;exact wV ⟨n0,λn hn=>by show(b7 J n x).map (U.cT t)=_;rw[h n hn];rfl⟩
def aW.mp{k o:Nat}{xs ys:List U}(S:J[k]?=some (.cells xs false))(h:dK J xs ys):aW J (.mp k o) (.fp ys o):=by
 obtain⟨n0,h⟩:=h;exact wV ⟨n0,λn hn=>by simp only[b7,S,h n hn,ir]⟩
def aW.rs{k m sz o len:Nat}{xs ys:List U}(S:J[k]?=some (.cells xs true))(hm:m=xs.length)(h:dK J xs ys):aW J (.rs k m sz o len) (.sl (chunks sz ys o len) .no):=by
 obtain⟨n0,h⟩:=h;exact wV ⟨n0,λn hn=>aEJ⟩
def aW.rp{k m o:Nat}{xs ys:List U}(S:J[k]?=some (.cells xs true))(hm:m=xs.length)(h:dK J xs ys):aW J (.rp k m o) (.fp ys o):=by
 obtain⟨n0,h⟩:=h;exact wV ⟨n0,λn hn=>aEJ⟩
end
def BW{Z:List U}{off:Nat}(h:∀c∈Z,Clean c):Clean (.fp Z off):=λC M J v D=>by
 cases D with
 |fp f hC hR=>exact .fp f hC λi c T=>h c (bA T) _ _ _ _ (hR i c T)
def Ed:Nat->U->Bool
 |0,_=>false
 |n+1,x=>match x with
  |.v _=>true
  |.af=>true
  |.agg Z=>Z.all (Ed n)
  |.aK Z=>Z.all (Ed n)
  |.fp Z _=>Z.all (Ed n)
  |.sl xs .no=>xs.all λx=>x.cells.all (Ed n)
  |_=>false
def BZ:∀{n:Nat} {x:U},Ed n x=true->Clean x
 |0,x,h=>aCL
 |n+1,x,h=>by
  unfold Ed at h;split at h;exact cm _;exact mh;exact Ec λc T=>BZ (c7.1 h c T);exact alO λc T=>BZ (c7.1 h c T);exact BW λc T=>BZ (c7.1 h c T);exact j0 λx I c T=>BZ (c7.1 (c7.1 h x I) c T);cases h
end
def jd{i:Nat}(h:i<4611686018427387904):bP.wrap ((i:Int)+1)=((i+1:Nat):Int):=by rw[wrap_i64 aCs aCs];rfl
def aiM{i:Nat}(h:i<4611686018427387904):bP.wrap ((i:Int)+2)=((i+2:Nat):Int):=by rw[wrap_i64 aCs aCs];rfl
def FT{i:Nat}(h:1<=i)(V:i<4611686018427387904):bP.wrap ((i:Int)-1)=((i-1:Nat):Int):=by rw[wrap_i64 aCs aCs];omega
def aiN{i j:Nat}(h:i<4611686018427387904)(V:j<4611686018427387904):bP.wrap ((i:Int)+(j:Int))=((i+j:Nat):Int):=by rw[wrap_i64 aCs aCs];rfl
def aiO{i j:Nat}(h:j<=i)(V:i<4611686018427387904):bP.wrap ((i:Int)-(j:Int))=((i-j:Nat):Int):=by rw[wrap_i64 aCs aCs];omega
def GY{i n:Nat}(h:i<n):decide ((i:Int)<(n:Int))=true:=aCv
def GX{i n:Nat}(h:n<=i):decide ((i:Int)<(n:Int))=false:=aCv
def Za{i n:Nat}(h:i<=n):decide ((i:Int)<=(n:Int))=true:=aCv
def Y_{i n:Nat}(h:n<i):decide ((i:Int)<=(n:Int))=false:=aCv
def PX{i n:Nat}(h:i=n):((i:Int)==(n:Int))=true:=by simp[h]
def KM{i n:Nat}(h:i≠n):((i:Int)==(n:Int))=false:=aCv
def X6{i n:Nat}(h:i≠n):((i:Int) !=(n:Int))=true:=aCv
def X5{i n:Nat}(h:i=n):((i:Int) !=(n:Int))=false:=by simp[h]
def Vn(b:Bool):BP .not (.v (.bool b))=some (.v (.bool !b)):=rfl
def Lt(a b:U):nV 0 (.aK [a,b])=some a:=rfl
def Lu(a b:U):nV 1 (.aK [a,b])=some b:=rfl
def Zw(a b c:U):nV 0 (.aK [a,b,c])=some a:=rfl
def Zx(a b c:U):nV 1 (.aK [a,b,c])=some b:=rfl
def Zy(a b c:U):nV 2 (.aK [a,b,c])=some c:=rfl
def tC(x:U)(J:List aa):aq J false 1 (.fp [x] 0)=some x:=rfl
def T7(Z:List U)(o:Nat)(neg:Bool):mO .ptr neg (.fp Z o) (.v (.pointer none))=some (.v (.bool neg)):=aDD
def T8(k o:Nat)(neg:Bool):mO .ptr neg (.mp k o) (.v (.pointer none))=some (.v (.bool neg)):=aDD
def agi(neg:Bool):mO .ptr neg (.v (.pointer none)) (.v (.pointer none))=some (.v (.bool !neg)):=aDD
def kT(n:Int):goInt n=.int .i64 n:=rfl
def oo:type_of% @bX.{0,0}/\type_of% @jd/\type_of% @aiM/\type_of% @FT/\type_of% @aiN/\type_of% @aiO/\type_of% @GY/\type_of% @GX/\type_of% @Za/\type_of% @Y_/\type_of% @PX/\type_of% @KM/\type_of% @X6/\type_of% @X5/\type_of% @Vn/\
  type_of% @Lt/\type_of% @Lu/\type_of% @Zw/\type_of% @Zx/\type_of% @Zy/\type_of% @tC/\type_of% @T7/\type_of% @T8/\type_of% @agi/\type_of% @kT/\type_of% @vL/\type_of% @rK/\type_of% @Kb/\type_of% @Ka:=
 ⟨@bX.{0,0},@jd,@aiM,@FT,@aiN,@aiO,@GY,@GX,@Za,@Y_,@PX,@KM,@X6,@X5,@Vn,@Lt,@Lu,@Zw,@Zx,@Zy,@tC,@T7,@T8,@agi,@kT,@vL,@rK,@Kb,@Ka⟩
def dP{p q:Prop}(h:q)(e:q->p:=by intro hh;simp -failIfUnchanged -implicitDefEqProofs (disch:=first|assumption|decide|omega) only[gY,lY,lZ,↓reduceIte,Nat.reduceEqDiff,Nat.reduceAdd,Nat.reduceLT,Nat.reduceLeDiff,oo,Int.reduceBEq,Int.reduceBNe];exact hh):p:=e h
def dr{p q a0:Prop}(x0:a0)(h:q)(e:a0->q->p:=by intro f0 hh;simp -failIfUnchanged -implicitDefEqProofs (disch:=first|assumption|decide|omega) only[gY,lY,lZ,↓reduceIte,Nat.reduceEqDiff,Nat.reduceAdd,Nat.reduceLT,Nat.reduceLeDiff,oo,Int.reduceBEq,Int.reduceBNe,f0];exact hh):p:=e x0 h
def kH{p q a b:Prop}(x:a)(y:b)(h:q)(e:a/\b->q->p:=by intro f h;exact dr f h):p:=e ⟨x,y⟩ h
def gj{p q a b c:Prop}(x:a)(y:b)(z:c)(h:q)(e:a/\b/\c->q->p:=by intro f h;exact dr f h):p:=e ⟨x,y,z⟩ h
def kg{p q a b c d:Prop}(x:a)(y:b)(z:c)(u:d)(h:q)(e:a/\b/\c/\d->q->p:=by intro f h;exact dr f h):p:=e ⟨x,y,z,u⟩ h
def nL{p q a b c d f:Prop}(x:a)(y:b)(z:c)(u:d)(v:f)(h:q)(e:a/\b/\c/\d/\f->q->p:=by intro f h;exact dr f h):p:=e ⟨x,y,z,u,v⟩ h
def y8{p q a b c d f g:Prop}(x:a)(y:b)(z:c)(u:d)(v:f)(w:g)(h:q)(e:a/\b/\c/\d/\f/\g->q->p:=by intro f h;exact dr f h):p:=e ⟨x,y,z,u,v,w⟩ h
def mF{p q a b c d f g i:Prop}(x:a)(y:b)(z:c)(u:d)(v:f)(w:g)(r:i)(h:q)(e:a/\b/\c/\d/\f/\g/\i->q->p:=by intro f h;exact dr f h):p:=e ⟨x,y,z,u,v,w,r⟩ h
def JO{p q a b c d f g i j:Prop}(x:a)(y:b)(z:c)(u:d)(v:f)(w:g)(r:i)(s:j)(h:q)(e:a/\b/\c/\d/\f/\g/\i/\j->q->p:=by intro f h;exact dr f h):p:=e ⟨x,y,z,u,v,w,r,s⟩ h
def sJ{p q a b c d f g i j k:Prop}(x:a)(y:b)(z:c)(u:d)(v:f)(w:g)(r:i)(s:j)(t:k)(h:q)(e:a/\b/\c/\d/\f/\g/\i/\j/\k->q->p:=by intro f h;exact dr f h):p:=e ⟨x,y,z,u,v,w,r,s,t⟩ h
section
variable{l:List UInt8}{i j:Nat}{α:Type}
def ai(l:List UInt8):U:=.v (.string ⟨⟨l⟩⟩)
def PS(l:List UInt8):(⟨⟨l⟩⟩:ByteArray).toList=l:=aCt
def akV(l:List UInt8)(i:Nat):(⟨⟨l⟩⟩:ByteArray)[i]?=l[i]? :=by
 rcases cH i l.length with h|h
 rw[br h];exact getElem?_pos (⟨⟨l⟩⟩:ByteArray) i h;rw[h_ h];exact getElem?_neg (⟨⟨l⟩⟩:ByteArray) i (by show¬i<l.length;omega)
@[go_sem]def mm(a b:List UInt8):cr .eql (ai a) (ai b)=some (.v (.bool (a==b))):=by
 simp only[ai,cr,FB,PS,ir]
@[go_sem]def vk(a b:List UInt8):cr .neq (ai a) (ai b)=some (.v (.bool !(a==b))):=by
 simp only[ai,cr,FB,PS,ir]
@[go_sem]def rZ{a b:List UInt8}(h:a.length+b.length<=4611686018427387904):cr .add (ai a) (ai b)=some (ai (a++b)):=by
 have e:(⟨⟨a⟩⟩:ByteArray)++⟨⟨b⟩⟩=⟨⟨a++b⟩⟩:=by apply VK;simp
 have V:¬(((⟨⟨a⟩⟩:ByteArray).size+(⟨⟨b⟩⟩:ByteArray).size:Nat):Int)>bP.max:=by
  show¬((a.length+b.length:Nat):Int)>9223372036854775807;omega
 simp only[ai,cr,FB];rw[if_neg V,e];rfl
@[go_sem]def Yz{c:UInt8}{k:IntKind}(h:l[i]?=some c):tc (ai l) (.v (.int k (i:Int)))=some (.v (.int .u8 (c.toNat:Int))):=by
 simp only[ai,tc];rw[if_pos aCs,ux,akV,h];rfl
@[go_sem]def tQ(l:List UInt8)(J:List aa):oI (ai l) J=some (.v (.int .i64 (l.length:Int)),J):=rfl
@[go_sem]def Le(h:i<=j)(V:j<=l.length)(J:List aa):Dj (ai l) (some (.v (.int .i64 (i:Int)))) (some (.v (.int .i64 (j:Int)))) J=some (ai ((l.take j).drop i),J):=by
 have e:(⟨⟨l⟩⟩:ByteArray).extract i j=⟨⟨(l.take j).drop i⟩⟩:=by
  apply VK;simp[List.drop_take]
 have O:kC l.length l.length (some (i:Int)) (some (j:Int)) none=some (i,j,l.length):=by
  simp only[kC,iH,x4,ze,je,if_false];rw[if_pos ⟨aCs,aCs⟩];dsimp only;rw[if_pos ⟨aCs,aCs⟩];simp
 show DI (λr=>(r,J)) (kR 0 (.v (.string ⟨⟨l⟩⟩)) (some (.v (.int .i64 (i:Int)))) (some (.v (.int .i64 (j:Int)))) none)=_;have oE:∀n:Int,mC (some (.v (.int .i64 n)))=some (some n):=λn=>rfl;have oF:mC none=some none:=rfl;unfold kR;rw[oE,oE,oF];dsimp only;rw[if_neg aCt,show(⟨⟨l⟩⟩:ByteArray).size=l.length from rfl,O];dsimp only;rw[e];rfl
@[go_sem]def Ql(h:i<=l.length)(J:List aa):Dj (ai l) (some (.v (.int .i64 (i:Int)))) none J=some (ai (l.drop i),J):=by
 have e:(⟨⟨l⟩⟩:ByteArray).extract i l.length=⟨⟨l.drop i⟩⟩:=by
  apply VK;simp;rw[lH aCt]
 have O:kC l.length l.length (some (i:Int)) none none=some (i,l.length,l.length):=by
  simp only[kC,iH,x4,ze,je,if_false];rw[if_pos ⟨aCs,aCs⟩];simp
 show DI (λr=>(r,J)) (kR 0 (.v (.string ⟨⟨l⟩⟩)) (some (.v (.int .i64 (i:Int)))) none none)=_;have oE:∀n:Int,mC (some (.v (.int .i64 n)))=some (some n):=λn=>rfl;have oF:mC none=some none:=rfl;unfold kR;rw[oE,oF];dsimp only;rw[if_neg aCt,show(⟨⟨l⟩⟩:ByteArray).size=l.length from rfl,O];dsimp only;rw[e];rfl
@[go_sem]def Ld(h:j<=l.length)(J:List aa):Dj (ai l) none (some (.v (.int .i64 (j:Int)))) J=some (ai (l.take j),J):=by
 have e:(⟨⟨l⟩⟩:ByteArray).extract 0 j=⟨⟨l.take j⟩⟩:=by
  apply VK;simp
 have O:kC l.length l.length none (some (j:Int)) none=some (0,j,l.length):=by
  simp only[kC,iH,x4,ze,je,if_false];rw[if_pos ⟨aCs,aCs⟩];simp
 show DI (λr=>(r,J)) (kR 0 (.v (.string ⟨⟨l⟩⟩)) none (some (.v (.int .i64 (j:Int)))) none)=_;have oE:∀n:Int,mC (some (.v (.int .i64 n)))=some (some n):=λn=>rfl;have oF:mC none=some none:=rfl;unfold kR;rw[oE,oF];dsimp only;rw[if_neg aCt,show(⟨⟨l⟩⟩:ByteArray).size=l.length from rfl,O];dsimp only;rw[e];rfl
def ayY(len l h m:Nat):Bc .no len l h m false=.no:=by
 unfold Bc;rw[if_neg aCt];split;split<;>rfl;rfl
section
variable{xs:List U}{n:Nat}
@[go_sem]def UP{lo Q:Option U}{l' h':Option Int}(Y:mC lo=some l')(V:mC Q=some h')(O:kC xs.length xs.length l' h' none=some (i,j,xs.length))(ho:∀x∈xs,x.cells.length=n)(J:List aa):
  pU n (.sl xs .no) lo Q none J=some (.sl ((xs.take j).drop i) .no,J):=by
 have hall:(xs.all λx=>x.cells.length==n)=true:=by
  rw[c7];intro x I;simpa using ho x I
 show DI (λr=>(r,J)) (kR n (.sl xs .no) lo Q none)=_;have oF:mC none=some none:=rfl;unfold kR;rw[Y,V,oF];dsimp only;rw[O];dsimp only;rw[if_pos hall,show(none:Option Int).isSome=false from rfl,ayY];rfl
@[go_sem]def aht(h:j<=xs.length)(ho:∀x∈xs,x.cells.length=n)(J:List aa):pU n (.sl xs .no) none (some (.v (.int .i64 (j:Int)))) none J=some (.sl (xs.take j) .no,J):=by
 have O:kC xs.length xs.length none (some (j:Int)) none=some (0,j,xs.length):=by
  simp only[kC,iH,x4,ze,je,if_false];rw[if_pos ⟨aCs,aCs⟩];simp
 exact UP rfl rfl O ho J
@[go_sem]def NV(h:i<=xs.length)(ho:∀x∈xs,x.cells.length=n)(J:List aa):pU n (.sl xs .no) (some (.v (.int .i64 (i:Int)))) none none J=some (.sl (xs.drop i) .no,J):=by
 have O:kC xs.length xs.length (some (i:Int)) none none=some (i,xs.length,xs.length):=by
  simp only[kC,iH,x4,ze,je,if_false];rw[if_pos ⟨aCs,aCs⟩];simp
 have:=UP (xs:=xs) (n:=n) (lo:=some (.v (.int .i64 (i:Int)))) (Q:=none) rfl rfl O ho J;rw[p8] at this;exact this
end
def Od{l:List (List UInt8)}:∀x∈l.map ai,x.cells.length=1:=λx I=>by
 obtain⟨a,_,rfl⟩:=cI.1 I;rfl
def B6{α:Type}(p:α->Bool)(l:List α):Int:=if l.any p then(l.findIdx p:Int) else -1
def am0{p:α->Bool}{l:List α}{a:α}(h:l[i]?=some a)(J:p a=true)(hI:∀j b,j<i->l[j]?=some b->p b=false):B6 p l=(i:Int):=by
 have Q:=(bF.1 h).1;have ha:l.any p=true:=F0.2 ⟨a,bA h,J⟩;unfold B6;rw[if_pos ha,(List.findIdx_eq Q).2 ⟨?_,λj hj=>?_⟩];rw[br Q] at h;cases h;exact J;exact hI j _ hj (br aCs)
def am1{p:α->Bool}{l:List α}(hI:∀j b,j<l.length->l[j]?=some b->p b=false):B6 p l= -1:=by
 have ha:l.any p=false:=by
  rw[List.any_eq_false];intro a ha;obtain⟨j,hj,rfl⟩:=DF ha;simp[hI j _ hj (br hj)]
 unfold B6;rw[ha];rfl
def am2(p:α->Bool)(l:List α):decide (0<=B6 p l)=l.any p:=by
 unfold B6;cases l.any p<;>simp
end
instance:Coe Int U:=⟨λn=>.v (.int .i64 n)⟩
instance:Coe Nat U:=⟨λn=>.v (.int .i64 (n:Int))⟩
instance:Coe Bool U:=⟨λb=>.v (.bool b)⟩
end Go.aH

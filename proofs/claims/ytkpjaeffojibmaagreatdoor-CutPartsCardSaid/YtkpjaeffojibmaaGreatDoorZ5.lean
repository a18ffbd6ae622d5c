/- Part 5 of a proof. No condition. -/
import Derived.Test.YtkpjaeffojibmaaGreatDoorZ4
import Derived.Sort.Grow
import Derived.Deep.Draws
import Derived.Shelf.Vars
import Derived.Lib.SplitLaws
import Derived.Lib.IndexBytes
import Derived.Lib.ItoaNum
set_option linter.unusedVariables false
set_option linter.unusedSimpArgs false
set_option linter.defProp false
open Bool renaming and_eq_true->fQ,eq_iff_iff->Hw,false->bf,false_and->CO,false_eq_true->ke,not_false->va,not_true->zH,rec->EY,true->bh
open ByteArray renaming ext->abe
open Go.bM.bg renaming agg->dG,cells->jK,one->cr,v->cI
open Go.bM.br renaming cells->bw,bW->nX
open Go.bM.cq renaming mono->ck,pure->hU,aGp->EZ
open Go.bM.iE renaming mono->gT
open Go.bM.jM renaming mono->vb
open Go.bM.wT renaming mono->abg
open Go.bM.gh renaming refl->sX
open Go.bM.sj renaming Is->TK
open Go.DataW renaming trod->TM
open Go.IntKind renaming bits->Ks,i64->de,max->apI,min->apJ,signed->Kt,u64->HA
open Go.Value renaming cells->zO,okWide->HD
open Go.World renaming cell?->HE
open Int renaming eq_ofNat_of_zero_le->o8,ofNat_eq_natCast->Br,toNat_natCast->yf
open List renaming all_cons->pY,all_eq_true->eP,any_eq_true->Kv,append_nil->gd,cons_append->lY,count_cons->apY,drop_succ_cons->Bu,drop_take->Kw,drop_zero->o9,eq_nil_of_length_eq_zero->nZ,ext_getElem?->E5,getElem?_append_right->fY,getElem?_cons_succ->yj,getElem?_cons_zero->nA,getElem?_eq_getElem->cz,getElem?_eq_none->jU,getElem?_eq_some_iff->cL,getElem?_map->fR,getElem?_range->aHy,getElem?_reverse->abK,getElem?_set_ne->bD,getElem?_set_self->bU,getElem_of_mem->HH,length->Ky,length_append->ec,length_cons->eW,length_map->cM,length_pos_iff->HI,length_set->wG,length_singleton->pZ,map_append->gf,map_cons->fG,map_set->ym,mem_cons->fS,mem_cons_of_mem->s3,mem_cons_self->yo,mem_map->eg,mem_of_getElem?->cG,mem_of_mem_drop->tY,nil_append->gN,range->kY,rec->zP,replicate->fo,reverse_reverse->ap7,take_length->n3,take_of_length_le->mA,take_succ_cons->yp,take_zero->oG
open Nat renaming add_zero->vc,beq->eR,beq_eq->wI,ble->wJ,blt->rZ,eq_of_beq_eq_true->s4,le_of_ble_eq_true->qB,le_refl->cj,lor->OQ,lt_of_succ_le->aqe,lt_or_ge->en,lt_succ_self->CW,rec->KA,sub_self->mU,zero_add->gk
open Option renaming bind_assoc->Bw,bind_eq_some_iff->gO,bind_some->lz,isSome_none->Bx,map->E9,map_eq_some_iff->dx,map_some->j4,none->bn,some->a_
open Option.some renaming injEq->n6
open Or renaming inl->bE,inr->bF
open Prod.mk renaming injEq->wP
open UInt8 renaming ofNat->vf,toNat->abV
namespace Go.bM
open Go.RowKit
section
variable{α:Type}{f:br->(br->Option bg)->Option bg}{a:eN}{b id n off:Nat}{o:r9}{k:bg->Option bg}{e:dy}{i p x:bg}{H:List br}{g:br->Option br}{y:br}{bN:Bool}{Z:List bg}{op:BinOp}{L:List Nat}
section
variable{β:Type}
noncomputable def lI(n:Nat)(k:Nat->β):β:=@KA (λ_=>β) (k Nat.zero) (λm _=>k (Nat.succ m)) n
def vE(n:Nat)(k:Nat->β):lI n k=k n:=by cases n<;>rfl
noncomputable def Qw(i:Int)(k:Int->β):β:=@Int.rec (λ_=>β) (λn=>lI n λn=>k (.ofNat n)) (λn=>lI n λn=>k (.negSucc n)) i
def afW(i:Int)(k:Int->β):Qw i k=k i:=by
 cases i with
 |ofNat n=>exact vE n λn=>k (.ofNat n)
 |negSucc n=>exact vE n λn=>k (.negSucc n)
noncomputable def DC(b:Bool)(k:Bool->β):β:=@EY (λ_=>β) (k bf) (k bh) b
def afV(b)(k:Bool->β):DC b k=k b:=by cases b<;>rfl
noncomputable def xp{α:Type}(f:α->(α->β)->β)(l:List α):(List α->β)->β:=@zP α (λ_=>(List α->β)->β) (λk=>k []) (λx _ ih k=>f x λx=>ih λr=>k (x::r)) l
def FO{f}(hf:∀x k,f x k=k x):∀(l) (k:List α->β),xp f l k=k l
 |[],k=>rfl
 |x::r,k=>(hf x _).trans (FO hf r _)
noncomputable def V0(s:ByteArray)(k:ByteArray->β):β:=match s with
 |⟨⟨l⟩⟩=>xp (λx k=>k x) l λl=>k ⟨⟨l⟩⟩
def aub(s)(k:ByteArray->β):V0 s k=k s:=by
 cases s with
 |mk a=>cases a with
  |mk l=>simp only[V0];rw[FO λ_ _=>rfl]
noncomputable def Qx(v:Value)(k:Value->β):β:=match v with
 |.int kd i=>Qw i λi=>k (.int kd i)
 |.bool b=>DC b λb=>k (.bool b)
 |.string s=>V0 s λs=>k (.string s)
 |v=>k v
def afX(v)(k:Value->β):Qx v k=k v:=by
 cases v<;>simp only[Qx,afW,afV,aub]
noncomputable def V1(t:ob)(k:ob->β):β:=match t with
 |.exact=>k .exact
 |.no=>k .no
 |.tok id=>lI id λid=>k (.tok id)
def auc(t)(k:ob->β):V1 t k=k t:=by cases t<;>simp only[V1,vE]
noncomputable def ru:Nat->bg->(bg->β)->β
 |0,v,k=>k v
 |n+1,v,k=>match v with
  |.v x=>Qx x λx=>k (.v x)
  |.agg Z=>xp (ru n) Z λZ=>k (.agg Z)
  |.bQ Z=>xp (ru n) Z λZ=>k (.bQ Z)
  |.bp=>k .bp
  |.sl xs t=>xp (ru n) xs λxs=>V1 t λt=>k (.sl xs t)
  |.fp Z off=>xp (ru n) Z λZ=>lI off λoff=>k (.fp Z off)
  |.mp b off=>lI b λb=>lI off λoff=>k (.mp b off)
  |.rp b m off=>lI b λb=>lI m λm=>lI off λoff=>k (.rp b m off)
  |.rs b m sz off len=>lI b λb=>lI m λm=>lI off λoff=>lI len λlen=>k (.rs b m sz off len)
  |.gA b=>lI b λb=>k (.gA b)
  |.fn f a b=>xp (ru n) a λa=>xp (ru n) b λb=>k (.fn f a b)
  |.eD t x=>ru n x λx=>k (.eD t x)
  |.gb b=>lI b λb=>k (.gb b)
  |.jj b=>lI b λb=>k (.jj b)
  |.iH b t=>lI b λb=>k (.iH b t)
  |.gM ch=>k (.gM ch)
def Av:∀(n:Nat) (v:bg) (k:bg->β),ru n v k=k v
 |0,v,k=>rfl
 |n+1,v,k=>by
  cases v<;>simp only[ru,afX,auc,vE,FO (Av n),Av n]
noncomputable def Lw(t:Nat)(e:dy)(k:bg->β)(d:β):β:=@zP (Nat×bg) (λ_=>β) d (λp _ ih=>@EY (λ_=>β) ih (k p.2) (eR p.1 t)) e
def VB(t:Nat)(k)(d:β):∀(e:dy),Lw t e k d=match gQ e t with|some v=>k v|none=>d
 |[]=>rfl
 |(j,v)::r=>by
  simp only[gQ];by_cases h:j=t;subst h;rw[if_pos rfl];show@EY (λ_=>β) _ (k v) (eR j j)=_;rw[show eR j j=bh from Nat.beq_refl j];have O:eR j t=bf:=by cases O:eR j t with
   |false=>rfl
   |true=>exact(h (s4 O)).elim
  rw[if_neg h,<-(VB t k d r)];show@EY (λ_=>β) (Lw t r k d) (k v) (eR j t)=_;rw[O]
noncomputable def uR(L:List Nat):dy->(dy->β)->β:=@zP Nat (λ_=>dy->(dy->β)->β) (λe k=>k []) (λj _ ih e k=>Lw j e (λv=>ih e λr=>k ((j,v)::r)) (ih e k)) L
def xP:∀(L) (e:dy) (k:dy->β),uR L e k=k (mK L e)
 |[],e,k=>rfl
 |j::L,e,k=>by
  show Lw j e (λv=>uR L e λr=>k ((j,v)::r)) (uR L e k)=_;rw[VB];simp only[mK];cases gQ e j with
  |none=>simp only[Dw,xP L e]
  |some v=>simp only[Dw,xP L e]
end
def Lz:Value->Value->Bool
 |.int k a,.int k' b=>decide (k=k')&&decide (a=b)
 |.bool a,.bool b=>a==b
 |.string a,.string b=>decide (a.data.toList=b.data.toList)
 |.pointer bn,.pointer bn=>bh
 |.nilFunc,.nilFunc=>bh
 |.nilIface,.nilIface=>bh
 |.map bn,.map bn=>bh
 |_,_=>bf
def afa:∀{a b},Lz a b=bh->a=b:=by
 intro a b h;unfold Lz at h;split at h;simp only[fQ,decide_eq_true_eq] at h;rw[h.1,h.2];rw[eq_of_beq h];simp only[decide_eq_true_eq] at h;rename_i a b;cases a with
 |mk a=>cases a with
  |mk a=>cases b with
   |mk b=>cases b with
    |mk b=>dsimp only at h;rw[h]
 all_goals first|rfl|cases h
def xl{α:Type}(f:α->α->Bool):List α->List α->Bool
 |[],[]=>bh
 |a::r,b::s=>f a b&&xl f r s
 |_,_=>bf
def Qb{f}(hf:∀{a b},f a b=bh->a=b):∀{l m:List α},xl f l m=bh->l=m
 |[],[],_=>rfl
 |a::r,b::s,h=>by
  simp only[xl,fQ] at h;rw[hf h.1,Qb hf h.2]
 |[],_::_,h=>aE
 |_::_,[],h=>aE
def VN:ob->ob->Bool
 |.exact,.exact=>bh
 |.no,.no=>bh
 |.tok a,.tok b=>a==b
 |_,_=>bf
def atC{a b}(h:VN a b=bh):a=b:=by
 cases a<;>cases b<;>first|rfl|(cases h;done)|(simp only[VN,beq_iff_eq] at h;rw[h])
def VF:Fn->Fn->Bool
 |.func a,.func b=>a==b
 |_,_=>bf
def atx{a b:Fn}(h:VF a b=bh):a=b:=by
 unfold VF at h;split at h;rw[eq_of_beq h];cases h
def qd:Nat->bg->bg->Bool
 |0,_,_=>bf
 |n+1,a,b=>match a,b with
  |.v x,.v y=>Lz x y
  |.agg x,.agg y=>xl (qd n) x y
  |.bQ x,.bQ y=>xl (qd n) x y
  |.bp,.bp=>bh
  |.sl x t,.sl y u=>xl (qd n) x y&&VN t u
  |.fp x i,.fp y j=>xl (qd n) x y&&i==j
  |.mp k i,.mp l j=>k==l&&i==j
  |.rp k m i,.rp l m' j=>k==l&&m==m'&&i==j
  |.rs k m s i n,.rs l m' s' j n'=>k==l&&m==m'&&s==s'&&i==j&&n==n'
  |.gA k,.gA l=>k==l
  |.fn f x y,.fn g u v=>VF f g&&xl (qd n) x u&&xl (qd n) y v
  |.eD t x,.eD u y=>t==u&&qd n x y
  |.gb k,.gb l=>k==l
  |.jj k,.jj l=>k==l
  |.iH k t,.iH l u=>k==l&&t.1==u.1&&t.2==u.2
  |_,_=>bf
def Ao:∀{n:Nat} {a b:bg},qd n a b=bh->a=b
 |0,a,b,h=>aE
 |n+1,a,b,h=>by
  have ih:∀{l m},xl (qd n) l m=bh->l=m:=λq=>Qb (λr=>Ao r) q;unfold qd at h;split at h
  all_goals try simp only[fQ,beq_iff_eq] at h
  rw[afa h];rw[ih h];rw[ih h];rfl;rw[ih h.1,atC h.2];rw[ih h.1,h.2];rw[h.1,h.2];rw[h.1.1,h.1.2,h.2];rw[h.1.1.1.1,h.1.1.1.2,h.1.1.2,h.1.2,h.2];rw[h];rw[atx h.1.1,ih h.1.2,ih h.2];rw[h.1,Ao h.2];rw[h];rw[h];rename_i k t l u;obtain⟨t1,t2⟩:=t;obtain⟨u1,u2⟩:=u;dsimp only at h;rw[h.1.1,h.1.2,h.2];cases h
noncomputable def Bg(o:Option bg)(k:bg->Option bg):Option bg:=match o with
 |some v=>ru 64 v k
 |none=>bn
def EH{o}:Bg o k=o.bind k:=by cases o<;>simp[Bg,Av]
noncomputable def S5(o:Option Value)(k:bg->Option bg):Option bg:=match o with
 |some v=>Qx v λv=>k (.v v)
 |none=>bn
def an_{o}:S5 o k=o.bind λv=>k (.v v):=by cases o<;>simp[S5,afX]
noncomputable def Iv(t:Nat)(e:dy)(k:bg->Option bg):Option bg:=Lw t e k bn
def Qa{t:Nat}:Iv t e k=(gQ e t).bind k:=by
 unfold Iv;rw[VB];cases gQ e t<;>rfl
noncomputable def oo(x:dH)(e:dy)(k:bg->Option bg):Option bg:=@dH.rec (λ_=>Option bg) (λt=>Iv t e k) (λv=>k v) x
def sw{x:dH}:oo x e k=(ey e x).bind k:=by
 cases x with
 |t t=>exact Qa
 |c v=>rfl
noncomputable def GQ{α:Type}(l:List α):Nat->(α->Option bg)->Option bg:=@zP α (λ_=>Nat->(α->Option bg)->Option bg) (λ_ _=>bn) (λx _ ih n k=>@KA (λ_=>Option bg) (k x) (λm _=>ih m k) n) l
def JA:∀{l:List α} {n:Nat} {k},GQ l n k=(l[n]?).bind k
 |[],n,k=>by simp[GQ]
 |x::r,0,k=>rfl
 |x::r,n+1,k=>by
  rw[yj];exact JA (n:=n)
structure iF where
 n:Nat
 l:List br
def R(H:List br):iF:=⟨H.length,H.reverse⟩
def EN(h:iF):List br:=h.l.reverse
def Hq(H):EN (R H)=H:=ap7 H
noncomputable def zk(h:iF)(b:Nat)(k:br->Option bg):Option bg:=match rZ b h.n with
 |true=>GQ h.l (h.n-1-b) k
 |false=>bn
def adP{a:Nat}(h:a<b):rZ a b=bh:=Nat.ble_eq_true_of_le h
def adO{a:Nat}(h:¬a<b):rZ a b=bf:=by
 cases O:rZ a b with
 |false=>rfl
 |true=>exact(h (qB O)).elim
def Cj{k}:zk (R H) b k=(H[b]?).bind k:=by
 unfold zk R;dsimp only;by_cases h:b<H.length;rw[adP h];dsimp only;rw[JA,abK aa,show H.length-1-(H.length-1-b)=b by omega];rw[adO h,jU aa];rfl
noncomputable def aaY(l:List br):Nat->(br->(br->Option bg)->Option bg)->(List br->Option bg)->Option bg:=@zP br (λ_=>Nat->(br->(br->Option bg)->Option bg)->(List br->Option bg)->Option bg) (λ_ _ _=>bn)
 (λb r ih n f k=>@KA (λ_=>Option bg) (f b λb=>k (b::r)) (λm _=>ih m f λr=>k (b::r)) n) l
def ao7(hf:∀b k,f b k=(g b).bind k):∀{h} {n:Nat} {k},aaY h n f k=(h[n]?).bind λb=>(g b).bind λb'=>k (h.set n b')
 |[],n,k=>by simp[aaY]
 |b::r,0,k=>hf b _
 |b::r,n+1,k=>by
  rw[yj];exact ao7 hf (n:=n)
def aE0(h:b<H.length):H.reverse.set (H.length-1-b) y=(H.set b y).reverse:=by
 apply E5;intro i
 rcases en i H.length with q|q
 rw[abK ak,wG];by_cases e:H.length-1-b=i;rw[<-e,bU ah,show H.length-1-(H.length-1-b)=b by omega,bU h];rw[bD e,abK q,bD aa];rw[jU ak,jU ak]
noncomputable def zD(h:iF)(b:Nat)(f:br->(br->Option bg)->Option bg)(k:iF->Option bg):Option bg:=match rZ b h.n with
 |true=>aaY h.l (h.n-1-b) f λl=>k ⟨h.n,l⟩
 |false=>bn
def aaX(hf:∀b k,f b k=(g b).bind k){k}:zD (R H) b f k=(H[b]?).bind λx=>(g x).bind λy=>k (R (H.set b y)):=by
 unfold zD R;dsimp only;by_cases h:b<H.length;rw[adP h];dsimp only;rw[ao7 hf,abK aa,show H.length-1-(H.length-1-b)=b by omega];simp only[aE0 h,wG];rw[adO h,jU aa];rfl
def Kh{k}:zD (R H) b (λ_ k=>k y) k=(H[b]?).bind λ_=>k (R (H.set b y)):=
 (aaX (g:=λ_=>a_ y) λ_ _=>rfl).trans rfl
noncomputable def EA(h:iF)(b:br)(k:iF->Option bg):Option bg:=lI (h.n+1) λn=>k ⟨n,b::h.l⟩
def SA{b:br}{k}:EA (R H) b k=k (R (H++[b])):=by
 simp only[EA,vE,R,ec,pZ,List.reverse_append,List.reverse_singleton,List.singleton_append]
noncomputable def Qz(H:List br)(k:iF->Option bg):Option bg:=xp (λx k=>k x) H.reverse λl=>lI H.length λn=>k ⟨n,l⟩
def af0{k}:Qz H k=k (R H):=by
 simp only[Qz,vE];rw[FO λ_ _=>rfl];rfl
noncomputable def JK(bN:Bool):Nat->List bg->Nat->(bg->Option bg)->Option bg:=match bN with
 |false=>λ_ Z off k=>GQ Z off k
 |true=>λn Z off k=>match e_ bh n Z off with
  |some (.agg l)=>xp (λx k=>k x) l λl=>k (.agg l)
  |some v=>k v
  |none=>bn
def Zz:JK bN n Z off k=(e_ bN n Z off).bind k:=by
 cases bN with
 |false=>simp only[JK,JA,e_,ke,if_false]
 |true=>
  simp only[JK];cases h:e_ bh n Z off with
  |none=>rfl
  |some v=>cases v<;>simp only[lz]<;>rw[FO λ_ _=>rfl]
noncomputable def GI:bg->Bool->Nat->iF->(bg->Option bg)->Option bg
 |.mp b off=>λbN n h k=>zk h b λblk=>match blk with
  |.cells Z r=>match r with
   |false=>JK bN n Z off k
   |true=>bn
  |_=>bn
 |.fp Z off=>λbN n _ k=>JK bN n Z off k
 |.rp b m off=>λbN n h k=>zk h b λblk=>match blk with
  |.cells Z r=>match r with
   |true=>match eR m Z.length with
    |true=>JK bN n Z off k
    |false=>bn
   |false=>bn
  |_=>bn
 |p=>λbN n h k=>Bg (bz (EN h) bN n p) k
def alm:GI p bN n (R H) k=(bz H bN n p).bind k:=by
 cases p with
 |mp b off=>
  simp only[GI,Cj,bz];cases H[b]? with
  |none=>rfl
  |some blk=>cases blk with
   |cells Z r=>cases r<;>simp[Zz]
   |_=>rfl
 |rp b m off=>
  simp only[GI,Cj,bz];cases H[b]? with
  |none=>rfl
  |some blk=>cases blk with
   |cells Z r=>cases r with
    |false=>rfl
    |true=>
     simp only[lz];by_cases hl:m=Z.length;rw[if_pos hl,show eR m Z.length=bh by rw[wI];exact hl];exact Zz;rw[if_neg hl,show eR m Z.length=bf from(by cases O:eR m Z.length with
     |false=>rfl
     |true=>exact(hl (s4 O)).elim)];rfl
   |_=>rfl
 |fp Z off=>simp only[GI,Zz,bz]
 |_=>(simp only[GI,EH,Hq])
noncomputable def Lf:bg->(List bg->Option bg)->Option bg
 |.agg Z=>λk=>k Z
 |x=>λk=>k [x]
def PJ{k}:Lf x k=k x.cells:=by cases x<;>rfl
noncomputable def Ey(Z:List bg):List bg->(List bg->Option bg)->Option bg:=@zP bg (λ_=>List bg->(List bg->Option bg)->Option bg)
 (λvs k=>@zP bg (λ_=>Option bg) (k []) (λ_ _ _=>bn) vs) (λc r ih vs k=>@zP bg (λ_=>Option bg) (k (c::r)) (λv vs _=>ih vs λr=>k (v::r)) vs) Z
def Zq:∀{Z vs} {k},Ey Z vs k=if vs.length<=Z.length then k (vs++Z.drop vs.length) else bn
 |[],[],k=>by simp[Ey]
 |c::r,[],k=>by simp[Ey]
 |[],v::vs,k=>by simp[Ey]
 |c::r,v::vs,k=>by
  have:=Zq (Z:=r) (vs:=vs) (k:=λr=>k (v::r));simp only[eW,Bu,lY,Nat.add_le_add_iff_right];exact this
noncomputable def NT(Z:List bg):Nat->List bg->(List bg->Option bg)->Option bg:=@zP bg (λ_=>Nat->List bg->(List bg->Option bg)->Option bg)
 (λoff vs k=>@KA (λ_=>Option bg) (Ey [] vs k) (λ_ _=>bn) off) (λc r ih off vs k=>@KA (λ_=>Option bg) (Ey (c::r) vs k) (λm _=>ih m vs λr=>k (c::r)) off) Z
def ZK:∀{Z} {off:Nat} {vs} {k},NT Z off vs k=if off+vs.length<=Z.length then k (dV Z off vs) else bn
 |[],0,vs,k=>by
  show Ey [] vs k=_;simp[Zq,dV]
 |[],off+1,vs,k=>by simp[NT]
 |c::r,0,vs,k=>by
  show Ey (c::r) vs k=_;simp only[Zq,dV,oG,gN,gk]
 |c::r,off+1,vs,k=>by
  have:=ZK (Z:=r) (off:=off) (vs:=vs) (k:=λr=>k (c::r));show NT r off vs (λr=>k (c::r))=_;rw[this];simp only[dV,eW,yp,lY];have e1:off+1+vs.length=(off+vs.length)+1:=aa
  rw[e1,Bu];by_cases h:off+vs.length<=r.length;rw[if_pos h,if_pos aa];rw[if_neg h,if_neg aa]
noncomputable def Ob:bg->Nat->bg->iF->(iF->Option bg)->Option bg
 |.mp b off=>λn x h k=>Lf x λvs=>match eR vs.length n&&vs.all cr with
  |true=>zD h b (λblk k=>match blk with
   |.cells Z r=>match r with
    |false=>NT Z off vs λZ=>k (.cells Z bf)
    |true=>bn
   |_=>bn) k
  |false=>bn
 |.rp b m off=>λn x h k=>Lf x λvs=>match eR vs.length n&&vs.all cr with
  |true=>zD h b (λblk k=>match blk with
   |.cells Z r=>match r with
    |true=>match eR m Z.length with
     |true=>NT Z off vs λZ=>k (.cells Z bh)
     |false=>bn
    |false=>bn
   |_=>bn) k
  |false=>bn
 |p=>λn x h k=>match bL (EN h) n p x with
  |some H=>Qz H k
  |none=>bn
def aoz{row}{k:iF->Option bg}:(match eR x.cells.length n&&x.cells.all cr with
  |true=>((if off+x.cells.length<=Z.length then a_ (bw (dV Z off x.cells) row) else bn).bind λy=>k (R (H.set b y)))
  |false=>bn)=(fq H b row Z n off x).bind λH=>k (R H):=by
 unfold fq;by_cases T:x.cells.length=n/\off+n<=Z.length/\x.cells.all cr=bh;rw[if_pos T];obtain⟨c1,c2,c3⟩:=T;have ar9:eR x.cells.length n=bh:=by rw[wI];exact c1
 rw[ar9,c3,if_pos (show off+x.cells.length<=Z.length by omega)];rfl;rw[if_neg T];cases hq:(eR x.cells.length n&&x.cells.all cr) with
 |false=>rfl
 |true=>
  simp only[fQ,wI] at hq;rw[if_neg (λq=>T ⟨hq.1,aa,hq.2⟩)];rfl
def aFO{k}:Ob p n x (R H) k=(bL H n p x).bind λH=>k (R H):=by
 cases p with
 |mp b off=>
  simp only[Ob,PJ];rw[aaX (g:=λblk=>match blk with
   |.cells Z bf=>if off+x.cells.length<=Z.length then a_ (.cells (dV Z off x.cells) bf) else bn
   |_=>bn) (λblk k=>by
    cases blk with
    |cells Z r=>cases r with
     |false=>simp only[ZK];split<;>rfl
     |true=>rfl
    |_=>rfl)]
  simp only[bL];cases O:H[b]? with
  |none=>cases(eR x.cells.length n&&x.cells.all cr)<;>rfl
  |some blk=>cases blk with
   |cells Z r=>cases r with
    |false=>exact aoz
    |true=>cases(eR x.cells.length n&&x.cells.all cr)<;>rfl
   |_=>cases(eR x.cells.length n&&x.cells.all cr)<;>rfl
 |rp b m off=>
  simp only[Ob,PJ];rw[aaX (g:=λblk=>match blk with
   |.cells Z bh=>if m=Z.length then(if off+x.cells.length<=Z.length then a_ (.cells (dV Z off x.cells) bh) else bn) else bn
   |_=>bn) (λblk k=>by
    cases blk with
    |cells Z r=>cases r with
     |true=>
      by_cases hl:m=Z.length;simp only[if_pos hl,show eR m Z.length=bh by rw[wI];exact hl,ZK];split<;>rfl;simp only[if_neg hl,show eR m Z.length=bf from(by cases O:eR m Z.length with
      |false=>rfl
      |true=>exact(hl (s4 O)).elim)];rfl
     |false=>rfl
    |_=>rfl)]
  simp only[bL];cases O:H[b]? with
  |none=>cases(eR x.cells.length n&&x.cells.all cr)<;>rfl
  |some blk=>cases blk with
   |cells Z r=>cases r with
    |true=>
     by_cases hl:m=Z.length;simp only[if_pos hl,lz];exact aoz;simp only[if_neg hl,lz];cases(eR x.cells.length n&&x.cells.all cr)<;>rfl
    |false=>cases(eR x.cells.length n&&x.cells.all cr)<;>rfl
   |_=>cases(eR x.cells.length n&&x.cells.all cr)<;>rfl
 |_=>
  simp only[Ob,Hq];cases bL H n _ x with
  |none=>rfl
  |some H'=>exact af0
def ac6(a b:Int):Int:=match a with
 |.ofNat m=>match b with
  |.ofNat n=>.ofNat (m+n)
  |.negSucc n=>.ofNat m+ .negSucc n
 |.negSucc m=>.negSucc m+b
def aq3(a b:Int):ac6 a b=a+b:=by cases a<;>cases b<;>rfl
def aaB(a b:Int):Int:=match a with
 |.ofNat m=>match b with
  |.ofNat n=>match wJ n m with
   |true=>.ofNat (m-n)
   |false=>.ofNat m- .ofNat n
  |.negSucc n=>.ofNat m- .negSucc n
 |.negSucc m=>.negSucc m-b
def aFT(a b:Int):aaB a b=a-b:=by
 cases a with
 |negSucc m=>rfl
 |ofNat m=>cases b with
  |negSucc n=>rfl
  |ofNat n=>
   simp only[aaB];cases h:wJ n m with
   |false=>rfl
   |true=>
    have:=qB h;simp only[Br];omega
def Jq(a b:Int):Bool:=match a with
 |.ofNat m=>match b with
  |.ofNat n=>wJ (m+1) n
  |.negSucc _=>bf
 |.negSucc m=>match b with
  |.ofNat _=>bh
  |.negSucc n=>wJ (n+1) m
def aBM(a b:Int):Jq a b=decide (a<b):=by
 cases a<;>cases b<;>simp only[Jq];rename_i m n;rw[Hw,Nat.ble_eq,decide_eq_true_eq];simp only[Br];omega;rename_i m n;symm;rw[decide_eq_false_iff_not];simp only[Br];omega;rename_i m n;symm;rw[decide_eq_true_eq];simp only[Br];omega;rename_i m n;rw[Hw,Nat.ble_eq,decide_eq_true_eq];omega
def Qd(a b:Int):Bool:=match a with
 |.ofNat m=>match b with
  |.ofNat n=>eR m n
  |.negSucc _=>bf
 |.negSucc m=>match b with
  |.ofNat _=>bf
  |.negSucc n=>eR m n
def atD(a b:Int):Qd a b=(a==b):=by
 cases a<;>cases b<;>simp only[Qd];rename_i m n;rw[Hw,wI,beq_iff_eq];simp only[Br];omega;symm;simp;symm;simp;rename_i m n;rw[Hw,wI,beq_iff_eq];simp
def Hs(kd:IntKind):Int->Int:=match kd with
 |.i64=>λn=>match n with
  |.ofNat m=>match wJ m 9223372036854775807 with
   |true=>.ofNat m
   |false=>de.wrap (.ofNat m)
  |.negSucc m=>match wJ m 9223372036854775807 with
   |true=>.negSucc m
   |false=>de.wrap (.negSucc m)
 |.u64=>λn=>match n with
  |.ofNat m=>.ofNat (m % 18446744073709551616)
  |.negSucc m=>HA.wrap (.negSucc m)
 |.u8=>λn=>match n with
  |.ofNat m=>.ofNat (m % 256)
  |.negSucc m=>IntKind.u8.wrap (.negSucc m)
 |kd=>λn=>kd.wrap n
def aG6(kd)(n:Int):Hs kd n=kd.wrap n:=by
 cases kd
 case i64=>
  cases n with
  |ofNat m=>
   simp only[Hs];split;rename_i h;have:=qB h;rw[fO (by simp only[Br];omega) (by simp only[Br];omega)];rfl
  |negSucc m=>
   simp only[Hs];split;rename_i h;have:=qB h;rw[fO aa aa];rfl
 case u8=>
  cases n with
  |ofNat m=>simp only[Hs];rw[apl];simp only[Br];omega
  |negSucc m=>rfl
 case u64=>
  cases n with
  |ofNat m=>simp only[Hs];rw[ES];simp only[Br];omega
  |negSucc m=>rfl
 all_goals rfl
def Gx:IntKind->Nat
 |.i8=>0|.i16=>1|.i32=>2|.i64=>3|.u8=>4|.u16=>5|.u32=>6|.u64=>7
def aAw{a b}:(eR (Gx a) (Gx b)=bh)↔a=b:=by cases a<;>cases b<;>simp[Gx]
noncomputable def U4:BinOp->IntKind->Int->Int->(bg->Option bg)->Option bg
 |.add=>λkd a b k=>Qw (Hs kd (ac6 a b)) λr=>k (.v (.int kd r))
 |.sub=>λkd a b k=>Qw (Hs kd (aaB a b)) λr=>k (.v (.int kd r))
 |.eql=>λkd a b k=>DC (Qd a b) λr=>k (.v (.bool r))
 |.neq=>λkd a b k=>DC (!Qd a b) λr=>k (.v (.bool r))
 |.lss=>λkd a b k=>DC (Jq a b) λr=>k (.v (.bool r))
 |.geq=>λkd a b k=>DC (!Jq a b) λr=>k (.v (.bool r))
 |.gtr=>λkd a b k=>DC (Jq b a) λr=>k (.v (.bool r))
 |.leq=>λkd a b k=>DC (!Jq b a) λr=>k (.v (.bool r))
 |op=>λkd a b k=>S5 (mh op kd a kd b) k
def arX{kd}{a b:Int}:U4 op kd a b k=(mh op kd a kd b).bind λv=>k (.v v):=by
 have Y:(!decide (a<b))=decide (a>=b):=by rw[Hw];simp
 have V:(!decide (b<a))=decide (a<=b):=by rw[Hw];simp
 cases op<;>simp only[U4,afW,afV,aG6,aq3,aFT,atD,aBM,an_]
 all_goals first
  |(simp[mh];done)
  |(simp only[mh,ne_eq,not_true_eq_false,if_false,lz,Y,V];done)
  |(simp only[mh,ne_eq,not_true_eq_false,if_false,lz,Y,V];rfl)
noncomputable def U5:BinOp->bg->bg->(bg->Option bg)->Option bg:=λop x=>match x with
 |.v (.int kd a)=>λy=>match y with
  |.v (.int M3 b)=>λk=>match eR (Gx kd) (Gx M3) with
   |true=>U4 op kd a b k
   |false=>S5 (mh op kd a M3 b) k
  |y=>λk=>Bg (dL op (.v (.int kd a)) y) k
 |x=>λy k=>Bg (dL op x y) k
def arZ{y:bg}:U5 op x y k=(dL op x y).bind k:=by
 unfold U5;split;rename_i kd a;split;rename_i M3 b;cases hq:eR (Gx kd) (Gx M3) with
 |true=>
  have:=aAw.1 hq;subst this;simp only[arX,dL];cases mh op kd a kd b<;>rfl
 |false=>
  simp only[dL,an_];cases mh op kd a M3 b<;>rfl
 exact EH;exact EH
noncomputable def Ql(off:Nat):bg->(bg->Option bg)->Option bg
 |.mp b o=>λk=>lI (o+off) λo=>k (.mp b o)
 |.fp Z o=>λk=>lI (o+off) λo=>k (.fp Z o)
 |x=>λk=>Bg (lC off x) k
def atP:Ql off x k=(lC off x).bind k:=by
 cases x<;>first|(simp only[Ql,EH];done)|(simp[Ql,vE,lC];done)
noncomputable def MY(n:Nat):bg->bg->(bg->Option bg)->Option bg
 |.sl xs t=>λi k=>match i with
  |.v (.int kd (.ofNat j))=>GQ xs j λx=>Lf x λZ=>match eR Z.length n with
   |true=>k (.fp Z 0)
   |false=>bn
  |i=>Bg (ct n (.sl xs t) i) k
 |x=>λi k=>Bg (ct n x i) k
def axQ:MY n x i k=(ct n x i).bind k:=by
 cases x with
 |sl xs t=>
  simp only[MY];split;rename_i kd j;simp only[JA,PJ,ct];rw[if_pos (show(0:Int)<=Int.ofNat j from Int.natCast_nonneg j)];simp only[Br,yf];cases xs[j]? with
  |none=>rfl
  |some x=>
   simp only[lz];by_cases hl:x.cells.length=n;rw[if_pos hl,show eR x.cells.length n=bh by rw[wI];exact hl];rfl;rw[if_neg hl,show eR x.cells.length n=bf from(by cases O:eR x.cells.length n with
   |false=>rfl
   |true=>exact(hl (s4 O)).elim)];rfl
  (simp only[MY,EH])
 |_=>(simp only[MY,EH])
def ar8(l)(j:Nat):(⟨⟨l⟩⟩:ByteArray)[j]?=l[j]? :=by
 have Y:∀(b:ByteArray),b[j]?=if h:j<b.size then a_ (b[j]'h) else bn:=λb=>rfl;rw[Y];by_cases h:j<l.length;rw[dif_pos (show j<(⟨⟨l⟩⟩:ByteArray).size from h),cz h];rfl;rw[dif_neg (show¬j<(⟨⟨l⟩⟩:ByteArray).size from h),jU aa]
noncomputable def Vj:bg->bg->(bg->Option bg)->Option bg
 |.v (.string ⟨⟨l⟩⟩)=>λi k=>match i with
  |.v (.int kd (.ofNat j))=>GQ l j λb=>lI b.toNat λn=>k (.v (.int .u8 (.ofNat n)))
  |i=>Bg (w7 (.v (.string ⟨⟨l⟩⟩)) i) k
 |x=>λi k=>Bg (w7 x i) k
def asq:Vj x i k=(w7 x i).bind k:=by
 unfold Vj;split;rename_i l;split;rename_i kd j;simp only[JA,w7];rw[if_pos (show(0:Int)<=Int.ofNat j from Int.natCast_nonneg j)];simp only[Br,yf,ar8];cases l[j]? <;>simp[vE];exact EH;exact EH
noncomputable def VS(i:Nat):bg->(bg->Option bg)->Option bg
 |.bQ Z=>GQ Z i
 |_=>λ_=>bn
def atK{i:Nat}:VS i x k=(oc i x).bind k:=by
 cases x<;>simp[VS,oc,JA]
inductive acq where
 |val (v:bg)
 |gM (ch:List PanicEntry)
structure acf where
 ps:List Nat
 a:eN
 b:eN
 e:dy
abbrev r4:=List (Nat×acf)
abbrev BB:=acq->iF->Option bg
abbrev t_:=r4->bg->List bg->iF->BB->Option bg
def Vy:r9->Bool
 |.alloc _|.box _|.st .. |.xd .. |.app .. |.BF .. |.A6 .. |.Ch .. |.iter _|.next _|.Cg|.xN .. |.A4 .. |.Dx .. |.z8 .. |.Ad .. =>bh
 |_=>bf
noncomputable def aan(o:r9)(e:dy)(h:iF)(k:bg->iF->Option bg):Option bg:=match Vy o with
 |false=>match cy e (EN h) o with
  |some (v,_)=>ru 64 v λv=>k v h
  |none=>bn
 |true=>match cy e (EN h) o with
  |some (v,H)=>Qz H λh=>ru 64 v λv=>k v h
  |none=>bn
noncomputable def sN:r9->dy->iF->(bg->iF->Option bg)->Option bg
 |.mv x=>λe h k=>oo x e λv=>k v h
 |.fA bN n x=>λe h k=>oo x e λp=>GI p bN n h λv=>k v h
 |.st n p x=>λe h k=>oo p e λp=>oo x e λx=>Ob p n x h λh=>k jF h
 |.Jv x=>λe h k=>oo x e λp=>match yK p with
  |some p=>k p h
  |none=>bn
 |.bin op x y=>λe h k=>oo x e λx=>oo y e λy=>U5 op x y λv=>k v h
 |.fa off x=>λe h k=>oo x e λx=>Ql off x λv=>k v h
 |.cE n x i=>λe h k=>oo x e λx=>oo i e λi=>MY n x i λv=>k v h
 |.Dr x i=>λe h k=>oo x e λx=>oo i e λi=>Vj x i λv=>k v h
 |.ext i x=>λe h k=>oo x e λx=>VS i x λv=>k v h
 |.alloc z=>λe h k=>EA h (.cells z bf) λh'=>lI h.n λn=>k (.mp n 0) h'
 |.box x=>λe h k=>oo x e λx=>Lf x λZ=>EA h (.cells Z bf) λh'=>lI h.n λn=>k (.mp n 0) h'
 |o=>aan o
def arx(ho:Vy o=bf){H'}{v:bg}(h:cy e H o=a_ (v,H')):H'=H:=by
 have len:∀{x:bg},cH x H=a_ (v,H')->H'=H:=λ{x} q=>by
  unfold cH at q;split at q;cases q;rw[dx] at q;obtain⟨_,_,q⟩:=q;cases q;rfl
 have j7:∀{x:bg},rK x H=a_ (v,H')->H'=H:=λ{x} q=>by
  unfold rK at q;split at q;cases q;rfl;cases q
 have slc:∀{n:Nat} {x:bg} {a b c},q2 n x a b c H=a_ (v,H')->H'=H:=λ{n x a b c} q=>by
  unfold q2 at q;split at q;cases q;rw[dx] at q;obtain⟨_,_,q⟩:=q;cases q;rfl
 have x4:∀{x:bg} {a b},Hl x a b H=a_ (v,H')->H'=H:=λ{x a b} q=>by
  unfold Hl at q;split at q;rw[dx] at q;obtain⟨_,_,q⟩:=q;cases q;rfl;cases q
 cases o<;>first|(cases ho;done)|skip
 all_goals simp only[cy,gO,dx,wP] at h
 all_goals first
  |(obtain⟨_,_,_,q⟩:=h;exact q.symm)
  |(obtain⟨_,_,_,_,_,q⟩:=h;exact q.symm)
  |(obtain⟨_,_,_,_,_,_,_,q⟩:=h;exact q.symm)
  |(obtain⟨_,_,_,_,_,_,_,_,_,q⟩:=h;exact q.symm)
  |(obtain⟨_,_,q⟩:=h;exact len q)
  |(obtain⟨_,_,q⟩:=h;exact j7 q)
  |(obtain⟨_,_,_,_,_,_,q⟩:=h;exact x4 q)
  |(obtain⟨_,_,_,_,_,_,_,_,q⟩:=h;exact slc q)
def aFn{k}:aan o e (R H) k=(cy e H o).bind λr=>k r.1 (R r.2):=by
 unfold aan;rw[Hq];cases ho:Vy o with
 |false=>
  dsimp only;cases hs:cy e H o with
  |none=>rfl
  |some r=>
   obtain⟨v,H'⟩:=r;have:=arx ho hs;subst this;simp only[Av,lz]
 |true=>
  dsimp only;cases hs:cy e H o with
  |none=>rfl
  |some r=>simp only[af0,Av,lz]
def amo{k}:sN o e (R H) k=(cy e H o).bind λr=>k r.1 (R r.2):=by
 have bm:∀{α:Type} (o:Option α) (f:α->bg×List br),((o.map f).bind λr=>k r.1 (R r.2))=o.bind λa=>k (f a).1 (R (f a).2):=λo f=>by cases o<;>rfl
 have rn:(R H).n=H.length:=rfl;cases o
 case mv=>simp only[sN,sw,cy,bm]
 case fA=>simp only[sN,sw,alm,cy,Bw,bm]
 case st=>simp only[sN,sw,aFO,cy,Bw,bm]
 case bin=>simp only[sN,sw,arZ,cy,Bw,bm]
 case fa=>simp only[sN,sw,atP,cy,Bw,bm]
 case cE=>simp only[sN,sw,axQ,cy,Bw,bm]
 case Dr=>simp only[sN,sw,asq,cy,Bw,bm]
 case ext=>simp only[sN,sw,atK,cy,Bw,bm]
 case alloc=>simp only[sN,SA,vE,cy,lz,rn]
 case box x=>
  simp only[sN,sw,PJ,SA,vE,cy,bm,rn]
 case Jv x=>
  simp only[sN,sw,cy,Bw,bm];cases ey e x with
  |none=>rfl
  |some x=>simp only[lz];cases yK x<;>rfl
 all_goals
  simp only[sN];exact aFn
noncomputable def Sy(dz:t_)(f:FuncId)(dI:List bg):Option bg:=match j8 (di [] 64) dI with
 |some bs=>dz [] (.fn (.func f) [] []) bs (R []) λo h=>match o with
  |.val r=>di (EN h) 64 r
  |.gM _=>bn
 |none=>bn
noncomputable def Ki(k:bg->iF->Option bg):BB
 |.val v=>λh=>k v h
 |.gM _=>λ_=>bn
noncomputable def BQ(l:List dH):dy->(List bg->Option bg)->Option bg:=@zP dH (λ_=>dy->(List bg->Option bg)->Option bg) (λ_ k=>k []) (λx _ ih e k=>oo x e λv=>ih e λvs=>k (v::vs)) l
def DE:∀{l} {e:dy} {k},BQ l e k=(nK e l).bind k
 |[],e,k=>rfl
 |x::r,e,k=>by
  show oo x e (λv=>BQ r e λvs=>k (v::vs))=_;simp only[sw,DE,nK,Bw];cases ey e x with
  |none=>rfl
  |some v=>simp only[lz];cases nK e r<;>rfl
noncomputable def xI:ja->t_->r4->dy->iF->BB->Option bg
 |.op o=>λ_ _ e h k=>sN o e h λv h=>k (.val v) h
 |.call f args=>λdz cK e h k=>BQ args e λdI=>dz cK (.fn (.func f) [] []) dI h (Ki λv h'=>k (.val v) h')
 |.oe x args=>λdz cK e h k=>oo x e λx=>BQ args e λdI=>dz cK x dI h (Ki λv h'=>k (.val v) h')
 |.nS f args=>λdz _ e h k=>BQ args e λdI=>match Sy dz f dI with
  |some v=>ru 64 v λv=>k (.val v) h
  |none=>bn
 |.o3 f args r=>λdz _ e h k=>BQ args e λdI=>match Sy dz f dI with
  |some v=>ru 64 v λv=>match qd 64 v r with
   |true=>k (.val r) h
   |false=>bn
  |none=>bn
 |.qa f args=>λdz cK e h k=>BQ args e λdI=>dz cK (.fn (.func f) [] []) dI h k
 |.qb x args=>λdz cK e h k=>oo x e λx=>match x with
  |.fn (.func f) fs Z=>BQ args e λdI=>dz cK (.fn (.func f) fs Z) dI h k
  |_=>bn
 |.gM x=>λ_ _ e h k=>oo x e λx=>match rm x with
  |some v=>k (.gM [{v:=v,recovered:=bf}]) h
  |none=>bn
abbrev C5:=t_->r4->dy->iF->(dy->iF->Option bg)->(List PanicEntry->iF->Option bg)->Option bg
noncomputable def Y1(d:Option Nat)(next:C5):acq->C5:=match d with
 |some d=>λo=>match o with
  |.val v=>λdz cK e h k kp=>next dz cK ((d,v)::e) h k kp
  |.gM ch=>λ_ _ _ h _ kp=>kp ch h
 |none=>λo=>match o with
  |.val v=>λdz cK e h k kp=>next dz cK e h k kp
  |.gM ch=>λ_ _ _ h _ kp=>kp ch h
noncomputable def S6:dN->C5->C5
 |⟨d,bn,i⟩=>λnext dz cK e h k kp=>xI i dz cK e h λo h'=>Y1 d next o dz cK e h' k kp
 |⟨d,a_ (g,w),i⟩=>λnext dz cK e h k kp=>Iv g e λv=>match v with
  |.v (.bool b)=>match Bool.xor b w with
   |false=>xI i dz cK e h λo h'=>Y1 d next o dz cK e h' k kp
   |true=>next dz cK (qs d jF e) h k kp
  |.bQ []=>next dz cK (qs d jF e) h k kp
  |_=>bn
noncomputable def NH(l:List dN):C5:=@zP dN (λ_=>C5) (λ_ _ e h k _=>k e h) (λo _ ih=>S6 o ih) l
def ags(e:dy):Option (Nat×Bool)->Option Bool
 |none=>a_ bh
 |some (k,w)=>match gQ e k with
  |some (.v (.bool b))=>a_ (b==w)
  |some (.bQ [])=>a_ bf
  |_=>bn
noncomputable def ZY(c:dN)(e:dy)(h:iF):Bool:=match c.ins,c.dst with
 |.op o,a_ d=>match ags e c.guard with
  |some bh=>match gQ e d,sN o e h λu _=>a_ u with
   |some v,a_ u=>qd 64 u v
   |_,_=>bf
  |some bf=>match gQ e d with
   |some v=>qd 64 v jF
   |none=>bf
  |none=>bf
 |_,_=>bf
noncomputable def amr(l:List (dN×List dN)):C5:=@zP (dN×List dN) (λ_=>C5) (λ_ _ e h k _=>k e h) (λp _ ih=>S6 p.1 λdz cK e h k kp=>match p.2.all (λc=>ZY c e h) with
 |true=>ih dz cK e h k kp
 |false=>bn) l
abbrev CZ:=Exit->dy->iF->Option bg
noncomputable def Yz(f:dy->iF->CZ->Option bg)(m:Nat):dy->iF->CZ->Option bg:=@KA (λ_=>dy->iF->CZ->Option bg) (λ_ _ _=>bn) (λ_ ih e h k=>f e h λx=>match x with
 |.normal=>λe' h'=>ih e' h' k
 |x=>λe' h'=>k x e' h') m
noncomputable def A3(st:LoopState)(pd:Option Code):br:=.bW st pd [] #[] (λ_ _=>False)
noncomputable def ZU(k0:Nat)(L:List Nat)(e:dy)(k:CZ)(h:iF):Option bg:=zk h k0 λb=>match b with
 |.bW st pd _ _ _=>match st with
  |.busy=>bn
  |_=>zD h k0 (λ_ k=>k (A3 .exhausted pd)) λV=>match pd with
   |none=>uR L e λe'=>k .normal e' V
   |some .ret=>uR L e λe'=>k .ret e' V
   |some (.exit id)=>uR L e λe'=>k (.exit id) e' V
   |_=>bn
 |_=>bn
def aaI(t:bg)(d:Nat):bg:=match t with
 |.bQ l=>go l
 |_=>.bp
where go:List bg->bg
 |.bQ [.mp j _,v]::r=>if eR j d then v else go r
 |_=>.bp
abbrev oI:=t_->Nat->Bool->r4->dy->iF->CZ->Option bg
noncomputable def P4(L:List Nat):oI:=λ_ _ _ _ e h k=>uR L e λe'=>k .normal e' h
noncomputable def P1(ops:List dN)(L:List Nat):oI:=λdz _ _ cK e h k=>NH ops dz cK e h (λe' h'=>uR L e' λe'=>k .normal e' h') λch h'=>k (.panic ch) (tj ops e) h'
noncomputable def FH(xa lV:oI):oI:=λdz cg nest cK e h k=>xa dz cg nest cK e h λx=>match x with
 |.normal=>λe' h'=>lV dz cg nest cK e' h' k
 |x=>λe' h'=>k x e' h'
noncomputable def PW(c:dH)(xa lV:oI):oI:=λdz cg nest cK e h k=>oo c e λv=>match v with
 |.v (.bool bh)=>xa dz cg nest cK e h k
 |.v (.bool bf)=>lV dz cg nest cK e h k
 |_=>bn
noncomputable def FE(id:Nat)(xa:oI):oI:=λdz cg nest cK e h k=>xa dz cg nest cK e h λx=>match x with
 |.exit nP=>λe' h'=>match eR nP id with
  |true=>k .normal e' h'
  |false=>k (.exit nP) e' h'
 |x=>λe' h'=>k x e' h'
noncomputable def asU(xa:oI):oI:=λdz cg nest cK e h k=>Yz (xa dz cg nest cK) cg e h k
noncomputable def PX(id:Nat)(L:List Nat):oI:=λ_ _ _ _ e h k=>uR L e λe'=>k (.exit id) e' h
noncomputable def P3(L:List Nat):oI:=λ_ _ _ _ e h k=>uR L e λe'=>k .ret e' h
noncomputable def PZ(x:dH)(ps:List Nat)(a b:eN)(L:List Nat):oI:=λdz cg nest cK e h k=>oo x e λv=>match v with
 |.fn (.func g) fs Z=>(λgo=>match nest with
  |true=>go h
  |false=>EA h (.obj (.deferred bn)) go) λY=>lI Y.n λk0=>EA Y (A3 .ready bn) λV=>
   dz ((k0,⟨ps,a,b,e⟩)::cK) (.fn (.func g) [] []) (fs++[.jj k0]++Z) V (Ki λ_ h'=>ZU k0 L e k h')
 |_=>bn
noncomputable def P0(ls:List (List dN))(L:List Nat):oI:=λdz _ _ cK e h k=>match ls with
 |[]=>bn
 |l0::r=>match NH l0 dz cK e h (λe' _=>a_ (.bQ (e'.map λp=>.bQ [.mp p.1 0,p.2]))) (λ_ _=>bn) with
  |some t=>match NH (l0.map (gu (aaI t))) dz cK e h (λe' h'=>uR L e' λe'=>k .normal e' h') (λch h'=>k (.panic ch) (tj ls.flatten e) h') with
   |some x=>match r.all (λl=>match NH (l.map (gu (aaI t))) dz cK e h (λe' h'=>uR L e' λe'=>k .normal e' h') (λch h'=>k (.panic ch) (tj ls.flatten e) h') with
     |some y=>qd 64 x y
     |none=>bf) with
    |true=>a_ x
    |false=>bn
   |none=>bn
  |none=>bn
noncomputable def P2(l:List (dN×List dN))(L:List Nat):oI:=λdz _ _ cK e h k=>amr l dz cK e h (λe' h'=>uR L e' λe'=>k .normal e' h') λch h'=>k (.panic ch) (tj (l.map (·.1)) e) h'
noncomputable def FG(xa:oI):oI:=λdz cg nest cK e h k=>xa dz cg nest cK e h λx=>match x with
 |.goto _=>λ_ _=>bn
 |x=>λe' h'=>k x e' h'
noncomputable def PY(L:List Nat):oI:=λ_ _ _ _ e h k=>uR L e λe'=>k .normal e' h
noncomputable def asT:oI:=λ_ _ _ _ _ _ _=>bn
noncomputable def l9(c:eN):oI:=@eN.rec (λ_=>oI) (λL=>P4 L)
 (λops L=>P1 ops L)
 (λ_ _ xa lV=>FH xa lV)
 (λc _ _ xa lV=>PW c xa lV)
 (λid _ xa=>FE id xa)
 (λ_ xa=>asU xa)
 (λid L=>PX id L)
 (λL=>P3 L)
 (λx ps a b L _ _=>PZ x ps a b L)
 (λls L=>P0 ls L)
 (λl L=>P2 l L)
 (λ_ xa=>FG xa)
 (λL=>PY L)
 asT c
def aeG:l9 (.skip L)=P4 L:=rfl
def aeC{ops}:l9 (.region ops L)=P1 ops L:=rfl
def Ln{b:eN}:l9 (.seq a b)=FH (l9 a) (l9 b):=rfl
def aey{c:dH}{b:eN}:l9 (.cond c a b)=PW c (l9 a) (l9 b):=rfl
def Ll:l9 (.block id a)=FE id (l9 a):=rfl
def aez:l9 (.exit id L)=PX id L:=rfl
def aeF:l9 (.ret L)=P3 L:=rfl
def aeB{x:dH}{ps}{b:eN}:l9 (.rM x ps a b L)=PZ x ps a b L:=rfl
def aeD{ls}:l9 (.rO ls L)=P0 ls L:=rfl
def aeE{l}:l9 (.qZ l L)=P2 l L:=rfl
def Lm:l9 (.scope a)=FG (l9 a):=rfl
def aeA:l9 (.lab L)=PY L:=rfl
inductive kL where
 |plain (n:Nat) (rs:List je) (c:eN)
 |loops (n:Nat) (rs:List je) (c:eN)
 |sn (n:Nat) (rs:List je) (a:eN) (t:Nat) (g:FuncId) (caps:List dH) (b:eN)
 |G3 (n d0 d1:Nat) (c:eN)
 |Py (t:TypeId×Nat)
 |PC (e:TypeId)
 |R8 (l:List (TypeId×String×FuncId))
def aCh:FuncId:=4000000
def LK:List (TypeId×String×FuncId)->TypeId->String->Option FuncId
 |[],_,_=>bn
 |(t',n',g)::r,t,n=>match eR t' t with
  |true=>match decide (n'=n) with
   |true=>a_ g
   |false=>LK r t n
  |false=>LK r t n
def VW:∀{l} {t} {n} {g},LK l t n=a_ g->(t,n,g)∈l
 |[],_,_,_,h=>aE
 |(t',n',g')::r,t,n,g,h=>by
  unfold LK at h;split at h;rename_i ht;have:=s4 ht;subst this;split at h;rename_i hn;have:=of_decide_eq_true hn;subst this;cases h;exact yo;exact s3 _ (VW h);exact s3 _ (VW h)
def KH(P:Program)(f:FuncId):kL->Prop
 |.plain n rs c=>(∃hb,sO P hb f=a_ ⟨n,rs,c.b8⟩)/\c.fits n=bh
 |.loops n rs c=>(∃hb,sO P hb f=a_ ⟨n,rs,c.b8⟩)/\c.pJ n bh=bh
 |.sn n rs a t g caps b=>(∃hb,J9 P hb f=a_ ⟨n,rs,a.b8,t,g,caps,b.b8⟩)/\a.fits n=bh/\b.fits n=bh/\t<n
 |.G3 n d0 d1 c=>(∃hb,J_ P hb f=a_ ⟨n,d0,d1,c.b8⟩)/\c.fits n=bh/\d0<n/\d1<n
 |.Py t=>OW P f t
 |.PC e=>Pg P f e
 |.R8 l=>∀e∈l,R1 P e.1 e.2.1=a_ e.2.2
noncomputable def ZS:je->dy->iF->(bg->Option bg)->Option bg
 |.s t=>λe _ k=>Iv t e k
 |.c t bN n=>λe h k=>Iv t e λp=>GI p bN n h k
def aDQ{x:je}:ZS x e (R H) k=(Bb e H x).bind k:=by
 cases x with
 |s t=>exact Qa
 |c t bN n=>simp only[ZS,Qa,alm,Bb,Bw]
noncomputable def SR:List je->dy->iF->(List bg->Option bg)->Option bg
 |[]=>λ_ _ k=>k []
 |x::r=>λe h k=>ZS x e h λv=>SR r e h λl=>k (v::l)
def anr:∀{l} {e:dy} {H} {k},SR l e (R H) k=(tO e H l).bind k
 |[],e,H,k=>rfl
 |x::r,e,H,k=>by
  simp only[SR,aDQ,anr,tO,Bw];cases Bb e H x with
  |none=>rfl
  |some v=>simp only[lz];cases tO e H r<;>rfl
noncomputable def Bd(rs:List je)(e:dy)(h:iF)(k:BB):Option bg:=SR rs e h λl=>match l with
 |[x]=>k (.val x) h
 |l=>k (.val (.bQ l)) h
def aD_{rs}{k}:Bd rs e (R H) k=(kV e H rs).bind λv=>k (.val v) (R H):=by
 simp only[Bd,anr,kV];cases tO e H rs with
 |none=>rfl
 |some l=>
  simp only[lz,j4]
  match l with
  |[]=>rfl
  |[x]=>rfl
  |x::y::l=>rfl
def RP:List bg->Option (List Nat)
 |[]=>a_ []
 |.mp k 0::r=>match RP r with
  |some l=>a_ (k::l)
  |none=>bn
 |_::_=>bn
def Tv:List Value->Option (List bg)
 |[]=>a_ []
 |x::r=>if plain x then(match Tv r with|some l=>a_ (.v x::l)|none=>bn) else bn
def aaW:Value->Option bg
 |.iface t (.agg Z)=>match Tv Z.toList with
  |some l=>a_ (.eD t (.agg l))
  |none=>bn
 |.iface t x=>if plain x then a_ (.eD t (.v x)) else bn
 |_=>bn
noncomputable def JX(hc:FuncId->Option (kL×Nat))(dz:t_)(cg:Nat)(cK:r4)(g:FuncId)(ks:List Nat)(x:Option bg)(h:iF)(k:iF->Option bg):Option bg:=match hc g with
 |some (.G3 n d0 d1 c,_)=>if ks.length<=n then l9 c dz cg bf cK ((d1,qt x)::(d0,qt x)::pH 0 (ks.map λk=>.mp k 0)) h (λx _ h'=>match x with
  |.normal=>k h'
  |.ret=>k h'
  |_=>bn) else bn
 |_=>bn
noncomputable def ae7(rs:List je)(k:BB):CZ
 |.normal=>λe h'=>Bd rs e h' k
 |.ret=>λe h'=>Bd rs e h' k
 |.panic ch=>λ_ h'=>k (.gM ch) h'
 |_=>λ_ _=>bn
noncomputable def aek(t:TypeId×Nat)(b:Nat)(h:iF)(k:iF->Option bg):Option bg:=zk h b λx=>match x with
 |.cells (.iH b' t'::z) bf=>match eR b' b&&eR t'.1 t.1&&eR t'.2 t.2 with
  |true=>zD h b (λ_ k=>k (.cells (.mp b 0::z) bf)) k
  |false=>bn
 |.cells (.mp b' 0::_) bf=>match eR b' b with
  |true=>k h
  |false=>bn
 |_=>bn
noncomputable def SM:List bg->(List UInt8->Option bg)->Option bg
 |[],k=>k []
 |.v (.int .u8 (.ofNat n))::r,k=>match wJ n 255 with
  |true=>SM r λl=>k (vf n::l)
  |false=>bn
 |_::_,_=>bn
noncomputable def aoB(e:TypeId)(b:Nat)(h:iF)(k:bg->Option bg):Option bg:=zk h b λx=>match x with
 |.cells [_,.bp] bf=>k (.v (.string .empty))
 |.cells [_,.sl xs (.tok id)] bf=>zk h id λy=>match y with
  |.tok n 1 e'=>match eR n xs.length&&eR e' e&&wJ 1 n&&wJ n 140737488355328 with
   |true=>SM xs λl=>k (.v (.string ⟨⟨l⟩⟩))
   |false=>bn
  |_=>bn
 |_=>bn
noncomputable def Au(hc:FuncId->Option (kL×Nat)):kL->t_->Nat->r4->List bg->iF->BB->Option bg
 |.plain n rs c=>λdz cg cK args h k=>if args.length<=n then l9 c dz cg bf cK (pH 0 args) h (ae7 rs k) else bn
 |.loops n rs c=>λdz cg cK args h k=>if args.length<=n then l9 c dz cg bf cK (pH 0 args) h (ae7 rs k) else bn
 |.sn n rs a t g caps b=>λdz cg cK args h k=>if args.length<=n then l9 a dz cg bf cK (pH 0 args) h (λx e h'=>match x with
  |.normal=>BQ caps e λdI=>match RP dI with
   |some ks=>xp (λx k=>lI x k) ks λks=>l9 b dz cg bf cK ((t,.fn (.func g) [] (ks.map λk=>.mp k 0))::e) h' λx e2 V=>match x with
    |.normal=>JX hc dz cg cK g ks bn V λh3=>Bd rs e2 h3 k
    |.ret=>JX hc dz cg cK g ks bn V λh3=>Bd rs e2 h3 k
    |.panic [{v:=v,recovered:=bf,goexit:=bf}]=>match aaW v with
     |some xv=>JX hc dz cg cK g ks (a_ xv) V λh3=>Bd rs e2 h3 k
     |none=>bn
    |_=>bn
   |none=>bn
  |_=>bn) else bn
 |.G3 _ _ _ _=>λ_ _ _ _ _ _=>bn
 |.R8 _=>λ_ _ _ _ _ _=>bn
 |.Py t=>λ_ _ _ args h k=>match args with
  |[.mp b 0]=>aek t b h λh'=>k (.val (.bQ [])) h'
  |_=>bn
 |.PC e=>λ_ _ _ args h k=>match args with
  |[.mp b 0]=>aoB e b h λv=>k (.val v) h
  |_=>bn
def Qp(k:Nat):r4->Option (acf×r4)
 |[]=>bn
 |(j,r)::cK=>if j=k then a_ (r,cK) else Qp k cK
noncomputable def ani(k0:Nat)(k:BB)(x:Exit)(h:iF):Option bg:=zk h k0 λb=>match b with
 |.bW _ _ _ _ _=>match x with
  |.normal=>zD h k0 (λ_ k=>k (A3 .ready bn)) λh'=>k (.val (.v (.bool bh))) h'
  |.ret=>zD h k0 (λ_ k=>k (A3 .done (a_ .ret))) λh'=>k (.val (.v (.bool bf))) h'
  |.exit id=>zD h k0 (λ_ k=>k (A3 .done (a_ (.exit id)))) λh'=>k (.val (.v (.bool bf))) h'
  |_=>bn
 |_=>bn
noncomputable def G0:BB:=λo h=>match o with
 |.val r=>di (EN h) 64 r
 |.gM _=>bn
noncomputable def J2:br->br->Bool
 |.cells Z r,.cells cs' r'=>xl (qd 64) Z cs'&&r==r'
 |.tok n s e,.tok n' s' e'=>eR n n'&&eR s s'&&eR e e'
 |.obj (.deferred _),.obj (.deferred _)=>bh
 |.obj (.stringIter s p),.obj (.stringIter s' p')=>Lz (.string s) (.string s')&&eR p p'
 |.eO es cB,.eO mL ni=>xl (λp q=>qd 64 p.1 q.1&&qd 64 p.2.1 q.2.1&&eR p.2.2 q.2.2) es mL&&eR cB ni
 |.bW st pd _ _ _,.bW gr lg _ _ _=>(match st,gr with
  |.ready,.ready=>bh
  |.busy,.busy=>bh
  |.exhausted,.exhausted=>bh
  |.done,.done=>bh
  |_,_=>bf)&&(match pd,lg with
  |none,bn=>bh
  |_,_=>bf)
 |_,_=>bf
def aEL{a b:br}(h:J2 (b8 a) (b8 b)=bh):b8 a=b8 b:=by
 cases a with
 |cells Z r=>cases b with
  |cells cs' r'=>
   simp only[b8,J2,fQ,beq_iff_eq] at h;show bw Z r=bw cs' r';rw[Qb (λq=>Ao q) h.1,h.2]
  |obj o=>cases o<;>cases h
  |_=>cases h
 |tok n s e=>cases b with
  |tok n' s' e'=>
   simp only[b8,J2,fQ,wI] at h;show br.tok n s e=br.tok n' s' e';rw[h.1.1,h.1.2,h.2]
  |obj o=>cases o<;>cases h
  |_=>cases h
 |eO es cB=>cases b with
  |eO mL ni=>
   simp only[b8,J2,fQ,wI] at h;show br.eO es cB=br.eO mL ni;rw[Qb (λ{p q} w=>?_) h.1,h.2];simp only[fQ,wI] at w;obtain⟨a,b,c⟩:=p;obtain⟨a',b',c'⟩:=q;obtain⟨⟨w1,w2⟩,w3⟩:=w;have e1:a=a':=Ao w1;have e2:b=b':=Ao w2;have dr:c=c':=w3;rw[e1,e2,dr]
  |obj o=>cases o<;>cases h
  |_=>cases h
 |bW st pd bO ps ok=>cases b with
  |bW gr lg K8 ps' Nz=>
   simp only[b8,J2,fQ] at h;obtain⟨Y,V⟩:=h
   have e1:st=gr:=by cases st<;>cases gr<;>first|rfl|cases Y
   subst e1;simp only[b8];split at V;rename_i q1 bt;rw[q1,bt];cases V
  |obj o=>cases o<;>cases h
  |_=>cases h
 |obj o=>
  cases b with
  |obj o'=>
   cases o<;>cases o'<;>first|rfl|(cases h;done)|skip
   rename_i s p s' p';have h':(Lz (.string s) (.string s')&&eR p p')=bh:=h;rw[fQ,wI] at h';have:=afa h'.1;cases this;rw[h'.2]
  |_=>cases o<;>cases h
noncomputable def SV:List br->List br->Bool
 |[],_=>bh
 |_::_,[]=>bf
 |a::r,b::s=>J2 a b&&SV r s
def anI:∀{l m},(∀b∈l,∃a,b=b8 a)->(∀b∈m,∃a,b=b8 a)->SV l m=bh->m.take l.length=l
 |[],_,_,_,_=>af
 |_::_,[],_,_,h=>aE
 |a::r,b::s,Y,V,h=>by
  simp only[SV,fQ] at h;obtain⟨a',ha⟩:=Y a af;obtain⟨b',O⟩:=V b af;subst ha;subst O;simp only[eW,yp];rw[anI (λb O=>Y b aKQ) (λb O=>V b aKQ) h.2,aEL h.1]
noncomputable def Z_(h h':iF):Bool:=wJ h.n h'.n&&SV h.l (h'.l.drop (h'.n-h.n))
def aEM{J bl:List br}(h:Z_ (R (J.map b8)) (R (bl.map b8))=bh):(bl.map b8).take J.length=J.map b8:=by
 simp only[Z_,R,fQ,cM] at h;obtain⟨Y,V⟩:=h;have Y:=qB Y;have:=anI (λb O=>by
  simp only[List.mem_reverse,eg] at O;obtain⟨a,_,rfl⟩:=O;exact⟨a,rfl⟩) (λb O=>by
  have:=tY O;simp only[List.mem_reverse,eg] at this;obtain⟨a,_,rfl⟩:=this;exact⟨a,rfl⟩) V
 rw[mA ah] at this;have h3:=congrArg List.reverse this;rw[ap7,List.drop_reverse,ap7] at h3;rw[cM] at h3;rw[<-h3];congr 1;omega
noncomputable def aeu(h:iF):BB:=λo h'=>match o with
 |.val r=>match Z_ h h' with
  |true=>di (ou h.n (EN h')) 64 r
  |false=>bn
 |.gM _=>bn
noncomputable def Dn(hc:FuncId->Option (kL×Nat))(qX:FuncId->List bg->Option bg)(cg:Nat)(dz:t_):t_:=λcK x=>match x with
 |.fn (.func f) fs Z=>λargs h k=>xp (λx k=>k x) (fs++args++Z) λdI=>match hc f with
  |none=>match j8 (di [] 64) dI with
   |some bs=>match qX f bs with
    |some v=>ru 64 v λv=>k (.val v) h
    |none=>bn
   |none=>bn
  |some (qe,pu)=>match pu with
   |0=>Au hc qe dz cg cK dI h k
   |2=>match Au hc qe dz cg cK dI h (aeu h) with
    |some v=>ru 64 v λv=>k (.val v) h
    |none=>bn
   |_=>match j8 (di [] 64) dI with
    |some bs=>match Au hc qe dz cg [] bs (R []) G0 with
     |some v=>ru 64 v λv=>k (.val v) h
     |none=>bn
    |none=>bn
 |.fn (.method nm) [] _=>λargs h k=>match args with
  |.eD t x::rest=>match hc aCh with
   |some (.R8 l,_)=>match LK l t nm with
    |some g=>dz cK (.fn (.func g) [] []) (x::rest) h k
    |none=>bn
   |_=>bn
  |_=>bn
 |.jj k0=>λargs h k=>match Qp k0 cK with
  |some (rc,EW)=>if args.length=rc.ps.length then zk h k0 λb=>match b with
    |.bW .ready _ _ _ _=>l9 rc.a dz cg bh EW (rR rc.e (rc.ps.zip args)) h λx e1 Y=>match x with
     |.normal=>zk Y k0 λb=>match b with
      |.bW .ready _ _ _ _=>zD Y k0 (λ_ k=>k (A3 .busy bn)) λau_=>l9 rc.b dz cg bh EW e1 au_ λx e2 V=>ani k0 k x V
      |_=>bn
     |_=>bn
    |_=>bn
   else bn
  |none=>bn
 |_=>λ_ _ _=>bn
noncomputable def LF(hc:FuncId->Option (kL×Nat))(qX:FuncId->List bg->Option bg)(cg:Nat):Nat->t_
 |0=>λ_ _ _ _ _=>bn
 |d+1=>Dn hc qX cg (LF hc qX cg d)
end
section
variable{i:ja}{E:Hid r7}{e:dy}{J:List br}{r v:bg}{cK:r4}{st:LoopState}{pd:Option Code}{bO:List bg}{ps:Array Tmp}{ok:Code->Code->Prop}
section
variable{G:Cells}{P:Program}
def XP{F F'}{E'}(h:@jH G P i F E e J)(hF:∀v J,F.v v J->F'.v v J)(hE:∀ch J,E.v ch J->E'.v ch J):@jH G P i F' E' e J:=by
 cases i with
 |op o=>obtain⟨v,Y,V⟩:=h;exact⟨v,Y,hF _ _ V⟩
 |call f args=>obtain⟨dI,Y,V⟩:=h;exact⟨dI,Y,ck V hF⟩
 |oe x args=>
  obtain⟨x',h0,dI,Y,V⟩:=h;exact⟨x',h0,dI,Y,vb V hF⟩
 |nS f args=>obtain⟨dI,Y,bs,r',V,h3,h4⟩:=h;exact⟨dI,Y,bs,r',V,h3,hF _ _ h4⟩
 |o3 f args r=>obtain⟨dI,Y,bs,V,h3,h4⟩:=h;exact⟨dI,Y,bs,V,h3,hF _ _ h4⟩
 |qa f args=>obtain⟨dI,Y,V⟩:=h;exact⟨dI,Y,gT V hF hE⟩
 |qb x args=>
  obtain⟨x',h0,dI,Y,V⟩:=h;exact⟨x',h0,dI,Y,abg V hF hE⟩
 |gM x=>obtain⟨v,Y,V⟩:=h;exact⟨v,Y,hE _ _ V⟩
def au8{w}{A B A' B'}(h:@uB w v A B)(Y:A.v->A'.v)(V:B.v->B'.v):@uB w v A' B':=by
 unfold uB at h⊢;split at h;cases w with
 |true=>exact⟨λq=>Y (h.1 q),λq=>V (h.2 q)⟩
 |false=>exact⟨λq=>V (h.1 q),λq=>Y (h.2 q)⟩
 exact V h;exact h.elim
def KV:∀{l} {K K'} {E E'} {e:dy} {J},@kg G P l K E e J->(∀e J,K.v e J->K'.v e J)->(∀ch J,E.v ch J->E'.v ch J)->@kg G P l K' E' e J
 |[],K,K',E,E',e,J,h,S,hE=>by rw[Fj] at h⊢;exact S _ _ h
 |⟨d,g,i⟩::r,K,K',E,E',e,J,h,S,hE=>by
  rcases g with _|⟨k,w⟩
  rw[HX] at h⊢;exact XP h (λv bl q=>KV q S hE) hE;rw[HW] at h⊢;obtain⟨g,Y,V⟩:=h;exact⟨g,Y,au8 V (λq=>XP q (λv bl q=>KV q S hE) hE) λq=>KV q S hE⟩
def acC:∀{l} {K K'} {E E'} {e:dy} {J},@uj G P l K E e J->(∀e J,K.v e J->K'.v e J)->(∀ch J,E.v ch J->E'.v ch J)->@uj G P l K' E' e J
 |[],K,K',E,E',e,J,h,S,hE=>by rw[HY] at h⊢;exact S _ _ h
 |(o,Z)::r,K,K',E,E',e,J,h,S,hE=>by
  rw[HZ] at h⊢;exact KV h (λe J k=>⟨k.1,acC k.2 S hE⟩) hE
def r5(G:Cells)(P:Program)(cK:r4)(J:List br):Prop:=∀k rc,(k,rc)∈cK->∃bO ok st pd,J[k]?=a_ (.bW st pd bO rc.ps.toArray ok)/\
 Uw G P k bO rc.ps ok (λhi e J=>@er G P bh rc.a ⟨hi⟩ e J) (λhi e J=>@er G P bh rc.b ⟨hi⟩ e J) rc.e
def r5.keeps{bl}(h:r5 G P cK J)(S:gh J bl):r5 G P cK bl:=λk rc hm=>by
 obtain⟨bO,ok,st,pd,Y,V⟩:=h k rc hm;obtain⟨gr,lg,h3⟩:=S _ _ _ _ _ _ Y;exact⟨bO,ok,gr,lg,h3,V⟩
def Yo:r5 G P [] J:=λk rc hm=>by cases hm
def Fa(G:Cells)(P:Program)(dz:t_):Prop:=∀cK x args J k r,r5 G P cK J->dz cK x args (R (J.map b8)) k=a_ r->
 ((∀ch h,k (.gM ch) h=bn)->jM G P x args J λv bl=>k (.val v) (R (bl.map b8))=a_ r/\gh J bl)/\
 (∀f fs Z,x=.fn (.func f) fs Z->iE G P f (fs++args++Z) J (λv bl=>k (.val v) (R (bl.map b8))=a_ r/\gh J bl) λch bl=>k (.gM ch) (R (bl.map b8))=a_ r/\gh J bl)
def IC:∀{n:Nat} {x r:bg},di (J.map b8) n x=a_ r->di J n x=a_ r
 |0,x,r,h=>aE
 |n+1,x,r,h=>by
  have mp:∀{l} {m},j8 (di (J.map b8) n) l=a_ m->j8 (di J n) l=a_ m:=by
   intro l
   induction l with
   |nil=>intro m h;exact h
   |cons a l ih=>
    intro m h;simp only[j8] at h⊢;split at h;rename_i y hy;rw[IC hy];simp only;split at h;rename_i l' hl;rw[ih hl];exact h;cases h;cases h
  have Et:∀{l} {g} {y:bg},(j8 (di (J.map b8) n) l).map g=a_ y->(j8 (di J n) l).map g=a_ y:=by
   intro l g y h;rw[dx] at h⊢;obtain⟨m,Y,V⟩:=h;exact⟨m,mp Y,V⟩
  unfold di at h⊢;cases x<;>simp only at h⊢
  case v=>exact h
  case bp=>exact h
  case agg=>exact Et h
  case bQ=>exact Et h
  case sl=>exact Et h
  case fp=>exact Et h
  case eD t x=>
   rw[dx] at h⊢;obtain⟨y,Y,V⟩:=h;exact⟨y,IC Y,V⟩
  case fn f a b=>
   simp only[gO] at h⊢;obtain⟨a',Y,V⟩:=h;exact⟨a',mp Y,Et V⟩
  case mp k off=>
   split at h;rename_i Z S;rw[so S];exact Et h;cases h
  case rp k m off=>
   split at h;rename_i Z S;rw[so S];simp only;split at h;rename_i T;rw[if_pos T];exact Et h;cases h;cases h
  case rs k m sz off len=>
   split at h;rename_i Z S;rw[so S];simp only;split at h;rename_i T;rw[if_pos T];exact Et h;cases h;cases h
  all_goals cases h
def Il{f}{fs Z args}{K}:jM G P (.fn (.func f) fs Z) args J K=cq G P f (fs++args++Z) J K:=rfl
def aaZ{k}:∀ch h,Ki k (.gM ch) h=bn:=λ_ _=>rfl
def amH{dz:t_}(jc:Fa G P dz){f}{dI}(h:Sy dz f dI=a_ v):∃bs,n9 dI bs/\cY G P f bs v:=by
 unfold Sy at h;split at h;rename_i bs L8;refine⟨bs,V7 L8,e3 ?_⟩;have:=(jc [] (.fn (.func f) [] []) bs [] _ v Yo h).1 λ_ _=>rfl;rw[Il,gN,gd] at this;exact ck this λr bl k=>⟨64,IC (by have:=k.1;rw[Hq] at this;exact this)⟩;cases h
variable{dz:t_}(jc:Fa G P dz)
include jc
def aya{k}(fK:r5 G P cK J)(h:xI i dz cK e (R (J.map b8)) k=a_ r):
  @jH G P i ⟨λv bl=>k (.val v) (R (bl.map b8))=a_ r/\gh J bl⟩ ⟨λch bl=>k (.gM ch) (R (bl.map b8))=a_ r/\gh J bl⟩ e J:=by
 cases i with
 |op o=>
  simp only[xI,amo,gO] at h;obtain⟨⟨v,hE⟩,Y,V⟩:=h;obtain⟨bl,q1,rfl,bS⟩:=aew J v hE Y;exact⟨(v,bl),q1,V,bS⟩
 |call f args=>
  simp only[xI,DE,gO] at h;obtain⟨dI,Y,V⟩:=h;have:=(jc cK _ dI J _ r fK V).1 aaZ;rw[Il,gN,gd] at this;exact⟨dI,Y,this⟩
 |oe x args=>
  simp only[xI,sw,DE,gO] at h;obtain⟨x',h0,dI,Y,V⟩:=h;exact⟨x',h0,dI,Y,(jc cK _ dI J _ r fK V).1 aaZ⟩
 |nS f args=>
  simp only[xI,DE,gO] at h;obtain⟨dI,Y,V⟩:=h;split at V;rename_i v hv;rw[Av] at V;obtain⟨bs,q1,bt⟩:=amH jc hv;exact⟨dI,Y,bs,v,q1,bt,V,sX J⟩;cases V
 |o3 f args r'=>
  simp only[xI,DE,gO] at h;obtain⟨dI,Y,V⟩:=h;split at V;rename_i v hv;rw[Av] at V;obtain⟨bs,q1,bt⟩:=amH jc hv;split at V;rename_i k8;have:=Ao k8;subst this;exact⟨dI,Y,bs,q1,bt,V,sX J⟩;cases V;cases V
 |qa f args=>
  simp only[xI,DE,gO] at h;obtain⟨dI,Y,V⟩:=h;have:=(jc cK _ dI J _ r fK V).2 f [] [] rfl;rw[gN,gd] at this;exact⟨dI,Y,this⟩
 |qb x args=>
  simp only[xI,sw,gO] at h;obtain⟨x',h0,V⟩:=h;split at V;rename_i f fs Z;simp only[DE,gO] at V;obtain⟨dI,Y,V⟩:=V;exact⟨_,h0,dI,Y,(jc cK _ dI J _ r fK V).2 f fs Z rfl⟩;cases V
 |gM x=>
  simp only[xI,sw,gO] at h;obtain⟨x',h0,V⟩:=h;split at V;rename_i v hv;exact⟨v,by rw[h0];exact hv,V,sX J⟩;cases V
def aoc{o}{next}{kn}{kp}{l}{K}(fK:r5 G P cK J)(h:S6 o next dz cK e (R (J.map b8)) kn kp=a_ r)
  (hn:∀e bl,gh J bl->next dz cK e (R (bl.map b8)) kn kp=a_ r->@kg G P l K E e bl) (hE:∀ch bl,gh J bl->kp ch (R (bl.map b8))=a_ r->E.v ch bl):@kg G P (o::l) K E e J:=by
 obtain⟨d,g,i⟩:=o;have sV:xI i dz cK e (R (J.map b8)) (λo h'=>Y1 d next o dz cK e h' kn kp)=a_ r->@jH G P i ⟨λv bl=>@kg G P l K E (qs d v e) bl⟩ E e J:=λq=>by
  refine XP (aya jc fK q) (λv bl ⟨k1,k2⟩=>?_) λch bl ⟨k1,k2⟩=>hE ch bl k2 (by cases d<;>exact k1);refine hn _ bl k2 ?_;cases d<;>exact k1
 cases g with
 |none=>rw[HX];exact sV h
 |some au9=>
  obtain⟨g,w⟩:=au9;rw[HW];simp only[S6,Qa,gO] at h;obtain⟨v,Y,V⟩:=h;refine⟨v,Y,?_⟩;dsimp only;split at V
  · rename_i b
    cases I:Bool.xor b w with
    |false=>
     rw[I] at V
     have O:b=w:=by cases b<;>cases w<;>first|rfl|cases I
     subst O;cases b with
     |true=>exact⟨λ_=>sV V,nofun⟩
     |false=>exact⟨nofun,λ_=>sV V⟩
    |true=>
     rw[I] at V;have no:=hn _ J (sX J) V
     cases b<;>cases w<;>first|(cases I;done)|skip
     exact⟨nofun,λ_=>no⟩;exact⟨λ_=>no,nofun⟩
  exact hn _ J (sX J) V;cases V
def Sp:∀{l} {cK:r4} {e:dy} {J} {kn} {kp} {r:bg},r5 G P cK J->NH l dz cK e (R (J.map b8)) kn kp=a_ r->
  @kg G P l ⟨λe' bl=>kn e' (R (bl.map b8))=a_ r/\gh J bl⟩ ⟨λch bl=>kp ch (R (bl.map b8))=a_ r/\gh J bl⟩ e J
 |[],cK,e,J,kn,kp,r,fK,h=>by rw[Fj];exact⟨h,sX J⟩
 |o::l,cK,e,J,kn,kp,r,fK,h=>by
  refine aoc jc fK h (λe bl S q=>?_) λch bl S q=>⟨q,S⟩;exact KV (Sp (fK.keeps S) q) (λe jA k=>⟨k.1,S.trans k.2⟩) λch jA k=>⟨k.1,S.trans k.2⟩
omit jc in
def aD0{c}(h:ZY c e (R (J.map b8))=bh):rN c e J:=by
 unfold ZY at h;unfold rN;split at h;rename_i o d Q hd;have sV:(match gQ e d,sN o e (R (J.map b8)) λu _=>a_ u with|some v,a_ u=>qd 64 u v|_,_=>bf)=bh->@gX _ (gQ e d) ⟨λv=>@gX _ (cy e J o) ⟨λr=>r.1=v⟩⟩:=λq=>by
  split at q;rename_i v u hv hu;rw[amo,gO] at hu;obtain⟨⟨u',hE⟩,hu,h3⟩:=hu;cases h3;obtain⟨bl,q1,_,_⟩:=aew J _ hE hu;exact⟨v,hv,(_,bl),q1,Ao q⟩;cases q
 rw[Q,hd];simp only;unfold ags at h;split at h;rename_i hg;split at hg;rename_i T;rw[T];exact sV h;rename_i k w T;rw[T];split at hg;rename_i b S;simp only[n6,beq_iff_eq] at hg;subst hg;refine⟨_,S,?_⟩;cases b with
 |true=>exact⟨λ_=>sV h,nofun⟩
 |false=>exact⟨nofun,λ_=>sV h⟩
 cases hg;cases hg;rename_i hg;have no:@gX _ (gQ e d) ⟨λv=>v=jF⟩:=by
  split at h;rename_i v hv;exact⟨v,hv,Ao h⟩;cases h
 split at hg;cases hg;rename_i k w T;rw[T];split at hg;rename_i b S;simp only[n6,beq_eq_false_iff_ne,ne_eq] at hg;refine⟨_,S,?_⟩
 cases b<;>cases w<;>first|(exact(hg rfl).elim)|skip
 exact⟨nofun,λ_=>no⟩;exact⟨λ_=>no,nofun⟩;rename_i S;exact⟨_,S,no⟩;cases hg;cases h;cases h
def ams:∀{l} {cK:r4} {e:dy} {J} {kn} {kp} {r:bg},r5 G P cK J->amr l dz cK e (R (J.map b8)) kn kp=a_ r->
  @uj G P l ⟨λe' bl=>kn e' (R (bl.map b8))=a_ r/\gh J bl⟩ ⟨λch bl=>kp ch (R (bl.map b8))=a_ r/\gh J bl⟩ e J
 |[],cK,e,J,kn,kp,r,fK,h=>by rw[HY];exact⟨h,sX J⟩
 |(o,Z)::l,cK,e,J,kn,kp,r,fK,h=>by
  rw[HZ];refine aoc jc fK h (λe bl S q=>?_) λch bl S q=>⟨q,S⟩;rw[Fj];dsimp only at q⊢;split at q;rename_i jN;refine⟨?_,acC (ams (fK.keeps S) q) (λe jA k=>⟨k.1,S.trans k.2⟩) λch jA k=>⟨k.1,S.trans k.2⟩⟩;clear q h
  induction Z with
  |nil=>trivial
  |cons c Z ih=>
   simp only[pY,fQ] at jN;exact⟨aD0 jN.1,ih jN.2⟩
  cases q
omit jc in
def aBL{a:eN}{nest}{f}{k:CZ}{gz:List br}(fK:r5 G P cK gz)(hf:∀e J k,r5 G P cK J->f e (R (J.map b8)) k=a_ r->@er G P nest a ⟨λx e' bl=>k x e' (R (bl.map b8))=a_ r/\gh J bl⟩ e J){m:Nat}(S:gh gz J)(h:Yz f m e (R (J.map b8)) k=a_ r):@er G P nest (.loop a) ⟨λx e' bl=>k x e' (R (bl.map b8))=a_ r/\gh gz bl⟩ e J:=by
 rw[Ol];refine⟨λm e J=>Yz f m e (R (J.map b8)) k=a_ r/\gh gz J,m,⟨h,S⟩,λm e J ⟨Y,V⟩=>?_⟩;cases m with
 |zero=>cases Y
 |succ m=>
  refine sS (hf e J _ (fK.keeps V) Y) λx e' bl ⟨k1,k2⟩=>?_;cases x with
  |normal=>exact⟨m,CW m,k1,V.trans k2⟩
  |_=>exact⟨k1,V.trans k2⟩
omit jc in
def Ya{k:Nat}{gr}{lg}(S:J[k]?=a_ (.bW st pd bO ps ok)):gh J (J.set k (.bW gr lg bO ps ok)):=λj iX amD aHH aJr Zc h=>by
 by_cases e:k=j;subst e;rw[S] at h;cases h;exact⟨gr,lg,bU (cL.1 S).1⟩;exact⟨iX,amD,aLn⟩
omit jc in
def LD{k:Nat}:(J.set k (.bW st pd bO ps ok)).map b8=(J.map b8).set k (A3 st (match st with|.busy=>bn|_=>pd)):=by
 rw[ym];rfl
omit jc in
def BI:type_of% @aeG/\type_of% @P4.eq_1/\type_of% @aeC/\type_of% @P1.eq_1/\type_of% @Ln/\type_of% @FH.eq_1/\type_of% @aey/\type_of% @PW.eq_1/\type_of% @Ll/\type_of% @FE.eq_1/\type_of% @aez/\type_of% @PX.eq_1/\type_of% @aeF/\type_of% @P3.eq_1/\type_of% @aeB/\type_of% @PZ.eq_1/\type_of% @aeD/\type_of% @P0.eq_def/\type_of% @aeE/\type_of% @P2.eq_1/\type_of% @Lm/\type_of% @FG.eq_1/\type_of% @aeA/\type_of% @PY.eq_1:=
 ⟨@aeG,@P4.eq_1,@aeC,@P1.eq_1,@Ln,@FH.eq_1,@aey,@PW.eq_1,@Ll,@FE.eq_1,@aez,@PX.eq_1,@aeF,@P3.eq_1,@aeB,@PZ.eq_1,@aeD,@P0.eq_def,@aeE,@P2.eq_1,@Lm,@FG.eq_1,@aeA,@PY.eq_1⟩
def FF{cg:Nat}:∀{c:eN} {nest:Bool} {cK:r4} {e:dy} {J:List br} {k:CZ} {r:bg},r5 G P cK J->l9 c dz cg nest cK e (R (J.map b8)) k=a_ r->
  @er G P nest c ⟨λx e' bl=>k x e' (R (bl.map b8))=a_ r/\gh J bl⟩ e J:=by
 intro c
 induction c with
 |skip L=>intro nest cK e J k r fK h;rw[Ou];simp only[BI,xP] at h;exact⟨h,sX J⟩
 |lab L=>intro nest cK e J k r fK h;rw[Ok];simp only[BI,xP] at h;exact⟨h,sX J⟩
 |bad=>intro nest cK e J k r fK h;cases h
 |exit id L=>intro nest cK e J k r fK h;rw[Oj];simp only[BI,xP] at h;exact⟨h,sX J⟩
 |ret L=>intro nest cK e J k r fK h;rw[Oq];simp only[BI,xP] at h;exact⟨h,sX J⟩
 |region ops L=>
  intro nest cK e J k r fK h;rw[On];simp only[BI,xP] at h;exact Sp jc fK h
 |qZ l L=>
  intro nest cK e J k r fK h;rw[Oo];simp only[BI,xP] at h;exact ams jc fK h
 |rO ls L=>
  intro nest cK e J k r fK h;rw[Km];cases ls with
  |nil=>cases h
  |cons l0 ls=>
   simp only[BI,xP] at h;split at h;rename_i t _;split at h;rename_i x I;split at h;rename_i jN;cases h;refine⟨aaI t,λl hl=>?_⟩;rw[fS] at hl
   rcases hl with rfl|hl
   exact Sp jc fK I;have:=eP.1 jN l hl;split at this;rename_i y hy;rw[<-Ao this] at hy;exact Sp jc fK hy;cases this;cases h;cases h;cases h
 |seq a b j0 tG=>
  intro nest cK e J k r fK h;rw[Hr];simp only[Ln,FH,Ll,FE,Lm,FG] at h;refine sS (j0 fK h) λx e' bl ⟨k1,k2⟩=>?_;cases x with
  |normal=>exact sS (tG (fK.keeps k2) k1) λx e2 jA ⟨q1,bt⟩=>⟨q1,k2.trans bt⟩
  |_=>exact⟨k1,k2⟩
 |cond c a b j0 tG=>
  intro nest cK e J k r fK h;rw[Oi];simp only[BI,sw,gO] at h;obtain⟨v,Y,V⟩:=h;refine⟨v,Y,?_⟩;dsimp only;split at V;exact⟨λ_=>j0 fK V,nofun⟩;exact⟨nofun,λ_=>tG fK V⟩;cases V
 |block id a j0=>
  intro nest cK e J k r fK h;rw[CF];simp only[Ln,FH,Ll,FE,Lm,FG] at h;refine sS (j0 fK h) λx e' bl ⟨k1,k2⟩=>?_;cases x with
  |exit nP=>
   simp only[xb];dsimp only at k1;split at k1;rename_i hq;rw[if_pos (s4 hq)];exact⟨k1,k2⟩;rename_i hq;rw[if_neg (λq=>by subst q;rw[Nat.beq_refl] at hq;cases hq)];exact⟨k1,k2⟩
  |_=>exact⟨k1,k2⟩
 |scope a j0=>
  intro nest cK e J k r fK h;rw[Ot];simp only[Ln,FH,Ll,FE,Lm,FG] at h;refine sS (j0 fK h) λx e' bl ⟨k1,k2⟩=>?_;cases x with
  |goto l=>cases k1
  |_=>exact⟨k1,k2⟩
 |loop a j0=>
  intro nest cK e J k r fK h;exact aBL fK (λe J k fK h=>j0 fK h) (sX J) h
 |rM x ps a b L j0 tG=>
  intro nest cK e J k r fK h;rw[wz];simp only[BI,sw,gO] at h;obtain⟨v,Y,V⟩:=h;split at V
  · rename_i g fs Z
    refine⟨g,fs,Z,Y,λk0 xz bO ok hR=>?_⟩;have I1:J.map b8++(if nest=bh then [] else [.obj (.deferred bn)])=(J++marks nest).map b8:=by
     rw[gf];cases nest<;>rfl
    have DU:(J++marks nest).map b8++[A3 .ready bn]=(J++marks nest++[nX .ready bn bO ps.toArray ok]).map b8:=by
     rw[gf (l₁:=J++marks nest)];rfl
    have V:dz ((k0,⟨ps,a,b,e⟩)::cK) (.fn (.func g) [] []) (fs++[.jj k0]++Z) (R ((J++marks nest++[nX .ready bn bO ps.toArray ok]).map b8)) (Ki λ_ h'=>ZU k0 L e k h')=a_ r:=by
     have rn:∀H,(R H).n=H.length:=λ_=>rfl;rw[<-DU,<-I1];cases nest with
     |true=>
      simp only[SA,vE,rn] at V;simp only[marks,if_true,gd] at xz⊢;rw[cM,<-xz] at V;exact V
     |false=>
      simp only[SA,vE,rn] at V;simp only[marks,ke,if_false] at xz⊢;rw[ec,cM,pZ] at V;rw[ec,pZ] at xz;rw[<-xz] at V;exact V
    have jO:(J++marks nest++[nX .ready bn bO ps.toArray ok])[k0]?=a_ (.bW .ready bn bO ps.toArray ok):=by
     rw[xz,fY (cj _),mU];rfl
    have axK:r5 G P ((k0,⟨ps,a,b,e⟩)::cK) (J++marks nest++[nX .ready bn bO ps.toArray ok]):=λj rc hm=>by
     rcases fS.1 hm with hm|hm
     cases hm;exact⟨bO,ok,.ready,bn,jO,hR⟩;exact(fK.keeps (A2.trans A2)) j rc hm
    have:=(jc _ _ _ _ _ r axK V).1 aaZ;rw[Il,gN,gd] at this;refine ck this λv bl ⟨q1,bt⟩=>?_;obtain⟨st,pd,e9⟩:=bt _ _ _ _ _ _ jO;refine⟨st,pd,e9,?_⟩;have he:(bl.map b8)[k0]?=a_ (b8 (.bW st pd bO ps.toArray ok)):=by rw[fR,e9];rfl
    simp only[Ki,ZU,Cj,he,b8,lz] at q1;have DT:gh J (bl.set k0 (.bW .exhausted pd bO ps.toArray ok)):=(A2.trans A2).trans (bt.trans (Ya e9));have Gn:(bl.set k0 (.bW .exhausted pd bO ps.toArray ok)).map b8=(bl.map b8).set k0 (A3 .exhausted pd):=LD;cases st<;>simp only[reduceCtorEq,ne_eq,not_false_eq_true,not_true_eq_false,true_and,false_and] at q1⊢
    all_goals
     rw[Kh,he] at q1;simp only[lz] at q1;rw[<-Gn] at q1;cases pd with
     |none=>simp only[xP] at q1;exact⟨q1,DT⟩
     |some c=>
      cases c with
      |ret=>simp only[xP] at q1;exact⟨q1,DT⟩
      |exit id=>simp only[xP] at q1;exact⟨q1,DT⟩
      |_=>cases q1
  cases V
end
end
section
variable{J:List br}{r:bg}{dz:t_}{cK:r4}{f:FuncId}{qe:kL}{args:List bg}
section
variable{G:Cells}{P:Program}{hc:FuncId->Option (kL×Nat)}{qX:FuncId->List bg->Option bg}{cg:Nat}
def UC(P:Program)(hc:FuncId->Option (kL×Nat)):Prop:=∀f qe pu,hc f=a_ (qe,pu)->KH P f qe
def Uu(G:Cells)(P:Program)(hc:FuncId->Option (kL×Nat))(qX:FuncId->List bg->Option bg):Prop:=∀f args r,hc f=bn->qX f args=a_ r->cY G P f args r
def aD9{e:dy}{rs}(h:kV e (J.map b8) rs=a_ r):kV e J rs=a_ r:=by
 have key:∀{rs} {l},tO e (J.map b8) rs=a_ l->tO e J rs=a_ l:=by
  intro rs
  induction rs with
  |nil=>intro l h;exact h
  |cons x rs ih=>
   intro l h;simp only[tO,gO,dx] at h⊢;obtain⟨a,Y,l',V,h3⟩:=h;refine⟨a,?_,l',ih V,h3⟩;cases x with
   |s t=>exact Y
   |c t bN n=>
    simp only[Bb,gO] at Y⊢;obtain⟨p,q1,bt⟩:=Y;exact⟨p,q1,adh bt⟩
 unfold kV at h⊢;rw[dx] at h⊢;obtain⟨l,Y,V⟩:=h;exact⟨l,key Y,V⟩
def VE{n0:Nat}{bl}(h:n7 n0 J bl):bl.map b8=J.map b8/\gh J bl:=by
 constructor;apply E5;intro k;rw[fR,fR]
 rcases h.2 k with q|⟨_,q1,bt⟩
 rw[q];rw[q1,bt];rfl;intro k st pd bO ps ok S
 rcases h.2 k with q|⟨_,q1,bt⟩
 exact⟨st,pd,by rw[q];exact S⟩;rw[q1] at S;cases S
def ao6:∀{l} {xs},Tv l=a_ xs->TK xs=a_ l/\mo.JL xs=bh
 |[],xs,h=>by cases h;exact⟨rfl,rfl⟩
 |x::r,xs,h=>by
  simp only[Tv] at h;split at h;rename_i J;split at h;rename_i l hl;cases h;obtain⟨Y,V⟩:=ao6 hl;exact⟨by simp[TK,sj,Y],by simp[mo.JL,mo,J,V]⟩;cases h;cases h
def aGM{v}{x:bg}(h:aaW v=a_ x):xT x=bh/\rm x=a_ v:=by
 unfold aaW at h;split at h;rename_i t Z;split at h;rename_i l hl;cases h;obtain⟨Y,V⟩:=ao6 hl;exact⟨by simp[xT,mo,V],by simp[rm,sj,Y]⟩;cases h;rename_i t x _;split at h;rename_i J;cases h;exact⟨by simp[xT,mo,J],by simp[rm,sj]⟩;cases h;cases h
def akT:∀{l} {ks},RP l=a_ ks->l=ks.map λk=>.mp k 0
 |[],ks,h=>by cases h;rfl
 |x::r,ks,h=>by
  unfold RP at h;split at h;rename_i k8;cases k8;rename_i k r' k8;cases k8;split at h;rename_i l hl;cases h;rw[akT hl];rfl;cases h;cases h
def ank:∀{xs} {k} {r:bg},SM xs k=a_ r->∃l:List UInt8,xs=l.map (λc=>.v (.int .u8 c.toNat))/\k l=a_ r
 |[],k,r,h=>⟨[],rfl,h⟩
 |x::xs,k,r,h=>by
  unfold SM at h;split at h;rename_i k8;cases k8;rename_i k' n r' k8;cases k8;split at h;rename_i hn;have hn:=qB hn;obtain⟨l,Y,V⟩:=ank h;refine⟨vf n::l,?_,V⟩;rw[fG,<-Y];have:(vf n).toNat=n:=ah
  rw[this];rfl;cases h;cases h
variable(hm:P.follows .mixedOrders=bh)(hT:UC P hc)
include hm hT
def aEw(jc:Fa G P dz){g}{ks}{x}{v}{k}(fK:r5 G P cK J)
  (I:match x,v with|none,bn=>True|some x,a_ v=>xT x=bh/\rm x=a_ v|_,_=>False)
  (h:JX hc dz cg cK g ks x (R (J.map b8)) k=a_ r):kK G P g (ks.map λk=>.mp k 0) J v λbl=>k (R (bl.map b8))=a_ r/\gh J bl:=by
 unfold JX at h;split at h;rename_i n d0 d1 c pu avy;obtain⟨⟨hb,F⟩,hf,h0,Y⟩:=hT _ _ _ avy;split at h;rename_i hn;refine aeS hm F hf ⟨h0,Y⟩ aKu I ?_;refine sS (FF jc fK h) λx e' bl ⟨q1,bt⟩=>?_;cases x with
 |normal=>exact⟨q1,bt⟩
 |ret=>exact⟨q1,bt⟩
 |_=>cases q1
 cases h;cases h
def VZ(jc:Fa G P dz)(qk:KH P f qe){k}(fK:r5 G P cK J)
  (h:Au hc qe dz cg cK args (R (J.map b8)) k=a_ r):iE G P f args J (λv bl=>k (.val v) (R (bl.map b8))=a_ r/\gh J bl) λch bl=>k (.gM ch) (R (bl.map b8))=a_ r/\gh J bl:=by
 have Ct:∀{rs} {e:dy} {eI},gh J eI->Bd rs e (R (eI.map b8)) k=a_ r->@gX _ (kV e eI rs) ⟨λv=>k (.val v) (R (eI.map b8))=a_ r/\gh J eI⟩:=λS q=>by
  rw[aD_,gO] at q;obtain⟨v,hv,q⟩:=q;exact⟨v,aD9 hv,q,S⟩
 cases qe with
 |plain n rs c=>
  obtain⟨⟨hb,F⟩,hf⟩:=qk;simp only[Au] at h;split at h;rename_i hn;refine afP hm F hf hn (sS (FF jc fK h) λx e' bl ⟨q1,bt⟩=>?_);cases x with
  |normal=>exact Ct bt q1
  |ret=>exact Ct bt q1
  |panic ch=>exact⟨q1,bt⟩
  |_=>cases q1
  cases h
 |loops n rs c=>
  obtain⟨⟨hb,F⟩,hf⟩:=qk;simp only[Au] at h;split at h;rename_i hn;refine afQ hm F hf hn (sS (FF jc fK h) λx e' bl ⟨q1,bt⟩=>?_);cases x with
  |normal=>
   intro jA he;obtain⟨w1,w2⟩:=VE he;have aDE:Bd rs e' (R (jA.map b8)) k=a_ r:=by rw[w1];exact q1
   exact Ct (bt.trans w2) aDE
  |ret=>
   intro jA he;obtain⟨w1,w2⟩:=VE he;exact Ct (bt.trans w2) (by rw[w1];exact q1)
  |panic ch=>
   intro jA he;obtain⟨w1,w2⟩:=VE he;refine⟨?_,bt.trans w2⟩;show k (.gM ch) (R (jA.map b8))=a_ r;rw[w1];exact q1
  |_=>cases q1
  cases h
 |sn n rs a t g caps b=>
  obtain⟨⟨hb,F⟩,Mf,Mg,ht⟩:=qk;simp only[Au] at h;split at h;rename_i hn;refine EZ (afO hm F Mf Mg ht hn (sS (FF jc fK h) λx e1 eI ⟨q1,bt⟩=>?_));cases x with
  |normal=>
   simp only[DE,gO] at q1;obtain⟨dI,w1,w2⟩:=q1;split at w2;rename_i ks BW;rw[FO vE] at w2;refine⟨ks,by rw[w1,akT BW],sS (FF jc (fK.keeps bt) w2) λx e2 jA ⟨u1,u2⟩=>?_⟩;have fin:∀{x} {v},(match x,v with|none,bn=>True|some x,a_ v=>xT x=bh/\rm x=a_ v|_,_=>False)->JX hc dz cg cK g ks x (R (jA.map b8)) (λh3=>Bd rs e2 h3 k)=a_ r->
     kK G P g (ks.map λk=>.mp k 0) jA v λbl=>@gX _ (kV e2 bl rs) ⟨λv=>k (.val v) (R (bl.map b8))=a_ r/\gh J bl⟩:=λI q=>
    kK.mono (aEw hm hT jc (fK.keeps (bt.trans u2)) I q) λxD ⟨b_,z2⟩=>Ct ((bt.trans u2).trans z2) b_
   cases x with
   |normal=>exact fin (v:=bn) trivial u1
   |ret=>exact fin (v:=bn) trivial u1
   |panic ch=>
    split at u1;rename_i k8;cases k8;rename_i k8;cases k8;rename_i v k8;cases k8;split at u1;rename_i xv axD;exact⟨v,rfl,fin (aGM axD) u1⟩;cases u1;cases u1
   |_=>cases u1
   cases w2
  |_=>cases q1
  cases h
 |G3 n d0 d1 c=>cases h
 |R8 l=>simp only[Au] at h;cases h
 |Py t=>
  simp only[Au] at h;split at h;rename_i b;unfold aek at h;rw[Cj,gO] at h;obtain⟨blk,IQ,h⟩:=h;split at h;rename_i b' t' z;have O:=so IQ;split at h;rename_i T;simp only[fQ,wI] at T;obtain⟨⟨rfl,Y⟩,V⟩:=T;have ht:=Prod.ext Y V;subst ht;rw[Kh,IQ] at h;refine EZ (ck (ad3 qk O) ?_);rintro r' bl ⟨rfl,rfl⟩;have hs:(J.set b' (.cells (.mp b' 0::z) bf)).map b8=(J.map b8).set b' (.cells (.mp b' 0::z) bf):=aJR
  rw[hs];exact⟨h,y9 O nofun⟩;cases h;rename_i b' z;have O:=so IQ;split at h;rename_i T;have:=s4 T;subst this;refine EZ (ck (ad6 qk O) ?_);rintro r' bl ⟨rfl,rfl⟩;exact⟨h,sX _⟩;cases h;cases h;cases h
 |PC e=>
  simp only[Au] at h;split at h;rename_i b;unfold aoB at h;rw[Cj,gO] at h;obtain⟨blk,IQ,h⟩:=h;split at h;rename_i c0;have O:=so IQ;refine EZ (ck (ad5 qk O) ?_);rintro r' bl ⟨rfl,rfl⟩;exact⟨h,sX _⟩;rename_i c0 xs id;rw[Cj,gO] at h;obtain⟨aHR,avN,h⟩:=h;split at h;rename_i n e';split at h;rename_i T;simp only[fQ,wI] at T;obtain⟨⟨⟨Y,V⟩,h3⟩,h4⟩:=T;have h3:=qB h3;have h4:=qB h4;obtain⟨l,hl,S⟩:=ank h;subst hl;subst V;have hn:n=l.length:=by rw[Y,cM]
  subst hn;refine EZ (ck (ad4 qk (so IQ) (VQ avN) (by intro e;subst e;simp at h3) h4) ?_);rintro r' bl ⟨rfl,rfl⟩;exact⟨S,sX _⟩;cases h;cases h;cases h;cases h
omit hm hT in
def afC{k:Nat}:∀{cK:r4} {rc} {EW:r4},Qp k cK=a_ (rc,EW)->(k,rc)∈cK/\∀x∈EW,x∈cK
 |[],_,_,h=>aE
 |(j,r)::cK,rc,EW,h=>by
  simp only[Qp] at h;split at h;rename_i e;subst e;cases h;exact⟨yo,λx I=>s3 _ I⟩;obtain⟨Y,V⟩:=afC h;exact⟨s3 _ Y,λx I=>s3 _ (V x I)⟩
def asd(BT:Uu G P hc qX){dz:t_}(jc:Fa G P dz):Fa G P (Dn hc qX cg dz):=by
 intro cK x args J k r fK h;have fn:∀f fs Z,x=.fn (.func f) fs Z->iE G P f (fs++args++Z) J (λv bl=>k (.val v) (R (bl.map b8))=a_ r/\gh J bl) λch bl=>k (.gM ch) (R (bl.map b8))=a_ r/\gh J bl:=by
  intro f fs Z I;subst I;simp only[Dn] at h;rw[FO λ_ _=>rfl] at h;split at h;rename_i Wv;split at h;rename_i bs L8;split at h;rename_i v hv;rw[Av] at h;exact EZ (hU (BT _ _ _ Wv hv) (V7 L8) ⟨h,sX J⟩);cases h;cases h;rename_i qe pu Wv;have qk:=hT _ _ _ Wv;split at h;exact VZ hm hT jc qk fK h;split at h;rename_i v hv;rw[Av] at h;have gz:cq G P f (fs++args++Z) J λr bl=>(bl.map b8).take J.length=J.map b8/\gh J bl/\∃n,di (ou J.length bl) n r=a_ v:=by
   have:=VZ hm hT jc qk fK hv;refine iE.ok ⟨this.1,λbase w0 C M w c_ hs D=>(this.2 base w0 C M w c_ hs D).mono λe w' ⟨bI,M',bl,Y,V,h3⟩=>⟨bI,M',bl,Y,V,?_⟩⟩
   rcases h3 with⟨v',u',q,rest⟩|⟨ch,q,rest⟩
   refine bE ⟨v',u',?_,rest⟩;obtain⟨q1,bt⟩:=q;simp only[aeu] at q1;split at q1;rename_i Xx;refine⟨aEM Xx,bt,64,?_⟩;have rn:(R (J.map b8)).n=J.length:=cM _;rw[rn,Hq,aB4] at q1;exact IC q1;cases q1;exact(by cases q.1)
  refine EZ (ck (cq.close gz) ?_);rintro r' bl ⟨rfl,q1,bt⟩;exact⟨by rw[q1];exact h,bt⟩;cases h;split at h;rename_i bs L8;split at h;rename_i v hv;rw[Av] at h;have gz:cq G P f bs [] λv' bl=>∃n,di bl n v'=a_ v:=by
   have:=VZ hm hT jc qk (J:=[]) (Yo (J:=[])) hv;refine iE.ok ⟨this.1,λbase w0 C M w c_ hs D=>(this.2 base w0 C M w c_ hs D).mono λe w' ⟨bI,M',bl,Y,V,h3⟩=>⟨bI,M',bl,Y,V,?_⟩⟩
   rcases h3 with⟨v',u',q,rest⟩|⟨ch,q,rest⟩
   exact bE ⟨v',u',⟨64,IC (by have:=q.1;simp only[G0,Hq] at this;exact this)⟩,rest⟩;exact(by cases q.1)
  exact EZ (hU (e3 gz) (V7 L8) ⟨h,sX J⟩);cases h;cases h
 refine⟨λI4=>?_,fn⟩;cases x with
 |fn f fs Z=>
  cases f with
  |func f=>
   rw[Il];have:=fn f fs Z rfl;refine iE.ok ⟨this.1,λbase w0 C M w c_ hs D=>(this.2 base w0 C M w c_ hs D).mono λe w' ⟨bI,M',bl,Y,V,h3⟩=>⟨bI,M',bl,Y,V,?_⟩⟩
   rcases h3 with q|⟨ch,q,rest⟩
   exact bE q;rw[I4] at q;exact(by cases q.1)
  |method nm=>
   cases fs with
   |cons a b=>simp only[Dn] at h;cases h
   |nil=>
    simp only[Dn] at h;split at h;rename_i t x rest;split at h;rename_i l pu avz;split at h;rename_i g hg;have Y:=hT _ _ _ avz _ (VW hg);have V:=(jc _ _ _ _ _ _ fK h).1 I4;rw[Il,gN,gd] at V;exact⟨t,x,rest,g,rfl,Y,V⟩;cases h;cases h;cases h
  |_=>simp only[Dn] at h;cases h
 |jj k0=>
  simp only[Dn] at h;split at h;rename_i rc EW WX;obtain⟨I0,axi⟩:=afC WX;obtain⟨bO,ok,st,pd,jO,hR⟩:=fK k0 rc I0;have ahZ:r5 G P EW J:=λj SF hj=>fK j SF (axi _ hj);split at h;rename_i c6;rw[Cj,gO] at h;obtain⟨blk,MI,h⟩:=h;split at h;rename_i amC a0 b0 c0;obtain⟨lg,K8,ps',Nz,eI,jA⟩:=aff MI;rw[jO] at eI;cases eI;refine hR args J _ c6 ⟨pd,jO⟩ ?_;refine sS (FF jc ahZ h) λx e1 eI ⟨q1,bt⟩=>?_;cases x with
  |normal=>
   dsimp only at q1;rw[Cj,gO] at q1;obtain⟨aHQ,ahG,q1⟩:=q1;split at q1;rename_i amD a1 b1 c1;obtain⟨zx,eZ,B2⟩:=bt _ _ _ _ _ _ jO;obtain⟨Cp,aHI,aJs,aJl,xD,_⟩:=aff ahG;rw[B2] at xD;cases xD;rw[Kh,ahG] at q1;simp only[lz] at q1;refine⟨⟨eZ,B2⟩,λamE=>?_⟩;have Gn:(eI.map b8).set k0 (A3 .busy bn)=(eI.set k0 (.bW .busy amE bO rc.ps.toArray ok)).map b8:=LD.symm;rw[Gn] at q1;have gR:gh J (eI.set k0 (.bW .busy amE bO rc.ps.toArray ok)):=bt.trans (Ya B2);refine sS (FF jc (ahZ.keeps gR) q1) λx e2 jA ⟨u1,u2⟩=>?_;obtain⟨Tb,Sv,MK⟩:=(gR.trans u2) _ _ _ _ _ _ jO;have he:(jA.map b8)[k0]?=a_ (b8 (.bW Tb Sv bO rc.ps.toArray ok)):=by rw[fR,MK];rfl
   simp only[ani,Cj,he,b8,lz] at u1;have hk2:∀st pd,gh J (jA.set k0 (.bW st pd bO rc.ps.toArray ok)):=λst pd=>(gR.trans u2).trans (Ya MK);cases x with
   |normal=>
    dsimp only at u1;rw[Kh,he] at u1;simp only[lz] at u1;refine⟨⟨Tb,Sv,MK⟩,?_,hk2 _ _⟩;rw[LD];exact u1
   |ret=>
    dsimp only at u1;rw[Kh,he] at u1;simp only[lz] at u1;refine⟨⟨Tb,Sv,MK⟩,?_,hk2 _ _⟩;rw[LD];exact u1
   |exit id=>
    dsimp only at u1;rw[Kh,he] at u1;simp only[lz] at u1;refine⟨⟨Tb,Sv,MK⟩,?_,hk2 _ _⟩;rw[LD];exact u1
   |_=>cases u1
   cases q1
  |_=>cases q1
  cases h;cases h;cases h
 |_=>simp only[Dn] at h;cases h
def afl(BT:Uu G P hc qX):∀d,Fa G P (LF hc qX cg d)
 |0=>λcK x args J k r fK h=>aE
 |d+1=>asd hm hT BT (afl BT d)
inductive qG where
 |nil
 |node (l:qG) (k:FuncId) (qe:kL) (m:Nat) (r:qG)
noncomputable def qG.get(t:qG)(f:FuncId):Option (kL×Nat):=@qG.rec (λ_=>Option (kL×Nat)) bn
 (λ_ k qe m _ il aye=>@EY (λ_=>Option (kL×Nat)) (@EY (λ_=>Option (kL×Nat)) aye (a_ (qe,m)) (eR f k)) il (rZ f k)) t
def qG.dA(P:Program):qG->Prop
 |.nil=>True
 |.node l k qe _ r=>l.dA P/\KH P k qe/\r.dA P
omit hm hT in
def qG.LP{m:Nat}:∀{t:qG},t.dA P->t.get f=a_ (qe,m)->KH P f qe
 |.nil,_,h=>aE
 |.node l k afw m' r,ho,h=>by
  obtain⟨Y,V,h3⟩:=ho;have hg:qG.get (.node l k afw m' r) f=@EY (λ_=>Option (kL×Nat)) (@EY (λ_=>Option (kL×Nat)) (r.get f) (a_ (afw,m')) (eR f k)) (l.get f) (rZ f k):=rfl;rw[hg] at h;cases O:rZ f k with
  |true=>rw[O] at h;exact qG.LP Y h
  |false=>
   rw[O] at h;cases hq:eR f k with
   |true=>
    rw[hq] at h;cases h;rw[s4 hq];exact V
   |false=>rw[hq] at h;exact qG.LP h3 h
def afk(BT:Uu G P hc qX){d:Nat}(h:LF hc qX cg d [] (.fn (.func f) [] []) args (R []) G0=a_ r):cY G P f args r:=by
 refine e3 ?_;have:=(afl hm hT BT d [] (.fn (.func f) [] []) args [] G0 r Yo h).1 λ_ _=>rfl;rw[Il,gN,gd] at this;exact ck this λr bl k=>⟨64,IC (by have:=k.1;simp only[G0,Hq] at this;exact this)⟩
end
end
section
variable{w:World}{b o:Nat}{v x y:Value}{C:Cells}{M:List Loc}{J:List br}
section
variable{G:Cells}{P:Program}{f:FuncId}
def KI(G:Cells)(w:World):Prop:=∀b o v,G b o=a_ v->w.cell? ⟨b,o,bn⟩=a_ v
def ad_(h:w.cell? ⟨b,o,bn⟩=a_ v):b<w.heap.size:=by
 rcases en b w.heap.size with q|q
 exact q;exfalso;unfold HE at h;dsimp only at h;have:w.heap[b]?=bn:=by simp[q]
 rw[this] at h;simp at h
def BC(w:World)(C:Cells)(w':World):Cells:=λb o=>if b<w.heap.size then C b o else w'.cell? ⟨b,o,bn⟩
def acL{w'}(h:w.heap.size<=b):BC w C w' b o=w'.cell? ⟨b,o,bn⟩:=by
 unfold BC;rw[if_neg aa]
def Ez{args}{r:bg}(he:Enters P f)(h:∀(C) (w) c_,KI G w/\Fl w->(∀b o v,C b o=a_ v->w.cell? ⟨b,o,bn⟩=a_ v)->dB C [] [] args c_->Calls P f c_.toArray w λe w'=>∃v',e=.returned v'/\Below w.heap.size w w'/\bP (BC w C w') [] [] r v'):cY G P f args r:=
 ⟨he,λC w c_ hg T D=>(h C w c_ ⟨λb o v q=>T b o v (hg.1 b o v q),hg.2⟩ T D).mono λe w' ⟨v',e1,O,iL⟩=>by
  refine⟨BC w C w',v',e1,λb o v q=>?_,λb o v q=>?_,λb o v q=>?_,O,iL,trivial⟩;unfold BC;rw[if_pos (ad_ (T b o v q))];exact q;unfold BC at q;split at q;exact bE q;rename_i hn;exact bF aa;unfold BC at q;split at q;rename_i hn;rw[O.cell hn];exact T b o v q;exact q⟩
def G5:∀{xs l},dB C M J (xs.map .v) l->l=xs
 |[],[],_=>rfl
 |[],_::_,h=>by have:=h.1;simp at this
 |_::_,[],h=>by have:=h.1;simp at this
 |x::xs,y::l,h=>by
  have e:y=x:=by cases(h.2 0 _ _ rfl rfl);rfl
  have:=G5 ⟨aLt,λi a b ha O=>h.2 (i+1) a b aKq aH⟩;rw[e,this]
def amI{xs:List Value}(he:Enters P f)(hv:plain v=bh)(h:∀w,KI G w->Calls P f xs.toArray w λe w'=>e=.returned v/\Below w.heap.size w w'):cY G P f (xs.map .v) (.v v):=
 Ez he λC w c_ hg T D=>by
  rw[G5 D];exact(h w hg.1).mono λe w' ⟨Y,V⟩=>⟨v,Y,V,.v hv⟩
def amJ(he:Enters P f)(hv:plain v=bh)(h:∀w,KI G w->Calls P f #[x] w λe w'=>e=.returned v/\Below w.heap.size w w'):cY G P f [.v x] (.v v):=amI he hv h
def ZF(he:Enters P f)(hv:plain v=bh)(h:∀w,KI G w->Calls P f #[x,y] w λe w'=>e=.returned v/\Below w.heap.size w w'):cY G P f [.v x,.v y] (.v v):=amI he hv h
def aD5{vs:List Value}(hC:∀(i) v,vs[i]?=a_ v->C b i=a_ v)(bl:∀v∈vs,plain v=bh):bP C M J (.sl (vs.map .v) .no) (.slice (a_ ⟨b,0,bn⟩) vs.length vs.length):=by
 have:=bP.sl (M:=M) (J:=J) (xs:=vs.map .v) (t:=.no) (a:=⟨b,0,bn⟩) (cap:=vs.length) (λi j=>(vs[i]?).getD undef) (λ_=>rfl)
  (λi x I=>by
    rw[fR,dx] at I;obtain⟨v,_,rfl⟩:=I;rfl)
  (λi x j c I T=>by
    rw[fR,dx] at I;obtain⟨v,hv,rfl⟩:=I;cases j with
    |zero=>
     simp only[jK,nA,n6] at T;rw[hv];simpa using hC i v hv
    |succ j=>simp[jK] at T)
  (λi x j c I T=>by
    rw[fR,dx] at I;obtain⟨v,hv,rfl⟩:=I;cases j with
    |zero=>
     simp only[jK,nA,n6] at T;subst T;rw[hv];exact .v (bl v (cG hv))
    |succ j=>simp[jK] at T) trivial af
 rwa [cM] at this
def am2{a b:bg}(Y:bP C M J a x)(V:bP C M J b y):bP C M J (.bQ [a,b]) (.tuple #[x,y]):=.bQ rfl λi u v hu hv=>by
 match i with
 |0=>simp at hu hv;subst hu;subst hv;exact Y
 |1=>simp at hu hv;subst hu;subst hv;exact V
 |i+2=>simp at hu
def arT{B}{k}{os}(h:B<=w.heap.size):Below B w (Go.Sort.grow (w.drewN k) os):=by
 refine⟨rfl,rfl,rfl,?_,λi Q=>?_⟩;simp;rw[Go.Sort.heap_grow_old _ _ ah];rfl
end
end
def an1{α:Type}(f:α->bg):Option (List α)->bg
 |none=>.bp
 |some l=>.sl (l.map f) .no
def aFg{α}(f:α->bg)(o):cC (an1 f o) ((o.getD []).map f):=by
 cases o with
 |none=>exact bF ⟨rfl,rfl⟩
 |some l=>exact bE rfl
structure cV where
 kind:Int
 type:Int
 attr:Int
 rune:Int
 marks:List Int
def bq(n:Int):bg:=.v (.int .i64 n)
def eJ(n:Int):bg:=.v (.int .i32 n)
def d_(n:Int):bg:=.v (.int .u16 n)
def cV.cells(t:cV):List bg:=bq t.kind::bq t.type::bq t.attr::eJ t.rune::t.marks.map d_
def cV.bA(t:cV):bg:=.agg t.cells
def C1(n:Int):Prop:= -9223372036854775808<=n/\n<=9223372036854775807
def HM(n:Int):Prop:= -2147483648<=n/\n<=2147483647
structure cV.dA(t:cV):Prop where
 S:C1 t.kind
 ht:C1 t.type
 ha:C1 t.attr
 D:HM t.rune
 len:t.marks.length=8
 hm:∀x∈t.marks,0<=x/\x<65536
def Dp{W}{c}{L}{Z}(h:pg W (c::L) Z):∃v r,Z=v::r/\wU W c v/\pg W L r:=by
 cases Z with
 |nil=>have:=h.1;simp at this
 |cons v r=>exact⟨v,r,rfl,h.2 0 c v rfl rfl,aKX,λi a b ha O=>h.2 (i+1) a b ha O⟩
def PI{W}{Z}(h:pg W [] Z):Z=[]:=nZ h.1.symm
def Im{W}{k}{v}(h:wU W (.i k) v):∃n,v=.int k n/\(Lit.int k n).wf=bh:=by
 cases h with
 |i h=>exact⟨_,rfl,h⟩
def aa2{n}(h:(Lit.int .i64 n).wf=bh):(-9223372036854775808<=n/\n<=9223372036854775807):=by
 simp[Lit.wf,apJ,apI,Kt,Ks] at h;exact⟨aa,aa⟩
def aGY{n}(h:(Lit.int .i32 n).wf=bh):(-2147483648<=n/\n<=2147483647):=by
 simp[Lit.wf,apJ,apI,Kt,Ks] at h;exact⟨aa,aa⟩
def aGX{n}(h:(Lit.int .u16 n).wf=bh):0<=n/\n<65536:=by
 simp[Lit.wf,apJ,apI,Kt,Ks] at h;omega
def Bc{C}{M}{J}{a:bg}{v}{dI}{vs}(h:bP C M J a v)(hs:dB C M J dI vs):dB C M J (a::dI) (v::vs):=
 ⟨by simp[hs.1],λi x y I hy=>by
  cases i with
  |zero=>simp at I hy;subst I;subst hy;exact h
  |succ i=>simp at I hy;exact hs.2 i x y I hy⟩
def am4{C}{M}{J}:dB C M J [] []:=⟨rfl,λi x y I=>aF⟩
def ED{C}{M}{J}(k)(n):bP C M J (.v (.int k n)) (.int k n):=.v rfl
def aid{W}:∀(n) {Z},pg W (fo n (.i .u16)) Z->∃m:List Int,m.length=n/\(∀x∈m,0<=x/\x<65536)/\dB (wS W) [] [] (m.map λn=>cI (.int .u16 n)) Z
 |0,Z,h=>by
  rw[PI h];exact⟨[],rfl,λx I=>aF,am4⟩
 |n+1,Z,h=>by
  obtain⟨v,r,rfl,Y,V⟩:=Dp h;obtain⟨k,rfl,S⟩:=Im Y;obtain⟨m,e,hm,D⟩:=aid n V;refine⟨k::m,by simp[e],λx I=>?_,Bc (ED _ _) D⟩
  rcases fS.1 I with rfl|I
  exact aGX S;exact hm x I
def aC0{W}{e}{α}{f}{Pd:α->Prop}(hE:∀Z,pg W e Z->∃a,Pd a/\dB (wS W) [] [] (f a).cells Z)(hn:0<e.length){v}(h:wU W (.sl e) v):
  ∃o:Option (List α),(∀x∈o.getD [],Pd x)/\bP (wS W) [] [] (an1 f o) v:=by
 cases h with
 |nil=>exact⟨bn,λx I=>aF,.bp⟩
 |sl g hl T gJ hC hR=>
  rename_i a len cap;have each:∀i:Fin len,∃a,Pd a/\dB (wS W) [] [] (f a).cells ((kY e.length).map (g i.val)):=λi=>hE _ ⟨af,λj c v T hv=>by
   have hj:=(cL.1 T).1;simp only[fR,aHy hj,j4,n6] at hv;subst hv;exact hR i.val j c i.isLt T⟩
  have hg:∀(i) x,(List.ofFn λi=>(each i).choose)[i]?=a_ x->∃Q:i<len,Pd x/\dB (wS W) [] [] (f x).cells ((kY e.length).map (g i)):=λi x I=>by
   have Q:i<len:=by have:=(cL.1 I).1;simpa using this
   rw[List.getElem?_ofFn] at I;simp only[Q,dif_pos,n6] at I;subst I;exact⟨Q,(each ⟨i,Q⟩).choose_spec⟩
  generalize hl':(List.ofFn λi=>(each i).choose)=l at hg;have c6:l.length=len:=by rw[<-hl'];simp
  refine⟨a_ l,λx I=>?_,?_⟩;obtain⟨i,Q,rfl⟩:=HH I;obtain⟨_,Y,_⟩:=hg i _ (cz Q);exact Y;have ahh:(l.map f).length=len:=by simp[c6]
  have key:∀(i) (y:bg),(l.map f)[i]?=a_ y->∃Q:i<len,dB (wS W) [] [] y.cells ((kY e.length).map (g i)):=λi y hy=>by
   simp only[fR,dx] at hy;obtain⟨x,I,rfl⟩:=hy;obtain⟨Q,_,V⟩:=hg i x I;exact⟨Q,V⟩
  show bP (wS W) [] [] (.sl (l.map f) .no) (.slice (a_ a) len cap);rw[<-ahh];refine .sl (sz:=e.length) g (λbR=>(gJ (by rw[<-ahh];exact HI.2 bR) hn)) (λi x I=>?_) (λi x j c I hj=>?_) (λi x j c I hj=>?_) trivial aa;obtain⟨_,V⟩:=key i x I;rw[V.1];simp;obtain⟨Q,V⟩:=key i x I;have vN:j<e.length:=aKy
  exact hC i j _ Q (cz vN);obtain⟨Q,V⟩:=key i x I;have vN:j<e.length:=aKy
  exact V.2 j c _ hj (by simp[aHy vN])
def aEX:List wR:=fo 8 (.i .u16)
def aoY:List wR:=.i .i64:: .i .i64:: .i .i64:: .i .i32::aEX
def aGq{W}(Z)(h:pg W aoY Z):∃t:cV,t.dA/\dB (wS W) [] [] t.bA.cells Z:=by
 obtain⟨_,_,rfl,h0,g1⟩:=Dp h;obtain⟨_,_,rfl,Y,g2⟩:=Dp g1;obtain⟨_,_,rfl,V,g3⟩:=Dp g2;obtain⟨_,_,rfl,h3,g4⟩:=Dp g3;obtain⟨a,rfl,wa⟩:=Im h0;obtain⟨b,rfl,wb⟩:=Im Y;obtain⟨c,rfl,wc⟩:=Im V;obtain⟨d,rfl,wd⟩:=Im h3;obtain⟨m,pP,DY,D⟩:=aid 8 g4;exact⟨⟨a,b,c,d,m⟩,⟨aa2 wa,aa2 wb,aa2 wc,aGY wd,pP,DY⟩,Bc (ED _ _) (Bc (ED _ _) (Bc (ED _ _) (Bc (ED _ _) D)))⟩
def aDZ{P:Program}{ts:List TypeId}(h:(ts.all λt=>P.readableRec t&&decide (t<P.types.size))=bh):∀t∈ts,P.readableRec t=bh/\t<P.types.size:=λt ht=>by
 have:=eP.1 h t ht;simpa using this
set_option maxRecDepth 100000 in
def ase{P}{W}{base}{t e'}{e}{v}(ht:P.underlying t=a_ (.slice e'))(hv:HD P W .any base t v)(h:pg W [.sl e] v.cells.toList):wU W (.sl e) v:=by
 obtain⟨w,r,e1,Y,V⟩:=Dp h;rw[PI V] at e1;have:v=w:=by
  cases v
  case agg Z=>simp[HD,ht,Cell.okWide,Cell.ok] at hv
  all_goals
   simp[zO] at e1;exact e1
 rw[this];exact Y
open Go.WideShapes
section
variable{H:Type}{enc:TypeId×Value->H}{P:Program}{W:World}{b:Nat}{sp:Nat->Bool}{Md:Bool}
def aic{t e}{n om}{k}{Z}{ds:List Int}{p}(ht:P.underlying t=a_ (.array n e))(he:P.underlying e=a_ (.int k))(T:P.cellsOf e=1)
  (h:TM enc P W b sp Md om t Z=a_ (.agg (ds.map λi=>.lit (.int k i)),p)) (j:Nat) (i) (hj:ds[j]?=a_ i):Z[j]?=a_ (.int k i):=by
 obtain⟨xs,m,_,ex,c6,hl,tB⟩:=DataW.trod_array ht h;have e1:=DataW.agg.inj (Prod.mk.inj ex).1;have I:=congrArg (λl=>l[j]?) e1;simp only[fR,hj,j4] at I;have ahd:j<xs.length:=by
  have Y:=congrArg Ky e1;simp only[cM] at Y;have:=(cL.1 hj).1;omega
 have Y:=tB j aa;rw[cz ahd,T] at Y;rw[cz ahd,j4] at I;obtain⟨z,a1,a2,_⟩:=DataW.trod_int he Y;rw[a2] at I;simp only[n6,DataW.lit.injEq,Lit.int.injEq,true_and] at I;subst I;have V:=congrArg (λl=>l[0]?) a1;simpa using V
def iface_of_trod{t}{ms}{om}{Z}{name}{d}{p}(ht:P.underlying t=a_ (.interface ms))
  (h:TM enc P W b sp bf om t Z=a_ (.iface name d,p)):∃u v,Z=[.iface u v]:=by
 cases om with
 |zero=>cases h
 |succ om=>
  unfold TM at h;rw[ht] at h
  split at h<;>first|(cases h;done)|(rename_i q;cases q;done)|skip
  all_goals first|exact⟨_,_,rfl⟩|skip
  all_goals simp_all
end
open Go.Lib
def tF(n:Nat):List UInt8->Nat->Int
 |[],_=> -1
 |b::r,i=>match eR b.toNat n with
  |true=>.ofNat i
  |false=>tF n r (i+1)
def PB(b c:UInt8):eR b.toNat c.toNat=(b==c):=by
 rw[Hw,wI,beq_iff_eq];exact⟨λh=>UInt8.toNat_inj.1 h,λh=>by rw[h]⟩
def ah3(c):∀(l) (i),tF c.toNat l i=if indexByte l c= -1 then -1 else i+indexByte l c
 |[],i=>by simp[tF,indexByte]
 |b::r,i=>by
  have hge:=indexByte_ge r c;by_cases h:b=c;subst h;simp[tF,indexByte];have O:(b==c)=bf:=aZ
  rw[tF,PB,O];simp only[indexByte,O,ke,if_false,beq_iff_eq];rw[ah3 c r (i+1)];by_cases V:indexByte r c= -1;simp[V];rw[if_neg V,if_neg V,if_neg aa];omega
def XK(c)(l):tF c.toNat l 0=indexByte l c:=by
 rw[ah3];split;rename_i h;rw[h];simp
def jr(n:Nat):List UInt8->List (List UInt8)
 |[]=>[[]]
 |b::r=>match eR b.toNat n with
  |true=>[]::jr n r
  |false=>match jr n r with
   |[]=>[[b]]
   |h::t=>(b::h)::t
def aFu(n)(l):∃h t,jr n l=h::t:=by
 cases l with
 |nil=>exact⟨_,_,rfl⟩
 |cons b r=>
  simp only[jr];split;exact⟨_,_,rfl⟩;split<;>exact⟨_,_,rfl⟩
def S8(c):∀(l),indexByte l c= -1->jr c.toNat l=[l]/\l.count c=0
 |[],_=>⟨rfl,rfl⟩
 |b::r,h=>by
  simp only[indexByte] at h;have hge:=indexByte_ge r c;cases O:b==c with
  |true=>rw[O] at h;simp at h
  |false=>
   rw[O] at h;simp only[ke,if_false,beq_iff_eq] at h;have V:indexByte r c= -1:=by
    split at h
    assumption
    omega
   obtain⟨q1,bt⟩:=S8 c r V;refine⟨?_,?_⟩;simp only[jr,PB,O,q1];rw[apY,bt,O];simp
def S7(c):∀(l) (i:Nat),indexByte l c=i->jr c.toNat l=l.take i::jr c.toNat (l.drop (i+1))/\l.count c=(l.drop (i+1)).count c+1
 |[],i,h=>by simp only[indexByte] at h;omega
 |b::r,i,h=>by
  simp only[indexByte] at h;have hge:=indexByte_ge r c;cases O:b==c with
  |true=>
   rw[O] at h;simp at h;have Q:i=0:=aa
   subst Q;refine⟨?_,?_⟩;simp only[jr,PB,O];try simp;simp only[gk,Bu,o9];rw[apY,O];simp
  |false=>
   rw[O] at h;simp only[ke,if_false,beq_iff_eq] at h;split at h;omega;cases i with
   |zero=>omega
   |succ i=>
    obtain⟨q1,bt⟩:=S7 c r i aa;refine⟨?_,?_⟩;simp only[jr,PB,O,q1];simp;rw[apY,bt,O];simp
def aau(c):∀(k) (l),k=l.count c->splitK [c] 0 k l=jr c.toNat l
 |0,l,h=>by
  have Y:indexByte l c= -1:=by
   rcases Int.lt_or_le (indexByte l c) 0 with q|q
   have:=indexByte_ge l c;omega;obtain⟨i,Q⟩:=o8 q;have:=(S7 c l i Q).2;omega
  rw[(S8 c l Y).1];rfl
 |k+1,l,h=>by
  unfold splitK;rw[index_one]
  rcases Int.lt_or_le (indexByte l c) 0 with q|q
  have:=(S8 c l (by have:=indexByte_ge l c;omega)).2;omega;obtain⟨i,Q⟩:=o8 q;obtain⟨q1,bt⟩:=S7 c l i Q;rw[if_neg ah,Q,q1];have e:(i:Int).toNat=i:=rfl;rw[e,vc];congr 1;exact aau c k _ ah
def lG:Nat->Nat->List UInt8
 |0,u=>[vf (48+u % 10)]
 |f+1,u=>match rZ u 10 with
  |true=>[vf (48+u)]
  |false=>lG f (u/10)++[vf (48+u % 10)]
def aeZ:∀(f u),u<10^(f+1)->lG f u=decDigits u
 |0,u,h=>by
  have:u<10:=aZ
  rw[decDigits,dif_pos this,lG,Nat.mod_eq_of_lt this]
 |f+1,u,h=>by
  rw[lG,decDigits];cases O:rZ u 10 with
  |true=>
   have:u<10:=qB O;rw[dif_pos this]
  |false=>
   have:¬u<10:=λq=>by rw[show rZ u 10=bh from Nat.ble_eq_true_of_le q] at O;cases O
   rw[dif_neg this,aeZ f (u/10) (by rw[Nat.pow_succ] at h;omega)]
section
variable{f:FuncId}{args:List bg}{hi:bg->Prop}
def dM(G:Cells)(P:Program)(f:FuncId)(args:List bg)(hi:bg->Prop):Prop:=
 Enters P f/\∀(C:Cells) (w:World) (c_:List Value),Ui G C w->(∀b o v,C b o=a_ v->w.cell? ⟨b,o,bn⟩=a_ v)->dB C [] [] args c_->
  Calls P f c_.toArray w λe w'=>∃r,hi r/\∃bI v',e=.returned v'/\(∀b o v,C b o=a_ v->bI b o=a_ v)/\(∀b o v,bI b o=a_ v->C b o=a_ v\/w.heap.size<=b)/\
   (∀b o v,bI b o=a_ v->w'.cell? ⟨b,o,bn⟩=a_ v)/\Below w.heap.size w w'/\bP bI [] [] r v'
section
variable{G:Cells}{P:Program}
def dM.mono{Q':bg->Prop}(h:dM G P f args hi)(hq:∀r,hi r->Q' r):dM G P f args Q':=
 ⟨h.1,λC w c_ hg T D=>(h.2 C w c_ hg T D).mono λe w' ⟨r,q,rest⟩=>⟨r,hq r q,rest⟩⟩
def cY.q{f:FuncId}{args:List bg}{bV:bg}{hi:bg->Prop}(h:cY G P f args bV)(hq:hi bV):dM G P f args hi:=
 ⟨h.1,λC w c_ hg T D=>(h.2 C w c_ hg T D).mono λe w' ⟨bI,v',a,b,c,d,e1,g,_⟩=>⟨bV,hq,bI,v',a,b,c,d,e1,g⟩⟩
def cq.aDt{w9:List bg}{J:List br}{K:bg->List br->Prop}(h:dM G P f args hi)(Q:n9 w9 args)(S:∀r,hi r->K r J):cq G P f w9 J K:=
 ⟨h.1,λbase w0 C M w c_ hs D=>(h.2 C w c_ ⟨hs.ry,hs.tab⟩ hs.nL (Q.rep D)).mono λe w' ⟨r,q,bI,v',he,Y,V,h3,O,iL⟩=>by
  obtain⟨bK,dU⟩:=aaf hs Y V h3 O;exact⟨bI,M,J,r,v',S r q,he,bK,dU,iL.mono M8⟩⟩
def ek(h:cq G P f args [] λr bl=>∃n bV,di bl n r=a_ bV/\hi bV):dM G P f args hi:=
 ⟨h.1,λC w c_ hg T D=>(h.2 w.heap.size ⟨w,C⟩ C [] w c_ (anV hg T) D).mono λe w' ⟨bI,M',bl,r,v',⟨n,bV,AM,hq⟩,he,bK,dU,iL⟩=>by
  refine⟨bV,hq,λb o=>match bI b o with
   |some v=>a_ v
   |none=>if w.heap.size<=b then w'.cell? ⟨b,o,bn⟩ else bn,v',he,λb o v q=>?_,λb o v q=>?_,λb o v q=>?_,dU.below,?_⟩
  simp only[bK.C b o v q];dsimp only at q;split at q;rename_i u hu;cases q
  rcases en b w.heap.size with O|O
  exact bE (dU.old b o v hu O);exact bF O;split at q;rename_i O;exact bF O;cases q;dsimp only at q;split at q;rename_i u hu;cases q;exact dU.nL b o v hu;split at q;exact q;cases q;refine QA (J:=bl) (D4:=bl) (λb o v q=>by simp only[q]) (λk Z row L S hM i c T=>?_) (λ_ _ _ q=>q) AM iL;obtain⟨Y,V,h3,h4,h5,h6⟩:=dU.cells k Z row L S hM;obtain⟨c',q1,bt⟩:=h3 i c T;refine⟨c',?_,bt⟩;simp only[h5 i];rw[if_pos Y];exact q1⟩
def dM.of(h:∃r,hi r/\cY G P f args r):dM G P f args hi:=by
 obtain⟨r,q,h⟩:=h;exact h.q q
end
end
def YG:dH->Nat
 |.t n=>1<<<n
 |.c _=>0
def YH:List dH->Nat
 |[]=>0
 |x::r=>(YG x).lor (YH r)
def als:List Nat->Nat
 |[]=>0
 |n::r=>OQ (1<<<n) (als r)
def alr(s d:Nat):Nat:=Nat.xor s (Nat.land s (1<<<d))
def aBO(s t:Nat):Nat:=Nat.xor s (Nat.land s t)
def Nf:List dN->Nat->Nat
 |[],s=>s
 |o::r,s=>OQ (OQ (match o.dst with
  |some d=>alr (Nf r s) d
  |none=>Nf r s) (YH (B5 o.ins))) (match o.guard with
  |some g=>1<<<g.1
  |none=>0)
def YF(s:Nat):Nat->Nat->List Nat
 |0,_=>[]
 |k+1,i=>if eR (s>>>i) 0 then [] else if eR (Nat.land (s>>>i) 1) 1 then i::YF s k (i+1) else YF s k (i+1)
def Er(s:Nat):List Nat:=YF s 1000 0
def YE:List (Nat×Nat)->Nat->Nat
 |[],_=>0
 |(j,s)::r,k=>if eR j k then s else YE r k
def YD:List (Nat×Nat)->Nat
 |[]=>0
 |(_,s)::r=>OQ s (YD r)
@[irreducible] def Tg (l:List Nat):bg:=.v (.string ⟨(l.map vf).toArray⟩)
def hD:dH->dH
 |.c (.v (.string b))=>.c (Tg (b.data.toList.map abV))
 |x=>x
def akt:bg->bg
 |.v (.string b)=>Tg (b.data.toList.map abV)
 |x=>x
def Ei:bg->bg
 |.agg l=>.agg (l.map akt)
 |x=>akt x
def RI:r9->r9
 |.mv x=>.mv (hD x)
 |.pick c a b=>.pick (hD c) (hD a) (hD b)
 |.alloc z=>.alloc (z.map Ei)
 |.box x=>.box (hD x)
 |.build z ps=>.build (z.map Ei) (ps.map λp=>(p.1,p.2.1,hD p.2.2))
 |.Ah n vs=>.Ah n (vs.map hD)
 |.st n p x=>.st n p (hD x)
 |.bin o x y=>.bin o (hD x) (hD y)
 |.dz k x=>.dz k (hD x)
 |.J1 x=>.J1 (hD x)
 |.Ij x=>.Ij (hD x)
 |.x4 x a b=>.x4 (hD x) (a.map hD) (b.map hD)
 |.slc n x a b c=>.slc n x (a.map hD) (b.map hD) (c.map hD)
 |.Dr x i=>.Dr (hD x) (hD i)
 |.rK x=>.rK (hD x)
 |.len x=>.len (hD x)
 |.app n b e s x=>.app n b e s (hD x)
 |.A5 f a b=>.A5 f (a.map hD) (b.map hD)
 |.xd n vs=>.xd n (vs.map hD)
 |.BF n b e s x=>.BF n b e s (hD x)
 |.A6 n b e z l c=>.A6 n b e (z.map Ei) l c
 |.Ch n b e z l c=>.Ch n b e (z.map Ei) l c
 |.Ce t x=>.Ce t (hD x)
 |.Kc t z ok x=>.Kc t (Ei z) ok x
 |.tJ m xs=>.tJ m (xs.map hD)
 |.iter x=>.iter (hD x)
 |.Ep x=>.Ep (hD x)
 |.B_ bN ks z ok m k=>.B_ bN ks (Ei z) ok m (hD k)
 |.xN bN ks m k x=>.xN bN ks m (hD k) (hD x)
 |.A4 bN ks z m k=>.A4 bN ks (Ei z) m (hD k)
 |.z8 t z=>.z8 t (z.map Ei)
 |.Ad b e s x=>.Ad b e s (hD x)
 |x=>x
def aAb:ja->ja
 |.op o=>.op (RI o)
 |.call f l=>.call f (l.map hD)
 |.nS f l=>.nS f (l.map hD)
 |.qa f l=>.qa f (l.map hD)
 |.oe x l=>.oe x (l.map hD)
 |.qb x l=>.qb x (l.map hD)
 |.o3 f l r=>.o3 f (l.map hD) r
 |.gM x=>.gM (hD x)
def RJ(o:dN):dN:=⟨o.dst,o.guard,aAb o.ins⟩
def uq(al:Nat):qF->Nat->List (Nat×Nat)->Nat->eN×Nat
 |.skip,o,_,_=>(.skip (Er (o.lor al)),o.lor al)
 |.lab,o,_,_=>(.lab (Er (o.lor al)),o.lor al)
 |.bad,_,_,_=>(.bad,al)
 |.region l,o,_,_=>(.region (l.map RJ) (Er (o.lor al)),(Nf l (o.lor al)).lor al)
 |.rO ls,o,_,_=>(.rO (ls.map λl=>l.map RJ) (Er (o.lor al)),ls.foldr (λl s=>((Nf l (o.lor al)).lor al).lor s) 0)
 |.qZ l,o,_,_=>(.qZ (l.map λp=>(RJ p.1,p.2.map RJ)) (Er (o.lor al)),(Nf (l.map (·.1)) (o.lor al)).lor al)
 |.seq a b,o,ex,rt=>match uq al b o ex rt with
  |(b,m)=>match uq al a m ex rt with
   |(a,i)=>(.seq a b,i)
 |.cond c a b,o,ex,rt=>match uq al a o ex rt with
  |(a,i)=>match uq al b o ex rt with
   |(b,j)=>(.cond (hD c) a b,(i.lor j).lor (YG c))
 |.block k a,o,ex,rt=>match uq al a o ((k,o.lor al)::ex) rt with
  |(a,i)=>(.block k a,i)
 |.scope a,o,ex,rt=>match uq al a o ex rt with
  |(a,i)=>(.scope a,i)
 |.loop a,o,ex,rt=>KA (motive:=λ_=>Nat->eN×Nat) (λl=>(.bad,l)) (λ_ go l=>match uq al a l ex rt with
  |(x,i)=>if eR (i.lor l) l then(.loop x,l) else go (i.lor l)) 20 al
 |.exit k,_,ex,_=>(.exit k (Er (YE ex k)),(YE ex k).lor al)
 |.ret,_,_,rt=>(.ret (Er (rt.lor al)),rt.lor al)
 |.rM x ps a b,o,ex,rt=>match uq al b 0 (ex.map λp=>(p.1,0)) 0 with
  |(b,bi)=>match uq al a bi (ex.map λp=>(p.1,0)) 0 with
   |(a,aq9)=>(.rM (hD x) ps a b (Er (((o.lor al).lor rt).lor (YD ex))),((((o.lor al).lor rt).lor (YD ex)).lor (YG x)).lor (aBO aq9 (als ps)))
def zo:List je->Nat
 |[]=>0
 |.s t::r=>OQ (1<<<t) (zo r)
 |.c t _ _::r=>OQ (1<<<t) (zo r)
def EM(l:List Nat):Tg l=.v (.string ⟨(l.map vf).toArray⟩):=by rw[Tg]
structure k3(P:Program)(f:FuncId) where
 e:kL
 ok:KH P f e
 hm:P.follows .mixedOrders=bh
def aga(P:Program)(hb:mY)(f:FuncId):Option (Nat×List je×eN):=match sO P hb f with
 |some ⟨n,rs,c⟩=>a_ (n,rs,(uq 0 c (zo rs) [] (zo rs)).1)
 |none=>bn
def k3.c{P:Program}{f:FuncId}(hb:mY){n:Nat}{rs:List je}{c:eN}
 (_h:aga P hb f=a_ (n,rs,c):=by conv=>lhs;reduce;simp only[Int.reduceOfNat,Int.reduceNegSucc,EM,List.map,UInt8.reduceOfNat])
 (hc:sO P hb f=a_ ⟨n,rs,c.b8⟩:=by kernel_rfl) (nF:c.fits n=bh:=by kernel_rfl) (hm:P.follows .mixedOrders=bh:=by kernel_rfl):k3 P f:=⟨.plain n rs c,⟨⟨hb,hc⟩,nF⟩,hm⟩
def k3.m{P:Program}{f:FuncId}(hb:mY){n:Nat}{rs:List je}{c:eN}
 (_h:aga P hb f=a_ (n,rs,c):=by conv=>lhs;reduce;simp only[Int.reduceOfNat,Int.reduceNegSucc,EM,List.map,UInt8.reduceOfNat])
 (hc:sO P hb f=a_ ⟨n,rs,c.b8⟩:=by kernel_rfl) (nF:c.pJ n bh=bh:=by kernel_rfl) (hm:P.follows .mixedOrders=bh:=by kernel_rfl):k3 P f:=⟨.loops n rs c,⟨⟨hb,hc⟩,nF⟩,hm⟩
def aal:List dN->Nat
 |[]=>1000000
 |o::r=>match o.dst with
  |some d=>d
  |none=>aal r
def YO:List Nat->Nat->Bool
 |[],_=>bf
 |a::r,n=>if eR a n then bh else YO r n
def RS(P:Program):Nat->TypeId->List mW
 |0,_=>[]
 |d+1,t=>match P.underlying t with
  |some .bool=>[.b]
  |some (.int _)=>[.i]
  |some .string=>[.s]
  |some (.array n e)=>(fo n (RS P d e)).flatten
  |some (.struct fs)=>(fs.toList.map λf=>RS P d f.type).flatten
  |_=>[]
def YM(P:Program)(t:TypeId):Option (Bool×List mW×bg):=match P.underlying t with
 |some (.map kt et)=>match kA P kt,CD P et with
  |some bN,a_ z=>a_ (bN,RS P 12 kt,z)
  |_,_=>bn
 |_=>bn
def aFm(P:Program)(ops:Array Oper)(o:Oper):Option dN:=match o.op with
 |.binOp op t x y _=>match P.underlying t with
  |some (.struct _)|some (.array _ _)=>match Cz ops o.guard,ew x,ew y with
   |some g,a_ x,a_ y=>a_ ⟨o.dst,g,.op (.Ix (RS P 12 t) (match op with|.eql=>bf|_=>bh) x y)⟩
   |_,_,_=>bn
  |_=>xZ P ops o
 |.lookup t m k ok=>match Cz ops o.guard,ew m,ew k,YM P t with
  |some g,a_ m,a_ k,a_ (bN,ks,z)=>a_ ⟨o.dst,g,.op (.B_ bN ks z ok m k)⟩
  |_,_,_,_=>bn
 |.mapUpdate t m k x|.insert t m k x=>match Cz ops o.guard,ew m,ew k,ew x,YM P t with
  |some g,a_ m,a_ k,a_ x,a_ (bN,ks,_)=>a_ ⟨o.dst,g,.op (.xN bN ks m k x)⟩
  |_,_,_,_,_=>bn
 |.mapEntry t m k=>match Cz ops o.guard,ew m,ew k,YM P t with
  |some g,a_ m,a_ k,a_ (bN,ks,z)=>a_ ⟨o.dst,g,.op (.A4 bN ks z m k)⟩
  |_,_,_,_=>bn
 |_=>xZ P ops o
def an7(P:Program)(ops:Array Oper):List Oper->Option (List dN)
 |[]=>a_ []
 |o::r=>match aFm P ops o,an7 P ops r with
  |some s,a_ l=>a_ (s::l)
  |_,_=>bn
def Bf(P:Program)(pu:mY)(h2 W:List Nat):Code->Option qF
 |.skip=>a_ .skip
 |.region _ ops BL=>match an7 P ops ops.toList with
  |some l=>if YO W (aal l) then a_ (.qZ (nU bh ops.toList (tL pu l))) else if YO h2 (aal l) then a_ (.region (tL pu l)) else a_ (.region (l.map (Bi pu)))
  |none=>bn
 |.seq a b=>match Bf P pu h2 W a,Bf P pu h2 W b with
  |some x,a_ y=>a_ (.seq x y)
  |_,_=>bn
 |.cond c a b=>match ew c,Bf P pu h2 W a,Bf P pu h2 W b with
  |some c,a_ x,a_ y=>a_ (.cond c x y)
  |_,_,_=>bn
 |.block id a=>match Bf P pu h2 W a with
  |some x=>a_ (.block id x)
  |none=>bn
 |.loop a=>match Bf P pu h2 W a with
  |some x=>a_ (.loop x)
  |none=>bn
 |.exit id=>a_ (.exit id)
 |.ret=>a_ .ret
 |.rangeFunc g ps a b=>match ew g,Bf P pu h2 W a,Bf P pu h2 W b with
  |some x,a_ sa,a_ sb=>a_ (.rM x ps.toList sa sb)
  |_,_,_=>bn
 |.scope a=>match Bf P pu h2 W a with
  |some x=>a_ (.scope x)
  |none=>bn
 |.label _=>a_ .lab
 |.goto _=>a_ .bad
 |.refuse _=>a_ .bad
def QC(P:Program)(hb:mY)(h2 W:List Nat)(f:FuncId):Option (Nat×List je×eN):=match P.funcs[f]? with
 |some fn=>match fn.body with
  |some c=>match Bf P hb h2 W c,EG P fn.results.toList with
   |some sc,a_ rs=>a_ (fn.ntmps,rs,(uq 0 sc (zo rs) [] (zo rs)).1)
   |_,_=>bn
  |none=>bn
 |none=>bn
def k3.u{P:Program}{f:FuncId}(hb:mY)(h2 W:List Nat){n:Nat}{rs:List je}{c:eN}
 (_h:QC P hb h2 W f=a_ (n,rs,c):=by conv=>lhs;reduce;simp only[Int.reduceOfNat,Int.reduceNegSucc,EM,List.map,UInt8.reduceOfNat])
 (hc:sO P hb f=a_ ⟨n,rs,c.b8⟩:=by kernel_rfl) (nF:c.fits n=bh:=by kernel_rfl) (hm:P.follows .mixedOrders=bh:=by kernel_rfl):k3 P f:=⟨.plain n rs c,⟨⟨hb,hc⟩,nF⟩,hm⟩
def k3.v{P:Program}{f:FuncId}(hb:mY)(h2 W:List Nat){n:Nat}{rs:List je}{c:eN}
 (_h:QC P hb h2 W f=a_ (n,rs,c):=by conv=>lhs;reduce;simp only[Int.reduceOfNat,Int.reduceNegSucc,EM,List.map,UInt8.reduceOfNat])
 (hc:sO P hb f=a_ ⟨n,rs,c.b8⟩:=by kernel_rfl) (nF:c.pJ n bh=bh:=by kernel_rfl) (hm:P.follows .mixedOrders=bh:=by kernel_rfl):k3 P f:=⟨.loops n rs c,⟨⟨hb,hc⟩,nF⟩,hm⟩
def k3.p{P:Program}{f:FuncId}(hb:mY){n:Nat}{rs:List je}{c:eN}(_h:QC P hb [] [] f=a_ (n,rs,c):=by conv=>lhs;reduce;simp only[Int.reduceOfNat,Int.reduceNegSucc,EM,List.map,UInt8.reduceOfNat])
 (hc:sO P hb f=a_ ⟨n,rs,c.b8⟩:=by kernel_rfl) (nF:c.fits n=bh:=by kernel_rfl) (hm:P.follows .mixedOrders=bh:=by kernel_rfl):k3 P f:=⟨.plain n rs c,⟨⟨hb,hc⟩,nF⟩,hm⟩
def k3.l{P:Program}{f:FuncId}(hb:mY){n:Nat}{rs:List je}{c:eN}(_h:QC P hb [] [] f=a_ (n,rs,c):=by conv=>lhs;reduce;simp only[Int.reduceOfNat,Int.reduceNegSucc,EM,List.map,UInt8.reduceOfNat])
 (hc:sO P hb f=a_ ⟨n,rs,c.b8⟩:=by kernel_rfl) (nF:c.pJ n bh=bh:=by kernel_rfl) (hm:P.follows .mixedOrders=bh:=by kernel_rfl):k3 P f:=⟨.loops n rs c,⟨⟨hb,hc⟩,nF⟩,hm⟩
def k3.x{P:Program}{f:FuncId}(hb:mY)(n:Nat)(rs:List je)(c:eN)
 (hc:sO P hb f=a_ ⟨n,rs,c.b8⟩:=by kernel_rfl) (nF:c.fits n=bh:=by kernel_rfl) (hm:P.follows .mixedOrders=bh:=by kernel_rfl):k3 P f:=⟨.plain n rs c,⟨⟨hb,hc⟩,nF⟩,hm⟩
def aun(P:Program)(hb:mY)(f:FuncId):Option (Nat×List je×eN×Nat×FuncId×List dH×eN):=match J9 P hb f with
 |some ⟨n,rs,a,t,g,caps,b⟩=>match uq (zo rs) b (zo rs) [] (zo rs) with
  |(b,i)=>a_ (n,rs,(uq (zo rs) a ((alr i t).lor (YH caps)) [] (zo rs)).1,t,g,caps,b)
 |none=>bn
def k3.d{P:Program}{f:FuncId}(hb:mY){n:Nat}{rs:List je}{a b:eN}{t:Nat}{g:FuncId}{caps:List dH}
 (_h:aun P hb f=a_ (n,rs,a,t,g,caps,b):=by conv=>lhs;reduce;simp only[Int.reduceOfNat,Int.reduceNegSucc,EM,List.map,UInt8.reduceOfNat])
 (hc:J9 P hb f=a_ ⟨n,rs,a.b8,t,g,caps,b.b8⟩:=by kernel_rfl) (nF:(a.fits n&&b.fits n&&rZ t n)=bh:=by kernel_rfl) (hm:P.follows .mixedOrders=bh:=by kernel_rfl):k3 P f:=⟨.sn n rs a t g caps b,⟨⟨hb,hc⟩,by
 rw[fQ,fQ] at nF;exact⟨nF.1.1,nF.1.2,aqe (qB nF.2)⟩⟩,hm⟩
def auo(P:Program)(hb:mY)(f:FuncId):Option (Nat×Nat×Nat×eN):=match J_ P hb f with
 |some ⟨n,d0,d1,c⟩=>a_ (n,d0,d1,(uq 0 c 0 [] 0).1)
 |none=>bn
def k3.r{P:Program}{f:FuncId}(hb:mY){n d0 d1:Nat}{c:eN}
 (_h:auo P hb f=a_ (n,d0,d1,c):=by conv=>lhs;reduce;simp only[Int.reduceOfNat,Int.reduceNegSucc,EM,List.map,UInt8.reduceOfNat])
 (hc:J_ P hb f=a_ ⟨n,d0,d1,c.b8⟩:=by kernel_rfl) (nF:(c.fits n&&rZ d0 n&&rZ d1 n)=bh:=by kernel_rfl) (hm:P.follows .mixedOrders=bh:=by kernel_rfl):k3 P f:=⟨.G3 n d0 d1 c,⟨⟨hb,hc⟩,by
 rw[fQ,fQ] at nF;exact⟨nF.1.1,aqe (qB nF.1.2),aqe (qB nF.2)⟩⟩,hm⟩
def kL.bc:kL->eN
 |.sn _ _ _ _ _ _ b=>b
 |_=>.bad
def Wf(G:Cells)(P:Program)(args:List bg)(J:List br)(K:bg->List br->Prop)(E:r7)(e0:kL):kL->Prop
 |.plain n rs c=>args.length<=n/\@er G P bf c ⟨@JT rs ⟨K⟩ ⟨E⟩⟩ (pH 0 args) J
 |.loops n rs c=>args.length<=n/\@er G P bf c ⟨@SJ J.length rs ⟨K⟩ ⟨E⟩⟩ (pH 0 args) J
 |.sn n rs a t g caps b=>(∀ch h,¬E ch h)/\args.length<=n/\@er G P bf a ⟨@sQ ⟨λe J=>∃ks:List Nat,nK e caps=a_ (ks.map λk=>.mp k 0)/\@er G P bf e0.bc ⟨@am7 G P g ks rs ⟨K⟩⟩ ((t,.fn (.func g) [] (ks.map λk=>.mp k 0))::e) J⟩ ⟨λ_ _ _=>False⟩⟩ (pH 0 args) J
 |_=>False
section
variable{G:Cells}{P:Program}{f:FuncId}{args:List bg}{J:List br}{K:bg->List br->Prop}{E:r7}
def agn(k:k3 P f)(h:Wf G P args J K E k.e k.e):iE G P f args J K E:=by
 obtain⟨e,ok,hm⟩:=k;cases e with
 |plain n rs c=>exact afP hm ok.1.choose_spec ok.2 h.1 h.2
 |loops n rs c=>exact afQ hm ok.1.choose_spec ok.2 h.1 h.2
 |sn n rs a t g caps b=>exact EZ (afO hm ok.1.choose_spec ok.2.1 ok.2.2.1 ok.2.2.2 h.2.1 h.2.2)
 |_=>exact h.elim
def k3.Ay(k:k3 P f){q:Prop}(h:q)(e:q->Wf G P args J K E k.e k.e:=by
 intro hh
 conv=>whnf
 first|exact⟨Nat.le_of_ble_eq_true rfl,hh⟩|exact⟨λ_ _ z=>z,Nat.le_of_ble_eq_true rfl,hh⟩):iE G P f args J K E:=agn k (e h)
def k3.go(k:k3 P f){q:Prop}(h:q)(e:q->Wf G P args J K (λ_ _=>False) k.e k.e:=by
 intro hh
 conv=>whnf
 first|exact⟨Nat.le_of_ble_eq_true rfl,hh⟩|exact⟨λ_ _ z=>z,Nat.le_of_ble_eq_true rfl,hh⟩):cq G P f args J K:=(agn k (e h)).ok
def aeR(G:Cells)(P:Program)(args:List bg)(J:List br)(x:Option bg)(K:List br->Prop):kL->Prop
 |.G3 n d0 d1 c=>args.length<=n/\@er G P bf c ⟨@ana ⟨K⟩⟩ ((d1,qt x)::(d0,qt x)::pH 0 args) J
 |_=>False
def ata{x:Option bg}{v:Option Value}{K:List br->Prop}(k:k3 P f)(I:match x,v with|none,bn=>True|some x,a_ v=>xT x=bh/\rm x=a_ v|_,_=>False)(h:aeR G P args J x K k.e):kK G P f args J v K:=by
 obtain⟨e,ok,hm⟩:=k;cases e with
 |G3 n d0 d1 c=>exact aeS hm ok.1.choose_spec ok.2.1 ok.2.2 h.1 I h.2
 |_=>exact h.elim
def k3.P8{x:Option bg}{v:Option Value}{K:List br->Prop}(k:k3 P f)(I:match x,v with|none,bn=>True|some x,a_ v=>xT x=bh/\rm x=a_ v|_,_=>False){q:Prop}(h:q)(e:q->aeR G P args J x K k.e:=by
 intro hh
 conv=>whnf
 exact⟨Nat.le_of_ble_eq_true rfl,hh⟩):kK G P f args J v K:=ata k I (e h)
end
def eN.tl:eN->eN
 |.seq _ b=>b
 |c=>c
def kL.c:kL->eN
 |.plain _ _ c|.loops _ _ c=>c
 |_=>.bad
inductive C8(P:Program) where
 |nil
 |node (l:C8 P) (k:FuncId) (c:k3 P k) (m:Nat) (r:C8 P)
def C8.u5{P:Program}:C8 P->qG
 |.nil=>.nil
 |.node l k c m r=>.node l.u5 k c.e m r.u5
def C8.ok{P:Program}:∀t:C8 P,t.u5.dA P
 |.nil=>trivial
 |.node l _ c _ r=>⟨l.ok,c.ok,r.ok⟩
section
variable{x y:bg}{xs ys:List bg}
def b7(J:List br)(x y:bg):Prop:=∃n0,∀n,n0<=n->di J n x=a_ y
def fm(J:List br)(xs ys:List bg):Prop:=∃n0,∀n,n0<=n->j8 (di J n) xs=a_ ys
section
variable{J:List br}
def b7.done(h:b7 J x y):∃n,di J n x=a_ y:=by
 obtain⟨n,h⟩:=h;exact⟨n,h n (cj n)⟩
def b7.atg(h:b7 J x y):∃n bV,di J n x=a_ bV/\bV=y:=by
 obtain⟨n,h⟩:=h.done;exact⟨n,y,h,rfl⟩
def Ax(h:∃n0,∀n,n0<=n->di J (n+1) x=a_ y):b7 J x y:=by
 obtain⟨n0,h⟩:=h;refine⟨n0+1,λn hn=>?_⟩;obtain⟨m,rfl⟩:∃m,n=m+1:=⟨n-1,aa⟩;exact h m aa
def fm.nil:fm J [] []:=⟨0,λn _=>rfl⟩
def fm.cons{x y:bg}{xs ys:List bg}(h:b7 J x y)(k:fm J xs ys):fm J (x::xs) (y::ys):=by
 obtain⟨n0,h⟩:=h;obtain⟨n1,k⟩:=k;exact⟨n0+n1,λn hn=>by simp only[j8,h n aa,k n aa]⟩
def fm.append{xs' aps:List bg}(h:fm J xs ys)(k:fm J xs' aps):fm J (xs++xs') (ys++aps):=by
 induction xs generalizing ys with
 |nil=>
  obtain⟨n0,h⟩:=h;have:=h n0 (cj _);cases this;exact k
 |cons x xs ih=>
  obtain⟨n0,h⟩:=h;have h0:=h n0 (cj _);simp only[j8] at h0;split at h0;rename_i y hy;split at h0
  · rename_i l hl
    cases h0;refine fm.cons ⟨n0,λn hn=>?_⟩ (ih ⟨n0,λn hn=>?_⟩)
    all_goals
     have Y:=h n hn;simp only[j8] at Y;split at Y;rename_i y' MT;split at Y;rename_i l' hl';cases Y
     first|exact MT|exact hl'
     cases Y;cases Y
  cases h0;cases h0
def fm.map{α:Type}{f:α->bg}:∀{l:List α},(∀a∈l,b7 J (f a) (f a))->fm J (l.map f) (l.map f)
 |[],_=>fm.nil
 |a::l,h=>fm.cons (h a af) (fm.map λb O=>h b aKQ)
def fm.each{l:List bg}(h:∀a∈l,b7 J a a):fm J l l:=by
 have:=fm.map (J:=J) (f:=λa=>a) (l:=l) h;simpa using this
def b7.v(x:Value):b7 J (.v x) (.v x):=Ax ⟨0,λn _=>rfl⟩
def b7.bp:b7 J .bp .bp:=Ax ⟨0,λn _=>rfl⟩
def b7.agg{xs ys:List bg}(h:fm J xs ys):b7 J (.agg xs) (.agg ys):=by
 obtain⟨n0,h⟩:=h;exact Ax ⟨n0,λn hn=>by show(j8 (di J n) xs).map dG=_;rw[h n hn];rfl⟩
def b7.bQ(h:fm J xs ys):b7 J (.bQ xs) (.bQ ys):=by
 obtain⟨n0,h⟩:=h;exact Ax ⟨n0,λn hn=>by show(j8 (di J n) xs).map bg.bQ=_;rw[h n hn];rfl⟩
def b7.sl{xs ys:List bg}{t:ob}(h:fm J xs ys):b7 J (.sl xs t) (.sl ys .no):=by
 obtain⟨n0,h⟩:=h;exact Ax ⟨n0,λn hn=>by show(j8 (di J n) xs).map (λys=>bg.sl ys .no)=_;rw[h n hn];rfl⟩
def b7.fp{o:Nat}(h:fm J xs ys):b7 J (.fp xs o) (.fp ys o):=by
 obtain⟨n0,h⟩:=h;exact Ax ⟨n0,λn hn=>by show(j8 (di J n) xs).map (λys=>bg.fp ys o)=_;rw[h n hn];rfl⟩
def b7.eD{t:TypeId}(h:b7 J x y):b7 J (.eD t x) (.eD t y):=by
 obtain⟨n0,h⟩:=h;exact Ax ⟨n0,λn hn=>by show(di J n x).map (bg.eD t)=_;rw[h n hn];rfl⟩
def b7.mp{k o:Nat}{xs ys:List bg}(S:J[k]?=a_ (.cells xs bf))(h:fm J xs ys):b7 J (.mp k o) (.fp ys o):=by
 obtain⟨n0,h⟩:=h;exact Ax ⟨n0,λn hn=>by simp only[di,S,h n hn,j4]⟩
def b7.rs{k m sz o len:Nat}{xs ys:List bg}(S:J[k]?=a_ (.cells xs bh))(hm:m=xs.length)(h:fm J xs ys):b7 J (.rs k m sz o len) (.sl (si sz ys o len) .no):=by
 obtain⟨n0,h⟩:=h;exact Ax ⟨n0,λn hn=>aLi⟩
def b7.rp{k m o:Nat}{xs ys:List bg}(S:J[k]?=a_ (.cells xs bh))(hm:m=xs.length)(h:fm J xs ys):b7 J (.rp k m o) (.fp ys o):=by
 obtain⟨n0,h⟩:=h;exact Ax ⟨n0,λn hn=>aLi⟩
end
def FB{Z:List bg}{off:Nat}(h:∀c∈Z,Clean c):Clean (.fp Z off):=λC M J v D=>by
 cases D with
 |fp f hC hR=>exact .fp f hC λi c T=>h c (cG T) _ _ _ _ (hR i c T)
def Ir:Nat->bg->Bool
 |0,_=>bf
 |n+1,x=>match x with
  |.v _=>bh
  |.bp=>bh
  |.agg Z=>Z.all (Ir n)
  |.bQ Z=>Z.all (Ir n)
  |.fp Z _=>Z.all (Ir n)
  |.sl xs .no=>xs.all λx=>x.cells.all (Ir n)
  |_=>bf
def FD:∀{n:Nat} {x:bg},Ir n x=bh->Clean x
 |0,x,h=>aE
 |n+1,x,h=>by
  unfold Ir at h;split at h;exact dn _;exact mJ;exact Ip λc T=>FD (eP.1 h c T);exact asC λc T=>FD (eP.1 h c T);exact FB λc T=>FD (eP.1 h c T);exact k6 λx I c T=>FD (eP.1 (eP.1 h x I) c T);cases h
end
def nx{i:Nat}(h:i<4611686018427387904):de.wrap ((i:Int)+1)=((i+1:Nat):Int):=by rw[fO aa aa];rfl
def api{i:Nat}(h:i<4611686018427387904):de.wrap ((i:Int)+2)=((i+2:Nat):Int):=by rw[fO aa aa];rfl
def Kn{i:Nat}(h:1<=i)(V:i<4611686018427387904):de.wrap ((i:Int)-1)=((i-1:Nat):Int):=by rw[fO aa aa];omega
def apj{i j:Nat}(h:i<4611686018427387904)(V:j<4611686018427387904):de.wrap ((i:Int)+(j:Int))=((i+j:Nat):Int):=by rw[fO aa aa];rfl
def apk{i j:Nat}(h:j<=i)(V:i<4611686018427387904):de.wrap ((i:Int)-(j:Int))=((i-j:Nat):Int):=by rw[fO aa aa];omega
def vA{i n:Nat}(h:i<n):decide ((i:Int)<(n:Int))=bh:=ah
def yR{i n:Nat}(h:n<=i):decide ((i:Int)<(n:Int))=bf:=ah
def ae1{i n:Nat}(h:i<=n):decide ((i:Int)<=(n:Int))=bh:=ah
def ae0{i n:Nat}(h:n<i):decide ((i:Int)<=(n:Int))=bf:=ah
def U3{i n:Nat}(h:i=n):((i:Int)==(n:Int))=bh:=by simp[h]
def PA{i n:Nat}(h:i≠n):((i:Int)==(n:Int))=bf:=ah
def adR{i n:Nat}(h:i≠n):((i:Int) !=(n:Int))=bh:=ah
def adQ{i n:Nat}(h:i=n):((i:Int) !=(n:Int))=bf:=by simp[h]
def aaV(b:Bool):Fs .not (.v (.bool b))=a_ (.v (.bool !b)):=rfl
def Qi(a b:bg):oc 0 (.bQ [a,b])=a_ a:=rfl
def Qj(a b:bg):oc 1 (.bQ [a,b])=a_ b:=rfl
def afp(a b c:bg):oc 0 (.bQ [a,b,c])=a_ a:=rfl
def afq(a b c:bg):oc 1 (.bQ [a,b,c])=a_ b:=rfl
def afr(a b c:bg):oc 2 (.bQ [a,b,c])=a_ c:=rfl
def xq(x:bg)(J:List br):bz J bf 1 (.fp [x] 0)=a_ x:=rfl
def ZC(Z:List bg)(o:Nat)(neg:Bool):nG .ptr neg (.fp Z o) (.v (.pointer bn))=a_ (.v (.bool neg)):=aKf
def ZD(k o:Nat)(neg:Bool):nG .ptr neg (.mp k o) (.v (.pointer bn))=a_ (.v (.bool neg)):=aKf
def amG(neg:Bool):nG .ptr neg (.v (.pointer bn)) (.v (.pointer bn))=a_ (.v (.bool !neg)):=aKf
def k7(n:Int):goInt n=.int .i64 n:=rfl
def q5:type_of% @cM.{0,0}/\type_of% @nx/\type_of% @api/\type_of% @Kn/\type_of% @apj/\type_of% @apk/\type_of% @vA/\type_of% @yR/\type_of% @ae1/\type_of% @ae0/\type_of% @U3/\type_of% @PA/\type_of% @adR/\type_of% @adQ/\type_of% @aaV/\
  type_of% @Qi/\type_of% @Qj/\type_of% @afp/\type_of% @afq/\type_of% @afr/\type_of% @xq/\type_of% @ZC/\type_of% @ZD/\type_of% @amG/\type_of% @k7/\type_of% @zH/\type_of% @va/\type_of% @OU/\type_of% @OT:=
 ⟨@cM.{0,0},@nx,@api,@Kn,@apj,@apk,@vA,@yR,@ae1,@ae0,@U3,@PA,@adR,@adQ,@aaV,@Qi,@Qj,@afp,@afq,@afr,@xq,@ZC,@ZD,@amG,@k7,@zH,@va,@OU,@OT⟩
def fF{p q:Prop}(h:q)(e:q->p:=by intro hh;simp -failIfUnchanged -implicitDefEqProofs (disch:=first|assumption|decide|omega) only[jH,oD,oE,↓reduceIte,Nat.reduceEqDiff,Nat.reduceAdd,Nat.reduceLT,Nat.reduceLeDiff,q5,Int.reduceBEq,Int.reduceBNe];exact hh):p:=e h
def e5{p q a0:Prop}(x0:a0)(h:q)(e:a0->q->p:=by intro f0 hh;simp -failIfUnchanged -implicitDefEqProofs (disch:=first|assumption|decide|omega) only[jH,oD,oE,↓reduceIte,Nat.reduceEqDiff,Nat.reduceAdd,Nat.reduceLT,Nat.reduceLeDiff,q5,Int.reduceBEq,Int.reduceBNe,f0];exact hh):p:=e x0 h
def mS{p q a b:Prop}(x:a)(y:b)(h:q)(e:a/\b->q->p:=by intro f h;exact e5 f h):p:=e ⟨x,y⟩ h
def jw{p q a b c:Prop}(x:a)(y:b)(z:c)(h:q)(e:a/\b/\c->q->p:=by intro f h;exact e5 f h):p:=e ⟨x,y,z⟩ h
def mu{p q a b c d:Prop}(x:a)(y:b)(z:c)(u:d)(h:q)(e:a/\b/\c/\d->q->p:=by intro f h;exact e5 f h):p:=e ⟨x,y,z,u⟩ h
def qx{p q a b c d f:Prop}(x:a)(y:b)(z:c)(u:d)(v:f)(h:q)(e:a/\b/\c/\d/\f->q->p:=by intro f h;exact e5 f h):p:=e ⟨x,y,z,u,v⟩ h
def CG{p q a b c d f g:Prop}(x:a)(y:b)(z:c)(u:d)(v:f)(w:g)(h:q)(e:a/\b/\c/\d/\f/\g->q->p:=by intro f h;exact e5 f h):p:=e ⟨x,y,z,u,v,w⟩ h
def o6{p q a b c d f g i:Prop}(x:a)(y:b)(z:c)(u:d)(v:f)(w:g)(r:i)(h:q)(e:a/\b/\c/\d/\f/\g/\i->q->p:=by intro f h;exact e5 f h):p:=e ⟨x,y,z,u,v,w,r⟩ h
def Ov{p q a b c d f g i j:Prop}(x:a)(y:b)(z:c)(u:d)(v:f)(w:g)(r:i)(s:j)(h:q)(e:a/\b/\c/\d/\f/\g/\i/\j->q->p:=by intro f h;exact e5 f h):p:=e ⟨x,y,z,u,v,w,r,s⟩ h
def wA{p q a b c d f g i j k:Prop}(x:a)(y:b)(z:c)(u:d)(v:f)(w:g)(r:i)(s:j)(t:k)(h:q)(e:a/\b/\c/\d/\f/\g/\i/\j/\k->q->p:=by intro f h;exact e5 f h):p:=e ⟨x,y,z,u,v,w,r,s,t⟩ h
section
variable{l:List UInt8}{i j:Nat}{α:Type}
def bu(l:List UInt8):bg:=.v (.string ⟨⟨l⟩⟩)
def UY(l:List UInt8):(⟨⟨l⟩⟩:ByteArray).toList=l:=af
def arI(l:List UInt8)(i:Nat):(⟨⟨l⟩⟩:ByteArray)[i]?=l[i]? :=by
 rcases en i l.length with h|h
 rw[cz h];exact getElem?_pos (⟨⟨l⟩⟩:ByteArray) i h;rw[jU h];exact getElem?_neg (⟨⟨l⟩⟩:ByteArray) i (by show¬i<l.length;omega)
@[go_sem]def oN(a b:List UInt8):dL .eql (bu a) (bu b)=a_ (.v (.bool (a==b))):=by
 simp only[bu,dL,J3,UY,j4]
@[go_sem]def zi(a b:List UInt8):dL .neq (bu a) (bu b)=a_ (.v (.bool !(a==b))):=by
 simp only[bu,dL,J3,UY,j4]
@[go_sem]def vt{a b:List UInt8}(h:a.length+b.length<=4611686018427387904):dL .add (bu a) (bu b)=a_ (bu (a++b)):=by
 have e:(⟨⟨a⟩⟩:ByteArray)++⟨⟨b⟩⟩=⟨⟨a++b⟩⟩:=by apply abe;simp
 have V:¬(((⟨⟨a⟩⟩:ByteArray).size+(⟨⟨b⟩⟩:ByteArray).size:Nat):Int)>de.max:=by
  show¬((a.length+b.length:Nat):Int)>9223372036854775807;omega
 simp only[bu,dL,J3];rw[if_neg V,e];rfl
@[go_sem]def aem{c:UInt8}{k:IntKind}(h:l[i]?=a_ c):w7 (bu l) (.v (.int k (i:Int)))=a_ (.v (.int .u8 (c.toNat:Int))):=by
 simp only[bu,w7];rw[if_pos aa,yf,arI,h];rfl
@[go_sem]def xM(l:List UInt8)(J:List br):rK (bu l) J=a_ (.v (.int .i64 (l.length:Int)),J):=rfl
@[go_sem]def P7(h:i<=j)(V:j<=l.length)(J:List br):Hl (bu l) (a_ (.v (.int .i64 (i:Int)))) (a_ (.v (.int .i64 (j:Int)))) J=a_ (bu ((l.take j).drop i),J):=by
 have e:(⟨⟨l⟩⟩:ByteArray).extract i j=⟨⟨(l.take j).drop i⟩⟩:=by
  apply abe;simp[Kw]
 have O:lE l.length l.length (a_ (i:Int)) (a_ (j:Int)) bn=a_ (i,j,l.length):=by
  simp only[lE,j6,Bx,CO,ke,if_false];rw[if_pos ⟨aa,aa⟩];dsimp only;rw[if_pos ⟨aa,aa⟩];simp
 show E9 (λr=>(r,J)) (l6 0 (.v (.string ⟨⟨l⟩⟩)) (a_ (.v (.int .i64 (i:Int)))) (a_ (.v (.int .i64 (j:Int)))) bn)=_;have rF:∀n:Int,ox (a_ (.v (.int .i64 n)))=a_ (a_ n):=λn=>rfl;have ql:ox bn=a_ bn:=rfl;unfold l6;rw[rF,rF,ql];dsimp only;rw[if_neg af,show(⟨⟨l⟩⟩:ByteArray).size=l.length from rfl,O];dsimp only;rw[e];rfl
@[go_sem]def Vr(h:i<=l.length)(J:List br):Hl (bu l) (a_ (.v (.int .i64 (i:Int)))) bn J=a_ (bu (l.drop i),J):=by
 have e:(⟨⟨l⟩⟩:ByteArray).extract i l.length=⟨⟨l.drop i⟩⟩:=by
  apply abe;simp;rw[mA af]
 have O:lE l.length l.length (a_ (i:Int)) bn bn=a_ (i,l.length,l.length):=by
  simp only[lE,j6,Bx,CO,ke,if_false];rw[if_pos ⟨aa,aa⟩];simp
 show E9 (λr=>(r,J)) (l6 0 (.v (.string ⟨⟨l⟩⟩)) (a_ (.v (.int .i64 (i:Int)))) bn bn)=_;have rF:∀n:Int,ox (a_ (.v (.int .i64 n)))=a_ (a_ n):=λn=>rfl;have ql:ox bn=a_ bn:=rfl;unfold l6;rw[rF,ql];dsimp only;rw[if_neg af,show(⟨⟨l⟩⟩:ByteArray).size=l.length from rfl,O];dsimp only;rw[e];rfl
@[go_sem]def P6(h:j<=l.length)(J:List br):Hl (bu l) bn (a_ (.v (.int .i64 (j:Int)))) J=a_ (bu (l.take j),J):=by
 have e:(⟨⟨l⟩⟩:ByteArray).extract 0 j=⟨⟨l.take j⟩⟩:=by
  apply abe;simp
 have O:lE l.length l.length bn (a_ (j:Int)) bn=a_ (0,j,l.length):=by
  simp only[lE,j6,Bx,CO,ke,if_false];rw[if_pos ⟨aa,aa⟩];simp
 show E9 (λr=>(r,J)) (l6 0 (.v (.string ⟨⟨l⟩⟩)) bn (a_ (.v (.int .i64 (j:Int)))) bn)=_;have rF:∀n:Int,ox (a_ (.v (.int .i64 n)))=a_ (a_ n):=λn=>rfl;have ql:ox bn=a_ bn:=rfl;unfold l6;rw[rF,ql];dsimp only;rw[if_neg af,show(⟨⟨l⟩⟩:ByteArray).size=l.length from rfl,O];dsimp only;rw[e];rfl
def aF7(len l h m:Nat):CB .no len l h m bf=.no:=by
 unfold CB;rw[if_neg af];split;split<;>rfl;rfl
section
variable{xs:List bg}{n:Nat}
@[go_sem]def aah{lo Q:Option bg}{l' h':Option Int}(Y:ox lo=a_ l')(V:ox Q=a_ h')(O:lE xs.length xs.length l' h' bn=a_ (i,j,xs.length))(ho:∀x∈xs,x.cells.length=n)(J:List br):
  q2 n (.sl xs .no) lo Q bn J=a_ (.sl ((xs.take j).drop i) .no,J):=by
 have jN:(xs.all λx=>x.cells.length==n)=bh:=by
  rw[eP];intro x I;simpa using ho x I
 show E9 (λr=>(r,J)) (l6 n (.sl xs .no) lo Q bn)=_;have ql:ox bn=a_ bn:=rfl;unfold l6;rw[Y,V,ql];dsimp only;rw[O];dsimp only;rw[if_pos jN,show(bn:Option Int).isSome=bf from rfl,aF7];rfl
@[go_sem]def an0(h:j<=xs.length)(ho:∀x∈xs,x.cells.length=n)(J:List br):q2 n (.sl xs .no) bn (a_ (.v (.int .i64 (j:Int)))) bn J=a_ (.sl (xs.take j) .no,J):=by
 have O:lE xs.length xs.length bn (a_ (j:Int)) bn=a_ (0,j,xs.length):=by
  simp only[lE,j6,Bx,CO,ke,if_false];rw[if_pos ⟨aa,aa⟩];simp
 exact aah rfl rfl O ho J
@[go_sem]def S0(h:i<=xs.length)(ho:∀x∈xs,x.cells.length=n)(J:List br):q2 n (.sl xs .no) (a_ (.v (.int .i64 (i:Int)))) bn bn J=a_ (.sl (xs.drop i) .no,J):=by
 have O:lE xs.length xs.length (a_ (i:Int)) bn bn=a_ (i,xs.length,xs.length):=by
  simp only[lE,j6,Bx,CO,ke,if_false];rw[if_pos ⟨aa,aa⟩];simp
 have:=aah (xs:=xs) (n:=n) (lo:=a_ (.v (.int .i64 (i:Int)))) (Q:=bn) rfl rfl O ho J;rw[n3] at this;exact this
end
def Ti{l:List (List UInt8)}:∀x∈l.map bu,x.cells.length=1:=λx I=>by
 obtain⟨a,_,rfl⟩:=eg.1 I;rfl
def FM{α:Type}(p:α->Bool)(l:List α):Int:=if l.any p then(l.findIdx p:Int) else -1
def atW{p:α->Bool}{l:List α}{a:α}(h:l[i]?=a_ a)(J:p a=bh)(hI:∀j b,j<i->l[j]?=a_ b->p b=bf):FM p l=(i:Int):=by
 have Q:=(cL.1 h).1;have ha:l.any p=bh:=Kv.2 ⟨a,cG h,J⟩;unfold FM;rw[if_pos ha,(List.findIdx_eq Q).2 ⟨?_,λj hj=>?_⟩];rw[cz Q] at h;cases h;exact J;exact hI j _ hj (cz aa)
def atX{p:α->Bool}{l:List α}(hI:∀j b,j<l.length->l[j]?=a_ b->p b=bf):FM p l= -1:=by
 have ha:l.any p=bf:=by
  rw[List.any_eq_false];intro a ha;obtain⟨j,hj,rfl⟩:=HH ha;simp[hI j _ hj (cz hj)]
 unfold FM;rw[ha];rfl
def atY(p:α->Bool)(l:List α):decide (0<=FM p l)=l.any p:=by
 unfold FM;cases l.any p<;>simp
end
instance:Coe Int bg:=⟨λn=>.v (.int .i64 n)⟩
instance:Coe Nat bg:=⟨λn=>.v (.int .i64 (n:Int))⟩
instance:Coe Bool bg:=⟨λb=>.v (.bool b)⟩
end Go.bM

/- Part 5 of a proof. No condition. -/
import Derived.Test.YtpcfoeagojdmdaaGreatDoorZ4
import Derived.Sort.Grow
import Derived.Deep.Draws
import Derived.Shelf.Vars
import Derived.Lib.SplitLaws
import Derived.Lib.IndexBytes
import Derived.Lib.ItoaNum
set_option linter.unusedVariables false
set_option linter.unusedSimpArgs false
set_option linter.defProp false
open Bool renaming and_eq_true->fh,eq_iff_iff->Fz,false->bf,false_and->z8,false_eq_true->kJ,not_false->vE,not_true->z_,rec->FA,true->bh
open ByteArray renaming ext->ab5
open Go.bM.bg renaming agg->dG,cells->jU,one->cq,v->dh
open Go.bM.br renaming cells->bw,ck->qj
open Go.bM.ct renaming mono->cm,pure->h_,aH8->FB
open Go.bM.iF renaming mono->gW
open Go.bM.j4 renaming mono->wX
open Go.bM.xj renaming mono->ab7
open Go.bM.gp renaming refl->tw
open Go.bM.sL renaming Jc->UA
open Go.DataW renaming trod->UC
open Go.IntKind renaming bits->K1,i64->cN,max->aqX,min->aqY,signed->K2,u64->Iq
open Go.Value renaming cells->Ag,okWide->It
open Go.World renaming cell?->Iu
open Int renaming eq_ofNat_of_zero_le->pT,ofNat_eq_natCast->BW,toNat_natCast->wZ
open List renaming all_cons->qk,all_eq_true->eG,any_eq_true->K4,append_nil->fZ,cons_append->jy,count_cons->are,drop_succ_cons->Ah,drop_zero->pU,eq_nil_of_length_eq_zero->ou,ext_getElem?->FH,getElem?_append_right->fJ,getElem?_cons_succ->uE,getElem?_cons_zero->ny,getElem?_eq_getElem->cu,getElem?_eq_none->jV,getElem?_eq_some_iff->cJ,getElem?_map->fD,getElem?_range->aJj,getElem?_reverse->acD,getElem?_set_ne->bC,getElem?_set_self->bT,getElem_of_mem->Iy,length->Du,length_append->dO,length_cons->eB,length_map->cS,length_pos_iff->FK,length_set->rH,length_singleton->ov,map_append->gz,map_cons->fQ,map_set->yN,mem_cons->fc,mem_cons_of_mem->sw,mem_cons_self->vG,mem_map->dX,mem_of_getElem?->cz,mem_of_mem_drop->rI,nil_append->gd,range->iy,rec->Ai,replicate->fk,reverse_reverse->aru,take_length->oW,take_of_length_le->ow,take_succ_cons->qn,take_zero->mS
open Nat renaming add_zero->nB,beq->eU,beq_eq->w5,ble->w6,blt->sx,eq_of_beq_eq_true->tD,le_of_ble_eq_true->oX,le_refl->b_,lor->Py,lt_of_succ_le->arA,lt_or_ge->ei,lt_succ_self->yQ,rec->K9,sub_self->kY,zero_add->gA
open Option renaming bind_assoc->B1,bind_eq_some_iff->gS,bind_some->mT,isSome_none->Ak,map->IA,map_eq_some_iff->dF,map_some->j3,none->bn,some->a_
open Option.some renaming injEq->ox
open Or renaming inl->bD,inr->bG
open Prod.mk renaming injEq->xd
open UInt8 renaming ofNat->vI,toNat->acM
namespace Go.bM
open Go.RowKit
section
variable{α:Type}{f:br->(br->Option bg)->Option bg}{a:eR}{b id n off:Nat}{o:sG}{k:bg->Option bg}{e:dA}{i p x:bg}{H:List br}{g:br->Option br}{y:br}{bN:Bool}{Z:List bg}{op:BinOp}{L:List Nat}
section
variable{β:Type}
noncomputable def l5(n:Nat)(k:Nat->β):β:=@K9 (λ_=>β) (k Nat.zero) (λm _=>k (Nat.succ m)) n
def vZ(n:Nat)(k:Nat->β):l5 n k=k n:=by cases n<;>rfl
noncomputable def Re(i:Int)(k:Int->β):β:=@Int.rec (λ_=>β) (λn=>l5 n λn=>k (.ofNat n)) (λn=>l5 n λn=>k (.negSucc n)) i
def agJ(i:Int)(k:Int->β):Re i k=k i:=by
 cases i with
 |ofNat n=>exact vZ n λn=>k (.ofNat n)
 |negSucc n=>exact vZ n λn=>k (.negSucc n)
noncomputable def Ed(b:Bool)(k:Bool->β):β:=@FA (λ_=>β) (k bf) (k bh) b
def agI(b)(k:Bool->β):Ed b k=k b:=by cases b<;>rfl
noncomputable def xP{α:Type}(f:α->(α->β)->β)(l:List α):(List α->β)->β:=@Ai α (λ_=>(List α->β)->β) (λk=>k []) (λx _ ih k=>f x λx=>ih λr=>k (x::r)) l
def Gv{f}(hf:∀x k,f x k=k x):∀(l) (k:List α->β),xP f l k=k l
 |[],k=>rfl
 |x::r,k=>(hf x _).trans (Gv hf r _)
noncomputable def WX(s:ByteArray)(k:ByteArray->β):β:=match s with
 |⟨⟨l⟩⟩=>xP (λx k=>k x) l λl=>k ⟨⟨l⟩⟩
def avB(s)(k:ByteArray->β):WX s k=k s:=by
 cases s with
 |mk a=>cases a with
  |mk l=>simp only[WX];rw[Gv λ_ _=>rfl]
noncomputable def Rf(v:Value)(k:Value->β):β:=match v with
 |.int kd i=>Re i λi=>k (.int kd i)
 |.bool b=>Ed b λb=>k (.bool b)
 |.string s=>WX s λs=>k (.string s)
 |v=>k v
def agK(v)(k:Value->β):Rf v k=k v:=by
 cases v<;>simp only[Rf,agJ,agI,avB]
noncomputable def WY(t:o6)(k:o6->β):β:=match t with
 |.exact=>k .exact
 |.no=>k .no
 |.tok id=>l5 id λid=>k (.tok id)
def avC(t)(k:o6->β):WY t k=k t:=by cases t<;>simp only[WY,vZ]
noncomputable def rR:Nat->bg->(bg->β)->β
 |0,v,k=>k v
 |n+1,v,k=>match v with
  |.v x=>Rf x λx=>k (.v x)
  |.agg Z=>xP (rR n) Z λZ=>k (.agg Z)
  |.bQ Z=>xP (rR n) Z λZ=>k (.bQ Z)
  |.bq=>k .bq
  |.sl xs t=>xP (rR n) xs λxs=>WY t λt=>k (.sl xs t)
  |.fp Z off=>xP (rR n) Z λZ=>l5 off λoff=>k (.fp Z off)
  |.mp b off=>l5 b λb=>l5 off λoff=>k (.mp b off)
  |.rp b m off=>l5 b λb=>l5 m λm=>l5 off λoff=>k (.rp b m off)
  |.rs b m sz off len=>l5 b λb=>l5 m λm=>l5 off λoff=>l5 len λlen=>k (.rs b m sz off len)
  |.gE b=>l5 b λb=>k (.gE b)
  |.fn f a b=>xP (rR n) a λa=>xP (rR n) b λb=>k (.fn f a b)
  |.eD t x=>rR n x λx=>k (.eD t x)
  |.gm b=>l5 b λb=>k (.gm b)
  |.jo b=>l5 b λb=>k (.jo b)
  |.iJ b t=>l5 b λb=>k (.iJ b t)
  |.gP ch=>k (.gP ch)
def AV:∀(n:Nat) (v:bg) (k:bg->β),rR n v k=k v
 |0,v,k=>rfl
 |n+1,v,k=>by
  cases v<;>simp only[rR,agK,avC,vZ,Gv (AV n),AV n]
noncomputable def L8(t:Nat)(e:dA)(k:bg->β)(d:β):β:=@Ai (Nat×bg) (λ_=>β) d (λp _ ih=>@FA (λ_=>β) ih (k p.2) (eU p.1 t)) e
def Wv(t:Nat)(k)(d:β):∀(e:dA),L8 t e k d=match gU e t with|some v=>k v|none=>d
 |[]=>rfl
 |(j,v)::r=>by
  simp only[gU];by_cases h:j=t;subst h;rw[if_pos rfl];show@FA (λ_=>β) _ (k v) (eU j j)=_;rw[show eU j j=bh from Nat.beq_refl j];have O:eU j t=bf:=by cases O:eU j t with
   |false=>rfl
   |true=>exact(h (tD O)).elim
  rw[if_neg h,<-(Wv t k d r)];show@FA (λ_=>β) (L8 t r k d) (k v) (eU j t)=_;rw[O]
noncomputable def vm(L:List Nat):dA->(dA->β)->β:=@Ai Nat (λ_=>dA->(dA->β)->β) (λe k=>k []) (λj _ ih e k=>L8 j e (λv=>ih e λr=>k ((j,v)::r)) (ih e k)) L
def ye:∀(L) (e:dA) (k:dA->β),vm L e k=k (ng L e)
 |[],e,k=>rfl
 |j::L,e,k=>by
  show L8 j e (λv=>vm L e λr=>k ((j,v)::r)) (vm L e k)=_;rw[Wv];simp only[ng];cases gU e j with
  |none=>simp only[D8,ye L e]
  |some v=>simp only[D8,ye L e]
end
def Mb:Value->Value->Bool
 |.int k a,.int k' b=>decide (k=k')&&decide (a=b)
 |.bool a,.bool b=>a==b
 |.string a,.string b=>decide (a.data.toList=b.data.toList)
 |.pointer bn,.pointer bn=>bh
 |.nilFunc,.nilFunc=>bh
 |.nilIface,.nilIface=>bh
 |.map bn,.map bn=>bh
 |_,_=>bf
def afZ:∀{a b},Mb a b=bh->a=b:=by
 intro a b h;unfold Mb at h;split at h;simp only[fh,decide_eq_true_eq] at h;rw[h.1,h.2];rw[eq_of_beq h];simp only[decide_eq_true_eq] at h;rename_i a b;cases a with
 |mk a=>cases a with
  |mk a=>cases b with
   |mk b=>cases b with
    |mk b=>dsimp only at h;rw[h]
 all_goals first|rfl|cases h
def xM{α:Type}(f:α->α->Bool):List α->List α->Bool
 |[],[]=>bh
 |a::r,b::s=>f a b&&xM f r s
 |_,_=>bf
def QT{f}(hf:∀{a b},f a b=bh->a=b):∀{l m:List α},xM f l m=bh->l=m
 |[],[],_=>rfl
 |a::r,b::s,h=>by
  simp only[xM,fh] at h;rw[hf h.1,QT hf h.2]
 |[],_::_,h=>aF
 |_::_,[],h=>aF
def WI:o6->o6->Bool
 |.exact,.exact=>bh
 |.no,.no=>bh
 |.tok a,.tok b=>a==b
 |_,_=>bf
def au7{a b}(h:WI a b=bh):a=b:=by
 cases a<;>cases b<;>first|rfl|(cases h;done)|(simp only[WI,beq_iff_eq] at h;rw[h])
def Wz:Fn->Fn->Bool
 |.func a,.func b=>a==b
 |_,_=>bf
def au2{a b:Fn}(h:Wz a b=bh):a=b:=by
 unfold Wz at h;split at h;rw[eq_of_beq h];cases h
def qx:Nat->bg->bg->Bool
 |0,_,_=>bf
 |n+1,a,b=>match a,b with
  |.v x,.v y=>Mb x y
  |.agg x,.agg y=>xM (qx n) x y
  |.bQ x,.bQ y=>xM (qx n) x y
  |.bq,.bq=>bh
  |.sl x t,.sl y u=>xM (qx n) x y&&WI t u
  |.fp x i,.fp y j=>xM (qx n) x y&&i==j
  |.mp k i,.mp l j=>k==l&&i==j
  |.rp k m i,.rp l m' j=>k==l&&m==m'&&i==j
  |.rs k m s i n,.rs l m' s' j n'=>k==l&&m==m'&&s==s'&&i==j&&n==n'
  |.gE k,.gE l=>k==l
  |.fn f x y,.fn g u v=>Wz f g&&xM (qx n) x u&&xM (qx n) y v
  |.eD t x,.eD u y=>t==u&&qx n x y
  |.gm k,.gm l=>k==l
  |.jo k,.jo l=>k==l
  |.iJ k t,.iJ l u=>k==l&&t.1==u.1&&t.2==u.2
  |_,_=>bf
def AO:∀{n:Nat} {a b:bg},qx n a b=bh->a=b
 |0,a,b,h=>aF
 |n+1,a,b,h=>by
  have ih:∀{l m},xM (qx n) l m=bh->l=m:=λq=>QT (λr=>AO r) q;unfold qx at h;split at h
  all_goals try simp only[fh,beq_iff_eq] at h
  rw[afZ h];rw[ih h];rw[ih h];rfl;rw[ih h.1,au7 h.2];rw[ih h.1,h.2];rw[h.1,h.2];rw[h.1.1,h.1.2,h.2];rw[h.1.1.1.1,h.1.1.1.2,h.1.1.2,h.1.2,h.2];rw[h];rw[au2 h.1.1,ih h.1.2,ih h.2];rw[h.1,AO h.2];rw[h];rw[h];rename_i k t l u;obtain⟨t1,t2⟩:=t;obtain⟨u1,u2⟩:=u;dsimp only at h;rw[h.1.1,h.1.2,h.2];cases h
noncomputable def BJ(o:Option bg)(k:bg->Option bg):Option bg:=match o with
 |some v=>rR 64 v k
 |none=>bn
def Fg{o}:BJ o k=o.bind k:=by cases o<;>simp[BJ,AV]
noncomputable def TX(o:Option Value)(k:bg->Option bg):Option bg:=match o with
 |some v=>Rf v λv=>k (.v v)
 |none=>bn
def api{o}:TX o k=o.bind λv=>k (.v v):=by cases o<;>simp[TX,agK]
noncomputable def Jf(t:Nat)(e:dA)(k:bg->Option bg):Option bg:=L8 t e k bn
def QS{t:Nat}:Jf t e k=(gU e t).bind k:=by
 unfold Jf;rw[Wv];cases gU e t<;>rfl
noncomputable def oK(x:dK)(e:dA)(k:bg->Option bg):Option bg:=@dK.rec (λ_=>Option bg) (λt=>Jf t e k) (λv=>k v) x
def sR{x:dK}:oK x e k=(ew e x).bind k:=by
 cases x with
 |t t=>exact QS
 |c v=>rfl
noncomputable def HE{α:Type}(l:List α):Nat->(α->Option bg)->Option bg:=@Ai α (λ_=>Nat->(α->Option bg)->Option bg) (λ_ _=>bn) (λx _ ih n k=>@K9 (λ_=>Option bg) (k x) (λm _=>ih m k) n) l
def Kd:∀{l:List α} {n:Nat} {k},HE l n k=(l[n]?).bind k
 |[],n,k=>by simp[HE]
 |x::r,0,k=>rfl
 |x::r,n+1,k=>by
  rw[uE];exact Kd (n:=n)
structure iG where
 n:Nat
 l:List br
def R(H:List br):iG:=⟨H.length,H.reverse⟩
def Fp(h:iG):List br:=h.l.reverse
def Ic(H):Fp (R H)=H:=aru H
noncomputable def zK(h:iG)(b:Nat)(k:br->Option bg):Option bg:=match sx b h.n with
 |true=>HE h.l (h.n-1-b) k
 |false=>bn
def aeA{a:Nat}(h:a<b):sx a b=bh:=Nat.ble_eq_true_of_le h
def aez{a:Nat}(h:¬a<b):sx a b=bf:=by
 cases O:sx a b with
 |false=>rfl
 |true=>exact(h (oX O)).elim
def CT{k}:zK (R H) b k=(H[b]?).bind k:=by
 unfold zK R;dsimp only;by_cases h:b<H.length;rw[aeA h];dsimp only;rw[Kd,acD aa,show H.length-1-(H.length-1-b)=b by omega];rw[aez h,jV aa];rfl
noncomputable def abN(l:List br):Nat->(br->(br->Option bg)->Option bg)->(List br->Option bg)->Option bg:=@Ai br (λ_=>Nat->(br->(br->Option bg)->Option bg)->(List br->Option bg)->Option bg) (λ_ _ _=>bn)
 (λb r ih n f k=>@K9 (λ_=>Option bg) (f b λb=>k (b::r)) (λm _=>ih m f λr=>k (b::r)) n) l
def aql(hf:∀b k,f b k=(g b).bind k):∀{h} {n:Nat} {k},abN h n f k=(h[n]?).bind λb=>(g b).bind λb'=>k (h.set n b')
 |[],n,k=>by simp[abN]
 |b::r,0,k=>hf b _
 |b::r,n+1,k=>by
  rw[uE];exact aql hf (n:=n)
def aGz(h:b<H.length):H.reverse.set (H.length-1-b) y=(H.set b y).reverse:=by
 apply FH;intro i
 rcases ei i H.length with q|q
 rw[acD an,rH];by_cases e:H.length-1-b=i;rw[<-e,bT ah,show H.length-1-(H.length-1-b)=b by omega,bT h];rw[bC e,acD q,bC aa];rw[jV an,jV an]
noncomputable def z1(h:iG)(b:Nat)(f:br->(br->Option bg)->Option bg)(k:iG->Option bg):Option bg:=match sx b h.n with
 |true=>abN h.l (h.n-1-b) f λl=>k ⟨h.n,l⟩
 |false=>bn
def abM(hf:∀b k,f b k=(g b).bind k){k}:z1 (R H) b f k=(H[b]?).bind λx=>(g x).bind λy=>k (R (H.set b y)):=by
 unfold z1 R;dsimp only;by_cases h:b<H.length;rw[aeA h];dsimp only;rw[aql hf,acD aa,show H.length-1-(H.length-1-b)=b by omega];simp only[aGz h,rH];rw[aez h,jV aa];rfl
def KS{k}:z1 (R H) b (λ_ k=>k y) k=(H[b]?).bind λ_=>k (R (H.set b y)):=
 (abM (g:=λ_=>a_ y) λ_ _=>rfl).trans rfl
noncomputable def Fa(h:iG)(b:br)(k:iG->Option bg):Option bg:=l5 (h.n+1) λn=>k ⟨n,b::h.l⟩
def Tq{b:br}{k}:Fa (R H) b k=k (R (H++[b])):=by
 simp only[Fa,vZ,R,dO,ov,List.reverse_append,List.reverse_singleton,List.singleton_append]
noncomputable def Rh(H:List br)(k:iG->Option bg):Option bg:=xP (λx k=>k x) H.reverse λl=>l5 H.length λn=>k ⟨n,l⟩
def agN{k}:Rh H k=k (R H):=by
 simp only[Rh,vZ];rw[Gv λ_ _=>rfl];rfl
noncomputable def Kn(bN:Bool):Nat->List bg->Nat->(bg->Option bg)->Option bg:=match bN with
 |false=>λ_ Z off k=>HE Z off k
 |true=>λn Z off k=>match e9 bh n Z off with
  |some (.agg l)=>xP (λx k=>k x) l λl=>k (.agg l)
  |some v=>k v
  |none=>bn
def aao:Kn bN n Z off k=(e9 bN n Z off).bind k:=by
 cases bN with
 |false=>simp only[Kn,Kd,e9,kJ,if_false]
 |true=>
  simp only[Kn];cases h:e9 bh n Z off with
  |none=>rfl
  |some v=>cases v<;>simp only[mT]<;>rw[Gv λ_ _=>rfl]
noncomputable def Hw:bg->Bool->Nat->iG->(bg->Option bg)->Option bg
 |.mp b off=>λbN n h k=>zK h b λblk=>match blk with
  |.cells Z r=>match r with
   |false=>Kn bN n Z off k
   |true=>bn
  |_=>bn
 |.fp Z off=>λbN n _ k=>Kn bN n Z off k
 |.rp b m off=>λbN n h k=>zK h b λblk=>match blk with
  |.cells Z r=>match r with
   |true=>match eU m Z.length with
    |true=>Kn bN n Z off k
    |false=>bn
   |false=>bn
  |_=>bn
 |p=>λbN n h k=>BJ (bz (Fp h) bN n p) k
def ams:Hw p bN n (R H) k=(bz H bN n p).bind k:=by
 cases p with
 |mp b off=>
  simp only[Hw,CT,bz];cases H[b]? with
  |none=>rfl
  |some blk=>cases blk with
   |cells Z r=>cases r<;>simp[aao]
   |_=>rfl
 |rp b m off=>
  simp only[Hw,CT,bz];cases H[b]? with
  |none=>rfl
  |some blk=>cases blk with
   |cells Z r=>cases r with
    |false=>rfl
    |true=>
     simp only[mT];by_cases hl:m=Z.length;rw[if_pos hl,show eU m Z.length=bh by rw[w5];exact hl];exact aao;rw[if_neg hl,show eU m Z.length=bf from(by cases O:eU m Z.length with
     |false=>rfl
     |true=>exact(hl (tD O)).elim)];rfl
   |_=>rfl
 |fp Z off=>simp only[Hw,aao,bz]
 |_=>(simp only[Hw,Fg,Ic])
noncomputable def LU:bg->(List bg->Option bg)->Option bg
 |.agg Z=>λk=>k Z
 |x=>λk=>k [x]
def Qq{k}:LU x k=k x.cells:=by cases x<;>rfl
noncomputable def E8(Z:List bg):List bg->(List bg->Option bg)->Option bg:=@Ai bg (λ_=>List bg->(List bg->Option bg)->Option bg)
 (λvs k=>@Ai bg (λ_=>Option bg) (k []) (λ_ _ _=>bn) vs) (λc r ih vs k=>@Ai bg (λ_=>Option bg) (k (c::r)) (λv vs _=>ih vs λr=>k (v::r)) vs) Z
def aaf:∀{Z vs} {k},E8 Z vs k=if vs.length<=Z.length then k (vs++Z.drop vs.length) else bn
 |[],[],k=>by simp[E8]
 |c::r,[],k=>by simp[E8]
 |[],v::vs,k=>by simp[E8]
 |c::r,v::vs,k=>by
  have:=aaf (Z:=r) (vs:=vs) (k:=λr=>k (v::r));simp only[eB,Ah,jy,Nat.add_le_add_iff_right];exact this
noncomputable def Oq(Z:List bg):Nat->List bg->(List bg->Option bg)->Option bg:=@Ai bg (λ_=>Nat->List bg->(List bg->Option bg)->Option bg)
 (λoff vs k=>@K9 (λ_=>Option bg) (E8 [] vs k) (λ_ _=>bn) off) (λc r ih off vs k=>@K9 (λ_=>Option bg) (E8 (c::r) vs k) (λm _=>ih m vs λr=>k (c::r)) off) Z
def aax:∀{Z} {off:Nat} {vs} {k},Oq Z off vs k=if off+vs.length<=Z.length then k (dS Z off vs) else bn
 |[],0,vs,k=>by
  show E8 [] vs k=_;simp[aaf,dS]
 |[],off+1,vs,k=>by simp[Oq]
 |c::r,0,vs,k=>by
  show E8 (c::r) vs k=_;simp only[aaf,dS,mS,gd,gA]
 |c::r,off+1,vs,k=>by
  have:=aax (Z:=r) (off:=off) (vs:=vs) (k:=λr=>k (c::r));show Oq r off vs (λr=>k (c::r))=_;rw[this];simp only[dS,eB,qn,jy];have e1:off+1+vs.length=(off+vs.length)+1:=aa
  rw[e1,Ah];by_cases h:off+vs.length<=r.length;rw[if_pos h,if_pos aa];rw[if_neg h,if_neg aa]
noncomputable def OL:bg->Nat->bg->iG->(iG->Option bg)->Option bg
 |.mp b off=>λn x h k=>LU x λvs=>match eU vs.length n&&vs.all cq with
  |true=>z1 h b (λblk k=>match blk with
   |.cells Z r=>match r with
    |false=>Oq Z off vs λZ=>k (.cells Z bf)
    |true=>bn
   |_=>bn) k
  |false=>bn
 |.rp b m off=>λn x h k=>LU x λvs=>match eU vs.length n&&vs.all cq with
  |true=>z1 h b (λblk k=>match blk with
   |.cells Z r=>match r with
    |true=>match eU m Z.length with
     |true=>Oq Z off vs λZ=>k (.cells Z bh)
     |false=>bn
    |false=>bn
   |_=>bn) k
  |false=>bn
 |p=>λn x h k=>match bL (Fp h) n p x with
  |some H=>Rh H k
  |none=>bn
def apL{row}{k:iG->Option bg}:(match eU x.cells.length n&&x.cells.all cq with
  |true=>((if off+x.cells.length<=Z.length then a_ (bw (dS Z off x.cells) row) else bn).bind λy=>k (R (H.set b y)))
  |false=>bn)=(fu H b row Z n off x).bind λH=>k (R H):=by
 unfold fu;by_cases T:x.cells.length=n/\off+n<=Z.length/\x.cells.all cq=bh;rw[if_pos T];obtain⟨c1,c2,c3⟩:=T;have atx:eU x.cells.length n=bh:=by rw[w5];exact c1
 rw[atx,c3,if_pos (show off+x.cells.length<=Z.length by omega)];rfl;rw[if_neg T];cases hq:(eU x.cells.length n&&x.cells.all cq) with
 |false=>rfl
 |true=>
  simp only[fh,w5] at hq;rw[if_neg (λq=>T ⟨hq.1,aa,hq.2⟩)];rfl
def aHw{k}:OL p n x (R H) k=(bL H n p x).bind λH=>k (R H):=by
 cases p with
 |mp b off=>
  simp only[OL,Qq];rw[abM (g:=λblk=>match blk with
   |.cells Z bf=>if off+x.cells.length<=Z.length then a_ (.cells (dS Z off x.cells) bf) else bn
   |_=>bn) (λblk k=>by
    cases blk with
    |cells Z r=>cases r with
     |false=>simp only[aax];split<;>rfl
     |true=>rfl
    |_=>rfl)]
  simp only[bL];cases O:H[b]? with
  |none=>cases(eU x.cells.length n&&x.cells.all cq)<;>rfl
  |some blk=>cases blk with
   |cells Z r=>cases r with
    |false=>exact apL
    |true=>cases(eU x.cells.length n&&x.cells.all cq)<;>rfl
   |_=>cases(eU x.cells.length n&&x.cells.all cq)<;>rfl
 |rp b m off=>
  simp only[OL,Qq];rw[abM (g:=λblk=>match blk with
   |.cells Z bh=>if m=Z.length then(if off+x.cells.length<=Z.length then a_ (.cells (dS Z off x.cells) bh) else bn) else bn
   |_=>bn) (λblk k=>by
    cases blk with
    |cells Z r=>cases r with
     |true=>
      by_cases hl:m=Z.length;simp only[if_pos hl,show eU m Z.length=bh by rw[w5];exact hl,aax];split<;>rfl;simp only[if_neg hl,show eU m Z.length=bf from(by cases O:eU m Z.length with
      |false=>rfl
      |true=>exact(hl (tD O)).elim)];rfl
     |false=>rfl
    |_=>rfl)]
  simp only[bL];cases O:H[b]? with
  |none=>cases(eU x.cells.length n&&x.cells.all cq)<;>rfl
  |some blk=>cases blk with
   |cells Z r=>cases r with
    |true=>
     by_cases hl:m=Z.length;simp only[if_pos hl,mT];exact apL;simp only[if_neg hl,mT];cases(eU x.cells.length n&&x.cells.all cq)<;>rfl
    |false=>cases(eU x.cells.length n&&x.cells.all cq)<;>rfl
   |_=>cases(eU x.cells.length n&&x.cells.all cq)<;>rfl
 |_=>
  simp only[OL,Ic];cases bL H n _ x with
  |none=>rfl
  |some H'=>exact agN
def adO(a b:Int):Int:=match a with
 |.ofNat m=>match b with
  |.ofNat n=>.ofNat (m+n)
  |.negSucc n=>.ofNat m+ .negSucc n
 |.negSucc m=>.negSucc m+b
def asq(a b:Int):adO a b=a+b:=by cases a<;>cases b<;>rfl
def abq(a b:Int):Int:=match a with
 |.ofNat m=>match b with
  |.ofNat n=>match w6 n m with
   |true=>.ofNat (m-n)
   |false=>.ofNat m- .ofNat n
  |.negSucc n=>.ofNat m- .negSucc n
 |.negSucc m=>.negSucc m-b
def aHB(a b:Int):abq a b=a-b:=by
 cases a with
 |negSucc m=>rfl
 |ofNat m=>cases b with
  |negSucc n=>rfl
  |ofNat n=>
   simp only[abq];cases h:w6 n m with
   |false=>rfl
   |true=>
    have:=oX h;simp only[BW];omega
def J4(a b:Int):Bool:=match a with
 |.ofNat m=>match b with
  |.ofNat n=>w6 (m+1) n
  |.negSucc _=>bf
 |.negSucc m=>match b with
  |.ofNat _=>bh
  |.negSucc n=>w6 (n+1) m
def aDm(a b:Int):J4 a b=decide (a<b):=by
 cases a<;>cases b<;>simp only[J4];rename_i m n;rw[Fz,Nat.ble_eq,decide_eq_true_eq];simp only[BW];omega;rename_i m n;symm;rw[decide_eq_false_iff_not];simp only[BW];omega;rename_i m n;symm;rw[decide_eq_true_eq];simp only[BW];omega;rename_i m n;rw[Fz,Nat.ble_eq,decide_eq_true_eq];omega
def QV(a b:Int):Bool:=match a with
 |.ofNat m=>match b with
  |.ofNat n=>eU m n
  |.negSucc _=>bf
 |.negSucc m=>match b with
  |.ofNat _=>bf
  |.negSucc n=>eU m n
def au8(a b:Int):QV a b=(a==b):=by
 cases a<;>cases b<;>simp only[QV];rename_i m n;rw[Fz,w5,beq_iff_eq];simp only[BW];omega;symm;simp;symm;simp;rename_i m n;rw[Fz,w5,beq_iff_eq];simp
def Ih(kd:IntKind):Int->Int:=match kd with
 |.i64=>λn=>match n with
  |.ofNat m=>match w6 m 9223372036854775807 with
   |true=>.ofNat m
   |false=>cN.wrap (.ofNat m)
  |.negSucc m=>match w6 m 9223372036854775807 with
   |true=>.negSucc m
   |false=>cN.wrap (.negSucc m)
 |.u64=>λn=>match n with
  |.ofNat m=>.ofNat (m % 18446744073709551616)
  |.negSucc m=>Iq.wrap (.negSucc m)
 |.u8=>λn=>match n with
  |.ofNat m=>.ofNat (m % 256)
  |.negSucc m=>IntKind.u8.wrap (.negSucc m)
 |kd=>λn=>kd.wrap n
def aIP(kd)(n:Int):Ih kd n=kd.wrap n:=by
 cases kd
 case i64=>
  cases n with
  |ofNat m=>
   simp only[Ih];split;rename_i h;have:=oX h;rw[e6 (by simp only[BW];omega) (by simp only[BW];omega)];rfl
  |negSucc m=>
   simp only[Ih];split;rename_i h;have:=oX h;rw[e6 aa aa];rfl
 case u8=>
  cases n with
  |ofNat m=>simp only[Ih];rw[aqC];simp only[BW];omega
  |negSucc m=>rfl
 case u64=>
  cases n with
  |ofNat m=>simp only[Ih];rw[Fv];simp only[BW];omega
  |negSucc m=>rfl
 all_goals rfl
def Hl:IntKind->Nat
 |.i8=>0|.i16=>1|.i32=>2|.i64=>3|.u8=>4|.u16=>5|.u32=>6|.u64=>7
def aB3{a b}:(eU (Hl a) (Hl b)=bh)↔a=b:=by cases a<;>cases b<;>simp[Hl]
noncomputable def VV:BinOp->IntKind->Int->Int->(bg->Option bg)->Option bg
 |.add=>λkd a b k=>Re (Ih kd (adO a b)) λr=>k (.v (.int kd r))
 |.sub=>λkd a b k=>Re (Ih kd (abq a b)) λr=>k (.v (.int kd r))
 |.eql=>λkd a b k=>Ed (QV a b) λr=>k (.v (.bool r))
 |.neq=>λkd a b k=>Ed (!QV a b) λr=>k (.v (.bool r))
 |.lss=>λkd a b k=>Ed (J4 a b) λr=>k (.v (.bool r))
 |.geq=>λkd a b k=>Ed (!J4 a b) λr=>k (.v (.bool r))
 |.gtr=>λkd a b k=>Ed (J4 b a) λr=>k (.v (.bool r))
 |.leq=>λkd a b k=>Ed (!J4 b a) λr=>k (.v (.bool r))
 |op=>λkd a b k=>TX (mK op kd a kd b) k
def atl{kd}{a b:Int}:VV op kd a b k=(mK op kd a kd b).bind λv=>k (.v v):=by
 have Y:(!decide (a<b))=decide (a>=b):=by rw[Fz];simp
 have V:(!decide (b<a))=decide (a<=b):=by rw[Fz];simp
 cases op<;>simp only[VV,agJ,agI,aIP,asq,aHB,au8,aDm,api]
 all_goals first
  |(simp[mK];done)
  |(simp only[mK,ne_eq,not_true_eq_false,if_false,mT,Y,V];done)
  |(simp only[mK,ne_eq,not_true_eq_false,if_false,mT,Y,V];rfl)
noncomputable def VW:BinOp->bg->bg->(bg->Option bg)->Option bg:=λop x=>match x with
 |.v (.int kd a)=>λy=>match y with
  |.v (.int NC b)=>λk=>match eU (Hl kd) (Hl NC) with
   |true=>VV op kd a b k
   |false=>TX (mK op kd a NC b) k
  |y=>λk=>BJ (dM op (.v (.int kd a)) y) k
 |x=>λy k=>BJ (dM op x y) k
def atn{y:bg}:VW op x y k=(dM op x y).bind k:=by
 unfold VW;split;rename_i kd a;split;rename_i NC b;cases hq:eU (Hl kd) (Hl NC) with
 |true=>
  have:=aB3.1 hq;subst this;simp only[atl,dM];cases mK op kd a kd b<;>rfl
 |false=>
  simp only[dM,api];cases mK op kd a NC b<;>rfl
 exact Fg;exact Fg
noncomputable def Q4(off:Nat):bg->(bg->Option bg)->Option bg
 |.mp b o=>λk=>l5 (o+off) λo=>k (.mp b o)
 |.fp Z o=>λk=>l5 (o+off) λo=>k (.fp Z o)
 |x=>λk=>BJ (k6 off x) k
def avi:Q4 off x k=(k6 off x).bind k:=by
 cases x<;>first|(simp only[Q4,Fg];done)|(simp[Q4,vZ,k6];done)
noncomputable def Ny(n:Nat):bg->bg->(bg->Option bg)->Option bg
 |.sl xs t=>λi k=>match i with
  |.v (.int kd (.ofNat j))=>HE xs j λx=>LU x λZ=>match eU Z.length n with
   |true=>k (.fp Z 0)
   |false=>bn
  |i=>BJ (cx n (.sl xs t) i) k
 |x=>λi k=>BJ (cx n x i) k
def azo:Ny n x i k=(cx n x i).bind k:=by
 cases x with
 |sl xs t=>
  simp only[Ny];split;rename_i kd j;simp only[Kd,Qq,cx];rw[if_pos (show(0:Int)<=Int.ofNat j from Int.natCast_nonneg j)];simp only[BW,wZ];cases xs[j]? with
  |none=>rfl
  |some x=>
   simp only[mT];by_cases hl:x.cells.length=n;rw[if_pos hl,show eU x.cells.length n=bh by rw[w5];exact hl];rfl;rw[if_neg hl,show eU x.cells.length n=bf from(by cases O:eU x.cells.length n with
   |false=>rfl
   |true=>exact(hl (tD O)).elim)];rfl
  (simp only[Ny,Fg])
 |_=>(simp only[Ny,Fg])
def atw(l)(j:Nat):(⟨⟨l⟩⟩:ByteArray)[j]?=l[j]? :=by
 have Y:∀(b:ByteArray),b[j]?=if h:j<b.size then a_ (b[j]'h) else bn:=λb=>rfl;rw[Y];by_cases h:j<l.length;rw[dif_pos (show j<(⟨⟨l⟩⟩:ByteArray).size from h),cu h];rfl;rw[dif_neg (show¬j<(⟨⟨l⟩⟩:ByteArray).size from h),jV aa]
noncomputable def Wc:bg->bg->(bg->Option bg)->Option bg
 |.v (.string ⟨⟨l⟩⟩)=>λi k=>match i with
  |.v (.int kd (.ofNat j))=>HE l j λb=>l5 b.toNat λn=>k (.v (.int .u8 (.ofNat n)))
  |i=>BJ (xx (.v (.string ⟨⟨l⟩⟩)) i) k
 |x=>λi k=>BJ (xx x i) k
def atP:Wc x i k=(xx x i).bind k:=by
 unfold Wc;split;rename_i l;split;rename_i kd j;simp only[Kd,xx];rw[if_pos (show(0:Int)<=Int.ofNat j from Int.natCast_nonneg j)];simp only[BW,wZ,atw];cases l[j]? <;>simp[vZ];exact Fg;exact Fg
noncomputable def WO(i:Nat):bg->(bg->Option bg)->Option bg
 |.bQ Z=>HE Z i
 |_=>λ_=>bn
def avd{i:Nat}:WO i x k=(oE i x).bind k:=by
 cases x<;>simp[WO,oE,Kd]
inductive ada where
 |val (v:bg)
 |gP (ch:List PanicEntry)
structure ac2 where
 ps:List Nat
 a:eR
 b:eR
 e:dA
abbrev sB:=List (Nat×ac2)
abbrev B7:=ada->iG->Option bg
abbrev uG:=sB->bg->List bg->iG->B7->Option bg
def Ws:sG->Bool
 |.alloc _|.box _|.st .. |.xF .. |.app .. |.Ca .. |.BA .. |.CR .. |.iter _|.next _|.CQ|.yc .. |.By .. |.D9 .. |.Ax .. |.AE .. =>bh
 |_=>bf
noncomputable def abc(o:sG)(e:dA)(h:iG)(k:bg->iG->Option bg):Option bg:=match Ws o with
 |false=>match cE e (Fp h) o with
  |some (v,_)=>rR 64 v λv=>k v h
  |none=>bn
 |true=>match cE e (Fp h) o with
  |some (v,H)=>Rh H λh=>rR 64 v λv=>k v h
  |none=>bn
noncomputable def tf:sG->dA->iG->(bg->iG->Option bg)->Option bg
 |.mv x=>λe h k=>oK x e λv=>k v h
 |.gk bN n x=>λe h k=>oK x e λp=>Hw p bN n h λv=>k v h
 |.st n p x=>λe h k=>oK p e λp=>oK x e λx=>OL p n x h λh=>k jN h
 |.J9 x=>λe h k=>oK x e λp=>match y8 p with
  |some p=>k p h
  |none=>bn
 |.bin op x y=>λe h k=>oK x e λx=>oK y e λy=>VW op x y λv=>k v h
 |.fa off x=>λe h k=>oK x e λx=>Q4 off x λv=>k v h
 |.cw n x i=>λe h k=>oK x e λx=>oK i e λi=>Ny n x i λv=>k v h
 |.D2 x i=>λe h k=>oK x e λx=>oK i e λi=>Wc x i λv=>k v h
 |.ext i x=>λe h k=>oK x e λx=>WO i x λv=>k v h
 |.alloc z=>λe h k=>Fa h (.cells z bf) λh'=>l5 h.n λn=>k (.mp n 0) h'
 |.box x=>λe h k=>oK x e λx=>LU x λZ=>Fa h (.cells Z bf) λh'=>l5 h.n λn=>k (.mp n 0) h'
 |o=>abc o
def asS(ho:Ws o=bf){H'}{v:bg}(h:cE e H o=a_ (v,H')):H'=H:=by
 have len:∀{x:bg},cH x H=a_ (v,H')->H'=H:=λ{x} q=>by
  unfold cH at q;split at q;cases q;rw[dF] at q;obtain⟨_,_,q⟩:=q;cases q;rfl
 have kr:∀{x:bg},r6 x H=a_ (v,H')->H'=H:=λ{x} q=>by
  unfold r6 at q;split at q;cases q;rfl;cases q
 have slc:∀{n:Nat} {x:bg} {a b c},qg n x a b c H=a_ (v,H')->H'=H:=λ{n x a b c} q=>by
  unfold qg at q;split at q;cases q;rw[dF] at q;obtain⟨_,_,q⟩:=q;cases q;rfl
 have yu:∀{x:bg} {a b},H_ x a b H=a_ (v,H')->H'=H:=λ{x a b} q=>by
  unfold H_ at q;split at q;rw[dF] at q;obtain⟨_,_,q⟩:=q;cases q;rfl;cases q
 cases o<;>first|(cases ho;done)|skip
 all_goals simp only[cE,gS,dF,xd] at h
 all_goals first
  |(obtain⟨_,_,_,q⟩:=h;exact q.symm)
  |(obtain⟨_,_,_,_,_,q⟩:=h;exact q.symm)
  |(obtain⟨_,_,_,_,_,_,_,q⟩:=h;exact q.symm)
  |(obtain⟨_,_,_,_,_,_,_,_,_,q⟩:=h;exact q.symm)
  |(obtain⟨_,_,q⟩:=h;exact len q)
  |(obtain⟨_,_,q⟩:=h;exact kr q)
  |(obtain⟨_,_,_,_,_,_,q⟩:=h;exact yu q)
  |(obtain⟨_,_,_,_,_,_,_,_,q⟩:=h;exact slc q)
def aGY{k}:abc o e (R H) k=(cE e H o).bind λr=>k r.1 (R r.2):=by
 unfold abc;rw[Ic];cases ho:Ws o with
 |false=>
  dsimp only;cases hs:cE e H o with
  |none=>rfl
  |some r=>
   obtain⟨v,H'⟩:=r;have:=asS ho hs;subst this;simp only[AV,mT]
 |true=>
  dsimp only;cases hs:cE e H o with
  |none=>rfl
  |some r=>simp only[agN,AV,mT]
def anx{k}:tf o e (R H) k=(cE e H o).bind λr=>k r.1 (R r.2):=by
 have bm:∀{α:Type} (o:Option α) (f:α->bg×List br),((o.map f).bind λr=>k r.1 (R r.2))=o.bind λa=>k (f a).1 (R (f a).2):=λo f=>by cases o<;>rfl
 have rn:(R H).n=H.length:=rfl;cases o
 case mv=>simp only[tf,sR,cE,bm]
 case gk=>simp only[tf,sR,ams,cE,B1,bm]
 case st=>simp only[tf,sR,aHw,cE,B1,bm]
 case bin=>simp only[tf,sR,atn,cE,B1,bm]
 case fa=>simp only[tf,sR,avi,cE,B1,bm]
 case cw=>simp only[tf,sR,azo,cE,B1,bm]
 case D2=>simp only[tf,sR,atP,cE,B1,bm]
 case ext=>simp only[tf,sR,avd,cE,B1,bm]
 case alloc=>simp only[tf,Tq,vZ,cE,mT,rn]
 case box x=>
  simp only[tf,sR,Qq,Tq,vZ,cE,bm,rn]
 case J9 x=>
  simp only[tf,sR,cE,B1,bm];cases ew e x with
  |none=>rfl
  |some x=>simp only[mT];cases y8 x<;>rfl
 all_goals
  simp only[tf];exact aGY
noncomputable def To(c_:uG)(f:FuncId)(dL:List bg):Option bg:=match ku (dx [] 64) dL with
 |some bs=>c_ [] (.fn (.func f) [] []) bs (R []) λo h=>match o with
  |.val r=>dx (Fp h) 64 r
  |.gP _=>bn
 |none=>bn
noncomputable def KT(k:bg->iG->Option bg):B7
 |.val v=>λh=>k v h
 |.gP _=>λ_=>bn
noncomputable def Cn(l:List dK):dA->(List bg->Option bg)->Option bg:=@Ai dK (λ_=>dA->(List bg->Option bg)->Option bg) (λ_ k=>k []) (λx _ ih e k=>oK x e λv=>ih e λvs=>k (v::vs)) l
def Ee:∀{l} {e:dA} {k},Cn l e k=(n6 e l).bind k
 |[],e,k=>rfl
 |x::r,e,k=>by
  show oK x e (λv=>Cn r e λvs=>k (v::vs))=_;simp only[sR,Ee,n6,B1];cases ew e x with
  |none=>rfl
  |some v=>simp only[mT];cases n6 e r<;>rfl
noncomputable def x8:i_->uG->sB->dA->iG->B7->Option bg
 |.op o=>λ_ _ e h k=>tf o e h λv h=>k (.val v) h
 |.call f args=>λc_ cO e h k=>Cn args e λdL=>c_ cO (.fn (.func f) [] []) dL h (KT λv h'=>k (.val v) h')
 |.oH x args=>λc_ cO e h k=>oK x e λx=>Cn args e λdL=>c_ cO x dL h (KT λv h'=>k (.val v) h')
 |.oe f args=>λc_ _ e h k=>Cn args e λdL=>match To c_ f dL with
  |some v=>rR 64 v λv=>k (.val v) h
  |none=>bn
 |.pN f args r=>λc_ _ e h k=>Cn args e λdL=>match To c_ f dL with
  |some v=>rR 64 v λv=>match qx 64 v r with
   |true=>k (.val r) h
   |false=>bn
  |none=>bn
 |.qu f args=>λc_ cO e h k=>Cn args e λdL=>c_ cO (.fn (.func f) [] []) dL h k
 |.qv x args=>λc_ cO e h k=>oK x e λx=>match x with
  |.fn (.func f) fs Z=>Cn args e λdL=>c_ cO (.fn (.func f) fs Z) dL h k
  |_=>bn
 |.gP x=>λ_ _ e h k=>oK x e λx=>match rP x with
  |some v=>k (.gP [{v:=v,recovered:=bf}]) h
  |none=>bn
abbrev DE:=uG->sB->dA->iG->(dA->iG->Option bg)->(List PanicEntry->iG->Option bg)->Option bg
noncomputable def ZO(d:Option Nat)(next:DE):ada->DE:=match d with
 |some d=>λo=>match o with
  |.val v=>λc_ cO e h k kp=>next c_ cO ((d,v)::e) h k kp
  |.gP ch=>λ_ _ _ h _ kp=>kp ch h
 |none=>λo=>match o with
  |.val v=>λc_ cO e h k kp=>next c_ cO e h k kp
  |.gP ch=>λ_ _ _ h _ kp=>kp ch h
noncomputable def TY:dQ->DE->DE
 |⟨d,bn,i⟩=>λnext c_ cO e h k kp=>x8 i c_ cO e h λo h'=>ZO d next o c_ cO e h' k kp
 |⟨d,a_ (g,w),i⟩=>λnext c_ cO e h k kp=>Jf g e λv=>match v with
  |.v (.bool b)=>match Bool.xor b w with
   |false=>x8 i c_ cO e h λo h'=>ZO d next o c_ cO e h' k kp
   |true=>next c_ cO (qJ d jN e) h k kp
  |.bQ []=>next c_ cO (qJ d jN e) h k kp
  |_=>bn
noncomputable def Oc(l:List dQ):DE:=@Ai dQ (λ_=>DE) (λ_ _ e h k _=>k e h) (λo _ ih=>TY o ih) l
def ahg(e:dA):Option (Nat×Bool)->Option Bool
 |none=>a_ bh
 |some (k,w)=>match gU e k with
  |some (.v (.bool b))=>a_ (b==w)
  |some (.bQ [])=>a_ bf
  |_=>bn
noncomputable def aaL(c:dQ)(e:dA)(h:iG):Bool:=match c.ins,c.dst with
 |.op o,a_ d=>match ahg e c.guard with
  |some bh=>match gU e d,tf o e h λu _=>a_ u with
   |some v,a_ u=>qx 64 u v
   |_,_=>bf
  |some bf=>match gU e d with
   |some v=>qx 64 v jN
   |none=>bf
  |none=>bf
 |_,_=>bf
noncomputable def anz(l:List (dQ×List dQ)):DE:=@Ai (dQ×List dQ) (λ_=>DE) (λ_ _ e h k _=>k e h) (λp _ ih=>TY p.1 λc_ cO e h k kp=>match p.2.all (λc=>aaL c e h) with
 |true=>ih c_ cO e h k kp
 |false=>bn) l
abbrev Dz:=Exit->dA->iG->Option bg
noncomputable def Zn(f:dA->iG->Dz->Option bg)(m:Nat):dA->iG->Dz->Option bg:=@K9 (λ_=>dA->iG->Dz->Option bg) (λ_ _ _=>bn) (λ_ ih e h k=>f e h λx=>match x with
 |.normal=>λe' h'=>ih e' h' k
 |x=>λe' h'=>k x e' h') m
noncomputable def Bv(st:LoopState)(pd:Option Code):br:=.ck st pd [] #[] (λ_ _=>False)
noncomputable def aaH(k0:Nat)(L:List Nat)(e:dA)(k:Dz)(h:iG):Option bg:=zK h k0 λb=>match b with
 |.ck st pd _ _ _=>match st with
  |.busy=>bn
  |_=>z1 h k0 (λ_ k=>k (Bv .exhausted pd)) λV=>match pd with
   |none=>vm L e λe'=>k .normal e' V
   |some .ret=>vm L e λe'=>k .ret e' V
   |some (.exit id)=>vm L e λe'=>k (.exit id) e' V
   |_=>bn
 |_=>bn
def abz(t:bg)(d:Nat):bg:=match t with
 |.bQ l=>go l
 |_=>.bq
where go:List bg->bg
 |.bQ [.mp j _,v]::r=>if eU j d then v else go r
 |_=>.bq
abbrev o3:=uG->Nat->Bool->sB->dA->iG->Dz->Option bg
noncomputable def QJ(L:List Nat):o3:=λ_ _ _ _ e h k=>vm L e λe'=>k .normal e' h
noncomputable def QG(ops:List dQ)(L:List Nat):o3:=λc_ _ _ cO e h k=>Oc ops c_ cO e h (λe' h'=>vm L e' λe'=>k .normal e' h') λch h'=>k (.panic ch) (tQ ops e) h'
noncomputable def Gl(xa mw:o3):o3:=λc_ cj nest cO e h k=>xa c_ cj nest cO e h λx=>match x with
 |.normal=>λe' h'=>mw c_ cj nest cO e' h' k
 |x=>λe' h'=>k x e' h'
noncomputable def QB(c:dK)(xa mw:o3):o3:=λc_ cj nest cO e h k=>oK c e λv=>match v with
 |.v (.bool bh)=>xa c_ cj nest cO e h k
 |.v (.bool bf)=>mw c_ cj nest cO e h k
 |_=>bn
noncomputable def Gi(id:Nat)(xa:o3):o3:=λc_ cj nest cO e h k=>xa c_ cj nest cO e h λx=>match x with
 |.exit n_=>λe' h'=>match eU n_ id with
  |true=>k .normal e' h'
  |false=>k (.exit n_) e' h'
 |x=>λe' h'=>k x e' h'
noncomputable def aum(xa:o3):o3:=λc_ cj nest cO e h k=>Zn (xa c_ cj nest cO) cj e h k
noncomputable def QC(id:Nat)(L:List Nat):o3:=λ_ _ _ _ e h k=>vm L e λe'=>k (.exit id) e' h
noncomputable def QI(L:List Nat):o3:=λ_ _ _ _ e h k=>vm L e λe'=>k .ret e' h
noncomputable def QE(x:dK)(ps:List Nat)(a b:eR)(L:List Nat):o3:=λc_ cj nest cO e h k=>oK x e λv=>match v with
 |.fn (.func g) fs Z=>(λgo=>match nest with
  |true=>go h
  |false=>Fa h (.obj (.deferred bn)) go) λY=>l5 Y.n λk0=>Fa Y (Bv .ready bn) λV=>
   c_ ((k0,⟨ps,a,b,e⟩)::cO) (.fn (.func g) [] []) (fs++[.jo k0]++Z) V (KT λ_ h'=>aaH k0 L e k h')
 |_=>bn
noncomputable def QF(ls:List (List dQ))(L:List Nat):o3:=λc_ _ _ cO e h k=>match ls with
 |[]=>bn
 |l0::r=>match Oc l0 c_ cO e h (λe' _=>a_ (.bQ (e'.map λp=>.bQ [.mp p.1 0,p.2]))) (λ_ _=>bn) with
  |some t=>match Oc (l0.map (gx (abz t))) c_ cO e h (λe' h'=>vm L e' λe'=>k .normal e' h') (λch h'=>k (.panic ch) (tQ ls.flatten e) h') with
   |some x=>match r.all (λl=>match Oc (l.map (gx (abz t))) c_ cO e h (λe' h'=>vm L e' λe'=>k .normal e' h') (λch h'=>k (.panic ch) (tQ ls.flatten e) h') with
     |some y=>qx 64 x y
     |none=>bf) with
    |true=>a_ x
    |false=>bn
   |none=>bn
  |none=>bn
noncomputable def QH(l:List (dQ×List dQ))(L:List Nat):o3:=λc_ _ _ cO e h k=>anz l c_ cO e h (λe' h'=>vm L e' λe'=>k .normal e' h') λch h'=>k (.panic ch) (tQ (l.map (·.1)) e) h'
noncomputable def Gk(xa:o3):o3:=λc_ cj nest cO e h k=>xa c_ cj nest cO e h λx=>match x with
 |.goto _=>λ_ _=>bn
 |x=>λe' h'=>k x e' h'
noncomputable def QD(L:List Nat):o3:=λ_ _ _ _ e h k=>vm L e λe'=>k .normal e' h
noncomputable def aul:o3:=λ_ _ _ _ _ _ _=>bn
noncomputable def mF(c:eR):o3:=@eR.rec (λ_=>o3) (λL=>QJ L)
 (λops L=>QG ops L)
 (λ_ _ xa mw=>Gl xa mw)
 (λc _ _ xa mw=>QB c xa mw)
 (λid _ xa=>Gi id xa)
 (λ_ xa=>aum xa)
 (λid L=>QC id L)
 (λL=>QI L)
 (λx ps a b L _ _=>QE x ps a b L)
 (λls L=>QF ls L)
 (λl L=>QH l L)
 (λ_ xa=>Gk xa)
 (λL=>QD L)
 aul c
def afr:mF (.skip L)=QJ L:=rfl
def afn{ops}:mF (.region ops L)=QG ops L:=rfl
def L0{b:eR}:mF (.seq a b)=Gl (mF a) (mF b):=rfl
def afj{c:dK}{b:eR}:mF (.cond c a b)=QB c (mF a) (mF b):=rfl
def LY:mF (.block id a)=Gi id (mF a):=rfl
def afk:mF (.exit id L)=QC id L:=rfl
def afq:mF (.ret L)=QI L:=rfl
def afm{x:dK}{ps}{b:eR}:mF (.r9 x ps a b L)=QE x ps a b L:=rfl
def afo{ls}:mF (.sg ls L)=QF ls L:=rfl
def afp{l}:mF (.rz l L)=QH l L:=rfl
def LZ:mF (.scope a)=Gk (mF a):=rfl
def afl:mF (.lab L)=QD L:=rfl
inductive k3 where
 |plain (n:Nat) (rs:List je) (c:eR)
 |loops (n:Nat) (rs:List je) (c:eR)
 |sN (n:Nat) (rs:List je) (a:eR) (t:Nat) (g:FuncId) (caps:List dK) (b:eR)
 |HO (n d0 d1:Nat) (c:eR)
 |Qe (t:TypeId×Nat)
 |Qj (e:TypeId)
 |SX (l:List (TypeId×String×FuncId))
def aDV:FuncId:=4000000
def Ml:List (TypeId×String×FuncId)->TypeId->String->Option FuncId
 |[],_,_=>bn
 |(t',n',g)::r,t,n=>match eU t' t with
  |true=>match decide (n'=n) with
   |true=>a_ g
   |false=>Ml r t n
  |false=>Ml r t n
def WT:∀{l} {t} {n} {g},Ml l t n=a_ g->(t,n,g)∈l
 |[],_,_,_,h=>aF
 |(t',n',g')::r,t,n,g,h=>by
  unfold Ml at h;split at h;rename_i ht;have:=tD ht;subst this;split at h;rename_i hn;have:=of_decide_eq_true hn;subst this;cases h;exact vG;exact sw _ (WT h);exact sw _ (WT h)
def Le(P:Program)(f:FuncId):k3->Prop
 |.plain n rs c=>(∃hb,tg P hb f=a_ ⟨n,rs,c.b9⟩)/\c.fits n=bh
 |.loops n rs c=>(∃hb,tg P hb f=a_ ⟨n,rs,c.b9⟩)/\c.p8 n bh=bh
 |.sN n rs a t g caps b=>(∃hb,KK P hb f=a_ ⟨n,rs,a.b9,t,g,caps,b.b9⟩)/\a.fits n=bh/\b.fits n=bh/\t<n
 |.HO n d0 d1 c=>(∃hb,KL P hb f=a_ ⟨n,d0,d1,c.b9⟩)/\c.fits n=bh/\d0<n/\d1<n
 |.Qe t=>PE P f t
 |.Qj e=>P1 P f e
 |.SX l=>∀e∈l,SP P e.1 e.2.1=a_ e.2.2
noncomputable def aaF:je->dA->iG->(bg->Option bg)->Option bg
 |.s t=>λe _ k=>Jf t e k
 |.c t bN n=>λe h k=>Jf t e λp=>Hw p bN n h k
def aFv{x:je}:aaF x e (R H) k=(BF e H x).bind k:=by
 cases x with
 |s t=>exact QS
 |c t bN n=>simp only[aaF,QS,ams,BF,B1]
noncomputable def TG:List je->dA->iG->(List bg->Option bg)->Option bg
 |[]=>λ_ _ k=>k []
 |x::r=>λe h k=>aaF x e h λv=>TG r e h λl=>k (v::l)
def aoA:∀{l} {e:dA} {H} {k},TG l e (R H) k=(uu e H l).bind k
 |[],e,H,k=>rfl
 |x::r,e,H,k=>by
  simp only[TG,aFv,aoA,uu,B1];cases BF e H x with
  |none=>rfl
  |some v=>simp only[mT];cases uu e H r<;>rfl
noncomputable def BG(rs:List je)(e:dA)(h:iG)(k:B7):Option bg:=TG rs e h λl=>match l with
 |[x]=>k (.val x) h
 |l=>k (.val (.bQ l)) h
def aFQ{rs}{k}:BG rs e (R H) k=(lz e H rs).bind λv=>k (.val v) (R H):=by
 simp only[BG,aoA,lz];cases uu e H rs with
 |none=>rfl
 |some l=>
  simp only[mT,j3]
  match l with
  |[]=>rfl
  |[x]=>rfl
  |x::y::l=>rfl
def Sz:List bg->Option (List Nat)
 |[]=>a_ []
 |.mp k 0::r=>match Sz r with
  |some l=>a_ (k::l)
  |none=>bn
 |_::_=>bn
def Un:List Value->Option (List bg)
 |[]=>a_ []
 |x::r=>if plain x then(match Un r with|some l=>a_ (.v x::l)|none=>bn) else bn
def abL:Value->Option bg
 |.iface t (.agg Z)=>match Un Z.toList with
  |some l=>a_ (.eD t (.agg l))
  |none=>bn
 |.iface t x=>if plain x then a_ (.eD t (.v x)) else bn
 |_=>bn
noncomputable def Ky(hc:FuncId->Option (k3×Nat))(c_:uG)(cj:Nat)(cO:sB)(g:FuncId)(ks:List Nat)(x:Option bg)(h:iG)(k:iG->Option bg):Option bg:=match hc g with
 |some (.HO n d0 d1 c,_)=>if ks.length<=n then mF c c_ cj bf cO ((d1,qK x)::(d0,qK x)::p6 0 (ks.map λk=>.mp k 0)) h (λx _ h'=>match x with
  |.normal=>k h'
  |.ret=>k h'
  |_=>bn) else bn
 |_=>bn
noncomputable def afU(rs:List je)(k:B7):Dz
 |.normal=>λe h'=>BG rs e h' k
 |.ret=>λe h'=>BG rs e h' k
 |.panic ch=>λ_ h'=>k (.gP ch) h'
 |_=>λ_ _=>bn
noncomputable def ae6(t:TypeId×Nat)(b:Nat)(h:iG)(k:iG->Option bg):Option bg:=zK h b λx=>match x with
 |.cells (.iJ b' t'::z) bf=>match eU b' b&&eU t'.1 t.1&&eU t'.2 t.2 with
  |true=>z1 h b (λ_ k=>k (.cells (.mp b 0::z) bf)) k
  |false=>bn
 |.cells (.mp b' 0::_) bf=>match eU b' b with
  |true=>k h
  |false=>bn
 |_=>bn
noncomputable def TD:List bg->(List UInt8->Option bg)->Option bg
 |[],k=>k []
 |.v (.int .u8 (.ofNat n))::r,k=>match w6 n 255 with
  |true=>TD r λl=>k (vI n::l)
  |false=>bn
 |_::_,_=>bn
noncomputable def apN(e:TypeId)(b:Nat)(h:iG)(k:bg->Option bg):Option bg:=zK h b λx=>match x with
 |.cells [_,.bq] bf=>k (.v (.string .empty))
 |.cells [_,.sl xs (.tok id)] bf=>zK h id λy=>match y with
  |.tok n 1 e'=>match eU n xs.length&&eU e' e&&w6 1 n&&w6 n 140737488355328 with
   |true=>TD xs λl=>k (.v (.string ⟨⟨l⟩⟩))
   |false=>bn
  |_=>bn
 |_=>bn
noncomputable def AU(hc:FuncId->Option (k3×Nat)):k3->uG->Nat->sB->List bg->iG->B7->Option bg
 |.plain n rs c=>λc_ cj cO args h k=>if args.length<=n then mF c c_ cj bf cO (p6 0 args) h (afU rs k) else bn
 |.loops n rs c=>λc_ cj cO args h k=>if args.length<=n then mF c c_ cj bf cO (p6 0 args) h (afU rs k) else bn
 |.sN n rs a t g caps b=>λc_ cj cO args h k=>if args.length<=n then mF a c_ cj bf cO (p6 0 args) h (λx e h'=>match x with
  |.normal=>Cn caps e λdL=>match Sz dL with
   |some ks=>xP (λx k=>l5 x k) ks λks=>mF b c_ cj bf cO ((t,.fn (.func g) [] (ks.map λk=>.mp k 0))::e) h' λx e2 V=>match x with
    |.normal=>Ky hc c_ cj cO g ks bn V λh3=>BG rs e2 h3 k
    |.ret=>Ky hc c_ cj cO g ks bn V λh3=>BG rs e2 h3 k
    |.panic [{v:=v,recovered:=bf,goexit:=bf}]=>match abL v with
     |some xv=>Ky hc c_ cj cO g ks (a_ xv) V λh3=>BG rs e2 h3 k
     |none=>bn
    |_=>bn
   |none=>bn
  |_=>bn) else bn
 |.HO _ _ _ _=>λ_ _ _ _ _ _=>bn
 |.SX _=>λ_ _ _ _ _ _=>bn
 |.Qe t=>λ_ _ _ args h k=>match args with
  |[.mp b 0]=>ae6 t b h λh'=>k (.val (.bQ [])) h'
  |_=>bn
 |.Qj e=>λ_ _ _ args h k=>match args with
  |[.mp b 0]=>apN e b h λv=>k (.val v) h
  |_=>bn
def Q8(k:Nat):sB->Option (ac2×sB)
 |[]=>bn
 |(j,r)::cO=>if j=k then a_ (r,cO) else Q8 k cO
noncomputable def aor(k0:Nat)(k:B7)(x:Exit)(h:iG):Option bg:=zK h k0 λb=>match b with
 |.ck _ _ _ _ _=>match x with
  |.normal=>z1 h k0 (λ_ k=>k (Bv .ready bn)) λh'=>k (.val (.v (.bool bh))) h'
  |.ret=>z1 h k0 (λ_ k=>k (Bv .done (a_ .ret))) λh'=>k (.val (.v (.bool bf))) h'
  |.exit id=>z1 h k0 (λ_ k=>k (Bv .done (a_ (.exit id)))) λh'=>k (.val (.v (.bool bf))) h'
  |_=>bn
 |_=>bn
noncomputable def HL:B7:=λo h=>match o with
 |.val r=>dx (Fp h) 64 r
 |.gP _=>bn
noncomputable def KE:br->br->Bool
 |.cells Z r,.cells cs' r'=>xM (qx 64) Z cs'&&r==r'
 |.tok n s e,.tok n' s' e'=>eU n n'&&eU s s'&&eU e e'
 |.obj (.deferred _),.obj (.deferred _)=>bh
 |.obj (.stringIter s p),.obj (.stringIter s' p')=>Mb (.string s) (.string s')&&eU p p'
 |.eS es cD,.eS nh nJ=>xM (λp q=>qx 64 p.1 q.1&&qx 64 p.2.1 q.2.1&&eU p.2.2 q.2.2) es nh&&eU cD nJ
 |.ck st pd _ _ _,.ck fV lP _ _ _=>(match st,fV with
  |.ready,.ready=>bh
  |.busy,.busy=>bh
  |.exhausted,.exhausted=>bh
  |.done,.done=>bh
  |_,_=>bf)&&(match pd,lP with
  |none,bn=>bh
  |_,_=>bf)
 |_,_=>bf
def aGk{a b:br}(h:KE (b9 a) (b9 b)=bh):b9 a=b9 b:=by
 cases a with
 |cells Z r=>cases b with
  |cells cs' r'=>
   simp only[b9,KE,fh,beq_iff_eq] at h;show bw Z r=bw cs' r';rw[QT (λq=>AO q) h.1,h.2]
  |obj o=>cases o<;>cases h
  |_=>cases h
 |tok n s e=>cases b with
  |tok n' s' e'=>
   simp only[b9,KE,fh,w5] at h;show br.tok n s e=br.tok n' s' e';rw[h.1.1,h.1.2,h.2]
  |obj o=>cases o<;>cases h
  |_=>cases h
 |eS es cD=>cases b with
  |eS nh nJ=>
   simp only[b9,KE,fh,w5] at h;show br.eS es cD=br.eS nh nJ;rw[QT (λ{p q} w=>?_) h.1,h.2];simp only[fh,w5] at w;obtain⟨a,b,c⟩:=p;obtain⟨a',b',c'⟩:=q;obtain⟨⟨w1,w2⟩,w3⟩:=w;have e1:a=a':=AO w1;have e2:b=b':=AO w2;have di:c=c':=w3;rw[e1,e2,di]
  |obj o=>cases o<;>cases h
  |_=>cases h
 |ck st pd bW ps ok=>cases b with
  |ck fV lP LK ps' N6=>
   simp only[b9,KE,fh] at h;obtain⟨Y,V⟩:=h
   have e1:st=fV:=by cases st<;>cases fV<;>first|rfl|cases Y
   subst e1;simp only[b9];split at V;rename_i q1 bt;rw[q1,bt];cases V
  |obj o=>cases o<;>cases h
  |_=>cases h
 |obj o=>
  cases b with
  |obj o'=>
   cases o<;>cases o'<;>first|rfl|(cases h;done)|skip
   rename_i s p s' p';have h':(Mb (.string s) (.string s')&&eU p p')=bh:=h;rw[fh,w5] at h';have:=afZ h'.1;cases this;rw[h'.2]
  |_=>cases o<;>cases h
noncomputable def TI:List br->List br->Bool
 |[],_=>bh
 |_::_,[]=>bf
 |a::r,b::s=>KE a b&&TI r s
def aoR:∀{l m},(∀b∈l,∃a,b=b9 a)->(∀b∈m,∃a,b=b9 a)->TI l m=bh->m.take l.length=l
 |[],_,_,_,_=>af
 |_::_,[],_,_,h=>aF
 |a::r,b::s,Y,V,h=>by
  simp only[TI,fh] at h;obtain⟨a',ha⟩:=Y a af;obtain⟨b',O⟩:=V b af;subst ha;subst O;simp only[eB,qn];rw[aoR (λb O=>Y b aMy) (λb O=>V b aMy) h.2,aGk h.1]
noncomputable def aaZ(h h':iG):Bool:=w6 h.n h'.n&&TI h.l (h'.l.drop (h'.n-h.n))
def aGl{J bl:List br}(h:aaZ (R (J.map b9)) (R (bl.map b9))=bh):(bl.map b9).take J.length=J.map b9:=by
 simp only[aaZ,R,fh,cS] at h;obtain⟨Y,V⟩:=h;have Y:=oX Y;have:=aoR (λb O=>by
  simp only[List.mem_reverse,dX] at O;obtain⟨a,_,rfl⟩:=O;exact⟨a,rfl⟩) (λb O=>by
  have:=rI O;simp only[List.mem_reverse,dX] at this;obtain⟨a,_,rfl⟩:=this;exact⟨a,rfl⟩) V
 rw[ow ah] at this;have h3:=congrArg List.reverse this;rw[aru,List.drop_reverse,aru] at h3;rw[cS] at h3;rw[<-h3];congr 1;omega
noncomputable def aff(h:iG):B7:=λo h'=>match o with
 |.val r=>match aaZ h h' with
  |true=>dx (oN h.n (Fp h')) 64 r
  |false=>bn
 |.gP _=>bn
noncomputable def DZ(hc:FuncId->Option (k3×Nat))(ru:FuncId->List bg->Option bg)(cj:Nat)(c_:uG):uG:=λcO x=>match x with
 |.fn (.func f) fs Z=>λargs h k=>xP (λx k=>k x) (fs++args++Z) λdL=>match hc f with
  |none=>match ku (dx [] 64) dL with
   |some bs=>match ru f bs with
    |some v=>rR 64 v λv=>k (.val v) h
    |none=>bn
   |none=>bn
  |some (qy,pu)=>match pu with
   |0=>AU hc qy c_ cj cO dL h k
   |2=>match AU hc qy c_ cj cO dL h (aff h) with
    |some v=>rR 64 v λv=>k (.val v) h
    |none=>bn
   |_=>match ku (dx [] 64) dL with
    |some bs=>match AU hc qy c_ cj [] bs (R []) HL with
     |some v=>rR 64 v λv=>k (.val v) h
     |none=>bn
    |none=>bn
 |.fn (.method nm) [] _=>λargs h k=>match args with
  |.eD t x::rest=>match hc aDV with
   |some (.SX l,_)=>match Ml l t nm with
    |some g=>c_ cO (.fn (.func g) [] []) (x::rest) h k
    |none=>bn
   |_=>bn
  |_=>bn
 |.jo k0=>λargs h k=>match Q8 k0 cO with
  |some (rc,Fx)=>if args.length=rc.ps.length then zK h k0 λb=>match b with
    |.ck .ready _ _ _ _=>mF rc.a c_ cj bh Fx (vr rc.e (rc.ps.zip args)) h λx e1 Y=>match x with
     |.normal=>zK Y k0 λb=>match b with
      |.ck .ready _ _ _ _=>z1 Y k0 (λ_ k=>k (Bv .busy bn)) λJs=>mF rc.b c_ cj bh Fx e1 Js λx e2 V=>aor k0 k x V
      |_=>bn
     |_=>bn
    |_=>bn
   else bn
  |none=>bn
 |_=>λ_ _ _=>bn
noncomputable def Mg(hc:FuncId->Option (k3×Nat))(ru:FuncId->List bg->Option bg)(cj:Nat):Nat->uG
 |0=>λ_ _ _ _ _=>bn
 |d+1=>DZ hc ru cj (Mg hc ru cj d)
end
section
variable{i:i_}{E:Hid sE}{e:dA}{J:List br}{r v:bg}{cO:sB}{st:LoopState}{pd:Option Code}{bW:List bg}{ps:Array Tmp}{ok:Code->Code->Prop}
section
variable{G:Cells}{P:Program}
def YH{F F'}{E'}(h:@jQ G P i F E e J)(hF:∀v J,F.v v J->F'.v v J)(hE:∀ch J,E.v ch J->E'.v ch J):@jQ G P i F' E' e J:=by
 cases i with
 |op o=>obtain⟨v,Y,V⟩:=h;exact⟨v,Y,hF _ _ V⟩
 |call f args=>obtain⟨dL,Y,V⟩:=h;exact⟨dL,Y,cm V hF⟩
 |oH x args=>
  obtain⟨x',h0,dL,Y,V⟩:=h;exact⟨x',h0,dL,Y,wX V hF⟩
 |oe f args=>obtain⟨dL,Y,bs,r',V,h3,h4⟩:=h;exact⟨dL,Y,bs,r',V,h3,hF _ _ h4⟩
 |pN f args r=>obtain⟨dL,Y,bs,V,h3,h4⟩:=h;exact⟨dL,Y,bs,V,h3,hF _ _ h4⟩
 |qu f args=>obtain⟨dL,Y,V⟩:=h;exact⟨dL,Y,gW V hF hE⟩
 |qv x args=>
  obtain⟨x',h0,dL,Y,V⟩:=h;exact⟨x',h0,dL,Y,ab7 V hF hE⟩
 |gP x=>obtain⟨v,Y,V⟩:=h;exact⟨v,Y,hE _ _ V⟩
def awz{w}{A B A' B'}(h:@u0 w v A B)(Y:A.v->A'.v)(V:B.v->B'.v):@u0 w v A' B':=by
 unfold u0 at h⊢;split at h;cases w with
 |true=>exact⟨λq=>Y (h.1 q),λq=>V (h.2 q)⟩
 |false=>exact⟨λq=>V (h.1 q),λq=>Y (h.2 q)⟩
 exact V h;exact h.elim
def Lt:∀{l} {K K'} {E E'} {e:dA} {J},@kB G P l K E e J->(∀e J,K.v e J->K'.v e J)->(∀ch J,E.v ch J->E'.v ch J)->@kB G P l K' E' e J
 |[],K,K',E,E',e,J,h,S,hE=>by rw[FZ] at h⊢;exact S _ _ h
 |⟨d,g,i⟩::r,K,K',E,E',e,J,h,S,hE=>by
  rcases g with _|⟨k,w⟩
  rw[IP] at h⊢;exact YH h (λv bl q=>Lt q S hE) hE;rw[IN] at h⊢;obtain⟨g,Y,V⟩:=h;exact⟨g,Y,awz V (λq=>YH q (λv bl q=>Lt q S hE) hE) λq=>Lt q S hE⟩
def adj:∀{l} {K K'} {E E'} {e:dA} {J},@uP G P l K E e J->(∀e J,K.v e J->K'.v e J)->(∀ch J,E.v ch J->E'.v ch J)->@uP G P l K' E' e J
 |[],K,K',E,E',e,J,h,S,hE=>by rw[IQ] at h⊢;exact S _ _ h
 |(o,Z)::r,K,K',E,E',e,J,h,S,hE=>by
  rw[IS] at h⊢;exact Lt h (λe J k=>⟨k.1,adj k.2 S hE⟩) hE
def sC(G:Cells)(P:Program)(cO:sB)(J:List br):Prop:=∀k rc,(k,rc)∈cO->∃bW ok st pd,J[k]?=a_ (.ck st pd bW rc.ps.toArray ok)/\
 Vk G P k bW rc.ps ok (λhi e J=>@er G P bh rc.a ⟨hi⟩ e J) (λhi e J=>@er G P bh rc.b ⟨hi⟩ e J) rc.e
def sC.keeps{bl}(h:sC G P cO J)(S:gp J bl):sC G P cO bl:=λk rc hm=>by
 obtain⟨bW,ok,st,pd,Y,V⟩:=h k rc hm;obtain⟨fV,lP,h3⟩:=S _ _ _ _ _ _ Y;exact⟨bW,ok,fV,lP,h3,V⟩
def Za:sC G P [] J:=λk rc hm=>by cases hm
def FP(G:Cells)(P:Program)(c_:uG):Prop:=∀cO x args J k r,sC G P cO J->c_ cO x args (R (J.map b9)) k=a_ r->
 ((∀ch h,k (.gP ch) h=bn)->j4 G P x args J λv bl=>k (.val v) (R (bl.map b9))=a_ r/\gp J bl)/\
 (∀f fs Z,x=.fn (.func f) fs Z->iF G P f (fs++args++Z) J (λv bl=>k (.val v) (R (bl.map b9))=a_ r/\gp J bl) λch bl=>k (.gP ch) (R (bl.map b9))=a_ r/\gp J bl)
def Jm:∀{n:Nat} {x r:bg},dx (J.map b9) n x=a_ r->dx J n x=a_ r
 |0,x,r,h=>aF
 |n+1,x,r,h=>by
  have mp:∀{l} {m},ku (dx (J.map b9) n) l=a_ m->ku (dx J n) l=a_ m:=by
   intro l
   induction l with
   |nil=>intro m h;exact h
   |cons a l ih=>
    intro m h;simp only[ku] at h⊢;split at h;rename_i y hy;rw[Jm hy];simp only;split at h;rename_i l' hl;rw[ih hl];exact h;cases h;cases h
  have E4:∀{l} {g} {y:bg},(ku (dx (J.map b9) n) l).map g=a_ y->(ku (dx J n) l).map g=a_ y:=by
   intro l g y h;rw[dF] at h⊢;obtain⟨m,Y,V⟩:=h;exact⟨m,mp Y,V⟩
  unfold dx at h⊢;cases x<;>simp only at h⊢
  case v=>exact h
  case bq=>exact h
  case agg=>exact E4 h
  case bQ=>exact E4 h
  case sl=>exact E4 h
  case fp=>exact E4 h
  case eD t x=>
   rw[dF] at h⊢;obtain⟨y,Y,V⟩:=h;exact⟨y,Jm Y,V⟩
  case fn f a b=>
   simp only[gS] at h⊢;obtain⟨a',Y,V⟩:=h;exact⟨a',mp Y,E4 V⟩
  case mp k off=>
   split at h;rename_i Z S;rw[sO S];exact E4 h;cases h
  case rp k m off=>
   split at h;rename_i Z S;rw[sO S];simp only;split at h;rename_i T;rw[if_pos T];exact E4 h;cases h;cases h
  case rs k m sz off len=>
   split at h;rename_i Z S;rw[sO S];simp only;split at h;rename_i T;rw[if_pos T];exact E4 h;cases h;cases h
  all_goals cases h
def I8{f}{fs Z args}{K}:j4 G P (.fn (.func f) fs Z) args J K=ct G P f (fs++args++Z) J K:=rfl
def abO{k}:∀ch h,KT k (.gP ch) h=bn:=λ_ _=>rfl
def anV{c_:uG}(jc:FP G P c_){f}{dL}(h:To c_ f dL=a_ v):∃bs,oA dL bs/\cI G P f bs v:=by
 unfold To at h;split at h;rename_i bs MI;refine⟨bs,W4 MI,eA ?_⟩;have:=(jc [] (.fn (.func f) [] []) bs [] _ v Za h).1 λ_ _=>rfl;rw[I8,gd,fZ] at this;exact cm this λr bl k=>⟨64,Jm (by have:=k.1;rw[Ic] at this;exact this)⟩;cases h
variable{c_:uG}(jc:FP G P c_)
include jc
def azN{k}(fN:sC G P cO J)(h:x8 i c_ cO e (R (J.map b9)) k=a_ r):
  @jQ G P i ⟨λv bl=>k (.val v) (R (bl.map b9))=a_ r/\gp J bl⟩ ⟨λch bl=>k (.gP ch) (R (bl.map b9))=a_ r/\gp J bl⟩ e J:=by
 cases i with
 |op o=>
  simp only[x8,anx,gS] at h;obtain⟨⟨v,hE⟩,Y,V⟩:=h;obtain⟨bl,q1,rfl,bV⟩:=afh J v hE Y;exact⟨(v,bl),q1,V,bV⟩
 |call f args=>
  simp only[x8,Ee,gS] at h;obtain⟨dL,Y,V⟩:=h;have:=(jc cO _ dL J _ r fN V).1 abO;rw[I8,gd,fZ] at this;exact⟨dL,Y,this⟩
 |oH x args=>
  simp only[x8,sR,Ee,gS] at h;obtain⟨x',h0,dL,Y,V⟩:=h;exact⟨x',h0,dL,Y,(jc cO _ dL J _ r fN V).1 abO⟩
 |oe f args=>
  simp only[x8,Ee,gS] at h;obtain⟨dL,Y,V⟩:=h;split at V;rename_i v hv;rw[AV] at V;obtain⟨bs,q1,bt⟩:=anV jc hv;exact⟨dL,Y,bs,v,q1,bt,V,tw J⟩;cases V
 |pN f args r'=>
  simp only[x8,Ee,gS] at h;obtain⟨dL,Y,V⟩:=h;split at V;rename_i v hv;rw[AV] at V;obtain⟨bs,q1,bt⟩:=anV jc hv;split at V;rename_i lI;have:=AO lI;subst this;exact⟨dL,Y,bs,q1,bt,V,tw J⟩;cases V;cases V
 |qu f args=>
  simp only[x8,Ee,gS] at h;obtain⟨dL,Y,V⟩:=h;have:=(jc cO _ dL J _ r fN V).2 f [] [] rfl;rw[gd,fZ] at this;exact⟨dL,Y,this⟩
 |qv x args=>
  simp only[x8,sR,gS] at h;obtain⟨x',h0,V⟩:=h;split at V;rename_i f fs Z;simp only[Ee,gS] at V;obtain⟨dL,Y,V⟩:=V;exact⟨_,h0,dL,Y,(jc cO _ dL J _ r fN V).2 f fs Z rfl⟩;cases V
 |gP x=>
  simp only[x8,sR,gS] at h;obtain⟨x',h0,V⟩:=h;split at V;rename_i v hv;exact⟨v,by rw[h0];exact hv,V,tw J⟩;cases V
def apl{o}{next}{kn}{kp}{l}{K}(fN:sC G P cO J)(h:TY o next c_ cO e (R (J.map b9)) kn kp=a_ r)
  (hn:∀e bl,gp J bl->next c_ cO e (R (bl.map b9)) kn kp=a_ r->@kB G P l K E e bl) (hE:∀ch bl,gp J bl->kp ch (R (bl.map b9))=a_ r->E.v ch bl):@kB G P (o::l) K E e J:=by
 obtain⟨d,g,i⟩:=o;have tu:x8 i c_ cO e (R (J.map b9)) (λo h'=>ZO d next o c_ cO e h' kn kp)=a_ r->@jQ G P i ⟨λv bl=>@kB G P l K E (qJ d v e) bl⟩ E e J:=λq=>by
  refine YH (azN jc fN q) (λv bl ⟨k1,k2⟩=>?_) λch bl ⟨k1,k2⟩=>hE ch bl k2 (by cases d<;>exact k1);refine hn _ bl k2 ?_;cases d<;>exact k1
 cases g with
 |none=>rw[IP];exact tu h
 |some awA=>
  obtain⟨g,w⟩:=awA;rw[IN];simp only[TY,QS,gS] at h;obtain⟨v,Y,V⟩:=h;refine⟨v,Y,?_⟩;dsimp only;split at V
  · rename_i b
    cases I:Bool.xor b w with
    |false=>
     rw[I] at V
     have O:b=w:=by cases b<;>cases w<;>first|rfl|cases I
     subst O;cases b with
     |true=>exact⟨λ_=>tu V,nofun⟩
     |false=>exact⟨nofun,λ_=>tu V⟩
    |true=>
     rw[I] at V;have no:=hn _ J (tw J) V
     cases b<;>cases w<;>first|(cases I;done)|skip
     exact⟨nofun,λ_=>no⟩;exact⟨λ_=>no,nofun⟩
  exact hn _ J (tw J) V;cases V
def Tf:∀{l} {cO:sB} {e:dA} {J} {kn} {kp} {r:bg},sC G P cO J->Oc l c_ cO e (R (J.map b9)) kn kp=a_ r->
  @kB G P l ⟨λe' bl=>kn e' (R (bl.map b9))=a_ r/\gp J bl⟩ ⟨λch bl=>kp ch (R (bl.map b9))=a_ r/\gp J bl⟩ e J
 |[],cO,e,J,kn,kp,r,fN,h=>by rw[FZ];exact⟨h,tw J⟩
 |o::l,cO,e,J,kn,kp,r,fN,h=>by
  refine apl jc fN h (λe bl S q=>?_) λch bl S q=>⟨q,S⟩;exact Lt (Tf (fN.keeps S) q) (λe jk k=>⟨k.1,S.trans k.2⟩) λch jk k=>⟨k.1,S.trans k.2⟩
omit jc in
def aFG{c}(h:aaL c e (R (J.map b9))=bh):r_ c e J:=by
 unfold aaL at h;unfold r_;split at h;rename_i o d Q hd;have tu:(match gU e d,tf o e (R (J.map b9)) λu _=>a_ u with|some v,a_ u=>qx 64 u v|_,_=>bf)=bh->@hD _ (gU e d) ⟨λv=>@hD _ (cE e J o) ⟨λr=>r.1=v⟩⟩:=λq=>by
  split at q;rename_i v u hv hu;rw[anx,gS] at hu;obtain⟨⟨u',hE⟩,hu,h3⟩:=hu;cases h3;obtain⟨bl,q1,_,_⟩:=afh J _ hE hu;exact⟨v,hv,(_,bl),q1,AO q⟩;cases q
 rw[Q,hd];simp only;unfold ahg at h;split at h;rename_i hg;split at hg;rename_i T;rw[T];exact tu h;rename_i k w T;rw[T];split at hg;rename_i b S;simp only[ox,beq_iff_eq] at hg;subst hg;refine⟨_,S,?_⟩;cases b with
 |true=>exact⟨λ_=>tu h,nofun⟩
 |false=>exact⟨nofun,λ_=>tu h⟩
 cases hg;cases hg;rename_i hg;have no:@hD _ (gU e d) ⟨λv=>v=jN⟩:=by
  split at h;rename_i v hv;exact⟨v,hv,AO h⟩;cases h
 split at hg;cases hg;rename_i k w T;rw[T];split at hg;rename_i b S;simp only[ox,beq_eq_false_iff_ne,ne_eq] at hg;refine⟨_,S,?_⟩
 cases b<;>cases w<;>first|(exact(hg rfl).elim)|skip
 exact⟨nofun,λ_=>no⟩;exact⟨λ_=>no,nofun⟩;rename_i S;exact⟨_,S,no⟩;cases hg;cases h;cases h
def anA:∀{l} {cO:sB} {e:dA} {J} {kn} {kp} {r:bg},sC G P cO J->anz l c_ cO e (R (J.map b9)) kn kp=a_ r->
  @uP G P l ⟨λe' bl=>kn e' (R (bl.map b9))=a_ r/\gp J bl⟩ ⟨λch bl=>kp ch (R (bl.map b9))=a_ r/\gp J bl⟩ e J
 |[],cO,e,J,kn,kp,r,fN,h=>by rw[IQ];exact⟨h,tw J⟩
 |(o,Z)::l,cO,e,J,kn,kp,r,fN,h=>by
  rw[IS];refine apl jc fN h (λe bl S q=>?_) λch bl S q=>⟨q,S⟩;rw[FZ];dsimp only at q⊢;split at q;rename_i kT;refine⟨?_,adj (anA (fN.keeps S) q) (λe jk k=>⟨k.1,S.trans k.2⟩) λch jk k=>⟨k.1,S.trans k.2⟩⟩;clear q h
  induction Z with
  |nil=>trivial
  |cons c Z ih=>
   simp only[qk,fh] at kT;exact⟨aFG kT.1,ih kT.2⟩
  cases q
omit jc in
def aDk{a:eR}{nest}{f}{k:Dz}{gv:List br}(fN:sC G P cO gv)(hf:∀e J k,sC G P cO J->f e (R (J.map b9)) k=a_ r->@er G P nest a ⟨λx e' bl=>k x e' (R (bl.map b9))=a_ r/\gp J bl⟩ e J){m:Nat}(S:gp gv J)(h:Zn f m e (R (J.map b9)) k=a_ r):@er G P nest (.loop a) ⟨λx e' bl=>k x e' (R (bl.map b9))=a_ r/\gp gv bl⟩ e J:=by
 rw[OY];refine⟨λm e J=>Zn f m e (R (J.map b9)) k=a_ r/\gp gv J,m,⟨h,S⟩,λm e J ⟨Y,V⟩=>?_⟩;cases m with
 |zero=>cases Y
 |succ m=>
  refine tq (hf e J _ (fN.keeps V) Y) λx e' bl ⟨k1,k2⟩=>?_;cases x with
  |normal=>exact⟨m,yQ m,k1,V.trans k2⟩
  |_=>exact⟨k1,V.trans k2⟩
omit jc in
def YY{k:Nat}{fV}{lP}(S:J[k]?=a_ (.ck st pd bW ps ok)):gp J (J.set k (.ck fV lP bW ps ok)):=λj gV anP aJr aK_ Z0 h=>by
 by_cases e:k=j;subst e;rw[S] at h;cases h;exact⟨fV,lP,bT (cJ.1 S).1⟩;exact⟨gV,anP,aM6⟩
omit jc in
def Mf{k:Nat}:(J.set k (.ck st pd bW ps ok)).map b9=(J.map b9).set k (Bv st (match st with|.busy=>bn|_=>pd)):=by
 rw[yN];rfl
omit jc in
def Cd:type_of% @afr/\type_of% @QJ.eq_1/\type_of% @afn/\type_of% @QG.eq_1/\type_of% @L0/\type_of% @Gl.eq_1/\type_of% @afj/\type_of% @QB.eq_1/\type_of% @LY/\type_of% @Gi.eq_1/\type_of% @afk/\type_of% @QC.eq_1/\type_of% @afq/\type_of% @QI.eq_1/\type_of% @afm/\type_of% @QE.eq_1/\type_of% @afo/\type_of% @QF.eq_def/\type_of% @afp/\type_of% @QH.eq_1/\type_of% @LZ/\type_of% @Gk.eq_1/\type_of% @afl/\type_of% @QD.eq_1:=
 ⟨@afr,@QJ.eq_1,@afn,@QG.eq_1,@L0,@Gl.eq_1,@afj,@QB.eq_1,@LY,@Gi.eq_1,@afk,@QC.eq_1,@afq,@QI.eq_1,@afm,@QE.eq_1,@afo,@QF.eq_def,@afp,@QH.eq_1,@LZ,@Gk.eq_1,@afl,@QD.eq_1⟩
def Gj{cj:Nat}:∀{c:eR} {nest:Bool} {cO:sB} {e:dA} {J:List br} {k:Dz} {r:bg},sC G P cO J->mF c c_ cj nest cO e (R (J.map b9)) k=a_ r->
  @er G P nest c ⟨λx e' bl=>k x e' (R (bl.map b9))=a_ r/\gp J bl⟩ e J:=by
 intro c
 induction c with
 |skip L=>intro nest cO e J k r fN h;rw[O4];simp only[Cd,ye] at h;exact⟨h,tw J⟩
 |lab L=>intro nest cO e J k r fN h;rw[OX];simp only[Cd,ye] at h;exact⟨h,tw J⟩
 |bad=>intro nest cO e J k r fN h;cases h
 |exit id L=>intro nest cO e J k r fN h;rw[OW];simp only[Cd,ye] at h;exact⟨h,tw J⟩
 |ret L=>intro nest cO e J k r fN h;rw[O2];simp only[Cd,ye] at h;exact⟨h,tw J⟩
 |region ops L=>
  intro nest cO e J k r fN h;rw[O0];simp only[Cd,ye] at h;exact Tf jc fN h
 |rz l L=>
  intro nest cO e J k r fN h;rw[O1];simp only[Cd,ye] at h;exact anA jc fN h
 |sg ls L=>
  intro nest cO e J k r fN h;rw[KW];cases ls with
  |nil=>cases h
  |cons l0 ls=>
   simp only[Cd,ye] at h;split at h;rename_i t _;split at h;rename_i x I;split at h;rename_i kT;cases h;refine⟨abz t,λl hl=>?_⟩;rw[fc] at hl
   rcases hl with rfl|hl
   exact Tf jc fN I;have:=eG.1 kT l hl;split at this;rename_i y hy;rw[<-AO this] at hy;exact Tf jc fN hy;cases this;cases h;cases h;cases h
 |seq a b j_ ue=>
  intro nest cO e J k r fN h;rw[Ig];simp only[L0,Gl,LY,Gi,LZ,Gk] at h;refine tq (j_ fN h) λx e' bl ⟨k1,k2⟩=>?_;cases x with
  |normal=>exact tq (ue (fN.keeps k2) k1) λx e2 jk ⟨q1,bt⟩=>⟨q1,k2.trans bt⟩
  |_=>exact⟨k1,k2⟩
 |cond c a b j_ ue=>
  intro nest cO e J k r fN h;rw[OV];simp only[Cd,sR,gS] at h;obtain⟨v,Y,V⟩:=h;refine⟨v,Y,?_⟩;dsimp only;split at V;exact⟨λ_=>j_ fN V,nofun⟩;exact⟨nofun,λ_=>ue fN V⟩;cases V
 |block id a j_=>
  intro nest cO e J k r fN h;rw[De];simp only[L0,Gl,LY,Gi,LZ,Gk] at h;refine tq (j_ fN h) λx e' bl ⟨k1,k2⟩=>?_;cases x with
  |exit n_=>
   simp only[xE];dsimp only at k1;split at k1;rename_i hq;rw[if_pos (tD hq)];exact⟨k1,k2⟩;rename_i hq;rw[if_neg (λq=>by subst q;rw[Nat.beq_refl] at hq;cases hq)];exact⟨k1,k2⟩
  |_=>exact⟨k1,k2⟩
 |scope a j_=>
  intro nest cO e J k r fN h;rw[O3];simp only[L0,Gl,LY,Gi,LZ,Gk] at h;refine tq (j_ fN h) λx e' bl ⟨k1,k2⟩=>?_;cases x with
  |goto l=>cases k1
  |_=>exact⟨k1,k2⟩
 |loop a j_=>
  intro nest cO e J k r fN h;exact aDk fN (λe J k fN h=>j_ fN h) (tw J) h
 |r9 x ps a b L j_ ue=>
  intro nest cO e J k r fN h;rw[BN];simp only[Cd,sR,gS] at h;obtain⟨v,Y,V⟩:=h;split at V
  · rename_i g fs Z
    refine⟨g,fs,Z,Y,λk0 xV bW ok hR=>?_⟩;have JD:J.map b9++(if nest=bh then [] else [.obj (.deferred bn)])=(J++marks nest).map b9:=by
     rw[gz];cases nest<;>rfl
    have Ew:(J++marks nest).map b9++[Bv .ready bn]=(J++marks nest++[qj .ready bn bW ps.toArray ok]).map b9:=by
     rw[gz (l₁:=J++marks nest)];rfl
    have V:c_ ((k0,⟨ps,a,b,e⟩)::cO) (.fn (.func g) [] []) (fs++[.jo k0]++Z) (R ((J++marks nest++[qj .ready bn bW ps.toArray ok]).map b9)) (KT λ_ h'=>aaH k0 L e k h')=a_ r:=by
     have rn:∀H,(R H).n=H.length:=λ_=>rfl;rw[<-Ew,<-JD];cases nest with
     |true=>
      simp only[Tq,vZ,rn] at V;simp only[marks,if_true,fZ] at xV⊢;rw[cS,<-xV] at V;exact V
     |false=>
      simp only[Tq,vZ,rn] at V;simp only[marks,kJ,if_false] at xV⊢;rw[dO,cS,ov] at V;rw[dO,ov] at xV;rw[<-xV] at V;exact V
    have jX:(J++marks nest++[qj .ready bn bW ps.toArray ok])[k0]?=a_ (.ck .ready bn bW ps.toArray ok):=by
     rw[xV,fJ (b_ _),kY];rfl
    have azj:sC G P ((k0,⟨ps,a,b,e⟩)::cO) (J++marks nest++[qj .ready bn bW ps.toArray ok]):=λj rc hm=>by
     rcases fc.1 hm with hm|hm
     cases hm;exact⟨bW,ok,.ready,bn,jX,hR⟩;exact(fN.keeps (Bu.trans Bu)) j rc hm
    have:=(jc _ _ _ _ _ r azj V).1 abO;rw[I8,gd,fZ] at this;refine cm this λv bl ⟨q1,bt⟩=>?_;obtain⟨st,pd,e8⟩:=bt _ _ _ _ _ _ jX;refine⟨st,pd,e8,?_⟩;have he:(bl.map b9)[k0]?=a_ (b9 (.ck st pd bW ps.toArray ok)):=by rw[fD,e8];rfl
    simp only[KT,aaH,CT,he,b9,mT] at q1;have Bf:gp J (bl.set k0 (.ck .exhausted pd bW ps.toArray ok)):=(Bu.trans Bu).trans (bt.trans (YY e8));have G4:(bl.set k0 (.ck .exhausted pd bW ps.toArray ok)).map b9=(bl.map b9).set k0 (Bv .exhausted pd):=Mf;cases st<;>simp only[reduceCtorEq,ne_eq,not_false_eq_true,not_true_eq_false,true_and,false_and] at q1⊢
    all_goals
     rw[KS,he] at q1;simp only[mT] at q1;rw[<-G4] at q1;cases pd with
     |none=>simp only[ye] at q1;exact⟨q1,Bf⟩
     |some c=>
      cases c with
      |ret=>simp only[ye] at q1;exact⟨q1,Bf⟩
      |exit id=>simp only[ye] at q1;exact⟨q1,Bf⟩
      |_=>cases q1
  cases V
end
end
section
variable{J:List br}{r:bg}{c_:uG}{cO:sB}{f:FuncId}{qy:k3}{args:List bg}
section
variable{G:Cells}{P:Program}{hc:FuncId->Option (k3×Nat)}{ru:FuncId->List bg->Option bg}{cj:Nat}
def Vq(P:Program)(hc:FuncId->Option (k3×Nat)):Prop:=∀f qy pu,hc f=a_ (qy,pu)->Le P f qy
def Vi(G:Cells)(P:Program)(hc:FuncId->Option (k3×Nat))(ru:FuncId->List bg->Option bg):Prop:=∀f args r,hc f=bn->ru f args=a_ r->cI G P f args r
def aFP{e:dA}{rs}(h:lz e (J.map b9) rs=a_ r):lz e J rs=a_ r:=by
 have key:∀{rs} {l},uu e (J.map b9) rs=a_ l->uu e J rs=a_ l:=by
  intro rs
  induction rs with
  |nil=>intro l h;exact h
  |cons x rs ih=>
   intro l h;simp only[uu,gS,dF] at h⊢;obtain⟨a,Y,l',V,h3⟩:=h;refine⟨a,?_,l',ih V,h3⟩;cases x with
   |s t=>exact Y
   |c t bN n=>
    simp only[BF,gS] at Y⊢;obtain⟨p,q1,bt⟩:=Y;exact⟨p,q1,adZ bt⟩
 unfold lz at h⊢;rw[dF] at h⊢;obtain⟨l,Y,V⟩:=h;exact⟨l,key Y,V⟩
def Wy{n0:Nat}{bl}(h:oy n0 J bl):bl.map b9=J.map b9/\gp J bl:=by
 constructor;apply FH;intro k;rw[fD,fD]
 rcases h.2 k with q|⟨_,q1,bt⟩
 rw[q];rw[q1,bt];rfl;intro k st pd bW ps ok S
 rcases h.2 k with q|⟨_,q1,bt⟩
 exact⟨st,pd,by rw[q];exact S⟩;rw[q1] at S;cases S
def aqk:∀{l} {xs},Un l=a_ xs->UA xs=a_ l/\mN.Ko xs=bh
 |[],xs,h=>by cases h;exact⟨rfl,rfl⟩
 |x::r,xs,h=>by
  simp only[Un] at h;split at h;rename_i J;split at h;rename_i l hl;cases h;obtain⟨Y,V⟩:=aqk hl;exact⟨by simp[UA,sL,Y],by simp[mN.Ko,mN,J,V]⟩;cases h;cases h
def aIu{v}{x:bg}(h:abL v=a_ x):yh x=bh/\rP x=a_ v:=by
 unfold abL at h;split at h;rename_i t Z;split at h;rename_i l hl;cases h;obtain⟨Y,V⟩:=aqk hl;exact⟨by simp[yh,mN,V],by simp[rP,sL,Y]⟩;cases h;rename_i t x _;split at h;rename_i J;cases h;exact⟨by simp[yh,mN,J],by simp[rP,sL]⟩;cases h;cases h
def alT:∀{l} {ks},Sz l=a_ ks->l=ks.map λk=>.mp k 0
 |[],ks,h=>by cases h;rfl
 |x::r,ks,h=>by
  unfold Sz at h;split at h;rename_i lI;cases lI;rename_i k r' lI;cases lI;split at h;rename_i l hl;cases h;rw[alT hl];rfl;cases h;cases h
def aot:∀{xs} {k} {r:bg},TD xs k=a_ r->∃l:List UInt8,xs=l.map (λc=>.v (.int .u8 c.toNat))/\k l=a_ r
 |[],k,r,h=>⟨[],rfl,h⟩
 |x::xs,k,r,h=>by
  unfold TD at h;split at h;rename_i lI;cases lI;rename_i k' n r' lI;cases lI;split at h;rename_i hn;have hn:=oX hn;obtain⟨l,Y,V⟩:=aot h;refine⟨vI n::l,?_,V⟩;rw[fQ,<-Y];have:(vI n).toNat=n:=ah
  rw[this];rfl;cases h;cases h
variable(hm:P.follows .mixedOrders=bh)(hT:Vq P hc)
include hm hT
def aF8(jc:FP G P c_){g}{ks}{x}{v}{k}(fN:sC G P cO J)
  (I:match x,v with|none,bn=>True|some x,a_ v=>yh x=bh/\rP x=a_ v|_,_=>False)
  (h:Ky hc c_ cj cO g ks x (R (J.map b9)) k=a_ r):kZ G P g (ks.map λk=>.mp k 0) J v λbl=>k (R (bl.map b9))=a_ r/\gp J bl:=by
 unfold Ky at h;split at h;rename_i n d0 d1 c pu aw3;obtain⟨⟨hb,F⟩,hf,h0,Y⟩:=hT _ _ _ aw3;split at h;rename_i hn;refine afC hm F hf ⟨h0,Y⟩ aLS I ?_;refine tq (Gj jc fN h) λx e' bl ⟨q1,bt⟩=>?_;cases x with
 |normal=>exact⟨q1,bt⟩
 |ret=>exact⟨q1,bt⟩
 |_=>cases q1
 cases h;cases h
def WW(jc:FP G P c_)(qC:Le P f qy){k}(fN:sC G P cO J)
  (h:AU hc qy c_ cj cO args (R (J.map b9)) k=a_ r):iF G P f args J (λv bl=>k (.val v) (R (bl.map b9))=a_ r/\gp J bl) λch bl=>k (.gP ch) (R (bl.map b9))=a_ r/\gp J bl:=by
 have C6:∀{rs} {e:dA} {eK},gp J eK->BG rs e (R (eK.map b9)) k=a_ r->@hD _ (lz e eK rs) ⟨λv=>k (.val v) (R (eK.map b9))=a_ r/\gp J eK⟩:=λS q=>by
  rw[aFQ,gS] at q;obtain⟨v,hv,q⟩:=q;exact⟨v,aFP hv,q,S⟩
 cases qy with
 |plain n rs c=>
  obtain⟨⟨hb,F⟩,hf⟩:=qC;simp only[AU] at h;split at h;rename_i hn;refine agD hm F hf hn (tq (Gj jc fN h) λx e' bl ⟨q1,bt⟩=>?_);cases x with
  |normal=>exact C6 bt q1
  |ret=>exact C6 bt q1
  |panic ch=>exact⟨q1,bt⟩
  |_=>cases q1
  cases h
 |loops n rs c=>
  obtain⟨⟨hb,F⟩,hf⟩:=qC;simp only[AU] at h;split at h;rename_i hn;refine agE hm F hf hn (tq (Gj jc fN h) λx e' bl ⟨q1,bt⟩=>?_);cases x with
  |normal=>
   intro jk he;obtain⟨w1,w2⟩:=Wy he;have aFj:BG rs e' (R (jk.map b9)) k=a_ r:=by rw[w1];exact q1
   exact C6 (bt.trans w2) aFj
  |ret=>
   intro jk he;obtain⟨w1,w2⟩:=Wy he;exact C6 (bt.trans w2) (by rw[w1];exact q1)
  |panic ch=>
   intro jk he;obtain⟨w1,w2⟩:=Wy he;refine⟨?_,bt.trans w2⟩;show k (.gP ch) (R (jk.map b9))=a_ r;rw[w1];exact q1
  |_=>cases q1
  cases h
 |sN n rs a t g caps b=>
  obtain⟨⟨hb,F⟩,MR,MS,ht⟩:=qC;simp only[AU] at h;split at h;rename_i hn;refine FB (agC hm F MR MS ht hn (tq (Gj jc fN h) λx e1 eK ⟨q1,bt⟩=>?_));cases x with
  |normal=>
   simp only[Ee,gS] at q1;obtain⟨dL,w1,w2⟩:=q1;split at w2;rename_i ks sZ;rw[Gv vZ] at w2;refine⟨ks,by rw[w1,alT sZ],tq (Gj jc (fN.keeps bt) w2) λx e2 jk ⟨u1,u2⟩=>?_⟩;have fin:∀{x} {v},(match x,v with|none,bn=>True|some x,a_ v=>yh x=bh/\rP x=a_ v|_,_=>False)->Ky hc c_ cj cO g ks x (R (jk.map b9)) (λh3=>BG rs e2 h3 k)=a_ r->
     kZ G P g (ks.map λk=>.mp k 0) jk v λbl=>@hD _ (lz e2 bl rs) ⟨λv=>k (.val v) (R (bl.map b9))=a_ r/\gp J bl⟩:=λI q=>
    kZ.mono (aF8 hm hT jc (fN.keeps (bt.trans u2)) I q) λxY ⟨b7,z2⟩=>C6 ((bt.trans u2).trans z2) b7
   cases x with
   |normal=>exact fin (v:=bn) trivial u1
   |ret=>exact fin (v:=bn) trivial u1
   |panic ch=>
    split at u1;rename_i lI;cases lI;rename_i lI;cases lI;rename_i v lI;cases lI;split at u1;rename_i xv azb;exact⟨v,rfl,fin (aIu azb) u1⟩;cases u1;cases u1
   |_=>cases u1
   cases w2
  |_=>cases q1
  cases h
 |HO n d0 d1 c=>cases h
 |SX l=>simp only[AU] at h;cases h
 |Qe t=>
  simp only[AU] at h;split at h;rename_i b;unfold ae6 at h;rw[CT,gS] at h;obtain⟨blk,Jy,h⟩:=h;split at h;rename_i b' t' z;have O:=sO Jy;split at h;rename_i T;simp only[fh,w5] at T;obtain⟨⟨rfl,Y⟩,V⟩:=T;have ht:=Prod.ext Y V;subst ht;rw[KS,Jy] at h;refine FB (cm (aeQ qC O) ?_);rintro r' bl ⟨rfl,rfl⟩;have hs:(J.set b' (.cells (.mp b' 0::z) bf)).map b9=(J.map b9).set b' (.cells (.mp b' 0::z) bf):=aLz
  rw[hs];exact⟨h,zy O nofun⟩;cases h;rename_i b' z;have O:=sO Jy;split at h;rename_i T;have:=tD T;subst this;refine FB (cm (aeT qC O) ?_);rintro r' bl ⟨rfl,rfl⟩;exact⟨h,tw _⟩;cases h;cases h;cases h
 |Qj e=>
  simp only[AU] at h;split at h;rename_i b;unfold apN at h;rw[CT,gS] at h;obtain⟨blk,Jy,h⟩:=h;split at h;rename_i c0;have O:=sO Jy;refine FB (cm (aeS qC O) ?_);rintro r' bl ⟨rfl,rfl⟩;exact⟨h,tw _⟩;rename_i c0 xs id;rw[CT,gS] at h;obtain⟨aJB,axi,h⟩:=h;split at h;rename_i n e';split at h;rename_i T;simp only[fh,w5] at T;obtain⟨⟨⟨Y,V⟩,h3⟩,h4⟩:=T;have h3:=oX h3;have h4:=oX h4;obtain⟨l,hl,S⟩:=aot h;subst hl;subst V;have hn:n=l.length:=by rw[Y,cS]
  subst hn;refine FB (cm (aeR qC (sO Jy) (WL axi) (by intro e;subst e;simp at h3) h4) ?_);rintro r' bl ⟨rfl,rfl⟩;exact⟨S,tw _⟩;cases h;cases h;cases h;cases h
omit hm hT in
def agq{k:Nat}:∀{cO:sB} {rc} {Fx:sB},Q8 k cO=a_ (rc,Fx)->(k,rc)∈cO/\∀x∈Fx,x∈cO
 |[],_,_,h=>aF
 |(j,r)::cO,rc,Fx,h=>by
  simp only[Q8] at h;split at h;rename_i e;subst e;cases h;exact⟨vG,λx I=>sw _ I⟩;obtain⟨Y,V⟩:=agq h;exact⟨sw _ Y,λx I=>sw _ (V x I)⟩
def atB(Cp:Vi G P hc ru){c_:uG}(jc:FP G P c_):FP G P (DZ hc ru cj c_):=by
 intro cO x args J k r fN h;have fn:∀f fs Z,x=.fn (.func f) fs Z->iF G P f (fs++args++Z) J (λv bl=>k (.val v) (R (bl.map b9))=a_ r/\gp J bl) λch bl=>k (.gP ch) (R (bl.map b9))=a_ r/\gp J bl:=by
  intro f fs Z I;subst I;simp only[DZ] at h;rw[Gv λ_ _=>rfl] at h;split at h;rename_i Xt;split at h;rename_i bs MI;split at h;rename_i v hv;rw[AV] at h;exact FB (h_ (Cp _ _ _ Xt hv) (W4 MI) ⟨h,tw J⟩);cases h;cases h;rename_i qy pu Xt;have qC:=hT _ _ _ Xt;split at h;exact WW hm hT jc qC fN h;split at h;rename_i v hv;rw[AV] at h;have gv:ct G P f (fs++args++Z) J λr bl=>(bl.map b9).take J.length=J.map b9/\gp J bl/\∃n,dx (oN J.length bl) n r=a_ v:=by
   have:=WW hm hT jc qC fN hv;refine iF.ok ⟨this.1,λbase w0 C M w dn hs D=>(this.2 base w0 C M w dn hs D).mono λe w' ⟨bI,M',bl,Y,V,h3⟩=>⟨bI,M',bl,Y,V,?_⟩⟩
   rcases h3 with⟨v',u',q,rest⟩|⟨ch,q,rest⟩
   refine bD ⟨v',u',?_,rest⟩;obtain⟨q1,bt⟩:=q;simp only[aff] at q1;split at q1;rename_i Yo;refine⟨aGl Yo,bt,64,?_⟩;have rn:(R (J.map b9)).n=J.length:=cS _;rw[rn,Ic,aDG] at q1;exact Jm q1;cases q1;exact(by cases q.1)
  refine FB (cm (ct.close gv) ?_);rintro r' bl ⟨rfl,q1,bt⟩;exact⟨by rw[q1];exact h,bt⟩;cases h;split at h;rename_i bs MI;split at h;rename_i v hv;rw[AV] at h;have gv:ct G P f bs [] λv' bl=>∃n,dx bl n v'=a_ v:=by
   have:=WW hm hT jc qC (J:=[]) (Za (J:=[])) hv;refine iF.ok ⟨this.1,λbase w0 C M w dn hs D=>(this.2 base w0 C M w dn hs D).mono λe w' ⟨bI,M',bl,Y,V,h3⟩=>⟨bI,M',bl,Y,V,?_⟩⟩
   rcases h3 with⟨v',u',q,rest⟩|⟨ch,q,rest⟩
   exact bD ⟨v',u',⟨64,Jm (by have:=q.1;simp only[HL,Ic] at this;exact this)⟩,rest⟩;exact(by cases q.1)
  exact FB (h_ (eA gv) (W4 MI) ⟨h,tw J⟩);cases h;cases h
 refine⟨λJG=>?_,fn⟩;cases x with
 |fn f fs Z=>
  cases f with
  |func f=>
   rw[I8];have:=fn f fs Z rfl;refine iF.ok ⟨this.1,λbase w0 C M w dn hs D=>(this.2 base w0 C M w dn hs D).mono λe w' ⟨bI,M',bl,Y,V,h3⟩=>⟨bI,M',bl,Y,V,?_⟩⟩
   rcases h3 with q|⟨ch,q,rest⟩
   exact bD q;rw[JG] at q;exact(by cases q.1)
  |method nm=>
   cases fs with
   |cons a b=>simp only[DZ] at h;cases h
   |nil=>
    simp only[DZ] at h;split at h;rename_i t x rest;split at h;rename_i l pu aw4;split at h;rename_i g hg;have Y:=hT _ _ _ aw4 _ (WT hg);have V:=(jc _ _ _ _ _ _ fN h).1 JG;rw[I8,gd,fZ] at V;exact⟨t,x,rest,g,rfl,Y,V⟩;cases h;cases h;cases h
  |_=>simp only[DZ] at h;cases h
 |jo k0=>
  simp only[DZ] at h;split at h;rename_i rc Fx XS;obtain⟨Bj,ayW⟩:=agq XS;obtain⟨bW,ok,st,pd,jX,hR⟩:=fN k0 rc Bj;have aiP:sC G P Fx J:=λj Ty hj=>fN j Ty (ayW _ hj);split at h;rename_i cW;rw[CT,gS] at h;obtain⟨blk,Nh,h⟩:=h;split at h;rename_i anO a0 b0 c0;obtain⟨lP,LK,ps',N6,eK,jk⟩:=af3 Nh;rw[jX] at eK;cases eK;refine hR args J _ cW ⟨pd,jX⟩ ?_;refine tq (Gj jc aiP h) λx e1 eK ⟨q1,bt⟩=>?_;cases x with
  |normal=>
   dsimp only at q1;rw[CT,gS] at q1;obtain⟨aJA,aiw,q1⟩:=q1;split at q1;rename_i anP a1 b1 c1;obtain⟨rB,gG,CA⟩:=bt _ _ _ _ _ _ jX;obtain⟨C0,aJs,aLa,aK3,xY,_⟩:=af3 aiw;rw[CA] at xY;cases xY;rw[KS,aiw] at q1;simp only[mT] at q1;refine⟨⟨gG,CA⟩,λanQ=>?_⟩;have G4:(eK.map b9).set k0 (Bv .busy bn)=(eK.set k0 (.ck .busy anQ bW rc.ps.toArray ok)).map b9:=Mf.symm;rw[G4] at q1;have gj:gp J (eK.set k0 (.ck .busy anQ bW rc.ps.toArray ok)):=bt.trans (YY CA);refine tq (Gj jc (aiP.keeps gj) q1) λx e2 jk ⟨u1,u2⟩=>?_;obtain⟨T6,Tl,Nk⟩:=(gj.trans u2) _ _ _ _ _ _ jX;have he:(jk.map b9)[k0]?=a_ (b9 (.ck T6 Tl bW rc.ps.toArray ok)):=by rw[fD,Nk];rfl
   simp only[aor,CT,he,b9,mT] at u1;have hk2:∀st pd,gp J (jk.set k0 (.ck st pd bW rc.ps.toArray ok)):=λst pd=>(gj.trans u2).trans (YY Nk);cases x with
   |normal=>
    dsimp only at u1;rw[KS,he] at u1;simp only[mT] at u1;refine⟨⟨T6,Tl,Nk⟩,?_,hk2 _ _⟩;rw[Mf];exact u1
   |ret=>
    dsimp only at u1;rw[KS,he] at u1;simp only[mT] at u1;refine⟨⟨T6,Tl,Nk⟩,?_,hk2 _ _⟩;rw[Mf];exact u1
   |exit id=>
    dsimp only at u1;rw[KS,he] at u1;simp only[mT] at u1;refine⟨⟨T6,Tl,Nk⟩,?_,hk2 _ _⟩;rw[Mf];exact u1
   |_=>cases u1
   cases q1
  |_=>cases q1
  cases h;cases h;cases h
 |_=>simp only[DZ] at h;cases h
def af9(Cp:Vi G P hc ru):∀d,FP G P (Mg hc ru cj d)
 |0=>λcO x args J k r fN h=>aF
 |d+1=>atB hm hT Cp (af9 Cp d)
inductive qV where
 |nil
 |node (l:qV) (k:FuncId) (qy:k3) (m:Nat) (r:qV)
noncomputable def qV.get(t:qV)(f:FuncId):Option (k3×Nat):=@qV.rec (λ_=>Option (k3×Nat)) bn
 (λ_ k qy m _ il azS=>@FA (λ_=>Option (k3×Nat)) (@FA (λ_=>Option (k3×Nat)) azS (a_ (qy,m)) (eU f k)) il (sx f k)) t
def qV.cT(P:Program):qV->Prop
 |.nil=>True
 |.node l k qy _ r=>l.cT P/\Le P k qy/\r.cT P
omit hm hT in
def qV.Mq{m:Nat}:∀{t:qV},t.cT P->t.get f=a_ (qy,m)->Le P f qy
 |.nil,_,h=>aF
 |.node l k agk m' r,ho,h=>by
  obtain⟨Y,V,h3⟩:=ho;have hg:qV.get (.node l k agk m' r) f=@FA (λ_=>Option (k3×Nat)) (@FA (λ_=>Option (k3×Nat)) (r.get f) (a_ (agk,m')) (eU f k)) (l.get f) (sx f k):=rfl;rw[hg] at h;cases O:sx f k with
  |true=>rw[O] at h;exact qV.Mq Y h
  |false=>
   rw[O] at h;cases hq:eU f k with
   |true=>
    rw[hq] at h;cases h;rw[tD hq];exact V
   |false=>rw[hq] at h;exact qV.Mq h3 h
def af8(Cp:Vi G P hc ru){d:Nat}(h:Mg hc ru cj d [] (.fn (.func f) [] []) args (R []) HL=a_ r):cI G P f args r:=by
 refine eA ?_;have:=(af9 hm hT Cp d [] (.fn (.func f) [] []) args [] HL r Za h).1 λ_ _=>rfl;rw[I8,gd,fZ] at this;exact cm this λr bl k=>⟨64,Jm (by have:=k.1;simp only[HL,Ic] at this;exact this)⟩
end
end
section
variable{w:World}{b o:Nat}{v x y:Value}{C:Cells}{M:List Loc}{J:List br}
section
variable{G:Cells}{P:Program}{f:FuncId}
def Lf(G:Cells)(w:World):Prop:=∀b o v,G b o=a_ v->w.cell? ⟨b,o,bn⟩=a_ v
def aeX(h:w.cell? ⟨b,o,bn⟩=a_ v):b<w.heap.size:=by
 rcases ei b w.heap.size with q|q
 exact q;exfalso;unfold Iu at h;dsimp only at h;have:w.heap[b]?=bn:=by simp[q]
 rw[this] at h;simp at h
def B8(w:World)(C:Cells)(w':World):Cells:=λb o=>if b<w.heap.size then C b o else w'.cell? ⟨b,o,bn⟩
def adt{w'}(h:w.heap.size<=b):B8 w C w' b o=w'.cell? ⟨b,o,bn⟩:=by
 unfold B8;rw[if_neg aa]
def E_{args}{r:bg}(he:Enters P f)(h:∀(C) (w) dn,Lf G w/\F1 w->(∀b o v,C b o=a_ v->w.cell? ⟨b,o,bn⟩=a_ v)->dH C [] [] args dn->Calls P f dn.toArray w λe w'=>∃v',e=.returned v'/\Below w.heap.size w w'/\bP (B8 w C w') [] [] r v'):cI G P f args r:=
 ⟨he,λC w dn hg T D=>(h C w dn ⟨λb o v q=>T b o v (hg.1 b o v q),hg.2⟩ T D).mono λe w' ⟨v',e1,O,iL⟩=>by
  refine⟨B8 w C w',v',e1,λb o v q=>?_,λb o v q=>?_,λb o v q=>?_,O,iL,trivial⟩;unfold B8;rw[if_pos (aeX (T b o v q))];exact q;unfold B8 at q;split at q;exact bD q;rename_i hn;exact bG aa;unfold B8 at q;split at q;rename_i hn;rw[O.cell hn];exact T b o v q;exact q⟩
def HQ:∀{xs l},dH C M J (xs.map .v) l->l=xs
 |[],[],_=>rfl
 |[],_::_,h=>by have:=h.1;simp at this
 |_::_,[],h=>by have:=h.1;simp at this
 |x::xs,y::l,h=>by
  have e:y=x:=by cases(h.2 0 _ _ rfl rfl);rfl
  have:=HQ ⟨aNa,λi a b ha O=>h.2 (i+1) a b aL9 aH⟩;rw[e,this]
def anW{xs:List Value}(he:Enters P f)(hv:plain v=bh)(h:∀w,Lf G w->Calls P f xs.toArray w λe w'=>e=.returned v/\Below w.heap.size w w'):cI G P f (xs.map .v) (.v v):=
 E_ he λC w dn hg T D=>by
  rw[HQ D];exact(h w hg.1).mono λe w' ⟨Y,V⟩=>⟨v,Y,V,.v hv⟩
def anX(he:Enters P f)(hv:plain v=bh)(h:∀w,Lf G w->Calls P f #[x] w λe w'=>e=.returned v/\Below w.heap.size w w'):cI G P f [.v x] (.v v):=anW he hv h
def aau(he:Enters P f)(hv:plain v=bh)(h:∀w,Lf G w->Calls P f #[x,y] w λe w'=>e=.returned v/\Below w.heap.size w w'):cI G P f [.v x,.v y] (.v v):=anW he hv h
def aFL{vs:List Value}(hC:∀(i) v,vs[i]?=a_ v->C b i=a_ v)(bl:∀v∈vs,plain v=bh):bP C M J (.sl (vs.map .v) .no) (.slice (a_ ⟨b,0,bn⟩) vs.length vs.length):=by
 have:=bP.sl (M:=M) (J:=J) (xs:=vs.map .v) (t:=.no) (a:=⟨b,0,bn⟩) (cap:=vs.length) (λi j=>(vs[i]?).getD undef) (λ_=>rfl)
  (λi x I=>by
    rw[fD,dF] at I;obtain⟨v,_,rfl⟩:=I;rfl)
  (λi x j c I T=>by
    rw[fD,dF] at I;obtain⟨v,hv,rfl⟩:=I;cases j with
    |zero=>
     simp only[jU,ny,ox] at T;rw[hv];simpa using hC i v hv
    |succ j=>simp[jU] at T)
  (λi x j c I T=>by
    rw[fD,dF] at I;obtain⟨v,hv,rfl⟩:=I;cases j with
    |zero=>
     simp only[jU,ny,ox] at T;subst T;rw[hv];exact .v (bl v (cz hv))
    |succ j=>simp[jU] at T) trivial af
 rwa [cS] at this
def aoe{a b:bg}(Y:bP C M J a x)(V:bP C M J b y):bP C M J (.bQ [a,b]) (.tuple #[x,y]):=.bQ rfl λi u v hu hv=>by
 match i with
 |0=>simp at hu hv;subst hu;subst hv;exact Y
 |1=>simp at hu hv;subst hu;subst hv;exact V
 |i+2=>simp at hu
def ate{B}{k}{os}(h:B<=w.heap.size):Below B w (Go.Sort.grow (w.drewN k) os):=by
 refine⟨rfl,rfl,rfl,?_,λi Q=>?_⟩;simp;rw[Go.Sort.heap_grow_old _ _ ah];rfl
end
end
def ao_{α:Type}(f:α->bg):Option (List α)->bg
 |none=>.bq
 |some l=>.sl (l.map f) .no
def aGR{α}(f:α->bg)(o):cC (ao_ f o) ((o.getD []).map f):=by
 cases o with
 |none=>exact bG ⟨rfl,rfl⟩
 |some l=>exact bD rfl
structure bX where
 kind:Int
 type:Int
 attr:Int
 rune:Int
 marks:List Int
def bp(n:Int):bg:=.v (.int .i64 n)
def fA(n:Int):bg:=.v (.int .i32 n)
def fY(n:Int):bg:=.v (.int .u16 n)
def bX.cells(t:bX):List bg:=bp t.kind::bp t.type::bp t.attr::fA t.rune::t.marks.map fY
def bX.bE(t:bX):bg:=.agg t.cells
def FV(n:Int):Prop:= -9223372036854775808<=n/\n<=9223372036854775807
def U9(n:Int):Prop:= -2147483648<=n/\n<=2147483647
structure bX.cT(t:bX):Prop where
 S:FV t.kind
 ht:FV t.type
 ha:FV t.attr
 D:U9 t.rune
 len:t.marks.length=8
 hm:∀x∈t.marks,0<=x/\x<65536
def D0{W}{c}{L}{Z}(h:pY W (c::L) Z):∃v r,Z=v::r/\xk W c v/\pY W L r:=by
 cases Z with
 |nil=>have:=h.1;simp at this
 |cons v r=>exact⟨v,r,rfl,h.2 0 c v rfl rfl,aMG,λi a b ha O=>h.2 (i+1) a b ha O⟩
def Qp{W}{Z}(h:pY W [] Z):Z=[]:=ou h.1.symm
def I9{W}{k}{v}(h:xk W (.i k) v):∃n,v=.int k n/\(Lit.int k n).wf=bh:=by
 cases h with
 |i h=>exact⟨_,rfl,h⟩
def abR{n}(h:(Lit.int .i64 n).wf=bh):(-9223372036854775808<=n/\n<=9223372036854775807):=by
 simp[Lit.wf,aqY,aqX,K2,K1] at h;exact⟨aa,aa⟩
def aIG{n}(h:(Lit.int .i32 n).wf=bh):(-2147483648<=n/\n<=2147483647):=by
 simp[Lit.wf,aqY,aqX,K2,K1] at h;exact⟨aa,aa⟩
def aIF{n}(h:(Lit.int .u16 n).wf=bh):0<=n/\n<65536:=by
 simp[Lit.wf,aqY,aqX,K2,K1] at h;omega
def C5{C}{M}{J}{a:bg}{v}{dL}{vs}(h:bP C M J a v)(hs:dH C M J dL vs):dH C M J (a::dL) (v::vs):=
 ⟨by simp[hs.1],λi x y I hy=>by
  cases i with
  |zero=>simp at I hy;subst I;subst hy;exact h
  |succ i=>simp at I hy;exact hs.2 i x y I hy⟩
def aog{C}{M}{J}:dH C M J [] []:=⟨rfl,λi x y I=>aG⟩
def HR{C}{M}{J}(k)(n):bP C M J (.v (.int k n)) (.int k n):=.v rfl
def ai6{W}:∀(n) {Z},pY W (fk n (.i .u16)) Z->∃m:List Int,m.length=n/\(∀x∈m,0<=x/\x<65536)/\dH (xh W) [] [] (m.map λn=>dh (.int .u16 n)) Z
 |0,Z,h=>by
  rw[Qp h];exact⟨[],rfl,λx I=>aG,aog⟩
 |n+1,Z,h=>by
  obtain⟨v,r,rfl,Y,V⟩:=D0 h;obtain⟨k,rfl,S⟩:=I9 Y;obtain⟨m,e,hm,D⟩:=ai6 n V;refine⟨k::m,by simp[e],λx I=>?_,C5 (HR _ _) D⟩
  rcases fc.1 I with rfl|I
  exact aIF S;exact hm x I
def aEI{W}{e}{α}{f}{PY:α->Prop}(hE:∀Z,pY W e Z->∃a,PY a/\dH (xh W) [] [] (f a).cells Z)(hn:0<e.length){v}(h:xk W (.sl e) v):
  ∃o:Option (List α),(∀x∈o.getD [],PY x)/\bP (xh W) [] [] (ao_ f o) v:=by
 cases h with
 |nil=>exact⟨bn,λx I=>aG,.bq⟩
 |sl g hl T gr hC hR=>
  rename_i a len cap;have each:∀i:Fin len,∃a,PY a/\dH (xh W) [] [] (f a).cells ((iy e.length).map (g i.val)):=λi=>hE _ ⟨af,λj c v T hv=>by
   have hj:=(cJ.1 T).1;simp only[fD,aJj hj,j3,ox] at hv;subst hv;exact hR i.val j c i.isLt T⟩
  have hg:∀(i) x,(List.ofFn λi=>(each i).choose)[i]?=a_ x->∃Q:i<len,PY x/\dH (xh W) [] [] (f x).cells ((iy e.length).map (g i)):=λi x I=>by
   have Q:i<len:=by have:=(cJ.1 I).1;simpa using this
   rw[List.getElem?_ofFn] at I;simp only[Q,dif_pos,ox] at I;subst I;exact⟨Q,(each ⟨i,Q⟩).choose_spec⟩
  generalize hl':(List.ofFn λi=>(each i).choose)=l at hg;have cW:l.length=len:=by rw[<-hl'];simp
  refine⟨a_ l,λx I=>?_,?_⟩;obtain⟨i,Q,rfl⟩:=Iy I;obtain⟨_,Y,_⟩:=hg i _ (cu Q);exact Y;have ah_:(l.map f).length=len:=by simp[cW]
  have key:∀(i) (y:bg),(l.map f)[i]?=a_ y->∃Q:i<len,dH (xh W) [] [] y.cells ((iy e.length).map (g i)):=λi y hy=>by
   simp only[fD,dF] at hy;obtain⟨x,I,rfl⟩:=hy;obtain⟨Q,_,V⟩:=hg i x I;exact⟨Q,V⟩
  show bP (xh W) [] [] (.sl (l.map f) .no) (.slice (a_ a) len cap);rw[<-ah_];refine .sl (sz:=e.length) g (λbR=>(gr (by rw[<-ah_];exact FK.2 bR) hn)) (λi x I=>?_) (λi x j c I hj=>?_) (λi x j c I hj=>?_) trivial aa;obtain⟨_,V⟩:=key i x I;rw[V.1];simp;obtain⟨Q,V⟩:=key i x I;have wj:j<e.length:=aMg
  exact hC i j _ Q (cu wj);obtain⟨Q,V⟩:=key i x I;have wj:j<e.length:=aMg
  exact V.2 j c _ hj (by simp[aJj wj])
def aGw:List xg:=fk 8 (.i .u16)
def aqa:List xg:=.i .i64:: .i .i64:: .i .i64:: .i .i32::aGw
def aH9{W}(Z)(h:pY W aqa Z):∃t:bX,t.cT/\dH (xh W) [] [] t.bE.cells Z:=by
 obtain⟨_,_,rfl,h0,g1⟩:=D0 h;obtain⟨_,_,rfl,Y,g2⟩:=D0 g1;obtain⟨_,_,rfl,V,g3⟩:=D0 g2;obtain⟨_,_,rfl,h3,g4⟩:=D0 g3;obtain⟨a,rfl,wa⟩:=I9 h0;obtain⟨b,rfl,wb⟩:=I9 Y;obtain⟨c,rfl,wc⟩:=I9 V;obtain⟨d,rfl,wd⟩:=I9 h3;obtain⟨m,lg,qD,D⟩:=ai6 8 g4;exact⟨⟨a,b,c,d,m⟩,⟨abR wa,abR wb,abR wc,aIG wd,lg,qD⟩,C5 (HR _ _) (C5 (HR _ _) (C5 (HR _ _) (C5 (HR _ _) D)))⟩
def aFF{P:Program}{ts:List TypeId}(h:(ts.all λt=>P.readableRec t&&decide (t<P.types.size))=bh):∀t∈ts,P.readableRec t=bh/\t<P.types.size:=λt ht=>by
 have:=eG.1 h t ht;simpa using this
set_option maxRecDepth 100000 in
def atC{P}{W}{base}{t e'}{e}{v}(ht:P.underlying t=a_ (.slice e'))(hv:It P W .any base t v)(h:pY W [.sl e] v.cells.toList):xk W (.sl e) v:=by
 obtain⟨w,r,e1,Y,V⟩:=D0 h;rw[Qp V] at e1;have:v=w:=by
  cases v
  case agg Z=>simp[It,ht,Cell.okWide,Cell.ok] at hv
  all_goals
   simp[Ag] at e1;exact e1
 rw[this];exact Y
open Go.WideShapes
section
variable{H:Type}{enc:TypeId×Value->H}{P:Program}{W:World}{b:Nat}{sp:Nat->Bool}{MP:Bool}
def ai5{t e}{n oJ}{k}{Z}{ds:List Int}{p}(ht:P.underlying t=a_ (.array n e))(he:P.underlying e=a_ (.int k))(T:P.cellsOf e=1)
  (h:UC enc P W b sp MP oJ t Z=a_ (.agg (ds.map λi=>.lit (.int k i)),p)) (j:Nat) (i) (hj:ds[j]?=a_ i):Z[j]?=a_ (.int k i):=by
 obtain⟨xs,m,_,ex,cW,hl,tX⟩:=DataW.trod_array ht h;have e1:=DataW.agg.inj (Prod.mk.inj ex).1;have I:=congrArg (λl=>l[j]?) e1;simp only[fD,hj,j3] at I;have ah6:j<xs.length:=by
  have Y:=congrArg Du e1;simp only[cS] at Y;have:=(cJ.1 hj).1;omega
 have Y:=tX j aa;rw[cu ah6,T] at Y;rw[cu ah6,j3] at I;obtain⟨z,a1,a2,_⟩:=DataW.trod_int he Y;rw[a2] at I;simp only[ox,DataW.lit.injEq,Lit.int.injEq,true_and] at I;subst I;have V:=congrArg (λl=>l[0]?) a1;simpa using V
def iface_of_trod{t}{ms}{oJ}{Z}{name}{d}{p}(ht:P.underlying t=a_ (.interface ms))
  (h:UC enc P W b sp bf oJ t Z=a_ (.iface name d,p)):∃u v,Z=[.iface u v]:=by
 cases oJ with
 |zero=>cases h
 |succ oJ=>
  unfold UC at h;rw[ht] at h
  split at h<;>first|(cases h;done)|(rename_i q;cases q;done)|skip
  all_goals first|exact⟨_,_,rfl⟩|skip
  all_goals simp_all
end
open Go.Lib
def ud(n:Nat):List UInt8->Nat->Int
 |[],_=> -1
 |b::r,i=>match eU b.toNat n with
  |true=>.ofNat i
  |false=>ud n r (i+1)
def Qh(b c:UInt8):eU b.toNat c.toNat=(b==c):=by
 rw[Fz,w5,beq_iff_eq];exact⟨λh=>UInt8.toNat_inj.1 h,λh=>by rw[h]⟩
def aiT(c):∀(l) (i),ud c.toNat l i=if indexByte l c= -1 then -1 else i+indexByte l c
 |[],i=>by simp[ud,indexByte]
 |b::r,i=>by
  have hge:=indexByte_ge r c;by_cases h:b=c;subst h;simp[ud,indexByte];have O:(b==c)=bf:=aW
  rw[ud,Qh,O];simp only[indexByte,O,kJ,if_false,beq_iff_eq];rw[aiT c r (i+1)];by_cases V:indexByte r c= -1;simp[V];rw[if_neg V,if_neg V,if_neg aa];omega
def YD(c)(l):ud c.toNat l 0=indexByte l c:=by
 rw[aiT];split;rename_i h;rw[h];simp
def jx(n:Nat):List UInt8->List (List UInt8)
 |[]=>[[]]
 |b::r=>match eU b.toNat n with
  |true=>[]::jx n r
  |false=>match jx n r with
   |[]=>[[b]]
   |h::t=>(b::h)::t
def aG7(n)(l):∃h t,jx n l=h::t:=by
 cases l with
 |nil=>exact⟨_,_,rfl⟩
 |cons b r=>
  simp only[jx];split;exact⟨_,_,rfl⟩;split<;>exact⟨_,_,rfl⟩
def T0(c):∀(l),indexByte l c= -1->jx c.toNat l=[l]/\l.count c=0
 |[],_=>⟨rfl,rfl⟩
 |b::r,h=>by
  simp only[indexByte] at h;have hge:=indexByte_ge r c;cases O:b==c with
  |true=>rw[O] at h;simp at h
  |false=>
   rw[O] at h;simp only[kJ,if_false,beq_iff_eq] at h;have V:indexByte r c= -1:=by
    split at h
    assumption
    omega
   obtain⟨q1,bt⟩:=T0 c r V;refine⟨?_,?_⟩;simp only[jx,Qh,O,q1];rw[are,bt,O];simp
def TZ(c):∀(l) (i:Nat),indexByte l c=i->jx c.toNat l=l.take i::jx c.toNat (l.drop (i+1))/\l.count c=(l.drop (i+1)).count c+1
 |[],i,h=>by simp only[indexByte] at h;omega
 |b::r,i,h=>by
  simp only[indexByte] at h;have hge:=indexByte_ge r c;cases O:b==c with
  |true=>
   rw[O] at h;simp at h;have Q:i=0:=aa
   subst Q;refine⟨?_,?_⟩;simp only[jx,Qh,O];try simp;simp only[gA,Ah,pU];rw[are,O];simp
  |false=>
   rw[O] at h;simp only[kJ,if_false,beq_iff_eq] at h;split at h;omega;cases i with
   |zero=>omega
   |succ i=>
    obtain⟨q1,bt⟩:=TZ c r i aa;refine⟨?_,?_⟩;simp only[jx,Qh,O,q1];simp;rw[are,bt,O];simp
def abj(c):∀(k) (l),k=l.count c->splitK [c] 0 k l=jx c.toNat l
 |0,l,h=>by
  have Y:indexByte l c= -1:=by
   rcases Int.lt_or_le (indexByte l c) 0 with q|q
   have:=indexByte_ge l c;omega;obtain⟨i,Q⟩:=pT q;have:=(TZ c l i Q).2;omega
  rw[(T0 c l Y).1];rfl
 |k+1,l,h=>by
  unfold splitK;rw[index_one]
  rcases Int.lt_or_le (indexByte l c) 0 with q|q
  have:=(T0 c l (by have:=indexByte_ge l c;omega)).2;omega;obtain⟨i,Q⟩:=pT q;obtain⟨q1,bt⟩:=TZ c l i Q;rw[if_neg ah,Q,q1];have e:(i:Int).toNat=i:=rfl;rw[e,nB];congr 1;exact abj c k _ ah
def lZ:Nat->Nat->List UInt8
 |0,u=>[vI (48+u % 10)]
 |f+1,u=>match sx u 10 with
  |true=>[vI (48+u)]
  |false=>lZ f (u/10)++[vI (48+u % 10)]
def afK:∀(f u),u<10^(f+1)->lZ f u=decDigits u
 |0,u,h=>by
  have:u<10:=aW
  rw[decDigits,dif_pos this,lZ,Nat.mod_eq_of_lt this]
 |f+1,u,h=>by
  rw[lZ,decDigits];cases O:sx u 10 with
  |true=>
   have:u<10:=oX O;rw[dif_pos this]
  |false=>
   have:¬u<10:=λq=>by rw[show sx u 10=bh from Nat.ble_eq_true_of_le q] at O;cases O
   rw[dif_neg this,afK f (u/10) (by rw[Nat.pow_succ] at h;omega)]
section
variable{f:FuncId}{args:List bg}{hi:bg->Prop}
def dV(G:Cells)(P:Program)(f:FuncId)(args:List bg)(hi:bg->Prop):Prop:=
 Enters P f/\∀(C:Cells) (w:World) (dn:List Value),U5 G C w->(∀b o v,C b o=a_ v->w.cell? ⟨b,o,bn⟩=a_ v)->dH C [] [] args dn->
  Calls P f dn.toArray w λe w'=>∃r,hi r/\∃bI v',e=.returned v'/\(∀b o v,C b o=a_ v->bI b o=a_ v)/\(∀b o v,bI b o=a_ v->C b o=a_ v\/w.heap.size<=b)/\
   (∀b o v,bI b o=a_ v->w'.cell? ⟨b,o,bn⟩=a_ v)/\Below w.heap.size w w'/\bP bI [] [] r v'
section
variable{G:Cells}{P:Program}
def dV.mono{Q':bg->Prop}(h:dV G P f args hi)(hq:∀r,hi r->Q' r):dV G P f args Q':=
 ⟨h.1,λC w dn hg T D=>(h.2 C w dn hg T D).mono λe w' ⟨r,q,rest⟩=>⟨r,hq r q,rest⟩⟩
def cI.q{f:FuncId}{args:List bg}{bS:bg}{hi:bg->Prop}(h:cI G P f args bS)(hq:hi bS):dV G P f args hi:=
 ⟨h.1,λC w dn hg T D=>(h.2 C w dn hg T D).mono λe w' ⟨bI,v',a,b,c,d,e1,g,_⟩=>⟨bS,hq,bI,v',a,b,c,d,e1,g⟩⟩
def ct.aE9{xz:List bg}{J:List br}{K:bg->List br->Prop}(h:dV G P f args hi)(Q:oA xz args)(S:∀r,hi r->K r J):ct G P f xz J K:=
 ⟨h.1,λbase w0 C M w dn hs D=>(h.2 C w dn ⟨hs.rS,hs.tab⟩ hs.n7 (Q.rep D)).mono λe w' ⟨r,q,bI,v',he,Y,V,h3,O,iL⟩=>by
  obtain⟨bJ,dZ⟩:=aa5 hs Y V h3 O;exact⟨bI,M,J,r,v',S r q,he,bJ,dZ,iL.mono NL⟩⟩
def ep(h:ct G P f args [] λr bl=>∃n bS,dx bl n r=a_ bS/\hi bS):dV G P f args hi:=
 ⟨h.1,λC w dn hg T D=>(h.2 w.heap.size ⟨w,C⟩ C [] w dn (ao5 hg T) D).mono λe w' ⟨bI,M',bl,r,v',⟨n,bS,Ba,hq⟩,he,bJ,dZ,iL⟩=>by
  refine⟨bS,hq,λb o=>match bI b o with
   |some v=>a_ v
   |none=>if w.heap.size<=b then w'.cell? ⟨b,o,bn⟩ else bn,v',he,λb o v q=>?_,λb o v q=>?_,λb o v q=>?_,dZ.below,?_⟩
  simp only[bJ.C b o v q];dsimp only at q;split at q;rename_i u hu;cases q
  rcases ei b w.heap.size with O|O
  exact bD (dZ.old b o v hu O);exact bG O;split at q;rename_i O;exact bG O;cases q;dsimp only at q;split at q;rename_i u hu;cases q;exact dZ.n7 b o v hu;split at q;exact q;cases q;refine Ri (J:=bl) (EF:=bl) (λb o v q=>by simp only[q]) (λk Z row L S hM i c T=>?_) (λ_ _ _ q=>q) Ba iL;obtain⟨Y,V,h3,h4,h5,h6⟩:=dZ.cells k Z row L S hM;obtain⟨c',q1,bt⟩:=h3 i c T;refine⟨c',?_,bt⟩;simp only[h5 i];rw[if_pos Y];exact q1⟩
def dV.of(h:∃r,hi r/\cI G P f args r):dV G P f args hi:=by
 obtain⟨r,q,h⟩:=h;exact h.q q
end
end
def Zt:dK->Nat
 |.t n=>1<<<n
 |.c _=>0
def Zu:List dK->Nat
 |[]=>0
 |x::r=>(Zt x).lor (Zu r)
def amz:List Nat->Nat
 |[]=>0
 |n::r=>Py (1<<<n) (amz r)
def amy(s d:Nat):Nat:=Nat.xor s (Nat.land s (1<<<d))
def aDp(s t:Nat):Nat:=Nat.xor s (Nat.land s t)
def NP:List dQ->Nat->Nat
 |[],s=>s
 |o::r,s=>Py (Py (match o.dst with
  |some d=>amy (NP r s) d
  |none=>NP r s) (Zu (CE o.ins))) (match o.guard with
  |some g=>1<<<g.1
  |none=>0)
def Zs(s:Nat):Nat->Nat->List Nat
 |0,_=>[]
 |k+1,i=>if eU (s>>>i) 0 then [] else if eU (Nat.land (s>>>i) 1) 1 then i::Zs s k (i+1) else Zs s k (i+1)
def E2(s:Nat):List Nat:=Zs s 1000 0
def Zr:List (Nat×Nat)->Nat->Nat
 |[],_=>0
 |(j,s)::r,k=>if eU j k then s else Zr r k
def Zq:List (Nat×Nat)->Nat
 |[]=>0
 |(_,s)::r=>Py s (Zq r)
@[irreducible] def Ub (l:List Nat):bg:=.v (.string ⟨(l.map vI).toArray⟩)
def hU:dK->dK
 |.c (.v (.string b))=>.c (Ub (b.data.toList.map acM))
 |x=>x
def alj:bg->bg
 |.v (.string b)=>Ub (b.data.toList.map acM)
 |x=>x
def EU:bg->bg
 |.agg l=>.agg (l.map alj)
 |x=>alj x
def aBW:sG->sG
 |.mv x=>.mv (hU x)
 |.pick c a b=>.pick (hU c) (hU a) (hU b)
 |.alloc z=>.alloc (z.map EU)
 |.box x=>.box (hU x)
 |.build z ps=>.build (z.map EU) (ps.map λp=>(p.1,p.2.1,hU p.2.2))
 |.AI n vs=>.AI n (vs.map hU)
 |.st n p x=>.st n p (hU x)
 |.bin o x y=>.bin o (hU x) (hU y)
 |.c_ k x=>.c_ k (hU x)
 |.KC x=>.KC (hU x)
 |.I5 x=>.I5 (hU x)
 |.yu x a b=>.yu (hU x) (a.map hU) (b.map hU)
 |.slc n x a b c=>.slc n x (a.map hU) (b.map hU) (c.map hU)
 |.D2 x i=>.D2 (hU x) (hU i)
 |.r6 x=>.r6 (hU x)
 |.len x=>.len (hU x)
 |.app n b e s x=>.app n b e s (hU x)
 |.Bz f a b=>.Bz f (a.map hU) (b.map hU)
 |.xF n vs=>.xF n (vs.map hU)
 |.Ca n b e s x=>.Ca n b e s (hU x)
 |.BA n b e z l c=>.BA n b e (z.map EU) l c
 |.CR n b e z l c=>.CR n b e (z.map EU) l c
 |.CO t x=>.CO t (hU x)
 |.KO t z ok x=>.KO t (EU z) ok x
 |.uk m xs=>.uk m (xs.map hU)
 |.iter x=>.iter (hU x)
 |.E1 x=>.E1 (hU x)
 |.CK bN ks z ok m k=>.CK bN ks (EU z) ok m (hU k)
 |.yc bN ks m k x=>.yc bN ks m (hU k) (hU x)
 |.By bN ks z m k=>.By bN ks (EU z) m (hU k)
 |.Ax t z=>.Ax t (z.map EU)
 |.AE b e s x=>.AE b e s (hU x)
 |x=>x
def aBQ:i_->i_
 |.op o=>.op (aBW o)
 |.call f l=>.call f (l.map hU)
 |.oe f l=>.oe f (l.map hU)
 |.qu f l=>.qu f (l.map hU)
 |.oH x l=>.oH x (l.map hU)
 |.qv x l=>.qv x (l.map hU)
 |.pN f l r=>.pN f (l.map hU) r
 |.gP x=>.gP (hU x)
def Sv(o:dQ):dQ:=⟨o.dst,o.guard,aBQ o.ins⟩
def uS(al:Nat):qU->Nat->List (Nat×Nat)->Nat->eR×Nat
 |.skip,o,_,_=>(.skip (E2 (o.lor al)),o.lor al)
 |.lab,o,_,_=>(.lab (E2 (o.lor al)),o.lor al)
 |.bad,_,_,_=>(.bad,al)
 |.region l,o,_,_=>(.region (l.map Sv) (E2 (o.lor al)),(NP l (o.lor al)).lor al)
 |.sg ls,o,_,_=>(.sg (ls.map λl=>l.map Sv) (E2 (o.lor al)),ls.foldr (λl s=>((NP l (o.lor al)).lor al).lor s) 0)
 |.rz l,o,_,_=>(.rz (l.map λp=>(Sv p.1,p.2.map Sv)) (E2 (o.lor al)),(NP (l.map (·.1)) (o.lor al)).lor al)
 |.seq a b,o,ex,rt=>match uS al b o ex rt with
  |(b,m)=>match uS al a m ex rt with
   |(a,i)=>(.seq a b,i)
 |.cond c a b,o,ex,rt=>match uS al a o ex rt with
  |(a,i)=>match uS al b o ex rt with
   |(b,j)=>(.cond (hU c) a b,(i.lor j).lor (Zt c))
 |.block k a,o,ex,rt=>match uS al a o ((k,o.lor al)::ex) rt with
  |(a,i)=>(.block k a,i)
 |.scope a,o,ex,rt=>match uS al a o ex rt with
  |(a,i)=>(.scope a,i)
 |.loop a,o,ex,rt=>K9 (motive:=λ_=>Nat->eR×Nat) (λl=>(.bad,l)) (λ_ go l=>match uS al a l ex rt with
  |(x,i)=>if eU (i.lor l) l then(.loop x,l) else go (i.lor l)) 20 al
 |.exit k,_,ex,_=>(.exit k (E2 (Zr ex k)),(Zr ex k).lor al)
 |.ret,_,_,rt=>(.ret (E2 (rt.lor al)),rt.lor al)
 |.r9 x ps a b,o,ex,rt=>match uS al b 0 (ex.map λp=>(p.1,0)) 0 with
  |(b,bi)=>match uS al a bi (ex.map λp=>(p.1,0)) 0 with
   |(a,asv)=>(.r9 (hU x) ps a b (E2 (((o.lor al).lor rt).lor (Zq ex))),((((o.lor al).lor rt).lor (Zq ex)).lor (Zt x)).lor (aDp asv (amz ps)))
def zQ:List je->Nat
 |[]=>0
 |.s t::r=>Py (1<<<t) (zQ r)
 |.c t _ _::r=>Py (1<<<t) (zQ r)
def Fl(l:List Nat):Ub l=.v (.string ⟨(l.map vI).toArray⟩):=by rw[Ub]
structure lC(P:Program)(f:FuncId) where
 e:k3
 ok:Le P f e
 hm:P.follows .mixedOrders=bh
def agZ(P:Program)(hb:nF)(f:FuncId):Option (Nat×List je×eR):=match tg P hb f with
 |some ⟨n,rs,c⟩=>a_ (n,rs,(uS 0 c (zQ rs) [] (zQ rs)).1)
 |none=>bn
def lC.c{P:Program}{f:FuncId}(hb:nF){n:Nat}{rs:List je}{c:eR}
 (_h:agZ P hb f=a_ (n,rs,c):=by conv=>lhs;reduce;simp only[Int.reduceOfNat,Int.reduceNegSucc,Fl,List.map,UInt8.reduceOfNat])
 (hc:tg P hb f=a_ ⟨n,rs,c.b9⟩:=by kernel_rfl) (nV:c.fits n=bh:=by kernel_rfl) (hm:P.follows .mixedOrders=bh:=by kernel_rfl):lC P f:=⟨.plain n rs c,⟨⟨hb,hc⟩,nV⟩,hm⟩
def lC.m{P:Program}{f:FuncId}(hb:nF){n:Nat}{rs:List je}{c:eR}
 (_h:agZ P hb f=a_ (n,rs,c):=by conv=>lhs;reduce;simp only[Int.reduceOfNat,Int.reduceNegSucc,Fl,List.map,UInt8.reduceOfNat])
 (hc:tg P hb f=a_ ⟨n,rs,c.b9⟩:=by kernel_rfl) (nV:c.p8 n bh=bh:=by kernel_rfl) (hm:P.follows .mixedOrders=bh:=by kernel_rfl):lC P f:=⟨.loops n rs c,⟨⟨hb,hc⟩,nV⟩,hm⟩
def aba:List dQ->Nat
 |[]=>1000000
 |o::r=>match o.dst with
  |some d=>d
  |none=>aba r
def ZB:List Nat->Nat->Bool
 |[],_=>bf
 |a::r,n=>if eU a n then bh else ZB r n
def SG(P:Program):Nat->TypeId->List nD
 |0,_=>[]
 |d+1,t=>match P.underlying t with
  |some .bool=>[.b]
  |some (.int _)=>[.i]
  |some .string=>[.s]
  |some (.array n e)=>(fk n (SG P d e)).flatten
  |some (.struct fs)=>(fs.toList.map λf=>SG P d f.type).flatten
  |_=>[]
def Zz(P:Program)(t:TypeId):Option (Bool×List nD×bg):=match P.underlying t with
 |some (.map kt et)=>match kH P kt,Dd P et with
  |some bN,a_ z=>a_ (bN,SG P 12 kt,z)
  |_,_=>bn
 |_=>bn
def aGX(P:Program)(ops:Array Oper)(o:Oper):Option dQ:=match o.op with
 |.binOp op t x y _=>match P.underlying t with
  |some (.struct _)|some (.array _ _)=>match Da ops o.guard,eu x,eu y with
   |some g,a_ x,a_ y=>a_ ⟨o.dst,g,.op (.Jh (SG P 12 t) (match op with|.eql=>bf|_=>bh) x y)⟩
   |_,_,_=>bn
  |_=>yt P ops o
 |.lookup t m k ok=>match Da ops o.guard,eu m,eu k,Zz P t with
  |some g,a_ m,a_ k,a_ (bN,ks,z)=>a_ ⟨o.dst,g,.op (.CK bN ks z ok m k)⟩
  |_,_,_,_=>bn
 |.mapUpdate t m k x|.insert t m k x=>match Da ops o.guard,eu m,eu k,eu x,Zz P t with
  |some g,a_ m,a_ k,a_ x,a_ (bN,ks,_)=>a_ ⟨o.dst,g,.op (.yc bN ks m k x)⟩
  |_,_,_,_,_=>bn
 |.mapEntry t m k=>match Da ops o.guard,eu m,eu k,Zz P t with
  |some g,a_ m,a_ k,a_ (bN,ks,z)=>a_ ⟨o.dst,g,.op (.By bN ks z m k)⟩
  |_,_,_,_=>bn
 |_=>yt P ops o
def apf(P:Program)(ops:Array Oper):List Oper->Option (List dQ)
 |[]=>a_ []
 |o::r=>match aGX P ops o,apf P ops r with
  |some s,a_ l=>a_ (s::l)
  |_,_=>bn
def BI(P:Program)(pu:nF)(h2 W:List Nat):Code->Option qU
 |.skip=>a_ .skip
 |.region _ ops Ch=>match apf P ops ops.toList with
  |some l=>if ZB W (aba l) then a_ (.rz (om bh ops.toList (uo pu l))) else if ZB h2 (aba l) then a_ (.region (uo pu l)) else a_ (.region (l.map (BM pu)))
  |none=>bn
 |.seq a b=>match BI P pu h2 W a,BI P pu h2 W b with
  |some x,a_ y=>a_ (.seq x y)
  |_,_=>bn
 |.cond c a b=>match eu c,BI P pu h2 W a,BI P pu h2 W b with
  |some c,a_ x,a_ y=>a_ (.cond c x y)
  |_,_,_=>bn
 |.block id a=>match BI P pu h2 W a with
  |some x=>a_ (.block id x)
  |none=>bn
 |.loop a=>match BI P pu h2 W a with
  |some x=>a_ (.loop x)
  |none=>bn
 |.exit id=>a_ (.exit id)
 |.ret=>a_ .ret
 |.rangeFunc g ps a b=>match eu g,BI P pu h2 W a,BI P pu h2 W b with
  |some x,a_ sa,a_ sb=>a_ (.r9 x ps.toList sa sb)
  |_,_,_=>bn
 |.scope a=>match BI P pu h2 W a with
  |some x=>a_ (.scope x)
  |none=>bn
 |.label _=>a_ .lab
 |.goto _=>a_ .bad
 |.refuse _=>a_ .bad
def Rk(P:Program)(hb:nF)(h2 W:List Nat)(f:FuncId):Option (Nat×List je×eR):=match P.funcs[f]? with
 |some fn=>match fn.body with
  |some c=>match BI P hb h2 W c,Ff P fn.results.toList with
   |some sc,a_ rs=>a_ (fn.ntmps,rs,(uS 0 sc (zQ rs) [] (zQ rs)).1)
   |_,_=>bn
  |none=>bn
 |none=>bn
def lC.u{P:Program}{f:FuncId}(hb:nF)(h2 W:List Nat){n:Nat}{rs:List je}{c:eR}
 (_h:Rk P hb h2 W f=a_ (n,rs,c):=by conv=>lhs;reduce;simp only[Int.reduceOfNat,Int.reduceNegSucc,Fl,List.map,UInt8.reduceOfNat])
 (hc:tg P hb f=a_ ⟨n,rs,c.b9⟩:=by kernel_rfl) (nV:c.fits n=bh:=by kernel_rfl) (hm:P.follows .mixedOrders=bh:=by kernel_rfl):lC P f:=⟨.plain n rs c,⟨⟨hb,hc⟩,nV⟩,hm⟩
def lC.v{P:Program}{f:FuncId}(hb:nF)(h2 W:List Nat){n:Nat}{rs:List je}{c:eR}
 (_h:Rk P hb h2 W f=a_ (n,rs,c):=by conv=>lhs;reduce;simp only[Int.reduceOfNat,Int.reduceNegSucc,Fl,List.map,UInt8.reduceOfNat])
 (hc:tg P hb f=a_ ⟨n,rs,c.b9⟩:=by kernel_rfl) (nV:c.p8 n bh=bh:=by kernel_rfl) (hm:P.follows .mixedOrders=bh:=by kernel_rfl):lC P f:=⟨.loops n rs c,⟨⟨hb,hc⟩,nV⟩,hm⟩
def lC.p{P:Program}{f:FuncId}(hb:nF){n:Nat}{rs:List je}{c:eR}(_h:Rk P hb [] [] f=a_ (n,rs,c):=by conv=>lhs;reduce;simp only[Int.reduceOfNat,Int.reduceNegSucc,Fl,List.map,UInt8.reduceOfNat])
 (hc:tg P hb f=a_ ⟨n,rs,c.b9⟩:=by kernel_rfl) (nV:c.fits n=bh:=by kernel_rfl) (hm:P.follows .mixedOrders=bh:=by kernel_rfl):lC P f:=⟨.plain n rs c,⟨⟨hb,hc⟩,nV⟩,hm⟩
def lC.l{P:Program}{f:FuncId}(hb:nF){n:Nat}{rs:List je}{c:eR}(_h:Rk P hb [] [] f=a_ (n,rs,c):=by conv=>lhs;reduce;simp only[Int.reduceOfNat,Int.reduceNegSucc,Fl,List.map,UInt8.reduceOfNat])
 (hc:tg P hb f=a_ ⟨n,rs,c.b9⟩:=by kernel_rfl) (nV:c.p8 n bh=bh:=by kernel_rfl) (hm:P.follows .mixedOrders=bh:=by kernel_rfl):lC P f:=⟨.loops n rs c,⟨⟨hb,hc⟩,nV⟩,hm⟩
def lC.x{P:Program}{f:FuncId}(hb:nF)(n:Nat)(rs:List je)(c:eR)
 (hc:tg P hb f=a_ ⟨n,rs,c.b9⟩:=by kernel_rfl) (nV:c.fits n=bh:=by kernel_rfl) (hm:P.follows .mixedOrders=bh:=by kernel_rfl):lC P f:=⟨.plain n rs c,⟨⟨hb,hc⟩,nV⟩,hm⟩
def avO(P:Program)(hb:nF)(f:FuncId):Option (Nat×List je×eR×Nat×FuncId×List dK×eR):=match KK P hb f with
 |some ⟨n,rs,a,t,g,caps,b⟩=>match uS (zQ rs) b (zQ rs) [] (zQ rs) with
  |(b,i)=>a_ (n,rs,(uS (zQ rs) a ((amy i t).lor (Zu caps)) [] (zQ rs)).1,t,g,caps,b)
 |none=>bn
def lC.d{P:Program}{f:FuncId}(hb:nF){n:Nat}{rs:List je}{a b:eR}{t:Nat}{g:FuncId}{caps:List dK}
 (_h:avO P hb f=a_ (n,rs,a,t,g,caps,b):=by conv=>lhs;reduce;simp only[Int.reduceOfNat,Int.reduceNegSucc,Fl,List.map,UInt8.reduceOfNat])
 (hc:KK P hb f=a_ ⟨n,rs,a.b9,t,g,caps,b.b9⟩:=by kernel_rfl) (nV:(a.fits n&&b.fits n&&sx t n)=bh:=by kernel_rfl) (hm:P.follows .mixedOrders=bh:=by kernel_rfl):lC P f:=⟨.sN n rs a t g caps b,⟨⟨hb,hc⟩,by
 rw[fh,fh] at nV;exact⟨nV.1.1,nV.1.2,arA (oX nV.2)⟩⟩,hm⟩
def avP(P:Program)(hb:nF)(f:FuncId):Option (Nat×Nat×Nat×eR):=match KL P hb f with
 |some ⟨n,d0,d1,c⟩=>a_ (n,d0,d1,(uS 0 c 0 [] 0).1)
 |none=>bn
def lC.r{P:Program}{f:FuncId}(hb:nF){n d0 d1:Nat}{c:eR}
 (_h:avP P hb f=a_ (n,d0,d1,c):=by conv=>lhs;reduce;simp only[Int.reduceOfNat,Int.reduceNegSucc,Fl,List.map,UInt8.reduceOfNat])
 (hc:KL P hb f=a_ ⟨n,d0,d1,c.b9⟩:=by kernel_rfl) (nV:(c.fits n&&sx d0 n&&sx d1 n)=bh:=by kernel_rfl) (hm:P.follows .mixedOrders=bh:=by kernel_rfl):lC P f:=⟨.HO n d0 d1 c,⟨⟨hb,hc⟩,by
 rw[fh,fh] at nV;exact⟨nV.1.1,arA (oX nV.1.2),arA (oX nV.2)⟩⟩,hm⟩
def k3.bc:k3->eR
 |.sN _ _ _ _ _ _ b=>b
 |_=>.bad
def Xd(G:Cells)(P:Program)(args:List bg)(J:List br)(K:bg->List br->Prop)(E:sE)(e0:k3):k3->Prop
 |.plain n rs c=>args.length<=n/\@er G P bf c ⟨@Kw rs ⟨K⟩ ⟨E⟩⟩ (p6 0 args) J
 |.loops n rs c=>args.length<=n/\@er G P bf c ⟨@TC J.length rs ⟨K⟩ ⟨E⟩⟩ (p6 0 args) J
 |.sN n rs a t g caps b=>(∀ch h,¬E ch h)/\args.length<=n/\@er G P bf a ⟨@th ⟨λe J=>∃ks:List Nat,n6 e caps=a_ (ks.map λk=>.mp k 0)/\@er G P bf e0.bc ⟨@aoj G P g ks rs ⟨K⟩⟩ ((t,.fn (.func g) [] (ks.map λk=>.mp k 0))::e) J⟩ ⟨λ_ _ _=>False⟩⟩ (p6 0 args) J
 |_=>False
section
variable{G:Cells}{P:Program}{f:FuncId}{args:List bg}{J:List br}{K:bg->List br->Prop}{E:sE}
def ahb(k:lC P f)(h:Xd G P args J K E k.e k.e):iF G P f args J K E:=by
 obtain⟨e,ok,hm⟩:=k;cases e with
 |plain n rs c=>exact agD hm ok.1.choose_spec ok.2 h.1 h.2
 |loops n rs c=>exact agE hm ok.1.choose_spec ok.2 h.1 h.2
 |sN n rs a t g caps b=>exact FB (agC hm ok.1.choose_spec ok.2.1 ok.2.2.1 ok.2.2.2 h.2.1 h.2.2)
 |_=>exact h.elim
def lC.AY(k:lC P f){q:Prop}(h:q)(e:q->Xd G P args J K E k.e k.e:=by
 intro hh
 conv=>whnf
 first|exact⟨Nat.le_of_ble_eq_true rfl,hh⟩|exact⟨λ_ _ z=>z,Nat.le_of_ble_eq_true rfl,hh⟩):iF G P f args J K E:=ahb k (e h)
def lC.go(k:lC P f){q:Prop}(h:q)(e:q->Xd G P args J K (λ_ _=>False) k.e k.e:=by
 intro hh
 conv=>whnf
 first|exact⟨Nat.le_of_ble_eq_true rfl,hh⟩|exact⟨λ_ _ z=>z,Nat.le_of_ble_eq_true rfl,hh⟩):ct G P f args J K:=(ahb k (e h)).ok
def afB(G:Cells)(P:Program)(args:List bg)(J:List br)(x:Option bg)(K:List br->Prop):k3->Prop
 |.HO n d0 d1 c=>args.length<=n/\@er G P bf c ⟨@aon ⟨K⟩⟩ ((d1,qK x)::(d0,qK x)::p6 0 args) J
 |_=>False
def auA{x:Option bg}{v:Option Value}{K:List br->Prop}(k:lC P f)(I:match x,v with|none,bn=>True|some x,a_ v=>yh x=bh/\rP x=a_ v|_,_=>False)(h:afB G P args J x K k.e):kZ G P f args J v K:=by
 obtain⟨e,ok,hm⟩:=k;cases e with
 |HO n d0 d1 c=>exact afC hm ok.1.choose_spec ok.2.1 ok.2.2 h.1 I h.2
 |_=>exact h.elim
def lC.QM{x:Option bg}{v:Option Value}{K:List br->Prop}(k:lC P f)(I:match x,v with|none,bn=>True|some x,a_ v=>yh x=bh/\rP x=a_ v|_,_=>False){q:Prop}(h:q)(e:q->afB G P args J x K k.e:=by
 intro hh
 conv=>whnf
 exact⟨Nat.le_of_ble_eq_true rfl,hh⟩):kZ G P f args J v K:=auA k I (e h)
end
def eR.tl:eR->eR
 |.seq _ b=>b
 |c=>c
def k3.c:k3->eR
 |.plain _ _ c|.loops _ _ c=>c
 |_=>.bad
inductive DH(P:Program) where
 |nil
 |node (l:DH P) (k:FuncId) (c:lC P k) (m:Nat) (r:DH P)
def DH.vA{P:Program}:DH P->qV
 |.nil=>.nil
 |.node l k c m r=>.node l.vA k c.e m r.vA
def DH.ok{P:Program}:∀t:DH P,t.vA.cT P
 |.nil=>trivial
 |.node l _ c _ r=>⟨l.ok,c.ok,r.ok⟩
section
variable{x y:bg}{xs ys:List bg}
def b6(J:List br)(x y:bg):Prop:=∃n0,∀n,n0<=n->dx J n x=a_ y
def e_(J:List br)(xs ys:List bg):Prop:=∃n0,∀n,n0<=n->ku (dx J n) xs=a_ ys
section
variable{J:List br}
def b6.done(h:b6 J x y):∃n,dx J n x=a_ y:=by
 obtain⟨n,h⟩:=h;exact⟨n,h n (b_ n)⟩
def b6.auI(h:b6 J x y):∃n bS,dx J n x=a_ bS/\bS=y:=by
 obtain⟨n,h⟩:=h.done;exact⟨n,y,h,rfl⟩
def AX(h:∃n0,∀n,n0<=n->dx J (n+1) x=a_ y):b6 J x y:=by
 obtain⟨n0,h⟩:=h;refine⟨n0+1,λn hn=>?_⟩;obtain⟨m,rfl⟩:∃m,n=m+1:=⟨n-1,aa⟩;exact h m aa
def e_.nil:e_ J [] []:=⟨0,λn _=>rfl⟩
def e_.cons{x y:bg}{xs ys:List bg}(h:b6 J x y)(k:e_ J xs ys):e_ J (x::xs) (y::ys):=by
 obtain⟨n0,h⟩:=h;obtain⟨n1,k⟩:=k;exact⟨n0+n1,λn hn=>by simp only[ku,h n aa,k n aa]⟩
def e_.append{xs' aqI:List bg}(h:e_ J xs ys)(k:e_ J xs' aqI):e_ J (xs++xs') (ys++aqI):=by
 induction xs generalizing ys with
 |nil=>
  obtain⟨n0,h⟩:=h;have:=h n0 (b_ _);cases this;exact k
 |cons x xs ih=>
  obtain⟨n0,h⟩:=h;have h0:=h n0 (b_ _);simp only[ku] at h0;split at h0;rename_i y hy;split at h0
  · rename_i l hl
    cases h0;refine e_.cons ⟨n0,λn hn=>?_⟩ (ih ⟨n0,λn hn=>?_⟩)
    all_goals
     have Y:=h n hn;simp only[ku] at Y;split at Y;rename_i y' Nt;split at Y;rename_i l' hl';cases Y
     first|exact Nt|exact hl'
     cases Y;cases Y
  cases h0;cases h0
def e_.map{α:Type}{f:α->bg}:∀{l:List α},(∀a∈l,b6 J (f a) (f a))->e_ J (l.map f) (l.map f)
 |[],_=>e_.nil
 |a::l,h=>e_.cons (h a af) (e_.map λb O=>h b aMy)
def e_.each{l:List bg}(h:∀a∈l,b6 J a a):e_ J l l:=by
 have:=e_.map (J:=J) (f:=λa=>a) (l:=l) h;simpa using this
def b6.v(x:Value):b6 J (.v x) (.v x):=AX ⟨0,λn _=>rfl⟩
def b6.bq:b6 J .bq .bq:=AX ⟨0,λn _=>rfl⟩
def b6.agg{xs ys:List bg}(h:e_ J xs ys):b6 J (.agg xs) (.agg ys):=by
 obtain⟨n0,h⟩:=h;exact AX ⟨n0,λn hn=>by show(ku (dx J n) xs).map dG=_;rw[h n hn];rfl⟩
def b6.bQ(h:e_ J xs ys):b6 J (.bQ xs) (.bQ ys):=by
 obtain⟨n0,h⟩:=h;exact AX ⟨n0,λn hn=>by show(ku (dx J n) xs).map bg.bQ=_;rw[h n hn];rfl⟩
def b6.sl{xs ys:List bg}{t:o6}(h:e_ J xs ys):b6 J (.sl xs t) (.sl ys .no):=by
 obtain⟨n0,h⟩:=h;exact AX ⟨n0,λn hn=>by show(ku (dx J n) xs).map (λys=>bg.sl ys .no)=_;rw[h n hn];rfl⟩
def b6.fp{o:Nat}(h:e_ J xs ys):b6 J (.fp xs o) (.fp ys o):=by
 obtain⟨n0,h⟩:=h;exact AX ⟨n0,λn hn=>by show(ku (dx J n) xs).map (λys=>bg.fp ys o)=_;rw[h n hn];rfl⟩
def b6.eD{t:TypeId}(h:b6 J x y):b6 J (.eD t x) (.eD t y):=by
 obtain⟨n0,h⟩:=h;exact AX ⟨n0,λn hn=>by show(dx J n x).map (bg.eD t)=_;rw[h n hn];rfl⟩
def b6.mp{k o:Nat}{xs ys:List bg}(S:J[k]?=a_ (.cells xs bf))(h:e_ J xs ys):b6 J (.mp k o) (.fp ys o):=by
 obtain⟨n0,h⟩:=h;exact AX ⟨n0,λn hn=>by simp only[dx,S,h n hn,j3]⟩
def b6.rs{k m sz o len:Nat}{xs ys:List bg}(S:J[k]?=a_ (.cells xs bh))(hm:m=xs.length)(h:e_ J xs ys):b6 J (.rs k m sz o len) (.sl (uW sz ys o len) .no):=by
 obtain⟨n0,h⟩:=h;exact AX ⟨n0,λn hn=>aM2⟩
def b6.rp{k m o:Nat}{xs ys:List bg}(S:J[k]?=a_ (.cells xs bh))(hm:m=xs.length)(h:e_ J xs ys):b6 J (.rp k m o) (.fp ys o):=by
 obtain⟨n0,h⟩:=h;exact AX ⟨n0,λn hn=>aM2⟩
end
def Gf{Z:List bg}{off:Nat}(h:∀c∈Z,Clean c):Clean (.fp Z off):=λC M J v D=>by
 cases D with
 |fp f hC hR=>exact .fp f hC λi c T=>h c (cz T) _ _ _ _ (hR i c T)
def Jb:Nat->bg->Bool
 |0,_=>bf
 |n+1,x=>match x with
  |.v _=>bh
  |.bq=>bh
  |.agg Z=>Z.all (Jb n)
  |.bQ Z=>Z.all (Jb n)
  |.fp Z _=>Z.all (Jb n)
  |.sl xs .no=>xs.all λx=>x.cells.all (Jb n)
  |_=>bf
def Gh:∀{n:Nat} {x:bg},Jb n x=bh->Clean x
 |0,x,h=>aF
 |n+1,x,h=>by
  unfold Jb at h;split at h;exact cP _;exact nY;exact Gd λc T=>Gh (eG.1 h c T);exact at2 λc T=>Gh (eG.1 h c T);exact Gf λc T=>Gh (eG.1 h c T);exact k7 λx I c T=>Gh (eG.1 (eG.1 h x I) c T);cases h
end
def kI{i:Nat}(h:i<4611686018427387904):cN.wrap ((i:Int)+1)=((i+1:Nat):Int):=by rw[e6 aa aa];rfl
def aqz{i:Nat}(h:i<4611686018427387904):cN.wrap ((i:Int)+2)=((i+2:Nat):Int):=by rw[e6 aa aa];rfl
def KX{i:Nat}(h:1<=i)(V:i<4611686018427387904):cN.wrap ((i:Int)-1)=((i-1:Nat):Int):=by rw[e6 aa aa];omega
def aqA{i j:Nat}(h:i<4611686018427387904)(V:j<4611686018427387904):cN.wrap ((i:Int)+(j:Int))=((i+j:Nat):Int):=by rw[e6 aa aa];rfl
def aqB{i j:Nat}(h:j<=i)(V:i<4611686018427387904):cN.wrap ((i:Int)-(j:Int))=((i-j:Nat):Int):=by rw[e6 aa aa];omega
def qw{i n:Nat}(h:i<n):decide ((i:Int)<(n:Int))=bh:=ah
def xJ{i n:Nat}(h:n<=i):decide ((i:Int)<(n:Int))=bf:=ah
def afM{i n:Nat}(h:i<=n):decide ((i:Int)<=(n:Int))=bh:=ah
def afL{i n:Nat}(h:n<i):decide ((i:Int)<=(n:Int))=bf:=ah
def VU{i n:Nat}(h:i=n):((i:Int)==(n:Int))=bh:=by simp[h]
def Qg{i n:Nat}(h:i≠n):((i:Int)==(n:Int))=bf:=ah
def aeC{i n:Nat}(h:i≠n):((i:Int) !=(n:Int))=bh:=ah
def aeB{i n:Nat}(h:i=n):((i:Int) !=(n:Int))=bf:=by simp[h]
def abK(b:Bool):F5 .not (.v (.bool b))=a_ (.v (.bool !b)):=rfl
def Q1(a b:bg):oE 0 (.bQ [a,b])=a_ a:=rfl
def Q2(a b:bg):oE 1 (.bQ [a,b])=a_ b:=rfl
def agc(a b c:bg):oE 0 (.bQ [a,b,c])=a_ a:=rfl
def agd(a b c:bg):oE 1 (.bQ [a,b,c])=a_ b:=rfl
def age(a b c:bg):oE 2 (.bQ [a,b,c])=a_ c:=rfl
def xQ(x:bg)(J:List br):bz J bf 1 (.fp [x] 0)=a_ x:=rfl
def aar(Z:List bg)(o:Nat)(neg:Bool):oD .ptr neg (.fp Z o) (.v (.pointer bn))=a_ (.v (.bool neg)):=aL1
def aas(k o:Nat)(neg:Bool):oD .ptr neg (.mp k o) (.v (.pointer bn))=a_ (.v (.bool neg)):=aL1
def anU(neg:Bool):oD .ptr neg (.v (.pointer bn)) (.v (.pointer bn))=a_ (.v (.bool !neg)):=aL1
def jj(n:Int):goInt n=.int .i64 n:=rfl
def rD:type_of% @cS.{0,0}/\type_of% @kI/\type_of% @aqz/\type_of% @KX/\type_of% @aqA/\type_of% @aqB/\type_of% @qw/\type_of% @xJ/\type_of% @afM/\type_of% @afL/\type_of% @VU/\type_of% @Qg/\type_of% @aeC/\type_of% @aeB/\type_of% @abK/\
  type_of% @Q1/\type_of% @Q2/\type_of% @agc/\type_of% @agd/\type_of% @age/\type_of% @xQ/\type_of% @aar/\type_of% @aas/\type_of% @anU/\type_of% @jj/\type_of% @z_/\type_of% @vE/\type_of% @PC/\type_of% @PB:=
 ⟨@cS.{0,0},@kI,@aqz,@KX,@aqA,@aqB,@qw,@xJ,@afM,@afL,@VU,@Qg,@aeC,@aeB,@abK,@Q1,@Q2,@agc,@agd,@age,@xQ,@aar,@aas,@anU,@jj,@z_,@vE,@PC,@PB⟩
def fI{p q:Prop}(h:q)(e:q->p:=by intro hh;simp -failIfUnchanged -implicitDefEqProofs (disch:=first|assumption|decide|omega) only[jQ,oU,oV,↓reduceIte,Nat.reduceEqDiff,Nat.reduceAdd,Nat.reduceLT,Nat.reduceLeDiff,rD,Int.reduceBEq,Int.reduceBNe];exact hh):p:=e h
def e3{p q a0:Prop}(x0:a0)(h:q)(e:a0->q->p:=by intro f0 hh;simp -failIfUnchanged -implicitDefEqProofs (disch:=first|assumption|decide|omega) only[jQ,oU,oV,↓reduceIte,Nat.reduceEqDiff,Nat.reduceAdd,Nat.reduceLT,Nat.reduceLeDiff,rD,Int.reduceBEq,Int.reduceBNe,f0];exact hh):p:=e x0 h
def nv{p q a b:Prop}(x:a)(y:b)(h:q)(e:a/\b->q->p:=by intro f h;exact e3 f h):p:=e ⟨x,y⟩ h
def jE{p q a b c:Prop}(x:a)(y:b)(z:c)(h:q)(e:a/\b/\c->q->p:=by intro f h;exact e3 f h):p:=e ⟨x,y,z⟩ h
def mP{p q a b c d:Prop}(x:a)(y:b)(z:c)(u:d)(h:q)(e:a/\b/\c/\d->q->p:=by intro f h;exact e3 f h):p:=e ⟨x,y,z,u⟩ h
def qQ{p q a b c d f:Prop}(x:a)(y:b)(z:c)(u:d)(v:f)(h:q)(e:a/\b/\c/\d/\f->q->p:=by intro f h;exact e3 f h):p:=e ⟨x,y,z,u,v⟩ h
def Df{p q a b c d f g:Prop}(x:a)(y:b)(z:c)(u:d)(v:f)(w:g)(h:q)(e:a/\b/\c/\d/\f/\g->q->p:=by intro f h;exact e3 f h):p:=e ⟨x,y,z,u,v,w⟩ h
def pQ{p q a b c d f g i:Prop}(x:a)(y:b)(z:c)(u:d)(v:f)(w:g)(r:i)(h:q)(e:a/\b/\c/\d/\f/\g/\i->q->p:=by intro f h;exact e3 f h):p:=e ⟨x,y,z,u,v,w,r⟩ h
def O5{p q a b c d f g i j:Prop}(x:a)(y:b)(z:c)(u:d)(v:f)(w:g)(r:i)(s:j)(h:q)(e:a/\b/\c/\d/\f/\g/\i/\j->q->p:=by intro f h;exact e3 f h):p:=e ⟨x,y,z,u,v,w,r,s⟩ h
def wT{p q a b c d f g i j k:Prop}(x:a)(y:b)(z:c)(u:d)(v:f)(w:g)(r:i)(s:j)(t:k)(h:q)(e:a/\b/\c/\d/\f/\g/\i/\j/\k->q->p:=by intro f h;exact e3 f h):p:=e ⟨x,y,z,u,v,w,r,s,t⟩ h
section
variable{l:List UInt8}{i j:Nat}{α:Type}
def bu(l:List UInt8):bg:=.v (.string ⟨⟨l⟩⟩)
def VP(l:List UInt8):(⟨⟨l⟩⟩:ByteArray).toList=l:=af
def as2(l:List UInt8)(i:Nat):(⟨⟨l⟩⟩:ByteArray)[i]?=l[i]? :=by
 rcases ei i l.length with h|h
 rw[cu h];exact getElem?_pos (⟨⟨l⟩⟩:ByteArray) i h;rw[jV h];exact getElem?_neg (⟨⟨l⟩⟩:ByteArray) i (by show¬i<l.length;omega)
@[go_sem]def pe(a b:List UInt8):dM .eql (bu a) (bu b)=a_ (.v (.bool (a==b))):=by
 simp only[bu,dM,KF,VP,j3]
@[go_sem]def zI(a b:List UInt8):dM .neq (bu a) (bu b)=a_ (.v (.bool !(a==b))):=by
 simp only[bu,dM,KF,VP,j3]
@[go_sem]def vT{a b:List UInt8}(h:a.length+b.length<=4611686018427387904):dM .add (bu a) (bu b)=a_ (bu (a++b)):=by
 have e:(⟨⟨a⟩⟩:ByteArray)++⟨⟨b⟩⟩=⟨⟨a++b⟩⟩:=by apply ab5;simp
 have V:¬(((⟨⟨a⟩⟩:ByteArray).size+(⟨⟨b⟩⟩:ByteArray).size:Nat):Int)>cN.max:=by
  show¬((a.length+b.length:Nat):Int)>9223372036854775807;omega
 simp only[bu,dM,KF];rw[if_neg V,e];rfl
@[go_sem]def ae8{c:UInt8}{k:IntKind}(h:l[i]?=a_ c):xx (bu l) (.v (.int k (i:Int)))=a_ (.v (.int .u8 (c.toNat:Int))):=by
 simp only[bu,xx];rw[if_pos aa,wZ,as2,h];rfl
@[go_sem]def yb(l:List UInt8)(J:List br):r6 (bu l) J=a_ (.v (.int .i64 (l.length:Int)),J):=rfl
@[go_sem]def QL(h:i<=j)(V:j<=l.length)(J:List br):H_ (bu l) (a_ (.v (.int .i64 (i:Int)))) (a_ (.v (.int .i64 (j:Int)))) J=a_ (bu ((l.take j).drop i),J):=by
 have e:(⟨⟨l⟩⟩:ByteArray).extract i j=⟨⟨(l.take j).drop i⟩⟩:=by
  apply ab5;simp[List.drop_take]
 have O:lX l.length l.length (a_ (i:Int)) (a_ (j:Int)) bn=a_ (i,j,l.length):=by
  simp only[lX,kg,Ak,z8,kJ,if_false];rw[if_pos ⟨aa,aa⟩];dsimp only;rw[if_pos ⟨aa,aa⟩];simp
 show IA (λr=>(r,J)) (nG 0 (.v (.string ⟨⟨l⟩⟩)) (a_ (.v (.int .i64 (i:Int)))) (a_ (.v (.int .i64 (j:Int)))) bn)=_;have rY:∀n:Int,pL (a_ (.v (.int .i64 n)))=a_ (a_ n):=λn=>rfl;have rZ:pL bn=a_ bn:=rfl;unfold nG;rw[rY,rY,rZ];dsimp only;rw[if_neg af,show(⟨⟨l⟩⟩:ByteArray).size=l.length from rfl,O];dsimp only;rw[e];rfl
@[go_sem]def Wk(h:i<=l.length)(J:List br):H_ (bu l) (a_ (.v (.int .i64 (i:Int)))) bn J=a_ (bu (l.drop i),J):=by
 have e:(⟨⟨l⟩⟩:ByteArray).extract i l.length=⟨⟨l.drop i⟩⟩:=by
  apply ab5;simp;rw[ow af]
 have O:lX l.length l.length (a_ (i:Int)) bn bn=a_ (i,l.length,l.length):=by
  simp only[lX,kg,Ak,z8,kJ,if_false];rw[if_pos ⟨aa,aa⟩];simp
 show IA (λr=>(r,J)) (nG 0 (.v (.string ⟨⟨l⟩⟩)) (a_ (.v (.int .i64 (i:Int)))) bn bn)=_;have rY:∀n:Int,pL (a_ (.v (.int .i64 n)))=a_ (a_ n):=λn=>rfl;have rZ:pL bn=a_ bn:=rfl;unfold nG;rw[rY,rZ];dsimp only;rw[if_neg af,show(⟨⟨l⟩⟩:ByteArray).size=l.length from rfl,O];dsimp only;rw[e];rfl
@[go_sem]def QK(h:j<=l.length)(J:List br):H_ (bu l) bn (a_ (.v (.int .i64 (j:Int)))) J=a_ (bu (l.take j),J):=by
 have e:(⟨⟨l⟩⟩:ByteArray).extract 0 j=⟨⟨l.take j⟩⟩:=by
  apply ab5;simp
 have O:lX l.length l.length bn (a_ (j:Int)) bn=a_ (0,j,l.length):=by
  simp only[lX,kg,Ak,z8,kJ,if_false];rw[if_pos ⟨aa,aa⟩];simp
 show IA (λr=>(r,J)) (nG 0 (.v (.string ⟨⟨l⟩⟩)) bn (a_ (.v (.int .i64 (j:Int)))) bn)=_;have rY:∀n:Int,pL (a_ (.v (.int .i64 n)))=a_ (a_ n):=λn=>rfl;have rZ:pL bn=a_ bn:=rfl;unfold nG;rw[rY,rZ];dsimp only;rw[if_neg af,show(⟨⟨l⟩⟩:ByteArray).size=l.length from rfl,O];dsimp only;rw[e];rfl
def aHP(len l h m:Nat):Fm .no len l h m bf=.no:=by
 unfold Fm;rw[if_neg af];split;split<;>rfl;rfl
section
variable{xs:List bg}{n:Nat}
@[go_sem]def TR{lo Q:Option bg}{l' h':Option Int}(Y:pL lo=a_ l')(V:pL Q=a_ h')(O:lX xs.length xs.length l' h' bn=a_ (i,j,xs.length))(ho:∀x∈xs,x.cells.length=n)(J:List br):
  qg n (.sl xs .no) lo Q bn J=a_ (.sl ((xs.take j).drop i) .no,J):=by
 have kT:(xs.all λx=>x.cells.length==n)=bh:=by
  rw[eG];intro x I;simpa using ho x I
 show IA (λr=>(r,J)) (nG n (.sl xs .no) lo Q bn)=_;have rZ:pL bn=a_ bn:=rfl;unfold nG;rw[Y,V,rZ];dsimp only;rw[O];dsimp only;rw[if_pos kT,show(bn:Option Int).isSome=bf from rfl,aHP];rfl
@[go_sem]def ao8(h:j<=xs.length)(ho:∀x∈xs,x.cells.length=n)(J:List br):qg n (.sl xs .no) bn (a_ (.v (.int .i64 (j:Int)))) bn J=a_ (.sl (xs.take j) .no,J):=by
 have O:lX xs.length xs.length bn (a_ (j:Int)) bn=a_ (0,j,xs.length):=by
  simp only[lX,kg,Ak,z8,kJ,if_false];rw[if_pos ⟨aa,aa⟩];simp
 exact TR rfl rfl O ho J
@[go_sem]def TS(h:i<=xs.length)(ho:∀x∈xs,x.cells.length=n)(J:List br):qg n (.sl xs .no) (a_ (.v (.int .i64 (i:Int)))) bn bn J=a_ (.sl (xs.drop i) .no,J):=by
 have O:lX xs.length xs.length (a_ (i:Int)) bn bn=a_ (i,xs.length,xs.length):=by
  simp only[lX,kg,Ak,z8,kJ,if_false];rw[if_pos ⟨aa,aa⟩];simp
 have:=TR (xs:=xs) (n:=n) (lo:=a_ (.v (.int .i64 (i:Int)))) (Q:=bn) rfl rfl O ho J;rw[oW] at this;exact this
end
def Ud{l:List (List UInt8)}:∀x∈l.map bu,x.cells.length=1:=λx I=>by
 obtain⟨a,_,rfl⟩:=dX.1 I;rfl
def Gt{α:Type}(p:α->Bool)(l:List α):Int:=if l.any p then(l.findIdx p:Int) else -1
def avo{p:α->Bool}{l:List α}{a:α}(h:l[i]?=a_ a)(J:p a=bh)(hI:∀j b,j<i->l[j]?=a_ b->p b=bf):Gt p l=(i:Int):=by
 have Q:=(cJ.1 h).1;have ha:l.any p=bh:=K4.2 ⟨a,cz h,J⟩;unfold Gt;rw[if_pos ha,(List.findIdx_eq Q).2 ⟨?_,λj hj=>?_⟩];rw[cu Q] at h;cases h;exact J;exact hI j _ hj (cu aa)
def avp{p:α->Bool}{l:List α}(hI:∀j b,j<l.length->l[j]?=a_ b->p b=bf):Gt p l= -1:=by
 have ha:l.any p=bf:=by
  rw[List.any_eq_false];intro a ha;obtain⟨j,hj,rfl⟩:=Iy ha;simp[hI j _ hj (cu hj)]
 unfold Gt;rw[ha];rfl
def avq(p:α->Bool)(l:List α):decide (0<=Gt p l)=l.any p:=by
 unfold Gt;cases l.any p<;>simp
end
instance:Coe Int bg:=⟨λn=>.v (.int .i64 n)⟩
instance:Coe Nat bg:=⟨λn=>.v (.int .i64 (n:Int))⟩
instance:Coe Bool bg:=⟨λb=>.v (.bool b)⟩
end Go.bM

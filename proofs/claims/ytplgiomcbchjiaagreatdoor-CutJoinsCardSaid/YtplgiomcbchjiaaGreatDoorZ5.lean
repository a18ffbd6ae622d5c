/- Part 5 of a proof. No condition. -/
import Derived.Test.YtplgiomcbchjiaaGreatDoorZ4
import Derived.Sort.Grow
import Derived.Deep.Draws
import Derived.Shelf.Vars
import Derived.Lib.SplitLaws
import Derived.Lib.IndexBytes
import Derived.Lib.ItoaNum
set_option linter.unusedVariables false
set_option linter.unusedSimpArgs false
set_option linter.defProp false
open Bool renaming and_eq_true->fQ,eq_iff_iff->Ij,false->bf,false_and->BM,false_eq_true->kB,not_false->vv,not_true->zU,rec->Fu,true->bh
open ByteArray renaming ext->acr
open Go.bM.bg renaming agg->dG,cells->jD,one->cu,v->cR
open Go.bM.br renaming cells->bw,b8->pI
open Go.bM.cw renaming mono->cm,pure->ic,aIg->Fv
open Go.bM.iH renaming mono->g_
open Go.bM.jS renaming mono->vw
open Go.bM.xe renaming mono->acu
open Go.bM.gr renaming refl->tB
open Go.bM.sN renaming I6->Uu
open Go.DataW renaming trod->Uw
open Go.IntKind renaming bits->K5,i64->cN,max->aq_,min->ara,signed->K6,u64->Im
open Go.Value renaming cells->BP,okWide->Ph
open Go.World renaming cell?->FA
open Int renaming eq_ofNat_of_zero_le->pJ,ofNat_eq_natCast->BR,toNat_natCast->yw
open List renaming all_cons->pK,all_eq_true->eJ,any_eq_true->Ir,append_nil->gV,cons_append->gB,count_cons->ars,drop_succ_cons->wX,drop_zero->pL,eq_nil_of_length_eq_zero->oc,ext_getElem?->FB,getElem?_append_right->gh,getElem?_cons_succ->yy,getElem?_cons_zero->nL,getElem?_eq_getElem->cy,getElem?_eq_none->j4,getElem?_eq_some_iff->cK,getElem?_map->e9,getElem?_range->aJw,getElem?_reverse->UH,getElem?_set_ne->bE,getElem?_set_self->bT,getElem_of_mem->FC,length->La,length_append->ek,length_cons->eZ,length_map->cS,length_pos_iff->Is,length_set->wY,length_singleton->qg,map_append->gC,map_cons->fc,map_set->yA,mem_cons->fo,mem_cons_of_mem->sw,mem_cons_self->wZ,mem_map->dV,mem_of_getElem?->cv,mem_of_mem_drop->vz,nil_append->gM,range->lu,rec->z_,replicate->fB,reverse_reverse->arB,singleton_append->acX,take_length->od,take_of_length_le->oe,take_succ_cons->rJ,take_zero->oR
open Nat renaming add_zero->sx,beq->eV,beq_eq->w4,ble->w5,blt->sy,eq_of_beq_eq_true->tF,le_of_ble_eq_true->qM,le_refl->cc,lor->Pt,lt_of_succ_le->arK,lt_or_ge->er,lt_succ_self->yB,rec->Ld,sub_self->ni,zero_add->gi,zero_le->gW
open Option renaming bind_assoc->BV,bind_eq_some_iff->gN,bind_some->mj,filter->UT,isSome_none->BW,map->FH,map_eq_some_iff->dA,map_some->kf,none->bn,some->a_
open Option.some renaming injEq->nj
open Or renaming inl->bD,inr->bF
open Prod.mk renaming injEq->xb
open UInt8 renaming ofNat->vC,toNat->ac3
namespace Go.bM
open Go.RowKit
section
variable{α:Type}{f:br->(br->Option bg)->Option bg}{a:eS}{b id n off:Nat}{o:sH}{k:bg->Option bg}{e:dB}{i p x:bg}{H:List br}{g:br->Option br}{y:br}{bN:Bool}{Z:List bg}{op:BinOp}{L:List Nat}
section
variable{β:Type}
noncomputable def lS(n:Nat)(k:Nat->β):β:=@Ld (λ_=>β) (k Nat.zero) (λm _=>k (Nat.succ m)) n
def vV(n:Nat)(k:Nat->β):lS n k=k n:=by cases n<;>rfl
noncomputable def Rd(i:Int)(k:Int->β):β:=@Int.rec (λ_=>β) (λn=>lS n λn=>k (.ofNat n)) (λn=>lS n λn=>k (.negSucc n)) i
def ag6(i:Int)(k:Int->β):Rd i k=k i:=by
 cases i with
 |ofNat n=>exact vV n λn=>k (.ofNat n)
 |negSucc n=>exact vV n λn=>k (.negSucc n)
noncomputable def D4(b:Bool)(k:Bool->β):β:=@Fu (λ_=>β) (k bf) (k bh) b
def ag5(b)(k:Bool->β):D4 b k=k b:=by cases b<;>rfl
noncomputable def xI{α:Type}(f:α->(α->β)->β)(l:List α):(List α->β)->β:=@z_ α (λ_=>(List α->β)->β) (λk=>k []) (λx _ ih k=>f x λx=>ih λr=>k (x::r)) l
def Gq{f}(hf:∀x k,f x k=k x):∀(l) (k:List α->β),xI f l k=k l
 |[],k=>rfl
 |x::r,k=>(hf x _).trans (Gq hf r _)
noncomputable def WY(s:ByteArray)(k:ByteArray->β):β:=match s with
 |⟨⟨l⟩⟩=>xI (λx k=>k x) l λl=>k ⟨⟨l⟩⟩
def avG(s)(k:ByteArray->β):WY s k=k s:=by
 cases s with
 |mk a=>cases a with
  |mk l=>simp only[WY];rw[Gq λ_ _=>rfl]
noncomputable def Re(v:Value)(k:Value->β):β:=match v with
 |.int kd i=>Rd i λi=>k (.int kd i)
 |.bool b=>D4 b λb=>k (.bool b)
 |.string s=>WY s λs=>k (.string s)
 |v=>k v
def ag7(v)(k:Value->β):Re v k=k v:=by
 cases v<;>simp only[Re,ag6,ag5,avG]
noncomputable def WZ(t:nR)(k:nR->β):β:=match t with
 |.exact=>k .exact
 |.no=>k .no
 |.tok id=>lS id λid=>k (.tok id)
def avH(t)(k:nR->β):WZ t k=k t:=by cases t<;>simp only[WZ,vV]
noncomputable def rR:Nat->bg->(bg->β)->β
 |0,v,k=>k v
 |n+1,v,k=>match v with
  |.v x=>Re x λx=>k (.v x)
  |.agg Z=>xI (rR n) Z λZ=>k (.agg Z)
  |.bQ Z=>xI (rR n) Z λZ=>k (.bQ Z)
  |.bp=>k .bp
  |.sl xs t=>xI (rR n) xs λxs=>WZ t λt=>k (.sl xs t)
  |.fp Z off=>xI (rR n) Z λZ=>lS off λoff=>k (.fp Z off)
  |.mp b off=>lS b λb=>lS off λoff=>k (.mp b off)
  |.rp b m off=>lS b λb=>lS m λm=>lS off λoff=>k (.rp b m off)
  |.rs b m sz off len=>lS b λb=>lS m λm=>lS off λoff=>lS len λlen=>k (.rs b m sz off len)
  |.gJ b=>lS b λb=>k (.gJ b)
  |.fn f a b=>xI (rR n) a λa=>xI (rR n) b λb=>k (.fn f a b)
  |.eE t x=>rR n x λx=>k (.eE t x)
  |.gq b=>lS b λb=>k (.gq b)
  |.jq b=>lS b λb=>k (.jq b)
  |.iK b t=>lS b λb=>k (.iK b t)
  |.gw ch=>k (.gw ch)
  |.fx a b o=>k (.fx a b o)
def AP:∀(n:Nat) (v:bg) (k:bg->β),rR n v k=k v
 |0,v,k=>rfl
 |n+1,v,k=>by
  cases v<;>simp only[rR,ag7,avH,vV,Gq (AP n),AP n]
noncomputable def L_(t:Nat)(e:dB)(k:bg->β)(d:β):β:=@z_ (Nat×bg) (λ_=>β) d (λp _ ih=>@Fu (λ_=>β) ih (k p.2) (eV p.1 t)) e
def Wu(t:Nat)(k)(d:β):∀(e:dB),L_ t e k d=match gY e t with|some v=>k v|none=>d
 |[]=>rfl
 |(j,v)::r=>by
  simp only[gY];by_cases h:j=t;subst h;rw[if_pos rfl];show@Fu (λ_=>β) _ (k v) (eV j j)=_;rw[show eV j j=bh from Nat.beq_refl j];have O:eV j t=bf:=by cases O:eV j t with
   |false=>rfl
   |true=>exact(h (tF O)).elim
  rw[if_neg h,<-(Wu t k d r)];show@Fu (λ_=>β) (L_ t r k d) (k v) (eV j t)=_;rw[O]
noncomputable def vg(L:List Nat):dB->(dB->β)->β:=@z_ Nat (λ_=>dB->(dB->β)->β) (λe k=>k []) (λj _ ih e k=>L_ j e (λv=>ih e λr=>k ((j,v)::r)) (ih e k)) L
def x7:∀(L) (e:dB) (k:dB->β),vg L e k=k (mR L e)
 |[],e,k=>rfl
 |j::L,e,k=>by
  show L_ j e (λv=>vg L e λr=>k ((j,v)::r)) (vg L e k)=_;rw[Wu];simp only[mR];cases gY e j with
  |none=>simp only[DY,x7 L e]
  |some v=>simp only[DY,x7 L e]
end
def Mc:Value->Value->Bool
 |.int k a,.int k' b=>decide (k=k')&&decide (a=b)
 |.bool a,.bool b=>a==b
 |.string a,.string b=>decide (a.data.toList=b.data.toList)
 |.pointer bn,.pointer bn=>bh
 |.nilFunc,.nilFunc=>bh
 |.nilIface,.nilIface=>bh
 |.map bn,.map bn=>bh
 |_,_=>bf
def agk:∀{a b},Mc a b=bh->a=b:=by
 intro a b h;unfold Mc at h;split at h;simp only[fQ,decide_eq_true_eq] at h;rw[h.1,h.2];rw[eq_of_beq h];simp only[decide_eq_true_eq] at h;rename_i a b;cases a with
 |mk a=>cases a with
  |mk a=>cases b with
   |mk b=>cases b with
    |mk b=>dsimp only at h;rw[h]
 all_goals first|rfl|cases h
def xE{α:Type}(f:α->α->Bool):List α->List α->Bool
 |[],[]=>bh
 |a::r,b::s=>f a b&&xE f r s
 |_,_=>bf
def QO{f}(hf:∀{a b},f a b=bh->a=b):∀{l m:List α},xE f l m=bh->l=m
 |[],[],_=>rfl
 |a::r,b::s,h=>by
  simp only[xE,fQ] at h;rw[hf h.1,QO hf h.2]
 |[],_::_,h=>aB
 |_::_,[],h=>aB
def WH:nR->nR->Bool
 |.exact,.exact=>bh
 |.no,.no=>bh
 |.tok a,.tok b=>a==b
 |_,_=>bf
def au_{a b}(h:WH a b=bh):a=b:=by
 cases a<;>cases b<;>first|rfl|(cases h;done)|(simp only[WH,beq_iff_eq] at h;rw[h])
def Wy:Fn->Fn->Bool
 |.func a,.func b=>a==b
 |_,_=>bf
def au6{a b:Fn}(h:Wy a b=bh):a=b:=by
 unfold Wy at h;split at h;rw[eq_of_beq h];cases h
def qq:Nat->bg->bg->Bool
 |0,_,_=>bf
 |n+1,a,b=>match a,b with
  |.v x,.v y=>Mc x y
  |.agg x,.agg y=>xE (qq n) x y
  |.bQ x,.bQ y=>xE (qq n) x y
  |.bp,.bp=>bh
  |.sl x t,.sl y u=>xE (qq n) x y&&WH t u
  |.fp x i,.fp y j=>xE (qq n) x y&&i==j
  |.mp k i,.mp l j=>k==l&&i==j
  |.rp k m i,.rp l m' j=>k==l&&m==m'&&i==j
  |.rs k m s i n,.rs l m' s' j n'=>k==l&&m==m'&&s==s'&&i==j&&n==n'
  |.gJ k,.gJ l=>k==l
  |.fn f x y,.fn g u v=>Wy f g&&xE (qq n) x u&&xE (qq n) y v
  |.eE t x,.eE u y=>t==u&&qq n x y
  |.gq k,.gq l=>k==l
  |.jq k,.jq l=>k==l
  |.iK k t,.iK l u=>k==l&&t.1==u.1&&t.2==u.2
  |_,_=>bf
def AH:∀{n:Nat} {a b:bg},qq n a b=bh->a=b
 |0,a,b,h=>aB
 |n+1,a,b,h=>by
  have ih:∀{l m},xE (qq n) l m=bh->l=m:=λq=>QO (λr=>AH r) q;unfold qq at h;split at h
  all_goals try simp only[fQ,beq_iff_eq] at h
  rw[agk h];rw[ih h];rw[ih h];rfl;rw[ih h.1,au_ h.2];rw[ih h.1,h.2];rw[h.1,h.2];rw[h.1.1,h.1.2,h.2];rw[h.1.1.1.1,h.1.1.1.2,h.1.1.2,h.1.2,h.2];rw[h];rw[au6 h.1.1,ih h.1.2,ih h.2];rw[h.1,AH h.2];rw[h];rw[h];rename_i k t l u;obtain⟨t1,t2⟩:=t;obtain⟨u1,u2⟩:=u;dsimp only at h;rw[h.1.1,h.1.2,h.2];cases h
noncomputable def BF(o:Option bg)(k:bg->Option bg):Option bg:=match o with
 |some v=>rR 64 v k
 |none=>bn
def E9{o}:BF o k=o.bind k:=by cases o<;>simp[BF,AP]
noncomputable def TL(o:Option Value)(k:bg->Option bg):Option bg:=match o with
 |some v=>Re v λv=>k (.v v)
 |none=>bn
def apv{o}:TL o k=o.bind λv=>k (.v v):=by cases o<;>simp[TL,ag7]
noncomputable def I8(t:Nat)(e:dB)(k:bg->Option bg):Option bg:=L_ t e k bn
def QN{t:Nat}:I8 t e k=(gY e t).bind k:=by
 unfold I8;rw[Wu];cases gY e t<;>rfl
noncomputable def ow(x:dK)(e:dB)(k:bg->Option bg):Option bg:=@dK.rec (λ_=>Option bg) (λt=>I8 t e k) (λv=>k v) x
def sU{x:dK}:ow x e k=(eu e x).bind k:=by
 cases x with
 |t t=>exact QN
 |c v=>rfl
noncomputable def HC{α:Type}(l:List α):Nat->(α->Option bg)->Option bg:=@z_ α (λ_=>Nat->(α->Option bg)->Option bg) (λ_ _=>bn) (λx _ ih n k=>@Ld (λ_=>Option bg) (k x) (λm _=>ih m k) n) l
def Kd:∀{l:List α} {n:Nat} {k},HC l n k=(l[n]?).bind k
 |[],n,k=>by simp[HC]
 |x::r,0,k=>rfl
 |x::r,n+1,k=>by
  rw[yy];exact Kd (n:=n)
structure iI where
 n:Nat
 l:List br
def R(H:List br):iI:=⟨H.length,H.reverse⟩
def Fi(h:iI):List br:=h.l.reverse
def H_(H):Fi (R H)=H:=arB H
noncomputable def zz(h:iI)(b:Nat)(k:br->Option bg):Option bg:=match sy b h.n with
 |true=>HC h.l (h.n-1-b) k
 |false=>bn
def aeQ{a:Nat}(h:a<b):sy a b=bh:=Nat.ble_eq_true_of_le h
def aeP{a:Nat}(h:¬a<b):sy a b=bf:=by
 cases O:sy a b with
 |false=>rfl
 |true=>exact(h (qM O)).elim
def CM{k}:zz (R H) b k=(H[b]?).bind k:=by
 unfold zz R;dsimp only;by_cases h:b<H.length;rw[aeQ h];dsimp only;rw[Kd,UH aa,show H.length-1-(H.length-1-b)=b by omega];rw[aeP h,j4 aa];rfl
noncomputable def ab4(l:List br):Nat->(br->(br->Option bg)->Option bg)->(List br->Option bg)->Option bg:=@z_ br (λ_=>Nat->(br->(br->Option bg)->Option bg)->(List br->Option bg)->Option bg) (λ_ _ _=>bn)
 (λb r ih n f k=>@Ld (λ_=>Option bg) (f b λb=>k (b::r)) (λm _=>ih m f λr=>k (b::r)) n) l
def aqz(hf:∀b k,f b k=(g b).bind k):∀{h} {n:Nat} {k},ab4 h n f k=(h[n]?).bind λb=>(g b).bind λb'=>k (h.set n b')
 |[],n,k=>by simp[ab4]
 |b::r,0,k=>hf b _
 |b::r,n+1,k=>by
  rw[yy];exact aqz hf (n:=n)
def aGN(h:b<H.length):H.reverse.set (H.length-1-b) y=(H.set b y).reverse:=by
 apply FB;intro i
 rcases er i H.length with q|q
 rw[UH ak,wY];by_cases e:H.length-1-b=i;rw[<-e,bT ah,show H.length-1-(H.length-1-b)=b by omega,bT h];rw[bE e,UH q,bE aa];rw[j4 ak,j4 ak]
noncomputable def zP(h:iI)(b:Nat)(f:br->(br->Option bg)->Option bg)(k:iI->Option bg):Option bg:=match sy b h.n with
 |true=>ab4 h.l (h.n-1-b) f λl=>k ⟨h.n,l⟩
 |false=>bn
def ab3(hf:∀b k,f b k=(g b).bind k){k}:zP (R H) b f k=(H[b]?).bind λx=>(g x).bind λy=>k (R (H.set b y)):=by
 unfold zP R;dsimp only;by_cases h:b<H.length;rw[aeQ h];dsimp only;rw[aqz hf,UH aa,show H.length-1-(H.length-1-b)=b by omega];simp only[aGN h,wY];rw[aeP h,j4 aa];rfl
def KV{k}:zP (R H) b (λ_ k=>k y) k=(H[b]?).bind λ_=>k (R (H.set b y)):=
 (ab3 (g:=λ_=>a_ y) λ_ _=>rfl).trans rfl
noncomputable def E5(h:iI)(b:br)(k:iI->Option bg):Option bg:=lS (h.n+1) λn=>k ⟨n,b::h.l⟩
def Tf{b:br}{k}:E5 (R H) b k=k (R (H++[b])):=by
 simp only[E5,vV,R,ek,qg,List.reverse_append,List.reverse_singleton,acX]
noncomputable def Rg(H:List br)(k:iI->Option bg):Option bg:=xI (λx k=>k x) H.reverse λl=>lS H.length λn=>k ⟨n,l⟩
def aha{k}:Rg H k=k (R H):=by
 simp only[Rg,vV];rw[Gq λ_ _=>rfl];rfl
noncomputable def Ko(bN:Bool):Nat->List bg->Nat->(bg->Option bg)->Option bg:=match bN with
 |false=>λ_ Z off k=>HC Z off k
 |true=>λn Z off k=>match fh bh n Z off with
  |some (.agg l)=>xI (λx k=>k x) l λl=>k (.agg l)
  |some v=>k v
  |none=>bn
def aaw:Ko bN n Z off k=(fh bN n Z off).bind k:=by
 cases bN with
 |false=>simp only[Ko,Kd,fh,kB,if_false]
 |true=>
  simp only[Ko];cases h:fh bh n Z off with
  |none=>rfl
  |some v=>cases v<;>simp only[mj]<;>rw[Gq λ_ _=>rfl]
noncomputable def Ht:bg->Bool->Nat->iI->(bg->Option bg)->Option bg
 |.mp b off=>λbN n h k=>zz h b λblk=>match blk with
  |.cells Z r=>match r with
   |false=>Ko bN n Z off k
   |true=>bn
  |_=>bn
 |.fp Z off=>λbN n _ k=>Ko bN n Z off k
 |.rp b m off=>λbN n h k=>zz h b λblk=>match blk with
  |.cells Z r=>match r with
   |true=>match eV m Z.length with
    |true=>Ko bN n Z off k
    |false=>bn
   |false=>bn
  |_=>bn
 |p=>λbN n h k=>BF (bz (Fi h) bN n p) k
def amC:Ht p bN n (R H) k=(bz H bN n p).bind k:=by
 cases p with
 |mp b off=>
  simp only[Ht,CM,bz];cases H[b]? with
  |none=>rfl
  |some blk=>cases blk with
   |cells Z r=>cases r<;>simp[aaw]
   |_=>rfl
 |rp b m off=>
  simp only[Ht,CM,bz];cases H[b]? with
  |none=>rfl
  |some blk=>cases blk with
   |cells Z r=>cases r with
    |false=>rfl
    |true=>
     simp only[mj];by_cases hl:m=Z.length;rw[if_pos hl,show eV m Z.length=bh by rw[w4];exact hl];exact aaw;rw[if_neg hl,show eV m Z.length=bf from(by cases O:eV m Z.length with
     |false=>rfl
     |true=>exact(hl (tF O)).elim)];rfl
   |_=>rfl
 |fp Z off=>simp only[Ht,aaw,bz]
 |_=>(simp only[Ht,E9,H_])
noncomputable def LY:bg->(List bg->Option bg)->Option bg
 |.agg Z=>λk=>k Z
 |x=>λk=>k [x]
def Qi{k}:LY x k=k x.cells:=by cases x<;>rfl
noncomputable def E3(Z:List bg):List bg->(List bg->Option bg)->Option bg:=@z_ bg (λ_=>List bg->(List bg->Option bg)->Option bg)
 (λvs k=>@z_ bg (λ_=>Option bg) (k []) (λ_ _ _=>bn) vs) (λc r ih vs k=>@z_ bg (λ_=>Option bg) (k (c::r)) (λv vs _=>ih vs λr=>k (v::r)) vs) Z
def aan:∀{Z vs} {k},E3 Z vs k=if vs.length<=Z.length then k (vs++Z.drop vs.length) else bn
 |[],[],k=>by simp[E3]
 |c::r,[],k=>by simp[E3]
 |[],v::vs,k=>by simp[E3]
 |c::r,v::vs,k=>by
  have:=aan (Z:=r) (vs:=vs) (k:=λr=>k (v::r));simp only[eZ,wX,gB,Nat.add_le_add_iff_right];exact this
noncomputable def Oo(Z:List bg):Nat->List bg->(List bg->Option bg)->Option bg:=@z_ bg (λ_=>Nat->List bg->(List bg->Option bg)->Option bg)
 (λoff vs k=>@Ld (λ_=>Option bg) (E3 [] vs k) (λ_ _=>bn) off) (λc r ih off vs k=>@Ld (λ_=>Option bg) (E3 (c::r) vs k) (λm _=>ih m vs λr=>k (c::r)) off) Z
def aaG:∀{Z} {off:Nat} {vs} {k},Oo Z off vs k=if off+vs.length<=Z.length then k (d_ Z off vs) else bn
 |[],0,vs,k=>by
  show E3 [] vs k=_;simp[aan,d_]
 |[],off+1,vs,k=>by simp[Oo]
 |c::r,0,vs,k=>by
  show E3 (c::r) vs k=_;simp only[aan,d_,oR,gM,gi]
 |c::r,off+1,vs,k=>by
  have:=aaG (Z:=r) (off:=off) (vs:=vs) (k:=λr=>k (c::r));show Oo r off vs (λr=>k (c::r))=_;rw[this];simp only[d_,eZ,rJ,gB];have e1:off+1+vs.length=(off+vs.length)+1:=aa
  rw[e1,wX];by_cases h:off+vs.length<=r.length;rw[if_pos h,if_pos aa];rw[if_neg h,if_neg aa]
noncomputable def OM:bg->Nat->bg->iI->(iI->Option bg)->Option bg
 |.mp b off=>λn x h k=>LY x λvs=>match eV vs.length n&&vs.all cu with
  |true=>zP h b (λblk k=>match blk with
   |.cells Z r=>match r with
    |false=>Oo Z off vs λZ=>k (.cells Z bf)
    |true=>bn
   |_=>bn) k
  |false=>bn
 |.rp b m off=>λn x h k=>LY x λvs=>match eV vs.length n&&vs.all cu with
  |true=>zP h b (λblk k=>match blk with
   |.cells Z r=>match r with
    |true=>match eV m Z.length with
     |true=>Oo Z off vs λZ=>k (.cells Z bh)
     |false=>bn
    |false=>bn
   |_=>bn) k
  |false=>bn
 |p=>λn x h k=>match bL (Fi h) n p x with
  |some H=>Rg H k
  |none=>bn
def apV{row}{k:iI->Option bg}:(match eV x.cells.length n&&x.cells.all cu with
  |true=>((if off+x.cells.length<=Z.length then a_ (bw (d_ Z off x.cells) row) else bn).bind λy=>k (R (H.set b y)))
  |false=>bn)=(fD H b row Z n off x).bind λH=>k (R H):=by
 unfold fD;by_cases T:x.cells.length=n/\off+n<=Z.length/\x.cells.all cu=bh;rw[if_pos T];obtain⟨c1,c2,c3⟩:=T;have atD:eV x.cells.length n=bh:=by rw[w4];exact c1
 rw[atD,c3,if_pos (show off+x.cells.length<=Z.length by omega)];rfl;rw[if_neg T];cases hq:(eV x.cells.length n&&x.cells.all cu) with
 |false=>rfl
 |true=>
  simp only[fQ,w4] at hq;rw[if_neg (λq=>T ⟨hq.1,aa,hq.2⟩)];rfl
def aHF{k}:OM p n x (R H) k=(bL H n p x).bind λH=>k (R H):=by
 cases p with
 |mp b off=>
  simp only[OM,Qi];rw[ab3 (g:=λblk=>match blk with
   |.cells Z bf=>if off+x.cells.length<=Z.length then a_ (.cells (d_ Z off x.cells) bf) else bn
   |_=>bn) (λblk k=>by
    cases blk with
    |cells Z r=>cases r with
     |false=>simp only[aaG];split<;>rfl
     |true=>rfl
    |_=>rfl)]
  simp only[bL];cases O:H[b]? with
  |none=>cases(eV x.cells.length n&&x.cells.all cu)<;>rfl
  |some blk=>cases blk with
   |cells Z r=>cases r with
    |false=>exact apV
    |true=>cases(eV x.cells.length n&&x.cells.all cu)<;>rfl
   |_=>cases(eV x.cells.length n&&x.cells.all cu)<;>rfl
 |rp b m off=>
  simp only[OM,Qi];rw[ab3 (g:=λblk=>match blk with
   |.cells Z bh=>if m=Z.length then(if off+x.cells.length<=Z.length then a_ (.cells (d_ Z off x.cells) bh) else bn) else bn
   |_=>bn) (λblk k=>by
    cases blk with
    |cells Z r=>cases r with
     |true=>
      by_cases hl:m=Z.length;simp only[if_pos hl,show eV m Z.length=bh by rw[w4];exact hl,aaG];split<;>rfl;simp only[if_neg hl,show eV m Z.length=bf from(by cases O:eV m Z.length with
      |false=>rfl
      |true=>exact(hl (tF O)).elim)];rfl
     |false=>rfl
    |_=>rfl)]
  simp only[bL];cases O:H[b]? with
  |none=>cases(eV x.cells.length n&&x.cells.all cu)<;>rfl
  |some blk=>cases blk with
   |cells Z r=>cases r with
    |true=>
     by_cases hl:m=Z.length;simp only[if_pos hl,mj];exact apV;simp only[if_neg hl,mj];cases(eV x.cells.length n&&x.cells.all cu)<;>rfl
    |false=>cases(eV x.cells.length n&&x.cells.all cu)<;>rfl
   |_=>cases(eV x.cells.length n&&x.cells.all cu)<;>rfl
 |_=>
  simp only[OM,H_];cases bL H n _ x with
  |none=>rfl
  |some H'=>exact aha
def ad6(a b:Int):Int:=match a with
 |.ofNat m=>match b with
  |.ofNat n=>.ofNat (m+n)
  |.negSucc n=>.ofNat m+ .negSucc n
 |.negSucc m=>.negSucc m+b
def asx(a b:Int):ad6 a b=a+b:=by cases a<;>cases b<;>rfl
def abB(a b:Int):Int:=match a with
 |.ofNat m=>match b with
  |.ofNat n=>match w5 n m with
   |true=>.ofNat (m-n)
   |false=>.ofNat m- .ofNat n
  |.negSucc n=>.ofNat m- .negSucc n
 |.negSucc m=>.negSucc m-b
def aHK(a b:Int):abB a b=a-b:=by
 cases a with
 |negSucc m=>rfl
 |ofNat m=>cases b with
  |negSucc n=>rfl
  |ofNat n=>
   simp only[abB];cases h:w5 n m with
   |false=>rfl
   |true=>
    have:=qM h;simp only[BR];omega
def J4(a b:Int):Bool:=match a with
 |.ofNat m=>match b with
  |.ofNat n=>w5 (m+1) n
  |.negSucc _=>bf
 |.negSucc m=>match b with
  |.ofNat _=>bh
  |.negSucc n=>w5 (n+1) m
def aDv(a b:Int):J4 a b=decide (a<b):=by
 cases a<;>cases b<;>simp only[J4];rename_i m n;rw[Ij,Nat.ble_eq,decide_eq_true_eq];simp only[BR];omega;rename_i m n;symm;rw[decide_eq_false_iff_not];simp only[BR];omega;rename_i m n;symm;rw[decide_eq_true_eq];simp only[BR];omega;rename_i m n;rw[Ij,Nat.ble_eq,decide_eq_true_eq];omega
def QT(a b:Int):Bool:=match a with
 |.ofNat m=>match b with
  |.ofNat n=>eV m n
  |.negSucc _=>bf
 |.negSucc m=>match b with
  |.ofNat _=>bf
  |.negSucc n=>eV m n
def ava(a b:Int):QT a b=(a==b):=by
 cases a<;>cases b<;>simp only[QT];rename_i m n;rw[Ij,w4,beq_iff_eq];simp only[BR];omega;symm;simp;symm;simp;rename_i m n;rw[Ij,w4,beq_iff_eq];simp
def Ic(kd:IntKind):Int->Int:=match kd with
 |.i64=>λn=>match n with
  |.ofNat m=>match w5 m 9223372036854775807 with
   |true=>.ofNat m
   |false=>cN.wrap (.ofNat m)
  |.negSucc m=>match w5 m 9223372036854775807 with
   |true=>.negSucc m
   |false=>cN.wrap (.negSucc m)
 |.u64=>λn=>match n with
  |.ofNat m=>.ofNat (m % 18446744073709551616)
  |.negSucc m=>Im.wrap (.negSucc m)
 |.u8=>λn=>match n with
  |.ofNat m=>.ofNat (m % 256)
  |.negSucc m=>IntKind.u8.wrap (.negSucc m)
 |kd=>λn=>kd.wrap n
def aI2(kd)(n:Int):Ic kd n=kd.wrap n:=by
 cases kd
 case i64=>
  cases n with
  |ofNat m=>
   simp only[Ic];split;rename_i h;have:=qM h;rw[fq (by simp only[BR];omega) (by simp only[BR];omega)];rfl
  |negSucc m=>
   simp only[Ic];split;rename_i h;have:=qM h;rw[fq aa aa];rfl
 case u8=>
  cases n with
  |ofNat m=>simp only[Ic];rw[aqO];simp only[BR];omega
  |negSucc m=>rfl
 case u64=>
  cases n with
  |ofNat m=>simp only[Ic];rw[Fm];simp only[BR];omega
  |negSucc m=>rfl
 all_goals rfl
def Hh:IntKind->Nat
 |.i8=>0|.i16=>1|.i32=>2|.i64=>3|.u8=>4|.u16=>5|.u32=>6|.u64=>7
def aCf{a b}:(eV (Hh a) (Hh b)=bh)↔a=b:=by cases a<;>cases b<;>simp[Hh]
noncomputable def VW:BinOp->IntKind->Int->Int->(bg->Option bg)->Option bg
 |.add=>λkd a b k=>Rd (Ic kd (ad6 a b)) λr=>k (.v (.int kd r))
 |.sub=>λkd a b k=>Rd (Ic kd (abB a b)) λr=>k (.v (.int kd r))
 |.eql=>λkd a b k=>D4 (QT a b) λr=>k (.v (.bool r))
 |.neq=>λkd a b k=>D4 (!QT a b) λr=>k (.v (.bool r))
 |.lss=>λkd a b k=>D4 (J4 a b) λr=>k (.v (.bool r))
 |.geq=>λkd a b k=>D4 (!J4 a b) λr=>k (.v (.bool r))
 |.gtr=>λkd a b k=>D4 (J4 b a) λr=>k (.v (.bool r))
 |.leq=>λkd a b k=>D4 (!J4 b a) λr=>k (.v (.bool r))
 |op=>λkd a b k=>TL (mE op kd a kd b) k
def atq{kd}{a b:Int}:VW op kd a b k=(mE op kd a kd b).bind λv=>k (.v v):=by
 have Y:(!decide (a<b))=decide (a>=b):=by rw[Ij];simp
 have V:(!decide (b<a))=decide (a<=b):=by rw[Ij];simp
 cases op<;>simp only[VW,ag6,ag5,aI2,asx,aHK,ava,aDv,apv]
 all_goals first
  |(simp[mE];done)
  |(simp only[mE,ne_eq,not_true_eq_false,if_false,mj,Y,V];done)
  |(simp only[mE,ne_eq,not_true_eq_false,if_false,mj,Y,V];rfl)
noncomputable def VX:BinOp->bg->bg->(bg->Option bg)->Option bg:=λop x=>match x with
 |.v (.int kd a)=>λy=>match y with
  |.v (.int NC b)=>λk=>match eV (Hh kd) (Hh NC) with
   |true=>VW op kd a b k
   |false=>TL (mE op kd a NC b) k
  |y=>λk=>BF (dR op (.v (.int kd a)) y) k
 |x=>λy k=>BF (dR op x y) k
def atr{y:bg}:VX op x y k=(dR op x y).bind k:=by
 unfold VX;split;rename_i kd a;split;rename_i NC b;cases hq:eV (Hh kd) (Hh NC) with
 |true=>
  have:=aCf.1 hq;subst this;simp only[atq,dR];cases mE op kd a kd b<;>rfl
 |false=>
  simp only[dR,apv];cases mE op kd a NC b<;>rfl
 exact E9;exact E9
noncomputable def Q1(off:Nat):bg->(bg->Option bg)->Option bg
 |.mp b o=>λk=>lS (o+off) λo=>k (.mp b o)
 |.fp Z o=>λk=>lS (o+off) λo=>k (.fp Z o)
 |x=>λk=>BF (lM off x) k
def avn:Q1 off x k=(lM off x).bind k:=by
 cases x<;>first|(simp only[Q1,E9];done)|(simp[Q1,vV,lM];done)
noncomputable def Nx(n:Nat):bg->bg->(bg->Option bg)->Option bg
 |.sl xs t=>λi k=>match i with
  |.v (.int kd (.ofNat j))=>HC xs j λx=>LY x λZ=>match eV Z.length n with
   |true=>k (.fp Z 0)
   |false=>bn
  |i=>BF (ct n (.sl xs t) i) k
 |x=>λi k=>BF (ct n x i) k
def azl:Nx n x i k=(ct n x i).bind k:=by
 cases x with
 |sl xs t=>
  simp only[Nx];split;rename_i kd j;simp only[Kd,Qi,ct];rw[if_pos (show(0:Int)<=Int.ofNat j from Int.natCast_nonneg j)];simp only[BR,yw];cases xs[j]? with
  |none=>rfl
  |some x=>
   simp only[mj];by_cases hl:x.cells.length=n;rw[if_pos hl,show eV x.cells.length n=bh by rw[w4];exact hl];rfl;rw[if_neg hl,show eV x.cells.length n=bf from(by cases O:eV x.cells.length n with
   |false=>rfl
   |true=>exact(hl (tF O)).elim)];rfl
  (simp only[Nx,E9])
 |_=>(simp only[Nx,E9])
def atC(l)(j:Nat):(⟨⟨l⟩⟩:ByteArray)[j]?=l[j]? :=by
 have Y:∀(b:ByteArray),b[j]?=if h:j<b.size then a_ (b[j]'h) else bn:=λb=>rfl;rw[Y];by_cases h:j<l.length;rw[dif_pos (show j<(⟨⟨l⟩⟩:ByteArray).size from h),cy h];rfl;rw[dif_neg (show¬j<(⟨⟨l⟩⟩:ByteArray).size from h),j4 aa]
noncomputable def Wc:bg->bg->(bg->Option bg)->Option bg
 |.v (.string ⟨⟨l⟩⟩)=>λi k=>match i with
  |.v (.int kd (.ofNat j))=>HC l j λb=>lS b.toNat λn=>k (.v (.int .u8 (.ofNat n)))
  |i=>BF (xq (.v (.string ⟨⟨l⟩⟩)) i) k
 |x=>λi k=>BF (xq x i) k
def atV:Wc x i k=(xq x i).bind k:=by
 unfold Wc;split;rename_i l;split;rename_i kd j;simp only[Kd,xq];rw[if_pos (show(0:Int)<=Int.ofNat j from Int.natCast_nonneg j)];simp only[BR,yw,atC];cases l[j]? <;>simp[vV];exact E9;exact E9
noncomputable def WO(i:Nat):bg->(bg->Option bg)->Option bg
 |.bQ Z=>HC Z i
 |_=>λ_=>bn
def avi{i:Nat}:WO i x k=(pU i x).bind k:=by
 cases x<;>simp[WO,pU,Kd]
inductive adv where
 |val (v:bg)
 |gw (ch:List PanicEntry)
structure adl where
 ps:List Nat
 a:eS
 b:eS
 e:dB
abbrev sC:=List (Nat×adl)
abbrev B0:=adv->iI->Option bg
abbrev uG:=sC->bg->List bg->iI->B0->Option bg
def Ws:sH->Bool
 |.alloc _|.box _|.st .. |.xz .. |.app .. |.B4 .. |.Bt .. |.CK .. |.iter _|.next _|.CJ|.x5 .. |.Br .. |.DZ .. |.Aq .. |.Av .. |.As .. =>bh
 |_=>bf
noncomputable def abm(o:sH)(e:dB)(h:iI)(k:bg->iI->Option bg):Option bg:=match Ws o with
 |false=>match cF e (Fi h) o with
  |some (v,_)=>rR 64 v λv=>k v h
  |none=>bn
 |true=>match cF e (Fi h) o with
  |some (v,H)=>Rg H λh=>rR 64 v λv=>k v h
  |none=>bn
noncomputable def tf:sH->dB->iI->(bg->iI->Option bg)->Option bg
 |.mv x=>λe h k=>ow x e λv=>k v h
 |.fT bN n x=>λe h k=>ow x e λp=>Ht p bN n h λv=>k v h
 |.st n p x=>λe h k=>ow p e λp=>ow x e λx=>OM p n x h λh=>k jL h
 |.J9 x=>λe h k=>ow x e λp=>match vN p with
  |some p=>k p h
  |none=>bn
 |.bin op x y=>λe h k=>ow x e λx=>ow y e λy=>VX op x y λv=>k v h
 |.fa off x=>λe h k=>ow x e λx=>Q1 off x λv=>k v h
 |.cB n x i=>λe h k=>ow x e λx=>ow i e λi=>Nx n x i λv=>k v h
 |.DR x i=>λe h k=>ow x e λx=>ow i e λi=>Wc x i λv=>k v h
 |.ext i x=>λe h k=>ow x e λx=>WO i x λv=>k v h
 |.alloc z=>λe h k=>E5 h (.cells z bf) λh'=>lS h.n λn=>k (.mp n 0) h'
 |.box x=>λe h k=>ow x e λx=>LY x λZ=>E5 h (.cells Z bf) λh'=>lS h.n λn=>k (.mp n 0) h'
 |o=>abm o
def as1(ho:Ws o=bf){H'}{v:bg}(h:cF e H o=a_ (v,H')):H'=H:=by
 have len:∀{x:bg},cG x H=a_ (v,H')->H'=H:=λ{x} q=>by
  unfold cG at q;split at q;cases q;rw[dA] at q;obtain⟨_,_,q⟩:=q;cases q;rfl
 have ku:∀{x:bg},r6 x H=a_ (v,H')->H'=H:=λ{x} q=>by
  unfold r6 at q;split at q;cases q;rfl;cases q
 have slc:∀{n:Nat} {x:bg} {a b c},rz n x a b c H=a_ (v,H')->H'=H:=λ{n x a b c} q=>by
  unfold rz at q;split at q;cases q;rw[dA] at q;obtain⟨_,_,q⟩:=q;cases q;rfl
 have ye:∀{x:bg} {a b},H7 x a b H=a_ (v,H')->H'=H:=λ{x a b} q=>by
  unfold H7 at q;split at q;rw[dA] at q;obtain⟨_,_,q⟩:=q;cases q;rfl;cases q
 cases o<;>first|(cases ho;done)|skip
 all_goals simp only[cF,gN,dA,xb] at h
 all_goals first
  |(obtain⟨_,_,_,q⟩:=h;exact q.symm)
  |(obtain⟨_,_,_,_,_,q⟩:=h;exact q.symm)
  |(obtain⟨_,_,_,_,_,_,_,q⟩:=h;exact q.symm)
  |(obtain⟨_,_,_,_,_,_,_,_,_,q⟩:=h;exact q.symm)
  |(obtain⟨_,_,q⟩:=h;exact len q)
  |(obtain⟨_,_,q⟩:=h;exact ku q)
  |(obtain⟨_,_,_,_,_,_,q⟩:=h;exact ye q)
  |(obtain⟨_,_,_,_,_,_,_,_,q⟩:=h;exact slc q)
def aHa{k}:abm o e (R H) k=(cF e H o).bind λr=>k r.1 (R r.2):=by
 unfold abm;rw[H_];cases ho:Ws o with
 |false=>
  dsimp only;cases hs:cF e H o with
  |none=>rfl
  |some r=>
   obtain⟨v,H'⟩:=r;have:=as1 ho hs;subst this;simp only[AP,mj]
 |true=>
  dsimp only;cases hs:cF e H o with
  |none=>rfl
  |some r=>simp only[aha,AP,mj]
def anL{k}:tf o e (R H) k=(cF e H o).bind λr=>k r.1 (R r.2):=by
 have bm:∀{α:Type} (o:Option α) (f:α->bg×List br),((o.map f).bind λr=>k r.1 (R r.2))=o.bind λa=>k (f a).1 (R (f a).2):=λo f=>by cases o<;>rfl
 have rn:(R H).n=H.length:=rfl;cases o
 case mv=>simp only[tf,sU,cF,bm]
 case fT=>simp only[tf,sU,amC,cF,BV,bm]
 case st=>simp only[tf,sU,aHF,cF,BV,bm]
 case bin=>simp only[tf,sU,atr,cF,BV,bm]
 case fa=>simp only[tf,sU,avn,cF,BV,bm]
 case cB=>simp only[tf,sU,azl,cF,BV,bm]
 case DR=>simp only[tf,sU,atV,cF,BV,bm]
 case ext=>simp only[tf,sU,avi,cF,BV,bm]
 case alloc=>simp only[tf,Tf,vV,cF,mj,rn]
 case box x=>
  simp only[tf,sU,Qi,Tf,vV,cF,bm,rn]
 case J9 x=>
  simp only[tf,sU,cF,BV,bm];cases eu e x with
  |none=>rfl
  |some x=>simp only[mj];cases vN x<;>rfl
 all_goals
  simp only[tf];exact aHa
noncomputable def Td(dy:uG)(f:FuncId)(dO:List bg):Option bg:=match kz (dh [] 64) dO with
 |some bs=>dy [] (.fn (.func f) [] []) bs (R []) λo h=>match o with
  |.val r=>dh (Fi h) 64 r
  |.gw _=>bn
 |none=>bn
noncomputable def KW(k:bg->iI->Option bg):B0
 |.val v=>λh=>k v h
 |.gw _=>λ_=>bn
noncomputable def Cf(l:List dK):dB->(List bg->Option bg)->Option bg:=@z_ dK (λ_=>dB->(List bg->Option bg)->Option bg) (λ_ k=>k []) (λx _ ih e k=>ow x e λv=>ih e λvs=>k (v::vs)) l
def D6:∀{l} {e:dB} {k},Cf l e k=(nX e l).bind k
 |[],e,k=>rfl
 |x::r,e,k=>by
  show ow x e (λv=>Cf r e λvs=>k (v::vs))=_;simp only[sU,D6,nX,BV];cases eu e x with
  |none=>rfl
  |some v=>simp only[mj];cases nX e r<;>rfl
noncomputable def xU:ja->uG->sC->dB->iI->B0->Option bg
 |.op o=>λ_ _ e h k=>tf o e h λv h=>k (.val v) h
 |.call f args=>λdy cL e h k=>Cf args e λdO=>dy cL (.fn (.func f) [] []) dO h (KW λv h'=>k (.val v) h')
 |.mw x args=>λdy cL e h k=>ow x e λx=>Cf args e λdO=>dy cL x dO h (KW λv h'=>k (.val v) h')
 |.n9 f args=>λdy _ e h k=>Cf args e λdO=>match Td dy f dO with
  |some v=>rR 64 v λv=>k (.val v) h
  |none=>bn
 |.pE f args r=>λdy _ e h k=>Cf args e λdO=>match Td dy f dO with
  |some v=>rR 64 v λv=>match qq 64 v r with
   |true=>k (.val r) h
   |false=>bn
  |none=>bn
 |.qo f args=>λdy cL e h k=>Cf args e λdO=>dy cL (.fn (.func f) [] []) dO h k
 |.qp x args=>λdy cL e h k=>ow x e λx=>match x with
  |.fn (.func f) fs Z=>Cf args e λdO=>dy cL (.fn (.func f) fs Z) dO h k
  |_=>bn
 |.gw x=>λ_ _ e h k=>ow x e λx=>match rP x with
  |some v=>k (.gw [{v:=v,recovered:=bf}]) h
  |none=>bn
abbrev Dz:=uG->sC->dB->iI->(dB->iI->Option bg)->(List PanicEntry->iI->Option bg)->Option bg
noncomputable def ZU(d:Option Nat)(next:Dz):adv->Dz:=match d with
 |some d=>λo=>match o with
  |.val v=>λdy cL e h k kp=>next dy cL ((d,v)::e) h k kp
  |.gw ch=>λ_ _ _ h _ kp=>kp ch h
 |none=>λo=>match o with
  |.val v=>λdy cL e h k kp=>next dy cL e h k kp
  |.gw ch=>λ_ _ _ h _ kp=>kp ch h
noncomputable def TM:dX->Dz->Dz
 |⟨d,bn,i⟩=>λnext dy cL e h k kp=>xU i dy cL e h λo h'=>ZU d next o dy cL e h' k kp
 |⟨d,a_ (g,w),i⟩=>λnext dy cL e h k kp=>I8 g e λv=>match v with
  |.v (.bool b)=>match Bool.xor b w with
   |false=>xU i dy cL e h λo h'=>ZU d next o dy cL e h' k kp
   |true=>next dy cL (qD d jL e) h k kp
  |.bQ []=>next dy cL (qD d jL e) h k kp
  |_=>bn
noncomputable def Oc(l:List dX):Dz:=@z_ dX (λ_=>Dz) (λ_ _ e h k _=>k e h) (λo _ ih=>TM o ih) l
def ahE(e:dB):Option (Nat×Bool)->Option Bool
 |none=>a_ bh
 |some (k,w)=>match gY e k with
  |some (.v (.bool b))=>a_ (b==w)
  |some (.bQ [])=>a_ bf
  |_=>bn
noncomputable def aaU(c:dX)(e:dB)(h:iI):Bool:=match c.ins,c.dst with
 |.op o,a_ d=>match ahE e c.guard with
  |some bh=>match gY e d,tf o e h λu _=>a_ u with
   |some v,a_ u=>qq 64 u v
   |_,_=>bf
  |some bf=>match gY e d with
   |some v=>qq 64 v jL
   |none=>bf
  |none=>bf
 |_,_=>bf
noncomputable def anN(l:List (dX×List dX)):Dz:=@z_ (dX×List dX) (λ_=>Dz) (λ_ _ e h k _=>k e h) (λp _ ih=>TM p.1 λdy cL e h k kp=>match p.2.all (λc=>aaU c e h) with
 |true=>ih dy cL e h k kp
 |false=>bn) l
abbrev Ds:=Exit->dB->iI->Option bg
noncomputable def Zq(f:dB->iI->Ds->Option bg)(m:Nat):dB->iI->Ds->Option bg:=@Ld (λ_=>dB->iI->Ds->Option bg) (λ_ _ _=>bn) (λ_ ih e h k=>f e h λx=>match x with
 |.normal=>λe' h'=>ih e' h' k
 |x=>λe' h'=>k x e' h') m
noncomputable def Bq(st:LoopState)(pd:Option Code):br:=.b8 st pd [] #[] (λ_ _=>False)
noncomputable def aaQ(k0:Nat)(L:List Nat)(e:dB)(k:Ds)(h:iI):Option bg:=zz h k0 λb=>match b with
 |.b8 st pd _ _ _=>match st with
  |.busy=>bn
  |_=>zP h k0 (λ_ k=>k (Bq .exhausted pd)) λV=>match pd with
   |none=>vg L e λe'=>k .normal e' V
   |some .ret=>vg L e λe'=>k .ret e' V
   |some (.exit id)=>vg L e λe'=>k (.exit id) e' V
   |_=>bn
 |_=>bn
def abN(t:bg)(d:Nat):bg:=match t with
 |.bQ l=>go l
 |_=>.bp
where go:List bg->bg
 |.bQ [.mp j _,v]::r=>if eV j d then v else go r
 |_=>.bp
abbrev oT:=uG->Nat->Bool->sC->dB->iI->Ds->Option bg
noncomputable def QE(L:List Nat):oT:=λ_ _ _ _ e h k=>vg L e λe'=>k .normal e' h
noncomputable def QB(ops:List dX)(L:List Nat):oT:=λdy _ _ cL e h k=>Oc ops dy cL e h (λe' h'=>vg L e' λe'=>k .normal e' h') λch h'=>k (.panic ch) (tV ops e) h'
noncomputable def Gi(xa mb:oT):oT:=λdy cj nest cL e h k=>xa dy cj nest cL e h λx=>match x with
 |.normal=>λe' h'=>mb dy cj nest cL e' h' k
 |x=>λe' h'=>k x e' h'
noncomputable def Qw(c:dK)(xa mb:oT):oT:=λdy cj nest cL e h k=>ow c e λv=>match v with
 |.v (.bool bh)=>xa dy cj nest cL e h k
 |.v (.bool bf)=>mb dy cj nest cL e h k
 |_=>bn
noncomputable def Gf(id:Nat)(xa:oT):oT:=λdy cj nest cL e h k=>xa dy cj nest cL e h λx=>match x with
 |.exit n5=>λe' h'=>match eV n5 id with
  |true=>k .normal e' h'
  |false=>k (.exit n5) e' h'
 |x=>λe' h'=>k x e' h'
noncomputable def aus(xa:oT):oT:=λdy cj nest cL e h k=>Zq (xa dy cj nest cL) cj e h k
noncomputable def Qx(id:Nat)(L:List Nat):oT:=λ_ _ _ _ e h k=>vg L e λe'=>k (.exit id) e' h
noncomputable def QD(L:List Nat):oT:=λ_ _ _ _ e h k=>vg L e λe'=>k .ret e' h
noncomputable def Qz(x:dK)(ps:List Nat)(a b:eS)(L:List Nat):oT:=λdy cj nest cL e h k=>ow x e λv=>match v with
 |.fn (.func g) fs Z=>(λgo=>match nest with
  |true=>go h
  |false=>E5 h (.obj (.deferred bn)) go) λY=>lS Y.n λk0=>E5 Y (Bq .ready bn) λV=>
   dy ((k0,⟨ps,a,b,e⟩)::cL) (.fn (.func g) [] []) (fs++[.jq k0]++Z) V (KW λ_ h'=>aaQ k0 L e k h')
 |_=>bn
noncomputable def QA(ls:List (List dX))(L:List Nat):oT:=λdy _ _ cL e h k=>match ls with
 |[]=>bn
 |l0::r=>match Oc l0 dy cL e h (λe' _=>a_ (.bQ (e'.map λp=>.bQ [.mp p.1 0,p.2]))) (λ_ _=>bn) with
  |some t=>match Oc (l0.map (gz (abN t))) dy cL e h (λe' h'=>vg L e' λe'=>k .normal e' h') (λch h'=>k (.panic ch) (tV ls.flatten e) h') with
   |some x=>match r.all (λl=>match Oc (l.map (gz (abN t))) dy cL e h (λe' h'=>vg L e' λe'=>k .normal e' h') (λch h'=>k (.panic ch) (tV ls.flatten e) h') with
     |some y=>qq 64 x y
     |none=>bf) with
    |true=>a_ x
    |false=>bn
   |none=>bn
  |none=>bn
noncomputable def QC(l:List (dX×List dX))(L:List Nat):oT:=λdy _ _ cL e h k=>anN l dy cL e h (λe' h'=>vg L e' λe'=>k .normal e' h') λch h'=>k (.panic ch) (tV (l.map (·.1)) e) h'
noncomputable def Gh(xa:oT):oT:=λdy cj nest cL e h k=>xa dy cj nest cL e h λx=>match x with
 |.goto _=>λ_ _=>bn
 |x=>λe' h'=>k x e' h'
noncomputable def Qy(L:List Nat):oT:=λ_ _ _ _ e h k=>vg L e λe'=>k .normal e' h
noncomputable def aur:oT:=λ_ _ _ _ _ _ _=>bn
noncomputable def mA(c:eS):oT:=@eS.rec (λ_=>oT) (λL=>QE L)
 (λops L=>QB ops L)
 (λ_ _ xa mb=>Gi xa mb)
 (λc _ _ xa mb=>Qw c xa mb)
 (λid _ xa=>Gf id xa)
 (λ_ xa=>aus xa)
 (λid L=>Qx id L)
 (λL=>QD L)
 (λx ps a b L _ _=>Qz x ps a b L)
 (λls L=>QA ls L)
 (λl L=>QC l L)
 (λ_ xa=>Gh xa)
 (λL=>Qy L)
 aur c
def afL:mA (.skip L)=QE L:=rfl
def afH{ops}:mA (.region ops L)=QB ops L:=rfl
def L1{b:eS}:mA (.seq a b)=Gi (mA a) (mA b):=rfl
def afD{c:dK}{b:eS}:mA (.cond c a b)=Qw c (mA a) (mA b):=rfl
def LZ:mA (.block id a)=Gf id (mA a):=rfl
def afE:mA (.exit id L)=Qx id L:=rfl
def afK:mA (.ret L)=QD L:=rfl
def afG{x:dK}{ps}{b:eS}:mA (.r8 x ps a b L)=Qz x ps a b L:=rfl
def afI{ls}:mA (.r_ ls L)=QA ls L:=rfl
def afJ{l}:mA (.ry l L)=QC l L:=rfl
def L0:mA (.scope a)=Gh (mA a):=rfl
def afF:mA (.lab L)=Qy L:=rfl
inductive kX where
 |plain (n:Nat) (rs:List jf) (c:eS)
 |loops (n:Nat) (rs:List jf) (c:eS)
 |sO (n:Nat) (rs:List jf) (a:eS) (t:Nat) (g:FuncId) (caps:List dK) (b:eS)
 |HM (n d0 d1:Nat) (c:eS)
 |P_ (t:TypeId×Nat)
 |Qd (e:TypeId)
 |SN (l:List (TypeId×String×FuncId))
def aD2:FuncId:=4000000
def Mm:List (TypeId×String×FuncId)->TypeId->String->Option FuncId
 |[],_,_=>bn
 |(t',n',g)::r,t,n=>match eV t' t with
  |true=>match decide (n'=n) with
   |true=>a_ g
   |false=>Mm r t n
  |false=>Mm r t n
def WU:∀{l} {t} {n} {g},Mm l t n=a_ g->(t,n,g)∈l
 |[],_,_,_,h=>aB
 |(t',n',g')::r,t,n,g,h=>by
  unfold Mm at h;split at h;rename_i ht;have:=tF ht;subst this;split at h;rename_i hn;have:=of_decide_eq_true hn;subst this;cases h;exact wZ;exact sw _ (WU h);exact sw _ (WU h)
def Lj(P:Program)(f:FuncId):kX->Prop
 |.plain n rs c=>(∃hb,th P hb f=a_ ⟨n,rs,c.b7⟩)/\c.fits n=bh
 |.loops n rs c=>(∃hb,th P hb f=a_ ⟨n,rs,c.b7⟩)/\c.pY n bh=bh
 |.sO n rs a t g caps b=>(∃hb,KK P hb f=a_ ⟨n,rs,a.b7,t,g,caps,b.b7⟩)/\a.fits n=bh/\b.fits n=bh/\t<n
 |.HM n d0 d1 c=>(∃hb,KM P hb f=a_ ⟨n,d0,d1,c.b7⟩)/\c.fits n=bh/\d0<n/\d1<n
 |.P_ t=>Pz P f t
 |.Qd e=>PX P f e
 |.SN l=>∀e∈l,SH P e.1 e.2.1=a_ e.2.2
noncomputable def aaO:jf->dB->iI->(bg->Option bg)->Option bg
 |.s t=>λe _ k=>I8 t e k
 |.c t bN n=>λe h k=>I8 t e λp=>Ht p bN n h k
def aFx{x:jf}:aaO x e (R H) k=(By e H x).bind k:=by
 cases x with
 |s t=>exact QN
 |c t bN n=>simp only[aaO,QN,amC,By,BV]
noncomputable def Tw:List jf->dB->iI->(List bg->Option bg)->Option bg
 |[]=>λ_ _ k=>k []
 |x::r=>λe h k=>aaO x e h λv=>Tw r e h λl=>k (v::l)
def aoL:∀{l} {e:dB} {H} {k},Tw l e (R H) k=(uu e H l).bind k
 |[],e,H,k=>rfl
 |x::r,e,H,k=>by
  simp only[Tw,aFx,aoL,uu,BV];cases By e H x with
  |none=>rfl
  |some v=>simp only[mj];cases uu e H r<;>rfl
noncomputable def BA(rs:List jf)(e:dB)(h:iI)(k:B0):Option bg:=Tw rs e h λl=>match l with
 |[x]=>k (.val x) h
 |l=>k (.val (.bQ l)) h
def aFR{rs}{k}:BA rs e (R H) k=(lg e H rs).bind λv=>k (.val v) (R H):=by
 simp only[BA,aoL,lg];cases uu e H rs with
 |none=>rfl
 |some l=>
  simp only[mj,kf]
  match l with
  |[]=>rfl
  |[x]=>rfl
  |x::y::l=>rfl
def Su:List bg->Option (List Nat)
 |[]=>a_ []
 |.mp k 0::r=>match Su r with
  |some l=>a_ (k::l)
  |none=>bn
 |_::_=>bn
def Ud:List Value->Option (List bg)
 |[]=>a_ []
 |x::r=>if plain x then(match Ud r with|some l=>a_ (.v x::l)|none=>bn) else bn
def ab2:Value->Option bg
 |.iface t (.agg Z)=>match Ud Z.toList with
  |some l=>a_ (.eE t (.agg l))
  |none=>bn
 |.iface t x=>if plain x then a_ (.eE t (.v x)) else bn
 |_=>bn
noncomputable def KA(hc:FuncId->Option (kX×Nat))(dy:uG)(cj:Nat)(cL:sC)(g:FuncId)(ks:List Nat)(x:Option bg)(h:iI)(k:iI->Option bg):Option bg:=match hc g with
 |some (.HM n d0 d1 c,_)=>if ks.length<=n then mA c dy cj bf cL ((d1,qE x)::(d0,qE x)::pV 0 (ks.map λk=>.mp k 0)) h (λx _ h'=>match x with
  |.normal=>k h'
  |.ret=>k h'
  |_=>bn) else bn
 |_=>bn
noncomputable def age(rs:List jf)(k:B0):Ds
 |.normal=>λe h'=>BA rs e h' k
 |.ret=>λe h'=>BA rs e h' k
 |.panic ch=>λ_ h'=>k (.gw ch) h'
 |_=>λ_ _=>bn
noncomputable def afl(t:TypeId×Nat)(b:Nat)(h:iI)(k:iI->Option bg):Option bg:=zz h b λx=>match x with
 |.cells (.iK b' t'::z) bf=>match eV b' b&&eV t'.1 t.1&&eV t'.2 t.2 with
  |true=>zP h b (λ_ k=>k (.cells (.mp b 0::z) bf)) k
  |false=>bn
 |.cells (.mp b' 0::_) bf=>match eV b' b with
  |true=>k h
  |false=>bn
 |_=>bn
noncomputable def Tq:List bg->(List UInt8->Option bg)->Option bg
 |[],k=>k []
 |.v (.int .u8 (.ofNat n))::r,k=>match w5 n 255 with
  |true=>Tq r λl=>k (vC n::l)
  |false=>bn
 |_::_,_=>bn
noncomputable def apX(e:TypeId)(b:Nat)(h:iI)(k:bg->Option bg):Option bg:=zz h b λx=>match x with
 |.cells [_,.bp] bf=>k (.v (.string .empty))
 |.cells [_,.sl xs (.tok id)] bf=>zz h id λy=>match y with
  |.tok n 1 e'=>match eV n xs.length&&eV e' e&&w5 1 n&&w5 n 140737488355328 with
   |true=>Tq xs λl=>k (.v (.string ⟨⟨l⟩⟩))
   |false=>bn
  |_=>bn
 |_=>bn
noncomputable def AN(hc:FuncId->Option (kX×Nat)):kX->uG->Nat->sC->List bg->iI->B0->Option bg
 |.plain n rs c=>λdy cj cL args h k=>if args.length<=n then mA c dy cj bf cL (pV 0 args) h (age rs k) else bn
 |.loops n rs c=>λdy cj cL args h k=>if args.length<=n then mA c dy cj bf cL (pV 0 args) h (age rs k) else bn
 |.sO n rs a t g caps b=>λdy cj cL args h k=>if args.length<=n then mA a dy cj bf cL (pV 0 args) h (λx e h'=>match x with
  |.normal=>Cf caps e λdO=>match Su dO with
   |some ks=>xI (λx k=>lS x k) ks λks=>mA b dy cj bf cL ((t,.fn (.func g) [] (ks.map λk=>.mp k 0))::e) h' λx e2 V=>match x with
    |.normal=>KA hc dy cj cL g ks bn V λh3=>BA rs e2 h3 k
    |.ret=>KA hc dy cj cL g ks bn V λh3=>BA rs e2 h3 k
    |.panic [{v:=v,recovered:=bf,goexit:=bf}]=>match ab2 v with
     |some xv=>KA hc dy cj cL g ks (a_ xv) V λh3=>BA rs e2 h3 k
     |none=>bn
    |_=>bn
   |none=>bn
  |_=>bn) else bn
 |.HM _ _ _ _=>λ_ _ _ _ _ _=>bn
 |.SN _=>λ_ _ _ _ _ _=>bn
 |.P_ t=>λ_ _ _ args h k=>match args with
  |[.mp b 0]=>afl t b h λh'=>k (.val (.bQ [])) h'
  |_=>bn
 |.Qd e=>λ_ _ _ args h k=>match args with
  |[.mp b 0]=>apX e b h λv=>k (.val v) h
  |_=>bn
def Q6(k:Nat):sC->Option (adl×sC)
 |[]=>bn
 |(j,r)::cL=>if j=k then a_ (r,cL) else Q6 k cL
noncomputable def aoC(k0:Nat)(k:B0)(x:Exit)(h:iI):Option bg:=zz h k0 λb=>match b with
 |.b8 _ _ _ _ _=>match x with
  |.normal=>zP h k0 (λ_ k=>k (Bq .ready bn)) λh'=>k (.val (.v (.bool bh))) h'
  |.ret=>zP h k0 (λ_ k=>k (Bq .done (a_ .ret))) λh'=>k (.val (.v (.bool bf))) h'
  |.exit id=>zP h k0 (λ_ k=>k (Bq .done (a_ (.exit id)))) λh'=>k (.val (.v (.bool bf))) h'
  |_=>bn
 |_=>bn
noncomputable def HJ:B0:=λo h=>match o with
 |.val r=>dh (Fi h) 64 r
 |.gw _=>bn
noncomputable def KF:br->br->Bool
 |.cells Z r,.cells cs' r'=>xE (qq 64) Z cs'&&r==r'
 |.tok n s e,.tok n' s' e'=>eV n n'&&eV s s'&&eV e e'
 |.obj (.deferred _),.obj (.deferred _)=>bh
 |.obj (.stringIter s p),.obj (.stringIter s' p')=>Mc (.string s) (.string s')&&eV p p'
 |.eT es cH,.eT mS ny=>xE (λp q=>qq 64 p.1 q.1&&qq 64 p.2.1 q.2.1&&eV p.2.2 q.2.2) es mS&&eV cH ny
 |.b8 st pd _ _ _,.b8 fX lG _ _ _=>(match st,fX with
  |.ready,.ready=>bh
  |.busy,.busy=>bh
  |.exhausted,.exhausted=>bh
  |.done,.done=>bh
  |_,_=>bf)&&(match pd,lG with
  |none,bn=>bh
  |_,_=>bf)
 |_,_=>bf
def aGq{a b:br}(h:KF (b7 a) (b7 b)=bh):b7 a=b7 b:=by
 cases a with
 |cells Z r=>cases b with
  |cells cs' r'=>
   simp only[b7,KF,fQ,beq_iff_eq] at h;show bw Z r=bw cs' r';rw[QO (λq=>AH q) h.1,h.2]
  |obj o=>cases o<;>cases h
  |_=>cases h
 |tok n s e=>cases b with
  |tok n' s' e'=>
   simp only[b7,KF,fQ,w4] at h;show br.tok n s e=br.tok n' s' e';rw[h.1.1,h.1.2,h.2]
  |obj o=>cases o<;>cases h
  |_=>cases h
 |eT es cH=>cases b with
  |eT mS ny=>
   simp only[b7,KF,fQ,w4] at h;show br.eT es cH=br.eT mS ny;rw[QO (λ{p q} w=>?_) h.1,h.2];simp only[fQ,w4] at w;obtain⟨a,b,c⟩:=p;obtain⟨a',b',c'⟩:=q;obtain⟨⟨w1,w2⟩,w3⟩:=w;have e1:a=a':=AH w1;have e2:b=b':=AH w2;have di:c=c':=w3;rw[e1,e2,di]
  |obj o=>cases o<;>cases h
  |_=>cases h
 |b8 st pd bU ps ok=>cases b with
  |b8 fX lG LP ps' N7=>
   simp only[b7,KF,fQ] at h;obtain⟨Y,V⟩:=h
   have e1:st=fX:=by cases st<;>cases fX<;>first|rfl|cases Y
   subst e1;simp only[b7];split at V;rename_i q1 bt;rw[q1,bt];cases V
  |obj o=>cases o<;>cases h
  |_=>cases h
 |obj o=>
  cases b with
  |obj o'=>
   cases o<;>cases o'<;>first|rfl|(cases h;done)|skip
   rename_i s p s' p';have h':(Mc (.string s) (.string s')&&eV p p')=bh:=h;rw[fQ,w4] at h';have:=agk h'.1;cases this;rw[h'.2]
  |_=>cases o<;>cases h
noncomputable def TA:List br->List br->Bool
 |[],_=>bh
 |_::_,[]=>bf
 |a::r,b::s=>KF a b&&TA r s
def ao0:∀{l m},(∀b∈l,∃a,b=b7 a)->(∀b∈m,∃a,b=b7 a)->TA l m=bh->m.take l.length=l
 |[],_,_,_,_=>af
 |_::_,[],_,_,h=>aB
 |a::r,b::s,Y,V,h=>by
  simp only[TA,fQ] at h;obtain⟨a',ha⟩:=Y a af;obtain⟨b',O⟩:=V b af;subst ha;subst O;simp only[eZ,rJ];rw[ao0 (λb O=>Y b aM0) (λb O=>V b aM0) h.2,aGq h.1]
noncomputable def aa9(h h':iI):Bool:=w5 h.n h'.n&&TA h.l (h'.l.drop (h'.n-h.n))
def aGu{J bl:List br}(h:aa9 (R (J.map b7)) (R (bl.map b7))=bh):(bl.map b7).take J.length=J.map b7:=by
 simp only[aa9,R,fQ,cS] at h;obtain⟨Y,V⟩:=h;have Y:=qM Y;have:=ao0 (λb O=>by
  simp only[List.mem_reverse,dV] at O;obtain⟨a,_,rfl⟩:=O;exact⟨a,rfl⟩) (λb O=>by
  have:=vz O;simp only[List.mem_reverse,dV] at this;obtain⟨a,_,rfl⟩:=this;exact⟨a,rfl⟩) V
 rw[oe ah] at this;have h3:=congrArg List.reverse this;rw[arB,List.drop_reverse,arB] at h3;rw[cS] at h3;rw[<-h3];congr 1;omega
noncomputable def afx(h:iI):B0:=λo h'=>match o with
 |.val r=>match aa9 h h' with
  |true=>dh (oC h.n (Fi h')) 64 r
  |false=>bn
 |.gw _=>bn
noncomputable def DP(hc:FuncId->Option (kX×Nat))(rm:FuncId->List bg->Option bg)(cj:Nat)(dy:uG):uG:=λcL x=>match x with
 |.fn (.func f) fs Z=>λargs h k=>xI (λx k=>k x) (fs++args++Z) λdO=>match hc f with
  |none=>match kz (dh [] 64) dO with
   |some bs=>match rm f bs with
    |some v=>rR 64 v λv=>k (.val v) h
    |none=>bn
   |none=>bn
  |some (qs,pu)=>match pu with
   |0=>AN hc qs dy cj cL dO h k
   |2=>match AN hc qs dy cj cL dO h (afx h) with
    |some v=>rR 64 v λv=>k (.val v) h
    |none=>bn
   |_=>match kz (dh [] 64) dO with
    |some bs=>match AN hc qs dy cj [] bs (R []) HJ with
     |some v=>rR 64 v λv=>k (.val v) h
     |none=>bn
    |none=>bn
 |.fn (.method nm) [] _=>λargs h k=>match args with
  |.eE t x::rest=>match hc aD2 with
   |some (.SN l,_)=>match Mm l t nm with
    |some g=>dy cL (.fn (.func g) [] []) (x::rest) h k
    |none=>bn
   |_=>bn
  |_=>bn
 |.jq k0=>λargs h k=>match Q6 k0 cL with
  |some (rc,Fq)=>if args.length=rc.ps.length then zz h k0 λb=>match b with
    |.b8 .ready _ _ _ _=>mA rc.a dy cj bh Fq (ux rc.e (rc.ps.zip args)) h λx e1 Y=>match x with
     |.normal=>zz Y k0 λb=>match b with
      |.b8 .ready _ _ _ _=>zP Y k0 (λ_ k=>k (Bq .busy bn)) λawJ=>mA rc.b dy cj bh Fq e1 awJ λx e2 V=>aoC k0 k x V
      |_=>bn
     |_=>bn
    |_=>bn
   else bn
  |none=>bn
 |_=>λ_ _ _=>bn
noncomputable def Mh(hc:FuncId->Option (kX×Nat))(rm:FuncId->List bg->Option bg)(cj:Nat):Nat->uG
 |0=>λ_ _ _ _ _=>bn
 |d+1=>DP hc rm cj (Mh hc rm cj d)
end
section
variable{i:ja}{E:Hid sF}{e:dB}{J:List br}{r v:bg}{cL:sC}{st:LoopState}{pd:Option Code}{bU:List bg}{ps:Array Tmp}{ok:Code->Code->Prop}
section
variable{G:Cells}{P:Program}
def YJ{F F'}{E'}(h:@jO G P i F E e J)(hF:∀v J,F.v v J->F'.v v J)(hE:∀ch J,E.v ch J->E'.v ch J):@jO G P i F' E' e J:=by
 cases i with
 |op o=>obtain⟨v,Y,V⟩:=h;exact⟨v,Y,hF _ _ V⟩
 |call f args=>obtain⟨dO,Y,V⟩:=h;exact⟨dO,Y,cm V hF⟩
 |mw x args=>
  obtain⟨x',h0,dO,Y,V⟩:=h;exact⟨x',h0,dO,Y,vw V hF⟩
 |n9 f args=>obtain⟨dO,Y,bs,r',V,h3,h4⟩:=h;exact⟨dO,Y,bs,r',V,h3,hF _ _ h4⟩
 |pE f args r=>obtain⟨dO,Y,bs,V,h3,h4⟩:=h;exact⟨dO,Y,bs,V,h3,hF _ _ h4⟩
 |qo f args=>obtain⟨dO,Y,V⟩:=h;exact⟨dO,Y,g_ V hF hE⟩
 |qp x args=>
  obtain⟨x',h0,dO,Y,V⟩:=h;exact⟨x',h0,dO,Y,acu V hF hE⟩
 |gw x=>obtain⟨v,Y,V⟩:=h;exact⟨v,Y,hE _ _ V⟩
def awH{w}{A B A' B'}(h:@uW w v A B)(Y:A.v->A'.v)(V:B.v->B'.v):@uW w v A' B':=by
 unfold uW at h⊢;split at h;cases w with
 |true=>exact⟨λq=>Y (h.1 q),λq=>V (h.2 q)⟩
 |false=>exact⟨λq=>V (h.1 q),λq=>Y (h.2 q)⟩
 exact V h;exact h.elim
def Lz:∀{l} {K K'} {E E'} {e:dB} {J},@kD G P l K E e J->(∀e J,K.v e J->K'.v e J)->(∀ch J,E.v ch J->E'.v ch J)->@kD G P l K' E' e J
 |[],K,K',E,E',e,J,h,S,hE=>by rw[FT] at h⊢;exact S _ _ h
 |⟨d,g,i⟩::r,K,K',E,E',e,J,h,S,hE=>by
  rcases g with _|⟨k,w⟩
  rw[IL] at h⊢;exact YJ h (λv bl q=>Lz q S hE) hE;rw[IK] at h⊢;obtain⟨g,Y,V⟩:=h;exact⟨g,Y,awH V (λq=>YJ q (λv bl q=>Lz q S hE) hE) λq=>Lz q S hE⟩
def adB:∀{l} {K K'} {E E'} {e:dB} {J},@uO G P l K E e J->(∀e J,K.v e J->K'.v e J)->(∀ch J,E.v ch J->E'.v ch J)->@uO G P l K' E' e J
 |[],K,K',E,E',e,J,h,S,hE=>by rw[IM] at h⊢;exact S _ _ h
 |(o,Z)::r,K,K',E,E',e,J,h,S,hE=>by
  rw[IN] at h⊢;exact Lz h (λe J k=>⟨k.1,adB k.2 S hE⟩) hE
def sD(G:Cells)(P:Program)(cL:sC)(J:List br):Prop:=∀k rc,(k,rc)∈cL->∃bU ok st pd,J[k]?=a_ (.b8 st pd bU rc.ps.toArray ok)/\
 Vk G P k bU rc.ps ok (λhi e J=>@ey G P bh rc.a ⟨hi⟩ e J) (λhi e J=>@ey G P bh rc.b ⟨hi⟩ e J) rc.e
def sD.keeps{bl}(h:sD G P cL J)(S:gr J bl):sD G P cL bl:=λk rc hm=>by
 obtain⟨bU,ok,st,pd,Y,V⟩:=h k rc hm;obtain⟨fX,lG,h3⟩:=S _ _ _ _ _ _ Y;exact⟨bU,ok,fX,lG,h3,V⟩
def Zg:sD G P [] J:=λk rc hm=>by cases hm
def FJ(G:Cells)(P:Program)(dy:uG):Prop:=∀cL x args J k r,sD G P cL J->dy cL x args (R (J.map b7)) k=a_ r->
 ((∀ch h,k (.gw ch) h=bn)->jS G P x args J λv bl=>k (.val v) (R (bl.map b7))=a_ r/\gr J bl)/\
 (∀f fs Z,x=.fn (.func f) fs Z->iH G P f (fs++args++Z) J (λv bl=>k (.val v) (R (bl.map b7))=a_ r/\gr J bl) λch bl=>k (.gw ch) (R (bl.map b7))=a_ r/\gr J bl)
def Jf:∀{n:Nat} {x r:bg},dh (J.map b7) n x=a_ r->dh J n x=a_ r
 |0,x,r,h=>aB
 |n+1,x,r,h=>by
  have mp:∀{l} {m},kz (dh (J.map b7) n) l=a_ m->kz (dh J n) l=a_ m:=by
   intro l
   induction l with
   |nil=>intro m h;exact h
   |cons a l ih=>
    intro m h;simp only[kz] at h⊢;split at h;rename_i y hy;rw[Jf hy];simp only;split at h;rename_i l' hl;rw[ih hl];exact h;cases h;cases h
  have EW:∀{l} {g} {y:bg},(kz (dh (J.map b7) n) l).map g=a_ y->(kz (dh J n) l).map g=a_ y:=by
   intro l g y h;rw[dA] at h⊢;obtain⟨m,Y,V⟩:=h;exact⟨m,mp Y,V⟩
  unfold dh at h⊢;cases x<;>simp only at h⊢
  case v=>exact h
  case bp=>exact h
  case agg=>exact EW h
  case bQ=>exact EW h
  case sl=>exact EW h
  case fp=>exact EW h
  case eE t x=>
   rw[dA] at h⊢;obtain⟨y,Y,V⟩:=h;exact⟨y,Jf Y,V⟩
  case fn f a b=>
   simp only[gN] at h⊢;obtain⟨a',Y,V⟩:=h;exact⟨a',mp Y,EW V⟩
  case mp k off=>
   split at h;rename_i Z S;rw[sP S];exact EW h;cases h
  case rp k m off=>
   split at h;rename_i Z S;rw[sP S];simp only;split at h;rename_i T;rw[if_pos T];exact EW h;cases h;cases h
  case rs k m sz off len=>
   split at h;rename_i Z S;rw[sP S];simp only;split at h;rename_i T;rw[if_pos T];exact EW h;cases h;cases h
  all_goals cases h
def I2{f}{fs Z args}{K}:jS G P (.fn (.func f) fs Z) args J K=cw G P f (fs++args++Z) J K:=rfl
def ab5{k}:∀ch h,KW k (.gw ch) h=bn:=λ_ _=>rfl
def an5{dy:uG}(jc:FJ G P dy){f}{dO}(h:Td dy f dO=a_ v):∃bs,oU dO bs/\cV G P f bs v:=by
 unfold Td at h;split at h;rename_i bs ML;refine⟨bs,W6 ML,eM ?_⟩;have:=(jc [] (.fn (.func f) [] []) bs [] _ v Zg h).1 λ_ _=>rfl;rw[I2,gM,gV] at this;exact cm this λr bl k=>⟨64,Jf (by have:=k.1;rw[H_] at this;exact this)⟩;cases h
variable{dy:uG}(jc:FJ G P dy)
include jc
def azJ{k}(fO:sD G P cL J)(h:xU i dy cL e (R (J.map b7)) k=a_ r):
  @jO G P i ⟨λv bl=>k (.val v) (R (bl.map b7))=a_ r/\gr J bl⟩ ⟨λch bl=>k (.gw ch) (R (bl.map b7))=a_ r/\gr J bl⟩ e J:=by
 cases i with
 |op o=>
  simp only[xU,anL,gN] at h;obtain⟨⟨v,hE⟩,Y,V⟩:=h;obtain⟨bl,q1,rfl,bV⟩:=afB J v hE Y;exact⟨(v,bl),q1,V,bV⟩
 |call f args=>
  simp only[xU,D6,gN] at h;obtain⟨dO,Y,V⟩:=h;have:=(jc cL _ dO J _ r fO V).1 ab5;rw[I2,gM,gV] at this;exact⟨dO,Y,this⟩
 |mw x args=>
  simp only[xU,sU,D6,gN] at h;obtain⟨x',h0,dO,Y,V⟩:=h;exact⟨x',h0,dO,Y,(jc cL _ dO J _ r fO V).1 ab5⟩
 |n9 f args=>
  simp only[xU,D6,gN] at h;obtain⟨dO,Y,V⟩:=h;split at V;rename_i v hv;rw[AP] at V;obtain⟨bs,q1,bt⟩:=an5 jc hv;exact⟨dO,Y,bs,v,q1,bt,V,tB J⟩;cases V
 |pE f args r'=>
  simp only[xU,D6,gN] at h;obtain⟨dO,Y,V⟩:=h;split at V;rename_i v hv;rw[AP] at V;obtain⟨bs,q1,bt⟩:=an5 jc hv;split at V;rename_i ko;have:=AH ko;subst this;exact⟨dO,Y,bs,q1,bt,V,tB J⟩;cases V;cases V
 |qo f args=>
  simp only[xU,D6,gN] at h;obtain⟨dO,Y,V⟩:=h;have:=(jc cL _ dO J _ r fO V).2 f [] [] rfl;rw[gM,gV] at this;exact⟨dO,Y,this⟩
 |qp x args=>
  simp only[xU,sU,gN] at h;obtain⟨x',h0,V⟩:=h;split at V;rename_i f fs Z;simp only[D6,gN] at V;obtain⟨dO,Y,V⟩:=V;exact⟨_,h0,dO,Y,(jc cL _ dO J _ r fO V).2 f fs Z rfl⟩;cases V
 |gw x=>
  simp only[xU,sU,gN] at h;obtain⟨x',h0,V⟩:=h;split at V;rename_i v hv;exact⟨v,by rw[h0];exact hv,V,tB J⟩;cases V
def apx{o}{next}{kn}{kp}{l}{K}(fO:sD G P cL J)(h:TM o next dy cL e (R (J.map b7)) kn kp=a_ r)
  (hn:∀e bl,gr J bl->next dy cL e (R (bl.map b7)) kn kp=a_ r->@kD G P l K E e bl) (hE:∀ch bl,gr J bl->kp ch (R (bl.map b7))=a_ r->E.v ch bl):@kD G P (o::l) K E e J:=by
 obtain⟨d,g,i⟩:=o;have tw:xU i dy cL e (R (J.map b7)) (λo h'=>ZU d next o dy cL e h' kn kp)=a_ r->@jO G P i ⟨λv bl=>@kD G P l K E (qD d v e) bl⟩ E e J:=λq=>by
  refine YJ (azJ jc fO q) (λv bl ⟨k1,k2⟩=>?_) λch bl ⟨k1,k2⟩=>hE ch bl k2 (by cases d<;>exact k1);refine hn _ bl k2 ?_;cases d<;>exact k1
 cases g with
 |none=>rw[IL];exact tw h
 |some awI=>
  obtain⟨g,w⟩:=awI;rw[IK];simp only[TM,QN,gN] at h;obtain⟨v,Y,V⟩:=h;refine⟨v,Y,?_⟩;dsimp only;split at V
  · rename_i b
    cases I:Bool.xor b w with
    |false=>
     rw[I] at V
     have O:b=w:=by cases b<;>cases w<;>first|rfl|cases I
     subst O;cases b with
     |true=>exact⟨λ_=>tw V,nofun⟩
     |false=>exact⟨nofun,λ_=>tw V⟩
    |true=>
     rw[I] at V;have no:=hn _ J (tB J) V
     cases b<;>cases w<;>first|(cases I;done)|skip
     exact⟨nofun,λ_=>no⟩;exact⟨λ_=>no,nofun⟩
  exact hn _ J (tB J) V;cases V
def S5:∀{l} {cL:sC} {e:dB} {J} {kn} {kp} {r:bg},sD G P cL J->Oc l dy cL e (R (J.map b7)) kn kp=a_ r->
  @kD G P l ⟨λe' bl=>kn e' (R (bl.map b7))=a_ r/\gr J bl⟩ ⟨λch bl=>kp ch (R (bl.map b7))=a_ r/\gr J bl⟩ e J
 |[],cL,e,J,kn,kp,r,fO,h=>by rw[FT];exact⟨h,tB J⟩
 |o::l,cL,e,J,kn,kp,r,fO,h=>by
  refine apx jc fO h (λe bl S q=>?_) λch bl S q=>⟨q,S⟩;exact Lz (S5 (fO.keeps S) q) (λe jG k=>⟨k.1,S.trans k.2⟩) λch jG k=>⟨k.1,S.trans k.2⟩
omit jc in
def aFH{c}(h:aaU c e (R (J.map b7))=bh):r9 c e J:=by
 unfold aaU at h;unfold r9;split at h;rename_i o d Q hd;have tw:(match gY e d,tf o e (R (J.map b7)) λu _=>a_ u with|some v,a_ u=>qq 64 u v|_,_=>bf)=bh->@hJ _ (gY e d) ⟨λv=>@hJ _ (cF e J o) ⟨λr=>r.1=v⟩⟩:=λq=>by
  split at q;rename_i v u hv hu;rw[anL,gN] at hu;obtain⟨⟨u',hE⟩,hu,h3⟩:=hu;cases h3;obtain⟨bl,q1,_,_⟩:=afB J _ hE hu;exact⟨v,hv,(_,bl),q1,AH q⟩;cases q
 rw[Q,hd];simp only;unfold ahE at h;split at h;rename_i hg;split at hg;rename_i T;rw[T];exact tw h;rename_i k w T;rw[T];split at hg;rename_i b S;simp only[nj,beq_iff_eq] at hg;subst hg;refine⟨_,S,?_⟩;cases b with
 |true=>exact⟨λ_=>tw h,nofun⟩
 |false=>exact⟨nofun,λ_=>tw h⟩
 cases hg;cases hg;rename_i hg;have no:@hJ _ (gY e d) ⟨λv=>v=jL⟩:=by
  split at h;rename_i v hv;exact⟨v,hv,AH h⟩;cases h
 split at hg;cases hg;rename_i k w T;rw[T];split at hg;rename_i b S;simp only[nj,beq_eq_false_iff_ne,ne_eq] at hg;refine⟨_,S,?_⟩
 cases b<;>cases w<;>first|(exact(hg rfl).elim)|skip
 exact⟨nofun,λ_=>no⟩;exact⟨λ_=>no,nofun⟩;rename_i S;exact⟨_,S,no⟩;cases hg;cases h;cases h
def anO:∀{l} {cL:sC} {e:dB} {J} {kn} {kp} {r:bg},sD G P cL J->anN l dy cL e (R (J.map b7)) kn kp=a_ r->
  @uO G P l ⟨λe' bl=>kn e' (R (bl.map b7))=a_ r/\gr J bl⟩ ⟨λch bl=>kp ch (R (bl.map b7))=a_ r/\gr J bl⟩ e J
 |[],cL,e,J,kn,kp,r,fO,h=>by rw[IM];exact⟨h,tB J⟩
 |(o,Z)::l,cL,e,J,kn,kp,r,fO,h=>by
  rw[IN];refine apx jc fO h (λe bl S q=>?_) λch bl S q=>⟨q,S⟩;rw[FT];dsimp only at q⊢;split at q;rename_i lC;refine⟨?_,adB (anO (fO.keeps S) q) (λe jG k=>⟨k.1,S.trans k.2⟩) λch jG k=>⟨k.1,S.trans k.2⟩⟩;clear q h
  induction Z with
  |nil=>trivial
  |cons c Z ih=>
   simp only[pK,fQ] at lC;exact⟨aFH lC.1,ih lC.2⟩
  cases q
omit jc in
def aDt{a:eS}{nest}{f}{k:Ds}{gG:List br}(fO:sD G P cL gG)(hf:∀e J k,sD G P cL J->f e (R (J.map b7)) k=a_ r->@ey G P nest a ⟨λx e' bl=>k x e' (R (bl.map b7))=a_ r/\gr J bl⟩ e J){m:Nat}(S:gr gG J)(h:Zq f m e (R (J.map b7)) k=a_ r):@ey G P nest (.loop a) ⟨λx e' bl=>k x e' (R (bl.map b7))=a_ r/\gr gG bl⟩ e J:=by
 rw[OZ];refine⟨λm e J=>Zq f m e (R (J.map b7)) k=a_ r/\gr gG J,m,⟨h,S⟩,λm e J ⟨Y,V⟩=>?_⟩;cases m with
 |zero=>cases Y
 |succ m=>
  refine tu (hf e J _ (fO.keeps V) Y) λx e' bl ⟨k1,k2⟩=>?_;cases x with
  |normal=>exact⟨m,yB m,k1,V.trans k2⟩
  |_=>exact⟨k1,V.trans k2⟩
omit jc in
def Y5{k:Nat}{fX}{lG}(S:J[k]?=a_ (.b8 st pd bU ps ok)):gr J (J.set k (.b8 fX lG bU ps ok)):=λj iX an0 aJI aLw Z7 h=>by
 by_cases e:k=j;subst e;rw[S] at h;cases h;exact⟨fX,lG,bT (cK.1 S).1⟩;exact⟨iX,an0,aNz⟩
omit jc in
def Mg{k:Nat}:(J.set k (.b8 st pd bU ps ok)).map b7=(J.map b7).set k (Bq st (match st with|.busy=>bn|_=>pd)):=by
 rw[yA];rfl
omit jc in
def B8:type_of% @afL/\type_of% @QE.eq_1/\type_of% @afH/\type_of% @QB.eq_1/\type_of% @L1/\type_of% @Gi.eq_1/\type_of% @afD/\type_of% @Qw.eq_1/\type_of% @LZ/\type_of% @Gf.eq_1/\type_of% @afE/\type_of% @Qx.eq_1/\type_of% @afK/\type_of% @QD.eq_1/\type_of% @afG/\type_of% @Qz.eq_1/\type_of% @afI/\type_of% @QA.eq_def/\type_of% @afJ/\type_of% @QC.eq_1/\type_of% @L0/\type_of% @Gh.eq_1/\type_of% @afF/\type_of% @Qy.eq_1:=
 ⟨@afL,@QE.eq_1,@afH,@QB.eq_1,@L1,@Gi.eq_1,@afD,@Qw.eq_1,@LZ,@Gf.eq_1,@afE,@Qx.eq_1,@afK,@QD.eq_1,@afG,@Qz.eq_1,@afI,@QA.eq_def,@afJ,@QC.eq_1,@L0,@Gh.eq_1,@afF,@Qy.eq_1⟩
def Gg{cj:Nat}:∀{c:eS} {nest:Bool} {cL:sC} {e:dB} {J:List br} {k:Ds} {r:bg},sD G P cL J->mA c dy cj nest cL e (R (J.map b7)) k=a_ r->
  @ey G P nest c ⟨λx e' bl=>k x e' (R (bl.map b7))=a_ r/\gr J bl⟩ e J:=by
 intro c
 induction c with
 |skip L=>intro nest cL e J k r fO h;rw[O5];simp only[B8,x7] at h;exact⟨h,tB J⟩
 |lab L=>intro nest cL e J k r fO h;rw[OY];simp only[B8,x7] at h;exact⟨h,tB J⟩
 |bad=>intro nest cL e J k r fO h;cases h
 |exit id L=>intro nest cL e J k r fO h;rw[OX];simp only[B8,x7] at h;exact⟨h,tB J⟩
 |ret L=>intro nest cL e J k r fO h;rw[O3];simp only[B8,x7] at h;exact⟨h,tB J⟩
 |region ops L=>
  intro nest cL e J k r fO h;rw[O1];simp only[B8,x7] at h;exact S5 jc fO h
 |ry l L=>
  intro nest cL e J k r fO h;rw[O2];simp only[B8,x7] at h;exact anO jc fO h
 |r_ ls L=>
  intro nest cL e J k r fO h;rw[KZ];cases ls with
  |nil=>cases h
  |cons l0 ls=>
   simp only[B8,x7] at h;split at h;rename_i t _;split at h;rename_i x I;split at h;rename_i lC;cases h;refine⟨abN t,λl hl=>?_⟩;rw[fo] at hl
   rcases hl with rfl|hl
   exact S5 jc fO I;have:=eJ.1 lC l hl;split at this;rename_i y hy;rw[<-AH this] at hy;exact S5 jc fO hy;cases this;cases h;cases h;cases h
 |seq a b j_ uj=>
  intro nest cL e J k r fO h;rw[Ib];simp only[L1,Gi,LZ,Gf,L0,Gh] at h;refine tu (j_ fO h) λx e' bl ⟨k1,k2⟩=>?_;cases x with
  |normal=>exact tu (uj (fO.keeps k2) k1) λx e2 jG ⟨q1,bt⟩=>⟨q1,k2.trans bt⟩
  |_=>exact⟨k1,k2⟩
 |cond c a b j_ uj=>
  intro nest cL e J k r fO h;rw[OW];simp only[B8,sU,gN] at h;obtain⟨v,Y,V⟩:=h;refine⟨v,Y,?_⟩;dsimp only;split at V;exact⟨λ_=>j_ fO V,nofun⟩;exact⟨nofun,λ_=>uj fO V⟩;cases V
 |block id a j_=>
  intro nest cL e J k r fO h;rw[C9];simp only[L1,Gi,LZ,Gf,L0,Gh] at h;refine tu (j_ fO h) λx e' bl ⟨k1,k2⟩=>?_;cases x with
  |exit n5=>
   simp only[xy];dsimp only at k1;split at k1;rename_i hq;rw[if_pos (tF hq)];exact⟨k1,k2⟩;rename_i hq;rw[if_neg (λq=>by subst q;rw[Nat.beq_refl] at hq;cases hq)];exact⟨k1,k2⟩
  |_=>exact⟨k1,k2⟩
 |scope a j_=>
  intro nest cL e J k r fO h;rw[O4];simp only[L1,Gi,LZ,Gf,L0,Gh] at h;refine tu (j_ fO h) λx e' bl ⟨k1,k2⟩=>?_;cases x with
  |goto l=>cases k1
  |_=>exact⟨k1,k2⟩
 |loop a j_=>
  intro nest cL e J k r fO h;exact aDt fO (λe J k fO h=>j_ fO h) (tB J) h
 |r8 x ps a b L j_ uj=>
  intro nest cL e J k r fO h;rw[zR];simp only[B8,sU,gN] at h;obtain⟨v,Y,V⟩:=h;split at V
  · rename_i g fs Z
    refine⟨g,fs,Z,Y,λk0 xO bU ok hR=>?_⟩;have JC:J.map b7++(if nest=bh then [] else [.obj (.deferred bn)])=(J++marks nest).map b7:=by
     rw[gC];cases nest<;>rfl
    have Em:(J++marks nest).map b7++[Bq .ready bn]=(J++marks nest++[pI .ready bn bU ps.toArray ok]).map b7:=by
     rw[gC (l₁:=J++marks nest)];rfl
    have V:dy ((k0,⟨ps,a,b,e⟩)::cL) (.fn (.func g) [] []) (fs++[.jq k0]++Z) (R ((J++marks nest++[pI .ready bn bU ps.toArray ok]).map b7)) (KW λ_ h'=>aaQ k0 L e k h')=a_ r:=by
     have rn:∀H,(R H).n=H.length:=λ_=>rfl;rw[<-Em,<-JC];cases nest with
     |true=>
      simp only[Tf,vV,rn] at V;simp only[marks,if_true,gV] at xO⊢;rw[cS,<-xO] at V;exact V
     |false=>
      simp only[Tf,vV,rn] at V;simp only[marks,kB,if_false] at xO⊢;rw[ek,cS,qg] at V;rw[ek,qg] at xO;rw[<-xO] at V;exact V
    have jU:(J++marks nest++[pI .ready bn bU ps.toArray ok])[k0]?=a_ (.b8 .ready bn bU ps.toArray ok):=by
     rw[xO,gh (cc _),ni];rfl
    have azf:sD G P ((k0,⟨ps,a,b,e⟩)::cL) (J++marks nest++[pI .ready bn bU ps.toArray ok]):=λj rc hm=>by
     rcases fo.1 hm with hm|hm
     cases hm;exact⟨bU,ok,.ready,bn,jU,hR⟩;exact(fO.keeps (Bo.trans Bo)) j rc hm
    have:=(jc _ _ _ _ _ r azf V).1 ab5;rw[I2,gM,gV] at this;refine cm this λv bl ⟨q1,bt⟩=>?_;obtain⟨st,pd,e8⟩:=bt _ _ _ _ _ _ jU;refine⟨st,pd,e8,?_⟩;have he:(bl.map b7)[k0]?=a_ (b7 (.b8 st pd bU ps.toArray ok)):=by rw[e9,e8];rfl
    simp only[KW,aaQ,CM,he,b7,mj] at q1;have GP:gr J (bl.set k0 (.b8 .exhausted pd bU ps.toArray ok)):=(Bo.trans Bo).trans (bt.trans (Y5 e8));have G2:(bl.set k0 (.b8 .exhausted pd bU ps.toArray ok)).map b7=(bl.map b7).set k0 (Bq .exhausted pd):=Mg;cases st<;>simp only[reduceCtorEq,ne_eq,not_false_eq_true,not_true_eq_false,true_and,false_and] at q1⊢
    all_goals
     rw[KV,he] at q1;simp only[mj] at q1;rw[<-G2] at q1;cases pd with
     |none=>simp only[x7] at q1;exact⟨q1,GP⟩
     |some c=>
      cases c with
      |ret=>simp only[x7] at q1;exact⟨q1,GP⟩
      |exit id=>simp only[x7] at q1;exact⟨q1,GP⟩
      |_=>cases q1
  cases V
end
end
section
variable{J:List br}{r:bg}{dy:uG}{cL:sC}{f:FuncId}{qs:kX}{args:List bg}
section
variable{G:Cells}{P:Program}{hc:FuncId->Option (kX×Nat)}{rm:FuncId->List bg->Option bg}{cj:Nat}
def Vq(P:Program)(hc:FuncId->Option (kX×Nat)):Prop:=∀f qs pu,hc f=a_ (qs,pu)->Lj P f qs
def Vi(G:Cells)(P:Program)(hc:FuncId->Option (kX×Nat))(rm:FuncId->List bg->Option bg):Prop:=∀f args r,hc f=bn->rm f args=a_ r->cV G P f args r
def aFQ{e:dB}{rs}(h:lg e (J.map b7) rs=a_ r):lg e J rs=a_ r:=by
 have key:∀{rs} {l},uu e (J.map b7) rs=a_ l->uu e J rs=a_ l:=by
  intro rs
  induction rs with
  |nil=>intro l h;exact h
  |cons x rs ih=>
   intro l h;simp only[uu,gN,dA] at h⊢;obtain⟨a,Y,l',V,h3⟩:=h;refine⟨a,?_,l',ih V,h3⟩;cases x with
   |s t=>exact Y
   |c t bN n=>
    simp only[By,gN] at Y⊢;obtain⟨p,q1,bt⟩:=Y;exact⟨p,q1,aef bt⟩
 unfold lg at h⊢;rw[dA] at h⊢;obtain⟨l,Y,V⟩:=h;exact⟨l,key Y,V⟩
def Wx{n0:Nat}{bl}(h:og n0 J bl):bl.map b7=J.map b7/\gr J bl:=by
 constructor;apply FB;intro k;rw[e9,e9]
 rcases h.2 k with q|⟨_,q1,bt⟩
 rw[q];rw[q1,bt];rfl;intro k st pd bU ps ok S
 rcases h.2 k with q|⟨_,q1,bt⟩
 exact⟨st,pd,by rw[q];exact S⟩;rw[q1] at S;cases S
def aqy:∀{l} {xs},Ud l=a_ xs->Uu xs=a_ l/\l7.Kp xs=bh
 |[],xs,h=>by cases h;exact⟨rfl,rfl⟩
 |x::r,xs,h=>by
  simp only[Ud] at h;split at h;rename_i J;split at h;rename_i l hl;cases h;obtain⟨Y,V⟩:=aqy hl;exact⟨by simp[Uu,sN,Y],by simp[l7.Kp,l7,J,V]⟩;cases h;cases h
def aIG{v}{x:bg}(h:ab2 v=a_ x):x_ x=bh/\rP x=a_ v:=by
 unfold ab2 at h;split at h;rename_i t Z;split at h;rename_i l hl;cases h;obtain⟨Y,V⟩:=aqy hl;exact⟨by simp[x_,l7,V],by simp[rP,sN,Y]⟩;cases h;rename_i t x _;split at h;rename_i J;cases h;exact⟨by simp[x_,l7,J],by simp[rP,sN]⟩;cases h;cases h
def al5:∀{l} {ks},Su l=a_ ks->l=ks.map λk=>.mp k 0
 |[],ks,h=>by cases h;rfl
 |x::r,ks,h=>by
  unfold Su at h;split at h;rename_i ko;cases ko;rename_i k r' ko;cases ko;split at h;rename_i l hl;cases h;rw[al5 hl];rfl;cases h;cases h
def aoE:∀{xs} {k} {r:bg},Tq xs k=a_ r->∃l:List UInt8,xs=l.map (λc=>.v (.int .u8 c.toNat))/\k l=a_ r
 |[],k,r,h=>⟨[],rfl,h⟩
 |x::xs,k,r,h=>by
  unfold Tq at h;split at h;rename_i ko;cases ko;rename_i k' n r' ko;cases ko;split at h;rename_i hn;have hn:=qM hn;obtain⟨l,Y,V⟩:=aoE h;refine⟨vC n::l,?_,V⟩;rw[fc,<-Y];have:(vC n).toNat=n:=ah
  rw[this];rfl;cases h;cases h
variable(hm:P.follows .mixedOrders=bh)(hT:Vq P hc)
include hm hT
def aF_(jc:FJ G P dy){g}{ks}{x}{v}{k}(fO:sD G P cL J)
  (I:match x,v with|none,bn=>True|some x,a_ v=>x_ x=bh/\rP x=a_ v|_,_=>False)
  (h:KA hc dy cj cL g ks x (R (J.map b7)) k=a_ r):kW G P g (ks.map λk=>.mp k 0) J v λbl=>k (R (bl.map b7))=a_ r/\gr J bl:=by
 unfold KA at h;split at h;rename_i n d0 d1 c pu aw9;obtain⟨⟨hb,F⟩,hf,h0,Y⟩:=hT _ _ _ aw9;split at h;rename_i hn;refine afX hm F hf ⟨h0,Y⟩ aMC I ?_;refine tu (Gg jc fO h) λx e' bl ⟨q1,bt⟩=>?_;cases x with
 |normal=>exact⟨q1,bt⟩
 |ret=>exact⟨q1,bt⟩
 |_=>cases q1
 cases h;cases h
def WX(jc:FJ G P dy)(o9:Lj P f qs){k}(fO:sD G P cL J)
  (h:AN hc qs dy cj cL args (R (J.map b7)) k=a_ r):iH G P f args J (λv bl=>k (.val v) (R (bl.map b7))=a_ r/\gr J bl) λch bl=>k (.gw ch) (R (bl.map b7))=a_ r/\gr J bl:=by
 have CY:∀{rs} {e:dB} {eL},gr J eL->BA rs e (R (eL.map b7)) k=a_ r->@hJ _ (lg e eL rs) ⟨λv=>k (.val v) (R (eL.map b7))=a_ r/\gr J eL⟩:=λS q=>by
  rw[aFR,gN] at q;obtain⟨v,hv,q⟩:=q;exact⟨v,aFQ hv,q,S⟩
 cases qs with
 |plain n rs c=>
  obtain⟨⟨hb,F⟩,hf⟩:=o9;simp only[AN] at h;split at h;rename_i hn;refine agY hm F hf hn (tu (Gg jc fO h) λx e' bl ⟨q1,bt⟩=>?_);cases x with
  |normal=>exact CY bt q1
  |ret=>exact CY bt q1
  |panic ch=>exact⟨q1,bt⟩
  |_=>cases q1
  cases h
 |loops n rs c=>
  obtain⟨⟨hb,F⟩,hf⟩:=o9;simp only[AN] at h;split at h;rename_i hn;refine agZ hm F hf hn (tu (Gg jc fO h) λx e' bl ⟨q1,bt⟩=>?_);cases x with
  |normal=>
   intro jG he;obtain⟨w1,w2⟩:=Wx he;have aFl:BA rs e' (R (jG.map b7)) k=a_ r:=by rw[w1];exact q1
   exact CY (bt.trans w2) aFl
  |ret=>
   intro jG he;obtain⟨w1,w2⟩:=Wx he;exact CY (bt.trans w2) (by rw[w1];exact q1)
  |panic ch=>
   intro jG he;obtain⟨w1,w2⟩:=Wx he;refine⟨?_,bt.trans w2⟩;show k (.gw ch) (R (jG.map b7))=a_ r;rw[w1];exact q1
  |_=>cases q1
  cases h
 |sO n rs a t g caps b=>
  obtain⟨⟨hb,F⟩,MU,MV,ht⟩:=o9;simp only[AN] at h;split at h;rename_i hn;refine Fv (agX hm F MU MV ht hn (tu (Gg jc fO h) λx e1 eL ⟨q1,bt⟩=>?_));cases x with
  |normal=>
   simp only[D6,gN] at q1;obtain⟨dO,w1,w2⟩:=q1;split at w2;rename_i ks ze;rw[Gq vV] at w2;refine⟨ks,by rw[w1,al5 ze],tu (Gg jc (fO.keeps bt) w2) λx e2 jG ⟨u1,u2⟩=>?_⟩;have fin:∀{x} {v},(match x,v with|none,bn=>True|some x,a_ v=>x_ x=bh/\rP x=a_ v|_,_=>False)->KA hc dy cj cL g ks x (R (jG.map b7)) (λh3=>BA rs e2 h3 k)=a_ r->
     kW G P g (ks.map λk=>.mp k 0) jG v λbl=>@hJ _ (lg e2 bl rs) ⟨λv=>k (.val v) (R (bl.map b7))=a_ r/\gr J bl⟩:=λI q=>
    kW.mono (aF_ hm hT jc (fO.keeps (bt.trans u2)) I q) λxQ ⟨b9,z2⟩=>CY ((bt.trans u2).trans z2) b9
   cases x with
   |normal=>exact fin (v:=bn) trivial u1
   |ret=>exact fin (v:=bn) trivial u1
   |panic ch=>
    split at u1;rename_i ko;cases ko;rename_i ko;cases ko;rename_i v ko;cases ko;split at u1;rename_i xv ay9;exact⟨v,rfl,fin (aIG ay9) u1⟩;cases u1;cases u1
   |_=>cases u1
   cases w2
  |_=>cases q1
  cases h
 |HM n d0 d1 c=>cases h
 |SN l=>simp only[AN] at h;cases h
 |P_ t=>
  simp only[AN] at h;split at h;rename_i b;unfold afl at h;rw[CM,gN] at h;obtain⟨blk,Js,h⟩:=h;split at h;rename_i b' t' z;have O:=sP Js;split at h;rename_i T;simp only[fQ,w4] at T;obtain⟨⟨rfl,Y⟩,V⟩:=T;have ht:=Prod.ext Y V;subst ht;rw[KV,Js] at h;refine Fv (cm (ae4 o9 O) ?_);rintro r' bl ⟨rfl,rfl⟩;have hs:(J.set b' (.cells (.mp b' 0::z) bf)).map b7=(J.map b7).set b' (.cells (.mp b' 0::z) bf):=aLY
  rw[hs];exact⟨h,zl O nofun⟩;cases h;rename_i b' z;have O:=sP Js;split at h;rename_i T;have:=tF T;subst this;refine Fv (cm (ae7 o9 O) ?_);rintro r' bl ⟨rfl,rfl⟩;exact⟨h,tB _⟩;cases h;cases h;cases h
 |Qd e=>
  simp only[AN] at h;split at h;rename_i b;unfold apX at h;rw[CM,gN] at h;obtain⟨blk,Js,h⟩:=h;split at h;rename_i c0;have O:=sP Js;refine Fv (cm (ae6 o9 O) ?_);rintro r' bl ⟨rfl,rfl⟩;exact⟨h,tB _⟩;rename_i c0 xs id;rw[CM,gN] at h;obtain⟨aJS,axm,h⟩:=h;split at h;rename_i n e';split at h;rename_i T;simp only[fQ,w4] at T;obtain⟨⟨⟨Y,V⟩,h3⟩,h4⟩:=T;have h3:=qM h3;have h4:=qM h4;obtain⟨l,hl,S⟩:=aoE h;subst hl;subst V;have hn:n=l.length:=by rw[Y,cS]
  subst hn;refine Fv (cm (ae5 o9 (sP Js) (WK axm) (by intro e;subst e;simp at h3) h4) ?_);rintro r' bl ⟨rfl,rfl⟩;exact⟨S,tB _⟩;cases h;cases h;cases h;cases h
omit hm hT in
def agL{k:Nat}:∀{cL:sC} {rc} {Fq:sC},Q6 k cL=a_ (rc,Fq)->(k,rc)∈cL/\∀x∈Fq,x∈cL
 |[],_,_,h=>aB
 |(j,r)::cL,rc,Fq,h=>by
  simp only[Q6] at h;split at h;rename_i e;subst e;cases h;exact⟨wZ,λx I=>sw _ I⟩;obtain⟨Y,V⟩:=agL h;exact⟨sw _ Y,λx I=>sw _ (V x I)⟩
def atI(Cj:Vi G P hc rm){dy:uG}(jc:FJ G P dy):FJ G P (DP hc rm cj dy):=by
 intro cL x args J k r fO h;have fn:∀f fs Z,x=.fn (.func f) fs Z->iH G P f (fs++args++Z) J (λv bl=>k (.val v) (R (bl.map b7))=a_ r/\gr J bl) λch bl=>k (.gw ch) (R (bl.map b7))=a_ r/\gr J bl:=by
  intro f fs Z I;subst I;simp only[DP] at h;rw[Gq λ_ _=>rfl] at h;split at h;rename_i Xt;split at h;rename_i bs ML;split at h;rename_i v hv;rw[AP] at h;exact Fv (ic (Cj _ _ _ Xt hv) (W6 ML) ⟨h,tB J⟩);cases h;cases h;rename_i qs pu Xt;have o9:=hT _ _ _ Xt;split at h;exact WX hm hT jc o9 fO h;split at h;rename_i v hv;rw[AP] at h;have gG:cw G P f (fs++args++Z) J λr bl=>(bl.map b7).take J.length=J.map b7/\gr J bl/\∃n,dh (oC J.length bl) n r=a_ v:=by
   have:=WX hm hT jc o9 fO hv;refine iH.ok ⟨this.1,λbase w0 C M w dj hs D=>(this.2 base w0 C M w dj hs D).mono λe w' ⟨bI,M',bl,Y,V,h3⟩=>⟨bI,M',bl,Y,V,?_⟩⟩
   rcases h3 with⟨v',u',q,rest⟩|⟨ch,q,rest⟩
   refine bD ⟨v',u',?_,rest⟩;obtain⟨q1,bt⟩:=q;simp only[afx] at q1;split at q1;rename_i Yr;refine⟨aGu Yr,bt,64,?_⟩;have rn:(R (J.map b7)).n=J.length:=cS _;rw[rn,H_,aDN] at q1;exact Jf q1;cases q1;exact(by cases q.1)
  refine Fv (cm (cw.close gG) ?_);rintro r' bl ⟨rfl,q1,bt⟩;exact⟨by rw[q1];exact h,bt⟩;cases h;split at h;rename_i bs ML;split at h;rename_i v hv;rw[AP] at h;have gG:cw G P f bs [] λv' bl=>∃n,dh bl n v'=a_ v:=by
   have:=WX hm hT jc o9 (J:=[]) (Zg (J:=[])) hv;refine iH.ok ⟨this.1,λbase w0 C M w dj hs D=>(this.2 base w0 C M w dj hs D).mono λe w' ⟨bI,M',bl,Y,V,h3⟩=>⟨bI,M',bl,Y,V,?_⟩⟩
   rcases h3 with⟨v',u',q,rest⟩|⟨ch,q,rest⟩
   exact bD ⟨v',u',⟨64,Jf (by have:=q.1;simp only[HJ,H_] at this;exact this)⟩,rest⟩;exact(by cases q.1)
  exact Fv (ic (eM gG) (W6 ML) ⟨h,tB J⟩);cases h;cases h
 refine⟨λJF=>?_,fn⟩;cases x with
 |fn f fs Z=>
  cases f with
  |func f=>
   rw[I2];have:=fn f fs Z rfl;refine iH.ok ⟨this.1,λbase w0 C M w dj hs D=>(this.2 base w0 C M w dj hs D).mono λe w' ⟨bI,M',bl,Y,V,h3⟩=>⟨bI,M',bl,Y,V,?_⟩⟩
   rcases h3 with q|⟨ch,q,rest⟩
   exact bD q;rw[JF] at q;exact(by cases q.1)
  |method nm=>
   cases fs with
   |cons a b=>simp only[DP] at h;cases h
   |nil=>
    simp only[DP] at h;split at h;rename_i t x rest;split at h;rename_i l pu aw_;split at h;rename_i g hg;have Y:=hT _ _ _ aw_ _ (WU hg);have V:=(jc _ _ _ _ _ _ fO h).1 JF;rw[I2,gM,gV] at V;exact⟨t,x,rest,g,rfl,Y,V⟩;cases h;cases h;cases h
  |_=>simp only[DP] at h;cases h
 |jq k0=>
  simp only[DP] at h;split at h;rename_i rc Fq XS;obtain⟨JB,ayQ⟩:=agL XS;obtain⟨bU,ok,st,pd,jU,hR⟩:=fO k0 rc JB;have ai8:sD G P Fq J:=λj Tl hj=>fO j Tl (ayQ _ hj);split at h;rename_i c7;rw[CM,gN] at h;obtain⟨blk,Ni,h⟩:=h;split at h;rename_i anZ a0 b0 c0;obtain⟨lG,LP,ps',N7,eL,jG⟩:=ago Ni;rw[jU] at eL;cases eL;refine hR args J _ c7 ⟨pd,jU⟩ ?_;refine tu (Gg jc ai8 h) λx e1 eL ⟨q1,bt⟩=>?_;cases x with
  |normal=>
   dsimp only at q1;rw[CM,gN] at q1;obtain⟨aJR,aiQ,q1⟩:=q1;split at q1;rename_i an0 a1 b1 c1;obtain⟨zK,fW,Ct⟩:=bt _ _ _ _ _ _ jU;obtain⟨CS,aJJ,aLx,aLp,xQ,_⟩:=ago aiQ;rw[Ct] at xQ;cases xQ;rw[KV,aiQ] at q1;simp only[mj] at q1;refine⟨⟨fW,Ct⟩,λan1=>?_⟩;have G2:(eL.map b7).set k0 (Bq .busy bn)=(eL.set k0 (.b8 .busy an1 bU rc.ps.toArray ok)).map b7:=Mg.symm;rw[G2] at q1;have gZ:gr J (eL.set k0 (.b8 .busy an1 bU rc.ps.toArray ok)):=bt.trans (Y5 Ct);refine tu (Gg jc (ai8.keeps gZ) q1) λx e2 jG ⟨u1,u2⟩=>?_;obtain⟨TS,Ta,Nl⟩:=(gZ.trans u2) _ _ _ _ _ _ jU;have he:(jG.map b7)[k0]?=a_ (b7 (.b8 TS Ta bU rc.ps.toArray ok)):=by rw[e9,Nl];rfl
   simp only[aoC,CM,he,b7,mj] at u1;have hk2:∀st pd,gr J (jG.set k0 (.b8 st pd bU rc.ps.toArray ok)):=λst pd=>(gZ.trans u2).trans (Y5 Nl);cases x with
   |normal=>
    dsimp only at u1;rw[KV,he] at u1;simp only[mj] at u1;refine⟨⟨TS,Ta,Nl⟩,?_,hk2 _ _⟩;rw[Mg];exact u1
   |ret=>
    dsimp only at u1;rw[KV,he] at u1;simp only[mj] at u1;refine⟨⟨TS,Ta,Nl⟩,?_,hk2 _ _⟩;rw[Mg];exact u1
   |exit id=>
    dsimp only at u1;rw[KV,he] at u1;simp only[mj] at u1;refine⟨⟨TS,Ta,Nl⟩,?_,hk2 _ _⟩;rw[Mg];exact u1
   |_=>cases u1
   cases q1
  |_=>cases q1
  cases h;cases h;cases h
 |_=>simp only[DP] at h;cases h
def agu(Cj:Vi G P hc rm):∀d,FJ G P (Mh hc rm cj d)
 |0=>λcL x args J k r fO h=>aB
 |d+1=>atI hm hT Cj (agu Cj d)
inductive qS where
 |nil
 |node (l:qS) (k:FuncId) (qs:kX) (m:Nat) (r:qS)
noncomputable def qS.get(t:qS)(f:FuncId):Option (kX×Nat):=@qS.rec (λ_=>Option (kX×Nat)) bn
 (λ_ k qs m _ il azM=>@Fu (λ_=>Option (kX×Nat)) (@Fu (λ_=>Option (kX×Nat)) azM (a_ (qs,m)) (eV f k)) il (sy f k)) t
def qS.c6(P:Program):qS->Prop
 |.nil=>True
 |.node l k qs _ r=>l.c6 P/\Lj P k qs/\r.c6 P
omit hm hT in
def qS.Mu{m:Nat}:∀{t:qS},t.c6 P->t.get f=a_ (qs,m)->Lj P f qs
 |.nil,_,h=>aB
 |.node l k agF m' r,ho,h=>by
  obtain⟨Y,V,h3⟩:=ho;have hg:qS.get (.node l k agF m' r) f=@Fu (λ_=>Option (kX×Nat)) (@Fu (λ_=>Option (kX×Nat)) (r.get f) (a_ (agF,m')) (eV f k)) (l.get f) (sy f k):=rfl;rw[hg] at h;cases O:sy f k with
  |true=>rw[O] at h;exact qS.Mu Y h
  |false=>
   rw[O] at h;cases hq:eV f k with
   |true=>
    rw[hq] at h;cases h;rw[tF hq];exact V
   |false=>rw[hq] at h;exact qS.Mu h3 h
def agt(Cj:Vi G P hc rm){d:Nat}(h:Mh hc rm cj d [] (.fn (.func f) [] []) args (R []) HJ=a_ r):cV G P f args r:=by
 refine eM ?_;have:=(agu hm hT Cj d [] (.fn (.func f) [] []) args [] HJ r Zg h).1 λ_ _=>rfl;rw[I2,gM,gV] at this;exact cm this λr bl k=>⟨64,Jf (by have:=k.1;simp only[HJ,H_] at this;exact this)⟩
end
end
section
variable{w:World}{b o:Nat}{v x y:Value}{C:Cells}{M:List Loc}{J:List br}
section
variable{G:Cells}{P:Program}{f:FuncId}
def Ll(G:Cells)(w:World):Prop:=∀b o v,G b o=a_ v->w.cell? ⟨b,o,bn⟩=a_ v
def atJ(h:w.cell? ⟨b,o,bn⟩=a_ v):b<w.heap.size:=by
 rcases er b w.heap.size with q|q
 exact q;exfalso;unfold FA at h;dsimp only at h;have:w.heap[b]?=bn:=by simp[q]
 rw[this] at h;simp at h
def B1(w:World)(C:Cells)(w':World):Cells:=λb o=>if b<w.heap.size then C b o else(w'.cell? ⟨b,o,bn⟩).filter λv=> !wM v
def Vs{w'}(h:w.heap.size<=b)(T:w'.cell? ⟨b,o,bn⟩=a_ v)(hv:wM v=bf):B1 w C w' b o=a_ v:=by
 unfold B1;rw[if_neg aa,T];simp[UT,hv]
def E4{args}{r:bg}(he:Enters P f)(h:∀(C) (w) dj,Ll G w/\FV w->(∀b o v,C b o=a_ v->qi G w b o v)->dH C [] [] args dj->Calls P f dj.toArray w λe w'=>∃v',e=.returned v'/\Below w.heap.size w w'/\bO (B1 w C w') [] [] r v'):cV G P f args r:=
 ⟨he,λC w dj hg T D=>(h C w dj ⟨λb o v q=>(T b o v (hg.1 b o v q)).1,hg.2⟩ T D).mono λe w' ⟨v',e1,O,jd⟩=>by
  refine⟨B1 w C w',v',e1,λb o v q=>?_,λb o v q=>?_,λb o v q=>?_,O,jd,trivial⟩;unfold B1;rw[if_pos (T b o v q).lt];exact q;unfold B1 at q;split at q;exact bD q;rename_i hn;exact bF aa;unfold B1 at q;split at q;rename_i hn;exact(T b o v q).keep (O.cell hn) λi=>O.frozen hn;cases hu:w'.cell? ⟨b,o,bn⟩ with
  |none=>rw[hu] at q;cases q
  |some u=>
   rw[hu] at q;simp only[UT] at q;split at q;rename_i hs;cases q;exact⟨hu,λ_ hv=>by rw[hv] at hs;cases hs⟩;cases q⟩
def HO:∀{xs l},dH C M J (xs.map .v) l->l=xs
 |[],[],_=>rfl
 |[],_::_,h=>by have:=h.1;simp at this
 |_::_,[],h=>by have:=h.1;simp at this
 |x::xs,y::l,h=>by
  have e:y=x:=by cases(h.2 0 _ _ rfl rfl);rfl
  have:=HO ⟨aND,λi a b ha O=>h.2 (i+1) a b aMy aH⟩;rw[e,this]
def an6{xs:List Value}(he:Enters P f)(hv:plain v=bh)(h:∀w,Ll G w->Calls P f xs.toArray w λe w'=>e=.returned v/\Below w.heap.size w w'):cV G P f (xs.map .v) (.v v):=
 E4 he λC w dj hg T D=>by
  rw[HO D];exact(h w hg.1).mono λe w' ⟨Y,V⟩=>⟨v,Y,V,.v hv⟩
def an7(he:Enters P f)(hv:plain v=bh)(h:∀w,Ll G w->Calls P f #[x] w λe w'=>e=.returned v/\Below w.heap.size w w'):cV G P f [.v x] (.v v):=an6 he hv h
def aaB(he:Enters P f)(hv:plain v=bh)(h:∀w,Ll G w->Calls P f #[x,y] w λe w'=>e=.returned v/\Below w.heap.size w w'):cV G P f [.v x,.v y] (.v v):=an6 he hv h
def aFM{vs:List Value}(hC:∀(i) v,vs[i]?=a_ v->C b i=a_ v)(bl:∀v∈vs,plain v=bh):bO C M J (.sl (vs.map .v) .no) (.slice (a_ ⟨b,0,bn⟩) vs.length vs.length):=by
 have:=bO.sl (M:=M) (J:=J) (xs:=vs.map .v) (t:=.no) (a:=⟨b,0,bn⟩) (cap:=vs.length) (λi j=>(vs[i]?).getD undef) (λ_=>rfl)
  (λi x I=>by
    rw[e9,dA] at I;obtain⟨v,_,rfl⟩:=I;rfl)
  (λi x j c I T=>by
    rw[e9,dA] at I;obtain⟨v,hv,rfl⟩:=I;cases j with
    |zero=>
     simp only[jD,nL,nj] at T;rw[hv];simpa using hC i v hv
    |succ j=>simp[jD] at T)
  (λi x j c I T=>by
    rw[e9,dA] at I;obtain⟨v,hv,rfl⟩:=I;cases j with
    |zero=>
     simp only[jD,nL,nj] at T;subst T;rw[hv];exact .v (bl v (cv hv))
    |succ j=>simp[jD] at T) trivial af
 rwa [cS] at this
def aoq{a b:bg}(Y:bO C M J a x)(V:bO C M J b y):bO C M J (.bQ [a,b]) (.tuple #[x,y]):=.bQ rfl λi u v hu hv=>by
 match i with
 |0=>simp at hu hv;subst hu;subst hv;exact Y
 |1=>simp at hu hv;subst hu;subst hv;exact V
 |i+2=>simp at hu
def atm{B}{k}{os}(h:B<=w.heap.size):Below B w (Go.Sort.grow (w.drewN k) os):=by
 refine⟨rfl,rfl,rfl,?_,λi Q=>?_⟩;simp;rw[Go.Sort.heap_grow_old _ _ ah];rfl
end
end
def OG{α:Type}(f:α->bg):Option (List α)->bg
 |none=>.bp
 |some l=>.sl (l.map f) .no
def apk{α}(f:α->bg)(o):cD (OG f o) ((o.getD []).map f):=by
 cases o with
 |none=>exact bF ⟨rfl,rfl⟩
 |some l=>exact bD rfl
structure cr where
 kind:Int
 type:Int
 attr:Int
 rune:Int
 marks:List Int
def bq(n:Int):bg:=.v (.int .i64 n)
def eP(n:Int):bg:=.v (.int .i32 n)
def gL(n:Int):bg:=.v (.int .u16 n)
def cr.cells(t:cr):List bg:=bq t.kind::bq t.type::bq t.attr::eP t.rune::t.marks.map gL
def cr.bA(t:cr):bg:=.agg t.cells
def Lm(n:Int):Prop:= -9223372036854775808<=n/\n<=9223372036854775807
def PF(n:Int):Prop:= -2147483648<=n/\n<=2147483647
structure cr.c6(t:cr):Prop where
 S:Lm t.kind
 ht:Lm t.type
 ha:Lm t.attr
 D:PF t.rune
 len:t.marks.length=8
 hm:∀x∈t.marks,0<=x/\x<65536
def F9{W}{c}{L}{Z}(h:qj W (c::L) Z):∃v r,Z=v::r/\xg W c v/\qj W L r:=by
 cases Z with
 |nil=>have:=h.1;simp at this
 |cons v r=>exact⟨v,r,rfl,h.2 0 c v rfl rfl,aM7,λi a b ha O=>h.2 (i+1) a b ha O⟩
def V_{W}{Z}(h:qj W [] Z):Z=[]:=oc h.1.symm
def LW{W}{k}{v}(h:xg W (.i k) v):∃n,v=.int k n/\(Lit.int k n).wf=bh:=by
 cases h with
 |i h=>exact⟨_,rfl,h⟩
def ab8{n}(h:(Lit.int .i64 n).wf=bh):(-9223372036854775808<=n/\n<=9223372036854775807):=by
 simp[Lit.wf,ara,aq_,K6,K5] at h;exact⟨aa,aa⟩
def aIT{n}(h:(Lit.int .i32 n).wf=bh):(-2147483648<=n/\n<=2147483647):=by
 simp[Lit.wf,ara,aq_,K6,K5] at h;exact⟨aa,aa⟩
def aIS{n}(h:(Lit.int .u16 n).wf=bh):0<=n/\n<65536:=by
 simp[Lit.wf,ara,aq_,K6,K5] at h;omega
def Bz{C}{M}{J}{a:bg}{v}{dO}{vs}(h:bO C M J a v)(hs:dH C M J dO vs):dH C M J (a::dO) (v::vs):=
 ⟨by simp[hs.1],λi x y I hy=>by
  cases i with
  |zero=>simp at I hy;subst I;subst hy;exact h
  |succ i=>simp at I hy;exact hs.2 i x y I hy⟩
def aaX{C}{M}{J}:dH C M J [] []:=⟨rfl,λi x y I=>aF⟩
def Ow{C}{M}{J}(k)(n):bO C M J (.v (.int k n)) (.int k n):=.v rfl
def ajo{W}:∀(n) {Z},qj W (fB n (.i .u16)) Z->∃m:List Int,m.length=n/\(∀x∈m,0<=x/\x<65536)/\dH (tI W) [] [] (m.map λn=>cR (.int .u16 n)) Z
 |0,Z,h=>by
  rw[V_ h];exact⟨[],rfl,λx I=>aF,aaX⟩
 |n+1,Z,h=>by
  obtain⟨v,r,rfl,Y,V⟩:=F9 h;obtain⟨k,rfl,S⟩:=LW Y;obtain⟨m,e,hm,D⟩:=ajo n V;refine⟨k::m,by simp[e],λx I=>?_,Bz (Ow _ _) D⟩
  rcases fo.1 I with rfl|I
  exact aIS S;exact hm x I
def anM{W}{e}{α}{f}{PU:α->Prop}(hE:∀Z,qj W e Z->∃a,PU a/\dH (tI W) [] [] (f a).cells Z)(hn:0<e.length){v}(h:xg W (.sl e) v):
  ∃o:Option (List α),(∀x∈o.getD [],PU x)/\bO (tI W) [] [] (OG f o) v:=by
 cases h with
 |nil=>exact⟨bn,λx I=>aF,.bp⟩
 |sl g hl T gH hC hR=>
  rename_i a len cap;have each:∀i:Fin len,∃a,PU a/\dH (tI W) [] [] (f a).cells ((lu e.length).map (g i.val)):=λi=>hE _ ⟨af,λj c v T hv=>by
   have hj:=(cK.1 T).1;simp only[e9,aJw hj,kf,nj] at hv;subst hv;exact hR i.val j c i.isLt T⟩
  have hg:∀(i) x,(List.ofFn λi=>(each i).choose)[i]?=a_ x->∃Q:i<len,PU x/\dH (tI W) [] [] (f x).cells ((lu e.length).map (g i)):=λi x I=>by
   have Q:i<len:=by have:=(cK.1 I).1;simpa using this
   rw[List.getElem?_ofFn] at I;simp only[Q,dif_pos,nj] at I;subst I;exact⟨Q,(each ⟨i,Q⟩).choose_spec⟩
  generalize hl':(List.ofFn λi=>(each i).choose)=l at hg;have c7:l.length=len:=by rw[<-hl'];simp
  refine⟨a_ l,λx I=>?_,?_⟩;obtain⟨i,Q,rfl⟩:=FC I;obtain⟨_,Y,_⟩:=hg i _ (cy Q);exact Y;have aiu:(l.map f).length=len:=by simp[c7]
  have key:∀(i) (y:bg),(l.map f)[i]?=a_ y->∃Q:i<len,dH (tI W) [] [] y.cells ((lu e.length).map (g i)):=λi y hy=>by
   simp only[e9,dA] at hy;obtain⟨x,I,rfl⟩:=hy;obtain⟨Q,_,V⟩:=hg i x I;exact⟨Q,V⟩
  show bO (tI W) [] [] (.sl (l.map f) .no) (.slice (a_ a) len cap);rw[<-aiu];refine .sl (sz:=e.length) g (λbP=>(gH (by rw[<-aiu];exact Is.2 bP) hn)) (λi x I=>?_) (λi x j c I hj=>?_) (λi x j c I hj=>?_) trivial aa;obtain⟨_,V⟩:=key i x I;rw[V.1];simp;obtain⟨Q,V⟩:=key i x I;have ud:j<e.length:=aMH
  exact hC i j _ Q (cy ud);obtain⟨Q,V⟩:=key i x I;have ud:j<e.length:=aMH
  exact V.2 j c _ hj (by simp[aJw ud])
def aGK:List xd:=fB 8 (.i .u16)
def abK:List xd:=.i .i64:: .i .i64:: .i .i64:: .i .i32::aGK
def aqj{W}(Z)(h:qj W abK Z):∃t:cr,t.c6/\dH (tI W) [] [] t.bA.cells Z:=by
 obtain⟨_,_,rfl,h0,g1⟩:=F9 h;obtain⟨_,_,rfl,Y,g2⟩:=F9 g1;obtain⟨_,_,rfl,V,g3⟩:=F9 g2;obtain⟨_,_,rfl,h3,g4⟩:=F9 g3;obtain⟨a,rfl,wa⟩:=LW h0;obtain⟨b,rfl,wb⟩:=LW Y;obtain⟨c,rfl,wc⟩:=LW V;obtain⟨d,rfl,wd⟩:=LW h3;obtain⟨m,p7,Er,D⟩:=ajo 8 g4;exact⟨⟨a,b,c,d,m⟩,⟨ab8 wa,ab8 wb,ab8 wc,aIT wd,p7,Er⟩,Bz (Ow _ _) (Bz (Ow _ _) (Bz (Ow _ _) (Bz (Ow _ _) D)))⟩
def aFG{P:Program}{ts:List TypeId}(h:(ts.all λt=>P.readableRec t&&decide (t<P.types.size))=bh):∀t∈ts,P.readableRec t=bh/\t<P.types.size:=λt ht=>by
 have:=eJ.1 h t ht;simpa using this
set_option maxRecDepth 100000 in
def afa{P}{W}{base}{t e'}{e}{v}(ht:P.underlying t=a_ (.slice e'))(hv:Ph P W .any base t v)(h:qj W [.sl e] v.cells.toList):xg W (.sl e) v:=by
 obtain⟨w,r,e1,Y,V⟩:=F9 h;rw[V_ V] at e1;have:v=w:=by
  cases v
  case agg Z=>simp[Ph,ht,Cell.okWide,Cell.ok] at hv
  all_goals
   simp[BP] at e1;exact e1
 rw[this];exact Y
open Go.WideShapes
section
variable{H:Type}{enc:TypeId×Value->H}{P:Program}{W:World}{b:Nat}{sp:Nat->Bool}{MS:Bool}
def ajn{t e}{n ov}{k}{Z}{ds:List Int}{p}(ht:P.underlying t=a_ (.array n e))(he:P.underlying e=a_ (.int k))(T:P.cellsOf e=1)
  (h:Uw enc P W b sp MS ov t Z=a_ (.agg (ds.map λi=>.lit (.int k i)),p)) (j:Nat) (i) (hj:ds[j]?=a_ i):Z[j]?=a_ (.int k i):=by
 obtain⟨xs,m,_,ex,c7,hl,uc⟩:=DataW.trod_array ht h;have e1:=DataW.agg.inj (Prod.mk.inj ex).1;have I:=congrArg (λl=>l[j]?) e1;simp only[e9,hj,kf] at I;have air:j<xs.length:=by
  have Y:=congrArg La e1;simp only[cS] at Y;have:=(cK.1 hj).1;omega
 have Y:=uc j aa;rw[cy air,T] at Y;rw[cy air,kf] at I;obtain⟨z,a1,a2,_⟩:=DataW.trod_int he Y;rw[a2] at I;simp only[nj,DataW.lit.injEq,Lit.int.injEq,true_and] at I;subst I;have V:=congrArg (λl=>l[0]?) a1;simpa using V
def iface_of_trod{t}{ms}{ov}{Z}{name}{d}{p}(ht:P.underlying t=a_ (.interface ms))
  (h:Uw enc P W b sp bf ov t Z=a_ (.iface name d,p)):∃u v,Z=[.iface u v]:=by
 cases ov with
 |zero=>cases h
 |succ ov=>
  unfold Uw at h;rw[ht] at h
  split at h<;>first|(cases h;done)|(rename_i q;cases q;done)|skip
  all_goals first|exact⟨_,_,rfl⟩|skip
  all_goals simp_all
end
open Go.Lib
def uh(n:Nat):List UInt8->Nat->Int
 |[],_=> -1
 |b::r,i=>match eV b.toNat n with
  |true=>.ofNat i
  |false=>uh n r (i+1)
def Qc(b c:UInt8):eV b.toNat c.toNat=(b==c):=by
 rw[Ij,w4,beq_iff_eq];exact⟨λh=>UInt8.toNat_inj.1 h,λh=>by rw[h]⟩
def ajb(c):∀(l) (i),uh c.toNat l i=if indexByte l c= -1 then -1 else i+indexByte l c
 |[],i=>by simp[uh,indexByte]
 |b::r,i=>by
  have hge:=indexByte_ge r c;by_cases h:b=c;subst h;simp[uh,indexByte];have O:(b==c)=bf:=aR
  rw[uh,Qc,O];simp only[indexByte,O,kB,if_false,beq_iff_eq];rw[ajb c r (i+1)];by_cases V:indexByte r c= -1;simp[V];rw[if_neg V,if_neg V,if_neg aa];omega
def YE(c)(l):uh c.toNat l 0=indexByte l c:=by
 rw[ajb];split;rename_i h;rw[h];simp
def jx(n:Nat):List UInt8->List (List UInt8)
 |[]=>[[]]
 |b::r=>match eV b.toNat n with
  |true=>[]::jx n r
  |false=>match jx n r with
   |[]=>[[b]]
   |h::t=>(b::h)::t
def aHj(n)(l):∃h t,jx n l=h::t:=by
 cases l with
 |nil=>exact⟨_,_,rfl⟩
 |cons b r=>
  simp only[jx];split;exact⟨_,_,rfl⟩;split<;>exact⟨_,_,rfl⟩
def TO(c):∀(l),indexByte l c= -1->jx c.toNat l=[l]/\l.count c=0
 |[],_=>⟨rfl,rfl⟩
 |b::r,h=>by
  simp only[indexByte] at h;have hge:=indexByte_ge r c;cases O:b==c with
  |true=>rw[O] at h;simp at h
  |false=>
   rw[O] at h;simp only[kB,if_false,beq_iff_eq] at h;have V:indexByte r c= -1:=by
    split at h
    assumption
    omega
   obtain⟨q1,bt⟩:=TO c r V;refine⟨?_,?_⟩;simp only[jx,Qc,O,q1];rw[ars,bt,O];simp
def TN(c):∀(l) (i:Nat),indexByte l c=i->jx c.toNat l=l.take i::jx c.toNat (l.drop (i+1))/\l.count c=(l.drop (i+1)).count c+1
 |[],i,h=>by simp only[indexByte] at h;omega
 |b::r,i,h=>by
  simp only[indexByte] at h;have hge:=indexByte_ge r c;cases O:b==c with
  |true=>
   rw[O] at h;simp at h;have Q:i=0:=aa
   subst Q;refine⟨?_,?_⟩;simp only[jx,Qc,O];try simp;simp only[gi,wX,pL];rw[ars,O];simp
  |false=>
   rw[O] at h;simp only[kB,if_false,beq_iff_eq] at h;split at h;omega;cases i with
   |zero=>omega
   |succ i=>
    obtain⟨q1,bt⟩:=TN c r i aa;refine⟨?_,?_⟩;simp only[jx,Qc,O,q1];simp;rw[ars,bt,O];simp
def abu(c):∀(k) (l),k=l.count c->splitK [c] 0 k l=jx c.toNat l
 |0,l,h=>by
  have Y:indexByte l c= -1:=by
   rcases Int.lt_or_le (indexByte l c) 0 with q|q
   have:=indexByte_ge l c;omega;obtain⟨i,Q⟩:=pJ q;have:=(TN c l i Q).2;omega
  rw[(TO c l Y).1];rfl
 |k+1,l,h=>by
  unfold splitK;rw[index_one]
  rcases Int.lt_or_le (indexByte l c) 0 with q|q
  have:=(TO c l (by have:=indexByte_ge l c;omega)).2;omega;obtain⟨i,Q⟩:=pJ q;obtain⟨q1,bt⟩:=TN c l i Q;rw[if_neg ah,Q,q1];have e:(i:Int).toNat=i:=rfl;rw[e,sx];congr 1;exact abu c k _ ah
def lQ:Nat->Nat->List UInt8
 |0,u=>[vC (48+u % 10)]
 |f+1,u=>match sy u 10 with
  |true=>[vC (48+u)]
  |false=>lQ f (u/10)++[vC (48+u % 10)]
def af5:∀(f u),u<10^(f+1)->lQ f u=decDigits u
 |0,u,h=>by
  have:u<10:=aR
  rw[decDigits,dif_pos this,lQ,Nat.mod_eq_of_lt this]
 |f+1,u,h=>by
  rw[lQ,decDigits];cases O:sy u 10 with
  |true=>
   have:u<10:=qM O;rw[dif_pos this]
  |false=>
   have:¬u<10:=λq=>by rw[show sy u 10=bh from Nat.ble_eq_true_of_le q] at O;cases O
   rw[dif_neg this,af5 f (u/10) (by rw[Nat.pow_succ] at h;omega)]
section
variable{f:FuncId}{args:List bg}{hi:bg->Prop}
def dM(G:Cells)(P:Program)(f:FuncId)(args:List bg)(hi:bg->Prop):Prop:=
 Enters P f/\∀(C:Cells) (w:World) (dj:List Value),U7 G C w->(∀b o v,C b o=a_ v->qi G w b o v)->dH C [] [] args dj->
  Calls P f dj.toArray w λe w'=>∃r,hi r/\∃bI v',e=.returned v'/\(∀b o v,C b o=a_ v->bI b o=a_ v)/\(∀b o v,bI b o=a_ v->C b o=a_ v\/w.heap.size<=b)/\
   (∀b o v,bI b o=a_ v->qi G w' b o v)/\Below w.heap.size w w'/\bO bI [] [] r v'
section
variable{G:Cells}{P:Program}
def dM.mono{Q':bg->Prop}(h:dM G P f args hi)(hq:∀r,hi r->Q' r):dM G P f args Q':=
 ⟨h.1,λC w dj hg T D=>(h.2 C w dj hg T D).mono λe w' ⟨r,q,rest⟩=>⟨r,hq r q,rest⟩⟩
def cV.q{f:FuncId}{args:List bg}{bR:bg}{hi:bg->Prop}(h:cV G P f args bR)(hq:hi bR):dM G P f args hi:=
 ⟨h.1,λC w dj hg T D=>(h.2 C w dj hg T D).mono λe w' ⟨bI,v',a,b,c,d,e1,g,_⟩=>⟨bR,hq,bI,v',a,b,c,d,e1,g⟩⟩
def cw.aFa{Aw:List bg}{J:List br}{K:bg->List br->Prop}(h:dM G P f args hi)(Q:oU Aw args)(S:∀r,hi r->K r J):cw G P f Aw J K:=
 ⟨h.1,λbase w0 C M w dj hs D=>(h.2 C w dj ⟨hs.tX,hs.tab⟩ hs.o5 (Q.rep D)).mono λe w' ⟨r,q,bI,v',he,Y,V,h3,O,jd⟩=>by
  obtain⟨bK,eD⟩:=apd hs Y V h3 O;exact⟨bI,M,J,r,v',S r q,he,bK,eD,jd.mono Sw⟩⟩
def en(h:cw G P f args [] λr bl=>∃n bR,dh bl n r=a_ bR/\hi bR):dM G P f args hi:=
 ⟨h.1,λC w dj hg T D=>(h.2 w.heap.size ⟨w,C⟩ C [] w dj (ape hg T) D).mono λe w' ⟨bI,M',bl,r,v',⟨n,bR,A9,hq⟩,he,bK,eD,jd⟩=>by
  refine⟨bR,hq,yE bI M' bl 0 w',v',he,λb o v q=>Lg (bK.C b o v q),λb o v q=>?_,λb o v q=>U0 eD q,eD.below,?_⟩
  rcases U3 eD q with hu|O
  rcases er b w.heap.size with O|O
  exact bD (eD.old b o v hu O);exact bF O;exact bF O;refine Rh (J:=bl) (Ex:=bl) (λb o v q=>Lg q) (λk Z row L S hM i c T=>?_) (λ_ _ _ q=>q) A9 jd;obtain⟨c',q1,bt⟩:=(eD.cells k Z row L S hM).2.2.1 i c T;exact⟨c',by rw[U2 eD (gW _) S hM];exact q1,bt⟩⟩
def dM.of(h:∃r,hi r/\cV G P f args r):dM G P f args hi:=by
 obtain⟨r,q,h⟩:=h;exact h.q q
end
end
def Zx:dK->Nat
 |.t n=>1<<<n
 |.c _=>0
def Zy:List dK->Nat
 |[]=>0
 |x::r=>(Zx x).lor (Zy r)
def amI:List Nat->Nat
 |[]=>0
 |n::r=>Pt (1<<<n) (amI r)
def amH(s d:Nat):Nat:=Nat.xor s (Nat.land s (1<<<d))
def aDy(s t:Nat):Nat:=Nat.xor s (Nat.land s t)
def NP:List dX->Nat->Nat
 |[],s=>s
 |o::r,s=>Pt (Pt (match o.dst with
  |some d=>amH (NP r s) d
  |none=>NP r s) (Zy (Cw o.ins))) (match o.guard with
  |some g=>1<<<g.1
  |none=>0)
def Zw(s:Nat):Nat->Nat->List Nat
 |0,_=>[]
 |k+1,i=>if eV (s>>>i) 0 then [] else if eV (Nat.land (s>>>i) 1) 1 then i::Zw s k (i+1) else Zw s k (i+1)
def EU(s:Nat):List Nat:=Zw s 1000 0
def Zv:List (Nat×Nat)->Nat->Nat
 |[],_=>0
 |(j,s)::r,k=>if eV j k then s else Zv r k
def Zu:List (Nat×Nat)->Nat
 |[]=>0
 |(_,s)::r=>Pt s (Zu r)
@[irreducible] def TX (l:List Nat):bg:=.v (.string ⟨(l.map vC).toArray⟩)
def hG:dK->dK
 |.c (.v (.string b))=>.c (TX (b.data.toList.map ac3))
 |x=>x
def alH:bg->bg
 |.v (.string b)=>TX (b.data.toList.map ac3)
 |x=>x
def EK:bg->bg
 |.agg l=>.agg (l.map alH)
 |x=>alH x
def So:sH->sH
 |.mv x=>.mv (hG x)
 |.pick c a b=>.pick (hG c) (hG a) (hG b)
 |.alloc z=>.alloc (z.map EK)
 |.box x=>.box (hG x)
 |.build z ps=>.build (z.map EK) (ps.map λp=>(p.1,p.2.1,hG p.2.2))
 |.Az n vs=>.Az n (vs.map hG)
 |.st n p x=>.st n p (hG x)
 |.bin o x y=>.bin o (hG x) (hG y)
 |.dy k x=>.dy k (hG x)
 |.KE x=>.KE (hG x)
 |.IZ x=>.IZ (hG x)
 |.ye x a b=>.ye (hG x) (a.map hG) (b.map hG)
 |.slc n x a b c=>.slc n x (a.map hG) (b.map hG) (c.map hG)
 |.DR x i=>.DR (hG x) (hG i)
 |.r6 x=>.r6 (hG x)
 |.len x=>.len (hG x)
 |.app n b e s x=>.app n b e s (hG x)
 |.Bs f a b=>.Bs f (a.map hG) (b.map hG)
 |.xz n vs=>.xz n (vs.map hG)
 |.B4 n b e s x=>.B4 n b e s (hG x)
 |.Bt n b e z l c=>.Bt n b e (z.map EK) l c
 |.CK n b e z l c=>.CK n b e (z.map EK) l c
 |.CH t x=>.CH t (hG x)
 |.KP t z ok x=>.KP t (EK z) ok x
 |.um m xs=>.um m (xs.map hG)
 |.iter x=>.iter (hG x)
 |.ES x=>.ES (hG x)
 |.CD bN ks z ok m k=>.CD bN ks (EK z) ok m (hG k)
 |.x5 bN ks m k x=>.x5 bN ks m (hG k) (hG x)
 |.Br bN ks z m k=>.Br bN ks (EK z) m (hG k)
 |.Aq t z=>.Aq t (z.map EK)
 |.Av b e s x=>.Av b e s (hG x)
 |.As b e s x=>.As b e s (hG x)
 |x=>x
def aBT:ja->ja
 |.op o=>.op (So o)
 |.call f l=>.call f (l.map hG)
 |.n9 f l=>.n9 f (l.map hG)
 |.qo f l=>.qo f (l.map hG)
 |.mw x l=>.mw x (l.map hG)
 |.qp x l=>.qp x (l.map hG)
 |.pE f l r=>.pE f (l.map hG) r
 |.gw x=>.gw (hG x)
def Sp(o:dX):dX:=⟨o.dst,o.guard,aBT o.ins⟩
def uQ(al:Nat):qQ->Nat->List (Nat×Nat)->Nat->eS×Nat
 |.skip,o,_,_=>(.skip (EU (o.lor al)),o.lor al)
 |.lab,o,_,_=>(.lab (EU (o.lor al)),o.lor al)
 |.bad,_,_,_=>(.bad,al)
 |.region l,o,_,_=>(.region (l.map Sp) (EU (o.lor al)),(NP l (o.lor al)).lor al)
 |.r_ ls,o,_,_=>(.r_ (ls.map λl=>l.map Sp) (EU (o.lor al)),ls.foldr (λl s=>((NP l (o.lor al)).lor al).lor s) 0)
 |.ry l,o,_,_=>(.ry (l.map λp=>(Sp p.1,p.2.map Sp)) (EU (o.lor al)),(NP (l.map (·.1)) (o.lor al)).lor al)
 |.seq a b,o,ex,rt=>match uQ al b o ex rt with
  |(b,m)=>match uQ al a m ex rt with
   |(a,i)=>(.seq a b,i)
 |.cond c a b,o,ex,rt=>match uQ al a o ex rt with
  |(a,i)=>match uQ al b o ex rt with
   |(b,j)=>(.cond (hG c) a b,(i.lor j).lor (Zx c))
 |.block k a,o,ex,rt=>match uQ al a o ((k,o.lor al)::ex) rt with
  |(a,i)=>(.block k a,i)
 |.scope a,o,ex,rt=>match uQ al a o ex rt with
  |(a,i)=>(.scope a,i)
 |.loop a,o,ex,rt=>Ld (motive:=λ_=>Nat->eS×Nat) (λl=>(.bad,l)) (λ_ go l=>match uQ al a l ex rt with
  |(x,i)=>if eV (i.lor l) l then(.loop x,l) else go (i.lor l)) 20 al
 |.exit k,_,ex,_=>(.exit k (EU (Zv ex k)),(Zv ex k).lor al)
 |.ret,_,_,rt=>(.ret (EU (rt.lor al)),rt.lor al)
 |.r8 x ps a b,o,ex,rt=>match uQ al b 0 (ex.map λp=>(p.1,0)) 0 with
  |(b,bi)=>match uQ al a bi (ex.map λp=>(p.1,0)) 0 with
   |(a,asG)=>(.r8 (hG x) ps a b (EU (((o.lor al).lor rt).lor (Zu ex))),((((o.lor al).lor rt).lor (Zu ex)).lor (Zx x)).lor (aDy asG (amI ps)))
def zD:List jf->Nat
 |[]=>0
 |.s t::r=>Pt (1<<<t) (zD r)
 |.c t _ _::r=>Pt (1<<<t) (zD r)
def Fe(l:List Nat):TX l=.v (.string ⟨(l.map vC).toArray⟩):=by rw[TX]
structure lz(P:Program)(f:FuncId) where
 e:kX
 ok:Lj P f e
 hm:P.follows .mixedOrders=bh
def ahn(P:Program)(hb:nt)(f:FuncId):Option (Nat×List jf×eS):=match th P hb f with
 |some ⟨n,rs,c⟩=>a_ (n,rs,(uQ 0 c (zD rs) [] (zD rs)).1)
 |none=>bn
def lz.c{P:Program}{f:FuncId}(hb:nt){n:Nat}{rs:List jf}{c:eS}
 (_h:ahn P hb f=a_ (n,rs,c):=by conv=>lhs;reduce;simp only[Int.reduceOfNat,Int.reduceNegSucc,Fe,List.map,UInt8.reduceOfNat])
 (hc:th P hb f=a_ ⟨n,rs,c.b7⟩:=by kernel_rfl) (nS:c.fits n=bh:=by kernel_rfl) (hm:P.follows .mixedOrders=bh:=by kernel_rfl):lz P f:=⟨.plain n rs c,⟨⟨hb,hc⟩,nS⟩,hm⟩
def lz.m{P:Program}{f:FuncId}(hb:nt){n:Nat}{rs:List jf}{c:eS}
 (_h:ahn P hb f=a_ (n,rs,c):=by conv=>lhs;reduce;simp only[Int.reduceOfNat,Int.reduceNegSucc,Fe,List.map,UInt8.reduceOfNat])
 (hc:th P hb f=a_ ⟨n,rs,c.b7⟩:=by kernel_rfl) (nS:c.pY n bh=bh:=by kernel_rfl) (hm:P.follows .mixedOrders=bh:=by kernel_rfl):lz P f:=⟨.loops n rs c,⟨⟨hb,hc⟩,nS⟩,hm⟩
def abk:List dX->Nat
 |[]=>1000000
 |o::r=>match o.dst with
  |some d=>d
  |none=>abk r
def ZG:List Nat->Nat->Bool
 |[],_=>bf
 |a::r,n=>if eV a n then bh else ZG r n
def Sy(P:Program):Nat->TypeId->List nq
 |0,_=>[]
 |d+1,t=>match P.underlying t with
  |some .bool=>[.b]
  |some (.int _)=>[.i]
  |some .string=>[.s]
  |some (.array n e)=>(fB n (Sy P d e)).flatten
  |some (.struct fs)=>(fs.toList.map λf=>Sy P d f.type).flatten
  |_=>[]
def ZD(P:Program)(t:TypeId):Option (Bool×List nq×bg):=match P.underlying t with
 |some (.map kt et)=>match kL P kt,C7 P et with
  |some bN,a_ z=>a_ (bN,Sy P 12 kt,z)
  |_,_=>bn
 |_=>bn
def aG_(P:Program)(ops:Array Oper)(o:Oper):Option dX:=match o.op with
 |.binOp op t x y _=>match P.underlying t with
  |some (.struct _)|some (.array _ _)=>match C3 ops o.guard,ep x,ep y with
   |some g,a_ x,a_ y=>a_ ⟨o.dst,g,.op (.I_ (Sy P 12 t) (match op with|.eql=>bf|_=>bh) x y)⟩
   |_,_,_=>bn
  |_=>yd P ops o
 |.lookup t m k ok=>match C3 ops o.guard,ep m,ep k,ZD P t with
  |some g,a_ m,a_ k,a_ (bN,ks,z)=>a_ ⟨o.dst,g,.op (.CD bN ks z ok m k)⟩
  |_,_,_,_=>bn
 |.mapUpdate t m k x|.insert t m k x=>match C3 ops o.guard,ep m,ep k,ep x,ZD P t with
  |some g,a_ m,a_ k,a_ x,a_ (bN,ks,_)=>a_ ⟨o.dst,g,.op (.x5 bN ks m k x)⟩
  |_,_,_,_,_=>bn
 |.mapEntry t m k=>match C3 ops o.guard,ep m,ep k,ZD P t with
  |some g,a_ m,a_ k,a_ (bN,ks,z)=>a_ ⟨o.dst,g,.op (.Br bN ks z m k)⟩
  |_,_,_,_=>bn
 |_=>yd P ops o
def aps(P:Program)(ops:Array Oper):List Oper->Option (List dX)
 |[]=>a_ []
 |o::r=>match aG_ P ops o,aps P ops r with
  |some s,a_ l=>a_ (s::l)
  |_,_=>bn
def BE(P:Program)(pu:nt)(h2 W:List Nat):Code->Option qQ
 |.skip=>a_ .skip
 |.region _ ops Ca=>match aps P ops ops.toList with
  |some l=>if ZG W (abk l) then a_ (.ry (n_ bh ops.toList (uo pu l))) else if ZG h2 (abk l) then a_ (.region (uo pu l)) else a_ (.region (l.map (BH pu)))
  |none=>bn
 |.seq a b=>match BE P pu h2 W a,BE P pu h2 W b with
  |some x,a_ y=>a_ (.seq x y)
  |_,_=>bn
 |.cond c a b=>match ep c,BE P pu h2 W a,BE P pu h2 W b with
  |some c,a_ x,a_ y=>a_ (.cond c x y)
  |_,_,_=>bn
 |.block id a=>match BE P pu h2 W a with
  |some x=>a_ (.block id x)
  |none=>bn
 |.loop a=>match BE P pu h2 W a with
  |some x=>a_ (.loop x)
  |none=>bn
 |.exit id=>a_ (.exit id)
 |.ret=>a_ .ret
 |.rangeFunc g ps a b=>match ep g,BE P pu h2 W a,BE P pu h2 W b with
  |some x,a_ sa,a_ sb=>a_ (.r8 x ps.toList sa sb)
  |_,_,_=>bn
 |.scope a=>match BE P pu h2 W a with
  |some x=>a_ (.scope x)
  |none=>bn
 |.label _=>a_ .lab
 |.goto _=>a_ .bad
 |.refuse _=>a_ .bad
def Rj(P:Program)(hb:nt)(h2 W:List Nat)(f:FuncId):Option (Nat×List jf×eS):=match P.funcs[f]? with
 |some fn=>match fn.body with
  |some c=>match BE P hb h2 W c,E8 P fn.results.toList with
   |some sc,a_ rs=>a_ (fn.ntmps,rs,(uQ 0 sc (zD rs) [] (zD rs)).1)
   |_,_=>bn
  |none=>bn
 |none=>bn
def lz.u{P:Program}{f:FuncId}(hb:nt)(h2 W:List Nat){n:Nat}{rs:List jf}{c:eS}
 (_h:Rj P hb h2 W f=a_ (n,rs,c):=by conv=>lhs;reduce;simp only[Int.reduceOfNat,Int.reduceNegSucc,Fe,List.map,UInt8.reduceOfNat])
 (hc:th P hb f=a_ ⟨n,rs,c.b7⟩:=by kernel_rfl) (nS:c.fits n=bh:=by kernel_rfl) (hm:P.follows .mixedOrders=bh:=by kernel_rfl):lz P f:=⟨.plain n rs c,⟨⟨hb,hc⟩,nS⟩,hm⟩
def lz.v{P:Program}{f:FuncId}(hb:nt)(h2 W:List Nat){n:Nat}{rs:List jf}{c:eS}
 (_h:Rj P hb h2 W f=a_ (n,rs,c):=by conv=>lhs;reduce;simp only[Int.reduceOfNat,Int.reduceNegSucc,Fe,List.map,UInt8.reduceOfNat])
 (hc:th P hb f=a_ ⟨n,rs,c.b7⟩:=by kernel_rfl) (nS:c.pY n bh=bh:=by kernel_rfl) (hm:P.follows .mixedOrders=bh:=by kernel_rfl):lz P f:=⟨.loops n rs c,⟨⟨hb,hc⟩,nS⟩,hm⟩
def lz.p{P:Program}{f:FuncId}(hb:nt){n:Nat}{rs:List jf}{c:eS}(_h:Rj P hb [] [] f=a_ (n,rs,c):=by conv=>lhs;reduce;simp only[Int.reduceOfNat,Int.reduceNegSucc,Fe,List.map,UInt8.reduceOfNat])
 (hc:th P hb f=a_ ⟨n,rs,c.b7⟩:=by kernel_rfl) (nS:c.fits n=bh:=by kernel_rfl) (hm:P.follows .mixedOrders=bh:=by kernel_rfl):lz P f:=⟨.plain n rs c,⟨⟨hb,hc⟩,nS⟩,hm⟩
def lz.l{P:Program}{f:FuncId}(hb:nt){n:Nat}{rs:List jf}{c:eS}(_h:Rj P hb [] [] f=a_ (n,rs,c):=by conv=>lhs;reduce;simp only[Int.reduceOfNat,Int.reduceNegSucc,Fe,List.map,UInt8.reduceOfNat])
 (hc:th P hb f=a_ ⟨n,rs,c.b7⟩:=by kernel_rfl) (nS:c.pY n bh=bh:=by kernel_rfl) (hm:P.follows .mixedOrders=bh:=by kernel_rfl):lz P f:=⟨.loops n rs c,⟨⟨hb,hc⟩,nS⟩,hm⟩
def lz.x{P:Program}{f:FuncId}(hb:nt)(n:Nat)(rs:List jf)(c:eS)
 (hc:th P hb f=a_ ⟨n,rs,c.b7⟩:=by kernel_rfl) (nS:c.fits n=bh:=by kernel_rfl) (hm:P.follows .mixedOrders=bh:=by kernel_rfl):lz P f:=⟨.plain n rs c,⟨⟨hb,hc⟩,nS⟩,hm⟩
def avU(P:Program)(hb:nt)(f:FuncId):Option (Nat×List jf×eS×Nat×FuncId×List dK×eS):=match KK P hb f with
 |some ⟨n,rs,a,t,g,caps,b⟩=>match uQ (zD rs) b (zD rs) [] (zD rs) with
  |(b,i)=>a_ (n,rs,(uQ (zD rs) a ((amH i t).lor (Zy caps)) [] (zD rs)).1,t,g,caps,b)
 |none=>bn
def lz.d{P:Program}{f:FuncId}(hb:nt){n:Nat}{rs:List jf}{a b:eS}{t:Nat}{g:FuncId}{caps:List dK}
 (_h:avU P hb f=a_ (n,rs,a,t,g,caps,b):=by conv=>lhs;reduce;simp only[Int.reduceOfNat,Int.reduceNegSucc,Fe,List.map,UInt8.reduceOfNat])
 (hc:KK P hb f=a_ ⟨n,rs,a.b7,t,g,caps,b.b7⟩:=by kernel_rfl) (nS:(a.fits n&&b.fits n&&sy t n)=bh:=by kernel_rfl) (hm:P.follows .mixedOrders=bh:=by kernel_rfl):lz P f:=⟨.sO n rs a t g caps b,⟨⟨hb,hc⟩,by
 rw[fQ,fQ] at nS;exact⟨nS.1.1,nS.1.2,arK (qM nS.2)⟩⟩,hm⟩
def avV(P:Program)(hb:nt)(f:FuncId):Option (Nat×Nat×Nat×eS):=match KM P hb f with
 |some ⟨n,d0,d1,c⟩=>a_ (n,d0,d1,(uQ 0 c 0 [] 0).1)
 |none=>bn
def lz.r{P:Program}{f:FuncId}(hb:nt){n d0 d1:Nat}{c:eS}
 (_h:avV P hb f=a_ (n,d0,d1,c):=by conv=>lhs;reduce;simp only[Int.reduceOfNat,Int.reduceNegSucc,Fe,List.map,UInt8.reduceOfNat])
 (hc:KM P hb f=a_ ⟨n,d0,d1,c.b7⟩:=by kernel_rfl) (nS:(c.fits n&&sy d0 n&&sy d1 n)=bh:=by kernel_rfl) (hm:P.follows .mixedOrders=bh:=by kernel_rfl):lz P f:=⟨.HM n d0 d1 c,⟨⟨hb,hc⟩,by
 rw[fQ,fQ] at nS;exact⟨nS.1.1,arK (qM nS.1.2),arK (qM nS.2)⟩⟩,hm⟩
def kX.bc:kX->eS
 |.sO _ _ _ _ _ _ b=>b
 |_=>.bad
def Xc(G:Cells)(P:Program)(args:List bg)(J:List br)(K:bg->List br->Prop)(E:sF)(e0:kX):kX->Prop
 |.plain n rs c=>args.length<=n/\@ey G P bf c ⟨@Kw rs ⟨K⟩ ⟨E⟩⟩ (pV 0 args) J
 |.loops n rs c=>args.length<=n/\@ey G P bf c ⟨@Tp J.length rs ⟨K⟩ ⟨E⟩⟩ (pV 0 args) J
 |.sO n rs a t g caps b=>(∀ch h,¬E ch h)/\args.length<=n/\@ey G P bf a ⟨@tj ⟨λe J=>∃ks:List Nat,nX e caps=a_ (ks.map λk=>.mp k 0)/\@ey G P bf e0.bc ⟨@aou G P g ks rs ⟨K⟩⟩ ((t,.fn (.func g) [] (ks.map λk=>.mp k 0))::e) J⟩ ⟨λ_ _ _=>False⟩⟩ (pV 0 args) J
 |_=>False
section
variable{G:Cells}{P:Program}{f:FuncId}{args:List bg}{J:List br}{K:bg->List br->Prop}{E:sF}
def ahz(k:lz P f)(h:Xc G P args J K E k.e k.e):iH G P f args J K E:=by
 obtain⟨e,ok,hm⟩:=k;cases e with
 |plain n rs c=>exact agY hm ok.1.choose_spec ok.2 h.1 h.2
 |loops n rs c=>exact agZ hm ok.1.choose_spec ok.2 h.1 h.2
 |sO n rs a t g caps b=>exact Fv (agX hm ok.1.choose_spec ok.2.1 ok.2.2.1 ok.2.2.2 h.2.1 h.2.2)
 |_=>exact h.elim
def lz.AT(k:lz P f){q:Prop}(h:q)(e:q->Xc G P args J K E k.e k.e:=by
 intro hh
 conv=>whnf
 first|exact⟨Nat.le_of_ble_eq_true rfl,hh⟩|exact⟨λ_ _ z=>z,Nat.le_of_ble_eq_true rfl,hh⟩):iH G P f args J K E:=ahz k (e h)
def lz.go(k:lz P f){q:Prop}(h:q)(e:q->Xc G P args J K (λ_ _=>False) k.e k.e:=by
 intro hh
 conv=>whnf
 first|exact⟨Nat.le_of_ble_eq_true rfl,hh⟩|exact⟨λ_ _ z=>z,Nat.le_of_ble_eq_true rfl,hh⟩):cw G P f args J K:=(ahz k (e h)).ok
def afW(G:Cells)(P:Program)(args:List bg)(J:List br)(x:Option bg)(K:List br->Prop):kX->Prop
 |.HM n d0 d1 c=>args.length<=n/\@ey G P bf c ⟨@aoy ⟨K⟩⟩ ((d1,qE x)::(d0,qE x)::pV 0 args) J
 |_=>False
def auK{x:Option bg}{v:Option Value}{K:List br->Prop}(k:lz P f)(I:match x,v with|none,bn=>True|some x,a_ v=>x_ x=bh/\rP x=a_ v|_,_=>False)(h:afW G P args J x K k.e):kW G P f args J v K:=by
 obtain⟨e,ok,hm⟩:=k;cases e with
 |HM n d0 d1 c=>exact afX hm ok.1.choose_spec ok.2.1 ok.2.2 h.1 I h.2
 |_=>exact h.elim
def lz.QJ{x:Option bg}{v:Option Value}{K:List br->Prop}(k:lz P f)(I:match x,v with|none,bn=>True|some x,a_ v=>x_ x=bh/\rP x=a_ v|_,_=>False){q:Prop}(h:q)(e:q->afW G P args J x K k.e:=by
 intro hh
 conv=>whnf
 exact⟨Nat.le_of_ble_eq_true rfl,hh⟩):kW G P f args J v K:=auK k I (e h)
end
def eS.tl:eS->eS
 |.seq _ b=>b
 |c=>c
def kX.c:kX->eS
 |.plain _ _ c|.loops _ _ c=>c
 |_=>.bad
inductive DC(P:Program) where
 |nil
 |node (l:DC P) (k:FuncId) (c:lz P k) (m:Nat) (r:DC P)
def DC.vp{P:Program}:DC P->qS
 |.nil=>.nil
 |.node l k c m r=>.node l.vp k c.e m r.vp
def DC.ok{P:Program}:∀t:DC P,t.vp.c6 P
 |.nil=>trivial
 |.node l _ c _ r=>⟨l.ok,c.ok,r.ok⟩
section
variable{x y:bg}{xs ys:List bg}
def b_(J:List br)(x y:bg):Prop:=∃n0,∀n,n0<=n->dh J n x=a_ y
def fC(J:List br)(xs ys:List bg):Prop:=∃n0,∀n,n0<=n->kz (dh J n) xs=a_ ys
section
variable{J:List br}
def b_.done(h:b_ J x y):∃n,dh J n x=a_ y:=by
 obtain⟨n,h⟩:=h;exact⟨n,h n (cc n)⟩
def b_.auQ(h:b_ J x y):∃n bR,dh J n x=a_ bR/\bR=y:=by
 obtain⟨n,h⟩:=h.done;exact⟨n,y,h,rfl⟩
def AR(h:∃n0,∀n,n0<=n->dh J (n+1) x=a_ y):b_ J x y:=by
 obtain⟨n0,h⟩:=h;refine⟨n0+1,λn hn=>?_⟩;obtain⟨m,rfl⟩:∃m,n=m+1:=⟨n-1,aa⟩;exact h m aa
def fC.nil:fC J [] []:=⟨0,λn _=>rfl⟩
def fC.cons{x y:bg}{xs ys:List bg}(h:b_ J x y)(k:fC J xs ys):fC J (x::xs) (y::ys):=by
 obtain⟨n0,h⟩:=h;obtain⟨n1,k⟩:=k;exact⟨n0+n1,λn hn=>by simp only[kz,h n aa,k n aa]⟩
def fC.append{xs' aqU:List bg}(h:fC J xs ys)(k:fC J xs' aqU):fC J (xs++xs') (ys++aqU):=by
 induction xs generalizing ys with
 |nil=>
  obtain⟨n0,h⟩:=h;have:=h n0 (cc _);cases this;exact k
 |cons x xs ih=>
  obtain⟨n0,h⟩:=h;have h0:=h n0 (cc _);simp only[kz] at h0;split at h0;rename_i y hy;split at h0
  · rename_i l hl
    cases h0;refine fC.cons ⟨n0,λn hn=>?_⟩ (ih ⟨n0,λn hn=>?_⟩)
    all_goals
     have Y:=h n hn;simp only[kz] at Y;split at Y;rename_i y' Ns;split at Y;rename_i l' hl';cases Y
     first|exact Ns|exact hl'
     cases Y;cases Y
  cases h0;cases h0
def fC.map{α:Type}{f:α->bg}:∀{l:List α},(∀a∈l,b_ J (f a) (f a))->fC J (l.map f) (l.map f)
 |[],_=>fC.nil
 |a::l,h=>fC.cons (h a af) (fC.map λb O=>h b aM0)
def fC.each{l:List bg}(h:∀a∈l,b_ J a a):fC J l l:=by
 have:=fC.map (J:=J) (f:=λa=>a) (l:=l) h;simpa using this
def b_.v(x:Value):b_ J (.v x) (.v x):=AR ⟨0,λn _=>rfl⟩
def b_.bp:b_ J .bp .bp:=AR ⟨0,λn _=>rfl⟩
def b_.agg{xs ys:List bg}(h:fC J xs ys):b_ J (.agg xs) (.agg ys):=by
 obtain⟨n0,h⟩:=h;exact AR ⟨n0,λn hn=>by show(kz (dh J n) xs).map dG=_;rw[h n hn];rfl⟩
def b_.bQ(h:fC J xs ys):b_ J (.bQ xs) (.bQ ys):=by
 obtain⟨n0,h⟩:=h;exact AR ⟨n0,λn hn=>by show(kz (dh J n) xs).map bg.bQ=_;rw[h n hn];rfl⟩
def b_.sl{xs ys:List bg}{t:nR}(h:fC J xs ys):b_ J (.sl xs t) (.sl ys .no):=by
 obtain⟨n0,h⟩:=h;exact AR ⟨n0,λn hn=>by show(kz (dh J n) xs).map (λys=>bg.sl ys .no)=_;rw[h n hn];rfl⟩
def b_.fp{o:Nat}(h:fC J xs ys):b_ J (.fp xs o) (.fp ys o):=by
 obtain⟨n0,h⟩:=h;exact AR ⟨n0,λn hn=>by show(kz (dh J n) xs).map (λys=>bg.fp ys o)=_;rw[h n hn];rfl⟩
def b_.eE{t:TypeId}(h:b_ J x y):b_ J (.eE t x) (.eE t y):=by
 obtain⟨n0,h⟩:=h;exact AR ⟨n0,λn hn=>by show(dh J n x).map (bg.eE t)=_;rw[h n hn];rfl⟩
def b_.mp{k o:Nat}{xs ys:List bg}(S:J[k]?=a_ (.cells xs bf))(h:fC J xs ys):b_ J (.mp k o) (.fp ys o):=by
 obtain⟨n0,h⟩:=h;exact AR ⟨n0,λn hn=>by simp only[dh,S,h n hn,kf]⟩
def b_.rs{k m sz o len:Nat}{xs ys:List bg}(S:J[k]?=a_ (.cells xs bh))(hm:m=xs.length)(h:fC J xs ys):b_ J (.rs k m sz o len) (.sl (sM sz ys o len) .no):=by
 obtain⟨n0,h⟩:=h;exact AR ⟨n0,λn hn=>aNt⟩
def b_.rp{k m o:Nat}{xs ys:List bg}(S:J[k]?=a_ (.cells xs bh))(hm:m=xs.length)(h:fC J xs ys):b_ J (.rp k m o) (.fp ys o):=by
 obtain⟨n0,h⟩:=h;exact AR ⟨n0,λn hn=>aNt⟩
end
def Gb{Z:List bg}{off:Nat}(h:∀c∈Z,Clean c):Clean (.fp Z off):=λC M J v D=>by
 cases D with
 |fp f hC hR=>exact .fp f hC λi c T=>h c (cv T) _ _ _ _ (hR i c T)
def I5:Nat->bg->Bool
 |0,_=>bf
 |n+1,x=>match x with
  |.v _=>bh
  |.bp=>bh
  |.agg Z=>Z.all (I5 n)
  |.bQ Z=>Z.all (I5 n)
  |.fp Z _=>Z.all (I5 n)
  |.sl xs .no=>xs.all λx=>x.cells.all (I5 n)
  |_=>bf
def Ge:∀{n:Nat} {x:bg},I5 n x=bh->Clean x
 |0,x,h=>aB
 |n+1,x,h=>by
  unfold I5 at h;split at h;exact dD _;exact nA;exact I4 λc T=>Ge (eJ.1 h c T);exact aua λc T=>Ge (eJ.1 h c T);exact Gb λc T=>Ge (eJ.1 h c T);exact k4 λx I c T=>Ge (eJ.1 (eJ.1 h x I) c T);cases h
end
def jZ{i:Nat}(h:i<4611686018427387904):cN.wrap ((i:Int)+1)=((i+1:Nat):Int):=by rw[fq aa aa];rfl
def aqL{i:Nat}(h:i<4611686018427387904):cN.wrap ((i:Int)+2)=((i+2:Nat):Int):=by rw[fq aa aa];rfl
def K0{i:Nat}(h:1<=i)(V:i<4611686018427387904):cN.wrap ((i:Int)-1)=((i-1:Nat):Int):=by rw[fq aa aa];omega
def aqM{i j:Nat}(h:i<4611686018427387904)(V:j<4611686018427387904):cN.wrap ((i:Int)+(j:Int))=((i+j:Nat):Int):=by rw[fq aa aa];rfl
def aqN{i j:Nat}(h:j<=i)(V:i<4611686018427387904):cN.wrap ((i:Int)-(j:Int))=((i-j:Nat):Int):=by rw[fq aa aa];omega
def lR{i n:Nat}(h:i<n):decide ((i:Int)<(n:Int))=bh:=ah
def q2{i n:Nat}(h:n<=i):decide ((i:Int)<(n:Int))=bf:=ah
def af7{i n:Nat}(h:i<=n):decide ((i:Int)<=(n:Int))=bh:=ah
def af6{i n:Nat}(h:n<i):decide ((i:Int)<=(n:Int))=bf:=ah
def VV{i n:Nat}(h:i=n):((i:Int)==(n:Int))=bh:=by simp[h]
def Qb{i n:Nat}(h:i≠n):((i:Int)==(n:Int))=bf:=ah
def aeS{i n:Nat}(h:i≠n):((i:Int) !=(n:Int))=bh:=ah
def aeR{i n:Nat}(h:i=n):((i:Int) !=(n:Int))=bf:=by simp[h]
def ab1(b:Bool):F2 .not (.v (.bool b))=a_ (.v (.bool !b)):=rfl
def QY(a b:bg):pU 0 (.bQ [a,b])=a_ a:=rfl
def QZ(a b:bg):pU 1 (.bQ [a,b])=a_ b:=rfl
def agy(a b c:bg):pU 0 (.bQ [a,b,c])=a_ a:=rfl
def agz(a b c:bg):pU 1 (.bQ [a,b,c])=a_ b:=rfl
def agA(a b c:bg):pU 2 (.bQ [a,b,c])=a_ c:=rfl
def xJ(x:bg)(J:List br):bz J bf 1 (.fp [x] 0)=a_ x:=rfl
def aay(Z:List bg)(o:Nat)(neg:Bool):kR .ptr neg (.fp Z o) (.v (.pointer bn))=a_ (.v (.bool neg)):=aMp
def aaz(k o:Nat)(neg:Bool):kR .ptr neg (.mp k o) (.v (.pointer bn))=a_ (.v (.bool neg)):=aMp
def an4(neg:Bool):kR .ptr neg (.v (.pointer bn)) (.v (.pointer bn))=a_ (.v (.bool !neg)):=aMp
def j9(n:Int):goInt n=.int .i64 n:=rfl
def rE:type_of% @cS.{0,0}/\type_of% @jZ/\type_of% @aqL/\type_of% @K0/\type_of% @aqM/\type_of% @aqN/\type_of% @lR/\type_of% @q2/\type_of% @af7/\type_of% @af6/\type_of% @VV/\type_of% @Qb/\type_of% @aeS/\type_of% @aeR/\type_of% @ab1/\
  type_of% @QY/\type_of% @QZ/\type_of% @agy/\type_of% @agz/\type_of% @agA/\type_of% @xJ/\type_of% @aay/\type_of% @aaz/\type_of% @an4/\type_of% @j9/\type_of% @zU/\type_of% @vv/\type_of% @Px/\type_of% @Pw:=
 ⟨@cS.{0,0},@jZ,@aqL,@K0,@aqM,@aqN,@lR,@q2,@af7,@af6,@VV,@Qb,@aeS,@aeR,@ab1,@QY,@QZ,@agy,@agz,@agA,@xJ,@aay,@aaz,@an4,@j9,@zU,@vv,@Px,@Pw⟩
def fJ{p q:Prop}(h:q)(e:q->p:=by intro hh;simp -failIfUnchanged -implicitDefEqProofs (disch:=first|assumption|decide|omega) only[jO,oM,oN,↓reduceIte,Nat.reduceEqDiff,Nat.reduceAdd,Nat.reduceLT,Nat.reduceLeDiff,rE,Int.reduceBEq,Int.reduceBNe];exact hh):p:=e h
def e6{p q a0:Prop}(x0:a0)(h:q)(e:a0->q->p:=by intro f0 hh;simp -failIfUnchanged -implicitDefEqProofs (disch:=first|assumption|decide|omega) only[jO,oM,oN,↓reduceIte,Nat.reduceEqDiff,Nat.reduceAdd,Nat.reduceLT,Nat.reduceLeDiff,rE,Int.reduceBEq,Int.reduceBNe,f0];exact hh):p:=e x0 h
def nc{p q a b:Prop}(x:a)(y:b)(h:q)(e:a/\b->q->p:=by intro f h;exact e6 f h):p:=e ⟨x,y⟩ h
def jB{p q a b c:Prop}(x:a)(y:b)(z:c)(h:q)(e:a/\b/\c->q->p:=by intro f h;exact e6 f h):p:=e ⟨x,y,z⟩ h
def mH{p q a b c d:Prop}(x:a)(y:b)(z:c)(u:d)(h:q)(e:a/\b/\c/\d->q->p:=by intro f h;exact e6 f h):p:=e ⟨x,y,z,u⟩ h
def qK{p q a b c d f:Prop}(x:a)(y:b)(z:c)(u:d)(v:f)(h:q)(e:a/\b/\c/\d/\f->q->p:=by intro f h;exact e6 f h):p:=e ⟨x,y,z,u,v⟩ h
def C_{p q a b c d f g:Prop}(x:a)(y:b)(z:c)(u:d)(v:f)(w:g)(h:q)(e:a/\b/\c/\d/\f/\g->q->p:=by intro f h;exact e6 f h):p:=e ⟨x,y,z,u,v,w⟩ h
def pH{p q a b c d f g i:Prop}(x:a)(y:b)(z:c)(u:d)(v:f)(w:g)(r:i)(h:q)(e:a/\b/\c/\d/\f/\g/\i->q->p:=by intro f h;exact e6 f h):p:=e ⟨x,y,z,u,v,w,r⟩ h
def O6{p q a b c d f g i j:Prop}(x:a)(y:b)(z:c)(u:d)(v:f)(w:g)(r:i)(s:j)(h:q)(e:a/\b/\c/\d/\f/\g/\i/\j->q->p:=by intro f h;exact e6 f h):p:=e ⟨x,y,z,u,v,w,r,s⟩ h
def wR{p q a b c d f g i j k:Prop}(x:a)(y:b)(z:c)(u:d)(v:f)(w:g)(r:i)(s:j)(t:k)(h:q)(e:a/\b/\c/\d/\f/\g/\i/\j/\k->q->p:=by intro f h;exact e6 f h):p:=e ⟨x,y,z,u,v,w,r,s,t⟩ h
section
variable{l:List UInt8}{i j:Nat}{α:Type}
def bu(l:List UInt8):bg:=.v (.string ⟨⟨l⟩⟩)
def VP(l:List UInt8):(⟨⟨l⟩⟩:ByteArray).toList=l:=af
def ata(l:List UInt8)(i:Nat):(⟨⟨l⟩⟩:ByteArray)[i]?=l[i]? :=by
 rcases er i l.length with h|h
 rw[cy h];exact getElem?_pos (⟨⟨l⟩⟩:ByteArray) i h;rw[j4 h];exact getElem?_neg (⟨⟨l⟩⟩:ByteArray) i (by show¬i<l.length;omega)
@[go_sem]def oZ(a b:List UInt8):dR .eql (bu a) (bu b)=a_ (.v (.bool (a==b))):=by
 simp only[bu,dR,KG,VP,kf]
@[go_sem]def zx(a b:List UInt8):dR .neq (bu a) (bu b)=a_ (.v (.bool !(a==b))):=by
 simp only[bu,dR,KG,VP,kf]
@[go_sem]def vM{a b:List UInt8}(h:a.length+b.length<=4611686018427387904):dR .add (bu a) (bu b)=a_ (bu (a++b)):=by
 have e:(⟨⟨a⟩⟩:ByteArray)++⟨⟨b⟩⟩=⟨⟨a++b⟩⟩:=by apply acr;simp
 have V:¬(((⟨⟨a⟩⟩:ByteArray).size+(⟨⟨b⟩⟩:ByteArray).size:Nat):Int)>cN.max:=by
  show¬((a.length+b.length:Nat):Int)>9223372036854775807;omega
 simp only[bu,dR,KG];rw[if_neg V,e];rfl
@[go_sem]def afn{c:UInt8}{k:IntKind}(h:l[i]?=a_ c):xq (bu l) (.v (.int k (i:Int)))=a_ (.v (.int .u8 (c.toNat:Int))):=by
 simp only[bu,xq];rw[if_pos aa,yw,ata,h];rfl
@[go_sem]def x4(l:List UInt8)(J:List br):r6 (bu l) J=a_ (.v (.int .i64 (l.length:Int)),J):=rfl
@[go_sem]def QH(h:i<=j)(V:j<=l.length)(J:List br):H7 (bu l) (a_ (.v (.int .i64 (i:Int)))) (a_ (.v (.int .i64 (j:Int)))) J=a_ (bu ((l.take j).drop i),J):=by
 have e:(⟨⟨l⟩⟩:ByteArray).extract i j=⟨⟨(l.take j).drop i⟩⟩:=by
  apply acr;simp[List.drop_take]
 have O:lO l.length l.length (a_ (i:Int)) (a_ (j:Int)) bn=a_ (i,j,l.length):=by
  simp only[lO,ki,BW,BM,kB,if_false];rw[if_pos ⟨aa,aa⟩];dsimp only;rw[if_pos ⟨aa,aa⟩];simp
 show FH (λr=>(r,J)) (mq 0 (.v (.string ⟨⟨l⟩⟩)) (a_ (.v (.int .i64 (i:Int)))) (a_ (.v (.int .i64 (j:Int)))) bn)=_;have rX:∀n:Int,oG (a_ (.v (.int .i64 n)))=a_ (a_ n):=λn=>rfl;have rY:oG bn=a_ bn:=rfl;unfold mq;rw[rX,rX,rY];dsimp only;rw[if_neg af,show(⟨⟨l⟩⟩:ByteArray).size=l.length from rfl,O];dsimp only;rw[e];rfl
@[go_sem]def Wm(h:i<=l.length)(J:List br):H7 (bu l) (a_ (.v (.int .i64 (i:Int)))) bn J=a_ (bu (l.drop i),J):=by
 have e:(⟨⟨l⟩⟩:ByteArray).extract i l.length=⟨⟨l.drop i⟩⟩:=by
  apply acr;simp;rw[oe af]
 have O:lO l.length l.length (a_ (i:Int)) bn bn=a_ (i,l.length,l.length):=by
  simp only[lO,ki,BW,BM,kB,if_false];rw[if_pos ⟨aa,aa⟩];simp
 show FH (λr=>(r,J)) (mq 0 (.v (.string ⟨⟨l⟩⟩)) (a_ (.v (.int .i64 (i:Int)))) bn bn)=_;have rX:∀n:Int,oG (a_ (.v (.int .i64 n)))=a_ (a_ n):=λn=>rfl;have rY:oG bn=a_ bn:=rfl;unfold mq;rw[rX,rY];dsimp only;rw[if_neg af,show(⟨⟨l⟩⟩:ByteArray).size=l.length from rfl,O];dsimp only;rw[e];rfl
@[go_sem]def QG(h:j<=l.length)(J:List br):H7 (bu l) bn (a_ (.v (.int .i64 (j:Int)))) J=a_ (bu (l.take j),J):=by
 have e:(⟨⟨l⟩⟩:ByteArray).extract 0 j=⟨⟨l.take j⟩⟩:=by
  apply acr;simp
 have O:lO l.length l.length bn (a_ (j:Int)) bn=a_ (0,j,l.length):=by
  simp only[lO,ki,BW,BM,kB,if_false];rw[if_pos ⟨aa,aa⟩];simp
 show FH (λr=>(r,J)) (mq 0 (.v (.string ⟨⟨l⟩⟩)) bn (a_ (.v (.int .i64 (j:Int)))) bn)=_;have rX:∀n:Int,oG (a_ (.v (.int .i64 n)))=a_ (a_ n):=λn=>rfl;have rY:oG bn=a_ bn:=rfl;unfold mq;rw[rX,rY];dsimp only;rw[if_neg af,show(⟨⟨l⟩⟩:ByteArray).size=l.length from rfl,O];dsimp only;rw[e];rfl
def aHY(len l h m:Nat):C5 .no len l h m bf=.no:=by
 unfold C5;rw[if_neg af];split;split<;>rfl;rfl
section
variable{xs:List bg}{n:Nat}
@[go_sem]def abg{lo Q:Option bg}{l' h':Option Int}(Y:oG lo=a_ l')(V:oG Q=a_ h')(O:lO xs.length xs.length l' h' bn=a_ (i,j,xs.length))(ho:∀x∈xs,x.cells.length=n)(J:List br):
  rz n (.sl xs .no) lo Q bn J=a_ (.sl ((xs.take j).drop i) .no,J):=by
 have lC:(xs.all λx=>x.cells.length==n)=bh:=by
  rw[eJ];intro x I;simpa using ho x I
 show FH (λr=>(r,J)) (mq n (.sl xs .no) lo Q bn)=_;have rY:oG bn=a_ bn:=rfl;unfold mq;rw[Y,V,rY];dsimp only;rw[O];dsimp only;rw[if_pos lC,show(bn:Option Int).isSome=bf from rfl,aHY];rfl
@[go_sem]def api(h:j<=xs.length)(ho:∀x∈xs,x.cells.length=n)(J:List br):rz n (.sl xs .no) bn (a_ (.v (.int .i64 (j:Int)))) bn J=a_ (.sl (xs.take j) .no,J):=by
 have O:lO xs.length xs.length bn (a_ (j:Int)) bn=a_ (0,j,xs.length):=by
  simp only[lO,ki,BW,BM,kB,if_false];rw[if_pos ⟨aa,aa⟩];simp
 exact abg rfl rfl O ho J
@[go_sem]def TG(h:i<=xs.length)(ho:∀x∈xs,x.cells.length=n)(J:List br):rz n (.sl xs .no) (a_ (.v (.int .i64 (i:Int)))) bn bn J=a_ (.sl (xs.drop i) .no,J):=by
 have O:lO xs.length xs.length (a_ (i:Int)) bn bn=a_ (i,xs.length,xs.length):=by
  simp only[lO,ki,BW,BM,kB,if_false];rw[if_pos ⟨aa,aa⟩];simp
 have:=abg (xs:=xs) (n:=n) (lo:=a_ (.v (.int .i64 (i:Int)))) (Q:=bn) rfl rfl O ho J;rw[od] at this;exact this
end
def TZ{l:List (List UInt8)}:∀x∈l.map bu,x.cells.length=1:=λx I=>by
 obtain⟨a,_,rfl⟩:=dV.1 I;rfl
def Gn{α:Type}(p:α->Bool)(l:List α):Int:=if l.any p then(l.findIdx p:Int) else -1
def avt{p:α->Bool}{l:List α}{a:α}(h:l[i]?=a_ a)(J:p a=bh)(hI:∀j b,j<i->l[j]?=a_ b->p b=bf):Gn p l=(i:Int):=by
 have Q:=(cK.1 h).1;have ha:l.any p=bh:=Ir.2 ⟨a,cv h,J⟩;unfold Gn;rw[if_pos ha,(List.findIdx_eq Q).2 ⟨?_,λj hj=>?_⟩];rw[cy Q] at h;cases h;exact J;exact hI j _ hj (cy aa)
def avu{p:α->Bool}{l:List α}(hI:∀j b,j<l.length->l[j]?=a_ b->p b=bf):Gn p l= -1:=by
 have ha:l.any p=bf:=by
  rw[List.any_eq_false];intro a ha;obtain⟨j,hj,rfl⟩:=FC ha;simp[hI j _ hj (cy hj)]
 unfold Gn;rw[ha];rfl
def avv(p:α->Bool)(l:List α):decide (0<=Gn p l)=l.any p:=by
 unfold Gn;cases l.any p<;>simp
end
instance:Coe Int bg:=⟨λn=>.v (.int .i64 n)⟩
instance:Coe Nat bg:=⟨λn=>.v (.int .i64 (n:Int))⟩
instance:Coe Bool bg:=⟨λb=>.v (.bool b)⟩
end Go.bM

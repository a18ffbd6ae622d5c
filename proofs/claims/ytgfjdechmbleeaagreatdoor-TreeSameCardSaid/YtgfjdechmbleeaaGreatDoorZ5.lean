/- Part 5 of a proof. No condition. -/
import Derived.Test.YtgfjdechmbleeaaGreatDoorZ4
import Derived.Sort.Grow
import Derived.Deep.Draws
import Derived.Shelf.Vars
import Derived.Lib.SplitLaws
import Derived.Lib.IndexBytes
import Derived.Lib.ItoaNum
set_option linter.unusedVariables false
set_option linter.unusedSimpArgs false
set_option linter.defProp false
open Bool renaming and_eq_true->fA,eq_iff_iff->GQ,false->bf,false_and->Ci,false_eq_true->kz,not_false->uC,not_true->yV,rec->El,true->bh
open ByteArray renaming ext->aad
open Go.bP.bg renaming agg->dD,cells->jy,one->cr,v->cU
open Go.bP.br renaming cells->bw,cc->pe
open Go.bP.cy renaming mono->cm,pure->gO,aD0->Em
open Go.bP.hO renaming mono->gE
open Go.bP.jK renaming mono->vK
open Go.bP.vY renaming mono->aaf
open Go.bP.fT renaming refl->su
open Go.bP.rG renaming HH->SD
open Go.DataW renaming trod->SF
open Go.IntKind renaming bits->JI,i64->dy,max->aol,min->aom,signed->JJ,u64->GS
open Go.Value renaming cells->AO,okWide->NF
open Go.World renaming cell?->Es
open Int renaming eq_ofNat_of_zero_le->oI,ofNat_eq_natCast->AQ,toNat_natCast->xu
open List renaming all_cons->oJ,all_eq_true->eO,any_eq_true->GX,append_nil->hJ,cons_append->k6,count_cons->aoB,drop_succ_cons->AT,drop_zero->pg,eq_nil_of_length_eq_zero->nF,ext_getElem?->Et,getElem?_append_right->fF,getElem?_cons_succ->y4,getElem?_cons_zero->n4,getElem?_eq_getElem->cx,getElem?_eq_none->jJ,getElem?_eq_some_iff->cJ,getElem?_map->fL,getElem?_range->aFi,getElem?_reverse->aaF,getElem?_set_ne->bC,getElem?_set_self->bV,getElem_of_mem->Eu,length->JO,length_append->en,length_cons->eV,length_map->dj,length_pos_iff->NL,length_set->vP,length_singleton->p8,map_append->gQ,map_cons->fM,map_set->xw,mem_cons->fB,mem_cons_of_mem->uD,mem_cons_self->AV,mem_map->dZ,mem_of_getElem?->cE,mem_of_mem_drop->vQ,nil_append->gV,range->kR,rec->y7,replicate->e3,reverse_reverse->aoL,take_length->sy,take_of_length_le->n6,take_succ_cons->AW,take_zero->tA
open Nat renaming add_zero->uE,beq->eI,beq_eq->vR,ble->vS,blt->q_,eq_of_beq_eq_true->sA,le_of_ble_eq_true->p9,le_refl->ck,lor->NN,lt_of_succ_le->aoU,lt_or_ge->d_,lt_succ_self->AX,rec->JS,sub_self->lM,zero_add->gF,zero_le->jR
open Option renaming bind_assoc->AZ,bind_eq_some_iff->gu,bind_some->l7,filter->SZ,isSome_none->A2,map->G0,map_eq_some_iff->dm,map_some->jS,none->bn,some->a_
open Option.some renaming injEq->mJ
open Or renaming inl->bD,inr->bF
open Prod.mk renaming injEq->xx
open UInt8 renaming ofNat->uG,toNat->aaP
namespace Go.bP
open Go.RowKit
section
variable{α:Type}{f:br->(br->Option bg)->Option bg}{a:eG}{b id n off:Nat}{o:rA}{k:bg->Option bg}{e:dh}{i p x:bg}{H:List br}{g:br->Option br}{y:br}{bM:Bool}{Z:List bg}{op:BinOp}{L:List Nat}
section
variable{β:Type}
noncomputable def lf(n:Nat)(k:Nat->β):β:=@JS (λ_=>β) (k Nat.zero) (λm _=>k (Nat.succ m)) n
def uY(n:Nat)(k:Nat->β):lf n k=k n:=by cases n<;>rfl
noncomputable def Pt(i:Int)(k:Int->β):β:=@Int.rec (λ_=>β) (λn=>lf n λn=>k (.ofNat n)) (λn=>lf n λn=>k (.negSucc n)) i
def aeM(i:Int)(k:Int->β):Pt i k=k i:=by
 cases i with
 |ofNat n=>exact uY n λn=>k (.ofNat n)
 |negSucc n=>exact uY n λn=>k (.negSucc n)
noncomputable def C7(b:Bool)(k:Bool->β):β:=@El (λ_=>β) (k bf) (k bh) b
def aeL(b)(k:Bool->β):C7 b k=k b:=by cases b<;>rfl
noncomputable def wG{α:Type}(f:α->(α->β)->β)(l:List α):(List α->β)->β:=@y7 α (λ_=>(List α->β)->β) (λk=>k []) (λx _ ih k=>f x λx=>ih λr=>k (x::r)) l
def Fc{f}(hf:∀x k,f x k=k x):∀(l) (k:List α->β),wG f l k=k l
 |[],k=>rfl
 |x::r,k=>(hf x _).trans (Fc hf r _)
noncomputable def U4(s:ByteArray)(k:ByteArray->β):β:=match s with
 |⟨⟨l⟩⟩=>wG (λx k=>k x) l λl=>k ⟨⟨l⟩⟩
def asq(s)(k:ByteArray->β):U4 s k=k s:=by
 cases s with
 |mk a=>cases a with
  |mk l=>simp only[U4];rw[Fc λ_ _=>rfl]
noncomputable def Pu(v:Value)(k:Value->β):β:=match v with
 |.int kd i=>Pt i λi=>k (.int kd i)
 |.bool b=>C7 b λb=>k (.bool b)
 |.string s=>U4 s λs=>k (.string s)
 |v=>k v
def aeN(v)(k:Value->β):Pu v k=k v:=by
 cases v<;>simp only[Pu,aeM,aeL,asq]
noncomputable def U5(t:n_)(k:n_->β):β:=match t with
 |.exact=>k .exact
 |.no=>k .no
 |.tok id=>lf id λid=>k (.tok id)
def asr(t)(k:n_->β):U5 t k=k t:=by cases t<;>simp only[U5,uY]
noncomputable def qL:Nat->bg->(bg->β)->β
 |0,v,k=>k v
 |n+1,v,k=>match v with
  |.v x=>Pu x λx=>k (.v x)
  |.agg Z=>wG (qL n) Z λZ=>k (.agg Z)
  |.bQ Z=>wG (qL n) Z λZ=>k (.bQ Z)
  |.bp=>k .bp
  |.sl xs t=>wG (qL n) xs λxs=>U5 t λt=>k (.sl xs t)
  |.fp Z off=>wG (qL n) Z λZ=>lf off λoff=>k (.fp Z off)
  |.mp b off=>lf b λb=>lf off λoff=>k (.mp b off)
  |.rp b m off=>lf b λb=>lf m λm=>lf off λoff=>k (.rp b m off)
  |.rs b m sz off len=>lf b λb=>lf m λm=>lf off λoff=>lf len λlen=>k (.rs b m sz off len)
  |.gm b=>lf b λb=>k (.gm b)
  |.fn f a b=>wG (qL n) a λa=>wG (qL n) b λb=>k (.fn f a b)
  |.ep t x=>qL n x λx=>k (.ep t x)
  |.fR b=>lf b λb=>k (.fR b)
  |.iV b=>lf b λb=>k (.iV b)
  |.h_ b t=>lf b λb=>k (.h_ b t)
  |.fV ch=>k (.fV ch)
  |.fx a b o=>k (.fx a b o)
def zN:∀(n:Nat) (v:bg) (k:bg->β),qL n v k=k v
 |0,v,k=>rfl
 |n+1,v,k=>by
  cases v<;>simp only[qL,aeN,asr,uY,Fc (zN n),zN n]
noncomputable def KI(t:Nat)(e:dh)(k:bg->β)(d:β):β:=@y7 (Nat×bg) (λ_=>β) d (λp _ ih=>@El (λ_=>β) ih (k p.2) (eI p.1 t)) e
def UB(t:Nat)(k)(d:β):∀(e:dh),KI t e k d=match gC e t with|some v=>k v|none=>d
 |[]=>rfl
 |(j,v)::r=>by
  simp only[gC];by_cases h:j=t;subst h;rw[if_pos rfl];show@El (λ_=>β) _ (k v) (eI j j)=_;rw[show eI j j=bh from Nat.beq_refl j];have O:eI j t=bf:=by cases O:eI j t with
   |false=>rfl
   |true=>exact(h (sA O)).elim
  rw[if_neg h,<-(UB t k d r)];show@El (λ_=>β) (KI t r k d) (k v) (eI j t)=_;rw[O]
noncomputable def uk(L:List Nat):dh->(dh->β)->β:=@y7 Nat (λ_=>dh->(dh->β)->β) (λe k=>k []) (λj _ ih e k=>KI j e (λv=>ih e λr=>k ((j,v)::r)) (ih e k)) L
def w4:∀(L) (e:dh) (k:dh->β),uk L e k=k (mm L e)
 |[],e,k=>rfl
 |j::L,e,k=>by
  show KI j e (λv=>uk L e λr=>k ((j,v)::r)) (uk L e k)=_;rw[UB];simp only[mm];cases gC e j with
  |none=>simp only[C0,w4 L e]
  |some v=>simp only[C0,w4 L e]
end
def KL:Value->Value->Bool
 |.int k a,.int k' b=>decide (k=k')&&decide (a=b)
 |.bool a,.bool b=>a==b
 |.string a,.string b=>decide (a.data.toList=b.data.toList)
 |.pointer bn,.pointer bn=>bh
 |.nilFunc,.nilFunc=>bh
 |.nilIface,.nilIface=>bh
 |.map bn,.map bn=>bh
 |_,_=>bf
def ad3:∀{a b},KL a b=bh->a=b:=by
 intro a b h;unfold KL at h;split at h;simp only[fA,decide_eq_true_eq] at h;rw[h.1,h.2];rw[eq_of_beq h];simp only[decide_eq_true_eq] at h;rename_i a b;cases a with
 |mk a=>cases a with
  |mk a=>cases b with
   |mk b=>cases b with
    |mk b=>dsimp only at h;rw[h]
 all_goals first|rfl|cases h
def wD{α:Type}(f:α->α->Bool):List α->List α->Bool
 |[],[]=>bh
 |a::r,b::s=>f a b&&wD f r s
 |_,_=>bf
def O3{f}(hf:∀{a b},f a b=bh->a=b):∀{l m:List α},wD f l m=bh->l=m
 |[],[],_=>rfl
 |a::r,b::s,h=>by
  simp only[wD,fA] at h;rw[hf h.1,O3 hf h.2]
 |[],_::_,h=>aF
 |_::_,[],h=>aF
def UN:n_->n_->Bool
 |.exact,.exact=>bh
 |.no,.no=>bh
 |.tok a,.tok b=>a==b
 |_,_=>bf
def arW{a b}(h:UN a b=bh):a=b:=by
 cases a<;>cases b<;>first|rfl|(cases h;done)|(simp only[UN,beq_iff_eq] at h;rw[h])
def UF:Fn->Fn->Bool
 |.func a,.func b=>a==b
 |_,_=>bf
def arS{a b:Fn}(h:UF a b=bh):a=b:=by
 unfold UF at h;split at h;rw[eq_of_beq h];cases h
def pK:Nat->bg->bg->Bool
 |0,_,_=>bf
 |n+1,a,b=>match a,b with
  |.v x,.v y=>KL x y
  |.agg x,.agg y=>wD (pK n) x y
  |.bQ x,.bQ y=>wD (pK n) x y
  |.bp,.bp=>bh
  |.sl x t,.sl y u=>wD (pK n) x y&&UN t u
  |.fp x i,.fp y j=>wD (pK n) x y&&i==j
  |.mp k i,.mp l j=>k==l&&i==j
  |.rp k m i,.rp l m' j=>k==l&&m==m'&&i==j
  |.rs k m s i n,.rs l m' s' j n'=>k==l&&m==m'&&s==s'&&i==j&&n==n'
  |.gm k,.gm l=>k==l
  |.fn f x y,.fn g u v=>UF f g&&wD (pK n) x u&&wD (pK n) y v
  |.ep t x,.ep u y=>t==u&&pK n x y
  |.fR k,.fR l=>k==l
  |.iV k,.iV l=>k==l
  |.h_ k t,.h_ l u=>k==l&&t.1==u.1&&t.2==u.2
  |_,_=>bf
def zG:∀{n:Nat} {a b:bg},pK n a b=bh->a=b
 |0,a,b,h=>aF
 |n+1,a,b,h=>by
  have ih:∀{l m},wD (pK n) l m=bh->l=m:=λq=>O3 (λr=>zG r) q;unfold pK at h;split at h
  all_goals try simp only[fA,beq_iff_eq] at h
  rw[ad3 h];rw[ih h];rw[ih h];rfl;rw[ih h.1,arW h.2];rw[ih h.1,h.2];rw[h.1,h.2];rw[h.1.1,h.1.2,h.2];rw[h.1.1.1.1,h.1.1.1.2,h.1.1.2,h.1.2,h.2];rw[h];rw[arS h.1.1,ih h.1.2,ih h.2];rw[h.1,zG h.2];rw[h];rw[h];rename_i k t l u;obtain⟨t1,t2⟩:=t;obtain⟨u1,u2⟩:=u;dsimp only at h;rw[h.1.1,h.1.2,h.2];cases h
noncomputable def AD(o:Option bg)(k:bg->Option bg):Option bg:=match o with
 |some v=>qL 64 v k
 |none=>bn
def D3{o}:AD o k=o.bind k:=by cases o<;>simp[AD,zN]
noncomputable def RZ(o:Option Value)(k:bg->Option bg):Option bg:=match o with
 |some v=>Pu v λv=>k (.v v)
 |none=>bn
def amL{o}:RZ o k=o.bind λv=>k (.v v):=by cases o<;>simp[RZ,aeN]
noncomputable def HI(t:Nat)(e:dh)(k:bg->Option bg):Option bg:=KI t e k bn
def O2{t:Nat}:HI t e k=(gC e t).bind k:=by
 unfold HI;rw[UB];cases gC e t<;>rfl
noncomputable def nP(x:dr)(e:dh)(k:bg->Option bg):Option bg:=@dr.rec (λ_=>Option bg) (λt=>HI t e k) (λv=>k v) x
def rL{x:dr}:nP x e k=(ec e x).bind k:=by
 cases x with
 |t t=>exact O2
 |c v=>rfl
noncomputable def Gd{α:Type}(l:List α):Nat->(α->Option bg)->Option bg:=@y7 α (λ_=>Nat->(α->Option bg)->Option bg) (λ_ _=>bn) (λx _ ih n k=>@JS (λ_=>Option bg) (k x) (λm _=>ih m k) n) l
def IX:∀{l:List α} {n:Nat} {k},Gd l n k=(l[n]?).bind k
 |[],n,k=>by simp[Gd]
 |x::r,0,k=>rfl
 |x::r,n+1,k=>by
  rw[y4];exact IX (n:=n)
structure hU where
 n:Nat
 l:List br
def R(H:List br):hU:=⟨H.length,H.reverse⟩
def Ea(h:hU):List br:=h.l.reverse
def GH(H):Ea (R H)=H:=aoL H
noncomputable def yx(h:hU)(b:Nat)(k:br->Option bg):Option bg:=match q_ b h.n with
 |true=>Gd h.l (h.n-1-b) k
 |false=>bn
def acB{a:Nat}(h:a<b):q_ a b=bh:=Nat.ble_eq_true_of_le h
def acA{a:Nat}(h:¬a<b):q_ a b=bf:=by
 cases O:q_ a b with
 |false=>rfl
 |true=>exact(h (p9 O)).elim
def BQ{k}:yx (R H) b k=(H[b]?).bind k:=by
 unfold yx R;dsimp only;by_cases h:b<H.length;rw[acB h];dsimp only;rw[IX,aaF aa,show H.length-1-(H.length-1-b)=b by omega];rw[acA h,jJ aa];rfl
noncomputable def ZV(l:List br):Nat->(br->(br->Option bg)->Option bg)->(List br->Option bg)->Option bg:=@y7 br (λ_=>Nat->(br->(br->Option bg)->Option bg)->(List br->Option bg)->Option bg) (λ_ _ _=>bn)
 (λb r ih n f k=>@JS (λ_=>Option bg) (f b λb=>k (b::r)) (λm _=>ih m f λr=>k (b::r)) n) l
def anN(hf:∀b k,f b k=(g b).bind k):∀{h} {n:Nat} {k},ZV h n f k=(h[n]?).bind λb=>(g b).bind λb'=>k (h.set n b')
 |[],n,k=>by simp[ZV]
 |b::r,0,k=>hf b _
 |b::r,n+1,k=>by
  rw[y4];exact anN hf (n:=n)
def aCC(h:b<H.length):H.reverse.set (H.length-1-b) y=(H.set b y).reverse:=by
 apply Et;intro i
 rcases d_ i H.length with q|q
 rw[aaF an,vP];by_cases e:H.length-1-b=i;rw[<-e,bV ah,show H.length-1-(H.length-1-b)=b by omega,bV h];rw[bC e,aaF q,bC aa];rw[jJ an,jJ an]
noncomputable def yN(h:hU)(b:Nat)(f:br->(br->Option bg)->Option bg)(k:hU->Option bg):Option bg:=match q_ b h.n with
 |true=>ZV h.l (h.n-1-b) f λl=>k ⟨h.n,l⟩
 |false=>bn
def ZU(hf:∀b k,f b k=(g b).bind k){k}:yN (R H) b f k=(H[b]?).bind λx=>(g x).bind λy=>k (R (H.set b y)):=by
 unfold yN R;dsimp only;by_cases h:b<H.length;rw[acB h];dsimp only;rw[anN hf,aaF aa,show H.length-1-(H.length-1-b)=b by omega];simp only[aCC h,vP];rw[acA h,jJ aa];rfl
def Jy{k}:yN (R H) b (λ_ k=>k y) k=(H[b]?).bind λ_=>k (R (H.set b y)):=
 (ZU (g:=λ_=>a_ y) λ_ _=>rfl).trans rfl
noncomputable def D0(h:hU)(b:br)(k:hU->Option bg):Option bg:=lf (h.n+1) λn=>k ⟨n,b::h.l⟩
def Rx{b:br}{k}:D0 (R H) b k=k (R (H++[b])):=by
 simp only[D0,uY,R,en,p8,List.reverse_append,List.reverse_singleton,List.singleton_append]
noncomputable def Pw(H:List br)(k:hU->Option bg):Option bg:=wG (λx k=>k x) H.reverse λl=>lf H.length λn=>k ⟨n,l⟩
def aeR{k}:Pw H k=k (R H):=by
 simp only[Pw,uY];rw[Fc λ_ _=>rfl];rfl
noncomputable def I7(bM:Bool):Nat->List bg->Nat->(bg->Option bg)->Option bg:=match bM with
 |false=>λ_ Z off k=>Gd Z off k
 |true=>λn Z off k=>match eZ bh n Z off with
  |some (.agg l)=>wG (λx k=>k x) l λl=>k (.agg l)
  |some v=>k v
  |none=>bn
def Yv:I7 bM n Z off k=(eZ bM n Z off).bind k:=by
 cases bM with
 |false=>simp only[I7,IX,eZ,kz,if_false]
 |true=>
  simp only[I7];cases h:eZ bh n Z off with
  |none=>rfl
  |some v=>cases v<;>simp only[l7]<;>rw[Fc λ_ _=>rfl]
noncomputable def F8:bg->Bool->Nat->hU->(bg->Option bg)->Option bg
 |.mp b off=>λbM n h k=>yx h b λblk=>match blk with
  |.cells Z r=>match r with
   |false=>I7 bM n Z off k
   |true=>bn
  |_=>bn
 |.fp Z off=>λbM n _ k=>I7 bM n Z off k
 |.rp b m off=>λbM n h k=>yx h b λblk=>match blk with
  |.cells Z r=>match r with
   |true=>match eI m Z.length with
    |true=>I7 bM n Z off k
    |false=>bn
   |false=>bn
  |_=>bn
 |p=>λbM n h k=>AD (bA (Ea h) bM n p) k
def ajY:F8 p bM n (R H) k=(bA H bM n p).bind k:=by
 cases p with
 |mp b off=>
  simp only[F8,BQ,bA];cases H[b]? with
  |none=>rfl
  |some blk=>cases blk with
   |cells Z r=>cases r<;>simp[Yv]
   |_=>rfl
 |rp b m off=>
  simp only[F8,BQ,bA];cases H[b]? with
  |none=>rfl
  |some blk=>cases blk with
   |cells Z r=>cases r with
    |false=>rfl
    |true=>
     simp only[l7];by_cases hl:m=Z.length;rw[if_pos hl,show eI m Z.length=bh by rw[vR];exact hl];exact Yv;rw[if_neg hl,show eI m Z.length=bf from(by cases O:eI m Z.length with
     |false=>rfl
     |true=>exact(hl (sA O)).elim)];rfl
   |_=>rfl
 |fp Z off=>simp only[F8,Yv,bA]
 |_=>(simp only[F8,D3,GH])
noncomputable def Ku:bg->(List bg->Option bg)->Option bg
 |.agg Z=>λk=>k Z
 |x=>λk=>k [x]
def OC{k}:Ku x k=k x.cells:=by cases x<;>rfl
noncomputable def DY(Z:List bg):List bg->(List bg->Option bg)->Option bg:=@y7 bg (λ_=>List bg->(List bg->Option bg)->Option bg)
 (λvs k=>@y7 bg (λ_=>Option bg) (k []) (λ_ _ _=>bn) vs) (λc r ih vs k=>@y7 bg (λ_=>Option bg) (k (c::r)) (λv vs _=>ih vs λr=>k (v::r)) vs) Z
def Ym:∀{Z vs} {k},DY Z vs k=if vs.length<=Z.length then k (vs++Z.drop vs.length) else bn
 |[],[],k=>by simp[DY]
 |c::r,[],k=>by simp[DY]
 |[],v::vs,k=>by simp[DY]
 |c::r,v::vs,k=>by
  have:=Ym (Z:=r) (vs:=vs) (k:=λr=>k (v::r));simp only[eV,AT,k6,Nat.add_le_add_iff_right];exact this
noncomputable def ML(Z:List bg):Nat->List bg->(List bg->Option bg)->Option bg:=@y7 bg (λ_=>Nat->List bg->(List bg->Option bg)->Option bg)
 (λoff vs k=>@JS (λ_=>Option bg) (DY [] vs k) (λ_ _=>bn) off) (λc r ih off vs k=>@JS (λ_=>Option bg) (DY (c::r) vs k) (λm _=>ih m vs λr=>k (c::r)) off) Z
def YF:∀{Z} {off:Nat} {vs} {k},ML Z off vs k=if off+vs.length<=Z.length then k (dN Z off vs) else bn
 |[],0,vs,k=>by
  show DY [] vs k=_;simp[Ym,dN]
 |[],off+1,vs,k=>by simp[ML]
 |c::r,0,vs,k=>by
  show DY (c::r) vs k=_;simp only[Ym,dN,tA,gV,gF]
 |c::r,off+1,vs,k=>by
  have:=YF (Z:=r) (off:=off) (vs:=vs) (k:=λr=>k (c::r));show ML r off vs (λr=>k (c::r))=_;rw[this];simp only[dN,eV,AW,k6];have e1:off+1+vs.length=(off+vs.length)+1:=aa
  rw[e1,AT];by_cases h:off+vs.length<=r.length;rw[if_pos h,if_pos aa];rw[if_neg h,if_neg aa]
noncomputable def M8:bg->Nat->bg->hU->(hU->Option bg)->Option bg
 |.mp b off=>λn x h k=>Ku x λvs=>match eI vs.length n&&vs.all cr with
  |true=>yN h b (λblk k=>match blk with
   |.cells Z r=>match r with
    |false=>ML Z off vs λZ=>k (.cells Z bf)
    |true=>bn
   |_=>bn) k
  |false=>bn
 |.rp b m off=>λn x h k=>Ku x λvs=>match eI vs.length n&&vs.all cr with
  |true=>yN h b (λblk k=>match blk with
   |.cells Z r=>match r with
    |true=>match eI m Z.length with
     |true=>ML Z off vs λZ=>k (.cells Z bh)
     |false=>bn
    |false=>bn
   |_=>bn) k
  |false=>bn
 |p=>λn x h k=>match bL (Ea h) n p x with
  |some H=>Pw H k
  |none=>bn
def ana{row}{k:hU->Option bg}:(match eI x.cells.length n&&x.cells.all cr with
  |true=>((if off+x.cells.length<=Z.length then a_ (bw (dN Z off x.cells) row) else bn).bind λy=>k (R (H.set b y)))
  |false=>bn)=(e5 H b row Z n off x).bind λH=>k (R H):=by
 unfold e5;by_cases T:x.cells.length=n/\off+n<=Z.length/\x.cells.all cr=bh;rw[if_pos T];obtain⟨c1,c2,c3⟩:=T;have aqA:eI x.cells.length n=bh:=by rw[vR];exact c1
 rw[aqA,c3,if_pos (show off+x.cells.length<=Z.length by omega)];rfl;rw[if_neg T];cases hq:(eI x.cells.length n&&x.cells.all cr) with
 |false=>rfl
 |true=>
  simp only[fA,vR] at hq;rw[if_neg (λq=>T ⟨hq.1,aa,hq.2⟩)];rfl
def aDq{k}:M8 p n x (R H) k=(bL H n p x).bind λH=>k (R H):=by
 cases p with
 |mp b off=>
  simp only[M8,OC];rw[ZU (g:=λblk=>match blk with
   |.cells Z bf=>if off+x.cells.length<=Z.length then a_ (.cells (dN Z off x.cells) bf) else bn
   |_=>bn) (λblk k=>by
    cases blk with
    |cells Z r=>cases r with
     |false=>simp only[YF];split<;>rfl
     |true=>rfl
    |_=>rfl)]
  simp only[bL];cases O:H[b]? with
  |none=>cases(eI x.cells.length n&&x.cells.all cr)<;>rfl
  |some blk=>cases blk with
   |cells Z r=>cases r with
    |false=>exact ana
    |true=>cases(eI x.cells.length n&&x.cells.all cr)<;>rfl
   |_=>cases(eI x.cells.length n&&x.cells.all cr)<;>rfl
 |rp b m off=>
  simp only[M8,OC];rw[ZU (g:=λblk=>match blk with
   |.cells Z bh=>if m=Z.length then(if off+x.cells.length<=Z.length then a_ (.cells (dN Z off x.cells) bh) else bn) else bn
   |_=>bn) (λblk k=>by
    cases blk with
    |cells Z r=>cases r with
     |true=>
      by_cases hl:m=Z.length;simp only[if_pos hl,show eI m Z.length=bh by rw[vR];exact hl,YF];split<;>rfl;simp only[if_neg hl,show eI m Z.length=bf from(by cases O:eI m Z.length with
      |false=>rfl
      |true=>exact(hl (sA O)).elim)];rfl
     |false=>rfl
    |_=>rfl)]
  simp only[bL];cases O:H[b]? with
  |none=>cases(eI x.cells.length n&&x.cells.all cr)<;>rfl
  |some blk=>cases blk with
   |cells Z r=>cases r with
    |true=>
     by_cases hl:m=Z.length;simp only[if_pos hl,l7];exact ana;simp only[if_neg hl,l7];cases(eI x.cells.length n&&x.cells.all cr)<;>rfl
    |false=>cases(eI x.cells.length n&&x.cells.all cr)<;>rfl
   |_=>cases(eI x.cells.length n&&x.cells.all cr)<;>rfl
 |_=>
  simp only[M8,GH];cases bL H n _ x with
  |none=>rfl
  |some H'=>exact aeR
def abO(a b:Int):Int:=match a with
 |.ofNat m=>match b with
  |.ofNat n=>.ofNat (m+n)
  |.negSucc n=>.ofNat m+ .negSucc n
 |.negSucc m=>.negSucc m+b
def apF(a b:Int):abO a b=a+b:=by cases a<;>cases b<;>rfl
def Zv(a b:Int):Int:=match a with
 |.ofNat m=>match b with
  |.ofNat n=>match vS n m with
   |true=>.ofNat (m-n)
   |false=>.ofNat m- .ofNat n
  |.negSucc n=>.ofNat m- .negSucc n
 |.negSucc m=>.negSucc m-b
def aDv(a b:Int):Zv a b=a-b:=by
 cases a with
 |negSucc m=>rfl
 |ofNat m=>cases b with
  |negSucc n=>rfl
  |ofNat n=>
   simp only[Zv];cases h:vS n m with
   |false=>rfl
   |true=>
    have:=p9 h;simp only[AQ];omega
def IL(a b:Int):Bool:=match a with
 |.ofNat m=>match b with
  |.ofNat n=>vS (m+1) n
  |.negSucc _=>bf
 |.negSucc m=>match b with
  |.ofNat _=>bh
  |.negSucc n=>vS (n+1) m
def azy(a b:Int):IL a b=decide (a<b):=by
 cases a<;>cases b<;>simp only[IL];rename_i m n;rw[GQ,Nat.ble_eq,decide_eq_true_eq];simp only[AQ];omega;rename_i m n;symm;rw[decide_eq_false_iff_not];simp only[AQ];omega;rename_i m n;symm;rw[decide_eq_true_eq];simp only[AQ];omega;rename_i m n;rw[GQ,Nat.ble_eq,decide_eq_true_eq];omega
def O5(a b:Int):Bool:=match a with
 |.ofNat m=>match b with
  |.ofNat n=>eI m n
  |.negSucc _=>bf
 |.negSucc m=>match b with
  |.ofNat _=>bf
  |.negSucc n=>eI m n
def arX(a b:Int):O5 a b=(a==b):=by
 cases a<;>cases b<;>simp only[O5];rename_i m n;rw[GQ,vR,beq_iff_eq];simp only[AQ];omega;symm;simp;symm;simp;rename_i m n;rw[GQ,vR,beq_iff_eq];simp
def GJ(kd:IntKind):Int->Int:=match kd with
 |.i64=>λn=>match n with
  |.ofNat m=>match vS m 9223372036854775807 with
   |true=>.ofNat m
   |false=>dy.wrap (.ofNat m)
  |.negSucc m=>match vS m 9223372036854775807 with
   |true=>.negSucc m
   |false=>dy.wrap (.negSucc m)
 |.u64=>λn=>match n with
  |.ofNat m=>.ofNat (m % 18446744073709551616)
  |.negSucc m=>GS.wrap (.negSucc m)
 |.u8=>λn=>match n with
  |.ofNat m=>.ofNat (m % 256)
  |.negSucc m=>IntKind.u8.wrap (.negSucc m)
 |kd=>λn=>kd.wrap n
def aEO(kd)(n:Int):GJ kd n=kd.wrap n:=by
 cases kd
 case i64=>
  cases n with
  |ofNat m=>
   simp only[GJ];split;rename_i h;have:=p9 h;rw[gN (by simp only[AQ];omega) (by simp only[AQ];omega)];rfl
  |negSucc m=>
   simp only[GJ];split;rename_i h;have:=p9 h;rw[gN aa aa];rfl
 case u8=>
  cases n with
  |ofNat m=>simp only[GJ];rw[an1];simp only[AQ];omega
  |negSucc m=>rfl
 case u64=>
  cases n with
  |ofNat m=>simp only[GJ];rw[Ee];simp only[AQ];omega
  |negSucc m=>rfl
 all_goals rfl
def FZ:IntKind->Nat
 |.i8=>0|.i16=>1|.i32=>2|.i64=>3|.u8=>4|.u16=>5|.u32=>6|.u64=>7
def ayr{a b}:(eI (FZ a) (FZ b)=bh)↔a=b:=by cases a<;>cases b<;>simp[FZ]
noncomputable def TZ:BinOp->IntKind->Int->Int->(bg->Option bg)->Option bg
 |.add=>λkd a b k=>Pt (GJ kd (abO a b)) λr=>k (.v (.int kd r))
 |.sub=>λkd a b k=>Pt (GJ kd (Zv a b)) λr=>k (.v (.int kd r))
 |.eql=>λkd a b k=>C7 (O5 a b) λr=>k (.v (.bool r))
 |.neq=>λkd a b k=>C7 (!O5 a b) λr=>k (.v (.bool r))
 |.lss=>λkd a b k=>C7 (IL a b) λr=>k (.v (.bool r))
 |.geq=>λkd a b k=>C7 (!IL a b) λr=>k (.v (.bool r))
 |.gtr=>λkd a b k=>C7 (IL b a) λr=>k (.v (.bool r))
 |.leq=>λkd a b k=>C7 (!IL b a) λr=>k (.v (.bool r))
 |op=>λkd a b k=>RZ (lW op kd a kd b) k
def aqs{kd}{a b:Int}:TZ op kd a b k=(lW op kd a kd b).bind λv=>k (.v v):=by
 have Y:(!decide (a<b))=decide (a>=b):=by rw[GQ];simp
 have V:(!decide (b<a))=decide (a<=b):=by rw[GQ];simp
 cases op<;>simp only[TZ,aeM,aeL,aEO,apF,aDv,arX,azy,amL]
 all_goals first
  |(simp[lW];done)
  |(simp only[lW,ne_eq,not_true_eq_false,if_false,l7,Y,V];done)
  |(simp only[lW,ne_eq,not_true_eq_false,if_false,l7,Y,V];rfl)
noncomputable def T0:BinOp->bg->bg->(bg->Option bg)->Option bg:=λop x=>match x with
 |.v (.int kd a)=>λy=>match y with
  |.v (.int L5 b)=>λk=>match eI (FZ kd) (FZ L5) with
   |true=>TZ op kd a b k
   |false=>RZ (lW op kd a L5 b) k
  |y=>λk=>AD (dF op (.v (.int kd a)) y) k
 |x=>λy k=>AD (dF op x y) k
def aqt{y:bg}:T0 op x y k=(dF op x y).bind k:=by
 unfold T0;split;rename_i kd a;split;rename_i L5 b;cases hq:eI (FZ kd) (FZ L5) with
 |true=>
  have:=ayr.1 hq;subst this;simp only[aqs,dF];cases lW op kd a kd b<;>rfl
 |false=>
  simp only[dF,amL];cases lW op kd a L5 b<;>rfl
 exact D3;exact D3
noncomputable def Pe(off:Nat):bg->(bg->Option bg)->Option bg
 |.mp b o=>λk=>lf (o+off) λo=>k (.mp b o)
 |.fp Z o=>λk=>lf (o+off) λo=>k (.fp Z o)
 |x=>λk=>AD (k9 off x) k
def ar7:Pe off x k=(k9 off x).bind k:=by
 cases x<;>first|(simp only[Pe,D3];done)|(simp[Pe,uY,k9];done)
noncomputable def L1(n:Nat):bg->bg->(bg->Option bg)->Option bg
 |.sl xs t=>λi k=>match i with
  |.v (.int kd (.ofNat j))=>Gd xs j λx=>Ku x λZ=>match eI Z.length n with
   |true=>k (.fp Z 0)
   |false=>bn
  |i=>AD (cA n (.sl xs t) i) k
 |x=>λi k=>AD (cA n x i) k
def av5:L1 n x i k=(cA n x i).bind k:=by
 cases x with
 |sl xs t=>
  simp only[L1];split;rename_i kd j;simp only[IX,OC,cA];rw[if_pos (show(0:Int)<=Int.ofNat j from Int.natCast_nonneg j)];simp only[AQ,xu];cases xs[j]? with
  |none=>rfl
  |some x=>
   simp only[l7];by_cases hl:x.cells.length=n;rw[if_pos hl,show eI x.cells.length n=bh by rw[vR];exact hl];rfl;rw[if_neg hl,show eI x.cells.length n=bf from(by cases O:eI x.cells.length n with
   |false=>rfl
   |true=>exact(hl (sA O)).elim)];rfl
  (simp only[L1,D3])
 |_=>(simp only[L1,D3])
def aqz(l)(j:Nat):(⟨⟨l⟩⟩:ByteArray)[j]?=l[j]? :=by
 have Y:∀(b:ByteArray),b[j]?=if h:j<b.size then a_ (b[j]'h) else bn:=λb=>rfl;rw[Y];by_cases h:j<l.length;rw[dif_pos (show j<(⟨⟨l⟩⟩:ByteArray).size from h),cx h];rfl;rw[dif_neg (show¬j<(⟨⟨l⟩⟩:ByteArray).size from h),jJ aa]
noncomputable def Uj:bg->bg->(bg->Option bg)->Option bg
 |.v (.string ⟨⟨l⟩⟩)=>λi k=>match i with
  |.v (.int kd (.ofNat j))=>Gd l j λb=>lf b.toNat λn=>k (.v (.int .u8 (.ofNat n)))
  |i=>AD (wk (.v (.string ⟨⟨l⟩⟩)) i) k
 |x=>λi k=>AD (wk x i) k
def aqO:Uj x i k=(wk x i).bind k:=by
 unfold Uj;split;rename_i l;split;rename_i kd j;simp only[IX,wk];rw[if_pos (show(0:Int)<=Int.ofNat j from Int.natCast_nonneg j)];simp only[AQ,xu,aqz];cases l[j]? <;>simp[uY];exact D3;exact D3
noncomputable def UU(i:Nat):bg->(bg->Option bg)->Option bg
 |.bQ Z=>Gd Z i
 |_=>λ_=>bn
def ar2{i:Nat}:UU i x k=(oP i x).bind k:=by
 cases x<;>simp[UU,oP,IX]
inductive abe where
 |val (v:bg)
 |fV (ch:List PanicEntry)
structure aa6 where
 ps:List Nat
 a:eG
 b:eG
 e:dh
abbrev rm:=List (Nat×aa6)
abbrev A6:=abe->hU->Option bg
abbrev tC:=rm->bg->List bg->hU->A6->Option bg
def Uz:rA->Bool
 |.alloc _|.box _|.st .. |.wv .. |.app .. |.A_ .. |.As .. |.BO .. |.iter _|.next _|.BN|.wY .. |.Aq .. |.C1 .. |.zm .. |.zu .. |.zo .. =>bh
 |_=>bf
noncomputable def Zi(o:rA)(e:dh)(h:hU)(k:bg->hU->Option bg):Option bg:=match Uz o with
 |false=>match cz e (Ea h) o with
  |some (v,_)=>qL 64 v λv=>k v h
  |none=>bn
 |true=>match cz e (Ea h) o with
  |some (v,H)=>Pw H λh=>qL 64 v λv=>k v h
  |none=>bn
noncomputable def r4:rA->dh->hU->(bg->hU->Option bg)->Option bg
 |.mv x=>λe h k=>nP x e λv=>k v h
 |.fY bM n x=>λe h k=>nP x e λp=>F8 p bM n h λv=>k v h
 |.st n p x=>λe h k=>nP p e λp=>nP x e λx=>M8 p n x h λh=>k jx h
 |.IS x=>λe h k=>nP x e λp=>match uR p with
  |some p=>k p h
  |none=>bn
 |.bin op x y=>λe h k=>nP x e λx=>nP y e λy=>T0 op x y λv=>k v h
 |.fa off x=>λe h k=>nP x e λx=>Pe off x λv=>k v h
 |.cI n x i=>λe h k=>nP x e λx=>nP i e λi=>L1 n x i λv=>k v h
 |.CU x i=>λe h k=>nP x e λx=>nP i e λi=>Uj x i λv=>k v h
 |.ext i x=>λe h k=>nP x e λx=>UU i x λv=>k v h
 |.alloc z=>λe h k=>D0 h (.cells z bf) λh'=>lf h.n λn=>k (.mp n 0) h'
 |.box x=>λe h k=>nP x e λx=>Ku x λZ=>D0 h (.cells Z bf) λh'=>lf h.n λn=>k (.mp n 0) h'
 |o=>Zi o
def ap4(ho:Uz o=bf){H'}{v:bg}(h:cz e H o=a_ (v,H')):H'=H:=by
 have len:∀{x:bg},cN x H=a_ (v,H')->H'=H:=λ{x} q=>by
  unfold cN at q;split at q;cases q;rw[dm] at q;obtain⟨_,_,q⟩:=q;cases q;rfl
 have jZ:∀{x:bg},qX x H=a_ (v,H')->H'=H:=λ{x} q=>by
  unfold qX at q;split at q;cases q;rfl;cases q
 have slc:∀{n:Nat} {x:bg} {a b c},r7 n x a b c H=a_ (v,H')->H'=H:=λ{n x a b c} q=>by
  unfold r7 at q;split at q;cases q;rw[dm] at q;obtain⟨_,_,q⟩:=q;cases q;rfl
 have xd:∀{x:bg} {a b},GD x a b H=a_ (v,H')->H'=H:=λ{x a b} q=>by
  unfold GD at q;split at q;rw[dm] at q;obtain⟨_,_,q⟩:=q;cases q;rfl;cases q
 cases o<;>first|(cases ho;done)|skip
 all_goals simp only[cz,gu,dm,xx] at h
 all_goals first
  |(obtain⟨_,_,_,q⟩:=h;exact q.symm)
  |(obtain⟨_,_,_,_,_,q⟩:=h;exact q.symm)
  |(obtain⟨_,_,_,_,_,_,_,q⟩:=h;exact q.symm)
  |(obtain⟨_,_,_,_,_,_,_,_,_,q⟩:=h;exact q.symm)
  |(obtain⟨_,_,q⟩:=h;exact len q)
  |(obtain⟨_,_,q⟩:=h;exact jZ q)
  |(obtain⟨_,_,_,_,_,_,q⟩:=h;exact xd q)
  |(obtain⟨_,_,_,_,_,_,_,_,q⟩:=h;exact slc q)
def aC0{k}:Zi o e (R H) k=(cz e H o).bind λr=>k r.1 (R r.2):=by
 unfold Zi;rw[GH];cases ho:Uz o with
 |false=>
  dsimp only;cases hs:cz e H o with
  |none=>rfl
  |some r=>
   obtain⟨v,H'⟩:=r;have:=ap4 ho hs;subst this;simp only[zN,l7]
 |true=>
  dsimp only;cases hs:cz e H o with
  |none=>rfl
  |some r=>simp only[aeR,zN,l7]
def akY{k}:r4 o e (R H) k=(cz e H o).bind λr=>k r.1 (R r.2):=by
 have bm:∀{α:Type} (o:Option α) (f:α->bg×List br),((o.map f).bind λr=>k r.1 (R r.2))=o.bind λa=>k (f a).1 (R (f a).2):=λo f=>by cases o<;>rfl
 have rn:(R H).n=H.length:=rfl;cases o
 case mv=>simp only[r4,rL,cz,bm]
 case fY=>simp only[r4,rL,ajY,cz,AZ,bm]
 case st=>simp only[r4,rL,aDq,cz,AZ,bm]
 case bin=>simp only[r4,rL,aqt,cz,AZ,bm]
 case fa=>simp only[r4,rL,ar7,cz,AZ,bm]
 case cI=>simp only[r4,rL,av5,cz,AZ,bm]
 case CU=>simp only[r4,rL,aqO,cz,AZ,bm]
 case ext=>simp only[r4,rL,ar2,cz,AZ,bm]
 case alloc=>simp only[r4,Rx,uY,cz,l7,rn]
 case box x=>
  simp only[r4,rL,OC,Rx,uY,cz,bm,rn]
 case IS x=>
  simp only[r4,rL,cz,AZ,bm];cases ec e x with
  |none=>rfl
  |some x=>simp only[l7];cases uR x<;>rfl
 all_goals
  simp only[r4];exact aC0
noncomputable def Rv(di:tC)(f:FuncId)(dB:List bg):Option bg:=match j0 (cX [] 64) dB with
 |some bs=>di [] (.fn (.func f) [] []) bs (R []) λo h=>match o with
  |.val r=>cX (Ea h) 64 r
  |.fV _=>bn
 |none=>bn
noncomputable def Jz(k:bg->hU->Option bg):A6
 |.val v=>λh=>k v h
 |.fV _=>λ_=>bn
noncomputable def Bm(l:List dr):dh->(List bg->Option bg)->Option bg:=@y7 dr (λ_=>dh->(List bg->Option bg)->Option bg) (λ_ k=>k []) (λx _ ih e k=>nP x e λv=>ih e λvs=>k (v::vs)) l
def C8:∀{l} {e:dh} {k},Bm l e k=(nr e l).bind k
 |[],e,k=>rfl
 |x::r,e,k=>by
  show nP x e (λv=>Bm r e λvs=>k (v::vs))=_;simp only[rL,C8,nr,AZ];cases ec e x with
  |none=>rfl
  |some v=>simp only[l7];cases nr e r<;>rfl
noncomputable def wR:iJ->tC->rm->dh->hU->A6->Option bg
 |.op o=>λ_ _ e h k=>r4 o e h λv h=>k (.val v) h
 |.call f args=>λdi cH e h k=>Bm args e λdB=>di cH (.fn (.func f) [] []) dB h (Jz λv h'=>k (.val v) h')
 |.lO x args=>λdi cH e h k=>nP x e λx=>Bm args e λdB=>di cH x dB h (Jz λv h'=>k (.val v) h')
 |.nB f args=>λdi _ e h k=>Bm args e λdB=>match Rv di f dB with
  |some v=>qL 64 v λv=>k (.val v) h
  |none=>bn
 |.oE f args r=>λdi _ e h k=>Bm args e λdB=>match Rv di f dB with
  |some v=>qL 64 v λv=>match pK 64 v r with
   |true=>k (.val r) h
   |false=>bn
  |none=>bn
 |.pI f args=>λdi cH e h k=>Bm args e λdB=>di cH (.fn (.func f) [] []) dB h k
 |.pJ x args=>λdi cH e h k=>nP x e λx=>match x with
  |.fn (.func f) fs Z=>Bm args e λdB=>di cH (.fn (.func f) fs Z) dB h k
  |_=>bn
 |.fV x=>λ_ _ e h k=>nP x e λx=>match qJ x with
  |some v=>k (.fV [{v:=v,recovered:=bf}]) h
  |none=>bn
abbrev CC:=tC->rm->dh->hU->(dh->hU->Option bg)->(List PanicEntry->hU->Option bg)->Option bg
noncomputable def XX(d:Option Nat)(next:CC):abe->CC:=match d with
 |some d=>λo=>match o with
  |.val v=>λdi cH e h k kp=>next di cH ((d,v)::e) h k kp
  |.fV ch=>λ_ _ _ h _ kp=>kp ch h
 |none=>λo=>match o with
  |.val v=>λdi cH e h k kp=>next di cH e h k kp
  |.fV ch=>λ_ _ _ h _ kp=>kp ch h
noncomputable def R0:dI->CC->CC
 |⟨d,bn,i⟩=>λnext di cH e h k kp=>wR i di cH e h λo h'=>XX d next o di cH e h' k kp
 |⟨d,a_ (g,w),i⟩=>λnext di cH e h k kp=>HI g e λv=>match v with
  |.v (.bool b)=>match Bool.xor b w with
   |false=>wR i di cH e h λo h'=>XX d next o di cH e h' k kp
   |true=>next di cH (pX d jx e) h k kp
  |.bQ []=>next di cH (pX d jx e) h k kp
  |_=>bn
noncomputable def MA(l:List dI):CC:=@y7 dI (λ_=>CC) (λ_ _ e h k _=>k e h) (λo _ ih=>R0 o ih) l
def afi(e:dh):Option (Nat×Bool)->Option Bool
 |none=>a_ bh
 |some (k,w)=>match gC e k with
  |some (.v (.bool b))=>a_ (b==w)
  |some (.bQ [])=>a_ bf
  |_=>bn
noncomputable def YS(c:dI)(e:dh)(h:hU):Bool:=match c.ins,c.dst with
 |.op o,a_ d=>match afi e c.guard with
  |some bh=>match gC e d,r4 o e h λu _=>a_ u with
   |some v,a_ u=>pK 64 u v
   |_,_=>bf
  |some bf=>match gC e d with
   |some v=>pK 64 v jx
   |none=>bf
  |none=>bf
 |_,_=>bf
noncomputable def ak0(l:List (dI×List dI)):CC:=@y7 (dI×List dI) (λ_=>CC) (λ_ _ e h k _=>k e h) (λp _ ih=>R0 p.1 λdi cH e h k kp=>match p.2.all (λc=>YS c e h) with
 |true=>ih di cH e h k kp
 |false=>bn) l
abbrev Cw:=Exit->dh->hU->Option bg
noncomputable def Xt(f:dh->hU->Cw->Option bg)(m:Nat):dh->hU->Cw->Option bg:=@JS (λ_=>dh->hU->Cw->Option bg) (λ_ _ _=>bn) (λ_ ih e h k=>f e h λx=>match x with
 |.normal=>λe' h'=>ih e' h' k
 |x=>λe' h'=>k x e' h') m
noncomputable def Ap(st:LoopState)(pd:Option Code):br:=.cc st pd [] #[] (λ_ _=>False)
noncomputable def YO(k0:Nat)(L:List Nat)(e:dh)(k:Cw)(h:hU):Option bg:=yx h k0 λb=>match b with
 |.cc st pd _ _ _=>match st with
  |.busy=>bn
  |_=>yN h k0 (λ_ k=>k (Ap .exhausted pd)) λV=>match pd with
   |none=>uk L e λe'=>k .normal e' V
   |some .ret=>uk L e λe'=>k .ret e' V
   |some (.exit id)=>uk L e λe'=>k (.exit id) e' V
   |_=>bn
 |_=>bn
def ZF(t:bg)(d:Nat):bg:=match t with
 |.bQ l=>go l
 |_=>.bp
where go:List bg->bg
 |.bQ [.mp j _,v]::r=>if eI j d then v else go r
 |_=>.bp
abbrev n8:=tC->Nat->Bool->rm->dh->hU->Cw->Option bg
noncomputable def OU(L:List Nat):n8:=λ_ _ _ _ e h k=>uk L e λe'=>k .normal e' h
noncomputable def OR(ops:List dI)(L:List Nat):n8:=λdi _ _ cH e h k=>MA ops di cH e h (λe' h'=>uk L e' λe'=>k .normal e' h') λch h'=>k (.panic ch) (sO ops e) h'
noncomputable def E5(xa lH:n8):n8:=λdi b_ nest cH e h k=>xa di b_ nest cH e h λx=>match x with
 |.normal=>λe' h'=>lH di b_ nest cH e' h' k
 |x=>λe' h'=>k x e' h'
noncomputable def OM(c:dr)(xa lH:n8):n8:=λdi b_ nest cH e h k=>nP c e λv=>match v with
 |.v (.bool bh)=>xa di b_ nest cH e h k
 |.v (.bool bf)=>lH di b_ nest cH e h k
 |_=>bn
noncomputable def E2(id:Nat)(xa:n8):n8:=λdi b_ nest cH e h k=>xa di b_ nest cH e h λx=>match x with
 |.exit nx=>λe' h'=>match eI nx id with
  |true=>k .normal e' h'
  |false=>k (.exit nx) e' h'
 |x=>λe' h'=>k x e' h'
noncomputable def ari(xa:n8):n8:=λdi b_ nest cH e h k=>Xt (xa di b_ nest cH) b_ e h k
noncomputable def ON(id:Nat)(L:List Nat):n8:=λ_ _ _ _ e h k=>uk L e λe'=>k (.exit id) e' h
noncomputable def OT(L:List Nat):n8:=λ_ _ _ _ e h k=>uk L e λe'=>k .ret e' h
noncomputable def OP(x:dr)(ps:List Nat)(a b:eG)(L:List Nat):n8:=λdi b_ nest cH e h k=>nP x e λv=>match v with
 |.fn (.func g) fs Z=>(λgo=>match nest with
  |true=>go h
  |false=>D0 h (.obj (.deferred bn)) go) λY=>lf Y.n λk0=>D0 Y (Ap .ready bn) λV=>
   di ((k0,⟨ps,a,b,e⟩)::cH) (.fn (.func g) [] []) (fs++[.iV k0]++Z) V (Jz λ_ h'=>YO k0 L e k h')
 |_=>bn
noncomputable def OQ(ls:List (List dI))(L:List Nat):n8:=λdi _ _ cH e h k=>match ls with
 |[]=>bn
 |l0::r=>match MA l0 di cH e h (λe' _=>a_ (.bQ (e'.map λp=>.bQ [.mp p.1 0,p.2]))) (λ_ _=>bn) with
  |some t=>match MA (l0.map (gb (ZF t))) di cH e h (λe' h'=>uk L e' λe'=>k .normal e' h') (λch h'=>k (.panic ch) (sO ls.flatten e) h') with
   |some x=>match r.all (λl=>match MA (l.map (gb (ZF t))) di cH e h (λe' h'=>uk L e' λe'=>k .normal e' h') (λch h'=>k (.panic ch) (sO ls.flatten e) h') with
     |some y=>pK 64 x y
     |none=>bf) with
    |true=>a_ x
    |false=>bn
   |none=>bn
  |none=>bn
noncomputable def OS(l:List (dI×List dI))(L:List Nat):n8:=λdi _ _ cH e h k=>ak0 l di cH e h (λe' h'=>uk L e' λe'=>k .normal e' h') λch h'=>k (.panic ch) (sO (l.map (·.1)) e) h'
noncomputable def E4(xa:n8):n8:=λdi b_ nest cH e h k=>xa di b_ nest cH e h λx=>match x with
 |.goto _=>λ_ _=>bn
 |x=>λe' h'=>k x e' h'
noncomputable def OO(L:List Nat):n8:=λ_ _ _ _ e h k=>uk L e λe'=>k .normal e' h
noncomputable def arh:n8:=λ_ _ _ _ _ _ _=>bn
noncomputable def lR(c:eG):n8:=@eG.rec (λ_=>n8) (λL=>OU L)
 (λops L=>OR ops L)
 (λ_ _ xa lH=>E5 xa lH)
 (λc _ _ xa lH=>OM c xa lH)
 (λid _ xa=>E2 id xa)
 (λ_ xa=>ari xa)
 (λid L=>ON id L)
 (λL=>OT L)
 (λx ps a b L _ _=>OP x ps a b L)
 (λls L=>OQ ls L)
 (λl L=>OS l L)
 (λ_ xa=>E4 xa)
 (λL=>OO L)
 arh c
def adw:lR (.skip L)=OU L:=rfl
def ads{ops}:lR (.region ops L)=OR ops L:=rfl
def Kz{b:eG}:lR (.seq a b)=E5 (lR a) (lR b):=rfl
def ado{c:dr}{b:eG}:lR (.cond c a b)=OM c (lR a) (lR b):=rfl
def Kx:lR (.block id a)=E2 id (lR a):=rfl
def adp:lR (.exit id L)=ON id L:=rfl
def adv:lR (.ret L)=OT L:=rfl
def adr{x:dr}{ps}{b:eG}:lR (.qZ x ps a b L)=OP x ps a b L:=rfl
def adt{ls}:lR (.q3 ls L)=OQ ls L:=rfl
def adu{l}:lR (.qw l L)=OS l L:=rfl
def Ky:lR (.scope a)=E4 (lR a):=rfl
def adq:lR (.lab L)=OO L:=rfl
inductive kC where
 |plain (n:Nat) (rs:List iQ) (c:eG)
 |loops (n:Nat) (rs:List iQ) (c:eG)
 |rH (n:Nat) (rs:List iQ) (a:eG) (t:Nat) (g:FuncId) (caps:List dr) (b:eG)
 |Gn (n d0 d1:Nat) (c:eG)
 |Ot (t:TypeId×Nat)
 |Ox (e:TypeId)
 |Q6 (l:List (TypeId×String×FuncId))
def azZ:FuncId:=4000000
def KV:List (TypeId×String×FuncId)->TypeId->String->Option FuncId
 |[],_,_=>bn
 |(t',n',g)::r,t,n=>match eI t' t with
  |true=>match decide (n'=n) with
   |true=>a_ g
   |false=>KV r t n
  |false=>KV r t n
def UZ:∀{l} {t} {n} {g},KV l t n=a_ g->(t,n,g)∈l
 |[],_,_,_,h=>aF
 |(t',n',g')::r,t,n,g,h=>by
  unfold KV at h;split at h;rename_i ht;have:=sA ht;subst this;split at h;rename_i hn;have:=of_decide_eq_true hn;subst this;cases h;exact AV;exact uD _ (UZ h);exact uD _ (UZ h)
def JY(P:Program)(f:FuncId):kC->Prop
 |.plain n rs c=>(∃hb,r8 P hb f=a_ ⟨n,rs,c.b7⟩)/\c.fits n=bh
 |.loops n rs c=>(∃hb,r8 P hb f=a_ ⟨n,rs,c.b7⟩)/\c.oT n bh=bh
 |.rH n rs a t g caps b=>(∃hb,Jr P hb f=a_ ⟨n,rs,a.b7,t,g,caps,b.b7⟩)/\a.fits n=bh/\b.fits n=bh/\t<n
 |.Gn n d0 d1 c=>(∃hb,Jt P hb f=a_ ⟨n,d0,d1,c.b7⟩)/\c.fits n=bh/\d0<n/\d1<n
 |.Ot t=>NT P f t
 |.Ox e=>Oe P f e
 |.Q6 l=>∀e∈l,Q0 P e.1 e.2.1=a_ e.2.2
noncomputable def YM:iQ->dh->hU->(bg->Option bg)->Option bg
 |.s t=>λe _ k=>HI t e k
 |.c t bM n=>λe h k=>HI t e λp=>F8 p bM n h k
def aBt{x:iQ}:YM x e (R H) k=(Ax e H x).bind k:=by
 cases x with
 |s t=>exact O2
 |c t bM n=>simp only[YM,O2,ajY,Ax,AZ]
noncomputable def RL:List iQ->dh->hU->(List bg->Option bg)->Option bg
 |[]=>λ_ _ k=>k []
 |x::r=>λe h k=>YM x e h λv=>RL r e h λl=>k (v::l)
def al0:∀{l} {e:dh} {H} {k},RL l e (R H) k=(th e H l).bind k
 |[],e,H,k=>rfl
 |x::r,e,H,k=>by
  simp only[RL,aBt,al0,th,AZ];cases Ax e H x with
  |none=>rfl
  |some v=>simp only[l7];cases th e H r<;>rfl
noncomputable def Az(rs:List iQ)(e:dh)(h:hU)(k:A6):Option bg:=RL rs e h λl=>match l with
 |[x]=>k (.val x) h
 |l=>k (.val (.bQ l)) h
def aBN{rs}{k}:Az rs e (R H) k=(kO e H rs).bind λv=>k (.val v) (R H):=by
 simp only[Az,al0,kO];cases th e H rs with
 |none=>rfl
 |some l=>
  simp only[l7,jS]
  match l with
  |[]=>rfl
  |[x]=>rfl
  |x::y::l=>rfl
def QK:List bg->Option (List Nat)
 |[]=>a_ []
 |.mp k 0::r=>match QK r with
  |some l=>a_ (k::l)
  |none=>bn
 |_::_=>bn
def Sp:List Value->Option (List bg)
 |[]=>a_ []
 |x::r=>if plain x then(match Sp r with|some l=>a_ (.v x::l)|none=>bn) else bn
def ZT:Value->Option bg
 |.iface t (.agg Z)=>match Sp Z.toList with
  |some l=>a_ (.ep t (.agg l))
  |none=>bn
 |.iface t x=>if plain x then a_ (.ep t (.v x)) else bn
 |_=>bn
noncomputable def Jg(hc:FuncId->Option (kC×Nat))(di:tC)(b_:Nat)(cH:rm)(g:FuncId)(ks:List Nat)(x:Option bg)(h:hU)(k:hU->Option bg):Option bg:=match hc g with
 |some (.Gn n d0 d1 c,_)=>if ks.length<=n then lR c di b_ bf cH ((d1,pY x)::(d0,pY x)::oQ 0 (ks.map λk=>.mp k 0)) h (λx _ h'=>match x with
  |.normal=>k h'
  |.ret=>k h'
  |_=>bn) else bn
 |_=>bn
noncomputable def adY(rs:List iQ)(k:A6):Cw
 |.normal=>λe h'=>Az rs e h' k
 |.ret=>λe h'=>Az rs e h' k
 |.panic ch=>λ_ h'=>k (.fV ch) h'
 |_=>λ_ _=>bn
noncomputable def ac5(t:TypeId×Nat)(b:Nat)(h:hU)(k:hU->Option bg):Option bg:=yx h b λx=>match x with
 |.cells (.h_ b' t'::z) bf=>match eI b' b&&eI t'.1 t.1&&eI t'.2 t.2 with
  |true=>yN h b (λ_ k=>k (.cells (.mp b 0::z) bf)) k
  |false=>bn
 |.cells (.mp b' 0::_) bf=>match eI b' b with
  |true=>k h
  |false=>bn
 |_=>bn
noncomputable def RH:List bg->(List UInt8->Option bg)->Option bg
 |[],k=>k []
 |.v (.int .u8 (.ofNat n))::r,k=>match vS n 255 with
  |true=>RH r λl=>k (uG n::l)
  |false=>bn
 |_::_,_=>bn
noncomputable def anc(e:TypeId)(b:Nat)(h:hU)(k:bg->Option bg):Option bg:=yx h b λx=>match x with
 |.cells [_,.bp] bf=>k (.v (.string .empty))
 |.cells [_,.sl xs (.tok id)] bf=>yx h id λy=>match y with
  |.tok n 1 e'=>match eI n xs.length&&eI e' e&&vS 1 n&&vS n 140737488355328 with
   |true=>RH xs λl=>k (.v (.string ⟨⟨l⟩⟩))
   |false=>bn
  |_=>bn
 |_=>bn
noncomputable def zM(hc:FuncId->Option (kC×Nat)):kC->tC->Nat->rm->List bg->hU->A6->Option bg
 |.plain n rs c=>λdi b_ cH args h k=>if args.length<=n then lR c di b_ bf cH (oQ 0 args) h (adY rs k) else bn
 |.loops n rs c=>λdi b_ cH args h k=>if args.length<=n then lR c di b_ bf cH (oQ 0 args) h (adY rs k) else bn
 |.rH n rs a t g caps b=>λdi b_ cH args h k=>if args.length<=n then lR a di b_ bf cH (oQ 0 args) h (λx e h'=>match x with
  |.normal=>Bm caps e λdB=>match QK dB with
   |some ks=>wG (λx k=>lf x k) ks λks=>lR b di b_ bf cH ((t,.fn (.func g) [] (ks.map λk=>.mp k 0))::e) h' λx e2 V=>match x with
    |.normal=>Jg hc di b_ cH g ks bn V λh3=>Az rs e2 h3 k
    |.ret=>Jg hc di b_ cH g ks bn V λh3=>Az rs e2 h3 k
    |.panic [{v:=v,recovered:=bf,goexit:=bf}]=>match ZT v with
     |some xv=>Jg hc di b_ cH g ks (a_ xv) V λh3=>Az rs e2 h3 k
     |none=>bn
    |_=>bn
   |none=>bn
  |_=>bn) else bn
 |.Gn _ _ _ _=>λ_ _ _ _ _ _=>bn
 |.Q6 _=>λ_ _ _ _ _ _=>bn
 |.Ot t=>λ_ _ _ args h k=>match args with
  |[.mp b 0]=>ac5 t b h λh'=>k (.val (.bQ [])) h'
  |_=>bn
 |.Ox e=>λ_ _ _ args h k=>match args with
  |[.mp b 0]=>anc e b h λv=>k (.val v) h
  |_=>bn
def Pj(k:Nat):rm->Option (aa6×rm)
 |[]=>bn
 |(j,r)::cH=>if j=k then a_ (r,cH) else Pj k cH
noncomputable def alQ(k0:Nat)(k:A6)(x:Exit)(h:hU):Option bg:=yx h k0 λb=>match b with
 |.cc _ _ _ _ _=>match x with
  |.normal=>yN h k0 (λ_ k=>k (Ap .ready bn)) λh'=>k (.val (.v (.bool bh))) h'
  |.ret=>yN h k0 (λ_ k=>k (Ap .done (a_ .ret))) λh'=>k (.val (.v (.bool bf))) h'
  |.exit id=>yN h k0 (λ_ k=>k (Ap .done (a_ (.exit id)))) λh'=>k (.val (.v (.bool bf))) h'
  |_=>bn
 |_=>bn
noncomputable def Gk:A6:=λo h=>match o with
 |.val r=>cX (Ea h) 64 r
 |.fV _=>bn
noncomputable def Jl:br->br->Bool
 |.cells Z r,.cells cs' r'=>wD (pK 64) Z cs'&&r==r'
 |.tok n s e,.tok n' s' e'=>eI n n'&&eI s s'&&eI e e'
 |.obj (.deferred _),.obj (.deferred _)=>bh
 |.obj (.stringIter s p),.obj (.stringIter s' p')=>KL (.string s) (.string s')&&eI p p'
 |.eH es cC,.eH mo mS=>wD (λp q=>pK 64 p.1 q.1&&pK 64 p.2.1 q.2.1&&eI p.2.2 q.2.2) es mo&&eI cC mS
 |.cc st pd _ _ _,.cc ga k3 _ _ _=>(match st,ga with
  |.ready,.ready=>bh
  |.busy,.busy=>bh
  |.exhausted,.exhausted=>bh
  |.done,.done=>bh
  |_,_=>bf)&&(match pd,k3 with
  |none,bn=>bh
  |_,_=>bf)
 |_,_=>bf
def aCn{a b:br}(h:Jl (b7 a) (b7 b)=bh):b7 a=b7 b:=by
 cases a with
 |cells Z r=>cases b with
  |cells cs' r'=>
   simp only[b7,Jl,fA,beq_iff_eq] at h;show bw Z r=bw cs' r';rw[O3 (λq=>zG q) h.1,h.2]
  |obj o=>cases o<;>cases h
  |_=>cases h
 |tok n s e=>cases b with
  |tok n' s' e'=>
   simp only[b7,Jl,fA,vR] at h;show br.tok n s e=br.tok n' s' e';rw[h.1.1,h.1.2,h.2]
  |obj o=>cases o<;>cases h
  |_=>cases h
 |eH es cC=>cases b with
  |eH mo mS=>
   simp only[b7,Jl,fA,vR] at h;show br.eH es cC=br.eH mo mS;rw[O3 (λ{p q} w=>?_) h.1,h.2];simp only[fA,vR] at w;obtain⟨a,b,c⟩:=p;obtain⟨a',b',c'⟩:=q;obtain⟨⟨w1,w2⟩,w3⟩:=w;have e1:a=a':=zG w1;have e2:b=b':=zG w2;have dc:c=c':=w3;rw[e1,e2,dc]
  |obj o=>cases o<;>cases h
  |_=>cases h
 |cc st pd bX ps ok=>cases b with
  |cc ga k3 Km ps' Mu=>
   simp only[b7,Jl,fA] at h;obtain⟨Y,V⟩:=h
   have e1:st=ga:=by cases st<;>cases ga<;>first|rfl|cases Y
   subst e1;simp only[b7];split at V;rename_i q1 bt;rw[q1,bt];cases V
  |obj o=>cases o<;>cases h
  |_=>cases h
 |obj o=>
  cases b with
  |obj o'=>
   cases o<;>cases o'<;>first|rfl|(cases h;done)|skip
   rename_i s p s' p';have h':(KL (.string s) (.string s')&&eI p p')=bh:=h;rw[fA,vR] at h';have:=ad3 h'.1;cases this;rw[h'.2]
  |_=>cases o<;>cases h
noncomputable def RP:List br->List br->Bool
 |[],_=>bh
 |_::_,[]=>bf
 |a::r,b::s=>Jl a b&&RP r s
def amf:∀{l m},(∀b∈l,∃a,b=b7 a)->(∀b∈m,∃a,b=b7 a)->RP l m=bh->m.take l.length=l
 |[],_,_,_,_=>af
 |_::_,[],_,_,h=>aF
 |a::r,b::s,Y,V,h=>by
  simp only[RP,fA] at h;obtain⟨a',ha⟩:=Y a af;obtain⟨b',O⟩:=V b af;subst ha;subst O;simp only[eV,AW];rw[amf (λb O=>Y b aIw) (λb O=>V b aIw) h.2,aCn h.1]
noncomputable def Y6(h h':hU):Bool:=vS h.n h'.n&&RP h.l (h'.l.drop (h'.n-h.n))
def aCo{J bl:List br}(h:Y6 (R (J.map b7)) (R (bl.map b7))=bh):(bl.map b7).take J.length=J.map b7:=by
 simp only[Y6,R,fA,dj] at h;obtain⟨Y,V⟩:=h;have Y:=p9 Y;have:=amf (λb O=>by
  simp only[List.mem_reverse,dZ] at O;obtain⟨a,_,rfl⟩:=O;exact⟨a,rfl⟩) (λb O=>by
  have:=vQ O;simp only[List.mem_reverse,dZ] at this;obtain⟨a,_,rfl⟩:=this;exact⟨a,rfl⟩) V
 rw[n6 ah] at this;have h3:=congrArg List.reverse this;rw[aoL,List.drop_reverse,aoL] at h3;rw[dj] at h3;rw[<-h3];congr 1;omega
noncomputable def adi(h:hU):A6:=λo h'=>match o with
 |.val r=>match Y6 h h' with
  |true=>cX (nR h.n (Ea h')) 64 r
  |false=>bn
 |.fV _=>bn
noncomputable def CS(hc:FuncId->Option (kC×Nat))(qu:FuncId->List bg->Option bg)(b_:Nat)(di:tC):tC:=λcH x=>match x with
 |.fn (.func f) fs Z=>λargs h k=>wG (λx k=>k x) (fs++args++Z) λdB=>match hc f with
  |none=>match j0 (cX [] 64) dB with
   |some bs=>match qu f bs with
    |some v=>qL 64 v λv=>k (.val v) h
    |none=>bn
   |none=>bn
  |some (pL,pu)=>match pu with
   |0=>zM hc pL di b_ cH dB h k
   |2=>match zM hc pL di b_ cH dB h (adi h) with
    |some v=>qL 64 v λv=>k (.val v) h
    |none=>bn
   |_=>match j0 (cX [] 64) dB with
    |some bs=>match zM hc pL di b_ [] bs (R []) Gk with
     |some v=>qL 64 v λv=>k (.val v) h
     |none=>bn
    |none=>bn
 |.fn (.method nm) [] _=>λargs h k=>match args with
  |.ep t x::rest=>match hc azZ with
   |some (.Q6 l,_)=>match KV l t nm with
    |some g=>di cH (.fn (.func g) [] []) (x::rest) h k
    |none=>bn
   |_=>bn
  |_=>bn
 |.iV k0=>λargs h k=>match Pj k0 cH with
  |some (rc,Ei)=>if args.length=rc.ps.length then yx h k0 λb=>match b with
    |.cc .ready _ _ _ _=>lR rc.a di b_ bh Ei (uq rc.e (rc.ps.zip args)) h λx e1 Y=>match x with
     |.normal=>yx Y k0 λb=>match b with
      |.cc .ready _ _ _ _=>yN Y k0 (λ_ k=>k (Ap .busy bn)) λatn=>lR rc.b di b_ bh Ei e1 atn λx e2 V=>alQ k0 k x V
      |_=>bn
     |_=>bn
    |_=>bn
   else bn
  |none=>bn
 |_=>λ_ _ _=>bn
noncomputable def KQ(hc:FuncId->Option (kC×Nat))(qu:FuncId->List bg->Option bg)(b_:Nat):Nat->tC
 |0=>λ_ _ _ _ _=>bn
 |d+1=>CS hc qu b_ (KQ hc qu b_ d)
end
section
variable{i:iJ}{E:Hid ry}{e:dh}{J:List br}{r v:bg}{cH:rm}{st:LoopState}{pd:Option Code}{bX:List bg}{ps:Array Tmp}{ok:Code->Code->Prop}
section
variable{G:Cells}{P:Program}
def WT{F F'}{E'}(h:@jB G P i F E e J)(hF:∀v J,F.v v J->F'.v v J)(hE:∀ch J,E.v ch J->E'.v ch J):@jB G P i F' E' e J:=by
 cases i with
 |op o=>obtain⟨v,Y,V⟩:=h;exact⟨v,Y,hF _ _ V⟩
 |call f args=>obtain⟨dB,Y,V⟩:=h;exact⟨dB,Y,cm V hF⟩
 |lO x args=>
  obtain⟨x',h0,dB,Y,V⟩:=h;exact⟨x',h0,dB,Y,vK V hF⟩
 |nB f args=>obtain⟨dB,Y,bs,r',V,h3,h4⟩:=h;exact⟨dB,Y,bs,r',V,h3,hF _ _ h4⟩
 |oE f args r=>obtain⟨dB,Y,bs,V,h3,h4⟩:=h;exact⟨dB,Y,bs,V,h3,hF _ _ h4⟩
 |pI f args=>obtain⟨dB,Y,V⟩:=h;exact⟨dB,Y,gE V hF hE⟩
 |pJ x args=>
  obtain⟨x',h0,dB,Y,V⟩:=h;exact⟨x',h0,dB,Y,aaf V hF hE⟩
 |fV x=>obtain⟨v,Y,V⟩:=h;exact⟨v,Y,hE _ _ V⟩
def atl{w}{A B A' B'}(h:@tW w v A B)(Y:A.v->A'.v)(V:B.v->B'.v):@tW w v A' B':=by
 unfold tW at h⊢;split at h;cases w with
 |true=>exact⟨λq=>Y (h.1 q),λq=>V (h.2 q)⟩
 |false=>exact⟨λq=>V (h.1 q),λq=>Y (h.2 q)⟩
 exact V h;exact h.elim
def Ka:∀{l} {K K'} {E E'} {e:dh} {J},@j4 G P l K E e J->(∀e J,K.v e J->K'.v e J)->(∀ch J,E.v ch J->E'.v ch J)->@j4 G P l K' E' e J
 |[],K,K',E,E',e,J,h,S,hE=>by rw[EI] at h⊢;exact S _ _ h
 |⟨d,g,i⟩::r,K,K',E,E',e,J,h,S,hE=>by
  rcases g with _|⟨k,w⟩
  rw[Hi] at h⊢;exact WT h (λv bl q=>Ka q S hE) hE;rw[Hh] at h⊢;obtain⟨g,Y,V⟩:=h;exact⟨g,Y,atl V (λq=>WT q (λv bl q=>Ka q S hE) hE) λq=>Ka q S hE⟩
def abk:∀{l} {K K'} {E E'} {e:dh} {J},@tL G P l K E e J->(∀e J,K.v e J->K'.v e J)->(∀ch J,E.v ch J->E'.v ch J)->@tL G P l K' E' e J
 |[],K,K',E,E',e,J,h,S,hE=>by rw[Hj] at h⊢;exact S _ _ h
 |(o,Z)::r,K,K',E,E',e,J,h,S,hE=>by
  rw[Hl] at h⊢;exact Ka h (λe J k=>⟨k.1,abk k.2 S hE⟩) hE
def rq(G:Cells)(P:Program)(cH:rm)(J:List br):Prop:=∀k rc,(k,rc)∈cH->∃bX ok st pd,J[k]?=a_ (.cc st pd bX rc.ps.toArray ok)/\
 To G P k bX rc.ps ok (λhi e J=>@eg G P bh rc.a ⟨hi⟩ e J) (λhi e J=>@eg G P bh rc.b ⟨hi⟩ e J) rc.e
def rq.keeps{bl}(h:rq G P cH J)(S:fT J bl):rq G P cH bl:=λk rc hm=>by
 obtain⟨bX,ok,st,pd,Y,V⟩:=h k rc hm;obtain⟨ga,k3,h3⟩:=S _ _ _ _ _ _ Y;exact⟨bX,ok,ga,k3,h3,V⟩
def Xk:rq G P [] J:=λk rc hm=>by cases hm
def Ez(G:Cells)(P:Program)(di:tC):Prop:=∀cH x args J k r,rq G P cH J->di cH x args (R (J.map b7)) k=a_ r->
 ((∀ch h,k (.fV ch) h=bn)->jK G P x args J λv bl=>k (.val v) (R (bl.map b7))=a_ r/\fT J bl)/\
 (∀f fs Z,x=.fn (.func f) fs Z->hO G P f (fs++args++Z) J (λv bl=>k (.val v) (R (bl.map b7))=a_ r/\fT J bl) λch bl=>k (.fV ch) (R (bl.map b7))=a_ r/\fT J bl)
def HP:∀{n:Nat} {x r:bg},cX (J.map b7) n x=a_ r->cX J n x=a_ r
 |0,x,r,h=>aF
 |n+1,x,r,h=>by
  have mp:∀{l} {m},j0 (cX (J.map b7) n) l=a_ m->j0 (cX J n) l=a_ m:=by
   intro l
   induction l with
   |nil=>intro m h;exact h
   |cons a l ih=>
    intro m h;simp only[j0] at h⊢;split at h;rename_i y hy;rw[HP hy];simp only;split at h;rename_i l' hl;rw[ih hl];exact h;cases h;cases h
  have DS:∀{l} {g} {y:bg},(j0 (cX (J.map b7) n) l).map g=a_ y->(j0 (cX J n) l).map g=a_ y:=by
   intro l g y h;rw[dm] at h⊢;obtain⟨m,Y,V⟩:=h;exact⟨m,mp Y,V⟩
  unfold cX at h⊢;cases x<;>simp only at h⊢
  case v=>exact h
  case bp=>exact h
  case agg=>exact DS h
  case bQ=>exact DS h
  case sl=>exact DS h
  case fp=>exact DS h
  case ep t x=>
   rw[dm] at h⊢;obtain⟨y,Y,V⟩:=h;exact⟨y,HP Y,V⟩
  case fn f a b=>
   simp only[gu] at h⊢;obtain⟨a',Y,V⟩:=h;exact⟨a',mp Y,DS V⟩
  case mp k off=>
   split at h;rename_i Z S;rw[rI S];exact DS h;cases h
  case rp k m off=>
   split at h;rename_i Z S;rw[rI S];simp only;split at h;rename_i T;rw[if_pos T];exact DS h;cases h;cases h
  case rs k m sz off len=>
   split at h;rename_i Z S;rw[rI S];simp only;split at h;rename_i T;rw[if_pos T];exact DS h;cases h;cases h
  all_goals cases h
def HD{f}{fs Z args}{K}:jK G P (.fn (.func f) fs Z) args J K=cy G P f (fs++args++Z) J K:=rfl
def ZW{k}:∀ch h,Jz k (.fV ch) h=bn:=λ_ _=>rfl
def alg{di:tC}(iL:Ez G P di){f}{dB}(h:Rv di f dB=a_ v):∃bs,qa dB bs/\dL G P f bs v:=by
 unfold Rv at h;split at h;rename_i bs Le;refine⟨bs,U_ Le,gr ?_⟩;have:=(iL [] (.fn (.func f) [] []) bs [] _ v Xk h).1 λ_ _=>rfl;rw[HD,gV,hJ] at this;exact cm this λr bl k=>⟨64,HP (by have:=k.1;rw[GH] at this;exact this)⟩;cases h
variable{di:tC}(iL:Ez G P di)
include iL
def awo{k}(fq:rq G P cH J)(h:wR i di cH e (R (J.map b7)) k=a_ r):
  @jB G P i ⟨λv bl=>k (.val v) (R (bl.map b7))=a_ r/\fT J bl⟩ ⟨λch bl=>k (.fV ch) (R (bl.map b7))=a_ r/\fT J bl⟩ e J:=by
 cases i with
 |op o=>
  simp only[wR,akY,gu] at h;obtain⟨⟨v,hE⟩,Y,V⟩:=h;obtain⟨bl,q1,rfl,bT⟩:=adm J v hE Y;exact⟨(v,bl),q1,V,bT⟩
 |call f args=>
  simp only[wR,C8,gu] at h;obtain⟨dB,Y,V⟩:=h;have:=(iL cH _ dB J _ r fq V).1 ZW;rw[HD,gV,hJ] at this;exact⟨dB,Y,this⟩
 |lO x args=>
  simp only[wR,rL,C8,gu] at h;obtain⟨x',h0,dB,Y,V⟩:=h;exact⟨x',h0,dB,Y,(iL cH _ dB J _ r fq V).1 ZW⟩
 |nB f args=>
  simp only[wR,C8,gu] at h;obtain⟨dB,Y,V⟩:=h;split at V;rename_i v hv;rw[zN] at V;obtain⟨bs,q1,bt⟩:=alg iL hv;exact⟨dB,Y,bs,v,q1,bt,V,su J⟩;cases V
 |oE f args r'=>
  simp only[wR,C8,gu] at h;obtain⟨dB,Y,V⟩:=h;split at V;rename_i v hv;rw[zN] at V;obtain⟨bs,q1,bt⟩:=alg iL hv;split at V;rename_i kV;have:=zG kV;subst this;exact⟨dB,Y,bs,q1,bt,V,su J⟩;cases V;cases V
 |pI f args=>
  simp only[wR,C8,gu] at h;obtain⟨dB,Y,V⟩:=h;have:=(iL cH _ dB J _ r fq V).2 f [] [] rfl;rw[gV,hJ] at this;exact⟨dB,Y,this⟩
 |pJ x args=>
  simp only[wR,rL,gu] at h;obtain⟨x',h0,V⟩:=h;split at V;rename_i f fs Z;simp only[C8,gu] at V;obtain⟨dB,Y,V⟩:=V;exact⟨_,h0,dB,Y,(iL cH _ dB J _ r fq V).2 f fs Z rfl⟩;cases V
 |fV x=>
  simp only[wR,rL,gu] at h;obtain⟨x',h0,V⟩:=h;split at V;rename_i v hv;exact⟨v,by rw[h0];exact hv,V,su J⟩;cases V
def amN{o}{next}{bz}{kp}{l}{K}(fq:rq G P cH J)(h:R0 o next di cH e (R (J.map b7)) bz kp=a_ r)
  (hn:∀e bl,fT J bl->next di cH e (R (bl.map b7)) bz kp=a_ r->@j4 G P l K E e bl) (hE:∀ch bl,fT J bl->kp ch (R (bl.map b7))=a_ r->E.v ch bl):@j4 G P (o::l) K E e J:=by
 obtain⟨d,g,i⟩:=o;have so:wR i di cH e (R (J.map b7)) (λo h'=>XX d next o di cH e h' bz kp)=a_ r->@jB G P i ⟨λv bl=>@j4 G P l K E (pX d v e) bl⟩ E e J:=λq=>by
  refine WT (awo iL fq q) (λv bl ⟨k1,k2⟩=>?_) λch bl ⟨k1,k2⟩=>hE ch bl k2 (by cases d<;>exact k1);refine hn _ bl k2 ?_;cases d<;>exact k1
 cases g with
 |none=>rw[Hi];exact so h
 |some atm=>
  obtain⟨g,w⟩:=atm;rw[Hh];simp only[R0,O2,gu] at h;obtain⟨v,Y,V⟩:=h;refine⟨v,Y,?_⟩;dsimp only;split at V
  · rename_i b
    cases I:Bool.xor b w with
    |false=>
     rw[I] at V
     have O:b=w:=by cases b<;>cases w<;>first|rfl|cases I
     subst O;cases b with
     |true=>exact⟨λ_=>so V,nofun⟩
     |false=>exact⟨nofun,λ_=>so V⟩
    |true=>
     rw[I] at V;have no:=hn _ J (su J) V
     cases b<;>cases w<;>first|(cases I;done)|skip
     exact⟨nofun,λ_=>no⟩;exact⟨λ_=>no,nofun⟩
  exact hn _ J (su J) V;cases V
def Rl:∀{l} {cH:rm} {e:dh} {J} {bz} {kp} {r:bg},rq G P cH J->MA l di cH e (R (J.map b7)) bz kp=a_ r->
  @j4 G P l ⟨λe' bl=>bz e' (R (bl.map b7))=a_ r/\fT J bl⟩ ⟨λch bl=>kp ch (R (bl.map b7))=a_ r/\fT J bl⟩ e J
 |[],cH,e,J,bz,kp,r,fq,h=>by rw[EI];exact⟨h,su J⟩
 |o::l,cH,e,J,bz,kp,r,fq,h=>by
  refine amN iL fq h (λe bl S q=>?_) λch bl S q=>⟨q,S⟩;exact Ka (Rl (fq.keeps S) q) (λe jr k=>⟨k.1,S.trans k.2⟩) λch jr k=>⟨k.1,S.trans k.2⟩
omit iL in
def aBD{c}(h:YS c e (R (J.map b7))=bh):q2 c e J:=by
 unfold YS at h;unfold q2;split at h;rename_i o d Q hd;have so:(match gC e d,r4 o e (R (J.map b7)) λu _=>a_ u with|some v,a_ u=>pK 64 u v|_,_=>bf)=bh->@gH _ (gC e d) ⟨λv=>@gH _ (cz e J o) ⟨λr=>r.1=v⟩⟩:=λq=>by
  split at q;rename_i v u hv hu;rw[akY,gu] at hu;obtain⟨⟨u',hE⟩,hu,h3⟩:=hu;cases h3;obtain⟨bl,q1,_,_⟩:=adm J _ hE hu;exact⟨v,hv,(_,bl),q1,zG q⟩;cases q
 rw[Q,hd];simp only;unfold afi at h;split at h;rename_i hg;split at hg;rename_i T;rw[T];exact so h;rename_i k w T;rw[T];split at hg;rename_i b S;simp only[mJ,beq_iff_eq] at hg;subst hg;refine⟨_,S,?_⟩;cases b with
 |true=>exact⟨λ_=>so h,nofun⟩
 |false=>exact⟨nofun,λ_=>so h⟩
 cases hg;cases hg;rename_i hg;have no:@gH _ (gC e d) ⟨λv=>v=jx⟩:=by
  split at h;rename_i v hv;exact⟨v,hv,zG h⟩;cases h
 split at hg;cases hg;rename_i k w T;rw[T];split at hg;rename_i b S;simp only[mJ,beq_eq_false_iff_ne,ne_eq] at hg;refine⟨_,S,?_⟩
 cases b<;>cases w<;>first|(exact(hg rfl).elim)|skip
 exact⟨nofun,λ_=>no⟩;exact⟨λ_=>no,nofun⟩;rename_i S;exact⟨_,S,no⟩;cases hg;cases h;cases h
def ak1:∀{l} {cH:rm} {e:dh} {J} {bz} {kp} {r:bg},rq G P cH J->ak0 l di cH e (R (J.map b7)) bz kp=a_ r->
  @tL G P l ⟨λe' bl=>bz e' (R (bl.map b7))=a_ r/\fT J bl⟩ ⟨λch bl=>kp ch (R (bl.map b7))=a_ r/\fT J bl⟩ e J
 |[],cH,e,J,bz,kp,r,fq,h=>by rw[Hj];exact⟨h,su J⟩
 |(o,Z)::l,cH,e,J,bz,kp,r,fq,h=>by
  rw[Hl];refine amN iL fq h (λe bl S q=>?_) λch bl S q=>⟨q,S⟩;rw[EI];dsimp only at q⊢;split at q;rename_i lT;refine⟨?_,abk (ak1 (fq.keeps S) q) (λe jr k=>⟨k.1,S.trans k.2⟩) λch jr k=>⟨k.1,S.trans k.2⟩⟩;clear q h
  induction Z with
  |nil=>trivial
  |cons c Z ih=>
   simp only[oJ,fA] at lT;exact⟨aBD lT.1,ih lT.2⟩
  cases q
omit iL in
def azx{a:eG}{nest}{f}{k:Cw}{gj:List br}(fq:rq G P cH gj)(hf:∀e J k,rq G P cH J->f e (R (J.map b7)) k=a_ r->@eg G P nest a ⟨λx e' bl=>k x e' (R (bl.map b7))=a_ r/\fT J bl⟩ e J){m:Nat}(S:fT gj J)(h:Xt f m e (R (J.map b7)) k=a_ r):@eg G P nest (.loop a) ⟨λx e' bl=>k x e' (R (bl.map b7))=a_ r/\fT gj bl⟩ e J:=by
 rw[Nk];refine⟨λm e J=>Xt f m e (R (J.map b7)) k=a_ r/\fT gj J,m,⟨h,S⟩,λm e J ⟨Y,V⟩=>?_⟩;cases m with
 |zero=>cases Y
 |succ m=>
  refine sj (hf e J _ (fq.keeps V) Y) λx e' bl ⟨k1,k2⟩=>?_;cases x with
  |normal=>exact⟨m,AX m,k1,V.trans k2⟩
  |_=>exact⟨k1,V.trans k2⟩
omit iL in
def Xa{k:Nat}{ga}{k3}(S:J[k]?=a_ (.cc st pd bX ps ok)):fT J (J.set k (.cc ga k3 bX ps ok)):=λj iE alb aFr aHa X9 h=>by
 by_cases e:k=j;subst e;rw[S] at h;cases h;exact⟨ga,k3,bV (cJ.1 S).1⟩;exact⟨iE,alb,aI6⟩
omit iL in
def KP{k:Nat}:(J.set k (.cc st pd bX ps ok)).map b7=(J.map b7).set k (Ap st (match st with|.busy=>bn|_=>pd)):=by
 rw[xw];rfl
omit iL in
def Bc:type_of% @adw/\type_of% @OU.eq_1/\type_of% @ads/\type_of% @OR.eq_1/\type_of% @Kz/\type_of% @E5.eq_1/\type_of% @ado/\type_of% @OM.eq_1/\type_of% @Kx/\type_of% @E2.eq_1/\type_of% @adp/\type_of% @ON.eq_1/\type_of% @adv/\type_of% @OT.eq_1/\type_of% @adr/\type_of% @OP.eq_1/\type_of% @adt/\type_of% @OQ.eq_def/\type_of% @adu/\type_of% @OS.eq_1/\type_of% @Ky/\type_of% @E4.eq_1/\type_of% @adq/\type_of% @OO.eq_1:=
 ⟨@adw,@OU.eq_1,@ads,@OR.eq_1,@Kz,@E5.eq_1,@ado,@OM.eq_1,@Kx,@E2.eq_1,@adp,@ON.eq_1,@adv,@OT.eq_1,@adr,@OP.eq_1,@adt,@OQ.eq_def,@adu,@OS.eq_1,@Ky,@E4.eq_1,@adq,@OO.eq_1⟩
def E3{b_:Nat}:∀{c:eG} {nest:Bool} {cH:rm} {e:dh} {J:List br} {k:Cw} {r:bg},rq G P cH J->lR c di b_ nest cH e (R (J.map b7)) k=a_ r->
  @eg G P nest c ⟨λx e' bl=>k x e' (R (bl.map b7))=a_ r/\fT J bl⟩ e J:=by
 intro c
 induction c with
 |skip L=>intro nest cH e J k r fq h;rw[Nr];simp only[Bc,w4] at h;exact⟨h,su J⟩
 |lab L=>intro nest cH e J k r fq h;rw[Nj];simp only[Bc,w4] at h;exact⟨h,su J⟩
 |bad=>intro nest cH e J k r fq h;cases h
 |exit id L=>intro nest cH e J k r fq h;rw[Ni];simp only[Bc,w4] at h;exact⟨h,su J⟩
 |ret L=>intro nest cH e J k r fq h;rw[Np];simp only[Bc,w4] at h;exact⟨h,su J⟩
 |region ops L=>
  intro nest cH e J k r fq h;rw[Nn];simp only[Bc,w4] at h;exact Rl iL fq h
 |qw l L=>
  intro nest cH e J k r fq h;rw[No];simp only[Bc,w4] at h;exact ak1 iL fq h
 |q3 ls L=>
  intro nest cH e J k r fq h;rw[JC];cases ls with
  |nil=>cases h
  |cons l0 ls=>
   simp only[Bc,w4] at h;split at h;rename_i t _;split at h;rename_i x I;split at h;rename_i lT;cases h;refine⟨ZF t,λl hl=>?_⟩;rw[fB] at hl
   rcases hl with rfl|hl
   exact Rl iL fq I;have:=eO.1 lT l hl;split at this;rename_i y hy;rw[<-zG this] at hy;exact Rl iL fq hy;cases this;cases h;cases h;cases h
 |seq a b jQ s8=>
  intro nest cH e J k r fq h;rw[GI];simp only[Kz,E5,Kx,E2,Ky,E4] at h;refine sj (jQ fq h) λx e' bl ⟨k1,k2⟩=>?_;cases x with
  |normal=>exact sj (s8 (fq.keeps k2) k1) λx e2 jr ⟨q1,bt⟩=>⟨q1,k2.trans bt⟩
  |_=>exact⟨k1,k2⟩
 |cond c a b jQ s8=>
  intro nest cH e J k r fq h;rw[Nh];simp only[Bc,rL,gu] at h;obtain⟨v,Y,V⟩:=h;refine⟨v,Y,?_⟩;dsimp only;split at V;exact⟨λ_=>jQ fq V,nofun⟩;exact⟨nofun,λ_=>s8 fq V⟩;cases V
 |block id a jQ=>
  intro nest cH e J k r fq h;rw[Ca];simp only[Kz,E5,Kx,E2,Ky,E4] at h;refine sj (jQ fq h) λx e' bl ⟨k1,k2⟩=>?_;cases x with
  |exit nx=>
   simp only[wu];dsimp only at k1;split at k1;rename_i hq;rw[if_pos (sA hq)];exact⟨k1,k2⟩;rename_i hq;rw[if_neg (λq=>by subst q;rw[Nat.beq_refl] at hq;cases hq)];exact⟨k1,k2⟩
  |_=>exact⟨k1,k2⟩
 |scope a jQ=>
  intro nest cH e J k r fq h;rw[Nq];simp only[Kz,E5,Kx,E2,Ky,E4] at h;refine sj (jQ fq h) λx e' bl ⟨k1,k2⟩=>?_;cases x with
  |goto l=>cases k1
  |_=>exact⟨k1,k2⟩
 |loop a jQ=>
  intro nest cH e J k r fq h;exact azx fq (λe J k fq h=>jQ fq h) (su J) h
 |qZ x ps a b L jQ s8=>
  intro nest cH e J k r fq h;rw[AH];simp only[Bc,rL,gu] at h;obtain⟨v,Y,V⟩:=h;split at V
  · rename_i g fs Z
    refine⟨g,fs,Z,Y,λk0 wL bX ok hR=>?_⟩;have Ij:J.map b7++(if nest=bh then [] else [.obj (.deferred bn)])=(J++marks nest).map b7:=by
     rw[gQ];cases nest<;>rfl
    have Dl:(J++marks nest).map b7++[Ap .ready bn]=(J++marks nest++[pe .ready bn bX ps.toArray ok]).map b7:=by
     rw[gQ (l₁:=J++marks nest)];rfl
    have V:di ((k0,⟨ps,a,b,e⟩)::cH) (.fn (.func g) [] []) (fs++[.iV k0]++Z) (R ((J++marks nest++[pe .ready bn bX ps.toArray ok]).map b7)) (Jz λ_ h'=>YO k0 L e k h')=a_ r:=by
     have rn:∀H,(R H).n=H.length:=λ_=>rfl;rw[<-Dl,<-Ij];cases nest with
     |true=>
      simp only[Rx,uY,rn] at V;simp only[marks,if_true,hJ] at wL⊢;rw[dj,<-wL] at V;exact V
     |false=>
      simp only[Rx,uY,rn] at V;simp only[marks,kz,if_false] at wL⊢;rw[en,dj,p8] at V;rw[en,p8] at wL;rw[<-wL] at V;exact V
    have jF:(J++marks nest++[pe .ready bn bX ps.toArray ok])[k0]?=a_ (.cc .ready bn bX ps.toArray ok):=by
     rw[wL,fF (ck _),lM];rfl
    have avZ:rq G P ((k0,⟨ps,a,b,e⟩)::cH) (J++marks nest++[pe .ready bn bX ps.toArray ok]):=λj rc hm=>by
     rcases fB.1 hm with hm|hm
     cases hm;exact⟨bX,ok,.ready,bn,jF,hR⟩;exact(fq.keeps (Ao.trans Ao)) j rc hm
    have:=(iL _ _ _ _ _ r avZ V).1 ZW;rw[HD,gV,hJ] at this;refine cm this λv bl ⟨q1,bt⟩=>?_;obtain⟨st,pd,eU⟩:=bt _ _ _ _ _ _ jF;refine⟨st,pd,eU,?_⟩;have he:(bl.map b7)[k0]?=a_ (b7 (.cc st pd bX ps.toArray ok)):=by rw[fL,eU];rfl
    simp only[Jz,YO,BQ,he,b7,l7] at q1;have Ig:fT J (bl.set k0 (.cc .exhausted pd bX ps.toArray ok)):=(Ao.trans Ao).trans (bt.trans (Xa eU));have FN:(bl.set k0 (.cc .exhausted pd bX ps.toArray ok)).map b7=(bl.map b7).set k0 (Ap .exhausted pd):=KP;cases st<;>simp only[reduceCtorEq,ne_eq,not_false_eq_true,not_true_eq_false,true_and,false_and] at q1⊢
    all_goals
     rw[Jy,he] at q1;simp only[l7] at q1;rw[<-FN] at q1;cases pd with
     |none=>simp only[w4] at q1;exact⟨q1,Ig⟩
     |some c=>
      cases c with
      |ret=>simp only[w4] at q1;exact⟨q1,Ig⟩
      |exit id=>simp only[w4] at q1;exact⟨q1,Ig⟩
      |_=>cases q1
  cases V
end
end
section
variable{J:List br}{r:bg}{di:tC}{cH:rm}{f:FuncId}{pL:kC}{args:List bg}
section
variable{G:Cells}{P:Program}{hc:FuncId->Option (kC×Nat)}{qu:FuncId->List bg->Option bg}{b_:Nat}
def Tu(P:Program)(hc:FuncId->Option (kC×Nat)):Prop:=∀f pL pu,hc f=a_ (pL,pu)->JY P f pL
def Tm(G:Cells)(P:Program)(hc:FuncId->Option (kC×Nat))(qu:FuncId->List bg->Option bg):Prop:=∀f args r,hc f=bn->qu f args=a_ r->dL G P f args r
def aBM{e:dh}{rs}(h:kO e (J.map b7) rs=a_ r):kO e J rs=a_ r:=by
 have key:∀{rs} {l},th e (J.map b7) rs=a_ l->th e J rs=a_ l:=by
  intro rs
  induction rs with
  |nil=>intro l h;exact h
  |cons x rs ih=>
   intro l h;simp only[th,gu,dm] at h⊢;obtain⟨a,Y,l',V,h3⟩:=h;refine⟨a,?_,l',ih V,h3⟩;cases x with
   |s t=>exact Y
   |c t bM n=>
    simp only[Ax,gu] at Y⊢;obtain⟨p,q1,bt⟩:=Y;exact⟨p,q1,abX bt⟩
 unfold kO at h⊢;rw[dm] at h⊢;obtain⟨l,Y,V⟩:=h;exact⟨l,key Y,V⟩
def UE{n0:Nat}{bl}(h:nH n0 J bl):bl.map b7=J.map b7/\fT J bl:=by
 constructor;apply Et;intro k;rw[fL,fL]
 rcases h.2 k with q|⟨_,q1,bt⟩
 rw[q];rw[q1,bt];rfl;intro k st pd bX ps ok S
 rcases h.2 k with q|⟨_,q1,bt⟩
 exact⟨st,pd,by rw[q];exact S⟩;rw[q1] at S;cases S
def anM:∀{l} {xs},Sp l=a_ xs->SD xs=a_ l/\lE.I8 xs=bh
 |[],xs,h=>by cases h;exact⟨rfl,rfl⟩
 |x::r,xs,h=>by
  simp only[Sp] at h;split at h;rename_i J;split at h;rename_i l hl;cases h;obtain⟨Y,V⟩:=anM hl;exact⟨by simp[SD,rG,Y],by simp[lE.I8,lE,J,V]⟩;cases h;cases h
def aEu{v}{x:bg}(h:ZT v=a_ x):w7 x=bh/\qJ x=a_ v:=by
 unfold ZT at h;split at h;rename_i t Z;split at h;rename_i l hl;cases h;obtain⟨Y,V⟩:=anM hl;exact⟨by simp[w7,lE,V],by simp[qJ,rG,Y]⟩;cases h;rename_i t x _;split at h;rename_i J;cases h;exact⟨by simp[w7,lE,J],by simp[qJ,rG]⟩;cases h;cases h
def aju:∀{l} {ks},QK l=a_ ks->l=ks.map λk=>.mp k 0
 |[],ks,h=>by cases h;rfl
 |x::r,ks,h=>by
  unfold QK at h;split at h;rename_i kV;cases kV;rename_i k r' kV;cases kV;split at h;rename_i l hl;cases h;rw[aju hl];rfl;cases h;cases h
def alS:∀{xs} {k} {r:bg},RH xs k=a_ r->∃l:List UInt8,xs=l.map (λc=>.v (.int .u8 c.toNat))/\k l=a_ r
 |[],k,r,h=>⟨[],rfl,h⟩
 |x::xs,k,r,h=>by
  unfold RH at h;split at h;rename_i kV;cases kV;rename_i k' n r' kV;cases kV;split at h;rename_i hn;have hn:=p9 hn;obtain⟨l,Y,V⟩:=alS h;refine⟨uG n::l,?_,V⟩;rw[fM,<-Y];have:(uG n).toNat=n:=ah
  rw[this];rfl;cases h;cases h
variable(hm:P.follows .mixedOrders=bh)(hT:Tu P hc)
include hm hT
def aB5(iL:Ez G P di){g}{ks}{x}{v}{k}(fq:rq G P cH J)
  (I:match x,v with|none,bn=>True|some x,a_ v=>w7 x=bh/\qJ x=a_ v|_,_=>False)
  (h:Jg hc di b_ cH g ks x (R (J.map b7)) k=a_ r):kB G P g (ks.map λk=>.mp k 0) J v λbl=>k (R (bl.map b7))=a_ r/\fT J bl:=by
 unfold Jg at h;split at h;rename_i n d0 d1 c pu atO;obtain⟨⟨hb,F⟩,hf,h0,Y⟩:=hT _ _ _ atO;split at h;rename_i hn;refine adJ hm F hf ⟨h0,Y⟩ aIa I ?_;refine sj (E3 iL fq h) λx e' bl ⟨q1,bt⟩=>?_;cases x with
 |normal=>exact⟨q1,bt⟩
 |ret=>exact⟨q1,bt⟩
 |_=>cases q1
 cases h;cases h
def U2(iL:Ez G P di)(ow:JY P f pL){k}(fq:rq G P cH J)
  (h:zM hc pL di b_ cH args (R (J.map b7)) k=a_ r):hO G P f args J (λv bl=>k (.val v) (R (bl.map b7))=a_ r/\fT J bl) λch bl=>k (.fV ch) (R (bl.map b7))=a_ r/\fT J bl:=by
 have B1:∀{rs} {e:dh} {eD},fT J eD->Az rs e (R (eD.map b7)) k=a_ r->@gH _ (kO e eD rs) ⟨λv=>k (.val v) (R (eD.map b7))=a_ r/\fT J eD⟩:=λS q=>by
  rw[aBN,gu] at q;obtain⟨v,hv,q⟩:=q;exact⟨v,aBM hv,q,S⟩
 cases pL with
 |plain n rs c=>
  obtain⟨⟨hb,F⟩,hf⟩:=ow;simp only[zM] at h;split at h;rename_i hn;refine aeG hm F hf hn (sj (E3 iL fq h) λx e' bl ⟨q1,bt⟩=>?_);cases x with
  |normal=>exact B1 bt q1
  |ret=>exact B1 bt q1
  |panic ch=>exact⟨q1,bt⟩
  |_=>cases q1
  cases h
 |loops n rs c=>
  obtain⟨⟨hb,F⟩,hf⟩:=ow;simp only[zM] at h;split at h;rename_i hn;refine aeH hm F hf hn (sj (E3 iL fq h) λx e' bl ⟨q1,bt⟩=>?_);cases x with
  |normal=>
   intro jr he;obtain⟨w1,w2⟩:=UE he;have aBg:Az rs e' (R (jr.map b7)) k=a_ r:=by rw[w1];exact q1
   exact B1 (bt.trans w2) aBg
  |ret=>
   intro jr he;obtain⟨w1,w2⟩:=UE he;exact B1 (bt.trans w2) (by rw[w1];exact q1)
  |panic ch=>
   intro jr he;obtain⟨w1,w2⟩:=UE he;refine⟨?_,bt.trans w2⟩;show k (.fV ch) (R (jr.map b7))=a_ r;rw[w1];exact q1
  |_=>cases q1
  cases h
 |rH n rs a t g caps b=>
  obtain⟨⟨hb,F⟩,Lo,Lp,ht⟩:=ow;simp only[zM] at h;split at h;rename_i hn;refine Em (aeF hm F Lo Lp ht hn (sj (E3 iL fq h) λx e1 eD ⟨q1,bt⟩=>?_));cases x with
  |normal=>
   simp only[C8,gu] at q1;obtain⟨dB,w1,w2⟩:=q1;split at w2;rename_i ks Bs;rw[Fc uY] at w2;refine⟨ks,by rw[w1,aju Bs],sj (E3 iL (fq.keeps bt) w2) λx e2 jr ⟨u1,u2⟩=>?_⟩;have fin:∀{x} {v},(match x,v with|none,bn=>True|some x,a_ v=>w7 x=bh/\qJ x=a_ v|_,_=>False)->Jg hc di b_ cH g ks x (R (jr.map b7)) (λh3=>Az rs e2 h3 k)=a_ r->
     kB G P g (ks.map λk=>.mp k 0) jr v λbl=>@gH _ (kO e2 bl rs) ⟨λv=>k (.val v) (R (bl.map b7))=a_ r/\fT J bl⟩:=λI q=>
    kB.mono (aB5 hm hT iL (fq.keeps (bt.trans u2)) I q) λwN ⟨cg,z2⟩=>B1 ((bt.trans u2).trans z2) cg
   cases x with
   |normal=>exact fin (v:=bn) trivial u1
   |ret=>exact fin (v:=bn) trivial u1
   |panic ch=>
    split at u1;rename_i kV;cases kV;rename_i kV;cases kV;rename_i v kV;cases kV;split at u1;rename_i xv avT;exact⟨v,rfl,fin (aEu avT) u1⟩;cases u1;cases u1
   |_=>cases u1
   cases w2
  |_=>cases q1
  cases h
 |Gn n d0 d1 c=>cases h
 |Q6 l=>simp only[zM] at h;cases h
 |Ot t=>
  simp only[zM] at h;split at h;rename_i b;unfold ac5 at h;rw[BQ,gu] at h;obtain⟨blk,H7,h⟩:=h;split at h;rename_i b' t' z;have O:=rI H7;split at h;rename_i T;simp only[fA,vR] at T;obtain⟨⟨rfl,Y⟩,V⟩:=T;have ht:=Prod.ext Y V;subst ht;rw[Jy,H7] at h;refine Em (cm (acQ ow O) ?_);rintro r' bl ⟨rfl,rfl⟩;have hs:(J.set b' (.cells (.mp b' 0::z) bf)).map b7=(J.map b7).set b' (.cells (.mp b' 0::z) bf):=aHA
  rw[hs];exact⟨h,yg O nofun⟩;cases h;rename_i b' z;have O:=rI H7;split at h;rename_i T;have:=sA T;subst this;refine Em (cm (acT ow O) ?_);rintro r' bl ⟨rfl,rfl⟩;exact⟨h,su _⟩;cases h;cases h;cases h
 |Ox e=>
  simp only[zM] at h;split at h;rename_i b;unfold anc at h;rw[BQ,gu] at h;obtain⟨blk,H7,h⟩:=h;split at h;rename_i c0;have O:=rI H7;refine Em (cm (acS ow O) ?_);rintro r' bl ⟨rfl,rfl⟩;exact⟨h,su _⟩;rename_i c0 xs id;rw[BQ,gu] at h;obtain⟨aFB,at4,h⟩:=h;split at h;rename_i n e';split at h;rename_i T;simp only[fA,vR] at T;obtain⟨⟨⟨Y,V⟩,h3⟩,h4⟩:=T;have h3:=p9 h3;have h4:=p9 h4;obtain⟨l,hl,S⟩:=alS h;subst hl;subst V;have hn:n=l.length:=by rw[Y,dj]
  subst hn;refine Em (cm (acR ow (rI H7) (UQ at4) (by intro e;subst e;simp at h3) h4) ?_);rintro r' bl ⟨rfl,rfl⟩;exact⟨S,su _⟩;cases h;cases h;cases h;cases h
omit hm hT in
def aet{k:Nat}:∀{cH:rm} {rc} {Ei:rm},Pj k cH=a_ (rc,Ei)->(k,rc)∈cH/\∀x∈Ei,x∈cH
 |[],_,_,h=>aF
 |(j,r)::cH,rc,Ei,h=>by
  simp only[Pj] at h;split at h;rename_i e;subst e;cases h;exact⟨AV,λx I=>uD _ I⟩;obtain⟨Y,V⟩:=aet h;exact⟨uD _ Y,λx I=>uD _ (V x I)⟩
def aqD(Bo:Tm G P hc qu){di:tC}(iL:Ez G P di):Ez G P (CS hc qu b_ di):=by
 intro cH x args J k r fq h;have fn:∀f fs Z,x=.fn (.func f) fs Z->hO G P f (fs++args++Z) J (λv bl=>k (.val v) (R (bl.map b7))=a_ r/\fT J bl) λch bl=>k (.fV ch) (R (bl.map b7))=a_ r/\fT J bl:=by
  intro f fs Z I;subst I;simp only[CS] at h;rw[Fc λ_ _=>rfl] at h;split at h;rename_i Vz;split at h;rename_i bs Le;split at h;rename_i v hv;rw[zN] at h;exact Em (gO (Bo _ _ _ Vz hv) (U_ Le) ⟨h,su J⟩);cases h;cases h;rename_i pL pu Vz;have ow:=hT _ _ _ Vz;split at h;exact U2 hm hT iL ow fq h;split at h;rename_i v hv;rw[zN] at h;have gj:cy G P f (fs++args++Z) J λr bl=>(bl.map b7).take J.length=J.map b7/\fT J bl/\∃n,cX (nR J.length bl) n r=a_ v:=by
   have:=U2 hm hT iL ow fq hv;refine hO.ok ⟨this.1,λbase w0 C M w cZ hs D=>(this.2 base w0 C M w cZ hs D).mono λe w' ⟨bI,M',bl,Y,V,h3⟩=>⟨bI,M',bl,Y,V,?_⟩⟩
   rcases h3 with⟨v',u',q,rest⟩|⟨ch,q,rest⟩
   refine bD ⟨v',u',?_,rest⟩;obtain⟨q1,bt⟩:=q;simp only[adi] at q1;split at q1;rename_i Wz;refine⟨aCo Wz,bt,64,?_⟩;have rn:(R (J.map b7)).n=J.length:=dj _;rw[rn,GH,azN] at q1;exact HP q1;cases q1;exact(by cases q.1)
  refine Em (cm (cy.close gj) ?_);rintro r' bl ⟨rfl,q1,bt⟩;exact⟨by rw[q1];exact h,bt⟩;cases h;split at h;rename_i bs Le;split at h;rename_i v hv;rw[zN] at h;have gj:cy G P f bs [] λv' bl=>∃n,cX bl n v'=a_ v:=by
   have:=U2 hm hT iL ow (J:=[]) (Xk (J:=[])) hv;refine hO.ok ⟨this.1,λbase w0 C M w cZ hs D=>(this.2 base w0 C M w cZ hs D).mono λe w' ⟨bI,M',bl,Y,V,h3⟩=>⟨bI,M',bl,Y,V,?_⟩⟩
   rcases h3 with⟨v',u',q,rest⟩|⟨ch,q,rest⟩
   exact bD ⟨v',u',⟨64,HP (by have:=q.1;simp only[Gk,GH] at this;exact this)⟩,rest⟩;exact(by cases q.1)
  exact Em (gO (gr gj) (U_ Le) ⟨h,su J⟩);cases h;cases h
 refine⟨λIm=>?_,fn⟩;cases x with
 |fn f fs Z=>
  cases f with
  |func f=>
   rw[HD];have:=fn f fs Z rfl;refine hO.ok ⟨this.1,λbase w0 C M w cZ hs D=>(this.2 base w0 C M w cZ hs D).mono λe w' ⟨bI,M',bl,Y,V,h3⟩=>⟨bI,M',bl,Y,V,?_⟩⟩
   rcases h3 with q|⟨ch,q,rest⟩
   exact bD q;rw[Im] at q;exact(by cases q.1)
  |method nm=>
   cases fs with
   |cons a b=>simp only[CS] at h;cases h
   |nil=>
    simp only[CS] at h;split at h;rename_i t x rest;split at h;rename_i l pu atP;split at h;rename_i g hg;have Y:=hT _ _ _ atP _ (UZ hg);have V:=(iL _ _ _ _ _ _ fq h).1 Im;rw[HD,gV,hJ] at V;exact⟨t,x,rest,g,rfl,Y,V⟩;cases h;cases h;cases h
  |_=>simp only[CS] at h;cases h
 |iV k0=>
  simp only[CS] at h;split at h;rename_i rc Ei VZ;obtain⟨Ii,avB⟩:=aet VZ;obtain⟨bX,ok,st,pd,jF,hR⟩:=fq k0 rc Ii;have agK:rq G P Ei J:=λj RC hj=>fq j RC (avB _ hj);split at h;rename_i c7;rw[BQ,gu] at h;obtain⟨blk,LO,h⟩:=h;split at h;rename_i ala a0 b0 c0;obtain⟨k3,Km,ps',Mu,eD,jr⟩:=ad7 LO;rw[jF] at eD;cases eD;refine hR args J _ c7 ⟨pd,jF⟩ ?_;refine sj (E3 iL agK h) λx e1 eD ⟨q1,bt⟩=>?_;cases x with
  |normal=>
   dsimp only at q1;rw[BQ,gu] at q1;obtain⟨aFA,agu,q1⟩:=q1;split at q1;rename_i alb a1 b1 c1;obtain⟨yH,gq,Bz⟩:=bt _ _ _ _ _ _ jF;obtain⟨BV,aFs,aHb,aG5,wN,_⟩:=ad7 agu;rw[Bz] at wN;cases wN;rw[Jy,agu] at q1;simp only[l7] at q1;refine⟨⟨gq,Bz⟩,λalc=>?_⟩;have FN:(eD.map b7).set k0 (Ap .busy bn)=(eD.set k0 (.cc .busy alc bX rc.ps.toArray ok)).map b7:=KP.symm;rw[FN] at q1;have gD:fT J (eD.set k0 (.cc .busy alc bX rc.ps.toArray ok)):=bt.trans (Xa Bz);refine sj (E3 iL (agK.keeps gD) q1) λx e2 jr ⟨u1,u2⟩=>?_;obtain⟨R6,Rr,LQ⟩:=(gD.trans u2) _ _ _ _ _ _ jF;have he:(jr.map b7)[k0]?=a_ (b7 (.cc R6 Rr bX rc.ps.toArray ok)):=by rw[fL,LQ];rfl
   simp only[alQ,BQ,he,b7,l7] at u1;have hk2:∀st pd,fT J (jr.set k0 (.cc st pd bX rc.ps.toArray ok)):=λst pd=>(gD.trans u2).trans (Xa LQ);cases x with
   |normal=>
    dsimp only at u1;rw[Jy,he] at u1;simp only[l7] at u1;refine⟨⟨R6,Rr,LQ⟩,?_,hk2 _ _⟩;rw[KP];exact u1
   |ret=>
    dsimp only at u1;rw[Jy,he] at u1;simp only[l7] at u1;refine⟨⟨R6,Rr,LQ⟩,?_,hk2 _ _⟩;rw[KP];exact u1
   |exit id=>
    dsimp only at u1;rw[Jy,he] at u1;simp only[l7] at u1;refine⟨⟨R6,Rr,LQ⟩,?_,hk2 _ _⟩;rw[KP];exact u1
   |_=>cases u1
   cases q1
  |_=>cases q1
  cases h;cases h;cases h
 |_=>simp only[CS] at h;cases h
def aec(Bo:Tm G P hc qu):∀d,Ez G P (KQ hc qu b_ d)
 |0=>λcH x args J k r fq h=>aF
 |d+1=>aqD hm hT Bo (aec Bo d)
inductive qe where
 |nil
 |node (l:qe) (k:FuncId) (pL:kC) (m:Nat) (r:qe)
noncomputable def qe.get(t:qe)(f:FuncId):Option (kC×Nat):=@qe.rec (λ_=>Option (kC×Nat)) bn
 (λ_ k pL m _ il awr=>@El (λ_=>Option (kC×Nat)) (@El (λ_=>Option (kC×Nat)) awr (a_ (pL,m)) (eI f k)) il (q_ f k)) t
def qe.dS(P:Program):qe->Prop
 |.nil=>True
 |.node l k pL _ r=>l.dS P/\JY P k pL/\r.dS P
omit hm hT in
def qe.KZ{m:Nat}:∀{t:qe},t.dS P->t.get f=a_ (pL,m)->JY P f pL
 |.nil,_,h=>aF
 |.node l k aen m' r,ho,h=>by
  obtain⟨Y,V,h3⟩:=ho;have hg:qe.get (.node l k aen m' r) f=@El (λ_=>Option (kC×Nat)) (@El (λ_=>Option (kC×Nat)) (r.get f) (a_ (aen,m')) (eI f k)) (l.get f) (q_ f k):=rfl;rw[hg] at h;cases O:q_ f k with
  |true=>rw[O] at h;exact qe.KZ Y h
  |false=>
   rw[O] at h;cases hq:eI f k with
   |true=>
    rw[hq] at h;cases h;rw[sA hq];exact V
   |false=>rw[hq] at h;exact qe.KZ h3 h
def aeb(Bo:Tm G P hc qu){d:Nat}(h:KQ hc qu b_ d [] (.fn (.func f) [] []) args (R []) Gk=a_ r):dL G P f args r:=by
 refine gr ?_;have:=(aec hm hT Bo d [] (.fn (.func f) [] []) args [] Gk r Xk h).1 λ_ _=>rfl;rw[HD,gV,hJ] at this;exact cm this λr bl k=>⟨64,HP (by have:=k.1;simp only[Gk,GH] at this;exact this)⟩
end
end
section
variable{w:World}{b o:Nat}{v x y:Value}{C:Cells}{M:List Loc}{J:List br}
section
variable{G:Cells}{P:Program}{f:FuncId}
def JZ(G:Cells)(w:World):Prop:=∀b o v,G b o=a_ v->w.cell? ⟨b,o,bn⟩=a_ v
def aqE(h:w.cell? ⟨b,o,bn⟩=a_ v):b<w.heap.size:=by
 rcases d_ b w.heap.size with q|q
 exact q;exfalso;unfold Es at h;dsimp only at h;have:w.heap[b]?=bn:=by simp[q]
 rw[this] at h;simp at h
def A7(w:World)(C:Cells)(w':World):Cells:=λb o=>if b<w.heap.size then C b o else(w'.cell? ⟨b,o,bn⟩).filter λv=> !vB v
def Tw{w'}(h:w.heap.size<=b)(T:w'.cell? ⟨b,o,bn⟩=a_ v)(hv:vB v=bf):A7 w C w' b o=a_ v:=by
 unfold A7;rw[if_neg aa,T];simp[SZ,hv]
def DZ{args}{r:bg}(he:Enters P f)(h:∀(C) (w) cZ,JZ G w/\EK w->(∀b o v,C b o=a_ v->pz G w b o v)->dn C [] [] args cZ->Calls P f cZ.toArray w λe w'=>∃v',e=.returned v'/\Below w.heap.size w w'/\bO (A7 w C w') [] [] r v'):dL G P f args r:=
 ⟨he,λC w cZ hg T D=>(h C w cZ ⟨λb o v q=>(T b o v (hg.1 b o v q)).1,hg.2⟩ T D).mono λe w' ⟨v',e1,O,iM⟩=>by
  refine⟨A7 w C w',v',e1,λb o v q=>?_,λb o v q=>?_,λb o v q=>?_,O,iM,trivial⟩;unfold A7;rw[if_pos (T b o v q).lt];exact q;unfold A7 at q;split at q;exact bD q;rename_i hn;exact bF aa;unfold A7 at q;split at q;rename_i hn;exact(T b o v q).keep (O.cell hn) λi=>O.frozen hn;cases hu:w'.cell? ⟨b,o,bn⟩ with
  |none=>rw[hu] at q;cases q
  |some u=>
   rw[hu] at q;simp only[SZ] at q;split at q;rename_i hs;cases q;exact⟨hu,λ_ hv=>by rw[hv] at hs;cases hs⟩;cases q⟩
def Gq:∀{xs l},dn C M J (xs.map .v) l->l=xs
 |[],[],_=>rfl
 |[],_::_,h=>by have:=h.1;simp at this
 |_::_,[],h=>by have:=h.1;simp at this
 |x::xs,y::l,h=>by
  have e:y=x:=by cases(h.2 0 _ _ rfl rfl);rfl
  have:=Gq ⟨aJa,λi a b ha O=>h.2 (i+1) a b aH7 aH⟩;rw[e,this]
def ali{xs:List Value}(he:Enters P f)(hv:plain v=bh)(h:∀w,JZ G w->Calls P f xs.toArray w λe w'=>e=.returned v/\Below w.heap.size w w'):dL G P f (xs.map .v) (.v v):=
 DZ he λC w cZ hg T D=>by
  rw[Gq D];exact(h w hg.1).mono λe w' ⟨Y,V⟩=>⟨v,Y,V,.v hv⟩
def alj(he:Enters P f)(hv:plain v=bh)(h:∀w,JZ G w->Calls P f #[x] w λe w'=>e=.returned v/\Below w.heap.size w w'):dL G P f [.v x] (.v v):=ali he hv h
def YA(he:Enters P f)(hv:plain v=bh)(h:∀w,JZ G w->Calls P f #[x,y] w λe w'=>e=.returned v/\Below w.heap.size w w'):dL G P f [.v x,.v y] (.v v):=ali he hv h
def aBI{vs:List Value}(hC:∀(i) v,vs[i]?=a_ v->C b i=a_ v)(bl:∀v∈vs,plain v=bh):bO C M J (.sl (vs.map .v) .no) (.slice (a_ ⟨b,0,bn⟩) vs.length vs.length):=by
 have:=bO.sl (M:=M) (J:=J) (xs:=vs.map .v) (t:=.no) (a:=⟨b,0,bn⟩) (cap:=vs.length) (λi j=>(vs[i]?).getD undef) (λ_=>rfl)
  (λi x I=>by
    rw[fL,dm] at I;obtain⟨v,_,rfl⟩:=I;rfl)
  (λi x j c I T=>by
    rw[fL,dm] at I;obtain⟨v,hv,rfl⟩:=I;cases j with
    |zero=>
     simp only[jy,n4,mJ] at T;rw[hv];simpa using hC i v hv
    |succ j=>simp[jy] at T)
  (λi x j c I T=>by
    rw[fL,dm] at I;obtain⟨v,hv,rfl⟩:=I;cases j with
    |zero=>
     simp only[jy,n4,mJ] at T;subst T;rw[hv];exact .v (bl v (cE hv))
    |succ j=>simp[jy] at T) trivial af
 rwa [dj] at this
def alE{a b:bg}(Y:bO C M J a x)(V:bO C M J b y):bO C M J (.bQ [a,b]) (.tuple #[x,y]):=.bQ rfl λi u v hu hv=>by
 match i with
 |0=>simp at hu hv;subst hu;subst hv;exact Y
 |1=>simp at hu hv;subst hu;subst hv;exact V
 |i+2=>simp at hu
def aqo{B}{k}{os}(h:B<=w.heap.size):Below B w (Go.Sort.grow (w.drewN k) os):=by
 refine⟨rfl,rfl,rfl,?_,λi Q=>?_⟩;simp;rw[Go.Sort.heap_grow_old _ _ ah];rfl
end
end
def M1{α:Type}(f:α->bg):Option (List α)->bg
 |none=>.bp
 |some l=>.sl (l.map f) .no
def amB{α}(f:α->bg)(o):cG (M1 f o) ((o.getD []).map f):=by
 cases o with
 |none=>exact bF ⟨rfl,rfl⟩
 |some l=>exact bD rfl
structure dV where
 kind:Int
 type:Int
 attr:Int
 rune:Int
 marks:List Int
def bq(n:Int):bg:=.v (.int .i64 n)
def jY(n:Int):bg:=.v (.int .i32 n)
def jw(n:Int):bg:=.v (.int .u16 n)
def dV.cells(t:dV):List bg:=bq t.kind::bq t.type::bq t.attr::jY t.rune::t.marks.map jw
def dV.bN(t:dV):bg:=.agg t.cells
def NZ(n:Int):Prop:= -9223372036854775808<=n/\n<=9223372036854775807
def aa5(n:Int):Prop:= -2147483648<=n/\n<=2147483647
structure dV.dS(t:dV):Prop where
 S:NZ t.kind
 ht:NZ t.type
 ha:NZ t.attr
 D:aa5 t.rune
 len:t.marks.length=8
 hm:∀x∈t.marks,0<=x/\x<65536
def EW{W}{c}{L}{Z}(h:pE W (c::L) Z):∃v r,Z=v::r/\vZ W c v/\pE W L r:=by
 cases Z with
 |nil=>have:=h.1;simp at this
 |cons v r=>exact⟨v,r,rfl,h.2 0 c v rfl rfl,aIF,λi a b ha O=>h.2 (i+1) a b ha O⟩
def Uh{W}{Z}(h:pE W [] Z):Z=[]:=nF h.1.symm
def Ks{W}{k}{v}(h:vZ W (.i k) v):∃n,v=.int k n/\(Lit.int k n).wf=bh:=by
 cases h with
 |i h=>exact⟨_,rfl,h⟩
def ZZ{n}(h:(Lit.int .i64 n).wf=bh):(-9223372036854775808<=n/\n<=9223372036854775807):=by
 simp[Lit.wf,aom,aol,JJ,JI] at h;exact⟨aa,aa⟩
def aEG{n}(h:(Lit.int .i32 n).wf=bh):(-2147483648<=n/\n<=2147483647):=by
 simp[Lit.wf,aom,aol,JJ,JI] at h;exact⟨aa,aa⟩
def aEF{n}(h:(Lit.int .u16 n).wf=bh):0<=n/\n<65536:=by
 simp[Lit.wf,aom,aol,JJ,JI] at h;omega
def Ay{C}{M}{J}{a:bg}{v}{dB}{vs}(h:bO C M J a v)(hs:dn C M J dB vs):dn C M J (a::dB) (v::vs):=
 ⟨by simp[hs.1],λi x y I hy=>by
  cases i with
  |zero=>simp at I hy;subst I;subst hy;exact h
  |succ i=>simp at I hy;exact hs.2 i x y I hy⟩
def YV{C}{M}{J}:dn C M J [] []:=⟨rfl,λi x y I=>aG⟩
def MQ{C}{M}{J}(k)(n):bO C M J (.v (.int k n)) (.int k n):=.v rfl
def ag0{W}:∀(n) {Z},pE W (e3 n (.i .u16)) Z->∃m:List Int,m.length=n/\(∀x∈m,0<=x/\x<65536)/\dn (sD W) [] [] (m.map λn=>cU (.int .u16 n)) Z
 |0,Z,h=>by
  rw[Uh h];exact⟨[],rfl,λx I=>aG,YV⟩
 |n+1,Z,h=>by
  obtain⟨v,r,rfl,Y,V⟩:=EW h;obtain⟨k,rfl,S⟩:=Ks Y;obtain⟨m,e,hm,D⟩:=ag0 n V;refine⟨k::m,by simp[e],λx I=>?_,Ay (MQ _ _) D⟩
  rcases fB.1 I with rfl|I
  exact aEF S;exact hm x I
def akZ{W}{e}{α}{f}{Ob:α->Prop}(hE:∀Z,pE W e Z->∃a,Ob a/\dn (sD W) [] [] (f a).cells Z)(hn:0<e.length){v}(h:vZ W (.sl e) v):
  ∃o:Option (List α),(∀x∈o.getD [],Ob x)/\bO (sD W) [] [] (M1 f o) v:=by
 cases h with
 |nil=>exact⟨bn,λx I=>aG,.bp⟩
 |sl g hl T gk hC hR=>
  rename_i a len cap;have each:∀i:Fin len,∃a,Ob a/\dn (sD W) [] [] (f a).cells ((kR e.length).map (g i.val)):=λi=>hE _ ⟨af,λj c v T hv=>by
   have hj:=(cJ.1 T).1;simp only[fL,aFi hj,jS,mJ] at hv;subst hv;exact hR i.val j c i.isLt T⟩
  have hg:∀(i) x,(List.ofFn λi=>(each i).choose)[i]?=a_ x->∃Q:i<len,Ob x/\dn (sD W) [] [] (f x).cells ((kR e.length).map (g i)):=λi x I=>by
   have Q:i<len:=by have:=(cJ.1 I).1;simpa using this
   rw[List.getElem?_ofFn] at I;simp only[Q,dif_pos,mJ] at I;subst I;exact⟨Q,(each ⟨i,Q⟩).choose_spec⟩
  generalize hl':(List.ofFn λi=>(each i).choose)=l at hg;have c7:l.length=len:=by rw[<-hl'];simp
  refine⟨a_ l,λx I=>?_,?_⟩;obtain⟨i,Q,rfl⟩:=Eu I;obtain⟨_,Y,_⟩:=hg i _ (cx Q);exact Y;have af8:(l.map f).length=len:=by simp[c7]
  have key:∀(i) (y:bg),(l.map f)[i]?=a_ y->∃Q:i<len,dn (sD W) [] [] y.cells ((kR e.length).map (g i)):=λi y hy=>by
   simp only[fL,dm] at hy;obtain⟨x,I,rfl⟩:=hy;obtain⟨Q,_,V⟩:=hg i x I;exact⟨Q,V⟩
  show bO (sD W) [] [] (.sl (l.map f) .no) (.slice (a_ a) len cap);rw[<-af8];refine .sl (sz:=e.length) g (λbR=>(gk (by rw[<-af8];exact NL.2 bR) hn)) (λi x I=>?_) (λi x j c I hj=>?_) (λi x j c I hj=>?_) trivial aa;obtain⟨_,V⟩:=key i x I;rw[V.1];simp;obtain⟨Q,V⟩:=key i x I;have sX:j<e.length:=aIe
  exact hC i j _ Q (cx sX);obtain⟨Q,V⟩:=key i x I;have sX:j<e.length:=aIe
  exact V.2 j c _ hj (by simp[aFi sX])
def aCz:List vX:=e3 8 (.i .u16)
def ZD:List vX:=.i .i64:: .i .i64:: .i .i64:: .i .i32::aCz
def anA{W}(Z)(h:pE W ZD Z):∃t:dV,t.dS/\dn (sD W) [] [] t.bN.cells Z:=by
 obtain⟨_,_,rfl,h0,g1⟩:=EW h;obtain⟨_,_,rfl,Y,g2⟩:=EW g1;obtain⟨_,_,rfl,V,g3⟩:=EW g2;obtain⟨_,_,rfl,h3,g4⟩:=EW g3;obtain⟨a,rfl,wa⟩:=Ks h0;obtain⟨b,rfl,wb⟩:=Ks Y;obtain⟨c,rfl,wc⟩:=Ks V;obtain⟨d,rfl,wd⟩:=Ks h3;obtain⟨m,oZ,Dq,D⟩:=ag0 8 g4;exact⟨⟨a,b,c,d,m⟩,⟨ZZ wa,ZZ wb,ZZ wc,aEG wd,oZ,Dq⟩,Ay (MQ _ _) (Ay (MQ _ _) (Ay (MQ _ _) (Ay (MQ _ _) D)))⟩
def aBC{P:Program}{ts:List TypeId}(h:(ts.all λt=>P.readableRec t&&decide (t<P.types.size))=bh):∀t∈ts,P.readableRec t=bh/\t<P.types.size:=λt ht=>by
 have:=eO.1 h t ht;simpa using this
set_option maxRecDepth 100000 in
def acX{P}{W}{base}{t e'}{e}{v}(ht:P.underlying t=a_ (.slice e'))(hv:NF P W .any base t v)(h:pE W [.sl e] v.cells.toList):vZ W (.sl e) v:=by
 obtain⟨w,r,e1,Y,V⟩:=EW h;rw[Uh V] at e1;have:v=w:=by
  cases v
  case agg Z=>simp[NF,ht,Cell.okWide,Cell.ok] at hv
  all_goals
   simp[AO] at e1;exact e1
 rw[this];exact Y
open Go.WideShapes
section
variable{H:Type}{enc:TypeId×Value->H}{P:Program}{W:World}{b:Nat}{sp:Nat->Bool}{Lm:Bool}
def agZ{t e}{n nO}{k}{Z}{ds:List Int}{p}(ht:P.underlying t=a_ (.array n e))(he:P.underlying e=a_ (.int k))(T:P.cellsOf e=1)
  (h:SF enc P W b sp Lm nO t Z=a_ (.agg (ds.map λi=>.lit (.int k i)),p)) (j:Nat) (i) (hj:ds[j]?=a_ i):Z[j]?=a_ (.int k i):=by
 obtain⟨xs,m,_,ex,c7,hl,sW⟩:=DataW.trod_array ht h;have e1:=DataW.agg.inj (Prod.mk.inj ex).1;have I:=congrArg (λl=>l[j]?) e1;simp only[fL,hj,jS] at I;have af5:j<xs.length:=by
  have Y:=congrArg JO e1;simp only[dj] at Y;have:=(cJ.1 hj).1;omega
 have Y:=sW j aa;rw[cx af5,T] at Y;rw[cx af5,jS] at I;obtain⟨z,a1,a2,_⟩:=DataW.trod_int he Y;rw[a2] at I;simp only[mJ,DataW.lit.injEq,Lit.int.injEq,true_and] at I;subst I;have V:=congrArg (λl=>l[0]?) a1;simpa using V
def iface_of_trod{t}{ms}{nO}{Z}{name}{d}{p}(ht:P.underlying t=a_ (.interface ms))
  (h:SF enc P W b sp bf nO t Z=a_ (.iface name d,p)):∃u v,Z=[.iface u v]:=by
 cases nO with
 |zero=>cases h
 |succ nO=>
  unfold SF at h;rw[ht] at h
  split at h<;>first|(cases h;done)|(rename_i q;cases q;done)|skip
  all_goals first|exact⟨_,_,rfl⟩|skip
  all_goals simp_all
end
open Go.Lib
def s7(n:Nat):List UInt8->Nat->Int
 |[],_=> -1
 |b::r,i=>match eI b.toNat n with
  |true=>.ofNat i
  |false=>s7 n r (i+1)
def Ow(b c:UInt8):eI b.toNat c.toNat=(b==c):=by
 rw[GQ,vR,beq_iff_eq];exact⟨λh=>UInt8.toNat_inj.1 h,λh=>by rw[h]⟩
def agO(c):∀(l) (i),s7 c.toNat l i=if indexByte l c= -1 then -1 else i+indexByte l c
 |[],i=>by simp[s7,indexByte]
 |b::r,i=>by
  have hge:=indexByte_ge r c;by_cases h:b=c;subst h;simp[s7,indexByte];have O:(b==c)=bf:=aR
  rw[s7,Ow,O];simp only[indexByte,O,kz,if_false,beq_iff_eq];rw[agO c r (i+1)];by_cases V:indexByte r c= -1;simp[V];rw[if_neg V,if_neg V,if_neg aa];omega
def WO(c)(l):s7 c.toNat l 0=indexByte l c:=by
 rw[agO];split;rename_i h;rw[h];simp
def jf(n:Nat):List UInt8->List (List UInt8)
 |[]=>[[]]
 |b::r=>match eI b.toNat n with
  |true=>[]::jf n r
  |false=>match jf n r with
   |[]=>[[b]]
   |h::t=>(b::h)::t
def aC7(n)(l):∃h t,jf n l=h::t:=by
 cases l with
 |nil=>exact⟨_,_,rfl⟩
 |cons b r=>
  simp only[jf];split;exact⟨_,_,rfl⟩;split<;>exact⟨_,_,rfl⟩
def R2(c):∀(l),indexByte l c= -1->jf c.toNat l=[l]/\l.count c=0
 |[],_=>⟨rfl,rfl⟩
 |b::r,h=>by
  simp only[indexByte] at h;have hge:=indexByte_ge r c;cases O:b==c with
  |true=>rw[O] at h;simp at h
  |false=>
   rw[O] at h;simp only[kz,if_false,beq_iff_eq] at h;have V:indexByte r c= -1:=by
    split at h
    assumption
    omega
   obtain⟨q1,bt⟩:=R2 c r V;refine⟨?_,?_⟩;simp only[jf,Ow,O,q1];rw[aoB,bt,O];simp
def R1(c):∀(l) (i:Nat),indexByte l c=i->jf c.toNat l=l.take i::jf c.toNat (l.drop (i+1))/\l.count c=(l.drop (i+1)).count c+1
 |[],i,h=>by simp only[indexByte] at h;omega
 |b::r,i,h=>by
  simp only[indexByte] at h;have hge:=indexByte_ge r c;cases O:b==c with
  |true=>
   rw[O] at h;simp at h;have Q:i=0:=aa
   subst Q;refine⟨?_,?_⟩;simp only[jf,Ow,O];try simp;simp only[gF,AT,pg];rw[aoB,O];simp
  |false=>
   rw[O] at h;simp only[kz,if_false,beq_iff_eq] at h;split at h;omega;cases i with
   |zero=>omega
   |succ i=>
    obtain⟨q1,bt⟩:=R1 c r i aa;refine⟨?_,?_⟩;simp only[jf,Ow,O,q1];simp;rw[aoB,bt,O];simp
def Zp(c):∀(k) (l),k=l.count c->splitK [c] 0 k l=jf c.toNat l
 |0,l,h=>by
  have Y:indexByte l c= -1:=by
   rcases Int.lt_or_le (indexByte l c) 0 with q|q
   have:=indexByte_ge l c;omega;obtain⟨i,Q⟩:=oI q;have:=(R1 c l i Q).2;omega
  rw[(R2 c l Y).1];rfl
 |k+1,l,h=>by
  unfold splitK;rw[index_one]
  rcases Int.lt_or_le (indexByte l c) 0 with q|q
  have:=(R2 c l (by have:=indexByte_ge l c;omega)).2;omega;obtain⟨i,Q⟩:=oI q;obtain⟨q1,bt⟩:=R1 c l i Q;rw[if_neg ah,Q,q1];have e:(i:Int).toNat=i:=rfl;rw[e,uE];congr 1;exact Zp c k _ ah
def ld:Nat->Nat->List UInt8
 |0,u=>[uG (48+u % 10)]
 |f+1,u=>match q_ u 10 with
  |true=>[uG (48+u)]
  |false=>ld f (u/10)++[uG (48+u % 10)]
def adQ:∀(f u),u<10^(f+1)->ld f u=decDigits u
 |0,u,h=>by
  have:u<10:=aR
  rw[decDigits,dif_pos this,ld,Nat.mod_eq_of_lt this]
 |f+1,u,h=>by
  rw[ld,decDigits];cases O:q_ u 10 with
  |true=>
   have:u<10:=p9 O;rw[dif_pos this]
  |false=>
   have:¬u<10:=λq=>by rw[show q_ u 10=bh from Nat.ble_eq_true_of_le q] at O;cases O
   rw[dif_neg this,adQ f (u/10) (by rw[Nat.pow_succ] at h;omega)]
section
variable{f:FuncId}{args:List bg}{hi:bg->Prop}
def dA(G:Cells)(P:Program)(f:FuncId)(args:List bg)(hi:bg->Prop):Prop:=
 Enters P f/\∀(C:Cells) (w:World) (cZ:List Value),Ta G C w->(∀b o v,C b o=a_ v->pz G w b o v)->dn C [] [] args cZ->
  Calls P f cZ.toArray w λe w'=>∃r,hi r/\∃bI v',e=.returned v'/\(∀b o v,C b o=a_ v->bI b o=a_ v)/\(∀b o v,bI b o=a_ v->C b o=a_ v\/w.heap.size<=b)/\
   (∀b o v,bI b o=a_ v->pz G w' b o v)/\Below w.heap.size w w'/\bO bI [] [] r v'
section
variable{G:Cells}{P:Program}
def dA.mono{Q':bg->Prop}(h:dA G P f args hi)(hq:∀r,hi r->Q' r):dA G P f args Q':=
 ⟨h.1,λC w cZ hg T D=>(h.2 C w cZ hg T D).mono λe w' ⟨r,q,rest⟩=>⟨r,hq r q,rest⟩⟩
def dL.q{f:FuncId}{args:List bg}{bS:bg}{hi:bg->Prop}(h:dL G P f args bS)(hq:hi bS):dA G P f args hi:=
 ⟨h.1,λC w cZ hg T D=>(h.2 C w cZ hg T D).mono λe w' ⟨bI,v',a,b,c,d,e1,g,_⟩=>⟨bS,hq,bI,v',a,b,c,d,e1,g⟩⟩
def cy.aA6{zv:List bg}{J:List br}{K:bg->List br->Prop}(h:dA G P f args hi)(Q:qa zv args)(S:∀r,hi r->K r J):cy G P f zv J K:=
 ⟨h.1,λbase w0 C M w cZ hs D=>(h.2 C w cZ ⟨hs.sQ,hs.tab⟩ hs.oo (Q.rep D)).mono λe w' ⟨r,q,bI,v',he,Y,V,h3,O,iM⟩=>by
  obtain⟨bK,ez⟩:=amu hs Y V h3 O;exact⟨bI,M,J,r,v',S r q,he,bK,ez,iM.mono QM⟩⟩
def dX(h:cy G P f args [] λr bl=>∃n bS,cX bl n r=a_ bS/\hi bS):dA G P f args hi:=
 ⟨h.1,λC w cZ hg T D=>(h.2 w.heap.size ⟨w,C⟩ C [] w cZ (amv hg T) D).mono λe w' ⟨bI,M',bl,r,v',⟨n,bS,z8,hq⟩,he,bK,ez,iM⟩=>by
  refine⟨bS,hq,xA bI M' bl 0 w',v',he,λb o v q=>JV (bK.C b o v q),λb o v q=>?_,λb o v q=>S4 ez q,ez.below,?_⟩
  rcases S7 ez q with hu|O
  rcases d_ b w.heap.size with O|O
  exact bD (ez.old b o v hu O);exact bF O;exact bF O;refine Px (J:=bl) (Dv:=bl) (λb o v q=>JV q) (λk Z row L S hM i c T=>?_) (λ_ _ _ q=>q) z8 iM;obtain⟨c',q1,bt⟩:=(ez.cells k Z row L S hM).2.2.1 i c T;exact⟨c',by rw[S6 ez (jR _) S hM];exact q1,bt⟩⟩
def dA.of(h:∃r,hi r/\dL G P f args r):dA G P f args hi:=by
 obtain⟨r,q,h⟩:=h;exact h.q q
end
end
def XA:dr->Nat
 |.t n=>1<<<n
 |.c _=>0
def XB:List dr->Nat
 |[]=>0
 |x::r=>(XA x).lor (XB r)
def aj3:List Nat->Nat
 |[]=>0
 |n::r=>NN (1<<<n) (aj3 r)
def aj2(s d:Nat):Nat:=Nat.xor s (Nat.land s (1<<<d))
def azz(s t:Nat):Nat:=Nat.xor s (Nat.land s t)
def Me:List dI->Nat->Nat
 |[],s=>s
 |o::r,s=>NN (NN (match o.dst with
  |some d=>aj2 (Me r s) d
  |none=>Me r s) (XB (BC o.ins))) (match o.guard with
  |some g=>1<<<g.1
  |none=>0)
def Xz(s:Nat):Nat->Nat->List Nat
 |0,_=>[]
 |k+1,i=>if eI (s>>>i) 0 then [] else if eI (Nat.land (s>>>i) 1) 1 then i::Xz s k (i+1) else Xz s k (i+1)
def DQ(s:Nat):List Nat:=Xz s 1000 0
def Xy:List (Nat×Nat)->Nat->Nat
 |[],_=>0
 |(j,s)::r,k=>if eI j k then s else Xy r k
def Xx:List (Nat×Nat)->Nat
 |[]=>0
 |(_,s)::r=>NN s (Xx r)
@[irreducible] def Sa (l:List Nat):bg:=.v (.string ⟨(l.map uG).toArray⟩)
def gG:dr->dr
 |.c (.v (.string b))=>.c (Sa (b.data.toList.map aaP))
 |x=>x
def ajd:bg->bg
 |.v (.string b)=>Sa (b.data.toList.map aaP)
 |x=>x
def wT:bg->bg
 |.agg l=>.agg (l.map ajd)
 |x=>ajd x
def ayo:rA->rA
 |.mv x=>.mv (gG x)
 |.pick c a b=>.pick (gG c) (gG a) (gG b)
 |.alloc z=>.alloc (z.map wT)
 |.box x=>.box (gG x)
 |.build z ps=>.build (z.map wT) (ps.map λp=>(p.1,p.2.1,gG p.2.2))
 |.zA n vs=>.zA n (vs.map gG)
 |.st n p x=>.st n p (gG x)
 |.bin o x y=>.bin o (gG x) (gG y)
 |.di k x=>.di k (gG x)
 |.Jk x=>.Jk (gG x)
 |.HA x=>.HA (gG x)
 |.xd x a b=>.xd (gG x) (a.map gG) (b.map gG)
 |.slc n x a b c=>.slc n x (a.map gG) (b.map gG) (c.map gG)
 |.CU x i=>.CU (gG x) (gG i)
 |.qX x=>.qX (gG x)
 |.len x=>.len (gG x)
 |.app n b e s x=>.app n b e s (gG x)
 |.Ar f a b=>.Ar f (a.map gG) (b.map gG)
 |.wv n vs=>.wv n (vs.map gG)
 |.A_ n b e s x=>.A_ n b e s (gG x)
 |.As n b e z l c=>.As n b e (z.map wT) l c
 |.BO n b e z l c=>.BO n b e (z.map wT) l c
 |.BL t x=>.BL t (gG x)
 |.Jw t z ok x=>.Jw t (wT z) ok x
 |.s_ m xs=>.s_ m (xs.map gG)
 |.iter x=>.iter (gG x)
 |.DP x=>.DP (gG x)
 |.BH bM ks z ok m k=>.BH bM ks (wT z) ok m (gG k)
 |.wY bM ks m k x=>.wY bM ks m (gG k) (gG x)
 |.Aq bM ks z m k=>.Aq bM ks (wT z) m (gG k)
 |.zm t z=>.zm t (z.map wT)
 |.zu b e s x=>.zu b e s (gG x)
 |.zo b e s x=>.zo b e s (gG x)
 |x=>x
def aym:iJ->iJ
 |.op o=>.op (ayo o)
 |.call f l=>.call f (l.map gG)
 |.nB f l=>.nB f (l.map gG)
 |.pI f l=>.pI f (l.map gG)
 |.lO x l=>.lO x (l.map gG)
 |.pJ x l=>.pJ x (l.map gG)
 |.oE f l r=>.oE f (l.map gG) r
 |.fV x=>.fV (gG x)
def QD(o:dI):dI:=⟨o.dst,o.guard,aym o.ins⟩
def tP(al:Nat):qd->Nat->List (Nat×Nat)->Nat->eG×Nat
 |.skip,o,_,_=>(.skip (DQ (o.lor al)),o.lor al)
 |.lab,o,_,_=>(.lab (DQ (o.lor al)),o.lor al)
 |.bad,_,_,_=>(.bad,al)
 |.region l,o,_,_=>(.region (l.map QD) (DQ (o.lor al)),(Me l (o.lor al)).lor al)
 |.q3 ls,o,_,_=>(.q3 (ls.map λl=>l.map QD) (DQ (o.lor al)),ls.foldr (λl s=>((Me l (o.lor al)).lor al).lor s) 0)
 |.qw l,o,_,_=>(.qw (l.map λp=>(QD p.1,p.2.map QD)) (DQ (o.lor al)),(Me (l.map (·.1)) (o.lor al)).lor al)
 |.seq a b,o,ex,rt=>match tP al b o ex rt with
  |(b,m)=>match tP al a m ex rt with
   |(a,i)=>(.seq a b,i)
 |.cond c a b,o,ex,rt=>match tP al a o ex rt with
  |(a,i)=>match tP al b o ex rt with
   |(b,j)=>(.cond (gG c) a b,(i.lor j).lor (XA c))
 |.block k a,o,ex,rt=>match tP al a o ((k,o.lor al)::ex) rt with
  |(a,i)=>(.block k a,i)
 |.scope a,o,ex,rt=>match tP al a o ex rt with
  |(a,i)=>(.scope a,i)
 |.loop a,o,ex,rt=>JS (motive:=λ_=>Nat->eG×Nat) (λl=>(.bad,l)) (λ_ go l=>match tP al a l ex rt with
  |(x,i)=>if eI (i.lor l) l then(.loop x,l) else go (i.lor l)) 20 al
 |.exit k,_,ex,_=>(.exit k (DQ (Xy ex k)),(Xy ex k).lor al)
 |.ret,_,_,rt=>(.ret (DQ (rt.lor al)),rt.lor al)
 |.qZ x ps a b,o,ex,rt=>match tP al b 0 (ex.map λp=>(p.1,0)) 0 with
  |(b,bi)=>match tP al a bi (ex.map λp=>(p.1,0)) 0 with
   |(a,apJ)=>(.qZ (gG x) ps a b (DQ (((o.lor al).lor rt).lor (Xx ex))),((((o.lor al).lor rt).lor (Xx ex)).lor (XA x)).lor (azz apJ (aj3 ps)))
def yB:List iQ->Nat
 |[]=>0
 |.s t::r=>NN (1<<<t) (yB r)
 |.c t _ _::r=>NN (1<<<t) (yB r)
def D8(l:List Nat):Sa l=.v (.string ⟨(l.map uG).toArray⟩):=by rw[Sa]
structure kS(P:Program)(f:FuncId) where
 e:kC
 ok:JY P f e
 hm:P.follows .mixedOrders=bh
def ae2(P:Program)(hb:mN)(f:FuncId):Option (Nat×List iQ×eG):=match r8 P hb f with
 |some ⟨n,rs,c⟩=>a_ (n,rs,(tP 0 c (yB rs) [] (yB rs)).1)
 |none=>bn
def kS.c{P:Program}{f:FuncId}(hb:mN){n:Nat}{rs:List iQ}{c:eG}
 (_h:ae2 P hb f=a_ (n,rs,c):=by conv=>lhs;reduce;simp only[Int.reduceOfNat,Int.reduceNegSucc,D8,List.map,UInt8.reduceOfNat])
 (hc:r8 P hb f=a_ ⟨n,rs,c.b7⟩:=by kernel_rfl) (nh:c.fits n=bh:=by kernel_rfl) (hm:P.follows .mixedOrders=bh:=by kernel_rfl):kS P f:=⟨.plain n rs c,⟨⟨hb,hc⟩,nh⟩,hm⟩
def kS.m{P:Program}{f:FuncId}(hb:mN){n:Nat}{rs:List iQ}{c:eG}
 (_h:ae2 P hb f=a_ (n,rs,c):=by conv=>lhs;reduce;simp only[Int.reduceOfNat,Int.reduceNegSucc,D8,List.map,UInt8.reduceOfNat])
 (hc:r8 P hb f=a_ ⟨n,rs,c.b7⟩:=by kernel_rfl) (nh:c.oT n bh=bh:=by kernel_rfl) (hm:P.follows .mixedOrders=bh:=by kernel_rfl):kS P f:=⟨.loops n rs c,⟨⟨hb,hc⟩,nh⟩,hm⟩
def Zg:List dI->Nat
 |[]=>1000000
 |o::r=>match o.dst with
  |some d=>d
  |none=>Zg r
def XJ:List Nat->Nat->Bool
 |[],_=>bf
 |a::r,n=>if eI a n then bh else XJ r n
def QO(P:Program):Nat->TypeId->List mL
 |0,_=>[]
 |d+1,t=>match P.underlying t with
  |some .bool=>[.b]
  |some (.int _)=>[.i]
  |some .string=>[.s]
  |some (.array n e)=>(e3 n (QO P d e)).flatten
  |some (.struct fs)=>(fs.toList.map λf=>QO P d f.type).flatten
  |_=>[]
def XG(P:Program)(t:TypeId):Option (Bool×List mL×bg):=match P.underlying t with
 |some (.map kt et)=>match kf P kt,B_ P et with
  |some bM,a_ z=>a_ (bM,QO P 12 kt,z)
  |_,_=>bn
 |_=>bn
def aCZ(P:Program)(ops:Array Oper)(o:Oper):Option dI:=match o.op with
 |.binOp op t x y _=>match P.underlying t with
  |some (.struct _)|some (.array _ _)=>match B6 ops o.guard,dY x,dY y with
   |some g,a_ x,a_ y=>a_ ⟨o.dst,g,.op (.HK (QO P 12 t) (match op with|.eql=>bf|_=>bh) x y)⟩
   |_,_,_=>bn
  |_=>xb P ops o
 |.lookup t m k ok=>match B6 ops o.guard,dY m,dY k,XG P t with
  |some g,a_ m,a_ k,a_ (bM,ks,z)=>a_ ⟨o.dst,g,.op (.BH bM ks z ok m k)⟩
  |_,_,_,_=>bn
 |.mapUpdate t m k x|.insert t m k x=>match B6 ops o.guard,dY m,dY k,dY x,XG P t with
  |some g,a_ m,a_ k,a_ x,a_ (bM,ks,_)=>a_ ⟨o.dst,g,.op (.wY bM ks m k x)⟩
  |_,_,_,_,_=>bn
 |.mapEntry t m k=>match B6 ops o.guard,dY m,dY k,XG P t with
  |some g,a_ m,a_ k,a_ (bM,ks,z)=>a_ ⟨o.dst,g,.op (.Aq bM ks z m k)⟩
  |_,_,_,_=>bn
 |_=>xb P ops o
def amI(P:Program)(ops:Array Oper):List Oper->Option (List dI)
 |[]=>a_ []
 |o::r=>match aCZ P ops o,amI P ops r with
  |some s,a_ l=>a_ (s::l)
  |_,_=>bn
def AB(P:Program)(pu:mN)(h2 W:List Nat):Code->Option qd
 |.skip=>a_ .skip
 |.region _ ops Bh=>match amI P ops ops.toList with
  |some l=>if XJ W (Zg l) then a_ (.qw (nC bh ops.toList (tc pu l))) else if XJ h2 (Zg l) then a_ (.region (tc pu l)) else a_ (.region (l.map (AG pu)))
  |none=>bn
 |.seq a b=>match AB P pu h2 W a,AB P pu h2 W b with
  |some x,a_ y=>a_ (.seq x y)
  |_,_=>bn
 |.cond c a b=>match dY c,AB P pu h2 W a,AB P pu h2 W b with
  |some c,a_ x,a_ y=>a_ (.cond c x y)
  |_,_,_=>bn
 |.block id a=>match AB P pu h2 W a with
  |some x=>a_ (.block id x)
  |none=>bn
 |.loop a=>match AB P pu h2 W a with
  |some x=>a_ (.loop x)
  |none=>bn
 |.exit id=>a_ (.exit id)
 |.ret=>a_ .ret
 |.rangeFunc g ps a b=>match dY g,AB P pu h2 W a,AB P pu h2 W b with
  |some x,a_ sa,a_ sb=>a_ (.qZ x ps.toList sa sb)
  |_,_,_=>bn
 |.scope a=>match AB P pu h2 W a with
  |some x=>a_ (.scope x)
  |none=>bn
 |.label _=>a_ .lab
 |.goto _=>a_ .bad
 |.refuse _=>a_ .bad
def Pz(P:Program)(hb:mN)(h2 W:List Nat)(f:FuncId):Option (Nat×List iQ×eG):=match P.funcs[f]? with
 |some fn=>match fn.body with
  |some c=>match AB P hb h2 W c,D2 P fn.results.toList with
   |some sc,a_ rs=>a_ (fn.ntmps,rs,(tP 0 sc (yB rs) [] (yB rs)).1)
   |_,_=>bn
  |none=>bn
 |none=>bn
def kS.u{P:Program}{f:FuncId}(hb:mN)(h2 W:List Nat){n:Nat}{rs:List iQ}{c:eG}
 (_h:Pz P hb h2 W f=a_ (n,rs,c):=by conv=>lhs;reduce;simp only[Int.reduceOfNat,Int.reduceNegSucc,D8,List.map,UInt8.reduceOfNat])
 (hc:r8 P hb f=a_ ⟨n,rs,c.b7⟩:=by kernel_rfl) (nh:c.fits n=bh:=by kernel_rfl) (hm:P.follows .mixedOrders=bh:=by kernel_rfl):kS P f:=⟨.plain n rs c,⟨⟨hb,hc⟩,nh⟩,hm⟩
def kS.v{P:Program}{f:FuncId}(hb:mN)(h2 W:List Nat){n:Nat}{rs:List iQ}{c:eG}
 (_h:Pz P hb h2 W f=a_ (n,rs,c):=by conv=>lhs;reduce;simp only[Int.reduceOfNat,Int.reduceNegSucc,D8,List.map,UInt8.reduceOfNat])
 (hc:r8 P hb f=a_ ⟨n,rs,c.b7⟩:=by kernel_rfl) (nh:c.oT n bh=bh:=by kernel_rfl) (hm:P.follows .mixedOrders=bh:=by kernel_rfl):kS P f:=⟨.loops n rs c,⟨⟨hb,hc⟩,nh⟩,hm⟩
def kS.p{P:Program}{f:FuncId}(hb:mN){n:Nat}{rs:List iQ}{c:eG}(_h:Pz P hb [] [] f=a_ (n,rs,c):=by conv=>lhs;reduce;simp only[Int.reduceOfNat,Int.reduceNegSucc,D8,List.map,UInt8.reduceOfNat])
 (hc:r8 P hb f=a_ ⟨n,rs,c.b7⟩:=by kernel_rfl) (nh:c.fits n=bh:=by kernel_rfl) (hm:P.follows .mixedOrders=bh:=by kernel_rfl):kS P f:=⟨.plain n rs c,⟨⟨hb,hc⟩,nh⟩,hm⟩
def kS.l{P:Program}{f:FuncId}(hb:mN){n:Nat}{rs:List iQ}{c:eG}(_h:Pz P hb [] [] f=a_ (n,rs,c):=by conv=>lhs;reduce;simp only[Int.reduceOfNat,Int.reduceNegSucc,D8,List.map,UInt8.reduceOfNat])
 (hc:r8 P hb f=a_ ⟨n,rs,c.b7⟩:=by kernel_rfl) (nh:c.oT n bh=bh:=by kernel_rfl) (hm:P.follows .mixedOrders=bh:=by kernel_rfl):kS P f:=⟨.loops n rs c,⟨⟨hb,hc⟩,nh⟩,hm⟩
def kS.x{P:Program}{f:FuncId}(hb:mN)(n:Nat)(rs:List iQ)(c:eG)
 (hc:r8 P hb f=a_ ⟨n,rs,c.b7⟩:=by kernel_rfl) (nh:c.fits n=bh:=by kernel_rfl) (hm:P.follows .mixedOrders=bh:=by kernel_rfl):kS P f:=⟨.plain n rs c,⟨⟨hb,hc⟩,nh⟩,hm⟩
def asC(P:Program)(hb:mN)(f:FuncId):Option (Nat×List iQ×eG×Nat×FuncId×List dr×eG):=match Jr P hb f with
 |some ⟨n,rs,a,t,g,caps,b⟩=>match tP (yB rs) b (yB rs) [] (yB rs) with
  |(b,i)=>a_ (n,rs,(tP (yB rs) a ((aj2 i t).lor (XB caps)) [] (yB rs)).1,t,g,caps,b)
 |none=>bn
def kS.d{P:Program}{f:FuncId}(hb:mN){n:Nat}{rs:List iQ}{a b:eG}{t:Nat}{g:FuncId}{caps:List dr}
 (_h:asC P hb f=a_ (n,rs,a,t,g,caps,b):=by conv=>lhs;reduce;simp only[Int.reduceOfNat,Int.reduceNegSucc,D8,List.map,UInt8.reduceOfNat])
 (hc:Jr P hb f=a_ ⟨n,rs,a.b7,t,g,caps,b.b7⟩:=by kernel_rfl) (nh:(a.fits n&&b.fits n&&q_ t n)=bh:=by kernel_rfl) (hm:P.follows .mixedOrders=bh:=by kernel_rfl):kS P f:=⟨.rH n rs a t g caps b,⟨⟨hb,hc⟩,by
 rw[fA,fA] at nh;exact⟨nh.1.1,nh.1.2,aoU (p9 nh.2)⟩⟩,hm⟩
def asD(P:Program)(hb:mN)(f:FuncId):Option (Nat×Nat×Nat×eG):=match Jt P hb f with
 |some ⟨n,d0,d1,c⟩=>a_ (n,d0,d1,(tP 0 c 0 [] 0).1)
 |none=>bn
def kS.r{P:Program}{f:FuncId}(hb:mN){n d0 d1:Nat}{c:eG}
 (_h:asD P hb f=a_ (n,d0,d1,c):=by conv=>lhs;reduce;simp only[Int.reduceOfNat,Int.reduceNegSucc,D8,List.map,UInt8.reduceOfNat])
 (hc:Jt P hb f=a_ ⟨n,d0,d1,c.b7⟩:=by kernel_rfl) (nh:(c.fits n&&q_ d0 n&&q_ d1 n)=bh:=by kernel_rfl) (hm:P.follows .mixedOrders=bh:=by kernel_rfl):kS P f:=⟨.Gn n d0 d1 c,⟨⟨hb,hc⟩,by
 rw[fA,fA] at nh;exact⟨nh.1.1,aoU (p9 nh.1.2),aoU (p9 nh.2)⟩⟩,hm⟩
def kC.bc:kC->eG
 |.rH _ _ _ _ _ _ b=>b
 |_=>.bad
def Vi(G:Cells)(P:Program)(args:List bg)(J:List br)(K:bg->List br->Prop)(E:ry)(e0:kC):kC->Prop
 |.plain n rs c=>args.length<=n/\@eg G P bf c ⟨@Je rs ⟨K⟩ ⟨E⟩⟩ (oQ 0 args) J
 |.loops n rs c=>args.length<=n/\@eg G P bf c ⟨@RG J.length rs ⟨K⟩ ⟨E⟩⟩ (oQ 0 args) J
 |.rH n rs a t g caps b=>(∀ch h,¬E ch h)/\args.length<=n/\@eg G P bf a ⟨@r_ ⟨λe J=>∃ks:List Nat,nr e caps=a_ (ks.map λk=>.mp k 0)/\@eg G P bf e0.bc ⟨@alI G P g ks rs ⟨K⟩⟩ ((t,.fn (.func g) [] (ks.map λk=>.mp k 0))::e) J⟩ ⟨λ_ _ _=>False⟩⟩ (oQ 0 args) J
 |_=>False
section
variable{G:Cells}{P:Program}{f:FuncId}{args:List bg}{J:List br}{K:bg->List br->Prop}{E:ry}
def afd(k:kS P f)(h:Vi G P args J K E k.e k.e):hO G P f args J K E:=by
 obtain⟨e,ok,hm⟩:=k;cases e with
 |plain n rs c=>exact aeG hm ok.1.choose_spec ok.2 h.1 h.2
 |loops n rs c=>exact aeH hm ok.1.choose_spec ok.2 h.1 h.2
 |rH n rs a t g caps b=>exact Em (aeF hm ok.1.choose_spec ok.2.1 ok.2.2.1 ok.2.2.2 h.2.1 h.2.2)
 |_=>exact h.elim
def kS.zQ(k:kS P f){q:Prop}(h:q)(e:q->Vi G P args J K E k.e k.e:=by
 intro hh
 conv=>whnf
 first|exact⟨Nat.le_of_ble_eq_true rfl,hh⟩|exact⟨λ_ _ z=>z,Nat.le_of_ble_eq_true rfl,hh⟩):hO G P f args J K E:=afd k (e h)
def kS.go(k:kS P f){q:Prop}(h:q)(e:q->Vi G P args J K (λ_ _=>False) k.e k.e:=by
 intro hh
 conv=>whnf
 first|exact⟨Nat.le_of_ble_eq_true rfl,hh⟩|exact⟨λ_ _ z=>z,Nat.le_of_ble_eq_true rfl,hh⟩):cy G P f args J K:=(afd k (e h)).ok
def adI(G:Cells)(P:Program)(args:List bg)(J:List br)(x:Option bg)(K:List br->Prop):kC->Prop
 |.Gn n d0 d1 c=>args.length<=n/\@eg G P bf c ⟨@alM ⟨K⟩⟩ ((d1,pY x)::(d0,pY x)::oQ 0 args) J
 |_=>False
def arx{x:Option bg}{v:Option Value}{K:List br->Prop}(k:kS P f)(I:match x,v with|none,bn=>True|some x,a_ v=>w7 x=bh/\qJ x=a_ v|_,_=>False)(h:adI G P args J x K k.e):kB G P f args J v K:=by
 obtain⟨e,ok,hm⟩:=k;cases e with
 |Gn n d0 d1 c=>exact adJ hm ok.1.choose_spec ok.2.1 ok.2.2 h.1 I h.2
 |_=>exact h.elim
def kS.OY{x:Option bg}{v:Option Value}{K:List br->Prop}(k:kS P f)(I:match x,v with|none,bn=>True|some x,a_ v=>w7 x=bh/\qJ x=a_ v|_,_=>False){q:Prop}(h:q)(e:q->adI G P args J x K k.e:=by
 intro hh
 conv=>whnf
 exact⟨Nat.le_of_ble_eq_true rfl,hh⟩):kB G P f args J v K:=arx k I (e h)
end
def eG.tl:eG->eG
 |.seq _ b=>b
 |c=>c
def kC.c:kC->eG
 |.plain _ _ c|.loops _ _ c=>c
 |_=>.bad
inductive CF(P:Program) where
 |nil
 |node (l:CF P) (k:FuncId) (c:kS P k) (m:Nat) (r:CF P)
def CF.uy{P:Program}:CF P->qe
 |.nil=>.nil
 |.node l k c m r=>.node l.uy k c.e m r.uy
def CF.ok{P:Program}:∀t:CF P,t.uy.dS P
 |.nil=>trivial
 |.node l _ c _ r=>⟨l.ok,c.ok,r.ok⟩
section
variable{x y:bg}{xs ys:List bg}
def b8(J:List br)(x y:bg):Prop:=∃n0,∀n,n0<=n->cX J n x=a_ y
def e4(J:List br)(xs ys:List bg):Prop:=∃n0,∀n,n0<=n->j0 (cX J n) xs=a_ ys
section
variable{J:List br}
def b8.done(h:b8 J x y):∃n,cX J n x=a_ y:=by
 obtain⟨n,h⟩:=h;exact⟨n,h n (ck n)⟩
def b8.arD(h:b8 J x y):∃n bS,cX J n x=a_ bS/\bS=y:=by
 obtain⟨n,h⟩:=h.done;exact⟨n,y,h,rfl⟩
def zP(h:∃n0,∀n,n0<=n->cX J (n+1) x=a_ y):b8 J x y:=by
 obtain⟨n0,h⟩:=h;refine⟨n0+1,λn hn=>?_⟩;obtain⟨m,rfl⟩:∃m,n=m+1:=⟨n-1,aa⟩;exact h m aa
def e4.nil:e4 J [] []:=⟨0,λn _=>rfl⟩
def e4.cons{x y:bg}{xs ys:List bg}(h:b8 J x y)(k:e4 J xs ys):e4 J (x::xs) (y::ys):=by
 obtain⟨n0,h⟩:=h;obtain⟨n1,k⟩:=k;exact⟨n0+n1,λn hn=>by simp only[j0,h n aa,k n aa]⟩
def e4.append{xs' an7:List bg}(h:e4 J xs ys)(k:e4 J xs' an7):e4 J (xs++xs') (ys++an7):=by
 induction xs generalizing ys with
 |nil=>
  obtain⟨n0,h⟩:=h;have:=h n0 (ck _);cases this;exact k
 |cons x xs ih=>
  obtain⟨n0,h⟩:=h;have h0:=h n0 (ck _);simp only[j0] at h0;split at h0;rename_i y hy;split at h0
  · rename_i l hl
    cases h0;refine e4.cons ⟨n0,λn hn=>?_⟩ (ih ⟨n0,λn hn=>?_⟩)
    all_goals
     have Y:=h n hn;simp only[j0] at Y;split at Y;rename_i y' LW;split at Y;rename_i l' hl';cases Y
     first|exact LW|exact hl'
     cases Y;cases Y
  cases h0;cases h0
def e4.map{α:Type}{f:α->bg}:∀{l:List α},(∀a∈l,b8 J (f a) (f a))->e4 J (l.map f) (l.map f)
 |[],_=>e4.nil
 |a::l,h=>e4.cons (h a af) (e4.map λb O=>h b aIw)
def e4.each{l:List bg}(h:∀a∈l,b8 J a a):e4 J l l:=by
 have:=e4.map (J:=J) (f:=λa=>a) (l:=l) h;simpa using this
def b8.v(x:Value):b8 J (.v x) (.v x):=zP ⟨0,λn _=>rfl⟩
def b8.bp:b8 J .bp .bp:=zP ⟨0,λn _=>rfl⟩
def b8.agg{xs ys:List bg}(h:e4 J xs ys):b8 J (.agg xs) (.agg ys):=by
 obtain⟨n0,h⟩:=h;exact zP ⟨n0,λn hn=>by show(j0 (cX J n) xs).map dD=_;rw[h n hn];rfl⟩
def b8.bQ(h:e4 J xs ys):b8 J (.bQ xs) (.bQ ys):=by
 obtain⟨n0,h⟩:=h;exact zP ⟨n0,λn hn=>by show(j0 (cX J n) xs).map bg.bQ=_;rw[h n hn];rfl⟩
def b8.sl{xs ys:List bg}{t:n_}(h:e4 J xs ys):b8 J (.sl xs t) (.sl ys .no):=by
 obtain⟨n0,h⟩:=h;exact zP ⟨n0,λn hn=>by show(j0 (cX J n) xs).map (λys=>bg.sl ys .no)=_;rw[h n hn];rfl⟩
def b8.fp{o:Nat}(h:e4 J xs ys):b8 J (.fp xs o) (.fp ys o):=by
 obtain⟨n0,h⟩:=h;exact zP ⟨n0,λn hn=>by show(j0 (cX J n) xs).map (λys=>bg.fp ys o)=_;rw[h n hn];rfl⟩
def b8.ep{t:TypeId}(h:b8 J x y):b8 J (.ep t x) (.ep t y):=by
 obtain⟨n0,h⟩:=h;exact zP ⟨n0,λn hn=>by show(cX J n x).map (bg.ep t)=_;rw[h n hn];rfl⟩
def b8.mp{k o:Nat}{xs ys:List bg}(S:J[k]?=a_ (.cells xs bf))(h:e4 J xs ys):b8 J (.mp k o) (.fp ys o):=by
 obtain⟨n0,h⟩:=h;exact zP ⟨n0,λn hn=>by simp only[cX,S,h n hn,jS]⟩
def b8.rs{k m sz o len:Nat}{xs ys:List bg}(S:J[k]?=a_ (.cells xs bh))(hm:m=xs.length)(h:e4 J xs ys):b8 J (.rs k m sz o len) (.sl (tT sz ys o len) .no):=by
 obtain⟨n0,h⟩:=h;exact zP ⟨n0,λn hn=>aI1⟩
def b8.rp{k m o:Nat}{xs ys:List bg}(S:J[k]?=a_ (.cells xs bh))(hm:m=xs.length)(h:e4 J xs ys):b8 J (.rp k m o) (.fp ys o):=by
 obtain⟨n0,h⟩:=h;exact zP ⟨n0,λn hn=>aI1⟩
end
def EY{Z:List bg}{off:Nat}(h:∀c∈Z,Clean c):Clean (.fp Z off):=λC M J v D=>by
 cases D with
 |fp f hC hR=>exact .fp f hC λi c T=>h c (cE T) _ _ _ _ (hR i c T)
def HG:Nat->bg->Bool
 |0,_=>bf
 |n+1,x=>match x with
  |.v _=>bh
  |.bp=>bh
  |.agg Z=>Z.all (HG n)
  |.bQ Z=>Z.all (HG n)
  |.fp Z _=>Z.all (HG n)
  |.sl xs .no=>xs.all λx=>x.cells.all (HG n)
  |_=>bf
def E1:∀{n:Nat} {x:bg},HG n x=bh->Clean x
 |0,x,h=>aF
 |n+1,x,h=>by
  unfold HG at h;split at h;exact dz _;exact od;exact HF λc T=>E1 (eO.1 h c T);exact aq1 λc T=>E1 (eO.1 h c T);exact EY λc T=>E1 (eO.1 h c T);exact lQ λx I c T=>E1 (eO.1 (eO.1 h x I) c T);cases h
end
def lG{i:Nat}(h:i<4611686018427387904):dy.wrap ((i:Int)+1)=((i+1:Nat):Int):=by rw[gN aa aa];rfl
def anY{i:Nat}(h:i<4611686018427387904):dy.wrap ((i:Int)+2)=((i+2:Nat):Int):=by rw[gN aa aa];rfl
def JD{i:Nat}(h:1<=i)(V:i<4611686018427387904):dy.wrap ((i:Int)-1)=((i-1:Nat):Int):=by rw[gN aa aa];omega
def anZ{i j:Nat}(h:i<4611686018427387904)(V:j<4611686018427387904):dy.wrap ((i:Int)+(j:Int))=((i+j:Nat):Int):=by rw[gN aa aa];rfl
def an0{i j:Nat}(h:j<=i)(V:i<4611686018427387904):dy.wrap ((i:Int)-(j:Int))=((i-j:Nat):Int):=by rw[gN aa aa];omega
def zD{i n:Nat}(h:i<n):decide ((i:Int)<(n:Int))=bh:=ah
def CY{i n:Nat}(h:n<=i):decide ((i:Int)<(n:Int))=bf:=ah
def adS{i n:Nat}(h:i<=n):decide ((i:Int)<=(n:Int))=bh:=ah
def adR{i n:Nat}(h:n<i):decide ((i:Int)<=(n:Int))=bf:=ah
def TY{i n:Nat}(h:i=n):((i:Int)==(n:Int))=bh:=by simp[h]
def Ov{i n:Nat}(h:i≠n):((i:Int)==(n:Int))=bf:=ah
def acD{i n:Nat}(h:i≠n):((i:Int) !=(n:Int))=bh:=ah
def acC{i n:Nat}(h:i=n):((i:Int) !=(n:Int))=bf:=by simp[h]
def ZS(b:Bool):EP .not (.v (.bool b))=a_ (.v (.bool !b)):=rfl
def Pa(a b:bg):oP 0 (.bQ [a,b])=a_ a:=rfl
def Pb(a b:bg):oP 1 (.bQ [a,b])=a_ b:=rfl
def aeg(a b c:bg):oP 0 (.bQ [a,b,c])=a_ a:=rfl
def aeh(a b c:bg):oP 1 (.bQ [a,b,c])=a_ b:=rfl
def aei(a b c:bg):oP 2 (.bQ [a,b,c])=a_ c:=rfl
def wH(x:bg)(J:List br):bA J bf 1 (.fp [x] 0)=a_ x:=rfl
def Yx(Z:List bg)(o:Nat)(neg:Bool):nL .ptr neg (.fp Z o) (.v (.pointer bn))=a_ (.v (.bool neg)):=aHZ
def Yy(k o:Nat)(neg:Bool):nL .ptr neg (.mp k o) (.v (.pointer bn))=a_ (.v (.bool neg)):=aHZ
def alf(neg:Bool):nL .ptr neg (.v (.pointer bn)) (.v (.pointer bn))=a_ (.v (.bool !neg)):=aHZ
def mq(n:Int):goInt n=.int .i64 n:=rfl
def qA:type_of% @dj.{0,0}/\type_of% @lG/\type_of% @anY/\type_of% @JD/\type_of% @anZ/\type_of% @an0/\type_of% @zD/\type_of% @CY/\type_of% @adS/\type_of% @adR/\type_of% @TY/\type_of% @Ov/\type_of% @acD/\type_of% @acC/\type_of% @ZS/\
  type_of% @Pa/\type_of% @Pb/\type_of% @aeg/\type_of% @aeh/\type_of% @aei/\type_of% @wH/\type_of% @Yx/\type_of% @Yy/\type_of% @alf/\type_of% @mq/\type_of% @yV/\type_of% @uC/\type_of% @NR/\type_of% @NQ:=
 ⟨@dj.{0,0},@lG,@anY,@JD,@anZ,@an0,@zD,@CY,@adS,@adR,@TY,@Ov,@acD,@acC,@ZS,@Pa,@Pb,@aeg,@aeh,@aei,@wH,@Yx,@Yy,@alf,@mq,@yV,@uC,@NR,@NQ⟩
def fj{p q:Prop}(h:q)(e:q->p:=by intro hh;simp -failIfUnchanged -implicitDefEqProofs (disch:=first|assumption|decide|omega) only[jB,nY,nZ,↓reduceIte,Nat.reduceEqDiff,Nat.reduceAdd,Nat.reduceLT,Nat.reduceLeDiff,qA,Int.reduceBEq,Int.reduceBNe];exact hh):p:=e h
def eN{p q a0:Prop}(x0:a0)(h:q)(e:a0->q->p:=by intro f0 hh;simp -failIfUnchanged -implicitDefEqProofs (disch:=first|assumption|decide|omega) only[jB,nY,nZ,↓reduceIte,Nat.reduceEqDiff,Nat.reduceAdd,Nat.reduceLT,Nat.reduceLeDiff,qA,Int.reduceBEq,Int.reduceBNe,f0];exact hh):p:=e x0 h
def mG{p q a b:Prop}(x:a)(y:b)(h:q)(e:a/\b->q->p:=by intro f h;exact eN f h):p:=e ⟨x,y⟩ h
def jl{p q a b c:Prop}(x:a)(y:b)(z:c)(h:q)(e:a/\b/\c->q->p:=by intro f h;exact eN f h):p:=e ⟨x,y,z⟩ h
def l5{p q a b c d:Prop}(x:a)(y:b)(z:c)(u:d)(h:q)(e:a/\b/\c/\d->q->p:=by intro f h;exact eN f h):p:=e ⟨x,y,z,u⟩ h
def p5{p q a b c d f:Prop}(x:a)(y:b)(z:c)(u:d)(v:f)(h:q)(e:a/\b/\c/\d/\f->q->p:=by intro f h;exact eN f h):p:=e ⟨x,y,z,u,v⟩ h
def Cb{p q a b c d f g:Prop}(x:a)(y:b)(z:c)(u:d)(v:f)(w:g)(h:q)(e:a/\b/\c/\d/\f/\g->q->p:=by intro f h;exact eN f h):p:=e ⟨x,y,z,u,v,w⟩ h
def oH{p q a b c d f g i:Prop}(x:a)(y:b)(z:c)(u:d)(v:f)(w:g)(r:i)(h:q)(e:a/\b/\c/\d/\f/\g/\i->q->p:=by intro f h;exact eN f h):p:=e ⟨x,y,z,u,v,w,r⟩ h
def Ns{p q a b c d f g i j:Prop}(x:a)(y:b)(z:c)(u:d)(v:f)(w:g)(r:i)(s:j)(h:q)(e:a/\b/\c/\d/\f/\g/\i/\j->q->p:=by intro f h;exact eN f h):p:=e ⟨x,y,z,u,v,w,r,s⟩ h
def vG{p q a b c d f g i j k:Prop}(x:a)(y:b)(z:c)(u:d)(v:f)(w:g)(r:i)(s:j)(t:k)(h:q)(e:a/\b/\c/\d/\f/\g/\i/\j/\k->q->p:=by intro f h;exact eN f h):p:=e ⟨x,y,z,u,v,w,r,s,t⟩ h
section
variable{l:List UInt8}{i j:Nat}{α:Type}
def bu(l:List UInt8):bg:=.v (.string ⟨⟨l⟩⟩)
def TS(l:List UInt8):(⟨⟨l⟩⟩:ByteArray).toList=l:=af
def aqd(l:List UInt8)(i:Nat):(⟨⟨l⟩⟩:ByteArray)[i]?=l[i]? :=by
 rcases d_ i l.length with h|h
 rw[cx h];exact getElem?_pos (⟨⟨l⟩⟩:ByteArray) i h;rw[jJ h];exact getElem?_neg (⟨⟨l⟩⟩:ByteArray) i (by show¬i<l.length;omega)
@[go_sem]def og(a b:List UInt8):dF .eql (bu a) (bu b)=a_ (.v (.bool (a==b))):=by
 simp only[bu,dF,Jm,TS,jS]
@[go_sem]def yu(a b:List UInt8):dF .neq (bu a) (bu b)=a_ (.v (.bool !(a==b))):=by
 simp only[bu,dF,Jm,TS,jS]
@[go_sem]def uQ{a b:List UInt8}(h:a.length+b.length<=4611686018427387904):dF .add (bu a) (bu b)=a_ (bu (a++b)):=by
 have e:(⟨⟨a⟩⟩:ByteArray)++⟨⟨b⟩⟩=⟨⟨a++b⟩⟩:=by apply aad;simp
 have V:¬(((⟨⟨a⟩⟩:ByteArray).size+(⟨⟨b⟩⟩:ByteArray).size:Nat):Int)>dy.max:=by
  show¬((a.length+b.length:Nat):Int)>9223372036854775807;omega
 simp only[bu,dF,Jm];rw[if_neg V,e];rfl
@[go_sem]def ac7{c:UInt8}{k:IntKind}(h:l[i]?=a_ c):wk (bu l) (.v (.int k (i:Int)))=a_ (.v (.int .u8 (c.toNat:Int))):=by
 simp only[bu,wk];rw[if_pos aa,xu,aqd,h];rfl
@[go_sem]def wX(l:List UInt8)(J:List br):qX (bu l) J=a_ (.v (.int .i64 (l.length:Int)),J):=rfl
@[go_sem]def OX(h:i<=j)(V:j<=l.length)(J:List br):GD (bu l) (a_ (.v (.int .i64 (i:Int)))) (a_ (.v (.int .i64 (j:Int)))) J=a_ (bu ((l.take j).drop i),J):=by
 have e:(⟨⟨l⟩⟩:ByteArray).extract i j=⟨⟨(l.take j).drop i⟩⟩:=by
  apply aad;simp[List.drop_take]
 have O:mj l.length l.length (a_ (i:Int)) (a_ (j:Int)) bn=a_ (i,j,l.length):=by
  simp only[mj,j6,A2,Ci,kz,if_false];rw[if_pos ⟨aa,aa⟩];dsimp only;rw[if_pos ⟨aa,aa⟩];simp
 show G0 (λr=>(r,J)) (mQ 0 (.v (.string ⟨⟨l⟩⟩)) (a_ (.v (.int .i64 (i:Int)))) (a_ (.v (.int .i64 (j:Int)))) bn)=_;have qR:∀n:Int,oC (a_ (.v (.int .i64 n)))=a_ (a_ n):=λn=>rfl;have qS:oC bn=a_ bn:=rfl;unfold mQ;rw[qR,qR,qS];dsimp only;rw[if_neg af,show(⟨⟨l⟩⟩:ByteArray).size=l.length from rfl,O];dsimp only;rw[e];rfl
@[go_sem]def Us(h:i<=l.length)(J:List br):GD (bu l) (a_ (.v (.int .i64 (i:Int)))) bn J=a_ (bu (l.drop i),J):=by
 have e:(⟨⟨l⟩⟩:ByteArray).extract i l.length=⟨⟨l.drop i⟩⟩:=by
  apply aad;simp;rw[n6 af]
 have O:mj l.length l.length (a_ (i:Int)) bn bn=a_ (i,l.length,l.length):=by
  simp only[mj,j6,A2,Ci,kz,if_false];rw[if_pos ⟨aa,aa⟩];simp
 show G0 (λr=>(r,J)) (mQ 0 (.v (.string ⟨⟨l⟩⟩)) (a_ (.v (.int .i64 (i:Int)))) bn bn)=_;have qR:∀n:Int,oC (a_ (.v (.int .i64 n)))=a_ (a_ n):=λn=>rfl;have qS:oC bn=a_ bn:=rfl;unfold mQ;rw[qR,qS];dsimp only;rw[if_neg af,show(⟨⟨l⟩⟩:ByteArray).size=l.length from rfl,O];dsimp only;rw[e];rfl
@[go_sem]def OW(h:j<=l.length)(J:List br):GD (bu l) bn (a_ (.v (.int .i64 (j:Int)))) J=a_ (bu (l.take j),J):=by
 have e:(⟨⟨l⟩⟩:ByteArray).extract 0 j=⟨⟨l.take j⟩⟩:=by
  apply aad;simp
 have O:mj l.length l.length bn (a_ (j:Int)) bn=a_ (0,j,l.length):=by
  simp only[mj,j6,A2,Ci,kz,if_false];rw[if_pos ⟨aa,aa⟩];simp
 show G0 (λr=>(r,J)) (mQ 0 (.v (.string ⟨⟨l⟩⟩)) bn (a_ (.v (.int .i64 (j:Int)))) bn)=_;have qR:∀n:Int,oC (a_ (.v (.int .i64 n)))=a_ (a_ n):=λn=>rfl;have qS:oC bn=a_ bn:=rfl;unfold mQ;rw[qR,qS];dsimp only;rw[if_neg af,show(⟨⟨l⟩⟩:ByteArray).size=l.length from rfl,O];dsimp only;rw[e];rfl
def aDJ(len l h m:Nat):D9 .no len l h m bf=.no:=by
 unfold D9;rw[if_neg af];split;split<;>rfl;rfl
section
variable{xs:List bg}{n:Nat}
@[go_sem]def Zc{lo Q:Option bg}{l' h':Option Int}(Y:oC lo=a_ l')(V:oC Q=a_ h')(O:mj xs.length xs.length l' h' bn=a_ (i,j,xs.length))(ho:∀x∈xs,x.cells.length=n)(J:List br):
  r7 n (.sl xs .no) lo Q bn J=a_ (.sl ((xs.take j).drop i) .no,J):=by
 have lT:(xs.all λx=>x.cells.length==n)=bh:=by
  rw[eO];intro x I;simpa using ho x I
 show G0 (λr=>(r,J)) (mQ n (.sl xs .no) lo Q bn)=_;have qS:oC bn=a_ bn:=rfl;unfold mQ;rw[Y,V,qS];dsimp only;rw[O];dsimp only;rw[if_pos lT,show(bn:Option Int).isSome=bf from rfl,aDJ];rfl
@[go_sem]def amz(h:j<=xs.length)(ho:∀x∈xs,x.cells.length=n)(J:List br):r7 n (.sl xs .no) bn (a_ (.v (.int .i64 (j:Int)))) bn J=a_ (.sl (xs.take j) .no,J):=by
 have O:mj xs.length xs.length bn (a_ (j:Int)) bn=a_ (0,j,xs.length):=by
  simp only[mj,j6,A2,Ci,kz,if_false];rw[if_pos ⟨aa,aa⟩];simp
 exact Zc rfl rfl O ho J
@[go_sem]def RU(h:i<=xs.length)(ho:∀x∈xs,x.cells.length=n)(J:List br):r7 n (.sl xs .no) (a_ (.v (.int .i64 (i:Int)))) bn bn J=a_ (.sl (xs.drop i) .no,J):=by
 have O:mj xs.length xs.length (a_ (i:Int)) bn bn=a_ (i,xs.length,xs.length):=by
  simp only[mj,j6,A2,Ci,kz,if_false];rw[if_pos ⟨aa,aa⟩];simp
 have:=Zc (xs:=xs) (n:=n) (lo:=a_ (.v (.int .i64 (i:Int)))) (Q:=bn) rfl rfl O ho J;rw[sy] at this;exact this
end
def Sc{l:List (List UInt8)}:∀x∈l.map bu,x.cells.length=1:=λx I=>by
 obtain⟨a,_,rfl⟩:=dZ.1 I;rfl
def Fa{α:Type}(p:α->Bool)(l:List α):Int:=if l.any p then(l.findIdx p:Int) else -1
def asc{p:α->Bool}{l:List α}{a:α}(h:l[i]?=a_ a)(J:p a=bh)(hI:∀j b,j<i->l[j]?=a_ b->p b=bf):Fa p l=(i:Int):=by
 have Q:=(cJ.1 h).1;have ha:l.any p=bh:=GX.2 ⟨a,cE h,J⟩;unfold Fa;rw[if_pos ha,(List.findIdx_eq Q).2 ⟨?_,λj hj=>?_⟩];rw[cx Q] at h;cases h;exact J;exact hI j _ hj (cx aa)
def asd{p:α->Bool}{l:List α}(hI:∀j b,j<l.length->l[j]?=a_ b->p b=bf):Fa p l= -1:=by
 have ha:l.any p=bf:=by
  rw[List.any_eq_false];intro a ha;obtain⟨j,hj,rfl⟩:=Eu ha;simp[hI j _ hj (cx hj)]
 unfold Fa;rw[ha];rfl
def ase(p:α->Bool)(l:List α):decide (0<=Fa p l)=l.any p:=by
 unfold Fa;cases l.any p<;>simp
end
instance:Coe Int bg:=⟨λn=>.v (.int .i64 n)⟩
instance:Coe Nat bg:=⟨λn=>.v (.int .i64 (n:Int))⟩
instance:Coe Bool bg:=⟨λb=>.v (.bool b)⟩
end Go.bP

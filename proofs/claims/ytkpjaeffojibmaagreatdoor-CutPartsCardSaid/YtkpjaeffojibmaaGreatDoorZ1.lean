/- Part 1 of a proof. No condition. -/
import Derived.Below
import Derived.Calls
import Derived.Tactics
import Derived.Laws.Append
import Derived.ArgAppend
import Derived.Deep.AppendSrc
import Derived.Laws.StructEq
import Derived.Laws.Slices
import Derived.Laws.BytesString
import Derived.Lib.UnsafeStr
set_option linter.unusedVariables false
set_option linter.unusedSimpArgs false
set_option linter.defProp false
namespace Go
def aa{p:Prop}(h:p:=by omega):p:=h
def af{p:Prop}(h:p:=by simp):p:=h
def ag{p:Prop}(h:p:=by decide):p:=h
def ah{p:Prop}(h:p:=by simp;omega):p:=h
def ai{p:Prop}(h:p:=by kernel_rfl):p:=h
def aj{p:Prop}(h:p:=by rw[fO (by omega) (by omega)];omega):p:=h
def ak{p:Prop}(h:p:=by simpa using q):p:=h
def an{p:Prop}(h:p:=by repeat' first|kernel_rfl|(intros;kernel_rfl)|constructor):p:=h
def aq{p:Prop}(h:p:=by simp at q;omega):p:=h
def au{p:Prop}(h:p:=by simp at h):p:=h
def av{p:Prop}(h:p:=by rw[fO (by omega) (by omega)];rfl):p:=h
def ax{p:Prop}(h:p:=by rw[bD (by intro q;subst q;rw[S] at O;cases O)];exact O):p:=h
def ay{p:Prop}(h:p:=by cases q):p:=h
def az{p:Prop}(h:p:=by rcases hA with⟨rfl,_⟩|⟨_,rfl,_⟩<;>rfl):p:=h
def aA{p:Prop}(h:p:=by simp[I]):p:=h
def aB{p:Prop}(h:p:=by rw[tW _ _ _ (by exact V)];exact a1):p:=h
def aC{p:Prop}(h:p:=by cases e):p:=h
def aD{p:Prop}(h:p:=by show(0:Int)<=(a);omega):p:=h
def aE{p:Prop}(h:p:=by cases h):p:=h
def aF{p:Prop}(h:p:=by simp at I):p:=h
def aG{p:Prop}(h:p:=by simpa using V):p:=h
def aH{p:Prop}(h:p:=by simpa using O):p:=h
def aI{p:Prop}(h:p:=by simpa using hl):p:=h
def aJ{p:Prop}(h:p:=by rw[<-h.fj];simp):p:=h
def aK{p:Prop}(h:p:=by simp[mo] at h):p:=h
def aL{p:Prop}(h:p:=by intro q;subst q;rw[S] at O;cases O):p:=h
def aM{p:Prop}(h:p:=by simp only[er]):p:=h
def aN{p:Prop}(h:p:=by simpa using z):p:=h
def aO{p:Prop}(h:p:=by rw[HG _ _ _ (by show L.b≠_;omega)];exact q1 i):p:=h
def aP{p:Prop}(h:p:=by cases h;exact⟨rfl,λi a b h=>by simp at h⟩):p:=h
def aQ{p:Prop}(h:p:=by rw[HG _ _ _ (by show L.b≠_;omega)];exact a2):p:=h
def aR{p:Prop}(h:p:=by simp only[bz,h.b];rfl):p:=h
def aS{p:Prop}(h:p:=by simp[hy]):p:=h
def aT{p:Prop}(h:p:=by unfold TP;simp only[gv,run_underlying hd,gD];cases d<;>first|(exact(Rd _ rfl).elim)|simp):p:=h
def aU{p:Prop}(h:p:=by rw[tW _ _ _ (by exact V)];exact bS.1 o ho):p:=h
def aV{p:Prop}(h:p:=by simp only[bL,O];rfl):p:=h
def aW{p:Prop}(h:p:=by simpa using bt):p:=h
def aX{p:Prop}(h:p:=by show L.b≠_;omega):p:=h
def aY{p:Prop}(h:p:=by simpa using Q):p:=h
def aZ{p:Prop}(h:p:=by simpa using h):p:=h
def aJK{p:Prop}(h:p:=by simp[fy] at h):p:=h
def aJL{p:Prop}(h:p:=by simp[hq]):p:=h
def aJM{p:Prop}(h:p:=by simp[dL,mh]):p:=h
def aJN{p:Prop}(h:p:=by simpa using c6):p:=h
def aJO{p:Prop}(h:p:=by rcases q with rfl|⟨rfl,_⟩<;>rfl):p:=h
def aJP{p:Prop}(h:p:=by unfold ov at fJ⊢;rw[gf];exact fJ):p:=h
def aJQ{p:Prop}(h:p:=by rw[gf];exact fJ):p:=h
def aJR{p:Prop}(h:p:=by rw[ym];rfl):p:=h
def aJS{p:Prop}(h:p:=by rw[lq q];exact hM):p:=h
def aJT{p:Prop}(h:p:=by rw[ln J,k7]):p:=h
def aJU{p:Prop}(h:p:=by grind):p:=h
def aJV{p:Prop}(h:p:=by decide +kernel):p:=h
def aJW{p:Prop}(h:p:=by rw[lq q];exact O):p:=h
def aJX{p:Prop}(h:p:=by intro e;rw[e] at b_;simp at b_):p:=h
def aJY{p:Prop}(h:p:=by apply tU;simp):p:=h
def aJZ{p:Prop}(h:p:=by cases i with|zero=>cases q1;cases bt;exact I|succ i=>cases q1):p:=h
def aJ0{p:Prop}(h:p:=by show(1:Int)<=5;decide):p:=h
def aJ1{p:Prop}(h:p:=by unfold rq;rw[eg];exact⟨e,by rw[oF];exact⟨he,O⟩,rfl⟩):p:=h
def aJ2{p:Prop}(h:p:=by rw[dP.1 hy];exact⟨qm,pS⟩):p:=h
def aJ3{p:Prop}(h:p:=by simp[e1]):p:=h
def aJ4{p:Prop}(h:p:=by simp[dR]):p:=h
def aJ5{p:Prop}(h:p:=by exact V):p:=h
def aJ6{p:Prop}(h:p:=by rw[bD e];exact hj):p:=h
def aJ7{p:Prop}(h:p:=by rcases h.v with rfl|⟨rfl,_⟩<;>rfl):p:=h
def aJ8{p:Prop}(h:p:=by simpa using he):p:=h
def aJ9{p:Prop}(h:p:=by rw[bU hl];simp):p:=h
def aJ_{p:Prop}(h:p:=by rw[vZ];exact Nat.mod_lt _ (by omega)):p:=h
def aKa{p:Prop}(h:p:=by rw[bD (by omega)];exact h0):p:=h
def aKb{p:Prop}(h:p:=by simp only[Oz,SZ,AY,T6,IZ,<-p5];exact o_ n (by omega)):p:=h
def aKc{p:Prop}(h:p:=by rw[bD (by omega)];exact q):p:=h
def aKd{p:Prop}(h:p:=by cases ys with|nil=>exact(bR rfl).elim|cons _ _=>simp):p:=h
def aKe{p:Prop}(h:p:=by simp[hw]):p:=h
def aKf{p:Prop}(h:p:=by cases neg<;>rfl):p:=h
def aKg{p:Prop}(h:p:=by rw[dR]):p:=h
def aKh{p:Prop}(h:p:=by rcases k_ with rfl|⟨rfl,_⟩<;>exact⟨rfl,rfl⟩):p:=h
def aKi{p:Prop}(h:p:=by rw[bD (by rintro rfl;rw[Y] at q;simp at q)];exact q):p:=h
def aKj{p:Prop}(h:p:=by cases l with|nil=>exact absurd rfl h|cons a r=>rfl):p:=h
def aKk{p:Prop}(h:p:=by simp at h⊢;omega):p:=h
def aKl{p:Prop}(h:p:=by have:=hI.ne;rw[ec,pZ] at z;omega):p:=h
def aKm{p:Prop}(h:p:=by rw[ec];omega):p:=h
def aKn{p:Prop}(h:p:=by have:=he.1;simp at this):p:=h
def aKo{p:Prop}(h:p:=by rw[bD (by rintro rfl;rw[O] at q;cases q)];exact q):p:=h
def aKp{p:Prop}(h:p:=by simp[binOp,OE]):p:=h
def aKq{p:Prop}(h:p:=by simpa using ha):p:=h
def aKr{p:Prop}(h:p:=by simpa using q1):p:=h
def aKs{p:Prop}(h:p:=by rw[Q];exact hz):p:=h
def aKt{p:Prop}(h:p:=by simpa using h4):p:=h
def aKu{p:Prop}(h:p:=by simpa using hn):p:=h
def aKv{p:Prop}(h:p:=by simpa using fk):p:=h
def aKw{p:Prop}(h:p:=by simp[eV,cZ,jK,cr]):p:=h
def aKx{p:Prop}(h:p:=by show 0<=12;omega):p:=h
def aKy{p:Prop}(h:p:=by have:=(cL.1 hj).1;have:=V.1;simp at this;omega):p:=h
def aKz{p:Prop}(h:p:=by intro e;subst e;rw[S] at hj;cases hj;cases ho):p:=h
def aKA{p:Prop}(h:p:=by simpa using Y):p:=h
def aKB{p:Prop}(h:p:=by simp[zeroValue,typeInfo,Q,hv]):p:=h
def aKC{p:Prop}(h:p:=by have:=Gl.1;simp at this;omega):p:=h
def aKD{p:Prop}(h:p:=by rw[JP];exact h.defers.mono bK):p:=h
def aKE{p:Prop}(h:p:=by rw[bD (by omega)];exact h.out):p:=h
def aKF{p:Prop}(h:p:=by cases cl<;>first|rfl|cases ho):p:=h
def aKG{p:Prop}(h:p:=by rcases fJ with⟨rfl,_⟩|⟨_,rfl,_⟩<;>rfl):p:=h
def aKH{p:Prop}(h:p:=by rintro rfl;rw[S] at hj;cases hj;exact O _ rfl):p:=h
def aKI{p:Prop}(h:p:=by have:=s.n;rw[D1] at this;exact(jJ this).2.2.1):p:=h
def aKJ{p:Prop}(h:p:=by simp at bt;omega):p:=h
def aKK{p:Prop}(h:p:=by intro e;subst e;rw[S] at hj;cases hj;cases O):p:=h
def aKL{p:Prop}(h:p:=by simpa using eP.1 this.2 i (by simpa using Q)):p:=h
def aKM{p:Prop}(h:p:=by cases w<;>first|rfl|cases hw):p:=h
def aKN{p:Prop}(h:p:=by have:=z.s.n;rw[D1] at this;exact(jJ this).1):p:=h
def aKO{p:Prop}(h:p:=by simp[Y]):p:=h
def aKP{p:Prop}(h:p:=by simp[Hz,OC,run_underlying ht,ff,qv hn];rfl):p:=h
def aKQ{p:Prop}(h:p:=by simp[O]):p:=h
def aKR{p:Prop}(h:p:=by cases x<;>first|rfl|cases I):p:=h
def aKS{p:Prop}(h:p:=by rw[<-oV.1];exact S):p:=h
def aKT{p:Prop}(h:p:=by simp[eI]):p:=h
def aKU{p:Prop}(h:p:=by simp[Kq,run_underlying he]):p:=h
def aKV{p:Prop}(h:p:=by unfold eqGuard;split<;>rfl):p:=h
def aKW{p:Prop}(h:p:=by have:=D.1;simpa using this):p:=h
def aKX{p:Prop}(h:p:=by have:=h.1;simpa using this):p:=h
def aKY{p:Prop}(h:p:=by rw[bD (by omega)];exact q1):p:=h
def aKZ{p:Prop}(h:p:=by first|(cases q;done)|omega):p:=h
def aK0{p:Prop}(h:p:=by rw[bD (by omega)];exact k0):p:=h
def aK1{p:Prop}(h:p:=by rw[bD (by omega),bD (by omega)];exact h0):p:=h
def aK2{p:Prop}(h:p:=by rw[dh,Te q,fO (by omega) (by omega)];rfl):p:=h
def aK3{p:Prop}(h:p:=by rw[bD (by omega),bD (by omega)];exact k0):p:=h
def aK4{p:Prop}(h:p:=by simpa using h3):p:=h
def aK5{p:Prop}(h:p:=by have:=q G1;have:=g G1;have:=g' G1;omega):p:=h
def aK6{p:Prop}(h:p:=by rw[vV _ _ (λq=>O q.1)];exact bS.1 o ho):p:=h
def aK7{p:Prop}(h:p:=by rw[<-Y.1];exact S):p:=h
def aK8{p:Prop}(h:p:=by obtain⟨es,cB,m1,_⟩:=h.m;exact gl m1):p:=h
def aK9{p:Prop}(h:p:=by simp;exact λa b=>bR.elim (· a) (· b)):p:=h
def aK_{p:Prop}(h:p:=by first|rfl|(exfalso;omega)):p:=h
def aLa{p:Prop}(h:p:=by simp at hz;obtain⟨n,_,rfl⟩:=hz;rfl):p:=h
def aLb{p:Prop}(h:p:=by rw[<-e,S] at q;cases q;exact bR _ rfl):p:=h
def aLc{p:Prop}(h:p:=by simp[binOp,TR,w_]):p:=h
def aLd{p:Prop}(h:p:=by simpa using e):p:=h
def aLe{p:Prop}(h:p:=by rw[abQ];exact Nat.mul_le_mul_left _ z):p:=h
def aLf{p:Prop}(h:p:=by intro e;subst e;rw[S] at hj;cases hj):p:=h
def aLg{p:Prop}(h:p:=by apply tU;simpa using oS):p:=h
def aLh{p:Prop}(h:p:=by apply tU;simpa using MP):p:=h
def aLi{p:Prop}(h:p:=by simp only[di,S,hm,if_true,h n hn,j4]):p:=h
def aLj{p:Prop}(h:p:=by rw[dh,Hp q,fO (by omega) (by omega)]):p:=h
def aLk{p:Prop}(h:p:=by obtain⟨l,q,_⟩:=h;exact(zv q).one):p:=h
def aLl{p:Prop}(h:p:=by rw[iJ];rfl):p:=h
def aLm{p:Prop}(h:p:=by rw[jb];rfl):p:=h
def aLn{p:Prop}(h:p:=by rw[bD e];exact h):p:=h
def aLo{p:Prop}(h:p:=by rw[bD (eX hj)];exact h):p:=h
def aLp{p:Prop}(h:p:=by rw[bD (eX hj)];exact q):p:=h
def aLq{p:Prop}(h:p:=by show(5:Int)<=5;decide):p:=h
def aLr{p:Prop}(h:p:=by rw[fR,I];rfl):p:=h
def aLs{p:Prop}(h:p:=by rw[Hj];exact a2):p:=h
def aLt{p:Prop}(h:p:=by simpa using h.1):p:=h
def aLu{p:Prop}(h:p:=by rw[gk];exact a1):p:=h
def aLv{p:Prop}(h:p:=by simp at T):p:=h
def aLw{p:Prop}(h:p:=by simp only[tL,fR,Y,j4]):p:=h
def aLx{p:Prop}(h:p:=by simp at S):p:=h
def aLy{p:Prop}(h:p:=by rw[bD (ne q)];exact q):p:=h
def aLz{p:Prop}(h:p:=by rw[bD (Np q)];exact q):p:=h
def aLA{p:Prop}(h:p:=by rw[nx (by omega)];rfl):p:=h
def aLB{p:Prop}(h:p:=by rw[bD (eX q)];exact h):p:=h
def aLC{p:Prop}(h:p:=by simp[pI,gR]):p:=h
def aLD{p:Prop}(h:p:=by rw[dP.1 hy];exact e9):p:=h
def aLE{p:Prop}(h:p:=by simpa using jQ):p:=h
def aLF{p:Prop}(h:p:=by simpa using fX):p:=h
def aLG{p:Prop}(h:p:=by simpa using hf):p:=h
def aLH{p:Prop}(h:p:=by simp[ov];omega):p:=h
def aLI{p:Prop}(h:p:=by simpa using h5):p:=h
def aLJ{p:Prop}(h:p:=by simp[hj]):p:=h
def aLK{p:Prop}(h:p:=by simp[hz]):p:=h
def aLL{p:Prop}(h:p:=by simp[c7]):p:=h
def aLM{p:Prop}(h:p:=by rw[dP.1 hy];exact I):p:=h
def aLN{p:Prop}(h:p:=by simp[hs]):p:=h
def aLO{p:Prop}(h:p:=by rw[BU];simp<;>omega):p:=h
def aLP{p:Prop}(h:p:=by rw[vM];simp<;>omega):p:=h
def aLQ{p:Prop}(h:p:=by simp only[uY];omega):p:=h
def aLR{p:Prop}(h:p:=by simp[h.fj]):p:=h
def aLS{p:Prop}(h:p:=by simp[dL,mh,h]):p:=h
def aLT{p:Prop}(h:p:=by exact me.ok.1):p:=h
def aLU{p:Prop}(h:p:=by simpa[zO] using e2):p:=h
def aLV{p:Prop}(h:p:=by rw[lq e6];exact q1):p:=h
def aLW{p:Prop}(h:p:=by unfold nu;rw[jU z]):p:=h
def aLX{p:Prop}(h:p:=by rw[dP.1 q];exact I):p:=h
def aLY{p:Prop}(h:p:=by rw[<-hX,hk2];simp):p:=h
end Go
open Array renaming ext_getElem?->aHn,getElem?_append_left->abc,getElem?_eq_getElem->wE,getElem?_eq_none->apw,getElem?_eq_some_iff->zG,getElem?_modify->EX,length_toList->apx,size_append->Oz
open BitVec renaming ofInt->CN
open Bool renaming false->bf,false_eq_true->ke,not_true->zH,true->bh
open Go.Builtin renaming append_->yd,firstCells->abh,lenOf->abi,len_->Kq,zeroCells->zI
open Go.Instr renaming index->abo,indexAt->TO,loadAt->abp,slice->OC,sliceAt->Hz,sliceBounds->apG,storeAt->apH,sureAddr->OD
open Go.IntKind renaming i64->de
open Go.Op renaming bytesLess->abr,equalIn->Bp,intArith->abt,intBits->TR,intCmp->OE
open Go.Result renaming andThen_ok->gD
open Go.RowKit.Below renaming heap_setCell->apT
open Go.Sem renaming run_bind->gv,run_pure->mz
open Go.Value renaming cells->zO
open Go.World renaming block_lt_of_cell?->TS,cell?->HE,cell?_alloc_lt->tW,cell?_alloc_new->HF,cell?_setCells_in->aHt,cell?_setCells_out->aHu,freeze->TT,frozen?->abA,frozen?_alloc_new->abB,frozen?_alloc_old->HG,frozen?_setCells->OI,setCells->OK,shape?->OL,size_drew->abC
open Go renaming byteCells->apW
open List renaming all_append->apX,all_eq_true->eP,append_assoc->dR,append_nil->gd,drop_nil->abH,drop_of_length_le->sZ,drop_succ_cons->Bu,eq_nil_of_length_eq_zero->nZ,ext_getElem?->E5,getElem?_append_left->fT,getElem?_append_right->fY,getElem?_drop->s0,getElem?_eq_getElem->cz,getElem?_eq_none->jU,getElem?_eq_some_iff->cL,getElem?_map->fR,getElem?_set_ne->bD,getElem?_set_self->bU,getElem?_take->TY,getElem?_take_of_lt->CT,getElem_mem->abL,getElem_of_mem->HH,length_append->ec,length_cons->eW,length_drop->tX,length_map->cM,length_nil->hY,length_take->p0,map_cons->fG,mem_map->eg,mem_of_getElem?->cG,mem_of_mem_drop->tY,mem_of_mem_take->CU,nil_append->gN,range->kY,size_toArray->T6,take_of_length_le->mA,take_succ_cons->yp
open Nat renaming add_assoc->n5,add_le_add_left->abP,add_mul->p5,add_zero->vc,eq_zero_or_pos->CV,le_refl->cj,le_trans->h_,lt_or_ge->en,mul_le_mul_right->o_,one_mul->E7,sub_self->mU,sub_zero->E8,zero_add->gk,zero_le->js
open Ne renaming symm->eX
open Option renaming isSome_iff_exists->abS,isSome_none->Bx,map_eq_some_iff->dx,map_some->j4,none->bn,some->a_
open Option.some renaming injEq->n6
open Or renaming inl->bE,inr->bF
namespace Go.bM
open Go.RowKit
section
variable{a:Addr}{B b base b9 cap d field fin FL id k len m n n' o off top:Nat}{dst e s src t ty:TypeId}{i' j s' v x' y y':Value}{w w':World}{i:Option Int}{cs' news vs:List Value}{bN neg row:Bool}{Dz:Array Field}{f:Field}{op:BinOp}{iA nt:Operand}{jP zc uN:Option Value}
def dQ{α:Type}{l:List α}{i:Nat}(h:i<l.length):∃x,l[i]?=a_ x:=⟨_,cz h⟩
def gl{α:Type}{l:List α}{i:Nat}{x:α}(h:l[i]?=a_ x):i<l.length:=(cL.1 h).1
inductive ob where
 |exact
 |no
 |tok (id:Nat)
 deriving DecidableEq
inductive bg where
 |v (x:Value)
 |agg (Z:List bg)
 |bQ (Z:List bg)
 |bp
 |sl (xs:List bg) (t:ob)
 |fp (Z:List bg) (off:Nat)
 |mp (k off:Nat)
 |rp (k n off:Nat)
 |rs (k n sz off len:Nat)
 |gA (k:Nat)
 |gM (ch:List PanicEntry)
 |fn (f:Fn) (first Vg:List bg)
 |eD (t:TypeId) (x:bg)
 |gb (k:Nat)
 |jj (k:Nat)
 |iH (k:Nat) (t:TypeId×Nat)
variable{r x:bg}{Q lo mx:Option bg}{Z ts us ys zs:List bg}
def bg.cells:bg->List bg
 |.agg Z=>Z
 |x=>[x]
def bg.one:bg->Bool
 |.agg _|.bQ _|.gM _=>bf
 |_=>bh
def plain:Value->Bool
 |.bool _|.int _ _|.float _ _|.string _|.pointer bn|.nilFunc|.nilIface|.map bn=>bh
 |_=>bf
inductive br where
 |cells (Z:List bg) (row:Bool)
 |tok (n sz:Nat) (e:TypeId)
 |obj (o:Obj)
 |eO (es:List (bg×bg×Nat)) (aHW:Nat)
 |bW (st:LoopState) (pd:Option Code) (bO:List bg) (ps:Array Tmp) (ok:Code->Code->Prop)
variable{J bl:List br}
def br.isObj:br->Bool
 |.cells _ _|.tok _ _ _=>bf
 |_=>bh
def br.like(b b':br):Prop:=(∀o,b=.obj o->∃o',b'=.obj o'/\(o=.deferred (a_ [])->o'=o))/\
 (∀st pd bO ps ok,b=.bW st pd bO ps ok->∃gr lg,b'=.bW gr lg bO ps ok)/\(∀es cB,b=.eO es cB->∃mL ni,b'=.eO mL ni)
def br.like.refl(b:br):b.like b:=⟨λo h=>⟨o,h,λ_=>rfl⟩,λst pd _ _ _ h=>⟨st,pd,h⟩,λes cB h=>⟨es,cB,h⟩⟩
def br.like.trans{a b c:br}(h:a.like b)(h':b.like c):a.like c:=by
 refine⟨λo e=>?_,λst pd bO ps ok e=>?_,λes cB e=>?_⟩;obtain⟨o',e',f⟩:=h.1 o e;obtain⟨aCN,vB,f'⟩:=h'.1 o' e';refine⟨aCN,vB,λq=>?_⟩;rw[(f q)] at f';exact f' q;obtain⟨gr,lg,e'⟩:=h.2.1 _ _ _ _ _ e;exact h'.2.1 _ _ _ _ _ e';obtain⟨mL,ni,e'⟩:=h.2.2 _ _ e;exact h'.2.2 _ _ e'
def br.like.isObj{b b':br}(h:b.like b')(ho:b.isObj=bh):b'.isObj=bh:=by
 cases b with
 |obj o=>obtain⟨o',e,_⟩:=h.1 o rfl;rw[e];rfl
 |bW st pd bO ps ok=>obtain⟨_,_,e⟩:=h.2.1 _ _ _ _ _ rfl;rw[e];rfl
 |eO es cB=>obtain⟨_,_,e⟩:=h.2.2 _ _ rfl;rw[e];rfl
 |_=>cases ho
def ue(o:Obj):Prop:=∀c t f,o≠.cells c t f
structure Loc where
 b:Nat
 fin:Nat:=0
 cap:Nat:=0
 ty:TypeId×Nat:=(0,0)
variable{M M':List Loc}{L L':Loc}
abbrev Cells:=Nat->Nat->Option Value
variable{C bI:Cells}
def vp(M:List Loc)(J:List br)(a:Addr)(len cap sz:Nat):ob->Prop
 |.exact=>cap=len
 |.no=>True
 |.tok id=>∃n s ty L,J[id]?=a_ (.tok n s ty)/\M[id]?=a_ L/\len<=n/\(len=0\/sz=s)/\
  (len=n->a.spot=bn/\a.block=L.b/\a.off+len*s=L.fin/\a.off+cap*s=L.cap)
inductive bP(C:Cells)(M:List Loc)(J:List br):bg->Value->Prop
 |v {x:Value} (h:plain x=bh):bP C M J (.v x) x
 |agg {Z:List bg} {cs':Array Value} (hl:Z.length=cs'.size)
  (h:∀(i:Nat) a b,Z[i]?=a_ a->cs'[i]?=a_ b->bP C M J a b):bP C M J (.agg Z) (.agg cs')
 |bQ {Z:List bg} {cs':Array Value} (hl:Z.length=cs'.size)
  (h:∀(i:Nat) a b,Z[i]?=a_ a->cs'[i]?=a_ b->bP C M J a b):bP C M J (.bQ Z) (.tuple cs')
 |bp:bP C M J .bp (.slice bn 0 0)
 |sl {xs:List bg} {t:ob} {a:Addr} {cap sz:Nat} (f:Nat->Nat->Value)
  (gJ:xs≠[]->a.spot=bn)
  (dD:∀(i:Nat) x,xs[i]?=a_ x->x.cells.length=sz)
  (hC:∀(i:Nat) x (j:Nat) c,xs[i]?=a_ x->x.cells[j]?=a_ c->C a.block (a.off+i*sz+j)=a_ (f i j))
  (hR:∀(i:Nat) x (j:Nat) c,xs[i]?=a_ x->x.cells[j]?=a_ c->bP C M J c (f i j))
  (hT:vp M J a xs.length cap sz t) (iq:xs.length<=cap):bP C M J (.sl xs t) (.slice (a_ a) xs.length cap)
 |fp {Z:List bg} {off b o:Nat} (f:Nat->Value)
  (hC:∀(i:Nat) c,Z[i]?=a_ c->C b (o+i)=a_ (f i)) (hR:∀(i:Nat) c,Z[i]?=a_ c->bP C M J c (f i)):
  bP C M J (.fp Z off) (.pointer (a_ ⟨b,o+off,bn⟩))
 |mp {k off:Nat} {L:Loc} {Z:List bg} (O:J[k]?=a_ (.cells Z bf)) (hM:M[k]?=a_ L):
  bP C M J (.mp k off) (.pointer (a_ ⟨L.b,off,bn⟩))
 |rp {k n off:Nat} {L:Loc} {Z:List bg} {a:Addr} (O:J[k]?=a_ (.cells Z bh)) (hM:M[k]?=a_ L) (hn:n<=Z.length) (ha:n=Z.length->a=⟨L.b,off,bn⟩):
  bP C M J (.rp k n off) (.pointer (a_ a))
 |rs {k n sz off len cap:Nat} {L:Loc} {Z:List bg} {a:Addr} (O:J[k]?=a_ (.cells Z bh)) (hM:M[k]?=a_ L) (hn:n<=Z.length) (fX:len<=cap)
  (ha:n=Z.length->a=⟨L.b,off,bn⟩/\off+len*sz<=Z.length/\Z.length<=off+cap*sz/\off+cap*sz<=L.cap):
  bP C M J (.rs k n sz off len) (.slice (a_ a) len cap)
 |gA {k:Nat} {L:Loc} {o:Obj} (O:J[k]?=a_ (.obj o)) (hM:M[k]?=a_ L):bP C M J (.gA k) (.pointer (a_ ⟨L.b,0,bn⟩))
 |fn {f:Fn} {fs Z:List bg} {kN cs':Array Value} (jQ:fs.length=kN.size) (fX:Z.length=cs'.size)
  (hf:∀(i:Nat) a b,fs[i]?=a_ a->kN[i]?=a_ b->bP C M J a b)
  (T:∀(i:Nat) a b,Z[i]?=a_ a->cs'[i]?=a_ b->bP C M J a b):bP C M J (.fn f fs Z) (.func f kN cs')
 |eD {t:TypeId} {x:bg} {x':Value} (h:bP C M J x x'):bP C M J (.eD t x) (.iface t x')
 |gb {k:Nat} {L:Loc} {es:List (bg×bg×Nat)} {cB:Nat} (O:J[k]?=a_ (.eO es cB)) (hM:M[k]?=a_ L):bP C M J (.gb k) (.map (a_ L.b))
 |jj {k:Nat} {L:Loc} {st:LoopState} {pd:Option Code} {bO:List bg} {ps:Array Tmp} {ok:Code->Code->Prop} (O:J[k]?=a_ (.bW st pd bO ps ok)) (hM:M[k]?=a_ L):bP C M J (.jj k) (.func (.yield L.b) #[] #[])
 |iH {k:Nat} {L:Loc} {Z:List bg} (O:J[k]?=a_ (.cells Z bf)) (hM:M[k]?=a_ L):bP C M J (.iH k L.ty) (.pointer bn)
structure c8(C:Cells)(M:List Loc)(J:List br)(bI:Cells)(M':List Loc)(bl:List br):Prop where
 C:∀b o v,C b o=a_ v->bI b o=a_ v
 cells:∀(k:Nat) Z fz,J[k]?=a_ (.cells Z fz)->∃cs',bl[k]?=a_ (.cells cs' fz)/\(fz=bh->Z.length<=cs'.length)/\((fz=bh->cs'.length=Z.length)->M'[k]?=M[k]?)/\((M[k]?).isSome->(M'[k]?).isSome)
 toks:∀(k:Nat) n s ty,J[k]?=a_ (.tok n s ty)->∃n',bl[k]?=a_ (.tok n' s ty)/\n<=n'/\(n'=n->M'[k]?=M[k]?)/\((M[k]?).isSome->(M'[k]?).isSome)
 gB:∀(k:Nat) b,b.isObj=bh->J[k]?=a_ b->(∃b',bl[k]?=a_ b'/\b.like b')/\M'[k]?=M[k]?
def c8.refl(C)(M)(J):c8 C M J C M J:=
 ⟨λ_ _ _ h=>h,λ_ Z fz h=>⟨Z,h,λ_=>cj _,λ_=>rfl,λh=>h⟩,λ_ n _ _ h=>⟨n,h,cj _,λ_=>rfl,λh=>h⟩,λ_ b _ h=>⟨⟨b,h,.refl b⟩,rfl⟩⟩
def c8.trans{KE ab4}{HT acm}{ahA ahB}(h:c8 C M J KE HT ahA)(k:c8 KE HT ahA ab4 acm ahB):c8 C M J ab4 acm ahB:=by
 refine⟨λb o v e=>k.C _ _ _ (h.C _ _ _ e),λi Z fz e=>?_,λi n s ty e=>?_,λi b O e=>?_⟩;obtain⟨cs',e',g,m,s⟩:=h.cells i Z fz e;obtain⟨as1,vB,g',m',s'⟩:=k.cells i cs' fz e';exact⟨as1,vB,λq=>h_ (g q) (g' q),λq=>((m' λG1=>aK5).trans (m λG1=>aK5)),λq=>s' (s q)⟩;obtain⟨n',e',l,m,s1⟩:=h.toks i n s ty e;obtain⟨alK,vB,l',m',s2⟩:=k.toks i n' s ty e';refine⟨alK,vB,h_ l l',λq=>?_,λq=>s2 (s1 q)⟩;have b:alK=n':=aa
 exact(m' b).trans (m aa);obtain⟨⟨b',e',l⟩,m⟩:=h.gB i b O e;obtain⟨⟨UX,vB,l'⟩,m'⟩:=k.gB i b' (l.isObj O) e';exact⟨⟨UX,vB,l.trans l'⟩,m'.trans m⟩
def c8.length(h:c8 C M J bI M' bl):J.length<=bl.length:=by
 rcases CV J.length with h0|h0
 omega;have hl:J.length-1<J.length:=aa
 have e:=cz hl;have key:∃b,bl[J.length-1]?=a_ b:=by
  cases O:J[J.length-1] with
  |cells Z fz=>rw[O] at e;obtain⟨cs',q,_⟩:=h.cells _ _ _ e;exact⟨_,q⟩
  |tok n s ty=>rw[O] at e;obtain⟨n',q,_⟩:=h.toks _ _ _ _ e;exact⟨_,q⟩
  |obj o=>rw[O] at e;obtain⟨⟨b',q,_⟩,_⟩:=h.gB _ _ rfl e;exact⟨_,q⟩
  |eO es cB=>rw[O] at e;obtain⟨⟨b',q,_⟩,_⟩:=h.gB _ _ rfl e;exact⟨_,q⟩
  |bW st pd bO ps ok=>rw[O] at e;obtain⟨⟨b',q,_⟩,_⟩:=h.gB _ _ rfl e;exact⟨_,q⟩
 obtain⟨b,O⟩:=key;have:=(cL.1 O).1;omega
def vp.mono(bK:c8 C M J bI M' bl){sz:Nat}{t}
  (h:vp M J a len cap sz t):vp M' bl a len cap sz t:=by
 cases t with
 |exact=>exact h
 |no=>trivial
 |tok id=>
  obtain⟨n,s,ty,L,e,m,l,z,q⟩:=h;obtain⟨n',e',l',m',s1⟩:=bK.toks id n s ty e;have:=s1 (by simp[m]);obtain⟨L',tv⟩:=abS.1 this;refine⟨n',s,ty,L',e',tv,h_ l l',z,λhq=>?_⟩;have:=m' aa;rw[tv,m] at this;cases this;exact q aa
def bP.mono(bK:c8 C M J bI M' bl)
  (h:bP C M J x y):bP bI M' bl x y:=by
 induction h with
 |v h=>exact .v h
 |agg hl _ ih=>exact .agg hl ih
 |bQ hl _ ih=>exact .bQ hl ih
 |bp=>exact .bp
 |sl f gJ dD hC _ hT iq ih=>exact .sl f gJ dD (λi x j c Y V=>bK.C _ _ _ (hC i x j c Y V)) ih (hT.mono bK) iq
 |fp f hC _ ih=>exact .fp f (λi c h=>bK.C _ _ _ (hC i c h)) ih
 |mp O hM=>
  obtain⟨cs',e,_,m,_⟩:=bK.cells _ _ _ O;exact .mp e ((m nofun).trans hM)
 |@rp k n off L Z a O hM hn ha=>
  obtain⟨cs',e,g,m,s⟩:=bK.cells _ _ _ O;have g:=g rfl;obtain⟨L',tv⟩:=abS.1 (s (by rw[hM];rfl));refine .rp e tv aa λq=>?_;have Y:cs'.length=Z.length:=aa
  have V:=m λ_=>Y;rw[tv,hM] at V;cases V;exact ha aa
 |@rs k n sz off len cap L Z a O hM hn fX ha=>
  obtain⟨cs',e,g,m,s⟩:=bK.cells _ _ _ O;have g:=g rfl;obtain⟨L',tv⟩:=abS.1 (s (by rw[hM];rfl));refine .rs e tv aa fX λq=>?_;have Y:cs'.length=Z.length:=aa
  have V:=m λ_=>Y;rw[tv,hM] at V;cases V;rw[Y];exact ha aa
 |gA O hM=>
  obtain⟨⟨b',e,l⟩,m⟩:=bK.gB _ _ rfl O;obtain⟨o',rfl,_⟩:=l.1 _ rfl;exact .gA e (m.trans hM)
 |fn jQ fX _ _ Gt Gs=>exact .fn jQ fX Gt Gs
 |eD _ ih=>exact .eD ih
 |gb O hM=>
  obtain⟨⟨b',e,l⟩,m⟩:=bK.gB _ _ rfl O;obtain⟨mL,ni,rfl⟩:=l.2.2 _ _ rfl;exact .gb e (m.trans hM)
 |iH O hM=>
  obtain⟨cs',e,_,m,_⟩:=bK.cells _ _ _ O;exact .iH e ((m nofun).trans hM)
 |jj O hM=>
  obtain⟨⟨b',e,l⟩,m⟩:=bK.gB _ _ rfl O;obtain⟨_,_,rfl⟩:=l.2.1 _ _ _ _ _ rfl;exact .jj e (m.trans hM)
def uf(C:Cells)(M:List Loc)(J:List br):br->Obj->Prop
 |.obj o',o=>o=o'
 |.eO es cB,o=>∃fu:Array MapEntry,o=.map fu cB/\es.length=fu.toList.length/\∀(i:Nat) a b,es[i]?=a_ a->fu.toList[i]?=a_ b->bP C M J a.1 b.key/\bP C M J a.2.1 b.val/\b.born=a.2.2
 |.bW st pd bO ps ok,o=>∃fn tmps assign body hr,o=.loop {state:=st,pending:=pd,fn:=fn,tmps:=tmps,params:=ps,assign:=assign,body:=body,defers:=hr}/\ok assign body/\
  bO.length=tmps.size/\∀(i:Nat) a b,bO[i]?=a_ a->tmps[i]?=a_ b->bP C M J a b
 |_,_=>False
def uf.mono(bK:c8 C M J bI M' bl){b:br}{o:Obj}(h:uf C M J b o):uf bI M' bl b o:=by
 cases b with
 |obj o'=>exact h
 |eO es cB=>
  obtain⟨lH,e,Y,V⟩:=h;exact⟨lH,e,Y,λi a b ha O=>let⟨x,y,z⟩:=V i a b ha O;⟨x.mono bK,y.mono bK,z⟩⟩
 |bW st pd bO ps ok=>
  obtain⟨fn,tmps,assign,body,hr,e,Y,V,h3⟩:=h;exact⟨fn,tmps,assign,body,hr,e,Y,V,λi a b ha O=>(h3 i a b ha O).mono bK⟩
 |_=>exact h.elim
structure k4 where
 w:World
 C:Cells
variable{w0:k4}
def oa(w:World)(b:Nat)(e:TypeId×Nat):Prop:=w.shape? b=a_ e
def oa.same{e}(h:oa w b e)(O:w'.heap[b]?=w.heap[b]?):oa w' b e:=by
 unfold oa OL at h⊢;rw[O];exact h
def oa.alloc{e}(h:oa w b e)(O:b<w.heap.size)(o:Obj):oa (w.alloc o) b e:=h.same (Below.heap_alloc w o b O)
def oa.new{cells}:oa (w.alloc (.cells cells e)) w.heap.size (e,cells.size):=by
 have:(w.alloc (.cells cells e)).heap[w.heap.size]?=a_ (.cells cells e):=by
  show(w.heap.push (.cells cells e))[w.heap.size]?=_;simp
 unfold oa OL;rw[this]
def oa.set{e}(h:oa w b e)(a)(v):oa (w.setCell a v) b e:=by
 by_cases O:b=a.block;unfold oa OL at h⊢;have:(w.setCell a v).heap[b]?=(w.heap[b]?).map λ
  |.cells c Vz frozen=>.cells (if a.spot.isSome then c else c.setIfInBounds a.off v) Vz frozen
  |o=>o:=by
  show(w.heap.modify a.block _)[b]?=_;rw[EX,if_pos O.symm];cases w.heap[b]? with
  |none=>rfl
  |some x=>cases x<;>rfl
 rw[this];cases I:w.heap[b]? with
 |none=>rw[I] at h;simp at h
 |some x=>
  rw[I] at h;cases x with
  |cells Z ty fr=>
   simp only[n6] at h;simp only[j4,<-h];split<;>simp
  |_=>simp at h
 unfold oa OL at h⊢;rw[apT _ _ _ _ O];exact h
def kE(w:World)(b fin:Nat)(e:TypeId):Prop:=∃(Z:Array Value) (lo Q:Nat),w.heap[b]?=a_ (.cells Z e (lo,Q))/\(lo=Q\/Q<=fin)
def kE.free(h:kE w b fin e)(o:Nat)(ho:fin<=o):w.frozen? ⟨b,o,bn⟩=bf:=by
 obtain⟨Z,lo,Q,Y,V⟩:=h;simp only[abA,Y,Bool.and_eq_false_iff,decide_eq_false_iff_not];omega
def kE.shape(h:kE w b fin e):∃c,w.shape? b=a_ (e,c):=by
 obtain⟨Z,lo,Q,Y,V⟩:=h;exact⟨Z.size,by simp only[OL,Y]⟩
def kE.same(h:kE w b fin e)(O:w'.heap[b]?=w.heap[b]?):kE w' b fin e:=by
 obtain⟨Z,lo,Q,Y,V⟩:=h;exact⟨Z,lo,Q,by rw[O];exact Y,V⟩
def kE.alloc(h:kE w b fin e)(O:b<w.heap.size)(o:Obj):kE (w.alloc o) b fin e:=h.same (Below.heap_alloc w o b O)
def kE.new{cells}:kE (w.alloc (.cells cells e)) w.heap.size fin e:=by
 refine⟨cells,0,0,?_,.inl rfl⟩;show(w.heap.push (.cells cells e))[w.heap.size]?=_;simp
def kE.set(h:kE w b fin e)(hf:fin<=FL)(a)(v):kE (w.setCell a v) b FL e:=by
 obtain⟨Z,lo,Q,Y,V⟩:=h;have h3:lo=Q\/Q<=FL:=aa
 by_cases O:b=a.block;subst O;refine⟨if a.spot.isSome then Z else Z.setIfInBounds a.off v,lo,Q,?_,h3⟩;show(w.heap.modify a.block _)[a.block]?=_;rw[EX,if_pos rfl,Y];rfl;exact⟨Z,lo,Q,by rw[apT _ _ _ _ O];exact Y,h3⟩
def kE.up(h:kE w b fin e)(hf:fin<=FL):kE w b FL e:=by
 obtain⟨Z,lo,Q,Y,V⟩:=h;exact⟨Z,lo,Q,Y,aa⟩
def kE.freeze(h:kE w b fin e)(a)(n:Nat)(hfit:b=a.block->a.off+n<=fin):kE (w.freeze a n) b fin e:=by
 unfold TT;split;exact h;obtain⟨Z,lo,Q,Y,V⟩:=h;by_cases O:b=a.block;have av4:=hfit O;subst O;by_cases he:lo=Q;refine⟨Z,a.off,a.off+n,?_,.inr av4⟩;show(w.heap.modify a.block _)[a.block]?=_;rw[EX,if_pos rfl,Y];simp[he];refine⟨Z,min lo a.off,max Q (a.off+n),?_,.inr aa⟩;show(w.heap.modify a.block _)[a.block]?=_;rw[EX,if_pos rfl,Y];simp[he];refine⟨Z,lo,Q,?_,V⟩;show(w.heap.modify a.block _)[b]?=_;rw[EX,if_neg (eX O)];exact Y
section
variable{G:Cells}
def Tl:Nat:=6
def Fl(w:World):Prop:=∃Z t f,w.heap[Tl]?=a_ (.cells Z t f)/\Z.size=20
structure aqj(base:Nat)(w0:k4):Prop where
 le:base<=w0.w.heap.size
 lt:Tl<base
 tab:Fl w0.w
def Ui(G C:Cells)(w:World):Prop:=(∀b o v,G b o=a_ v->C b o=a_ v)/\Fl w
structure cx(G:Cells)(base:Nat)(w0:k4)(C:Cells)(M:List Loc)(J:List br)(w:World):Prop where
 below:Below base w0.w w
 nH:aqj base w0
 old:∀b o v,C b o=a_ v->b<base->w0.C b o=a_ v
 ry:∀b o v,G b o=a_ v->C b o=a_ v
 fj:M.length=J.length
 nL:∀b o v,C b o=a_ v->w.cell? ⟨b,o,bn⟩=a_ v
 cells:∀(k:Nat) Z fz L,J[k]?=a_ (.cells Z fz)->M[k]?=a_ L->base<=L.b/\L.b<w.heap.size/\
  (∀(i:Nat) c,Z[i]?=a_ c->∃c',w.cell? ⟨L.b,i,bn⟩=a_ c'/\bP C M J c c')/\
  (∀i,w.frozen? ⟨L.b,i,bn⟩=bf)/\(∀o,C L.b o=bn)/\(∀o,o<L.cap->∃v,w.cell? ⟨L.b,o,bn⟩=a_ v)/\oa w L.b L.ty
 toks:∀(k:Nat) n s ty L,J[k]?=a_ (.tok n s ty)->M[k]?=a_ L->base<=L.b/\L.b<w.heap.size/\L.fin<=L.cap/\
  (∀o,L.fin<=o->C L.b o=bn)/\(∀o,L.fin<=o->o<L.cap->(∃v,w.cell? ⟨L.b,o,bn⟩=a_ v)/\w.frozen? ⟨L.b,o,bn⟩=bf)/\kE w L.b L.fin ty
 apart:∀(k k':Nat) L L',k≠k'->M[k]?=a_ L->M[k']?=a_ L'->L.b≠L'.b
 gB:∀(k:Nat) b L,b.isObj=bh->J[k]?=a_ b->M[k]?=a_ L->base<=L.b/\∃o,w.heap[L.b]?=a_ o/\ue o/\uf C M J b o
def cx.Px(h:cx G base w0 C M J w):base<=w.heap.size:=
 h_ h.nH.le h.below.size
def cx.tab(h:cx G base w0 C M J w):Fl w:=by
 obtain⟨Z,t,f,Y,V⟩:=h.nH.tab;exact⟨Z,t,f,by rw[h.below.block _ h.nH.lt];exact Y,V⟩
def cx.drew(h:cx G base w0 C M J w):cx G base w0 C M J w.drew:=
 ⟨h.below.drew,h.nH,h.old,h.ry,h.fj,h.nL,h.cells,h.toks,h.apart,h.gB⟩
end
def bP.one(h:bP C M J x y)(Y:x.one=bh):y.oneCell'=bh:=by
 cases h<;>first|rfl|(simp[bg.one] at Y;done)|skip
 rename_i I
 cases y<;>first|rfl|(simp[plain] at I)
variable{G:Cells}{base:Nat}{w0:k4}{w:World}{C:Cells}{M:List Loc}{J:List br}
def Cells.add(C:Cells)(B lo:Nat)(vs:List Value):Cells:=
 λb o=>if b=B/\lo<=o/\o<lo+vs.length then vs[o-lo]? else C b o
def Cells.Fm(C:Cells)(B lo:Nat)(vs)(i:Nat)(h:i<vs.length):C.add B lo vs B (lo+i)=vs[i]? :=by
 unfold Cells.add;rw[if_pos ⟨rfl,aa,aa⟩];congr 1;omega
def Cells.vr(C:Cells)(B lo:Nat)(vs){b o:Nat}(h:¬(b=B/\lo<=o/\o<lo+vs.length)):C.add B lo vs b o=C b o:=by
 unfold Cells.add;rw[if_neg h]
def cx.fresh(h:cx G base w0 C M J w)(o:Nat):C w.heap.size o=bn:=by
 cases T:C w.heap.size o with
 |none=>rfl
 |some v=>
  have:=TS w _ (h.nL _ _ _ T);simp at this
def cx.GR(h:cx G base w0 C M J w){bI}{M'}{bl}{w':World}(bK:c8 C M J bI M' bl)(hh:∀(k:Nat) b,b.isObj=bh->bl[k]?=a_ b->J[k]?=a_ b/\M'[k]?=M[k]?)
  (hw:∀(b:Nat) o,w.heap[b]?=a_ o->ue o->w'.heap[b]?=a_ o):∀(k:Nat) b L,b.isObj=bh->bl[k]?=a_ b->M'[k]?=a_ L->base<=L.b/\∃o,w'.heap[L.b]?=a_ o/\ue o/\uf bI M' bl b o:=λk b L O S hM=>by
 obtain⟨Y,V⟩:=hh k b O S;rw[V] at hM;obtain⟨a,o,e,c,d⟩:=h.gB k b L O Y hM;exact⟨a,o,hw _ _ e c,c,d.mono bK⟩
def QZ(w:World)(x:Obj)(b:Nat)(o:Obj)(h:w.heap[b]?=a_ o):(w.alloc x).heap[b]?=a_ o:=by
 show(w.heap.push x)[b]?=a_ o;have hl:=(zG.1 h).1;rw[Array.getElem?_push_lt hl,<-wE hl];exact h
def Y9{b:br}{L:Loc}(hl:M.length=J.length)(O:b.isObj=bf){k:Nat}{x:br}(I:x.isObj=bh)(h:(J++[b])[k]?=a_ x):J[k]?=a_ x/\(M++[L])[k]?=M[k]? :=by
 rcases en k J.length with S|S
 rw[fT S] at h;exact⟨h,fT aa⟩;rw[fY S] at h;cases hj:k-J.length with
 |zero=>rw[hj] at h;simp at h;subst h;rw[O] at I;cases I
 |succ j=>rw[hj] at h;simp at h
def JB{b:br}{i:Nat}(O:b.isObj=bf){k:Nat}{x:br}(I:x.isObj=bh)(h:(J.set i b)[k]?=a_ x):k≠i/\J[k]?=a_ x:=by
 by_cases e:i=k;subst e;by_cases Q:i<J.length;rw[bU Q] at h;simp at h;subst h;rw[O] at I;cases I;rw[jU ah] at h;cases h;rw[bD e] at h;exact⟨λq=>e q.symm,h⟩
def c8.aq2{B lo:Nat}{vs}(hn:∀o,lo<=o->o<lo+vs.length->C B o=bn):c8 C M J (C.add B lo vs) M J:=by
 refine⟨λb o v h=>?_,λk Z fz h=>⟨Z,h,λ_=>cj _,λ_=>rfl,λh=>h⟩,λk n s ty h=>⟨n,h,cj _,λ_=>rfl,λh=>h⟩,λk b _ h=>⟨⟨b,h,.refl b⟩,rfl⟩⟩;rw[Cells.vr];exact h;rintro⟨rfl,Y,V⟩;rw[hn o Y V] at h;cases h
def c8.push(b:br)(L:Loc)(hl:M.length=J.length):c8 C M J C (M++[L]) (J++[b]):=by
 refine⟨λ_ _ _ h=>h,λk Z fz h=>?_,λk n s ty h=>?_,λk o _ h=>?_⟩;have S:=(cL.1 h).1;exact⟨Z,by rw[fT S];exact h,λ_=>cj _,λ_=>by rw[fT aa],λh=>by rw[fT aa];exact h⟩;have S:=(cL.1 h).1;exact⟨n,by rw[fT S];exact h,cj _,λ_=>by rw[fT aa],λh=>by rw[fT aa];exact h⟩;have S:=(cL.1 h).1;exact⟨⟨o,by rw[fT S];exact h,.refl o⟩,by rw[fT aa]⟩
def cx.V4(h:cx G base w0 C M J w)(cells)(e)(vs)(hv:∀(i:Nat) v,vs[i]?=a_ v->cells[i]?=a_ v):
  c8 C M J (C.add w.heap.size 0 vs) M J/\cx G base w0 (C.add w.heap.size 0 vs) M J (w.alloc (.cells cells e)):=by
 have bK:c8 C M J (C.add w.heap.size 0 vs) M J:=c8.aq2 λo _ _=>h.fresh o;refine⟨bK,h.below.alloc (h_ h.nH.le h.below.size) _,h.nH,λb o v T O=>h.old b o v (by rwa [Cells.vr _ _ _ _ (λq=>by have:=h.Px;omega)] at T) O,λb o v hg=>bK.C _ _ _ (h.ry b o v hg),h.fj,?_,?_,?_,h.apart,h.GR bK (λk o _ h=>⟨h,rfl⟩) λb o O _=>QZ _ _ _ _ O⟩;intro b o v T;by_cases O:b=w.heap.size/\0<=o/\o<0+vs.length;obtain⟨rfl,_,V⟩:=O;have:=Cells.Fm C w.heap.size 0 vs o aa;rw[gk] at this;rw[this] at T;rw[HF];exact hv o v T;rw[Cells.vr _ _ _ _ O] at T;have hw:=h.nL b o v T;rw[tW _ _ _ (TS _ _ hw)];exact hw;intro k Z fz L S hM;obtain⟨Y,V,h3,q1,bt,bS⟩:=h.cells k Z fz L S hM;have bR:∀o,¬(L.b=w.heap.size/\0<=o/\o<0+vs.length):=λo hq=>aa
 refine⟨Y,ah,λi c T=>?_,λi=>by rw[HG _ _ _ aX];exact q1 i,λo=>by rw[Cells.vr _ _ _ _ (bR o)];exact bt o,
  λo ho=>by rw[tW _ _ _ aJ5];exact bS.1 o ho,bS.2.alloc V _⟩
 obtain⟨c',a1,a2⟩:=h3 i c T;exact⟨c',by rw[tW _ _ _ aJ5];exact a1,a2.mono bK⟩;intro k n s ty L S hM;obtain⟨Y,V,h3,h4,h5,h6⟩:=h.toks k n s ty L S hM;refine⟨Y,ah,h3,λo ho=>by rw[Cells.vr _ _ _ _ ((λo hq=>aa) o)];exact h4 o ho,λo ho iK=>?_,h6.alloc V _⟩;obtain⟨a1,a2⟩:=h5 o ho iK;exact⟨by rw[tW _ _ _ aJ5];exact a1,by rw[HG _ _ _ aX];exact a2⟩
def dB(C:Cells)(M:List Loc)(J:List br)(Z:List bg)(cs':List Value):Prop:=
 Z.length=cs'.length/\∀(i:Nat) a b,Z[i]?=a_ a->cs'[i]?=a_ b->bP C M J a b
def dB.mono{bI}{M'}{bl}(bK:c8 C M J bI M' bl){Z}{cs'}(h:dB C M J Z cs'):dB bI M' bl Z cs':=
 ⟨h.1,λi a b Y V=>(h.2 i a b Y V).mono bK⟩
def dB.get{Z}{cs'}(h:dB C M J Z cs'){i:Nat}{c:bg}(T:Z[i]?=a_ c):∃c',cs'[i]?=a_ c'/\bP C M J c c':=by
 have Q:i<cs'.length:=by rw[<-h.1];exact(cL.1 T).1
 exact⟨cs'[i],cz Q,h.2 i c _ T (cz Q)⟩
def cx.Sb(h:cx G base w0 C M J w)(row)(cap:Nat)(Z)(vs)(cells)(e)(D:dB C M J Z vs)(hv:∀(i:Nat) v,vs[i]?=a_ v->cells[i]?=a_ v)(iq:cap<=cells.size):
  c8 C M J C (M++[{b:=w.heap.size,cap:=cap,ty:=(e,cells.size)}]) (J++[.cells Z row])/\
   cx G base w0 C (M++[{b:=w.heap.size,cap:=cap,ty:=(e,cells.size)}]) (J++[.cells Z row]) (w.alloc (.cells cells e)):=by
 have bK:c8 C M J C (M++[{b:=w.heap.size,cap:=cap,ty:=(e,cells.size)}]) (J++[.cells Z row]):=c8.push _ _ h.fj;have DL:=h_ h.nH.le h.below.size;refine⟨bK,h.below.alloc DL _,h.nH,h.old,h.ry,aLR,?_,?_,?_,?_,h.GR bK (λk o ho S=>Y9 h.fj rfl ho S) λb o O _=>QZ _ _ _ _ O⟩;intro b o v T;have hw:=h.nL b o v T;rw[tW _ _ _ (TS _ _ hw)];exact hw;intro k yQ fz L S hM
 rcases en k J.length with hl|hl
 rw[fT hl] at S;rw[fT (by rw[h.fj];exact hl)] at hM;obtain⟨Y,V,h3,q1,bt,bS⟩:=h.cells k yQ fz L S hM;refine⟨Y,ah,λi c T=>?_,λi=>by rw[HG _ _ _ aX];exact q1 i,bt,λo ho=>by rw[tW _ _ _ aJ5];exact bS.1 o ho,bS.2.alloc V _⟩;obtain⟨c',a1,a2⟩:=h3 i c T;exact⟨c',by rw[tW _ _ _ aJ5];exact a1,a2.mono bK⟩;have ga:k=J.length:=by
  have:=(cL.1 S).1;simp at this;omega
 subst ga;rw[fY (cj _)] at S;rw[fY (by rw[h.fj];exact cj _),h.fj] at hM;simp at S hM;obtain⟨rfl,rfl⟩:=S;subst hM;refine⟨DL,af,λi c T=>?_,λi=>abB _ _ _ _,λo=>h.fresh o,λo ho=>?_,oa.new⟩;obtain⟨c',a1,a2⟩:=D.get T;exact⟨c',by rw[HF];exact hv _ _ a1,a2.mono bK⟩;rw[HF];have ho:o<cap:=ho;exact⟨cells[o],wE aa⟩;intro k n s ty L S hM
 rcases en k J.length with hl|hl
 rw[fT hl] at S;rw[fT (by rw[h.fj];exact hl)] at hM;obtain⟨Y,V,h3,h4,h5,h6⟩:=h.toks k n s ty L S hM;refine⟨Y,ah,h3,h4,λo ho iK=>?_,h6.alloc V _⟩;obtain⟨a1,a2⟩:=h5 o ho iK;exact⟨by rw[tW _ _ _ aJ5];exact a1,by rw[HG _ _ _ aX];exact a2⟩;have ga:k=J.length:=by
  have:=(cL.1 S).1;simp at this;omega
 subst ga;rw[fY (cj _)] at S;simp at S;intro k k' L L' bR hM eA;have key:∀(j:Nat) (L₁:Loc),M[j]?=a_ L₁->L₁.b<w.heap.size:=by
  intro j L₁ hj;have kR:j<J.length:=by rw[<-h.fj];exact(cL.1 hj).1
  cases O:J[j] with
  |cells yQ fz=>exact(h.cells j yQ fz L₁ (by rw[cz kR,O]) hj).2.1
  |tok n s ty=>exact(h.toks j n s _ L₁ (by rw[cz kR,O]) hj).2.1
  |_=>
   obtain⟨_,o,e,_⟩:=h.gB j _ L₁ (by rw[O];rfl) (cz kR) hj;exact(zG.1 e).1
 rcases en k M.length with hl|hl
 rw[fT hl] at hM
 rcases en k' M.length with hl'|hl'
 rw[fT hl'] at eA;exact h.apart k k' L L' bR hM eA;rw[fY hl'] at eA;have:=key k L hM;have e:L'={b:=w.heap.size,cap:=cap,ty:=(e,cells.size)}:=by
  cases hj:k'-M.length with
  |zero=>rw[hj] at eA;simpa using eA.symm
  |succ j=>rw[hj] at eA;simp at eA
 subst e;show L.b≠w.heap.size;omega;rw[fY hl] at hM;have e:L={b:=w.heap.size,cap:=cap,ty:=(e,cells.size)}:=by
  cases hj:k-M.length with
  |zero=>rw[hj] at hM;simpa using hM.symm
  |succ j=>rw[hj] at hM;simp at hM
 subst e
 rcases en k' M.length with hl'|hl'
 rw[fT hl'] at eA;have:=key k' L' eA;show w.heap.size≠L'.b;omega;rw[fY hl'] at eA;exfalso;have Y:k-M.length=0:=by
  cases hj:k-M.length with
  |zero=>rfl
  |succ j=>rw[hj] at hM;simp at hM
 have V:k'-M.length=0:=by
  cases hj:k'-M.length with
  |zero=>rfl
  |succ j=>rw[hj] at eA;simp at eA
 omega
def cx.YZ(h:cx G base w0 C M J w)(Z)(cells)(e)(D:dB C M J Z cells.toList):
  c8 C M J C (M++[{b:=w.heap.size,ty:=(e,cells.size)}]) (J++[.cells Z bf])/\
   cx G base w0 C (M++[{b:=w.heap.size,ty:=(e,cells.size)}]) (J++[.cells Z bf]) (w.alloc (.cells cells e)):=
 h.Sb bf 0 Z cells.toList cells e D (λi v hv=>by simpa using hv) (js _)
variable{G:Cells}{base:Nat}{w0:k4}{w:World}{C:Cells}{M:List Loc}{J:List br}
def cx.at(h:cx G base w0 C M J w){k:Nat}{L:Loc}(hM:M[k]?=a_ L):L.b<w.heap.size/\base<=L.b:=by
 have kR:k<J.length:=by rw[<-h.fj];exact(cL.1 hM).1
 cases O:J[k] with
 |cells Z fz=>have:=h.cells k Z fz L (by rw[cz kR,O]) hM;exact⟨this.2.1,this.1⟩
 |tok n s ty=>have:=h.toks k n s _ L (by rw[cz kR,O]) hM;exact⟨this.2.1,this.1⟩
 |_=>
  obtain⟨Y,o,e,_⟩:=h.gB k _ L (by rw[O];rfl) (cz kR) hM;exact⟨(zG.1 e).1,Y⟩
def nT{α:Type}{l}{x y:α}{k:Nat}(h:(l++[x])[k]?=a_ y):(k<l.length/\l[k]?=a_ y)\/(k=l.length/\y=x):=by
 rcases en k l.length with hl|hl
 rw[fT hl] at h;exact bE ⟨hl,h⟩;rw[fY hl] at h;cases hj:k-l.length with
 |zero=>rw[hj] at h;simp at h;exact bF ⟨aa,h.symm⟩
 |succ j=>rw[hj] at h;simp at h
def lT{α:Type}{l:List α}{x y:α}{k id:Nat}(h:(l.set id x)[k]?=a_ y):(k≠id/\l[k]?=a_ y)\/(k=id/\id<l.length/\y=x):=by
 by_cases e:k=id;subst e;have hl:k<l.length:=by
  have:=(cL.1 h).1;simpa using this
 rw[bU hl] at h;exact bF ⟨rfl,hl,by simpa using h.symm⟩;rw[bD (eX e)] at h;exact bE ⟨e,h⟩
def cx.Sc(h:cx G base w0 C M J w)(cells)(e)(vs)(hv:∀(i:Nat) v,vs[i]?=a_ v->cells[i]?=a_ v)
  (n s cap:Nat) (hs:vs.length<=cap) (iq:cap<=cells.size):
  let bI:=C.add w.heap.size 0 vs
  let M':=M++[{b:=w.heap.size,fin:=vs.length,cap:=cap}]
  let bl:=J++[.tok n s e]
  c8 C M J bI M' bl/\cx G base w0 bI M' bl (w.alloc (.cells cells e)):=by
 intro bI M' bl;obtain⟨DV,Y⟩:=h.V4 cells e vs hv;have lN:c8 bI M J bI M' bl:=c8.push _ _ h.fj;refine⟨DV.trans lN,Y.below,h.nH,Y.old,Y.ry,by simp[M',bl,h.fj],Y.nL,?_,?_,?_,Y.GR lN (λk o ho S=>Y9 h.fj rfl ho S) λb o O _=>O⟩;intro k Z fz L S hM
 rcases nT S with⟨hl,S⟩|⟨_,S⟩
 rcases nT hM with⟨_,hM⟩|⟨hl',_⟩
 obtain⟨a1,a2,a3,a4⟩:=Y.cells k Z fz L S hM;refine⟨a1,a2,λi c T=>?_,a4⟩;obtain⟨c',b1,b2⟩:=a3 i c T;exact⟨c',b1,b2.mono lN⟩;rw[h.fj] at hl';omega;cases S;intro k tK tR ty L S hM
 rcases nT S with⟨hl,S⟩|⟨hl,S⟩
 rcases nT hM with⟨_,hM⟩|⟨hl',_⟩
 exact Y.toks k tK tR ty L S hM;rw[h.fj] at hl';omega;cases S
 rcases nT hM with⟨hl',_⟩|⟨_,rfl⟩
 rw[h.fj] at hl';omega;refine⟨h_ h.nH.le h.below.size,af,hs,λo ho=>?_,λo ho iK=>?_,kE.new⟩;show C.add w.heap.size 0 vs w.heap.size o=bn;rw[Cells.vr _ _ _ _ (by simp at ho⊢;omega)];exact h.fresh o;refine⟨?_,abB _ _ _ _⟩;rw[HF];simp at iK;exact⟨cells[o],wE aa⟩;intro k k' L L' bR hM eA
 rcases nT hM with⟨_,hM⟩|⟨e1,rfl⟩<;>rcases nT eA with⟨_,eA⟩|⟨e2,rfl⟩
 exact h.apart k k' L L' bR hM eA;have:=(h.at hM).1;show L.b≠w.heap.size;omega;have:=(h.at eA).1;show w.heap.size≠L'.b;omega;omega
def c8.anT{bI}{id n n' s:Nat}{ty}{L':Loc}(hC:∀b o v,C b o=a_ v->bI b o=a_ v)(hid:J[id]?=a_ (.tok n s ty))(hn:n<n')(hl:M.length=J.length):
  c8 C M J bI (M.set id L') (J.set id (.tok n' s ty)):=by
 have cQ:=(cL.1 hid).1;refine⟨hC,λk Z fz S=>?_,λk tK tR Tq S=>?_,λk o ho S=>?_⟩;have bR:id≠k:=by intro e;subst e;rw[hid] at S;cases S
 exact⟨Z,by rw[bD bR];exact S,λ_=>cj _,λ_=>by rw[bD bR],λq=>by rw[bD bR];exact q⟩;by_cases e:id=k;subst e;rw[hid] at S;cases S;exact⟨n',by rw[bU cQ],aa,λq=>aa,λ_=>by rw[bU aa];rfl⟩;exact⟨tK,by rw[bD e];exact S,cj _,λ_=>by rw[bD e],λq=>by rw[bD e];exact q⟩;have bR:id≠k:=by intro e;subst e;rw[hid] at S;cases S;cases ho
 exact⟨⟨o,by rw[bD bR];exact S,.refl o⟩,by rw[bD bR]⟩
def cx.aCg(h:cx G base w0 C M J w)(cells)(e)(vs)(hv:∀(i:Nat) v,vs[i]?=a_ v->cells[i]?=a_ v)
  {id n n' s cap:Nat} (hid:J[id]?=a_ (.tok n s e)) (hn:n<n') (hs:vs.length<=cap) (iq:cap<=cells.size):
  let bI:=C.add w.heap.size 0 vs
  let M':=M.set id {b:=w.heap.size,fin:=vs.length,cap:=cap}
  let bl:=J.set id (.tok n' s e)
  c8 C M J bI M' bl/\cx G base w0 bI M' bl (w.alloc (.cells cells e)):=by
 intro bI M' bl;obtain⟨DV,Y⟩:=h.V4 cells e vs hv;have lN:c8 bI M J bI M' bl:=c8.anT (λ_ _ _ h=>h) hid hn h.fj;have cQ:=(cL.1 hid).1;refine⟨DV.trans lN,Y.below,h.nH,Y.old,Y.ry,by simp[M',bl,h.fj],Y.nL,?_,?_,?_,Y.GR lN (λk o ho S=>⟨(JB rfl ho S).2,bD (eX (JB rfl ho S).1)⟩) λb o O _=>O⟩;intro k Z fz L S hM
 rcases lT S with⟨bR,S⟩|⟨_,_,S⟩
 rcases lT hM with⟨_,hM⟩|⟨e,_⟩
 obtain⟨a1,a2,a3,a4⟩:=Y.cells k Z fz L S hM;refine⟨a1,a2,λi c T=>?_,a4⟩;obtain⟨c',b1,b2⟩:=a3 i c T;exact⟨c',b1,b2.mono lN⟩;omega;cases S;intro k tK tR ty L S hM
 rcases lT S with⟨bR,S⟩|⟨rfl,_,S⟩
 rcases lT hM with⟨_,hM⟩|⟨e,_⟩
 exact Y.toks k tK tR ty L S hM;omega;cases S
 rcases lT hM with⟨bR,_⟩|⟨_,_,rfl⟩
 omega;refine⟨h_ h.nH.le h.below.size,af,hs,λo ho=>?_,λo ho iK=>?_,kE.new⟩;show C.add w.heap.size 0 vs w.heap.size o=bn;rw[Cells.vr _ _ _ _ (by simp at ho⊢;omega)];exact h.fresh o;refine⟨?_,abB _ _ _ _⟩;rw[HF];simp at iK;exact⟨cells[o],wE aa⟩;intro k k' L L' bR hM eA
 rcases lT hM with⟨_,hM⟩|⟨e1,_,rfl⟩<;>rcases lT eA with⟨_,eA⟩|⟨e2,_,rfl⟩
 exact h.apart k k' L L' bR hM eA;have:=(h.at hM).1;show L.b≠w.heap.size;omega;have:=(h.at eA).1;show w.heap.size≠L'.b;omega;omega
def F8(b:Nat):∀(vs) (o:Nat) (w:World) (k:Nat),k≠b->(w.setCells b o vs).heap[k]?=w.heap[k]?
 |[],_,_,_,_=>rfl
 |v::r,o,_,k,h=>by rw[OK,F8 b r (o+1) _ k h];exact apT _ _ _ _ h
def Hj(b:Nat):∀(vs) (o:Nat) (w:World),(w.setCells b o vs).heap.size=w.heap.size
 |[],_,_=>rfl
 |v::r,o,_=>by rw[OK,Hj b r (o+1)];simp
def U2{a}(b:Nat)(O:B<=b):∀(vs) (o:Nat) (w),Below B a w->Below B a (w.setCells b o vs)
 |[],_,_,h=>h
 |v::r,o,_,h=>U2 b O r (o+1) _ (h.setCell O v)
def oa.setCells{e}(b':Nat):∀(vs) (o:Nat) (w),oa w b e->oa (w.setCells b' o vs) b e
 |[],_,w,h=>h
 |v::r,o,w,h=>by rw[OK];exact oa.setCells b' r (o+1) _ (h.set _ _)
def kE.setCells(hf:fin<=FL)(b':Nat):∀(vs) (o:Nat) (w),kE w b fin e->kE (w.setCells b' o vs) b FL e
 |[],_,_,h=>h.up hf
 |v::r,o,w,h=>by rw[OK];exact kE.setCells hf b' r (o+1) _ (h.set (cj _) _ _)
def cx.au7(h:cx G base w0 C M J w)(vs){s:Nat}(hid:J[id]?=a_ (.tok n s ty))(hM:M[id]?=a_ L)(hn:n<n')(hfit:L.fin+vs.length<=L.cap):
  let bI:=C.add L.b L.fin vs
  let M':=M.set id {L with fin:=L.fin+vs.length}
  let bl:=J.set id (.tok n' s ty)
  c8 C M J bI M' bl/\cx G base w0 bI M' bl (w.setCells L.b L.fin vs):=by
 intro bI M' bl;obtain⟨t1,t2,t3,t4,t5,t6⟩:=h.toks id n s ty L hid hM;have agz:=λb o v T=>by
  show C.add L.b L.fin vs b o=a_ v;rw[Cells.vr];exact T;rintro⟨rfl,q1,bt⟩;rw[t4 o q1] at T;cases T
 have bK:c8 C M J bI M' bl:=c8.anT agz hid hn h.fj;have cQ:=(cL.1 hid).1;have vV:∀b o,¬(b=L.b/\L.fin<=o/\o<L.fin+vs.length)->(w.setCells L.b L.fin vs).cell? ⟨b,o,bn⟩=w.cell? ⟨b,o,bn⟩:=λb o BZ=>
  aHu L.b vs L.fin w ⟨b,o,bn⟩ (λe _=>by simp at e⊢;omega)
 refine⟨bK,U2 L.b t1 vs L.fin w h.below,h.nH,λb o v T O=>h.old b o v (by have jl:C.add L.b L.fin vs b o=a_ v:=T;rwa [Cells.vr _ _ _ _ (λq=>aa)] at jl) O,λb o v hg=>agz _ _ _ (h.ry b o v hg),by simp[M',bl,h.fj],?_,?_,?_,?_,λk o L₁ ho S iS=>?_⟩;intro b o v T;by_cases O:b=L.b/\L.fin<=o/\o<L.fin+vs.length;obtain⟨rfl,q1,bt⟩:=O;obtain⟨j,rfl⟩:∃j,o=L.fin+j:=⟨o-L.fin,aa⟩;have hj:j<vs.length:=aa
 have e:=Cells.Fm C L.b L.fin vs j hj;have jl:C.add L.b L.fin vs L.b (L.fin+j)=a_ v:=T;rw[e,cz hj] at jl;rw[aHt L.b vs L.fin w (λi Q=>by
  obtain⟨⟨x,I⟩,_⟩:=t5 (L.fin+i) aa aa;rw[I];rfl) j hj]
 exact jl;have jl:C.add L.b L.fin vs b o=a_ v:=T;rw[Cells.vr _ _ _ _ O] at jl;rw[vV b o O];exact h.nL b o v jl;intro k Z fz L₁ S iS
 rcases lT S with⟨bR,S⟩|⟨_,_,S⟩
 rcases lT iS with⟨_,iS⟩|⟨e,_⟩
 obtain⟨a1,a2,a3,a4⟩:=h.cells k Z fz L₁ S iS;have O:=h.apart k id L₁ L bR iS hM;obtain⟨q1,bt,bS⟩:=a4;refine⟨a1,aLs,λi c T=>?_,λi=>by rw[OI];exact q1 i,λo=>?_,λo ho=>aK6,bS.2.same (F8 _ _ _ _ _ O)⟩;obtain⟨c',b1,b2⟩:=a3 i c T;exact⟨c',by rw[vV _ _ (λq=>O q.1)];exact b1,b2.mono bK⟩;show C.add L.b L.fin vs L₁.b o=bn;rw[Cells.vr _ _ _ _ (λq=>O q.1)];exact bt o;omega;cases S;intro k tK tR ty L₁ S iS
 rcases lT S with⟨bR,S⟩|⟨rfl,_,S⟩
 rcases lT iS with⟨_,iS⟩|⟨e,_⟩
 obtain⟨a1,a2,a3,a4,a5,a6⟩:=h.toks k tK tR ty L₁ S iS;have O:=h.apart k id L₁ L bR iS hM;refine⟨a1,aLs,a3,λo ho=>?_,λo ho iK=>?_,a6.same (F8 _ _ _ _ _ O)⟩;show C.add L.b L.fin vs L₁.b o=bn;rw[Cells.vr _ _ _ _ (λq=>O q.1)];exact a4 o ho;rw[vV _ _ (λq=>O q.1),OI];exact a5 o ho iK;omega;cases S
 rcases lT iS with⟨bR,_⟩|⟨_,_,rfl⟩
 omega;refine⟨t1,by rw[Hj];exact t2,hfit,λo ho=>?_,λo ho iK=>?_,kE.setCells (Nat.le_add_right _ _) _ _ _ _ t6⟩;show C.add L.b L.fin vs L.b o=bn;simp at ho;rw[Cells.vr _ _ _ _ aa];exact t4 o aa;simp at ho iK;rw[OI];show(∃v,(w.setCells L.b L.fin vs).cell? ⟨L.b,o,bn⟩=a_ v)/\_;rw[vV L.b o aa];exact t5 o aa iK;intro k k' L₁ ack bR iS avr
 rcases lT iS with⟨_,q1⟩|⟨e1,_,rfl⟩<;>rcases lT avr with⟨_,bt⟩|⟨e2,_,rfl⟩
 exact h.apart k k' L₁ ack bR q1 bt;exact h.apart k id L₁ L aa q1 hM;exact h.apart id k' L ack aa hM bt;omega;obtain⟨bR,ga⟩:=JB rfl ho S;have eA:M[k]?=a_ L₁:=by have q:(M.set id {L with fin:=L.fin+vs.length})[k]?=a_ L₁:=iS;rwa [bD (eX bR)] at q
 obtain⟨a1,x,a2,a3,a4⟩:=h.gB k o L₁ ho ga eA;exact⟨a1,x,by rw[F8 _ _ _ _ _ (h.apart k id L₁ L bR eA hM)];exact a2,a3,a4.mono bK⟩
def dV(Z:List bg)(off:Nat)(vs:List bg):List bg:=Z.take off++vs++Z.drop (off+vs.length)
def ZH{vs}(h:off+vs.length<=Z.length)(i:Nat):
  (dV Z off vs)[i]?=if i<off then Z[i]? else if i<off+vs.length then vs[i-off]? else Z[i]? :=by
 unfold dV;have Y:(Z.take off).length=off:=ah
 by_cases c1:i<off;rw[if_pos c1,dR,fT aa,CT c1];rw[if_neg c1,dR,fY aa,Y];by_cases c2:i<off+vs.length;rw[if_pos c2,fT aa];rw[if_neg c2,fY aa,s0];congr 1;omega
def ZI{vs}(h:off+vs.length<=Z.length):(dV Z off vs).length=Z.length:=by
 unfold dV;simp;omega
def c8.setCells{cs'}(hC:∀b o v,C b o=a_ v->bI b o=a_ v)(S:J[k]?=a_ (.cells Z row))(hl:cs'.length=Z.length):
  c8 C M J bI M (J.set k (.cells cs' row)):=by
 have cQ:=(cL.1 S).1;refine⟨hC,λj yQ V_ hj=>?_,λj tK tR Tq hj=>?_,λj o ho hj=>?_⟩;by_cases e:k=j;subst e;rw[S] at hj;cases hj;exact⟨cs',bU cQ,λ_=>aa,λ_=>rfl,λh=>h⟩;exact⟨yQ,aJ6,λ_=>cj _,λ_=>rfl,λh=>h⟩;have e:k≠j:=aLf
 exact⟨tK,aJ6,cj _,λ_=>rfl,λh=>h⟩;exact⟨⟨o,by rw[bD aKz];exact hj,.refl o⟩,rfl⟩
def c8.agq{cs'}(hC:∀b o v,C b o=a_ v->bI b o=a_ v)(S:J[k]?=a_ (.cells Z bh))(hl:M.length=J.length)(hg:Z.length<cs'.length\/(cs'.length=Z.length/\M[k]?=a_ L')):
  c8 C M J bI (M.set k L') (J.set k (.cells cs' bh)):=by
 have cQ:=(cL.1 S).1;refine⟨hC,λj yQ V_ hj=>?_,λj tK tR Tq hj=>?_,λj o ho hj=>?_⟩;by_cases e:k=j;subst e;rw[S] at hj;cases hj;refine⟨cs',bU cQ,λ_=>aa,λq=>?_,λh=>by rw[bU aa];rfl⟩;have:=q rfl
 rcases hg with hg|⟨_,hg⟩
 omega;rw[bU aa,hg];exact⟨yQ,aJ6,λ_=>cj _,λ_=>by rw[bD e],λh=>aLn⟩;have e:k≠j:=aLf
 exact⟨tK,aJ6,cj _,λ_=>by rw[bD e],λh=>aLn⟩;have e:k≠j:=aKz
 exact⟨⟨o,aJ6,.refl o⟩,by rw[bD e]⟩
def cx.aoy(h:cx G base w0 C M J w){cs'}(S:J[k]?=a_ (.cells Z row))(hM:M[k]?=a_ L)
  (off:Nat) (us) (vs) (D:dB C M J us vs) (bK:c8 C M J C M (J.set k (.cells cs' row))) (hfit:off+us.length<=Z.length\/off+us.length<=L.cap)
  (QX:∀(i:Nat),cs'[i]?=if i<off then Z[i]? else if i<off+us.length then us[i-off]? else Z[i]?):
  cx G base w0 C M (J.set k (.cells cs' row)) (w.setCells L.b off vs):=by
 obtain⟨t1,t2,t3,aaF,zA,u5,ao1⟩:=h.cells k Z row L S hM;have c6:=D.1;have vV:∀b o,¬(b=L.b/\off<=o/\o<off+vs.length)->(w.setCells L.b off vs).cell? ⟨b,o,bn⟩=w.cell? ⟨b,o,bn⟩:=λb o BZ=>
  aHu L.b vs off w ⟨b,o,bn⟩ (λe _=>by simp at e⊢;omega)
 have AO:=aHt L.b vs off w (λq hq=>by
  rcases hfit with hfit|hfit
  obtain⟨c',b1,_⟩:=t3 (off+q) _ (cz aa);rw[b1];rfl;obtain⟨c',b1⟩:=u5 (off+q) aa;rw[b1];rfl)
 refine⟨U2 L.b t1 vs off w h.below,h.nH,h.old,h.ry,aLR,?_,?_,?_,h.apart,λj o L₁ ho hj iS=>?_⟩;intro b o v T;rw[vV b o (by rintro⟨rfl,_⟩;rw[zA o] at T;cases T)];exact h.nL b o v T;intro j yQ V_ L₁ hj iS
 rcases lT hj with⟨bR,hj⟩|⟨rfl,_,hj⟩
 obtain⟨a1,a2,a3,q1,bt,bS⟩:=h.cells j yQ V_ L₁ hj iS;have O:=h.apart j k L₁ L bR iS hM;refine⟨a1,aLs,λi c T=>?_,λi=>by rw[OI];exact q1 i,bt,λo ho=>aK6,bS.2.same (F8 _ _ _ _ _ O)⟩;obtain⟨c',b1,b2⟩:=a3 i c T;exact⟨c',by rw[vV _ _ (λq=>O q.1)];exact b1,b2.mono bK⟩;cases hj;rw[hM] at iS;cases iS;refine⟨t1,by rw[Hj];exact t2,λi c T=>?_,λi=>by rw[OI];exact aaF i,zA,λo ho=>?_,ao1.setCells _ _ _ _⟩;rw[QX] at T;by_cases c1:i<off;rw[if_pos c1] at T;obtain⟨c',b1,b2⟩:=t3 i c T;exact⟨c',by rw[vV _ _ aa];exact b1,b2.mono bK⟩;rw[if_neg c1] at T;by_cases c2:i<off+us.length;rw[if_pos c2] at T;obtain⟨c',b1,b2⟩:=D.get T;have hj:i-off<vs.length:=aa
 have:=AO (i-off) hj;rw[show off+(i-off)=i by omega] at this;refine⟨c',?_,b2.mono bK⟩;rw[this,<-b1,cz hj];rw[if_neg c2] at T;obtain⟨c',b1,b2⟩:=t3 i c T;exact⟨c',by rw[vV _ _ aa];exact b1,b2.mono bK⟩;by_cases c1:off<=o/\o<off+vs.length;have:=AO (o-off) aa;rw[show off+(o-off)=o by omega] at this;have hq:o-off<vs.length:=aa
 exact⟨vs[o-off],this⟩;rw[vV _ _ aa];exact u5 o ho;intro j tK tR ty L₁ hj iS
 rcases lT hj with⟨bR,hj⟩|⟨_,_,hj⟩
 obtain⟨a1,a2,a3,a4,a5,a6⟩:=h.toks j tK tR ty L₁ hj iS;have O:=h.apart j k L₁ L bR iS hM;refine⟨a1,aLs,a3,a4,λo ho iK=>?_,a6.same (F8 _ _ _ _ _ O)⟩;rw[vV _ _ (λq=>O q.1),OI];exact a5 o ho iK;cases hj;obtain⟨bR,vN⟩:=JB rfl ho hj;obtain⟨a1,x,a2,a3,a4⟩:=h.gB j o L₁ ho vN iS;exact⟨a1,x,by rw[F8 _ _ _ _ _ (h.apart j k L₁ L bR iS hM)];exact a2,a3,a4.mono bK⟩
def cx.store(h:cx G base w0 C M J w)(S:J[k]?=a_ (.cells Z row))(hM:M[k]?=a_ L)
  (off:Nat) (us) (vs) (D:dB C M J us vs) (hfit:off+us.length<=Z.length):
  c8 C M J C M (J.set k (.cells (dV Z off us) row))/\cx G base w0 C M (J.set k (.cells (dV Z off us) row)) (w.setCells L.b off vs):=by
 have bK:c8 C M J C M (J.set k (.cells (dV Z off us) row)):=c8.setCells (λ_ _ _ h=>h) S (ZI hfit);exact⟨bK,h.aoy S hM off us vs D bK (bE hfit) λi=>ZH hfit i⟩
def aEY(h:w.cell? ⟨b,o,bn⟩=a_ v):w.setCell ⟨b,o,bn⟩ v=w:=by
 have key:w.heap.modify b (λ
   |.cells c Vz frozen=>.cells (if(bn:Option Nat).isSome then c else c.setIfInBounds o v) Vz frozen
   |o=>o)=w.heap:=by
  apply aHn;intro i;rw[EX];split;rename_i e;subst e;cases I:w.heap[b]? with
  |none=>rfl
  |some x=>
   cases x with
   |cells c ty fr=>
    have T:c[o]?=a_ v:=by simpa[HE,I] using h
    simp only[j4,Bx,ke,if_false];congr 2;apply aHn;intro j;rw[Array.getElem?_setIfInBounds];split;rename_i e;subst e;split;exact T.symm;rename_i hn;rw[apw aa] at T;cases T;rfl
   |_=>rfl
  rfl
 show({w with heap:=_}:World)=w
 exact congrArg (λq=>({w with heap:=q}:World)) key
def cx.aF9(h:cx G base w0 C M J w){z}(S:J[k]?=a_ (.cells (.v (.pointer bn)::z) bf))(hM:M[k]?=a_ L):
  c8 C M J C M (J.set k (.cells (.iH k L.ty::z) bf))/\cx G base w0 C M (J.set k (.cells (.iH k L.ty::z) bf)) w:=by
 obtain⟨bK,hs⟩:=h.store S hM 0 [.iH k L.ty] [.pointer bn] ⟨rfl,λi a b ha O=>by
  cases i with
  |zero=>simp at ha O;subst ha;subst O;exact .iH S hM
  |succ i=>simp at ha⟩ af
 obtain⟨_,_,h3,_⟩:=h.cells k _ _ L S hM;obtain⟨c',h4,h5⟩:=h3 0 (.v (.pointer bn)) rfl;cases h5;have e:w.setCells L.b 0 [.pointer bn]=w:=by
  rw[OK,OK];exact aEY h4
 rw[e] at hs;exact⟨bK,hs⟩
def WT(w:World)(a)(n k:Nat)(S:k≠a.block):(w.freeze a n).heap[k]?=w.heap[k]? :=by
 unfold TT;split;rfl;show(w.heap.modify a.block _)[k]?=_;rw[EX,if_neg (eX S)]
def agW(w:World)(a)(n k:Nat)(o:Obj)(h:w.heap[k]?=a_ o)(ho:ue o):(w.freeze a n).heap[k]?=a_ o:=by
 unfold TT;split;exact h;show(w.heap.modify a.block _)[k]?=_;rw[EX];split;rw[h];cases o with
 |cells c t f=>exact(ho c t f rfl).elim
 |_=>rfl
 exact h
def aag(w:World)(a)(n:Nat):(w.freeze a n).heap.size=w.heap.size:=by
 unfold TT;split;rfl;show(w.heap.modify a.block _).size=_;simp
def auf{lo Q:Nat}{Z}(a)(n:Nat)(h:w.heap[k]?=a_ (.cells Z e (lo,Q))):∃fr,(w.freeze a n).heap[k]?=a_ (.cells Z e fr):=by
 by_cases O:k=a.block;unfold TT;split;exact⟨_,h⟩;refine⟨if lo==Q then(a.off,a.off+n) else(min lo a.off,max Q (a.off+n)),?_⟩;show(w.heap.modify a.block _)[k]?=_;rw[EX,if_pos O.symm,h];rfl;exact⟨_,by rw[WT _ _ _ _ O];exact h⟩
def PG(w:World)(a c)(n:Nat):(w.freeze a n).cell? c=w.cell? c:=by
 unfold HE;cases I:w.heap[c.block]? with
 |none=>rw[apw (by rw[aag];exact Array.getElem?_eq_none_iff.1 I)]
 |some x=>
  cases x with
  |cells Z e fr=>
   obtain⟨lo,Q⟩:=fr;obtain⟨aIa,q⟩:=auf a n I;rw[q]
  |_=>rw[agW _ _ _ _ _ I (λc t f q=>ay)]
def cx.aue(h:cx G base w0 C M J w){c s:Nat}(hid:J[id]?=a_ (.tok c s ty))(hM:M[id]?=a_ L)(ha:L.b=a.block)(hfit:a.off+n<=L.fin):
  cx G base w0 C M J (w.freeze a n):=by
 obtain⟨t1,t2,_⟩:=h.toks id c s ty L hid hM;refine⟨Lib.below_freeze h.below aa n,h.nH,h.old,h.ry,h.fj,λb o v T=>by rw[PG];exact h.nL b o v T,?_,?_,h.apart,?_⟩;intro k Z fz L' S eA;obtain⟨Y,V,h3,h4,h5,h6,h7⟩:=h.cells k Z fz L' S eA;have bR:k≠id:=by intro q;subst q;rw[hid] at S;cases S
 have O:L'.b≠a.block:=by rw[<-ha];exact h.apart k id L' L bR eA hM
 refine⟨Y,by rw[aag];exact V,λi x I=>?_,λi=>?_,h5,λo ho=>?_,h7.same (WT _ _ _ _ O)⟩;obtain⟨c',a1,a2⟩:=h3 i x I;exact⟨c',by rw[PG];exact a1,a2⟩;have:=h4 i;unfold abA at this⊢;rw[WT _ _ _ _ O];exact this;obtain⟨v,hv⟩:=h6 o ho;exact⟨v,by rw[PG];exact hv⟩;intro k n' s' Tp L' S eA;obtain⟨Y,V,h3,h4,h5,h6⟩:=h.toks k n' s' Tp L' S eA;have hT:=h6.freeze a n λO=>by
  by_cases bR:k=id;subst bR;rw[hM] at eA;cases eA;exact hfit;exact(h.apart k id L' L bR eA hM (by rw[O,ha])).elim
 refine⟨Y,by rw[aag];exact V,h3,h4,λo ho iK=>⟨?_,hT.free o ho⟩,hT⟩;obtain⟨⟨v,hv⟩,_⟩:=h5 o ho iK;exact⟨v,by rw[PG];exact hv⟩;intro k b L' O S eA;obtain⟨Y,o,V,h3,h4⟩:=h.gB k b L' O S eA;exact⟨Y,o,agW _ _ _ _ _ V h3,h3,h4⟩
def cx.aCf(h:cx G base w0 C M J w)(cells)(e)(cs')(vs)(D:dB C M J cs' vs)(hv:∀(i:Nat) v,vs[i]?=a_ v->cells[i]?=a_ v)(iq:cap<=cells.size)(S:J[k]?=a_ (.cells Z bh))(cQ:Z.length<cs'.length):
  c8 C M J C (M.set k {b:=w.heap.size,cap:=cap,ty:=(e,cells.size)}) (J.set k (.cells cs' bh))/\cx G base w0 C (M.set k {b:=w.heap.size,cap:=cap,ty:=(e,cells.size)}) (J.set k (.cells cs' bh)) (w.alloc (.cells cells e)):=by
 have bK:c8 C M J C (M.set k {b:=w.heap.size,cap:=cap,ty:=(e,cells.size)}) (J.set k (.cells cs' bh)):=c8.agq (λ_ _ _ h=>h) S h.fj (bE cQ);have DL:=h_ h.nH.le h.below.size;have e6:=(cL.1 S).1;refine⟨bK,h.below.alloc DL _,h.nH,h.old,h.ry,aLR,?_,?_,?_,?_,h.GR bK (λj o ho hj=>⟨(JB rfl ho hj).2,bD (eX (JB rfl ho hj).1)⟩) λb o O _=>QZ _ _ _ _ O⟩;intro b o v T;have hw:=h.nL b o v T;rw[tW _ _ _ (TS _ _ hw)];exact hw;intro j yQ fz L hj hM
 rcases lT hj with⟨bR,hj⟩|⟨rfl,_,hj⟩
 rcases lT hM with⟨_,hM⟩|⟨e,_⟩
 obtain⟨Y,V,h3,q1,bt,bS⟩:=h.cells j yQ fz L hj hM;refine⟨Y,ah,λi c T=>?_,λi=>by rw[HG _ _ _ aX];exact q1 i,bt,λo ho=>by rw[tW _ _ _ aJ5];exact bS.1 o ho,bS.2.alloc V _⟩;obtain⟨c',a1,a2⟩:=h3 i c T;exact⟨c',by rw[tW _ _ _ aJ5];exact a1,a2.mono bK⟩;omega;cases hj
 rcases lT hM with⟨bR,_⟩|⟨_,_,rfl⟩
 omega;refine⟨DL,af,λi c T=>?_,λi=>abB _ _ _ _,λo=>h.fresh o,λo ho=>?_,oa.new⟩;obtain⟨c',a1,a2⟩:=D.get T;exact⟨c',by rw[HF];exact hv _ _ a1,a2.mono bK⟩;rw[HF];have ho:o<cap:=ho;exact⟨cells[o],wE aa⟩;intro j n s ty L hj hM
 rcases lT hj with⟨bR,hj⟩|⟨_,_,hj⟩
 rcases lT hM with⟨_,hM⟩|⟨e,_⟩
 obtain⟨Y,V,h3,h4,h5,h6⟩:=h.toks j n s ty L hj hM;refine⟨Y,ah,h3,h4,λo ho iK=>?_,h6.alloc V _⟩;obtain⟨a1,a2⟩:=h5 o ho iK;exact⟨by rw[tW _ _ _ aJ5];exact a1,by rw[HG _ _ _ aX];exact a2⟩;omega;cases hj;intro j j' L L' bR hM eA
 rcases lT hM with⟨_,hM⟩|⟨e1,_,rfl⟩<;>rcases lT eA with⟨_,eA⟩|⟨e2,_,rfl⟩
 exact h.apart j j' L L' bR hM eA;have:=(h.at hM).1;show L.b≠w.heap.size;omega;have:=(h.at eA).1;show w.heap.size≠L'.b;omega;omega
inductive dH where
 |t (n:Nat)
 |c (a:bg)
def jF:bg:=.bQ []
def ev(ts:List bg):dH->bg
 |.t n=>(ts[n]?).getD jF
 |.c a=>a
def Od:Value->Option bg
 |.slice bn 0 0=>a_ .bp
 |.func f fs Z=>if fs.size=0/\Z.size=0 then a_ (.fn f [] []) else bn
 |x=>if plain x then a_ (.v x) else bn
def ew:Operand->Option dH
 |.tmp t=>a_ (.t t)
 |.const v=>(Od v).map .c
 |.func f=>a_ (.c (.fn (.func f) [] []))
 |.global _=>bn
def CC:List Value->Option (List bg)
 |[]=>a_ []
 |x::r=>match Od x,CC r with
  |some a,a_ l=>a_ (a::l)
  |_,_=>bn
def tQ:List Operand->Option (List dH)
 |[]=>a_ []
 |x::r=>match ew x,tQ r with
  |some a,a_ l=>a_ (a::l)
  |_,_=>bn
def n8(C:Cells)(M:List Loc)(J:List br)(ts:List bg)(tmps:Array Value):Prop:=dB C M J ts tmps.toList
section
variable{G:Cells}{base:Nat}{w0:k4}{w:World}{C:Cells}{M:List Loc}{J:List br}{P:Program}
def G7:bP C M J jF undef:=.bQ rfl (λi a b h=>au)
def Z0{x}{a:bg}(h:Od x=a_ a):bP C M J a x:=by
 unfold Od at h;split at h;cases h;exact .bp;split at h;rename_i hq;cases h;exact .fn (by simp[hq.1]) (by simp[hq.2]) (λi a b h=>au) (λi a b h=>au);cases h;split at h;rename_i bl;cases h;exact .v bl;cases h
def Cs:∀{xs} {l},CC xs=a_ l->dB C M J l xs
 |[],l,h=>by cases h;exact⟨rfl,λi a b h=>au⟩
 |x::r,l,h=>by
  simp only[CC] at h;split at h;rename_i a l' Y V;cases h;have ih:=Cs V;refine⟨by simp[ih.1],λi a' b' e1 e2=>?_⟩;cases i with
  |zero=>simp at e1 e2;subst e1;subst e2;exact Z0 Y
  |succ i=>simp at e1 e2;exact ih.2 i a' b' e1 e2
  cases h
def V3{tmps}(h:n8 C M J ts tmps)(n:Nat):bP C M J ((ts[n]?).getD jF) (tmps.getD n undef):=by
 rcases en n ts.length with hl|hl
 have hl':n<tmps.size:=by have:=h.1;simp at this;omega
 have:=h.2 n ts[n] tmps[n] (cz hl) (by simp[hl']);simpa[cz hl,Array.getD,hl'] using this;have hl':tmps.size<=n:=by have:=h.1;simp at this;omega
 have e:tmps.getD n undef=undef:=by simp[Array.getD,Nat.not_lt.2 hl']
 rw[jU hl,e];exact G7
def e4{a:Act}(h:n8 C M J ts a.tmps){x}{o:dH}(I:ew x=a_ o):bP C M J (ev ts o) (a.eval x):=by
 cases x with
 |tmp t=>cases I;exact V3 h t
 |const v=>
  simp only[ew,dx] at I;obtain⟨bA,Y,rfl⟩:=I;exact Z0 Y
 |global g=>cases I
 |func f=>cases I;exact .fn rfl rfl (λi a b h=>au) (λi a b h=>au)
def afZ{a:Act}(h:n8 C M J ts a.tmps)(D:bP C M J x y)(d:Nat):
  n8 C M J (ts.set d x) (a.put (a_ d) y).tmps:=by
 have c6:ts.length=a.tmps.size:=aLt
 refine⟨by simp[Act.put,c6],λi u v hu hv=>?_⟩;simp only[Act.put,Array.toList_setIfInBounds] at hv
 rcases lT hu with⟨bR,hu⟩|⟨rfl,hl,rfl⟩
 rw[bD (eX bR)] at hv;exact h.2 i u v hu hv;rw[bU (by simpa[c6] using hl)] at hv;simp at hv;subst hv;exact D
def gV(G:Cells)(base:Nat)(w0:k4)(C:Cells)(M:List Loc)(J:List br)(P:Program)(m:Sem Value)(w:World)(r:bg)(bl:List br):Prop:=
 ∃bI M' v' w',m.run P w=.ok v' w'/\c8 C M J bI M' bl/\cx G base w0 bI M' bl w'/\bP bI M' bl r v'
def gV.same{m}(h:cx G base w0 C M J w)(D:m.run P w=.ok v w)(hv:bP C M J r v):gV G base w0 C M J P m w r J:=
 ⟨C,M,v,w,D,c8.refl _ _ _,h,hv⟩
def kA(P:Program)(t:TypeId):Option Bool:=
 match P.underlying t with
 |some (.struct _)|some (.array _ _)=>a_ bh
 |some _=>a_ bf
 |none=>bn
def jE(P:Program)(t:TypeId):Option Nat:=(P.info? t).map (·.size)
def Z7{b}(h:kA P t=a_ b)(w):(isAgg t).run P w=.ok b w:=by
 unfold kA at h;cases hd:P.underlying t with
 |none=>simp[hd] at h
 |some d=>
  rw[hd] at h;unfold isAgg;simp only[gv,run_underlying hd,gD];cases d<;>simp at h<;>subst h<;>rfl
def qv(h:jE P t=a_ n)(w):(sizeOf t).run P w=.ok n w:=by
 unfold jE at h;simp only[dx] at h;obtain⟨i,Q,rfl⟩:=h;simp[sizeOf,typeInfo,Q]
def e_(bN:Bool)(n:Nat)(Z:List bg)(off:Nat):Option bg:=
 if bN then(if off+n<=Z.length then a_ (.agg ((Z.drop off).take n)) else bn) else Z[off]?
def addr_add(b o n:Nat):(⟨b,o,bn⟩:Addr).add n=⟨b,o+n,bn⟩:=by unfold Addr.add;split<;>simp_all
def JZ(dS:kA P t=a_ bN)(hn:jE P t=a_ n)
  (y7:∀(i:Nat) c,Z[i]?=a_ c->∃c',w.cell? ⟨b,o+i,bn⟩=a_ c'/\bP C M J c c') (D:e_ bN n Z off=a_ r):
  ∃v,(loadVar t ⟨b,o+off,bn⟩).run P w=.ok v w/\bP C M J r v:=by
 unfold loadVar;simp only[gv,Z7 dS,gD];unfold e_ at D;cases bN with
 |true=>
  simp only[if_true] at D⊢;split at D;rename_i hfit;cases D;have agR:∀j,j<n->∃c',w.cell? ⟨b,o+off+j,bn⟩=a_ c'/\∃c,Z[off+j]?=a_ c/\bP C M J c c':=λj hj=>by
   obtain⟨c',Y,V⟩:=y7 (off+j) Z[off+j] (cz aa);exact⟨c',by rw[n5];exact Y,_,cz aa,V⟩
  have hl:=run_loadCells (P:=P) w ⟨b,o+off,bn⟩ n (λj=>(w.cell? ⟨b,o+off+j,bn⟩).getD undef) (λj hj=>by
   obtain⟨c',Y,_⟩:=agR j hj;rw[addr_add];simp[Y])
  refine⟨.agg ((kY n).map (λj=>(w.cell? ⟨b,o+off+j,bn⟩).getD undef)).toArray,?_,?_⟩;simp only[gv,qv hn,gD,hl,mz];refine .agg ah (λi a c ha T=>?_);have Q:i<n:=by
   have:=(cL.1 ha).1;simp at this;omega
  obtain⟨c',Y,c0,V,h3⟩:=agR i Q;simp only[TY,s0] at ha;rw[if_pos Q,V] at ha;cases ha;simp[Q,Y] at T;subst T;exact h3;cases D
 |false=>
  simp only[ke,if_false] at D⊢;obtain⟨c',Y,V⟩:=y7 off r D;exact⟨c',aKO,V⟩
def bz(J:List br)(bN:Bool)(n:Nat):bg->Option bg
 |.fp Z off=>e_ bN n Z off
 |.mp k off=>match J[k]? with
  |some (.cells Z bf)=>e_ bN n Z off
  |_=>bn
 |.rp k m off=>match J[k]? with
  |some (.cells Z bh)=>if m=Z.length then e_ bN n Z off else bn
  |_=>bn
 |_=>bn
def auQ(dS:kA P t=a_ bN)(hn:jE P t=a_ n)(h:cx G base w0 C M J w)(I:bP C M J x y)(D:bz J bN n x=a_ r):gV G base w0 C M J P (abp t y) w r J:=by
 unfold bz at D;split at D;rename_i Z off;cases I with
 |fp f hC hR=>
  rename_i b o;obtain⟨v,Y,V⟩:=JZ dS hn (λi c T=>⟨f i,h.nL _ _ _ (hC i c T),hR i c T⟩) D;exact .same h (by simp[abp,OD,Y]) V
 rename_i k off;cases I with
 |mp O hM=>
  rename_i L Z;rw[O] at D;simp only at D;obtain⟨t1,t2,t3,t4⟩:=h.cells k Z bf L O hM;obtain⟨v,Y,V⟩:=JZ dS hn (λi c T=>by
   obtain⟨c',a1,a2⟩:=t3 i c T;exact⟨c',aLu,a2⟩) D
  rw[gk] at Y;exact .same h (by simp[abp,OD,Y]) V
 rename_i k m off;cases I with
 |rp O hM oT ha=>
  rename_i L Z a;rw[O] at D;simp only at D;split at D;rename_i hm;have ha:=ha hm;subst ha;obtain⟨t1,t2,t3,t4⟩:=h.cells k Z bh L O hM;obtain⟨v,Y,V⟩:=JZ dS hn (λi c T=>by
   obtain⟨c',a1,a2⟩:=t3 i c T;exact⟨c',aLu,a2⟩) D
  rw[gk] at Y;exact .same h (by simp[abp,OD,Y]) V;cases D
 cases D
def SH(h:bP C M J x y):dB C M J x.cells y.cells.toList:=by
 have uW:∀{x:bg} {y},bP C M J x y->dB C M J [x] [y]:=λh=>⟨rfl,λi a b e1 e2=>by
  cases i with
  |zero=>simp at e1 e2;subst e1;subst e2;exact h
  |succ i=>simp at e1⟩
 cases h with
 |agg hl h=>exact⟨by simp[bg.cells,zO,hl],λi a b e1 e2=>h i a b (by simpa[bg.cells] using e1) aLU⟩
 |v h=>
  have T:y.cells= #[y]:=by cases y<;>first|rfl|simp[plain] at h
  rw[T];exact uW (.v h)
 |bQ hl h=>exact uW (.bQ hl h)
 |bp=>exact uW .bp
 |sl f a b c d e g=>exact uW (.sl f a b c d e g)
 |fp f a b=>exact uW (.fp f a b)
 |mp a b=>exact uW (.mp a b)
 |rp a b c d=>exact uW (.rp a b c d)
 |rs a b c d e=>exact uW (.rs a b c d e)
 |gA a b=>exact uW (.gA a b)
 |fn a b c d=>exact uW (.fn a b c d)
 |eD a=>exact uW (.eD a)
 |gb a b=>exact uW (.gb a b)
 |jj a b=>exact uW (.jj a b)
 |iH a b=>exact uW (.iH a b)
def dB.rj(h:dB C M J Z cs')(Y:Z.all bg.one=bh):∀v∈cs',v.oneCell'=bh:=by
 intro v hv;obtain⟨i,Q,rfl⟩:=HH hv;have hl:i<Z.length:=by rw[h.1];exact Q
 exact(h.2 i Z[i] cs'[i] (cz hl) (cz Q)).one (eP.1 Y _ (abL hl))
def fq(J:List br)(k:Nat)(row:Bool)(Z:List bg)(n off:Nat)(x:bg):Option (List br):=
 if x.cells.length=n/\off+n<=Z.length/\x.cells.all bg.one=bh then a_ (J.set k (.cells (dV Z off x.cells) row)) else bn
def bL(J:List br)(n:Nat)(p x:bg):Option (List br):=
 match p with
 |.mp k off=>match J[k]? with
  |some (.cells Z bf)=>fq J k bf Z n off x
  |_=>bn
 |.rp k m off=>match J[k]? with
  |some (.cells Z bh)=>if m=Z.length then fq J k bh Z n off x else bn
  |_=>bn
 |_=>bn
def anF(hn:jE P t=a_ n)(h:cx G base w0 C M J w)(O:J[k]?=a_ (.cells Z row))(hM:M[k]?=a_ L)(I:bP C M J x x')(hs:fq J k row Z n off x=a_ bl):∃w',(apH t (.pointer (a_ ⟨L.b,off,bn⟩)) x').run P w=.ok () w'/\c8 C M J C M bl/\cx G base w0 C M bl w':=by
 unfold fq at hs;split at hs;rename_i T;obtain⟨c1,c2,c3⟩:=T;cases hs;have D:=SH I;obtain⟨bK,dU⟩:=h.store O hM off x.cells x'.cells.toList D aa;obtain⟨t1,t2,t3,t4⟩:=h.cells k Z row L O hM;have c6:x'.cells.toList.length=n:=by rw[<-D.1];exact c1
 refine⟨_,?_,bK,dU⟩;have e9:=run_storeCells_cells (P:=P) L.b off x'.cells.toList 0 w (λj hj=>by
  obtain⟨c',a1,_⟩:=t3 (off+j) Z[off+j] (cz aa);rw[vc,a1];rfl) (λj hj=>by rw[vc];exact t4.1 _) (D.rj c3)
 rw[vc] at e9;have dD:x'.cells.size=n:=aJN
 simp only[apH,OD,gv,mz,gD,storeVar,qv hn];rw[if_neg aa];exact e9;cases hs
def aEF(hn:jE P t=a_ n)(h:cx G base w0 C M J w){p:bg}{p'}(ahz:bP C M J p p')(I:bP C M J x x')(hs:bL J n p x=a_ bl):∃w',(apH t p' x').run P w=.ok () w'/\c8 C M J C M bl/\cx G base w0 C M bl w':=by
 unfold bL at hs;split at hs;rename_i k off;cases ahz with
 |mp O hM=>
  rename_i L Z;rw[O] at hs;exact anF hn h O hM I hs
 rename_i k m off;cases ahz with
 |rp O hM oT ha=>
  rename_i L Z a;rw[O] at hs;simp only at hs;split at hs;rename_i hm;rw[ha hm];exact anF hn h O hM I hs;cases hs
 cases hs
end
section
variable{G:Cells}{base:Nat}{w0:k4}{w:World}{C:Cells}{M:List Loc}{J:List br}{P:Program}
def lC(off:Nat):bg->Option bg
 |.fp Z o=>a_ (.fp Z (o+off))
 |.mp k o=>a_ (.mp k (o+off))
 |.rp k n o=>a_ (.rp k n (o+off))
 |_=>bn
def am0(I:bP C M J x y)(D:lC off x=a_ r):∃a,y=.pointer (a_ a)/\bP C M J r (.pointer (a_ (a.add off))):=by
 unfold lC at D;split at D;cases D;cases I with
 |fp f hC hR=>exact⟨_,rfl,by rw[addr_add,n5];exact .fp f hC hR⟩
 cases D;cases I with
 |mp O hM=>exact⟨_,rfl,by rw[addr_add];exact .mp O hM⟩
 cases D;cases I with
 |rp O hM hn ha=>exact⟨_,rfl,.rp O hM hn λq=>by rw[ha q,addr_add]⟩
 cases D
def auJ(hs:P.underlying s=a_ (.struct Dz))(hf:Dz[field]?=a_ f)(ho:f.offset=off)
  (hn:jE P f.type=a_ n) (oU:n≠0) (h:cx G base w0 C M J w) (I:bP C M J x y) (D:lC off x=a_ r):
  gV G base w0 C M J P (Instr.fieldAt s y field) w r J:=by
 obtain⟨a,rfl,jR⟩:=am0 I D;refine .same h ?_ jR;simp[Instr.fieldAt,run_underlying hs,hf,OD,fieldPlace,qv hn,oU,ho]
def ct(n:Nat):bg->bg->Option bg
 |.sl xs _,.v (.int _ i)=>if 0<=i then match xs[i.toNat]? with
   |some x=>if x.cells.length=n then a_ (.fp x.cells 0) else bn
   |none=>bn
  else bn
 |.rs k m _ off len,.v (.int _ i)=>if 0<=i/\i<len then a_ (.rp k m (off+i.toNat*n)) else bn
 |_,_=>bn
def auL(ht:P.underlying t=a_ (.slice e))(hn:jE P e=a_ n)(h:cx G base w0 C M J w){i:bg}
  (I:bP C M J x y) (Q:bP C M J i j) (D:ct n x i=a_ r):gV G base w0 C M J P (TO t y j) w r J:=by
 unfold ct at D;split at D;rename_i xs tl k i;cases Q;cases I with
 |sl f gJ dD hC hR hT iq=>
  rename_i a cap sz;split at D;rename_i h0;split at D;rename_i x Jf;split at D;rename_i c6;cases D;have cQ:=(cL.1 Jf).1;have ML:sz=n:=by rw[<-dD _ _ Jf];exact c6
  subst ML;obtain⟨b,o,sp⟩:=a;have:=gJ (by intro e;subst e;simp at cQ);subst this;have avw:bP C M J (.fp x.cells 0) (.pointer (a_ ⟨b,(o+i.toNat*sz)+0,bn⟩)):=
   .fp (f i.toNat) (λj c T=>hC _ _ _ _ Jf T) (λj c T=>hR _ _ _ _ Jf T)
  refine .same h ?_ avw;have jP:i<(xs.length:Int):=aa
  simp[TO,asIntOf,run_underlying ht,h0,jP,qv hn,addr_add];cases D;cases D;cases D
 rename_i k m sz off len kk i;cases Q;cases I with
 |rs O hM oT fX ha=>
  rename_i cap L Z a;split at D;rename_i h0;cases D;refine .same h (v:=.pointer (a_ (a.add (i.toNat*n)))) ?_ (.rp O hM oT λq=>by rw[(ha q).1,addr_add]);simp[TO,asIntOf,run_underlying ht,h0,qv hn];cases D
 cases D
def mZ(len n:Nat)(x:bg):bg->Option bg
 |.v (.int _ i)=>if 0<=i/\i<len then lC (i.toNat*n) x else bn
 |_=>bn
def aus(ht:P.underlying t=a_ (.array len e))(hn:jE P e=a_ n)(h:cx G base w0 C M J w){i:bg}
  (I:bP C M J x y) (Q:bP C M J i j) (D:mZ len n x i=a_ r):gV G base w0 C M J P (TO t y j) w r J:=by
 unfold mZ at D;split at D;rename_i k i;cases Q;split at D;rename_i h0;obtain⟨a,rfl,jR⟩:=am0 I D;refine .same h ?_ jR;simp[TO,asIntOf,run_underlying ht,h0,qv hn,OD];cases D;cases D
def yK:bg->Option bg
 |.fp Z o=>a_ (.fp Z o)
 |.mp k o=>a_ (.mp k o)
 |.rp k n o=>a_ (.rp k n o)
 |.fn (.func f) a b=>a_ (.fn (.func f) a b)
 |_=>bn
def w_(k:IntKind)(a b:Int)(f:BitVec k.bits->BitVec k.bits->BitVec k.bits):Value:=
 .int k (k.wrap (f (CN k.bits a) (CN k.bits b)).toNat)
def mh(op:BinOp)(k:IntKind)(a:Int)(k':IntKind)(b:Int):Option Value:=
 match op with
 |.shl=>if b<0 then bn else a_ (.int k (k.wrap (a*2^(min b.toNat k.bits))))
 |.shr=>if b<0 then bn else a_ (.int k (a.fdiv (2^(min b.toNat k.bits))))
 |op=>if k≠k' then bn else match op with
  |.add=>a_ (.int k (k.wrap (a+b)))
  |.sub=>a_ (.int k (k.wrap (a-b)))
  |.mul=>a_ (.int k (k.wrap (a*b)))
  |.quo=>if b=0 then bn else a_ (.int k (k.wrap (a.tdiv b)))
  |.rem=>if b=0 then bn else a_ (.int k (a.tmod b))
  |.and=>a_ (w_ k a b (· &&& ·))
  |.or=>a_ (w_ k a b (· ||| ·))
  |.xor=>a_ (w_ k a b (· ^^^ ·))
  |.andNot=>a_ (w_ k a b (λx y=>x&&& ~~~y))
  |.eql=>a_ (.bool (a==b))
  |.neq=>a_ (.bool (a !=b))
  |.lss=>a_ (.bool (a<b))
  |.leq=>a_ (.bool (a<=b))
  |.gtr=>a_ (.bool (a>b))
  |.geq=>a_ (.bool (a>=b))
  |_=>bn
def J3(op:BinOp)(x y:ByteArray):Option Value:=
 match op with
 |.add=>if((x.size+y.size:Nat):Int)>de.max then bn else a_ (.string (x++y))
 |.eql=>a_ (.bool (x.toList==y.toList))
 |.neq=>a_ (.bool !(x.toList==y.toList))
 |.lss=>a_ (.bool (abr x.toList y.toList))
 |.leq=>a_ (.bool (abr x.toList y.toList||x.toList==y.toList))
 |.gtr=>a_ (.bool !(abr x.toList y.toList||x.toList==y.toList))
 |.geq=>a_ (.bool !(abr x.toList y.toList))
 |_=>bn
def dL(op:BinOp):bg->bg->Option bg
 |.v (.int k a),.v (.int k' b)=>(mh op k a k' b).map .v
 |.v (.string a),.v (.string b)=>(J3 op a b).map .v
 |_,_=>bn
def aEC{k k'}{a b:Int}{r}(h:mh op k a k' b=a_ r)(t)(w):
  (binOp op t (.int k a) (.int k' b)).run P w=.ok r w/\plain r=bh:=by
 unfold mh at h;split at h;split at h;cases h;rename_i O;cases h;exact⟨by simp[binOp,Op.shift,O],rfl⟩;split at h;cases h;rename_i O;cases h;exact⟨by simp[binOp,Op.shift,O],rfl⟩;rename_i Y V;split at h;cases h;rename_i S;have S:k=k':=by simpa using S
 subst S;cases op with
 |shl=>exact(Y rfl).elim
 |shr=>exact(V rfl).elim
 |add=>cases h;exact⟨by simp[binOp,abt],rfl⟩
 |sub=>cases h;exact⟨by simp[binOp,abt],rfl⟩
 |mul=>cases h;exact⟨by simp[binOp,abt],rfl⟩
 |quo=>
  simp only at h;split at h;cases h;rename_i O;cases h;exact⟨by simp[binOp,Op.intDiv,O],rfl⟩
 |rem=>
  simp only at h;split at h;cases h;rename_i O;cases h;exact⟨by simp[binOp,Op.intDiv,O],rfl⟩
 |and=>cases h;exact⟨aLc,rfl⟩
 |or=>cases h;exact⟨aLc,rfl⟩
 |xor=>cases h;exact⟨aLc,rfl⟩
 |andNot=>cases h;exact⟨aLc,rfl⟩
 |eql=>cases h;exact⟨aKp,rfl⟩
 |neq=>cases h;exact⟨aKp,rfl⟩
 |lss=>cases h;exact⟨aKp,rfl⟩
 |leq=>cases h;exact⟨aKp,rfl⟩
 |gtr=>cases h;exact⟨aKp,rfl⟩
 |geq=>cases h;exact⟨aKp,rfl⟩
def aEE{a b}{r}(h:J3 op a b=a_ r)(t)(w):
  (binOp op t (.string a) (.string b)).run P w=.ok r w/\plain r=bh:=by
 have key:binOp op t (.string a) (.string b)=Op.stringOp op a b:=by cases op<;>simp[binOp]
 rw[key];unfold J3 at h;cases op<;>simp only[Op.stringOp] at h⊢<;>first
  |(cases h;done)
  |(cases h;exact⟨rfl,rfl⟩)
  |skip
 split at h;cases h;rename_i O;cases h;rw[if_neg O];exact⟨rfl,rfl⟩
def agd(h:cx G base w0 C M J w){y:bg}(I:bP C M J x x')(hy:bP C M J y y')
  (D:dL op x y=a_ r):gV G base w0 C M J P (do eqGuard op t iA nt x' y';binOp op t x' y') w r J:=by
 unfold dL at D;split at D;rename_i k a k' b;cases I;cases hy;simp only[dx] at D;obtain⟨v,hv,rfl⟩:=D;obtain⟨Y,V⟩:=aEC (P:=P) hv t w;refine .same h ?_ (.v V);have hg:eqGuard op t iA nt (.int k a) (.int k' b)=pure ():=aKV
 rw[hg];simp[Y];rename_i a b;cases I;cases hy;simp only[dx] at D;obtain⟨v,hv,rfl⟩:=D;obtain⟨Y,V⟩:=aEE (P:=P) hv t w;refine .same h ?_ (.v V);have hg:eqGuard op t iA nt (.string a) (.string b)=pure ():=aKV
 rw[hg];simp[Y];cases D
def K3(neg:Bool):bg->bg->Option bg
 |.v (.bool a),.v (.bool b)=>a_ (.v (.bool (if neg then !(a==b) else a==b)))
 |_,_=>bn
def tq(neg:Bool):BinOp:=if neg then .neq else .eql
def age(ht:P.underlying t=a_ .bool)(h:cx G base w0 C M J w){y:bg}(I:bP C M J x x')(hy:bP C M J y y')
  (D:K3 neg x y=a_ r):gV G base w0 C M J P (do eqGuard (tq neg) t iA nt x' y';binOp (tq neg) t x' y') w r J:=by
 unfold K3 at D;split at D;rename_i a b;cases I;cases hy;cases D;refine .same h ?_ (.v rfl);have hg:eqGuard (tq neg) t iA nt (.bool a) (.bool b)=pure ():=aKV
 rw[hg];have:=run_equal_bool w t a b ht;cases neg<;>simp[tq,binOp,this];cases D
def Nq:bg->Bool
 |.v (.pointer bn)|.v .nilFunc|.v .nilIface|.bp|.iH _ _=>bh
 |_=>bf
def AZ:Operand->Bool
 |.const _=>bh
 |_=>bf
inductive KT where
 |ptr|slc|Qv|eD
 deriving DecidableEq
def Sd(P:Program)(t:TypeId):Option KT:=
 match P.underlying t with
 |some (.pointer _)=>a_ .ptr
 |some (.slice _)=>a_ .slc
 |some (.func _ _ _)=>a_ .Qv
 |some (.interface _)=>a_ .eD
 |_=>bn
def Yf:bg->Option KT
 |.v (.pointer bn)|.fp _ _|.mp _ _|.rp _ _ _|.iH _ _=>a_ .ptr
 |.bp|.sl _ _|.rs _ _ _ _ _=>a_ .slc
 |.v .nilFunc|.fn _ _ _=>a_ .Qv
 |.v .nilIface|.eD _ _=>a_ .eD
 |_=>bn
end
section
variable{G:Cells}{base:Nat}{w0:k4}{w:World}{C:Cells}{M:List Loc}{J:List br}{P:Program}
def nG(K:KT)(neg:Bool)(x y:bg):Option bg:=
 if Yf x=a_ K/\Yf y=a_ K/\(Nq x=bh\/Nq y=bh) then a_ (.v (.bool (neg !=(Nq x&&Nq y)))) else bn
def za(K:KT)(nil:Bool)(x':Value):Prop:=
 match K with
 |.ptr=>if nil then x'=.pointer bn else∃a,x'=.pointer (a_ a)
 |.slc=>if nil then x'=.slice bn 0 0 else∃a n c,x'=.slice (a_ a) n c
 |.Qv=>if nil then x'=.nilFunc else∃f a b,x'=.func f a b
 |.eD=>if nil then x'=.nilIface else∃t v,x'=.iface t v
def akQ{K}(I:bP C M J x x')(kx:Yf x=a_ K):za K (Nq x) x':=by
 cases I with
 |v h=>
  cases x' with
  |pointer a=>cases a with
   |none=>cases kx;exact rfl
   |some a=>simp[plain] at h
  |nilFunc=>cases kx;exact rfl
  |nilIface=>cases kx;exact rfl
  |_=>first|(cases kx;done)|(simp[plain] at h;done)
 |bp=>cases kx;exact rfl
 |agg _ _=>cases kx
 |bQ _ _=>cases kx
 |sl _ _ _ _ _ _ _=>cases kx;exact⟨_,_,_,rfl⟩
 |fp _ _ _=>cases kx;exact⟨_,rfl⟩
 |mp _ _=>cases kx;exact⟨_,rfl⟩
 |rp _ _ _ _=>cases kx;exact⟨_,rfl⟩
 |rs _ _ _ _ _=>cases kx;exact⟨_,_,_,rfl⟩
 |gA _ _=>cases kx
 |fn _ _ _ _=>cases kx;exact⟨_,_,_,rfl⟩
 |eD _=>cases kx;exact⟨_,_,rfl⟩
 |gb _ _=>cases kx
 |jj _ _=>cases kx
 |iH _ _=>cases kx;exact rfl
def aEA{K}(ht:Sd P t=a_ K){a b}(I:za K a x')(hy:za K b y')(hn:a=bh\/b=bh)(d:Nat)(w):
  (Bp (d+1) t x' y').run P w=.ok (a&&b) w:=by
 unfold Sd at ht;cases hd:P.underlying t with
 |none=>rw[hd] at ht;cases ht
 |some dd=>
  rw[hd] at ht;have hu:=λw'=>run_underlying hd w';cases K<;>cases dd<;>simp only[reduceCtorEq,n6] at ht<;>cases a<;>cases b<;>
   simp only[za,if_true,ke,if_false,or_self,or_true,true_or] at I hy hn
  all_goals first
   |(subst I;subst hy;rw[Bp];simp only[gv,hu,gD];rfl)
   |(obtain⟨_,rfl⟩:=I;subst hy;rw[Bp];simp only[gv,hu,gD];rfl)
   |(obtain⟨_,rfl⟩:=hy;subst I;rw[Bp];simp only[gv,hu,gD];rfl)
   |(obtain⟨_,_,rfl⟩:=I;subst hy;rw[Bp];simp only[gv,hu,gD];rfl)
   |(obtain⟨_,_,rfl⟩:=hy;subst I;rw[Bp];simp only[gv,hu,gD];rfl)
   |(obtain⟨_,_,_,rfl⟩:=I;subst hy;rw[Bp];simp only[gv,hu,gD];rfl)
   |(obtain⟨_,_,_,rfl⟩:=hy;subst I;rw[Bp];simp only[gv,hu,gD];rfl)
def arY{K}{a b}(neg)(t)(I:za K a x')(hy:za K b y'):
  binOp (tq neg) t x' y'=(Op.equal t x' y'>>=λr=>pure (.bool (neg !=r))):=by
 have key:∀(x' y'),(∀k n,x'≠.int k n)->(∀s,x'≠.string s)->(∀k n,x'≠.float k n)->(∀k n m,x'≠.complex k n m)->binOp (tq neg) t x' y'=(Op.equal t x' y'>>=λr=>pure (.bool (neg !=r))):=by
  intro x' y' Y V h3 h4;cases neg<;>simp only[tq,ke,if_false,if_true]<;>unfold binOp<;>split<;>first
   |(exact(Y _ _ rfl).elim)|(exact(V _ rfl).elim)|(exact(h3 _ _ rfl).elim)|(exact(h4 _ _ _ rfl).elim)|(simp;done)|(simp_all;done)
 apply key<;>intros<;>intro e<;>subst e<;>cases K<;>cases a<;>simp[za] at I
def aty(op)(t)(iA nt)(Y:x'=.nilIface->y'=.nilIface->AZ iA=bh\/AZ nt=bh)(V:∀Z,x'≠.agg Z):eqGuard op t iA nt x' y'=pure ():=by
 have key:∀op:BinOp,(op=.eql\/op=.neq)->eqGuard op t iA nt x' y'=pure ():=by
  intro op kI
  rcases kI with rfl|rfl
  all_goals
   unfold eqGuard;simp only[zH,ke,if_false];split
   rcases Y rfl rfl with h|h
   cases iA<;>simp[AZ] at h;rfl;cases nt<;>simp[AZ] at h;cases iA<;>rfl;exact(V _ rfl).elim;rfl
 cases op<;>first|exact key _ (bE rfl)|exact key _ (bF rfl)|rfl
def atz{K}{a b}(op)(t)(iA nt)(I:za K a x')(hy:za K b y')
  (T:K=.eD->AZ iA=bh\/AZ nt=bh):eqGuard op t iA nt x' y'=pure ():=by
 refine aty op t iA nt (λe _=>T ?_) (λZ e=>?_);subst e;cases K<;>cases a<;>simp[za] at I<;>rfl;subst e;cases K<;>cases a<;>simp[za] at I
def agf{K}(ht:Sd P t=a_ K)(T:K=.eD->AZ iA=bh\/AZ nt=bh)(h:cx G base w0 C M J w){y:bg}
  (I:bP C M J x x') (hy:bP C M J y y') (D:nG K neg x y=a_ r):gV G base w0 C M J P (do eqGuard (tq neg) t iA nt x' y';binOp (tq neg) t x' y') w r J:=by
 unfold nG at D;split at D;rename_i S;obtain⟨k1,k2,gK⟩:=S;cases D;have s1:=akQ I k1;have s2:=akQ hy k2;refine .same h ?_ (.v rfl);rw[atz _ t iA nt s1 s2 T,arY neg t s1 s2];have:=aEA ht s1 s2 gK 9999 w;simp only[gv,mz,gD,Op.equal,Op.maxDepth];rw[this];rfl;cases D
end
section
variable{G:Cells}{base:Nat}{w0:k4}{w:World}{C:Cells}{M:List Loc}{J:List br}{P:Program}
def Fs(op:UnOp):bg->Option bg
 |.v (.int k n)=>match op with
  |.neg=>a_ (.v (.int k (k.wrap (0-n))))
  |.xor=>a_ (.v (w_ k (if k.signed then -1 else k.max) n (· ^^^ ·)))
  |_=>bn
 |.v (.bool b)=>match op with
  |.not=>a_ (.v (.bool !b))
  |_=>bn
 |_=>bn
def auZ{op}(h:cx G base w0 C M J w)(I:bP C M J x x')(D:Fs op x=a_ r):gV G base w0 C M J P (Op.unary op x') w r J:=by
 unfold Fs at D;split at D;cases I;split at D<;>cases D;exact .same h (by simp[Op.unary,abt]) (.v rfl);exact .same h (by simp[Op.unary,TR,w_]) (.v rfl);cases I;split at D<;>cases D;exact .same h (by simp[Op.unary]) (.v rfl);cases D
def H9(k:IntKind):bg->Option bg
 |.v (.int _ n)=>a_ (.v (.int k (k.wrap n)))
 |_=>bn
def auH{k}(hs:(P.underlying src).isSome=bh)(hd:P.underlying dst=a_ (.int k))(h:cx G base w0 C M J w)(I:bP C M J x x')
  (D:H9 k x=a_ r):gV G base w0 C M J P (convert src dst x') w r J:=by
 unfold H9 at D;split at D;cases I;cases D;obtain⟨d,F6⟩:=abS.mp hs;exact .same h (by simp[convert,run_underlying F6,run_underlying hd,Conv.intToInt]) (.v rfl);cases D
def Pw:bg->Option bg
 |.v (.string s)=>a_ (.v (.string s))
 |_=>bn
def auX(hs:(P.underlying src)=a_ .string)(hd:P.underlying dst=a_ .string)(h:cx G base w0 C M J w)(I:bP C M J x x')
  (D:Pw x=a_ r):gV G base w0 C M J P (convert src dst x') w r J:=by
 unfold Pw at D;split at D;cases I;cases D;exact .same h (by simp[convert,run_underlying hs,run_underlying hd]) (.v rfl);cases D
def K5:bg->Option bg
 |.v (.string s)=>a_ (.v (goInt s.size))
 |.bp=>a_ (.v (goInt 0))
 |.sl xs _=>a_ (.v (goInt xs.length))
 |.rs _ _ _ _ len=>a_ (.v (goInt len))
 |_=>bn
def agh(h:cx G base w0 C M J w)(I:bP C M J x x')(S:∀s,x=.v (.string s)->P.underlying t=a_ .string)
  (ga:(∀s,x≠.v (.string s))->∃e,P.underlying t=a_ (.slice e)) (D:K5 x=a_ r):gV G base w0 C M J P (Kq #[t] ty #[x']) w r J:=by
 unfold K5 at D;split at D;cases I;cases D;exact .same h (by simp[Kq,run_underlying (S _ rfl)]) (.v rfl);cases I<;>cases D;obtain⟨e,he⟩:=ga (by intro s e;cases e);exact .same h aKU (.v rfl);cases I<;>cases D;obtain⟨e,he⟩:=ga (by intro s e;cases e);exact .same h aKU (.v rfl);cases I<;>cases D;obtain⟨e,he⟩:=ga (by intro s e;cases e);exact .same h aKU (.v rfl);cases D
def oc(i:Nat):bg->Option bg
 |.bQ Z=>Z[i]?
 |_=>bn
def auI{i:Nat}(h:cx G base w0 C M J w)(I:bP C M J x x')(D:oc i x=a_ r):gV G base w0 C M J P (Instr.extract x' i) w r J:=by
 unfold oc at D;split at D;cases I with
 |bQ hl hh=>
  rename_i Z cs';have Q:=(cL.1 D).1;have jP:i<cs'.size:=aa
  exact .same h (by simp[Instr.extract,jP]) (hh i r cs'[i] D (by simp[jP]))
 cases D
def K4(bN:Bool)(n off:Nat):bg->Option bg
 |.agg Z=>e_ bN n Z off
 |_=>bn
def anD(dS:kA P t=a_ bN)(hn:jE P t=a_ n){cs'}(hl:Z.length=cs'.size)
  (hh:∀(i:Nat) a b,Z[i]?=a_ a->cs'[i]?=a_ b->bP C M J a b) (D:e_ bN n Z off=a_ r) (w):∃v,(part t cs' off).run P w=.ok v w/\bP C M J r v:=by
 unfold part;simp only[gv,Z7 dS,gD];unfold e_ at D;cases bN with
 |true=>
  simp only[if_true] at D⊢;split at D;rename_i hfit;cases D;refine⟨.agg (cs'.extract off (off+n)),by simp only[gv,qv hn,gD,mz],?_⟩;refine .agg ah (λi a b ha O=>?_);have Q:i<n:=by
   have:=(cL.1 ha).1;simp at this;omega
  simp only[TY,s0] at ha;rw[if_pos Q] at ha;rw[Array.getElem?_extract] at O;rw[if_pos aa] at O;exact hh _ _ _ ha O;cases D
 |false=>
  simp only[ke,if_false] at D⊢;have Q:=(cL.1 D).1;have jP:off<cs'.size:=aa
  exact⟨cs'[off],by simp[jP],hh off r _ D (by simp[jP])⟩
def auK(hs:P.underlying s=a_ (.struct Dz))(hf:Dz[field]?=a_ f)(ho:f.offset=off)
  (dS:kA P f.type=a_ bN) (hn:jE P f.type=a_ n) (h:cx G base w0 C M J w) (I:bP C M J x x') (D:K4 bN n off x=a_ r):
  gV G base w0 C M J P (Instr.field s x' field) w r J:=by
 unfold K4 at D;split at D;cases I with
 |agg hl hh=>
  obtain⟨v,Y,V⟩:=anD dS hn hl hh D w;exact .same h (by simp[Instr.field,run_underlying hs,hf,asAgg,ho,Y]) V
 cases D
def Db(bN:Bool)(n len:Nat):bg->bg->Option bg
 |.agg Z,.v (.int _ i)=>if 0<=i/\i<len then e_ bN n Z (i.toNat*n) else bn
 |_,_=>bn
def auM(ht:P.underlying t=a_ (.array len e))(dS:kA P e=a_ bN)(hn:jE P e=a_ n)(h:cx G base w0 C M J w){i:bg}
  (I:bP C M J x x') (Q:bP C M J i i') (D:Db bN n len x i=a_ r):gV G base w0 C M J P (abo t x' i') w r J:=by
 unfold Db at D;split at D;cases Q;cases I with
 |agg hl hh=>
  split at D;rename_i O;obtain⟨v,Y,V⟩:=anD dS hn hl hh D w;exact .same h (by simp[abo,asIntOf,run_underlying ht,O,qv hn,Y]) V;cases D
 cases D
def w7:bg->bg->Option bg
 |.v (.string s),.v (.int _ i)=>if 0<=i then(s[i.toNat]?).map λb=>.v (.int .u8 b.toNat) else bn
 |_,_=>bn
def auG(ht:P.underlying t=a_ .string)(h:cx G base w0 C M J w){i:bg}
  (I:bP C M J x x') (Q:bP C M J i i') (D:w7 x i=a_ r):gV G base w0 C M J P (abo t x' i') w r J:=by
 unfold w7 at D;split at D;cases Q;cases I;split at D;rename_i O;simp only[dx] at D;obtain⟨b,hb',rfl⟩:=D;exact .same h (by simp[abo,asIntOf,run_underlying ht,O,hb']) (.v rfl);cases D;cases D
end
section
variable{G:Cells}{base:Nat}{w0:k4}{w:World}{C:Cells}{M:List Loc}{J:List br}{P:Program}
def eF(zs:List bg):List bg:=zs.flatMap bg.cells
def at4:eF []=[]:=rfl
def BN(z:bg)(r):eF (z::r)=z.cells++eF r:=by simp[eF]
def afI(a b):eF (a++b)=eF a++eF b:=by simp[eF]
def BO:∀{zs},(∀z∈zs,z.cells.length=n)->(eF zs).length=zs.length*n
 |[],_=>by simp[eF]
 |z::r,h=>by
  rw[BN,ec,BO (λx I=>h x aA),h z af,eW,p5];omega
def afK:∀{zs},(∀z∈zs,z.cells.length=n)->∀{i j:Nat} {z c:bg},zs[i]?=a_ z->z.cells[j]?=a_ c->(eF zs)[i*n+j]?=a_ c
 |[],_,i,j,z,c,hz,_=>by simp at hz
 |y::r,h,i,j,z,c,hz,T=>by
  have hy:=h y af;cases i with
  |zero=>
   simp at hz;subst hz;rw[BN,Nat.zero_mul,gk,fT (cL.1 T).1];exact T
  |succ i=>
   simp at hz;rw[BN,p5,E7,fY aa,hy,show i*n+n+j-n=i*n+j by omega];exact afK (λx I=>h x aA) hz T
def afL:∀{zs},(∀z∈zs,z.cells.length=n)->∀{k:Nat} {c:bg},(eF zs)[k]?=a_ c->∃i j z,k=i*n+j/\zs[i]?=a_ z/\z.cells[j]?=a_ c
 |[],_,k,c,T=>by simp[eF] at T
 |y::r,h,k,c,T=>by
  have hy:=h y af;rw[BN] at T
  rcases en k n with S|S
  rw[fT aa] at T;exact⟨0,k,y,aa,af,T⟩;rw[fY aa,hy] at T;obtain⟨i,j,z,e,Y,V⟩:=afL (λx I=>h x aA) T;exact⟨i+1,j,z,by rw[p5];omega,aKA,V⟩
def nD(C:Cells)(M:List Loc)(J:List br)(b o:Nat)(Z:List bg):Prop:=
 ∀(j:Nat) c,Z[j]?=a_ c->∃v,C b (o+j)=a_ v/\bP C M J c v
def nD.mono(bK:c8 C M J bI M' bl)(h:nD C M J b o Z):nD bI M' bl b o Z:=
 λj c T=>let⟨v,Y,V⟩:=h j c T;⟨v,bK.C _ _ _ Y,V.mono bK⟩
def nD.append{as bs}(Y:nD C M J b o as)(V:nD C M J b (o+as.length) bs):nD C M J b o (as++bs):=by
 intro j c T
 rcases en j as.length with hj|hj
 rw[fT hj] at T;exact Y j c T;rw[fY hj] at T;obtain⟨v,e1,e2⟩:=V _ c T;exact⟨v,by rw[<-e1];congr 1;omega,e2⟩
def nD.drop(h:nD C M J b o Z)(n:Nat):nD C M J b (o+n) (Z.drop n):=by
 intro j c T;rw[s0] at T;obtain⟨v,e1,e2⟩:=h _ c T;exact⟨v,by rw[<-e1];congr 1;omega,e2⟩
def nD.take(h:nD C M J b o Z)(n:Nat):nD C M J b o (Z.take n):=by
 intro j c T;rw[TY] at T;split at T;exact h j c T;cases T
def nD.vals(h:cx G base w0 C M J w)(ha:nD C M J b o Z):
  ∃vs:List Value,dB C M J Z vs/\∀(j:Nat) v,vs[j]?=a_ v->w.cell? ⟨b,o+j,bn⟩=a_ v:=by
 refine⟨(kY Z.length).map λj=>(C b (o+j)).getD undef,⟨af,λi a v e1 e2=>?_⟩,λj v e=>?_⟩;obtain⟨u,Y,V⟩:=ha i a e1;have Q:=(cL.1 e1).1;simp[Q,Y] at e2;subst e2;exact V;have hj:j<Z.length:=by
  have:=(cL.1 e).1;simpa using this
 obtain⟨u,Y,V⟩:=ha j Z[j] (cz hj);simp[hj,Y] at e;subst e;exact h.nL _ _ _ Y
def ZZ{t}(hn:∀z∈zs,z.cells.length=n)(ha:nD C M J b o (eF zs))(hT:vp M J ⟨b,o,bn⟩ zs.length cap n t)(iq:zs.length<=cap):
  bP C M J (.sl zs t) (.slice (a_ ⟨b,o,bn⟩) zs.length cap):=by
 refine .sl (λi j=>(C b (o+i*n+j)).getD undef) (λ_=>rfl) (λi x I=>hn x (cG I)) (λi x j c I T=>?_) (λi x j c I T=>?_) hT iq
 all_goals
  obtain⟨v,Y,V⟩:=ha _ c (afK hn I T);rw[<-n5] at Y
 show C b (o+i*n+j)=_;rw[Y];rfl;rw[Y];exact V
def SG{t}(hl:len=zs.length)(hn:∀z∈zs,z.cells.length=n)(ha:nD C M J b o (eF zs))(hT:vp M J ⟨b,o,bn⟩ len cap n t)(iq:len<=cap):
  bP C M J (.sl zs t) (.slice (a_ ⟨b,o,bn⟩) len cap):=by
 subst hl;exact ZZ hn ha hT iq
def NW{t}(h:bP C M J (.sl zs t) (.slice (a_ a) len cap))(hn:∀z∈zs,z.cells.length=n):
  len=zs.length/\nD C M J a.block a.off (eF zs)/\(zs≠[]->a.spot=bn)/\zs.length<=cap:=by
 cases h with
 |sl f gJ dD hC hR hT iq=>
  rename_i sz;refine⟨rfl,λk c T=>?_,gJ,iq⟩;obtain⟨i,j,z,rfl,hz,jl⟩:=afL hn T;have:sz=n:=by rw[<-dD i z hz];exact hn z (cG hz)
  subst this;exact⟨f i j,by rw[<-n5];exact hC i z j c hz jl,hR i z j c hz jl⟩
def aCz(h:cx G base w0 C M J w)(cells)(e)(D:dB C M J Z vs)(hv:∀(i:Nat) v,vs[i]?=a_ v->cells[i]?=a_ v):
  c8 C M J (C.add w.heap.size 0 vs) M J/\cx G base w0 (C.add w.heap.size 0 vs) M J (w.alloc (.cells cells e))/\nD (C.add w.heap.size 0 vs) M J w.heap.size 0 Z:=by
 obtain⟨bK,hs⟩:=h.V4 cells e vs hv;refine⟨bK,hs,λj c T=>?_⟩;obtain⟨v,Y,V⟩:=D.get T;exact⟨v,by rw[Cells.Fm _ _ _ _ _ (cL.1 Y).1];exact Y,V.mono bK⟩
def ij:bg->Option (List bg)
 |.bp=>a_ []
 |.sl ys _=>a_ ys
 |_=>bn
def lS(Z:List bg)(off:Nat)(us:List bg):List bg:=Z.take off++us++Z.drop (off+us.length)
def cZ(n:Nat)(ys:List bg):Bool:=ys.all λy=>y.cells.length==n&&y.cells.all bg.one
def iy(J:List br)(n b9:Nat)(e:TypeId)(s:bg)(ys:List bg):Option (bg×List br):=
 match s with
 |.bp=>if ys.length*b9<=140737488355328 then a_ (.sl ys (.tok J.length),J++[.tok ys.length n e]) else bn
 |.rs k m sz off len=>if sz=n/\off=0/\(len+ys.length)*b9<=140737488355328 then
   match J[k]? with
   |some (.cells Z bh)=>if m=Z.length then a_ (.rs k (lS Z (len*n) (eF ys)).length n 0 (len+ys.length),J.set k (.cells (lS Z (len*n) (eF ys)) bh)) else bn
   |_=>bn
  else bn
 |.sl xs t=>if cZ n xs=bh/\(xs.length+ys.length)*b9<=140737488355328 then
   match t with
   |.exact=>a_ (.sl (xs++ys) (.tok J.length),J++[.tok (xs.length+ys.length) n e])
   |.tok id=>match J[id]? with
    |some (.tok c s' e')=>if c=xs.length/\s'=n/\e'=e then a_ (.sl (xs++ys) (.tok id),J.set id (.tok (xs.length+ys.length) n e)) else bn
    |_=>bn
   |.no=>bn
  else bn
 |_=>bn
def gG(J:List br)(n b9:Nat)(e:TypeId)(s x:bg):Option (bg×List br):=
 match ij x with
 |none=>bn
 |some ys=>
  if ys=[] then(match s with|.bp|.sl _ _|.rs _ _ _ _ _=>a_ (s,J)|_=>bn)
  else if cZ n ys=bh/\0<n/\0<b9 then iy J n b9 e s ys
  else bn
def ef(J:List br)(n b9:Nat)(e:TypeId)(s x:bg):Option (bg×List br):=
 match s with
 |.rs _ _ _ _ _=>bn
 |s=>gG J n b9 e s x
def aqP{s:bg}{r}(h:ef J n b9 e s x=a_ r):gG J n b9 e s x=a_ r:=by
 unfold ef at h;split at h;cases h;exact h
def sM(h:cZ n ys=bh):∀z∈ys,z.cells.length=n:=by
 intro z hz;have:=eP.1 h z hz;simp at this;exact this.1
def aCT(h:cZ n ys=bh):(eF ys).all bg.one=bh:=by
 rw[eP];intro c T;simp only[eF,List.mem_flatMap] at T;obtain⟨z,hz,T⟩:=T;have:=eP.1 h z hz;simp at this;exact this.2 c T
def Ze{xs}(Y:cZ n xs=bh)(V:cZ n ys=bh):cZ n (xs++ys)=bh:=by
 unfold cZ at*;rw[apX,Y,V];rfl
structure KF(P:Program)(t e:TypeId)(n b9:Nat):Prop where
 ht:P.underlying t=a_ (.slice e)
 Q:∃i z,P.info? e=a_ i/\i.size=n/\i.bytes=b9/\i.zero=a_ z/\z.cells.size=n
def RR(O:0<b9)(h:k*b9<=B):k<=B:=h_ (Nat.le_mul_of_pos_right k O) h
def SZ(z)(n:Nat):(zI z n).size=n*z.size:=by simp[zI]
def grownCap_le(w)(alS old:Nat)(e):alS<=grownCap w alS old e:=by unfold grownCap;simp[Question.cut]
def aEp(h:off<=Z.length):(lS Z off us).length=max Z.length (off+us.length):=by
 unfold lS;simp only[ec,p0,tX];omega
def aEo(h:off<=Z.length)(i:Nat):(lS Z off us)[i]?=if i<off then Z[i]? else if i<off+us.length then us[i-off]? else Z[i]? :=by
 unfold lS;have Y:(Z.take off).length=off:=ah
 by_cases c1:i<off;rw[if_pos c1,dR,fT aa,CT c1];rw[if_neg c1,dR,fY aa,Y];by_cases c2:i<off+us.length;rw[if_pos c2,fT aa];rw[if_neg c2,fY aa,s0];congr 1;omega
def aFx(w)(t tx ty e)(i)(z)(ht:P.underlying t=a_ (.slice e))(Q:P.info? e=a_ i)(hz:i.zero=a_ z)(hs:Src P i.size tx x' m news w)
  (h0:0<m) (FU:(m:Int)<=9223372036854775807) (avc:m*i.bytes<=281474976710656):
  (yd #[t,tx] ty #[.slice bn 0 0,x']).run P w=.ok (.slice (a_ ⟨w.heap.size,0,bn⟩) m (grownCap w m 0 e)) (w.drew.alloc (.cells (news.toArray++zI z.cells (grownCap w m 0 e-m)) e)):=by
 have:=run_append_grow_src w t tx ty e i z ht Q hz bn 0 0 [] (run_firstCells_none w.drew i.size 0 0 0) x' m news hs aa aa (by rw[gk,nextslicecap_zero h0];exact avc);simpa using this
def aol(w)(t tx ty e)(i)(z)(ht:P.underlying t=a_ (.slice e))(Q:P.info? e=a_ i)(hz:i.zero=a_ z)(b)(xX Hi:Nat)(kU:List Value)(mb:kU.length=xX*i.size)
  (holds:∀j u,kU[j]?=a_ u->w.cell? (b.add j)=a_ u) (hs:Src P i.size tx x' m news w) (hg:Hi<xX+m) (FU:((xX+m:Nat):Int)<=9223372036854775807) (hfit:Builtin.nextslicecap (xX+m) Hi*i.bytes<=281474976710656):
  (yd #[t,tx] ty #[.slice (a_ b) xX Hi,x']).run P w=.ok (.slice (a_ ⟨w.heap.size,0,bn⟩) (xX+m) (grownCap w (xX+m) Hi e))
    (w.drew.alloc (.cells (kU.toArray++news.toArray++zI z.cells (grownCap w (xX+m) Hi e-(xX+m))) e)):=by
 have:=run_append_grow_src w t tx ty e i z ht Q hz (a_ b) xX Hi kU (run_firstCells_some w.drew i.size xX b xX Hi kU mb (by simpa using holds)) x' m news hs hg FU hfit;simpa using this
def agc{tx:TypeId}(hE:KF P t e n b9)(h:cx G base w0 C M J w){s:bg}(hs:bP C M J s s')(sE:cZ n ys=bh)(oU:0<n)(lM:0<b9)(bR:ys≠[])
  (uI:dB C M J (eF ys) news) (y7:∀i,P.info? e=a_ i->Src P i.size tx x' ys.length news w)
  (D:iy J n b9 e s ys=a_ (r,bl)):gV G base w0 C M J P (yd #[t,tx] ty #[s',x']) w r bl:=by
 obtain⟨ht,i,z,Q,ld,xw,hz,AY⟩:=hE;have y7:=y7 i Q;have vS:=y7.newsLen
 have Rq:0<ys.length:=aKd
 unfold iy at D;split at D;split at D;rename_i hfit;cases D;cases hs;have Xg:=RR lM hfit;have ff:=aFx (P:=P) w t tx ty e i z ht Q hz y7 Rq aa (by rw[xw];omega);have hg:=grownCap_le w ys.length 0 e;have IZ:news.length=ys.length*n:=by rw[vS,ld]
 have AG:∀(i':Nat) v,news[i']?=a_ v->(news.toArray++zI z.cells (grownCap w ys.length 0 e-ys.length))[i']?=a_ v:=by
  intro i' v hv;have hl:=(cL.1 hv).1;rw[abc aI];simpa using hv
 obtain⟨bK,dU⟩:=h.drew.Sc (news.toArray++zI z.cells (grownCap w ys.length 0 e-ys.length)) e news AG ys.length n (grownCap w ys.length 0 e*n)
  (by rw[IZ];exact o_ n hg) (by simp only[Oz,SZ,AY,T6,IZ,<-p5];exact o_ n aa)
 refine⟨_,_,_,_,ff,bK,dU,?_⟩;refine ZZ (sM sE) ?_ ?_ hg;intro j c T;obtain⟨v,e1,e2⟩:=uI.get T;exact⟨v,by rw[abC,Cells.Fm _ _ _ _ _ (cL.1 e1).1];exact e1,e2.mono bK⟩;refine⟨ys.length,n,e,{b:=w.heap.size,fin:=news.length,cap:=grownCap w ys.length 0 e*n},af,aJ,cj _,bF rfl,λ_=>⟨rfl,rfl,?_,?_⟩⟩;simp[IZ];simp;cases D;rename_i k m sz off len;split at D;rename_i DM;obtain⟨rfl,rfl,hfit⟩:=DM;split at D;rename_i Z O;split at D;rename_i hm;cases D;cases hs with
 |rs hb' hM oT fX ha=>
  rename_i cap L cs' sa;rw[O] at hb';cases hb';obtain⟨rfl,a2,a3,a4⟩:=ha hm;simp only[gk] at a2 a3 a4;have Xg:=RR lM hfit;obtain⟨t1,t2,t3,aaF,zA,u5,ao1⟩:=h.cells k Z bh L O hM;have jQ:=BO (sM sE);have IZ:news.length=ys.length*sz:=by rw[vS,ld]
  have WD:len*sz+ys.length*sz=(len+ys.length)*sz:=(p5 _ _ _).symm;have I3:(lS Z (len*sz) (eF ys)).length=max Z.length ((len+ys.length)*sz):=by rw[aEp a2,jQ,WD]
  by_cases Gj:len+ys.length<=cap;have aIv:(len+ys.length)*sz<=cap*sz:=o_ _ Gj;have ff:=run_append_room_src (P:=P) w t tx ty e i ht Q L.b 0 len cap x' ys.length news y7 Gj
   (λj hj=>by rw[ld,gk];obtain⟨v,hv⟩:=u5 (len*sz+j) aa;rw[hv];rfl)
   (λj hj=>aaF _)
  rw[ld,gk] at ff;have avq:M.set k L=M:=by
   apply E5;intro j;by_cases e:k=j;subst e;rw[bU (cL.1 hM).1,hM];rw[bD e]
  have bK:c8 C M J C M (J.set k (.cells (lS Z (len*sz) (eF ys)) bh)):=by
   have:=c8.agq (C:=C) (bI:=C) (M:=M) (L':=L) (λ_ _ _ h=>h) O h.fj (by
    rw[I3]
    rcases en Z.length ((len+ys.length)*sz) with q|q
    exact bE aa;exact bF ⟨aa,hM⟩)
   rwa [avq] at this
  have dU:=h.aoy O hM (len*sz) (eF ys) news uI bK (bF aa) (aEo a2);refine⟨_,_,_,_,ff,bK,dU,?_⟩;refine .rs (by rw[bU (cL.1 O).1]) hM (cj _) Gj λ_=>⟨rfl,?_,?_,?_⟩;rw[I3];omega;rw[I3];omega;omega;have jz:Z.length<(len+ys.length)*sz:=by
   have:(cap+1)*sz<=(len+ys.length)*sz:=o_ _ aa;rw[p5] at this;omega
  have hg:=grownCap_le w (len+ys.length) cap e;have awd:(len+ys.length)*sz<=grownCap w (len+ys.length) cap e*sz:=o_ _ hg;obtain⟨kU,oV,F4⟩:∃kU:List Value,dB C M J (Z.take (len*sz)) kU/\∀(j:Nat) v,kU[j]?=a_ v->w.cell? ⟨L.b,j,bn⟩=a_ v:=by
   refine⟨(kY (len*sz)).map λj=>(w.cell? ⟨L.b,j,bn⟩).getD undef,⟨ah,λj a b ha O=>?_⟩,λj v hj=>?_⟩;have kR:j<len*sz:=by have:=(cL.1 O).1;simpa using this
   rw[CT kR] at ha;obtain⟨c',b1,b2⟩:=t3 j a ha;simp[kR,b1] at O;subst O;exact b2;have kR:j<len*sz:=by have:=(cL.1 hj).1;simpa using this
   obtain⟨c',b1,b2⟩:=t3 j Z[j] (cz aa);simp[kR,b1] at hj;subst hj;exact b1
  have mb:kU.length=len*i.size:=by rw[<-oV.1,ld];simp;omega
  have ff:=aol (P:=P) w t tx ty e i z ht Q hz ⟨L.b,0,bn⟩ len cap kU mb (λj v hj=>by rw[addr_add,gk];exact F4 j v hj) y7 aa aa (growslice_fits aa (by rw[xw];exact hfit));have nr:dB C M J (lS Z (len*sz) (eF ys)) (kU++news):=by
   have e0:lS Z (len*sz) (eF ys)=Z.take (len*sz)++eF ys:=by
    unfold lS;rw[List.drop_eq_nil_of_le aa,gd]
   rw[e0];refine⟨by rw[ec,ec,oV.1,uI.1],λq u v hu hv=>?_⟩
   rcases en q (Z.take (len*sz)).length with S|S
   rw[fT S] at hu;rw[fT aKS] at hv;exact oV.2 q u v hu hv;rw[fY S] at hu;rw[fY aKS,<-oV.1] at hv;exact uI.2 _ u v hu hv
  obtain⟨bK,dU⟩:=h.drew.aCf (kU.toArray++news.toArray++zI z.cells (grownCap w (len+ys.length) cap e-(len+ys.length))) e (lS Z (len*sz) (eF ys)) (kU++news) nr
   (λi' v hv=>by
     have hl:=(cL.1 hv).1;rw[abc aI];simpa using hv) (cap:=grownCap w (len+ys.length) cap e*sz) (by
     simp only[Oz,SZ,AY,T6];rw[mb,vS,ld,<-p5,<-p5];exact o_ sz aa) O (by rw[I3];omega)
  refine⟨_,_,_,_,ff,bK,dU,?_⟩;have e6:=(cL.1 O).1;refine .rs (by rw[bU e6]) (by rw[bU (by rw[h.fj];exact e6)]) (cj _) hg λ_=>⟨rfl,?_,?_,?_⟩;rw[I3];omega;rw[I3];omega;simp
 cases D;cases D;cases D;rename_i xs tl;split at D
 · rename_i ME
   obtain⟨I8,hfit⟩:=ME;have Xg:=RR lM hfit
   cases s'<;>first|(cases hs;done)|skip
   rename_i b l cp;cases b with
   |none=>cases hs
   |some sa=>
    have B1:=hs;obtain⟨e1,jO,D7,iq⟩:=NW hs (sM I8);subst e1;obtain⟨kU,oV,F4⟩:=jO.vals h;have mb:kU.length=xs.length*i.size:=by rw[<-oV.1,BO (sM I8),ld]
    have avU:∀(j:Nat) v,kU[j]?=a_ v->w.cell? (sa.add j)=a_ v:=λj v hj=>by
     obtain⟨sb,bJ,aFy⟩:=sa;have axB:xs≠[]:=by
      intro e;subst e;have:=(cL.1 hj).1;rw[mb] at this;simp at this
     have:=D7 axB;subst this;rw[addr_add];exact F4 j v hj
    have nr:dB C M J (eF (xs++ys)) (kU++news):=by
     rw[afI];refine⟨by rw[ec,ec,oV.1,uI.1],λk u v hu hv=>?_⟩
     rcases en k (eF xs).length with S|S
     rw[fT S] at hu;rw[fT aKS] at hv;exact oV.2 k u v hu hv;rw[fY S] at hu;rw[fY aKS,<-oV.1] at hv;exact uI.2 _ u v hu hv
    have Q9:(kU++news).length=(xs.length+ys.length)*n:=by rw[ec,mb,vS,ld,<-p5]
    have grow:=λcp F5=>
     aol (P:=P) w t tx ty e i z ht Q hz sa xs.length cp kU mb avU y7 F5 aa (growslice_fits F5 (by rw[xw];exact hfit))
    have AG:∀cp,∀(i':Nat) v,(kU++news)[i']?=a_ v->(kU.toArray++news.toArray++zI z.cells (grownCap w (xs.length+ys.length) cp e-(xs.length+ys.length)))[i']?=a_ v:=by
     intro cp i' v hv;have hl:=(cL.1 hv).1;rw[abc aI];simpa using hv
    have agU:∀cp,grownCap w (xs.length+ys.length) cp e*n<=(kU.toArray++news.toArray++zI z.cells (grownCap w (xs.length+ys.length) cp e-(xs.length+ys.length))).size:=by
     intro cp;have:=grownCap_le w (xs.length+ys.length) cp e;simp only[Oz,SZ,AY,T6];rw[mb,vS,ld,<-p5,<-p5];exact o_ n aa
    have agN:∀{bI:Cells} {M':List Loc} {B0:List br},c8 C M J bI M' B0->(∀j,j<(kU++news).length->bI w.heap.size (0+j)=(kU++news)[j]?)->nD bI M' B0 w.heap.size 0 (eF (xs++ys)):=by
     intro bI M' B0 bK T j Ld AF;obtain⟨v,e1,e2⟩:=nr.get AF;exact⟨v,by rw[T j (cL.1 e1).1];exact e1,e2.mono bK⟩
    have c6:(xs++ys).length=xs.length+ys.length:=ec;split at D;cases D;cases hs with
    |sl f gJ dD hC hR hT L9=>
     have F5:=hT;subst F5;have hg:=grownCap_le w (xs.length+ys.length) xs.length e;obtain⟨bK,dU⟩:=h.drew.Sc _ e (kU++news) (AG xs.length) (xs.length+ys.length) n (grownCap w (xs.length+ys.length) xs.length e*n)
      (by rw[Q9];exact o_ n hg) (agU xs.length)
     refine⟨_,_,_,_,grow xs.length aa,bK,dU,?_⟩;refine SG c6.symm (sM (Ze I8 sE)) (agN bK (λj hj=>by rw[abC,Cells.Fm _ _ _ _ _ hj])) ?_ hg;refine⟨xs.length+ys.length,n,e,{b:=w.heap.size,fin:=(kU++news).length,cap:=grownCap w (xs.length+ys.length) xs.length e*n},af,aJ,cj _,bF rfl,λ_=>⟨rfl,rfl,?_,?_⟩⟩;rw[Q9];simp;simp
    rename_i id;split at D;rename_i Ld s2 e2 hid;split at D;rename_i avV;obtain⟨rfl,rfl,AJ⟩:=avV;rw[AJ] at hid;cases D;cases hs with
    |sl f gJ dD hC hR hT L9=>
     obtain⟨n1,s1,mq,L,q1,bt,bS,fk,hJ⟩:=hT;rw[hid] at q1;cases q1;obtain⟨p1,p2,p3,jd⟩:=hJ rfl;obtain⟨sb,bJ,aFy⟩:=sa;have:=p1;subst this;have Xw:=p2;subst Xw;simp only at p3 jd;by_cases Gj:xs.length+ys.length<=cp;have av5:L.fin+news.length<=L.cap:=by
      rw[<-p3,<-jd,vS,ld,n5,<-p5];exact abP (o_ _ Gj) bJ
     obtain⟨t1,t2,t3,t4,t5,t6⟩:=h.toks id xs.length s2 e L hid bt;have ff:=run_append_room_src (P:=P) w t tx ty e i ht Q L.b bJ xs.length cp x' ys.length news y7 Gj
      (λj hj=>by rw[ld,p3];obtain⟨⟨v,hv⟩,_⟩:=t5 (L.fin+j) aa aa;rw[hv];rfl)
      (λj hj=>by rw[ld,p3];exact(t5 (L.fin+j) aa aa).2)
     rw[ld,p3] at ff;obtain⟨bK,dU⟩:=h.au7 news hid bt (n':=xs.length+ys.length) aa av5;refine⟨_,_,_,_,ff,bK,dU,?_⟩;refine SG c6.symm (sM (Ze I8 sE)) ?_ ?_ Gj;rw[afI];refine nD.append (jO.mono bK) ?_;rw[BO (sM I8),p3];intro j Ld AF;obtain⟨v,e1,e2⟩:=uI.get AF;exact⟨v,by rw[Cells.Fm _ _ _ _ _ (cL.1 e1).1];exact e1,e2.mono bK⟩;have Ml:=(cL.1 hid).1;refine⟨xs.length+ys.length,s2,e,{L with fin:=L.fin+news.length},by rw[bU Ml],by rw[bU (by rw[h.fj];exact Ml)],cj _,bF rfl,λ_=>⟨rfl,rfl,?_,jd⟩⟩
     show bJ+(xs.length+ys.length)*s2=L.fin+news.length;rw[<-p3,vS,ld,n5,<-p5];have hg:=grownCap_le w (xs.length+ys.length) cp e;obtain⟨bK,dU⟩:=h.drew.aCg _ e (kU++news) (AG cp) hid (n':=xs.length+ys.length) aa
      (by rw[Q9];exact o_ _ hg) (agU cp)
     refine⟨_,_,_,_,grow cp aa,bK,dU,?_⟩;refine SG c6.symm (sM (Ze I8 sE)) (agN bK (λj hj=>by rw[abC,Cells.Fm _ _ _ _ _ hj])) ?_ hg;have Ml:=(cL.1 hid).1;refine⟨xs.length+ys.length,s2,e,{b:=w.heap.size,fin:=(kU++news).length,cap:=grownCap w (xs.length+ys.length) cp e*s2},by rw[bU Ml],by rw[abC,bU (by rw[h.fj];exact Ml)],cj _,bF rfl,λ_=>⟨rfl,rfl,?_,?_⟩⟩;rw[Q9];simp;simp
    cases D;cases D;cases D
 cases D;cases D
def Wd(hE:KF P t e n b9)(h:cx G base w0 C M J w){s:bg}(hs:bP C M J s s')(I:bP C M J x x')
  (D:gG J n b9 e s x=a_ (r,bl)):gV G base w0 C M J P (yd #[t,t] ty #[s',x']) w r bl:=by
 obtain⟨ht,i,z,Q,ld,xw,hz,AY⟩:=hE;unfold gG at D;split at D;cases D;rename_i ys mg;split at D;rename_i Mz;subst Mz;have Je:∃a c,x'=.slice a 0 c:=by
  unfold ij at mg;split at mg;cases I;exact⟨_,_,rfl⟩;cases mg;cases I;exact⟨_,_,rfl⟩;cases mg
 obtain⟨a,c,rfl⟩:=Je;have Mh:∀w,(abh n 0 (.slice a 0 c)).run P w=.ok #[] w:=by
  intro w;cases a with
  |none=>simp[abh]
  |some a=>simp[abh,loadCells,loadCellsFrom]
 have key:∀b m cp,m<=cp->(yd #[t,t] ty #[.slice b m cp,.slice a 0 c]).run P w=.ok (.slice b m cp) w:=by
  intro b m cp hm;cases b with
  |none=>simp[yd,run_underlying ht,sizeOf,typeInfo,Q,ld,abi,hm,Mh]
  |some b=>simp[yd,run_underlying ht,sizeOf,typeInfo,Q,ld,abi,hm,Mh,storeCells]
 split at D;cases D;cases hs;exact .same h (key _ _ _ (cj _)) .bp;cases D;have B1:=hs;cases hs with
 |sl f gJ dD hC hR hT iq=>exact .same h (key _ _ _ iq) B1
 cases D;have B1:=hs;cases hs with
 |rs O hM hn fX ha=>exact .same h (key _ _ _ fX) B1
 cases D;rename_i bR;split at D;rename_i fM;obtain⟨sE,oU,lM⟩:=fM;obtain⟨a,c,oW,L4,avK⟩:∃(a:Addr) (c:Nat),x'=.slice (a_ a) ys.length c/\nD C M J a.block a.off (eF ys)/\a.spot=bn:=by
  unfold ij at mg;split at mg;cases mg;exact(bR rfl).elim
  · cases mg
    cases x'<;>first|(cases I;done)|skip
    rename_i b l cp;cases b with
    |none=>cases I
    |some a=>
     obtain⟨e1,e2,dr,eS⟩:=NW I (sM sE);exact⟨a,cp,by rw[e1],e2,dr bR⟩
  cases mg
 subst oW;obtain⟨ab,ao,Di⟩:=a;have:=avK;subst this;obtain⟨news,uI,AH⟩:=L4.vals h;have vS:news.length=ys.length*i.size:=by rw[<-uI.1,BO (sM sE),ld]
 have avb:=uI.rj (aCT sE);have avT:∀(j:Nat) v,news[j]?=a_ v->w.cell? ((⟨ab,ao,bn⟩:Addr).add j)=a_ v:=λj v hj=>by rw[addr_add];exact AH j v hj
 have jP:=Q;exact agc ⟨ht,i,z,Q,ld,xw,hz,AY⟩ h hs sE oU lM bR uI (λi' ag7=>by rw[Q] at ag7;cases ag7;exact Src.ofSlice w ht ⟨ab,ao,bn⟩ ys.length c news vS avT avb) D;cases D
def Fy(b:ByteArray):List bg:=b.data.toList.map λc=>.v (.int .u8 c.toNat)
def ad0(b):(Fy b).length=b.size:=by
 unfold Fy;rw[cM,apx];rfl
def adZ:∀l:List UInt8,eF (l.map λc=>bg.v (.int .u8 c.toNat))=l.map λc=>bg.v (.int .u8 c.toNat)
 |[]=>rfl
 |c::r=>by
  have:=adZ r;simp only[eF,fG,List.flatMap_cons] at this⊢;rw[this];rfl
def BE(J:List br)(b9:Nat)(e:TypeId)(s x:bg):Option (bg×List br):=
 match x with
 |.v (.string b)=>if b.size=0 then(match s with|.bp|.sl _ _=>a_ (s,J)|_=>bn)
  else match s with
   |.bp|.sl _ _=>if 0<b9 then iy J 1 b9 e s (Fy b) else bn
   |_=>bn
 |_=>bn
def auw{u}(hE:KF P t e 1 b9)(hu:P.underlying u=a_ .string)(h:cx G base w0 C M J w){s:bg}(hs:bP C M J s s')(I:bP C M J x x')
  (D:BE J b9 e s x=a_ (r,bl)):gV G base w0 C M J P (yd #[t,u] ty #[s',x']) w r bl:=by
 have oQ:=hE;obtain⟨ht,i,z,Q,ld,xw,hz,AY⟩:=hE;unfold BE at D;split at D;rename_i b;cases I;split at D;rename_i h0;have Mh:∀w,(abh 1 0 (.string b)).run P w=.ok #[] w:=by
  intro w;have:=firstCells_string (P:=P) b w;have O:=nZ (by rw[byteCells_length,h0])
  rwa [h0,O] at this
 have key:∀b' m cp,m<=cp->(yd #[t,u] ty #[.slice b' m cp,.string b]).run P w=.ok (.slice b' m cp) w:=by
  intro b' m cp hm;cases b' with
  |none=>simp[yd,run_underlying ht,run_underlying hu,sizeOf,typeInfo,Q,ld,abi,h0,hm,Mh]
  |some b'=>simp[yd,run_underlying ht,run_underlying hu,sizeOf,typeInfo,Q,ld,abi,h0,hm,Mh,storeCells]
 split at D;cases D;cases hs;exact .same h (key _ _ _ (cj _)) .bp;cases D;have B1:=hs;cases hs with
 |sl f gJ dD hC hR hT iq=>exact .same h (key _ _ _ iq) B1
 cases D;rename_i h0;have fin:∀{r:bg},0<b9->iy J 1 b9 e s (Fy b)=a_ (r,bl)->gV G base w0 C M J P (yd #[t,u] ty #[s',.string b]) w r bl:=by
  intro r lM D;refine agc oQ h hs (news:=apW b) ?_ ag lM ?_ ?_ (λi' jP=>?_) D;unfold cZ;rw[eP];intro x I;unfold Fy at I;obtain⟨c,_,rfl⟩:=eg.1 I;rfl;intro q;have:=ad0 b;rw[q] at this;exact h0 this.symm;unfold Fy;rw[adZ];refine⟨by simp[apW],λi x y I hy=>?_⟩;simp only[apW,fR] at I hy;cases hq:b.data.toList[i]? with
  |none=>rw[hq] at I;cases I
  |some c=>
   rw[hq] at I hy;cases I;cases hy;exact .v rfl
  rw[Q] at jP;cases jP;rw[ld,ad0];exact Src.ofString w hu b
 split at D;split at D;rename_i q;exact fin q D;cases D;split at D;rename_i q;exact fin q D;cases D;cases D;cases D
end
section
variable{G:Cells}{base:Nat}{w0:k4}{w:World}{C:Cells}{M:List Loc}{J:List br}{P:Program}
def j6(top atd:Nat):Option Int->Option Nat
 |some v=>if 0<=v/\v<=top then a_ v.toNat else bn
 |none=>a_ atd
def ox:Option bg->Option (Option Int)
 |none=>a_ bn
 |some (.v (.int _ i))=>a_ (a_ i)
 |_=>bn
def lE(len cap:Nat)(lo Q mx:Option Int):Option (Nat×Nat×Nat):=
 match j6 cap cap mx with
 |none=>bn
 |some m=>if mx.isSome&&Q.isNone then bn else
  match j6 m len Q with
  |none=>bn
  |some h=>match j6 h 0 lo with
   |none=>bn
   |some l=>a_ (l,h,m)
def C6(C:Cells)(M:List Loc)(J:List br):Option bg->Option Value->Prop
 |none,bn=>True
 |some a,a_ b=>bP C M J a b
 |_,_=>False
def Ny{a}{b}(h:C6 C M J a b)(Q:ox a=a_ i):(b=bn/\i=bn)\/∃k n,b=a_ (.int k n)/\i=a_ n:=by
 unfold ox at Q;split at Q;cases Q;cases b with
 |none=>exact bE ⟨rfl,rfl⟩
 |some b=>exact h.elim
 cases Q;cases b with
 |none=>exact h.elim
 |some b=>cases h;exact bF ⟨_,_,rfl,rfl⟩
 cases Q
def Cx{k}{n:Int}{r:Nat}(code)(h:j6 top d (a_ n)=a_ r)(w):(Instr.sliceBound (.int k n) top code).run P w=.ok r w:=by
 unfold j6 at h;simp only at h;split at h;rename_i O;cases h;exact run_sliceBound w k n top code O.1 O.2;cases h
def U9{r:Nat}(hd:d<=top)(h:j6 top d i=a_ r):r<=top:=by
 unfold j6 at h;split at h;split at h;cases h;omega;cases h;cases h;exact hd
def SS{isSlice:Bool}{Lc:Nat}{lo Q mx}{zc jP uN}{l h:Nat}(mb:(lo=bn/\zc=bn)\/∃k n,lo=a_ (.int k n)/\zc=a_ n)
  (y3:(Q=bn/\jP=bn)\/∃k n,Q=a_ (.int k n)/\jP=a_ n) (D0:(mx=bn/\uN=bn)\/∃k n,mx=a_ (.int k n)/\uN=a_ n) (fX:len<=cap) (AF:cap<=Lc)
  (O:lE len cap zc jP uN=a_ (l,h,m)) (w:World):
  (apG isSlice len Lc lo Q mx).run P w=.ok (l,h,if uN.isSome then m else Lc) w/\l<=h/\h<=m/\m<=cap/\(uN=bn->m=cap):=by
 unfold lE at O;split at O;cases O;rename_i aJg hm;split at O;cases O;rename_i nq;split at O;cases O;rename_i aI2 hh;split at O;cases O;rename_i aJb hl;cases O;have U8:∀{top aaJ d r:Nat} {n:Int},top<=aaJ->j6 top d (a_ n)=a_ r->j6 aaJ d (a_ n)=a_ r:=by
  intro top aaJ d r n ht hq;unfold j6 at hq⊢;simp only at hq⊢;split at hq;rename_i q;rw[if_pos ⟨q.1,aa⟩];exact hq;cases hq
 have ahj:=U9 (js _) hl
 rcases D0 with⟨rfl,rfl⟩|⟨km,nm,rfl,rfl⟩
 have pO:m=cap:=by cases hm;rfl
 subst pO;have W5:=U9 fX hh;refine⟨?_,ahj,W5,cj _,λ_=>rfl⟩;unfold apG
 rcases y3 with⟨rfl,rfl⟩|⟨kh,aCA,rfl,rfl⟩<;>rcases mb with⟨rfl,rfl⟩|⟨kl,nl,rfl,rfl⟩
 cases hh;cases hl;simp;cases hh;simp[Cx (P:=P) _ hl];cases hl;simp[Cx (P:=P) _ (U8 AF hh)];simp[Cx (P:=P) _ (U8 AF hh),Cx (P:=P) _ hl]
 rcases y3 with⟨rfl,rfl⟩|⟨kh,aCA,rfl,rfl⟩
 simp at nq;have W5:h<=m:=by
  unfold j6 at hh;simp only at hh;split at hh;cases hh;omega;cases hh
 refine⟨?_,ahj,W5,U9 (cj _) hm,λq=>ay⟩;unfold apG;have AS:=U8 (d:=cap) (r:=m) AF (by unfold j6 at hm⊢;exact hm);have ahm:j6 Lc Lc (a_ nm)=a_ m:=by unfold j6 at AS⊢;exact AS
 rcases mb with⟨rfl,rfl⟩|⟨kl,nl,rfl,rfl⟩
 cases hl;simp[Cx (P:=P) _ ahm,Cx (P:=P) _ hh];simp[Cx (P:=P) _ ahm,Cx (P:=P) _ hh,Cx (P:=P) _ hl]
def CB(t:ob)(len l h m:Nat)(mx:Bool):ob:=
 if mx then(if m=h then .exact else .no)
 else if h=len then(if l=0 then t else match t with|.exact=>.exact|_=>.no) else .no
def l6(n:Nat)(x:bg)(lo Q mx:Option bg):Option bg:=
 match ox lo,ox Q,ox mx with
 |some l',a_ h',a_ m'=>match x with
  |.bp=>match lE 0 0 l' h' m' with
   |some _=>a_ .bp
   |none=>bn
  |.sl xs t=>match lE xs.length xs.length l' h' m' with
   |some (l,h,m)=>if xs.all (λx=>x.cells.length==n) then a_ (.sl ((xs.take h).drop l) (CB t xs.length l h m m'.isSome)) else bn
   |none=>bn
  |.rs k m sz off len=>if sz=n/\m'.isNone then match lE len len l' h' bn with
   |some (l,h,_)=>if l=0 then a_ (.rs k m n off h) else if l<len then a_ (.rs k m n (off+l*n) (h-l)) else a_ (.sl [] .no)
   |none=>bn
   else bn
  |.v (.string s)=>if mx.isSome then bn else match lE s.size s.size l' h' bn with
   |some (l,h,_)=>a_ (.v (.string (s.extract l h)))
   |none=>bn
  |_=>bn
 |_,_,_=>bn
def afM:∀{zs},(∀z∈zs,z.cells.length=n)->∀k,eF (zs.take k)=(eF zs).take (k*n)
 |[],_,k=>by simp[eF]
 |z::r,h,k=>by
  cases k with
  |zero=>simp[eF]
  |succ k=>
   rw[yp,BN,BN,afM (λx I=>h x aA),p5,E7,List.take_append,h z af,show k*n+n-n=k*n by omega,
    mA (l:=z.cells) (by rw[h z af];omega)]
def afJ:∀{zs},(∀z∈zs,z.cells.length=n)->∀k,eF (zs.drop k)=(eF zs).drop (k*n)
 |[],_,k=>by simp[eF]
 |z::r,h,k=>by
  cases k with
  |zero=>simp
  |succ k=>
   rw[Bu,BN,afJ (λx I=>h x aA),p5,E7,List.drop_append,h z af,show k*n+n-n=k*n by omega,
    sZ (l:=z.cells) (by rw[h z af];omega),gN]
def auy(ht:P.underlying t=a_ (.slice e))(hn:jE P e=a_ n)(h:cx G base w0 C M J w)(I:bP C M J x x')
  (mb:C6 C M J lo zc) (y3:C6 C M J Q jP) (D0:C6 C M J mx uN) (MB:∀s,x≠.v (.string s)) (D:l6 n x lo Q mx=a_ r):gV G base w0 C M J P (Hz t x' zc jP uN) w r J:=by
 unfold l6 at D;split at D;rename_i l₁ axM R9 el eh em;have cB:=Ny mb el;have ch:=Ny y3 eh;have vz:=Ny D0 em;split at D;split at D;rename_i q hq;obtain⟨l,hh,m⟩:=q;cases D;cases I;obtain⟨ff,c1,c2,c3,c4⟩:=SS (P:=P) (isSlice:=bh) cB ch vz (cj 0) (cj 0) hq w;have hm:m=0:=aa
 have hl:l=0:=aa
 have Mj:hh=0:=aa
 subst hm;subst hl;subst Mj;refine .same h ?_ .bp;simp[Hz,OC,run_underlying ht,ff,qv hn];cases D;rename_i xs tl;split at D;rename_i l hh m hq;split at D
 · rename_i jN
   cases D;have L3:∀z∈xs,z.cells.length=n:=by
    intro z hz;have:=eP.1 jN z hz;simpa using this
   cases x'<;>first|(cases I;done)|skip
   rename_i b len cap;cases b with
   |none=>cases I
   |some a=>
    obtain⟨e1,jO,D7,iq⟩:=NW I L3;subst e1;obtain⟨ff,c1,c2,c3,c4⟩:=SS (P:=P) (isSlice:=bh) cB ch vz (cj _) iq hq w;refine⟨C,M,_,w,aKP,c8.refl _ _ _,h,?_⟩;have c6:((xs.take hh).drop l).length=hh-l:=ah
    generalize hM:(if R9.isSome=bh then m else cap)=m';have AS:hh<=m':=by rw[<-hM];split<;>omega
    by_cases nN:m'=l;rw[if_pos nN];have W4:hh=l:=aa
    subst W4;have he:(xs.take hh).drop hh=[]:=by apply nZ;omega
    rw[he,nN,mU];refine .sl (xs:=[]) (sz:=n) (λ_ _=>undef) (λq=>(q rfl).elim) (λi x I=>aF) (λi x j c I=>aF) (λi x j c I=>aF) ?_ (cj _);unfold CB;split;split<;>simp[vp];rename_i I2;simp only[I2,ke,if_false] at hM;split;rename_i ag6;split;rename_i vQ;have Je:xs=[]:=by apply nZ;omega
    subst Je;cases I with
    |sl f gJ dD hC hR hT L9=>
     cases tl with
     |exact=>simp[vp]
     |no=>simp[vp]
     |tok id=>
      obtain⟨n1,s1,mq,L,q1,bt,bS,fk,hJ⟩:=hT;refine⟨n1,s1,mq,L,q1,bt,bS,bE rfl,λq=>?_⟩;obtain⟨p1,p2,p3,jd⟩:=hJ q;refine⟨p1,p2,p3,?_⟩;have:cap=0:=aa
      rw[this] at jd;simpa using jd
    split<;>simp[vp];simp[vp];rw[if_neg nN];have aIL:l<m':=aa
    obtain⟨ab,ao,Di⟩:=a;have gJ:Di=bn\/(xs=[]\/True):=bF (bF trivial);by_cases Ed:xs=[];subst Ed;have vQ:l=0:=by simp at c3 c2;omega
    have Mj:hh=0:=by simp at c3;omega
    subst vQ;subst Mj;have WD:(⟨ab,ao,Di⟩:Addr).add (0*n)=⟨ab,ao,Di⟩:=by simp[Addr.add]
    rw[WD];simp only[List.take_nil,abH,E8];refine .sl (xs:=[]) (sz:=n) (λ_ _=>undef) (λq=>(q rfl).elim) (λi x I=>aF) (λi x j c I=>aF) (λi x j c I=>aF) ?_ (js _);unfold CB;split;rename_i Xm;simp only[Xm,if_true] at hM;have:m=0:=by simp at c3;omega
    omega;rename_i I2;simp only[I2,ke,if_false] at hM;subst hM;simp only[hY,if_true];cases I with
    |sl f gJ dD hC hR hT L9=>
     cases tl with
     |exact=>exact hT
     |no=>trivial
     |tok id=>
      obtain⟨n1,s1,mq,L,q1,bt,bS,fk,hJ⟩:=hT;exact⟨n1,s1,mq,L,q1,bt,bS,bE rfl,hJ⟩
    have axg:=D7 Ed;subst axg;rw[addr_add];refine SG c6.symm (λz hz=>L3 z (CU (tY hz))) ?_ ?_ aa;rw[afJ (n:=n) (λz hz=>L3 z (CU hz)),afM L3];exact(jO.take _).drop _;unfold CB;split;rename_i Xm;simp only[Xm,if_true] at hM;split;simp only[vp];omega;trivial;rename_i I2;simp only[I2,ke,if_false] at hM;subst hM;split;rename_i ag6;split;rename_i vQ;subst vQ;subst ag6;cases I with
    |sl f gJ dD hC hR hT L9=>
     rename_i sz;have:sz=n:=by
      cases xs with
      |nil=>exact(Ed rfl).elim
      |cons z r=>rw[<-dD 0 z rfl];exact L3 z af
     subst this;simpa using hT
    cases tl with
    |exact=>
     cases I with
     |sl f gJ dD hC hR hT L9=>
      have aIn:cap=xs.length:=hT;simp only[vp];omega
    |no=>trivial
    |tok id=>trivial
    trivial
 cases D;cases D;rename_i k m sz off len;split at D;rename_i fX;obtain⟨rfl,BY⟩:=fX;have pO:R9=bn:=by cases R9<;>simp at BY⊢
 subst pO;split at D;rename_i l hh tJ hq;cases I with
 |rs O hM oT fX ha=>
  rename_i cap L Z a;obtain⟨ff,c1,c2,c3,c4⟩:=SS (P:=P) (isSlice:=bh) cB ch vz (cj _) fX hq w;simp only[Bx,ke,if_false] at ff;split at D;rename_i vQ;cases D;subst vQ;have hR:bP C M J (.rs k m sz off hh) (.slice (a_ a) hh cap):=.rs O hM oT aa λq=>by
   obtain⟨a1,a2,a3,a4⟩:=ha q;refine⟨a1,h_ (abP (o_ _ aa) _) a2,a3,a4⟩
  refine .same h ?_ hR;simp only[Hz,OC,gv,mz,run_underlying ht,ff,qv hn,gD];simp[Addr.add];split at D;rename_i vQ kS;cases D;have hR:bP C M J (.rs k m sz (off+l*sz) (hh-l)) (.slice (a_ (a.add (l*sz))) (hh-l) (cap-l)):=.rs O hM oT aa λq=>by
   obtain⟨a1,a2,a3,a4⟩:=ha q;have e1:off+l*sz+(hh-l)*sz=off+hh*sz:=by rw[n5,<-p5];congr 2;omega
   have e2:off+l*sz+(cap-l)*sz=off+cap*sz:=by rw[n5,<-p5];congr 2;omega
   refine⟨by rw[a1,addr_add],?_,by rw[e2];exact a3,by rw[e2];exact a4⟩;rw[e1];exact h_ (abP (o_ _ aa) _) a2
  refine .same h ?_ hR;have jz:cap≠l:=aa
  simp[Hz,OC,run_underlying ht,ff,qv hn,jz]
  · cases D
    have W4:hh=l:=aa
    subst W4;refine⟨C,M,_,w,aKP,c8.refl _ _ _,h,?_⟩;split
    all_goals exact .sl (xs:=[]) (sz:=sz) (λ_ _=>undef) (λq=>(q rfl).elim) (λi x I=>aF) (λi x j c I=>aF) (λi x j c I=>aF) trivial (js _)
 cases D;cases D;rename_i s;exact(MB s rfl).elim;cases D;cases D
def auz(ht:P.underlying t=a_ .string)(h:cx G base w0 C M J w)(I:bP C M J x x')
  (mb:C6 C M J lo zc) (y3:C6 C M J Q jP) (D0:C6 C M J mx uN) (hs:∃s,x=.v (.string s)) (D:l6 n x lo Q mx=a_ r):gV G base w0 C M J P (Hz t x' zc jP uN) w r J:=by
 obtain⟨s,rfl⟩:=hs;cases I;unfold l6 at D;split at D;rename_i l₁ axM R9 el eh em;simp only at D;split at D;cases D;rename_i BY;have awL:mx=bn:=by cases mx<;>simp at BY⊢
 subst awL
 have k_:uN=bn:=by cases uN with|none=>rfl|some b=>exact D0.elim
 subst k_;split at D;rename_i l hh m hq;cases D;obtain⟨ff,c1,c2,c3,c4⟩:=SS (P:=P) (isSlice:=bf) (Ny mb el) (Ny y3 eh) (bE ⟨rfl,rfl⟩) (cj _) (cj _) hq w;exact .same h (by simp[Hz,OC,run_underlying ht,ff]) (.v rfl);cases D;cases D
end
end
end Go.bM

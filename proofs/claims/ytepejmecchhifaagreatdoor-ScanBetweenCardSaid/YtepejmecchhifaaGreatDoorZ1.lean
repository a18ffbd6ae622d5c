/- Part 1 of a proof. No condition. -/
import Derived.Below
import Derived.Calls
import Derived.Tactics
import Derived.Laws.Append
import Derived.ArgAppend
import Derived.Deep.AppendSrc
import Derived.Laws.StructEq
import Derived.Laws.Slices
import Derived.Laws.BytesString
import Derived.Lib.UnsafeStr
set_option linter.unusedVariables false
set_option linter.unusedSimpArgs false
set_option linter.defProp false
namespace Go
def aCs{p:Prop}(h:p:=by omega):p:=h
def aCt{p:Prop}(h:p:=by simp):p:=h
def aCu{p:Prop}(h:p:=by decide):p:=h
def aCv{p:Prop}(h:p:=by simp;omega):p:=h
def aCw{p:Prop}(h:p:=by kernel_rfl):p:=h
def aCx{p:Prop}(h:p:=by rw[wrap_i64 (by omega) (by omega)];omega):p:=h
def aCy{p:Prop}(h:p:=by simpa using q):p:=h
def aCz{p:Prop}(h:p:=by repeat' first|kernel_rfl|(intros;kernel_rfl)|constructor):p:=h
def aCA{p:Prop}(h:p:=by rw[wrap_i64 (by omega) (by omega)];rfl):p:=h
def aCB{p:Prop}(h:p:=by simp at q;omega):p:=h
def aCC{p:Prop}(h:p:=by simp at h):p:=h
def aCD{p:Prop}(h:p:=by rw[av (by intro q;subst q;rw[S] at O;cases O)];exact O):p:=h
def aCE{p:Prop}(h:p:=by cases q):p:=h
def aCF{p:Prop}(h:p:=by rcases hA with⟨rfl,_⟩|⟨_,rfl,_⟩<;>rfl):p:=h
def aCG{p:Prop}(h:p:=by simp[I]):p:=h
def aCH{p:Prop}(h:p:=by rw[qI _ _ _ (by exact V)];exact a1):p:=h
def aCI{p:Prop}(h:p:=by cases e):p:=h
def aCJ{p:Prop}(h:p:=by show(0:Int)<=(a);omega):p:=h
def aCK{p:Prop}(h:p:=by simpa using V):p:=h
def aCL{p:Prop}(h:p:=by cases h):p:=h
def aCM{p:Prop}(h:p:=by simpa using O):p:=h
def aCN{p:Prop}(h:p:=by simp at I):p:=h
def aCO{p:Prop}(h:p:=by simpa using hl):p:=h
def aCP{p:Prop}(h:p:=by rw[<-h.dH];simp):p:=h
def aCQ{p:Prop}(h:p:=by simp[j_] at h):p:=h
def aCR{p:Prop}(h:p:=by intro q;subst q;rw[S] at O;cases O):p:=h
def aCS{p:Prop}(h:p:=by simp only[cJ]):p:=h
def aCT{p:Prop}(h:p:=by simpa using z):p:=h
def aCU{p:Prop}(h:p:=by simpa using ah):p:=h
def aCV{p:Prop}(h:p:=by rw[DE _ _ _ (by show L.b≠_;omega)];exact q1 i):p:=h
def aCW{p:Prop}(h:p:=by cases h;exact⟨rfl,λi a b h=>by simp at h⟩):p:=h
def aCX{p:Prop}(h:p:=by rw[DE _ _ _ (by show L.b≠_;omega)];exact a2):p:=h
def aCY{p:Prop}(h:p:=by simp only[aq,h.b];rfl):p:=h
def aCZ{p:Prop}(h:p:=by simp[hy]):p:=h
def aC0{p:Prop}(h:p:=by unfold OI;simp only[eG,run_underlying hd,eO];cases d<;>first|(exact(hni _ rfl).elim)|simp):p:=h
def aC1{p:Prop}(h:p:=by rw[qI _ _ _ (by exact V)];exact aP.1 o ho):p:=h
def aC2{p:Prop}(h:p:=by simpa using h):p:=h
def aC3{p:Prop}(h:p:=by simp only[aE,O];rfl):p:=h
def aC4{p:Prop}(h:p:=by simpa using hlen):p:=h
def aC5{p:Prop}(h:p:=by show L.b≠_;omega):p:=h
def aC6{p:Prop}(h:p:=by simpa using Q):p:=h
def aC7{p:Prop}(h:p:=by simp[dF] at h):p:=h
def aC8{p:Prop}(h:p:=by simp[hq]):p:=h
def aC9{p:Prop}(h:p:=by simp[cr,j7]):p:=h
def aC_{p:Prop}(h:p:=by rcases q with rfl|⟨rfl,_⟩<;>rfl):p:=h
def aDa{p:Prop}(h:p:=by unfold lV at dS⊢;rw[eD];exact dS):p:=h
def aDb{p:Prop}(h:p:=by rw[eD];exact dS):p:=h
def aDc{p:Prop}(h:p:=by rw[sP];rfl):p:=h
def aDd{p:Prop}(h:p:=by rw[av e];exact hj):p:=h
def aDe{p:Prop}(h:p:=by rw[jC q];exact hM):p:=h
def aDf{p:Prop}(h:p:=by rw[ln J,kT]):p:=h
def aDg{p:Prop}(h:p:=by grind):p:=h
def aDh{p:Prop}(h:p:=by decide +kernel):p:=h
def aDi{p:Prop}(h:p:=by rw[aO hl];simp):p:=h
def aDj{p:Prop}(h:p:=by rw[jC q];exact O):p:=h
def aDk{p:Prop}(h:p:=by intro e;rw[e] at aT;simp at aT):p:=h
def aDl{p:Prop}(h:p:=by rw[cw.1 hy];exact⟨hx1,hx2⟩):p:=h
def aDm{p:Prop}(h:p:=by apply qG;simp):p:=h
def aDn{p:Prop}(h:p:=by cases i with|zero=>cases q1;cases ah;exact I|succ i=>cases q1):p:=h
def aDo{p:Prop}(h:p:=by show(1:Int)<=5;decide):p:=h
def aDp{p:Prop}(h:p:=by unfold oz;rw[cI];exact⟨e,by rw[k3];exact⟨he,O⟩,rfl⟩):p:=h
def aDq{p:Prop}(h:p:=by rw[put_defers];exact h.defers.mono hle):p:=h
def aDr{p:Prop}(h:p:=by simp[e1]):p:=h
def aDs{p:Prop}(h:p:=by simp[cj]):p:=h
def aDt{p:Prop}(h:p:=by exact V):p:=h
def aDu{p:Prop}(h:p:=by rw[hvs];exact Nat.mod_lt _ (by omega)):p:=h
def aDv{p:Prop}(h:p:=by rcases h.v with rfl|⟨rfl,_⟩<;>rfl):p:=h
def aDw{p:Prop}(h:p:=by simpa using he):p:=h
def aDx{p:Prop}(h:p:=by rw[av (by omega)];exact h0):p:=h
def aDy{p:Prop}(h:p:=by simp only[VI,NT,hzs,Wh,EC,<-nO];exact mJ n (by omega)):p:=h
def aDz{p:Prop}(h:p:=by cases ys with|nil=>exact(hne rfl).elim|cons _ _=>simp):p:=h
def aDA{p:Prop}(h:p:=by rw[av (by omega)];exact q):p:=h
def aDB{p:Prop}(h:p:=by simp[hw]):p:=h
def aDC{p:Prop}(h:p:=by cases I):p:=h
def aDD{p:Prop}(h:p:=by cases neg<;>rfl):p:=h
def aDE{p:Prop}(h:p:=by rw[cj]):p:=h
def aDF{p:Prop}(h:p:=by rcases jx with rfl|⟨rfl,_⟩<;>exact⟨rfl,rfl⟩):p:=h
def aDG{p:Prop}(h:p:=by rw[av (by rintro rfl;rw[Y] at q;simp at q)];exact q):p:=h
def aDH{p:Prop}(h:p:=by simp at h⊢;omega):p:=h
def aDI{p:Prop}(h:p:=by have:=hI.ne;rw[cG,nM] at z;omega):p:=h
def aDJ{p:Prop}(h:p:=by have:=he.1;simp at this):p:=h
def aDK{p:Prop}(h:p:=by simp[binOp,JV]):p:=h
def aDL{p:Prop}(h:p:=by simpa using ha):p:=h
def aDM{p:Prop}(h:p:=by simpa using q1):p:=h
def aDN{p:Prop}(h:p:=by rw[Q];exact hz):p:=h
def aDO{p:Prop}(h:p:=by simpa using h4):p:=h
def aDP{p:Prop}(h:p:=by simpa using hn):p:=h
def aDQ{p:Prop}(h:p:=by simpa using ec):p:=h
def aDR{p:Prop}(h:p:=by simp[dy,bS,gN,bl]):p:=h
def aDS{p:Prop}(h:p:=by rw[av (dj hj)];exact q):p:=h
def aDT{p:Prop}(h:p:=by show 0<=12;omega):p:=h
def aDU{p:Prop}(h:p:=by have:=(bF.1 hj).1;have:=V.1;simp at this;omega):p:=h
def aDV{p:Prop}(h:p:=by rw[bQ,N_ q,wrap_i64 (by omega) (by omega)];rfl):p:=h
def aDW{p:Prop}(h:p:=by intro e;subst e;rw[S] at hj;cases hj;cases ho):p:=h
def aDX{p:Prop}(h:p:=by simp[zeroValue,typeInfo,Q,hv]):p:=h
def aDY{p:Prop}(h:p:=by have:=Cx.1;simp at this;omega):p:=h
def aDZ{p:Prop}(h:p:=by rw[av (by omega)];exact h.out):p:=h
def aD0{p:Prop}(h:p:=by cases bf<;>first|rfl|cases ho):p:=h
def aD1{p:Prop}(h:p:=by rcases dS with⟨rfl,_⟩|⟨_,rfl,_⟩<;>rfl):p:=h
def aD2{p:Prop}(h:p:=by rw[bQ,step2 q,wrap_i64 (by omega) (by omega)]):p:=h
def aD3{p:Prop}(h:p:=by rintro rfl;rw[S] at hj;cases hj;exact O _ rfl):p:=h
def aD4{p:Prop}(h:p:=by have:=s.n;rw[Ar] at this;exact(g_ this).2.2.1):p:=h
def aD5{p:Prop}(h:p:=by rw[hg,qt];rfl):p:=h
def aD6{p:Prop}(h:p:=by simp at ah;omega):p:=h
def aD7{p:Prop}(h:p:=by simp[Dw,JT,run_underlying ht,hrun,nI hn];rfl):p:=h
def aD8{p:Prop}(h:p:=by intro e;subst e;rw[S] at hj;cases hj;cases O):p:=h
def aD9{p:Prop}(h:p:=by simpa using c7.1 this.2 i (by simpa using Q)):p:=h
def aD_{p:Prop}(h:p:=by cases w<;>first|rfl|cases hw):p:=h
def aEa{p:Prop}(h:p:=by rw[<-hro.1];exact S):p:=h
def aEb{p:Prop}(h:p:=by have:=z.s.n;rw[Ar] at this;exact(g_ this).1):p:=h
def aEc{p:Prop}(h:p:=by simpa using h.1):p:=h
def aEd{p:Prop}(h:p:=by simp[Y]):p:=h
def aEe{p:Prop}(h:p:=by simp[O]):p:=h
def aEf{p:Prop}(h:p:=by cases x<;>first|rfl|cases I):p:=h
def aEg{p:Prop}(h:p:=by rw[cG];omega):p:=h
def aEh{p:Prop}(h:p:=by rw[hout _ _ (λq=>O q.1)];exact aP.1 o ho):p:=h
def aEi{p:Prop}(h:p:=by simp[cZ]):p:=h
def aEj{p:Prop}(h:p:=by simp[FX,run_underlying he]):p:=h
def aEk{p:Prop}(h:p:=by unfold eqGuard;split<;>rfl):p:=h
def aEl{p:Prop}(h:p:=by have:=D.1;simpa using this):p:=h
def aEm{p:Prop}(h:p:=by have:=h.1;simpa using this):p:=h
def aEn{p:Prop}(h:p:=by apply qG;simpa using hargs):p:=h
def aEo{p:Prop}(h:p:=by rw[av (by omega)];exact n5):p:=h
def aEp{p:Prop}(h:p:=by rw[av (by omega)];exact uY):p:=h
def aEq{p:Prop}(h:p:=by first|(cases q;done)|omega):p:=h
def aEr{p:Prop}(h:p:=by rw[av (by omega)];exact k0):p:=h
def aEs{p:Prop}(h:p:=by rw[av (by omega),av (by omega)];exact h0):p:=h
def aEt{p:Prop}(h:p:=by simp;exact λa b=>hne.elim (· a) (· b)):p:=h
def aEu{p:Prop}(h:p:=by rw[av (by omega),av (by omega)];exact k0):p:=h
def aEv{p:Prop}(h:p:=by simpa using h3):p:=h
def aEw{p:Prop}(h:p:=by have:=q C6;have:=g C6;have:=g' C6;omega):p:=h
def aEx{p:Prop}(h:p:=by rw[<-Y.1];exact S):p:=h
def aEy{p:Prop}(h:p:=by rw[<-e,S] at q;cases q;exact hne _ rfl):p:=h
def aEz{p:Prop}(h:p:=by obtain⟨es,bx,m1,_⟩:=h.m;exact gl m1):p:=h
def aEA{p:Prop}(h:p:=by first|rfl|(exfalso;omega)):p:=h
def aEB{p:Prop}(h:p:=by rw[hcs];rfl):p:=h
def aEC{p:Prop}(h:p:=by simp at hz;obtain⟨n,_,rfl⟩:=hz;rfl):p:=h
def aED{p:Prop}(h:p:=by simp[binOp,OK,th]):p:=h
def aEE{p:Prop}(h:p:=by simpa using Y):p:=h
def aEF{p:Prop}(h:p:=by rw[put_defers];exact h.defers.mono h3):p:=h
def aEG{p:Prop}(h:p:=by simpa using e):p:=h
def aEH{p:Prop}(h:p:=by intro e;subst e;rw[S] at hj;cases hj):p:=h
def aEI{p:Prop}(h:p:=by apply qG;simpa using Io):p:=h
def aEJ{p:Prop}(h:p:=by simp only[b7,S,hm,if_true,h n hn,ir]):p:=h
def aEK{p:Prop}(h:p:=by rcases hv with rfl|⟨rfl,_⟩<;>rfl):p:=h
def aEL{p:Prop}(h:p:=by rw[Wk];exact Nat.mul_le_mul_left _ z):p:=h
def aEM{p:Prop}(h:p:=by obtain⟨l,q,_⟩:=h;exact(vA q).one):p:=h
def aEN{p:Prop}(h:p:=by rw[av e];exact h):p:=h
def aEO{p:Prop}(h:p:=by rw[av (dj hj)];exact h):p:=h
def aEP{p:Prop}(h:p:=by show(5:Int)<=5;decide):p:=h
def aEQ{p:Prop}(h:p:=by rw[Di];exact a2):p:=h
def aER{p:Prop}(h:p:=by rw[e6];exact a1):p:=h
def aES{p:Prop}(h:p:=by simpa using hlf):p:=h
def aET{p:Prop}(h:p:=by simpa using hlc):p:=h
def aEU{p:Prop}(h:p:=by simp at T):p:=h
def aEV{p:Prop}(h:p:=by simp only[qA,eo,Y,ir]):p:=h
def aEW{p:Prop}(h:p:=by simp at S):p:=h
def aEX{p:Prop}(h:p:=by rw[av (ne q)];exact q):p:=h
def aEY{p:Prop}(h:p:=by rw[av (IQ q)];exact q):p:=h
def aEZ{p:Prop}(h:p:=by rw[cw.1 hy];exact hst):p:=h
def aE0{p:Prop}(h:p:=by rw[jd (by omega)];rfl):p:=h
def aE1{p:Prop}(h:p:=by rw[fs];exact hA):p:=h
def aE2{p:Prop}(h:p:=by rw[fs];exact hN):p:=h
def aE3{p:Prop}(h:p:=by rw[gd,<-l1];simp[cj]):p:=h
def aE4{p:Prop}(h:p:=by simp[mQ,eY]):p:=h
def aE5{p:Prop}(h:p:=by rw[hfr];simp<;>omega):p:=h
def aE6{p:Prop}(h:p:=by rw[hfl];simp<;>omega):p:=h
def aE7{p:Prop}(h:p:=by simpa using hj):p:=h
def aE8{p:Prop}(h:p:=by simpa using hf):p:=h
def aE9{p:Prop}(h:p:=by simp[lV];omega):p:=h
def aE_{p:Prop}(h:p:=by simpa using h5):p:=h
def aFa{p:Prop}(h:p:=by simp[hj]):p:=h
def aFb{p:Prop}(h:p:=by simp[hz]):p:=h
def aFc{p:Prop}(h:p:=by rw[cw.1 hy];exact I):p:=h
def aFd{p:Prop}(h:p:=by simp[hs]):p:=h
def aFe{p:Prop}(h:p:=by simp only[rE];omega):p:=h
def aFf{p:Prop}(h:p:=by simp[h.dH]):p:=h
def aFg{p:Prop}(h:p:=by simp[flat]):p:=h
def aFh{p:Prop}(h:p:=by simp[cr,j7,h]):p:=h
def aFi{p:Prop}(h:p:=by simp[flat,gN]):p:=h
def aFj{p:Prop}(h:p:=by exact j6.ok.1):p:=h
def aFk{p:Prop}(h:p:=by simpa[uv] using e2):p:=h
def aFl{p:Prop}(h:p:=by rw[jC cV];exact q1):p:=h
def aFm{p:Prop}(h:p:=by unfold kW;rw[h_ z]):p:=h
def aFn{p:Prop}(h:p:=by rw[cw.1 q];exact I):p:=h
def aFo{p:Prop}(h:p:=by rw[br hjl,O]):p:=h
end Go
open Array renaming ext_getElem?->aAl,getElem?_append_left->VH,getElem?_eq_getElem->sM,getElem?_eq_none->aiW,getElem?_eq_some_iff->vK,getElem?_modify->Bm,length_toList->aiX,size_append->VI
open BitVec renaming ofInt->zd
open Bool renaming false_eq_true->je,not_true->vL
open Go.Builtin renaming append_->ur,firstCells->VN,lenOf->VO,len_->FX,zeroCells->xQ
open Go.Instr renaming index->VU,indexAt->OH,loadAt->VV,slice->JT,sliceAt->Dw,sliceBounds->ai6,storeAt->ai7,sureAddr->JU
open Go.IntKind renaming i64->bP
open Go.Op renaming bytesLess->VZ,equalIn->xR,intArith->V0,intBits->OK,intCmp->JV
open Go.Result renaming andThen_ok->eO
open Go.RowKit.Below renaming heap_setCell->ajg
open Go.Sem renaming run_bind->eG,run_pure->kj
open Go.Value renaming cells->uv
open Go.World renaming block_lt_of_cell?->OM,cell?->DC,cell?_alloc_lt->qI,cell?_alloc_new->DD,cell?_setCells_in->aAs,cell?_setCells_out->aAt,freeze->ON,frozen?->V4,frozen?_alloc_new->V5,frozen?_alloc_old->DE,frozen?_setCells->J0,setCells->J2,shape?->J3,size_drew->V6
open Go renaming byteCells->ajj
open List renaming all_append->ajk,all_eq_true->c7,append_assoc->cj,append_nil->ff,drop_of_length_le->sO,drop_succ_cons->xW,eq_nil_of_length_eq_zero->lG,ext_getElem?->zl,getElem?_append_left->ei,getElem?_append_right->en,getElem?_drop->oW,getElem?_eq_getElem->br,getElem?_eq_none->h_,getElem?_eq_some_iff->bF,getElem?_map->eo,getElem?_set_ne->av,getElem?_set_self->aO,getElem?_take->OQ,getElem?_take_of_lt->xX,getElem_mem->We,getElem_of_mem->DF,length_append->cG,length_cons->di,length_drop->uz,length_map->bX,length_nil->fI,length_take->zm,map_cons->ep,mem_map->cI,mem_of_getElem?->bA,mem_of_mem_drop->rN,mem_of_mem_take->Bx,nil_append->eH,range->iD,size_toArray->Wh,take_of_length_le->lH,take_succ_cons->sQ
open Nat renaming add_assoc->kK,add_le_add_left->Wj,add_mul->nO,add_zero->nP,eq_zero_or_pos->zn,le_refl->bg,le_trans->fy,lt_or_ge->cH,mul_le_mul_right->mJ,one_mul->Bz,sub_self->kL,sub_zero->DH,zero_add->e6,zero_le->iE
open Ne renaming symm->dj
open Option renaming isSome_iff_exists->Wm,isSome_none->x4,map_eq_some_iff->cg,map_some->ir
open Option.some renaming injEq->lI
open Or renaming inl->ax,inr->az
namespace Go.aH
open Go.RowKit
section
variable{a:Addr}{B b base aZ cap d field fin fin' id k len m n n' o off top:Nat}{dst e s src t ty:TypeId}{i' j s' v x' y y':Value}{w w':World}{i:Option Int}{cs' news vs:List Value}{aG neg row:Bool}{fields:Array Field}{f:Field}{op:BinOp}{fD kV:Operand}{hi' lo' ri:Option Value}
def cF{α:Type}{l:List α}{i:Nat}(h:i<l.length):∃x,l[i]?=some x:=⟨_,br h⟩
def gl{α:Type}{l:List α}{i:Nat}{x:α}(h:l[i]?=some x):i<l.length:=(bF.1 h).1
inductive iU where
 |exact
 |no
 |tok (id:Nat)
 deriving DecidableEq
inductive U where
 |v (x:Value)
 |agg (Z:List U)
 |aK (Z:List U)
 |af
 |sl (xs:List U) (t:iU)
 |fp (Z:List U) (off:Nat)
 |mp (k off:Nat)
 |rp (k n off:Nat)
 |rs (k n sz off len:Nat)
 |eL (k:Nat)
 |eU (ch:List PanicEntry)
 |fn (f:Fn) (first captured:List U)
 |cT (t:TypeId) (x:U)
 |dZ (k:Nat)
 |gu (k:Nat)
 |fM (k:Nat) (t:TypeId×Nat)
variable{r x:U}{Q lo mx:Option U}{Z ts us ys zs:List U}
def U.cells:U->List U
 |.agg Z=>Z
 |x=>[x]
def U.one:U->Bool
 |.agg _|.aK _|.eU _=>false
 |_=>true
def plain:Value->Bool
 |.bool _|.int _ _|.float _ _|.string _|.pointer none|.nilFunc|.nilIface|.map none=>true
 |_=>false
inductive aa where
 |cells (Z:List U) (row:Bool)
 |tok (n sz:Nat) (e:TypeId)
 |obj (o:Obj)
 |cQ (es:List (U×U×Nat)) (clock:Nat)
 |aS (st:LoopState) (pd:Option Code) (ats:List U) (ps:Array Tmp) (ok:Code->Code->Prop)
variable{J hp':List aa}
def aa.isObj:aa->Bool
 |.cells _ _|.tok _ _ _=>false
 |_=>true
def aa.like(b b':aa):Prop:=(∀o,b=.obj o->∃o',b'=.obj o'/\(o=.deferred (some [])->o'=o))/\
 (∀st pd ats ps ok,b=.aS st pd ats ps ok->∃st' jA,b'=.aS st' jA ats ps ok)/\(∀es bx,b=.cQ es bx->∃es' iI,b'=.cQ es' iI)
def aa.like.refl(b:aa):b.like b:=⟨λo h=>⟨o,h,λ_=>rfl⟩,λst pd _ _ _ h=>⟨st,pd,h⟩,λes bx h=>⟨es,bx,h⟩⟩
def aa.like.trans{a b c:aa}(h:a.like b)(h':b.like c):a.like c:=by
 refine⟨λo e=>?_,λst pd ats ps ok e=>?_,λes bx e=>?_⟩;obtain⟨o',e',f⟩:=h.1 o e;obtain⟨avA,e'',f'⟩:=h'.1 o' e';refine⟨avA,e'',λq=>?_⟩;have q1:=f q;rw[q1] at f';exact f' q;obtain⟨st',jA,e'⟩:=h.2.1 _ _ _ _ _ e;exact h'.2.1 _ _ _ _ _ e';obtain⟨es',iI,e'⟩:=h.2.2 _ _ e;exact h'.2.2 _ _ e'
def aa.like.isObj{b b':aa}(h:b.like b')(ho:b.isObj=true):b'.isObj=true:=by
 cases b with
 |obj o=>obtain⟨o',e,_⟩:=h.1 o rfl;rw[e];rfl
 |aS st pd ats ps ok=>obtain⟨_,_,e⟩:=h.2.1 _ _ _ _ _ rfl;rw[e];rfl
 |cQ es bx=>obtain⟨_,_,e⟩:=h.2.2 _ _ rfl;rw[e];rfl
 |_=>cases ho
def qP(o:Obj):Prop:=∀c t f,o≠.cells c t f
structure Loc where
 b:Nat
 fin:Nat:=0
 cap:Nat:=0
 ty:TypeId×Nat:=(0,0)
variable{M M':List Loc}{L L':Loc}
abbrev Cells:=Nat->Nat->Option Value
variable{C aC:Cells}
def rW(M:List Loc)(J:List aa)(a:Addr)(len cap sz:Nat):iU->Prop
 |.exact=>cap=len
 |.no=>True
 |.tok id=>∃n s ty L,J[id]?=some (.tok n s ty)/\M[id]?=some L/\len<=n/\(len=0\/sz=s)/\
  (len=n->a.spot=none/\a.block=L.b/\a.off+len*s=L.fin/\a.off+cap*s=L.cap)
inductive aI(C:Cells)(M:List Loc)(J:List aa):U->Value->Prop
 |v {x:Value} (h:plain x=true):aI C M J (.v x) x
 |agg {Z:List U} {cs':Array Value} (hl:Z.length=cs'.size)
  (h:∀(i:Nat) a b,Z[i]?=some a->cs'[i]?=some b->aI C M J a b):aI C M J (.agg Z) (.agg cs')
 |aK {Z:List U} {cs':Array Value} (hl:Z.length=cs'.size)
  (h:∀(i:Nat) a b,Z[i]?=some a->cs'[i]?=some b->aI C M J a b):aI C M J (.aK Z) (.tuple cs')
 |af:aI C M J .af (.slice none 0 0)
 |sl {xs:List U} {t:iU} {a:Addr} {cap sz:Nat} (f:Nat->Nat->Value)
  (hsp:xs≠[]->a.spot=none)
  (hsz:∀(i:Nat) x,xs[i]?=some x->x.cells.length=sz)
  (hC:∀(i:Nat) x (j:Nat) c,xs[i]?=some x->x.cells[j]?=some c->C a.block (a.off+i*sz+j)=some (f i j))
  (hR:∀(i:Nat) x (j:Nat) c,xs[i]?=some x->x.cells[j]?=some c->aI C M J c (f i j))
  (hT:rW M J a xs.length cap sz t) (hcap:xs.length<=cap):aI C M J (.sl xs t) (.slice (some a) xs.length cap)
 |fp {Z:List U} {off b o:Nat} (f:Nat->Value)
  (hC:∀(i:Nat) c,Z[i]?=some c->C b (o+i)=some (f i)) (hR:∀(i:Nat) c,Z[i]?=some c->aI C M J c (f i)):
  aI C M J (.fp Z off) (.pointer (some ⟨b,o+off,none⟩))
 |mp {k off:Nat} {L:Loc} {Z:List U} (O:J[k]?=some (.cells Z false)) (hM:M[k]?=some L):
  aI C M J (.mp k off) (.pointer (some ⟨L.b,off,none⟩))
 |rp {k n off:Nat} {L:Loc} {Z:List U} {a:Addr} (O:J[k]?=some (.cells Z true)) (hM:M[k]?=some L) (hn:n<=Z.length) (ha:n=Z.length->a=⟨L.b,off,none⟩):
  aI C M J (.rp k n off) (.pointer (some a))
 |rs {k n sz off len cap:Nat} {L:Loc} {Z:List U} {a:Addr} (O:J[k]?=some (.cells Z true)) (hM:M[k]?=some L) (hn:n<=Z.length) (hlc:len<=cap)
  (ha:n=Z.length->a=⟨L.b,off,none⟩/\off+len*sz<=Z.length/\Z.length<=off+cap*sz/\off+cap*sz<=L.cap):
  aI C M J (.rs k n sz off len) (.slice (some a) len cap)
 |eL {k:Nat} {L:Loc} {o:Obj} (O:J[k]?=some (.obj o)) (hM:M[k]?=some L):aI C M J (.eL k) (.pointer (some ⟨L.b,0,none⟩))
 |fn {f:Fn} {fs Z:List U} {fs' cs':Array Value} (hlf:fs.length=fs'.size) (hlc:Z.length=cs'.size)
  (hf:∀(i:Nat) a b,fs[i]?=some a->fs'[i]?=some b->aI C M J a b)
  (T:∀(i:Nat) a b,Z[i]?=some a->cs'[i]?=some b->aI C M J a b):aI C M J (.fn f fs Z) (.func f fs' cs')
 |cT {t:TypeId} {x:U} {x':Value} (h:aI C M J x x'):aI C M J (.cT t x) (.iface t x')
 |dZ {k:Nat} {L:Loc} {es:List (U×U×Nat)} {bx:Nat} (O:J[k]?=some (.cQ es bx)) (hM:M[k]?=some L):aI C M J (.dZ k) (.map (some L.b))
 |gu {k:Nat} {L:Loc} {st:LoopState} {pd:Option Code} {ats:List U} {ps:Array Tmp} {ok:Code->Code->Prop} (O:J[k]?=some (.aS st pd ats ps ok)) (hM:M[k]?=some L):aI C M J (.gu k) (.func (.yield L.b) #[] #[])
 |fM {k:Nat} {L:Loc} {Z:List U} (O:J[k]?=some (.cells Z false)) (hM:M[k]?=some L):aI C M J (.fM k L.ty) (.pointer none)
structure bZ(C:Cells)(M:List Loc)(J:List aa)(aC:Cells)(M':List Loc)(hp':List aa):Prop where
 C:∀b o v,C b o=some v->aC b o=some v
 cells:∀(k:Nat) Z fz,J[k]?=some (.cells Z fz)->∃cs',hp'[k]?=some (.cells cs' fz)/\(fz=true->Z.length<=cs'.length)/\((fz=true->cs'.length=Z.length)->M'[k]?=M[k]?)/\((M[k]?).isSome->(M'[k]?).isSome)
 toks:∀(k:Nat) n s ty,J[k]?=some (.tok n s ty)->∃n',hp'[k]?=some (.tok n' s ty)/\n<=n'/\(n'=n->M'[k]?=M[k]?)/\((M[k]?).isSome->(M'[k]?).isSome)
 eM:∀(k:Nat) b,b.isObj=true->J[k]?=some b->(∃b',hp'[k]?=some b'/\b.like b')/\M'[k]?=M[k]?
def bZ.refl(C:Cells)(M:List Loc)(J:List aa):bZ C M J C M J:=
 ⟨λ_ _ _ h=>h,λ_ Z fz h=>⟨Z,h,λ_=>bg _,λ_=>rfl,λh=>h⟩,λ_ n _ _ h=>⟨n,h,bg _,λ_=>rfl,λh=>h⟩,λ_ b _ h=>⟨⟨b,h,.refl b⟩,rfl⟩⟩
def bZ.trans{F_ C₂:Cells}{DP WK:List Loc}{hp₁ hp₂:List aa}(h:bZ C M J F_ DP hp₁)(k:bZ F_ DP hp₁ C₂ WK hp₂):bZ C M J C₂ WK hp₂:=by
 refine⟨λb o v e=>k.C _ _ _ (h.C _ _ _ e),λi Z fz e=>?_,λi n s ty e=>?_,λi b O e=>?_⟩;obtain⟨cs',e',g,m,s⟩:=h.cells i Z fz e;obtain⟨al_,e'',g',m',s'⟩:=k.cells i cs' fz e';refine⟨al_,e'',λq=>fy (g q) (g' q),λq=>?_,λq=>s' (s q)⟩;exact(m' λC6=>aEw).trans (m λC6=>aEw);obtain⟨n',e',l,m,s1⟩:=h.toks i n s ty e;obtain⟨afn,e'',l',m',s2⟩:=k.toks i n' s ty e';refine⟨afn,e'',fy l l',λq=>?_,λq=>s2 (s1 q)⟩;have a:n'=n:=aCs
 have b:afn=n':=aCs
 exact(m' b).trans (m a);obtain⟨⟨b',e',l⟩,m⟩:=h.eM i b O e;obtain⟨⟨b'',e'',l'⟩,m'⟩:=k.eM i b' (l.isObj O) e';exact⟨⟨b'',e'',l.trans l'⟩,m'.trans m⟩
def bZ.length(h:bZ C M J aC M' hp'):J.length<=hp'.length:=by
 rcases zn J.length with h0|h0
 omega;have hl:J.length-1<J.length:=aCs
 have e:=br hl;have key:∃b,hp'[J.length-1]?=some b:=by
  cases O:J[J.length-1] with
  |cells Z fz=>rw[O] at e;obtain⟨cs',q,_⟩:=h.cells _ _ _ e;exact⟨_,q⟩
  |tok n s ty=>rw[O] at e;obtain⟨n',q,_⟩:=h.toks _ _ _ _ e;exact⟨_,q⟩
  |obj o=>rw[O] at e;obtain⟨⟨b',q,_⟩,_⟩:=h.eM _ _ rfl e;exact⟨_,q⟩
  |cQ es bx=>rw[O] at e;obtain⟨⟨b',q,_⟩,_⟩:=h.eM _ _ rfl e;exact⟨_,q⟩
  |aS st pd ats ps ok=>rw[O] at e;obtain⟨⟨b',q,_⟩,_⟩:=h.eM _ _ rfl e;exact⟨_,q⟩
 obtain⟨b,O⟩:=key;have:=(bF.1 O).1;omega
def rW.mono(hle:bZ C M J aC M' hp'){sz:Nat}{t:iU}
  (h:rW M J a len cap sz t):rW M' hp' a len cap sz t:=by
 cases t with
 |exact=>exact h
 |no=>trivial
 |tok id=>
  obtain⟨n,s,ty,L,e,m,l,z,q⟩:=h;obtain⟨n',e',l',m',s1⟩:=hle.toks id n s ty e;have:=s1 (by simp[m]);obtain⟨L',hL'⟩:=Wm.1 this;refine⟨n',s,ty,L',e',hL',fy l l',z,λhq=>?_⟩;have hn:n'=n:=aCs
  have:=m' hn;rw[hL',m] at this;cases this;exact q aCs
def aI.mono(hle:bZ C M J aC M' hp')
  (h:aI C M J x y):aI aC M' hp' x y:=by
 induction h with
 |v h=>exact .v h
 |agg hl _ ih=>exact .agg hl ih
 |aK hl _ ih=>exact .aK hl ih
 |af=>exact .af
 |sl f hsp hsz hC _ hT hcap ih=>exact .sl f hsp hsz (λi x j c Y V=>hle.C _ _ _ (hC i x j c Y V)) ih (hT.mono hle) hcap
 |fp f hC _ ih=>exact .fp f (λi c h=>hle.C _ _ _ (hC i c h)) ih
 |mp O hM=>
  obtain⟨cs',e,_,m,_⟩:=hle.cells _ _ _ O;exact .mp e ((m nofun).trans hM)
 |@rp k n off L Z a O hM hn ha=>
  obtain⟨cs',e,g,m,s⟩:=hle.cells _ _ _ O;have g:=g rfl;obtain⟨L',hL'⟩:=Wm.1 (s (by rw[hM];rfl));refine .rp e hL' aCs λq=>?_;have Y:cs'.length=Z.length:=aCs
  have V:=m λ_=>Y;rw[hL',hM] at V;cases V;exact ha aCs
 |@rs k n sz off len cap L Z a O hM hn hlc ha=>
  obtain⟨cs',e,g,m,s⟩:=hle.cells _ _ _ O;have g:=g rfl;obtain⟨L',hL'⟩:=Wm.1 (s (by rw[hM];rfl));refine .rs e hL' aCs hlc λq=>?_;have Y:cs'.length=Z.length:=aCs
  have V:=m λ_=>Y;rw[hL',hM] at V;cases V;rw[Y];exact ha aCs
 |eL O hM=>
  obtain⟨⟨b',e,l⟩,m⟩:=hle.eM _ _ rfl O;obtain⟨o',rfl,_⟩:=l.1 _ rfl;exact .eL e (m.trans hM)
 |fn hlf hlc _ _ CD CC=>exact .fn hlf hlc CD CC
 |cT _ ih=>exact .cT ih
 |dZ O hM=>
  obtain⟨⟨b',e,l⟩,m⟩:=hle.eM _ _ rfl O;obtain⟨es',iI,rfl⟩:=l.2.2 _ _ rfl;exact .dZ e (m.trans hM)
 |fM O hM=>
  obtain⟨cs',e,_,m,_⟩:=hle.cells _ _ _ O;exact .fM e ((m nofun).trans hM)
 |gu O hM=>
  obtain⟨⟨b',e,l⟩,m⟩:=hle.eM _ _ rfl O;obtain⟨_,_,rfl⟩:=l.2.1 _ _ _ _ _ rfl;exact .gu e (m.trans hM)
def qQ(C:Cells)(M:List Loc)(J:List aa):aa->Obj->Prop
 |.obj o',o=>o=o'
 |.cQ es bx,o=>∃entries:Array MapEntry,o=.map entries bx/\es.length=entries.toList.length/\∀(i:Nat) a b,es[i]?=some a->entries.toList[i]?=some b->aI C M J a.1 b.key/\aI C M J a.2.1 b.val/\b.born=a.2.2
 |.aS st pd ats ps ok,o=>∃fn tmps assign body hr,o=.loop {state:=st,pending:=pd,fn:=fn,tmps:=tmps,params:=ps,assign:=assign,body:=body,defers:=hr}/\ok assign body/\
  ats.length=tmps.size/\∀(i:Nat) a b,ats[i]?=some a->tmps[i]?=some b->aI C M J a b
 |_,_=>False
def qQ.mono(hle:bZ C M J aC M' hp'){b:aa}{o:Obj}(h:qQ C M J b o):qQ aC M' hp' b o:=by
 cases b with
 |obj o'=>exact h
 |cQ es bx=>
  obtain⟨jv,e,Y,V⟩:=h;exact⟨jv,e,Y,λi a b ha O=>let⟨x,y,z⟩:=V i a b ha O;⟨x.mono hle,y.mono hle,z⟩⟩
 |aS st pd ats ps ok=>
  obtain⟨fn,tmps,assign,body,hr,e,Y,V,h3⟩:=h;exact⟨fn,tmps,assign,body,hr,e,Y,V,λi a b ha O=>(h3 i a b ha O).mono hle⟩
 |_=>exact h.elim
structure jh where
 w:World
 C:Cells
variable{w0:jh}
def lN(w:World)(b:Nat)(e:TypeId×Nat):Prop:=w.shape? b=some e
def lN.same{e:TypeId×Nat}(h:lN w b e)(O:w'.heap[b]?=w.heap[b]?):lN w' b e:=by
 unfold lN J3 at h⊢;rw[O];exact h
def lN.alloc{e:TypeId×Nat}(h:lN w b e)(O:b<w.heap.size)(o:Obj):lN (w.alloc o) b e:=h.same (Below.heap_alloc w o b O)
def lN.new{cells:Array Value}:lN (w.alloc (.cells cells e)) w.heap.size (e,cells.size):=by
 have:(w.alloc (.cells cells e)).heap[w.heap.size]?=some (.cells cells e):=by
  show(w.heap.push (.cells cells e))[w.heap.size]?=_;simp
 unfold lN J3;rw[this]
def lN.set{e:TypeId×Nat}(h:lN w b e)(a:Addr)(v:Value):lN (w.setCell a v) b e:=by
 by_cases O:b=a.block;unfold lN J3 at h⊢;have:(w.setCell a v).heap[b]?=(w.heap[b]?).map λ
  |.cells c elem frozen=>.cells (if a.spot.isSome then c else c.setIfInBounds a.off v) elem frozen
  |o=>o:=by
  show(w.heap.modify a.block _)[b]?=_;rw[Bm,if_pos O.symm];cases w.heap[b]? with
  |none=>rfl
  |some x=>cases x<;>rfl
 rw[this];cases I:w.heap[b]? with
 |none=>rw[I] at h;simp at h
 |some x=>
  rw[I] at h;cases x with
  |cells Z ty fr=>
   simp only[lI] at h;simp only[ir,<-h];split<;>simp
  |_=>simp at h
 unfold lN J3 at h⊢;rw[ajg _ _ _ _ O];exact h
def iW(w:World)(b fin:Nat)(e:TypeId):Prop:=∃(Z:Array Value) (lo Q:Nat),w.heap[b]?=some (.cells Z e (lo,Q))/\(lo=Q\/Q<=fin)
def iW.free(h:iW w b fin e)(o:Nat)(ho:fin<=o):w.frozen? ⟨b,o,none⟩=false:=by
 obtain⟨Z,lo,Q,Y,V⟩:=h;simp only[V4,Y,Bool.and_eq_false_iff,decide_eq_false_iff_not];omega
def iW.shape(h:iW w b fin e):∃c,w.shape? b=some (e,c):=by
 obtain⟨Z,lo,Q,Y,V⟩:=h;exact⟨Z.size,by simp only[J3,Y]⟩
def iW.same(h:iW w b fin e)(O:w'.heap[b]?=w.heap[b]?):iW w' b fin e:=by
 obtain⟨Z,lo,Q,Y,V⟩:=h;exact⟨Z,lo,Q,by rw[O];exact Y,V⟩
def iW.alloc(h:iW w b fin e)(O:b<w.heap.size)(o:Obj):iW (w.alloc o) b fin e:=h.same (Below.heap_alloc w o b O)
def iW.new{cells:Array Value}:iW (w.alloc (.cells cells e)) w.heap.size fin e:=by
 refine⟨cells,0,0,?_,.inl rfl⟩;show(w.heap.push (.cells cells e))[w.heap.size]?=_;simp
def iW.set(h:iW w b fin e)(hf:fin<=fin')(a:Addr)(v:Value):iW (w.setCell a v) b fin' e:=by
 obtain⟨Z,lo,Q,Y,V⟩:=h;have h3:lo=Q\/Q<=fin':=aCs
 by_cases O:b=a.block;subst O;refine⟨if a.spot.isSome then Z else Z.setIfInBounds a.off v,lo,Q,?_,h3⟩;show(w.heap.modify a.block _)[a.block]?=_;rw[Bm,if_pos rfl,Y];rfl;exact⟨Z,lo,Q,by rw[ajg _ _ _ _ O];exact Y,h3⟩
def iW.up(h:iW w b fin e)(hf:fin<=fin'):iW w b fin' e:=by
 obtain⟨Z,lo,Q,Y,V⟩:=h;exact⟨Z,lo,Q,Y,aCs⟩
def iW.freeze(h:iW w b fin e)(a:Addr)(n:Nat)(hfit:b=a.block->a.off+n<=fin):iW (w.freeze a n) b fin e:=by
 unfold ON;split;exact h;obtain⟨Z,lo,Q,Y,V⟩:=h;by_cases O:b=a.block;have ao5:=hfit O;subst O;by_cases he:lo=Q;refine⟨Z,a.off,a.off+n,?_,.inr ao5⟩;show(w.heap.modify a.block _)[a.block]?=_;rw[Bm,if_pos rfl,Y];simp[he];refine⟨Z,min lo a.off,max Q (a.off+n),?_,.inr aCs⟩;show(w.heap.modify a.block _)[a.block]?=_;rw[Bm,if_pos rfl,Y];simp[he];refine⟨Z,lo,Q,?_,V⟩;show(w.heap.modify a.block _)[b]?=_;rw[Bm,if_neg (dj O)];exact Y
section
variable{G:Cells}
def Oh:Nat:=6
def BL(w:World):Prop:=∃Z t f,w.heap[Oh]?=some (.cells Z t f)/\Z.size=20
structure ajK(base:Nat)(w0:jh):Prop where
 le:base<=w0.w.heap.size
 lt:Oh<base
 tab:BL w0.w
def O7(G C:Cells)(w:World):Prop:=(∀b o v,G b o=some v->C b o=some v)/\BL w
structure bu(G:Cells)(base:Nat)(w0:jh)(C:Cells)(M:List Loc)(J:List aa)(w:World):Prop where
 below:Below base w0.w w
 k_:ajK base w0
 old:∀b o v,C b o=some v->b<base->w0.C b o=some v
 oB:∀b o v,G b o=some v->C b o=some v
 dH:M.length=J.length
 lf:∀b o v,C b o=some v->w.cell? ⟨b,o,none⟩=some v
 cells:∀(k:Nat) Z fz L,J[k]?=some (.cells Z fz)->M[k]?=some L->base<=L.b/\L.b<w.heap.size/\
  (∀(i:Nat) c,Z[i]?=some c->∃c',w.cell? ⟨L.b,i,none⟩=some c'/\aI C M J c c')/\
  (∀i,w.frozen? ⟨L.b,i,none⟩=false)/\(∀o,C L.b o=none)/\(∀o,o<L.cap->∃v,w.cell? ⟨L.b,o,none⟩=some v)/\lN w L.b L.ty
 toks:∀(k:Nat) n s ty L,J[k]?=some (.tok n s ty)->M[k]?=some L->base<=L.b/\L.b<w.heap.size/\L.fin<=L.cap/\
  (∀o,L.fin<=o->C L.b o=none)/\(∀o,L.fin<=o->o<L.cap->(∃v,w.cell? ⟨L.b,o,none⟩=some v)/\w.frozen? ⟨L.b,o,none⟩=false)/\iW w L.b L.fin ty
 apart:∀(k k':Nat) L L',k≠k'->M[k]?=some L->M[k']?=some L'->L.b≠L'.b
 eM:∀(k:Nat) b L,b.isObj=true->J[k]?=some b->M[k]?=some L->base<=L.b/\∃o,w.heap[L.b]?=some o/\qP o/\qQ C M J b o
def bu.KJ(h:bu G base w0 C M J w):base<=w.heap.size:=
 fy h.k_.le h.below.size
def bu.tab(h:bu G base w0 C M J w):BL w:=by
 obtain⟨Z,t,f,Y,V⟩:=h.k_.tab;exact⟨Z,t,f,by rw[h.below.block _ h.k_.lt];exact Y,V⟩
def bu.drew(h:bu G base w0 C M J w):bu G base w0 C M J w.drew:=
 ⟨h.below.drew,h.k_,h.old,h.oB,h.dH,h.lf,h.cells,h.toks,h.apart,h.eM⟩
end
def aI.one(h:aI C M J x y)(Y:x.one=true):y.oneCell'=true:=by
 cases h<;>first|rfl|(simp[U.one] at Y;done)|skip
 rename_i I
 cases y<;>first|rfl|(simp[plain] at I)
variable{G:Cells}{base:Nat}{w0:jh}{w:World}{C:Cells}{M:List Loc}{J:List aa}
def Cells.add(C:Cells)(B lo:Nat)(vs:List Value):Cells:=
 λb o=>if b=B/\lo<=o/\o<lo+vs.length then vs[o-lo]? else C b o
def Cells.BM(C:Cells)(B lo:Nat)(vs:List Value)(i:Nat)(h:i<vs.length):C.add B lo vs B (lo+i)=vs[i]? :=by
 unfold Cells.add;rw[if_pos ⟨rfl,aCs,aCs⟩];congr 1;omega
def Cells.rY(C:Cells)(B lo:Nat)(vs:List Value){b o:Nat}(h:¬(b=B/\lo<=o/\o<lo+vs.length)):C.add B lo vs b o=C b o:=by
 unfold Cells.add;rw[if_neg h]
def bu.fresh(h:bu G base w0 C M J w)(o:Nat):C w.heap.size o=none:=by
 cases T:C w.heap.size o with
 |none=>rfl
 |some v=>
  have:=OM w _ (h.lf _ _ _ T);simp at this
def bu.CZ(h:bu G base w0 C M J w){aC:Cells}{M':List Loc}{hp':List aa}{w':World}(hle:bZ C M J aC M' hp')(hh:∀(k:Nat) b,b.isObj=true->hp'[k]?=some b->J[k]?=some b/\M'[k]?=M[k]?)
  (hw:∀(b:Nat) o,w.heap[b]?=some o->qP o->w'.heap[b]?=some o):∀(k:Nat) b L,b.isObj=true->hp'[k]?=some b->M'[k]?=some L->base<=L.b/\∃o,w'.heap[L.b]?=some o/\qP o/\qQ aC M' hp' b o:=λk b L O S hM=>by
 obtain⟨Y,V⟩:=hh k b O S;rw[V] at hM;obtain⟨a,o,e,c,d⟩:=h.eM k b L O Y hM;exact⟨a,o,hw _ _ e c,c,d.mono hle⟩
def L_(w:World)(x:Obj)(b:Nat)(o:Obj)(h:w.heap[b]?=some o):(w.alloc x).heap[b]?=some o:=by
 show(w.heap.push x)[b]?=some o;have hl:=(vK.1 h).1;rw[Array.getElem?_push_lt hl,<-sM hl];exact h
def TC{b:aa}{L:Loc}(hl:M.length=J.length)(O:b.isObj=false){k:Nat}{x:aa}(I:x.isObj=true)(h:(J++[b])[k]?=some x):J[k]?=some x/\(M++[L])[k]?=M[k]? :=by
 rcases cH k J.length with S|S
 rw[ei S] at h;exact⟨h,ei aCs⟩;rw[en S] at h;cases hj:k-J.length with
 |zero=>rw[hj] at h;simp at h;subst h;rw[O] at I;cases I
 |succ j=>rw[hj] at h;simp at h
def E9{b:aa}{i:Nat}(O:b.isObj=false){k:Nat}{x:aa}(I:x.isObj=true)(h:(J.set i b)[k]?=some x):k≠i/\J[k]?=some x:=by
 by_cases e:i=k;subst e;by_cases Q:i<J.length;rw[aO Q] at h;simp at h;subst h;rw[O] at I;cases I;rw[h_ aCv] at h;cases h;rw[av e] at h;exact⟨λq=>e q.symm,h⟩
def bZ.akl{B lo:Nat}{vs:List Value}(hn:∀o,lo<=o->o<lo+vs.length->C B o=none):bZ C M J (C.add B lo vs) M J:=by
 refine⟨λb o v h=>?_,λk Z fz h=>⟨Z,h,λ_=>bg _,λ_=>rfl,λh=>h⟩,λk n s ty h=>⟨n,h,bg _,λ_=>rfl,λh=>h⟩,λk b _ h=>⟨⟨b,h,.refl b⟩,rfl⟩⟩;rw[Cells.rY];exact h;rintro⟨rfl,Y,V⟩;rw[hn o Y V] at h;cases h
def bZ.push(b:aa)(L:Loc)(hl:M.length=J.length):bZ C M J C (M++[L]) (J++[b]):=by
 refine⟨λ_ _ _ h=>h,λk Z fz h=>?_,λk n s ty h=>?_,λk o _ h=>?_⟩;have S:=(bF.1 h).1;exact⟨Z,by rw[ei S];exact h,λ_=>bg _,λ_=>by rw[ei aCs],λh=>by rw[ei aCs];exact h⟩;have S:=(bF.1 h).1;exact⟨n,by rw[ei S];exact h,bg _,λ_=>by rw[ei aCs],λh=>by rw[ei aCs];exact h⟩;have S:=(bF.1 h).1;exact⟨⟨o,by rw[ei S];exact h,.refl o⟩,by rw[ei aCs]⟩
def bu.Q3(h:bu G base w0 C M J w)(cells:Array Value)(e:TypeId)(vs:List Value)(hv:∀(i:Nat) v,vs[i]?=some v->cells[i]?=some v):
  bZ C M J (C.add w.heap.size 0 vs) M J/\bu G base w0 (C.add w.heap.size 0 vs) M J (w.alloc (.cells cells e)):=by
 have hle:bZ C M J (C.add w.heap.size 0 vs) M J:=bZ.akl λo _ _=>h.fresh o;refine⟨hle,h.below.alloc (fy h.k_.le h.below.size) _,h.k_,λb o v T O=>h.old b o v (by rwa [Cells.rY _ _ _ _ (λq=>by have:=h.KJ;omega)] at T) O,λb o v hg=>hle.C _ _ _ (h.oB b o v hg),h.dH,?_,?_,?_,h.apart,h.CZ hle (λk o _ h=>⟨h,rfl⟩) λb o O _=>L_ _ _ _ _ O⟩;intro b o v T;by_cases O:b=w.heap.size/\0<=o/\o<0+vs.length;obtain⟨rfl,_,V⟩:=O;have:=Cells.BM C w.heap.size 0 vs o aCs;rw[e6] at this;rw[this] at T;rw[DD];exact hv o v T;rw[Cells.rY _ _ _ _ O] at T;have hw:=h.lf b o v T;rw[qI _ _ _ (OM _ _ hw)];exact hw;intro k Z fz L S hM;obtain⟨Y,V,h3,q1,ah,aP⟩:=h.cells k Z fz L S hM;have hne:∀o,¬(L.b=w.heap.size/\0<=o/\o<0+vs.length):=λo hq=>aCs
 refine⟨Y,aCv,λi c T=>?_,λi=>by rw[DE _ _ _ aC5];exact q1 i,λo=>by rw[Cells.rY _ _ _ _ (hne o)];exact ah o,
  λo ho=>by rw[qI _ _ _ aDt];exact aP.1 o ho,aP.2.alloc V _⟩
 obtain⟨c',a1,a2⟩:=h3 i c T;exact⟨c',by rw[qI _ _ _ aDt];exact a1,a2.mono hle⟩;intro k n s ty L S hM;obtain⟨Y,V,h3,h4,h5,h6⟩:=h.toks k n s ty L S hM;have hne:∀o,¬(L.b=w.heap.size/\0<=o/\o<0+vs.length):=λo hq=>aCs
 refine⟨Y,aCv,h3,λo ho=>by rw[Cells.rY _ _ _ _ (hne o)];exact h4 o ho,λo ho ho'=>?_,h6.alloc V _⟩;obtain⟨a1,a2⟩:=h5 o ho ho';exact⟨by rw[qI _ _ _ aDt];exact a1,by rw[DE _ _ _ aC5];exact a2⟩
def bY(C:Cells)(M:List Loc)(J:List aa)(Z:List U)(cs':List Value):Prop:=
 Z.length=cs'.length/\∀(i:Nat) a b,Z[i]?=some a->cs'[i]?=some b->aI C M J a b
def bY.mono{aC:Cells}{M':List Loc}{hp':List aa}(hle:bZ C M J aC M' hp'){Z:List U}{cs':List Value}(h:bY C M J Z cs'):bY aC M' hp' Z cs':=
 ⟨h.1,λi a b Y V=>(h.2 i a b Y V).mono hle⟩
def bY.get{Z:List U}{cs':List Value}(h:bY C M J Z cs'){i:Nat}{c:U}(T:Z[i]?=some c):∃c',cs'[i]?=some c'/\aI C M J c c':=by
 have Q:i<cs'.length:=by rw[<-h.1];exact(bF.1 T).1
 exact⟨cs'[i],br Q,h.2 i c _ T (br Q)⟩
def bu.M_(h:bu G base w0 C M J w)(row:Bool)(cap:Nat)(Z:List U)(vs:List Value)(cells:Array Value)(e:TypeId)(D:bY C M J Z vs)(hv:∀(i:Nat) v,vs[i]?=some v->cells[i]?=some v)(hcap:cap<=cells.size):
  bZ C M J C (M++[{b:=w.heap.size,cap:=cap,ty:=(e,cells.size)}]) (J++[.cells Z row])/\
   bu G base w0 C (M++[{b:=w.heap.size,cap:=cap,ty:=(e,cells.size)}]) (J++[.cells Z row]) (w.alloc (.cells cells e)):=by
 have hle:bZ C M J C (M++[{b:=w.heap.size,cap:=cap,ty:=(e,cells.size)}]) (J++[.cells Z row]):=bZ.push _ _ h.dH;have tE:=fy h.k_.le h.below.size;refine⟨hle,h.below.alloc tE _,h.k_,h.old,h.oB,aFf,?_,?_,?_,?_,h.CZ hle (λk o ho S=>TC h.dH rfl ho S) λb o O _=>L_ _ _ _ _ O⟩;intro b o v T;have hw:=h.lf b o v T;rw[qI _ _ _ (OM _ _ hw)];exact hw;intro k cs₁ fz L S hM
 rcases cH k J.length with hl|hl
 rw[ei hl] at S;rw[ei (by rw[h.dH];exact hl)] at hM;obtain⟨Y,V,h3,q1,ah,aP⟩:=h.cells k cs₁ fz L S hM;refine⟨Y,aCv,λi c T=>?_,λi=>by rw[DE _ _ _ aC5];exact q1 i,ah,λo ho=>by rw[qI _ _ _ aDt];exact aP.1 o ho,aP.2.alloc V _⟩;obtain⟨c',a1,a2⟩:=h3 i c T;exact⟨c',by rw[qI _ _ _ aDt];exact a1,a2.mono hle⟩;have hk':k=J.length:=by
  have:=(bF.1 S).1;simp at this;omega
 subst hk';rw[en (bg _)] at S;rw[en (by rw[h.dH];exact bg _),h.dH] at hM;simp at S hM;obtain⟨rfl,rfl⟩:=S;subst hM;refine⟨tE,aCt,λi c T=>?_,λi=>V5 _ _ _ _,λo=>h.fresh o,λo ho=>?_,lN.new⟩;obtain⟨c',a1,a2⟩:=D.get T;exact⟨c',by rw[DD];exact hv _ _ a1,a2.mono hle⟩;rw[DD];have ho:o<cap:=ho;exact⟨cells[o],sM aCs⟩;intro k n s ty L S hM
 rcases cH k J.length with hl|hl
 rw[ei hl] at S;rw[ei (by rw[h.dH];exact hl)] at hM;obtain⟨Y,V,h3,h4,h5,h6⟩:=h.toks k n s ty L S hM;refine⟨Y,aCv,h3,h4,λo ho ho'=>?_,h6.alloc V _⟩;obtain⟨a1,a2⟩:=h5 o ho ho';exact⟨by rw[qI _ _ _ aDt];exact a1,by rw[DE _ _ _ aC5];exact a2⟩;have hk':k=J.length:=by
  have:=(bF.1 S).1;simp at this;omega
 subst hk';rw[en (bg _)] at S;simp at S;intro k k' L L' hne hM cP;have key:∀(j:Nat) (L₁:Loc),M[j]?=some L₁->L₁.b<w.heap.size:=by
  intro j L₁ hj;have hjl:j<J.length:=by rw[<-h.dH];exact(bF.1 hj).1
  cases O:J[j] with
  |cells cs₁ fz=>exact(h.cells j cs₁ fz L₁ aFo hj).2.1
  |tok n s ty=>exact(h.toks j n s _ L₁ aFo hj).2.1
  |_=>
   obtain⟨_,o,e,_⟩:=h.eM j _ L₁ (by rw[O];rfl) (br hjl) hj;exact(vK.1 e).1
 rcases cH k M.length with hl|hl
 rw[ei hl] at hM
 rcases cH k' M.length with hl'|hl'
 rw[ei hl'] at cP;exact h.apart k k' L L' hne hM cP;rw[en hl'] at cP;have:=key k L hM;have e:L'={b:=w.heap.size,cap:=cap,ty:=(e,cells.size)}:=by
  cases hj:k'-M.length with
  |zero=>rw[hj] at cP;simpa using cP.symm
  |succ j=>rw[hj] at cP;simp at cP
 subst e;show L.b≠w.heap.size;omega;rw[en hl] at hM;have e:L={b:=w.heap.size,cap:=cap,ty:=(e,cells.size)}:=by
  cases hj:k-M.length with
  |zero=>rw[hj] at hM;simpa using hM.symm
  |succ j=>rw[hj] at hM;simp at hM
 subst e
 rcases cH k' M.length with hl'|hl'
 rw[ei hl'] at cP;have:=key k' L' cP;show w.heap.size≠L'.b;omega;rw[en hl'] at cP;exfalso;have Y:k-M.length=0:=by
  cases hj:k-M.length with
  |zero=>rfl
  |succ j=>rw[hj] at hM;simp at hM
 have V:k'-M.length=0:=by
  cases hj:k'-M.length with
  |zero=>rfl
  |succ j=>rw[hj] at cP;simp at cP
 omega
def bu.Tt(h:bu G base w0 C M J w)(Z:List U)(cells:Array Value)(e:TypeId)(D:bY C M J Z cells.toList):
  bZ C M J C (M++[{b:=w.heap.size,ty:=(e,cells.size)}]) (J++[.cells Z false])/\
   bu G base w0 C (M++[{b:=w.heap.size,ty:=(e,cells.size)}]) (J++[.cells Z false]) (w.alloc (.cells cells e)):=
 h.M_ false 0 Z cells.toList cells e D (λi v hv=>by simpa using hv) (iE _)
variable{G:Cells}{base:Nat}{w0:jh}{w:World}{C:Cells}{M:List Loc}{J:List aa}
def bu.at(h:bu G base w0 C M J w){k:Nat}{L:Loc}(hM:M[k]?=some L):L.b<w.heap.size/\base<=L.b:=by
 have hjl:k<J.length:=by rw[<-h.dH];exact(bF.1 hM).1
 cases O:J[k] with
 |cells Z fz=>have:=h.cells k Z fz L aFo hM;exact⟨this.2.1,this.1⟩
 |tok n s ty=>have:=h.toks k n s _ L aFo hM;exact⟨this.2.1,this.1⟩
 |_=>
  obtain⟨Y,o,e,_⟩:=h.eM k _ L (by rw[O];rfl) (br hjl) hM;exact⟨(vK.1 e).1,Y⟩
def lA{α:Type}{l:List α}{x y:α}{k:Nat}(h:(l++[x])[k]?=some y):(k<l.length/\l[k]?=some y)\/(k=l.length/\y=x):=by
 rcases cH k l.length with hl|hl
 rw[ei hl] at h;exact ax ⟨hl,h⟩;rw[en hl] at h;cases hj:k-l.length with
 |zero=>rw[hj] at h;simp at h;exact az ⟨aCs,h.symm⟩
 |succ j=>rw[hj] at h;simp at h
def jQ{α:Type}{l:List α}{x y:α}{k id:Nat}(h:(l.set id x)[k]?=some y):(k≠id/\l[k]?=some y)\/(k=id/\id<l.length/\y=x):=by
 by_cases e:k=id;subst e;have hl:k<l.length:=by
  have:=(bF.1 h).1;simpa using this
 rw[aO hl] at h;exact az ⟨rfl,hl,by simpa using h.symm⟩;rw[av (dj e)] at h;exact ax ⟨e,h⟩
def bu.Tu(h:bu G base w0 C M J w)(cells:Array Value)(e:TypeId)(vs:List Value)(hv:∀(i:Nat) v,vs[i]?=some v->cells[i]?=some v)
  (n s cap:Nat) (hs:vs.length<=cap) (hcap:cap<=cells.size):
  let aC:=C.add w.heap.size 0 vs
  let M':=M++[{b:=w.heap.size,fin:=vs.length,cap:=cap}]
  let hp':=J++[.tok n s e]
  bZ C M J aC M' hp'/\bu G base w0 aC M' hp' (w.alloc (.cells cells e)):=by
 intro aC M' hp';obtain⟨Ao,Y⟩:=h.Q3 cells e vs hv;have jK:bZ aC M J aC M' hp':=bZ.push _ _ h.dH;have tE:=fy h.k_.le h.below.size;refine⟨Ao.trans jK,Y.below,h.k_,Y.old,Y.oB,by simp[M',hp',h.dH],Y.lf,?_,?_,?_,Y.CZ jK (λk o ho S=>TC h.dH rfl ho S) λb o O _=>O⟩;intro k Z fz L S hM
 rcases lA S with⟨hl,S⟩|⟨_,S⟩
 rcases lA hM with⟨_,hM⟩|⟨hl',_⟩
 obtain⟨a1,a2,a3,a4⟩:=Y.cells k Z fz L S hM;refine⟨a1,a2,λi c T=>?_,a4⟩;obtain⟨c',b1,b2⟩:=a3 i c T;exact⟨c',b1,b2.mono jK⟩;rw[h.dH] at hl';omega;cases S;intro k n₁ s₁ ty L S hM
 rcases lA S with⟨hl,S⟩|⟨hl,S⟩
 rcases lA hM with⟨_,hM⟩|⟨hl',_⟩
 exact Y.toks k n₁ s₁ ty L S hM;rw[h.dH] at hl';omega;cases S
 rcases lA hM with⟨hl',_⟩|⟨_,rfl⟩
 rw[h.dH] at hl';omega;refine⟨tE,aCt,hs,λo ho=>?_,λo ho ho'=>?_,iW.new⟩;show C.add w.heap.size 0 vs w.heap.size o=none;rw[Cells.rY _ _ _ _ (by simp at ho⊢;omega)];exact h.fresh o;refine⟨?_,V5 _ _ _ _⟩;rw[DD];simp at ho';exact⟨cells[o],sM aCs⟩;intro k k' L L' hne hM cP
 rcases lA hM with⟨_,hM⟩|⟨e1,rfl⟩<;>rcases lA cP with⟨_,cP⟩|⟨e2,rfl⟩
 exact h.apart k k' L L' hne hM cP;have:=(h.at hM).1;show L.b≠w.heap.size;omega;have:=(h.at cP).1;show w.heap.size≠L'.b;omega;omega
def bZ.aho{aC:Cells}{id n n' s:Nat}{ty:TypeId}{L':Loc}(hC:∀b o v,C b o=some v->aC b o=some v)(hid:J[id]?=some (.tok n s ty))(hn:n<n')(hl:M.length=J.length):
  bZ C M J aC (M.set id L') (J.set id (.tok n' s ty)):=by
 have hlt:=(bF.1 hid).1;refine⟨hC,λk Z fz S=>?_,λk n₁ s₁ ty₁ S=>?_,λk o ho S=>?_⟩;have hne:id≠k:=by intro e;subst e;rw[hid] at S;cases S
 exact⟨Z,by rw[av hne];exact S,λ_=>bg _,λ_=>by rw[av hne],λq=>by rw[av hne];exact q⟩;by_cases e:id=k;subst e;rw[hid] at S;cases S;exact⟨n',by rw[aO hlt],aCs,λq=>aCs,λ_=>by rw[aO aCs];rfl⟩;exact⟨n₁,by rw[av e];exact S,bg _,λ_=>by rw[av e],λq=>by rw[av e];exact q⟩;have hne:id≠k:=by intro e;subst e;rw[hid] at S;cases S;cases ho
 exact⟨⟨o,by rw[av hne];exact S,.refl o⟩,by rw[av hne]⟩
def bu.auV(h:bu G base w0 C M J w)(cells:Array Value)(e:TypeId)(vs:List Value)(hv:∀(i:Nat) v,vs[i]?=some v->cells[i]?=some v)
  {id n n' s cap:Nat} (hid:J[id]?=some (.tok n s e)) (hn:n<n') (hs:vs.length<=cap) (hcap:cap<=cells.size):
  let aC:=C.add w.heap.size 0 vs
  let M':=M.set id {b:=w.heap.size,fin:=vs.length,cap:=cap}
  let hp':=J.set id (.tok n' s e)
  bZ C M J aC M' hp'/\bu G base w0 aC M' hp' (w.alloc (.cells cells e)):=by
 intro aC M' hp';obtain⟨Ao,Y⟩:=h.Q3 cells e vs hv;have jK:bZ aC M J aC M' hp':=bZ.aho (λ_ _ _ h=>h) hid hn h.dH;have tE:=fy h.k_.le h.below.size;have hlt:=(bF.1 hid).1;refine⟨Ao.trans jK,Y.below,h.k_,Y.old,Y.oB,by simp[M',hp',h.dH],Y.lf,?_,?_,?_,Y.CZ jK (λk o ho S=>⟨(E9 rfl ho S).2,av (dj (E9 rfl ho S).1)⟩) λb o O _=>O⟩;intro k Z fz L S hM
 rcases jQ S with⟨hne,S⟩|⟨_,_,S⟩
 rcases jQ hM with⟨_,hM⟩|⟨e,_⟩
 obtain⟨a1,a2,a3,a4⟩:=Y.cells k Z fz L S hM;refine⟨a1,a2,λi c T=>?_,a4⟩;obtain⟨c',b1,b2⟩:=a3 i c T;exact⟨c',b1,b2.mono jK⟩;omega;cases S;intro k n₁ s₁ ty L S hM
 rcases jQ S with⟨hne,S⟩|⟨rfl,_,S⟩
 rcases jQ hM with⟨_,hM⟩|⟨e,_⟩
 exact Y.toks k n₁ s₁ ty L S hM;omega;cases S
 rcases jQ hM with⟨hne,_⟩|⟨_,_,rfl⟩
 omega;refine⟨tE,aCt,hs,λo ho=>?_,λo ho ho'=>?_,iW.new⟩;show C.add w.heap.size 0 vs w.heap.size o=none;rw[Cells.rY _ _ _ _ (by simp at ho⊢;omega)];exact h.fresh o;refine⟨?_,V5 _ _ _ _⟩;rw[DD];simp at ho';exact⟨cells[o],sM aCs⟩;intro k k' L L' hne hM cP
 rcases jQ hM with⟨_,hM⟩|⟨e1,_,rfl⟩<;>rcases jQ cP with⟨_,cP⟩|⟨e2,_,rfl⟩
 exact h.apart k k' L L' hne hM cP;have:=(h.at hM).1;show L.b≠w.heap.size;omega;have:=(h.at cP).1;show w.heap.size≠L'.b;omega;omega
def Cn(b:Nat):∀(vs:List Value) (o:Nat) (w:World) (k:Nat),k≠b->(w.setCells b o vs).heap[k]?=w.heap[k]?
 |[],_,_,_,_=>rfl
 |v::r,o,_,k,h=>by rw[J2,Cn b r (o+1) _ k h];exact ajg _ _ _ _ h
def Di(b:Nat):∀(vs:List Value) (o:Nat) (w:World),(w.setCells b o vs).heap.size=w.heap.size
 |[],_,_=>rfl
 |v::r,o,_=>by rw[J2,Di b r (o+1)];simp
def PW{a:World}(b:Nat)(O:B<=b):∀(vs:List Value) (o:Nat) (w:World),Below B a w->Below B a (w.setCells b o vs)
 |[],_,_,h=>h
 |v::r,o,_,h=>PW b O r (o+1) _ (h.setCell O v)
def lN.setCells{e:TypeId×Nat}(b':Nat):∀(vs:List Value) (o:Nat) (w:World),lN w b e->lN (w.setCells b' o vs) b e
 |[],_,w,h=>h
 |v::r,o,w,h=>by rw[J2];exact lN.setCells b' r (o+1) _ (h.set _ _)
def iW.setCells(hf:fin<=fin')(b':Nat):∀(vs:List Value) (o:Nat) (w:World),iW w b fin e->iW (w.setCells b' o vs) b fin' e
 |[],_,_,h=>h.up hf
 |v::r,o,w,h=>by rw[J2];exact iW.setCells hf b' r (o+1) _ (h.set (bg _) _ _)
def bu.an7(h:bu G base w0 C M J w)(vs:List Value){s:Nat}(hid:J[id]?=some (.tok n s ty))(hM:M[id]?=some L)(hn:n<n')(hfit:L.fin+vs.length<=L.cap):
  let aC:=C.add L.b L.fin vs
  let M':=M.set id {L with fin:=L.fin+vs.length}
  let hp':=J.set id (.tok n' s ty)
  bZ C M J aC M' hp'/\bu G base w0 aC M' hp' (w.setCells L.b L.fin vs):=by
 intro aC M' hp';obtain⟨t1,t2,t3,t4,t5,t6⟩:=h.toks id n s ty L hid hM;have aaB:=λb o v T=>by
  show C.add L.b L.fin vs b o=some v;rw[Cells.rY];exact T;rintro⟨rfl,q1,ah⟩;rw[t4 o q1] at T;cases T
 have hle:bZ C M J aC M' hp':=bZ.aho aaB hid hn h.dH;have hlt:=(bF.1 hid).1;have hout:∀b o,¬(b=L.b/\L.fin<=o/\o<L.fin+vs.length)->(w.setCells L.b L.fin vs).cell? ⟨b,o,none⟩=w.cell? ⟨b,o,none⟩:=λb o hno=>
  aAt L.b vs L.fin w ⟨b,o,none⟩ (λe _=>by simp at e⊢;omega)
 refine⟨hle,PW L.b t1 vs L.fin w h.below,h.k_,λb o v T O=>h.old b o v (by have gx:C.add L.b L.fin vs b o=some v:=T;rwa [Cells.rY _ _ _ _ (λq=>aCs)] at gx) O,λb o v hg=>aaB _ _ _ (h.oB b o v hg),by simp[M',hp',h.dH],?_,?_,?_,?_,λk o L₁ ho S fU=>?_⟩;intro b o v T;by_cases O:b=L.b/\L.fin<=o/\o<L.fin+vs.length;obtain⟨rfl,q1,ah⟩:=O;obtain⟨j,rfl⟩:∃j,o=L.fin+j:=⟨o-L.fin,aCs⟩;have hj:j<vs.length:=aCs
 have e:=Cells.BM C L.b L.fin vs j hj;have gx:C.add L.b L.fin vs L.b (L.fin+j)=some v:=T;rw[e,br hj] at gx;rw[aAs L.b vs L.fin w (λi Q=>by
  obtain⟨⟨x,I⟩,_⟩:=t5 (L.fin+i) aCs aCs;rw[I];rfl) j hj]
 exact gx;have gx:C.add L.b L.fin vs b o=some v:=T;rw[Cells.rY _ _ _ _ O] at gx;rw[hout b o O];exact h.lf b o v gx;intro k Z fz L₁ S fU
 rcases jQ S with⟨hne,S⟩|⟨_,_,S⟩
 rcases jQ fU with⟨_,fU⟩|⟨e,_⟩
 obtain⟨a1,a2,a3,a4⟩:=h.cells k Z fz L₁ S fU;have O:=h.apart k id L₁ L hne fU hM;obtain⟨q1,ah,aP⟩:=a4;refine⟨a1,aEQ,λi c T=>?_,λi=>by rw[J0];exact q1 i,λo=>?_,λo ho=>aEh,aP.2.same (Cn _ _ _ _ _ O)⟩;obtain⟨c',b1,b2⟩:=a3 i c T;exact⟨c',by rw[hout _ _ (λq=>O q.1)];exact b1,b2.mono hle⟩;show C.add L.b L.fin vs L₁.b o=none;rw[Cells.rY _ _ _ _ (λq=>O q.1)];exact ah o;omega;cases S;intro k n₁ s₁ ty L₁ S fU
 rcases jQ S with⟨hne,S⟩|⟨rfl,_,S⟩
 rcases jQ fU with⟨_,fU⟩|⟨e,_⟩
 obtain⟨a1,a2,a3,a4,a5,a6⟩:=h.toks k n₁ s₁ ty L₁ S fU;have O:=h.apart k id L₁ L hne fU hM;refine⟨a1,aEQ,a3,λo ho=>?_,λo ho ho'=>?_,a6.same (Cn _ _ _ _ _ O)⟩;show C.add L.b L.fin vs L₁.b o=none;rw[Cells.rY _ _ _ _ (λq=>O q.1)];exact a4 o ho;rw[hout _ _ (λq=>O q.1),J0];exact a5 o ho ho';omega;cases S
 rcases jQ fU with⟨hne,_⟩|⟨_,_,rfl⟩
 omega;refine⟨t1,by rw[Di];exact t2,hfit,λo ho=>?_,λo ho ho'=>?_,iW.setCells (Nat.le_add_right _ _) _ _ _ _ t6⟩;show C.add L.b L.fin vs L.b o=none;simp at ho;rw[Cells.rY _ _ _ _ aCs];exact t4 o aCs;simp at ho ho';rw[J0];show(∃v,(w.setCells L.b L.fin vs).cell? ⟨L.b,o,none⟩=some v)/\_;rw[hout L.b o aCs];exact t5 o aCs ho';intro k k' L₁ L₂ hne fU aot
 rcases jQ fU with⟨_,q1⟩|⟨e1,_,rfl⟩<;>rcases jQ aot with⟨_,ah⟩|⟨e2,_,rfl⟩
 exact h.apart k k' L₁ L₂ hne q1 ah;exact h.apart k id L₁ L aCs q1 hM;exact h.apart id k' L L₂ aCs hM ah;omega;obtain⟨hne,hk'⟩:=E9 rfl ho S;have cP:M[k]?=some L₁:=by have q:(M.set id {L with fin:=L.fin+vs.length})[k]?=some L₁:=fU;rwa [av (dj hne)] at q
 obtain⟨a1,x,a2,a3,a4⟩:=h.eM k o L₁ ho hk' cP;exact⟨a1,x,by rw[Cn _ _ _ _ _ (h.apart k id L₁ L hne cP hM)];exact a2,a3,a4.mono hle⟩
def putAt(Z:List U)(off:Nat)(vs:List U):List U:=Z.take off++vs++Z.drop (off+vs.length)
def Ub{vs:List U}(h:off+vs.length<=Z.length)(i:Nat):
  (putAt Z off vs)[i]?=if i<off then Z[i]? else if i<off+vs.length then vs[i-off]? else Z[i]? :=by
 unfold putAt;have Y:(Z.take off).length=off:=aCv
 by_cases c1:i<off;rw[if_pos c1,cj,ei aCs,xX c1];rw[if_neg c1,cj,en aCs,Y];by_cases c2:i<off+vs.length;rw[if_pos c2,ei aCs];rw[if_neg c2,en aCs,oW];congr 1;omega
def Uc{vs:List U}(h:off+vs.length<=Z.length):(putAt Z off vs).length=Z.length:=by
 unfold putAt;simp;omega
def bZ.setCells{cs':List U}(hC:∀b o v,C b o=some v->aC b o=some v)(S:J[k]?=some (.cells Z row))(hl:cs'.length=Z.length):
  bZ C M J aC M (J.set k (.cells cs' row)):=by
 have hlt:=(bF.1 S).1;refine⟨hC,λj cs₁ Q8 hj=>?_,λj n₁ s₁ ty₁ hj=>?_,λj o ho hj=>?_⟩;by_cases e:k=j;subst e;rw[S] at hj;cases hj;exact⟨cs',aO hlt,λ_=>aCs,λ_=>rfl,λh=>h⟩;exact⟨cs₁,aDd,λ_=>bg _,λ_=>rfl,λh=>h⟩;have e:k≠j:=aEH
 exact⟨n₁,aDd,bg _,λ_=>rfl,λh=>h⟩;have e:k≠j:=aDW
 exact⟨⟨o,aDd,.refl o⟩,rfl⟩
def bZ.aas{cs':List U}(hC:∀b o v,C b o=some v->aC b o=some v)(S:J[k]?=some (.cells Z true))(hl:M.length=J.length)(hg:Z.length<cs'.length\/(cs'.length=Z.length/\M[k]?=some L')):
  bZ C M J aC (M.set k L') (J.set k (.cells cs' true)):=by
 have hlt:=(bF.1 S).1;refine⟨hC,λj cs₁ Q8 hj=>?_,λj n₁ s₁ ty₁ hj=>?_,λj o ho hj=>?_⟩;by_cases e:k=j;subst e;rw[S] at hj;cases hj;refine⟨cs',aO hlt,λ_=>aCs,λq=>?_,λh=>by rw[aO aCs];rfl⟩;have:=q rfl
 rcases hg with hg|⟨_,hg⟩
 omega;rw[aO aCs,hg];exact⟨cs₁,aDd,λ_=>bg _,λ_=>by rw[av e],λh=>aEN⟩;have e:k≠j:=aEH
 exact⟨n₁,aDd,bg _,λ_=>by rw[av e],λh=>aEN⟩;have e:k≠j:=aDW
 exact⟨⟨o,aDd,.refl o⟩,by rw[av e]⟩
def bu.ah1(h:bu G base w0 C M J w){cs':List U}(S:J[k]?=some (.cells Z row))(hM:M[k]?=some L)
  (off:Nat) (us:List U) (vs:List Value) (D:bY C M J us vs) (hle:bZ C M J C M (J.set k (.cells cs' row))) (hfit:off+us.length<=Z.length\/off+us.length<=L.cap)
  (L8:∀(i:Nat),cs'[i]?=if i<off then Z[i]? else if i<off+us.length then us[i-off]? else Z[i]?):
  bu G base w0 C M (J.set k (.cells cs' row)) (w.setCells L.b off vs):=by
 obtain⟨t1,t2,t3,Vb,Bd,rH,ait⟩:=h.cells k Z row L S hM;have hlen:=D.1;have hout:∀b o,¬(b=L.b/\off<=o/\o<off+vs.length)->(w.setCells L.b off vs).cell? ⟨b,o,none⟩=w.cell? ⟨b,o,none⟩:=λb o hno=>
  aAt L.b vs off w ⟨b,o,none⟩ (λe _=>by simp at e⊢;omega)
 have hin:=aAs L.b vs off w (λq hq=>by
  rcases hfit with hfit|hfit
  obtain⟨c',b1,_⟩:=t3 (off+q) _ (br aCs);rw[b1];rfl;obtain⟨c',b1⟩:=rH (off+q) aCs;rw[b1];rfl)
 refine⟨PW L.b t1 vs off w h.below,h.k_,h.old,h.oB,aFf,?_,?_,?_,h.apart,λj o L₁ ho hj fU=>?_⟩;intro b o v T;rw[hout b o (by rintro⟨rfl,_⟩;rw[Bd o] at T;cases T)];exact h.lf b o v T;intro j cs₁ Q8 L₁ hj fU
 rcases jQ hj with⟨hne,hj⟩|⟨rfl,_,hj⟩
 obtain⟨a1,a2,a3,q1,ah,aP⟩:=h.cells j cs₁ Q8 L₁ hj fU;have O:=h.apart j k L₁ L hne fU hM;refine⟨a1,aEQ,λi c T=>?_,λi=>by rw[J0];exact q1 i,ah,λo ho=>aEh,aP.2.same (Cn _ _ _ _ _ O)⟩;obtain⟨c',b1,b2⟩:=a3 i c T;exact⟨c',by rw[hout _ _ (λq=>O q.1)];exact b1,b2.mono hle⟩;cases hj;rw[hM] at fU;cases fU;refine⟨t1,by rw[Di];exact t2,λi c T=>?_,λi=>by rw[J0];exact Vb i,Bd,λo ho=>?_,ait.setCells _ _ _ _⟩;rw[L8] at T;by_cases c1:i<off;rw[if_pos c1] at T;obtain⟨c',b1,b2⟩:=t3 i c T;exact⟨c',by rw[hout _ _ aCs];exact b1,b2.mono hle⟩;rw[if_neg c1] at T;by_cases c2:i<off+us.length;rw[if_pos c2] at T;obtain⟨c',b1,b2⟩:=D.get T;have hj:i-off<vs.length:=aCs
 have:=hin (i-off) hj;rw[show off+(i-off)=i by omega] at this;refine⟨c',?_,b2.mono hle⟩;rw[this,<-b1,br hj];rw[if_neg c2] at T;obtain⟨c',b1,b2⟩:=t3 i c T;exact⟨c',by rw[hout _ _ aCs];exact b1,b2.mono hle⟩;by_cases c1:off<=o/\o<off+vs.length;have:=hin (o-off) aCs;rw[show off+(o-off)=o by omega] at this;have hq:o-off<vs.length:=aCs
 exact⟨vs[o-off],this⟩;rw[hout _ _ aCs];exact rH o ho;intro j n₁ s₁ ty L₁ hj fU
 rcases jQ hj with⟨hne,hj⟩|⟨_,_,hj⟩
 obtain⟨a1,a2,a3,a4,a5,a6⟩:=h.toks j n₁ s₁ ty L₁ hj fU;have O:=h.apart j k L₁ L hne fU hM;refine⟨a1,aEQ,a3,a4,λo ho ho'=>?_,a6.same (Cn _ _ _ _ _ O)⟩;rw[hout _ _ (λq=>O q.1),J0];exact a5 o ho ho';cases hj;obtain⟨hne,hj'⟩:=E9 rfl ho hj;obtain⟨a1,x,a2,a3,a4⟩:=h.eM j o L₁ ho hj' fU;exact⟨a1,x,by rw[Cn _ _ _ _ _ (h.apart j k L₁ L hne fU hM)];exact a2,a3,a4.mono hle⟩
def bu.store(h:bu G base w0 C M J w)(S:J[k]?=some (.cells Z row))(hM:M[k]?=some L)
  (off:Nat) (us:List U) (vs:List Value) (D:bY C M J us vs) (hfit:off+us.length<=Z.length):
  bZ C M J C M (J.set k (.cells (putAt Z off us) row))/\bu G base w0 C M (J.set k (.cells (putAt Z off us) row)) (w.setCells L.b off vs):=by
 have hle:bZ C M J C M (J.set k (.cells (putAt Z off us) row)):=bZ.setCells (λ_ _ _ h=>h) S (Uc hfit);exact⟨hle,h.ah1 S hM off us vs D hle (ax hfit) λi=>Ub hfit i⟩
def axO(h:w.cell? ⟨b,o,none⟩=some v):w.setCell ⟨b,o,none⟩ v=w:=by
 have key:w.heap.modify b (λ
   |.cells c elem frozen=>.cells (if(none:Option Nat).isSome then c else c.setIfInBounds o v) elem frozen
   |o=>o)=w.heap:=by
  apply aAl;intro i;rw[Bm];split;rename_i e;subst e;cases I:w.heap[b]? with
  |none=>rfl
  |some x=>
   cases x with
   |cells c ty fr=>
    have T:c[o]?=some v:=by simpa[DC,I] using h
    simp only[ir,x4,je,if_false];congr 2;apply aAl;intro j;rw[Array.getElem?_setIfInBounds];split;rename_i e;subst e;split;exact T.symm;rename_i hn;rw[aiW aCs] at T;cases T;rfl
   |_=>rfl
  rfl
 show({w with heap:=_}:World)=w
 exact congrArg (λq=>({w with heap:=q}:World)) key
def bu.ay0(h:bu G base w0 C M J w){z:List U}(S:J[k]?=some (.cells (.v (.pointer none)::z) false))(hM:M[k]?=some L):
  bZ C M J C M (J.set k (.cells (.fM k L.ty::z) false))/\bu G base w0 C M (J.set k (.cells (.fM k L.ty::z) false)) w:=by
 obtain⟨hle,hs⟩:=h.store S hM 0 [.fM k L.ty] [.pointer none] ⟨rfl,λi a b ha O=>by
  cases i with
  |zero=>simp at ha O;subst ha;subst O;exact .fM S hM
  |succ i=>simp at ha⟩ aCt
 obtain⟨_,_,h3,_⟩:=h.cells k _ _ L S hM;obtain⟨c',h4,h5⟩:=h3 0 (.v (.pointer none)) rfl;cases h5;have e:w.setCells L.b 0 [.pointer none]=w:=by
  rw[J2,J2];exact axO h4
 rw[e] at hs;exact⟨hle,hs⟩
def RN(w:World)(a:Addr)(n k:Nat)(S:k≠a.block):(w.freeze a n).heap[k]?=w.heap[k]? :=by
 unfold ON;split;rfl;show(w.heap.modify a.block _)[k]?=_;rw[Bm,if_neg (dj S)]
def aaW(w:World)(a:Addr)(n k:Nat)(o:Obj)(h:w.heap[k]?=some o)(ho:qP o):(w.freeze a n).heap[k]?=some o:=by
 unfold ON;split;exact h;show(w.heap.modify a.block _)[k]?=_;rw[Bm];split;rw[h];cases o with
 |cells c t f=>exact(ho c t f rfl).elim
 |_=>rfl
 exact h
def UN(w:World)(a:Addr)(n:Nat):(w.freeze a n).heap.size=w.heap.size:=by
 unfold ON;split;rfl;show(w.heap.modify a.block _).size=_;simp
def ang{lo Q:Nat}{Z:Array Value}(a:Addr)(n:Nat)(h:w.heap[k]?=some (.cells Z e (lo,Q))):∃fr,(w.freeze a n).heap[k]?=some (.cells Z e fr):=by
 by_cases O:k=a.block;unfold ON;split;exact⟨_,h⟩;refine⟨if lo==Q then(a.off,a.off+n) else(min lo a.off,max Q (a.off+n)),?_⟩;show(w.heap.modify a.block _)[k]?=_;rw[Bm,if_pos O.symm,h];rfl;exact⟨_,by rw[RN _ _ _ _ O];exact h⟩
def KS(w:World)(a c:Addr)(n:Nat):(w.freeze a n).cell? c=w.cell? c:=by
 unfold DC;cases I:w.heap[c.block]? with
 |none=>rw[aiW (by rw[UN];exact Array.getElem?_eq_none_iff.1 I)]
 |some x=>
  cases x with
  |cells Z e fr=>
   obtain⟨lo,Q⟩:=fr;obtain⟨fr',q⟩:=ang a n I;rw[q]
  |_=>rw[aaW _ _ _ _ _ I (λc t f q=>aCE)]
def bu.anf(h:bu G base w0 C M J w){c s:Nat}(hid:J[id]?=some (.tok c s ty))(hM:M[id]?=some L)(ha:L.b=a.block)(hfit:a.off+n<=L.fin):
  bu G base w0 C M J (w.freeze a n):=by
 obtain⟨t1,t2,_⟩:=h.toks id c s ty L hid hM;refine⟨Lib.below_freeze h.below aCs n,h.k_,h.old,h.oB,h.dH,λb o v T=>by rw[KS];exact h.lf b o v T,?_,?_,h.apart,?_⟩;intro k Z fz L' S cP;obtain⟨Y,V,h3,h4,h5,h6,h7⟩:=h.cells k Z fz L' S cP;have hne:k≠id:=by intro q;subst q;rw[hid] at S;cases S
 have O:L'.b≠a.block:=by rw[<-ha];exact h.apart k id L' L hne cP hM
 refine⟨Y,by rw[UN];exact V,λi x I=>?_,λi=>?_,h5,λo ho=>?_,h7.same (RN _ _ _ _ O)⟩;obtain⟨c',a1,a2⟩:=h3 i x I;exact⟨c',by rw[KS];exact a1,a2⟩;have:=h4 i;unfold V4 at this⊢;rw[RN _ _ _ _ O];exact this;obtain⟨v,hv⟩:=h6 o ho;exact⟨v,by rw[KS];exact hv⟩;intro k n' s' ty' L' S cP;obtain⟨Y,V,h3,h4,h5,h6⟩:=h.toks k n' s' ty' L' S cP;have hT:=h6.freeze a n λO=>by
  by_cases hne:k=id;subst hne;rw[hM] at cP;cases cP;exact hfit;exact(h.apart k id L' L hne cP hM (by rw[O,ha])).elim
 refine⟨Y,by rw[UN];exact V,h3,h4,λo ho ho'=>⟨?_,hT.free o ho⟩,hT⟩;obtain⟨⟨v,hv⟩,_⟩:=h5 o ho ho';exact⟨v,by rw[KS];exact hv⟩;intro k b L' O S cP;obtain⟨Y,o,V,h3,h4⟩:=h.eM k b L' O S cP;exact⟨Y,o,aaW _ _ _ _ _ V h3,h3,h4⟩
def bu.auU(h:bu G base w0 C M J w)(cells:Array Value)(e:TypeId)(cs':List U)(vs:List Value)(D:bY C M J cs' vs)(hv:∀(i:Nat) v,vs[i]?=some v->cells[i]?=some v)(hcap:cap<=cells.size)(S:J[k]?=some (.cells Z true))(hlt:Z.length<cs'.length):
  bZ C M J C (M.set k {b:=w.heap.size,cap:=cap,ty:=(e,cells.size)}) (J.set k (.cells cs' true))/\bu G base w0 C (M.set k {b:=w.heap.size,cap:=cap,ty:=(e,cells.size)}) (J.set k (.cells cs' true)) (w.alloc (.cells cells e)):=by
 have hle:bZ C M J C (M.set k {b:=w.heap.size,cap:=cap,ty:=(e,cells.size)}) (J.set k (.cells cs' true)):=bZ.aas (λ_ _ _ h=>h) S h.dH (ax hlt);have tE:=fy h.k_.le h.below.size;have cV:=(bF.1 S).1;refine⟨hle,h.below.alloc tE _,h.k_,h.old,h.oB,aFf,?_,?_,?_,?_,h.CZ hle (λj o ho hj=>⟨(E9 rfl ho hj).2,av (dj (E9 rfl ho hj).1)⟩) λb o O _=>L_ _ _ _ _ O⟩;intro b o v T;have hw:=h.lf b o v T;rw[qI _ _ _ (OM _ _ hw)];exact hw;intro j cs₁ fz L hj hM
 rcases jQ hj with⟨hne,hj⟩|⟨rfl,_,hj⟩
 rcases jQ hM with⟨_,hM⟩|⟨e,_⟩
 obtain⟨Y,V,h3,q1,ah,aP⟩:=h.cells j cs₁ fz L hj hM;refine⟨Y,aCv,λi c T=>?_,λi=>by rw[DE _ _ _ aC5];exact q1 i,ah,λo ho=>by rw[qI _ _ _ aDt];exact aP.1 o ho,aP.2.alloc V _⟩;obtain⟨c',a1,a2⟩:=h3 i c T;exact⟨c',by rw[qI _ _ _ aDt];exact a1,a2.mono hle⟩;omega;cases hj
 rcases jQ hM with⟨hne,_⟩|⟨_,_,rfl⟩
 omega;refine⟨tE,aCt,λi c T=>?_,λi=>V5 _ _ _ _,λo=>h.fresh o,λo ho=>?_,lN.new⟩;obtain⟨c',a1,a2⟩:=D.get T;exact⟨c',by rw[DD];exact hv _ _ a1,a2.mono hle⟩;rw[DD];have ho:o<cap:=ho;exact⟨cells[o],sM aCs⟩;intro j n s ty L hj hM
 rcases jQ hj with⟨hne,hj⟩|⟨_,_,hj⟩
 rcases jQ hM with⟨_,hM⟩|⟨e,_⟩
 obtain⟨Y,V,h3,h4,h5,h6⟩:=h.toks j n s ty L hj hM;refine⟨Y,aCv,h3,h4,λo ho ho'=>?_,h6.alloc V _⟩;obtain⟨a1,a2⟩:=h5 o ho ho';exact⟨by rw[qI _ _ _ aDt];exact a1,by rw[DE _ _ _ aC5];exact a2⟩;omega;cases hj;intro j j' L L' hne hM cP
 rcases jQ hM with⟨_,hM⟩|⟨e1,_,rfl⟩<;>rcases jQ cP with⟨_,cP⟩|⟨e2,_,rfl⟩
 exact h.apart j j' L L' hne hM cP;have:=(h.at hM).1;show L.b≠w.heap.size;omega;have:=(h.at cP).1;show w.heap.size≠L'.b;omega;omega
inductive bJ where
 |t (n:Nat)
 |c (a:U)
def gM:U:=.aK []
def ev(ts:List U):bJ->U
 |.t n=>(ts[n]?).getD gM
 |.c a=>a
def Jx:Value->Option U
 |.slice none 0 0=>some .af
 |.func f fs Z=>if fs.size=0/\Z.size=0 then some (.fn f [] []) else none
 |x=>if plain x then some (.v x) else none
def cK:Operand->Option bJ
 |.tmp t=>some (.t t)
 |.const v=>(Jx v).map .c
 |.func f=>some (.c (.fn (.func f) [] []))
 |.global _=>none
def y5:List Value->Option (List U)
 |[]=>some []
 |x::r=>match Jx x,y5 r with
  |some a,some l=>some (a::l)
  |_,_=>none
def qE:List Operand->Option (List bJ)
 |[]=>some []
 |x::r=>match cK x,qE r with
  |some a,some l=>some (a::l)
  |_,_=>none
def k7(C:Cells)(M:List Loc)(J:List aa)(ts:List U)(tmps:Array Value):Prop:=bY C M J ts tmps.toList
section
variable{G:Cells}{base:Nat}{w0:jh}{w:World}{C:Cells}{M:List Loc}{J:List aa}{P:Program}
def Da:aI C M J gM undef:=.aK rfl (λi a b h=>aCC)
def Ut{x:Value}{a:U}(h:Jx x=some a):aI C M J a x:=by
 unfold Jx at h;split at h;cases h;exact .af;split at h;rename_i hq;cases h;exact .fn (by simp[hq.1]) (by simp[hq.2]) (λi a b h=>aCC) (λi a b h=>aCC);cases h;split at h;rename_i hp';cases h;exact .v hp';cases h
def yX:∀{xs:List Value} {l:List U},y5 xs=some l->bY C M J l xs
 |[],l,h=>by cases h;exact⟨rfl,λi a b h=>aCC⟩
 |x::r,l,h=>by
  simp only[y5] at h;split at h;rename_i a l' Y V;cases h;have ih:=yX V;refine⟨by simp[ih.1],λi a' b' e1 e2=>?_⟩;cases i with
  |zero=>simp at e1 e2;subst e1;subst e2;exact Ut Y
  |succ i=>simp at e1 e2;exact ih.2 i a' b' e1 e2
  cases h
def Q2{tmps:Array Value}(h:k7 C M J ts tmps)(n:Nat):aI C M J ((ts[n]?).getD gM) (tmps.getD n undef):=by
 rcases cH n ts.length with hl|hl
 have hl':n<tmps.size:=by have:=h.1;simp at this;omega
 have:=h.2 n ts[n] tmps[n] (br hl) (by simp[hl']);simpa[br hl,Array.getD,hl'] using this;have hl':tmps.size<=n:=by have:=h.1;simp at this;omega
 have e:tmps.getD n undef=undef:=by simp[Array.getD,Nat.not_lt.2 hl']
 rw[h_ hl,e];exact Da
def dn{a:Act}(h:k7 C M J ts a.tmps){x:Operand}{o:bJ}(I:cK x=some o):aI C M J (ev ts o) (a.eval x):=by
 cases x with
 |tmp t=>cases I;exact Q2 h t
 |const v=>
  simp only[cK,cg] at I;obtain⟨aF,Y,rfl⟩:=I;exact Ut Y
 |global g=>cases I
 |func f=>cases I;exact .fn rfl rfl (λi a b h=>aCC) (λi a b h=>aCC)
def Z5{a:Act}(h:k7 C M J ts a.tmps)(D:aI C M J x y)(d:Nat):
  k7 C M J (ts.set d x) (a.put (some d) y).tmps:=by
 have hlen:ts.length=a.tmps.size:=aEc
 refine⟨by simp[Act.put,hlen],λi u v hu hv=>?_⟩;simp only[Act.put,Array.toList_setIfInBounds] at hv
 rcases jQ hu with⟨hne,hu⟩|⟨rfl,hl,rfl⟩
 rw[av (dj hne)] at hv;exact h.2 i u v hu hv;rw[aO (by simpa[hlen] using hl)] at hv;simp at hv;subst hv;exact D
def e7(G:Cells)(base:Nat)(w0:jh)(C:Cells)(M:List Loc)(J:List aa)(P:Program)(m:Sem Value)(w:World)(r:U)(hp':List aa):Prop:=
 ∃aC M' v' w',m.run P w=.ok v' w'/\bZ C M J aC M' hp'/\bu G base w0 aC M' hp' w'/\aI aC M' hp' r v'
def e7.same{m:Sem Value}(h:bu G base w0 C M J w)(D:m.run P w=.ok v w)(hv:aI C M J r v):e7 G base w0 C M J P m w r J:=
 ⟨C,M,v,w,D,bZ.refl _ _ _,h,hv⟩
def iP(P:Program)(t:TypeId):Option Bool:=
 match P.underlying t with
 |some (.struct _)|some (.array _ _)=>some true
 |some _=>some false
 |none=>none
def gV(P:Program)(t:TypeId):Option Nat:=(P.info? t).map (·.size)
def UB{b:Bool}(h:iP P t=some b)(w:World):(isAgg t).run P w=.ok b w:=by
 unfold iP at h;cases hd:P.underlying t with
 |none=>simp[hd] at h
 |some d=>
  rw[hd] at h;unfold isAgg;simp only[eG,run_underlying hd,eO];cases d<;>simp at h<;>subst h<;>rfl
def nI(h:gV P t=some n)(w:World):(sizeOf t).run P w=.ok n w:=by
 unfold gV at h;simp only[cg] at h;obtain⟨i,Q,rfl⟩:=h;simp[sizeOf,typeInfo,Q]
def dI(aG:Bool)(n:Nat)(Z:List U)(off:Nat):Option U:=
 if aG then(if off+n<=Z.length then some (.agg ((Z.drop off).take n)) else none) else Z[off]?
def addr_add(b o n:Nat):(⟨b,o,none⟩:Addr).add n=⟨b,o+n,none⟩:=by unfold Addr.add;split<;>simp_all
def Fw(hag:iP P t=some aG)(hn:gV P t=some n)
  (hsrc:∀(i:Nat) c,Z[i]?=some c->∃c',w.cell? ⟨b,o+i,none⟩=some c'/\aI C M J c c') (D:dI aG n Z off=some r):
  ∃v,(loadVar t ⟨b,o+off,none⟩).run P w=.ok v w/\aI C M J r v:=by
 unfold loadVar;simp only[eG,UB hag,eO];unfold dI at D;cases aG with
 |true=>
  simp only[if_true] at D⊢;split at D;rename_i hfit;cases D;have aaS:∀j,j<n->∃c',w.cell? ⟨b,o+off+j,none⟩=some c'/\∃c,Z[off+j]?=some c/\aI C M J c c':=λj hj=>by
   obtain⟨c',Y,V⟩:=hsrc (off+j) Z[off+j] (br aCs);exact⟨c',by rw[kK];exact Y,_,br aCs,V⟩
  have hl:=run_loadCells (P:=P) w ⟨b,o+off,none⟩ n (λj=>(w.cell? ⟨b,o+off+j,none⟩).getD undef) (λj hj=>by
   obtain⟨c',Y,_⟩:=aaS j hj;rw[addr_add];simp[Y])
  refine⟨.agg ((iD n).map (λj=>(w.cell? ⟨b,o+off+j,none⟩).getD undef)).toArray,?_,?_⟩;simp only[eG,nI hn,eO,hl,kj];refine .agg aCv (λi a c ha T=>?_);have Q:i<n:=by
   have:=(bF.1 ha).1;simp at this;omega
  obtain⟨c',Y,c0,V,h3⟩:=aaS i Q;simp only[OQ,oW] at ha;rw[if_pos Q,V] at ha;cases ha;simp[Q,Y] at T;subst T;exact h3;cases D
 |false=>
  simp only[je,if_false] at D⊢;obtain⟨c',Y,V⟩:=hsrc off r D;exact⟨c',aEd,V⟩
def aq(J:List aa)(aG:Bool)(n:Nat):U->Option U
 |.fp Z off=>dI aG n Z off
 |.mp k off=>match J[k]? with
  |some (.cells Z false)=>dI aG n Z off
  |_=>none
 |.rp k m off=>match J[k]? with
  |some (.cells Z true)=>if m=Z.length then dI aG n Z off else none
  |_=>none
 |_=>none
def anO(hag:iP P t=some aG)(hn:gV P t=some n)(h:bu G base w0 C M J w)(I:aI C M J x y)(D:aq J aG n x=some r):e7 G base w0 C M J P (VV t y) w r J:=by
 unfold aq at D;split at D;rename_i Z off;cases I with
 |fp f hC hR=>
  rename_i b o;obtain⟨v,Y,V⟩:=Fw (w:=w) (o:=o) hag hn (λi c T=>⟨f i,h.lf _ _ _ (hC i c T),hR i c T⟩) D;exact .same h (by simp[VV,JU,Y]) V
 rename_i k off;cases I with
 |mp O hM=>
  rename_i L Z;rw[O] at D;simp only at D;obtain⟨t1,t2,t3,t4⟩:=h.cells k Z false L O hM;obtain⟨v,Y,V⟩:=Fw (w:=w) (o:=0) (b:=L.b) hag hn (λi c T=>by
   obtain⟨c',a1,a2⟩:=t3 i c T;exact⟨c',aER,a2⟩) D
  rw[e6] at Y;exact .same h (by simp[VV,JU,Y]) V
 rename_i k m off;cases I with
 |rp O hM hn' ha=>
  rename_i L Z a;rw[O] at D;simp only at D;split at D;rename_i hm;have ha:=ha hm;subst ha;obtain⟨t1,t2,t3,t4⟩:=h.cells k Z true L O hM;obtain⟨v,Y,V⟩:=Fw (w:=w) (o:=0) (b:=L.b) hag hn (λi c T=>by
   obtain⟨c',a1,a2⟩:=t3 i c T;exact⟨c',aER,a2⟩) D
  rw[e6] at Y;exact .same h (by simp[VV,JU,Y]) V;cases D
 cases D
def NI(h:aI C M J x y):bY C M J x.cells y.cells.toList:=by
 have single:∀{x:U} {y:Value},aI C M J x y->bY C M J [x] [y]:=λh=>⟨rfl,λi a b e1 e2=>by
  cases i with
  |zero=>simp at e1 e2;subst e1;subst e2;exact h
  |succ i=>simp at e1⟩
 cases h with
 |agg hl h=>exact⟨by simp[U.cells,uv,hl],λi a b e1 e2=>h i a b (by simpa[U.cells] using e1) aFk⟩
 |v h=>
  have T:y.cells= #[y]:=by cases y<;>first|rfl|simp[plain] at h
  rw[T];exact single (.v h)
 |aK hl h=>exact single (.aK hl h)
 |af=>exact single .af
 |sl f a b c d e g=>exact single (.sl f a b c d e g)
 |fp f a b=>exact single (.fp f a b)
 |mp a b=>exact single (.mp a b)
 |rp a b c d=>exact single (.rp a b c d)
 |rs a b c d e=>exact single (.rs a b c d e)
 |eL a b=>exact single (.eL a b)
 |fn a b c d=>exact single (.fn a b c d)
 |cT a=>exact single (.cT a)
 |dZ a b=>exact single (.dZ a b)
 |gu a b=>exact single (.gu a b)
 |fM a b=>exact single (.fM a b)
def bY.nY(h:bY C M J Z cs')(Y:Z.all U.one=true):∀v∈cs',v.oneCell'=true:=by
 intro v hv;obtain⟨i,Q,rfl⟩:=DF hv;have hl:i<Z.length:=by rw[h.1];exact Q
 exact(h.2 i Z[i] cs'[i] (br hl) (br Q)).one (c7.1 Y _ (We hl))
def dG(J:List aa)(k:Nat)(row:Bool)(Z:List U)(n off:Nat)(x:U):Option (List aa):=
 if x.cells.length=n/\off+n<=Z.length/\x.cells.all U.one=true then some (J.set k (.cells (putAt Z off x.cells) row)) else none
def aE(J:List aa)(n:Nat)(p x:U):Option (List aa):=
 match p with
 |.mp k off=>match J[k]? with
  |some (.cells Z false)=>dG J k false Z n off x
  |_=>none
 |.rp k m off=>match J[k]? with
  |some (.cells Z true)=>if m=Z.length then dG J k true Z n off x else none
  |_=>none
 |_=>none
def aha(hn:gV P t=some n)(h:bu G base w0 C M J w)(O:J[k]?=some (.cells Z row))(hM:M[k]?=some L)(I:aI C M J x x')(hs:dG J k row Z n off x=some hp'):∃w',(ai7 t (.pointer (some ⟨L.b,off,none⟩)) x').run P w=.ok () w'/\bZ C M J C M hp'/\bu G base w0 C M hp' w':=by
 unfold dG at hs;split at hs;rename_i T;obtain⟨c1,c2,c3⟩:=T;cases hs;have D:=NI I;obtain⟨hle,cE⟩:=h.store O hM off x.cells x'.cells.toList D aCs;obtain⟨t1,t2,t3,t4⟩:=h.cells k Z row L O hM;have hlen:x'.cells.toList.length=n:=by rw[<-D.1];exact c1
 refine⟨_,?_,hle,cE⟩;have hst:=run_storeCells_cells (P:=P) L.b off x'.cells.toList 0 w (λj hj=>by
  obtain⟨c',a1,_⟩:=t3 (off+j) Z[off+j] (br aCs);rw[nP,a1];rfl) (λj hj=>by rw[nP];exact t4.1 _) (D.nY c3)
 rw[nP] at hst;have hsz:x'.cells.size=n:=aC4
 simp only[ai7,JU,eG,kj,eO,storeVar,nI hn];rw[if_neg aCs];exact hst;cases hs
def axq(hn:gV P t=some n)(h:bu G base w0 C M J w){p:U}{p':Value}(abu:aI C M J p p')(I:aI C M J x x')(hs:aE J n p x=some hp'):∃w',(ai7 t p' x').run P w=.ok () w'/\bZ C M J C M hp'/\bu G base w0 C M hp' w':=by
 unfold aE at hs;split at hs;rename_i k off;cases abu with
 |mp O hM=>
  rename_i L Z;rw[O] at hs;exact aha hn h O hM I hs
 rename_i k m off;cases abu with
 |rp O hM hn' ha=>
  rename_i L Z a;rw[O] at hs;simp only at hs;split at hs;rename_i hm;rw[ha hm];exact aha hn h O hM I hs;cases hs
 cases hs
end
section
variable{G:Cells}{base:Nat}{w0:jh}{w:World}{C:Cells}{M:List Loc}{J:List aa}{P:Program}
def ji(off:Nat):U->Option U
 |.fp Z o=>some (.fp Z (o+off))
 |.mp k o=>some (.mp k (o+off))
 |.rp k n o=>some (.rp k n (o+off))
 |_=>none
def agA(I:aI C M J x y)(D:ji off x=some r):∃a,y=.pointer (some a)/\aI C M J r (.pointer (some (a.add off))):=by
 unfold ji at D;split at D;cases D;cases I with
 |fp f hC hR=>exact⟨_,rfl,by rw[addr_add,kK];exact .fp f hC hR⟩
 cases D;cases I with
 |mp O hM=>exact⟨_,rfl,by rw[addr_add];exact .mp O hM⟩
 cases D;cases I with
 |rp O hM hn ha=>exact⟨_,rfl,.rp O hM hn λq=>by rw[ha q,addr_add]⟩
 cases D
def anH(hs:P.underlying s=some (.struct fields))(hf:fields[field]?=some f)(ho:f.offset=off)
  (hn:gV P f.type=some n) (hn0:n≠0) (h:bu G base w0 C M J w) (I:aI C M J x y) (D:ji off x=some r):
  e7 G base w0 C M J P (Instr.fieldAt s y field) w r J:=by
 obtain⟨a,rfl,hr'⟩:=agA I D;refine .same h ?_ hr';simp[Instr.fieldAt,run_underlying hs,hf,JU,fieldPlace,nI hn,hn0,ho]
def bw(n:Nat):U->U->Option U
 |.sl xs _,.v (.int _ i)=>if 0<=i then match xs[i.toNat]? with
   |some x=>if x.cells.length=n then some (.fp x.cells 0) else none
   |none=>none
  else none
 |.rs k m _ off len,.v (.int _ i)=>if 0<=i/\i<len then some (.rp k m (off+i.toNat*n)) else none
 |_,_=>none
def anJ(ht:P.underlying t=some (.slice e))(hn:gV P e=some n)(h:bu G base w0 C M J w){i:U}
  (I:aI C M J x y) (Q:aI C M J i j) (D:bw n x i=some r):e7 G base w0 C M J P (OH t y j) w r J:=by
 unfold bw at D;split at D;rename_i xs tl k i;cases Q;cases I with
 |sl f hsp hsz hC hR hT hcap=>
  rename_i a cap sz;split at D;rename_i h0;split at D;rename_i x EO;split at D;rename_i hlen;cases D;have hlt:=(bF.1 EO).1;have Ik:sz=n:=by rw[<-hsz _ _ EO];exact hlen
  subst Ik;have hne:xs≠[]:=by intro e;subst e;simp at hlt
  obtain⟨b,o,sp⟩:=a;have:=hsp hne;subst this;have aoy:aI C M J (.fp x.cells 0) (.pointer (some ⟨b,(o+i.toNat*sz)+0,none⟩)):=
   .fp (f i.toNat) (λj c T=>hC _ _ _ _ EO T) (λj c T=>hR _ _ _ _ EO T)
  refine .same h ?_ aoy;have hi':i<(xs.length:Int):=aCs
  simp[OH,asIntOf,run_underlying ht,h0,hi',nI hn,addr_add];cases D;cases D;cases D
 rename_i k m sz off len kk i;cases Q;cases I with
 |rs O hM hn' hlc ha=>
  rename_i cap L Z a;split at D;rename_i h0;cases D;refine .same h (v:=.pointer (some (a.add (i.toNat*n)))) ?_ (.rp O hM hn' λq=>by rw[(ha q).1,addr_add]);simp[OH,asIntOf,run_underlying ht,h0,nI hn];cases D
 cases D
def jr(len n:Nat)(x:U):U->Option U
 |.v (.int _ i)=>if 0<=i/\i<len then ji (i.toNat*n) x else none
 |_=>none
def anq(ht:P.underlying t=some (.array len e))(hn:gV P e=some n)(h:bu G base w0 C M J w){i:U}
  (I:aI C M J x y) (Q:aI C M J i j) (D:jr len n x i=some r):e7 G base w0 C M J P (OH t y j) w r J:=by
 unfold jr at D;split at D;rename_i k i;cases Q;split at D;rename_i h0;obtain⟨a,rfl,hr'⟩:=agA I D;refine .same h ?_ hr';simp[OH,asIntOf,run_underlying ht,h0,nI hn,JU];cases D;cases D
def uQ:U->Option U
 |.fp Z o=>some (.fp Z o)
 |.mp k o=>some (.mp k o)
 |.rp k n o=>some (.rp k n o)
 |.fn (.func f) a b=>some (.fn (.func f) a b)
 |_=>none
def th(k:IntKind)(a b:Int)(f:BitVec k.bits->BitVec k.bits->BitVec k.bits):Value:=
 .int k (k.wrap (f (zd k.bits a) (zd k.bits b)).toNat)
def j7(op:BinOp)(k:IntKind)(a:Int)(k':IntKind)(b:Int):Option Value:=
 match op with
 |.shl=>if b<0 then none else some (.int k (k.wrap (a*2^(min b.toNat k.bits))))
 |.shr=>if b<0 then none else some (.int k (a.fdiv (2^(min b.toNat k.bits))))
 |op=>if k≠k' then none else match op with
  |.add=>some (.int k (k.wrap (a+b)))
  |.sub=>some (.int k (k.wrap (a-b)))
  |.mul=>some (.int k (k.wrap (a*b)))
  |.quo=>if b=0 then none else some (.int k (k.wrap (a.tdiv b)))
  |.rem=>if b=0 then none else some (.int k (a.tmod b))
  |.and=>some (th k a b (· &&& ·))
  |.or=>some (th k a b (· ||| ·))
  |.xor=>some (th k a b (· ^^^ ·))
  |.andNot=>some (th k a b (λx y=>x&&& ~~~y))
  |.eql=>some (.bool (a==b))
  |.neq=>some (.bool (a !=b))
  |.lss=>some (.bool (a<b))
  |.leq=>some (.bool (a<=b))
  |.gtr=>some (.bool (a>b))
  |.geq=>some (.bool (a>=b))
  |_=>none
def FB(op:BinOp)(x y:ByteArray):Option Value:=
 match op with
 |.add=>if((x.size+y.size:Nat):Int)>bP.max then none else some (.string (x++y))
 |.eql=>some (.bool (x.toList==y.toList))
 |.neq=>some (.bool !(x.toList==y.toList))
 |.lss=>some (.bool (VZ x.toList y.toList))
 |.leq=>some (.bool (VZ x.toList y.toList||x.toList==y.toList))
 |.gtr=>some (.bool !(VZ x.toList y.toList||x.toList==y.toList))
 |.geq=>some (.bool !(VZ x.toList y.toList))
 |_=>none
def cr(op:BinOp):U->U->Option U
 |.v (.int k a),.v (.int k' b)=>(j7 op k a k' b).map .v
 |.v (.string a),.v (.string b)=>(FB op a b).map .v
 |_,_=>none
def axo{k k':IntKind}{a b:Int}{r:Value}(h:j7 op k a k' b=some r)(t:TypeId)(w:World):
  (binOp op t (.int k a) (.int k' b)).run P w=.ok r w/\plain r=true:=by
 unfold j7 at h;split at h;split at h;cases h;rename_i O;cases h;exact⟨by simp[binOp,Op.shift,O],rfl⟩;split at h;cases h;rename_i O;cases h;exact⟨by simp[binOp,Op.shift,O],rfl⟩;rename_i Y V;split at h;cases h;rename_i S;have S:k=k':=by simpa using S
 subst S;cases op with
 |shl=>exact(Y rfl).elim
 |shr=>exact(V rfl).elim
 |add=>cases h;exact⟨by simp[binOp,V0],rfl⟩
 |sub=>cases h;exact⟨by simp[binOp,V0],rfl⟩
 |mul=>cases h;exact⟨by simp[binOp,V0],rfl⟩
 |quo=>
  simp only at h;split at h;cases h;rename_i O;cases h;exact⟨by simp[binOp,Op.intDiv,O],rfl⟩
 |rem=>
  simp only at h;split at h;cases h;rename_i O;cases h;exact⟨by simp[binOp,Op.intDiv,O],rfl⟩
 |and=>cases h;exact⟨aED,rfl⟩
 |or=>cases h;exact⟨aED,rfl⟩
 |xor=>cases h;exact⟨aED,rfl⟩
 |andNot=>cases h;exact⟨aED,rfl⟩
 |eql=>cases h;exact⟨aDK,rfl⟩
 |neq=>cases h;exact⟨aDK,rfl⟩
 |lss=>cases h;exact⟨aDK,rfl⟩
 |leq=>cases h;exact⟨aDK,rfl⟩
 |gtr=>cases h;exact⟨aDK,rfl⟩
 |geq=>cases h;exact⟨aDK,rfl⟩
def axp{a b:ByteArray}{r:Value}(h:FB op a b=some r)(t:TypeId)(w:World):
  (binOp op t (.string a) (.string b)).run P w=.ok r w/\plain r=true:=by
 have key:binOp op t (.string a) (.string b)=Op.stringOp op a b:=by cases op<;>simp[binOp]
 rw[key];unfold FB at h;cases op<;>simp only[Op.stringOp] at h⊢<;>first
  |(cases h;done)
  |(cases h;exact⟨rfl,rfl⟩)
  |skip
 split at h;cases h;rename_i O;cases h;rw[if_neg O];exact⟨rfl,rfl⟩
def aaj(h:bu G base w0 C M J w){y:U}(I:aI C M J x x')(hy:aI C M J y y')
  (D:cr op x y=some r):e7 G base w0 C M J P (do eqGuard op t fD kV x' y';binOp op t x' y') w r J:=by
 unfold cr at D;split at D;rename_i k a k' b;cases I;cases hy;simp only[cg] at D;obtain⟨v,hv,rfl⟩:=D;obtain⟨Y,V⟩:=axo (P:=P) hv t w;refine .same h ?_ (.v V);have hg:eqGuard op t fD kV (.int k a) (.int k' b)=pure ():=aEk
 rw[hg];simp[Y];rename_i a b;cases I;cases hy;simp only[cg] at D;obtain⟨v,hv,rfl⟩:=D;obtain⟨Y,V⟩:=axp (P:=P) hv t w;refine .same h ?_ (.v V);have hg:eqGuard op t fD kV (.string a) (.string b)=pure ():=aEk
 rw[hg];simp[Y];cases D
def Gx(neg:Bool):U->U->Option U
 |.v (.bool a),.v (.bool b)=>some (.v (.bool (if neg then !(a==b) else a==b)))
 |_,_=>none
def qm(neg:Bool):BinOp:=if neg then .neq else .eql
def aak(ht:P.underlying t=some .bool)(h:bu G base w0 C M J w){y:U}(I:aI C M J x x')(hy:aI C M J y y')
  (D:Gx neg x y=some r):e7 G base w0 C M J P (do eqGuard (qm neg) t fD kV x' y';binOp (qm neg) t x' y') w r J:=by
 unfold Gx at D;split at D;rename_i a b;cases I;cases hy;cases D;refine .same h ?_ (.v rfl);have hg:eqGuard (qm neg) t fD kV (.bool a) (.bool b)=pure ():=aEk
 rw[hg];have:=run_equal_bool (P:=P) w t a b ht;cases neg<;>simp[qm,binOp,this];cases D
def IS:U->Bool
 |.v (.pointer none)|.v .nilFunc|.v .nilIface|.af|.fM _ _=>true
 |_=>false
def xm:Operand->Bool
 |.const _=>true
 |_=>false
inductive v8 where
 |ptr|slc|Ek|cT
 deriving DecidableEq
def Na(P:Program)(t:TypeId):Option v8:=
 match P.underlying t with
 |some (.pointer _)=>some .ptr
 |some (.slice _)=>some .slc
 |some (.func _ _ _)=>some .Ek
 |some (.interface _)=>some .cT
 |_=>none
def kindOf:U->Option v8
 |.v (.pointer none)|.fp _ _|.mp _ _|.rp _ _ _|.fM _ _=>some .ptr
 |.af|.sl _ _|.rs _ _ _ _ _=>some .slc
 |.v .nilFunc|.fn _ _ _=>some .Ek
 |.v .nilIface|.cT _ _=>some .cT
 |_=>none
end
section
variable{G:Cells}{base:Nat}{w0:jh}{w:World}{C:Cells}{M:List Loc}{J:List aa}{P:Program}
def mO(K:v8)(neg:Bool)(x y:U):Option U:=
 if kindOf x=some K/\kindOf y=some K/\(IS x=true\/IS y=true) then some (.v (.bool (neg !=(IS x&&IS y)))) else none
def ve(K:v8)(nil:Bool)(x':Value):Prop:=
 match K with
 |.ptr=>if nil then x'=.pointer none else∃a,x'=.pointer (some a)
 |.slc=>if nil then x'=.slice none 0 0 else∃a n c,x'=.slice (some a) n c
 |.Ek=>if nil then x'=.nilFunc else∃f a b,x'=.func f a b
 |.cT=>if nil then x'=.nilIface else∃t v,x'=.iface t v
def aez{K:v8}(I:aI C M J x x')(kx:kindOf x=some K):ve K (IS x) x':=by
 cases I with
 |v h=>
  cases x' with
  |pointer a=>cases a with
   |none=>cases kx;exact rfl
   |some a=>simp[plain] at h
  |nilFunc=>cases kx;exact rfl
  |nilIface=>cases kx;exact rfl
  |_=>first|(cases kx;done)|(simp[plain] at h;done)
 |af=>cases kx;exact rfl
 |agg _ _=>cases kx
 |aK _ _=>cases kx
 |sl _ _ _ _ _ _ _=>cases kx;exact⟨_,_,_,rfl⟩
 |fp _ _ _=>cases kx;exact⟨_,rfl⟩
 |mp _ _=>cases kx;exact⟨_,rfl⟩
 |rp _ _ _ _=>cases kx;exact⟨_,rfl⟩
 |rs _ _ _ _ _=>cases kx;exact⟨_,_,_,rfl⟩
 |eL _ _=>cases kx
 |fn _ _ _ _=>cases kx;exact⟨_,_,_,rfl⟩
 |cT _=>cases kx;exact⟨_,_,rfl⟩
 |dZ _ _=>cases kx
 |gu _ _=>cases kx
 |fM _ _=>cases kx;exact rfl
def axm{K:v8}(ht:Na P t=some K){a b:Bool}(I:ve K a x')(hy:ve K b y')(hn:a=true\/b=true)(d:Nat)(w:World):
  (xR (d+1) t x' y').run P w=.ok (a&&b) w:=by
 unfold Na at ht;cases hd:P.underlying t with
 |none=>rw[hd] at ht;cases ht
 |some dd=>
  rw[hd] at ht;have hu:=λw'=>run_underlying (P:=P) hd w';cases K<;>cases dd<;>simp only[reduceCtorEq,lI] at ht<;>cases a<;>cases b<;>
   simp only[ve,if_true,je,if_false,or_self,or_true,true_or] at I hy hn
  all_goals first
   |(subst I;subst hy;rw[xR];simp only[eG,hu,eO];rfl)
   |(obtain⟨_,rfl⟩:=I;subst hy;rw[xR];simp only[eG,hu,eO];rfl)
   |(obtain⟨_,rfl⟩:=hy;subst I;rw[xR];simp only[eG,hu,eO];rfl)
   |(obtain⟨_,_,rfl⟩:=I;subst hy;rw[xR];simp only[eG,hu,eO];rfl)
   |(obtain⟨_,_,rfl⟩:=hy;subst I;rw[xR];simp only[eG,hu,eO];rfl)
   |(obtain⟨_,_,_,rfl⟩:=I;subst hy;rw[xR];simp only[eG,hu,eO];rfl)
   |(obtain⟨_,_,_,rfl⟩:=hy;subst I;rw[xR];simp only[eG,hu,eO];rfl)
def ale{K:v8}{a b:Bool}(neg:Bool)(t:TypeId)(I:ve K a x')(hy:ve K b y'):
  binOp (qm neg) t x' y'=(Op.equal t x' y'>>=λr=>pure (.bool (neg !=r))):=by
 have key:∀(x' y':Value),(∀k n,x'≠.int k n)->(∀s,x'≠.string s)->(∀k n,x'≠.float k n)->(∀k n m,x'≠.complex k n m)->binOp (qm neg) t x' y'=(Op.equal t x' y'>>=λr=>pure (.bool (neg !=r))):=by
  intro x' y' Y V h3 h4;cases neg<;>simp only[qm,je,if_false,if_true]<;>unfold binOp<;>split<;>first
   |(exact(Y _ _ rfl).elim)|(exact(V _ rfl).elim)|(exact(h3 _ _ rfl).elim)|(exact(h4 _ _ _ rfl).elim)|(simp;done)|(simp_all;done)
 apply key<;>intros<;>intro e<;>subst e<;>cases K<;>cases a<;>simp[ve] at I
def amG(op:BinOp)(t:TypeId)(fD kV:Operand)(Y:x'=.nilIface->y'=.nilIface->xm fD=true\/xm kV=true)(V:∀Z,x'≠.agg Z):eqGuard op t fD kV x' y'=pure ():=by
 have key:∀op:BinOp,(op=.eql\/op=.neq)->eqGuard op t fD kV x' y'=pure ():=by
  intro op hop
  rcases hop with rfl|rfl
  all_goals
   unfold eqGuard;simp only[vL,je,if_false];split
   rcases Y rfl rfl with h|h
   cases fD<;>simp[xm] at h;rfl;cases kV<;>simp[xm] at h;cases fD<;>rfl;exact(V _ rfl).elim;rfl
 cases op<;>first|exact key _ (ax rfl)|exact key _ (az rfl)|rfl
def amH{K:v8}{a b:Bool}(op:BinOp)(t:TypeId)(fD kV:Operand)(I:ve K a x')(hy:ve K b y')
  (T:K=.cT->xm fD=true\/xm kV=true):eqGuard op t fD kV x' y'=pure ():=by
 refine amG op t fD kV (λe _=>T ?_) (λZ e=>?_);subst e;cases K<;>cases a<;>simp[ve] at I<;>rfl;subst e;cases K<;>cases a<;>simp[ve] at I
def aal{K:v8}(ht:Na P t=some K)(T:K=.cT->xm fD=true\/xm kV=true)(h:bu G base w0 C M J w){y:U}
  (I:aI C M J x x') (hy:aI C M J y y') (D:mO K neg x y=some r):e7 G base w0 C M J P (do eqGuard (qm neg) t fD kV x' y';binOp (qm neg) t x' y') w r J:=by
 unfold mO at D;split at D;rename_i S;obtain⟨k1,k2,dY⟩:=S;cases D;have s1:=aez I k1;have s2:=aez hy k2;refine .same h ?_ (.v rfl);rw[amH _ t fD kV s1 s2 T,ale neg t s1 s2];have:=axm (P:=P) ht s1 s2 dY 9999 w;simp only[eG,kj,eO,Op.equal,Op.maxDepth];rw[this];rfl;cases D
end
section
variable{G:Cells}{base:Nat}{w0:jh}{w:World}{C:Cells}{M:List Loc}{J:List aa}{P:Program}
def BP(op:UnOp):U->Option U
 |.v (.int k n)=>match op with
  |.neg=>some (.v (.int k (k.wrap (0-n))))
  |.xor=>some (.v (th k (if k.signed then -1 else k.max) n (· ^^^ ·)))
  |_=>none
 |.v (.bool b)=>match op with
  |.not=>some (.v (.bool !b))
  |_=>none
 |_=>none
def anX{op:UnOp}(h:bu G base w0 C M J w)(I:aI C M J x x')(D:BP op x=some r):e7 G base w0 C M J P (Op.unary op x') w r J:=by
 unfold BP at D;split at D;cases I;split at D<;>cases D;exact .same h (by simp[Op.unary,V0]) (.v rfl);exact .same h (by simp[Op.unary,OK,th]) (.v rfl);cases I;split at D<;>cases D;exact .same h (by simp[Op.unary]) (.v rfl);cases D
def D0(k:IntKind):U->Option U
 |.v (.int _ n)=>some (.v (.int k (k.wrap n)))
 |_=>none
def anF{k:IntKind}(hs:(P.underlying src).isSome=true)(hd:P.underlying dst=some (.int k))(h:bu G base w0 C M J w)(I:aI C M J x x')
  (D:D0 k x=some r):e7 G base w0 C M J P (convert src dst x') w r J:=by
 unfold D0 at D;split at D;cases I;cases D;obtain⟨d,hd'⟩:=Wm.mp hs;exact .same h (by simp[convert,run_underlying hd',run_underlying hd,Conv.intToInt]) (.v rfl);cases D
def KI:U->Option U
 |.v (.string s)=>some (.v (.string s))
 |_=>none
def anV(hs:(P.underlying src)=some .string)(hd:P.underlying dst=some .string)(h:bu G base w0 C M J w)(I:aI C M J x x')
  (D:KI x=some r):e7 G base w0 C M J P (convert src dst x') w r J:=by
 unfold KI at D;split at D;cases I;cases D;exact .same h (by simp[convert,run_underlying hs,run_underlying hd]) (.v rfl);cases D
def Gz:U->Option U
 |.v (.string s)=>some (.v (goInt s.size))
 |.af=>some (.v (goInt 0))
 |.sl xs _=>some (.v (goInt xs.length))
 |.rs _ _ _ _ len=>some (.v (goInt len))
 |_=>none
def aam(h:bu G base w0 C M J w)(I:aI C M J x x')(S:∀s,x=.v (.string s)->P.underlying t=some .string)
  (hk':(∀s,x≠.v (.string s))->∃e,P.underlying t=some (.slice e)) (D:Gz x=some r):e7 G base w0 C M J P (FX #[t] ty #[x']) w r J:=by
 unfold Gz at D;split at D;cases I;cases D;exact .same h (by simp[FX,run_underlying (S _ rfl)]) (.v rfl);cases I<;>cases D;obtain⟨e,he⟩:=hk' (by intro s e;cases e);exact .same h aEj (.v rfl);cases I<;>cases D;obtain⟨e,he⟩:=hk' (by intro s e;cases e);exact .same h aEj (.v rfl);cases I<;>cases D;obtain⟨e,he⟩:=hk' (by intro s e;cases e);exact .same h aEj (.v rfl);cases D
def nV(i:Nat):U->Option U
 |.aK Z=>Z[i]?
 |_=>none
def anG{i:Nat}(h:bu G base w0 C M J w)(I:aI C M J x x')(D:nV i x=some r):e7 G base w0 C M J P (Instr.extract x' i) w r J:=by
 unfold nV at D;split at D;cases I with
 |aK hl hh=>
  rename_i Z cs';have Q:=(bF.1 D).1;have hi':i<cs'.size:=aCs
  exact .same h (by simp[Instr.extract,hi']) (hh i r cs'[i] D (by simp[hi']))
 cases D
def Gy(aG:Bool)(n off:Nat):U->Option U
 |.agg Z=>dI aG n Z off
 |_=>none
def ag9(hag:iP P t=some aG)(hn:gV P t=some n){cs':Array Value}(hl:Z.length=cs'.size)
  (hh:∀(i:Nat) a b,Z[i]?=some a->cs'[i]?=some b->aI C M J a b) (D:dI aG n Z off=some r) (w:World):∃v,(part t cs' off).run P w=.ok v w/\aI C M J r v:=by
 unfold part;simp only[eG,UB hag,eO];unfold dI at D;cases aG with
 |true=>
  simp only[if_true] at D⊢;split at D;rename_i hfit;cases D;refine⟨.agg (cs'.extract off (off+n)),by simp only[eG,nI hn,eO,kj],?_⟩;refine .agg aCv (λi a b ha O=>?_);have Q:i<n:=by
   have:=(bF.1 ha).1;simp at this;omega
  simp only[OQ,oW] at ha;rw[if_pos Q] at ha;rw[Array.getElem?_extract] at O;rw[if_pos aCs] at O;exact hh _ _ _ ha O;cases D
 |false=>
  simp only[je,if_false] at D⊢;have Q:=(bF.1 D).1;have hi':off<cs'.size:=aCs
  exact⟨cs'[off],by simp[hi'],hh off r _ D (by simp[hi'])⟩
def anI(hs:P.underlying s=some (.struct fields))(hf:fields[field]?=some f)(ho:f.offset=off)
  (hag:iP P f.type=some aG) (hn:gV P f.type=some n) (h:bu G base w0 C M J w) (I:aI C M J x x') (D:Gy aG n off x=some r):
  e7 G base w0 C M J P (Instr.field s x' field) w r J:=by
 unfold Gy at D;split at D;cases I with
 |agg hl hh=>
  obtain⟨v,Y,V⟩:=ag9 (P:=P) hag hn hl hh D w;exact .same h (by simp[Instr.field,run_underlying hs,hf,asAgg,ho,Y]) V
 cases D
def zG(aG:Bool)(n len:Nat):U->U->Option U
 |.agg Z,.v (.int _ i)=>if 0<=i/\i<len then dI aG n Z (i.toNat*n) else none
 |_,_=>none
def anK(ht:P.underlying t=some (.array len e))(hag:iP P e=some aG)(hn:gV P e=some n)(h:bu G base w0 C M J w){i:U}
  (I:aI C M J x x') (Q:aI C M J i i') (D:zG aG n len x i=some r):e7 G base w0 C M J P (VU t x' i') w r J:=by
 unfold zG at D;split at D;cases Q;cases I with
 |agg hl hh=>
  split at D;rename_i O;obtain⟨v,Y,V⟩:=ag9 (P:=P) hag hn hl hh D w;exact .same h (by simp[VU,asIntOf,run_underlying ht,O,nI hn,Y]) V;cases D
 cases D
def tc:U->U->Option U
 |.v (.string s),.v (.int _ i)=>if 0<=i then(s[i.toNat]?).map λb=>.v (.int .u8 b.toNat) else none
 |_,_=>none
def anE(ht:P.underlying t=some .string)(h:bu G base w0 C M J w){i:U}
  (I:aI C M J x x') (Q:aI C M J i i') (D:tc x i=some r):e7 G base w0 C M J P (VU t x' i') w r J:=by
 unfold tc at D;split at D;cases Q;cases I;split at D;rename_i O;simp only[cg] at D;obtain⟨b,hb',rfl⟩:=D;exact .same h (by simp[VU,asIntOf,run_underlying ht,O,hb']) (.v rfl);cases D;cases D
end
section
variable{G:Cells}{base:Nat}{w0:jh}{w:World}{C:Cells}{M:List Loc}{J:List aa}{P:Program}
def flat(zs:List U):List U:=zs.flatMap U.cells
def am8:flat []=[]:=rfl
def yq(z:U)(r:List U):flat (z::r)=z.cells++flat r:=aFg
def ZP(a b:List U):flat (a++b)=flat a++flat b:=aFg
def yt:∀{zs:List U},(∀z∈zs,z.cells.length=n)->(flat zs).length=zs.length*n
 |[],_=>aFg
 |z::r,h=>by
  rw[yq,cG,yt (λx I=>h x aCG),h z aCt,di,nO];omega
def ZR:∀{zs:List U},(∀z∈zs,z.cells.length=n)->∀{i j:Nat} {z c:U},zs[i]?=some z->z.cells[j]?=some c->(flat zs)[i*n+j]?=some c
 |[],_,i,j,z,c,hz,_=>by simp at hz
 |y::r,h,i,j,z,c,hz,T=>by
  have hy:=h y aCt;cases i with
  |zero=>
   simp at hz;subst hz;rw[yq,Nat.zero_mul,e6,ei (bF.1 T).1];exact T
  |succ i=>
   simp at hz;rw[yq,nO,Bz,en aCs,hy,show i*n+n+j-n=i*n+j by omega];exact ZR (λx I=>h x aCG) hz T
def ZS:∀{zs:List U},(∀z∈zs,z.cells.length=n)->∀{k:Nat} {c:U},(flat zs)[k]?=some c->∃i j z,k=i*n+j/\zs[i]?=some z/\z.cells[j]?=some c
 |[],_,k,c,T=>by simp[flat] at T
 |y::r,h,k,c,T=>by
  have hy:=h y aCt;rw[yq] at T
  rcases cH k n with S|S
  rw[ei aCs] at T;exact⟨0,k,y,aCs,aCt,T⟩;rw[en aCs,hy] at T;obtain⟨i,j,z,e,Y,V⟩:=ZS (λx I=>h x aCG) T;exact⟨i+1,j,z,by rw[nO];omega,aEE,V⟩
def k6(C:Cells)(M:List Loc)(J:List aa)(b o:Nat)(Z:List U):Prop:=
 ∀(j:Nat) c,Z[j]?=some c->∃v,C b (o+j)=some v/\aI C M J c v
def k6.mono(hle:bZ C M J aC M' hp')(h:k6 C M J b o Z):k6 aC M' hp' b o Z:=
 λj c T=>let⟨v,Y,V⟩:=h j c T;⟨v,hle.C _ _ _ Y,V.mono hle⟩
def k6.append{as bs:List U}(Y:k6 C M J b o as)(V:k6 C M J b (o+as.length) bs):k6 C M J b o (as++bs):=by
 intro j c T
 rcases cH j as.length with hj|hj
 rw[ei hj] at T;exact Y j c T;rw[en hj] at T;obtain⟨v,e1,e2⟩:=V _ c T;exact⟨v,by rw[<-e1];congr 1;omega,e2⟩
def k6.drop(h:k6 C M J b o Z)(n:Nat):k6 C M J b (o+n) (Z.drop n):=by
 intro j c T;rw[oW] at T;obtain⟨v,e1,e2⟩:=h _ c T;exact⟨v,by rw[<-e1];congr 1;omega,e2⟩
def k6.take(h:k6 C M J b o Z)(n:Nat):k6 C M J b o (Z.take n):=by
 intro j c T;rw[OQ] at T;split at T;exact h j c T;cases T
def k6.vals(h:bu G base w0 C M J w)(ha:k6 C M J b o Z):
  ∃vs:List Value,bY C M J Z vs/\∀(j:Nat) v,vs[j]?=some v->w.cell? ⟨b,o+j,none⟩=some v:=by
 refine⟨(iD Z.length).map λj=>(C b (o+j)).getD undef,⟨aCt,λi a v e1 e2=>?_⟩,λj v e=>?_⟩;obtain⟨u,Y,V⟩:=ha i a e1;have Q:=(bF.1 e1).1;simp[Q,Y] at e2;subst e2;exact V;have hj:j<Z.length:=by
  have:=(bF.1 e).1;simpa using this
 obtain⟨u,Y,V⟩:=ha j Z[j] (br hj);simp[hj,Y] at e;subst e;exact h.lf _ _ _ Y
def Us{t:iU}(hn:∀z∈zs,z.cells.length=n)(ha:k6 C M J b o (flat zs))(hT:rW M J ⟨b,o,none⟩ zs.length cap n t)(hcap:zs.length<=cap):
  aI C M J (.sl zs t) (.slice (some ⟨b,o,none⟩) zs.length cap):=by
 refine .sl (λi j=>(C b (o+i*n+j)).getD undef) (λ_=>rfl) (λi x I=>hn x (bA I)) (λi x j c I T=>?_) (λi x j c I T=>?_) hT hcap
 all_goals
  obtain⟨v,Y,V⟩:=ha _ c (ZR hn I T);rw[<-kK] at Y
 show C b (o+i*n+j)=_;rw[Y];rfl;rw[Y];exact V
def NH{t:iU}(hl:len=zs.length)(hn:∀z∈zs,z.cells.length=n)(ha:k6 C M J b o (flat zs))(hT:rW M J ⟨b,o,none⟩ len cap n t)(hcap:len<=cap):
  aI C M J (.sl zs t) (.slice (some ⟨b,o,none⟩) len cap):=by
 subst hl;exact Us hn ha hT hcap
def Jh{t:iU}(h:aI C M J (.sl zs t) (.slice (some a) len cap))(hn:∀z∈zs,z.cells.length=n):
  len=zs.length/\k6 C M J a.block a.off (flat zs)/\(zs≠[]->a.spot=none)/\zs.length<=cap:=by
 cases h with
 |sl f hsp hsz hC hR hT hcap=>
  rename_i sz;refine⟨rfl,λk c T=>?_,hsp,hcap⟩;obtain⟨i,j,z,rfl,hz,gx⟩:=ZS hn T;have:sz=n:=by rw[<-hsz i z hz];exact hn z (bA hz)
  subst this;exact⟨f i j,by rw[<-kK];exact hC i z j c hz gx,hR i z j c hz gx⟩
def avf(h:bu G base w0 C M J w)(cells:Array Value)(e:TypeId)(D:bY C M J Z vs)(hv:∀(i:Nat) v,vs[i]?=some v->cells[i]?=some v):
  bZ C M J (C.add w.heap.size 0 vs) M J/\bu G base w0 (C.add w.heap.size 0 vs) M J (w.alloc (.cells cells e))/\k6 (C.add w.heap.size 0 vs) M J w.heap.size 0 Z:=by
 obtain⟨hle,hs⟩:=h.Q3 cells e vs hv;refine⟨hle,hs,λj c T=>?_⟩;obtain⟨v,Y,V⟩:=D.get T;exact⟨v,by rw[Cells.BM _ _ _ _ _ (bF.1 Y).1];exact Y,V.mono hle⟩
def contents:U->Option (List U)
 |.af=>some []
 |.sl ys _=>some ys
 |_=>none
def ke(Z:List U)(off:Nat)(us:List U):List U:=Z.take off++us++Z.drop (off+us.length)
def bS(n:Nat)(ys:List U):Bool:=ys.all λy=>y.cells.length==n&&y.cells.all U.one
def gp(J:List aa)(n aZ:Nat)(e:TypeId)(s:U)(ys:List U):Option (U×List aa):=
 match s with
 |.af=>if ys.length*aZ<=140737488355328 then some (.sl ys (.tok J.length),J++[.tok ys.length n e]) else none
 |.rs k m sz off len=>if sz=n/\off=0/\(len+ys.length)*aZ<=140737488355328 then
   match J[k]? with
   |some (.cells Z true)=>if m=Z.length then some (.rs k (ke Z (len*n) (flat ys)).length n 0 (len+ys.length),J.set k (.cells (ke Z (len*n) (flat ys)) true)) else none
   |_=>none
  else none
 |.sl xs t=>if bS n xs=true/\(xs.length+ys.length)*aZ<=140737488355328 then
   match t with
   |.exact=>some (.sl (xs++ys) (.tok J.length),J++[.tok (xs.length+ys.length) n e])
   |.tok id=>match J[id]? with
    |some (.tok c s' e')=>if c=xs.length/\s'=n/\e'=e then some (.sl (xs++ys) (.tok id),J.set id (.tok (xs.length+ys.length) n e)) else none
    |_=>none
   |.no=>none
  else none
 |_=>none
def fA(J:List aa)(n aZ:Nat)(e:TypeId)(s x:U):Option (U×List aa):=
 match contents x with
 |none=>none
 |some ys=>
  if ys=[] then(match s with|.af|.sl _ _|.rs _ _ _ _ _=>some (s,J)|_=>none)
  else if bS n ys=true/\0<n/\0<aZ then gp J n aZ e s ys
  else none
def cM(J:List aa)(n aZ:Nat)(e:TypeId)(s x:U):Option (U×List aa):=
 match s with
 |.rs _ _ _ _ _=>none
 |s=>fA J n aZ e s x
def aka{s:U}{r:U×List aa}(h:cM J n aZ e s x=some r):fA J n aZ e s x=some r:=by
 unfold cM at h;split at h;cases h;exact h
def pQ(h:bS n ys=true):∀z∈ys,z.cells.length=n:=by
 intro z hz;have:=c7.1 h z hz;simp at this;exact this.1
def avG(h:bS n ys=true):(flat ys).all U.one=true:=by
 rw[c7];intro c T;simp only[flat,List.mem_flatMap] at T;obtain⟨z,hz,T⟩:=T;have:=c7.1 h z hz;simp at this;exact this.2 c T
def TJ{xs:List U}(Y:bS n xs=true)(V:bS n ys=true):bS n (xs++ys)=true:=by
 unfold bS at*;rw[ajk,Y,V];rfl
structure Ga(P:Program)(t e:TypeId)(n aZ:Nat):Prop where
 ht:P.underlying t=some (.slice e)
 Q:∃i z,P.info? e=some i/\i.size=n/\i.bytes=aZ/\i.zero=some z/\z.cells.size=n
def MP(O:0<aZ)(h:k*aZ<=B):k<=B:=fy (Nat.le_mul_of_pos_right k O) h
def NT(z:Array Value)(n:Nat):(xQ z n).size=n*z.size:=by simp[xQ]
def grownCap_le(w:World)(need old:Nat)(e:TypeId):need<=grownCap w need old e:=by unfold grownCap;simp[Question.cut]
def axb(h:off<=Z.length):(ke Z off us).length=max Z.length (off+us.length):=by
 unfold ke;simp only[cG,zm,uz];omega
def axa(h:off<=Z.length)(i:Nat):(ke Z off us)[i]?=if i<off then Z[i]? else if i<off+us.length then us[i-off]? else Z[i]? :=by
 unfold ke;have Y:(Z.take off).length=off:=aCv
 by_cases c1:i<off;rw[if_pos c1,cj,ei aCs,xX c1];rw[if_neg c1,cj,en aCs,Y];by_cases c2:i<off+us.length;rw[if_pos c2,ei aCs];rw[if_neg c2,en aCs,oW];congr 1;omega
def ayq(w:World)(t tx ty e:TypeId)(i:TypeInfo)(z:Value)(ht:P.underlying t=some (.slice e))(Q:P.info? e=some i)(hz:i.zero=some z)(hs:Src P i.size tx x' m news w)
  (h0:0<m) (h63:(m:Int)<=9223372036854775807) (h48:m*i.bytes<=281474976710656):
  (ur #[t,tx] ty #[.slice none 0 0,x']).run P w=.ok (.slice (some ⟨w.heap.size,0,none⟩) m (grownCap w m 0 e)) (w.drew.alloc (.cells (news.toArray++xQ z.cells (grownCap w m 0 e-m)) e)):=by
 have:=run_append_grow_src (P:=P) w t tx ty e i z ht Q hz none 0 0 [] (run_firstCells_none w.drew i.size 0 0 0) x' m news hs aCs aCs (by rw[e6,nextslicecap_zero h0];exact h48);simpa using this
def ahO(w:World)(t tx ty e:TypeId)(i:TypeInfo)(z:Value)(ht:P.underlying t=some (.slice e))(Q:P.info? e=some i)(hz:i.zero=some z)(b:Addr)(sLen sCap:Nat)(olds:List Value)(hlo:olds.length=sLen*i.size)
  (holds:∀j u,olds[j]?=some u->w.cell? (b.add j)=some u) (hs:Src P i.size tx x' m news w) (hg:sCap<sLen+m) (h63:((sLen+m:Nat):Int)<=9223372036854775807) (hfit:Builtin.nextslicecap (sLen+m) sCap*i.bytes<=281474976710656):
  (ur #[t,tx] ty #[.slice (some b) sLen sCap,x']).run P w=.ok (.slice (some ⟨w.heap.size,0,none⟩) (sLen+m) (grownCap w (sLen+m) sCap e))
    (w.drew.alloc (.cells (olds.toArray++news.toArray++xQ z.cells (grownCap w (sLen+m) sCap e-(sLen+m))) e)):=by
 have:=run_append_grow_src (P:=P) w t tx ty e i z ht Q hz (some b) sLen sCap olds (run_firstCells_some w.drew i.size sLen b sLen sCap olds hlo (by simpa using holds)) x' m news hs hg h63 hfit;simpa using this
def aai{tx:TypeId}(hE:Ga P t e n aZ)(h:bu G base w0 C M J w){s:U}(hs:aI C M J s s')(pM:bS n ys=true)(hn0:0<n)(hb0:0<aZ)(hne:ys≠[])
  (q8:bY C M J (flat ys) news) (hsrc:∀i,P.info? e=some i->Src P i.size tx x' ys.length news w)
  (D:gp J n aZ e s ys=some (r,hp')):e7 G base w0 C M J P (ur #[t,tx] ty #[s',x']) w r hp':=by
 obtain⟨ht,i,z,Q,hsize,hby,hz,hzs⟩:=hE;have hsrc:=hsrc i Q;have so:=hsrc.newsLen
 have hy0:0<ys.length:=aDz
 unfold gp at D;split at D;split at D;rename_i hfit;cases D;cases hs;have R6:=MP hb0 hfit;have hrun:=ayq (P:=P) w t tx ty e i z ht Q hz hsrc hy0 aCs (by rw[hby];omega);have hg:=grownCap_le w ys.length 0 e;have EC:news.length=ys.length*n:=by rw[so,hsize]
 have hcells:∀(i':Nat) v,news[i']?=some v->(news.toArray++xQ z.cells (grownCap w ys.length 0 e-ys.length))[i']?=some v:=by
  intro i' v hv;have hl:=(bF.1 hv).1;rw[VH aCO];simpa using hv
 obtain⟨hle,cE⟩:=h.drew.Tu (news.toArray++xQ z.cells (grownCap w ys.length 0 e-ys.length)) e news hcells ys.length n (grownCap w ys.length 0 e*n)
  (by rw[EC];exact mJ n hg) (by simp only[VI,NT,hzs,Wh,EC,<-nO];exact mJ n aCs)
 refine⟨_,_,_,_,hrun,hle,cE,?_⟩;refine Us (pQ pM) ?_ ?_ hg;intro j c T;obtain⟨v,e1,e2⟩:=q8.get T;exact⟨v,by rw[V6,Cells.BM _ _ _ _ _ (bF.1 e1).1];exact e1,e2.mono hle⟩;refine⟨ys.length,n,e,{b:=w.heap.size,fin:=news.length,cap:=grownCap w ys.length 0 e*n},aCt,aCP,bg _,az rfl,λ_=>⟨rfl,rfl,?_,?_⟩⟩;simp[EC];simp;cases D;rename_i k m sz off len;split at D;rename_i hc0;obtain⟨rfl,rfl,hfit⟩:=hc0;split at D;rename_i Z O;split at D;rename_i hm;cases D;cases hs with
 |rs hb' hM hn' hlc ha=>
  rename_i cap L cs' sa;rw[O] at hb';cases hb';obtain⟨rfl,a2,a3,a4⟩:=ha hm;simp only[e6] at a2 a3 a4;have R6:=MP hb0 hfit;obtain⟨t1,t2,t3,Vb,Bd,rH,ait⟩:=h.cells k Z true L O hM;have hlf:=yt (pQ pM);have EC:news.length=ys.length*sz:=by rw[so,hsize]
  have RC:len*sz+ys.length*sz=(len+ys.length)*sz:=(nO _ _ _).symm;have hnew:(ke Z (len*sz) (flat ys)).length=max Z.length ((len+ys.length)*sz):=by rw[axb a2,hlf,RC]
  by_cases hroom:len+ys.length<=cap;have hcap2:(len+ys.length)*sz<=cap*sz:=mJ _ hroom;have hrun:=run_append_room_src (P:=P) w t tx ty e i ht Q L.b 0 len cap x' ys.length news hsrc hroom
   (λj hj=>by rw[hsize,e6];obtain⟨v,hv⟩:=rH (len*sz+j) aCs;rw[hv];rfl)
   (λj hj=>Vb _)
  rw[hsize,e6] at hrun;have hMs:M.set k L=M:=by
   apply zl;intro j;by_cases e:k=j;subst e;rw[aO (bF.1 hM).1,hM];rw[av e]
  have hle:bZ C M J C M (J.set k (.cells (ke Z (len*sz) (flat ys)) true)):=by
   have:=bZ.aas (C:=C) (aC:=C) (M:=M) (cs':=ke Z (len*sz) (flat ys)) (L':=L) (λ_ _ _ h=>h) O h.dH (by
    rw[hnew]
    rcases cH Z.length ((len+ys.length)*sz) with q|q
    exact ax aCs;exact az ⟨aCs,hM⟩)
   rwa [hMs] at this
  have cE:=h.ah1 O hM (len*sz) (flat ys) news q8 hle (az aCs) (axa a2);refine⟨_,_,_,_,hrun,hle,cE,?_⟩;refine .rs (by rw[aO (bF.1 O).1]) hM (bg _) hroom λ_=>⟨rfl,?_,?_,?_⟩;rw[hnew];omega;rw[hnew];omega;omega;have hcl:Z.length<(len+ys.length)*sz:=by
   have:(cap+1)*sz<=(len+ys.length)*sz:=mJ _ aCs;rw[nO] at this;omega
  have hg:=grownCap_le w (len+ys.length) cap e;have apd:(len+ys.length)*sz<=grownCap w (len+ys.length) cap e*sz:=mJ _ hg;obtain⟨olds,hro,HI⟩:∃olds:List Value,bY C M J (Z.take (len*sz)) olds/\∀(j:Nat) v,olds[j]?=some v->w.cell? ⟨L.b,j,none⟩=some v:=by
   refine⟨(iD (len*sz)).map λj=>(w.cell? ⟨L.b,j,none⟩).getD undef,⟨aCv,λj a b ha O=>?_⟩,λj v hj=>?_⟩;have hjl:j<len*sz:=by have:=(bF.1 O).1;simpa using this
   rw[xX hjl] at ha;obtain⟨c',b1,b2⟩:=t3 j a ha;simp[hjl,b1] at O;subst O;exact b2;have hjl:j<len*sz:=by have:=(bF.1 hj).1;simpa using this
   obtain⟨c',b1,b2⟩:=t3 j Z[j] (br aCs);simp[hjl,b1] at hj;subst hj;exact b1
  have hlo:olds.length=len*i.size:=by rw[<-hro.1,hsize];simp;omega
  have hrun:=ahO (P:=P) w t tx ty e i z ht Q hz ⟨L.b,0,none⟩ len cap olds hlo (λj v hj=>by rw[addr_add,e6];exact HI j v hj) hsrc aCs aCs (growslice_fits aCs (by rw[hby];exact hfit));have hrl:bY C M J (ke Z (len*sz) (flat ys)) (olds++news):=by
   have e0:ke Z (len*sz) (flat ys)=Z.take (len*sz)++flat ys:=by
    unfold ke;rw[List.drop_eq_nil_of_le aCs,ff]
   rw[e0];refine⟨by rw[cG,cG,hro.1,q8.1],λq u v hu hv=>?_⟩
   rcases cH q (Z.take (len*sz)).length with S|S
   rw[ei S] at hu;rw[ei aEa] at hv;exact hro.2 q u v hu hv;rw[en S] at hu;rw[en aEa,<-hro.1] at hv;exact q8.2 _ u v hu hv
  obtain⟨hle,cE⟩:=h.drew.auU (olds.toArray++news.toArray++xQ z.cells (grownCap w (len+ys.length) cap e-(len+ys.length))) e (ke Z (len*sz) (flat ys)) (olds++news) hrl
   (λi' v hv=>by
     have hl:=(bF.1 hv).1;rw[VH aCO];simpa using hv) (cap:=grownCap w (len+ys.length) cap e*sz) (by
     simp only[VI,NT,hzs,Wh];rw[hlo,so,hsize,<-nO,<-nO];exact mJ sz aCs) O (by rw[hnew];omega)
  refine⟨_,_,_,_,hrun,hle,cE,?_⟩;have cV:=(bF.1 O).1;refine .rs (by rw[aO cV]) (by rw[aO (by rw[h.dH];exact cV)]) (bg _) hg λ_=>⟨rfl,?_,?_,?_⟩;rw[hnew];omega;rw[hnew];omega;simp
 cases D;cases D;cases D;rename_i xs tl;split at D
 · rename_i Ie
   obtain⟨EH,hfit⟩:=Ie;have R6:=MP hb0 hfit
   cases s'<;>first|(cases hs;done)|skip
   rename_i b l cp;cases b with
   |none=>cases hs
   |some sa=>
    have hs0:=hs;obtain⟨e1,hU,Aw,hcap⟩:=Jh hs (pQ EH);subst e1;obtain⟨olds,hro,HI⟩:=hU.vals h;have hlo:olds.length=xs.length*i.size:=by rw[<-hro.1,yt (pQ EH),hsize]
    have aoV:∀(j:Nat) v,olds[j]?=some v->w.cell? (sa.add j)=some v:=λj v hj=>by
     obtain⟨sb,aD,ayr⟩:=sa;have aqo:xs≠[]:=by
      intro e;subst e;have:=(bF.1 hj).1;rw[hlo] at this;simp at this
     have:=Aw aqo;subst this;rw[addr_add];exact HI j v hj
    have hrl:bY C M J (flat (xs++ys)) (olds++news):=by
     rw[ZP];refine⟨by rw[cG,cG,hro.1,q8.1],λk u v hu hv=>?_⟩
     rcases cH k (flat xs).length with S|S
     rw[ei S] at hu;rw[ei aEa] at hv;exact hro.2 k u v hu hv;rw[en S] at hu;rw[en aEa,<-hro.1] at hv;exact q8.2 _ u v hu hv
    have Mf:(olds++news).length=(xs.length+ys.length)*n:=by rw[cG,hlo,so,hsize,<-nO]
    have grow:=λcp Cm=>
     ahO (P:=P) w t tx ty e i z ht Q hz sa xs.length cp olds hlo aoV hsrc Cm aCs (growslice_fits Cm (by rw[hby];exact hfit))
    have hcells:∀cp,∀(i':Nat) v,(olds++news)[i']?=some v->(olds.toArray++news.toArray++xQ z.cells (grownCap w (xs.length+ys.length) cp e-(xs.length+ys.length)))[i']?=some v:=by
     intro cp i' v hv;have hl:=(bF.1 hv).1;rw[VH aCO];simpa using hv
    have hcsz:∀cp,grownCap w (xs.length+ys.length) cp e*n<=(olds.toArray++news.toArray++xQ z.cells (grownCap w (xs.length+ys.length) cp e-(xs.length+ys.length))).size:=by
     intro cp;have:=grownCap_le w (xs.length+ys.length) cp e;simp only[VI,NT,hzs,Wh];rw[hlo,so,hsize,<-nO,<-nO];exact mJ n aCs
    have aaN:∀{aC:Cells} {M':List Loc} {yA:List aa},bZ C M J aC M' yA->(∀j,j<(olds++news).length->aC w.heap.size (0+j)=(olds++news)[j]?)->k6 aC M' yA w.heap.size 0 (flat (xs++ys)):=by
     intro aC M' yA hle T j Qc Ck;obtain⟨v,e1,e2⟩:=hrl.get Ck;exact⟨v,by rw[T j (bF.1 e1).1];exact e1,e2.mono hle⟩
    have hlen:(xs++ys).length=xs.length+ys.length:=cG;split at D;cases D;cases hs with
    |sl f hsp hsz hC hR hT HG=>
     have Cm:=hT;subst Cm;have hg:=grownCap_le w (xs.length+ys.length) xs.length e;obtain⟨hle,cE⟩:=h.drew.Tu _ e (olds++news) (hcells xs.length) (xs.length+ys.length) n (grownCap w (xs.length+ys.length) xs.length e*n)
      (by rw[Mf];exact mJ n hg) (hcsz xs.length)
     refine⟨_,_,_,_,grow xs.length aCs,hle,cE,?_⟩;refine NH hlen.symm (pQ (TJ EH pM)) (aaN hle (λj hj=>by rw[V6,Cells.BM _ _ _ _ _ hj])) ?_ hg;refine⟨xs.length+ys.length,n,e,{b:=w.heap.size,fin:=(olds++news).length,cap:=grownCap w (xs.length+ys.length) xs.length e*n},aCt,aCP,bg _,az rfl,λ_=>⟨rfl,rfl,?_,?_⟩⟩;rw[Mf];simp;simp
    rename_i id;split at D;rename_i Qc s2 e2 hid;split at D;rename_i aoW;obtain⟨rfl,rfl,w8⟩:=aoW;rw[w8] at hid;cases D;cases hs with
    |sl f hsp hsz hC hR hT HG=>
     obtain⟨n1,s1,jR,L,q1,ah,aP,ec,gh⟩:=hT;rw[hid] at q1;cases q1;obtain⟨p1,p2,p3,gr⟩:=gh rfl;obtain⟨sb,aD,ayr⟩:=sa;have:=p1;subst this;have Sh:=p2;subst Sh;simp only at p3 gr;by_cases hroom:xs.length+ys.length<=cp;have ao6:L.fin+news.length<=L.cap:=by
      rw[<-p3,<-gr,so,hsize,kK,<-nO];exact Wj (mJ _ hroom) aD
     obtain⟨t1,t2,t3,t4,t5,t6⟩:=h.toks id xs.length s2 e L hid ah;have hrun:=run_append_room_src (P:=P) w t tx ty e i ht Q L.b aD xs.length cp x' ys.length news hsrc hroom
      (λj hj=>by rw[hsize,p3];obtain⟨⟨v,hv⟩,_⟩:=t5 (L.fin+j) aCs aCs;rw[hv];rfl)
      (λj hj=>by rw[hsize,p3];exact(t5 (L.fin+j) aCs aCs).2)
     rw[hsize,p3] at hrun;obtain⟨hle,cE⟩:=h.an7 news hid ah (n':=xs.length+ys.length) aCs ao6;refine⟨_,_,_,_,hrun,hle,cE,?_⟩;refine NH hlen.symm (pQ (TJ EH pM)) ?_ ?_ hroom;rw[ZP];refine k6.append (hU.mono hle) ?_;rw[yt (pQ EH),p3];intro j Qc Ck;obtain⟨v,e1,e2⟩:=q8.get Ck;exact⟨v,by rw[Cells.BM _ _ _ _ _ (bF.1 e1).1];exact e1,e2.mono hle⟩;have An:=(bF.1 hid).1;refine⟨xs.length+ys.length,s2,e,{L with fin:=L.fin+news.length},by rw[aO An],by rw[aO (by rw[h.dH];exact An)],bg _,az rfl,λ_=>⟨rfl,rfl,?_,gr⟩⟩
     show aD+(xs.length+ys.length)*s2=L.fin+news.length;rw[<-p3,so,hsize,kK,<-nO];have hg:=grownCap_le w (xs.length+ys.length) cp e;obtain⟨hle,cE⟩:=h.drew.auV _ e (olds++news) (hcells cp) hid (n':=xs.length+ys.length) aCs (cap:=grownCap w (xs.length+ys.length) cp e*s2)
      (by rw[Mf];exact mJ _ hg) (hcsz cp)
     refine⟨_,_,_,_,grow cp aCs,hle,cE,?_⟩;refine NH hlen.symm (pQ (TJ EH pM)) (aaN hle (λj hj=>by rw[V6,Cells.BM _ _ _ _ _ hj])) ?_ hg;have An:=(bF.1 hid).1;refine⟨xs.length+ys.length,s2,e,{b:=w.heap.size,fin:=(olds++news).length,cap:=grownCap w (xs.length+ys.length) cp e*s2},by rw[aO An],by rw[V6,aO (by rw[h.dH];exact An)],bg _,az rfl,λ_=>⟨rfl,rfl,?_,?_⟩⟩;rw[Mf];simp;simp
    cases D;cases D;cases D
 cases D;cases D
def Rb(hE:Ga P t e n aZ)(h:bu G base w0 C M J w){s:U}(hs:aI C M J s s')(I:aI C M J x x')
  (D:fA J n aZ e s x=some (r,hp')):e7 G base w0 C M J P (ur #[t,t] ty #[s',x']) w r hp':=by
 obtain⟨ht,i,z,Q,hsize,hby,hz,hzs⟩:=hE;unfold fA at D;split at D;cases D;rename_i ys hys;split at D;rename_i H_;subst H_;have hx0:∃a c,x'=.slice a 0 c:=by
  unfold contents at hys;split at hys;cases I;exact⟨_,_,rfl⟩;cases hys;cases I;exact⟨_,_,rfl⟩;cases hys
 obtain⟨a,c,rfl⟩:=hx0;have HQ:∀w,(VN n 0 (.slice a 0 c)).run P w=.ok #[] w:=by
  intro w;cases a with
  |none=>simp[VN]
  |some a=>simp[VN,loadCells,loadCellsFrom]
 have key:∀b m cp,m<=cp->(ur #[t,t] ty #[.slice b m cp,.slice a 0 c]).run P w=.ok (.slice b m cp) w:=by
  intro b m cp hm;cases b with
  |none=>simp[ur,run_underlying ht,sizeOf,typeInfo,Q,hsize,VO,hm,HQ]
  |some b=>simp[ur,run_underlying ht,sizeOf,typeInfo,Q,hsize,VO,hm,HQ,storeCells]
 split at D;cases D;cases hs;exact .same h (key _ _ _ (bg _)) .af;cases D;have hs0:=hs;cases hs with
 |sl f hsp hsz hC hR hT hcap=>exact .same h (key _ _ _ hcap) hs0
 cases D;have hs0:=hs;cases hs with
 |rs O hM hn hlc ha=>exact .same h (key _ _ _ hlc) hs0
 cases D;rename_i hne;split at D;rename_i hok;obtain⟨pM,hn0,hb0⟩:=hok;obtain⟨a,c,mz,HD,aoN⟩:∃(a:Addr) (c:Nat),x'=.slice (some a) ys.length c/\k6 C M J a.block a.off (flat ys)/\a.spot=none:=by
  unfold contents at hys;split at hys;cases hys;exact(hne rfl).elim
  · cases hys
    cases x'<;>first|(cases I;done)|skip
    rename_i b l cp;cases b with
    |none=>cases I
    |some a=>
     obtain⟨e1,e2,bW,cO⟩:=Jh I (pQ pM);exact⟨a,cp,by rw[e1],e2,bW hne⟩
  cases hys
 subst mz;obtain⟨ab,ao,zM⟩:=a;have:=aoN;subst this;obtain⟨news,q8,w6⟩:=HD.vals h;have so:news.length=ys.length*i.size:=by rw[<-q8.1,yt (pQ pM),hsize]
 have aoa:=q8.nY (avG pM);have RM:∀(j:Nat) v,news[j]?=some v->w.cell? ((⟨ab,ao,none⟩:Addr).add j)=some v:=λj v hj=>by rw[addr_add];exact w6 j v hj
 have hi':=Q;exact aai ⟨ht,i,z,Q,hsize,hby,hz,hzs⟩ h hs pM hn0 hb0 hne q8 (λi' aa4=>by rw[Q] at aa4;cases aa4;exact Src.ofSlice w ht ⟨ab,ao,none⟩ ys.length c news so RM aoa) D;cases D
def zR(b:ByteArray):List U:=b.data.toList.map λc=>.v (.int .u8 c.toNat)
def Yf(b:ByteArray):(zR b).length=b.size:=by
 unfold zR;rw[bX,aiX];rfl
def Ye:∀l:List UInt8,flat (l.map λc=>U.v (.int .u8 c.toNat))=l.map λc=>U.v (.int .u8 c.toNat)
 |[]=>rfl
 |c::r=>by
  have:=Ye r;simp only[flat,ep,List.flatMap_cons] at this⊢;rw[this];rfl
def ye(J:List aa)(aZ:Nat)(e:TypeId)(s x:U):Option (U×List aa):=
 match x with
 |.v (.string b)=>if b.size=0 then(match s with|.af|.sl _ _=>some (s,J)|_=>none)
  else match s with
   |.af|.sl _ _=>if 0<aZ then gp J 1 aZ e s (zR b) else none
   |_=>none
 |_=>none
def anu{u:TypeId}(hE:Ga P t e 1 aZ)(hu:P.underlying u=some .string)(h:bu G base w0 C M J w){s:U}(hs:aI C M J s s')(I:aI C M J x x')
  (D:ye J aZ e s x=some (r,hp')):e7 G base w0 C M J P (ur #[t,u] ty #[s',x']) w r hp':=by
 have mq:=hE;obtain⟨ht,i,z,Q,hsize,hby,hz,hzs⟩:=hE;unfold ye at D;split at D;rename_i b;cases I;split at D;rename_i h0;have HQ:∀w,(VN 1 0 (.string b)).run P w=.ok #[] w:=by
  intro w;have:=firstCells_string (P:=P) b w;have O:=lG (by rw[byteCells_length,h0]);rw[h0,O] at this;exact this
 have key:∀b' m cp,m<=cp->(ur #[t,u] ty #[.slice b' m cp,.string b]).run P w=.ok (.slice b' m cp) w:=by
  intro b' m cp hm;cases b' with
  |none=>simp[ur,run_underlying ht,run_underlying hu,sizeOf,typeInfo,Q,hsize,VO,h0,hm,HQ]
  |some b'=>simp[ur,run_underlying ht,run_underlying hu,sizeOf,typeInfo,Q,hsize,VO,h0,hm,HQ,storeCells]
 split at D;cases D;cases hs;exact .same h (key _ _ _ (bg _)) .af;cases D;have hs0:=hs;cases hs with
 |sl f hsp hsz hC hR hT hcap=>exact .same h (key _ _ _ hcap) hs0
 cases D;rename_i h0;have fin:∀{r:U},0<aZ->gp J 1 aZ e s (zR b)=some (r,hp')->e7 G base w0 C M J P (ur #[t,u] ty #[s',.string b]) w r hp':=by
  intro r hb0 D;refine aai mq h hs (ys:=zR b) (news:=ajj b) ?_ aCu hb0 ?_ ?_ (λi' hi'=>?_) D;unfold bS;rw[c7];intro x I;unfold zR at I;obtain⟨c,_,rfl⟩:=cI.1 I;rfl;intro q;have:=Yf b;rw[q] at this;exact h0 this.symm;unfold zR;rw[Ye];refine⟨by simp[ajj],λi x y I hy=>?_⟩;simp only[ajj,eo] at I hy;cases hq:b.data.toList[i]? with
  |none=>rw[hq] at I;cases I
  |some c=>
   rw[hq] at I hy;cases I;cases hy;exact .v rfl
  rw[Q] at hi';cases hi';rw[hsize,Yf];exact Src.ofString w hu b
 split at D;split at D;rename_i q;exact fin q D;cases D;split at D;rename_i q;exact fin q D;cases D;cases D;cases D
end
section
variable{G:Cells}{base:Nat}{w0:jh}{w:World}{C:Cells}{M:List Loc}{J:List aa}{P:Program}
def iH(top dflt:Nat):Option Int->Option Nat
 |some v=>if 0<=v/\v<=top then some v.toNat else none
 |none=>some dflt
def mC:Option U->Option (Option Int)
 |none=>some none
 |some (.v (.int _ i))=>some (some i)
 |_=>none
def kC(len cap:Nat)(lo Q mx:Option Int):Option (Nat×Nat×Nat):=
 match iH cap cap mx with
 |none=>none
 |some m=>if mx.isSome&&Q.isNone then none else
  match iH m len Q with
  |none=>none
  |some h=>match iH h 0 lo with
   |none=>none
   |some l=>some (l,h,m)
def zA(C:Cells)(M:List Loc)(J:List aa):Option U->Option Value->Prop
 |none,none=>True
 |some a,some b=>aI C M J a b
 |_,_=>False
def IY{a:Option U}{b:Option Value}(h:zA C M J a b)(Q:mC a=some i):(b=none/\i=none)\/∃k n,b=some (.int k n)/\i=some n:=by
 unfold mC at Q;split at Q;cases Q;cases b with
 |none=>exact ax ⟨rfl,rfl⟩
 |some b=>exact h.elim
 cases Q;cases b with
 |none=>exact h.elim
 |some b=>cases h;exact az ⟨_,_,rfl,rfl⟩
 cases Q
def yZ{k:IntKind}{n:Int}{r:Nat}(code:BoundsCode)(h:iH top d (some n)=some r)(w:World):(Instr.sliceBound (.int k n) top code).run P w=.ok r w:=by
 unfold iH at h;simp only at h;split at h;rename_i O;cases h;exact run_sliceBound w k n top code O.1 O.2;cases h
def P4{r:Nat}(hd:d<=top)(h:iH top d i=some r):r<=top:=by
 unfold iH at h;split at h;split at h;cases h;omega;cases h;cases h;exact hd
def NO{isSlice:Bool}{cap':Nat}{lo Q mx:Option Value}{lo' hi' ri:Option Int}{l h:Nat}(hlo:(lo=none/\lo'=none)\/∃k n,lo=some (.int k n)/\lo'=some n)
  (hhi:(Q=none/\hi'=none)\/∃k n,Q=some (.int k n)/\hi'=some n) (Aq:(mx=none/\ri=none)\/∃k n,mx=some (.int k n)/\ri=some n) (hlc:len<=cap) (Ck:cap<=cap')
  (O:kC len cap lo' hi' ri=some (l,h,m)) (w:World):
  (ai6 isSlice len cap' lo Q mx).run P w=.ok (l,h,if ri.isSome then m else cap') w/\l<=h/\h<=m/\m<=cap/\(ri=none->m=cap):=by
 unfold kC at O;split at O;cases O;rename_i m₀ hm;split at O;cases O;rename_i jL;split at O;cases O;rename_i h₀ hh;split at O;cases O;rename_i aB3 hl;cases O;have u7:=P4 (bg _) hm;have P3:∀{top top' d r:Nat} {n:Int},top<=top'->iH top d (some n)=some r->iH top' d (some n)=some r:=by
  intro top top' d r n ht hq;unfold iH at hq⊢;simp only at hq⊢;split at hq;rename_i q;rw[if_pos ⟨q.1,aCs⟩];exact hq;cases hq
 have abh:=P4 (iE _) hl
 rcases Aq with⟨rfl,rfl⟩|⟨km,nm,rfl,rfl⟩
 have hm0:m=cap:=by cases hm;rfl
 subst hm0;have RY:=P4 hlc hh;refine⟨?_,abh,RY,bg _,λ_=>rfl⟩;unfold ai6
 rcases hhi with⟨rfl,rfl⟩|⟨kh,avg,rfl,rfl⟩<;>rcases hlo with⟨rfl,rfl⟩|⟨kl,nl,rfl,rfl⟩
 cases hh;cases hl;simp;cases hh;simp[yZ (P:=P) _ hl];cases hl;simp[yZ (P:=P) _ (P3 Ck hh)];simp[yZ (P:=P) _ (P3 Ck hh),yZ (P:=P) _ hl]
 rcases hhi with⟨rfl,rfl⟩|⟨kh,avg,rfl,rfl⟩
 simp at jL;have RY:h<=m:=by
  unfold iH at hh;simp only at hh;split at hh;cases hh;omega;cases hh
 refine⟨?_,abh,RY,u7,λq=>aCE⟩;unfold ai6;have hm':=P3 (d:=cap) (r:=m) Ck (by unfold iH at hm⊢;exact hm);have abj:iH cap' cap' (some nm)=some m:=by unfold iH at hm'⊢;exact hm'
 rcases hlo with⟨rfl,rfl⟩|⟨kl,nl,rfl,rfl⟩
 cases hl;simp[yZ (P:=P) _ abj,yZ (P:=P) _ hh];simp[yZ (P:=P) _ abj,yZ (P:=P) _ hh,yZ (P:=P) _ hl]
def Bc(t:iU)(len l h m:Nat)(mx:Bool):iU:=
 if mx then(if m=h then .exact else .no)
 else if h=len then(if l=0 then t else match t with|.exact=>.exact|_=>.no) else .no
def kR(n:Nat)(x:U)(lo Q mx:Option U):Option U:=
 match mC lo,mC Q,mC mx with
 |some l',some h',some m'=>match x with
  |.af=>match kC 0 0 l' h' m' with
   |some _=>some .af
   |none=>none
  |.sl xs t=>match kC xs.length xs.length l' h' m' with
   |some (l,h,m)=>if xs.all (λx=>x.cells.length==n) then some (.sl ((xs.take h).drop l) (Bc t xs.length l h m m'.isSome)) else none
   |none=>none
  |.rs k m sz off len=>if sz=n/\m'.isNone then match kC len len l' h' none with
   |some (l,h,_)=>if l=0 then some (.rs k m n off h) else if l<len then some (.rs k m n (off+l*n) (h-l)) else some (.sl [] .no)
   |none=>none
   else none
  |.v (.string s)=>if mx.isSome then none else match kC s.size s.size l' h' none with
   |some (l,h,_)=>some (.v (.string (s.extract l h)))
   |none=>none
  |_=>none
 |_,_,_=>none
def ZT:∀{zs:List U},(∀z∈zs,z.cells.length=n)->∀k,flat (zs.take k)=(flat zs).take (k*n)
 |[],_,k=>aFg
 |z::r,h,k=>by
  cases k with
  |zero=>simp[flat]
  |succ k=>
   rw[sQ,yq,yq,ZT (λx I=>h x aCG),nO,Bz,List.take_append,h z aCt,show k*n+n-n=k*n by omega,
    lH (l:=z.cells) (by rw[h z aCt];omega)]
def ZQ:∀{zs:List U},(∀z∈zs,z.cells.length=n)->∀k,flat (zs.drop k)=(flat zs).drop (k*n)
 |[],_,k=>aFg
 |z::r,h,k=>by
  cases k with
  |zero=>simp
  |succ k=>
   rw[xW,yq,ZQ (λx I=>h x aCG),nO,Bz,List.drop_append,h z aCt,show k*n+n-n=k*n by omega,
    sO (l:=z.cells) (by rw[h z aCt];omega),eH]
def anv(ht:P.underlying t=some (.slice e))(hn:gV P e=some n)(h:bu G base w0 C M J w)(I:aI C M J x x')
  (hlo:zA C M J lo lo') (hhi:zA C M J Q hi') (Aq:zA C M J mx ri) (Ia:∀s,x≠.v (.string s)) (D:kR n x lo Q mx=some r):e7 G base w0 C M J P (Dw t x' lo' hi' ri) w r J:=by
 unfold kR at D;split at D;rename_i l₁ h₁ m₁ el eh em;have bx:=IY hlo el;have ch:=IY hhi eh;have r5:=IY Aq em;split at D;split at D;rename_i q hq;obtain⟨l,hh,m⟩:=q;cases D;cases I;obtain⟨hrun,c1,c2,c3,c4⟩:=NO (P:=P) (isSlice:=true) bx ch r5 (bg 0) (bg 0) hq w;have hm:m=0:=aCs
 have hl:l=0:=aCs
 have qt:hh=0:=aCs
 subst hm;subst hl;subst qt;refine .same h ?_ .af;simp[Dw,JT,run_underlying ht,hrun,nI hn];cases D;rename_i xs tl;split at D;rename_i l hh m hq;split at D
 · rename_i hall
   cases D;have HC:∀z∈xs,z.cells.length=n:=by
    intro z hz;have:=c7.1 hall z hz;simpa using this
   cases x'<;>first|(cases I;done)|skip
   rename_i b len cap;cases b with
   |none=>cases I
   |some a=>
    obtain⟨e1,hU,Aw,hcap⟩:=Jh I HC;subst e1;obtain⟨hrun,c1,c2,c3,c4⟩:=NO (P:=P) (isSlice:=true) bx ch r5 (bg _) hcap hq w;refine⟨C,M,_,w,aD7,bZ.refl _ _ _,h,?_⟩;have hlen:((xs.take hh).drop l).length=hh-l:=aCv
    have hsub:∀z∈(xs.take hh).drop l,z.cells.length=n:=λz hz=>HC z (Bx (rN hz));generalize hM:(if m₁.isSome=true then m else cap)=m';have hm':hh<=m':=by rw[<-hM];split<;>omega
    by_cases hml:m'=l;rw[if_pos hml];have RX:hh=l:=aCs
    subst RX;have he:(xs.take hh).drop hh=[]:=by apply lG;omega
    rw[he,hml,kL];refine .sl (xs:=[]) (sz:=n) (λ_ _=>undef) (λq=>(q rfl).elim) (λi x I=>aCN) (λi x j c I=>aCN) (λi x j c I=>aCN) ?_ (bg _);unfold Bc;split;split<;>simp[rW];rename_i ED;simp only[ED,je,if_false] at hM;split;rename_i aa3;split;rename_i hl0;have hx0:xs=[]:=by apply lG;omega
    subst hx0;cases I with
    |sl f hsp hsz hC hR hT HG=>
     cases tl with
     |exact=>simp[rW]
     |no=>simp[rW]
     |tok id=>
      obtain⟨n1,s1,jR,L,q1,ah,aP,ec,gh⟩:=hT;refine⟨n1,s1,jR,L,q1,ah,aP,ax rfl,λq=>?_⟩;obtain⟨p1,p2,p3,gr⟩:=gh q;refine⟨p1,p2,p3,?_⟩;have:cap=0:=aCs
      rw[this] at gr;simpa using gr
    split<;>simp[rW];simp[rW];rw[if_neg hml];have aBC:l<m':=aCs
    obtain⟨ab,ao,zM⟩:=a;have hsp:zM=none\/(xs=[]\/True):=az (az trivial);by_cases q9:xs=[];subst q9;have hl0:l=0:=by simp at c3 c2;omega
    have qt:hh=0:=by simp at c3;omega
    subst hl0;subst qt;have RC:(⟨ab,ao,zM⟩:Addr).add (0*n)=⟨ab,ao,zM⟩:=by simp[Addr.add]
    rw[RC];simp only[List.take_nil,List.drop_nil,DH];refine .sl (xs:=[]) (sz:=n) (λ_ _=>undef) (λq=>(q rfl).elim) (λi x I=>aCN) (λi x j c I=>aCN) (λi x j c I=>aCN) ?_ (iE _);unfold Bc;split;rename_i Sa;simp only[Sa,if_true] at hM;have:m=0:=by simp at c3;omega
    omega;rename_i ED;simp only[ED,je,if_false] at hM;subst hM;simp only[fI,if_true];cases I with
    |sl f hsp hsz hC hR hT HG=>
     cases tl with
     |exact=>exact hT
     |no=>trivial
     |tok id=>
      obtain⟨n1,s1,jR,L,q1,ah,aP,ec,gh⟩:=hT;exact⟨n1,s1,jR,L,q1,ah,aP,ax rfl,gh⟩
    have aqc:=Aw q9;subst aqc;rw[addr_add];refine NH hlen.symm hsub ?_ ?_ aCs;rw[ZQ (n:=n) (λz hz=>HC z (Bx hz)),ZT HC];exact(hU.take _).drop _;unfold Bc;split;rename_i Sa;simp only[Sa,if_true] at hM;split;simp only[rW];omega;trivial;rename_i ED;simp only[ED,je,if_false] at hM;subst hM;split;rename_i aa3;split;rename_i hl0;subst hl0;subst aa3;cases I with
    |sl f hsp hsz hC hR hT HG=>
     rename_i sz;have:sz=n:=by
      cases xs with
      |nil=>exact(q9 rfl).elim
      |cons z r=>rw[<-hsz 0 z rfl];exact HC z aCt
     subst this;simpa using hT
    cases tl with
    |exact=>
     cases I with
     |sl f hsp hsz hC hR hT HG=>
      have aBj:cap=xs.length:=hT;simp only[rW];omega
    |no=>trivial
    |tok id=>trivial
    trivial
 cases D;cases D;rename_i k m sz off len;split at D;rename_i hlc;obtain⟨rfl,hmn⟩:=hlc;have hm0:m₁=none:=by cases m₁<;>simp at hmn⊢
 subst hm0;split at D;rename_i l hh qz hq;cases I with
 |rs O hM hn' hlc ha=>
  rename_i cap L Z a;obtain⟨hrun,c1,c2,c3,c4⟩:=NO (P:=P) (isSlice:=true) bx ch r5 (bg _) hlc hq w;simp only[x4,je,if_false] at hrun;split at D;rename_i hl0;cases D;subst hl0;have hR:aI C M J (.rs k m sz off hh) (.slice (some a) hh cap):=.rs O hM hn' aCs λq=>by
   obtain⟨a1,a2,a3,a4⟩:=ha q;refine⟨a1,fy (Wj (mJ _ aCs) _) a2,a3,a4⟩
  refine .same h ?_ hR;simp only[Dw,JT,eG,kj,run_underlying ht,hrun,nI hn,eO];simp[Addr.add];split at D;rename_i hl0 mU;cases D;have hR:aI C M J (.rs k m sz (off+l*sz) (hh-l)) (.slice (some (a.add (l*sz))) (hh-l) (cap-l)):=.rs O hM hn' aCs λq=>by
   obtain⟨a1,a2,a3,a4⟩:=ha q;have e1:off+l*sz+(hh-l)*sz=off+hh*sz:=by rw[kK,<-nO];congr 2;omega
   have e2:off+l*sz+(cap-l)*sz=off+cap*sz:=by rw[kK,<-nO];congr 2;omega
   refine⟨by rw[a1,addr_add],?_,by rw[e2];exact a3,by rw[e2];exact a4⟩;rw[e1];exact fy (Wj (mJ _ aCs) _) a2
  refine .same h ?_ hR;have hcl:cap≠l:=aCs
  simp[Dw,JT,run_underlying ht,hrun,nI hn,hcl]
  · cases D
    have RX:hh=l:=aCs
    subst RX;refine⟨C,M,_,w,aD7,bZ.refl _ _ _,h,?_⟩;split
    all_goals exact .sl (xs:=[]) (sz:=sz) (λ_ _=>undef) (λq=>(q rfl).elim) (λi x I=>aCN) (λi x j c I=>aCN) (λi x j c I=>aCN) trivial (iE _)
 cases D;cases D;rename_i s;exact(Ia s rfl).elim;cases D;cases D
def anw(ht:P.underlying t=some .string)(h:bu G base w0 C M J w)(I:aI C M J x x')
  (hlo:zA C M J lo lo') (hhi:zA C M J Q hi') (Aq:zA C M J mx ri) (hs:∃s,x=.v (.string s)) (D:kR n x lo Q mx=some r):e7 G base w0 C M J P (Dw t x' lo' hi' ri) w r J:=by
 obtain⟨s,rfl⟩:=hs;cases I;unfold kR at D;split at D;rename_i l₁ h₁ m₁ el eh em;have bx:=IY hlo el;have ch:=IY hhi eh;simp only at D;split at D;cases D;rename_i hmn;have apO:mx=none:=by cases mx<;>simp at hmn⊢
 subst apO
 have jx:ri=none:=by cases ri with|none=>rfl|some b=>exact Aq.elim
 subst jx;split at D;rename_i l hh m hq;cases D;obtain⟨hrun,c1,c2,c3,c4⟩:=NO (P:=P) (isSlice:=false) bx ch (ax ⟨rfl,rfl⟩) (bg _) (bg _) hq w;exact .same h (by simp[Dw,JT,run_underlying ht,hrun]) (.v rfl);cases D;cases D
end
end
end Go.aH

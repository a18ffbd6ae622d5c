/- Part 1 of a proof. No condition. -/
import Derived.Below
import Derived.Calls
import Derived.Tactics
import Derived.Laws.Append
import Derived.ArgAppend
import Derived.Deep.AppendSrc
import Derived.Laws.StructEq
import Derived.Laws.Slices
import Derived.Laws.BytesString
import Derived.Lib.UnsafeStr
set_option linter.unusedVariables false
set_option linter.unusedSimpArgs false
set_option linter.defProp false
namespace Go
def aBH{p:Prop}(h:p:=by omega):p:=h
def aBI{p:Prop}(h:p:=by simp):p:=h
def aBJ{p:Prop}(h:p:=by decide):p:=h
def aBK{p:Prop}(h:p:=by simp;omega):p:=h
def aBL{p:Prop}(h:p:=by kernel_rfl):p:=h
def aBM{p:Prop}(h:p:=by rw[wrap_i64 (by omega) (by omega)];omega):p:=h
def aBN{p:Prop}(h:p:=by simpa using q):p:=h
def aBO{p:Prop}(h:p:=by repeat' first|kernel_rfl|(intros;kernel_rfl)|constructor):p:=h
def aBP{p:Prop}(h:p:=by rw[wrap_i64 (by omega) (by omega)];rfl):p:=h
def aBQ{p:Prop}(h:p:=by simp at q;omega):p:=h
def aBR{p:Prop}(h:p:=by simp at h):p:=h
def aBS{p:Prop}(h:p:=by rw[av (by intro q;subst q;rw[hk] at hb;cases hb)];exact hb):p:=h
def aBT{p:Prop}(h:p:=by cases q):p:=h
def aBU{p:Prop}(h:p:=by simp[hx]):p:=h
def aBV{p:Prop}(h:p:=by rcases hA with⟨rfl,_⟩|⟨_,rfl,_⟩<;>rfl):p:=h
def aBW{p:Prop}(h:p:=by rw[qO _ _ _ (by exact h2)];exact a1):p:=h
def aBX{p:Prop}(h:p:=by cases e):p:=h
def aBY{p:Prop}(h:p:=by simpa using h2):p:=h
def aBZ{p:Prop}(h:p:=by show(0:Int)<=(a);omega):p:=h
def aB0{p:Prop}(h:p:=by simpa using hb):p:=h
def aB1{p:Prop}(h:p:=by cases h):p:=h
def aB2{p:Prop}(h:p:=by simp at hx):p:=h
def aB3{p:Prop}(h:p:=by intro q;subst q;rw[hk] at hb;cases hb):p:=h
def aB4{p:Prop}(h:p:=by rw[st,if_pos ⟨by omega,by omega⟩]):p:=h
def aB5{p:Prop}(h:p:=by simpa using hl):p:=h
def aB6{p:Prop}(h:p:=by rw[<-h.dK];simp):p:=h
def aB7{p:Prop}(h:p:=by simp[j9] at h):p:=h
def aB8{p:Prop}(h:p:=by simpa using ah):p:=h
def aB9{p:Prop}(h:p:=by simp[hy]):p:=h
def aB_{p:Prop}(h:p:=by simp only[cF]):p:=h
def aCa{p:Prop}(h:p:=by simpa using z):p:=h
def aCb{p:Prop}(h:p:=by rw[DI _ _ _ (by show L.b≠_;omega)];exact q1 i):p:=h
def aCc{p:Prop}(h:p:=by cases h;exact⟨rfl,λi a b h=>by simp at h⟩):p:=h
def aCd{p:Prop}(h:p:=by rw[DI _ _ _ (by show L.b≠_;omega)];exact a2):p:=h
def aCe{p:Prop}(h:p:=by simp only[aq,h.b];rfl):p:=h
def aCf{p:Prop}(h:p:=by unfold OK;simp only[eH,run_underlying hd,eP];cases d<;>first|(exact(hni _ rfl).elim)|simp):p:=h
def aCg{p:Prop}(h:p:=by simp only[aF,hb];rfl):p:=h
def aCh{p:Prop}(h:p:=by rw[qO _ _ _ (by exact h2)];exact aN.1 o ho):p:=h
def aCi{p:Prop}(h:p:=by simpa using hlen):p:=h
def aCj{p:Prop}(h:p:=by simpa using hi):p:=h
def aCk{p:Prop}(h:p:=by show L.b≠_;omega):p:=h
def aCl{p:Prop}(h:p:=by rw[ln hp,kN]):p:=h
def aCm{p:Prop}(h:p:=by rw[eX];exact dO):p:=h
def aCn{p:Prop}(h:p:=by simpa using h):p:=h
def aCo{p:Prop}(h:p:=by simp[dN] at h):p:=h
def aCp{p:Prop}(h:p:=by simp[hq]):p:=h
def aCq{p:Prop}(h:p:=by simp[ct,j5]):p:=h
def aCr{p:Prop}(h:p:=by rw[aR hl];simp):p:=h
def aCs{p:Prop}(h:p:=by rcases q with rfl|⟨rfl,_⟩<;>rfl):p:=h
def aCt{p:Prop}(h:p:=by unfold lT at dO⊢;rw[eX];exact dO):p:=h
def aCu{p:Prop}(h:p:=by rw[s0];rfl):p:=h
def aCv{p:Prop}(h:p:=by rw[av e];exact hj):p:=h
def aCw{p:Prop}(h:p:=by rw[jz q];exact hb):p:=h
def aCx{p:Prop}(h:p:=by rw[jz q];exact hM):p:=h
def aCy{p:Prop}(h:p:=by grind):p:=h
def aCz{p:Prop}(h:p:=by decide +kernel):p:=h
def aCA{p:Prop}(h:p:=by exact h2):p:=h
def aCB{p:Prop}(h:p:=by intro e;rw[e] at bh;simp at bh):p:=h
def aCC{p:Prop}(h:p:=by rw[cr.1 hy];exact⟨hx1,hx2⟩):p:=h
def aCD{p:Prop}(h:p:=by cases i with|zero=>cases q1;cases ah;exact hx|succ i=>cases q1):p:=h
def aCE{p:Prop}(h:p:=by apply qL;simp):p:=h
def aCF{p:Prop}(h:p:=by unfold oF;rw[cO];exact⟨e,by rw[l7];exact⟨he,hb⟩,rfl⟩):p:=h
def aCG{p:Prop}(h:p:=by show(1:Int)<=5;decide):p:=h
def aCH{p:Prop}(h:p:=by rw[put_defers];exact h.defers.mono hle):p:=h
def aCI{p:Prop}(h:p:=by simp[e1]):p:=h
def aCJ{p:Prop}(h:p:=by simp[cq]):p:=h
def aCK{p:Prop}(h:p:=by rw[hvs];exact Nat.mod_lt _ (by omega)):p:=h
def aCL{p:Prop}(h:p:=by rcases h.v with rfl|⟨rfl,_⟩<;>rfl):p:=h
def aCM{p:Prop}(h:p:=by simpa using he):p:=h
def aCN{p:Prop}(h:p:=by simpa using q1):p:=h
def aCO{p:Prop}(h:p:=by rw[av (by omega)];exact h0):p:=h
def aCP{p:Prop}(h:p:=by simp only[VI,NX,hzs,Wf,EG,<-nS];exact mK n (by omega)):p:=h
def aCQ{p:Prop}(h:p:=by cases ys with|nil=>exact(hne rfl).elim|cons _ _=>simp):p:=h
def aCR{p:Prop}(h:p:=by rw[av (by omega)];exact q):p:=h
def aCS{p:Prop}(h:p:=by simp[hw]):p:=h
def aCT{p:Prop}(h:p:=by rw[av (by rintro rfl;rw[h1] at q;simp at q)];exact q):p:=h
def aCU{p:Prop}(h:p:=by rw[hi];exact hz):p:=h
def aCV{p:Prop}(h:p:=by cases neg<;>rfl):p:=h
def aCW{p:Prop}(h:p:=by rw[cq]):p:=h
def aCX{p:Prop}(h:p:=by rcases jv with rfl|⟨rfl,_⟩<;>exact⟨rfl,rfl⟩):p:=h
def aCY{p:Prop}(h:p:=by simp at h⊢;omega):p:=h
def aCZ{p:Prop}(h:p:=by have:=hI.ne;rw[cB,nq] at z;omega):p:=h
def aC0{p:Prop}(h:p:=by rw[cB];omega):p:=h
def aC1{p:Prop}(h:p:=by have:=he.1;simp at this):p:=h
def aC2{p:Prop}(h:p:=by simp[binOp,J5]):p:=h
def aC3{p:Prop}(h:p:=by simpa using ha):p:=h
def aC4{p:Prop}(h:p:=by simpa using h4):p:=h
def aC5{p:Prop}(h:p:=by simpa using dI):p:=h
def aC6{p:Prop}(h:p:=by simp[dA,bV,gm,bn]):p:=h
def aC7{p:Prop}(h:p:=by have:=(bE.1 hj).1;have:=h2.1;simp at this;omega):p:=h
def aC8{p:Prop}(h:p:=by show 0<=12;omega):p:=h
def aC9{p:Prop}(h:p:=by rintro rfl;rw[hk] at hj;cases hj;exact hb _ rfl):p:=h
def aC_{p:Prop}(h:p:=by simp[h1]):p:=h
def aDa{p:Prop}(h:p:=by simp[zeroValue,typeInfo,hi,hv]):p:=h
def aDb{p:Prop}(h:p:=by simp[hb]):p:=h
def aDc{p:Prop}(h:p:=by cases hx):p:=h
def aDd{p:Prop}(h:p:=by intro e;subst e;rw[hk] at hj;cases hj;cases ho):p:=h
def aDe{p:Prop}(h:p:=by intro e;subst e;rw[hk] at hj;cases hj;cases hb):p:=h
def aDf{p:Prop}(h:p:=by rw[bN,Oc q,wrap_i64 (by omega) (by omega)];rfl):p:=h
def aDg{p:Prop}(h:p:=by rw[<-hro.1];exact hk):p:=h
def aDh{p:Prop}(h:p:=by have:=Cu.1;simp at this;omega):p:=h
def aDi{p:Prop}(h:p:=by simpa using c_.1 this.2 i (by simpa using hi)):p:=h
def aDj{p:Prop}(h:p:=by rw[av (by omega)];exact h.out):p:=h
def aDk{p:Prop}(h:p:=by cases bg<;>first|rfl|cases ho):p:=h
def aDl{p:Prop}(h:p:=by rcases dO with⟨rfl,_⟩|⟨_,rfl,_⟩<;>rfl):p:=h
def aDm{p:Prop}(h:p:=by rw[bN,step2 q,wrap_i64 (by omega) (by omega)]):p:=h
def aDn{p:Prop}(h:p:=by have:=s.n;rw[Aq] at this;exact(gT this).2.2.1):p:=h
def aDo{p:Prop}(h:p:=by rw[sI];exact⟨trivial,λx hx=>by cases hx⟩):p:=h
def aDp{p:Prop}(h:p:=by simp at ah;omega):p:=h
def aDq{p:Prop}(h:p:=by simp[DC,J3,run_underlying ht,hrun,nN hn];rfl):p:=h
def aDr{p:Prop}(h:p:=by cases w<;>first|rfl|cases hw):p:=h
def aDs{p:Prop}(h:p:=by cases x<;>first|rfl|cases hx):p:=h
def aDt{p:Prop}(h:p:=by rw[<-h1.1];exact hk):p:=h
def aDu{p:Prop}(h:p:=by simp only[aq,Dw];rfl):p:=h
def aDv{p:Prop}(h:p:=by have:=z.s.n;rw[Aq] at this;exact(gT this).1):p:=h
def aDw{p:Prop}(h:p:=by rw[hout _ _ (λq=>hb q.1)];exact aN.1 o ho):p:=h
def aDx{p:Prop}(h:p:=by simpa using h.1):p:=h
def aDy{p:Prop}(h:p:=by have:=hr.1;simpa using this):p:=h
def aDz{p:Prop}(h:p:=by simp[cW]):p:=h
def aDA{p:Prop}(h:p:=by simp[F3,run_underlying he]):p:=h
def aDB{p:Prop}(h:p:=by unfold eqGuard;split<;>rfl):p:=h
def aDC{p:Prop}(h:p:=by have:=h.1;simpa using this):p:=h
def aDD{p:Prop}(h:p:=by apply qL;simpa using hargs):p:=h
def aDE{p:Prop}(h:p:=by rw[av (by omega)];exact n9):p:=h
def aDF{p:Prop}(h:p:=by rw[av (by omega)];exact vb):p:=h
def aDG{p:Prop}(h:p:=by first|(cases q;done)|omega):p:=h
def aDH{p:Prop}(h:p:=by rw[av (by omega)];exact k0):p:=h
def aDI{p:Prop}(h:p:=by unfold pz;dsimp only;omega):p:=h
def aDJ{p:Prop}(h:p:=by rw[<-e,hk] at q;cases q;exact hne _ rfl):p:=h
def aDK{p:Prop}(h:p:=by rw[av (by omega),av (by omega)];exact h0):p:=h
def aDL{p:Prop}(h:p:=by simp;exact λa b=>hne.elim (· a) (· b)):p:=h
def aDM{p:Prop}(h:p:=by rw[av (by omega),av (by omega)];exact k0):p:=h
def aDN{p:Prop}(h:p:=by simpa using h1):p:=h
def aDO{p:Prop}(h:p:=by simpa using h3):p:=h
def aDP{p:Prop}(h:p:=by simpa using hn):p:=h
def aDQ{p:Prop}(h:p:=by have:=q Da;have:=g Da;have:=g' Da;omega):p:=h
def aDR{p:Prop}(h:p:=by obtain⟨es,bw,m1,_⟩:=h.m;exact gl m1):p:=h
def aDS{p:Prop}(h:p:=by first|rfl|(exfalso;omega)):p:=h
def aDT{p:Prop}(h:p:=by rw[hcs];rfl):p:=h
def aDU{p:Prop}(h:p:=by simp at hz;obtain⟨n,_,rfl⟩:=hz;rfl):p:=h
def aDV{p:Prop}(h:p:=by intro e;subst e;rw[hk] at hj;cases hj):p:=h
def aDW{p:Prop}(h:p:=by simp[binOp,OM,tB]):p:=h
def aDX{p:Prop}(h:p:=by rw[put_defers];exact h.defers.mono h3):p:=h
def aDY{p:Prop}(h:p:=by simp only[b9,hk,hm,if_true,h n hn,ie]):p:=h
def aDZ{p:Prop}(h:p:=by simpa using e):p:=h
def aD0{p:Prop}(h:p:=by apply qL;simpa using Iu):p:=h
def aD1{p:Prop}(h:p:=by simp at hc):p:=h
def aD2{p:Prop}(h:p:=by simp at hk):p:=h
def aD3{p:Prop}(h:p:=by rw[Wi];exact Nat.mul_le_mul_left _ z):p:=h
def aD4{p:Prop}(h:p:=by obtain⟨l,q,_⟩:=h;exact(vH q).one):p:=h
def aD5{p:Prop}(h:p:=by rw[hout _ _ (λq=>hb q.1)];exact b1):p:=h
def aD6{p:Prop}(h:p:=by rw[av e];exact h):p:=h
def aD7{p:Prop}(h:p:=by simp only[qD,eC,h1,ie]):p:=h
def aD8{p:Prop}(h:p:=by rw[av (dr hj)];exact h):p:=h
def aD9{p:Prop}(h:p:=by rw[av (dr hj)];exact q):p:=h
def aD_{p:Prop}(h:p:=by show(5:Int)<=5;decide):p:=h
def aEa{p:Prop}(h:p:=by rw[Dp];exact a2):p:=h
def aEb{p:Prop}(h:p:=by rw[e5];exact a1):p:=h
def aEc{p:Prop}(h:p:=by simpa using hlf):p:=h
def aEd{p:Prop}(h:p:=by simpa using hlc):p:=h
def aEe{p:Prop}(h:p:=by rw[av (ne q)];exact q):p:=h
def aEf{p:Prop}(h:p:=by rw[av (IY q)];exact q):p:=h
def aEg{p:Prop}(h:p:=by rw[cr.1 hy];exact hst):p:=h
def aEh{p:Prop}(h:p:=by rw[jA (by omega)];rfl):p:=h
def aEi{p:Prop}(h:p:=by simp[mT,eL]):p:=h
def aEj{p:Prop}(h:p:=by rw[cr.1 hy];exact hx):p:=h
def aEk{p:Prop}(h:p:=by rw[hfr];simp<;>omega):p:=h
def aEl{p:Prop}(h:p:=by rw[hfl];simp<;>omega):p:=h
def aEm{p:Prop}(h:p:=by simpa using aN):p:=h
def aEn{p:Prop}(h:p:=by simpa using hf):p:=h
def aEo{p:Prop}(h:p:=by simp[lT];omega):p:=h
def aEp{p:Prop}(h:p:=by simpa using h5):p:=h
def aEq{p:Prop}(h:p:=by simp[hj]):p:=h
def aEr{p:Prop}(h:p:=by simp[hz]):p:=h
def aEs{p:Prop}(h:p:=by simp[hs]):p:=h
def aEt{p:Prop}(h:p:=by rw[cr.1 q];exact hx):p:=h
def aEu{p:Prop}(h:p:=by have:=h2 x hx;omega):p:=h
def aEv{p:Prop}(h:p:=by simp only[rN];omega):p:=h
def aEw{p:Prop}(h:p:=by simp[h.dK]):p:=h
def aEx{p:Prop}(h:p:=by simp[flat]):p:=h
def aEy{p:Prop}(h:p:=by rw[br hjl,hb]):p:=h
def aEz{p:Prop}(h:p:=by simp[ct,j5,h]):p:=h
def aEA{p:Prop}(h:p:=by simp[flat,gm]):p:=h
def aEB{p:Prop}(h:p:=by exact j4.ok.1):p:=h
def aEC{p:Prop}(h:p:=by simpa[vY] using e2):p:=h
def aED{p:Prop}(h:p:=by rw[jz cK];exact q1):p:=h
def aEE{p:Prop}(h:p:=by unfold kS;rw[hG z]):p:=h
end Go
open Array renaming ext_getElem?->azD,getElem?_append_left->VH,getElem?_eq_getElem->sX,getElem?_eq_none->aiK,getElem?_eq_some_iff->vT,getElem?_modify->Bk,length_toList->aiL,size_append->VI
open BitVec renaming ofInt->zi
open Bool renaming false_eq_true->iA,not_true->vU
open Go.Builtin renaming append_->uD,firstCells->VN,lenOf->VO,len_->F3,zeroCells->xW
open Go.Instr renaming index->VU,indexAt->OJ,loadAt->VV,slice->J3,sliceAt->DC,sliceBounds->aiT,storeAt->aiU,sureAddr->J4
open Go.IntKind renaming i64->b7
open Go.Op renaming bytesLess->VX,equalIn->xX,intArith->VY,intBits->OM,intCmp->J5
open Go.Result renaming andThen_ok->eP
open Go.RowKit.Below renaming heap_setCell->ai6
open Go.Sem renaming run_bind->eH,run_pure->ki
open Go.Value renaming cells->vY
open Go.World renaming block_lt_of_cell?->OP,cell?->DG,cell?_alloc_lt->qO,cell?_alloc_new->DH,cell?_setCells_in->azK,cell?_setCells_out->azL,freeze->OQ,frozen?->V2,frozen?_alloc_new->V3,frozen?_alloc_old->DI,frozen?_setCells->Ka,setCells->Kc,shape?->Kd,size_drew->V4
open Go renaming byteCells->ai9
open List renaming all_append->ai_,all_eq_true->c_,append_assoc->cq,append_nil->e4,drop_of_length_le->sY,drop_succ_cons->x6,eq_nil_of_length_eq_zero->lE,ext_getElem?->Bu,getElem?_append_left->ei,getElem?_append_right->er,getElem?_drop->qd,getElem?_eq_getElem->br,getElem?_eq_none->hG,getElem?_eq_some_iff->bE,getElem?_map->eC,getElem?_set_ne->av,getElem?_set_self->aR,getElem?_take->OU,getElem?_take_of_lt->zp,getElem_mem->Wb,getElem_of_mem->DJ,length_append->cB,length_cons->dm,length_drop->v_,length_map->b_,length_nil->fQ,length_take->zu,map_cons->eD,mem_map->cO,mem_of_getElem?->bG,mem_of_mem_drop->uH,mem_of_mem_take->F_,nil_append->eR,range->jq,size_toArray->Wf,take_of_length_le->kG,take_succ_cons->x7
open Nat renaming add_assoc->lF,add_le_add_left->Wh,add_mul->nS,add_zero->rW,eq_zero_or_pos->x8,le_refl->bl,le_trans->fk,lt_or_ge->cE,mul_le_mul_right->mK,one_mul->Bx,sub_self->kj,sub_zero->DM,zero_add->e5,zero_le->ic
open Ne renaming symm->dr
open Option renaming isSome_iff_exists->Wk,isSome_none->ya,map_eq_some_iff->cc,map_some->ie
open Option.some renaming injEq->lG
open Or renaming inl->ay,inr->ax
namespace Go.aJ
open Go.RowKit
section
variable{a:Addr}{B b base aY cap d field fin fin' id k len m n n' o off top:Nat}{dst e s src t ty:TypeId}{i' j s' v x' y y':Value}{w w':World}{i:Option Int}{cs' news vs:List Value}{aH neg row:Bool}{fields:Array Field}{f:Field}{op:BinOp}{fE kR:Operand}{hi' lo' rE:Option Value}
def cD{α:Type}{l:List α}{i:Nat}(h:i<l.length):∃x,l[i]?=some x:=⟨_,br h⟩
def gl{α:Type}{l:List α}{i:Nat}{x:α}(h:l[i]?=some x):i<l.length:=(bE.1 h).1
inductive iD where
 |exact
 |no
 |tok (id:Nat)
 deriving DecidableEq
inductive U where
 |v (x:Value)
 |agg (cs:List U)
 |aK (cs:List U)
 |af
 |sl (xs:List U) (t:iD)
 |fp (cs:List U) (off:Nat)
 |mp (k off:Nat)
 |rp (k n off:Nat)
 |rs (k n sz off len:Nat)
 |eN (k:Nat)
 |eW (ch:List PanicEntry)
 |fn (f:Fn) (first captured:List U)
 |cQ (t:TypeId) (x:U)
 |ey (k:Nat)
 |gk (k:Nat)
 |fL (k:Nat) (t:TypeId×Nat)
variable{r x:U}{hi lo mx:Option U}{cs ts us ys zs:List U}
def U.cells:U->List U
 |.agg cs=>cs
 |x=>[x]
def U.one:U->Bool
 |.agg _|.aK _|.eW _=>false
 |_=>true
def plain:Value->Bool
 |.bool _|.int _ _|.float _ _|.string _|.pointer none|.nilFunc|.nilIface|.map none=>true
 |_=>false
inductive aa where
 |cells (cs:List U) (row:Bool)
 |tok (n sz:Nat) (e:TypeId)
 |obj (o:Obj)
 |cL (es:List (U×U×Nat)) (clock:Nat)
 |aT (st:LoopState) (pd:Option Code) (ats:List U) (ps:Array Tmp) (ok:Code->Code->Prop)
variable{hp hp':List aa}
def aa.isObj:aa->Bool
 |.cells _ _|.tok _ _ _=>false
 |_=>true
def aa.like(b b':aa):Prop:=(∀o,b=.obj o->∃o',b'=.obj o'/\(o=.deferred (some [])->o'=o))/\
 (∀st pd ats ps ok,b=.aT st pd ats ps ok->∃st' jx,b'=.aT st' jx ats ps ok)/\(∀es bw,b=.cL es bw->∃es' iH,b'=.cL es' iH)
def aa.like.refl(b:aa):b.like b:=⟨λo h=>⟨o,h,λ_=>rfl⟩,λst pd _ _ _ h=>⟨st,pd,h⟩,λes bw h=>⟨es,bw,h⟩⟩
def aa.like.trans{a b c:aa}(h:a.like b)(h':b.like c):a.like c:=by
 refine⟨λo e=>?_,λst pd ats ps ok e=>?_,λes bw e=>?_⟩;obtain⟨o',e',f⟩:=h.1 o e;obtain⟨au0,e'',f'⟩:=h'.1 o' e';refine⟨au0,e'',λq=>?_⟩;have q1:=f q;rw[q1] at f';exact f' q;obtain⟨st',jx,e'⟩:=h.2.1 _ _ _ _ _ e;exact h'.2.1 _ _ _ _ _ e';obtain⟨es',iH,e'⟩:=h.2.2 _ _ e;exact h'.2.2 _ _ e'
def aa.like.isObj{b b':aa}(h:b.like b')(ho:b.isObj=true):b'.isObj=true:=by
 cases b with
 |obj o=>obtain⟨o',e,_⟩:=h.1 o rfl;rw[e];rfl
 |aT st pd ats ps ok=>obtain⟨_,_,e⟩:=h.2.1 _ _ _ _ _ rfl;rw[e];rfl
 |cL es bw=>obtain⟨_,_,e⟩:=h.2.2 _ _ rfl;rw[e];rfl
 |_=>cases ho
def qY(o:Obj):Prop:=∀c t f,o≠.cells c t f
structure Loc where
 b:Nat
 fin:Nat:=0
 cap:Nat:=0
 ty:TypeId×Nat:=(0,0)
variable{M M':List Loc}{L L':Loc}
abbrev Cells:=Nat->Nat->Option Value
variable{C aC:Cells}
def r6(M:List Loc)(hp:List aa)(a:Addr)(len cap sz:Nat):iD->Prop
 |.exact=>cap=len
 |.no=>True
 |.tok id=>∃n s ty L,hp[id]?=some (.tok n s ty)/\M[id]?=some L/\len<=n/\(len=0\/sz=s)/\
  (len=n->a.spot=none/\a.block=L.b/\a.off+len*s=L.fin/\a.off+cap*s=L.cap)
inductive aI(C:Cells)(M:List Loc)(hp:List aa):U->Value->Prop
 |v {x:Value} (h:plain x=true):aI C M hp (.v x) x
 |agg {cs:List U} {cs':Array Value} (hl:cs.length=cs'.size)
  (h:∀(i:Nat) a b,cs[i]?=some a->cs'[i]?=some b->aI C M hp a b):aI C M hp (.agg cs) (.agg cs')
 |aK {cs:List U} {cs':Array Value} (hl:cs.length=cs'.size)
  (h:∀(i:Nat) a b,cs[i]?=some a->cs'[i]?=some b->aI C M hp a b):aI C M hp (.aK cs) (.tuple cs')
 |af:aI C M hp .af (.slice none 0 0)
 |sl {xs:List U} {t:iD} {a:Addr} {cap sz:Nat} (f:Nat->Nat->Value)
  (hsp:xs≠[]->a.spot=none)
  (hsz:∀(i:Nat) x,xs[i]?=some x->x.cells.length=sz)
  (hC:∀(i:Nat) x (j:Nat) c,xs[i]?=some x->x.cells[j]?=some c->C a.block (a.off+i*sz+j)=some (f i j))
  (hR:∀(i:Nat) x (j:Nat) c,xs[i]?=some x->x.cells[j]?=some c->aI C M hp c (f i j))
  (hT:r6 M hp a xs.length cap sz t) (hcap:xs.length<=cap):aI C M hp (.sl xs t) (.slice (some a) xs.length cap)
 |fp {cs:List U} {off b o:Nat} (f:Nat->Value)
  (hC:∀(i:Nat) c,cs[i]?=some c->C b (o+i)=some (f i)) (hR:∀(i:Nat) c,cs[i]?=some c->aI C M hp c (f i)):
  aI C M hp (.fp cs off) (.pointer (some ⟨b,o+off,none⟩))
 |mp {k off:Nat} {L:Loc} {cs:List U} (hb:hp[k]?=some (.cells cs false)) (hM:M[k]?=some L):
  aI C M hp (.mp k off) (.pointer (some ⟨L.b,off,none⟩))
 |rp {k n off:Nat} {L:Loc} {cs:List U} {a:Addr} (hb:hp[k]?=some (.cells cs true)) (hM:M[k]?=some L) (hn:n<=cs.length) (ha:n=cs.length->a=⟨L.b,off,none⟩):
  aI C M hp (.rp k n off) (.pointer (some a))
 |rs {k n sz off len cap:Nat} {L:Loc} {cs:List U} {a:Addr} (hb:hp[k]?=some (.cells cs true)) (hM:M[k]?=some L) (hn:n<=cs.length) (hlc:len<=cap)
  (ha:n=cs.length->a=⟨L.b,off,none⟩/\off+len*sz<=cs.length/\cs.length<=off+cap*sz/\off+cap*sz<=L.cap):
  aI C M hp (.rs k n sz off len) (.slice (some a) len cap)
 |eN {k:Nat} {L:Loc} {o:Obj} (hb:hp[k]?=some (.obj o)) (hM:M[k]?=some L):aI C M hp (.eN k) (.pointer (some ⟨L.b,0,none⟩))
 |fn {f:Fn} {fs cs:List U} {fs' cs':Array Value} (hlf:fs.length=fs'.size) (hlc:cs.length=cs'.size)
  (hf:∀(i:Nat) a b,fs[i]?=some a->fs'[i]?=some b->aI C M hp a b)
  (hc:∀(i:Nat) a b,cs[i]?=some a->cs'[i]?=some b->aI C M hp a b):aI C M hp (.fn f fs cs) (.func f fs' cs')
 |cQ {t:TypeId} {x:U} {x':Value} (h:aI C M hp x x'):aI C M hp (.cQ t x) (.iface t x')
 |ey {k:Nat} {L:Loc} {es:List (U×U×Nat)} {bw:Nat} (hb:hp[k]?=some (.cL es bw)) (hM:M[k]?=some L):aI C M hp (.ey k) (.map (some L.b))
 |gk {k:Nat} {L:Loc} {st:LoopState} {pd:Option Code} {ats:List U} {ps:Array Tmp} {ok:Code->Code->Prop} (hb:hp[k]?=some (.aT st pd ats ps ok)) (hM:M[k]?=some L):aI C M hp (.gk k) (.func (.yield L.b) #[] #[])
 |fL {k:Nat} {L:Loc} {cs:List U} (hb:hp[k]?=some (.cells cs false)) (hM:M[k]?=some L):aI C M hp (.fL k L.ty) (.pointer none)
structure bZ(C:Cells)(M:List Loc)(hp:List aa)(aC:Cells)(M':List Loc)(hp':List aa):Prop where
 C:∀b o v,C b o=some v->aC b o=some v
 cells:∀(k:Nat) cs fz,hp[k]?=some (.cells cs fz)->∃cs',hp'[k]?=some (.cells cs' fz)/\(fz=true->cs.length<=cs'.length)/\((fz=true->cs'.length=cs.length)->M'[k]?=M[k]?)/\((M[k]?).isSome->(M'[k]?).isSome)
 toks:∀(k:Nat) n s ty,hp[k]?=some (.tok n s ty)->∃n',hp'[k]?=some (.tok n' s ty)/\n<=n'/\(n'=n->M'[k]?=M[k]?)/\((M[k]?).isSome->(M'[k]?).isSome)
 eO:∀(k:Nat) b,b.isObj=true->hp[k]?=some b->(∃b',hp'[k]?=some b'/\b.like b')/\M'[k]?=M[k]?
def bZ.refl(C:Cells)(M:List Loc)(hp:List aa):bZ C M hp C M hp:=
 ⟨λ_ _ _ h=>h,λ_ cs fz h=>⟨cs,h,λ_=>bl _,λ_=>rfl,λh=>h⟩,λ_ n _ _ h=>⟨n,h,bl _,λ_=>rfl,λh=>h⟩,λ_ b _ h=>⟨⟨b,h,.refl b⟩,rfl⟩⟩
def bZ.trans{Gg C₂:Cells}{DU WI:List Loc}{hp₁ hp₂:List aa}(h:bZ C M hp Gg DU hp₁)(k:bZ Gg DU hp₁ C₂ WI hp₂):bZ C M hp C₂ WI hp₂:=by
 refine⟨λb o v e=>k.C _ _ _ (h.C _ _ _ e),λi cs fz e=>?_,λi n s ty e=>?_,λi b hb e=>?_⟩;obtain⟨cs',e',g,m,s⟩:=h.cells i cs fz e;obtain⟨alV,e'',g',m',s'⟩:=k.cells i cs' fz e';refine⟨alV,e'',λq=>fk (g q) (g' q),λq=>?_,λq=>s' (s q)⟩;exact(m' λDa=>aDQ).trans (m λDa=>aDQ);obtain⟨n',e',l,m,s1⟩:=h.toks i n s ty e;obtain⟨afc,e'',l',m',s2⟩:=k.toks i n' s ty e';refine⟨afc,e'',fk l l',λq=>?_,λq=>s2 (s1 q)⟩;have a:n'=n:=aBH
 have b:afc=n':=aBH
 exact(m' b).trans (m a);obtain⟨⟨b',e',l⟩,m⟩:=h.eO i b hb e;obtain⟨⟨b'',e'',l'⟩,m'⟩:=k.eO i b' (l.isObj hb) e';exact⟨⟨b'',e'',l.trans l'⟩,m'.trans m⟩
def bZ.length(h:bZ C M hp aC M' hp'):hp.length<=hp'.length:=by
 rcases x8 hp.length with h0|h0
 omega;have hl:hp.length-1<hp.length:=aBH
 have e:=br hl;have key:∃b,hp'[hp.length-1]?=some b:=by
  cases hb:hp[hp.length-1] with
  |cells cs fz=>rw[hb] at e;obtain⟨cs',q,_⟩:=h.cells _ _ _ e;exact⟨_,q⟩
  |tok n s ty=>rw[hb] at e;obtain⟨n',q,_⟩:=h.toks _ _ _ _ e;exact⟨_,q⟩
  |obj o=>rw[hb] at e;obtain⟨⟨b',q,_⟩,_⟩:=h.eO _ _ rfl e;exact⟨_,q⟩
  |cL es bw=>rw[hb] at e;obtain⟨⟨b',q,_⟩,_⟩:=h.eO _ _ rfl e;exact⟨_,q⟩
  |aT st pd ats ps ok=>rw[hb] at e;obtain⟨⟨b',q,_⟩,_⟩:=h.eO _ _ rfl e;exact⟨_,q⟩
 obtain⟨b,hb⟩:=key;have:=(bE.1 hb).1;omega
def r6.mono(hle:bZ C M hp aC M' hp'){sz:Nat}{t:iD}
  (h:r6 M hp a len cap sz t):r6 M' hp' a len cap sz t:=by
 cases t with
 |exact=>exact h
 |no=>trivial
 |tok id=>
  obtain⟨n,s,ty,L,e,m,l,z,q⟩:=h;obtain⟨n',e',l',m',s1⟩:=hle.toks id n s ty e;have:=s1 (by simp[m]);obtain⟨L',hL'⟩:=Wk.1 this;refine⟨n',s,ty,L',e',hL',fk l l',z,λhq=>?_⟩;have hn:n'=n:=aBH
  have:=m' hn;rw[hL',m] at this;cases this;exact q aBH
def aI.mono(hle:bZ C M hp aC M' hp')
  (h:aI C M hp x y):aI aC M' hp' x y:=by
 induction h with
 |v h=>exact .v h
 |agg hl _ ih=>exact .agg hl ih
 |aK hl _ ih=>exact .aK hl ih
 |af=>exact .af
 |sl f hsp hsz hC _ hT hcap ih=>exact .sl f hsp hsz (λi x j c h1 h2=>hle.C _ _ _ (hC i x j c h1 h2)) ih (hT.mono hle) hcap
 |fp f hC _ ih=>exact .fp f (λi c h=>hle.C _ _ _ (hC i c h)) ih
 |mp hb hM=>
  obtain⟨cs',e,_,m,_⟩:=hle.cells _ _ _ hb;exact .mp e ((m nofun).trans hM)
 |@rp k n off L cs a hb hM hn ha=>
  obtain⟨cs',e,g,m,s⟩:=hle.cells _ _ _ hb;have g:=g rfl;obtain⟨L',hL'⟩:=Wk.1 (s (by rw[hM];rfl));refine .rp e hL' aBH λq=>?_;have h1:cs'.length=cs.length:=aBH
  have h2:=m λ_=>h1;rw[hL',hM] at h2;cases h2;exact ha aBH
 |@rs k n sz off len cap L cs a hb hM hn hlc ha=>
  obtain⟨cs',e,g,m,s⟩:=hle.cells _ _ _ hb;have g:=g rfl;obtain⟨L',hL'⟩:=Wk.1 (s (by rw[hM];rfl));refine .rs e hL' aBH hlc λq=>?_;have h1:cs'.length=cs.length:=aBH
  have h2:=m λ_=>h1;rw[hL',hM] at h2;cases h2;rw[h1];exact ha aBH
 |eN hb hM=>
  obtain⟨⟨b',e,l⟩,m⟩:=hle.eO _ _ rfl hb;obtain⟨o',rfl,_⟩:=l.1 _ rfl;exact .eN e (m.trans hM)
 |fn hlf hlc _ _ CE CD=>exact .fn hlf hlc CE CD
 |cQ _ ih=>exact .cQ ih
 |ey hb hM=>
  obtain⟨⟨b',e,l⟩,m⟩:=hle.eO _ _ rfl hb;obtain⟨es',iH,rfl⟩:=l.2.2 _ _ rfl;exact .ey e (m.trans hM)
 |fL hb hM=>
  obtain⟨cs',e,_,m,_⟩:=hle.cells _ _ _ hb;exact .fL e ((m nofun).trans hM)
 |gk hb hM=>
  obtain⟨⟨b',e,l⟩,m⟩:=hle.eO _ _ rfl hb;obtain⟨_,_,rfl⟩:=l.2.1 _ _ _ _ _ rfl;exact .gk e (m.trans hM)
def qZ(C:Cells)(M:List Loc)(hp:List aa):aa->Obj->Prop
 |.obj o',o=>o=o'
 |.cL es bw,o=>∃entries:Array MapEntry,o=.map entries bw/\es.length=entries.toList.length/\∀(i:Nat) a b,es[i]?=some a->entries.toList[i]?=some b->aI C M hp a.1 b.key/\aI C M hp a.2.1 b.val/\b.born=a.2.2
 |.aT st pd ats ps ok,o=>∃fn tmps assign body D,o=.loop {state:=st,pending:=pd,fn:=fn,tmps:=tmps,params:=ps,assign:=assign,body:=body,defers:=D}/\ok assign body/\
  ats.length=tmps.size/\∀(i:Nat) a b,ats[i]?=some a->tmps[i]?=some b->aI C M hp a b
 |_,_=>False
def qZ.mono(hle:bZ C M hp aC M' hp'){b:aa}{o:Obj}(h:qZ C M hp b o):qZ aC M' hp' b o:=by
 cases b with
 |obj o'=>exact h
 |cL es bw=>
  obtain⟨k9,e,h1,h2⟩:=h;exact⟨k9,e,h1,λi a b ha hb=>let⟨x,y,z⟩:=h2 i a b ha hb;⟨x.mono hle,y.mono hle,z⟩⟩
 |aT st pd ats ps ok=>
  obtain⟨fn,tmps,assign,body,D,e,h1,h2,h3⟩:=h;exact⟨fn,tmps,assign,body,D,e,h1,h2,λi a b ha hb=>(h3 i a b ha hb).mono hle⟩
 |_=>exact h.elim
structure jd where
 w:World
 C:Cells
variable{w0:jd}
def lK(w:World)(b:Nat)(e:TypeId×Nat):Prop:=w.shape? b=some e
def lK.same{e:TypeId×Nat}(h:lK w b e)(hb:w'.heap[b]?=w.heap[b]?):lK w' b e:=by
 unfold lK Kd at h⊢;rw[hb];exact h
def lK.alloc{e:TypeId×Nat}(h:lK w b e)(hb:b<w.heap.size)(o:Obj):lK (w.alloc o) b e:=h.same (Below.heap_alloc w o b hb)
def lK.new{cells:Array Value}:lK (w.alloc (.cells cells e)) w.heap.size (e,cells.size):=by
 have:(w.alloc (.cells cells e)).heap[w.heap.size]?=some (.cells cells e):=by
  show(w.heap.push (.cells cells e))[w.heap.size]?=_;simp
 unfold lK Kd;rw[this]
def lK.set{e:TypeId×Nat}(h:lK w b e)(a:Addr)(v:Value):lK (w.setCell a v) b e:=by
 by_cases hb:b=a.block;unfold lK Kd at h⊢;have:(w.setCell a v).heap[b]?=(w.heap[b]?).map λ
  |.cells c elem frozen=>.cells (if a.spot.isSome then c else c.setIfInBounds a.off v) elem frozen
  |o=>o:=by
  show(w.heap.modify a.block _)[b]?=_;rw[Bk,if_pos hb.symm];cases w.heap[b]? with
  |none=>rfl
  |some x=>cases x<;>rfl
 rw[this];cases hx:w.heap[b]? with
 |none=>rw[hx] at h;simp at h
 |some x=>
  rw[hx] at h;cases x with
  |cells cs ty fr=>
   simp only[lG] at h;simp only[ie,<-h];split<;>simp
  |_=>simp at h
 unfold lK Kd at h⊢;rw[ai6 _ _ _ _ hb];exact h
def iU(w:World)(b fin:Nat)(e:TypeId):Prop:=∃(cs:Array Value) (lo hi:Nat),w.heap[b]?=some (.cells cs e (lo,hi))/\(lo=hi\/hi<=fin)
def iU.free(h:iU w b fin e)(o:Nat)(ho:fin<=o):w.frozen? ⟨b,o,none⟩=false:=by
 obtain⟨cs,lo,hi,h1,h2⟩:=h;simp only[V2,h1,Bool.and_eq_false_iff,decide_eq_false_iff_not];omega
def iU.shape(h:iU w b fin e):∃c,w.shape? b=some (e,c):=by
 obtain⟨cs,lo,hi,h1,h2⟩:=h;exact⟨cs.size,by simp only[Kd,h1]⟩
def iU.same(h:iU w b fin e)(hb:w'.heap[b]?=w.heap[b]?):iU w' b fin e:=by
 obtain⟨cs,lo,hi,h1,h2⟩:=h;exact⟨cs,lo,hi,by rw[hb];exact h1,h2⟩
def iU.alloc(h:iU w b fin e)(hb:b<w.heap.size)(o:Obj):iU (w.alloc o) b fin e:=h.same (Below.heap_alloc w o b hb)
def iU.new{cells:Array Value}:iU (w.alloc (.cells cells e)) w.heap.size fin e:=by
 refine⟨cells,0,0,?_,.inl rfl⟩;show(w.heap.push (.cells cells e))[w.heap.size]?=_;simp
def iU.set(h:iU w b fin e)(hf:fin<=fin')(a:Addr)(v:Value):iU (w.setCell a v) b fin' e:=by
 obtain⟨cs,lo,hi,h1,h2⟩:=h;have h3:lo=hi\/hi<=fin':=aBH
 by_cases hb:b=a.block;subst hb;refine⟨if a.spot.isSome then cs else cs.setIfInBounds a.off v,lo,hi,?_,h3⟩;show(w.heap.modify a.block _)[a.block]?=_;rw[Bk,if_pos rfl,h1];rfl;exact⟨cs,lo,hi,by rw[ai6 _ _ _ _ hb];exact h1,h3⟩
def iU.up(h:iU w b fin e)(hf:fin<=fin'):iU w b fin' e:=by
 obtain⟨cs,lo,hi,h1,h2⟩:=h;exact⟨cs,lo,hi,h1,aBH⟩
def iU.freeze(h:iU w b fin e)(a:Addr)(n:Nat)(hfit:b=a.block->a.off+n<=fin):iU (w.freeze a n) b fin e:=by
 unfold OQ;split;exact h;obtain⟨cs,lo,hi,h1,h2⟩:=h;by_cases hb:b=a.block;have aoO:=hfit hb;subst hb;by_cases he:lo=hi;refine⟨cs,a.off,a.off+n,?_,.inr aoO⟩;show(w.heap.modify a.block _)[a.block]?=_;rw[Bk,if_pos rfl,h1];simp[he];refine⟨cs,min lo a.off,max hi (a.off+n),?_,.inr aBH⟩;show(w.heap.modify a.block _)[a.block]?=_;rw[Bk,if_pos rfl,h1];simp[he];refine⟨cs,lo,hi,?_,h2⟩;show(w.heap.modify a.block _)[b]?=_;rw[Bk,if_neg (dr hb)];exact h1
section
variable{G:Cells}
def Oj:Nat:=6
def BJ(w:World):Prop:=∃cs t f,w.heap[Oj]?=some (.cells cs t f)/\cs.size=20
structure ajw(base:Nat)(w0:jd):Prop where
 le:base<=w0.w.heap.size
 lt:Oj<base
 tab:BJ w0.w
def O8(G C:Cells)(w:World):Prop:=(∀b o v,G b o=some v->C b o=some v)/\BJ w
structure bt(G:Cells)(base:Nat)(w0:jd)(C:Cells)(M:List Loc)(hp:List aa)(w:World):Prop where
 below:Below base w0.w w
 k7:ajw base w0
 old:∀b o v,C b o=some v->b<base->w0.C b o=some v
 oH:∀b o v,G b o=some v->C b o=some v
 dK:M.length=hp.length
 ld:∀b o v,C b o=some v->w.cell? ⟨b,o,none⟩=some v
 cells:∀(k:Nat) cs fz L,hp[k]?=some (.cells cs fz)->M[k]?=some L->base<=L.b/\L.b<w.heap.size/\
  (∀(i:Nat) c,cs[i]?=some c->∃c',w.cell? ⟨L.b,i,none⟩=some c'/\aI C M hp c c')/\
  (∀i,w.frozen? ⟨L.b,i,none⟩=false)/\(∀o,C L.b o=none)/\(∀o,o<L.cap->∃v,w.cell? ⟨L.b,o,none⟩=some v)/\lK w L.b L.ty
 toks:∀(k:Nat) n s ty L,hp[k]?=some (.tok n s ty)->M[k]?=some L->base<=L.b/\L.b<w.heap.size/\L.fin<=L.cap/\
  (∀o,L.fin<=o->C L.b o=none)/\(∀o,L.fin<=o->o<L.cap->(∃v,w.cell? ⟨L.b,o,none⟩=some v)/\w.frozen? ⟨L.b,o,none⟩=false)/\iU w L.b L.fin ty
 apart:∀(k k':Nat) L L',k≠k'->M[k]?=some L->M[k']?=some L'->L.b≠L'.b
 eO:∀(k:Nat) b L,b.isObj=true->hp[k]?=some b->M[k]?=some L->base<=L.b/\∃o,w.heap[L.b]?=some o/\qY o/\qZ C M hp b o
def bt.KR(h:bt G base w0 C M hp w):base<=w.heap.size:=
 fk h.k7.le h.below.size
def bt.tab(h:bt G base w0 C M hp w):BJ w:=by
 obtain⟨cs,t,f,h1,h2⟩:=h.k7.tab;exact⟨cs,t,f,by rw[h.below.block _ h.k7.lt];exact h1,h2⟩
def bt.drew(h:bt G base w0 C M hp w):bt G base w0 C M hp w.drew:=
 ⟨h.below.drew,h.k7,h.old,h.oH,h.dK,h.ld,h.cells,h.toks,h.apart,h.eO⟩
end
def aI.one(h:aI C M hp x y)(h1:x.one=true):y.oneCell'=true:=by
 cases h<;>first|rfl|(simp[U.one] at h1;done)|skip
 rename_i hx
 cases y<;>first|rfl|(simp[plain] at hx)
variable{G:Cells}{base:Nat}{w0:jd}{w:World}{C:Cells}{M:List Loc}{hp:List aa}
def Cells.add(C:Cells)(B lo:Nat)(vs:List Value):Cells:=
 λb o=>if b=B/\lo<=o/\o<lo+vs.length then vs[o-lo]? else C b o
def Cells.BL(C:Cells)(B lo:Nat)(vs:List Value)(i:Nat)(h:i<vs.length):C.add B lo vs B (lo+i)=vs[i]? :=by
 unfold Cells.add;rw[if_pos ⟨rfl,aBH,aBH⟩];congr 1;omega
def Cells.r8(C:Cells)(B lo:Nat)(vs:List Value){b o:Nat}(h:¬(b=B/\lo<=o/\o<lo+vs.length)):C.add B lo vs b o=C b o:=by
 unfold Cells.add;rw[if_neg h]
def bt.fresh(h:bt G base w0 C M hp w)(o:Nat):C w.heap.size o=none:=by
 cases hc:C w.heap.size o with
 |none=>rfl
 |some v=>
  have:=OP w _ (h.ld _ _ _ hc);simp at this
def bt.C2(h:bt G base w0 C M hp w){aC:Cells}{M':List Loc}{hp':List aa}{w':World}(hle:bZ C M hp aC M' hp')(hh:∀(k:Nat) b,b.isObj=true->hp'[k]?=some b->hp[k]?=some b/\M'[k]?=M[k]?)
  (hw:∀(b:Nat) o,w.heap[b]?=some o->qY o->w'.heap[b]?=some o):∀(k:Nat) b L,b.isObj=true->hp'[k]?=some b->M'[k]?=some L->base<=L.b/\∃o,w'.heap[L.b]?=some o/\qY o/\qZ aC M' hp' b o:=λk b L hb hk hM=>by
 obtain⟨h1,h2⟩:=hh k b hb hk;rw[h2] at hM;obtain⟨a,o,e,c,d⟩:=h.eO k b L hb h1 hM;exact⟨a,o,hw _ _ e c,c,d.mono hle⟩
def Mc(w:World)(x:Obj)(b:Nat)(o:Obj)(h:w.heap[b]?=some o):(w.alloc x).heap[b]?=some o:=by
 show(w.heap.push x)[b]?=some o;have hl:=(vT.1 h).1;rw[Array.getElem?_push_lt hl,<-sX hl];exact h
def TH{b:aa}{L:Loc}(hl:M.length=hp.length)(hb:b.isObj=false){k:Nat}{x:aa}(hx:x.isObj=true)(h:(hp++[b])[k]?=some x):hp[k]?=some x/\(M++[L])[k]?=M[k]? :=by
 rcases cE k hp.length with hk|hk
 rw[ei hk] at h;exact⟨h,ei aBH⟩;rw[er hk] at h;cases hj:k-hp.length with
 |zero=>rw[hj] at h;simp at h;subst h;rw[hb] at hx;cases hx
 |succ j=>rw[hj] at h;simp at h
def Fg{b:aa}{i:Nat}(hb:b.isObj=false){k:Nat}{x:aa}(hx:x.isObj=true)(h:(hp.set i b)[k]?=some x):k≠i/\hp[k]?=some x:=by
 by_cases e:i=k;subst e;by_cases hi:i<hp.length;rw[aR hi] at h;simp at h;subst h;rw[hb] at hx;cases hx;rw[hG aBK] at h;cases h;rw[av e] at h;exact⟨λq=>e q.symm,h⟩
def bZ.aj9{B lo:Nat}{vs:List Value}(hn:∀o,lo<=o->o<lo+vs.length->C B o=none):bZ C M hp (C.add B lo vs) M hp:=by
 refine⟨λb o v h=>?_,λk cs fz h=>⟨cs,h,λ_=>bl _,λ_=>rfl,λh=>h⟩,λk n s ty h=>⟨n,h,bl _,λ_=>rfl,λh=>h⟩,λk b _ h=>⟨⟨b,h,.refl b⟩,rfl⟩⟩;rw[Cells.r8];exact h;rintro⟨rfl,h1,h2⟩;rw[hn o h1 h2] at h;cases h
def bZ.push(b:aa)(L:Loc)(hl:M.length=hp.length):bZ C M hp C (M++[L]) (hp++[b]):=by
 refine⟨λ_ _ _ h=>h,λk cs fz h=>?_,λk n s ty h=>?_,λk o _ h=>?_⟩;have hk:=(bE.1 h).1;exact⟨cs,by rw[ei hk];exact h,λ_=>bl _,λ_=>by rw[ei aBH],λh=>by rw[ei aBH];exact h⟩;have hk:=(bE.1 h).1;exact⟨n,by rw[ei hk];exact h,bl _,λ_=>by rw[ei aBH],λh=>by rw[ei aBH];exact h⟩;have hk:=(bE.1 h).1;exact⟨⟨o,by rw[ei hk];exact h,.refl o⟩,by rw[ei aBH]⟩
def bt.Q7(h:bt G base w0 C M hp w)(cells:Array Value)(e:TypeId)(vs:List Value)(hv:∀(i:Nat) v,vs[i]?=some v->cells[i]?=some v):
  bZ C M hp (C.add w.heap.size 0 vs) M hp/\bt G base w0 (C.add w.heap.size 0 vs) M hp (w.alloc (.cells cells e)):=by
 have hle:bZ C M hp (C.add w.heap.size 0 vs) M hp:=bZ.aj9 λo _ _=>h.fresh o;refine⟨hle,h.below.alloc (fk h.k7.le h.below.size) _,h.k7,λb o v hc hb=>h.old b o v (by rwa [Cells.r8 _ _ _ _ (λq=>by have:=h.KR;omega)] at hc) hb,λb o v hg=>hle.C _ _ _ (h.oH b o v hg),h.dK,?_,?_,?_,h.apart,h.C2 hle (λk o _ h=>⟨h,rfl⟩) λb o hb _=>Mc _ _ _ _ hb⟩;intro b o v hc;by_cases hb:b=w.heap.size/\0<=o/\o<0+vs.length;obtain⟨rfl,_,h2⟩:=hb;have:=Cells.BL C w.heap.size 0 vs o aBH;rw[e5] at this;rw[this] at hc;rw[DH];exact hv o v hc;rw[Cells.r8 _ _ _ _ hb] at hc;have hw:=h.ld b o v hc;rw[qO _ _ _ (OP _ _ hw)];exact hw;intro k cs fz L hk hM;obtain⟨h1,h2,h3,q1,ah,aN⟩:=h.cells k cs fz L hk hM;have hne:∀o,¬(L.b=w.heap.size/\0<=o/\o<0+vs.length):=λo hq=>aBH
 refine⟨h1,aBK,λi c hc=>?_,λi=>by rw[DI _ _ _ aCk];exact q1 i,λo=>by rw[Cells.r8 _ _ _ _ (hne o)];exact ah o,
  λo ho=>by rw[qO _ _ _ aCA];exact aN.1 o ho,aN.2.alloc h2 _⟩
 obtain⟨c',a1,a2⟩:=h3 i c hc;exact⟨c',by rw[qO _ _ _ aCA];exact a1,a2.mono hle⟩;intro k n s ty L hk hM;obtain⟨h1,h2,h3,h4,h5,h6⟩:=h.toks k n s ty L hk hM;have hne:∀o,¬(L.b=w.heap.size/\0<=o/\o<0+vs.length):=λo hq=>aBH
 refine⟨h1,aBK,h3,λo ho=>by rw[Cells.r8 _ _ _ _ (hne o)];exact h4 o ho,λo ho ho'=>?_,h6.alloc h2 _⟩;obtain⟨a1,a2⟩:=h5 o ho ho';exact⟨by rw[qO _ _ _ aCA];exact a1,by rw[DI _ _ _ aCk];exact a2⟩
def bY(C:Cells)(M:List Loc)(hp:List aa)(cs:List U)(cs':List Value):Prop:=
 cs.length=cs'.length/\∀(i:Nat) a b,cs[i]?=some a->cs'[i]?=some b->aI C M hp a b
def bY.mono{aC:Cells}{M':List Loc}{hp':List aa}(hle:bZ C M hp aC M' hp'){cs:List U}{cs':List Value}(h:bY C M hp cs cs'):bY aC M' hp' cs cs':=
 ⟨h.1,λi a b h1 h2=>(h.2 i a b h1 h2).mono hle⟩
def bY.get{cs:List U}{cs':List Value}(h:bY C M hp cs cs'){i:Nat}{c:U}(hc:cs[i]?=some c):∃c',cs'[i]?=some c'/\aI C M hp c c':=by
 have hi:i<cs'.length:=by rw[<-h.1];exact(bE.1 hc).1
 exact⟨cs'[i],br hi,h.2 i c _ hc (br hi)⟩
def bt.Na(h:bt G base w0 C M hp w)(row:Bool)(cap:Nat)(cs:List U)(vs:List Value)(cells:Array Value)(e:TypeId)(hr:bY C M hp cs vs)(hv:∀(i:Nat) v,vs[i]?=some v->cells[i]?=some v)(hcap:cap<=cells.size):
  bZ C M hp C (M++[{b:=w.heap.size,cap:=cap,ty:=(e,cells.size)}]) (hp++[.cells cs row])/\
   bt G base w0 C (M++[{b:=w.heap.size,cap:=cap,ty:=(e,cells.size)}]) (hp++[.cells cs row]) (w.alloc (.cells cells e)):=by
 have hle:bZ C M hp C (M++[{b:=w.heap.size,cap:=cap,ty:=(e,cells.size)}]) (hp++[.cells cs row]):=bZ.push _ _ h.dK;have tP:=fk h.k7.le h.below.size;refine⟨hle,h.below.alloc tP _,h.k7,h.old,h.oH,aEw,?_,?_,?_,?_,h.C2 hle (λk o ho hk=>TH h.dK rfl ho hk) λb o hb _=>Mc _ _ _ _ hb⟩;intro b o v hc;have hw:=h.ld b o v hc;rw[qO _ _ _ (OP _ _ hw)];exact hw;intro k cs₁ fz L hk hM
 rcases cE k hp.length with hl|hl
 rw[ei hl] at hk;rw[ei (by rw[h.dK];exact hl)] at hM;obtain⟨h1,h2,h3,q1,ah,aN⟩:=h.cells k cs₁ fz L hk hM;refine⟨h1,aBK,λi c hc=>?_,λi=>by rw[DI _ _ _ aCk];exact q1 i,ah,λo ho=>by rw[qO _ _ _ aCA];exact aN.1 o ho,aN.2.alloc h2 _⟩;obtain⟨c',a1,a2⟩:=h3 i c hc;exact⟨c',by rw[qO _ _ _ aCA];exact a1,a2.mono hle⟩;have hk':k=hp.length:=by
  have:=(bE.1 hk).1;simp at this;omega
 subst hk';rw[er (bl _)] at hk;rw[er (by rw[h.dK];exact bl _),h.dK] at hM;simp at hk hM;obtain⟨rfl,rfl⟩:=hk;subst hM;refine⟨tP,aBI,λi c hc=>?_,λi=>V3 _ _ _ _,λo=>h.fresh o,λo ho=>?_,lK.new⟩;obtain⟨c',a1,a2⟩:=hr.get hc;exact⟨c',by rw[DH];exact hv _ _ a1,a2.mono hle⟩;rw[DH];have ho:o<cap:=ho;exact⟨cells[o],sX aBH⟩;intro k n s ty L hk hM
 rcases cE k hp.length with hl|hl
 rw[ei hl] at hk;rw[ei (by rw[h.dK];exact hl)] at hM;obtain⟨h1,h2,h3,h4,h5,h6⟩:=h.toks k n s ty L hk hM;refine⟨h1,aBK,h3,h4,λo ho ho'=>?_,h6.alloc h2 _⟩;obtain⟨a1,a2⟩:=h5 o ho ho';exact⟨by rw[qO _ _ _ aCA];exact a1,by rw[DI _ _ _ aCk];exact a2⟩;have hk':k=hp.length:=by
  have:=(bE.1 hk).1;simp at this;omega
 subst hk';rw[er (bl _)] at hk;simp at hk;intro k k' L L' hne hM cJ;have key:∀(j:Nat) (L₁:Loc),M[j]?=some L₁->L₁.b<w.heap.size:=by
  intro j L₁ hj;have hjl:j<hp.length:=by rw[<-h.dK];exact(bE.1 hj).1
  cases hb:hp[j] with
  |cells cs₁ fz=>exact(h.cells j cs₁ fz L₁ aEy hj).2.1
  |tok n s ty=>exact(h.toks j n s _ L₁ aEy hj).2.1
  |_=>
   obtain⟨_,o,e,_⟩:=h.eO j _ L₁ (by rw[hb];rfl) (br hjl) hj;exact(vT.1 e).1
 rcases cE k M.length with hl|hl
 rw[ei hl] at hM
 rcases cE k' M.length with hl'|hl'
 rw[ei hl'] at cJ;exact h.apart k k' L L' hne hM cJ;rw[er hl'] at cJ;have:=key k L hM;have e:L'={b:=w.heap.size,cap:=cap,ty:=(e,cells.size)}:=by
  cases hj:k'-M.length with
  |zero=>rw[hj] at cJ;simpa using cJ.symm
  |succ j=>rw[hj] at cJ;simp at cJ
 subst e;show L.b≠w.heap.size;omega;rw[er hl] at hM;have e:L={b:=w.heap.size,cap:=cap,ty:=(e,cells.size)}:=by
  cases hj:k-M.length with
  |zero=>rw[hj] at hM;simpa using hM.symm
  |succ j=>rw[hj] at hM;simp at hM
 subst e
 rcases cE k' M.length with hl'|hl'
 rw[ei hl'] at cJ;have:=key k' L' cJ;show w.heap.size≠L'.b;omega;rw[er hl'] at cJ;exfalso;have h1:k-M.length=0:=by
  cases hj:k-M.length with
  |zero=>rfl
  |succ j=>rw[hj] at hM;simp at hM
 have h2:k'-M.length=0:=by
  cases hj:k'-M.length with
  |zero=>rfl
  |succ j=>rw[hj] at cJ;simp at cJ
 omega
def bt.Tx(h:bt G base w0 C M hp w)(cs:List U)(cells:Array Value)(e:TypeId)(hr:bY C M hp cs cells.toList):
  bZ C M hp C (M++[{b:=w.heap.size,ty:=(e,cells.size)}]) (hp++[.cells cs false])/\
   bt G base w0 C (M++[{b:=w.heap.size,ty:=(e,cells.size)}]) (hp++[.cells cs false]) (w.alloc (.cells cells e)):=
 h.Na false 0 cs cells.toList cells e hr (λi v hv=>by simpa using hv) (ic _)
variable{G:Cells}{base:Nat}{w0:jd}{w:World}{C:Cells}{M:List Loc}{hp:List aa}
def bt.at(h:bt G base w0 C M hp w){k:Nat}{L:Loc}(hM:M[k]?=some L):L.b<w.heap.size/\base<=L.b:=by
 have hjl:k<hp.length:=by rw[<-h.dK];exact(bE.1 hM).1
 cases hb:hp[k] with
 |cells cs fz=>have:=h.cells k cs fz L aEy hM;exact⟨this.2.1,this.1⟩
 |tok n s ty=>have:=h.toks k n s _ L aEy hM;exact⟨this.2.1,this.1⟩
 |_=>
  obtain⟨h1,o,e,_⟩:=h.eO k _ L (by rw[hb];rfl) (br hjl) hM;exact⟨(vT.1 e).1,h1⟩
def lu{α:Type}{l:List α}{x y:α}{k:Nat}(h:(l++[x])[k]?=some y):(k<l.length/\l[k]?=some y)\/(k=l.length/\y=x):=by
 rcases cE k l.length with hl|hl
 rw[ei hl] at h;exact ay ⟨hl,h⟩;rw[er hl] at h;cases hj:k-l.length with
 |zero=>rw[hj] at h;simp at h;exact ax ⟨aBH,h.symm⟩
 |succ j=>rw[hj] at h;simp at h
def jR{α:Type}{l:List α}{x y:α}{k id:Nat}(h:(l.set id x)[k]?=some y):(k≠id/\l[k]?=some y)\/(k=id/\id<l.length/\y=x):=by
 by_cases e:k=id;subst e;have hl:k<l.length:=by
  have:=(bE.1 h).1;simpa using this
 rw[aR hl] at h;exact ax ⟨rfl,hl,by simpa using h.symm⟩;rw[av (dr e)] at h;exact ay ⟨e,h⟩
def bt.Ty(h:bt G base w0 C M hp w)(cells:Array Value)(e:TypeId)(vs:List Value)(hv:∀(i:Nat) v,vs[i]?=some v->cells[i]?=some v)
  (n s cap:Nat) (hs:vs.length<=cap) (hcap:cap<=cells.size):
  let aC:=C.add w.heap.size 0 vs
  let M':=M++[{b:=w.heap.size,fin:=vs.length,cap:=cap}]
  let hp':=hp++[.tok n s e]
  bZ C M hp aC M' hp'/\bt G base w0 aC M' hp' (w.alloc (.cells cells e)):=by
 intro aC M' hp';obtain⟨Am,h1⟩:=h.Q7 cells e vs hv;have jM:bZ aC M hp aC M' hp':=bZ.push _ _ h.dK;have tP:=fk h.k7.le h.below.size;refine⟨Am.trans jM,h1.below,h.k7,h1.old,h1.oH,by simp[M',hp',h.dK],h1.ld,?_,?_,?_,h1.C2 jM (λk o ho hk=>TH h.dK rfl ho hk) λb o hb _=>hb⟩;intro k cs fz L hk hM
 rcases lu hk with⟨hl,hk⟩|⟨_,hk⟩
 rcases lu hM with⟨_,hM⟩|⟨hl',_⟩
 obtain⟨a1,a2,a3,a4⟩:=h1.cells k cs fz L hk hM;refine⟨a1,a2,λi c hc=>?_,a4⟩;obtain⟨c',b1,b2⟩:=a3 i c hc;exact⟨c',b1,b2.mono jM⟩;rw[h.dK] at hl';omega;cases hk;intro k n₁ s₁ ty L hk hM
 rcases lu hk with⟨hl,hk⟩|⟨hl,hk⟩
 rcases lu hM with⟨_,hM⟩|⟨hl',_⟩
 exact h1.toks k n₁ s₁ ty L hk hM;rw[h.dK] at hl';omega;cases hk
 rcases lu hM with⟨hl',_⟩|⟨_,rfl⟩
 rw[h.dK] at hl';omega;refine⟨tP,aBI,hs,λo ho=>?_,λo ho ho'=>?_,iU.new⟩;show C.add w.heap.size 0 vs w.heap.size o=none;rw[Cells.r8 _ _ _ _ (by simp at ho⊢;omega)];exact h.fresh o;refine⟨?_,V3 _ _ _ _⟩;rw[DH];simp at ho';exact⟨cells[o],sX aBH⟩;intro k k' L L' hne hM cJ
 rcases lu hM with⟨_,hM⟩|⟨e1,rfl⟩<;>rcases lu cJ with⟨_,cJ⟩|⟨e2,rfl⟩
 exact h.apart k k' L L' hne hM cJ;have:=(h.at hM).1;show L.b≠w.heap.size;omega;have:=(h.at cJ).1;show w.heap.size≠L'.b;omega;omega
def bZ.ahc{aC:Cells}{id n n' s:Nat}{ty:TypeId}{L':Loc}(hC:∀b o v,C b o=some v->aC b o=some v)(hid:hp[id]?=some (.tok n s ty))(hn:n<n')(hl:M.length=hp.length):
  bZ C M hp aC (M.set id L') (hp.set id (.tok n' s ty)):=by
 have hlt:=(bE.1 hid).1;refine⟨hC,λk cs fz hk=>?_,λk n₁ s₁ ty₁ hk=>?_,λk o ho hk=>?_⟩;have hne:id≠k:=by intro e;subst e;rw[hid] at hk;cases hk
 exact⟨cs,by rw[av hne];exact hk,λ_=>bl _,λ_=>by rw[av hne],λq=>by rw[av hne];exact q⟩;by_cases e:id=k;subst e;rw[hid] at hk;cases hk;exact⟨n',by rw[aR hlt],aBH,λq=>aBH,λ_=>by rw[aR aBH];rfl⟩;exact⟨n₁,by rw[av e];exact hk,bl _,λ_=>by rw[av e],λq=>by rw[av e];exact q⟩;have hne:id≠k:=by intro e;subst e;rw[hid] at hk;cases hk;cases ho
 exact⟨⟨o,by rw[av hne];exact hk,.refl o⟩,by rw[av hne]⟩
def bt.aut(h:bt G base w0 C M hp w)(cells:Array Value)(e:TypeId)(vs:List Value)(hv:∀(i:Nat) v,vs[i]?=some v->cells[i]?=some v)
  {id n n' s cap:Nat} (hid:hp[id]?=some (.tok n s e)) (hn:n<n') (hs:vs.length<=cap) (hcap:cap<=cells.size):
  let aC:=C.add w.heap.size 0 vs
  let M':=M.set id {b:=w.heap.size,fin:=vs.length,cap:=cap}
  let hp':=hp.set id (.tok n' s e)
  bZ C M hp aC M' hp'/\bt G base w0 aC M' hp' (w.alloc (.cells cells e)):=by
 intro aC M' hp';obtain⟨Am,h1⟩:=h.Q7 cells e vs hv;have jM:bZ aC M hp aC M' hp':=bZ.ahc (λ_ _ _ h=>h) hid hn h.dK;have tP:=fk h.k7.le h.below.size;have hlt:=(bE.1 hid).1;refine⟨Am.trans jM,h1.below,h.k7,h1.old,h1.oH,by simp[M',hp',h.dK],h1.ld,?_,?_,?_,h1.C2 jM (λk o ho hk=>⟨(Fg rfl ho hk).2,av (dr (Fg rfl ho hk).1)⟩) λb o hb _=>hb⟩;intro k cs fz L hk hM
 rcases jR hk with⟨hne,hk⟩|⟨_,_,hk⟩
 rcases jR hM with⟨_,hM⟩|⟨e,_⟩
 obtain⟨a1,a2,a3,a4⟩:=h1.cells k cs fz L hk hM;refine⟨a1,a2,λi c hc=>?_,a4⟩;obtain⟨c',b1,b2⟩:=a3 i c hc;exact⟨c',b1,b2.mono jM⟩;omega;cases hk;intro k n₁ s₁ ty L hk hM
 rcases jR hk with⟨hne,hk⟩|⟨rfl,_,hk⟩
 rcases jR hM with⟨_,hM⟩|⟨e,_⟩
 exact h1.toks k n₁ s₁ ty L hk hM;omega;cases hk
 rcases jR hM with⟨hne,_⟩|⟨_,_,rfl⟩
 omega;refine⟨tP,aBI,hs,λo ho=>?_,λo ho ho'=>?_,iU.new⟩;show C.add w.heap.size 0 vs w.heap.size o=none;rw[Cells.r8 _ _ _ _ (by simp at ho⊢;omega)];exact h.fresh o;refine⟨?_,V3 _ _ _ _⟩;rw[DH];simp at ho';exact⟨cells[o],sX aBH⟩;intro k k' L L' hne hM cJ
 rcases jR hM with⟨_,hM⟩|⟨e1,_,rfl⟩<;>rcases jR cJ with⟨_,cJ⟩|⟨e2,_,rfl⟩
 exact h.apart k k' L L' hne hM cJ;have:=(h.at hM).1;show L.b≠w.heap.size;omega;have:=(h.at cJ).1;show w.heap.size≠L'.b;omega;omega
def Cj(b:Nat):∀(vs:List Value) (o:Nat) (w:World) (k:Nat),k≠b->(w.setCells b o vs).heap[k]?=w.heap[k]?
 |[],_,_,_,_=>rfl
 |v::r,o,_,k,h=>by rw[Kc,Cj b r (o+1) _ k h];exact ai6 _ _ _ _ h
def Dp(b:Nat):∀(vs:List Value) (o:Nat) (w:World),(w.setCells b o vs).heap.size=w.heap.size
 |[],_,_=>rfl
 |v::r,o,_=>by rw[Kc,Dp b r (o+1)];simp
def P1{a:World}(b:Nat)(hb:B<=b):∀(vs:List Value) (o:Nat) (w:World),Below B a w->Below B a (w.setCells b o vs)
 |[],_,_,h=>h
 |v::r,o,_,h=>P1 b hb r (o+1) _ (h.setCell hb v)
def lK.setCells{e:TypeId×Nat}(b':Nat):∀(vs:List Value) (o:Nat) (w:World),lK w b e->lK (w.setCells b' o vs) b e
 |[],_,w,h=>h
 |v::r,o,w,h=>by rw[Kc];exact lK.setCells b' r (o+1) _ (h.set _ _)
def iU.setCells(hf:fin<=fin')(b':Nat):∀(vs:List Value) (o:Nat) (w:World),iU w b fin e->iU (w.setCells b' o vs) b fin' e
 |[],_,_,h=>h.up hf
 |v::r,o,w,h=>by rw[Kc];exact iU.setCells hf b' r (o+1) _ (h.set (bl _) _ _)
def bt.anR(h:bt G base w0 C M hp w)(vs:List Value){s:Nat}(hid:hp[id]?=some (.tok n s ty))(hM:M[id]?=some L)(hn:n<n')(hfit:L.fin+vs.length<=L.cap):
  let aC:=C.add L.b L.fin vs
  let M':=M.set id {L with fin:=L.fin+vs.length}
  let hp':=hp.set id (.tok n' s ty)
  bZ C M hp aC M' hp'/\bt G base w0 aC M' hp' (w.setCells L.b L.fin vs):=by
 intro aC M' hp';obtain⟨t1,t2,t3,t4,t5,t6⟩:=h.toks id n s ty L hid hM;have aat:=λb o v hc=>by
  show C.add L.b L.fin vs b o=some v;rw[Cells.r8];exact hc;rintro⟨rfl,q1,ah⟩;rw[t4 o q1] at hc;cases hc
 have hle:bZ C M hp aC M' hp':=bZ.ahc aat hid hn h.dK;have hlt:=(bE.1 hid).1;have hout:∀b o,¬(b=L.b/\L.fin<=o/\o<L.fin+vs.length)->(w.setCells L.b L.fin vs).cell? ⟨b,o,none⟩=w.cell? ⟨b,o,none⟩:=λb o hno=>
  azL L.b vs L.fin w ⟨b,o,none⟩ (λe _=>by simp at e⊢;omega)
 refine⟨hle,P1 L.b t1 vs L.fin w h.below,h.k7,λb o v hc hb=>h.old b o v (by have gr:C.add L.b L.fin vs b o=some v:=hc;rwa [Cells.r8 _ _ _ _ (λq=>aBH)] at gr) hb,λb o v hg=>aat _ _ _ (h.oH b o v hg),by simp[M',hp',h.dK],?_,?_,?_,?_,λk o L₁ ho hk fT=>?_⟩;intro b o v hc;by_cases hb:b=L.b/\L.fin<=o/\o<L.fin+vs.length;obtain⟨rfl,q1,ah⟩:=hb;obtain⟨j,rfl⟩:∃j,o=L.fin+j:=⟨o-L.fin,aBH⟩;have hj:j<vs.length:=aBH
 have e:=Cells.BL C L.b L.fin vs j hj;have gr:C.add L.b L.fin vs L.b (L.fin+j)=some v:=hc;rw[e,br hj] at gr;rw[azK L.b vs L.fin w (λi hi=>by
  obtain⟨⟨x,hx⟩,_⟩:=t5 (L.fin+i) aBH aBH;rw[hx];rfl) j hj]
 exact gr;have gr:C.add L.b L.fin vs b o=some v:=hc;rw[Cells.r8 _ _ _ _ hb] at gr;rw[hout b o hb];exact h.ld b o v gr;intro k cs fz L₁ hk fT
 rcases jR hk with⟨hne,hk⟩|⟨_,_,hk⟩
 rcases jR fT with⟨_,fT⟩|⟨e,_⟩
 obtain⟨a1,a2,a3,a4⟩:=h.cells k cs fz L₁ hk fT;have hb:=h.apart k id L₁ L hne fT hM;obtain⟨q1,ah,aN⟩:=a4;refine⟨a1,aEa,λi c hc=>?_,λi=>by rw[Ka];exact q1 i,λo=>?_,λo ho=>aDw,aN.2.same (Cj _ _ _ _ _ hb)⟩;obtain⟨c',b1,b2⟩:=a3 i c hc;exact⟨c',aD5,b2.mono hle⟩;show C.add L.b L.fin vs L₁.b o=none;rw[Cells.r8 _ _ _ _ (λq=>hb q.1)];exact ah o;omega;cases hk;intro k n₁ s₁ ty L₁ hk fT
 rcases jR hk with⟨hne,hk⟩|⟨rfl,_,hk⟩
 rcases jR fT with⟨_,fT⟩|⟨e,_⟩
 obtain⟨a1,a2,a3,a4,a5,a6⟩:=h.toks k n₁ s₁ ty L₁ hk fT;have hb:=h.apart k id L₁ L hne fT hM;refine⟨a1,aEa,a3,λo ho=>?_,λo ho ho'=>?_,a6.same (Cj _ _ _ _ _ hb)⟩;show C.add L.b L.fin vs L₁.b o=none;rw[Cells.r8 _ _ _ _ (λq=>hb q.1)];exact a4 o ho;rw[hout _ _ (λq=>hb q.1),Ka];exact a5 o ho ho';omega;cases hk
 rcases jR fT with⟨hne,_⟩|⟨_,_,rfl⟩
 omega;refine⟨t1,by rw[Dp];exact t2,hfit,λo ho=>?_,λo ho ho'=>?_,iU.setCells (Nat.le_add_right _ _) _ _ _ _ t6⟩;show C.add L.b L.fin vs L.b o=none;simp at ho;rw[Cells.r8 _ _ _ _ aBH];exact t4 o aBH;simp at ho ho';rw[Ka];show(∃v,(w.setCells L.b L.fin vs).cell? ⟨L.b,o,none⟩=some v)/\_;rw[hout L.b o aBH];exact t5 o aBH ho';intro k k' L₁ L₂ hne fT aoa
 rcases jR fT with⟨_,q1⟩|⟨e1,_,rfl⟩<;>rcases jR aoa with⟨_,ah⟩|⟨e2,_,rfl⟩
 exact h.apart k k' L₁ L₂ hne q1 ah;exact h.apart k id L₁ L aBH q1 hM;exact h.apart id k' L L₂ aBH hM ah;omega;obtain⟨hne,hk'⟩:=Fg rfl ho hk;have cJ:M[k]?=some L₁:=by have q:(M.set id {L with fin:=L.fin+vs.length})[k]?=some L₁:=fT;rwa [av (dr hne)] at q
 obtain⟨a1,x,a2,a3,a4⟩:=h.eO k o L₁ ho hk' cJ;exact⟨a1,x,by rw[Cj _ _ _ _ _ (h.apart k id L₁ L hne cJ hM)];exact a2,a3,a4.mono hle⟩
def putAt(cs:List U)(off:Nat)(vs:List U):List U:=cs.take off++vs++cs.drop (off+vs.length)
def Ug{vs:List U}(h:off+vs.length<=cs.length)(i:Nat):
  (putAt cs off vs)[i]?=if i<off then cs[i]? else if i<off+vs.length then vs[i-off]? else cs[i]? :=by
 unfold putAt;have h1:(cs.take off).length=off:=aBK
 by_cases c1:i<off;rw[if_pos c1,cq,ei aBH,zp c1];rw[if_neg c1,cq,er aBH,h1];by_cases c2:i<off+vs.length;rw[if_pos c2,ei aBH];rw[if_neg c2,er aBH,qd];congr 1;omega
def Uh{vs:List U}(h:off+vs.length<=cs.length):(putAt cs off vs).length=cs.length:=by
 unfold putAt;simp;omega
def bZ.setCells{cs':List U}(hC:∀b o v,C b o=some v->aC b o=some v)(hk:hp[k]?=some (.cells cs row))(hl:cs'.length=cs.length):
  bZ C M hp aC M (hp.set k (.cells cs' row)):=by
 have hlt:=(bE.1 hk).1;refine⟨hC,λj cs₁ Rb hj=>?_,λj n₁ s₁ ty₁ hj=>?_,λj o ho hj=>?_⟩;by_cases e:k=j;subst e;rw[hk] at hj;cases hj;exact⟨cs',aR hlt,λ_=>aBH,λ_=>rfl,λh=>h⟩;exact⟨cs₁,aCv,λ_=>bl _,λ_=>rfl,λh=>h⟩;have e:k≠j:=aDV
 exact⟨n₁,aCv,bl _,λ_=>rfl,λh=>h⟩;have e:k≠j:=aDd
 exact⟨⟨o,aCv,.refl o⟩,rfl⟩
def bZ.aak{cs':List U}(hC:∀b o v,C b o=some v->aC b o=some v)(hk:hp[k]?=some (.cells cs true))(hl:M.length=hp.length)(hg:cs.length<cs'.length\/(cs'.length=cs.length/\M[k]?=some L')):
  bZ C M hp aC (M.set k L') (hp.set k (.cells cs' true)):=by
 have hlt:=(bE.1 hk).1;refine⟨hC,λj cs₁ Rb hj=>?_,λj n₁ s₁ ty₁ hj=>?_,λj o ho hj=>?_⟩;by_cases e:k=j;subst e;rw[hk] at hj;cases hj;refine⟨cs',aR hlt,λ_=>aBH,λq=>?_,λh=>by rw[aR aBH];rfl⟩;have:=q rfl
 rcases hg with hg|⟨_,hg⟩
 omega;rw[aR aBH,hg];exact⟨cs₁,aCv,λ_=>bl _,λ_=>by rw[av e],λh=>aD6⟩;have e:k≠j:=aDV
 exact⟨n₁,aCv,bl _,λ_=>by rw[av e],λh=>aD6⟩;have e:k≠j:=aDd
 exact⟨⟨o,aCv,.refl o⟩,by rw[av e]⟩
def bt.ahR(h:bt G base w0 C M hp w){cs':List U}(hk:hp[k]?=some (.cells cs row))(hM:M[k]?=some L)
  (off:Nat) (us:List U) (vs:List Value) (hr:bY C M hp us vs) (hle:bZ C M hp C M (hp.set k (.cells cs' row))) (hfit:off+us.length<=cs.length\/off+us.length<=L.cap)
  (Mb:∀(i:Nat),cs'[i]?=if i<off then cs[i]? else if i<off+us.length then us[i-off]? else cs[i]?):
  bt G base w0 C M (hp.set k (.cells cs' row)) (w.setCells L.b off vs):=by
 obtain⟨t1,t2,t3,Vg,Ba,rP,aif⟩:=h.cells k cs row L hk hM;have hlen:=hr.1;have hout:∀b o,¬(b=L.b/\off<=o/\o<off+vs.length)->(w.setCells L.b off vs).cell? ⟨b,o,none⟩=w.cell? ⟨b,o,none⟩:=λb o hno=>
  azL L.b vs off w ⟨b,o,none⟩ (λe _=>by simp at e⊢;omega)
 have hin:=azK L.b vs off w (λq hq=>by
  rcases hfit with hfit|hfit
  obtain⟨c',b1,_⟩:=t3 (off+q) _ (br aBH);rw[b1];rfl;obtain⟨c',b1⟩:=rP (off+q) aBH;rw[b1];rfl)
 refine⟨P1 L.b t1 vs off w h.below,h.k7,h.old,h.oH,aEw,?_,?_,?_,h.apart,λj o L₁ ho hj fT=>?_⟩;intro b o v hc;rw[hout b o (by rintro⟨rfl,_⟩;rw[Ba o] at hc;cases hc)];exact h.ld b o v hc;intro j cs₁ Rb L₁ hj fT
 rcases jR hj with⟨hne,hj⟩|⟨rfl,_,hj⟩
 obtain⟨a1,a2,a3,q1,ah,aN⟩:=h.cells j cs₁ Rb L₁ hj fT;have hb:=h.apart j k L₁ L hne fT hM;refine⟨a1,aEa,λi c hc=>?_,λi=>by rw[Ka];exact q1 i,ah,λo ho=>aDw,aN.2.same (Cj _ _ _ _ _ hb)⟩;obtain⟨c',b1,b2⟩:=a3 i c hc;exact⟨c',aD5,b2.mono hle⟩;cases hj;rw[hM] at fT;cases fT;refine⟨t1,by rw[Dp];exact t2,λi c hc=>?_,λi=>by rw[Ka];exact Vg i,Ba,λo ho=>?_,aif.setCells _ _ _ _⟩;rw[Mb] at hc;by_cases c1:i<off;rw[if_pos c1] at hc;obtain⟨c',b1,b2⟩:=t3 i c hc;exact⟨c',by rw[hout _ _ aBH];exact b1,b2.mono hle⟩;rw[if_neg c1] at hc;by_cases c2:i<off+us.length;rw[if_pos c2] at hc;obtain⟨c',b1,b2⟩:=hr.get hc;have hj:i-off<vs.length:=aBH
 have:=hin (i-off) hj;rw[show off+(i-off)=i by omega] at this;refine⟨c',?_,b2.mono hle⟩;rw[this,<-b1,br hj];rw[if_neg c2] at hc;obtain⟨c',b1,b2⟩:=t3 i c hc;exact⟨c',by rw[hout _ _ aBH];exact b1,b2.mono hle⟩;by_cases c1:off<=o/\o<off+vs.length;have:=hin (o-off) aBH;rw[show off+(o-off)=o by omega] at this;have hq:o-off<vs.length:=aBH
 exact⟨vs[o-off],this⟩;rw[hout _ _ aBH];exact rP o ho;intro j n₁ s₁ ty L₁ hj fT
 rcases jR hj with⟨hne,hj⟩|⟨_,_,hj⟩
 obtain⟨a1,a2,a3,a4,a5,a6⟩:=h.toks j n₁ s₁ ty L₁ hj fT;have hb:=h.apart j k L₁ L hne fT hM;refine⟨a1,aEa,a3,a4,λo ho ho'=>?_,a6.same (Cj _ _ _ _ _ hb)⟩;rw[hout _ _ (λq=>hb q.1),Ka];exact a5 o ho ho';cases hj;obtain⟨hne,hj'⟩:=Fg rfl ho hj;obtain⟨a1,x,a2,a3,a4⟩:=h.eO j o L₁ ho hj' fT;exact⟨a1,x,by rw[Cj _ _ _ _ _ (h.apart j k L₁ L hne fT hM)];exact a2,a3,a4.mono hle⟩
def bt.store(h:bt G base w0 C M hp w)(hk:hp[k]?=some (.cells cs row))(hM:M[k]?=some L)
  (off:Nat) (us:List U) (vs:List Value) (hr:bY C M hp us vs) (hfit:off+us.length<=cs.length):
  bZ C M hp C M (hp.set k (.cells (putAt cs off us) row))/\bt G base w0 C M (hp.set k (.cells (putAt cs off us) row)) (w.setCells L.b off vs):=by
 have hle:bZ C M hp C M (hp.set k (.cells (putAt cs off us) row)):=bZ.setCells (λ_ _ _ h=>h) hk (Uh hfit);exact⟨hle,h.ahR hk hM off us vs hr hle (ay hfit) λi=>Ug hfit i⟩
def axf(h:w.cell? ⟨b,o,none⟩=some v):w.setCell ⟨b,o,none⟩ v=w:=by
 have key:w.heap.modify b (λ
   |.cells c elem frozen=>.cells (if(none:Option Nat).isSome then c else c.setIfInBounds o v) elem frozen
   |o=>o)=w.heap:=by
  apply azD;intro i;rw[Bk];split;rename_i e;subst e;cases hx:w.heap[b]? with
  |none=>rfl
  |some x=>
   cases x with
   |cells c ty fr=>
    have hc:c[o]?=some v:=by simpa[DG,hx] using h
    simp only[ie,ya,iA,if_false];congr 2;apply azD;intro j;rw[Array.getElem?_setIfInBounds];split;rename_i e;subst e;split;exact hc.symm;rename_i hn;rw[aiK aBH] at hc;cases hc;rfl
   |_=>rfl
  rfl
 show({w with heap:=_}:World)=w
 exact congrArg (λq=>({w with heap:=q}:World)) key
def bt.ayp(h:bt G base w0 C M hp w){z:List U}(hk:hp[k]?=some (.cells (.v (.pointer none)::z) false))(hM:M[k]?=some L):
  bZ C M hp C M (hp.set k (.cells (.fL k L.ty::z) false))/\bt G base w0 C M (hp.set k (.cells (.fL k L.ty::z) false)) w:=by
 obtain⟨hle,hs⟩:=h.store hk hM 0 [.fL k L.ty] [.pointer none] ⟨rfl,λi a b ha hb=>by
  cases i with
  |zero=>simp at ha hb;subst ha;subst hb;exact .fL hk hM
  |succ i=>simp at ha⟩ aBI
 obtain⟨_,_,h3,_⟩:=h.cells k _ _ L hk hM;obtain⟨c',h4,h5⟩:=h3 0 (.v (.pointer none)) rfl;cases h5;have e:w.setCells L.b 0 [.pointer none]=w:=by
  rw[Kc,Kc];exact axf h4
 rw[e] at hs;exact⟨hle,hs⟩
def RQ(w:World)(a:Addr)(n k:Nat)(hk:k≠a.block):(w.freeze a n).heap[k]?=w.heap[k]? :=by
 unfold OQ;split;rfl;show(w.heap.modify a.block _)[k]?=_;rw[Bk,if_neg (dr hk)]
def aaM(w:World)(a:Addr)(n k:Nat)(o:Obj)(h:w.heap[k]?=some o)(ho:qY o):(w.freeze a n).heap[k]?=some o:=by
 unfold OQ;split;exact h;show(w.heap.modify a.block _)[k]?=_;rw[Bk];split;rw[h];cases o with
 |cells c t f=>exact(ho c t f rfl).elim
 |_=>rfl
 exact h
def UQ(w:World)(a:Addr)(n:Nat):(w.freeze a n).heap.size=w.heap.size:=by
 unfold OQ;split;rfl;show(w.heap.modify a.block _).size=_;simp
def am1{lo hi:Nat}{cs:Array Value}(a:Addr)(n:Nat)(h:w.heap[k]?=some (.cells cs e (lo,hi))):∃fr,(w.freeze a n).heap[k]?=some (.cells cs e fr):=by
 by_cases hb:k=a.block;unfold OQ;split;exact⟨_,h⟩;refine⟨if lo==hi then(a.off,a.off+n) else(min lo a.off,max hi (a.off+n)),?_⟩;show(w.heap.modify a.block _)[k]?=_;rw[Bk,if_pos hb.symm,h];rfl;exact⟨_,by rw[RQ _ _ _ _ hb];exact h⟩
def KY(w:World)(a c:Addr)(n:Nat):(w.freeze a n).cell? c=w.cell? c:=by
 unfold DG;cases hx:w.heap[c.block]? with
 |none=>rw[aiK (by rw[UQ];exact Array.getElem?_eq_none_iff.1 hx)]
 |some x=>
  cases x with
  |cells cs e fr=>
   obtain⟨lo,hi⟩:=fr;obtain⟨fr',q⟩:=am1 a n hx;rw[q]
  |_=>rw[aaM _ _ _ _ _ hx (λc t f q=>aBT)]
def bt.am0(h:bt G base w0 C M hp w){c s:Nat}(hid:hp[id]?=some (.tok c s ty))(hM:M[id]?=some L)(ha:L.b=a.block)(hfit:a.off+n<=L.fin):
  bt G base w0 C M hp (w.freeze a n):=by
 obtain⟨t1,t2,_⟩:=h.toks id c s ty L hid hM;refine⟨Lib.below_freeze h.below aBH n,h.k7,h.old,h.oH,h.dK,λb o v hc=>by rw[KY];exact h.ld b o v hc,?_,?_,h.apart,?_⟩;intro k cs fz L' hk cJ;obtain⟨h1,h2,h3,h4,h5,h6,h7⟩:=h.cells k cs fz L' hk cJ;have hne:k≠id:=by intro q;subst q;rw[hid] at hk;cases hk
 have hb:L'.b≠a.block:=by rw[<-ha];exact h.apart k id L' L hne cJ hM
 refine⟨h1,by rw[UQ];exact h2,λi x hx=>?_,λi=>?_,h5,λo ho=>?_,h7.same (RQ _ _ _ _ hb)⟩;obtain⟨c',a1,a2⟩:=h3 i x hx;exact⟨c',by rw[KY];exact a1,a2⟩;have:=h4 i;unfold V2 at this⊢;rw[RQ _ _ _ _ hb];exact this;obtain⟨v,hv⟩:=h6 o ho;exact⟨v,by rw[KY];exact hv⟩;intro k n' s' ty' L' hk cJ;obtain⟨h1,h2,h3,h4,h5,h6⟩:=h.toks k n' s' ty' L' hk cJ;have hT:=h6.freeze a n λhb=>by
  by_cases hne:k=id;subst hne;rw[hM] at cJ;cases cJ;exact hfit;exact(h.apart k id L' L hne cJ hM (by rw[hb,ha])).elim
 refine⟨h1,by rw[UQ];exact h2,h3,h4,λo ho ho'=>⟨?_,hT.free o ho⟩,hT⟩;obtain⟨⟨v,hv⟩,_⟩:=h5 o ho ho';exact⟨v,by rw[KY];exact hv⟩;intro k b L' hb hk cJ;obtain⟨h1,o,h2,h3,h4⟩:=h.eO k b L' hb hk cJ;exact⟨h1,o,aaM _ _ _ _ _ h2 h3,h3,h4⟩
def bt.aus(h:bt G base w0 C M hp w)(cells:Array Value)(e:TypeId)(cs':List U)(vs:List Value)(hr:bY C M hp cs' vs)(hv:∀(i:Nat) v,vs[i]?=some v->cells[i]?=some v)(hcap:cap<=cells.size)(hk:hp[k]?=some (.cells cs true))(hlt:cs.length<cs'.length):
  bZ C M hp C (M.set k {b:=w.heap.size,cap:=cap,ty:=(e,cells.size)}) (hp.set k (.cells cs' true))/\bt G base w0 C (M.set k {b:=w.heap.size,cap:=cap,ty:=(e,cells.size)}) (hp.set k (.cells cs' true)) (w.alloc (.cells cells e)):=by
 have hle:bZ C M hp C (M.set k {b:=w.heap.size,cap:=cap,ty:=(e,cells.size)}) (hp.set k (.cells cs' true)):=bZ.aak (λ_ _ _ h=>h) hk h.dK (ay hlt);have tP:=fk h.k7.le h.below.size;have cK:=(bE.1 hk).1;refine⟨hle,h.below.alloc tP _,h.k7,h.old,h.oH,aEw,?_,?_,?_,?_,h.C2 hle (λj o ho hj=>⟨(Fg rfl ho hj).2,av (dr (Fg rfl ho hj).1)⟩) λb o hb _=>Mc _ _ _ _ hb⟩;intro b o v hc;have hw:=h.ld b o v hc;rw[qO _ _ _ (OP _ _ hw)];exact hw;intro j cs₁ fz L hj hM
 rcases jR hj with⟨hne,hj⟩|⟨rfl,_,hj⟩
 rcases jR hM with⟨_,hM⟩|⟨e,_⟩
 obtain⟨h1,h2,h3,q1,ah,aN⟩:=h.cells j cs₁ fz L hj hM;refine⟨h1,aBK,λi c hc=>?_,λi=>by rw[DI _ _ _ aCk];exact q1 i,ah,λo ho=>by rw[qO _ _ _ aCA];exact aN.1 o ho,aN.2.alloc h2 _⟩;obtain⟨c',a1,a2⟩:=h3 i c hc;exact⟨c',by rw[qO _ _ _ aCA];exact a1,a2.mono hle⟩;omega;cases hj
 rcases jR hM with⟨hne,_⟩|⟨_,_,rfl⟩
 omega;refine⟨tP,aBI,λi c hc=>?_,λi=>V3 _ _ _ _,λo=>h.fresh o,λo ho=>?_,lK.new⟩;obtain⟨c',a1,a2⟩:=hr.get hc;exact⟨c',by rw[DH];exact hv _ _ a1,a2.mono hle⟩;rw[DH];have ho:o<cap:=ho;exact⟨cells[o],sX aBH⟩;intro j n s ty L hj hM
 rcases jR hj with⟨hne,hj⟩|⟨_,_,hj⟩
 rcases jR hM with⟨_,hM⟩|⟨e,_⟩
 obtain⟨h1,h2,h3,h4,h5,h6⟩:=h.toks j n s ty L hj hM;refine⟨h1,aBK,h3,h4,λo ho ho'=>?_,h6.alloc h2 _⟩;obtain⟨a1,a2⟩:=h5 o ho ho';exact⟨by rw[qO _ _ _ aCA];exact a1,by rw[DI _ _ _ aCk];exact a2⟩;omega;cases hj;intro j j' L L' hne hM cJ
 rcases jR hM with⟨_,hM⟩|⟨e1,_,rfl⟩<;>rcases jR cJ with⟨_,cJ⟩|⟨e2,_,rfl⟩
 exact h.apart j j' L L' hne hM cJ;have:=(h.at hM).1;show L.b≠w.heap.size;omega;have:=(h.at cJ).1;show w.heap.size≠L'.b;omega;omega
inductive bI where
 |t (n:Nat)
 |c (a:U)
def gH:U:=.aK []
def ev(ts:List U):bI->U
 |.t n=>(ts[n]?).getD gH
 |.c a=>a
def JI:Value->Option U
 |.slice none 0 0=>some .af
 |.func f fs cs=>if fs.size=0/\cs.size=0 then some (.fn f [] []) else none
 |x=>if plain x then some (.v x) else none
def cH:Operand->Option bI
 |.tmp t=>some (.t t)
 |.const v=>(JI v).map .c
 |.func f=>some (.c (.fn (.func f) [] []))
 |.global _=>none
def zb:List Value->Option (List U)
 |[]=>some []
 |x::r=>match JI x,zb r with
  |some a,some l=>some (a::l)
  |_,_=>none
def qJ:List Operand->Option (List bI)
 |[]=>some []
 |x::r=>match cH x,qJ r with
  |some a,some l=>some (a::l)
  |_,_=>none
def k4(C:Cells)(M:List Loc)(hp:List aa)(ts:List U)(tmps:Array Value):Prop:=bY C M hp ts tmps.toList
section
variable{G:Cells}{base:Nat}{w0:jd}{w:World}{C:Cells}{M:List Loc}{hp:List aa}{P:Program}
def Df:aI C M hp gH undef:=.aK rfl (λi a b h=>aBR)
def Uw{x:Value}{a:U}(h:JI x=some a):aI C M hp a x:=by
 unfold JI at h;split at h;cases h;exact .af;split at h;rename_i hq;cases h;exact .fn (by simp[hq.1]) (by simp[hq.2]) (λi a b h=>aBR) (λi a b h=>aBR);cases h;split at h;rename_i hp';cases h;exact .v hp';cases h
def y5:∀{xs:List Value} {l:List U},zb xs=some l->bY C M hp l xs
 |[],l,h=>by cases h;exact⟨rfl,λi a b h=>aBR⟩
 |x::r,l,h=>by
  simp only[zb] at h;split at h;rename_i a l' h1 h2;cases h;have ih:=y5 h2;refine⟨by simp[ih.1],λi a' b' e1 e2=>?_⟩;cases i with
  |zero=>simp at e1 e2;subst e1;subst e2;exact Uw h1
  |succ i=>simp at e1 e2;exact ih.2 i a' b' e1 e2
  cases h
def Q6{tmps:Array Value}(h:k4 C M hp ts tmps)(n:Nat):aI C M hp ((ts[n]?).getD gH) (tmps.getD n undef):=by
 rcases cE n ts.length with hl|hl
 have hl':n<tmps.size:=by have:=h.1;simp at this;omega
 have:=h.2 n ts[n] tmps[n] (br hl) (by simp[hl']);simpa[br hl,Array.getD,hl'] using this;have hl':tmps.size<=n:=by have:=h.1;simp at this;omega
 have e:tmps.getD n undef=undef:=by simp[Array.getD,Nat.not_lt.2 hl']
 rw[hG hl,e];exact Df
def dj{a:Act}(h:k4 C M hp ts a.tmps){x:Operand}{o:bI}(hx:cH x=some o):aI C M hp (ev ts o) (a.eval x):=by
 cases x with
 |tmp t=>cases hx;exact Q6 h t
 |const v=>
  simp only[cH,cc] at hx;obtain⟨aG,h1,rfl⟩:=hx;exact Uw h1
 |global g=>cases hx
 |func f=>cases hx;exact .fn rfl rfl (λi a b h=>aBR) (λi a b h=>aBR)
def ZW{a:Act}(h:k4 C M hp ts a.tmps)(hr:aI C M hp x y)(d:Nat):
  k4 C M hp (ts.set d x) (a.put (some d) y).tmps:=by
 have hlen:ts.length=a.tmps.size:=aDx
 refine⟨by simp[Act.put,hlen],λi u v hu hv=>?_⟩;simp only[Act.put,Array.toList_setIfInBounds] at hv
 rcases jR hu with⟨hne,hu⟩|⟨rfl,hl,rfl⟩
 rw[av (dr hne)] at hv;exact h.2 i u v hu hv;rw[aR (by simpa[hlen] using hl)] at hv;simp at hv;subst hv;exact hr
def e6(G:Cells)(base:Nat)(w0:jd)(C:Cells)(M:List Loc)(hp:List aa)(P:Program)(m:Sem Value)(w:World)(r:U)(hp':List aa):Prop:=
 ∃aC M' v' w',m.run P w=.ok v' w'/\bZ C M hp aC M' hp'/\bt G base w0 aC M' hp' w'/\aI aC M' hp' r v'
def e6.same{m:Sem Value}(h:bt G base w0 C M hp w)(hr:m.run P w=.ok v w)(hv:aI C M hp r v):e6 G base w0 C M hp P m w r hp:=
 ⟨C,M,v,w,hr,bZ.refl _ _ _,h,hv⟩
def iN(P:Program)(t:TypeId):Option Bool:=
 match P.underlying t with
 |some (.struct _)|some (.array _ _)=>some true
 |some _=>some false
 |none=>none
def gO(P:Program)(t:TypeId):Option Nat:=(P.info? t).map (·.size)
def UE{b:Bool}(h:iN P t=some b)(w:World):(isAgg t).run P w=.ok b w:=by
 unfold iN at h;cases hd:P.underlying t with
 |none=>simp[hd] at h
 |some d=>
  rw[hd] at h;unfold isAgg;simp only[eH,run_underlying hd,eP];cases d<;>simp at h<;>subst h<;>rfl
def nN(h:gO P t=some n)(w:World):(sizeOf t).run P w=.ok n w:=by
 unfold gO at h;simp only[cc] at h;obtain⟨i,hi,rfl⟩:=h;simp[sizeOf,typeInfo,hi]
def dB(aH:Bool)(n:Nat)(cs:List U)(off:Nat):Option U:=
 if aH then(if off+n<=cs.length then some (.agg ((cs.drop off).take n)) else none) else cs[off]?
def addr_add(b o n:Nat):(⟨b,o,none⟩:Addr).add n=⟨b,o+n,none⟩:=by unfold Addr.add;split<;>simp_all
def FD(hag:iN P t=some aH)(hn:gO P t=some n)
  (hsrc:∀(i:Nat) c,cs[i]?=some c->∃c',w.cell? ⟨b,o+i,none⟩=some c'/\aI C M hp c c') (hr:dB aH n cs off=some r):
  ∃v,(loadVar t ⟨b,o+off,none⟩).run P w=.ok v w/\aI C M hp r v:=by
 unfold loadVar;simp only[eH,UE hag,eP];unfold dB at hr;cases aH with
 |true=>
  simp only[if_true] at hr⊢;split at hr;rename_i hfit;cases hr;have aaI:∀j,j<n->∃c',w.cell? ⟨b,o+off+j,none⟩=some c'/\∃c,cs[off+j]?=some c/\aI C M hp c c':=λj hj=>by
   obtain⟨c',h1,h2⟩:=hsrc (off+j) cs[off+j] (br aBH);exact⟨c',by rw[lF];exact h1,_,br aBH,h2⟩
  have hl:=run_loadCells (P:=P) w ⟨b,o+off,none⟩ n (λj=>(w.cell? ⟨b,o+off+j,none⟩).getD undef) (λj hj=>by
   obtain⟨c',h1,_⟩:=aaI j hj;rw[addr_add];simp[h1])
  refine⟨.agg ((jq n).map (λj=>(w.cell? ⟨b,o+off+j,none⟩).getD undef)).toArray,?_,?_⟩;simp only[eH,nN hn,eP,hl,ki];refine .agg aBK (λi a c ha hc=>?_);have hi:i<n:=by
   have:=(bE.1 ha).1;simp at this;omega
  obtain⟨c',h1,c0,h2,h3⟩:=aaI i hi;simp only[OU,qd] at ha;rw[if_pos hi,h2] at ha;cases ha;simp[hi,h1] at hc;subst hc;exact h3;cases hr
 |false=>
  simp only[iA,if_false] at hr⊢;obtain⟨c',h1,h2⟩:=hsrc off r hr;exact⟨c',aC_,h2⟩
def aq(hp:List aa)(aH:Bool)(n:Nat):U->Option U
 |.fp cs off=>dB aH n cs off
 |.mp k off=>match hp[k]? with
  |some (.cells cs false)=>dB aH n cs off
  |_=>none
 |.rp k m off=>match hp[k]? with
  |some (.cells cs true)=>if m=cs.length then dB aH n cs off else none
  |_=>none
 |_=>none
def anz(hag:iN P t=some aH)(hn:gO P t=some n)(h:bt G base w0 C M hp w)(hx:aI C M hp x y)(hr:aq hp aH n x=some r):e6 G base w0 C M hp P (VV t y) w r hp:=by
 unfold aq at hr;split at hr;rename_i cs off;cases hx with
 |fp f hC hR=>
  rename_i b o;obtain⟨v,h1,h2⟩:=FD (w:=w) (o:=o) hag hn (λi c hc=>⟨f i,h.ld _ _ _ (hC i c hc),hR i c hc⟩) hr;exact .same h (by simp[VV,J4,h1]) h2
 rename_i k off;cases hx with
 |mp hb hM=>
  rename_i L cs;rw[hb] at hr;simp only at hr;obtain⟨t1,t2,t3,t4⟩:=h.cells k cs false L hb hM;obtain⟨v,h1,h2⟩:=FD (w:=w) (o:=0) (b:=L.b) hag hn (λi c hc=>by
   obtain⟨c',a1,a2⟩:=t3 i c hc;exact⟨c',aEb,a2⟩) hr
  rw[e5] at h1;exact .same h (by simp[VV,J4,h1]) h2
 rename_i k m off;cases hx with
 |rp hb hM hn' ha=>
  rename_i L cs a;rw[hb] at hr;simp only at hr;split at hr;rename_i hm;have ha:=ha hm;subst ha;obtain⟨t1,t2,t3,t4⟩:=h.cells k cs true L hb hM;obtain⟨v,h1,h2⟩:=FD (w:=w) (o:=0) (b:=L.b) hag hn (λi c hc=>by
   obtain⟨c',a1,a2⟩:=t3 i c hc;exact⟨c',aEb,a2⟩) hr
  rw[e5] at h1;exact .same h (by simp[VV,J4,h1]) h2;cases hr
 cases hr
def NK(h:aI C M hp x y):bY C M hp x.cells y.cells.toList:=by
 have single:∀{x:U} {y:Value},aI C M hp x y->bY C M hp [x] [y]:=λh=>⟨rfl,λi a b e1 e2=>by
  cases i with
  |zero=>simp at e1 e2;subst e1;subst e2;exact h
  |succ i=>simp at e1⟩
 cases h with
 |agg hl h=>exact⟨by simp[U.cells,vY,hl],λi a b e1 e2=>h i a b (by simpa[U.cells] using e1) aEC⟩
 |v h=>
  have hc:y.cells= #[y]:=by cases y<;>first|rfl|simp[plain] at h
  rw[hc];exact single (.v h)
 |aK hl h=>exact single (.aK hl h)
 |af=>exact single .af
 |sl f a b c d e g=>exact single (.sl f a b c d e g)
 |fp f a b=>exact single (.fp f a b)
 |mp a b=>exact single (.mp a b)
 |rp a b c d=>exact single (.rp a b c d)
 |rs a b c d e=>exact single (.rs a b c d e)
 |eN a b=>exact single (.eN a b)
 |fn a b c d=>exact single (.fn a b c d)
 |cQ a=>exact single (.cQ a)
 |ey a b=>exact single (.ey a b)
 |gk a b=>exact single (.gk a b)
 |fL a b=>exact single (.fL a b)
def bY.n5(h:bY C M hp cs cs')(h1:cs.all U.one=true):∀v∈cs',v.oneCell'=true:=by
 intro v hv;obtain⟨i,hi,rfl⟩:=DJ hv;have hl:i<cs.length:=by rw[h.1];exact hi
 exact(h.2 i cs[i] cs'[i] (br hl) (br hi)).one (c_.1 h1 _ (Wb hl))
def dJ(hp:List aa)(k:Nat)(row:Bool)(cs:List U)(n off:Nat)(x:U):Option (List aa):=
 if x.cells.length=n/\off+n<=cs.length/\x.cells.all U.one=true then some (hp.set k (.cells (putAt cs off x.cells) row)) else none
def aF(hp:List aa)(n:Nat)(p x:U):Option (List aa):=
 match p with
 |.mp k off=>match hp[k]? with
  |some (.cells cs false)=>dJ hp k false cs n off x
  |_=>none
 |.rp k m off=>match hp[k]? with
  |some (.cells cs true)=>if m=cs.length then dJ hp k true cs n off x else none
  |_=>none
 |_=>none
def agY(hn:gO P t=some n)(h:bt G base w0 C M hp w)(hb:hp[k]?=some (.cells cs row))(hM:M[k]?=some L)(hx:aI C M hp x x')(hs:dJ hp k row cs n off x=some hp'):∃w',(aiU t (.pointer (some ⟨L.b,off,none⟩)) x').run P w=.ok () w'/\bZ C M hp C M hp'/\bt G base w0 C M hp' w':=by
 unfold dJ at hs;split at hs;rename_i hc;obtain⟨c1,c2,c3⟩:=hc;cases hs;have hr:=NK hx;obtain⟨hle,cz⟩:=h.store hb hM off x.cells x'.cells.toList hr aBH;obtain⟨t1,t2,t3,t4⟩:=h.cells k cs row L hb hM;have hlen:x'.cells.toList.length=n:=by rw[<-hr.1];exact c1
 refine⟨_,?_,hle,cz⟩;have hst:=run_storeCells_cells (P:=P) L.b off x'.cells.toList 0 w (λj hj=>by
  obtain⟨c',a1,_⟩:=t3 (off+j) cs[off+j] (br aBH);rw[rW,a1];rfl) (λj hj=>by rw[rW];exact t4.1 _) (hr.n5 c3)
 rw[rW] at hst;have hsz:x'.cells.size=n:=aCi
 simp only[aiU,J4,eH,ki,eP,storeVar,nN hn];rw[if_neg aBH];exact hst;cases hs
def awQ(hn:gO P t=some n)(h:bt G base w0 C M hp w){p:U}{p':Value}(abj:aI C M hp p p')(hx:aI C M hp x x')(hs:aF hp n p x=some hp'):∃w',(aiU t p' x').run P w=.ok () w'/\bZ C M hp C M hp'/\bt G base w0 C M hp' w':=by
 unfold aF at hs;split at hs;rename_i k off;cases abj with
 |mp hb hM=>
  rename_i L cs;rw[hb] at hs;exact agY hn h hb hM hx hs
 rename_i k m off;cases abj with
 |rp hb hM hn' ha=>
  rename_i L cs a;rw[hb] at hs;simp only at hs;split at hs;rename_i hm;rw[ha hm];exact agY hn h hb hM hx hs;cases hs
 cases hs
end
section
variable{G:Cells}{base:Nat}{w0:jd}{w:World}{C:Cells}{M:List Loc}{hp:List aa}{P:Program}
def je(off:Nat):U->Option U
 |.fp cs o=>some (.fp cs (o+off))
 |.mp k o=>some (.mp k (o+off))
 |.rp k n o=>some (.rp k n (o+off))
 |_=>none
def ago(hx:aI C M hp x y)(hr:je off x=some r):∃a,y=.pointer (some a)/\aI C M hp r (.pointer (some (a.add off))):=by
 unfold je at hr;split at hr;cases hr;cases hx with
 |fp f hC hR=>exact⟨_,rfl,by rw[addr_add,lF];exact .fp f hC hR⟩
 cases hr;cases hx with
 |mp hb hM=>exact⟨_,rfl,by rw[addr_add];exact .mp hb hM⟩
 cases hr;cases hx with
 |rp hb hM hn ha=>exact⟨_,rfl,.rp hb hM hn λq=>by rw[ha q,addr_add]⟩
 cases hr
def anr(hs:P.underlying s=some (.struct fields))(hf:fields[field]?=some f)(ho:f.offset=off)
  (hn:gO P f.type=some n) (hn0:n≠0) (h:bt G base w0 C M hp w) (hx:aI C M hp x y) (hr:je off x=some r):
  e6 G base w0 C M hp P (Instr.fieldAt s y field) w r hp:=by
 obtain⟨a,rfl,hr'⟩:=ago hx hr;refine .same h ?_ hr';simp[Instr.fieldAt,run_underlying hs,hf,J4,fieldPlace,nN hn,hn0,ho]
def bu(n:Nat):U->U->Option U
 |.sl xs _,.v (.int _ i)=>if 0<=i then match xs[i.toNat]? with
   |some x=>if x.cells.length=n then some (.fp x.cells 0) else none
   |none=>none
  else none
 |.rs k m _ off len,.v (.int _ i)=>if 0<=i/\i<len then some (.rp k m (off+i.toNat*n)) else none
 |_,_=>none
def ant(ht:P.underlying t=some (.slice e))(hn:gO P e=some n)(h:bt G base w0 C M hp w){i:U}
  (hx:aI C M hp x y) (hi:aI C M hp i j) (hr:bu n x i=some r):e6 G base w0 C M hp P (OJ t y j) w r hp:=by
 unfold bu at hr;split at hr;rename_i xs tl k i;cases hi;cases hx with
 |sl f hsp hsz hC hR hT hcap=>
  rename_i a cap sz;split at hr;rename_i h0;split at hr;rename_i x EW;split at hr;rename_i hlen;cases hr;have hlt:=(bE.1 EW).1;have Is:sz=n:=by rw[<-hsz _ _ EW];exact hlen
  subst Is;have hne:xs≠[]:=by intro e;subst e;simp at hlt
  obtain⟨b,o,sp⟩:=a;have:=hsp hne;subst this;have aof:aI C M hp (.fp x.cells 0) (.pointer (some ⟨b,(o+i.toNat*sz)+0,none⟩)):=
   .fp (f i.toNat) (λj c hc=>hC _ _ _ _ EW hc) (λj c hc=>hR _ _ _ _ EW hc)
  refine .same h ?_ aof;have hi':i<(xs.length:Int):=aBH
  simp[OJ,asIntOf,run_underlying ht,h0,hi',nN hn,addr_add];cases hr;cases hr;cases hr
 rename_i k m sz off len kk i;cases hi;cases hx with
 |rs hb hM hn' hlc ha=>
  rename_i cap L cs a;split at hr;rename_i h0;cases hr;refine .same h (v:=.pointer (some (a.add (i.toNat*n)))) ?_ (.rp hb hM hn' λq=>by rw[(ha q).1,addr_add]);simp[OJ,asIntOf,run_underlying ht,h0,nN hn];cases hr
 cases hr
def jH(len n:Nat)(x:U):U->Option U
 |.v (.int _ i)=>if 0<=i/\i<len then je (i.toNat*n) x else none
 |_=>none
def ana(ht:P.underlying t=some (.array len e))(hn:gO P e=some n)(h:bt G base w0 C M hp w){i:U}
  (hx:aI C M hp x y) (hi:aI C M hp i j) (hr:jH len n x i=some r):e6 G base w0 C M hp P (OJ t y j) w r hp:=by
 unfold jH at hr;split at hr;rename_i k i;cases hi;split at hr;rename_i h0;obtain⟨a,rfl,hr'⟩:=ago hx hr;refine .same h ?_ hr';simp[OJ,asIntOf,run_underlying ht,h0,nN hn,J4];cases hr;cases hr
def uZ:U->Option U
 |.fp cs o=>some (.fp cs o)
 |.mp k o=>some (.mp k o)
 |.rp k n o=>some (.rp k n o)
 |.fn (.func f) a b=>some (.fn (.func f) a b)
 |_=>none
def tB(k:IntKind)(a b:Int)(f:BitVec k.bits->BitVec k.bits->BitVec k.bits):Value:=
 .int k (k.wrap (f (zi k.bits a) (zi k.bits b)).toNat)
def j5(op:BinOp)(k:IntKind)(a:Int)(k':IntKind)(b:Int):Option Value:=
 match op with
 |.shl=>if b<0 then none else some (.int k (k.wrap (a*2^(min b.toNat k.bits))))
 |.shr=>if b<0 then none else some (.int k (a.fdiv (2^(min b.toNat k.bits))))
 |op=>if k≠k' then none else match op with
  |.add=>some (.int k (k.wrap (a+b)))
  |.sub=>some (.int k (k.wrap (a-b)))
  |.mul=>some (.int k (k.wrap (a*b)))
  |.quo=>if b=0 then none else some (.int k (k.wrap (a.tdiv b)))
  |.rem=>if b=0 then none else some (.int k (a.tmod b))
  |.and=>some (tB k a b (· &&& ·))
  |.or=>some (tB k a b (· ||| ·))
  |.xor=>some (tB k a b (· ^^^ ·))
  |.andNot=>some (tB k a b (λx y=>x&&& ~~~y))
  |.eql=>some (.bool (a==b))
  |.neq=>some (.bool (a !=b))
  |.lss=>some (.bool (a<b))
  |.leq=>some (.bool (a<=b))
  |.gtr=>some (.bool (a>b))
  |.geq=>some (.bool (a>=b))
  |_=>none
def FI(op:BinOp)(x y:ByteArray):Option Value:=
 match op with
 |.add=>if((x.size+y.size:Nat):Int)>b7.max then none else some (.string (x++y))
 |.eql=>some (.bool (x.toList==y.toList))
 |.neq=>some (.bool !(x.toList==y.toList))
 |.lss=>some (.bool (VX x.toList y.toList))
 |.leq=>some (.bool (VX x.toList y.toList||x.toList==y.toList))
 |.gtr=>some (.bool !(VX x.toList y.toList||x.toList==y.toList))
 |.geq=>some (.bool !(VX x.toList y.toList))
 |_=>none
def ct(op:BinOp):U->U->Option U
 |.v (.int k a),.v (.int k' b)=>(j5 op k a k' b).map .v
 |.v (.string a),.v (.string b)=>(FI op a b).map .v
 |_,_=>none
def awN{k k':IntKind}{a b:Int}{r:Value}(h:j5 op k a k' b=some r)(t:TypeId)(w:World):
  (binOp op t (.int k a) (.int k' b)).run P w=.ok r w/\plain r=true:=by
 unfold j5 at h;split at h;split at h;cases h;rename_i hb;cases h;exact⟨by simp[binOp,Op.shift,hb],rfl⟩;split at h;cases h;rename_i hb;cases h;exact⟨by simp[binOp,Op.shift,hb],rfl⟩;rename_i h1 h2;split at h;cases h;rename_i hk;have hk:k=k':=by simpa using hk
 subst hk;cases op with
 |shl=>exact(h1 rfl).elim
 |shr=>exact(h2 rfl).elim
 |add=>cases h;exact⟨by simp[binOp,VY],rfl⟩
 |sub=>cases h;exact⟨by simp[binOp,VY],rfl⟩
 |mul=>cases h;exact⟨by simp[binOp,VY],rfl⟩
 |quo=>
  simp only at h;split at h;cases h;rename_i hb;cases h;exact⟨by simp[binOp,Op.intDiv,hb],rfl⟩
 |rem=>
  simp only at h;split at h;cases h;rename_i hb;cases h;exact⟨by simp[binOp,Op.intDiv,hb],rfl⟩
 |and=>cases h;exact⟨aDW,rfl⟩
 |or=>cases h;exact⟨aDW,rfl⟩
 |xor=>cases h;exact⟨aDW,rfl⟩
 |andNot=>cases h;exact⟨aDW,rfl⟩
 |eql=>cases h;exact⟨aC2,rfl⟩
 |neq=>cases h;exact⟨aC2,rfl⟩
 |lss=>cases h;exact⟨aC2,rfl⟩
 |leq=>cases h;exact⟨aC2,rfl⟩
 |gtr=>cases h;exact⟨aC2,rfl⟩
 |geq=>cases h;exact⟨aC2,rfl⟩
def awP{a b:ByteArray}{r:Value}(h:FI op a b=some r)(t:TypeId)(w:World):
  (binOp op t (.string a) (.string b)).run P w=.ok r w/\plain r=true:=by
 have key:binOp op t (.string a) (.string b)=Op.stringOp op a b:=by cases op<;>simp[binOp]
 rw[key];unfold FI at h;cases op<;>simp only[Op.stringOp] at h⊢<;>first
  |(cases h;done)
  |(cases h;exact⟨rfl,rfl⟩)
  |skip
 split at h;cases h;rename_i hb;cases h;rw[if_neg hb];exact⟨rfl,rfl⟩
def aaa(h:bt G base w0 C M hp w){y:U}(hx:aI C M hp x x')(hy:aI C M hp y y')
  (hr:ct op x y=some r):e6 G base w0 C M hp P (do eqGuard op t fE kR x' y';binOp op t x' y') w r hp:=by
 unfold ct at hr;split at hr;rename_i k a k' b;cases hx;cases hy;simp only[cc] at hr;obtain⟨v,hv,rfl⟩:=hr;obtain⟨h1,h2⟩:=awN (P:=P) hv t w;refine .same h ?_ (.v h2);have hg:eqGuard op t fE kR (.int k a) (.int k' b)=pure ():=aDB
 rw[hg];simp[h1];rename_i a b;cases hx;cases hy;simp only[cc] at hr;obtain⟨v,hv,rfl⟩:=hr;obtain⟨h1,h2⟩:=awP (P:=P) hv t w;refine .same h ?_ (.v h2);have hg:eqGuard op t fE kR (.string a) (.string b)=pure ():=aDB
 rw[hg];simp[h1];cases hr
def GF(neg:Bool):U->U->Option U
 |.v (.bool a),.v (.bool b)=>some (.v (.bool (if neg then !(a==b) else a==b)))
 |_,_=>none
def qq(neg:Bool):BinOp:=if neg then .neq else .eql
def aab(ht:P.underlying t=some .bool)(h:bt G base w0 C M hp w){y:U}(hx:aI C M hp x x')(hy:aI C M hp y y')
  (hr:GF neg x y=some r):e6 G base w0 C M hp P (do eqGuard (qq neg) t fE kR x' y';binOp (qq neg) t x' y') w r hp:=by
 unfold GF at hr;split at hr;rename_i a b;cases hx;cases hy;cases hr;refine .same h ?_ (.v rfl);have hg:eqGuard (qq neg) t fE kR (.bool a) (.bool b)=pure ():=aDB
 rw[hg];have:=run_equal_bool (P:=P) w t a b ht;cases neg<;>simp[qq,binOp,this];cases hr
def IZ:U->Bool
 |.v (.pointer none)|.v .nilFunc|.v .nilIface|.af|.fL _ _=>true
 |_=>false
def xx:Operand->Bool
 |.const _=>true
 |_=>false
inductive wu where
 |ptr|slc|Hu|cQ
 deriving DecidableEq
def Nb(P:Program)(t:TypeId):Option wu:=
 match P.underlying t with
 |some (.pointer _)=>some .ptr
 |some (.slice _)=>some .slc
 |some (.func _ _ _)=>some .Hu
 |some (.interface _)=>some .cQ
 |_=>none
def kindOf:U->Option wu
 |.v (.pointer none)|.fp _ _|.mp _ _|.rp _ _ _|.fL _ _=>some .ptr
 |.af|.sl _ _|.rs _ _ _ _ _=>some .slc
 |.v .nilFunc|.fn _ _ _=>some .Hu
 |.v .nilIface|.cQ _ _=>some .cQ
 |_=>none
end
section
variable{G:Cells}{base:Nat}{w0:jd}{w:World}{C:Cells}{M:List Loc}{hp:List aa}{P:Program}
def oC(K:wu)(neg:Bool)(x y:U):Option U:=
 if kindOf x=some K/\kindOf y=some K/\(IZ x=true\/IZ y=true) then some (.v (.bool (neg !=(IZ x&&IZ y)))) else none
def vm(K:wu)(nil:Bool)(x':Value):Prop:=
 match K with
 |.ptr=>if nil then x'=.pointer none else∃a,x'=.pointer (some a)
 |.slc=>if nil then x'=.slice none 0 0 else∃a n c,x'=.slice (some a) n c
 |.Hu=>if nil then x'=.nilFunc else∃f a b,x'=.func f a b
 |.cQ=>if nil then x'=.nilIface else∃t v,x'=.iface t v
def aer{K:wu}(hx:aI C M hp x x')(kx:kindOf x=some K):vm K (IZ x) x':=by
 cases hx with
 |v h=>
  cases x' with
  |pointer a=>cases a with
   |none=>cases kx;exact rfl
   |some a=>simp[plain] at h
  |nilFunc=>cases kx;exact rfl
  |nilIface=>cases kx;exact rfl
  |_=>first|(cases kx;done)|(simp[plain] at h;done)
 |af=>cases kx;exact rfl
 |agg _ _=>cases kx
 |aK _ _=>cases kx
 |sl _ _ _ _ _ _ _=>cases kx;exact⟨_,_,_,rfl⟩
 |fp _ _ _=>cases kx;exact⟨_,rfl⟩
 |mp _ _=>cases kx;exact⟨_,rfl⟩
 |rp _ _ _ _=>cases kx;exact⟨_,rfl⟩
 |rs _ _ _ _ _=>cases kx;exact⟨_,_,_,rfl⟩
 |eN _ _=>cases kx
 |fn _ _ _ _=>cases kx;exact⟨_,_,_,rfl⟩
 |cQ _=>cases kx;exact⟨_,_,rfl⟩
 |ey _ _=>cases kx
 |gk _ _=>cases kx
 |fL _ _=>cases kx;exact rfl
def awL{K:wu}(ht:Nb P t=some K){a b:Bool}(hx:vm K a x')(hy:vm K b y')(hn:a=true\/b=true)(d:Nat)(w:World):
  (xX (d+1) t x' y').run P w=.ok (a&&b) w:=by
 unfold Nb at ht;cases hd:P.underlying t with
 |none=>rw[hd] at ht;cases ht
 |some dd=>
  rw[hd] at ht;have hu:=λw'=>run_underlying (P:=P) hd w';cases K<;>cases dd<;>simp only[reduceCtorEq,lG] at ht<;>cases a<;>cases b<;>
   simp only[vm,if_true,iA,if_false,or_self,or_true,true_or] at hx hy hn
  all_goals first
   |(subst hx;subst hy;rw[xX];simp only[eH,hu,eP];rfl)
   |(obtain⟨_,rfl⟩:=hx;subst hy;rw[xX];simp only[eH,hu,eP];rfl)
   |(obtain⟨_,rfl⟩:=hy;subst hx;rw[xX];simp only[eH,hu,eP];rfl)
   |(obtain⟨_,_,rfl⟩:=hx;subst hy;rw[xX];simp only[eH,hu,eP];rfl)
   |(obtain⟨_,_,rfl⟩:=hy;subst hx;rw[xX];simp only[eH,hu,eP];rfl)
   |(obtain⟨_,_,_,rfl⟩:=hx;subst hy;rw[xX];simp only[eH,hu,eP];rfl)
   |(obtain⟨_,_,_,rfl⟩:=hy;subst hx;rw[xX];simp only[eH,hu,eP];rfl)
def ak1{K:wu}{a b:Bool}(neg:Bool)(t:TypeId)(hx:vm K a x')(hy:vm K b y'):
  binOp (qq neg) t x' y'=(Op.equal t x' y'>>=λr=>pure (.bool (neg !=r))):=by
 have key:∀(x' y':Value),(∀k n,x'≠.int k n)->(∀s,x'≠.string s)->(∀k n,x'≠.float k n)->(∀k n m,x'≠.complex k n m)->binOp (qq neg) t x' y'=(Op.equal t x' y'>>=λr=>pure (.bool (neg !=r))):=by
  intro x' y' h1 h2 h3 h4;cases neg<;>simp only[qq,iA,if_false,if_true]<;>unfold binOp<;>split<;>first
   |(exact(h1 _ _ rfl).elim)|(exact(h2 _ rfl).elim)|(exact(h3 _ _ rfl).elim)|(exact(h4 _ _ _ rfl).elim)|(simp;done)|(simp_all;done)
 apply key<;>intros<;>intro e<;>subst e<;>cases K<;>cases a<;>simp[vm] at hx
def amq(op:BinOp)(t:TypeId)(fE kR:Operand)(h1:x'=.nilIface->y'=.nilIface->xx fE=true\/xx kR=true)(h2:∀cs,x'≠.agg cs):eqGuard op t fE kR x' y'=pure ():=by
 have key:∀op:BinOp,(op=.eql\/op=.neq)->eqGuard op t fE kR x' y'=pure ():=by
  intro op hop
  rcases hop with rfl|rfl
  all_goals
   unfold eqGuard;simp only[vU,iA,if_false];split
   rcases h1 rfl rfl with h|h
   cases fE<;>simp[xx] at h;rfl;cases kR<;>simp[xx] at h;cases fE<;>rfl;exact(h2 _ rfl).elim;rfl
 cases op<;>first|exact key _ (ay rfl)|exact key _ (ax rfl)|rfl
def amr{K:wu}{a b:Bool}(op:BinOp)(t:TypeId)(fE kR:Operand)(hx:vm K a x')(hy:vm K b y')
  (hc:K=.cQ->xx fE=true\/xx kR=true):eqGuard op t fE kR x' y'=pure ():=by
 refine amq op t fE kR (λe _=>hc ?_) (λcs e=>?_);subst e;cases K<;>cases a<;>simp[vm] at hx<;>rfl;subst e;cases K<;>cases a<;>simp[vm] at hx
def aac{K:wu}(ht:Nb P t=some K)(hc:K=.cQ->xx fE=true\/xx kR=true)(h:bt G base w0 C M hp w){y:U}
  (hx:aI C M hp x x') (hy:aI C M hp y y') (hr:oC K neg x y=some r):e6 G base w0 C M hp P (do eqGuard (qq neg) t fE kR x' y';binOp (qq neg) t x' y') w r hp:=by
 unfold oC at hr;split at hr;rename_i hk;obtain⟨k1,k2,eF⟩:=hk;cases hr;have s1:=aer hx k1;have s2:=aer hy k2;refine .same h ?_ (.v rfl);rw[amr _ t fE kR s1 s2 hc,ak1 neg t s1 s2];have:=awL (P:=P) ht s1 s2 eF 9999 w;simp only[eH,ki,eP,Op.equal,Op.maxDepth];rw[this];rfl;cases hr
end
section
variable{G:Cells}{base:Nat}{w0:jd}{w:World}{C:Cells}{M:List Loc}{hp:List aa}{P:Program}
def BO(op:UnOp):U->Option U
 |.v (.int k n)=>match op with
  |.neg=>some (.v (.int k (k.wrap (0-n))))
  |.xor=>some (.v (tB k (if k.signed then -1 else k.max) n (· ^^^ ·)))
  |_=>none
 |.v (.bool b)=>match op with
  |.not=>some (.v (.bool !b))
  |_=>none
 |_=>none
def anI{op:UnOp}(h:bt G base w0 C M hp w)(hx:aI C M hp x x')(hr:BO op x=some r):e6 G base w0 C M hp P (Op.unary op x') w r hp:=by
 unfold BO at hr;split at hr;cases hx;split at hr<;>cases hr;exact .same h (by simp[Op.unary,VY]) (.v rfl);exact .same h (by simp[Op.unary,OM,tB]) (.v rfl);cases hx;split at hr<;>cases hr;exact .same h (by simp[Op.unary]) (.v rfl);cases hr
def D4(k:IntKind):U->Option U
 |.v (.int _ n)=>some (.v (.int k (k.wrap n)))
 |_=>none
def anp{k:IntKind}(hs:(P.underlying src).isSome=true)(hd:P.underlying dst=some (.int k))(h:bt G base w0 C M hp w)(hx:aI C M hp x x')
  (hr:D4 k x=some r):e6 G base w0 C M hp P (convert src dst x') w r hp:=by
 unfold D4 at hr;split at hr;cases hx;cases hr;obtain⟨d,hd'⟩:=Wk.mp hs;exact .same h (by simp[convert,run_underlying hd',run_underlying hd,Conv.intToInt]) (.v rfl);cases hr
def KP:U->Option U
 |.v (.string s)=>some (.v (.string s))
 |_=>none
def anG(hs:(P.underlying src)=some .string)(hd:P.underlying dst=some .string)(h:bt G base w0 C M hp w)(hx:aI C M hp x x')
  (hr:KP x=some r):e6 G base w0 C M hp P (convert src dst x') w r hp:=by
 unfold KP at hr;split at hr;cases hx;cases hr;exact .same h (by simp[convert,run_underlying hs,run_underlying hd]) (.v rfl);cases hr
def GH:U->Option U
 |.v (.string s)=>some (.v (goInt s.size))
 |.af=>some (.v (goInt 0))
 |.sl xs _=>some (.v (goInt xs.length))
 |.rs _ _ _ _ len=>some (.v (goInt len))
 |_=>none
def aad(h:bt G base w0 C M hp w)(hx:aI C M hp x x')(hk:∀s,x=.v (.string s)->P.underlying t=some .string)
  (hk':(∀s,x≠.v (.string s))->∃e,P.underlying t=some (.slice e)) (hr:GH x=some r):e6 G base w0 C M hp P (F3 #[t] ty #[x']) w r hp:=by
 unfold GH at hr;split at hr;cases hx;cases hr;exact .same h (by simp[F3,run_underlying (hk _ rfl)]) (.v rfl);cases hx<;>cases hr;obtain⟨e,he⟩:=hk' (by intro s e;cases e);exact .same h aDA (.v rfl);cases hx<;>cases hr;obtain⟨e,he⟩:=hk' (by intro s e;cases e);exact .same h aDA (.v rfl);cases hx<;>cases hr;obtain⟨e,he⟩:=hk' (by intro s e;cases e);exact .same h aDA (.v rfl);cases hr
def nY(i:Nat):U->Option U
 |.aK cs=>cs[i]?
 |_=>none
def anq{i:Nat}(h:bt G base w0 C M hp w)(hx:aI C M hp x x')(hr:nY i x=some r):e6 G base w0 C M hp P (Instr.extract x' i) w r hp:=by
 unfold nY at hr;split at hr;cases hx with
 |aK hl hh=>
  rename_i cs cs';have hi:=(bE.1 hr).1;have hi':i<cs'.size:=aBH
  exact .same h (by simp[Instr.extract,hi']) (hh i r cs'[i] hr (by simp[hi']))
 cases hr
def GG(aH:Bool)(n off:Nat):U->Option U
 |.agg cs=>dB aH n cs off
 |_=>none
def agW(hag:iN P t=some aH)(hn:gO P t=some n){cs':Array Value}(hl:cs.length=cs'.size)
  (hh:∀(i:Nat) a b,cs[i]?=some a->cs'[i]?=some b->aI C M hp a b) (hr:dB aH n cs off=some r) (w:World):∃v,(part t cs' off).run P w=.ok v w/\aI C M hp r v:=by
 unfold part;simp only[eH,UE hag,eP];unfold dB at hr;cases aH with
 |true=>
  simp only[if_true] at hr⊢;split at hr;rename_i hfit;cases hr;refine⟨.agg (cs'.extract off (off+n)),by simp only[eH,nN hn,eP,ki],?_⟩;refine .agg aBK (λi a b ha hb=>?_);have hi:i<n:=by
   have:=(bE.1 ha).1;simp at this;omega
  simp only[OU,qd] at ha;rw[if_pos hi] at ha;rw[Array.getElem?_extract] at hb;rw[if_pos aBH] at hb;exact hh _ _ _ ha hb;cases hr
 |false=>
  simp only[iA,if_false] at hr⊢;have hi:=(bE.1 hr).1;have hi':off<cs'.size:=aBH
  exact⟨cs'[off],by simp[hi'],hh off r _ hr (by simp[hi'])⟩
def ans(hs:P.underlying s=some (.struct fields))(hf:fields[field]?=some f)(ho:f.offset=off)
  (hag:iN P f.type=some aH) (hn:gO P f.type=some n) (h:bt G base w0 C M hp w) (hx:aI C M hp x x') (hr:GG aH n off x=some r):
  e6 G base w0 C M hp P (Instr.field s x' field) w r hp:=by
 unfold GG at hr;split at hr;cases hx with
 |agg hl hh=>
  obtain⟨v,h1,h2⟩:=agW (P:=P) hag hn hl hh hr w;exact .same h (by simp[Instr.field,run_underlying hs,hf,asAgg,ho,h1]) h2
 cases hr
def zJ(aH:Bool)(n len:Nat):U->U->Option U
 |.agg cs,.v (.int _ i)=>if 0<=i/\i<len then dB aH n cs (i.toNat*n) else none
 |_,_=>none
def anu(ht:P.underlying t=some (.array len e))(hag:iN P e=some aH)(hn:gO P e=some n)(h:bt G base w0 C M hp w){i:U}
  (hx:aI C M hp x x') (hi:aI C M hp i i') (hr:zJ aH n len x i=some r):e6 G base w0 C M hp P (VU t x' i') w r hp:=by
 unfold zJ at hr;split at hr;cases hi;cases hx with
 |agg hl hh=>
  split at hr;rename_i hb;obtain⟨v,h1,h2⟩:=agW (P:=P) hag hn hl hh hr w;exact .same h (by simp[VU,asIntOf,run_underlying ht,hb,nN hn,h1]) h2;cases hr
 cases hr
def tv:U->U->Option U
 |.v (.string s),.v (.int _ i)=>if 0<=i then(s[i.toNat]?).map λb=>.v (.int .u8 b.toNat) else none
 |_,_=>none
def ano(ht:P.underlying t=some .string)(h:bt G base w0 C M hp w){i:U}
  (hx:aI C M hp x x') (hi:aI C M hp i i') (hr:tv x i=some r):e6 G base w0 C M hp P (VU t x' i') w r hp:=by
 unfold tv at hr;split at hr;cases hi;cases hx;split at hr;rename_i hb;simp only[cc] at hr;obtain⟨b,hb',rfl⟩:=hr;exact .same h (by simp[VU,asIntOf,run_underlying ht,hb,hb']) (.v rfl);cases hr;cases hr
end
section
variable{G:Cells}{base:Nat}{w0:jd}{w:World}{C:Cells}{M:List Loc}{hp:List aa}{P:Program}
def flat(zs:List U):List U:=zs.flatMap U.cells
def amT:flat []=[]:=rfl
def yB(z:U)(r:List U):flat (z::r)=z.cells++flat r:=aEx
def ZE(a b:List U):flat (a++b)=flat a++flat b:=aEx
def yC:∀{zs:List U},(∀z∈zs,z.cells.length=n)->(flat zs).length=zs.length*n
 |[],_=>aEx
 |z::r,h=>by
  rw[yB,cB,yC (λx hx=>h x aBU),h z aBI,dm,nS];omega
def ZG:∀{zs:List U},(∀z∈zs,z.cells.length=n)->∀{i j:Nat} {z c:U},zs[i]?=some z->z.cells[j]?=some c->(flat zs)[i*n+j]?=some c
 |[],_,i,j,z,c,hz,_=>by simp at hz
 |y::r,h,i,j,z,c,hz,hc=>by
  have hy:=h y aBI;cases i with
  |zero=>
   simp at hz;subst hz;rw[yB,Nat.zero_mul,e5,ei (bE.1 hc).1];exact hc
  |succ i=>
   simp at hz;rw[yB,nS,Bx,er aBH,hy,show i*n+n+j-n=i*n+j by omega];exact ZG (λx hx=>h x aBU) hz hc
def ZH:∀{zs:List U},(∀z∈zs,z.cells.length=n)->∀{k:Nat} {c:U},(flat zs)[k]?=some c->∃i j z,k=i*n+j/\zs[i]?=some z/\z.cells[j]?=some c
 |[],_,k,c,hc=>by simp[flat] at hc
 |y::r,h,k,c,hc=>by
  have hy:=h y aBI;rw[yB] at hc
  rcases cE k n with hk|hk
  rw[ei aBH] at hc;exact⟨0,k,y,aBH,aBI,hc⟩;rw[er aBH,hy] at hc;obtain⟨i,j,z,e,h1,h2⟩:=ZH (λx hx=>h x aBU) hc;exact⟨i+1,j,z,by rw[nS];omega,aDN,h2⟩
def k3(C:Cells)(M:List Loc)(hp:List aa)(b o:Nat)(cs:List U):Prop:=
 ∀(j:Nat) c,cs[j]?=some c->∃v,C b (o+j)=some v/\aI C M hp c v
def k3.mono(hle:bZ C M hp aC M' hp')(h:k3 C M hp b o cs):k3 aC M' hp' b o cs:=
 λj c hc=>let⟨v,h1,h2⟩:=h j c hc;⟨v,hle.C _ _ _ h1,h2.mono hle⟩
def k3.append{as bs:List U}(h1:k3 C M hp b o as)(h2:k3 C M hp b (o+as.length) bs):k3 C M hp b o (as++bs):=by
 intro j c hc
 rcases cE j as.length with hj|hj
 rw[ei hj] at hc;exact h1 j c hc;rw[er hj] at hc;obtain⟨v,e1,e2⟩:=h2 _ c hc;exact⟨v,by rw[<-e1];congr 1;omega,e2⟩
def k3.drop(h:k3 C M hp b o cs)(n:Nat):k3 C M hp b (o+n) (cs.drop n):=by
 intro j c hc;rw[qd] at hc;obtain⟨v,e1,e2⟩:=h _ c hc;exact⟨v,by rw[<-e1];congr 1;omega,e2⟩
def k3.take(h:k3 C M hp b o cs)(n:Nat):k3 C M hp b o (cs.take n):=by
 intro j c hc;rw[OU] at hc;split at hc;exact h j c hc;cases hc
def k3.vals(h:bt G base w0 C M hp w)(ha:k3 C M hp b o cs):
  ∃vs:List Value,bY C M hp cs vs/\∀(j:Nat) v,vs[j]?=some v->w.cell? ⟨b,o+j,none⟩=some v:=by
 refine⟨(jq cs.length).map λj=>(C b (o+j)).getD undef,⟨aBI,λi a v e1 e2=>?_⟩,λj v e=>?_⟩;obtain⟨u,h1,h2⟩:=ha i a e1;have hi:=(bE.1 e1).1;simp[hi,h1] at e2;subst e2;exact h2;have hj:j<cs.length:=by
  have:=(bE.1 e).1;simpa using this
 obtain⟨u,h1,h2⟩:=ha j cs[j] (br hj);simp[hj,h1] at e;subst e;exact h.ld _ _ _ h1
def Uv{t:iD}(hn:∀z∈zs,z.cells.length=n)(ha:k3 C M hp b o (flat zs))(hT:r6 M hp ⟨b,o,none⟩ zs.length cap n t)(hcap:zs.length<=cap):
  aI C M hp (.sl zs t) (.slice (some ⟨b,o,none⟩) zs.length cap):=by
 refine .sl (λi j=>(C b (o+i*n+j)).getD undef) (λ_=>rfl) (λi x hx=>hn x (bG hx)) (λi x j c hx hc=>?_) (λi x j c hx hc=>?_) hT hcap
 all_goals
  obtain⟨v,h1,h2⟩:=ha _ c (ZG hn hx hc);rw[<-lF] at h1
 show C b (o+i*n+j)=_;rw[h1];rfl;rw[h1];exact h2
def NJ{t:iD}(hl:len=zs.length)(hn:∀z∈zs,z.cells.length=n)(ha:k3 C M hp b o (flat zs))(hT:r6 M hp ⟨b,o,none⟩ len cap n t)(hcap:len<=cap):
  aI C M hp (.sl zs t) (.slice (some ⟨b,o,none⟩) len cap):=by
 subst hl;exact Uv hn ha hT hcap
def Jp{t:iD}(h:aI C M hp (.sl zs t) (.slice (some a) len cap))(hn:∀z∈zs,z.cells.length=n):
  len=zs.length/\k3 C M hp a.block a.off (flat zs)/\(zs≠[]->a.spot=none)/\zs.length<=cap:=by
 cases h with
 |sl f hsp hsz hC hR hT hcap=>
  rename_i sz;refine⟨rfl,λk c hc=>?_,hsp,hcap⟩;obtain⟨i,j,z,rfl,hz,gr⟩:=ZH hn hc;have:sz=n:=by rw[<-hsz i z hz];exact hn z (bG hz)
  subst this;exact⟨f i j,by rw[<-lF];exact hC i z j c hz gr,hR i z j c hz gr⟩
def auN(h:bt G base w0 C M hp w)(cells:Array Value)(e:TypeId)(hr:bY C M hp cs vs)(hv:∀(i:Nat) v,vs[i]?=some v->cells[i]?=some v):
  bZ C M hp (C.add w.heap.size 0 vs) M hp/\bt G base w0 (C.add w.heap.size 0 vs) M hp (w.alloc (.cells cells e))/\k3 (C.add w.heap.size 0 vs) M hp w.heap.size 0 cs:=by
 obtain⟨hle,hs⟩:=h.Q7 cells e vs hv;refine⟨hle,hs,λj c hc=>?_⟩;obtain⟨v,h1,h2⟩:=hr.get hc;exact⟨v,by rw[Cells.BL _ _ _ _ _ (bE.1 h1).1];exact h1,h2.mono hle⟩
def contents:U->Option (List U)
 |.af=>some []
 |.sl ys _=>some ys
 |_=>none
def j_(cs:List U)(off:Nat)(us:List U):List U:=cs.take off++us++cs.drop (off+us.length)
def bV(n:Nat)(ys:List U):Bool:=ys.all λy=>y.cells.length==n&&y.cells.all U.one
def ga(hp:List aa)(n aY:Nat)(e:TypeId)(s:U)(ys:List U):Option (U×List aa):=
 match s with
 |.af=>if ys.length*aY<=140737488355328 then some (.sl ys (.tok hp.length),hp++[.tok ys.length n e]) else none
 |.rs k m sz off len=>if sz=n/\off=0/\(len+ys.length)*aY<=140737488355328 then
   match hp[k]? with
   |some (.cells cs true)=>if m=cs.length then some (.rs k (j_ cs (len*n) (flat ys)).length n 0 (len+ys.length),hp.set k (.cells (j_ cs (len*n) (flat ys)) true)) else none
   |_=>none
  else none
 |.sl xs t=>if bV n xs=true/\(xs.length+ys.length)*aY<=140737488355328 then
   match t with
   |.exact=>some (.sl (xs++ys) (.tok hp.length),hp++[.tok (xs.length+ys.length) n e])
   |.tok id=>match hp[id]? with
    |some (.tok c s' e')=>if c=xs.length/\s'=n/\e'=e then some (.sl (xs++ys) (.tok id),hp.set id (.tok (xs.length+ys.length) n e)) else none
    |_=>none
   |.no=>none
  else none
 |_=>none
def e9(hp:List aa)(n aY:Nat)(e:TypeId)(s x:U):Option (U×List aa):=
 match contents x with
 |none=>none
 |some ys=>
  if ys=[] then(match s with|.af|.sl _ _|.rs _ _ _ _ _=>some (s,hp)|_=>none)
  else if bV n ys=true/\0<n/\0<aY then ga hp n aY e s ys
  else none
def cG(hp:List aa)(n aY:Nat)(e:TypeId)(s x:U):Option (U×List aa):=
 match s with
 |.rs _ _ _ _ _=>none
 |s=>e9 hp n aY e s x
def ajY{s:U}{r:U×List aa}(h:cG hp n aY e s x=some r):e9 hp n aY e s x=some r:=by
 unfold cG at h;split at h;cases h;exact h
def pW(h:bV n ys=true):∀z∈ys,z.cells.length=n:=by
 intro z hz;have:=c_.1 h z hz;simp at this;exact this.1
def au5(h:bV n ys=true):(flat ys).all U.one=true:=by
 rw[c_];intro c hc;simp only[flat,List.mem_flatMap] at hc;obtain⟨z,hz,hc⟩:=hc;have:=c_.1 h z hz;simp at this;exact this.2 c hc
def TN{xs:List U}(h1:bV n xs=true)(h2:bV n ys=true):bV n (xs++ys)=true:=by
 unfold bV at*;rw[ai_,h1,h2];rfl
structure Gh(P:Program)(t e:TypeId)(n aY:Nat):Prop where
 ht:P.underlying t=some (.slice e)
 hi:∃i z,P.info? e=some i/\i.size=n/\i.bytes=aY/\i.zero=some z/\z.cells.size=n
def MR(hb:0<aY)(h:k*aY<=B):k<=B:=fk (Nat.le_mul_of_pos_right k hb) h
def NX(z:Array Value)(n:Nat):(xW z n).size=n*z.size:=by simp[xW]
def grownCap_le(w:World)(need old:Nat)(e:TypeId):need<=grownCap w need old e:=by unfold grownCap;simp[Question.cut]
def awA(h:off<=cs.length):(j_ cs off us).length=max cs.length (off+us.length):=by
 unfold j_;simp only[cB,zu,v_];omega
def awz(h:off<=cs.length)(i:Nat):(j_ cs off us)[i]?=if i<off then cs[i]? else if i<off+us.length then us[i-off]? else cs[i]? :=by
 unfold j_;have h1:(cs.take off).length=off:=aBK
 by_cases c1:i<off;rw[if_pos c1,cq,ei aBH,zp c1];rw[if_neg c1,cq,er aBH,h1];by_cases c2:i<off+us.length;rw[if_pos c2,ei aBH];rw[if_neg c2,er aBH,qd];congr 1;omega
def axQ(w:World)(t tx ty e:TypeId)(i:TypeInfo)(z:Value)(ht:P.underlying t=some (.slice e))(hi:P.info? e=some i)(hz:i.zero=some z)(hs:Src P i.size tx x' m news w)
  (h0:0<m) (h63:(m:Int)<=9223372036854775807) (h48:m*i.bytes<=281474976710656):
  (uD #[t,tx] ty #[.slice none 0 0,x']).run P w=.ok (.slice (some ⟨w.heap.size,0,none⟩) m (grownCap w m 0 e)) (w.drew.alloc (.cells (news.toArray++xW z.cells (grownCap w m 0 e-m)) e)):=by
 have:=run_append_grow_src (P:=P) w t tx ty e i z ht hi hz none 0 0 [] (run_firstCells_none w.drew i.size 0 0 0) x' m news hs aBH aBH (by rw[e5,nextslicecap_zero h0];exact h48);simpa using this
def ahE(w:World)(t tx ty e:TypeId)(i:TypeInfo)(z:Value)(ht:P.underlying t=some (.slice e))(hi:P.info? e=some i)(hz:i.zero=some z)(b:Addr)(sLen sCap:Nat)(olds:List Value)(hlo:olds.length=sLen*i.size)
  (holds:∀j u,olds[j]?=some u->w.cell? (b.add j)=some u) (hs:Src P i.size tx x' m news w) (hg:sCap<sLen+m) (h63:((sLen+m:Nat):Int)<=9223372036854775807) (hfit:Builtin.nextslicecap (sLen+m) sCap*i.bytes<=281474976710656):
  (uD #[t,tx] ty #[.slice (some b) sLen sCap,x']).run P w=.ok (.slice (some ⟨w.heap.size,0,none⟩) (sLen+m) (grownCap w (sLen+m) sCap e))
    (w.drew.alloc (.cells (olds.toArray++news.toArray++xW z.cells (grownCap w (sLen+m) sCap e-(sLen+m))) e)):=by
 have:=run_append_grow_src (P:=P) w t tx ty e i z ht hi hz (some b) sLen sCap olds (run_firstCells_some w.drew i.size sLen b sLen sCap olds hlo (by simpa using holds)) x' m news hs hg h63 hfit;simpa using this
def Z_{tx:TypeId}(hE:Gh P t e n aY)(h:bt G base w0 C M hp w){s:U}(hs:aI C M hp s s')(pQ:bV n ys=true)(hn0:0<n)(hb0:0<aY)(hne:ys≠[])
  (rB:bY C M hp (flat ys) news) (hsrc:∀i,P.info? e=some i->Src P i.size tx x' ys.length news w)
  (hr:ga hp n aY e s ys=some (r,hp')):e6 G base w0 C M hp P (uD #[t,tx] ty #[s',x']) w r hp':=by
 obtain⟨ht,i,z,hi,hsize,hby,hz,hzs⟩:=hE;have hsrc:=hsrc i hi;have sF:=hsrc.newsLen
 have hy0:0<ys.length:=aCQ
 unfold ga at hr;split at hr;split at hr;rename_i hfit;cases hr;cases hs;have Sa:=MR hb0 hfit;have hrun:=axQ (P:=P) w t tx ty e i z ht hi hz hsrc hy0 aBH (by rw[hby];omega);have hg:=grownCap_le w ys.length 0 e;have EG:news.length=ys.length*n:=by rw[sF,hsize]
 have hcells:∀(i':Nat) v,news[i']?=some v->(news.toArray++xW z.cells (grownCap w ys.length 0 e-ys.length))[i']?=some v:=by
  intro i' v hv;have hl:=(bE.1 hv).1;rw[VH aB5];simpa using hv
 obtain⟨hle,cz⟩:=h.drew.Ty (news.toArray++xW z.cells (grownCap w ys.length 0 e-ys.length)) e news hcells ys.length n (grownCap w ys.length 0 e*n)
  (by rw[EG];exact mK n hg) (by simp only[VI,NX,hzs,Wf,EG,<-nS];exact mK n aBH)
 refine⟨_,_,_,_,hrun,hle,cz,?_⟩;refine Uv (pW pQ) ?_ ?_ hg;intro j c hc;obtain⟨v,e1,e2⟩:=rB.get hc;exact⟨v,by rw[V4,Cells.BL _ _ _ _ _ (bE.1 e1).1];exact e1,e2.mono hle⟩;refine⟨ys.length,n,e,{b:=w.heap.size,fin:=news.length,cap:=grownCap w ys.length 0 e*n},aBI,aB6,bl _,ax rfl,λ_=>⟨rfl,rfl,?_,?_⟩⟩;simp[EG];simp;cases hr;rename_i k m sz off len;split at hr;rename_i hc0;obtain⟨rfl,rfl,hfit⟩:=hc0;split at hr;rename_i cs hb;split at hr;rename_i hm;cases hr;cases hs with
 |rs hb' hM hn' hlc ha=>
  rename_i cap L cs' sa;rw[hb] at hb';cases hb';obtain⟨rfl,a2,a3,a4⟩:=ha hm;simp only[e5] at a2 a3 a4;have Sa:=MR hb0 hfit;obtain⟨t1,t2,t3,Vg,Ba,rP,aif⟩:=h.cells k cs true L hb hM;have hlf:=yC (pW pQ);have EG:news.length=ys.length*sz:=by rw[sF,hsize]
  have RF:len*sz+ys.length*sz=(len+ys.length)*sz:=(nS _ _ _).symm;have hnew:(j_ cs (len*sz) (flat ys)).length=max cs.length ((len+ys.length)*sz):=by rw[awA a2,hlf,RF]
  by_cases hroom:len+ys.length<=cap;have hcap2:(len+ys.length)*sz<=cap*sz:=mK _ hroom;have hrun:=run_append_room_src (P:=P) w t tx ty e i ht hi L.b 0 len cap x' ys.length news hsrc hroom
   (λj hj=>by rw[hsize,e5];obtain⟨v,hv⟩:=rP (len*sz+j) aBH;rw[hv];rfl)
   (λj hj=>Vg _)
  rw[hsize,e5] at hrun;have hMs:M.set k L=M:=by
   apply Bu;intro j;by_cases e:k=j;subst e;rw[aR (bE.1 hM).1,hM];rw[av e]
  have hle:bZ C M hp C M (hp.set k (.cells (j_ cs (len*sz) (flat ys)) true)):=by
   have:=bZ.aak (C:=C) (aC:=C) (M:=M) (cs':=j_ cs (len*sz) (flat ys)) (L':=L) (λ_ _ _ h=>h) hb h.dK (by
    rw[hnew]
    rcases cE cs.length ((len+ys.length)*sz) with q|q
    exact ay aBH;exact ax ⟨aBH,hM⟩)
   rwa [hMs] at this
  have cz:=h.ahR hb hM (len*sz) (flat ys) news rB hle (ax aBH) (awz a2);refine⟨_,_,_,_,hrun,hle,cz,?_⟩;refine .rs (by rw[aR (bE.1 hb).1]) hM (bl _) hroom λ_=>⟨rfl,?_,?_,?_⟩;rw[hnew];omega;rw[hnew];omega;omega;have hcl:cs.length<(len+ys.length)*sz:=by
   have:(cap+1)*sz<=(len+ys.length)*sz:=mK _ aBH;rw[nS] at this;omega
  have hg:=grownCap_le w (len+ys.length) cap e;have aoX:(len+ys.length)*sz<=grownCap w (len+ys.length) cap e*sz:=mK _ hg;obtain⟨olds,hro,HS⟩:∃olds:List Value,bY C M hp (cs.take (len*sz)) olds/\∀(j:Nat) v,olds[j]?=some v->w.cell? ⟨L.b,j,none⟩=some v:=by
   refine⟨(jq (len*sz)).map λj=>(w.cell? ⟨L.b,j,none⟩).getD undef,⟨aBK,λj a b ha hb=>?_⟩,λj v hj=>?_⟩;have hjl:j<len*sz:=by have:=(bE.1 hb).1;simpa using this
   rw[zp hjl] at ha;obtain⟨c',b1,b2⟩:=t3 j a ha;simp[hjl,b1] at hb;subst hb;exact b2;have hjl:j<len*sz:=by have:=(bE.1 hj).1;simpa using this
   obtain⟨c',b1,b2⟩:=t3 j cs[j] (br aBH);simp[hjl,b1] at hj;subst hj;exact b1
  have hlo:olds.length=len*i.size:=by rw[<-hro.1,hsize];simp;omega
  have hrun:=ahE (P:=P) w t tx ty e i z ht hi hz ⟨L.b,0,none⟩ len cap olds hlo (λj v hj=>by rw[addr_add,e5];exact HS j v hj) hsrc aBH aBH (growslice_fits aBH (by rw[hby];exact hfit));have hrl:bY C M hp (j_ cs (len*sz) (flat ys)) (olds++news):=by
   have e0:j_ cs (len*sz) (flat ys)=cs.take (len*sz)++flat ys:=by
    unfold j_;rw[List.drop_eq_nil_of_le aBH,e4]
   rw[e0];refine⟨by rw[cB,cB,hro.1,rB.1],λq u v hu hv=>?_⟩
   rcases cE q (cs.take (len*sz)).length with hk|hk
   rw[ei hk] at hu;rw[ei aDg] at hv;exact hro.2 q u v hu hv;rw[er hk] at hu;rw[er aDg,<-hro.1] at hv;exact rB.2 _ u v hu hv
  obtain⟨hle,cz⟩:=h.drew.aus (olds.toArray++news.toArray++xW z.cells (grownCap w (len+ys.length) cap e-(len+ys.length))) e (j_ cs (len*sz) (flat ys)) (olds++news) hrl
   (λi' v hv=>by
     have hl:=(bE.1 hv).1;rw[VH aB5];simpa using hv) (cap:=grownCap w (len+ys.length) cap e*sz) (by
     simp only[VI,NX,hzs,Wf];rw[hlo,sF,hsize,<-nS,<-nS];exact mK sz aBH) hb (by rw[hnew];omega)
  refine⟨_,_,_,_,hrun,hle,cz,?_⟩;have cK:=(bE.1 hb).1;refine .rs (by rw[aR cK]) (by rw[aR (by rw[h.dK];exact cK)]) (bl _) hg λ_=>⟨rfl,?_,?_,?_⟩;rw[hnew];omega;rw[hnew];omega;simp
 cases hr;cases hr;cases hr;rename_i xs tl;split at hr
 · rename_i Im
   obtain⟨EN,hfit⟩:=Im;have Sa:=MR hb0 hfit
   cases s'<;>first|(cases hs;done)|skip
   rename_i b l cp;cases b with
   |none=>cases hs
   |some sa=>
    have hs0:=hs;obtain⟨e1,gY,Aw,hcap⟩:=Jp hs (pW EN);subst e1;obtain⟨olds,hro,HS⟩:=gY.vals h;have hlo:olds.length=xs.length*i.size:=by rw[<-hro.1,yC (pW EN),hsize]
    have aoE:∀(j:Nat) v,olds[j]?=some v->w.cell? (sa.add j)=some v:=λj v hj=>by
     obtain⟨sb,aD,axR⟩:=sa;have aqa:xs≠[]:=by
      intro e;subst e;have:=(bE.1 hj).1;rw[hlo] at this;simp at this
     have:=Aw aqa;subst this;rw[addr_add];exact HS j v hj
    have hrl:bY C M hp (flat (xs++ys)) (olds++news):=by
     rw[ZE];refine⟨by rw[cB,cB,hro.1,rB.1],λk u v hu hv=>?_⟩
     rcases cE k (flat xs).length with hk|hk
     rw[ei hk] at hu;rw[ei aDg] at hv;exact hro.2 k u v hu hv;rw[er hk] at hu;rw[er aDg,<-hro.1] at hv;exact rB.2 _ u v hu hv
    have Mi:(olds++news).length=(xs.length+ys.length)*n:=by rw[cB,hlo,sF,hsize,<-nS]
    have grow:=λcp Ch=>
     ahE (P:=P) w t tx ty e i z ht hi hz sa xs.length cp olds hlo aoE hsrc Ch aBH (growslice_fits Ch (by rw[hby];exact hfit))
    have hcells:∀cp,∀(i':Nat) v,(olds++news)[i']?=some v->(olds.toArray++news.toArray++xW z.cells (grownCap w (xs.length+ys.length) cp e-(xs.length+ys.length)))[i']?=some v:=by
     intro cp i' v hv;have hl:=(bE.1 hv).1;rw[VH aB5];simpa using hv
    have hcsz:∀cp,grownCap w (xs.length+ys.length) cp e*n<=(olds.toArray++news.toArray++xW z.cells (grownCap w (xs.length+ys.length) cp e-(xs.length+ys.length))).size:=by
     intro cp;have:=grownCap_le w (xs.length+ys.length) cp e;simp only[VI,NX,hzs,Wf];rw[hlo,sF,hsize,<-nS,<-nS];exact mK n aBH
    have aaD:∀{aC:Cells} {M':List Loc} {yI:List aa},bZ C M hp aC M' yI->(∀j,j<(olds++news).length->aC w.heap.size (0+j)=(olds++news)[j]?)->k3 aC M' yI w.heap.size 0 (flat (xs++ys)):=by
     intro aC M' yI hle hc j Qg Cf;obtain⟨v,e1,e2⟩:=hrl.get Cf;exact⟨v,by rw[hc j (bE.1 e1).1];exact e1,e2.mono hle⟩
    have hlen:(xs++ys).length=xs.length+ys.length:=cB;split at hr;cases hr;cases hs with
    |sl f hsp hsz hC hR hT HQ=>
     have Ch:=hT;subst Ch;have hg:=grownCap_le w (xs.length+ys.length) xs.length e;obtain⟨hle,cz⟩:=h.drew.Ty _ e (olds++news) (hcells xs.length) (xs.length+ys.length) n (grownCap w (xs.length+ys.length) xs.length e*n)
      (by rw[Mi];exact mK n hg) (hcsz xs.length)
     refine⟨_,_,_,_,grow xs.length aBH,hle,cz,?_⟩;refine NJ hlen.symm (pW (TN EN pQ)) (aaD hle (λj hj=>by rw[V4,Cells.BL _ _ _ _ _ hj])) ?_ hg;refine⟨xs.length+ys.length,n,e,{b:=w.heap.size,fin:=(olds++news).length,cap:=grownCap w (xs.length+ys.length) xs.length e*n},aBI,aB6,bl _,ax rfl,λ_=>⟨rfl,rfl,?_,?_⟩⟩;rw[Mi];simp;simp
    rename_i id;split at hr;rename_i Qg s2 e2 hid;split at hr;rename_i aoF;obtain⟨rfl,rfl,xe⟩:=aoF;rw[xe] at hid;cases hr;cases hs with
    |sl f hsp hsz hC hR hT HQ=>
     obtain⟨n1,s1,jS,L,q1,ah,aN,dI,gd⟩:=hT;rw[hid] at q1;cases q1;obtain⟨p1,p2,p3,fW⟩:=gd rfl;obtain⟨sb,aD,axR⟩:=sa;have:=p1;subst this;have Sl:=p2;subst Sl;simp only at p3 fW;by_cases hroom:xs.length+ys.length<=cp;have aoP:L.fin+news.length<=L.cap:=by
      rw[<-p3,<-fW,sF,hsize,lF,<-nS];exact Wh (mK _ hroom) aD
     obtain⟨t1,t2,t3,t4,t5,t6⟩:=h.toks id xs.length s2 e L hid ah;have hrun:=run_append_room_src (P:=P) w t tx ty e i ht hi L.b aD xs.length cp x' ys.length news hsrc hroom
      (λj hj=>by rw[hsize,p3];obtain⟨⟨v,hv⟩,_⟩:=t5 (L.fin+j) aBH aBH;rw[hv];rfl)
      (λj hj=>by rw[hsize,p3];exact(t5 (L.fin+j) aBH aBH).2)
     rw[hsize,p3] at hrun;obtain⟨hle,cz⟩:=h.anR news hid ah (n':=xs.length+ys.length) aBH aoP;refine⟨_,_,_,_,hrun,hle,cz,?_⟩;refine NJ hlen.symm (pW (TN EN pQ)) ?_ ?_ hroom;rw[ZE];refine k3.append (gY.mono hle) ?_;rw[yC (pW EN),p3];intro j Qg Cf;obtain⟨v,e1,e2⟩:=rB.get Cf;exact⟨v,by rw[Cells.BL _ _ _ _ _ (bE.1 e1).1];exact e1,e2.mono hle⟩;have H8:=(bE.1 hid).1;refine⟨xs.length+ys.length,s2,e,{L with fin:=L.fin+news.length},by rw[aR H8],by rw[aR (by rw[h.dK];exact H8)],bl _,ax rfl,λ_=>⟨rfl,rfl,?_,fW⟩⟩
     show aD+(xs.length+ys.length)*s2=L.fin+news.length;rw[<-p3,sF,hsize,lF,<-nS];have hg:=grownCap_le w (xs.length+ys.length) cp e;obtain⟨hle,cz⟩:=h.drew.aut _ e (olds++news) (hcells cp) hid (n':=xs.length+ys.length) aBH (cap:=grownCap w (xs.length+ys.length) cp e*s2)
      (by rw[Mi];exact mK _ hg) (hcsz cp)
     refine⟨_,_,_,_,grow cp aBH,hle,cz,?_⟩;refine NJ hlen.symm (pW (TN EN pQ)) (aaD hle (λj hj=>by rw[V4,Cells.BL _ _ _ _ _ hj])) ?_ hg;have H8:=(bE.1 hid).1;refine⟨xs.length+ys.length,s2,e,{b:=w.heap.size,fin:=(olds++news).length,cap:=grownCap w (xs.length+ys.length) cp e*s2},by rw[aR H8],by rw[V4,aR (by rw[h.dK];exact H8)],bl _,ax rfl,λ_=>⟨rfl,rfl,?_,?_⟩⟩;rw[Mi];simp;simp
    cases hr;cases hr;cases hr
 cases hr;cases hr
def Rf(hE:Gh P t e n aY)(h:bt G base w0 C M hp w){s:U}(hs:aI C M hp s s')(hx:aI C M hp x x')
  (hr:e9 hp n aY e s x=some (r,hp')):e6 G base w0 C M hp P (uD #[t,t] ty #[s',x']) w r hp':=by
 obtain⟨ht,i,z,hi,hsize,hby,hz,hzs⟩:=hE;unfold e9 at hr;split at hr;cases hr;rename_i ys hys;split at hr;rename_i Ii;subst Ii;have hx0:∃a c,x'=.slice a 0 c:=by
  unfold contents at hys;split at hys;cases hx;exact⟨_,_,rfl⟩;cases hys;cases hx;exact⟨_,_,rfl⟩;cases hys
 obtain⟨a,c,rfl⟩:=hx0;have H6:∀w,(VN n 0 (.slice a 0 c)).run P w=.ok #[] w:=by
  intro w;cases a with
  |none=>simp[VN]
  |some a=>simp[VN,loadCells,loadCellsFrom]
 have key:∀b m cp,m<=cp->(uD #[t,t] ty #[.slice b m cp,.slice a 0 c]).run P w=.ok (.slice b m cp) w:=by
  intro b m cp hm;cases b with
  |none=>simp[uD,run_underlying ht,sizeOf,typeInfo,hi,hsize,VO,hm,H6]
  |some b=>simp[uD,run_underlying ht,sizeOf,typeInfo,hi,hsize,VO,hm,H6,storeCells]
 split at hr;cases hr;cases hs;exact .same h (key _ _ _ (bl _)) .af;cases hr;have hs0:=hs;cases hs with
 |sl f hsp hsz hC hR hT hcap=>exact .same h (key _ _ _ hcap) hs0
 cases hr;have hs0:=hs;cases hs with
 |rs hb hM hn hlc ha=>exact .same h (key _ _ _ hlc) hs0
 cases hr;rename_i hne;split at hr;rename_i hok;obtain⟨pQ,hn0,hb0⟩:=hok;obtain⟨a,c,kQ,HN,aov⟩:∃(a:Addr) (c:Nat),x'=.slice (some a) ys.length c/\k3 C M hp a.block a.off (flat ys)/\a.spot=none:=by
  unfold contents at hys;split at hys;cases hys;exact(hne rfl).elim
  · cases hys
    cases x'<;>first|(cases hx;done)|skip
    rename_i b l cp;cases b with
    |none=>cases hx
    |some a=>
     obtain⟨e1,e2,bQ,cC⟩:=Jp hx (pW pQ);exact⟨a,cp,by rw[e1],e2,bQ hne⟩
  cases hys
 subst kQ;obtain⟨ab,ao,zP⟩:=a;have:=aov;subst this;obtain⟨news,rB,xb⟩:=HN.vals h;have sF:news.length=ys.length*i.size:=by rw[<-rB.1,yC (pW pQ),hsize]
 have anV:=rB.n5 (au5 pQ);have RP:∀(j:Nat) v,news[j]?=some v->w.cell? ((⟨ab,ao,none⟩:Addr).add j)=some v:=λj v hj=>by rw[addr_add];exact xb j v hj
 have hi':=hi;exact Z_ ⟨ht,i,z,hi,hsize,hby,hz,hzs⟩ h hs pQ hn0 hb0 hne rB (λi' aaU=>by rw[hi] at aaU;cases aaU;exact Src.ofSlice w ht ⟨ab,ao,none⟩ ys.length c news sF RP anV) hr;cases hr
def zU(b:ByteArray):List U:=b.data.toList.map λc=>.v (.int .u8 c.toNat)
def X6(b:ByteArray):(zU b).length=b.size:=by
 unfold zU;rw[b_,aiL];rfl
def X5:∀l:List UInt8,flat (l.map λc=>U.v (.int .u8 c.toNat))=l.map λc=>U.v (.int .u8 c.toNat)
 |[]=>rfl
 |c::r=>by
  have:=X5 r;simp only[flat,eD,List.flatMap_cons] at this⊢;rw[this];rfl
def yo(hp:List aa)(aY:Nat)(e:TypeId)(s x:U):Option (U×List aa):=
 match x with
 |.v (.string b)=>if b.size=0 then(match s with|.af|.sl _ _=>some (s,hp)|_=>none)
  else match s with
   |.af|.sl _ _=>if 0<aY then ga hp 1 aY e s (zU b) else none
   |_=>none
 |_=>none
def anf{u:TypeId}(hE:Gh P t e 1 aY)(hu:P.underlying u=some .string)(h:bt G base w0 C M hp w){s:U}(hs:aI C M hp s s')(hx:aI C M hp x x')
  (hr:yo hp aY e s x=some (r,hp')):e6 G base w0 C M hp P (uD #[t,u] ty #[s',x']) w r hp':=by
 have mo:=hE;obtain⟨ht,i,z,hi,hsize,hby,hz,hzs⟩:=hE;unfold yo at hr;split at hr;rename_i b;cases hx;split at hr;rename_i h0;have H6:∀w,(VN 1 0 (.string b)).run P w=.ok #[] w:=by
  intro w;have:=firstCells_string (P:=P) b w;have hb:=lE (by rw[byteCells_length,h0]);rw[h0,hb] at this;exact this
 have key:∀b' m cp,m<=cp->(uD #[t,u] ty #[.slice b' m cp,.string b]).run P w=.ok (.slice b' m cp) w:=by
  intro b' m cp hm;cases b' with
  |none=>simp[uD,run_underlying ht,run_underlying hu,sizeOf,typeInfo,hi,hsize,VO,h0,hm,H6]
  |some b'=>simp[uD,run_underlying ht,run_underlying hu,sizeOf,typeInfo,hi,hsize,VO,h0,hm,H6,storeCells]
 split at hr;cases hr;cases hs;exact .same h (key _ _ _ (bl _)) .af;cases hr;have hs0:=hs;cases hs with
 |sl f hsp hsz hC hR hT hcap=>exact .same h (key _ _ _ hcap) hs0
 cases hr;rename_i h0;have fin:∀{r:U},0<aY->ga hp 1 aY e s (zU b)=some (r,hp')->e6 G base w0 C M hp P (uD #[t,u] ty #[s',.string b]) w r hp':=by
  intro r hb0 hr;refine Z_ mo h hs (ys:=zU b) (news:=ai9 b) ?_ aBJ hb0 ?_ ?_ (λi' hi'=>?_) hr;unfold bV;rw[c_];intro x hx;unfold zU at hx;obtain⟨c,_,rfl⟩:=cO.1 hx;rfl;intro q;have:=X6 b;rw[q] at this;exact h0 this.symm;unfold zU;rw[X5];refine⟨by simp[ai9],λi x y hx hy=>?_⟩;simp only[ai9,eC] at hx hy;cases hq:b.data.toList[i]? with
  |none=>rw[hq] at hx;cases hx
  |some c=>
   rw[hq] at hx hy;cases hx;cases hy;exact .v rfl
  rw[hi] at hi';cases hi';rw[hsize,X6];exact Src.ofString w hu b
 split at hr;split at hr;rename_i q;exact fin q hr;cases hr;split at hr;rename_i q;exact fin q hr;cases hr;cases hr;cases hr
end
section
variable{G:Cells}{base:Nat}{w0:jd}{w:World}{C:Cells}{M:List Loc}{hp:List aa}{P:Program}
def iG(top dflt:Nat):Option Int->Option Nat
 |some v=>if 0<=v/\v<=top then some v.toNat else none
 |none=>some dflt
def mA:Option U->Option (Option Int)
 |none=>some none
 |some (.v (.int _ i))=>some (some i)
 |_=>none
def kz(len cap:Nat)(lo hi mx:Option Int):Option (Nat×Nat×Nat):=
 match iG cap cap mx with
 |none=>none
 |some m=>if mx.isSome&&hi.isNone then none else
  match iG m len hi with
  |none=>none
  |some h=>match iG h 0 lo with
   |none=>none
   |some l=>some (l,h,m)
def zD(C:Cells)(M:List Loc)(hp:List aa):Option U->Option Value->Prop
 |none,none=>True
 |some a,some b=>aI C M hp a b
 |_,_=>False
def I6{a:Option U}{b:Option Value}(h:zD C M hp a b)(hi:mA a=some i):(b=none/\i=none)\/∃k n,b=some (.int k n)/\i=some n:=by
 unfold mA at hi;split at hi;cases hi;cases b with
 |none=>exact ay ⟨rfl,rfl⟩
 |some b=>exact h.elim
 cases hi;cases b with
 |none=>exact h.elim
 |some b=>cases h;exact ax ⟨_,_,rfl,rfl⟩
 cases hi
def y7{k:IntKind}{n:Int}{r:Nat}(code:BoundsCode)(h:iG top d (some n)=some r)(w:World):(Instr.sliceBound (.int k n) top code).run P w=.ok r w:=by
 unfold iG at h;simp only at h;split at h;rename_i hb;cases h;exact run_sliceBound w k n top code hb.1 hb.2;cases h
def P9{r:Nat}(hd:d<=top)(h:iG top d i=some r):r<=top:=by
 unfold iG at h;split at h;split at h;cases h;omega;cases h;cases h;exact hd
def NR{isSlice:Bool}{cap':Nat}{lo hi mx:Option Value}{lo' hi' rE:Option Int}{l h:Nat}(hlo:(lo=none/\lo'=none)\/∃k n,lo=some (.int k n)/\lo'=some n)
  (hhi:(hi=none/\hi'=none)\/∃k n,hi=some (.int k n)/\hi'=some n) (Ap:(mx=none/\rE=none)\/∃k n,mx=some (.int k n)/\rE=some n) (hlc:len<=cap) (Cf:cap<=cap')
  (hb:kz len cap lo' hi' rE=some (l,h,m)) (w:World):
  (aiT isSlice len cap' lo hi mx).run P w=.ok (l,h,if rE.isSome then m else cap') w/\l<=h/\h<=m/\m<=cap/\(rE=none->m=cap):=by
 unfold kz at hb;split at hb;cases hb;rename_i m₀ hm;split at hb;cases hb;rename_i kP;split at hb;cases hb;rename_i h₀ hh;split at hb;cases hb;rename_i aBi hl;cases hb;have yH:=P9 (bl _) hm;have P8:∀{top top' d r:Nat} {n:Int},top<=top'->iG top d (some n)=some r->iG top' d (some n)=some r:=by
  intro top top' d r n ht hq;unfold iG at hq⊢;simp only at hq⊢;split at hq;rename_i q;rw[if_pos ⟨q.1,aBH⟩];exact hq;cases hq
 have aa8:=P9 (ic _) hl
 rcases Ap with⟨rfl,rfl⟩|⟨km,nm,rfl,rfl⟩
 have hm0:m=cap:=by cases hm;rfl
 subst hm0;have R2:=P9 hlc hh;refine⟨?_,aa8,R2,bl _,λ_=>rfl⟩;unfold aiT
 rcases hhi with⟨rfl,rfl⟩|⟨kh,auO,rfl,rfl⟩<;>rcases hlo with⟨rfl,rfl⟩|⟨kl,nl,rfl,rfl⟩
 cases hh;cases hl;simp;cases hh;simp[y7 (P:=P) _ hl];cases hl;simp[y7 (P:=P) _ (P8 Cf hh)];simp[y7 (P:=P) _ (P8 Cf hh),y7 (P:=P) _ hl]
 rcases hhi with⟨rfl,rfl⟩|⟨kh,auO,rfl,rfl⟩
 simp at kP;have R2:h<=m:=by
  unfold iG at hh;simp only at hh;split at hh;cases hh;omega;cases hh
 refine⟨?_,aa8,R2,yH,λq=>aBT⟩;unfold aiT;have hm':=P8 (d:=cap) (r:=m) Cf (by unfold iG at hm⊢;exact hm);have aba:iG cap' cap' (some nm)=some m:=by unfold iG at hm'⊢;exact hm'
 rcases hlo with⟨rfl,rfl⟩|⟨kl,nl,rfl,rfl⟩
 cases hl;simp[y7 (P:=P) _ aba,y7 (P:=P) _ hh];simp[y7 (P:=P) _ aba,y7 (P:=P) _ hh,y7 (P:=P) _ hl]
def A_(t:iD)(len l h m:Nat)(mx:Bool):iD:=
 if mx then(if m=h then .exact else .no)
 else if h=len then(if l=0 then t else match t with|.exact=>.exact|_=>.no) else .no
def kM(n:Nat)(x:U)(lo hi mx:Option U):Option U:=
 match mA lo,mA hi,mA mx with
 |some l',some h',some m'=>match x with
  |.af=>match kz 0 0 l' h' m' with
   |some _=>some .af
   |none=>none
  |.sl xs t=>match kz xs.length xs.length l' h' m' with
   |some (l,h,m)=>if xs.all (λx=>x.cells.length==n) then some (.sl ((xs.take h).drop l) (A_ t xs.length l h m m'.isSome)) else none
   |none=>none
  |.rs k m sz off len=>if sz=n/\m'.isNone then match kz len len l' h' none with
   |some (l,h,_)=>if l=0 then some (.rs k m n off h) else if l<len then some (.rs k m n (off+l*n) (h-l)) else some (.sl [] .no)
   |none=>none
   else none
  |.v (.string s)=>if mx.isSome then none else match kz s.size s.size l' h' none with
   |some (l,h,_)=>some (.v (.string (s.extract l h)))
   |none=>none
  |_=>none
 |_,_,_=>none
def ZI:∀{zs:List U},(∀z∈zs,z.cells.length=n)->∀k,flat (zs.take k)=(flat zs).take (k*n)
 |[],_,k=>aEx
 |z::r,h,k=>by
  cases k with
  |zero=>simp[flat]
  |succ k=>
   rw[x7,yB,yB,ZI (λx hx=>h x aBU),nS,Bx,List.take_append,h z aBI,show k*n+n-n=k*n by omega,
    kG (l:=z.cells) (by rw[h z aBI];omega)]
def ZF:∀{zs:List U},(∀z∈zs,z.cells.length=n)->∀k,flat (zs.drop k)=(flat zs).drop (k*n)
 |[],_,k=>aEx
 |z::r,h,k=>by
  cases k with
  |zero=>simp
  |succ k=>
   rw[x6,yB,ZF (λx hx=>h x aBU),nS,Bx,List.drop_append,h z aBI,show k*n+n-n=k*n by omega,
    sY (l:=z.cells) (by rw[h z aBI];omega),eR]
def ang(ht:P.underlying t=some (.slice e))(hn:gO P e=some n)(h:bt G base w0 C M hp w)(hx:aI C M hp x x')
  (hlo:zD C M hp lo lo') (hhi:zD C M hp hi hi') (Ap:zD C M hp mx rE) (Ij:∀s,x≠.v (.string s)) (hr:kM n x lo hi mx=some r):e6 G base w0 C M hp P (DC t x' lo' hi' rE) w r hp:=by
 unfold kM at hr;split at hr;rename_i l₁ h₁ m₁ el eh em;have bw:=I6 hlo el;have ch:=I6 hhi eh;have sj:=I6 Ap em;split at hr;split at hr;rename_i q hq;obtain⟨l,hh,m⟩:=q;cases hr;cases hx;obtain⟨hrun,c1,c2,c3,c4⟩:=NR (P:=P) (isSlice:=true) bw ch sj (bl 0) (bl 0) hq w;have hm:m=0:=aBH
 have hl:l=0:=aBH
 have vg:hh=0:=aBH
 subst hm;subst hl;subst vg;refine .same h ?_ .af;simp[DC,J3,run_underlying ht,hrun,nN hn];cases hr;rename_i xs tl;split at hr;rename_i l hh m hq;split at hr
 · rename_i hall
   cases hr;have HM:∀z∈xs,z.cells.length=n:=by
    intro z hz;have:=c_.1 hall z hz;simpa using this
   cases x'<;>first|(cases hx;done)|skip
   rename_i b len cap;cases b with
   |none=>cases hx
   |some a=>
    obtain⟨e1,gY,Aw,hcap⟩:=Jp hx HM;subst e1;obtain⟨hrun,c1,c2,c3,c4⟩:=NR (P:=P) (isSlice:=true) bw ch sj (bl _) hcap hq w;refine⟨C,M,_,w,aDq,bZ.refl _ _ _,h,?_⟩;have hlen:((xs.take hh).drop l).length=hh-l:=aBK
    have hsub:∀z∈(xs.take hh).drop l,z.cells.length=n:=λz hz=>HM z (F_ (uH hz));generalize hM:(if m₁.isSome=true then m else cap)=m';have hm':hh<=m':=by rw[<-hM];split<;>omega
    by_cases hml:m'=l;rw[if_pos hml];have R1:hh=l:=aBH
    subst R1;have he:(xs.take hh).drop hh=[]:=by apply lE;omega
    rw[he,hml,kj];refine .sl (xs:=[]) (sz:=n) (λ_ _=>undef) (λq=>(q rfl).elim) (λi x hx=>aB2) (λi x j c hx=>aB2) (λi x j c hx=>aB2) ?_ (bl _);unfold A_;split;split<;>simp[r6];rename_i EJ;simp only[EJ,iA,if_false] at hM;split;rename_i aaT;split;rename_i hl0;have hx0:xs=[]:=by apply lE;omega
    subst hx0;cases hx with
    |sl f hsp hsz hC hR hT HQ=>
     cases tl with
     |exact=>simp[r6]
     |no=>simp[r6]
     |tok id=>
      obtain⟨n1,s1,jS,L,q1,ah,aN,dI,gd⟩:=hT;refine⟨n1,s1,jS,L,q1,ah,aN,ay rfl,λq=>?_⟩;obtain⟨p1,p2,p3,fW⟩:=gd q;refine⟨p1,p2,p3,?_⟩;have:cap=0:=aBH
      rw[this] at fW;simpa using fW
    split<;>simp[r6];simp[r6];rw[if_neg hml];have aAV:l<m':=aBH
    obtain⟨ab,ao,zP⟩:=a;have hsp:zP=none\/(xs=[]\/True):=ax (ax trivial);by_cases rC:xs=[];subst rC;have hl0:l=0:=by simp at c3 c2;omega
    have vg:hh=0:=by simp at c3;omega
    subst hl0;subst vg;have RF:(⟨ab,ao,zP⟩:Addr).add (0*n)=⟨ab,ao,zP⟩:=by simp[Addr.add]
    rw[RF];simp only[List.take_nil,List.drop_nil,DM];refine .sl (xs:=[]) (sz:=n) (λ_ _=>undef) (λq=>(q rfl).elim) (λi x hx=>aB2) (λi x j c hx=>aB2) (λi x j c hx=>aB2) ?_ (ic _);unfold A_;split;rename_i Se;simp only[Se,if_true] at hM;have:m=0:=by simp at c3;omega
    omega;rename_i EJ;simp only[EJ,iA,if_false] at hM;subst hM;simp only[fQ,if_true];cases hx with
    |sl f hsp hsz hC hR hT HQ=>
     cases tl with
     |exact=>exact hT
     |no=>trivial
     |tok id=>
      obtain⟨n1,s1,jS,L,q1,ah,aN,dI,gd⟩:=hT;exact⟨n1,s1,jS,L,q1,ah,aN,ay rfl,gd⟩
    have apZ:=Aw rC;subst apZ;rw[addr_add];refine NJ hlen.symm hsub ?_ ?_ aBH;rw[ZF (n:=n) (λz hz=>HM z (F_ hz)),ZI HM];exact(gY.take _).drop _;unfold A_;split;rename_i Se;simp only[Se,if_true] at hM;split;simp only[r6];omega;trivial;rename_i EJ;simp only[EJ,iA,if_false] at hM;subst hM;split;rename_i aaT;split;rename_i hl0;subst hl0;subst aaT;cases hx with
    |sl f hsp hsz hC hR hT HQ=>
     rename_i sz;have:sz=n:=by
      cases xs with
      |nil=>exact(rC rfl).elim
      |cons z r=>rw[<-hsz 0 z rfl];exact HM z aBI
     subst this;simpa using hT
    cases tl with
    |exact=>
     cases hx with
     |sl f hsp hsz hC hR hT HQ=>
      have aAC:cap=xs.length:=hT;simp only[r6];omega
    |no=>trivial
    |tok id=>trivial
    trivial
 cases hr;cases hr;rename_i k m sz off len;split at hr;rename_i hlc;obtain⟨rfl,hmn⟩:=hlc;have hm0:m₁=none:=by cases m₁<;>simp at hmn⊢
 subst hm0;split at hr;rename_i l hh qC hq;cases hx with
 |rs hb hM hn' hlc ha=>
  rename_i cap L cs a;obtain⟨hrun,c1,c2,c3,c4⟩:=NR (P:=P) (isSlice:=true) bw ch sj (bl _) hlc hq w;simp only[ya,iA,if_false] at hrun;split at hr;rename_i hl0;cases hr;subst hl0;have hR:aI C M hp (.rs k m sz off hh) (.slice (some a) hh cap):=.rs hb hM hn' aBH λq=>by
   obtain⟨a1,a2,a3,a4⟩:=ha q;refine⟨a1,fk (Wh (mK _ aBH) _) a2,a3,a4⟩
  refine .same h ?_ hR;simp only[DC,J3,eH,ki,run_underlying ht,hrun,nN hn,eP];simp[Addr.add];split at hr;rename_i hl0 mX;cases hr;have hR:aI C M hp (.rs k m sz (off+l*sz) (hh-l)) (.slice (some (a.add (l*sz))) (hh-l) (cap-l)):=.rs hb hM hn' aBH λq=>by
   obtain⟨a1,a2,a3,a4⟩:=ha q;have e1:off+l*sz+(hh-l)*sz=off+hh*sz:=by rw[lF,<-nS];congr 2;omega
   have e2:off+l*sz+(cap-l)*sz=off+cap*sz:=by rw[lF,<-nS];congr 2;omega
   refine⟨by rw[a1,addr_add],?_,by rw[e2];exact a3,by rw[e2];exact a4⟩;rw[e1];exact fk (Wh (mK _ aBH) _) a2
  refine .same h ?_ hR;have hcl:cap≠l:=aBH
  simp[DC,J3,run_underlying ht,hrun,nN hn,hcl]
  · cases hr
    have R1:hh=l:=aBH
    subst R1;refine⟨C,M,_,w,aDq,bZ.refl _ _ _,h,?_⟩;split
    all_goals exact .sl (xs:=[]) (sz:=sz) (λ_ _=>undef) (λq=>(q rfl).elim) (λi x hx=>aB2) (λi x j c hx=>aB2) (λi x j c hx=>aB2) trivial (ic _)
 cases hr;cases hr;rename_i s;exact(Ij s rfl).elim;cases hr;cases hr
def anh(ht:P.underlying t=some .string)(h:bt G base w0 C M hp w)(hx:aI C M hp x x')
  (hlo:zD C M hp lo lo') (hhi:zD C M hp hi hi') (Ap:zD C M hp mx rE) (hs:∃s,x=.v (.string s)) (hr:kM n x lo hi mx=some r):e6 G base w0 C M hp P (DC t x' lo' hi' rE) w r hp:=by
 obtain⟨s,rfl⟩:=hs;cases hx;unfold kM at hr;split at hr;rename_i l₁ h₁ m₁ el eh em;have bw:=I6 hlo el;have ch:=I6 hhi eh;simp only at hr;split at hr;cases hr;rename_i hmn;have apv:mx=none:=by cases mx<;>simp at hmn⊢
 subst apv
 have jv:rE=none:=by cases rE with|none=>rfl|some b=>exact Ap.elim
 subst jv;split at hr;rename_i l hh m hq;cases hr;obtain⟨hrun,c1,c2,c3,c4⟩:=NR (P:=P) (isSlice:=false) bw ch (ay ⟨rfl,rfl⟩) (bl _) (bl _) hq w;exact .same h (by simp[DC,J3,run_underlying ht,hrun]) (.v rfl);cases hr;cases hr
end
end
end Go.aJ

/- Part 1 of a proof. No condition. -/
import Derived.Below
import Derived.Calls
import Derived.Tactics
import Derived.Laws.Append
import Derived.ArgAppend
import Derived.Deep.AppendSrc
import Derived.Laws.StructEq
import Derived.Laws.Slices
import Derived.Laws.BytesString
import Derived.Lib.UnsafeStr
set_option linter.unusedVariables false
set_option linter.unusedSimpArgs false
set_option linter.defProp false
namespace Go
def aa{p:Prop}(h:p:=by omega):p:=h
def af{p:Prop}(h:p:=by simp):p:=h
def ag{p:Prop}(h:p:=by decide):p:=h
def ah{p:Prop}(h:p:=by simp;omega):p:=h
def ai{p:Prop}(h:p:=by kernel_rfl):p:=h
def aj{p:Prop}(h:p:=by rw[fq (by omega) (by omega)];omega):p:=h
def ak{p:Prop}(h:p:=by simpa using q):p:=h
def an{p:Prop}(h:p:=by repeat' first|kernel_rfl|(intros;kernel_rfl)|constructor):p:=h
def aq{p:Prop}(h:p:=by simp at q;omega):p:=h
def au{p:Prop}(h:p:=by simp at h):p:=h
def av{p:Prop}(h:p:=by cases q):p:=h
def ax{p:Prop}(h:p:=by rw[fq (by omega) (by omega)];rfl):p:=h
def ay{p:Prop}(h:p:=by rw[bE (by intro q;subst q;rw[S] at O;cases O)];exact O):p:=h
def az{p:Prop}(h:p:=by rcases hA with⟨rfl,_⟩|⟨_,rfl,_⟩<;>rfl):p:=h
def aA{p:Prop}(h:p:=by simp[I]):p:=h
def aB{p:Prop}(h:p:=by cases h):p:=h
def aC{p:Prop}(h:p:=by cases e):p:=h
def aD{p:Prop}(h:p:=by rw[yu _ _ _ (by exact V)];exact a1):p:=h
def aE{p:Prop}(h:p:=by show(0:Int)<=(a);omega):p:=h
def aF{p:Prop}(h:p:=by simp at I):p:=h
def aG{p:Prop}(h:p:=by simpa using V):p:=h
def aH{p:Prop}(h:p:=by simpa using O):p:=h
def aI{p:Prop}(h:p:=by simp[l7] at h):p:=h
def aJ{p:Prop}(h:p:=by simpa using hl):p:=h
def aK{p:Prop}(h:p:=by rw[<-h.fV];simp):p:=h
def aL{p:Prop}(h:p:=by intro q;subst q;rw[S] at O;cases O):p:=h
def aM{p:Prop}(h:p:=by simp only[ey]):p:=h
def aN{p:Prop}(h:p:=by simpa using z):p:=h
def aO{p:Prop}(h:p:=by rw[Dk _ _ _ (by show L.b≠_;omega)];exact q1 i):p:=h
def aP{p:Prop}(h:p:=by cases h;exact⟨rfl,λi a b h=>by simp at h⟩):p:=h
def aQ{p:Prop}(h:p:=by rw[Dk _ _ _ (by show L.b≠_;omega)];exact a2):p:=h
def aR{p:Prop}(h:p:=by simpa using h):p:=h
def aS{p:Prop}(h:p:=by simp only[bz,h.b];rfl):p:=h
def aT{p:Prop}(h:p:=by simp[hy]):p:=h
def aU{p:Prop}(h:p:=by unfold Uz;simp only[gx,run_underlying hd,gA];cases d<;>first|(exact(RX _ rfl).elim)|simp):p:=h
def aV{p:Prop}(h:p:=by rw[yu _ _ _ (by exact V)];exact bV.1 o ho):p:=h
def aW{p:Prop}(h:p:=by simp only[bL,O];rfl):p:=h
def aX{p:Prop}(h:p:=by simpa using bt):p:=h
def aY{p:Prop}(h:p:=by show L.b≠_;omega):p:=h
def aZ{p:Prop}(h:p:=by simpa using Q):p:=h
def aLR{p:Prop}(h:p:=by simp[fj] at h):p:=h
def aLS{p:Prop}(h:p:=by simp[hq]):p:=h
def aLT{p:Prop}(h:p:=by simp[dR,mE]):p:=h
def aLU{p:Prop}(h:p:=by simpa using c7):p:=h
def aLV{p:Prop}(h:p:=by rcases q with rfl|⟨rfl,_⟩<;>rfl):p:=h
def aLW{p:Prop}(h:p:=by unfold oE at fM⊢;rw[gC];exact fM):p:=h
def aLX{p:Prop}(h:p:=by rw[gC];exact fM):p:=h
def aLY{p:Prop}(h:p:=by rw[yA];rfl):p:=h
def aLZ{p:Prop}(h:p:=by rw[lH q];exact hM):p:=h
def aL0{p:Prop}(h:p:=by rw[ln J,j9]):p:=h
def aL1{p:Prop}(h:p:=by grind):p:=h
def aL2{p:Prop}(h:p:=by rw[q]):p:=h
def aL3{p:Prop}(h:p:=by decide +kernel):p:=h
def aL4{p:Prop}(h:p:=by rw[lH q];exact O):p:=h
def aL5{p:Prop}(h:p:=by intro e;rw[e] at b9;simp at b9):p:=h
def aL6{p:Prop}(h:p:=by apply uB;simp):p:=h
def aL7{p:Prop}(h:p:=by cases i with|zero=>cases q1;cases bt;exact I|succ i=>cases q1):p:=h
def aL8{p:Prop}(h:p:=by show(1:Int)<=5;decide):p:=h
def aL9{p:Prop}(h:p:=by unfold rQ;rw[dV];exact⟨e,by rw[oQ];exact⟨he,O⟩,rfl⟩):p:=h
def aL_{p:Prop}(h:p:=by rw[dW.1 hy];exact⟨oA,p_⟩):p:=h
def aMa{p:Prop}(h:p:=by simp[e1]):p:=h
def aMb{p:Prop}(h:p:=by simp[dQ]):p:=h
def aMc{p:Prop}(h:p:=by exact V):p:=h
def aMd{p:Prop}(h:p:=by rw[bE e];exact hj):p:=h
def aMe{p:Prop}(h:p:=by rcases h.v with rfl|⟨rfl,_⟩<;>rfl):p:=h
def aMf{p:Prop}(h:p:=by rw[ek];omega):p:=h
def aMg{p:Prop}(h:p:=by simpa using he):p:=h
def aMh{p:Prop}(h:p:=by rw[bT hl];simp):p:=h
def aMi{p:Prop}(h:p:=by rw[wu];exact Nat.mod_lt _ (by omega)):p:=h
def aMj{p:Prop}(h:p:=by rw[bE (by omega)];exact h0):p:=h
def aMk{p:Prop}(h:p:=by simp only[O9,TF,Bn,UN,GR,<-pN];exact qh n (by omega)):p:=h
def aMl{p:Prop}(h:p:=by simpa using Y):p:=h
def aMm{p:Prop}(h:p:=by rw[bE (by omega)];exact q):p:=h
def aMn{p:Prop}(h:p:=by cases ys with|nil=>exact(bP rfl).elim|cons _ _=>simp):p:=h
def aMo{p:Prop}(h:p:=by simp[hw]):p:=h
def aMp{p:Prop}(h:p:=by cases neg<;>rfl):p:=h
def aMq{p:Prop}(h:p:=by rw[dQ]):p:=h
def aMr{p:Prop}(h:p:=by rcases lE with rfl|⟨rfl,_⟩<;>exact⟨rfl,rfl⟩):p:=h
def aMs{p:Prop}(h:p:=by rw[bE (by rintro rfl;rw[Y] at q;simp at q)];exact q):p:=h
def aMt{p:Prop}(h:p:=by cases l with|nil=>exact absurd rfl h|cons a r=>rfl):p:=h
def aMu{p:Prop}(h:p:=by simp at h⊢;omega):p:=h
def aMv{p:Prop}(h:p:=by have:=hI.ne;rw[ek,qg] at z;omega):p:=h
def aMw{p:Prop}(h:p:=by have:=he.1;simp at this):p:=h
def aMx{p:Prop}(h:p:=by simp[binOp,Pd]):p:=h
def aMy{p:Prop}(h:p:=by simpa using ha):p:=h
def aMz{p:Prop}(h:p:=by simpa using q1):p:=h
def aMA{p:Prop}(h:p:=by rw[Q];exact hz):p:=h
def aMB{p:Prop}(h:p:=by simpa using h4):p:=h
def aMC{p:Prop}(h:p:=by simpa using hn):p:=h
def aMD{p:Prop}(h:p:=by simpa using fU):p:=h
def aME{p:Prop}(h:p:=by simp[e4,cY,jD,cu]):p:=h
def aMF{p:Prop}(h:p:=by rw[bE (e3 hj)];exact q):p:=h
def aMG{p:Prop}(h:p:=by show 0<=12;omega):p:=h
def aMH{p:Prop}(h:p:=by have:=(cK.1 hj).1;have:=V.1;simp at this;omega):p:=h
def aMI{p:Prop}(h:p:=by intro e;subst e;rw[S] at hj;cases hj;cases ho):p:=h
def aMJ{p:Prop}(h:p:=by simp[zeroValue,typeInfo,Q,hv]):p:=h
def aMK{p:Prop}(h:p:=by have:=G0.1;simp at this;omega):p:=h
def aML{p:Prop}(h:p:=by rw[Kt];exact h.defers.mono bK):p:=h
def aMM{p:Prop}(h:p:=by rw[bE (by omega)];exact h.out):p:=h
def aMN{p:Prop}(h:p:=by cases cl<;>first|rfl|cases ho):p:=h
def aMO{p:Prop}(h:p:=by rcases fM with⟨rfl,_⟩|⟨_,rfl,_⟩<;>rfl):p:=h
def aMP{p:Prop}(h:p:=by rintro rfl;rw[S] at hj;cases hj;exact O _ rfl):p:=h
def aMQ{p:Prop}(h:p:=by have:=s.n;rw[Eu] at this;exact(jP this).2.2.1):p:=h
def aMR{p:Prop}(h:p:=by simp at bt;omega):p:=h
def aMS{p:Prop}(h:p:=by intro e;subst e;rw[S] at hj;cases hj;cases O):p:=h
def aMT{p:Prop}(h:p:=by simpa using eJ.1 this.2 i (by simpa using Q)):p:=h
def aMU{p:Prop}(h:p:=by unfold yW;rw[fq (by omega) (by omega)];omega):p:=h
def aMV{p:Prop}(h:p:=by cases w<;>first|rfl|cases hw):p:=h
def aMW{p:Prop}(h:p:=by have:=z.s.n;rw[Eu] at this;exact(jP this).1):p:=h
def aMX{p:Prop}(h:p:=by rw[<-ha];exact h.apart k id L' L bP eK hM):p:=h
def aMY{p:Prop}(h:p:=by simp[Y]):p:=h
def aMZ{p:Prop}(h:p:=by simp[Il,Pb,run_underlying ht,fe,qH hn];rfl):p:=h
def aM0{p:Prop}(h:p:=by simp[O]):p:=h
def aM1{p:Prop}(h:p:=by cases x<;>first|rfl|cases I):p:=h
def aM2{p:Prop}(h:p:=by rw[<-lY.1];exact S):p:=h
def aM3{p:Prop}(h:p:=by simp[eL]):p:=h
def aM4{p:Prop}(h:p:=by simp[K3,run_underlying he]):p:=h
def aM5{p:Prop}(h:p:=by unfold eqGuard;split<;>rfl):p:=h
def aM6{p:Prop}(h:p:=by have:=D.1;simpa using this):p:=h
def aM7{p:Prop}(h:p:=by have:=h.1;simpa using this):p:=h
def aM8{p:Prop}(h:p:=by rw[bE (by omega)];exact q1):p:=h
def aM9{p:Prop}(h:p:=by first|(cases q;done)|omega):p:=h
def aM_{p:Prop}(h:p:=by rw[bE (by omega)];exact k0):p:=h
def aNa{p:Prop}(h:p:=by rw[bE (by omega),bE (by omega)];exact h0):p:=h
def aNb{p:Prop}(h:p:=by rw[dr,TV q,fq (by omega) (by omega)];rfl):p:=h
def aNc{p:Prop}(h:p:=by rw[bE (by omega),bE (by omega)];exact k0):p:=h
def aNd{p:Prop}(h:p:=by simpa using h3):p:=h
def aNe{p:Prop}(h:p:=by have:=q HK;have:=g HK;have:=g' HK;omega):p:=h
def aNf{p:Prop}(h:p:=by rw[ug _ _ (λq=>O q.1)];exact bV.1 o ho):p:=h
def aNg{p:Prop}(h:p:=by rw[<-Y.1];exact S):p:=h
def aNh{p:Prop}(h:p:=by obtain⟨es,cH,m1,_⟩:=h.m;exact gl m1):p:=h
def aNi{p:Prop}(h:p:=by simp;exact λa b=>bP.elim (· a) (· b)):p:=h
def aNj{p:Prop}(h:p:=by first|rfl|(exfalso;omega)):p:=h
def aNk{p:Prop}(h:p:=by cases O.2 q):p:=h
def aNl{p:Prop}(h:p:=by simp at hz;obtain⟨n,_,rfl⟩:=hz;rfl):p:=h
def aNm{p:Prop}(h:p:=by rw[<-e,S] at q;cases q;exact bP _ rfl):p:=h
def aNn{p:Prop}(h:p:=by simp[binOp,UB,xx]):p:=h
def aNo{p:Prop}(h:p:=by simpa using e):p:=h
def aNp{p:Prop}(h:p:=by rw[acY];exact Nat.mul_le_mul_left _ z):p:=h
def aNq{p:Prop}(h:p:=by intro e;subst e;rw[S] at hj;cases hj):p:=h
def aNr{p:Prop}(h:p:=by apply uB;simpa using o8):p:=h
def aNs{p:Prop}(h:p:=by apply uB;simpa using Nq):p:=h
def aNt{p:Prop}(h:p:=by simp only[dh,S,hm,if_true,h n hn,kf]):p:=h
def aNu{p:Prop}(h:p:=by rw[sr];rfl):p:=h
def aNv{p:Prop}(h:p:=by rw[dr,H9 q,fq (by omega) (by omega)]):p:=h
def aNw{p:Prop}(h:p:=by obtain⟨l,q,_⟩:=h;exact(zI q).one):p:=h
def aNx{p:Prop}(h:p:=by rw[jb];rfl):p:=h
def aNy{p:Prop}(h:p:=by simp[hj]):p:=h
def aNz{p:Prop}(h:p:=by rw[bE e];exact h):p:=h
def aNA{p:Prop}(h:p:=by rw[bE (e3 hj)];exact h):p:=h
def aNB{p:Prop}(h:p:=by show(5:Int)<=5;decide):p:=h
def aNC{p:Prop}(h:p:=by rw[HZ];exact a2):p:=h
def aND{p:Prop}(h:p:=by simpa using h.1):p:=h
def aNE{p:Prop}(h:p:=by rw[gi];exact a1):p:=h
def aNF{p:Prop}(h:p:=by simp at T):p:=h
def aNG{p:Prop}(h:p:=by simp only[uo,e9,Y,kf]):p:=h
def aNH{p:Prop}(h:p:=by simp at S):p:=h
def aNI{p:Prop}(h:p:=by rw[bE (ne q)];exact q):p:=h
def aNJ{p:Prop}(h:p:=by rw[bE (NZ q)];exact q):p:=h
def aNK{p:Prop}(h:p:=by rw[jZ (by omega)];rfl):p:=h
def aNL{p:Prop}(h:p:=by simp[pW,gZ]):p:=h
def aNM{p:Prop}(h:p:=by rw[dW.1 hy];exact e8):p:=h
def aNN{p:Prop}(h:p:=by simpa using k8):p:=h
def aNO{p:Prop}(h:p:=by simpa using ga):p:=h
def aNP{p:Prop}(h:p:=by simpa using hf):p:=h
def aNQ{p:Prop}(h:p:=by simp[oE];omega):p:=h
def aNR{p:Prop}(h:p:=by simpa using h5):p:=h
def aNS{p:Prop}(h:p:=by simp[hz]):p:=h
def aNT{p:Prop}(h:p:=by rw[dW.1 hy];exact I):p:=h
def aNU{p:Prop}(h:p:=by simp[hs]):p:=h
def aNV{p:Prop}(h:p:=by rw[za];simp<;>omega):p:=h
def aNW{p:Prop}(h:p:=by rw[v_];simp<;>omega):p:=h
def aNX{p:Prop}(h:p:=by simp only[vn];omega):p:=h
def aNY{p:Prop}(h:p:=by simp[h.fV]):p:=h
def aNZ{p:Prop}(h:p:=by simp[dR,mE,h]):p:=h
def aN0{p:Prop}(h:p:=by exact mD.ok.1):p:=h
def aN1{p:Prop}(h:p:=by simpa[BP] using e2):p:=h
def aN2{p:Prop}(h:p:=by rw[lH e7];exact q1):p:=h
def aN3{p:Prop}(h:p:=by unfold nF;rw[j4 z]):p:=h
def aN4{p:Prop}(h:p:=by rw[dW.1 q];exact I):p:=h
def aN5{p:Prop}(h:p:=by rw[e9,I];rfl):p:=h
end Go
open Array renaming ext_getElem?->aJj,getElem?_append_left->acp,getElem?_eq_getElem->wU,getElem?_eq_none->aqY,getElem?_eq_some_iff->zT,getElem?_modify->Fs,length_toList->aqZ,size_append->O9
open BitVec renaming ofInt->Dg
open Bool renaming and_eq_true->fQ,false->bf,false_eq_true->kB,not_true->zU,true->bh
open Go.Builtin renaming append_->wV,firstCells->acv,lenOf->acw,len_->K3,zeroCells->zV
open Go.Instr renaming index->acD,indexAt->Uy,loadAt->acE,slice->Pb,sliceAt->Il,sliceBounds->aq8,storeAt->aq9,sureAddr->Pc
open Go.IntKind renaming i64->cN
open Go.Op renaming bytesLess->acG,equalIn->wW,intArith->acH,intBits->UB,intCmp->Pd
open Go.Result renaming andThen_ok->gA
open Go.RowKit.Below renaming heap_setCell->arl
open Go.Sem renaming run_bind->gx,run_pure->mh
open Go.Value renaming cells->BP
open Go.World renaming cell?->FA,cell?_alloc_lt->yu,cell?_alloc_new->Iq,cell?_setCells_in->aJq,cell?_setCells_out->aJr,freeze->UC,frozen?->Pj,frozen?_alloc_new->K8,frozen?_alloc_old->Dk,frozen?_setCells->Dl,setCells->Pm,shape?->K9,size_drew->acN
open Go renaming byteCells->arp
open List renaming all_append->arq,all_cons->pK,all_eq_true->eJ,append_assoc->dQ,append_nil->gV,drop_of_length_le->tD,drop_succ_cons->wX,eq_nil_of_length_eq_zero->oc,ext_getElem?->FB,getElem?_append_left->fY,getElem?_append_right->gh,getElem?_drop->tE,getElem?_eq_getElem->cy,getElem?_eq_none->j4,getElem?_eq_some_iff->cK,getElem?_map->e9,getElem?_set_ne->bE,getElem?_set_self->bT,getElem?_take->UI,getElem?_take_of_lt->Dn,getElem_mem->Pp,getElem_of_mem->FC,length_append->ek,length_cons->eZ,length_drop->z7,length_map->cS,length_nil->iG,length_take->z8,map_cons->fc,mem_map->dV,mem_of_getElem?->cv,mem_of_mem_drop->vz,mem_of_mem_take->FE,nil_append->gM,range->lu,size_toArray->UN,take_of_length_le->oe,take_succ_cons->rJ
open Nat renaming add_assoc->nM,add_le_add_left->arI,add_mul->pN,add_zero->sx,eq_zero_or_pos->Dp,le_refl->cc,le_trans->iz,lt_or_ge->er,mul_le_mul_right->qh,one_mul->FF,sub_self->ni,sub_zero->FG,zero_add->gi,zero_le->gW
open Ne renaming symm->e3
open Option renaming isSome_iff_exists->ac0,isSome_none->BW,map_eq_some_iff->dA,map_some->kf,none->bn,some->a_
open Option.some renaming injEq->nj
open Or renaming inl->bD,inr->bF
namespace Go.bM
open Go.RowKit
section
variable{a:Addr}{B b base bW cap d field fin Gm id k len m n n' o off top:Nat}{dst e s src t ty:TypeId}{i' j s' v x' y y':Value}{w w':World}{i:Option Int}{cs' news vs:List Value}{bN neg row:Bool}{D1:Array Field}{f:Field}{op:BinOp}{gd jQ:Operand}{jV zo vb:Option Value}
def cO{α:Type}{l:List α}{i:Nat}(h:i<l.length):∃x,l[i]?=a_ x:=⟨_,cy h⟩
def gl{α:Type}{l:List α}{i:Nat}{x:α}(h:l[i]?=a_ x):i<l.length:=(cK.1 h).1
inductive nR where
 |exact
 |no
 |tok (id:Nat)
 deriving DecidableEq
inductive bg where
 |v (x:Value)
 |agg (Z:List bg)
 |bQ (Z:List bg)
 |bp
 |sl (xs:List bg) (t:nR)
 |fp (Z:List bg) (off:Nat)
 |mp (k off:Nat)
 |rp (k n off:Nat)
 |rs (k n sz off len:Nat)
 |gJ (k:Nat)
 |gw (ch:List PanicEntry)
 |fn (f:Fn) (first V9:List bg)
 |eE (t:TypeId) (x:bg)
 |gq (k:Nat)
 |jq (k:Nat)
 |iK (k:Nat) (t:TypeId×Nat)
 |fx (Z:List bg) (b o:Nat)
variable{r x:bg}{Q lo mx:Option bg}{Z ts us ys zs:List bg}
def bg.cells:bg->List bg
 |.agg Z=>Z
 |x=>[x]
def bg.one:bg->Bool
 |.agg _|.bQ _|.gw _=>bf
 |_=>bh
def plain:Value->Bool
 |.bool _|.int _ _|.float _ _|.string _|.pointer bn|.nilFunc|.nilIface|.map bn=>bh
 |_=>bf
inductive br where
 |cells (Z:List bg) (row:Bool)
 |tok (n sz:Nat) (e:TypeId)
 |obj (o:Obj)
 |eT (es:List (bg×bg×Nat)) (aJ0:Nat)
 |b8 (st:LoopState) (pd:Option Code) (bU:List bg) (ps:Array Tmp) (ok:Code->Code->Prop)
variable{J bl:List br}
def br.isObj:br->Bool
 |.cells _ _|.tok _ _ _=>bf
 |_=>bh
def br.like(b b':br):Prop:=(∀o,b=.obj o->∃o',b'=.obj o'/\(o=.deferred (a_ [])->o'=o))/\
 (∀st pd bU ps ok,b=.b8 st pd bU ps ok->∃fX lG,b'=.b8 fX lG bU ps ok)/\(∀es cH,b=.eT es cH->∃mS ny,b'=.eT mS ny)
def br.like.refl(b:br):b.like b:=⟨λo h=>⟨o,h,λ_=>rfl⟩,λst pd _ _ _ h=>⟨st,pd,h⟩,λes cH h=>⟨es,cH,h⟩⟩
def br.like.trans{a b c:br}(h:a.like b)(h':b.like c):a.like c:=by
 refine⟨λo e=>?_,λst pd bU ps ok e=>?_,λes cH e=>?_⟩;obtain⟨o',e',f⟩:=h.1 o e;obtain⟨aEz,vS,f'⟩:=h'.1 o' e';refine⟨aEz,vS,λq=>?_⟩;rw[(f q)] at f';exact f' q;obtain⟨fX,lG,e'⟩:=h.2.1 _ _ _ _ _ e;exact h'.2.1 _ _ _ _ _ e';obtain⟨mS,ny,e'⟩:=h.2.2 _ _ e;exact h'.2.2 _ _ e'
def br.like.isObj{b b':br}(h:b.like b')(ho:b.isObj=bh):b'.isObj=bh:=by
 cases b with
 |obj o=>obtain⟨o',e,_⟩:=h.1 o rfl;rw[e];rfl
 |b8 st pd bU ps ok=>obtain⟨_,_,e⟩:=h.2.1 _ _ _ _ _ rfl;rw[e];rfl
 |eT es cH=>obtain⟨_,_,e⟩:=h.2.2 _ _ rfl;rw[e];rfl
 |_=>cases ho
def uK(o:Obj):Prop:=∀c t f,o≠.cells c t f
structure Loc where
 b:Nat
 fin:Nat:=0
 cap:Nat:=0
 ty:TypeId×Nat:=(0,0)
variable{M M':List Loc}{L L':Loc}
abbrev Cells:=Nat->Nat->Option Value
variable{C bI:Cells}
def vJ(M:List Loc)(J:List br)(a:Addr)(len cap sz:Nat):nR->Prop
 |.exact=>cap=len
 |.no=>True
 |.tok id=>∃n s ty L,J[id]?=a_ (.tok n s ty)/\M[id]?=a_ L/\len<=n/\(len=0\/sz=s)/\
  (len=n->a.spot=bn/\a.block=L.b/\a.off+len*s=L.fin/\a.off+cap*s=L.cap)
inductive bO(C:Cells)(M:List Loc)(J:List br):bg->Value->Prop
 |v {x:Value} (h:plain x=bh):bO C M J (.v x) x
 |agg {Z:List bg} {cs':Array Value} (hl:Z.length=cs'.size)
  (h:∀(i:Nat) a b,Z[i]?=a_ a->cs'[i]?=a_ b->bO C M J a b):bO C M J (.agg Z) (.agg cs')
 |bQ {Z:List bg} {cs':Array Value} (hl:Z.length=cs'.size)
  (h:∀(i:Nat) a b,Z[i]?=a_ a->cs'[i]?=a_ b->bO C M J a b):bO C M J (.bQ Z) (.tuple cs')
 |bp:bO C M J .bp (.slice bn 0 0)
 |sl {xs:List bg} {t:nR} {a:Addr} {cap sz:Nat} (f:Nat->Nat->Value)
  (gH:xs≠[]->a.spot=bn)
  (dF:∀(i:Nat) x,xs[i]?=a_ x->x.cells.length=sz)
  (hC:∀(i:Nat) x (j:Nat) c,xs[i]?=a_ x->x.cells[j]?=a_ c->C a.block (a.off+i*sz+j)=a_ (f i j))
  (hR:∀(i:Nat) x (j:Nat) c,xs[i]?=a_ x->x.cells[j]?=a_ c->bO C M J c (f i j))
  (hT:vJ M J a xs.length cap sz t) (ir:xs.length<=cap):bO C M J (.sl xs t) (.slice (a_ a) xs.length cap)
 |fp {Z:List bg} {off b o:Nat} (f:Nat->Value)
  (hC:∀(i:Nat) c,Z[i]?=a_ c->C b (o+i)=a_ (f i)) (hR:∀(i:Nat) c,Z[i]?=a_ c->bO C M J c (f i)):
  bO C M J (.fp Z off) (.pointer (a_ ⟨b,o+off,bn⟩))
 |mp {k off:Nat} {L:Loc} {Z:List bg} (O:J[k]?=a_ (.cells Z bf)) (hM:M[k]?=a_ L):
  bO C M J (.mp k off) (.pointer (a_ ⟨L.b,off,bn⟩))
 |rp {k n off:Nat} {L:Loc} {Z:List bg} {a:Addr} (O:J[k]?=a_ (.cells Z bh)) (hM:M[k]?=a_ L) (hn:n<=Z.length) (ha:n=Z.length->a=⟨L.b,off,bn⟩):
  bO C M J (.rp k n off) (.pointer (a_ a))
 |rs {k n sz off len cap:Nat} {L:Loc} {Z:List bg} {a:Addr} (O:J[k]?=a_ (.cells Z bh)) (hM:M[k]?=a_ L) (hn:n<=Z.length) (ga:len<=cap)
  (ha:n=Z.length->a=⟨L.b,off,bn⟩/\off+len*sz<=Z.length/\Z.length<=off+cap*sz/\off+cap*sz<=L.cap):
  bO C M J (.rs k n sz off len) (.slice (a_ a) len cap)
 |gJ {k:Nat} {L:Loc} {o:Obj} (O:J[k]?=a_ (.obj o)) (hM:M[k]?=a_ L):bO C M J (.gJ k) (.pointer (a_ ⟨L.b,0,bn⟩))
 |fn {f:Fn} {fs Z:List bg} {k5 cs':Array Value} (k8:fs.length=k5.size) (ga:Z.length=cs'.size)
  (hf:∀(i:Nat) a b,fs[i]?=a_ a->k5[i]?=a_ b->bO C M J a b)
  (T:∀(i:Nat) a b,Z[i]?=a_ a->cs'[i]?=a_ b->bO C M J a b):bO C M J (.fn f fs Z) (.func f k5 cs')
 |eE {t:TypeId} {x:bg} {x':Value} (h:bO C M J x x'):bO C M J (.eE t x) (.iface t x')
 |gq {k:Nat} {L:Loc} {es:List (bg×bg×Nat)} {cH:Nat} (O:J[k]?=a_ (.eT es cH)) (hM:M[k]?=a_ L):bO C M J (.gq k) (.map (a_ L.b))
 |jq {k:Nat} {L:Loc} {st:LoopState} {pd:Option Code} {bU:List bg} {ps:Array Tmp} {ok:Code->Code->Prop} (O:J[k]?=a_ (.b8 st pd bU ps ok)) (hM:M[k]?=a_ L):bO C M J (.jq k) (.func (.yield L.b) #[] #[])
 |iK {k:Nat} {L:Loc} {Z:List bg} (O:J[k]?=a_ (.cells Z bf)) (hM:M[k]?=a_ L):bO C M J (.iK k L.ty) (.pointer bn)
 |fx {Z:List bg} {b o:Nat} (f:Nat->Value)
  (hC:∀(i:Nat) c,Z[i]?=a_ c->C b (o+i)=a_ (f i)) (hR:∀(i:Nat) c,Z[i]?=a_ c->bO C M J c (f i)):
  bO C M J (.fx Z b o) (.pointer (a_ ⟨b,o,bn⟩))
structure dm(C:Cells)(M:List Loc)(J:List br)(bI:Cells)(M':List Loc)(bl:List br):Prop where
 C:∀b o v,C b o=a_ v->bI b o=a_ v
 cells:∀(k:Nat) Z fz,J[k]?=a_ (.cells Z fz)->∃cs',bl[k]?=a_ (.cells cs' fz)/\(fz=bh->Z.length<=cs'.length)/\((fz=bh->cs'.length=Z.length)->M'[k]?=M[k]?)/\((M[k]?).isSome->(M'[k]?).isSome)
 toks:∀(k:Nat) n s ty,J[k]?=a_ (.tok n s ty)->∃n',bl[k]?=a_ (.tok n' s ty)/\n<=n'/\(n'=n->M'[k]?=M[k]?)/\((M[k]?).isSome->(M'[k]?).isSome)
 gK:∀(k:Nat) b,b.isObj=bh->J[k]?=a_ b->(∃b',bl[k]?=a_ b'/\b.like b')/\M'[k]?=M[k]?
def dm.refl(C)(M)(J):dm C M J C M J:=
 ⟨λ_ _ _ h=>h,λ_ Z fz h=>⟨Z,h,λ_=>cc _,λ_=>rfl,λh=>h⟩,λ_ n _ _ h=>⟨n,h,cc _,λ_=>rfl,λh=>h⟩,λ_ b _ h=>⟨⟨b,h,.refl b⟩,rfl⟩⟩
def dm.trans{Lh ada}{IG adr}{aiK aiL}(h:dm C M J Lh IG aiK)(k:dm Lh IG aiK ada adr aiL):dm C M J ada adr aiL:=by
 refine⟨λb o v e=>k.C _ _ _ (h.C _ _ _ e),λi Z fz e=>?_,λi n s ty e=>?_,λi b O e=>?_⟩;obtain⟨cs',e',g,m,s⟩:=h.cells i Z fz e;obtain⟨auA,vS,g',m',s'⟩:=k.cells i cs' fz e';exact⟨auA,vS,λq=>iz (g q) (g' q),λq=>((m' λHK=>aNe).trans (m λHK=>aNe)),λq=>s' (s q)⟩;obtain⟨n',e',l,m,s1⟩:=h.toks i n s ty e;obtain⟨amY,vS,l',m',s2⟩:=k.toks i n' s ty e';refine⟨amY,vS,iz l l',λq=>?_,λq=>s2 (s1 q)⟩;have b:amY=n':=aa
 exact(m' b).trans (m aa);obtain⟨⟨b',e',l⟩,m⟩:=h.gK i b O e;obtain⟨⟨VO,vS,l'⟩,m'⟩:=k.gK i b' (l.isObj O) e';exact⟨⟨VO,vS,l.trans l'⟩,m'.trans m⟩
def dm.length(h:dm C M J bI M' bl):J.length<=bl.length:=by
 rcases Dp J.length with h0|h0
 omega;have hl:J.length-1<J.length:=aa
 have e:=cy hl;have key:∃b,bl[J.length-1]?=a_ b:=by
  cases O:J[J.length-1] with
  |cells Z fz=>rw[O] at e;obtain⟨cs',q,_⟩:=h.cells _ _ _ e;exact⟨_,q⟩
  |tok n s ty=>rw[O] at e;obtain⟨n',q,_⟩:=h.toks _ _ _ _ e;exact⟨_,q⟩
  |obj o=>rw[O] at e;obtain⟨⟨b',q,_⟩,_⟩:=h.gK _ _ rfl e;exact⟨_,q⟩
  |eT es cH=>rw[O] at e;obtain⟨⟨b',q,_⟩,_⟩:=h.gK _ _ rfl e;exact⟨_,q⟩
  |b8 st pd bU ps ok=>rw[O] at e;obtain⟨⟨b',q,_⟩,_⟩:=h.gK _ _ rfl e;exact⟨_,q⟩
 obtain⟨b,O⟩:=key;have:=(cK.1 O).1;omega
def vJ.mono(bK:dm C M J bI M' bl){sz:Nat}{t}
  (h:vJ M J a len cap sz t):vJ M' bl a len cap sz t:=by
 cases t with
 |exact=>exact h
 |no=>trivial
 |tok id=>
  obtain⟨n,s,ty,L,e,m,l,z,q⟩:=h;obtain⟨n',e',l',m',s1⟩:=bK.toks id n s ty e;have:=s1 (by simp[m]);obtain⟨L',tZ⟩:=ac0.1 this;refine⟨n',s,ty,L',e',tZ,iz l l',z,λhq=>?_⟩;have:=m' aa;rw[tZ,m] at this;cases this;exact q aa
def bO.mono(bK:dm C M J bI M' bl)
  (h:bO C M J x y):bO bI M' bl x y:=by
 induction h with
 |v h=>exact .v h
 |agg hl _ ih=>exact .agg hl ih
 |bQ hl _ ih=>exact .bQ hl ih
 |bp=>exact .bp
 |sl f gH dF hC _ hT ir ih=>exact .sl f gH dF (λi x j c Y V=>bK.C _ _ _ (hC i x j c Y V)) ih (hT.mono bK) ir
 |fp f hC _ ih=>exact .fp f (λi c h=>bK.C _ _ _ (hC i c h)) ih
 |fx f hC _ ih=>exact .fx f (λi c h=>bK.C _ _ _ (hC i c h)) ih
 |mp O hM=>
  obtain⟨cs',e,_,m,_⟩:=bK.cells _ _ _ O;exact .mp e ((m nofun).trans hM)
 |@rp k n off L Z a O hM hn ha=>
  obtain⟨cs',e,g,m,s⟩:=bK.cells _ _ _ O;have g:=g rfl;obtain⟨L',tZ⟩:=ac0.1 (s (by rw[hM];rfl));refine .rp e tZ aa λq=>?_;have Y:cs'.length=Z.length:=aa
  have V:=m λ_=>Y;rw[tZ,hM] at V;cases V;exact ha aa
 |@rs k n sz off len cap L Z a O hM hn ga ha=>
  obtain⟨cs',e,g,m,s⟩:=bK.cells _ _ _ O;have g:=g rfl;obtain⟨L',tZ⟩:=ac0.1 (s (by rw[hM];rfl));refine .rs e tZ aa ga λq=>?_;have Y:cs'.length=Z.length:=aa
  have V:=m λ_=>Y;rw[tZ,hM] at V;cases V;rw[Y];exact ha aa
 |gJ O hM=>
  obtain⟨⟨b',e,l⟩,m⟩:=bK.gK _ _ rfl O;obtain⟨o',rfl,_⟩:=l.1 _ rfl;exact .gJ e (m.trans hM)
 |fn k8 ga _ _ G_ G9=>exact .fn k8 ga G_ G9
 |eE _ ih=>exact .eE ih
 |gq O hM=>
  obtain⟨⟨b',e,l⟩,m⟩:=bK.gK _ _ rfl O;obtain⟨mS,ny,rfl⟩:=l.2.2 _ _ rfl;exact .gq e (m.trans hM)
 |iK O hM=>
  obtain⟨cs',e,_,m,_⟩:=bK.cells _ _ _ O;exact .iK e ((m nofun).trans hM)
 |jq O hM=>
  obtain⟨⟨b',e,l⟩,m⟩:=bK.gK _ _ rfl O;obtain⟨_,_,rfl⟩:=l.2.1 _ _ _ _ _ rfl;exact .jq e (m.trans hM)
def uL(C:Cells)(M:List Loc)(J:List br):br->Obj->Prop
 |.obj o',o=>o=o'
 |.eT es cH,o=>∃fE:Array MapEntry,o=.map fE cH/\es.length=fE.toList.length/\∀(i:Nat) a b,es[i]?=a_ a->fE.toList[i]?=a_ b->bO C M J a.1 b.key/\bO C M J a.2.1 b.val/\b.born=a.2.2
 |.b8 st pd bU ps ok,o=>∃fn tmps assign body hr,o=.loop {state:=st,pending:=pd,fn:=fn,tmps:=tmps,params:=ps,assign:=assign,body:=body,defers:=hr}/\ok assign body/\
  bU.length=tmps.size/\∀(i:Nat) a b,bU[i]?=a_ a->tmps[i]?=a_ b->bO C M J a b
 |_,_=>False
def uL.mono(bK:dm C M J bI M' bl){b:br}{o:Obj}(h:uL C M J b o):uL bI M' bl b o:=by
 cases b with
 |obj o'=>exact h
 |eT es cH=>
  obtain⟨mQ,e,Y,V⟩:=h;exact⟨mQ,e,Y,λi a b ha O=>let⟨x,y,z⟩:=V i a b ha O;⟨x.mono bK,y.mono bK,z⟩⟩
 |b8 st pd bU ps ok=>
  obtain⟨fn,tmps,assign,body,hr,e,Y,V,h3⟩:=h;exact⟨fn,tmps,assign,body,hr,e,Y,V,λi a b ha O=>(h3 i a b ha O).mono bK⟩
 |_=>exact h.elim
structure kY where
 w:World
 C:Cells
variable{w0:kY}
def oo(w:World)(b:Nat)(e:TypeId×Nat):Prop:=w.shape? b=a_ e
def oo.same{e}(h:oo w b e)(O:w'.heap[b]?=w.heap[b]?):oo w' b e:=by
 unfold oo K9 at h⊢;rw[O];exact h
def oo.alloc{e}(h:oo w b e)(O:b<w.heap.size)(o:Obj):oo (w.alloc o) b e:=h.same (Below.heap_alloc w o b O)
def oo.new{cells}:oo (w.alloc (.cells cells e)) w.heap.size (e,cells.size):=by
 have:(w.alloc (.cells cells e)).heap[w.heap.size]?=a_ (.cells cells e):=by
  show(w.heap.push (.cells cells e))[w.heap.size]?=_;simp
 unfold oo K9;rw[this]
def oo.set{e}(h:oo w b e)(a)(v):oo (w.setCell a v) b e:=by
 by_cases O:b=a.block;unfold oo K9 at h⊢;have:(w.setCell a v).heap[b]?=(w.heap[b]?).map λ
  |.cells c Wt frozen=>.cells (if a.spot.isSome then c else c.setIfInBounds a.off v) Wt frozen
  |o=>o:=by
  show(w.heap.modify a.block _)[b]?=_;rw[Fs,if_pos O.symm];cases w.heap[b]? with
  |none=>rfl
  |some x=>cases x<;>rfl
 rw[this];cases I:w.heap[b]? with
 |none=>rw[I] at h;simp at h
 |some x=>
  rw[I] at h;cases x with
  |cells Z ty fr=>
   simp only[nj] at h;simp only[kf,<-h];split<;>simp
  |_=>simp at h
 unfold oo K9 at h⊢;rw[arl _ _ _ _ O];exact h
def k3(w:World)(b fin:Nat)(e:TypeId):Prop:=∃(Z:Array Value) (lo Q:Nat),w.heap[b]?=a_ (.cells Z e (lo,Q))/\(lo=Q\/Q<=fin)
def k3.free(h:k3 w b fin e)(o:Nat)(ho:fin<=o):w.frozen? ⟨b,o,bn⟩=bf:=by
 obtain⟨Z,lo,Q,Y,V⟩:=h;simp only[Pj,Y,Bool.and_eq_false_iff,decide_eq_false_iff_not];omega
def k3.shape(h:k3 w b fin e):∃c,w.shape? b=a_ (e,c):=by
 obtain⟨Z,lo,Q,Y,V⟩:=h;exact⟨Z.size,by simp only[K9,Y]⟩
def k3.same(h:k3 w b fin e)(O:w'.heap[b]?=w.heap[b]?):k3 w' b fin e:=by
 obtain⟨Z,lo,Q,Y,V⟩:=h;exact⟨Z,lo,Q,by rw[O];exact Y,V⟩
def k3.alloc(h:k3 w b fin e)(O:b<w.heap.size)(o:Obj):k3 (w.alloc o) b fin e:=h.same (Below.heap_alloc w o b O)
def k3.new{cells}:k3 (w.alloc (.cells cells e)) w.heap.size fin e:=by
 refine⟨cells,0,0,?_,.inl rfl⟩;show(w.heap.push (.cells cells e))[w.heap.size]?=_;simp
def k3.set(h:k3 w b fin e)(hf:fin<=Gm)(a)(v):k3 (w.setCell a v) b Gm e:=by
 obtain⟨Z,lo,Q,Y,V⟩:=h;have h3:lo=Q\/Q<=Gm:=aa
 by_cases O:b=a.block;subst O;refine⟨if a.spot.isSome then Z else Z.setIfInBounds a.off v,lo,Q,?_,h3⟩;show(w.heap.modify a.block _)[a.block]?=_;rw[Fs,if_pos rfl,Y];rfl;exact⟨Z,lo,Q,by rw[arl _ _ _ _ O];exact Y,h3⟩
def k3.up(h:k3 w b fin e)(hf:fin<=Gm):k3 w b Gm e:=by
 obtain⟨Z,lo,Q,Y,V⟩:=h;exact⟨Z,lo,Q,Y,aa⟩
def k3.freeze(h:k3 w b fin e)(a)(n:Nat)(hfit:b=a.block->a.off+n<=fin):k3 (w.freeze a n) b fin e:=by
 unfold UC;split;exact h;obtain⟨Z,lo,Q,Y,V⟩:=h;by_cases O:b=a.block;have axE:=hfit O;subst O;by_cases he:lo=Q;refine⟨Z,a.off,a.off+n,?_,.inr axE⟩;show(w.heap.modify a.block _)[a.block]?=_;rw[Fs,if_pos rfl,Y];simp[he];refine⟨Z,min lo a.off,max Q (a.off+n),?_,.inr aa⟩;show(w.heap.modify a.block _)[a.block]?=_;rw[Fs,if_pos rfl,Y];simp[he];refine⟨Z,lo,Q,?_,V⟩;show(w.heap.modify a.block _)[b]?=_;rw[Fs,if_neg (e3 O)];exact Y
section
variable{G:Cells}
def T4:Nat:=6
def FV(w:World):Prop:=∃Z t f,w.heap[T4]?=a_ (.cells Z t f)/\Z.size=20
structure arP(base:Nat)(w0:kY):Prop where
 le:base<=w0.w.heap.size
 lt:T4<base
 tab:FV w0.w
def U7(G C:Cells)(w:World):Prop:=(∀b o v,G b o=a_ v->C b o=a_ v)/\FV w
def wM:Value->Bool
 |.slice _ _ _=>bh
 |_=>bf
def Dy(G:Cells):Prop:=∀b o v,G b o=a_ v->wM v=bf
def qi(G:Cells)(w:World)(b o:Nat)(v:Value):Prop:=w.cell? ⟨b,o,bn⟩=a_ v/\(Dy G->wM v=bh->∀i,w.frozen? ⟨b,i,bn⟩=bf)
def qi.keep(h:qi G w b o v)(T:w'.cell? ⟨b,o,bn⟩=w.cell? ⟨b,o,bn⟩)(hf:∀i,w'.frozen? ⟨b,i,bn⟩=w.frozen? ⟨b,i,bn⟩):qi G w' b o v:=
 ⟨T.trans h.1,λa c i=>(hf i).trans (h.2 a c i)⟩
def qi.lt(h:qi G w b o v):b<w.heap.size:=World.block_lt_of_cell? w ⟨b,o,bn⟩ h.1
def qi.alloc(h:qi G w b o v)(x:Obj):qi G (w.alloc x) b o v:=
 h.keep (yu _ _ _ h.lt) λi=>Dk _ _ _ (Nat.ne_of_lt h.lt)
def Ak(w:World)(L:Loc)(n s:Nat)(ty:TypeId):Prop:=L.fin<=L.cap/\L.fin=n*s/\(ty=5\/∀i,w.frozen? ⟨L.b,i,bn⟩=bf)
def Ak.keep{n s:Nat}{ty}(h:Ak w L n s ty)(hf:∀i,w'.frozen? ⟨L.b,i,bn⟩=w.frozen? ⟨L.b,i,bn⟩):Ak w' L n s ty:=⟨h.1,h.2.1,h.2.2.imp_right λq i=>(hf i).trans (q i)⟩
def Ak.alloc{n s:Nat}{ty}(h:Ak w L n s ty)(hl:L.b<w.heap.size)(x:Obj):Ak (w.alloc x) L n s ty:=h.keep λi=>Dk _ _ _ (Nat.ne_of_lt hl)
def Ak.setCells{n s:Nat}{ty}(h:Ak w L n s ty){b o vs}:Ak (w.setCells b o vs) L n s ty:=h.keep λi=>Dl ..
structure cx(G:Cells)(base:Nat)(w0:kY)(C:Cells)(M:List Loc)(J:List br)(w:World):Prop where
 below:Below base w0.w w
 ou:arP base w0
 old:∀b o v,C b o=a_ v->b<base->w0.C b o=a_ v
 tX:∀b o v,G b o=a_ v->C b o=a_ v
 fV:M.length=J.length
 o5:∀b o v,C b o=a_ v->qi G w b o v
 cells:∀(k:Nat) Z fz L,J[k]?=a_ (.cells Z fz)->M[k]?=a_ L->base<=L.b/\L.b<w.heap.size/\
  (∀(i:Nat) c,Z[i]?=a_ c->∃c',w.cell? ⟨L.b,i,bn⟩=a_ c'/\bO C M J c c')/\
  (∀i,w.frozen? ⟨L.b,i,bn⟩=bf)/\(∀o,C L.b o=bn)/\(∀o,o<L.cap->∃v,w.cell? ⟨L.b,o,bn⟩=a_ v)/\oo w L.b L.ty
 toks:∀(k:Nat) n s ty L,J[k]?=a_ (.tok n s ty)->M[k]?=a_ L->base<=L.b/\L.b<w.heap.size/\Ak w L n s ty/\
  (∀o,L.fin<=o->C L.b o=bn)/\(∀o,L.fin<=o->o<L.cap->(∃v,w.cell? ⟨L.b,o,bn⟩=a_ v)/\w.frozen? ⟨L.b,o,bn⟩=bf)/\k3 w L.b L.fin ty
 apart:∀(k k':Nat) L L',k≠k'->M[k]?=a_ L->M[k']?=a_ L'->L.b≠L'.b
 gK:∀(k:Nat) b L,b.isObj=bh->J[k]?=a_ b->M[k]?=a_ L->base<=L.b/\∃o,w.heap[L.b]?=a_ o/\uK o/\uL C M J b o
def cx.VS(h:cx G base w0 C M J w):base<=w.heap.size:=
 iz h.ou.le h.below.size
def cx.tab(h:cx G base w0 C M J w):FV w:=by
 obtain⟨Z,t,f,Y,V⟩:=h.ou.tab;exact⟨Z,t,f,by rw[h.below.block _ h.ou.lt];exact Y,V⟩
def cx.drew(h:cx G base w0 C M J w):cx G base w0 C M J w.drew:=
 ⟨h.below.drew,h.ou,h.old,h.tX,h.fV,h.o5,h.cells,h.toks,h.apart,h.gK⟩
end
def bO.one(h:bO C M J x y)(Y:x.one=bh):y.oneCell'=bh:=by
 cases h<;>first|rfl|(simp[bg.one] at Y;done)|skip
 rename_i I
 cases y<;>first|rfl|(simp[plain] at I)
variable{G:Cells}{base:Nat}{w0:kY}{w:World}{C:Cells}{M:List Loc}{J:List br}
def Cells.add(C:Cells)(B lo:Nat)(vs:List Value):Cells:=
 λb o=>if b=B/\lo<=o/\o<lo+vs.length then vs[o-lo]? else C b o
def Cells.FX(C:Cells)(B lo:Nat)(vs)(i:Nat)(h:i<vs.length):C.add B lo vs B (lo+i)=vs[i]? :=by
 unfold Cells.add;rw[if_pos ⟨rfl,aa,aa⟩];congr 1;omega
def Cells.vL(C:Cells)(B lo:Nat)(vs){b o:Nat}(h:¬(b=B/\lo<=o/\o<lo+vs.length)):C.add B lo vs b o=C b o:=by
 unfold Cells.add;rw[if_neg h]
def cx.fresh(h:cx G base w0 C M J w)(o:Nat):C w.heap.size o=bn:=by
 cases T:C w.heap.size o with
 |none=>rfl
 |some v=>
  have:=(h.o5 _ _ _ T).lt;simp at this
def cx.Ke(h:cx G base w0 C M J w){bI}{M'}{bl}{w':World}(bK:dm C M J bI M' bl)(hh:∀(k:Nat) b,b.isObj=bh->bl[k]?=a_ b->J[k]?=a_ b/\M'[k]?=M[k]?)
  (hw:∀(b:Nat) o,w.heap[b]?=a_ o->uK o->w'.heap[b]?=a_ o):∀(k:Nat) b L,b.isObj=bh->bl[k]?=a_ b->M'[k]?=a_ L->base<=L.b/\∃o,w'.heap[L.b]?=a_ o/\uK o/\uL bI M' bl b o:=λk b L O S hM=>by
 obtain⟨Y,V⟩:=hh k b O S;rw[V] at hM;obtain⟨a,o,e,c,d⟩:=h.gK k b L O Y hM;exact⟨a,o,hw _ _ e c,c,d.mono bK⟩
def RF(w:World)(x:Obj)(b:Nat)(o:Obj)(h:w.heap[b]?=a_ o):(w.alloc x).heap[b]?=a_ o:=by
 show(w.heap.push x)[b]?=a_ o;have hl:=(zT.1 h).1;rw[Array.getElem?_push_lt hl,<-wU hl];exact h
def anA{b:br}{L:Loc}(hl:M.length=J.length)(O:b.isObj=bf){k:Nat}{x:br}(I:x.isObj=bh)(h:(J++[b])[k]?=a_ x):J[k]?=a_ x/\(M++[L])[k]?=M[k]? :=by
 rcases er k J.length with S|S
 rw[fY S] at h;exact⟨h,fY aa⟩;rw[gh S] at h;cases hj:k-J.length with
 |zero=>rw[hj] at h;simp at h;subst h;rw[O] at I;cases I
 |succ j=>rw[hj] at h;simp at h
def Kf{b:br}{i:Nat}(O:b.isObj=bf){k:Nat}{x:br}(I:x.isObj=bh)(h:(J.set i b)[k]?=a_ x):k≠i/\J[k]?=a_ x:=by
 by_cases e:i=k;subst e;by_cases Q:i<J.length;rw[bT Q] at h;simp at h;subst h;rw[O] at I;cases I;rw[j4 ah] at h;cases h;rw[bE e] at h;exact⟨λq=>e q.symm,h⟩
def dm.asw{B lo:Nat}{vs}(hn:∀o,lo<=o->o<lo+vs.length->C B o=bn):dm C M J (C.add B lo vs) M J:=by
 refine⟨λb o v h=>?_,λk Z fz h=>⟨Z,h,λ_=>cc _,λ_=>rfl,λh=>h⟩,λk n s ty h=>⟨n,h,cc _,λ_=>rfl,λh=>h⟩,λk b _ h=>⟨⟨b,h,.refl b⟩,rfl⟩⟩;rw[Cells.vL];exact h;rintro⟨rfl,Y,V⟩;rw[hn o Y V] at h;cases h
def dm.push(b:br)(L:Loc)(hl:M.length=J.length):dm C M J C (M++[L]) (J++[b]):=by
 refine⟨λ_ _ _ h=>h,λk Z fz h=>?_,λk n s ty h=>?_,λk o _ h=>?_⟩;have S:=(cK.1 h).1;exact⟨Z,by rw[fY S];exact h,λ_=>cc _,λ_=>by rw[fY aa],λh=>by rw[fY aa];exact h⟩;have S:=(cK.1 h).1;exact⟨n,by rw[fY S];exact h,cc _,λ_=>by rw[fY aa],λh=>by rw[fY aa];exact h⟩;have S:=(cK.1 h).1;exact⟨⟨o,by rw[fY S];exact h,.refl o⟩,by rw[fY aa]⟩
def cx.W3(h:cx G base w0 C M J w)(cells)(e)(vs)(hv:∀(i:Nat) v,vs[i]?=a_ v->cells[i]?=a_ v):
  dm C M J (C.add w.heap.size 0 vs) M J/\cx G base w0 (C.add w.heap.size 0 vs) M J (w.alloc (.cells cells e)):=by
 have bK:dm C M J (C.add w.heap.size 0 vs) M J:=dm.asw λo _ _=>h.fresh o;refine⟨bK,h.below.alloc (iz h.ou.le h.below.size) _,h.ou,λb o v T O=>h.old b o v (by rwa [Cells.vL _ _ _ _ (λq=>by have:=h.VS;omega)] at T) O,λb o v hg=>bK.C _ _ _ (h.tX b o v hg),h.fV,?_,?_,?_,h.apart,h.Ke bK (λk o _ h=>⟨h,rfl⟩) λb o O _=>RF _ _ _ _ O⟩;intro b o v T;by_cases O:b=w.heap.size/\0<=o/\o<0+vs.length;obtain⟨rfl,_,V⟩:=O;have:=Cells.FX C w.heap.size 0 vs o aa;rw[gi] at this;rw[this] at T;exact⟨by rw[Iq];exact hv o v T,λ_ _ i=>K8 _ _ _ _⟩;rw[Cells.vL _ _ _ _ O] at T;exact(h.o5 b o v T).alloc _;intro k Z fz L S hM;obtain⟨Y,V,h3,q1,bt,bV⟩:=h.cells k Z fz L S hM;have bP:∀o,¬(L.b=w.heap.size/\0<=o/\o<0+vs.length):=λo hq=>aa
 refine⟨Y,ah,λi c T=>?_,λi=>by rw[Dk _ _ _ aY];exact q1 i,λo=>by rw[Cells.vL _ _ _ _ (bP o)];exact bt o,
  λo ho=>by rw[yu _ _ _ aMc];exact bV.1 o ho,bV.2.alloc V _⟩
 obtain⟨c',a1,a2⟩:=h3 i c T;exact⟨c',by rw[yu _ _ _ aMc];exact a1,a2.mono bK⟩;intro k n s ty L S hM;obtain⟨Y,V,h3,h4,h5,h6⟩:=h.toks k n s ty L S hM;refine⟨Y,ah,h3.alloc V _,λo ho=>by rw[Cells.vL _ _ _ _ ((λo hq=>aa) o)];exact h4 o ho,λo ho iL=>?_,h6.alloc V _⟩;obtain⟨a1,a2⟩:=h5 o ho iL;exact⟨by rw[yu _ _ _ aMc];exact a1,by rw[Dk _ _ _ aY];exact a2⟩
def dH(C:Cells)(M:List Loc)(J:List br)(Z:List bg)(cs':List Value):Prop:=
 Z.length=cs'.length/\∀(i:Nat) a b,Z[i]?=a_ a->cs'[i]?=a_ b->bO C M J a b
def dH.mono{bI}{M'}{bl}(bK:dm C M J bI M' bl){Z}{cs'}(h:dH C M J Z cs'):dH bI M' bl Z cs':=
 ⟨h.1,λi a b Y V=>(h.2 i a b Y V).mono bK⟩
def dH.get{Z}{cs'}(h:dH C M J Z cs'){i:Nat}{c:bg}(T:Z[i]?=a_ c):∃c',cs'[i]?=a_ c'/\bO C M J c c':=by
 have Q:i<cs'.length:=by rw[<-h.1];exact(cK.1 T).1
 exact⟨cs'[i],cy Q,h.2 i c _ T (cy Q)⟩
def cx.SR(h:cx G base w0 C M J w)(row)(cap:Nat)(Z)(vs)(cells)(e)(D:dH C M J Z vs)(hv:∀(i:Nat) v,vs[i]?=a_ v->cells[i]?=a_ v)(ir:cap<=cells.size):
  dm C M J C (M++[{b:=w.heap.size,cap:=cap,ty:=(e,cells.size)}]) (J++[.cells Z row])/\
   cx G base w0 C (M++[{b:=w.heap.size,cap:=cap,ty:=(e,cells.size)}]) (J++[.cells Z row]) (w.alloc (.cells cells e)):=by
 have bK:dm C M J C (M++[{b:=w.heap.size,cap:=cap,ty:=(e,cells.size)}]) (J++[.cells Z row]):=dm.push _ _ h.fV;have Eb:=iz h.ou.le h.below.size;refine⟨bK,h.below.alloc Eb _,h.ou,h.old,h.tX,aNY,?_,?_,?_,?_,h.Ke bK (λk o ho S=>anA h.fV rfl ho S) λb o O _=>RF _ _ _ _ O⟩;exact λb o v T=>(h.o5 b o v T).alloc _;intro k yZ fz L S hM
 rcases er k J.length with hl|hl
 rw[fY hl] at S;rw[fY (by rw[h.fV];exact hl)] at hM;obtain⟨Y,V,h3,q1,bt,bV⟩:=h.cells k yZ fz L S hM;refine⟨Y,ah,λi c T=>?_,λi=>by rw[Dk _ _ _ aY];exact q1 i,bt,λo ho=>by rw[yu _ _ _ aMc];exact bV.1 o ho,bV.2.alloc V _⟩;obtain⟨c',a1,a2⟩:=h3 i c T;exact⟨c',by rw[yu _ _ _ aMc];exact a1,a2.mono bK⟩;have iT:k=J.length:=by
  have:=(cK.1 S).1;simp at this;omega
 subst iT;rw[gh (cc _)] at S;rw[gh (by rw[h.fV];exact cc _),h.fV] at hM;simp at S hM;obtain⟨rfl,rfl⟩:=S;subst hM;refine⟨Eb,af,λi c T=>?_,λi=>K8 _ _ _ _,λo=>h.fresh o,λo ho=>?_,oo.new⟩;obtain⟨c',a1,a2⟩:=D.get T;exact⟨c',by rw[Iq];exact hv _ _ a1,a2.mono bK⟩;rw[Iq];have ho:o<cap:=ho;exact⟨cells[o],wU aa⟩;intro k n s ty L S hM
 rcases er k J.length with hl|hl
 rw[fY hl] at S;rw[fY (by rw[h.fV];exact hl)] at hM;obtain⟨Y,V,h3,h4,h5,h6⟩:=h.toks k n s ty L S hM;refine⟨Y,ah,h3.alloc V _,h4,λo ho iL=>?_,h6.alloc V _⟩;obtain⟨a1,a2⟩:=h5 o ho iL;exact⟨by rw[yu _ _ _ aMc];exact a1,by rw[Dk _ _ _ aY];exact a2⟩;have iT:k=J.length:=by
  have:=(cK.1 S).1;simp at this;omega
 subst iT;rw[gh (cc _)] at S;simp at S;intro k k' L L' bP hM eK;have key:∀(j:Nat) (L₁:Loc),M[j]?=a_ L₁->L₁.b<w.heap.size:=by
  intro j L₁ hj;have lW:j<J.length:=by rw[<-h.fV];exact(cK.1 hj).1
  cases O:J[j] with
  |cells yZ fz=>exact(h.cells j yZ fz L₁ (by rw[cy lW,O]) hj).2.1
  |tok n s ty=>exact(h.toks j n s _ L₁ (by rw[cy lW,O]) hj).2.1
  |_=>
   obtain⟨_,o,e,_⟩:=h.gK j _ L₁ (by rw[O];rfl) (cy lW) hj;exact(zT.1 e).1
 rcases er k M.length with hl|hl
 rw[fY hl] at hM
 rcases er k' M.length with hl'|hl'
 rw[fY hl'] at eK;exact h.apart k k' L L' bP hM eK;rw[gh hl'] at eK;have:=key k L hM;have e:L'={b:=w.heap.size,cap:=cap,ty:=(e,cells.size)}:=by
  cases hj:k'-M.length with
  |zero=>rw[hj] at eK;simpa using eK.symm
  |succ j=>rw[hj] at eK;simp at eK
 subst e;show L.b≠w.heap.size;omega;rw[gh hl] at hM;have e:L={b:=w.heap.size,cap:=cap,ty:=(e,cells.size)}:=by
  cases hj:k-M.length with
  |zero=>rw[hj] at hM;simpa using hM.symm
  |succ j=>rw[hj] at hM;simp at hM
 subst e
 rcases er k' M.length with hl'|hl'
 rw[fY hl'] at eK;have:=key k' L' eK;show w.heap.size≠L'.b;omega;rw[gh hl'] at eK;exfalso;have Y:k-M.length=0:=by
  cases hj:k-M.length with
  |zero=>rfl
  |succ j=>rw[hj] at hM;simp at hM
 have V:k'-M.length=0:=by
  cases hj:k'-M.length with
  |zero=>rfl
  |succ j=>rw[hj] at eK;simp at eK
 omega
def cx.ZS(h:cx G base w0 C M J w)(Z)(cells)(e)(D:dH C M J Z cells.toList):
  dm C M J C (M++[{b:=w.heap.size,ty:=(e,cells.size)}]) (J++[.cells Z bf])/\
   cx G base w0 C (M++[{b:=w.heap.size,ty:=(e,cells.size)}]) (J++[.cells Z bf]) (w.alloc (.cells cells e)):=
 h.SR bf 0 Z cells.toList cells e D (λi v hv=>by simpa using hv) (gW _)
variable{G:Cells}{base:Nat}{w0:kY}{w:World}{C:Cells}{M:List Loc}{J:List br}
def cx.at(h:cx G base w0 C M J w){k:Nat}{L:Loc}(hM:M[k]?=a_ L):L.b<w.heap.size/\base<=L.b:=by
 have lW:k<J.length:=by rw[<-h.fV];exact(cK.1 hM).1
 cases O:J[k] with
 |cells Z fz=>have:=h.cells k Z fz L (by rw[cy lW,O]) hM;exact⟨this.2.1,this.1⟩
 |tok n s ty=>have:=h.toks k n s _ L (by rw[cy lW,O]) hM;exact⟨this.2.1,this.1⟩
 |_=>
  obtain⟨Y,o,e,_⟩:=h.gK k _ L (by rw[O];rfl) (cy lW) hM;exact⟨(zT.1 e).1,Y⟩
def tg{α:Type}{l}{x y:α}{k:Nat}(h:(l++[x])[k]?=a_ y):(k<l.length/\l[k]?=a_ y)\/(k=l.length/\y=x):=by
 rcases er k l.length with hl|hl
 rw[fY hl] at h;exact bD ⟨hl,h⟩;rw[gh hl] at h;cases hj:k-l.length with
 |zero=>rw[hj] at h;simp at h;exact bF ⟨aa,h.symm⟩
 |succ j=>rw[hj] at h;simp at h
def l_{α:Type}{l:List α}{x y:α}{k id:Nat}(h:(l.set id x)[k]?=a_ y):(k≠id/\l[k]?=a_ y)\/(k=id/\id<l.length/\y=x):=by
 by_cases e:k=id;subst e;have hl:k<l.length:=by
  have:=(cK.1 h).1;simpa using this
 rw[bT hl] at h;exact bF ⟨rfl,hl,by simpa using h.symm⟩;rw[bE (e3 e)] at h;exact bD ⟨e,h⟩
def cx.SS(h:cx G base w0 C M J w)(cells)(e)(vs)(hv:∀(i:Nat) v,vs[i]?=a_ v->cells[i]?=a_ v)
  (n s cap:Nat) (hs:vs.length<=cap) (zg:vs.length=n*s) (ir:cap<=cells.size):
  let bI:=C.add w.heap.size 0 vs
  let M':=M++[{b:=w.heap.size,fin:=vs.length,cap:=cap}]
  let bl:=J++[.tok n s e]
  dm C M J bI M' bl/\cx G base w0 bI M' bl (w.alloc (.cells cells e)):=by
 intro bI M' bl;obtain⟨En,Y⟩:=h.W3 cells e vs hv;have nC:dm bI M J bI M' bl:=dm.push _ _ h.fV;refine⟨En.trans nC,Y.below,h.ou,Y.old,Y.tX,by simp[M',bl,h.fV],Y.o5,?_,?_,?_,Y.Ke nC (λk o ho S=>anA h.fV rfl ho S) λb o O _=>O⟩;intro k Z fz L S hM
 rcases tg S with⟨hl,S⟩|⟨_,S⟩
 rcases tg hM with⟨_,hM⟩|⟨hl',_⟩
 obtain⟨a1,a2,a3,a4⟩:=Y.cells k Z fz L S hM;refine⟨a1,a2,λi c T=>?_,a4⟩;obtain⟨c',b1,b2⟩:=a3 i c T;exact⟨c',b1,b2.mono nC⟩;rw[h.fV] at hl';omega;cases S;intro k wD wP ty L S hM
 rcases tg S with⟨hl,S⟩|⟨hl,S⟩
 rcases tg hM with⟨_,hM⟩|⟨hl',_⟩
 exact Y.toks k wD wP ty L S hM;rw[h.fV] at hl';omega;cases S
 rcases tg hM with⟨hl',_⟩|⟨_,rfl⟩
 rw[h.fV] at hl';omega;refine⟨iz h.ou.le h.below.size,af,⟨hs,zg,.inr λi=>K8 _ _ _ _⟩,λo ho=>?_,λo ho iL=>?_,k3.new⟩;show C.add w.heap.size 0 vs w.heap.size o=bn;rw[Cells.vL _ _ _ _ (by simp at ho⊢;omega)];exact h.fresh o;refine⟨?_,K8 _ _ _ _⟩;rw[Iq];simp at iL;exact⟨cells[o],wU aa⟩;intro k k' L L' bP hM eK
 rcases tg hM with⟨_,hM⟩|⟨e1,rfl⟩<;>rcases tg eK with⟨_,eK⟩|⟨e2,rfl⟩
 exact h.apart k k' L L' bP hM eK;have:=(h.at hM).1;show L.b≠w.heap.size;omega;have:=(h.at eK).1;show w.heap.size≠L'.b;omega;omega
def dm.apb{bI}{id n n' s:Nat}{ty}{L':Loc}(hC:∀b o v,C b o=a_ v->bI b o=a_ v)(hid:J[id]?=a_ (.tok n s ty))(hn:n<n')(hl:M.length=J.length):
  dm C M J bI (M.set id L') (J.set id (.tok n' s ty)):=by
 have cX:=(cK.1 hid).1;refine⟨hC,λk Z fz S=>?_,λk wD wP aqx S=>?_,λk o ho S=>?_⟩;have bP:id≠k:=by intro e;subst e;rw[hid] at S;cases S
 exact⟨Z,by rw[bE bP];exact S,λ_=>cc _,λ_=>by rw[bE bP],λq=>by rw[bE bP];exact q⟩;by_cases e:id=k;subst e;rw[hid] at S;cases S;exact⟨n',by rw[bT cX],aa,λq=>aa,λ_=>by rw[bT aa];rfl⟩;exact⟨wD,by rw[bE e];exact S,cc _,λ_=>by rw[bE e],λq=>by rw[bE e];exact q⟩;have bP:id≠k:=by intro e;subst e;rw[hid] at S;cases S;cases ho
 exact⟨⟨o,by rw[bE bP];exact S,.refl o⟩,by rw[bE bP]⟩
def cx.aD1(h:cx G base w0 C M J w)(cells)(e)(vs)(hv:∀(i:Nat) v,vs[i]?=a_ v->cells[i]?=a_ v)
  {id n n' s cap:Nat} (hid:J[id]?=a_ (.tok n s e)) (hn:n<n') (hs:vs.length<=cap) (zg:vs.length=n'*s) (ir:cap<=cells.size):
  let bI:=C.add w.heap.size 0 vs
  let M':=M.set id {b:=w.heap.size,fin:=vs.length,cap:=cap}
  let bl:=J.set id (.tok n' s e)
  dm C M J bI M' bl/\cx G base w0 bI M' bl (w.alloc (.cells cells e)):=by
 intro bI M' bl;obtain⟨En,Y⟩:=h.W3 cells e vs hv;have nC:dm bI M J bI M' bl:=dm.apb (λ_ _ _ h=>h) hid hn h.fV;have cX:=(cK.1 hid).1;refine⟨En.trans nC,Y.below,h.ou,Y.old,Y.tX,by simp[M',bl,h.fV],Y.o5,?_,?_,?_,Y.Ke nC (λk o ho S=>⟨(Kf rfl ho S).2,bE (e3 (Kf rfl ho S).1)⟩) λb o O _=>O⟩;intro k Z fz L S hM
 rcases l_ S with⟨bP,S⟩|⟨_,_,S⟩
 rcases l_ hM with⟨_,hM⟩|⟨e,_⟩
 obtain⟨a1,a2,a3,a4⟩:=Y.cells k Z fz L S hM;refine⟨a1,a2,λi c T=>?_,a4⟩;obtain⟨c',b1,b2⟩:=a3 i c T;exact⟨c',b1,b2.mono nC⟩;omega;cases S;intro k wD wP ty L S hM
 rcases l_ S with⟨bP,S⟩|⟨rfl,_,S⟩
 rcases l_ hM with⟨_,hM⟩|⟨e,_⟩
 exact Y.toks k wD wP ty L S hM;omega;cases S
 rcases l_ hM with⟨bP,_⟩|⟨_,_,rfl⟩
 omega;refine⟨iz h.ou.le h.below.size,af,⟨hs,zg,.inr λi=>K8 _ _ _ _⟩,λo ho=>?_,λo ho iL=>?_,k3.new⟩;show C.add w.heap.size 0 vs w.heap.size o=bn;rw[Cells.vL _ _ _ _ (by simp at ho⊢;omega)];exact h.fresh o;refine⟨?_,K8 _ _ _ _⟩;rw[Iq];simp at iL;exact⟨cells[o],wU aa⟩;intro k k' L L' bP hM eK
 rcases l_ hM with⟨_,hM⟩|⟨e1,_,rfl⟩<;>rcases l_ eK with⟨_,eK⟩|⟨e2,_,rfl⟩
 exact h.apart k k' L L' bP hM eK;have:=(h.at hM).1;show L.b≠w.heap.size;omega;have:=(h.at eK).1;show w.heap.size≠L'.b;omega;omega
def GL(b:Nat):∀(vs) (o:Nat) (w:World) (k:Nat),k≠b->(w.setCells b o vs).heap[k]?=w.heap[k]?
 |[],_,_,_,_=>rfl
 |v::r,o,_,k,h=>by rw[Pm,GL b r (o+1) _ k h];exact arl _ _ _ _ h
def HZ(b:Nat):∀(vs) (o:Nat) (w:World),(w.setCells b o vs).heap.size=w.heap.size
 |[],_,_=>rfl
 |v::r,o,_=>by rw[Pm,HZ b r (o+1)];simp
def VU{a}(b:Nat)(O:B<=b):∀(vs) (o:Nat) (w),Below B a w->Below B a (w.setCells b o vs)
 |[],_,_,h=>h
 |v::r,o,_,h=>VU b O r (o+1) _ (h.setCell O v)
def oo.setCells{e}(b':Nat):∀(vs) (o:Nat) (w),oo w b e->oo (w.setCells b' o vs) b e
 |[],_,w,h=>h
 |v::r,o,w,h=>by rw[Pm];exact oo.setCells b' r (o+1) _ (h.set _ _)
def k3.setCells(hf:fin<=Gm)(b':Nat):∀(vs) (o:Nat) (w),k3 w b fin e->k3 (w.setCells b' o vs) b Gm e
 |[],_,_,h=>h.up hf
 |v::r,o,w,h=>by rw[Pm];exact k3.setCells hf b' r (o+1) _ (h.set (cc _) _ _)
def cx.awG(h:cx G base w0 C M J w)(vs){s:Nat}(hid:J[id]?=a_ (.tok n s ty))(hM:M[id]?=a_ L)(hn:n<n')(zg:L.fin+vs.length=n'*s)(q8:ty≠5\/∀v∈vs,wM v=bf)(hfit:L.fin+vs.length<=L.cap):
  let bI:=C.add L.b L.fin vs
  let M':=M.set id {L with fin:=L.fin+vs.length}
  let bl:=J.set id (.tok n' s ty)
  dm C M J bI M' bl/\cx G base w0 bI M' bl (w.setCells L.b L.fin vs):=by
 intro bI M' bl;obtain⟨t1,t2,t3,t4,t5,t6⟩:=h.toks id n s ty L hid hM;have ahL:=λb o v T=>by
  show C.add L.b L.fin vs b o=a_ v;rw[Cells.vL];exact T;rintro⟨rfl,q1,bt⟩;rw[t4 o q1] at T;cases T
 have bK:dm C M J bI M' bl:=dm.apb ahL hid hn h.fV;have cX:=(cK.1 hid).1;have ug:∀b o,¬(b=L.b/\L.fin<=o/\o<L.fin+vs.length)->(w.setCells L.b L.fin vs).cell? ⟨b,o,bn⟩=w.cell? ⟨b,o,bn⟩:=λb o u9=>
  aJr L.b vs L.fin w ⟨b,o,bn⟩ (λe _=>by simp at e⊢;omega)
 refine⟨bK,VU L.b t1 vs L.fin w h.below,h.ou,λb o v T O=>h.old b o v (by have jl:C.add L.b L.fin vs b o=a_ v:=T;rwa [Cells.vL _ _ _ _ (λq=>aa)] at jl) O,λb o v hg=>ahL _ _ _ (h.tX b o v hg),by simp[M',bl,h.fV],?_,?_,?_,?_,λk o L₁ ho S iR=>?_⟩;intro b o v T;by_cases O:b=L.b/\L.fin<=o/\o<L.fin+vs.length;obtain⟨rfl,q1,bt⟩:=O;obtain⟨j,rfl⟩:∃j,o=L.fin+j:=⟨o-L.fin,aa⟩;have hj:j<vs.length:=aa
 have e:=Cells.FX C L.b L.fin vs j hj;have jl:C.add L.b L.fin vs L.b (L.fin+j)=a_ v:=T;rw[e,cy hj] at jl;refine⟨by
  rw[aJq L.b vs L.fin w (λi Q=>by
   obtain⟨⟨x,I⟩,_⟩:=t5 (L.fin+i) aa aa;rw[I];rfl) j hj]
  exact jl,λ_ hv i=>?_⟩
 rw[Dl]
 rcases t3.2.2 with q|q
 rcases q8 with q'|q'
 exact(q' q).elim;rw[q' v (cv (by rw[cy hj];exact jl))] at hv;cases hv;exact q i;have jl:C.add L.b L.fin vs b o=a_ v:=T;rw[Cells.vL _ _ _ _ O] at jl;exact(h.o5 b o v jl).keep (ug b o O) λi=>Dl ..;intro k Z fz L₁ S iR
 rcases l_ S with⟨bP,S⟩|⟨_,_,S⟩
 rcases l_ iR with⟨_,iR⟩|⟨e,_⟩
 obtain⟨a1,a2,a3,a4⟩:=h.cells k Z fz L₁ S iR;have O:=h.apart k id L₁ L bP iR hM;obtain⟨q1,bt,bV⟩:=a4;refine⟨a1,aNC,λi c T=>?_,λi=>by rw[Dl];exact q1 i,λo=>?_,λo ho=>aNf,bV.2.same (GL _ _ _ _ _ O)⟩;obtain⟨c',b1,b2⟩:=a3 i c T;exact⟨c',by rw[ug _ _ (λq=>O q.1)];exact b1,b2.mono bK⟩;show C.add L.b L.fin vs L₁.b o=bn;rw[Cells.vL _ _ _ _ (λq=>O q.1)];exact bt o;omega;cases S;intro k wD wP ty L₁ S iR
 rcases l_ S with⟨bP,S⟩|⟨rfl,_,S⟩
 rcases l_ iR with⟨_,iR⟩|⟨e,_⟩
 obtain⟨a1,a2,a3,a4,a5,a6⟩:=h.toks k wD wP ty L₁ S iR;have O:=h.apart k id L₁ L bP iR hM;refine⟨a1,aNC,a3.setCells,λo ho=>?_,λo ho iL=>?_,a6.same (GL _ _ _ _ _ O)⟩;show C.add L.b L.fin vs L₁.b o=bn;rw[Cells.vL _ _ _ _ (λq=>O q.1)];exact a4 o ho;rw[ug _ _ (λq=>O q.1),Dl];exact a5 o ho iL;omega;cases S
 rcases l_ iR with⟨bP,_⟩|⟨_,_,rfl⟩
 omega;refine⟨t1,by rw[HZ];exact t2,⟨hfit,zg,t3.setCells.2.2⟩,λo ho=>?_,λo ho iL=>?_,k3.setCells (Nat.le_add_right _ _) _ _ _ _ t6⟩;show C.add L.b L.fin vs L.b o=bn;simp at ho;rw[Cells.vL _ _ _ _ aa];exact t4 o aa;simp at ho iL;rw[Dl];show(∃v,(w.setCells L.b L.fin vs).cell? ⟨L.b,o,bn⟩=a_ v)/\_;rw[ug L.b o aa];exact t5 o aa iL;intro k k' L₁ adq bP iR aw2
 rcases l_ iR with⟨_,q1⟩|⟨e1,_,rfl⟩<;>rcases l_ aw2 with⟨_,bt⟩|⟨e2,_,rfl⟩
 exact h.apart k k' L₁ adq bP q1 bt;exact h.apart k id L₁ L aa q1 hM;exact h.apart id k' L adq aa hM bt;omega;obtain⟨bP,iT⟩:=Kf rfl ho S;have eK:M[k]?=a_ L₁:=by have q:(M.set id {L with fin:=L.fin+vs.length})[k]?=a_ L₁:=iR;rwa [bE (e3 bP)] at q
 obtain⟨a1,x,a2,a3,a4⟩:=h.gK k o L₁ ho iT eK;exact⟨a1,x,by rw[GL _ _ _ _ _ (h.apart k id L₁ L bP eK hM)];exact a2,a3,a4.mono bK⟩
def d_(Z:List bg)(off:Nat)(vs:List bg):List bg:=Z.take off++vs++Z.drop (off+vs.length)
def aaD{vs}(h:off+vs.length<=Z.length)(i:Nat):
  (d_ Z off vs)[i]?=if i<off then Z[i]? else if i<off+vs.length then vs[i-off]? else Z[i]? :=by
 unfold d_;have Y:(Z.take off).length=off:=ah
 by_cases c1:i<off;rw[if_pos c1,dQ,fY aa,Dn c1];rw[if_neg c1,dQ,gh aa,Y];by_cases c2:i<off+vs.length;rw[if_pos c2,fY aa];rw[if_neg c2,gh aa,tE];congr 1;omega
def aaE{vs}(h:off+vs.length<=Z.length):(d_ Z off vs).length=Z.length:=by
 unfold d_;simp;omega
def dm.setCells{cs'}(hC:∀b o v,C b o=a_ v->bI b o=a_ v)(S:J[k]?=a_ (.cells Z row))(hl:cs'.length=Z.length):
  dm C M J bI M (J.set k (.cells cs' row)):=by
 have cX:=(cK.1 S).1;refine⟨hC,λj yZ W8 hj=>?_,λj wD wP aqx hj=>?_,λj o ho hj=>?_⟩;by_cases e:k=j;subst e;rw[S] at hj;cases hj;exact⟨cs',bT cX,λ_=>aa,λ_=>rfl,λh=>h⟩;exact⟨yZ,aMd,λ_=>cc _,λ_=>rfl,λh=>h⟩;have e:k≠j:=aNq
 exact⟨wD,aMd,cc _,λ_=>rfl,λh=>h⟩;exact⟨⟨o,by rw[bE aMI];exact hj,.refl o⟩,rfl⟩
def dm.ahC{cs'}(hC:∀b o v,C b o=a_ v->bI b o=a_ v)(S:J[k]?=a_ (.cells Z bh))(hl:M.length=J.length)(hg:Z.length<cs'.length\/(cs'.length=Z.length/\M[k]?=a_ L')):
  dm C M J bI (M.set k L') (J.set k (.cells cs' bh)):=by
 have cX:=(cK.1 S).1;refine⟨hC,λj yZ W8 hj=>?_,λj wD wP aqx hj=>?_,λj o ho hj=>?_⟩;by_cases e:k=j;subst e;rw[S] at hj;cases hj;refine⟨cs',bT cX,λ_=>aa,λq=>?_,λh=>by rw[bT aa];rfl⟩;have:=q rfl
 rcases hg with hg|⟨_,hg⟩
 omega;rw[bT aa,hg];exact⟨yZ,aMd,λ_=>cc _,λ_=>by rw[bE e],λh=>aNz⟩;have e:k≠j:=aNq
 exact⟨wD,aMd,cc _,λ_=>by rw[bE e],λh=>aNz⟩;have e:k≠j:=aMI
 exact⟨⟨o,aMd,.refl o⟩,by rw[bE e]⟩
def cx.apU(h:cx G base w0 C M J w){cs'}(S:J[k]?=a_ (.cells Z row))(hM:M[k]?=a_ L)
  (off:Nat) (us) (vs) (D:dH C M J us vs) (bK:dm C M J C M (J.set k (.cells cs' row))) (hfit:off+us.length<=Z.length\/off+us.length<=L.cap)
  (RD:∀(i:Nat),cs'[i]?=if i<off then Z[i]? else if i<off+us.length then us[i-off]? else Z[i]?):
  cx G base w0 C M (J.set k (.cells cs' row)) (w.setCells L.b off vs):=by
 obtain⟨t1,t2,t3,abI,Fh,vp,aqp⟩:=h.cells k Z row L S hM;have c7:=D.1;have ug:∀b o,¬(b=L.b/\off<=o/\o<off+vs.length)->(w.setCells L.b off vs).cell? ⟨b,o,bn⟩=w.cell? ⟨b,o,bn⟩:=λb o u9=>
  aJr L.b vs off w ⟨b,o,bn⟩ (λe _=>by simp at e⊢;omega)
 have Bb:=aJq L.b vs off w (λq hq=>by
  rcases hfit with hfit|hfit
  obtain⟨c',b1,_⟩:=t3 (off+q) _ (cy aa);rw[b1];rfl;obtain⟨c',b1⟩:=vp (off+q) aa;rw[b1];rfl)
 refine⟨VU L.b t1 vs off w h.below,h.ou,h.old,h.tX,aNY,?_,?_,?_,h.apart,λj o L₁ ho hj iR=>?_⟩;intro b o v T;exact(h.o5 b o v T).keep (ug b o (by rintro⟨rfl,_⟩;rw[Fh o] at T;cases T)) λi=>Dl ..;intro j yZ W8 L₁ hj iR
 rcases l_ hj with⟨bP,hj⟩|⟨rfl,_,hj⟩
 obtain⟨a1,a2,a3,q1,bt,bV⟩:=h.cells j yZ W8 L₁ hj iR;have O:=h.apart j k L₁ L bP iR hM;refine⟨a1,aNC,λi c T=>?_,λi=>by rw[Dl];exact q1 i,bt,λo ho=>aNf,bV.2.same (GL _ _ _ _ _ O)⟩;obtain⟨c',b1,b2⟩:=a3 i c T;exact⟨c',by rw[ug _ _ (λq=>O q.1)];exact b1,b2.mono bK⟩;cases hj;rw[hM] at iR;cases iR;refine⟨t1,by rw[HZ];exact t2,λi c T=>?_,λi=>by rw[Dl];exact abI i,Fh,λo ho=>?_,aqp.setCells _ _ _ _⟩;rw[RD] at T;by_cases c1:i<off;rw[if_pos c1] at T;obtain⟨c',b1,b2⟩:=t3 i c T;exact⟨c',by rw[ug _ _ aa];exact b1,b2.mono bK⟩;rw[if_neg c1] at T;by_cases c2:i<off+us.length;rw[if_pos c2] at T;obtain⟨c',b1,b2⟩:=D.get T;have hj:i-off<vs.length:=aa
 have:=Bb (i-off) hj;rw[show off+(i-off)=i by omega] at this;refine⟨c',?_,b2.mono bK⟩;rw[this,<-b1,cy hj];rw[if_neg c2] at T;obtain⟨c',b1,b2⟩:=t3 i c T;exact⟨c',by rw[ug _ _ aa];exact b1,b2.mono bK⟩;by_cases c1:off<=o/\o<off+vs.length;have:=Bb (o-off) aa;rw[show off+(o-off)=o by omega] at this;have hq:o-off<vs.length:=aa
 exact⟨vs[o-off],this⟩;rw[ug _ _ aa];exact vp o ho;intro j wD wP ty L₁ hj iR
 rcases l_ hj with⟨bP,hj⟩|⟨_,_,hj⟩
 obtain⟨a1,a2,a3,a4,a5,a6⟩:=h.toks j wD wP ty L₁ hj iR;have O:=h.apart j k L₁ L bP iR hM;refine⟨a1,aNC,a3.setCells,a4,λo ho iL=>?_,a6.same (GL _ _ _ _ _ O)⟩;rw[ug _ _ (λq=>O q.1),Dl];exact a5 o ho iL;cases hj;obtain⟨bP,ud⟩:=Kf rfl ho hj;obtain⟨a1,x,a2,a3,a4⟩:=h.gK j o L₁ ho ud iR;exact⟨a1,x,by rw[GL _ _ _ _ _ (h.apart j k L₁ L bP iR hM)];exact a2,a3,a4.mono bK⟩
def cx.store(h:cx G base w0 C M J w)(S:J[k]?=a_ (.cells Z row))(hM:M[k]?=a_ L)
  (off:Nat) (us) (vs) (D:dH C M J us vs) (hfit:off+us.length<=Z.length):
  dm C M J C M (J.set k (.cells (d_ Z off us) row))/\cx G base w0 C M (J.set k (.cells (d_ Z off us) row)) (w.setCells L.b off vs):=by
 have bK:dm C M J C M (J.set k (.cells (d_ Z off us) row)):=dm.setCells (λ_ _ _ h=>h) S (aaE hfit);exact⟨bK,h.apU S hM off us vs D bK (bD hfit) λi=>aaD hfit i⟩
def aGL(h:w.cell? ⟨b,o,bn⟩=a_ v):w.setCell ⟨b,o,bn⟩ v=w:=by
 have key:w.heap.modify b (λ
   |.cells c Wt frozen=>.cells (if(bn:Option Nat).isSome then c else c.setIfInBounds o v) Wt frozen
   |o=>o)=w.heap:=by
  apply aJj;intro i;rw[Fs];split;rename_i e;subst e;cases I:w.heap[b]? with
  |none=>rfl
  |some x=>
   cases x with
   |cells c ty fr=>
    have T:c[o]?=a_ v:=by simpa[FA,I] using h
    simp only[kf,BW,kB,if_false];congr 2;apply aJj;intro j;rw[Array.getElem?_setIfInBounds];split;rename_i e;subst e;split;exact T.symm;rename_i hn;rw[aqY aa] at T;cases T;rfl
   |_=>rfl
  rfl
 show({w with heap:=_}:World)=w
 exact congrArg (λq=>({w with heap:=q}:World)) key
def cx.aH0(h:cx G base w0 C M J w){z}(S:J[k]?=a_ (.cells (.v (.pointer bn)::z) bf))(hM:M[k]?=a_ L):
  dm C M J C M (J.set k (.cells (.iK k L.ty::z) bf))/\cx G base w0 C M (J.set k (.cells (.iK k L.ty::z) bf)) w:=by
 obtain⟨bK,hs⟩:=h.store S hM 0 [.iK k L.ty] [.pointer bn] ⟨rfl,λi a b ha O=>by
  cases i with
  |zero=>simp at ha O;subst ha;subst O;exact .iK S hM
  |succ i=>simp at ha⟩ af
 obtain⟨_,_,h3,_⟩:=h.cells k _ _ L S hM;obtain⟨c',h4,h5⟩:=h3 0 (.v (.pointer bn)) rfl;cases h5;have e:w.setCells L.b 0 [.pointer bn]=w:=by
  rw[Pm,Pm];exact aGL h4
 rw[e] at hs;exact⟨bK,hs⟩
def MQ(w:World)(a)(n k:Nat)(S:k≠a.block):(w.freeze a n).heap[k]?=w.heap[k]? :=by
 unfold UC;split;rfl;show(w.heap.modify a.block _)[k]?=_;rw[Fs,if_neg (e3 S)]
def ah9(w:World)(a)(n k:Nat)(o:Obj)(h:w.heap[k]?=a_ o)(ho:uK o):(w.freeze a n).heap[k]?=a_ o:=by
 unfold UC;split;exact h;show(w.heap.modify a.block _)[k]?=_;rw[Fs];split;rw[h];cases o with
 |cells c t f=>exact(ho c t f rfl).elim
 |_=>rfl
 exact h
def abf(w:World)(a)(n:Nat):(w.freeze a n).heap.size=w.heap.size:=by
 unfold UC;split;rfl;show(w.heap.modify a.block _).size=_;simp
def avK{lo Q:Nat}{Z}(a)(n:Nat)(h:w.heap[k]?=a_ (.cells Z e (lo,Q))):∃fr,(w.freeze a n).heap[k]?=a_ (.cells Z e fr):=by
 by_cases O:k=a.block;unfold UC;split;exact⟨_,h⟩;refine⟨if lo==Q then(a.off,a.off+n) else(min lo a.off,max Q (a.off+n)),?_⟩;show(w.heap.modify a.block _)[k]?=_;rw[Fs,if_pos O.symm,h];rfl;exact⟨_,by rw[MQ _ _ _ _ O];exact h⟩
def Qh(w:World)(a c)(n:Nat):(w.freeze a n).cell? c=w.cell? c:=by
 unfold FA;cases I:w.heap[c.block]? with
 |none=>rw[aqY (by rw[abf];exact Array.getElem?_eq_none_iff.1 I)]
 |some x=>
  cases x with
  |cells Z e fr=>
   obtain⟨lo,Q⟩:=fr;obtain⟨aKh,q⟩:=avK a n I;rw[q]
  |_=>rw[ah9 _ _ _ _ _ I (λc t f q=>av)]
def cx.avJ(h:cx G base w0 C M J w){c s:Nat}(hid:J[id]?=a_ (.tok c s ty))(hM:M[id]?=a_ L)(ha:L.b=a.block)(hfit:a.off+n<=L.fin)(awN:ty=5)(u9:∀o v,C L.b o=a_ v->wM v=bf):
  cx G base w0 C M J (w.freeze a n):=by
 obtain⟨t1,t2,_⟩:=h.toks id c s ty L hid hM;refine⟨Lib.below_freeze h.below aa n,h.ou,h.old,h.tX,h.fV,λb o v T=>⟨by rw[Qh];exact(h.o5 b o v T).1,λq hv i=>by
  have O:b≠a.block:=λe=>by rw[u9 o v (by rw[ha,<-e];exact T)] at hv;cases hv
  have:=(h.o5 b o v T).2 q hv i;unfold Pj at this⊢;rw[MQ _ _ _ _ O];exact this⟩,?_,?_,h.apart,?_⟩
 intro k Z fz L' S eK;obtain⟨Y,V,h3,h4,h5,h6,h7⟩:=h.cells k Z fz L' S eK;have bP:k≠id:=by intro q;subst q;rw[hid] at S;cases S
 have O:L'.b≠a.block:=aMX
 refine⟨Y,by rw[abf];exact V,λi x I=>?_,λi=>?_,h5,λo ho=>?_,h7.same (MQ _ _ _ _ O)⟩;obtain⟨c',a1,a2⟩:=h3 i x I;exact⟨c',by rw[Qh];exact a1,a2⟩;have:=h4 i;unfold Pj at this⊢;rw[MQ _ _ _ _ O];exact this;obtain⟨v,hv⟩:=h6 o ho;exact⟨v,by rw[Qh];exact hv⟩;intro k n' s' KU L' S eK;obtain⟨Y,V,h3,h4,h5,h6⟩:=h.toks k n' s' KU L' S eK;have hT:=h6.freeze a n λO=>by
  by_cases bP:k=id;subst bP;rw[hM] at eK;cases eK;exact hfit;exact(h.apart k id L' L bP eK hM (by rw[O,ha])).elim
 have hu:KU=5\/∀i,(w.freeze a n).frozen? ⟨L'.b,i,bn⟩=bf:=by
  by_cases bP:k=id;subst bP;rw[hid] at S;cases S;exact .inl awN;exact h3.2.2.imp_right λq i=>by
   have:=q i;unfold Pj at this⊢;rw[MQ _ _ _ _ aMX];exact this
 refine⟨Y,by rw[abf];exact V,⟨h3.1,h3.2.1,hu⟩,h4,λo ho iL=>⟨?_,hT.free o ho⟩,hT⟩;obtain⟨⟨v,hv⟩,_⟩:=h5 o ho iL;exact⟨v,by rw[Qh];exact hv⟩;intro k b L' O S eK;obtain⟨Y,o,V,h3,h4⟩:=h.gK k b L' O S eK;exact⟨Y,o,ah9 _ _ _ _ _ V h3,h3,h4⟩
def cx.aD0(h:cx G base w0 C M J w)(cells)(e)(cs')(vs)(D:dH C M J cs' vs)(hv:∀(i:Nat) v,vs[i]?=a_ v->cells[i]?=a_ v)(ir:cap<=cells.size)(S:J[k]?=a_ (.cells Z bh))(cX:Z.length<cs'.length):
  dm C M J C (M.set k {b:=w.heap.size,cap:=cap,ty:=(e,cells.size)}) (J.set k (.cells cs' bh))/\cx G base w0 C (M.set k {b:=w.heap.size,cap:=cap,ty:=(e,cells.size)}) (J.set k (.cells cs' bh)) (w.alloc (.cells cells e)):=by
 have bK:dm C M J C (M.set k {b:=w.heap.size,cap:=cap,ty:=(e,cells.size)}) (J.set k (.cells cs' bh)):=dm.ahC (λ_ _ _ h=>h) S h.fV (bD cX);have Eb:=iz h.ou.le h.below.size;have e7:=(cK.1 S).1;refine⟨bK,h.below.alloc Eb _,h.ou,h.old,h.tX,aNY,?_,?_,?_,?_,h.Ke bK (λj o ho hj=>⟨(Kf rfl ho hj).2,bE (e3 (Kf rfl ho hj).1)⟩) λb o O _=>RF _ _ _ _ O⟩;exact λb o v T=>(h.o5 b o v T).alloc _;intro j yZ fz L hj hM
 rcases l_ hj with⟨bP,hj⟩|⟨rfl,_,hj⟩
 rcases l_ hM with⟨_,hM⟩|⟨e,_⟩
 obtain⟨Y,V,h3,q1,bt,bV⟩:=h.cells j yZ fz L hj hM;refine⟨Y,ah,λi c T=>?_,λi=>by rw[Dk _ _ _ aY];exact q1 i,bt,λo ho=>by rw[yu _ _ _ aMc];exact bV.1 o ho,bV.2.alloc V _⟩;obtain⟨c',a1,a2⟩:=h3 i c T;exact⟨c',by rw[yu _ _ _ aMc];exact a1,a2.mono bK⟩;omega;cases hj
 rcases l_ hM with⟨bP,_⟩|⟨_,_,rfl⟩
 omega;refine⟨Eb,af,λi c T=>?_,λi=>K8 _ _ _ _,λo=>h.fresh o,λo ho=>?_,oo.new⟩;obtain⟨c',a1,a2⟩:=D.get T;exact⟨c',by rw[Iq];exact hv _ _ a1,a2.mono bK⟩;rw[Iq];have ho:o<cap:=ho;exact⟨cells[o],wU aa⟩;intro j n s ty L hj hM
 rcases l_ hj with⟨bP,hj⟩|⟨_,_,hj⟩
 rcases l_ hM with⟨_,hM⟩|⟨e,_⟩
 obtain⟨Y,V,h3,h4,h5,h6⟩:=h.toks j n s ty L hj hM;refine⟨Y,ah,h3.alloc V _,h4,λo ho iL=>?_,h6.alloc V _⟩;obtain⟨a1,a2⟩:=h5 o ho iL;exact⟨by rw[yu _ _ _ aMc];exact a1,by rw[Dk _ _ _ aY];exact a2⟩;omega;cases hj;intro j j' L L' bP hM eK
 rcases l_ hM with⟨_,hM⟩|⟨e1,_,rfl⟩<;>rcases l_ eK with⟨_,eK⟩|⟨e2,_,rfl⟩
 exact h.apart j j' L L' bP hM eK;have:=(h.at hM).1;show L.b≠w.heap.size;omega;have:=(h.at eK).1;show w.heap.size≠L'.b;omega;omega
inductive dK where
 |t (n:Nat)
 |c (a:bg)
def jL:bg:=.bQ []
def ev(ts:List bg):dK->bg
 |.t n=>(ts[n]?).getD jL
 |.c a=>a
def OQ:Value->Option bg
 |.slice bn 0 0=>a_ .bp
 |.func f fs Z=>if fs.size=0/\Z.size=0 then a_ (.fn f [] []) else bn
 |x=>if plain x then a_ (.v x) else bn
def ep:Operand->Option dK
 |.tmp t=>a_ (.t t)
 |.const v=>(OQ v).map .c
 |.func f=>a_ (.c (.fn (.func f) [] []))
 |.global _=>bn
def C6:List Value->Option (List bg)
 |[]=>a_ []
 |x::r=>match OQ x,C6 r with
  |some a,a_ l=>a_ (a::l)
  |_,_=>bn
def uz:List Operand->Option (List dK)
 |[]=>a_ []
 |x::r=>match ep x,uz r with
  |some a,a_ l=>a_ (a::l)
  |_,_=>bn
def oh(C:Cells)(M:List Loc)(J:List br)(ts:List bg)(tmps:Array Value):Prop:=dH C M J ts tmps.toList
section
variable{G:Cells}{base:Nat}{w0:kY}{w:World}{C:Cells}{M:List Loc}{J:List br}{P:Program}
def HQ:bO C M J jL undef:=.bQ rfl (λi a b h=>au)
def aaW{x}{a:bg}(h:OQ x=a_ a):bO C M J a x:=by
 unfold OQ at h;split at h;cases h;exact .bp;split at h;rename_i hq;cases h;exact .fn (by simp[hq.1]) (by simp[hq.2]) (λi a b h=>au) (λi a b h=>au);cases h;split at h;rename_i bl;cases h;exact .v bl;cases h
def CX:∀{xs} {l},C6 xs=a_ l->dH C M J l xs
 |[],l,h=>by cases h;exact⟨rfl,λi a b h=>au⟩
 |x::r,l,h=>by
  simp only[C6] at h;split at h;rename_i a l' Y V;cases h;have ih:=CX V;refine⟨by simp[ih.1],λi a' b' e1 e2=>?_⟩;cases i with
  |zero=>simp at e1 e2;subst e1;subst e2;exact aaW Y
  |succ i=>simp at e1 e2;exact ih.2 i a' b' e1 e2
  cases h
def W1{tmps}(h:oh C M J ts tmps)(n:Nat):bO C M J ((ts[n]?).getD jL) (tmps.getD n undef):=by
 rcases er n ts.length with hl|hl
 have hl':n<tmps.size:=by have:=h.1;simp at this;omega
 have:=h.2 n ts[n] tmps[n] (cy hl) (by simp[hl']);simpa[cy hl,Array.getD,hl'] using this;have hl':tmps.size<=n:=by have:=h.1;simp at this;omega
 have e:tmps.getD n undef=undef:=by simp[Array.getD,Nat.not_lt.2 hl']
 rw[j4 hl,e];exact HQ
def eR{a:Act}(h:oh C M J ts a.tmps){x}{o:dK}(I:ep x=a_ o):bO C M J (ev ts o) (a.eval x):=by
 cases x with
 |tmp t=>cases I;exact W1 h t
 |const v=>
  simp only[ep,dA] at I;obtain⟨bA,Y,rfl⟩:=I;exact aaW Y
 |global g=>cases I
 |func f=>cases I;exact .fn rfl rfl (λi a b h=>au) (λi a b h=>au)
def ag_{a:Act}(h:oh C M J ts a.tmps)(D:bO C M J x y)(d:Nat):
  oh C M J (ts.set d x) (a.put (a_ d) y).tmps:=by
 have c7:ts.length=a.tmps.size:=aND
 refine⟨by simp[Act.put,c7],λi u v hu hv=>?_⟩;simp only[Act.put,Array.toList_setIfInBounds] at hv
 rcases l_ hu with⟨bP,hu⟩|⟨rfl,hl,rfl⟩
 rw[bE (e3 bP)] at hv;exact h.2 i u v hu hv;rw[bT (by simpa[c7] using hl)] at hv;simp at hv;subst hv;exact D
def gO(G:Cells)(base:Nat)(w0:kY)(C:Cells)(M:List Loc)(J:List br)(P:Program)(m:Sem Value)(w:World)(r:bg)(bl:List br):Prop:=
 ∃bI M' v' w',m.run P w=.ok v' w'/\dm C M J bI M' bl/\cx G base w0 bI M' bl w'/\bO bI M' bl r v'
def gO.same{m}(h:cx G base w0 C M J w)(D:m.run P w=.ok v w)(hv:bO C M J r v):gO G base w0 C M J P m w r J:=
 ⟨C,M,v,w,D,dm.refl _ _ _,h,hv⟩
def kL(P:Program)(t:TypeId):Option Bool:=
 match P.underlying t with
 |some (.struct _)|some (.array _ _)=>a_ bh
 |some _=>a_ bf
 |none=>bn
def jK(P:Program)(t:TypeId):Option Nat:=(P.info? t).map (·.size)
def aa4{b}(h:kL P t=a_ b)(w):(isAgg t).run P w=.ok b w:=by
 unfold kL at h;cases hd:P.underlying t with
 |none=>simp[hd] at h
 |some d=>
  rw[hd] at h;unfold isAgg;simp only[gx,run_underlying hd,gA];cases d<;>simp at h<;>subst h<;>rfl
def qH(h:jK P t=a_ n)(w):(sizeOf t).run P w=.ok n w:=by
 unfold jK at h;simp only[dA] at h;obtain⟨i,Q,rfl⟩:=h;simp[sizeOf,typeInfo,Q]
def fh(bN:Bool)(n:Nat)(Z:List bg)(off:Nat):Option bg:=
 if bN then(if off+n<=Z.length then a_ (.agg ((Z.drop off).take n)) else bn) else Z[off]?
def addr_add(b o n:Nat):(⟨b,o,bn⟩:Addr).add n=⟨b,o+n,bn⟩:=by unfold Addr.add;split<;>simp_all
def KC(dZ:kL P t=a_ bN)(hn:jK P t=a_ n)
  (zi:∀(i:Nat) c,Z[i]?=a_ c->∃c',w.cell? ⟨b,o+i,bn⟩=a_ c'/\bO C M J c c') (D:fh bN n Z off=a_ r):
  ∃v,(loadVar t ⟨b,o+off,bn⟩).run P w=.ok v w/\bO C M J r v:=by
 unfold loadVar;simp only[gx,aa4 dZ,gA];unfold fh at D;cases bN with
 |true=>
  simp only[if_true] at D⊢;split at D;rename_i hfit;cases D;have ah4:∀j,j<n->∃c',w.cell? ⟨b,o+off+j,bn⟩=a_ c'/\∃c,Z[off+j]?=a_ c/\bO C M J c c':=λj hj=>by
   obtain⟨c',Y,V⟩:=zi (off+j) Z[off+j] (cy aa);exact⟨c',by rw[nM];exact Y,_,cy aa,V⟩
  have hl:=run_loadCells (P:=P) w ⟨b,o+off,bn⟩ n (λj=>(w.cell? ⟨b,o+off+j,bn⟩).getD undef) (λj hj=>by
   obtain⟨c',Y,_⟩:=ah4 j hj;rw[addr_add];simp[Y])
  refine⟨.agg ((lu n).map (λj=>(w.cell? ⟨b,o+off+j,bn⟩).getD undef)).toArray,?_,?_⟩;simp only[gx,qH hn,gA,hl,mh];refine .agg ah (λi a c ha T=>?_);have Q:i<n:=by
   have:=(cK.1 ha).1;simp at this;omega
  obtain⟨c',Y,c0,V,h3⟩:=ah4 i Q;simp only[UI,tE] at ha;rw[if_pos Q,V] at ha;cases ha;simp[Q,Y] at T;subst T;exact h3;cases D
 |false=>
  simp only[kB,if_false] at D⊢;obtain⟨c',Y,V⟩:=zi off r D;exact⟨c',aMY,V⟩
def bz(J:List br)(bN:Bool)(n:Nat):bg->Option bg
 |.fp Z off=>fh bN n Z off
 |.mp k off=>match J[k]? with
  |some (.cells Z bf)=>fh bN n Z off
  |_=>bn
 |.rp k m off=>match J[k]? with
  |some (.cells Z bh)=>if m=Z.length then fh bN n Z off else bn
  |_=>bn
 |_=>bn
def awm(dZ:kL P t=a_ bN)(hn:jK P t=a_ n)(h:cx G base w0 C M J w)(I:bO C M J x y)(D:bz J bN n x=a_ r):gO G base w0 C M J P (acE t y) w r J:=by
 unfold bz at D;split at D;rename_i Z off;cases I with
 |fp f hC hR=>
  rename_i b o;obtain⟨v,Y,V⟩:=KC dZ hn (λi c T=>⟨f i,(h.o5 _ _ _ (hC i c T)).1,hR i c T⟩) D;exact .same h (by simp[acE,Pc,Y]) V
 rename_i k off;cases I with
 |mp O hM=>
  rename_i L Z;rw[O] at D;simp only at D;obtain⟨t1,t2,t3,t4⟩:=h.cells k Z bf L O hM;obtain⟨v,Y,V⟩:=KC dZ hn (λi c T=>by
   obtain⟨c',a1,a2⟩:=t3 i c T;exact⟨c',aNE,a2⟩) D
  rw[gi] at Y;exact .same h (by simp[acE,Pc,Y]) V
 rename_i k m off;cases I with
 |rp O hM rW ha=>
  rename_i L Z a;rw[O] at D;simp only at D;split at D;rename_i hm;have ha:=ha hm;subst ha;obtain⟨t1,t2,t3,t4⟩:=h.cells k Z bh L O hM;obtain⟨v,Y,V⟩:=KC dZ hn (λi c T=>by
   obtain⟨c',a1,a2⟩:=t3 i c T;exact⟨c',aNE,a2⟩) D
  rw[gi] at Y;exact .same h (by simp[acE,Pc,Y]) V;cases D
 cases D
def Tn(h:bO C M J x y):dH C M J x.cells y.cells.toList:=by
 have uy:∀{x:bg} {y},bO C M J x y->dH C M J [x] [y]:=λh=>⟨rfl,λi a b e1 e2=>by
  cases i with
  |zero=>simp at e1 e2;subst e1;subst e2;exact h
  |succ i=>simp at e1⟩
 cases h with
 |agg hl h=>exact⟨by simp[bg.cells,BP,hl],λi a b e1 e2=>h i a b (by simpa[bg.cells] using e1) aN1⟩
 |v h=>
  have T:y.cells= #[y]:=by cases y<;>first|rfl|simp[plain] at h
  rw[T];exact uy (.v h)
 |bQ hl h=>exact uy (.bQ hl h)
 |bp=>exact uy .bp
 |sl f a b c d e g=>exact uy (.sl f a b c d e g)
 |fp f a b=>exact uy (.fp f a b)
 |fx f a b=>exact uy (.fx f a b)
 |mp a b=>exact uy (.mp a b)
 |rp a b c d=>exact uy (.rp a b c d)
 |rs a b c d e=>exact uy (.rs a b c d e)
 |gJ a b=>exact uy (.gJ a b)
 |fn a b c d=>exact uy (.fn a b c d)
 |eE a=>exact uy (.eE a)
 |gq a b=>exact uy (.gq a b)
 |jq a b=>exact uy (.jq a b)
 |iK a b=>exact uy (.iK a b)
def dH.rO(h:dH C M J Z cs')(Y:Z.all bg.one=bh):∀v∈cs',v.oneCell'=bh:=by
 intro v hv;obtain⟨i,Q,rfl⟩:=FC hv;have hl:i<Z.length:=by rw[h.1];exact Q
 exact(h.2 i Z[i] cs'[i] (cy hl) (cy Q)).one (eJ.1 Y _ (Pp hl))
def fD(J:List br)(k:Nat)(row:Bool)(Z:List bg)(n off:Nat)(x:bg):Option (List br):=
 if x.cells.length=n/\off+n<=Z.length/\x.cells.all bg.one=bh then a_ (J.set k (.cells (d_ Z off x.cells) row)) else bn
def bL(J:List br)(n:Nat)(p x:bg):Option (List br):=
 match p with
 |.mp k off=>match J[k]? with
  |some (.cells Z bf)=>fD J k bf Z n off x
  |_=>bn
 |.rp k m off=>match J[k]? with
  |some (.cells Z bh)=>if m=Z.length then fD J k bh Z n off x else bn
  |_=>bn
 |_=>bn
def aoY(hn:jK P t=a_ n)(h:cx G base w0 C M J w)(O:J[k]?=a_ (.cells Z row))(hM:M[k]?=a_ L)(I:bO C M J x x')(hs:fD J k row Z n off x=a_ bl):∃w',(aq9 t (.pointer (a_ ⟨L.b,off,bn⟩)) x').run P w=.ok () w'/\dm C M J C M bl/\cx G base w0 C M bl w':=by
 unfold fD at hs;split at hs;rename_i T;obtain⟨c1,c2,c3⟩:=T;cases hs;have D:=Tn I;obtain⟨bK,eD⟩:=h.store O hM off x.cells x'.cells.toList D aa;obtain⟨t1,t2,t3,t4⟩:=h.cells k Z row L O hM;have c7:x'.cells.toList.length=n:=by rw[<-D.1];exact c1
 refine⟨_,?_,bK,eD⟩;have e8:=run_storeCells_cells (P:=P) L.b off x'.cells.toList 0 w (λj hj=>by
  obtain⟨c',a1,_⟩:=t3 (off+j) Z[off+j] (cy aa);rw[sx,a1];rfl) (λj hj=>by rw[sx];exact t4.1 _) (D.rO c3)
 rw[sx] at e8;have dF:x'.cells.size=n:=aLU
 simp only[aq9,Pc,gx,mh,gA,storeVar,qH hn];rw[if_neg aa];exact e8;cases hs
def aGj(hn:jK P t=a_ n)(h:cx G base w0 C M J w){p:bg}{p'}(aiJ:bO C M J p p')(I:bO C M J x x')(hs:bL J n p x=a_ bl):∃w',(aq9 t p' x').run P w=.ok () w'/\dm C M J C M bl/\cx G base w0 C M bl w':=by
 unfold bL at hs;split at hs;rename_i k off;cases aiJ with
 |mp O hM=>
  rename_i L Z;rw[O] at hs;exact aoY hn h O hM I hs
 rename_i k m off;cases aiJ with
 |rp O hM rW ha=>
  rename_i L Z a;rw[O] at hs;simp only at hs;split at hs;rename_i hm;rw[ha hm];exact aoY hn h O hM I hs;cases hs
 cases hs
end
section
variable{G:Cells}{base:Nat}{w0:kY}{w:World}{C:Cells}{M:List Loc}{J:List br}{P:Program}
def lM(off:Nat):bg->Option bg
 |.fp Z o=>a_ (.fp Z (o+off))
 |.mp k o=>a_ (.mp k (o+off))
 |.rp k n o=>a_ (.rp k n (o+off))
 |_=>bn
def aoo(I:bO C M J x y)(D:lM off x=a_ r):∃a,y=.pointer (a_ a)/\bO C M J r (.pointer (a_ (a.add off))):=by
 unfold lM at D;split at D;cases D;cases I with
 |fp f hC hR=>exact⟨_,rfl,by rw[addr_add,nM];exact .fp f hC hR⟩
 cases D;cases I with
 |mp O hM=>exact⟨_,rfl,by rw[addr_add];exact .mp O hM⟩
 cases D;cases I with
 |rp O hM hn ha=>exact⟨_,rfl,.rp O hM hn λq=>by rw[ha q,addr_add]⟩
 cases D
def awf(hs:P.underlying s=a_ (.struct D1))(hf:D1[field]?=a_ f)(ho:f.offset=off)
  (hn:jK P f.type=a_ n) (pg:n≠0) (h:cx G base w0 C M J w) (I:bO C M J x y) (D:lM off x=a_ r):
  gO G base w0 C M J P (Instr.fieldAt s y field) w r J:=by
 obtain⟨a,rfl,kr⟩:=aoo I D;refine .same h ?_ kr;simp[Instr.fieldAt,run_underlying hs,hf,Pc,fieldPlace,qH hn,pg,ho]
def ct(n:Nat):bg->bg->Option bg
 |.sl xs _,.v (.int _ i)=>if 0<=i then match xs[i.toNat]? with
   |some x=>if x.cells.length=n then a_ (.fp x.cells 0) else bn
   |none=>bn
  else bn
 |.rs k m _ off len,.v (.int _ i)=>if 0<=i/\i<len then a_ (.rp k m (off+i.toNat*n)) else bn
 |_,_=>bn
def awh(ht:P.underlying t=a_ (.slice e))(hn:jK P e=a_ n)(h:cx G base w0 C M J w){i:bg}
  (I:bO C M J x y) (Q:bO C M J i j) (D:ct n x i=a_ r):gO G base w0 C M J P (Uy t y j) w r J:=by
 unfold ct at D;split at D;rename_i xs tl k i;cases Q;cases I with
 |sl f gH dF hC hR hT ir=>
  rename_i a cap sz;split at D;rename_i h0;split at D;rename_i x JT;split at D;rename_i c7;cases D;have cX:=(cK.1 JT).1;have G4:sz=n:=by rw[<-dF _ _ JT];exact c7
  subst G4;obtain⟨b,o,sp⟩:=a;have:=gH (by intro e;subst e;simp at cX);subst this;have Xr:bO C M J (.fp x.cells 0) (.pointer (a_ ⟨b,(o+i.toNat*sz)+0,bn⟩)):=
   .fp (f i.toNat) (λj c T=>hC _ _ _ _ JT T) (λj c T=>hR _ _ _ _ JT T)
  refine .same h ?_ Xr;have jV:i<(xs.length:Int):=aa
  simp[Uy,asIntOf,run_underlying ht,h0,jV,qH hn,addr_add];cases D;cases D;cases D
 rename_i k m sz off len kk i;cases Q;cases I with
 |rs O hM rW ga ha=>
  rename_i cap L Z a;split at D;rename_i h0;cases D;refine .same h (v:=.pointer (a_ (a.add (i.toNat*n)))) ?_ (.rp O hM rW λq=>by rw[(ha q).1,addr_add]);simp[Uy,asIntOf,run_underlying ht,h0,qH hn];cases D
 cases D
def nu(len n:Nat)(x:bg):bg->Option bg
 |.v (.int _ i)=>if 0<=i/\i<len then lM (i.toNat*n) x else bn
 |_=>bn
def avZ(ht:P.underlying t=a_ (.array len e))(hn:jK P e=a_ n)(h:cx G base w0 C M J w){i:bg}
  (I:bO C M J x y) (Q:bO C M J i j) (D:nu len n x i=a_ r):gO G base w0 C M J P (Uy t y j) w r J:=by
 unfold nu at D;split at D;rename_i k i;cases Q;split at D;rename_i h0;obtain⟨a,rfl,kr⟩:=aoo I D;refine .same h ?_ kr;simp[Uy,asIntOf,run_underlying ht,h0,qH hn,Pc];cases D;cases D
def vN:bg->Option bg
 |.fp Z o=>a_ (.fp Z o)
 |.fx Z _ _=>a_ (.fp Z 0)
 |.mp k o=>a_ (.mp k o)
 |.rp k n o=>a_ (.rp k n o)
 |.fn (.func f) a b=>a_ (.fn (.func f) a b)
 |_=>bn
def xx(k:IntKind)(a b:Int)(f:BitVec k.bits->BitVec k.bits->BitVec k.bits):Value:=
 .int k (k.wrap (f (Dg k.bits a) (Dg k.bits b)).toNat)
def mE(op:BinOp)(k:IntKind)(a:Int)(k':IntKind)(b:Int):Option Value:=
 match op with
 |.shl=>if b<0 then bn else a_ (.int k (k.wrap (a*2^(min b.toNat k.bits))))
 |.shr=>if b<0 then bn else a_ (.int k (a.fdiv (2^(min b.toNat k.bits))))
 |op=>if k≠k' then bn else match op with
  |.add=>a_ (.int k (k.wrap (a+b)))
  |.sub=>a_ (.int k (k.wrap (a-b)))
  |.mul=>a_ (.int k (k.wrap (a*b)))
  |.quo=>if b=0 then bn else a_ (.int k (k.wrap (a.tdiv b)))
  |.rem=>if b=0 then bn else a_ (.int k (a.tmod b))
  |.and=>a_ (xx k a b (· &&& ·))
  |.or=>a_ (xx k a b (· ||| ·))
  |.xor=>a_ (xx k a b (· ^^^ ·))
  |.andNot=>a_ (xx k a b (λx y=>x&&& ~~~y))
  |.eql=>a_ (.bool (a==b))
  |.neq=>a_ (.bool (a !=b))
  |.lss=>a_ (.bool (a<b))
  |.leq=>a_ (.bool (a<=b))
  |.gtr=>a_ (.bool (a>b))
  |.geq=>a_ (.bool (a>=b))
  |_=>bn
def KG(op:BinOp)(x y:ByteArray):Option Value:=
 match op with
 |.add=>if((x.size+y.size:Nat):Int)>cN.max then bn else a_ (.string (x++y))
 |.eql=>a_ (.bool (x.toList==y.toList))
 |.neq=>a_ (.bool !(x.toList==y.toList))
 |.lss=>a_ (.bool (acG x.toList y.toList))
 |.leq=>a_ (.bool (acG x.toList y.toList||x.toList==y.toList))
 |.gtr=>a_ (.bool !(acG x.toList y.toList||x.toList==y.toList))
 |.geq=>a_ (.bool !(acG x.toList y.toList))
 |_=>bn
def dR(op:BinOp):bg->bg->Option bg
 |.v (.int k a),.v (.int k' b)=>(mE op k a k' b).map .v
 |.v (.string a),.v (.string b)=>(KG op a b).map .v
 |_,_=>bn
def aGe{k k'}{a b:Int}{r}(h:mE op k a k' b=a_ r)(t)(w):
  (binOp op t (.int k a) (.int k' b)).run P w=.ok r w/\plain r=bh:=by
 unfold mE at h;split at h;split at h;cases h;rename_i O;cases h;exact⟨by simp[binOp,Op.shift,O],rfl⟩;split at h;cases h;rename_i O;cases h;exact⟨by simp[binOp,Op.shift,O],rfl⟩;rename_i Y V;split at h;cases h;rename_i S;have S:k=k':=by simpa using S
 subst S;cases op with
 |shl=>exact(Y rfl).elim
 |shr=>exact(V rfl).elim
 |add=>cases h;exact⟨by simp[binOp,acH],rfl⟩
 |sub=>cases h;exact⟨by simp[binOp,acH],rfl⟩
 |mul=>cases h;exact⟨by simp[binOp,acH],rfl⟩
 |quo=>
  simp only at h;split at h;cases h;rename_i O;cases h;exact⟨by simp[binOp,Op.intDiv,O],rfl⟩
 |rem=>
  simp only at h;split at h;cases h;rename_i O;cases h;exact⟨by simp[binOp,Op.intDiv,O],rfl⟩
 |and=>cases h;exact⟨aNn,rfl⟩
 |or=>cases h;exact⟨aNn,rfl⟩
 |xor=>cases h;exact⟨aNn,rfl⟩
 |andNot=>cases h;exact⟨aNn,rfl⟩
 |eql=>cases h;exact⟨aMx,rfl⟩
 |neq=>cases h;exact⟨aMx,rfl⟩
 |lss=>cases h;exact⟨aMx,rfl⟩
 |leq=>cases h;exact⟨aMx,rfl⟩
 |gtr=>cases h;exact⟨aMx,rfl⟩
 |geq=>cases h;exact⟨aMx,rfl⟩
def aGi{a b}{r}(h:KG op a b=a_ r)(t)(w):
  (binOp op t (.string a) (.string b)).run P w=.ok r w/\plain r=bh:=by
 have key:binOp op t (.string a) (.string b)=Op.stringOp op a b:=by cases op<;>simp[binOp]
 rw[key];unfold KG at h;cases op<;>simp only[Op.stringOp] at h⊢<;>first
  |(cases h;done)
  |(cases h;exact⟨rfl,rfl⟩)
  |skip
 split at h;cases h;rename_i O;cases h;rw[if_neg O];exact⟨rfl,rfl⟩
def ahq(h:cx G base w0 C M J w){y:bg}(I:bO C M J x x')(hy:bO C M J y y')
  (D:dR op x y=a_ r):gO G base w0 C M J P (do eqGuard op t gd jQ x' y';binOp op t x' y') w r J:=by
 unfold dR at D;split at D;rename_i k a k' b;cases I;cases hy;simp only[dA] at D;obtain⟨v,hv,rfl⟩:=D;obtain⟨Y,V⟩:=aGe (P:=P) hv t w;refine .same h ?_ (.v V);have hg:eqGuard op t gd jQ (.int k a) (.int k' b)=pure ():=aM5
 rw[hg];simp[Y];rename_i a b;cases I;cases hy;simp only[dA] at D;obtain⟨v,hv,rfl⟩:=D;obtain⟨Y,V⟩:=aGi (P:=P) hv t w;refine .same h ?_ (.v V);have hg:eqGuard op t gd jQ (.string a) (.string b)=pure ():=aM5
 rw[hg];simp[Y];cases D
def FY(neg:Bool):bg->bg->Option bg
 |.v (.bool a),.v (.bool b)=>a_ (.v (.bool (if neg then !(a==b) else a==b)))
 |_,_=>bn
def pX(neg:Bool):BinOp:=if neg then .neq else .eql
def ahr(ht:P.underlying t=a_ .bool)(h:cx G base w0 C M J w){y:bg}(I:bO C M J x x')(hy:bO C M J y y')
  (D:FY neg x y=a_ r):gO G base w0 C M J P (do eqGuard (pX neg) t gd jQ x' y';binOp (pX neg) t x' y') w r J:=by
 unfold FY at D;split at D;rename_i a b;cases I;cases hy;cases D;refine .same h ?_ (.v rfl);have hg:eqGuard (pX neg) t gd jQ (.bool a) (.bool b)=pure ():=aM5
 rw[hg];have:=run_equal_bool w t a b ht;cases neg<;>simp[pX,binOp,this];cases D
def N0:bg->Bool
 |.v (.pointer bn)|.v .nilFunc|.v .nilIface|.bp|.iK _ _=>bh
 |_=>bf
def xV:Operand->Bool
 |.const _=>bh
 |_=>bf
inductive Lx where
 |ptr|slc|Rb|eE
 deriving DecidableEq
def J8(P:Program)(t:TypeId):Option Lx:=
 match P.underlying t with
 |some (.pointer _)=>a_ .ptr
 |some (.slice _)=>a_ .slc
 |some (.func _ _ _)=>a_ .Rb
 |some (.interface _)=>a_ .eE
 |_=>bn
def Y9:bg->Option Lx
 |.v (.pointer bn)|.fp _ _|.mp _ _|.rp _ _ _|.iK _ _|.fx _ _ _=>a_ .ptr
 |.bp|.sl _ _|.rs _ _ _ _ _=>a_ .slc
 |.v .nilFunc|.fn _ _ _=>a_ .Rb
 |.v .nilIface|.eE _ _=>a_ .eE
 |_=>bn
end
section
variable{G:Cells}{base:Nat}{w0:kY}{w:World}{C:Cells}{M:List Loc}{J:List br}{P:Program}
def kR(K:Lx)(neg:Bool)(x y:bg):Option bg:=
 if Y9 x=a_ K/\Y9 y=a_ K/\(N0 x=bh\/N0 y=bh) then a_ (.v (.bool (neg !=(N0 x&&N0 y)))) else bn
def wA(K:Lx)(nil:Bool)(x':Value):Prop:=
 match K with
 |.ptr=>if nil then x'=.pointer bn else∃a,x'=.pointer (a_ a)
 |.slc=>if nil then x'=.slice bn 0 0 else∃a n c,x'=.slice (a_ a) n c
 |.Rb=>if nil then x'=.nilFunc else∃f a b,x'=.func f a b
 |.eE=>if nil then x'=.nilIface else∃t v,x'=.iface t v
def s8{K}(I:bO C M J x x')(kx:Y9 x=a_ K):wA K (N0 x) x':=by
 cases I with
 |v h=>
  cases x' with
  |pointer a=>cases a with
   |none=>cases kx;exact rfl
   |some a=>simp[plain] at h
  |nilFunc=>cases kx;exact rfl
  |nilIface=>cases kx;exact rfl
  |_=>first|(cases kx;done)|(simp[plain] at h;done)
 |bp=>cases kx;exact rfl
 |agg _ _=>cases kx
 |bQ _ _=>cases kx
 |sl _ _ _ _ _ _ _=>cases kx;exact⟨_,_,_,rfl⟩
 |fp _ _ _=>cases kx;exact⟨_,rfl⟩
 |fx _ _ _=>cases kx;exact⟨_,rfl⟩
 |mp _ _=>cases kx;exact⟨_,rfl⟩
 |rp _ _ _ _=>cases kx;exact⟨_,rfl⟩
 |rs _ _ _ _ _=>cases kx;exact⟨_,_,_,rfl⟩
 |gJ _ _=>cases kx
 |fn _ _ _ _=>cases kx;exact⟨_,_,_,rfl⟩
 |eE _=>cases kx;exact⟨_,_,rfl⟩
 |gq _ _=>cases kx
 |jq _ _=>cases kx
 |iK _ _=>cases kx;exact rfl
def Ty{K}(ht:J8 P t=a_ K){a b}(I:wA K a x')(hy:wA K b y')(hn:a=bh\/b=bh)(d:Nat)(w):
  (wW (d+1) t x' y').run P w=.ok (a&&b) w:=by
 unfold J8 at ht;cases hd:P.underlying t with
 |none=>rw[hd] at ht;cases ht
 |some dd=>
  rw[hd] at ht;have hu:=λw'=>run_underlying hd w';cases K<;>cases dd<;>simp only[reduceCtorEq,nj] at ht<;>cases a<;>cases b<;>
   simp only[wA,if_true,kB,if_false,or_self,or_true,true_or] at I hy hn
  all_goals first
   |(subst I;subst hy;rw[wW];simp only[gx,hu,gA];rfl)
   |(obtain⟨_,rfl⟩:=I;subst hy;rw[wW];simp only[gx,hu,gA];rfl)
   |(obtain⟨_,rfl⟩:=hy;subst I;rw[wW];simp only[gx,hu,gA];rfl)
   |(obtain⟨_,_,rfl⟩:=I;subst hy;rw[wW];simp only[gx,hu,gA];rfl)
   |(obtain⟨_,_,rfl⟩:=hy;subst I;rw[wW];simp only[gx,hu,gA];rfl)
   |(obtain⟨_,_,_,rfl⟩:=I;subst hy;rw[wW];simp only[gx,hu,gA];rfl)
   |(obtain⟨_,_,_,rfl⟩:=hy;subst I;rw[wW];simp only[gx,hu,gA];rfl)
def aeJ{K}{a b}(neg)(t)(I:wA K a x')(hy:wA K b y'):
  binOp (pX neg) t x' y'=(Op.equal t x' y'>>=λr=>pure (.bool (neg !=r))):=by
 have key:∀(x' y'),(∀k n,x'≠.int k n)->(∀s,x'≠.string s)->(∀k n,x'≠.float k n)->(∀k n m,x'≠.complex k n m)->binOp (pX neg) t x' y'=(Op.equal t x' y'>>=λr=>pure (.bool (neg !=r))):=by
  intro x' y' Y V h3 h4;cases neg<;>simp only[pX,kB,if_false,if_true]<;>unfold binOp<;>split<;>first
   |(exact(Y _ _ rfl).elim)|(exact(V _ rfl).elim)|(exact(h3 _ _ rfl).elim)|(exact(h4 _ _ _ rfl).elim)|(simp;done)|(simp_all;done)
 apply key<;>intros<;>intro e<;>subst e<;>cases K<;>cases a<;>simp[wA] at I
def au7(op)(t)(gd jQ)(Y:x'=.nilIface->y'=.nilIface->xV gd=bh\/xV jQ=bh)(V:∀Z,x'≠.agg Z):eqGuard op t gd jQ x' y'=pure ():=by
 have key:∀op:BinOp,(op=.eql\/op=.neq)->eqGuard op t gd jQ x' y'=pure ():=by
  intro op jz
  rcases jz with rfl|rfl
  all_goals
   unfold eqGuard;simp only[zU,kB,if_false];split
   rcases Y rfl rfl with h|h
   cases gd<;>simp[xV] at h;rfl;cases jQ<;>simp[xV] at h;cases gd<;>rfl;exact(V _ rfl).elim;rfl
 cases op<;>first|exact key _ (bD rfl)|exact key _ (bF rfl)|rfl
def agj{K}{a b}(op)(t)(gd jQ)(I:wA K a x')(hy:wA K b y')
  (T:K=.eE->xV gd=bh\/xV jQ=bh):eqGuard op t gd jQ x' y'=pure ():=by
 refine au7 op t gd jQ (λe _=>T ?_) (λZ e=>?_);subst e;cases K<;>cases a<;>simp[wA] at I<;>rfl;subst e;cases K<;>cases a<;>simp[wA] at I
def ahs{K}(ht:J8 P t=a_ K)(T:K=.eE->xV gd=bh\/xV jQ=bh)(h:cx G base w0 C M J w){y:bg}
  (I:bO C M J x x') (hy:bO C M J y y') (D:kR K neg x y=a_ r):gO G base w0 C M J P (do eqGuard (pX neg) t gd jQ x' y';binOp (pX neg) t x' y') w r J:=by
 unfold kR at D;split at D;rename_i S;obtain⟨k1,k2,gp⟩:=S;cases D;have s1:=s8 I k1;have s2:=s8 hy k2;refine .same h ?_ (.v rfl);rw[agj _ t gd jQ s1 s2 T,aeJ neg t s1 s2];have:=Ty ht s1 s2 gp 9999 w;simp only[gx,mh,gA,Op.equal,Op.maxDepth];rw[this];rfl;cases D
end
section
variable{G:Cells}{base:Nat}{w0:kY}{w:World}{C:Cells}{M:List Loc}{J:List br}{P:Program}
def F2(op:UnOp):bg->Option bg
 |.v (.int k n)=>match op with
  |.neg=>a_ (.v (.int k (k.wrap (0-n))))
  |.xor=>a_ (.v (xx k (if k.signed then -1 else k.max) n (· ^^^ ·)))
  |_=>bn
 |.v (.bool b)=>match op with
  |.not=>a_ (.v (.bool !b))
  |_=>bn
 |_=>bn
def awv{op}(h:cx G base w0 C M J w)(I:bO C M J x x')(D:F2 op x=a_ r):gO G base w0 C M J P (Op.unary op x') w r J:=by
 unfold F2 at D;split at D;cases I;split at D<;>cases D;exact .same h (by simp[Op.unary,acH]) (.v rfl);exact .same h (by simp[Op.unary,UB,xx]) (.v rfl);cases I;split at D<;>cases D;exact .same h (by simp[Op.unary]) (.v rfl);cases D
def IS(k:IntKind):bg->Option bg
 |.v (.int _ n)=>a_ (.v (.int k (k.wrap n)))
 |_=>bn
def awd{k}(hs:(P.underlying src).isSome=bh)(hd:P.underlying dst=a_ (.int k))(h:cx G base w0 C M J w)(I:bO C M J x x')
  (D:IS k x=a_ r):gO G base w0 C M J P (convert src dst x') w r J:=by
 unfold IS at D;split at D;cases I;cases D;obtain⟨d,GI⟩:=ac0.mp hs;exact .same h (by simp[convert,run_underlying GI,run_underlying hd,Conv.intToInt]) (.v rfl);cases D
def P9:bg->Option bg
 |.v (.string s)=>a_ (.v (.string s))
 |_=>bn
def awt(hs:(P.underlying src)=a_ .string)(hd:P.underlying dst=a_ .string)(h:cx G base w0 C M J w)(I:bO C M J x x')
  (D:P9 x=a_ r):gO G base w0 C M J P (convert src dst x') w r J:=by
 unfold P9 at D;split at D;cases I;cases D;exact .same h (by simp[convert,run_underlying hs,run_underlying hd]) (.v rfl);cases D
def LJ:bg->Option bg
 |.v (.string s)=>a_ (.v (goInt s.size))
 |.bp=>a_ (.v (goInt 0))
 |.sl xs _=>a_ (.v (goInt xs.length))
 |.rs _ _ _ _ len=>a_ (.v (goInt len))
 |_=>bn
def aht(h:cx G base w0 C M J w)(I:bO C M J x x')(S:∀s,x=.v (.string s)->P.underlying t=a_ .string)
  (iT:(∀s,x≠.v (.string s))->∃e,P.underlying t=a_ (.slice e)) (D:LJ x=a_ r):gO G base w0 C M J P (K3 #[t] ty #[x']) w r J:=by
 unfold LJ at D;split at D;cases I;cases D;exact .same h (by simp[K3,run_underlying (S _ rfl)]) (.v rfl);cases I<;>cases D;obtain⟨e,he⟩:=iT (by intro s e;cases e);exact .same h aM4 (.v rfl);cases I<;>cases D;obtain⟨e,he⟩:=iT (by intro s e;cases e);exact .same h aM4 (.v rfl);cases I<;>cases D;obtain⟨e,he⟩:=iT (by intro s e;cases e);exact .same h aM4 (.v rfl);cases D
def pU(i:Nat):bg->Option bg
 |.bQ Z=>Z[i]?
 |_=>bn
def awe{i:Nat}(h:cx G base w0 C M J w)(I:bO C M J x x')(D:pU i x=a_ r):gO G base w0 C M J P (Instr.extract x' i) w r J:=by
 unfold pU at D;split at D;cases I with
 |bQ hl hh=>
  rename_i Z cs';have Q:=(cK.1 D).1;have jV:i<cs'.size:=aa
  exact .same h (by simp[Instr.extract,jV]) (hh i r cs'[i] D (by simp[jV]))
 cases D
def LI(bN:Bool)(n off:Nat):bg->Option bg
 |.agg Z=>fh bN n Z off
 |_=>bn
def aoW(dZ:kL P t=a_ bN)(hn:jK P t=a_ n){cs'}(hl:Z.length=cs'.size)
  (hh:∀(i:Nat) a b,Z[i]?=a_ a->cs'[i]?=a_ b->bO C M J a b) (D:fh bN n Z off=a_ r) (w):∃v,(part t cs' off).run P w=.ok v w/\bO C M J r v:=by
 unfold part;simp only[gx,aa4 dZ,gA];unfold fh at D;cases bN with
 |true=>
  simp only[if_true] at D⊢;split at D;rename_i hfit;cases D;refine⟨.agg (cs'.extract off (off+n)),by simp only[gx,qH hn,gA,mh],?_⟩;refine .agg ah (λi a b ha O=>?_);have Q:i<n:=by
   have:=(cK.1 ha).1;simp at this;omega
  simp only[UI,tE] at ha;rw[if_pos Q] at ha;rw[Array.getElem?_extract] at O;rw[if_pos aa] at O;exact hh _ _ _ ha O;cases D
 |false=>
  simp only[kB,if_false] at D⊢;have Q:=(cK.1 D).1;have jV:off<cs'.size:=aa
  exact⟨cs'[off],by simp[jV],hh off r _ D (by simp[jV])⟩
def awg(hs:P.underlying s=a_ (.struct D1))(hf:D1[field]?=a_ f)(ho:f.offset=off)
  (dZ:kL P f.type=a_ bN) (hn:jK P f.type=a_ n) (h:cx G base w0 C M J w) (I:bO C M J x x') (D:LI bN n off x=a_ r):
  gO G base w0 C M J P (Instr.field s x' field) w r J:=by
 unfold LI at D;split at D;cases I with
 |agg hl hh=>
  obtain⟨v,Y,V⟩:=aoW dZ hn hl hh D w;exact .same h (by simp[Instr.field,run_underlying hs,hf,asAgg,ho,Y]) V
 cases D
def DG(bN:Bool)(n len:Nat):bg->bg->Option bg
 |.agg Z,.v (.int _ i)=>if 0<=i/\i<len then fh bN n Z (i.toNat*n) else bn
 |_,_=>bn
def awi(ht:P.underlying t=a_ (.array len e))(dZ:kL P e=a_ bN)(hn:jK P e=a_ n)(h:cx G base w0 C M J w){i:bg}
  (I:bO C M J x x') (Q:bO C M J i i') (D:DG bN n len x i=a_ r):gO G base w0 C M J P (acD t x' i') w r J:=by
 unfold DG at D;split at D;cases Q;cases I with
 |agg hl hh=>
  split at D;rename_i O;obtain⟨v,Y,V⟩:=aoW dZ hn hl hh D w;exact .same h (by simp[acD,asIntOf,run_underlying ht,O,qH hn,Y]) V;cases D
 cases D
def xq:bg->bg->Option bg
 |.v (.string s),.v (.int _ i)=>if 0<=i then(s[i.toNat]?).map λb=>.v (.int .u8 b.toNat) else bn
 |_,_=>bn
def awc(ht:P.underlying t=a_ .string)(h:cx G base w0 C M J w){i:bg}
  (I:bO C M J x x') (Q:bO C M J i i') (D:xq x i=a_ r):gO G base w0 C M J P (acD t x' i') w r J:=by
 unfold xq at D;split at D;cases Q;cases I;split at D;rename_i O;simp only[dA] at D;obtain⟨b,hb',rfl⟩:=D;exact .same h (by simp[acD,asIntOf,run_underlying ht,O,hb']) (.v rfl);cases D;cases D
end
section
variable{G:Cells}{base:Nat}{w0:kY}{w:World}{C:Cells}{M:List Loc}{J:List br}{P:Program}
def ez(zs:List bg):List bg:=zs.flatMap bg.cells
def avB:ez []=[]:=rfl
def Cc(z:bg)(r):ez (z::r)=z.cells++ez r:=by simp[ez]
def agR(a b):ez (a++b)=ez a++ez b:=by simp[ez]
def Cd:∀{zs},(∀z∈zs,z.cells.length=n)->(ez zs).length=zs.length*n
 |[],_=>by simp[ez]
 |z::r,h=>by
  rw[Cc,ek,Cd (λx I=>h x aA),h z af,eZ,pN];omega
def agT:∀{zs},(∀z∈zs,z.cells.length=n)->∀{i j:Nat} {z c:bg},zs[i]?=a_ z->z.cells[j]?=a_ c->(ez zs)[i*n+j]?=a_ c
 |[],_,i,j,z,c,hz,_=>by simp at hz
 |y::r,h,i,j,z,c,hz,T=>by
  have hy:=h y af;cases i with
  |zero=>
   simp at hz;subst hz;rw[Cc,Nat.zero_mul,gi,fY (cK.1 T).1];exact T
  |succ i=>
   simp at hz;rw[Cc,pN,FF,gh aa,hy,show i*n+n+j-n=i*n+j by omega];exact agT (λx I=>h x aA) hz T
def agU:∀{zs},(∀z∈zs,z.cells.length=n)->∀{k:Nat} {c:bg},(ez zs)[k]?=a_ c->∃i j z,k=i*n+j/\zs[i]?=a_ z/\z.cells[j]?=a_ c
 |[],_,k,c,T=>by simp[ez] at T
 |y::r,h,k,c,T=>by
  have hy:=h y af;rw[Cc] at T
  rcases er k n with S|S
  rw[fY aa] at T;exact⟨0,k,y,aa,af,T⟩;rw[gh aa,hy] at T;obtain⟨i,j,z,e,Y,V⟩:=agU (λx I=>h x aA) T;exact⟨i+1,j,z,by rw[pN];omega,aMl,V⟩
def nP(C:Cells)(M:List Loc)(J:List br)(b o:Nat)(Z:List bg):Prop:=
 ∀(j:Nat) c,Z[j]?=a_ c->∃v,C b (o+j)=a_ v/\bO C M J c v
def nP.mono(bK:dm C M J bI M' bl)(h:nP C M J b o Z):nP bI M' bl b o Z:=
 λj c T=>let⟨v,Y,V⟩:=h j c T;⟨v,bK.C _ _ _ Y,V.mono bK⟩
def nP.append{as bs}(Y:nP C M J b o as)(V:nP C M J b (o+as.length) bs):nP C M J b o (as++bs):=by
 intro j c T
 rcases er j as.length with hj|hj
 rw[fY hj] at T;exact Y j c T;rw[gh hj] at T;obtain⟨v,e1,e2⟩:=V _ c T;exact⟨v,by rw[<-e1];congr 1;omega,e2⟩
def nP.drop(h:nP C M J b o Z)(n:Nat):nP C M J b (o+n) (Z.drop n):=by
 intro j c T;rw[tE] at T;obtain⟨v,e1,e2⟩:=h _ c T;exact⟨v,by rw[<-e1];congr 1;omega,e2⟩
def nP.take(h:nP C M J b o Z)(n:Nat):nP C M J b o (Z.take n):=by
 intro j c T;rw[UI] at T;split at T;exact h j c T;cases T
def nP.vals(h:cx G base w0 C M J w)(ha:nP C M J b o Z):
  ∃vs:List Value,dH C M J Z vs/\∀(j:Nat) v,vs[j]?=a_ v->w.cell? ⟨b,o+j,bn⟩=a_ v:=by
 refine⟨(lu Z.length).map λj=>(C b (o+j)).getD undef,⟨af,λi a v e1 e2=>?_⟩,λj v e=>?_⟩;obtain⟨u,Y,V⟩:=ha i a e1;have Q:=(cK.1 e1).1;simp[Q,Y] at e2;subst e2;exact V;have hj:j<Z.length:=by
  have:=(cK.1 e).1;simpa using this
 obtain⟨u,Y,V⟩:=ha j Z[j] (cy hj);simp[hj,Y] at e;subst e;exact(h.o5 _ _ _ Y).1
def aaV{t}(hn:∀z∈zs,z.cells.length=n)(ha:nP C M J b o (ez zs))(hT:vJ M J ⟨b,o,bn⟩ zs.length cap n t)(ir:zs.length<=cap):
  bO C M J (.sl zs t) (.slice (a_ ⟨b,o,bn⟩) zs.length cap):=by
 refine .sl (λi j=>(C b (o+i*n+j)).getD undef) (λ_=>rfl) (λi x I=>hn x (cv I)) (λi x j c I T=>?_) (λi x j c I T=>?_) hT ir
 all_goals
  obtain⟨v,Y,V⟩:=ha _ c (agT hn I T);rw[<-nM] at Y
 show C b (o+i*n+j)=_;rw[Y];rfl;rw[Y];exact V
def Tm{t}(hl:len=zs.length)(hn:∀z∈zs,z.cells.length=n)(ha:nP C M J b o (ez zs))(hT:vJ M J ⟨b,o,bn⟩ len cap n t)(ir:len<=cap):
  bO C M J (.sl zs t) (.slice (a_ ⟨b,o,bn⟩) len cap):=by
 subst hl;exact aaV hn ha hT ir
def Ov{t}(h:bO C M J (.sl zs t) (.slice (a_ a) len cap))(hn:∀z∈zs,z.cells.length=n):
  len=zs.length/\nP C M J a.block a.off (ez zs)/\(zs≠[]->a.spot=bn)/\zs.length<=cap:=by
 cases h with
 |sl f gH dF hC hR hT ir=>
  rename_i sz;refine⟨rfl,λk c T=>?_,gH,ir⟩;obtain⟨i,j,z,rfl,hz,jl⟩:=agU hn T;have:sz=n:=by rw[<-dF i z hz];exact hn z (cv hz)
  subst this;exact⟨f i j,by rw[<-nM];exact hC i z j c hz jl,hR i z j c hz jl⟩
def aEl(h:cx G base w0 C M J w)(cells)(e)(D:dH C M J Z vs)(hv:∀(i:Nat) v,vs[i]?=a_ v->cells[i]?=a_ v):
  dm C M J (C.add w.heap.size 0 vs) M J/\cx G base w0 (C.add w.heap.size 0 vs) M J (w.alloc (.cells cells e))/\nP (C.add w.heap.size 0 vs) M J w.heap.size 0 Z:=by
 obtain⟨bK,hs⟩:=h.W3 cells e vs hv;refine⟨bK,hs,λj c T=>?_⟩;obtain⟨v,Y,V⟩:=D.get T;exact⟨v,by rw[Cells.FX _ _ _ _ _ (cK.1 Y).1];exact Y,V.mono bK⟩
def iq:bg->Option (List bg)
 |.bp=>a_ []
 |.sl ys _=>a_ ys
 |_=>bn
def l8(Z:List bg)(off:Nat)(us:List bg):List bg:=Z.take off++us++Z.drop (off+us.length)
def cY(n:Nat)(ys:List bg):Bool:=ys.all λy=>y.cells.length==n&&y.cells.all bg.one
def iA(J:List br)(n bW:Nat)(e:TypeId)(s:bg)(ys:List bg):Option (bg×List br):=
 match s with
 |.bp=>if ys.length*bW<=140737488355328 then a_ (.sl ys (.tok J.length),J++[.tok ys.length n e]) else bn
 |.rs k m sz off len=>if sz=n/\off=0/\(len+ys.length)*bW<=140737488355328 then
   match J[k]? with
   |some (.cells Z bh)=>if m=Z.length then a_ (.rs k (l8 Z (len*n) (ez ys)).length n 0 (len+ys.length),J.set k (.cells (l8 Z (len*n) (ez ys)) bh)) else bn
   |_=>bn
  else bn
 |.sl xs t=>if cY n xs=bh/\(xs.length+ys.length)*bW<=140737488355328 then
   match t with
   |.exact=>a_ (.sl (xs++ys) (.tok J.length),J++[.tok (xs.length+ys.length) n e])
   |.tok id=>match J[id]? with
    |some (.tok c s' e')=>if c=xs.length/\s'=n/\e'=e then a_ (.sl (xs++ys) (.tok id),J.set id (.tok (xs.length+ys.length) n e)) else bn
    |_=>bn
   |.no=>bn
  else bn
 |_=>bn
def gR(J:List br)(n bW:Nat)(e:TypeId)(s x:bg):Option (bg×List br):=
 match iq x with
 |none=>bn
 |some ys=>
  if ys=[] then(match s with|.bp|.sl _ _|.rs _ _ _ _ _=>a_ (s,J)|_=>bn)
  else if cY n ys=bh/\0<n/\0<bW then iA J n bW e s ys
  else bn
def ei(J:List br)(n bW:Nat)(e:TypeId)(s x:bg):Option (bg×List br):=
 match s with
 |.rs _ _ _ _ _=>bn
 |s=>gR J n bW e s x
def adO{s:bg}{r}(h:ei J n bW e s x=a_ r):gR J n bW e s x=a_ r:=by
 unfold ei at h;split at h;cases h;exact h
def td(h:cY n ys=bh):∀z∈ys,z.cells.length=n:=by
 intro z hz;have:=eJ.1 h z hz;simp at this;exact this.1
def aEE(h:cY n ys=bh):(ez ys).all bg.one=bh:=by
 rw[eJ];intro c T;simp only[ez,List.mem_flatMap] at T;obtain⟨z,hz,T⟩:=T;have:=eJ.1 h z hz;simp at this;exact this.2 c T
def Z9{xs}(Y:cY n xs=bh)(V:cY n ys=bh):cY n (xs++ys)=bh:=by
 unfold cY at*;rw[arq,Y,V];rfl
structure Iy(P:Program)(t e:TypeId)(n bW:Nat):Prop where
 ht:P.underlying t=a_ (.slice e)
 Q:∃i z,P.info? e=a_ i/\i.size=n/\i.bytes=bW/\i.zero=a_ z/\z.cells.size=n
def Sx(O:0<bW)(h:k*bW<=B):k<=B:=iz (Nat.le_mul_of_pos_right k O) h
def TF(z)(n:Nat):(zV z n).size=n*z.size:=by simp[zV]
def grownCap_le(w)(am8 old:Nat)(e):am8<=grownCap w am8 old e:=by unfold grownCap;simp[Question.cut]
def aF3(h:off<=Z.length):(l8 Z off us).length=max Z.length (off+us.length):=by
 unfold l8;simp only[ek,z8,z7];omega
def aF2(h:off<=Z.length)(i:Nat):(l8 Z off us)[i]?=if i<off then Z[i]? else if i<off+us.length then us[i-off]? else Z[i]? :=by
 unfold l8;have Y:(Z.take off).length=off:=ah
 by_cases c1:i<off;rw[if_pos c1,dQ,fY aa,Dn c1];rw[if_neg c1,dQ,gh aa,Y];by_cases c2:i<off+us.length;rw[if_pos c2,fY aa];rw[if_neg c2,gh aa,tE];congr 1;omega
def aHm(w)(t tx ty e)(i)(z)(ht:P.underlying t=a_ (.slice e))(Q:P.info? e=a_ i)(hz:i.zero=a_ z)(hs:Src P i.size tx x' m news w)
  (h0:0<m) (Gx:(m:Int)<=9223372036854775807) (awM:m*i.bytes<=281474976710656):
  (wV #[t,tx] ty #[.slice bn 0 0,x']).run P w=.ok (.slice (a_ ⟨w.heap.size,0,bn⟩) m (grownCap w m 0 e)) (w.drew.alloc (.cells (news.toArray++zV z.cells (grownCap w m 0 e-m)) e)):=by
 have:=run_append_grow_src w t tx ty e i z ht Q hz bn 0 0 [] (run_firstCells_none w.drew i.size 0 0 0) x' m news hs aa aa (by rw[gi,nextslicecap_zero h0];exact awM);simpa using this
def apG(w)(t tx ty e)(i)(z)(ht:P.underlying t=a_ (.slice e))(Q:P.info? e=a_ i)(hz:i.zero=a_ z)(b)(yc HY:Nat)(lf:List Value)(pe:lf.length=yc*i.size)
  (holds:∀j u,lf[j]?=a_ u->w.cell? (b.add j)=a_ u) (hs:Src P i.size tx x' m news w) (hg:HY<yc+m) (Gx:((yc+m:Nat):Int)<=9223372036854775807) (hfit:Builtin.nextslicecap (yc+m) HY*i.bytes<=281474976710656):
  (wV #[t,tx] ty #[.slice (a_ b) yc HY,x']).run P w=.ok (.slice (a_ ⟨w.heap.size,0,bn⟩) (yc+m) (grownCap w (yc+m) HY e))
    (w.drew.alloc (.cells (lf.toArray++news.toArray++zV z.cells (grownCap w (yc+m) HY e-(yc+m))) e)):=by
 have:=run_append_grow_src w t tx ty e i z ht Q hz (a_ b) yc HY lf (run_firstCells_some w.drew i.size yc b yc HY lf pe (by simpa using holds)) x' m news hs hg Gx hfit;simpa using this
def ahp{tx:TypeId}(hE:Iy P t e n bW)(h:cx G base w0 C M J w){s:bg}(hs:bO C M J s s')(s4:cY n ys=bh)(pg:0<n)(lV:0<bW)(bP:ys≠[])
  (r3:dH C M J (ez ys) news) (zi:∀i,P.info? e=a_ i->Src P i.size tx x' ys.length news w)
  (q8:e≠5\/∀v∈news,wM v=bf) (D:iA J n bW e s ys=a_ (r,bl)):gO G base w0 C M J P (wV #[t,tx] ty #[s',x']) w r bl:=by
 obtain⟨ht,i,z,Q,k9,xL,hz,Bn⟩:=hE;have zi:=zi i Q;have u7:=zi.newsLen
 have aza:0<ys.length:=aMn
 unfold iA at D;split at D;split at D;rename_i hfit;cases D;cases hs;have Ya:=Sx lV hfit;have fe:=aHm (P:=P) w t tx ty e i z ht Q hz zi aza aa (by rw[xL];omega);have hg:=grownCap_le w ys.length 0 e;have GR:news.length=ys.length*n:=by rw[u7,k9]
 have Ef:∀(i':Nat) v,news[i']?=a_ v->(news.toArray++zV z.cells (grownCap w ys.length 0 e-ys.length))[i']?=a_ v:=by
  intro i' v hv;have hl:=(cK.1 hv).1;rw[acp aJ];simpa using hv
 obtain⟨bK,eD⟩:=h.drew.SS (news.toArray++zV z.cells (grownCap w ys.length 0 e-ys.length)) e news Ef ys.length n (grownCap w ys.length 0 e*n)
  (by rw[GR];exact qh n hg) GR (by simp only[O9,TF,Bn,UN,GR,<-pN];exact qh n aa)
 refine⟨_,_,_,_,fe,bK,eD,?_⟩;refine aaV (td s4) ?_ ?_ hg;intro j c T;obtain⟨v,e1,e2⟩:=r3.get T;exact⟨v,by rw[acN,Cells.FX _ _ _ _ _ (cK.1 e1).1];exact e1,e2.mono bK⟩;refine⟨ys.length,n,e,{b:=w.heap.size,fin:=news.length,cap:=grownCap w ys.length 0 e*n},af,aK,cc _,bF rfl,λ_=>⟨rfl,rfl,?_,?_⟩⟩;simp[GR];simp;cases D;rename_i k m sz off len;split at D;rename_i Ec;obtain⟨rfl,rfl,hfit⟩:=Ec;split at D;rename_i Z O;split at D;rename_i hm;cases D;cases hs with
 |rs hb' hM rW ga ha=>
  rename_i cap L cs' sa;rw[O] at hb';cases hb';obtain⟨rfl,a2,a3,a4⟩:=ha hm;simp only[gi] at a2 a3 a4;have Ya:=Sx lV hfit;obtain⟨t1,t2,t3,abI,Fh,vp,aqp⟩:=h.cells k Z bh L O hM;have k8:=Cd (td s4);have GR:news.length=ys.length*sz:=by rw[u7,k9]
  have XC:len*sz+ys.length*sz=(len+ys.length)*sz:=(pN _ _ _).symm;have JE:(l8 Z (len*sz) (ez ys)).length=max Z.length ((len+ys.length)*sz):=by rw[aF3 a2,k8,XC]
  by_cases Cq:len+ys.length<=cap;have aKB:(len+ys.length)*sz<=cap*sz:=qh _ Cq;have fe:=run_append_room_src (P:=P) w t tx ty e i ht Q L.b 0 len cap x' ys.length news zi Cq
   (λj hj=>by rw[k9,gi];obtain⟨v,hv⟩:=vp (len*sz+j) aa;rw[hv];rfl)
   (λj hj=>abI _)
  rw[k9,gi] at fe;have aw1:M.set k L=M:=by
   apply FB;intro j;by_cases e:k=j;subst e;rw[bT (cK.1 hM).1,hM];rw[bE e]
  have bK:dm C M J C M (J.set k (.cells (l8 Z (len*sz) (ez ys)) bh)):=by
   have:=dm.ahC (C:=C) (bI:=C) (M:=M) (L':=L) (λ_ _ _ h=>h) O h.fV (by
    rw[JE]
    rcases er Z.length ((len+ys.length)*sz) with q|q
    exact bD aa;exact bF ⟨aa,hM⟩)
   rwa [aw1] at this
  have eD:=h.apU O hM (len*sz) (ez ys) news r3 bK (bF aa) (aF2 a2);refine⟨_,_,_,_,fe,bK,eD,?_⟩;refine .rs (by rw[bT (cK.1 O).1]) hM (cc _) Cq λ_=>⟨rfl,?_,?_,?_⟩;rw[JE];omega;rw[JE];omega;omega;have jF:Z.length<(len+ys.length)*sz:=by
   have:(cap+1)*sz<=(len+ys.length)*sz:=qh _ aa;rw[pN] at this;omega
  have hg:=grownCap_le w (len+ys.length) cap e;have axO:(len+ys.length)*sz<=grownCap w (len+ys.length) cap e*sz:=qh _ hg;obtain⟨lf,lY,MN⟩:∃lf:List Value,dH C M J (Z.take (len*sz)) lf/\∀(j:Nat) v,lf[j]?=a_ v->w.cell? ⟨L.b,j,bn⟩=a_ v:=by
   refine⟨(lu (len*sz)).map λj=>(w.cell? ⟨L.b,j,bn⟩).getD undef,⟨ah,λj a b ha O=>?_⟩,λj v hj=>?_⟩;have lW:j<len*sz:=by have:=(cK.1 O).1;simpa using this
   rw[Dn lW] at ha;obtain⟨c',b1,b2⟩:=t3 j a ha;simp[lW,b1] at O;subst O;exact b2;have lW:j<len*sz:=by have:=(cK.1 hj).1;simpa using this
   obtain⟨c',b1,b2⟩:=t3 j Z[j] (cy aa);simp[lW,b1] at hj;subst hj;exact b1
  have pe:lf.length=len*i.size:=by rw[<-lY.1,k9];simp;omega
  have fe:=apG (P:=P) w t tx ty e i z ht Q hz ⟨L.b,0,bn⟩ len cap lf pe (λj v hj=>by rw[addr_add,gi];exact MN j v hj) zi aa aa (growslice_fits aa (by rw[xL];exact hfit));have nD:dH C M J (l8 Z (len*sz) (ez ys)) (lf++news):=by
   have e0:l8 Z (len*sz) (ez ys)=Z.take (len*sz)++ez ys:=by
    unfold l8;rw[List.drop_eq_nil_of_le aa,gV]
   rw[e0];refine⟨by rw[ek,ek,lY.1,r3.1],λq u v hu hv=>?_⟩
   rcases er q (Z.take (len*sz)).length with S|S
   rw[fY S] at hu;rw[fY aM2] at hv;exact lY.2 q u v hu hv;rw[gh S] at hu;rw[gh aM2,<-lY.1] at hv;exact r3.2 _ u v hu hv
  obtain⟨bK,eD⟩:=h.drew.aD0 (lf.toArray++news.toArray++zV z.cells (grownCap w (len+ys.length) cap e-(len+ys.length))) e (l8 Z (len*sz) (ez ys)) (lf++news) nD
   (λi' v hv=>by
     have hl:=(cK.1 hv).1;rw[acp aJ];simpa using hv) (cap:=grownCap w (len+ys.length) cap e*sz) (by
     simp only[O9,TF,Bn,UN];rw[pe,u7,k9,<-pN,<-pN];exact qh sz aa) O (by rw[JE];omega)
  refine⟨_,_,_,_,fe,bK,eD,?_⟩;have e7:=(cK.1 O).1;refine .rs (by rw[bT e7]) (by rw[bT (by rw[h.fV];exact e7)]) (cc _) hg λ_=>⟨rfl,?_,?_,?_⟩;rw[JE];omega;rw[JE];omega;simp
 cases D;cases D;cases D;rename_i xs tl;split at D
 · rename_i Ev
   obtain⟨JJ,hfit⟩:=Ev;have Ya:=Sx lV hfit
   cases s'<;>first|(cases hs;done)|skip
   rename_i b l cp;cases b with
   |none=>cases hs
   |some sa=>
    have Cr:=hs;obtain⟨e1,jU,EA,ir⟩:=Ov hs (td JJ);subst e1;obtain⟨lf,lY,MN⟩:=jU.vals h;have pe:lf.length=xs.length*i.size:=by rw[<-lY.1,Cd (td JJ),k9]
    have axu:∀(j:Nat) v,lf[j]?=a_ v->w.cell? (sa.add j)=a_ v:=λj v hj=>by
     obtain⟨sb,bJ,aHn⟩:=sa;have ay7:xs≠[]:=by
      intro e;subst e;have:=(cK.1 hj).1;rw[pe] at this;simp at this
     have:=EA ay7;subst this;rw[addr_add];exact MN j v hj
    have nD:dH C M J (ez (xs++ys)) (lf++news):=by
     rw[agR];refine⟨by rw[ek,ek,lY.1,r3.1],λk u v hu hv=>?_⟩
     rcases er k (ez xs).length with S|S
     rw[fY S] at hu;rw[fY aM2] at hv;exact lY.2 k u v hu hv;rw[gh S] at hu;rw[gh aM2,<-lY.1] at hv;exact r3.2 _ u v hu hv
    have JA:(lf++news).length=(xs.length+ys.length)*n:=by rw[ek,pe,u7,k9,<-pN]
    have grow:=λcp GH=>
     apG (P:=P) w t tx ty e i z ht Q hz sa xs.length cp lf pe axu zi GH aa (growslice_fits GH (by rw[xL];exact hfit))
    have Ef:∀cp,∀(i':Nat) v,(lf++news)[i']?=a_ v->(lf.toArray++news.toArray++zV z.cells (grownCap w (xs.length+ys.length) cp e-(xs.length+ys.length)))[i']?=a_ v:=by
     intro cp i' v hv;have hl:=(cK.1 hv).1;rw[acp aJ];simpa using hv
    have ah7:∀cp,grownCap w (xs.length+ys.length) cp e*n<=(lf.toArray++news.toArray++zV z.cells (grownCap w (xs.length+ys.length) cp e-(xs.length+ys.length))).size:=by
     intro cp;have:=grownCap_le w (xs.length+ys.length) cp e;simp only[O9,TF,Bn,UN];rw[pe,u7,k9,<-pN,<-pN];exact qh n aa
    have ah0:∀{bI:Cells} {M':List Loc} {Cp:List br},dm C M J bI M' Cp->(∀j,j<(lf++news).length->bI w.heap.size (0+j)=(lf++news)[j]?)->nP bI M' Cp w.heap.size 0 (ez (xs++ys)):=by
     intro bI M' Cp bK T j F8 Ck;obtain⟨v,e1,e2⟩:=nD.get Ck;exact⟨v,by rw[T j (cK.1 e1).1];exact e1,e2.mono bK⟩
    have c7:(xs++ys).length=xs.length+ys.length:=ek;split at D;cases D;cases hs with
    |sl f gH dF hC hR hT Ju=>
     have GH:=hT;subst GH;have hg:=grownCap_le w (xs.length+ys.length) xs.length e;obtain⟨bK,eD⟩:=h.drew.SS _ e (lf++news) (Ef xs.length) (xs.length+ys.length) n (grownCap w (xs.length+ys.length) xs.length e*n)
      (by rw[JA];exact qh n hg) JA (ah7 xs.length)
     refine⟨_,_,_,_,grow xs.length aa,bK,eD,?_⟩;refine Tm c7.symm (td (Z9 JJ s4)) (ah0 bK (λj hj=>by rw[acN,Cells.FX _ _ _ _ _ hj])) ?_ hg;refine⟨xs.length+ys.length,n,e,{b:=w.heap.size,fin:=(lf++news).length,cap:=grownCap w (xs.length+ys.length) xs.length e*n},af,aK,cc _,bF rfl,λ_=>⟨rfl,rfl,?_,?_⟩⟩;rw[JA];simp;simp
    rename_i id;split at D;rename_i F8 s2 e2 hid;split at D;rename_i axv;obtain⟨rfl,rfl,A6⟩:=axv;rw[A6] at hid;cases D;cases hs with
    |sl f gH dF hC hR hT Ju=>
     obtain⟨n1,s1,mG,L,q1,bt,bV,fU,iN⟩:=hT;rw[hid] at q1;cases q1;obtain⟨p1,p2,p3,jA⟩:=iN rfl;obtain⟨sb,bJ,aHn⟩:=sa;have:=p1;subst this;have Nj:=p2;subst Nj;simp only at p3 jA;by_cases Cq:xs.length+ys.length<=cp;have axF:L.fin+news.length<=L.cap:=by
      rw[<-p3,<-jA,u7,k9,nM,<-pN];exact arI (qh _ Cq) bJ
     obtain⟨t1,t2,t3,t4,t5,t6⟩:=h.toks id xs.length s2 e L hid bt;have fe:=run_append_room_src (P:=P) w t tx ty e i ht Q L.b bJ xs.length cp x' ys.length news zi Cq
      (λj hj=>by rw[k9,p3];obtain⟨⟨v,hv⟩,_⟩:=t5 (L.fin+j) aa aa;rw[hv];rfl)
      (λj hj=>by rw[k9,p3];exact(t5 (L.fin+j) aa aa).2)
     rw[k9,p3] at fe;obtain⟨bK,eD⟩:=h.awG news hid bt (n':=xs.length+ys.length) aa (by rw[t3.2.1,pN,u7,k9]) q8 axF;refine⟨_,_,_,_,fe,bK,eD,?_⟩;refine Tm c7.symm (td (Z9 JJ s4)) ?_ ?_ Cq;rw[agR];refine nP.append (jU.mono bK) ?_;rw[Cd (td JJ),p3];intro j F8 Ck;obtain⟨v,e1,e2⟩:=r3.get Ck;exact⟨v,by rw[Cells.FX _ _ _ _ _ (cK.1 e1).1];exact e1,e2.mono bK⟩;have El:=(cK.1 hid).1;refine⟨xs.length+ys.length,s2,e,{L with fin:=L.fin+news.length},by rw[bT El],by rw[bT (by rw[h.fV];exact El)],cc _,bF rfl,λ_=>⟨rfl,rfl,?_,jA⟩⟩
     show bJ+(xs.length+ys.length)*s2=L.fin+news.length;rw[<-p3,u7,k9,nM,<-pN];have hg:=grownCap_le w (xs.length+ys.length) cp e;obtain⟨bK,eD⟩:=h.drew.aD1 _ e (lf++news) (Ef cp) hid (n':=xs.length+ys.length) aa
      (by rw[JA];exact qh _ hg) JA (ah7 cp)
     refine⟨_,_,_,_,grow cp aa,bK,eD,?_⟩;refine Tm c7.symm (td (Z9 JJ s4)) (ah0 bK (λj hj=>by rw[acN,Cells.FX _ _ _ _ _ hj])) ?_ hg;have El:=(cK.1 hid).1;refine⟨xs.length+ys.length,s2,e,{b:=w.heap.size,fin:=(lf++news).length,cap:=grownCap w (xs.length+ys.length) cp e*s2},by rw[bT El],by rw[acN,bT (by rw[h.fV];exact El)],cc _,bF rfl,λ_=>⟨rfl,rfl,?_,?_⟩⟩;rw[JA];simp;simp
    cases D;cases D;cases D
 cases D;cases D
def ajl:∀l:List (IntKind×Int),ez (l.map λp=>bg.v (.int p.1 p.2))=l.map λp=>bg.v (.int p.1 p.2)
 |[]=>rfl
 |c::r=>by
  have:=ajl r;simp only[ez,fc,List.flatMap_cons] at this⊢;rw[this];rfl
def Rn(hE:Iy P t e n bW)(h5:e≠5\/∃l:List (IntKind×Int),iq x=a_ (l.map λp=>.v (.int p.1 p.2)))(h:cx G base w0 C M J w){s:bg}(hs:bO C M J s s')(I:bO C M J x x')
  (D:gR J n bW e s x=a_ (r,bl)):gO G base w0 C M J P (wV #[t,t] ty #[s',x']) w r bl:=by
 obtain⟨ht,i,z,Q,k9,xL,hz,Bn⟩:=hE;unfold gR at D;split at D;cases D;rename_i ys qy;split at D;rename_i Nc;subst Nc;have JS:∃a c,x'=.slice a 0 c:=by
  unfold iq at qy;split at qy;cases I;exact⟨_,_,rfl⟩;cases qy;cases I;exact⟨_,_,rfl⟩;cases qy
 obtain⟨a,c,rfl⟩:=JS;have MW:∀w,(acv n 0 (.slice a 0 c)).run P w=.ok #[] w:=by
  intro w;cases a with
  |none=>simp[acv]
  |some a=>simp[acv,loadCells,loadCellsFrom]
 have key:∀b m cp,m<=cp->(wV #[t,t] ty #[.slice b m cp,.slice a 0 c]).run P w=.ok (.slice b m cp) w:=by
  intro b m cp hm;cases b with
  |none=>simp[wV,run_underlying ht,sizeOf,typeInfo,Q,k9,acw,hm,MW]
  |some b=>simp[wV,run_underlying ht,sizeOf,typeInfo,Q,k9,acw,hm,MW,storeCells]
 split at D;cases D;cases hs;exact .same h (key _ _ _ (cc _)) .bp;cases D;have Cr:=hs;cases hs with
 |sl f gH dF hC hR hT ir=>exact .same h (key _ _ _ ir) Cr
 cases D;have Cr:=hs;cases hs with
 |rs O hM hn ga ha=>exact .same h (key _ _ _ ga) Cr
 cases D;rename_i bP;split at D;rename_i fN;obtain⟨s4,pg,lV⟩:=fN;obtain⟨a,c,pn,MH,axj⟩:∃(a:Addr) (c:Nat),x'=.slice (a_ a) ys.length c/\nP C M J a.block a.off (ez ys)/\a.spot=bn:=by
  unfold iq at qy;split at qy;cases qy;exact(bP rfl).elim
  · cases qy
    cases x'<;>first|(cases I;done)|skip
    rename_i b l cp;cases b with
    |none=>cases I
    |some a=>
     obtain⟨e1,e2,di,eW⟩:=Ov I (td s4);exact⟨a,cp,by rw[e1],e2,di bP⟩
  cases qy
 subst pn;obtain⟨ab,ao,B6⟩:=a;have:=axj;subst this;obtain⟨news,r3,A4⟩:=MH.vals h;have u7:news.length=ys.length*i.size:=by rw[<-r3.1,Cd (td s4),k9]
 have awL:=r3.rO (aEE s4);have axt:∀(j:Nat) v,news[j]?=a_ v->w.cell? ((⟨ab,ao,bn⟩:Addr).add j)=a_ v:=λj v hj=>by rw[addr_add];exact A4 j v hj
 have jV:=Q;exact ahp ⟨ht,i,z,Q,k9,xL,hz,Bn⟩ h hs s4 pg lV bP r3 (λi' aik=>by rw[Q] at aik;cases aik;exact Src.ofSlice w ht ⟨ab,ao,bn⟩ ys.length c news u7 axt awL) (h5.imp (λz=>z) λ⟨l,q⟩ v hv=>by
  rw[qy] at q;cases q;rw[ajl] at r3;obtain⟨j,hj,rfl⟩:=FC hv;have ud:j<l.length:=by have:=r3.1;rw[List.length_map] at this;omega
  have:=r3.2 j _ _ (List.getElem?_eq_getElem (by rw[List.length_map];exact ud)) (List.getElem?_eq_getElem hj);rw[List.getElem_map] at this;generalize news[j]=u at this⊢;cases this;rfl) D
 cases D
def YL:bg->Bool
 |.v (.int _ _)=>bh
 |_=>bf
def FW(J:List br)(bW:Nat)(e:TypeId)(s x:bg):Option (bg×List br):=
 match x with
 |.sl ys _=>if ys.all YL=bh then ei J 1 bW e s x else bn
 |_=>bn
def ajm:∀{ys:List bg},ys.all YL=bh->∃l:List (IntKind×Int),ys=l.map λp=>.v (.int p.1 p.2)
 |[],_=>⟨[],rfl⟩
 |y::r,h=>by
  rw[pK,fQ] at h;obtain⟨l,rfl⟩:=ajm h.2;have Y:=h.1;unfold YL at Y;split at Y;exact⟨(_,_)::l,rfl⟩;cases Y
def av2(hE:Iy P t e 1 bW)(h:cx G base w0 C M J w){s:bg}(hs:bO C M J s s')(I:bO C M J x x')
  (D:FW J bW e s x=a_ (r,bl)):gO G base w0 C M J P (wV #[t,t] ty #[s',x']) w r bl:=by
 unfold FW at D;split at D;split at D;rename_i q;obtain⟨l,rfl⟩:=ajm q;exact Rn hE (.inr ⟨l,rfl⟩) h hs I (adO D);cases D;cases D
def F7(b:ByteArray):List bg:=b.data.toList.map λc=>.v (.int .u8 c.toNat)
def ae1(b):(F7 b).length=b.size:=by
 unfold F7;rw[cS,aqZ];rfl
def ae0:∀l:List UInt8,ez (l.map λc=>bg.v (.int .u8 c.toNat))=l.map λc=>bg.v (.int .u8 c.toNat)
 |[]=>rfl
 |c::r=>by
  have:=ae0 r;simp only[ez,fc,List.flatMap_cons] at this⊢;rw[this];rfl
def B2(J:List br)(bW:Nat)(e:TypeId)(s x:bg):Option (bg×List br):=
 match x with
 |.v (.string b)=>if b.size=0 then(match s with|.bp|.sl _ _=>a_ (s,J)|_=>bn)
  else match s with
   |.bp|.sl _ _=>if 0<bW then iA J 1 bW e s (F7 b) else bn
   |_=>bn
 |_=>bn
def av4{u}(hE:Iy P t e 1 bW)(hu:P.underlying u=a_ .string)(h:cx G base w0 C M J w){s:bg}(hs:bO C M J s s')(I:bO C M J x x')
  (D:B2 J bW e s x=a_ (r,bl)):gO G base w0 C M J P (wV #[t,u] ty #[s',x']) w r bl:=by
 have o6:=hE;obtain⟨ht,i,z,Q,k9,xL,hz,Bn⟩:=hE;unfold B2 at D;split at D;rename_i b;cases I;split at D;rename_i h0;have MW:∀w,(acv 1 0 (.string b)).run P w=.ok #[] w:=by
  intro w;have:=firstCells_string (P:=P) b w;have O:=oc (by rw[byteCells_length,h0])
  rwa [h0,O] at this
 have key:∀b' m cp,m<=cp->(wV #[t,u] ty #[.slice b' m cp,.string b]).run P w=.ok (.slice b' m cp) w:=by
  intro b' m cp hm;cases b' with
  |none=>simp[wV,run_underlying ht,run_underlying hu,sizeOf,typeInfo,Q,k9,acw,h0,hm,MW]
  |some b'=>simp[wV,run_underlying ht,run_underlying hu,sizeOf,typeInfo,Q,k9,acw,h0,hm,MW,storeCells]
 split at D;cases D;cases hs;exact .same h (key _ _ _ (cc _)) .bp;cases D;have Cr:=hs;cases hs with
 |sl f gH dF hC hR hT ir=>exact .same h (key _ _ _ ir) Cr
 cases D;rename_i h0;have fin:∀{r:bg},0<bW->iA J 1 bW e s (F7 b)=a_ (r,bl)->gO G base w0 C M J P (wV #[t,u] ty #[s',.string b]) w r bl:=by
  intro r lV D;refine ahp o6 h hs (news:=arp b) ?_ ag lV ?_ ?_ (λi' jV=>?_) (.inr λv hv=>by
   obtain⟨c,_,rfl⟩:=dV.1 hv;rfl) D
  unfold cY;rw[eJ];intro x I;unfold F7 at I;obtain⟨c,_,rfl⟩:=dV.1 I;rfl;intro q;have:=ae1 b;rw[q] at this;exact h0 this.symm;unfold F7;rw[ae0];refine⟨by simp[arp],λi x y I hy=>?_⟩;simp only[arp,e9] at I hy;cases hq:b.data.toList[i]? with
  |none=>rw[hq] at I;cases I
  |some c=>
   rw[hq] at I hy;cases I;cases hy;exact .v rfl
  rw[Q] at jV;cases jV;rw[k9,ae1];exact Src.ofString w hu b
 split at D;split at D;rename_i q;exact fin q D;cases D;split at D;rename_i q;exact fin q D;cases D;cases D;cases D
end
section
variable{G:Cells}{base:Nat}{w0:kY}{w:World}{C:Cells}{M:List Loc}{J:List br}{P:Program}
def ki(top auN:Nat):Option Int->Option Nat
 |some v=>if 0<=v/\v<=top then a_ v.toNat else bn
 |none=>a_ auN
def oG:Option bg->Option (Option Int)
 |none=>a_ bn
 |some (.v (.int _ i))=>a_ (a_ i)
 |_=>bn
def lO(len cap:Nat)(lo Q mx:Option Int):Option (Nat×Nat×Nat):=
 match ki cap cap mx with
 |none=>bn
 |some m=>if mx.isSome&&Q.isNone then bn else
  match ki m len Q with
  |none=>bn
  |some h=>match ki h 0 lo with
   |none=>bn
   |some l=>a_ (l,h,m)
def DA(C:Cells)(M:List Loc)(J:List br):Option bg->Option Value->Prop
 |none,bn=>True
 |some a,a_ b=>bO C M J a b
 |_,_=>False
def N6{a}{b}(h:DA C M J a b)(Q:oG a=a_ i):(b=bn/\i=bn)\/∃k n,b=a_ (.int k n)/\i=a_ n:=by
 unfold oG at Q;split at Q;cases Q;cases b with
 |none=>exact bD ⟨rfl,rfl⟩
 |some b=>exact h.elim
 cases Q;cases b with
 |none=>exact h.elim
 |some b=>cases h;exact bF ⟨_,_,rfl,rfl⟩
 cases Q
def C1{k}{n:Int}{r:Nat}(code)(h:ki top d (a_ n)=a_ r)(w):(Instr.sliceBound (.int k n) top code).run P w=.ok r w:=by
 unfold ki at h;simp only at h;split at h;rename_i O;cases h;exact run_sliceBound w k n top code O.1 O.2;cases h
def V1{r:Nat}(hd:d<=top)(h:ki top d i=a_ r):r<=top:=by
 unfold ki at h;split at h;split at h;cases h;omega;cases h;cases h;exact hd
def Tx{isSlice:Bool}{I3:Nat}{lo Q mx}{zo jV vb}{l h:Nat}(pe:(lo=bn/\zo=bn)\/∃k n,lo=a_ (.int k n)/\zo=a_ n)
  (zb:(Q=bn/\jV=bn)\/∃k n,Q=a_ (.int k n)/\jV=a_ n) (Et:(mx=bn/\vb=bn)\/∃k n,mx=a_ (.int k n)/\vb=a_ n) (ga:len<=cap) (Ck:cap<=I3)
  (O:lO len cap zo jV vb=a_ (l,h,m)) (w:World):
  (aq8 isSlice len I3 lo Q mx).run P w=.ok (l,h,if vb.isSome then m else I3) w/\l<=h/\h<=m/\m<=cap/\(vb=bn->m=cap):=by
 unfold lO at O;split at O;cases O;rename_i aLl hm;split at O;cases O;rename_i h_;split at O;cases O;rename_i aK7 hh;split at O;cases O;rename_i aLg hl;cases O;have V0:∀{top abO d r:Nat} {n:Int},top<=abO->ki top d (a_ n)=a_ r->ki abO d (a_ n)=a_ r:=by
  intro top abO d r n ht hq;unfold ki at hq⊢;simp only at hq⊢;split at hq;rename_i q;rw[if_pos ⟨q.1,aa⟩];exact hq;cases hq
 have aiw:=V1 (gW _) hl
 rcases Et with⟨rfl,rfl⟩|⟨km,nm,rfl,rfl⟩
 have p6:m=cap:=by cases hm;rfl
 subst p6;have X0:=V1 ga hh;refine⟨?_,aiw,X0,cc _,λ_=>rfl⟩;unfold aq8
 rcases zb with⟨rfl,rfl⟩|⟨kh,ZV,rfl,rfl⟩<;>rcases pe with⟨rfl,rfl⟩|⟨kl,nl,rfl,rfl⟩
 cases hh;cases hl;simp;cases hh;simp[C1 (P:=P) _ hl];cases hl;simp[C1 (P:=P) _ (V0 Ck hh)];simp[C1 (P:=P) _ (V0 Ck hh),C1 (P:=P) _ hl]
 rcases zb with⟨rfl,rfl⟩|⟨kh,ZV,rfl,rfl⟩
 simp at h_;have X0:h<=m:=by
  unfold ki at hh;simp only at hh;split at hh;cases hh;omega;cases hh
 refine⟨?_,aiw,X0,V1 (cc _) hm,λq=>av⟩;unfold aq8;have Bg:=V0 (d:=cap) (r:=m) Ck (by unfold ki at hm⊢;exact hm);have aiz:ki I3 I3 (a_ nm)=a_ m:=by unfold ki at Bg⊢;exact Bg
 rcases pe with⟨rfl,rfl⟩|⟨kl,nl,rfl,rfl⟩
 cases hl;simp[C1 (P:=P) _ aiz,C1 (P:=P) _ hh];simp[C1 (P:=P) _ aiz,C1 (P:=P) _ hh,C1 (P:=P) _ hl]
def C5(t:nR)(len l h m:Nat)(mx:Bool):nR:=
 if mx then(if m=h then .exact else .no)
 else if h=len then(if l=0 then t else match t with|.exact=>.exact|_=>.no) else .no
def mq(n:Nat)(x:bg)(lo Q mx:Option bg):Option bg:=
 match oG lo,oG Q,oG mx with
 |some l',a_ h',a_ m'=>match x with
  |.bp=>match lO 0 0 l' h' m' with
   |some _=>a_ .bp
   |none=>bn
  |.sl xs t=>match lO xs.length xs.length l' h' m' with
   |some (l,h,m)=>if xs.all (λx=>x.cells.length==n) then a_ (.sl ((xs.take h).drop l) (C5 t xs.length l h m m'.isSome)) else bn
   |none=>bn
  |.rs k m sz off len=>if sz=n/\m'.isNone then match lO len len l' h' bn with
   |some (l,h,_)=>if l=0 then a_ (.rs k m n off h) else if l<len then a_ (.rs k m n (off+l*n) (h-l)) else a_ (.sl [] .no)
   |none=>bn
   else bn
  |.v (.string s)=>if mx.isSome then bn else match lO s.size s.size l' h' bn with
   |some (l,h,_)=>a_ (.v (.string (s.extract l h)))
   |none=>bn
  |_=>bn
 |_,_,_=>bn
def agV:∀{zs},(∀z∈zs,z.cells.length=n)->∀k,ez (zs.take k)=(ez zs).take (k*n)
 |[],_,k=>by simp[ez]
 |z::r,h,k=>by
  cases k with
  |zero=>simp[ez]
  |succ k=>
   rw[rJ,Cc,Cc,agV (λx I=>h x aA),pN,FF,List.take_append,h z af,show k*n+n-n=k*n by omega,
    oe (l:=z.cells) (by rw[h z af];omega)]
def agS:∀{zs},(∀z∈zs,z.cells.length=n)->∀k,ez (zs.drop k)=(ez zs).drop (k*n)
 |[],_,k=>by simp[ez]
 |z::r,h,k=>by
  cases k with
  |zero=>simp
  |succ k=>
   rw[wX,Cc,agS (λx I=>h x aA),pN,FF,List.drop_append,h z af,show k*n+n-n=k*n by omega,
    tD (l:=z.cells) (by rw[h z af];omega),gM]
def av5(ht:P.underlying t=a_ (.slice e))(hn:jK P e=a_ n)(h:cx G base w0 C M J w)(I:bO C M J x x')
  (pe:DA C M J lo zo) (zb:DA C M J Q jV) (Et:DA C M J mx vb) (zg:∀s,x≠.v (.string s)) (D:mq n x lo Q mx=a_ r):gO G base w0 C M J P (Il t x' zo jV vb) w r J:=by
 unfold mq at D;split at D;rename_i l₁ azh SO el eh em;have cH:=N6 pe el;have ch:=N6 zb eh;have vQ:=N6 Et em;split at D;split at D;rename_i q hq;obtain⟨l,hh,m⟩:=q;cases D;cases I;obtain⟨fe,c1,c2,c3,c4⟩:=Tx (P:=P) (isSlice:=bh) cH ch vQ (cc 0) (cc 0) hq w;have hm:m=0:=aa
 have hl:l=0:=aa
 have MY:hh=0:=aa
 subst hm;subst hl;subst MY;refine .same h ?_ .bp;simp[Il,Pb,run_underlying ht,fe,qH hn];cases D;rename_i xs tl;split at D;rename_i l hh m hq;split at D
 · rename_i lC
   cases D;have MG:∀z∈xs,z.cells.length=n:=by
    intro z hz;have:=eJ.1 lC z hz;simpa using this
   cases x'<;>first|(cases I;done)|skip
   rename_i b len cap;cases b with
   |none=>cases I
   |some a=>
    obtain⟨e1,jU,EA,ir⟩:=Ov I MG;subst e1;obtain⟨fe,c1,c2,c3,c4⟩:=Tx (P:=P) (isSlice:=bh) cH ch vQ (cc _) ir hq w;refine⟨C,M,_,w,aMZ,dm.refl _ _ _,h,?_⟩;have c7:((xs.take hh).drop l).length=hh-l:=ah
    generalize hM:(if SO.isSome=bh then m else cap)=m';have Bg:hh<=m':=by rw[<-hM];split<;>omega
    by_cases n3:m'=l;rw[if_pos n3];have XZ:hh=l:=aa
    subst XZ;have he:(xs.take hh).drop hh=[]:=by apply oc;omega
    rw[he,n3,ni];refine .sl (xs:=[]) (sz:=n) (λ_ _=>undef) (λq=>(q rfl).elim) (λi x I=>aF) (λi x j c I=>aF) (λi x j c I=>aF) ?_ (cc _);unfold C5;split;split<;>simp[vJ];rename_i JD;simp only[JD,kB,if_false] at hM;split;rename_i aij;split;rename_i wj;have JS:xs=[]:=by apply oc;omega
    subst JS;cases I with
    |sl f gH dF hC hR hT Ju=>
     cases tl with
     |exact=>simp[vJ]
     |no=>simp[vJ]
     |tok id=>
      obtain⟨n1,s1,mG,L,q1,bt,bV,fU,iN⟩:=hT;refine⟨n1,s1,mG,L,q1,bt,bV,bD rfl,λq=>?_⟩;obtain⟨p1,p2,p3,jA⟩:=iN q;refine⟨p1,p2,p3,?_⟩;have:cap=0:=aa
      rw[this] at jA;simpa using jA
    split<;>simp[vJ];simp[vJ];rw[if_neg n3];have aKQ:l<m':=aa
    obtain⟨ab,ao,B6⟩:=a;have gH:B6=bn\/(xs=[]\/True):=bF (bF trivial);by_cases EF:xs=[];subst EF;have wj:l=0:=by simp at c3 c2;omega
    have MY:hh=0:=by simp at c3;omega
    subst wj;subst MY;have XC:(⟨ab,ao,B6⟩:Addr).add (0*n)=⟨ab,ao,B6⟩:=by simp[Addr.add]
    rw[XC];simp only[List.take_nil,List.drop_nil,FG];refine .sl (xs:=[]) (sz:=n) (λ_ _=>undef) (λq=>(q rfl).elim) (λi x I=>aF) (λi x j c I=>aF) (λi x j c I=>aF) ?_ (gW _);unfold C5;split;rename_i Yg;simp only[Yg,if_true] at hM;have:m=0:=by simp at c3;omega
    omega;rename_i JD;simp only[JD,kB,if_false] at hM;subst hM;simp only[iG,if_true];cases I with
    |sl f gH dF hC hR hT Ju=>
     cases tl with
     |exact=>exact hT
     |no=>trivial
     |tok id=>
      obtain⟨n1,s1,mG,L,q1,bt,bV,fU,iN⟩:=hT;exact⟨n1,s1,mG,L,q1,bt,bV,bD rfl,iN⟩
    have ayO:=EA EF;subst ayO;rw[addr_add];refine Tm c7.symm (λz hz=>MG z (FE (vz hz))) ?_ ?_ aa;rw[agS (n:=n) (λz hz=>MG z (FE hz)),agV MG];exact(jU.take _).drop _;unfold C5;split;rename_i Yg;simp only[Yg,if_true] at hM;split;simp only[vJ];omega;trivial;rename_i JD;simp only[JD,kB,if_false] at hM;subst hM;split;rename_i aij;split;rename_i wj;subst wj;subst aij;cases I with
    |sl f gH dF hC hR hT Ju=>
     rename_i sz;have:sz=n:=by
      cases xs with
      |nil=>exact(EF rfl).elim
      |cons z r=>rw[<-dF 0 z rfl];exact MG z af
     subst this;simpa using hT
    cases tl with
    |exact=>
     cases I with
     |sl f gH dF hC hR hT Ju=>
      have aw8:cap=xs.length:=hT;simp only[vJ];omega
    |no=>trivial
    |tok id=>trivial
    trivial
 cases D;cases D;rename_i k m sz off len;split at D;rename_i ga;obtain⟨rfl,Co⟩:=ga;have p6:SO=bn:=by cases SO<;>simp at Co⊢
 subst p6;split at D;rename_i l hh um hq;cases I with
 |rs O hM rW ga ha=>
  rename_i cap L Z a;obtain⟨fe,c1,c2,c3,c4⟩:=Tx (P:=P) (isSlice:=bh) cH ch vQ (cc _) ga hq w;simp only[BW,kB,if_false] at fe;split at D;rename_i wj;cases D;subst wj;have hR:bO C M J (.rs k m sz off hh) (.slice (a_ a) hh cap):=.rs O hM rW aa λq=>by
   obtain⟨a1,a2,a3,a4⟩:=ha q;refine⟨a1,iz (arI (qh _ aa) _) a2,a3,a4⟩
  refine .same h ?_ hR;simp only[Il,Pb,gx,mh,run_underlying ht,fe,qH hn,gA];simp[Addr.add];split at D;rename_i wj oz;cases D;have hR:bO C M J (.rs k m sz (off+l*sz) (hh-l)) (.slice (a_ (a.add (l*sz))) (hh-l) (cap-l)):=.rs O hM rW aa λq=>by
   obtain⟨a1,a2,a3,a4⟩:=ha q;have e1:off+l*sz+(hh-l)*sz=off+hh*sz:=by rw[nM,<-pN];congr 2;omega
   have e2:off+l*sz+(cap-l)*sz=off+cap*sz:=by rw[nM,<-pN];congr 2;omega
   refine⟨by rw[a1,addr_add],?_,by rw[e2];exact a3,by rw[e2];exact a4⟩;rw[e1];exact iz (arI (qh _ aa) _) a2
  refine .same h ?_ hR;have jF:cap≠l:=aa
  simp[Il,Pb,run_underlying ht,fe,qH hn,jF]
  · cases D
    have XZ:hh=l:=aa
    subst XZ;refine⟨C,M,_,w,aMZ,dm.refl _ _ _,h,?_⟩;split
    all_goals exact .sl (xs:=[]) (sz:=sz) (λ_ _=>undef) (λq=>(q rfl).elim) (λi x I=>aF) (λi x j c I=>aF) (λi x j c I=>aF) trivial (gW _)
 cases D;cases D;rename_i s;exact(zg s rfl).elim;cases D;cases D
def av6(ht:P.underlying t=a_ .string)(h:cx G base w0 C M J w)(I:bO C M J x x')
  (pe:DA C M J lo zo) (zb:DA C M J Q jV) (Et:DA C M J mx vb) (hs:∃s,x=.v (.string s)) (D:mq n x lo Q mx=a_ r):gO G base w0 C M J P (Il t x' zo jV vb) w r J:=by
 obtain⟨s,rfl⟩:=hs;cases I;unfold mq at D;split at D;rename_i l₁ azh SO el eh em;simp only at D;split at D;cases D;rename_i Co;have ayl:mx=bn:=by cases mx<;>simp at Co⊢
 subst ayl
 have lE:vb=bn:=by cases vb with|none=>rfl|some b=>exact Et.elim
 subst lE;split at D;rename_i l hh m hq;cases D;obtain⟨fe,c1,c2,c3,c4⟩:=Tx (P:=P) (isSlice:=bf) (N6 pe el) (N6 zb eh) (bD ⟨rfl,rfl⟩) (cc _) (cc _) hq w;exact .same h (by simp[Il,Pb,run_underlying ht,fe]) (.v rfl);cases D;cases D
end
end
end Go.bM

/- Part 1 of a proof. No condition. -/
import Derived.Below
import Derived.Calls
import Derived.Tactics
import Derived.Laws.Append
import Derived.ArgAppend
import Derived.Deep.AppendSrc
import Derived.Laws.StructEq
import Derived.Laws.Slices
import Derived.Laws.BytesString
import Derived.Lib.UnsafeStr
set_option linter.unusedVariables false
set_option linter.unusedSimpArgs false
set_option linter.defProp false
namespace Go
def aa{p:Prop}(h:p:=by omega):p:=h
def af{p:Prop}(h:p:=by simp):p:=h
def ag{p:Prop}(h:p:=by decide):p:=h
def ah{p:Prop}(h:p:=by simp;omega):p:=h
def ai{p:Prop}(h:p:=by kernel_rfl):p:=h
def aj{p:Prop}(h:p:=by rw[e6 (by omega) (by omega)];omega):p:=h
def ak{p:Prop}(h:p:=by repeat' first|kernel_rfl|(intros;kernel_rfl)|constructor):p:=h
def an{p:Prop}(h:p:=by simpa using q):p:=h
def aq{p:Prop}(h:p:=by rw[e6 (by omega) (by omega)];rfl):p:=h
def au{p:Prop}(h:p:=by simp at q;omega):p:=h
def av{p:Prop}(h:p:=by simp at h):p:=h
def ax{p:Prop}(h:p:=by cases q):p:=h
def ay{p:Prop}(h:p:=by rw[bC (by intro q;subst q;rw[S] at O;cases O)];exact O):p:=h
def az{p:Prop}(h:p:=by rcases hA with⟨rfl,_⟩|⟨_,rfl,_⟩<;>rfl):p:=h
def aA{p:Prop}(h:p:=by simp[I]):p:=h
def aB{p:Prop}(h:p:=by rw[uC _ _ _ (by exact V)];exact a1):p:=h
def aC{p:Prop}(h:p:=by cases e):p:=h
def aD{p:Prop}(h:p:=by simpa using V):p:=h
def aE{p:Prop}(h:p:=by show(0:Int)<=(a);omega):p:=h
def aF{p:Prop}(h:p:=by cases h):p:=h
def aG{p:Prop}(h:p:=by simp at I):p:=h
def aH{p:Prop}(h:p:=by simpa using O):p:=h
def aI{p:Prop}(h:p:=by simpa using hl):p:=h
def aJ{p:Prop}(h:p:=by rw[<-h.fo];simp):p:=h
def aK{p:Prop}(h:p:=by simp[mN] at h):p:=h
def aL{p:Prop}(h:p:=by intro q;subst q;rw[S] at O;cases O):p:=h
def aM{p:Prop}(h:p:=by simp only[er]):p:=h
def aN{p:Prop}(h:p:=by simpa using z):p:=h
def aO{p:Prop}(h:p:=by rw[Iw _ _ _ (by show L.b≠_;omega)];exact q1 i):p:=h
def aP{p:Prop}(h:p:=by cases h;exact⟨rfl,λi a b h=>by simp at h⟩):p:=h
def aQ{p:Prop}(h:p:=by rw[Iw _ _ _ (by show L.b≠_;omega)];exact a2):p:=h
def aR{p:Prop}(h:p:=by simpa using Q):p:=h
def aS{p:Prop}(h:p:=by simp only[bz,h.b];rfl):p:=h
def aT{p:Prop}(h:p:=by simp[hy]):p:=h
def aU{p:Prop}(h:p:=by unfold UF;simp only[gy,run_underlying hd,gI];cases d<;>first|(exact(R2 _ rfl).elim)|simp):p:=h
def aV{p:Prop}(h:p:=by rw[uC _ _ _ (by exact V)];exact bV.1 o ho):p:=h
def aW{p:Prop}(h:p:=by simpa using h):p:=h
def aX{p:Prop}(h:p:=by simp only[bL,O];rfl):p:=h
def aY{p:Prop}(h:p:=by dsimp only;omega):p:=h
def aZ{p:Prop}(h:p:=by simpa using bt):p:=h
def aLq{p:Prop}(h:p:=by show L.b≠_;omega):p:=h
def aLr{p:Prop}(h:p:=by simp[fy] at h):p:=h
def aLs{p:Prop}(h:p:=by simp[hq]):p:=h
def aLt{p:Prop}(h:p:=by simp[dM,mK]):p:=h
def aLu{p:Prop}(h:p:=by simpa using cW):p:=h
def aLv{p:Prop}(h:p:=by rcases q with rfl|⟨rfl,_⟩<;>rfl):p:=h
def aLw{p:Prop}(h:p:=by unfold oO at fM⊢;rw[gz];exact fM):p:=h
def aLx{p:Prop}(h:p:=by rw[gz];exact fM):p:=h
def aLy{p:Prop}(h:p:=by rw[s.len];omega):p:=h
def aLz{p:Prop}(h:p:=by rw[yN];rfl):p:=h
def aLA{p:Prop}(h:p:=by rw[lR q];exact hM):p:=h
def aLB{p:Prop}(h:p:=by rw[ln J,jj]):p:=h
def aLC{p:Prop}(h:p:=by grind):p:=h
def aLD{p:Prop}(h:p:=by decide +kernel):p:=h
def aLE{p:Prop}(h:p:=by rw[lR q];exact O):p:=h
def aLF{p:Prop}(h:p:=by simp[e1]):p:=h
def aLG{p:Prop}(h:p:=by intro e;rw[e] at b7;simp at b7):p:=h
def aLH{p:Prop}(h:p:=by apply uA;simp):p:=h
def aLI{p:Prop}(h:p:=by cases i with|zero=>cases q1;cases bt;exact I|succ i=>cases q1):p:=h
def aLJ{p:Prop}(h:p:=by show(1:Int)<=5;decide):p:=h
def aLK{p:Prop}(h:p:=by unfold rQ;rw[dX];exact⟨e,by rw[nA];exact⟨he,O⟩,rfl⟩):p:=h
def aLL{p:Prop}(h:p:=by rw[dP.1 hy];exact⟨oL,qd⟩):p:=h
def aLM{p:Prop}(h:p:=by simp[dN]):p:=h
def aLN{p:Prop}(h:p:=by exact V):p:=h
def aLO{p:Prop}(h:p:=by rw[bC e];exact hj):p:=h
def aLP{p:Prop}(h:p:=by rcases h.v with rfl|⟨rfl,_⟩<;>rfl):p:=h
def aLQ{p:Prop}(h:p:=by cases I):p:=h
def aLR{p:Prop}(h:p:=by simpa using he):p:=h
def aLS{p:Prop}(h:p:=by simpa using hn):p:=h
def aLT{p:Prop}(h:p:=by rw[bT hl];simp):p:=h
def aLU{p:Prop}(h:p:=by rw[wC];exact Nat.mod_lt _ (by omega)):p:=h
def aLV{p:Prop}(h:p:=by rw[bC (by omega)];exact h0):p:=h
def aLW{p:Prop}(h:p:=by simp only[O8,TP,Br,UR,JC,<-qo];exact pW n (by omega)):p:=h
def aLX{p:Prop}(h:p:=by rw[bC (by omega)];exact q):p:=h
def aLY{p:Prop}(h:p:=by cases ys with|nil=>exact(bR rfl).elim|cons _ _=>simp):p:=h
def aLZ{p:Prop}(h:p:=by simp[hw]):p:=h
def aL0{p:Prop}(h:p:=by simp only[kA];omega):p:=h
def aL1{p:Prop}(h:p:=by cases neg<;>rfl):p:=h
def aL2{p:Prop}(h:p:=by rw[dN]):p:=h
def aL3{p:Prop}(h:p:=by rcases lM with rfl|⟨rfl,_⟩<;>exact⟨rfl,rfl⟩):p:=h
def aL4{p:Prop}(h:p:=by rw[bC (by rintro rfl;rw[Y] at q;simp at q)];exact q):p:=h
def aL5{p:Prop}(h:p:=by simp at h⊢;omega):p:=h
def aL6{p:Prop}(h:p:=by have:=hI.ne;rw[dO,ov] at z;omega):p:=h
def aL7{p:Prop}(h:p:=by have:=he.1;simp at this):p:=h
def aL8{p:Prop}(h:p:=by simp[binOp,Pc]):p:=h
def aL9{p:Prop}(h:p:=by simpa using ha):p:=h
def aL_{p:Prop}(h:p:=by simpa using q1):p:=h
def aMa{p:Prop}(h:p:=by rw[Q];exact hz):p:=h
def aMb{p:Prop}(h:p:=by simpa using h4):p:=h
def aMc{p:Prop}(h:p:=by simpa using fP):p:=h
def aMd{p:Prop}(h:p:=by simp[eW,cY,jU,cq]):p:=h
def aMe{p:Prop}(h:p:=by rw[bC (e4 hj)];exact q):p:=h
def aMf{p:Prop}(h:p:=by show 0<=12;omega):p:=h
def aMg{p:Prop}(h:p:=by have:=(cJ.1 hj).1;have:=V.1;simp at this;omega):p:=h
def aMh{p:Prop}(h:p:=by intro e;subst e;rw[S] at hj;cases hj;cases ho):p:=h
def aMi{p:Prop}(h:p:=by simpa using Y):p:=h
def aMj{p:Prop}(h:p:=by simp[zeroValue,typeInfo,Q,hv]):p:=h
def aMk{p:Prop}(h:p:=by have:=G2.1;simp at this;omega):p:=h
def aMl{p:Prop}(h:p:=by rw[Kt];exact h.defers.mono bJ):p:=h
def aMm{p:Prop}(h:p:=by rw[bC (by omega)];exact h.out):p:=h
def aMn{p:Prop}(h:p:=by cases cl<;>first|rfl|cases ho):p:=h
def aMo{p:Prop}(h:p:=by rcases fM with⟨rfl,_⟩|⟨_,rfl,_⟩<;>rfl):p:=h
def aMp{p:Prop}(h:p:=by rintro rfl;rw[S] at hj;cases hj;exact O _ rfl):p:=h
def aMq{p:Prop}(h:p:=by have:=s.n;rw[EC] at this;exact(jS this).2.2.1):p:=h
def aMr{p:Prop}(h:p:=by simp at bt;omega):p:=h
def aMs{p:Prop}(h:p:=by intro e;subst e;rw[S] at hj;cases hj;cases O):p:=h
def aMt{p:Prop}(h:p:=by simpa using eG.1 this.2 i (by simpa using Q)):p:=h
def aMu{p:Prop}(h:p:=by cases w<;>first|rfl|cases hw):p:=h
def aMv{p:Prop}(h:p:=by have:=z.s.n;rw[EC] at this;exact(jS this).1):p:=h
def aMw{p:Prop}(h:p:=by simp[Y]):p:=h
def aMx{p:Prop}(h:p:=by simp[Ip,Pa,run_underlying ht,e5,qN hn];rfl):p:=h
def aMy{p:Prop}(h:p:=by simp[O]):p:=h
def aMz{p:Prop}(h:p:=by cases x<;>first|rfl|cases I):p:=h
def aMA{p:Prop}(h:p:=by rw[dO];omega):p:=h
def aMB{p:Prop}(h:p:=by rw[<-pH.1];exact S):p:=h
def aMC{p:Prop}(h:p:=by simp[eK]):p:=h
def aMD{p:Prop}(h:p:=by simp[KZ,run_underlying he]):p:=h
def aME{p:Prop}(h:p:=by unfold eqGuard;split<;>rfl):p:=h
def aMF{p:Prop}(h:p:=by have:=D.1;simpa using this):p:=h
def aMG{p:Prop}(h:p:=by have:=h.1;simpa using this):p:=h
def aMH{p:Prop}(h:p:=by first|(cases q;done)|omega):p:=h
def aMI{p:Prop}(h:p:=by rw[bC (by omega)];exact k0):p:=h
def aMJ{p:Prop}(h:p:=by rw[bC (by omega),bC (by omega)];exact h0):p:=h
def aMK{p:Prop}(h:p:=by rw[dr,T_ q,e6 (by omega) (by omega)];rfl):p:=h
def aML{p:Prop}(h:p:=by rw[bC (by omega),bC (by omega)];exact k0):p:=h
def aMM{p:Prop}(h:p:=by simpa using h3):p:=h
def aMN{p:Prop}(h:p:=by have:=q HM;have:=g HM;have:=g' HM;omega):p:=h
def aMO{p:Prop}(h:p:=by rw[qE _ _ (λq=>O q.1)];exact bV.1 o ho):p:=h
def aMP{p:Prop}(h:p:=by rw[<-Y.1];exact S):p:=h
def aMQ{p:Prop}(h:p:=by obtain⟨es,cD,m1,_⟩:=h.m;exact gl m1):p:=h
def aMR{p:Prop}(h:p:=by simp;exact λa b=>bR.elim (· a) (· b)):p:=h
def aMS{p:Prop}(h:p:=by first|rfl|(exfalso;omega)):p:=h
def aMT{p:Prop}(h:p:=by rw[rH];exact s.len):p:=h
def aMU{p:Prop}(h:p:=by simp at hz;obtain⟨n,_,rfl⟩:=hz;rfl):p:=h
def aMV{p:Prop}(h:p:=by rw[<-e,S] at q;cases q;exact bR _ rfl):p:=h
def aMW{p:Prop}(h:p:=by simp[binOp,UH,xD]):p:=h
def aMX{p:Prop}(h:p:=by simpa using e):p:=h
def aMY{p:Prop}(h:p:=by rw[acH];exact Nat.mul_le_mul_left _ z):p:=h
def aMZ{p:Prop}(h:p:=by intro e;subst e;rw[S] at hj;cases hj):p:=h
def aM0{p:Prop}(h:p:=by apply uA;simpa using pF):p:=h
def aM1{p:Prop}(h:p:=by apply uA;simpa using Nr):p:=h
def aM2{p:Prop}(h:p:=by simp only[dx,S,hm,if_true,h n hn,j3]):p:=h
def aM3{p:Prop}(h:p:=by rw[dr,Ib q,e6 (by omega) (by omega)]):p:=h
def aM4{p:Prop}(h:p:=by obtain⟨l,q,_⟩:=h;exact(zU q).one):p:=h
def aM5{p:Prop}(h:p:=by rw[jb];rfl):p:=h
def aM6{p:Prop}(h:p:=by rw[bC e];exact h):p:=h
def aM7{p:Prop}(h:p:=by rw[bC (e4 hj)];exact h):p:=h
def aM8{p:Prop}(h:p:=by show(5:Int)<=5;decide):p:=h
def aM9{p:Prop}(h:p:=by rw[<-e1,yD]):p:=h
def aM_{p:Prop}(h:p:=by rw[H9];exact a2):p:=h
def aNa{p:Prop}(h:p:=by simpa using h.1):p:=h
def aNb{p:Prop}(h:p:=by rw[gA];exact a1):p:=h
def aNc{p:Prop}(h:p:=by simp at T):p:=h
def aNd{p:Prop}(h:p:=by simp only[uo,fD,Y,j3]):p:=h
def aNe{p:Prop}(h:p:=by simp at S):p:=h
def aNf{p:Prop}(h:p:=by rw[bC (ne q)];exact q):p:=h
def aNg{p:Prop}(h:p:=by rw[bC (NX q)];exact q):p:=h
def aNh{p:Prop}(h:p:=by rw[kI (by omega)];rfl):p:=h
def aNi{p:Prop}(h:p:=by rw[uf,lF]):p:=h
def aNj{p:Prop}(h:p:=by simp[p7,gj]):p:=h
def aNk{p:Prop}(h:p:=by rw[dP.1 hy];exact e8):p:=h
def aNl{p:Prop}(h:p:=by simpa using hj):p:=h
def aNm{p:Prop}(h:p:=by simpa using lf):p:=h
def aNn{p:Prop}(h:p:=by simpa using ga):p:=h
def aNo{p:Prop}(h:p:=by simpa using hf):p:=h
def aNp{p:Prop}(h:p:=by simp[oO];omega):p:=h
def aNq{p:Prop}(h:p:=by simpa using h5):p:=h
def aNr{p:Prop}(h:p:=by simp[hj]):p:=h
def aNs{p:Prop}(h:p:=by simp[hz]):p:=h
def aNt{p:Prop}(h:p:=by rw[dP.1 hy];exact I):p:=h
def aNu{p:Prop}(h:p:=by simp[hs]):p:=h
def aNv{p:Prop}(h:p:=by rw[Es];simp<;>omega):p:=h
def aNw{p:Prop}(h:p:=by rw[zo];simp<;>omega):p:=h
def aNx{p:Prop}(h:p:=by simp only[vz];omega):p:=h
def aNy{p:Prop}(h:p:=by simp[h.fo]):p:=h
def aNz{p:Prop}(h:p:=by simp[dM,mK,h]):p:=h
def aNA{p:Prop}(h:p:=by exact mJ.ok.1):p:=h
def aNB{p:Prop}(h:p:=by simpa[Ag] using e2):p:=h
def aNC{p:Prop}(h:p:=by rw[lR eP];exact q1):p:=h
def aND{p:Prop}(h:p:=by unfold nP;rw[jV z]):p:=h
def aNE{p:Prop}(h:p:=by rw[dP.1 q];exact I):p:=h
def aNF{p:Prop}(h:p:=by rw[ql];omega):p:=h
def aNG{p:Prop}(h:p:=by rw[qm];omega):p:=h
def aNH{p:Prop}(h:p:=by rw[oc,cS,jj]):p:=h
end Go
open Array renaming ext_getElem?->aI7,getElem?_append_left->ab3,getElem?_eq_getElem->wW,getElem?_eq_none->aqM,getElem?_eq_some_iff->z7,getElem?_modify->Fy,length_toList->aqN,size_append->O8
open BitVec renaming ofInt->Dn
open Bool renaming false->bf,false_eq_true->kJ,not_true->z_,true->bh
open Go.Builtin renaming append_->yJ,firstCells->ab8,lenOf->ab9,len_->KZ,zeroCells->Aa
open Go.Instr renaming index->ach,indexAt->UE,loadAt->aci,slice->Pa,sliceAt->Ip,sliceBounds->aqV,storeAt->aqW,sureAddr->Pb
open Go.IntKind renaming i64->cN
open Go.Op renaming bytesLess->ack,equalIn->BU,intArith->acm,intBits->UH,intCmp->Pc
open Go.Result renaming andThen_ok->gI
open Go.RowKit.Below renaming heap_setCell->aq9
open Go.Sem renaming run_bind->gy,run_pure->mR
open Go.Value renaming cells->Ag
open Go.World renaming block_lt_of_cell?->UI,cell?->Iu,cell?_alloc_lt->uC,cell?_alloc_new->Iv,cell?_setCells_in->aJd,cell?_setCells_out->aJe,freeze->UJ,frozen?->acs,frozen?_alloc_new->acu,frozen?_alloc_old->Iw,frozen?_setCells->Pg,setCells->Pj,shape?->Pk,size_drew->acv
open Go renaming byteCells->arb
open List renaming all_append->ard,all_eq_true->eG,append_assoc->dN,append_nil->fZ,drop_of_length_le->w4,drop_succ_cons->Ah,eq_nil_of_length_eq_zero->ou,ext_getElem?->FH,getElem?_append_left->fT,getElem?_append_right->fJ,getElem?_drop->tC,getElem?_eq_getElem->cu,getElem?_eq_none->jV,getElem?_eq_some_iff->cJ,getElem?_map->fD,getElem?_set_ne->bC,getElem?_set_self->bT,getElem?_take->UM,getElem?_take_of_lt->Dt,getElem_mem->Pq,getElem_of_mem->Iy,length_append->dO,length_cons->eB,length_drop->ql,length_map->cS,length_nil->gR,length_take->qm,map_cons->fQ,mem_map->dX,mem_of_getElem?->cz,mem_of_mem_drop->rI,mem_of_mem_take->yO,nil_append->gd,range->iy,size_toArray->UR,take_of_length_le->ow,take_succ_cons->qn
open Nat renaming add_assoc->mB,add_le_add_left->acG,add_mul->qo,add_zero->nB,eq_zero_or_pos->Dw,le_refl->b_,le_trans->ig,lt_or_ge->ei,mul_le_mul_right->pW,one_mul->FM,sub_self->kY,sub_zero->FN,zero_add->gA,zero_le->j0
open Ne renaming symm->e4
open Option renaming isSome_iff_exists->acJ,isSome_none->Ak,map_eq_some_iff->dF,map_some->j3,none->bn,some->a_
open Option.some renaming injEq->ox
open Or renaming inl->bD,inr->bG
namespace Go.bM
open Go.RowKit
section
variable{a:Addr}{B b base cc cap d field fin Gs id k len m n n' o off top:Nat}{dst e s src t ty:TypeId}{i' j s' v x' y y':Value}{w w':World}{i:Option Int}{cs' news vs:List Value}{bN neg row:Bool}{Ea:Array Field}{f:Field}{op:BinOp}{iC nO:Operand}{kj zC vi:Option Value}
def dW{α:Type}{l:List α}{i:Nat}(h:i<l.length):∃x,l[i]?=a_ x:=⟨_,cu h⟩
def gl{α:Type}{l:List α}{i:Nat}{x:α}(h:l[i]?=a_ x):i<l.length:=(cJ.1 h).1
inductive o6 where
 |exact
 |no
 |tok (id:Nat)
 deriving DecidableEq
inductive bg where
 |v (x:Value)
 |agg (Z:List bg)
 |bQ (Z:List bg)
 |bq
 |sl (xs:List bg) (t:o6)
 |fp (Z:List bg) (off:Nat)
 |mp (k off:Nat)
 |rp (k n off:Nat)
 |rs (k n sz off len:Nat)
 |gE (k:Nat)
 |gP (ch:List PanicEntry)
 |fn (f:Fn) (first V8:List bg)
 |eD (t:TypeId) (x:bg)
 |gm (k:Nat)
 |jo (k:Nat)
 |iJ (k:Nat) (t:TypeId×Nat)
variable{r x:bg}{Q lo mx:Option bg}{Z ts us ys zs:List bg}
def bg.cells:bg->List bg
 |.agg Z=>Z
 |x=>[x]
def bg.one:bg->Bool
 |.agg _|.bQ _|.gP _=>bf
 |_=>bh
def plain:Value->Bool
 |.bool _|.int _ _|.float _ _|.string _|.pointer bn|.nilFunc|.nilIface|.map bn=>bh
 |_=>bf
inductive br where
 |cells (Z:List bg) (row:Bool)
 |tok (n sz:Nat) (e:TypeId)
 |obj (o:Obj)
 |eS (es:List (bg×bg×Nat)) (aJG:Nat)
 |ck (st:LoopState) (pd:Option Code) (bW:List bg) (ps:Array Tmp) (ok:Code->Code->Prop)
variable{J bl:List br}
def br.isObj:br->Bool
 |.cells _ _|.tok _ _ _=>bf
 |_=>bh
def br.like(b b':br):Prop:=(∀o,b=.obj o->∃o',b'=.obj o'/\(o=.deferred (a_ [])->o'=o))/\
 (∀st pd bW ps ok,b=.ck st pd bW ps ok->∃fV lP,b'=.ck fV lP bW ps ok)/\(∀es cD,b=.eS es cD->∃nh nJ,b'=.eS nh nJ)
def br.like.refl(b:br):b.like b:=⟨λo h=>⟨o,h,λ_=>rfl⟩,λst pd _ _ _ h=>⟨st,pd,h⟩,λes cD h=>⟨es,cD,h⟩⟩
def br.like.trans{a b c:br}(h:a.like b)(h':b.like c):a.like c:=by
 refine⟨λo e=>?_,λst pd bW ps ok e=>?_,λes cD e=>?_⟩;obtain⟨o',e',f⟩:=h.1 o e;obtain⟨aEs,vW,f'⟩:=h'.1 o' e';refine⟨aEs,vW,λq=>?_⟩;rw[(f q)] at f';exact f' q;obtain⟨fV,lP,e'⟩:=h.2.1 _ _ _ _ _ e;exact h'.2.1 _ _ _ _ _ e';obtain⟨nh,nJ,e'⟩:=h.2.2 _ _ e;exact h'.2.2 _ _ e'
def br.like.isObj{b b':br}(h:b.like b')(ho:b.isObj=bh):b'.isObj=bh:=by
 cases b with
 |obj o=>obtain⟨o',e,_⟩:=h.1 o rfl;rw[e];rfl
 |ck st pd bW ps ok=>obtain⟨_,_,e⟩:=h.2.1 _ _ _ _ _ rfl;rw[e];rfl
 |eS es cD=>obtain⟨_,_,e⟩:=h.2.2 _ _ rfl;rw[e];rfl
 |_=>cases ho
def uL(o:Obj):Prop:=∀c t f,o≠.cells c t f
structure Loc where
 b:Nat
 fin:Nat:=0
 cap:Nat:=0
 ty:TypeId×Nat:=(0,0)
variable{M M':List Loc}{L L':Loc}
abbrev Cells:=Nat->Nat->Option Value
variable{C bI:Cells}
def vQ(M:List Loc)(J:List br)(a:Addr)(len cap sz:Nat):o6->Prop
 |.exact=>cap=len
 |.no=>True
 |.tok id=>∃n s ty L,J[id]?=a_ (.tok n s ty)/\M[id]?=a_ L/\len<=n/\(len=0\/sz=s)/\
  (len=n->a.spot=bn/\a.block=L.b/\a.off+len*s=L.fin/\a.off+cap*s=L.cap)
inductive bP(C:Cells)(M:List Loc)(J:List br):bg->Value->Prop
 |v {x:Value} (h:plain x=bh):bP C M J (.v x) x
 |agg {Z:List bg} {cs':Array Value} (hl:Z.length=cs'.size)
  (h:∀(i:Nat) a b,Z[i]?=a_ a->cs'[i]?=a_ b->bP C M J a b):bP C M J (.agg Z) (.agg cs')
 |bQ {Z:List bg} {cs':Array Value} (hl:Z.length=cs'.size)
  (h:∀(i:Nat) a b,Z[i]?=a_ a->cs'[i]?=a_ b->bP C M J a b):bP C M J (.bQ Z) (.tuple cs')
 |bq:bP C M J .bq (.slice bn 0 0)
 |sl {xs:List bg} {t:o6} {a:Addr} {cap sz:Nat} (f:Nat->Nat->Value)
  (gr:xs≠[]->a.spot=bn)
  (dw:∀(i:Nat) x,xs[i]?=a_ x->x.cells.length=sz)
  (hC:∀(i:Nat) x (j:Nat) c,xs[i]?=a_ x->x.cells[j]?=a_ c->C a.block (a.off+i*sz+j)=a_ (f i j))
  (hR:∀(i:Nat) x (j:Nat) c,xs[i]?=a_ x->x.cells[j]?=a_ c->bP C M J c (f i j))
  (hT:vQ M J a xs.length cap sz t) (iq:xs.length<=cap):bP C M J (.sl xs t) (.slice (a_ a) xs.length cap)
 |fp {Z:List bg} {off b o:Nat} (f:Nat->Value)
  (hC:∀(i:Nat) c,Z[i]?=a_ c->C b (o+i)=a_ (f i)) (hR:∀(i:Nat) c,Z[i]?=a_ c->bP C M J c (f i)):
  bP C M J (.fp Z off) (.pointer (a_ ⟨b,o+off,bn⟩))
 |mp {k off:Nat} {L:Loc} {Z:List bg} (O:J[k]?=a_ (.cells Z bf)) (hM:M[k]?=a_ L):
  bP C M J (.mp k off) (.pointer (a_ ⟨L.b,off,bn⟩))
 |rp {k n off:Nat} {L:Loc} {Z:List bg} {a:Addr} (O:J[k]?=a_ (.cells Z bh)) (hM:M[k]?=a_ L) (hn:n<=Z.length) (ha:n=Z.length->a=⟨L.b,off,bn⟩):
  bP C M J (.rp k n off) (.pointer (a_ a))
 |rs {k n sz off len cap:Nat} {L:Loc} {Z:List bg} {a:Addr} (O:J[k]?=a_ (.cells Z bh)) (hM:M[k]?=a_ L) (hn:n<=Z.length) (ga:len<=cap)
  (ha:n=Z.length->a=⟨L.b,off,bn⟩/\off+len*sz<=Z.length/\Z.length<=off+cap*sz/\off+cap*sz<=L.cap):
  bP C M J (.rs k n sz off len) (.slice (a_ a) len cap)
 |gE {k:Nat} {L:Loc} {o:Obj} (O:J[k]?=a_ (.obj o)) (hM:M[k]?=a_ L):bP C M J (.gE k) (.pointer (a_ ⟨L.b,0,bn⟩))
 |fn {f:Fn} {fs Z:List bg} {k8 cs':Array Value} (lf:fs.length=k8.size) (ga:Z.length=cs'.size)
  (hf:∀(i:Nat) a b,fs[i]?=a_ a->k8[i]?=a_ b->bP C M J a b)
  (T:∀(i:Nat) a b,Z[i]?=a_ a->cs'[i]?=a_ b->bP C M J a b):bP C M J (.fn f fs Z) (.func f k8 cs')
 |eD {t:TypeId} {x:bg} {x':Value} (h:bP C M J x x'):bP C M J (.eD t x) (.iface t x')
 |gm {k:Nat} {L:Loc} {es:List (bg×bg×Nat)} {cD:Nat} (O:J[k]?=a_ (.eS es cD)) (hM:M[k]?=a_ L):bP C M J (.gm k) (.map (a_ L.b))
 |jo {k:Nat} {L:Loc} {st:LoopState} {pd:Option Code} {bW:List bg} {ps:Array Tmp} {ok:Code->Code->Prop} (O:J[k]?=a_ (.ck st pd bW ps ok)) (hM:M[k]?=a_ L):bP C M J (.jo k) (.func (.yield L.b) #[] #[])
 |iJ {k:Nat} {L:Loc} {Z:List bg} (O:J[k]?=a_ (.cells Z bf)) (hM:M[k]?=a_ L):bP C M J (.iJ k L.ty) (.pointer bn)
structure dm(C:Cells)(M:List Loc)(J:List br)(bI:Cells)(M':List Loc)(bl:List br):Prop where
 C:∀b o v,C b o=a_ v->bI b o=a_ v
 cells:∀(k:Nat) Z fz,J[k]?=a_ (.cells Z fz)->∃cs',bl[k]?=a_ (.cells cs' fz)/\(fz=bh->Z.length<=cs'.length)/\((fz=bh->cs'.length=Z.length)->M'[k]?=M[k]?)/\((M[k]?).isSome->(M'[k]?).isSome)
 toks:∀(k:Nat) n s ty,J[k]?=a_ (.tok n s ty)->∃n',bl[k]?=a_ (.tok n' s ty)/\n<=n'/\(n'=n->M'[k]?=M[k]?)/\((M[k]?).isSome->(M'[k]?).isSome)
 gF:∀(k:Nat) b,b.isObj=bh->J[k]?=a_ b->(∃b',bl[k]?=a_ b'/\b.like b')/\M'[k]?=M[k]?
def dm.refl(C)(M)(J):dm C M J C M J:=
 ⟨λ_ _ _ h=>h,λ_ Z fz h=>⟨Z,h,λ_=>b_ _,λ_=>rfl,λh=>h⟩,λ_ n _ _ h=>⟨n,h,b_ _,λ_=>rfl,λh=>h⟩,λ_ b _ h=>⟨⟨b,h,.refl b⟩,rfl⟩⟩
def dm.trans{Lb acU}{IJ ac8}{aiq air}(h:dm C M J Lb IJ aiq)(k:dm Lb IJ aiq acU ac8 air):dm C M J acU ac8 air:=by
 refine⟨λb o v e=>k.C _ _ _ (h.C _ _ _ e),λi Z fz e=>?_,λi n s ty e=>?_,λi b O e=>?_⟩;obtain⟨cs',e',g,m,s⟩:=h.cells i Z fz e;obtain⟨aut,vW,g',m',s'⟩:=k.cells i cs' fz e';exact⟨aut,vW,λq=>ig (g q) (g' q),λq=>((m' λHM=>aMN).trans (m λHM=>aMN)),λq=>s' (s q)⟩;obtain⟨n',e',l,m,s1⟩:=h.toks i n s ty e;obtain⟨amN,vW,l',m',s2⟩:=k.toks i n' s ty e';refine⟨amN,vW,ig l l',λq=>?_,λq=>s2 (s1 q)⟩;have b:amN=n':=aa
 exact(m' b).trans (m aa);obtain⟨⟨b',e',l⟩,m⟩:=h.gF i b O e;obtain⟨⟨VO,vW,l'⟩,m'⟩:=k.gF i b' (l.isObj O) e';exact⟨⟨VO,vW,l.trans l'⟩,m'.trans m⟩
def dm.length(h:dm C M J bI M' bl):J.length<=bl.length:=by
 rcases Dw J.length with h0|h0
 omega;have hl:J.length-1<J.length:=aa
 have e:=cu hl;have key:∃b,bl[J.length-1]?=a_ b:=by
  cases O:J[J.length-1] with
  |cells Z fz=>rw[O] at e;obtain⟨cs',q,_⟩:=h.cells _ _ _ e;exact⟨_,q⟩
  |tok n s ty=>rw[O] at e;obtain⟨n',q,_⟩:=h.toks _ _ _ _ e;exact⟨_,q⟩
  |obj o=>rw[O] at e;obtain⟨⟨b',q,_⟩,_⟩:=h.gF _ _ rfl e;exact⟨_,q⟩
  |eS es cD=>rw[O] at e;obtain⟨⟨b',q,_⟩,_⟩:=h.gF _ _ rfl e;exact⟨_,q⟩
  |ck st pd bW ps ok=>rw[O] at e;obtain⟨⟨b',q,_⟩,_⟩:=h.gF _ _ rfl e;exact⟨_,q⟩
 obtain⟨b,O⟩:=key;have:=(cJ.1 O).1;omega
def vQ.mono(bJ:dm C M J bI M' bl){sz:Nat}{t}
  (h:vQ M J a len cap sz t):vQ M' bl a len cap sz t:=by
 cases t with
 |exact=>exact h
 |no=>trivial
 |tok id=>
  obtain⟨n,s,ty,L,e,m,l,z,q⟩:=h;obtain⟨n',e',l',m',s1⟩:=bJ.toks id n s ty e;have:=s1 (by simp[m]);obtain⟨L',tU⟩:=acJ.1 this;refine⟨n',s,ty,L',e',tU,ig l l',z,λhq=>?_⟩;have:=m' aa;rw[tU,m] at this;cases this;exact q aa
def bP.mono(bJ:dm C M J bI M' bl)
  (h:bP C M J x y):bP bI M' bl x y:=by
 induction h with
 |v h=>exact .v h
 |agg hl _ ih=>exact .agg hl ih
 |bQ hl _ ih=>exact .bQ hl ih
 |bq=>exact .bq
 |sl f gr dw hC _ hT iq ih=>exact .sl f gr dw (λi x j c Y V=>bJ.C _ _ _ (hC i x j c Y V)) ih (hT.mono bJ) iq
 |fp f hC _ ih=>exact .fp f (λi c h=>bJ.C _ _ _ (hC i c h)) ih
 |mp O hM=>
  obtain⟨cs',e,_,m,_⟩:=bJ.cells _ _ _ O;exact .mp e ((m nofun).trans hM)
 |@rp k n off L Z a O hM hn ha=>
  obtain⟨cs',e,g,m,s⟩:=bJ.cells _ _ _ O;have g:=g rfl;obtain⟨L',tU⟩:=acJ.1 (s (by rw[hM];rfl));refine .rp e tU aa λq=>?_;have Y:cs'.length=Z.length:=aa
  have V:=m λ_=>Y;rw[tU,hM] at V;cases V;exact ha aa
 |@rs k n sz off len cap L Z a O hM hn ga ha=>
  obtain⟨cs',e,g,m,s⟩:=bJ.cells _ _ _ O;have g:=g rfl;obtain⟨L',tU⟩:=acJ.1 (s (by rw[hM];rfl));refine .rs e tU aa ga λq=>?_;have Y:cs'.length=Z.length:=aa
  have V:=m λ_=>Y;rw[tU,hM] at V;cases V;rw[Y];exact ha aa
 |gE O hM=>
  obtain⟨⟨b',e,l⟩,m⟩:=bJ.gF _ _ rfl O;obtain⟨o',rfl,_⟩:=l.1 _ rfl;exact .gE e (m.trans hM)
 |fn lf ga _ _ Hg Hf=>exact .fn lf ga Hg Hf
 |eD _ ih=>exact .eD ih
 |gm O hM=>
  obtain⟨⟨b',e,l⟩,m⟩:=bJ.gF _ _ rfl O;obtain⟨nh,nJ,rfl⟩:=l.2.2 _ _ rfl;exact .gm e (m.trans hM)
 |iJ O hM=>
  obtain⟨cs',e,_,m,_⟩:=bJ.cells _ _ _ O;exact .iJ e ((m nofun).trans hM)
 |jo O hM=>
  obtain⟨⟨b',e,l⟩,m⟩:=bJ.gF _ _ rfl O;obtain⟨_,_,rfl⟩:=l.2.1 _ _ _ _ _ rfl;exact .jo e (m.trans hM)
def uM(C:Cells)(M:List Loc)(J:List br):br->Obj->Prop
 |.obj o',o=>o=o'
 |.eS es cD,o=>∃fC:Array MapEntry,o=.map fC cD/\es.length=fC.toList.length/\∀(i:Nat) a b,es[i]?=a_ a->fC.toList[i]?=a_ b->bP C M J a.1 b.key/\bP C M J a.2.1 b.val/\b.born=a.2.2
 |.ck st pd bW ps ok,o=>∃fn tmps assign body hr,o=.loop {state:=st,pending:=pd,fn:=fn,tmps:=tmps,params:=ps,assign:=assign,body:=body,defers:=hr}/\ok assign body/\
  bW.length=tmps.size/\∀(i:Nat) a b,bW[i]?=a_ a->tmps[i]?=a_ b->bP C M J a b
 |_,_=>False
def uM.mono(bJ:dm C M J bI M' bl){b:br}{o:Obj}(h:uM C M J b o):uM bI M' bl b o:=by
 cases b with
 |obj o'=>exact h
 |eS es cD=>
  obtain⟨ja,e,Y,V⟩:=h;exact⟨ja,e,Y,λi a b ha O=>let⟨x,y,z⟩:=V i a b ha O;⟨x.mono bJ,y.mono bJ,z⟩⟩
 |ck st pd bW ps ok=>
  obtain⟨fn,tmps,assign,body,hr,e,Y,V,h3⟩:=h;exact⟨fn,tmps,assign,body,hr,e,Y,V,λi a b ha O=>(h3 i a b ha O).mono bJ⟩
 |_=>exact h.elim
structure lD where
 w:World
 C:Cells
variable{w0:lD}
def oC(w:World)(b:Nat)(e:TypeId×Nat):Prop:=w.shape? b=a_ e
def oC.same{e}(h:oC w b e)(O:w'.heap[b]?=w.heap[b]?):oC w' b e:=by
 unfold oC Pk at h⊢;rw[O];exact h
def oC.alloc{e}(h:oC w b e)(O:b<w.heap.size)(o:Obj):oC (w.alloc o) b e:=h.same (Below.heap_alloc w o b O)
def oC.new{cells}:oC (w.alloc (.cells cells e)) w.heap.size (e,cells.size):=by
 have:(w.alloc (.cells cells e)).heap[w.heap.size]?=a_ (.cells cells e):=by
  show(w.heap.push (.cells cells e))[w.heap.size]?=_;simp
 unfold oC Pk;rw[this]
def oC.set{e}(h:oC w b e)(a)(v):oC (w.setCell a v) b e:=by
 by_cases O:b=a.block;unfold oC Pk at h⊢;have:(w.setCell a v).heap[b]?=(w.heap[b]?).map λ
  |.cells c Wt frozen=>.cells (if a.spot.isSome then c else c.setIfInBounds a.off v) Wt frozen
  |o=>o:=by
  show(w.heap.modify a.block _)[b]?=_;rw[Fy,if_pos O.symm];cases w.heap[b]? with
  |none=>rfl
  |some x=>cases x<;>rfl
 rw[this];cases I:w.heap[b]? with
 |none=>rw[I] at h;simp at h
 |some x=>
  rw[I] at h;cases x with
  |cells Z ty fr=>
   simp only[ox] at h;simp only[j3,<-h];split<;>simp
  |_=>simp at h
 unfold oC Pk at h⊢;rw[aq9 _ _ _ _ O];exact h
def kO(w:World)(b fin:Nat)(e:TypeId):Prop:=∃(Z:Array Value) (lo Q:Nat),w.heap[b]?=a_ (.cells Z e (lo,Q))/\(lo=Q\/Q<=fin)
def kO.free(h:kO w b fin e)(o:Nat)(ho:fin<=o):w.frozen? ⟨b,o,bn⟩=bf:=by
 obtain⟨Z,lo,Q,Y,V⟩:=h;simp only[acs,Y,Bool.and_eq_false_iff,decide_eq_false_iff_not];omega
def kO.shape(h:kO w b fin e):∃c,w.shape? b=a_ (e,c):=by
 obtain⟨Z,lo,Q,Y,V⟩:=h;exact⟨Z.size,by simp only[Pk,Y]⟩
def kO.same(h:kO w b fin e)(O:w'.heap[b]?=w.heap[b]?):kO w' b fin e:=by
 obtain⟨Z,lo,Q,Y,V⟩:=h;exact⟨Z,lo,Q,by rw[O];exact Y,V⟩
def kO.alloc(h:kO w b fin e)(O:b<w.heap.size)(o:Obj):kO (w.alloc o) b fin e:=h.same (Below.heap_alloc w o b O)
def kO.new{cells}:kO (w.alloc (.cells cells e)) w.heap.size fin e:=by
 refine⟨cells,0,0,?_,.inl rfl⟩;show(w.heap.push (.cells cells e))[w.heap.size]?=_;simp
def kO.set(h:kO w b fin e)(hf:fin<=Gs)(a)(v):kO (w.setCell a v) b Gs e:=by
 obtain⟨Z,lo,Q,Y,V⟩:=h;have h3:lo=Q\/Q<=Gs:=aa
 by_cases O:b=a.block;subst O;refine⟨if a.spot.isSome then Z else Z.setIfInBounds a.off v,lo,Q,?_,h3⟩;show(w.heap.modify a.block _)[a.block]?=_;rw[Fy,if_pos rfl,Y];rfl;exact⟨Z,lo,Q,by rw[aq9 _ _ _ _ O];exact Y,h3⟩
def kO.up(h:kO w b fin e)(hf:fin<=Gs):kO w b Gs e:=by
 obtain⟨Z,lo,Q,Y,V⟩:=h;exact⟨Z,lo,Q,Y,aa⟩
def kO.freeze(h:kO w b fin e)(a)(n:Nat)(hfit:b=a.block->a.off+n<=fin):kO (w.freeze a n) b fin e:=by
 unfold UJ;split;exact h;obtain⟨Z,lo,Q,Y,V⟩:=h;by_cases O:b=a.block;have axB:=hfit O;subst O;by_cases he:lo=Q;refine⟨Z,a.off,a.off+n,?_,.inr axB⟩;show(w.heap.modify a.block _)[a.block]?=_;rw[Fy,if_pos rfl,Y];simp[he];refine⟨Z,min lo a.off,max Q (a.off+n),?_,.inr aa⟩;show(w.heap.modify a.block _)[a.block]?=_;rw[Fy,if_pos rfl,Y];simp[he];refine⟨Z,lo,Q,?_,V⟩;show(w.heap.modify a.block _)[b]?=_;rw[Fy,if_neg (e4 O)];exact Y
section
variable{G:Cells}
def Ug:Nat:=6
def F1(w:World):Prop:=∃Z t f,w.heap[Ug]?=a_ (.cells Z t f)/\Z.size=20
structure arF(base:Nat)(w0:lD):Prop where
 le:base<=w0.w.heap.size
 lt:Ug<base
 tab:F1 w0.w
def U5(G C:Cells)(w:World):Prop:=(∀b o v,G b o=a_ v->C b o=a_ v)/\F1 w
structure cB(G:Cells)(base:Nat)(w0:lD)(C:Cells)(M:List Loc)(J:List br)(w:World):Prop where
 below:Below base w0.w w
 nW:arF base w0
 old:∀b o v,C b o=a_ v->b<base->w0.C b o=a_ v
 rS:∀b o v,G b o=a_ v->C b o=a_ v
 fo:M.length=J.length
 n7:∀b o v,C b o=a_ v->w.cell? ⟨b,o,bn⟩=a_ v
 cells:∀(k:Nat) Z fz L,J[k]?=a_ (.cells Z fz)->M[k]?=a_ L->base<=L.b/\L.b<w.heap.size/\
  (∀(i:Nat) c,Z[i]?=a_ c->∃c',w.cell? ⟨L.b,i,bn⟩=a_ c'/\bP C M J c c')/\
  (∀i,w.frozen? ⟨L.b,i,bn⟩=bf)/\(∀o,C L.b o=bn)/\(∀o,o<L.cap->∃v,w.cell? ⟨L.b,o,bn⟩=a_ v)/\oC w L.b L.ty
 toks:∀(k:Nat) n s ty L,J[k]?=a_ (.tok n s ty)->M[k]?=a_ L->base<=L.b/\L.b<w.heap.size/\L.fin<=L.cap/\
  (∀o,L.fin<=o->C L.b o=bn)/\(∀o,L.fin<=o->o<L.cap->(∃v,w.cell? ⟨L.b,o,bn⟩=a_ v)/\w.frozen? ⟨L.b,o,bn⟩=bf)/\kO w L.b L.fin ty
 apart:∀(k k':Nat) L L',k≠k'->M[k]?=a_ L->M[k']?=a_ L'->L.b≠L'.b
 gF:∀(k:Nat) b L,b.isObj=bh->J[k]?=a_ b->M[k]?=a_ L->base<=L.b/\∃o,w.heap[L.b]?=a_ o/\uL o/\uM C M J b o
def cB.Qd(h:cB G base w0 C M J w):base<=w.heap.size:=
 ig h.nW.le h.below.size
def cB.tab(h:cB G base w0 C M J w):F1 w:=by
 obtain⟨Z,t,f,Y,V⟩:=h.nW.tab;exact⟨Z,t,f,by rw[h.below.block _ h.nW.lt];exact Y,V⟩
def cB.drew(h:cB G base w0 C M J w):cB G base w0 C M J w.drew:=
 ⟨h.below.drew,h.nW,h.old,h.rS,h.fo,h.n7,h.cells,h.toks,h.apart,h.gF⟩
end
def bP.one(h:bP C M J x y)(Y:x.one=bh):y.oneCell'=bh:=by
 cases h<;>first|rfl|(simp[bg.one] at Y;done)|skip
 rename_i I
 cases y<;>first|rfl|(simp[plain] at I)
variable{G:Cells}{base:Nat}{w0:lD}{w:World}{C:Cells}{M:List Loc}{J:List br}
def Cells.add(C:Cells)(B lo:Nat)(vs:List Value):Cells:=
 λb o=>if b=B/\lo<=o/\o<lo+vs.length then vs[o-lo]? else C b o
def Cells.F2(C:Cells)(B lo:Nat)(vs)(i:Nat)(h:i<vs.length):C.add B lo vs B (lo+i)=vs[i]? :=by
 unfold Cells.add;rw[if_pos ⟨rfl,aa,aa⟩];congr 1;omega
def Cells.vS(C:Cells)(B lo:Nat)(vs){b o:Nat}(h:¬(b=B/\lo<=o/\o<lo+vs.length)):C.add B lo vs b o=C b o:=by
 unfold Cells.add;rw[if_neg h]
def cB.fresh(h:cB G base w0 C M J w)(o:Nat):C w.heap.size o=bn:=by
 cases T:C w.heap.size o with
 |none=>rfl
 |some v=>
  have:=UI w _ (h.n7 _ _ _ T);simp at this
def cB.HF(h:cB G base w0 C M J w){bI}{M'}{bl}{w':World}(bJ:dm C M J bI M' bl)(hh:∀(k:Nat) b,b.isObj=bh->bl[k]?=a_ b->J[k]?=a_ b/\M'[k]?=M[k]?)
  (hw:∀(b:Nat) o,w.heap[b]?=a_ o->uL o->w'.heap[b]?=a_ o):∀(k:Nat) b L,b.isObj=bh->bl[k]?=a_ b->M'[k]?=a_ L->base<=L.b/\∃o,w'.heap[L.b]?=a_ o/\uL o/\uM bI M' bl b o:=λk b L O S hM=>by
 obtain⟨Y,V⟩:=hh k b O S;rw[V] at hM;obtain⟨a,o,e,c,d⟩:=h.gF k b L O Y hM;exact⟨a,o,hw _ _ e c,c,d.mono bJ⟩
def RL(w:World)(x:Obj)(b:Nat)(o:Obj)(h:w.heap[b]?=a_ o):(w.alloc x).heap[b]?=a_ o:=by
 show(w.heap.push x)[b]?=a_ o;have hl:=(z7.1 h).1;rw[Array.getElem?_push_lt hl,<-wW hl];exact h
def ZW{b:br}{L:Loc}(hl:M.length=J.length)(O:b.isObj=bf){k:Nat}{x:br}(I:x.isObj=bh)(h:(J++[b])[k]?=a_ x):J[k]?=a_ x/\(M++[L])[k]?=M[k]? :=by
 rcases ei k J.length with S|S
 rw[fT S] at h;exact⟨h,fT aa⟩;rw[fJ S] at h;cases hj:k-J.length with
 |zero=>rw[hj] at h;simp at h;subst h;rw[O] at I;cases I
 |succ j=>rw[hj] at h;simp at h
def Ke{b:br}{i:Nat}(O:b.isObj=bf){k:Nat}{x:br}(I:x.isObj=bh)(h:(J.set i b)[k]?=a_ x):k≠i/\J[k]?=a_ x:=by
 by_cases e:i=k;subst e;by_cases Q:i<J.length;rw[bT Q] at h;simp at h;subst h;rw[O] at I;cases I;rw[jV ah] at h;cases h;rw[bC e] at h;exact⟨λq=>e q.symm,h⟩
def dm.asp{B lo:Nat}{vs}(hn:∀o,lo<=o->o<lo+vs.length->C B o=bn):dm C M J (C.add B lo vs) M J:=by
 refine⟨λb o v h=>?_,λk Z fz h=>⟨Z,h,λ_=>b_ _,λ_=>rfl,λh=>h⟩,λk n s ty h=>⟨n,h,b_ _,λ_=>rfl,λh=>h⟩,λk b _ h=>⟨⟨b,h,.refl b⟩,rfl⟩⟩;rw[Cells.vS];exact h;rintro⟨rfl,Y,V⟩;rw[hn o Y V] at h;cases h
def dm.push(b:br)(L:Loc)(hl:M.length=J.length):dm C M J C (M++[L]) (J++[b]):=by
 refine⟨λ_ _ _ h=>h,λk Z fz h=>?_,λk n s ty h=>?_,λk o _ h=>?_⟩;have S:=(cJ.1 h).1;exact⟨Z,by rw[fT S];exact h,λ_=>b_ _,λ_=>by rw[fT aa],λh=>by rw[fT aa];exact h⟩;have S:=(cJ.1 h).1;exact⟨n,by rw[fT S];exact h,b_ _,λ_=>by rw[fT aa],λh=>by rw[fT aa];exact h⟩;have S:=(cJ.1 h).1;exact⟨⟨o,by rw[fT S];exact h,.refl o⟩,by rw[fT aa]⟩
def cB.W1(h:cB G base w0 C M J w)(cells)(e)(vs)(hv:∀(i:Nat) v,vs[i]?=a_ v->cells[i]?=a_ v):
  dm C M J (C.add w.heap.size 0 vs) M J/\cB G base w0 (C.add w.heap.size 0 vs) M J (w.alloc (.cells cells e)):=by
 have bJ:dm C M J (C.add w.heap.size 0 vs) M J:=dm.asp λo _ _=>h.fresh o;refine⟨bJ,h.below.alloc (ig h.nW.le h.below.size) _,h.nW,λb o v T O=>h.old b o v (by rwa [Cells.vS _ _ _ _ (λq=>by have:=h.Qd;omega)] at T) O,λb o v hg=>bJ.C _ _ _ (h.rS b o v hg),h.fo,?_,?_,?_,h.apart,h.HF bJ (λk o _ h=>⟨h,rfl⟩) λb o O _=>RL _ _ _ _ O⟩;intro b o v T;by_cases O:b=w.heap.size/\0<=o/\o<0+vs.length;obtain⟨rfl,_,V⟩:=O;have:=Cells.F2 C w.heap.size 0 vs o aa;rw[gA] at this;rw[this] at T;rw[Iv];exact hv o v T;rw[Cells.vS _ _ _ _ O] at T;have hw:=h.n7 b o v T;rw[uC _ _ _ (UI _ _ hw)];exact hw;intro k Z fz L S hM;obtain⟨Y,V,h3,q1,bt,bV⟩:=h.cells k Z fz L S hM;have bR:∀o,¬(L.b=w.heap.size/\0<=o/\o<0+vs.length):=λo hq=>aa
 refine⟨Y,ah,λi c T=>?_,λi=>by rw[Iw _ _ _ aLq];exact q1 i,λo=>by rw[Cells.vS _ _ _ _ (bR o)];exact bt o,
  λo ho=>by rw[uC _ _ _ aLN];exact bV.1 o ho,bV.2.alloc V _⟩
 obtain⟨c',a1,a2⟩:=h3 i c T;exact⟨c',by rw[uC _ _ _ aLN];exact a1,a2.mono bJ⟩;intro k n s ty L S hM;obtain⟨Y,V,h3,h4,h5,h6⟩:=h.toks k n s ty L S hM;refine⟨Y,ah,h3,λo ho=>by rw[Cells.vS _ _ _ _ ((λo hq=>aa) o)];exact h4 o ho,λo ho iK=>?_,h6.alloc V _⟩;obtain⟨a1,a2⟩:=h5 o ho iK;exact⟨by rw[uC _ _ _ aLN];exact a1,by rw[Iw _ _ _ aLq];exact a2⟩
def dH(C:Cells)(M:List Loc)(J:List br)(Z:List bg)(cs':List Value):Prop:=
 Z.length=cs'.length/\∀(i:Nat) a b,Z[i]?=a_ a->cs'[i]?=a_ b->bP C M J a b
def dH.mono{bI}{M'}{bl}(bJ:dm C M J bI M' bl){Z}{cs'}(h:dH C M J Z cs'):dH bI M' bl Z cs':=
 ⟨h.1,λi a b Y V=>(h.2 i a b Y V).mono bJ⟩
def dH.get{Z}{cs'}(h:dH C M J Z cs'){i:Nat}{c:bg}(T:Z[i]?=a_ c):∃c',cs'[i]?=a_ c'/\bP C M J c c':=by
 have Q:i<cs'.length:=by rw[<-h.1];exact(cJ.1 T).1
 exact⟨cs'[i],cu Q,h.2 i c _ T (cu Q)⟩
def cB.S2(h:cB G base w0 C M J w)(row)(cap:Nat)(Z)(vs)(cells)(e)(D:dH C M J Z vs)(hv:∀(i:Nat) v,vs[i]?=a_ v->cells[i]?=a_ v)(iq:cap<=cells.size):
  dm C M J C (M++[{b:=w.heap.size,cap:=cap,ty:=(e,cells.size)}]) (J++[.cells Z row])/\
   cB G base w0 C (M++[{b:=w.heap.size,cap:=cap,ty:=(e,cells.size)}]) (J++[.cells Z row]) (w.alloc (.cells cells e)):=by
 have bJ:dm C M J C (M++[{b:=w.heap.size,cap:=cap,ty:=(e,cells.size)}]) (J++[.cells Z row]):=dm.push _ _ h.fo;have Ek:=ig h.nW.le h.below.size;refine⟨bJ,h.below.alloc Ek _,h.nW,h.old,h.rS,aNy,?_,?_,?_,?_,h.HF bJ (λk o ho S=>ZW h.fo rfl ho S) λb o O _=>RL _ _ _ _ O⟩;intro b o v T;have hw:=h.n7 b o v T;rw[uC _ _ _ (UI _ _ hw)];exact hw;intro k zb fz L S hM
 rcases ei k J.length with hl|hl
 rw[fT hl] at S;rw[fT (by rw[h.fo];exact hl)] at hM;obtain⟨Y,V,h3,q1,bt,bV⟩:=h.cells k zb fz L S hM;refine⟨Y,ah,λi c T=>?_,λi=>by rw[Iw _ _ _ aLq];exact q1 i,bt,λo ho=>by rw[uC _ _ _ aLN];exact bV.1 o ho,bV.2.alloc V _⟩;obtain⟨c',a1,a2⟩:=h3 i c T;exact⟨c',by rw[uC _ _ _ aLN];exact a1,a2.mono bJ⟩;have gi:k=J.length:=by
  have:=(cJ.1 S).1;simp at this;omega
 subst gi;rw[fJ (b_ _)] at S;rw[fJ (by rw[h.fo];exact b_ _),h.fo] at hM;simp at S hM;obtain⟨rfl,rfl⟩:=S;subst hM;refine⟨Ek,af,λi c T=>?_,λi=>acu _ _ _ _,λo=>h.fresh o,λo ho=>?_,oC.new⟩;obtain⟨c',a1,a2⟩:=D.get T;exact⟨c',by rw[Iv];exact hv _ _ a1,a2.mono bJ⟩;rw[Iv];have ho:o<cap:=ho;exact⟨cells[o],wW aa⟩;intro k n s ty L S hM
 rcases ei k J.length with hl|hl
 rw[fT hl] at S;rw[fT (by rw[h.fo];exact hl)] at hM;obtain⟨Y,V,h3,h4,h5,h6⟩:=h.toks k n s ty L S hM;refine⟨Y,ah,h3,h4,λo ho iK=>?_,h6.alloc V _⟩;obtain⟨a1,a2⟩:=h5 o ho iK;exact⟨by rw[uC _ _ _ aLN];exact a1,by rw[Iw _ _ _ aLq];exact a2⟩;have gi:k=J.length:=by
  have:=(cJ.1 S).1;simp at this;omega
 subst gi;rw[fJ (b_ _)] at S;simp at S;intro k k' L L' bR hM ez;have key:∀(j:Nat) (L₁:Loc),M[j]?=a_ L₁->L₁.b<w.heap.size:=by
  intro j L₁ hj;have mb:j<J.length:=by rw[<-h.fo];exact(cJ.1 hj).1
  cases O:J[j] with
  |cells zb fz=>exact(h.cells j zb fz L₁ (by rw[cu mb,O]) hj).2.1
  |tok n s ty=>exact(h.toks j n s _ L₁ (by rw[cu mb,O]) hj).2.1
  |_=>
   obtain⟨_,o,e,_⟩:=h.gF j _ L₁ (by rw[O];rfl) (cu mb) hj;exact(z7.1 e).1
 rcases ei k M.length with hl|hl
 rw[fT hl] at hM
 rcases ei k' M.length with hl'|hl'
 rw[fT hl'] at ez;exact h.apart k k' L L' bR hM ez;rw[fJ hl'] at ez;have:=key k L hM;have e:L'={b:=w.heap.size,cap:=cap,ty:=(e,cells.size)}:=by
  cases hj:k'-M.length with
  |zero=>rw[hj] at ez;simpa using ez.symm
  |succ j=>rw[hj] at ez;simp at ez
 subst e;show L.b≠w.heap.size;omega;rw[fJ hl] at hM;have e:L={b:=w.heap.size,cap:=cap,ty:=(e,cells.size)}:=by
  cases hj:k-M.length with
  |zero=>rw[hj] at hM;simpa using hM.symm
  |succ j=>rw[hj] at hM;simp at hM
 subst e
 rcases ei k' M.length with hl'|hl'
 rw[fT hl'] at ez;have:=key k' L' ez;show w.heap.size≠L'.b;omega;rw[fJ hl'] at ez;exfalso;have Y:k-M.length=0:=by
  cases hj:k-M.length with
  |zero=>rfl
  |succ j=>rw[hj] at hM;simp at hM
 have V:k'-M.length=0:=by
  cases hj:k'-M.length with
  |zero=>rfl
  |succ j=>rw[hj] at ez;simp at ez
 omega
def cB.ZM(h:cB G base w0 C M J w)(Z)(cells)(e)(D:dH C M J Z cells.toList):
  dm C M J C (M++[{b:=w.heap.size,ty:=(e,cells.size)}]) (J++[.cells Z bf])/\
   cB G base w0 C (M++[{b:=w.heap.size,ty:=(e,cells.size)}]) (J++[.cells Z bf]) (w.alloc (.cells cells e)):=
 h.S2 bf 0 Z cells.toList cells e D (λi v hv=>by simpa using hv) (j0 _)
variable{G:Cells}{base:Nat}{w0:lD}{w:World}{C:Cells}{M:List Loc}{J:List br}
def cB.at(h:cB G base w0 C M J w){k:Nat}{L:Loc}(hM:M[k]?=a_ L):L.b<w.heap.size/\base<=L.b:=by
 have mb:k<J.length:=by rw[<-h.fo];exact(cJ.1 hM).1
 cases O:J[k] with
 |cells Z fz=>have:=h.cells k Z fz L (by rw[cu mb,O]) hM;exact⟨this.2.1,this.1⟩
 |tok n s ty=>have:=h.toks k n s _ L (by rw[cu mb,O]) hM;exact⟨this.2.1,this.1⟩
 |_=>
  obtain⟨Y,o,e,_⟩:=h.gF k _ L (by rw[O];rfl) (cu mb) hM;exact⟨(z7.1 e).1,Y⟩
def og{α:Type}{l}{x y:α}{k:Nat}(h:(l++[x])[k]?=a_ y):(k<l.length/\l[k]?=a_ y)\/(k=l.length/\y=x):=by
 rcases ei k l.length with hl|hl
 rw[fT hl] at h;exact bD ⟨hl,h⟩;rw[fJ hl] at h;cases hj:k-l.length with
 |zero=>rw[hj] at h;simp at h;exact bG ⟨aa,h.symm⟩
 |succ j=>rw[hj] at h;simp at h
def mu{α:Type}{l:List α}{x y:α}{k id:Nat}(h:(l.set id x)[k]?=a_ y):(k≠id/\l[k]?=a_ y)\/(k=id/\id<l.length/\y=x):=by
 by_cases e:k=id;subst e;have hl:k<l.length:=by
  have:=(cJ.1 h).1;simpa using this
 rw[bT hl] at h;exact bG ⟨rfl,hl,by simpa using h.symm⟩;rw[bC (e4 e)] at h;exact bD ⟨e,h⟩
def cB.S3(h:cB G base w0 C M J w)(cells)(e)(vs)(hv:∀(i:Nat) v,vs[i]?=a_ v->cells[i]?=a_ v)
  (n s cap:Nat) (hs:vs.length<=cap) (iq:cap<=cells.size):
  let bI:=C.add w.heap.size 0 vs
  let M':=M++[{b:=w.heap.size,fin:=vs.length,cap:=cap}]
  let bl:=J++[.tok n s e]
  dm C M J bI M' bl/\cB G base w0 bI M' bl (w.alloc (.cells cells e)):=by
 intro bI M' bl;obtain⟨Ex,Y⟩:=h.W1 cells e vs hv;have mc:dm bI M J bI M' bl:=dm.push _ _ h.fo;refine⟨Ex.trans mc,Y.below,h.nW,Y.old,Y.rS,by simp[M',bl,h.fo],Y.n7,?_,?_,?_,Y.HF mc (λk o ho S=>ZW h.fo rfl ho S) λb o O _=>O⟩;intro k Z fz L S hM
 rcases og S with⟨hl,S⟩|⟨_,S⟩
 rcases og hM with⟨_,hM⟩|⟨hl',_⟩
 obtain⟨a1,a2,a3,a4⟩:=Y.cells k Z fz L S hM;refine⟨a1,a2,λi c T=>?_,a4⟩;obtain⟨c',b1,b2⟩:=a3 i c T;exact⟨c',b1,b2.mono mc⟩;rw[h.fo] at hl';omega;cases S;intro k um ux ty L S hM
 rcases og S with⟨hl,S⟩|⟨hl,S⟩
 rcases og hM with⟨_,hM⟩|⟨hl',_⟩
 exact Y.toks k um ux ty L S hM;rw[h.fo] at hl';omega;cases S
 rcases og hM with⟨hl',_⟩|⟨_,rfl⟩
 rw[h.fo] at hl';omega;refine⟨ig h.nW.le h.below.size,af,hs,λo ho=>?_,λo ho iK=>?_,kO.new⟩;show C.add w.heap.size 0 vs w.heap.size o=bn;rw[Cells.vS _ _ _ _ (by simp at ho⊢;omega)];exact h.fresh o;refine⟨?_,acu _ _ _ _⟩;rw[Iv];simp at iK;exact⟨cells[o],wW aa⟩;intro k k' L L' bR hM ez
 rcases og hM with⟨_,hM⟩|⟨e1,rfl⟩<;>rcases og ez with⟨_,ez⟩|⟨e2,rfl⟩
 exact h.apart k k' L L' bR hM ez;have:=(h.at hM).1;show L.b≠w.heap.size;omega;have:=(h.at ez).1;show w.heap.size≠L'.b;omega;omega
def dm.ao2{bI}{id n n' s:Nat}{ty}{L':Loc}(hC:∀b o v,C b o=a_ v->bI b o=a_ v)(hid:J[id]?=a_ (.tok n s ty))(hn:n<n')(hl:M.length=J.length):
  dm C M J bI (M.set id L') (J.set id (.tok n' s ty)):=by
 have c6:=(cJ.1 hid).1;refine⟨hC,λk Z fz S=>?_,λk um ux Uj S=>?_,λk o ho S=>?_⟩;have bR:id≠k:=by intro e;subst e;rw[hid] at S;cases S
 exact⟨Z,by rw[bC bR];exact S,λ_=>b_ _,λ_=>by rw[bC bR],λq=>by rw[bC bR];exact q⟩;by_cases e:id=k;subst e;rw[hid] at S;cases S;exact⟨n',by rw[bT c6],aa,λq=>aa,λ_=>by rw[bT aa];rfl⟩;exact⟨um,by rw[bC e];exact S,b_ _,λ_=>by rw[bC e],λq=>by rw[bC e];exact q⟩;have bR:id≠k:=by intro e;subst e;rw[hid] at S;cases S;cases ho
 exact⟨⟨o,by rw[bC bR];exact S,.refl o⟩,by rw[bC bR]⟩
def cB.aDT(h:cB G base w0 C M J w)(cells)(e)(vs)(hv:∀(i:Nat) v,vs[i]?=a_ v->cells[i]?=a_ v)
  {id n n' s cap:Nat} (hid:J[id]?=a_ (.tok n s e)) (hn:n<n') (hs:vs.length<=cap) (iq:cap<=cells.size):
  let bI:=C.add w.heap.size 0 vs
  let M':=M.set id {b:=w.heap.size,fin:=vs.length,cap:=cap}
  let bl:=J.set id (.tok n' s e)
  dm C M J bI M' bl/\cB G base w0 bI M' bl (w.alloc (.cells cells e)):=by
 intro bI M' bl;obtain⟨Ex,Y⟩:=h.W1 cells e vs hv;have mc:dm bI M J bI M' bl:=dm.ao2 (λ_ _ _ h=>h) hid hn h.fo;have c6:=(cJ.1 hid).1;refine⟨Ex.trans mc,Y.below,h.nW,Y.old,Y.rS,by simp[M',bl,h.fo],Y.n7,?_,?_,?_,Y.HF mc (λk o ho S=>⟨(Ke rfl ho S).2,bC (e4 (Ke rfl ho S).1)⟩) λb o O _=>O⟩;intro k Z fz L S hM
 rcases mu S with⟨bR,S⟩|⟨_,_,S⟩
 rcases mu hM with⟨_,hM⟩|⟨e,_⟩
 obtain⟨a1,a2,a3,a4⟩:=Y.cells k Z fz L S hM;refine⟨a1,a2,λi c T=>?_,a4⟩;obtain⟨c',b1,b2⟩:=a3 i c T;exact⟨c',b1,b2.mono mc⟩;omega;cases S;intro k um ux ty L S hM
 rcases mu S with⟨bR,S⟩|⟨rfl,_,S⟩
 rcases mu hM with⟨_,hM⟩|⟨e,_⟩
 exact Y.toks k um ux ty L S hM;omega;cases S
 rcases mu hM with⟨bR,_⟩|⟨_,_,rfl⟩
 omega;refine⟨ig h.nW.le h.below.size,af,hs,λo ho=>?_,λo ho iK=>?_,kO.new⟩;show C.add w.heap.size 0 vs w.heap.size o=bn;rw[Cells.vS _ _ _ _ (by simp at ho⊢;omega)];exact h.fresh o;refine⟨?_,acu _ _ _ _⟩;rw[Iv];simp at iK;exact⟨cells[o],wW aa⟩;intro k k' L L' bR hM ez
 rcases mu hM with⟨_,hM⟩|⟨e1,_,rfl⟩<;>rcases mu ez with⟨_,ez⟩|⟨e2,_,rfl⟩
 exact h.apart k k' L L' bR hM ez;have:=(h.at hM).1;show L.b≠w.heap.size;omega;have:=(h.at ez).1;show w.heap.size≠L'.b;omega;omega
def GO(b:Nat):∀(vs) (o:Nat) (w:World) (k:Nat),k≠b->(w.setCells b o vs).heap[k]?=w.heap[k]?
 |[],_,_,_,_=>rfl
 |v::r,o,_,k,h=>by rw[Pj,GO b r (o+1) _ k h];exact aq9 _ _ _ _ h
def H9(b:Nat):∀(vs) (o:Nat) (w:World),(w.setCells b o vs).heap.size=w.heap.size
 |[],_,_=>rfl
 |v::r,o,_=>by rw[Pj,H9 b r (o+1)];simp
def VT{a}(b:Nat)(O:B<=b):∀(vs) (o:Nat) (w),Below B a w->Below B a (w.setCells b o vs)
 |[],_,_,h=>h
 |v::r,o,_,h=>VT b O r (o+1) _ (h.setCell O v)
def oC.setCells{e}(b':Nat):∀(vs) (o:Nat) (w),oC w b e->oC (w.setCells b' o vs) b e
 |[],_,w,h=>h
 |v::r,o,w,h=>by rw[Pj];exact oC.setCells b' r (o+1) _ (h.set _ _)
def kO.setCells(hf:fin<=Gs)(b':Nat):∀(vs) (o:Nat) (w),kO w b fin e->kO (w.setCells b' o vs) b Gs e
 |[],_,_,h=>h.up hf
 |v::r,o,w,h=>by rw[Pj];exact kO.setCells hf b' r (o+1) _ (h.set (b_ _) _ _)
def cB.awy(h:cB G base w0 C M J w)(vs){s:Nat}(hid:J[id]?=a_ (.tok n s ty))(hM:M[id]?=a_ L)(hn:n<n')(hfit:L.fin+vs.length<=L.cap):
  let bI:=C.add L.b L.fin vs
  let M':=M.set id {L with fin:=L.fin+vs.length}
  let bl:=J.set id (.tok n' s ty)
  dm C M J bI M' bl/\cB G base w0 bI M' bl (w.setCells L.b L.fin vs):=by
 intro bI M' bl;obtain⟨t1,t2,t3,t4,t5,t6⟩:=h.toks id n s ty L hid hM;have ahq:=λb o v T=>by
  show C.add L.b L.fin vs b o=a_ v;rw[Cells.vS];exact T;rintro⟨rfl,q1,bt⟩;rw[t4 o q1] at T;cases T
 have bJ:dm C M J bI M' bl:=dm.ao2 ahq hid hn h.fo;have c6:=(cJ.1 hid).1;have qE:∀b o,¬(b=L.b/\L.fin<=o/\o<L.fin+vs.length)->(w.setCells L.b L.fin vs).cell? ⟨b,o,bn⟩=w.cell? ⟨b,o,bn⟩:=λb o Cw=>
  aJe L.b vs L.fin w ⟨b,o,bn⟩ (λe _=>by simp at e⊢;omega)
 refine⟨bJ,VT L.b t1 vs L.fin w h.below,h.nW,λb o v T O=>h.old b o v (by have jr:C.add L.b L.fin vs b o=a_ v:=T;rwa [Cells.vS _ _ _ _ (λq=>aa)] at jr) O,λb o v hg=>ahq _ _ _ (h.rS b o v hg),by simp[M',bl,h.fo],?_,?_,?_,?_,λk o L₁ ho S iS=>?_⟩;intro b o v T;by_cases O:b=L.b/\L.fin<=o/\o<L.fin+vs.length;obtain⟨rfl,q1,bt⟩:=O;obtain⟨j,rfl⟩:∃j,o=L.fin+j:=⟨o-L.fin,aa⟩;have hj:j<vs.length:=aa
 have e:=Cells.F2 C L.b L.fin vs j hj;have jr:C.add L.b L.fin vs L.b (L.fin+j)=a_ v:=T;rw[e,cu hj] at jr;rw[aJd L.b vs L.fin w (λi Q=>by
  obtain⟨⟨x,I⟩,_⟩:=t5 (L.fin+i) aa aa;rw[I];rfl) j hj]
 exact jr;have jr:C.add L.b L.fin vs b o=a_ v:=T;rw[Cells.vS _ _ _ _ O] at jr;rw[qE b o O];exact h.n7 b o v jr;intro k Z fz L₁ S iS
 rcases mu S with⟨bR,S⟩|⟨_,_,S⟩
 rcases mu iS with⟨_,iS⟩|⟨e,_⟩
 obtain⟨a1,a2,a3,a4⟩:=h.cells k Z fz L₁ S iS;have O:=h.apart k id L₁ L bR iS hM;obtain⟨q1,bt,bV⟩:=a4;refine⟨a1,aM_,λi c T=>?_,λi=>by rw[Pg];exact q1 i,λo=>?_,λo ho=>aMO,bV.2.same (GO _ _ _ _ _ O)⟩;obtain⟨c',b1,b2⟩:=a3 i c T;exact⟨c',by rw[qE _ _ (λq=>O q.1)];exact b1,b2.mono bJ⟩;show C.add L.b L.fin vs L₁.b o=bn;rw[Cells.vS _ _ _ _ (λq=>O q.1)];exact bt o;omega;cases S;intro k um ux ty L₁ S iS
 rcases mu S with⟨bR,S⟩|⟨rfl,_,S⟩
 rcases mu iS with⟨_,iS⟩|⟨e,_⟩
 obtain⟨a1,a2,a3,a4,a5,a6⟩:=h.toks k um ux ty L₁ S iS;have O:=h.apart k id L₁ L bR iS hM;refine⟨a1,aM_,a3,λo ho=>?_,λo ho iK=>?_,a6.same (GO _ _ _ _ _ O)⟩;show C.add L.b L.fin vs L₁.b o=bn;rw[Cells.vS _ _ _ _ (λq=>O q.1)];exact a4 o ho;rw[qE _ _ (λq=>O q.1),Pg];exact a5 o ho iK;omega;cases S
 rcases mu iS with⟨bR,_⟩|⟨_,_,rfl⟩
 omega;refine⟨t1,by rw[H9];exact t2,hfit,λo ho=>?_,λo ho iK=>?_,kO.setCells (Nat.le_add_right _ _) _ _ _ _ t6⟩;show C.add L.b L.fin vs L.b o=bn;simp at ho;rw[Cells.vS _ _ _ _ aa];exact t4 o aa;simp at ho iK;rw[Pg];show(∃v,(w.setCells L.b L.fin vs).cell? ⟨L.b,o,bn⟩=a_ v)/\_;rw[qE L.b o aa];exact t5 o aa iK;intro k k' L₁ ac7 bR iS awV
 rcases mu iS with⟨_,q1⟩|⟨e1,_,rfl⟩<;>rcases mu awV with⟨_,bt⟩|⟨e2,_,rfl⟩
 exact h.apart k k' L₁ ac7 bR q1 bt;exact h.apart k id L₁ L aa q1 hM;exact h.apart id k' L ac7 aa hM bt;omega;obtain⟨bR,gi⟩:=Ke rfl ho S;have ez:M[k]?=a_ L₁:=by have q:(M.set id {L with fin:=L.fin+vs.length})[k]?=a_ L₁:=iS;rwa [bC (e4 bR)] at q
 obtain⟨a1,x,a2,a3,a4⟩:=h.gF k o L₁ ho gi ez;exact⟨a1,x,by rw[GO _ _ _ _ _ (h.apart k id L₁ L bR ez hM)];exact a2,a3,a4.mono bJ⟩
def dS(Z:List bg)(off:Nat)(vs:List bg):List bg:=Z.take off++vs++Z.drop (off+vs.length)
def Ts{vs}(h:off+vs.length<=Z.length)(i:Nat):
  (dS Z off vs)[i]?=if i<off then Z[i]? else if i<off+vs.length then vs[i-off]? else Z[i]? :=by
 unfold dS;have Y:(Z.take off).length=off:=ah
 by_cases c1:i<off;rw[if_pos c1,dN,fT aa,Dt c1];rw[if_neg c1,dN,fJ aa,Y];by_cases c2:i<off+vs.length;rw[if_pos c2,fT aa];rw[if_neg c2,fJ aa,tC];congr 1;omega
def Tt{vs}(h:off+vs.length<=Z.length):(dS Z off vs).length=Z.length:=by
 unfold dS;simp;omega
def dm.setCells{cs'}(hC:∀b o v,C b o=a_ v->bI b o=a_ v)(S:J[k]?=a_ (.cells Z row))(hl:cs'.length=Z.length):
  dm C M J bI M (J.set k (.cells cs' row)):=by
 have c6:=(cJ.1 S).1;refine⟨hC,λj zb W6 hj=>?_,λj um ux Uj hj=>?_,λj o ho hj=>?_⟩;by_cases e:k=j;subst e;rw[S] at hj;cases hj;exact⟨cs',bT c6,λ_=>aa,λ_=>rfl,λh=>h⟩;exact⟨zb,aLO,λ_=>b_ _,λ_=>rfl,λh=>h⟩;have e:k≠j:=aMZ
 exact⟨um,aLO,b_ _,λ_=>rfl,λh=>h⟩;exact⟨⟨o,by rw[bC aMh];exact hj,.refl o⟩,rfl⟩
def dm.ahe{cs'}(hC:∀b o v,C b o=a_ v->bI b o=a_ v)(S:J[k]?=a_ (.cells Z bh))(hl:M.length=J.length)(hg:Z.length<cs'.length\/(cs'.length=Z.length/\M[k]?=a_ L')):
  dm C M J bI (M.set k L') (J.set k (.cells cs' bh)):=by
 have c6:=(cJ.1 S).1;refine⟨hC,λj zb W6 hj=>?_,λj um ux Uj hj=>?_,λj o ho hj=>?_⟩;by_cases e:k=j;subst e;rw[S] at hj;cases hj;refine⟨cs',bT c6,λ_=>aa,λq=>?_,λh=>by rw[bT aa];rfl⟩;have:=q rfl
 rcases hg with hg|⟨_,hg⟩
 omega;rw[bT aa,hg];exact⟨zb,aLO,λ_=>b_ _,λ_=>by rw[bC e],λh=>aM6⟩;have e:k≠j:=aMZ
 exact⟨um,aLO,b_ _,λ_=>by rw[bC e],λh=>aM6⟩;have e:k≠j:=aMh
 exact⟨⟨o,aLO,.refl o⟩,by rw[bC e]⟩
def cB.apK(h:cB G base w0 C M J w){cs'}(S:J[k]?=a_ (.cells Z row))(hM:M[k]?=a_ L)
  (off:Nat) (us) (vs) (D:dH C M J us vs) (bJ:dm C M J C M (J.set k (.cells cs' row))) (hfit:off+us.length<=Z.length\/off+us.length<=L.cap)
  (RI:∀(i:Nat),cs'[i]?=if i<off then Z[i]? else if i<off+us.length then us[i-off]? else Z[i]?):
  cB G base w0 C M (J.set k (.cells cs' row)) (w.setCells L.b off vs):=by
 obtain⟨t1,t2,t3,OM,Fo,vA,aqf⟩:=h.cells k Z row L S hM;have cW:=D.1;have qE:∀b o,¬(b=L.b/\off<=o/\o<off+vs.length)->(w.setCells L.b off vs).cell? ⟨b,o,bn⟩=w.cell? ⟨b,o,bn⟩:=λb o Cw=>
  aJe L.b vs off w ⟨b,o,bn⟩ (λe _=>by simp at e⊢;omega)
 have lK:=aJd L.b vs off w (λq hq=>by
  rcases hfit with hfit|hfit
  obtain⟨c',b1,_⟩:=t3 (off+q) _ (cu aa);rw[b1];rfl;obtain⟨c',b1⟩:=vA (off+q) aa;rw[b1];rfl)
 refine⟨VT L.b t1 vs off w h.below,h.nW,h.old,h.rS,aNy,?_,?_,?_,h.apart,λj o L₁ ho hj iS=>?_⟩;intro b o v T;rw[qE b o (by rintro⟨rfl,_⟩;rw[Fo o] at T;cases T)];exact h.n7 b o v T;intro j zb W6 L₁ hj iS
 rcases mu hj with⟨bR,hj⟩|⟨rfl,_,hj⟩
 obtain⟨a1,a2,a3,q1,bt,bV⟩:=h.cells j zb W6 L₁ hj iS;have O:=h.apart j k L₁ L bR iS hM;refine⟨a1,aM_,λi c T=>?_,λi=>by rw[Pg];exact q1 i,bt,λo ho=>aMO,bV.2.same (GO _ _ _ _ _ O)⟩;obtain⟨c',b1,b2⟩:=a3 i c T;exact⟨c',by rw[qE _ _ (λq=>O q.1)];exact b1,b2.mono bJ⟩;cases hj;rw[hM] at iS;cases iS;refine⟨t1,by rw[H9];exact t2,λi c T=>?_,λi=>by rw[Pg];exact OM i,Fo,λo ho=>?_,aqf.setCells _ _ _ _⟩;rw[RI] at T;by_cases c1:i<off;rw[if_pos c1] at T;obtain⟨c',b1,b2⟩:=t3 i c T;exact⟨c',by rw[qE _ _ aa];exact b1,b2.mono bJ⟩;rw[if_neg c1] at T;by_cases c2:i<off+us.length;rw[if_pos c2] at T;obtain⟨c',b1,b2⟩:=D.get T;have hj:i-off<vs.length:=aa
 have:=lK (i-off) hj;rw[show off+(i-off)=i by omega] at this;refine⟨c',?_,b2.mono bJ⟩;rw[this,<-b1,cu hj];rw[if_neg c2] at T;obtain⟨c',b1,b2⟩:=t3 i c T;exact⟨c',by rw[qE _ _ aa];exact b1,b2.mono bJ⟩;by_cases c1:off<=o/\o<off+vs.length;have:=lK (o-off) aa;rw[show off+(o-off)=o by omega] at this;have hq:o-off<vs.length:=aa
 exact⟨vs[o-off],this⟩;rw[qE _ _ aa];exact vA o ho;intro j um ux ty L₁ hj iS
 rcases mu hj with⟨bR,hj⟩|⟨_,_,hj⟩
 obtain⟨a1,a2,a3,a4,a5,a6⟩:=h.toks j um ux ty L₁ hj iS;have O:=h.apart j k L₁ L bR iS hM;refine⟨a1,aM_,a3,a4,λo ho iK=>?_,a6.same (GO _ _ _ _ _ O)⟩;rw[qE _ _ (λq=>O q.1),Pg];exact a5 o ho iK;cases hj;obtain⟨bR,wj⟩:=Ke rfl ho hj;obtain⟨a1,x,a2,a3,a4⟩:=h.gF j o L₁ ho wj iS;exact⟨a1,x,by rw[GO _ _ _ _ _ (h.apart j k L₁ L bR iS hM)];exact a2,a3,a4.mono bJ⟩
def cB.store(h:cB G base w0 C M J w)(S:J[k]?=a_ (.cells Z row))(hM:M[k]?=a_ L)
  (off:Nat) (us) (vs) (D:dH C M J us vs) (hfit:off+us.length<=Z.length):
  dm C M J C M (J.set k (.cells (dS Z off us) row))/\cB G base w0 C M (J.set k (.cells (dS Z off us) row)) (w.setCells L.b off vs):=by
 have bJ:dm C M J C M (J.set k (.cells (dS Z off us) row)):=dm.setCells (λ_ _ _ h=>h) S (Tt hfit);exact⟨bJ,h.apK S hM off us vs D bJ (bD hfit) λi=>Ts hfit i⟩
def aGx(h:w.cell? ⟨b,o,bn⟩=a_ v):w.setCell ⟨b,o,bn⟩ v=w:=by
 have key:w.heap.modify b (λ
   |.cells c Wt frozen=>.cells (if(bn:Option Nat).isSome then c else c.setIfInBounds o v) Wt frozen
   |o=>o)=w.heap:=by
  apply aI7;intro i;rw[Fy];split;rename_i e;subst e;cases I:w.heap[b]? with
  |none=>rfl
  |some x=>
   cases x with
   |cells c ty fr=>
    have T:c[o]?=a_ v:=by simpa[Iu,I] using h
    simp only[j3,Ak,kJ,if_false];congr 2;apply aI7;intro j;rw[Array.getElem?_setIfInBounds];split;rename_i e;subst e;split;exact T.symm;rename_i hn;rw[aqM aa] at T;cases T;rfl
   |_=>rfl
  rfl
 show({w with heap:=_}:World)=w
 exact congrArg (λq=>({w with heap:=q}:World)) key
def cB.aHR(h:cB G base w0 C M J w){z}(S:J[k]?=a_ (.cells (.v (.pointer bn)::z) bf))(hM:M[k]?=a_ L):
  dm C M J C M (J.set k (.cells (.iJ k L.ty::z) bf))/\cB G base w0 C M (J.set k (.cells (.iJ k L.ty::z) bf)) w:=by
 obtain⟨bJ,hs⟩:=h.store S hM 0 [.iJ k L.ty] [.pointer bn] ⟨rfl,λi a b ha O=>by
  cases i with
  |zero=>simp at ha O;subst ha;subst O;exact .iJ S hM
  |succ i=>simp at ha⟩ af
 obtain⟨_,_,h3,_⟩:=h.cells k _ _ L S hM;obtain⟨c',h4,h5⟩:=h3 0 (.v (.pointer bn)) rfl;cases h5;have e:w.setCells L.b 0 [.pointer bn]=w:=by
  rw[Pj,Pj];exact aGx h4
 rw[e] at hs;exact⟨bJ,hs⟩
def XO(w:World)(a)(n k:Nat)(S:k≠a.block):(w.freeze a n).heap[k]?=w.heap[k]? :=by
 unfold UJ;split;rfl;show(w.heap.modify a.block _)[k]?=_;rw[Fy,if_neg (e4 S)]
def ahP(w:World)(a)(n k:Nat)(o:Obj)(h:w.heap[k]?=a_ o)(ho:uL o):(w.freeze a n).heap[k]?=a_ o:=by
 unfold UJ;split;exact h;show(w.heap.modify a.block _)[k]?=_;rw[Fy];split;rw[h];cases o with
 |cells c t f=>exact(ho c t f rfl).elim
 |_=>rfl
 exact h
def aa6(w:World)(a)(n:Nat):(w.freeze a n).heap.size=w.heap.size:=by
 unfold UJ;split;rfl;show(w.heap.modify a.block _).size=_;simp
def avF{lo Q:Nat}{Z}(a)(n:Nat)(h:w.heap[k]?=a_ (.cells Z e (lo,Q))):∃fr,(w.freeze a n).heap[k]?=a_ (.cells Z e fr):=by
 by_cases O:k=a.block;unfold UJ;split;exact⟨_,h⟩;refine⟨if lo==Q then(a.off,a.off+n) else(min lo a.off,max Q (a.off+n)),?_⟩;show(w.heap.modify a.block _)[k]?=_;rw[Fy,if_pos O.symm,h];rfl;exact⟨_,by rw[XO _ _ _ _ O];exact h⟩
def Qo(w:World)(a c)(n:Nat):(w.freeze a n).cell? c=w.cell? c:=by
 unfold Iu;cases I:w.heap[c.block]? with
 |none=>rw[aqM (by rw[aa6];exact Array.getElem?_eq_none_iff.1 I)]
 |some x=>
  cases x with
  |cells Z e fr=>
   obtain⟨lo,Q⟩:=fr;obtain⟨aJV,q⟩:=avF a n I;rw[q]
  |_=>rw[ahP _ _ _ _ _ I (λc t f q=>ax)]
def cB.avE(h:cB G base w0 C M J w){c s:Nat}(hid:J[id]?=a_ (.tok c s ty))(hM:M[id]?=a_ L)(ha:L.b=a.block)(hfit:a.off+n<=L.fin):
  cB G base w0 C M J (w.freeze a n):=by
 obtain⟨t1,t2,_⟩:=h.toks id c s ty L hid hM;refine⟨Lib.below_freeze h.below aa n,h.nW,h.old,h.rS,h.fo,λb o v T=>by rw[Qo];exact h.n7 b o v T,?_,?_,h.apart,?_⟩;intro k Z fz L' S ez;obtain⟨Y,V,h3,h4,h5,h6,h7⟩:=h.cells k Z fz L' S ez;have bR:k≠id:=by intro q;subst q;rw[hid] at S;cases S
 have O:L'.b≠a.block:=by rw[<-ha];exact h.apart k id L' L bR ez hM
 refine⟨Y,by rw[aa6];exact V,λi x I=>?_,λi=>?_,h5,λo ho=>?_,h7.same (XO _ _ _ _ O)⟩;obtain⟨c',a1,a2⟩:=h3 i x I;exact⟨c',by rw[Qo];exact a1,a2⟩;have:=h4 i;unfold acs at this⊢;rw[XO _ _ _ _ O];exact this;obtain⟨v,hv⟩:=h6 o ho;exact⟨v,by rw[Qo];exact hv⟩;intro k n' s' abG L' S ez;obtain⟨Y,V,h3,h4,h5,h6⟩:=h.toks k n' s' abG L' S ez;have hT:=h6.freeze a n λO=>by
  by_cases bR:k=id;subst bR;rw[hM] at ez;cases ez;exact hfit;exact(h.apart k id L' L bR ez hM (by rw[O,ha])).elim
 refine⟨Y,by rw[aa6];exact V,h3,h4,λo ho iK=>⟨?_,hT.free o ho⟩,hT⟩;obtain⟨⟨v,hv⟩,_⟩:=h5 o ho iK;exact⟨v,by rw[Qo];exact hv⟩;intro k b L' O S ez;obtain⟨Y,o,V,h3,h4⟩:=h.gF k b L' O S ez;exact⟨Y,o,ahP _ _ _ _ _ V h3,h3,h4⟩
def cB.aDS(h:cB G base w0 C M J w)(cells)(e)(cs')(vs)(D:dH C M J cs' vs)(hv:∀(i:Nat) v,vs[i]?=a_ v->cells[i]?=a_ v)(iq:cap<=cells.size)(S:J[k]?=a_ (.cells Z bh))(c6:Z.length<cs'.length):
  dm C M J C (M.set k {b:=w.heap.size,cap:=cap,ty:=(e,cells.size)}) (J.set k (.cells cs' bh))/\cB G base w0 C (M.set k {b:=w.heap.size,cap:=cap,ty:=(e,cells.size)}) (J.set k (.cells cs' bh)) (w.alloc (.cells cells e)):=by
 have bJ:dm C M J C (M.set k {b:=w.heap.size,cap:=cap,ty:=(e,cells.size)}) (J.set k (.cells cs' bh)):=dm.ahe (λ_ _ _ h=>h) S h.fo (bD c6);have Ek:=ig h.nW.le h.below.size;have eP:=(cJ.1 S).1;refine⟨bJ,h.below.alloc Ek _,h.nW,h.old,h.rS,aNy,?_,?_,?_,?_,h.HF bJ (λj o ho hj=>⟨(Ke rfl ho hj).2,bC (e4 (Ke rfl ho hj).1)⟩) λb o O _=>RL _ _ _ _ O⟩;intro b o v T;have hw:=h.n7 b o v T;rw[uC _ _ _ (UI _ _ hw)];exact hw;intro j zb fz L hj hM
 rcases mu hj with⟨bR,hj⟩|⟨rfl,_,hj⟩
 rcases mu hM with⟨_,hM⟩|⟨e,_⟩
 obtain⟨Y,V,h3,q1,bt,bV⟩:=h.cells j zb fz L hj hM;refine⟨Y,ah,λi c T=>?_,λi=>by rw[Iw _ _ _ aLq];exact q1 i,bt,λo ho=>by rw[uC _ _ _ aLN];exact bV.1 o ho,bV.2.alloc V _⟩;obtain⟨c',a1,a2⟩:=h3 i c T;exact⟨c',by rw[uC _ _ _ aLN];exact a1,a2.mono bJ⟩;omega;cases hj
 rcases mu hM with⟨bR,_⟩|⟨_,_,rfl⟩
 omega;refine⟨Ek,af,λi c T=>?_,λi=>acu _ _ _ _,λo=>h.fresh o,λo ho=>?_,oC.new⟩;obtain⟨c',a1,a2⟩:=D.get T;exact⟨c',by rw[Iv];exact hv _ _ a1,a2.mono bJ⟩;rw[Iv];have ho:o<cap:=ho;exact⟨cells[o],wW aa⟩;intro j n s ty L hj hM
 rcases mu hj with⟨bR,hj⟩|⟨_,_,hj⟩
 rcases mu hM with⟨_,hM⟩|⟨e,_⟩
 obtain⟨Y,V,h3,h4,h5,h6⟩:=h.toks j n s ty L hj hM;refine⟨Y,ah,h3,h4,λo ho iK=>?_,h6.alloc V _⟩;obtain⟨a1,a2⟩:=h5 o ho iK;exact⟨by rw[uC _ _ _ aLN];exact a1,by rw[Iw _ _ _ aLq];exact a2⟩;omega;cases hj;intro j j' L L' bR hM ez
 rcases mu hM with⟨_,hM⟩|⟨e1,_,rfl⟩<;>rcases mu ez with⟨_,ez⟩|⟨e2,_,rfl⟩
 exact h.apart j j' L L' bR hM ez;have:=(h.at hM).1;show L.b≠w.heap.size;omega;have:=(h.at ez).1;show w.heap.size≠L'.b;omega;omega
inductive dK where
 |t (n:Nat)
 |c (a:bg)
def jN:bg:=.bQ []
def ev(ts:List bg):dK->bg
 |.t n=>(ts[n]?).getD jN
 |.c a=>a
def OO:Value->Option bg
 |.slice bn 0 0=>a_ .bq
 |.func f fs Z=>if fs.size=0/\Z.size=0 then a_ (.fn f [] []) else bn
 |x=>if plain x then a_ (.v x) else bn
def eu:Operand->Option dK
 |.tmp t=>a_ (.t t)
 |.const v=>(OO v).map .c
 |.func f=>a_ (.c (.fn (.func f) [] []))
 |.global _=>bn
def Dc:List Value->Option (List bg)
 |[]=>a_ []
 |x::r=>match OO x,Dc r with
  |some a,a_ l=>a_ (a::l)
  |_,_=>bn
def uw:List Operand->Option (List dK)
 |[]=>a_ []
 |x::r=>match eu x,uw r with
  |some a,a_ l=>a_ (a::l)
  |_,_=>bn
def oz(C:Cells)(M:List Loc)(J:List br)(ts:List bg)(tmps:Array Value):Prop:=dH C M J ts tmps.toList
section
variable{G:Cells}{base:Nat}{w0:lD}{w:World}{C:Cells}{M:List Loc}{J:List br}{P:Program}
def HT:bP C M J jN undef:=.bQ rfl (λi a b h=>av)
def aaN{x}{a:bg}(h:OO x=a_ a):bP C M J a x:=by
 unfold OO at h;split at h;cases h;exact .bq;split at h;rename_i hq;cases h;exact .fn (by simp[hq.1]) (by simp[hq.2]) (λi a b h=>av) (λi a b h=>av);cases h;split at h;rename_i bl;cases h;exact .v bl;cases h
def C4:∀{xs} {l},Dc xs=a_ l->dH C M J l xs
 |[],l,h=>by cases h;exact⟨rfl,λi a b h=>av⟩
 |x::r,l,h=>by
  simp only[Dc] at h;split at h;rename_i a l' Y V;cases h;have ih:=C4 V;refine⟨by simp[ih.1],λi a' b' e1 e2=>?_⟩;cases i with
  |zero=>simp at e1 e2;subst e1;subst e2;exact aaN Y
  |succ i=>simp at e1 e2;exact ih.2 i a' b' e1 e2
  cases h
def W0{tmps}(h:oz C M J ts tmps)(n:Nat):bP C M J ((ts[n]?).getD jN) (tmps.getD n undef):=by
 rcases ei n ts.length with hl|hl
 have hl':n<tmps.size:=by have:=h.1;simp at this;omega
 have:=h.2 n ts[n] tmps[n] (cu hl) (by simp[hl']);simpa[cu hl,Array.getD,hl'] using this;have hl':tmps.size<=n:=by have:=h.1;simp at this;omega
 have e:tmps.getD n undef=undef:=by simp[Array.getD,Nat.not_lt.2 hl']
 rw[jV hl,e];exact HT
def eZ{a:Act}(h:oz C M J ts a.tmps){x}{o:dK}(I:eu x=a_ o):bP C M J (ev ts o) (a.eval x):=by
 cases x with
 |tmp t=>cases I;exact W0 h t
 |const v=>
  simp only[eu,dF] at I;obtain⟨bE,Y,rfl⟩:=I;exact aaN Y
 |global g=>cases I
 |func f=>cases I;exact .fn rfl rfl (λi a b h=>av) (λi a b h=>av)
def agM{a:Act}(h:oz C M J ts a.tmps)(D:bP C M J x y)(d:Nat):
  oz C M J (ts.set d x) (a.put (a_ d) y).tmps:=by
 have cW:ts.length=a.tmps.size:=aNa
 refine⟨by simp[Act.put,cW],λi u v hu hv=>?_⟩;simp only[Act.put,Array.toList_setIfInBounds] at hv
 rcases mu hu with⟨bR,hu⟩|⟨rfl,hl,rfl⟩
 rw[bC (e4 bR)] at hv;exact h.2 i u v hu hv;rw[bT (by simpa[cW] using hl)] at hv;simp at hv;subst hv;exact D
def gX(G:Cells)(base:Nat)(w0:lD)(C:Cells)(M:List Loc)(J:List br)(P:Program)(m:Sem Value)(w:World)(r:bg)(bl:List br):Prop:=
 ∃bI M' v' w',m.run P w=.ok v' w'/\dm C M J bI M' bl/\cB G base w0 bI M' bl w'/\bP bI M' bl r v'
def gX.same{m}(h:cB G base w0 C M J w)(D:m.run P w=.ok v w)(hv:bP C M J r v):gX G base w0 C M J P m w r J:=
 ⟨C,M,v,w,D,dm.refl _ _ _,h,hv⟩
def kH(P:Program)(t:TypeId):Option Bool:=
 match P.underlying t with
 |some (.struct _)|some (.array _ _)=>a_ bh
 |some _=>a_ bf
 |none=>bn
def jM(P:Program)(t:TypeId):Option Nat:=(P.info? t).map (·.size)
def aaU{b}(h:kH P t=a_ b)(w):(isAgg t).run P w=.ok b w:=by
 unfold kH at h;cases hd:P.underlying t with
 |none=>simp[hd] at h
 |some d=>
  rw[hd] at h;unfold isAgg;simp only[gy,run_underlying hd,gI];cases d<;>simp at h<;>subst h<;>rfl
def qN(h:jM P t=a_ n)(w):(sizeOf t).run P w=.ok n w:=by
 unfold jM at h;simp only[dF] at h;obtain⟨i,Q,rfl⟩:=h;simp[sizeOf,typeInfo,Q]
def e9(bN:Bool)(n:Nat)(Z:List bg)(off:Nat):Option bg:=
 if bN then(if off+n<=Z.length then a_ (.agg ((Z.drop off).take n)) else bn) else Z[off]?
def addr_add(b o n:Nat):(⟨b,o,bn⟩:Addr).add n=⟨b,o+n,bn⟩:=by unfold Addr.add;split<;>simp_all
def KA(dY:kH P t=a_ bN)(hn:jM P t=a_ n)
  (zw:∀(i:Nat) c,Z[i]?=a_ c->∃c',w.cell? ⟨b,o+i,bn⟩=a_ c'/\bP C M J c c') (D:e9 bN n Z off=a_ r):
  ∃v,(loadVar t ⟨b,o+off,bn⟩).run P w=.ok v w/\bP C M J r v:=by
 unfold loadVar;simp only[gy,aaU dY,gI];unfold e9 at D;cases bN with
 |true=>
  simp only[if_true] at D⊢;split at D;rename_i hfit;cases D;have GK:∀j,j<n->∃c',w.cell? ⟨b,o+off+j,bn⟩=a_ c'/\∃c,Z[off+j]?=a_ c/\bP C M J c c':=λj hj=>by
   obtain⟨c',Y,V⟩:=zw (off+j) Z[off+j] (cu aa);exact⟨c',by rw[mB];exact Y,_,cu aa,V⟩
  have hl:=run_loadCells (P:=P) w ⟨b,o+off,bn⟩ n (λj=>(w.cell? ⟨b,o+off+j,bn⟩).getD undef) (λj hj=>by
   obtain⟨c',Y,_⟩:=GK j hj;rw[addr_add];simp[Y])
  refine⟨.agg ((iy n).map (λj=>(w.cell? ⟨b,o+off+j,bn⟩).getD undef)).toArray,?_,?_⟩;simp only[gy,qN hn,gI,hl,mR];refine .agg ah (λi a c ha T=>?_);have Q:i<n:=by
   have:=(cJ.1 ha).1;simp at this;omega
  obtain⟨c',Y,c0,V,h3⟩:=GK i Q;simp only[UM,tC] at ha;rw[if_pos Q,V] at ha;cases ha;simp[Q,Y] at T;subst T;exact h3;cases D
 |false=>
  simp only[kJ,if_false] at D⊢;obtain⟨c',Y,V⟩:=zw off r D;exact⟨c',aMw,V⟩
def bz(J:List br)(bN:Bool)(n:Nat):bg->Option bg
 |.fp Z off=>e9 bN n Z off
 |.mp k off=>match J[k]? with
  |some (.cells Z bf)=>e9 bN n Z off
  |_=>bn
 |.rp k m off=>match J[k]? with
  |some (.cells Z bh)=>if m=Z.length then e9 bN n Z off else bn
  |_=>bn
 |_=>bn
def awg(dY:kH P t=a_ bN)(hn:jM P t=a_ n)(h:cB G base w0 C M J w)(I:bP C M J x y)(D:bz J bN n x=a_ r):gX G base w0 C M J P (aci t y) w r J:=by
 unfold bz at D;split at D;rename_i Z off;cases I with
 |fp f hC hR=>
  rename_i b o;obtain⟨v,Y,V⟩:=KA dY hn (λi c T=>⟨f i,h.n7 _ _ _ (hC i c T),hR i c T⟩) D;exact .same h (by simp[aci,Pb,Y]) V
 rename_i k off;cases I with
 |mp O hM=>
  rename_i L Z;rw[O] at D;simp only at D;obtain⟨t1,t2,t3,t4⟩:=h.cells k Z bf L O hM;obtain⟨v,Y,V⟩:=KA dY hn (λi c T=>by
   obtain⟨c',a1,a2⟩:=t3 i c T;exact⟨c',aNb,a2⟩) D
  rw[gA] at Y;exact .same h (by simp[aci,Pb,Y]) V
 rename_i k m off;cases I with
 |rp O hM rX ha=>
  rename_i L Z a;rw[O] at D;simp only at D;split at D;rename_i hm;have ha:=ha hm;subst ha;obtain⟨t1,t2,t3,t4⟩:=h.cells k Z bh L O hM;obtain⟨v,Y,V⟩:=KA dY hn (λi c T=>by
   obtain⟨c',a1,a2⟩:=t3 i c T;exact⟨c',aNb,a2⟩) D
  rw[gA] at Y;exact .same h (by simp[aci,Pb,Y]) V;cases D
 cases D
def TA(h:bP C M J x y):dH C M J x.cells y.cells.toList:=by
 have vu:∀{x:bg} {y},bP C M J x y->dH C M J [x] [y]:=λh=>⟨rfl,λi a b e1 e2=>by
  cases i with
  |zero=>simp at e1 e2;subst e1;subst e2;exact h
  |succ i=>simp at e1⟩
 cases h with
 |agg hl h=>exact⟨by simp[bg.cells,Ag,hl],λi a b e1 e2=>h i a b (by simpa[bg.cells] using e1) aNB⟩
 |v h=>
  have T:y.cells= #[y]:=by cases y<;>first|rfl|simp[plain] at h
  rw[T];exact vu (.v h)
 |bQ hl h=>exact vu (.bQ hl h)
 |bq=>exact vu .bq
 |sl f a b c d e g=>exact vu (.sl f a b c d e g)
 |fp f a b=>exact vu (.fp f a b)
 |mp a b=>exact vu (.mp a b)
 |rp a b c d=>exact vu (.rp a b c d)
 |rs a b c d e=>exact vu (.rs a b c d e)
 |gE a b=>exact vu (.gE a b)
 |fn a b c d=>exact vu (.fn a b c d)
 |eD a=>exact vu (.eD a)
 |gm a b=>exact vu (.gm a b)
 |jo a b=>exact vu (.jo a b)
 |iJ a b=>exact vu (.iJ a b)
def dH.rO(h:dH C M J Z cs')(Y:Z.all bg.one=bh):∀v∈cs',v.oneCell'=bh:=by
 intro v hv;obtain⟨i,Q,rfl⟩:=Iy hv;have hl:i<Z.length:=by rw[h.1];exact Q
 exact(h.2 i Z[i] cs'[i] (cu hl) (cu Q)).one (eG.1 Y _ (Pq hl))
def fu(J:List br)(k:Nat)(row:Bool)(Z:List bg)(n off:Nat)(x:bg):Option (List br):=
 if x.cells.length=n/\off+n<=Z.length/\x.cells.all bg.one=bh then a_ (J.set k (.cells (dS Z off x.cells) row)) else bn
def bL(J:List br)(n:Nat)(p x:bg):Option (List br):=
 match p with
 |.mp k off=>match J[k]? with
  |some (.cells Z bf)=>fu J k bf Z n off x
  |_=>bn
 |.rp k m off=>match J[k]? with
  |some (.cells Z bh)=>if m=Z.length then fu J k bh Z n off x else bn
  |_=>bn
 |_=>bn
def aoO(hn:jM P t=a_ n)(h:cB G base w0 C M J w)(O:J[k]?=a_ (.cells Z row))(hM:M[k]?=a_ L)(I:bP C M J x x')(hs:fu J k row Z n off x=a_ bl):∃w',(aqW t (.pointer (a_ ⟨L.b,off,bn⟩)) x').run P w=.ok () w'/\dm C M J C M bl/\cB G base w0 C M bl w':=by
 unfold fu at hs;split at hs;rename_i T;obtain⟨c1,c2,c3⟩:=T;cases hs;have D:=TA I;obtain⟨bJ,dZ⟩:=h.store O hM off x.cells x'.cells.toList D aa;obtain⟨t1,t2,t3,t4⟩:=h.cells k Z row L O hM;have cW:x'.cells.toList.length=n:=by rw[<-D.1];exact c1
 refine⟨_,?_,bJ,dZ⟩;have e8:=run_storeCells_cells (P:=P) L.b off x'.cells.toList 0 w (λj hj=>by
  obtain⟨c',a1,_⟩:=t3 (off+j) Z[off+j] (cu aa);rw[nB,a1];rfl) (λj hj=>by rw[nB];exact t4.1 _) (D.rO c3)
 rw[nB] at e8;have dw:x'.cells.size=n:=aLu
 simp only[aqW,Pb,gy,mR,gI,storeVar,qN hn];rw[if_neg aa];exact e8;cases hs
def aGe(hn:jM P t=a_ n)(h:cB G base w0 C M J w){p:bg}{p'}(Ng:bP C M J p p')(I:bP C M J x x')(hs:bL J n p x=a_ bl):∃w',(aqW t p' x').run P w=.ok () w'/\dm C M J C M bl/\cB G base w0 C M bl w':=by
 unfold bL at hs;split at hs;rename_i k off;cases Ng with
 |mp O hM=>
  rename_i L Z;rw[O] at hs;exact aoO hn h O hM I hs
 rename_i k m off;cases Ng with
 |rp O hM rX ha=>
  rename_i L Z a;rw[O] at hs;simp only at hs;split at hs;rename_i hm;rw[ha hm];exact aoO hn h O hM I hs;cases hs
 cases hs
end
section
variable{G:Cells}{base:Nat}{w0:lD}{w:World}{C:Cells}{M:List Loc}{J:List br}{P:Program}
def k6(off:Nat):bg->Option bg
 |.fp Z o=>a_ (.fp Z (o+off))
 |.mp k o=>a_ (.mp k (o+off))
 |.rp k n o=>a_ (.rp k n (o+off))
 |_=>bn
def aoc(I:bP C M J x y)(D:k6 off x=a_ r):∃a,y=.pointer (a_ a)/\bP C M J r (.pointer (a_ (a.add off))):=by
 unfold k6 at D;split at D;cases D;cases I with
 |fp f hC hR=>exact⟨_,rfl,by rw[addr_add,mB];exact .fp f hC hR⟩
 cases D;cases I with
 |mp O hM=>exact⟨_,rfl,by rw[addr_add];exact .mp O hM⟩
 cases D;cases I with
 |rp O hM hn ha=>exact⟨_,rfl,.rp O hM hn λq=>by rw[ha q,addr_add]⟩
 cases D
def av_(hs:P.underlying s=a_ (.struct Ea))(hf:Ea[field]?=a_ f)(ho:f.offset=off)
  (hn:jM P f.type=a_ n) (mH:n≠0) (h:cB G base w0 C M J w) (I:bP C M J x y) (D:k6 off x=a_ r):
  gX G base w0 C M J P (Instr.fieldAt s y field) w r J:=by
 obtain⟨a,rfl,ko⟩:=aoc I D;refine .same h ?_ ko;simp[Instr.fieldAt,run_underlying hs,hf,Pb,fieldPlace,qN hn,mH,ho]
def cx(n:Nat):bg->bg->Option bg
 |.sl xs _,.v (.int _ i)=>if 0<=i then match xs[i.toNat]? with
   |some x=>if x.cells.length=n then a_ (.fp x.cells 0) else bn
   |none=>bn
  else bn
 |.rs k m _ off len,.v (.int _ i)=>if 0<=i/\i<len then a_ (.rp k m (off+i.toNat*n)) else bn
 |_,_=>bn
def awb(ht:P.underlying t=a_ (.slice e))(hn:jM P e=a_ n)(h:cB G base w0 C M J w){i:bg}
  (I:bP C M J x y) (Q:bP C M J i j) (D:cx n x i=a_ r):gX G base w0 C M J P (UE t y j) w r J:=by
 unfold cx at D;split at D;rename_i xs tl k i;cases Q;cases I with
 |sl f gr dw hC hR hT iq=>
  rename_i a cap sz;split at D;rename_i h0;split at D;rename_i x Bq;split at D;rename_i cW;cases D;have c6:=(cJ.1 Bq).1;have Nl:sz=n:=by rw[<-dw _ _ Bq];exact cW
  subst Nl;obtain⟨b,o,sp⟩:=a;have:=gr (by intro e;subst e;simp at c6);subst this;have aw1:bP C M J (.fp x.cells 0) (.pointer (a_ ⟨b,(o+i.toNat*sz)+0,bn⟩)):=
   .fp (f i.toNat) (λj c T=>hC _ _ _ _ Bq T) (λj c T=>hR _ _ _ _ Bq T)
  refine .same h ?_ aw1;have kj:i<(xs.length:Int):=aa
  simp[UE,asIntOf,run_underlying ht,h0,kj,qN hn,addr_add];cases D;cases D;cases D
 rename_i k m sz off len kk i;cases Q;cases I with
 |rs O hM rX ga ha=>
  rename_i cap L Z a;split at D;rename_i h0;cases D;refine .same h (v:=.pointer (a_ (a.add (i.toNat*n)))) ?_ (.rp O hM rX λq=>by rw[(ha q).1,addr_add]);simp[UE,asIntOf,run_underlying ht,h0,qN hn];cases D
 cases D
def kQ(len n:Nat)(x:bg):bg->Option bg
 |.v (.int _ i)=>if 0<=i/\i<len then k6 (i.toNat*n) x else bn
 |_=>bn
def avU(ht:P.underlying t=a_ (.array len e))(hn:jM P e=a_ n)(h:cB G base w0 C M J w){i:bg}
  (I:bP C M J x y) (Q:bP C M J i j) (D:kQ len n x i=a_ r):gX G base w0 C M J P (UE t y j) w r J:=by
 unfold kQ at D;split at D;rename_i k i;cases Q;split at D;rename_i h0;obtain⟨a,rfl,ko⟩:=aoc I D;refine .same h ?_ ko;simp[UE,asIntOf,run_underlying ht,h0,qN hn,Pb];cases D;cases D
def y8:bg->Option bg
 |.fp Z o=>a_ (.fp Z o)
 |.mp k o=>a_ (.mp k o)
 |.rp k n o=>a_ (.rp k n o)
 |.fn (.func f) a b=>a_ (.fn (.func f) a b)
 |_=>bn
def xD(k:IntKind)(a b:Int)(f:BitVec k.bits->BitVec k.bits->BitVec k.bits):Value:=
 .int k (k.wrap (f (Dn k.bits a) (Dn k.bits b)).toNat)
def mK(op:BinOp)(k:IntKind)(a:Int)(k':IntKind)(b:Int):Option Value:=
 match op with
 |.shl=>if b<0 then bn else a_ (.int k (k.wrap (a*2^(min b.toNat k.bits))))
 |.shr=>if b<0 then bn else a_ (.int k (a.fdiv (2^(min b.toNat k.bits))))
 |op=>if k≠k' then bn else match op with
  |.add=>a_ (.int k (k.wrap (a+b)))
  |.sub=>a_ (.int k (k.wrap (a-b)))
  |.mul=>a_ (.int k (k.wrap (a*b)))
  |.quo=>if b=0 then bn else a_ (.int k (k.wrap (a.tdiv b)))
  |.rem=>if b=0 then bn else a_ (.int k (a.tmod b))
  |.and=>a_ (xD k a b (· &&& ·))
  |.or=>a_ (xD k a b (· ||| ·))
  |.xor=>a_ (xD k a b (· ^^^ ·))
  |.andNot=>a_ (xD k a b (λx y=>x&&& ~~~y))
  |.eql=>a_ (.bool (a==b))
  |.neq=>a_ (.bool (a !=b))
  |.lss=>a_ (.bool (a<b))
  |.leq=>a_ (.bool (a<=b))
  |.gtr=>a_ (.bool (a>b))
  |.geq=>a_ (.bool (a>=b))
  |_=>bn
def KF(op:BinOp)(x y:ByteArray):Option Value:=
 match op with
 |.add=>if((x.size+y.size:Nat):Int)>cN.max then bn else a_ (.string (x++y))
 |.eql=>a_ (.bool (x.toList==y.toList))
 |.neq=>a_ (.bool !(x.toList==y.toList))
 |.lss=>a_ (.bool (ack x.toList y.toList))
 |.leq=>a_ (.bool (ack x.toList y.toList||x.toList==y.toList))
 |.gtr=>a_ (.bool !(ack x.toList y.toList||x.toList==y.toList))
 |.geq=>a_ (.bool !(ack x.toList y.toList))
 |_=>bn
def dM(op:BinOp):bg->bg->Option bg
 |.v (.int k a),.v (.int k' b)=>(mK op k a k' b).map .v
 |.v (.string a),.v (.string b)=>(KF op a b).map .v
 |_,_=>bn
def aGc{k k'}{a b:Int}{r}(h:mK op k a k' b=a_ r)(t)(w):
  (binOp op t (.int k a) (.int k' b)).run P w=.ok r w/\plain r=bh:=by
 unfold mK at h;split at h;split at h;cases h;rename_i O;cases h;exact⟨by simp[binOp,Op.shift,O],rfl⟩;split at h;cases h;rename_i O;cases h;exact⟨by simp[binOp,Op.shift,O],rfl⟩;rename_i Y V;split at h;cases h;rename_i S;have S:k=k':=by simpa using S
 subst S;cases op with
 |shl=>exact(Y rfl).elim
 |shr=>exact(V rfl).elim
 |add=>cases h;exact⟨by simp[binOp,acm],rfl⟩
 |sub=>cases h;exact⟨by simp[binOp,acm],rfl⟩
 |mul=>cases h;exact⟨by simp[binOp,acm],rfl⟩
 |quo=>
  simp only at h;split at h;cases h;rename_i O;cases h;exact⟨by simp[binOp,Op.intDiv,O],rfl⟩
 |rem=>
  simp only at h;split at h;cases h;rename_i O;cases h;exact⟨by simp[binOp,Op.intDiv,O],rfl⟩
 |and=>cases h;exact⟨aMW,rfl⟩
 |or=>cases h;exact⟨aMW,rfl⟩
 |xor=>cases h;exact⟨aMW,rfl⟩
 |andNot=>cases h;exact⟨aMW,rfl⟩
 |eql=>cases h;exact⟨aL8,rfl⟩
 |neq=>cases h;exact⟨aL8,rfl⟩
 |lss=>cases h;exact⟨aL8,rfl⟩
 |leq=>cases h;exact⟨aL8,rfl⟩
 |gtr=>cases h;exact⟨aL8,rfl⟩
 |geq=>cases h;exact⟨aL8,rfl⟩
def aGd{a b}{r}(h:KF op a b=a_ r)(t)(w):
  (binOp op t (.string a) (.string b)).run P w=.ok r w/\plain r=bh:=by
 have key:binOp op t (.string a) (.string b)=Op.stringOp op a b:=by cases op<;>simp[binOp]
 rw[key];unfold KF at h;cases op<;>simp only[Op.stringOp] at h⊢<;>first
  |(cases h;done)
  |(cases h;exact⟨rfl,rfl⟩)
  |skip
 split at h;cases h;rename_i O;cases h;rw[if_neg O];exact⟨rfl,rfl⟩
def ag3(h:cB G base w0 C M J w){y:bg}(I:bP C M J x x')(hy:bP C M J y y')
  (D:dM op x y=a_ r):gX G base w0 C M J P (do eqGuard op t iC nO x' y';binOp op t x' y') w r J:=by
 unfold dM at D;split at D;rename_i k a k' b;cases I;cases hy;simp only[dF] at D;obtain⟨v,hv,rfl⟩:=D;obtain⟨Y,V⟩:=aGc (P:=P) hv t w;refine .same h ?_ (.v V);have hg:eqGuard op t iC nO (.int k a) (.int k' b)=pure ():=aME
 rw[hg];simp[Y];rename_i a b;cases I;cases hy;simp only[dF] at D;obtain⟨v,hv,rfl⟩:=D;obtain⟨Y,V⟩:=aGd (P:=P) hv t w;refine .same h ?_ (.v V);have hg:eqGuard op t iC nO (.string a) (.string b)=pure ():=aME
 rw[hg];simp[Y];cases D
def IX(neg:Bool):bg->bg->Option bg
 |.v (.bool a),.v (.bool b)=>a_ (.v (.bool (if neg then !(a==b) else a==b)))
 |_,_=>bn
def tR(neg:Bool):BinOp:=if neg then .neq else .eql
def ag4(ht:P.underlying t=a_ .bool)(h:cB G base w0 C M J w){y:bg}(I:bP C M J x x')(hy:bP C M J y y')
  (D:IX neg x y=a_ r):gX G base w0 C M J P (do eqGuard (tR neg) t iC nO x' y';binOp (tR neg) t x' y') w r J:=by
 unfold IX at D;split at D;rename_i a b;cases I;cases hy;cases D;refine .same h ?_ (.v rfl);have hg:eqGuard (tR neg) t iC nO (.bool a) (.bool b)=pure ():=aME
 rw[hg];have:=run_equal_bool w t a b ht;cases neg<;>simp[tR,binOp,this];cases D
def NZ:bg->Bool
 |.v (.pointer bn)|.v .nilFunc|.v .nilIface|.bq|.iJ _ _=>bh
 |_=>bf
def Bs:Operand->Bool
 |.const _=>bh
 |_=>bf
inductive Lr where
 |ptr|slc|Rd|eD
 deriving DecidableEq
def S4(P:Program)(t:TypeId):Option Lr:=
 match P.underlying t with
 |some (.pointer _)=>a_ .ptr
 |some (.slice _)=>a_ .slc
 |some (.func _ _ _)=>a_ .Rd
 |some (.interface _)=>a_ .eD
 |_=>bn
def Y1:bg->Option Lr
 |.v (.pointer bn)|.fp _ _|.mp _ _|.rp _ _ _|.iJ _ _=>a_ .ptr
 |.bq|.sl _ _|.rs _ _ _ _ _=>a_ .slc
 |.v .nilFunc|.fn _ _ _=>a_ .Rd
 |.v .nilIface|.eD _ _=>a_ .eD
 |_=>bn
end
section
variable{G:Cells}{base:Nat}{w0:lD}{w:World}{C:Cells}{M:List Loc}{J:List br}{P:Program}
def oD(K:Lr)(neg:Bool)(x y:bg):Option bg:=
 if Y1 x=a_ K/\Y1 y=a_ K/\(NZ x=bh\/NZ y=bh) then a_ (.v (.bool (neg !=(NZ x&&NZ y)))) else bn
def zA(K:Lr)(nil:Bool)(x':Value):Prop:=
 match K with
 |.ptr=>if nil then x'=.pointer bn else∃a,x'=.pointer (a_ a)
 |.slc=>if nil then x'=.slice bn 0 0 else∃a n c,x'=.slice (a_ a) n c
 |.Rd=>if nil then x'=.nilFunc else∃f a b,x'=.func f a b
 |.eD=>if nil then x'=.nilIface else∃t v,x'=.iface t v
def alQ{K}(I:bP C M J x x')(kx:Y1 x=a_ K):zA K (NZ x) x':=by
 cases I with
 |v h=>
  cases x' with
  |pointer a=>cases a with
   |none=>cases kx;exact rfl
   |some a=>simp[plain] at h
  |nilFunc=>cases kx;exact rfl
  |nilIface=>cases kx;exact rfl
  |_=>first|(cases kx;done)|(simp[plain] at h;done)
 |bq=>cases kx;exact rfl
 |agg _ _=>cases kx
 |bQ _ _=>cases kx
 |sl _ _ _ _ _ _ _=>cases kx;exact⟨_,_,_,rfl⟩
 |fp _ _ _=>cases kx;exact⟨_,rfl⟩
 |mp _ _=>cases kx;exact⟨_,rfl⟩
 |rp _ _ _ _=>cases kx;exact⟨_,rfl⟩
 |rs _ _ _ _ _=>cases kx;exact⟨_,_,_,rfl⟩
 |gE _ _=>cases kx
 |fn _ _ _ _=>cases kx;exact⟨_,_,_,rfl⟩
 |eD _=>cases kx;exact⟨_,_,rfl⟩
 |gm _ _=>cases kx
 |jo _ _=>cases kx
 |iJ _ _=>cases kx;exact rfl
def aGa{K}(ht:S4 P t=a_ K){a b}(I:zA K a x')(hy:zA K b y')(hn:a=bh\/b=bh)(d:Nat)(w):
  (BU (d+1) t x' y').run P w=.ok (a&&b) w:=by
 unfold S4 at ht;cases hd:P.underlying t with
 |none=>rw[hd] at ht;cases ht
 |some dd=>
  rw[hd] at ht;have hu:=λw'=>run_underlying hd w';cases K<;>cases dd<;>simp only[reduceCtorEq,ox] at ht<;>cases a<;>cases b<;>
   simp only[zA,if_true,kJ,if_false,or_self,or_true,true_or] at I hy hn
  all_goals first
   |(subst I;subst hy;rw[BU];simp only[gy,hu,gI];rfl)
   |(obtain⟨_,rfl⟩:=I;subst hy;rw[BU];simp only[gy,hu,gI];rfl)
   |(obtain⟨_,rfl⟩:=hy;subst I;rw[BU];simp only[gy,hu,gI];rfl)
   |(obtain⟨_,_,rfl⟩:=I;subst hy;rw[BU];simp only[gy,hu,gI];rfl)
   |(obtain⟨_,_,rfl⟩:=hy;subst I;rw[BU];simp only[gy,hu,gI];rfl)
   |(obtain⟨_,_,_,rfl⟩:=I;subst hy;rw[BU];simp only[gy,hu,gI];rfl)
   |(obtain⟨_,_,_,rfl⟩:=hy;subst I;rw[BU];simp only[gy,hu,gI];rfl)
def atm{K}{a b}(neg)(t)(I:zA K a x')(hy:zA K b y'):
  binOp (tR neg) t x' y'=(Op.equal t x' y'>>=λr=>pure (.bool (neg !=r))):=by
 have key:∀(x' y'),(∀k n,x'≠.int k n)->(∀s,x'≠.string s)->(∀k n,x'≠.float k n)->(∀k n m,x'≠.complex k n m)->binOp (tR neg) t x' y'=(Op.equal t x' y'>>=λr=>pure (.bool (neg !=r))):=by
  intro x' y' Y V h3 h4;cases neg<;>simp only[tR,kJ,if_false,if_true]<;>unfold binOp<;>split<;>first
   |(exact(Y _ _ rfl).elim)|(exact(V _ rfl).elim)|(exact(h3 _ _ rfl).elim)|(exact(h4 _ _ _ rfl).elim)|(simp;done)|(simp_all;done)
 apply key<;>intros<;>intro e<;>subst e<;>cases K<;>cases a<;>simp[zA] at I
def au3(op)(t)(iC nO)(Y:x'=.nilIface->y'=.nilIface->Bs iC=bh\/Bs nO=bh)(V:∀Z,x'≠.agg Z):eqGuard op t iC nO x' y'=pure ():=by
 have key:∀op:BinOp,(op=.eql\/op=.neq)->eqGuard op t iC nO x' y'=pure ():=by
  intro op kV
  rcases kV with rfl|rfl
  all_goals
   unfold eqGuard;simp only[z_,kJ,if_false];split
   rcases Y rfl rfl with h|h
   cases iC<;>simp[Bs] at h;rfl;cases nO<;>simp[Bs] at h;cases iC<;>rfl;exact(V _ rfl).elim;rfl
 cases op<;>first|exact key _ (bD rfl)|exact key _ (bG rfl)|rfl
def au4{K}{a b}(op)(t)(iC nO)(I:zA K a x')(hy:zA K b y')
  (T:K=.eD->Bs iC=bh\/Bs nO=bh):eqGuard op t iC nO x' y'=pure ():=by
 refine au3 op t iC nO (λe _=>T ?_) (λZ e=>?_);subst e;cases K<;>cases a<;>simp[zA] at I<;>rfl;subst e;cases K<;>cases a<;>simp[zA] at I
def ag5{K}(ht:S4 P t=a_ K)(T:K=.eD->Bs iC=bh\/Bs nO=bh)(h:cB G base w0 C M J w){y:bg}
  (I:bP C M J x x') (hy:bP C M J y y') (D:oD K neg x y=a_ r):gX G base w0 C M J P (do eqGuard (tR neg) t iC nO x' y';binOp (tR neg) t x' y') w r J:=by
 unfold oD at D;split at D;rename_i S;obtain⟨k1,k2,gN⟩:=S;cases D;have s1:=alQ I k1;have s2:=alQ hy k2;refine .same h ?_ (.v rfl);rw[au4 _ t iC nO s1 s2 T,atm neg t s1 s2];have:=aGa ht s1 s2 gN 9999 w;simp only[gy,mR,gI,Op.equal,Op.maxDepth];rw[this];rfl;cases D
end
section
variable{G:Cells}{base:Nat}{w0:lD}{w:World}{C:Cells}{M:List Loc}{J:List br}{P:Program}
def F5(op:UnOp):bg->Option bg
 |.v (.int k n)=>match op with
  |.neg=>a_ (.v (.int k (k.wrap (0-n))))
  |.xor=>a_ (.v (xD k (if k.signed then -1 else k.max) n (· ^^^ ·)))
  |_=>bn
 |.v (.bool b)=>match op with
  |.not=>a_ (.v (.bool !b))
  |_=>bn
 |_=>bn
def awp{op}(h:cB G base w0 C M J w)(I:bP C M J x x')(D:F5 op x=a_ r):gX G base w0 C M J P (Op.unary op x') w r J:=by
 unfold F5 at D;split at D;cases I;split at D<;>cases D;exact .same h (by simp[Op.unary,acm]) (.v rfl);exact .same h (by simp[Op.unary,UH,xD]) (.v rfl);cases I;split at D<;>cases D;exact .same h (by simp[Op.unary]) (.v rfl);cases D
def IV(k:IntKind):bg->Option bg
 |.v (.int _ n)=>a_ (.v (.int k (k.wrap n)))
 |_=>bn
def av8{k}(hs:(P.underlying src).isSome=bh)(hd:P.underlying dst=a_ (.int k))(h:cB G base w0 C M J w)(I:bP C M J x x')
  (D:IV k x=a_ r):gX G base w0 C M J P (convert src dst x') w r J:=by
 unfold IV at D;split at D;cases I;cases D;obtain⟨d,zl⟩:=acJ.mp hs;exact .same h (by simp[convert,run_underlying zl,run_underlying hd,Conv.intToInt]) (.v rfl);cases D
def Qc:bg->Option bg
 |.v (.string s)=>a_ (.v (.string s))
 |_=>bn
def awn(hs:(P.underlying src)=a_ .string)(hd:P.underlying dst=a_ .string)(h:cB G base w0 C M J w)(I:bP C M J x x')
  (D:Qc x=a_ r):gX G base w0 C M J P (convert src dst x') w r J:=by
 unfold Qc at D;split at D;cases I;cases D;exact .same h (by simp[convert,run_underlying hs,run_underlying hd]) (.v rfl);cases D
def LD:bg->Option bg
 |.v (.string s)=>a_ (.v (goInt s.size))
 |.bq=>a_ (.v (goInt 0))
 |.sl xs _=>a_ (.v (goInt xs.length))
 |.rs _ _ _ _ len=>a_ (.v (goInt len))
 |_=>bn
def ag6(h:cB G base w0 C M J w)(I:bP C M J x x')(S:∀s,x=.v (.string s)->P.underlying t=a_ .string)
  (gi:(∀s,x≠.v (.string s))->∃e,P.underlying t=a_ (.slice e)) (D:LD x=a_ r):gX G base w0 C M J P (KZ #[t] ty #[x']) w r J:=by
 unfold LD at D;split at D;cases I;cases D;exact .same h (by simp[KZ,run_underlying (S _ rfl)]) (.v rfl);cases I<;>cases D;obtain⟨e,he⟩:=gi (by intro s e;cases e);exact .same h aMD (.v rfl);cases I<;>cases D;obtain⟨e,he⟩:=gi (by intro s e;cases e);exact .same h aMD (.v rfl);cases I<;>cases D;obtain⟨e,he⟩:=gi (by intro s e;cases e);exact .same h aMD (.v rfl);cases D
def oE(i:Nat):bg->Option bg
 |.bQ Z=>Z[i]?
 |_=>bn
def av9{i:Nat}(h:cB G base w0 C M J w)(I:bP C M J x x')(D:oE i x=a_ r):gX G base w0 C M J P (Instr.extract x' i) w r J:=by
 unfold oE at D;split at D;cases I with
 |bQ hl hh=>
  rename_i Z cs';have Q:=(cJ.1 D).1;have kj:i<cs'.size:=aa
  exact .same h (by simp[Instr.extract,kj]) (hh i r cs'[i] D (by simp[kj]))
 cases D
def IZ(bN:Bool)(n off:Nat):bg->Option bg
 |.agg Z=>e9 bN n Z off
 |_=>bn
def aoM(dY:kH P t=a_ bN)(hn:jM P t=a_ n){cs'}(hl:Z.length=cs'.size)
  (hh:∀(i:Nat) a b,Z[i]?=a_ a->cs'[i]?=a_ b->bP C M J a b) (D:e9 bN n Z off=a_ r) (w):∃v,(part t cs' off).run P w=.ok v w/\bP C M J r v:=by
 unfold part;simp only[gy,aaU dY,gI];unfold e9 at D;cases bN with
 |true=>
  simp only[if_true] at D⊢;split at D;rename_i hfit;cases D;refine⟨.agg (cs'.extract off (off+n)),by simp only[gy,qN hn,gI,mR],?_⟩;refine .agg ah (λi a b ha O=>?_);have Q:i<n:=by
   have:=(cJ.1 ha).1;simp at this;omega
  simp only[UM,tC] at ha;rw[if_pos Q] at ha;rw[Array.getElem?_extract] at O;rw[if_pos aa] at O;exact hh _ _ _ ha O;cases D
 |false=>
  simp only[kJ,if_false] at D⊢;have Q:=(cJ.1 D).1;have kj:off<cs'.size:=aa
  exact⟨cs'[off],by simp[kj],hh off r _ D (by simp[kj])⟩
def awa(hs:P.underlying s=a_ (.struct Ea))(hf:Ea[field]?=a_ f)(ho:f.offset=off)
  (dY:kH P f.type=a_ bN) (hn:jM P f.type=a_ n) (h:cB G base w0 C M J w) (I:bP C M J x x') (D:IZ bN n off x=a_ r):
  gX G base w0 C M J P (Instr.field s x' field) w r J:=by
 unfold IZ at D;split at D;cases I with
 |agg hl hh=>
  obtain⟨v,Y,V⟩:=aoM dY hn hl hh D w;exact .same h (by simp[Instr.field,run_underlying hs,hf,asAgg,ho,Y]) V
 cases D
def DL(bN:Bool)(n len:Nat):bg->bg->Option bg
 |.agg Z,.v (.int _ i)=>if 0<=i/\i<len then e9 bN n Z (i.toNat*n) else bn
 |_,_=>bn
def awc(ht:P.underlying t=a_ (.array len e))(dY:kH P e=a_ bN)(hn:jM P e=a_ n)(h:cB G base w0 C M J w){i:bg}
  (I:bP C M J x x') (Q:bP C M J i i') (D:DL bN n len x i=a_ r):gX G base w0 C M J P (ach t x' i') w r J:=by
 unfold DL at D;split at D;cases Q;cases I with
 |agg hl hh=>
  split at D;rename_i O;obtain⟨v,Y,V⟩:=aoM dY hn hl hh D w;exact .same h (by simp[ach,asIntOf,run_underlying ht,O,qN hn,Y]) V;cases D
 cases D
def xx:bg->bg->Option bg
 |.v (.string s),.v (.int _ i)=>if 0<=i then(s[i.toNat]?).map λb=>.v (.int .u8 b.toNat) else bn
 |_,_=>bn
def av7(ht:P.underlying t=a_ .string)(h:cB G base w0 C M J w){i:bg}
  (I:bP C M J x x') (Q:bP C M J i i') (D:xx x i=a_ r):gX G base w0 C M J P (ach t x' i') w r J:=by
 unfold xx at D;split at D;cases Q;cases I;split at D;rename_i O;simp only[dF] at D;obtain⟨b,hb',rfl⟩:=D;exact .same h (by simp[ach,asIntOf,run_underlying ht,O,hb']) (.v rfl);cases D;cases D
end
section
variable{G:Cells}{base:Nat}{w0:lD}{w:World}{C:Cells}{M:List Loc}{J:List br}{P:Program}
def eO(zs:List bg):List bg:=zs.flatMap bg.cells
def avw:eO []=[]:=rfl
def Cj(z:bg)(r):eO (z::r)=z.cells++eO r:=by simp[eO]
def agw(a b):eO (a++b)=eO a++eO b:=by simp[eO]
def Ck:∀{zs},(∀z∈zs,z.cells.length=n)->(eO zs).length=zs.length*n
 |[],_=>by simp[eO]
 |z::r,h=>by
  rw[Cj,dO,Ck (λx I=>h x aA),h z af,eB,qo];omega
def agy:∀{zs},(∀z∈zs,z.cells.length=n)->∀{i j:Nat} {z c:bg},zs[i]?=a_ z->z.cells[j]?=a_ c->(eO zs)[i*n+j]?=a_ c
 |[],_,i,j,z,c,hz,_=>by simp at hz
 |y::r,h,i,j,z,c,hz,T=>by
  have hy:=h y af;cases i with
  |zero=>
   simp at hz;subst hz;rw[Cj,Nat.zero_mul,gA,fT (cJ.1 T).1];exact T
  |succ i=>
   simp at hz;rw[Cj,qo,FM,fJ aa,hy,show i*n+n+j-n=i*n+j by omega];exact agy (λx I=>h x aA) hz T
def agz:∀{zs},(∀z∈zs,z.cells.length=n)->∀{k:Nat} {c:bg},(eO zs)[k]?=a_ c->∃i j z,k=i*n+j/\zs[i]?=a_ z/\z.cells[j]?=a_ c
 |[],_,k,c,T=>by simp[eO] at T
 |y::r,h,k,c,T=>by
  have hy:=h y af;rw[Cj] at T
  rcases ei k n with S|S
  rw[fT aa] at T;exact⟨0,k,y,aa,af,T⟩;rw[fJ aa,hy] at T;obtain⟨i,j,z,e,Y,V⟩:=agz (λx I=>h x aA) T;exact⟨i+1,j,z,by rw[qo];omega,aMi,V⟩
def nT(C:Cells)(M:List Loc)(J:List br)(b o:Nat)(Z:List bg):Prop:=
 ∀(j:Nat) c,Z[j]?=a_ c->∃v,C b (o+j)=a_ v/\bP C M J c v
def nT.mono(bJ:dm C M J bI M' bl)(h:nT C M J b o Z):nT bI M' bl b o Z:=
 λj c T=>let⟨v,Y,V⟩:=h j c T;⟨v,bJ.C _ _ _ Y,V.mono bJ⟩
def nT.append{as bs}(Y:nT C M J b o as)(V:nT C M J b (o+as.length) bs):nT C M J b o (as++bs):=by
 intro j c T
 rcases ei j as.length with hj|hj
 rw[fT hj] at T;exact Y j c T;rw[fJ hj] at T;obtain⟨v,e1,e2⟩:=V _ c T;exact⟨v,by rw[<-e1];congr 1;omega,e2⟩
def nT.drop(h:nT C M J b o Z)(n:Nat):nT C M J b (o+n) (Z.drop n):=by
 intro j c T;rw[tC] at T;obtain⟨v,e1,e2⟩:=h _ c T;exact⟨v,by rw[<-e1];congr 1;omega,e2⟩
def nT.take(h:nT C M J b o Z)(n:Nat):nT C M J b o (Z.take n):=by
 intro j c T;rw[UM] at T;split at T;exact h j c T;cases T
def nT.vals(h:cB G base w0 C M J w)(ha:nT C M J b o Z):
  ∃vs:List Value,dH C M J Z vs/\∀(j:Nat) v,vs[j]?=a_ v->w.cell? ⟨b,o+j,bn⟩=a_ v:=by
 refine⟨(iy Z.length).map λj=>(C b (o+j)).getD undef,⟨af,λi a v e1 e2=>?_⟩,λj v e=>?_⟩;obtain⟨u,Y,V⟩:=ha i a e1;have Q:=(cJ.1 e1).1;simp[Q,Y] at e2;subst e2;exact V;have hj:j<Z.length:=by
  have:=(cJ.1 e).1;simpa using this
 obtain⟨u,Y,V⟩:=ha j Z[j] (cu hj);simp[hj,Y] at e;subst e;exact h.n7 _ _ _ Y
def aaM{t}(hn:∀z∈zs,z.cells.length=n)(ha:nT C M J b o (eO zs))(hT:vQ M J ⟨b,o,bn⟩ zs.length cap n t)(iq:zs.length<=cap):
  bP C M J (.sl zs t) (.slice (a_ ⟨b,o,bn⟩) zs.length cap):=by
 refine .sl (λi j=>(C b (o+i*n+j)).getD undef) (λ_=>rfl) (λi x I=>hn x (cz I)) (λi x j c I T=>?_) (λi x j c I T=>?_) hT iq
 all_goals
  obtain⟨v,Y,V⟩:=ha _ c (agy hn I T);rw[<-mB] at Y
 show C b (o+i*n+j)=_;rw[Y];rfl;rw[Y];exact V
def Tz{t}(hl:len=zs.length)(hn:∀z∈zs,z.cells.length=n)(ha:nT C M J b o (eO zs))(hT:vQ M J ⟨b,o,bn⟩ len cap n t)(iq:len<=cap):
  bP C M J (.sl zs t) (.slice (a_ ⟨b,o,bn⟩) len cap):=by
 subst hl;exact aaM hn ha hT iq
def Ow{t}(h:bP C M J (.sl zs t) (.slice (a_ a) len cap))(hn:∀z∈zs,z.cells.length=n):
  len=zs.length/\nT C M J a.block a.off (eO zs)/\(zs≠[]->a.spot=bn)/\zs.length<=cap:=by
 cases h with
 |sl f gr dw hC hR hT iq=>
  rename_i sz;refine⟨rfl,λk c T=>?_,gr,iq⟩;obtain⟨i,j,z,rfl,hz,jr⟩:=agz hn T;have:sz=n:=by rw[<-dw i z hz];exact hn z (cz hz)
  subst this;exact⟨f i j,by rw[<-mB];exact hC i z j c hz jr,hR i z j c hz jr⟩
def aEe(h:cB G base w0 C M J w)(cells)(e)(D:dH C M J Z vs)(hv:∀(i:Nat) v,vs[i]?=a_ v->cells[i]?=a_ v):
  dm C M J (C.add w.heap.size 0 vs) M J/\cB G base w0 (C.add w.heap.size 0 vs) M J (w.alloc (.cells cells e))/\nT (C.add w.heap.size 0 vs) M J w.heap.size 0 Z:=by
 obtain⟨bJ,hs⟩:=h.W1 cells e vs hv;refine⟨bJ,hs,λj c T=>?_⟩;obtain⟨v,Y,V⟩:=D.get T;exact⟨v,by rw[Cells.F2 _ _ _ _ _ (cJ.1 Y).1];exact Y,V.mono bJ⟩
def iA:bg->Option (List bg)
 |.bq=>a_ []
 |.sl ys _=>a_ ys
 |_=>bn
def nr(Z:List bg)(off:Nat)(us:List bg):List bg:=Z.take off++us++Z.drop (off+us.length)
def cY(n:Nat)(ys:List bg):Bool:=ys.all λy=>y.cells.length==n&&y.cells.all bg.one
def iI(J:List br)(n cc:Nat)(e:TypeId)(s:bg)(ys:List bg):Option (bg×List br):=
 match s with
 |.bq=>if ys.length*cc<=140737488355328 then a_ (.sl ys (.tok J.length),J++[.tok ys.length n e]) else bn
 |.rs k m sz off len=>if sz=n/\off=0/\(len+ys.length)*cc<=140737488355328 then
   match J[k]? with
   |some (.cells Z bh)=>if m=Z.length then a_ (.rs k (nr Z (len*n) (eO ys)).length n 0 (len+ys.length),J.set k (.cells (nr Z (len*n) (eO ys)) bh)) else bn
   |_=>bn
  else bn
 |.sl xs t=>if cY n xs=bh/\(xs.length+ys.length)*cc<=140737488355328 then
   match t with
   |.exact=>a_ (.sl (xs++ys) (.tok J.length),J++[.tok (xs.length+ys.length) n e])
   |.tok id=>match J[id]? with
    |some (.tok c s' e')=>if c=xs.length/\s'=n/\e'=e then a_ (.sl (xs++ys) (.tok id),J.set id (.tok (xs.length+ys.length) n e)) else bn
    |_=>bn
   |.no=>bn
  else bn
 |_=>bn
def gY(J:List br)(n cc:Nat)(e:TypeId)(s x:bg):Option (bg×List br):=
 match iA x with
 |none=>bn
 |some ys=>
  if ys=[] then(match s with|.bq|.sl _ _|.rs _ _ _ _ _=>a_ (s,J)|_=>bn)
  else if cY n ys=bh/\0<n/\0<cc then iI J n cc e s ys
  else bn
def eg(J:List br)(n cc:Nat)(e:TypeId)(s x:bg):Option (bg×List br):=
 match s with
 |.rs _ _ _ _ _=>bn
 |s=>gY J n cc e s x
def asb{s:bg}{r}(h:eg J n cc e s x=a_ r):gY J n cc e s x=a_ r:=by
 unfold eg at h;split at h;cases h;exact h
def td(h:cY n ys=bh):∀z∈ys,z.cells.length=n:=by
 intro z hz;have:=eG.1 h z hz;simp at this;exact this.1
def aEy(h:cY n ys=bh):(eO ys).all bg.one=bh:=by
 rw[eG];intro c T;simp only[eO,List.mem_flatMap] at T;obtain⟨z,hz,T⟩:=T;have:=eG.1 h z hz;simp at this;exact this.2 c T
def Z2{xs}(Y:cY n xs=bh)(V:cY n ys=bh):cY n (xs++ys)=bh:=by
 unfold cY at*;rw[ard,Y,V];rfl
structure Lc(P:Program)(t e:TypeId)(n cc:Nat):Prop where
 ht:P.underlying t=a_ (.slice e)
 Q:∃i z,P.info? e=a_ i/\i.size=n/\i.bytes=cc/\i.zero=a_ z/\z.cells.size=n
def SF(O:0<cc)(h:k*cc<=B):k<=B:=ig (Nat.le_mul_of_pos_right k O) h
def TP(z)(n:Nat):(Aa z n).size=n*z.size:=by simp[Aa]
def grownCap_le(w)(amV old:Nat)(e):amV<=grownCap w amV old e:=by unfold grownCap;simp[Question.cut]
def aF1(h:off<=Z.length):(nr Z off us).length=max Z.length (off+us.length):=by
 unfold nr;simp only[dO,qm,ql];omega
def aF0(h:off<=Z.length)(i:Nat):(nr Z off us)[i]?=if i<off then Z[i]? else if i<off+us.length then us[i-off]? else Z[i]? :=by
 unfold nr;have Y:(Z.take off).length=off:=ah
 by_cases c1:i<off;rw[if_pos c1,dN,fT aa,Dt c1];rw[if_neg c1,dN,fJ aa,Y];by_cases c2:i<off+us.length;rw[if_pos c2,fT aa];rw[if_neg c2,fJ aa,tC];congr 1;omega
def aHd(w)(t tx ty e)(i)(z)(ht:P.underlying t=a_ (.slice e))(Q:P.info? e=a_ i)(hz:i.zero=a_ z)(hs:Src P i.size tx x' m news w)
  (h0:0<m) (GA:(m:Int)<=9223372036854775807) (awD:m*i.bytes<=281474976710656):
  (yJ #[t,tx] ty #[.slice bn 0 0,x']).run P w=.ok (.slice (a_ ⟨w.heap.size,0,bn⟩) m (grownCap w m 0 e)) (w.drew.alloc (.cells (news.toArray++Aa z.cells (grownCap w m 0 e-m)) e)):=by
 have:=run_append_grow_src w t tx ty e i z ht Q hz bn 0 0 [] (run_firstCells_none w.drew i.size 0 0 0) x' m news hs aa aa (by rw[gA,nextslicecap_zero h0];exact awD);simpa using this
def apx(w)(t tx ty e)(i)(z)(ht:P.underlying t=a_ (.slice e))(Q:P.info? e=a_ i)(hz:i.zero=a_ z)(b)(yo H8:Nat)(lu:List Value)(pG:lu.length=yo*i.size)
  (holds:∀j u,lu[j]?=a_ u->w.cell? (b.add j)=a_ u) (hs:Src P i.size tx x' m news w) (hg:H8<yo+m) (GA:((yo+m:Nat):Int)<=9223372036854775807) (hfit:Builtin.nextslicecap (yo+m) H8*i.bytes<=281474976710656):
  (yJ #[t,tx] ty #[.slice (a_ b) yo H8,x']).run P w=.ok (.slice (a_ ⟨w.heap.size,0,bn⟩) (yo+m) (grownCap w (yo+m) H8 e))
    (w.drew.alloc (.cells (lu.toArray++news.toArray++Aa z.cells (grownCap w (yo+m) H8 e-(yo+m))) e)):=by
 have:=run_append_grow_src w t tx ty e i z ht Q hz (a_ b) yo H8 lu (run_firstCells_some w.drew i.size yo b yo H8 lu pG (by simpa using holds)) x' m news hs hg GA hfit;simpa using this
def ag2{tx:TypeId}(hE:Lc P t e n cc)(h:cB G base w0 C M J w){s:bg}(hs:bP C M J s s')(s4:cY n ys=bh)(mH:0<n)(l9:0<cc)(bR:ys≠[])
  (vg:dH C M J (eO ys) news) (zw:∀i,P.info? e=a_ i->Src P i.size tx x' ys.length news w)
  (D:iI J n cc e s ys=a_ (r,bl)):gX G base w0 C M J P (yJ #[t,tx] ty #[s',x']) w r bl:=by
 obtain⟨ht,i,z,Q,lN,xT,hz,Br⟩:=hE;have zw:=zw i Q;have ve:=zw.newsLen
 have azd:0<ys.length:=aLY
 unfold iI at D;split at D;split at D;rename_i hfit;cases D;cases hs;have X_:=SF l9 hfit;have e5:=aHd (P:=P) w t tx ty e i z ht Q hz zw azd aa (by rw[xT];omega);have hg:=grownCap_le w ys.length 0 e;have JC:news.length=ys.length*n:=by rw[ve,lN]
 have Cs:∀(i':Nat) v,news[i']?=a_ v->(news.toArray++Aa z.cells (grownCap w ys.length 0 e-ys.length))[i']?=a_ v:=by
  intro i' v hv;have hl:=(cJ.1 hv).1;rw[ab3 aI];simpa using hv
 obtain⟨bJ,dZ⟩:=h.drew.S3 (news.toArray++Aa z.cells (grownCap w ys.length 0 e-ys.length)) e news Cs ys.length n (grownCap w ys.length 0 e*n)
  (by rw[JC];exact pW n hg) (by simp only[O8,TP,Br,UR,JC,<-qo];exact pW n aa)
 refine⟨_,_,_,_,e5,bJ,dZ,?_⟩;refine aaM (td s4) ?_ ?_ hg;intro j c T;obtain⟨v,e1,e2⟩:=vg.get T;exact⟨v,by rw[acv,Cells.F2 _ _ _ _ _ (cJ.1 e1).1];exact e1,e2.mono bJ⟩;refine⟨ys.length,n,e,{b:=w.heap.size,fin:=news.length,cap:=grownCap w ys.length 0 e*n},af,aJ,b_ _,bG rfl,λ_=>⟨rfl,rfl,?_,?_⟩⟩;simp[JC];simp;cases D;rename_i k m sz off len;split at D;rename_i El;obtain⟨rfl,rfl,hfit⟩:=El;split at D;rename_i Z O;split at D;rename_i hm;cases D;cases hs with
 |rs hb' hM rX ga ha=>
  rename_i cap L cs' sa;rw[O] at hb';cases hb';obtain⟨rfl,a2,a3,a4⟩:=ha hm;simp only[gA] at a2 a3 a4;have X_:=SF l9 hfit;obtain⟨t1,t2,t3,OM,Fo,vA,aqf⟩:=h.cells k Z bh L O hM;have lf:=Ck (td s4);have JC:news.length=ys.length*sz:=by rw[ve,lN]
  have XB:len*sz+ys.length*sz=(len+ys.length)*sz:=(qo _ _ _).symm;have JF:(nr Z (len*sz) (eO ys)).length=max Z.length ((len+ys.length)*sz):=by rw[aF1 a2,lf,XB]
  by_cases G0:len+ys.length<=cap;have aKg:(len+ys.length)*sz<=cap*sz:=pW _ G0;have e5:=run_append_room_src (P:=P) w t tx ty e i ht Q L.b 0 len cap x' ys.length news zw G0
   (λj hj=>by rw[lN,gA];obtain⟨v,hv⟩:=vA (len*sz+j) aa;rw[hv];rfl)
   (λj hj=>OM _)
  rw[lN,gA] at e5;have awU:M.set k L=M:=by
   apply FH;intro j;by_cases e:k=j;subst e;rw[bT (cJ.1 hM).1,hM];rw[bC e]
  have bJ:dm C M J C M (J.set k (.cells (nr Z (len*sz) (eO ys)) bh)):=by
   have:=dm.ahe (C:=C) (bI:=C) (M:=M) (L':=L) (λ_ _ _ h=>h) O h.fo (by
    rw[JF]
    rcases ei Z.length ((len+ys.length)*sz) with q|q
    exact bD aa;exact bG ⟨aa,hM⟩)
   rwa [awU] at this
  have dZ:=h.apK O hM (len*sz) (eO ys) news vg bJ (bG aa) (aF0 a2);refine⟨_,_,_,_,e5,bJ,dZ,?_⟩;refine .rs (by rw[bT (cJ.1 O).1]) hM (b_ _) G0 λ_=>⟨rfl,?_,?_,?_⟩;rw[JF];omega;rw[JF];omega;omega;have jH:Z.length<(len+ys.length)*sz:=by
   have:(cap+1)*sz<=(len+ys.length)*sz:=pW _ aa;rw[qo] at this;omega
  have hg:=grownCap_le w (len+ys.length) cap e;have axN:(len+ys.length)*sz<=grownCap w (len+ys.length) cap e*sz:=pW _ hg;obtain⟨lu,pH,ML⟩:∃lu:List Value,dH C M J (Z.take (len*sz)) lu/\∀(j:Nat) v,lu[j]?=a_ v->w.cell? ⟨L.b,j,bn⟩=a_ v:=by
   refine⟨(iy (len*sz)).map λj=>(w.cell? ⟨L.b,j,bn⟩).getD undef,⟨ah,λj a b ha O=>?_⟩,λj v hj=>?_⟩;have mb:j<len*sz:=by have:=(cJ.1 O).1;simpa using this
   rw[Dt mb] at ha;obtain⟨c',b1,b2⟩:=t3 j a ha;simp[mb,b1] at O;subst O;exact b2;have mb:j<len*sz:=by have:=(cJ.1 hj).1;simpa using this
   obtain⟨c',b1,b2⟩:=t3 j Z[j] (cu aa);simp[mb,b1] at hj;subst hj;exact b1
  have pG:lu.length=len*i.size:=by rw[<-pH.1,lN];simp;omega
  have e5:=apx (P:=P) w t tx ty e i z ht Q hz ⟨L.b,0,bn⟩ len cap lu pG (λj v hj=>by rw[addr_add,gA];exact ML j v hj) zw aa aa (growslice_fits aa (by rw[xT];exact hfit));have nN:dH C M J (nr Z (len*sz) (eO ys)) (lu++news):=by
   have e0:nr Z (len*sz) (eO ys)=Z.take (len*sz)++eO ys:=by
    unfold nr;rw[List.drop_eq_nil_of_le aa,fZ]
   rw[e0];refine⟨by rw[dO,dO,pH.1,vg.1],λq u v hu hv=>?_⟩
   rcases ei q (Z.take (len*sz)).length with S|S
   rw[fT S] at hu;rw[fT aMB] at hv;exact pH.2 q u v hu hv;rw[fJ S] at hu;rw[fJ aMB,<-pH.1] at hv;exact vg.2 _ u v hu hv
  obtain⟨bJ,dZ⟩:=h.drew.aDS (lu.toArray++news.toArray++Aa z.cells (grownCap w (len+ys.length) cap e-(len+ys.length))) e (nr Z (len*sz) (eO ys)) (lu++news) nN
   (λi' v hv=>by
     have hl:=(cJ.1 hv).1;rw[ab3 aI];simpa using hv) (cap:=grownCap w (len+ys.length) cap e*sz) (by
     simp only[O8,TP,Br,UR];rw[pG,ve,lN,<-qo,<-qo];exact pW sz aa) O (by rw[JF];omega)
  refine⟨_,_,_,_,e5,bJ,dZ,?_⟩;have eP:=(cJ.1 O).1;refine .rs (by rw[bT eP]) (by rw[bT (by rw[h.fo];exact eP)]) (b_ _) hg λ_=>⟨rfl,?_,?_,?_⟩;rw[JF];omega;rw[JF];omega;simp
 cases D;cases D;cases D;rename_i xs tl;split at D
 · rename_i Nd
   obtain⟨JK,hfit⟩:=Nd;have X_:=SF l9 hfit
   cases s'<;>first|(cases hs;done)|skip
   rename_i b l cp;cases b with
   |none=>cases hs
   |some sa=>
    have Cy:=hs;obtain⟨e1,jX,EJ,iq⟩:=Ow hs (td JK);subst e1;obtain⟨lu,pH,ML⟩:=jX.vals h;have pG:lu.length=xs.length*i.size:=by rw[<-pH.1,Ck (td JK),lN]
    have axp:∀(j:Nat) v,lu[j]?=a_ v->w.cell? (sa.add j)=a_ v:=λj v hj=>by
     obtain⟨sb,bK,aHe⟩:=sa;have ay_:xs≠[]:=by
      intro e;subst e;have:=(cJ.1 hj).1;rw[pG] at this;simp at this
     have:=EJ ay_;subst this;rw[addr_add];exact ML j v hj
    have nN:dH C M J (eO (xs++ys)) (lu++news):=by
     rw[agw];refine⟨by rw[dO,dO,pH.1,vg.1],λk u v hu hv=>?_⟩
     rcases ei k (eO xs).length with S|S
     rw[fT S] at hu;rw[fT aMB] at hv;exact pH.2 k u v hu hv;rw[fJ S] at hu;rw[fJ aMB,<-pH.1] at hv;exact vg.2 _ u v hu hv
    have RW:(lu++news).length=(xs.length+ys.length)*n:=by rw[dO,pG,ve,lN,<-qo]
    have grow:=λcp GM=>
     apx (P:=P) w t tx ty e i z ht Q hz sa xs.length cp lu pG axp zw GM aa (growslice_fits GM (by rw[xT];exact hfit))
    have Cs:∀cp,∀(i':Nat) v,(lu++news)[i']?=a_ v->(lu.toArray++news.toArray++Aa z.cells (grownCap w (xs.length+ys.length) cp e-(xs.length+ys.length)))[i']?=a_ v:=by
     intro cp i' v hv;have hl:=(cJ.1 hv).1;rw[ab3 aI];simpa using hv
    have ahL:∀cp,grownCap w (xs.length+ys.length) cp e*n<=(lu.toArray++news.toArray++Aa z.cells (grownCap w (xs.length+ys.length) cp e-(xs.length+ys.length))).size:=by
     intro cp;have:=grownCap_le w (xs.length+ys.length) cp e;simp only[O8,TP,Br,UR];rw[pG,ve,lN,<-qo,<-qo];exact pW n aa
    have ahE:∀{bI:Cells} {M':List Loc} {Cx:List br},dm C M J bI M' Cx->(∀j,j<(lu++news).length->bI w.heap.size (0+j)=(lu++news)[j]?)->nT bI M' Cx w.heap.size 0 (eO (xs++ys)):=by
     intro bI M' Cx bJ T j V9 GJ;obtain⟨v,e1,e2⟩:=nN.get GJ;exact⟨v,by rw[T j (cJ.1 e1).1];exact e1,e2.mono bJ⟩
    have cW:(xs++ys).length=xs.length+ys.length:=dO;split at D;cases D;cases hs with
    |sl f gr dw hC hR hT MJ=>
     have GM:=hT;subst GM;have hg:=grownCap_le w (xs.length+ys.length) xs.length e;obtain⟨bJ,dZ⟩:=h.drew.S3 _ e (lu++news) (Cs xs.length) (xs.length+ys.length) n (grownCap w (xs.length+ys.length) xs.length e*n)
      (by rw[RW];exact pW n hg) (ahL xs.length)
     refine⟨_,_,_,_,grow xs.length aa,bJ,dZ,?_⟩;refine Tz cW.symm (td (Z2 JK s4)) (ahE bJ (λj hj=>by rw[acv,Cells.F2 _ _ _ _ _ hj])) ?_ hg;refine⟨xs.length+ys.length,n,e,{b:=w.heap.size,fin:=(lu++news).length,cap:=grownCap w (xs.length+ys.length) xs.length e*n},af,aJ,b_ _,bG rfl,λ_=>⟨rfl,rfl,?_,?_⟩⟩;rw[RW];simp;simp
    rename_i id;split at D;rename_i V9 s2 e2 hid;split at D;rename_i axq;obtain⟨rfl,rfl,A8⟩:=axq;rw[A8] at hid;cases D;cases hs with
    |sl f gr dw hC hR hT MJ=>
     obtain⟨n1,s1,mO,L,q1,bt,bV,fP,iN⟩:=hT;rw[hid] at q1;cases q1;obtain⟨p1,p2,p3,jm⟩:=iN rfl;obtain⟨sb,bK,aHe⟩:=sa;have:=p1;subst this;have Yn:=p2;subst Yn;simp only at p3 jm;by_cases G0:xs.length+ys.length<=cp;have axC:L.fin+news.length<=L.cap:=by
      rw[<-p3,<-jm,ve,lN,mB,<-qo];exact acG (pW _ G0) bK
     obtain⟨t1,t2,t3,t4,t5,t6⟩:=h.toks id xs.length s2 e L hid bt;have e5:=run_append_room_src (P:=P) w t tx ty e i ht Q L.b bK xs.length cp x' ys.length news zw G0
      (λj hj=>by rw[lN,p3];obtain⟨⟨v,hv⟩,_⟩:=t5 (L.fin+j) aa aa;rw[hv];rfl)
      (λj hj=>by rw[lN,p3];exact(t5 (L.fin+j) aa aa).2)
     rw[lN,p3] at e5;obtain⟨bJ,dZ⟩:=h.awy news hid bt (n':=xs.length+ys.length) aa axC;refine⟨_,_,_,_,e5,bJ,dZ,?_⟩;refine Tz cW.symm (td (Z2 JK s4)) ?_ ?_ G0;rw[agw];refine nT.append (jX.mono bJ) ?_;rw[Ck (td JK),p3];intro j V9 GJ;obtain⟨v,e1,e2⟩:=vg.get GJ;exact⟨v,by rw[Cells.F2 _ _ _ _ _ (cJ.1 e1).1];exact e1,e2.mono bJ⟩;have Ev:=(cJ.1 hid).1;refine⟨xs.length+ys.length,s2,e,{L with fin:=L.fin+news.length},by rw[bT Ev],by rw[bT (by rw[h.fo];exact Ev)],b_ _,bG rfl,λ_=>⟨rfl,rfl,?_,jm⟩⟩
     show bK+(xs.length+ys.length)*s2=L.fin+news.length;rw[<-p3,ve,lN,mB,<-qo];have hg:=grownCap_le w (xs.length+ys.length) cp e;obtain⟨bJ,dZ⟩:=h.drew.aDT _ e (lu++news) (Cs cp) hid (n':=xs.length+ys.length) aa
      (by rw[RW];exact pW _ hg) (ahL cp)
     refine⟨_,_,_,_,grow cp aa,bJ,dZ,?_⟩;refine Tz cW.symm (td (Z2 JK s4)) (ahE bJ (λj hj=>by rw[acv,Cells.F2 _ _ _ _ _ hj])) ?_ hg;have Ev:=(cJ.1 hid).1;refine⟨xs.length+ys.length,s2,e,{b:=w.heap.size,fin:=(lu++news).length,cap:=grownCap w (xs.length+ys.length) cp e*s2},by rw[bT Ev],by rw[acv,bT (by rw[h.fo];exact Ev)],b_ _,bG rfl,λ_=>⟨rfl,rfl,?_,?_⟩⟩;rw[RW];simp;simp
    cases D;cases D;cases D
 cases D;cases D
def W_(hE:Lc P t e n cc)(h:cB G base w0 C M J w){s:bg}(hs:bP C M J s s')(I:bP C M J x x')
  (D:gY J n cc e s x=a_ (r,bl)):gX G base w0 C M J P (yJ #[t,t] ty #[s',x']) w r bl:=by
 obtain⟨ht,i,z,Q,lN,xT,hz,Br⟩:=hE;unfold gY at D;split at D;cases D;rename_i ys n9;split at D;rename_i M9;subst M9;have JS:∃a c,x'=.slice a 0 c:=by
  unfold iA at n9;split at n9;cases I;exact⟨_,_,rfl⟩;cases n9;cases I;exact⟨_,_,rfl⟩;cases n9
 obtain⟨a,c,rfl⟩:=JS;have MT:∀w,(ab8 n 0 (.slice a 0 c)).run P w=.ok #[] w:=by
  intro w;cases a with
  |none=>simp[ab8]
  |some a=>simp[ab8,loadCells,loadCellsFrom]
 have key:∀b m cp,m<=cp->(yJ #[t,t] ty #[.slice b m cp,.slice a 0 c]).run P w=.ok (.slice b m cp) w:=by
  intro b m cp hm;cases b with
  |none=>simp[yJ,run_underlying ht,sizeOf,typeInfo,Q,lN,ab9,hm,MT]
  |some b=>simp[yJ,run_underlying ht,sizeOf,typeInfo,Q,lN,ab9,hm,MT,storeCells]
 split at D;cases D;cases hs;exact .same h (key _ _ _ (b_ _)) .bq;cases D;have Cy:=hs;cases hs with
 |sl f gr dw hC hR hT iq=>exact .same h (key _ _ _ iq) Cy
 cases D;have Cy:=hs;cases hs with
 |rs O hM hn ga ha=>exact .same h (key _ _ _ ga) Cy
 cases D;rename_i bR;split at D;rename_i fR;obtain⟨s4,mH,l9⟩:=fR;obtain⟨a,c,pI,ME,axe⟩:∃(a:Addr) (c:Nat),x'=.slice (a_ a) ys.length c/\nT C M J a.block a.off (eO ys)/\a.spot=bn:=by
  unfold iA at n9;split at n9;cases n9;exact(bR rfl).elim
  · cases n9
    cases x'<;>first|(cases I;done)|skip
    rename_i b l cp;cases b with
    |none=>cases I
    |some a=>
     obtain⟨e1,e2,di,eX⟩:=Ow I (td s4);exact⟨a,cp,by rw[e1],e2,di bR⟩
  cases n9
 subst pI;obtain⟨ab,ao,DS⟩:=a;have:=axe;subst this;obtain⟨news,vg,A5⟩:=ME.vals h;have ve:news.length=ys.length*i.size:=by rw[<-vg.1,Ck (td s4),lN]
 have awC:=vg.rO (aEy s4);have axo:∀(j:Nat) v,news[j]?=a_ v->w.cell? ((⟨ab,ao,bn⟩:Addr).add j)=a_ v:=λj v hj=>by rw[addr_add];exact A5 j v hj
 have kj:=Q;exact ag2 ⟨ht,i,z,Q,lN,xT,hz,Br⟩ h hs s4 mH l9 bR vg (λi' ahZ=>by rw[Q] at ahZ;cases ahZ;exact Src.ofSlice w ht ⟨ab,ao,bn⟩ ys.length c news ve axo awC) D;cases D
def Gb(b:ByteArray):List bg:=b.data.toList.map λc=>.v (.int .u8 c.toNat)
def aeL(b):(Gb b).length=b.size:=by
 unfold Gb;rw[cS,aqN];rfl
def aeK:∀l:List UInt8,eO (l.map λc=>bg.v (.int .u8 c.toNat))=l.map λc=>bg.v (.int .u8 c.toNat)
 |[]=>rfl
 |c::r=>by
  have:=aeK r;simp only[eO,fQ,List.flatMap_cons] at this⊢;rw[this];rfl
def B9(J:List br)(cc:Nat)(e:TypeId)(s x:bg):Option (bg×List br):=
 match x with
 |.v (.string b)=>if b.size=0 then(match s with|.bq|.sl _ _=>a_ (s,J)|_=>bn)
  else match s with
   |.bq|.sl _ _=>if 0<cc then iI J 1 cc e s (Gb b) else bn
   |_=>bn
 |_=>bn
def avY{u}(hE:Lc P t e 1 cc)(hu:P.underlying u=a_ .string)(h:cB G base w0 C M J w){s:bg}(hs:bP C M J s s')(I:bP C M J x x')
  (D:B9 J cc e s x=a_ (r,bl)):gX G base w0 C M J P (yJ #[t,u] ty #[s',x']) w r bl:=by
 have pq:=hE;obtain⟨ht,i,z,Q,lN,xT,hz,Br⟩:=hE;unfold B9 at D;split at D;rename_i b;cases I;split at D;rename_i h0;have MT:∀w,(ab8 1 0 (.string b)).run P w=.ok #[] w:=by
  intro w;have:=firstCells_string (P:=P) b w;have O:=ou (by rw[byteCells_length,h0])
  rwa [h0,O] at this
 have key:∀b' m cp,m<=cp->(yJ #[t,u] ty #[.slice b' m cp,.string b]).run P w=.ok (.slice b' m cp) w:=by
  intro b' m cp hm;cases b' with
  |none=>simp[yJ,run_underlying ht,run_underlying hu,sizeOf,typeInfo,Q,lN,ab9,h0,hm,MT]
  |some b'=>simp[yJ,run_underlying ht,run_underlying hu,sizeOf,typeInfo,Q,lN,ab9,h0,hm,MT,storeCells]
 split at D;cases D;cases hs;exact .same h (key _ _ _ (b_ _)) .bq;cases D;have Cy:=hs;cases hs with
 |sl f gr dw hC hR hT iq=>exact .same h (key _ _ _ iq) Cy
 cases D;rename_i h0;have fin:∀{r:bg},0<cc->iI J 1 cc e s (Gb b)=a_ (r,bl)->gX G base w0 C M J P (yJ #[t,u] ty #[s',.string b]) w r bl:=by
  intro r l9 D;refine ag2 pq h hs (news:=arb b) ?_ ag l9 ?_ ?_ (λi' kj=>?_) D;unfold cY;rw[eG];intro x I;unfold Gb at I;obtain⟨c,_,rfl⟩:=dX.1 I;rfl;intro q;have:=aeL b;rw[q] at this;exact h0 this.symm;unfold Gb;rw[aeK];refine⟨by simp[arb],λi x y I hy=>?_⟩;simp only[arb,fD] at I hy;cases hq:b.data.toList[i]? with
  |none=>rw[hq] at I;cases I
  |some c=>
   rw[hq] at I hy;cases I;cases hy;exact .v rfl
  rw[Q] at kj;cases kj;rw[lN,aeL];exact Src.ofString w hu b
 split at D;split at D;rename_i q;exact fin q D;cases D;split at D;rename_i q;exact fin q D;cases D;cases D;cases D
end
section
variable{G:Cells}{base:Nat}{w0:lD}{w:World}{C:Cells}{M:List Loc}{J:List br}{P:Program}
def kg(top auF:Nat):Option Int->Option Nat
 |some v=>if 0<=v/\v<=top then a_ v.toNat else bn
 |none=>a_ auF
def pL:Option bg->Option (Option Int)
 |none=>a_ bn
 |some (.v (.int _ i))=>a_ (a_ i)
 |_=>bn
def lX(len cap:Nat)(lo Q mx:Option Int):Option (Nat×Nat×Nat):=
 match kg cap cap mx with
 |none=>bn
 |some m=>if mx.isSome&&Q.isNone then bn else
  match kg m len Q with
  |none=>bn
  |some h=>match kg h 0 lo with
   |none=>bn
   |some l=>a_ (l,h,m)
def DF(C:Cells)(M:List Loc)(J:List br):Option bg->Option Value->Prop
 |none,bn=>True
 |some a,a_ b=>bP C M J a b
 |_,_=>False
def N5{a}{b}(h:DF C M J a b)(Q:pL a=a_ i):(b=bn/\i=bn)\/∃k n,b=a_ (.int k n)/\i=a_ n:=by
 unfold pL at Q;split at Q;cases Q;cases b with
 |none=>exact bD ⟨rfl,rfl⟩
 |some b=>exact h.elim
 cases Q;cases b with
 |none=>exact h.elim
 |some b=>cases h;exact bG ⟨_,_,rfl,rfl⟩
 cases Q
def C9{k}{n:Int}{r:Nat}(code)(h:kg top d (a_ n)=a_ r)(w):(Instr.sliceBound (.int k n) top code).run P w=.ok r w:=by
 unfold kg at h;simp only at h;split at h;rename_i O;cases h;exact run_sliceBound w k n top code O.1 O.2;cases h
def V0{r:Nat}(hd:d<=top)(h:kg top d i=a_ r):r<=top:=by
 unfold kg at h;split at h;split at h;cases h;omega;cases h;cases h;exact hd
def TH{isSlice:Bool}{LR:Nat}{lo Q mx}{zC kj vi}{l h:Nat}(pG:(lo=bn/\zC=bn)\/∃k n,lo=a_ (.int k n)/\zC=a_ n)
  (zp:(Q=bn/\kj=bn)\/∃k n,Q=a_ (.int k n)/\kj=a_ n) (EB:(mx=bn/\vi=bn)\/∃k n,mx=a_ (.int k n)/\vi=a_ n) (ga:len<=cap) (GJ:cap<=LR)
  (O:lX len cap zC kj vi=a_ (l,h,m)) (w:World):
  (aqV isSlice len LR lo Q mx).run P w=.ok (l,h,if vi.isSome then m else LR) w/\l<=h/\h<=m/\m<=cap/\(vi=bn->m=cap):=by
 unfold lX at O;split at O;cases O;rename_i aKY hm;split at O;cases O;rename_i me;split at O;cases O;rename_i aKJ hh;split at O;cases O;rename_i aKT hl;cases O;have VZ:∀{top abA d r:Nat} {n:Int},top<=abA->kg top d (a_ n)=a_ r->kg abA d (a_ n)=a_ r:=by
  intro top abA d r n ht hq;unfold kg at hq⊢;simp only at hq⊢;split at hq;rename_i q;rw[if_pos ⟨q.1,aa⟩];exact hq;cases hq
 have aib:=V0 (j0 _) hl
 rcases EB with⟨rfl,rfl⟩|⟨km,nm,rfl,rfl⟩
 have nM:m=cap:=by cases hm;rfl
 subst nM;have X0:=V0 ga hh;refine⟨?_,aib,X0,b_ _,λ_=>rfl⟩;unfold aqV
 rcases zp with⟨rfl,rfl⟩|⟨kh,aEf,rfl,rfl⟩<;>rcases pG with⟨rfl,rfl⟩|⟨kl,nl,rfl,rfl⟩
 cases hh;cases hl;simp;cases hh;simp[C9 (P:=P) _ hl];cases hl;simp[C9 (P:=P) _ (VZ GJ hh)];simp[C9 (P:=P) _ (VZ GJ hh),C9 (P:=P) _ hl]
 rcases zp with⟨rfl,rfl⟩|⟨kh,aEf,rfl,rfl⟩
 simp at me;have X0:h<=m:=by
  unfold kg at hh;simp only at hh;split at hh;cases hh;omega;cases hh
 refine⟨?_,aib,X0,V0 (b_ _) hm,λq=>ax⟩;unfold aqV;have Bi:=VZ (d:=cap) (r:=m) GJ (by unfold kg at hm⊢;exact hm);have aie:kg LR LR (a_ nm)=a_ m:=by unfold kg at Bi⊢;exact Bi
 rcases pG with⟨rfl,rfl⟩|⟨kl,nl,rfl,rfl⟩
 cases hl;simp[C9 (P:=P) _ aie,C9 (P:=P) _ hh];simp[C9 (P:=P) _ aie,C9 (P:=P) _ hh,C9 (P:=P) _ hl]
def Fm(t:o6)(len l h m:Nat)(mx:Bool):o6:=
 if mx then(if m=h then .exact else .no)
 else if h=len then(if l=0 then t else match t with|.exact=>.exact|_=>.no) else .no
def nG(n:Nat)(x:bg)(lo Q mx:Option bg):Option bg:=
 match pL lo,pL Q,pL mx with
 |some l',a_ h',a_ m'=>match x with
  |.bq=>match lX 0 0 l' h' m' with
   |some _=>a_ .bq
   |none=>bn
  |.sl xs t=>match lX xs.length xs.length l' h' m' with
   |some (l,h,m)=>if xs.all (λx=>x.cells.length==n) then a_ (.sl ((xs.take h).drop l) (Fm t xs.length l h m m'.isSome)) else bn
   |none=>bn
  |.rs k m sz off len=>if sz=n/\m'.isNone then match lX len len l' h' bn with
   |some (l,h,_)=>if l=0 then a_ (.rs k m n off h) else if l<len then a_ (.rs k m n (off+l*n) (h-l)) else a_ (.sl [] .no)
   |none=>bn
   else bn
  |.v (.string s)=>if mx.isSome then bn else match lX s.size s.size l' h' bn with
   |some (l,h,_)=>a_ (.v (.string (s.extract l h)))
   |none=>bn
  |_=>bn
 |_,_,_=>bn
def agA:∀{zs},(∀z∈zs,z.cells.length=n)->∀k,eO (zs.take k)=(eO zs).take (k*n)
 |[],_,k=>by simp[eO]
 |z::r,h,k=>by
  cases k with
  |zero=>simp[eO]
  |succ k=>
   rw[qn,Cj,Cj,agA (λx I=>h x aA),qo,FM,List.take_append,h z af,show k*n+n-n=k*n by omega,
    ow (l:=z.cells) (by rw[h z af];omega)]
def agx:∀{zs},(∀z∈zs,z.cells.length=n)->∀k,eO (zs.drop k)=(eO zs).drop (k*n)
 |[],_,k=>by simp[eO]
 |z::r,h,k=>by
  cases k with
  |zero=>simp
  |succ k=>
   rw[Ah,Cj,agx (λx I=>h x aA),qo,FM,List.drop_append,h z af,show k*n+n-n=k*n by omega,
    w4 (l:=z.cells) (by rw[h z af];omega),gd]
def avZ(ht:P.underlying t=a_ (.slice e))(hn:jM P e=a_ n)(h:cB G base w0 C M J w)(I:bP C M J x x')
  (pG:DF C M J lo zC) (zp:DF C M J Q kj) (EB:DF C M J mx vi) (Na:∀s,x≠.v (.string s)) (D:nG n x lo Q mx=a_ r):gX G base w0 C M J P (Ip t x' zC kj vi) w r J:=by
 unfold nG at D;split at D;rename_i l₁ azl SY el eh em;have cD:=N5 pG el;have ch:=N5 zp eh;have vV:=N5 EB em;split at D;split at D;rename_i q hq;obtain⟨l,hh,m⟩:=q;cases D;cases I;obtain⟨e5,c1,c2,c3,c4⟩:=TH (P:=P) (isSlice:=bh) cD ch vV (b_ 0) (b_ 0) hq w;have hm:m=0:=aa
 have hl:l=0:=aa
 have MV:hh=0:=aa
 subst hm;subst hl;subst MV;refine .same h ?_ .bq;simp[Ip,Pa,run_underlying ht,e5,qN hn];cases D;rename_i xs tl;split at D;rename_i l hh m hq;split at D
 · rename_i kT
   cases D;have MD:∀z∈xs,z.cells.length=n:=by
    intro z hz;have:=eG.1 kT z hz;simpa using this
   cases x'<;>first|(cases I;done)|skip
   rename_i b len cap;cases b with
   |none=>cases I
   |some a=>
    obtain⟨e1,jX,EJ,iq⟩:=Ow I MD;subst e1;obtain⟨e5,c1,c2,c3,c4⟩:=TH (P:=P) (isSlice:=bh) cD ch vV (b_ _) iq hq w;refine⟨C,M,_,w,aMx,dm.refl _ _ _,h,?_⟩;have cW:((xs.take hh).drop l).length=hh-l:=ah
    generalize hM:(if SY.isSome=bh then m else cap)=m';have Bi:hh<=m':=by rw[<-hM];split<;>omega
    by_cases n8:m'=l;rw[if_pos n8];have XZ:hh=l:=aa
    subst XZ;have he:(xs.take hh).drop hh=[]:=by apply ou;omega
    rw[he,n8,kY];refine .sl (xs:=[]) (sz:=n) (λ_ _=>undef) (λq=>(q rfl).elim) (λi x I=>aG) (λi x j c I=>aG) (λi x j c I=>aG) ?_ (b_ _);unfold Fm;split;split<;>simp[vQ];rename_i JE;simp only[JE,kJ,if_false] at hM;split;rename_i ahY;split;rename_i wq;have JS:xs=[]:=by apply ou;omega
    subst JS;cases I with
    |sl f gr dw hC hR hT MJ=>
     cases tl with
     |exact=>simp[vQ]
     |no=>simp[vQ]
     |tok id=>
      obtain⟨n1,s1,mO,L,q1,bt,bV,fP,iN⟩:=hT;refine⟨n1,s1,mO,L,q1,bt,bV,bD rfl,λq=>?_⟩;obtain⟨p1,p2,p3,jm⟩:=iN q;refine⟨p1,p2,p3,?_⟩;have:cap=0:=aa
      rw[this] at jm;simpa using jm
    split<;>simp[vQ];simp[vQ];rw[if_neg n8];have aKw:l<m':=aa
    obtain⟨ab,ao,DS⟩:=a;have gr:DS=bn\/(xs=[]\/True):=bG (bG trivial);by_cases EN:xs=[];subst EN;have wq:l=0:=by simp at c3 c2;omega
    have MV:hh=0:=by simp at c3;omega
    subst wq;subst MV;have XB:(⟨ab,ao,DS⟩:Addr).add (0*n)=⟨ab,ao,DS⟩:=by simp[Addr.add]
    rw[XB];simp only[List.take_nil,List.drop_nil,FN];refine .sl (xs:=[]) (sz:=n) (λ_ _=>undef) (λq=>(q rfl).elim) (λi x I=>aG) (λi x j c I=>aG) (λi x j c I=>aG) ?_ (j0 _);unfold Fm;split;rename_i Ye;simp only[Ye,if_true] at hM;have:m=0:=by simp at c3;omega
    omega;rename_i JE;simp only[JE,kJ,if_false] at hM;subst hM;simp only[gR,if_true];cases I with
    |sl f gr dw hC hR hT MJ=>
     cases tl with
     |exact=>exact hT
     |no=>trivial
     |tok id=>
      obtain⟨n1,s1,mO,L,q1,bt,bV,fP,iN⟩:=hT;exact⟨n1,s1,mO,L,q1,bt,bV,bD rfl,iN⟩
    have ayU:=EJ EN;subst ayU;rw[addr_add];refine Tz cW.symm (λz hz=>MD z (yO (rI hz))) ?_ ?_ aa;rw[agx (n:=n) (λz hz=>MD z (yO hz)),agA MD];exact(jX.take _).drop _;unfold Fm;split;rename_i Ye;simp only[Ye,if_true] at hM;split;simp only[vQ];omega;trivial;rename_i JE;simp only[JE,kJ,if_false] at hM;subst hM;split;rename_i ahY;split;rename_i wq;subst wq;subst ahY;cases I with
    |sl f gr dw hC hR hT MJ=>
     rename_i sz;have:sz=n:=by
      cases xs with
      |nil=>exact(EN rfl).elim
      |cons z r=>rw[<-dw 0 z rfl];exact MD z af
     subst this;simpa using hT
    cases tl with
    |exact=>
     cases I with
     |sl f gr dw hC hR hT MJ=>
      have aJ9:cap=xs.length:=hT;simp only[vQ];omega
    |no=>trivial
    |tok id=>trivial
    trivial
 cases D;cases D;rename_i k m sz off len;split at D;rename_i ga;obtain⟨rfl,Cv⟩:=ga;have nM:SY=bn:=by cases SY<;>simp at Cv⊢
 subst nM;split at D;rename_i l hh uk hq;cases I with
 |rs O hM rX ga ha=>
  rename_i cap L Z a;obtain⟨e5,c1,c2,c3,c4⟩:=TH (P:=P) (isSlice:=bh) cD ch vV (b_ _) ga hq w;simp only[Ak,kJ,if_false] at e5;split at D;rename_i wq;cases D;subst wq;have hR:bP C M J (.rs k m sz off hh) (.slice (a_ a) hh cap):=.rs O hM rX aa λq=>by
   obtain⟨a1,a2,a3,a4⟩:=ha q;refine⟨a1,ig (acG (pW _ aa) _) a2,a3,a4⟩
  refine .same h ?_ hR;simp only[Ip,Pa,gy,mR,run_underlying ht,e5,qN hn,gI];simp[Addr.add];split at D;rename_i wq qa;cases D;have hR:bP C M J (.rs k m sz (off+l*sz) (hh-l)) (.slice (a_ (a.add (l*sz))) (hh-l) (cap-l)):=.rs O hM rX aa λq=>by
   obtain⟨a1,a2,a3,a4⟩:=ha q;have e1:off+l*sz+(hh-l)*sz=off+hh*sz:=by rw[mB,<-qo];congr 2;omega
   have e2:off+l*sz+(cap-l)*sz=off+cap*sz:=by rw[mB,<-qo];congr 2;omega
   refine⟨by rw[a1,addr_add],?_,by rw[e2];exact a3,by rw[e2];exact a4⟩;rw[e1];exact ig (acG (pW _ aa) _) a2
  refine .same h ?_ hR;have jH:cap≠l:=aa
  simp[Ip,Pa,run_underlying ht,e5,qN hn,jH]
  · cases D
    have XZ:hh=l:=aa
    subst XZ;refine⟨C,M,_,w,aMx,dm.refl _ _ _,h,?_⟩;split
    all_goals exact .sl (xs:=[]) (sz:=sz) (λ_ _=>undef) (λq=>(q rfl).elim) (λi x I=>aG) (λi x j c I=>aG) (λi x j c I=>aG) trivial (j0 _)
 cases D;cases D;rename_i s;exact(Na s rfl).elim;cases D;cases D
def av0(ht:P.underlying t=a_ .string)(h:cB G base w0 C M J w)(I:bP C M J x x')
  (pG:DF C M J lo zC) (zp:DF C M J Q kj) (EB:DF C M J mx vi) (hs:∃s,x=.v (.string s)) (D:nG n x lo Q mx=a_ r):gX G base w0 C M J P (Ip t x' zC kj vi) w r J:=by
 obtain⟨s,rfl⟩:=hs;cases I;unfold nG at D;split at D;rename_i l₁ azl SY el eh em;simp only at D;split at D;cases D;rename_i Cv;have ayn:mx=bn:=by cases mx<;>simp at Cv⊢
 subst ayn
 have lM:vi=bn:=by cases vi with|none=>rfl|some b=>exact EB.elim
 subst lM;split at D;rename_i l hh m hq;cases D;obtain⟨e5,c1,c2,c3,c4⟩:=TH (P:=P) (isSlice:=bf) (N5 pG el) (N5 zp eh) (bD ⟨rfl,rfl⟩) (b_ _) (b_ _) hq w;exact .same h (by simp[Ip,Pa,run_underlying ht,e5]) (.v rfl);cases D;cases D
end
end
end Go.bM

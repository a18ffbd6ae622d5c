/- Part 1 of a proof. No condition. -/
import Derived.Below
import Derived.Calls
import Derived.Tactics
import Derived.Laws.Append
import Derived.ArgAppend
import Derived.Deep.AppendSrc
import Derived.Laws.StructEq
import Derived.Laws.Slices
import Derived.Laws.BytesString
import Derived.Lib.UnsafeStr
set_option linter.unusedVariables false
set_option linter.unusedSimpArgs false
set_option linter.defProp false
namespace Go
def aa{p:Prop}(h:p:=by omega):p:=h
def af{p:Prop}(h:p:=by simp):p:=h
def ag{p:Prop}(h:p:=by decide):p:=h
def ah{p:Prop}(h:p:=by simp;omega):p:=h
def ai{p:Prop}(h:p:=by kernel_rfl):p:=h
def aj{p:Prop}(h:p:=by rw[gN (by omega) (by omega)];omega):p:=h
def ak{p:Prop}(h:p:=by repeat' first|kernel_rfl|(intros;kernel_rfl)|constructor):p:=h
def an{p:Prop}(h:p:=by simpa using q):p:=h
def aq{p:Prop}(h:p:=by simp at h):p:=h
def au{p:Prop}(h:p:=by simp at q;omega):p:=h
def av{p:Prop}(h:p:=by cases q):p:=h
def ax{p:Prop}(h:p:=by rw[gN (by omega) (by omega)];rfl):p:=h
def ay{p:Prop}(h:p:=by rw[bC (by intro q;subst q;rw[S] at O;cases O)];exact O):p:=h
def az{p:Prop}(h:p:=by rcases hA with⟨rfl,_⟩|⟨_,rfl,_⟩<;>rfl):p:=h
def aA{p:Prop}(h:p:=by simp[I]):p:=h
def aB{p:Prop}(h:p:=by cases e):p:=h
def aC{p:Prop}(h:p:=by rw[xq _ _ _ (by exact V)];exact a1):p:=h
def aD{p:Prop}(h:p:=by show(0:Int)<=(a);omega):p:=h
def aE{p:Prop}(h:p:=by simpa using V):p:=h
def aF{p:Prop}(h:p:=by cases h):p:=h
def aG{p:Prop}(h:p:=by simp at I):p:=h
def aH{p:Prop}(h:p:=by simpa using O):p:=h
def aI{p:Prop}(h:p:=by simp[lE] at h):p:=h
def aJ{p:Prop}(h:p:=by simpa using hl):p:=h
def aK{p:Prop}(h:p:=by rw[<-h.fJ];simp):p:=h
def aL{p:Prop}(h:p:=by intro q;subst q;rw[S] at O;cases O):p:=h
def aM{p:Prop}(h:p:=by simp only[eg]):p:=h
def aN{p:Prop}(h:p:=by simpa using z):p:=h
def aO{p:Prop}(h:p:=by rw[Co _ _ _ (by show L.b≠_;omega)];exact q1 i):p:=h
def aP{p:Prop}(h:p:=by cases h;exact⟨rfl,λi a b h=>by simp at h⟩):p:=h
def aQ{p:Prop}(h:p:=by rw[Co _ _ _ (by show L.b≠_;omega)];exact a2):p:=h
def aR{p:Prop}(h:p:=by simpa using h):p:=h
def aS{p:Prop}(h:p:=by simp only[bA,h.b];rfl):p:=h
def aT{p:Prop}(h:p:=by simp[hy]):p:=h
def aU{p:Prop}(h:p:=by unfold SI;simp only[fW,run_underlying hd,gd];cases d<;>first|(exact(Qc _ rfl).elim)|simp):p:=h
def aV{p:Prop}(h:p:=by rw[xq _ _ _ (by exact V)];exact bT.1 o ho):p:=h
def aW{p:Prop}(h:p:=by simp only[bL,O];rfl):p:=h
def aX{p:Prop}(h:p:=by simpa using bt):p:=h
def aY{p:Prop}(h:p:=by show L.b≠_;omega):p:=h
def aZ{p:Prop}(h:p:=by simpa using Q):p:=h
def aHt{p:Prop}(h:p:=by simp[e7] at h):p:=h
def aHu{p:Prop}(h:p:=by simp[hq]):p:=h
def aHv{p:Prop}(h:p:=by simp[dF,lW]):p:=h
def aHw{p:Prop}(h:p:=by simpa using c7):p:=h
def aHx{p:Prop}(h:p:=by rcases q with rfl|⟨rfl,_⟩<;>rfl):p:=h
def aHy{p:Prop}(h:p:=by unfold nS at fo⊢;rw[gQ];exact fo):p:=h
def aHz{p:Prop}(h:p:=by rw[gQ];exact fo):p:=h
def aHA{p:Prop}(h:p:=by rw[xw];rfl):p:=h
def aHB{p:Prop}(h:p:=by rw[k4 q];exact hM):p:=h
def aHC{p:Prop}(h:p:=by rw[ln J,mq]):p:=h
def aHD{p:Prop}(h:p:=by grind):p:=h
def aHE{p:Prop}(h:p:=by decide +kernel):p:=h
def aHF{p:Prop}(h:p:=by rw[k4 q];exact O):p:=h
def aHG{p:Prop}(h:p:=by intro e;rw[e] at cg;simp at cg):p:=h
def aHH{p:Prop}(h:p:=by apply tv;simp):p:=h
def aHI{p:Prop}(h:p:=by cases i with|zero=>cases q1;cases bt;exact I|succ i=>cases q1):p:=h
def aHJ{p:Prop}(h:p:=by show(1:Int)<=5;decide):p:=h
def aHK{p:Prop}(h:p:=by unfold qK;rw[dZ];exact⟨e,by rw[n5];exact⟨he,O⟩,rfl⟩):p:=h
def aHL{p:Prop}(h:p:=by rw[dR.1 hy];exact⟨pR,o5⟩):p:=h
def aHM{p:Prop}(h:p:=by simp[e1]):p:=h
def aHN{p:Prop}(h:p:=by simp[dU]):p:=h
def aHO{p:Prop}(h:p:=by exact V):p:=h
def aHP{p:Prop}(h:p:=by rw[bC e];exact hj):p:=h
def aHQ{p:Prop}(h:p:=by rcases h.v with rfl|⟨rfl,_⟩<;>rfl):p:=h
def aHR{p:Prop}(h:p:=by simpa using he):p:=h
def aHS{p:Prop}(h:p:=by rw[bV hl];simp):p:=h
def aHT{p:Prop}(h:p:=by rw[vj];exact Nat.mod_lt _ (by omega)):p:=h
def aHU{p:Prop}(h:p:=by simp only[aab,RT,Am,aaI,FD,<-pn];exact pq n (by omega)):p:=h
def aHV{p:Prop}(h:p:=by rw[bC (by omega)];exact h0):p:=h
def aHW{p:Prop}(h:p:=by rw[bC (by omega)];exact q):p:=h
def aHX{p:Prop}(h:p:=by cases ys with|nil=>exact(bR rfl).elim|cons _ _=>simp):p:=h
def aHY{p:Prop}(h:p:=by simp[hw]):p:=h
def aHZ{p:Prop}(h:p:=by cases neg<;>rfl):p:=h
def aH0{p:Prop}(h:p:=by rw[dU]):p:=h
def aH1{p:Prop}(h:p:=by rcases kX with rfl|⟨rfl,_⟩<;>exact⟨rfl,rfl⟩):p:=h
def aH2{p:Prop}(h:p:=by rw[bC (by rintro rfl;rw[Y] at q;simp at q)];exact q):p:=h
def aH3{p:Prop}(h:p:=by simp at h⊢;omega):p:=h
def aH4{p:Prop}(h:p:=by have:=hI.ne;rw[en,p8] at z;omega):p:=h
def aH5{p:Prop}(h:p:=by have:=he.1;simp at this):p:=h
def aH6{p:Prop}(h:p:=by simp[binOp,NA]):p:=h
def aH7{p:Prop}(h:p:=by simpa using ha):p:=h
def aH8{p:Prop}(h:p:=by simpa using q1):p:=h
def aH9{p:Prop}(h:p:=by rw[Q];exact hz):p:=h
def aH_{p:Prop}(h:p:=by simpa using h4):p:=h
def aIa{p:Prop}(h:p:=by simpa using hn):p:=h
def aIb{p:Prop}(h:p:=by simpa using fh):p:=h
def aIc{p:Prop}(h:p:=by simp[e9,c8,jy,cr]):p:=h
def aId{p:Prop}(h:p:=by show 0<=12;omega):p:=h
def aIe{p:Prop}(h:p:=by have:=(cJ.1 hj).1;have:=V.1;simp at this;omega):p:=h
def aIf{p:Prop}(h:p:=by intro e;subst e;rw[S] at hj;cases hj;cases ho):p:=h
def aIg{p:Prop}(h:p:=by simp[zeroValue,typeInfo,Q,hv]):p:=h
def aIh{p:Prop}(h:p:=by have:=FK.1;simp at this;omega):p:=h
def aIi{p:Prop}(h:p:=by rw[Jb];exact h.defers.mono bK):p:=h
def aIj{p:Prop}(h:p:=by rw[bC (by omega)];exact h.out):p:=h
def aIk{p:Prop}(h:p:=by cases cj<;>first|rfl|cases ho):p:=h
def aIl{p:Prop}(h:p:=by rcases fo with⟨rfl,_⟩|⟨_,rfl,_⟩<;>rfl):p:=h
def aIm{p:Prop}(h:p:=by rintro rfl;rw[S] at hj;cases hj;exact O _ rfl):p:=h
def aIn{p:Prop}(h:p:=by have:=s.n;rw[Dt] at this;exact(jC this).2.2.1):p:=h
def aIo{p:Prop}(h:p:=by simp at bt;omega):p:=h
def aIp{p:Prop}(h:p:=by intro e;subst e;rw[S] at hj;cases hj;cases O):p:=h
def aIq{p:Prop}(h:p:=by simpa using eO.1 this.2 i (by simpa using Q)):p:=h
def aIr{p:Prop}(h:p:=by cases w<;>first|rfl|cases hw):p:=h
def aIs{p:Prop}(h:p:=by have:=z.s.n;rw[Dt] at this;exact(jC this).1):p:=h
def aIt{p:Prop}(h:p:=by rw[<-ha];exact h.apart k id L' L bR eC hM):p:=h
def aIu{p:Prop}(h:p:=by simp[Y]):p:=h
def aIv{p:Prop}(h:p:=by simp[GR,Ny,run_underlying ht,eT,p0 hn];rfl):p:=h
def aIw{p:Prop}(h:p:=by simp[O]):p:=h
def aIx{p:Prop}(h:p:=by cases x<;>first|rfl|cases I):p:=h
def aIy{p:Prop}(h:p:=by rw[en];omega):p:=h
def aIz{p:Prop}(h:p:=by rw[<-oz.1];exact S):p:=h
def aIA{p:Prop}(h:p:=by rw[q]):p:=h
def aIB{p:Prop}(h:p:=by simp[eD]):p:=h
def aIC{p:Prop}(h:p:=by simp[JG,run_underlying he]):p:=h
def aID{p:Prop}(h:p:=by unfold eqGuard;split<;>rfl):p:=h
def aIE{p:Prop}(h:p:=by have:=D.1;simpa using this):p:=h
def aIF{p:Prop}(h:p:=by have:=h.1;simpa using this):p:=h
def aIG{p:Prop}(h:p:=by first|(cases q;done)|omega):p:=h
def aIH{p:Prop}(h:p:=by rw[bC (by omega)];exact k0):p:=h
def aII{p:Prop}(h:p:=by rw[bC (by omega),bC (by omega)];exact h0):p:=h
def aIJ{p:Prop}(h:p:=by rw[c6,R9 q,gN (by omega) (by omega)];rfl):p:=h
def aIK{p:Prop}(h:p:=by rw[bC (by omega),bC (by omega)];exact k0):p:=h
def aIL{p:Prop}(h:p:=by simpa using h3):p:=h
def aIM{p:Prop}(h:p:=by have:=q Gl;have:=g Gl;have:=g' Gl;omega):p:=h
def aIN{p:Prop}(h:p:=by rw[s4 _ _ (λq=>O q.1)];exact bT.1 o ho):p:=h
def aIO{p:Prop}(h:p:=by rw[<-Y.1];exact S):p:=h
def aIP{p:Prop}(h:p:=by obtain⟨es,cC,m1,_⟩:=h.m;exact gl m1):p:=h
def aIQ{p:Prop}(h:p:=by simp;exact λa b=>bR.elim (· a) (· b)):p:=h
def aIR{p:Prop}(h:p:=by first|rfl|(exfalso;omega)):p:=h
def aIS{p:Prop}(h:p:=by simp at hz;obtain⟨n,_,rfl⟩:=hz;rfl):p:=h
def aIT{p:Prop}(h:p:=by rw[<-e,S] at q;cases q;exact bR _ rfl):p:=h
def aIU{p:Prop}(h:p:=by simp[binOp,SK,wq]):p:=h
def aIV{p:Prop}(h:p:=by simpa using Y):p:=h
def aIW{p:Prop}(h:p:=by simpa using e):p:=h
def aIX{p:Prop}(h:p:=by rw[aaK];exact Nat.mul_le_mul_left _ z):p:=h
def aIY{p:Prop}(h:p:=by intro e;subst e;rw[S] at hj;cases hj):p:=h
def aIZ{p:Prop}(h:p:=by apply tv;simpa using ou):p:=h
def aI0{p:Prop}(h:p:=by apply tv;simpa using LU):p:=h
def aI1{p:Prop}(h:p:=by simp only[cX,S,hm,if_true,h n hn,jS]):p:=h
def aI2{p:Prop}(h:p:=by rw[c6,GG q,gN (by omega) (by omega)]):p:=h
def aI3{p:Prop}(h:p:=by obtain⟨l,q,_⟩:=h;exact(yF q).one):p:=h
def aI4{p:Prop}(h:p:=by rw[jh];rfl):p:=h
def aI5{p:Prop}(h:p:=by simp[hj]):p:=h
def aI6{p:Prop}(h:p:=by rw[bC e];exact h):p:=h
def aI7{p:Prop}(h:p:=by rw[bC (eW hj)];exact h):p:=h
def aI8{p:Prop}(h:p:=by rw[bC (eW hj)];exact q):p:=h
def aI9{p:Prop}(h:p:=by show(5:Int)<=5;decide):p:=h
def aI_{p:Prop}(h:p:=by rw[GC];exact a2):p:=h
def aJa{p:Prop}(h:p:=by simpa using h.1):p:=h
def aJb{p:Prop}(h:p:=by rw[gF];exact a1):p:=h
def aJc{p:Prop}(h:p:=by simp at T):p:=h
def aJd{p:Prop}(h:p:=by simp only[tc,fL,Y,jS]):p:=h
def aJe{p:Prop}(h:p:=by simp at S):p:=h
def aJf{p:Prop}(h:p:=by rw[bC (ne q)];exact q):p:=h
def aJg{p:Prop}(h:p:=by rw[bC (Mm q)];exact q):p:=h
def aJh{p:Prop}(h:p:=by rw[lG (by omega)];rfl):p:=h
def aJi{p:Prop}(h:p:=by simp[oR,gD]):p:=h
def aJj{p:Prop}(h:p:=by rw[dR.1 hy];exact eU):p:=h
def aJk{p:Prop}(h:p:=by simpa using kK):p:=h
def aJl{p:Prop}(h:p:=by simpa using fO):p:=h
def aJm{p:Prop}(h:p:=by simpa using hf):p:=h
def aJn{p:Prop}(h:p:=by simp[nS];omega):p:=h
def aJo{p:Prop}(h:p:=by simpa using h5):p:=h
def aJp{p:Prop}(h:p:=by simp[hz]):p:=h
def aJq{p:Prop}(h:p:=by rw[dR.1 hy];exact I):p:=h
def aJr{p:Prop}(h:p:=by simp[hs]):p:=h
def aJs{p:Prop}(h:p:=by rw[Bq];simp<;>omega):p:=h
def aJt{p:Prop}(h:p:=by rw[x6];simp<;>omega):p:=h
def aJu{p:Prop}(h:p:=by simp only[uw];omega):p:=h
def aJv{p:Prop}(h:p:=by simp[h.fJ]):p:=h
def aJw{p:Prop}(h:p:=by simp[dF,lW,h]):p:=h
def aJx{p:Prop}(h:p:=by exact lV.ok.1):p:=h
def aJy{p:Prop}(h:p:=by simpa[AO] using e2):p:=h
def aJz{p:Prop}(h:p:=by rw[k4 eS];exact q1):p:=h
def aJA{p:Prop}(h:p:=by unfold mU;rw[jJ z]):p:=h
def aJB{p:Prop}(h:p:=by rw[dR.1 q];exact I):p:=h
def aJC{p:Prop}(h:p:=by rw[fL,I];rfl):p:=h
end Go
open Array renaming ext_getElem?->aE6,getElem?_append_left->aaa,getElem?_eq_getElem->vJ,getElem?_eq_none->aoa,getElem?_eq_some_iff->yU,getElem?_modify->Ej,length_toList->aob,size_append->aab
open BitVec renaming ofInt->Ch
open Bool renaming and_eq_true->fA,false->bf,false_eq_true->kz,not_true->yV,true->bh
open Go.Builtin renaming append_->vL,firstCells->aag,lenOf->aah,len_->JG,zeroCells->AM
open Go.Instr renaming index->aan,indexAt->SH,loadAt->aao,slice->Ny,sliceAt->GR,sliceBounds->aoj,storeAt->aok,sureAddr->Nz
open Go.IntKind renaming i64->dy
open Go.Op renaming bytesLess->aaq,equalIn->vN,intArith->aar,intBits->SK,intCmp->NA
open Go.Result renaming andThen_ok->gd
open Go.RowKit.Below renaming heap_setCell->aow
open Go.Sem renaming run_bind->fW,run_pure->lK
open Go.Value renaming cells->AO
open Go.World renaming cell?->Es,cell?_alloc_lt->xq,cell?_alloc_new->GW,cell?_setCells_in->aFc,cell?_setCells_out->aFd,freeze->SL,frozen?->NG,frozen?_alloc_new->JL,frozen?_alloc_old->Co,frozen?_setCells->Cp,setCells->NI,shape?->JM,size_drew->aax
open Go renaming byteCells->aoz
open List renaming all_append->aoA,all_cons->oJ,all_eq_true->eO,append_assoc->dU,append_nil->hJ,drop_of_length_le->vO,drop_succ_cons->AT,eq_nil_of_length_eq_zero->nF,ext_getElem?->Et,getElem?_append_left->fE,getElem?_append_right->fF,getElem?_drop->sx,getElem?_eq_getElem->cx,getElem?_eq_none->jJ,getElem?_eq_some_iff->cJ,getElem?_map->fL,getElem?_set_ne->bC,getElem?_set_self->bV,getElem?_take->SP,getElem?_take_of_lt->Cr,getElem_mem->NK,getElem_of_mem->Eu,length_append->en,length_cons->eV,length_drop->y5,length_map->dj,length_nil->iP,length_take->Cs,map_cons->fM,mem_map->dZ,mem_of_getElem?->cE,mem_of_mem_drop->vQ,mem_of_mem_take->JP,nil_append->gV,range->kR,size_toArray->aaI,take_of_length_le->n6,take_succ_cons->AW
open Nat renaming add_assoc->nG,add_le_add_left->aoS,add_mul->pn,add_zero->uE,eq_zero_or_pos->Ct,le_refl->ck,le_trans->gY,lt_or_ge->d_,mul_le_mul_right->pq,one_mul->Ex,sub_self->lM,sub_zero->GZ,zero_add->gF,zero_le->jR
open Ne renaming symm->eW
open Option renaming isSome_iff_exists->aaM,isSome_none->A2,map_eq_some_iff->dm,map_some->jS,none->bn,some->a_
open Option.some renaming injEq->mJ
open Or renaming inl->bD,inr->bF
namespace Go.bP
open Go.RowKit
section
variable{a:Addr}{B b base b6 cap d field fin E_ id k len m n n' o off top:Nat}{dst e s src t ty:TypeId}{i' j s' v x' y y':Value}{w w':World}{i:Option Int}{cs' news vs:List Value}{bM neg row:Bool}{C3:Array Field}{f:Field}{op:BinOp}{f_ j3:Operand}{jX yl uf:Option Value}
def cO{α:Type}{l:List α}{i:Nat}(h:i<l.length):∃x,l[i]?=a_ x:=⟨_,cx h⟩
def gl{α:Type}{l:List α}{i:Nat}{x:α}(h:l[i]?=a_ x):i<l.length:=(cJ.1 h).1
inductive n_ where
 |exact
 |no
 |tok (id:Nat)
 deriving DecidableEq
inductive bg where
 |v (x:Value)
 |agg (Z:List bg)
 |bQ (Z:List bg)
 |bp
 |sl (xs:List bg) (t:n_)
 |fp (Z:List bg) (off:Nat)
 |mp (k off:Nat)
 |rp (k n off:Nat)
 |rs (k n sz off len:Nat)
 |gm (k:Nat)
 |fV (ch:List PanicEntry)
 |fn (f:Fn) (first Uf:List bg)
 |ep (t:TypeId) (x:bg)
 |fR (k:Nat)
 |iV (k:Nat)
 |h_ (k:Nat) (t:TypeId×Nat)
 |fx (Z:List bg) (b o:Nat)
variable{r x:bg}{Q lo mx:Option bg}{Z ts us ys zs:List bg}
def bg.cells:bg->List bg
 |.agg Z=>Z
 |x=>[x]
def bg.one:bg->Bool
 |.agg _|.bQ _|.fV _=>bf
 |_=>bh
def plain:Value->Bool
 |.bool _|.int _ _|.float _ _|.string _|.pointer bn|.nilFunc|.nilIface|.map bn=>bh
 |_=>bf
inductive br where
 |cells (Z:List bg) (row:Bool)
 |tok (n sz:Nat) (e:TypeId)
 |obj (o:Obj)
 |eH (es:List (bg×bg×Nat)) (aFH:Nat)
 |cc (st:LoopState) (pd:Option Code) (bX:List bg) (ps:Array Tmp) (ok:Code->Code->Prop)
variable{J bl:List br}
def br.isObj:br->Bool
 |.cells _ _|.tok _ _ _=>bf
 |_=>bh
def br.like(b b':br):Prop:=(∀o,b=.obj o->∃o',b'=.obj o'/\(o=.deferred (a_ [])->o'=o))/\
 (∀st pd bX ps ok,b=.cc st pd bX ps ok->∃ga k3,b'=.cc ga k3 bX ps ok)/\(∀es cC,b=.eH es cC->∃mo mS,b'=.eH mo mS)
def br.like.refl(b:br):b.like b:=⟨λo h=>⟨o,h,λ_=>rfl⟩,λst pd _ _ _ h=>⟨st,pd,h⟩,λes cC h=>⟨es,cC,h⟩⟩
def br.like.trans{a b c:br}(h:a.like b)(h':b.like c):a.like c:=by
 refine⟨λo e=>?_,λst pd bX ps ok e=>?_,λes cC e=>?_⟩;obtain⟨o',e',f⟩:=h.1 o e;obtain⟨aAw,uV,f'⟩:=h'.1 o' e';refine⟨aAw,uV,λq=>?_⟩;rw[(f q)] at f';exact f' q;obtain⟨ga,k3,e'⟩:=h.2.1 _ _ _ _ _ e;exact h'.2.1 _ _ _ _ _ e';obtain⟨mo,mS,e'⟩:=h.2.2 _ _ e;exact h'.2.2 _ _ e'
def br.like.isObj{b b':br}(h:b.like b')(ho:b.isObj=bh):b'.isObj=bh:=by
 cases b with
 |obj o=>obtain⟨o',e,_⟩:=h.1 o rfl;rw[e];rfl
 |cc st pd bX ps ok=>obtain⟨_,_,e⟩:=h.2.1 _ _ _ _ _ rfl;rw[e];rfl
 |eH es cC=>obtain⟨_,_,e⟩:=h.2.2 _ _ rfl;rw[e];rfl
 |_=>cases ho
def tG(o:Obj):Prop:=∀c t f,o≠.cells c t f
structure Loc where
 b:Nat
 fin:Nat:=0
 cap:Nat:=0
 ty:TypeId×Nat:=(0,0)
variable{M M':List Loc}{L L':Loc}
abbrev Cells:=Nat->Nat->Option Value
variable{C bI:Cells}
def uN(M:List Loc)(J:List br)(a:Addr)(len cap sz:Nat):n_->Prop
 |.exact=>cap=len
 |.no=>True
 |.tok id=>∃n s ty L,J[id]?=a_ (.tok n s ty)/\M[id]?=a_ L/\len<=n/\(len=0\/sz=s)/\
  (len=n->a.spot=bn/\a.block=L.b/\a.off+len*s=L.fin/\a.off+cap*s=L.cap)
inductive bO(C:Cells)(M:List Loc)(J:List br):bg->Value->Prop
 |v {x:Value} (h:plain x=bh):bO C M J (.v x) x
 |agg {Z:List bg} {cs':Array Value} (hl:Z.length=cs'.size)
  (h:∀(i:Nat) a b,Z[i]?=a_ a->cs'[i]?=a_ b->bO C M J a b):bO C M J (.agg Z) (.agg cs')
 |bQ {Z:List bg} {cs':Array Value} (hl:Z.length=cs'.size)
  (h:∀(i:Nat) a b,Z[i]?=a_ a->cs'[i]?=a_ b->bO C M J a b):bO C M J (.bQ Z) (.tuple cs')
 |bp:bO C M J .bp (.slice bn 0 0)
 |sl {xs:List bg} {t:n_} {a:Addr} {cap sz:Nat} (f:Nat->Nat->Value)
  (gk:xs≠[]->a.spot=bn)
  (dG:∀(i:Nat) x,xs[i]?=a_ x->x.cells.length=sz)
  (hC:∀(i:Nat) x (j:Nat) c,xs[i]?=a_ x->x.cells[j]?=a_ c->C a.block (a.off+i*sz+j)=a_ (f i j))
  (hR:∀(i:Nat) x (j:Nat) c,xs[i]?=a_ x->x.cells[j]?=a_ c->bO C M J c (f i j))
  (hT:uN M J a xs.length cap sz t) (gT:xs.length<=cap):bO C M J (.sl xs t) (.slice (a_ a) xs.length cap)
 |fp {Z:List bg} {off b o:Nat} (f:Nat->Value)
  (hC:∀(i:Nat) c,Z[i]?=a_ c->C b (o+i)=a_ (f i)) (hR:∀(i:Nat) c,Z[i]?=a_ c->bO C M J c (f i)):
  bO C M J (.fp Z off) (.pointer (a_ ⟨b,o+off,bn⟩))
 |mp {k off:Nat} {L:Loc} {Z:List bg} (O:J[k]?=a_ (.cells Z bf)) (hM:M[k]?=a_ L):
  bO C M J (.mp k off) (.pointer (a_ ⟨L.b,off,bn⟩))
 |rp {k n off:Nat} {L:Loc} {Z:List bg} {a:Addr} (O:J[k]?=a_ (.cells Z bh)) (hM:M[k]?=a_ L) (hn:n<=Z.length) (ha:n=Z.length->a=⟨L.b,off,bn⟩):
  bO C M J (.rp k n off) (.pointer (a_ a))
 |rs {k n sz off len cap:Nat} {L:Loc} {Z:List bg} {a:Addr} (O:J[k]?=a_ (.cells Z bh)) (hM:M[k]?=a_ L) (hn:n<=Z.length) (fO:len<=cap)
  (ha:n=Z.length->a=⟨L.b,off,bn⟩/\off+len*sz<=Z.length/\Z.length<=off+cap*sz/\off+cap*sz<=L.cap):
  bO C M J (.rs k n sz off len) (.slice (a_ a) len cap)
 |gm {k:Nat} {L:Loc} {o:Obj} (O:J[k]?=a_ (.obj o)) (hM:M[k]?=a_ L):bO C M J (.gm k) (.pointer (a_ ⟨L.b,0,bn⟩))
 |fn {f:Fn} {fs Z:List bg} {kG cs':Array Value} (kK:fs.length=kG.size) (fO:Z.length=cs'.size)
  (hf:∀(i:Nat) a b,fs[i]?=a_ a->kG[i]?=a_ b->bO C M J a b)
  (T:∀(i:Nat) a b,Z[i]?=a_ a->cs'[i]?=a_ b->bO C M J a b):bO C M J (.fn f fs Z) (.func f kG cs')
 |ep {t:TypeId} {x:bg} {x':Value} (h:bO C M J x x'):bO C M J (.ep t x) (.iface t x')
 |fR {k:Nat} {L:Loc} {es:List (bg×bg×Nat)} {cC:Nat} (O:J[k]?=a_ (.eH es cC)) (hM:M[k]?=a_ L):bO C M J (.fR k) (.map (a_ L.b))
 |iV {k:Nat} {L:Loc} {st:LoopState} {pd:Option Code} {bX:List bg} {ps:Array Tmp} {ok:Code->Code->Prop} (O:J[k]?=a_ (.cc st pd bX ps ok)) (hM:M[k]?=a_ L):bO C M J (.iV k) (.func (.yield L.b) #[] #[])
 |h_ {k:Nat} {L:Loc} {Z:List bg} (O:J[k]?=a_ (.cells Z bf)) (hM:M[k]?=a_ L):bO C M J (.h_ k L.ty) (.pointer bn)
 |fx {Z:List bg} {b o:Nat} (f:Nat->Value)
  (hC:∀(i:Nat) c,Z[i]?=a_ c->C b (o+i)=a_ (f i)) (hR:∀(i:Nat) c,Z[i]?=a_ c->bO C M J c (f i)):
  bO C M J (.fx Z b o) (.pointer (a_ ⟨b,o,bn⟩))
structure cY(C:Cells)(M:List Loc)(J:List br)(bI:Cells)(M':List Loc)(bl:List br):Prop where
 C:∀b o v,C b o=a_ v->bI b o=a_ v
 cells:∀(k:Nat) Z fz,J[k]?=a_ (.cells Z fz)->∃cs',bl[k]?=a_ (.cells cs' fz)/\(fz=bh->Z.length<=cs'.length)/\((fz=bh->cs'.length=Z.length)->M'[k]?=M[k]?)/\((M[k]?).isSome->(M'[k]?).isSome)
 toks:∀(k:Nat) n s ty,J[k]?=a_ (.tok n s ty)->∃n',bl[k]?=a_ (.tok n' s ty)/\n<=n'/\(n'=n->M'[k]?=M[k]?)/\((M[k]?).isSome->(M'[k]?).isSome)
 gp:∀(k:Nat) b,b.isObj=bh->J[k]?=a_ b->(∃b',bl[k]?=a_ b'/\b.like b')/\M'[k]?=M[k]?
def cY.refl(C)(M)(J):cY C M J C M J:=
 ⟨λ_ _ _ h=>h,λ_ Z fz h=>⟨Z,h,λ_=>ck _,λ_=>rfl,λh=>h⟩,λ_ n _ _ h=>⟨n,h,ck _,λ_=>rfl,λh=>h⟩,λ_ b _ h=>⟨⟨b,h,.refl b⟩,rfl⟩⟩
def cY.trans{JW aaX}{G_ abb}{ago agp}(h:cY C M J JW G_ ago)(k:cY JW G_ ago aaX abb agp):cY C M J aaX abb agp:=by
 refine⟨λb o v e=>k.C _ _ _ (h.C _ _ _ e),λi Z fz e=>?_,λi n s ty e=>?_,λi b O e=>?_⟩;obtain⟨cs',e',g,m,s⟩:=h.cells i Z fz e;obtain⟨arp,uV,g',m',s'⟩:=k.cells i cs' fz e';exact⟨arp,uV,λq=>gY (g q) (g' q),λq=>((m' λGl=>aIM).trans (m λGl=>aIM)),λq=>s' (s q)⟩;obtain⟨n',e',l,m,s1⟩:=h.toks i n s ty e;obtain⟨akg,uV,l',m',s2⟩:=k.toks i n' s ty e';refine⟨akg,uV,gY l l',λq=>?_,λq=>s2 (s1 q)⟩;have b:akg=n':=aa
 exact(m' b).trans (m aa);obtain⟨⟨b',e',l⟩,m⟩:=h.gp i b O e;obtain⟨⟨TR,uV,l'⟩,m'⟩:=k.gp i b' (l.isObj O) e';exact⟨⟨TR,uV,l.trans l'⟩,m'.trans m⟩
def cY.length(h:cY C M J bI M' bl):J.length<=bl.length:=by
 rcases Ct J.length with h0|h0
 omega;have hl:J.length-1<J.length:=aa
 have e:=cx hl;have key:∃b,bl[J.length-1]?=a_ b:=by
  cases O:J[J.length-1] with
  |cells Z fz=>rw[O] at e;obtain⟨cs',q,_⟩:=h.cells _ _ _ e;exact⟨_,q⟩
  |tok n s ty=>rw[O] at e;obtain⟨n',q,_⟩:=h.toks _ _ _ _ e;exact⟨_,q⟩
  |obj o=>rw[O] at e;obtain⟨⟨b',q,_⟩,_⟩:=h.gp _ _ rfl e;exact⟨_,q⟩
  |eH es cC=>rw[O] at e;obtain⟨⟨b',q,_⟩,_⟩:=h.gp _ _ rfl e;exact⟨_,q⟩
  |cc st pd bX ps ok=>rw[O] at e;obtain⟨⟨b',q,_⟩,_⟩:=h.gp _ _ rfl e;exact⟨_,q⟩
 obtain⟨b,O⟩:=key;have:=(cJ.1 O).1;omega
def uN.mono(bK:cY C M J bI M' bl){sz:Nat}{t}
  (h:uN M J a len cap sz t):uN M' bl a len cap sz t:=by
 cases t with
 |exact=>exact h
 |no=>trivial
 |tok id=>
  obtain⟨n,s,ty,L,e,m,l,z,q⟩:=h;obtain⟨n',e',l',m',s1⟩:=bK.toks id n s ty e;have:=s1 (by simp[m]);obtain⟨L',sS⟩:=aaM.1 this;refine⟨n',s,ty,L',e',sS,gY l l',z,λhq=>?_⟩;have:=m' aa;rw[sS,m] at this;cases this;exact q aa
def bO.mono(bK:cY C M J bI M' bl)
  (h:bO C M J x y):bO bI M' bl x y:=by
 induction h with
 |v h=>exact .v h
 |agg hl _ ih=>exact .agg hl ih
 |bQ hl _ ih=>exact .bQ hl ih
 |bp=>exact .bp
 |sl f gk dG hC _ hT gT ih=>exact .sl f gk dG (λi x j c Y V=>bK.C _ _ _ (hC i x j c Y V)) ih (hT.mono bK) gT
 |fp f hC _ ih=>exact .fp f (λi c h=>bK.C _ _ _ (hC i c h)) ih
 |fx f hC _ ih=>exact .fx f (λi c h=>bK.C _ _ _ (hC i c h)) ih
 |mp O hM=>
  obtain⟨cs',e,_,m,_⟩:=bK.cells _ _ _ O;exact .mp e ((m nofun).trans hM)
 |@rp k n off L Z a O hM hn ha=>
  obtain⟨cs',e,g,m,s⟩:=bK.cells _ _ _ O;have g:=g rfl;obtain⟨L',sS⟩:=aaM.1 (s (by rw[hM];rfl));refine .rp e sS aa λq=>?_;have Y:cs'.length=Z.length:=aa
  have V:=m λ_=>Y;rw[sS,hM] at V;cases V;exact ha aa
 |@rs k n sz off len cap L Z a O hM hn fO ha=>
  obtain⟨cs',e,g,m,s⟩:=bK.cells _ _ _ O;have g:=g rfl;obtain⟨L',sS⟩:=aaM.1 (s (by rw[hM];rfl));refine .rs e sS aa fO λq=>?_;have Y:cs'.length=Z.length:=aa
  have V:=m λ_=>Y;rw[sS,hM] at V;cases V;rw[Y];exact ha aa
 |gm O hM=>
  obtain⟨⟨b',e,l⟩,m⟩:=bK.gp _ _ rfl O;obtain⟨o',rfl,_⟩:=l.1 _ rfl;exact .gm e (m.trans hM)
 |fn kK fO _ _ FV FU=>exact .fn kK fO FV FU
 |ep _ ih=>exact .ep ih
 |fR O hM=>
  obtain⟨⟨b',e,l⟩,m⟩:=bK.gp _ _ rfl O;obtain⟨mo,mS,rfl⟩:=l.2.2 _ _ rfl;exact .fR e (m.trans hM)
 |h_ O hM=>
  obtain⟨cs',e,_,m,_⟩:=bK.cells _ _ _ O;exact .h_ e ((m nofun).trans hM)
 |iV O hM=>
  obtain⟨⟨b',e,l⟩,m⟩:=bK.gp _ _ rfl O;obtain⟨_,_,rfl⟩:=l.2.1 _ _ _ _ _ rfl;exact .iV e (m.trans hM)
def tH(C:Cells)(M:List Loc)(J:List br):br->Obj->Prop
 |.obj o',o=>o=o'
 |.eH es cC,o=>∃e6:Array MapEntry,o=.map e6 cC/\es.length=e6.toList.length/\∀(i:Nat) a b,es[i]?=a_ a->e6.toList[i]?=a_ b->bO C M J a.1 b.key/\bO C M J a.2.1 b.val/\b.born=a.2.2
 |.cc st pd bX ps ok,o=>∃fn tmps assign body hr,o=.loop {state:=st,pending:=pd,fn:=fn,tmps:=tmps,params:=ps,assign:=assign,body:=body,defers:=hr}/\ok assign body/\
  bX.length=tmps.size/\∀(i:Nat) a b,bX[i]?=a_ a->tmps[i]?=a_ b->bO C M J a b
 |_,_=>False
def tH.mono(bK:cY C M J bI M' bl){b:br}{o:Obj}(h:tH C M J b o):tH bI M' bl b o:=by
 cases b with
 |obj o'=>exact h
 |eH es cC=>
  obtain⟨nq,e,Y,V⟩:=h;exact⟨nq,e,Y,λi a b ha O=>let⟨x,y,z⟩:=V i a b ha O;⟨x.mono bK,y.mono bK,z⟩⟩
 |cc st pd bX ps ok=>
  obtain⟨fn,tmps,assign,body,hr,e,Y,V,h3⟩:=h;exact⟨fn,tmps,assign,body,hr,e,Y,V,λi a b ha O=>(h3 i a b ha O).mono bK⟩
 |_=>exact h.elim
structure kD where
 w:World
 C:Cells
variable{w0:kD}
def nK(w:World)(b:Nat)(e:TypeId×Nat):Prop:=w.shape? b=a_ e
def nK.same{e}(h:nK w b e)(O:w'.heap[b]?=w.heap[b]?):nK w' b e:=by
 unfold nK JM at h⊢;rw[O];exact h
def nK.alloc{e}(h:nK w b e)(O:b<w.heap.size)(o:Obj):nK (w.alloc o) b e:=h.same (Below.heap_alloc w o b O)
def nK.new{cells}:nK (w.alloc (.cells cells e)) w.heap.size (e,cells.size):=by
 have:(w.alloc (.cells cells e)).heap[w.heap.size]?=a_ (.cells cells e):=by
  show(w.heap.push (.cells cells e))[w.heap.size]?=_;simp
 unfold nK JM;rw[this]
def nK.set{e}(h:nK w b e)(a)(v):nK (w.setCell a v) b e:=by
 by_cases O:b=a.block;unfold nK JM at h⊢;have:(w.setCell a v).heap[b]?=(w.heap[b]?).map λ
  |.cells c UA frozen=>.cells (if a.spot.isSome then c else c.setIfInBounds a.off v) UA frozen
  |o=>o:=by
  show(w.heap.modify a.block _)[b]?=_;rw[Ej,if_pos O.symm];cases w.heap[b]? with
  |none=>rfl
  |some x=>cases x<;>rfl
 rw[this];cases I:w.heap[b]? with
 |none=>rw[I] at h;simp at h
 |some x=>
  rw[I] at h;cases x with
  |cells Z ty fr=>
   simp only[mJ] at h;simp only[jS,<-h];split<;>simp
  |_=>simp at h
 unfold nK JM at h⊢;rw[aow _ _ _ _ O];exact h
def kF(w:World)(b fin:Nat)(e:TypeId):Prop:=∃(Z:Array Value) (lo Q:Nat),w.heap[b]?=a_ (.cells Z e (lo,Q))/\(lo=Q\/Q<=fin)
def kF.free(h:kF w b fin e)(o:Nat)(ho:fin<=o):w.frozen? ⟨b,o,bn⟩=bf:=by
 obtain⟨Z,lo,Q,Y,V⟩:=h;simp only[NG,Y,Bool.and_eq_false_iff,decide_eq_false_iff_not];omega
def kF.shape(h:kF w b fin e):∃c,w.shape? b=a_ (e,c):=by
 obtain⟨Z,lo,Q,Y,V⟩:=h;exact⟨Z.size,by simp only[JM,Y]⟩
def kF.same(h:kF w b fin e)(O:w'.heap[b]?=w.heap[b]?):kF w' b fin e:=by
 obtain⟨Z,lo,Q,Y,V⟩:=h;exact⟨Z,lo,Q,by rw[O];exact Y,V⟩
def kF.alloc(h:kF w b fin e)(O:b<w.heap.size)(o:Obj):kF (w.alloc o) b fin e:=h.same (Below.heap_alloc w o b O)
def kF.new{cells}:kF (w.alloc (.cells cells e)) w.heap.size fin e:=by
 refine⟨cells,0,0,?_,.inl rfl⟩;show(w.heap.push (.cells cells e))[w.heap.size]?=_;simp
def kF.set(h:kF w b fin e)(hf:fin<=E_)(a)(v):kF (w.setCell a v) b E_ e:=by
 obtain⟨Z,lo,Q,Y,V⟩:=h;have h3:lo=Q\/Q<=E_:=aa
 by_cases O:b=a.block;subst O;refine⟨if a.spot.isSome then Z else Z.setIfInBounds a.off v,lo,Q,?_,h3⟩;show(w.heap.modify a.block _)[a.block]?=_;rw[Ej,if_pos rfl,Y];rfl;exact⟨Z,lo,Q,by rw[aow _ _ _ _ O];exact Y,h3⟩
def kF.up(h:kF w b fin e)(hf:fin<=E_):kF w b E_ e:=by
 obtain⟨Z,lo,Q,Y,V⟩:=h;exact⟨Z,lo,Q,Y,aa⟩
def kF.freeze(h:kF w b fin e)(a)(n:Nat)(hfit:b=a.block->a.off+n<=fin):kF (w.freeze a n) b fin e:=by
 unfold SL;split;exact h;obtain⟨Z,lo,Q,Y,V⟩:=h;by_cases O:b=a.block;have auo:=hfit O;subst O;by_cases he:lo=Q;refine⟨Z,a.off,a.off+n,?_,.inr auo⟩;show(w.heap.modify a.block _)[a.block]?=_;rw[Ej,if_pos rfl,Y];simp[he];refine⟨Z,min lo a.off,max Q (a.off+n),?_,.inr aa⟩;show(w.heap.modify a.block _)[a.block]?=_;rw[Ej,if_pos rfl,Y];simp[he];refine⟨Z,lo,Q,?_,V⟩;show(w.heap.modify a.block _)[b]?=_;rw[Ej,if_neg (eW O)];exact Y
section
variable{G:Cells}
def Sf:Nat:=6
def EK(w:World):Prop:=∃Z t f,w.heap[Sf]?=a_ (.cells Z t f)/\Z.size=20
structure aoZ(base:Nat)(w0:kD):Prop where
 le:base<=w0.w.heap.size
 lt:Sf<base
 tab:EK w0.w
def Ta(G C:Cells)(w:World):Prop:=(∀b o v,G b o=a_ v->C b o=a_ v)/\EK w
def vB:Value->Bool
 |.slice _ _ _=>bh
 |_=>bf
def He(G:Cells):Prop:=∀b o v,G b o=a_ v->vB v=bf
def pz(G:Cells)(w:World)(b o:Nat)(v:Value):Prop:=w.cell? ⟨b,o,bn⟩=a_ v/\(He G->vB v=bh->∀i,w.frozen? ⟨b,i,bn⟩=bf)
def pz.keep(h:pz G w b o v)(T:w'.cell? ⟨b,o,bn⟩=w.cell? ⟨b,o,bn⟩)(hf:∀i,w'.frozen? ⟨b,i,bn⟩=w.frozen? ⟨b,i,bn⟩):pz G w' b o v:=
 ⟨T.trans h.1,λa c i=>(hf i).trans (h.2 a c i)⟩
def pz.lt(h:pz G w b o v):b<w.heap.size:=World.block_lt_of_cell? w ⟨b,o,bn⟩ h.1
def pz.alloc(h:pz G w b o v)(x:Obj):pz G (w.alloc x) b o v:=
 h.keep (xq _ _ _ h.lt) λi=>Co _ _ _ (Nat.ne_of_lt h.lt)
def zg(w:World)(L:Loc)(n s:Nat)(ty:TypeId):Prop:=L.fin<=L.cap/\L.fin=n*s/\(ty=5\/∀i,w.frozen? ⟨L.b,i,bn⟩=bf)
def zg.keep{n s:Nat}{ty}(h:zg w L n s ty)(hf:∀i,w'.frozen? ⟨L.b,i,bn⟩=w.frozen? ⟨L.b,i,bn⟩):zg w' L n s ty:=⟨h.1,h.2.1,h.2.2.imp_right λq i=>(hf i).trans (q i)⟩
def zg.alloc{n s:Nat}{ty}(h:zg w L n s ty)(hl:L.b<w.heap.size)(x:Obj):zg (w.alloc x) L n s ty:=h.keep λi=>Co _ _ _ (Nat.ne_of_lt hl)
def zg.setCells{n s:Nat}{ty}(h:zg w L n s ty){b o vs}:zg (w.setCells b o vs) L n s ty:=h.keep λi=>Cp ..
structure ct(G:Cells)(base:Nat)(w0:kD)(C:Cells)(M:List Loc)(J:List br)(w:World):Prop where
 below:Below base w0.w w
 nN:aoZ base w0
 old:∀b o v,C b o=a_ v->b<base->w0.C b o=a_ v
 sQ:∀b o v,G b o=a_ v->C b o=a_ v
 fJ:M.length=J.length
 oo:∀b o v,C b o=a_ v->pz G w b o v
 cells:∀(k:Nat) Z fz L,J[k]?=a_ (.cells Z fz)->M[k]?=a_ L->base<=L.b/\L.b<w.heap.size/\
  (∀(i:Nat) c,Z[i]?=a_ c->∃c',w.cell? ⟨L.b,i,bn⟩=a_ c'/\bO C M J c c')/\
  (∀i,w.frozen? ⟨L.b,i,bn⟩=bf)/\(∀o,C L.b o=bn)/\(∀o,o<L.cap->∃v,w.cell? ⟨L.b,o,bn⟩=a_ v)/\nK w L.b L.ty
 toks:∀(k:Nat) n s ty L,J[k]?=a_ (.tok n s ty)->M[k]?=a_ L->base<=L.b/\L.b<w.heap.size/\zg w L n s ty/\
  (∀o,L.fin<=o->C L.b o=bn)/\(∀o,L.fin<=o->o<L.cap->(∃v,w.cell? ⟨L.b,o,bn⟩=a_ v)/\w.frozen? ⟨L.b,o,bn⟩=bf)/\kF w L.b L.fin ty
 apart:∀(k k':Nat) L L',k≠k'->M[k]?=a_ L->M[k']?=a_ L'->L.b≠L'.b
 gp:∀(k:Nat) b L,b.isObj=bh->J[k]?=a_ b->M[k]?=a_ L->base<=L.b/\∃o,w.heap[L.b]?=a_ o/\tG o/\tH C M J b o
def ct.TV(h:ct G base w0 C M J w):base<=w.heap.size:=
 gY h.nN.le h.below.size
def ct.tab(h:ct G base w0 C M J w):EK w:=by
 obtain⟨Z,t,f,Y,V⟩:=h.nN.tab;exact⟨Z,t,f,by rw[h.below.block _ h.nN.lt];exact Y,V⟩
def ct.drew(h:ct G base w0 C M J w):ct G base w0 C M J w.drew:=
 ⟨h.below.drew,h.nN,h.old,h.sQ,h.fJ,h.oo,h.cells,h.toks,h.apart,h.gp⟩
end
def bO.one(h:bO C M J x y)(Y:x.one=bh):y.oneCell'=bh:=by
 cases h<;>first|rfl|(simp[bg.one] at Y;done)|skip
 rename_i I
 cases y<;>first|rfl|(simp[plain] at I)
variable{G:Cells}{base:Nat}{w0:kD}{w:World}{C:Cells}{M:List Loc}{J:List br}
def Cells.add(C:Cells)(B lo:Nat)(vs:List Value):Cells:=
 λb o=>if b=B/\lo<=o/\o<lo+vs.length then vs[o-lo]? else C b o
def Cells.EM(C:Cells)(B lo:Nat)(vs)(i:Nat)(h:i<vs.length):C.add B lo vs B (lo+i)=vs[i]? :=by
 unfold Cells.add;rw[if_pos ⟨rfl,aa,aa⟩];congr 1;omega
def Cells.uP(C:Cells)(B lo:Nat)(vs){b o:Nat}(h:¬(b=B/\lo<=o/\o<lo+vs.length)):C.add B lo vs b o=C b o:=by
 unfold Cells.add;rw[if_neg h]
def ct.fresh(h:ct G base w0 C M J w)(o:Nat):C w.heap.size o=bn:=by
 cases T:C w.heap.size o with
 |none=>rfl
 |some v=>
  have:=(h.oo _ _ _ T).lt;simp at this
def ct.IY(h:ct G base w0 C M J w){bI}{M'}{bl}{w':World}(bK:cY C M J bI M' bl)(hh:∀(k:Nat) b,b.isObj=bh->bl[k]?=a_ b->J[k]?=a_ b/\M'[k]?=M[k]?)
  (hw:∀(b:Nat) o,w.heap[b]?=a_ o->tG o->w'.heap[b]?=a_ o):∀(k:Nat) b L,b.isObj=bh->bl[k]?=a_ b->M'[k]?=a_ L->base<=L.b/\∃o,w'.heap[L.b]?=a_ o/\tG o/\tH bI M' bl b o:=λk b L O S hM=>by
 obtain⟨Y,V⟩:=hh k b O S;rw[V] at hM;obtain⟨a,o,e,c,d⟩:=h.gp k b L O Y hM;exact⟨a,o,hw _ _ e c,c,d.mono bK⟩
def PZ(w:World)(x:Obj)(b:Nat)(o:Obj)(h:w.heap[b]?=a_ o):(w.alloc x).heap[b]?=a_ o:=by
 show(w.heap.push x)[b]?=a_ o;have hl:=(yU.1 h).1;rw[Array.getElem?_push_lt hl,<-vJ hl];exact h
def akN{b:br}{L:Loc}(hl:M.length=J.length)(O:b.isObj=bf){k:Nat}{x:br}(I:x.isObj=bh)(h:(J++[b])[k]?=a_ x):J[k]?=a_ x/\(M++[L])[k]?=M[k]? :=by
 rcases d_ k J.length with S|S
 rw[fE S] at h;exact⟨h,fE aa⟩;rw[fF S] at h;cases hj:k-J.length with
 |zero=>rw[hj] at h;simp at h;subst h;rw[O] at I;cases I
 |succ j=>rw[hj] at h;simp at h
def IZ{b:br}{i:Nat}(O:b.isObj=bf){k:Nat}{x:br}(I:x.isObj=bh)(h:(J.set i b)[k]?=a_ x):k≠i/\J[k]?=a_ x:=by
 by_cases e:i=k;subst e;by_cases Q:i<J.length;rw[bV Q] at h;simp at h;subst h;rw[O] at I;cases I;rw[jJ ah] at h;cases h;rw[bC e] at h;exact⟨λq=>e q.symm,h⟩
def cY.apE{B lo:Nat}{vs}(hn:∀o,lo<=o->o<lo+vs.length->C B o=bn):cY C M J (C.add B lo vs) M J:=by
 refine⟨λb o v h=>?_,λk Z fz h=>⟨Z,h,λ_=>ck _,λ_=>rfl,λh=>h⟩,λk n s ty h=>⟨n,h,ck _,λ_=>rfl,λh=>h⟩,λk b _ h=>⟨⟨b,h,.refl b⟩,rfl⟩⟩;rw[Cells.uP];exact h;rintro⟨rfl,Y,V⟩;rw[hn o Y V] at h;cases h
def cY.push(b:br)(L:Loc)(hl:M.length=J.length):cY C M J C (M++[L]) (J++[b]):=by
 refine⟨λ_ _ _ h=>h,λk Z fz h=>?_,λk n s ty h=>?_,λk o _ h=>?_⟩;have S:=(cJ.1 h).1;exact⟨Z,by rw[fE S];exact h,λ_=>ck _,λ_=>by rw[fE aa],λh=>by rw[fE aa];exact h⟩;have S:=(cJ.1 h).1;exact⟨n,by rw[fE S];exact h,ck _,λ_=>by rw[fE aa],λh=>by rw[fE aa];exact h⟩;have S:=(cJ.1 h).1;exact⟨⟨o,by rw[fE S];exact h,.refl o⟩,by rw[fE aa]⟩
def ct.U8(h:ct G base w0 C M J w)(cells)(e)(vs)(hv:∀(i:Nat) v,vs[i]?=a_ v->cells[i]?=a_ v):
  cY C M J (C.add w.heap.size 0 vs) M J/\ct G base w0 (C.add w.heap.size 0 vs) M J (w.alloc (.cells cells e)):=by
 have bK:cY C M J (C.add w.heap.size 0 vs) M J:=cY.apE λo _ _=>h.fresh o;refine⟨bK,h.below.alloc (gY h.nN.le h.below.size) _,h.nN,λb o v T O=>h.old b o v (by rwa [Cells.uP _ _ _ _ (λq=>by have:=h.TV;omega)] at T) O,λb o v hg=>bK.C _ _ _ (h.sQ b o v hg),h.fJ,?_,?_,?_,h.apart,h.IY bK (λk o _ h=>⟨h,rfl⟩) λb o O _=>PZ _ _ _ _ O⟩;intro b o v T;by_cases O:b=w.heap.size/\0<=o/\o<0+vs.length;obtain⟨rfl,_,V⟩:=O;have:=Cells.EM C w.heap.size 0 vs o aa;rw[gF] at this;rw[this] at T;exact⟨by rw[GW];exact hv o v T,λ_ _ i=>JL _ _ _ _⟩;rw[Cells.uP _ _ _ _ O] at T;exact(h.oo b o v T).alloc _;intro k Z fz L S hM;obtain⟨Y,V,h3,q1,bt,bT⟩:=h.cells k Z fz L S hM;have bR:∀o,¬(L.b=w.heap.size/\0<=o/\o<0+vs.length):=λo hq=>aa
 refine⟨Y,ah,λi c T=>?_,λi=>by rw[Co _ _ _ aY];exact q1 i,λo=>by rw[Cells.uP _ _ _ _ (bR o)];exact bt o,
  λo ho=>by rw[xq _ _ _ aHO];exact bT.1 o ho,bT.2.alloc V _⟩
 obtain⟨c',a1,a2⟩:=h3 i c T;exact⟨c',by rw[xq _ _ _ aHO];exact a1,a2.mono bK⟩;intro k n s ty L S hM;obtain⟨Y,V,h3,h4,h5,h6⟩:=h.toks k n s ty L S hM;refine⟨Y,ah,h3.alloc V _,λo ho=>by rw[Cells.uP _ _ _ _ ((λo hq=>aa) o)];exact h4 o ho,λo ho ic=>?_,h6.alloc V _⟩;obtain⟨a1,a2⟩:=h5 o ho ic;exact⟨by rw[xq _ _ _ aHO];exact a1,by rw[Co _ _ _ aY];exact a2⟩
def dn(C:Cells)(M:List Loc)(J:List br)(Z:List bg)(cs':List Value):Prop:=
 Z.length=cs'.length/\∀(i:Nat) a b,Z[i]?=a_ a->cs'[i]?=a_ b->bO C M J a b
def dn.mono{bI}{M'}{bl}(bK:cY C M J bI M' bl){Z}{cs'}(h:dn C M J Z cs'):dn bI M' bl Z cs':=
 ⟨h.1,λi a b Y V=>(h.2 i a b Y V).mono bK⟩
def dn.get{Z}{cs'}(h:dn C M J Z cs'){i:Nat}{c:bg}(T:Z[i]?=a_ c):∃c',cs'[i]?=a_ c'/\bO C M J c c':=by
 have Q:i<cs'.length:=by rw[<-h.1];exact(cJ.1 T).1
 exact⟨cs'[i],cx Q,h.2 i c _ T (cx Q)⟩
def ct.Q_(h:ct G base w0 C M J w)(row)(cap:Nat)(Z)(vs)(cells)(e)(D:dn C M J Z vs)(hv:∀(i:Nat) v,vs[i]?=a_ v->cells[i]?=a_ v)(gT:cap<=cells.size):
  cY C M J C (M++[{b:=w.heap.size,cap:=cap,ty:=(e,cells.size)}]) (J++[.cells Z row])/\
   ct G base w0 C (M++[{b:=w.heap.size,cap:=cap,ty:=(e,cells.size)}]) (J++[.cells Z row]) (w.alloc (.cells cells e)):=by
 have bK:cY C M J C (M++[{b:=w.heap.size,cap:=cap,ty:=(e,cells.size)}]) (J++[.cells Z row]):=cY.push _ _ h.fJ;have Dc:=gY h.nN.le h.below.size;refine⟨bK,h.below.alloc Dc _,h.nN,h.old,h.sQ,aJv,?_,?_,?_,?_,h.IY bK (λk o ho S=>akN h.fJ rfl ho S) λb o O _=>PZ _ _ _ _ O⟩;exact λb o v T=>(h.oo b o v T).alloc _;intro k xS fz L S hM
 rcases d_ k J.length with hl|hl
 rw[fE hl] at S;rw[fE (by rw[h.fJ];exact hl)] at hM;obtain⟨Y,V,h3,q1,bt,bT⟩:=h.cells k xS fz L S hM;refine⟨Y,ah,λi c T=>?_,λi=>by rw[Co _ _ _ aY];exact q1 i,bt,λo ho=>by rw[xq _ _ _ aHO];exact bT.1 o ho,bT.2.alloc V _⟩;obtain⟨c',a1,a2⟩:=h3 i c T;exact⟨c',by rw[xq _ _ _ aHO];exact a1,a2.mono bK⟩;have iA:k=J.length:=by
  have:=(cJ.1 S).1;simp at this;omega
 subst iA;rw[fF (ck _)] at S;rw[fF (by rw[h.fJ];exact ck _),h.fJ] at hM;simp at S hM;obtain⟨rfl,rfl⟩:=S;subst hM;refine⟨Dc,af,λi c T=>?_,λi=>JL _ _ _ _,λo=>h.fresh o,λo ho=>?_,nK.new⟩;obtain⟨c',a1,a2⟩:=D.get T;exact⟨c',by rw[GW];exact hv _ _ a1,a2.mono bK⟩;rw[GW];have ho:o<cap:=ho;exact⟨cells[o],vJ aa⟩;intro k n s ty L S hM
 rcases d_ k J.length with hl|hl
 rw[fE hl] at S;rw[fE (by rw[h.fJ];exact hl)] at hM;obtain⟨Y,V,h3,h4,h5,h6⟩:=h.toks k n s ty L S hM;refine⟨Y,ah,h3.alloc V _,h4,λo ho ic=>?_,h6.alloc V _⟩;obtain⟨a1,a2⟩:=h5 o ho ic;exact⟨by rw[xq _ _ _ aHO];exact a1,by rw[Co _ _ _ aY];exact a2⟩;have iA:k=J.length:=by
  have:=(cJ.1 S).1;simp at this;omega
 subst iA;rw[fF (ck _)] at S;simp at S;intro k k' L L' bR hM eC;have key:∀(j:Nat) (L₁:Loc),M[j]?=a_ L₁->L₁.b<w.heap.size:=by
  intro j L₁ hj;have lz:j<J.length:=by rw[<-h.fJ];exact(cJ.1 hj).1
  cases O:J[j] with
  |cells xS fz=>exact(h.cells j xS fz L₁ (by rw[cx lz,O]) hj).2.1
  |tok n s ty=>exact(h.toks j n s _ L₁ (by rw[cx lz,O]) hj).2.1
  |_=>
   obtain⟨_,o,e,_⟩:=h.gp j _ L₁ (by rw[O];rfl) (cx lz) hj;exact(yU.1 e).1
 rcases d_ k M.length with hl|hl
 rw[fE hl] at hM
 rcases d_ k' M.length with hl'|hl'
 rw[fE hl'] at eC;exact h.apart k k' L L' bR hM eC;rw[fF hl'] at eC;have:=key k L hM;have e:L'={b:=w.heap.size,cap:=cap,ty:=(e,cells.size)}:=by
  cases hj:k'-M.length with
  |zero=>rw[hj] at eC;simpa using eC.symm
  |succ j=>rw[hj] at eC;simp at eC
 subst e;show L.b≠w.heap.size;omega;rw[fF hl] at hM;have e:L={b:=w.heap.size,cap:=cap,ty:=(e,cells.size)}:=by
  cases hj:k-M.length with
  |zero=>rw[hj] at hM;simpa using hM.symm
  |succ j=>rw[hj] at hM;simp at hM
 subst e
 rcases d_ k' M.length with hl'|hl'
 rw[fE hl'] at eC;have:=key k' L' eC;show w.heap.size≠L'.b;omega;rw[fF hl'] at eC;exfalso;have Y:k-M.length=0:=by
  cases hj:k-M.length with
  |zero=>rfl
  |succ j=>rw[hj] at hM;simp at hM
 have V:k'-M.length=0:=by
  cases hj:k'-M.length with
  |zero=>rfl
  |succ j=>rw[hj] at eC;simp at eC
 omega
def ct.XU(h:ct G base w0 C M J w)(Z)(cells)(e)(D:dn C M J Z cells.toList):
  cY C M J C (M++[{b:=w.heap.size,ty:=(e,cells.size)}]) (J++[.cells Z bf])/\
   ct G base w0 C (M++[{b:=w.heap.size,ty:=(e,cells.size)}]) (J++[.cells Z bf]) (w.alloc (.cells cells e)):=
 h.Q_ bf 0 Z cells.toList cells e D (λi v hv=>by simpa using hv) (jR _)
variable{G:Cells}{base:Nat}{w0:kD}{w:World}{C:Cells}{M:List Loc}{J:List br}
def ct.at(h:ct G base w0 C M J w){k:Nat}{L:Loc}(hM:M[k]?=a_ L):L.b<w.heap.size/\base<=L.b:=by
 have lz:k<J.length:=by rw[<-h.fJ];exact(cJ.1 hM).1
 cases O:J[k] with
 |cells Z fz=>have:=h.cells k Z fz L (by rw[cx lz,O]) hM;exact⟨this.2.1,this.1⟩
 |tok n s ty=>have:=h.toks k n s _ L (by rw[cx lz,O]) hM;exact⟨this.2.1,this.1⟩
 |_=>
  obtain⟨Y,o,e,_⟩:=h.gp k _ L (by rw[O];rfl) (cx lz) hM;exact⟨(yU.1 e).1,Y⟩
def r5{α:Type}{l}{x y:α}{k:Nat}(h:(l++[x])[k]?=a_ y):(k<l.length/\l[k]?=a_ y)\/(k=l.length/\y=x):=by
 rcases d_ k l.length with hl|hl
 rw[fE hl] at h;exact bD ⟨hl,h⟩;rw[fF hl] at h;cases hj:k-l.length with
 |zero=>rw[hj] at h;simp at h;exact bF ⟨aa,h.symm⟩
 |succ j=>rw[hj] at h;simp at h
def lF{α:Type}{l:List α}{x y:α}{k id:Nat}(h:(l.set id x)[k]?=a_ y):(k≠id/\l[k]?=a_ y)\/(k=id/\id<l.length/\y=x):=by
 by_cases e:k=id;subst e;have hl:k<l.length:=by
  have:=(cJ.1 h).1;simpa using this
 rw[bV hl] at h;exact bF ⟨rfl,hl,by simpa using h.symm⟩;rw[bC (eW e)] at h;exact bD ⟨e,h⟩
def ct.XV(h:ct G base w0 C M J w)(cells)(e)(vs)(hv:∀(i:Nat) v,vs[i]?=a_ v->cells[i]?=a_ v)
  (n s cap:Nat) (hs:vs.length<=cap) (yb:vs.length=n*s) (gT:cap<=cells.size):
  let bI:=C.add w.heap.size 0 vs
  let M':=M++[{b:=w.heap.size,fin:=vs.length,cap:=cap}]
  let bl:=J++[.tok n s e]
  cY C M J bI M' bl/\ct G base w0 bI M' bl (w.alloc (.cells cells e)):=by
 intro bI M' bl;obtain⟨Dm,Y⟩:=h.U8 cells e vs hv;have nu:cY bI M J bI M' bl:=cY.push _ _ h.fJ;refine⟨Dm.trans nu,Y.below,h.nN,Y.old,Y.sQ,by simp[M',bl,h.fJ],Y.oo,?_,?_,?_,Y.IY nu (λk o ho S=>akN h.fJ rfl ho S) λb o O _=>O⟩;intro k Z fz L S hM
 rcases r5 S with⟨hl,S⟩|⟨_,S⟩
 rcases r5 hM with⟨_,hM⟩|⟨hl',_⟩
 obtain⟨a1,a2,a3,a4⟩:=Y.cells k Z fz L S hM;refine⟨a1,a2,λi c T=>?_,a4⟩;obtain⟨c',b1,b2⟩:=a3 i c T;exact⟨c',b1,b2.mono nu⟩;rw[h.fJ] at hl';omega;cases S;intro k vp vD ty L S hM
 rcases r5 S with⟨hl,S⟩|⟨hl,S⟩
 rcases r5 hM with⟨_,hM⟩|⟨hl',_⟩
 exact Y.toks k vp vD ty L S hM;rw[h.fJ] at hl';omega;cases S
 rcases r5 hM with⟨hl',_⟩|⟨_,rfl⟩
 rw[h.fJ] at hl';omega;refine⟨gY h.nN.le h.below.size,af,⟨hs,yb,.inr λi=>JL _ _ _ _⟩,λo ho=>?_,λo ho ic=>?_,kF.new⟩;show C.add w.heap.size 0 vs w.heap.size o=bn;rw[Cells.uP _ _ _ _ (by simp at ho⊢;omega)];exact h.fresh o;refine⟨?_,JL _ _ _ _⟩;rw[GW];simp at ic;exact⟨cells[o],vJ aa⟩;intro k k' L L' bR hM eC
 rcases r5 hM with⟨_,hM⟩|⟨e1,rfl⟩<;>rcases r5 eC with⟨_,eC⟩|⟨e2,rfl⟩
 exact h.apart k k' L L' bR hM eC;have:=(h.at hM).1;show L.b≠w.heap.size;omega;have:=(h.at eC).1;show w.heap.size≠L'.b;omega;omega
def cY.ams{bI}{id n n' s:Nat}{ty}{L':Loc}(hC:∀b o v,C b o=a_ v->bI b o=a_ v)(hid:J[id]?=a_ (.tok n s ty))(hn:n<n')(hl:M.length=J.length):
  cY C M J bI (M.set id L') (J.set id (.tok n' s ty)):=by
 have cQ:=(cJ.1 hid).1;refine⟨hC,λk Z fz S=>?_,λk vp vD anL S=>?_,λk o ho S=>?_⟩;have bR:id≠k:=by intro e;subst e;rw[hid] at S;cases S
 exact⟨Z,by rw[bC bR];exact S,λ_=>ck _,λ_=>by rw[bC bR],λq=>by rw[bC bR];exact q⟩;by_cases e:id=k;subst e;rw[hid] at S;cases S;exact⟨n',by rw[bV cQ],aa,λq=>aa,λ_=>by rw[bV aa];rfl⟩;exact⟨vp,by rw[bC e];exact S,ck _,λ_=>by rw[bC e],λq=>by rw[bC e];exact q⟩;have bR:id≠k:=by intro e;subst e;rw[hid] at S;cases S;cases ho
 exact⟨⟨o,by rw[bC bR];exact S,.refl o⟩,by rw[bC bR]⟩
def ct.azY(h:ct G base w0 C M J w)(cells)(e)(vs)(hv:∀(i:Nat) v,vs[i]?=a_ v->cells[i]?=a_ v)
  {id n n' s cap:Nat} (hid:J[id]?=a_ (.tok n s e)) (hn:n<n') (hs:vs.length<=cap) (yb:vs.length=n'*s) (gT:cap<=cells.size):
  let bI:=C.add w.heap.size 0 vs
  let M':=M.set id {b:=w.heap.size,fin:=vs.length,cap:=cap}
  let bl:=J.set id (.tok n' s e)
  cY C M J bI M' bl/\ct G base w0 bI M' bl (w.alloc (.cells cells e)):=by
 intro bI M' bl;obtain⟨Dm,Y⟩:=h.U8 cells e vs hv;have nu:cY bI M J bI M' bl:=cY.ams (λ_ _ _ h=>h) hid hn h.fJ;have cQ:=(cJ.1 hid).1;refine⟨Dm.trans nu,Y.below,h.nN,Y.old,Y.sQ,by simp[M',bl,h.fJ],Y.oo,?_,?_,?_,Y.IY nu (λk o ho S=>⟨(IZ rfl ho S).2,bC (eW (IZ rfl ho S).1)⟩) λb o O _=>O⟩;intro k Z fz L S hM
 rcases lF S with⟨bR,S⟩|⟨_,_,S⟩
 rcases lF hM with⟨_,hM⟩|⟨e,_⟩
 obtain⟨a1,a2,a3,a4⟩:=Y.cells k Z fz L S hM;refine⟨a1,a2,λi c T=>?_,a4⟩;obtain⟨c',b1,b2⟩:=a3 i c T;exact⟨c',b1,b2.mono nu⟩;omega;cases S;intro k vp vD ty L S hM
 rcases lF S with⟨bR,S⟩|⟨rfl,_,S⟩
 rcases lF hM with⟨_,hM⟩|⟨e,_⟩
 exact Y.toks k vp vD ty L S hM;omega;cases S
 rcases lF hM with⟨bR,_⟩|⟨_,_,rfl⟩
 omega;refine⟨gY h.nN.le h.below.size,af,⟨hs,yb,.inr λi=>JL _ _ _ _⟩,λo ho=>?_,λo ho ic=>?_,kF.new⟩;show C.add w.heap.size 0 vs w.heap.size o=bn;rw[Cells.uP _ _ _ _ (by simp at ho⊢;omega)];exact h.fresh o;refine⟨?_,JL _ _ _ _⟩;rw[GW];simp at ic;exact⟨cells[o],vJ aa⟩;intro k k' L L' bR hM eC
 rcases lF hM with⟨_,hM⟩|⟨e1,_,rfl⟩<;>rcases lF eC with⟨_,eC⟩|⟨e2,_,rfl⟩
 exact h.apart k k' L L' bR hM eC;have:=(h.at hM).1;show L.b≠w.heap.size;omega;have:=(h.at eC).1;show w.heap.size≠L'.b;omega;omega
def Fw(b:Nat):∀(vs) (o:Nat) (w:World) (k:Nat),k≠b->(w.setCells b o vs).heap[k]?=w.heap[k]?
 |[],_,_,_,_=>rfl
 |v::r,o,_,k,h=>by rw[NI,Fw b r (o+1) _ k h];exact aow _ _ _ _ h
def GC(b:Nat):∀(vs) (o:Nat) (w:World),(w.setCells b o vs).heap.size=w.heap.size
 |[],_,_=>rfl
 |v::r,o,_=>by rw[NI,GC b r (o+1)];simp
def TX{a}(b:Nat)(O:B<=b):∀(vs) (o:Nat) (w),Below B a w->Below B a (w.setCells b o vs)
 |[],_,_,h=>h
 |v::r,o,_,h=>TX b O r (o+1) _ (h.setCell O v)
def nK.setCells{e}(b':Nat):∀(vs) (o:Nat) (w),nK w b e->nK (w.setCells b' o vs) b e
 |[],_,w,h=>h
 |v::r,o,w,h=>by rw[NI];exact nK.setCells b' r (o+1) _ (h.set _ _)
def kF.setCells(hf:fin<=E_)(b':Nat):∀(vs) (o:Nat) (w),kF w b fin e->kF (w.setCells b' o vs) b E_ e
 |[],_,_,h=>h.up hf
 |v::r,o,w,h=>by rw[NI];exact kF.setCells hf b' r (o+1) _ (h.set (ck _) _ _)
def ct.atk(h:ct G base w0 C M J w)(vs){s:Nat}(hid:J[id]?=a_ (.tok n s ty))(hM:M[id]?=a_ L)(hn:n<n')(yb:L.fin+vs.length=n'*s)(s6:ty≠5\/∀v∈vs,vB v=bf)(hfit:L.fin+vs.length<=L.cap):
  let bI:=C.add L.b L.fin vs
  let M':=M.set id {L with fin:=L.fin+vs.length}
  let bl:=J.set id (.tok n' s ty)
  cY C M J bI M' bl/\ct G base w0 bI M' bl (w.setCells L.b L.fin vs):=by
 intro bI M' bl;obtain⟨t1,t2,t3,t4,t5,t6⟩:=h.toks id n s ty L hid hM;have afp:=λb o v T=>by
  show C.add L.b L.fin vs b o=a_ v;rw[Cells.uP];exact T;rintro⟨rfl,q1,bt⟩;rw[t4 o q1] at T;cases T
 have bK:cY C M J bI M' bl:=cY.ams afp hid hn h.fJ;have cQ:=(cJ.1 hid).1;have s4:∀b o,¬(b=L.b/\L.fin<=o/\o<L.fin+vs.length)->(w.setCells L.b L.fin vs).cell? ⟨b,o,bn⟩=w.cell? ⟨b,o,bn⟩:=λb o ya=>
  aFd L.b vs L.fin w ⟨b,o,bn⟩ (λe _=>by simp at e⊢;omega)
 refine⟨bK,TX L.b t1 vs L.fin w h.below,h.nN,λb o v T O=>h.old b o v (by have iT:C.add L.b L.fin vs b o=a_ v:=T;rwa [Cells.uP _ _ _ _ (λq=>aa)] at iT) O,λb o v hg=>afp _ _ _ (h.sQ b o v hg),by simp[M',bl,h.fJ],?_,?_,?_,?_,λk o L₁ ho S iz=>?_⟩;intro b o v T;by_cases O:b=L.b/\L.fin<=o/\o<L.fin+vs.length;obtain⟨rfl,q1,bt⟩:=O;obtain⟨j,rfl⟩:∃j,o=L.fin+j:=⟨o-L.fin,aa⟩;have hj:j<vs.length:=aa
 have e:=Cells.EM C L.b L.fin vs j hj;have iT:C.add L.b L.fin vs L.b (L.fin+j)=a_ v:=T;rw[e,cx hj] at iT;refine⟨by
  rw[aFc L.b vs L.fin w (λi Q=>by
   obtain⟨⟨x,I⟩,_⟩:=t5 (L.fin+i) aa aa;rw[I];rfl) j hj]
  exact iT,λ_ hv i=>?_⟩
 rw[Cp]
 rcases t3.2.2 with q|q
 rcases s6 with q'|q'
 exact(q' q).elim;rw[q' v (cE (by rw[cx hj];exact iT))] at hv;cases hv;exact q i;have iT:C.add L.b L.fin vs b o=a_ v:=T;rw[Cells.uP _ _ _ _ O] at iT;exact(h.oo b o v iT).keep (s4 b o O) λi=>Cp ..;intro k Z fz L₁ S iz
 rcases lF S with⟨bR,S⟩|⟨_,_,S⟩
 rcases lF iz with⟨_,iz⟩|⟨e,_⟩
 obtain⟨a1,a2,a3,a4⟩:=h.cells k Z fz L₁ S iz;have O:=h.apart k id L₁ L bR iz hM;obtain⟨q1,bt,bT⟩:=a4;refine⟨a1,aI_,λi c T=>?_,λi=>by rw[Cp];exact q1 i,λo=>?_,λo ho=>aIN,bT.2.same (Fw _ _ _ _ _ O)⟩;obtain⟨c',b1,b2⟩:=a3 i c T;exact⟨c',by rw[s4 _ _ (λq=>O q.1)];exact b1,b2.mono bK⟩;show C.add L.b L.fin vs L₁.b o=bn;rw[Cells.uP _ _ _ _ (λq=>O q.1)];exact bt o;omega;cases S;intro k vp vD ty L₁ S iz
 rcases lF S with⟨bR,S⟩|⟨rfl,_,S⟩
 rcases lF iz with⟨_,iz⟩|⟨e,_⟩
 obtain⟨a1,a2,a3,a4,a5,a6⟩:=h.toks k vp vD ty L₁ S iz;have O:=h.apart k id L₁ L bR iz hM;refine⟨a1,aI_,a3.setCells,λo ho=>?_,λo ho ic=>?_,a6.same (Fw _ _ _ _ _ O)⟩;show C.add L.b L.fin vs L₁.b o=bn;rw[Cells.uP _ _ _ _ (λq=>O q.1)];exact a4 o ho;rw[s4 _ _ (λq=>O q.1),Cp];exact a5 o ho ic;omega;cases S
 rcases lF iz with⟨bR,_⟩|⟨_,_,rfl⟩
 omega;refine⟨t1,by rw[GC];exact t2,⟨hfit,yb,t3.setCells.2.2⟩,λo ho=>?_,λo ho ic=>?_,kF.setCells (Nat.le_add_right _ _) _ _ _ _ t6⟩;show C.add L.b L.fin vs L.b o=bn;simp at ho;rw[Cells.uP _ _ _ _ aa];exact t4 o aa;simp at ho ic;rw[Cp];show(∃v,(w.setCells L.b L.fin vs).cell? ⟨L.b,o,bn⟩=a_ v)/\_;rw[s4 L.b o aa];exact t5 o aa ic;intro k k' L₁ aba bR iz atH
 rcases lF iz with⟨_,q1⟩|⟨e1,_,rfl⟩<;>rcases lF atH with⟨_,bt⟩|⟨e2,_,rfl⟩
 exact h.apart k k' L₁ aba bR q1 bt;exact h.apart k id L₁ L aa q1 hM;exact h.apart id k' L aba aa hM bt;omega;obtain⟨bR,iA⟩:=IZ rfl ho S;have eC:M[k]?=a_ L₁:=by have q:(M.set id {L with fin:=L.fin+vs.length})[k]?=a_ L₁:=iz;rwa [bC (eW bR)] at q
 obtain⟨a1,x,a2,a3,a4⟩:=h.gp k o L₁ ho iA eC;exact⟨a1,x,by rw[Fw _ _ _ _ _ (h.apart k id L₁ L bR eC hM)];exact a2,a3,a4.mono bK⟩
def dN(Z:List bg)(off:Nat)(vs:List bg):List bg:=Z.take off++vs++Z.drop (off+vs.length)
def YC{vs}(h:off+vs.length<=Z.length)(i:Nat):
  (dN Z off vs)[i]?=if i<off then Z[i]? else if i<off+vs.length then vs[i-off]? else Z[i]? :=by
 unfold dN;have Y:(Z.take off).length=off:=ah
 by_cases c1:i<off;rw[if_pos c1,dU,fE aa,Cr c1];rw[if_neg c1,dU,fF aa,Y];by_cases c2:i<off+vs.length;rw[if_pos c2,fE aa];rw[if_neg c2,fF aa,sx];congr 1;omega
def YD{vs}(h:off+vs.length<=Z.length):(dN Z off vs).length=Z.length:=by
 unfold dN;simp;omega
def cY.setCells{cs'}(hC:∀b o v,C b o=a_ v->bI b o=a_ v)(S:J[k]?=a_ (.cells Z row))(hl:cs'.length=Z.length):
  cY C M J bI M (J.set k (.cells cs' row)):=by
 have cQ:=(cJ.1 S).1;refine⟨hC,λj xS Vc hj=>?_,λj vp vD anL hj=>?_,λj o ho hj=>?_⟩;by_cases e:k=j;subst e;rw[S] at hj;cases hj;exact⟨cs',bV cQ,λ_=>aa,λ_=>rfl,λh=>h⟩;exact⟨xS,aHP,λ_=>ck _,λ_=>rfl,λh=>h⟩;have e:k≠j:=aIY
 exact⟨vp,aHP,ck _,λ_=>rfl,λh=>h⟩;exact⟨⟨o,by rw[bC aIf];exact hj,.refl o⟩,rfl⟩
def cY.afg{cs'}(hC:∀b o v,C b o=a_ v->bI b o=a_ v)(S:J[k]?=a_ (.cells Z bh))(hl:M.length=J.length)(hg:Z.length<cs'.length\/(cs'.length=Z.length/\M[k]?=a_ L')):
  cY C M J bI (M.set k L') (J.set k (.cells cs' bh)):=by
 have cQ:=(cJ.1 S).1;refine⟨hC,λj xS Vc hj=>?_,λj vp vD anL hj=>?_,λj o ho hj=>?_⟩;by_cases e:k=j;subst e;rw[S] at hj;cases hj;refine⟨cs',bV cQ,λ_=>aa,λq=>?_,λh=>by rw[bV aa];rfl⟩;have:=q rfl
 rcases hg with hg|⟨_,hg⟩
 omega;rw[bV aa,hg];exact⟨xS,aHP,λ_=>ck _,λ_=>by rw[bC e],λh=>aI6⟩;have e:k≠j:=aIY
 exact⟨vp,aHP,ck _,λ_=>by rw[bC e],λh=>aI6⟩;have e:k≠j:=aIf
 exact⟨⟨o,aHP,.refl o⟩,by rw[bC e]⟩
def ct.am_(h:ct G base w0 C M J w){cs'}(S:J[k]?=a_ (.cells Z row))(hM:M[k]?=a_ L)
  (off:Nat) (us) (vs) (D:dn C M J us vs) (bK:cY C M J C M (J.set k (.cells cs' row))) (hfit:off+us.length<=Z.length\/off+us.length<=L.cap)
  (PX:∀(i:Nat),cs'[i]?=if i<off then Z[i]? else if i<off+us.length then us[i-off]? else Z[i]?):
  ct G base w0 C M (J.set k (.cells cs' row)) (w.setCells L.b off vs):=by
 obtain⟨t1,t2,t3,ZB,D_,uy,anE⟩:=h.cells k Z row L S hM;have c7:=D.1;have s4:∀b o,¬(b=L.b/\off<=o/\o<off+vs.length)->(w.setCells L.b off vs).cell? ⟨b,o,bn⟩=w.cell? ⟨b,o,bn⟩:=λb o ya=>
  aFd L.b vs off w ⟨b,o,bn⟩ (λe _=>by simp at e⊢;omega)
 have Ab:=aFc L.b vs off w (λq hq=>by
  rcases hfit with hfit|hfit
  obtain⟨c',b1,_⟩:=t3 (off+q) _ (cx aa);rw[b1];rfl;obtain⟨c',b1⟩:=uy (off+q) aa;rw[b1];rfl)
 refine⟨TX L.b t1 vs off w h.below,h.nN,h.old,h.sQ,aJv,?_,?_,?_,h.apart,λj o L₁ ho hj iz=>?_⟩;intro b o v T;exact(h.oo b o v T).keep (s4 b o (by rintro⟨rfl,_⟩;rw[D_ o] at T;cases T)) λi=>Cp ..;intro j xS Vc L₁ hj iz
 rcases lF hj with⟨bR,hj⟩|⟨rfl,_,hj⟩
 obtain⟨a1,a2,a3,q1,bt,bT⟩:=h.cells j xS Vc L₁ hj iz;have O:=h.apart j k L₁ L bR iz hM;refine⟨a1,aI_,λi c T=>?_,λi=>by rw[Cp];exact q1 i,bt,λo ho=>aIN,bT.2.same (Fw _ _ _ _ _ O)⟩;obtain⟨c',b1,b2⟩:=a3 i c T;exact⟨c',by rw[s4 _ _ (λq=>O q.1)];exact b1,b2.mono bK⟩;cases hj;rw[hM] at iz;cases iz;refine⟨t1,by rw[GC];exact t2,λi c T=>?_,λi=>by rw[Cp];exact ZB i,D_,λo ho=>?_,anE.setCells _ _ _ _⟩;rw[PX] at T;by_cases c1:i<off;rw[if_pos c1] at T;obtain⟨c',b1,b2⟩:=t3 i c T;exact⟨c',by rw[s4 _ _ aa];exact b1,b2.mono bK⟩;rw[if_neg c1] at T;by_cases c2:i<off+us.length;rw[if_pos c2] at T;obtain⟨c',b1,b2⟩:=D.get T;have hj:i-off<vs.length:=aa
 have:=Ab (i-off) hj;rw[show off+(i-off)=i by omega] at this;refine⟨c',?_,b2.mono bK⟩;rw[this,<-b1,cx hj];rw[if_neg c2] at T;obtain⟨c',b1,b2⟩:=t3 i c T;exact⟨c',by rw[s4 _ _ aa];exact b1,b2.mono bK⟩;by_cases c1:off<=o/\o<off+vs.length;have:=Ab (o-off) aa;rw[show off+(o-off)=o by omega] at this;have hq:o-off<vs.length:=aa
 exact⟨vs[o-off],this⟩;rw[s4 _ _ aa];exact uy o ho;intro j vp vD ty L₁ hj iz
 rcases lF hj with⟨bR,hj⟩|⟨_,_,hj⟩
 obtain⟨a1,a2,a3,a4,a5,a6⟩:=h.toks j vp vD ty L₁ hj iz;have O:=h.apart j k L₁ L bR iz hM;refine⟨a1,aI_,a3.setCells,a4,λo ho ic=>?_,a6.same (Fw _ _ _ _ _ O)⟩;rw[s4 _ _ (λq=>O q.1),Cp];exact a5 o ho ic;cases hj;obtain⟨bR,sX⟩:=IZ rfl ho hj;obtain⟨a1,x,a2,a3,a4⟩:=h.gp j o L₁ ho sX iz;exact⟨a1,x,by rw[Fw _ _ _ _ _ (h.apart j k L₁ L bR iz hM)];exact a2,a3,a4.mono bK⟩
def ct.store(h:ct G base w0 C M J w)(S:J[k]?=a_ (.cells Z row))(hM:M[k]?=a_ L)
  (off:Nat) (us) (vs) (D:dn C M J us vs) (hfit:off+us.length<=Z.length):
  cY C M J C M (J.set k (.cells (dN Z off us) row))/\ct G base w0 C M (J.set k (.cells (dN Z off us) row)) (w.setCells L.b off vs):=by
 have bK:cY C M J C M (J.set k (.cells (dN Z off us) row)):=cY.setCells (λ_ _ _ h=>h) S (YD hfit);exact⟨bK,h.am_ S hM off us vs D bK (bD hfit) λi=>YC hfit i⟩
def aCA(h:w.cell? ⟨b,o,bn⟩=a_ v):w.setCell ⟨b,o,bn⟩ v=w:=by
 have key:w.heap.modify b (λ
   |.cells c UA frozen=>.cells (if(bn:Option Nat).isSome then c else c.setIfInBounds o v) UA frozen
   |o=>o)=w.heap:=by
  apply aE6;intro i;rw[Ej];split;rename_i e;subst e;cases I:w.heap[b]? with
  |none=>rfl
  |some x=>
   cases x with
   |cells c ty fr=>
    have T:c[o]?=a_ v:=by simpa[Es,I] using h
    simp only[jS,A2,kz,if_false];congr 2;apply aE6;intro j;rw[Array.getElem?_setIfInBounds];split;rename_i e;subst e;split;exact T.symm;rename_i hn;rw[aoa aa] at T;cases T;rfl
   |_=>rfl
  rfl
 show({w with heap:=_}:World)=w
 exact congrArg (λq=>({w with heap:=q}:World)) key
def ct.aDL(h:ct G base w0 C M J w){z}(S:J[k]?=a_ (.cells (.v (.pointer bn)::z) bf))(hM:M[k]?=a_ L):
  cY C M J C M (J.set k (.cells (.h_ k L.ty::z) bf))/\ct G base w0 C M (J.set k (.cells (.h_ k L.ty::z) bf)) w:=by
 obtain⟨bK,hs⟩:=h.store S hM 0 [.h_ k L.ty] [.pointer bn] ⟨rfl,λi a b ha O=>by
  cases i with
  |zero=>simp at ha O;subst ha;subst O;exact .h_ S hM
  |succ i=>simp at ha⟩ af
 obtain⟨_,_,h3,_⟩:=h.cells k _ _ L S hM;obtain⟨c',h4,h5⟩:=h3 0 (.v (.pointer bn)) rfl;cases h5;have e:w.setCells L.b 0 [.pointer bn]=w:=by
  rw[NI,NI];exact aCA h4
 rw[e] at hs;exact⟨bK,hs⟩
def Lj(w:World)(a)(n k:Nat)(S:k≠a.block):(w.freeze a n).heap[k]?=w.heap[k]? :=by
 unfold SL;split;rfl;show(w.heap.modify a.block _)[k]?=_;rw[Ej,if_neg (eW S)]
def afO(w:World)(a)(n k:Nat)(o:Obj)(h:w.heap[k]?=a_ o)(ho:tG o):(w.freeze a n).heap[k]?=a_ o:=by
 unfold SL;split;exact h;show(w.heap.modify a.block _)[k]?=_;rw[Ej];split;rw[h];cases o with
 |cells c t f=>exact(ho c t f rfl).elim
 |_=>rfl
 exact h
def Zb(w:World)(a)(n:Nat):(w.freeze a n).heap.size=w.heap.size:=by
 unfold SL;split;rfl;show(w.heap.modify a.block _).size=_;simp
def asu{lo Q:Nat}{Z}(a)(n:Nat)(h:w.heap[k]?=a_ (.cells Z e (lo,Q))):∃fr,(w.freeze a n).heap[k]?=a_ (.cells Z e fr):=by
 by_cases O:k=a.block;unfold SL;split;exact⟨_,h⟩;refine⟨if lo==Q then(a.off,a.off+n) else(min lo a.off,max Q (a.off+n)),?_⟩;show(w.heap.modify a.block _)[k]?=_;rw[Ej,if_pos O.symm,h];rfl;exact⟨_,by rw[Lj _ _ _ _ O];exact h⟩
def OB(w:World)(a c)(n:Nat):(w.freeze a n).cell? c=w.cell? c:=by
 unfold Es;cases I:w.heap[c.block]? with
 |none=>rw[aoa (by rw[Zb];exact Array.getElem?_eq_none_iff.1 I)]
 |some x=>
  cases x with
  |cells Z e fr=>
   obtain⟨lo,Q⟩:=fr;obtain⟨aFY,q⟩:=asu a n I;rw[q]
  |_=>rw[afO _ _ _ _ _ I (λc t f q=>av)]
def ct.ast(h:ct G base w0 C M J w){c s:Nat}(hid:J[id]?=a_ (.tok c s ty))(hM:M[id]?=a_ L)(ha:L.b=a.block)(hfit:a.off+n<=L.fin)(atr:ty=5)(ya:∀o v,C L.b o=a_ v->vB v=bf):
  ct G base w0 C M J (w.freeze a n):=by
 obtain⟨t1,t2,_⟩:=h.toks id c s ty L hid hM;refine⟨Lib.below_freeze h.below aa n,h.nN,h.old,h.sQ,h.fJ,λb o v T=>⟨by rw[OB];exact(h.oo b o v T).1,λq hv i=>by
  have O:b≠a.block:=λe=>by rw[ya o v (by rw[ha,<-e];exact T)] at hv;cases hv
  have:=(h.oo b o v T).2 q hv i;unfold NG at this⊢;rw[Lj _ _ _ _ O];exact this⟩,?_,?_,h.apart,?_⟩
 intro k Z fz L' S eC;obtain⟨Y,V,h3,h4,h5,h6,h7⟩:=h.cells k Z fz L' S eC;have bR:k≠id:=by intro q;subst q;rw[hid] at S;cases S
 have O:L'.b≠a.block:=aIt
 refine⟨Y,by rw[Zb];exact V,λi x I=>?_,λi=>?_,h5,λo ho=>?_,h7.same (Lj _ _ _ _ O)⟩;obtain⟨c',a1,a2⟩:=h3 i x I;exact⟨c',by rw[OB];exact a1,a2⟩;have:=h4 i;unfold NG at this⊢;rw[Lj _ _ _ _ O];exact this;obtain⟨v,hv⟩:=h6 o ho;exact⟨v,by rw[OB];exact hv⟩;intro k n' s' Nc L' S eC;obtain⟨Y,V,h3,h4,h5,h6⟩:=h.toks k n' s' Nc L' S eC;have hT:=h6.freeze a n λO=>by
  by_cases bR:k=id;subst bR;rw[hM] at eC;cases eC;exact hfit;exact(h.apart k id L' L bR eC hM (by rw[O,ha])).elim
 have hu:Nc=5\/∀i,(w.freeze a n).frozen? ⟨L'.b,i,bn⟩=bf:=by
  by_cases bR:k=id;subst bR;rw[hid] at S;cases S;exact .inl atr;exact h3.2.2.imp_right λq i=>by
   have:=q i;unfold NG at this⊢;rw[Lj _ _ _ _ aIt];exact this
 refine⟨Y,by rw[Zb];exact V,⟨h3.1,h3.2.1,hu⟩,h4,λo ho ic=>⟨?_,hT.free o ho⟩,hT⟩;obtain⟨⟨v,hv⟩,_⟩:=h5 o ho ic;exact⟨v,by rw[OB];exact hv⟩;intro k b L' O S eC;obtain⟨Y,o,V,h3,h4⟩:=h.gp k b L' O S eC;exact⟨Y,o,afO _ _ _ _ _ V h3,h3,h4⟩
def ct.azX(h:ct G base w0 C M J w)(cells)(e)(cs')(vs)(D:dn C M J cs' vs)(hv:∀(i:Nat) v,vs[i]?=a_ v->cells[i]?=a_ v)(gT:cap<=cells.size)(S:J[k]?=a_ (.cells Z bh))(cQ:Z.length<cs'.length):
  cY C M J C (M.set k {b:=w.heap.size,cap:=cap,ty:=(e,cells.size)}) (J.set k (.cells cs' bh))/\ct G base w0 C (M.set k {b:=w.heap.size,cap:=cap,ty:=(e,cells.size)}) (J.set k (.cells cs' bh)) (w.alloc (.cells cells e)):=by
 have bK:cY C M J C (M.set k {b:=w.heap.size,cap:=cap,ty:=(e,cells.size)}) (J.set k (.cells cs' bh)):=cY.afg (λ_ _ _ h=>h) S h.fJ (bD cQ);have Dc:=gY h.nN.le h.below.size;have eS:=(cJ.1 S).1;refine⟨bK,h.below.alloc Dc _,h.nN,h.old,h.sQ,aJv,?_,?_,?_,?_,h.IY bK (λj o ho hj=>⟨(IZ rfl ho hj).2,bC (eW (IZ rfl ho hj).1)⟩) λb o O _=>PZ _ _ _ _ O⟩;exact λb o v T=>(h.oo b o v T).alloc _;intro j xS fz L hj hM
 rcases lF hj with⟨bR,hj⟩|⟨rfl,_,hj⟩
 rcases lF hM with⟨_,hM⟩|⟨e,_⟩
 obtain⟨Y,V,h3,q1,bt,bT⟩:=h.cells j xS fz L hj hM;refine⟨Y,ah,λi c T=>?_,λi=>by rw[Co _ _ _ aY];exact q1 i,bt,λo ho=>by rw[xq _ _ _ aHO];exact bT.1 o ho,bT.2.alloc V _⟩;obtain⟨c',a1,a2⟩:=h3 i c T;exact⟨c',by rw[xq _ _ _ aHO];exact a1,a2.mono bK⟩;omega;cases hj
 rcases lF hM with⟨bR,_⟩|⟨_,_,rfl⟩
 omega;refine⟨Dc,af,λi c T=>?_,λi=>JL _ _ _ _,λo=>h.fresh o,λo ho=>?_,nK.new⟩;obtain⟨c',a1,a2⟩:=D.get T;exact⟨c',by rw[GW];exact hv _ _ a1,a2.mono bK⟩;rw[GW];have ho:o<cap:=ho;exact⟨cells[o],vJ aa⟩;intro j n s ty L hj hM
 rcases lF hj with⟨bR,hj⟩|⟨_,_,hj⟩
 rcases lF hM with⟨_,hM⟩|⟨e,_⟩
 obtain⟨Y,V,h3,h4,h5,h6⟩:=h.toks j n s ty L hj hM;refine⟨Y,ah,h3.alloc V _,h4,λo ho ic=>?_,h6.alloc V _⟩;obtain⟨a1,a2⟩:=h5 o ho ic;exact⟨by rw[xq _ _ _ aHO];exact a1,by rw[Co _ _ _ aY];exact a2⟩;omega;cases hj;intro j j' L L' bR hM eC
 rcases lF hM with⟨_,hM⟩|⟨e1,_,rfl⟩<;>rcases lF eC with⟨_,eC⟩|⟨e2,_,rfl⟩
 exact h.apart j j' L L' bR hM eC;have:=(h.at hM).1;show L.b≠w.heap.size;omega;have:=(h.at eC).1;show w.heap.size≠L'.b;omega;omega
inductive dr where
 |t (n:Nat)
 |c (a:bg)
def jx:bg:=.bQ []
def ev(ts:List bg):dr->bg
 |.t n=>(ts[n]?).getD jx
 |.c a=>a
def M_:Value->Option bg
 |.slice bn 0 0=>a_ .bp
 |.func f fs Z=>if fs.size=0/\Z.size=0 then a_ (.fn f [] []) else bn
 |x=>if plain x then a_ (.v x) else bn
def dY:Operand->Option dr
 |.tmp t=>a_ (.t t)
 |.const v=>(M_ v).map .c
 |.func f=>a_ (.c (.fn (.func f) [] []))
 |.global _=>bn
def B9:List Value->Option (List bg)
 |[]=>a_ []
 |x::r=>match M_ x,B9 r with
  |some a,a_ l=>a_ (a::l)
  |_,_=>bn
def tr:List Operand->Option (List dr)
 |[]=>a_ []
 |x::r=>match dY x,tr r with
  |some a,a_ l=>a_ (a::l)
  |_,_=>bn
def nI(C:Cells)(M:List Loc)(J:List br)(ts:List bg)(tmps:Array Value):Prop:=dn C M J ts tmps.toList
section
variable{G:Cells}{base:Nat}{w0:kD}{w:World}{C:Cells}{M:List Loc}{J:List br}{P:Program}
def Gs:bO C M J jx undef:=.bQ rfl (λi a b h=>aq)
def YU{x}{a:bg}(h:M_ x=a_ a):bO C M J a x:=by
 unfold M_ at h;split at h;cases h;exact .bp;split at h;rename_i hq;cases h;exact .fn (by simp[hq.1]) (by simp[hq.2]) (λi a b h=>aq) (λi a b h=>aq);cases h;split at h;rename_i bl;cases h;exact .v bl;cases h
def B0:∀{xs} {l},B9 xs=a_ l->dn C M J l xs
 |[],l,h=>by cases h;exact⟨rfl,λi a b h=>aq⟩
 |x::r,l,h=>by
  simp only[B9] at h;split at h;rename_i a l' Y V;cases h;have ih:=B0 V;refine⟨by simp[ih.1],λi a' b' e1 e2=>?_⟩;cases i with
  |zero=>simp at e1 e2;subst e1;subst e2;exact YU Y
  |succ i=>simp at e1 e2;exact ih.2 i a' b' e1 e2
  cases h
def U7{tmps}(h:nI C M J ts tmps)(n:Nat):bO C M J ((ts[n]?).getD jx) (tmps.getD n undef):=by
 rcases d_ n ts.length with hl|hl
 have hl':n<tmps.size:=by have:=h.1;simp at this;omega
 have:=h.2 n ts[n] tmps[n] (cx hl) (by simp[hl']);simpa[cx hl,Array.getD,hl'] using this;have hl':tmps.size<=n:=by have:=h.1;simp at this;omega
 have e:tmps.getD n undef=undef:=by simp[Array.getD,Nat.not_lt.2 hl']
 rw[jJ hl,e];exact Gs
def eF{a:Act}(h:nI C M J ts a.tmps){x}{o:dr}(I:dY x=a_ o):bO C M J (ev ts o) (a.eval x):=by
 cases x with
 |tmp t=>cases I;exact U7 h t
 |const v=>
  simp only[dY,dm] at I;obtain⟨bN,Y,rfl⟩:=I;exact YU Y
 |global g=>cases I
 |func f=>cases I;exact .fn rfl rfl (λi a b h=>aq) (λi a b h=>aq)
def aeQ{a:Act}(h:nI C M J ts a.tmps)(D:bO C M J x y)(d:Nat):
  nI C M J (ts.set d x) (a.put (a_ d) y).tmps:=by
 have c7:ts.length=a.tmps.size:=aJa
 refine⟨by simp[Act.put,c7],λi u v hu hv=>?_⟩;simp only[Act.put,Array.toList_setIfInBounds] at hv
 rcases lF hu with⟨bR,hu⟩|⟨rfl,hl,rfl⟩
 rw[bC (eW bR)] at hv;exact h.2 i u v hu hv;rw[bV (by simpa[c7] using hl)] at hv;simp at hv;subst hv;exact D
def gv(G:Cells)(base:Nat)(w0:kD)(C:Cells)(M:List Loc)(J:List br)(P:Program)(m:Sem Value)(w:World)(r:bg)(bl:List br):Prop:=
 ∃bI M' v' w',m.run P w=.ok v' w'/\cY C M J bI M' bl/\ct G base w0 bI M' bl w'/\bO bI M' bl r v'
def gv.same{m}(h:ct G base w0 C M J w)(D:m.run P w=.ok v w)(hv:bO C M J r v):gv G base w0 C M J P m w r J:=
 ⟨C,M,v,w,D,cY.refl _ _ _,h,hv⟩
def kf(P:Program)(t:TypeId):Option Bool:=
 match P.underlying t with
 |some (.struct _)|some (.array _ _)=>a_ bh
 |some _=>a_ bf
 |none=>bn
def jv(P:Program)(t:TypeId):Option Nat:=(P.info? t).map (·.size)
def Y2{b}(h:kf P t=a_ b)(w):(isAgg t).run P w=.ok b w:=by
 unfold kf at h;cases hd:P.underlying t with
 |none=>simp[hd] at h
 |some d=>
  rw[hd] at h;unfold isAgg;simp only[fW,run_underlying hd,gd];cases d<;>simp at h<;>subst h<;>rfl
def p0(h:jv P t=a_ n)(w):(sizeOf t).run P w=.ok n w:=by
 unfold jv at h;simp only[dm] at h;obtain⟨i,Q,rfl⟩:=h;simp[sizeOf,typeInfo,Q]
def eZ(bM:Bool)(n:Nat)(Z:List bg)(off:Nat):Option bg:=
 if bM then(if off+n<=Z.length then a_ (.agg ((Z.drop off).take n)) else bn) else Z[off]?
def addr_add(b o n:Nat):(⟨b,o,bn⟩:Addr).add n=⟨b,o+n,bn⟩:=by unfold Addr.add;split<;>simp_all
def Ji(dM:kf P t=a_ bM)(hn:jv P t=a_ n)
  (ye:∀(i:Nat) c,Z[i]?=a_ c->∃c',w.cell? ⟨b,o+i,bn⟩=a_ c'/\bO C M J c c') (D:eZ bM n Z off=a_ r):
  ∃v,(loadVar t ⟨b,o+off,bn⟩).run P w=.ok v w/\bO C M J r v:=by
 unfold loadVar;simp only[fW,Y2 dM,gd];unfold eZ at D;cases bM with
 |true=>
  simp only[if_true] at D⊢;split at D;rename_i hfit;cases D;have afJ:∀j,j<n->∃c',w.cell? ⟨b,o+off+j,bn⟩=a_ c'/\∃c,Z[off+j]?=a_ c/\bO C M J c c':=λj hj=>by
   obtain⟨c',Y,V⟩:=ye (off+j) Z[off+j] (cx aa);exact⟨c',by rw[nG];exact Y,_,cx aa,V⟩
  have hl:=run_loadCells (P:=P) w ⟨b,o+off,bn⟩ n (λj=>(w.cell? ⟨b,o+off+j,bn⟩).getD undef) (λj hj=>by
   obtain⟨c',Y,_⟩:=afJ j hj;rw[addr_add];simp[Y])
  refine⟨.agg ((kR n).map (λj=>(w.cell? ⟨b,o+off+j,bn⟩).getD undef)).toArray,?_,?_⟩;simp only[fW,p0 hn,gd,hl,lK];refine .agg ah (λi a c ha T=>?_);have Q:i<n:=by
   have:=(cJ.1 ha).1;simp at this;omega
  obtain⟨c',Y,c0,V,h3⟩:=afJ i Q;simp only[SP,sx] at ha;rw[if_pos Q,V] at ha;cases ha;simp[Q,Y] at T;subst T;exact h3;cases D
 |false=>
  simp only[kz,if_false] at D⊢;obtain⟨c',Y,V⟩:=ye off r D;exact⟨c',aIu,V⟩
def bA(J:List br)(bM:Bool)(n:Nat):bg->Option bg
 |.fp Z off=>eZ bM n Z off
 |.mp k off=>match J[k]? with
  |some (.cells Z bf)=>eZ bM n Z off
  |_=>bn
 |.rp k m off=>match J[k]? with
  |some (.cells Z bh)=>if m=Z.length then eZ bM n Z off else bn
  |_=>bn
 |_=>bn
def as5(dM:kf P t=a_ bM)(hn:jv P t=a_ n)(h:ct G base w0 C M J w)(I:bO C M J x y)(D:bA J bM n x=a_ r):gv G base w0 C M J P (aao t y) w r J:=by
 unfold bA at D;split at D;rename_i Z off;cases I with
 |fp f hC hR=>
  rename_i b o;obtain⟨v,Y,V⟩:=Ji dM hn (λi c T=>⟨f i,(h.oo _ _ _ (hC i c T)).1,hR i c T⟩) D;exact .same h (by simp[aao,Nz,Y]) V
 rename_i k off;cases I with
 |mp O hM=>
  rename_i L Z;rw[O] at D;simp only at D;obtain⟨t1,t2,t3,t4⟩:=h.cells k Z bf L O hM;obtain⟨v,Y,V⟩:=Ji dM hn (λi c T=>by
   obtain⟨c',a1,a2⟩:=t3 i c T;exact⟨c',aJb,a2⟩) D
  rw[gF] at Y;exact .same h (by simp[aao,Nz,Y]) V
 rename_i k m off;cases I with
 |rp O hM qQ ha=>
  rename_i L Z a;rw[O] at D;simp only at D;split at D;rename_i hm;have ha:=ha hm;subst ha;obtain⟨t1,t2,t3,t4⟩:=h.cells k Z bh L O hM;obtain⟨v,Y,V⟩:=Ji dM hn (λi c T=>by
   obtain⟨c',a1,a2⟩:=t3 i c T;exact⟨c',aJb,a2⟩) D
  rw[gF] at Y;exact .same h (by simp[aao,Nz,Y]) V;cases D
 cases D
def RE(h:bO C M J x y):dn C M J x.cells y.cells.toList:=by
 have tq:∀{x:bg} {y},bO C M J x y->dn C M J [x] [y]:=λh=>⟨rfl,λi a b e1 e2=>by
  cases i with
  |zero=>simp at e1 e2;subst e1;subst e2;exact h
  |succ i=>simp at e1⟩
 cases h with
 |agg hl h=>exact⟨by simp[bg.cells,AO,hl],λi a b e1 e2=>h i a b (by simpa[bg.cells] using e1) aJy⟩
 |v h=>
  have T:y.cells= #[y]:=by cases y<;>first|rfl|simp[plain] at h
  rw[T];exact tq (.v h)
 |bQ hl h=>exact tq (.bQ hl h)
 |bp=>exact tq .bp
 |sl f a b c d e g=>exact tq (.sl f a b c d e g)
 |fp f a b=>exact tq (.fp f a b)
 |fx f a b=>exact tq (.fx f a b)
 |mp a b=>exact tq (.mp a b)
 |rp a b c d=>exact tq (.rp a b c d)
 |rs a b c d e=>exact tq (.rs a b c d e)
 |gm a b=>exact tq (.gm a b)
 |fn a b c d=>exact tq (.fn a b c d)
 |ep a=>exact tq (.ep a)
 |fR a b=>exact tq (.fR a b)
 |iV a b=>exact tq (.iV a b)
 |h_ a b=>exact tq (.h_ a b)
def dn.qI(h:dn C M J Z cs')(Y:Z.all bg.one=bh):∀v∈cs',v.oneCell'=bh:=by
 intro v hv;obtain⟨i,Q,rfl⟩:=Eu hv;have hl:i<Z.length:=by rw[h.1];exact Q
 exact(h.2 i Z[i] cs'[i] (cx hl) (cx Q)).one (eO.1 Y _ (NK hl))
def e5(J:List br)(k:Nat)(row:Bool)(Z:List bg)(n off:Nat)(x:bg):Option (List br):=
 if x.cells.length=n/\off+n<=Z.length/\x.cells.all bg.one=bh then a_ (J.set k (.cells (dN Z off x.cells) row)) else bn
def bL(J:List br)(n:Nat)(p x:bg):Option (List br):=
 match p with
 |.mp k off=>match J[k]? with
  |some (.cells Z bf)=>e5 J k bf Z n off x
  |_=>bn
 |.rp k m off=>match J[k]? with
  |some (.cells Z bh)=>if m=Z.length then e5 J k bh Z n off x else bn
  |_=>bn
 |_=>bn
def amc(hn:jv P t=a_ n)(h:ct G base w0 C M J w)(O:J[k]?=a_ (.cells Z row))(hM:M[k]?=a_ L)(I:bO C M J x x')(hs:e5 J k row Z n off x=a_ bl):∃w',(aok t (.pointer (a_ ⟨L.b,off,bn⟩)) x').run P w=.ok () w'/\cY C M J C M bl/\ct G base w0 C M bl w':=by
 unfold e5 at hs;split at hs;rename_i T;obtain⟨c1,c2,c3⟩:=T;cases hs;have D:=RE I;obtain⟨bK,ez⟩:=h.store O hM off x.cells x'.cells.toList D aa;obtain⟨t1,t2,t3,t4⟩:=h.cells k Z row L O hM;have c7:x'.cells.toList.length=n:=by rw[<-D.1];exact c1
 refine⟨_,?_,bK,ez⟩;have eU:=run_storeCells_cells (P:=P) L.b off x'.cells.toList 0 w (λj hj=>by
  obtain⟨c',a1,_⟩:=t3 (off+j) Z[off+j] (cx aa);rw[uE,a1];rfl) (λj hj=>by rw[uE];exact t4.1 _) (D.qI c3)
 rw[uE] at eU;have dG:x'.cells.size=n:=aHw
 simp only[aok,Nz,fW,lK,gd,storeVar,p0 hn];rw[if_neg aa];exact eU;cases hs
def aCe(hn:jv P t=a_ n)(h:ct G base w0 C M J w){p:bg}{p'}(agn:bO C M J p p')(I:bO C M J x x')(hs:bL J n p x=a_ bl):∃w',(aok t p' x').run P w=.ok () w'/\cY C M J C M bl/\ct G base w0 C M bl w':=by
 unfold bL at hs;split at hs;rename_i k off;cases agn with
 |mp O hM=>
  rename_i L Z;rw[O] at hs;exact amc hn h O hM I hs
 rename_i k m off;cases agn with
 |rp O hM qQ ha=>
  rename_i L Z a;rw[O] at hs;simp only at hs;split at hs;rename_i hm;rw[ha hm];exact amc hn h O hM I hs;cases hs
 cases hs
end
section
variable{G:Cells}{base:Nat}{w0:kD}{w:World}{C:Cells}{M:List Loc}{J:List br}{P:Program}
def k9(off:Nat):bg->Option bg
 |.fp Z o=>a_ (.fp Z (o+off))
 |.mp k o=>a_ (.mp k (o+off))
 |.rp k n o=>a_ (.rp k n (o+off))
 |_=>bn
def alC(I:bO C M J x y)(D:k9 off x=a_ r):∃a,y=.pointer (a_ a)/\bO C M J r (.pointer (a_ (a.add off))):=by
 unfold k9 at D;split at D;cases D;cases I with
 |fp f hC hR=>exact⟨_,rfl,by rw[addr_add,nG];exact .fp f hC hR⟩
 cases D;cases I with
 |mp O hM=>exact⟨_,rfl,by rw[addr_add];exact .mp O hM⟩
 cases D;cases I with
 |rp O hM hn ha=>exact⟨_,rfl,.rp O hM hn λq=>by rw[ha q,addr_add]⟩
 cases D
def asY(hs:P.underlying s=a_ (.struct C3))(hf:C3[field]?=a_ f)(ho:f.offset=off)
  (hn:jv P f.type=a_ n) (oy:n≠0) (h:ct G base w0 C M J w) (I:bO C M J x y) (D:k9 off x=a_ r):
  gv G base w0 C M J P (Instr.fieldAt s y field) w r J:=by
 obtain⟨a,rfl,ko⟩:=alC I D;refine .same h ?_ ko;simp[Instr.fieldAt,run_underlying hs,hf,Nz,fieldPlace,p0 hn,oy,ho]
def cA(n:Nat):bg->bg->Option bg
 |.sl xs _,.v (.int _ i)=>if 0<=i then match xs[i.toNat]? with
   |some x=>if x.cells.length=n then a_ (.fp x.cells 0) else bn
   |none=>bn
  else bn
 |.rs k m _ off len,.v (.int _ i)=>if 0<=i/\i<len then a_ (.rp k m (off+i.toNat*n)) else bn
 |_,_=>bn
def as0(ht:P.underlying t=a_ (.slice e))(hn:jv P e=a_ n)(h:ct G base w0 C M J w){i:bg}
  (I:bO C M J x y) (Q:bO C M J i j) (D:cA n x i=a_ r):gv G base w0 C M J P (SH t y j) w r J:=by
 unfold cA at D;split at D;rename_i xs tl k i;cases Q;cases I with
 |sl f gk dG hC hR hT gT=>
  rename_i a cap sz;split at D;rename_i h0;split at D;rename_i x IA;split at D;rename_i c7;cases D;have cQ:=(cJ.1 IA).1;have FO:sz=n:=by rw[<-dG _ _ IA];exact c7
  subst FO;obtain⟨b,o,sp⟩:=a;have:=gk (by intro e;subst e;simp at cQ);subst this;have Vx:bO C M J (.fp x.cells 0) (.pointer (a_ ⟨b,(o+i.toNat*sz)+0,bn⟩)):=
   .fp (f i.toNat) (λj c T=>hC _ _ _ _ IA T) (λj c T=>hR _ _ _ _ IA T)
  refine .same h ?_ Vx;have jX:i<(xs.length:Int):=aa
  simp[SH,asIntOf,run_underlying ht,h0,jX,p0 hn,addr_add];cases D;cases D;cases D
 rename_i k m sz off len kk i;cases Q;cases I with
 |rs O hM qQ fO ha=>
  rename_i cap L Z a;split at D;rename_i h0;cases D;refine .same h (v:=.pointer (a_ (a.add (i.toNat*n)))) ?_ (.rp O hM qQ λq=>by rw[(ha q).1,addr_add]);simp[SH,asIntOf,run_underlying ht,h0,p0 hn];cases D
 cases D
def mO(len n:Nat)(x:bg):bg->Option bg
 |.v (.int _ i)=>if 0<=i/\i<len then k9 (i.toNat*n) x else bn
 |_=>bn
def asH(ht:P.underlying t=a_ (.array len e))(hn:jv P e=a_ n)(h:ct G base w0 C M J w){i:bg}
  (I:bO C M J x y) (Q:bO C M J i j) (D:mO len n x i=a_ r):gv G base w0 C M J P (SH t y j) w r J:=by
 unfold mO at D;split at D;rename_i k i;cases Q;split at D;rename_i h0;obtain⟨a,rfl,ko⟩:=alC I D;refine .same h ?_ ko;simp[SH,asIntOf,run_underlying ht,h0,p0 hn,Nz];cases D;cases D
def uR:bg->Option bg
 |.fp Z o=>a_ (.fp Z o)
 |.fx Z _ _=>a_ (.fp Z 0)
 |.mp k o=>a_ (.mp k o)
 |.rp k n o=>a_ (.rp k n o)
 |.fn (.func f) a b=>a_ (.fn (.func f) a b)
 |_=>bn
def wq(k:IntKind)(a b:Int)(f:BitVec k.bits->BitVec k.bits->BitVec k.bits):Value:=
 .int k (k.wrap (f (Ch k.bits a) (Ch k.bits b)).toNat)
def lW(op:BinOp)(k:IntKind)(a:Int)(k':IntKind)(b:Int):Option Value:=
 match op with
 |.shl=>if b<0 then bn else a_ (.int k (k.wrap (a*2^(min b.toNat k.bits))))
 |.shr=>if b<0 then bn else a_ (.int k (a.fdiv (2^(min b.toNat k.bits))))
 |op=>if k≠k' then bn else match op with
  |.add=>a_ (.int k (k.wrap (a+b)))
  |.sub=>a_ (.int k (k.wrap (a-b)))
  |.mul=>a_ (.int k (k.wrap (a*b)))
  |.quo=>if b=0 then bn else a_ (.int k (k.wrap (a.tdiv b)))
  |.rem=>if b=0 then bn else a_ (.int k (a.tmod b))
  |.and=>a_ (wq k a b (· &&& ·))
  |.or=>a_ (wq k a b (· ||| ·))
  |.xor=>a_ (wq k a b (· ^^^ ·))
  |.andNot=>a_ (wq k a b (λx y=>x&&& ~~~y))
  |.eql=>a_ (.bool (a==b))
  |.neq=>a_ (.bool (a !=b))
  |.lss=>a_ (.bool (a<b))
  |.leq=>a_ (.bool (a<=b))
  |.gtr=>a_ (.bool (a>b))
  |.geq=>a_ (.bool (a>=b))
  |_=>bn
def Jm(op:BinOp)(x y:ByteArray):Option Value:=
 match op with
 |.add=>if((x.size+y.size:Nat):Int)>dy.max then bn else a_ (.string (x++y))
 |.eql=>a_ (.bool (x.toList==y.toList))
 |.neq=>a_ (.bool !(x.toList==y.toList))
 |.lss=>a_ (.bool (aaq x.toList y.toList))
 |.leq=>a_ (.bool (aaq x.toList y.toList||x.toList==y.toList))
 |.gtr=>a_ (.bool !(aaq x.toList y.toList||x.toList==y.toList))
 |.geq=>a_ (.bool !(aaq x.toList y.toList))
 |_=>bn
def dF(op:BinOp):bg->bg->Option bg
 |.v (.int k a),.v (.int k' b)=>(lW op k a k' b).map .v
 |.v (.string a),.v (.string b)=>(Jm op a b).map .v
 |_,_=>bn
def aB_{k k'}{a b:Int}{r}(h:lW op k a k' b=a_ r)(t)(w):
  (binOp op t (.int k a) (.int k' b)).run P w=.ok r w/\plain r=bh:=by
 unfold lW at h;split at h;split at h;cases h;rename_i O;cases h;exact⟨by simp[binOp,Op.shift,O],rfl⟩;split at h;cases h;rename_i O;cases h;exact⟨by simp[binOp,Op.shift,O],rfl⟩;rename_i Y V;split at h;cases h;rename_i S;have S:k=k':=by simpa using S
 subst S;cases op with
 |shl=>exact(Y rfl).elim
 |shr=>exact(V rfl).elim
 |add=>cases h;exact⟨by simp[binOp,aar],rfl⟩
 |sub=>cases h;exact⟨by simp[binOp,aar],rfl⟩
 |mul=>cases h;exact⟨by simp[binOp,aar],rfl⟩
 |quo=>
  simp only at h;split at h;cases h;rename_i O;cases h;exact⟨by simp[binOp,Op.intDiv,O],rfl⟩
 |rem=>
  simp only at h;split at h;cases h;rename_i O;cases h;exact⟨by simp[binOp,Op.intDiv,O],rfl⟩
 |and=>cases h;exact⟨aIU,rfl⟩
 |or=>cases h;exact⟨aIU,rfl⟩
 |xor=>cases h;exact⟨aIU,rfl⟩
 |andNot=>cases h;exact⟨aIU,rfl⟩
 |eql=>cases h;exact⟨aH6,rfl⟩
 |neq=>cases h;exact⟨aH6,rfl⟩
 |lss=>cases h;exact⟨aH6,rfl⟩
 |leq=>cases h;exact⟨aH6,rfl⟩
 |gtr=>cases h;exact⟨aH6,rfl⟩
 |geq=>cases h;exact⟨aH6,rfl⟩
def aCd{a b}{r}(h:Jm op a b=a_ r)(t)(w):
  (binOp op t (.string a) (.string b)).run P w=.ok r w/\plain r=bh:=by
 have key:binOp op t (.string a) (.string b)=Op.stringOp op a b:=by cases op<;>simp[binOp]
 rw[key];unfold Jm at h;cases op<;>simp only[Op.stringOp] at h⊢<;>first
  |(cases h;done)
  |(cases h;exact⟨rfl,rfl⟩)
  |skip
 split at h;cases h;rename_i O;cases h;rw[if_neg O];exact⟨rfl,rfl⟩
def ae5(h:ct G base w0 C M J w){y:bg}(I:bO C M J x x')(hy:bO C M J y y')
  (D:dF op x y=a_ r):gv G base w0 C M J P (do eqGuard op t f_ j3 x' y';binOp op t x' y') w r J:=by
 unfold dF at D;split at D;rename_i k a k' b;cases I;cases hy;simp only[dm] at D;obtain⟨v,hv,rfl⟩:=D;obtain⟨Y,V⟩:=aB_ (P:=P) hv t w;refine .same h ?_ (.v V);have hg:eqGuard op t f_ j3 (.int k a) (.int k' b)=pure ():=aID
 rw[hg];simp[Y];rename_i a b;cases I;cases hy;simp only[dm] at D;obtain⟨v,hv,rfl⟩:=D;obtain⟨Y,V⟩:=aCd (P:=P) hv t w;refine .same h ?_ (.v V);have hg:eqGuard op t f_ j3 (.string a) (.string b)=pure ():=aID
 rw[hg];simp[Y];cases D
def Hs(neg:Bool):bg->bg->Option bg
 |.v (.bool a),.v (.bool b)=>a_ (.v (.bool (if neg then !(a==b) else a==b)))
 |_,_=>bn
def oS(neg:Bool):BinOp:=if neg then .neq else .eql
def ae6(ht:P.underlying t=a_ .bool)(h:ct G base w0 C M J w){y:bg}(I:bO C M J x x')(hy:bO C M J y y')
  (D:Hs neg x y=a_ r):gv G base w0 C M J P (do eqGuard (oS neg) t f_ j3 x' y';binOp (oS neg) t x' y') w r J:=by
 unfold Hs at D;split at D;rename_i a b;cases I;cases hy;cases D;refine .same h ?_ (.v rfl);have hg:eqGuard (oS neg) t f_ j3 (.bool a) (.bool b)=pure ():=aID
 rw[hg];have:=run_equal_bool w t a b ht;cases neg<;>simp[oS,binOp,this];cases D
def Mn:bg->Bool
 |.v (.pointer bn)|.v .nilFunc|.v .nilIface|.bp|.h_ _ _=>bh
 |_=>bf
def wS:Operand->Bool
 |.const _=>bh
 |_=>bf
inductive J9 where
 |ptr|slc|Pq|ep
 deriving DecidableEq
def IQ(P:Program)(t:TypeId):Option J9:=
 match P.underlying t with
 |some (.pointer _)=>a_ .ptr
 |some (.slice _)=>a_ .slc
 |some (.func _ _ _)=>a_ .Pq
 |some (.interface _)=>a_ .ep
 |_=>bn
def Xc:bg->Option J9
 |.v (.pointer bn)|.fp _ _|.mp _ _|.rp _ _ _|.h_ _ _|.fx _ _ _=>a_ .ptr
 |.bp|.sl _ _|.rs _ _ _ _ _=>a_ .slc
 |.v .nilFunc|.fn _ _ _=>a_ .Pq
 |.v .nilIface|.ep _ _=>a_ .ep
 |_=>bn
end
section
variable{G:Cells}{base:Nat}{w0:kD}{w:World}{C:Cells}{M:List Loc}{J:List br}{P:Program}
def nL(K:J9)(neg:Bool)(x y:bg):Option bg:=
 if Xc x=a_ K/\Xc y=a_ K/\(Mn x=bh\/Mn y=bh) then a_ (.v (.bool (neg !=(Mn x&&Mn y)))) else bn
def vm(K:J9)(nil:Bool)(x':Value):Prop:=
 match K with
 |.ptr=>if nil then x'=.pointer bn else∃a,x'=.pointer (a_ a)
 |.slc=>if nil then x'=.slice bn 0 0 else∃a n c,x'=.slice (a_ a) n c
 |.Pq=>if nil then x'=.nilFunc else∃f a b,x'=.func f a b
 |.ep=>if nil then x'=.nilIface else∃t v,x'=.iface t v
def rX{K}(I:bO C M J x x')(kx:Xc x=a_ K):vm K (Mn x) x':=by
 cases I with
 |v h=>
  cases x' with
  |pointer a=>cases a with
   |none=>cases kx;exact rfl
   |some a=>simp[plain] at h
  |nilFunc=>cases kx;exact rfl
  |nilIface=>cases kx;exact rfl
  |_=>first|(cases kx;done)|(simp[plain] at h;done)
 |bp=>cases kx;exact rfl
 |agg _ _=>cases kx
 |bQ _ _=>cases kx
 |sl _ _ _ _ _ _ _=>cases kx;exact⟨_,_,_,rfl⟩
 |fp _ _ _=>cases kx;exact⟨_,rfl⟩
 |fx _ _ _=>cases kx;exact⟨_,rfl⟩
 |mp _ _=>cases kx;exact⟨_,rfl⟩
 |rp _ _ _ _=>cases kx;exact⟨_,rfl⟩
 |rs _ _ _ _ _=>cases kx;exact⟨_,_,_,rfl⟩
 |gm _ _=>cases kx
 |fn _ _ _ _=>cases kx;exact⟨_,_,_,rfl⟩
 |ep _=>cases kx;exact⟨_,_,rfl⟩
 |fR _ _=>cases kx
 |iV _ _=>cases kx
 |h_ _ _=>cases kx;exact rfl
def RN{K}(ht:IQ P t=a_ K){a b}(I:vm K a x')(hy:vm K b y')(hn:a=bh\/b=bh)(d:Nat)(w):
  (vN (d+1) t x' y').run P w=.ok (a&&b) w:=by
 unfold IQ at ht;cases hd:P.underlying t with
 |none=>rw[hd] at ht;cases ht
 |some dd=>
  rw[hd] at ht;have hu:=λw'=>run_underlying hd w';cases K<;>cases dd<;>simp only[reduceCtorEq,mJ] at ht<;>cases a<;>cases b<;>
   simp only[vm,if_true,kz,if_false,or_self,or_true,true_or] at I hy hn
  all_goals first
   |(subst I;subst hy;rw[vN];simp only[fW,hu,gd];rfl)
   |(obtain⟨_,rfl⟩:=I;subst hy;rw[vN];simp only[fW,hu,gd];rfl)
   |(obtain⟨_,rfl⟩:=hy;subst I;rw[vN];simp only[fW,hu,gd];rfl)
   |(obtain⟨_,_,rfl⟩:=I;subst hy;rw[vN];simp only[fW,hu,gd];rfl)
   |(obtain⟨_,_,rfl⟩:=hy;subst I;rw[vN];simp only[fW,hu,gd];rfl)
   |(obtain⟨_,_,_,rfl⟩:=I;subst hy;rw[vN];simp only[fW,hu,gd];rfl)
   |(obtain⟨_,_,_,rfl⟩:=hy;subst I;rw[vN];simp only[fW,hu,gd];rfl)
def acs{K}{a b}(neg)(t)(I:vm K a x')(hy:vm K b y'):
  binOp (oS neg) t x' y'=(Op.equal t x' y'>>=λr=>pure (.bool (neg !=r))):=by
 have key:∀(x' y'),(∀k n,x'≠.int k n)->(∀s,x'≠.string s)->(∀k n,x'≠.float k n)->(∀k n m,x'≠.complex k n m)->binOp (oS neg) t x' y'=(Op.equal t x' y'>>=λr=>pure (.bool (neg !=r))):=by
  intro x' y' Y V h3 h4;cases neg<;>simp only[oS,kz,if_false,if_true]<;>unfold binOp<;>split<;>first
   |(exact(Y _ _ rfl).elim)|(exact(V _ rfl).elim)|(exact(h3 _ _ rfl).elim)|(exact(h4 _ _ _ rfl).elim)|(simp;done)|(simp_all;done)
 apply key<;>intros<;>intro e<;>subst e<;>cases K<;>cases a<;>simp[vm] at I
def arT(op)(t)(f_ j3)(Y:x'=.nilIface->y'=.nilIface->wS f_=bh\/wS j3=bh)(V:∀Z,x'≠.agg Z):eqGuard op t f_ j3 x' y'=pure ():=by
 have key:∀op:BinOp,(op=.eql\/op=.neq)->eqGuard op t f_ j3 x' y'=pure ():=by
  intro op ji
  rcases ji with rfl|rfl
  all_goals
   unfold eqGuard;simp only[yV,kz,if_false];split
   rcases Y rfl rfl with h|h
   cases f_<;>simp[wS] at h;rfl;cases j3<;>simp[wS] at h;cases f_<;>rfl;exact(V _ rfl).elim;rfl
 cases op<;>first|exact key _ (bD rfl)|exact key _ (bF rfl)|rfl
def ad2{K}{a b}(op)(t)(f_ j3)(I:vm K a x')(hy:vm K b y')
  (T:K=.ep->wS f_=bh\/wS j3=bh):eqGuard op t f_ j3 x' y'=pure ():=by
 refine arT op t f_ j3 (λe _=>T ?_) (λZ e=>?_);subst e;cases K<;>cases a<;>simp[vm] at I<;>rfl;subst e;cases K<;>cases a<;>simp[vm] at I
def ae7{K}(ht:IQ P t=a_ K)(T:K=.ep->wS f_=bh\/wS j3=bh)(h:ct G base w0 C M J w){y:bg}
  (I:bO C M J x x') (hy:bO C M J y y') (D:nL K neg x y=a_ r):gv G base w0 C M J P (do eqGuard (oS neg) t f_ j3 x' y';binOp (oS neg) t x' y') w r J:=by
 unfold nL at D;split at D;rename_i S;obtain⟨k1,k2,fX⟩:=S;cases D;have s1:=rX I k1;have s2:=rX hy k2;refine .same h ?_ (.v rfl);rw[ad2 _ t f_ j3 s1 s2 T,acs neg t s1 s2];have:=RN ht s1 s2 fX 9999 w;simp only[fW,lK,gd,Op.equal,Op.maxDepth];rw[this];rfl;cases D
end
section
variable{G:Cells}{base:Nat}{w0:kD}{w:World}{C:Cells}{M:List Loc}{J:List br}{P:Program}
def EP(op:UnOp):bg->Option bg
 |.v (.int k n)=>match op with
  |.neg=>a_ (.v (.int k (k.wrap (0-n))))
  |.xor=>a_ (.v (wq k (if k.signed then -1 else k.max) n (· ^^^ ·)))
  |_=>bn
 |.v (.bool b)=>match op with
  |.not=>a_ (.v (.bool !b))
  |_=>bn
 |_=>bn
def atd{op}(h:ct G base w0 C M J w)(I:bO C M J x x')(D:EP op x=a_ r):gv G base w0 C M J P (Op.unary op x') w r J:=by
 unfold EP at D;split at D;cases I;split at D<;>cases D;exact .same h (by simp[Op.unary,aar]) (.v rfl);exact .same h (by simp[Op.unary,SK,wq]) (.v rfl);cases I;split at D<;>cases D;exact .same h (by simp[Op.unary]) (.v rfl);cases D
def Hq(k:IntKind):bg->Option bg
 |.v (.int _ n)=>a_ (.v (.int k (k.wrap n)))
 |_=>bn
def asW{k}(hs:(P.underlying src).isSome=bh)(hd:P.underlying dst=a_ (.int k))(h:ct G base w0 C M J w)(I:bO C M J x x')
  (D:Hq k x=a_ r):gv G base w0 C M J P (convert src dst x') w r J:=by
 unfold Hq at D;split at D;cases I;cases D;obtain⟨d,Fu⟩:=aaM.mp hs;exact .same h (by simp[convert,run_underlying Fu,run_underlying hd,Conv.intToInt]) (.v rfl);cases D
def Oq:bg->Option bg
 |.v (.string s)=>a_ (.v (.string s))
 |_=>bn
def atb(hs:(P.underlying src)=a_ .string)(hd:P.underlying dst=a_ .string)(h:ct G base w0 C M J w)(I:bO C M J x x')
  (D:Oq x=a_ r):gv G base w0 C M J P (convert src dst x') w r J:=by
 unfold Oq at D;split at D;cases I;cases D;exact .same h (by simp[convert,run_underlying hs,run_underlying hd]) (.v rfl);cases D
def Kj:bg->Option bg
 |.v (.string s)=>a_ (.v (goInt s.size))
 |.bp=>a_ (.v (goInt 0))
 |.sl xs _=>a_ (.v (goInt xs.length))
 |.rs _ _ _ _ len=>a_ (.v (goInt len))
 |_=>bn
def ae8(h:ct G base w0 C M J w)(I:bO C M J x x')(S:∀s,x=.v (.string s)->P.underlying t=a_ .string)
  (iA:(∀s,x≠.v (.string s))->∃e,P.underlying t=a_ (.slice e)) (D:Kj x=a_ r):gv G base w0 C M J P (JG #[t] ty #[x']) w r J:=by
 unfold Kj at D;split at D;cases I;cases D;exact .same h (by simp[JG,run_underlying (S _ rfl)]) (.v rfl);cases I<;>cases D;obtain⟨e,he⟩:=iA (by intro s e;cases e);exact .same h aIC (.v rfl);cases I<;>cases D;obtain⟨e,he⟩:=iA (by intro s e;cases e);exact .same h aIC (.v rfl);cases I<;>cases D;obtain⟨e,he⟩:=iA (by intro s e;cases e);exact .same h aIC (.v rfl);cases D
def oP(i:Nat):bg->Option bg
 |.bQ Z=>Z[i]?
 |_=>bn
def asX{i:Nat}(h:ct G base w0 C M J w)(I:bO C M J x x')(D:oP i x=a_ r):gv G base w0 C M J P (Instr.extract x' i) w r J:=by
 unfold oP at D;split at D;cases I with
 |bQ hl hh=>
  rename_i Z cs';have Q:=(cJ.1 D).1;have jX:i<cs'.size:=aa
  exact .same h (by simp[Instr.extract,jX]) (hh i r cs'[i] D (by simp[jX]))
 cases D
def Ki(bM:Bool)(n off:Nat):bg->Option bg
 |.agg Z=>eZ bM n Z off
 |_=>bn
def ama(dM:kf P t=a_ bM)(hn:jv P t=a_ n){cs'}(hl:Z.length=cs'.size)
  (hh:∀(i:Nat) a b,Z[i]?=a_ a->cs'[i]?=a_ b->bO C M J a b) (D:eZ bM n Z off=a_ r) (w):∃v,(part t cs' off).run P w=.ok v w/\bO C M J r v:=by
 unfold part;simp only[fW,Y2 dM,gd];unfold eZ at D;cases bM with
 |true=>
  simp only[if_true] at D⊢;split at D;rename_i hfit;cases D;refine⟨.agg (cs'.extract off (off+n)),by simp only[fW,p0 hn,gd,lK],?_⟩;refine .agg ah (λi a b ha O=>?_);have Q:i<n:=by
   have:=(cJ.1 ha).1;simp at this;omega
  simp only[SP,sx] at ha;rw[if_pos Q] at ha;rw[Array.getElem?_extract] at O;rw[if_pos aa] at O;exact hh _ _ _ ha O;cases D
 |false=>
  simp only[kz,if_false] at D⊢;have Q:=(cJ.1 D).1;have jX:off<cs'.size:=aa
  exact⟨cs'[off],by simp[jX],hh off r _ D (by simp[jX])⟩
def asZ(hs:P.underlying s=a_ (.struct C3))(hf:C3[field]?=a_ f)(ho:f.offset=off)
  (dM:kf P f.type=a_ bM) (hn:jv P f.type=a_ n) (h:ct G base w0 C M J w) (I:bO C M J x x') (D:Ki bM n off x=a_ r):
  gv G base w0 C M J P (Instr.field s x' field) w r J:=by
 unfold Ki at D;split at D;cases I with
 |agg hl hh=>
  obtain⟨v,Y,V⟩:=ama dM hn hl hh D w;exact .same h (by simp[Instr.field,run_underlying hs,hf,asAgg,ho,Y]) V
 cases D
def CJ(bM:Bool)(n len:Nat):bg->bg->Option bg
 |.agg Z,.v (.int _ i)=>if 0<=i/\i<len then eZ bM n Z (i.toNat*n) else bn
 |_,_=>bn
def as1(ht:P.underlying t=a_ (.array len e))(dM:kf P e=a_ bM)(hn:jv P e=a_ n)(h:ct G base w0 C M J w){i:bg}
  (I:bO C M J x x') (Q:bO C M J i i') (D:CJ bM n len x i=a_ r):gv G base w0 C M J P (aan t x' i') w r J:=by
 unfold CJ at D;split at D;cases Q;cases I with
 |agg hl hh=>
  split at D;rename_i O;obtain⟨v,Y,V⟩:=ama dM hn hl hh D w;exact .same h (by simp[aan,asIntOf,run_underlying ht,O,p0 hn,Y]) V;cases D
 cases D
def wk:bg->bg->Option bg
 |.v (.string s),.v (.int _ i)=>if 0<=i then(s[i.toNat]?).map λb=>.v (.int .u8 b.toNat) else bn
 |_,_=>bn
def asV(ht:P.underlying t=a_ .string)(h:ct G base w0 C M J w){i:bg}
  (I:bO C M J x x') (Q:bO C M J i i') (D:wk x i=a_ r):gv G base w0 C M J P (aan t x' i') w r J:=by
 unfold wk at D;split at D;cases Q;cases I;split at D;rename_i O;simp only[dm] at D;obtain⟨b,hb',rfl⟩:=D;exact .same h (by simp[aan,asIntOf,run_underlying ht,O,hb']) (.v rfl);cases D;cases D
end
section
variable{G:Cells}{base:Nat}{w0:kD}{w:World}{C:Cells}{M:List Loc}{J:List br}{P:Program}
def ey(zs:List bg):List bg:=zs.flatMap bg.cells
def asl:ey []=[]:=rfl
def Bj(z:bg)(r):ey (z::r)=z.cells++ey r:=by simp[ey]
def aez(a b):ey (a++b)=ey a++ey b:=by simp[ey]
def Bk:∀{zs},(∀z∈zs,z.cells.length=n)->(ey zs).length=zs.length*n
 |[],_=>by simp[ey]
 |z::r,h=>by
  rw[Bj,en,Bk (λx I=>h x aA),h z af,eV,pn];omega
def aeB:∀{zs},(∀z∈zs,z.cells.length=n)->∀{i j:Nat} {z c:bg},zs[i]?=a_ z->z.cells[j]?=a_ c->(ey zs)[i*n+j]?=a_ c
 |[],_,i,j,z,c,hz,_=>by simp at hz
 |y::r,h,i,j,z,c,hz,T=>by
  have hy:=h y af;cases i with
  |zero=>
   simp at hz;subst hz;rw[Bj,Nat.zero_mul,gF,fE (cJ.1 T).1];exact T
  |succ i=>
   simp at hz;rw[Bj,pn,Ex,fF aa,hy,show i*n+n+j-n=i*n+j by omega];exact aeB (λx I=>h x aA) hz T
def aeC:∀{zs},(∀z∈zs,z.cells.length=n)->∀{k:Nat} {c:bg},(ey zs)[k]?=a_ c->∃i j z,k=i*n+j/\zs[i]?=a_ z/\z.cells[j]?=a_ c
 |[],_,k,c,T=>by simp[ey] at T
 |y::r,h,k,c,T=>by
  have hy:=h y af;rw[Bj] at T
  rcases d_ k n with S|S
  rw[fE aa] at T;exact⟨0,k,y,aa,af,T⟩;rw[fF aa,hy] at T;obtain⟨i,j,z,e,Y,V⟩:=aeC (λx I=>h x aA) T;exact⟨i+1,j,z,by rw[pn];omega,aIV,V⟩
def nc(C:Cells)(M:List Loc)(J:List br)(b o:Nat)(Z:List bg):Prop:=
 ∀(j:Nat) c,Z[j]?=a_ c->∃v,C b (o+j)=a_ v/\bO C M J c v
def nc.mono(bK:cY C M J bI M' bl)(h:nc C M J b o Z):nc bI M' bl b o Z:=
 λj c T=>let⟨v,Y,V⟩:=h j c T;⟨v,bK.C _ _ _ Y,V.mono bK⟩
def nc.append{as bs}(Y:nc C M J b o as)(V:nc C M J b (o+as.length) bs):nc C M J b o (as++bs):=by
 intro j c T
 rcases d_ j as.length with hj|hj
 rw[fE hj] at T;exact Y j c T;rw[fF hj] at T;obtain⟨v,e1,e2⟩:=V _ c T;exact⟨v,by rw[<-e1];congr 1;omega,e2⟩
def nc.drop(h:nc C M J b o Z)(n:Nat):nc C M J b (o+n) (Z.drop n):=by
 intro j c T;rw[sx] at T;obtain⟨v,e1,e2⟩:=h _ c T;exact⟨v,by rw[<-e1];congr 1;omega,e2⟩
def nc.take(h:nc C M J b o Z)(n:Nat):nc C M J b o (Z.take n):=by
 intro j c T;rw[SP] at T;split at T;exact h j c T;cases T
def nc.vals(h:ct G base w0 C M J w)(ha:nc C M J b o Z):
  ∃vs:List Value,dn C M J Z vs/\∀(j:Nat) v,vs[j]?=a_ v->w.cell? ⟨b,o+j,bn⟩=a_ v:=by
 refine⟨(kR Z.length).map λj=>(C b (o+j)).getD undef,⟨af,λi a v e1 e2=>?_⟩,λj v e=>?_⟩;obtain⟨u,Y,V⟩:=ha i a e1;have Q:=(cJ.1 e1).1;simp[Q,Y] at e2;subst e2;exact V;have hj:j<Z.length:=by
  have:=(cJ.1 e).1;simpa using this
 obtain⟨u,Y,V⟩:=ha j Z[j] (cx hj);simp[hj,Y] at e;subst e;exact(h.oo _ _ _ Y).1
def YT{t}(hn:∀z∈zs,z.cells.length=n)(ha:nc C M J b o (ey zs))(hT:uN M J ⟨b,o,bn⟩ zs.length cap n t)(gT:zs.length<=cap):
  bO C M J (.sl zs t) (.slice (a_ ⟨b,o,bn⟩) zs.length cap):=by
 refine .sl (λi j=>(C b (o+i*n+j)).getD undef) (λ_=>rfl) (λi x I=>hn x (cE I)) (λi x j c I T=>?_) (λi x j c I T=>?_) hT gT
 all_goals
  obtain⟨v,Y,V⟩:=ha _ c (aeB hn I T);rw[<-nG] at Y
 show C b (o+i*n+j)=_;rw[Y];rfl;rw[Y];exact V
def RD{t}(hl:len=zs.length)(hn:∀z∈zs,z.cells.length=n)(ha:nc C M J b o (ey zs))(hT:uN M J ⟨b,o,bn⟩ len cap n t)(gT:len<=cap):
  bO C M J (.sl zs t) (.slice (a_ ⟨b,o,bn⟩) len cap):=by
 subst hl;exact YT hn ha hT gT
def MP{t}(h:bO C M J (.sl zs t) (.slice (a_ a) len cap))(hn:∀z∈zs,z.cells.length=n):
  len=zs.length/\nc C M J a.block a.off (ey zs)/\(zs≠[]->a.spot=bn)/\zs.length<=cap:=by
 cases h with
 |sl f gk dG hC hR hT gT=>
  rename_i sz;refine⟨rfl,λk c T=>?_,gk,gT⟩;obtain⟨i,j,z,rfl,hz,iT⟩:=aeC hn T;have:sz=n:=by rw[<-dG i z hz];exact hn z (cE hz)
  subst this;exact⟨f i j,by rw[<-nG];exact hC i z j c hz iT,hR i z j c hz iT⟩
def aAi(h:ct G base w0 C M J w)(cells)(e)(D:dn C M J Z vs)(hv:∀(i:Nat) v,vs[i]?=a_ v->cells[i]?=a_ v):
  cY C M J (C.add w.heap.size 0 vs) M J/\ct G base w0 (C.add w.heap.size 0 vs) M J (w.alloc (.cells cells e))/\nc (C.add w.heap.size 0 vs) M J w.heap.size 0 Z:=by
 obtain⟨bK,hs⟩:=h.U8 cells e vs hv;refine⟨bK,hs,λj c T=>?_⟩;obtain⟨v,Y,V⟩:=D.get T;exact⟨v,by rw[Cells.EM _ _ _ _ _ (cJ.1 Y).1];exact Y,V.mono bK⟩
def iK:bg->Option (List bg)
 |.bp=>a_ []
 |.sl ys _=>a_ ys
 |_=>bn
def mE(Z:List bg)(off:Nat)(us:List bg):List bg:=Z.take off++us++Z.drop (off+us.length)
def c8(n:Nat)(ys:List bg):Bool:=ys.all λy=>y.cells.length==n&&y.cells.all bg.one
def iY(J:List br)(n b6:Nat)(e:TypeId)(s:bg)(ys:List bg):Option (bg×List br):=
 match s with
 |.bp=>if ys.length*b6<=140737488355328 then a_ (.sl ys (.tok J.length),J++[.tok ys.length n e]) else bn
 |.rs k m sz off len=>if sz=n/\off=0/\(len+ys.length)*b6<=140737488355328 then
   match J[k]? with
   |some (.cells Z bh)=>if m=Z.length then a_ (.rs k (mE Z (len*n) (ey ys)).length n 0 (len+ys.length),J.set k (.cells (mE Z (len*n) (ey ys)) bh)) else bn
   |_=>bn
  else bn
 |.sl xs t=>if c8 n xs=bh/\(xs.length+ys.length)*b6<=140737488355328 then
   match t with
   |.exact=>a_ (.sl (xs++ys) (.tok J.length),J++[.tok (xs.length+ys.length) n e])
   |.tok id=>match J[id]? with
    |some (.tok c s' e')=>if c=xs.length/\s'=n/\e'=e then a_ (.sl (xs++ys) (.tok id),J.set id (.tok (xs.length+ys.length) n e)) else bn
    |_=>bn
   |.no=>bn
  else bn
 |_=>bn
def gZ(J:List br)(n b6:Nat)(e:TypeId)(s x:bg):Option (bg×List br):=
 match iK x with
 |none=>bn
 |some ys=>
  if ys=[] then(match s with|.bp|.sl _ _|.rs _ _ _ _ _=>a_ (s,J)|_=>bn)
  else if c8 n ys=bh/\0<n/\0<b6 then iY J n b6 e s ys
  else bn
def eu(J:List br)(n b6:Nat)(e:TypeId)(s x:bg):Option (bg×List br):=
 match s with
 |.rs _ _ _ _ _=>bn
 |s=>gZ J n b6 e s x
def abw{s:bg}{r}(h:eu J n b6 e s x=a_ r):gZ J n b6 e s x=a_ r:=by
 unfold eu at h;split at h;cases h;exact h
def r3(h:c8 n ys=bh):∀z∈ys,z.cells.length=n:=by
 intro z hz;have:=eO.1 h z hz;simp at this;exact this.1
def aAC(h:c8 n ys=bh):(ey ys).all bg.one=bh:=by
 rw[eO];intro c T;simp only[ey,List.mem_flatMap] at T;obtain⟨z,hz,T⟩:=T;have:=eO.1 h z hz;simp at this;exact this.2 c T
def Ya{xs}(Y:c8 n xs=bh)(V:c8 n ys=bh):c8 n (xs++ys)=bh:=by
 unfold c8 at*;rw[aoA,Y,V];rfl
structure G4(P:Program)(t e:TypeId)(n b6:Nat):Prop where
 ht:P.underlying t=a_ (.slice e)
 Q:∃i z,P.info? e=a_ i/\i.size=n/\i.bytes=b6/\i.zero=a_ z/\z.cells.size=n
def QN(O:0<b6)(h:k*b6<=B):k<=B:=gY (Nat.le_mul_of_pos_right k O) h
def RT(z)(n:Nat):(AM z n).size=n*z.size:=by simp[AM]
def grownCap_le(w)(akp old:Nat)(e):akp<=grownCap w akp old e:=by unfold grownCap;simp[Question.cut]
def aBY(h:off<=Z.length):(mE Z off us).length=max Z.length (off+us.length):=by
 unfold mE;simp only[en,Cs,y5];omega
def aBX(h:off<=Z.length)(i:Nat):(mE Z off us)[i]?=if i<off then Z[i]? else if i<off+us.length then us[i-off]? else Z[i]? :=by
 unfold mE;have Y:(Z.take off).length=off:=ah
 by_cases c1:i<off;rw[if_pos c1,dU,fE aa,Cr c1];rw[if_neg c1,dU,fF aa,Y];by_cases c2:i<off+us.length;rw[if_pos c2,fE aa];rw[if_neg c2,fF aa,sx];congr 1;omega
def aC_(w)(t tx ty e)(i)(z)(ht:P.underlying t=a_ (.slice e))(Q:P.info? e=a_ i)(hz:i.zero=a_ z)(hs:Src P i.size tx x' m news w)
  (h0:0<m) (Fh:(m:Int)<=9223372036854775807) (atq:m*i.bytes<=281474976710656):
  (vL #[t,tx] ty #[.slice bn 0 0,x']).run P w=.ok (.slice (a_ ⟨w.heap.size,0,bn⟩) m (grownCap w m 0 e)) (w.drew.alloc (.cells (news.toArray++AM z.cells (grownCap w m 0 e-m)) e)):=by
 have:=run_append_grow_src w t tx ty e i z ht Q hz bn 0 0 [] (run_firstCells_none w.drew i.size 0 0 0) x' m news hs aa aa (by rw[gF,nextslicecap_zero h0];exact atq);simpa using this
def amW(w)(t tx ty e)(i)(z)(ht:P.underlying t=a_ (.slice e))(Q:P.info? e=a_ i)(hz:i.zero=a_ z)(b)(w_ GB:Nat)(kN:List Value)(ox:kN.length=w_*i.size)
  (holds:∀j u,kN[j]?=a_ u->w.cell? (b.add j)=a_ u) (hs:Src P i.size tx x' m news w) (hg:GB<w_+m) (Fh:((w_+m:Nat):Int)<=9223372036854775807) (hfit:Builtin.nextslicecap (w_+m) GB*i.bytes<=281474976710656):
  (vL #[t,tx] ty #[.slice (a_ b) w_ GB,x']).run P w=.ok (.slice (a_ ⟨w.heap.size,0,bn⟩) (w_+m) (grownCap w (w_+m) GB e))
    (w.drew.alloc (.cells (kN.toArray++news.toArray++AM z.cells (grownCap w (w_+m) GB e-(w_+m))) e)):=by
 have:=run_append_grow_src w t tx ty e i z ht Q hz (a_ b) w_ GB kN (run_firstCells_some w.drew i.size w_ b w_ GB kN ox (by simpa using holds)) x' m news hs hg Fh hfit;simpa using this
def ae4{tx:TypeId}(hE:G4 P t e n b6)(h:ct G base w0 C M J w){s:bg}(hs:bO C M J s s')(rT:c8 n ys=bh)(oy:0<n)(lq:0<b6)(bR:ys≠[])
  (qU:dn C M J (ey ys) news) (ye:∀i,P.info? e=a_ i->Src P i.size tx x' ys.length news w)
  (s6:e≠5\/∀v∈news,vB v=bf) (D:iY J n b6 e s ys=a_ (r,bl)):gv G base w0 C M J P (vL #[t,tx] ty #[s',x']) w r bl:=by
 obtain⟨ht,i,z,Q,kL,wJ,hz,Am⟩:=hE;have ye:=ye i Q;have ud:=ye.newsLen
 have avV:0<ys.length:=aHX
 unfold iY at D;split at D;split at D;rename_i hfit;cases D;cases hs;have Wj:=QN lq hfit;have eT:=aC_ (P:=P) w t tx ty e i z ht Q hz ye avV aa (by rw[wJ];omega);have hg:=grownCap_le w ys.length 0 e;have FD:news.length=ys.length*n:=by rw[ud,kL]
 have Df:∀(i':Nat) v,news[i']?=a_ v->(news.toArray++AM z.cells (grownCap w ys.length 0 e-ys.length))[i']?=a_ v:=by
  intro i' v hv;have hl:=(cJ.1 hv).1;rw[aaa aJ];simpa using hv
 obtain⟨bK,ez⟩:=h.drew.XV (news.toArray++AM z.cells (grownCap w ys.length 0 e-ys.length)) e news Df ys.length n (grownCap w ys.length 0 e*n)
  (by rw[FD];exact pq n hg) FD (by simp only[aab,RT,Am,aaI,FD,<-pn];exact pq n aa)
 refine⟨_,_,_,_,eT,bK,ez,?_⟩;refine YT (r3 rT) ?_ ?_ hg;intro j c T;obtain⟨v,e1,e2⟩:=qU.get T;exact⟨v,by rw[aax,Cells.EM _ _ _ _ _ (cJ.1 e1).1];exact e1,e2.mono bK⟩;refine⟨ys.length,n,e,{b:=w.heap.size,fin:=news.length,cap:=grownCap w ys.length 0 e*n},af,aK,ck _,bF rfl,λ_=>⟨rfl,rfl,?_,?_⟩⟩;simp[FD];simp;cases D;rename_i k m sz off len;split at D;rename_i Dd;obtain⟨rfl,rfl,hfit⟩:=Dd;split at D;rename_i Z O;split at D;rename_i hm;cases D;cases hs with
 |rs hb' hM qQ fO ha=>
  rename_i cap L cs' sa;rw[O] at hb';cases hb';obtain⟨rfl,a2,a3,a4⟩:=ha hm;simp only[gF] at a2 a3 a4;have Wj:=QN lq hfit;obtain⟨t1,t2,t3,ZB,D_,uy,anE⟩:=h.cells k Z bh L O hM;have kK:=Bk (r3 rT);have FD:news.length=ys.length*sz:=by rw[ud,kL]
  have VI:len*sz+ys.length*sz=(len+ys.length)*sz:=(pn _ _ _).symm;have Il:(mE Z (len*sz) (ey ys)).length=max Z.length ((len+ys.length)*sz):=by rw[aBY a2,kK,VI]
  by_cases Bx:len+ys.length<=cap;have aGh:(len+ys.length)*sz<=cap*sz:=pq _ Bx;have eT:=run_append_room_src (P:=P) w t tx ty e i ht Q L.b 0 len cap x' ys.length news ye Bx
   (λj hj=>by rw[kL,gF];obtain⟨v,hv⟩:=uy (len*sz+j) aa;rw[hv];rfl)
   (λj hj=>ZB _)
  rw[kL,gF] at eT;have atG:M.set k L=M:=by
   apply Et;intro j;by_cases e:k=j;subst e;rw[bV (cJ.1 hM).1,hM];rw[bC e]
  have bK:cY C M J C M (J.set k (.cells (mE Z (len*sz) (ey ys)) bh)):=by
   have:=cY.afg (C:=C) (bI:=C) (M:=M) (L':=L) (λ_ _ _ h=>h) O h.fJ (by
    rw[Il]
    rcases d_ Z.length ((len+ys.length)*sz) with q|q
    exact bD aa;exact bF ⟨aa,hM⟩)
   rwa [atG] at this
  have ez:=h.am_ O hM (len*sz) (ey ys) news qU bK (bF aa) (aBX a2);refine⟨_,_,_,_,eT,bK,ez,?_⟩;refine .rs (by rw[bV (cJ.1 O).1]) hM (ck _) Bx λ_=>⟨rfl,?_,?_,?_⟩;rw[Il];omega;rw[Il];omega;omega;have jq:Z.length<(len+ys.length)*sz:=by
   have:(cap+1)*sz<=(len+ys.length)*sz:=pq _ aa;rw[pn] at this;omega
  have hg:=grownCap_le w (len+ys.length) cap e;have auz:(len+ys.length)*sz<=grownCap w (len+ys.length) cap e*sz:=pq _ hg;obtain⟨kN,oz,Lg⟩:∃kN:List Value,dn C M J (Z.take (len*sz)) kN/\∀(j:Nat) v,kN[j]?=a_ v->w.cell? ⟨L.b,j,bn⟩=a_ v:=by
   refine⟨(kR (len*sz)).map λj=>(w.cell? ⟨L.b,j,bn⟩).getD undef,⟨ah,λj a b ha O=>?_⟩,λj v hj=>?_⟩;have lz:j<len*sz:=by have:=(cJ.1 O).1;simpa using this
   rw[Cr lz] at ha;obtain⟨c',b1,b2⟩:=t3 j a ha;simp[lz,b1] at O;subst O;exact b2;have lz:j<len*sz:=by have:=(cJ.1 hj).1;simpa using this
   obtain⟨c',b1,b2⟩:=t3 j Z[j] (cx aa);simp[lz,b1] at hj;subst hj;exact b1
  have ox:kN.length=len*i.size:=by rw[<-oz.1,kL];simp;omega
  have eT:=amW (P:=P) w t tx ty e i z ht Q hz ⟨L.b,0,bn⟩ len cap kN ox (λj v hj=>by rw[addr_add,gF];exact Lg j v hj) ye aa aa (growslice_fits aa (by rw[wJ];exact hfit));have nw:dn C M J (mE Z (len*sz) (ey ys)) (kN++news):=by
   have e0:mE Z (len*sz) (ey ys)=Z.take (len*sz)++ey ys:=by
    unfold mE;rw[List.drop_eq_nil_of_le aa,hJ]
   rw[e0];refine⟨by rw[en,en,oz.1,qU.1],λq u v hu hv=>?_⟩
   rcases d_ q (Z.take (len*sz)).length with S|S
   rw[fE S] at hu;rw[fE aIz] at hv;exact oz.2 q u v hu hv;rw[fF S] at hu;rw[fF aIz,<-oz.1] at hv;exact qU.2 _ u v hu hv
  obtain⟨bK,ez⟩:=h.drew.azX (kN.toArray++news.toArray++AM z.cells (grownCap w (len+ys.length) cap e-(len+ys.length))) e (mE Z (len*sz) (ey ys)) (kN++news) nw
   (λi' v hv=>by
     have hl:=(cJ.1 hv).1;rw[aaa aJ];simpa using hv) (cap:=grownCap w (len+ys.length) cap e*sz) (by
     simp only[aab,RT,Am,aaI];rw[ox,ud,kL,<-pn,<-pn];exact pq sz aa) O (by rw[Il];omega)
  refine⟨_,_,_,_,eT,bK,ez,?_⟩;have eS:=(cJ.1 O).1;refine .rs (by rw[bV eS]) (by rw[bV (by rw[h.fJ];exact eS)]) (ck _) hg λ_=>⟨rfl,?_,?_,?_⟩;rw[Il];omega;rw[Il];omega;simp
 cases D;cases D;cases D;rename_i xs tl;split at D
 · rename_i LM
   obtain⟨Ir,hfit⟩:=LM;have Wj:=QN lq hfit
   cases s'<;>first|(cases hs;done)|skip
   rename_i b l cp;cases b with
   |none=>cases hs
   |some sa=>
    have FL:=hs;obtain⟨e1,jF,Dz,gT⟩:=MP hs (r3 Ir);subst e1;obtain⟨kN,oz,Lg⟩:=jF.vals h;have ox:kN.length=xs.length*i.size:=by rw[<-oz.1,Bk (r3 Ir),kL]
    have aud:∀(j:Nat) v,kN[j]?=a_ v->w.cell? (sa.add j)=a_ v:=λj v hj=>by
     obtain⟨sb,bJ,aDa⟩:=sa;have avR:xs≠[]:=by
      intro e;subst e;have:=(cJ.1 hj).1;rw[ox] at this;simp at this
     have:=Dz avR;subst this;rw[addr_add];exact Lg j v hj
    have nw:dn C M J (ey (xs++ys)) (kN++news):=by
     rw[aez];refine⟨by rw[en,en,oz.1,qU.1],λk u v hu hv=>?_⟩
     rcases d_ k (ey xs).length with S|S
     rw[fE S] at hu;rw[fE aIz] at hv;exact oz.2 k u v hu hv;rw[fF S] at hu;rw[fF aIz,<-oz.1] at hv;exact qU.2 _ u v hu hv
    have Ih:(kN++news).length=(xs.length+ys.length)*n:=by rw[en,ox,ud,kL,<-pn]
    have grow:=λcp Ft=>
     amW (P:=P) w t tx ty e i z ht Q hz sa xs.length cp kN ox aud ye Ft aa (growslice_fits Ft (by rw[wJ];exact hfit))
    have Df:∀cp,∀(i':Nat) v,(kN++news)[i']?=a_ v->(kN.toArray++news.toArray++AM z.cells (grownCap w (xs.length+ys.length) cp e-(xs.length+ys.length)))[i']?=a_ v:=by
     intro cp i' v hv;have hl:=(cJ.1 hv).1;rw[aaa aJ];simpa using hv
    have afM:∀cp,grownCap w (xs.length+ys.length) cp e*n<=(kN.toArray++news.toArray++AM z.cells (grownCap w (xs.length+ys.length) cp e-(xs.length+ys.length))).size:=by
     intro cp;have:=grownCap_le w (xs.length+ys.length) cp e;simp only[aab,RT,Am,aaI];rw[ox,ud,kL,<-pn,<-pn];exact pq n aa
    have afE:∀{bI:Cells} {M':List Loc} {Bw:List br},cY C M J bI M' Bw->(∀j,j<(kN++news).length->bI w.heap.size (0+j)=(kN++news)[j]?)->nc bI M' Bw w.heap.size 0 (ey (xs++ys)):=by
     intro bI M' Bw bK T j Ug Fq;obtain⟨v,e1,e2⟩:=nw.get Fq;exact⟨v,by rw[T j (cJ.1 e1).1];exact e1,e2.mono bK⟩
    have c7:(xs++ys).length=xs.length+ys.length:=en;split at D;cases D;cases hs with
    |sl f gk dG hC hR hT H_=>
     have Ft:=hT;subst Ft;have hg:=grownCap_le w (xs.length+ys.length) xs.length e;obtain⟨bK,ez⟩:=h.drew.XV _ e (kN++news) (Df xs.length) (xs.length+ys.length) n (grownCap w (xs.length+ys.length) xs.length e*n)
      (by rw[Ih];exact pq n hg) Ih (afM xs.length)
     refine⟨_,_,_,_,grow xs.length aa,bK,ez,?_⟩;refine RD c7.symm (r3 (Ya Ir rT)) (afE bK (λj hj=>by rw[aax,Cells.EM _ _ _ _ _ hj])) ?_ hg;refine⟨xs.length+ys.length,n,e,{b:=w.heap.size,fin:=(kN++news).length,cap:=grownCap w (xs.length+ys.length) xs.length e*n},af,aK,ck _,bF rfl,λ_=>⟨rfl,rfl,?_,?_⟩⟩;rw[Ih];simp;simp
    rename_i id;split at D;rename_i Ug s2 e2 hid;split at D;rename_i aue;obtain⟨rfl,rfl,z1⟩:=aue;rw[z1] at hid;cases D;cases hs with
    |sl f gk dG hC hR hT H_=>
     obtain⟨n1,s1,lZ,L,q1,bt,bT,fh,iO⟩:=hT;rw[hid] at q1;cases q1;obtain⟨p1,p2,p3,jj⟩:=iO rfl;obtain⟨sb,bJ,aDa⟩:=sa;have:=p1;subst this;have Wy:=p2;subst Wy;simp only at p3 jj;by_cases Bx:xs.length+ys.length<=cp;have aup:L.fin+news.length<=L.cap:=by
      rw[<-p3,<-jj,ud,kL,nG,<-pn];exact aoS (pq _ Bx) bJ
     obtain⟨t1,t2,t3,t4,t5,t6⟩:=h.toks id xs.length s2 e L hid bt;have eT:=run_append_room_src (P:=P) w t tx ty e i ht Q L.b bJ xs.length cp x' ys.length news ye Bx
      (λj hj=>by rw[kL,p3];obtain⟨⟨v,hv⟩,_⟩:=t5 (L.fin+j) aa aa;rw[hv];rfl)
      (λj hj=>by rw[kL,p3];exact(t5 (L.fin+j) aa aa).2)
     rw[kL,p3] at eT;obtain⟨bK,ez⟩:=h.atk news hid bt (n':=xs.length+ys.length) aa (by rw[t3.2.1,pn,ud,kL]) s6 aup;refine⟨_,_,_,_,eT,bK,ez,?_⟩;refine RD c7.symm (r3 (Ya Ir rT)) ?_ ?_ Bx;rw[aez];refine nc.append (jF.mono bK) ?_;rw[Bk (r3 Ir),p3];intro j Ug Fq;obtain⟨v,e1,e2⟩:=qU.get Fq;exact⟨v,by rw[Cells.EM _ _ _ _ _ (cJ.1 e1).1];exact e1,e2.mono bK⟩;have Lu:=(cJ.1 hid).1;refine⟨xs.length+ys.length,s2,e,{L with fin:=L.fin+news.length},by rw[bV Lu],by rw[bV (by rw[h.fJ];exact Lu)],ck _,bF rfl,λ_=>⟨rfl,rfl,?_,jj⟩⟩
     show bJ+(xs.length+ys.length)*s2=L.fin+news.length;rw[<-p3,ud,kL,nG,<-pn];have hg:=grownCap_le w (xs.length+ys.length) cp e;obtain⟨bK,ez⟩:=h.drew.azY _ e (kN++news) (Df cp) hid (n':=xs.length+ys.length) aa
      (by rw[Ih];exact pq _ hg) Ih (afM cp)
     refine⟨_,_,_,_,grow cp aa,bK,ez,?_⟩;refine RD c7.symm (r3 (Ya Ir rT)) (afE bK (λj hj=>by rw[aax,Cells.EM _ _ _ _ _ hj])) ?_ hg;have Lu:=(cJ.1 hid).1;refine⟨xs.length+ys.length,s2,e,{b:=w.heap.size,fin:=(kN++news).length,cap:=grownCap w (xs.length+ys.length) cp e*s2},by rw[bV Lu],by rw[aax,bV (by rw[h.fJ];exact Lu)],ck _,bF rfl,λ_=>⟨rfl,rfl,?_,?_⟩⟩;rw[Ih];simp;simp
    cases D;cases D;cases D
 cases D;cases D
def agX:∀l:List (IntKind×Int),ey (l.map λp=>bg.v (.int p.1 p.2))=l.map λp=>bg.v (.int p.1 p.2)
 |[]=>rfl
 |c::r=>by
  have:=agX r;simp only[ey,fM,List.flatMap_cons] at this⊢;rw[this];rfl
def PE(hE:G4 P t e n b6)(h5:e≠5\/∃l:List (IntKind×Int),iK x=a_ (l.map λp=>.v (.int p.1 p.2)))(h:ct G base w0 C M J w){s:bg}(hs:bO C M J s s')(I:bO C M J x x')
  (D:gZ J n b6 e s x=a_ (r,bl)):gv G base w0 C M J P (vL #[t,t] ty #[s',x']) w r bl:=by
 obtain⟨ht,i,z,Q,kL,wJ,hz,Am⟩:=hE;unfold gZ at D;split at D;cases D;rename_i ys pS;split at D;rename_i LI;subst LI;have Iz:∃a c,x'=.slice a 0 c:=by
  unfold iK at pS;split at pS;cases I;exact⟨_,_,rfl⟩;cases pS;cases I;exact⟨_,_,rfl⟩;cases pS
 obtain⟨a,c,rfl⟩:=Iz;have Lq:∀w,(aag n 0 (.slice a 0 c)).run P w=.ok #[] w:=by
  intro w;cases a with
  |none=>simp[aag]
  |some a=>simp[aag,loadCells,loadCellsFrom]
 have key:∀b m cp,m<=cp->(vL #[t,t] ty #[.slice b m cp,.slice a 0 c]).run P w=.ok (.slice b m cp) w:=by
  intro b m cp hm;cases b with
  |none=>simp[vL,run_underlying ht,sizeOf,typeInfo,Q,kL,aah,hm,Lq]
  |some b=>simp[vL,run_underlying ht,sizeOf,typeInfo,Q,kL,aah,hm,Lq,storeCells]
 split at D;cases D;cases hs;exact .same h (key _ _ _ (ck _)) .bp;cases D;have FL:=hs;cases hs with
 |sl f gk dG hC hR hT gT=>exact .same h (key _ _ _ gT) FL
 cases D;have FL:=hs;cases hs with
 |rs O hM hn fO ha=>exact .same h (key _ _ _ fO) FL
 cases D;rename_i bR;split at D;rename_i fG;obtain⟨rT,oy,lq⟩:=fG;obtain⟨a,c,oB,La,at1⟩:∃(a:Addr) (c:Nat),x'=.slice (a_ a) ys.length c/\nc C M J a.block a.off (ey ys)/\a.spot=bn:=by
  unfold iK at pS;split at pS;cases pS;exact(bR rfl).elim
  · cases pS
    cases x'<;>first|(cases I;done)|skip
    rename_i b l cp;cases b with
    |none=>cases I
    |some a=>
     obtain⟨e1,e2,dc,eL⟩:=MP I (r3 rT);exact⟨a,cp,by rw[e1],e2,dc bR⟩
  cases pS
 subst oB;obtain⟨ab,ao,Ba⟩:=a;have:=at1;subst this;obtain⟨news,qU,zY⟩:=La.vals h;have ud:news.length=ys.length*i.size:=by rw[<-qU.1,Bk (r3 rT),kL]
 have atp:=qU.qI (aAC rT);have auc:∀(j:Nat) v,news[j]?=a_ v->w.cell? ((⟨ab,ao,bn⟩:Addr).add j)=a_ v:=λj v hj=>by rw[addr_add];exact zY j v hj
 have jX:=Q;exact ae4 ⟨ht,i,z,Q,kL,wJ,hz,Am⟩ h hs rT oy lq bR qU (λi' afY=>by rw[Q] at afY;cases afY;exact Src.ofSlice w ht ⟨ab,ao,bn⟩ ys.length c news ud auc atp) (h5.imp (λz=>z) λ⟨l,q⟩ v hv=>by
  rw[pS] at q;cases q;rw[agX] at qU;obtain⟨j,hj,rfl⟩:=Eu hv;have sX:j<l.length:=by have:=qU.1;rw[List.length_map] at this;omega
  have:=qU.2 j _ _ (List.getElem?_eq_getElem (by rw[List.length_map];exact sX)) (List.getElem?_eq_getElem hj);rw[List.getElem_map] at this;generalize news[j]=u at this⊢;cases this;rfl) D
 cases D
def WV:bg->Bool
 |.v (.int _ _)=>bh
 |_=>bf
def EL(J:List br)(b6:Nat)(e:TypeId)(s x:bg):Option (bg×List br):=
 match x with
 |.sl ys _=>if ys.all WV=bh then eu J 1 b6 e s x else bn
 |_=>bn
def agY:∀{ys:List bg},ys.all WV=bh->∃l:List (IntKind×Int),ys=l.map λp=>.v (.int p.1 p.2)
 |[],_=>⟨[],rfl⟩
 |y::r,h=>by
  rw[oJ,fA] at h;obtain⟨l,rfl⟩:=agY h.2;have Y:=h.1;unfold WV at Y;split at Y;exact⟨(_,_)::l,rfl⟩;cases Y
def asK(hE:G4 P t e 1 b6)(h:ct G base w0 C M J w){s:bg}(hs:bO C M J s s')(I:bO C M J x x')
  (D:EL J b6 e s x=a_ (r,bl)):gv G base w0 C M J P (vL #[t,t] ty #[s',x']) w r bl:=by
 unfold EL at D;split at D;split at D;rename_i q;obtain⟨l,rfl⟩:=agY q;exact PE hE (.inr ⟨l,rfl⟩) h hs I (abw D);cases D;cases D
def EV(b:ByteArray):List bg:=b.data.toList.map λc=>.v (.int .u8 c.toNat)
def acN(b):(EV b).length=b.size:=by
 unfold EV;rw[dj,aob];rfl
def acM:∀l:List UInt8,ey (l.map λc=>bg.v (.int .u8 c.toNat))=l.map λc=>bg.v (.int .u8 c.toNat)
 |[]=>rfl
 |c::r=>by
  have:=acM r;simp only[ey,fM,List.flatMap_cons] at this⊢;rw[this];rfl
def A8(J:List br)(b6:Nat)(e:TypeId)(s x:bg):Option (bg×List br):=
 match x with
 |.v (.string b)=>if b.size=0 then(match s with|.bp|.sl _ _=>a_ (s,J)|_=>bn)
  else match s with
   |.bp|.sl _ _=>if 0<b6 then iY J 1 b6 e s (EV b) else bn
   |_=>bn
 |_=>bn
def asM{u}(hE:G4 P t e 1 b6)(hu:P.underlying u=a_ .string)(h:ct G base w0 C M J w){s:bg}(hs:bO C M J s s')(I:bO C M J x x')
  (D:A8 J b6 e s x=a_ (r,bl)):gv G base w0 C M J P (vL #[t,u] ty #[s',x']) w r bl:=by
 have oq:=hE;obtain⟨ht,i,z,Q,kL,wJ,hz,Am⟩:=hE;unfold A8 at D;split at D;rename_i b;cases I;split at D;rename_i h0;have Lq:∀w,(aag 1 0 (.string b)).run P w=.ok #[] w:=by
  intro w;have:=firstCells_string (P:=P) b w;have O:=nF (by rw[byteCells_length,h0])
  rwa [h0,O] at this
 have key:∀b' m cp,m<=cp->(vL #[t,u] ty #[.slice b' m cp,.string b]).run P w=.ok (.slice b' m cp) w:=by
  intro b' m cp hm;cases b' with
  |none=>simp[vL,run_underlying ht,run_underlying hu,sizeOf,typeInfo,Q,kL,aah,h0,hm,Lq]
  |some b'=>simp[vL,run_underlying ht,run_underlying hu,sizeOf,typeInfo,Q,kL,aah,h0,hm,Lq,storeCells]
 split at D;cases D;cases hs;exact .same h (key _ _ _ (ck _)) .bp;cases D;have FL:=hs;cases hs with
 |sl f gk dG hC hR hT gT=>exact .same h (key _ _ _ gT) FL
 cases D;rename_i h0;have fin:∀{r:bg},0<b6->iY J 1 b6 e s (EV b)=a_ (r,bl)->gv G base w0 C M J P (vL #[t,u] ty #[s',.string b]) w r bl:=by
  intro r lq D;refine ae4 oq h hs (news:=aoz b) ?_ ag lq ?_ ?_ (λi' jX=>?_) (.inr λv hv=>by
   obtain⟨c,_,rfl⟩:=dZ.1 hv;rfl) D
  unfold c8;rw[eO];intro x I;unfold EV at I;obtain⟨c,_,rfl⟩:=dZ.1 I;rfl;intro q;have:=acN b;rw[q] at this;exact h0 this.symm;unfold EV;rw[acM];refine⟨by simp[aoz],λi x y I hy=>?_⟩;simp only[aoz,fL] at I hy;cases hq:b.data.toList[i]? with
  |none=>rw[hq] at I;cases I
  |some c=>
   rw[hq] at I hy;cases I;cases hy;exact .v rfl
  rw[Q] at jX;cases jX;rw[kL,acN];exact Src.ofString w hu b
 split at D;split at D;rename_i q;exact fin q D;cases D;split at D;rename_i q;exact fin q D;cases D;cases D;cases D
end
section
variable{G:Cells}{base:Nat}{w0:kD}{w:World}{C:Cells}{M:List Loc}{J:List br}{P:Program}
def j6(top arA:Nat):Option Int->Option Nat
 |some v=>if 0<=v/\v<=top then a_ v.toNat else bn
 |none=>a_ arA
def oC:Option bg->Option (Option Int)
 |none=>a_ bn
 |some (.v (.int _ i))=>a_ (a_ i)
 |_=>bn
def mj(len cap:Nat)(lo Q mx:Option Int):Option (Nat×Nat×Nat):=
 match j6 cap cap mx with
 |none=>bn
 |some m=>if mx.isSome&&Q.isNone then bn else
  match j6 m len Q with
  |none=>bn
  |some h=>match j6 h 0 lo with
   |none=>bn
   |some l=>a_ (l,h,m)
def CD(C:Cells)(M:List Loc)(J:List br):Option bg->Option Value->Prop
 |none,bn=>True
 |some a,a_ b=>bO C M J a b
 |_,_=>False
def Mt{a}{b}(h:CD C M J a b)(Q:oC a=a_ i):(b=bn/\i=bn)\/∃k n,b=a_ (.int k n)/\i=a_ n:=by
 unfold oC at Q;split at Q;cases Q;cases b with
 |none=>exact bD ⟨rfl,rfl⟩
 |some b=>exact h.elim
 cases Q;cases b with
 |none=>exact h.elim
 |some b=>cases h;exact bF ⟨_,_,rfl,rfl⟩
 cases Q
def B4{k}{n:Int}{r:Nat}(code)(h:j6 top d (a_ n)=a_ r)(w):(Instr.sliceBound (.int k n) top code).run P w=.ok r w:=by
 unfold j6 at h;simp only at h;split at h;rename_i O;cases h;exact run_sliceBound w k n top code O.1 O.2;cases h
def T6{r:Nat}(hd:d<=top)(h:j6 top d i=a_ r):r<=top:=by
 unfold j6 at h;split at h;split at h;cases h;omega;cases h;cases h;exact hd
def RM{isSlice:Bool}{HE:Nat}{lo Q mx}{yl jX uf}{l h:Nat}(ox:(lo=bn/\yl=bn)\/∃k n,lo=a_ (.int k n)/\yl=a_ n)
  (x7:(Q=bn/\jX=bn)\/∃k n,Q=a_ (.int k n)/\jX=a_ n) (Ds:(mx=bn/\uf=bn)\/∃k n,mx=a_ (.int k n)/\uf=a_ n) (fO:len<=cap) (Fq:cap<=HE)
  (O:mj len cap yl jX uf=a_ (l,h,m)) (w:World):
  (aoj isSlice len HE lo Q mx).run P w=.ok (l,h,if uf.isSome then m else HE) w/\l<=h/\h<=m/\m<=cap/\(uf=bn->m=cap):=by
 unfold mj at O;split at O;cases O;rename_i aG1 hm;split at O;cases O;rename_i ja;split at O;cases O;rename_i aGM hh;split at O;cases O;rename_i aGW hl;cases O;have T5:∀{top ZG d r:Nat} {n:Int},top<=ZG->j6 top d (a_ n)=a_ r->j6 ZG d (a_ n)=a_ r:=by
  intro top ZG d r n ht hq;unfold j6 at hq⊢;simp only at hq⊢;split at hq;rename_i q;rw[if_pos ⟨q.1,aa⟩];exact hq;cases hq
 have af_:=T6 (jR _) hl
 rcases Ds with⟨rfl,rfl⟩|⟨km,nm,rfl,rfl⟩
 have oY:m=cap:=by cases hm;rfl
 subst oY;have V7:=T6 fO hh;refine⟨?_,af_,V7,ck _,λ_=>rfl⟩;unfold aoj
 rcases x7 with⟨rfl,rfl⟩|⟨kh,XY,rfl,rfl⟩<;>rcases ox with⟨rfl,rfl⟩|⟨kl,nl,rfl,rfl⟩
 cases hh;cases hl;simp;cases hh;simp[B4 (P:=P) _ hl];cases hl;simp[B4 (P:=P) _ (T5 Fq hh)];simp[B4 (P:=P) _ (T5 Fq hh),B4 (P:=P) _ hl]
 rcases x7 with⟨rfl,rfl⟩|⟨kh,XY,rfl,rfl⟩
 simp at ja;have V7:h<=m:=by
  unfold j6 at hh;simp only at hh;split at hh;cases hh;omega;cases hh
 refine⟨?_,af_,V7,T6 (ck _) hm,λq=>av⟩;unfold aoj;have Ag:=T5 (d:=cap) (r:=m) Fq (by unfold j6 at hm⊢;exact hm);have agc:j6 HE HE (a_ nm)=a_ m:=by unfold j6 at Ag⊢;exact Ag
 rcases ox with⟨rfl,rfl⟩|⟨kl,nl,rfl,rfl⟩
 cases hl;simp[B4 (P:=P) _ agc,B4 (P:=P) _ hh];simp[B4 (P:=P) _ agc,B4 (P:=P) _ hh,B4 (P:=P) _ hl]
def D9(t:n_)(len l h m:Nat)(mx:Bool):n_:=
 if mx then(if m=h then .exact else .no)
 else if h=len then(if l=0 then t else match t with|.exact=>.exact|_=>.no) else .no
def mQ(n:Nat)(x:bg)(lo Q mx:Option bg):Option bg:=
 match oC lo,oC Q,oC mx with
 |some l',a_ h',a_ m'=>match x with
  |.bp=>match mj 0 0 l' h' m' with
   |some _=>a_ .bp
   |none=>bn
  |.sl xs t=>match mj xs.length xs.length l' h' m' with
   |some (l,h,m)=>if xs.all (λx=>x.cells.length==n) then a_ (.sl ((xs.take h).drop l) (D9 t xs.length l h m m'.isSome)) else bn
   |none=>bn
  |.rs k m sz off len=>if sz=n/\m'.isNone then match mj len len l' h' bn with
   |some (l,h,_)=>if l=0 then a_ (.rs k m n off h) else if l<len then a_ (.rs k m n (off+l*n) (h-l)) else a_ (.sl [] .no)
   |none=>bn
   else bn
  |.v (.string s)=>if mx.isSome then bn else match mj s.size s.size l' h' bn with
   |some (l,h,_)=>a_ (.v (.string (s.extract l h)))
   |none=>bn
  |_=>bn
 |_,_,_=>bn
def aeD:∀{zs},(∀z∈zs,z.cells.length=n)->∀k,ey (zs.take k)=(ey zs).take (k*n)
 |[],_,k=>by simp[ey]
 |z::r,h,k=>by
  cases k with
  |zero=>simp[ey]
  |succ k=>
   rw[AW,Bj,Bj,aeD (λx I=>h x aA),pn,Ex,List.take_append,h z af,show k*n+n-n=k*n by omega,
    n6 (l:=z.cells) (by rw[h z af];omega)]
def aeA:∀{zs},(∀z∈zs,z.cells.length=n)->∀k,ey (zs.drop k)=(ey zs).drop (k*n)
 |[],_,k=>by simp[ey]
 |z::r,h,k=>by
  cases k with
  |zero=>simp
  |succ k=>
   rw[AT,Bj,aeA (λx I=>h x aA),pn,Ex,List.drop_append,h z af,show k*n+n-n=k*n by omega,
    vO (l:=z.cells) (by rw[h z af];omega),gV]
def asN(ht:P.underlying t=a_ (.slice e))(hn:jv P e=a_ n)(h:ct G base w0 C M J w)(I:bO C M J x x')
  (ox:CD C M J lo yl) (x7:CD C M J Q jX) (Ds:CD C M J mx uf) (yb:∀s,x≠.v (.string s)) (D:mQ n x lo Q mx=a_ r):gv G base w0 C M J P (GR t x' yl jX uf) w r J:=by
 unfold mQ at D;split at D;rename_i l₁ av1 Q7 el eh em;have cC:=Mt ox el;have ch:=Mt x7 eh;have uU:=Mt Ds em;split at D;split at D;rename_i q hq;obtain⟨l,hh,m⟩:=q;cases D;cases I;obtain⟨eT,c1,c2,c3,c4⟩:=RM (P:=P) (isSlice:=bh) cC ch uU (ck 0) (ck 0) hq w;have hm:m=0:=aa
 have hl:l=0:=aa
 have Ls:hh=0:=aa
 subst hm;subst hl;subst Ls;refine .same h ?_ .bp;simp[GR,Ny,run_underlying ht,eT,p0 hn];cases D;rename_i xs tl;split at D;rename_i l hh m hq;split at D
 · rename_i lT
   cases D;have K_:∀z∈xs,z.cells.length=n:=by
    intro z hz;have:=eO.1 lT z hz;simpa using this
   cases x'<;>first|(cases I;done)|skip
   rename_i b len cap;cases b with
   |none=>cases I
   |some a=>
    obtain⟨e1,jF,Dz,gT⟩:=MP I K_;subst e1;obtain⟨eT,c1,c2,c3,c4⟩:=RM (P:=P) (isSlice:=bh) cC ch uU (ck _) gT hq w;refine⟨C,M,_,w,aIv,cY.refl _ _ _,h,?_⟩;have c7:((xs.take hh).drop l).length=hh-l:=ah
    generalize hM:(if Q7.isSome=bh then m else cap)=m';have Ag:hh<=m':=by rw[<-hM];split<;>omega
    by_cases nv:m'=l;rw[if_pos nv];have V6:hh=l:=aa
    subst V6;have he:(xs.take hh).drop hh=[]:=by apply nF;omega
    rw[he,nv,lM];refine .sl (xs:=[]) (sz:=n) (λ_ _=>undef) (λq=>(q rfl).elim) (λi x I=>aG) (λi x j c I=>aG) (λi x j c I=>aG) ?_ (ck _);unfold D9;split;split<;>simp[uN];rename_i Ik;simp only[Ik,kz,if_false] at hM;split;rename_i afX;split;rename_i ve;have Iz:xs=[]:=by apply nF;omega
    subst Iz;cases I with
    |sl f gk dG hC hR hT H_=>
     cases tl with
     |exact=>simp[uN]
     |no=>simp[uN]
     |tok id=>
      obtain⟨n1,s1,lZ,L,q1,bt,bT,fh,iO⟩:=hT;refine⟨n1,s1,lZ,L,q1,bt,bT,bD rfl,λq=>?_⟩;obtain⟨p1,p2,p3,jj⟩:=iO q;refine⟨p1,p2,p3,?_⟩;have:cap=0:=aa
      rw[this] at jj;simpa using jj
    split<;>simp[uN];simp[uN];rw[if_neg nv];have aGw:l<m':=aa
    obtain⟨ab,ao,Ba⟩:=a;have gk:Ba=bn\/(xs=[]\/True):=bF (bF trivial);by_cases DE:xs=[];subst DE;have ve:l=0:=by simp at c3 c2;omega
    have Ls:hh=0:=by simp at c3;omega
    subst ve;subst Ls;have VI:(⟨ab,ao,Ba⟩:Addr).add (0*n)=⟨ab,ao,Ba⟩:=by simp[Addr.add]
    rw[VI];simp only[List.take_nil,List.drop_nil,GZ];refine .sl (xs:=[]) (sz:=n) (λ_ _=>undef) (λq=>(q rfl).elim) (λi x I=>aG) (λi x j c I=>aG) (λi x j c I=>aG) ?_ (jR _);unfold D9;split;rename_i Wo;simp only[Wo,if_true] at hM;have:m=0:=by simp at c3;omega
    omega;rename_i Ik;simp only[Ik,kz,if_false] at hM;subst hM;simp only[iP,if_true];cases I with
    |sl f gk dG hC hR hT H_=>
     cases tl with
     |exact=>exact hT
     |no=>trivial
     |tok id=>
      obtain⟨n1,s1,lZ,L,q1,bt,bT,fh,iO⟩:=hT;exact⟨n1,s1,lZ,L,q1,bt,bT,bD rfl,iO⟩
    have avz:=Dz DE;subst avz;rw[addr_add];refine RD c7.symm (λz hz=>K_ z (JP (vQ hz))) ?_ ?_ aa;rw[aeA (n:=n) (λz hz=>K_ z (JP hz)),aeD K_];exact(jF.take _).drop _;unfold D9;split;rename_i Wo;simp only[Wo,if_true] at hM;split;simp only[uN];omega;trivial;rename_i Ik;simp only[Ik,kz,if_false] at hM;subst hM;split;rename_i afX;split;rename_i ve;subst ve;subst afX;cases I with
    |sl f gk dG hC hR hT H_=>
     rename_i sz;have:sz=n:=by
      cases xs with
      |nil=>exact(DE rfl).elim
      |cons z r=>rw[<-dG 0 z rfl];exact K_ z af
     subst this;simpa using hT
    cases tl with
    |exact=>
     cases I with
     |sl f gk dG hC hR hT H_=>
      have atN:cap=xs.length:=hT;simp only[uN];omega
    |no=>trivial
    |tok id=>trivial
    trivial
 cases D;cases D;rename_i k m sz off len;split at D;rename_i fO;obtain⟨rfl,Bv⟩:=fO;have oY:Q7=bn:=by cases Q7<;>simp at Bv⊢
 subst oY;split at D;rename_i l hh s_ hq;cases I with
 |rs O hM qQ fO ha=>
  rename_i cap L Z a;obtain⟨eT,c1,c2,c3,c4⟩:=RM (P:=P) (isSlice:=bh) cC ch uU (ck _) fO hq w;simp only[A2,kz,if_false] at eT;split at D;rename_i ve;cases D;subst ve;have hR:bO C M J (.rs k m sz off hh) (.slice (a_ a) hh cap):=.rs O hM qQ aa λq=>by
   obtain⟨a1,a2,a3,a4⟩:=ha q;refine⟨a1,gY (aoS (pq _ aa) _) a2,a3,a4⟩
  refine .same h ?_ hR;simp only[GR,Ny,fW,lK,run_underlying ht,eT,p0 hn,gd];simp[Addr.add];split at D;rename_i ve oX;cases D;have hR:bO C M J (.rs k m sz (off+l*sz) (hh-l)) (.slice (a_ (a.add (l*sz))) (hh-l) (cap-l)):=.rs O hM qQ aa λq=>by
   obtain⟨a1,a2,a3,a4⟩:=ha q;have e1:off+l*sz+(hh-l)*sz=off+hh*sz:=by rw[nG,<-pn];congr 2;omega
   have e2:off+l*sz+(cap-l)*sz=off+cap*sz:=by rw[nG,<-pn];congr 2;omega
   refine⟨by rw[a1,addr_add],?_,by rw[e2];exact a3,by rw[e2];exact a4⟩;rw[e1];exact gY (aoS (pq _ aa) _) a2
  refine .same h ?_ hR;have jq:cap≠l:=aa
  simp[GR,Ny,run_underlying ht,eT,p0 hn,jq]
  · cases D
    have V6:hh=l:=aa
    subst V6;refine⟨C,M,_,w,aIv,cY.refl _ _ _,h,?_⟩;split
    all_goals exact .sl (xs:=[]) (sz:=sz) (λ_ _=>undef) (λq=>(q rfl).elim) (λi x I=>aG) (λi x j c I=>aG) (λi x j c I=>aG) trivial (jR _)
 cases D;cases D;rename_i s;exact(yb s rfl).elim;cases D;cases D
def asO(ht:P.underlying t=a_ .string)(h:ct G base w0 C M J w)(I:bO C M J x x')
  (ox:CD C M J lo yl) (x7:CD C M J Q jX) (Ds:CD C M J mx uf) (hs:∃s,x=.v (.string s)) (D:mQ n x lo Q mx=a_ r):gv G base w0 C M J P (GR t x' yl jX uf) w r J:=by
 obtain⟨s,rfl⟩:=hs;cases I;unfold mQ at D;split at D;rename_i l₁ av1 Q7 el eh em;simp only at D;split at D;cases D;rename_i Bv;have au7:mx=bn:=by cases mx<;>simp at Bv⊢
 subst au7
 have kX:uf=bn:=by cases uf with|none=>rfl|some b=>exact Ds.elim
 subst kX;split at D;rename_i l hh m hq;cases D;obtain⟨eT,c1,c2,c3,c4⟩:=RM (P:=P) (isSlice:=bf) (Mt ox el) (Mt x7 eh) (bD ⟨rfl,rfl⟩) (ck _) (ck _) hq w;exact .same h (by simp[GR,Ny,run_underlying ht,eT]) (.v rfl);cases D;cases D
end
end
end Go.bP

/- Part 4 of a proof. No condition. -/
import Derived.Test.YtepejmecchhifaaGreatDoorZ3
import Derived.RecoverIn
import Derived.HandedShaped
import Derived.Handed
import Derived.ProofKit
import Derived.OpenShut
set_option linter.unusedVariables false
set_option linter.unusedSimpArgs false
set_option linter.defProp false
open Array renaming getElem?_eq_getElem->sM,getElem?_eq_some_iff->vK,length_toList->aiX,replicate->xM
open Bool renaming and_eq_true->dV,false_eq_true->je,or_eq_true->Dt
open Go.aH.U renaming cells->gN,mp->bN,one->bl,v->bO
open Go.aH.bq renaming mono->a_
open Go.aH.fJ renaming mono->e4
open Go.aH.gW renaming mono->rL
open Go.aH.sZ renaming mono->VM
open Go.aH.bZ renaming refl->mH
open Go.aH.pn renaming Ee->OD
open Go.Act renaming eval->JS
open Go.Builtin renaming unsafeString_->VP
open Go.DataW renaming TrodAll->OE,trod->OF
open Go.Deferred renaming ofValue->Bp
open Go.Fence renaming wide->p6
open Go.IntKind renaming bits->Dx,i64->bP,signed->Dy,u64->Dz,wrap->VY
open Go.OpenSpec renaming ofChange->V1
open Go.Region renaming wanted->JY
open Go.Sem renaming run_pure->kj
open Go.Value renaming okWide->DB
open Go.World renaming cell?->DC,frozen?->V4,shape?->J3
open List renaming all_cons->l5,all_eq_true->c7,any_eq_true->F0,append_nil->ff,drop_drop->uy,drop_zero->ni,eq_nil_of_length_eq_zero->lG,getElem?_append_left->ei,getElem?_append_right->en,getElem?_cons_succ->vQ,getElem?_drop->oW,getElem?_eq_getElem->br,getElem?_eq_some_iff->bF,getElem?_map->eo,getElem?_set_ne->av,getElem?_set_self->aO,getElem?_take->OQ,getElem?_take_of_lt->xX,getElem_of_mem->DF,length_append->cG,length_drop->uz,length_map->bX,length_nil->fI,length_take->zm,map_append->eD,map_cons->ep,map_set->sP,map_take->ajq,mem_cons->dW,replicate->dJ,take_append_drop->Wi,take_left'->OV
open Nat renaming add_zero->nP,le_refl->bg,lt_or_ge->cH,mul_le_mul_right->mJ,sub_zero->DH,succ_mul->qK,zero_add->e6,zero_le->iE
open Option renaming bind_eq_some_iff->eW,bind_some->ko,getD_some->sX,isSome_none->x4,map_eq_some_iff->cg,map_some->ir
open Option.some renaming inj->l7,injEq->lI
open Or renaming inl->ax,inr->az
open Prod.mk renaming injEq->uB
namespace Go.aH
open Go.RowKit
section
variable{J:List aa}{lB jR:TypeId}{fE p1:String}{k9 lO:Array Edge}{a:Act}{w:World}{hb:iQ}{g:FuncId}{args:List U}
structure W0 where
 ntmps:Nat
 d0:Nat
 d1:Nat
 body:jq
def recAt(o1 o2:Oper):Option (Nat×Nat):=match o1 with
 |{dst:=some d0,op:=.call {callee:=.builtin .recover,args:=⟨[]⟩,argTypes:=_},type:=_,pos:=_,after:=_,guard:=none}=>match o2 with
  |{dst:=some d1,op:=.assign (.tmp t),type:=_,pos:=_,after:=_,guard:=none}=>if t=d0 then some (d0,d1) else none
  |_=>none
 |_=>none
def FG(P:Program)(hb:iQ)(g:FuncId):Option W0:=match P.funcs[g]? with
 |some fn=>if fn.name== "runtime.NumGoroutine" then none else match fn.results.toList with
  |[]=>match fn.body with
   |some (.seq (.region _ ⟨[o1,o2]⟩ false) rest)=>match recAt o1 o2,slim P hb rest with
    |some (d0,d1),some sc=>if d0<fn.ntmps/\d1<fn.ntmps/\d0≠d1 then some ⟨fn.ntmps,d0,d1,sc⟩ else none
    |_,_=>none
   |_=>none
  |_=>none
 |none=>none
def jf(G:Cells)(P:Program)(g:FuncId)(args:List U)(J:List aa)(x:Option Value)(K:List aa->Prop):Prop:=
 Enters P g/\∀base w0 C M w args',bu G base w0 C M J w->bY C M J args args'->
  CallsDIn p6 0 P g args'.toArray (match x with|none=>.returning|some v=>.panicking [{v:=v,recovered:=false}]) w λe u' w'=>
   ∃aC M' hp' v,K hp'/\e=.returned v/\settle u'=.returning/\bZ C M J aC M' hp'/\bu G base w0 aC M' hp' w'
def nG:Option U->U
 |none=>.v .nilIface
 |some x=>x
def j_:U->Bool
 |.v x=>plain x
 |.agg Z=>Fk Z
 |_=>false
where Fk:List U->Bool
 |[]=>true
 |x::r=>j_ x&&Fk r
mutual
theorem agy{C:Cells}{M:List Loc}{J:List aa}:∀{x:U} {v:Value},j_ x=true->pn x=some v->aI C M J x v
 |.v x,v,h,T=>by
  simp only[pn,lI] at T;subst T;exact .v (by simpa[j_] using h)
 |.agg Z,v,h,T=>by
  simp only[pn,cg] at T;obtain⟨l,Y,rfl⟩:=T;have:=agz (C:=C) (M:=M) (J:=J) (by simpa[j_] using h) Y;exact .agg (by simpa using this.1) (λi a b ha O=>this.2 i a b ha aCM)
 |.aK _,_,h,_=>aCQ
 |.af,_,h,_=>aCQ
 |.sl _ _,_,h,_=>aCQ
 |.fp _ _,_,h,_=>aCQ
 |.mp _ _,_,h,_=>aCQ
 |.rp _ _ _,_,h,_=>aCQ
 |.rs _ _ _ _ _,_,h,_=>aCQ
 |.eL _,_,h,_=>aCQ
 |.eU _,_,h,_=>aCQ
 |.fn _ _ _,_,h,_=>aCQ
 |.cT _ _,_,h,_=>aCQ
 |.dZ _,_,h,_=>aCQ
 |.gu _,_,h,_=>aCQ
 |.fM _ _,_,h,_=>aCQ
theorem agz{C:Cells}{M:List Loc}{J:List aa}:∀{xs:List U} {vs:List Value},j_.Fk xs=true->OD xs=some vs->bY C M J xs vs
 |[],vs,_,T=>by
  simp only[OD,lI] at T;subst T;exact⟨rfl,λi a b ha O=>by simp at ha⟩
 |x::r,vs,h,T=>by
  simp only[j_.Fk,dV] at h;simp only[OD] at T;split at T;rename_i a l Y V;cases T;have k1:=agy (C:=C) (M:=M) (J:=J) h.1 Y;have k2:=agz (C:=C) (M:=M) (J:=J) h.2 V;refine⟨by simp[k2.1],λi a b ha O=>?_⟩;cases i with
  |zero=>simp at ha O;subst ha;subst O;exact k1
  |succ i=>simp at ha O;exact k2.2 i a b ha O
  cases T
end
def tW:U->Bool
 |.cT _ x=>j_ x
 |_=>false
def awT{C:Cells}{M:List Loc}{x:U}{v:Value}(h:tW x=true)(T:ox x=some v):aI C M J x v:=by
 cases x with
 |cT t x=>
  simp only[ox,cg] at T;obtain⟨a,Y,rfl⟩:=T;exact .cT (agy (by simpa[tW] using h) Y)
 |_=>simp[tW] at h
section
variable{G:Cells}{P:Program}
def yW(d0:Nat)(vF:Array TypeId)(lB:TypeId)(fE:String)(k9:Array Edge):Oper:={dst:=some d0,op:=.call {callee:=.builtin .recover,args:=⟨[]⟩,argTypes:=vF},type:=lB,pos:=fE,after:=k9,guard:=none}
def zL(d1 d0:Nat)(jR:TypeId)(p1:String)(lO:Array Edge):Oper:={dst:=some d1,op:=.assign (.tmp d0),type:=jR,pos:=p1,after:=lO,guard:=none}
def agv{hi:Exit->Act->List Frame->World->Prop}{d0 d1:Nat}{vF:Array TypeId}{Z:List Frame}(hd:d0<a.tmps.size){rv:Value}{cs':List Frame}
  (D:(recoverD Z=none/\rv=.nilIface/\cs'=Z)\/recoverD Z=some (rv,cs')) (hq:hi .normal ((a.put (some d0) rv).put (some d1) rv) cs' w):
  wpOpsSIn p6 0 P ⟨[yW d0 vF lB fE k9,zL d1 d0 jR p1 lO]⟩ hi [0,1] a Z w:=by
 have e1:(execOp a.eval (yW d0 vF lB fE k9)).run P w=.ok .recover w:=by
  simp[execOp,resolve,invoke,builtin,yW]
 have e2:∀Lc,hi .normal ((a.put (some d0) rv).put (some d1) rv) Lc w->wpOpsSIn p6 0 P ⟨[yW d0 vF lB fE k9,zL d1 d0 jR p1 lO]⟩ hi [1] (a.put (some d0) rv) Lc w:=by
  intro Lc hq;have:(a.put (some d0) rv).eval (.tmp d0)=rv:=by simp[JS,Act.put,hd]
  have bW:(execOp (a.put (some d0) rv).eval (zL d1 d0 jR p1 lO)).run P w=.ok (.value rv) w:=by
   simp only[execOp,zL,kj,this]
  have cO:(⟨[yW d0 vF lB fE k9,zL d1 d0 jR p1 lO]⟩:Array Oper)[1]?=some (zL d1 d0 jR p1 lO):=rfl;have kS:∀y,JY (zL d1 d0 jR p1 lO) y=true:=λ_=>rfl;simp only[wpOpsSIn,cO,kS,if_true,bW];exact⟨λ_ _=>trivial,hq⟩
 have cO:(⟨[yW d0 vF lB fE k9,zL d1 d0 jR p1 lO]⟩:Array Oper)[0]?=some (yW d0 vF lB fE k9):=rfl;have kS:∀y,JY (yW d0 vF lB fE k9) y=true:=λ_=>rfl;have uT:(yW d0 vF lB fE k9).dst=some d0:=rfl
 rcases D with⟨Y,rfl,rfl⟩|Y
 unfold wpOpsSIn;simp only[cO,kS,if_true,e1,Y,uT];exact⟨λ_ _=>trivial,e2 _ hq⟩;unfold wpOpsSIn;simp only[cO,kS,if_true,e1,Y,uT];exact⟨λ_ _=>trivial,e2 _ hq⟩
def axT(v:Value):settle (.panicking [{v:=v,recovered:=true}])=.returning:=by rfl
def ami{d:W0}(hg:FG P hb g=some d){x:Option U}{v:Option Value}{K:List aa->Prop}
  (I:match x,v with|none,none=>True|some x,some v=>tW x=true/\ox x=some v|_,_=>False)
  (h:ic G P d.body (λe s=>(e=.normal\/e=.ret)/\K s.J) ⟨((r6 args d.ntmps).set d.d0 (nG x)).set d.d1 (nG x),J⟩):jf G P g args J v K:=by
 unfold FG at hg;split at hg;rename_i fn hfn;split at hg;cases hg;rename_i hname;split at hg;rename_i hres;split at hg;rename_i id o1 o2 rest O;split at hg;rename_i d0 d1 sc Au hsc;split at hg;rename_i hlt;obtain⟨hd0,hd1,hne⟩:=hlt;cases hg;have aby:=Array.toList_inj.1 (by simpa using hres);refine⟨⟨fn,hfn,by rw[O];rfl,by simpa using hname⟩,λbase w0 C M w args' hs D=>?_⟩;refine callsDIn_of_wpSIn (F:=p6) (n:=0) hfn O trivial λc₀ Z hu=>?_;unfold recAt at Au;split at Au;rename_i aAZ vF lB fE k9;split at Au;rename_i Qn t1 jR p1 lO;split at Au;rename_i ht;subst ht;cases Au;refine wpSIn_seq (wpSIn_region ?_);have key:∀(rv:Value) (cs':List Frame) (u':FrameMode),aI C M J (nG x) rv->settle u'=.returning->cs'={c₀ with mode:=u'}::Z->
   rest.wpSIn p6 0 P (bodyPostS P fn c₀ Z λe u' w'=>∃aC M' hp' v,K hp'/\e=.returned v/\settle u'=.returning/\bZ C M J aC M' hp'/\bu G base w0 aC M' hp' w')
    (({tmps:=args'.toArray++xM (fn.ntmps-args'.toArray.size) undef,defers:=[]}:Act).put (some d0) rv|>.put (some d1) rv) cs' w:=by
  intro rv cs' u' j5 yB L8;refine wpSIn_of_wpIn rfl ?_;have hfr:fT G .plain none base w0 C M ⟨((r6 args fn.ntmps).set d0 (nG x)).set d1 (nG x),J⟩ (({tmps:=args'.toArray++xM (fn.ntmps-args'.toArray.size) undef,defers:=[]}:Act).put (some d0) rv|>.put (some d1) rv) w:=
   ⟨hs,yu (yu (LJ D _) j5 (some d0)) j5 (some d1),rfl,trivial⟩
  refine wpIn_mono (h rest hb hsc none base w0 C M _ w hfr) λe a' w' ⟨aC,M',s',⟨he,hK⟩,hle,hf'⟩=>?_;have hd:=hf'.defers
  rcases he with rfl|rfl
  exact⟨hd,u',L8,.tuple #[],by simp[results,aby],aC,M',s'.J,_,hK,rfl,yB,hle,hf'.jB⟩;exact⟨hd,u',L8,.tuple #[],by simp[results,aby],aC,M',s'.J,_,hK,rfl,yB,hle,hf'.jB⟩
 have hsz:d0<(args'.toArray++xM (fn.ntmps-args'.toArray.size) undef).size:=aCv
 cases x with
 |none=>
  cases v with
  |some v=>exact I.elim
  |none=>
   have Mr:=hu;have hrd:recoverD (c₀::Z)=none:=by simp[recoverD,Mr]
   have:=key .nilIface (c₀::Z) .returning (.v rfl) rfl (by cases c₀;cases Mr;rfl);exact agv hsz (ax ⟨hrd,rfl,rfl⟩) this
 |some x=>
  cases v with
  |none=>exact I.elim
  |some v=>
   have Mr:=hu;have hrd:recoverD (c₀::Z)=some (v,{c₀ with mode:=.panicking [{v:=v,recovered:=true}]}::Z):=by simp[recoverD,Mr]
   have:=key v _ (.panicking [{v:=v,recovered:=true}]) (awT I.1 I.2) (axT v) rfl;exact agv hsz (az hrd) this
 cases Au;cases Au;cases Au;cases hg;cases hg;cases hg;cases hg;cases hg
structure WZ where
 ntmps:Nat
 results:List e8
 head:jq
 t:Nat
 g:FuncId
 caps:List bJ
 body:jq
def xx(t:Nat)(g:FuncId)(Z:Array Operand)(lB:TypeId)(fE:String)(k9:Array Edge):Oper:={dst:=some t,op:=.makeFunc (.func g) ⟨[]⟩ Z,type:=lB,pos:=fE,after:=k9,guard:=none}
def wJ(t:Nat)(sI:Array TypeId)(jR:TypeId)(p1:String)(lO:Array Edge):Oper:={dst:=none,op:=.defer {callee:=.value (.tmp t),args:=⟨[]⟩,argTypes:=sI},type:=jR,pos:=p1,after:=lO,guard:=none}
def Y3(o1 o2:Oper):Option (Nat×FuncId×List bJ):=match o1 with
 |{dst:=some t,op:=.makeFunc (.func g) ⟨[]⟩ Z,type:=_,pos:=_,after:=_,guard:=none}=>match o2 with
  |{dst:=none,op:=.defer {callee:=.value (.tmp t'),args:=⟨[]⟩,argTypes:=_},type:=_,pos:=_,after:=_,guard:=none}=>if t'=t then(match qE Z.toList with|some l=>some (t,g,l)|none=>none) else none
  |_=>none
 |_=>none
def FF(P:Program)(hb:iQ)(f:FuncId):Option WZ:=match P.funcs[f]? with
 |some fn=>if fn.name== "runtime.NumGoroutine" then none else match fn.body with
  |some (.seq aM (.seq (.region _ ⟨[o1,o2]⟩ false) rest))=>match Y3 o1 o2,slim P hb aM,slim P hb rest,A6 P fn.results.toList with
   |some (t,g,l),some h,some b,some rs=>if t<fn.ntmps then some ⟨fn.ntmps,rs,h,t,g,l,b⟩ else none
   |_,_,_,_=>none
  |_=>none
 |none=>none
def aml{hi:Exit->Act->World->Prop}{t:Nat}{Z:Array Operand}{sI:Array TypeId}(hd:t<a.tmps.size)
  (hq:hi .normal {(a.put (some t) (.func (.func g) #[] (Z.map a.eval))) with defers:={target:=.fn (.func g) (Z.map a.eval),args:= #[]}::a.defers} w):
  wpOpsIn (oZ none) 0 P ⟨[xx t g Z lB fE k9,wJ t sI jR p1 lO]⟩ hi [0,1] a w:=by
 have e1:(execOp a.eval (xx t g Z lB fE k9)).run P w=.ok (.value (.func (.func g) #[] (Z.map a.eval))) w:=by
  simp[execOp,xx,Instr.makeFunc]
 have e2:(execOp (a.put (some t) (.func (.func g) #[] (Z.map a.eval))).eval (wJ t sI jR p1 lO)).run P w=.ok (.defer {target:=.fn (.func g) (Z.map a.eval),args:= #[]}) w:=by
  have:(a.put (some t) (.func (.func g) #[] (Z.map a.eval))).eval (.tmp t)=.func (.func g) #[] (Z.map a.eval):=by simp[JS,Act.put,hd]
  simp[execOp,wJ,resolve,this,Bp]
 have bW:∀y,JY (xx t g Z lB fE k9) y=true:=λ_=>rfl;have cO:∀y,JY (wJ t sI jR p1 lO) y=true:=λ_=>rfl;have kS:(⟨[xx t g Z lB fE k9,wJ t sI jR p1 lO]⟩:Array Oper)[0]?=some (xx t g Z lB fE k9):=rfl;have uT:(⟨[xx t g Z lB fE k9,wJ t sI jR p1 lO]⟩:Array Oper)[1]?=some (wJ t sI jR p1 lO):=rfl;have GZ:(xx t g Z lB fE k9).dst=some t:=rfl;have amr:(wJ t sI jR p1 lO).dst=none:=rfl;have s1:(xx t g Z lB fE k9).semAt (oZ none).round a.eval=execOp a.eval (xx t g Z lB fE k9):=rfl;have s2:(wJ t sI jR p1 lO).semAt (oZ none).round (a.put (some t) (.func (.func g) #[] (Z.map a.eval))).eval=execOp (a.put (some t) (.func (.func g) #[] (Z.map a.eval))).eval (wJ t sI jR p1 lO):=rfl;unfold wpOpsIn;simp only[kS,bW,if_true];refine⟨λ_ _=>trivial,?_⟩;rw[s1,e1];simp only[Oper.uponIn,GZ];unfold wpOpsIn;simp only[uT,cO,if_true];refine⟨λ_ _=>trivial,?_⟩;rw[s2,e2];simp only[Oper.uponIn,amr];exact hq
def amz(G:Cells)(P:Program)(g:FuncId)(ks:List Nat)(rs:List e8)(K:U->List aa->Prop):Exit->bR->Prop
 |.normal,s=>jf G P g (ks.map λk=>.mp k 0) s.J none λhp'=>∃r,pS ⟨s.ts,hp'⟩ rs=some r/\K r hp'
 |.ret,s=>jf G P g (ks.map λk=>.mp k 0) s.J none λhp'=>∃r,pS ⟨s.ts,hp'⟩ rs=some r/\K r hp'
 |.panic ch,s=>∃v,ch=[{v:=v,recovered:=false}]/\jf G P g (ks.map λk=>.mp k 0) s.J (some v) λhp'=>∃r,pS ⟨s.ts,hp'⟩ rs=some r/\K r hp'
 |_,_=>False
def am9{f:FuncId}{d:WZ}(hf:FF P hb f=some d){K:U->List aa->Prop}
  (h:ic G P d.head (λe s=>e=.normal/\d.t<s.ts.length/\∃ks:List Nat,d.caps.map (ev s.ts)=ks.map (λk=>.mp k 0)/\
    jF G P (.oy d.g ks) d.body (amz G P d.g ks d.results K) ⟨s.ts.set d.t (.fn (.func d.g) [] (ks.map λk=>.mp k 0)),s.J⟩) ⟨r6 args d.ntmps,J⟩):bq G P f args J K:=by
 unfold FF at hf;split at hf;rename_i fn hfn;split at hf;cases hf;rename_i hname;split at hf;rename_i aM id o1 o2 rest O;split at hf;rename_i t g l hd bd rs tF hh hbd hrs;split at hf;rename_i hlt;cases hf;unfold Y3 at tF;split at tF;rename_i t0 g0 cs0 lB fE k9;split at tF;rename_i t1 sI jR p1 lO;split at tF;rename_i ht;subst ht;split at tF;rename_i l' hl;cases tF;refine⟨⟨fn,hfn,by rw[O];rfl,by simpa using hname⟩,λbase w0 C M w args' hs D=>?_⟩;refine callsIn_wide.1 (callsIn_of_wp_defers (F:=p6) (n:=0) hfn O trivial ?_);have hf:fT G .plain none base w0 C M ⟨r6 args fn.ntmps,J⟩ {tmps:=args'.toArray++xM (fn.ntmps-args'.toArray.size) undef,defers:=[]} w:=
  ⟨hs,LJ D _,rfl,trivial⟩
 refine wpIn_seq (wpIn_mono (h aM hb hh none base w0 C M _ w hf) λe a1 w1 ⟨Kc,Gl,s1,⟨he,Cz,ks,hks,hT⟩,Ao,HN⟩=>?_);subst he;have hd1:=HN.defers;have hcap:bY Kc Gl s1.J (ks.map λk=>.mp k 0) (cs0.map a1.eval).toList:=by
  have:=t_ HN.frame hl;rw[hks] at this;simpa using this
 have hsz:t<a1.tmps.size:=by
  have:=HN.frame.1;simp only[aiX] at this;have aBM:t<s1.ts.length:=Cz;omega
 refine wpIn_seq (wpIn_region ?_);refine aml hsz ?_;have RP:fT G (.oy g ks) none base w0 Kc Gl ⟨s1.ts.set t (.fn (.func g) [] (ks.map λk=>.mp k 0)),s1.J⟩ {(a1.put (some t) (.func (.func g) #[] (cs0.map a1.eval))) with defers:={target:=.fn (.func g) (cs0.map a1.eval),args:= #[]}::a1.defers} w1:=by
  refine⟨HN.jB,?_,⟨Kc,cs0.map a1.eval,by rw[hd1],hcap⟩,rfl⟩;exact yu HN.frame (.fn rfl (by have:=hcap.1;simpa using this) (λi x y I _=>aCN) (λi x y I hy=>hcap.2 i x y I (by simpa using hy))) (some t)
 refine wpIn_mono (hT rest hb hbd none base w0 Kc Gl _ w1 RP) λe a2 w2 ⟨rQ,M2,s2,hq,jK,RQ⟩=>?_;obtain⟨x5,cap,hds,aaR⟩:=RQ.defers;have fin:∀(x:Option Value) (u:FrameMode),u=(match x with|none=>.returning|some v=>.panicking [{v:=v,recovered:=false}])->
   jf G P g (ks.map λk=>.mp k 0) s2.J x (λhp'=>∃r,pS ⟨s2.ts,hp'⟩ rs=some r/\K r hp')->
   LeavesIn p6 0 P fn a2.tmps (λe w'=>∃aC M' hp' r v',K r hp'/\e=.returned v'/\bZ C M J aC M' hp'/\bu G base w0 aC M' hp' w'/\aI aC M' hp' r v') a2.defers u w2:=by
  intro x u hu iZ;rw[hds];have aoT:bY rQ M2 s2.J (ks.map λk=>.mp k 0) cap.toList:=by
   refine⟨aaR.1,λi a b ha O=>?_⟩;have:=aaR.2 i a b ha O;simp only[eo,cg] at ha;obtain⟨k,_,rfl⟩:=ha;cases this with
   |mp hb' cP=>exact .mp hb' cP
  have w5:=iZ.2 base w0 rQ M2 w2 cap.toList RQ.jB aoT;refine leavesIn_cons (by rw[hu];cases x<;>simp) (λq=>aCE) (Jq iZ.1 _ _) (λ_ _=>trivial) ?_;rw[hu];have e0:(#[]:Array Value)++cap=cap.toList.toArray:=aCt
  rw[e0];refine CallsDIn.mono w5 λe u' w' ⟨ajM,ajS,tJ,v,⟨r,j5,hK⟩,he,yB,Ap,hs3⟩=>?_;subst he;simp only;rw[yB];obtain⟨v',hv1,xl⟩:=UD (P:=P) (bQ:=.plain) (ro:=none) (s':=⟨s2.ts,tJ⟩) (a':={tmps:=a2.tmps,defers:=[]}) hrs ⟨hs3,wU Ap RQ.frame,rfl,trivial⟩ j5;exact⟨v',hv1,ajM,ajS,tJ,r,v',hK,rfl,Ao.trans (jK.trans Ap),hs3,xl⟩
 cases e with
 |normal=>exact fin none .returning rfl hq
 |ret=>exact fin none .returning rfl hq
 |panic ch=>
  obtain⟨v,rfl,iZ⟩:=hq;exact fin (some v) _ rfl iZ
 |_=>exact hq.elim
 cases tF;cases tF;cases tF;cases tF;cases hf;cases hf;cases hf;cases hf
end
end
section
variable{v:U}{F K:U->List aa->Prop}{n:Nat}{args ts xs ys:List U}{t:iU}{i:fL}{k:IntKind}{J l:List aa}{b w:Bool}{a:Prop}{ops r:List aL}{α:Type}{d:Option Nat}{f g:FuncId}{ch:List PanicEntry}{G:Cells}{P:Program}{rs:List e8}{hb pu:iQ}
section
variable{P:Program}{K:bR->Prop}{ts:List U}{J:List aa}{r:List aL}
def Vw(x:Option (U×List aa))(F:U->List aa->Prop):Prop:=∃v hp',x=some (v,hp')/\F v hp'
def aiG{hp':List aa}:Vw (some (v,hp')) F=F v hp':=by
 apply propext;constructor;rintro⟨v',gJ,h,k⟩;cases h;exact k;intro k;exact⟨v,hp',rfl,k⟩
section
variable(k:IntKind)(a b:Int)
def W8:cr .add (.v (.int k a)) (.v (.int k b))=some (.v (.int k (k.wrap (a+b)))):=aC9
def Xg:cr .sub (.v (.int k a)) (.v (.int k b))=some (.v (.int k (k.wrap (a-b)))):=aC9
def Xe:cr .mul (.v (.int k a)) (.v (.int k b))=some (.v (.int k (k.wrap (a*b)))):=aC9
def W_:cr .eql (.v (.int k a)) (.v (.int k b))=some (.v (.bool (a==b))):=aC9
def Xf:cr .neq (.v (.int k a)) (.v (.int k b))=some (.v (.bool (a !=b))):=aC9
def Xd:cr .lss (.v (.int k a)) (.v (.int k b))=some (.v (.bool (decide (a<b)))):=aC9
def Xc:cr .leq (.v (.int k a)) (.v (.int k b))=some (.v (.bool (decide (a<=b)))):=aC9
def Xb:cr .gtr (.v (.int k a)) (.v (.int k b))=some (.v (.bool (decide (b<a)))):=aC9
def Xa:cr .geq (.v (.int k a)) (.v (.int k b))=some (.v (.bool (decide (b<=a)))):=aC9
def Py(h:b≠0):cr .quo (.v (.int k a)) (.v (.int k b))=some (.v (.int k (k.wrap (a.tdiv b)))):=aFh
def Pz(h:b≠0):cr .rem (.v (.int k a)) (.v (.int k b))=some (.v (.int k (a.tmod b))):=aFh
def akd(k':IntKind)(h:¬b<0):cr .shl (.v (.int k a)) (.v (.int k' b))=some (.v (.int k (k.wrap (a*2^(min b.toNat k.bits))))):=aFh
def ake(k':IntKind)(h:¬b<0):cr .shr (.v (.int k a)) (.v (.int k' b))=some (.v (.int k (a.fdiv (2^(min b.toNat k.bits))))):=aFh
def W9:cr .and (.v (.int k a)) (.v (.int k b))=some (.v (th k a b (· &&& ·))):=aC9
def akc:cr .or (.v (.int k a)) (.v (.int k b))=some (.v (th k a b (· ||| ·))):=aC9
end
def wm(x:Value):dy 1 [.v x]=some (.sl [.v x] .exact):=aDR
def jY{i:Nat}{x:U}(h:xs[i]?=some x)(hn:x.cells.length=n):bw n (.sl xs t) (.v (.int k (i:Int)))=some (.fp x.cells 0):=by simp[bw,h,hn]
def PG{aG:Bool}{off:Nat}{Z:List U}{c:U}(J:List aa)(h:dI aG n Z off=some c):aq J aG n (.fp Z off)=some c:=h
def Xi(a b:Value):dy 1 [.v a,.v b]=some (.sl [.v a,.v b] .exact):=aDR
def Xj(a b c:Value):dy 1 [.v a,.v b,.v c]=some (.sl [.v a,.v b,.v c] .exact):=aDR
def Xk(a b c d:Value):dy 1 [.v a,.v b,.v c,.v d]=some (.sl [.v a,.v b,.v c,.v d] .exact):=aDR
def Xl(a b c d e f g h:Value):dy 1 [.v a,.v b,.v c,.v d,.v e,.v f,.v g,.v h]=some (.sl [.v a,.v b,.v c,.v d,.v e,.v f,.v g,.v h] .exact):=aDR
def wo(off o:Nat)(Z:List U):ji off (.fp Z o)=some (.fp Z (o+off)):=rfl
def kB(off o k:Nat):ji off (.mp k o)=some (.mp k (o+off)):=rfl
def bH(v:U)(xs:List U):Prop:=v=.sl xs .no\/(v=.af/\xs=[])
def bH.len{v:U}{xs:List U}(h:bH v xs):Gz v=some (.v (goInt xs.length)):=by
 rcases h with rfl|⟨rfl,rfl⟩<;>rfl
def bH.bC(h:bH v xs){i:Nat}{x:U}(I:xs[i]?=some x)(hn:x.cells.length=n):bw n v (.v (.int k (i:Int)))=some (.fp x.cells 0):=by
 rcases h with rfl|⟨rfl,rfl⟩
 exact jY I hn;simp at I
def bH.ns(h:bH v xs):∀s,v≠.v (.string s):=by
 rcases h with rfl|⟨rfl,rfl⟩<;>(intro s e;cases e)
def bL(v:U)(J:List aa):Option (U×List aa):=match v with
 |.v (.string _)=>none
 |x'=>(Gz x').map λr=>(r,J)
def bH.bL{v:U}{xs:List U}(h:bH v xs)(J:List aa):bL v J=some (.v (goInt xs.length),J):=by
 rcases h with rfl|⟨rfl,rfl⟩<;>rfl
def m_(xs:List U)(t:iU)(J:List aa):bL (.sl xs t) J=some (.v (goInt xs.length),J):=rfl
section
variable(ts:List U)(J:List aa)
def D5(k o:Nat):uQ (.mp k o)=some (.mp k o):=rfl
def XB(Z:List U)(o:Nat):uQ (.fp Z o)=some (.fp Z o):=rfl
end
def PD(k k':IntKind)(n:Int):D0 k (.v (.int k' n))=some (.v (.int k (k.wrap n))):=rfl
def wrap_u64(n:Int):Dz.wrap n=n % 18446744073709551616:=by simp[VY,Dx,Dy]
def wrap_u8(n:Int):IntKind.u8.wrap n=n % 256:=by simp[VY,Dx,Dy]
def wrap_i64{n:Int}(h0: -9223372036854775808<=n)(Y:n<=9223372036854775807):bP.wrap n=n:=by
 simp[VY,Dx,Dy];split<;>omega
def bU(J:List aa)(v:U)(xs:List U)(n:Nat)(e:TypeId):Prop:=(v=.af/\xs=[])\/∃id,v=.sl xs (.tok id)/\J[id]?=some (.tok xs.length n e)
structure Wq(J hp':List aa)(v:U):Prop where
 len:J.length<=hp'.length
 cells:∀(k:Nat) Z fz,J[k]?=some (.cells Z fz)->hp'[k]?=some (.cells Z fz)
 toks:∀(k:Nat) n s e,J[k]?=some (.tok n s e)->(∀xs,v≠.sl xs (.tok k))->hp'[k]?=some (.tok n s e)
 eM:∀(k:Nat) b,b.isObj=true->J[k]?=some b->hp'[k]?=some b
def bU.nil(J:List aa)(n:Nat)(e:TypeId):bU J .af [] n e:=ax ⟨rfl,rfl⟩
def bU.run{aZ:Nat}{e:TypeId}(hA:bU J v xs n e)(I:bS n xs=true)(hy:bS n ys=true)(hne:ys≠[])(hn:0<n)(O:0<aZ)
  (hfit:(xs.length+ys.length)*aZ<=140737488355328) (k:∀v' hp',bU hp' v' (xs++ys) n e->Wq J hp' v->(∃id,v'=.sl (xs++ys) (.tok id))->F v' hp'):Vw (cM J n aZ e v (.sl ys t)) F:=by
 rcases hA with⟨rfl,rfl⟩|⟨id,rfl,hid⟩
 refine⟨.sl ys (.tok J.length),J++[.tok ys.length n e],?_,?_⟩;simp only[fI,e6] at hfit;simp[cM,fA,gp,contents,hne,hy,hn,O,hfit];refine k _ _ (az ⟨J.length,rfl,aCt⟩) ⟨aCt,λj Z fz h=>?_,λj n s e' h _=>?_,λj b _ h=>by rw[ei (bF.1 h).1];exact h⟩ ⟨_,rfl⟩;rw[ei (bF.1 h).1];exact h;rw[ei (bF.1 h).1];exact h;have hl:=(bF.1 hid).1;refine⟨.sl (xs++ys) (.tok id),J.set id (.tok (xs.length+ys.length) n e),?_,?_⟩;simp[cM,fA,gp,contents,hne,hy,hn,O,hfit,I,hid];refine k _ _ (az ⟨id,rfl,by rw[aO hl,cG]⟩) ⟨aCt,λj Z fz h=>?_,λj n' s e' h abn=>?_,λj b O h=>by rw[av (by intro e;subst e;rw[hid] at h;cases h;cases O)];exact h⟩ ⟨_,rfl⟩;rw[av];exact h;intro e;subst e;rw[hid] at h;cases h;rw[av];exact h;intro e;subst e;exact abn xs rfl
def bU.at{id:Nat}{e:TypeId}(h:bU J (.sl xs (.tok id)) ys n e):J[id]?=some (.tok ys.length n e):=by
 rcases h with⟨h,_⟩|⟨id',h,V⟩
 cases h;cases h;exact V
def aJ{k:Nat}{b:aa}(h:J[k]?=some b):(J++l)[k]?=some b:=by
 rw[ei (bF.1 h).1];exact h
def bU.ext{e:TypeId}(h:bU J v xs n e):bU (J++l) v xs n e:=
 h.imp id λ⟨id,q,h⟩=>⟨id,q,aJ h⟩
def bU.new{e:TypeId}:bU (J++[.tok xs.length n e]) (.sl xs (.tok J.length)) xs n e:=az ⟨_,rfl,aCt⟩
end
abbrev Env:=List (Nat×U)
variable{e:Env}
def eX:Env->Nat->Option U
 |[],_=>none
 |(j,v)::r,k=>if j=k then some v else eX r k
def z1(k:Nat)(o:Option U)(e:Env):Env:=
 match o with
 |some v=>(k,v)::e
 |none=>e
def kD:List Nat->Env->Env
 |[],_=>[]
 |k::L,e=>z1 k (eX e k) (kD L e)
def cL(e:Env):bJ->Option U
 |.t k=>eX e k
 |.c a=>some a
def ld(e:Env):List bJ->Option (List U)
 |[]=>some []
 |x::r=>(cL e x).bind λa=>(ld e r).map λl=>a::l
def uU(e:Env):Option bJ->Option (Option U)
 |none=>some none
 |some x=>(cL e x).map some
def z7(e:Env):List (Nat×Nat×bJ)->Option (List (Nat×Nat×U))
 |[]=>some []
 |(i,n,x)::r=>(cL e x).bind λa=>(z7 e r).map λl=>(i,n,a)::l
def oI(v:U)(J:List aa):Option (U×List aa):=match v with
 |.v (.string s)=>some (.v (goInt s.size),J)
 |_=>none
def pU(n:Nat)(v:U)(lo Q mx:Option U)(J:List aa):Option (U×List aa):=match v with
 |.v (.string _)=>none
 |x'=>(kR n x' lo Q mx).map λr=>(r,J)
def Dj(v:U)(lo Q:Option U)(J:List aa):Option (U×List aa):=match v with
 |.v (.string s)=>(kR 0 (.v (.string s)) lo Q none).map λr=>(r,J)
 |_=>none
def Fi(c:U)(x y:Option U):Option U:=match c with
 |.v (.bool b)=>if b then x else y
 |_=>none
def My(v:U)(J:List aa):Option (U×List aa):=match v with
 |.v (.string s)=>some (.eL J.length,J++[.obj (.stringIter s 0)])
 |_=>none
def bz(e:Env)(J:List aa):kP->Option (U×List aa)
 |.mv x=>(cL e x).map λr=>(r,J)
 |.pick c a b=>(cL e c).bind λc=>(Fi c (cL e a) (cL e b)).map λr=>(r,J)
 |.alloc z=>some (.mp J.length 0,J++[.cells z false])
 |.wq t z=>some (.mp J.length 0,J++[.cells (.fM J.length t::z) false])
 |.wC aZ ty s x=>(cL e s).bind λs=>(cL e x).bind λx=>ye J aZ ty s x
 |.box x=>(cL e x).map λr=>(.mp J.length 0,J++[.cells r.cells false])
 |.build z ps=>(z7 e ps).bind λl=>(cq z l).map λr=>(.agg r,J)
 |.wG n vs=>(ld e vs).bind λl=>(dy n l).map λr=>(r,J)
 |.eE aG n x=>(cL e x).bind λx=>(aq J aG n x).map λr=>(r,J)
 |.st n p x=>(cL e p).bind λp=>(cL e x).bind λx=>(aE J n p x).map λhp'=>(gM,hp')
 |.E3 x=>(cL e x).bind λx=>(uQ x).map λr=>(r,J)
 |.bin op x y=>(cL e x).bind λx=>(cL e y).bind λy=>(cr op x y).map λr=>(r,J)
 |.G6 neg x y=>(cL e x).bind λx=>(cL e y).bind λy=>(Gx neg x y).map λr=>(r,J)
 |.G7 K neg x y=>(cL e x).bind λx=>(cL e y).bind λy=>(mO K neg x y).map λr=>(r,J)
 |.Eg ks neg x y=>(cL e x).bind λx=>(cL e y).bind λy=>(qi ks neg x y).map λr=>(r,J)
 |.un op x=>(cL e x).bind λx=>(BP op x).map λr=>(r,J)
 |.b6 k x=>(cL e x).bind λx=>(D0 k x).map λr=>(r,J)
 |.Fy x=>(cL e x).bind λx=>(KI x).map λr=>(r,J)
 |.D9 x=>(cL e x).bind λx=>(Gu x).map λr=>(r,J)
 |.slc n x lo Q mx=>(cL e x).bind λx=>(uU e lo).bind λlo=>(uU e Q).bind λQ=>(uU e mx).bind λmx=>pU n x lo Q mx J
 |.ud x lo Q=>(cL e x).bind λx=>(uU e lo).bind λlo=>(uU e Q).bind λQ=>Dj x lo Q J
 |.fa off x=>(cL e x).bind λx=>(ji off x).map λr=>(r,J)
 |.bC n x i=>(cL e x).bind λx=>(cL e i).bind λi=>(bw n x i).map λr=>(r,J)
 |.yd len n x i=>(cL e x).bind λx=>(cL e i).bind λi=>(jr len n x i).map λr=>(r,J)
 |.LG aG n off x=>(cL e x).bind λx=>(Gy aG n off x).map λr=>(r,J)
 |.idx aG n len x i=>(cL e x).bind λx=>(cL e i).bind λi=>(zG aG n len x i).map λr=>(r,J)
 |.zV x i=>(cL e x).bind λx=>(cL e i).bind λi=>(tc x i).map λr=>(r,J)
 |.ext i x=>(cL e x).bind λx=>(nV i x).map λr=>(r,J)
 |.oI x=>(cL e x).bind λx=>oI x J
 |.len x=>(cL e x).bind λx=>bL x J
 |.app n aZ ty s x=>(cL e s).bind λs=>(cL e x).bind λx=>cM J n aZ ty s x
 |.xw f a b=>(ld e a).bind λa=>(ld e b).map λb=>(.fn f a b,J)
 |.tn n vs=>(ld e vs).bind λl=>wk J n l
 |.yg n aZ ty s x=>(cL e s).bind λs=>(cL e x).bind λx=>mc J n aZ ty s x
 |.xy n aZ _ z l c=>(cL e l).bind λl=>(cL e c).bind λc=>zH J n aZ z l c
 |.yN n aZ ty z l c=>(cL e l).bind λl=>(cL e c).bind λc=>zI J n aZ ty z l c
 |.yL t x=>(cL e x).map λx=>(.cT t x,J)
 |.FJ t z ok x=>(cL e x).bind λx=>(D6 t z ok x).map λr=>(r,J)
 |.qz mx xs=>(ld e xs).bind λl=>(o9 mx l).map λr=>(r,J)
 |.iter x=>(cL e x).bind λx=>My x J
 |.next x=>(cL e x).bind λx=>o_ J x
 |.yM=>some (.dZ J.length,J++[.cQ [] 0])
 |.AM x=>(cL e x).bind λx=>(wv J x).map λr=>(r,J)
 |.yI aG ks z ok m k=>(cL e m).bind λm=>(cL e k).bind λk=>(td J aG ks z ok m k).map λr=>(r,J)
 |.tR aG ks m k x=>(cL e m).bind λm=>(cL e k).bind λk=>(cL e x).bind λx=>(uP J aG ks m k x).map λhp'=>(gM,hp')
 |.xu aG ks z m k=>(cL e m).bind λm=>(cL e k).bind λk=>D3 J aG ks z m k
 |.z6 m st x=>(cL e m).bind λm=>(cL e st).bind λst=>(cL e x).bind λx=>(D2 J m st x).map λhp'=>(gM,hp')
def Has(n:Nat)(ts:List U)(e:Env):Prop:=ts.length=n/\∀k v,eX e k=some v->ts[k]?=some v
def iY(h:Has n ts e){x:bJ}{a:U}(I:cL e x=some a):ev ts x=a:=by
 cases x with
 |t k=>
  have:=h.2 k a I;simp[ev,this]
 |c b=>cases I;rfl
def r7(h:Has n ts e):∀{xs:List bJ} {cl:List U},ld e xs=some cl->xs.map (ev ts)=cl
 |[],cl,I=>by cases I;rfl
 |x::r,cl,I=>by
  simp only[ld,eW,cg] at I;obtain⟨a,Y,l,V,rfl⟩:=I;rw[ep,iY h Y,r7 h V]
def Zt(h:Has n ts e):∀{xs:List (Nat×Nat×bJ)} {cl:List (Nat×Nat×U)},z7 e xs=some cl->xs.map (λp=>(p.1,p.2.1,ev ts p.2.2))=cl
 |[],cl,I=>by cases I;rfl
 |(i,n,x)::r,cl,I=>by
  simp only[z7,eW,cg] at I;obtain⟨a,Y,l,V,rfl⟩:=I;rw[ep,iY h Y,Zt h V]
def G_(h:Has n ts e){x:Option bJ}{a:Option U}(I:uU e x=some a):x.map (ev ts)=a:=by
 cases x with
 |none=>cases I;rfl
 |some x=>
  simp only[uU,cg] at I;obtain⟨b,Y,rfl⟩:=I;rw[ir,iY h Y]
def XI(h:Has n ts e){o:kP}{r:U×List aa}(ho:bz e J o=some r):dD ts J o=some r:=by
 cases o
 case pick c a b=>
  simp only[bz,eW,cg] at ho;obtain⟨c',Y,v,V,rfl⟩:=ho;have e1:=iY h Y;unfold Fi at V;split at V;rename_i b';simp only[dD,e1];cases b' with
  |true=>simp only[if_true] at V⊢;rw[iY h V]
  |false=>simp only[je,if_false] at V⊢;rw[iY h V]
  cases V
 case slc m x lo Q mx=>
  simp only[bz,eW] at ho;obtain⟨x',Y,lo',V,hi',h3,ri,h4,h5⟩:=ho;simp only[dD,iY h Y,G_ h V,G_ h h3,G_ h h4];exact h5
 case ud x lo Q=>
  simp only[bz,eW] at ho;obtain⟨x',Y,lo',V,hi',h3,h5⟩:=ho;simp only[dD,iY h Y,G_ h V,G_ h h3];exact h5
 case oI x=>
  simp only[bz,eW] at ho;obtain⟨x',Y,h5⟩:=ho;simp only[dD,iY h Y];exact h5
 case len x=>
  simp only[bz,eW] at ho;obtain⟨x',Y,h5⟩:=ho;simp only[dD,iY h Y];exact h5
 case build z ps=>
  simp only[bz,eW] at ho;obtain⟨x',Y,h5⟩:=ho;simp only[dD,Zt h Y];exact h5
 case wG z ps=>
  simp only[bz,eW] at ho;obtain⟨x',Y,h5⟩:=ho;simp only[dD,r7 h Y];exact h5
 case tn z ps=>
  simp only[bz,eW] at ho;obtain⟨x',Y,h5⟩:=ho;simp only[dD,r7 h Y];exact h5
 case qz z ps=>
  simp only[bz,eW] at ho;obtain⟨x',Y,h5⟩:=ho;simp only[dD,r7 h Y];exact h5
 case yM=>exact ho
 case yL t x=>
  simp only[bz,cg] at ho;obtain⟨x',Y,rfl⟩:=ho;simp only[dD,iY h Y]
 case tR aG ks m k x=>
  simp only[bz,eW] at ho;obtain⟨m',Y,k',V,x',h3,h5⟩:=ho;simp only[dD,iY h Y,iY h V,iY h h3];exact h5
 case z6 m k x=>
  simp only[bz,eW] at ho;obtain⟨m',Y,k',V,x',h3,h5⟩:=ho;simp only[dD,iY h Y,iY h V,iY h h3];exact h5
 case xw f a b=>
  simp only[bz,eW,cg] at ho;obtain⟨x',Y,y',V,h5⟩:=ho;simp only[dD,r7 h Y,r7 h V];rw[h5]
 case alloc z=>exact ho
 case wq t z=>exact ho
 case wC aZ ty s x=>
  simp only[bz,eW] at ho;obtain⟨x',Y,y',V,h5⟩:=ho;simp only[dD,iY h Y,iY h V];rw[h5]
 case mv x=>
  simp only[bz,cg] at ho;obtain⟨x',Y,rfl⟩:=ho;simp only[dD,iY h Y]
 case box x=>
  simp only[bz,cg] at ho;obtain⟨x',Y,rfl⟩:=ho;simp only[dD,iY h Y]
 all_goals first
  |(simp only[bz,eW] at ho
    obtain⟨x',Y,y',V,h5⟩:=ho;simp only[dD,iY h Y,iY h V];exact h5)
  |(simp only[bz,eW] at ho
    obtain⟨x',Y,h5⟩:=ho;simp only[dD,iY h Y];exact h5)
class Hid(α:Type) where
 v:α
variable{A B:Hid Prop}
def aa6(a:α):(Hid.mk a).v=a:=rfl
def e_{α:Type}(x:Option α)[F:Hid (α->Prop)]:Prop:=∃a,x=some a/\F.v a
def aiF{a:α}{F:Hid (α->Prop)}:@e_ α (some a) F=F.v a:=by
 apply propext;constructor;rintro⟨b,h,k⟩;cases h;exact k;intro k;exact⟨a,rfl,k⟩
def p_(b:Bool)[A:Hid Prop][B:Hid Prop]:Prop:=(b=true->A.v)/\(b=false->B.v)
def Kb:@p_ true A B=A.v:=by simp[p_]
def Ka:@p_ false A B=B.v:=by simp[p_]
def p_.mk(Y:b=true->A.v)(V:b=false->B.v):@p_ b A B:=⟨Y,V⟩
def BU(v:U)[A:Hid Prop][B:Hid Prop]:Prop:=match v with
 |.v (.bool b)=>@p_ b A B
 |_=>False
def X7:@BU (.v (.bool b)) A B=@p_ b A B:=rfl
def q2(w:Bool)(v:U)[A:Hid Prop][B:Hid Prop]:Prop:=match v with
 |.v (.bool b)=>if w then@p_ b A B else@p_ b B A
 |.aK []=>B.v
 |_=>False
def aax:@q2 true (.v (.bool b)) A B=@p_ b A B:=rfl
def aav:@q2 false (.v (.bool b)) A B=@p_ b B A:=rfl
def aaw:@q2 w gM A B=B.v:=rfl
abbrev kz:=List PanicEntry->List aa->Prop
variable{E E':kz}
def O2(G:Cells)(P:Program)(f:FuncId)(args:List U)(J:List aa)[F:Hid (U->List aa->Prop)]:Prop:=bq G P f args J F.v
def Qa(G:Cells)(P:Program)(f:U)(args:List U)(J:List aa)[F:Hid (U->List aa->Prop)]:Prop:=gW G P f args J F.v
def O3(G:Cells)(P:Program)(f:FuncId)(args:List U)(J:List aa)[F:Hid (U->List aa->Prop)][E:Hid kz]:Prop:=fJ G P f args J F.v E.v
def Qb(G:Cells)(P:Program)(f:U)(args:List U)(J:List aa)[F:Hid (U->List aa->Prop)][E:Hid kz]:Prop:=sZ G P f args J F.v E.v
section
variable{G:Cells}{P:Program}{f:FuncId}{args fs Z:List U}{J:List aa}{F:Hid (U->List aa->Prop)}{E:Hid kz}
def Yn:@Qa G P (.fn (.func f) fs Z) args J F=@O2 G P f (fs++args++Z) J F:=by simp[Qa,gW,O2]
def Yo:@Qb G P (.fn (.func f) fs Z) args J F E=@O3 G P f (fs++args++Z) J F E:=by simp[Qb,sZ,O3]
end
def av4(G:Cells)(P:Program)(f:FuncId)(args:List U)[F:Hid (U->Prop)]:Prop:=∃bs r',nj args bs/\b_ G P f bs r'/\F.v r'
def gY(G:Cells)(P:Program)(i:fL)[F:Hid (U->List aa->Prop)][E:Hid kz](e:Env)(J:List aa):Prop:=match i with
 |.op o=>@e_ _ (bz e J o) ⟨λr=>F.v r.1 r.2⟩
 |.call f args=>@e_ _ (ld e args) ⟨λcl=>@O2 G P f cl J F⟩
 |.lQ x args=>@e_ _ (cL e x) ⟨λx=>@e_ _ (ld e args) ⟨λcl=>@Qa G P x cl J F⟩⟩
 |.lz f args=>@e_ _ (ld e args) ⟨λcl=>@av4 G P f cl ⟨λv=>F.v v J⟩⟩
 |.mD f args r=>@e_ _ (ld e args) ⟨λcl=>∃bs,nj cl bs/\b_ G P f bs r/\F.v r J⟩
 |.nt f args=>@e_ _ (ld e args) ⟨λcl=>@O3 G P f cl J F E⟩
 |.nu x args=>@e_ _ (cL e x) ⟨λx=>@e_ _ (ld e args) ⟨λcl=>@Qb G P x cl J F E⟩⟩
 |.eU x=>@e_ _ ((cL e x).bind ox) ⟨λv=>E.v [{v:=v,recovered:=false}] J⟩
def nF(d:Option Nat)(v:U)(e:Env):Env:=match d with
 |some d=>(d,v)::e
 |none=>e
def iF(G:Cells)(P:Program)(l:List aL)[K:Hid (Env->List aa->Prop)][E:Hid kz](e:Env)(J:List aa):Prop:=match l with
 |[]=>K.v e J
 |⟨d,none,i⟩::r=>@gY G P i ⟨λv hp'=>@iF G P r K E (nF d v e) hp'⟩ E e J
 |⟨d,some (k,w),i⟩::r=>@e_ _ (eX e k) ⟨λg=>@q2 w g ⟨@gY G P i ⟨λv hp'=>@iF G P r K E (nF d v e) hp'⟩ E e J⟩ ⟨@iF G P r K E (nF d gM e) J⟩⟩
section
variable{G:Cells}{P:Program}{K:Hid (Env->List aa->Prop)}{E:Hid kz}{e:Env}{J:List aa}{d:Option Nat}{k:Nat}{i:fL}{r:List aL}
def BJ:@iF G P [] K E e J=K.v e J:=by simp only[iF]
def DV:@iF G P (⟨d,none,i⟩::r) K E e J=@gY G P i ⟨λv hp'=>@iF G P r K E (nF d v e) hp'⟩ E e J:=by simp only[iF]
def DU:@iF G P (⟨d,some (k,w),i⟩::r) K E e J=@e_ _ (eX e k) ⟨λg=>@q2 w g ⟨@gY G P i ⟨λv hp'=>@iF G P r K E (nF d v e) hp'⟩ E e J⟩ ⟨@iF G P r K E (nF d gM e) J⟩⟩:=by simp only[iF]
end
def tu(n:Nat):List aL->Bool
 |[]=>true
 |o::r=>(match o.dst with|some d=>decide (d<n)|none=>true)&&tu n r
def Zd{ρ:Nat->U}:∀{l:List aL},tu n (l.map (tell ρ))=tu n l
 |[]=>rfl
 |o::r=>by simp only[ep,tu,Oi,Zd]
def Ew(h:Has n ts e)(hd:(match d with|some d=>decide (d<n)|none=>true)=true):Has n (dB ts d v) (nF d v e):=by
 cases d with
 |none=>exact h
 |some d=>
  simp only[decide_eq_true_eq] at hd;refine⟨by simp[dB,h.1],λk w S=>?_⟩;simp only[nF,eX] at S;simp only[dB];split at S;rename_i e1;subst e1;cases S;exact aO (by rw[h.1];exact hd);rename_i e1;rw[av e1];exact h.2 k w S
section
variable{G:Cells}{P:Program}
def aqY{F:Hid (U->List aa->Prop)}{E:Hid kz}{K:bR->Prop}(h:Has n ts e)(Q:@gY G P i F E e J)(hF:∀v hp',F.v v hp'->e9 G E.v P r K ⟨dB ts d v,hp'⟩):
  e9 G E.v P (⟨d,none,i⟩::r) K ⟨ts,J⟩:=by
 simp only[e9];unfold ct;rw[if_pos (by rfl)];cases i with
 |op o=>
  obtain⟨⟨v,hp'⟩,Y,V⟩:=Q;simp only;rw[XI h Y];exact hF _ _ V
 |call f args=>
  obtain⟨cl,Y,V⟩:=Q;simp only;rw[r7 h Y];exact a_ V hF
 |lQ x args=>
  obtain⟨x',h0,cl,Y,V⟩:=Q;dsimp only at V;simp only;rw[r7 h Y,iY h h0];exact rL V hF
 |lz f args=>
  obtain⟨cl,Y,bs,r',V,h3,h4⟩:=Q;simp only;rw[r7 h Y];exact⟨bs,r',V,h3,hF _ _ h4⟩
 |mD f args r=>
  obtain⟨cl,Y,bs,V,h3,h4⟩:=Q;simp only;rw[r7 h Y];exact⟨bs,V,h3,hF _ _ h4⟩
 |nt f args=>
  obtain⟨cl,Y,V⟩:=Q;simp only;rw[r7 h Y];exact e4 V hF λ_ _ k=>k
 |nu x args=>
  obtain⟨x',h0,cl,Y,V⟩:=Q;dsimp only at V;simp only;rw[r7 h Y,iY h h0];exact VM V hF λ_ _ k=>k
 |eU x=>
  obtain⟨v,Y,V⟩:=Q;simp only[eW] at Y;obtain⟨x',h3,h4⟩:=Y;simp only;rw[iY h h3,h4];exact V
def ahH{g:Nat×Bool}{K:bR->Prop}:
  (mQ (some g) ts=true->e9 G E P (⟨d,none,i⟩::r) K ⟨ts,J⟩)->(mQ (some g) ts=false->e9 G E P r K ⟨dB ts d gM,J⟩)->e9 G E P (⟨d,some g,i⟩::r) K ⟨ts,J⟩:=λY V=>by
 cases hw:mQ (some g) ts with
 |true=>
  have:=Y hw;simp only[e9] at this⊢;unfold ct at this⊢;rw[if_pos (by rfl)] at this;simp only;rw[if_pos hw];exact this
 |false=>
  have:=V hw;simp only[e9];unfold ct;simp only;rw[if_neg (by rw[hw];simp)];exact this
def Gq:∀{l:List aL} {K:Hid (Env->List aa->Prop)} {E:Hid kz} {K':bR->Prop} {e:Env} {J:List aa} {ts:List U},tu n l=true->Has n ts e->@iF G P l K E e J->(∀ts e J,Has n ts e->K.v e J->K' ⟨ts,J⟩)->e9 G E.v P l K' ⟨ts,J⟩
 |[],K,E,K',e,J,ts,hd,h,D,S=>S _ _ _ h (by rw[BJ] at D;exact D)
 |⟨d,g,i⟩::r,K,E,K',e,J,ts,hd,h,D,S=>by
  simp only[tu,dV] at hd;obtain⟨hd1,q5⟩:=hd;have yes:@gY G P i ⟨λv hp'=>@iF G P r K E (nF d v e) hp'⟩ E e J->e9 G E.v P (⟨d,none,i⟩::r) K' ⟨ts,J⟩:=λq=>
   aqY h q λv hp' k=>Gq q5 (Ew h hd1) k S
  have no:@iF G P r K E (nF d gM e) J->e9 G E.v P r K' ⟨dB ts d gM,J⟩:=λk=>Gq q5 (Ew h hd1) k S
  rcases g with _|⟨k,w⟩
  rw[DV] at D;exact yes D;rw[DU] at D;obtain⟨g,Y,V⟩:=D;have eY:=h.2 k _ Y;dsimp only at V;unfold q2 at V;split at V;rename_i b;have hg:(b=w->@gY G P i ⟨λv hp'=>@iF G P r K E (nF d v e) hp'⟩ E e J)/\(b≠w->@iF G P r K E (nF d gM e) J):=by
   cases w with
   |true=>exact⟨λq=>V.1 q,λq=>V.2 aCy⟩
   |false=>exact⟨λq=>V.2 q,λq=>V.1 aCy⟩
  refine ahH (λhw=>yes (hg.1 ?_)) λhw=>no (hg.2 ?_);simpa[mQ,eY] using hw;simpa[mQ,eY] using hw;exact ahH (λhw=>by simp[mQ,eY] at hw) λ_=>no V;exact V.elim
end
def oM(c:aL)(e:Env)(J:List aa):Prop:=match c.ins,c.dst with
 |.op o,some d=>match c.guard with
  |none=>@e_ _ (eX e d) ⟨λv=>@e_ _ (bz e J o) ⟨λr=>r.1=v⟩⟩
  |some (k,w)=>@e_ _ (eX e k) ⟨λg=>@q2 w g ⟨@e_ _ (eX e d) ⟨λv=>@e_ _ (bz e J o) ⟨λr=>r.1=v⟩⟩⟩ ⟨@e_ _ (eX e d) ⟨λv=>v=gM⟩⟩⟩
 |_,_=>False
def nH(Z:List aL)(e:Env)(J:List aa):Prop:=match Z with
 |[]=>True
 |c::r=>oM c e J/\nH r e J
def qS(G:Cells)(P:Program)(l:List (aL×List aL))[K:Hid (Env->List aa->Prop)][E:Hid kz](e:Env)(J:List aa):Prop:=match l with
 |[]=>K.v e J
 |(o,Z)::r=>@iF G P [o] ⟨λe' hp'=>nH Z e' hp'/\@qS G P r K E e' hp'⟩ E e J
section
variable{G:Cells}{P:Program}{K:Hid (Env->List aa->Prop)}{E:Hid kz}{e:Env}{J:List aa}{o:aL}{Z:List aL}{r:List (aL×List aL)}
def DW:@qS G P [] K E e J=K.v e J:=by simp only[qS]
def DX:@qS G P ((o,Z)::r) K E e J=@iF G P [o] ⟨λe' hp'=>nH Z e' hp'/\@qS G P r K E e' hp'⟩ E e J:=by simp only[qS]
def awO(h:Has n ts e){c:aL}(T:oM c e J):qg G P c ⟨ts,J⟩:=by
 obtain⟨d,g,i⟩:=c;unfold oM at T;split at T;rename_i o dd Q hd;dsimp only at Q hd;subst Q hd;have yes:(mQ g ts=true)->@e_ _ (eX e dd) ⟨λv=>@e_ _ (bz e J o) ⟨λr=>r.1=v⟩⟩->qg G P ⟨some dd,g,.op o⟩ ⟨ts,J⟩:=by
  rintro hw ⟨v,Y,r,V,h3⟩;dsimp only at h3;refine⟨dd,v,rfl,h.2 _ _ Y,?_⟩;unfold kO;rw[if_pos hw];simp only;rw[XI h V,ir,h3]
 have no:(mQ g ts=false)->@e_ _ (eX e dd) ⟨λv=>v=gM⟩->qg G P ⟨some dd,g,.op o⟩ ⟨ts,J⟩:=by
  rintro hw ⟨v,Y,V⟩;dsimp only at V;refine⟨dd,v,rfl,h.2 _ _ Y,?_⟩;unfold kO;rw[if_neg (by rw[hw];simp)];exact V
 cases g with
 |none=>exact yes rfl T
 |some g=>
  obtain⟨k,w⟩:=g;obtain⟨g,Y,V⟩:=T;have eY:=h.2 k _ Y;dsimp only at V;unfold q2 at V;split at V;rename_i b;cases w with
  |true=>
   cases b with
   |true=>exact yes aE4 (V.1 rfl)
   |false=>exact no aE4 (V.2 rfl)
  |false=>
   cases b with
   |true=>exact no aE4 (V.1 rfl)
   |false=>exact yes aE4 (V.2 rfl)
  exact no aE4 V;exact V.elim
 exact T.elim
def agw(h:Has n ts e):∀{Z:List aL},nH Z e J->∀c∈Z,qg G P c ⟨ts,J⟩
 |[],_,c,T=>aEU
 |c::r,D,c',T=>by
  rcases dW.1 T with rfl|T
  exact awO h D.1;exact agw h D.2 c' T
def WU:∀{l:List (aL×List aL)} {K:Hid (Env->List aa->Prop)} {E:Hid kz} {K':bR->Prop} {e:Env} {J:List aa} {ts:List U},tu n (l.map (·.1))=true->Has n ts e->@qS G P l K E e J->(∀ts e J,Has n ts e->K.v e J->K' ⟨ts,J⟩)->iT G E.v P l K' ⟨ts,J⟩
 |[],K,E,K',e,J,ts,hd,h,D,S=>S _ _ _ h (by rw[DW] at D;exact D)
 |(o,Z)::r,K,E,K',e,J,ts,hd,h,D,S=>by
  simp only[ep,tu,dV] at hd;rw[DX] at D;have:=Gq (n:=n) (K':=λs'=>(∀c∈Z,qg G P c s')/\iT G E.v P r K' s') (by simp only[tu,dV];exact⟨hd.1,trivial⟩) h D λts e J h' k=>⟨agw h' k.1,WU hd.2 h' k.2 S⟩;exact this
end
inductive c8 where
 |skip (L:List Nat)
 |region (ops:List aL) (L:List Nat)
 |seq (a b:c8)
 |cond (c:bJ) (a b:c8)
 |block (id:Nat) (a:c8)
 |loop (a:c8)
 |exit (id:Nat) (L:List Nat)
 |ret (L:List Nat)
 |oL (x:bJ) (ps:List Nat) (a b:c8) (L:List Nat)
 |oN (ls:List (List aL)) (L:List Nat)
 |oe (l:List (aL×List aL)) (L:List Nat)
 |scope (a:c8)
 |lab (L:List Nat)
 |bad
variable{c:c8}
def c8.aV:c8->jq
 |.skip _=>.skip
 |.region ops _=>.region ops
 |.seq a b=>.seq a.aV b.aV
 |.cond c a b=>.cond c a.aV b.aV
 |.block id a=>.block id a.aV
 |.loop a=>.loop a.aV
 |.exit id _=>.exit id
 |.ret _=>.ret
 |.oL x ps a b _=>.oL x ps a.aV b.aV
 |.oN ls _=>.oN ls
 |.oe l _=>.oe l
 |.scope a=>.scope a.aV
 |.lab _=>.lab
 |.bad=>.bad
def c8.mR(n:Nat):c8->Bool->Bool
 |.region ops _,_=>tu n ops
 |.oN ls _,_=>ls.all (tu n)
 |.oe l _,_=>tu n (l.map (·.1))
 |.seq a b,m=>a.mR n m&&b.mR n m
 |.cond _ a b,m=>a.mR n m&&b.mR n m
 |.block _ a,m=>a.mR n m
 |.loop a,m=>a.mR n m
 |.scope a,m=>a.mR n m
 |.oL _ ps a b _,m=>m&&(ps.all λp=>decide (p<n))&&a.mR n false&&b.mR n true
 |_,_=>true
def c8.fits(n:Nat)(c:c8):Bool:=c.mR n false
def mj(ops:List aL):Env->Env
 |[]=>[]
 |(k,v)::e=>if ops.any (λo=>o.dst==some k) then mj ops e else(k,v)::mj ops e
def Qx{k:Nat}:∀{e:Env} {v:U},eX (mj ops e) k=some v->eX e k=some v/\∀aD∈ops,aD.dst≠some k
 |[],v,h=>aCL
 |(j,w)::e,v,h=>by
  simp only[mj] at h;split at h;rename_i hj;obtain⟨Y,V⟩:=Qx h;refine⟨?_,V⟩;simp only[eX];split;rename_i hkj;subst hkj;rw[F0] at hj;obtain⟨aD,q1,ah⟩:=hj;exact(V aD q1 aCU).elim;exact Y;rename_i hj;simp only[eX] at h⊢;by_cases hkj:j=k;rw[if_pos hkj] at h⊢;subst hkj;refine⟨h,λaD gU q=>hj ?_⟩;rw[F0];exact⟨aD,gU,by simp[q]⟩;rw[if_neg hkj] at h⊢;exact Qx h
def RE{ts':List U}(h:Has n ts e)(ha:k4 ops ts ts'):Has n ts' (mj ops e):=by
 refine⟨ha.1.trans h.1,λk v S=>?_⟩;obtain⟨Y,V⟩:=Qx S;rw[ha.2 k V];exact h.2 k v Y
abbrev Post:=Exit->Env->List aa->Prop
def pW[next:Hid (Env->List aa->Prop)][hi:Hid Post]:Post
 |.normal,e,J=>next.v e J
 |x,e,J=>hi.v x e J
def tj(id:Nat)[hi:Hid Post]:Post
 |.exit id',e,J=>if id'=id then hi.v .normal e J else hi.v (.exit id') e J
 |x,e,J=>hi.v x e J
def FC[hi:Hid Post]:Post
 |.goto _,_,_=>False
 |x,e,J=>hi.v x e J
section
variable{next:Hid (Env->List aa->Prop)}{hi:Hid Post}{e:Env}{J:List aa}{id:Nat}
def ahh:@FC hi .normal e J=hi.v .normal e J:=rfl
def ahg:@FC hi (.exit id) e J=hi.v (.exit id) e J:=rfl
def ahj:@FC hi .ret e J=hi.v .ret e J:=rfl
def ahi:@FC hi (.panic ch) e J=hi.v (.panic ch) e J:=rfl
def aij:@pW next hi .normal e J=next.v e J:=rfl
def aii:@pW next hi (.exit id) e J=hi.v (.exit id) e J:=rfl
def ail:@pW next hi .ret e J=hi.v .ret e J:=rfl
def aik:@pW next hi (.panic ch) e J=hi.v (.panic ch) e J:=rfl
def X0:@tj id hi (.panic ch) e J=hi.v (.panic ch) e J:=rfl
def XZ:@tj id hi .normal e J=hi.v .normal e J:=rfl
def X1:@tj id hi .ret e J=hi.v .ret e J:=rfl
def X2:@tj id hi (.exit id) e J=hi.v .normal e J:=by simp[tj]
def XY{id':Nat}(h:id'≠id):@tj id hi (.exit id') e J=hi.v (.exit id') e J:=by simp[tj,h]
end
def vb[hi:Hid Post]:Option Code->Env->List aa->Prop
 |none,e,J=>hi.v .normal e J
 |some .ret,e,J=>hi.v .ret e J
 |some (.exit id),e,J=>hi.v (.exit id) e J
 |_,_,_=>False
def aw7(k:Nat)(ats:List U)(ps:Array Tmp)(ok:Code->Code->Prop)(K:U->List aa->Prop):Post
 |.normal,_,J=>(∃st pd,J[k]?=some (.aS st pd ats ps ok))/\K (.v (.bool true)) (J.set k (.aS .ready none ats ps ok))
 |.ret,_,J=>(∃st pd,J[k]?=some (.aS st pd ats ps ok))/\K (.v (.bool false)) (J.set k (.aS .done (some .ret) ats ps ok))
 |.exit id,_,J=>(∃st pd,J[k]?=some (.aS st pd ats ps ok))/\K (.v (.bool false)) (J.set k (.aS .done (some (.exit id)) ats ps ok))
 |_,_,_=>False
def rA:Env->List (Nat×U)->Env
 |e,[]=>e
 |e,(k,v)::r=>rA ((k,v)::e) r
def Pn(G:Cells)(P:Program)(k:Nat)(ats:List U)(ps:List Nat)(ok:Code->Code->Prop)(wa:Post->Env->List aa->Prop)(wb:Post->Env->List aa->Prop)(e:Env):Prop:=
 ∀(args:List U) (J:List aa) (K:U->List aa->Prop),args.length=ps.length->(∃pd,J[k]?=some (.aS .ready pd ats ps.toArray ok))->
  wa (@pW ⟨λe1 cZ=>(∃pd,cZ[k]?=some (.aS .ready pd ats ps.toArray ok))/\∀pd,wb (aw7 k ats ps.toArray ok K) e1 (cZ.set k (.aS .busy pd ats ps.toArray ok))⟩ ⟨λ_ _ _=>False⟩) (rA e (ps.zip args)) J->gW G P (.gu k) args J K
def marks(nest:Bool):List aa:=if nest then [] else [.obj (.deferred (some []))]
def agu(G:Cells)(P:Program)(nest:Bool)(x:Option U)(ps:List Nat)(L:List Nat)(wa:Post->Env->List aa->Prop)(wb:Post->Env->List aa->Prop)[hi:Hid Post](e:Env)(J:List aa):Prop:=
 ∃g fs Z,x=some (.fn (.func g) fs Z)/\∀k,k=(J++marks nest).length->∀ats ok,Pn G P k ats ps ok wa wb e->
  bq G P g (fs++[.gu k]++Z) (J++marks nest++[.aS .ready none ats ps.toArray ok])
   λr hp'=>∃st pd,hp'[k]?=some (.aS st pd ats ps.toArray ok)/\st≠.busy/\vb pd (kD L e) (hp'.set k (.aS .exhausted pd ats ps.toArray ok))
def cJ(G:Cells)(P:Program)(nest:Bool)(c:c8)[hi:Hid Post](e:Env)(J:List aa):Prop:=match c with
 |.skip L=>hi.v .normal (kD L e) J
 |.region ops L=>@iF G P ops ⟨λe' hp'=>hi.v .normal (kD L e') hp'⟩ ⟨λch hp'=>hi.v (.panic ch) (mj ops e) hp'⟩ e J
 |.oN ls L=>∃ρ:Nat->U,∀l∈ls,@iF G P (l.map (tell ρ)) ⟨λe' hp'=>hi.v .normal (kD L e') hp'⟩ ⟨λch hp'=>hi.v (.panic ch) (mj ls.flatten e) hp'⟩ e J
 |.oe l L=>@qS G P l ⟨λe' hp'=>hi.v .normal (kD L e') hp'⟩ ⟨λch hp'=>hi.v (.panic ch) (mj (l.map (·.1)) e) hp'⟩ e J
 |.seq a b=>@cJ G P nest a ⟨@pW ⟨λe J=>@cJ G P nest b hi e J⟩ hi⟩ e J
 |.cond c a b=>@e_ _ (cL e c) ⟨λc=>@BU c ⟨@cJ G P nest a hi e J⟩ ⟨@cJ G P nest b hi e J⟩⟩
 |.block id a=>@cJ G P nest a ⟨@tj id hi⟩ e J
 |.loop a=>∃(hx:Nat->Env->List aa->Prop) (m:Nat),hx m e J/\∀m e J,hx m e J->@cJ G P nest a ⟨@pW ⟨λe' hp'=>∃m',m'<m/\hx m' e' hp'⟩ hi⟩ e J
 |.exit id L=>hi.v (.exit id) (kD L e) J
 |.scope a=>@cJ G P nest a ⟨@FC hi⟩ e J
 |.lab L=>hi.v .normal (kD L e) J
 |.bad=>False
 |.ret L=>hi.v .ret (kD L e) J
 |.oL x ps a b L=>agu G P nest (cL e x) ps L (λhi e J=>@cJ G P true a ⟨hi⟩ e J) (λhi e J=>@cJ G P true b ⟨hi⟩ e J) e J
section
variable{G:Cells}{P:Program}{nest:Bool}{hi:Hid Post}{e:Env}{J:List aa}
def JN(L:List Nat):@cJ G P nest (.skip L) hi e J=hi.v .normal (kD L e) J:=aCS
def JJ(ops:List aL)(L:List Nat):@cJ G P nest (.region ops L) hi e J=@iF G P ops ⟨λe' hp'=>hi.v .normal (kD L e') hp'⟩ ⟨λch hp'=>hi.v (.panic ch) (mj ops e) hp'⟩ e J:=aCS
def FR(ls:List (List aL))(L:List Nat):@cJ G P nest (.oN ls L) hi e J=∃ρ:Nat->U,∀l∈ls,@iF G P (l.map (tell ρ)) ⟨λe' hp'=>hi.v .normal (kD L e') hp'⟩ ⟨λch hp'=>hi.v (.panic ch) (mj ls.flatten e) hp'⟩ e J:=aCS
def Dl(a b:c8):@cJ G P nest (.seq a b) hi e J=@cJ G P nest a ⟨@pW ⟨λe J=>@cJ G P nest b hi e J⟩ hi⟩ e J:=aCS
def JE(c:bJ)(a b:c8):@cJ G P nest (.cond c a b) hi e J=@e_ _ (cL e c) ⟨λc=>@BU c ⟨@cJ G P nest a hi e J⟩ ⟨@cJ G P nest b hi e J⟩⟩:=aCS
def y7(id:Nat)(a:c8):@cJ G P nest (.block id a) hi e J=@cJ G P nest a ⟨@tj id hi⟩ e J:=aCS
def JH(a:c8):@cJ G P nest (.loop a) hi e J=∃(hx:Nat->Env->List aa->Prop) (m:Nat),hx m e J/\∀m e J,hx m e J->@cJ G P nest a ⟨@pW ⟨λe' hp'=>∃m',m'<m/\hx m' e' hp'⟩ hi⟩ e J:=aCS
def JK(l:List (aL×List aL))(L:List Nat):@cJ G P nest (.oe l L) hi e J=@qS G P l ⟨λe' hp'=>hi.v .normal (kD L e') hp'⟩ ⟨λch hp'=>hi.v (.panic ch) (mj (l.map (·.1)) e) hp'⟩ e J:=aCS
def JM(a:c8):@cJ G P nest (.scope a) hi e J=@cJ G P nest a ⟨@FC hi⟩ e J:=aCS
def JG(L:List Nat):@cJ G P nest (.lab L) hi e J=hi.v .normal (kD L e) J:=aCS
def JF(id:Nat)(L:List Nat):@cJ G P nest (.exit id L) hi e J=hi.v (.exit id) (kD L e) J:=aCS
def JL(L:List Nat):@cJ G P nest (.ret L) hi e J=hi.v .ret (kD L e) J:=aCS
def vI(x:bJ)(ps:List Nat)(a b:c8)(L:List Nat):@cJ G P nest (.oL x ps a b L) hi e J=agu G P nest (cL e x) ps L (λhi e J=>@cJ G P true a ⟨hi⟩ e J) (λhi e J=>@cJ G P true b ⟨hi⟩ e J) e J:=aCS
end
def ahP(hE:∀ch J,E ch J->E' ch J){aD:aL}{K:bR->Prop}{s:bR}(h:ct G E P aD K s):ct G E' P aD K s:=by
 unfold ct at h⊢;split at h;rename_i hw;rw[if_pos hw];split at h;exact h;exact h;exact h;exact h;exact h;exact e4 h (λ_ _ k=>k) hE;exact VM h (λ_ _ k=>k) hE;split at h;exact hE _ _ h;exact h;rename_i hw;rw[if_neg hw];exact h
def UZ(hE:∀ch J,E ch J->E' ch J):∀{l:List aL} {K:bR->Prop} {s:bR},e9 G E P l K s->e9 G E' P l K s
 |[],_,_,h=>h
 |_::_,_,_,h=>ahP hE (ct.mono h λ_ k=>UZ hE k)
def ahG(hE:∀ch J,E ch J->E' ch J):∀{l:List (aL×List aL)} {K:bR->Prop} {s:bR},iT G E P l K s->iT G E' P l K s
 |[],_,_,h=>h
 |(o,Z)::_,_,_,h=>ahP hE (ct.mono h λ_ k=>⟨k.1,ahG hE k.2⟩)
def w4(h:Has n ts e)(L:List Nat):Has n ts (kD L e):=by
 refine⟨h.1,?_⟩
 induction L with
 |nil=>intro k v S;cases S
 |cons j L ih=>
  intro k v S;simp only[kD] at S;cases hj:eX e j with
  |none=>rw[hj] at S;exact ih k v S
  |some w=>
   rw[hj] at S;simp only[z1,eX] at S;split at S;rename_i e1;subst e1;cases S;exact h.2 j _ hj;exact ih k v S
def aoL{ps:List Nat}:∀{ts:List U} {e:Env} (_:Has n ts e) (_:(ps.all λp=>decide (p<n))=true) (args:List U),Has n (vw ts (ps.toArray.toList.zip args)) (rA e (ps.zip args)):=by
 induction ps with
 |nil=>intro ts e h _ args;simpa[vw,rA] using h
 |cons p r ih=>
  intro ts e h J args;simp only[l5,dV] at J;cases args with
  |nil=>simpa[vw,rA] using h
  |cons v vs=>
   have:=ih (ts:=ts.set p v) (e:=(p,v)::e) (Ew (d:=some p) h J.1) J.2 vs;simpa[vw,rA] using this
def nR.nest:nR->Bool
 |.vt _=>true
 |_=>false
def nR.loops:nR->Bool
 |.plain|.oy _ _=>false
 |_=>true
def JI(hm:P.follows .mixedOrders=true):∀{c:c8} {bQ:nR} {nest:Bool} {hi:Hid Post} {Q':Exit->bR->Prop} {e:Env} {J:List aa} {ts:List U},c.mR n bQ.loops=true->(bQ.loops=true->nest=bQ.nest)->Has n ts e->@cJ G P nest c hi e J->
  (∀x ts e J,Has n ts e->hi.v x e J->Q' x ⟨ts,J⟩)->jF G P bQ c.aV Q' ⟨ts,J⟩:=by
 intro c
 induction c with
 |skip L=>intro bQ nest hi Q' e J ts hf jL h hw S;rw[JN] at hw;exact ic.skip (S _ _ _ _ (w4 h L) hw)
 |exit id L=>intro bQ nest hi Q' e J ts hf jL h hw S;rw[JF] at hw;exact ic.exit (S _ _ _ _ (w4 h L) hw)
 |lab L=>intro bQ nest hi Q' e J ts hf jL h hw S;rw[JG] at hw;exact ic.lab (S _ _ _ _ (w4 h L) hw)
 |bad=>intro bQ nest hi Q' e J ts hf jL h hw S;unfold cJ at hw;exact hw.elim
 |scope a iq=>
  intro bQ nest hi Q' e J ts hf jL h hw S;rw[JM] at hw;refine ic.scope (iq hf jL h hw λx ts' e' hp' h' k=>?_);cases x with
  |goto l=>exact k.elim
  |_=>exact S _ _ _ _ h' k
 |ret L=>intro bQ nest hi Q' e J ts hf jL h hw S;rw[JL] at hw;exact ic.ret (S _ _ _ _ (w4 h L) hw)
 |region ops L=>
  intro bQ nest hi Q' e J ts hf jL h hw S;rw[JJ] at hw;refine ic.region hm ?_;refine UZ (E:=λch hp'=>hi.v (.panic ch) (mj ops e) hp') (λch J k ts hag=>S _ _ _ _ (RE h hag) k) ?_;exact Gq (E:=⟨λch hp'=>hi.v (.panic ch) (mj ops e) hp'⟩) hf h hw λts' e' hp' h' k=>S _ _ _ _ (w4 h' L) k
 |oe l L=>
  intro bQ nest hi Q' e J ts hf jL h hw S;rw[JK] at hw;refine ic.oe hm ?_;refine ahG (E:=λch hp'=>hi.v (.panic ch) (mj (l.map (·.1)) e) hp') (λch J k ts hag=>S _ _ _ _ (RE h hag) k) ?_;exact WU (E:=⟨λch hp'=>hi.v (.panic ch) (mj (l.map (·.1)) e) hp'⟩) hf h hw λts' e' hp' h' k=>S _ _ _ _ (w4 h' L) k
 |seq a b iq qx=>
  intro bQ nest hi Q' e J ts hf jL h hw S;simp only[c8.mR,dV] at hf;rw[Dl] at hw;refine ic.seq (iq hf.1 jL h hw λx ts' e' hp' h' k=>?_);cases x with
  |normal=>exact qx hf.2 jL h' k S
  |_=>exact S _ _ _ _ h' k
 |cond o a b iq qx=>
  intro bQ nest hi Q' e J ts hf jL h hw S;simp only[c8.mR,dV] at hf;rw[JE] at hw;obtain⟨v,Y,V⟩:=hw;have hv:=iY h Y;dsimp only at V;unfold BU at V;split at V;rename_i b';refine ic.cond hv ?_;cases b' with
  |true=>exact iq hf.1 jL h (V.1 rfl) S
  |false=>exact qx hf.2 jL h (V.2 rfl) S
  exact V.elim
 |block id a iq=>
  intro bQ nest hi Q' e J ts hf jL h hw S;rw[y7] at hw;refine ic.block (iq hf jL h hw λx ts' e' hp' h' k=>?_);cases x with
  |exit id'=>
   simp only[tj] at k;simp only[Ss];split;rename_i e1;rw[if_pos e1] at k;exact S _ _ _ _ h' k;rename_i e1;rw[if_neg e1] at k;exact S _ _ _ _ h' k
  |_=>exact S _ _ _ _ h' k
 |loop a iq=>
  intro bQ nest hi Q' e J ts hf jL h hw S;rw[JH] at hw;obtain⟨hx,m,h0,D⟩:=hw;refine ic.aup (λm s=>∃e,Has n s.ts e/\hx m e s.J) ⟨e,h,h0⟩ λm s ⟨e',h',hI⟩=>?_;refine iq hf jL h' (D m e' s.J hI) λx Vf e2 gJ V k=>?_;cases x with
  |normal=>
   obtain⟨m',hlt,aol⟩:=k;exact⟨m',hlt,e2,V,aol⟩
  |_=>exact S _ _ _ _ V k
 |oN ls L=>
  intro bQ nest hi Q' e J ts hf jL h hw S;simp only[c8.mR,c7] at hf;rw[FR] at hw;obtain⟨ρ,hw⟩:=hw;refine ic.oN hm ρ λl hl=>?_;refine UZ (E:=λch hp'=>hi.v (.panic ch) (mj ls.flatten e) hp') (λch J k ts hag=>S _ _ _ _ (RE h hag) k) ?_;exact Gq (E:=⟨λch hp'=>hi.v (.panic ch) (mj ls.flatten e) hp'⟩) (by rw[Zd];exact hf l hl) h (hw l hl) λts' e' hp' h' k=>S _ _ _ _ (w4 h' L) k
 |oL x ps a b L iq qx=>
  intro bQ nest hi Q' e J ts hf jL h hw S;simp only[c8.mR,dV] at hf;obtain⟨⟨⟨mV,hps⟩,HO⟩,HP⟩:=hf;rw[vI] at hw;obtain⟨g,fs,Z,I,D⟩:=hw;have q6:∀{pd:Option Code} {hp':List aa},@vb hi pd (kD L e) hp'->Sz Q' pd ⟨ts,hp'⟩:=λ{pd hp'} h3=>by
   cases pd with
   |none=>exact S _ _ _ _ (w4 h L) h3
   |some c=>
    cases c with
    |ret=>exact S _ _ _ _ (w4 h L) h3
    |exit id=>exact S _ _ _ _ (w4 h L) h3
    |_=>exact h3.elim
  have abC:∀k,Pn G P k ts ps (hG P a.aV b.aV) (λhi e J=>@cJ G P true a ⟨hi⟩ e J) (λhi e J=>@cJ G P true b ⟨hi⟩ e J) e:=λkk args hp' K hlen ⟨pd,hk'⟩ aqk=>by
   refine⟨⟨_,_,_,_,_,hk'⟩,aAg hk' aC4 ?_⟩;refine iq (bQ:=.plain) HO (λq=>aCE) (aoL h hps args) aqk λx sI e1 cZ Y k=>?_;cases x with
   |normal=>
    obtain⟨k1,k2⟩:=k;refine⟨k1,λpd=>qx (bQ:=.vt kk) HP (λ_=>rfl) Y (k2 pd) λx Vf e2 gJ V k=>?_⟩;cases x with
    |normal=>exact k
    |ret=>exact k
    |exit id=>exact k
    |_=>exact k.elim
   |_=>exact k.elim
  cases bQ with
  |plain=>cases mV
  |oy g ks=>cases mV
  |fn n0=>
   have:nest=false:=jL rfl;subst this;have hr':=D (J.length+1) (by simp[marks]) ts (hG P a.aV b.aV) (abC _);simp only[marks,je,if_false] at hr';exact ic.range (iY h I) (a_ hr' λr hp' ⟨st,pd,Y,V,h3⟩=>⟨st,pd,Y,V,q6 h3⟩)
  |vt k=>
   have:nest=true:=jL rfl;subst this;have hr':=D J.length (by simp[marks]) ts (hG P a.aV b.aV) (abC _);simp only[marks,if_true,ff] at hr';exact ic.awE (iY h I) (a_ hr' λr hp' ⟨st,pd,Y,V,h3⟩=>⟨st,pd,Y,V,q6 h3⟩)
def xF(e:Env)(J:List aa):e8->Option U
 |.s t=>eX e t
 |.c t aG n=>(eX e t).bind λp=>aq J aG n p
def qC(e:Env)(J:List aa):List e8->Option (List U)
 |[]=>some []
 |x::r=>(xF e J x).bind λa=>(qC e J r).map λl=>a::l
def jn(e:Env)(J:List aa)(rs:List e8):Option U:=(qC e J rs).map λl=>match l with
 |[x]=>x
 |l=>.aK l
def Fs(rs:List e8)[K:Hid (U->List aa->Prop)][E:Hid kz]:Post
 |.normal,e,J=>@e_ _ (jn e J rs) ⟨λr=>K.v r J⟩
 |.ret,e,J=>@e_ _ (jn e J rs) ⟨λr=>K.v r J⟩
 |.panic ch,_,J=>E.v ch J
 |_,_,_=>False
section
variable{rs:List e8}{K:Hid (U->List aa->Prop)}{E:Hid kz}{e:Env}{J:List aa}
def agH:@Fs rs K E .normal e J=@e_ _ (jn e J rs) ⟨λr=>K.v r J⟩:=rfl
def agJ:@Fs rs K E .ret e J=@e_ _ (jn e J rs) ⟨λr=>K.v r J⟩:=rfl
def agI:@Fs rs K E (.panic ch) e J=E.v ch J:=rfl
end
def mP:Nat->List U->Env
 |_,[]=>[]
 |i,a::r=>(i,a)::mP (i+1) r
def XG:∀{l:List U} {i k:Nat} {v:U},eX (mP i l) k=some v->i<=k/\l[k-i]?=some v
 |[],i,k,v,h=>aCL
 |a::r,i,k,v,h=>by
  simp only[mP,eX] at h;split at h;rename_i e;subst e;cases h;exact⟨bg _,aCt⟩;rename_i e;obtain⟨Y,V⟩:=XG h;refine⟨aCs,?_⟩;rw[show k-i=(k-(i+1))+1 by omega,vQ];exact V
def L3(h:args.length<=n):Has n (r6 args n) (mP 0 args):=by
 refine⟨by simp[r6];omega,λk v S=>?_⟩;obtain⟨_,V⟩:=XG S;rw[DH] at V;unfold r6;rw[ei (bF.1 V).1];exact V
def Jl(h:Has n ts e){r:U}(D:jn e J rs=some r):pS ⟨ts,J⟩ rs=some r:=by
 have key:∀{rs:List e8} {l:List U},qC e J rs=some l->Db ⟨ts,J⟩ rs=some l:=by
  intro rs
  induction rs with
  |nil=>intro l hl;cases hl;rfl
  |cons x r ih=>
   intro l hl;simp only[qC,eW,cg] at hl;obtain⟨a,Y,l',V,rfl⟩:=hl;have I:Jk ⟨ts,J⟩ x=some a:=by
    cases x with
    |s t=>simp only[Jk,h.2 _ _ Y,sX]
    |c t aG m=>
     simp only[xF,eW] at Y;obtain⟨p,q1,ah⟩:=Y;simp only[Jk,h.2 _ _ q1,sX,ah]
   simp only[Db,I,ih V]
 simp only[jn,cg] at D;obtain⟨l,Y,V⟩:=D;unfold pS;rw[key Y];split at V;subst V;rfl;rename_i hne;subst V;split;rename_i e1;cases e1;exact(hne _ rfl).elim;rename_i e1;cases e1;rfl;rename_i e1;cases e1
def ZW(hm:P.follows .mixedOrders=true)(F:pV P pu f=some ⟨n,rs,c.aV⟩)(hf:c.fits n=true)(hn:args.length<=n)
  (h:@cJ G P false c ⟨@Fs rs ⟨K⟩ ⟨E⟩⟩ (mP 0 args) J):fJ G P f args J K E:=by
 refine am_ F (JI (bQ:=.plain) hm hf (λq=>aCE) (L3 hn) h λx ts e hp' h' k=>?_);cases x with
 |normal=>
  obtain⟨r,Y,V⟩:=k;exact⟨r,Jl h' Y,V⟩
 |ret=>
  obtain⟨r,Y,V⟩:=k;exact⟨r,Jl h' Y,V⟩
 |panic ch=>exact k
 |_=>exact k.elim
def NK(n0:Nat)(rs:List e8)[K:Hid (U->List aa->Prop)][E:Hid kz]:Post
 |.normal,e,J=>∀hp',lJ n0 J hp'->@e_ _ (jn e hp' rs) ⟨λr=>K.v r hp'⟩
 |.ret,e,J=>∀hp',lJ n0 J hp'->@e_ _ (jn e hp' rs) ⟨λr=>K.v r hp'⟩
 |.panic ch,_,J=>∀hp',lJ n0 J hp'->E.v ch hp'
 |_,_,_=>False
section
variable{n0:Nat}{rs:List e8}{K:Hid (U->List aa->Prop)}{E:Hid kz}{e:Env}{J:List aa}
def Uv:@NK n0 rs K E .normal e J=∀hp',lJ n0 J hp'->@e_ _ (jn e hp' rs) ⟨λr=>K.v r hp'⟩:=rfl
def A3:@NK n0 rs K E .ret e J=∀hp',lJ n0 J hp'->@e_ _ (jn e hp' rs) ⟨λr=>K.v r hp'⟩:=rfl
end
def ZX(hm:P.follows .mixedOrders=true)(F:pV P pu f=some ⟨n,rs,c.aV⟩)(hf:c.mR n true=true)(hn:args.length<=n)
  (h:@cJ G P false c ⟨@NK J.length rs ⟨K⟩ ⟨E⟩⟩ (mP 0 args) J):fJ G P f args J K E:=by
 refine ana F (JI (bQ:=.fn J.length) hm hf (λ_=>rfl) (L3 hn) h λx ts e hp' h' k=>?_);cases x with
 |normal=>
  refine λgJ he=>?_;obtain⟨r,Y,V⟩:=k gJ he;exact⟨r,Jl h' Y,V⟩
 |ret=>
  refine λgJ he=>?_;obtain⟨r,Y,V⟩:=k gJ he;exact⟨r,Jl h' Y,V⟩
 |panic ch=>exact k
 |_=>exact k.elim
def agK[K:Hid (List aa->Prop)]:Post
 |.normal,_,J=>K.v J
 |.ret,_,J=>K.v J
 |_,_,_=>False
section
variable{K:Hid (List aa->Prop)}{e:Env}{J:List aa}
end
def Y2(hm:P.follows .mixedOrders=true){d0 d1:Nat}(F:FG P hb g=some ⟨n,d0,d1,c.aV⟩)(hf:c.fits n=true)(hd:d0<n/\d1<n)(hn:args.length<=n){x:Option U}{v:Option Value}{K:List aa->Prop}
  (I:match x,v with|none,none=>True|some x,some v=>tW x=true/\ox x=some v|_,_=>False)
  (h:@cJ G P false c ⟨@agK ⟨K⟩⟩ ((d1,nG x)::(d0,nG x)::mP 0 args) J):jf G P g args J v K:=by
 refine ami F I (JI (bQ:=.plain) hm hf (λq=>aCE) ?_ h λx ts e hp' h' k=>?_);have:=Ew (d:=some d1) (v:=nG x) (Ew (d:=some d0) (v:=nG x) (L3 hn) (by simpa using hd.1)) (by simpa using hd.2);exact this;cases x with
 |normal=>exact⟨ax rfl,k⟩
 |ret=>exact⟨az rfl,k⟩
 |_=>exact k.elim
def jf.mono{x:Option Value}{K K':List aa->Prop}(h:jf G P g args J x K)(S:∀J,K J->K' J):jf G P g args J x K':=
 ⟨h.1,λbase w0 C M w args' hs D=>CallsDIn.mono (h.2 base w0 C M w args' hs D) λe u' w' ⟨aC,M',hp',v,k,rest⟩=>⟨aC,M',hp',v,S _ k,rest⟩⟩
def agG(G:Cells)(P:Program)(g:FuncId)(ks:List Nat)(rs:List e8)[K:Hid (U->List aa->Prop)]:Post
 |.normal,e,J=>jf G P g (ks.map λk=>.mp k 0) J none λhp'=>@e_ _ (jn e hp' rs) ⟨λr=>K.v r hp'⟩
 |.ret,e,J=>jf G P g (ks.map λk=>.mp k 0) J none λhp'=>@e_ _ (jn e hp' rs) ⟨λr=>K.v r hp'⟩
 |.panic ch,e,J=>∃v,ch=[{v:=v,recovered:=false}]/\jf G P g (ks.map λk=>.mp k 0) J (some v) λhp'=>@e_ _ (jn e hp' rs) ⟨λr=>K.v r hp'⟩
 |_,_,_=>False
def ZV(hm:P.follows .mixedOrders=true){t:Nat}{caps:List bJ}{a b:c8}(F:FF P hb f=some ⟨n,rs,a.aV,t,g,caps,b.aV⟩)(HO:a.fits n=true)(HP:b.fits n=true)(ht:t<n)(hn:args.length<=n)
  (h:@cJ G P false a ⟨@pW ⟨λe J=>∃ks:List Nat,ld e caps=some (ks.map λk=>.mp k 0)/\@cJ G P false b ⟨@agG G P g ks rs ⟨K⟩⟩ ((t,.fn (.func g) [] (ks.map λk=>.mp k 0))::e) J⟩ ⟨λ_ _ _=>False⟩⟩ (mP 0 args) J):bq G P f args J K:=by
 refine am9 F (JI (bQ:=.plain) hm HO (λq=>aCE) (L3 hn) h λx ts e hp' h' k=>?_);cases x with
 |normal=>
  obtain⟨ks,Y,V⟩:=k;refine⟨rfl,by rw[h'.1];exact ht,ks,r7 h' Y,JI (bQ:=.oy g ks) hm HP (λq=>aCE) ?_ V λx Vf e2 gJ h3 k=>?_⟩;exact Ew (d:=some t) h' (by simpa using ht);have res:∀hp',@e_ _ (jn e2 hp' rs) ⟨λr=>K r hp'⟩->∃r,pS ⟨Vf,hp'⟩ rs=some r/\K r hp':=λhp' ⟨r,q1,ah⟩=>⟨r,Jl h3 q1,ah⟩;cases x with
  |normal=>
   have k':jf G P g (ks.map λk=>.mp k 0) gJ none λhp'=>@e_ _ (jn e2 hp' rs) ⟨λr=>K r hp'⟩:=k;exact jf.mono k' res
  |ret=>
   have k':jf G P g (ks.map λk=>.mp k 0) gJ none λhp'=>@e_ _ (jn e2 hp' rs) ⟨λr=>K r hp'⟩:=k;exact jf.mono k' res
  |panic ch=>
   obtain⟨v,q1,ah⟩:=k;exact⟨v,q1,jf.mono ah res⟩
  |_=>exact k.elim
 |_=>exact k.elim
def pZ{nest:Bool}:∀{c:c8} {hi Q':Hid Post} {e:Env} {J:List aa},@cJ G P nest c hi e J->(∀x e J,hi.v x e J->Q'.v x e J)->@cJ G P nest c Q' e J:=by
 have instr:∀{i:fL} {F F':Hid (U->List aa->Prop)} {E E':Hid kz} {e:Env} {J:List aa},@gY G P i F E e J->(∀v J,F.v v J->F'.v v J)->(∀ch J,E.v ch J->E'.v ch J)->@gY G P i F' E' e J:=by
  intro i F F' E E' e J h hF hE;cases i with
  |op o=>obtain⟨v,Y,V⟩:=h;exact⟨v,Y,hF _ _ V⟩
  |call f args=>obtain⟨cl,Y,V⟩:=h;exact⟨cl,Y,a_ V hF⟩
  |lQ x args=>
   obtain⟨x',h0,cl,Y,V⟩:=h;exact⟨x',h0,cl,Y,rL V hF⟩
  |lz f args=>obtain⟨cl,Y,bs,r',V,h3,h4⟩:=h;exact⟨cl,Y,bs,r',V,h3,hF _ _ h4⟩
  |mD f args r=>obtain⟨cl,Y,bs,V,h3,h4⟩:=h;exact⟨cl,Y,bs,V,h3,hF _ _ h4⟩
  |nt f args=>obtain⟨cl,Y,V⟩:=h;exact⟨cl,Y,e4 V hF hE⟩
  |nu x args=>
   obtain⟨x',h0,cl,Y,V⟩:=h;exact⟨x',h0,cl,Y,VM V hF hE⟩
  |eU x=>obtain⟨v,Y,V⟩:=h;exact⟨v,Y,hE _ _ V⟩
 have alh:∀{v:U} {A B A' B':Hid Prop},@BU v A B->(A.v->A'.v)->(B.v->B'.v)->@BU v A' B':=by
  intro v A B A' B' h Y V;unfold BU at h⊢;split at h;exact⟨λq=>Y (h.1 q),λq=>V (h.2 q)⟩;exact h.elim
 have guard:∀{w:Bool} {v:U} {A B A' B':Hid Prop},@q2 w v A B->(A.v->A'.v)->(B.v->B'.v)->@q2 w v A' B':=by
  intro w v A B A' B' h Y V;unfold q2 at h⊢;split at h;cases w with
  |true=>exact⟨λq=>Y (h.1 q),λq=>V (h.2 q)⟩
  |false=>exact⟨λq=>V (h.1 q),λq=>Y (h.2 q)⟩
  exact V h;exact h.elim
 have run:∀{l:List aL} {K K':Hid (Env->List aa->Prop)} {E E':Hid kz} {e:Env} {J:List aa},@iF G P l K E e J->(∀e J,K.v e J->K'.v e J)->(∀ch J,E.v ch J->E'.v ch J)->@iF G P l K' E' e J:=by
  intro l
  induction l with
  |nil=>intro K K' E E' e J h S hE;rw[BJ] at h⊢;exact S _ _ h
  |cons o r ih=>
   intro K K' E E' e J h S hE;obtain⟨d,g,i⟩:=o
   rcases g with _|⟨k,w⟩
   rw[DV] at h⊢;exact instr h (λv hp' q=>ih q S hE) hE;rw[DU] at h⊢;obtain⟨g,Y,V⟩:=h;exact⟨g,Y,guard V (λq=>instr q (λv hp' q=>ih q S hE) hE) λq=>ih q S hE⟩
 have axk:∀{l:List (aL×List aL)} {K K':Hid (Env->List aa->Prop)} {E E':Hid kz} {e:Env} {J:List aa},@qS G P l K E e J->(∀e J,K.v e J->K'.v e J)->(∀ch J,E.v ch J->E'.v ch J)->@qS G P l K' E' e J:=by
  intro l
  induction l with
  |nil=>intro K K' E E' e J h S hE;rw[DW] at h⊢;exact S _ _ h
  |cons o r ih=>
   intro K K' E E' e J h S hE;obtain⟨o,Z⟩:=o;rw[DX] at h⊢;exact run h (λe J k=>⟨k.1,ih k.2 S hE⟩) hE
 intro c
 induction c with
 |skip L=>intro hi Q' e J h hq;rw[JN] at h⊢;exact hq _ _ _ h
 |exit id L=>intro hi Q' e J h hq;rw[JF] at h⊢;exact hq _ _ _ h
 |lab L=>intro hi Q' e J h hq;rw[JG] at h⊢;exact hq _ _ _ h
 |bad=>intro hi Q' e J h hq;unfold cJ at h;exact h.elim
 |scope a iq=>
  intro hi Q' e J h hq;rw[JM] at h⊢;refine iq h λx e' hp' k=>?_;cases x with
  |goto l=>exact k.elim
  |_=>exact hq _ _ _ k
 |ret L=>intro hi Q' e J h hq;rw[JL] at h⊢;exact hq _ _ _ h
 |region ops L=>intro hi Q' e J h hq;rw[JJ] at h⊢;exact run h (λe' hp' k=>hq _ _ _ k) λch hp' k=>hq _ _ _ k
 |oe l L=>intro hi Q' e J h hq;rw[JK] at h⊢;exact axk h (λe' hp' k=>hq _ _ _ k) λch hp' k=>hq _ _ _ k
 |seq a b iq qx=>
  intro hi Q' e J h hq;rw[Dl] at h⊢;refine iq h λx e' hp' k=>?_;cases x with
  |normal=>exact qx k hq
  |_=>exact hq _ _ _ k
 |cond o a b iq qx=>intro hi Q' e J h hq;rw[JE] at h⊢;obtain⟨v,Y,V⟩:=h;exact⟨v,Y,alh V (λq=>iq q hq) (λq=>qx q hq)⟩
 |block id a iq=>
  intro hi Q' e J h hq;rw[y7] at h⊢;refine iq h λx e' hp' k=>?_;cases x with
  |exit id'=>
   simp only[tj] at k⊢;split at k;rename_i e1;rw[if_pos e1];exact hq _ _ _ k;rename_i e1;rw[if_neg e1];exact hq _ _ _ k
  |_=>exact hq _ _ _ k
 |loop a iq=>
  intro hi Q' e J h hq;rw[JH] at h⊢;obtain⟨hx,m,h0,D⟩:=h;refine⟨hx,m,h0,λm e J hI=>iq (D m e J hI) λx e' hp' k=>?_⟩;cases x with
  |normal=>exact k
  |_=>exact hq _ _ _ k
 |oN ls L=>intro hi Q' e J h hq;rw[FR] at h⊢;obtain⟨ρ,h⟩:=h;exact⟨ρ,λl hl=>run (h l hl) (λe' hp' k=>hq _ _ _ k) λch hp' k=>hq _ _ _ k⟩
 |oL x ps a b L iq qx=>
  intro hi Q' e J h hq;rw[vI] at h⊢;obtain⟨g,fs,Z,I,D⟩:=h;refine⟨g,fs,Z,I,λk S ats ok hR=>a_ (D k S ats ok hR) λr hp' ⟨st,pd,Y,V,h3⟩=>⟨st,pd,Y,V,?_⟩⟩;cases pd with
  |none=>exact hq _ _ _ h3
  |some c=>
   cases c with
   |ret=>exact hq _ _ _ h3
   |exit id=>exact hq _ _ _ h3
   |_=>exact h3.elim
section
variable{G:Cells}{P:Program}{nest:Bool}{hi:Hid Post}{e:Env}{J:List aa}
def cB{a b:c8}(M:Env->List aa->Prop)(Y:@cJ G P nest a ⟨@pW ⟨M⟩ ⟨λ_ _ _=>False⟩⟩ e J)(V:∀e J,M e J->@cJ G P nest b hi e J):@cJ G P nest (.seq a b) hi e J:=by
 rw[Dl];refine pZ (c:=a) Y λx e J k=>?_;cases x with
 |normal=>exact V _ _ k
 |_=>exact k.elim
def fR{a b:c8}(M:Env->List aa->Prop)(Y:@cJ G P nest a ⟨@pW ⟨M⟩ hi⟩ e J)(V:∀e J,M e J->@cJ G P nest b hi e J):@cJ G P nest (.seq a b) hi e J:=by
 rw[Dl];refine pZ (c:=a) Y λx e J k=>?_;cases x with
 |normal=>exact V _ _ k
 |_=>exact k
def b9{x:c8}(hx:Nat->Env->List aa->Prop)(n:Nat)(h0:hx 0 e J)(round:∀i e J,i<n->hx i e J->@cJ G P nest x ⟨@pW ⟨hx (i+1)⟩ hi⟩ e J)(last:∀e J,hx n e J->@cJ G P nest x ⟨@pW ⟨λ_ _=>False⟩ hi⟩ e J):@cJ G P nest (.loop x) hi e J:=by
 rw[JH];refine⟨λk e J=>∃i,k=n-i/\i<=n/\hx i e J,_,⟨0,rfl,iE _,h0⟩,λk e J ⟨i,S,Q,hI⟩=>?_⟩
 rcases cH i n with hl|hl
 refine pZ (round i e J hl hI) λx e' hp' q=>?_;cases x with
 |normal=>exact⟨n-(i+1),aCs,i+1,rfl,hl,q⟩
 |_=>exact q
 have e1:i=n:=aCs
 subst e1;refine pZ (last e J hI) λx e' hp' q=>?_;cases x with
 |normal=>exact q.elim
 |_=>exact q
def nh{x:c8}(hx:Nat->Env->List aa->Prop)(h0:hx n e J)(round:∀n e J,hx n e J->@cJ G P nest x ⟨@pW ⟨λe' hp'=>∃m,m<n/\hx m e' hp'⟩ hi⟩ e J):@cJ G P nest (.loop x) hi e J:=by
 rw[JH];exact⟨hx,n,h0,round⟩
end
def lY:type_of% @JN/\type_of% @JJ/\type_of% @FR/\type_of% @Dl/\type_of% @JE/\type_of% @y7/\type_of% @JF/\type_of% @JL/\type_of% @BJ/\type_of% @DV/\type_of% @DU/\type_of% @aax/\type_of% @aav/\type_of% @aaw/\type_of% @aa6/\type_of% @aiF/\type_of% @aiG/\type_of% @Kb/\type_of% @Ka/\type_of% @X7/\type_of% @aij/\type_of% @aii/\type_of% @ail/\type_of% @XZ/\type_of% @X1/\type_of% @X2/\type_of% @XY/\type_of% @agH/\type_of% @agJ/\type_of% @Yn/\type_of% @m_/\type_of% @wm/\type_of% @Xi/\type_of% @Xj/\type_of% @Xk/\type_of% @Xl/\type_of% @wo/\type_of% @kB/\type_of% @D5/\type_of% @XB/\type_of% @PD/\type_of% @W8/\type_of% @Xg/\type_of% @Xe/\type_of% @W_/\type_of% @Xf/\type_of% @Xd/\type_of% @Xc/\type_of% @Xb/\type_of% @Xa/\type_of% @Py/\type_of% @Pz/\type_of% @aik/\type_of% @X0/\type_of% @agI/\type_of% @Yo/\type_of% @JK/\type_of% @DW/\type_of% @DX/\type_of% @JM/\type_of% @JG/\type_of% @ahh/\type_of% @ahg/\type_of% @ahj/\type_of% @ahi:=
 ⟨@JN,@JJ,@FR,@Dl,@JE,@y7,@JF,@JL,@BJ,@DV,@DU,@aax,@aav,@aaw,@aa6,@aiF,@aiG,@Kb,@Ka,@X7,@aij,@aii,@ail,@XZ,@X1,@X2,@XY,@agH,@agJ,@Yn,@m_,@wm,@Xi,@Xj,@Xk,@Xl,@wo,@kB,@D5,@XB,@PD,@W8,@Xg,@Xe,@W_,@Xf,@Xd,@Xc,@Xb,@Xa,@Py,@Pz,@aik,@X0,@agI,@Yo,@JK,@DW,@DX,@JM,@JG,@ahh,@ahg,@ahj,@ahi⟩
def lZ:type_of% @bz.eq_1/\type_of% @bz.eq_2/\type_of% @bz.eq_3/\type_of% @bz.eq_4/\type_of% @bz.eq_5/\type_of% @bz.eq_6/\type_of% @bz.eq_7/\type_of% @bz.eq_8/\type_of% @bz.eq_9/\type_of% @bz.eq_10/\type_of% @bz.eq_11/\type_of% @bz.eq_12/\type_of% @bz.eq_13/\type_of% @bz.eq_14/\type_of% @bz.eq_15/\type_of% @bz.eq_16/\type_of% @bz.eq_17/\type_of% @bz.eq_18/\type_of% @bz.eq_19/\type_of% @bz.eq_20/\type_of% @bz.eq_21/\type_of% @bz.eq_22/\type_of% @bz.eq_23/\type_of% @bz.eq_24/\type_of% @bz.eq_25/\type_of% @bz.eq_26/\type_of% @bz.eq_27/\type_of% @bz.eq_28/\type_of% @bz.eq_29/\type_of% @bz.eq_30/\type_of% @bz.eq_31/\type_of% @bz.eq_32/\type_of% @bz.eq_33/\type_of% @bz.eq_34/\type_of% @bz.eq_35/\type_of% @bz.eq_36/\type_of% @bz.eq_37/\type_of% @bz.eq_38/\type_of% @bz.eq_39/\type_of% @bz.eq_40/\type_of% @bz.eq_41/\type_of% @bz.eq_42/\type_of% @bz.eq_43/\type_of% @bz.eq_44/\type_of% @bz.eq_45/\type_of% @bz.eq_46/\type_of% @bz.eq_47/\type_of% @cL.eq_1/\type_of% @cL.eq_2/\type_of% @ld.eq_1/\type_of% @ld.eq_2/\type_of% @uU.eq_1/\type_of% @uU.eq_2/\type_of% @z7.eq_1/\type_of% @z7.eq_2/\type_of% @eX.eq_1/\type_of% @eX.eq_2/\type_of% @z1.eq_1/\type_of% @z1.eq_2/\type_of% @kD.eq_1/\type_of% @kD.eq_2/\type_of% @nF.eq_1/\type_of% @nF.eq_2/\type_of% @mP.eq_1/\type_of% @mP.eq_2/\type_of% @Fi.eq_1/\type_of% @Fi.eq_2/\type_of% @jn.eq_1/\type_of% @qC.eq_1/\type_of% @qC.eq_2/\type_of% @xF.eq_1/\type_of% @xF.eq_2/\type_of% @ko.{0,0}/\type_of% @Option.bind_none.{0,0}/\type_of% @ir.{0,0}/\type_of% @Option.map_none.{0,0}/\type_of% @e6/\type_of% @nP/\type_of% @je:=
 ⟨@bz.eq_1,@bz.eq_2,@bz.eq_3,@bz.eq_4,@bz.eq_5,@bz.eq_6,@bz.eq_7,@bz.eq_8,@bz.eq_9,@bz.eq_10,@bz.eq_11,@bz.eq_12,@bz.eq_13,@bz.eq_14,@bz.eq_15,@bz.eq_16,@bz.eq_17,@bz.eq_18,@bz.eq_19,@bz.eq_20,@bz.eq_21,@bz.eq_22,@bz.eq_23,@bz.eq_24,@bz.eq_25,@bz.eq_26,@bz.eq_27,@bz.eq_28,@bz.eq_29,@bz.eq_30,@bz.eq_31,@bz.eq_32,@bz.eq_33,@bz.eq_34,@bz.eq_35,@bz.eq_36,@bz.eq_37,@bz.eq_38,@bz.eq_39,@bz.eq_40,@bz.eq_41,@bz.eq_42,@bz.eq_43,@bz.eq_44,@bz.eq_45,@bz.eq_46,@bz.eq_47,@cL.eq_1,@cL.eq_2,@ld.eq_1,@ld.eq_2,@uU.eq_1,@uU.eq_2,@z7.eq_1,@z7.eq_2,@eX.eq_1,@eX.eq_2,@z1.eq_1,@z1.eq_2,@kD.eq_1,@kD.eq_2,@nF.eq_1,@nF.eq_2,@mP.eq_1,@mP.eq_2,@Fi.eq_1,@Fi.eq_2,@jn.eq_1,@qC.eq_1,@qC.eq_2,@xF.eq_1,@xF.eq_2,@ko.{0,0},@Option.bind_none.{0,0},@ir.{0,0},@Option.map_none.{0,0},@e6,@nP,@je⟩
def cu{b c d:Prop}(x:a)(y:b)(z:c)(u:d):a/\b/\c/\d:=⟨x,y,z,u⟩
def FQ{p q a0:Prop}(x0:a0)(h:q)(e:a0->q->p:=by intro f0 hh;simp -failIfUnchanged -implicitDefEqProofs (disch:=first|assumption|decide|omega) only[gY,lY,lZ,↓reduceIte,Nat.reduceEqDiff,Nat.reduceAdd,Nat.reduceLT,Nat.reduceLeDiff,f0];exact hh):p:=e x0 h
def azU{p q a b:Prop}(x:a)(y:b)(h:q)(e:a/\b->q->p:=by intro f h;exact FQ f h):p:=e ⟨x,y⟩ h
def azV{p q a b c d:Prop}(x:a)(y:b)(z:c)(u:d)(h:q)(e:a/\b/\c/\d->q->p:=by intro f h;exact FQ f h):p:=e ⟨x,y,z,u⟩ h
def Vx{p q a b c d f:Prop}(x:a)(y:b)(z:c)(u:d)(v:f)(h:q)(e:a/\b/\c/\d/\f->q->p:=by intro f h;exact FQ f h):p:=e ⟨x,y,z,u,v⟩ h
def azW{p q a b c d f g i:Prop}(x:a)(y:b)(z:c)(u:d)(v:f)(w:g)(r:i)(h:q)(e:a/\b/\c/\d/\f/\g/\i->q->p:=by intro f h;exact FQ f h):p:=e ⟨x,y,z,u,v,w,r⟩ h
def aiH{p q a b c d f g i j:Prop}(x:a)(y:b)(z:c)(u:d)(v:f)(w:g)(r:i)(s:j)(h:q)(e:a/\b/\c/\d/\f/\g/\i/\j->q->p:=by intro f h;exact FQ f h):p:=e ⟨x,y,z,u,v,w,r,s⟩ h
def aiI{p q a b c d f g i j k:Prop}(x:a)(y:b)(z:c)(u:d)(v:f)(w:g)(r:i)(s:j)(t:k)(h:q)(e:a/\b/\c/\d/\f/\g/\i/\j/\k->q->p:=by intro f h;exact FQ f h):p:=e ⟨x,y,z,u,v,w,r,s,t⟩ h
end
open Go.ChangeShapes Go.WideShapes Go.ChangeAt
def sY(W:World):Cells:=λb o=>W.cell? ⟨b,o,none⟩
section
variable{H:Type}{enc:TypeId×Value->H}{P:Program}
def ais(hl:laidOutB P=true){W W':World}{sp:Nat->Bool}(O:Below W.heap.size W W'):∀{ts:List TypeId} {vs:List Value} {ds:List (DataW H)} {ps:List MemPlace},(∀t∈ts,P.readableRec t=true/\t<P.types.size)->
  OE enc P W 0 (λ_=>true) true ts vs ds ps->(∀p∈ps,p.block<W.heap.size)->(∀p∈ps,sp p.block=true)->OE enc P W' 0 sp true ts vs ds ps
 |[],[],[],_,_,h,_,_=>h
 |t::ts,v::vs,d::ds,ps,ht,⟨p,q,Y,V,e⟩,hlt,hsp=>by
  subst e;refine⟨p,q,WideElems.Trod_stays hl (ht t aCt).1 (ht t aCt).2 Y (λx I=>O.same (hlt x aCG)) (λx I=>hsp x aCG),?_,rfl⟩;exact ais hl O (λu hu=>ht u (by simp[hu])) V (λx I=>hlt x aCG) (λx I=>hsp x aCG)
def ak8{W W':World}(O:Below W.heap.size W W')(may:MemPlace->Prop):W.keptBut W' may:=by
 refine⟨O.os,O.output,λi Q=>?_⟩;rw[O.block i Q];split;rename_i a b c a' b' c' Y V;rw[Y] at V;cases V;exact⟨rfl,rfl,rfl,λ_ _=>rfl⟩;rename_i Y V;rw[Y] at V;cases V;exact az ⟨rfl,rfl⟩;rfl
def ak6{W W':World}(O:Below W.heap.size W W'){b off:Nat}(h:b<W.heap.size):W'.frozen? ⟨b,off,none⟩=W.frozen? ⟨b,off,none⟩:=by
 unfold V4;rw[O.block b h]
def atx{f:FuncId}{fn:Func}{s:ChangeSpec}{tb:TypeId}(hl:laidOutB P=true)(htb:P.underlying tb=some .bool)(hres:fn.resultTypes= #[tb])
  (hread:∀t∈fn.params.toList,P.readableRec t=true/\t<P.types.size) (hvars:s.vars=[]) {W:World} {args:Array Value} {ds gs:List (DataW H)} {before:List MemPlace}
  (hspec:∀gs,gs=[]->s.fn H (ds++gs)={results:=[.lit (.bool true)],args:=ds}) (hW:DataW.Whole enc P fn.params.toList s.vars false W args.toList ds gs before)
  {cN:List U} (hT:BL W) (J:b_ (sY W) P f cN (.v (.bool true))) (D:bY (sY W) [] [] cN args.toList):
  Calls P f args W λe W'=>∃v,e=.returned v/\s.post enc P fn false true false false W args v W':=by
 have w5:=J.2 (sY W) W args.toList ⟨λb o v h=>h,hT⟩ (λb o v h=>h) D;rw[Array.toArray_toList] at w5;refine w5.mono λe W' ⟨aC,v',he,_,_,_,O,fO,_⟩=>?_;cases fO;subst he;refine⟨_,rfl,?_⟩;have hlt:∀p∈before,p.block<W.heap.size:=λp J=>hW.lt p J;have Rw:=hW;obtain⟨p,q,hA,hV,rfl,hz,hn⟩:=hW;rw[hvars] at hV;obtain⟨rfl,rfl⟩:=trodVars_none hV;have hs:=hspec [] rfl;have hargs:∀sp:Nat->Bool,(∀x∈p++[],sp x.block=true)->OE enc P W' 0 sp true fn.params.toList args.toList ds p:=λsp hsp=>
  ais hl O hread hA (λx I=>hlt x aCG) (λx I=>hsp x aCG)
 have abz:∀(b:Nat) (sp:Nat->Bool) (hd:Bool),OE enc P W' b sp hd fn.resultTypes.toList ((Value.bool true).resultList fn.resultTypes.size) [.lit (.bool true)] []:=λb sp hd=>by
  rw[hres];exact trodAll_cons_mk (shut_bool htb _) trodAll_mk0
 have abG:∀sp,DataW.TrodVars enc P W' sp s.vars [] []:=λsp=>by rw[hvars];rfl
 refine⟨ds,[],p++[],[],p,[],Rw,?_,?_,?_,ak8 O _,λ_=>?_⟩;rw[hs];exact abz _ _ _;rw[hs];exact hargs _ (λx I=>by simpa using hlt x I);rw[hs];exact abG _;refine⟨ok_one hres rfl (okWide_bool_mk htb _),_,_,([]++p)++[],⟨[]++p,[],trodAll_append (hargs _ (λ_ _=>rfl)) (abz _ _ _),by simpa using abG _,aCt,?_,?_⟩,?_⟩;intro b off hp';rw[ak6 O (show b<W.heap.size from hlt (.cell b off) (by simpa using hp'))];exact hz b off (by simpa using hp');intro ha;cases ha;intro x I _;simpa using I
def aw1{a:Assume}{C:Checked}{os:Os}{f:FuncId}{fn:Func}{s:ChangeSpec}{conds:List PathCond}{apart fresh handsOn again:Bool}{X:World->Array Value->Prop}
  (hX:∀(w w':World) (args:Array Value),w.heap=w'.heap->X w args->X w' args)
  (own:ownKnob C.prog.godebug=none) (started:os.Started) (noInit:C.prog.inits.idxOf? f=none) (hfn:C.prog.funcs[f]?=some fn)
  (witness:∃(w:World) (tape:Tape) (i:Input),w.os=os/\(w.forCall tape i).Shaped C.prog/\i.vars=[]/\Input.okWide C.prog (w.forCall tape i) .any w.heap.size f i/\
    ((s.pre enc C.prog fn conds apart (w.forCall tape i).memory i.args/\X (w.forCall tape i).memory i.args)/\sizedMet enc C.prog fn (V1 s) apart (w.forCall tape i).memory i.args)/\a.holds C.prog (lone (Frame.enter C.prog f i.args .normal) [] (w.forCall tape i)))
  (contract:∀(W:World) (base:Nat) (args:Array Value) (ds gs:List (DataW H)) (before:List MemPlace),
    (∀(j:Nat) t v,fn.params[j]?=some t->args[j]?=some v->DB C.prog W .any base t v)->
    DataW.Whole enc C.prog fn.params.toList s.vars apart W args.toList ds gs before->X W args->W.ShapedOpen C.prog->
    Calls C.prog f args W λe W'=>∃v,e=.returned v/\s.post enc C.prog fn apart fresh handsOn again W args v W'):
  ReturnsInHanded a C os f .any (λw args=>(s.pre enc C.prog fn conds apart w args/\X w args)/\sizedMet enc C.prog fn (V1 s) apart w args) (s.post enc C.prog fn apart fresh handsOn again):=by
 refine returnsInHanded_of_calls own started noInit witness ?_;intro w tape i _ hsh _ hok hpre hholds;obtain⟨_,_,_,fn',ao7,_,_,_,_,hval⟩:=hok;have e:fn'=fn:=l7 (ao7.symm.trans hfn);subst e;obtain⟨⟨⟨ds,gs,before,hw,T⟩,I⟩,hz⟩:=hpre;have hw':=DataW.Whole.of_heap (w':=w.forCall tape i) (by rfl) hw;refine(contract (w.forCall tape i) w.heap.size i.args ds gs before hval hw' (hX _ _ _ (by rfl) I) hsh).mono λe W' ⟨v,he,J⟩=>?_;subst he;exact ChangeSpec.post_blind J
end
inductive kN where
 |i (k:IntKind)
 |b
 |s
 |sl (e:List kN)
inductive s0(W:World):kN->Value->Prop
 |i {k:IntKind} {n:Int} (h:(Lit.int k n).wf=true):s0 W (.i k) (.int k n)
 |b {x:Bool}:s0 W .b (.bool x)
 |s {x:ByteArray} (h:x.size<=maxLen):s0 W .s (.string x)
 |nil {e:List kN}:s0 W (.sl e) (.slice none 0 0)
 |sl {e:List kN} {a:Addr} {len cap:Nat} (g:Nat->Nat->Value) (hl:len<=cap) (T:cap<=maxLen) (hsp:0<len->0<e.length->a.spot=none)
  (hC:∀i j c,i<len->e[j]?=some c->W.cell? ⟨a.block,a.off+i*e.length+j,none⟩=some (g i j))
  (hR:∀i j c,i<len->e[j]?=some c->s0 W c (g i j)):s0 W (.sl e) (.slice (some a) len cap)
def l_(W:World)(L:List kN)(Z:List Value):Prop:=L.length=Z.length/\∀(i:Nat) c v,L[i]?=some c->Z[i]?=some v->s0 W c v
def LF(P:Program)(g:TypeId->Option (List kN)):List Field->Nat->Option (List kN)
 |[],_=>some []
 |f::r,off=>if f.offset=off then match g f.type with
   |some l=>if P.cellsOf f.type=l.length then(LF P g r (off+l.length)).map (l++ ·) else none
   |none=>none
  else none
def AZ:Nat->List kN->List kN
 |0,_=>[]
 |n+1,l=>l++AZ n l
def B7(P:Program):Nat->TypeId->Option (List kN)
 |0,_=>none
 |f+1,t=>match P.underlying t with
  |some (.int k)=>some [.i k]
  |some .bool=>some [.b]
  |some .string=>some [.s]
  |some (.slice e)=>match B7 P f e with
   |some l=>if P.cellsOf e=l.length then some [.sl l] else none
   |none=>none
  |some (.struct fs)=>match LF P (B7 P f) fs.toList 0 with
   |some l=>if P.cellsOf t=l.length then some l else none
   |none=>none
  |some (.array n e)=>match B7 P f e with
   |some l=>if P.cellsOf e=l.length/\P.cellsOf t=n*l.length then some (AZ n l) else none
   |none=>none
  |_=>none
section
variable{H:Type}{enc:TypeId×Value->H}{P:Program}{W:World}{sp:Nat->Bool}{held:Bool}
def Yq{L L':List kN}{Z cs':List Value}(h:l_ W L Z)(h':l_ W L' cs'):l_ W (L++L') (Z++cs'):=by
 refine⟨by simp[h.1,h'.1],λi c v T hv=>?_⟩
 rcases cH i L.length with Q|Q
 rw[ei Q] at T;rw[ei (by rw[<-h.1];exact Q)] at hv;exact h.2 i c v T hv;rw[en Q] at T;rw[en (by rw[<-h.1];exact Q),<-h.1] at hv;exact h'.2 _ c v T hv
def GL{c:kN}{v:Value}(h:s0 W c v):l_ W [c] [v]:=⟨rfl,λi c' v' T hv=>by
 cases i with
 |zero=>simp at T hv;subst T;subst hv;exact h
 |succ i=>simp at T⟩
def awR(n:Nat)(l:List kN):(AZ n l).length=n*l.length:=by
 induction n with
 |zero=>simp[AZ]
 |succ n ih=>simp only[AZ,cG,ih,qK];omega
def Zc{α:Type}(Z:List α)(off n:Nat):Z.drop off=(Z.drop off).take n++Z.drop (off+n):=by
 conv=>lhs;rw[<-Wi n (Z.drop off)]
 rw[uy]
def Z7{g:TypeId->Option (List kN)}{Z:List Value}{R:TypeId->List Value->Prop}(hg:∀t l v,g t=some l->R t v->l_ W l v):
  ∀(fs:List Field) (off:Nat) (L:List kN),LF P g fs off=some L->(∀f∈fs,R f.type ((Z.drop f.offset).take (P.cellsOf f.type)))->(Z.drop off).length=L.length->l_ W L (Z.drop off)
 |[],off,L,h,_,hl=>by
  cases h;have:Z.drop off=[]:=lG hl;rw[this];exact⟨rfl,λi c v T=>aEU⟩
 |f::r,off,L,h,hR,hl=>by
  simp only[LF] at h;split at h;rename_i hoff;subst hoff;split at h;rename_i l ja;split at h;rename_i hn;simp only[cg] at h;obtain⟨L',hL',rfl⟩:=h;have Y:=hg _ _ _ ja (hR f aCt);rw[Zc Z f.offset (P.cellsOf f.type)];refine Yq Y ?_;rw[hn];refine Z7 hg r (f.offset+l.length) L' hL' (λf' hf'=>hR f' (by simp[hf'])) ?_;simp only[cG,uz] at hl⊢;omega;cases h;cases h;cases h
def agB{l:List kN}{Z:List Value}(n:Nat):∀(k i:Nat),k+i=n->(∀j,j<n->l_ W l ((Z.drop (j*l.length)).take l.length))->(Z.drop (i*l.length)).length=k*l.length->l_ W (AZ k l) (Z.drop (i*l.length))
 |0,i,_,_,hl=>by
  have:Z.drop (i*l.length)=[]:=lG (by rw[hl];simp);rw[this];exact⟨rfl,λi c v T=>by simp[AZ] at T⟩
 |k+1,i,S,hR,hl=>by
  rw[Zc Z (i*l.length) l.length];refine Yq (hR i aCs) ?_;have e:i*l.length+l.length=(i+1)*l.length:=by rw[qK]
  rw[e];refine agB n k (i+1) aCs hR ?_;rw[<-e];simp only[uz,qK] at hl⊢;omega
def Yr{a:Addr}{n:Nat}{Z:List Value}(h:W.cells? 0 a n=some Z):Z.length=n/\∀j,j<n->W.cell? (a.add j)=Z[j]? :=by
 unfold World.cells? at h;rw[if_pos (iE _)] at h;refine⟨by simpa using mapM_some_length h,λj hj=>?_⟩;exact mapM_some_get h j j aFa
def akn(a:Addr)(n:Nat)(h:a.spot=none):a.add n=⟨a.block,a.off+n,none⟩:=by
 cases a with
 |mk b o s=>simp at h;subst h;rw[addr_add]
def alv{a:Addr}{v:Value}(h:W.cell? a=some v):a.spot=none:=by
 unfold DC at h;split at h;split at h;cases h;rename_i hs;simpa using hs;cases h
def JA:∀(d:Nat) (t:TypeId) (L:List kN),B7 P d t=some L->∀(fuel:Nat) (Z:List Value) (x:DataW H×List MemPlace),OF enc P W 0 sp held fuel t Z=some x->l_ W L Z
 |0,t,L,h=>aCL
 |d+1,t,L,h=>by
  intro fuel Z x I;simp only[B7] at h;split at h;rename_i k ht;cases h;obtain⟨n,rfl,_,hw⟩:=DataW.trod_int ht I;exact GL (.i hw);rename_i ht;cases h;obtain⟨n,rfl,_⟩:=DataW.trod_bool ht I;exact GL .b;rename_i ht;cases h;obtain⟨n,rfl,_,hw⟩:=DataW.trod_string ht I;exact GL (.s hw);rename_i e ht;split at h;rename_i l hl;split at h;rename_i hn;cases h
  rcases DataW.trod_slice ht I with⟨rfl,_⟩|⟨a,len,cap,elems,rest,n,rfl,rfl,_,_,hlc,hcm,hel,i_,_,_⟩
  exact GL .nil
  · rw[hn] at i_
    have each:∀i,i<len->∃ci,W.cells? 0 (a.add (i*l.length)) l.length=some ci/\l_ W l ci:=λi Q=>by
     have Y:=i_ i Q;rw[br aCs] at Y;simp only[eW] at Y;obtain⟨ci,c1,c2⟩:=Y;exact⟨ci,c1,JA d e l hl n ci _ c2⟩
    have hsp:0<len->0<l.length->a.spot=none:=λh0 Y=>by
     obtain⟨ci,c1,_⟩:=each 0 h0;obtain⟨q1,ah⟩:=Yr c1;have aP:=ah 0 Y;rw[br aCs] at aP;have gh:(a.add (0*l.length)).add 0=a:=by simp[Addr.add]
     rw[gh] at aP;exact alv aP
    refine GL (.sl (λi j=>(W.cell? ⟨a.block,a.off+i*l.length+j,none⟩).getD (.int .i64 0)) hlc hcm hsp (λi j c Q hj=>?_) (λi j c Q hj=>?_))
    all_goals
     have hjl:=(bF.1 hj).1;obtain⟨ci,c1,c2,c3⟩:=each i Q;obtain⟨q1,ah⟩:=Yr c1;have aP:=ah j hjl;have hs:=hsp aCs aCs;rw[akn a _ hs,addr_add] at aP;rw[br aCs] at aP;simp only[aP,sX]
    exact c3 j c _ hj (br aCs)
  cases h;cases h;rename_i fs ht;split at h;rename_i l hl;split at h;rename_i hn;cases h;obtain⟨xs,n,rfl,_,hlen,hsz,i_⟩:=DataW.trod_struct ht I;have:=Z7 (W:=W) (P:=P) (Z:=Z) (R:=λt v=>∃x,OF enc P W 0 sp held n t v=some x) (λt l v hg I=>by
   obtain⟨x,I⟩:=I;exact JA d t l hg n v x I) fs.toList 0 _ hl (λf hf=>by
   obtain⟨i,Q,rfl⟩:=DF hf;have hi':i<fs.size:=aC6
   have:=i_ i fs[i] (by simp[hi']);rw[List.getElem?_eq_getElem aCs] at this;exact⟨_,by simpa using this⟩) (by rw[ni];omega)
  rw[ni] at this;exact this;cases h;cases h;rename_i n e ht;split at h;rename_i l hl;split at h;rename_i hn;cases h;obtain⟨xs,m,rfl,_,hlen,hsz,i_⟩:=DataW.trod_array ht I;have:=agB (W:=W) (l:=l) (Z:=Z) n n 0 aCs (λj hj=>by
   have Y:=i_ j hj;rw[br aCs,hn.1] at Y;exact JA d e l hl m _ _ Y) aCv
  simpa using this;cases h;cases h;cases h
def XH{d:Nat}:∀{ts:List TypeId} {DO:List (List kN)} {vs:List Value} {ds:List (DataW H)} {ps:List MemPlace},ts.mapM (B7 P d)=some DO->OE enc P W 0 sp held ts vs ds ps->
  vs.length=DO.length/\ds.length=DO.length/\∀(i:Nat) L v,DO[i]?=some L->vs[i]?=some v->l_ W L v.cells.toList
 |[],DO,[],[],_,h,_=>by
  simp at h;subst h;exact⟨rfl,rfl,λi L v h=>aCC⟩
 |t::ts,DO,v::vs,x::ds,ps,h,⟨p,q,⟨fuel,Y⟩,V,_⟩=>by
  simp only[List.mapM_cons,Option.pure_def,Option.bind_eq_bind,eW,lI] at h;obtain⟨L,hL,aAC,aoq,rfl⟩:=h;obtain⟨e1,e2,bW⟩:=XH aoq V;refine⟨aDr,by simp[e2],λi L' v' hL' EL=>?_⟩;cases i with
  |zero=>simp at hL' EL;subst hL';subst EL;exact JA d t L hL fuel _ _ Y
  |succ i=>simp at hL' EL;exact bW i L' v' hL' EL
end
section
variable{J:List aa}{f:FuncId}{t:TypeId×Nat}{k:Nat}{z:List U}
section
variable{G:Cells}{P:Program}
structure Kd(P:Program)(f:FuncId)(t:TypeId×Nat):Prop where
 enters:Enters P f
 fresh:∀b w,w.cell? ⟨b,0,none⟩=some (.pointer none)->w.shape? b=some t->w.frozen? ⟨b,0,none⟩=false->
  Calls P f #[.pointer (some ⟨b,0,none⟩)] w λe w'=>e=.returned (.tuple #[])/\w'=w.setCell ⟨b,0,none⟩ (.pointer (some ⟨b,0,none⟩))
 used:∀b w,w.cell? ⟨b,0,none⟩=some (.pointer (some ⟨b,0,none⟩))->
  Calls P f #[.pointer (some ⟨b,0,none⟩)] w λe w'=>e=.returned (.tuple #[])/\w'=w
def agD{C:Cells}{M:List Loc}:aI C M J (.aK []) (.tuple #[]):=.aK rfl λi a b ha O=>by simp at ha
def Yi(hS:Kd P f t)(S:J[k]?=some (.cells (.fM k t::z) false)):
  bq G P f [.mp k 0] J λr hp'=>r=.aK []/\hp'=J.set k (.cells (.mp k 0::z) false):=by
 refine⟨hS.enters,λbase w0 C M w args' hs D=>?_⟩;obtain⟨hl,hh⟩:=D
 match args',hl,hh with
 |[v],_,hh=>
  have hv:=hh 0 _ _ rfl rfl;cases hv with
  |@mp _ _ L Z O hM=>
   obtain⟨_,_,h3,h4,_,_,h7⟩:=hs.cells k _ _ L S hM;obtain⟨c',h5,h6⟩:=h3 0 (.fM k t) rfl;generalize I:U.fM k t=x at h6;cases h6 with
   |@fM k' L' cs' hb' cP=>
    cases I;rw[hM] at cP;cases cP;refine(hS.fresh L.b w h5 h7 (h4 0)).mono ?_;rintro e w' ⟨rfl,rfl⟩;obtain⟨hle,cE⟩:=hs.store S hM 0 [.mp k 0] [.pointer (some ⟨L.b,0,none⟩)] ⟨rfl,λi a b ha gI=>by
     cases i with
     |zero=>simp at ha gI;subst ha;subst gI;exact .mp S hM
     |succ i=>simp at ha⟩ aCt
    exact⟨C,M,_,.aK [],.tuple #[],⟨rfl,rfl⟩,rfl,hle,cE,agD⟩
   |_=>cases I
def Yl(hS:Kd P f t)(S:J[k]?=some (.cells (.mp k 0::z) false)):
  bq G P f [.mp k 0] J λr hp'=>r=.aK []/\hp'=J:=by
 refine⟨hS.enters,λbase w0 C M w args' hs D=>?_⟩;obtain⟨hl,hh⟩:=D
 match args',hl,hh with
 |[v],_,hh=>
  have hv:=hh 0 _ _ rfl rfl;cases hv with
  |@mp _ _ L Z O hM=>
   obtain⟨_,_,h3,_⟩:=hs.cells k _ _ L S hM;obtain⟨c',h5,h6⟩:=h3 0 (.mp k 0) rfl;generalize I:bN k 0=x at h6;cases h6 with
   |@mp k' off L' cs' hb' cP=>
    cases I;rw[hM] at cP;cases cP;refine(hS.used L.b w h5).mono ?_;rintro e w' ⟨rfl,rfl⟩;exact⟨C,M,_,.aK [],.tuple #[],⟨rfl,rfl⟩,rfl,mH _ _ _,hs,agD⟩
   |_=>cases I
end
end
section
variable{P:Program}
def at4{e:TypeId}(T:P.cellsOf e=1)(count o n:Nat)(hn:o+n<=count):liesAt P P.depth e count o e n=true:=by
 have hd:P.depth=(2*(P.types.size+Made.depth)+1)+1:=rfl;rw[hd];simp only[liesAt,Dt];left;rw[hd];simp[rowAt,T,hn,sameLayout,Nat.mod_one]
def axr{w:World}(pt it ty e:TypeId)(J:P.underlying pt=some (.pointer e))(T:P.cellsOf e=1)(g o cells:Nat)(hsh:w.shape? g=some (e,cells))(l:List UInt8)(h0:l≠[])(hn:o+l.length<=cells)(h63:l.length<=9223372036854775807)
  (hcell:∀(j:Nat) x,l[j]?=some x->w.cell? ((⟨g,o,none⟩:Addr).add j)=some (.int .u8 x.toNat)):
  (VP #[pt,it] ty #[.pointer (some ⟨g,o,none⟩),.int .i64 l.length]).run P w=.ok (.string ⟨l.toArray⟩) (w.freeze ⟨g,o,none⟩ l.length):=by
 have hl:l.length≠0:=by simpa using h0
 have hlb:=Lib.run_loadBytes (P:=P) w l ⟨g,o,none⟩ .empty hcell;have hlies:=at4 (P:=P) T (cells/P.cellsOf e) o l.length (by rw[T];simpa using hn);have h63':¬(9223372036854775807:Int)<(l.length:Int):=aCs
 have hmax:bP.max=9223372036854775807:=rfl;have hneg:¬(l.length:Int)<0:=aCs
 have tF:=@id (VP #[pt,it] ty #[.pointer (some ⟨g,o,none⟩),.int .i64 l.length]=(asInt (.int .i64 l.length)>>=_)) rfl;rw[tF];simp[asInt,asIntOf,hmax,h63',hneg,hl,variablesAt,hsh,elemOf,run_underlying J,hlies,hlb]
end
section
variable{f:FuncId}{e:TypeId}{k:Nat}{c0:U}{J:List aa}
section
variable{G:Cells}{P:Program}
structure Kv(P:Program)(f:FuncId)(e:TypeId):Prop where
 enters:Enters P f
 got:∀(b g o cap cells:Nat) (l:List UInt8) (w:World),w.cell? ⟨b,1,none⟩=some (.slice (some ⟨g,o,none⟩) l.length cap)->l≠[]->l.length<=cap->w.shape? g=some (e,cells)->o+l.length<=cells->
  l.length<=140737488355328->
  (∀(j:Nat) x,l[j]?=some x->w.cell? ((⟨g,o,none⟩:Addr).add j)=some (.int .u8 x.toNat))->
  Calls P f #[.pointer (some ⟨b,0,none⟩)] w λr w'=>r=.returned (.string ⟨l.toArray⟩)/\w'=w.drew.freeze ⟨g,o,none⟩ l.length
 afI:∀(b:Nat) (w:World),w.cell? ⟨b,1,none⟩=some (.slice none 0 0)->
  Calls P f #[.pointer (some ⟨b,0,none⟩)] w λr w'=>r=.returned (.string .empty)/\w'=w.drew
def Yj(hS:Kv P f e){id:Nat}{l:List UInt8}(S:J[k]?=some (.cells [c0,.sl (l.map λc=>.v (.int .u8 c.toNat)) (.tok id)] false))(hid:J[id]?=some (.tok l.length 1 e))
  (h0:l≠[]) (Es:l.length<=140737488355328):
  bq G P f [.mp k 0] J λr hp'=>r=.v (.string ⟨l.toArray⟩)/\hp'=J:=by
 refine⟨hS.enters,λbase w0 C M w args' hs D=>?_⟩;obtain⟨hl,hh⟩:=D
 match args',hl,hh with
 |[v],_,hh=>
  have hv:=hh 0 _ _ rfl rfl;cases hv with
  |@mp _ _ L Z O hM=>
   obtain⟨_,_,h3,_⟩:=hs.cells k _ _ L S hM;obtain⟨c',h5,h6⟩:=h3 1 (.sl (l.map λc=>.v (.int .u8 c.toNat)) (.tok id)) rfl;generalize I:U.sl (l.map λc=>bO (.int .u8 c.toNat)) (.tok id)=x at h6;cases h6 with
   |@sl xs t a cap sz fv hsp hsz hC hR hT hcap=>
    cases I;rw[bX] at*;obtain⟨n,s,ty,L',q1,ah,aP,ec,gh⟩:=hT;rw[hid] at q1;cases q1;obtain⟨awo,AY,tX,_⟩:=gh rfl;obtain⟨ab,ao,zM⟩:=a;cases awo;have hne:l.map (λc=>bO (.int .u8 c.toNat))≠[]:=by simpa using h0
    have hl0:0<l.length:=by cases l with|nil=>exact(h0 rfl).elim|cons _ _=>simp
    have hs1:sz=1:=by
     rcases ec with q|q
     omega;exact q
    subst hs1;obtain⟨_,_,_,_,_,hty⟩:=hs.toks id _ _ _ L' hid ah;obtain⟨cells,hsh⟩:=hty.shape;have hcell:∀(j:Nat) x,l[j]?=some x->w.cell? ((⟨ab,ao,none⟩:Addr).add j)=some (.int .u8 x.toNat):=by
     intro j x hj;have hm:(l.map (λc=>bO (.int .u8 c.toNat)))[j]?=some (.v (.int .u8 x.toNat)):=aFa
     have Y:=hs.lf _ _ _ (hC j _ 0 _ hm rfl);have V:=hR j _ 0 _ hm rfl;rw[addr_add];simp only[Nat.mul_one,nP] at Y;rw[Y];generalize hg:fv j 0=y at V;cases V;rfl
    have hfit:ao+l.length<=cells:=by
     obtain⟨x,I⟩:∃x,l[l.length-1]?=some x:=⟨_,br aCs⟩;have Y:=hcell _ _ I;rw[addr_add] at Y;have hbk:=AY.symm;rw[hbk] at hsh;unfold DC at Y;unfold J3 at hsh;dsimp only at Y hsh;cases hw:w.heap[ab]? with
     |none=>rw[hw] at Y;cases Y
     |some eL=>
      rw[hw] at Y hsh;cases eL with
      |cells d t fr=>
       simp only[lI,uB] at hsh;simp only[x4,je,if_false] at Y;have:=(vK.1 Y).1;omega
      |_=>cases Y
    refine(hS.got L.b ab ao cap cells l w h5 h0 hcap (by rw[<-AY] at hsh;exact hsh) hfit Es hcell).mono ?_;rintro r w' ⟨rfl,rfl⟩;exact⟨C,M,_,.v (.string ⟨l.toArray⟩),.string ⟨l.toArray⟩,⟨rfl,rfl⟩,rfl,mH _ _ _,hs.drew.anf hid ah AY.symm (by dsimp only at tX⊢;omega),.v rfl⟩
   |_=>cases I
def Yk(hS:Kv P f e)(S:J[k]?=some (.cells [c0,.af] false)):
  bq G P f [.mp k 0] J λr hp'=>r=.v (.string .empty)/\hp'=J:=by
 refine⟨hS.enters,λbase w0 C M w args' hs D=>?_⟩;obtain⟨hl,hh⟩:=D
 match args',hl,hh with
 |[v],_,hh=>
  have hv:=hh 0 _ _ rfl rfl;cases hv with
  |@mp _ _ L Z O hM=>
   obtain⟨_,_,h3,_⟩:=hs.cells k _ _ L S hM;obtain⟨c',h5,h6⟩:=h3 1 .af rfl;cases h6;refine(hS.afI L.b w h5).mono ?_;rintro r w' ⟨rfl,rfl⟩;exact⟨C,M,_,.v (.string .empty),.string .empty,⟨rfl,rfl⟩,rfl,mH _ _ _,hs.drew,.v rfl⟩
end
end
section
variable{b:aa}{c key l m s v x:U}{J:List aa}{aZ k n:Nat}{e:TypeId}{α:Type}{aG:Bool}{z:List U}{ks:List gQ}
def aV:aa->aa
 |.aS st pd _ _ _=>.aS st (match st with|.busy=>none|_=>pd) [] #[] (λ_ _=>False)
 |.obj (.deferred _)=>.obj (.deferred none)
 |b=>b
def eA(J hp':List aa):Prop:=∀(k:Nat) st pd ats ps ok,J[k]?=some (.aS st pd ats ps ok)->∃st' jA,hp'[k]?=some (.aS st' jA ats ps ok)
def eA.refl(J:List aa):eA J J:=λk st pd ats ps ok h=>⟨st,pd,h⟩
def eA.trans{a b c:List aa}(h:eA a b)(h':eA b c):eA a c:=λk st pd ats ps ok q=>by
 obtain⟨st',jA,q'⟩:=h k st pd ats ps ok q;exact h' k st' jA ats ps ok q'
def xo{l:List aa}:eA J (J++l):=λk st pd ats ps ok h=>⟨st,pd,aJ h⟩
def vc{b':aa}(S:J[k]?=some b)(O:∀st pd ats ps ok,b≠.aS st pd ats ps ok):eA J (J.set k b'):=λj st pd ats ps ok h=>by
 by_cases e:k=j;subst e;rw[S] at h;cases h;exact(O _ _ _ _ _ rfl).elim;exact⟨st,pd,aEN⟩
def G8(h:(J.map aV)[k]?=some b):∃b0,J[k]?=some b0/\aV b0=b:=by
 rw[eo,cg] at h;exact h
def pq{Z:List U}{r:Bool}(h:(J.map aV)[k]?=some (.cells Z r)):J[k]?=some (.cells Z r):=by
 obtain⟨b,Y,V⟩:=G8 h;cases b with
 |cells cs' r'=>cases V;exact Y
 |obj o=>cases o<;>cases V
 |_=>cases V
def QM{s:Nat}(h:(J.map aV)[k]?=some (.tok n s e)):J[k]?=some (.tok n s e):=by
 obtain⟨b,Y,V⟩:=G8 h;cases b with
 |tok n s e=>cases V;exact Y
 |obj o=>cases o<;>cases V
 |_=>cases V
def Zp{es:List (U×U×Nat)}{bx:Nat}(h:(J.map aV)[k]?=some (.cQ es bx)):J[k]?=some (.cQ es bx):=by
 obtain⟨b,Y,V⟩:=G8 h;cases b with
 |cQ es bx=>cases V;exact Y
 |obj o=>cases o<;>cases V
 |_=>cases V
def Zn{s:ByteArray}{p:Nat}(h:(J.map aV)[k]?=some (.obj (.stringIter s p))):J[k]?=some (.obj (.stringIter s p)):=by
 obtain⟨b,Y,V⟩:=G8 h;cases b with
 |obj o=>cases o<;>cases V;exact Y
 |_=>cases V
def Zo{st:LoopState}{pd:Option Code}{ats:List U}{ps:Array Tmp}{ok:Code->Code->Prop}(h:(J.map aV)[k]?=some (.aS st pd ats ps ok)):
  ∃jA GC ps' ok',J[k]?=some (.aS st jA GC ps' ok')/\(st≠.busy->jA=pd):=by
 obtain⟨b,Y,V⟩:=G8 h;cases b with
 |aS st' jA GC ps' ok'=>
  simp only[aV,aa.aS.injEq] at V;obtain⟨rfl,h3,_⟩:=V;exact⟨jA,GC,ps',ok',Y,λhne=>by cases st'<;>first|exact h3|exact(hne rfl).elim⟩
 |obj o=>cases o<;>cases V
 |_=>cases V
def bG(f:List aa->Option (U×List aa)):Prop:=∀J v hE,f (J.map aV)=some (v,hE)->∃hp',f J=some (v,hp')/\hp'.map aV=hE/\eA J hp'
def bG.const(x:Option U):bG λJ=>x.map λr=>(r,J):=λJ v hE h=>by
 simp only[cg,uB] at h;obtain⟨r,Y,rfl,rfl⟩:=h;exact⟨J,aEd,rfl,eA.refl J⟩
def bG.bind(x:Option α){g:α->List aa->Option (U×List aa)}(hg:∀a,bG (g a)):bG λJ=>x.bind λa=>g a J:=λJ v hE h=>by
 simp only[eW] at h;obtain⟨a,Y,V⟩:=h;obtain⟨hp',q1,ah,aP⟩:=hg a J v hE V;exact⟨hp',by simp[Y,q1],ah,aP⟩
def bG.P1(x:Option α)(g:α->U):bG λJ=>x.map λa=>(g a,J):=λJ v hE h=>by
 simp only[cg,uB] at h;obtain⟨a,Y,rfl,rfl⟩:=h;exact⟨J,aEd,rfl,eA.refl J⟩
def bG.push(x:Option α)(g:Nat->α->U)(b:α->aa)(O:∀a,aV (b a)=b a):bG λJ=>x.map λa=>(g J.length a,J++[b a]):=λJ v hE h=>by
 simp only[cg,uB,bX] at h;obtain⟨a,Y,rfl,rfl⟩:=h;exact⟨J++[b a],aEd,aEe,xo⟩
def bG.none:bG λ_=>none:=λJ v hE h=>aCL
def bG.some(x:U):bG λJ=>some (x,J):=λJ v hE h=>by
 cases h;exact⟨J,rfl,rfl,eA.refl J⟩
def bG.read(g:List aa->Option U)(hg:∀J x,g (J.map aV)=.some x->g J=.some x):bG λJ=>(g J).map λr=>(r,J):=λJ v hE h=>by
 simp only[cg,uB] at h;obtain⟨r,Y,rfl,rfl⟩:=h;exact⟨J,by simp[hg J r Y],rfl,eA.refl J⟩
def bG.ite{c:Prop}[Decidable c]{f g:List aa->Option (U×List aa)}(hf:c->bG f)(hg:¬c->bG g):bG λJ=>if c then f J else g J:=λJ v hE h=>by
 dsimp only at h⊢;split at h;rename_i T;rw[if_pos T];exact hf T J v hE h;rename_i T;rw[if_neg T];exact hg T J v hE h
def bG.CW(x:Nat->U)(b:aa)(O:aV b=b):bG λJ=>Option.some (x J.length,J++[b]):=λJ v hE h=>by
 simp only[lI,uB,bX] at h;obtain⟨rfl,rfl⟩:=h;exact⟨J++[b],rfl,aEe,xo⟩
def bG.awh(b:Nat->aa)(x:Nat->U)(O:∀k,aV (b k)=b k):bG λJ=>Option.some (x J.length,J++[b J.length]):=λJ v hE h=>by
 simp only[lI,uB,bX] at h;obtain⟨rfl,rfl⟩:=h;exact⟨J++[b J.length],rfl,aEe,xo⟩
def bG.setCells{r:Bool}{g:List U->Option (U×List U)}:bG λJ=>match J[k]? with
  |.some (.cells Z r')=>if r'=r then(g Z).map λp=>(p.1,J.set k (.cells p.2 r)) else .none
  |_=>.none:=λJ v hE h=>by
 dsimp only at h⊢;split at h;rename_i Z r' S;have hk':=pq S;rw[hk'];dsimp only;split at h;rename_i D;rw[if_pos D];simp only[cg,uB] at h;obtain⟨p,Y,rfl,rfl⟩:=h;refine⟨J.set k (.cells p.2 r),aEd,aDc,vc hk' nofun⟩;cases h;cases h
def Xx{p:U}(h:aq (J.map aV) aG n p=some c):aq J aG n p=some c:=by
 unfold aq at h⊢;split at h;exact h;split at h;rename_i S;rw[pq S];exact h;cases h;split at h;rename_i S;rw[pq S];exact h;cases h;cases h
def al1{p:U}:bG λJ=>(aE J n p x).map λhp'=>(gM,hp'):=λJ v hE h=>by
 simp only[cg,uB] at h;obtain⟨Y,q,rfl,rfl⟩:=h;have key:∀(k:Nat) (row:Bool) Z off,J[k]?=some (.cells Z row)->dG (J.map aV) k row Z n off x=some Y->∃hp',dG J k row Z n off x=some hp'/\hp'.map aV=Y/\eA J hp':=λk row Z off S hs=>by
  unfold dG at hs⊢;split at hs;rename_i T;rw[if_pos T];cases hs;exact⟨_,rfl,aDc,vc S nofun⟩;cases hs
 unfold aE at q⊢;cases p with
 |mp k off=>
  simp only at q⊢;split at q;rename_i Z S;rw[pq S];obtain⟨hp',a,b,c⟩:=key _ _ _ _ (pq S) q;exact⟨hp',by simp[a],b,c⟩;cases q
 |rp k m off=>
  simp only at q⊢;split at q;rename_i Z S;rw[pq S];simp only at q⊢;split at q;rename_i hm;rw[if_pos hm];obtain⟨hp',a,b,c⟩:=key _ _ _ _ (pq S) q;exact⟨hp',by simp[a],b,c⟩;cases q;cases q
 |_=>cases q
def Qj{ys:List U}:bG λJ=>gp J n aZ e s ys:=λJ v hE h=>by
 dsimp only at h⊢;unfold gp at h⊢;cases s with
 |af=>
  simp only[bX] at h⊢;split at h;rename_i hl;rw[if_pos hl];cases h;exact⟨_,rfl,by simp[aV],xo⟩;cases h
 |rs k m sz off len=>
  simp only at h⊢;split at h;rename_i hl;rw[if_pos hl];split at h;rename_i Z S;rw[pq S];simp only at h⊢;split at h;rename_i hm;rw[if_pos hm];cases h;exact⟨_,rfl,aDc,vc (pq S) nofun⟩;cases h;cases h;cases h
 |sl xs t=>
  simp only at h⊢;split at h;rename_i hl;rw[if_pos hl];cases t with
  |exact=>
   simp only[bX] at h⊢;cases h;exact⟨_,rfl,by simp[aV],xo⟩
  |no=>cases h
  |tok id=>
   simp only at h⊢;split at h;rename_i c s' e' S;rw[QM S];simp only at h⊢;split at h;rename_i hm;rw[if_pos hm];cases h;exact⟨_,rfl,aDc,vc (QM S) nofun⟩;cases h;cases h
  cases h
 |_=>cases h
def YI:bG λJ=>fA J n aZ e s x:=λJ v hE h=>by
 dsimp only at h⊢;unfold fA at h⊢;cases L9:contents x with
 |none=>rw[L9] at h;cases h
 |some ys=>
  rw[L9] at h;simp only at h⊢;by_cases hy:ys=[];rw[if_pos hy] at h⊢
  split at h<;>first|(cases h;exact⟨J,rfl,rfl,eA.refl J⟩)|cases h
  rw[if_neg hy] at h⊢;split at h;rename_i T;rw[if_pos T];exact Qj J v hE h;cases h
def alS:bG λJ=>cM J n aZ e s x:=by
 unfold cM;cases s with
 |rs _ _ _ _ _=>exact bG.none
 |_=>exact YI
def alU:bG λJ=>ye J aZ e s x:=λJ v hE h=>by
 dsimp only at h⊢;unfold ye at h⊢;split at h;rename_i b;by_cases h0:b.size=0;rw[if_pos h0] at h⊢
 split at h<;>first|(cases h;exact⟨J,rfl,rfl,eA.refl J⟩)|cases h
 rw[if_neg h0] at h⊢;split at h;split at h;rename_i q;simp only[if_pos q];exact Qj J v hE h;cases h;split at h;rename_i q;simp only[if_pos q];exact Qj J v hE h;cases h;cases h;cases h
def alT:bG λJ=>mc J n aZ e s x:=by
 unfold mc;cases s with
 |af=>
  simp only;cases contents x with
  |none=>exact bG.none
  |some ys=>
   simp only;exact bG.ite (λ_=>bG.some _) λ_=>bG.ite (λ_=>bG.CW (λk=>.rs k (flat ys).length n 0 ys.length) _ rfl) λ_=>bG.none
 |_=>exact YI
def alP{vs:List U}:bG λJ=>wk J n vs:=by
 unfold wk;exact bG.ite (λ_=>bG.CW (λk=>.rs k (flat vs).length n 0 vs.length) _ rfl) λ_=>bG.none
def alQ:bG λJ=>zH J n aZ z l c:=by
 unfold zH;split;exact bG.ite (λ_=>bG.CW (λk=>.rs k _ n 0 _) _ rfl) λ_=>bG.none;exact bG.none
def alR:bG λJ=>zI J n aZ e z l c:=by
 unfold zI;split;exact bG.ite (λ_=>bG.CW (λk=>.sl [] (.tok k)) _ rfl) λ_=>bG.none;exact bG.none
def alW:bG λJ=>My v J:=by
 unfold My;split;exact bG.CW (λk=>.eL k) _ rfl;exact bG.none
def al0:bG λJ=>o_ J v:=λJ u hE h=>by
 dsimp only at h⊢;unfold o_ at h⊢;split at h;rename_i k;split at h;rename_i s pos S;rw[Zn S];simp only;split at h;rename_i hl;rw[if_pos hl];cases h;exact⟨_,rfl,aDc,vc (Zn S) nofun⟩;rename_i hl;rw[if_neg hl];cases h;exact⟨_,rfl,rfl,eA.refl J⟩;cases h;cases h
def IK{r:Nat×List (U×U×Nat)×Nat}(h:oJ (J.map aV) m=some r):oJ J m=some r/\J[r.1]?=some (.cQ r.2.1 r.2.2):=by
 unfold oJ at h⊢;split at h;rename_i k;split at h;rename_i es bx S;rw[Zp S];cases h;exact⟨rfl,Zp S⟩;cases h;cases h
def aks{z:U}{ok:Bool}(h:td (J.map aV) aG ks z ok m key=some x):td J aG ks z ok m key=some x:=by
 unfold td at h⊢;split at h;rename_i k es bx hm;rw[(IK hm).1];exact h;cases h
def aky(h:wv (J.map aV) m=some x):wv J m=some x:=by
 unfold wv at h⊢;split at h;rename_i k es bx hm;rw[(IK hm).1];exact h;cases h
def alZ:bG λJ=>(uP J aG ks m key x).map λhp'=>(gM,hp'):=λJ v hE h=>by
 simp only[cg,uB] at h;obtain⟨Y,q,rfl,rfl⟩:=h;dsimp only;unfold uP at q⊢;split at q;rename_i k es bx hm;obtain⟨m1,m2⟩:=IK hm;rw[m1];simp only;split at q;rename_i T;rw[if_pos T];split at q;cases q;exact⟨_,rfl,aDc,vc m2 nofun⟩;cases q;exact⟨_,rfl,aDc,vc m2 nofun⟩;cases q;cases q;cases q
def alY{z:U}:bG λJ=>D3 J aG ks z m key:=λJ v hE q=>by
 dsimp only at q⊢;unfold D3 at q⊢;split at q;rename_i k es bx hm;obtain⟨m1,m2⟩:=IK hm;rw[m1];simp only;split at q;rename_i T;rw[if_pos T];split at q;cases q;exact⟨_,rfl,aDc,vc m2 nofun⟩;cases q;exact⟨_,rfl,aDc,vc m2 nofun⟩;cases q;cases q;cases q
def alV{st:U}:bG λJ=>(D2 J m st x).map λhp'=>(gM,hp'):=λJ v hE h=>by
 simp only[cg,uB] at h;obtain⟨Y,q,rfl,rfl⟩:=h;dsimp only;unfold D2 at q⊢;split at q;rename_i k es bx _ n hm;obtain⟨m1,m2⟩:=IK hm;rw[m1];simp only;split at q;cases q;exact⟨_,rfl,aDc,vc m2 nofun⟩;cases q;cases q
def alX:bG λJ=>bL v J:=by
 unfold bL;split;exact bG.none;exact bG.const _
def YJ{e:Env}{o:kP}:bG λJ=>bz e J o:=by
 cases o<;>simp only[bz]
 case mv x=>exact bG.const _
 case pick c a b=>exact bG.bind _ λc=>bG.const _
 case alloc z=>exact bG.CW (λk=>.mp k 0) _ rfl
 case wq t z=>exact bG.awh (λk=>.cells (.fM k t::z) false) (λk=>.mp k 0) λ_=>rfl
 case box x=>exact bG.push _ (λk _=>.mp k 0) (λr:U=>.cells r.cells false) λ_=>rfl
 case build z ps=>exact bG.bind _ λl=>bG.P1 _ _
 case wG n vs=>exact bG.bind _ λl=>bG.const _
 case eE aG n x=>exact bG.bind _ λx=>bG.read (λJ=>aq J aG n x) λJ y h=>Xx h
 case st n p x=>exact bG.bind _ λp=>bG.bind _ λx=>al1
 case app n aZ ty s x=>exact bG.bind _ λs=>bG.bind _ λx=>alS
 case xw f a b=>exact bG.bind _ λa=>bG.P1 _ _
 case tn n vs=>exact bG.bind _ λl=>alP
 case yg n aZ ty s x=>exact bG.bind _ λs=>bG.bind _ λx=>alT
 case wC aZ ty s x=>exact bG.bind _ λs=>bG.bind _ λx=>alU
 case xy n aZ ty z l c=>exact bG.bind _ λl=>bG.bind _ λc=>alQ
 case yN n aZ ty z l c=>exact bG.bind _ λl=>bG.bind _ λc=>alR
 case yL t x=>exact bG.P1 _ _
 case iter x=>exact bG.bind _ λx=>alW
 case next x=>exact bG.bind _ λx=>al0
 case yM=>exact bG.CW (λk=>.dZ k) _ rfl
 case AM x=>exact bG.bind _ λx=>bG.read (λJ=>wv J x) λJ y h=>aky h
 case yI aG ks z ok m k=>exact bG.bind _ λm=>bG.bind _ λk=>bG.read (λJ=>td J aG ks z ok m k) λJ y h=>aks h
 case tR aG ks m k x=>exact bG.bind _ λm=>bG.bind _ λk=>bG.bind _ λx=>alZ
 case xu aG ks z m k=>exact bG.bind _ λm=>bG.bind _ λk=>alY
 case z6 m st x=>exact bG.bind _ λm=>bG.bind _ λst=>bG.bind _ λx=>alV
 case len x=>exact bG.bind _ λx=>alX
 case oI x=>
  refine bG.bind _ λx=>?_;unfold oI;split;exact bG.some _;exact bG.none
 case slc n x lo Q mx=>
  refine bG.bind _ λx=>bG.bind _ λlo=>bG.bind _ λQ=>bG.bind _ λmx=>?_;unfold pU;split;exact bG.none;exact bG.const _
 case ud x lo Q=>
  refine bG.bind _ λx=>bG.bind _ λlo=>bG.bind _ λQ=>?_;unfold Dj;split;exact bG.const _;exact bG.none
 all_goals first
  |exact bG.bind _ λ_=>bG.const _
  |exact bG.bind _ λ_=>bG.bind _ λ_=>bG.const _
end
section
variable{n sz:Nat}{Z:List U}{J:List aa}{x:U}
def iz{α β:Type}(f:α->Option β):List α->Option (List β)
 |[]=>some []
 |x::r=>match f x with
  |some y=>match iz f r with
   |some l=>some (y::l)
   |none=>none
  |none=>none
def vg{α β:Type}{f:α->Option β}:∀{l:List α} {r:List β},iz f l=some r->r.length=l.length/\∀(i:Nat) x y,l[i]?=some x->r[i]?=some y->f x=some y
 |[],r,h=>by cases h;exact⟨rfl,λi x y I=>aCN⟩
 |a::l,r,h=>by
  simp only[iz] at h;split at h;rename_i y hy;split at h;rename_i l' hl;cases h;obtain⟨Y,V⟩:=vg hl;refine⟨aEd,λi x z I hz=>?_⟩;cases i with
  |zero=>simp at I hz;subst I;subst hz;exact hy
  |succ i=>simp at I hz;exact V i x z I hz
  cases h;cases h
def chunks(sz:Nat)(Z:List U)(off:Nat):Nat->List U
 |0=>[]
 |n+1=>.agg ((Z.drop off).take sz)::chunks sz Z (off+sz) n
def YB:∀{n off i:Nat},i<n->(chunks sz Z off n)[i]?=some (.agg ((Z.drop (off+i*sz)).take sz))
 |n+1,off,0,_=>by simp[chunks]
 |n+1,off,i+1,h=>by
  simp only[chunks,vQ];rw[YB aCs,show off+sz+i*sz=off+(i+1)*sz by rw[qK];omega]
def KZ:∀{n off:Nat},(chunks sz Z off n).length=n
 |0,off=>rfl
 |n+1,off=>by simp[chunks,KZ]
def b7(J:List aa):Nat->U->Option U
 |0,_=>none
 |n+1,x=>match x with
  |.v x=>some (.v x)
  |.af=>some .af
  |.agg Z=>(iz (b7 J n) Z).map .agg
  |.aK Z=>(iz (b7 J n) Z).map .aK
  |.sl xs _=>(iz (b7 J n) xs).map λys=>.sl ys .no
  |.fp Z off=>(iz (b7 J n) Z).map λds=>.fp ds off
  |.cT t x=>(b7 J n x).map (.cT t)
  |.fn f a b=>(iz (b7 J n) a).bind λa=>(iz (b7 J n) b).map λb=>.fn f a b
  |.mp k off=>match J[k]? with
   |some (.cells Z false)=>(iz (b7 J n) Z).map λds=>.fp ds off
   |_=>none
  |.rp k m off=>match J[k]? with
   |some (.cells Z true)=>if m=Z.length then(iz (b7 J n) Z).map λds=>.fp ds off else none
   |_=>none
  |.rs k m sz off len=>match J[k]? with
   |some (.cells Z true)=>if m=Z.length then(iz (b7 J n) Z).map λds=>.sl (chunks sz ds off len) .no else none
   |_=>none
  |_=>none
def alw{y:U}(h:b7 J n x=some y)(I:∀Z,x≠.agg Z):y.cells=[y]:=by
 cases n with
 |zero=>cases h
 |succ n=>
  unfold b7 at h;cases x<;>simp only at h
  case agg Z=>exact(I Z rfl).elim
  case v x=>cases h;rfl
  case af=>cases h;rfl
  case mp k off=>split at h<;>first|cases h;done|(simp only[cg] at h;obtain⟨_,_,rfl⟩:=h;rfl)
  case rp k m off=>split at h<;>first|cases h;done|(split at h<;>first|cases h;done|(simp only[cg] at h;obtain⟨_,_,rfl⟩:=h;rfl))
  case rs k m sz off len=>split at h<;>first|cases h;done|(split at h<;>first|cases h;done|(simp only[cg] at h;obtain⟨_,_,rfl⟩:=h;rfl))
  case fn f a b=>
   simp only[eW,cg] at h;obtain⟨_,_,_,_,rfl⟩:=h;rfl
  all_goals first
   |(cases h;done)
   |(simp only[cg] at h;obtain⟨_,_,rfl⟩:=h;rfl)
def LL{C aC:Cells}{M:List Loc}{va:List aa}(hC:∀b o v,C b o=some v->aC b o=some v)
  (hm:∀(k:Nat) Z row L,va[k]?=some (.cells Z row)->M[k]?=some L->∀(i:Nat) c,Z[i]?=some c->∃c',aC L.b i=some c'/\aI C M J c c') (hz:∀(k:Nat) Z row,va[k]?=some (.cells Z row)->J[k]?=some (.cells Z row)):
  ∀{n:Nat} {x r:U} {v:Value},b7 va n x=some r->aI C M J x v->aI aC [] [] r v:=by
 intro n
 induction n with
 |zero=>intro x r v h;cases h
 |succ n ih=>
  intro x r v h D;have ae5:∀{Z ds:List U} {f:Nat->Value},iz (b7 va n) Z=some ds->(∀(i:Nat) c,Z[i]?=some c->aI C M J c (f i))->∀(i:Nat) d,ds[i]?=some d->∃c,Z[i]?=some c/\aI aC [] [] d (f i):=by
   intro Z ds f hm' hR i d hd;obtain⟨e1,e2⟩:=vg hm';have Q:i<Z.length:=by rw[<-e1];exact(bF.1 hd).1
   exact⟨Z[i],br Q,ih (e2 i _ _ (br Q) hd) (hR i _ (br Q))⟩
  have blk:∀{k:Nat} {Z ds:List U} {row:Bool} {L:Loc},va[k]?=some (.cells Z row)->M[k]?=some L->iz (b7 va n) Z=some ds->∀off,aI aC [] [] (.fp ds off) (.pointer (some ⟨L.b,off,none⟩))/\∀(i:Nat) d,ds[i]?=some d->∃c',aC L.b i=some c'/\aI aC [] [] d c':=by
   intro k Z ds row L S hM hm' off;obtain⟨e1,e2⟩:=vg hm';have key:∀(i:Nat) d,ds[i]?=some d->∃c',aC L.b i=some c'/\aI aC [] [] d c':=by
    intro i d hd;have Q:i<Z.length:=by rw[<-e1];exact(bF.1 hd).1
    obtain⟨c',q1,ah⟩:=hm k Z row L S hM i Z[i] (br Q);exact⟨c',q1,ih (e2 i _ _ (br Q) hd) ah⟩
   refine⟨?_,key⟩;have:=aI.fp (C:=aC) (M:=[]) (J:=[]) (Z:=ds) (off:=off) (b:=L.b) (o:=0) (λi=>(aC L.b i).getD undef) (λi d hd=>by
    obtain⟨c',q1,_⟩:=key i d hd;rw[e6,q1];rfl) (λi d hd=>by
    obtain⟨c',q1,ah⟩:=key i d hd;rw[q1];exact ah)
   simpa using this
  unfold b7 at h;cases D with
  |v hp'=>simp only at h;cases h;exact .v hp'
  |af=>simp only at h;cases h;exact .af
  |agg hl hh=>
   rename_i Z cs';simp only[cg] at h;obtain⟨ds,Y,rfl⟩:=h;obtain⟨e1,e2⟩:=vg Y;refine .agg aCs λi a b ha O=>?_;have Q:i<Z.length:=by rw[<-e1];exact(bF.1 ha).1
   exact ih (e2 i _ _ (br Q) ha) (hh i _ b (br Q) O)
  |aK hl hh=>
   rename_i Z cs';simp only[cg] at h;obtain⟨ds,Y,rfl⟩:=h;obtain⟨e1,e2⟩:=vg Y;refine .aK aCs λi a b ha O=>?_;have Q:i<Z.length:=by rw[<-e1];exact(bF.1 ha).1
   exact ih (e2 i _ _ (br Q) ha) (hh i _ b (br Q) O)
  |sl f hsp hsz Cf hR hT hcap=>
   rename_i xs t a cap sz;simp only[cg] at h;obtain⟨ys,Y,rfl⟩:=h;obtain⟨e1,e2⟩:=vg Y;have el:∀(i:Nat) y,ys[i]?=some y->∃x,xs[i]?=some x/\y.cells.length=x.cells.length/\∀(j:Nat) d,y.cells[j]?=some d->∃c,x.cells[j]?=some c/\aI aC [] [] d (f i j):=by
    intro i y hy;have Q:i<xs.length:=by rw[<-e1];exact(bF.1 hy).1
    have I:=br Q;have hf:=e2 i _ _ I hy;refine⟨xs[i],I,?_⟩;by_cases hag:∃Z,xs[i]=.agg Z;obtain⟨Z,hcs⟩:=hag;rw[hcs] at hf I⊢;cases n with
    |zero=>cases hf
    |succ n=>
     unfold b7 at hf;simp only[cg] at hf;obtain⟨ds,q1,rfl⟩:=hf;obtain⟨g1,g2⟩:=vg q1;refine⟨g1,λj d hd=>?_⟩;have hj:j<Z.length:=by rw[<-g1];exact(bF.1 hd).1
     refine⟨Z[j],br hj,?_⟩;have:=g2 j _ _ (br hj) hd;have up:b7 va (n+1) (.agg [Z[j]])=some (.agg [d]):=by
      unfold b7;simp[iz,this]
     have fO:aI C M J (.agg [Z[j]]) (.agg #[f i j]):=.agg rfl λi' a b ha O=>by
      cases i' with
      |zero=>simp at ha O;subst ha;subst O;exact hR i _ j _ I (br hj)
      |succ i'=>simp at ha
     have:=ih up fO;cases this with
     |agg hl hh=>exact hh 0 d (f i j) rfl rfl
    have hna:=λZ hcs=>hag ⟨Z,hcs⟩;have aqr:=alw hf hna;have CA:(xs[i]).cells=[xs[i]]:=by
     cases EO:xs[i] with
     |agg Z=>exact(hna Z EO).elim
     |_=>rfl
    rw[aqr,CA];refine⟨rfl,λj d hd=>?_⟩;cases j with
    |zero=>
     simp at hd;subst hd;exact⟨xs[i],rfl,ih hf (hR i _ 0 _ I (by rw[CA];rfl))⟩
    |succ j=>simp at hd
   rw[<-e1];refine .sl (sz:=sz) f (λhne=>hsp (by intro e;subst e;simp at e1;exact hne e1)) (λi y hy=>?_) (λi y j d hy hd=>?_) (λi y j d hy hd=>?_) trivial (by rw[e1];exact hcap);obtain⟨x,I,q1,_⟩:=el i y hy;rw[q1];exact hsz i x I;obtain⟨x,I,_,ah⟩:=el i y hy;obtain⟨c,T,_⟩:=ah j d hd;exact hC _ _ _ (Cf i x j c I T);obtain⟨x,I,_,ah⟩:=el i y hy;obtain⟨c,T,fO⟩:=ah j d hd;exact fO
  |fp f Cf hR=>
   simp only[cg] at h;obtain⟨ds,Y,rfl⟩:=h;refine .fp f (λi d hd=>?_) λi d hd=>?_;obtain⟨c,T,_⟩:=ae5 Y hR i d hd;exact hC _ _ _ (Cf i c T);obtain⟨c,_,q⟩:=ae5 Y hR i d hd;exact q
  |cT I=>
   simp only[cg] at h;obtain⟨y,Y,rfl⟩:=h;exact .cT (ih Y I)
  |fn hlf hlc hf T=>
   rename_i f fs Z fs' cs';simp only[eW,cg] at h;obtain⟨a,Y,b,V,rfl⟩:=h;obtain⟨e1,e2⟩:=vg Y;obtain⟨g1,g2⟩:=vg V;refine .fn aCs aCs (λi x y I hy=>?_) λi x y I hy=>?_;have Q:i<fs.length:=by rw[<-e1];exact(bF.1 I).1
   exact ih (e2 i _ _ (br Q) I) (hf i _ y (br Q) hy);have Q:i<Z.length:=by rw[<-g1];exact(bF.1 I).1
   exact ih (g2 i _ _ (br Q) I) (T i _ y (br Q) hy)
  |mp O hM=>
   simp only at h;split at h;rename_i Z S;simp only[cg] at h;obtain⟨ds,Y,rfl⟩:=h;exact(blk S hM Y _).1;cases h
  |rp O hM hn ha=>
   simp only at h;split at h;rename_i Z S;split at h;rename_i hmn;simp only[cg] at h;obtain⟨ds,Y,rfl⟩:=h;have hk':=hz _ _ _ S;rw[O] at hk';cases hk';rw[ha hmn];exact(blk S hM Y _).1;cases h;cases h
  |rs O hM hn hlc ha=>
   rename_i k nn sz off len cap L cs0 a;simp only at h;split at h;rename_i Z S;split at h;rename_i hmn;simp only[cg] at h;obtain⟨ds,Y,rfl⟩:=h;have hk':=hz _ _ _ S;rw[O] at hk';cases hk';obtain⟨a1,a2,a3,a4⟩:=ha hmn;rw[a1];obtain⟨_,hcell⟩:=blk S hM Y 0;have aBs:=(vg Y).1;have hge:∀(i:Nat) x,(chunks sz ds off len)[i]?=some x->i<len/\x=.agg ((ds.drop (off+i*sz)).take sz):=by
    intro i x I;have Q:i<len:=by have:=(bF.1 I).1;rwa [KZ] at this
    rw[YB Q] at I;exact⟨Q,(l7 I).symm⟩
   have hin:∀i,i<len->off+i*sz+sz<=ds.length:=by
    intro i Q;have:(i+1)*sz<=len*sz:=mJ _ Q;rw[qK] at this;omega
   have hel:∀(i:Nat) x (j:Nat) c,(chunks sz ds off len)[i]?=some x->x.cells[j]?=some c->ds[off+i*sz+j]?=some c:=by
    intro i x j c I T;obtain⟨Q,rfl⟩:=hge i x I;simp only[gN] at T;have hj:j<sz:=by have:=(bF.1 T).1;simp at this;omega
    rw[xX hj,oW] at T;exact T
   have:=aI.sl (C:=aC) (M:=[]) (J:=[]) (xs:=chunks sz ds off len) (t:=.no) (a:=⟨L.b,off,none⟩) (cap:=cap) (sz:=sz) (λi j=>(aC L.b (off+i*sz+j)).getD undef) (λ_=>rfl) (λi x I=>by
    obtain⟨Q,rfl⟩:=hge i x I;have:=hin i Q;simp only[gN,zm,uz];omega) (λi x j c I T=>by
    obtain⟨c',q1,ah⟩:=hcell _ _ (hel i x j c I T);dsimp only;rw[q1];rfl) (λi x j c I T=>by
    obtain⟨c',q1,ah⟩:=hcell _ _ (hel i x j c I T);rw[q1];exact ah) trivial (by rw[KZ];exact hlc)
   rw[KZ] at this;exact this;cases h;cases h
  |eL O hM=>cases h
  |dZ O hM=>cases h
  |gu O hM=>cases h
  |fM O hM=>cases h
def ani{r:U}(h:b7 [] n x=some r):lK x r:=λC M J v D=>LL (va:=[]) (λ_ _ _ q=>q) (λk Z row L S=>aEW) (λk Z row S=>aEW) h D
def Q6{as bs:List U}(h:iz (b7 [] n) as=some bs):nj as bs:=by
 obtain⟨e1,e2⟩:=vg h;exact⟨e1.symm,λi a b ha O=>ani (e2 i a b ha O)⟩
def eg{G:Cells}{P:Program}{f:FuncId}{args:List U}{aM:U}(h:bq G P f args [] λr hp'=>∃n,b7 hp' n r=some aM):b_ G P f args aM:=
 ⟨h.1,λC w args' hg T D=>(h.2 w.heap.size ⟨w,C⟩ C [] w args' (ahq hg T) D).mono λe w' ⟨aC,M',hp',r,v',⟨n,hfz⟩,he,hle,cE,fO⟩=>by
  refine⟨λb o=>match aC b o with
   |some v=>some v
   |none=>if w.heap.size<=b then w'.cell? ⟨b,o,none⟩ else none,v',he,λb o v q=>?_,λb o v q=>?_,λb o v q=>?_,cE.below,?_,trivial⟩
  simp only[hle.C b o v q];dsimp only at q;split at q;rename_i u hu;cases q
  rcases cH b w.heap.size with O|O
  exact ax (cE.old b o v hu O);exact az O;split at q;rename_i O;exact az O;cases q;dsimp only at q;split at q;rename_i u hu;cases q;exact cE.lf b o v hu;split at q;exact q;cases q;refine LL (J:=hp') (va:=hp') (λb o v q=>by simp only[q]) (λk Z row L S hM i c T=>?_) (λ_ _ _ q=>q) hfz fO;obtain⟨Y,V,h3,h4,h5,h6⟩:=cE.cells k Z row L S hM;obtain⟨c',q1,ah⟩:=h3 i c T;refine⟨c',?_,ah⟩;simp only[h5 i];rw[if_pos Y];exact q1⟩
end
section
variable{α:Type}{k n:Nat}{x:U}{v:Value}{J:List aa}{f:FuncId}{args:List U}
inductive jW(n:Nat):U->Prop
 |v {x:Value}:jW n (.v x)
 |agg {Z:List U} (h:∀(i:Nat) c,Z[i]?=some c->jW n c):jW n (.agg Z)
 |aK {Z:List U} (h:∀(i:Nat) c,Z[i]?=some c->jW n c):jW n (.aK Z)
 |af:jW n .af
 |sl {xs:List U} {t:iU} (ht:∀id,t=.tok id->id<n) (h:∀(i:Nat) x (j:Nat) c,xs[i]?=some x->x.cells[j]?=some c->jW n c):jW n (.sl xs t)
 |fp {Z:List U} {off:Nat} (h:∀(i:Nat) c,Z[i]?=some c->jW n c):jW n (.fp Z off)
 |mp {k off:Nat} (h:k<n):jW n (.mp k off)
 |rp {k m off:Nat} (h:k<n):jW n (.rp k m off)
 |rs {k m sz off len:Nat} (h:k<n):jW n (.rs k m sz off len)
 |eL {k:Nat} (h:k<n):jW n (.eL k)
 |eU {ch:List PanicEntry}:jW n (.eU ch)
 |fn {f:Fn} {fs Z:List U} (Y:∀(i:Nat) c,fs[i]?=some c->jW n c) (V:∀(i:Nat) c,Z[i]?=some c->jW n c):jW n (.fn f fs Z)
 |cT {t:TypeId} {x:U} (h:jW n x):jW n (.cT t x)
 |dZ {k:Nat} (h:k<n):jW n (.dZ k)
 |gu {k:Nat} (h:k<n):jW n (.gu k)
 |fM {k:Nat} {t:TypeId×Nat} (h:k<n):jW n (.fM k t)
section
variable{G:Cells}{P:Program}{C:Cells}{M:List Loc}{J:List aa}
def nx{l:List α}{x:α}(h:l[k]?=some x):k<l.length:=(bF.1 h).1
def Ls{l:List U}{a:Array α}(hl:l.length=a.size){i:Nat}{c:U}(T:l[i]?=some c):∃b,a[i]?=some b:=⟨_,sM (by rw[<-hl];exact nx T)⟩
def aI.low(h:aI C M J x v):jW J.length x:=by
 induction h with
 |v h=>exact .v
 |agg hl h ih=>
  refine .agg λi c T=>?_;obtain⟨b,O⟩:=Ls hl T;exact ih i c b T O
 |aK hl h ih=>
  refine .aK λi c T=>?_;obtain⟨b,O⟩:=Ls hl T;exact ih i c b T O
 |af=>exact .af
 |sl f hsp hsz hC hR hT hcap ih=>
  refine .sl (λid e=>?_) ih;subst e;obtain⟨n,s,ty,L,q1,_⟩:=hT;exact nx q1
 |fp f hC hR ih=>exact .fp ih
 |mp O hM=>exact .mp (nx O)
 |rp O hM hn ha=>exact .rp (nx O)
 |rs O hM hn hlc ha=>exact .rs (nx O)
 |eL O hM=>exact .eL (nx O)
 |fn hlf hlc hf T CD CC=>
  refine .fn (λi c h=>?_) λi c h=>?_;obtain⟨b,O⟩:=Ls hlf h;exact CD i c b h O;obtain⟨b,O⟩:=Ls hlc h;exact CC i c b h O
 |cT h ih=>exact .cT ih
 |dZ O hM=>exact .dZ (nx O)
 |gu O hM=>exact .gu (nx O)
 |fM O hM=>exact .fM (nx O)
def jC{l:List α}(h:k<n):(l.take n)[k]?=l[k]? :=by
 rw[OQ];simp[h]
def aI.azj(h:aI C M J x v):jW n x->aI C (M.take n) (J.take n) x v:=by
 induction h with
 |v h=>intro _;exact .v h
 |agg hl h ih=>intro hL;cases hL with|agg q=>exact .agg hl λi a b ha O=>ih i a b ha O (q i a ha)
 |aK hl h ih=>intro hL;cases hL with|aK q=>exact .aK hl λi a b ha O=>ih i a b ha O (q i a ha)
 |af=>intro _;exact .af
 |sl f hsp hsz hC hR hT hcap ih=>
  intro hL;cases hL with
  |sl ht q=>
   refine .sl f hsp hsz hC (λi x j c I T=>ih i x j c I T (q i x j c I T)) ?_ hcap;rename_i xs t a cap sz;cases t with
   |exact=>exact hT
   |no=>exact hT
   |tok id=>
    have hid:=ht id rfl;obtain⟨n',s,ty,L,q1,ah,aP⟩:=hT;exact⟨n',s,ty,L,by rw[jC hid];exact q1,by rw[jC hid];exact ah,aP⟩
 |fp f hC hR ih=>intro hL;cases hL with|fp q=>exact .fp f hC λi c T=>ih i c T (q i c T)
 |mp O hM=>intro hL;cases hL with|mp q=>exact .mp aDj aDe
 |rp O hM hn ha=>intro hL;cases hL with|rp q=>exact .rp aDj aDe hn ha
 |rs O hM hn hlc ha=>intro hL;cases hL with|rs q=>exact .rs aDj aDe hn hlc ha
 |eL O hM=>intro hL;cases hL with|eL q=>exact .eL aDj aDe
 |fn hlf hlc hf T CD CC=>intro hL;cases hL with|fn q1 ah=>exact .fn hlf hlc (λi a b ha O=>CD i a b ha O (q1 i a ha)) λi a b ha O=>CC i a b ha O (ah i a ha)
 |cT h ih=>intro hL;cases hL with|cT q=>exact .cT (ih q)
 |dZ O hM=>intro hL;cases hL with|dZ q=>exact .dZ aDj aDe
 |gu O hM=>intro hL;cases hL with|gu q=>exact .gu aDj aDe
 |fM O hM=>intro hL;cases hL with|fM q=>exact .fM aDj aDe
def mask(n:Nat)(J:List aa):List aa:=dJ n (.tok 0 0 0)++J.drop n
def aff{Z:List U}{r:Bool}(h:(mask n J)[k]?=some (.cells Z r)):n<=k/\J[k]?=some (.cells Z r):=by
 unfold mask at h
 rcases cH k n with q|q
 rw[ei aCy] at h;rw[List.getElem?_replicate] at h;split at h<;>simp at h;rw[en aCy] at h;simp only[List.length_replicate,oW] at h;exact⟨q,by rw[<-h];congr 1;omega⟩
def auJ(n:Nat)(J:List aa):mask n (J.map aV)=(mask n J).map aV:=by
 unfold mask;rw[eD,List.map_replicate,List.map_drop];rfl
def QL{b b':aa}(h:aV b=aV b'):(b'=b\/(∃st pd ats ps ok,b=.aS st pd ats ps ok)\/(∃c c',b=.obj (.deferred c)/\b'=.obj (.deferred c'))):=by
 cases b with
 |cells Z r=>cases b' with
  |cells cs' r'=>left;exact h.symm
  |obj o=>cases o<;>cases h
  |_=>cases h
 |tok n s e=>cases b' with
  |tok n' s' e'=>left;exact h.symm
  |obj o=>cases o<;>cases h
  |_=>cases h
 |cQ es bx=>cases b' with
  |cQ es' iI=>left;exact h.symm
  |obj o=>cases o<;>cases h
  |_=>cases h
 |aS st pd ats ps ok=>right;left;exact⟨_,_,_,_,_,rfl⟩
 |obj o=>
  cases o with
  |deferred c=>cases b' with
   |obj o'=>cases o'<;>first|(right;right;exact⟨_,_,rfl,rfl⟩)|cases h
   |_=>cases h
  |_=>cases b' with
   |obj o'=>left;cases o'<;>first|exact h.symm|cases h
   |_=>cases h
def bq.YG{hi:U->List aa->Prop}(h:bq G P f args J λr hp'=>(hp'.map aV).take J.length=J.map aV/\eA J hp'/\∃n aM,b7 (mask J.length hp') n r=some aM/\hi aM (hp'.take J.length)):
  bq G P f args J λr hp'=>hi r hp':=by
 classical
 refine⟨h.1,λbase w0 C M w args' hs D=>(h.2 base w0 C M w args' hs D).mono ?_⟩;rintro e w' ⟨aC,M',hp',r,v',⟨hsame,hkeep,n,aM,hfz,hq⟩,he,hle,cE,fO⟩;have hN:=hle.length;have aBh:=hs.dH;have aos:=cE.dH
 let aq7:Nat->Prop:=λb=>∃(k:Nat) (L:Loc),J.length<=k/\M'[k]?=some L/\L.b=b
 let rQ:Cells:=λb o=>match aC b o with
  |some v=>some v
  |none=>if aq7 b then w'.cell? ⟨b,o,none⟩ else none
 have Ad:∀b o v,aC b o=some v->rQ b o=some v:=λb o v q=>by simp only[rQ,q]
 have hlow:∀{k:Nat} {b:aa},J[k]?=some b->∃b',hp'[k]?=some b'/\aV b=aV b':=λ{k b} O=>by
  have S:=nx O;have:((hp'.map aV).take J.length)[k]?=(J.map aV)[k]? :=by rw[hsame]
  rw[jC S,eo,eo,O] at this;cases hb':hp'[k]? with
  |none=>rw[hb'] at this;cases this
  |some b'=>rw[hb'] at this;exact⟨b',rfl,by simpa using this.symm⟩
 have RJ:∀{k:Nat} {Z:List U} {fz:Bool},k<J.length->hp'[k]?=some (.cells Z fz)->J[k]?=some (.cells Z fz):=λ{k Z fz} S hb'=>by
  obtain⟨b,O⟩:∃b,J[k]?=some b:=⟨_,br S⟩;obtain⟨b2,Y,V⟩:=hlow O;rw[hb'] at Y;cases Y
  rcases QL V with q|⟨_,_,_,_,_,q⟩|⟨_,_,_,q⟩
  rw[O,q];rw[q] at V;cases V;cases q
 have Et:∀{k:Nat},k<J.length->M'[k]?=M[k]? :=λ{k} S=>by
  obtain⟨b,O⟩:∃b,J[k]?=some b:=⟨_,br S⟩;obtain⟨b2,Y,V⟩:=hlow O;cases b with
  |cells Z fz=>
   obtain⟨cs',q1,_,aP,_⟩:=hle.cells k Z fz O;have:=RJ S q1;rw[O] at this;cases this;exact aP λ_=>rfl
  |tok n s ty=>
   obtain⟨n',q1,_,aP,_⟩:=hle.toks k n s ty O;rw[Y] at q1;cases q1
   rcases QL V with q|⟨_,_,_,_,_,q⟩|⟨_,_,q,_⟩
   cases q;exact aP rfl;cases q;cases q
  |obj o=>exact(hle.eM k _ rfl O).2
  |cQ es bx=>exact(hle.eM k _ rfl O).2
  |aS st pd ats ps ok=>exact(hle.eM k _ rfl O).2
 have hnone:∀{k:Nat} {L:Loc} {o:Nat},k<J.length->M'[k]?=some L->aC L.b o=none->rQ L.b o=none:=λ{k L o} S hM T=>by
  simp only[rQ,T];rw[if_neg];rintro⟨k',L',Y,V,h3⟩;exact cE.apart k' k L' L aCs V hM h3
 have Mq:∀{x:U} {v:Value},jW J.length x->aI aC M' hp' x v->aI rQ (M'.take J.length) (hp'.take J.length) x v:=λhl D=>by
  have Y:=D.azj hl;exact Y.mono ⟨Ad,λk Z fz q=>⟨Z,q,λ_=>bg _,λ_=>rfl,λq=>q⟩,λk n s ty q=>⟨n,q,bg _,λ_=>rfl,λq=>q⟩,λk b O q=>⟨⟨b,q,aa.like.refl b⟩,rfl⟩⟩
 have hlt:∀{k:Nat} {b:aa},(hp'.take J.length)[k]?=some b->k<J.length/\hp'[k]?=some b:=λ{k b} O=>by
  have S:k<J.length:=by have:=nx O;rw[zm] at this;omega
  rw[jC S] at O;exact⟨S,O⟩
 have H6:∀{k:Nat} {L:Loc},k<J.length->(M'.take J.length)[k]?=some L->M'[k]?=some L:=λ{k L} S O=>by
  rw[jC S] at O;exact O
 refine⟨rQ,M'.take J.length,hp'.take J.length,aM,v',hq,he,?_,?_,?_⟩;refine⟨λb o v q=>Ad _ _ _ (hle.C b o v q),λk Z fz S=>?_,λk n s ty S=>?_,λk b O S=>?_⟩;have cV:=nx S;obtain⟨cs',q1,_⟩:=hle.cells k Z fz S;have:=RJ cV q1;rw[S] at this;cases this;exact⟨Z,aFl,λ_=>bg _,λ_=>by rw[jC cV];exact Et cV,λq=>by rw[jC cV,Et cV];exact q⟩;have cV:=nx S;obtain⟨n',q1,ah,aP,ec⟩:=hle.toks k n s ty S;exact⟨n',aFl,ah,λ_=>by rw[jC cV];exact Et cV,λq=>by rw[jC cV,Et cV];exact q⟩;have cV:=nx S;obtain⟨⟨b',q1,ah⟩,aP⟩:=hle.eM k b O S;exact⟨⟨b',aFl,ah⟩,by rw[jC cV];exact aP⟩;refine⟨cE.below,cE.k_,λb o v q O=>?_,λb o v q=>Ad _ _ _ (cE.oB b o v q),?_,λb o v q=>?_,λk Z fz L S hM=>?_,λk n s ty L S hM=>?_,λk k' L L' hne hM cP=>?_,λk b L O S hM=>?_⟩;simp only[rQ] at q;split at q;rename_i u hu;cases q;exact cE.old b o _ hu O;split at q;rename_i hn;obtain⟨k,L,Y,V,h3⟩:=hn;have:=(cE.at V).2;omega;cases q;rw[zm,zm,aos];simp only[rQ] at q;split at q;rename_i u hu;cases q;exact cE.lf b o _ hu;split at q;exact q;cases q;obtain⟨cV,hk'⟩:=hlt S;have cP:=H6 cV hM;obtain⟨t1,t2,t3,t4,t5,t6,t7⟩:=cE.cells k Z fz L hk' cP;refine⟨t1,t2,λi c T=>?_,t4,λo=>hnone cV cP (t5 o),t6,t7⟩;obtain⟨c',q1,ah⟩:=t3 i c T;refine⟨c',q1,Mq ?_ ah⟩;have hk0:=RJ cV hk';rw[Et cV] at cP;obtain⟨_,_,cW,_⟩:=hs.cells k Z fz L hk0 cP;obtain⟨c0,_,aP⟩:=cW i c T;exact aP.low;obtain⟨cV,hk'⟩:=hlt S;have cP:=H6 cV hM;obtain⟨t1,t2,t3,t4,t5,t6⟩:=cE.toks k n s ty L hk' cP;exact⟨t1,t2,t3,λo ho=>hnone cV cP (t4 o ho),t5,t6⟩;have e1:k<J.length:=by have:=nx hM;rw[zm] at this;omega
 have e2:k'<J.length:=by have:=nx cP;rw[zm] at this;omega
 exact cE.apart k k' L L' hne (H6 e1 hM) (H6 e2 cP);obtain⟨cV,hk'⟩:=hlt S;have cP:=H6 cV hM;obtain⟨t1,o,t2,t3,t4⟩:=cE.eM k b L O hk' cP;refine⟨t1,o,t2,t3,?_⟩;obtain⟨b0,hb0⟩:∃b,J[k]?=some b:=⟨_,br cV⟩;obtain⟨b2,Y,V⟩:=hlow hb0;rw[hk'] at Y;cases Y;have LY:M[k]?=some L:=by rw[<-Et cV];exact cP
 cases b with
 |obj o'=>exact t4
 |cQ es bx=>
  rcases QL V with q|⟨_,_,_,_,_,q⟩|⟨_,_,_,q⟩
  subst q;obtain⟨_,o0,_,_,amD,_,hl0,qt⟩:=hs.eM k _ L rfl hb0 LY;obtain⟨entries,e1,e2,bW⟩:=t4;refine⟨entries,e1,e2,λi a b ha O=>?_⟩;obtain⟨b1,fV⟩:∃b1,amD.toList[i]?=some b1:=⟨_,br (by rw[<-hl0];exact nx ha)⟩;obtain⟨u1,u2,_⟩:=qt i a b1 ha fV;obtain⟨v1,v2,v3⟩:=bW i a b ha O;exact⟨Mq u1.low v1,Mq u2.low v2,v3⟩;rw[q] at V;cases V;cases q
 |aS st pd ats ps ok=>
  obtain⟨fn,tmps,assign,body,hr,e1,e2,bW,cO⟩:=t4;refine⟨fn,tmps,assign,body,hr,e1,e2,bW,λi a b ha O=>Mq ?_ (cO i a b ha O)⟩;cases b0 with
  |aS og agc akO awb avF=>
   obtain⟨st',jA,q⟩:=hkeep k og agc akO awb avF hb0;rw[hk'] at q;cases q;obtain⟨_,o0,_,_,fn0,aze,aAF,aAM,aAB,_,_,g3,g4⟩:=hs.eM k _ L rfl hb0 LY;obtain⟨b1,fV⟩:∃b1,aze[i]?=some b1:=⟨_,sM (by rw[<-g3];exact nx ha)⟩;exact(g4 i a b1 ha fV).low
  |obj o=>cases o<;>cases V
  |_=>cases V
 |cells Z fz=>cases O
 |tok n s e=>cases O
 refine(LL (aC:=rQ) (va:=mask J.length hp') Ad (λk Z row L S hM i c T=>?_) (λk Z row S=>?_) hfz fO).mono le_nil;obtain⟨eY,hk2⟩:=aff S;obtain⟨t1,t2,t3,t4,t5,_⟩:=cE.cells k Z row L hk2 hM;obtain⟨c',q1,ah⟩:=t3 i c T;refine⟨c',?_,ah⟩;simp only[rQ,t5 i];rw[if_pos ⟨k,L,eY,hM,rfl⟩];exact q1;exact(aff S).2
def bq.close{aM:U}(h:bq G P f args J λr hp'=>(hp'.map aV).take J.length=J.map aV/\eA J hp'/\∃n,b7 (mask J.length hp') n r=some aM):
  bq G P f args J λr hp'=>r=aM/\hp'.map aV=J.map aV/\eA J hp':=by
 refine bq.YG (a_ h ?_);rintro r hp' ⟨hsame,hkeep,n,hfz⟩;refine⟨hsame,hkeep,n,aM,hfz,rfl,?_,?_⟩;rw[ajq];exact hsame;intro k st pd ats ps ok S;obtain⟨st',jA,q⟩:=hkeep k st pd ats ps ok S;exact⟨st',jA,by rw[jC (nx S)];exact q⟩
def bq.Qh{hi:U->Prop}(h:bq G P f args J λr hp'=>(∃l,hp'=J++l)/\∃n aM,b7 (mask J.length hp') n r=some aM/\hi aM):
  bq G P f args J λr hp'=>hi r/\hp'=J:=by
 refine bq.YG (a_ h ?_);rintro r hp' ⟨⟨l,rfl⟩,n,aM,hf,hq⟩;have e1:(J++l).take J.length=J:=OV rfl;exact⟨by rw[<-ajq,e1],xo,n,aM,hf,hq,e1⟩
end
end
end Go.aH

/- Part 4 of a proof. No condition. -/
import Derived.Test.YtggeooeohcbdhaaGreatDoorZ3
import Derived.RecoverIn
import Derived.HandedShaped
import Derived.Handed
import Derived.ProofKit
import Derived.OpenShut
set_option linter.unusedVariables false
set_option linter.unusedSimpArgs false
set_option linter.defProp false
open Array renaming getElem?_eq_getElem->sX,getElem?_eq_some_iff->vT,length_toList->aiL,replicate->xU
open Bool renaming and_eq_true->dY,false_eq_true->iA,or_eq_true->DA
open Go.aJ.U renaming cells->gm,mp->bB,one->bn,v->bP
open Go.aJ.aE renaming mono->aZ
open Go.aJ.fI renaming mono->e3
open Go.aJ.gP renaming mono->rT
open Go.aJ.s_ renaming mono->VM
open Go.aJ.bZ renaming refl->mI
open Go.aJ.pE renaming Ej->OF
open Go.Act renaming eval->J2
open Go.Builtin renaming unsafeString_->VP
open Go.DataW renaming TrodAll->OG,trod->OH
open Go.Deferred renaming ofValue->Bo
open Go.Fence renaming wide->qc
open Go.IntKind renaming bits->F5,i64->b7,signed->F6,u64->DD,wrap->VW
open Go.OpenSpec renaming ofChange->VZ
open Go.Region renaming wanted->J8
open Go.Sem renaming run_pure->ki
open Go.Value renaming okWide->J_
open Go.World renaming cell?->DG,frozen?->V2,shape?->Kd
open List renaming all_cons->lD,all_eq_true->c_,any_eq_true->F7,append_nil->e4,drop_drop->vZ,drop_zero->nk,eq_nil_of_length_eq_zero->lE,getElem?_append_left->ei,getElem?_append_right->er,getElem?_cons_succ->v8,getElem?_drop->qd,getElem?_eq_getElem->br,getElem?_eq_some_iff->bE,getElem?_map->eC,getElem?_set_ne->av,getElem?_set_self->aR,getElem?_take->OU,getElem?_take_of_lt->zp,getElem_of_mem->DJ,length_append->cB,length_drop->v_,length_map->b_,length_nil->fQ,length_take->zu,map_append->eX,map_cons->eD,map_set->s0,map_take->ajg,mem_cons->ek,replicate->dL,take_append_drop->Wg,take_left'->OX
open Nat renaming add_zero->rW,le_refl->bl,lt_or_ge->cE,mul_le_mul_right->mK,sub_zero->DM,succ_mul->qR,zero_add->e5,zero_le->ic
open Option renaming bind_eq_some_iff->eY,bind_some->kn,getD_some->s8,isSome_none->ya,map_eq_some_iff->cc,map_some->ie
open Option.some renaming inj->mL,injEq->lG
open Or renaming inl->ay,inr->ax
open Prod.mk renaming injEq->uI
namespace Go.aJ
open Go.RowKit
section
variable{hp:List aa}{lz jS:TypeId}{fF p1:String}{k6 lM:Array Edge}{a:Act}{w:World}{O:iP}{g:FuncId}{args:List U}
structure WY where
 ntmps:Nat
 d0:Nat
 d1:Nat
 body:jt
def recAt(o1 o2:Oper):Option (Nat×Nat):=match o1 with
 |{dst:=some d0,op:=.call {callee:=.builtin .recover,args:=⟨[]⟩,argTypes:=_},type:=_,pos:=_,after:=_,guard:=none}=>match o2 with
  |{dst:=some d1,op:=.assign (.tmp t),type:=_,pos:=_,after:=_,guard:=none}=>if t=d0 then some (d0,d1) else none
  |_=>none
 |_=>none
def FN(P:Program)(O:iP)(g:FuncId):Option WY:=match P.funcs[g]? with
 |some fn=>if fn.name== "runtime.NumGoroutine" then none else match fn.results.toList with
  |[]=>match fn.body with
   |some (.seq (.region _ ⟨[o1,o2]⟩ false) rest)=>match recAt o1 o2,slim P O rest with
    |some (d0,d1),some sc=>if d0<fn.ntmps/\d1<fn.ntmps/\d0≠d1 then some ⟨fn.ntmps,d0,d1,sc⟩ else none
    |_,_=>none
   |_=>none
  |_=>none
 |none=>none
def jb(G:Cells)(P:Program)(g:FuncId)(args:List U)(hp:List aa)(x:Option Value)(K:List aa->Prop):Prop:=
 Enters P g/\∀base w0 C M w args',bt G base w0 C M hp w->bY C M hp args args'->
  CallsDIn qc 0 P g args'.toArray (match x with|none=>.returning|some v=>.panicking [{v:=v,recovered:=false}]) w λe u' w'=>
   ∃aC M' hp' v,K hp'/\e=.returned v/\settle u'=.returning/\bZ C M hp aC M' hp'/\bt G base w0 aC M' hp' w'
def nL:Option U->U
 |none=>.v .nilIface
 |some x=>x
def j9:U->Bool
 |.v x=>plain x
 |.agg cs=>Fs cs
 |_=>false
where Fs:List U->Bool
 |[]=>true
 |x::r=>j9 x&&Fs r
mutual
theorem agm{C:Cells}{M:List Loc}{hp:List aa}:∀{x:U} {v:Value},j9 x=true->pE x=some v->aI C M hp x v
 |.v x,v,h,hc=>by
  simp only[pE,lG] at hc;subst hc;exact .v (by simpa[j9] using h)
 |.agg cs,v,h,hc=>by
  simp only[pE,cc] at hc;obtain⟨l,h1,rfl⟩:=hc;have:=agn (C:=C) (M:=M) (hp:=hp) (by simpa[j9] using h) h1;exact .agg (by simpa using this.1) (λi a b ha hb=>this.2 i a b ha aB0)
 |.aK _,_,h,_=>aB7
 |.af,_,h,_=>aB7
 |.sl _ _,_,h,_=>aB7
 |.fp _ _,_,h,_=>aB7
 |.mp _ _,_,h,_=>aB7
 |.rp _ _ _,_,h,_=>aB7
 |.rs _ _ _ _ _,_,h,_=>aB7
 |.eN _,_,h,_=>aB7
 |.eW _,_,h,_=>aB7
 |.fn _ _ _,_,h,_=>aB7
 |.cQ _ _,_,h,_=>aB7
 |.ey _,_,h,_=>aB7
 |.gk _,_,h,_=>aB7
 |.fL _ _,_,h,_=>aB7
theorem agn{C:Cells}{M:List Loc}{hp:List aa}:∀{xs:List U} {vs:List Value},j9.Fs xs=true->OF xs=some vs->bY C M hp xs vs
 |[],vs,_,hc=>by
  simp only[OF,lG] at hc;subst hc;exact⟨rfl,λi a b ha hb=>by simp at ha⟩
 |x::r,vs,h,hc=>by
  simp only[j9.Fs,dY] at h;simp only[OF] at hc;split at hc;rename_i a l h1 h2;cases hc;have k1:=agm (C:=C) (M:=M) (hp:=hp) h.1 h1;have k2:=agn (C:=C) (M:=M) (hp:=hp) h.2 h2;refine⟨by simp[k2.1],λi a b ha hb=>?_⟩;cases i with
  |zero=>simp at ha hb;subst ha;subst hb;exact k1
  |succ i=>simp at ha hb;exact k2.2 i a b ha hb
  cases hc
end
def uj:U->Bool
 |.cQ _ x=>j9 x
 |_=>false
def awg{C:Cells}{M:List Loc}{x:U}{v:Value}(h:uj x=true)(hc:oD x=some v):aI C M hp x v:=by
 cases x with
 |cQ t x=>
  simp only[oD,cc] at hc;obtain⟨a,h1,rfl⟩:=hc;exact .cQ (agm (by simpa[uj] using h) h1)
 |_=>simp[uj] at h
section
variable{G:Cells}{P:Program}
def y4(d0:Nat)(vO:Array TypeId)(lz:TypeId)(fF:String)(k6:Array Edge):Oper:={dst:=some d0,op:=.call {callee:=.builtin .recover,args:=⟨[]⟩,argTypes:=vO},type:=lz,pos:=fF,after:=k6,guard:=none}
def zO(d1 d0:Nat)(jS:TypeId)(p1:String)(lM:Array Edge):Oper:={dst:=some d1,op:=.assign (.tmp d0),type:=jS,pos:=p1,after:=lM,guard:=none}
def agj{Q:Exit->Act->List Frame->World->Prop}{d0 d1:Nat}{vO:Array TypeId}{cs:List Frame}(hd:d0<a.tmps.size){rv:Value}{cs':List Frame}
  (hr:(recoverD cs=none/\rv=.nilIface/\cs'=cs)\/recoverD cs=some (rv,cs')) (hq:Q .normal ((a.put (some d0) rv).put (some d1) rv) cs' w):
  wpOpsSIn qc 0 P ⟨[y4 d0 vO lz fF k6,zO d1 d0 jS p1 lM]⟩ Q [0,1] a cs w:=by
 have e1:(execOp a.eval (y4 d0 vO lz fF k6)).run P w=.ok .recover w:=by
  simp[execOp,resolve,invoke,builtin,y4]
 have e2:∀Ll,Q .normal ((a.put (some d0) rv).put (some d1) rv) Ll w->wpOpsSIn qc 0 P ⟨[y4 d0 vO lz fF k6,zO d1 d0 jS p1 lM]⟩ Q [1] (a.put (some d0) rv) Ll w:=by
  intro Ll hq;have:(a.put (some d0) rv).eval (.tmp d0)=rv:=by simp[J2,Act.put,hd]
  have bQ:(execOp (a.put (some d0) rv).eval (zO d1 d0 jS p1 lM)).run P w=.ok (.value rv) w:=by
   simp only[execOp,zO,ki,this]
  have cC:(⟨[y4 d0 vO lz fF k6,zO d1 d0 jS p1 lM]⟩:Array Oper)[1]?=some (zO d1 d0 jS p1 lM):=rfl;have iW:∀y,J8 (zO d1 d0 jS p1 lM) y=true:=λ_=>rfl;simp only[wpOpsSIn,cC,iW,if_true,bQ];exact⟨λ_ _=>trivial,hq⟩
 have cC:(⟨[y4 d0 vO lz fF k6,zO d1 d0 jS p1 lM]⟩:Array Oper)[0]?=some (y4 d0 vO lz fF k6):=rfl;have iW:∀y,J8 (y4 d0 vO lz fF k6) y=true:=λ_=>rfl;have sn:(y4 d0 vO lz fF k6).dst=some d0:=rfl
 rcases hr with⟨h1,rfl,rfl⟩|h1
 unfold wpOpsSIn;simp only[cC,iW,if_true,e1,h1,sn];exact⟨λ_ _=>trivial,e2 _ hq⟩;unfold wpOpsSIn;simp only[cC,iW,if_true,e1,h1,sn];exact⟨λ_ _=>trivial,e2 _ hq⟩
def axk(v:Value):settle (.panicking [{v:=v,recovered:=true}])=.returning:=by rfl
def al4{d:WY}(hg:FN P O g=some d){x:Option U}{v:Option Value}{K:List aa->Prop}
  (hx:match x,v with|none,none=>True|some x,some v=>uj x=true/\oD x=some v|_,_=>False)
  (h:hO G P d.body (λe s=>(e=.normal\/e=.ret)/\K s.hp) ⟨((so args d.ntmps).set d.d0 (nL x)).set d.d1 (nL x),hp⟩):jb G P g args hp v K:=by
 unfold FN at hg;split at hg;rename_i fn hfn;split at hg;cases hg;rename_i hname;split at hg;rename_i hres;split at hg;rename_i id o1 o2 rest hb;split at hg;rename_i d0 d1 sc Au hsc;split at hg;rename_i hlt;obtain⟨hd0,hd1,hne⟩:=hlt;cases hg;have abn:=Array.toList_inj.1 (by simpa using hres);refine⟨⟨fn,hfn,by rw[hb];rfl,by simpa using hname⟩,λbase w0 C M w args' hs hr=>?_⟩;refine callsDIn_of_wpSIn (F:=qc) (n:=0) hfn hb trivial λc₀ cs hu=>?_;unfold recAt at Au;split at Au;rename_i aAi vO lz fF k6;split at Au;rename_i Qr t1 jS p1 lM;split at Au;rename_i ht;subst ht;cases Au;refine wpSIn_seq (wpSIn_region ?_);have key:∀(rv:Value) (cs':List Frame) (u':FrameMode),aI C M hp (nL x) rv->settle u'=.returning->cs'={c₀ with mode:=u'}::cs->
   rest.wpSIn qc 0 P (bodyPostS P fn c₀ cs λe u' w'=>∃aC M' hp' v,K hp'/\e=.returned v/\settle u'=.returning/\bZ C M hp aC M' hp'/\bt G base w0 aC M' hp' w')
    (({tmps:=args'.toArray++xU (fn.ntmps-args'.toArray.size) undef,defers:=[]}:Act).put (some d0) rv|>.put (some d1) rv) cs' w:=by
  intro rv cs' u' j3 yJ Mb;refine wpSIn_of_wpIn rfl ?_;have hfr:fS G .plain none base w0 C M ⟨((so args fn.ntmps).set d0 (nL x)).set d1 (nL x),hp⟩ (({tmps:=args'.toArray++xU (fn.ntmps-args'.toArray.size) undef,defers:=[]}:Act).put (some d0) rv|>.put (some d1) rv) w:=
   ⟨hs,yE (yE (LP hr _) j3 (some d0)) j3 (some d1),rfl,trivial⟩
  refine wpIn_mono (h rest O hsc none base w0 C M _ w hfr) λe a' w' ⟨aC,M',s',⟨he,hK⟩,hle,hf'⟩=>?_;have hd:=hf'.defers
  rcases he with rfl|rfl
  exact⟨hd,u',Mb,.tuple #[],by simp[results,abn],aC,M',s'.hp,_,hK,rfl,yJ,hle,hf'.jy⟩;exact⟨hd,u',Mb,.tuple #[],by simp[results,abn],aC,M',s'.hp,_,hK,rfl,yJ,hle,hf'.jy⟩
 have hsz:d0<(args'.toArray++xU (fn.ntmps-args'.toArray.size) undef).size:=aBK
 cases x with
 |none=>
  cases v with
  |some v=>exact hx.elim
  |none=>
   have Ms:=hu;have hrd:recoverD (c₀::cs)=none:=by simp[recoverD,Ms]
   have:=key .nilIface (c₀::cs) .returning (.v rfl) rfl (by cases c₀;cases Ms;rfl);exact agj hsz (ay ⟨hrd,rfl,rfl⟩) this
 |some x=>
  cases v with
  |none=>exact hx.elim
  |some v=>
   have Ms:=hu;have hrd:recoverD (c₀::cs)=some (v,{c₀ with mode:=.panicking [{v:=v,recovered:=true}]}::cs):=by simp[recoverD,Ms]
   have:=key v _ (.panicking [{v:=v,recovered:=true}]) (awg hx.1 hx.2) (axk v) rfl;exact agj hsz (ax hrd) this
 cases Au;cases Au;cases Au;cases hg;cases hg;cases hg;cases hg;cases hg
structure WX where
 ntmps:Nat
 results:List e7
 head:jt
 t:Nat
 g:FuncId
 caps:List bI
 body:jt
def xC(t:Nat)(g:FuncId)(cs:Array Operand)(lz:TypeId)(fF:String)(k6:Array Edge):Oper:={dst:=some t,op:=.makeFunc (.func g) ⟨[]⟩ cs,type:=lz,pos:=fF,after:=k6,guard:=none}
def wP(t:Nat)(sU:Array TypeId)(jS:TypeId)(p1:String)(lM:Array Edge):Oper:={dst:=none,op:=.defer {callee:=.value (.tmp t),args:=⟨[]⟩,argTypes:=sU},type:=jS,pos:=p1,after:=lM,guard:=none}
def YT(o1 o2:Oper):Option (Nat×FuncId×List bI):=match o1 with
 |{dst:=some t,op:=.makeFunc (.func g) ⟨[]⟩ cs,type:=_,pos:=_,after:=_,guard:=none}=>match o2 with
  |{dst:=none,op:=.defer {callee:=.value (.tmp t'),args:=⟨[]⟩,argTypes:=_},type:=_,pos:=_,after:=_,guard:=none}=>if t'=t then(match qJ cs.toList with|some l=>some (t,g,l)|none=>none) else none
  |_=>none
 |_=>none
def FM(P:Program)(O:iP)(f:FuncId):Option WX:=match P.funcs[f]? with
 |some fn=>if fn.name== "runtime.NumGoroutine" then none else match fn.body with
  |some (.seq aQ (.seq (.region _ ⟨[o1,o2]⟩ false) rest))=>match YT o1 o2,slim P O aQ,slim P O rest,A4 P fn.results.toList with
   |some (t,g,l),some h,some b,some rs=>if t<fn.ntmps then some ⟨fn.ntmps,rs,h,t,g,l,b⟩ else none
   |_,_,_,_=>none
  |_=>none
 |none=>none
def al7{Q:Exit->Act->World->Prop}{t:Nat}{cs:Array Operand}{sU:Array TypeId}(hd:t<a.tmps.size)
  (hq:Q .normal {(a.put (some t) (.func (.func g) #[] (cs.map a.eval))) with defers:={target:=.fn (.func g) (cs.map a.eval),args:= #[]}::a.defers} w):
  wpOpsIn (o4 none) 0 P ⟨[xC t g cs lz fF k6,wP t sU jS p1 lM]⟩ Q [0,1] a w:=by
 have e1:(execOp a.eval (xC t g cs lz fF k6)).run P w=.ok (.value (.func (.func g) #[] (cs.map a.eval))) w:=by
  simp[execOp,xC,Instr.makeFunc]
 have e2:(execOp (a.put (some t) (.func (.func g) #[] (cs.map a.eval))).eval (wP t sU jS p1 lM)).run P w=.ok (.defer {target:=.fn (.func g) (cs.map a.eval),args:= #[]}) w:=by
  have:(a.put (some t) (.func (.func g) #[] (cs.map a.eval))).eval (.tmp t)=.func (.func g) #[] (cs.map a.eval):=by simp[J2,Act.put,hd]
  simp[execOp,wP,resolve,this,Bo]
 have bQ:∀y,J8 (xC t g cs lz fF k6) y=true:=λ_=>rfl;have cC:∀y,J8 (wP t sU jS p1 lM) y=true:=λ_=>rfl;have iW:(⟨[xC t g cs lz fF k6,wP t sU jS p1 lM]⟩:Array Oper)[0]?=some (xC t g cs lz fF k6):=rfl;have sn:(⟨[xC t g cs lz fF k6,wP t sU jS p1 lM]⟩:Array Oper)[1]?=some (wP t sU jS p1 lM):=rfl;have G7:(xC t g cs lz fF k6).dst=some t:=rfl;have amc:(wP t sU jS p1 lM).dst=none:=rfl;have s1:(xC t g cs lz fF k6).semAt (o4 none).round a.eval=execOp a.eval (xC t g cs lz fF k6):=rfl;have s2:(wP t sU jS p1 lM).semAt (o4 none).round (a.put (some t) (.func (.func g) #[] (cs.map a.eval))).eval=execOp (a.put (some t) (.func (.func g) #[] (cs.map a.eval))).eval (wP t sU jS p1 lM):=rfl;unfold wpOpsIn;simp only[iW,bQ,if_true];refine⟨λ_ _=>trivial,?_⟩;rw[s1,e1];simp only[Oper.uponIn,G7];unfold wpOpsIn;simp only[sn,cC,if_true];refine⟨λ_ _=>trivial,?_⟩;rw[s2,e2];simp only[Oper.uponIn,amc];exact hq
def amj(G:Cells)(P:Program)(g:FuncId)(ks:List Nat)(rs:List e7)(K:U->List aa->Prop):Exit->bU->Prop
 |.normal,s=>jb G P g (ks.map λk=>.mp k 0) s.hp none λhp'=>∃r,pZ ⟨s.ts,hp'⟩ rs=some r/\K r hp'
 |.ret,s=>jb G P g (ks.map λk=>.mp k 0) s.hp none λhp'=>∃r,pZ ⟨s.ts,hp'⟩ rs=some r/\K r hp'
 |.panic ch,s=>∃v,ch=[{v:=v,recovered:=false}]/\jb G P g (ks.map λk=>.mp k 0) s.hp (some v) λhp'=>∃r,pZ ⟨s.ts,hp'⟩ rs=some r/\K r hp'
 |_,_=>False
def amU{f:FuncId}{d:WX}(hf:FM P O f=some d){K:U->List aa->Prop}
  (h:hO G P d.head (λe s=>e=.normal/\d.t<s.ts.length/\∃ks:List Nat,d.caps.map (ev s.ts)=ks.map (λk=>.mp k 0)/\
    jG G P (.oE d.g ks) d.body (amj G P d.g ks d.results K) ⟨s.ts.set d.t (.fn (.func d.g) [] (ks.map λk=>.mp k 0)),s.hp⟩) ⟨so args d.ntmps,hp⟩):aE G P f args hp K:=by
 unfold FM at hf;split at hf;rename_i fn hfn;split at hf;cases hf;rename_i hname;split at hf;rename_i aQ id o1 o2 rest hb;split at hf;rename_i t g l hd bd rs tQ hh hbd hrs;split at hf;rename_i hlt;cases hf;unfold YT at tQ;split at tQ;rename_i t0 g0 cs0 lz fF k6;split at tQ;rename_i t1 sU jS p1 lM;split at tQ;rename_i ht;subst ht;split at tQ;rename_i l' hl;cases tQ;refine⟨⟨fn,hfn,by rw[hb];rfl,by simpa using hname⟩,λbase w0 C M w args' hs hr=>?_⟩;refine callsIn_wide.1 (callsIn_of_wp_defers (F:=qc) (n:=0) hfn hb trivial ?_);have hf:fS G .plain none base w0 C M ⟨so args fn.ntmps,hp⟩ {tmps:=args'.toArray++xU (fn.ntmps-args'.toArray.size) undef,defers:=[]} w:=
  ⟨hs,LP hr _,rfl,trivial⟩
 refine wpIn_seq (wpIn_mono (h aQ O hh none base w0 C M _ w hf) λe a1 w1 ⟨yb,Gt,s1,⟨he,Cx,ks,hks,hT⟩,Am,HX⟩=>?_);subst he;have hd1:=HX.defers;have hcap:bY yb Gt s1.hp (ks.map λk=>.mp k 0) (cs0.map a1.eval).toList:=by
  have:=um HX.frame hl;rw[hks] at this;simpa using this
 have hsz:t<a1.tmps.size:=by
  have:=HX.frame.1;simp only[aiL] at this;have aA3:t<s1.ts.length:=Cx;omega
 refine wpIn_seq (wpIn_region ?_);refine al7 hsz ?_;have RS:fS G (.oE g ks) none base w0 yb Gt ⟨s1.ts.set t (.fn (.func g) [] (ks.map λk=>.mp k 0)),s1.hp⟩ {(a1.put (some t) (.func (.func g) #[] (cs0.map a1.eval))) with defers:={target:=.fn (.func g) (cs0.map a1.eval),args:= #[]}::a1.defers} w1:=by
  refine⟨HX.jy,?_,⟨yb,cs0.map a1.eval,by rw[hd1],hcap⟩,rfl⟩;exact yE HX.frame (.fn rfl (by have:=hcap.1;simpa using this) (λi x y hx _=>aB2) (λi x y hx hy=>hcap.2 i x y hx (by simpa using hy))) (some t)
 refine wpIn_mono (hT rest O hbd none base w0 yb Gt _ w1 RS) λe a2 w2 ⟨oZ,M2,s2,hq,jM,RT⟩=>?_;obtain⟨jr,cap,hds,aaH⟩:=RT.defers;have fin:∀(x:Option Value) (u:FrameMode),u=(match x with|none=>.returning|some v=>.panicking [{v:=v,recovered:=false}])->
   jb G P g (ks.map λk=>.mp k 0) s2.hp x (λhp'=>∃r,pZ ⟨s2.ts,hp'⟩ rs=some r/\K r hp')->
   LeavesIn qc 0 P fn a2.tmps (λe w'=>∃aC M' hp' r v',K r hp'/\e=.returned v'/\bZ C M hp aC M' hp'/\bt G base w0 aC M' hp' w'/\aI aC M' hp' r v') a2.defers u w2:=by
  intro x u hu iY;rw[hds];have aoB:bY oZ M2 s2.hp (ks.map λk=>.mp k 0) cap.toList:=by
   refine⟨aaH.1,λi a b ha hb=>?_⟩;have:=aaH.2 i a b ha hb;simp only[eC,cc] at ha;obtain⟨k,_,rfl⟩:=ha;cases this with
   |mp hb' cJ=>exact .mp hb' cJ
  have w_:=iY.2 base w0 oZ M2 w2 cap.toList RT.jy aoB;refine leavesIn_cons (by rw[hu];cases x<;>simp) (λq=>aBT) (Jz iY.1 _ _) (λ_ _=>trivial) ?_;rw[hu];have e0:(#[]:Array Value)++cap=cap.toList.toArray:=aBI
  rw[e0];refine CallsDIn.mono w_ λe u' w' ⟨ajy,ajE,tU,v,⟨r,j3,hK⟩,he,yJ,An,hs3⟩=>?_;subst he;simp only;rw[yJ];obtain⟨v',hv1,xu⟩:=UF (P:=P) (bN:=.plain) (ro:=none) (s':=⟨s2.ts,tU⟩) (a':={tmps:=a2.tmps,defers:=[]}) hrs ⟨hs3,wZ An RT.frame,rfl,trivial⟩ j3;exact⟨v',hv1,ajy,ajE,tU,r,v',hK,rfl,Am.trans (jM.trans An),hs3,xu⟩
 cases e with
 |normal=>exact fin none .returning rfl hq
 |ret=>exact fin none .returning rfl hq
 |panic ch=>
  obtain⟨v,rfl,iY⟩:=hq;exact fin (some v) _ rfl iY
 |_=>exact hq.elim
 cases tQ;cases tQ;cases tQ;cases tQ;cases hf;cases hf;cases hf;cases hf
end
end
section
variable{v:U}{F K:U->List aa->Prop}{n:Nat}{args ts xs ys:List U}{t:iD}{i:fK}{k:IntKind}{hp l:List aa}{b w:Bool}{a:Prop}{ops r:List aL}{α:Type}{d:Option Nat}{f g:FuncId}{ch:List PanicEntry}{G:Cells}{P:Program}{rs:List e7}{O pu:iP}
section
variable{P:Program}{K:bU->Prop}{ts:List U}{hp:List aa}{r:List aL}
def Vx(x:Option (U×List aa))(F:U->List aa->Prop):Prop:=∃v hp',x=some (v,hp')/\F v hp'
def aiv{hp':List aa}:Vx (some (v,hp')) F=F v hp':=by
 apply propext;constructor;rintro⟨v',gE,h,k⟩;cases h;exact k;intro k;exact⟨v,hp',rfl,k⟩
section
variable(k:IntKind)(a b:Int)
def W5:ct .add (.v (.int k a)) (.v (.int k b))=some (.v (.int k (k.wrap (a+b)))):=aCq
def Xd:ct .sub (.v (.int k a)) (.v (.int k b))=some (.v (.int k (k.wrap (a-b)))):=aCq
def Xb:ct .mul (.v (.int k a)) (.v (.int k b))=some (.v (.int k (k.wrap (a*b)))):=aCq
def W7:ct .eql (.v (.int k a)) (.v (.int k b))=some (.v (.bool (a==b))):=aCq
def Xc:ct .neq (.v (.int k a)) (.v (.int k b))=some (.v (.bool (a !=b))):=aCq
def Xa:ct .lss (.v (.int k a)) (.v (.int k b))=some (.v (.bool (decide (a<b)))):=aCq
def W_:ct .leq (.v (.int k a)) (.v (.int k b))=some (.v (.bool (decide (a<=b)))):=aCq
def W9:ct .gtr (.v (.int k a)) (.v (.int k b))=some (.v (.bool (decide (b<a)))):=aCq
def W8:ct .geq (.v (.int k a)) (.v (.int k b))=some (.v (.bool (decide (b<=a)))):=aCq
def PA(h:b≠0):ct .quo (.v (.int k a)) (.v (.int k b))=some (.v (.int k (k.wrap (a.tdiv b)))):=aEz
def PB(h:b≠0):ct .rem (.v (.int k a)) (.v (.int k b))=some (.v (.int k (a.tmod b))):=aEz
def aj1(k':IntKind)(h:¬b<0):ct .shl (.v (.int k a)) (.v (.int k' b))=some (.v (.int k (k.wrap (a*2^(min b.toNat k.bits))))):=aEz
def aj2(k':IntKind)(h:¬b<0):ct .shr (.v (.int k a)) (.v (.int k' b))=some (.v (.int k (a.fdiv (2^(min b.toNat k.bits))))):=aEz
def W6:ct .and (.v (.int k a)) (.v (.int k b))=some (.v (tB k a b (· &&& ·))):=aCq
def aj0:ct .or (.v (.int k a)) (.v (.int k b))=some (.v (tB k a b (· ||| ·))):=aCq
end
def wD(x:Value):dA 1 [.v x]=some (.sl [.v x] .exact):=aC6
def ku{i:Nat}{x:U}(h:xs[i]?=some x)(hn:x.cells.length=n):bu n (.sl xs t) (.v (.int k (i:Int)))=some (.fp x.cells 0):=by simp[bu,h,hn]
def PK{aH:Bool}{off:Nat}{cs:List U}{c:U}(hp:List aa)(h:dB aH n cs off=some c):aq hp aH n (.fp cs off)=some c:=h
def Xf(a b:Value):dA 1 [.v a,.v b]=some (.sl [.v a,.v b] .exact):=aC6
def Xg(a b c:Value):dA 1 [.v a,.v b,.v c]=some (.sl [.v a,.v b,.v c] .exact):=aC6
def Xh(a b c d:Value):dA 1 [.v a,.v b,.v c,.v d]=some (.sl [.v a,.v b,.v c,.v d] .exact):=aC6
def Xi(a b c d e f g h:Value):dA 1 [.v a,.v b,.v c,.v d,.v e,.v f,.v g,.v h]=some (.sl [.v a,.v b,.v c,.v d,.v e,.v f,.v g,.v h] .exact):=aC6
def wE(off o:Nat)(cs:List U):je off (.fp cs o)=some (.fp cs (o+off)):=rfl
def iE(off o k:Nat):je off (.mp k o)=some (.mp k (o+off)):=rfl
def bL(v:U)(xs:List U):Prop:=v=.sl xs .no\/(v=.af/\xs=[])
def bL.len{v:U}{xs:List U}(h:bL v xs):GH v=some (.v (goInt xs.length)):=by
 rcases h with rfl|⟨rfl,rfl⟩<;>rfl
def bL.bK(h:bL v xs){i:Nat}{x:U}(hx:xs[i]?=some x)(hn:x.cells.length=n):bu n v (.v (.int k (i:Int)))=some (.fp x.cells 0):=by
 rcases h with rfl|⟨rfl,rfl⟩
 exact ku hx hn;simp at hx
def bL.ns(h:bL v xs):∀s,v≠.v (.string s):=by
 rcases h with rfl|⟨rfl,rfl⟩<;>(intro s e;cases e)
def bO(v:U)(hp:List aa):Option (U×List aa):=match v with
 |.v (.string _)=>none
 |x'=>(GH x').map λr=>(r,hp)
def bL.bO{v:U}{xs:List U}(h:bL v xs)(hp:List aa):bO v hp=some (.v (goInt xs.length),hp):=by
 rcases h with rfl|⟨rfl,rfl⟩<;>rfl
def nF(xs:List U)(t:iD)(hp:List aa):bO (.sl xs t) hp=some (.v (goInt xs.length),hp):=rfl
section
variable(ts:List U)(hp:List aa)
def D9(k o:Nat):uZ (.mp k o)=some (.mp k o):=rfl
def Xw(cs:List U)(o:Nat):uZ (.fp cs o)=some (.fp cs o):=rfl
end
def PG(k k':IntKind)(n:Int):D4 k (.v (.int k' n))=some (.v (.int k (k.wrap n))):=rfl
def wrap_u64(n:Int):DD.wrap n=n % 18446744073709551616:=by simp[VW,F5,F6]
def wrap_u8(n:Int):IntKind.u8.wrap n=n % 256:=by simp[VW,F5,F6]
def wrap_i64{n:Int}(h0: -9223372036854775808<=n)(h1:n<=9223372036854775807):b7.wrap n=n:=by
 simp[VW,F5,F6];split<;>omega
def bX(hp:List aa)(v:U)(xs:List U)(n:Nat)(e:TypeId):Prop:=(v=.af/\xs=[])\/∃id,v=.sl xs (.tok id)/\hp[id]?=some (.tok xs.length n e)
structure Wo(hp hp':List aa)(v:U):Prop where
 len:hp.length<=hp'.length
 cells:∀(k:Nat) cs fz,hp[k]?=some (.cells cs fz)->hp'[k]?=some (.cells cs fz)
 toks:∀(k:Nat) n s e,hp[k]?=some (.tok n s e)->(∀xs,v≠.sl xs (.tok k))->hp'[k]?=some (.tok n s e)
 eO:∀(k:Nat) b,b.isObj=true->hp[k]?=some b->hp'[k]?=some b
def bX.nil(hp:List aa)(n:Nat)(e:TypeId):bX hp .af [] n e:=ay ⟨rfl,rfl⟩
def bX.run{aY:Nat}{e:TypeId}(hA:bX hp v xs n e)(hx:bV n xs=true)(hy:bV n ys=true)(hne:ys≠[])(hn:0<n)(hb:0<aY)
  (hfit:(xs.length+ys.length)*aY<=140737488355328) (k:∀v' hp',bX hp' v' (xs++ys) n e->Wo hp hp' v->(∃id,v'=.sl (xs++ys) (.tok id))->F v' hp'):Vx (cG hp n aY e v (.sl ys t)) F:=by
 rcases hA with⟨rfl,rfl⟩|⟨id,rfl,hid⟩
 refine⟨.sl ys (.tok hp.length),hp++[.tok ys.length n e],?_,?_⟩;simp only[fQ,e5] at hfit;simp[cG,e9,ga,contents,hne,hy,hn,hb,hfit];refine k _ _ (ax ⟨hp.length,rfl,aBI⟩) ⟨aBI,λj cs fz h=>?_,λj n s e' h _=>?_,λj b _ h=>by rw[ei (bE.1 h).1];exact h⟩ ⟨_,rfl⟩;rw[ei (bE.1 h).1];exact h;rw[ei (bE.1 h).1];exact h;have hl:=(bE.1 hid).1;refine⟨.sl (xs++ys) (.tok id),hp.set id (.tok (xs.length+ys.length) n e),?_,?_⟩;simp[cG,e9,ga,contents,hne,hy,hn,hb,hfit,hx,hid];refine k _ _ (ax ⟨id,rfl,by rw[aR hl,cB]⟩) ⟨aBI,λj cs fz h=>?_,λj n' s e' h abd=>?_,λj b hb h=>by rw[av (by intro e;subst e;rw[hid] at h;cases h;cases hb)];exact h⟩ ⟨_,rfl⟩;rw[av];exact h;intro e;subst e;rw[hid] at h;cases h;rw[av];exact h;intro e;subst e;exact abd xs rfl
def bX.at{id:Nat}{e:TypeId}(h:bX hp (.sl xs (.tok id)) ys n e):hp[id]?=some (.tok ys.length n e):=by
 rcases h with⟨h,_⟩|⟨id',h,h2⟩
 cases h;cases h;exact h2
def aM{k:Nat}{b:aa}(h:hp[k]?=some b):(hp++l)[k]?=some b:=by
 rw[ei (bE.1 h).1];exact h
def bX.ext{e:TypeId}(h:bX hp v xs n e):bX (hp++l) v xs n e:=
 h.imp id λ⟨id,q,h⟩=>⟨id,q,aM h⟩
def bX.new{e:TypeId}:bX (hp++[.tok xs.length n e]) (.sl xs (.tok hp.length)) xs n e:=ax ⟨_,rfl,aBI⟩
end
abbrev Env:=List (Nat×U)
variable{e:Env}
def eZ:Env->Nat->Option U
 |[],_=>none
 |(j,v)::r,k=>if j=k then some v else eZ r k
def z6(k:Nat)(o:Option U)(e:Env):Env:=
 match o with
 |some v=>(k,v)::e
 |none=>e
def kA:List Nat->Env->Env
 |[],_=>[]
 |k::L,e=>z6 k (eZ e k) (kA L e)
def cI(e:Env):bI->Option U
 |.t k=>eZ e k
 |.c a=>some a
def k_(e:Env):List bI->Option (List U)
 |[]=>some []
 |x::r=>(cI e x).bind λa=>(k_ e r).map λl=>a::l
def u7(e:Env):Option bI->Option (Option U)
 |none=>some none
 |some x=>(cI e x).map some
def z8(e:Env):List (Nat×Nat×bI)->Option (List (Nat×Nat×U))
 |[]=>some []
 |(i,n,x)::r=>(cI e x).bind λa=>(z8 e r).map λl=>(i,n,a)::l
def oP(v:U)(hp:List aa):Option (U×List aa):=match v with
 |.v (.string s)=>some (.v (goInt s.size),hp)
 |_=>none
def p0(n:Nat)(v:U)(lo hi mx:Option U)(hp:List aa):Option (U×List aa):=match v with
 |.v (.string _)=>none
 |x'=>(kM n x' lo hi mx).map λr=>(r,hp)
def Dq(v:U)(lo hi:Option U)(hp:List aa):Option (U×List aa):=match v with
 |.v (.string s)=>(kM 0 (.v (.string s)) lo hi none).map λr=>(r,hp)
 |_=>none
def Fp(c:U)(x y:Option U):Option U:=match c with
 |.v (.bool b)=>if b then x else y
 |_=>none
def Mz(v:U)(hp:List aa):Option (U×List aa):=match v with
 |.v (.string s)=>some (.eN hp.length,hp++[.obj (.stringIter s 0)])
 |_=>none
def bx(e:Env)(hp:List aa):kK->Option (U×List aa)
 |.mv x=>(cI e x).map λr=>(r,hp)
 |.pick c a b=>(cI e c).bind λc=>(Fp c (cI e a) (cI e b)).map λr=>(r,hp)
 |.alloc z=>some (.mp hp.length 0,hp++[.cells z false])
 |.wF t z=>some (.mp hp.length 0,hp++[.cells (.fL hp.length t::z) false])
 |.wJ aY ty s x=>(cI e s).bind λs=>(cI e x).bind λx=>yo hp aY ty s x
 |.box x=>(cI e x).map λr=>(.mp hp.length 0,hp++[.cells r.cells false])
 |.build z ps=>(z8 e ps).bind λl=>(cm z l).map λr=>(.agg r,hp)
 |.wL n vs=>(k_ e vs).bind λl=>(dA n l).map λr=>(r,hp)
 |.eG aH n x=>(cI e x).bind λx=>(aq hp aH n x).map λr=>(r,hp)
 |.st n p x=>(cI e p).bind λp=>(cI e x).bind λx=>(aF hp n p x).map λhp'=>(gH,hp')
 |.E_ x=>(cI e x).bind λx=>(uZ x).map λr=>(r,hp)
 |.bin op x y=>(cI e x).bind λx=>(cI e y).bind λy=>(ct op x y).map λr=>(r,hp)
 |.Hg neg x y=>(cI e x).bind λx=>(cI e y).bind λy=>(GF neg x y).map λr=>(r,hp)
 |.Hh K neg x y=>(cI e x).bind λx=>(cI e y).bind λy=>(oC K neg x y).map λr=>(r,hp)
 |.El ks neg x y=>(cI e x).bind λx=>(cI e y).bind λy=>(q6 ks neg x y).map λr=>(r,hp)
 |.un op x=>(cI e x).bind λx=>(BO op x).map λr=>(r,hp)
 |.b5 k x=>(cI e x).bind λx=>(D4 k x).map λr=>(r,hp)
 |.FF x=>(cI e x).bind λx=>(KP x).map λr=>(r,hp)
 |.Ec x=>(cI e x).bind λx=>(GB x).map λr=>(r,hp)
 |.slc n x lo hi mx=>(cI e x).bind λx=>(u7 e lo).bind λlo=>(u7 e hi).bind λhi=>(u7 e mx).bind λmx=>p0 n x lo hi mx hp
 |.uu x lo hi=>(cI e x).bind λx=>(u7 e lo).bind λlo=>(u7 e hi).bind λhi=>Dq x lo hi hp
 |.fa off x=>(cI e x).bind λx=>(je off x).map λr=>(r,hp)
 |.bK n x i=>(cI e x).bind λx=>(cI e i).bind λi=>(bu n x i).map λr=>(r,hp)
 |.ym len n x i=>(cI e x).bind λx=>(cI e i).bind λi=>(jH len n x i).map λr=>(r,hp)
 |.LM aH n off x=>(cI e x).bind λx=>(GG aH n off x).map λr=>(r,hp)
 |.idx aH n len x i=>(cI e x).bind λx=>(cI e i).bind λi=>(zJ aH n len x i).map λr=>(r,hp)
 |.zY x i=>(cI e x).bind λx=>(cI e i).bind λi=>(tv x i).map λr=>(r,hp)
 |.ext i x=>(cI e x).bind λx=>(nY i x).map λr=>(r,hp)
 |.oP x=>(cI e x).bind λx=>oP x hp
 |.len x=>(cI e x).bind λx=>bO x hp
 |.app n aY ty s x=>(cI e s).bind λs=>(cI e x).bind λx=>cG hp n aY ty s x
 |.xB f a b=>(k_ e a).bind λa=>(k_ e b).map λb=>(.fn f a b,hp)
 |.tE n vs=>(k_ e vs).bind λl=>wC hp n l
 |.yq n aY ty s x=>(cI e s).bind λs=>(cI e x).bind λx=>mb hp n aY ty s x
 |.xD n aY _ z l c=>(cI e l).bind λl=>(cI e c).bind λc=>zL hp n aY z l c
 |.yU n aY ty z l c=>(cI e l).bind λl=>(cI e c).bind λc=>BM hp n aY ty z l c
 |.yS t x=>(cI e x).map λx=>(.cQ t x,hp)
 |.FQ t z ok x=>(cI e x).bind λx=>(D_ t z ok x).map λr=>(r,hp)
 |.qC mx xs=>(k_ e xs).bind λl=>(nZ mx l).map λr=>(r,hp)
 |.iter x=>(cI e x).bind λx=>Mz x hp
 |.next x=>(cI e x).bind λx=>pe hp x
 |.yT=>some (.ey hp.length,hp++[.cL [] 0])
 |.AM x=>(cI e x).bind λx=>(zK hp x).map λr=>(r,hp)
 |.yP aH ks z ok m k=>(cI e m).bind λm=>(cI e k).bind λk=>(tw hp aH ks z ok m k).map λr=>(r,hp)
 |.ud aH ks m k x=>(cI e m).bind λm=>(cI e k).bind λk=>(cI e x).bind λx=>(uY hp aH ks m k x).map λhp'=>(gH,hp')
 |.xA aH ks z m k=>(cI e m).bind λm=>(cI e k).bind λk=>D7 hp aH ks z m k
 |.z7 m st x=>(cI e m).bind λm=>(cI e st).bind λst=>(cI e x).bind λx=>(D6 hp m st x).map λhp'=>(gH,hp')
def Has(n:Nat)(ts:List U)(e:Env):Prop:=ts.length=n/\∀k v,eZ e k=some v->ts[k]?=some v
def iX(h:Has n ts e){x:bI}{a:U}(hx:cI e x=some a):ev ts x=a:=by
 cases x with
 |t k=>
  have:=h.2 k a hx;simp[ev,this]
 |c b=>cases hx;rfl
def sr(h:Has n ts e):∀{xs:List bI} {cl:List U},k_ e xs=some cl->xs.map (ev ts)=cl
 |[],cl,hx=>by cases hx;rfl
 |x::r,cl,hx=>by
  simp only[k_,eY,cc] at hx;obtain⟨a,h1,l,h2,rfl⟩:=hx;rw[eD,iX h h1,sr h h2]
def Zj(h:Has n ts e):∀{xs:List (Nat×Nat×bI)} {cl:List (Nat×Nat×U)},z8 e xs=some cl->xs.map (λp=>(p.1,p.2.1,ev ts p.2.2))=cl
 |[],cl,hx=>by cases hx;rfl
 |(i,n,x)::r,cl,hx=>by
  simp only[z8,eY,cc] at hx;obtain⟨a,h1,l,h2,rfl⟩:=hx;rw[eD,iX h h1,Zj h h2]
def Ho(h:Has n ts e){x:Option bI}{a:Option U}(hx:u7 e x=some a):x.map (ev ts)=a:=by
 cases x with
 |none=>cases hx;rfl
 |some x=>
  simp only[u7,cc] at hx;obtain⟨b,h1,rfl⟩:=hx;rw[ie,iX h h1]
def XD(h:Has n ts e){o:kK}{r:U×List aa}(ho:bx e hp o=some r):dH ts hp o=some r:=by
 cases o
 case pick c a b=>
  simp only[bx,eY,cc] at ho;obtain⟨c',h1,v,h2,rfl⟩:=ho;have e1:=iX h h1;unfold Fp at h2;split at h2;rename_i b';simp only[dH,e1];cases b' with
  |true=>simp only[if_true] at h2⊢;rw[iX h h2]
  |false=>simp only[iA,if_false] at h2⊢;rw[iX h h2]
  cases h2
 case slc m x lo hi mx=>
  simp only[bx,eY] at ho;obtain⟨x',h1,lo',h2,hi',h3,rE,h4,h5⟩:=ho;simp only[dH,iX h h1,Ho h h2,Ho h h3,Ho h h4];exact h5
 case uu x lo hi=>
  simp only[bx,eY] at ho;obtain⟨x',h1,lo',h2,hi',h3,h5⟩:=ho;simp only[dH,iX h h1,Ho h h2,Ho h h3];exact h5
 case oP x=>
  simp only[bx,eY] at ho;obtain⟨x',h1,h5⟩:=ho;simp only[dH,iX h h1];exact h5
 case len x=>
  simp only[bx,eY] at ho;obtain⟨x',h1,h5⟩:=ho;simp only[dH,iX h h1];exact h5
 case build z ps=>
  simp only[bx,eY] at ho;obtain⟨x',h1,h5⟩:=ho;simp only[dH,Zj h h1];exact h5
 case wL z ps=>
  simp only[bx,eY] at ho;obtain⟨x',h1,h5⟩:=ho;simp only[dH,sr h h1];exact h5
 case tE z ps=>
  simp only[bx,eY] at ho;obtain⟨x',h1,h5⟩:=ho;simp only[dH,sr h h1];exact h5
 case qC z ps=>
  simp only[bx,eY] at ho;obtain⟨x',h1,h5⟩:=ho;simp only[dH,sr h h1];exact h5
 case yT=>exact ho
 case yS t x=>
  simp only[bx,cc] at ho;obtain⟨x',h1,rfl⟩:=ho;simp only[dH,iX h h1]
 case ud aH ks m k x=>
  simp only[bx,eY] at ho;obtain⟨m',h1,k',h2,x',h3,h5⟩:=ho;simp only[dH,iX h h1,iX h h2,iX h h3];exact h5
 case z7 m k x=>
  simp only[bx,eY] at ho;obtain⟨m',h1,k',h2,x',h3,h5⟩:=ho;simp only[dH,iX h h1,iX h h2,iX h h3];exact h5
 case xB f a b=>
  simp only[bx,eY,cc] at ho;obtain⟨x',h1,y',h2,h5⟩:=ho;simp only[dH,sr h h1,sr h h2];rw[h5]
 case alloc z=>exact ho
 case wF t z=>exact ho
 case wJ aY ty s x=>
  simp only[bx,eY] at ho;obtain⟨x',h1,y',h2,h5⟩:=ho;simp only[dH,iX h h1,iX h h2];rw[h5]
 case mv x=>
  simp only[bx,cc] at ho;obtain⟨x',h1,rfl⟩:=ho;simp only[dH,iX h h1]
 case box x=>
  simp only[bx,cc] at ho;obtain⟨x',h1,rfl⟩:=ho;simp only[dH,iX h h1]
 all_goals first
  |(simp only[bx,eY] at ho
    obtain⟨x',h1,y',h2,h5⟩:=ho;simp only[dH,iX h h1,iX h h2];exact h5)
  |(simp only[bx,eY] at ho
    obtain⟨x',h1,h5⟩:=ho;simp only[dH,iX h h1];exact h5)
class Hid(α:Type) where
 v:α
variable{A B:Hid Prop}
def aaW(a:α):(Hid.mk a).v=a:=rfl
def e_{α:Type}(x:Option α)[F:Hid (α->Prop)]:Prop:=∃a,x=some a/\F.v a
def aiu{a:α}{F:Hid (α->Prop)}:@e_ α (some a) F=F.v a:=by
 apply propext;constructor;rintro⟨b,h,k⟩;cases h;exact k;intro k;exact⟨a,rfl,k⟩
def qf(b:Bool)[A:Hid Prop][B:Hid Prop]:Prop:=(b=true->A.v)/\(b=false->B.v)
def Kl:@qf true A B=A.v:=by simp[qf]
def Kk:@qf false A B=B.v:=by simp[qf]
def qf.mk(h1:b=true->A.v)(h2:b=false->B.v):@qf b A B:=⟨h1,h2⟩
def BR(v:U)[A:Hid Prop][B:Hid Prop]:Prop:=match v with
 |.v (.bool b)=>@qf b A B
 |_=>False
def XY:@BR (.v (.bool b)) A B=@qf b A B:=rfl
def rj(w:Bool)(v:U)[A:Hid Prop][B:Hid Prop]:Prop:=match v with
 |.v (.bool b)=>if w then@qf b A B else@qf b B A
 |.aK []=>B.v
 |_=>False
def aap:@rj true (.v (.bool b)) A B=@qf b A B:=rfl
def aan:@rj false (.v (.bool b)) A B=@qf b B A:=rfl
def aao:@rj w gH A B=B.v:=rfl
abbrev kq:=List PanicEntry->List aa->Prop
variable{E E':kq}
def O3(G:Cells)(P:Program)(f:FuncId)(args:List U)(hp:List aa)[F:Hid (U->List aa->Prop)]:Prop:=aE G P f args hp F.v
def Qe(G:Cells)(P:Program)(f:U)(args:List U)(hp:List aa)[F:Hid (U->List aa->Prop)]:Prop:=gP G P f args hp F.v
def O4(G:Cells)(P:Program)(f:FuncId)(args:List U)(hp:List aa)[F:Hid (U->List aa->Prop)][E:Hid kq]:Prop:=fI G P f args hp F.v E.v
def Qf(G:Cells)(P:Program)(f:U)(args:List U)(hp:List aa)[F:Hid (U->List aa->Prop)][E:Hid kq]:Prop:=s_ G P f args hp F.v E.v
section
variable{G:Cells}{P:Program}{f:FuncId}{args fs cs:List U}{hp:List aa}{F:Hid (U->List aa->Prop)}{E:Hid kq}
def Yd:@Qe G P (.fn (.func f) fs cs) args hp F=@O3 G P f (fs++args++cs) hp F:=by simp[Qe,gP,O3]
def Ye:@Qf G P (.fn (.func f) fs cs) args hp F E=@O4 G P f (fs++args++cs) hp F E:=by simp[Qf,s_,O4]
end
def avr(G:Cells)(P:Program)(f:FuncId)(args:List U)[F:Hid (U->Prop)]:Prop:=∃bs r',mN args bs/\ck G P f bs r'/\F.v r'
def gQ(G:Cells)(P:Program)(i:fK)[F:Hid (U->List aa->Prop)][E:Hid kq](e:Env)(hp:List aa):Prop:=match i with
 |.op o=>@e_ _ (bx e hp o) ⟨λr=>F.v r.1 r.2⟩
 |.call f args=>@e_ _ (k_ e args) ⟨λcl=>@O3 G P f cl hp F⟩
 |.lP x args=>@e_ _ (cI e x) ⟨λx=>@e_ _ (k_ e args) ⟨λcl=>@Qe G P x cl hp F⟩⟩
 |.lq f args=>@e_ _ (k_ e args) ⟨λcl=>@avr G P f cl ⟨λv=>F.v v hp⟩⟩
 |.mB f args r=>@e_ _ (k_ e args) ⟨λcl=>∃bs,mN cl bs/\ck G P f bs r/\F.v r hp⟩
 |.nu f args=>@e_ _ (k_ e args) ⟨λcl=>@O4 G P f cl hp F E⟩
 |.nv x args=>@e_ _ (cI e x) ⟨λx=>@e_ _ (k_ e args) ⟨λcl=>@Qf G P x cl hp F E⟩⟩
 |.eW x=>@e_ _ ((cI e x).bind oD) ⟨λv=>E.v [{v:=v,recovered:=false}] hp⟩
def nK(d:Option Nat)(v:U)(e:Env):Env:=match d with
 |some d=>(d,v)::e
 |none=>e
def iC(G:Cells)(P:Program)(l:List aL)[K:Hid (Env->List aa->Prop)][E:Hid kq](e:Env)(hp:List aa):Prop:=match l with
 |[]=>K.v e hp
 |⟨d,none,i⟩::r=>@gQ G P i ⟨λv hp'=>@iC G P r K E (nK d v e) hp'⟩ E e hp
 |⟨d,some (k,w),i⟩::r=>@e_ _ (eZ e k) ⟨λg=>@rj w g ⟨@gQ G P i ⟨λv hp'=>@iC G P r K E (nK d v e) hp'⟩ E e hp⟩ ⟨@iC G P r K E (nK d gH e) hp⟩⟩
section
variable{G:Cells}{P:Program}{K:Hid (Env->List aa->Prop)}{E:Hid kq}{e:Env}{hp:List aa}{d:Option Nat}{k:Nat}{i:fK}{r:List aL}
def BH:@iC G P [] K E e hp=K.v e hp:=by simp only[iC]
def DZ:@iC G P (⟨d,none,i⟩::r) K E e hp=@gQ G P i ⟨λv hp'=>@iC G P r K E (nK d v e) hp'⟩ E e hp:=by simp only[iC]
def DY:@iC G P (⟨d,some (k,w),i⟩::r) K E e hp=@e_ _ (eZ e k) ⟨λg=>@rj w g ⟨@gQ G P i ⟨λv hp'=>@iC G P r K E (nK d v e) hp'⟩ E e hp⟩ ⟨@iC G P r K E (nK d gH e) hp⟩⟩:=by simp only[iC]
end
def tI(n:Nat):List aL->Bool
 |[]=>true
 |o::r=>(match o.dst with|some d=>decide (d<n)|none=>true)&&tI n r
def Y3{ρ:Nat->U}:∀{l:List aL},tI n (l.map (tell ρ))=tI n l
 |[]=>rfl
 |o::r=>by simp only[eD,tI,Ok,Y3]
def EA(h:Has n ts e)(hd:(match d with|some d=>decide (d<n)|none=>true)=true):Has n (dG ts d v) (nK d v e):=by
 cases d with
 |none=>exact h
 |some d=>
  simp only[decide_eq_true_eq] at hd;refine⟨by simp[dG,h.1],λk w hk=>?_⟩;simp only[nK,eZ] at hk;simp only[dG];split at hk;rename_i e1;subst e1;cases hk;exact aR (by rw[h.1];exact hd);rename_i e1;rw[av e1];exact h.2 k w hk
section
variable{G:Cells}{P:Program}
def aqF{F:Hid (U->List aa->Prop)}{E:Hid kq}{K:bU->Prop}(h:Has n ts e)(hi:@gQ G P i F E e hp)(hF:∀v hp',F.v v hp'->e8 G E.v P r K ⟨dG ts d v,hp'⟩):
  e8 G E.v P (⟨d,none,i⟩::r) K ⟨ts,hp⟩:=by
 simp only[e8];unfold cu;rw[if_pos (by rfl)];cases i with
 |op o=>
  obtain⟨⟨v,hp'⟩,h1,h2⟩:=hi;simp only;rw[XD h h1];exact hF _ _ h2
 |call f args=>
  obtain⟨cl,h1,h2⟩:=hi;simp only;rw[sr h h1];exact aZ h2 hF
 |lP x args=>
  obtain⟨x',h0,cl,h1,h2⟩:=hi;dsimp only at h2;simp only;rw[sr h h1,iX h h0];exact rT h2 hF
 |lq f args=>
  obtain⟨cl,h1,bs,r',h2,h3,h4⟩:=hi;simp only;rw[sr h h1];exact⟨bs,r',h2,h3,hF _ _ h4⟩
 |mB f args r=>
  obtain⟨cl,h1,bs,h2,h3,h4⟩:=hi;simp only;rw[sr h h1];exact⟨bs,h2,h3,hF _ _ h4⟩
 |nu f args=>
  obtain⟨cl,h1,h2⟩:=hi;simp only;rw[sr h h1];exact e3 h2 hF λ_ _ k=>k
 |nv x args=>
  obtain⟨x',h0,cl,h1,h2⟩:=hi;dsimp only at h2;simp only;rw[sr h h1,iX h h0];exact VM h2 hF λ_ _ k=>k
 |eW x=>
  obtain⟨v,h1,h2⟩:=hi;simp only[eY] at h1;obtain⟨x',h3,h4⟩:=h1;simp only;rw[iX h h3,h4];exact h2
def ahx{g:Nat×Bool}{K:bU->Prop}:
  (mT (some g) ts=true->e8 G E P (⟨d,none,i⟩::r) K ⟨ts,hp⟩)->(mT (some g) ts=false->e8 G E P r K ⟨dG ts d gH,hp⟩)->e8 G E P (⟨d,some g,i⟩::r) K ⟨ts,hp⟩:=λh1 h2=>by
 cases hw:mT (some g) ts with
 |true=>
  have:=h1 hw;simp only[e8] at this⊢;unfold cu at this⊢;rw[if_pos (by rfl)] at this;simp only;rw[if_pos hw];exact this
 |false=>
  have:=h2 hw;simp only[e8];unfold cu;simp only;rw[if_neg (by rw[hw];simp)];exact this
def Gx:∀{l:List aL} {K:Hid (Env->List aa->Prop)} {E:Hid kq} {K':bU->Prop} {e:Env} {hp:List aa} {ts:List U},tI n l=true->Has n ts e->@iC G P l K E e hp->(∀ts e hp,Has n ts e->K.v e hp->K' ⟨ts,hp⟩)->e8 G E.v P l K' ⟨ts,hp⟩
 |[],K,E,K',e,hp,ts,hd,h,hr,hk=>hk _ _ _ h (by rw[BH] at hr;exact hr)
 |⟨d,g,i⟩::r,K,E,K',e,hp,ts,hd,h,hr,hk=>by
  simp only[tI,dY] at hd;obtain⟨hd1,pN⟩:=hd;have yes:@gQ G P i ⟨λv hp'=>@iC G P r K E (nK d v e) hp'⟩ E e hp->e8 G E.v P (⟨d,none,i⟩::r) K' ⟨ts,hp⟩:=λq=>
   aqF h q λv hp' k=>Gx pN (EA h hd1) k hk
  have no:@iC G P r K E (nK d gH e) hp->e8 G E.v P r K' ⟨dG ts d gH,hp⟩:=λk=>Gx pN (EA h hd1) k hk
  rcases g with _|⟨k,w⟩
  rw[DZ] at hr;exact yes hr;rw[DY] at hr;obtain⟨g,h1,h2⟩:=hr;have eL:=h.2 k _ h1;dsimp only at h2;unfold rj at h2;split at h2;rename_i b;have hg:(b=w->@gQ G P i ⟨λv hp'=>@iC G P r K E (nK d v e) hp'⟩ E e hp)/\(b≠w->@iC G P r K E (nK d gH e) hp):=by
   cases w with
   |true=>exact⟨λq=>h2.1 q,λq=>h2.2 aBN⟩
   |false=>exact⟨λq=>h2.2 q,λq=>h2.1 aBN⟩
  refine ahx (λhw=>yes (hg.1 ?_)) λhw=>no (hg.2 ?_);simpa[mT,eL] using hw;simpa[mT,eL] using hw;exact ahx (λhw=>by simp[mT,eL] at hw) λ_=>no h2;exact h2.elim
end
def oR(c:aL)(e:Env)(hp:List aa):Prop:=match c.ins,c.dst with
 |.op o,some d=>match c.guard with
  |none=>@e_ _ (eZ e d) ⟨λv=>@e_ _ (bx e hp o) ⟨λr=>r.1=v⟩⟩
  |some (k,w)=>@e_ _ (eZ e k) ⟨λg=>@rj w g ⟨@e_ _ (eZ e d) ⟨λv=>@e_ _ (bx e hp o) ⟨λr=>r.1=v⟩⟩⟩ ⟨@e_ _ (eZ e d) ⟨λv=>v=gH⟩⟩⟩
 |_,_=>False
def nM(cs:List aL)(e:Env)(hp:List aa):Prop:=match cs with
 |[]=>True
 |c::r=>oR c e hp/\nM r e hp
def q3(G:Cells)(P:Program)(l:List (aL×List aL))[K:Hid (Env->List aa->Prop)][E:Hid kq](e:Env)(hp:List aa):Prop:=match l with
 |[]=>K.v e hp
 |(o,cs)::r=>@iC G P [o] ⟨λe' hp'=>nM cs e' hp'/\@q3 G P r K E e' hp'⟩ E e hp
section
variable{G:Cells}{P:Program}{K:Hid (Env->List aa->Prop)}{E:Hid kq}{e:Env}{hp:List aa}{o:aL}{cs:List aL}{r:List (aL×List aL)}
def D0:@q3 G P [] K E e hp=K.v e hp:=by simp only[q3]
def D1:@q3 G P ((o,cs)::r) K E e hp=@iC G P [o] ⟨λe' hp'=>nM cs e' hp'/\@q3 G P r K E e' hp'⟩ E e hp:=by simp only[q3]
def awc(h:Has n ts e){c:aL}(hc:oR c e hp):qm G P c ⟨ts,hp⟩:=by
 obtain⟨d,g,i⟩:=c;unfold oR at hc;split at hc;rename_i o dd hi hd;dsimp only at hi hd;subst hi hd;have yes:(mT g ts=true)->@e_ _ (eZ e dd) ⟨λv=>@e_ _ (bx e hp o) ⟨λr=>r.1=v⟩⟩->qm G P ⟨some dd,g,.op o⟩ ⟨ts,hp⟩:=by
  rintro hw ⟨v,h1,r,h2,h3⟩;dsimp only at h3;refine⟨dd,v,rfl,h.2 _ _ h1,?_⟩;unfold kJ;rw[if_pos hw];simp only;rw[XD h h2,ie,h3]
 have no:(mT g ts=false)->@e_ _ (eZ e dd) ⟨λv=>v=gH⟩->qm G P ⟨some dd,g,.op o⟩ ⟨ts,hp⟩:=by
  rintro hw ⟨v,h1,h2⟩;dsimp only at h2;refine⟨dd,v,rfl,h.2 _ _ h1,?_⟩;unfold kJ;rw[if_neg (by rw[hw];simp)];exact h2
 cases g with
 |none=>exact yes rfl hc
 |some g=>
  obtain⟨k,w⟩:=g;obtain⟨g,h1,h2⟩:=hc;have eL:=h.2 k _ h1;dsimp only at h2;unfold rj at h2;split at h2;rename_i b;cases w with
  |true=>
   cases b with
   |true=>exact yes aEi (h2.1 rfl)
   |false=>exact no aEi (h2.2 rfl)
  |false=>
   cases b with
   |true=>exact no aEi (h2.1 rfl)
   |false=>exact yes aEi (h2.2 rfl)
  exact no aEi h2;exact h2.elim
 exact hc.elim
def agk(h:Has n ts e):∀{cs:List aL},nM cs e hp->∀c∈cs,qm G P c ⟨ts,hp⟩
 |[],_,c,hc=>aD1
 |c::r,hr,c',hc=>by
  rcases ek.1 hc with rfl|hc
  exact awc h hr.1;exact agk h hr.2 c' hc
def WS:∀{l:List (aL×List aL)} {K:Hid (Env->List aa->Prop)} {E:Hid kq} {K':bU->Prop} {e:Env} {hp:List aa} {ts:List U},tI n (l.map (·.1))=true->Has n ts e->@q3 G P l K E e hp->(∀ts e hp,Has n ts e->K.v e hp->K' ⟨ts,hp⟩)->iS G E.v P l K' ⟨ts,hp⟩
 |[],K,E,K',e,hp,ts,hd,h,hr,hk=>hk _ _ _ h (by rw[D0] at hr;exact hr)
 |(o,cs)::r,K,E,K',e,hp,ts,hd,h,hr,hk=>by
  simp only[eD,tI,dY] at hd;rw[D1] at hr;have:=Gx (n:=n) (K':=λs'=>(∀c∈cs,qm G P c s')/\iS G E.v P r K' s') (by simp only[tI,dY];exact⟨hd.1,trivial⟩) h hr λts e hp h' k=>⟨agk h' k.1,WS hd.2 h' k.2 hk⟩;exact this
end
inductive cZ where
 |skip (L:List Nat)
 |region (ops:List aL) (L:List Nat)
 |seq (a b:cZ)
 |cond (c:bI) (a b:cZ)
 |block (id:Nat) (a:cZ)
 |loop (a:cZ)
 |exit (id:Nat) (L:List Nat)
 |ret (L:List Nat)
 |oQ (x:bI) (ps:List Nat) (a b:cZ) (L:List Nat)
 |oS (ls:List (List aL)) (L:List Nat)
 |oq (l:List (aL×List aL)) (L:List Nat)
 |scope (a:cZ)
 |lab (L:List Nat)
 |bad
variable{c:cZ}
def cZ.aW:cZ->jt
 |.skip _=>.skip
 |.region ops _=>.region ops
 |.seq a b=>.seq a.aW b.aW
 |.cond c a b=>.cond c a.aW b.aW
 |.block id a=>.block id a.aW
 |.loop a=>.loop a.aW
 |.exit id _=>.exit id
 |.ret _=>.ret
 |.oQ x ps a b _=>.oQ x ps a.aW b.aW
 |.oS ls _=>.oS ls
 |.oq l _=>.oq l
 |.scope a=>.scope a.aW
 |.lab _=>.lab
 |.bad=>.bad
def cZ.mU(n:Nat):cZ->Bool->Bool
 |.region ops _,_=>tI n ops
 |.oS ls _,_=>ls.all (tI n)
 |.oq l _,_=>tI n (l.map (·.1))
 |.seq a b,m=>a.mU n m&&b.mU n m
 |.cond _ a b,m=>a.mU n m&&b.mU n m
 |.block _ a,m=>a.mU n m
 |.loop a,m=>a.mU n m
 |.scope a,m=>a.mU n m
 |.oQ _ ps a b _,m=>m&&(ps.all λp=>decide (p<n))&&a.mU n false&&b.mU n true
 |_,_=>true
def cZ.fits(n:Nat)(c:cZ):Bool:=c.mU n false
def mh(ops:List aL):Env->Env
 |[]=>[]
 |(k,v)::e=>if ops.any (λo=>o.dst==some k) then mh ops e else(k,v)::mh ops e
def QC{k:Nat}:∀{e:Env} {v:U},eZ (mh ops e) k=some v->eZ e k=some v/\∀aD∈ops,aD.dst≠some k
 |[],v,h=>aB1
 |(j,w)::e,v,h=>by
  simp only[mh] at h;split at h;rename_i hj;obtain⟨h1,h2⟩:=QC h;refine⟨?_,h2⟩;simp only[eZ];split;rename_i hkj;subst hkj;rw[F7] at hj;obtain⟨aD,q1,ah⟩:=hj;exact(h2 aD q1 aB8).elim;exact h1;rename_i hj;simp only[eZ] at h⊢;by_cases hkj:j=k;rw[if_pos hkj] at h⊢;subst hkj;refine⟨h,λaD gN q=>hj ?_⟩;rw[F7];exact⟨aD,gN,by simp[q]⟩;rw[if_neg hkj] at h⊢;exact QC h
def RH{ts':List U}(h:Has n ts e)(ha:kY ops ts ts'):Has n ts' (mh ops e):=by
 refine⟨ha.1.trans h.1,λk v hk=>?_⟩;obtain⟨h1,h2⟩:=QC hk;rw[ha.2 k h2];exact h.2 k v h1
abbrev Post:=Exit->Env->List aa->Prop
def p5[next:Hid (Env->List aa->Prop)][Q:Hid Post]:Post
 |.normal,e,hp=>next.v e hp
 |x,e,hp=>Q.v x e hp
def tC(id:Nat)[Q:Hid Post]:Post
 |.exit id',e,hp=>if id'=id then Q.v .normal e hp else Q.v (.exit id') e hp
 |x,e,hp=>Q.v x e hp
def FJ[Q:Hid Post]:Post
 |.goto _,_,_=>False
 |x,e,hp=>Q.v x e hp
section
variable{next:Hid (Env->List aa->Prop)}{Q:Hid Post}{e:Env}{hp:List aa}{id:Nat}
def ag7:@FJ Q .normal e hp=Q.v .normal e hp:=rfl
def ag6:@FJ Q (.exit id) e hp=Q.v (.exit id) e hp:=rfl
def ag9:@FJ Q .ret e hp=Q.v .ret e hp:=rfl
def ag8:@FJ Q (.panic ch) e hp=Q.v (.panic ch) e hp:=rfl
def ah7:@p5 next Q .normal e hp=next.v e hp:=rfl
def ah6:@p5 next Q (.exit id) e hp=Q.v (.exit id) e hp:=rfl
def ah9:@p5 next Q .ret e hp=Q.v .ret e hp:=rfl
def ah8:@p5 next Q (.panic ch) e hp=Q.v (.panic ch) e hp:=rfl
def XR:@tC id Q (.panic ch) e hp=Q.v (.panic ch) e hp:=rfl
def XQ:@tC id Q .normal e hp=Q.v .normal e hp:=rfl
def XS:@tC id Q .ret e hp=Q.v .ret e hp:=rfl
def XT:@tC id Q (.exit id) e hp=Q.v .normal e hp:=by simp[tC]
def XP{id':Nat}(h:id'≠id):@tC id Q (.exit id') e hp=Q.v (.exit id') e hp:=by simp[tC,h]
end
def vk[Q:Hid Post]:Option Code->Env->List aa->Prop
 |none,e,hp=>Q.v .normal e hp
 |some .ret,e,hp=>Q.v .ret e hp
 |some (.exit id),e,hp=>Q.v (.exit id) e hp
 |_,_,_=>False
def awv(k:Nat)(ats:List U)(ps:Array Tmp)(ok:Code->Code->Prop)(K:U->List aa->Prop):Post
 |.normal,_,hp=>(∃st pd,hp[k]?=some (.aT st pd ats ps ok))/\K (.v (.bool true)) (hp.set k (.aT .ready none ats ps ok))
 |.ret,_,hp=>(∃st pd,hp[k]?=some (.aT st pd ats ps ok))/\K (.v (.bool false)) (hp.set k (.aT .done (some .ret) ats ps ok))
 |.exit id,_,hp=>(∃st pd,hp[k]?=some (.aT st pd ats ps ok))/\K (.v (.bool false)) (hp.set k (.aT .done (some (.exit id)) ats ps ok))
 |_,_,_=>False
def qI:Env->List (Nat×U)->Env
 |e,[]=>e
 |e,(k,v)::r=>qI ((k,v)::e) r
def Po(G:Cells)(P:Program)(k:Nat)(ats:List U)(ps:List Nat)(ok:Code->Code->Prop)(wa:Post->Env->List aa->Prop)(wb:Post->Env->List aa->Prop)(e:Env):Prop:=
 ∀(args:List U) (hp:List aa) (K:U->List aa->Prop),args.length=ps.length->(∃pd,hp[k]?=some (.aT .ready pd ats ps.toArray ok))->
  wa (@p5 ⟨λe1 cW=>(∃pd,cW[k]?=some (.aT .ready pd ats ps.toArray ok))/\∀pd,wb (awv k ats ps.toArray ok K) e1 (cW.set k (.aT .busy pd ats ps.toArray ok))⟩ ⟨λ_ _ _=>False⟩) (qI e (ps.zip args)) hp->gP G P (.gk k) args hp K
def marks(nest:Bool):List aa:=if nest then [] else [.obj (.deferred (some []))]
def agi(G:Cells)(P:Program)(nest:Bool)(x:Option U)(ps:List Nat)(L:List Nat)(wa:Post->Env->List aa->Prop)(wb:Post->Env->List aa->Prop)[Q:Hid Post](e:Env)(hp:List aa):Prop:=
 ∃g fs cs,x=some (.fn (.func g) fs cs)/\∀k,k=(hp++marks nest).length->∀ats ok,Po G P k ats ps ok wa wb e->
  aE G P g (fs++[.gk k]++cs) (hp++marks nest++[.aT .ready none ats ps.toArray ok])
   λr hp'=>∃st pd,hp'[k]?=some (.aT st pd ats ps.toArray ok)/\st≠.busy/\vk pd (kA L e) (hp'.set k (.aT .exhausted pd ats ps.toArray ok))
def cF(G:Cells)(P:Program)(nest:Bool)(c:cZ)[Q:Hid Post](e:Env)(hp:List aa):Prop:=match c with
 |.skip L=>Q.v .normal (kA L e) hp
 |.region ops L=>@iC G P ops ⟨λe' hp'=>Q.v .normal (kA L e') hp'⟩ ⟨λch hp'=>Q.v (.panic ch) (mh ops e) hp'⟩ e hp
 |.oS ls L=>∃ρ:Nat->U,∀l∈ls,@iC G P (l.map (tell ρ)) ⟨λe' hp'=>Q.v .normal (kA L e') hp'⟩ ⟨λch hp'=>Q.v (.panic ch) (mh ls.flatten e) hp'⟩ e hp
 |.oq l L=>@q3 G P l ⟨λe' hp'=>Q.v .normal (kA L e') hp'⟩ ⟨λch hp'=>Q.v (.panic ch) (mh (l.map (·.1)) e) hp'⟩ e hp
 |.seq a b=>@cF G P nest a ⟨@p5 ⟨λe hp=>@cF G P nest b Q e hp⟩ Q⟩ e hp
 |.cond c a b=>@e_ _ (cI e c) ⟨λc=>@BR c ⟨@cF G P nest a Q e hp⟩ ⟨@cF G P nest b Q e hp⟩⟩
 |.block id a=>@cF G P nest a ⟨@tC id Q⟩ e hp
 |.loop a=>∃(I:Nat->Env->List aa->Prop) (m:Nat),I m e hp/\∀m e hp,I m e hp->@cF G P nest a ⟨@p5 ⟨λe' hp'=>∃m',m'<m/\I m' e' hp'⟩ Q⟩ e hp
 |.exit id L=>Q.v (.exit id) (kA L e) hp
 |.scope a=>@cF G P nest a ⟨@FJ Q⟩ e hp
 |.lab L=>Q.v .normal (kA L e) hp
 |.bad=>False
 |.ret L=>Q.v .ret (kA L e) hp
 |.oQ x ps a b L=>agi G P nest (cI e x) ps L (λQ e hp=>@cF G P true a ⟨Q⟩ e hp) (λQ e hp=>@cF G P true b ⟨Q⟩ e hp) e hp
section
variable{G:Cells}{P:Program}{nest:Bool}{Q:Hid Post}{e:Env}{hp:List aa}
def JX(L:List Nat):@cF G P nest (.skip L) Q e hp=Q.v .normal (kA L e) hp:=aB_
def JT(ops:List aL)(L:List Nat):@cF G P nest (.region ops L) Q e hp=@iC G P ops ⟨λe' hp'=>Q.v .normal (kA L e') hp'⟩ ⟨λch hp'=>Q.v (.panic ch) (mh ops e) hp'⟩ e hp:=aB_
def FZ(ls:List (List aL))(L:List Nat):@cF G P nest (.oS ls L) Q e hp=∃ρ:Nat->U,∀l∈ls,@iC G P (l.map (tell ρ)) ⟨λe' hp'=>Q.v .normal (kA L e') hp'⟩ ⟨λch hp'=>Q.v (.panic ch) (mh ls.flatten e) hp'⟩ e hp:=aB_
def Ds(a b:cZ):@cF G P nest (.seq a b) Q e hp=@cF G P nest a ⟨@p5 ⟨λe hp=>@cF G P nest b Q e hp⟩ Q⟩ e hp:=aB_
def JO(c:bI)(a b:cZ):@cF G P nest (.cond c a b) Q e hp=@e_ _ (cI e c) ⟨λc=>@BR c ⟨@cF G P nest a Q e hp⟩ ⟨@cF G P nest b Q e hp⟩⟩:=aB_
def xP(id:Nat)(a:cZ):@cF G P nest (.block id a) Q e hp=@cF G P nest a ⟨@tC id Q⟩ e hp:=aB_
def JR(a:cZ):@cF G P nest (.loop a) Q e hp=∃(I:Nat->Env->List aa->Prop) (m:Nat),I m e hp/\∀m e hp,I m e hp->@cF G P nest a ⟨@p5 ⟨λe' hp'=>∃m',m'<m/\I m' e' hp'⟩ Q⟩ e hp:=aB_
def JU(l:List (aL×List aL))(L:List Nat):@cF G P nest (.oq l L) Q e hp=@q3 G P l ⟨λe' hp'=>Q.v .normal (kA L e') hp'⟩ ⟨λch hp'=>Q.v (.panic ch) (mh (l.map (·.1)) e) hp'⟩ e hp:=aB_
def JW(a:cZ):@cF G P nest (.scope a) Q e hp=@cF G P nest a ⟨@FJ Q⟩ e hp:=aB_
def JQ(L:List Nat):@cF G P nest (.lab L) Q e hp=Q.v .normal (kA L e) hp:=aB_
def JP(id:Nat)(L:List Nat):@cF G P nest (.exit id L) Q e hp=Q.v (.exit id) (kA L e) hp:=aB_
def JV(L:List Nat):@cF G P nest (.ret L) Q e hp=Q.v .ret (kA L e) hp:=aB_
def vR(x:bI)(ps:List Nat)(a b:cZ)(L:List Nat):@cF G P nest (.oQ x ps a b L) Q e hp=agi G P nest (cI e x) ps L (λQ e hp=>@cF G P true a ⟨Q⟩ e hp) (λQ e hp=>@cF G P true b ⟨Q⟩ e hp) e hp:=aB_
end
def ahF(hE:∀ch hp,E ch hp->E' ch hp){aD:aL}{K:bU->Prop}{s:bU}(h:cu G E P aD K s):cu G E' P aD K s:=by
 unfold cu at h⊢;split at h;rename_i hw;rw[if_pos hw];split at h;exact h;exact h;exact h;exact h;exact h;exact e3 h (λ_ _ k=>k) hE;exact VM h (λ_ _ k=>k) hE;split at h;exact hE _ _ h;exact h;rename_i hw;rw[if_neg hw];exact h
def U3(hE:∀ch hp,E ch hp->E' ch hp):∀{l:List aL} {K:bU->Prop} {s:bU},e8 G E P l K s->e8 G E' P l K s
 |[],_,_,h=>h
 |_::_,_,_,h=>ahF hE (cu.mono h λ_ k=>U3 hE k)
def ahw(hE:∀ch hp,E ch hp->E' ch hp):∀{l:List (aL×List aL)} {K:bU->Prop} {s:bU},iS G E P l K s->iS G E' P l K s
 |[],_,_,h=>h
 |(o,cs)::_,_,_,h=>ahF hE (cu.mono h λ_ k=>⟨k.1,ahw hE k.2⟩)
def w9(h:Has n ts e)(L:List Nat):Has n ts (kA L e):=by
 refine⟨h.1,?_⟩
 induction L with
 |nil=>intro k v hk;cases hk
 |cons j L ih=>
  intro k v hk;simp only[kA] at hk;cases hj:eZ e j with
  |none=>rw[hj] at hk;exact ih k v hk
  |some w=>
   rw[hj] at hk;simp only[z6,eZ] at hk;split at hk;rename_i e1;subst e1;cases hk;exact h.2 j _ hj;exact ih k v hk
def aot{ps:List Nat}:∀{ts:List U} {e:Env} (_:Has n ts e) (_:(ps.all λp=>decide (p<n))=true) (args:List U),Has n (vG ts (ps.toArray.toList.zip args)) (qI e (ps.zip args)):=by
 induction ps with
 |nil=>intro ts e h _ args;simpa[vG,qI] using h
 |cons p r ih=>
  intro ts e h hp args;simp only[lD,dY] at hp;cases args with
  |nil=>simpa[vG,qI] using h
  |cons v vs=>
   have:=ih (ts:=ts.set p v) (e:=(p,v)::e) (EA (d:=some p) h hp.1) hp.2 vs;simpa[vG,qI] using this
def nU.nest:nU->Bool
 |.vD _=>true
 |_=>false
def nU.loops:nU->Bool
 |.plain|.oE _ _=>false
 |_=>true
def JS(hm:P.follows .mixedOrders=true):∀{c:cZ} {bN:nU} {nest:Bool} {Q:Hid Post} {Q':Exit->bU->Prop} {e:Env} {hp:List aa} {ts:List U},c.mU n bN.loops=true->(bN.loops=true->nest=bN.nest)->Has n ts e->@cF G P nest c Q e hp->
  (∀x ts e hp,Has n ts e->Q.v x e hp->Q' x ⟨ts,hp⟩)->jG G P bN c.aW Q' ⟨ts,hp⟩:=by
 intro c
 induction c with
 |skip L=>intro bN nest Q Q' e hp ts hf kP h hw hk;rw[JX] at hw;exact hO.skip (hk _ _ _ _ (w9 h L) hw)
 |exit id L=>intro bN nest Q Q' e hp ts hf kP h hw hk;rw[JP] at hw;exact hO.exit (hk _ _ _ _ (w9 h L) hw)
 |lab L=>intro bN nest Q Q' e hp ts hf kP h hw hk;rw[JQ] at hw;exact hO.lab (hk _ _ _ _ (w9 h L) hw)
 |bad=>intro bN nest Q Q' e hp ts hf kP h hw hk;unfold cF at hw;exact hw.elim
 |scope a ia=>
  intro bN nest Q Q' e hp ts hf kP h hw hk;rw[JW] at hw;refine hO.scope (ia hf kP h hw λx ts' e' hp' h' k=>?_);cases x with
  |goto l=>exact k.elim
  |_=>exact hk _ _ _ _ h' k
 |ret L=>intro bN nest Q Q' e hp ts hf kP h hw hk;rw[JV] at hw;exact hO.ret (hk _ _ _ _ (w9 h L) hw)
 |region ops L=>
  intro bN nest Q Q' e hp ts hf kP h hw hk;rw[JT] at hw;refine hO.region hm ?_;refine U3 (E:=λch hp'=>Q.v (.panic ch) (mh ops e) hp') (λch hp k ts hag=>hk _ _ _ _ (RH h hag) k) ?_;exact Gx (E:=⟨λch hp'=>Q.v (.panic ch) (mh ops e) hp'⟩) hf h hw λts' e' hp' h' k=>hk _ _ _ _ (w9 h' L) k
 |oq l L=>
  intro bN nest Q Q' e hp ts hf kP h hw hk;rw[JU] at hw;refine hO.oq hm ?_;refine ahw (E:=λch hp'=>Q.v (.panic ch) (mh (l.map (·.1)) e) hp') (λch hp k ts hag=>hk _ _ _ _ (RH h hag) k) ?_;exact WS (E:=⟨λch hp'=>Q.v (.panic ch) (mh (l.map (·.1)) e) hp'⟩) hf h hw λts' e' hp' h' k=>hk _ _ _ _ (w9 h' L) k
 |seq a b ia qA=>
  intro bN nest Q Q' e hp ts hf kP h hw hk;simp only[cZ.mU,dY] at hf;rw[Ds] at hw;refine hO.seq (ia hf.1 kP h hw λx ts' e' hp' h' k=>?_);cases x with
  |normal=>exact qA hf.2 kP h' k hk
  |_=>exact hk _ _ _ _ h' k
 |cond o a b ia qA=>
  intro bN nest Q Q' e hp ts hf kP h hw hk;simp only[cZ.mU,dY] at hf;rw[JO] at hw;obtain⟨v,h1,h2⟩:=hw;have hv:=iX h h1;dsimp only at h2;unfold BR at h2;split at h2;rename_i b';refine hO.cond hv ?_;cases b' with
  |true=>exact ia hf.1 kP h (h2.1 rfl) hk
  |false=>exact qA hf.2 kP h (h2.2 rfl) hk
  exact h2.elim
 |block id a ia=>
  intro bN nest Q Q' e hp ts hf kP h hw hk;rw[xP] at hw;refine hO.block (ia hf kP h hw λx ts' e' hp' h' k=>?_);cases x with
  |exit id'=>
   simp only[tC] at k;simp only[Sy];split;rename_i e1;rw[if_pos e1] at k;exact hk _ _ _ _ h' k;rename_i e1;rw[if_neg e1] at k;exact hk _ _ _ _ h' k
  |_=>exact hk _ _ _ _ h' k
 |loop a ia=>
  intro bN nest Q Q' e hp ts hf kP h hw hk;rw[JR] at hw;obtain⟨I,m,h0,hr⟩:=hw;refine hO.atY (λm s=>∃e,Has n s.ts e/\I m e s.hp) ⟨e,h,h0⟩ λm s ⟨e',h',hI⟩=>?_;refine ia hf kP h' (hr m e' s.hp hI) λx Vk e2 gE h2 k=>?_;cases x with
  |normal=>
   obtain⟨m',hlt,an4⟩:=k;exact⟨m',hlt,e2,h2,an4⟩
  |_=>exact hk _ _ _ _ h2 k
 |oS ls L=>
  intro bN nest Q Q' e hp ts hf kP h hw hk;simp only[cZ.mU,c_] at hf;rw[FZ] at hw;obtain⟨ρ,hw⟩:=hw;refine hO.oS hm ρ λl hl=>?_;refine U3 (E:=λch hp'=>Q.v (.panic ch) (mh ls.flatten e) hp') (λch hp k ts hag=>hk _ _ _ _ (RH h hag) k) ?_;exact Gx (E:=⟨λch hp'=>Q.v (.panic ch) (mh ls.flatten e) hp'⟩) (by rw[Y3];exact hf l hl) h (hw l hl) λts' e' hp' h' k=>hk _ _ _ _ (w9 h' L) k
 |oQ x ps a b L ia qA=>
  intro bN nest Q Q' e hp ts hf kP h hw hk;simp only[cZ.mU,dY] at hf;obtain⟨⟨⟨mY,hps⟩,HY⟩,HZ⟩:=hf;rw[vR] at hw;obtain⟨g,fs,cs,hx,hr⟩:=hw;have rz:∀{pd:Option Code} {hp':List aa},@vk Q pd (kA L e) hp'->SF Q' pd ⟨ts,hp'⟩:=λ{pd hp'} h3=>by
   cases pd with
   |none=>exact hk _ _ _ _ (w9 h L) h3
   |some c=>
    cases c with
    |ret=>exact hk _ _ _ _ (w9 h L) h3
    |exit id=>exact hk _ _ _ _ (w9 h L) h3
    |_=>exact h3.elim
  have abr:∀k,Po G P k ts ps (gU P a.aW b.aW) (λQ e hp=>@cF G P true a ⟨Q⟩ e hp) (λQ e hp=>@cF G P true b ⟨Q⟩ e hp) e:=λkk args hp' K hlen ⟨pd,hk'⟩ ap7=>by
   refine⟨⟨_,_,_,_,_,hk'⟩,azy hk' aCi ?_⟩;refine ia (bN:=.plain) HY (λq=>aBT) (aot h hps args) ap7 λx sU e1 cW h1 k=>?_;cases x with
   |normal=>
    obtain⟨k1,k2⟩:=k;refine⟨k1,λpd=>qA (bN:=.vD kk) HZ (λ_=>rfl) h1 (k2 pd) λx Vk e2 gE h2 k=>?_⟩;cases x with
    |normal=>exact k
    |ret=>exact k
    |exit id=>exact k
    |_=>exact k.elim
   |_=>exact k.elim
  cases bN with
  |plain=>cases mY
  |oE g ks=>cases mY
  |fn n0=>
   have:nest=false:=kP rfl;subst this;have hr':=hr (hp.length+1) (by simp[marks]) ts (gU P a.aW b.aW) (abr _);simp only[marks,iA,if_false] at hr';exact hO.range (iX h hx) (aZ hr' λr hp' ⟨st,pd,h1,h2,h3⟩=>⟨st,pd,h1,h2,rz h3⟩)
  |vD k=>
   have:nest=true:=kP rfl;subst this;have hr':=hr hp.length (by simp[marks]) ts (gU P a.aW b.aW) (abr _);simp only[marks,if_true,e4] at hr';exact hO.av3 (iX h hx) (aZ hr' λr hp' ⟨st,pd,h1,h2,h3⟩=>⟨st,pd,h1,h2,rz h3⟩)
def xK(e:Env)(hp:List aa):e7->Option U
 |.s t=>eZ e t
 |.c t aH n=>(eZ e t).bind λp=>aq hp aH n p
def qF(e:Env)(hp:List aa):List e7->Option (List U)
 |[]=>some []
 |x::r=>(xK e hp x).bind λa=>(qF e hp r).map λl=>a::l
def jn(e:Env)(hp:List aa)(rs:List e7):Option U:=(qF e hp rs).map λl=>match l with
 |[x]=>x
 |l=>.aK l
def Fy(rs:List e7)[K:Hid (U->List aa->Prop)][E:Hid kq]:Post
 |.normal,e,hp=>@e_ _ (jn e hp rs) ⟨λr=>K.v r hp⟩
 |.ret,e,hp=>@e_ _ (jn e hp rs) ⟨λr=>K.v r hp⟩
 |.panic ch,_,hp=>E.v ch hp
 |_,_,_=>False
section
variable{rs:List e7}{K:Hid (U->List aa->Prop)}{E:Hid kq}{e:Env}{hp:List aa}
def agv:@Fy rs K E .normal e hp=@e_ _ (jn e hp rs) ⟨λr=>K.v r hp⟩:=rfl
def agx:@Fy rs K E .ret e hp=@e_ _ (jn e hp rs) ⟨λr=>K.v r hp⟩:=rfl
def agw:@Fy rs K E (.panic ch) e hp=E.v ch hp:=rfl
end
def mS:Nat->List U->Env
 |_,[]=>[]
 |i,a::r=>(i,a)::mS (i+1) r
def XB:∀{l:List U} {i k:Nat} {v:U},eZ (mS i l) k=some v->i<=k/\l[k-i]?=some v
 |[],i,k,v,h=>aB1
 |a::r,i,k,v,h=>by
  simp only[mS,eZ] at h;split at h;rename_i e;subst e;cases h;exact⟨bl _,aBI⟩;rename_i e;obtain⟨h1,h2⟩:=XB h;refine⟨aBH,?_⟩;rw[show k-i=(k-(i+1))+1 by omega,v8];exact h2
def L7(h:args.length<=n):Has n (so args n) (mS 0 args):=by
 refine⟨by simp[so];omega,λk v hk=>?_⟩;obtain⟨_,h2⟩:=XB hk;rw[DM] at h2;unfold so;rw[ei (bE.1 h2).1];exact h2
def Jt(h:Has n ts e){r:U}(hr:jn e hp rs=some r):pZ ⟨ts,hp⟩ rs=some r:=by
 have key:∀{rs:List e7} {l:List U},qF e hp rs=some l->Dg ⟨ts,hp⟩ rs=some l:=by
  intro rs
  induction rs with
  |nil=>intro l hl;cases hl;rfl
  |cons x r ih=>
   intro l hl;simp only[qF,eY,cc] at hl;obtain⟨a,h1,l',h2,rfl⟩:=hl;have hx:Js ⟨ts,hp⟩ x=some a:=by
    cases x with
    |s t=>simp only[Js,h.2 _ _ h1,s8]
    |c t aH m=>
     simp only[xK,eY] at h1;obtain⟨p,q1,ah⟩:=h1;simp only[Js,h.2 _ _ q1,s8,ah]
   simp only[Dg,hx,ih h2]
 simp only[jn,cc] at hr;obtain⟨l,h1,h2⟩:=hr;unfold pZ;rw[key h1];split at h2;subst h2;rfl;rename_i hne;subst h2;split;rename_i e1;cases e1;exact(hne _ rfl).elim;rename_i e1;cases e1;rfl;rename_i e1;cases e1
def ZL(hm:P.follows .mixedOrders=true)(F:p4 P pu f=some ⟨n,rs,c.aW⟩)(hf:c.fits n=true)(hn:args.length<=n)
  (h:@cF G P false c ⟨@Fy rs ⟨K⟩ ⟨E⟩⟩ (mS 0 args) hp):fI G P f args hp K E:=by
 refine amV F (JS (bN:=.plain) hm hf (λq=>aBT) (L7 hn) h λx ts e hp' h' k=>?_);cases x with
 |normal=>
  obtain⟨r,h1,h2⟩:=k;exact⟨r,Jt h' h1,h2⟩
 |ret=>
  obtain⟨r,h1,h2⟩:=k;exact⟨r,Jt h' h1,h2⟩
 |panic ch=>exact k
 |_=>exact k.elim
def NM(n0:Nat)(rs:List e7)[K:Hid (U->List aa->Prop)][E:Hid kq]:Post
 |.normal,e,hp=>∀hp',lH n0 hp hp'->@e_ _ (jn e hp' rs) ⟨λr=>K.v r hp'⟩
 |.ret,e,hp=>∀hp',lH n0 hp hp'->@e_ _ (jn e hp' rs) ⟨λr=>K.v r hp'⟩
 |.panic ch,_,hp=>∀hp',lH n0 hp hp'->E.v ch hp'
 |_,_,_=>False
section
variable{n0:Nat}{rs:List e7}{K:Hid (U->List aa->Prop)}{E:Hid kq}{e:Env}{hp:List aa}
def Uy:@NM n0 rs K E .normal e hp=∀hp',lH n0 hp hp'->@e_ _ (jn e hp' rs) ⟨λr=>K.v r hp'⟩:=rfl
def A2:@NM n0 rs K E .ret e hp=∀hp',lH n0 hp hp'->@e_ _ (jn e hp' rs) ⟨λr=>K.v r hp'⟩:=rfl
end
def ZM(hm:P.follows .mixedOrders=true)(F:p4 P pu f=some ⟨n,rs,c.aW⟩)(hf:c.mU n true=true)(hn:args.length<=n)
  (h:@cF G P false c ⟨@NM hp.length rs ⟨K⟩ ⟨E⟩⟩ (mS 0 args) hp):fI G P f args hp K E:=by
 refine amW F (JS (bN:=.fn hp.length) hm hf (λ_=>rfl) (L7 hn) h λx ts e hp' h' k=>?_);cases x with
 |normal=>
  refine λgE he=>?_;obtain⟨r,h1,h2⟩:=k gE he;exact⟨r,Jt h' h1,h2⟩
 |ret=>
  refine λgE he=>?_;obtain⟨r,h1,h2⟩:=k gE he;exact⟨r,Jt h' h1,h2⟩
 |panic ch=>exact k
 |_=>exact k.elim
def agy[K:Hid (List aa->Prop)]:Post
 |.normal,_,hp=>K.v hp
 |.ret,_,hp=>K.v hp
 |_,_,_=>False
section
variable{K:Hid (List aa->Prop)}{e:Env}{hp:List aa}
end
def YS(hm:P.follows .mixedOrders=true){d0 d1:Nat}(F:FN P O g=some ⟨n,d0,d1,c.aW⟩)(hf:c.fits n=true)(hd:d0<n/\d1<n)(hn:args.length<=n){x:Option U}{v:Option Value}{K:List aa->Prop}
  (hx:match x,v with|none,none=>True|some x,some v=>uj x=true/\oD x=some v|_,_=>False)
  (h:@cF G P false c ⟨@agy ⟨K⟩⟩ ((d1,nL x)::(d0,nL x)::mS 0 args) hp):jb G P g args hp v K:=by
 refine al4 F hx (JS (bN:=.plain) hm hf (λq=>aBT) ?_ h λx ts e hp' h' k=>?_);have:=EA (d:=some d1) (v:=nL x) (EA (d:=some d0) (v:=nL x) (L7 hn) (by simpa using hd.1)) (by simpa using hd.2);exact this;cases x with
 |normal=>exact⟨ay rfl,k⟩
 |ret=>exact⟨ax rfl,k⟩
 |_=>exact k.elim
def jb.mono{x:Option Value}{K K':List aa->Prop}(h:jb G P g args hp x K)(hk:∀hp,K hp->K' hp):jb G P g args hp x K':=
 ⟨h.1,λbase w0 C M w args' hs hr=>CallsDIn.mono (h.2 base w0 C M w args' hs hr) λe u' w' ⟨aC,M',hp',v,k,rest⟩=>⟨aC,M',hp',v,hk _ k,rest⟩⟩
def agu(G:Cells)(P:Program)(g:FuncId)(ks:List Nat)(rs:List e7)[K:Hid (U->List aa->Prop)]:Post
 |.normal,e,hp=>jb G P g (ks.map λk=>.mp k 0) hp none λhp'=>@e_ _ (jn e hp' rs) ⟨λr=>K.v r hp'⟩
 |.ret,e,hp=>jb G P g (ks.map λk=>.mp k 0) hp none λhp'=>@e_ _ (jn e hp' rs) ⟨λr=>K.v r hp'⟩
 |.panic ch,e,hp=>∃v,ch=[{v:=v,recovered:=false}]/\jb G P g (ks.map λk=>.mp k 0) hp (some v) λhp'=>@e_ _ (jn e hp' rs) ⟨λr=>K.v r hp'⟩
 |_,_,_=>False
def ZK(hm:P.follows .mixedOrders=true){t:Nat}{caps:List bI}{a b:cZ}(F:FM P O f=some ⟨n,rs,a.aW,t,g,caps,b.aW⟩)(HY:a.fits n=true)(HZ:b.fits n=true)(ht:t<n)(hn:args.length<=n)
  (h:@cF G P false a ⟨@p5 ⟨λe hp=>∃ks:List Nat,k_ e caps=some (ks.map λk=>.mp k 0)/\@cF G P false b ⟨@agu G P g ks rs ⟨K⟩⟩ ((t,.fn (.func g) [] (ks.map λk=>.mp k 0))::e) hp⟩ ⟨λ_ _ _=>False⟩⟩ (mS 0 args) hp):aE G P f args hp K:=by
 refine amU F (JS (bN:=.plain) hm HY (λq=>aBT) (L7 hn) h λx ts e hp' h' k=>?_);cases x with
 |normal=>
  obtain⟨ks,h1,h2⟩:=k;refine⟨rfl,by rw[h'.1];exact ht,ks,sr h' h1,JS (bN:=.oE g ks) hm HZ (λq=>aBT) ?_ h2 λx Vk e2 gE h3 k=>?_⟩;exact EA (d:=some t) h' (by simpa using ht);have res:∀hp',@e_ _ (jn e2 hp' rs) ⟨λr=>K r hp'⟩->∃r,pZ ⟨Vk,hp'⟩ rs=some r/\K r hp':=λhp' ⟨r,q1,ah⟩=>⟨r,Jt h3 q1,ah⟩;cases x with
  |normal=>
   have k':jb G P g (ks.map λk=>.mp k 0) gE none λhp'=>@e_ _ (jn e2 hp' rs) ⟨λr=>K r hp'⟩:=k;exact jb.mono k' res
  |ret=>
   have k':jb G P g (ks.map λk=>.mp k 0) gE none λhp'=>@e_ _ (jn e2 hp' rs) ⟨λr=>K r hp'⟩:=k;exact jb.mono k' res
  |panic ch=>
   obtain⟨v,q1,ah⟩:=k;exact⟨v,q1,jb.mono ah res⟩
  |_=>exact k.elim
 |_=>exact k.elim
def p8{nest:Bool}:∀{c:cZ} {Q Q':Hid Post} {e:Env} {hp:List aa},@cF G P nest c Q e hp->(∀x e hp,Q.v x e hp->Q'.v x e hp)->@cF G P nest c Q' e hp:=by
 have instr:∀{i:fK} {F F':Hid (U->List aa->Prop)} {E E':Hid kq} {e:Env} {hp:List aa},@gQ G P i F E e hp->(∀v hp,F.v v hp->F'.v v hp)->(∀ch hp,E.v ch hp->E'.v ch hp)->@gQ G P i F' E' e hp:=by
  intro i F F' E E' e hp h hF hE;cases i with
  |op o=>obtain⟨v,h1,h2⟩:=h;exact⟨v,h1,hF _ _ h2⟩
  |call f args=>obtain⟨cl,h1,h2⟩:=h;exact⟨cl,h1,aZ h2 hF⟩
  |lP x args=>
   obtain⟨x',h0,cl,h1,h2⟩:=h;exact⟨x',h0,cl,h1,rT h2 hF⟩
  |lq f args=>obtain⟨cl,h1,bs,r',h2,h3,h4⟩:=h;exact⟨cl,h1,bs,r',h2,h3,hF _ _ h4⟩
  |mB f args r=>obtain⟨cl,h1,bs,h2,h3,h4⟩:=h;exact⟨cl,h1,bs,h2,h3,hF _ _ h4⟩
  |nu f args=>obtain⟨cl,h1,h2⟩:=h;exact⟨cl,h1,e3 h2 hF hE⟩
  |nv x args=>
   obtain⟨x',h0,cl,h1,h2⟩:=h;exact⟨x',h0,cl,h1,VM h2 hF hE⟩
  |eW x=>obtain⟨v,h1,h2⟩:=h;exact⟨v,h1,hE _ _ h2⟩
 have ak4:∀{v:U} {A B A' B':Hid Prop},@BR v A B->(A.v->A'.v)->(B.v->B'.v)->@BR v A' B':=by
  intro v A B A' B' h h1 h2;unfold BR at h⊢;split at h;exact⟨λq=>h1 (h.1 q),λq=>h2 (h.2 q)⟩;exact h.elim
 have guard:∀{w:Bool} {v:U} {A B A' B':Hid Prop},@rj w v A B->(A.v->A'.v)->(B.v->B'.v)->@rj w v A' B':=by
  intro w v A B A' B' h h1 h2;unfold rj at h⊢;split at h;cases w with
  |true=>exact⟨λq=>h1 (h.1 q),λq=>h2 (h.2 q)⟩
  |false=>exact⟨λq=>h2 (h.1 q),λq=>h1 (h.2 q)⟩
  exact h2 h;exact h.elim
 have run:∀{l:List aL} {K K':Hid (Env->List aa->Prop)} {E E':Hid kq} {e:Env} {hp:List aa},@iC G P l K E e hp->(∀e hp,K.v e hp->K'.v e hp)->(∀ch hp,E.v ch hp->E'.v ch hp)->@iC G P l K' E' e hp:=by
  intro l
  induction l with
  |nil=>intro K K' E E' e hp h hk hE;rw[BH] at h⊢;exact hk _ _ h
  |cons o r ih=>
   intro K K' E E' e hp h hk hE;obtain⟨d,g,i⟩:=o
   rcases g with _|⟨k,w⟩
   rw[DZ] at h⊢;exact instr h (λv hp' q=>ih q hk hE) hE;rw[DY] at h⊢;obtain⟨g,h1,h2⟩:=h;exact⟨g,h1,guard h2 (λq=>instr q (λv hp' q=>ih q hk hE) hE) λq=>ih q hk hE⟩
 have awI:∀{l:List (aL×List aL)} {K K':Hid (Env->List aa->Prop)} {E E':Hid kq} {e:Env} {hp:List aa},@q3 G P l K E e hp->(∀e hp,K.v e hp->K'.v e hp)->(∀ch hp,E.v ch hp->E'.v ch hp)->@q3 G P l K' E' e hp:=by
  intro l
  induction l with
  |nil=>intro K K' E E' e hp h hk hE;rw[D0] at h⊢;exact hk _ _ h
  |cons o r ih=>
   intro K K' E E' e hp h hk hE;obtain⟨o,cs⟩:=o;rw[D1] at h⊢;exact run h (λe hp k=>⟨k.1,ih k.2 hk hE⟩) hE
 intro c
 induction c with
 |skip L=>intro Q Q' e hp h hq;rw[JX] at h⊢;exact hq _ _ _ h
 |exit id L=>intro Q Q' e hp h hq;rw[JP] at h⊢;exact hq _ _ _ h
 |lab L=>intro Q Q' e hp h hq;rw[JQ] at h⊢;exact hq _ _ _ h
 |bad=>intro Q Q' e hp h hq;unfold cF at h;exact h.elim
 |scope a ia=>
  intro Q Q' e hp h hq;rw[JW] at h⊢;refine ia h λx e' hp' k=>?_;cases x with
  |goto l=>exact k.elim
  |_=>exact hq _ _ _ k
 |ret L=>intro Q Q' e hp h hq;rw[JV] at h⊢;exact hq _ _ _ h
 |region ops L=>intro Q Q' e hp h hq;rw[JT] at h⊢;exact run h (λe' hp' k=>hq _ _ _ k) λch hp' k=>hq _ _ _ k
 |oq l L=>intro Q Q' e hp h hq;rw[JU] at h⊢;exact awI h (λe' hp' k=>hq _ _ _ k) λch hp' k=>hq _ _ _ k
 |seq a b ia qA=>
  intro Q Q' e hp h hq;rw[Ds] at h⊢;refine ia h λx e' hp' k=>?_;cases x with
  |normal=>exact qA k hq
  |_=>exact hq _ _ _ k
 |cond o a b ia qA=>intro Q Q' e hp h hq;rw[JO] at h⊢;obtain⟨v,h1,h2⟩:=h;exact⟨v,h1,ak4 h2 (λq=>ia q hq) (λq=>qA q hq)⟩
 |block id a ia=>
  intro Q Q' e hp h hq;rw[xP] at h⊢;refine ia h λx e' hp' k=>?_;cases x with
  |exit id'=>
   simp only[tC] at k⊢;split at k;rename_i e1;rw[if_pos e1];exact hq _ _ _ k;rename_i e1;rw[if_neg e1];exact hq _ _ _ k
  |_=>exact hq _ _ _ k
 |loop a ia=>
  intro Q Q' e hp h hq;rw[JR] at h⊢;obtain⟨I,m,h0,hr⟩:=h;refine⟨I,m,h0,λm e hp hI=>ia (hr m e hp hI) λx e' hp' k=>?_⟩;cases x with
  |normal=>exact k
  |_=>exact hq _ _ _ k
 |oS ls L=>intro Q Q' e hp h hq;rw[FZ] at h⊢;obtain⟨ρ,h⟩:=h;exact⟨ρ,λl hl=>run (h l hl) (λe' hp' k=>hq _ _ _ k) λch hp' k=>hq _ _ _ k⟩
 |oQ x ps a b L ia qA=>
  intro Q Q' e hp h hq;rw[vR] at h⊢;obtain⟨g,fs,cs,hx,hr⟩:=h;refine⟨g,fs,cs,hx,λk hk ats ok hR=>aZ (hr k hk ats ok hR) λr hp' ⟨st,pd,h1,h2,h3⟩=>⟨st,pd,h1,h2,?_⟩⟩;cases pd with
  |none=>exact hq _ _ _ h3
  |some c=>
   cases c with
   |ret=>exact hq _ _ _ h3
   |exit id=>exact hq _ _ _ h3
   |_=>exact h3.elim
section
variable{G:Cells}{P:Program}{nest:Bool}{Q:Hid Post}{e:Env}{hp:List aa}
def cM{a b:cZ}(M:Env->List aa->Prop)(h1:@cF G P nest a ⟨@p5 ⟨M⟩ ⟨λ_ _ _=>False⟩⟩ e hp)(h2:∀e hp,M e hp->@cF G P nest b Q e hp):@cF G P nest (.seq a b) Q e hp:=by
 rw[Ds];refine p8 (c:=a) h1 λx e hp k=>?_;cases x with
 |normal=>exact h2 _ _ k
 |_=>exact k.elim
def fh{a b:cZ}(M:Env->List aa->Prop)(h1:@cF G P nest a ⟨@p5 ⟨M⟩ Q⟩ e hp)(h2:∀e hp,M e hp->@cF G P nest b Q e hp):@cF G P nest (.seq a b) Q e hp:=by
 rw[Ds];refine p8 (c:=a) h1 λx e hp k=>?_;cases x with
 |normal=>exact h2 _ _ k
 |_=>exact k
def cj{x:cZ}(I:Nat->Env->List aa->Prop)(n:Nat)(h0:I 0 e hp)(round:∀i e hp,i<n->I i e hp->@cF G P nest x ⟨@p5 ⟨I (i+1)⟩ Q⟩ e hp)(last:∀e hp,I n e hp->@cF G P nest x ⟨@p5 ⟨λ_ _=>False⟩ Q⟩ e hp):@cF G P nest (.loop x) Q e hp:=by
 rw[JR];refine⟨λk e hp=>∃i,k=n-i/\i<=n/\I i e hp,_,⟨0,rfl,ic _,h0⟩,λk e hp ⟨i,hk,hi,hI⟩=>?_⟩
 rcases cE i n with hl|hl
 refine p8 (round i e hp hl hI) λx e' hp' q=>?_;cases x with
 |normal=>exact⟨n-(i+1),aBH,i+1,rfl,hl,q⟩
 |_=>exact q
 have e1:i=n:=aBH
 subst e1;refine p8 (last e hp hI) λx e' hp' q=>?_;cases x with
 |normal=>exact q.elim
 |_=>exact q
def mF{x:cZ}(I:Nat->Env->List aa->Prop)(h0:I n e hp)(round:∀n e hp,I n e hp->@cF G P nest x ⟨@p5 ⟨λe' hp'=>∃m,m<n/\I m e' hp'⟩ Q⟩ e hp):@cF G P nest (.loop x) Q e hp:=by
 rw[JR];exact⟨I,n,h0,round⟩
end
def lY:type_of% @JX/\type_of% @JT/\type_of% @FZ/\type_of% @Ds/\type_of% @JO/\type_of% @xP/\type_of% @JP/\type_of% @JV/\type_of% @BH/\type_of% @DZ/\type_of% @DY/\type_of% @aap/\type_of% @aan/\type_of% @aao/\type_of% @aaW/\type_of% @aiu/\type_of% @aiv/\type_of% @Kl/\type_of% @Kk/\type_of% @XY/\type_of% @ah7/\type_of% @ah6/\type_of% @ah9/\type_of% @XQ/\type_of% @XS/\type_of% @XT/\type_of% @XP/\type_of% @agv/\type_of% @agx/\type_of% @Yd/\type_of% @nF/\type_of% @wD/\type_of% @Xf/\type_of% @Xg/\type_of% @Xh/\type_of% @Xi/\type_of% @wE/\type_of% @iE/\type_of% @D9/\type_of% @Xw/\type_of% @PG/\type_of% @W5/\type_of% @Xd/\type_of% @Xb/\type_of% @W7/\type_of% @Xc/\type_of% @Xa/\type_of% @W_/\type_of% @W9/\type_of% @W8/\type_of% @PA/\type_of% @PB/\type_of% @ah8/\type_of% @XR/\type_of% @agw/\type_of% @Ye/\type_of% @JU/\type_of% @D0/\type_of% @D1/\type_of% @JW/\type_of% @JQ/\type_of% @ag7/\type_of% @ag6/\type_of% @ag9/\type_of% @ag8:=
 ⟨@JX,@JT,@FZ,@Ds,@JO,@xP,@JP,@JV,@BH,@DZ,@DY,@aap,@aan,@aao,@aaW,@aiu,@aiv,@Kl,@Kk,@XY,@ah7,@ah6,@ah9,@XQ,@XS,@XT,@XP,@agv,@agx,@Yd,@nF,@wD,@Xf,@Xg,@Xh,@Xi,@wE,@iE,@D9,@Xw,@PG,@W5,@Xd,@Xb,@W7,@Xc,@Xa,@W_,@W9,@W8,@PA,@PB,@ah8,@XR,@agw,@Ye,@JU,@D0,@D1,@JW,@JQ,@ag7,@ag6,@ag9,@ag8⟩
def lZ:type_of% @bx.eq_1/\type_of% @bx.eq_2/\type_of% @bx.eq_3/\type_of% @bx.eq_4/\type_of% @bx.eq_5/\type_of% @bx.eq_6/\type_of% @bx.eq_7/\type_of% @bx.eq_8/\type_of% @bx.eq_9/\type_of% @bx.eq_10/\type_of% @bx.eq_11/\type_of% @bx.eq_12/\type_of% @bx.eq_13/\type_of% @bx.eq_14/\type_of% @bx.eq_15/\type_of% @bx.eq_16/\type_of% @bx.eq_17/\type_of% @bx.eq_18/\type_of% @bx.eq_19/\type_of% @bx.eq_20/\type_of% @bx.eq_21/\type_of% @bx.eq_22/\type_of% @bx.eq_23/\type_of% @bx.eq_24/\type_of% @bx.eq_25/\type_of% @bx.eq_26/\type_of% @bx.eq_27/\type_of% @bx.eq_28/\type_of% @bx.eq_29/\type_of% @bx.eq_30/\type_of% @bx.eq_31/\type_of% @bx.eq_32/\type_of% @bx.eq_33/\type_of% @bx.eq_34/\type_of% @bx.eq_35/\type_of% @bx.eq_36/\type_of% @bx.eq_37/\type_of% @bx.eq_38/\type_of% @bx.eq_39/\type_of% @bx.eq_40/\type_of% @bx.eq_41/\type_of% @bx.eq_42/\type_of% @bx.eq_43/\type_of% @bx.eq_44/\type_of% @bx.eq_45/\type_of% @bx.eq_46/\type_of% @bx.eq_47/\type_of% @cI.eq_1/\type_of% @cI.eq_2/\type_of% @k_.eq_1/\type_of% @k_.eq_2/\type_of% @u7.eq_1/\type_of% @u7.eq_2/\type_of% @z8.eq_1/\type_of% @z8.eq_2/\type_of% @eZ.eq_1/\type_of% @eZ.eq_2/\type_of% @z6.eq_1/\type_of% @z6.eq_2/\type_of% @kA.eq_1/\type_of% @kA.eq_2/\type_of% @nK.eq_1/\type_of% @nK.eq_2/\type_of% @mS.eq_1/\type_of% @mS.eq_2/\type_of% @Fp.eq_1/\type_of% @Fp.eq_2/\type_of% @jn.eq_1/\type_of% @qF.eq_1/\type_of% @qF.eq_2/\type_of% @xK.eq_1/\type_of% @xK.eq_2/\type_of% @kn.{0,0}/\type_of% @Option.bind_none.{0,0}/\type_of% @ie.{0,0}/\type_of% @Option.map_none.{0,0}/\type_of% @e5/\type_of% @rW/\type_of% @iA:=
 ⟨@bx.eq_1,@bx.eq_2,@bx.eq_3,@bx.eq_4,@bx.eq_5,@bx.eq_6,@bx.eq_7,@bx.eq_8,@bx.eq_9,@bx.eq_10,@bx.eq_11,@bx.eq_12,@bx.eq_13,@bx.eq_14,@bx.eq_15,@bx.eq_16,@bx.eq_17,@bx.eq_18,@bx.eq_19,@bx.eq_20,@bx.eq_21,@bx.eq_22,@bx.eq_23,@bx.eq_24,@bx.eq_25,@bx.eq_26,@bx.eq_27,@bx.eq_28,@bx.eq_29,@bx.eq_30,@bx.eq_31,@bx.eq_32,@bx.eq_33,@bx.eq_34,@bx.eq_35,@bx.eq_36,@bx.eq_37,@bx.eq_38,@bx.eq_39,@bx.eq_40,@bx.eq_41,@bx.eq_42,@bx.eq_43,@bx.eq_44,@bx.eq_45,@bx.eq_46,@bx.eq_47,@cI.eq_1,@cI.eq_2,@k_.eq_1,@k_.eq_2,@u7.eq_1,@u7.eq_2,@z8.eq_1,@z8.eq_2,@eZ.eq_1,@eZ.eq_2,@z6.eq_1,@z6.eq_2,@kA.eq_1,@kA.eq_2,@nK.eq_1,@nK.eq_2,@mS.eq_1,@mS.eq_2,@Fp.eq_1,@Fp.eq_2,@jn.eq_1,@qF.eq_1,@qF.eq_2,@xK.eq_1,@xK.eq_2,@kn.{0,0},@Option.bind_none.{0,0},@ie.{0,0},@Option.map_none.{0,0},@e5,@rW,@iA⟩
def dV{b c d:Prop}(x:a)(y:b)(z:c)(u:d):a/\b/\c/\d:=⟨x,y,z,u⟩
def FY{p q a0:Prop}(x0:a0)(h:q)(e:a0->q->p:=by intro f0 hh;simp -failIfUnchanged -implicitDefEqProofs (disch:=first|assumption|decide|omega) only[gQ,lY,lZ,↓reduceIte,Nat.reduceEqDiff,Nat.reduceAdd,Nat.reduceLT,Nat.reduceLeDiff,f0];exact hh):p:=e x0 h
def azc{p q a b:Prop}(x:a)(y:b)(h:q)(e:a/\b->q->p:=by intro f h;exact FY f h):p:=e ⟨x,y⟩ h
def azd{p q a b c d:Prop}(x:a)(y:b)(z:c)(u:d)(h:q)(e:a/\b/\c/\d->q->p:=by intro f h;exact FY f h):p:=e ⟨x,y,z,u⟩ h
def Vy{p q a b c d f:Prop}(x:a)(y:b)(z:c)(u:d)(v:f)(h:q)(e:a/\b/\c/\d/\f->q->p:=by intro f h;exact FY f h):p:=e ⟨x,y,z,u,v⟩ h
def aze{p q a b c d f g i:Prop}(x:a)(y:b)(z:c)(u:d)(v:f)(w:g)(r:i)(h:q)(e:a/\b/\c/\d/\f/\g/\i->q->p:=by intro f h;exact FY f h):p:=e ⟨x,y,z,u,v,w,r⟩ h
def aiw{p q a b c d f g i j:Prop}(x:a)(y:b)(z:c)(u:d)(v:f)(w:g)(r:i)(s:j)(h:q)(e:a/\b/\c/\d/\f/\g/\i/\j->q->p:=by intro f h;exact FY f h):p:=e ⟨x,y,z,u,v,w,r,s⟩ h
def aix{p q a b c d f g i j k:Prop}(x:a)(y:b)(z:c)(u:d)(v:f)(w:g)(r:i)(s:j)(t:k)(h:q)(e:a/\b/\c/\d/\f/\g/\i/\j/\k->q->p:=by intro f h;exact FY f h):p:=e ⟨x,y,z,u,v,w,r,s,t⟩ h
end
open Go.ChangeShapes Go.WideShapes Go.ChangeAt
def s9(W:World):Cells:=λb o=>W.cell? ⟨b,o,none⟩
section
variable{H:Type}{enc:TypeId×Value->H}{P:Program}
def aie(hl:laidOutB P=true){W W':World}{sp:Nat->Bool}(hb:Below W.heap.size W W'):∀{ts:List TypeId} {vs:List Value} {ds:List (DataW H)} {ps:List MemPlace},(∀t∈ts,P.readableRec t=true/\t<P.types.size)->
  OG enc P W 0 (λ_=>true) true ts vs ds ps->(∀p∈ps,p.block<W.heap.size)->(∀p∈ps,sp p.block=true)->OG enc P W' 0 sp true ts vs ds ps
 |[],[],[],_,_,h,_,_=>h
 |t::ts,v::vs,d::ds,ps,ht,⟨p,q,h1,h2,e⟩,hlt,hsp=>by
  subst e;refine⟨p,q,WideElems.Trod_stays hl (ht t aBI).1 (ht t aBI).2 h1 (λx hx=>hb.same (hlt x aBU)) (λx hx=>hsp x aBU),?_,rfl⟩;exact aie hl hb (λu hu=>ht u (by simp[hu])) h2 (λx hx=>hlt x aBU) (λx hx=>hsp x aBU)
def akV{W W':World}(hb:Below W.heap.size W W')(may:MemPlace->Prop):W.keptBut W' may:=by
 refine⟨hb.os,hb.output,λi hi=>?_⟩;rw[hb.block i hi];split;rename_i a b c a' b' c' h1 h2;rw[h1] at h2;cases h2;exact⟨rfl,rfl,rfl,λ_ _=>rfl⟩;rename_i h1 h2;rw[h1] at h2;cases h2;exact ax ⟨rfl,rfl⟩;rfl
def akT{W W':World}(hb:Below W.heap.size W W'){b off:Nat}(h:b<W.heap.size):W'.frozen? ⟨b,off,none⟩=W.frozen? ⟨b,off,none⟩:=by
 unfold V2;rw[hb.block b h]
def as9{f:FuncId}{fn:Func}{s:ChangeSpec}{tb:TypeId}(hl:laidOutB P=true)(htb:P.underlying tb=some .bool)(hres:fn.resultTypes= #[tb])
  (hread:∀t∈fn.params.toList,P.readableRec t=true/\t<P.types.size) (hvars:s.vars=[]) {W:World} {args:Array Value} {ds gs:List (DataW H)} {before:List MemPlace}
  (hspec:∀gs,gs=[]->s.fn H (ds++gs)={results:=[.lit (.bool true)],args:=ds}) (hW:DataW.Whole enc P fn.params.toList s.vars false W args.toList ds gs before)
  {dh:List U} (hT:BJ W) (hp:ck (s9 W) P f dh (.v (.bool true))) (hr:bY (s9 W) [] [] dh args.toList):
  Calls P f args W λe W'=>∃v,e=.returned v/\s.post enc P fn false true false false W args v W':=by
 have w_:=hp.2 (s9 W) W args.toList ⟨λb o v h=>h,hT⟩ (λb o v h=>h) hr;rw[Array.toArray_toList] at w_;refine w_.mono λe W' ⟨aC,v',he,_,_,_,hb,fN,_⟩=>?_;cases fN;subst he;refine⟨_,rfl,?_⟩;have hlt:∀p∈before,p.block<W.heap.size:=λp hp=>hW.lt p hp;have Rz:=hW;obtain⟨p,q,hA,hV,rfl,hz,hn⟩:=hW;rw[hvars] at hV;obtain⟨rfl,rfl⟩:=trodVars_none hV;have hs:=hspec [] rfl;have hargs:∀sp:Nat->Bool,(∀x∈p++[],sp x.block=true)->OG enc P W' 0 sp true fn.params.toList args.toList ds p:=λsp hsp=>
  aie hl hb hread hA (λx hx=>hlt x aBU) (λx hx=>hsp x aBU)
 have abo:∀(b:Nat) (sp:Nat->Bool) (hd:Bool),OG enc P W' b sp hd fn.resultTypes.toList ((Value.bool true).resultList fn.resultTypes.size) [.lit (.bool true)] []:=λb sp hd=>by
  rw[hres];exact trodAll_cons_mk (shut_bool htb _) trodAll_mk0
 have abw:∀sp,DataW.TrodVars enc P W' sp s.vars [] []:=λsp=>by rw[hvars];rfl
 refine⟨ds,[],p++[],[],p,[],Rz,?_,?_,?_,akV hb _,λ_=>?_⟩;rw[hs];exact abo _ _ _;rw[hs];exact hargs _ (λx hx=>by simpa using hlt x hx);rw[hs];exact abw _;refine⟨ok_one hres rfl (okWide_bool_mk htb _),_,_,([]++p)++[],⟨[]++p,[],trodAll_append (hargs _ (λ_ _=>rfl)) (abo _ _ _),by simpa using abw _,aBI,?_,?_⟩,?_⟩;intro b off hp';rw[akT hb (show b<W.heap.size from hlt (.cell b off) (by simpa using hp'))];exact hz b off (by simpa using hp');intro ha;cases ha;intro x hx _;simpa using hx
def awo{a:Assume}{C:Checked}{os:Os}{f:FuncId}{fn:Func}{s:ChangeSpec}{conds:List PathCond}{apart fresh handsOn again:Bool}{X:World->Array Value->Prop}
  (hX:∀(w w':World) (args:Array Value),w.heap=w'.heap->X w args->X w' args)
  (own:ownKnob C.prog.godebug=none) (started:os.Started) (noInit:C.prog.inits.idxOf? f=none) (hfn:C.prog.funcs[f]?=some fn)
  (witness:∃(w:World) (tape:Tape) (i:Input),w.os=os/\(w.forCall tape i).Shaped C.prog/\i.vars=[]/\Input.okWide C.prog (w.forCall tape i) .any w.heap.size f i/\
    ((s.pre enc C.prog fn conds apart (w.forCall tape i).memory i.args/\X (w.forCall tape i).memory i.args)/\sizedMet enc C.prog fn (VZ s) apart (w.forCall tape i).memory i.args)/\a.holds C.prog (lone (Frame.enter C.prog f i.args .normal) [] (w.forCall tape i)))
  (contract:∀(W:World) (base:Nat) (args:Array Value) (ds gs:List (DataW H)) (before:List MemPlace),
    (∀(j:Nat) t v,fn.params[j]?=some t->args[j]?=some v->J_ C.prog W .any base t v)->
    DataW.Whole enc C.prog fn.params.toList s.vars apart W args.toList ds gs before->X W args->W.ShapedOpen C.prog->
    Calls C.prog f args W λe W'=>∃v,e=.returned v/\s.post enc C.prog fn apart fresh handsOn again W args v W'):
  ReturnsInHanded a C os f .any (λw args=>(s.pre enc C.prog fn conds apart w args/\X w args)/\sizedMet enc C.prog fn (VZ s) apart w args) (s.post enc C.prog fn apart fresh handsOn again):=by
 refine returnsInHanded_of_calls own started noInit witness ?_;intro w tape i _ hsh _ hok hpre hholds;obtain⟨_,_,_,fn',aoQ,_,_,_,_,hval⟩:=hok;have e:fn'=fn:=mL (aoQ.symm.trans hfn);subst e;obtain⟨⟨⟨ds,gs,before,hw,hc⟩,hx⟩,hz⟩:=hpre;have hw':=DataW.Whole.of_heap (w':=w.forCall tape i) (by rfl) hw;refine(contract (w.forCall tape i) w.heap.size i.args ds gs before hval hw' (hX _ _ _ (by rfl) hx) hsh).mono λe W' ⟨v,he,hp⟩=>?_;subst he;exact ChangeSpec.post_blind hp
end
inductive kI where
 |i (k:IntKind)
 |b
 |s
 |sl (e:List kI)
inductive tc(W:World):kI->Value->Prop
 |i {k:IntKind} {n:Int} (h:(Lit.int k n).wf=true):tc W (.i k) (.int k n)
 |b {x:Bool}:tc W .b (.bool x)
 |s {x:ByteArray} (h:x.size<=maxLen):tc W .s (.string x)
 |nil {e:List kI}:tc W (.sl e) (.slice none 0 0)
 |sl {e:List kI} {a:Addr} {len cap:Nat} (g:Nat->Nat->Value) (hl:len<=cap) (hc:cap<=maxLen) (hsp:0<len->0<e.length->a.spot=none)
  (hC:∀i j c,i<len->e[j]?=some c->W.cell? ⟨a.block,a.off+i*e.length+j,none⟩=some (g i j))
  (hR:∀i j c,i<len->e[j]?=some c->tc W c (g i j)):tc W (.sl e) (.slice (some a) len cap)
def mM(W:World)(L:List kI)(cs:List Value):Prop:=L.length=cs.length/\∀(i:Nat) c v,L[i]?=some c->cs[i]?=some v->tc W c v
def LL(P:Program)(g:TypeId->Option (List kI)):List Field->Nat->Option (List kI)
 |[],_=>some []
 |f::r,off=>if f.offset=off then match g f.type with
   |some l=>if P.cellsOf f.type=l.length then(LL P g r (off+l.length)).map (l++ ·) else none
   |none=>none
  else none
def AY:Nat->List kI->List kI
 |0,_=>[]
 |n+1,l=>l++AY n l
def B3(P:Program):Nat->TypeId->Option (List kI)
 |0,_=>none
 |f+1,t=>match P.underlying t with
  |some (.int k)=>some [.i k]
  |some .bool=>some [.b]
  |some .string=>some [.s]
  |some (.slice e)=>match B3 P f e with
   |some l=>if P.cellsOf e=l.length then some [.sl l] else none
   |none=>none
  |some (.struct fs)=>match LL P (B3 P f) fs.toList 0 with
   |some l=>if P.cellsOf t=l.length then some l else none
   |none=>none
  |some (.array n e)=>match B3 P f e with
   |some l=>if P.cellsOf e=l.length/\P.cellsOf t=n*l.length then some (AY n l) else none
   |none=>none
  |_=>none
section
variable{H:Type}{enc:TypeId×Value->H}{P:Program}{W:World}{sp:Nat->Bool}{held:Bool}
def Yg{L L':List kI}{cs cs':List Value}(h:mM W L cs)(h':mM W L' cs'):mM W (L++L') (cs++cs'):=by
 refine⟨by simp[h.1,h'.1],λi c v hc hv=>?_⟩
 rcases cE i L.length with hi|hi
 rw[ei hi] at hc;rw[ei (by rw[<-h.1];exact hi)] at hv;exact h.2 i c v hc hv;rw[er hi] at hc;rw[er (by rw[<-h.1];exact hi),<-h.1] at hv;exact h'.2 _ c v hc hv
def GU{c:kI}{v:Value}(h:tc W c v):mM W [c] [v]:=⟨rfl,λi c' v' hc hv=>by
 cases i with
 |zero=>simp at hc hv;subst hc;subst hv;exact h
 |succ i=>simp at hc⟩
def awe(n:Nat)(l:List kI):(AY n l).length=n*l.length:=by
 induction n with
 |zero=>simp[AY]
 |succ n ih=>simp only[AY,cB,ih,qR];omega
def Y2{α:Type}(cs:List α)(off n:Nat):cs.drop off=(cs.drop off).take n++cs.drop (off+n):=by
 conv=>lhs;rw[<-Wg n (cs.drop off)]
 rw[vZ]
def ZY{g:TypeId->Option (List kI)}{cs:List Value}{R:TypeId->List Value->Prop}(hg:∀t l v,g t=some l->R t v->mM W l v):
  ∀(fs:List Field) (off:Nat) (L:List kI),LL P g fs off=some L->(∀f∈fs,R f.type ((cs.drop f.offset).take (P.cellsOf f.type)))->(cs.drop off).length=L.length->mM W L (cs.drop off)
 |[],off,L,h,_,hl=>by
  cases h;have:cs.drop off=[]:=lE hl;rw[this];exact⟨rfl,λi c v hc=>aD1⟩
 |f::r,off,L,h,hR,hl=>by
  simp only[LL] at h;split at h;rename_i hoff;subst hoff;split at h;rename_i l ji;split at h;rename_i hn;simp only[cc] at h;obtain⟨L',hL',rfl⟩:=h;have h1:=hg _ _ _ ji (hR f aBI);rw[Y2 cs f.offset (P.cellsOf f.type)];refine Yg h1 ?_;rw[hn];refine ZY hg r (f.offset+l.length) L' hL' (λf' hf'=>hR f' (by simp[hf'])) ?_;simp only[cB,v_] at hl⊢;omega;cases h;cases h;cases h
def agp{l:List kI}{cs:List Value}(n:Nat):∀(k i:Nat),k+i=n->(∀j,j<n->mM W l ((cs.drop (j*l.length)).take l.length))->(cs.drop (i*l.length)).length=k*l.length->mM W (AY k l) (cs.drop (i*l.length))
 |0,i,_,_,hl=>by
  have:cs.drop (i*l.length)=[]:=lE (by rw[hl];simp);rw[this];exact⟨rfl,λi c v hc=>by simp[AY] at hc⟩
 |k+1,i,hk,hR,hl=>by
  rw[Y2 cs (i*l.length) l.length];refine Yg (hR i aBH) ?_;have e:i*l.length+l.length=(i+1)*l.length:=by rw[qR]
  rw[e];refine agp n k (i+1) aBH hR ?_;rw[<-e];simp only[v_,qR] at hl⊢;omega
def Yh{a:Addr}{n:Nat}{cs:List Value}(h:W.cells? 0 a n=some cs):cs.length=n/\∀j,j<n->W.cell? (a.add j)=cs[j]? :=by
 unfold World.cells? at h;rw[if_pos (ic _)] at h;refine⟨by simpa using mapM_some_length h,λj hj=>?_⟩;exact mapM_some_get h j j aEq
def aka(a:Addr)(n:Nat)(h:a.spot=none):a.add n=⟨a.block,a.off+n,none⟩:=by
 cases a with
 |mk b o s=>simp at h;subst h;rw[addr_add]
def ale{a:Addr}{v:Value}(h:W.cell? a=some v):a.spot=none:=by
 unfold DG at h;split at h;split at h;cases h;rename_i hs;simpa using hs;cases h
def JK:∀(d:Nat) (t:TypeId) (L:List kI),B3 P d t=some L->∀(fuel:Nat) (cs:List Value) (x:DataW H×List MemPlace),OH enc P W 0 sp held fuel t cs=some x->mM W L cs
 |0,t,L,h=>aB1
 |d+1,t,L,h=>by
  intro fuel cs x hx;simp only[B3] at h;split at h;rename_i k ht;cases h;obtain⟨n,rfl,_,hw⟩:=DataW.trod_int ht hx;exact GU (.i hw);rename_i ht;cases h;obtain⟨n,rfl,_⟩:=DataW.trod_bool ht hx;exact GU .b;rename_i ht;cases h;obtain⟨n,rfl,_,hw⟩:=DataW.trod_string ht hx;exact GU (.s hw);rename_i e ht;split at h;rename_i l hl;split at h;rename_i hn;cases h
  rcases DataW.trod_slice ht hx with⟨rfl,_⟩|⟨a,len,cap,elems,rest,n,rfl,rfl,_,_,hlc,hcm,hel,iZ,_,_⟩
  exact GU .nil
  · rw[hn] at iZ
    have each:∀i,i<len->∃ci,W.cells? 0 (a.add (i*l.length)) l.length=some ci/\mM W l ci:=λi hi=>by
     have h1:=iZ i hi;rw[br aBH] at h1;simp only[eY] at h1;obtain⟨ci,c1,c2⟩:=h1;exact⟨ci,c1,JK d e l hl n ci _ c2⟩
    have hsp:0<len->0<l.length->a.spot=none:=λh0 h1=>by
     obtain⟨ci,c1,_⟩:=each 0 h0;obtain⟨q1,ah⟩:=Yh c1;have aN:=ah 0 h1;rw[br aBH] at aN;have gd:(a.add (0*l.length)).add 0=a:=by simp[Addr.add]
     rw[gd] at aN;exact ale aN
    refine GU (.sl (λi j=>(W.cell? ⟨a.block,a.off+i*l.length+j,none⟩).getD (.int .i64 0)) hlc hcm hsp (λi j c hi hj=>?_) (λi j c hi hj=>?_))
    all_goals
     have hjl:=(bE.1 hj).1;obtain⟨ci,c1,c2,c3⟩:=each i hi;obtain⟨q1,ah⟩:=Yh c1;have aN:=ah j hjl;have hs:=hsp aBH aBH;rw[aka a _ hs,addr_add] at aN;rw[br aBH] at aN;simp only[aN,s8]
    exact c3 j c _ hj (br aBH)
  cases h;cases h;rename_i fs ht;split at h;rename_i l hl;split at h;rename_i hn;cases h;obtain⟨xs,n,rfl,_,hlen,hsz,iZ⟩:=DataW.trod_struct ht hx;have:=ZY (W:=W) (P:=P) (cs:=cs) (R:=λt v=>∃x,OH enc P W 0 sp held n t v=some x) (λt l v hg hx=>by
   obtain⟨x,hx⟩:=hx;exact JK d t l hg n v x hx) fs.toList 0 _ hl (λf hf=>by
   obtain⟨i,hi,rfl⟩:=DJ hf;have hi':i<fs.size:=aCj
   have:=iZ i fs[i] (by simp[hi']);rw[List.getElem?_eq_getElem aBH] at this;exact⟨_,by simpa using this⟩) (by rw[nk];omega)
  rw[nk] at this;exact this;cases h;cases h;rename_i n e ht;split at h;rename_i l hl;split at h;rename_i hn;cases h;obtain⟨xs,m,rfl,_,hlen,hsz,iZ⟩:=DataW.trod_array ht hx;have:=agp (W:=W) (l:=l) (cs:=cs) n n 0 aBH (λj hj=>by
   have h1:=iZ j hj;rw[br aBH,hn.1] at h1;exact JK d e l hl m _ _ h1) aBK
  simpa using this;cases h;cases h;cases h
def XC{d:Nat}:∀{ts:List TypeId} {DT:List (List kI)} {vs:List Value} {ds:List (DataW H)} {ps:List MemPlace},ts.mapM (B3 P d)=some DT->OG enc P W 0 sp held ts vs ds ps->
  vs.length=DT.length/\ds.length=DT.length/\∀(i:Nat) L v,DT[i]?=some L->vs[i]?=some v->mM W L v.cells.toList
 |[],DT,[],[],_,h,_=>by
  simp at h;subst h;exact⟨rfl,rfl,λi L v h=>aBR⟩
 |t::ts,DT,v::vs,x::ds,ps,h,⟨p,q,⟨fuel,h1⟩,h2,_⟩=>by
  simp only[List.mapM_cons,Option.pure_def,Option.bind_eq_bind,eY,lG] at h;obtain⟨L,hL,azX,an8,rfl⟩:=h;obtain⟨e1,e2,bQ⟩:=XC an8 h2;refine⟨aCI,by simp[e2],λi L' v' hL' ET=>?_⟩;cases i with
  |zero=>simp at hL' ET;subst hL';subst ET;exact JK d t L hL fuel _ _ h1
  |succ i=>simp at hL' ET;exact bQ i L' v' hL' ET
end
section
variable{hp:List aa}{f:FuncId}{t:TypeId×Nat}{k:Nat}{z:List U}
section
variable{G:Cells}{P:Program}
structure Km(P:Program)(f:FuncId)(t:TypeId×Nat):Prop where
 enters:Enters P f
 fresh:∀b w,w.cell? ⟨b,0,none⟩=some (.pointer none)->w.shape? b=some t->w.frozen? ⟨b,0,none⟩=false->
  Calls P f #[.pointer (some ⟨b,0,none⟩)] w λe w'=>e=.returned (.tuple #[])/\w'=w.setCell ⟨b,0,none⟩ (.pointer (some ⟨b,0,none⟩))
 used:∀b w,w.cell? ⟨b,0,none⟩=some (.pointer (some ⟨b,0,none⟩))->
  Calls P f #[.pointer (some ⟨b,0,none⟩)] w λe w'=>e=.returned (.tuple #[])/\w'=w
def agr{C:Cells}{M:List Loc}:aI C M hp (.aK []) (.tuple #[]):=.aK rfl λi a b ha hb=>by simp at ha
def X9(hS:Km P f t)(hk:hp[k]?=some (.cells (.fL k t::z) false)):
  aE G P f [.mp k 0] hp λr hp'=>r=.aK []/\hp'=hp.set k (.cells (.mp k 0::z) false):=by
 refine⟨hS.enters,λbase w0 C M w args' hs hr=>?_⟩;obtain⟨hl,hh⟩:=hr
 match args',hl,hh with
 |[v],_,hh=>
  have hv:=hh 0 _ _ rfl rfl;cases hv with
  |@mp _ _ L cs hb hM=>
   obtain⟨_,_,h3,h4,_,_,h7⟩:=hs.cells k _ _ L hk hM;obtain⟨c',h5,h6⟩:=h3 0 (.fL k t) rfl;generalize hx:U.fL k t=x at h6;cases h6 with
   |@fL k' L' cs' hb' cJ=>
    cases hx;rw[hM] at cJ;cases cJ;refine(hS.fresh L.b w h5 h7 (h4 0)).mono ?_;rintro e w' ⟨rfl,rfl⟩;obtain⟨hle,cz⟩:=hs.store hk hM 0 [.mp k 0] [.pointer (some ⟨L.b,0,none⟩)] ⟨rfl,λi a b ha gD=>by
     cases i with
     |zero=>simp at ha gD;subst ha;subst gD;exact .mp hk hM
     |succ i=>simp at ha⟩ aBI
    exact⟨C,M,_,.aK [],.tuple #[],⟨rfl,rfl⟩,rfl,hle,cz,agr⟩
   |_=>cases hx
def Yb(hS:Km P f t)(hk:hp[k]?=some (.cells (.mp k 0::z) false)):
  aE G P f [.mp k 0] hp λr hp'=>r=.aK []/\hp'=hp:=by
 refine⟨hS.enters,λbase w0 C M w args' hs hr=>?_⟩;obtain⟨hl,hh⟩:=hr
 match args',hl,hh with
 |[v],_,hh=>
  have hv:=hh 0 _ _ rfl rfl;cases hv with
  |@mp _ _ L cs hb hM=>
   obtain⟨_,_,h3,_⟩:=hs.cells k _ _ L hk hM;obtain⟨c',h5,h6⟩:=h3 0 (.mp k 0) rfl;generalize hx:bB k 0=x at h6;cases h6 with
   |@mp k' off L' cs' hb' cJ=>
    cases hx;rw[hM] at cJ;cases cJ;refine(hS.used L.b w h5).mono ?_;rintro e w' ⟨rfl,rfl⟩;exact⟨C,M,_,.aK [],.tuple #[],⟨rfl,rfl⟩,rfl,mI _ _ _,hs,agr⟩
   |_=>cases hx
end
end
section
variable{P:Program}
def atE{e:TypeId}(hc:P.cellsOf e=1)(count o n:Nat)(hn:o+n<=count):liesAt P P.depth e count o e n=true:=by
 have hd:P.depth=(2*(P.types.size+Made.depth)+1)+1:=rfl;rw[hd];simp only[liesAt,DA];left;rw[hd];simp[rowAt,hc,hn,sameLayout,Nat.mod_one]
def awR{w:World}(pt it ty e:TypeId)(hp:P.underlying pt=some (.pointer e))(hc:P.cellsOf e=1)(g o cells:Nat)(hsh:w.shape? g=some (e,cells))(l:List UInt8)(h0:l≠[])(hn:o+l.length<=cells)(h63:l.length<=9223372036854775807)
  (hcell:∀(j:Nat) x,l[j]?=some x->w.cell? ((⟨g,o,none⟩:Addr).add j)=some (.int .u8 x.toNat)):
  (VP #[pt,it] ty #[.pointer (some ⟨g,o,none⟩),.int .i64 l.length]).run P w=.ok (.string ⟨l.toArray⟩) (w.freeze ⟨g,o,none⟩ l.length):=by
 have hl:l.length≠0:=by simpa using h0
 have hlb:=Lib.run_loadBytes (P:=P) w l ⟨g,o,none⟩ .empty hcell;have hlies:=atE (P:=P) hc (cells/P.cellsOf e) o l.length (by rw[hc];simpa using hn);have h63':¬(9223372036854775807:Int)<(l.length:Int):=aBH
 have hmax:b7.max=9223372036854775807:=rfl;have hneg:¬(l.length:Int)<0:=aBH
 have tQ:=@id (VP #[pt,it] ty #[.pointer (some ⟨g,o,none⟩),.int .i64 l.length]=(asInt (.int .i64 l.length)>>=_)) rfl;rw[tQ];simp[asInt,asIntOf,hmax,h63',hneg,hl,variablesAt,hsh,elemOf,run_underlying hp,hlies,hlb]
end
section
variable{f:FuncId}{e:TypeId}{k:Nat}{c0:U}{hp:List aa}
section
variable{G:Cells}{P:Program}
structure KE(P:Program)(f:FuncId)(e:TypeId):Prop where
 enters:Enters P f
 got:∀(b g o cap cells:Nat) (l:List UInt8) (w:World),w.cell? ⟨b,1,none⟩=some (.slice (some ⟨g,o,none⟩) l.length cap)->l≠[]->l.length<=cap->w.shape? g=some (e,cells)->o+l.length<=cells->
  l.length<=140737488355328->
  (∀(j:Nat) x,l[j]?=some x->w.cell? ((⟨g,o,none⟩:Addr).add j)=some (.int .u8 x.toNat))->
  Calls P f #[.pointer (some ⟨b,0,none⟩)] w λr w'=>r=.returned (.string ⟨l.toArray⟩)/\w'=w.drew.freeze ⟨g,o,none⟩ l.length
 afw:∀(b:Nat) (w:World),w.cell? ⟨b,1,none⟩=some (.slice none 0 0)->
  Calls P f #[.pointer (some ⟨b,0,none⟩)] w λr w'=>r=.returned (.string .empty)/\w'=w.drew
def X_(hS:KE P f e){id:Nat}{l:List UInt8}(hk:hp[k]?=some (.cells [c0,.sl (l.map λc=>.v (.int .u8 c.toNat)) (.tok id)] false))(hid:hp[id]?=some (.tok l.length 1 e))
  (h0:l≠[]) (Ev:l.length<=140737488355328):
  aE G P f [.mp k 0] hp λr hp'=>r=.v (.string ⟨l.toArray⟩)/\hp'=hp:=by
 refine⟨hS.enters,λbase w0 C M w args' hs hr=>?_⟩;obtain⟨hl,hh⟩:=hr
 match args',hl,hh with
 |[v],_,hh=>
  have hv:=hh 0 _ _ rfl rfl;cases hv with
  |@mp _ _ L cs hb hM=>
   obtain⟨_,_,h3,_⟩:=hs.cells k _ _ L hk hM;obtain⟨c',h5,h6⟩:=h3 1 (.sl (l.map λc=>.v (.int .u8 c.toNat)) (.tok id)) rfl;generalize hx:U.sl (l.map λc=>bP (.int .u8 c.toNat)) (.tok id)=x at h6;cases h6 with
   |@sl xs t a cap sz fv hsp hsz hC hR hT hcap=>
    cases hx;rw[b_] at*;obtain⟨n,s,ty,L',q1,ah,aN,dI,gd⟩:=hT;rw[hid] at q1;cases q1;obtain⟨avO,AX,pY,_⟩:=gd rfl;obtain⟨ab,ao,zP⟩:=a;cases avO;have hne:l.map (λc=>bP (.int .u8 c.toNat))≠[]:=by simpa using h0
    have hl0:0<l.length:=by cases l with|nil=>exact(h0 rfl).elim|cons _ _=>simp
    have hs1:sz=1:=by
     rcases dI with q|q
     omega;exact q
    subst hs1;obtain⟨_,_,_,_,_,hty⟩:=hs.toks id _ _ _ L' hid ah;obtain⟨cells,hsh⟩:=hty.shape;have hcell:∀(j:Nat) x,l[j]?=some x->w.cell? ((⟨ab,ao,none⟩:Addr).add j)=some (.int .u8 x.toNat):=by
     intro j x hj;have hm:(l.map (λc=>bP (.int .u8 c.toNat)))[j]?=some (.v (.int .u8 x.toNat)):=aEq
     have h1:=hs.ld _ _ _ (hC j _ 0 _ hm rfl);have h2:=hR j _ 0 _ hm rfl;rw[addr_add];simp only[Nat.mul_one,rW] at h1;rw[h1];generalize hg:fv j 0=y at h2;cases h2;rfl
    have hfit:ao+l.length<=cells:=by
     obtain⟨x,hx⟩:∃x,l[l.length-1]?=some x:=⟨_,br aBH⟩;have h1:=hcell _ _ hx;rw[addr_add] at h1;have hbk:=AX.symm;rw[hbk] at hsh;unfold DG at h1;unfold Kd at hsh;dsimp only at h1 hsh;cases hw:w.heap[ab]? with
     |none=>rw[hw] at h1;cases h1
     |some eN=>
      rw[hw] at h1 hsh;cases eN with
      |cells d t fr=>
       simp only[lG,uI] at hsh;simp only[ya,iA,if_false] at h1;have:=(vT.1 h1).1;omega
      |_=>cases h1
    refine(hS.got L.b ab ao cap cells l w h5 h0 hcap (by rw[<-AX] at hsh;exact hsh) hfit Ev hcell).mono ?_;rintro r w' ⟨rfl,rfl⟩;exact⟨C,M,_,.v (.string ⟨l.toArray⟩),.string ⟨l.toArray⟩,⟨rfl,rfl⟩,rfl,mI _ _ _,hs.drew.am0 hid ah AX.symm (by dsimp only at pY⊢;omega),.v rfl⟩
   |_=>cases hx
def Ya(hS:KE P f e)(hk:hp[k]?=some (.cells [c0,.af] false)):
  aE G P f [.mp k 0] hp λr hp'=>r=.v (.string .empty)/\hp'=hp:=by
 refine⟨hS.enters,λbase w0 C M w args' hs hr=>?_⟩;obtain⟨hl,hh⟩:=hr
 match args',hl,hh with
 |[v],_,hh=>
  have hv:=hh 0 _ _ rfl rfl;cases hv with
  |@mp _ _ L cs hb hM=>
   obtain⟨_,_,h3,_⟩:=hs.cells k _ _ L hk hM;obtain⟨c',h5,h6⟩:=h3 1 .af rfl;cases h6;refine(hS.afw L.b w h5).mono ?_;rintro r w' ⟨rfl,rfl⟩;exact⟨C,M,_,.v (.string .empty),.string .empty,⟨rfl,rfl⟩,rfl,mI _ _ _,hs.drew,.v rfl⟩
end
end
section
variable{b:aa}{c key l m s v x:U}{hp:List aa}{aY k n:Nat}{e:TypeId}{α:Type}{aH:Bool}{z:List U}{ks:List gI}
def aW:aa->aa
 |.aT st pd _ _ _=>.aT st (match st with|.busy=>none|_=>pd) [] #[] (λ_ _=>False)
 |.obj (.deferred _)=>.obj (.deferred none)
 |b=>b
def eA(hp hp':List aa):Prop:=∀(k:Nat) st pd ats ps ok,hp[k]?=some (.aT st pd ats ps ok)->∃st' jx,hp'[k]?=some (.aT st' jx ats ps ok)
def eA.refl(hp:List aa):eA hp hp:=λk st pd ats ps ok h=>⟨st,pd,h⟩
def eA.trans{a b c:List aa}(h:eA a b)(h':eA b c):eA a c:=λk st pd ats ps ok q=>by
 obtain⟨st',jx,q'⟩:=h k st pd ats ps ok q;exact h' k st' jx ats ps ok q'
def xy{l:List aa}:eA hp (hp++l):=λk st pd ats ps ok h=>⟨st,pd,aM h⟩
def vl{b':aa}(hk:hp[k]?=some b)(hb:∀st pd ats ps ok,b≠.aT st pd ats ps ok):eA hp (hp.set k b'):=λj st pd ats ps ok h=>by
 by_cases e:k=j;subst e;rw[hk] at h;cases h;exact(hb _ _ _ _ _ rfl).elim;exact⟨st,pd,aD6⟩
def Hi(h:(hp.map aW)[k]?=some b):∃b0,hp[k]?=some b0/\aW b0=b:=by
 rw[eC,cc] at h;exact h
def pF{cs:List U}{r:Bool}(h:(hp.map aW)[k]?=some (.cells cs r)):hp[k]?=some (.cells cs r):=by
 obtain⟨b,h1,h2⟩:=Hi h;cases b with
 |cells cs' r'=>cases h2;exact h1
 |obj o=>cases o<;>cases h2
 |_=>cases h2
def QT{s:Nat}(h:(hp.map aW)[k]?=some (.tok n s e)):hp[k]?=some (.tok n s e):=by
 obtain⟨b,h1,h2⟩:=Hi h;cases b with
 |tok n s e=>cases h2;exact h1
 |obj o=>cases o<;>cases h2
 |_=>cases h2
def Ze{es:List (U×U×Nat)}{bw:Nat}(h:(hp.map aW)[k]?=some (.cL es bw)):hp[k]?=some (.cL es bw):=by
 obtain⟨b,h1,h2⟩:=Hi h;cases b with
 |cL es bw=>cases h2;exact h1
 |obj o=>cases o<;>cases h2
 |_=>cases h2
def Zc{s:ByteArray}{p:Nat}(h:(hp.map aW)[k]?=some (.obj (.stringIter s p))):hp[k]?=some (.obj (.stringIter s p)):=by
 obtain⟨b,h1,h2⟩:=Hi h;cases b with
 |obj o=>cases o<;>cases h2;exact h1
 |_=>cases h2
def Zd{st:LoopState}{pd:Option Code}{ats:List U}{ps:Array Tmp}{ok:Code->Code->Prop}(h:(hp.map aW)[k]?=some (.aT st pd ats ps ok)):
  ∃jx GK ps' ok',hp[k]?=some (.aT st jx GK ps' ok')/\(st≠.busy->jx=pd):=by
 obtain⟨b,h1,h2⟩:=Hi h;cases b with
 |aT st' jx GK ps' ok'=>
  simp only[aW,aa.aT.injEq] at h2;obtain⟨rfl,h3,_⟩:=h2;exact⟨jx,GK,ps',ok',h1,λhne=>by cases st'<;>first|exact h3|exact(hne rfl).elim⟩
 |obj o=>cases o<;>cases h2
 |_=>cases h2
def bH(f:List aa->Option (U×List aa)):Prop:=∀hp v hE,f (hp.map aW)=some (v,hE)->∃hp',f hp=some (v,hp')/\hp'.map aW=hE/\eA hp hp'
def bH.const(x:Option U):bH λhp=>x.map λr=>(r,hp):=λhp v hE h=>by
 simp only[cc,uI] at h;obtain⟨r,h1,rfl,rfl⟩:=h;exact⟨hp,aC_,rfl,eA.refl hp⟩
def bH.bind(x:Option α){g:α->List aa->Option (U×List aa)}(hg:∀a,bH (g a)):bH λhp=>x.bind λa=>g a hp:=λhp v hE h=>by
 simp only[eY] at h;obtain⟨a,h1,h2⟩:=h;obtain⟨hp',q1,ah,aN⟩:=hg a hp v hE h2;exact⟨hp',by simp[h1,q1],ah,aN⟩
def bH.P6(x:Option α)(g:α->U):bH λhp=>x.map λa=>(g a,hp):=λhp v hE h=>by
 simp only[cc,uI] at h;obtain⟨a,h1,rfl,rfl⟩:=h;exact⟨hp,aC_,rfl,eA.refl hp⟩
def bH.push(x:Option α)(g:Nat->α->U)(b:α->aa)(hb:∀a,aW (b a)=b a):bH λhp=>x.map λa=>(g hp.length a,hp++[b a]):=λhp v hE h=>by
 simp only[cc,uI,b_] at h;obtain⟨a,h1,rfl,rfl⟩:=h;exact⟨hp++[b a],aC_,aDb,xy⟩
def bH.none:bH λ_=>none:=λhp v hE h=>aB1
def bH.some(x:U):bH λhp=>some (x,hp):=λhp v hE h=>by
 cases h;exact⟨hp,rfl,rfl,eA.refl hp⟩
def bH.read(g:List aa->Option U)(hg:∀hp x,g (hp.map aW)=.some x->g hp=.some x):bH λhp=>(g hp).map λr=>(r,hp):=λhp v hE h=>by
 simp only[cc,uI] at h;obtain⟨r,h1,rfl,rfl⟩:=h;exact⟨hp,by simp[hg hp r h1],rfl,eA.refl hp⟩
def bH.ite{c:Prop}[Decidable c]{f g:List aa->Option (U×List aa)}(hf:c->bH f)(hg:¬c->bH g):bH λhp=>if c then f hp else g hp:=λhp v hE h=>by
 dsimp only at h⊢;split at h;rename_i hc;rw[if_pos hc];exact hf hc hp v hE h;rename_i hc;rw[if_neg hc];exact hg hc hp v hE h
def bH.CZ(x:Nat->U)(b:aa)(hb:aW b=b):bH λhp=>Option.some (x hp.length,hp++[b]):=λhp v hE h=>by
 simp only[lG,uI,b_] at h;obtain⟨rfl,rfl⟩:=h;exact⟨hp++[b],rfl,aDb,xy⟩
def bH.avE(b:Nat->aa)(x:Nat->U)(hb:∀k,aW (b k)=b k):bH λhp=>Option.some (x hp.length,hp++[b hp.length]):=λhp v hE h=>by
 simp only[lG,uI,b_] at h;obtain⟨rfl,rfl⟩:=h;exact⟨hp++[b hp.length],rfl,aDb,xy⟩
def bH.setCells{r:Bool}{g:List U->Option (U×List U)}:bH λhp=>match hp[k]? with
  |.some (.cells cs r')=>if r'=r then(g cs).map λp=>(p.1,hp.set k (.cells p.2 r)) else .none
  |_=>.none:=λhp v hE h=>by
 dsimp only at h⊢;split at h;rename_i cs r' hk;have hk':=pF hk;rw[hk'];dsimp only;split at h;rename_i hr;rw[if_pos hr];simp only[cc,uI] at h;obtain⟨p,h1,rfl,rfl⟩:=h;refine⟨hp.set k (.cells p.2 r),aC_,aCu,vl hk' nofun⟩;cases h;cases h
def Xs{p:U}(h:aq (hp.map aW) aH n p=some c):aq hp aH n p=some c:=by
 unfold aq at h⊢;split at h;exact h;split at h;rename_i hk;rw[pF hk];exact h;cases h;split at h;rename_i hk;rw[pF hk];exact h;cases h;cases h
def alM{p:U}:bH λhp=>(aF hp n p x).map λhp'=>(gH,hp'):=λhp v hE h=>by
 simp only[cc,uI] at h;obtain⟨h1,q,rfl,rfl⟩:=h;have key:∀(k:Nat) (row:Bool) cs off,hp[k]?=some (.cells cs row)->dJ (hp.map aW) k row cs n off x=some h1->∃hp',dJ hp k row cs n off x=some hp'/\hp'.map aW=h1/\eA hp hp':=λk row cs off hk hs=>by
  unfold dJ at hs⊢;split at hs;rename_i hc;rw[if_pos hc];cases hs;exact⟨_,rfl,aCu,vl hk nofun⟩;cases hs
 unfold aF at q⊢;cases p with
 |mp k off=>
  simp only at q⊢;split at q;rename_i cs hk;rw[pF hk];obtain⟨hp',a,b,c⟩:=key _ _ _ _ (pF hk) q;exact⟨hp',by simp[a],b,c⟩;cases q
 |rp k m off=>
  simp only at q⊢;split at q;rename_i cs hk;rw[pF hk];simp only at q⊢;split at q;rename_i hm;rw[if_pos hm];obtain⟨hp',a,b,c⟩:=key _ _ _ _ (pF hk) q;exact⟨hp',by simp[a],b,c⟩;cases q;cases q
 |_=>cases q
def Qn{ys:List U}:bH λhp=>ga hp n aY e s ys:=λhp v hE h=>by
 dsimp only at h⊢;unfold ga at h⊢;cases s with
 |af=>
  simp only[b_] at h⊢;split at h;rename_i hl;rw[if_pos hl];cases h;exact⟨_,rfl,by simp[aW],xy⟩;cases h
 |rs k m sz off len=>
  simp only at h⊢;split at h;rename_i hl;rw[if_pos hl];split at h;rename_i cs hk;rw[pF hk];simp only at h⊢;split at h;rename_i hm;rw[if_pos hm];cases h;exact⟨_,rfl,aCu,vl (pF hk) nofun⟩;cases h;cases h;cases h
 |sl xs t=>
  simp only at h⊢;split at h;rename_i hl;rw[if_pos hl];cases t with
  |exact=>
   simp only[b_] at h⊢;cases h;exact⟨_,rfl,by simp[aW],xy⟩
  |no=>cases h
  |tok id=>
   simp only at h⊢;split at h;rename_i c s' e' hk;rw[QT hk];simp only at h⊢;split at h;rename_i hm;rw[if_pos hm];cases h;exact⟨_,rfl,aCu,vl (QT hk) nofun⟩;cases h;cases h
  cases h
 |_=>cases h
def Yy:bH λhp=>e9 hp n aY e s x:=λhp v hE h=>by
 dsimp only at h⊢;unfold e9 at h⊢;cases Ci:contents x with
 |none=>rw[Ci] at h;cases h
 |some ys=>
  rw[Ci] at h;simp only at h⊢;by_cases hy:ys=[];rw[if_pos hy] at h⊢
  split at h<;>first|(cases h;exact⟨hp,rfl,rfl,eA.refl hp⟩)|cases h
  rw[if_neg hy] at h⊢;split at h;rename_i hc;rw[if_pos hc];exact Qn hp v hE h;cases h
def alD:bH λhp=>cG hp n aY e s x:=by
 unfold cG;cases s with
 |rs _ _ _ _ _=>exact bH.none
 |_=>exact Yy
def alF:bH λhp=>yo hp aY e s x:=λhp v hE h=>by
 dsimp only at h⊢;unfold yo at h⊢;split at h;rename_i b;by_cases h0:b.size=0;rw[if_pos h0] at h⊢
 split at h<;>first|(cases h;exact⟨hp,rfl,rfl,eA.refl hp⟩)|cases h
 rw[if_neg h0] at h⊢;split at h;split at h;rename_i q;simp only[if_pos q];exact Qn hp v hE h;cases h;split at h;rename_i q;simp only[if_pos q];exact Qn hp v hE h;cases h;cases h;cases h
def alE:bH λhp=>mb hp n aY e s x:=by
 unfold mb;cases s with
 |af=>
  simp only;cases contents x with
  |none=>exact bH.none
  |some ys=>
   simp only;exact bH.ite (λ_=>bH.some _) λ_=>bH.ite (λ_=>bH.CZ (λk=>.rs k (flat ys).length n 0 ys.length) _ rfl) λ_=>bH.none
 |_=>exact Yy
def alA{vs:List U}:bH λhp=>wC hp n vs:=by
 unfold wC;exact bH.ite (λ_=>bH.CZ (λk=>.rs k (flat vs).length n 0 vs.length) _ rfl) λ_=>bH.none
def alB:bH λhp=>zL hp n aY z l c:=by
 unfold zL;split;exact bH.ite (λ_=>bH.CZ (λk=>.rs k _ n 0 _) _ rfl) λ_=>bH.none;exact bH.none
def alC:bH λhp=>BM hp n aY e z l c:=by
 unfold BM;split;exact bH.ite (λ_=>bH.CZ (λk=>.sl [] (.tok k)) _ rfl) λ_=>bH.none;exact bH.none
def alH:bH λhp=>Mz v hp:=by
 unfold Mz;split;exact bH.CZ (λk=>.eN k) _ rfl;exact bH.none
def alL:bH λhp=>pe hp v:=λhp u hE h=>by
 dsimp only at h⊢;unfold pe at h⊢;split at h;rename_i k;split at h;rename_i s pos hk;rw[Zc hk];simp only;split at h;rename_i hl;rw[if_pos hl];cases h;exact⟨_,rfl,aCu,vl (Zc hk) nofun⟩;rename_i hl;rw[if_neg hl];cases h;exact⟨_,rfl,rfl,eA.refl hp⟩;cases h;cases h
def IS{r:Nat×List (U×U×Nat)×Nat}(h:pT (hp.map aW) m=some r):pT hp m=some r/\hp[r.1]?=some (.cL r.2.1 r.2.2):=by
 unfold pT at h⊢;split at h;rename_i k;split at h;rename_i es bw hk;rw[Ze hk];cases h;exact⟨rfl,Ze hk⟩;cases h;cases h
def akf{z:U}{ok:Bool}(h:tw (hp.map aW) aH ks z ok m key=some x):tw hp aH ks z ok m key=some x:=by
 unfold tw at h⊢;split at h;rename_i k es bw hm;rw[(IS hm).1];exact h;cases h
def akm(h:zK (hp.map aW) m=some x):zK hp m=some x:=by
 unfold zK at h⊢;split at h;rename_i k es bw hm;rw[(IS hm).1];exact h;cases h
def alK:bH λhp=>(uY hp aH ks m key x).map λhp'=>(gH,hp'):=λhp v hE h=>by
 simp only[cc,uI] at h;obtain⟨h1,q,rfl,rfl⟩:=h;dsimp only;unfold uY at q⊢;split at q;rename_i k es bw hm;obtain⟨m1,m2⟩:=IS hm;rw[m1];simp only;split at q;rename_i hc;rw[if_pos hc];split at q;cases q;exact⟨_,rfl,aCu,vl m2 nofun⟩;cases q;exact⟨_,rfl,aCu,vl m2 nofun⟩;cases q;cases q;cases q
def alJ{z:U}:bH λhp=>D7 hp aH ks z m key:=λhp v hE q=>by
 dsimp only at q⊢;unfold D7 at q⊢;split at q;rename_i k es bw hm;obtain⟨m1,m2⟩:=IS hm;rw[m1];simp only;split at q;rename_i hc;rw[if_pos hc];split at q;cases q;exact⟨_,rfl,aCu,vl m2 nofun⟩;cases q;exact⟨_,rfl,aCu,vl m2 nofun⟩;cases q;cases q;cases q
def alG{st:U}:bH λhp=>(D6 hp m st x).map λhp'=>(gH,hp'):=λhp v hE h=>by
 simp only[cc,uI] at h;obtain⟨h1,q,rfl,rfl⟩:=h;dsimp only;unfold D6 at q⊢;split at q;rename_i k es bw _ n hm;obtain⟨m1,m2⟩:=IS hm;rw[m1];simp only;split at q;cases q;exact⟨_,rfl,aCu,vl m2 nofun⟩;cases q;cases q
def alI:bH λhp=>bO v hp:=by
 unfold bO;split;exact bH.none;exact bH.const _
def Yz{e:Env}{o:kK}:bH λhp=>bx e hp o:=by
 cases o<;>simp only[bx]
 case mv x=>exact bH.const _
 case pick c a b=>exact bH.bind _ λc=>bH.const _
 case alloc z=>exact bH.CZ (λk=>.mp k 0) _ rfl
 case wF t z=>exact bH.avE (λk=>.cells (.fL k t::z) false) (λk=>.mp k 0) λ_=>rfl
 case box x=>exact bH.push _ (λk _=>.mp k 0) (λr:U=>.cells r.cells false) λ_=>rfl
 case build z ps=>exact bH.bind _ λl=>bH.P6 _ _
 case wL n vs=>exact bH.bind _ λl=>bH.const _
 case eG aH n x=>exact bH.bind _ λx=>bH.read (λhp=>aq hp aH n x) λhp y h=>Xs h
 case st n p x=>exact bH.bind _ λp=>bH.bind _ λx=>alM
 case app n aY ty s x=>exact bH.bind _ λs=>bH.bind _ λx=>alD
 case xB f a b=>exact bH.bind _ λa=>bH.P6 _ _
 case tE n vs=>exact bH.bind _ λl=>alA
 case yq n aY ty s x=>exact bH.bind _ λs=>bH.bind _ λx=>alE
 case wJ aY ty s x=>exact bH.bind _ λs=>bH.bind _ λx=>alF
 case xD n aY ty z l c=>exact bH.bind _ λl=>bH.bind _ λc=>alB
 case yU n aY ty z l c=>exact bH.bind _ λl=>bH.bind _ λc=>alC
 case yS t x=>exact bH.P6 _ _
 case iter x=>exact bH.bind _ λx=>alH
 case next x=>exact bH.bind _ λx=>alL
 case yT=>exact bH.CZ (λk=>.ey k) _ rfl
 case AM x=>exact bH.bind _ λx=>bH.read (λhp=>zK hp x) λhp y h=>akm h
 case yP aH ks z ok m k=>exact bH.bind _ λm=>bH.bind _ λk=>bH.read (λhp=>tw hp aH ks z ok m k) λhp y h=>akf h
 case ud aH ks m k x=>exact bH.bind _ λm=>bH.bind _ λk=>bH.bind _ λx=>alK
 case xA aH ks z m k=>exact bH.bind _ λm=>bH.bind _ λk=>alJ
 case z7 m st x=>exact bH.bind _ λm=>bH.bind _ λst=>bH.bind _ λx=>alG
 case len x=>exact bH.bind _ λx=>alI
 case oP x=>
  refine bH.bind _ λx=>?_;unfold oP;split;exact bH.some _;exact bH.none
 case slc n x lo hi mx=>
  refine bH.bind _ λx=>bH.bind _ λlo=>bH.bind _ λhi=>bH.bind _ λmx=>?_;unfold p0;split;exact bH.none;exact bH.const _
 case uu x lo hi=>
  refine bH.bind _ λx=>bH.bind _ λlo=>bH.bind _ λhi=>?_;unfold Dq;split;exact bH.const _;exact bH.none
 all_goals first
  |exact bH.bind _ λ_=>bH.const _
  |exact bH.bind _ λ_=>bH.bind _ λ_=>bH.const _
end
section
variable{n sz:Nat}{cs:List U}{hp:List aa}{x:U}
def iu{α β:Type}(f:α->Option β):List α->Option (List β)
 |[]=>some []
 |x::r=>match f x with
  |some y=>match iu f r with
   |some l=>some (y::l)
   |none=>none
  |none=>none
def vo{α β:Type}{f:α->Option β}:∀{l:List α} {r:List β},iu f l=some r->r.length=l.length/\∀(i:Nat) x y,l[i]?=some x->r[i]?=some y->f x=some y
 |[],r,h=>by cases h;exact⟨rfl,λi x y hx=>aB2⟩
 |a::l,r,h=>by
  simp only[iu] at h;split at h;rename_i y hy;split at h;rename_i l' hl;cases h;obtain⟨h1,h2⟩:=vo hl;refine⟨aC_,λi x z hx hz=>?_⟩;cases i with
  |zero=>simp at hx hz;subst hx;subst hz;exact hy
  |succ i=>simp at hx hz;exact h2 i x z hx hz
  cases h;cases h
def chunks(sz:Nat)(cs:List U)(off:Nat):Nat->List U
 |0=>[]
 |n+1=>.agg ((cs.drop off).take sz)::chunks sz cs (off+sz) n
def Yr:∀{n off i:Nat},i<n->(chunks sz cs off n)[i]?=some (.agg ((cs.drop (off+i*sz)).take sz))
 |n+1,off,0,_=>by simp[chunks]
 |n+1,off,i+1,h=>by
  simp only[chunks,v8];rw[Yr aBH,show off+sz+i*sz=off+(i+1)*sz by rw[qR];omega]
def K6:∀{n off:Nat},(chunks sz cs off n).length=n
 |0,off=>rfl
 |n+1,off=>by simp[chunks,K6]
def b9(hp:List aa):Nat->U->Option U
 |0,_=>none
 |n+1,x=>match x with
  |.v x=>some (.v x)
  |.af=>some .af
  |.agg cs=>(iu (b9 hp n) cs).map .agg
  |.aK cs=>(iu (b9 hp n) cs).map .aK
  |.sl xs _=>(iu (b9 hp n) xs).map λys=>.sl ys .no
  |.fp cs off=>(iu (b9 hp n) cs).map λds=>.fp ds off
  |.cQ t x=>(b9 hp n x).map (.cQ t)
  |.fn f a b=>(iu (b9 hp n) a).bind λa=>(iu (b9 hp n) b).map λb=>.fn f a b
  |.mp k off=>match hp[k]? with
   |some (.cells cs false)=>(iu (b9 hp n) cs).map λds=>.fp ds off
   |_=>none
  |.rp k m off=>match hp[k]? with
   |some (.cells cs true)=>if m=cs.length then(iu (b9 hp n) cs).map λds=>.fp ds off else none
   |_=>none
  |.rs k m sz off len=>match hp[k]? with
   |some (.cells cs true)=>if m=cs.length then(iu (b9 hp n) cs).map λds=>.sl (chunks sz ds off len) .no else none
   |_=>none
  |_=>none
def alf{y:U}(h:b9 hp n x=some y)(hx:∀cs,x≠.agg cs):y.cells=[y]:=by
 cases n with
 |zero=>cases h
 |succ n=>
  unfold b9 at h;cases x<;>simp only at h
  case agg cs=>exact(hx cs rfl).elim
  case v x=>cases h;rfl
  case af=>cases h;rfl
  case mp k off=>split at h<;>first|cases h;done|(simp only[cc] at h;obtain⟨_,_,rfl⟩:=h;rfl)
  case rp k m off=>split at h<;>first|cases h;done|(split at h<;>first|cases h;done|(simp only[cc] at h;obtain⟨_,_,rfl⟩:=h;rfl))
  case rs k m sz off len=>split at h<;>first|cases h;done|(split at h<;>first|cases h;done|(simp only[cc] at h;obtain⟨_,_,rfl⟩:=h;rfl))
  case fn f a b=>
   simp only[eY,cc] at h;obtain⟨_,_,_,_,rfl⟩:=h;rfl
  all_goals first
   |(cases h;done)
   |(simp only[cc] at h;obtain⟨_,_,rfl⟩:=h;rfl)
def LR{C aC:Cells}{M:List Loc}{vj:List aa}(hC:∀b o v,C b o=some v->aC b o=some v)
  (hm:∀(k:Nat) cs row L,vj[k]?=some (.cells cs row)->M[k]?=some L->∀(i:Nat) c,cs[i]?=some c->∃c',aC L.b i=some c'/\aI C M hp c c') (hz:∀(k:Nat) cs row,vj[k]?=some (.cells cs row)->hp[k]?=some (.cells cs row)):
  ∀{n:Nat} {x r:U} {v:Value},b9 vj n x=some r->aI C M hp x v->aI aC [] [] r v:=by
 intro n
 induction n with
 |zero=>intro x r v h;cases h
 |succ n ih=>
  intro x r v h hr;have aeV:∀{cs ds:List U} {f:Nat->Value},iu (b9 vj n) cs=some ds->(∀(i:Nat) c,cs[i]?=some c->aI C M hp c (f i))->∀(i:Nat) d,ds[i]?=some d->∃c,cs[i]?=some c/\aI aC [] [] d (f i):=by
   intro cs ds f hm' hR i d hd;obtain⟨e1,e2⟩:=vo hm';have hi:i<cs.length:=by rw[<-e1];exact(bE.1 hd).1
   exact⟨cs[i],br hi,ih (e2 i _ _ (br hi) hd) (hR i _ (br hi))⟩
  have blk:∀{k:Nat} {cs ds:List U} {row:Bool} {L:Loc},vj[k]?=some (.cells cs row)->M[k]?=some L->iu (b9 vj n) cs=some ds->∀off,aI aC [] [] (.fp ds off) (.pointer (some ⟨L.b,off,none⟩))/\∀(i:Nat) d,ds[i]?=some d->∃c',aC L.b i=some c'/\aI aC [] [] d c':=by
   intro k cs ds row L hk hM hm' off;obtain⟨e1,e2⟩:=vo hm';have key:∀(i:Nat) d,ds[i]?=some d->∃c',aC L.b i=some c'/\aI aC [] [] d c':=by
    intro i d hd;have hi:i<cs.length:=by rw[<-e1];exact(bE.1 hd).1
    obtain⟨c',q1,ah⟩:=hm k cs row L hk hM i cs[i] (br hi);exact⟨c',q1,ih (e2 i _ _ (br hi) hd) ah⟩
   refine⟨?_,key⟩;have:=aI.fp (C:=aC) (M:=[]) (hp:=[]) (cs:=ds) (off:=off) (b:=L.b) (o:=0) (λi=>(aC L.b i).getD undef) (λi d hd=>by
    obtain⟨c',q1,_⟩:=key i d hd;rw[e5,q1];rfl) (λi d hd=>by
    obtain⟨c',q1,ah⟩:=key i d hd;rw[q1];exact ah)
   simpa using this
  unfold b9 at h;cases hr with
  |v hp'=>simp only at h;cases h;exact .v hp'
  |af=>simp only at h;cases h;exact .af
  |agg hl hh=>
   rename_i cs cs';simp only[cc] at h;obtain⟨ds,h1,rfl⟩:=h;obtain⟨e1,e2⟩:=vo h1;refine .agg aBH λi a b ha hb=>?_;have hi:i<cs.length:=by rw[<-e1];exact(bE.1 ha).1
   exact ih (e2 i _ _ (br hi) ha) (hh i _ b (br hi) hb)
  |aK hl hh=>
   rename_i cs cs';simp only[cc] at h;obtain⟨ds,h1,rfl⟩:=h;obtain⟨e1,e2⟩:=vo h1;refine .aK aBH λi a b ha hb=>?_;have hi:i<cs.length:=by rw[<-e1];exact(bE.1 ha).1
   exact ih (e2 i _ _ (br hi) ha) (hh i _ b (br hi) hb)
  |sl f hsp hsz Ca hR hT hcap=>
   rename_i xs t a cap sz;simp only[cc] at h;obtain⟨ys,h1,rfl⟩:=h;obtain⟨e1,e2⟩:=vo h1;have el:∀(i:Nat) y,ys[i]?=some y->∃x,xs[i]?=some x/\y.cells.length=x.cells.length/\∀(j:Nat) d,y.cells[j]?=some d->∃c,x.cells[j]?=some c/\aI aC [] [] d (f i j):=by
    intro i y hy;have hi:i<xs.length:=by rw[<-e1];exact(bE.1 hy).1
    have hx:=br hi;have hf:=e2 i _ _ hx hy;refine⟨xs[i],hx,?_⟩;by_cases hag:∃cs,xs[i]=.agg cs;obtain⟨cs,hcs⟩:=hag;rw[hcs] at hf hx⊢;cases n with
    |zero=>cases hf
    |succ n=>
     unfold b9 at hf;simp only[cc] at hf;obtain⟨ds,q1,rfl⟩:=hf;obtain⟨g1,g2⟩:=vo q1;refine⟨g1,λj d hd=>?_⟩;have hj:j<cs.length:=by rw[<-g1];exact(bE.1 hd).1
     refine⟨cs[j],br hj,?_⟩;have:=g2 j _ _ (br hj) hd;have up:b9 vj (n+1) (.agg [cs[j]])=some (.agg [d]):=by
      unfold b9;simp[iu,this]
     have fN:aI C M hp (.agg [cs[j]]) (.agg #[f i j]):=.agg rfl λi' a b ha hb=>by
      cases i' with
      |zero=>simp at ha hb;subst ha;subst hb;exact hR i _ j _ hx (br hj)
      |succ i'=>simp at ha
     have:=ih up fN;cases this with
     |agg hl hh=>exact hh 0 d (f i j) rfl rfl
    have hna:=λcs hcs=>hag ⟨cs,hcs⟩;have aqc:=alf hf hna;have CA:(xs[i]).cells=[xs[i]]:=by
     cases EW:xs[i] with
     |agg cs=>exact(hna cs EW).elim
     |_=>rfl
    rw[aqc,CA];refine⟨rfl,λj d hd=>?_⟩;cases j with
    |zero=>
     simp at hd;subst hd;exact⟨xs[i],rfl,ih hf (hR i _ 0 _ hx (by rw[CA];rfl))⟩
    |succ j=>simp at hd
   rw[<-e1];refine .sl (sz:=sz) f (λhne=>hsp (by intro e;subst e;simp at e1;exact hne e1)) (λi y hy=>?_) (λi y j d hy hd=>?_) (λi y j d hy hd=>?_) trivial (by rw[e1];exact hcap);obtain⟨x,hx,q1,_⟩:=el i y hy;rw[q1];exact hsz i x hx;obtain⟨x,hx,_,ah⟩:=el i y hy;obtain⟨c,hc,_⟩:=ah j d hd;exact hC _ _ _ (Ca i x j c hx hc);obtain⟨x,hx,_,ah⟩:=el i y hy;obtain⟨c,hc,fN⟩:=ah j d hd;exact fN
  |fp f Ca hR=>
   simp only[cc] at h;obtain⟨ds,h1,rfl⟩:=h;refine .fp f (λi d hd=>?_) λi d hd=>?_;obtain⟨c,hc,_⟩:=aeV h1 hR i d hd;exact hC _ _ _ (Ca i c hc);obtain⟨c,_,q⟩:=aeV h1 hR i d hd;exact q
  |cQ hx=>
   simp only[cc] at h;obtain⟨y,h1,rfl⟩:=h;exact .cQ (ih h1 hx)
  |fn hlf hlc hf hc=>
   rename_i f fs cs fs' cs';simp only[eY,cc] at h;obtain⟨a,h1,b,h2,rfl⟩:=h;obtain⟨e1,e2⟩:=vo h1;obtain⟨g1,g2⟩:=vo h2;refine .fn aBH aBH (λi x y hx hy=>?_) λi x y hx hy=>?_;have hi:i<fs.length:=by rw[<-e1];exact(bE.1 hx).1
   exact ih (e2 i _ _ (br hi) hx) (hf i _ y (br hi) hy);have hi:i<cs.length:=by rw[<-g1];exact(bE.1 hx).1
   exact ih (g2 i _ _ (br hi) hx) (hc i _ y (br hi) hy)
  |mp hb hM=>
   simp only at h;split at h;rename_i cs hk;simp only[cc] at h;obtain⟨ds,h1,rfl⟩:=h;exact(blk hk hM h1 _).1;cases h
  |rp hb hM hn ha=>
   simp only at h;split at h;rename_i cs hk;split at h;rename_i hmn;simp only[cc] at h;obtain⟨ds,h1,rfl⟩:=h;have hk':=hz _ _ _ hk;rw[hb] at hk';cases hk';rw[ha hmn];exact(blk hk hM h1 _).1;cases h;cases h
  |rs hb hM hn hlc ha=>
   rename_i k nn sz off len cap L cs0 a;simp only at h;split at h;rename_i cs hk;split at h;rename_i hmn;simp only[cc] at h;obtain⟨ds,h1,rfl⟩:=h;have hk':=hz _ _ _ hk;rw[hb] at hk';cases hk';obtain⟨a1,a2,a3,a4⟩:=ha hmn;rw[a1];obtain⟨_,hcell⟩:=blk hk hM h1 0;have aoK:=(vo h1).1;have hge:∀(i:Nat) x,(chunks sz ds off len)[i]?=some x->i<len/\x=.agg ((ds.drop (off+i*sz)).take sz):=by
    intro i x hx;have hi:i<len:=by have:=(bE.1 hx).1;rwa [K6] at this
    rw[Yr hi] at hx;exact⟨hi,(mL hx).symm⟩
   have hin:∀i,i<len->off+i*sz+sz<=ds.length:=by
    intro i hi;have:(i+1)*sz<=len*sz:=mK _ hi;rw[qR] at this;omega
   have hel:∀(i:Nat) x (j:Nat) c,(chunks sz ds off len)[i]?=some x->x.cells[j]?=some c->ds[off+i*sz+j]?=some c:=by
    intro i x j c hx hc;obtain⟨hi,rfl⟩:=hge i x hx;simp only[gm] at hc;have hj:j<sz:=by have:=(bE.1 hc).1;simp at this;omega
    rw[zp hj,qd] at hc;exact hc
   have:=aI.sl (C:=aC) (M:=[]) (hp:=[]) (xs:=chunks sz ds off len) (t:=.no) (a:=⟨L.b,off,none⟩) (cap:=cap) (sz:=sz) (λi j=>(aC L.b (off+i*sz+j)).getD undef) (λ_=>rfl) (λi x hx=>by
    obtain⟨hi,rfl⟩:=hge i x hx;have:=hin i hi;simp only[gm,zu,v_];omega) (λi x j c hx hc=>by
    obtain⟨c',q1,ah⟩:=hcell _ _ (hel i x j c hx hc);dsimp only;rw[q1];rfl) (λi x j c hx hc=>by
    obtain⟨c',q1,ah⟩:=hcell _ _ (hel i x j c hx hc);rw[q1];exact ah) trivial (by rw[K6];exact hlc)
   rw[K6] at this;exact this;cases h;cases h
  |eN hb hM=>cases h
  |ey hb hM=>cases h
  |gk hb hM=>cases h
  |fL hb hM=>cases h
def am3{r:U}(h:b9 [] n x=some r):lI x r:=λC M hp v hr=>LR (vj:=[]) (λ_ _ _ q=>q) (λk cs row L hk=>aD2) (λk cs row hk=>aD2) h hr
def Q_{as bs:List U}(h:iu (b9 [] n) as=some bs):mN as bs:=by
 obtain⟨e1,e2⟩:=vo h;exact⟨e1.symm,λi a b ha hb=>am3 (e2 i a b ha hb)⟩
def ef{G:Cells}{P:Program}{f:FuncId}{args:List U}{aQ:U}(h:aE G P f args [] λr hp'=>∃n,b9 hp' n r=some aQ):ck G P f args aQ:=
 ⟨h.1,λC w args' hg hc hr=>(h.2 w.heap.size ⟨w,C⟩ C [] w args' (ahf hg hc) hr).mono λe w' ⟨aC,M',hp',r,v',⟨n,hfz⟩,he,hle,cz,fN⟩=>by
  refine⟨λb o=>match aC b o with
   |some v=>some v
   |none=>if w.heap.size<=b then w'.cell? ⟨b,o,none⟩ else none,v',he,λb o v q=>?_,λb o v q=>?_,λb o v q=>?_,cz.below,?_,trivial⟩
  simp only[hle.C b o v q];dsimp only at q;split at q;rename_i u hu;cases q
  rcases cE b w.heap.size with hb|hb
  exact ay (cz.old b o v hu hb);exact ax hb;split at q;rename_i hb;exact ax hb;cases q;dsimp only at q;split at q;rename_i u hu;cases q;exact cz.ld b o v hu;split at q;exact q;cases q;refine LR (hp:=hp') (vj:=hp') (λb o v q=>by simp only[q]) (λk cs row L hk hM i c hc=>?_) (λ_ _ _ q=>q) hfz fN;obtain⟨h1,h2,h3,h4,h5,h6⟩:=cz.cells k cs row L hk hM;obtain⟨c',q1,ah⟩:=h3 i c hc;refine⟨c',?_,ah⟩;simp only[h5 i];rw[if_pos h1];exact q1⟩
end
section
variable{α:Type}{k n:Nat}{x:U}{v:Value}{hp:List aa}{f:FuncId}{args:List U}
inductive jX(n:Nat):U->Prop
 |v {x:Value}:jX n (.v x)
 |agg {cs:List U} (h:∀(i:Nat) c,cs[i]?=some c->jX n c):jX n (.agg cs)
 |aK {cs:List U} (h:∀(i:Nat) c,cs[i]?=some c->jX n c):jX n (.aK cs)
 |af:jX n .af
 |sl {xs:List U} {t:iD} (ht:∀id,t=.tok id->id<n) (h:∀(i:Nat) x (j:Nat) c,xs[i]?=some x->x.cells[j]?=some c->jX n c):jX n (.sl xs t)
 |fp {cs:List U} {off:Nat} (h:∀(i:Nat) c,cs[i]?=some c->jX n c):jX n (.fp cs off)
 |mp {k off:Nat} (h:k<n):jX n (.mp k off)
 |rp {k m off:Nat} (h:k<n):jX n (.rp k m off)
 |rs {k m sz off len:Nat} (h:k<n):jX n (.rs k m sz off len)
 |eN {k:Nat} (h:k<n):jX n (.eN k)
 |eW {ch:List PanicEntry}:jX n (.eW ch)
 |fn {f:Fn} {fs cs:List U} (h1:∀(i:Nat) c,fs[i]?=some c->jX n c) (h2:∀(i:Nat) c,cs[i]?=some c->jX n c):jX n (.fn f fs cs)
 |cQ {t:TypeId} {x:U} (h:jX n x):jX n (.cQ t x)
 |ey {k:Nat} (h:k<n):jX n (.ey k)
 |gk {k:Nat} (h:k<n):jX n (.gk k)
 |fL {k:Nat} {t:TypeId×Nat} (h:k<n):jX n (.fL k t)
section
variable{G:Cells}{P:Program}{C:Cells}{M:List Loc}{hp:List aa}
def nA{l:List α}{x:α}(h:l[k]?=some x):k<l.length:=(bE.1 h).1
def Lz{l:List U}{a:Array α}(hl:l.length=a.size){i:Nat}{c:U}(hc:l[i]?=some c):∃b,a[i]?=some b:=⟨_,sX (by rw[<-hl];exact nA hc)⟩
def aI.low(h:aI C M hp x v):jX hp.length x:=by
 induction h with
 |v h=>exact .v
 |agg hl h ih=>
  refine .agg λi c hc=>?_;obtain⟨b,hb⟩:=Lz hl hc;exact ih i c b hc hb
 |aK hl h ih=>
  refine .aK λi c hc=>?_;obtain⟨b,hb⟩:=Lz hl hc;exact ih i c b hc hb
 |af=>exact .af
 |sl f hsp hsz hC hR hT hcap ih=>
  refine .sl (λid e=>?_) ih;subst e;obtain⟨n,s,ty,L,q1,_⟩:=hT;exact nA q1
 |fp f hC hR ih=>exact .fp ih
 |mp hb hM=>exact .mp (nA hb)
 |rp hb hM hn ha=>exact .rp (nA hb)
 |rs hb hM hn hlc ha=>exact .rs (nA hb)
 |eN hb hM=>exact .eN (nA hb)
 |fn hlf hlc hf hc CE CD=>
  refine .fn (λi c h=>?_) λi c h=>?_;obtain⟨b,hb⟩:=Lz hlf h;exact CE i c b h hb;obtain⟨b,hb⟩:=Lz hlc h;exact CD i c b h hb
 |cQ h ih=>exact .cQ ih
 |ey hb hM=>exact .ey (nA hb)
 |gk hb hM=>exact .gk (nA hb)
 |fL hb hM=>exact .fL (nA hb)
def jz{l:List α}(h:k<n):(l.take n)[k]?=l[k]? :=by
 rw[OU];simp[h]
def aI.ayH(h:aI C M hp x v):jX n x->aI C (M.take n) (hp.take n) x v:=by
 induction h with
 |v h=>intro _;exact .v h
 |agg hl h ih=>intro hL;cases hL with|agg q=>exact .agg hl λi a b ha hb=>ih i a b ha hb (q i a ha)
 |aK hl h ih=>intro hL;cases hL with|aK q=>exact .aK hl λi a b ha hb=>ih i a b ha hb (q i a ha)
 |af=>intro _;exact .af
 |sl f hsp hsz hC hR hT hcap ih=>
  intro hL;cases hL with
  |sl ht q=>
   refine .sl f hsp hsz hC (λi x j c hx hc=>ih i x j c hx hc (q i x j c hx hc)) ?_ hcap;rename_i xs t a cap sz;cases t with
   |exact=>exact hT
   |no=>exact hT
   |tok id=>
    have hid:=ht id rfl;obtain⟨n',s,ty,L,q1,ah,aN⟩:=hT;exact⟨n',s,ty,L,by rw[jz hid];exact q1,by rw[jz hid];exact ah,aN⟩
 |fp f hC hR ih=>intro hL;cases hL with|fp q=>exact .fp f hC λi c hc=>ih i c hc (q i c hc)
 |mp hb hM=>intro hL;cases hL with|mp q=>exact .mp aCw aCx
 |rp hb hM hn ha=>intro hL;cases hL with|rp q=>exact .rp aCw aCx hn ha
 |rs hb hM hn hlc ha=>intro hL;cases hL with|rs q=>exact .rs aCw aCx hn hlc ha
 |eN hb hM=>intro hL;cases hL with|eN q=>exact .eN aCw aCx
 |fn hlf hlc hf hc CE CD=>intro hL;cases hL with|fn q1 ah=>exact .fn hlf hlc (λi a b ha hb=>CE i a b ha hb (q1 i a ha)) λi a b ha hb=>CD i a b ha hb (ah i a ha)
 |cQ h ih=>intro hL;cases hL with|cQ q=>exact .cQ (ih q)
 |ey hb hM=>intro hL;cases hL with|ey q=>exact .ey aCw aCx
 |gk hb hM=>intro hL;cases hL with|gk q=>exact .gk aCw aCx
 |fL hb hM=>intro hL;cases hL with|fL q=>exact .fL aCw aCx
def mask(n:Nat)(hp:List aa):List aa:=dL n (.tok 0 0 0)++hp.drop n
def ae4{cs:List U}{r:Bool}(h:(mask n hp)[k]?=some (.cells cs r)):n<=k/\hp[k]?=some (.cells cs r):=by
 unfold mask at h
 rcases cE k n with q|q
 rw[ei aBN] at h;rw[List.getElem?_replicate] at h;split at h<;>simp at h;rw[er aBN] at h;simp only[List.length_replicate,qd] at h;exact⟨q,by rw[<-h];congr 1;omega⟩
def auj(n:Nat)(hp:List aa):mask n (hp.map aW)=(mask n hp).map aW:=by
 unfold mask;rw[eX,List.map_replicate,List.map_drop];rfl
def QS{b b':aa}(h:aW b=aW b'):(b'=b\/(∃st pd ats ps ok,b=.aT st pd ats ps ok)\/(∃c c',b=.obj (.deferred c)/\b'=.obj (.deferred c'))):=by
 cases b with
 |cells cs r=>cases b' with
  |cells cs' r'=>left;exact h.symm
  |obj o=>cases o<;>cases h
  |_=>cases h
 |tok n s e=>cases b' with
  |tok n' s' e'=>left;exact h.symm
  |obj o=>cases o<;>cases h
  |_=>cases h
 |cL es bw=>cases b' with
  |cL es' iH=>left;exact h.symm
  |obj o=>cases o<;>cases h
  |_=>cases h
 |aT st pd ats ps ok=>right;left;exact⟨_,_,_,_,_,rfl⟩
 |obj o=>
  cases o with
  |deferred c=>cases b' with
   |obj o'=>cases o'<;>first|(right;right;exact⟨_,_,rfl,rfl⟩)|cases h
   |_=>cases h
  |_=>cases b' with
   |obj o'=>left;cases o'<;>first|exact h.symm|cases h
   |_=>cases h
def aE.Yw{Q:U->List aa->Prop}(h:aE G P f args hp λr hp'=>(hp'.map aW).take hp.length=hp.map aW/\eA hp hp'/\∃n aQ,b9 (mask hp.length hp') n r=some aQ/\Q aQ (hp'.take hp.length)):
  aE G P f args hp λr hp'=>Q r hp':=by
 classical
 refine⟨h.1,λbase w0 C M w args' hs hr=>(h.2 base w0 C M w args' hs hr).mono ?_⟩;rintro e w' ⟨aC,M',hp',r,v',⟨hsame,hkeep,n,aQ,hfz,hq⟩,he,hle,cz,fN⟩;have hN:=hle.length;have aAA:=hs.dK;have an_:=cz.dK
 let aqO:Nat->Prop:=λb=>∃(k:Nat) (L:Loc),hp.length<=k/\M'[k]?=some L/\L.b=b
 let oZ:Cells:=λb o=>match aC b o with
  |some v=>some v
  |none=>if aqO b then w'.cell? ⟨b,o,none⟩ else none
 have Ae:∀b o v,aC b o=some v->oZ b o=some v:=λb o v q=>by simp only[oZ,q]
 have hlow:∀{k:Nat} {b:aa},hp[k]?=some b->∃b',hp'[k]?=some b'/\aW b=aW b':=λ{k b} hb=>by
  have hk:=nA hb;have:((hp'.map aW).take hp.length)[k]?=(hp.map aW)[k]? :=by rw[hsame]
  rw[jz hk,eC,eC,hb] at this;cases hb':hp'[k]? with
  |none=>rw[hb'] at this;cases this
  |some b'=>rw[hb'] at this;exact⟨b',rfl,by simpa using this.symm⟩
 have RN:∀{k:Nat} {cs:List U} {fz:Bool},k<hp.length->hp'[k]?=some (.cells cs fz)->hp[k]?=some (.cells cs fz):=λ{k cs fz} hk hb'=>by
  obtain⟨b,hb⟩:∃b,hp[k]?=some b:=⟨_,br hk⟩;obtain⟨b2,h1,h2⟩:=hlow hb;rw[hb'] at h1;cases h1
  rcases QS h2 with q|⟨_,_,_,_,_,q⟩|⟨_,_,_,q⟩
  rw[hb,q];rw[q] at h2;cases h2;cases q
 have Ex:∀{k:Nat},k<hp.length->M'[k]?=M[k]? :=λ{k} hk=>by
  obtain⟨b,hb⟩:∃b,hp[k]?=some b:=⟨_,br hk⟩;obtain⟨b2,h1,h2⟩:=hlow hb;cases b with
  |cells cs fz=>
   obtain⟨cs',q1,_,aN,_⟩:=hle.cells k cs fz hb;have:=RN hk q1;rw[hb] at this;cases this;exact aN λ_=>rfl
  |tok n s ty=>
   obtain⟨n',q1,_,aN,_⟩:=hle.toks k n s ty hb;rw[h1] at q1;cases q1
   rcases QS h2 with q|⟨_,_,_,_,_,q⟩|⟨_,_,q,_⟩
   cases q;exact aN rfl;cases q;cases q
  |obj o=>exact(hle.eO k _ rfl hb).2
  |cL es bw=>exact(hle.eO k _ rfl hb).2
  |aT st pd ats ps ok=>exact(hle.eO k _ rfl hb).2
 have hnone:∀{k:Nat} {L:Loc} {o:Nat},k<hp.length->M'[k]?=some L->aC L.b o=none->oZ L.b o=none:=λ{k L o} hk hM hc=>by
  simp only[oZ,hc];rw[if_neg];rintro⟨k',L',h1,h2,h3⟩;exact cz.apart k' k L' L aBH h2 hM h3
 have Mr:∀{x:U} {v:Value},jX hp.length x->aI aC M' hp' x v->aI oZ (M'.take hp.length) (hp'.take hp.length) x v:=λhl hr=>by
  have h1:=hr.ayH hl;exact h1.mono ⟨Ae,λk cs fz q=>⟨cs,q,λ_=>bl _,λ_=>rfl,λq=>q⟩,λk n s ty q=>⟨n,q,bl _,λ_=>rfl,λq=>q⟩,λk b hb q=>⟨⟨b,q,aa.like.refl b⟩,rfl⟩⟩
 have hlt:∀{k:Nat} {b:aa},(hp'.take hp.length)[k]?=some b->k<hp.length/\hp'[k]?=some b:=λ{k b} hb=>by
  have hk:k<hp.length:=by have:=nA hb;rw[zu] at this;omega
  rw[jz hk] at hb;exact⟨hk,hb⟩
 have Ig:∀{k:Nat} {L:Loc},k<hp.length->(M'.take hp.length)[k]?=some L->M'[k]?=some L:=λ{k L} hk hb=>by
  rw[jz hk] at hb;exact hb
 refine⟨oZ,M'.take hp.length,hp'.take hp.length,aQ,v',hq,he,?_,?_,?_⟩;refine⟨λb o v q=>Ae _ _ _ (hle.C b o v q),λk cs fz hk=>?_,λk n s ty hk=>?_,λk b hb hk=>?_⟩;have cK:=nA hk;obtain⟨cs',q1,_⟩:=hle.cells k cs fz hk;have:=RN cK q1;rw[hk] at this;cases this;exact⟨cs,aED,λ_=>bl _,λ_=>by rw[jz cK];exact Ex cK,λq=>by rw[jz cK,Ex cK];exact q⟩;have cK:=nA hk;obtain⟨n',q1,ah,aN,dI⟩:=hle.toks k n s ty hk;exact⟨n',aED,ah,λ_=>by rw[jz cK];exact Ex cK,λq=>by rw[jz cK,Ex cK];exact q⟩;have cK:=nA hk;obtain⟨⟨b',q1,ah⟩,aN⟩:=hle.eO k b hb hk;exact⟨⟨b',aED,ah⟩,by rw[jz cK];exact aN⟩;refine⟨cz.below,cz.k7,λb o v q hb=>?_,λb o v q=>Ae _ _ _ (cz.oH b o v q),?_,λb o v q=>?_,λk cs fz L hk hM=>?_,λk n s ty L hk hM=>?_,λk k' L L' hne hM cJ=>?_,λk b L hb hk hM=>?_⟩;simp only[oZ] at q;split at q;rename_i u hu;cases q;exact cz.old b o _ hu hb;split at q;rename_i hn;obtain⟨k,L,h1,h2,h3⟩:=hn;have:=(cz.at h2).2;omega;cases q;rw[zu,zu,an_];simp only[oZ] at q;split at q;rename_i u hu;cases q;exact cz.ld b o _ hu;split at q;exact q;cases q;obtain⟨cK,hk'⟩:=hlt hk;have cJ:=Ig cK hM;obtain⟨t1,t2,t3,t4,t5,t6,t7⟩:=cz.cells k cs fz L hk' cJ;refine⟨t1,t2,λi c hc=>?_,t4,λo=>hnone cK cJ (t5 o),t6,t7⟩;obtain⟨c',q1,ah⟩:=t3 i c hc;refine⟨c',q1,Mr ?_ ah⟩;have hk0:=RN cK hk';rw[Ex cK] at cJ;obtain⟨_,_,c8,_⟩:=hs.cells k cs fz L hk0 cJ;obtain⟨c0,_,aN⟩:=c8 i c hc;exact aN.low;obtain⟨cK,hk'⟩:=hlt hk;have cJ:=Ig cK hM;obtain⟨t1,t2,t3,t4,t5,t6⟩:=cz.toks k n s ty L hk' cJ;exact⟨t1,t2,t3,λo ho=>hnone cK cJ (t4 o ho),t5,t6⟩;have e1:k<hp.length:=by have:=nA hM;rw[zu] at this;omega
 have e2:k'<hp.length:=by have:=nA cJ;rw[zu] at this;omega
 exact cz.apart k k' L L' hne (Ig e1 hM) (Ig e2 cJ);obtain⟨cK,hk'⟩:=hlt hk;have cJ:=Ig cK hM;obtain⟨t1,o,t2,t3,t4⟩:=cz.eO k b L hb hk' cJ;refine⟨t1,o,t2,t3,?_⟩;obtain⟨b0,hb0⟩:∃b,hp[k]?=some b:=⟨_,br cK⟩;obtain⟨b2,h1,h2⟩:=hlow hb0;rw[hk'] at h1;cases h1;have L2:M[k]?=some L:=by rw[<-Ex cK];exact cJ
 cases b with
 |obj o'=>exact t4
 |cL es bw=>
  rcases QS h2 with q|⟨_,_,_,_,_,q⟩|⟨_,_,_,q⟩
  subst q;obtain⟨_,o0,_,_,amn,_,hl0,vg⟩:=hs.eO k _ L rfl hb0 L2;obtain⟨entries,e1,e2,bQ⟩:=t4;refine⟨entries,e1,e2,λi a b ha hb=>?_⟩;obtain⟨b1,fU⟩:∃b1,amn.toList[i]?=some b1:=⟨_,br (by rw[<-hl0];exact nA ha)⟩;obtain⟨u1,u2,_⟩:=vg i a b1 ha fU;obtain⟨v1,v2,v3⟩:=bQ i a b ha hb;exact⟨Mr u1.low v1,Mr u2.low v2,v3⟩;rw[q] at h2;cases h2;cases q
 |aT st pd ats ps ok=>
  obtain⟨fn,tmps,assign,body,D,e1,e2,bQ,cC⟩:=t4;refine⟨fn,tmps,assign,body,D,e1,e2,bQ,λi a b ha hb=>Mr ?_ (cC i a b ha hb)⟩;cases b0 with
  |aT ot af2 akE avy au4=>
   obtain⟨st',jx,q⟩:=hkeep k ot af2 akE avy au4 hb0;rw[hk'] at q;cases q;obtain⟨_,o0,_,_,fn0,ayC,az0,az6,azW,_,_,g3,g4⟩:=hs.eO k _ L rfl hb0 L2;obtain⟨b1,fU⟩:∃b1,ayC[i]?=some b1:=⟨_,sX (by rw[<-g3];exact nA ha)⟩;exact(g4 i a b1 ha fU).low
  |obj o=>cases o<;>cases h2
  |_=>cases h2
 |cells cs fz=>cases hb
 |tok n s e=>cases hb
 refine(LR (aC:=oZ) (vj:=mask hp.length hp') Ae (λk cs row L hk hM i c hc=>?_) (λk cs row hk=>?_) hfz fN).mono le_nil;obtain⟨eL,hk2⟩:=ae4 hk;obtain⟨t1,t2,t3,t4,t5,_⟩:=cz.cells k cs row L hk2 hM;obtain⟨c',q1,ah⟩:=t3 i c hc;refine⟨c',?_,ah⟩;simp only[oZ,t5 i];rw[if_pos ⟨k,L,eL,hM,rfl⟩];exact q1;exact(ae4 hk).2
def aE.close{aQ:U}(h:aE G P f args hp λr hp'=>(hp'.map aW).take hp.length=hp.map aW/\eA hp hp'/\∃n,b9 (mask hp.length hp') n r=some aQ):
  aE G P f args hp λr hp'=>r=aQ/\hp'.map aW=hp.map aW/\eA hp hp':=by
 refine aE.Yw (aZ h ?_);rintro r hp' ⟨hsame,hkeep,n,hfz⟩;refine⟨hsame,hkeep,n,aQ,hfz,rfl,?_,?_⟩;rw[ajg];exact hsame;intro k st pd ats ps ok hk;obtain⟨st',jx,q⟩:=hkeep k st pd ats ps ok hk;exact⟨st',jx,by rw[jz (nA hk)];exact q⟩
def aE.Ql{Q:U->Prop}(h:aE G P f args hp λr hp'=>(∃l,hp'=hp++l)/\∃n aQ,b9 (mask hp.length hp') n r=some aQ/\Q aQ):
  aE G P f args hp λr hp'=>Q r/\hp'=hp:=by
 refine aE.Yw (aZ h ?_);rintro r hp' ⟨⟨l,rfl⟩,n,aQ,hf,hq⟩;have e1:(hp++l).take hp.length=hp:=OX rfl;exact⟨by rw[<-ajg,e1],xy,n,aQ,hf,hq,e1⟩
end
end
end Go.aJ

/- Part 4 of a proof. No condition. -/
import Derived.Test.YtkpjaeffojibmaaGreatDoorZ3
import Derived.RecoverIn
import Derived.HandedShaped
import Derived.Handed
import Derived.ProofKit
import Derived.OpenShut
set_option linter.unusedVariables false
set_option linter.unusedSimpArgs false
set_option linter.defProp false
open Array renaming getElem?_eq_getElem->wE,getElem?_eq_some_iff->zG,length_toList->apx,replicate->Bm
open Bool renaming and_eq_true->fQ,false->bf,false_eq_true->ke,or_eq_true->Hx,true->bh
open Go.bM.bg renaming cells->jK,mp->cD,one->cr,v->cI
open Go.bM.cq renaming mono->ck
open Go.bM.iE renaming mono->gT
open Go.bM.jM renaming mono->vb
open Go.bM.wT renaming mono->abg
open Go.bM.c8 renaming refl->o7
open Go.bM.sj renaming Is->TK
open Go.Act renaming eval->OB
open Go.Builtin renaming unsafeString_->abj
open Go.DataW renaming TrodAll->TL,trod->TM
open Go.Deferred renaming ofValue->E0
open Go.Fence renaming wide->zJ
open Go.IntKind renaming bits->Ks,i64->de,signed->Kt,u64->HA,wrap->abq
open Go.OpenSpec renaming ofChange->abu
open Go.Region renaming wanted->abx
open Go.Sem renaming run_pure->mz
open Go.Value renaming okWide->HD
open Go.World renaming cell?->HE,frozen?->abA,shape?->OL
open List renaming all_cons->pY,all_eq_true->eP,any_eq_true->Kv,append_nil->gd,drop_drop->yg,drop_zero->o9,eq_nil_of_length_eq_zero->nZ,getElem?_append_left->fT,getElem?_append_right->fY,getElem?_cons_succ->yj,getElem?_drop->s0,getElem?_eq_getElem->cz,getElem?_eq_some_iff->cL,getElem?_map->fR,getElem?_set_ne->bD,getElem?_set_self->bU,getElem?_take->TY,getElem?_take_of_lt->CT,getElem_of_mem->HH,length_append->ec,length_drop->tX,length_map->cM,length_nil->hY,length_take->p0,map_append->gf,map_cons->fG,map_drop->ON,map_set->ym,map_take->T0,mem_cons->fS,replicate->fo,take_append_drop->OP,take_left'->T7
open Nat renaming add_zero->vc,le_refl->cj,lt_or_ge->en,mul_le_mul_right->o_,sub_zero->E8,succ_mul->tZ,zero_add->gk,zero_le->js
open Option renaming bind_eq_some_iff->gO,bind_some->lz,getD_some->wO,isSome_none->Bx,map_eq_some_iff->dx,map_some->j4,none->bn,some->a_
open Option.some renaming inj->mB,injEq->n6
open Or renaming inl->bE,inr->bF
open Prod.mk renaming injEq->wP
namespace Go.bM
open Go.RowKit
section
variable{J:List br}{oC mq:TypeId}{iM p1:String}{od oK:Array Edge}{a:Act}{w:World}{hb:mY}{g:FuncId}{args:List bg}
structure aqG where
 ntmps:Nat
 d0:Nat
 d1:Nat
 body:qF
def amU(o1 o2:Oper):Option (Nat×Nat):=match o1 with
 |{dst:=a_ d0,op:=.call {callee:=.builtin .recover,args:=⟨[]⟩,argTypes:=_},type:=_,pos:=_,after:=_,guard:=bn}=>match o2 with
  |{dst:=a_ d1,op:=.assign (.tmp t),type:=_,pos:=_,after:=_,guard:=bn}=>if t=d0 then a_ (d0,d1) else bn
  |_=>bn
 |_=>bn
def J_(P:Program)(hb:mY)(g:FuncId):Option aqG:=match P.funcs[g]? with
 |some fn=>if fn.name== "runtime.NumGoroutine" then bn else match fn.results.toList with
  |[]=>match fn.body with
   |some (.seq (.region _ ⟨[o1,o2]⟩ bf) rest)=>match amU o1 o2,slim P hb rest with
    |some (d0,d1),a_ sc=>if d0<fn.ntmps/\d1<fn.ntmps/\d0≠d1 then a_ ⟨fn.ntmps,d0,d1,sc⟩ else bn
    |_,_=>bn
   |_=>bn
  |_=>bn
 |none=>bn
def kK(G:Cells)(P:Program)(g:FuncId)(args:List bg)(J:List br)(x:Option Value)(K:List br->Prop):Prop:=
 Enters P g/\∀base w0 C M w c_,cx G base w0 C M J w->dB C M J args c_->
  CallsDIn zJ 0 P g c_.toArray (match x with|none=>.returning|some v=>.panicking [{v:=v,recovered:=bf}]) w λe u' w'=>
   ∃bI M' bl v,K bl/\e=.returned v/\settle u'=.returning/\c8 C M J bI M' bl/\cx G base w0 bI M' bl w'
def qt:Option bg->bg
 |none=>.v .nilIface
 |some x=>x
def mo:bg->Bool
 |.v x=>plain x
 |.agg Z=>JL Z
 |_=>bf
where JL:List bg->Bool
 |[]=>bh
 |x::r=>mo x&&JL r
mutual
theorem amY{C:Cells}{M:List Loc}{J:List br}:∀{x:bg} {v:Value},mo x=bh->sj x=a_ v->bP C M J x v
 |.v x,v,h,T=>by
  simp only[sj,n6] at T;subst T;exact .v (by simpa[mo] using h)
 |.agg Z,v,h,T=>by
  simp only[sj,dx] at T;obtain⟨l,Y,rfl⟩:=T;have:=amZ (C:=C) (M:=M) (J:=J) (by simpa[mo] using h) Y;exact .agg (by simpa using this.1) (λi a b ha O=>this.2 i a b ha aH)
 |.bQ _,_,h,_=>aK
 |.bp,_,h,_=>aK
 |.sl _ _,_,h,_=>aK
 |.fp _ _,_,h,_=>aK
 |.mp _ _,_,h,_=>aK
 |.rp _ _ _,_,h,_=>aK
 |.rs _ _ _ _ _,_,h,_=>aK
 |.gA _,_,h,_=>aK
 |.gM _,_,h,_=>aK
 |.fn _ _ _,_,h,_=>aK
 |.eD _ _,_,h,_=>aK
 |.gb _,_,h,_=>aK
 |.jj _,_,h,_=>aK
 |.iH _ _,_,h,_=>aK
theorem amZ{C:Cells}{M:List Loc}{J:List br}:∀{xs:List bg} {vs:List Value},mo.JL xs=bh->TK xs=a_ vs->dB C M J xs vs
 |[],vs,_,T=>by
  simp only[TK,n6] at T;subst T;exact⟨rfl,λi a b ha O=>by simp at ha⟩
 |x::r,vs,h,T=>by
  simp only[mo.JL,fQ] at h;simp only[TK] at T;split at T;rename_i a l Y V;cases T;have k1:=amY (C:=C) (M:=M) (J:=J) h.1 Y;have k2:=amZ (C:=C) (M:=M) (J:=J) h.2 V;refine⟨by simp[k2.1],λi a b ha O=>?_⟩;cases i with
  |zero=>simp at ha O;subst ha;subst O;exact k1
  |succ i=>simp at ha O;exact k2.2 i a b ha O
  cases T
end
def xT:bg->Bool
 |.eD _ x=>mo x
 |_=>bf
def aD4{C}{M}{x:bg}{v}(h:xT x=bh)(T:rm x=a_ v):bP C M J x v:=by
 cases x with
 |eD t x=>
  simp only[rm,dx] at T;obtain⟨a,Y,rfl⟩:=T;exact .eD (amY (by simpa[xT] using h) Y)
 |_=>simp[xT] at h
section
variable{G:Cells}{P:Program}
def Cr(d0:Nat)(zC:Array TypeId)(oC:TypeId)(iM:String)(od:Array Edge):Oper:={dst:=a_ d0,op:=.call {callee:=.builtin .recover,args:=⟨[]⟩,argTypes:=zC},type:=oC,pos:=iM,after:=od,guard:=bn}
def Dh(d1 d0:Nat)(mq:TypeId)(p1:String)(oK:Array Edge):Oper:={dst:=a_ d1,op:=.assign (.tmp d0),type:=mq,pos:=p1,after:=oK,guard:=bn}
def amV{hi}{d0 d1}{zC}{Z}(hd:d0<a.tmps.size){rv}{cs'}
  (D:(recoverD Z=bn/\rv=.nilIface/\cs'=Z)\/recoverD Z=a_ (rv,cs')) (hq:hi .normal ((a.put (a_ d0) rv).put (a_ d1) rv) cs' w):
  wpOpsSIn zJ 0 P ⟨[Cr d0 zC oC iM od,Dh d1 d0 mq p1 oK]⟩ hi [0,1] a Z w:=by
 have e1:(execOp a.eval (Cr d0 zC oC iM od)).run P w=.ok .recover w:=by
  simp[execOp,resolve,invoke,builtin,Cr]
 have e2:∀P5,hi .normal ((a.put (a_ d0) rv).put (a_ d1) rv) P5 w->wpOpsSIn zJ 0 P ⟨[Cr d0 zC oC iM od,Dh d1 d0 mq p1 oK]⟩ hi [1] (a.put (a_ d0) rv) P5 w:=by
  intro P5 hq;have:(a.put (a_ d0) rv).eval (.tmp d0)=rv:=by simp[OB,Act.put,hd]
  have dr:(execOp (a.put (a_ d0) rv).eval (Dh d1 d0 mq p1 oK)).run P w=.ok (.value rv) w:=by
   simp only[execOp,Dh,mz,this]
  have eS:(⟨[Cr d0 zC oC iM od,Dh d1 d0 mq p1 oK]⟩:Array Oper)[1]?=a_ (Dh d1 d0 mq p1 oK):=rfl;have nJ:∀y,abx (Dh d1 d0 mq p1 oK) y=bh:=λ_=>rfl;simp only[wpOpsSIn,eS,nJ,if_true,dr];exact⟨λ_ _=>trivial,hq⟩
 have eS:(⟨[Cr d0 zC oC iM od,Dh d1 d0 mq p1 oK]⟩:Array Oper)[0]?=a_ (Cr d0 zC oC iM od):=rfl;have nJ:∀y,abx (Cr d0 zC oC iM od) y=bh:=λ_=>rfl;have yS:(Cr d0 zC oC iM od).dst=a_ d0:=rfl
 rcases D with⟨Y,rfl,rfl⟩|Y
 unfold wpOpsSIn;simp only[eS,nJ,if_true,e1,Y,yS];exact⟨λ_ _=>trivial,e2 _ hq⟩;unfold wpOpsSIn;simp only[eS,nJ,if_true,e1,Y,yS];exact⟨λ_ _=>trivial,e2 _ hq⟩
def aE3(v):settle (.panicking [{v:=v,recovered:=bh}])=.returning:=by rfl
def atb{d}(hg:J_ P hb g=a_ d){x}{v}{K}
  (I:match x,v with|none,bn=>True|some x,a_ v=>xT x=bh/\rm x=a_ v|_,_=>False)
  (h:jW G P d.body (λe s=>(e=.normal\/e=.ret)/\K s.J) ⟨((vC args d.ntmps).set d.d0 (qt x)).set d.d1 (qt x),J⟩):kK G P g args J v K:=by
 unfold J_ at hg;split at hg;rename_i fn qO;split at hg;cases hg;rename_i xB;split at hg;rename_i Rj;split at hg;rename_i id o1 o2 rest O;split at hg;rename_i d0 d1 sc D5 Gm;split at hg;rename_i cQ;obtain⟨WS,yZ,bR⟩:=cQ;cases hg;have ahH:=Array.toList_inj.1 (by simpa using Rj);refine⟨⟨fn,qO,by rw[O];rfl,by simpa using xB⟩,λbase w0 C M w c_ hs D=>?_⟩;refine callsDIn_of_wpSIn qO O trivial λLp Z hu=>?_;unfold amU at D5;split at D5;rename_i aH0 zC oC iM od;split at D5;rename_i Iu t1 mq p1 oK;split at D5;rename_i ht;subst ht;cases D5;refine wpSIn_seq (wpSIn_region ?_);have key:∀(rv) (cs') (u'),bP C M J (qt x) rv->settle u'=.returning->cs'={Lp with mode:=u'}::Z->
   rest.wpSIn zJ 0 P (bodyPostS P fn Lp Z λe u' w'=>∃bI M' bl v,K bl/\e=.returned v/\settle u'=.returning/\c8 C M J bI M' bl/\cx G base w0 bI M' bl w')
    (({tmps:=c_.toArray++Bm (fn.ntmps-c_.toArray.size) undef,defers:=[]}:Act).put (a_ d0) rv|>.put (a_ d1) rv) cs' w:=by
  intro rv cs' u' mc vX QX;refine wpSIn_of_wpIn rfl ?_;have BU:iR G .plain bn base w0 C M ⟨((vC args fn.ntmps).set d0 (qt x)).set d1 (qt x),J⟩ (({tmps:=c_.toArray++Bm (fn.ntmps-c_.toArray.size) undef,defers:=[]}:Act).put (a_ d0) rv|>.put (a_ d1) rv) w:=
   ⟨hs,BP (BP (Qy D _) mc (a_ d0)) mc (a_ d1),rfl,trivial⟩
  refine wpIn_mono (h rest hb Gm bn base w0 C M _ w BU) λe a' w' ⟨bI,M',s',⟨he,hK⟩,bK,eY⟩=>?_;have hd:=eY.defers
  rcases he with rfl|rfl
  exact⟨hd,u',QX,.tuple #[],by simp[results,ahH],bI,M',s'.J,_,hK,rfl,vX,bK,eY.lp⟩;exact⟨hd,u',QX,.tuple #[],by simp[results,ahH],bI,M',s'.J,_,hK,rfl,vX,bK,eY.lp⟩
 have dD:d0<(c_.toArray++Bm (fn.ntmps-c_.toArray.size) undef).size:=ah
 cases x with
 |none=>
  cases v with
  |some v=>exact I.elim
  |none=>
   have Ro:=hu;have Ri:recoverD (Lp::Z)=bn:=by simp[recoverD,Ro]
   have:=key .nilIface (Lp::Z) .returning (.v rfl) rfl (by cases Lp;cases Ro;rfl);exact amV dD (bE ⟨Ri,rfl,rfl⟩) this
 |some x=>
  cases v with
  |none=>exact I.elim
  |some v=>
   have Ro:=hu;have:=key v _ (.panicking [{v:=v,recovered:=bh}]) (aD4 I.1 I.2) (aE3 v) rfl;exact amV dD (bF (by simp[recoverD,Ro])) this
 cases D5;cases D5;cases D5;cases hg;cases hg;cases hg;cases hg;cases hg
structure aqF where
 ntmps:Nat
 results:List je
 head:qF
 t:Nat
 g:FuncId
 caps:List dH
 body:qF
def Cf(t:Nat)(g:FuncId)(Z:Array Operand)(oC:TypeId)(iM:String)(od:Array Edge):Oper:={dst:=a_ t,op:=.makeFunc (.func g) ⟨[]⟩ Z,type:=oC,pos:=iM,after:=od,guard:=bn}
def BK(t:Nat)(yb:Array TypeId)(mq:TypeId)(p1:String)(oK:Array Edge):Oper:={dst:=bn,op:=.defer {callee:=.value (.tmp t),args:=⟨[]⟩,argTypes:=yb},type:=mq,pos:=p1,after:=oK,guard:=bn}
def aeT(o1 o2:Oper):Option (Nat×FuncId×List dH):=match o1 with
 |{dst:=a_ t,op:=.makeFunc (.func g) ⟨[]⟩ Z,type:=_,pos:=_,after:=_,guard:=bn}=>match o2 with
  |{dst:=bn,op:=.defer {callee:=.value (.tmp t'),args:=⟨[]⟩,argTypes:=_},type:=_,pos:=_,after:=_,guard:=bn}=>if t'=t then(match tQ Z.toList with|some l=>a_ (t,g,l)|none=>bn) else bn
  |_=>bn
 |_=>bn
def J9(P:Program)(hb:mY)(f:FuncId):Option aqF:=match P.funcs[f]? with
 |some fn=>if fn.name== "runtime.NumGoroutine" then bn else match fn.body with
  |some (.seq bV (.seq (.region _ ⟨[o1,o2]⟩ bf) rest))=>match aeT o1 o2,slim P hb bV,slim P hb rest,EG P fn.results.toList with
   |some (t,g,l),a_ h,a_ b,a_ rs=>if t<fn.ntmps then a_ ⟨fn.ntmps,rs,h,t,g,l,b⟩ else bn
   |_,_,_,_=>bn
  |_=>bn
 |none=>bn
def ate{hi}{t}{Z}{yb}(hd:t<a.tmps.size)
  (hq:hi .normal {(a.put (a_ t) (.func (.func g) #[] (Z.map a.eval))) with defers:={target:=.fn (.func g) (Z.map a.eval),args:= #[]}::a.defers} w):
  wpOpsIn (r3 bn) 0 P ⟨[Cf t g Z oC iM od,BK t yb mq p1 oK]⟩ hi [0,1] a w:=by
 have e1:(execOp a.eval (Cf t g Z oC iM od)).run P w=.ok (.value (.func (.func g) #[] (Z.map a.eval))) w:=by
  simp[execOp,Cf,Instr.makeFunc]
 have e2:(execOp (a.put (a_ t) (.func (.func g) #[] (Z.map a.eval))).eval (BK t yb mq p1 oK)).run P w=.ok (.defer {target:=.fn (.func g) (Z.map a.eval),args:= #[]}) w:=by
  have:(a.put (a_ t) (.func (.func g) #[] (Z.map a.eval))).eval (.tmp t)=.func (.func g) #[] (Z.map a.eval):=by simp[OB,Act.put,hd]
  simp[execOp,BK,resolve,this,E0]
 have nJ:(⟨[Cf t g Z oC iM od,BK t yb mq p1 oK]⟩:Array Oper)[0]?=a_ (Cf t g Z oC iM od):=rfl;have yS:(⟨[Cf t g Z oC iM od,BK t yb mq p1 oK]⟩:Array Oper)[1]?=a_ (BK t yb mq p1 oK):=rfl;have Lu:(Cf t g Z oC iM od).dst=a_ t:=rfl;have atj:(BK t yb mq p1 oK).dst=bn:=rfl;have s1:(Cf t g Z oC iM od).semAt (r3 bn).round a.eval=execOp a.eval (Cf t g Z oC iM od):=rfl;have s2:(BK t yb mq p1 oK).semAt (r3 bn).round (a.put (a_ t) (.func (.func g) #[] (Z.map a.eval))).eval=execOp (a.put (a_ t) (.func (.func g) #[] (Z.map a.eval))).eval (BK t yb mq p1 oK):=rfl;unfold wpOpsIn;simp only[nJ,λ_=>rfl,if_true];refine⟨λ_ _=>trivial,?_⟩;rw[s1,e1];simp only[Oper.uponIn,Lu];unfold wpOpsIn;simp only[yS,λ_=>rfl,if_true];refine⟨λ_ _=>trivial,?_⟩;rw[s2,e2];simp only[Oper.uponIn,atj];exact hq
def atr(G:Cells)(P:Program)(g:FuncId)(ks:List Nat)(rs:List je)(K:bg->List br->Prop):Exit->eE->Prop
 |.normal,s=>kK G P g (ks.map λk=>.mp k 0) s.J bn λbl=>∃r,tN ⟨s.ts,bl⟩ rs=a_ r/\K r bl
 |.ret,s=>kK G P g (ks.map λk=>.mp k 0) s.J bn λbl=>∃r,tN ⟨s.ts,bl⟩ rs=a_ r/\K r bl
 |.panic ch,s=>∃v,ch=[{v:=v,recovered:=bf}]/\kK G P g (ks.map λk=>.mp k 0) s.J (a_ v) λbl=>∃r,tN ⟨s.ts,bl⟩ rs=a_ r/\K r bl
 |_,_=>False
def at6{f}{d}(hf:J9 P hb f=a_ d){K}
  (h:jW G P d.head (λe s=>e=.normal/\d.t<s.ts.length/\∃ks:List Nat,d.caps.map (ev s.ts)=ks.map (λk=>.mp k 0)/\
    lB G P (.sn d.g ks) d.body (atr G P d.g ks d.results K) ⟨s.ts.set d.t (.fn (.func d.g) [] (ks.map λk=>.mp k 0)),s.J⟩) ⟨vC args d.ntmps,J⟩):cq G P f args J K:=by
 unfold J9 at hf;split at hf;rename_i fn qO;split at hf;cases hf;rename_i xB;split at hf;rename_i bV id o1 o2 rest O;split at hf;rename_i t g l hd bd rs AI hh avL uJ;split at hf;rename_i cQ;cases hf;unfold aeT at AI;split at AI;rename_i t0 g0 cs0 oC iM od;split at AI;rename_i t1 yb mq p1 oK;split at AI;rename_i ht;subst ht;split at AI;rename_i l' hl;cases AI;refine⟨⟨fn,qO,by rw[O];rfl,by simpa using xB⟩,λbase w0 C M w c_ hs D=>?_⟩;refine callsIn_wide.1 (callsIn_of_wp_defers (n:=0) qO O trivial ?_);have hf:iR G .plain bn base w0 C M ⟨vC args fn.ntmps,J⟩ {tmps:=c_.toArray++Bm (fn.ntmps-c_.toArray.size) undef,defers:=[]} w:=
  ⟨hs,Qy D _,rfl,trivial⟩
 refine wpIn_seq (wpIn_mono (h bV hb hh bn base w0 C M _ w hf) λe a1 w1 ⟨OV,KQ,s1,⟨he,Ea,ks,BW,hT⟩,DV,Me⟩=>?_);subst he;have iq:dB OV KQ s1.J (ks.map λk=>.mp k 0) (cs0.map a1.eval).toList:=by
  have:=xW Me.frame hl;rw[BW] at this;simpa using this
 have dD:t<a1.tmps.size:=by
  have:=Me.frame.1;simp only[apx] at this;have aIV:t<s1.ts.length:=Ea;omega
 refine wpIn_seq (wpIn_region ?_);refine ate dD ?_;have WV:iR G (.sn g ks) bn base w0 OV KQ ⟨s1.ts.set t (.fn (.func g) [] (ks.map λk=>.mp k 0)),s1.J⟩ {(a1.put (a_ t) (.func (.func g) #[] (cs0.map a1.eval))) with defers:={target:=.fn (.func g) (cs0.map a1.eval),args:= #[]}::a1.defers} w1:=by
  refine⟨Me.lp,?_,⟨OV,cs0.map a1.eval,by rw[Me.defers],iq⟩,rfl⟩;exact BP Me.frame (.fn rfl (by have:=iq.1;simpa using this) (λi x y I _=>aF) (λi x y I hy=>iq.2 i x y I (by simpa using hy))) (a_ t)
 refine wpIn_mono (hT rest hb avL bn base w0 OV KQ _ w1 WV) λe a2 w2 ⟨wQ,M2,s2,hq,lN,WW⟩=>?_;obtain⟨E_,cap,F7,agQ⟩:=WW.defers;have fin:∀(x) (u),u=(match x with|none=>.returning|some v=>.panicking [{v:=v,recovered:=bf}])->
   kK G P g (ks.map λk=>.mp k 0) s2.J x (λbl=>∃r,tN ⟨s2.ts,bl⟩ rs=a_ r/\K r bl)->
   LeavesIn zJ 0 P fn a2.tmps (λe w'=>∃bI M' bl r v',K r bl/\e=.returned v'/\c8 C M J bI M' bl/\cx G base w0 bI M' bl w'/\bP bI M' bl r v') a2.defers u w2:=by
  intro x u hu kH;rw[F7];have avR:dB wQ M2 s2.J (ks.map λk=>.mp k 0) cap.toList:=by
   refine⟨agQ.1,λi a b ha O=>?_⟩;have:=agQ.2 i a b ha O;simp only[fR,dx] at ha;obtain⟨k,_,rfl⟩:=ha;cases this with
   |mp hb' eA=>exact .mp hb' eA
  refine leavesIn_cons (by rw[hu];cases x<;>simp) (λq=>ay) (N5 kH.1 _ _) (λ_ _=>trivial) ?_;rw[hu];have e0:(#[]:Array Value)++cap=cap.toList.toArray:=af
  rw[e0];refine CallsDIn.mono (kH.2 base w0 wQ M2 w2 cap.toList WW.lp avR) λe u' w' ⟨aql,aqs,xD,v,⟨r,mc,hK⟩,he,vX,DW,uK⟩=>?_;subst he;simp only;rw[vX];obtain⟨v',B3,AW⟩:=Z8 (dh:=.plain) (ro:=bn) (s':=⟨s2.ts,xD⟩) (a':={tmps:=a2.tmps,defers:=[]}) uJ ⟨uK,Aw DW WW.frame,rfl,trivial⟩ mc;exact⟨v',B3,aql,aqs,xD,r,v',hK,rfl,DV.trans (lN.trans DW),uK,AW⟩
 cases e with
 |normal=>exact fin bn .returning rfl hq
 |ret=>exact fin bn .returning rfl hq
 |panic ch=>
  obtain⟨v,rfl,kH⟩:=hq;exact fin (a_ v) _ rfl kH
 |_=>exact hq.elim
 cases AI;cases AI;cases AI;cases AI;cases hf;cases hf;cases hf;cases hf
end
end
section
variable{v:bg}{F K:bg->List br->Prop}{n:Nat}{args ts xs ys:List bg}{t:ob}{i:ja}{k:IntKind}{J l:List br}{b w:Bool}{a:Prop}{ops r:List dN}{α:Type}{d:Option Nat}{f g:FuncId}{ch:List PanicEntry}{G:Cells}{P:Program}{rs:List je}{hb pu:mY}
section
variable{P:Program}{K:eE->Prop}{ts:List bg}{J:List br}{r:List dN}
def aa3(x:Option (bg×List br))(F:bg->List br->Prop):Prop:=∃v bl,x=a_ (v,bl)/\F v bl
def apb{bl}:aa3 (a_ (v,bl)) F=F v bl:=by
 apply propext;constructor;rintro⟨v',jA,h,k⟩;cases h;exact k;intro k;exact⟨v,bl,rfl,k⟩
section
variable(k:IntKind)(a b:Int)
def acP:dL .add (.v (.int k a)) (.v (.int k b))=a_ (.v (.int k (k.wrap (a+b)))):=aJM
def acY:dL .sub (.v (.int k a)) (.v (.int k b))=a_ (.v (.int k (k.wrap (a-b)))):=aJM
def acW:dL .mul (.v (.int k a)) (.v (.int k b))=a_ (.v (.int k (k.wrap (a*b)))):=aJM
def acR:dL .eql (.v (.int k a)) (.v (.int k b))=a_ (.v (.bool (a==b))):=aJM
def acX:dL .neq (.v (.int k a)) (.v (.int k b))=a_ (.v (.bool (a !=b))):=aJM
def acV:dL .lss (.v (.int k a)) (.v (.int k b))=a_ (.v (.bool (decide (a<b)))):=aJM
def acU:dL .leq (.v (.int k a)) (.v (.int k b))=a_ (.v (.bool (decide (a<=b)))):=aJM
def acT:dL .gtr (.v (.int k a)) (.v (.int k b))=a_ (.v (.bool (decide (b<a)))):=aJM
def acS:dL .geq (.v (.int k a)) (.v (.int k b))=a_ (.v (.bool (decide (b<=a)))):=aJM
def UG(h:b≠0):dL .quo (.v (.int k a)) (.v (.int k b))=a_ (.v (.int k (k.wrap (a.tdiv b)))):=aLS
def UH(h:b≠0):dL .rem (.v (.int k a)) (.v (.int k b))=a_ (.v (.int k (a.tmod b))):=aLS
def aqT(k')(h:¬b<0):dL .shl (.v (.int k a)) (.v (.int k' b))=a_ (.v (.int k (k.wrap (a*2^(min b.toNat k.bits))))):=aLS
def aqU(k')(h:¬b<0):dL .shr (.v (.int k a)) (.v (.int k' b))=a_ (.v (.int k (a.fdiv (2^(min b.toNat k.bits))))):=aLS
def acQ:dL .and (.v (.int k a)) (.v (.int k b))=a_ (.v (w_ k a b (· &&& ·))):=aJM
def aqS:dL .or (.v (.int k a)) (.v (.int k b))=a_ (.v (w_ k a b (· ||| ·))):=aJM
end
def z6(x):eV 1 [.v x]=a_ (.sl [.v x] .exact):=aKw
def lD{i:Nat}{x:bg}(h:xs[i]?=a_ x)(hn:x.cells.length=n):ct n (.sl xs t) (.v (.int k (i:Int)))=a_ (.fp x.cells 0):=by simp[ct,h,hn]
def Dd{bN}{off:Nat}{Z}{c:bg}(J)(h:e_ bN n Z off=a_ c):bz J bN n (.fp Z off)=a_ c:=h
def ac0(a b):eV 1 [.v a,.v b]=a_ (.sl [.v a,.v b] .exact):=aKw
def ac1(a b c):eV 1 [.v a,.v b,.v c]=a_ (.sl [.v a,.v b,.v c] .exact):=aKw
def ac2(a b c d):eV 1 [.v a,.v b,.v c,.v d]=a_ (.sl [.v a,.v b,.v c,.v d] .exact):=aKw
def ac3(a b c d e f g h):eV 1 [.v a,.v b,.v c,.v d,.v e,.v f,.v g,.v h]=a_ (.sl [.v a,.v b,.v c,.v d,.v e,.v f,.v g,.v h] .exact):=aKw
def z7(off o:Nat)(Z):lC off (.fp Z o)=a_ (.fp Z (o+off)):=rfl
def mI(off o k:Nat):lC off (.mp k o)=a_ (.mp k (o+off)):=rfl
def cC(v:bg)(xs:List bg):Prop:=v=.sl xs .no\/(v=.bp/\xs=[])
def cC.len{v:bg}{xs}(h:cC v xs):K5 v=a_ (.v (goInt xs.length)):=by
 rcases h with rfl|⟨rfl,rfl⟩<;>rfl
def cC.cE(h:cC v xs){i:Nat}{x:bg}(I:xs[i]?=a_ x)(hn:x.cells.length=n):ct n v (.v (.int k (i:Int)))=a_ (.fp x.cells 0):=by
 rcases h with rfl|⟨rfl,rfl⟩
 exact lD I hn;simp at I
def cC.ns(h:cC v xs):∀s,v≠.v (.string s):=by
 rcases h with rfl|⟨rfl,rfl⟩<;>(intro s e;cases e)
def cH(v:bg)(J:List br):Option (bg×List br):=match v with
 |.v (.string _)=>bn
 |x'=>(K5 x').map λr=>(r,J)
def cC.cH{v:bg}{xs:List bg}(h:cC v xs)(J:List br):cH v J=a_ (.v (goInt xs.length),J):=by
 rcases h with rfl|⟨rfl,rfl⟩<;>rfl
def ot(xs)(t)(J):cH (.sl xs t) J=a_ (.v (goInt xs.length),J):=rfl
section
variable(ts:List bg)(J:List br)
def Ie(k o:Nat):yK (.mp k o)=a_ (.mp k o):=rfl
def adl(Z)(o:Nat):yK (.fp Z o)=a_ (.fp Z o):=rfl
end
def UL(k k')(n:Int):H9 k (.v (.int k' n))=a_ (.v (.int k (k.wrap n))):=rfl
def ES(n:Int):HA.wrap n=n % 18446744073709551616:=by simp[abq,Ks,Kt]
def apl(n:Int):IntKind.u8.wrap n=n % 256:=by simp[abq,Ks,Kt]
def fO{n:Int}(h0: -9223372036854775808<=n)(Y:n<=9223372036854775807):de.wrap n=n:=by
 simp[abq,Ks,Kt];split<;>omega
def cT(J:List br)(v:bg)(xs:List bg)(n:Nat)(e:TypeId):Prop:=(v=.bp/\xs=[])\/∃id,v=.sl xs (.tok id)/\J[id]?=a_ (.tok xs.length n e)
structure abW(J bl:List br)(v:bg):Prop where
 len:J.length<=bl.length
 cells:∀(k:Nat) Z fz,J[k]?=a_ (.cells Z fz)->bl[k]?=a_ (.cells Z fz)
 toks:∀(k:Nat) n s e,J[k]?=a_ (.tok n s e)->(∀xs,v≠.sl xs (.tok k))->bl[k]?=a_ (.tok n s e)
 gB:∀(k:Nat) b,b.isObj=bh->J[k]?=a_ b->bl[k]?=a_ b
def cT.nil(J)(n:Nat)(e):cT J .bp [] n e:=bE ⟨rfl,rfl⟩
def cT.run{b9:Nat}{e}(hA:cT J v xs n e)(I:cZ n xs=bh)(hy:cZ n ys=bh)(bR:ys≠[])(hn:0<n)(O:0<b9)
  (hfit:(xs.length+ys.length)*b9<=140737488355328) (k:∀v' bl,cT bl v' (xs++ys) n e->abW J bl v->(∃id,v'=.sl (xs++ys) (.tok id))->F v' bl):aa3 (ef J n b9 e v (.sl ys t)) F:=by
 rcases hA with⟨rfl,rfl⟩|⟨id,rfl,hid⟩
 refine⟨.sl ys (.tok J.length),J++[.tok ys.length n e],?_,?_⟩;simp only[hY,gk] at hfit;simp[ef,gG,iy,ij,bR,hy,hn,O,hfit];refine k _ _ (bF ⟨J.length,rfl,af⟩) ⟨af,λj Z fz h=>?_,λj n s e' h _=>?_,λj b _ h=>by rw[fT (cL.1 h).1];exact h⟩ ⟨_,rfl⟩;rw[fT (cL.1 h).1];exact h;rw[fT (cL.1 h).1];exact h;have hl:=(cL.1 hid).1;refine⟨.sl (xs++ys) (.tok id),J.set id (.tok (xs.length+ys.length) n e),?_,?_⟩;simp[ef,gG,iy,ij,bR,hy,hn,O,hfit,I,hid];refine k _ _ (bF ⟨id,rfl,by rw[bU hl,ec]⟩) ⟨af,λj Z fz h=>?_,λj n' s e' h ahq=>?_,λj b O h=>by rw[bD (by intro e;subst e;rw[hid] at h;cases h;cases O)];exact h⟩ ⟨_,rfl⟩;rw[bD];exact h;intro e;subst e;rw[hid] at h;cases h;rw[bD];exact h;intro e;subst e;exact ahq xs rfl
def cT.at{id:Nat}{e}(h:cT J (.sl xs (.tok id)) ys n e):J[id]?=a_ (.tok ys.length n e):=by
 rcases h with⟨h,_⟩|⟨nP,h,V⟩
 cases h;cases h;exact V
def bT{k:Nat}{b:br}(h:J[k]?=a_ b):(J++l)[k]?=a_ b:=by
 rw[fT (cL.1 h).1];exact h
def cT.ext{e}(h:cT J v xs n e):cT (J++l) v xs n e:=
 h.imp id λ⟨id,q,h⟩=>⟨id,q,bT h⟩
def cT.new{e}:cT (J++[.tok xs.length n e]) (.sl xs (.tok J.length)) xs n e:=bF ⟨_,rfl,af⟩
end
abbrev dy:=List (Nat×bg)
variable{e:dy}
def gQ:dy->Nat->Option bg
 |[],_=>bn
 |(j,v)::r,k=>if j=k then a_ v else gQ r k
def Dw(k:Nat)(o:Option bg)(e:dy):dy:=
 match o with
 |some v=>(k,v)::e
 |none=>e
def mK:List Nat->dy->dy
 |[],_=>[]
 |k::L,e=>Dw k (gQ e k) (mK L e)
def ey(e:dy):dH->Option bg
 |.t k=>gQ e k
 |.c a=>a_ a
def nK(e:dy):List dH->Option (List bg)
 |[]=>a_ []
 |x::r=>(ey e x).bind λa=>(nK e r).map λl=>a::l
def yT(e:dy):Option dH->Option (Option bg)
 |none=>a_ bn
 |some x=>(ey e x).map a_
def Dy(e:dy):List (Nat×Nat×dH)->Option (List (Nat×Nat×bg))
 |[]=>a_ []
 |(i,n,x)::r=>(ey e x).bind λa=>(Dy e r).map λl=>(i,n,a)::l
def rK(v:bg)(J:List br):Option (bg×List br):=match v with
 |.v (.string s)=>a_ (.v (goInt s.size),J)
 |_=>bn
def q2(n:Nat)(v:bg)(lo Q mx:Option bg)(J:List br):Option (bg×List br):=match v with
 |.v (.string _)=>bn
 |x'=>(l6 n x' lo Q mx).map λr=>(r,J)
def Hl(v:bg)(lo Q:Option bg)(J:List br):Option (bg×List br):=match v with
 |.v (.string s)=>(l6 0 (.v (.string s)) lo Q bn).map λr=>(r,J)
 |_=>bn
def JJ(c:bg)(x y:Option bg):Option bg:=match c with
 |.v (.bool b)=>if b then x else y
 |_=>bn
def Rx(v:bg)(J:List br):Option (bg×List br):=match v with
 |.v (.string s)=>a_ (.gA J.length,J++[.obj (.stringIter s 0)])
 |_=>bn
def cy(e:dy)(J:List br):r9->Option (bg×List br)
 |.mv x=>(ey e x).map λr=>(r,J)
 |.pick c a b=>(ey e c).bind λc=>(JJ c (ey e a) (ey e b)).map λr=>(r,J)
 |.alloc z=>a_ (.mp J.length 0,J++[.cells z bf])
 |.z8 t z=>a_ (.mp J.length 0,J++[.cells (.iH J.length t::z) bf])
 |.Ad b9 ty s x=>(ey e s).bind λs=>(ey e x).bind λx=>BE J b9 ty s x
 |.box x=>(ey e x).map λr=>(.mp J.length 0,J++[.cells r.cells bf])
 |.build z ps=>(Dy e ps).bind λl=>(dJ z l).map λr=>(.agg r,J)
 |.Ah n vs=>(nK e vs).bind λl=>(eV n l).map λr=>(r,J)
 |.fA bN n x=>(ey e x).bind λx=>(bz J bN n x).map λr=>(r,J)
 |.st n p x=>(ey e p).bind λp=>(ey e x).bind λx=>(bL J n p x).map λbl=>(jF,bl)
 |.Jv x=>(ey e x).bind λx=>(yK x).map λr=>(r,J)
 |.bin op x y=>(ey e x).bind λx=>(ey e y).bind λy=>(dL op x y).map λr=>(r,J)
 |.LA neg x y=>(ey e x).bind λx=>(ey e y).bind λy=>(K3 neg x y).map λr=>(r,J)
 |.LB K neg x y=>(ey e x).bind λx=>(ey e y).bind λy=>(nG K neg x y).map λr=>(r,J)
 |.Ix ks neg x y=>(ey e x).bind λx=>(ey e y).bind λy=>(uo ks neg x y).map λr=>(r,J)
 |.un op x=>(ey e x).bind λx=>(Fs op x).map λr=>(r,J)
 |.dz k x=>(ey e x).bind λx=>(H9 k x).map λr=>(r,J)
 |.J1 x=>(ey e x).bind λx=>(Pw x).map λr=>(r,J)
 |.Ij x=>(ey e x).bind λx=>(K0 x).map λr=>(r,J)
 |.slc n x lo Q mx=>(ey e x).bind λx=>(yT e lo).bind λlo=>(yT e Q).bind λQ=>(yT e mx).bind λmx=>q2 n x lo Q mx J
 |.x4 x lo Q=>(ey e x).bind λx=>(yT e lo).bind λlo=>(yT e Q).bind λQ=>Hl x lo Q J
 |.fa off x=>(ey e x).bind λx=>(lC off x).map λr=>(r,J)
 |.cE n x i=>(ey e x).bind λx=>(ey e i).bind λi=>(ct n x i).map λr=>(r,J)
 |.BD len n x i=>(ey e x).bind λx=>(ey e i).bind λi=>(mZ len n x i).map λr=>(r,J)
 |.Qu bN n off x=>(ey e x).bind λx=>(K4 bN n off x).map λr=>(r,J)
 |.idx bN n len x i=>(ey e x).bind λx=>(ey e i).bind λi=>(Db bN n len x i).map λr=>(r,J)
 |.Dr x i=>(ey e x).bind λx=>(ey e i).bind λi=>(w7 x i).map λr=>(r,J)
 |.ext i x=>(ey e x).bind λx=>(oc i x).map λr=>(r,J)
 |.rK x=>(ey e x).bind λx=>rK x J
 |.len x=>(ey e x).bind λx=>cH x J
 |.app n b9 ty s x=>(ey e s).bind λs=>(ey e x).bind λx=>ef J n b9 ty s x
 |.A5 f a b=>(nK e a).bind λa=>(nK e b).map λb=>(.fn f a b,J)
 |.xd n vs=>(nK e vs).bind λl=>z1 J n l
 |.BF n b9 ty s x=>(ey e s).bind λs=>(ey e x).bind λx=>p7 J n b9 ty s x
 |.A6 n b9 _ z l c=>(ey e l).bind λl=>(ey e c).bind λc=>De J n b9 z l c
 |.Ch n b9 ty z l c=>(ey e l).bind λl=>(ey e c).bind λc=>Fo J n b9 ty z l c
 |.Ce t x=>(ey e x).map λx=>(.eD t x,J)
 |.Kc t z ok x=>(ey e x).bind λx=>(Ih t z ok x).map λr=>(r,J)
 |.tJ mx xs=>(nK e xs).bind λl=>(pF mx l).map λr=>(r,J)
 |.iter x=>(ey e x).bind λx=>Rx x J
 |.next x=>(ey e x).bind λx=>sg J x
 |.Cg=>a_ (.gb J.length,J++[.eO [] 0])
 |.Ep x=>(ey e x).bind λx=>(Dc J x).map λr=>(r,J)
 |.B_ bN ks z ok m k=>(ey e m).bind λm=>(ey e k).bind λk=>(w8 J bN ks z ok m k).map λr=>(r,J)
 |.xN bN ks m k x=>(ey e m).bind λm=>(ey e k).bind λk=>(ey e x).bind λx=>(yJ J bN ks m k x).map λbl=>(jF,bl)
 |.A4 bN ks z m k=>(ey e m).bind λm=>(ey e k).bind λk=>Ib J bN ks z m k
 |.Dx m st x=>(ey e m).bind λm=>(ey e st).bind λst=>(ey e x).bind λx=>(Ia J m st x).map λbl=>(jF,bl)
def mF(n:Nat)(ts:List bg)(e:dy):Prop:=ts.length=n/\∀k v,gQ e k=a_ v->ts[k]?=a_ v
def kG(h:mF n ts e){x:dH}{a:bg}(I:ey e x=a_ a):ev ts x=a:=by
 cases x with
 |t k=>
  have:=h.2 k a I;simp[ev,this]
 |c b=>cases I;rfl
def vD(h:mF n ts e):∀{xs} {dI},nK e xs=a_ dI->xs.map (ev ts)=dI
 |[],dI,I=>by cases I;rfl
 |x::r,dI,I=>by
  simp only[nK,gO,dx] at I;obtain⟨a,Y,l,V,rfl⟩:=I;rw[fG,kG h Y,vD h V]
def afm(h:mF n ts e):∀{xs} {dI},Dy e xs=a_ dI->xs.map (λp=>(p.1,p.2.1,ev ts p.2.2))=dI
 |[],dI,I=>by cases I;rfl
 |(i,n,x)::r,dI,I=>by
  simp only[Dy,gO,dx] at I;obtain⟨a,Y,l,V,rfl⟩:=I;rw[fG,kG h Y,afm h V]
def LG(h:mF n ts e){x}{a}(I:yT e x=a_ a):x.map (ev ts)=a:=by
 cases x with
 |none=>cases I;rfl
 |some x=>
  simp only[yT,dx] at I;obtain⟨b,Y,rfl⟩:=I;rw[j4,kG h Y]
def adt(h:mF n ts e){o:r9}{r}(ho:cy e J o=a_ r):fH ts J o=a_ r:=by
 cases o
 case pick c a b=>
  simp only[cy,gO,dx] at ho;obtain⟨c',Y,v,V,rfl⟩:=ho;unfold JJ at V;split at V;rename_i b';simp only[fH,kG h Y];cases b' with
  |true=>simp only[if_true] at V⊢;rw[kG h V]
  |false=>simp only[ke,if_false] at V⊢;rw[kG h V]
  cases V
 case slc m x lo Q mx=>
  simp only[cy,gO] at ho;obtain⟨x',Y,zc,V,jP,h3,uN,h4,h5⟩:=ho;simp only[fH,kG h Y,LG h V,LG h h3,LG h h4];exact h5
 case x4 x lo Q=>
  simp only[cy,gO] at ho;obtain⟨x',Y,zc,V,jP,h3,h5⟩:=ho;simp only[fH,kG h Y,LG h V,LG h h3];exact h5
 case rK x=>
  simp only[cy,gO] at ho;obtain⟨x',Y,h5⟩:=ho;simp only[fH,kG h Y];exact h5
 case len x=>
  simp only[cy,gO] at ho;obtain⟨x',Y,h5⟩:=ho;simp only[fH,kG h Y];exact h5
 case build z ps=>
  simp only[cy,gO] at ho;obtain⟨x',Y,h5⟩:=ho;simp only[fH,afm h Y];exact h5
 case Ah z ps=>
  simp only[cy,gO] at ho;obtain⟨x',Y,h5⟩:=ho;simp only[fH,vD h Y];exact h5
 case xd z ps=>
  simp only[cy,gO] at ho;obtain⟨x',Y,h5⟩:=ho;simp only[fH,vD h Y];exact h5
 case tJ z ps=>
  simp only[cy,gO] at ho;obtain⟨x',Y,h5⟩:=ho;simp only[fH,vD h Y];exact h5
 case Cg=>exact ho
 case Ce t x=>
  simp only[cy,dx] at ho;obtain⟨x',Y,rfl⟩:=ho;simp only[fH,kG h Y]
 case xN bN ks m k x=>
  simp only[cy,gO] at ho;obtain⟨m',Y,k',V,x',h3,h5⟩:=ho;simp only[fH,kG h Y,kG h V,kG h h3];exact h5
 case Dx m k x=>
  simp only[cy,gO] at ho;obtain⟨m',Y,k',V,x',h3,h5⟩:=ho;simp only[fH,kG h Y,kG h V,kG h h3];exact h5
 case A5 f a b=>
  simp only[cy,gO,dx] at ho;obtain⟨x',Y,y',V,h5⟩:=ho;simp only[fH,vD h Y,vD h V];rw[h5]
 case alloc z=>exact ho
 case z8 t z=>exact ho
 case Ad b9 ty s x=>
  simp only[cy,gO] at ho;obtain⟨x',Y,y',V,h5⟩:=ho;simp only[fH,kG h Y,kG h V];rw[h5]
 case mv x=>
  simp only[cy,dx] at ho;obtain⟨x',Y,rfl⟩:=ho;simp only[fH,kG h Y]
 case box x=>
  simp only[cy,dx] at ho;obtain⟨x',Y,rfl⟩:=ho;simp only[fH,kG h Y]
 all_goals first
  |(simp only[cy,gO] at ho
    obtain⟨x',Y,y',V,h5⟩:=ho;simp only[fH,kG h Y,kG h V];exact h5)
  |(simp only[cy,gO] at ho
    obtain⟨x',Y,h5⟩:=ho;simp only[fH,kG h Y];exact h5)
class Hid(α:Type) where
 v:α
variable{A B:Hid Prop}
def ag9(a:α):(Hid.mk a).v=a:=rfl
def gX{α:Type}(x:Option α)[F:Hid (α->Prop)]:Prop:=∃a,x=a_ a/\F.v a
def apa{a:α}{F}:@gX α (a_ a) F=F.v a:=by
 apply propext;constructor;rintro⟨b,h,k⟩;cases h;exact k;intro k;exact⟨a,rfl,k⟩
def s5(b:Bool)[A:Hid Prop][B:Hid Prop]:Prop:=(b=bh->A.v)/\(b=bf->B.v)
def OU:@s5 bh A B=A.v:=by simp[s5]
def OT:@s5 bf A B=B.v:=by simp[s5]
def s5.mk(Y:b=bh->A.v)(V:b=bf->B.v):@s5 b A B:=⟨Y,V⟩
def Fx(v:bg)[A:Hid Prop][B:Hid Prop]:Prop:=match v with
 |.v (.bool b)=>@s5 b A B
 |_=>False
def adS:@Fx (.v (.bool b)) A B=@s5 b A B:=rfl
def uB(w:Bool)(v:bg)[A:Hid Prop][B:Hid Prop]:Prop:=match v with
 |.v (.bool b)=>if w then@s5 b A B else@s5 b B A
 |.bQ []=>B.v
 |_=>False
def agv:@uB bh (.v (.bool b)) A B=@s5 b A B:=rfl
def agt:@uB bf (.v (.bool b)) A B=@s5 b B A:=rfl
def agu:@uB w jF A B=B.v:=rfl
abbrev r7:=List PanicEntry->List br->Prop
variable{E E':r7}
def Ud(G:Cells)(P:Program)(f:FuncId)(args:List bg)(J:List br)[F:Hid (bg->List br->Prop)]:Prop:=cq G P f args J F.v
def Ve(G:Cells)(P:Program)(f:bg)(args:List bg)(J:List br)[F:Hid (bg->List br->Prop)]:Prop:=jM G P f args J F.v
def Ue(G:Cells)(P:Program)(f:FuncId)(args:List bg)(J:List br)[F:Hid (bg->List br->Prop)][E:Hid r7]:Prop:=iE G P f args J F.v E.v
def Vf(G:Cells)(P:Program)(f:bg)(args:List bg)(J:List br)[F:Hid (bg->List br->Prop)][E:Hid r7]:Prop:=wT G P f args J F.v E.v
section
variable{G:Cells}{P:Program}{f:FuncId}{args fs Z:List bg}{J:List br}{F:Hid (bg->List br->Prop)}{E:Hid r7}
def ad8:@Ve G P (.fn (.func f) fs Z) args J F=@Ud G P f (fs++args++Z) J F:=by simp[Ve,jM,Ud]
def ad9:@Vf G P (.fn (.func f) fs Z) args J F E=@Ue G P f (fs++args++Z) J F E:=by simp[Vf,wT,Ue]
end
def aDi(G:Cells)(P:Program)(f:FuncId)(args:List bg)[F:Hid (bg->Prop)]:Prop:=∃bs r',n9 args bs/\cY G P f bs r'/\F.v r'
def jH(G:Cells)(P:Program)(i:ja)[F:Hid (bg->List br->Prop)][E:Hid r7](e:dy)(J:List br):Prop:=match i with
 |.op o=>@gX _ (cy e J o) ⟨λr=>F.v r.1 r.2⟩
 |.call f args=>@gX _ (nK e args) ⟨λdI=>@Ud G P f dI J F⟩
 |.oe x args=>@gX _ (ey e x) ⟨λx=>@gX _ (nK e args) ⟨λdI=>@Ve G P x dI J F⟩⟩
 |.nS f args=>@gX _ (nK e args) ⟨λdI=>@aDi G P f dI ⟨λv=>F.v v J⟩⟩
 |.o3 f args r=>@gX _ (nK e args) ⟨λdI=>∃bs,n9 dI bs/\cY G P f bs r/\F.v r J⟩
 |.qa f args=>@gX _ (nK e args) ⟨λdI=>@Ue G P f dI J F E⟩
 |.qb x args=>@gX _ (ey e x) ⟨λx=>@gX _ (nK e args) ⟨λdI=>@Vf G P x dI J F E⟩⟩
 |.gM x=>@gX _ ((ey e x).bind rm) ⟨λv=>E.v [{v:=v,recovered:=bf}] J⟩
def qs(d:Option Nat)(v:bg)(e:dy):dy:=match d with
 |some d=>(d,v)::e
 |none=>e
def kg(G:Cells)(P:Program)(l:List dN)[K:Hid (dy->List br->Prop)][E:Hid r7](e:dy)(J:List br):Prop:=match l with
 |[]=>K.v e J
 |⟨d,bn,i⟩::r=>@jH G P i ⟨λv bl=>@kg G P r K E (qs d v e) bl⟩ E e J
 |⟨d,a_ (k,w),i⟩::r=>@gX _ (gQ e k) ⟨λg=>@uB w g ⟨@jH G P i ⟨λv bl=>@kg G P r K E (qs d v e) bl⟩ E e J⟩ ⟨@kg G P r K E (qs d jF e) J⟩⟩
section
variable{G:Cells}{P:Program}{K:Hid (dy->List br->Prop)}{E:Hid r7}{e:dy}{J:List br}{d:Option Nat}{k:Nat}{i:ja}{r:List dN}
def Fj:@kg G P [] K E e J=K.v e J:=by simp only[kg]
def HX:@kg G P (⟨d,bn,i⟩::r) K E e J=@jH G P i ⟨λv bl=>@kg G P r K E (qs d v e) bl⟩ E e J:=by simp only[kg]
def HW:@kg G P (⟨d,a_ (k,w),i⟩::r) K E e J=@gX _ (gQ e k) ⟨λg=>@uB w g ⟨@jH G P i ⟨λv bl=>@kg G P r K E (qs d v e) bl⟩ E e J⟩ ⟨@kg G P r K E (qs d jF e) J⟩⟩:=by simp only[kg]
end
def xj(n:Nat):List dN->Bool
 |[]=>bh
 |o::r=>(match o.dst with|some d=>decide (d<n)|none=>bh)&&xj n r
def ae5{ρ}:∀{l},xj n (l.map (gu ρ))=xj n l
 |[]=>rfl
 |o::r=>by simp only[fG,xj,Tm,ae5]
def IP(h:mF n ts e)(hd:(match d with|some d=>decide (d<n)|none=>bh)=bh):mF n (fD ts d v) (qs d v e):=by
 cases d with
 |none=>exact h
 |some d=>
  simp only[decide_eq_true_eq] at hd;refine⟨by simp[fD,h.1],λk w S=>?_⟩;simp only[qs,gQ] at S;simp only[fD];split at S;rename_i e1;subst e1;cases S;exact bU (by rw[h.1];exact hd);rename_i e1;rw[bD e1];exact h.2 k w S
section
variable{G:Cells}{P:Program}
def ayb{F}{E}{K}(h:mF n ts e)(Q:@jH G P i F E e J)(hF:∀v bl,F.v v bl->g_ G E.v P r K ⟨fD ts d v,bl⟩):
  g_ G E.v P (⟨d,bn,i⟩::r) K ⟨ts,J⟩:=by
 simp only[g_];unfold dO;rw[if_pos (by rfl)];cases i with
 |op o=>
  obtain⟨⟨v,bl⟩,Y,V⟩:=Q;simp only;rw[adt h Y];exact hF _ _ V
 |call f args=>
  obtain⟨dI,Y,V⟩:=Q;simp only;rw[vD h Y];exact ck V hF
 |oe x args=>
  obtain⟨x',h0,dI,Y,V⟩:=Q;dsimp only at V;simp only;rw[vD h Y,kG h h0];exact vb V hF
 |nS f args=>
  obtain⟨dI,Y,bs,r',V,h3,h4⟩:=Q;simp only;rw[vD h Y];exact⟨bs,r',V,h3,hF _ _ h4⟩
 |o3 f args r=>
  obtain⟨dI,Y,bs,V,h3,h4⟩:=Q;simp only;rw[vD h Y];exact⟨bs,V,h3,hF _ _ h4⟩
 |qa f args=>
  obtain⟨dI,Y,V⟩:=Q;simp only;rw[vD h Y];exact gT V hF λ_ _ k=>k
 |qb x args=>
  obtain⟨x',h0,dI,Y,V⟩:=Q;dsimp only at V;simp only;rw[vD h Y,kG h h0];exact abg V hF λ_ _ k=>k
 |gM x=>
  obtain⟨v,Y,V⟩:=Q;simp only[gO] at Y;obtain⟨x',h3,h4⟩:=Y;simp only;rw[kG h h3,h4];exact V
def aoe{g}{K}:
  (pI (a_ g) ts=bh->g_ G E P (⟨d,bn,i⟩::r) K ⟨ts,J⟩)->(pI (a_ g) ts=bf->g_ G E P r K ⟨fD ts d jF,J⟩)->g_ G E P (⟨d,a_ g,i⟩::r) K ⟨ts,J⟩:=λY V=>by
 cases hw:pI (a_ g) ts with
 |true=>
  have:=Y hw;simp only[g_] at this⊢;unfold dO at this⊢;rw[if_pos (by rfl)] at this;simp only;rw[if_pos hw];exact this
 |false=>
  have:=V hw;simp only[g_];unfold dO;simp only;rw[if_neg (by rw[hw];simp)];exact this
def KW:∀{l} {K} {E} {K'} {e:dy} {J} {ts},xj n l=bh->mF n ts e->@kg G P l K E e J->(∀ts e J,mF n ts e->K.v e J->K' ⟨ts,J⟩)->g_ G E.v P l K' ⟨ts,J⟩
 |[],K,E,K',e,J,ts,hd,h,D,S=>S _ _ _ h (by rw[Fj] at D;exact D)
 |⟨d,g,i⟩::r,K,E,K',e,J,ts,hd,h,D,S=>by
  simp only[xj,fQ] at hd;obtain⟨yZ,uF⟩:=hd;have sV:@jH G P i ⟨λv bl=>@kg G P r K E (qs d v e) bl⟩ E e J->g_ G E.v P (⟨d,bn,i⟩::r) K' ⟨ts,J⟩:=λq=>
   ayb h q λv bl k=>KW uF (IP h yZ) k S
  have no:@kg G P r K E (qs d jF e) J->g_ G E.v P r K' ⟨fD ts d jF,J⟩:=λk=>KW uF (IP h yZ) k S
  rcases g with _|⟨k,w⟩
  rw[HX] at D;exact sV D;rw[HW] at D;obtain⟨g,Y,V⟩:=D;have gR:=h.2 k _ Y;dsimp only at V;unfold uB at V;split at V;rename_i b;have hg:(b=w->@jH G P i ⟨λv bl=>@kg G P r K E (qs d v e) bl⟩ E e J)/\(b≠w->@kg G P r K E (qs d jF e) J):=by
   cases w with
   |true=>exact⟨λq=>V.1 q,λq=>V.2 ak⟩
   |false=>exact⟨λq=>V.2 q,λq=>V.1 ak⟩
  refine aoe (λhw=>sV (hg.1 ?_)) λhw=>no (hg.2 ?_);simpa[pI,gR] using hw;simpa[pI,gR] using hw;exact aoe (λhw=>by simp[pI,gR] at hw) λ_=>no V;exact V.elim
end
def rN(c:dN)(e:dy)(J:List br):Prop:=match c.ins,c.dst with
 |.op o,a_ d=>match c.guard with
  |none=>@gX _ (gQ e d) ⟨λv=>@gX _ (cy e J o) ⟨λr=>r.1=v⟩⟩
  |some (k,w)=>@gX _ (gQ e k) ⟨λg=>@uB w g ⟨@gX _ (gQ e d) ⟨λv=>@gX _ (cy e J o) ⟨λr=>r.1=v⟩⟩⟩ ⟨@gX _ (gQ e d) ⟨λv=>v=jF⟩⟩⟩
 |_,_=>False
def qu(Z:List dN)(e:dy)(J:List br):Prop:=match Z with
 |[]=>True
 |c::r=>rN c e J/\qu r e J
def uj(G:Cells)(P:Program)(l:List (dN×List dN))[K:Hid (dy->List br->Prop)][E:Hid r7](e:dy)(J:List br):Prop:=match l with
 |[]=>K.v e J
 |(o,Z)::r=>@kg G P [o] ⟨λe' bl=>qu Z e' bl/\@uj G P r K E e' bl⟩ E e J
section
variable{G:Cells}{P:Program}{K:Hid (dy->List br->Prop)}{E:Hid r7}{e:dy}{J:List br}{o:dN}{Z:List dN}{r:List (dN×List dN)}
def HY:@uj G P [] K E e J=K.v e J:=by simp only[uj]
def HZ:@uj G P ((o,Z)::r) K E e J=@kg G P [o] ⟨λe' bl=>qu Z e' bl/\@uj G P r K E e' bl⟩ E e J:=by simp only[uj]
def aD1(h:mF n ts e){c}(T:rN c e J):uh G P c ⟨ts,J⟩:=by
 obtain⟨d,g,i⟩:=c;unfold rN at T;split at T;rename_i o dd Q hd;dsimp only at Q hd;subst Q hd;have sV:(pI g ts=bh)->@gX _ (gQ e dd) ⟨λv=>@gX _ (cy e J o) ⟨λr=>r.1=v⟩⟩->uh G P ⟨a_ dd,g,.op o⟩ ⟨ts,J⟩:=by
  rintro hw ⟨v,Y,r,V,h3⟩;dsimp only at h3;refine⟨dd,v,rfl,h.2 _ _ Y,?_⟩;unfold mX;rw[if_pos hw];simp only;rw[adt h V,j4,h3]
 have no:(pI g ts=bf)->@gX _ (gQ e dd) ⟨λv=>v=jF⟩->uh G P ⟨a_ dd,g,.op o⟩ ⟨ts,J⟩:=by
  rintro hw ⟨v,Y,V⟩;dsimp only at V;refine⟨dd,v,rfl,h.2 _ _ Y,?_⟩;unfold mX;rw[if_neg (by rw[hw];simp)];exact V
 cases g with
 |none=>exact sV rfl T
 |some g=>
  obtain⟨k,w⟩:=g;obtain⟨g,Y,V⟩:=T;have gR:=h.2 k _ Y;dsimp only at V;unfold uB at V;split at V;rename_i b;cases w with
  |true=>
   cases b with
   |true=>exact sV aLC (V.1 rfl)
   |false=>exact no aLC (V.2 rfl)
  |false=>
   cases b with
   |true=>exact no aLC (V.1 rfl)
   |false=>exact sV aLC (V.2 rfl)
  exact no aLC V;exact V.elim
 exact T.elim
def amW(h:mF n ts e):∀{Z},qu Z e J->∀c∈Z,uh G P c ⟨ts,J⟩
 |[],_,c,T=>aLv
 |c::r,D,c',T=>by
  rcases fS.1 T with rfl|T
  exact aD1 h D.1;exact amW h D.2 c' T
def acD:∀{l} {K} {E} {K'} {e:dy} {J} {ts},xj n (l.map (·.1))=bh->mF n ts e->@uj G P l K E e J->(∀ts e J,mF n ts e->K.v e J->K' ⟨ts,J⟩)->kM G E.v P l K' ⟨ts,J⟩
 |[],K,E,K',e,J,ts,hd,h,D,S=>S _ _ _ h (by rw[HY] at D;exact D)
 |(o,Z)::r,K,E,K',e,J,ts,hd,h,D,S=>by
  simp only[fG,xj,fQ] at hd;rw[HZ] at D;have:=KW (K':=λs'=>(∀c∈Z,uh G P c s')/\kM G E.v P r K' s') (by simp only[xj,fQ];exact⟨hd.1,trivial⟩) h D λts e J h' k=>⟨amW h' k.1,acD hd.2 h' k.2 S⟩;exact this
end
inductive eN where
 |skip (L:List Nat)
 |region (ops:List dN) (L:List Nat)
 |seq (a b:eN)
 |cond (c:dH) (a b:eN)
 |block (id:Nat) (a:eN)
 |loop (a:eN)
 |exit (id:Nat) (L:List Nat)
 |ret (L:List Nat)
 |rM (x:dH) (ps:List Nat) (a b:eN) (L:List Nat)
 |rO (ls:List (List dN)) (L:List Nat)
 |qZ (l:List (dN×List dN)) (L:List Nat)
 |scope (a:eN)
 |lab (L:List Nat)
 |bad
variable{c:eN}
def eN.b8:eN->qF
 |.skip _=>.skip
 |.region ops _=>.region ops
 |.seq a b=>.seq a.b8 b.b8
 |.cond c a b=>.cond c a.b8 b.b8
 |.block id a=>.block id a.b8
 |.loop a=>.loop a.b8
 |.exit id _=>.exit id
 |.ret _=>.ret
 |.rM x ps a b _=>.rM x ps a.b8 b.b8
 |.rO ls _=>.rO ls
 |.qZ l _=>.qZ l
 |.scope a=>.scope a.b8
 |.lab _=>.lab
 |.bad=>.bad
def eN.pJ(n:Nat):eN->Bool->Bool
 |.region ops _,_=>xj n ops
 |.rO ls _,_=>ls.all (xj n)
 |.qZ l _,_=>xj n (l.map (·.1))
 |.seq a b,m=>a.pJ n m&&b.pJ n m
 |.cond _ a b,m=>a.pJ n m&&b.pJ n m
 |.block _ a,m=>a.pJ n m
 |.loop a,m=>a.pJ n m
 |.scope a,m=>a.pJ n m
 |.rM _ ps a b _,m=>m&&(ps.all λp=>decide (p<n))&&a.pJ n bf&&b.pJ n bh
 |_,_=>bh
def eN.fits(n:Nat)(c:eN):Bool:=c.pJ n bf
def tj(ops:List dN):dy->dy
 |[]=>[]
 |(k,v)::e=>if ops.any (λo=>o.dst==a_ k) then tj ops e else(k,v)::tj ops e
def VC{k:Nat}:∀{e:dy} {v:bg},gQ (tj ops e) k=a_ v->gQ e k=a_ v/\∀bJ∈ops,bJ.dst≠a_ k
 |[],v,h=>aE
 |(j,w)::e,v,h=>by
  simp only[tj] at h;split at h;rename_i hj;obtain⟨Y,V⟩:=VC h;refine⟨?_,V⟩;simp only[gQ];split;rename_i Mq;subst Mq;rw[Kv] at hj;obtain⟨bJ,q1,bt⟩:=hj;exact(V bJ q1 aW).elim;exact Y;rename_i hj;simp only[gQ] at h⊢;by_cases Mq:j=k;rw[if_pos Mq] at h⊢;subst Mq;refine⟨h,λbJ jB q=>hj ?_⟩;rw[Kv];exact⟨bJ,jB,by simp[q]⟩;rw[if_neg Mq] at h⊢;exact VC h
def WG{mR}(h:mF n ts e)(ha:nB ops ts mR):mF n mR (tj ops e):=by
 refine⟨ha.1.trans h.1,λk v S=>?_⟩;obtain⟨Y,V⟩:=VC S;rw[ha.2 k V];exact h.2 k v Y
abbrev nE:=Exit->dy->List br->Prop
def sQ[next:Hid (dy->List br->Prop)][hi:Hid nE]:nE
 |.normal,e,J=>next.v e J
 |x,e,J=>hi.v x e J
def xb(id:Nat)[hi:Hid nE]:nE
 |.exit nP,e,J=>if nP=id then hi.v .normal e J else hi.v (.exit nP) e J
 |x,e,J=>hi.v x e J
def J4[hi:Hid nE]:nE
 |.goto _,_,_=>False
 |x,e,J=>hi.v x e J
section
variable{next:Hid (dy->List br->Prop)}{hi:Hid nE}{e:dy}{J:List br}{id:Nat}
def anN:@J4 hi .normal e J=hi.v .normal e J:=rfl
def anM:@J4 hi (.exit id) e J=hi.v (.exit id) e J:=rfl
def anP:@J4 hi .ret e J=hi.v .ret e J:=rfl
def anO:@J4 hi (.panic ch) e J=hi.v (.panic ch) e J:=rfl
def aoT:@sQ next hi .normal e J=next.v e J:=rfl
def aoS:@sQ next hi (.exit id) e J=hi.v (.exit id) e J:=rfl
def aoV:@sQ next hi .ret e J=hi.v .ret e J:=rfl
def aoU:@sQ next hi (.panic ch) e J=hi.v (.panic ch) e J:=rfl
def adL:@xb id hi (.panic ch) e J=hi.v (.panic ch) e J:=rfl
def adK:@xb id hi .normal e J=hi.v .normal e J:=rfl
def adM:@xb id hi .ret e J=hi.v .ret e J:=rfl
def adN:@xb id hi (.exit id) e J=hi.v .normal e J:=by simp[xb]
def adJ{nP:Nat}(h:nP≠id):@xb id hi (.exit nP) e J=hi.v (.exit nP) e J:=by simp[xb,h]
end
def uL[hi:Hid nE]:Option Code->dy->List br->Prop
 |none,e,J=>hi.v .normal e J
 |some .ret,e,J=>hi.v .ret e J
 |some (.exit id),e,J=>hi.v (.exit id) e J
 |_,_,_=>False
def aEk(k:Nat)(bO:List bg)(ps:Array Tmp)(ok:Code->Code->Prop)(K:bg->List br->Prop):nE
 |.normal,_,J=>(∃st pd,J[k]?=a_ (.bW st pd bO ps ok))/\K (.v (.bool bh)) (J.set k (.bW .ready bn bO ps ok))
 |.ret,_,J=>(∃st pd,J[k]?=a_ (.bW st pd bO ps ok))/\K (.v (.bool bf)) (J.set k (.bW .done (a_ .ret) bO ps ok))
 |.exit id,_,J=>(∃st pd,J[k]?=a_ (.bW st pd bO ps ok))/\K (.v (.bool bf)) (J.set k (.bW .done (a_ (.exit id)) bO ps ok))
 |_,_,_=>False
def rR:dy->List (Nat×bg)->dy
 |e,[]=>e
 |e,(k,v)::r=>rR ((k,v)::e) r
def Uw(G:Cells)(P:Program)(k:Nat)(bO:List bg)(ps:List Nat)(ok:Code->Code->Prop)(wa:nE->dy->List br->Prop)(wb:nE->dy->List br->Prop)(e:dy):Prop:=
 ∀(args:List bg) (J:List br) (K:bg->List br->Prop),args.length=ps.length->(∃pd,J[k]?=a_ (.bW .ready pd bO ps.toArray ok))->
  wa (@sQ ⟨λe1 eI=>(∃pd,eI[k]?=a_ (.bW .ready pd bO ps.toArray ok))/\∀pd,wb (aEk k bO ps.toArray ok K) e1 (eI.set k (.bW .busy pd bO ps.toArray ok))⟩ ⟨λ_ _ _=>False⟩) (rR e (ps.zip args)) J->jM G P (.jj k) args J K
def marks(nest:Bool):List br:=if nest then [] else [.obj (.deferred (a_ []))]
def amT(G:Cells)(P:Program)(nest:Bool)(x:Option bg)(ps:List Nat)(L:List Nat)(wa:nE->dy->List br->Prop)(wb:nE->dy->List br->Prop)[hi:Hid nE](e:dy)(J:List br):Prop:=
 ∃g fs Z,x=a_ (.fn (.func g) fs Z)/\∀k,k=(J++marks nest).length->∀bO ok,Uw G P k bO ps ok wa wb e->
  cq G P g (fs++[.jj k]++Z) (J++marks nest++[.bW .ready bn bO ps.toArray ok])
   λr bl=>∃st pd,bl[k]?=a_ (.bW st pd bO ps.toArray ok)/\st≠.busy/\uL pd (mK L e) (bl.set k (.bW .exhausted pd bO ps.toArray ok))
def er(G:Cells)(P:Program)(nest:Bool)(c:eN)[hi:Hid nE](e:dy)(J:List br):Prop:=match c with
 |.skip L=>hi.v .normal (mK L e) J
 |.region ops L=>@kg G P ops ⟨λe' bl=>hi.v .normal (mK L e') bl⟩ ⟨λch bl=>hi.v (.panic ch) (tj ops e) bl⟩ e J
 |.rO ls L=>∃ρ:Nat->bg,∀l∈ls,@kg G P (l.map (gu ρ)) ⟨λe' bl=>hi.v .normal (mK L e') bl⟩ ⟨λch bl=>hi.v (.panic ch) (tj ls.flatten e) bl⟩ e J
 |.qZ l L=>@uj G P l ⟨λe' bl=>hi.v .normal (mK L e') bl⟩ ⟨λch bl=>hi.v (.panic ch) (tj (l.map (·.1)) e) bl⟩ e J
 |.seq a b=>@er G P nest a ⟨@sQ ⟨λe J=>@er G P nest b hi e J⟩ hi⟩ e J
 |.cond c a b=>@gX _ (ey e c) ⟨λc=>@Fx c ⟨@er G P nest a hi e J⟩ ⟨@er G P nest b hi e J⟩⟩
 |.block id a=>@er G P nest a ⟨@xb id hi⟩ e J
 |.loop a=>∃(hx:Nat->dy->List br->Prop) (m:Nat),hx m e J/\∀m e J,hx m e J->@er G P nest a ⟨@sQ ⟨λe' bl=>∃m',m'<m/\hx m' e' bl⟩ hi⟩ e J
 |.exit id L=>hi.v (.exit id) (mK L e) J
 |.scope a=>@er G P nest a ⟨@J4 hi⟩ e J
 |.lab L=>hi.v .normal (mK L e) J
 |.bad=>False
 |.ret L=>hi.v .ret (mK L e) J
 |.rM x ps a b L=>amT G P nest (ey e x) ps L (λhi e J=>@er G P bh a ⟨hi⟩ e J) (λhi e J=>@er G P bh b ⟨hi⟩ e J) e J
section
variable{G:Cells}{P:Program}{nest:Bool}{hi:Hid nE}{e:dy}{J:List br}
def Ou(L):@er G P nest (.skip L) hi e J=hi.v .normal (mK L e) J:=aM
def On(ops)(L):@er G P nest (.region ops L) hi e J=@kg G P ops ⟨λe' bl=>hi.v .normal (mK L e') bl⟩ ⟨λch bl=>hi.v (.panic ch) (tj ops e) bl⟩ e J:=aM
def Km(ls)(L):@er G P nest (.rO ls L) hi e J=∃ρ:Nat->bg,∀l∈ls,@kg G P (l.map (gu ρ)) ⟨λe' bl=>hi.v .normal (mK L e') bl⟩ ⟨λch bl=>hi.v (.panic ch) (tj ls.flatten e) bl⟩ e J:=aM
def Hr(a b:eN):@er G P nest (.seq a b) hi e J=@er G P nest a ⟨@sQ ⟨λe J=>@er G P nest b hi e J⟩ hi⟩ e J:=aM
def Oi(c:dH)(a b:eN):@er G P nest (.cond c a b) hi e J=@gX _ (ey e c) ⟨λc=>@Fx c ⟨@er G P nest a hi e J⟩ ⟨@er G P nest b hi e J⟩⟩:=aM
def CF(id:Nat)(a:eN):@er G P nest (.block id a) hi e J=@er G P nest a ⟨@xb id hi⟩ e J:=aM
def Ol(a:eN):@er G P nest (.loop a) hi e J=∃(hx:Nat->dy->List br->Prop) (m:Nat),hx m e J/\∀m e J,hx m e J->@er G P nest a ⟨@sQ ⟨λe' bl=>∃m',m'<m/\hx m' e' bl⟩ hi⟩ e J:=aM
def Oo(l)(L):@er G P nest (.qZ l L) hi e J=@uj G P l ⟨λe' bl=>hi.v .normal (mK L e') bl⟩ ⟨λch bl=>hi.v (.panic ch) (tj (l.map (·.1)) e) bl⟩ e J:=aM
def Ot(a:eN):@er G P nest (.scope a) hi e J=@er G P nest a ⟨@J4 hi⟩ e J:=aM
def Ok(L):@er G P nest (.lab L) hi e J=hi.v .normal (mK L e) J:=aM
def Oj(id:Nat)(L):@er G P nest (.exit id L) hi e J=hi.v (.exit id) (mK L e) J:=aM
def Oq(L):@er G P nest (.ret L) hi e J=hi.v .ret (mK L e) J:=aM
def wz(x:dH)(ps)(a b:eN)(L):@er G P nest (.rM x ps a b L) hi e J=amT G P nest (ey e x) ps L (λhi e J=>@er G P bh a ⟨hi⟩ e J) (λhi e J=>@er G P bh b ⟨hi⟩ e J) e J:=aM
end
def aom(hE:∀ch J,E ch J->E' ch J){bJ}{K}{s:eE}(h:dO G E P bJ K s):dO G E' P bJ K s:=by
 unfold dO at h⊢;split at h;rename_i hw;rw[if_pos hw];split at h;exact h;exact h;exact h;exact h;exact h;exact gT h (λ_ _ k=>k) hE;exact abg h (λ_ _ k=>k) hE;split at h;exact hE _ _ h;exact h;rename_i hw;rw[if_neg hw];exact h
def aaq(hE:∀ch J,E ch J->E' ch J):∀{l} {K} {s:eE},g_ G E P l K s->g_ G E' P l K s
 |[],_,_,h=>h
 |_::_,_,_,h=>aom hE (dO.mono h λ_ k=>aaq hE k)
def aod(hE:∀ch J,E ch J->E' ch J):∀{l} {K} {s:eE},kM G E P l K s->kM G E' P l K s
 |[],_,_,h=>h
 |(o,Z)::_,_,_,h=>aom hE (dO.mono h λ_ k=>⟨k.1,aod hE k.2⟩)
def AE(h:mF n ts e)(L):mF n ts (mK L e):=by
 refine⟨h.1,?_⟩
 induction L with
 |nil=>intro k v S;cases S
 |cons j L ih=>
  intro k v S;simp only[mK] at S;cases hj:gQ e j with
  |none=>rw[hj] at S;exact ih k v S
  |some w=>
   rw[hj] at S;simp only[Dw,gQ] at S;split at S;rename_i e1;subst e1;cases S;exact h.2 j _ hj;exact ih k v S
def avJ{ps:List Nat}:∀{ts} {e:dy} (_:mF n ts e) (_:(ps.all λp=>decide (p<n))=bh) (args),mF n (zq ts (ps.toArray.toList.zip args)) (rR e (ps.zip args)):=by
 induction ps with
 |nil=>intro ts e h _ args;simpa[zq,rR] using h
 |cons p r ih=>
  intro ts e h J args;simp only[pY,fQ] at J;cases args with
  |nil=>simpa[zq,rR] using h
  |cons v vs=>
   have:=ih (ts:=ts.set p v) (e:=(p,v)::e) (IP (d:=a_ p) h J.1) J.2 vs;simpa[zq,rR] using this
def qC.nest:qC->Bool
 |.Be _=>bh
 |_=>bf
def qC.loops:qC->Bool
 |.plain|.sn _ _=>bf
 |_=>bh
def Om(hm:P.follows .mixedOrders=bh):∀{c:eN} {dh:qC} {nest} {hi} {Q'} {e:dy} {J} {ts},c.pJ n dh.loops=bh->(dh.loops=bh->nest=dh.nest)->mF n ts e->@er G P nest c hi e J->
  (∀x ts e J,mF n ts e->hi.v x e J->Q' x ⟨ts,J⟩)->lB G P dh c.b8 Q' ⟨ts,J⟩:=by
 intro c
 induction c with
 |skip L=>intro dh nest hi Q' e J ts hf nq h hw S;rw[Ou] at hw;exact jW.skip (S _ _ _ _ (AE h L) hw)
 |exit id L=>intro dh nest hi Q' e J ts hf nq h hw S;rw[Oj] at hw;exact jW.exit (S _ _ _ _ (AE h L) hw)
 |lab L=>intro dh nest hi Q' e J ts hf nq h hw S;rw[Ok] at hw;exact jW.lab (S _ _ _ _ (AE h L) hw)
 |bad=>intro dh nest hi Q' e J ts hf nq h hw S;unfold er at hw;exact hw.elim
 |scope a j0=>
  intro dh nest hi Q' e J ts hf nq h hw S;rw[Ot] at hw;refine jW.scope (j0 hf nq h hw λx mR e' bl h' k=>?_);cases x with
  |goto l=>exact k.elim
  |_=>exact S _ _ _ _ h' k
 |ret L=>intro dh nest hi Q' e J ts hf nq h hw S;rw[Oq] at hw;exact jW.ret (S _ _ _ _ (AE h L) hw)
 |region ops L=>
  intro dh nest hi Q' e J ts hf nq h hw S;rw[On] at hw;refine jW.region hm ?_;refine aaq (λch J k ts dS=>S _ _ _ _ (WG h dS) k) ?_;exact KW hf h hw λmR e' bl h' k=>S _ _ _ _ (AE h' L) k
 |qZ l L=>
  intro dh nest hi Q' e J ts hf nq h hw S;rw[Oo] at hw;refine jW.qZ hm ?_;refine aod (λch J k ts dS=>S _ _ _ _ (WG h dS) k) ?_;exact acD hf h hw λmR e' bl h' k=>S _ _ _ _ (AE h' L) k
 |seq a b j0 tG=>
  intro dh nest hi Q' e J ts hf nq h hw S;simp only[eN.pJ,fQ] at hf;rw[Hr] at hw;refine jW.seq (j0 hf.1 nq h hw λx mR e' bl h' k=>?_);cases x with
  |normal=>exact tG hf.2 nq h' k S
  |_=>exact S _ _ _ _ h' k
 |cond o a b j0 tG=>
  intro dh nest hi Q' e J ts hf nq h hw S;simp only[eN.pJ,fQ] at hf;rw[Oi] at hw;obtain⟨v,Y,V⟩:=hw;dsimp only at V;unfold Fx at V;split at V;rename_i b';refine jW.cond (kG h Y) ?_;cases b' with
  |true=>exact j0 hf.1 nq h (V.1 rfl) S
  |false=>exact tG hf.2 nq h (V.2 rfl) S
  exact V.elim
 |block id a j0=>
  intro dh nest hi Q' e J ts hf nq h hw S;rw[CF] at hw;refine jW.block (j0 hf nq h hw λx mR e' bl h' k=>?_);cases x with
  |exit nP=>
   simp only[xb] at k;simp only[XL];split;rename_i e1;rw[if_pos e1] at k;exact S _ _ _ _ h' k;rename_i e1;rw[if_neg e1] at k;exact S _ _ _ _ h' k
  |_=>exact S _ _ _ _ h' k
 |loop a j0=>
  intro dh nest hi Q' e J ts hf nq h hw S;rw[Ol] at hw;obtain⟨hx,m,h0,D⟩:=hw;refine jW.aBK (λm s=>∃e,mF n s.ts e/\hx m e s.J) ⟨e,h,h0⟩ λm s ⟨e',h',hI⟩=>?_;refine j0 hf nq h' (D m e' s.J hI) λx aaL e2 jA V k=>?_;cases x with
  |normal=>
   obtain⟨m',cQ,avl⟩:=k;exact⟨m',cQ,e2,V,avl⟩
  |_=>exact S _ _ _ _ V k
 |rO ls L=>
  intro dh nest hi Q' e J ts hf nq h hw S;simp only[eN.pJ,eP] at hf;rw[Km] at hw;obtain⟨ρ,hw⟩:=hw;refine jW.rO hm ρ λl hl=>?_;refine aaq (λch J k ts dS=>S _ _ _ _ (WG h dS) k) ?_;exact KW (by rw[ae5];exact hf l hl) h (hw l hl) λmR e' bl h' k=>S _ _ _ _ (AE h' L) k
 |rM x ps a b L j0 tG=>
  intro dh nest hi Q' e J ts hf nq h hw S;simp only[eN.pJ,fQ] at hf;obtain⟨⟨⟨pP,iU⟩,Mf⟩,Mg⟩:=hf;rw[wz] at hw;obtain⟨g,fs,Z,I,D⟩:=hw;have uG:∀{pd} {bl},@uL hi pd (mK L e) bl->XV Q' pd ⟨ts,bl⟩:=λ{pd bl} h3=>by
   cases pd with
   |none=>exact S _ _ _ _ (AE h L) h3
   |some c=>
    cases c with
    |ret=>exact S _ _ _ _ (AE h L) h3
    |exit id=>exact S _ _ _ _ (AE h L) h3
    |_=>exact h3.elim
  have ahL:∀k,Uw G P k ts ps (kW P a.b8 b.b8) (λhi e J=>@er G P bh a ⟨hi⟩ e J) (λhi e J=>@er G P bh b ⟨hi⟩ e J) e:=λkk args bl K c6 ⟨pd,ga⟩ axw=>by
   refine⟨⟨_,_,_,_,_,ga⟩,aHi ga aJN ?_⟩;refine j0 Mf (λq=>ay) (avJ h iU args) axw λx yb e1 eI Y k=>?_;cases x with
   |normal=>
    obtain⟨k1,k2⟩:=k;refine⟨k1,λpd=>tG Mg (λ_=>rfl) Y (k2 pd) λx aaL e2 jA V k=>?_⟩;cases x with
    |normal=>exact k
    |ret=>exact k
    |exit id=>exact k
    |_=>exact k.elim
   |_=>exact k.elim
  cases dh with
  |plain=>cases pP
  |sn g ks=>cases pP
  |fn n0=>
   have:nest=bf:=nq rfl;subst this;have jR:=D (J.length+1) (by simp[marks]) ts (kW P a.b8 b.b8) (ahL _);simp only[marks,ke,if_false] at jR;exact jW.range (kG h I) (ck jR λr bl ⟨st,pd,Y,V,h3⟩=>⟨st,pd,Y,V,uG h3⟩)
  |Be k=>
   have:nest=bh:=nq rfl;subst this;have jR:=D J.length (by simp[marks]) ts (kW P a.b8 b.b8) (ahL _);simp only[marks,if_true,gd] at jR;exact jW.aDR (kG h I) (ck jR λr bl ⟨st,pd,Y,V,h3⟩=>⟨st,pd,Y,V,uG h3⟩)
def Bb(e:dy)(J:List br):je->Option bg
 |.s t=>gQ e t
 |.c t bN n=>(gQ e t).bind λp=>bz J bN n p
def tO(e:dy)(J:List br):List je->Option (List bg)
 |[]=>a_ []
 |x::r=>(Bb e J x).bind λa=>(tO e J r).map λl=>a::l
def kV(e:dy)(J:List br)(rs:List je):Option bg:=(tO e J rs).map λl=>match l with
 |[x]=>x
 |l=>.bQ l
def JT(rs:List je)[K:Hid (bg->List br->Prop)][E:Hid r7]:nE
 |.normal,e,J=>@gX _ (kV e J rs) ⟨λr=>K.v r J⟩
 |.ret,e,J=>@gX _ (kV e J rs) ⟨λr=>K.v r J⟩
 |.panic ch,_,J=>E.v ch J
 |_,_,_=>False
section
variable{rs:List je}{K:Hid (bg->List br->Prop)}{E:Hid r7}{e:dy}{J:List br}
def am8:@JT rs K E .normal e J=@gX _ (kV e J rs) ⟨λr=>K.v r J⟩:=rfl
def am_:@JT rs K E .ret e J=@gX _ (kV e J rs) ⟨λr=>K.v r J⟩:=rfl
def am9:@JT rs K E (.panic ch) e J=E.v ch J:=rfl
end
def pH:Nat->List bg->dy
 |_,[]=>[]
 |i,a::r=>(i,a)::pH (i+1) r
def adr:∀{l} {i k:Nat} {v:bg},gQ (pH i l) k=a_ v->i<=k/\l[k-i]?=a_ v
 |[],i,k,v,h=>aE
 |a::r,i,k,v,h=>by
  simp only[pH,gQ] at h;split at h;rename_i e;subst e;cases h;exact⟨cj _,af⟩;rename_i e;obtain⟨Y,V⟩:=adr h;refine⟨aa,?_⟩;rw[show k-i=(k-(i+1))+1 by omega,yj];exact V
def QT(h:args.length<=n):mF n (vC args n) (pH 0 args):=by
 refine⟨by simp[vC];omega,λk v S=>?_⟩;obtain⟨_,V⟩:=adr S;rw[E8] at V;unfold vC;rw[fT (cL.1 V).1];exact V
def N0(h:mF n ts e){r:bg}(D:kV e J rs=a_ r):tN ⟨ts,J⟩ rs=a_ r:=by
 have key:∀{rs} {l},tO e J rs=a_ l->G8 ⟨ts,J⟩ rs=a_ l:=by
  intro rs
  induction rs with
  |nil=>intro l hl;cases hl;rfl
  |cons x r ih=>
   intro l hl;simp only[tO,gO,dx] at hl;obtain⟨a,Y,l',V,rfl⟩:=hl;have I:NZ ⟨ts,J⟩ x=a_ a:=by
    cases x with
    |s t=>simp only[NZ,h.2 _ _ Y,wO]
    |c t bN m=>
     simp only[Bb,gO] at Y;obtain⟨p,q1,bt⟩:=Y;simp only[NZ,h.2 _ _ q1,wO,bt]
   simp only[G8,I,ih V]
 simp only[kV,dx] at D;obtain⟨l,Y,V⟩:=D;unfold tN;rw[key Y];split at V;subst V;rfl;rename_i bR;subst V;split;rename_i e1;cases e1;exact(bR _ rfl).elim;rename_i e1;cases e1;rfl;rename_i e1;cases e1
def afP(hm:P.follows .mixedOrders=bh)(F:sO P pu f=a_ ⟨n,rs,c.b8⟩)(hf:c.fits n=bh)(hn:args.length<=n)
  (h:@er G P bf c ⟨@JT rs ⟨K⟩ ⟨E⟩⟩ (pH 0 args) J):iE G P f args J K E:=by
 refine at7 F (Om hm hf (λq=>ay) (QT hn) h λx ts e bl h' k=>?_);cases x with
 |normal=>
  obtain⟨r,Y,V⟩:=k;exact⟨r,N0 h' Y,V⟩
 |ret=>
  obtain⟨r,Y,V⟩:=k;exact⟨r,N0 h' Y,V⟩
 |panic ch=>exact k
 |_=>exact k.elim
def SJ(n0:Nat)(rs:List je)[K:Hid (bg->List br->Prop)][E:Hid r7]:nE
 |.normal,e,J=>∀bl,n7 n0 J bl->@gX _ (kV e bl rs) ⟨λr=>K.v r bl⟩
 |.ret,e,J=>∀bl,n7 n0 J bl->@gX _ (kV e bl rs) ⟨λr=>K.v r bl⟩
 |.panic ch,_,J=>∀bl,n7 n0 J bl->E.v ch bl
 |_,_,_=>False
section
variable{n0:Nat}{rs:List je}{K:Hid (bg->List br->Prop)}{E:Hid r7}{e:dy}{J:List br}
def SK:@SJ n0 rs K E .normal e J=∀bl,n7 n0 J bl->@gX _ (kV e bl rs) ⟨λr=>K.v r bl⟩:=rfl
def Cu:@SJ n0 rs K E .ret e J=∀bl,n7 n0 J bl->@gX _ (kV e bl rs) ⟨λr=>K.v r bl⟩:=rfl
end
def afQ(hm:P.follows .mixedOrders=bh)(F:sO P pu f=a_ ⟨n,rs,c.b8⟩)(hf:c.pJ n bh=bh)(hn:args.length<=n)
  (h:@er G P bf c ⟨@SJ J.length rs ⟨K⟩ ⟨E⟩⟩ (pH 0 args) J):iE G P f args J K E:=by
 refine aua F (Om hm hf (λ_=>rfl) (QT hn) h λx ts e bl h' k=>?_);cases x with
 |normal=>
  refine λjA he=>?_;obtain⟨r,Y,V⟩:=k jA he;exact⟨r,N0 h' Y,V⟩
 |ret=>
  refine λjA he=>?_;obtain⟨r,Y,V⟩:=k jA he;exact⟨r,N0 h' Y,V⟩
 |panic ch=>exact k
 |_=>exact k.elim
def ana[K:Hid (List br->Prop)]:nE
 |.normal,_,J=>K.v J
 |.ret,_,J=>K.v J
 |_,_,_=>False
section
variable{K:Hid (List br->Prop)}{e:dy}{J:List br}
end
def aeS(hm:P.follows .mixedOrders=bh){d0 d1:Nat}(F:J_ P hb g=a_ ⟨n,d0,d1,c.b8⟩)(hf:c.fits n=bh)(hd:d0<n/\d1<n)(hn:args.length<=n){x}{v}{K}
  (I:match x,v with|none,bn=>True|some x,a_ v=>xT x=bh/\rm x=a_ v|_,_=>False)
  (h:@er G P bf c ⟨@ana ⟨K⟩⟩ ((d1,qt x)::(d0,qt x)::pH 0 args) J):kK G P g args J v K:=by
 refine atb F I (Om hm hf (λq=>ay) ?_ h λx ts e bl h' k=>?_);have:=IP (d:=a_ d1) (v:=qt x) (IP (d:=a_ d0) (v:=qt x) (QT hn) (by simpa using hd.1)) (by simpa using hd.2);exact this;cases x with
 |normal=>exact⟨bE rfl,k⟩
 |ret=>exact⟨bF rfl,k⟩
 |_=>exact k.elim
def kK.mono{x}{K K'}(h:kK G P g args J x K)(S:∀J,K J->K' J):kK G P g args J x K':=
 ⟨h.1,λbase w0 C M w c_ hs D=>CallsDIn.mono (h.2 base w0 C M w c_ hs D) λe u' w' ⟨bI,M',bl,v,k,rest⟩=>⟨bI,M',bl,v,S _ k,rest⟩⟩
def am7(G:Cells)(P:Program)(g:FuncId)(ks:List Nat)(rs:List je)[K:Hid (bg->List br->Prop)]:nE
 |.normal,e,J=>kK G P g (ks.map λk=>.mp k 0) J bn λbl=>@gX _ (kV e bl rs) ⟨λr=>K.v r bl⟩
 |.ret,e,J=>kK G P g (ks.map λk=>.mp k 0) J bn λbl=>@gX _ (kV e bl rs) ⟨λr=>K.v r bl⟩
 |.panic ch,e,J=>∃v,ch=[{v:=v,recovered:=bf}]/\kK G P g (ks.map λk=>.mp k 0) J (a_ v) λbl=>@gX _ (kV e bl rs) ⟨λr=>K.v r bl⟩
 |_,_,_=>False
def afO(hm:P.follows .mixedOrders=bh){t:Nat}{caps}{a b:eN}(F:J9 P hb f=a_ ⟨n,rs,a.b8,t,g,caps,b.b8⟩)(Mf:a.fits n=bh)(Mg:b.fits n=bh)(ht:t<n)(hn:args.length<=n)
  (h:@er G P bf a ⟨@sQ ⟨λe J=>∃ks:List Nat,nK e caps=a_ (ks.map λk=>.mp k 0)/\@er G P bf b ⟨@am7 G P g ks rs ⟨K⟩⟩ ((t,.fn (.func g) [] (ks.map λk=>.mp k 0))::e) J⟩ ⟨λ_ _ _=>False⟩⟩ (pH 0 args) J):cq G P f args J K:=by
 refine at6 F (Om hm Mf (λq=>ay) (QT hn) h λx ts e bl h' k=>?_);cases x with
 |normal=>
  obtain⟨ks,Y,V⟩:=k;refine⟨rfl,by rw[h'.1];exact ht,ks,vD h' Y,Om hm Mg (λq=>ay) (IP (d:=a_ t) h' (by simpa using ht)) V λx aaL e2 jA h3 k=>?_⟩;have Ct:∀bl,@gX _ (kV e2 bl rs) ⟨λr=>K r bl⟩->∃r,tN ⟨aaL,bl⟩ rs=a_ r/\K r bl:=λbl ⟨r,q1,bt⟩=>⟨r,N0 h3 q1,bt⟩;cases x with
  |normal=>
   have k':kK G P g (ks.map λk=>.mp k 0) jA bn λbl=>@gX _ (kV e2 bl rs) ⟨λr=>K r bl⟩:=k;exact kK.mono k' Ct
  |ret=>
   have k':kK G P g (ks.map λk=>.mp k 0) jA bn λbl=>@gX _ (kV e2 bl rs) ⟨λr=>K r bl⟩:=k;exact kK.mono k' Ct
  |panic ch=>
   obtain⟨v,q1,bt⟩:=k;exact⟨v,q1,kK.mono bt Ct⟩
  |_=>exact k.elim
 |_=>exact k.elim
def sS{nest}:∀{c:eN} {hi Q'} {e:dy} {J},@er G P nest c hi e J->(∀x e J,hi.v x e J->Q'.v x e J)->@er G P nest c Q' e J:=by
 have ah9:∀{i} {F F'} {E E'} {e:dy} {J},@jH G P i F E e J->(∀v J,F.v v J->F'.v v J)->(∀ch J,E.v ch J->E'.v ch J)->@jH G P i F' E' e J:=by
  intro i F F' E E' e J h hF hE;cases i with
  |op o=>obtain⟨v,Y,V⟩:=h;exact⟨v,Y,hF _ _ V⟩
  |call f args=>obtain⟨dI,Y,V⟩:=h;exact⟨dI,Y,ck V hF⟩
  |oe x args=>
   obtain⟨x',h0,dI,Y,V⟩:=h;exact⟨x',h0,dI,Y,vb V hF⟩
  |nS f args=>obtain⟨dI,Y,bs,r',V,h3,h4⟩:=h;exact⟨dI,Y,bs,r',V,h3,hF _ _ h4⟩
  |o3 f args r=>obtain⟨dI,Y,bs,V,h3,h4⟩:=h;exact⟨dI,Y,bs,V,h3,hF _ _ h4⟩
  |qa f args=>obtain⟨dI,Y,V⟩:=h;exact⟨dI,Y,gT V hF hE⟩
  |qb x args=>
   obtain⟨x',h0,dI,Y,V⟩:=h;exact⟨x',h0,dI,Y,abg V hF hE⟩
  |gM x=>obtain⟨v,Y,V⟩:=h;exact⟨v,Y,hE _ _ V⟩
 have ar1:∀{v:bg} {A B A' B'},@Fx v A B->(A.v->A'.v)->(B.v->B'.v)->@Fx v A' B':=by
  intro v A B A' B' h Y V;unfold Fx at h⊢;split at h;exact⟨λq=>Y (h.1 q),λq=>V (h.2 q)⟩;exact h.elim
 have guard:∀{w} {v:bg} {A B A' B'},@uB w v A B->(A.v->A'.v)->(B.v->B'.v)->@uB w v A' B':=by
  intro w v A B A' B' h Y V;unfold uB at h⊢;split at h;cases w with
  |true=>exact⟨λq=>Y (h.1 q),λq=>V (h.2 q)⟩
  |false=>exact⟨λq=>V (h.1 q),λq=>Y (h.2 q)⟩
  exact V h;exact h.elim
 have run:∀{l} {K K'} {E E'} {e:dy} {J},@kg G P l K E e J->(∀e J,K.v e J->K'.v e J)->(∀ch J,E.v ch J->E'.v ch J)->@kg G P l K' E' e J:=by
  intro l
  induction l with
  |nil=>intro K K' E E' e J h S hE;rw[Fj] at h⊢;exact S _ _ h
  |cons o r ih=>
   intro K K' E E' e J h S hE;obtain⟨d,g,i⟩:=o
   rcases g with _|⟨k,w⟩
   rw[HX] at h⊢;exact ah9 h (λv bl q=>ih q S hE) hE;rw[HW] at h⊢;obtain⟨g,Y,V⟩:=h;exact⟨g,Y,guard V (λq=>ah9 q (λv bl q=>ih q S hE) hE) λq=>ih q S hE⟩
 have aEx:∀{l} {K K'} {E E'} {e:dy} {J},@uj G P l K E e J->(∀e J,K.v e J->K'.v e J)->(∀ch J,E.v ch J->E'.v ch J)->@uj G P l K' E' e J:=by
  intro l
  induction l with
  |nil=>intro K K' E E' e J h S hE;rw[HY] at h⊢;exact S _ _ h
  |cons o r ih=>
   intro K K' E E' e J h S hE;obtain⟨o,Z⟩:=o;rw[HZ] at h⊢;exact run h (λe J k=>⟨k.1,ih k.2 S hE⟩) hE
 intro c
 induction c with
 |skip L=>intro hi Q' e J h hq;rw[Ou] at h⊢;exact hq _ _ _ h
 |exit id L=>intro hi Q' e J h hq;rw[Oj] at h⊢;exact hq _ _ _ h
 |lab L=>intro hi Q' e J h hq;rw[Ok] at h⊢;exact hq _ _ _ h
 |bad=>intro hi Q' e J h hq;unfold er at h;exact h.elim
 |scope a j0=>
  intro hi Q' e J h hq;rw[Ot] at h⊢;refine j0 h λx e' bl k=>?_;cases x with
  |goto l=>exact k.elim
  |_=>exact hq _ _ _ k
 |ret L=>intro hi Q' e J h hq;rw[Oq] at h⊢;exact hq _ _ _ h
 |region ops L=>intro hi Q' e J h hq;rw[On] at h⊢;exact run h (λe' bl k=>hq _ _ _ k) λch bl k=>hq _ _ _ k
 |qZ l L=>intro hi Q' e J h hq;rw[Oo] at h⊢;exact aEx h (λe' bl k=>hq _ _ _ k) λch bl k=>hq _ _ _ k
 |seq a b j0 tG=>
  intro hi Q' e J h hq;rw[Hr] at h⊢;refine j0 h λx e' bl k=>?_;cases x with
  |normal=>exact tG k hq
  |_=>exact hq _ _ _ k
 |cond o a b j0 tG=>intro hi Q' e J h hq;rw[Oi] at h⊢;obtain⟨v,Y,V⟩:=h;exact⟨v,Y,ar1 V (λq=>j0 q hq) (λq=>tG q hq)⟩
 |block id a j0=>
  intro hi Q' e J h hq;rw[CF] at h⊢;refine j0 h λx e' bl k=>?_;cases x with
  |exit nP=>
   simp only[xb] at k⊢;split at k;rename_i e1;rw[if_pos e1];exact hq _ _ _ k;rename_i e1;rw[if_neg e1];exact hq _ _ _ k
  |_=>exact hq _ _ _ k
 |loop a j0=>
  intro hi Q' e J h hq;rw[Ol] at h⊢;obtain⟨hx,m,h0,D⟩:=h;refine⟨hx,m,h0,λm e J hI=>j0 (D m e J hI) λx e' bl k=>?_⟩;cases x with
  |normal=>exact k
  |_=>exact hq _ _ _ k
 |rO ls L=>intro hi Q' e J h hq;rw[Km] at h⊢;obtain⟨ρ,h⟩:=h;exact⟨ρ,λl hl=>run (h l hl) (λe' bl k=>hq _ _ _ k) λch bl k=>hq _ _ _ k⟩
 |rM x ps a b L j0 tG=>
  intro hi Q' e J h hq;rw[wz] at h⊢;obtain⟨g,fs,Z,I,D⟩:=h;refine⟨g,fs,Z,I,λk S bO ok hR=>ck (D k S bO ok hR) λr bl ⟨st,pd,Y,V,h3⟩=>⟨st,pd,Y,V,?_⟩⟩;cases pd with
  |none=>exact hq _ _ _ h3
  |some c=>
   cases c with
   |ret=>exact hq _ _ _ h3
   |exit id=>exact hq _ _ _ h3
   |_=>exact h3.elim
section
variable{G:Cells}{P:Program}{nest:Bool}{hi:Hid nE}{e:dy}{J:List br}
def eu{a b:eN}(M)(Y:@er G P nest a ⟨@sQ ⟨M⟩ ⟨λ_ _ _=>False⟩⟩ e J)(V:∀e J,M e J->@er G P nest b hi e J):@er G P nest (.seq a b) hi e J:=by
 rw[Hr];refine sS Y λx e J k=>?_;cases x with
 |normal=>exact V _ _ k
 |_=>exact k.elim
def iP{a b:eN}(M)(Y:@er G P nest a ⟨@sQ ⟨M⟩ hi⟩ e J)(V:∀e J,M e J->@er G P nest b hi e J):@er G P nest (.seq a b) hi e J:=by
 rw[Hr];refine sS Y λx e J k=>?_;cases x with
 |normal=>exact V _ _ k
 |_=>exact k
def dj{x:eN}(hx:Nat->dy->List br->Prop)(n:Nat)(h0:hx 0 e J)(round:∀i e J,i<n->hx i e J->@er G P nest x ⟨@sQ ⟨hx (i+1)⟩ hi⟩ e J)(last:∀e J,hx n e J->@er G P nest x ⟨@sQ ⟨λ_ _=>False⟩ hi⟩ e J):@er G P nest (.loop x) hi e J:=by
 rw[Ol];refine⟨λk e J=>∃i,k=n-i/\i<=n/\hx i e J,_,⟨0,rfl,js _,h0⟩,λk e J ⟨i,S,Q,hI⟩=>?_⟩
 rcases en i n with hl|hl
 refine sS (round i e J hl hI) λx e' bl q=>?_;cases x with
 |normal=>exact⟨n-(i+1),aa,i+1,rfl,hl,q⟩
 |_=>exact q
 have e1:i=n:=aa
 subst e1;refine sS (last e J hI) λx e' bl q=>?_;cases x with
 |normal=>exact q.elim
 |_=>exact q
def pV{x:eN}(hx:Nat->dy->List br->Prop)(h0:hx n e J)(round:∀n e J,hx n e J->@er G P nest x ⟨@sQ ⟨λe' bl=>∃m,m<n/\hx m e' bl⟩ hi⟩ e J):@er G P nest (.loop x) hi e J:=by
 rw[Ol];exact⟨hx,n,h0,round⟩
end
def oD:type_of% @Ou/\type_of% @On/\type_of% @Km/\type_of% @Hr/\type_of% @Oi/\type_of% @CF/\type_of% @Oj/\type_of% @Oq/\type_of% @Fj/\type_of% @HX/\type_of% @HW/\type_of% @agv/\type_of% @agt/\type_of% @agu/\type_of% @ag9/\type_of% @apa/\type_of% @apb/\type_of% @OU/\type_of% @OT/\type_of% @adS/\type_of% @aoT/\type_of% @aoS/\type_of% @aoV/\type_of% @adK/\type_of% @adM/\type_of% @adN/\type_of% @adJ/\type_of% @am8/\type_of% @am_/\type_of% @ad8/\type_of% @ot/\type_of% @z6/\type_of% @ac0/\type_of% @ac1/\type_of% @ac2/\type_of% @ac3/\type_of% @z7/\type_of% @mI/\type_of% @Ie/\type_of% @adl/\type_of% @UL/\type_of% @acP/\type_of% @acY/\type_of% @acW/\type_of% @acR/\type_of% @acX/\type_of% @acV/\type_of% @acU/\type_of% @acT/\type_of% @acS/\type_of% @UG/\type_of% @UH/\type_of% @aoU/\type_of% @adL/\type_of% @am9/\type_of% @ad9/\type_of% @Oo/\type_of% @HY/\type_of% @HZ/\type_of% @Ot/\type_of% @Ok/\type_of% @anN/\type_of% @anM/\type_of% @anP/\type_of% @anO:=
 ⟨@Ou,@On,@Km,@Hr,@Oi,@CF,@Oj,@Oq,@Fj,@HX,@HW,@agv,@agt,@agu,@ag9,@apa,@apb,@OU,@OT,@adS,@aoT,@aoS,@aoV,@adK,@adM,@adN,@adJ,@am8,@am_,@ad8,@ot,@z6,@ac0,@ac1,@ac2,@ac3,@z7,@mI,@Ie,@adl,@UL,@acP,@acY,@acW,@acR,@acX,@acV,@acU,@acT,@acS,@UG,@UH,@aoU,@adL,@am9,@ad9,@Oo,@HY,@HZ,@Ot,@Ok,@anN,@anM,@anP,@anO⟩
def oE:type_of% @cy.eq_1/\type_of% @cy.eq_2/\type_of% @cy.eq_3/\type_of% @cy.eq_4/\type_of% @cy.eq_5/\type_of% @cy.eq_6/\type_of% @cy.eq_7/\type_of% @cy.eq_8/\type_of% @cy.eq_9/\type_of% @cy.eq_10/\type_of% @cy.eq_11/\type_of% @cy.eq_12/\type_of% @cy.eq_13/\type_of% @cy.eq_14/\type_of% @cy.eq_15/\type_of% @cy.eq_16/\type_of% @cy.eq_17/\type_of% @cy.eq_18/\type_of% @cy.eq_19/\type_of% @cy.eq_20/\type_of% @cy.eq_21/\type_of% @cy.eq_22/\type_of% @cy.eq_23/\type_of% @cy.eq_24/\type_of% @cy.eq_25/\type_of% @cy.eq_26/\type_of% @cy.eq_27/\type_of% @cy.eq_28/\type_of% @cy.eq_29/\type_of% @cy.eq_30/\type_of% @cy.eq_31/\type_of% @cy.eq_32/\type_of% @cy.eq_33/\type_of% @cy.eq_34/\type_of% @cy.eq_35/\type_of% @cy.eq_36/\type_of% @cy.eq_37/\type_of% @cy.eq_38/\type_of% @cy.eq_39/\type_of% @cy.eq_40/\type_of% @cy.eq_41/\type_of% @cy.eq_42/\type_of% @cy.eq_43/\type_of% @cy.eq_44/\type_of% @cy.eq_45/\type_of% @cy.eq_46/\type_of% @cy.eq_47/\type_of% @ey.eq_1/\type_of% @ey.eq_2/\type_of% @nK.eq_1/\type_of% @nK.eq_2/\type_of% @yT.eq_1/\type_of% @yT.eq_2/\type_of% @Dy.eq_1/\type_of% @Dy.eq_2/\type_of% @gQ.eq_1/\type_of% @gQ.eq_2/\type_of% @Dw.eq_1/\type_of% @Dw.eq_2/\type_of% @mK.eq_1/\type_of% @mK.eq_2/\type_of% @qs.eq_1/\type_of% @qs.eq_2/\type_of% @pH.eq_1/\type_of% @pH.eq_2/\type_of% @JJ.eq_1/\type_of% @JJ.eq_2/\type_of% @kV.eq_1/\type_of% @tO.eq_1/\type_of% @tO.eq_2/\type_of% @Bb.eq_1/\type_of% @Bb.eq_2/\type_of% @lz.{0,0}/\type_of% @Option.bind_none.{0,0}/\type_of% @j4.{0,0}/\type_of% @Option.map_none.{0,0}/\type_of% @gk/\type_of% @vc/\type_of% @ke:=
 ⟨@cy.eq_1,@cy.eq_2,@cy.eq_3,@cy.eq_4,@cy.eq_5,@cy.eq_6,@cy.eq_7,@cy.eq_8,@cy.eq_9,@cy.eq_10,@cy.eq_11,@cy.eq_12,@cy.eq_13,@cy.eq_14,@cy.eq_15,@cy.eq_16,@cy.eq_17,@cy.eq_18,@cy.eq_19,@cy.eq_20,@cy.eq_21,@cy.eq_22,@cy.eq_23,@cy.eq_24,@cy.eq_25,@cy.eq_26,@cy.eq_27,@cy.eq_28,@cy.eq_29,@cy.eq_30,@cy.eq_31,@cy.eq_32,@cy.eq_33,@cy.eq_34,@cy.eq_35,@cy.eq_36,@cy.eq_37,@cy.eq_38,@cy.eq_39,@cy.eq_40,@cy.eq_41,@cy.eq_42,@cy.eq_43,@cy.eq_44,@cy.eq_45,@cy.eq_46,@cy.eq_47,@ey.eq_1,@ey.eq_2,@nK.eq_1,@nK.eq_2,@yT.eq_1,@yT.eq_2,@Dy.eq_1,@Dy.eq_2,@gQ.eq_1,@gQ.eq_2,@Dw.eq_1,@Dw.eq_2,@mK.eq_1,@mK.eq_2,@qs.eq_1,@qs.eq_2,@pH.eq_1,@pH.eq_2,@JJ.eq_1,@JJ.eq_2,@kV.eq_1,@tO.eq_1,@tO.eq_2,@Bb.eq_1,@Bb.eq_2,@lz.{0,0},@Option.bind_none.{0,0},@j4.{0,0},@Option.map_none.{0,0},@gk,@vc,@ke⟩
def fN{b c d}(x:a)(y:b)(z:c)(u:d):a/\b/\c/\d:=⟨x,y,z,u⟩
def Kk{p q a0:Prop}(x0:a0)(h:q)(e:a0->q->p:=by intro f0 hh;simp -failIfUnchanged -implicitDefEqProofs (disch:=first|assumption|decide|omega) only[jH,oD,oE,↓reduceIte,Nat.reduceEqDiff,Nat.reduceAdd,Nat.reduceLT,Nat.reduceLeDiff,f0];exact hh):p:=e x0 h
def aG0{p q a b:Prop}(x:a)(y:b)(h:q)(e:a/\b->q->p:=by intro f h;exact Kk f h):p:=e ⟨x,y⟩ h
def aG1{p q a b c d:Prop}(x:a)(y:b)(z:c)(u:d)(h:q)(e:a/\b/\c/\d->q->p:=by intro f h;exact Kk f h):p:=e ⟨x,y,z,u⟩ h
def Kl{p q a b c d f:Prop}(x:a)(y:b)(z:c)(u:d)(v:f)(h:q)(e:a/\b/\c/\d/\f->q->p:=by intro f h;exact Kk f h):p:=e ⟨x,y,z,u,v⟩ h
def aG2{p q a b c d f g i:Prop}(x:a)(y:b)(z:c)(u:d)(v:f)(w:g)(r:i)(h:q)(e:a/\b/\c/\d/\f/\g/\i->q->p:=by intro f h;exact Kk f h):p:=e ⟨x,y,z,u,v,w,r⟩ h
def apd{p q a b c d f g i j:Prop}(x:a)(y:b)(z:c)(u:d)(v:f)(w:g)(r:i)(s:j)(h:q)(e:a/\b/\c/\d/\f/\g/\i/\j->q->p:=by intro f h;exact Kk f h):p:=e ⟨x,y,z,u,v,w,r,s⟩ h
def ape{p q a b c d f g i j k:Prop}(x:a)(y:b)(z:c)(u:d)(v:f)(w:g)(r:i)(s:j)(t:k)(h:q)(e:a/\b/\c/\d/\f/\g/\i/\j/\k->q->p:=by intro f h;exact Kk f h):p:=e ⟨x,y,z,u,v,w,r,s,t⟩ h
end
open Go.ChangeShapes Go.WideShapes Go.ChangeAt
def wS(W:World):Cells:=λb o=>W.cell? ⟨b,o,bn⟩
section
variable{H:Type}{enc:TypeId×Value->H}{P:Program}
def ao0(hl:laidOutB P=bh){W W'}{sp}(O:Below W.heap.size W W'):∀{ts} {vs} {ds} {ps},(∀t∈ts,P.readableRec t=bh/\t<P.types.size)->
  TL enc P W 0 (λ_=>bh) bh ts vs ds ps->(∀p∈ps,p.block<W.heap.size)->(∀p∈ps,sp p.block=bh)->TL enc P W' 0 sp bh ts vs ds ps
 |[],[],[],_,_,h,_,_=>h
 |t::ts,v::vs,d::ds,ps,ht,⟨p,q,Y,V,e⟩,cQ,gJ=>by
  subst e;exact⟨p,q,WideElems.Trod_stays hl (ht t af).1 (ht t af).2 Y (λx I=>O.same (cQ x aA)) (λx I=>gJ x aA),(ao0 hl O (λu hu=>ht u (by simp[hu])) V (λx I=>cQ x aA) (λx I=>gJ x aA)),rfl⟩
def arU{W W'}(O:Below W.heap.size W W')(aB7):W.keptBut W' aB7:=by
 refine⟨O.os,O.output,λi Q=>?_⟩;rw[O.block i Q];split;rename_i a b c a' b' c' Y V;rw[Y] at V;cases V;exact⟨rfl,rfl,rfl,λ_ _=>rfl⟩;rename_i Y V;rw[Y] at V;cases V;exact bF ⟨rfl,rfl⟩;rfl
def arS{W W'}(O:Below W.heap.size W W'){b off}(h:b<W.heap.size):W'.frozen? ⟨b,off,bn⟩=W.frozen? ⟨b,off,bn⟩:=by
 unfold abA;rw[O.block b h]
def aAW{f}{fn}{s:ChangeSpec}{tb}(hl:laidOutB P=bh)(ahN:P.underlying tb=a_ .bool)(Rj:fn.resultTypes= #[tb])
  (aw5:∀t∈fn.params.toList,P.readableRec t=bh/\t<P.types.size) (ahT:s.vars=[]) {W} {args} {ds gs} {Af}
  (axh:∀gs,gs=[]->s.fn H (ds++gs)={results:=[.lit (.bool bh)],args:=ds}) (hW:DataW.Whole enc P fn.params.toList s.vars bf W args.toList ds gs Af)
  {eK} (hT:Fl W) (J:cY (wS W) P f eK (.v (.bool bh))) (D:dB (wS W) [] [] eK args.toList):
  Calls P f args W λe W'=>∃v,e=.returned v/\s.post enc P fn bf bh bf bf W args v W':=by
 have DN:=J.2 (wS W) W args.toList ⟨λb o v h=>h,hT⟩ (λb o v h=>h) D;rw[Array.toArray_toList] at DN;refine DN.mono λe W' ⟨bI,v',he,_,_,_,O,iL,_⟩=>?_;cases iL;subst he;refine⟨_,rfl,?_⟩;have cQ:∀p∈Af,p.block<W.heap.size:=λp J=>hW.lt p J;have Ww:=hW;obtain⟨p,q,hA,hV,rfl,hz,hn⟩:=hW;rw[ahT] at hV;obtain⟨rfl,rfl⟩:=trodVars_none hV;have hs:=axh [] rfl;have oS:∀sp:Nat->Bool,(∀x∈p++[],sp x.block=bh)->TL enc P W' 0 sp bh fn.params.toList args.toList ds p:=λsp gJ=>
  ao0 hl O aw5 hA (λx I=>cQ x aA) (λx I=>gJ x aA)
 have ahI:∀(b) (sp) (hd),TL enc P W' b sp hd fn.resultTypes.toList ((Value.bool bh).resultList fn.resultTypes.size) [.lit (.bool bh)] []:=λb sp hd=>by
  rw[Rj];exact trodAll_cons_mk (shut_bool ahN _) trodAll_mk0
 have ahS:∀sp,DataW.TrodVars enc P W' sp s.vars [] []:=λsp=>by rw[ahT];rfl
 refine⟨ds,[],p++[],[],p,[],Ww,?_,?_,?_,arU O _,λ_=>?_⟩;rw[hs];exact ahI _ _ _;rw[hs];exact oS _ (λx I=>by simpa using cQ x I);rw[hs];exact ahS _;refine⟨ok_one Rj rfl (okWide_bool_mk ahN _),_,_,([]++p)++[],⟨[]++p,[],trodAll_append (oS _ (λ_ _=>rfl)) (ahI _ _ _),by simpa using ahS _,af,?_,?_⟩,?_⟩;intro b off bl;rw[arS O (show b<W.heap.size from cQ (.cell b off) (by simpa using bl))];exact hz b off (by simpa using bl);intro ha;cases ha;intro x I _;simpa using I
def aEb{a}{C}{os:Os}{f}{fn}{s}{aeJ}{apart fresh agL ac_}{X:World->Array Value->Prop}
  (hX:∀(w w') (args),w.heap=w'.heap->X w args->X w' args)
  (own:ownKnob C.prog.godebug=bn) (N_:os.Started) (aCC:C.prog.inits.idxOf? f=bn) (qO:C.prog.funcs[f]?=a_ fn)
  (aGZ:∃(w:World) (tape:Tape) (i:Input),w.os=os/\(w.forCall tape i).Shaped C.prog/\i.vars=[]/\Input.okWide C.prog (w.forCall tape i) .any w.heap.size f i/\
    ((s.pre enc C.prog fn aeJ apart (w.forCall tape i).memory i.args/\X (w.forCall tape i).memory i.args)/\sizedMet enc C.prog fn (abu s) apart (w.forCall tape i).memory i.args)/\a.holds C.prog (lone (Frame.enter C.prog f i.args .normal) [] (w.forCall tape i)))
  (asY:∀(W) (base) (args) (ds gs) (Af),
    (∀(j:Nat) t v,fn.params[j]?=a_ t->args[j]?=a_ v->HD C.prog W .any base t v)->
    DataW.Whole enc C.prog fn.params.toList s.vars apart W args.toList ds gs Af->X W args->W.ShapedOpen C.prog->
    Calls C.prog f args W λe W'=>∃v,e=.returned v/\s.post enc C.prog fn apart fresh agL ac_ W args v W'):
  ReturnsInHanded a C os f .any (λw args=>(s.pre enc C.prog fn aeJ apart w args/\X w args)/\sizedMet enc C.prog fn (abu s) apart w args) (s.post enc C.prog fn apart fresh agL ac_):=by
 refine returnsInHanded_of_calls own N_ aCC aGZ ?_;intro w tape i _ jZ _ fM qR aID;obtain⟨_,_,_,at5,av6,_,_,_,_,AX⟩:=fM;have e:at5=fn:=mB (av6.symm.trans qO);subst e;obtain⟨⟨⟨ds,gs,Af,hw,T⟩,I⟩,hz⟩:=qR;refine(asY (w.forCall tape i) w.heap.size i.args ds gs Af AX (DataW.Whole.of_heap (w':=w.forCall tape i) (by rfl) hw) (hX _ _ _ (by rfl) I) jZ).mono λe W' ⟨v,he,J⟩=>?_;subst he;exact ChangeSpec.post_blind J
end
inductive wR where
 |i (k:IntKind)
 |b
 |s
 |sl (e:List wR)
inductive wU(W:World):wR->Value->Prop
 |i {k:IntKind} {n:Int} (h:(Lit.int k n).wf=bh):wU W (.i k) (.int k n)
 |b {x:Bool}:wU W .b (.bool x)
 |s {x:ByteArray} (h:x.size<=maxLen):wU W .s (.string x)
 |nil {e:List wR}:wU W (.sl e) (.slice bn 0 0)
 |sl {e:List wR} {a:Addr} {len cap:Nat} (g:Nat->Nat->Value) (hl:len<=cap) (T:cap<=maxLen) (gJ:0<len->0<e.length->a.spot=bn)
  (hC:∀i j c,i<len->e[j]?=a_ c->W.cell? ⟨a.block,a.off+i*e.length+j,bn⟩=a_ (g i j))
  (hR:∀i j c,i<len->e[j]?=a_ c->wU W c (g i j)):wU W (.sl e) (.slice (a_ a) len cap)
def pg(W:World)(L:List wR)(Z:List Value):Prop:=L.length=Z.length/\∀(i:Nat) c v,L[i]?=a_ c->Z[i]?=a_ v->wU W c v
def Qt(P:Program)(g:TypeId->Option (List wR)):List Field->Nat->Option (List wR)
 |[],_=>a_ []
 |f::r,off=>if f.offset=off then match g f.type with
   |some l=>if P.cellsOf f.type=l.length then(Qt P g r (off+l.length)).map (l++ ·) else bn
   |none=>bn
  else bn
def EC:Nat->List wR->List wR
 |0,_=>[]
 |n+1,l=>l++EC n l
def FN(P:Program):Nat->TypeId->Option (List wR)
 |0,_=>bn
 |f+1,t=>match P.underlying t with
  |some (.int k)=>a_ [.i k]
  |some .bool=>a_ [.b]
  |some .string=>a_ [.s]
  |some (.slice e)=>match FN P f e with
   |some l=>if P.cellsOf e=l.length then a_ [.sl l] else bn
   |none=>bn
  |some (.struct fs)=>match Qt P (FN P f) fs.toList 0 with
   |some l=>if P.cellsOf t=l.length then a_ l else bn
   |none=>bn
  |some (.array n e)=>match FN P f e with
   |some l=>if P.cellsOf e=l.length/\P.cellsOf t=n*l.length then a_ (EC n l) else bn
   |none=>bn
  |_=>bn
section
variable{H:Type}{enc:TypeId×Value->H}{P:Program}{W:World}{sp:Nat->Bool}{Md:Bool}
def aea{L L'}{Z cs'}(h:pg W L Z)(h':pg W L' cs'):pg W (L++L') (Z++cs'):=by
 refine⟨by simp[h.1,h'.1],λi c v T hv=>?_⟩
 rcases en i L.length with Q|Q
 rw[fT Q] at T;rw[fT (by rw[<-h.1];exact Q)] at hv;exact h.2 i c v T hv;rw[fY Q] at T;rw[fY (by rw[<-h.1];exact Q),<-h.1] at hv;exact h'.2 _ c v T hv
def Le{c}{v}(h:wU W c v):pg W [c] [v]:=⟨rfl,λi c' v' T hv=>by
 cases i with
 |zero=>simp at T hv;subst T;subst hv;exact h
 |succ i=>simp at T⟩
def aD3(n)(l):(EC n l).length=n*l.length:=by
 induction n with
 |zero=>simp[EC]
 |succ n ih=>simp only[EC,ec,ih,tZ];omega
def ae4{α:Type}(Z:List α)(off n):Z.drop off=(Z.drop off).take n++Z.drop (off+n):=by
 conv=>lhs;rw[<-OP n (Z.drop off)]
 rw[yg]
def af1{g}{Z:List Value}{R:TypeId->List Value->Prop}(hg:∀t l v,g t=a_ l->R t v->pg W l v):
  ∀(fs) (off) (L),Qt P g fs off=a_ L->(∀f∈fs,R f.type ((Z.drop f.offset).take (P.cellsOf f.type)))->(Z.drop off).length=L.length->pg W L (Z.drop off)
 |[],off,L,h,_,hl=>by
  cases h;have:Z.drop off=[]:=nZ hl;rw[this];exact⟨rfl,λi c v T=>aLv⟩
 |f::r,off,L,h,hR,hl=>by
  simp only[Qt] at h;split at h;rename_i awS;subst awS;split at h;rename_i l kO;split at h;rename_i hn;simp only[dx] at h;obtain⟨L',tv,rfl⟩:=h;rw[ae4 Z f.offset (P.cellsOf f.type)];refine aea (hg _ _ _ kO (hR f af)) ?_;rw[hn];refine af1 hg r (f.offset+l.length) L' tv (λf' eY=>hR f' (by simp[eY])) ?_;simp only[ec,tX] at hl⊢;omega;cases h;cases h;cases h
def am1{l}{Z:List Value}(n):∀(k i),k+i=n->(∀j,j<n->pg W l ((Z.drop (j*l.length)).take l.length))->(Z.drop (i*l.length)).length=k*l.length->pg W (EC k l) (Z.drop (i*l.length))
 |0,i,_,_,hl=>by
  have:Z.drop (i*l.length)=[]:=nZ (by rw[hl];simp);rw[this];exact⟨rfl,λi c v T=>by simp[EC] at T⟩
 |k+1,i,S,hR,hl=>by
  rw[ae4 Z (i*l.length) l.length];refine aea (hR i aa) ?_;have e:i*l.length+l.length=(i+1)*l.length:=by rw[tZ]
  rw[e];refine am1 n k (i+1) aa hR ?_;rw[<-e];simp only[tX,tZ] at hl⊢;omega
def aeb{a}{n}{Z}(h:W.cells? 0 a n=a_ Z):Z.length=n/\∀j,j<n->W.cell? (a.add j)=Z[j]? :=by
 unfold World.cells? at h;rw[if_pos (js _)] at h;exact⟨by simpa using mapM_some_length h,λj hj=>mapM_some_get h j j aLJ⟩
def aq6(a:Addr)(n)(h:a.spot=bn):a.add n=⟨a.block,a.off+n,bn⟩:=by
 cases a with
 |mk b o s=>simp at h;subst h;rw[addr_add]
def asg{a}{v}(h:W.cell? a=a_ v):a.spot=bn:=by
 unfold HE at h;split at h;split at h;cases h;rename_i hs;simpa using hs;cases h
def Oe:∀(d) (t) (L),FN P d t=a_ L->∀(om) (Z) (x),TM enc P W 0 sp Md om t Z=a_ x->pg W L Z
 |0,t,L,h=>aE
 |d+1,t,L,h=>by
  intro om Z x I;simp only[FN] at h;split at h;rename_i k ht;cases h;obtain⟨n,rfl,_,hw⟩:=DataW.trod_int ht I;exact Le (.i hw);rename_i ht;cases h;obtain⟨n,rfl,_⟩:=DataW.trod_bool ht I;exact Le .b;rename_i ht;cases h;obtain⟨n,rfl,_,hw⟩:=DataW.trod_string ht I;exact Le (.s hw);rename_i e ht;split at h;rename_i l hl;split at h;rename_i hn;cases h
  rcases DataW.trod_slice ht I with⟨rfl,_⟩|⟨a,len,cap,aH6,rest,n,rfl,rfl,_,_,fX,WR,tB,k9,_,_⟩
  exact Le .nil
  · rw[hn] at k9
    have each:∀i,i<len->∃ci,W.cells? 0 (a.add (i*l.length)) l.length=a_ ci/\pg W l ci:=λi Q=>by
     have Y:=k9 i Q;rw[cz aa] at Y;simp only[gO] at Y;obtain⟨ci,c1,c2⟩:=Y;exact⟨ci,c1,Oe d e l hl n ci _ c2⟩
    have gJ:0<len->0<l.length->a.spot=bn:=λh0 Y=>by
     obtain⟨ci,c1,_⟩:=each 0 h0;obtain⟨q1,bt⟩:=aeb c1;have bS:=bt 0 Y;rw[cz aa] at bS;have hJ:(a.add (0*l.length)).add 0=a:=by simp[Addr.add]
     rw[hJ] at bS;exact asg bS
    refine Le (.sl (λi j=>(W.cell? ⟨a.block,a.off+i*l.length+j,bn⟩).getD (.int .i64 0)) fX WR gJ (λi j c Q hj=>?_) (λi j c Q hj=>?_))
    all_goals
     have kR:=(cL.1 hj).1;obtain⟨ci,c1,c2,c3⟩:=each i Q;obtain⟨q1,bt⟩:=aeb c1;have bS:=bt j kR;rw[aq6 a _ (gJ aa aa),addr_add] at bS;rw[cz aa] at bS;simp only[bS,wO]
    exact c3 j c _ hj (cz aa)
  cases h;cases h;rename_i fs ht;split at h;rename_i l hl;split at h;rename_i hn;cases h;obtain⟨xs,n,rfl,_,c6,dD,k9⟩:=DataW.trod_struct ht I;have:=af1 (R:=λt v=>∃x,TM enc P W 0 sp Md n t v=a_ x) (λt l v hg I=>by
   obtain⟨x,I⟩:=I;exact Oe d t l hg n v x I) fs.toList 0 _ hl (λf hf=>by
   obtain⟨i,Q,rfl⟩:=HH hf;have jP:i<fs.size:=aY
   have:=k9 i fs[i] (by simp[jP]);rw[List.getElem?_eq_getElem aa] at this;exact⟨_,by simpa using this⟩) (by rw[o9];omega)
  rwa [o9] at this
  cases h;cases h;rename_i n e ht;split at h;rename_i l hl;split at h;rename_i hn;cases h;obtain⟨xs,m,rfl,_,c6,dD,k9⟩:=DataW.trod_array ht I;have:=am1 n n 0 aa (λj hj=>by
   have Y:=k9 j hj;rw[cz aa,hn.1] at Y;exact Oe d e l hl m _ _ Y) ah
  simpa using this;cases h;cases h;cases h
def ads{d}:∀{ts} {HR} {vs} {ds} {ps},ts.mapM (FN P d)=a_ HR->TL enc P W 0 sp Md ts vs ds ps->
  vs.length=HR.length/\ds.length=HR.length/\∀(i:Nat) L v,HR[i]?=a_ L->vs[i]?=a_ v->pg W L v.cells.toList
 |[],HR,[],[],_,h,_=>by
  simp at h;subst h;exact⟨rfl,rfl,λi L v h=>au⟩
 |t::ts,HR,v::vs,x::ds,ps,h,⟨p,q,⟨om,Y⟩,V,_⟩=>by
  simp only[List.mapM_cons,Option.pure_def,Option.bind_eq_bind,gO,n6] at h;obtain⟨L,hL,aHD,avp,rfl⟩:=h;obtain⟨e1,e2,dr⟩:=ads avp V;refine⟨aJ3,by simp[e2],λi L' v' tv Jc=>?_⟩;cases i with
  |zero=>simp at tv Jc;subst tv;subst Jc;exact Oe d t L hL om _ _ Y
  |succ i=>simp at tv Jc;exact dr i L' v' tv Jc
end
section
variable{J:List br}{f:FuncId}{t:TypeId×Nat}{k:Nat}{z:List bg}
section
variable{G:Cells}{P:Program}
structure OW(P:Program)(f:FuncId)(t:TypeId×Nat):Prop where
 enters:Enters P f
 fresh:∀b w,w.cell? ⟨b,0,bn⟩=a_ (.pointer bn)->w.shape? b=a_ t->w.frozen? ⟨b,0,bn⟩=bf->
  Calls P f #[.pointer (a_ ⟨b,0,bn⟩)] w λe w'=>e=.returned (.tuple #[])/\w'=w.setCell ⟨b,0,bn⟩ (.pointer (a_ ⟨b,0,bn⟩))
 used:∀b w,w.cell? ⟨b,0,bn⟩=a_ (.pointer (a_ ⟨b,0,bn⟩))->
  Calls P f #[.pointer (a_ ⟨b,0,bn⟩)] w λe w'=>e=.returned (.tuple #[])/\w'=w
def am3{C}{M}:bP C M J (.bQ []) (.tuple #[]):=.bQ rfl λi a b ha O=>by simp at ha
def ad3(hS:OW P f t)(S:J[k]?=a_ (.cells (.iH k t::z) bf)):
  cq G P f [.mp k 0] J λr bl=>r=.bQ []/\bl=J.set k (.cells (.mp k 0::z) bf):=by
 refine⟨hS.enters,λbase w0 C M w c_ hs D=>?_⟩;obtain⟨hl,hh⟩:=D
 match c_,hl,hh with
 |[v],_,hh=>
  cases(hh 0 _ _ rfl rfl) with
  |@mp _ _ L Z O hM=>
   obtain⟨_,_,h3,h4,_,_,h7⟩:=hs.cells k _ _ L S hM;obtain⟨c',h5,h6⟩:=h3 0 (.iH k t) rfl;generalize I:bg.iH k t=x at h6;cases h6 with
   |@iH k' L' cs' hb' eA=>
    cases I;rw[hM] at eA;cases eA;refine(hS.fresh L.b w h5 h7 (h4 0)).mono ?_;rintro e w' ⟨rfl,rfl⟩;obtain⟨bK,dU⟩:=hs.store S hM 0 [.mp k 0] [.pointer (a_ ⟨L.b,0,bn⟩)] ⟨rfl,λi a b ha ju=>by
     cases i with
     |zero=>simp at ha ju;subst ha;subst ju;exact .mp S hM
     |succ i=>simp at ha⟩ af
    exact⟨C,M,_,.bQ [],.tuple #[],⟨rfl,rfl⟩,rfl,bK,dU,am3⟩
   |_=>cases I
def ad6(hS:OW P f t)(S:J[k]?=a_ (.cells (.mp k 0::z) bf)):
  cq G P f [.mp k 0] J λr bl=>r=.bQ []/\bl=J:=by
 refine⟨hS.enters,λbase w0 C M w c_ hs D=>?_⟩;obtain⟨hl,hh⟩:=D
 match c_,hl,hh with
 |[v],_,hh=>
  cases(hh 0 _ _ rfl rfl) with
  |@mp _ _ L Z O hM=>
   obtain⟨_,_,h3,_⟩:=hs.cells k _ _ L S hM;obtain⟨c',h5,h6⟩:=h3 0 (.mp k 0) rfl;generalize I:cD k 0=x at h6;cases h6 with
   |@mp k' off L' cs' hb' eA=>
    cases I;rw[hM] at eA;cases eA;refine(hS.used L.b w h5).mono ?_;rintro e w' ⟨rfl,rfl⟩;exact⟨C,M,_,.bQ [],.tuple #[],⟨rfl,rfl⟩,rfl,o7 _ _ _,hs,am3⟩
   |_=>cases I
end
end
section
variable{P:Program}
def aBs{e}(T:P.cellsOf e=1)(count o n)(hn:o+n<=count):liesAt P P.depth e count o e n=bh:=by
 have hd:P.depth=(2*(P.types.size+Made.depth)+1)+1:=rfl;rw[hd];simp only[liesAt,Hx];left;rw[hd];simp[rowAt,T,hn,sameLayout,Nat.mod_one]
def aEG{w}(pt it ty e)(J:P.underlying pt=a_ (.pointer e))(T:P.cellsOf e=1)(g o cells)(jZ:w.shape? g=a_ (e,cells))(l)(h0:l≠[])(hn:o+l.length<=cells)(FU:l.length<=9223372036854775807)
  (pM:∀(j) x,l[j]?=a_ x->w.cell? ((⟨g,o,bn⟩:Addr).add j)=a_ (.int .u8 x.toNat)):
  (abj #[pt,it] ty #[.pointer (a_ ⟨g,o,bn⟩),.int .i64 l.length]).run P w=.ok (.string ⟨l.toArray⟩) (w.freeze ⟨g,o,bn⟩ l.length):=by
 have avd:¬(9223372036854775807:Int)<(l.length:Int):=aa
 have awJ:de.max=9223372036854775807:=rfl;have aht:¬(l.length:Int)<0:=aa
 rw[(@id (abj #[pt,it] ty #[.pointer (a_ ⟨g,o,bn⟩),.int .i64 l.length]=(asInt (.int .i64 l.length)>>=_)) rfl)];simp[asInt,asIntOf,awJ,avd,aht,(by simpa using h0),variablesAt,jZ,elemOf,run_underlying J,aBs (P:=P) T (cells/P.cellsOf e) o l.length (by rw[T];simpa using hn),Lib.run_loadBytes (P:=P) w l ⟨g,o,bn⟩ .empty pM]
end
section
variable{f:FuncId}{e:TypeId}{k:Nat}{c0:bg}{J:List br}
section
variable{G:Cells}{P:Program}
structure Pg(P:Program)(f:FuncId)(e:TypeId):Prop where
 enters:Enters P f
 got:∀(b g o cap cells:Nat) (l:List UInt8) (w:World),w.cell? ⟨b,1,bn⟩=a_ (.slice (a_ ⟨g,o,bn⟩) l.length cap)->l≠[]->l.length<=cap->w.shape? g=a_ (e,cells)->o+l.length<=cells->
  l.length<=140737488355328->
  (∀(j:Nat) x,l[j]?=a_ x->w.cell? ((⟨g,o,bn⟩:Addr).add j)=a_ (.int .u8 x.toNat))->
  Calls P f #[.pointer (a_ ⟨b,0,bn⟩)] w λr w'=>r=.returned (.string ⟨l.toArray⟩)/\w'=w.drew.freeze ⟨g,o,bn⟩ l.length
 al6:∀(b:Nat) (w:World),w.cell? ⟨b,1,bn⟩=a_ (.slice bn 0 0)->
  Calls P f #[.pointer (a_ ⟨b,0,bn⟩)] w λr w'=>r=.returned (.string .empty)/\w'=w.drew
def ad4(hS:Pg P f e){id}{l}(S:J[k]?=a_ (.cells [c0,.sl (l.map λc=>.v (.int .u8 c.toNat)) (.tok id)] bf))(hid:J[id]?=a_ (.tok l.length 1 e))
  (h0:l≠[]) (II:l.length<=140737488355328):
  cq G P f [.mp k 0] J λr bl=>r=.v (.string ⟨l.toArray⟩)/\bl=J:=by
 refine⟨hS.enters,λbase w0 C M w c_ hs D=>?_⟩;obtain⟨hl,hh⟩:=D
 match c_,hl,hh with
 |[v],_,hh=>
  cases(hh 0 _ _ rfl rfl) with
  |@mp _ _ L Z O hM=>
   obtain⟨_,_,h3,_⟩:=hs.cells k _ _ L S hM;obtain⟨c',h5,h6⟩:=h3 1 (.sl (l.map λc=>.v (.int .u8 c.toNat)) (.tok id)) rfl;generalize I:bg.sl (l.map λc=>cI (.int .u8 c.toNat)) (.tok id)=x at h6;cases h6 with
   |@sl xs t a cap sz fv gJ dD hC hR hT iq=>
    cases I;rw[cM] at*;obtain⟨n,s,ty,L',q1,bt,bS,fk,hJ⟩:=hT;rw[hid] at q1;cases q1;obtain⟨ZM,EB,xU,_⟩:=hJ rfl;obtain⟨ab,ao,Di⟩:=a;cases ZM;have bR:l.map (λc=>cI (.int .u8 c.toNat))≠[]:=by simpa using h0
    have vQ:0<l.length:=by cases l with|nil=>exact(h0 rfl).elim|cons _ _=>simp
    have sF:sz=1:=by
     rcases fk with q|q
     omega;exact q
    subst sF;obtain⟨_,_,_,_,_,axo⟩:=hs.toks id _ _ _ L' hid bt;obtain⟨cells,jZ⟩:=axo.shape;have pM:∀(j) x,l[j]?=a_ x->w.cell? ((⟨ab,ao,bn⟩:Addr).add j)=a_ (.int .u8 x.toNat):=by
     intro j x hj;have hm:(l.map (λc=>cI (.int .u8 c.toNat)))[j]?=a_ (.v (.int .u8 x.toNat)):=aLJ
     have Y:=hs.nL _ _ _ (hC j _ 0 _ hm rfl);have V:=hR j _ 0 _ hm rfl;rw[addr_add];simp only[Nat.mul_one,vc] at Y;rw[Y];generalize hg:fv j 0=y at V;cases V;rfl
    have hfit:ao+l.length<=cells:=by
     obtain⟨x,I⟩:∃x,l[l.length-1]?=a_ x:=⟨_,cz aa⟩;have Y:=pM _ _ I;rw[addr_add] at Y;rw[EB.symm] at jZ;unfold HE at Y;unfold OL at jZ;dsimp only at Y jZ;cases hw:w.heap[ab]? with
     |none=>rw[hw] at Y;cases Y
     |some gA=>
      rw[hw] at Y jZ;cases gA with
      |cells d t fr=>
       simp only[n6,wP] at jZ;simp only[Bx,ke,if_false] at Y;have:=(zG.1 Y).1;omega
      |_=>cases Y
    refine(hS.got L.b ab ao cap cells l w h5 h0 iq (by rw[<-EB] at jZ;exact jZ) hfit II pM).mono ?_;rintro r w' ⟨rfl,rfl⟩;exact⟨C,M,_,.v (.string ⟨l.toArray⟩),.string ⟨l.toArray⟩,⟨rfl,rfl⟩,rfl,o7 _ _ _,hs.drew.aue hid bt EB.symm (by dsimp only at xU⊢;omega),.v rfl⟩
   |_=>cases I
def ad5(hS:Pg P f e)(S:J[k]?=a_ (.cells [c0,.bp] bf)):
  cq G P f [.mp k 0] J λr bl=>r=.v (.string .empty)/\bl=J:=by
 refine⟨hS.enters,λbase w0 C M w c_ hs D=>?_⟩;obtain⟨hl,hh⟩:=D
 match c_,hl,hh with
 |[v],_,hh=>
  cases(hh 0 _ _ rfl rfl) with
  |@mp _ _ L Z O hM=>
   obtain⟨_,_,h3,_⟩:=hs.cells k _ _ L S hM;obtain⟨c',h5,h6⟩:=h3 1 .bp rfl;cases h6;refine(hS.al6 L.b w h5).mono ?_;rintro r w' ⟨rfl,rfl⟩;exact⟨C,M,_,.v (.string .empty),.string .empty,⟨rfl,rfl⟩,rfl,o7 _ _ _,hs.drew,.v rfl⟩
end
end
section
variable{b:br}{c key l m s v x:bg}{J:List br}{b9 k n:Nat}{e:TypeId}{α:Type}{bN:Bool}{z:List bg}{ks:List mW}
def b8:br->br
 |.bW st pd _ _ _=>.bW st (match st with|.busy=>bn|_=>pd) [] #[] (λ_ _=>False)
 |.obj (.deferred _)=>.obj (.deferred bn)
 |b=>b
def gh(J bl:List br):Prop:=∀(k:Nat) st pd bO ps ok,J[k]?=a_ (.bW st pd bO ps ok)->∃gr lg,bl[k]?=a_ (.bW gr lg bO ps ok)
def gh.refl(J):gh J J:=λk st pd bO ps ok h=>⟨st,pd,h⟩
def gh.trans{a b c}(h:gh a b)(h':gh b c):gh a c:=λk st pd bO ps ok q=>by
 obtain⟨gr,lg,q'⟩:=h k st pd bO ps ok q;exact h' k gr lg bO ps ok q'
def A2{l}:gh J (J++l):=λk st pd bO ps ok h=>⟨st,pd,bT h⟩
def y9{b'}(S:J[k]?=a_ b)(O:∀st pd bO ps ok,b≠.bW st pd bO ps ok):gh J (J.set k b'):=λj st pd bO ps ok h=>by
 by_cases e:k=j;subst e;rw[S] at h;cases h;exact(O _ _ _ _ _ rfl).elim;exact⟨st,pd,aLn⟩
def LC(h:(J.map b8)[k]?=a_ b):∃b0,J[k]?=a_ b0/\b8 b0=b:=by
 rwa [fR,dx] at h
def so{Z}{r}(h:(J.map b8)[k]?=a_ (.cells Z r)):J[k]?=a_ (.cells Z r):=by
 obtain⟨b,Y,V⟩:=LC h;cases b with
 |cells cs' r'=>cases V;exact Y
 |obj o=>cases o<;>cases V
 |_=>cases V
def VQ{s}(h:(J.map b8)[k]?=a_ (.tok n s e)):J[k]?=a_ (.tok n s e):=by
 obtain⟨b,Y,V⟩:=LC h;cases b with
 |tok n s e=>cases V;exact Y
 |obj o=>cases o<;>cases V
 |_=>cases V
def afg{es}{cB}(h:(J.map b8)[k]?=a_ (.eO es cB)):J[k]?=a_ (.eO es cB):=by
 obtain⟨b,Y,V⟩:=LC h;cases b with
 |eO es cB=>cases V;exact Y
 |obj o=>cases o<;>cases V
 |_=>cases V
def afe{s}{p}(h:(J.map b8)[k]?=a_ (.obj (.stringIter s p))):J[k]?=a_ (.obj (.stringIter s p)):=by
 obtain⟨b,Y,V⟩:=LC h;cases b with
 |obj o=>cases o<;>cases V;exact Y
 |_=>cases V
def aff{st}{pd}{bO}{ps}{ok}(h:(J.map b8)[k]?=a_ (.bW st pd bO ps ok)):
  ∃lg K8 ps' Nz,J[k]?=a_ (.bW st lg K8 ps' Nz)/\(st≠.busy->lg=pd):=by
 obtain⟨b,Y,V⟩:=LC h;cases b with
 |bW gr lg K8 ps' Nz=>
  simp only[b8,br.bW.injEq] at V;obtain⟨rfl,h3,_⟩:=V;exact⟨lg,K8,ps',Nz,Y,λbR=>by cases gr<;>first|exact h3|exact(bR rfl).elim⟩
 |obj o=>cases o<;>cases V
 |_=>cases V
def cJ(f:List br->Option (bg×List br)):Prop:=∀J v hE,f (J.map b8)=a_ (v,hE)->∃bl,f J=a_ (v,bl)/\bl.map b8=hE/\gh J bl
def cJ.const(x:Option bg):cJ λJ=>x.map λr=>(r,J):=λJ v hE h=>by
 simp only[dx,wP] at h;obtain⟨r,Y,rfl,rfl⟩:=h;exact⟨J,aKO,rfl,gh.refl J⟩
def cJ.bind(x:Option α){g:α->List br->Option (bg×List br)}(hg:∀a,cJ (g a)):cJ λJ=>x.bind λa=>g a J:=λJ v hE h=>by
 simp only[gO] at h;obtain⟨a,Y,V⟩:=h;obtain⟨bl,q1,bt,bS⟩:=hg a J v hE V;exact⟨bl,by simp[Y,q1],bt,bS⟩
def cJ.U6(x:Option α)(g:α->bg):cJ λJ=>x.map λa=>(g a,J):=λJ v hE h=>by
 simp only[dx,wP] at h;obtain⟨a,Y,rfl,rfl⟩:=h;exact⟨J,aKO,rfl,gh.refl J⟩
def cJ.push(x:Option α)(g:Nat->α->bg)(b:α->br)(O:∀a,b8 (b a)=b a):cJ λJ=>x.map λa=>(g J.length a,J++[b a]):=λJ v hE h=>by
 simp only[dx,wP,cM] at h;obtain⟨a,Y,rfl,rfl⟩:=h;exact⟨J++[b a],aKO,aKQ,A2⟩
def cJ.none:cJ λ_=>bn:=λJ v hE h=>aE
def cJ.some(x:bg):cJ λJ=>a_ (x,J):=λJ v hE h=>by
 cases h;exact⟨J,rfl,rfl,gh.refl J⟩
def cJ.read(g:List br->Option bg)(hg:∀J x,g (J.map b8)=.some x->g J=.some x):cJ λJ=>(g J).map λr=>(r,J):=λJ v hE h=>by
 simp only[dx,wP] at h;obtain⟨r,Y,rfl,rfl⟩:=h;exact⟨J,by simp[hg J r Y],rfl,gh.refl J⟩
def cJ.ite{c}[Decidable c]{f g}(hf:c->cJ f)(hg:¬c->cJ g):cJ λJ=>if c then f J else g J:=λJ v hE h=>by
 dsimp only at h⊢;split at h;rename_i T;rw[if_pos T];exact hf T J v hE h;rename_i T;rw[if_neg T];exact hg T J v hE h
def cJ.GO(x:Nat->bg)(b)(O:b8 b=b):cJ λJ=>a_ (x J.length,J++[b]):=λJ v hE h=>by
 simp only[n6,wP,cM] at h;obtain⟨rfl,rfl⟩:=h;exact⟨J++[b],rfl,aKQ,A2⟩
def cJ.aDx(b:Nat->br)(x:Nat->bg)(O:∀k,b8 (b k)=b k):cJ λJ=>a_ (x J.length,J++[b J.length]):=λJ v hE h=>by
 simp only[n6,wP,cM] at h;obtain⟨rfl,rfl⟩:=h;exact⟨J++[b J.length],rfl,aKQ,A2⟩
def cJ.setCells{r}{g:List bg->Option (bg×List bg)}:cJ λJ=>match J[k]? with
  |.some (.cells Z r')=>if r'=r then(g Z).map λp=>(p.1,J.set k (.cells p.2 r)) else .none
  |_=>.none:=λJ v hE h=>by
 dsimp only at h⊢;split at h;rename_i Z r' S;have ga:=so S;rw[ga];dsimp only;split at h;rename_i D;rw[if_pos D];simp only[dx,wP] at h;obtain⟨p,Y,rfl,rfl⟩:=h;refine⟨J.set k (.cells p.2 r),aKO,aJR,y9 ga nofun⟩;cases h;cases h
def adh{p:bg}(h:bz (J.map b8) bN n p=a_ c):bz J bN n p=a_ c:=by
 unfold bz at h⊢;split at h;exact h;split at h;rename_i S;rw[so S];exact h;cases h;split at h;rename_i S;rw[so S];exact h;cases h;cases h
def asQ{p:bg}:cJ λJ=>(bL J n p x).map λbl=>(jF,bl):=λJ v hE h=>by
 simp only[dx,wP] at h;obtain⟨Y,q,rfl,rfl⟩:=h;have key:∀(k) (row) Z off,J[k]?=a_ (.cells Z row)->fq (J.map b8) k row Z n off x=a_ Y->∃bl,fq J k row Z n off x=a_ bl/\bl.map b8=Y/\gh J bl:=λk row Z off S hs=>by
  unfold fq at hs⊢;split at hs;rename_i T;rw[if_pos T];cases hs;exact⟨_,rfl,aJR,y9 S nofun⟩;cases hs
 unfold bL at q⊢;cases p with
 |mp k off=>
  simp only at q⊢;split at q;rename_i Z S;rw[so S];obtain⟨bl,a,b,c⟩:=key _ _ _ _ (so S) q;exact⟨bl,by simp[a],b,c⟩;cases q
 |rp k m off=>
  simp only at q⊢;split at q;rename_i Z S;rw[so S];simp only at q⊢;split at q;rename_i hm;rw[if_pos hm];obtain⟨bl,a,b,c⟩:=key _ _ _ _ (so S) q;exact⟨bl,by simp[a],b,c⟩;cases q;cases q
 |_=>cases q
def Vo{ys}:cJ λJ=>iy J n b9 e s ys:=λJ v hE h=>by
 dsimp only at h⊢;unfold iy at h⊢;cases s with
 |bp=>
  simp only[cM] at h⊢;split at h;rename_i hl;rw[if_pos hl];cases h;exact⟨_,rfl,by simp[b8],A2⟩;cases h
 |rs k m sz off len=>
  simp only at h⊢;split at h;rename_i hl;rw[if_pos hl];split at h;rename_i Z S;rw[so S];simp only at h⊢;split at h;rename_i hm;rw[if_pos hm];cases h;exact⟨_,rfl,aJR,y9 (so S) nofun⟩;cases h;cases h;cases h
 |sl xs t=>
  simp only at h⊢;split at h;rename_i hl;rw[if_pos hl];cases t with
  |exact=>
   simp only[cM] at h⊢;cases h;exact⟨_,rfl,by simp[b8],A2⟩
  |no=>cases h
  |tok id=>
   simp only at h⊢;split at h;rename_i c s' e' S;rw[VQ S];simp only at h⊢;split at h;rename_i hm;rw[if_pos hm];cases h;exact⟨_,rfl,aJR,y9 (VQ S) nofun⟩;cases h;cases h
  cases h
 |_=>cases h
def aev:cJ λJ=>gG J n b9 e s x:=λJ v hE h=>by
 dsimp only at h⊢;unfold gG at h⊢;cases QY:ij x with
 |none=>rw[QY] at h;cases h
 |some ys=>
  rw[QY] at h;simp only at h⊢;by_cases hy:ys=[];rw[if_pos hy] at h⊢
  split at h<;>first|(cases h;exact⟨J,rfl,rfl,gh.refl J⟩)|cases h
  rw[if_neg hy] at h⊢;split at h;rename_i T;rw[if_pos T];exact Vo J v hE h;cases h
def asH:cJ λJ=>ef J n b9 e s x:=by
 unfold ef;cases s with
 |rs _ _ _ _ _=>exact cJ.none
 |_=>exact aev
def asJ:cJ λJ=>BE J b9 e s x:=λJ v hE h=>by
 dsimp only at h⊢;unfold BE at h⊢;split at h;rename_i b;by_cases h0:b.size=0;rw[if_pos h0] at h⊢
 split at h<;>first|(cases h;exact⟨J,rfl,rfl,gh.refl J⟩)|cases h
 rw[if_neg h0] at h⊢;split at h;split at h;rename_i q;simp only[if_pos q];exact Vo J v hE h;cases h;split at h;rename_i q;simp only[if_pos q];exact Vo J v hE h;cases h;cases h;cases h
def asI:cJ λJ=>p7 J n b9 e s x:=by
 unfold p7;cases s with
 |bp=>
  simp only;cases ij x with
  |none=>exact cJ.none
  |some ys=>
   simp only;exact cJ.ite (λ_=>cJ.some _) λ_=>cJ.ite (λ_=>cJ.GO (λk=>.rs k (eF ys).length n 0 ys.length) _ rfl) λ_=>cJ.none
 |_=>exact aev
def asE{vs}:cJ λJ=>z1 J n vs:=by
 unfold z1;exact cJ.ite (λ_=>cJ.GO (λk=>.rs k (eF vs).length n 0 vs.length) _ rfl) λ_=>cJ.none
def asF:cJ λJ=>De J n b9 z l c:=by
 unfold De;split;exact cJ.ite (λ_=>cJ.GO (λk=>.rs k _ n 0 _) _ rfl) λ_=>cJ.none;exact cJ.none
def asG:cJ λJ=>Fo J n b9 e z l c:=by
 unfold Fo;split;exact cJ.ite (λ_=>cJ.GO (λk=>.sl [] (.tok k)) _ rfl) λ_=>cJ.none;exact cJ.none
def asL:cJ λJ=>Rx v J:=by
 unfold Rx;split;exact cJ.GO (λk=>.gA k) _ rfl;exact cJ.none
def asP:cJ λJ=>sg J v:=λJ u hE h=>by
 dsimp only at h⊢;unfold sg at h⊢;split at h;rename_i k;split at h;rename_i s pos S;rw[afe S];simp only;split at h;rename_i hl;rw[if_pos hl];cases h;exact⟨_,rfl,aJR,y9 (afe S) nofun⟩;rename_i hl;rw[if_neg hl];cases h;exact⟨_,rfl,rfl,gh.refl J⟩;cases h;cases h
def Ng{r}(h:sJ (J.map b8) m=a_ r):sJ J m=a_ r/\J[r.1]?=a_ (.eO r.2.1 r.2.2):=by
 unfold sJ at h⊢;split at h;rename_i k;split at h;rename_i es cB S;rw[afg S];cases h;exact⟨rfl,afg S⟩;cases h;cases h
def aq_{z:bg}{ok}(h:w8 (J.map b8) bN ks z ok m key=a_ x):w8 J bN ks z ok m key=a_ x:=by
 unfold w8 at h⊢;split at h;rename_i k es cB hm;rw[(Ng hm).1];exact h;cases h
def arh(h:Dc (J.map b8) m=a_ x):Dc J m=a_ x:=by
 unfold Dc at h⊢;split at h;rename_i k es cB hm;rw[(Ng hm).1];exact h;cases h
def asO:cJ λJ=>(yJ J bN ks m key x).map λbl=>(jF,bl):=λJ v hE h=>by
 simp only[dx,wP] at h;obtain⟨Y,q,rfl,rfl⟩:=h;dsimp only;unfold yJ at q⊢;split at q;rename_i k es cB hm;obtain⟨m1,m2⟩:=Ng hm;rw[m1];simp only;split at q;rename_i T;rw[if_pos T];split at q;cases q;exact⟨_,rfl,aJR,y9 m2 nofun⟩;cases q;exact⟨_,rfl,aJR,y9 m2 nofun⟩;cases q;cases q;cases q
def asN{z:bg}:cJ λJ=>Ib J bN ks z m key:=λJ v hE q=>by
 dsimp only at q⊢;unfold Ib at q⊢;split at q;rename_i k es cB hm;obtain⟨m1,m2⟩:=Ng hm;rw[m1];simp only;split at q;rename_i T;rw[if_pos T];split at q;cases q;exact⟨_,rfl,aJR,y9 m2 nofun⟩;cases q;exact⟨_,rfl,aJR,y9 m2 nofun⟩;cases q;cases q;cases q
def asK{st:bg}:cJ λJ=>(Ia J m st x).map λbl=>(jF,bl):=λJ v hE h=>by
 simp only[dx,wP] at h;obtain⟨Y,q,rfl,rfl⟩:=h;dsimp only;unfold Ia at q⊢;split at q;rename_i k es cB _ n hm;obtain⟨m1,m2⟩:=Ng hm;rw[m1];simp only;split at q;cases q;exact⟨_,rfl,aJR,y9 m2 nofun⟩;cases q;cases q
def asM:cJ λJ=>cH v J:=by
 unfold cH;split;exact cJ.none;exact cJ.const _
def aew{e}{o}:cJ λJ=>cy e J o:=by
 cases o<;>simp only[cy]
 case mv x=>exact cJ.const _
 case pick c a b=>exact cJ.bind _ λc=>cJ.const _
 case alloc z=>exact cJ.GO (λk=>.mp k 0) _ rfl
 case z8 t z=>exact cJ.aDx (λk=>.cells (.iH k t::z) bf) (λk=>.mp k 0) λ_=>rfl
 case box x=>exact cJ.push _ (λk _=>.mp k 0) (λr:bg=>.cells r.cells bf) λ_=>rfl
 case build z ps=>exact cJ.bind _ λl=>cJ.U6 _ _
 case Ah n vs=>exact cJ.bind _ λl=>cJ.const _
 case fA bN n x=>exact cJ.bind _ λx=>cJ.read (λJ=>bz J bN n x) λJ y h=>adh h
 case st n p x=>exact cJ.bind _ λp=>cJ.bind _ λx=>asQ
 case app n b9 ty s x=>exact cJ.bind _ λs=>cJ.bind _ λx=>asH
 case A5 f a b=>exact cJ.bind _ λa=>cJ.U6 _ _
 case xd n vs=>exact cJ.bind _ λl=>asE
 case BF n b9 ty s x=>exact cJ.bind _ λs=>cJ.bind _ λx=>asI
 case Ad b9 ty s x=>exact cJ.bind _ λs=>cJ.bind _ λx=>asJ
 case A6 n b9 ty z l c=>exact cJ.bind _ λl=>cJ.bind _ λc=>asF
 case Ch n b9 ty z l c=>exact cJ.bind _ λl=>cJ.bind _ λc=>asG
 case Ce t x=>exact cJ.U6 _ _
 case iter x=>exact cJ.bind _ λx=>asL
 case next x=>exact cJ.bind _ λx=>asP
 case Cg=>exact cJ.GO (λk=>.gb k) _ rfl
 case Ep x=>exact cJ.bind _ λx=>cJ.read (λJ=>Dc J x) λJ y h=>arh h
 case B_ bN ks z ok m k=>exact cJ.bind _ λm=>cJ.bind _ λk=>cJ.read (λJ=>w8 J bN ks z ok m k) λJ y h=>aq_ h
 case xN bN ks m k x=>exact cJ.bind _ λm=>cJ.bind _ λk=>cJ.bind _ λx=>asO
 case A4 bN ks z m k=>exact cJ.bind _ λm=>cJ.bind _ λk=>asN
 case Dx m st x=>exact cJ.bind _ λm=>cJ.bind _ λst=>cJ.bind _ λx=>asK
 case len x=>exact cJ.bind _ λx=>asM
 case rK x=>
  refine cJ.bind _ λx=>?_;unfold rK;split;exact cJ.some _;exact cJ.none
 case slc n x lo Q mx=>
  refine cJ.bind _ λx=>cJ.bind _ λlo=>cJ.bind _ λQ=>cJ.bind _ λmx=>?_;unfold q2;split;exact cJ.none;exact cJ.const _
 case x4 x lo Q=>
  refine cJ.bind _ λx=>cJ.bind _ λlo=>cJ.bind _ λQ=>?_;unfold Hl;split;exact cJ.const _;exact cJ.none
 all_goals first
  |exact cJ.bind _ λ_=>cJ.const _
  |exact cJ.bind _ λ_=>cJ.bind _ λ_=>cJ.const _
end
section
variable{n sz:Nat}{Z:List bg}{J:List br}{x:bg}
def j8{α β:Type}(f:α->Option β):List α->Option (List β)
 |[]=>a_ []
 |x::r=>match f x with
  |some y=>match j8 f r with
   |some l=>a_ (y::l)
   |none=>bn
  |none=>bn
def ze{α β}{f}:∀{l:List α} {r:List β},j8 f l=a_ r->r.length=l.length/\∀(i:Nat) x y,l[i]?=a_ x->r[i]?=a_ y->f x=a_ y
 |[],r,h=>by cases h;exact⟨rfl,λi x y I=>aF⟩
 |a::l,r,h=>by
  simp only[j8] at h;split at h;rename_i y hy;split at h;rename_i l' hl;cases h;obtain⟨Y,V⟩:=ze hl;refine⟨aKO,λi x z I hz=>?_⟩;cases i with
  |zero=>simp at I hz;subst I;subst hz;exact hy
  |succ i=>simp at I hz;exact V i x z I hz
  cases h;cases h
def si(sz:Nat)(Z:List bg)(off:Nat):Nat->List bg
 |0=>[]
 |n+1=>.agg ((Z.drop off).take sz)::si sz Z (off+sz) n
def aep:∀{n off i},i<n->(si sz Z off n)[i]?=a_ (.agg ((Z.drop (off+i*sz)).take sz))
 |n+1,off,0,_=>by simp[si]
 |n+1,off,i+1,h=>by
  simp only[si,yj];rw[aep aa,show off+sz+i*sz=off+(i+1)*sz by rw[tZ];omega]
def PS:∀{n off},(si sz Z off n).length=n
 |0,off=>rfl
 |n+1,off=>by simp[si,PS]
def di(J:List br):Nat->bg->Option bg
 |0,_=>bn
 |n+1,x=>match x with
  |.v x=>a_ (.v x)
  |.bp=>a_ .bp
  |.agg Z=>(j8 (di J n) Z).map .agg
  |.bQ Z=>(j8 (di J n) Z).map .bQ
  |.sl xs _=>(j8 (di J n) xs).map λys=>.sl ys .no
  |.fp Z off=>(j8 (di J n) Z).map λds=>.fp ds off
  |.eD t x=>(di J n x).map (.eD t)
  |.fn f a b=>(j8 (di J n) a).bind λa=>(j8 (di J n) b).map λb=>.fn f a b
  |.mp k off=>match J[k]? with
   |some (.cells Z bf)=>(j8 (di J n) Z).map λds=>.fp ds off
   |_=>bn
  |.rp k m off=>match J[k]? with
   |some (.cells Z bh)=>if m=Z.length then(j8 (di J n) Z).map λds=>.fp ds off else bn
   |_=>bn
  |.rs k m sz off len=>match J[k]? with
   |some (.cells Z bh)=>if m=Z.length then(j8 (di J n) Z).map λds=>.sl (si sz ds off len) .no else bn
   |_=>bn
  |_=>bn
def asi{y:bg}(h:di J n x=a_ y)(I:∀Z,x≠.agg Z):y.cells=[y]:=by
 cases n with
 |zero=>cases h
 |succ n=>
  unfold di at h;cases x<;>simp only at h
  case agg Z=>exact(I Z rfl).elim
  case v x=>cases h;rfl
  case bp=>cases h;rfl
  case mp k off=>split at h<;>first|cases h;done|(simp only[dx] at h;obtain⟨_,_,rfl⟩:=h;rfl)
  case rp k m off=>split at h<;>first|cases h;done|(split at h<;>first|cases h;done|(simp only[dx] at h;obtain⟨_,_,rfl⟩:=h;rfl))
  case rs k m sz off len=>split at h<;>first|cases h;done|(split at h<;>first|cases h;done|(simp only[dx] at h;obtain⟨_,_,rfl⟩:=h;rfl))
  case fn f a b=>
   simp only[gO,dx] at h;obtain⟨_,_,_,_,rfl⟩:=h;rfl
  all_goals first
   |(cases h;done)
   |(simp only[dx] at h;obtain⟨_,_,rfl⟩:=h;rfl)
def QA{C bI}{M}{D4}(hC:∀b o v,C b o=a_ v->bI b o=a_ v)
  (hm:∀(k:Nat) Z row L,D4[k]?=a_ (.cells Z row)->M[k]?=a_ L->∀(i) c,Z[i]?=a_ c->∃c',bI L.b i=a_ c'/\bP C M J c c') (hz:∀(k:Nat) Z row,D4[k]?=a_ (.cells Z row)->J[k]?=a_ (.cells Z row)):
  ∀{n} {x r:bg} {v},di D4 n x=a_ r->bP C M J x v->bP bI [] [] r v:=by
 intro n
 induction n with
 |zero=>intro x r v h;cases h
 |succ n ih=>
  intro x r v h D;have aln:∀{Z ds} {f:Nat->Value},j8 (di D4 n) Z=a_ ds->(∀(i) c,Z[i]?=a_ c->bP C M J c (f i))->∀(i) d,ds[i]?=a_ d->∃c,Z[i]?=a_ c/\bP bI [] [] d (f i):=by
   intro Z ds f AS hR i d hd;obtain⟨e1,e2⟩:=ze AS;have Q:i<Z.length:=by rw[<-e1];exact(cL.1 hd).1
   exact⟨Z[i],cz Q,ih (e2 i _ _ (cz Q) hd) (hR i _ (cz Q))⟩
  have blk:∀{k:Nat} {Z ds} {row} {L},D4[k]?=a_ (.cells Z row)->M[k]?=a_ L->j8 (di D4 n) Z=a_ ds->∀off,bP bI [] [] (.fp ds off) (.pointer (a_ ⟨L.b,off,bn⟩))/\∀(i) d,ds[i]?=a_ d->∃c',bI L.b i=a_ c'/\bP bI [] [] d c':=by
   intro k Z ds row L S hM AS off;obtain⟨e1,e2⟩:=ze AS;have key:∀(i) d,ds[i]?=a_ d->∃c',bI L.b i=a_ c'/\bP bI [] [] d c':=by
    intro i d hd;have Q:i<Z.length:=by rw[<-e1];exact(cL.1 hd).1
    obtain⟨c',q1,bt⟩:=hm k Z row L S hM i Z[i] (cz Q);exact⟨c',q1,ih (e2 i _ _ (cz Q) hd) bt⟩
   refine⟨?_,key⟩;have:=bP.fp (C:=bI) (off:=off) (λi=>(bI L.b i).getD undef) (λi d hd=>by
    obtain⟨c',q1,_⟩:=key i d hd;rw[gk,q1];rfl) (λi d hd=>by
    obtain⟨c',q1,bt⟩:=key i d hd;rw[q1];exact bt)
   simpa using this
  unfold di at h;cases D with
  |v bl=>simp only at h;cases h;exact .v bl
  |bp=>simp only at h;cases h;exact .bp
  |agg hl hh=>
   rename_i Z cs';simp only[dx] at h;obtain⟨ds,Y,rfl⟩:=h;obtain⟨e1,e2⟩:=ze Y;refine .agg aa λi a b ha O=>?_;have Q:i<Z.length:=by rw[<-e1];exact(cL.1 ha).1
   exact ih (e2 i _ _ (cz Q) ha) (hh i _ b (cz Q) O)
  |bQ hl hh=>
   rename_i Z cs';simp only[dx] at h;obtain⟨ds,Y,rfl⟩:=h;obtain⟨e1,e2⟩:=ze Y;refine .bQ aa λi a b ha O=>?_;have Q:i<Z.length:=by rw[<-e1];exact(cL.1 ha).1
   exact ih (e2 i _ _ (cz Q) ha) (hh i _ b (cz Q) O)
  |sl f gJ dD FX hR hT iq=>
   rename_i xs t a cap sz;simp only[dx] at h;obtain⟨ys,Y,rfl⟩:=h;obtain⟨e1,e2⟩:=ze Y;have el:∀(i) y,ys[i]?=a_ y->∃x,xs[i]?=a_ x/\y.cells.length=x.cells.length/\∀(j) d,y.cells[j]?=a_ d->∃c,x.cells[j]?=a_ c/\bP bI [] [] d (f i j):=by
    intro i y hy;have Q:i<xs.length:=by rw[<-e1];exact(cL.1 hy).1
    have I:=cz Q;have hf:=e2 i _ _ I hy;refine⟨xs[i],I,?_⟩;by_cases dS:∃Z,xs[i]=.agg Z;obtain⟨Z,jb⟩:=dS;rw[jb] at hf I⊢;cases n with
    |zero=>cases hf
    |succ n=>
     unfold di at hf;simp only[dx] at hf;obtain⟨ds,q1,rfl⟩:=hf;obtain⟨g1,g2⟩:=ze q1;refine⟨g1,λj d hd=>?_⟩;have hj:j<Z.length:=by rw[<-g1];exact(cL.1 hd).1
     refine⟨Z[j],cz hj,?_⟩;have:=g2 j _ _ (cz hj) hd;have up:di D4 (n+1) (.agg [Z[j]])=a_ (.agg [d]):=by
      unfold di;simp[j8,this]
     have iL:bP C M J (.agg [Z[j]]) (.agg #[f i j]):=.agg rfl λi' a b ha O=>by
      cases i' with
      |zero=>simp at ha O;subst ha;subst O;exact hR i _ j _ I (cz hj)
      |succ i'=>simp at ha
     have:=ih up iL;cases this with
     |agg hl hh=>exact hh 0 d (f i j) rfl rfl
    have Xn:=λZ jb=>dS ⟨Z,jb⟩;have Gq:(xs[i]).cells=[xs[i]]:=by
     cases Jf:xs[i] with
     |agg Z=>exact(Xn Z Jf).elim
     |_=>rfl
    rw[(asi hf Xn),Gq];refine⟨rfl,λj d hd=>?_⟩;cases j with
    |zero=>
     simp at hd;subst hd;exact⟨xs[i],rfl,ih hf (hR i _ 0 _ I (by rw[Gq];rfl))⟩
    |succ j=>simp at hd
   rw[<-e1];refine .sl (sz:=sz) f (λbR=>gJ (by intro e;subst e;simp at e1;exact bR e1)) (λi y hy=>?_) (λi y j d hy hd=>?_) (λi y j d hy hd=>?_) trivial (by rw[e1];exact iq);obtain⟨x,I,q1,_⟩:=el i y hy;rw[q1];exact dD i x I;obtain⟨x,I,_,bt⟩:=el i y hy;obtain⟨c,T,_⟩:=bt j d hd;exact hC _ _ _ (FX i x j c I T);obtain⟨x,I,_,bt⟩:=el i y hy;obtain⟨c,T,iL⟩:=bt j d hd;exact iL
  |fp f FX hR=>
   simp only[dx] at h;obtain⟨ds,Y,rfl⟩:=h;refine .fp f (λi d hd=>?_) λi d hd=>?_;obtain⟨c,T,_⟩:=aln Y hR i d hd;exact hC _ _ _ (FX i c T);obtain⟨c,_,q⟩:=aln Y hR i d hd;exact q
  |eD I=>
   simp only[dx] at h;obtain⟨y,Y,rfl⟩:=h;exact .eD (ih Y I)
  |fn jQ fX hf T=>
   rename_i f fs Z kN cs';simp only[gO,dx] at h;obtain⟨a,Y,b,V,rfl⟩:=h;obtain⟨e1,e2⟩:=ze Y;obtain⟨g1,g2⟩:=ze V;refine .fn aa aa (λi x y I hy=>?_) λi x y I hy=>?_;have Q:i<fs.length:=by rw[<-e1];exact(cL.1 I).1
   exact ih (e2 i _ _ (cz Q) I) (hf i _ y (cz Q) hy);have Q:i<Z.length:=by rw[<-g1];exact(cL.1 I).1
   exact ih (g2 i _ _ (cz Q) I) (T i _ y (cz Q) hy)
  |mp O hM=>
   simp only at h;split at h;rename_i Z S;simp only[dx] at h;obtain⟨ds,Y,rfl⟩:=h;exact(blk S hM Y _).1;cases h
  |rp O hM hn ha=>
   simp only at h;split at h;rename_i Z S;split at h;rename_i BY;simp only[dx] at h;obtain⟨ds,Y,rfl⟩:=h;have ga:=hz _ _ _ S;rw[O] at ga;cases ga;rw[ha BY];exact(blk S hM Y _).1;cases h;cases h
  |rs O hM hn fX ha=>
   rename_i k nn sz off len cap L cs0 a;simp only at h;split at h;rename_i Z S;split at h;rename_i BY;simp only[dx] at h;obtain⟨ds,Y,rfl⟩:=h;have ga:=hz _ _ _ S;rw[O] at ga;cases ga;obtain⟨a1,a2,a3,a4⟩:=ha BY;rw[a1];obtain⟨_,pM⟩:=blk S hM Y 0;have aIy:=(ze Y).1;have hge:∀(i) x,(si sz ds off len)[i]?=a_ x->i<len/\x=.agg ((ds.drop (off+i*sz)).take sz):=by
    intro i x I;have Q:i<len:=by have:=(cL.1 I).1;rwa [PS] at this
    rw[aep Q] at I;exact⟨Q,(mB I).symm⟩
   have AO:∀i,i<len->off+i*sz+sz<=ds.length:=by
    intro i Q;have:(i+1)*sz<=len*sz:=o_ _ Q;rw[tZ] at this;omega
   have tB:∀(i) x (j) c,(si sz ds off len)[i]?=a_ x->x.cells[j]?=a_ c->ds[off+i*sz+j]?=a_ c:=by
    intro i x j c I T;obtain⟨Q,rfl⟩:=hge i x I;simp only[jK] at T;have hj:j<sz:=by have:=(cL.1 T).1;simp at this;omega
    rwa [CT hj,s0] at T
   have:=bP.sl (C:=bI) (t:=.no) (a:=⟨L.b,off,bn⟩) (sz:=sz) (λi j=>(bI L.b (off+i*sz+j)).getD undef) (λ_=>rfl) (λi x I=>by
    obtain⟨Q,rfl⟩:=hge i x I;have:=AO i Q;simp only[jK,p0,tX];omega) (λi x j c I T=>by
    obtain⟨c',q1,bt⟩:=pM _ _ (tB i x j c I T);dsimp only;rw[q1];rfl) (λi x j c I T=>by
    obtain⟨c',q1,bt⟩:=pM _ _ (tB i x j c I T);rw[q1];exact bt) trivial (by rw[PS];exact fX)
   rwa [PS] at this
   cases h;cases h
  |gA O hM=>cases h
  |gb O hM=>cases h
  |jj O hM=>cases h
  |iH O hM=>cases h
def aui{r:bg}(h:di [] n x=a_ r):kZ x r:=λC M J v D=>QA (λ_ _ _ q=>q) (λk Z row L S=>aLx) (λk Z row S=>aLx) h D
def V7{as bs}(h:j8 (di [] n) as=a_ bs):n9 as bs:=by
 obtain⟨e1,e2⟩:=ze h;exact⟨e1.symm,λi a b ha O=>aui (e2 i a b ha O)⟩
def e3{G}{P}{f}{args}{bV:bg}(h:cq G P f args [] λr bl=>∃n,di bl n r=a_ bV):cY G P f args bV:=
 ⟨h.1,λC w c_ hg T D=>(h.2 w.heap.size ⟨w,C⟩ C [] w c_ (anV hg T) D).mono λe w' ⟨bI,M',bl,r,v',⟨n,AM⟩,he,bK,dU,iL⟩=>by
  refine⟨λb o=>match bI b o with
   |some v=>a_ v
   |none=>if w.heap.size<=b then w'.cell? ⟨b,o,bn⟩ else bn,v',he,λb o v q=>?_,λb o v q=>?_,λb o v q=>?_,dU.below,?_,trivial⟩
  simp only[bK.C b o v q];dsimp only at q;split at q;rename_i u hu;cases q
  rcases en b w.heap.size with O|O
  exact bE (dU.old b o v hu O);exact bF O;split at q;rename_i O;exact bF O;cases q;dsimp only at q;split at q;rename_i u hu;cases q;exact dU.nL b o v hu;split at q;exact q;cases q;refine QA (λb o v q=>by simp only[q]) (λk Z row L S hM i c T=>?_) (λ_ _ _ q=>q) AM iL;obtain⟨Y,V,h3,h4,h5,h6⟩:=dU.cells k Z row L S hM;obtain⟨c',q1,bt⟩:=h3 i c T;refine⟨c',?_,bt⟩;simp only[h5 i];rw[if_pos Y];exact q1⟩
end
section
variable{α:Type}{k n:Nat}{x:bg}{v:Value}{J:List br}{f:FuncId}{args:List bg}
inductive lZ(n:Nat):bg->Prop
 |v {x:Value}:lZ n (.v x)
 |agg {Z:List bg} (h:∀(i:Nat) c,Z[i]?=a_ c->lZ n c):lZ n (.agg Z)
 |bQ {Z:List bg} (h:∀(i:Nat) c,Z[i]?=a_ c->lZ n c):lZ n (.bQ Z)
 |bp:lZ n .bp
 |sl {xs:List bg} {t:ob} (ht:∀id,t=.tok id->id<n) (h:∀(i:Nat) x (j:Nat) c,xs[i]?=a_ x->x.cells[j]?=a_ c->lZ n c):lZ n (.sl xs t)
 |fp {Z:List bg} {off:Nat} (h:∀(i:Nat) c,Z[i]?=a_ c->lZ n c):lZ n (.fp Z off)
 |mp {k off:Nat} (h:k<n):lZ n (.mp k off)
 |rp {k m off:Nat} (h:k<n):lZ n (.rp k m off)
 |rs {k m sz off len:Nat} (h:k<n):lZ n (.rs k m sz off len)
 |gA {k:Nat} (h:k<n):lZ n (.gA k)
 |gM {ch:List PanicEntry}:lZ n (.gM ch)
 |fn {f:Fn} {fs Z:List bg} (Y:∀(i:Nat) c,fs[i]?=a_ c->lZ n c) (V:∀(i:Nat) c,Z[i]?=a_ c->lZ n c):lZ n (.fn f fs Z)
 |eD {t:TypeId} {x:bg} (h:lZ n x):lZ n (.eD t x)
 |gb {k:Nat} (h:k<n):lZ n (.gb k)
 |jj {k:Nat} (h:k<n):lZ n (.jj k)
 |iH {k:Nat} {t:TypeId×Nat} (h:k<n):lZ n (.iH k t)
section
variable{G:Cells}{P:Program}{C:Cells}{M:List Loc}{J:List br}
def qf{l:List α}{x:α}(h:l[k]?=a_ x):k<l.length:=(cL.1 h).1
def Qh{l:List bg}{a:Array α}(hl:l.length=a.size){i:Nat}{c:bg}(T:l[i]?=a_ c):∃b,a[i]?=a_ b:=⟨_,wE (by rw[<-hl];exact qf T)⟩
def bP.low(h:bP C M J x v):lZ J.length x:=by
 induction h with
 |v h=>exact .v
 |agg hl h ih=>
  refine .agg λi c T=>?_;obtain⟨b,O⟩:=Qh hl T;exact ih i c b T O
 |bQ hl h ih=>
  refine .bQ λi c T=>?_;obtain⟨b,O⟩:=Qh hl T;exact ih i c b T O
 |bp=>exact .bp
 |sl f gJ dD hC hR hT iq ih=>
  refine .sl (λid e=>?_) ih;subst e;obtain⟨n,s,ty,L,q1,_⟩:=hT;exact qf q1
 |fp f hC hR ih=>exact .fp ih
 |mp O hM=>exact .mp (qf O)
 |rp O hM hn ha=>exact .rp (qf O)
 |rs O hM hn fX ha=>exact .rs (qf O)
 |gA O hM=>exact .gA (qf O)
 |fn jQ fX hf T Gt Gs=>
  refine .fn (λi c h=>?_) λi c h=>?_;obtain⟨b,O⟩:=Qh jQ h;exact Gt i c b h O;obtain⟨b,O⟩:=Qh fX h;exact Gs i c b h O
 |eD h ih=>exact .eD ih
 |gb O hM=>exact .gb (qf O)
 |jj O hM=>exact .jj (qf O)
 |iH O hM=>exact .iH (qf O)
def lq{l:List α}(h:k<n):(l.take n)[k]?=l[k]? :=by
 rw[TY];simp[h]
def bP.aGs(h:bP C M J x v):lZ n x->bP C (M.take n) (J.take n) x v:=by
 induction h with
 |v h=>intro _;exact .v h
 |agg hl h ih=>intro hL;cases hL with|agg q=>exact .agg hl λi a b ha O=>ih i a b ha O (q i a ha)
 |bQ hl h ih=>intro hL;cases hL with|bQ q=>exact .bQ hl λi a b ha O=>ih i a b ha O (q i a ha)
 |bp=>intro _;exact .bp
 |sl f gJ dD hC hR hT iq ih=>
  intro hL;cases hL with
  |sl ht q=>
   refine .sl f gJ dD hC (λi x j c I T=>ih i x j c I T (q i x j c I T)) ?_ iq;rename_i xs t a cap sz;cases t with
   |exact=>exact hT
   |no=>exact hT
   |tok id=>
    have hid:=ht id rfl;obtain⟨n',s,ty,L,q1,bt,bS⟩:=hT;exact⟨n',s,ty,L,by rw[lq hid];exact q1,by rw[lq hid];exact bt,bS⟩
 |fp f hC hR ih=>intro hL;cases hL with|fp q=>exact .fp f hC λi c T=>ih i c T (q i c T)
 |mp O hM=>intro hL;cases hL with|mp q=>exact .mp aJW aJS
 |rp O hM hn ha=>intro hL;cases hL with|rp q=>exact .rp aJW aJS hn ha
 |rs O hM hn fX ha=>intro hL;cases hL with|rs q=>exact .rs aJW aJS hn fX ha
 |gA O hM=>intro hL;cases hL with|gA q=>exact .gA aJW aJS
 |fn jQ fX hf T Gt Gs=>intro hL;cases hL with|fn q1 bt=>exact .fn jQ fX (λi a b ha O=>Gt i a b ha O (q1 i a ha)) λi a b ha O=>Gs i a b ha O (bt i a ha)
 |eD h ih=>intro hL;cases hL with|eD q=>exact .eD (ih q)
 |gb O hM=>intro hL;cases hL with|gb q=>exact .gb aJW aJS
 |jj O hM=>intro hL;cases hL with|jj q=>exact .jj aJW aJS
 |iH O hM=>intro hL;cases hL with|iH q=>exact .iH aJW aJS
def ou(n:Nat)(J:List br):List br:=fo n (.tok 0 0 0)++J.drop n
def alA{Z}{r}(h:(ou n J)[k]?=a_ (.cells Z r)):n<=k/\J[k]?=a_ (.cells Z r):=by
 unfold ou at h
 rcases en k n with q|q
 rw[fT ak] at h;rw[List.getElem?_replicate] at h;split at h<;>simp at h;rw[fY ak] at h;simp only[List.length_replicate,s0] at h;exact⟨q,by rw[<-h];congr 1;omega⟩
def aB4(n)(J):ou n (J.map b8)=(ou n J).map b8:=by
 unfold ou;rw[gf,List.map_replicate,ON];rfl
def VP{b b'}(h:b8 b=b8 b'):(b'=b\/(∃st pd bO ps ok,b=.bW st pd bO ps ok)\/(∃c c',b=.obj (.deferred c)/\b'=.obj (.deferred c'))):=by
 cases b with
 |cells Z r=>cases b' with
  |cells cs' r'=>left;exact h.symm
  |obj o=>cases o<;>cases h
  |_=>cases h
 |tok n s e=>cases b' with
  |tok n' s' e'=>left;exact h.symm
  |obj o=>cases o<;>cases h
  |_=>cases h
 |eO es cB=>cases b' with
  |eO mL ni=>left;exact h.symm
  |obj o=>cases o<;>cases h
  |_=>cases h
 |bW st pd bO ps ok=>right;left;exact⟨_,_,_,_,_,rfl⟩
 |obj o=>
  cases o with
  |deferred c=>cases b' with
   |obj o'=>cases o'<;>first|(right;right;exact⟨_,_,rfl,rfl⟩)|cases h
   |_=>cases h
  |_=>cases b' with
   |obj o'=>left;cases o'<;>first|exact h.symm|cases h
   |_=>cases h
def cq.aet{hi:bg->List br->Prop}(h:cq G P f args J λr bl=>(bl.map b8).take J.length=J.map b8/\gh J bl/\∃n bV,di (ou J.length bl) n r=a_ bV/\hi bV (bl.take J.length)):
  cq G P f args J λr bl=>hi r bl:=by
 classical
 refine⟨h.1,λbase w0 C M w c_ hs D=>(h.2 base w0 C M w c_ hs D).mono ?_⟩;rintro e w' ⟨bI,M',bl,r,v',⟨Rl,Q5,n,bV,AM,hq⟩,he,bK,dU,iL⟩;have hN:=bK.length;have aIk:=hs.fj
 let ayl:Nat->Prop:=λb=>∃(k:Nat) (L:Loc),J.length<=k/\M'[k]?=a_ L/\L.b=b
 let wQ:Cells:=λb o=>match bI b o with
  |some v=>a_ v
  |none=>if ayl b then w'.cell? ⟨b,o,bn⟩ else bn
 have DH:∀b o v,bI b o=a_ v->wQ b o=a_ v:=λb o v q=>by simp only[wQ,q]
 have Xi:∀{k:Nat} {b:br},J[k]?=a_ b->∃b',bl[k]?=a_ b'/\b8 b=b8 b':=λ{k b} O=>by
  have S:=qf O;have:((bl.map b8).take J.length)[k]?=(J.map b8)[k]? :=by rw[Rl]
  rw[lq S,fR,fR,O] at this;cases hb':bl[k]? with
  |none=>rw[hb'] at this;cases this
  |some b'=>rw[hb'] at this;exact⟨b',rfl,by simpa using this.symm⟩
 have WO:∀{k:Nat} {Z} {fz:Bool},k<J.length->bl[k]?=a_ (.cells Z fz)->J[k]?=a_ (.cells Z fz):=λ{k Z fz} S hb'=>by
  obtain⟨b,O⟩:∃b,J[k]?=a_ b:=⟨_,cz S⟩;obtain⟨b2,Y,V⟩:=Xi O;rw[hb'] at Y;cases Y
  rcases VP V with q|⟨_,_,_,_,_,q⟩|⟨_,_,_,q⟩
  rw[O,q];rw[q] at V;cases V;cases q
 have IL:∀{k:Nat},k<J.length->M'[k]?=M[k]? :=λ{k} S=>by
  obtain⟨b,O⟩:∃b,J[k]?=a_ b:=⟨_,cz S⟩;obtain⟨b2,Y,V⟩:=Xi O;cases b with
  |cells Z fz=>
   obtain⟨cs',q1,_,bS,_⟩:=bK.cells k Z fz O;have:=WO S q1;rw[O] at this;cases this;exact bS λ_=>rfl
  |tok n s ty=>
   obtain⟨n',q1,_,bS,_⟩:=bK.toks k n s ty O;rw[Y] at q1;cases q1
   rcases VP V with q|⟨_,_,_,_,_,q⟩|⟨_,_,q,_⟩
   cases q;exact bS rfl;cases q;cases q
  |obj o=>exact(bK.gB k _ rfl O).2
  |eO es cB=>exact(bK.gB k _ rfl O).2
  |bW st pd bO ps ok=>exact(bK.gB k _ rfl O).2
 have MA:∀{k:Nat} {L:Loc} {o:Nat},k<J.length->M'[k]?=a_ L->bI L.b o=bn->wQ L.b o=bn:=λ{k L o} S hM T=>by
  simp only[wQ,T];rw[if_neg];rintro⟨k',L',Y,V,h3⟩;exact dU.apart k' k L' L aa V hM h3
 have Rn:∀{x:bg} {v},lZ J.length x->bP bI M' bl x v->bP wQ (M'.take J.length) (bl.take J.length) x v:=λhl D=>by
  have Y:=D.aGs hl;exact Y.mono ⟨DH,λk Z fz q=>⟨Z,q,λ_=>cj _,λ_=>rfl,λq=>q⟩,λk n s ty q=>⟨n,q,cj _,λ_=>rfl,λq=>q⟩,λk b O q=>⟨⟨b,q,br.like.refl b⟩,rfl⟩⟩
 have cQ:∀{k:Nat} {b:br},(bl.take J.length)[k]?=a_ b->k<J.length/\bl[k]?=a_ b:=λ{k b} O=>by
  have S:k<J.length:=by have:=qf O;rw[p0] at this;omega
  rw[lq S] at O;exact⟨S,O⟩
 have Mt:∀{k:Nat} {L:Loc},k<J.length->(M'.take J.length)[k]?=a_ L->M'[k]?=a_ L:=λ{k L} S O=>by
  rw[lq S] at O;exact O
 refine⟨wQ,M'.take J.length,bl.take J.length,bV,v',hq,he,?_,?_,?_⟩;refine⟨λb o v q=>DH _ _ _ (bK.C b o v q),λk Z fz S=>?_,λk n s ty S=>?_,λk b O S=>?_⟩;have e6:=qf S;obtain⟨cs',q1,_⟩:=bK.cells k Z fz S;have:=WO e6 q1;rw[S] at this;cases this;exact⟨Z,aLV,λ_=>cj _,λ_=>by rw[lq e6];exact IL e6,λq=>by rw[lq e6,IL e6];exact q⟩;have e6:=qf S;obtain⟨n',q1,bt,bS,fk⟩:=bK.toks k n s ty S;exact⟨n',aLV,bt,λ_=>by rw[lq e6];exact IL e6,λq=>by rw[lq e6,IL e6];exact q⟩;have e6:=qf S;obtain⟨⟨b',q1,bt⟩,bS⟩:=bK.gB k b O S;exact⟨⟨b',aLV,bt⟩,by rw[lq e6];exact bS⟩;refine⟨dU.below,dU.nH,λb o v q O=>?_,λb o v q=>DH _ _ _ (dU.ry b o v q),?_,λb o v q=>?_,λk Z fz L S hM=>?_,λk n s ty L S hM=>?_,λk k' L L' bR hM eA=>?_,λk b L O S hM=>?_⟩;simp only[wQ] at q;split at q;rename_i u hu;cases q;exact dU.old b o _ hu O;split at q;rename_i hn;obtain⟨k,L,Y,V,h3⟩:=hn;have:=(dU.at V).2;omega;cases q;rw[p0,p0,dU.fj];simp only[wQ] at q;split at q;rename_i u hu;cases q;exact dU.nL b o _ hu;split at q;exact q;cases q;obtain⟨e6,ga⟩:=cQ S;have eA:=Mt e6 hM;obtain⟨t1,t2,t3,t4,t5,t6,t7⟩:=dU.cells k Z fz L ga eA;refine⟨t1,t2,λi c T=>?_,t4,λo=>MA e6 eA (t5 o),t6,t7⟩;obtain⟨c',q1,bt⟩:=t3 i c T;refine⟨c',q1,Rn ?_ bt⟩;rw[IL e6] at eA;obtain⟨_,_,eU,_⟩:=hs.cells k Z fz L (WO e6 ga) eA;obtain⟨c0,_,bS⟩:=eU i c T;exact bS.low;obtain⟨e6,ga⟩:=cQ S;have eA:=Mt e6 hM;obtain⟨t1,t2,t3,t4,t5,t6⟩:=dU.toks k n s ty L ga eA;exact⟨t1,t2,t3,λo ho=>MA e6 eA (t4 o ho),t5,t6⟩;have e1:k<J.length:=by have:=qf hM;rw[p0] at this;omega
 have e2:k'<J.length:=by have:=qf eA;rw[p0] at this;omega
 exact dU.apart k k' L L' bR (Mt e1 hM) (Mt e2 eA);obtain⟨e6,ga⟩:=cQ S;have eA:=Mt e6 hM;obtain⟨t1,o,t2,t3,t4⟩:=dU.gB k b L O ga eA;refine⟨t1,o,t2,t3,?_⟩;obtain⟨b0,lM⟩:∃b,J[k]?=a_ b:=⟨_,cz e6⟩;obtain⟨b2,Y,V⟩:=Xi lM;rw[ga] at Y;cases Y;have QK:M[k]?=a_ L:=by rw[<-IL e6];exact eA
 cases b with
 |obj o'=>exact t4
 |eO es cB=>
  rcases VP V with q|⟨_,_,_,_,_,q⟩|⟨_,_,_,q⟩
  subst q;obtain⟨_,o0,_,_,atw,_,vQ,Mj⟩:=hs.gB k _ L rfl lM QK;obtain⟨fu,e1,e2,dr⟩:=t4;refine⟨fu,e1,e2,λi a b ha O=>?_⟩;obtain⟨b1,iT⟩:∃b1,atw.toList[i]?=a_ b1:=⟨_,cz (by rw[<-vQ];exact qf ha)⟩;obtain⟨u1,u2,_⟩:=Mj i a b1 ha iT;obtain⟨v1,v2,v3⟩:=dr i a b ha O;exact⟨Rn u1.low v1,Rn u2.low v2,v3⟩;rw[q] at V;cases V;cases q
 |bW st pd bO ps ok=>
  obtain⟨fn,tmps,assign,body,hr,e1,e2,dr,eS⟩:=t4;refine⟨fn,tmps,assign,body,hr,e1,e2,dr,λi a b ha O=>Rn ?_ (eS i a b ha O)⟩;cases b0 with
  |bW q3 amC arz ZB aCS=>
   obtain⟨gr,lg,q⟩:=Q5 k q3 amC arz ZB aCS lM;rw[ga] at q;cases q;obtain⟨_,o0,_,_,aH9,aGo,aHG,aHN,aHC,_,_,g3,g4⟩:=hs.gB k _ L rfl lM QK;obtain⟨b1,iT⟩:∃b1,aGo[i]?=a_ b1:=⟨_,wE (by rw[<-g3];exact qf ha)⟩;exact(g4 i a b1 ha iT).low
  |obj o=>cases o<;>cases V
  |_=>cases V
 |cells Z fz=>cases O
 |tok n s e=>cases O
 refine(QA DH (λk Z row L S hM i c T=>?_) (λk Z row S=>((alA S).2)) AM iL).mono M8;obtain⟨gR,hk2⟩:=alA S;obtain⟨t1,t2,t3,t4,t5,_⟩:=dU.cells k Z row L hk2 hM;obtain⟨c',q1,bt⟩:=t3 i c T;refine⟨c',?_,bt⟩;simp only[wQ,t5 i];rw[if_pos ⟨k,L,gR,hM,rfl⟩];exact q1
def cq.close{bV:bg}(h:cq G P f args J λr bl=>(bl.map b8).take J.length=J.map b8/\gh J bl/\∃n,di (ou J.length bl) n r=a_ bV):
  cq G P f args J λr bl=>r=bV/\bl.map b8=J.map b8/\gh J bl:=by
 refine cq.aet (ck h ?_);rintro r bl ⟨Rl,Q5,n,AM⟩;refine⟨Rl,Q5,n,bV,AM,rfl,?_,?_⟩;rw[T0];exact Rl;intro k st pd bO ps ok S;obtain⟨gr,lg,q⟩:=Q5 k st pd bO ps ok S;exact⟨gr,lg,by rw[lq (qf S)];exact q⟩
def cq.Vm{hi:bg->Prop}(h:cq G P f args J λr bl=>(∃l,bl=J++l)/\∃n bV,di (ou J.length bl) n r=a_ bV/\hi bV):
  cq G P f args J λr bl=>hi r/\bl=J:=by
 refine cq.aet (ck h ?_);rintro r bl ⟨⟨l,rfl⟩,n,bV,hf,hq⟩;have e1:(J++l).take J.length=J:=T7 rfl;exact⟨by rw[<-T0,e1],A2,n,bV,hf,hq,e1⟩
end
end
end Go.bM

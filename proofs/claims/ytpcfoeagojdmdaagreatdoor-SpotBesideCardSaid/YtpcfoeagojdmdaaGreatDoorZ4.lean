/- Part 4 of a proof. No condition. -/
import Derived.Test.YtpcfoeagojdmdaaGreatDoorZ3
import Derived.RecoverIn
import Derived.HandedShaped
import Derived.Handed
import Derived.ProofKit
import Derived.OpenShut
set_option linter.unusedVariables false
set_option linter.unusedSimpArgs false
set_option linter.defProp false
open Array renaming getElem?_eq_getElem->wW,getElem?_eq_some_iff->z7,length_toList->aqN,replicate->BQ
open Bool renaming and_eq_true->fh,false->bf,false_eq_true->kJ,or_eq_true->Io,true->bh
open Go.bM.bg renaming cells->jU,mp->c8,one->cq,v->dh
open Go.bM.ct renaming mono->cm
open Go.bM.iF renaming mono->gW
open Go.bM.j4 renaming mono->wX
open Go.bM.xj renaming mono->ab7
open Go.bM.dm renaming refl->pS
open Go.bM.sL renaming Jc->UA
open Go.Act renaming eval->O_
open Go.Builtin renaming unsafeString_->ab_
open Go.DataW renaming TrodAll->UB,trod->UC
open Go.Deferred renaming ofValue->FD
open Go.Fence renaming wide->Ab
open Go.IntKind renaming bits->K1,i64->cN,signed->K2,u64->Iq,wrap->acj
open Go.OpenSpec renaming ofChange->acn
open Go.Region renaming wanted->acp
open Go.Sem renaming run_pure->mR
open Go.Value renaming okWide->It
open Go.World renaming cell?->Iu,frozen?->acs,shape?->Pk
open List renaming all_cons->qk,all_eq_true->eG,any_eq_true->K4,append_nil->fZ,drop_drop->uD,drop_zero->pU,eq_nil_of_length_eq_zero->ou,getElem?_append_left->fT,getElem?_append_right->fJ,getElem?_cons_succ->uE,getElem?_drop->tC,getElem?_eq_getElem->cu,getElem?_eq_some_iff->cJ,getElem?_map->fD,getElem?_set_ne->bC,getElem?_set_self->bT,getElem?_take->UM,getElem?_take_of_lt->Dt,getElem_of_mem->Iy,length_append->dO,length_drop->ql,length_map->cS,length_nil->gR,length_take->qm,map_append->gz,map_cons->fQ,map_set->yN,map_take->Pt,mem_cons->fc,replicate->fk,take_append_drop->K8,take_left'->UU
open Nat renaming add_zero->nB,le_refl->b_,lt_or_ge->ei,mul_le_mul_right->pW,sub_zero->FN,succ_mul->uF,zero_add->gA,zero_le->j0
open Option renaming bind_eq_some_iff->gS,bind_some->mT,getD_some->xb,isSome_none->Ak,map_eq_some_iff->dF,map_some->j3,none->bn,some->a_
open Option.some renaming inj->oY,injEq->ox
open Or renaming inl->bD,inr->bG
open Prod.mk renaming injEq->xd
namespace Go.bM
open Go.RowKit
section
variable{J:List br}{oT mO:TypeId}{g_ p1:String}{oF o7:Array Edge}{a:Act}{w:World}{hb:nF}{g:FuncId}{args:List bg}
structure ar2 where
 ntmps:Nat
 d0:Nat
 d1:Nat
 body:qU
def an7(o1 o2:Oper):Option (Nat×Nat):=match o1 with
 |{dst:=a_ d0,op:=.call {callee:=.builtin .recover,args:=⟨[]⟩,argTypes:=_},type:=_,pos:=_,after:=_,guard:=bn}=>match o2 with
  |{dst:=a_ d1,op:=.assign (.tmp t),type:=_,pos:=_,after:=_,guard:=bn}=>if t=d0 then a_ (d0,d1) else bn
  |_=>bn
 |_=>bn
def KL(P:Program)(hb:nF)(g:FuncId):Option ar2:=match P.funcs[g]? with
 |some fn=>if fn.name== "runtime.NumGoroutine" then bn else match fn.results.toList with
  |[]=>match fn.body with
   |some (.seq (.region _ ⟨[o1,o2]⟩ bf) rest)=>match an7 o1 o2,slim P hb rest with
    |some (d0,d1),a_ sc=>if d0<fn.ntmps/\d1<fn.ntmps/\d0≠d1 then a_ ⟨fn.ntmps,d0,d1,sc⟩ else bn
    |_,_=>bn
   |_=>bn
  |_=>bn
 |none=>bn
def kZ(G:Cells)(P:Program)(g:FuncId)(args:List bg)(J:List br)(x:Option Value)(K:List br->Prop):Prop:=
 Enters P g/\∀base w0 C M w dn,cB G base w0 C M J w->dH C M J args dn->
  CallsDIn Ab 0 P g dn.toArray (match x with|none=>.returning|some v=>.panicking [{v:=v,recovered:=bf}]) w λe u' w'=>
   ∃bI M' bl v,K bl/\e=.returned v/\settle u'=.returning/\dm C M J bI M' bl/\cB G base w0 bI M' bl w'
def qK:Option bg->bg
 |none=>.v .nilIface
 |some x=>x
def mN:bg->Bool
 |.v x=>plain x
 |.agg Z=>Ko Z
 |_=>bf
where Ko:List bg->Bool
 |[]=>bh
 |x::r=>mN x&&Ko r
mutual
theorem aoa{C:Cells}{M:List Loc}{J:List br}:∀{x:bg} {v:Value},mN x=bh->sL x=a_ v->bP C M J x v
 |.v x,v,h,T=>by
  simp only[sL,ox] at T;subst T;exact .v (by simpa[mN] using h)
 |.agg Z,v,h,T=>by
  simp only[sL,dF] at T;obtain⟨l,Y,rfl⟩:=T;have:=aob (C:=C) (M:=M) (J:=J) (by simpa[mN] using h) Y;exact .agg (by simpa using this.1) (λi a b ha O=>this.2 i a b ha aH)
 |.bQ _,_,h,_=>aK
 |.bq,_,h,_=>aK
 |.sl _ _,_,h,_=>aK
 |.fp _ _,_,h,_=>aK
 |.mp _ _,_,h,_=>aK
 |.rp _ _ _,_,h,_=>aK
 |.rs _ _ _ _ _,_,h,_=>aK
 |.gE _,_,h,_=>aK
 |.gP _,_,h,_=>aK
 |.fn _ _ _,_,h,_=>aK
 |.eD _ _,_,h,_=>aK
 |.gm _,_,h,_=>aK
 |.jo _,_,h,_=>aK
 |.iJ _ _,_,h,_=>aK
theorem aob{C:Cells}{M:List Loc}{J:List br}:∀{xs:List bg} {vs:List Value},mN.Ko xs=bh->UA xs=a_ vs->dH C M J xs vs
 |[],vs,_,T=>by
  simp only[UA,ox] at T;subst T;exact⟨rfl,λi a b ha O=>by simp at ha⟩
 |x::r,vs,h,T=>by
  simp only[mN.Ko,fh] at h;simp only[UA] at T;split at T;rename_i a l Y V;cases T;have k1:=aoa (C:=C) (M:=M) (J:=J) h.1 Y;have k2:=aob (C:=C) (M:=M) (J:=J) h.2 V;refine⟨by simp[k2.1],λi a b ha O=>?_⟩;cases i with
  |zero=>simp at ha O;subst ha;subst O;exact k1
  |succ i=>simp at ha O;exact k2.2 i a b ha O
  cases T
end
def yh:bg->Bool
 |.eD _ x=>mN x
 |_=>bf
def aFK{C}{M}{x:bg}{v}(h:yh x=bh)(T:rP x=a_ v):bP C M J x v:=by
 cases x with
 |eD t x=>
  simp only[rP,dF] at T;obtain⟨a,Y,rfl⟩:=T;exact .eD (aoa (by simpa[yh] using h) Y)
 |_=>simp[yh] at h
section
variable{G:Cells}{P:Program}
def C3(d0:Nat)(zZ:Array TypeId)(oT:TypeId)(g_:String)(oF:Array Edge):Oper:={dst:=a_ d0,op:=.call {callee:=.builtin .recover,args:=⟨[]⟩,argTypes:=zZ},type:=oT,pos:=g_,after:=oF,guard:=bn}
def DR(d1 d0:Nat)(mO:TypeId)(p1:String)(o7:Array Edge):Oper:={dst:=a_ d1,op:=.assign (.tmp d0),type:=mO,pos:=p1,after:=o7,guard:=bn}
def an8{hi}{d0 d1}{zZ}{Z}(hd:d0<a.tmps.size){rv}{cs'}
  (D:(recoverD Z=bn/\rv=.nilIface/\cs'=Z)\/recoverD Z=a_ (rv,cs')) (hq:hi .normal ((a.put (a_ d0) rv).put (a_ d1) rv) cs' w):
  wpOpsSIn Ab 0 P ⟨[C3 d0 zZ oT g_ oF,DR d1 d0 mO p1 o7]⟩ hi [0,1] a Z w:=by
 have e1:(execOp a.eval (C3 d0 zZ oT g_ oF)).run P w=.ok .recover w:=by
  simp[execOp,resolve,invoke,builtin,C3]
 have e2:∀o_,hi .normal ((a.put (a_ d0) rv).put (a_ d1) rv) o_ w->wpOpsSIn Ab 0 P ⟨[C3 d0 zZ oT g_ oF,DR d1 d0 mO p1 o7]⟩ hi [1] (a.put (a_ d0) rv) o_ w:=by
  intro o_ hq;have:(a.put (a_ d0) rv).eval (.tmp d0)=rv:=by simp[O_,Act.put,hd]
  have di:(execOp (a.put (a_ d0) rv).eval (DR d1 d0 mO p1 o7)).run P w=.ok (.value rv) w:=by
   simp only[execOp,DR,mR,this]
  have eX:(⟨[C3 d0 zZ oT g_ oF,DR d1 d0 mO p1 o7]⟩:Array Oper)[1]?=a_ (DR d1 d0 mO p1 o7):=rfl;have n3:∀y,acp (DR d1 d0 mO p1 o7) y=bh:=λ_=>rfl;simp only[wpOpsSIn,eX,n3,if_true,di];exact⟨λ_ _=>trivial,hq⟩
 have eX:(⟨[C3 d0 zZ oT g_ oF,DR d1 d0 mO p1 o7]⟩:Array Oper)[0]?=a_ (C3 d0 zZ oT g_ oF):=rfl;have n3:∀y,acp (C3 d0 zZ oT g_ oF) y=bh:=λ_=>rfl;have zd:(C3 d0 zZ oT g_ oF).dst=a_ d0:=rfl
 rcases D with⟨Y,rfl,rfl⟩|Y
 unfold wpOpsSIn;simp only[eX,n3,if_true,e1,Y,zd];exact⟨λ_ _=>trivial,e2 _ hq⟩;unfold wpOpsSIn;simp only[eX,n3,if_true,e1,Y,zd];exact⟨λ_ _=>trivial,e2 _ hq⟩
def aGC(v):settle (.panicking [{v:=v,recovered:=bh}])=.returning:=by rfl
def auB{d}(hg:KL P hb g=a_ d){x}{v}{K}
  (I:match x,v with|none,bn=>True|some x,a_ v=>yh x=bh/\rP x=a_ v|_,_=>False)
  (h:j6 G P d.body (λe s=>(e=.normal\/e=.ret)/\K s.J) ⟨((vX args d.ntmps).set d.d0 (qK x)).set d.d1 (qK x),J⟩):kZ G P g args J v K:=by
 unfold KL at hg;split at hg;rename_i fn q6;split at hg;cases hg;rename_i xX;split at hg;rename_i R8;split at hg;rename_i id o1 o2 rest O;split at hg;rename_i d0 d1 sc EH G3;split at hg;rename_i c6;obtain⟨XN,zm,bR⟩:=c6;cases hg;have aix:=Array.toList_inj.1 (by simpa using R8);refine⟨⟨fn,q6,by rw[O];rfl,by simpa using xX⟩,λbase w0 C M w dn hs D=>?_⟩;refine callsDIn_of_wpSIn q6 O trivial λL2 Z hu=>?_;unfold an7 at EH;split at EH;rename_i aJK zZ oT g_ oF;split at EH;rename_i D4 t1 mO p1 o7;split at EH;rename_i ht;subst ht;cases EH;refine wpSIn_seq (wpSIn_region ?_);have key:∀(rv) (cs') (u'),bP C M J (qK x) rv->settle u'=.returning->cs'={L2 with mode:=u'}::Z->
   rest.wpSIn Ab 0 P (bodyPostS P fn L2 Z λe u' w'=>∃bI M' bl v,K bl/\e=.returned v/\settle u'=.returning/\dm C M J bI M' bl/\cB G base w0 bI M' bl w')
    (({tmps:=dn.toArray++BQ (fn.ntmps-dn.toArray.size) undef,defers:=[]}:Act).put (a_ d0) rv|>.put (a_ d1) rv) cs' w:=by
  intro rv cs' u' mI Cz RI;refine wpSIn_of_wpIn rfl ?_;have Es:iR G .plain bn base w0 C M ⟨((vX args fn.ntmps).set d0 (qK x)).set d1 (qK x),J⟩ (({tmps:=dn.toArray++BQ (fn.ntmps-dn.toArray.size) undef,defers:=[]}:Act).put (a_ d0) rv|>.put (a_ d1) rv) w:=
   ⟨hs,Cl (Cl (Rg D _) mI (a_ d0)) mI (a_ d1),rfl,trivial⟩
  refine wpIn_mono (h rest hb G3 bn base w0 C M _ w Es) λe a' w' ⟨bI,M',s',⟨he,hK⟩,bJ,eY⟩=>?_;have hd:=eY.defers
  rcases he with rfl|rfl
  exact⟨hd,u',RI,.tuple #[],by simp[results,aix],bI,M',s'.J,_,hK,rfl,Cz,bJ,eY.lQ⟩;exact⟨hd,u',RI,.tuple #[],by simp[results,aix],bI,M',s'.J,_,hK,rfl,Cz,bJ,eY.lQ⟩
 have dw:d0<(dn.toArray++BQ (fn.ntmps-dn.toArray.size) undef).size:=ah
 cases x with
 |none=>
  cases v with
  |some v=>exact I.elim
  |none=>
   have Sc:=hu;have R7:recoverD (L2::Z)=bn:=by simp[recoverD,Sc]
   have:=key .nilIface (L2::Z) .returning (.v rfl) rfl (by cases L2;cases Sc;rfl);exact an8 dw (bD ⟨R7,rfl,rfl⟩) this
 |some x=>
  cases v with
  |none=>exact I.elim
  |some v=>
   have Sc:=hu;have:=key v _ (.panicking [{v:=v,recovered:=bh}]) (aFK I.1 I.2) (aGC v) rfl;exact an8 dw (bG (by simp[recoverD,Sc])) this
 cases EH;cases EH;cases EH;cases hg;cases hg;cases hg;cases hg;cases hg
structure ar1 where
 ntmps:Nat
 results:List je
 head:qU
 t:Nat
 g:FuncId
 caps:List dK
 body:qU
def CP(t:Nat)(g:FuncId)(Z:Array Operand)(oT:TypeId)(g_:String)(oF:Array Edge):Oper:={dst:=a_ t,op:=.makeFunc (.func g) ⟨[]⟩ Z,type:=oT,pos:=g_,after:=oF,guard:=bn}
def Cg(t:Nat)(yE:Array TypeId)(mO:TypeId)(p1:String)(o7:Array Edge):Oper:={dst:=bn,op:=.defer {callee:=.value (.tmp t),args:=⟨[]⟩,argTypes:=yE},type:=mO,pos:=p1,after:=o7,guard:=bn}
def afD(o1 o2:Oper):Option (Nat×FuncId×List dK):=match o1 with
 |{dst:=a_ t,op:=.makeFunc (.func g) ⟨[]⟩ Z,type:=_,pos:=_,after:=_,guard:=bn}=>match o2 with
  |{dst:=bn,op:=.defer {callee:=.value (.tmp t'),args:=⟨[]⟩,argTypes:=_},type:=_,pos:=_,after:=_,guard:=bn}=>if t'=t then(match uw Z.toList with|some l=>a_ (t,g,l)|none=>bn) else bn
  |_=>bn
 |_=>bn
def KK(P:Program)(hb:nF)(f:FuncId):Option ar1:=match P.funcs[f]? with
 |some fn=>if fn.name== "runtime.NumGoroutine" then bn else match fn.body with
  |some (.seq bS (.seq (.region _ ⟨[o1,o2]⟩ bf) rest))=>match afD o1 o2,slim P hb bS,slim P hb rest,Ff P fn.results.toList with
   |some (t,g,l),a_ h,a_ b,a_ rs=>if t<fn.ntmps then a_ ⟨fn.ntmps,rs,h,t,g,l,b⟩ else bn
   |_,_,_,_=>bn
  |_=>bn
 |none=>bn
def auG{hi}{t}{Z}{yE}(hd:t<a.tmps.size)
  (hq:hi .normal {(a.put (a_ t) (.func (.func g) #[] (Z.map a.eval))) with defers:={target:=.fn (.func g) (Z.map a.eval),args:= #[]}::a.defers} w):
  wpOpsIn (sA bn) 0 P ⟨[CP t g Z oT g_ oF,Cg t yE mO p1 o7]⟩ hi [0,1] a w:=by
 have e1:(execOp a.eval (CP t g Z oT g_ oF)).run P w=.ok (.value (.func (.func g) #[] (Z.map a.eval))) w:=by
  simp[execOp,CP,Instr.makeFunc]
 have e2:(execOp (a.put (a_ t) (.func (.func g) #[] (Z.map a.eval))).eval (Cg t yE mO p1 o7)).run P w=.ok (.defer {target:=.fn (.func g) (Z.map a.eval),args:= #[]}) w:=by
  have:(a.put (a_ t) (.func (.func g) #[] (Z.map a.eval))).eval (.tmp t)=.func (.func g) #[] (Z.map a.eval):=by simp[O_,Act.put,hd]
  simp[execOp,Cg,resolve,this,FD]
 have n3:(⟨[CP t g Z oT g_ oF,Cg t yE mO p1 o7]⟩:Array Oper)[0]?=a_ (CP t g Z oT g_ oF):=rfl;have zd:(⟨[CP t g Z oT g_ oF,Cg t yE mO p1 o7]⟩:Array Oper)[1]?=a_ (Cg t yE mO p1 o7):=rfl;have L6:(CP t g Z oT g_ oF).dst=a_ t:=rfl;have auM:(Cg t yE mO p1 o7).dst=bn:=rfl;have s1:(CP t g Z oT g_ oF).semAt (sA bn).round a.eval=execOp a.eval (CP t g Z oT g_ oF):=rfl;have s2:(Cg t yE mO p1 o7).semAt (sA bn).round (a.put (a_ t) (.func (.func g) #[] (Z.map a.eval))).eval=execOp (a.put (a_ t) (.func (.func g) #[] (Z.map a.eval))).eval (Cg t yE mO p1 o7):=rfl;unfold wpOpsIn;simp only[n3,λ_=>rfl,if_true];refine⟨λ_ _=>trivial,?_⟩;rw[s1,e1];simp only[Oper.uponIn,L6];unfold wpOpsIn;simp only[zd,λ_=>rfl,if_true];refine⟨λ_ _=>trivial,?_⟩;rw[s2,e2];simp only[Oper.uponIn,auM];exact hq
def auX(G:Cells)(P:Program)(g:FuncId)(ks:List Nat)(rs:List je)(K:bg->List br->Prop):Exit->eH->Prop
 |.normal,s=>kZ G P g (ks.map λk=>.mp k 0) s.J bn λbl=>∃r,ur ⟨s.ts,bl⟩ rs=a_ r/\K r bl
 |.ret,s=>kZ G P g (ks.map λk=>.mp k 0) s.J bn λbl=>∃r,ur ⟨s.ts,bl⟩ rs=a_ r/\K r bl
 |.panic ch,s=>∃v,ch=[{v:=v,recovered:=bf}]/\kZ G P g (ks.map λk=>.mp k 0) s.J (a_ v) λbl=>∃r,ur ⟨s.ts,bl⟩ rs=a_ r/\K r bl
 |_,_=>False
def avy{f}{d}(hf:KK P hb f=a_ d){K}
  (h:j6 G P d.head (λe s=>e=.normal/\d.t<s.ts.length/\∃ks:List Nat,d.caps.map (ev s.ts)=ks.map (λk=>.mp k 0)/\
    lW G P (.sN d.g ks) d.body (auX G P d.g ks d.results K) ⟨s.ts.set d.t (.fn (.func d.g) [] (ks.map λk=>.mp k 0)),s.J⟩) ⟨vX args d.ntmps,J⟩):ct G P f args J K:=by
 unfold KK at hf;split at hf;rename_i fn q6;split at hf;cases hf;rename_i xX;split at hf;rename_i bS id o1 o2 rest O;split at hf;rename_i t g l hd bd rs A6 hh axf x4;split at hf;rename_i c6;cases hf;unfold afD at A6;split at A6;rename_i t0 g0 cs0 oT g_ oF;split at A6;rename_i t1 yE mO p1 o7;split at A6;rename_i ht;subst ht;split at A6;rename_i l' hl;cases A6;refine⟨⟨fn,q6,by rw[O];rfl,by simpa using xX⟩,λbase w0 C M w dn hs D=>?_⟩;refine callsIn_wide.1 (callsIn_of_wp_defers (n:=0) q6 O trivial ?_);have hf:iR G .plain bn base w0 C M ⟨vX args fn.ntmps,J⟩ {tmps:=dn.toArray++BQ (fn.ntmps-dn.toArray.size) undef,defers:=[]} w:=
  ⟨hs,Rg D _,rfl,trivial⟩
 refine wpIn_seq (wpIn_mono (h bS hb hh bn base w0 C M _ w hf) λe a1 w1 ⟨PD,Lo,s1,⟨he,G5,ks,sZ,hT⟩,Ex,MQ⟩=>?_);subst he;have iq:dH PD Lo s1.J (ks.map λk=>.mp k 0) (cs0.map a1.eval).toList:=by
  have:=ym MQ.frame hl;rw[sZ] at this;simpa using this
 have dw:t<a1.tmps.size:=by
  have:=MQ.frame.1;simp only[aqN] at this;have aKE:t<s1.ts.length:=G5;omega
 refine wpIn_seq (wpIn_region ?_);refine auG dw ?_;have XQ:iR G (.sN g ks) bn base w0 PD Lo ⟨s1.ts.set t (.fn (.func g) [] (ks.map λk=>.mp k 0)),s1.J⟩ {(a1.put (a_ t) (.func (.func g) #[] (cs0.map a1.eval))) with defers:={target:=.fn (.func g) (cs0.map a1.eval),args:= #[]}::a1.defers} w1:=by
  refine⟨MQ.lQ,?_,⟨PD,cs0.map a1.eval,by rw[MQ.defers],iq⟩,rfl⟩;exact Cl MQ.frame (.fn rfl (by have:=iq.1;simpa using this) (λi x y I _=>aG) (λi x y I hy=>iq.2 i x y I (by simpa using hy))) (a_ t)
 refine wpIn_mono (hT rest hb axf bn base w0 PD Lo _ w1 XQ) λe a2 w2 ⟨xe,M2,s2,hq,mc,XR⟩=>?_;obtain⟨FO,cap,A7,ahI⟩:=XR.defers;have fin:∀(x) (u),u=(match x with|none=>.returning|some v=>.panicking [{v:=v,recovered:=bf}])->
   kZ G P g (ks.map λk=>.mp k 0) s2.J x (λbl=>∃r,ur ⟨s2.ts,bl⟩ rs=a_ r/\K r bl)->
   LeavesIn Ab 0 P fn a2.tmps (λe w'=>∃bI M' bl r v',K r bl/\e=.returned v'/\dm C M J bI M' bl/\cB G base w0 bI M' bl w'/\bP bI M' bl r v') a2.defers u w2:=by
  intro x u hu kS;rw[A7];have axm:dH xe M2 s2.J (ks.map λk=>.mp k 0) cap.toList:=by
   refine⟨ahI.1,λi a b ha O=>?_⟩;have:=ahI.2 i a b ha O;simp only[fD,dF] at ha;obtain⟨k,_,rfl⟩:=ha;cases this with
   |mp hb' ez=>exact .mp hb' ez
  refine leavesIn_cons (by rw[hu];cases x<;>simp) (λq=>ax) (OF kS.1 _ _) (λ_ _=>trivial) ?_;rw[hu];have e0:(#[]:Array Value)++cap=cap.toList.toArray:=af
  rw[e0];refine CallsDIn.mono (kS.2 base w0 xe M2 w2 cap.toList XR.lQ axm) λe u' w' ⟨arH,arO,xY,v,⟨r,mI,hK⟩,he,Cz,Ey,x6⟩=>?_;subst he;simp only;rw[Cz];obtain⟨v',CB,Bp⟩:=aaW (dr:=.plain) (ro:=bn) (s':=⟨s2.ts,xY⟩) (a':={tmps:=a2.tmps,defers:=[]}) x4 ⟨x6,AW Ey XR.frame,rfl,trivial⟩ mI;exact⟨v',CB,arH,arO,xY,r,v',hK,rfl,Ex.trans (mc.trans Ey),x6,Bp⟩
 cases e with
 |normal=>exact fin bn .returning rfl hq
 |ret=>exact fin bn .returning rfl hq
 |panic ch=>
  obtain⟨v,rfl,kS⟩:=hq;exact fin (a_ v) _ rfl kS
 |_=>exact hq.elim
 cases A6;cases A6;cases A6;cases A6;cases hf;cases hf;cases hf;cases hf
end
end
section
variable{v:bg}{F K:bg->List br->Prop}{n:Nat}{args ts xs ys:List bg}{t:o6}{i:i_}{k:IntKind}{J l:List br}{b w:Bool}{a:Prop}{ops r:List dQ}{α:Type}{d:Option Nat}{f g:FuncId}{ch:List PanicEntry}{G:Cells}{P:Program}{rs:List je}{hb pu:nF}
section
variable{P:Program}{K:eH->Prop}{ts:List bg}{J:List br}{r:List dQ}
def abS(x:Option (bg×List br))(F:bg->List br->Prop):Prop:=∃v bl,x=a_ (v,bl)/\F v bl
def aqr{bl}:abS (a_ (v,bl)) F=F v bl:=by
 apply propext;constructor;rintro⟨v',jk,h,k⟩;cases h;exact k;intro k;exact⟨v,bl,rfl,k⟩
section
variable(k:IntKind)(a b:Int)
def adx:dM .add (.v (.int k a)) (.v (.int k b))=a_ (.v (.int k (k.wrap (a+b)))):=aLt
def adG:dM .sub (.v (.int k a)) (.v (.int k b))=a_ (.v (.int k (k.wrap (a-b)))):=aLt
def adE:dM .mul (.v (.int k a)) (.v (.int k b))=a_ (.v (.int k (k.wrap (a*b)))):=aLt
def adz:dM .eql (.v (.int k a)) (.v (.int k b))=a_ (.v (.bool (a==b))):=aLt
def adF:dM .neq (.v (.int k a)) (.v (.int k b))=a_ (.v (.bool (a !=b))):=aLt
def adD:dM .lss (.v (.int k a)) (.v (.int k b))=a_ (.v (.bool (decide (a<b)))):=aLt
def adC:dM .leq (.v (.int k a)) (.v (.int k b))=a_ (.v (.bool (decide (a<=b)))):=aLt
def adB:dM .gtr (.v (.int k a)) (.v (.int k b))=a_ (.v (.bool (decide (b<a)))):=aLt
def adA:dM .geq (.v (.int k a)) (.v (.int k b))=a_ (.v (.bool (decide (b<=a)))):=aLt
def Vv(h:b≠0):dM .quo (.v (.int k a)) (.v (.int k b))=a_ (.v (.int k (k.wrap (a.tdiv b)))):=aNz
def Vw(h:b≠0):dM .rem (.v (.int k a)) (.v (.int k b))=a_ (.v (.int k (a.tmod b))):=aNz
def ase(k')(h:¬b<0):dM .shl (.v (.int k a)) (.v (.int k' b))=a_ (.v (.int k (k.wrap (a*2^(min b.toNat k.bits))))):=aNz
def asf(k')(h:¬b<0):dM .shr (.v (.int k a)) (.v (.int k' b))=a_ (.v (.int k (a.fdiv (2^(min b.toNat k.bits))))):=aNz
def ady:dM .and (.v (.int k a)) (.v (.int k b))=a_ (.v (xD k a b (· &&& ·))):=aLt
def asd:dM .or (.v (.int k a)) (.v (.int k b))=a_ (.v (xD k a b (· ||| ·))):=aLt
end
def Av(x):eW 1 [.v x]=a_ (.sl [.v x] .exact):=aMd
def lE{i:Nat}{x:bg}(h:xs[i]?=a_ x)(hn:x.cells.length=n):cx n (.sl xs t) (.v (.int k (i:Int)))=a_ (.fp x.cells 0):=by simp[cx,h,hn]
def F3{bN}{off:Nat}{Z}{c:bg}(J)(h:e9 bN n Z off=a_ c):bz J bN n (.fp Z off)=a_ c:=h
def adI(a b):eW 1 [.v a,.v b]=a_ (.sl [.v a,.v b] .exact):=aMd
def adJ(a b c):eW 1 [.v a,.v b,.v c]=a_ (.sl [.v a,.v b,.v c] .exact):=aMd
def adK(a b c d):eW 1 [.v a,.v b,.v c,.v d]=a_ (.sl [.v a,.v b,.v c,.v d] .exact):=aMd
def adL(a b c d e f g h):eW 1 [.v a,.v b,.v c,.v d,.v e,.v f,.v g,.v h]=a_ (.sl [.v a,.v b,.v c,.v d,.v e,.v f,.v g,.v h] .exact):=aMd
def Aw(off o:Nat)(Z):k6 off (.fp Z o)=a_ (.fp Z (o+off)):=rfl
def m_(off o k:Nat):k6 off (.mp k o)=a_ (.mp k (o+off)):=rfl
def cC(v:bg)(xs:List bg):Prop:=v=.sl xs .no\/(v=.bq/\xs=[])
def cC.len{v:bg}{xs}(h:cC v xs):LD v=a_ (.v (goInt xs.length)):=by
 rcases h with rfl|⟨rfl,rfl⟩<;>rfl
def cC.cw(h:cC v xs){i:Nat}{x:bg}(I:xs[i]?=a_ x)(hn:x.cells.length=n):cx n v (.v (.int k (i:Int)))=a_ (.fp x.cells 0):=by
 rcases h with rfl|⟨rfl,rfl⟩
 exact lE I hn;simp at I
def cC.ns(h:cC v xs):∀s,v≠.v (.string s):=by
 rcases h with rfl|⟨rfl,rfl⟩<;>(intro s e;cases e)
def cH(v:bg)(J:List br):Option (bg×List br):=match v with
 |.v (.string _)=>bn
 |x'=>(LD x').map λr=>(r,J)
def cC.cH{v:bg}{xs:List bg}(h:cC v xs)(J:List br):cH v J=a_ (.v (goInt xs.length),J):=by
 rcases h with rfl|⟨rfl,rfl⟩<;>rfl
def oc(xs)(t)(J):cH (.sl xs t) J=a_ (.v (goInt xs.length),J):=rfl
section
variable(ts:List bg)(J:List br)
def I2(k o:Nat):y8 (.mp k o)=a_ (.mp k o):=rfl
def ad3(Z)(o:Nat):y8 (.fp Z o)=a_ (.fp Z o):=rfl
end
def VA(k k')(n:Int):IV k (.v (.int k' n))=a_ (.v (.int k (k.wrap n))):=rfl
def Fv(n:Int):Iq.wrap n=n % 18446744073709551616:=by simp[acj,K1,K2]
def aqC(n:Int):IntKind.u8.wrap n=n % 256:=by simp[acj,K1,K2]
def e6{n:Int}(h0: -9223372036854775808<=n)(Y:n<=9223372036854775807):cN.wrap n=n:=by
 simp[acj,K1,K2];split<;>omega
def de(J:List br)(v:bg)(xs:List bg)(n:Nat)(e:TypeId):Prop:=(v=.bq/\xs=[])\/∃id,v=.sl xs (.tok id)/\J[id]?=a_ (.tok xs.length n e)
structure acN(J bl:List br)(v:bg):Prop where
 len:J.length<=bl.length
 cells:∀(k:Nat) Z fz,J[k]?=a_ (.cells Z fz)->bl[k]?=a_ (.cells Z fz)
 toks:∀(k:Nat) n s e,J[k]?=a_ (.tok n s e)->(∀xs,v≠.sl xs (.tok k))->bl[k]?=a_ (.tok n s e)
 gF:∀(k:Nat) b,b.isObj=bh->J[k]?=a_ b->bl[k]?=a_ b
def de.nil(J)(n:Nat)(e):de J .bq [] n e:=bD ⟨rfl,rfl⟩
def de.run{cc:Nat}{e}(hA:de J v xs n e)(I:cY n xs=bh)(hy:cY n ys=bh)(bR:ys≠[])(hn:0<n)(O:0<cc)
  (hfit:(xs.length+ys.length)*cc<=140737488355328) (k:∀v' bl,de bl v' (xs++ys) n e->acN J bl v->(∃id,v'=.sl (xs++ys) (.tok id))->F v' bl):abS (eg J n cc e v (.sl ys t)) F:=by
 rcases hA with⟨rfl,rfl⟩|⟨id,rfl,hid⟩
 refine⟨.sl ys (.tok J.length),J++[.tok ys.length n e],?_,?_⟩;simp only[gR,gA] at hfit;simp[eg,gY,iI,iA,bR,hy,hn,O,hfit];refine k _ _ (bG ⟨J.length,rfl,af⟩) ⟨af,λj Z fz h=>?_,λj n s e' h _=>?_,λj b _ h=>by rw[fT (cJ.1 h).1];exact h⟩ ⟨_,rfl⟩;rw[fT (cJ.1 h).1];exact h;rw[fT (cJ.1 h).1];exact h;have hl:=(cJ.1 hid).1;refine⟨.sl (xs++ys) (.tok id),J.set id (.tok (xs.length+ys.length) n e),?_,?_⟩;simp[eg,gY,iI,iA,bR,hy,hn,O,hfit,I,hid];refine k _ _ (bG ⟨id,rfl,by rw[bT hl,dO]⟩) ⟨af,λj Z fz h=>?_,λj n' s e' h aij=>?_,λj b O h=>by rw[bC (by intro e;subst e;rw[hid] at h;cases h;cases O)];exact h⟩ ⟨_,rfl⟩;rw[bC];exact h;intro e;subst e;rw[hid] at h;cases h;rw[bC];exact h;intro e;subst e;exact aij xs rfl
def de.at{id:Nat}{e}(h:de J (.sl xs (.tok id)) ys n e):J[id]?=a_ (.tok ys.length n e):=by
 rcases h with⟨h,_⟩|⟨n_,h,V⟩
 cases h;cases h;exact V
def bU{k:Nat}{b:br}(h:J[k]?=a_ b):(J++l)[k]?=a_ b:=by
 rw[fT (cJ.1 h).1];exact h
def de.ext{e}(h:de J v xs n e):de (J++l) v xs n e:=
 h.imp id λ⟨id,q,h⟩=>⟨id,q,bU h⟩
def de.new{e}:de (J++[.tok xs.length n e]) (.sl xs (.tok J.length)) xs n e:=bG ⟨_,rfl,af⟩
end
abbrev dA:=List (Nat×bg)
variable{e:dA}
def gU:dA->Nat->Option bg
 |[],_=>bn
 |(j,v)::r,k=>if j=k then a_ v else gU r k
def D8(k:Nat)(o:Option bg)(e:dA):dA:=
 match o with
 |some v=>(k,v)::e
 |none=>e
def ng:List Nat->dA->dA
 |[],_=>[]
 |k::L,e=>D8 k (gU e k) (ng L e)
def ew(e:dA):dK->Option bg
 |.t k=>gU e k
 |.c a=>a_ a
def n6(e:dA):List dK->Option (List bg)
 |[]=>a_ []
 |x::r=>(ew e x).bind λa=>(n6 e r).map λl=>a::l
def ze(e:dA):Option dK->Option (Option bg)
 |none=>a_ bn
 |some x=>(ew e x).map a_
def D_(e:dA):List (Nat×Nat×dK)->Option (List (Nat×Nat×bg))
 |[]=>a_ []
 |(i,n,x)::r=>(ew e x).bind λa=>(D_ e r).map λl=>(i,n,a)::l
def r6(v:bg)(J:List br):Option (bg×List br):=match v with
 |.v (.string s)=>a_ (.v (goInt s.size),J)
 |_=>bn
def qg(n:Nat)(v:bg)(lo Q mx:Option bg)(J:List br):Option (bg×List br):=match v with
 |.v (.string _)=>bn
 |x'=>(nG n x' lo Q mx).map λr=>(r,J)
def H_(v:bg)(lo Q:Option bg)(J:List br):Option (bg×List br):=match v with
 |.v (.string s)=>(nG 0 (.v (.string s)) lo Q bn).map λr=>(r,J)
 |_=>bn
def Km(c:bg)(x y:Option bg):Option bg:=match c with
 |.v (.bool b)=>if b then x else y
 |_=>bn
def Sl(v:bg)(J:List br):Option (bg×List br):=match v with
 |.v (.string s)=>a_ (.gE J.length,J++[.obj (.stringIter s 0)])
 |_=>bn
def cE(e:dA)(J:List br):sG->Option (bg×List br)
 |.mv x=>(ew e x).map λr=>(r,J)
 |.pick c a b=>(ew e c).bind λc=>(Km c (ew e a) (ew e b)).map λr=>(r,J)
 |.alloc z=>a_ (.mp J.length 0,J++[.cells z bf])
 |.Ax t z=>a_ (.mp J.length 0,J++[.cells (.iJ J.length t::z) bf])
 |.AE cc ty s x=>(ew e s).bind λs=>(ew e x).bind λx=>B9 J cc ty s x
 |.box x=>(ew e x).map λr=>(.mp J.length 0,J++[.cells r.cells bf])
 |.build z ps=>(D_ e ps).bind λl=>(dI z l).map λr=>(.agg r,J)
 |.AI n vs=>(n6 e vs).bind λl=>(eW n l).map λr=>(r,J)
 |.gk bN n x=>(ew e x).bind λx=>(bz J bN n x).map λr=>(r,J)
 |.st n p x=>(ew e p).bind λp=>(ew e x).bind λx=>(bL J n p x).map λbl=>(jN,bl)
 |.J9 x=>(ew e x).bind λx=>(y8 x).map λr=>(r,J)
 |.bin op x y=>(ew e x).bind λx=>(ew e y).bind λy=>(dM op x y).map λr=>(r,J)
 |.Mc neg x y=>(ew e x).bind λx=>(ew e y).bind λy=>(IX neg x y).map λr=>(r,J)
 |.Md K neg x y=>(ew e x).bind λx=>(ew e y).bind λy=>(oD K neg x y).map λr=>(r,J)
 |.Jh ks neg x y=>(ew e x).bind λx=>(ew e y).bind λy=>(sI ks neg x y).map λr=>(r,J)
 |.un op x=>(ew e x).bind λx=>(F5 op x).map λr=>(r,J)
 |.c_ k x=>(ew e x).bind λx=>(IV k x).map λr=>(r,J)
 |.KC x=>(ew e x).bind λx=>(Qc x).map λr=>(r,J)
 |.I5 x=>(ew e x).bind λx=>(Lz x).map λr=>(r,J)
 |.slc n x lo Q mx=>(ew e x).bind λx=>(ze e lo).bind λlo=>(ze e Q).bind λQ=>(ze e mx).bind λmx=>qg n x lo Q mx J
 |.yu x lo Q=>(ew e x).bind λx=>(ze e lo).bind λlo=>(ze e Q).bind λQ=>H_ x lo Q J
 |.fa off x=>(ew e x).bind λx=>(k6 off x).map λr=>(r,J)
 |.cw n x i=>(ew e x).bind λx=>(ew e i).bind λi=>(cx n x i).map λr=>(r,J)
 |.tM len n x i=>(ew e x).bind λx=>(ew e i).bind λi=>(kQ len n x i).map λr=>(r,J)
 |.Rc bN n off x=>(ew e x).bind λx=>(IZ bN n off x).map λr=>(r,J)
 |.idx bN n len x i=>(ew e x).bind λx=>(ew e i).bind λi=>(DL bN n len x i).map λr=>(r,J)
 |.D2 x i=>(ew e x).bind λx=>(ew e i).bind λi=>(xx x i).map λr=>(r,J)
 |.ext i x=>(ew e x).bind λx=>(oE i x).map λr=>(r,J)
 |.r6 x=>(ew e x).bind λx=>r6 x J
 |.len x=>(ew e x).bind λx=>cH x J
 |.app n cc ty s x=>(ew e s).bind λs=>(ew e x).bind λx=>eg J n cc ty s x
 |.Bz f a b=>(n6 e a).bind λa=>(n6 e b).map λb=>(.fn f a b,J)
 |.xF n vs=>(n6 e vs).bind λl=>Au J n l
 |.Ca n cc ty s x=>(ew e s).bind λs=>(ew e x).bind λx=>qW J n cc ty s x
 |.BA n cc _ z l c=>(ew e l).bind λl=>(ew e c).bind λc=>DN J n cc z l c
 |.CR n cc ty z l c=>(ew e l).bind λl=>(ew e c).bind λc=>DO J n cc ty z l c
 |.CO t x=>(ew e x).map λx=>(.eD t x,J)
 |.KO t z ok x=>(ew e x).bind λx=>(I3 t z ok x).map λr=>(r,J)
 |.uk mx xs=>(n6 e xs).bind λl=>(rL mx l).map λr=>(r,J)
 |.iter x=>(ew e x).bind λx=>Sl x J
 |.next x=>(ew e x).bind λx=>sJ J x
 |.CQ=>a_ (.gm J.length,J++[.eS [] 0])
 |.E1 x=>(ew e x).bind λx=>(DM J x).map λr=>(r,J)
 |.CK bN ks z ok m k=>(ew e m).bind λm=>(ew e k).bind λk=>(xy J bN ks z ok m k).map λr=>(r,J)
 |.yc bN ks m k x=>(ew e m).bind λm=>(ew e k).bind λk=>(ew e x).bind λx=>(y7 J bN ks m k x).map λbl=>(jN,bl)
 |.By bN ks z m k=>(ew e m).bind λm=>(ew e k).bind λk=>I0 J bN ks z m k
 |.D9 m st x=>(ew e m).bind λm=>(ew e st).bind λst=>(ew e x).bind λx=>(IY J m st x).map λbl=>(jN,bl)
def mX(n:Nat)(ts:List bg)(e:dA):Prop:=ts.length=n/\∀k v,gU e k=a_ v->ts[k]?=a_ v
def kR(h:mX n ts e){x:dK}{a:bg}(I:ew e x=a_ a):ev ts x=a:=by
 cases x with
 |t k=>
  have:=h.2 k a I;simp[ev,this]
 |c b=>cases I;rfl
def vY(h:mX n ts e):∀{xs} {dL},n6 e xs=a_ dL->xs.map (ev ts)=dL
 |[],dL,I=>by cases I;rfl
 |x::r,dL,I=>by
  simp only[n6,gS,dF] at I;obtain⟨a,Y,l,V,rfl⟩:=I;rw[fQ,kR h Y,vY h V]
def af_(h:mX n ts e):∀{xs} {dL},D_ e xs=a_ dL->xs.map (λp=>(p.1,p.2.1,ev ts p.2.2))=dL
 |[],dL,I=>by cases I;rfl
 |(i,n,x)::r,dL,I=>by
  simp only[D_,gS,dF] at I;obtain⟨a,Y,l,V,rfl⟩:=I;rw[fQ,kR h Y,af_ h V]
def Mh(h:mX n ts e){x}{a}(I:ze e x=a_ a):x.map (ev ts)=a:=by
 cases x with
 |none=>cases I;rfl
 |some x=>
  simp only[ze,dF] at I;obtain⟨b,Y,rfl⟩:=I;rw[j3,kR h Y]
def aeb(h:mX n ts e){o:sG}{r}(ho:cE e J o=a_ r):fK ts J o=a_ r:=by
 cases o
 case pick c a b=>
  simp only[cE,gS,dF] at ho;obtain⟨c',Y,v,V,rfl⟩:=ho;unfold Km at V;split at V;rename_i b';simp only[fK,kR h Y];cases b' with
  |true=>simp only[if_true] at V⊢;rw[kR h V]
  |false=>simp only[kJ,if_false] at V⊢;rw[kR h V]
  cases V
 case slc m x lo Q mx=>
  simp only[cE,gS] at ho;obtain⟨x',Y,zC,V,kj,h3,vi,h4,h5⟩:=ho;simp only[fK,kR h Y,Mh h V,Mh h h3,Mh h h4];exact h5
 case yu x lo Q=>
  simp only[cE,gS] at ho;obtain⟨x',Y,zC,V,kj,h3,h5⟩:=ho;simp only[fK,kR h Y,Mh h V,Mh h h3];exact h5
 case r6 x=>
  simp only[cE,gS] at ho;obtain⟨x',Y,h5⟩:=ho;simp only[fK,kR h Y];exact h5
 case len x=>
  simp only[cE,gS] at ho;obtain⟨x',Y,h5⟩:=ho;simp only[fK,kR h Y];exact h5
 case build z ps=>
  simp only[cE,gS] at ho;obtain⟨x',Y,h5⟩:=ho;simp only[fK,af_ h Y];exact h5
 case AI z ps=>
  simp only[cE,gS] at ho;obtain⟨x',Y,h5⟩:=ho;simp only[fK,vY h Y];exact h5
 case xF z ps=>
  simp only[cE,gS] at ho;obtain⟨x',Y,h5⟩:=ho;simp only[fK,vY h Y];exact h5
 case uk z ps=>
  simp only[cE,gS] at ho;obtain⟨x',Y,h5⟩:=ho;simp only[fK,vY h Y];exact h5
 case CQ=>exact ho
 case CO t x=>
  simp only[cE,dF] at ho;obtain⟨x',Y,rfl⟩:=ho;simp only[fK,kR h Y]
 case yc bN ks m k x=>
  simp only[cE,gS] at ho;obtain⟨m',Y,k',V,x',h3,h5⟩:=ho;simp only[fK,kR h Y,kR h V,kR h h3];exact h5
 case D9 m k x=>
  simp only[cE,gS] at ho;obtain⟨m',Y,k',V,x',h3,h5⟩:=ho;simp only[fK,kR h Y,kR h V,kR h h3];exact h5
 case Bz f a b=>
  simp only[cE,gS,dF] at ho;obtain⟨x',Y,y',V,h5⟩:=ho;simp only[fK,vY h Y,vY h V];rw[h5]
 case alloc z=>exact ho
 case Ax t z=>exact ho
 case AE cc ty s x=>
  simp only[cE,gS] at ho;obtain⟨x',Y,y',V,h5⟩:=ho;simp only[fK,kR h Y,kR h V];rw[h5]
 case mv x=>
  simp only[cE,dF] at ho;obtain⟨x',Y,rfl⟩:=ho;simp only[fK,kR h Y]
 case box x=>
  simp only[cE,dF] at ho;obtain⟨x',Y,rfl⟩:=ho;simp only[fK,kR h Y]
 all_goals first
  |(simp only[cE,gS] at ho
    obtain⟨x',Y,y',V,h5⟩:=ho;simp only[fK,kR h Y,kR h V];exact h5)
  |(simp only[cE,gS] at ho
    obtain⟨x',Y,h5⟩:=ho;simp only[fK,kR h Y];exact h5)
class Hid(α:Type) where
 v:α
variable{A B:Hid Prop}
def ah1(a:α):(Hid.mk a).v=a:=rfl
def hD{α:Type}(x:Option α)[F:Hid (α->Prop)]:Prop:=∃a,x=a_ a/\F.v a
def aqq{a:α}{F}:@hD α (a_ a) F=F.v a:=by
 apply propext;constructor;rintro⟨b,h,k⟩;cases h;exact k;intro k;exact⟨a,rfl,k⟩
def tE(b:Bool)[A:Hid Prop][B:Hid Prop]:Prop:=(b=bh->A.v)/\(b=bf->B.v)
def PC:@tE bh A B=A.v:=by simp[tE]
def PB:@tE bf A B=B.v:=by simp[tE]
def tE.mk(Y:b=bh->A.v)(V:b=bf->B.v):@tE b A B:=⟨Y,V⟩
def Ga(v:bg)[A:Hid Prop][B:Hid Prop]:Prop:=match v with
 |.v (.bool b)=>@tE b A B
 |_=>False
def aeD:@Ga (.v (.bool b)) A B=@tE b A B:=rfl
def u0(w:Bool)(v:bg)[A:Hid Prop][B:Hid Prop]:Prop:=match v with
 |.v (.bool b)=>if w then@tE b A B else@tE b B A
 |.bQ []=>B.v
 |_=>False
def ahj:@u0 bh (.v (.bool b)) A B=@tE b A B:=rfl
def ahh:@u0 bf (.v (.bool b)) A B=@tE b B A:=rfl
def ahi:@u0 w jN A B=B.v:=rfl
abbrev sE:=List PanicEntry->List br->Prop
variable{E E':sE}
def U0(G:Cells)(P:Program)(f:FuncId)(args:List bg)(J:List br)[F:Hid (bg->List br->Prop)]:Prop:=ct G P f args J F.v
def V6(G:Cells)(P:Program)(f:bg)(args:List bg)(J:List br)[F:Hid (bg->List br->Prop)]:Prop:=j4 G P f args J F.v
def U1(G:Cells)(P:Program)(f:FuncId)(args:List bg)(J:List br)[F:Hid (bg->List br->Prop)][E:Hid sE]:Prop:=iF G P f args J F.v E.v
def V7(G:Cells)(P:Program)(f:bg)(args:List bg)(J:List br)[F:Hid (bg->List br->Prop)][E:Hid sE]:Prop:=xj G P f args J F.v E.v
section
variable{G:Cells}{P:Program}{f:FuncId}{args fs Z:List bg}{J:List br}{F:Hid (bg->List br->Prop)}{E:Hid sE}
def aeV:@V6 G P (.fn (.func f) fs Z) args J F=@U0 G P f (fs++args++Z) J F:=by simp[V6,j4,U0]
def aeW:@V7 G P (.fn (.func f) fs Z) args J F E=@U1 G P f (fs++args++Z) J F E:=by simp[V7,xj,U1]
end
def aEY(G:Cells)(P:Program)(f:FuncId)(args:List bg)[F:Hid (bg->Prop)]:Prop:=∃bs r',oA args bs/\cI G P f bs r'/\F.v r'
def jQ(G:Cells)(P:Program)(i:i_)[F:Hid (bg->List br->Prop)][E:Hid sE](e:dA)(J:List br):Prop:=match i with
 |.op o=>@hD _ (cE e J o) ⟨λr=>F.v r.1 r.2⟩
 |.call f args=>@hD _ (n6 e args) ⟨λdL=>@U0 G P f dL J F⟩
 |.oH x args=>@hD _ (ew e x) ⟨λx=>@hD _ (n6 e args) ⟨λdL=>@V6 G P x dL J F⟩⟩
 |.oe f args=>@hD _ (n6 e args) ⟨λdL=>@aEY G P f dL ⟨λv=>F.v v J⟩⟩
 |.pN f args r=>@hD _ (n6 e args) ⟨λdL=>∃bs,oA dL bs/\cI G P f bs r/\F.v r J⟩
 |.qu f args=>@hD _ (n6 e args) ⟨λdL=>@U1 G P f dL J F E⟩
 |.qv x args=>@hD _ (ew e x) ⟨λx=>@hD _ (n6 e args) ⟨λdL=>@V7 G P x dL J F E⟩⟩
 |.gP x=>@hD _ ((ew e x).bind rP) ⟨λv=>E.v [{v:=v,recovered:=bf}] J⟩
def qJ(d:Option Nat)(v:bg)(e:dA):dA:=match d with
 |some d=>(d,v)::e
 |none=>e
def kB(G:Cells)(P:Program)(l:List dQ)[K:Hid (dA->List br->Prop)][E:Hid sE](e:dA)(J:List br):Prop:=match l with
 |[]=>K.v e J
 |⟨d,bn,i⟩::r=>@jQ G P i ⟨λv bl=>@kB G P r K E (qJ d v e) bl⟩ E e J
 |⟨d,a_ (k,w),i⟩::r=>@hD _ (gU e k) ⟨λg=>@u0 w g ⟨@jQ G P i ⟨λv bl=>@kB G P r K E (qJ d v e) bl⟩ E e J⟩ ⟨@kB G P r K E (qJ d jN e) J⟩⟩
section
variable{G:Cells}{P:Program}{K:Hid (dA->List br->Prop)}{E:Hid sE}{e:dA}{J:List br}{d:Option Nat}{k:Nat}{i:i_}{r:List dQ}
def FZ:@kB G P [] K E e J=K.v e J:=by simp only[kB]
def IP:@kB G P (⟨d,bn,i⟩::r) K E e J=@jQ G P i ⟨λv bl=>@kB G P r K E (qJ d v e) bl⟩ E e J:=by simp only[kB]
def IN:@kB G P (⟨d,a_ (k,w),i⟩::r) K E e J=@hD _ (gU e k) ⟨λg=>@u0 w g ⟨@jQ G P i ⟨λv bl=>@kB G P r K E (qJ d v e) bl⟩ E e J⟩ ⟨@kB G P r K E (qJ d jN e) J⟩⟩:=by simp only[kB]
end
def xK(n:Nat):List dQ->Bool
 |[]=>bh
 |o::r=>(match o.dst with|some d=>decide (d<n)|none=>bh)&&xK n r
def afQ{ρ}:∀{l},xK n (l.map (gx ρ))=xK n l
 |[]=>rfl
 |o::r=>by simp only[fQ,xK,Uh,afQ]
def Jx(h:mX n ts e)(hd:(match d with|some d=>decide (d<n)|none=>bh)=bh):mX n (fF ts d v) (qJ d v e):=by
 cases d with
 |none=>exact h
 |some d=>
  simp only[decide_eq_true_eq] at hd;refine⟨by simp[fF,h.1],λk w S=>?_⟩;simp only[qJ,gU] at S;simp only[fF];split at S;rename_i e1;subst e1;cases S;exact bT (by rw[h.1];exact hd);rename_i e1;rw[bC e1];exact h.2 k w S
section
variable{G:Cells}{P:Program}
def azQ{F}{E}{K}(h:mX n ts e)(Q:@jQ G P i F E e J)(hF:∀v bl,F.v v bl->hO G E.v P r K ⟨fF ts d v,bl⟩):
  hO G E.v P (⟨d,bn,i⟩::r) K ⟨ts,J⟩:=by
 simp only[hO];unfold dR;rw[if_pos (by rfl)];cases i with
 |op o=>
  obtain⟨⟨v,bl⟩,Y,V⟩:=Q;simp only;rw[aeb h Y];exact hF _ _ V
 |call f args=>
  obtain⟨dL,Y,V⟩:=Q;simp only;rw[vY h Y];exact cm V hF
 |oH x args=>
  obtain⟨x',h0,dL,Y,V⟩:=Q;dsimp only at V;simp only;rw[vY h Y,kR h h0];exact wX V hF
 |oe f args=>
  obtain⟨dL,Y,bs,r',V,h3,h4⟩:=Q;simp only;rw[vY h Y];exact⟨bs,r',V,h3,hF _ _ h4⟩
 |pN f args r=>
  obtain⟨dL,Y,bs,V,h3,h4⟩:=Q;simp only;rw[vY h Y];exact⟨bs,V,h3,hF _ _ h4⟩
 |qu f args=>
  obtain⟨dL,Y,V⟩:=Q;simp only;rw[vY h Y];exact gW V hF λ_ _ k=>k
 |qv x args=>
  obtain⟨x',h0,dL,Y,V⟩:=Q;dsimp only at V;simp only;rw[vY h Y,kR h h0];exact ab7 V hF λ_ _ k=>k
 |gP x=>
  obtain⟨v,Y,V⟩:=Q;simp only[gS] at Y;obtain⟨x',h3,h4⟩:=Y;simp only;rw[kR h h3,h4];exact V
def apn{g}{K}:
  (p7 (a_ g) ts=bh->hO G E P (⟨d,bn,i⟩::r) K ⟨ts,J⟩)->(p7 (a_ g) ts=bf->hO G E P r K ⟨fF ts d jN,J⟩)->hO G E P (⟨d,a_ g,i⟩::r) K ⟨ts,J⟩:=λY V=>by
 cases hw:p7 (a_ g) ts with
 |true=>
  have:=Y hw;simp only[hO] at this⊢;unfold dR at this⊢;rw[if_pos (by rfl)] at this;simp only;rw[if_pos hw];exact this
 |false=>
  have:=V hw;simp only[hO];unfold dR;simp only;rw[if_neg (by rw[hw];simp)];exact this
def Lu:∀{l} {K} {E} {K'} {e:dA} {J} {ts},xK n l=bh->mX n ts e->@kB G P l K E e J->(∀ts e J,mX n ts e->K.v e J->K' ⟨ts,J⟩)->hO G E.v P l K' ⟨ts,J⟩
 |[],K,E,K',e,J,ts,hd,h,D,S=>S _ _ _ h (by rw[FZ] at D;exact D)
 |⟨d,g,i⟩::r,K,E,K',e,J,ts,hd,h,D,S=>by
  simp only[xK,fh] at hd;obtain⟨zm,va⟩:=hd;have tu:@jQ G P i ⟨λv bl=>@kB G P r K E (qJ d v e) bl⟩ E e J->hO G E.v P (⟨d,bn,i⟩::r) K' ⟨ts,J⟩:=λq=>
   azQ h q λv bl k=>Lu va (Jx h zm) k S
  have no:@kB G P r K E (qJ d jN e) J->hO G E.v P r K' ⟨fF ts d jN,J⟩:=λk=>Lu va (Jx h zm) k S
  rcases g with _|⟨k,w⟩
  rw[IP] at D;exact tu D;rw[IN] at D;obtain⟨g,Y,V⟩:=D;have gj:=h.2 k _ Y;dsimp only at V;unfold u0 at V;split at V;rename_i b;have hg:(b=w->@jQ G P i ⟨λv bl=>@kB G P r K E (qJ d v e) bl⟩ E e J)/\(b≠w->@kB G P r K E (qJ d jN e) J):=by
   cases w with
   |true=>exact⟨λq=>V.1 q,λq=>V.2 an⟩
   |false=>exact⟨λq=>V.2 q,λq=>V.1 an⟩
  refine apn (λhw=>tu (hg.1 ?_)) λhw=>no (hg.2 ?_);simpa[p7,gj] using hw;simpa[p7,gj] using hw;exact apn (λhw=>by simp[p7,gj] at hw) λ_=>no V;exact V.elim
end
def r_(c:dQ)(e:dA)(J:List br):Prop:=match c.ins,c.dst with
 |.op o,a_ d=>match c.guard with
  |none=>@hD _ (gU e d) ⟨λv=>@hD _ (cE e J o) ⟨λr=>r.1=v⟩⟩
  |some (k,w)=>@hD _ (gU e k) ⟨λg=>@u0 w g ⟨@hD _ (gU e d) ⟨λv=>@hD _ (cE e J o) ⟨λr=>r.1=v⟩⟩⟩ ⟨@hD _ (gU e d) ⟨λv=>v=jN⟩⟩⟩
 |_,_=>False
def qL(Z:List dQ)(e:dA)(J:List br):Prop:=match Z with
 |[]=>True
 |c::r=>r_ c e J/\qL r e J
def uP(G:Cells)(P:Program)(l:List (dQ×List dQ))[K:Hid (dA->List br->Prop)][E:Hid sE](e:dA)(J:List br):Prop:=match l with
 |[]=>K.v e J
 |(o,Z)::r=>@kB G P [o] ⟨λe' bl=>qL Z e' bl/\@uP G P r K E e' bl⟩ E e J
section
variable{G:Cells}{P:Program}{K:Hid (dA->List br->Prop)}{E:Hid sE}{e:dA}{J:List br}{o:dQ}{Z:List dQ}{r:List (dQ×List dQ)}
def IQ:@uP G P [] K E e J=K.v e J:=by simp only[uP]
def IS:@uP G P ((o,Z)::r) K E e J=@kB G P [o] ⟨λe' bl=>qL Z e' bl/\@uP G P r K E e' bl⟩ E e J:=by simp only[uP]
def aFH(h:mX n ts e){c}(T:r_ c e J):uO G P c ⟨ts,J⟩:=by
 obtain⟨d,g,i⟩:=c;unfold r_ at T;split at T;rename_i o dd Q hd;dsimp only at Q hd;subst Q hd;have tu:(p7 g ts=bh)->@hD _ (gU e dd) ⟨λv=>@hD _ (cE e J o) ⟨λr=>r.1=v⟩⟩->uO G P ⟨a_ dd,g,.op o⟩ ⟨ts,J⟩:=by
  rintro hw ⟨v,Y,r,V,h3⟩;dsimp only at h3;refine⟨dd,v,rfl,h.2 _ _ Y,?_⟩;unfold nE;rw[if_pos hw];simp only;rw[aeb h V,j3,h3]
 have no:(p7 g ts=bf)->@hD _ (gU e dd) ⟨λv=>v=jN⟩->uO G P ⟨a_ dd,g,.op o⟩ ⟨ts,J⟩:=by
  rintro hw ⟨v,Y,V⟩;dsimp only at V;refine⟨dd,v,rfl,h.2 _ _ Y,?_⟩;unfold nE;rw[if_neg (by rw[hw];simp)];exact V
 cases g with
 |none=>exact tu rfl T
 |some g=>
  obtain⟨k,w⟩:=g;obtain⟨g,Y,V⟩:=T;have gj:=h.2 k _ Y;dsimp only at V;unfold u0 at V;split at V;rename_i b;cases w with
  |true=>
   cases b with
   |true=>exact tu aNj (V.1 rfl)
   |false=>exact no aNj (V.2 rfl)
  |false=>
   cases b with
   |true=>exact no aNj (V.1 rfl)
   |false=>exact tu aNj (V.2 rfl)
  exact no aNj V;exact V.elim
 exact T.elim
def an9(h:mX n ts e):∀{Z},qL Z e J->∀c∈Z,uO G P c ⟨ts,J⟩
 |[],_,c,T=>aNc
 |c::r,D,c',T=>by
  rcases fc.1 T with rfl|T
  exact aFH h D.1;exact an9 h D.2 c' T
def adk:∀{l} {K} {E} {K'} {e:dA} {J} {ts},xK n (l.map (·.1))=bh->mX n ts e->@uP G P l K E e J->(∀ts e J,mX n ts e->K.v e J->K' ⟨ts,J⟩)->k4 G E.v P l K' ⟨ts,J⟩
 |[],K,E,K',e,J,ts,hd,h,D,S=>S _ _ _ h (by rw[IQ] at D;exact D)
 |(o,Z)::r,K,E,K',e,J,ts,hd,h,D,S=>by
  simp only[fQ,xK,fh] at hd;rw[IS] at D;have:=Lu (K':=λs'=>(∀c∈Z,uO G P c s')/\k4 G E.v P r K' s') (by simp only[xK,fh];exact⟨hd.1,trivial⟩) h D λts e J h' k=>⟨an9 h' k.1,adk hd.2 h' k.2 S⟩;exact this
end
inductive eR where
 |skip (L:List Nat)
 |region (ops:List dQ) (L:List Nat)
 |seq (a b:eR)
 |cond (c:dK) (a b:eR)
 |block (id:Nat) (a:eR)
 |loop (a:eR)
 |exit (id:Nat) (L:List Nat)
 |ret (L:List Nat)
 |r9 (x:dK) (ps:List Nat) (a b:eR) (L:List Nat)
 |sg (ls:List (List dQ)) (L:List Nat)
 |rz (l:List (dQ×List dQ)) (L:List Nat)
 |scope (a:eR)
 |lab (L:List Nat)
 |bad
variable{c:eR}
def eR.b9:eR->qU
 |.skip _=>.skip
 |.region ops _=>.region ops
 |.seq a b=>.seq a.b9 b.b9
 |.cond c a b=>.cond c a.b9 b.b9
 |.block id a=>.block id a.b9
 |.loop a=>.loop a.b9
 |.exit id _=>.exit id
 |.ret _=>.ret
 |.r9 x ps a b _=>.r9 x ps a.b9 b.b9
 |.sg ls _=>.sg ls
 |.rz l _=>.rz l
 |.scope a=>.scope a.b9
 |.lab _=>.lab
 |.bad=>.bad
def eR.p8(n:Nat):eR->Bool->Bool
 |.region ops _,_=>xK n ops
 |.sg ls _,_=>ls.all (xK n)
 |.rz l _,_=>xK n (l.map (·.1))
 |.seq a b,m=>a.p8 n m&&b.p8 n m
 |.cond _ a b,m=>a.p8 n m&&b.p8 n m
 |.block _ a,m=>a.p8 n m
 |.loop a,m=>a.p8 n m
 |.scope a,m=>a.p8 n m
 |.r9 _ ps a b _,m=>m&&(ps.all λp=>decide (p<n))&&a.p8 n bf&&b.p8 n bh
 |_,_=>bh
def eR.fits(n:Nat)(c:eR):Bool:=c.p8 n bf
def tQ(ops:List dQ):dA->dA
 |[]=>[]
 |(k,v)::e=>if ops.any (λo=>o.dst==a_ k) then tQ ops e else(k,v)::tQ ops e
def Ww{k:Nat}:∀{e:dA} {v:bg},gU (tQ ops e) k=a_ v->gU e k=a_ v/\∀bK∈ops,bK.dst≠a_ k
 |[],v,h=>aF
 |(j,w)::e,v,h=>by
  simp only[tQ] at h;split at h;rename_i hj;obtain⟨Y,V⟩:=Ww h;refine⟨?_,V⟩;simp only[gU];split;rename_i M1;subst M1;rw[K4] at hj;obtain⟨bK,q1,bt⟩:=hj;exact(V bK q1 aZ).elim;exact Y;rename_i hj;simp only[gU] at h⊢;by_cases M1:j=k;rw[if_pos M1] at h⊢;subst M1;refine⟨h,λbK jI q=>hj ?_⟩;rw[K4];exact⟨bK,jI,by simp[q]⟩;rw[if_neg M1] at h⊢;exact Ww h
def XD{nt}(h:mX n ts e)(ha:nR ops ts nt):mX n nt (tQ ops e):=by
 refine⟨ha.1.trans h.1,λk v S=>?_⟩;obtain⟨Y,V⟩:=Ww S;rw[ha.2 k V];exact h.2 k v Y
abbrev nU:=Exit->dA->List br->Prop
def th[next:Hid (dA->List br->Prop)][hi:Hid nU]:nU
 |.normal,e,J=>next.v e J
 |x,e,J=>hi.v x e J
def xE(id:Nat)[hi:Hid nU]:nU
 |.exit n_,e,J=>if n_=id then hi.v .normal e J else hi.v (.exit n_) e J
 |x,e,J=>hi.v x e J
def KG[hi:Hid nU]:nU
 |.goto _,_,_=>False
 |x,e,J=>hi.v x e J
section
variable{next:Hid (dA->List br->Prop)}{hi:Hid nU}{e:dA}{J:List br}{id:Nat}
def aoW:@KG hi .normal e J=hi.v .normal e J:=rfl
def aoV:@KG hi (.exit id) e J=hi.v (.exit id) e J:=rfl
def aoY:@KG hi .ret e J=hi.v .ret e J:=rfl
def aoX:@KG hi (.panic ch) e J=hi.v (.panic ch) e J:=rfl
def ap6:@th next hi .normal e J=next.v e J:=rfl
def ap5:@th next hi (.exit id) e J=hi.v (.exit id) e J:=rfl
def ap8:@th next hi .ret e J=hi.v .ret e J:=rfl
def ap7:@th next hi (.panic ch) e J=hi.v (.panic ch) e J:=rfl
def aew:@xE id hi (.panic ch) e J=hi.v (.panic ch) e J:=rfl
def aev:@xE id hi .normal e J=hi.v .normal e J:=rfl
def aex:@xE id hi .ret e J=hi.v .ret e J:=rfl
def aey:@xE id hi (.exit id) e J=hi.v .normal e J:=by simp[xE]
def aeu{n_:Nat}(h:n_≠id):@xE id hi (.exit n_) e J=hi.v (.exit n_) e J:=by simp[xE,h]
end
def Bt[hi:Hid nU]:Option Code->dA->List br->Prop
 |none,e,J=>hi.v .normal e J
 |some .ret,e,J=>hi.v .ret e J
 |some (.exit id),e,J=>hi.v (.exit id) e J
 |_,_,_=>False
def aFX(k:Nat)(bW:List bg)(ps:Array Tmp)(ok:Code->Code->Prop)(K:bg->List br->Prop):nU
 |.normal,_,J=>(∃st pd,J[k]?=a_ (.ck st pd bW ps ok))/\K (.v (.bool bh)) (J.set k (.ck .ready bn bW ps ok))
 |.ret,_,J=>(∃st pd,J[k]?=a_ (.ck st pd bW ps ok))/\K (.v (.bool bf)) (J.set k (.ck .done (a_ .ret) bW ps ok))
 |.exit id,_,J=>(∃st pd,J[k]?=a_ (.ck st pd bW ps ok))/\K (.v (.bool bf)) (J.set k (.ck .done (a_ (.exit id)) bW ps ok))
 |_,_,_=>False
def vr:dA->List (Nat×bg)->dA
 |e,[]=>e
 |e,(k,v)::r=>vr ((k,v)::e) r
def Vk(G:Cells)(P:Program)(k:Nat)(bW:List bg)(ps:List Nat)(ok:Code->Code->Prop)(wa:nU->dA->List br->Prop)(wb:nU->dA->List br->Prop)(e:dA):Prop:=
 ∀(args:List bg) (J:List br) (K:bg->List br->Prop),args.length=ps.length->(∃pd,J[k]?=a_ (.ck .ready pd bW ps.toArray ok))->
  wa (@th ⟨λe1 eK=>(∃pd,eK[k]?=a_ (.ck .ready pd bW ps.toArray ok))/\∀pd,wb (aFX k bW ps.toArray ok K) e1 (eK.set k (.ck .busy pd bW ps.toArray ok))⟩ ⟨λ_ _ _=>False⟩) (vr e (ps.zip args)) J->j4 G P (.jo k) args J K
def marks(nest:Bool):List br:=if nest then [] else [.obj (.deferred (a_ []))]
def an6(G:Cells)(P:Program)(nest:Bool)(x:Option bg)(ps:List Nat)(L:List Nat)(wa:nU->dA->List br->Prop)(wb:nU->dA->List br->Prop)[hi:Hid nU](e:dA)(J:List br):Prop:=
 ∃g fs Z,x=a_ (.fn (.func g) fs Z)/\∀k,k=(J++marks nest).length->∀bW ok,Vk G P k bW ps ok wa wb e->
  ct G P g (fs++[.jo k]++Z) (J++marks nest++[.ck .ready bn bW ps.toArray ok])
   λr bl=>∃st pd,bl[k]?=a_ (.ck st pd bW ps.toArray ok)/\st≠.busy/\Bt pd (ng L e) (bl.set k (.ck .exhausted pd bW ps.toArray ok))
def er(G:Cells)(P:Program)(nest:Bool)(c:eR)[hi:Hid nU](e:dA)(J:List br):Prop:=match c with
 |.skip L=>hi.v .normal (ng L e) J
 |.region ops L=>@kB G P ops ⟨λe' bl=>hi.v .normal (ng L e') bl⟩ ⟨λch bl=>hi.v (.panic ch) (tQ ops e) bl⟩ e J
 |.sg ls L=>∃ρ:Nat->bg,∀l∈ls,@kB G P (l.map (gx ρ)) ⟨λe' bl=>hi.v .normal (ng L e') bl⟩ ⟨λch bl=>hi.v (.panic ch) (tQ ls.flatten e) bl⟩ e J
 |.rz l L=>@uP G P l ⟨λe' bl=>hi.v .normal (ng L e') bl⟩ ⟨λch bl=>hi.v (.panic ch) (tQ (l.map (·.1)) e) bl⟩ e J
 |.seq a b=>@er G P nest a ⟨@th ⟨λe J=>@er G P nest b hi e J⟩ hi⟩ e J
 |.cond c a b=>@hD _ (ew e c) ⟨λc=>@Ga c ⟨@er G P nest a hi e J⟩ ⟨@er G P nest b hi e J⟩⟩
 |.block id a=>@er G P nest a ⟨@xE id hi⟩ e J
 |.loop a=>∃(hx:Nat->dA->List br->Prop) (m:Nat),hx m e J/\∀m e J,hx m e J->@er G P nest a ⟨@th ⟨λe' bl=>∃m',m'<m/\hx m' e' bl⟩ hi⟩ e J
 |.exit id L=>hi.v (.exit id) (ng L e) J
 |.scope a=>@er G P nest a ⟨@KG hi⟩ e J
 |.lab L=>hi.v .normal (ng L e) J
 |.bad=>False
 |.ret L=>hi.v .ret (ng L e) J
 |.r9 x ps a b L=>an6 G P nest (ew e x) ps L (λhi e J=>@er G P bh a ⟨hi⟩ e J) (λhi e J=>@er G P bh b ⟨hi⟩ e J) e J
section
variable{G:Cells}{P:Program}{nest:Bool}{hi:Hid nU}{e:dA}{J:List br}
def O4(L):@er G P nest (.skip L) hi e J=hi.v .normal (ng L e) J:=aM
def O0(ops)(L):@er G P nest (.region ops L) hi e J=@kB G P ops ⟨λe' bl=>hi.v .normal (ng L e') bl⟩ ⟨λch bl=>hi.v (.panic ch) (tQ ops e) bl⟩ e J:=aM
def KW(ls)(L):@er G P nest (.sg ls L) hi e J=∃ρ:Nat->bg,∀l∈ls,@kB G P (l.map (gx ρ)) ⟨λe' bl=>hi.v .normal (ng L e') bl⟩ ⟨λch bl=>hi.v (.panic ch) (tQ ls.flatten e) bl⟩ e J:=aM
def Ig(a b:eR):@er G P nest (.seq a b) hi e J=@er G P nest a ⟨@th ⟨λe J=>@er G P nest b hi e J⟩ hi⟩ e J:=aM
def OV(c:dK)(a b:eR):@er G P nest (.cond c a b) hi e J=@hD _ (ew e c) ⟨λc=>@Ga c ⟨@er G P nest a hi e J⟩ ⟨@er G P nest b hi e J⟩⟩:=aM
def De(id:Nat)(a:eR):@er G P nest (.block id a) hi e J=@er G P nest a ⟨@xE id hi⟩ e J:=aM
def OY(a:eR):@er G P nest (.loop a) hi e J=∃(hx:Nat->dA->List br->Prop) (m:Nat),hx m e J/\∀m e J,hx m e J->@er G P nest a ⟨@th ⟨λe' bl=>∃m',m'<m/\hx m' e' bl⟩ hi⟩ e J:=aM
def O1(l)(L):@er G P nest (.rz l L) hi e J=@uP G P l ⟨λe' bl=>hi.v .normal (ng L e') bl⟩ ⟨λch bl=>hi.v (.panic ch) (tQ (l.map (·.1)) e) bl⟩ e J:=aM
def O3(a:eR):@er G P nest (.scope a) hi e J=@er G P nest a ⟨@KG hi⟩ e J:=aM
def OX(L):@er G P nest (.lab L) hi e J=hi.v .normal (ng L e) J:=aM
def OW(id:Nat)(L):@er G P nest (.exit id L) hi e J=hi.v (.exit id) (ng L e) J:=aM
def O2(L):@er G P nest (.ret L) hi e J=hi.v .ret (ng L e) J:=aM
def BN(x:dK)(ps)(a b:eR)(L):@er G P nest (.r9 x ps a b L) hi e J=an6 G P nest (ew e x) ps L (λhi e J=>@er G P bh a ⟨hi⟩ e J) (λhi e J=>@er G P bh b ⟨hi⟩ e J) e J:=aM
end
def apy(hE:∀ch J,E ch J->E' ch J){bK}{K}{s:eH}(h:dR G E P bK K s):dR G E' P bK K s:=by
 unfold dR at h⊢;split at h;rename_i hw;rw[if_pos hw];split at h;exact h;exact h;exact h;exact h;exact h;exact gW h (λ_ _ k=>k) hE;exact ab7 h (λ_ _ k=>k) hE;split at h;exact hE _ _ h;exact h;rename_i hw;rw[if_neg hw];exact h
def abf(hE:∀ch J,E ch J->E' ch J):∀{l} {K} {s:eH},hO G E P l K s->hO G E' P l K s
 |[],_,_,h=>h
 |_::_,_,_,h=>apy hE (dR.mono h λ_ k=>abf hE k)
def apm(hE:∀ch J,E ch J->E' ch J):∀{l} {K} {s:eH},k4 G E P l K s->k4 G E' P l K s
 |[],_,_,h=>h
 |(o,Z)::_,_,_,h=>apy hE (dR.mono h λ_ k=>⟨k.1,apm hE k.2⟩)
def A4(h:mX n ts e)(L):mX n ts (ng L e):=by
 refine⟨h.1,?_⟩
 induction L with
 |nil=>intro k v S;cases S
 |cons j L ih=>
  intro k v S;simp only[ng] at S;cases hj:gU e j with
  |none=>rw[hj] at S;exact ih k v S
  |some w=>
   rw[hj] at S;simp only[D8,gU] at S;split at S;rename_i e1;subst e1;cases S;exact h.2 j _ hj;exact ih k v S
def axd{ps:List Nat}:∀{ts} {e:dA} (_:mX n ts e) (_:(ps.all λp=>decide (p<n))=bh) (args),mX n (zS ts (ps.toArray.toList.zip args)) (vr e (ps.zip args)):=by
 induction ps with
 |nil=>intro ts e h _ args;simpa[zS,vr] using h
 |cons p r ih=>
  intro ts e h J args;simp only[qk,fh] at J;cases args with
  |nil=>simpa[zS,vr] using h
  |cons v vs=>
   have:=ih (ts:=ts.set p v) (e:=(p,v)::e) (Jx (d:=a_ p) h J.1) J.2 vs;simpa[zS,vr] using this
def qR.nest:qR->Bool
 |.BH _=>bh
 |_=>bf
def qR.loops:qR->Bool
 |.plain|.sN _ _=>bf
 |_=>bh
def OZ(hm:P.follows .mixedOrders=bh):∀{c:eR} {dr:qR} {nest} {hi} {Q'} {e:dA} {J} {ts},c.p8 n dr.loops=bh->(dr.loops=bh->nest=dr.nest)->mX n ts e->@er G P nest c hi e J->
  (∀x ts e J,mX n ts e->hi.v x e J->Q' x ⟨ts,J⟩)->lW G P dr c.b9 Q' ⟨ts,J⟩:=by
 intro c
 induction c with
 |skip L=>intro dr nest hi Q' e J ts hf me h hw S;rw[O4] at hw;exact j6.skip (S _ _ _ _ (A4 h L) hw)
 |exit id L=>intro dr nest hi Q' e J ts hf me h hw S;rw[OW] at hw;exact j6.exit (S _ _ _ _ (A4 h L) hw)
 |lab L=>intro dr nest hi Q' e J ts hf me h hw S;rw[OX] at hw;exact j6.lab (S _ _ _ _ (A4 h L) hw)
 |bad=>intro dr nest hi Q' e J ts hf me h hw S;unfold er at hw;exact hw.elim
 |scope a j_=>
  intro dr nest hi Q' e J ts hf me h hw S;rw[O3] at hw;refine j6.scope (j_ hf me h hw λx nt e' bl h' k=>?_);cases x with
  |goto l=>exact k.elim
  |_=>exact S _ _ _ _ h' k
 |ret L=>intro dr nest hi Q' e J ts hf me h hw S;rw[O2] at hw;exact j6.ret (S _ _ _ _ (A4 h L) hw)
 |region ops L=>
  intro dr nest hi Q' e J ts hf me h hw S;rw[O0] at hw;refine j6.region hm ?_;refine abf (λch J k ts dY=>S _ _ _ _ (XD h dY) k) ?_;exact Lu hf h hw λnt e' bl h' k=>S _ _ _ _ (A4 h' L) k
 |rz l L=>
  intro dr nest hi Q' e J ts hf me h hw S;rw[O1] at hw;refine j6.rz hm ?_;refine apm (λch J k ts dY=>S _ _ _ _ (XD h dY) k) ?_;exact adk hf h hw λnt e' bl h' k=>S _ _ _ _ (A4 h' L) k
 |seq a b j_ ue=>
  intro dr nest hi Q' e J ts hf me h hw S;simp only[eR.p8,fh] at hf;rw[Ig] at hw;refine j6.seq (j_ hf.1 me h hw λx nt e' bl h' k=>?_);cases x with
  |normal=>exact ue hf.2 me h' k S
  |_=>exact S _ _ _ _ h' k
 |cond o a b j_ ue=>
  intro dr nest hi Q' e J ts hf me h hw S;simp only[eR.p8,fh] at hf;rw[OV] at hw;obtain⟨v,Y,V⟩:=hw;dsimp only at V;unfold Ga at V;split at V;rename_i b';refine j6.cond (kR h Y) ?_;cases b' with
  |true=>exact j_ hf.1 me h (V.1 rfl) S
  |false=>exact ue hf.2 me h (V.2 rfl) S
  exact V.elim
 |block id a j_=>
  intro dr nest hi Q' e J ts hf me h hw S;rw[De] at hw;refine j6.block (j_ hf me h hw λx nt e' bl h' k=>?_);cases x with
  |exit n_=>
   simp only[xE] at k;simp only[YE];split;rename_i e1;rw[if_pos e1] at k;exact S _ _ _ _ h' k;rename_i e1;rw[if_neg e1] at k;exact S _ _ _ _ h' k
  |_=>exact S _ _ _ _ h' k
 |loop a j_=>
  intro dr nest hi Q' e J ts hf me h hw S;rw[OY] at hw;obtain⟨hx,m,h0,D⟩:=hw;refine j6.aDj (λm s=>∃e,mX n s.ts e/\hx m e s.J) ⟨e,h,h0⟩ λm s ⟨e',h',hI⟩=>?_;refine j_ hf me h' (D m e' s.J hI) λx abC e2 jk V k=>?_;cases x with
  |normal=>
   obtain⟨m',c6,awP⟩:=k;exact⟨m',c6,e2,V,awP⟩
  |_=>exact S _ _ _ _ V k
 |sg ls L=>
  intro dr nest hi Q' e J ts hf me h hw S;simp only[eR.p8,eG] at hf;rw[KW] at hw;obtain⟨ρ,hw⟩:=hw;refine j6.sg hm ρ λl hl=>?_;refine abf (λch J k ts dY=>S _ _ _ _ (XD h dY) k) ?_;exact Lu (by rw[afQ];exact hf l hl) h (hw l hl) λnt e' bl h' k=>S _ _ _ _ (A4 h' L) k
 |r9 x ps a b L j_ ue=>
  intro dr nest hi Q' e J ts hf me h hw S;simp only[eR.p8,fh] at hf;obtain⟨⟨⟨lg,iU⟩,MR⟩,MS⟩:=hf;rw[BN] at hw;obtain⟨g,fs,Z,I,D⟩:=hw;have vb:∀{pd} {bl},@Bt hi pd (ng L e) bl->YL Q' pd ⟨ts,bl⟩:=λ{pd bl} h3=>by
   cases pd with
   |none=>exact S _ _ _ _ (A4 h L) h3
   |some c=>
    cases c with
    |ret=>exact S _ _ _ _ (A4 h L) h3
    |exit id=>exact S _ _ _ _ (A4 h L) h3
    |_=>exact h3.elim
  have aiB:∀k,Vk G P k ts ps (lA P a.b9 b.b9) (λhi e J=>@er G P bh a ⟨hi⟩ e J) (λhi e J=>@er G P bh b ⟨hi⟩ e J) e:=λkk args bl K cW ⟨pd,gi⟩ Sd=>by
   refine⟨⟨_,_,_,_,_,gi⟩,aI2 gi aLu ?_⟩;refine j_ MR (λq=>ax) (axd h iU args) Sd λx yE e1 eK Y k=>?_;cases x with
   |normal=>
    obtain⟨k1,k2⟩:=k;refine⟨k1,λpd=>ue MS (λ_=>rfl) Y (k2 pd) λx abC e2 jk V k=>?_⟩;cases x with
    |normal=>exact k
    |ret=>exact k
    |exit id=>exact k
    |_=>exact k.elim
   |_=>exact k.elim
  cases dr with
  |plain=>cases lg
  |sN g ks=>cases lg
  |fn n0=>
   have:nest=bf:=me rfl;subst this;have ko:=D (J.length+1) (by simp[marks]) ts (lA P a.b9 b.b9) (aiB _);simp only[marks,kJ,if_false] at ko;exact j6.range (kR h I) (cm ko λr bl ⟨st,pd,Y,V,h3⟩=>⟨st,pd,Y,V,vb h3⟩)
  |BH k=>
   have:nest=bh:=me rfl;subst this;have ko:=D J.length (by simp[marks]) ts (lA P a.b9 b.b9) (aiB _);simp only[marks,if_true,fZ] at ko;exact j6.aFw (kR h I) (cm ko λr bl ⟨st,pd,Y,V,h3⟩=>⟨st,pd,Y,V,vb h3⟩)
def BF(e:dA)(J:List br):je->Option bg
 |.s t=>gU e t
 |.c t bN n=>(gU e t).bind λp=>bz J bN n p
def uu(e:dA)(J:List br):List je->Option (List bg)
 |[]=>a_ []
 |x::r=>(BF e J x).bind λa=>(uu e J r).map λl=>a::l
def lz(e:dA)(J:List br)(rs:List je):Option bg:=(uu e J rs).map λl=>match l with
 |[x]=>x
 |l=>.bQ l
def Kw(rs:List je)[K:Hid (bg->List br->Prop)][E:Hid sE]:nU
 |.normal,e,J=>@hD _ (lz e J rs) ⟨λr=>K.v r J⟩
 |.ret,e,J=>@hD _ (lz e J rs) ⟨λr=>K.v r J⟩
 |.panic ch,_,J=>E.v ch J
 |_,_,_=>False
section
variable{rs:List je}{K:Hid (bg->List br->Prop)}{E:Hid sE}{e:dA}{J:List br}
def aok:@Kw rs K E .normal e J=@hD _ (lz e J rs) ⟨λr=>K.v r J⟩:=rfl
def aom:@Kw rs K E .ret e J=@hD _ (lz e J rs) ⟨λr=>K.v r J⟩:=rfl
def aol:@Kw rs K E (.panic ch) e J=E.v ch J:=rfl
end
def p6:Nat->List bg->dA
 |_,[]=>[]
 |i,a::r=>(i,a)::p6 (i+1) r
def ad9:∀{l} {i k:Nat} {v:bg},gU (p6 i l) k=a_ v->i<=k/\l[k-i]?=a_ v
 |[],i,k,v,h=>aF
 |a::r,i,k,v,h=>by
  simp only[p6,gU] at h;split at h;rename_i e;subst e;cases h;exact⟨b_ _,af⟩;rename_i e;obtain⟨Y,V⟩:=ad9 h;refine⟨aa,?_⟩;rw[show k-i=(k-(i+1))+1 by omega,uE];exact V
def RE(h:args.length<=n):mX n (vX args n) (p6 0 args):=by
 refine⟨by simp[vX];omega,λk v S=>?_⟩;obtain⟨_,V⟩:=ad9 S;rw[FN] at V;unfold vX;rw[fT (cJ.1 V).1];exact V
def OA(h:mX n ts e){r:bg}(D:lz e J rs=a_ r):ur ⟨ts,J⟩ rs=a_ r:=by
 have key:∀{rs} {l},uu e J rs=a_ l->HU ⟨ts,J⟩ rs=a_ l:=by
  intro rs
  induction rs with
  |nil=>intro l hl;cases hl;rfl
  |cons x r ih=>
   intro l hl;simp only[uu,gS,dF] at hl;obtain⟨a,Y,l',V,rfl⟩:=hl;have I:Oz ⟨ts,J⟩ x=a_ a:=by
    cases x with
    |s t=>simp only[Oz,h.2 _ _ Y,xb]
    |c t bN m=>
     simp only[BF,gS] at Y;obtain⟨p,q1,bt⟩:=Y;simp only[Oz,h.2 _ _ q1,xb,bt]
   simp only[HU,I,ih V]
 simp only[lz,dF] at D;obtain⟨l,Y,V⟩:=D;unfold ur;rw[key Y];split at V;subst V;rfl;rename_i bR;subst V;split;rename_i e1;cases e1;exact(bR _ rfl).elim;rename_i e1;cases e1;rfl;rename_i e1;cases e1
def agD(hm:P.follows .mixedOrders=bh)(F:tg P pu f=a_ ⟨n,rs,c.b9⟩)(hf:c.fits n=bh)(hn:args.length<=n)
  (h:@er G P bf c ⟨@Kw rs ⟨K⟩ ⟨E⟩⟩ (p6 0 args) J):iF G P f args J K E:=by
 refine avz F (OZ hm hf (λq=>ax) (RE hn) h λx ts e bl h' k=>?_);cases x with
 |normal=>
  obtain⟨r,Y,V⟩:=k;exact⟨r,OA h' Y,V⟩
 |ret=>
  obtain⟨r,Y,V⟩:=k;exact⟨r,OA h' Y,V⟩
 |panic ch=>exact k
 |_=>exact k.elim
def TC(n0:Nat)(rs:List je)[K:Hid (bg->List br->Prop)][E:Hid sE]:nU
 |.normal,e,J=>∀bl,oy n0 J bl->@hD _ (lz e bl rs) ⟨λr=>K.v r bl⟩
 |.ret,e,J=>∀bl,oy n0 J bl->@hD _ (lz e bl rs) ⟨λr=>K.v r bl⟩
 |.panic ch,_,J=>∀bl,oy n0 J bl->E.v ch bl
 |_,_,_=>False
section
variable{n0:Nat}{rs:List je}{K:Hid (bg->List br->Prop)}{E:Hid sE}{e:dA}{J:List br}
def aaO:@TC n0 rs K E .normal e J=∀bl,oy n0 J bl->@hD _ (lz e bl rs) ⟨λr=>K.v r bl⟩:=rfl
def HV:@TC n0 rs K E .ret e J=∀bl,oy n0 J bl->@hD _ (lz e bl rs) ⟨λr=>K.v r bl⟩:=rfl
end
def agE(hm:P.follows .mixedOrders=bh)(F:tg P pu f=a_ ⟨n,rs,c.b9⟩)(hf:c.p8 n bh=bh)(hn:args.length<=n)
  (h:@er G P bf c ⟨@TC J.length rs ⟨K⟩ ⟨E⟩⟩ (p6 0 args) J):iF G P f args J K E:=by
 refine avA F (OZ hm hf (λ_=>rfl) (RE hn) h λx ts e bl h' k=>?_);cases x with
 |normal=>
  refine λjk he=>?_;obtain⟨r,Y,V⟩:=k jk he;exact⟨r,OA h' Y,V⟩
 |ret=>
  refine λjk he=>?_;obtain⟨r,Y,V⟩:=k jk he;exact⟨r,OA h' Y,V⟩
 |panic ch=>exact k
 |_=>exact k.elim
def aon[K:Hid (List br->Prop)]:nU
 |.normal,_,J=>K.v J
 |.ret,_,J=>K.v J
 |_,_,_=>False
section
variable{K:Hid (List br->Prop)}{e:dA}{J:List br}
end
def afC(hm:P.follows .mixedOrders=bh){d0 d1:Nat}(F:KL P hb g=a_ ⟨n,d0,d1,c.b9⟩)(hf:c.fits n=bh)(hd:d0<n/\d1<n)(hn:args.length<=n){x}{v}{K}
  (I:match x,v with|none,bn=>True|some x,a_ v=>yh x=bh/\rP x=a_ v|_,_=>False)
  (h:@er G P bf c ⟨@aon ⟨K⟩⟩ ((d1,qK x)::(d0,qK x)::p6 0 args) J):kZ G P g args J v K:=by
 refine auB F I (OZ hm hf (λq=>ax) ?_ h λx ts e bl h' k=>?_);have:=Jx (d:=a_ d1) (v:=qK x) (Jx (d:=a_ d0) (v:=qK x) (RE hn) (by simpa using hd.1)) (by simpa using hd.2);exact this;cases x with
 |normal=>exact⟨bD rfl,k⟩
 |ret=>exact⟨bG rfl,k⟩
 |_=>exact k.elim
def kZ.mono{x}{K K'}(h:kZ G P g args J x K)(S:∀J,K J->K' J):kZ G P g args J x K':=
 ⟨h.1,λbase w0 C M w dn hs D=>CallsDIn.mono (h.2 base w0 C M w dn hs D) λe u' w' ⟨bI,M',bl,v,k,rest⟩=>⟨bI,M',bl,v,S _ k,rest⟩⟩
def aoj(G:Cells)(P:Program)(g:FuncId)(ks:List Nat)(rs:List je)[K:Hid (bg->List br->Prop)]:nU
 |.normal,e,J=>kZ G P g (ks.map λk=>.mp k 0) J bn λbl=>@hD _ (lz e bl rs) ⟨λr=>K.v r bl⟩
 |.ret,e,J=>kZ G P g (ks.map λk=>.mp k 0) J bn λbl=>@hD _ (lz e bl rs) ⟨λr=>K.v r bl⟩
 |.panic ch,e,J=>∃v,ch=[{v:=v,recovered:=bf}]/\kZ G P g (ks.map λk=>.mp k 0) J (a_ v) λbl=>@hD _ (lz e bl rs) ⟨λr=>K.v r bl⟩
 |_,_,_=>False
def agC(hm:P.follows .mixedOrders=bh){t:Nat}{caps}{a b:eR}(F:KK P hb f=a_ ⟨n,rs,a.b9,t,g,caps,b.b9⟩)(MR:a.fits n=bh)(MS:b.fits n=bh)(ht:t<n)(hn:args.length<=n)
  (h:@er G P bf a ⟨@th ⟨λe J=>∃ks:List Nat,n6 e caps=a_ (ks.map λk=>.mp k 0)/\@er G P bf b ⟨@aoj G P g ks rs ⟨K⟩⟩ ((t,.fn (.func g) [] (ks.map λk=>.mp k 0))::e) J⟩ ⟨λ_ _ _=>False⟩⟩ (p6 0 args) J):ct G P f args J K:=by
 refine avy F (OZ hm MR (λq=>ax) (RE hn) h λx ts e bl h' k=>?_);cases x with
 |normal=>
  obtain⟨ks,Y,V⟩:=k;refine⟨rfl,by rw[h'.1];exact ht,ks,vY h' Y,OZ hm MS (λq=>ax) (Jx (d:=a_ t) h' (by simpa using ht)) V λx abC e2 jk h3 k=>?_⟩;have C6:∀bl,@hD _ (lz e2 bl rs) ⟨λr=>K r bl⟩->∃r,ur ⟨abC,bl⟩ rs=a_ r/\K r bl:=λbl ⟨r,q1,bt⟩=>⟨r,OA h3 q1,bt⟩;cases x with
  |normal=>
   have k':kZ G P g (ks.map λk=>.mp k 0) jk bn λbl=>@hD _ (lz e2 bl rs) ⟨λr=>K r bl⟩:=k;exact kZ.mono k' C6
  |ret=>
   have k':kZ G P g (ks.map λk=>.mp k 0) jk bn λbl=>@hD _ (lz e2 bl rs) ⟨λr=>K r bl⟩:=k;exact kZ.mono k' C6
  |panic ch=>
   obtain⟨v,q1,bt⟩:=k;exact⟨v,q1,kZ.mono bt C6⟩
  |_=>exact k.elim
 |_=>exact k.elim
def tq{nest}:∀{c:eR} {hi Q'} {e:dA} {J},@er G P nest c hi e J->(∀x e J,hi.v x e J->Q'.v x e J)->@er G P nest c Q' e J:=by
 have ai0:∀{i} {F F'} {E E'} {e:dA} {J},@jQ G P i F E e J->(∀v J,F.v v J->F'.v v J)->(∀ch J,E.v ch J->E'.v ch J)->@jQ G P i F' E' e J:=by
  intro i F F' E E' e J h hF hE;cases i with
  |op o=>obtain⟨v,Y,V⟩:=h;exact⟨v,Y,hF _ _ V⟩
  |call f args=>obtain⟨dL,Y,V⟩:=h;exact⟨dL,Y,cm V hF⟩
  |oH x args=>
   obtain⟨x',h0,dL,Y,V⟩:=h;exact⟨x',h0,dL,Y,wX V hF⟩
  |oe f args=>obtain⟨dL,Y,bs,r',V,h3,h4⟩:=h;exact⟨dL,Y,bs,r',V,h3,hF _ _ h4⟩
  |pN f args r=>obtain⟨dL,Y,bs,V,h3,h4⟩:=h;exact⟨dL,Y,bs,V,h3,hF _ _ h4⟩
  |qu f args=>obtain⟨dL,Y,V⟩:=h;exact⟨dL,Y,gW V hF hE⟩
  |qv x args=>
   obtain⟨x',h0,dL,Y,V⟩:=h;exact⟨x',h0,dL,Y,ab7 V hF hE⟩
  |gP x=>obtain⟨v,Y,V⟩:=h;exact⟨v,Y,hE _ _ V⟩
 have atp:∀{v:bg} {A B A' B'},@Ga v A B->(A.v->A'.v)->(B.v->B'.v)->@Ga v A' B':=by
  intro v A B A' B' h Y V;unfold Ga at h⊢;split at h;exact⟨λq=>Y (h.1 q),λq=>V (h.2 q)⟩;exact h.elim
 have guard:∀{w} {v:bg} {A B A' B'},@u0 w v A B->(A.v->A'.v)->(B.v->B'.v)->@u0 w v A' B':=by
  intro w v A B A' B' h Y V;unfold u0 at h⊢;split at h;cases w with
  |true=>exact⟨λq=>Y (h.1 q),λq=>V (h.2 q)⟩
  |false=>exact⟨λq=>V (h.1 q),λq=>Y (h.2 q)⟩
  exact V h;exact h.elim
 have run:∀{l} {K K'} {E E'} {e:dA} {J},@kB G P l K E e J->(∀e J,K.v e J->K'.v e J)->(∀ch J,E.v ch J->E'.v ch J)->@kB G P l K' E' e J:=by
  intro l
  induction l with
  |nil=>intro K K' E E' e J h S hE;rw[FZ] at h⊢;exact S _ _ h
  |cons o r ih=>
   intro K K' E E' e J h S hE;obtain⟨d,g,i⟩:=o
   rcases g with _|⟨k,w⟩
   rw[IP] at h⊢;exact ai0 h (λv bl q=>ih q S hE) hE;rw[IN] at h⊢;obtain⟨g,Y,V⟩:=h;exact⟨g,Y,guard V (λq=>ai0 q (λv bl q=>ih q S hE) hE) λq=>ih q S hE⟩
 have aF9:∀{l} {K K'} {E E'} {e:dA} {J},@uP G P l K E e J->(∀e J,K.v e J->K'.v e J)->(∀ch J,E.v ch J->E'.v ch J)->@uP G P l K' E' e J:=by
  intro l
  induction l with
  |nil=>intro K K' E E' e J h S hE;rw[IQ] at h⊢;exact S _ _ h
  |cons o r ih=>
   intro K K' E E' e J h S hE;obtain⟨o,Z⟩:=o;rw[IS] at h⊢;exact run h (λe J k=>⟨k.1,ih k.2 S hE⟩) hE
 intro c
 induction c with
 |skip L=>intro hi Q' e J h hq;rw[O4] at h⊢;exact hq _ _ _ h
 |exit id L=>intro hi Q' e J h hq;rw[OW] at h⊢;exact hq _ _ _ h
 |lab L=>intro hi Q' e J h hq;rw[OX] at h⊢;exact hq _ _ _ h
 |bad=>intro hi Q' e J h hq;unfold er at h;exact h.elim
 |scope a j_=>
  intro hi Q' e J h hq;rw[O3] at h⊢;refine j_ h λx e' bl k=>?_;cases x with
  |goto l=>exact k.elim
  |_=>exact hq _ _ _ k
 |ret L=>intro hi Q' e J h hq;rw[O2] at h⊢;exact hq _ _ _ h
 |region ops L=>intro hi Q' e J h hq;rw[O0] at h⊢;exact run h (λe' bl k=>hq _ _ _ k) λch bl k=>hq _ _ _ k
 |rz l L=>intro hi Q' e J h hq;rw[O1] at h⊢;exact aF9 h (λe' bl k=>hq _ _ _ k) λch bl k=>hq _ _ _ k
 |seq a b j_ ue=>
  intro hi Q' e J h hq;rw[Ig] at h⊢;refine j_ h λx e' bl k=>?_;cases x with
  |normal=>exact ue k hq
  |_=>exact hq _ _ _ k
 |cond o a b j_ ue=>intro hi Q' e J h hq;rw[OV] at h⊢;obtain⟨v,Y,V⟩:=h;exact⟨v,Y,atp V (λq=>j_ q hq) (λq=>ue q hq)⟩
 |block id a j_=>
  intro hi Q' e J h hq;rw[De] at h⊢;refine j_ h λx e' bl k=>?_;cases x with
  |exit n_=>
   simp only[xE] at k⊢;split at k;rename_i e1;rw[if_pos e1];exact hq _ _ _ k;rename_i e1;rw[if_neg e1];exact hq _ _ _ k
  |_=>exact hq _ _ _ k
 |loop a j_=>
  intro hi Q' e J h hq;rw[OY] at h⊢;obtain⟨hx,m,h0,D⟩:=h;refine⟨hx,m,h0,λm e J hI=>j_ (D m e J hI) λx e' bl k=>?_⟩;cases x with
  |normal=>exact k
  |_=>exact hq _ _ _ k
 |sg ls L=>intro hi Q' e J h hq;rw[KW] at h⊢;obtain⟨ρ,h⟩:=h;exact⟨ρ,λl hl=>run (h l hl) (λe' bl k=>hq _ _ _ k) λch bl k=>hq _ _ _ k⟩
 |r9 x ps a b L j_ ue=>
  intro hi Q' e J h hq;rw[BN] at h⊢;obtain⟨g,fs,Z,I,D⟩:=h;refine⟨g,fs,Z,I,λk S bW ok hR=>cm (D k S bW ok hR) λr bl ⟨st,pd,Y,V,h3⟩=>⟨st,pd,Y,V,?_⟩⟩;cases pd with
  |none=>exact hq _ _ _ h3
  |some c=>
   cases c with
   |ret=>exact hq _ _ _ h3
   |exit id=>exact hq _ _ _ h3
   |_=>exact h3.elim
section
variable{G:Cells}{P:Program}{nest:Bool}{hi:Hid nU}{e:dA}{J:List br}
def eN{a b:eR}(M)(Y:@er G P nest a ⟨@th ⟨M⟩ ⟨λ_ _ _=>False⟩⟩ e J)(V:∀e J,M e J->@er G P nest b hi e J):@er G P nest (.seq a b) hi e J:=by
 rw[Ig];refine tq Y λx e J k=>?_;cases x with
 |normal=>exact V _ _ k
 |_=>exact k.elim
def iP{a b:eR}(M)(Y:@er G P nest a ⟨@th ⟨M⟩ hi⟩ e J)(V:∀e J,M e J->@er G P nest b hi e J):@er G P nest (.seq a b) hi e J:=by
 rw[Ig];refine tq Y λx e J k=>?_;cases x with
 |normal=>exact V _ _ k
 |_=>exact k
def dj{x:eR}(hx:Nat->dA->List br->Prop)(n:Nat)(h0:hx 0 e J)(round:∀i e J,i<n->hx i e J->@er G P nest x ⟨@th ⟨hx (i+1)⟩ hi⟩ e J)(last:∀e J,hx n e J->@er G P nest x ⟨@th ⟨λ_ _=>False⟩ hi⟩ e J):@er G P nest (.loop x) hi e J:=by
 rw[OY];refine⟨λk e J=>∃i,k=n-i/\i<=n/\hx i e J,_,⟨0,rfl,j0 _,h0⟩,λk e J ⟨i,S,Q,hI⟩=>?_⟩
 rcases ei i n with hl|hl
 refine tq (round i e J hl hI) λx e' bl q=>?_;cases x with
 |normal=>exact⟨n-(i+1),aa,i+1,rfl,hl,q⟩
 |_=>exact q
 have e1:i=n:=aa
 subst e1;refine tq (last e J hI) λx e' bl q=>?_;cases x with
 |normal=>exact q.elim
 |_=>exact q
def oo{x:eR}(hx:Nat->dA->List br->Prop)(h0:hx n e J)(round:∀n e J,hx n e J->@er G P nest x ⟨@th ⟨λe' bl=>∃m,m<n/\hx m e' bl⟩ hi⟩ e J):@er G P nest (.loop x) hi e J:=by
 rw[OY];exact⟨hx,n,h0,round⟩
end
def oU:type_of% @O4/\type_of% @O0/\type_of% @KW/\type_of% @Ig/\type_of% @OV/\type_of% @De/\type_of% @OW/\type_of% @O2/\type_of% @FZ/\type_of% @IP/\type_of% @IN/\type_of% @ahj/\type_of% @ahh/\type_of% @ahi/\type_of% @ah1/\type_of% @aqq/\type_of% @aqr/\type_of% @PC/\type_of% @PB/\type_of% @aeD/\type_of% @ap6/\type_of% @ap5/\type_of% @ap8/\type_of% @aev/\type_of% @aex/\type_of% @aey/\type_of% @aeu/\type_of% @aok/\type_of% @aom/\type_of% @aeV/\type_of% @oc/\type_of% @Av/\type_of% @adI/\type_of% @adJ/\type_of% @adK/\type_of% @adL/\type_of% @Aw/\type_of% @m_/\type_of% @I2/\type_of% @ad3/\type_of% @VA/\type_of% @adx/\type_of% @adG/\type_of% @adE/\type_of% @adz/\type_of% @adF/\type_of% @adD/\type_of% @adC/\type_of% @adB/\type_of% @adA/\type_of% @Vv/\type_of% @Vw/\type_of% @ap7/\type_of% @aew/\type_of% @aol/\type_of% @aeW/\type_of% @O1/\type_of% @IQ/\type_of% @IS/\type_of% @O3/\type_of% @OX/\type_of% @aoW/\type_of% @aoV/\type_of% @aoY/\type_of% @aoX:=
 ⟨@O4,@O0,@KW,@Ig,@OV,@De,@OW,@O2,@FZ,@IP,@IN,@ahj,@ahh,@ahi,@ah1,@aqq,@aqr,@PC,@PB,@aeD,@ap6,@ap5,@ap8,@aev,@aex,@aey,@aeu,@aok,@aom,@aeV,@oc,@Av,@adI,@adJ,@adK,@adL,@Aw,@m_,@I2,@ad3,@VA,@adx,@adG,@adE,@adz,@adF,@adD,@adC,@adB,@adA,@Vv,@Vw,@ap7,@aew,@aol,@aeW,@O1,@IQ,@IS,@O3,@OX,@aoW,@aoV,@aoY,@aoX⟩
def oV:type_of% @cE.eq_1/\type_of% @cE.eq_2/\type_of% @cE.eq_3/\type_of% @cE.eq_4/\type_of% @cE.eq_5/\type_of% @cE.eq_6/\type_of% @cE.eq_7/\type_of% @cE.eq_8/\type_of% @cE.eq_9/\type_of% @cE.eq_10/\type_of% @cE.eq_11/\type_of% @cE.eq_12/\type_of% @cE.eq_13/\type_of% @cE.eq_14/\type_of% @cE.eq_15/\type_of% @cE.eq_16/\type_of% @cE.eq_17/\type_of% @cE.eq_18/\type_of% @cE.eq_19/\type_of% @cE.eq_20/\type_of% @cE.eq_21/\type_of% @cE.eq_22/\type_of% @cE.eq_23/\type_of% @cE.eq_24/\type_of% @cE.eq_25/\type_of% @cE.eq_26/\type_of% @cE.eq_27/\type_of% @cE.eq_28/\type_of% @cE.eq_29/\type_of% @cE.eq_30/\type_of% @cE.eq_31/\type_of% @cE.eq_32/\type_of% @cE.eq_33/\type_of% @cE.eq_34/\type_of% @cE.eq_35/\type_of% @cE.eq_36/\type_of% @cE.eq_37/\type_of% @cE.eq_38/\type_of% @cE.eq_39/\type_of% @cE.eq_40/\type_of% @cE.eq_41/\type_of% @cE.eq_42/\type_of% @cE.eq_43/\type_of% @cE.eq_44/\type_of% @cE.eq_45/\type_of% @cE.eq_46/\type_of% @cE.eq_47/\type_of% @ew.eq_1/\type_of% @ew.eq_2/\type_of% @n6.eq_1/\type_of% @n6.eq_2/\type_of% @ze.eq_1/\type_of% @ze.eq_2/\type_of% @D_.eq_1/\type_of% @D_.eq_2/\type_of% @gU.eq_1/\type_of% @gU.eq_2/\type_of% @D8.eq_1/\type_of% @D8.eq_2/\type_of% @ng.eq_1/\type_of% @ng.eq_2/\type_of% @qJ.eq_1/\type_of% @qJ.eq_2/\type_of% @p6.eq_1/\type_of% @p6.eq_2/\type_of% @Km.eq_1/\type_of% @Km.eq_2/\type_of% @lz.eq_1/\type_of% @uu.eq_1/\type_of% @uu.eq_2/\type_of% @BF.eq_1/\type_of% @BF.eq_2/\type_of% @mT.{0,0}/\type_of% @Option.bind_none.{0,0}/\type_of% @j3.{0,0}/\type_of% @Option.map_none.{0,0}/\type_of% @gA/\type_of% @nB/\type_of% @kJ:=
 ⟨@cE.eq_1,@cE.eq_2,@cE.eq_3,@cE.eq_4,@cE.eq_5,@cE.eq_6,@cE.eq_7,@cE.eq_8,@cE.eq_9,@cE.eq_10,@cE.eq_11,@cE.eq_12,@cE.eq_13,@cE.eq_14,@cE.eq_15,@cE.eq_16,@cE.eq_17,@cE.eq_18,@cE.eq_19,@cE.eq_20,@cE.eq_21,@cE.eq_22,@cE.eq_23,@cE.eq_24,@cE.eq_25,@cE.eq_26,@cE.eq_27,@cE.eq_28,@cE.eq_29,@cE.eq_30,@cE.eq_31,@cE.eq_32,@cE.eq_33,@cE.eq_34,@cE.eq_35,@cE.eq_36,@cE.eq_37,@cE.eq_38,@cE.eq_39,@cE.eq_40,@cE.eq_41,@cE.eq_42,@cE.eq_43,@cE.eq_44,@cE.eq_45,@cE.eq_46,@cE.eq_47,@ew.eq_1,@ew.eq_2,@n6.eq_1,@n6.eq_2,@ze.eq_1,@ze.eq_2,@D_.eq_1,@D_.eq_2,@gU.eq_1,@gU.eq_2,@D8.eq_1,@D8.eq_2,@ng.eq_1,@ng.eq_2,@qJ.eq_1,@qJ.eq_2,@p6.eq_1,@p6.eq_2,@Km.eq_1,@Km.eq_2,@lz.eq_1,@uu.eq_1,@uu.eq_2,@BF.eq_1,@BF.eq_2,@mT.{0,0},@Option.bind_none.{0,0},@j3.{0,0},@Option.map_none.{0,0},@gA,@nB,@kJ⟩
def dB{b c d}(x:a)(y:b)(z:c)(u:d):a/\b/\c/\d:=⟨x,y,z,u⟩
def KV{p q a0:Prop}(x0:a0)(h:q)(e:a0->q->p:=by intro f0 hh;simp -failIfUnchanged -implicitDefEqProofs (disch:=first|assumption|decide|omega) only[jQ,oU,oV,↓reduceIte,Nat.reduceEqDiff,Nat.reduceAdd,Nat.reduceLT,Nat.reduceLeDiff,f0];exact hh):p:=e x0 h
def aIJ{p q a b:Prop}(x:a)(y:b)(h:q)(e:a/\b->q->p:=by intro f h;exact KV f h):p:=e ⟨x,y⟩ h
def aIK{p q a b c d:Prop}(x:a)(y:b)(z:c)(u:d)(h:q)(e:a/\b/\c/\d->q->p:=by intro f h;exact KV f h):p:=e ⟨x,y,z,u⟩ h
def OU{p q a b c d f:Prop}(x:a)(y:b)(z:c)(u:d)(v:f)(h:q)(e:a/\b/\c/\d/\f->q->p:=by intro f h;exact KV f h):p:=e ⟨x,y,z,u,v⟩ h
def aIL{p q a b c d f g i:Prop}(x:a)(y:b)(z:c)(u:d)(v:f)(w:g)(r:i)(h:q)(e:a/\b/\c/\d/\f/\g/\i->q->p:=by intro f h;exact KV f h):p:=e ⟨x,y,z,u,v,w,r⟩ h
def aqt{p q a b c d f g i j:Prop}(x:a)(y:b)(z:c)(u:d)(v:f)(w:g)(r:i)(s:j)(h:q)(e:a/\b/\c/\d/\f/\g/\i/\j->q->p:=by intro f h;exact KV f h):p:=e ⟨x,y,z,u,v,w,r,s⟩ h
def aqu{p q a b c d f g i j k:Prop}(x:a)(y:b)(z:c)(u:d)(v:f)(w:g)(r:i)(s:j)(t:k)(h:q)(e:a/\b/\c/\d/\f/\g/\i/\j/\k->q->p:=by intro f h;exact KV f h):p:=e ⟨x,y,z,u,v,w,r,s,t⟩ h
end
open Go.ChangeShapes Go.WideShapes Go.ChangeAt
def xh(W:World):Cells:=λb o=>W.cell? ⟨b,o,bn⟩
section
variable{H:Type}{enc:TypeId×Value->H}{P:Program}
def aqe(hl:laidOutB P=bh){W W'}{sp}(O:Below W.heap.size W W'):∀{ts} {vs} {ds} {ps},(∀t∈ts,P.readableRec t=bh/\t<P.types.size)->
  UB enc P W 0 (λ_=>bh) bh ts vs ds ps->(∀p∈ps,p.block<W.heap.size)->(∀p∈ps,sp p.block=bh)->UB enc P W' 0 sp bh ts vs ds ps
 |[],[],[],_,_,h,_,_=>h
 |t::ts,v::vs,d::ds,ps,ht,⟨p,q,Y,V,e⟩,c6,gr=>by
  subst e;exact⟨p,q,WideElems.Trod_stays hl (ht t af).1 (ht t af).2 Y (λx I=>O.same (c6 x aA)) (λx I=>gr x aA),(aqe hl O (λu hu=>ht u (by simp[hu])) V (λx I=>c6 x aA) (λx I=>gr x aA)),rfl⟩
def atf{W W'}(O:Below W.heap.size W W')(aDJ):W.keptBut W' aDJ:=by
 refine⟨O.os,O.output,λi Q=>?_⟩;rw[O.block i Q];split;rename_i a b c a' b' c' Y V;rw[Y] at V;cases V;exact⟨rfl,rfl,rfl,λ_ _=>rfl⟩;rename_i Y V;rw[Y] at V;cases V;exact bG ⟨rfl,rfl⟩;rfl
def atd{W W'}(O:Below W.heap.size W W'){b off}(h:b<W.heap.size):W'.frozen? ⟨b,off,bn⟩=W.frozen? ⟨b,off,bn⟩:=by
 unfold acs;rw[O.block b h]
def aCr{f}{fn}{s:ChangeSpec}{tb}(hl:laidOutB P=bh)(aiC:P.underlying tb=a_ .bool)(R8:fn.resultTypes= #[tb])
  (ayJ:∀t∈fn.params.toList,P.readableRec t=bh/\t<P.types.size) (aiI:s.vars=[]) {W} {args} {ds gs} {AG}
  (ayV:∀gs,gs=[]->s.fn H (ds++gs)={results:=[.lit (.bool bh)],args:=ds}) (hW:DataW.Whole enc P fn.params.toList s.vars bf W args.toList ds gs AG)
  {en} (hT:F1 W) (J:cI (xh W) P f en (.v (.bool bh))) (D:dH (xh W) [] [] en args.toList):
  Calls P f args W λe W'=>∃v,e=.returned v/\s.post enc P fn bf bh bf bf W args v W':=by
 have Em:=J.2 (xh W) W args.toList ⟨λb o v h=>h,hT⟩ (λb o v h=>h) D;rw[Array.toArray_toList] at Em;refine Em.mono λe W' ⟨bI,v',he,_,_,_,O,iL,_⟩=>?_;cases iL;subst he;refine⟨_,rfl,?_⟩;have c6:∀p∈AG,p.block<W.heap.size:=λp J=>hW.lt p J;have Xu:=hW;obtain⟨p,q,hA,hV,rfl,hz,hn⟩:=hW;rw[aiI] at hV;obtain⟨rfl,rfl⟩:=trodVars_none hV;have hs:=ayV [] rfl;have pF:∀sp:Nat->Bool,(∀x∈p++[],sp x.block=bh)->UB enc P W' 0 sp bh fn.params.toList args.toList ds p:=λsp gr=>
  aqe hl O ayJ hA (λx I=>c6 x aA) (λx I=>gr x aA)
 have aiy:∀(b) (sp) (hd),UB enc P W' b sp hd fn.resultTypes.toList ((Value.bool bh).resultList fn.resultTypes.size) [.lit (.bool bh)] []:=λb sp hd=>by
  rw[R8];exact trodAll_cons_mk (shut_bool aiC _) trodAll_mk0
 have aiH:∀sp,DataW.TrodVars enc P W' sp s.vars [] []:=λsp=>by rw[aiI];rfl
 refine⟨ds,[],p++[],[],p,[],Xu,?_,?_,?_,atf O _,λ_=>?_⟩;rw[hs];exact aiy _ _ _;rw[hs];exact pF _ (λx I=>by simpa using c6 x I);rw[hs];exact aiH _;refine⟨ok_one R8 rfl (okWide_bool_mk aiC _),_,_,([]++p)++[],⟨[]++p,[],trodAll_append (pF _ (λ_ _=>rfl)) (aiy _ _ _),by simpa using aiH _,af,?_,?_⟩,?_⟩;intro b off bl;rw[atd O (show b<W.heap.size from c6 (.cell b off) (by simpa using bl))];exact hz b off (by simpa using bl);intro ha;cases ha;intro x I _;simpa using I
def aFS{a}{C}{os:Os}{f}{fn}{s}{afu}{apart fresh ahC adQ}{X:World->Array Value->Prop}
  (hX:∀(w w') (args),w.heap=w'.heap->X w args->X w' args)
  (own:ownKnob C.prog.godebug=bn) (OK:os.Started) (aEh:C.prog.inits.idxOf? f=bn) (q6:C.prog.funcs[f]?=a_ fn)
  (aII:∃(w:World) (tape:Tape) (i:Input),w.os=os/\(w.forCall tape i).Shaped C.prog/\i.vars=[]/\Input.okWide C.prog (w.forCall tape i) .any w.heap.size f i/\
    ((s.pre enc C.prog fn afu apart (w.forCall tape i).memory i.args/\X (w.forCall tape i).memory i.args)/\sizedMet enc C.prog fn (acn s) apart (w.forCall tape i).memory i.args)/\a.holds C.prog (lone (Frame.enter C.prog f i.args .normal) [] (w.forCall tape i)))
  (auq:∀(W) (base) (args) (ds gs) (AG),
    (∀(j:Nat) t v,fn.params[j]?=a_ t->args[j]?=a_ v->It C.prog W .any base t v)->
    DataW.Whole enc C.prog fn.params.toList s.vars apart W args.toList ds gs AG->X W args->W.ShapedOpen C.prog->
    Calls C.prog f args W λe W'=>∃v,e=.returned v/\s.post enc C.prog fn apart fresh ahC adQ W args v W'):
  ReturnsInHanded a C os f .any (λw args=>(s.pre enc C.prog fn afu apart w args/\X w args)/\sizedMet enc C.prog fn (acn s) apart w args) (s.post enc C.prog fn apart fresh ahC adQ):=by
 refine returnsInHanded_of_calls own OK aEh aII ?_;intro w tape i _ iB _ fR q8 aKo;obtain⟨_,_,_,avx,axD,_,_,_,_,CC⟩:=fR;have e:avx=fn:=oY (axD.symm.trans q6);subst e;obtain⟨⟨⟨ds,gs,AG,hw,T⟩,I⟩,hz⟩:=q8;refine(auq (w.forCall tape i) w.heap.size i.args ds gs AG CC (DataW.Whole.of_heap (w':=w.forCall tape i) (by rfl) hw) (hX _ _ _ (by rfl) I) iB).mono λe W' ⟨v,he,J⟩=>?_;subst he;exact ChangeSpec.post_blind J
end
inductive xg where
 |i (k:IntKind)
 |b
 |s
 |sl (e:List xg)
inductive xk(W:World):xg->Value->Prop
 |i {k:IntKind} {n:Int} (h:(Lit.int k n).wf=bh):xk W (.i k) (.int k n)
 |b {x:Bool}:xk W .b (.bool x)
 |s {x:ByteArray} (h:x.size<=maxLen):xk W .s (.string x)
 |nil {e:List xg}:xk W (.sl e) (.slice bn 0 0)
 |sl {e:List xg} {a:Addr} {len cap:Nat} (g:Nat->Nat->Value) (hl:len<=cap) (T:cap<=maxLen) (gr:0<len->0<e.length->a.spot=bn)
  (hC:∀i j c,i<len->e[j]?=a_ c->W.cell? ⟨a.block,a.off+i*e.length+j,bn⟩=a_ (g i j))
  (hR:∀i j c,i<len->e[j]?=a_ c->xk W c (g i j)):xk W (.sl e) (.slice (a_ a) len cap)
def pY(W:World)(L:List xg)(Z:List Value):Prop:=L.length=Z.length/\∀(i:Nat) c v,L[i]?=a_ c->Z[i]?=a_ v->xk W c v
def Rb(P:Program)(g:TypeId->Option (List xg)):List Field->Nat->Option (List xg)
 |[],_=>a_ []
 |f::r,off=>if f.offset=off then match g f.type with
   |some l=>if P.cellsOf f.type=l.length then(Rb P g r (off+l.length)).map (l++ ·) else bn
   |none=>bn
  else bn
def Fc:Nat->List xg->List xg
 |0,_=>[]
 |n+1,l=>l++Fc n l
def Gu(P:Program):Nat->TypeId->Option (List xg)
 |0,_=>bn
 |f+1,t=>match P.underlying t with
  |some (.int k)=>a_ [.i k]
  |some .bool=>a_ [.b]
  |some .string=>a_ [.s]
  |some (.slice e)=>match Gu P f e with
   |some l=>if P.cellsOf e=l.length then a_ [.sl l] else bn
   |none=>bn
  |some (.struct fs)=>match Rb P (Gu P f) fs.toList 0 with
   |some l=>if P.cellsOf t=l.length then a_ l else bn
   |none=>bn
  |some (.array n e)=>match Gu P f e with
   |some l=>if P.cellsOf e=l.length/\P.cellsOf t=n*l.length then a_ (Fc n l) else bn
   |none=>bn
  |_=>bn
section
variable{H:Type}{enc:TypeId×Value->H}{P:Program}{W:World}{sp:Nat->Bool}{MP:Bool}
def aeY{L L'}{Z cs'}(h:pY W L Z)(h':pY W L' cs'):pY W (L++L') (Z++cs'):=by
 refine⟨by simp[h.1,h'.1],λi c v T hv=>?_⟩
 rcases ei i L.length with Q|Q
 rw[fT Q] at T;rw[fT (by rw[<-h.1];exact Q)] at hv;exact h.2 i c v T hv;rw[fJ Q] at T;rw[fJ (by rw[<-h.1];exact Q),<-h.1] at hv;exact h'.2 _ c v T hv
def LS{c}{v}(h:xk W c v):pY W [c] [v]:=⟨rfl,λi c' v' T hv=>by
 cases i with
 |zero=>simp at T hv;subst T;subst hv;exact h
 |succ i=>simp at T⟩
def aFJ(n)(l):(Fc n l).length=n*l.length:=by
 induction n with
 |zero=>simp[Fc]
 |succ n ih=>simp only[Fc,dO,ih,uF];omega
def afP{α:Type}(Z:List α)(off n):Z.drop off=(Z.drop off).take n++Z.drop (off+n):=by
 conv=>lhs;rw[<-K8 n (Z.drop off)]
 rw[uD]
def agO{g}{Z:List Value}{R:TypeId->List Value->Prop}(hg:∀t l v,g t=a_ l->R t v->pY W l v):
  ∀(fs) (off) (L),Rb P g fs off=a_ L->(∀f∈fs,R f.type ((Z.drop f.offset).take (P.cellsOf f.type)))->(Z.drop off).length=L.length->pY W L (Z.drop off)
 |[],off,L,h,_,hl=>by
  cases h;have:Z.drop off=[]:=ou hl;rw[this];exact⟨rfl,λi c v T=>aNc⟩
 |f::r,off,L,h,hR,hl=>by
  simp only[Rb] at h;split at h;rename_i ayv;subst ayv;split at h;rename_i l kU;split at h;rename_i hn;simp only[dF] at h;obtain⟨L',tU,rfl⟩:=h;rw[afP Z f.offset (P.cellsOf f.type)];refine aeY (hg _ _ _ kU (hR f af)) ?_;rw[hn];refine agO hg r (f.offset+l.length) L' tU (λf' eY=>hR f' (by simp[eY])) ?_;simp only[dO,ql] at hl⊢;omega;cases h;cases h;cases h
def aod{l}{Z:List Value}(n):∀(k i),k+i=n->(∀j,j<n->pY W l ((Z.drop (j*l.length)).take l.length))->(Z.drop (i*l.length)).length=k*l.length->pY W (Fc k l) (Z.drop (i*l.length))
 |0,i,_,_,hl=>by
  have:Z.drop (i*l.length)=[]:=ou (by rw[hl];simp);rw[this];exact⟨rfl,λi c v T=>by simp[Fc] at T⟩
 |k+1,i,S,hR,hl=>by
  rw[afP Z (i*l.length) l.length];refine aeY (hR i aa) ?_;have e:i*l.length+l.length=(i+1)*l.length:=by rw[uF]
  rw[e];refine aod n k (i+1) aa hR ?_;rw[<-e];simp only[ql,uF] at hl⊢;omega
def aeZ{a}{n}{Z}(h:W.cells? 0 a n=a_ Z):Z.length=n/\∀j,j<n->W.cell? (a.add j)=Z[j]? :=by
 unfold World.cells? at h;rw[if_pos (j0 _)] at h;exact⟨by simpa using mapM_some_length h,λj hj=>mapM_some_get h j j aNr⟩
def asr(a:Addr)(n)(h:a.spot=bn):a.add n=⟨a.block,a.off+n,bn⟩:=by
 cases a with
 |mk b o s=>simp at h;subst h;rw[addr_add]
def atE{a}{v}(h:W.cell? a=a_ v):a.spot=bn:=by
 unfold Iu at h;split at h;split at h;cases h;rename_i hs;simpa using hs;cases h
def OQ:∀(d) (t) (L),Gu P d t=a_ L->∀(oJ) (Z) (x),UC enc P W 0 sp MP oJ t Z=a_ x->pY W L Z
 |0,t,L,h=>aF
 |d+1,t,L,h=>by
  intro oJ Z x I;simp only[Gu] at h;split at h;rename_i k ht;cases h;obtain⟨n,rfl,_,hw⟩:=DataW.trod_int ht I;exact LS (.i hw);rename_i ht;cases h;obtain⟨n,rfl,_⟩:=DataW.trod_bool ht I;exact LS .b;rename_i ht;cases h;obtain⟨n,rfl,_,hw⟩:=DataW.trod_string ht I;exact LS (.s hw);rename_i e ht;split at h;rename_i l hl;split at h;rename_i hn;cases h
  rcases DataW.trod_slice ht I with⟨rfl,_⟩|⟨a,len,cap,aJQ,rest,n,rfl,rfl,_,_,ga,XM,tX,lJ,_,_⟩
  exact LS .nil
  · rw[hn] at lJ
    have each:∀i,i<len->∃ci,W.cells? 0 (a.add (i*l.length)) l.length=a_ ci/\pY W l ci:=λi Q=>by
     have Y:=lJ i Q;rw[cu aa] at Y;simp only[gS] at Y;obtain⟨ci,c1,c2⟩:=Y;exact⟨ci,c1,OQ d e l hl n ci _ c2⟩
    have gr:0<len->0<l.length->a.spot=bn:=λh0 Y=>by
     obtain⟨ci,c1,_⟩:=each 0 h0;obtain⟨q1,bt⟩:=aeZ c1;have bV:=bt 0 Y;rw[cu aa] at bV;have iN:(a.add (0*l.length)).add 0=a:=by simp[Addr.add]
     rw[iN] at bV;exact atE bV
    refine LS (.sl (λi j=>(W.cell? ⟨a.block,a.off+i*l.length+j,bn⟩).getD (.int .i64 0)) ga XM gr (λi j c Q hj=>?_) (λi j c Q hj=>?_))
    all_goals
     have mb:=(cJ.1 hj).1;obtain⟨ci,c1,c2,c3⟩:=each i Q;obtain⟨q1,bt⟩:=aeZ c1;have bV:=bt j mb;rw[asr a _ (gr aa aa),addr_add] at bV;rw[cu aa] at bV;simp only[bV,xb]
    exact c3 j c _ hj (cu aa)
  cases h;cases h;rename_i fs ht;split at h;rename_i l hl;split at h;rename_i hn;cases h;obtain⟨xs,n,rfl,_,cW,dw,lJ⟩:=DataW.trod_struct ht I;have:=agO (R:=λt v=>∃x,UC enc P W 0 sp MP n t v=a_ x) (λt l v hg I=>by
   obtain⟨x,I⟩:=I;exact OQ d t l hg n v x I) fs.toList 0 _ hl (λf hf=>by
   obtain⟨i,Q,rfl⟩:=Iy hf;have kj:i<fs.size:=aR
   have:=lJ i fs[i] (by simp[kj]);rw[List.getElem?_eq_getElem aa] at this;exact⟨_,by simpa using this⟩) (by rw[pU];omega)
  rwa [pU] at this
  cases h;cases h;rename_i n e ht;split at h;rename_i l hl;split at h;rename_i hn;cases h;obtain⟨xs,m,rfl,_,cW,dw,lJ⟩:=DataW.trod_array ht I;have:=aod n n 0 aa (λj hj=>by
   have Y:=lJ j hj;rw[cu aa,hn.1] at Y;exact OQ d e l hl m _ _ Y) ah
  simpa using this;cases h;cases h;cases h
def ad_{d}:∀{ts} {IG} {vs} {ds} {ps},ts.mapM (Gu P d)=a_ IG->UB enc P W 0 sp MP ts vs ds ps->
  vs.length=IG.length/\ds.length=IG.length/\∀(i:Nat) L v,IG[i]?=a_ L->vs[i]?=a_ v->pY W L v.cells.toList
 |[],IG,[],[],_,h,_=>by
  simp at h;subst h;exact⟨rfl,rfl,λi L v h=>av⟩
 |t::ts,IG,v::vs,x::ds,ps,h,⟨p,q,⟨oJ,Y⟩,V,_⟩=>by
  simp only[List.mapM_cons,Option.pure_def,Option.bind_eq_bind,gS,ox] at h;obtain⟨L,hL,aJn,awT,rfl⟩:=h;obtain⟨e1,e2,di⟩:=ad_ awT V;refine⟨aLF,by simp[e2],λi L' v' tU JQ=>?_⟩;cases i with
  |zero=>simp at tU JQ;subst tU;subst JQ;exact OQ d t L hL oJ _ _ Y
  |succ i=>simp at tU JQ;exact di i L' v' tU JQ
end
section
variable{J:List br}{f:FuncId}{t:TypeId×Nat}{k:Nat}{z:List bg}
section
variable{G:Cells}{P:Program}
structure PE(P:Program)(f:FuncId)(t:TypeId×Nat):Prop where
 enters:Enters P f
 fresh:∀b w,w.cell? ⟨b,0,bn⟩=a_ (.pointer bn)->w.shape? b=a_ t->w.frozen? ⟨b,0,bn⟩=bf->
  Calls P f #[.pointer (a_ ⟨b,0,bn⟩)] w λe w'=>e=.returned (.tuple #[])/\w'=w.setCell ⟨b,0,bn⟩ (.pointer (a_ ⟨b,0,bn⟩))
 used:∀b w,w.cell? ⟨b,0,bn⟩=a_ (.pointer (a_ ⟨b,0,bn⟩))->
  Calls P f #[.pointer (a_ ⟨b,0,bn⟩)] w λe w'=>e=.returned (.tuple #[])/\w'=w
def aof{C}{M}:bP C M J (.bQ []) (.tuple #[]):=.bQ rfl λi a b ha O=>by simp at ha
def aeQ(hS:PE P f t)(S:J[k]?=a_ (.cells (.iJ k t::z) bf)):
  ct G P f [.mp k 0] J λr bl=>r=.bQ []/\bl=J.set k (.cells (.mp k 0::z) bf):=by
 refine⟨hS.enters,λbase w0 C M w dn hs D=>?_⟩;obtain⟨hl,hh⟩:=D
 match dn,hl,hh with
 |[v],_,hh=>
  cases(hh 0 _ _ rfl rfl) with
  |@mp _ _ L Z O hM=>
   obtain⟨_,_,h3,h4,_,_,h7⟩:=hs.cells k _ _ L S hM;obtain⟨c',h5,h6⟩:=h3 0 (.iJ k t) rfl;generalize I:bg.iJ k t=x at h6;cases h6 with
   |@iJ k' L' cs' hb' ez=>
    cases I;rw[hM] at ez;cases ez;refine(hS.fresh L.b w h5 h7 (h4 0)).mono ?_;rintro e w' ⟨rfl,rfl⟩;obtain⟨bJ,dZ⟩:=hs.store S hM 0 [.mp k 0] [.pointer (a_ ⟨L.b,0,bn⟩)] ⟨rfl,λi a b ha jB=>by
     cases i with
     |zero=>simp at ha jB;subst ha;subst jB;exact .mp S hM
     |succ i=>simp at ha⟩ af
    exact⟨C,M,_,.bQ [],.tuple #[],⟨rfl,rfl⟩,rfl,bJ,dZ,aof⟩
   |_=>cases I
def aeT(hS:PE P f t)(S:J[k]?=a_ (.cells (.mp k 0::z) bf)):
  ct G P f [.mp k 0] J λr bl=>r=.bQ []/\bl=J:=by
 refine⟨hS.enters,λbase w0 C M w dn hs D=>?_⟩;obtain⟨hl,hh⟩:=D
 match dn,hl,hh with
 |[v],_,hh=>
  cases(hh 0 _ _ rfl rfl) with
  |@mp _ _ L Z O hM=>
   obtain⟨_,_,h3,_⟩:=hs.cells k _ _ L S hM;obtain⟨c',h5,h6⟩:=h3 0 (.mp k 0) rfl;generalize I:c8 k 0=x at h6;cases h6 with
   |@mp k' off L' cs' hb' ez=>
    cases I;rw[hM] at ez;cases ez;refine(hS.used L.b w h5).mono ?_;rintro e w' ⟨rfl,rfl⟩;exact⟨C,M,_,.bQ [],.tuple #[],⟨rfl,rfl⟩,rfl,pS _ _ _,hs,aof⟩
   |_=>cases I
end
end
section
variable{P:Program}
def aC1{e}(T:P.cellsOf e=1)(count o n)(hn:o+n<=count):liesAt P P.depth e count o e n=bh:=by
 have hd:P.depth=(2*(P.types.size+Made.depth)+1)+1:=rfl;rw[hd];simp only[liesAt,Io];left;rw[hd];simp[rowAt,T,hn,sameLayout,Nat.mod_one]
def aGf{w}(pt it ty e)(J:P.underlying pt=a_ (.pointer e))(T:P.cellsOf e=1)(g o cells)(iB:w.shape? g=a_ (e,cells))(l)(h0:l≠[])(hn:o+l.length<=cells)(GA:l.length<=9223372036854775807)
  (p_:∀(j) x,l[j]?=a_ x->w.cell? ((⟨g,o,bn⟩:Addr).add j)=a_ (.int .u8 x.toNat)):
  (ab_ #[pt,it] ty #[.pointer (a_ ⟨g,o,bn⟩),.int .i64 l.length]).run P w=.ok (.string ⟨l.toArray⟩) (w.freeze ⟨g,o,bn⟩ l.length):=by
 have awE:¬(9223372036854775807:Int)<(l.length:Int):=aa
 have ayl:cN.max=9223372036854775807:=rfl;have aim:¬(l.length:Int)<0:=aa
 rw[(@id (ab_ #[pt,it] ty #[.pointer (a_ ⟨g,o,bn⟩),.int .i64 l.length]=(asInt (.int .i64 l.length)>>=_)) rfl)];simp[asInt,asIntOf,ayl,awE,aim,(by simpa using h0),variablesAt,iB,elemOf,run_underlying J,aC1 (P:=P) T (cells/P.cellsOf e) o l.length (by rw[T];simpa using hn),Lib.run_loadBytes (P:=P) w l ⟨g,o,bn⟩ .empty p_]
end
section
variable{f:FuncId}{e:TypeId}{k:Nat}{c0:bg}{J:List br}
section
variable{G:Cells}{P:Program}
structure P1(P:Program)(f:FuncId)(e:TypeId):Prop where
 enters:Enters P f
 got:∀(b g o cap cells:Nat) (l:List UInt8) (w:World),w.cell? ⟨b,1,bn⟩=a_ (.slice (a_ ⟨g,o,bn⟩) l.length cap)->l≠[]->l.length<=cap->w.shape? g=a_ (e,cells)->o+l.length<=cells->
  l.length<=140737488355328->
  (∀(j:Nat) x,l[j]?=a_ x->w.cell? ((⟨g,o,bn⟩:Addr).add j)=a_ (.int .u8 x.toNat))->
  Calls P f #[.pointer (a_ ⟨b,0,bn⟩)] w λr w'=>r=.returned (.string ⟨l.toArray⟩)/\w'=w.drew.freeze ⟨g,o,bn⟩ l.length
 am_:∀(b:Nat) (w:World),w.cell? ⟨b,1,bn⟩=a_ (.slice bn 0 0)->
  Calls P f #[.pointer (a_ ⟨b,0,bn⟩)] w λr w'=>r=.returned (.string .empty)/\w'=w.drew
def aeR(hS:P1 P f e){id}{l}(S:J[k]?=a_ (.cells [c0,.sl (l.map λc=>.v (.int .u8 c.toNat)) (.tok id)] bf))(hid:J[id]?=a_ (.tok l.length 1 e))
  (h0:l≠[]) (Jt:l.length<=140737488355328):
  ct G P f [.mp k 0] J λr bl=>r=.v (.string ⟨l.toArray⟩)/\bl=J:=by
 refine⟨hS.enters,λbase w0 C M w dn hs D=>?_⟩;obtain⟨hl,hh⟩:=D
 match dn,hl,hh with
 |[v],_,hh=>
  cases(hh 0 _ _ rfl rfl) with
  |@mp _ _ L Z O hM=>
   obtain⟨_,_,h3,_⟩:=hs.cells k _ _ L S hM;obtain⟨c',h5,h6⟩:=h3 1 (.sl (l.map λc=>.v (.int .u8 c.toNat)) (.tok id)) rfl;generalize I:bg.sl (l.map λc=>dh (.int .u8 c.toNat)) (.tok id)=x at h6;cases h6 with
   |@sl xs t a cap sz fv gr dw hC hR hT iq=>
    cases I;rw[cS] at*;obtain⟨n,s,ty,L',q1,bt,bV,fP,iN⟩:=hT;rw[hid] at q1;cases q1;obtain⟨aaz,Fb,yj,_⟩:=iN rfl;obtain⟨ab,ao,DS⟩:=a;cases aaz;have bR:l.map (λc=>dh (.int .u8 c.toNat))≠[]:=by simpa using h0
    have wq:0<l.length:=by cases l with|nil=>exact(h0 rfl).elim|cons _ _=>simp
    have s5:sz=1:=by
     rcases fP with q|q
     omega;exact q
    subst s5;obtain⟨_,_,_,_,_,ay2⟩:=hs.toks id _ _ _ L' hid bt;obtain⟨cells,iB⟩:=ay2.shape;have p_:∀(j) x,l[j]?=a_ x->w.cell? ((⟨ab,ao,bn⟩:Addr).add j)=a_ (.int .u8 x.toNat):=by
     intro j x hj;have hm:(l.map (λc=>dh (.int .u8 c.toNat)))[j]?=a_ (.v (.int .u8 x.toNat)):=aNr
     have Y:=hs.n7 _ _ _ (hC j _ 0 _ hm rfl);have V:=hR j _ 0 _ hm rfl;rw[addr_add];simp only[Nat.mul_one,nB] at Y;rw[Y];generalize hg:fv j 0=y at V;cases V;rfl
    have hfit:ao+l.length<=cells:=by
     obtain⟨x,I⟩:∃x,l[l.length-1]?=a_ x:=⟨_,cu aa⟩;have Y:=p_ _ _ I;rw[addr_add] at Y;rw[Fb.symm] at iB;unfold Iu at Y;unfold Pk at iB;dsimp only at Y iB;cases hw:w.heap[ab]? with
     |none=>rw[hw] at Y;cases Y
     |some gE=>
      rw[hw] at Y iB;cases gE with
      |cells d t fr=>
       simp only[ox,xd] at iB;simp only[Ak,kJ,if_false] at Y;have:=(z7.1 Y).1;omega
      |_=>cases Y
    refine(hS.got L.b ab ao cap cells l w h5 h0 iq (by rw[<-Fb] at iB;exact iB) hfit Jt p_).mono ?_;rintro r w' ⟨rfl,rfl⟩;exact⟨C,M,_,.v (.string ⟨l.toArray⟩),.string ⟨l.toArray⟩,⟨rfl,rfl⟩,rfl,pS _ _ _,hs.drew.avE hid bt Fb.symm (by dsimp only at yj⊢;omega),.v rfl⟩
   |_=>cases I
def aeS(hS:P1 P f e)(S:J[k]?=a_ (.cells [c0,.bq] bf)):
  ct G P f [.mp k 0] J λr bl=>r=.v (.string .empty)/\bl=J:=by
 refine⟨hS.enters,λbase w0 C M w dn hs D=>?_⟩;obtain⟨hl,hh⟩:=D
 match dn,hl,hh with
 |[v],_,hh=>
  cases(hh 0 _ _ rfl rfl) with
  |@mp _ _ L Z O hM=>
   obtain⟨_,_,h3,_⟩:=hs.cells k _ _ L S hM;obtain⟨c',h5,h6⟩:=h3 1 .bq rfl;cases h6;refine(hS.am_ L.b w h5).mono ?_;rintro r w' ⟨rfl,rfl⟩;exact⟨C,M,_,.v (.string .empty),.string .empty,⟨rfl,rfl⟩,rfl,pS _ _ _,hs.drew,.v rfl⟩
end
end
section
variable{b:br}{c key l m s v x:bg}{J:List br}{cc k n:Nat}{e:TypeId}{α:Type}{bN:Bool}{z:List bg}{ks:List nD}
def b9:br->br
 |.ck st pd _ _ _=>.ck st (match st with|.busy=>bn|_=>pd) [] #[] (λ_ _=>False)
 |.obj (.deferred _)=>.obj (.deferred bn)
 |b=>b
def gp(J bl:List br):Prop:=∀(k:Nat) st pd bW ps ok,J[k]?=a_ (.ck st pd bW ps ok)->∃fV lP,bl[k]?=a_ (.ck fV lP bW ps ok)
def gp.refl(J):gp J J:=λk st pd bW ps ok h=>⟨st,pd,h⟩
def gp.trans{a b c}(h:gp a b)(h':gp b c):gp a c:=λk st pd bW ps ok q=>by
 obtain⟨fV,lP,q'⟩:=h k st pd bW ps ok q;exact h' k fV lP bW ps ok q'
def Bu{l}:gp J (J++l):=λk st pd bW ps ok h=>⟨st,pd,bU h⟩
def zy{b'}(S:J[k]?=a_ b)(O:∀st pd bW ps ok,b≠.ck st pd bW ps ok):gp J (J.set k b'):=λj st pd bW ps ok h=>by
 by_cases e:k=j;subst e;rw[S] at h;cases h;exact(O _ _ _ _ _ rfl).elim;exact⟨st,pd,aM6⟩
def Me(h:(J.map b9)[k]?=a_ b):∃b0,J[k]?=a_ b0/\b9 b0=b:=by
 rwa [fD,dF] at h
def sO{Z}{r}(h:(J.map b9)[k]?=a_ (.cells Z r)):J[k]?=a_ (.cells Z r):=by
 obtain⟨b,Y,V⟩:=Me h;cases b with
 |cells cs' r'=>cases V;exact Y
 |obj o=>cases o<;>cases V
 |_=>cases V
def WL{s}(h:(J.map b9)[k]?=a_ (.tok n s e)):J[k]?=a_ (.tok n s e):=by
 obtain⟨b,Y,V⟩:=Me h;cases b with
 |tok n s e=>cases V;exact Y
 |obj o=>cases o<;>cases V
 |_=>cases V
def af4{es}{cD}(h:(J.map b9)[k]?=a_ (.eS es cD)):J[k]?=a_ (.eS es cD):=by
 obtain⟨b,Y,V⟩:=Me h;cases b with
 |eS es cD=>cases V;exact Y
 |obj o=>cases o<;>cases V
 |_=>cases V
def af2{s}{p}(h:(J.map b9)[k]?=a_ (.obj (.stringIter s p))):J[k]?=a_ (.obj (.stringIter s p)):=by
 obtain⟨b,Y,V⟩:=Me h;cases b with
 |obj o=>cases o<;>cases V;exact Y
 |_=>cases V
def af3{st}{pd}{bW}{ps}{ok}(h:(J.map b9)[k]?=a_ (.ck st pd bW ps ok)):
  ∃lP LK ps' N6,J[k]?=a_ (.ck st lP LK ps' N6)/\(st≠.busy->lP=pd):=by
 obtain⟨b,Y,V⟩:=Me h;cases b with
 |ck fV lP LK ps' N6=>
  simp only[b9,br.ck.injEq] at V;obtain⟨rfl,h3,_⟩:=V;exact⟨lP,LK,ps',N6,Y,λbR=>by cases fV<;>first|exact h3|exact(bR rfl).elim⟩
 |obj o=>cases o<;>cases V
 |_=>cases V
def cM(f:List br->Option (bg×List br)):Prop:=∀J v hE,f (J.map b9)=a_ (v,hE)->∃bl,f J=a_ (v,bl)/\bl.map b9=hE/\gp J bl
def cM.const(x:Option bg):cM λJ=>x.map λr=>(r,J):=λJ v hE h=>by
 simp only[dF,xd] at h;obtain⟨r,Y,rfl,rfl⟩:=h;exact⟨J,aMw,rfl,gp.refl J⟩
def cM.bind(x:Option α){g:α->List br->Option (bg×List br)}(hg:∀a,cM (g a)):cM λJ=>x.bind λa=>g a J:=λJ v hE h=>by
 simp only[gS] at h;obtain⟨a,Y,V⟩:=h;obtain⟨bl,q1,bt,bV⟩:=hg a J v hE V;exact⟨bl,by simp[Y,q1],bt,bV⟩
def cM.VX(x:Option α)(g:α->bg):cM λJ=>x.map λa=>(g a,J):=λJ v hE h=>by
 simp only[dF,xd] at h;obtain⟨a,Y,rfl,rfl⟩:=h;exact⟨J,aMw,rfl,gp.refl J⟩
def cM.push(x:Option α)(g:Nat->α->bg)(b:α->br)(O:∀a,b9 (b a)=b a):cM λJ=>x.map λa=>(g J.length a,J++[b a]):=λJ v hE h=>by
 simp only[dF,xd,cS] at h;obtain⟨a,Y,rfl,rfl⟩:=h;exact⟨J++[b a],aMw,aMy,Bu⟩
def cM.none:cM λ_=>bn:=λJ v hE h=>aF
def cM.some(x:bg):cM λJ=>a_ (x,J):=λJ v hE h=>by
 cases h;exact⟨J,rfl,rfl,gp.refl J⟩
def cM.read(g:List br->Option bg)(hg:∀J x,g (J.map b9)=.some x->g J=.some x):cM λJ=>(g J).map λr=>(r,J):=λJ v hE h=>by
 simp only[dF,xd] at h;obtain⟨r,Y,rfl,rfl⟩:=h;exact⟨J,by simp[hg J r Y],rfl,gp.refl J⟩
def cM.ite{c}[Decidable c]{f g}(hf:c->cM f)(hg:¬c->cM g):cM λJ=>if c then f J else g J:=λJ v hE h=>by
 dsimp only at h⊢;split at h;rename_i T;rw[if_pos T];exact hf T J v hE h;rename_i T;rw[if_neg T];exact hg T J v hE h
def cM.HC(x:Nat->bg)(b)(O:b9 b=b):cM λJ=>a_ (x J.length,J++[b]):=λJ v hE h=>by
 simp only[ox,xd,cS] at h;obtain⟨rfl,rfl⟩:=h;exact⟨J++[b],rfl,aMy,Bu⟩
def cM.aFc(b:Nat->br)(x:Nat->bg)(O:∀k,b9 (b k)=b k):cM λJ=>a_ (x J.length,J++[b J.length]):=λJ v hE h=>by
 simp only[ox,xd,cS] at h;obtain⟨rfl,rfl⟩:=h;exact⟨J++[b J.length],rfl,aMy,Bu⟩
def cM.setCells{r}{g:List bg->Option (bg×List bg)}:cM λJ=>match J[k]? with
  |.some (.cells Z r')=>if r'=r then(g Z).map λp=>(p.1,J.set k (.cells p.2 r)) else .none
  |_=>.none:=λJ v hE h=>by
 dsimp only at h⊢;split at h;rename_i Z r' S;have gi:=sO S;rw[gi];dsimp only;split at h;rename_i D;rw[if_pos D];simp only[dF,xd] at h;obtain⟨p,Y,rfl,rfl⟩:=h;refine⟨J.set k (.cells p.2 r),aMw,aLz,zy gi nofun⟩;cases h;cases h
def adZ{p:bg}(h:bz (J.map b9) bN n p=a_ c):bz J bN n p=a_ c:=by
 unfold bz at h⊢;split at h;exact h;split at h;rename_i S;rw[sO S];exact h;cases h;split at h;rename_i S;rw[sO S];exact h;cases h;cases h
def aui{p:bg}:cM λJ=>(bL J n p x).map λbl=>(jN,bl):=λJ v hE h=>by
 simp only[dF,xd] at h;obtain⟨Y,q,rfl,rfl⟩:=h;have key:∀(k) (row) Z off,J[k]?=a_ (.cells Z row)->fu (J.map b9) k row Z n off x=a_ Y->∃bl,fu J k row Z n off x=a_ bl/\bl.map b9=Y/\gp J bl:=λk row Z off S hs=>by
  unfold fu at hs⊢;split at hs;rename_i T;rw[if_pos T];cases hs;exact⟨_,rfl,aLz,zy S nofun⟩;cases hs
 unfold bL at q⊢;cases p with
 |mp k off=>
  simp only at q⊢;split at q;rename_i Z S;rw[sO S];obtain⟨bl,a,b,c⟩:=key _ _ _ _ (sO S) q;exact⟨bl,by simp[a],b,c⟩;cases q
 |rp k m off=>
  simp only at q⊢;split at q;rename_i Z S;rw[sO S];simp only at q⊢;split at q;rename_i hm;rw[if_pos hm];obtain⟨bl,a,b,c⟩:=key _ _ _ _ (sO S) q;exact⟨bl,by simp[a],b,c⟩;cases q;cases q
 |_=>cases q
def Wh{ys}:cM λJ=>iI J n cc e s ys:=λJ v hE h=>by
 dsimp only at h⊢;unfold iI at h⊢;cases s with
 |bq=>
  simp only[cS] at h⊢;split at h;rename_i hl;rw[if_pos hl];cases h;exact⟨_,rfl,by simp[b9],Bu⟩;cases h
 |rs k m sz off len=>
  simp only at h⊢;split at h;rename_i hl;rw[if_pos hl];split at h;rename_i Z S;rw[sO S];simp only at h⊢;split at h;rename_i hm;rw[if_pos hm];cases h;exact⟨_,rfl,aLz,zy (sO S) nofun⟩;cases h;cases h;cases h
 |sl xs t=>
  simp only at h⊢;split at h;rename_i hl;rw[if_pos hl];cases t with
  |exact=>
   simp only[cS] at h⊢;cases h;exact⟨_,rfl,by simp[b9],Bu⟩
  |no=>cases h
  |tok id=>
   simp only at h⊢;split at h;rename_i c s' e' S;rw[WL S];simp only at h⊢;split at h;rename_i hm;rw[if_pos hm];cases h;exact⟨_,rfl,aLz,zy (WL S) nofun⟩;cases h;cases h
  cases h
 |_=>cases h
def afg:cM λJ=>gY J n cc e s x:=λJ v hE h=>by
 dsimp only at h⊢;unfold gY at h⊢;cases RJ:iA x with
 |none=>rw[RJ] at h;cases h
 |some ys=>
  rw[RJ] at h;simp only at h⊢;by_cases hy:ys=[];rw[if_pos hy] at h⊢
  split at h<;>first|(cases h;exact⟨J,rfl,rfl,gp.refl J⟩)|cases h
  rw[if_neg hy] at h⊢;split at h;rename_i T;rw[if_pos T];exact Wh J v hE h;cases h
def at7:cM λJ=>eg J n cc e s x:=by
 unfold eg;cases s with
 |rs _ _ _ _ _=>exact cM.none
 |_=>exact afg
def aub:cM λJ=>B9 J cc e s x:=λJ v hE h=>by
 dsimp only at h⊢;unfold B9 at h⊢;split at h;rename_i b;by_cases h0:b.size=0;rw[if_pos h0] at h⊢
 split at h<;>first|(cases h;exact⟨J,rfl,rfl,gp.refl J⟩)|cases h
 rw[if_neg h0] at h⊢;split at h;split at h;rename_i q;simp only[if_pos q];exact Wh J v hE h;cases h;split at h;rename_i q;simp only[if_pos q];exact Wh J v hE h;cases h;cases h;cases h
def aua:cM λJ=>qW J n cc e s x:=by
 unfold qW;cases s with
 |bq=>
  simp only;cases iA x with
  |none=>exact cM.none
  |some ys=>
   simp only;exact cM.ite (λ_=>cM.some _) λ_=>cM.ite (λ_=>cM.HC (λk=>.rs k (eO ys).length n 0 ys.length) _ rfl) λ_=>cM.none
 |_=>exact afg
def at4{vs}:cM λJ=>Au J n vs:=by
 unfold Au;exact cM.ite (λ_=>cM.HC (λk=>.rs k (eO vs).length n 0 vs.length) _ rfl) λ_=>cM.none
def at5:cM λJ=>DN J n cc z l c:=by
 unfold DN;split;exact cM.ite (λ_=>cM.HC (λk=>.rs k _ n 0 _) _ rfl) λ_=>cM.none;exact cM.none
def at6:cM λJ=>DO J n cc e z l c:=by
 unfold DO;split;exact cM.ite (λ_=>cM.HC (λk=>.sl [] (.tok k)) _ rfl) λ_=>cM.none;exact cM.none
def aud:cM λJ=>Sl v J:=by
 unfold Sl;split;exact cM.HC (λk=>.gE k) _ rfl;exact cM.none
def auh:cM λJ=>sJ J v:=λJ u hE h=>by
 dsimp only at h⊢;unfold sJ at h⊢;split at h;rename_i k;split at h;rename_i s pos S;rw[af2 S];simp only;split at h;rename_i hl;rw[if_pos hl];cases h;exact⟨_,rfl,aLz,zy (af2 S) nofun⟩;rename_i hl;rw[if_neg hl];cases h;exact⟨_,rfl,rfl,gp.refl J⟩;cases h;cases h
def NQ{r}(h:s9 (J.map b9) m=a_ r):s9 J m=a_ r/\J[r.1]?=a_ (.eS r.2.1 r.2.2):=by
 unfold s9 at h⊢;split at h;rename_i k;split at h;rename_i es cD S;rw[af4 S];cases h;exact⟨rfl,af4 S⟩;cases h;cases h
def asw{z:bg}{ok}(h:xy (J.map b9) bN ks z ok m key=a_ x):xy J bN ks z ok m key=a_ x:=by
 unfold xy at h⊢;split at h;rename_i k es cD hm;rw[(NQ hm).1];exact h;cases h
def asE(h:DM (J.map b9) m=a_ x):DM J m=a_ x:=by
 unfold DM at h⊢;split at h;rename_i k es cD hm;rw[(NQ hm).1];exact h;cases h
def aug:cM λJ=>(y7 J bN ks m key x).map λbl=>(jN,bl):=λJ v hE h=>by
 simp only[dF,xd] at h;obtain⟨Y,q,rfl,rfl⟩:=h;dsimp only;unfold y7 at q⊢;split at q;rename_i k es cD hm;obtain⟨m1,m2⟩:=NQ hm;rw[m1];simp only;split at q;rename_i T;rw[if_pos T];split at q;cases q;exact⟨_,rfl,aLz,zy m2 nofun⟩;cases q;exact⟨_,rfl,aLz,zy m2 nofun⟩;cases q;cases q;cases q
def auf{z:bg}:cM λJ=>I0 J bN ks z m key:=λJ v hE q=>by
 dsimp only at q⊢;unfold I0 at q⊢;split at q;rename_i k es cD hm;obtain⟨m1,m2⟩:=NQ hm;rw[m1];simp only;split at q;rename_i T;rw[if_pos T];split at q;cases q;exact⟨_,rfl,aLz,zy m2 nofun⟩;cases q;exact⟨_,rfl,aLz,zy m2 nofun⟩;cases q;cases q;cases q
def auc{st:bg}:cM λJ=>(IY J m st x).map λbl=>(jN,bl):=λJ v hE h=>by
 simp only[dF,xd] at h;obtain⟨Y,q,rfl,rfl⟩:=h;dsimp only;unfold IY at q⊢;split at q;rename_i k es cD _ n hm;obtain⟨m1,m2⟩:=NQ hm;rw[m1];simp only;split at q;cases q;exact⟨_,rfl,aLz,zy m2 nofun⟩;cases q;cases q
def aue:cM λJ=>cH v J:=by
 unfold cH;split;exact cM.none;exact cM.const _
def afh{e}{o}:cM λJ=>cE e J o:=by
 cases o<;>simp only[cE]
 case mv x=>exact cM.const _
 case pick c a b=>exact cM.bind _ λc=>cM.const _
 case alloc z=>exact cM.HC (λk=>.mp k 0) _ rfl
 case Ax t z=>exact cM.aFc (λk=>.cells (.iJ k t::z) bf) (λk=>.mp k 0) λ_=>rfl
 case box x=>exact cM.push _ (λk _=>.mp k 0) (λr:bg=>.cells r.cells bf) λ_=>rfl
 case build z ps=>exact cM.bind _ λl=>cM.VX _ _
 case AI n vs=>exact cM.bind _ λl=>cM.const _
 case gk bN n x=>exact cM.bind _ λx=>cM.read (λJ=>bz J bN n x) λJ y h=>adZ h
 case st n p x=>exact cM.bind _ λp=>cM.bind _ λx=>aui
 case app n cc ty s x=>exact cM.bind _ λs=>cM.bind _ λx=>at7
 case Bz f a b=>exact cM.bind _ λa=>cM.VX _ _
 case xF n vs=>exact cM.bind _ λl=>at4
 case Ca n cc ty s x=>exact cM.bind _ λs=>cM.bind _ λx=>aua
 case AE cc ty s x=>exact cM.bind _ λs=>cM.bind _ λx=>aub
 case BA n cc ty z l c=>exact cM.bind _ λl=>cM.bind _ λc=>at5
 case CR n cc ty z l c=>exact cM.bind _ λl=>cM.bind _ λc=>at6
 case CO t x=>exact cM.VX _ _
 case iter x=>exact cM.bind _ λx=>aud
 case next x=>exact cM.bind _ λx=>auh
 case CQ=>exact cM.HC (λk=>.gm k) _ rfl
 case E1 x=>exact cM.bind _ λx=>cM.read (λJ=>DM J x) λJ y h=>asE h
 case CK bN ks z ok m k=>exact cM.bind _ λm=>cM.bind _ λk=>cM.read (λJ=>xy J bN ks z ok m k) λJ y h=>asw h
 case yc bN ks m k x=>exact cM.bind _ λm=>cM.bind _ λk=>cM.bind _ λx=>aug
 case By bN ks z m k=>exact cM.bind _ λm=>cM.bind _ λk=>auf
 case D9 m st x=>exact cM.bind _ λm=>cM.bind _ λst=>cM.bind _ λx=>auc
 case len x=>exact cM.bind _ λx=>aue
 case r6 x=>
  refine cM.bind _ λx=>?_;unfold r6;split;exact cM.some _;exact cM.none
 case slc n x lo Q mx=>
  refine cM.bind _ λx=>cM.bind _ λlo=>cM.bind _ λQ=>cM.bind _ λmx=>?_;unfold qg;split;exact cM.none;exact cM.const _
 case yu x lo Q=>
  refine cM.bind _ λx=>cM.bind _ λlo=>cM.bind _ λQ=>?_;unfold H_;split;exact cM.const _;exact cM.none
 all_goals first
  |exact cM.bind _ λ_=>cM.const _
  |exact cM.bind _ λ_=>cM.bind _ λ_=>cM.const _
end
section
variable{n sz:Nat}{Z:List bg}{J:List br}{x:bg}
def ku{α β:Type}(f:α->Option β):List α->Option (List β)
 |[]=>a_ []
 |x::r=>match f x with
  |some y=>match ku f r with
   |some l=>a_ (y::l)
   |none=>bn
  |none=>bn
def zE{α β}{f}:∀{l:List α} {r:List β},ku f l=a_ r->r.length=l.length/\∀(i:Nat) x y,l[i]?=a_ x->r[i]?=a_ y->f x=a_ y
 |[],r,h=>by cases h;exact⟨rfl,λi x y I=>aG⟩
 |a::l,r,h=>by
  simp only[ku] at h;split at h;rename_i y hy;split at h;rename_i l' hl;cases h;obtain⟨Y,V⟩:=zE hl;refine⟨aMw,λi x z I hz=>?_⟩;cases i with
  |zero=>simp at I hz;subst I;subst hz;exact hy
  |succ i=>simp at I hz;exact V i x z I hz
  cases h;cases h
def uW(sz:Nat)(Z:List bg)(off:Nat):Nat->List bg
 |0=>[]
 |n+1=>.agg ((Z.drop off).take sz)::uW sz Z (off+sz) n
def ae_:∀{n off i},i<n->(uW sz Z off n)[i]?=a_ (.agg ((Z.drop (off+i*sz)).take sz))
 |n+1,off,0,_=>by simp[uW]
 |n+1,off,i+1,h=>by
  simp only[uW,uE];rw[ae_ aa,show off+sz+i*sz=off+(i+1)*sz by rw[uF];omega]
def Qw:∀{n off},(uW sz Z off n).length=n
 |0,off=>rfl
 |n+1,off=>by simp[uW,Qw]
def dx(J:List br):Nat->bg->Option bg
 |0,_=>bn
 |n+1,x=>match x with
  |.v x=>a_ (.v x)
  |.bq=>a_ .bq
  |.agg Z=>(ku (dx J n) Z).map .agg
  |.bQ Z=>(ku (dx J n) Z).map .bQ
  |.sl xs _=>(ku (dx J n) xs).map λys=>.sl ys .no
  |.fp Z off=>(ku (dx J n) Z).map λds=>.fp ds off
  |.eD t x=>(dx J n x).map (.eD t)
  |.fn f a b=>(ku (dx J n) a).bind λa=>(ku (dx J n) b).map λb=>.fn f a b
  |.mp k off=>match J[k]? with
   |some (.cells Z bf)=>(ku (dx J n) Z).map λds=>.fp ds off
   |_=>bn
  |.rp k m off=>match J[k]? with
   |some (.cells Z bh)=>if m=Z.length then(ku (dx J n) Z).map λds=>.fp ds off else bn
   |_=>bn
  |.rs k m sz off len=>match J[k]? with
   |some (.cells Z bh)=>if m=Z.length then(ku (dx J n) Z).map λds=>.sl (uW sz ds off len) .no else bn
   |_=>bn
  |_=>bn
def atG{y:bg}(h:dx J n x=a_ y)(I:∀Z,x≠.agg Z):y.cells=[y]:=by
 cases n with
 |zero=>cases h
 |succ n=>
  unfold dx at h;cases x<;>simp only at h
  case agg Z=>exact(I Z rfl).elim
  case v x=>cases h;rfl
  case bq=>cases h;rfl
  case mp k off=>split at h<;>first|cases h;done|(simp only[dF] at h;obtain⟨_,_,rfl⟩:=h;rfl)
  case rp k m off=>split at h<;>first|cases h;done|(split at h<;>first|cases h;done|(simp only[dF] at h;obtain⟨_,_,rfl⟩:=h;rfl))
  case rs k m sz off len=>split at h<;>first|cases h;done|(split at h<;>first|cases h;done|(simp only[dF] at h;obtain⟨_,_,rfl⟩:=h;rfl))
  case fn f a b=>
   simp only[gS,dF] at h;obtain⟨_,_,_,_,rfl⟩:=h;rfl
  all_goals first
   |(cases h;done)
   |(simp only[dF] at h;obtain⟨_,_,rfl⟩:=h;rfl)
def Ri{C bI}{M}{EF}(hC:∀b o v,C b o=a_ v->bI b o=a_ v)
  (hm:∀(k:Nat) Z row L,EF[k]?=a_ (.cells Z row)->M[k]?=a_ L->∀(i) c,Z[i]?=a_ c->∃c',bI L.b i=a_ c'/\bP C M J c c') (hz:∀(k:Nat) Z row,EF[k]?=a_ (.cells Z row)->J[k]?=a_ (.cells Z row)):
  ∀{n} {x r:bg} {v},dx EF n x=a_ r->bP C M J x v->bP bI [] [] r v:=by
 intro n
 induction n with
 |zero=>intro x r v h;cases h
 |succ n ih=>
  intro x r v h D;have amt:∀{Z ds} {f:Nat->Value},ku (dx EF n) Z=a_ ds->(∀(i) c,Z[i]?=a_ c->bP C M J c (f i))->∀(i) d,ds[i]?=a_ d->∃c,Z[i]?=a_ c/\bP bI [] [] d (f i):=by
   intro Z ds f Bi hR i d hd;obtain⟨e1,e2⟩:=zE Bi;have Q:i<Z.length:=by rw[<-e1];exact(cJ.1 hd).1
   exact⟨Z[i],cu Q,ih (e2 i _ _ (cu Q) hd) (hR i _ (cu Q))⟩
  have blk:∀{k:Nat} {Z ds} {row} {L},EF[k]?=a_ (.cells Z row)->M[k]?=a_ L->ku (dx EF n) Z=a_ ds->∀off,bP bI [] [] (.fp ds off) (.pointer (a_ ⟨L.b,off,bn⟩))/\∀(i) d,ds[i]?=a_ d->∃c',bI L.b i=a_ c'/\bP bI [] [] d c':=by
   intro k Z ds row L S hM Bi off;obtain⟨e1,e2⟩:=zE Bi;have key:∀(i) d,ds[i]?=a_ d->∃c',bI L.b i=a_ c'/\bP bI [] [] d c':=by
    intro i d hd;have Q:i<Z.length:=by rw[<-e1];exact(cJ.1 hd).1
    obtain⟨c',q1,bt⟩:=hm k Z row L S hM i Z[i] (cu Q);exact⟨c',q1,ih (e2 i _ _ (cu Q) hd) bt⟩
   refine⟨?_,key⟩;have:=bP.fp (C:=bI) (off:=off) (λi=>(bI L.b i).getD undef) (λi d hd=>by
    obtain⟨c',q1,_⟩:=key i d hd;rw[gA,q1];rfl) (λi d hd=>by
    obtain⟨c',q1,bt⟩:=key i d hd;rw[q1];exact bt)
   simpa using this
  unfold dx at h;cases D with
  |v bl=>simp only at h;cases h;exact .v bl
  |bq=>simp only at h;cases h;exact .bq
  |agg hl hh=>
   rename_i Z cs';simp only[dF] at h;obtain⟨ds,Y,rfl⟩:=h;obtain⟨e1,e2⟩:=zE Y;refine .agg aa λi a b ha O=>?_;have Q:i<Z.length:=by rw[<-e1];exact(cJ.1 ha).1
   exact ih (e2 i _ _ (cu Q) ha) (hh i _ b (cu Q) O)
  |bQ hl hh=>
   rename_i Z cs';simp only[dF] at h;obtain⟨ds,Y,rfl⟩:=h;obtain⟨e1,e2⟩:=zE Y;refine .bQ aa λi a b ha O=>?_;have Q:i<Z.length:=by rw[<-e1];exact(cJ.1 ha).1
   exact ih (e2 i _ _ (cu Q) ha) (hh i _ b (cu Q) O)
  |sl f gr dw GD hR hT iq=>
   rename_i xs t a cap sz;simp only[dF] at h;obtain⟨ys,Y,rfl⟩:=h;obtain⟨e1,e2⟩:=zE Y;have el:∀(i) y,ys[i]?=a_ y->∃x,xs[i]?=a_ x/\y.cells.length=x.cells.length/\∀(j) d,y.cells[j]?=a_ d->∃c,x.cells[j]?=a_ c/\bP bI [] [] d (f i j):=by
    intro i y hy;have Q:i<xs.length:=by rw[<-e1];exact(cJ.1 hy).1
    have I:=cu Q;have hf:=e2 i _ _ I hy;refine⟨xs[i],I,?_⟩;by_cases dY:∃Z,xs[i]=.agg Z;obtain⟨Z,jb⟩:=dY;rw[jb] at hf I⊢;cases n with
    |zero=>cases hf
    |succ n=>
     unfold dx at hf;simp only[dF] at hf;obtain⟨ds,q1,rfl⟩:=hf;obtain⟨g1,g2⟩:=zE q1;refine⟨g1,λj d hd=>?_⟩;have hj:j<Z.length:=by rw[<-g1];exact(cJ.1 hd).1
     refine⟨Z[j],cu hj,?_⟩;have:=g2 j _ _ (cu hj) hd;have up:dx EF (n+1) (.agg [Z[j]])=a_ (.agg [d]):=by
      unfold dx;simp[ku,this]
     have iL:bP C M J (.agg [Z[j]]) (.agg #[f i j]):=.agg rfl λi' a b ha O=>by
      cases i' with
      |zero=>simp at ha O;subst ha;subst O;exact hR i _ j _ I (cu hj)
      |succ i'=>simp at ha
     have:=ih up iL;cases this with
     |agg hl hh=>exact hh 0 d (f i j) rfl rfl
    have Yf:=λZ jb=>dY ⟨Z,jb⟩;have G7:(xs[i]).cells=[xs[i]]:=by
     cases Bq:xs[i] with
     |agg Z=>exact(Yf Z Bq).elim
     |_=>rfl
    rw[(atG hf Yf),G7];refine⟨rfl,λj d hd=>?_⟩;cases j with
    |zero=>
     simp at hd;subst hd;exact⟨xs[i],rfl,ih hf (hR i _ 0 _ I (by rw[G7];rfl))⟩
    |succ j=>simp at hd
   rw[<-e1];refine .sl (sz:=sz) f (λbR=>gr (by intro e;subst e;simp at e1;exact bR e1)) (λi y hy=>?_) (λi y j d hy hd=>?_) (λi y j d hy hd=>?_) trivial (by rw[e1];exact iq);obtain⟨x,I,q1,_⟩:=el i y hy;rw[q1];exact dw i x I;obtain⟨x,I,_,bt⟩:=el i y hy;obtain⟨c,T,_⟩:=bt j d hd;exact hC _ _ _ (GD i x j c I T);obtain⟨x,I,_,bt⟩:=el i y hy;obtain⟨c,T,iL⟩:=bt j d hd;exact iL
  |fp f GD hR=>
   simp only[dF] at h;obtain⟨ds,Y,rfl⟩:=h;refine .fp f (λi d hd=>?_) λi d hd=>?_;obtain⟨c,T,_⟩:=amt Y hR i d hd;exact hC _ _ _ (GD i c T);obtain⟨c,_,q⟩:=amt Y hR i d hd;exact q
  |eD I=>
   simp only[dF] at h;obtain⟨y,Y,rfl⟩:=h;exact .eD (ih Y I)
  |fn lf ga hf T=>
   rename_i f fs Z k8 cs';simp only[gS,dF] at h;obtain⟨a,Y,b,V,rfl⟩:=h;obtain⟨e1,e2⟩:=zE Y;obtain⟨g1,g2⟩:=zE V;refine .fn aa aa (λi x y I hy=>?_) λi x y I hy=>?_;have Q:i<fs.length:=by rw[<-e1];exact(cJ.1 I).1
   exact ih (e2 i _ _ (cu Q) I) (hf i _ y (cu Q) hy);have Q:i<Z.length:=by rw[<-g1];exact(cJ.1 I).1
   exact ih (g2 i _ _ (cu Q) I) (T i _ y (cu Q) hy)
  |mp O hM=>
   simp only at h;split at h;rename_i Z S;simp only[dF] at h;obtain⟨ds,Y,rfl⟩:=h;exact(blk S hM Y _).1;cases h
  |rp O hM hn ha=>
   simp only at h;split at h;rename_i Z S;split at h;rename_i Cv;simp only[dF] at h;obtain⟨ds,Y,rfl⟩:=h;have gi:=hz _ _ _ S;rw[O] at gi;cases gi;rw[ha Cv];exact(blk S hM Y _).1;cases h;cases h
  |rs O hM hn ga ha=>
   rename_i k nn sz off len cap L cs0 a;simp only at h;split at h;rename_i Z S;split at h;rename_i Cv;simp only[dF] at h;obtain⟨ds,Y,rfl⟩:=h;have gi:=hz _ _ _ S;rw[O] at gi;cases gi;obtain⟨a1,a2,a3,a4⟩:=ha Cv;rw[a1];obtain⟨_,p_⟩:=blk S hM Y 0;have aKj:=(zE Y).1;have hge:∀(i) x,(uW sz ds off len)[i]?=a_ x->i<len/\x=.agg ((ds.drop (off+i*sz)).take sz):=by
    intro i x I;have Q:i<len:=by have:=(cJ.1 I).1;rwa [Qw] at this
    rw[ae_ Q] at I;exact⟨Q,(oY I).symm⟩
   have lK:∀i,i<len->off+i*sz+sz<=ds.length:=by
    intro i Q;have:(i+1)*sz<=len*sz:=pW _ Q;rw[uF] at this;omega
   have tX:∀(i) x (j) c,(uW sz ds off len)[i]?=a_ x->x.cells[j]?=a_ c->ds[off+i*sz+j]?=a_ c:=by
    intro i x j c I T;obtain⟨Q,rfl⟩:=hge i x I;simp only[jU] at T;have hj:j<sz:=by have:=(cJ.1 T).1;simp at this;omega
    rwa [Dt hj,tC] at T
   have:=bP.sl (C:=bI) (t:=.no) (a:=⟨L.b,off,bn⟩) (sz:=sz) (λi j=>(bI L.b (off+i*sz+j)).getD undef) (λ_=>rfl) (λi x I=>by
    obtain⟨Q,rfl⟩:=hge i x I;have:=lK i Q;simp only[jU,qm,ql];omega) (λi x j c I T=>by
    obtain⟨c',q1,bt⟩:=p_ _ _ (tX i x j c I T);dsimp only;rw[q1];rfl) (λi x j c I T=>by
    obtain⟨c',q1,bt⟩:=p_ _ _ (tX i x j c I T);rw[q1];exact bt) trivial (by rw[Qw];exact ga)
   rwa [Qw] at this
   cases h;cases h
  |gE O hM=>cases h
  |gm O hM=>cases h
  |jo O hM=>cases h
  |iJ O hM=>cases h
def avI{r:bg}(h:dx [] n x=a_ r):lV x r:=λC M J v D=>Ri (λ_ _ _ q=>q) (λk Z row L S=>aNe) (λk Z row S=>aNe) h D
def W4{as bs}(h:ku (dx [] n) as=a_ bs):oA as bs:=by
 obtain⟨e1,e2⟩:=zE h;exact⟨e1.symm,λi a b ha O=>avI (e2 i a b ha O)⟩
def eA{G}{P}{f}{args}{bS:bg}(h:ct G P f args [] λr bl=>∃n,dx bl n r=a_ bS):cI G P f args bS:=
 ⟨h.1,λC w dn hg T D=>(h.2 w.heap.size ⟨w,C⟩ C [] w dn (ao5 hg T) D).mono λe w' ⟨bI,M',bl,r,v',⟨n,Ba⟩,he,bJ,dZ,iL⟩=>by
  refine⟨λb o=>match bI b o with
   |some v=>a_ v
   |none=>if w.heap.size<=b then w'.cell? ⟨b,o,bn⟩ else bn,v',he,λb o v q=>?_,λb o v q=>?_,λb o v q=>?_,dZ.below,?_,trivial⟩
  simp only[bJ.C b o v q];dsimp only at q;split at q;rename_i u hu;cases q
  rcases ei b w.heap.size with O|O
  exact bD (dZ.old b o v hu O);exact bG O;split at q;rename_i O;exact bG O;cases q;dsimp only at q;split at q;rename_i u hu;cases q;exact dZ.n7 b o v hu;split at q;exact q;cases q;refine Ri (λb o v q=>by simp only[q]) (λk Z row L S hM i c T=>?_) (λ_ _ _ q=>q) Ba iL;obtain⟨Y,V,h3,h4,h5,h6⟩:=dZ.cells k Z row L S hM;obtain⟨c',q1,bt⟩:=h3 i c T;refine⟨c',?_,bt⟩;simp only[h5 i];rw[if_pos Y];exact q1⟩
end
section
variable{α:Type}{k n:Nat}{x:bg}{v:Value}{J:List br}{f:FuncId}{args:List bg}
inductive mC(n:Nat):bg->Prop
 |v {x:Value}:mC n (.v x)
 |agg {Z:List bg} (h:∀(i:Nat) c,Z[i]?=a_ c->mC n c):mC n (.agg Z)
 |bQ {Z:List bg} (h:∀(i:Nat) c,Z[i]?=a_ c->mC n c):mC n (.bQ Z)
 |bq:mC n .bq
 |sl {xs:List bg} {t:o6} (ht:∀id,t=.tok id->id<n) (h:∀(i:Nat) x (j:Nat) c,xs[i]?=a_ x->x.cells[j]?=a_ c->mC n c):mC n (.sl xs t)
 |fp {Z:List bg} {off:Nat} (h:∀(i:Nat) c,Z[i]?=a_ c->mC n c):mC n (.fp Z off)
 |mp {k off:Nat} (h:k<n):mC n (.mp k off)
 |rp {k m off:Nat} (h:k<n):mC n (.rp k m off)
 |rs {k m sz off len:Nat} (h:k<n):mC n (.rs k m sz off len)
 |gE {k:Nat} (h:k<n):mC n (.gE k)
 |gP {ch:List PanicEntry}:mC n (.gP ch)
 |fn {f:Fn} {fs Z:List bg} (Y:∀(i:Nat) c,fs[i]?=a_ c->mC n c) (V:∀(i:Nat) c,Z[i]?=a_ c->mC n c):mC n (.fn f fs Z)
 |eD {t:TypeId} {x:bg} (h:mC n x):mC n (.eD t x)
 |gm {k:Nat} (h:k<n):mC n (.gm k)
 |jo {k:Nat} (h:k<n):mC n (.jo k)
 |iJ {k:Nat} {t:TypeId×Nat} (h:k<n):mC n (.iJ k t)
section
variable{G:Cells}{P:Program}{C:Cells}{M:List Loc}{J:List br}
def qz{l:List α}{x:α}(h:l[k]?=a_ x):k<l.length:=(cJ.1 h).1
def Q0{l:List bg}{a:Array α}(hl:l.length=a.size){i:Nat}{c:bg}(T:l[i]?=a_ c):∃b,a[i]?=a_ b:=⟨_,wW (by rw[<-hl];exact qz T)⟩
def bP.low(h:bP C M J x v):mC J.length x:=by
 induction h with
 |v h=>exact .v
 |agg hl h ih=>
  refine .agg λi c T=>?_;obtain⟨b,O⟩:=Q0 hl T;exact ih i c b T O
 |bQ hl h ih=>
  refine .bQ λi c T=>?_;obtain⟨b,O⟩:=Q0 hl T;exact ih i c b T O
 |bq=>exact .bq
 |sl f gr dw hC hR hT iq ih=>
  refine .sl (λid e=>?_) ih;subst e;obtain⟨n,s,ty,L,q1,_⟩:=hT;exact qz q1
 |fp f hC hR ih=>exact .fp ih
 |mp O hM=>exact .mp (qz O)
 |rp O hM hn ha=>exact .rp (qz O)
 |rs O hM hn ga ha=>exact .rs (qz O)
 |gE O hM=>exact .gE (qz O)
 |fn lf ga hf T Hg Hf=>
  refine .fn (λi c h=>?_) λi c h=>?_;obtain⟨b,O⟩:=Q0 lf h;exact Hg i c b h O;obtain⟨b,O⟩:=Q0 ga h;exact Hf i c b h O
 |eD h ih=>exact .eD ih
 |gm O hM=>exact .gm (qz O)
 |jo O hM=>exact .jo (qz O)
 |iJ O hM=>exact .iJ (qz O)
def lR{l:List α}(h:k<n):(l.take n)[k]?=l[k]? :=by
 rw[UM];simp[h]
def bP.aIb(h:bP C M J x v):mC n x->bP C (M.take n) (J.take n) x v:=by
 induction h with
 |v h=>intro _;exact .v h
 |agg hl h ih=>intro hL;cases hL with|agg q=>exact .agg hl λi a b ha O=>ih i a b ha O (q i a ha)
 |bQ hl h ih=>intro hL;cases hL with|bQ q=>exact .bQ hl λi a b ha O=>ih i a b ha O (q i a ha)
 |bq=>intro _;exact .bq
 |sl f gr dw hC hR hT iq ih=>
  intro hL;cases hL with
  |sl ht q=>
   refine .sl f gr dw hC (λi x j c I T=>ih i x j c I T (q i x j c I T)) ?_ iq;rename_i xs t a cap sz;cases t with
   |exact=>exact hT
   |no=>exact hT
   |tok id=>
    have hid:=ht id rfl;obtain⟨n',s,ty,L,q1,bt,bV⟩:=hT;exact⟨n',s,ty,L,by rw[lR hid];exact q1,by rw[lR hid];exact bt,bV⟩
 |fp f hC hR ih=>intro hL;cases hL with|fp q=>exact .fp f hC λi c T=>ih i c T (q i c T)
 |mp O hM=>intro hL;cases hL with|mp q=>exact .mp aLE aLA
 |rp O hM hn ha=>intro hL;cases hL with|rp q=>exact .rp aLE aLA hn ha
 |rs O hM hn ga ha=>intro hL;cases hL with|rs q=>exact .rs aLE aLA hn ga ha
 |gE O hM=>intro hL;cases hL with|gE q=>exact .gE aLE aLA
 |fn lf ga hf T Hg Hf=>intro hL;cases hL with|fn q1 bt=>exact .fn lf ga (λi a b ha O=>Hg i a b ha O (q1 i a ha)) λi a b ha O=>Hf i a b ha O (bt i a ha)
 |eD h ih=>intro hL;cases hL with|eD q=>exact .eD (ih q)
 |gm O hM=>intro hL;cases hL with|gm q=>exact .gm aLE aLA
 |jo O hM=>intro hL;cases hL with|jo q=>exact .jo aLE aLA
 |iJ O hM=>intro hL;cases hL with|iJ q=>exact .iJ aLE aLA
def oN(n:Nat)(J:List br):List br:=fk n (.tok 0 0 0)++J.drop n
def amF{Z}{r}(h:(oN n J)[k]?=a_ (.cells Z r)):n<=k/\J[k]?=a_ (.cells Z r):=by
 unfold oN at h
 rcases ei k n with q|q
 rw[fT an] at h;rw[List.getElem?_replicate] at h;split at h<;>simp at h;rw[fJ an] at h;simp only[List.length_replicate,tC] at h;exact⟨q,by rw[<-h];congr 1;omega⟩
def aDG(n)(J):oN n (J.map b9)=(oN n J).map b9:=by
 unfold oN;rw[gz,List.map_replicate,List.map_drop];rfl
def WK{b b'}(h:b9 b=b9 b'):(b'=b\/(∃st pd bW ps ok,b=.ck st pd bW ps ok)\/(∃c c',b=.obj (.deferred c)/\b'=.obj (.deferred c'))):=by
 cases b with
 |cells Z r=>cases b' with
  |cells cs' r'=>left;exact h.symm
  |obj o=>cases o<;>cases h
  |_=>cases h
 |tok n s e=>cases b' with
  |tok n' s' e'=>left;exact h.symm
  |obj o=>cases o<;>cases h
  |_=>cases h
 |eS es cD=>cases b' with
  |eS nh nJ=>left;exact h.symm
  |obj o=>cases o<;>cases h
  |_=>cases h
 |ck st pd bW ps ok=>right;left;exact⟨_,_,_,_,_,rfl⟩
 |obj o=>
  cases o with
  |deferred c=>cases b' with
   |obj o'=>cases o'<;>first|(right;right;exact⟨_,_,rfl,rfl⟩)|cases h
   |_=>cases h
  |_=>cases b' with
   |obj o'=>left;cases o'<;>first|exact h.symm|cases h
   |_=>cases h
def ct.afe{hi:bg->List br->Prop}(h:ct G P f args J λr bl=>(bl.map b9).take J.length=J.map b9/\gp J bl/\∃n bS,dx (oN J.length bl) n r=a_ bS/\hi bS (bl.take J.length)):
  ct G P f args J λr bl=>hi r bl:=by
 classical
 refine⟨h.1,λbase w0 C M w dn hs D=>(h.2 base w0 C M w dn hs D).mono ?_⟩;rintro e w' ⟨bI,M',bl,r,v',⟨R_,RS,n,bS,Ba,hq⟩,he,bJ,dZ,iL⟩;have hN:=bJ.length;have aJ6:=hs.fo
 let azZ:Nat->Prop:=λb=>∃(k:Nat) (L:Loc),J.length<=k/\M'[k]?=a_ L/\L.b=b
 let xe:Cells:=λb o=>match bI b o with
  |some v=>a_ v
  |none=>if azZ b then w'.cell? ⟨b,o,bn⟩ else bn
 have Eh:∀b o v,bI b o=a_ v->xe b o=a_ v:=λb o v q=>by simp only[xe,q]
 have Yb:∀{k:Nat} {b:br},J[k]?=a_ b->∃b',bl[k]?=a_ b'/\b9 b=b9 b':=λ{k b} O=>by
  have S:=qz O;have:((bl.map b9).take J.length)[k]?=(J.map b9)[k]? :=by rw[R_]
  rw[lR S,fD,fD,O] at this;cases hb':bl[k]? with
  |none=>rw[hb'] at this;cases this
  |some b'=>rw[hb'] at this;exact⟨b',rfl,by simpa using this.symm⟩
 have XK:∀{k:Nat} {Z} {fz:Bool},k<J.length->bl[k]?=a_ (.cells Z fz)->J[k]?=a_ (.cells Z fz):=λ{k Z fz} S hb'=>by
  obtain⟨b,O⟩:∃b,J[k]?=a_ b:=⟨_,cu S⟩;obtain⟨b2,Y,V⟩:=Yb O;rw[hb'] at Y;cases Y
  rcases WK V with q|⟨_,_,_,_,_,q⟩|⟨_,_,_,q⟩
  rw[O,q];rw[q] at V;cases V;cases q
 have Ju:∀{k:Nat},k<J.length->M'[k]?=M[k]? :=λ{k} S=>by
  obtain⟨b,O⟩:∃b,J[k]?=a_ b:=⟨_,cu S⟩;obtain⟨b2,Y,V⟩:=Yb O;cases b with
  |cells Z fz=>
   obtain⟨cs',q1,_,bV,_⟩:=bJ.cells k Z fz O;have:=XK S q1;rw[O] at this;cases this;exact bV λ_=>rfl
  |tok n s ty=>
   obtain⟨n',q1,_,bV,_⟩:=bJ.toks k n s ty O;rw[Y] at q1;cases q1
   rcases WK V with q|⟨_,_,_,_,_,q⟩|⟨_,_,q,_⟩
   cases q;exact bV rfl;cases q;cases q
  |obj o=>exact(bJ.gF k _ rfl O).2
  |eS es cD=>exact(bJ.gF k _ rfl O).2
  |ck st pd bW ps ok=>exact(bJ.gF k _ rfl O).2
 have M_:∀{k:Nat} {L:Loc} {o:Nat},k<J.length->M'[k]?=a_ L->bI L.b o=bn->xe L.b o=bn:=λ{k L o} S hM T=>by
  simp only[xe,T];rw[if_neg];rintro⟨k',L',Y,V,h3⟩;exact dZ.apart k' k L' L aa V hM h3
 have Sb:∀{x:bg} {v},mC J.length x->bP bI M' bl x v->bP xe (M'.take J.length) (bl.take J.length) x v:=λhl D=>by
  have Y:=D.aIb hl;exact Y.mono ⟨Eh,λk Z fz q=>⟨Z,q,λ_=>b_ _,λ_=>rfl,λq=>q⟩,λk n s ty q=>⟨n,q,b_ _,λ_=>rfl,λq=>q⟩,λk b O q=>⟨⟨b,q,br.like.refl b⟩,rfl⟩⟩
 have c6:∀{k:Nat} {b:br},(bl.take J.length)[k]?=a_ b->k<J.length/\bl[k]?=a_ b:=λ{k b} O=>by
  have S:k<J.length:=by have:=qz O;rw[qm] at this;omega
  rw[lR S] at O;exact⟨S,O⟩
 have M4:∀{k:Nat} {L:Loc},k<J.length->(M'.take J.length)[k]?=a_ L->M'[k]?=a_ L:=λ{k L} S O=>by
  rw[lR S] at O;exact O
 refine⟨xe,M'.take J.length,bl.take J.length,bS,v',hq,he,?_,?_,?_⟩;refine⟨λb o v q=>Eh _ _ _ (bJ.C b o v q),λk Z fz S=>?_,λk n s ty S=>?_,λk b O S=>?_⟩;have eP:=qz S;obtain⟨cs',q1,_⟩:=bJ.cells k Z fz S;have:=XK eP q1;rw[S] at this;cases this;exact⟨Z,aNC,λ_=>b_ _,λ_=>by rw[lR eP];exact Ju eP,λq=>by rw[lR eP,Ju eP];exact q⟩;have eP:=qz S;obtain⟨n',q1,bt,bV,fP⟩:=bJ.toks k n s ty S;exact⟨n',aNC,bt,λ_=>by rw[lR eP];exact Ju eP,λq=>by rw[lR eP,Ju eP];exact q⟩;have eP:=qz S;obtain⟨⟨b',q1,bt⟩,bV⟩:=bJ.gF k b O S;exact⟨⟨b',aNC,bt⟩,by rw[lR eP];exact bV⟩;refine⟨dZ.below,dZ.nW,λb o v q O=>?_,λb o v q=>Eh _ _ _ (dZ.rS b o v q),?_,λb o v q=>?_,λk Z fz L S hM=>?_,λk n s ty L S hM=>?_,λk k' L L' bR hM ez=>?_,λk b L O S hM=>?_⟩;simp only[xe] at q;split at q;rename_i u hu;cases q;exact dZ.old b o _ hu O;split at q;rename_i hn;obtain⟨k,L,Y,V,h3⟩:=hn;have:=(dZ.at V).2;omega;cases q;rw[qm,qm,dZ.fo];simp only[xe] at q;split at q;rename_i u hu;cases q;exact dZ.n7 b o _ hu;split at q;exact q;cases q;obtain⟨eP,gi⟩:=c6 S;have ez:=M4 eP hM;obtain⟨t1,t2,t3,t4,t5,t6,t7⟩:=dZ.cells k Z fz L gi ez;refine⟨t1,t2,λi c T=>?_,t4,λo=>M_ eP ez (t5 o),t6,t7⟩;obtain⟨c',q1,bt⟩:=t3 i c T;refine⟨c',q1,Sb ?_ bt⟩;rw[Ju eP] at ez;obtain⟨_,_,ek,_⟩:=hs.cells k Z fz L (XK eP gi) ez;obtain⟨c0,_,bV⟩:=ek i c T;exact bV.low;obtain⟨eP,gi⟩:=c6 S;have ez:=M4 eP hM;obtain⟨t1,t2,t3,t4,t5,t6⟩:=dZ.toks k n s ty L gi ez;exact⟨t1,t2,t3,λo ho=>M_ eP ez (t4 o ho),t5,t6⟩;have e1:k<J.length:=by have:=qz hM;rw[qm] at this;omega
 have e2:k'<J.length:=by have:=qz ez;rw[qm] at this;omega
 exact dZ.apart k k' L L' bR (M4 e1 hM) (M4 e2 ez);obtain⟨eP,gi⟩:=c6 S;have ez:=M4 eP hM;obtain⟨t1,o,t2,t3,t4⟩:=dZ.gF k b L O gi ez;refine⟨t1,o,t2,t3,?_⟩;obtain⟨b0,l9⟩:∃b,J[k]?=a_ b:=⟨_,cu eP⟩;obtain⟨b2,Y,V⟩:=Yb l9;rw[gi] at Y;cases Y;have Rx:M[k]?=a_ L:=by rw[<-Ju eP];exact ez
 cases b with
 |obj o'=>exact t4
 |eS es cD=>
  rcases WK V with q|⟨_,_,_,_,_,q⟩|⟨_,_,_,q⟩
  subst q;obtain⟨_,o0,_,_,au1,_,wq,MV⟩:=hs.gF k _ L rfl l9 Rx;obtain⟨fC,e1,e2,di⟩:=t4;refine⟨fC,e1,e2,λi a b ha O=>?_⟩;obtain⟨b1,iT⟩:∃b1,au1.toList[i]?=a_ b1:=⟨_,cu (by rw[<-wq];exact qz ha)⟩;obtain⟨u1,u2,_⟩:=MV i a b1 ha iT;obtain⟨v1,v2,v3⟩:=di i a b ha O;exact⟨Sb u1.low v1,Sb u2.low v2,v3⟩;rw[q] at V;cases V;cases q
 |ck st pd bW ps ok=>
  obtain⟨fn,tmps,assign,body,hr,e1,e2,di,eX⟩:=t4;refine⟨fn,tmps,assign,body,hr,e1,e2,di,λi a b ha O=>Sb ?_ (eX i a b ha O)⟩;cases b0 with
  |ck rA anO asW aE6 aEx=>
   obtain⟨fV,lP,q⟩:=RS k rA anO asW aE6 aEx l9;rw[gi] at q;cases q;obtain⟨_,o0,_,_,aJT,aH7,aJq,aJx,aJm,_,_,g3,g4⟩:=hs.gF k _ L rfl l9 Rx;obtain⟨b1,iT⟩:∃b1,aH7[i]?=a_ b1:=⟨_,wW (by rw[<-g3];exact qz ha)⟩;exact(g4 i a b1 ha iT).low
  |obj o=>cases o<;>cases V
  |_=>cases V
 |cells Z fz=>cases O
 |tok n s e=>cases O
 refine(Ri Eh (λk Z row L S hM i c T=>?_) (λk Z row S=>((amF S).2)) Ba iL).mono NL;obtain⟨gj,hk2⟩:=amF S;obtain⟨t1,t2,t3,t4,t5,_⟩:=dZ.cells k Z row L hk2 hM;obtain⟨c',q1,bt⟩:=t3 i c T;refine⟨c',?_,bt⟩;simp only[xe,t5 i];rw[if_pos ⟨k,L,gj,hM,rfl⟩];exact q1
def ct.close{bS:bg}(h:ct G P f args J λr bl=>(bl.map b9).take J.length=J.map b9/\gp J bl/\∃n,dx (oN J.length bl) n r=a_ bS):
  ct G P f args J λr bl=>r=bS/\bl.map b9=J.map b9/\gp J bl:=by
 refine ct.afe (cm h ?_);rintro r bl ⟨R_,RS,n,Ba⟩;refine⟨R_,RS,n,bS,Ba,rfl,?_,?_⟩;rw[Pt];exact R_;intro k st pd bW ps ok S;obtain⟨fV,lP,q⟩:=RS k st pd bW ps ok S;exact⟨fV,lP,by rw[lR (qz S)];exact q⟩
def ct.Wf{hi:bg->Prop}(h:ct G P f args J λr bl=>(∃l,bl=J++l)/\∃n bS,dx (oN J.length bl) n r=a_ bS/\hi bS):
  ct G P f args J λr bl=>hi r/\bl=J:=by
 refine ct.afe (cm h ?_);rintro r bl ⟨⟨l,rfl⟩,n,bS,hf,hq⟩;have e1:(J++l).take J.length=J:=UU rfl;exact⟨by rw[<-Pt,e1],Bu,n,bS,hf,hq,e1⟩
end
end
end Go.bM

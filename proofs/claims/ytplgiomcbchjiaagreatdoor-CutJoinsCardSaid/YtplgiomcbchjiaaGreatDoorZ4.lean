/- Part 4 of a proof. No condition. -/
import Derived.Test.YtplgiomcbchjiaaGreatDoorZ3
import Derived.RecoverIn
import Derived.HandedShaped
import Derived.Handed
import Derived.ProofKit
import Derived.OpenShut
set_option linter.unusedVariables false
set_option linter.unusedSimpArgs false
set_option linter.defProp false
open Array renaming getElem?_eq_getElem->wU,getElem?_eq_some_iff->zT,length_toList->aqZ,replicate->BL
open Bool renaming and_eq_true->fQ,false->bf,false_eq_true->kB,or_eq_true->Ft,true->bh
open Go.bM.bg renaming cells->jD,mp->cU,one->cu,v->cR
open Go.bM.cw renaming mono->cm
open Go.bM.iH renaming mono->g_
open Go.bM.jS renaming mono->vw
open Go.bM.xe renaming mono->acu
open Go.bM.dm renaming refl->oP
open Go.bM.sN renaming I6->Uu
open Go.Act renaming eval->Pa
open Go.Builtin renaming unsafeString_->acy
open Go.DataW renaming TrodAll->Uv,trod->Uw
open Go.Deferred renaming ofValue->Fw
open Go.Fence renaming wide->zW
open Go.IntKind renaming bits->K5,i64->cN,signed->K6,u64->Im,wrap->acF
open Go.OpenSpec renaming ofChange->acI
open Go.Region renaming wanted->acK
open Go.Sem renaming run_pure->mh
open Go.Value renaming okWide->Ph
open Go.World renaming cell?->FA,frozen?->Pj,shape?->K9
open List renaming all_cons->pK,all_eq_true->eJ,any_eq_true->Ir,append_nil->gV,drop_drop->z6,drop_zero->pL,eq_nil_of_length_eq_zero->oc,getElem?_append_left->fY,getElem?_append_right->gh,getElem?_cons_succ->yy,getElem?_drop->tE,getElem?_eq_getElem->cy,getElem?_eq_some_iff->cK,getElem?_map->e9,getElem?_set_ne->bE,getElem?_set_self->bT,getElem?_take->UI,getElem?_take_of_lt->Dn,getElem_of_mem->FC,length_append->ek,length_drop->z7,length_map->cS,length_nil->iG,length_take->z8,map_append->gC,map_cons->fc,map_set->yA,map_take->acT,mem_cons->fo,replicate->fB,take_append_drop->UO,take_left'->Pr
open Nat renaming add_zero->sx,le_refl->cc,lt_or_ge->er,mul_le_mul_right->qh,sub_zero->FG,succ_mul->uF,zero_add->gi,zero_le->gW
open Option renaming bind_eq_some_iff->gN,bind_some->mj,filter->UT,getD_some->w_,isSome_none->BW,map_eq_some_iff->dA,map_some->kf,none->bn,some->a_
open Option.some renaming inj->lI,injEq->nj
open Or renaming inl->bD,inr->bF
open Prod.mk renaming injEq->xb
namespace Go.bM
open Go.RowKit
section
variable{J:List br}{oL mG:TypeId}{je p1:String}{oq oW:Array Edge}{a:Act}{w:World}{hb:nt}{g:FuncId}{args:List bg}
structure asa where
 ntmps:Nat
 d0:Nat
 d1:Nat
 body:qQ
def aoh(o1 o2:Oper):Option (Nat×Nat):=match o1 with
 |{dst:=a_ d0,op:=.call {callee:=.builtin .recover,args:=⟨[]⟩,argTypes:=_},type:=_,pos:=_,after:=_,guard:=bn}=>match o2 with
  |{dst:=a_ d1,op:=.assign (.tmp t),type:=_,pos:=_,after:=_,guard:=bn}=>if t=d0 then a_ (d0,d1) else bn
  |_=>bn
 |_=>bn
def KM(P:Program)(hb:nt)(g:FuncId):Option asa:=match P.funcs[g]? with
 |some fn=>if fn.name== "runtime.NumGoroutine" then bn else match fn.results.toList with
  |[]=>match fn.body with
   |some (.seq (.region _ ⟨[o1,o2]⟩ bf) rest)=>match aoh o1 o2,slim P hb rest with
    |some (d0,d1),a_ sc=>if d0<fn.ntmps/\d1<fn.ntmps/\d0≠d1 then a_ ⟨fn.ntmps,d0,d1,sc⟩ else bn
    |_,_=>bn
   |_=>bn
  |_=>bn
 |none=>bn
def kW(G:Cells)(P:Program)(g:FuncId)(args:List bg)(J:List br)(x:Option Value)(K:List br->Prop):Prop:=
 Enters P g/\∀base w0 C M w dj,cx G base w0 C M J w->dH C M J args dj->
  CallsDIn zW 0 P g dj.toArray (match x with|none=>.returning|some v=>.panicking [{v:=v,recovered:=bf}]) w λe u' w'=>
   ∃bI M' bl v,K bl/\e=.returned v/\settle u'=.returning/\dm C M J bI M' bl/\cx G base w0 bI M' bl w'
def qE:Option bg->bg
 |none=>.v .nilIface
 |some x=>x
def l7:bg->Bool
 |.v x=>plain x
 |.agg Z=>Kp Z
 |_=>bf
where Kp:List bg->Bool
 |[]=>bh
 |x::r=>l7 x&&Kp r
mutual
theorem aom{C:Cells}{M:List Loc}{J:List br}:∀{x:bg} {v:Value},l7 x=bh->sN x=a_ v->bO C M J x v
 |.v x,v,h,T=>by
  simp only[sN,nj] at T;subst T;exact .v (by simpa[l7] using h)
 |.agg Z,v,h,T=>by
  simp only[sN,dA] at T;obtain⟨l,Y,rfl⟩:=T;have:=aon (C:=C) (M:=M) (J:=J) (by simpa[l7] using h) Y;exact .agg (by simpa using this.1) (λi a b ha O=>this.2 i a b ha aH)
 |.bQ _,_,h,_=>aI
 |.bp,_,h,_=>aI
 |.sl _ _,_,h,_=>aI
 |.fp _ _,_,h,_=>aI
 |.fx _ _ _,_,h,_=>aI
 |.mp _ _,_,h,_=>aI
 |.rp _ _ _,_,h,_=>aI
 |.rs _ _ _ _ _,_,h,_=>aI
 |.gJ _,_,h,_=>aI
 |.gw _,_,h,_=>aI
 |.fn _ _ _,_,h,_=>aI
 |.eE _ _,_,h,_=>aI
 |.gq _,_,h,_=>aI
 |.jq _,_,h,_=>aI
 |.iK _ _,_,h,_=>aI
theorem aon{C:Cells}{M:List Loc}{J:List br}:∀{xs:List bg} {vs:List Value},l7.Kp xs=bh->Uu xs=a_ vs->dH C M J xs vs
 |[],vs,_,T=>by
  simp only[Uu,nj] at T;subst T;exact⟨rfl,λi a b ha O=>by simp at ha⟩
 |x::r,vs,h,T=>by
  simp only[l7.Kp,fQ] at h;simp only[Uu] at T;split at T;rename_i a l Y V;cases T;have k1:=aom (C:=C) (M:=M) (J:=J) h.1 Y;have k2:=aon (C:=C) (M:=M) (J:=J) h.2 V;refine⟨by simp[k2.1],λi a b ha O=>?_⟩;cases i with
  |zero=>simp at ha O;subst ha;subst O;exact k1
  |succ i=>simp at ha O;exact k2.2 i a b ha O
  cases T
end
def x_:bg->Bool
 |.eE _ x=>l7 x
 |_=>bf
def aFL{C}{M}{x:bg}{v}(h:x_ x=bh)(T:rP x=a_ v):bO C M J x v:=by
 cases x with
 |eE t x=>
  simp only[rP,dA] at T;obtain⟨a,Y,rfl⟩:=T;exact .eE (aom (by simpa[x_] using h) Y)
 |_=>simp[x_] at h
section
variable{G:Cells}{P:Program}
def CW(d0:Nat)(zO:Array TypeId)(oL:TypeId)(je:String)(oq:Array Edge):Oper:={dst:=a_ d0,op:=.call {callee:=.builtin .recover,args:=⟨[]⟩,argTypes:=zO},type:=oL,pos:=je,after:=oq,guard:=bn}
def DL(d1 d0:Nat)(mG:TypeId)(p1:String)(oW:Array Edge):Oper:={dst:=a_ d1,op:=.assign (.tmp d0),type:=mG,pos:=p1,after:=oW,guard:=bn}
def aoi{hi}{d0 d1}{zO}{Z}(hd:d0<a.tmps.size){rv}{cs'}
  (D:(recoverD Z=bn/\rv=.nilIface/\cs'=Z)\/recoverD Z=a_ (rv,cs')) (hq:hi .normal ((a.put (a_ d0) rv).put (a_ d1) rv) cs' w):
  wpOpsSIn zW 0 P ⟨[CW d0 zO oL je oq,DL d1 d0 mG p1 oW]⟩ hi [0,1] a Z w:=by
 have e1:(execOp a.eval (CW d0 zO oL je oq)).run P w=.ok .recover w:=by
  simp[execOp,resolve,invoke,builtin,CW]
 have e2:∀QF,hi .normal ((a.put (a_ d0) rv).put (a_ d1) rv) QF w->wpOpsSIn zW 0 P ⟨[CW d0 zO oL je oq,DL d1 d0 mG p1 oW]⟩ hi [1] (a.put (a_ d0) rv) QF w:=by
  intro QF hq;have:(a.put (a_ d0) rv).eval (.tmp d0)=rv:=by simp[Pa,Act.put,hd]
  have di:(execOp (a.put (a_ d0) rv).eval (DL d1 d0 mG p1 oW)).run P w=.ok (.value rv) w:=by
   simp only[execOp,DL,mh,this]
  have eW:(⟨[CW d0 zO oL je oq,DL d1 d0 mG p1 oW]⟩:Array Oper)[1]?=a_ (DL d1 d0 mG p1 oW):=rfl;have nV:∀y,acK (DL d1 d0 mG p1 oW) y=bh:=λ_=>rfl;simp only[wpOpsSIn,eW,nV,if_true,di];exact⟨λ_ _=>trivial,hq⟩
 have eW:(⟨[CW d0 zO oL je oq,DL d1 d0 mG p1 oW]⟩:Array Oper)[0]?=a_ (CW d0 zO oL je oq):=rfl;have nV:∀y,acK (CW d0 zO oL je oq) y=bh:=λ_=>rfl;have y2:(CW d0 zO oL je oq).dst=a_ d0:=rfl
 rcases D with⟨Y,rfl,rfl⟩|Y
 unfold wpOpsSIn;simp only[eW,nV,if_true,e1,Y,y2];exact⟨λ_ _=>trivial,e2 _ hq⟩;unfold wpOpsSIn;simp only[eW,nV,if_true,e1,Y,y2];exact⟨λ_ _=>trivial,e2 _ hq⟩
def aGQ(v):settle (.panicking [{v:=v,recovered:=bh}])=.returning:=by rfl
def auL{d}(hg:KM P hb g=a_ d){x}{v}{K}
  (I:match x,v with|none,bn=>True|some x,a_ v=>x_ x=bh/\rP x=a_ v|_,_=>False)
  (h:j6 G P d.body (λe s=>(e=.normal\/e=.ret)/\K s.J) ⟨((vT args d.ntmps).set d.d0 (qE x)).set d.d1 (qE x),J⟩):kW G P g args J v K:=by
 unfold KM at hg;split at hg;rename_i fn ox;split at hg;cases hg;rename_i xP;split at hg;rename_i u_;split at hg;rename_i id o1 o2 rest O;split at hg;rename_i d0 d1 sc Ey G1;split at hg;rename_i cX;obtain⟨XO,y9,bP⟩:=cX;cases hg;have aiR:=Array.toList_inj.1 (by simpa using u_);refine⟨⟨fn,ox,by rw[O];rfl,by simpa using xP⟩,λbase w0 C M w dj hs D=>?_⟩;refine callsDIn_of_wpSIn ox O trivial λL3 Z hu=>?_;unfold aoh at Ey;split at Ey;rename_i aJ8 zO oL je oq;split at Ey;rename_i I7 t1 mG p1 oW;split at Ey;rename_i ht;subst ht;cases Ey;refine wpSIn_seq (wpSIn_region ?_);have key:∀(rv) (cs') (u'),bO C M J (qE x) rv->settle u'=.returning->cs'={L3 with mode:=u'}::Z->
   rest.wpSIn zW 0 P (bodyPostS P fn L3 Z λe u' w'=>∃bI M' bl v,K bl/\e=.returned v/\settle u'=.returning/\dm C M J bI M' bl/\cx G base w0 bI M' bl w')
    (({tmps:=dj.toArray++BL (fn.ntmps-dj.toArray.size) undef,defers:=[]}:Act).put (a_ d0) rv|>.put (a_ d1) rv) cs' w:=by
  intro rv cs' u' mC Cs RD;refine wpSIn_of_wpIn rfl ?_;have za:iQ G .plain bn base w0 C M ⟨((vT args fn.ntmps).set d0 (qE x)).set d1 (qE x),J⟩ (({tmps:=dj.toArray++BL (fn.ntmps-dj.toArray.size) undef,defers:=[]}:Act).put (a_ d0) rv|>.put (a_ d1) rv) w:=
   ⟨hs,Ce (Ce (Rf D _) mC (a_ d0)) mC (a_ d1),rfl,trivial⟩
  refine wpIn_mono (h rest hb G1 bn base w0 C M _ w za) λe a' w' ⟨bI,M',s',⟨he,hK⟩,bK,e5⟩=>?_;have hd:=e5.defers
  rcases he with rfl|rfl
  exact⟨hd,u',RD,.tuple #[],by simp[results,aiR],bI,M',s'.J,_,hK,rfl,Cs,bK,e5.kV⟩;exact⟨hd,u',RD,.tuple #[],by simp[results,aiR],bI,M',s'.J,_,hK,rfl,Cs,bK,e5.kV⟩
 have dF:d0<(dj.toArray++BL (fn.ntmps-dj.toArray.size) undef).size:=ah
 cases x with
 |none=>
  cases v with
  |some v=>exact I.elim
  |none=>
   have R7:=hu;have R2:recoverD (L3::Z)=bn:=by simp[recoverD,R7]
   have:=key .nilIface (L3::Z) .returning (.v rfl) rfl (by cases L3;cases R7;rfl);exact aoi dF (bD ⟨R2,rfl,rfl⟩) this
 |some x=>
  cases v with
  |none=>exact I.elim
  |some v=>
   have R7:=hu;have:=key v _ (.panicking [{v:=v,recovered:=bh}]) (aFL I.1 I.2) (aGQ v) rfl;exact aoi dF (bF (by simp[recoverD,R7])) this
 cases Ey;cases Ey;cases Ey;cases hg;cases hg;cases hg;cases hg;cases hg
structure ar_ where
 ntmps:Nat
 results:List jf
 head:qQ
 t:Nat
 g:FuncId
 caps:List dK
 body:qQ
def CI(t:Nat)(g:FuncId)(Z:Array Operand)(oL:TypeId)(je:String)(oq:Array Edge):Oper:={dst:=a_ t,op:=.makeFunc (.func g) ⟨[]⟩ Z,type:=oL,pos:=je,after:=oq,guard:=bn}
def B_(t:Nat)(yo:Array TypeId)(mG:TypeId)(p1:String)(oW:Array Edge):Oper:={dst:=bn,op:=.defer {callee:=.value (.tmp t),args:=⟨[]⟩,argTypes:=yo},type:=mG,pos:=p1,after:=oW,guard:=bn}
def afY(o1 o2:Oper):Option (Nat×FuncId×List dK):=match o1 with
 |{dst:=a_ t,op:=.makeFunc (.func g) ⟨[]⟩ Z,type:=_,pos:=_,after:=_,guard:=bn}=>match o2 with
  |{dst:=bn,op:=.defer {callee:=.value (.tmp t'),args:=⟨[]⟩,argTypes:=_},type:=_,pos:=_,after:=_,guard:=bn}=>if t'=t then(match uz Z.toList with|some l=>a_ (t,g,l)|none=>bn) else bn
  |_=>bn
 |_=>bn
def KK(P:Program)(hb:nt)(f:FuncId):Option ar_:=match P.funcs[f]? with
 |some fn=>if fn.name== "runtime.NumGoroutine" then bn else match fn.body with
  |some (.seq bR (.seq (.region _ ⟨[o1,o2]⟩ bf) rest))=>match afY o1 o2,slim P hb bR,slim P hb rest,E8 P fn.results.toList with
   |some (t,g,l),a_ h,a_ b,a_ rs=>if t<fn.ntmps then a_ ⟨fn.ntmps,rs,h,t,g,l,b⟩ else bn
   |_,_,_,_=>bn
  |_=>bn
 |none=>bn
def auO{hi}{t}{Z}{yo}(hd:t<a.tmps.size)
  (hq:hi .normal {(a.put (a_ t) (.func (.func g) #[] (Z.map a.eval))) with defers:={target:=.fn (.func g) (Z.map a.eval),args:= #[]}::a.defers} w):
  wpOpsIn (sB bn) 0 P ⟨[CI t g Z oL je oq,B_ t yo mG p1 oW]⟩ hi [0,1] a w:=by
 have e1:(execOp a.eval (CI t g Z oL je oq)).run P w=.ok (.value (.func (.func g) #[] (Z.map a.eval))) w:=by
  simp[execOp,CI,Instr.makeFunc]
 have e2:(execOp (a.put (a_ t) (.func (.func g) #[] (Z.map a.eval))).eval (B_ t yo mG p1 oW)).run P w=.ok (.defer {target:=.fn (.func g) (Z.map a.eval),args:= #[]}) w:=by
  have:(a.put (a_ t) (.func (.func g) #[] (Z.map a.eval))).eval (.tmp t)=.func (.func g) #[] (Z.map a.eval):=by simp[Pa,Act.put,hd]
  simp[execOp,B_,resolve,this,Fw]
 have nV:(⟨[CI t g Z oL je oq,B_ t yo mG p1 oW]⟩:Array Oper)[0]?=a_ (CI t g Z oL je oq):=rfl;have y2:(⟨[CI t g Z oL je oq,B_ t yo mG p1 oW]⟩:Array Oper)[1]?=a_ (B_ t yo mG p1 oW):=rfl;have L8:(CI t g Z oL je oq).dst=a_ t:=rfl;have auT:(B_ t yo mG p1 oW).dst=bn:=rfl;have s1:(CI t g Z oL je oq).semAt (sB bn).round a.eval=execOp a.eval (CI t g Z oL je oq):=rfl;have s2:(B_ t yo mG p1 oW).semAt (sB bn).round (a.put (a_ t) (.func (.func g) #[] (Z.map a.eval))).eval=execOp (a.put (a_ t) (.func (.func g) #[] (Z.map a.eval))).eval (B_ t yo mG p1 oW):=rfl;unfold wpOpsIn;simp only[nV,λ_=>rfl,if_true];refine⟨λ_ _=>trivial,?_⟩;rw[s1,e1];simp only[Oper.uponIn,L8];unfold wpOpsIn;simp only[y2,λ_=>rfl,if_true];refine⟨λ_ _=>trivial,?_⟩;rw[s2,e2];simp only[Oper.uponIn,auT];exact hq
def au1(G:Cells)(P:Program)(g:FuncId)(ks:List Nat)(rs:List jf)(K:bg->List br->Prop):Exit->eF->Prop
 |.normal,s=>kW G P g (ks.map λk=>.mp k 0) s.J bn λbl=>∃r,ur ⟨s.ts,bl⟩ rs=a_ r/\K r bl
 |.ret,s=>kW G P g (ks.map λk=>.mp k 0) s.J bn λbl=>∃r,ur ⟨s.ts,bl⟩ rs=a_ r/\K r bl
 |.panic ch,s=>∃v,ch=[{v:=v,recovered:=bf}]/\kW G P g (ks.map λk=>.mp k 0) s.J (a_ v) λbl=>∃r,ur ⟨s.ts,bl⟩ rs=a_ r/\K r bl
 |_,_=>False
def avD{f}{d}(hf:KK P hb f=a_ d){K}
  (h:j6 G P d.head (λe s=>e=.normal/\d.t<s.ts.length/\∃ks:List Nat,d.caps.map (ev s.ts)=ks.map (λk=>.mp k 0)/\
    lK G P (.sO d.g ks) d.body (au1 G P d.g ks d.results K) ⟨s.ts.set d.t (.fn (.func d.g) [] (ks.map λk=>.mp k 0)),s.J⟩) ⟨vT args d.ntmps,J⟩):cw G P f args J K:=by
 unfold KK at hf;split at hf;rename_i fn ox;split at hf;cases hf;rename_i xP;split at hf;rename_i bR id o1 o2 rest O;split at hf;rename_i t g l hd bd rs A5 hh axk zh;split at hf;rename_i cX;cases hf;unfold afY at A5;split at A5;rename_i t0 g0 cs0 oL je oq;split at A5;rename_i t1 yo mG p1 oW;split at A5;rename_i ht;subst ht;split at A5;rename_i l' hl;cases A5;refine⟨⟨fn,ox,by rw[O];rfl,by simpa using xP⟩,λbase w0 C M w dj hs D=>?_⟩;refine callsIn_wide.1 (callsIn_of_wp_defers (n:=0) ox O trivial ?_);have hf:iQ G .plain bn base w0 C M ⟨vT args fn.ntmps,J⟩ {tmps:=dj.toArray++BL (fn.ntmps-dj.toArray.size) undef,defers:=[]} w:=
  ⟨hs,Rf D _,rfl,trivial⟩
 refine wpIn_seq (wpIn_mono (h bR hb hh bn base w0 C M _ w hf) λe a1 w1 ⟨Py,Lt,s1,⟨he,G5,ks,ze,hT⟩,En,MT⟩=>?_);subst he;have ir:dH Py Lt s1.J (ks.map λk=>.mp k 0) (cs0.map a1.eval).toList:=by
  have:=yb MT.frame hl;rw[ze] at this;simpa using this
 have dF:t<a1.tmps.size:=by
  have:=MT.frame.1;simp only[aqZ] at this;have aK0:t<s1.ts.length:=G5;omega
 refine wpIn_seq (wpIn_region ?_);refine auO dF ?_;have XQ:iQ G (.sO g ks) bn base w0 Py Lt ⟨s1.ts.set t (.fn (.func g) [] (ks.map λk=>.mp k 0)),s1.J⟩ {(a1.put (a_ t) (.func (.func g) #[] (cs0.map a1.eval))) with defers:={target:=.fn (.func g) (cs0.map a1.eval),args:= #[]}::a1.defers} w1:=by
  refine⟨MT.kV,?_,⟨Py,cs0.map a1.eval,by rw[MT.defers],ir⟩,rfl⟩;exact Ce MT.frame (.fn rfl (by have:=ir.1;simpa using this) (λi x y I _=>aF) (λi x y I hy=>ir.2 i x y I (by simpa using hy))) (a_ t)
 refine wpIn_mono (hT rest hb axk bn base w0 Py Lt _ w1 XQ) λe a2 w2 ⟨Dr,M2,s2,hq,nC,XR⟩=>?_;obtain⟨FI,cap,GK,ah3⟩:=XR.defers;have fin:∀(x) (u),u=(match x with|none=>.returning|some v=>.panicking [{v:=v,recovered:=bf}])->
   kW G P g (ks.map λk=>.mp k 0) s2.J x (λbl=>∃r,ur ⟨s2.ts,bl⟩ rs=a_ r/\K r bl)->
   LeavesIn zW 0 P fn a2.tmps (λe w'=>∃bI M' bl r v',K r bl/\e=.returned v'/\dm C M J bI M' bl/\cx G base w0 bI M' bl w'/\bO bI M' bl r v') a2.defers u w2:=by
  intro x u hu jT;rw[GK];have axq:dH Dr M2 s2.J (ks.map λk=>.mp k 0) cap.toList:=by
   refine⟨ah3.1,λi a b ha O=>?_⟩;have:=ah3.2 i a b ha O;simp only[e9,dA] at ha;obtain⟨k,_,rfl⟩:=ha;cases this with
   |mp hb' eK=>exact .mp hb' eK
  refine leavesIn_cons (by rw[hu];cases x<;>simp) (λq=>av) (OF jT.1 _ _) (λ_ _=>trivial) ?_;rw[hu];have e0:(#[]:Array Value)++cap=cap.toList.toArray:=af
  rw[e0];refine CallsDIn.mono (jT.2 base w0 Dr M2 w2 cap.toList XR.kV axq) λe u' w' ⟨arR,arZ,xQ,v,⟨r,mC,hK⟩,he,Cs,Eo,xS⟩=>?_;subst he;simp only;rw[Cs];obtain⟨v',Cu,Bm⟩:=aa5 (dr:=.plain) (ro:=bn) (s':=⟨s2.ts,xQ⟩) (a':={tmps:=a2.tmps,defers:=[]}) zh ⟨xS,AQ Eo XR.frame,rfl,trivial⟩ mC;exact⟨v',Cu,arR,arZ,xQ,r,v',hK,rfl,En.trans (nC.trans Eo),xS,Bm⟩
 cases e with
 |normal=>exact fin bn .returning rfl hq
 |ret=>exact fin bn .returning rfl hq
 |panic ch=>
  obtain⟨v,rfl,jT⟩:=hq;exact fin (a_ v) _ rfl jT
 |_=>exact hq.elim
 cases A5;cases A5;cases A5;cases A5;cases hf;cases hf;cases hf;cases hf
end
end
section
variable{v:bg}{F K:bg->List br->Prop}{n:Nat}{args ts xs ys:List bg}{t:nR}{i:ja}{k:IntKind}{J l:List br}{b w:Bool}{a:Prop}{ops r:List dX}{α:Type}{d:Option Nat}{f g:FuncId}{ch:List PanicEntry}{G:Cells}{P:Program}{rs:List jf}{hb pu:nt}
section
variable{P:Program}{K:eF->Prop}{ts:List bg}{J:List br}{r:List dX}
def ab9(x:Option (bg×List br))(F:bg->List br->Prop):Prop:=∃v bl,x=a_ (v,bl)/\F v bl
def aqE{bl}:ab9 (a_ (v,bl)) F=F v bl:=by
 apply propext;constructor;rintro⟨v',jG,h,k⟩;cases h;exact k;intro k;exact⟨v,bl,rfl,k⟩
section
variable(k:IntKind)(a b:Int)
def adP:dR .add (.v (.int k a)) (.v (.int k b))=a_ (.v (.int k (k.wrap (a+b)))):=aLT
def adY:dR .sub (.v (.int k a)) (.v (.int k b))=a_ (.v (.int k (k.wrap (a-b)))):=aLT
def adW:dR .mul (.v (.int k a)) (.v (.int k b))=a_ (.v (.int k (k.wrap (a*b)))):=aLT
def adR:dR .eql (.v (.int k a)) (.v (.int k b))=a_ (.v (.bool (a==b))):=aLT
def adX:dR .neq (.v (.int k a)) (.v (.int k b))=a_ (.v (.bool (a !=b))):=aLT
def adV:dR .lss (.v (.int k a)) (.v (.int k b))=a_ (.v (.bool (decide (a<b)))):=aLT
def adU:dR .leq (.v (.int k a)) (.v (.int k b))=a_ (.v (.bool (decide (a<=b)))):=aLT
def adT:dR .gtr (.v (.int k a)) (.v (.int k b))=a_ (.v (.bool (decide (b<a)))):=aLT
def adS:dR .geq (.v (.int k a)) (.v (.int k b))=a_ (.v (.bool (decide (b<=a)))):=aLT
def Vv(h:b≠0):dR .quo (.v (.int k a)) (.v (.int k b))=a_ (.v (.int k (k.wrap (a.tdiv b)))):=aNZ
def Vw(h:b≠0):dR .rem (.v (.int k a)) (.v (.int k b))=a_ (.v (.int k (a.tmod b))):=aNZ
def asn(k')(h:¬b<0):dR .shl (.v (.int k a)) (.v (.int k' b))=a_ (.v (.int k (k.wrap (a*2^(min b.toNat k.bits))))):=aNZ
def aso(k')(h:¬b<0):dR .shr (.v (.int k a)) (.v (.int k' b))=a_ (.v (.int k (a.fdiv (2^(min b.toNat k.bits))))):=aNZ
def adQ:dR .and (.v (.int k a)) (.v (.int k b))=a_ (.v (xx k a b (· &&& ·))):=aLT
def asm:dR .or (.v (.int k a)) (.v (.int k b))=a_ (.v (xx k a b (· ||| ·))):=aLT
end
def Ao(x):e4 1 [.v x]=a_ (.sl [.v x] .exact):=aME
def lN{i:Nat}{x:bg}(h:xs[i]?=a_ x)(hn:x.cells.length=n):ct n (.sl xs t) (.v (.int k (i:Int)))=a_ (.fp x.cells 0):=by simp[ct,h,hn]
def FZ{bN}{off:Nat}{Z}{c:bg}(J)(h:fh bN n Z off=a_ c):bz J bN n (.fp Z off)=a_ c:=h
def ad0(a b):e4 1 [.v a,.v b]=a_ (.sl [.v a,.v b] .exact):=aME
def ad1(a b c):e4 1 [.v a,.v b,.v c]=a_ (.sl [.v a,.v b,.v c] .exact):=aME
def ad2(a b c d):e4 1 [.v a,.v b,.v c,.v d]=a_ (.sl [.v a,.v b,.v c,.v d] .exact):=aME
def ad3(a b c d e f g h):e4 1 [.v a,.v b,.v c,.v d,.v e,.v f,.v g,.v h]=a_ (.sl [.v a,.v b,.v c,.v d,.v e,.v f,.v g,.v h] .exact):=aME
def Ap(off o:Nat)(Z):lM off (.fp Z o)=a_ (.fp Z (o+off)):=rfl
def mP(off o k:Nat):lM off (.mp k o)=a_ (.mp k (o+off)):=rfl
def cD(v:bg)(xs:List bg):Prop:=v=.sl xs .no\/(v=.bp/\xs=[])
def cD.len{v:bg}{xs}(h:cD v xs):LJ v=a_ (.v (goInt xs.length)):=by
 rcases h with rfl|⟨rfl,rfl⟩<;>rfl
def cD.cB(h:cD v xs){i:Nat}{x:bg}(I:xs[i]?=a_ x)(hn:x.cells.length=n):ct n v (.v (.int k (i:Int)))=a_ (.fp x.cells 0):=by
 rcases h with rfl|⟨rfl,rfl⟩
 exact lN I hn;simp at I
def cD.ns(h:cD v xs):∀s,v≠.v (.string s):=by
 rcases h with rfl|⟨rfl,rfl⟩<;>(intro s e;cases e)
def cG(v:bg)(J:List br):Option (bg×List br):=match v with
 |.v (.string _)=>bn
 |x'=>(LJ x').map λr=>(r,J)
def cD.cG{v:bg}{xs:List bg}(h:cD v xs)(J:List br):cG v J=a_ (.v (goInt xs.length),J):=by
 rcases h with rfl|⟨rfl,rfl⟩<;>rfl
def pq(xs)(t)(J):cG (.sl xs t) J=a_ (.v (goInt xs.length),J):=rfl
section
variable(ts:List bg)(J:List br)
def IW(k o:Nat):vN (.mp k o)=a_ (.mp k o):=rfl
def aej(Z)(o:Nat):vN (.fp Z o)=a_ (.fp Z o):=rfl
end
def VA(k k')(n:Int):IS k (.v (.int k' n))=a_ (.v (.int k (k.wrap n))):=rfl
def Fm(n:Int):Im.wrap n=n % 18446744073709551616:=by simp[acF,K5,K6]
def aqO(n:Int):IntKind.u8.wrap n=n % 256:=by simp[acF,K5,K6]
def fq{n:Int}(h0: -9223372036854775808<=n)(Y:n<=9223372036854775807):cN.wrap n=n:=by
 simp[acF,K5,K6];split<;>omega
def de(J:List br)(v:bg)(xs:List bg)(n:Nat)(e:TypeId):Prop:=(v=.bp/\xs=[])\/∃id,v=.sl xs (.tok id)/\J[id]?=a_ (.tok xs.length n e)
structure ac4(J bl:List br)(v:bg):Prop where
 len:J.length<=bl.length
 cells:∀(k:Nat) Z fz,J[k]?=a_ (.cells Z fz)->bl[k]?=a_ (.cells Z fz)
 toks:∀(k:Nat) n s e,J[k]?=a_ (.tok n s e)->(∀xs,v≠.sl xs (.tok k))->bl[k]?=a_ (.tok n s e)
 gK:∀(k:Nat) b,b.isObj=bh->J[k]?=a_ b->bl[k]?=a_ b
def de.nil(J)(n:Nat)(e):de J .bp [] n e:=bD ⟨rfl,rfl⟩
def de.run{bW:Nat}{e}(hA:de J v xs n e)(I:cY n xs=bh)(hy:cY n ys=bh)(bP:ys≠[])(hn:0<n)(O:0<bW)
  (hfit:(xs.length+ys.length)*bW<=140737488355328) (k:∀v' bl,de bl v' (xs++ys) n e->ac4 J bl v->(∃id,v'=.sl (xs++ys) (.tok id))->F v' bl):ab9 (ei J n bW e v (.sl ys t)) F:=by
 rcases hA with⟨rfl,rfl⟩|⟨id,rfl,hid⟩
 refine⟨.sl ys (.tok J.length),J++[.tok ys.length n e],?_,?_⟩;simp only[iG,gi] at hfit;simp[ei,gR,iA,iq,bP,hy,hn,O,hfit];refine k _ _ (bF ⟨J.length,rfl,af⟩) ⟨af,λj Z fz h=>?_,λj n s e' h _=>?_,λj b _ h=>by rw[fY (cK.1 h).1];exact h⟩ ⟨_,rfl⟩;rw[fY (cK.1 h).1];exact h;rw[fY (cK.1 h).1];exact h;have hl:=(cK.1 hid).1;refine⟨.sl (xs++ys) (.tok id),J.set id (.tok (xs.length+ys.length) n e),?_,?_⟩;simp[ei,gR,iA,iq,bP,hy,hn,O,hfit,I,hid];refine k _ _ (bF ⟨id,rfl,by rw[bT hl,ek]⟩) ⟨af,λj Z fz h=>?_,λj n' s e' h aiC=>?_,λj b O h=>by rw[bE (by intro e;subst e;rw[hid] at h;cases h;cases O)];exact h⟩ ⟨_,rfl⟩;rw[bE];exact h;intro e;subst e;rw[hid] at h;cases h;rw[bE];exact h;intro e;subst e;exact aiC xs rfl
def de.at{id:Nat}{e}(h:de J (.sl xs (.tok id)) ys n e):J[id]?=a_ (.tok ys.length n e):=by
 rcases h with⟨h,_⟩|⟨n5,h,V⟩
 cases h;cases h;exact V
def bS{k:Nat}{b:br}(h:J[k]?=a_ b):(J++l)[k]?=a_ b:=by
 rw[fY (cK.1 h).1];exact h
def de.ext{e}(h:de J v xs n e):de (J++l) v xs n e:=
 h.imp id λ⟨id,q,h⟩=>⟨id,q,bS h⟩
def de.new{e}:de (J++[.tok xs.length n e]) (.sl xs (.tok J.length)) xs n e:=bF ⟨_,rfl,af⟩
end
abbrev dB:=List (Nat×bg)
variable{e:dB}
def gY:dB->Nat->Option bg
 |[],_=>bn
 |(j,v)::r,k=>if j=k then a_ v else gY r k
def DY(k:Nat)(o:Option bg)(e:dB):dB:=
 match o with
 |some v=>(k,v)::e
 |none=>e
def mR:List Nat->dB->dB
 |[],_=>[]
 |k::L,e=>DY k (gY e k) (mR L e)
def eu(e:dB):dK->Option bg
 |.t k=>gY e k
 |.c a=>a_ a
def nX(e:dB):List dK->Option (List bg)
 |[]=>a_ []
 |x::r=>(eu e x).bind λa=>(nX e r).map λl=>a::l
def y3(e:dB):Option dK->Option (Option bg)
 |none=>a_ bn
 |some x=>(eu e x).map a_
def D0(e:dB):List (Nat×Nat×dK)->Option (List (Nat×Nat×bg))
 |[]=>a_ []
 |(i,n,x)::r=>(eu e x).bind λa=>(D0 e r).map λl=>(i,n,a)::l
def r6(v:bg)(J:List br):Option (bg×List br):=match v with
 |.v (.string s)=>a_ (.v (goInt s.size),J)
 |_=>bn
def rz(n:Nat)(v:bg)(lo Q mx:Option bg)(J:List br):Option (bg×List br):=match v with
 |.v (.string _)=>bn
 |x'=>(mq n x' lo Q mx).map λr=>(r,J)
def H7(v:bg)(lo Q:Option bg)(J:List br):Option (bg×List br):=match v with
 |.v (.string s)=>(mq 0 (.v (.string s)) lo Q bn).map λr=>(r,J)
 |_=>bn
def Kn(c:bg)(x y:Option bg):Option bg:=match c with
 |.v (.bool b)=>if b then x else y
 |_=>bn
def Se(v:bg)(J:List br):Option (bg×List br):=match v with
 |.v (.string s)=>a_ (.gJ J.length,J++[.obj (.stringIter s 0)])
 |_=>bn
def cF(e:dB)(J:List br):sH->Option (bg×List br)
 |.mv x=>(eu e x).map λr=>(r,J)
 |.pick c a b=>(eu e c).bind λc=>(Kn c (eu e a) (eu e b)).map λr=>(r,J)
 |.alloc z=>a_ (.mp J.length 0,J++[.cells z bf])
 |.Aq t z=>a_ (.mp J.length 0,J++[.cells (.iK J.length t::z) bf])
 |.Av bW ty s x=>(eu e s).bind λs=>(eu e x).bind λx=>B2 J bW ty s x
 |.As bW ty s x=>(eu e s).bind λs=>(eu e x).bind λx=>FW J bW ty s x
 |.box x=>(eu e x).map λr=>(.mp J.length 0,J++[.cells r.cells bf])
 |.build z ps=>(D0 e ps).bind λl=>(dN z l).map λr=>(.agg r,J)
 |.Az n vs=>(nX e vs).bind λl=>(e4 n l).map λr=>(r,J)
 |.fT bN n x=>(eu e x).bind λx=>(bz J bN n x).map λr=>(r,J)
 |.st n p x=>(eu e p).bind λp=>(eu e x).bind λx=>(bL J n p x).map λbl=>(jL,bl)
 |.J9 x=>(eu e x).bind λx=>(vN x).map λr=>(r,J)
 |.bin op x y=>(eu e x).bind λx=>(eu e y).bind λy=>(dR op x y).map λr=>(r,J)
 |.Md neg x y=>(eu e x).bind λx=>(eu e y).bind λy=>(FY neg x y).map λr=>(r,J)
 |.Me K neg x y=>(eu e x).bind λx=>(eu e y).bind λy=>(kR K neg x y).map λr=>(r,J)
 |.I_ ks neg x y=>(eu e x).bind λx=>(eu e y).bind λy=>(pT ks neg x y).map λr=>(r,J)
 |.un op x=>(eu e x).bind λx=>(F2 op x).map λr=>(r,J)
 |.dy k x=>(eu e x).bind λx=>(IS k x).map λr=>(r,J)
 |.KE x=>(eu e x).bind λx=>(P9 x).map λr=>(r,J)
 |.IZ x=>(eu e x).bind λx=>(LF x).map λr=>(r,J)
 |.slc n x lo Q mx=>(eu e x).bind λx=>(y3 e lo).bind λlo=>(y3 e Q).bind λQ=>(y3 e mx).bind λmx=>rz n x lo Q mx J
 |.ye x lo Q=>(eu e x).bind λx=>(y3 e lo).bind λlo=>(y3 e Q).bind λQ=>H7 x lo Q J
 |.fa off x=>(eu e x).bind λx=>(lM off x).map λr=>(r,J)
 |.cB n x i=>(eu e x).bind λx=>(eu e i).bind λi=>(ct n x i).map λr=>(r,J)
 |.yQ len n x i=>(eu e x).bind λx=>(eu e i).bind λi=>(nu len n x i).map λr=>(r,J)
 |.Ra bN n off x=>(eu e x).bind λx=>(LI bN n off x).map λr=>(r,J)
 |.idx bN n len x i=>(eu e x).bind λx=>(eu e i).bind λi=>(DG bN n len x i).map λr=>(r,J)
 |.DR x i=>(eu e x).bind λx=>(eu e i).bind λi=>(xq x i).map λr=>(r,J)
 |.ext i x=>(eu e x).bind λx=>(pU i x).map λr=>(r,J)
 |.r6 x=>(eu e x).bind λx=>r6 x J
 |.len x=>(eu e x).bind λx=>cG x J
 |.app n bW ty s x=>(eu e s).bind λs=>(eu e x).bind λx=>ei J n bW ty s x
 |.Bs f a b=>(nX e a).bind λa=>(nX e b).map λb=>(.fn f a b,J)
 |.xz n vs=>(nX e vs).bind λl=>An J n l
 |.B4 n bW ty s x=>(eu e s).bind λs=>(eu e x).bind λx=>ql J n bW ty s x
 |.Bt n bW _ z l c=>(eu e l).bind λl=>(eu e c).bind λc=>DI J n bW z l c
 |.CK n bW ty z l c=>(eu e l).bind λl=>(eu e c).bind λc=>DJ J n bW ty z l c
 |.CH t x=>(eu e x).map λx=>(.eE t x,J)
 |.KP t z ok x=>(eu e x).bind λx=>(IX t z ok x).map λr=>(r,J)
 |.um mx xs=>(nX e xs).bind λl=>(qT mx l).map λr=>(r,J)
 |.iter x=>(eu e x).bind λx=>Se x J
 |.next x=>(eu e x).bind λx=>sK J x
 |.CJ=>a_ (.gq J.length,J++[.eT [] 0])
 |.ES x=>(eu e x).bind λx=>(DH J x).map λr=>(r,J)
 |.CD bN ks z ok m k=>(eu e m).bind λm=>(eu e k).bind λk=>(xu J bN ks z ok m k).map λr=>(r,J)
 |.x5 bN ks m k x=>(eu e m).bind λm=>(eu e k).bind λk=>(eu e x).bind λx=>(yS J bN ks m k x).map λbl=>(jL,bl)
 |.Br bN ks z m k=>(eu e m).bind λm=>(eu e k).bind λk=>IV J bN ks z m k
 |.DZ m st x=>(eu e m).bind λm=>(eu e st).bind λst=>(eu e x).bind λx=>(IU J m st x).map λbl=>(jL,bl)
def mM(n:Nat)(ts:List bg)(e:dB):Prop:=ts.length=n/\∀k v,gY e k=a_ v->ts[k]?=a_ v
def kj(h:mM n ts e){x:dK}{a:bg}(I:eu e x=a_ a):ev ts x=a:=by
 cases x with
 |t k=>
  have:=h.2 k a I;simp[ev,this]
 |c b=>cases I;rfl
def vU(h:mM n ts e):∀{xs} {dO},nX e xs=a_ dO->xs.map (ev ts)=dO
 |[],dO,I=>by cases I;rfl
 |x::r,dO,I=>by
  simp only[nX,gN,dA] at I;obtain⟨a,Y,l,V,rfl⟩:=I;rw[fc,kj h Y,vU h V]
def agv(h:mM n ts e):∀{xs} {dO},D0 e xs=a_ dO->xs.map (λp=>(p.1,p.2.1,ev ts p.2.2))=dO
 |[],dO,I=>by cases I;rfl
 |(i,n,x)::r,dO,I=>by
  simp only[D0,gN,dA] at I;obtain⟨a,Y,l,V,rfl⟩:=I;rw[fc,kj h Y,agv h V]
def Mi(h:mM n ts e){x}{a}(I:y3 e x=a_ a):x.map (ev ts)=a:=by
 cases x with
 |none=>cases I;rfl
 |some x=>
  simp only[y3,dA] at I;obtain⟨b,Y,rfl⟩:=I;rw[kf,kj h Y]
def aes(h:mM n ts e){o:sH}{r}(ho:cF e J o=a_ r):fH ts J o=a_ r:=by
 cases o
 case pick c a b=>
  simp only[cF,gN,dA] at ho;obtain⟨c',Y,v,V,rfl⟩:=ho;unfold Kn at V;split at V;rename_i b';simp only[fH,kj h Y];cases b' with
  |true=>simp only[if_true] at V⊢;rw[kj h V]
  |false=>simp only[kB,if_false] at V⊢;rw[kj h V]
  cases V
 case slc m x lo Q mx=>
  simp only[cF,gN] at ho;obtain⟨x',Y,zo,V,jV,h3,vb,h4,h5⟩:=ho;simp only[fH,kj h Y,Mi h V,Mi h h3,Mi h h4];exact h5
 case ye x lo Q=>
  simp only[cF,gN] at ho;obtain⟨x',Y,zo,V,jV,h3,h5⟩:=ho;simp only[fH,kj h Y,Mi h V,Mi h h3];exact h5
 case r6 x=>
  simp only[cF,gN] at ho;obtain⟨x',Y,h5⟩:=ho;simp only[fH,kj h Y];exact h5
 case len x=>
  simp only[cF,gN] at ho;obtain⟨x',Y,h5⟩:=ho;simp only[fH,kj h Y];exact h5
 case build z ps=>
  simp only[cF,gN] at ho;obtain⟨x',Y,h5⟩:=ho;simp only[fH,agv h Y];exact h5
 case Az z ps=>
  simp only[cF,gN] at ho;obtain⟨x',Y,h5⟩:=ho;simp only[fH,vU h Y];exact h5
 case xz z ps=>
  simp only[cF,gN] at ho;obtain⟨x',Y,h5⟩:=ho;simp only[fH,vU h Y];exact h5
 case um z ps=>
  simp only[cF,gN] at ho;obtain⟨x',Y,h5⟩:=ho;simp only[fH,vU h Y];exact h5
 case CJ=>exact ho
 case CH t x=>
  simp only[cF,dA] at ho;obtain⟨x',Y,rfl⟩:=ho;simp only[fH,kj h Y]
 case x5 bN ks m k x=>
  simp only[cF,gN] at ho;obtain⟨m',Y,k',V,x',h3,h5⟩:=ho;simp only[fH,kj h Y,kj h V,kj h h3];exact h5
 case DZ m k x=>
  simp only[cF,gN] at ho;obtain⟨m',Y,k',V,x',h3,h5⟩:=ho;simp only[fH,kj h Y,kj h V,kj h h3];exact h5
 case Bs f a b=>
  simp only[cF,gN,dA] at ho;obtain⟨x',Y,y',V,h5⟩:=ho;simp only[fH,vU h Y,vU h V];rw[h5]
 case alloc z=>exact ho
 case Aq t z=>exact ho
 case As bW ty s x=>
  simp only[cF,gN] at ho;obtain⟨x',Y,y',V,h5⟩:=ho;simp only[fH,kj h Y,kj h V];rw[h5]
 case Av bW ty s x=>
  simp only[cF,gN] at ho;obtain⟨x',Y,y',V,h5⟩:=ho;simp only[fH,kj h Y,kj h V];rw[h5]
 case mv x=>
  simp only[cF,dA] at ho;obtain⟨x',Y,rfl⟩:=ho;simp only[fH,kj h Y]
 case box x=>
  simp only[cF,dA] at ho;obtain⟨x',Y,rfl⟩:=ho;simp only[fH,kj h Y]
 all_goals first
  |(simp only[cF,gN] at ho
    obtain⟨x',Y,y',V,h5⟩:=ho;simp only[fH,kj h Y,kj h V];exact h5)
  |(simp only[cF,gN] at ho
    obtain⟨x',Y,h5⟩:=ho;simp only[fH,kj h Y];exact h5)
class Hid(α:Type) where
 v:α
variable{A B:Hid Prop}
def aim(a:α):(Hid.mk a).v=a:=rfl
def hJ{α:Type}(x:Option α)[F:Hid (α->Prop)]:Prop:=∃a,x=a_ a/\F.v a
def aqD{a:α}{F}:@hJ α (a_ a) F=F.v a:=by
 apply propext;constructor;rintro⟨b,h,k⟩;cases h;exact k;intro k;exact⟨a,rfl,k⟩
def tG(b:Bool)[A:Hid Prop][B:Hid Prop]:Prop:=(b=bh->A.v)/\(b=bf->B.v)
def Px:@tG bh A B=A.v:=by simp[tG]
def Pw:@tG bf A B=B.v:=by simp[tG]
def tG.mk(Y:b=bh->A.v)(V:b=bf->B.v):@tG b A B:=⟨Y,V⟩
def F6(v:bg)[A:Hid Prop][B:Hid Prop]:Prop:=match v with
 |.v (.bool b)=>@tG b A B
 |_=>False
def aeT:@F6 (.v (.bool b)) A B=@tG b A B:=rfl
def uW(w:Bool)(v:bg)[A:Hid Prop][B:Hid Prop]:Prop:=match v with
 |.v (.bool b)=>if w then@tG b A B else@tG b B A
 |.bQ []=>B.v
 |_=>False
def ahH:@uW bh (.v (.bool b)) A B=@tG b A B:=rfl
def ahF:@uW bf (.v (.bool b)) A B=@tG b B A:=rfl
def ahG:@uW w jL A B=B.v:=rfl
abbrev sF:=List PanicEntry->List br->Prop
variable{E E':sF}
def UY(G:Cells)(P:Program)(f:FuncId)(args:List bg)(J:List br)[F:Hid (bg->List br->Prop)]:Prop:=cw G P f args J F.v
def V7(G:Cells)(P:Program)(f:bg)(args:List bg)(J:List br)[F:Hid (bg->List br->Prop)]:Prop:=jS G P f args J F.v
def UZ(G:Cells)(P:Program)(f:FuncId)(args:List bg)(J:List br)[F:Hid (bg->List br->Prop)][E:Hid sF]:Prop:=iH G P f args J F.v E.v
def V8(G:Cells)(P:Program)(f:bg)(args:List bg)(J:List br)[F:Hid (bg->List br->Prop)][E:Hid sF]:Prop:=xe G P f args J F.v E.v
section
variable{G:Cells}{P:Program}{f:FuncId}{args fs Z:List bg}{J:List br}{F:Hid (bg->List br->Prop)}{E:Hid sF}
def ae9:@V7 G P (.fn (.func f) fs Z) args J F=@UY G P f (fs++args++Z) J F:=by simp[V7,jS,UY]
def ae_:@V8 G P (.fn (.func f) fs Z) args J F E=@UZ G P f (fs++args++Z) J F E:=by simp[V8,xe,UZ]
end
def aE0(G:Cells)(P:Program)(f:FuncId)(args:List bg)[F:Hid (bg->Prop)]:Prop:=∃bs r',oU args bs/\cV G P f bs r'/\F.v r'
def jO(G:Cells)(P:Program)(i:ja)[F:Hid (bg->List br->Prop)][E:Hid sF](e:dB)(J:List br):Prop:=match i with
 |.op o=>@hJ _ (cF e J o) ⟨λr=>F.v r.1 r.2⟩
 |.call f args=>@hJ _ (nX e args) ⟨λdO=>@UY G P f dO J F⟩
 |.mw x args=>@hJ _ (eu e x) ⟨λx=>@hJ _ (nX e args) ⟨λdO=>@V7 G P x dO J F⟩⟩
 |.n9 f args=>@hJ _ (nX e args) ⟨λdO=>@aE0 G P f dO ⟨λv=>F.v v J⟩⟩
 |.pE f args r=>@hJ _ (nX e args) ⟨λdO=>∃bs,oU dO bs/\cV G P f bs r/\F.v r J⟩
 |.qo f args=>@hJ _ (nX e args) ⟨λdO=>@UZ G P f dO J F E⟩
 |.qp x args=>@hJ _ (eu e x) ⟨λx=>@hJ _ (nX e args) ⟨λdO=>@V8 G P x dO J F E⟩⟩
 |.gw x=>@hJ _ ((eu e x).bind rP) ⟨λv=>E.v [{v:=v,recovered:=bf}] J⟩
def qD(d:Option Nat)(v:bg)(e:dB):dB:=match d with
 |some d=>(d,v)::e
 |none=>e
def kD(G:Cells)(P:Program)(l:List dX)[K:Hid (dB->List br->Prop)][E:Hid sF](e:dB)(J:List br):Prop:=match l with
 |[]=>K.v e J
 |⟨d,bn,i⟩::r=>@jO G P i ⟨λv bl=>@kD G P r K E (qD d v e) bl⟩ E e J
 |⟨d,a_ (k,w),i⟩::r=>@hJ _ (gY e k) ⟨λg=>@uW w g ⟨@jO G P i ⟨λv bl=>@kD G P r K E (qD d v e) bl⟩ E e J⟩ ⟨@kD G P r K E (qD d jL e) J⟩⟩
section
variable{G:Cells}{P:Program}{K:Hid (dB->List br->Prop)}{E:Hid sF}{e:dB}{J:List br}{d:Option Nat}{k:Nat}{i:ja}{r:List dX}
def FT:@kD G P [] K E e J=K.v e J:=by simp only[kD]
def IL:@kD G P (⟨d,bn,i⟩::r) K E e J=@jO G P i ⟨λv bl=>@kD G P r K E (qD d v e) bl⟩ E e J:=by simp only[kD]
def IK:@kD G P (⟨d,a_ (k,w),i⟩::r) K E e J=@hJ _ (gY e k) ⟨λg=>@uW w g ⟨@jO G P i ⟨λv bl=>@kD G P r K E (qD d v e) bl⟩ E e J⟩ ⟨@kD G P r K E (qD d jL e) J⟩⟩:=by simp only[kD]
end
def xC(n:Nat):List dX->Bool
 |[]=>bh
 |o::r=>(match o.dst with|some d=>decide (d<n)|none=>bh)&&xC n r
def agb{ρ}:∀{l},xC n (l.map (gz ρ))=xC n l
 |[]=>rfl
 |o::r=>by simp only[fc,xC,T7,agb]
def Jr(h:mM n ts e)(hd:(match d with|some d=>decide (d<n)|none=>bh)=bh):mM n (fG ts d v) (qD d v e):=by
 cases d with
 |none=>exact h
 |some d=>
  simp only[decide_eq_true_eq] at hd;refine⟨by simp[fG,h.1],λk w S=>?_⟩;simp only[qD,gY] at S;simp only[fG];split at S;rename_i e1;subst e1;cases S;exact bT (by rw[h.1];exact hd);rename_i e1;rw[bE e1];exact h.2 k w S
section
variable{G:Cells}{P:Program}
def azK{F}{E}{K}(h:mM n ts e)(Q:@jO G P i F E e J)(hF:∀v bl,F.v v bl->hY G E.v P r K ⟨fG ts d v,bl⟩):
  hY G E.v P (⟨d,bn,i⟩::r) K ⟨ts,J⟩:=by
 simp only[hY];unfold dY;rw[if_pos (by rfl)];cases i with
 |op o=>
  obtain⟨⟨v,bl⟩,Y,V⟩:=Q;simp only;rw[aes h Y];exact hF _ _ V
 |call f args=>
  obtain⟨dO,Y,V⟩:=Q;simp only;rw[vU h Y];exact cm V hF
 |mw x args=>
  obtain⟨x',h0,dO,Y,V⟩:=Q;dsimp only at V;simp only;rw[vU h Y,kj h h0];exact vw V hF
 |n9 f args=>
  obtain⟨dO,Y,bs,r',V,h3,h4⟩:=Q;simp only;rw[vU h Y];exact⟨bs,r',V,h3,hF _ _ h4⟩
 |pE f args r=>
  obtain⟨dO,Y,bs,V,h3,h4⟩:=Q;simp only;rw[vU h Y];exact⟨bs,V,h3,hF _ _ h4⟩
 |qo f args=>
  obtain⟨dO,Y,V⟩:=Q;simp only;rw[vU h Y];exact g_ V hF λ_ _ k=>k
 |qp x args=>
  obtain⟨x',h0,dO,Y,V⟩:=Q;dsimp only at V;simp only;rw[vU h Y,kj h h0];exact acu V hF λ_ _ k=>k
 |gw x=>
  obtain⟨v,Y,V⟩:=Q;simp only[gN] at Y;obtain⟨x',h3,h4⟩:=Y;simp only;rw[kj h h3,h4];exact V
def apz{g}{K}:
  (pW (a_ g) ts=bh->hY G E P (⟨d,bn,i⟩::r) K ⟨ts,J⟩)->(pW (a_ g) ts=bf->hY G E P r K ⟨fG ts d jL,J⟩)->hY G E P (⟨d,a_ g,i⟩::r) K ⟨ts,J⟩:=λY V=>by
 cases hw:pW (a_ g) ts with
 |true=>
  have:=Y hw;simp only[hY] at this⊢;unfold dY at this⊢;rw[if_pos (by rfl)] at this;simp only;rw[if_pos hw];exact this
 |false=>
  have:=V hw;simp only[hY];unfold dY;simp only;rw[if_neg (by rw[hw];simp)];exact this
def LA:∀{l} {K} {E} {K'} {e:dB} {J} {ts},xC n l=bh->mM n ts e->@kD G P l K E e J->(∀ts e J,mM n ts e->K.v e J->K' ⟨ts,J⟩)->hY G E.v P l K' ⟨ts,J⟩
 |[],K,E,K',e,J,ts,hd,h,D,S=>S _ _ _ h (by rw[FT] at D;exact D)
 |⟨d,g,i⟩::r,K,E,K',e,J,ts,hd,h,D,S=>by
  simp only[xC,fQ] at hd;obtain⟨y9,u0⟩:=hd;have tw:@jO G P i ⟨λv bl=>@kD G P r K E (qD d v e) bl⟩ E e J->hY G E.v P (⟨d,bn,i⟩::r) K' ⟨ts,J⟩:=λq=>
   azK h q λv bl k=>LA u0 (Jr h y9) k S
  have no:@kD G P r K E (qD d jL e) J->hY G E.v P r K' ⟨fG ts d jL,J⟩:=λk=>LA u0 (Jr h y9) k S
  rcases g with _|⟨k,w⟩
  rw[IL] at D;exact tw D;rw[IK] at D;obtain⟨g,Y,V⟩:=D;have gZ:=h.2 k _ Y;dsimp only at V;unfold uW at V;split at V;rename_i b;have hg:(b=w->@jO G P i ⟨λv bl=>@kD G P r K E (qD d v e) bl⟩ E e J)/\(b≠w->@kD G P r K E (qD d jL e) J):=by
   cases w with
   |true=>exact⟨λq=>V.1 q,λq=>V.2 ak⟩
   |false=>exact⟨λq=>V.2 q,λq=>V.1 ak⟩
  refine apz (λhw=>tw (hg.1 ?_)) λhw=>no (hg.2 ?_);simpa[pW,gZ] using hw;simpa[pW,gZ] using hw;exact apz (λhw=>by simp[pW,gZ] at hw) λ_=>no V;exact V.elim
end
def r9(c:dX)(e:dB)(J:List br):Prop:=match c.ins,c.dst with
 |.op o,a_ d=>match c.guard with
  |none=>@hJ _ (gY e d) ⟨λv=>@hJ _ (cF e J o) ⟨λr=>r.1=v⟩⟩
  |some (k,w)=>@hJ _ (gY e k) ⟨λg=>@uW w g ⟨@hJ _ (gY e d) ⟨λv=>@hJ _ (cF e J o) ⟨λr=>r.1=v⟩⟩⟩ ⟨@hJ _ (gY e d) ⟨λv=>v=jL⟩⟩⟩
 |_,_=>False
def qF(Z:List dX)(e:dB)(J:List br):Prop:=match Z with
 |[]=>True
 |c::r=>r9 c e J/\qF r e J
def uO(G:Cells)(P:Program)(l:List (dX×List dX))[K:Hid (dB->List br->Prop)][E:Hid sF](e:dB)(J:List br):Prop:=match l with
 |[]=>K.v e J
 |(o,Z)::r=>@kD G P [o] ⟨λe' bl=>qF Z e' bl/\@uO G P r K E e' bl⟩ E e J
section
variable{G:Cells}{P:Program}{K:Hid (dB->List br->Prop)}{E:Hid sF}{e:dB}{J:List br}{o:dX}{Z:List dX}{r:List (dX×List dX)}
def IM:@uO G P [] K E e J=K.v e J:=by simp only[uO]
def IN:@uO G P ((o,Z)::r) K E e J=@kD G P [o] ⟨λe' bl=>qF Z e' bl/\@uO G P r K E e' bl⟩ E e J:=by simp only[uO]
def aFI(h:mM n ts e){c}(T:r9 c e J):uN G P c ⟨ts,J⟩:=by
 obtain⟨d,g,i⟩:=c;unfold r9 at T;split at T;rename_i o dd Q hd;dsimp only at Q hd;subst Q hd;have tw:(pW g ts=bh)->@hJ _ (gY e dd) ⟨λv=>@hJ _ (cF e J o) ⟨λr=>r.1=v⟩⟩->uN G P ⟨a_ dd,g,.op o⟩ ⟨ts,J⟩:=by
  rintro hw ⟨v,Y,r,V,h3⟩;dsimp only at h3;refine⟨dd,v,rfl,h.2 _ _ Y,?_⟩;unfold nr;rw[if_pos hw];simp only;rw[aes h V,kf,h3]
 have no:(pW g ts=bf)->@hJ _ (gY e dd) ⟨λv=>v=jL⟩->uN G P ⟨a_ dd,g,.op o⟩ ⟨ts,J⟩:=by
  rintro hw ⟨v,Y,V⟩;dsimp only at V;refine⟨dd,v,rfl,h.2 _ _ Y,?_⟩;unfold nr;rw[if_neg (by rw[hw];simp)];exact V
 cases g with
 |none=>exact tw rfl T
 |some g=>
  obtain⟨k,w⟩:=g;obtain⟨g,Y,V⟩:=T;have gZ:=h.2 k _ Y;dsimp only at V;unfold uW at V;split at V;rename_i b;cases w with
  |true=>
   cases b with
   |true=>exact tw aNL (V.1 rfl)
   |false=>exact no aNL (V.2 rfl)
  |false=>
   cases b with
   |true=>exact no aNL (V.1 rfl)
   |false=>exact tw aNL (V.2 rfl)
  exact no aNL V;exact V.elim
 exact T.elim
def aoj(h:mM n ts e):∀{Z},qF Z e J->∀c∈Z,uN G P c ⟨ts,J⟩
 |[],_,c,T=>aNF
 |c::r,D,c',T=>by
  rcases fo.1 T with rfl|T
  exact aFI h D.1;exact aoj h D.2 c' T
def adC:∀{l} {K} {E} {K'} {e:dB} {J} {ts},xC n (l.map (·.1))=bh->mM n ts e->@uO G P l K E e J->(∀ts e J,mM n ts e->K.v e J->K' ⟨ts,J⟩)->kZ G E.v P l K' ⟨ts,J⟩
 |[],K,E,K',e,J,ts,hd,h,D,S=>S _ _ _ h (by rw[IM] at D;exact D)
 |(o,Z)::r,K,E,K',e,J,ts,hd,h,D,S=>by
  simp only[fc,xC,fQ] at hd;rw[IN] at D;have:=LA (K':=λs'=>(∀c∈Z,uN G P c s')/\kZ G E.v P r K' s') (by simp only[xC,fQ];exact⟨hd.1,trivial⟩) h D λts e J h' k=>⟨aoj h' k.1,adC hd.2 h' k.2 S⟩;exact this
end
inductive eS where
 |skip (L:List Nat)
 |region (ops:List dX) (L:List Nat)
 |seq (a b:eS)
 |cond (c:dK) (a b:eS)
 |block (id:Nat) (a:eS)
 |loop (a:eS)
 |exit (id:Nat) (L:List Nat)
 |ret (L:List Nat)
 |r8 (x:dK) (ps:List Nat) (a b:eS) (L:List Nat)
 |r_ (ls:List (List dX)) (L:List Nat)
 |ry (l:List (dX×List dX)) (L:List Nat)
 |scope (a:eS)
 |lab (L:List Nat)
 |bad
variable{c:eS}
def eS.b7:eS->qQ
 |.skip _=>.skip
 |.region ops _=>.region ops
 |.seq a b=>.seq a.b7 b.b7
 |.cond c a b=>.cond c a.b7 b.b7
 |.block id a=>.block id a.b7
 |.loop a=>.loop a.b7
 |.exit id _=>.exit id
 |.ret _=>.ret
 |.r8 x ps a b _=>.r8 x ps a.b7 b.b7
 |.r_ ls _=>.r_ ls
 |.ry l _=>.ry l
 |.scope a=>.scope a.b7
 |.lab _=>.lab
 |.bad=>.bad
def eS.pY(n:Nat):eS->Bool->Bool
 |.region ops _,_=>xC n ops
 |.r_ ls _,_=>ls.all (xC n)
 |.ry l _,_=>xC n (l.map (·.1))
 |.seq a b,m=>a.pY n m&&b.pY n m
 |.cond _ a b,m=>a.pY n m&&b.pY n m
 |.block _ a,m=>a.pY n m
 |.loop a,m=>a.pY n m
 |.scope a,m=>a.pY n m
 |.r8 _ ps a b _,m=>m&&(ps.all λp=>decide (p<n))&&a.pY n bf&&b.pY n bh
 |_,_=>bh
def eS.fits(n:Nat)(c:eS):Bool:=c.pY n bf
def tV(ops:List dX):dB->dB
 |[]=>[]
 |(k,v)::e=>if ops.any (λo=>o.dst==a_ k) then tV ops e else(k,v)::tV ops e
def Wv{k:Nat}:∀{e:dB} {v:bg},gY (tV ops e) k=a_ v->gY e k=a_ v/\∀bJ∈ops,bJ.dst≠a_ k
 |[],v,h=>aB
 |(j,w)::e,v,h=>by
  simp only[tV] at h;split at h;rename_i hj;obtain⟨Y,V⟩:=Wv h;refine⟨?_,V⟩;simp only[gY];split;rename_i M5;subst M5;rw[Ir] at hj;obtain⟨bJ,q1,bt⟩:=hj;exact(V bJ q1 aX).elim;exact Y;rename_i hj;simp only[gY] at h⊢;by_cases M5:j=k;rw[if_pos M5] at h⊢;subst M5;refine⟨h,λbJ jH q=>hj ?_⟩;rw[Ir];exact⟨bJ,jH,by simp[q]⟩;rw[if_neg M5] at h⊢;exact Wv h
def XE{m_}(h:mM n ts e)(ha:nN ops ts m_):mM n m_ (tV ops e):=by
 refine⟨ha.1.trans h.1,λk v S=>?_⟩;obtain⟨Y,V⟩:=Wv S;rw[ha.2 k V];exact h.2 k v Y
abbrev nQ:=Exit->dB->List br->Prop
def tj[next:Hid (dB->List br->Prop)][hi:Hid nQ]:nQ
 |.normal,e,J=>next.v e J
 |x,e,J=>hi.v x e J
def xy(id:Nat)[hi:Hid nQ]:nQ
 |.exit n5,e,J=>if n5=id then hi.v .normal e J else hi.v (.exit n5) e J
 |x,e,J=>hi.v x e J
def KH[hi:Hid nQ]:nQ
 |.goto _,_,_=>False
 |x,e,J=>hi.v x e J
section
variable{next:Hid (dB->List br->Prop)}{hi:Hid nQ}{e:dB}{J:List br}{id:Nat}
def ao6:@KH hi .normal e J=hi.v .normal e J:=rfl
def ao5:@KH hi (.exit id) e J=hi.v (.exit id) e J:=rfl
def ao8:@KH hi .ret e J=hi.v .ret e J:=rfl
def ao7:@KH hi (.panic ch) e J=hi.v (.panic ch) e J:=rfl
def aqe:@tj next hi .normal e J=next.v e J:=rfl
def aqd:@tj next hi (.exit id) e J=hi.v (.exit id) e J:=rfl
def aqg:@tj next hi .ret e J=hi.v .ret e J:=rfl
def aqf:@tj next hi (.panic ch) e J=hi.v (.panic ch) e J:=rfl
def aeM:@xy id hi (.panic ch) e J=hi.v (.panic ch) e J:=rfl
def aeL:@xy id hi .normal e J=hi.v .normal e J:=rfl
def aeN:@xy id hi .ret e J=hi.v .ret e J:=rfl
def aeO:@xy id hi (.exit id) e J=hi.v .normal e J:=by simp[xy]
def aeK{n5:Nat}(h:n5≠id):@xy id hi (.exit n5) e J=hi.v (.exit n5) e J:=by simp[xy,h]
end
def zj[hi:Hid nQ]:Option Code->dB->List br->Prop
 |none,e,J=>hi.v .normal e J
 |some .ret,e,J=>hi.v .ret e J
 |some (.exit id),e,J=>hi.v (.exit id) e J
 |_,_,_=>False
def aFY(k:Nat)(bU:List bg)(ps:Array Tmp)(ok:Code->Code->Prop)(K:bg->List br->Prop):nQ
 |.normal,_,J=>(∃st pd,J[k]?=a_ (.b8 st pd bU ps ok))/\K (.v (.bool bh)) (J.set k (.b8 .ready bn bU ps ok))
 |.ret,_,J=>(∃st pd,J[k]?=a_ (.b8 st pd bU ps ok))/\K (.v (.bool bf)) (J.set k (.b8 .done (a_ .ret) bU ps ok))
 |.exit id,_,J=>(∃st pd,J[k]?=a_ (.b8 st pd bU ps ok))/\K (.v (.bool bf)) (J.set k (.b8 .done (a_ (.exit id)) bU ps ok))
 |_,_,_=>False
def ux:dB->List (Nat×bg)->dB
 |e,[]=>e
 |e,(k,v)::r=>ux ((k,v)::e) r
def Vk(G:Cells)(P:Program)(k:Nat)(bU:List bg)(ps:List Nat)(ok:Code->Code->Prop)(wa:nQ->dB->List br->Prop)(wb:nQ->dB->List br->Prop)(e:dB):Prop:=
 ∀(args:List bg) (J:List br) (K:bg->List br->Prop),args.length=ps.length->(∃pd,J[k]?=a_ (.b8 .ready pd bU ps.toArray ok))->
  wa (@tj ⟨λe1 eL=>(∃pd,eL[k]?=a_ (.b8 .ready pd bU ps.toArray ok))/\∀pd,wb (aFY k bU ps.toArray ok K) e1 (eL.set k (.b8 .busy pd bU ps.toArray ok))⟩ ⟨λ_ _ _=>False⟩) (ux e (ps.zip args)) J->jS G P (.jq k) args J K
def marks(nest:Bool):List br:=if nest then [] else [.obj (.deferred (a_ []))]
def aog(G:Cells)(P:Program)(nest:Bool)(x:Option bg)(ps:List Nat)(L:List Nat)(wa:nQ->dB->List br->Prop)(wb:nQ->dB->List br->Prop)[hi:Hid nQ](e:dB)(J:List br):Prop:=
 ∃g fs Z,x=a_ (.fn (.func g) fs Z)/\∀k,k=(J++marks nest).length->∀bU ok,Vk G P k bU ps ok wa wb e->
  cw G P g (fs++[.jq k]++Z) (J++marks nest++[.b8 .ready bn bU ps.toArray ok])
   λr bl=>∃st pd,bl[k]?=a_ (.b8 st pd bU ps.toArray ok)/\st≠.busy/\zj pd (mR L e) (bl.set k (.b8 .exhausted pd bU ps.toArray ok))
def ey(G:Cells)(P:Program)(nest:Bool)(c:eS)[hi:Hid nQ](e:dB)(J:List br):Prop:=match c with
 |.skip L=>hi.v .normal (mR L e) J
 |.region ops L=>@kD G P ops ⟨λe' bl=>hi.v .normal (mR L e') bl⟩ ⟨λch bl=>hi.v (.panic ch) (tV ops e) bl⟩ e J
 |.r_ ls L=>∃ρ:Nat->bg,∀l∈ls,@kD G P (l.map (gz ρ)) ⟨λe' bl=>hi.v .normal (mR L e') bl⟩ ⟨λch bl=>hi.v (.panic ch) (tV ls.flatten e) bl⟩ e J
 |.ry l L=>@uO G P l ⟨λe' bl=>hi.v .normal (mR L e') bl⟩ ⟨λch bl=>hi.v (.panic ch) (tV (l.map (·.1)) e) bl⟩ e J
 |.seq a b=>@ey G P nest a ⟨@tj ⟨λe J=>@ey G P nest b hi e J⟩ hi⟩ e J
 |.cond c a b=>@hJ _ (eu e c) ⟨λc=>@F6 c ⟨@ey G P nest a hi e J⟩ ⟨@ey G P nest b hi e J⟩⟩
 |.block id a=>@ey G P nest a ⟨@xy id hi⟩ e J
 |.loop a=>∃(hx:Nat->dB->List br->Prop) (m:Nat),hx m e J/\∀m e J,hx m e J->@ey G P nest a ⟨@tj ⟨λe' bl=>∃m',m'<m/\hx m' e' bl⟩ hi⟩ e J
 |.exit id L=>hi.v (.exit id) (mR L e) J
 |.scope a=>@ey G P nest a ⟨@KH hi⟩ e J
 |.lab L=>hi.v .normal (mR L e) J
 |.bad=>False
 |.ret L=>hi.v .ret (mR L e) J
 |.r8 x ps a b L=>aog G P nest (eu e x) ps L (λhi e J=>@ey G P bh a ⟨hi⟩ e J) (λhi e J=>@ey G P bh b ⟨hi⟩ e J) e J
section
variable{G:Cells}{P:Program}{nest:Bool}{hi:Hid nQ}{e:dB}{J:List br}
def O5(L):@ey G P nest (.skip L) hi e J=hi.v .normal (mR L e) J:=aM
def O1(ops)(L):@ey G P nest (.region ops L) hi e J=@kD G P ops ⟨λe' bl=>hi.v .normal (mR L e') bl⟩ ⟨λch bl=>hi.v (.panic ch) (tV ops e) bl⟩ e J:=aM
def KZ(ls)(L):@ey G P nest (.r_ ls L) hi e J=∃ρ:Nat->bg,∀l∈ls,@kD G P (l.map (gz ρ)) ⟨λe' bl=>hi.v .normal (mR L e') bl⟩ ⟨λch bl=>hi.v (.panic ch) (tV ls.flatten e) bl⟩ e J:=aM
def Ib(a b:eS):@ey G P nest (.seq a b) hi e J=@ey G P nest a ⟨@tj ⟨λe J=>@ey G P nest b hi e J⟩ hi⟩ e J:=aM
def OW(c:dK)(a b:eS):@ey G P nest (.cond c a b) hi e J=@hJ _ (eu e c) ⟨λc=>@F6 c ⟨@ey G P nest a hi e J⟩ ⟨@ey G P nest b hi e J⟩⟩:=aM
def C9(id:Nat)(a:eS):@ey G P nest (.block id a) hi e J=@ey G P nest a ⟨@xy id hi⟩ e J:=aM
def OZ(a:eS):@ey G P nest (.loop a) hi e J=∃(hx:Nat->dB->List br->Prop) (m:Nat),hx m e J/\∀m e J,hx m e J->@ey G P nest a ⟨@tj ⟨λe' bl=>∃m',m'<m/\hx m' e' bl⟩ hi⟩ e J:=aM
def O2(l)(L):@ey G P nest (.ry l L) hi e J=@uO G P l ⟨λe' bl=>hi.v .normal (mR L e') bl⟩ ⟨λch bl=>hi.v (.panic ch) (tV (l.map (·.1)) e) bl⟩ e J:=aM
def O4(a:eS):@ey G P nest (.scope a) hi e J=@ey G P nest a ⟨@KH hi⟩ e J:=aM
def OY(L):@ey G P nest (.lab L) hi e J=hi.v .normal (mR L e) J:=aM
def OX(id:Nat)(L):@ey G P nest (.exit id L) hi e J=hi.v (.exit id) (mR L e) J:=aM
def O3(L):@ey G P nest (.ret L) hi e J=hi.v .ret (mR L e) J:=aM
def zR(x:dK)(ps)(a b:eS)(L):@ey G P nest (.r8 x ps a b L) hi e J=aog G P nest (eu e x) ps L (λhi e J=>@ey G P bh a ⟨hi⟩ e J) (λhi e J=>@ey G P bh b ⟨hi⟩ e J) e J:=aM
end
def apH(hE:∀ch J,E ch J->E' ch J){bJ}{K}{s:eF}(h:dY G E P bJ K s):dY G E' P bJ K s:=by
 unfold dY at h⊢;split at h;rename_i hw;rw[if_pos hw];split at h;exact h;exact h;exact h;exact h;exact h;exact g_ h (λ_ _ k=>k) hE;exact acu h (λ_ _ k=>k) hE;split at h;exact hE _ _ h;exact h;rename_i hw;rw[if_neg hw];exact h
def abp(hE:∀ch J,E ch J->E' ch J):∀{l} {K} {s:eF},hY G E P l K s->hY G E' P l K s
 |[],_,_,h=>h
 |_::_,_,_,h=>apH hE (dY.mono h λ_ k=>abp hE k)
def apy(hE:∀ch J,E ch J->E' ch J):∀{l} {K} {s:eF},kZ G E P l K s->kZ G E' P l K s
 |[],_,_,h=>h
 |(o,Z)::_,_,_,h=>apH hE (dY.mono h λ_ k=>⟨k.1,apy hE k.2⟩)
def A2(h:mM n ts e)(L):mM n ts (mR L e):=by
 refine⟨h.1,?_⟩
 induction L with
 |nil=>intro k v S;cases S
 |cons j L ih=>
  intro k v S;simp only[mR] at S;cases hj:gY e j with
  |none=>rw[hj] at S;exact ih k v S
  |some w=>
   rw[hj] at S;simp only[DY,gY] at S;split at S;rename_i e1;subst e1;cases S;exact h.2 j _ hj;exact ih k v S
def axi{ps:List Nat}:∀{ts} {e:dB} (_:mM n ts e) (_:(ps.all λp=>decide (p<n))=bh) (args),mM n (zF ts (ps.toArray.toList.zip args)) (ux e (ps.zip args)):=by
 induction ps with
 |nil=>intro ts e h _ args;simpa[zF,ux] using h
 |cons p r ih=>
  intro ts e h J args;simp only[pK,fQ] at J;cases args with
  |nil=>simpa[zF,ux] using h
  |cons v vs=>
   have:=ih (ts:=ts.set p v) (e:=(p,v)::e) (Jr (d:=a_ p) h J.1) J.2 vs;simpa[zF,ux] using this
def qN.nest:qN->Bool
 |.BC _=>bh
 |_=>bf
def qN.loops:qN->Bool
 |.plain|.sO _ _=>bf
 |_=>bh
def O0(hm:P.follows .mixedOrders=bh):∀{c:eS} {dr:qN} {nest} {hi} {Q'} {e:dB} {J} {ts},c.pY n dr.loops=bh->(dr.loops=bh->nest=dr.nest)->mM n ts e->@ey G P nest c hi e J->
  (∀x ts e J,mM n ts e->hi.v x e J->Q' x ⟨ts,J⟩)->lK G P dr c.b7 Q' ⟨ts,J⟩:=by
 intro c
 induction c with
 |skip L=>intro dr nest hi Q' e J ts hf h_ h hw S;rw[O5] at hw;exact j6.skip (S _ _ _ _ (A2 h L) hw)
 |exit id L=>intro dr nest hi Q' e J ts hf h_ h hw S;rw[OX] at hw;exact j6.exit (S _ _ _ _ (A2 h L) hw)
 |lab L=>intro dr nest hi Q' e J ts hf h_ h hw S;rw[OY] at hw;exact j6.lab (S _ _ _ _ (A2 h L) hw)
 |bad=>intro dr nest hi Q' e J ts hf h_ h hw S;unfold ey at hw;exact hw.elim
 |scope a j_=>
  intro dr nest hi Q' e J ts hf h_ h hw S;rw[O4] at hw;refine j6.scope (j_ hf h_ h hw λx m_ e' bl h' k=>?_);cases x with
  |goto l=>exact k.elim
  |_=>exact S _ _ _ _ h' k
 |ret L=>intro dr nest hi Q' e J ts hf h_ h hw S;rw[O3] at hw;exact j6.ret (S _ _ _ _ (A2 h L) hw)
 |region ops L=>
  intro dr nest hi Q' e J ts hf h_ h hw S;rw[O1] at hw;refine j6.region hm ?_;refine abp (λch J k ts dZ=>S _ _ _ _ (XE h dZ) k) ?_;exact LA hf h hw λm_ e' bl h' k=>S _ _ _ _ (A2 h' L) k
 |ry l L=>
  intro dr nest hi Q' e J ts hf h_ h hw S;rw[O2] at hw;refine j6.ry hm ?_;refine apy (λch J k ts dZ=>S _ _ _ _ (XE h dZ) k) ?_;exact adC hf h hw λm_ e' bl h' k=>S _ _ _ _ (A2 h' L) k
 |seq a b j_ uj=>
  intro dr nest hi Q' e J ts hf h_ h hw S;simp only[eS.pY,fQ] at hf;rw[Ib] at hw;refine j6.seq (j_ hf.1 h_ h hw λx m_ e' bl h' k=>?_);cases x with
  |normal=>exact uj hf.2 h_ h' k S
  |_=>exact S _ _ _ _ h' k
 |cond o a b j_ uj=>
  intro dr nest hi Q' e J ts hf h_ h hw S;simp only[eS.pY,fQ] at hf;rw[OW] at hw;obtain⟨v,Y,V⟩:=hw;dsimp only at V;unfold F6 at V;split at V;rename_i b';refine j6.cond (kj h Y) ?_;cases b' with
  |true=>exact j_ hf.1 h_ h (V.1 rfl) S
  |false=>exact uj hf.2 h_ h (V.2 rfl) S
  exact V.elim
 |block id a j_=>
  intro dr nest hi Q' e J ts hf h_ h hw S;rw[C9] at hw;refine j6.block (j_ hf h_ h hw λx m_ e' bl h' k=>?_);cases x with
  |exit n5=>
   simp only[xy] at k;simp only[YF];split;rename_i e1;rw[if_pos e1] at k;exact S _ _ _ _ h' k;rename_i e1;rw[if_neg e1] at k;exact S _ _ _ _ h' k
  |_=>exact S _ _ _ _ h' k
 |loop a j_=>
  intro dr nest hi Q' e J ts hf h_ h hw S;rw[OZ] at hw;obtain⟨hx,m,h0,D⟩:=hw;refine j6.aDs (λm s=>∃e,mM n s.ts e/\hx m e s.J) ⟨e,h,h0⟩ λm s ⟨e',h',hI⟩=>?_;refine j_ hf h_ h' (D m e' s.J hI) λx abR e2 jG V k=>?_;cases x with
  |normal=>
   obtain⟨m',cX,awX⟩:=k;exact⟨m',cX,e2,V,awX⟩
  |_=>exact S _ _ _ _ V k
 |r_ ls L=>
  intro dr nest hi Q' e J ts hf h_ h hw S;simp only[eS.pY,eJ] at hf;rw[KZ] at hw;obtain⟨ρ,hw⟩:=hw;refine j6.r_ hm ρ λl hl=>?_;refine abp (λch J k ts dZ=>S _ _ _ _ (XE h dZ) k) ?_;exact LA (by rw[agb];exact hf l hl) h (hw l hl) λm_ e' bl h' k=>S _ _ _ _ (A2 h' L) k
 |r8 x ps a b L j_ uj=>
  intro dr nest hi Q' e J ts hf h_ h hw S;simp only[eS.pY,fQ] at hf;obtain⟨⟨⟨p7,iU⟩,MU⟩,MV⟩:=hf;rw[zR] at hw;obtain⟨g,fs,Z,I,D⟩:=hw;have u5:∀{pd} {bl},@zj hi pd (mR L e) bl->YP Q' pd ⟨ts,bl⟩:=λ{pd bl} h3=>by
   cases pd with
   |none=>exact S _ _ _ _ (A2 h L) h3
   |some c=>
    cases c with
    |ret=>exact S _ _ _ _ (A2 h L) h3
    |exit id=>exact S _ _ _ _ (A2 h L) h3
    |_=>exact h3.elim
  have aiV:∀k,Vk G P k ts ps (lp P a.b7 b.b7) (λhi e J=>@ey G P bh a ⟨hi⟩ e J) (λhi e J=>@ey G P bh b ⟨hi⟩ e J) e:=λkk args bl K c7 ⟨pd,iT⟩ ay2=>by
   refine⟨⟨_,_,_,_,_,iT⟩,aJe iT aLU ?_⟩;refine j_ MU (λq=>av) (axi h iU args) ay2 λx yo e1 eL Y k=>?_;cases x with
   |normal=>
    obtain⟨k1,k2⟩:=k;refine⟨k1,λpd=>uj MV (λ_=>rfl) Y (k2 pd) λx abR e2 jG V k=>?_⟩;cases x with
    |normal=>exact k
    |ret=>exact k
    |exit id=>exact k
    |_=>exact k.elim
   |_=>exact k.elim
  cases dr with
  |plain=>cases p7
  |sO g ks=>cases p7
  |fn n0=>
   have:nest=bf:=h_ rfl;subst this;have kr:=D (J.length+1) (by simp[marks]) ts (lp P a.b7 b.b7) (aiV _);simp only[marks,kB,if_false] at kr;exact j6.range (kj h I) (cm kr λr bl ⟨st,pd,Y,V,h3⟩=>⟨st,pd,Y,V,u5 h3⟩)
  |BC k=>
   have:nest=bh:=h_ rfl;subst this;have kr:=D J.length (by simp[marks]) ts (lp P a.b7 b.b7) (aiV _);simp only[marks,if_true,gV] at kr;exact j6.aFy (kj h I) (cm kr λr bl ⟨st,pd,Y,V,h3⟩=>⟨st,pd,Y,V,u5 h3⟩)
def By(e:dB)(J:List br):jf->Option bg
 |.s t=>gY e t
 |.c t bN n=>(gY e t).bind λp=>bz J bN n p
def uu(e:dB)(J:List br):List jf->Option (List bg)
 |[]=>a_ []
 |x::r=>(By e J x).bind λa=>(uu e J r).map λl=>a::l
def lg(e:dB)(J:List br)(rs:List jf):Option bg:=(uu e J rs).map λl=>match l with
 |[x]=>x
 |l=>.bQ l
def Kw(rs:List jf)[K:Hid (bg->List br->Prop)][E:Hid sF]:nQ
 |.normal,e,J=>@hJ _ (lg e J rs) ⟨λr=>K.v r J⟩
 |.ret,e,J=>@hJ _ (lg e J rs) ⟨λr=>K.v r J⟩
 |.panic ch,_,J=>E.v ch J
 |_,_,_=>False
section
variable{rs:List jf}{K:Hid (bg->List br->Prop)}{E:Hid sF}{e:dB}{J:List br}
def aov:@Kw rs K E .normal e J=@hJ _ (lg e J rs) ⟨λr=>K.v r J⟩:=rfl
def aox:@Kw rs K E .ret e J=@hJ _ (lg e J rs) ⟨λr=>K.v r J⟩:=rfl
def aow:@Kw rs K E (.panic ch) e J=E.v ch J:=rfl
end
def pV:Nat->List bg->dB
 |_,[]=>[]
 |i,a::r=>(i,a)::pV (i+1) r
def aeq:∀{l} {i k:Nat} {v:bg},gY (pV i l) k=a_ v->i<=k/\l[k-i]?=a_ v
 |[],i,k,v,h=>aB
 |a::r,i,k,v,h=>by
  simp only[pV,gY] at h;split at h;rename_i e;subst e;cases h;exact⟨cc _,af⟩;rename_i e;obtain⟨Y,V⟩:=aeq h;refine⟨aa,?_⟩;rw[show k-i=(k-(i+1))+1 by omega,yy];exact V
def Ry(h:args.length<=n):mM n (vT args n) (pV 0 args):=by
 refine⟨by simp[vT];omega,λk v S=>?_⟩;obtain⟨_,V⟩:=aeq S;rw[FG] at V;unfold vT;rw[fY (cK.1 V).1];exact V
def OA(h:mM n ts e){r:bg}(D:lg e J rs=a_ r):ur ⟨ts,J⟩ rs=a_ r:=by
 have key:∀{rs} {l},uu e J rs=a_ l->HR ⟨ts,J⟩ rs=a_ l:=by
  intro rs
  induction rs with
  |nil=>intro l hl;cases hl;rfl
  |cons x r ih=>
   intro l hl;simp only[uu,gN,dA] at hl;obtain⟨a,Y,l',V,rfl⟩:=hl;have I:Oz ⟨ts,J⟩ x=a_ a:=by
    cases x with
    |s t=>simp only[Oz,h.2 _ _ Y,w_]
    |c t bN m=>
     simp only[By,gN] at Y;obtain⟨p,q1,bt⟩:=Y;simp only[Oz,h.2 _ _ q1,w_,bt]
   simp only[HR,I,ih V]
 simp only[lg,dA] at D;obtain⟨l,Y,V⟩:=D;unfold ur;rw[key Y];split at V;subst V;rfl;rename_i bP;subst V;split;rename_i e1;cases e1;exact(bP _ rfl).elim;rename_i e1;cases e1;rfl;rename_i e1;cases e1
def agY(hm:P.follows .mixedOrders=bh)(F:th P pu f=a_ ⟨n,rs,c.b7⟩)(hf:c.fits n=bh)(hn:args.length<=n)
  (h:@ey G P bf c ⟨@Kw rs ⟨K⟩ ⟨E⟩⟩ (pV 0 args) J):iH G P f args J K E:=by
 refine avE F (O0 hm hf (λq=>av) (Ry hn) h λx ts e bl h' k=>?_);cases x with
 |normal=>
  obtain⟨r,Y,V⟩:=k;exact⟨r,OA h' Y,V⟩
 |ret=>
  obtain⟨r,Y,V⟩:=k;exact⟨r,OA h' Y,V⟩
 |panic ch=>exact k
 |_=>exact k.elim
def Tp(n0:Nat)(rs:List jf)[K:Hid (bg->List br->Prop)][E:Hid sF]:nQ
 |.normal,e,J=>∀bl,og n0 J bl->@hJ _ (lg e bl rs) ⟨λr=>K.v r bl⟩
 |.ret,e,J=>∀bl,og n0 J bl->@hJ _ (lg e bl rs) ⟨λr=>K.v r bl⟩
 |.panic ch,_,J=>∀bl,og n0 J bl->E.v ch bl
 |_,_,_=>False
section
variable{n0:Nat}{rs:List jf}{K:Hid (bg->List br->Prop)}{E:Hid sF}{e:dB}{J:List br}
def aaY:@Tp n0 rs K E .normal e J=∀bl,og n0 J bl->@hJ _ (lg e bl rs) ⟨λr=>K.v r bl⟩:=rfl
def BB:@Tp n0 rs K E .ret e J=∀bl,og n0 J bl->@hJ _ (lg e bl rs) ⟨λr=>K.v r bl⟩:=rfl
end
def agZ(hm:P.follows .mixedOrders=bh)(F:th P pu f=a_ ⟨n,rs,c.b7⟩)(hf:c.pY n bh=bh)(hn:args.length<=n)
  (h:@ey G P bf c ⟨@Tp J.length rs ⟨K⟩ ⟨E⟩⟩ (pV 0 args) J):iH G P f args J K E:=by
 refine avF F (O0 hm hf (λ_=>rfl) (Ry hn) h λx ts e bl h' k=>?_);cases x with
 |normal=>
  refine λjG he=>?_;obtain⟨r,Y,V⟩:=k jG he;exact⟨r,OA h' Y,V⟩
 |ret=>
  refine λjG he=>?_;obtain⟨r,Y,V⟩:=k jG he;exact⟨r,OA h' Y,V⟩
 |panic ch=>exact k
 |_=>exact k.elim
def aoy[K:Hid (List br->Prop)]:nQ
 |.normal,_,J=>K.v J
 |.ret,_,J=>K.v J
 |_,_,_=>False
section
variable{K:Hid (List br->Prop)}{e:dB}{J:List br}
end
def afX(hm:P.follows .mixedOrders=bh){d0 d1:Nat}(F:KM P hb g=a_ ⟨n,d0,d1,c.b7⟩)(hf:c.fits n=bh)(hd:d0<n/\d1<n)(hn:args.length<=n){x}{v}{K}
  (I:match x,v with|none,bn=>True|some x,a_ v=>x_ x=bh/\rP x=a_ v|_,_=>False)
  (h:@ey G P bf c ⟨@aoy ⟨K⟩⟩ ((d1,qE x)::(d0,qE x)::pV 0 args) J):kW G P g args J v K:=by
 refine auL F I (O0 hm hf (λq=>av) ?_ h λx ts e bl h' k=>?_);have:=Jr (d:=a_ d1) (v:=qE x) (Jr (d:=a_ d0) (v:=qE x) (Ry hn) (by simpa using hd.1)) (by simpa using hd.2);exact this;cases x with
 |normal=>exact⟨bD rfl,k⟩
 |ret=>exact⟨bF rfl,k⟩
 |_=>exact k.elim
def kW.mono{x}{K K'}(h:kW G P g args J x K)(S:∀J,K J->K' J):kW G P g args J x K':=
 ⟨h.1,λbase w0 C M w dj hs D=>CallsDIn.mono (h.2 base w0 C M w dj hs D) λe u' w' ⟨bI,M',bl,v,k,rest⟩=>⟨bI,M',bl,v,S _ k,rest⟩⟩
def aou(G:Cells)(P:Program)(g:FuncId)(ks:List Nat)(rs:List jf)[K:Hid (bg->List br->Prop)]:nQ
 |.normal,e,J=>kW G P g (ks.map λk=>.mp k 0) J bn λbl=>@hJ _ (lg e bl rs) ⟨λr=>K.v r bl⟩
 |.ret,e,J=>kW G P g (ks.map λk=>.mp k 0) J bn λbl=>@hJ _ (lg e bl rs) ⟨λr=>K.v r bl⟩
 |.panic ch,e,J=>∃v,ch=[{v:=v,recovered:=bf}]/\kW G P g (ks.map λk=>.mp k 0) J (a_ v) λbl=>@hJ _ (lg e bl rs) ⟨λr=>K.v r bl⟩
 |_,_,_=>False
def agX(hm:P.follows .mixedOrders=bh){t:Nat}{caps}{a b:eS}(F:KK P hb f=a_ ⟨n,rs,a.b7,t,g,caps,b.b7⟩)(MU:a.fits n=bh)(MV:b.fits n=bh)(ht:t<n)(hn:args.length<=n)
  (h:@ey G P bf a ⟨@tj ⟨λe J=>∃ks:List Nat,nX e caps=a_ (ks.map λk=>.mp k 0)/\@ey G P bf b ⟨@aou G P g ks rs ⟨K⟩⟩ ((t,.fn (.func g) [] (ks.map λk=>.mp k 0))::e) J⟩ ⟨λ_ _ _=>False⟩⟩ (pV 0 args) J):cw G P f args J K:=by
 refine avD F (O0 hm MU (λq=>av) (Ry hn) h λx ts e bl h' k=>?_);cases x with
 |normal=>
  obtain⟨ks,Y,V⟩:=k;refine⟨rfl,by rw[h'.1];exact ht,ks,vU h' Y,O0 hm MV (λq=>av) (Jr (d:=a_ t) h' (by simpa using ht)) V λx abR e2 jG h3 k=>?_⟩;have CY:∀bl,@hJ _ (lg e2 bl rs) ⟨λr=>K r bl⟩->∃r,ur ⟨abR,bl⟩ rs=a_ r/\K r bl:=λbl ⟨r,q1,bt⟩=>⟨r,OA h3 q1,bt⟩;cases x with
  |normal=>
   have k':kW G P g (ks.map λk=>.mp k 0) jG bn λbl=>@hJ _ (lg e2 bl rs) ⟨λr=>K r bl⟩:=k;exact kW.mono k' CY
  |ret=>
   have k':kW G P g (ks.map λk=>.mp k 0) jG bn λbl=>@hJ _ (lg e2 bl rs) ⟨λr=>K r bl⟩:=k;exact kW.mono k' CY
  |panic ch=>
   obtain⟨v,q1,bt⟩:=k;exact⟨v,q1,kW.mono bt CY⟩
  |_=>exact k.elim
 |_=>exact k.elim
def tu{nest}:∀{c:eS} {hi Q'} {e:dB} {J},@ey G P nest c hi e J->(∀x e J,hi.v x e J->Q'.v x e J)->@ey G P nest c Q' e J:=by
 have ajh:∀{i} {F F'} {E E'} {e:dB} {J},@jO G P i F E e J->(∀v J,F.v v J->F'.v v J)->(∀ch J,E.v ch J->E'.v ch J)->@jO G P i F' E' e J:=by
  intro i F F' E E' e J h hF hE;cases i with
  |op o=>obtain⟨v,Y,V⟩:=h;exact⟨v,Y,hF _ _ V⟩
  |call f args=>obtain⟨dO,Y,V⟩:=h;exact⟨dO,Y,cm V hF⟩
  |mw x args=>
   obtain⟨x',h0,dO,Y,V⟩:=h;exact⟨x',h0,dO,Y,vw V hF⟩
  |n9 f args=>obtain⟨dO,Y,bs,r',V,h3,h4⟩:=h;exact⟨dO,Y,bs,r',V,h3,hF _ _ h4⟩
  |pE f args r=>obtain⟨dO,Y,bs,V,h3,h4⟩:=h;exact⟨dO,Y,bs,V,h3,hF _ _ h4⟩
  |qo f args=>obtain⟨dO,Y,V⟩:=h;exact⟨dO,Y,g_ V hF hE⟩
  |qp x args=>
   obtain⟨x',h0,dO,Y,V⟩:=h;exact⟨x',h0,dO,Y,acu V hF hE⟩
  |gw x=>obtain⟨v,Y,V⟩:=h;exact⟨v,Y,hE _ _ V⟩
 have atu:∀{v:bg} {A B A' B'},@F6 v A B->(A.v->A'.v)->(B.v->B'.v)->@F6 v A' B':=by
  intro v A B A' B' h Y V;unfold F6 at h⊢;split at h;exact⟨λq=>Y (h.1 q),λq=>V (h.2 q)⟩;exact h.elim
 have guard:∀{w} {v:bg} {A B A' B'},@uW w v A B->(A.v->A'.v)->(B.v->B'.v)->@uW w v A' B':=by
  intro w v A B A' B' h Y V;unfold uW at h⊢;split at h;cases w with
  |true=>exact⟨λq=>Y (h.1 q),λq=>V (h.2 q)⟩
  |false=>exact⟨λq=>V (h.1 q),λq=>Y (h.2 q)⟩
  exact V h;exact h.elim
 have run:∀{l} {K K'} {E E'} {e:dB} {J},@kD G P l K E e J->(∀e J,K.v e J->K'.v e J)->(∀ch J,E.v ch J->E'.v ch J)->@kD G P l K' E' e J:=by
  intro l
  induction l with
  |nil=>intro K K' E E' e J h S hE;rw[FT] at h⊢;exact S _ _ h
  |cons o r ih=>
   intro K K' E E' e J h S hE;obtain⟨d,g,i⟩:=o
   rcases g with _|⟨k,w⟩
   rw[IL] at h⊢;exact ajh h (λv bl q=>ih q S hE) hE;rw[IK] at h⊢;obtain⟨g,Y,V⟩:=h;exact⟨g,Y,guard V (λq=>ajh q (λv bl q=>ih q S hE) hE) λq=>ih q S hE⟩
 have aGa:∀{l} {K K'} {E E'} {e:dB} {J},@uO G P l K E e J->(∀e J,K.v e J->K'.v e J)->(∀ch J,E.v ch J->E'.v ch J)->@uO G P l K' E' e J:=by
  intro l
  induction l with
  |nil=>intro K K' E E' e J h S hE;rw[IM] at h⊢;exact S _ _ h
  |cons o r ih=>
   intro K K' E E' e J h S hE;obtain⟨o,Z⟩:=o;rw[IN] at h⊢;exact run h (λe J k=>⟨k.1,ih k.2 S hE⟩) hE
 intro c
 induction c with
 |skip L=>intro hi Q' e J h hq;rw[O5] at h⊢;exact hq _ _ _ h
 |exit id L=>intro hi Q' e J h hq;rw[OX] at h⊢;exact hq _ _ _ h
 |lab L=>intro hi Q' e J h hq;rw[OY] at h⊢;exact hq _ _ _ h
 |bad=>intro hi Q' e J h hq;unfold ey at h;exact h.elim
 |scope a j_=>
  intro hi Q' e J h hq;rw[O4] at h⊢;refine j_ h λx e' bl k=>?_;cases x with
  |goto l=>exact k.elim
  |_=>exact hq _ _ _ k
 |ret L=>intro hi Q' e J h hq;rw[O3] at h⊢;exact hq _ _ _ h
 |region ops L=>intro hi Q' e J h hq;rw[O1] at h⊢;exact run h (λe' bl k=>hq _ _ _ k) λch bl k=>hq _ _ _ k
 |ry l L=>intro hi Q' e J h hq;rw[O2] at h⊢;exact aGa h (λe' bl k=>hq _ _ _ k) λch bl k=>hq _ _ _ k
 |seq a b j_ uj=>
  intro hi Q' e J h hq;rw[Ib] at h⊢;refine j_ h λx e' bl k=>?_;cases x with
  |normal=>exact uj k hq
  |_=>exact hq _ _ _ k
 |cond o a b j_ uj=>intro hi Q' e J h hq;rw[OW] at h⊢;obtain⟨v,Y,V⟩:=h;exact⟨v,Y,atu V (λq=>j_ q hq) (λq=>uj q hq)⟩
 |block id a j_=>
  intro hi Q' e J h hq;rw[C9] at h⊢;refine j_ h λx e' bl k=>?_;cases x with
  |exit n5=>
   simp only[xy] at k⊢;split at k;rename_i e1;rw[if_pos e1];exact hq _ _ _ k;rename_i e1;rw[if_neg e1];exact hq _ _ _ k
  |_=>exact hq _ _ _ k
 |loop a j_=>
  intro hi Q' e J h hq;rw[OZ] at h⊢;obtain⟨hx,m,h0,D⟩:=h;refine⟨hx,m,h0,λm e J hI=>j_ (D m e J hI) λx e' bl k=>?_⟩;cases x with
  |normal=>exact k
  |_=>exact hq _ _ _ k
 |r_ ls L=>intro hi Q' e J h hq;rw[KZ] at h⊢;obtain⟨ρ,h⟩:=h;exact⟨ρ,λl hl=>run (h l hl) (λe' bl k=>hq _ _ _ k) λch bl k=>hq _ _ _ k⟩
 |r8 x ps a b L j_ uj=>
  intro hi Q' e J h hq;rw[zR] at h⊢;obtain⟨g,fs,Z,I,D⟩:=h;refine⟨g,fs,Z,I,λk S bU ok hR=>cm (D k S bU ok hR) λr bl ⟨st,pd,Y,V,h3⟩=>⟨st,pd,Y,V,?_⟩⟩;cases pd with
  |none=>exact hq _ _ _ h3
  |some c=>
   cases c with
   |ret=>exact hq _ _ _ h3
   |exit id=>exact hq _ _ _ h3
   |_=>exact h3.elim
section
variable{G:Cells}{P:Program}{nest:Bool}{hi:Hid nQ}{e:dB}{J:List br}
def eN{a b:eS}(M)(Y:@ey G P nest a ⟨@tj ⟨M⟩ ⟨λ_ _ _=>False⟩⟩ e J)(V:∀e J,M e J->@ey G P nest b hi e J):@ey G P nest (.seq a b) hi e J:=by
 rw[Ib];refine tu Y λx e J k=>?_;cases x with
 |normal=>exact V _ _ k
 |_=>exact k.elim
def iO{a b:eS}(M)(Y:@ey G P nest a ⟨@tj ⟨M⟩ hi⟩ e J)(V:∀e J,M e J->@ey G P nest b hi e J):@ey G P nest (.seq a b) hi e J:=by
 rw[Ib];refine tu Y λx e J k=>?_;cases x with
 |normal=>exact V _ _ k
 |_=>exact k
def c8{x:eS}(hx:Nat->dB->List br->Prop)(n:Nat)(h0:hx 0 e J)(round:∀i e J,i<n->hx i e J->@ey G P nest x ⟨@tj ⟨hx (i+1)⟩ hi⟩ e J)(last:∀e J,hx n e J->@ey G P nest x ⟨@tj ⟨λ_ _=>False⟩ hi⟩ e J):@ey G P nest (.loop x) hi e J:=by
 rw[OZ];refine⟨λk e J=>∃i,k=n-i/\i<=n/\hx i e J,_,⟨0,rfl,gW _,h0⟩,λk e J ⟨i,S,Q,hI⟩=>?_⟩
 rcases er i n with hl|hl
 refine tu (round i e J hl hI) λx e' bl q=>?_;cases x with
 |normal=>exact⟨n-(i+1),aa,i+1,rfl,hl,q⟩
 |_=>exact q
 have e1:i=n:=aa
 subst e1;refine tu (last e J hI) λx e' bl q=>?_;cases x with
 |normal=>exact q.elim
 |_=>exact q
def qe{x:eS}(hx:Nat->dB->List br->Prop)(h0:hx n e J)(round:∀n e J,hx n e J->@ey G P nest x ⟨@tj ⟨λe' bl=>∃m,m<n/\hx m e' bl⟩ hi⟩ e J):@ey G P nest (.loop x) hi e J:=by
 rw[OZ];exact⟨hx,n,h0,round⟩
end
def oM:type_of% @O5/\type_of% @O1/\type_of% @KZ/\type_of% @Ib/\type_of% @OW/\type_of% @C9/\type_of% @OX/\type_of% @O3/\type_of% @FT/\type_of% @IL/\type_of% @IK/\type_of% @ahH/\type_of% @ahF/\type_of% @ahG/\type_of% @aim/\type_of% @aqD/\type_of% @aqE/\type_of% @Px/\type_of% @Pw/\type_of% @aeT/\type_of% @aqe/\type_of% @aqd/\type_of% @aqg/\type_of% @aeL/\type_of% @aeN/\type_of% @aeO/\type_of% @aeK/\type_of% @aov/\type_of% @aox/\type_of% @ae9/\type_of% @pq/\type_of% @Ao/\type_of% @ad0/\type_of% @ad1/\type_of% @ad2/\type_of% @ad3/\type_of% @Ap/\type_of% @mP/\type_of% @IW/\type_of% @aej/\type_of% @VA/\type_of% @adP/\type_of% @adY/\type_of% @adW/\type_of% @adR/\type_of% @adX/\type_of% @adV/\type_of% @adU/\type_of% @adT/\type_of% @adS/\type_of% @Vv/\type_of% @Vw/\type_of% @aqf/\type_of% @aeM/\type_of% @aow/\type_of% @ae_/\type_of% @O2/\type_of% @IM/\type_of% @IN/\type_of% @O4/\type_of% @OY/\type_of% @ao6/\type_of% @ao5/\type_of% @ao8/\type_of% @ao7:=
 ⟨@O5,@O1,@KZ,@Ib,@OW,@C9,@OX,@O3,@FT,@IL,@IK,@ahH,@ahF,@ahG,@aim,@aqD,@aqE,@Px,@Pw,@aeT,@aqe,@aqd,@aqg,@aeL,@aeN,@aeO,@aeK,@aov,@aox,@ae9,@pq,@Ao,@ad0,@ad1,@ad2,@ad3,@Ap,@mP,@IW,@aej,@VA,@adP,@adY,@adW,@adR,@adX,@adV,@adU,@adT,@adS,@Vv,@Vw,@aqf,@aeM,@aow,@ae_,@O2,@IM,@IN,@O4,@OY,@ao6,@ao5,@ao8,@ao7⟩
def oN:type_of% @cF.eq_1/\type_of% @cF.eq_2/\type_of% @cF.eq_3/\type_of% @cF.eq_4/\type_of% @cF.eq_5/\type_of% @cF.eq_6/\type_of% @cF.eq_7/\type_of% @cF.eq_8/\type_of% @cF.eq_9/\type_of% @cF.eq_10/\type_of% @cF.eq_11/\type_of% @cF.eq_12/\type_of% @cF.eq_13/\type_of% @cF.eq_14/\type_of% @cF.eq_15/\type_of% @cF.eq_16/\type_of% @cF.eq_17/\type_of% @cF.eq_18/\type_of% @cF.eq_19/\type_of% @cF.eq_20/\type_of% @cF.eq_21/\type_of% @cF.eq_22/\type_of% @cF.eq_23/\type_of% @cF.eq_24/\type_of% @cF.eq_25/\type_of% @cF.eq_26/\type_of% @cF.eq_27/\type_of% @cF.eq_28/\type_of% @cF.eq_29/\type_of% @cF.eq_30/\type_of% @cF.eq_31/\type_of% @cF.eq_32/\type_of% @cF.eq_33/\type_of% @cF.eq_34/\type_of% @cF.eq_35/\type_of% @cF.eq_36/\type_of% @cF.eq_37/\type_of% @cF.eq_38/\type_of% @cF.eq_39/\type_of% @cF.eq_40/\type_of% @cF.eq_41/\type_of% @cF.eq_42/\type_of% @cF.eq_43/\type_of% @cF.eq_44/\type_of% @cF.eq_45/\type_of% @cF.eq_46/\type_of% @cF.eq_47/\type_of% @eu.eq_1/\type_of% @eu.eq_2/\type_of% @nX.eq_1/\type_of% @nX.eq_2/\type_of% @y3.eq_1/\type_of% @y3.eq_2/\type_of% @D0.eq_1/\type_of% @D0.eq_2/\type_of% @gY.eq_1/\type_of% @gY.eq_2/\type_of% @DY.eq_1/\type_of% @DY.eq_2/\type_of% @mR.eq_1/\type_of% @mR.eq_2/\type_of% @qD.eq_1/\type_of% @qD.eq_2/\type_of% @pV.eq_1/\type_of% @pV.eq_2/\type_of% @Kn.eq_1/\type_of% @Kn.eq_2/\type_of% @lg.eq_1/\type_of% @uu.eq_1/\type_of% @uu.eq_2/\type_of% @By.eq_1/\type_of% @By.eq_2/\type_of% @mj.{0,0}/\type_of% @Option.bind_none.{0,0}/\type_of% @kf.{0,0}/\type_of% @Option.map_none.{0,0}/\type_of% @gi/\type_of% @sx/\type_of% @kB:=
 ⟨@cF.eq_1,@cF.eq_2,@cF.eq_3,@cF.eq_4,@cF.eq_5,@cF.eq_6,@cF.eq_7,@cF.eq_8,@cF.eq_9,@cF.eq_10,@cF.eq_11,@cF.eq_12,@cF.eq_13,@cF.eq_14,@cF.eq_15,@cF.eq_16,@cF.eq_17,@cF.eq_18,@cF.eq_19,@cF.eq_20,@cF.eq_21,@cF.eq_22,@cF.eq_23,@cF.eq_24,@cF.eq_25,@cF.eq_26,@cF.eq_27,@cF.eq_28,@cF.eq_29,@cF.eq_30,@cF.eq_31,@cF.eq_32,@cF.eq_33,@cF.eq_34,@cF.eq_35,@cF.eq_36,@cF.eq_37,@cF.eq_38,@cF.eq_39,@cF.eq_40,@cF.eq_41,@cF.eq_42,@cF.eq_43,@cF.eq_44,@cF.eq_45,@cF.eq_46,@cF.eq_47,@eu.eq_1,@eu.eq_2,@nX.eq_1,@nX.eq_2,@y3.eq_1,@y3.eq_2,@D0.eq_1,@D0.eq_2,@gY.eq_1,@gY.eq_2,@DY.eq_1,@DY.eq_2,@mR.eq_1,@mR.eq_2,@qD.eq_1,@qD.eq_2,@pV.eq_1,@pV.eq_2,@Kn.eq_1,@Kn.eq_2,@lg.eq_1,@uu.eq_1,@uu.eq_2,@By.eq_1,@By.eq_2,@mj.{0,0},@Option.bind_none.{0,0},@kf.{0,0},@Option.map_none.{0,0},@gi,@sx,@kB⟩
def eI{b c d}(x:a)(y:b)(z:c)(u:d):a/\b/\c/\d:=⟨x,y,z,u⟩
def KY{p q a0:Prop}(x0:a0)(h:q)(e:a0->q->p:=by intro f0 hh;simp -failIfUnchanged -implicitDefEqProofs (disch:=first|assumption|decide|omega) only[jO,oM,oN,↓reduceIte,Nat.reduceEqDiff,Nat.reduceAdd,Nat.reduceLT,Nat.reduceLeDiff,f0];exact hh):p:=e x0 h
def aIW{p q a b:Prop}(x:a)(y:b)(h:q)(e:a/\b->q->p:=by intro f h;exact KY f h):p:=e ⟨x,y⟩ h
def aIX{p q a b c d:Prop}(x:a)(y:b)(z:c)(u:d)(h:q)(e:a/\b/\c/\d->q->p:=by intro f h;exact KY f h):p:=e ⟨x,y,z,u⟩ h
def OV{p q a b c d f:Prop}(x:a)(y:b)(z:c)(u:d)(v:f)(h:q)(e:a/\b/\c/\d/\f->q->p:=by intro f h;exact KY f h):p:=e ⟨x,y,z,u,v⟩ h
def aIY{p q a b c d f g i:Prop}(x:a)(y:b)(z:c)(u:d)(v:f)(w:g)(r:i)(h:q)(e:a/\b/\c/\d/\f/\g/\i->q->p:=by intro f h;exact KY f h):p:=e ⟨x,y,z,u,v,w,r⟩ h
def aqG{p q a b c d f g i j:Prop}(x:a)(y:b)(z:c)(u:d)(v:f)(w:g)(r:i)(s:j)(h:q)(e:a/\b/\c/\d/\f/\g/\i/\j->q->p:=by intro f h;exact KY f h):p:=e ⟨x,y,z,u,v,w,r,s⟩ h
def aqH{p q a b c d f g i j k:Prop}(x:a)(y:b)(z:c)(u:d)(v:f)(w:g)(r:i)(s:j)(t:k)(h:q)(e:a/\b/\c/\d/\f/\g/\i/\j/\k->q->p:=by intro f h;exact KY f h):p:=e ⟨x,y,z,u,v,w,r,s,t⟩ h
end
open Go.ChangeShapes Go.WideShapes Go.ChangeAt
def tI(W:World):Cells:=λb o=>W.cell? ⟨b,o,bn⟩
section
variable{H:Type}{enc:TypeId×Value->H}{P:Program}
def aqo(hl:laidOutB P=bh){W W'}{sp}(O:Below W.heap.size W W'):∀{ts} {vs} {ds} {ps},(∀t∈ts,P.readableRec t=bh/\t<P.types.size)->
  Uv enc P W 0 (λ_=>bh) bh ts vs ds ps->(∀p∈ps,p.block<W.heap.size)->(∀p∈ps,sp p.block=bh)->Uv enc P W' 0 sp bh ts vs ds ps
 |[],[],[],_,_,h,_,_=>h
 |t::ts,v::vs,d::ds,ps,ht,⟨p,q,Y,V,e⟩,cX,gH=>by
  subst e;exact⟨p,q,WideElems.Trod_stays hl (ht t af).1 (ht t af).2 Y (λx I=>O.same (cX x aA)) (λx I=>gH x aA),(aqo hl O (λu hu=>ht u (by simp[hu])) V (λx I=>cX x aA) (λx I=>gH x aA)),rfl⟩
def atn{W W'}(O:Below W.heap.size W W')(aDP):W.keptBut W' aDP:=by
 refine⟨O.os,O.output,λi Q=>?_⟩;rw[O.block i Q];split;rename_i a b c a' b' c' Y V;rw[Y] at V;cases V;exact⟨rfl,rfl,rfl,λ_ _=>rfl⟩;rename_i Y V;rw[Y] at V;cases V;exact bF ⟨rfl,rfl⟩;rfl
def atl{W W'}(O:Below W.heap.size W W'){b off}(h:b<W.heap.size):W'.frozen? ⟨b,off,bn⟩=W.frozen? ⟨b,off,bn⟩:=by
 unfold Pj;rw[O.block b h]
def Ae(W:World):Cells:=λb o=>(tI W b o).filter λv=> !wM v
def Iv{W:World}{b o v}(h:tI W b o=a_ v)(hv:wM v=bf):Ae W b o=a_ v:=by unfold Ae;rw[h];simp[UT,hv]
def ag9(W:World):Dy (Ae W):=λb o v h=>by
 unfold Ae at h;cases T:tI W b o with
 |none=>rw[T] at h;cases h
 |some u=>
  rw[T] at h;simp only[UT] at h;split at h;rename_i q;cases h;simpa using q;cases h
def arS{W:World}{b o v}(h:Ae W b o=a_ v):W.cell? ⟨b,o,bn⟩=a_ v:=by
 unfold Ae at h;cases T:tI W b o with
 |none=>rw[T] at h;cases h
 |some u=>
  rw[T] at h;simp only[UT] at h;split at h;cases h;exact T;cases h
def as2{W:World}:∀b o v,Ae W b o=a_ v->qi (Ae W) W b o v:=λb o v h=>⟨arS h,λ_ hv=>by rw[ag9 W b o v h] at hv;cases hv⟩
def aCF{f}{fn}{s:ChangeSpec}{tb}(hl:laidOutB P=bh)(aiX:P.underlying tb=a_ .bool)(u_:fn.resultTypes= #[tb])
  (ayE:∀t∈fn.params.toList,P.readableRec t=bh/\t<P.types.size) (ai2:s.vars=[]) {W} {args} {ds gs} {Ay}
  (ayP:∀gs,gs=[]->s.fn H (ds++gs)={results:=[.lit (.bool bh)],args:=ds}) (hW:DataW.Whole enc P fn.params.toList s.vars bf W args.toList ds gs Ay)
  {dS} {G:Cells} (hT:FV W) (cE:∀b o v,G b o=a_ v->qi G W b o v) (J:cV G P f dS (.v (.bool bh))) (D:dH G [] [] dS args.toList):
  Calls P f args W λe W'=>∃v,e=.returned v/\s.post enc P fn bf bh bf bf W args v W':=by
 have Ee:=J.2 G W args.toList ⟨λb o v h=>h,hT⟩ cE D;rw[Array.toArray_toList] at Ee;refine Ee.mono λe W' ⟨bI,v',he,_,_,_,O,jd,_⟩=>?_;cases jd;subst he;refine⟨_,rfl,?_⟩;have cX:∀p∈Ay,p.block<W.heap.size:=λp J=>hW.lt p J;have Xu:=hW;obtain⟨p,q,hA,hV,rfl,hz,hn⟩:=hW;rw[ai2] at hV;obtain⟨rfl,rfl⟩:=trodVars_none hV;have hs:=ayP [] rfl;have o8:∀sp:Nat->Bool,(∀x∈p++[],sp x.block=bh)->Uv enc P W' 0 sp bh fn.params.toList args.toList ds p:=λsp gH=>
  aqo hl O ayE hA (λx I=>cX x aA) (λx I=>gH x aA)
 have aiS:∀(b) (sp) (hd),Uv enc P W' b sp hd fn.resultTypes.toList ((Value.bool bh).resultList fn.resultTypes.size) [.lit (.bool bh)] []:=λb sp hd=>by
  rw[u_];exact trodAll_cons_mk (shut_bool aiX _) trodAll_mk0
 have ai1:∀sp,DataW.TrodVars enc P W' sp s.vars [] []:=λsp=>by rw[ai2];rfl
 refine⟨ds,[],p++[],[],p,[],Xu,?_,?_,?_,atn O _,λ_=>?_⟩;rw[hs];exact aiS _ _ _;rw[hs];exact o8 _ (λx I=>by simpa using cX x I);rw[hs];exact ai1 _;refine⟨ok_one u_ rfl (okWide_bool_mk aiX _),_,_,([]++p)++[],⟨[]++p,[],trodAll_append (o8 _ (λ_ _=>rfl)) (aiS _ _ _),by simpa using ai1 _,af,?_,?_⟩,?_⟩;intro b off bl;rw[atl O (show b<W.heap.size from cX (.cell b off) (by simpa using bl))];exact hz b off (by simpa using bl);intro ha;cases ha;intro x I _;simpa using I
def aFT{a}{C}{os:Os}{f}{fn}{s}{afO}{apart fresh ahY ad9}{X:World->Array Value->Prop}
  (hX:∀(w w') (args),w.heap=w'.heap->X w args->X w' args)
  (own:ownKnob C.prog.godebug=bn) (OL:os.Started) (aEo:C.prog.inits.idxOf? f=bn) (ox:C.prog.funcs[f]?=a_ fn)
  (aIV:∃(w:World) (tape:Tape) (i:Input),w.os=os/\(w.forCall tape i).Shaped C.prog/\i.vars=[]/\Input.okWide C.prog (w.forCall tape i) .any w.heap.size f i/\
    ((s.pre enc C.prog fn afO apart (w.forCall tape i).memory i.args/\X (w.forCall tape i).memory i.args)/\sizedMet enc C.prog fn (acI s) apart (w.forCall tape i).memory i.args)/\a.holds C.prog (lone (Frame.enter C.prog f i.args .normal) [] (w.forCall tape i)))
  (auw:∀(W) (base) (args) (ds gs) (Ay),
    (∀(j:Nat) t v,fn.params[j]?=a_ t->args[j]?=a_ v->Ph C.prog W .any base t v)->
    DataW.Whole enc C.prog fn.params.toList s.vars apart W args.toList ds gs Ay->X W args->W.ShapedOpen C.prog->
    Calls C.prog f args W λe W'=>∃v,e=.returned v/\s.post enc C.prog fn apart fresh ahY ad9 W args v W'):
  ReturnsInHanded a C os f .any (λw args=>(s.pre enc C.prog fn afO apart w args/\X w args)/\sizedMet enc C.prog fn (acI s) apart w args) (s.post enc C.prog fn apart fresh ahY ad9):=by
 refine returnsInHanded_of_calls own OL aEo aIV ?_;intro w tape i _ kT _ fN q7 aKJ;obtain⟨_,_,_,avC,axG,_,_,_,_,EC⟩:=fN;have e:avC=fn:=lI (axG.symm.trans ox);subst e;obtain⟨⟨⟨ds,gs,Ay,hw,T⟩,I⟩,hz⟩:=q7;refine(auw (w.forCall tape i) w.heap.size i.args ds gs Ay EC (DataW.Whole.of_heap (w':=w.forCall tape i) (by rfl) hw) (hX _ _ _ (by rfl) I) kT).mono λe W' ⟨v,he,J⟩=>?_;subst he;exact ChangeSpec.post_blind J
end
inductive xd where
 |i (k:IntKind)
 |b
 |s
 |sl (e:List xd)
inductive xg(W:World):xd->Value->Prop
 |i {k:IntKind} {n:Int} (h:(Lit.int k n).wf=bh):xg W (.i k) (.int k n)
 |b {x:Bool}:xg W .b (.bool x)
 |s {x:ByteArray} (h:x.size<=maxLen):xg W .s (.string x)
 |nil {e:List xd}:xg W (.sl e) (.slice bn 0 0)
 |sl {e:List xd} {a:Addr} {len cap:Nat} (g:Nat->Nat->Value) (hl:len<=cap) (T:cap<=maxLen) (gH:0<len->0<e.length->a.spot=bn)
  (hC:∀i j c,i<len->e[j]?=a_ c->W.cell? ⟨a.block,a.off+i*e.length+j,bn⟩=a_ (g i j))
  (hR:∀i j c,i<len->e[j]?=a_ c->xg W c (g i j)):xg W (.sl e) (.slice (a_ a) len cap)
def qj(W:World)(L:List xd)(Z:List Value):Prop:=L.length=Z.length/\∀(i:Nat) c v,L[i]?=a_ c->Z[i]?=a_ v->xg W c v
def Q_(P:Program)(g:TypeId->Option (List xd)):List Field->Nat->Option (List xd)
 |[],_=>a_ []
 |f::r,off=>if f.offset=off then match g f.type with
   |some l=>if P.cellsOf f.type=l.length then(Q_ P g r (off+l.length)).map (l++ ·) else bn
   |none=>bn
  else bn
def E6:Nat->List xd->List xd
 |0,_=>[]
 |n+1,l=>l++E6 n l
def Gp(P:Program):Nat->TypeId->Option (List xd)
 |0,_=>bn
 |f+1,t=>match P.underlying t with
  |some (.int k)=>a_ [.i k]
  |some .bool=>a_ [.b]
  |some .string=>a_ [.s]
  |some (.slice e)=>match Gp P f e with
   |some l=>if P.cellsOf e=l.length then a_ [.sl l] else bn
   |none=>bn
  |some (.struct fs)=>match Q_ P (Gp P f) fs.toList 0 with
   |some l=>if P.cellsOf t=l.length then a_ l else bn
   |none=>bn
  |some (.array n e)=>match Gp P f e with
   |some l=>if P.cellsOf e=l.length/\P.cellsOf t=n*l.length then a_ (E6 n l) else bn
   |none=>bn
  |_=>bn
section
variable{H:Type}{enc:TypeId×Value->H}{P:Program}{W:World}{sp:Nat->Bool}{MS:Bool}
def afb{L L'}{Z cs'}(h:qj W L Z)(h':qj W L' cs'):qj W (L++L') (Z++cs'):=by
 refine⟨by simp[h.1,h'.1],λi c v T hv=>?_⟩
 rcases er i L.length with Q|Q
 rw[fY Q] at T;rw[fY (by rw[<-h.1];exact Q)] at hv;exact h.2 i c v T hv;rw[gh Q] at T;rw[gh (by rw[<-h.1];exact Q),<-h.1] at hv;exact h'.2 _ c v T hv
def LX{c}{v}(h:xg W c v):qj W [c] [v]:=⟨rfl,λi c' v' T hv=>by
 cases i with
 |zero=>simp at T hv;subst T;subst hv;exact h
 |succ i=>simp at T⟩
def aFK(n)(l):(E6 n l).length=n*l.length:=by
 induction n with
 |zero=>simp[E6]
 |succ n ih=>simp only[E6,ek,ih,uF];omega
def aga{α:Type}(Z:List α)(off n):Z.drop off=(Z.drop off).take n++Z.drop (off+n):=by
 conv=>lhs;rw[<-UO n (Z.drop off)]
 rw[z6]
def ahd{g}{Z:List Value}{R:TypeId->List Value->Prop}(hg:∀t l v,g t=a_ l->R t v->qj W l v):
  ∀(fs) (off) (L),Q_ P g fs off=a_ L->(∀f∈fs,R f.type ((Z.drop f.offset).take (P.cellsOf f.type)))->(Z.drop off).length=L.length->qj W L (Z.drop off)
 |[],off,L,h,_,hl=>by
  cases h;have:Z.drop off=[]:=oc hl;rw[this];exact⟨rfl,λi c v T=>aNF⟩
 |f::r,off,L,h,hR,hl=>by
  simp only[Q_] at h;split at h;rename_i ays;subst ays;split at h;rename_i l kS;split at h;rename_i hn;simp only[dA] at h;obtain⟨L',tZ,rfl⟩:=h;rw[aga Z f.offset (P.cellsOf f.type)];refine afb (hg _ _ _ kS (hR f af)) ?_;rw[hn];refine ahd hg r (f.offset+l.length) L' tZ (λf' e5=>hR f' (by simp[e5])) ?_;simp only[ek,z7] at hl⊢;omega;cases h;cases h;cases h
def aop{l}{Z:List Value}(n):∀(k i),k+i=n->(∀j,j<n->qj W l ((Z.drop (j*l.length)).take l.length))->(Z.drop (i*l.length)).length=k*l.length->qj W (E6 k l) (Z.drop (i*l.length))
 |0,i,_,_,hl=>by
  have:Z.drop (i*l.length)=[]:=oc (by rw[hl];simp);rw[this];exact⟨rfl,λi c v T=>by simp[E6] at T⟩
 |k+1,i,S,hR,hl=>by
  rw[aga Z (i*l.length) l.length];refine afb (hR i aa) ?_;have e:i*l.length+l.length=(i+1)*l.length:=by rw[uF]
  rw[e];refine aop n k (i+1) aa hR ?_;rw[<-e];simp only[z7,uF] at hl⊢;omega
def afc{a}{n}{Z}(h:W.cells? 0 a n=a_ Z):Z.length=n/\∀j,j<n->W.cell? (a.add j)=Z[j]? :=by
 unfold World.cells? at h;rw[if_pos (gW _)] at h;exact⟨by simpa using mapM_some_length h,λj hj=>mapM_some_get h j j aNy⟩
def asA(a:Addr)(n)(h:a.spot=bn):a.add n=⟨a.block,a.off+n,bn⟩:=by
 cases a with
 |mk b o s=>simp at h;subst h;rw[addr_add]
def atL{a}{v}(h:W.cell? a=a_ v):a.spot=bn:=by
 unfold FA at h;split at h;split at h;cases h;rename_i hs;simpa using hs;cases h
def OR:∀(d) (t) (L),Gp P d t=a_ L->∀(ov) (Z) (x),Uw enc P W 0 sp MS ov t Z=a_ x->qj W L Z
 |0,t,L,h=>aB
 |d+1,t,L,h=>by
  intro ov Z x I;simp only[Gp] at h;split at h;rename_i k ht;cases h;obtain⟨n,rfl,_,hw⟩:=DataW.trod_int ht I;exact LX (.i hw);rename_i ht;cases h;obtain⟨n,rfl,_⟩:=DataW.trod_bool ht I;exact LX .b;rename_i ht;cases h;obtain⟨n,rfl,_,hw⟩:=DataW.trod_string ht I;exact LX (.s hw);rename_i e ht;split at h;rename_i l hl;split at h;rename_i hn;cases h
  rcases DataW.trod_slice ht I with⟨rfl,_⟩|⟨a,len,cap,aKd,rest,n,rfl,rfl,_,_,ga,XN,uc,lD,_,_⟩
  exact LX .nil
  · rw[hn] at lD
    have each:∀i,i<len->∃ci,W.cells? 0 (a.add (i*l.length)) l.length=a_ ci/\qj W l ci:=λi Q=>by
     have Y:=lD i Q;rw[cy aa] at Y;simp only[gN] at Y;obtain⟨ci,c1,c2⟩:=Y;exact⟨ci,c1,OR d e l hl n ci _ c2⟩
    have gH:0<len->0<l.length->a.spot=bn:=λh0 Y=>by
     obtain⟨ci,c1,_⟩:=each 0 h0;obtain⟨q1,bt⟩:=afc c1;have bV:=bt 0 Y;rw[cy aa] at bV;have iN:(a.add (0*l.length)).add 0=a:=by simp[Addr.add]
     rw[iN] at bV;exact atL bV
    refine LX (.sl (λi j=>(W.cell? ⟨a.block,a.off+i*l.length+j,bn⟩).getD (.int .i64 0)) ga XN gH (λi j c Q hj=>?_) (λi j c Q hj=>?_))
    all_goals
     have lW:=(cK.1 hj).1;obtain⟨ci,c1,c2,c3⟩:=each i Q;obtain⟨q1,bt⟩:=afc c1;have bV:=bt j lW;rw[asA a _ (gH aa aa),addr_add] at bV;rw[cy aa] at bV;simp only[bV,w_]
    exact c3 j c _ hj (cy aa)
  cases h;cases h;rename_i fs ht;split at h;rename_i l hl;split at h;rename_i hn;cases h;obtain⟨xs,n,rfl,_,c7,dF,lD⟩:=DataW.trod_struct ht I;have:=ahd (R:=λt v=>∃x,Uw enc P W 0 sp MS n t v=a_ x) (λt l v hg I=>by
   obtain⟨x,I⟩:=I;exact OR d t l hg n v x I) fs.toList 0 _ hl (λf hf=>by
   obtain⟨i,Q,rfl⟩:=FC hf;have jV:i<fs.size:=aZ
   have:=lD i fs[i] (by simp[jV]);rw[List.getElem?_eq_getElem aa] at this;exact⟨_,by simpa using this⟩) (by rw[pL];omega)
  rwa [pL] at this
  cases h;cases h;rename_i n e ht;split at h;rename_i l hl;split at h;rename_i hn;cases h;obtain⟨xs,m,rfl,_,c7,dF,lD⟩:=DataW.trod_array ht I;have:=aop n n 0 aa (λj hj=>by
   have Y:=lD j hj;rw[cy aa,hn.1] at Y;exact OR d e l hl m _ _ Y) ah
  simpa using this;cases h;cases h;cases h
def aer{d}:∀{ts} {IE} {vs} {ds} {ps},ts.mapM (Gp P d)=a_ IE->Uv enc P W 0 sp MS ts vs ds ps->
  vs.length=IE.length/\ds.length=IE.length/\∀(i:Nat) L v,IE[i]?=a_ L->vs[i]?=a_ v->qj W L v.cells.toList
 |[],IE,[],[],_,h,_=>by
  simp at h;subst h;exact⟨rfl,rfl,λi L v h=>au⟩
 |t::ts,IE,v::vs,x::ds,ps,h,⟨p,q,⟨ov,Y⟩,V,_⟩=>by
  simp only[List.mapM_cons,Option.pure_def,Option.bind_eq_bind,gN,nj] at h;obtain⟨L,hL,aJB,aw0,rfl⟩:=h;obtain⟨e1,e2,di⟩:=aer aw0 V;refine⟨aMa,by simp[e2],λi L' v' tZ JQ=>?_⟩;cases i with
  |zero=>simp at tZ JQ;subst tZ;subst JQ;exact OR d t L hL ov _ _ Y
  |succ i=>simp at tZ JQ;exact di i L' v' tZ JQ
end
section
variable{J:List br}{f:FuncId}{t:TypeId×Nat}{k:Nat}{z:List bg}
section
variable{G:Cells}{P:Program}
structure Pz(P:Program)(f:FuncId)(t:TypeId×Nat):Prop where
 enters:Enters P f
 fresh:∀b w,w.cell? ⟨b,0,bn⟩=a_ (.pointer bn)->w.shape? b=a_ t->w.frozen? ⟨b,0,bn⟩=bf->
  Calls P f #[.pointer (a_ ⟨b,0,bn⟩)] w λe w'=>e=.returned (.tuple #[])/\w'=w.setCell ⟨b,0,bn⟩ (.pointer (a_ ⟨b,0,bn⟩))
 used:∀b w,w.cell? ⟨b,0,bn⟩=a_ (.pointer (a_ ⟨b,0,bn⟩))->
  Calls P f #[.pointer (a_ ⟨b,0,bn⟩)] w λe w'=>e=.returned (.tuple #[])/\w'=w
def aor{C}{M}:bO C M J (.bQ []) (.tuple #[]):=.bQ rfl λi a b ha O=>by simp at ha
def ae4(hS:Pz P f t)(S:J[k]?=a_ (.cells (.iK k t::z) bf)):
  cw G P f [.mp k 0] J λr bl=>r=.bQ []/\bl=J.set k (.cells (.mp k 0::z) bf):=by
 refine⟨hS.enters,λbase w0 C M w dj hs D=>?_⟩;obtain⟨hl,hh⟩:=D
 match dj,hl,hh with
 |[v],_,hh=>
  cases(hh 0 _ _ rfl rfl) with
  |@mp _ _ L Z O hM=>
   obtain⟨_,_,h3,h4,_,_,h7⟩:=hs.cells k _ _ L S hM;obtain⟨c',h5,h6⟩:=h3 0 (.iK k t) rfl;generalize I:bg.iK k t=x at h6;cases h6 with
   |@iK k' L' cs' hb' eK=>
    cases I;rw[hM] at eK;cases eK;refine(hS.fresh L.b w h5 h7 (h4 0)).mono ?_;rintro e w' ⟨rfl,rfl⟩;obtain⟨bK,eD⟩:=hs.store S hM 0 [.mp k 0] [.pointer (a_ ⟨L.b,0,bn⟩)] ⟨rfl,λi a b ha iS=>by
     cases i with
     |zero=>simp at ha iS;subst ha;subst iS;exact .mp S hM
     |succ i=>simp at ha⟩ af
    exact⟨C,M,_,.bQ [],.tuple #[],⟨rfl,rfl⟩,rfl,bK,eD,aor⟩
   |_=>cases I
def ae7(hS:Pz P f t)(S:J[k]?=a_ (.cells (.mp k 0::z) bf)):
  cw G P f [.mp k 0] J λr bl=>r=.bQ []/\bl=J:=by
 refine⟨hS.enters,λbase w0 C M w dj hs D=>?_⟩;obtain⟨hl,hh⟩:=D
 match dj,hl,hh with
 |[v],_,hh=>
  cases(hh 0 _ _ rfl rfl) with
  |@mp _ _ L Z O hM=>
   obtain⟨_,_,h3,_⟩:=hs.cells k _ _ L S hM;obtain⟨c',h5,h6⟩:=h3 0 (.mp k 0) rfl;generalize I:cU k 0=x at h6;cases h6 with
   |@mp k' off L' cs' hb' eK=>
    cases I;rw[hM] at eK;cases eK;refine(hS.used L.b w h5).mono ?_;rintro e w' ⟨rfl,rfl⟩;exact⟨C,M,_,.bQ [],.tuple #[],⟨rfl,rfl⟩,rfl,oP _ _ _,hs,aor⟩
   |_=>cases I
end
end
section
variable{P:Program}
def aDa{e}(T:P.cellsOf e=1)(count o n)(hn:o+n<=count):liesAt P P.depth e count o e n=bh:=by
 have hd:P.depth=(2*(P.types.size+Made.depth)+1)+1:=rfl;rw[hd];simp only[liesAt,Ft];left;rw[hd];simp[rowAt,T,hn,sameLayout,Nat.mod_one]
def aGk{w}(pt it ty e)(J:P.underlying pt=a_ (.pointer e))(T:P.cellsOf e=1)(g o cells)(kT:w.shape? g=a_ (e,cells))(l)(h0:l≠[])(hn:o+l.length<=cells)(Gx:l.length<=9223372036854775807)
  (p5:∀(j) x,l[j]?=a_ x->w.cell? ((⟨g,o,bn⟩:Addr).add j)=a_ (.int .u8 x.toNat)):
  (acy #[pt,it] ty #[.pointer (a_ ⟨g,o,bn⟩),.int .i64 l.length]).run P w=.ok (.string ⟨l.toArray⟩) (w.freeze ⟨g,o,bn⟩ l.length):=by
 have awO:¬(9223372036854775807:Int)<(l.length:Int):=aa
 have ayj:cN.max=9223372036854775807:=rfl;have aiE:¬(l.length:Int)<0:=aa
 rw[(@id (acy #[pt,it] ty #[.pointer (a_ ⟨g,o,bn⟩),.int .i64 l.length]=(asInt (.int .i64 l.length)>>=_)) rfl)];simp[asInt,asIntOf,ayj,awO,aiE,(by simpa using h0),variablesAt,kT,elemOf,run_underlying J,aDa (P:=P) T (cells/P.cellsOf e) o l.length (by rw[T];simpa using hn),Lib.run_loadBytes (P:=P) w l ⟨g,o,bn⟩ .empty p5]
end
section
variable{f:FuncId}{e:TypeId}{k:Nat}{c0:bg}{J:List br}
section
variable{G:Cells}{P:Program}
structure PX(P:Program)(f:FuncId)(e:TypeId):Prop where
 byte:e=5
 enters:Enters P f
 got:∀(b g o cap cells:Nat) (l:List UInt8) (w:World),w.cell? ⟨b,1,bn⟩=a_ (.slice (a_ ⟨g,o,bn⟩) l.length cap)->l≠[]->l.length<=cap->w.shape? g=a_ (e,cells)->o+l.length<=cells->
  l.length<=140737488355328->
  (∀(j:Nat) x,l[j]?=a_ x->w.cell? ((⟨g,o,bn⟩:Addr).add j)=a_ (.int .u8 x.toNat))->
  Calls P f #[.pointer (a_ ⟨b,0,bn⟩)] w λr w'=>r=.returned (.string ⟨l.toArray⟩)/\w'=w.drew.freeze ⟨g,o,bn⟩ l.length
 ann:∀(b:Nat) (w:World),w.cell? ⟨b,1,bn⟩=a_ (.slice bn 0 0)->
  Calls P f #[.pointer (a_ ⟨b,0,bn⟩)] w λr w'=>r=.returned (.string .empty)/\w'=w.drew
def ae5(hS:PX P f e){id}{l}(S:J[k]?=a_ (.cells [c0,.sl (l.map λc=>.v (.int .u8 c.toNat)) (.tok id)] bf))(hid:J[id]?=a_ (.tok l.length 1 e))
  (h0:l≠[]) (Jk:l.length<=140737488355328):
  cw G P f [.mp k 0] J λr bl=>r=.v (.string ⟨l.toArray⟩)/\bl=J:=by
 refine⟨hS.enters,λbase w0 C M w dj hs D=>?_⟩;obtain⟨hl,hh⟩:=D
 match dj,hl,hh with
 |[v],_,hh=>
  cases(hh 0 _ _ rfl rfl) with
  |@mp _ _ L Z O hM=>
   obtain⟨_,_,h3,_⟩:=hs.cells k _ _ L S hM;obtain⟨c',h5,h6⟩:=h3 1 (.sl (l.map λc=>.v (.int .u8 c.toNat)) (.tok id)) rfl;generalize I:bg.sl (l.map λc=>cR (.int .u8 c.toNat)) (.tok id)=x at h6;cases h6 with
   |@sl xs t a cap sz fv gH dF hC hR hT ir=>
    cases I;rw[cS] at*;obtain⟨n,s,ty,L',q1,bt,bV,fU,iN⟩:=hT;rw[hid] at q1;cases q1;obtain⟨aaI,CU,wH,_⟩:=iN rfl;obtain⟨ab,ao,B6⟩:=a;cases aaI;have bP:l.map (λc=>cR (.int .u8 c.toNat))≠[]:=by simpa using h0
    have wj:0<l.length:=by cases l with|nil=>exact(h0 rfl).elim|cons _ _=>simp
    have qx:sz=1:=by
     rcases fU with q|q
     omega;exact q
    subst qx;obtain⟨_,_,Cq,ug,_,ayX⟩:=hs.toks id _ _ _ L' hid bt;obtain⟨cells,kT⟩:=ayX.shape;have p5:∀(j) x,l[j]?=a_ x->w.cell? ((⟨ab,ao,bn⟩:Addr).add j)=a_ (.int .u8 x.toNat):=by
     intro j x hj;have hm:(l.map (λc=>cR (.int .u8 c.toNat)))[j]?=a_ (.v (.int .u8 x.toNat)):=aNy
     have Y:=(hs.o5 _ _ _ (hC j _ 0 _ hm rfl)).1;have V:=hR j _ 0 _ hm rfl;rw[addr_add];simp only[Nat.mul_one,sx] at Y;rw[Y];generalize hg:fv j 0=y at V;cases V;rfl
    have hfit:ao+l.length<=cells:=by
     obtain⟨x,I⟩:∃x,l[l.length-1]?=a_ x:=⟨_,cy aa⟩;have Y:=p5 _ _ I;rw[addr_add] at Y;rw[CU.symm] at kT;unfold FA at Y;unfold K9 at kT;dsimp only at Y kT;cases hw:w.heap[ab]? with
     |none=>rw[hw] at Y;cases Y
     |some gJ=>
      rw[hw] at Y kT;cases gJ with
      |cells d t fr=>
       simp only[nj,xb] at kT;simp only[BW,kB,if_false] at Y;have:=(zT.1 Y).1;omega
      |_=>cases Y
    refine(hS.got L.b ab ao cap cells l w h5 h0 ir (by rw[<-CU] at kT;exact kT) hfit Jk p5).mono ?_;rintro r w' ⟨rfl,rfl⟩;exact⟨C,M,_,.v (.string ⟨l.toArray⟩),.string ⟨l.toArray⟩,⟨rfl,rfl⟩,rfl,oP _ _ _,hs.drew.avJ hid bt CU.symm (by dsimp only at wH⊢;omega) hS.byte (λj v T=>by
     have hf:=Cq.2.1;dsimp only at wH;by_cases hj:j<l.length;have hm:(l.map (λc=>cR (.int .u8 c.toNat)))[j]?=a_ (.v (.int .u8 l[j].toNat)):=aNy
     have Y:=hC j _ 0 _ hm rfl;have V:=hR j _ 0 _ hm rfl;dsimp only at Y;rw[show ao+j*1+0=j by omega,show ab=L'.b from CU,T] at Y;generalize fv j 0=y at Y V;cases Y;cases V;rfl;rw[ug j aa] at T;cases T),.v rfl⟩
   |_=>cases I
def ae6(hS:PX P f e)(S:J[k]?=a_ (.cells [c0,.bp] bf)):
  cw G P f [.mp k 0] J λr bl=>r=.v (.string .empty)/\bl=J:=by
 refine⟨hS.enters,λbase w0 C M w dj hs D=>?_⟩;obtain⟨hl,hh⟩:=D
 match dj,hl,hh with
 |[v],_,hh=>
  cases(hh 0 _ _ rfl rfl) with
  |@mp _ _ L Z O hM=>
   obtain⟨_,_,h3,_⟩:=hs.cells k _ _ L S hM;obtain⟨c',h5,h6⟩:=h3 1 .bp rfl;cases h6;refine(hS.ann L.b w h5).mono ?_;rintro r w' ⟨rfl,rfl⟩;exact⟨C,M,_,.v (.string .empty),.string .empty,⟨rfl,rfl⟩,rfl,oP _ _ _,hs.drew,.v rfl⟩
end
end
section
variable{b:br}{c key l m s v x:bg}{J:List br}{bW k n:Nat}{e:TypeId}{α:Type}{bN:Bool}{z:List bg}{ks:List nq}
def b7:br->br
 |.b8 st pd _ _ _=>.b8 st (match st with|.busy=>bn|_=>pd) [] #[] (λ_ _=>False)
 |.obj (.deferred _)=>.obj (.deferred bn)
 |b=>b
def gr(J bl:List br):Prop:=∀(k:Nat) st pd bU ps ok,J[k]?=a_ (.b8 st pd bU ps ok)->∃fX lG,bl[k]?=a_ (.b8 fX lG bU ps ok)
def gr.refl(J):gr J J:=λk st pd bU ps ok h=>⟨st,pd,h⟩
def gr.trans{a b c}(h:gr a b)(h':gr b c):gr a c:=λk st pd bU ps ok q=>by
 obtain⟨fX,lG,q'⟩:=h k st pd bU ps ok q;exact h' k fX lG bU ps ok q'
def Bo{l}:gr J (J++l):=λk st pd bU ps ok h=>⟨st,pd,bS h⟩
def zl{b'}(S:J[k]?=a_ b)(O:∀st pd bU ps ok,b≠.b8 st pd bU ps ok):gr J (J.set k b'):=λj st pd bU ps ok h=>by
 by_cases e:k=j;subst e;rw[S] at h;cases h;exact(O _ _ _ _ _ rfl).elim;exact⟨st,pd,aNz⟩
def Mf(h:(J.map b7)[k]?=a_ b):∃b0,J[k]?=a_ b0/\b7 b0=b:=by
 rwa [e9,dA] at h
def sP{Z}{r}(h:(J.map b7)[k]?=a_ (.cells Z r)):J[k]?=a_ (.cells Z r):=by
 obtain⟨b,Y,V⟩:=Mf h;cases b with
 |cells cs' r'=>cases V;exact Y
 |obj o=>cases o<;>cases V
 |_=>cases V
def WK{s}(h:(J.map b7)[k]?=a_ (.tok n s e)):J[k]?=a_ (.tok n s e):=by
 obtain⟨b,Y,V⟩:=Mf h;cases b with
 |tok n s e=>cases V;exact Y
 |obj o=>cases o<;>cases V
 |_=>cases V
def agp{es}{cH}(h:(J.map b7)[k]?=a_ (.eT es cH)):J[k]?=a_ (.eT es cH):=by
 obtain⟨b,Y,V⟩:=Mf h;cases b with
 |eT es cH=>cases V;exact Y
 |obj o=>cases o<;>cases V
 |_=>cases V
def agn{s}{p}(h:(J.map b7)[k]?=a_ (.obj (.stringIter s p))):J[k]?=a_ (.obj (.stringIter s p)):=by
 obtain⟨b,Y,V⟩:=Mf h;cases b with
 |obj o=>cases o<;>cases V;exact Y
 |_=>cases V
def ago{st}{pd}{bU}{ps}{ok}(h:(J.map b7)[k]?=a_ (.b8 st pd bU ps ok)):
  ∃lG LP ps' N7,J[k]?=a_ (.b8 st lG LP ps' N7)/\(st≠.busy->lG=pd):=by
 obtain⟨b,Y,V⟩:=Mf h;cases b with
 |b8 fX lG LP ps' N7=>
  simp only[b7,br.b8.injEq] at V;obtain⟨rfl,h3,_⟩:=V;exact⟨lG,LP,ps',N7,Y,λbP=>by cases fX<;>first|exact h3|exact(bP rfl).elim⟩
 |obj o=>cases o<;>cases V
 |_=>cases V
def cI(f:List br->Option (bg×List br)):Prop:=∀J v hE,f (J.map b7)=a_ (v,hE)->∃bl,f J=a_ (v,bl)/\bl.map b7=hE/\gr J bl
def cI.const(x:Option bg):cI λJ=>x.map λr=>(r,J):=λJ v hE h=>by
 simp only[dA,xb] at h;obtain⟨r,Y,rfl,rfl⟩:=h;exact⟨J,aMY,rfl,gr.refl J⟩
def cI.bind(x:Option α){g:α->List br->Option (bg×List br)}(hg:∀a,cI (g a)):cI λJ=>x.bind λa=>g a J:=λJ v hE h=>by
 simp only[gN] at h;obtain⟨a,Y,V⟩:=h;obtain⟨bl,q1,bt,bV⟩:=hg a J v hE V;exact⟨bl,by simp[Y,q1],bt,bV⟩
def cI.VY(x:Option α)(g:α->bg):cI λJ=>x.map λa=>(g a,J):=λJ v hE h=>by
 simp only[dA,xb] at h;obtain⟨a,Y,rfl,rfl⟩:=h;exact⟨J,aMY,rfl,gr.refl J⟩
def cI.push(x:Option α)(g:Nat->α->bg)(b:α->br)(O:∀a,b7 (b a)=b a):cI λJ=>x.map λa=>(g J.length a,J++[b a]):=λJ v hE h=>by
 simp only[dA,xb,cS] at h;obtain⟨a,Y,rfl,rfl⟩:=h;exact⟨J++[b a],aMY,aM0,Bo⟩
def cI.none:cI λ_=>bn:=λJ v hE h=>aB
def cI.some(x:bg):cI λJ=>a_ (x,J):=λJ v hE h=>by
 cases h;exact⟨J,rfl,rfl,gr.refl J⟩
def cI.read(g:List br->Option bg)(hg:∀J x,g (J.map b7)=.some x->g J=.some x):cI λJ=>(g J).map λr=>(r,J):=λJ v hE h=>by
 simp only[dA,xb] at h;obtain⟨r,Y,rfl,rfl⟩:=h;exact⟨J,by simp[hg J r Y],rfl,gr.refl J⟩
def cI.ite{c}[Decidable c]{f g}(hf:c->cI f)(hg:¬c->cI g):cI λJ=>if c then f J else g J:=λJ v hE h=>by
 dsimp only at h⊢;split at h;rename_i T;rw[if_pos T];exact hf T J v hE h;rename_i T;rw[if_neg T];exact hg T J v hE h
def cI.HA(x:Nat->bg)(b)(O:b7 b=b):cI λJ=>a_ (x J.length,J++[b]):=λJ v hE h=>by
 simp only[nj,xb,cS] at h;obtain⟨rfl,rfl⟩:=h;exact⟨J++[b],rfl,aM0,Bo⟩
def cI.aFe(b:Nat->br)(x:Nat->bg)(O:∀k,b7 (b k)=b k):cI λJ=>a_ (x J.length,J++[b J.length]):=λJ v hE h=>by
 simp only[nj,xb,cS] at h;obtain⟨rfl,rfl⟩:=h;exact⟨J++[b J.length],rfl,aM0,Bo⟩
def cI.setCells{r}{g:List bg->Option (bg×List bg)}:cI λJ=>match J[k]? with
  |.some (.cells Z r')=>if r'=r then(g Z).map λp=>(p.1,J.set k (.cells p.2 r)) else .none
  |_=>.none:=λJ v hE h=>by
 dsimp only at h⊢;split at h;rename_i Z r' S;have iT:=sP S;rw[iT];dsimp only;split at h;rename_i D;rw[if_pos D];simp only[dA,xb] at h;obtain⟨p,Y,rfl,rfl⟩:=h;refine⟨J.set k (.cells p.2 r),aMY,aLY,zl iT nofun⟩;cases h;cases h
def aef{p:bg}(h:bz (J.map b7) bN n p=a_ c):bz J bN n p=a_ c:=by
 unfold bz at h⊢;split at h;exact h;split at h;rename_i S;rw[sP S];exact h;cases h;split at h;rename_i S;rw[sP S];exact h;cases h;cases h
def auo{p:bg}:cI λJ=>(bL J n p x).map λbl=>(jL,bl):=λJ v hE h=>by
 simp only[dA,xb] at h;obtain⟨Y,q,rfl,rfl⟩:=h;have key:∀(k) (row) Z off,J[k]?=a_ (.cells Z row)->fD (J.map b7) k row Z n off x=a_ Y->∃bl,fD J k row Z n off x=a_ bl/\bl.map b7=Y/\gr J bl:=λk row Z off S hs=>by
  unfold fD at hs⊢;split at hs;rename_i T;rw[if_pos T];cases hs;exact⟨_,rfl,aLY,zl S nofun⟩;cases hs
 unfold bL at q⊢;cases p with
 |mp k off=>
  simp only at q⊢;split at q;rename_i Z S;rw[sP S];obtain⟨bl,a,b,c⟩:=key _ _ _ _ (sP S) q;exact⟨bl,by simp[a],b,c⟩;cases q
 |rp k m off=>
  simp only at q⊢;split at q;rename_i Z S;rw[sP S];simp only at q⊢;split at q;rename_i hm;rw[if_pos hm];obtain⟨bl,a,b,c⟩:=key _ _ _ _ (sP S) q;exact⟨bl,by simp[a],b,c⟩;cases q;cases q
 |_=>cases q
def Wj{ys}:cI λJ=>iA J n bW e s ys:=λJ v hE h=>by
 dsimp only at h⊢;unfold iA at h⊢;cases s with
 |bp=>
  simp only[cS] at h⊢;split at h;rename_i hl;rw[if_pos hl];cases h;exact⟨_,rfl,by simp[b7],Bo⟩;cases h
 |rs k m sz off len=>
  simp only at h⊢;split at h;rename_i hl;rw[if_pos hl];split at h;rename_i Z S;rw[sP S];simp only at h⊢;split at h;rename_i hm;rw[if_pos hm];cases h;exact⟨_,rfl,aLY,zl (sP S) nofun⟩;cases h;cases h;cases h
 |sl xs t=>
  simp only at h⊢;split at h;rename_i hl;rw[if_pos hl];cases t with
  |exact=>
   simp only[cS] at h⊢;cases h;exact⟨_,rfl,by simp[b7],Bo⟩
  |no=>cases h
  |tok id=>
   simp only at h⊢;split at h;rename_i c s' e' S;rw[WK S];simp only at h⊢;split at h;rename_i hm;rw[if_pos hm];cases h;exact⟨_,rfl,aLY,zl (WK S) nofun⟩;cases h;cases h
  cases h
 |_=>cases h
def afz:cI λJ=>gR J n bW e s x:=λJ v hE h=>by
 dsimp only at h⊢;unfold gR at h⊢;cases RE:iq x with
 |none=>rw[RE] at h;cases h
 |some ys=>
  rw[RE] at h;simp only at h⊢;by_cases hy:ys=[];rw[if_pos hy] at h⊢
  split at h<;>first|(cases h;exact⟨J,rfl,rfl,gr.refl J⟩)|cases h
  rw[if_neg hy] at h⊢;split at h;rename_i T;rw[if_pos T];exact Wj J v hE h;cases h
def afA:cI λJ=>ei J n bW e s x:=by
 unfold ei;cases s with
 |rs _ _ _ _ _=>exact cI.none
 |_=>exact afz
def auf:cI λJ=>FW J bW e s x:=λJ v hE h=>by
 dsimp only at h⊢;unfold FW at h⊢;split at h;split at h;rename_i q;simp only[if_pos q];exact afA J v hE h;cases h;cases h
def auh:cI λJ=>B2 J bW e s x:=λJ v hE h=>by
 dsimp only at h⊢;unfold B2 at h⊢;split at h;rename_i b;by_cases h0:b.size=0;rw[if_pos h0] at h⊢
 split at h<;>first|(cases h;exact⟨J,rfl,rfl,gr.refl J⟩)|cases h
 rw[if_neg h0] at h⊢;split at h;split at h;rename_i q;simp only[if_pos q];exact Wj J v hE h;cases h;split at h;rename_i q;simp only[if_pos q];exact Wj J v hE h;cases h;cases h;cases h
def aug:cI λJ=>ql J n bW e s x:=by
 unfold ql;cases s with
 |bp=>
  simp only;cases iq x with
  |none=>exact cI.none
  |some ys=>
   simp only;exact cI.ite (λ_=>cI.some _) λ_=>cI.ite (λ_=>cI.HA (λk=>.rs k (ez ys).length n 0 ys.length) _ rfl) λ_=>cI.none
 |_=>exact afz
def auc{vs}:cI λJ=>An J n vs:=by
 unfold An;exact cI.ite (λ_=>cI.HA (λk=>.rs k (ez vs).length n 0 vs.length) _ rfl) λ_=>cI.none
def aud:cI λJ=>DI J n bW z l c:=by
 unfold DI;split;exact cI.ite (λ_=>cI.HA (λk=>.rs k _ n 0 _) _ rfl) λ_=>cI.none;exact cI.none
def aue:cI λJ=>DJ J n bW e z l c:=by
 unfold DJ;split;exact cI.ite (λ_=>cI.HA (λk=>.sl [] (.tok k)) _ rfl) λ_=>cI.none;exact cI.none
def auj:cI λJ=>Se v J:=by
 unfold Se;split;exact cI.HA (λk=>.gJ k) _ rfl;exact cI.none
def aun:cI λJ=>sK J v:=λJ u hE h=>by
 dsimp only at h⊢;unfold sK at h⊢;split at h;rename_i k;split at h;rename_i s pos S;rw[agn S];simp only;split at h;rename_i hl;rw[if_pos hl];cases h;exact⟨_,rfl,aLY,zl (agn S) nofun⟩;rename_i hl;rw[if_neg hl];cases h;exact⟨_,rfl,rfl,gr.refl J⟩;cases h;cases h
def NQ{r}(h:s9 (J.map b7) m=a_ r):s9 J m=a_ r/\J[r.1]?=a_ (.eT r.2.1 r.2.2):=by
 unfold s9 at h⊢;split at h;rename_i k;split at h;rename_i es cH S;rw[agp S];cases h;exact⟨rfl,agp S⟩;cases h;cases h
def asH{z:bg}{ok}(h:xu (J.map b7) bN ks z ok m key=a_ x):xu J bN ks z ok m key=a_ x:=by
 unfold xu at h⊢;split at h;rename_i k es cH hm;rw[(NQ hm).1];exact h;cases h
def asN(h:DH (J.map b7) m=a_ x):DH J m=a_ x:=by
 unfold DH at h⊢;split at h;rename_i k es cH hm;rw[(NQ hm).1];exact h;cases h
def aum:cI λJ=>(yS J bN ks m key x).map λbl=>(jL,bl):=λJ v hE h=>by
 simp only[dA,xb] at h;obtain⟨Y,q,rfl,rfl⟩:=h;dsimp only;unfold yS at q⊢;split at q;rename_i k es cH hm;obtain⟨m1,m2⟩:=NQ hm;rw[m1];simp only;split at q;rename_i T;rw[if_pos T];split at q;cases q;exact⟨_,rfl,aLY,zl m2 nofun⟩;cases q;exact⟨_,rfl,aLY,zl m2 nofun⟩;cases q;cases q;cases q
def aul{z:bg}:cI λJ=>IV J bN ks z m key:=λJ v hE q=>by
 dsimp only at q⊢;unfold IV at q⊢;split at q;rename_i k es cH hm;obtain⟨m1,m2⟩:=NQ hm;rw[m1];simp only;split at q;rename_i T;rw[if_pos T];split at q;cases q;exact⟨_,rfl,aLY,zl m2 nofun⟩;cases q;exact⟨_,rfl,aLY,zl m2 nofun⟩;cases q;cases q;cases q
def aui{st:bg}:cI λJ=>(IU J m st x).map λbl=>(jL,bl):=λJ v hE h=>by
 simp only[dA,xb] at h;obtain⟨Y,q,rfl,rfl⟩:=h;dsimp only;unfold IU at q⊢;split at q;rename_i k es cH _ n hm;obtain⟨m1,m2⟩:=NQ hm;rw[m1];simp only;split at q;cases q;exact⟨_,rfl,aLY,zl m2 nofun⟩;cases q;cases q
def auk:cI λJ=>cG v J:=by
 unfold cG;split;exact cI.none;exact cI.const _
def afB{e}{o}:cI λJ=>cF e J o:=by
 cases o<;>simp only[cF]
 case mv x=>exact cI.const _
 case pick c a b=>exact cI.bind _ λc=>cI.const _
 case alloc z=>exact cI.HA (λk=>.mp k 0) _ rfl
 case Aq t z=>exact cI.aFe (λk=>.cells (.iK k t::z) bf) (λk=>.mp k 0) λ_=>rfl
 case box x=>exact cI.push _ (λk _=>.mp k 0) (λr:bg=>.cells r.cells bf) λ_=>rfl
 case build z ps=>exact cI.bind _ λl=>cI.VY _ _
 case Az n vs=>exact cI.bind _ λl=>cI.const _
 case fT bN n x=>exact cI.bind _ λx=>cI.read (λJ=>bz J bN n x) λJ y h=>aef h
 case st n p x=>exact cI.bind _ λp=>cI.bind _ λx=>auo
 case app n bW ty s x=>exact cI.bind _ λs=>cI.bind _ λx=>afA
 case Bs f a b=>exact cI.bind _ λa=>cI.VY _ _
 case xz n vs=>exact cI.bind _ λl=>auc
 case B4 n bW ty s x=>exact cI.bind _ λs=>cI.bind _ λx=>aug
 case Av bW ty s x=>exact cI.bind _ λs=>cI.bind _ λx=>auh
 case As bW ty s x=>exact cI.bind _ λs=>cI.bind _ λx=>auf
 case Bt n bW ty z l c=>exact cI.bind _ λl=>cI.bind _ λc=>aud
 case CK n bW ty z l c=>exact cI.bind _ λl=>cI.bind _ λc=>aue
 case CH t x=>exact cI.VY _ _
 case iter x=>exact cI.bind _ λx=>auj
 case next x=>exact cI.bind _ λx=>aun
 case CJ=>exact cI.HA (λk=>.gq k) _ rfl
 case ES x=>exact cI.bind _ λx=>cI.read (λJ=>DH J x) λJ y h=>asN h
 case CD bN ks z ok m k=>exact cI.bind _ λm=>cI.bind _ λk=>cI.read (λJ=>xu J bN ks z ok m k) λJ y h=>asH h
 case x5 bN ks m k x=>exact cI.bind _ λm=>cI.bind _ λk=>cI.bind _ λx=>aum
 case Br bN ks z m k=>exact cI.bind _ λm=>cI.bind _ λk=>aul
 case DZ m st x=>exact cI.bind _ λm=>cI.bind _ λst=>cI.bind _ λx=>aui
 case len x=>exact cI.bind _ λx=>auk
 case r6 x=>
  refine cI.bind _ λx=>?_;unfold r6;split;exact cI.some _;exact cI.none
 case slc n x lo Q mx=>
  refine cI.bind _ λx=>cI.bind _ λlo=>cI.bind _ λQ=>cI.bind _ λmx=>?_;unfold rz;split;exact cI.none;exact cI.const _
 case ye x lo Q=>
  refine cI.bind _ λx=>cI.bind _ λlo=>cI.bind _ λQ=>?_;unfold H7;split;exact cI.const _;exact cI.none
 all_goals first
  |exact cI.bind _ λ_=>cI.const _
  |exact cI.bind _ λ_=>cI.bind _ λ_=>cI.const _
end
section
variable{n sz:Nat}{Z:List bg}{J:List br}{x:bg}
def kz{α β:Type}(f:α->Option β):List α->Option (List β)
 |[]=>a_ []
 |x::r=>match f x with
  |some y=>match kz f r with
   |some l=>a_ (y::l)
   |none=>bn
  |none=>bn
def zq{α β}{f}:∀{l:List α} {r:List β},kz f l=a_ r->r.length=l.length/\∀(i:Nat) x y,l[i]?=a_ x->r[i]?=a_ y->f x=a_ y
 |[],r,h=>by cases h;exact⟨rfl,λi x y I=>aF⟩
 |a::l,r,h=>by
  simp only[kz] at h;split at h;rename_i y hy;split at h;rename_i l' hl;cases h;obtain⟨Y,V⟩:=zq hl;refine⟨aMY,λi x z I hz=>?_⟩;cases i with
  |zero=>simp at I hz;subst I;subst hz;exact hy
  |succ i=>simp at I hz;exact V i x z I hz
  cases h;cases h
def sM(sz:Nat)(Z:List bg)(off:Nat):Nat->List bg
 |0=>[]
 |n+1=>.agg ((Z.drop off).take sz)::sM sz Z (off+sz) n
def afq:∀{n off i},i<n->(sM sz Z off n)[i]?=a_ (.agg ((Z.drop (off+i*sz)).take sz))
 |n+1,off,0,_=>by simp[sM]
 |n+1,off,i+1,h=>by
  simp only[sM,yy];rw[afq aa,show off+sz+i*sz=off+(i+1)*sz by rw[uF];omega]
def Qq:∀{n off},(sM sz Z off n).length=n
 |0,off=>rfl
 |n+1,off=>by simp[sM,Qq]
def dh(J:List br):Nat->bg->Option bg
 |0,_=>bn
 |n+1,x=>match x with
  |.v x=>a_ (.v x)
  |.bp=>a_ .bp
  |.agg Z=>(kz (dh J n) Z).map .agg
  |.bQ Z=>(kz (dh J n) Z).map .bQ
  |.sl xs _=>(kz (dh J n) xs).map λys=>.sl ys .no
  |.fp Z off=>(kz (dh J n) Z).map λds=>.fp ds off
  |.eE t x=>(dh J n x).map (.eE t)
  |.fn f a b=>(kz (dh J n) a).bind λa=>(kz (dh J n) b).map λb=>.fn f a b
  |.mp k off=>match J[k]? with
   |some (.cells Z bf)=>(kz (dh J n) Z).map λds=>.fp ds off
   |_=>bn
  |.rp k m off=>match J[k]? with
   |some (.cells Z bh)=>if m=Z.length then(kz (dh J n) Z).map λds=>.fp ds off else bn
   |_=>bn
  |.rs k m sz off len=>match J[k]? with
   |some (.cells Z bh)=>if m=Z.length then(kz (dh J n) Z).map λds=>.sl (sM sz ds off len) .no else bn
   |_=>bn
  |_=>bn
def atN{y:bg}(h:dh J n x=a_ y)(I:∀Z,x≠.agg Z):y.cells=[y]:=by
 cases n with
 |zero=>cases h
 |succ n=>
  unfold dh at h;cases x<;>simp only at h
  case agg Z=>exact(I Z rfl).elim
  case v x=>cases h;rfl
  case bp=>cases h;rfl
  case mp k off=>split at h<;>first|cases h;done|(simp only[dA] at h;obtain⟨_,_,rfl⟩:=h;rfl)
  case rp k m off=>split at h<;>first|cases h;done|(split at h<;>first|cases h;done|(simp only[dA] at h;obtain⟨_,_,rfl⟩:=h;rfl))
  case rs k m sz off len=>split at h<;>first|cases h;done|(split at h<;>first|cases h;done|(simp only[dA] at h;obtain⟨_,_,rfl⟩:=h;rfl))
  case fn f a b=>
   simp only[gN,dA] at h;obtain⟨_,_,_,_,rfl⟩:=h;rfl
  all_goals first
   |(cases h;done)
   |(simp only[dA] at h;obtain⟨_,_,rfl⟩:=h;rfl)
def Rh{C bI}{M}{Ex}(hC:∀b o v,C b o=a_ v->bI b o=a_ v)
  (hm:∀(k:Nat) Z row L,Ex[k]?=a_ (.cells Z row)->M[k]?=a_ L->∀(i) c,Z[i]?=a_ c->∃c',bI L.b i=a_ c'/\bO C M J c c') (hz:∀(k:Nat) Z row,Ex[k]?=a_ (.cells Z row)->J[k]?=a_ (.cells Z row)):
  ∀{n} {x r:bg} {v},dh Ex n x=a_ r->bO C M J x v->bO bI [] [] r v:=by
 intro n
 induction n with
 |zero=>intro x r v h;cases h
 |succ n ih=>
  intro x r v h D;have amE:∀{Z ds} {f:Nat->Value},kz (dh Ex n) Z=a_ ds->(∀(i) c,Z[i]?=a_ c->bO C M J c (f i))->∀(i) d,ds[i]?=a_ d->∃c,Z[i]?=a_ c/\bO bI [] [] d (f i):=by
   intro Z ds f Bg hR i d hd;obtain⟨e1,e2⟩:=zq Bg;have Q:i<Z.length:=by rw[<-e1];exact(cK.1 hd).1
   exact⟨Z[i],cy Q,ih (e2 i _ _ (cy Q) hd) (hR i _ (cy Q))⟩
  have blk:∀{k:Nat} {Z ds} {row} {L},Ex[k]?=a_ (.cells Z row)->M[k]?=a_ L->kz (dh Ex n) Z=a_ ds->∀off,bO bI [] [] (.fp ds off) (.pointer (a_ ⟨L.b,off,bn⟩))/\∀(i) d,ds[i]?=a_ d->∃c',bI L.b i=a_ c'/\bO bI [] [] d c':=by
   intro k Z ds row L S hM Bg off;obtain⟨e1,e2⟩:=zq Bg;have key:∀(i) d,ds[i]?=a_ d->∃c',bI L.b i=a_ c'/\bO bI [] [] d c':=by
    intro i d hd;have Q:i<Z.length:=by rw[<-e1];exact(cK.1 hd).1
    obtain⟨c',q1,bt⟩:=hm k Z row L S hM i Z[i] (cy Q);exact⟨c',q1,ih (e2 i _ _ (cy Q) hd) bt⟩
   refine⟨?_,key⟩;have:=bO.fp (C:=bI) (off:=off) (λi=>(bI L.b i).getD undef) (λi d hd=>by
    obtain⟨c',q1,_⟩:=key i d hd;rw[gi,q1];rfl) (λi d hd=>by
    obtain⟨c',q1,bt⟩:=key i d hd;rw[q1];exact bt)
   simpa using this
  unfold dh at h;cases D with
  |v bl=>simp only at h;cases h;exact .v bl
  |bp=>simp only at h;cases h;exact .bp
  |agg hl hh=>
   rename_i Z cs';simp only[dA] at h;obtain⟨ds,Y,rfl⟩:=h;obtain⟨e1,e2⟩:=zq Y;refine .agg aa λi a b ha O=>?_;have Q:i<Z.length:=by rw[<-e1];exact(cK.1 ha).1
   exact ih (e2 i _ _ (cy Q) ha) (hh i _ b (cy Q) O)
  |bQ hl hh=>
   rename_i Z cs';simp only[dA] at h;obtain⟨ds,Y,rfl⟩:=h;obtain⟨e1,e2⟩:=zq Y;refine .bQ aa λi a b ha O=>?_;have Q:i<Z.length:=by rw[<-e1];exact(cK.1 ha).1
   exact ih (e2 i _ _ (cy Q) ha) (hh i _ b (cy Q) O)
  |sl f gH dF AW hR hT ir=>
   rename_i xs t a cap sz;simp only[dA] at h;obtain⟨ys,Y,rfl⟩:=h;obtain⟨e1,e2⟩:=zq Y;have el:∀(i) y,ys[i]?=a_ y->∃x,xs[i]?=a_ x/\y.cells.length=x.cells.length/\∀(j) d,y.cells[j]?=a_ d->∃c,x.cells[j]?=a_ c/\bO bI [] [] d (f i j):=by
    intro i y hy;have Q:i<xs.length:=by rw[<-e1];exact(cK.1 hy).1
    have I:=cy Q;have hf:=e2 i _ _ I hy;refine⟨xs[i],I,?_⟩;by_cases dZ:∃Z,xs[i]=.agg Z;obtain⟨Z,jb⟩:=dZ;rw[jb] at hf I⊢;cases n with
    |zero=>cases hf
    |succ n=>
     unfold dh at hf;simp only[dA] at hf;obtain⟨ds,q1,rfl⟩:=hf;obtain⟨g1,g2⟩:=zq q1;refine⟨g1,λj d hd=>?_⟩;have hj:j<Z.length:=by rw[<-g1];exact(cK.1 hd).1
     refine⟨Z[j],cy hj,?_⟩;have:=g2 j _ _ (cy hj) hd;have up:dh Ex (n+1) (.agg [Z[j]])=a_ (.agg [d]):=by
      unfold dh;simp[kz,this]
     have jd:bO C M J (.agg [Z[j]]) (.agg #[f i j]):=.agg rfl λi' a b ha O=>by
      cases i' with
      |zero=>simp at ha O;subst ha;subst O;exact hR i _ j _ I (cy hj)
      |succ i'=>simp at ha
     have:=ih up jd;cases this with
     |agg hl hh=>exact hh 0 d (f i j) rfl rfl
    have Yh:=λZ jb=>dZ ⟨Z,jb⟩;have G7:(xs[i]).cells=[xs[i]]:=by
     cases JT:xs[i] with
     |agg Z=>exact(Yh Z JT).elim
     |_=>rfl
    rw[(atN hf Yh),G7];refine⟨rfl,λj d hd=>?_⟩;cases j with
    |zero=>
     simp at hd;subst hd;exact⟨xs[i],rfl,ih hf (hR i _ 0 _ I (by rw[G7];rfl))⟩
    |succ j=>simp at hd
   rw[<-e1];refine .sl (sz:=sz) f (λbP=>gH (by intro e;subst e;simp at e1;exact bP e1)) (λi y hy=>?_) (λi y j d hy hd=>?_) (λi y j d hy hd=>?_) trivial (by rw[e1];exact ir);obtain⟨x,I,q1,_⟩:=el i y hy;rw[q1];exact dF i x I;obtain⟨x,I,_,bt⟩:=el i y hy;obtain⟨c,T,_⟩:=bt j d hd;exact hC _ _ _ (AW i x j c I T);obtain⟨x,I,_,bt⟩:=el i y hy;obtain⟨c,T,jd⟩:=bt j d hd;exact jd
  |fp f AW hR=>
   simp only[dA] at h;obtain⟨ds,Y,rfl⟩:=h;refine .fp f (λi d hd=>?_) λi d hd=>?_;obtain⟨c,T,_⟩:=amE Y hR i d hd;exact hC _ _ _ (AW i c T);obtain⟨c,_,q⟩:=amE Y hR i d hd;exact q
  |fx f AW hR=>cases h
  |eE I=>
   simp only[dA] at h;obtain⟨y,Y,rfl⟩:=h;exact .eE (ih Y I)
  |fn k8 ga hf T=>
   rename_i f fs Z k5 cs';simp only[gN,dA] at h;obtain⟨a,Y,b,V,rfl⟩:=h;obtain⟨e1,e2⟩:=zq Y;obtain⟨g1,g2⟩:=zq V;refine .fn aa aa (λi x y I hy=>?_) λi x y I hy=>?_;have Q:i<fs.length:=by rw[<-e1];exact(cK.1 I).1
   exact ih (e2 i _ _ (cy Q) I) (hf i _ y (cy Q) hy);have Q:i<Z.length:=by rw[<-g1];exact(cK.1 I).1
   exact ih (g2 i _ _ (cy Q) I) (T i _ y (cy Q) hy)
  |mp O hM=>
   simp only at h;split at h;rename_i Z S;simp only[dA] at h;obtain⟨ds,Y,rfl⟩:=h;exact(blk S hM Y _).1;cases h
  |rp O hM hn ha=>
   simp only at h;split at h;rename_i Z S;split at h;rename_i Co;simp only[dA] at h;obtain⟨ds,Y,rfl⟩:=h;have iT:=hz _ _ _ S;rw[O] at iT;cases iT;rw[ha Co];exact(blk S hM Y _).1;cases h;cases h
  |rs O hM hn ga ha=>
   rename_i k nn sz off len cap L cs0 a;simp only at h;split at h;rename_i Z S;split at h;rename_i Co;simp only[dA] at h;obtain⟨ds,Y,rfl⟩:=h;have iT:=hz _ _ _ S;rw[O] at iT;cases iT;obtain⟨a1,a2,a3,a4⟩:=ha Co;rw[a1];obtain⟨_,p5⟩:=blk S hM Y 0;have aKE:=(zq Y).1;have hge:∀(i) x,(sM sz ds off len)[i]?=a_ x->i<len/\x=.agg ((ds.drop (off+i*sz)).take sz):=by
    intro i x I;have Q:i<len:=by have:=(cK.1 I).1;rwa [Qq] at this
    rw[afq Q] at I;exact⟨Q,(lI I).symm⟩
   have Bb:∀i,i<len->off+i*sz+sz<=ds.length:=by
    intro i Q;have:(i+1)*sz<=len*sz:=qh _ Q;rw[uF] at this;omega
   have uc:∀(i) x (j) c,(sM sz ds off len)[i]?=a_ x->x.cells[j]?=a_ c->ds[off+i*sz+j]?=a_ c:=by
    intro i x j c I T;obtain⟨Q,rfl⟩:=hge i x I;simp only[jD] at T;have hj:j<sz:=by have:=(cK.1 T).1;simp at this;omega
    rwa [Dn hj,tE] at T
   have:=bO.sl (C:=bI) (t:=.no) (a:=⟨L.b,off,bn⟩) (sz:=sz) (λi j=>(bI L.b (off+i*sz+j)).getD undef) (λ_=>rfl) (λi x I=>by
    obtain⟨Q,rfl⟩:=hge i x I;have:=Bb i Q;simp only[jD,z8,z7];omega) (λi x j c I T=>by
    obtain⟨c',q1,bt⟩:=p5 _ _ (uc i x j c I T);dsimp only;rw[q1];rfl) (λi x j c I T=>by
    obtain⟨c',q1,bt⟩:=p5 _ _ (uc i x j c I T);rw[q1];exact bt) trivial (by rw[Qq];exact ga)
   rwa [Qq] at this
   cases h;cases h
  |gJ O hM=>cases h
  |gq O hM=>cases h
  |jq O hM=>cases h
  |iK O hM=>cases h
def avP{r:bg}(h:dh [] n x=a_ r):kC x r:=λC M J v D=>Rh (λ_ _ _ q=>q) (λk Z row L S=>aNH) (λk Z row S=>aNH) h D
def W6{as bs}(h:kz (dh [] n) as=a_ bs):oU as bs:=by
 obtain⟨e1,e2⟩:=zq h;exact⟨e1.symm,λi a b ha O=>avP (e2 i a b ha O)⟩
noncomputable def yE(C:Cells)(M:List Loc)(J:List br)(n:Nat)(w:World):Cells:=open Classical in λb o=>match C b o with
 |some v=>a_ v
 |none=>if∃(k:Nat) (L:Loc) (Z:List bg) (r:Bool),n<=k/\J[k]?=a_ (.cells Z r)/\M[k]?=a_ L/\L.b=b then w.cell? ⟨b,o,bn⟩ else bn
section
variable{G:Cells}{base n b o k:Nat}{w0:kY}{w:World}{C:Cells}{M:List Loc}{J:List br}{v:Value}{L:Loc}{Z:List bg}{r:Bool}
def Lg(h:C b o=a_ v):yE C M J n w b o=a_ v:=by unfold yE;rw[h]
def U1(h:yE C M J n w b o=a_ v):C b o=a_ v\/(∃(k:Nat) (L:Loc) (Z:List bg) (r:Bool),n<=k/\J[k]?=a_ (.cells Z r)/\M[k]?=a_ L/\L.b=b)/\w.cell? ⟨b,o,bn⟩=a_ v:=by
 unfold yE at h;split at h;rename_i hu;cases h;exact .inl hu;split at h;rename_i O;exact .inr ⟨O,h⟩;cases h
def U0(hs:cx G base w0 C M J w)(h:yE C M J n w b o=a_ v):qi G w b o v:=by
 rcases U1 h with q|⟨⟨k,L,Z,r,_,Y,V,rfl⟩,q⟩
 exact hs.o5 _ _ _ q;exact⟨q,λ_ _=>(hs.cells k Z r L Y V).2.2.2.1⟩
def U3(hs:cx G base w0 C M J w)(h:yE C M J n w b o=a_ v):C b o=a_ v\/base<=b:=by
 rcases U1 h with q|⟨⟨k,L,Z,r,_,Y,V,rfl⟩,q⟩
 exact .inl q;exact .inr (hs.at V).2
def U2(hs:cx G base w0 C M J w)(hn:n<=k)(S:J[k]?=a_ (.cells Z r))(hM:M[k]?=a_ L)(i:Nat):yE C M J n w L.b i=w.cell? ⟨L.b,i,bn⟩:=by
 unfold yE;rw[(hs.cells k Z r L S hM).2.2.2.2.1 i];simp only;rw[if_pos ⟨k,L,Z,r,hn,S,hM,rfl⟩]
end
def eM{G}{P}{f}{args}{bR:bg}(h:cw G P f args [] λr bl=>∃n,dh bl n r=a_ bR):cV G P f args bR:=
 ⟨h.1,λC w dj hg T D=>(h.2 w.heap.size ⟨w,C⟩ C [] w dj (ape hg T) D).mono λe w' ⟨bI,M',bl,r,v',⟨n,A9⟩,he,bK,eD,jd⟩=>by
  refine⟨yE bI M' bl 0 w',v',he,λb o v q=>Lg (bK.C b o v q),λb o v q=>?_,λb o v q=>U0 eD q,eD.below,?_,trivial⟩
  rcases U3 eD q with hu|O
  rcases er b w.heap.size with O|O
  exact bD (eD.old b o v hu O);exact bF O;exact bF O;refine Rh (λb o v q=>Lg q) (λk Z row L S hM i c T=>?_) (λ_ _ _ q=>q) A9 jd;obtain⟨c',q1,bt⟩:=(eD.cells k Z row L S hM).2.2.1 i c T;exact⟨c',by rw[U2 eD (gW _) S hM];exact q1,bt⟩⟩
end
section
variable{α:Type}{k n:Nat}{x:bg}{v:Value}{J:List br}{f:FuncId}{args:List bg}
inductive lA(n:Nat):bg->Prop
 |v {x:Value}:lA n (.v x)
 |agg {Z:List bg} (h:∀(i:Nat) c,Z[i]?=a_ c->lA n c):lA n (.agg Z)
 |bQ {Z:List bg} (h:∀(i:Nat) c,Z[i]?=a_ c->lA n c):lA n (.bQ Z)
 |bp:lA n .bp
 |sl {xs:List bg} {t:nR} (ht:∀id,t=.tok id->id<n) (h:∀(i:Nat) x (j:Nat) c,xs[i]?=a_ x->x.cells[j]?=a_ c->lA n c):lA n (.sl xs t)
 |fp {Z:List bg} {off:Nat} (h:∀(i:Nat) c,Z[i]?=a_ c->lA n c):lA n (.fp Z off)
 |fx {Z:List bg} {b o:Nat} (h:∀(i:Nat) c,Z[i]?=a_ c->lA n c):lA n (.fx Z b o)
 |mp {k off:Nat} (h:k<n):lA n (.mp k off)
 |rp {k m off:Nat} (h:k<n):lA n (.rp k m off)
 |rs {k m sz off len:Nat} (h:k<n):lA n (.rs k m sz off len)
 |gJ {k:Nat} (h:k<n):lA n (.gJ k)
 |gw {ch:List PanicEntry}:lA n (.gw ch)
 |fn {f:Fn} {fs Z:List bg} (Y:∀(i:Nat) c,fs[i]?=a_ c->lA n c) (V:∀(i:Nat) c,Z[i]?=a_ c->lA n c):lA n (.fn f fs Z)
 |eE {t:TypeId} {x:bg} (h:lA n x):lA n (.eE t x)
 |gq {k:Nat} (h:k<n):lA n (.gq k)
 |jq {k:Nat} (h:k<n):lA n (.jq k)
 |iK {k:Nat} {t:TypeId×Nat} (h:k<n):lA n (.iK k t)
section
variable{G:Cells}{P:Program}{C:Cells}{M:List Loc}{J:List br}
def qt{l:List α}{x:α}(h:l[k]?=a_ x):k<l.length:=(cK.1 h).1
def QX{l:List bg}{a:Array α}(hl:l.length=a.size){i:Nat}{c:bg}(T:l[i]?=a_ c):∃b,a[i]?=a_ b:=⟨_,wU (by rw[<-hl];exact qt T)⟩
def bO.low(h:bO C M J x v):lA J.length x:=by
 induction h with
 |v h=>exact .v
 |agg hl h ih=>
  refine .agg λi c T=>?_;obtain⟨b,O⟩:=QX hl T;exact ih i c b T O
 |bQ hl h ih=>
  refine .bQ λi c T=>?_;obtain⟨b,O⟩:=QX hl T;exact ih i c b T O
 |bp=>exact .bp
 |sl f gH dF hC hR hT ir ih=>
  refine .sl (λid e=>?_) ih;subst e;obtain⟨n,s,ty,L,q1,_⟩:=hT;exact qt q1
 |fp f hC hR ih=>exact .fp ih
 |fx f hC hR ih=>exact .fx ih
 |mp O hM=>exact .mp (qt O)
 |rp O hM hn ha=>exact .rp (qt O)
 |rs O hM hn ga ha=>exact .rs (qt O)
 |gJ O hM=>exact .gJ (qt O)
 |fn k8 ga hf T G_ G9=>
  refine .fn (λi c h=>?_) λi c h=>?_;obtain⟨b,O⟩:=QX k8 h;exact G_ i c b h O;obtain⟨b,O⟩:=QX ga h;exact G9 i c b h O
 |eE h ih=>exact .eE ih
 |gq O hM=>exact .gq (qt O)
 |jq O hM=>exact .jq (qt O)
 |iK O hM=>exact .iK (qt O)
def lH{l:List α}(h:k<n):(l.take n)[k]?=l[k]? :=by
 rw[UI];simp[h]
def bO.aIh(h:bO C M J x v):lA n x->bO C (M.take n) (J.take n) x v:=by
 induction h with
 |v h=>intro _;exact .v h
 |agg hl h ih=>intro hL;cases hL with|agg q=>exact .agg hl λi a b ha O=>ih i a b ha O (q i a ha)
 |bQ hl h ih=>intro hL;cases hL with|bQ q=>exact .bQ hl λi a b ha O=>ih i a b ha O (q i a ha)
 |bp=>intro _;exact .bp
 |sl f gH dF hC hR hT ir ih=>
  intro hL;cases hL with
  |sl ht q=>
   refine .sl f gH dF hC (λi x j c I T=>ih i x j c I T (q i x j c I T)) ?_ ir;rename_i xs t a cap sz;cases t with
   |exact=>exact hT
   |no=>exact hT
   |tok id=>
    have hid:=ht id rfl;obtain⟨n',s,ty,L,q1,bt,bV⟩:=hT;exact⟨n',s,ty,L,by rw[lH hid];exact q1,by rw[lH hid];exact bt,bV⟩
 |fp f hC hR ih=>intro hL;cases hL with|fp q=>exact .fp f hC λi c T=>ih i c T (q i c T)
 |fx f hC hR ih=>intro hL;cases hL with|fx q=>exact .fx f hC λi c T=>ih i c T (q i c T)
 |mp O hM=>intro hL;cases hL with|mp q=>exact .mp aL4 aLZ
 |rp O hM hn ha=>intro hL;cases hL with|rp q=>exact .rp aL4 aLZ hn ha
 |rs O hM hn ga ha=>intro hL;cases hL with|rs q=>exact .rs aL4 aLZ hn ga ha
 |gJ O hM=>intro hL;cases hL with|gJ q=>exact .gJ aL4 aLZ
 |fn k8 ga hf T G_ G9=>intro hL;cases hL with|fn q1 bt=>exact .fn k8 ga (λi a b ha O=>G_ i a b ha O (q1 i a ha)) λi a b ha O=>G9 i a b ha O (bt i a ha)
 |eE h ih=>intro hL;cases hL with|eE q=>exact .eE (ih q)
 |gq O hM=>intro hL;cases hL with|gq q=>exact .gq aL4 aLZ
 |jq O hM=>intro hL;cases hL with|jq q=>exact .jq aL4 aLZ
 |iK O hM=>intro hL;cases hL with|iK q=>exact .iK aL4 aLZ
def oC(n:Nat)(J:List br):List br:=fB n (.tok 0 0 0)++J.drop n
def amP{Z}{r}(h:(oC n J)[k]?=a_ (.cells Z r)):n<=k/\J[k]?=a_ (.cells Z r):=by
 unfold oC at h
 rcases er k n with q|q
 rw[fY ak] at h;rw[List.getElem?_replicate] at h;split at h<;>simp at h;rw[gh ak] at h;simp only[List.length_replicate,tE] at h;exact⟨q,by rw[<-h];congr 1;omega⟩
def aDN(n)(J):oC n (J.map b7)=(oC n J).map b7:=by
 unfold oC;rw[gC,List.map_replicate,List.map_drop];rfl
def WJ{b b'}(h:b7 b=b7 b'):(b'=b\/(∃st pd bU ps ok,b=.b8 st pd bU ps ok)\/(∃c c',b=.obj (.deferred c)/\b'=.obj (.deferred c'))):=by
 cases b with
 |cells Z r=>cases b' with
  |cells cs' r'=>left;exact h.symm
  |obj o=>cases o<;>cases h
  |_=>cases h
 |tok n s e=>cases b' with
  |tok n' s' e'=>left;exact h.symm
  |obj o=>cases o<;>cases h
  |_=>cases h
 |eT es cH=>cases b' with
  |eT mS ny=>left;exact h.symm
  |obj o=>cases o<;>cases h
  |_=>cases h
 |b8 st pd bU ps ok=>right;left;exact⟨_,_,_,_,_,rfl⟩
 |obj o=>
  cases o with
  |deferred c=>cases b' with
   |obj o'=>cases o'<;>first|(right;right;exact⟨_,_,rfl,rfl⟩)|cases h
   |_=>cases h
  |_=>cases b' with
   |obj o'=>left;cases o'<;>first|exact h.symm|cases h
   |_=>cases h
def cw.afw{hi:bg->List br->Prop}(h:cw G P f args J λr bl=>(bl.map b7).take J.length=J.map b7/\gr J bl/\∃n bR,dh (oC J.length bl) n r=a_ bR/\hi bR (bl.take J.length)):
  cw G P f args J λr bl=>hi r bl:=by
 classical
 refine⟨h.1,λbase w0 C M w dj hs D=>(h.2 base w0 C M w dj hs D).mono ?_⟩;rintro e w' ⟨bI,M',bl,r,v',⟨R4,RM,n,bR,A9,hq⟩,he,bK,eD,jd⟩;have hN:=bK.length;have aKr:=hs.fV
 let Dr:Cells:=yE bI M' bl J.length w'
 have AX:∀b o v,bI b o=a_ v->Dr b o=a_ v:=λb o v q=>Lg q;have Yc:∀{k:Nat} {b:br},J[k]?=a_ b->∃b',bl[k]?=a_ b'/\b7 b=b7 b':=λ{k b} O=>by
  have S:=qt O;have:((bl.map b7).take J.length)[k]?=(J.map b7)[k]? :=by rw[R4]
  rw[lH S,e9,e9,O] at this;cases hb':bl[k]? with
  |none=>rw[hb'] at this;cases this
  |some b'=>rw[hb'] at this;exact⟨b',rfl,by simpa using this.symm⟩
 have XL:∀{k:Nat} {Z} {fz:Bool},k<J.length->bl[k]?=a_ (.cells Z fz)->J[k]?=a_ (.cells Z fz):=λ{k Z fz} S hb'=>by
  obtain⟨b,O⟩:∃b,J[k]?=a_ b:=⟨_,cy S⟩;obtain⟨b2,Y,V⟩:=Yc O;rw[hb'] at Y;cases Y
  rcases WJ V with q|⟨_,_,_,_,_,q⟩|⟨_,_,_,q⟩
  rw[O,q];rw[q] at V;cases V;cases q
 have Jm:∀{k:Nat},k<J.length->M'[k]?=M[k]? :=λ{k} S=>by
  obtain⟨b,O⟩:∃b,J[k]?=a_ b:=⟨_,cy S⟩;obtain⟨b2,Y,V⟩:=Yc O;cases b with
  |cells Z fz=>
   obtain⟨cs',q1,_,bV,_⟩:=bK.cells k Z fz O;have:=XL S q1;rw[O] at this;cases this;exact bV λ_=>rfl
  |tok n s ty=>
   obtain⟨n',q1,_,bV,_⟩:=bK.toks k n s ty O;rw[Y] at q1;cases q1
   rcases WJ V with q|⟨_,_,_,_,_,q⟩|⟨_,_,q,_⟩
   cases q;exact bV rfl;cases q;cases q
  |obj o=>exact(bK.gK k _ rfl O).2
  |eT es cH=>exact(bK.gK k _ rfl O).2
  |b8 st pd bU ps ok=>exact(bK.gK k _ rfl O).2
 have Nd:∀{k:Nat} {L:Loc} {o:Nat},k<J.length->M'[k]?=a_ L->bI L.b o=bn->Dr L.b o=bn:=λ{k L o} S hM T=>by
  cases q:Dr L.b o with
  |none=>rfl
  |some v=>
   rcases U1 q with e|⟨⟨k',L',_,_,Y,_,V,h3⟩,_⟩
   rw[T] at e;cases e;exact(eD.apart k' k L' L aa V hM h3).elim
 have R6:∀{x:bg} {v},lA J.length x->bO bI M' bl x v->bO Dr (M'.take J.length) (bl.take J.length) x v:=λhl D=>by
  have Y:=D.aIh hl;exact Y.mono ⟨AX,λk Z fz q=>⟨Z,q,λ_=>cc _,λ_=>rfl,λq=>q⟩,λk n s ty q=>⟨n,q,cc _,λ_=>rfl,λq=>q⟩,λk b O q=>⟨⟨b,q,br.like.refl b⟩,rfl⟩⟩
 have cX:∀{k:Nat} {b:br},(bl.take J.length)[k]?=a_ b->k<J.length/\bl[k]?=a_ b:=λ{k b} O=>by
  have S:k<J.length:=by have:=qt O;rw[z8] at this;omega
  rw[lH S] at O;exact⟨S,O⟩
 have M7:∀{k:Nat} {L:Loc},k<J.length->(M'.take J.length)[k]?=a_ L->M'[k]?=a_ L:=λ{k L} S O=>by
  rw[lH S] at O;exact O
 refine⟨Dr,M'.take J.length,bl.take J.length,bR,v',hq,he,?_,?_,?_⟩;refine⟨λb o v q=>AX _ _ _ (bK.C b o v q),λk Z fz S=>?_,λk n s ty S=>?_,λk b O S=>?_⟩;have e7:=qt S;obtain⟨cs',q1,_⟩:=bK.cells k Z fz S;have:=XL e7 q1;rw[S] at this;cases this;exact⟨Z,aN2,λ_=>cc _,λ_=>by rw[lH e7];exact Jm e7,λq=>by rw[lH e7,Jm e7];exact q⟩;have e7:=qt S;obtain⟨n',q1,bt,bV,fU⟩:=bK.toks k n s ty S;exact⟨n',aN2,bt,λ_=>by rw[lH e7];exact Jm e7,λq=>by rw[lH e7,Jm e7];exact q⟩;have e7:=qt S;obtain⟨⟨b',q1,bt⟩,bV⟩:=bK.gK k b O S;exact⟨⟨b',aN2,bt⟩,by rw[lH e7];exact bV⟩;refine⟨eD.below,eD.ou,λb o v q O=>?_,λb o v q=>AX _ _ _ (eD.tX b o v q),?_,λb o v q=>?_,λk Z fz L S hM=>?_,λk n s ty L S hM=>?_,λk k' L L' bP hM eK=>?_,λk b L O S hM=>?_⟩
 rcases U3 eD q with hu|hu
 exact eD.old b o _ hu O;omega;rw[z8,z8,eD.fV];exact U0 eD q;obtain⟨e7,iT⟩:=cX S;have eK:=M7 e7 hM;obtain⟨t1,t2,t3,t4,t5,t6,t7⟩:=eD.cells k Z fz L iT eK;refine⟨t1,t2,λi c T=>?_,t4,λo=>Nd e7 eK (t5 o),t6,t7⟩;obtain⟨c',q1,bt⟩:=t3 i c T;refine⟨c',q1,R6 ?_ bt⟩;rw[Jm e7] at eK;obtain⟨_,_,eA,_⟩:=hs.cells k Z fz L (XL e7 iT) eK;obtain⟨c0,_,bV⟩:=eA i c T;exact bV.low;obtain⟨e7,iT⟩:=cX S;have eK:=M7 e7 hM;obtain⟨t1,t2,t3,t4,t5,t6⟩:=eD.toks k n s ty L iT eK;exact⟨t1,t2,t3,λo ho=>Nd e7 eK (t4 o ho),t5,t6⟩;have e1:k<J.length:=by have:=qt hM;rw[z8] at this;omega
 have e2:k'<J.length:=by have:=qt eK;rw[z8] at this;omega
 exact eD.apart k k' L L' bP (M7 e1 hM) (M7 e2 eK);obtain⟨e7,iT⟩:=cX S;have eK:=M7 e7 hM;obtain⟨t1,o,t2,t3,t4⟩:=eD.gK k b L O iT eK;refine⟨t1,o,t2,t3,?_⟩;obtain⟨b0,lV⟩:∃b,J[k]?=a_ b:=⟨_,cy e7⟩;obtain⟨b2,Y,V⟩:=Yc lV;rw[iT] at Y;cases Y;have Rt:M[k]?=a_ L:=by rw[<-Jm e7];exact eK
 cases b with
 |obj o'=>exact t4
 |eT es cH=>
  rcases WJ V with q|⟨_,_,_,_,_,q⟩|⟨_,_,_,q⟩
  subst q;obtain⟨_,o0,_,_,au5,_,wj,MY⟩:=hs.gK k _ L rfl lV Rt;obtain⟨fE,e1,e2,di⟩:=t4;refine⟨fE,e1,e2,λi a b ha O=>?_⟩;obtain⟨b1,iC⟩:∃b1,au5.toList[i]?=a_ b1:=⟨_,cy (by rw[<-wj];exact qt ha)⟩;obtain⟨u1,u2,_⟩:=MY i a b1 ha iC;obtain⟨v1,v2,v3⟩:=di i a b ha O;exact⟨R6 u1.low v1,R6 u2.low v2,v3⟩;rw[q] at V;cases V;cases q
 |b8 st pd bU ps ok=>
  obtain⟨fn,tmps,assign,body,hr,e1,e2,di,eW⟩:=t4;refine⟨fn,tmps,assign,body,hr,e1,e2,di,λi a b ha O=>R6 ?_ (eW i a b ha O)⟩;cases b0 with
  |b8 rB anZ as4 aE8 aED=>
   obtain⟨fX,lG,q⟩:=RM k rB anZ as4 aE8 aED lV;rw[iT] at q;cases q;obtain⟨_,o0,_,_,aKf,aIf,aJE,aJO,aJA,_,_,g3,g4⟩:=hs.gK k _ L rfl lV Rt;obtain⟨b1,iC⟩:∃b1,aIf[i]?=a_ b1:=⟨_,wU (by rw[<-g3];exact qt ha)⟩;exact(g4 i a b1 ha iC).low
  |obj o=>cases o<;>cases V
  |_=>cases V
 |cells Z fz=>cases O
 |tok n s e=>cases O
 refine(Rh AX (λk Z row L S hM i c T=>?_) (λk Z row S=>((amP S).2)) A9 jd).mono Sw;obtain⟨gZ,hk2⟩:=amP S;obtain⟨t1,t2,t3,t4,t5,_⟩:=eD.cells k Z row L hk2 hM;obtain⟨c',q1,bt⟩:=t3 i c T;exact⟨c',(U2 eD gZ hk2 hM i).trans q1,bt⟩
def cw.close{bR:bg}(h:cw G P f args J λr bl=>(bl.map b7).take J.length=J.map b7/\gr J bl/\∃n,dh (oC J.length bl) n r=a_ bR):
  cw G P f args J λr bl=>r=bR/\bl.map b7=J.map b7/\gr J bl:=by
 refine cw.afw (cm h ?_);rintro r bl ⟨R4,RM,n,A9⟩;refine⟨R4,RM,n,bR,A9,rfl,?_,?_⟩;rw[acT];exact R4;intro k st pd bU ps ok S;obtain⟨fX,lG,q⟩:=RM k st pd bU ps ok S;exact⟨fX,lG,by rw[lH (qt S)];exact q⟩
def cw.Wh{hi:bg->Prop}(h:cw G P f args J λr bl=>(∃l,bl=J++l)/\∃n bR,dh (oC J.length bl) n r=a_ bR/\hi bR):
  cw G P f args J λr bl=>hi r/\bl=J:=by
 refine cw.afw (cm h ?_);rintro r bl ⟨⟨l,rfl⟩,n,bR,hf,hq⟩;have e1:(J++l).take J.length=J:=Pr rfl;exact⟨by rw[<-acT,e1],Bo,n,bR,hf,hq,e1⟩
end
end
end Go.bM

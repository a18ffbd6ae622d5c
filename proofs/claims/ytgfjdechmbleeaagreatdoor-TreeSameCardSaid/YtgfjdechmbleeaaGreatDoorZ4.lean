/- Part 4 of a proof. No condition. -/
import Derived.Test.YtgfjdechmbleeaaGreatDoorZ3
import Derived.RecoverIn
import Derived.HandedShaped
import Derived.Handed
import Derived.ProofKit
import Derived.OpenShut
set_option linter.unusedVariables false
set_option linter.unusedSimpArgs false
set_option linter.defProp false
open Array renaming getElem?_eq_getElem->vJ,getElem?_eq_some_iff->yU,length_toList->aob,replicate->AK
open Bool renaming and_eq_true->fA,false->bf,false_eq_true->kz,or_eq_true->Ek,true->bh
open Go.bP.bg renaming cells->jy,mp->cS,one->cr,v->cU
open Go.bP.cy renaming mono->cm
open Go.bP.hO renaming mono->gE
open Go.bP.jK renaming mono->vK
open Go.bP.vY renaming mono->aaf
open Go.bP.cY renaming refl->n3
open Go.bP.rG renaming HH->SD
open Go.Act renaming eval->Nx
open Go.Builtin renaming unsafeString_->aai
open Go.DataW renaming TrodAll->SE,trod->SF
open Go.Deferred renaming ofValue->En
open Go.Fence renaming wide->yW
open Go.IntKind renaming bits->JI,i64->dy,signed->JJ,u64->GS,wrap->aap
open Go.OpenSpec renaming ofChange->aas
open Go.Region renaming wanted->aau
open Go.Sem renaming run_pure->lK
open Go.Value renaming okWide->NF
open Go.World renaming cell?->Es,frozen?->NG,shape?->JM
open List renaming all_cons->oJ,all_eq_true->eO,any_eq_true->GX,append_nil->hJ,drop_drop->y2,drop_zero->pg,eq_nil_of_length_eq_zero->nF,getElem?_append_left->fE,getElem?_append_right->fF,getElem?_cons_succ->y4,getElem?_drop->sx,getElem?_eq_getElem->cx,getElem?_eq_some_iff->cJ,getElem?_map->fL,getElem?_set_ne->bC,getElem?_set_self->bV,getElem?_take->SP,getElem?_take_of_lt->Cr,getElem_of_mem->Eu,length_append->en,length_drop->y5,length_map->dj,length_nil->iP,length_take->Cs,map_append->gQ,map_cons->fM,map_set->xw,map_take->aoG,mem_cons->fB,replicate->e3,take_append_drop->aaJ,take_left'->SU
open Nat renaming add_zero->uE,le_refl->ck,lt_or_ge->d_,mul_le_mul_right->pq,sub_zero->GZ,succ_mul->tB,zero_add->gF,zero_le->jR
open Option renaming bind_eq_some_iff->gu,bind_some->l7,filter->SZ,getD_some->vW,isSome_none->A2,map_eq_some_iff->dm,map_some->jS,none->bn,some->a_
open Option.some renaming inj->mY,injEq->mJ
open Or renaming inl->bD,inr->bF
open Prod.mk renaming injEq->xx
namespace Go.bP
open Go.RowKit
section
variable{J:List br}{nX lZ:TypeId}{iN p1:String}{nM oa:Array Edge}{a:Act}{w:World}{hb:mN}{g:FuncId}{args:List bg}
structure apl where
 ntmps:Nat
 d0:Nat
 d1:Nat
 body:qd
def alv(o1 o2:Oper):Option (Nat×Nat):=match o1 with
 |{dst:=a_ d0,op:=.call {callee:=.builtin .recover,args:=⟨[]⟩,argTypes:=_},type:=_,pos:=_,after:=_,guard:=bn}=>match o2 with
  |{dst:=a_ d1,op:=.assign (.tmp t),type:=_,pos:=_,after:=_,guard:=bn}=>if t=d0 then a_ (d0,d1) else bn
  |_=>bn
 |_=>bn
def Jt(P:Program)(hb:mN)(g:FuncId):Option apl:=match P.funcs[g]? with
 |some fn=>if fn.name== "runtime.NumGoroutine" then bn else match fn.results.toList with
  |[]=>match fn.body with
   |some (.seq (.region _ ⟨[o1,o2]⟩ bf) rest)=>match alv o1 o2,slim P hb rest with
    |some (d0,d1),a_ sc=>if d0<fn.ntmps/\d1<fn.ntmps/\d0≠d1 then a_ ⟨fn.ntmps,d0,d1,sc⟩ else bn
    |_,_=>bn
   |_=>bn
  |_=>bn
 |none=>bn
def kB(G:Cells)(P:Program)(g:FuncId)(args:List bg)(J:List br)(x:Option Value)(K:List br->Prop):Prop:=
 Enters P g/\∀base w0 C M w cZ,ct G base w0 C M J w->dn C M J args cZ->
  CallsDIn yW 0 P g cZ.toArray (match x with|none=>.returning|some v=>.panicking [{v:=v,recovered:=bf}]) w λe u' w'=>
   ∃bI M' bl v,K bl/\e=.returned v/\settle u'=.returning/\cY C M J bI M' bl/\ct G base w0 bI M' bl w'
def pY:Option bg->bg
 |none=>.v .nilIface
 |some x=>x
def lE:bg->Bool
 |.v x=>plain x
 |.agg Z=>I8 Z
 |_=>bf
where I8:List bg->Bool
 |[]=>bh
 |x::r=>lE x&&I8 r
mutual
theorem alA{C:Cells}{M:List Loc}{J:List br}:∀{x:bg} {v:Value},lE x=bh->rG x=a_ v->bO C M J x v
 |.v x,v,h,T=>by
  simp only[rG,mJ] at T;subst T;exact .v (by simpa[lE] using h)
 |.agg Z,v,h,T=>by
  simp only[rG,dm] at T;obtain⟨l,Y,rfl⟩:=T;have:=alB (C:=C) (M:=M) (J:=J) (by simpa[lE] using h) Y;exact .agg (by simpa using this.1) (λi a b ha O=>this.2 i a b ha aH)
 |.bQ _,_,h,_=>aI
 |.bp,_,h,_=>aI
 |.sl _ _,_,h,_=>aI
 |.fp _ _,_,h,_=>aI
 |.fx _ _ _,_,h,_=>aI
 |.mp _ _,_,h,_=>aI
 |.rp _ _ _,_,h,_=>aI
 |.rs _ _ _ _ _,_,h,_=>aI
 |.gm _,_,h,_=>aI
 |.fV _,_,h,_=>aI
 |.fn _ _ _,_,h,_=>aI
 |.ep _ _,_,h,_=>aI
 |.fR _,_,h,_=>aI
 |.iV _,_,h,_=>aI
 |.h_ _ _,_,h,_=>aI
theorem alB{C:Cells}{M:List Loc}{J:List br}:∀{xs:List bg} {vs:List Value},lE.I8 xs=bh->SD xs=a_ vs->dn C M J xs vs
 |[],vs,_,T=>by
  simp only[SD,mJ] at T;subst T;exact⟨rfl,λi a b ha O=>by simp at ha⟩
 |x::r,vs,h,T=>by
  simp only[lE.I8,fA] at h;simp only[SD] at T;split at T;rename_i a l Y V;cases T;have k1:=alA (C:=C) (M:=M) (J:=J) h.1 Y;have k2:=alB (C:=C) (M:=M) (J:=J) h.2 V;refine⟨by simp[k2.1],λi a b ha O=>?_⟩;cases i with
  |zero=>simp at ha O;subst ha;subst O;exact k1
  |succ i=>simp at ha O;exact k2.2 i a b ha O
  cases T
end
def w7:bg->Bool
 |.ep _ x=>lE x
 |_=>bf
def aBH{C}{M}{x:bg}{v}(h:w7 x=bh)(T:qJ x=a_ v):bO C M J x v:=by
 cases x with
 |ep t x=>
  simp only[qJ,dm] at T;obtain⟨a,Y,rfl⟩:=T;exact .ep (alA (by simpa[w7] using h) Y)
 |_=>simp[w7] at h
section
variable{G:Cells}{P:Program}
def BZ(d0:Nat)(yM:Array TypeId)(nX:TypeId)(iN:String)(nM:Array Edge):Oper:={dst:=a_ d0,op:=.call {callee:=.builtin .recover,args:=⟨[]⟩,argTypes:=yM},type:=nX,pos:=iN,after:=nM,guard:=bn}
def CO(d1 d0:Nat)(lZ:TypeId)(p1:String)(oa:Array Edge):Oper:={dst:=a_ d1,op:=.assign (.tmp d0),type:=lZ,pos:=p1,after:=oa,guard:=bn}
def alw{hi}{d0 d1}{yM}{Z}(hd:d0<a.tmps.size){rv}{cs'}
  (D:(recoverD Z=bn/\rv=.nilIface/\cs'=Z)\/recoverD Z=a_ (rv,cs')) (hq:hi .normal ((a.put (a_ d0) rv).put (a_ d1) rv) cs' w):
  wpOpsSIn yW 0 P ⟨[BZ d0 yM nX iN nM,CO d1 d0 lZ p1 oa]⟩ hi [0,1] a Z w:=by
 have e1:(execOp a.eval (BZ d0 yM nX iN nM)).run P w=.ok .recover w:=by
  simp[execOp,resolve,invoke,builtin,BZ]
 have e2:∀OV,hi .normal ((a.put (a_ d0) rv).put (a_ d1) rv) OV w->wpOpsSIn yW 0 P ⟨[BZ d0 yM nX iN nM,CO d1 d0 lZ p1 oa]⟩ hi [1] (a.put (a_ d0) rv) OV w:=by
  intro OV hq;have:(a.put (a_ d0) rv).eval (.tmp d0)=rv:=by simp[Nx,Act.put,hd]
  have dc:(execOp (a.put (a_ d0) rv).eval (CO d1 d0 lZ p1 oa)).run P w=.ok (.value rv) w:=by
   simp only[execOp,CO,lK,this]
  have eL:(⟨[BZ d0 yM nX iN nM,CO d1 d0 lZ p1 oa]⟩:Array Oper)[1]?=a_ (CO d1 d0 lZ p1 oa):=rfl;have nk:∀y,aau (CO d1 d0 lZ p1 oa) y=bh:=λ_=>rfl;simp only[wpOpsSIn,eL,nk,if_true,dc];exact⟨λ_ _=>trivial,hq⟩
 have eL:(⟨[BZ d0 yM nX iN nM,CO d1 d0 lZ p1 oa]⟩:Array Oper)[0]?=a_ (BZ d0 yM nX iN nM):=rfl;have nk:∀y,aau (BZ d0 yM nX iN nM) y=bh:=λ_=>rfl;have xT:(BZ d0 yM nX iN nM).dst=a_ d0:=rfl
 rcases D with⟨Y,rfl,rfl⟩|Y
 unfold wpOpsSIn;simp only[eL,nk,if_true,e1,Y,xT];exact⟨λ_ _=>trivial,e2 _ hq⟩;unfold wpOpsSIn;simp only[eL,nk,if_true,e1,Y,xT];exact⟨λ_ _=>trivial,e2 _ hq⟩
def aCF(v):settle (.panicking [{v:=v,recovered:=bh}])=.returning:=by rfl
def ary{d}(hg:Jt P hb g=a_ d){x}{v}{K}
  (I:match x,v with|none,bn=>True|some x,a_ v=>w7 x=bh/\qJ x=a_ v|_,_=>False)
  (h:jM G P d.body (λe s=>(e=.normal\/e=.ret)/\K s.J) ⟨((uW args d.ntmps).set d.d0 (pY x)).set d.d1 (pY x),J⟩):kB G P g args J v K:=by
 unfold Jt at hg;split at hg;rename_i fn qm;split at hg;cases hg;rename_i wM;split at hg;rename_i Qi;split at hg;rename_i id o1 o2 rest O;split at hg;rename_i d0 d1 sc Dx FM;split at hg;rename_i cQ;obtain⟨VT,x4,bR⟩:=cQ;cases hg;have agv:=Array.toList_inj.1 (by simpa using Qi);refine⟨⟨fn,qm,by rw[O];rfl,by simpa using wM⟩,λbase w0 C M w cZ hs D=>?_⟩;refine callsDIn_of_wpSIn qm O trivial λKC Z hu=>?_;unfold alv at Dx;split at Dx;rename_i aFO yM nX iN nM;split at Dx;rename_i Ut t1 lZ p1 oa;split at Dx;rename_i ht;subst ht;cases Dx;refine wpSIn_seq (wpSIn_region ?_);have key:∀(rv) (cs') (u'),bO C M J (pY x) rv->settle u'=.returning->cs'={KC with mode:=u'}::Z->
   rest.wpSIn yW 0 P (bodyPostS P fn KC Z λe u' w'=>∃bI M' bl v,K bl/\e=.returned v/\settle u'=.returning/\cY C M J bI M' bl/\ct G base w0 bI M' bl w')
    (({tmps:=cZ.toArray++AK (fn.ntmps-cZ.toArray.size) undef,defers:=[]}:Act).put (a_ d0) rv|>.put (a_ d1) rv) cs' w:=by
  intro rv cs' u' lU By PX;refine wpSIn_of_wpIn rfl ?_;have Bq:iy G .plain bn base w0 C M ⟨((uW args fn.ntmps).set d0 (pY x)).set d1 (pY x),J⟩ (({tmps:=cZ.toArray++AK (fn.ntmps-cZ.toArray.size) undef,defers:=[]}:Act).put (a_ d0) rv|>.put (a_ d1) rv) w:=
   ⟨hs,Bl (Bl (Pv D _) lU (a_ d0)) lU (a_ d1),rfl,trivial⟩
  refine wpIn_mono (h rest hb FM bn base w0 C M _ w Bq) λe a' w' ⟨bI,M',s',⟨he,hK⟩,bK,eM⟩=>?_;have hd:=eM.defers
  rcases he with rfl|rfl
  exact⟨hd,u',PX,.tuple #[],by simp[results,agv],bI,M',s'.J,_,hK,rfl,By,bK,eM.ku⟩;exact⟨hd,u',PX,.tuple #[],by simp[results,agv],bI,M',s'.J,_,hK,rfl,By,bK,eM.ku⟩
 have dG:d0<(cZ.toArray++AK (fn.ntmps-cZ.toArray.size) undef).size:=ah
 cases x with
 |none=>
  cases v with
  |some v=>exact I.elim
  |none=>
   have Qn:=hu;have Qh:recoverD (KC::Z)=bn:=by simp[recoverD,Qn]
   have:=key .nilIface (KC::Z) .returning (.v rfl) rfl (by cases KC;cases Qn;rfl);exact alw dG (bD ⟨Qh,rfl,rfl⟩) this
 |some x=>
  cases v with
  |none=>exact I.elim
  |some v=>
   have Qn:=hu;have:=key v _ (.panicking [{v:=v,recovered:=bh}]) (aBH I.1 I.2) (aCF v) rfl;exact alw dG (bF (by simp[recoverD,Qn])) this
 cases Dx;cases Dx;cases Dx;cases hg;cases hg;cases hg;cases hg;cases hg
structure apk where
 ntmps:Nat
 results:List iQ
 head:qd
 t:Nat
 g:FuncId
 caps:List dr
 body:qd
def BM(t:Nat)(g:FuncId)(Z:Array Operand)(nX:TypeId)(iN:String)(nM:Array Edge):Oper:={dst:=a_ t,op:=.makeFunc (.func g) ⟨[]⟩ Z,type:=nX,pos:=iN,after:=nM,guard:=bn}
def Bg(t:Nat)(xm:Array TypeId)(lZ:TypeId)(p1:String)(oa:Array Edge):Oper:={dst:=bn,op:=.defer {callee:=.value (.tmp t),args:=⟨[]⟩,argTypes:=xm},type:=lZ,pos:=p1,after:=oa,guard:=bn}
def adK(o1 o2:Oper):Option (Nat×FuncId×List dr):=match o1 with
 |{dst:=a_ t,op:=.makeFunc (.func g) ⟨[]⟩ Z,type:=_,pos:=_,after:=_,guard:=bn}=>match o2 with
  |{dst:=bn,op:=.defer {callee:=.value (.tmp t'),args:=⟨[]⟩,argTypes:=_},type:=_,pos:=_,after:=_,guard:=bn}=>if t'=t then(match tr Z.toList with|some l=>a_ (t,g,l)|none=>bn) else bn
  |_=>bn
 |_=>bn
def Jr(P:Program)(hb:mN)(f:FuncId):Option apk:=match P.funcs[f]? with
 |some fn=>if fn.name== "runtime.NumGoroutine" then bn else match fn.body with
  |some (.seq bS (.seq (.region _ ⟨[o1,o2]⟩ bf) rest))=>match adK o1 o2,slim P hb bS,slim P hb rest,D2 P fn.results.toList with
   |some (t,g,l),a_ h,a_ b,a_ rs=>if t<fn.ntmps then a_ ⟨fn.ntmps,rs,h,t,g,l,b⟩ else bn
   |_,_,_,_=>bn
  |_=>bn
 |none=>bn
def arB{hi}{t}{Z}{xm}(hd:t<a.tmps.size)
  (hq:hi .normal {(a.put (a_ t) (.func (.func g) #[] (Z.map a.eval))) with defers:={target:=.fn (.func g) (Z.map a.eval),args:= #[]}::a.defers} w):
  wpOpsIn (rj bn) 0 P ⟨[BM t g Z nX iN nM,Bg t xm lZ p1 oa]⟩ hi [0,1] a w:=by
 have e1:(execOp a.eval (BM t g Z nX iN nM)).run P w=.ok (.value (.func (.func g) #[] (Z.map a.eval))) w:=by
  simp[execOp,BM,Instr.makeFunc]
 have e2:(execOp (a.put (a_ t) (.func (.func g) #[] (Z.map a.eval))).eval (Bg t xm lZ p1 oa)).run P w=.ok (.defer {target:=.fn (.func g) (Z.map a.eval),args:= #[]}) w:=by
  have:(a.put (a_ t) (.func (.func g) #[] (Z.map a.eval))).eval (.tmp t)=.func (.func g) #[] (Z.map a.eval):=by simp[Nx,Act.put,hd]
  simp[execOp,Bg,resolve,this,En]
 have nk:(⟨[BM t g Z nX iN nM,Bg t xm lZ p1 oa]⟩:Array Oper)[0]?=a_ (BM t g Z nX iN nM):=rfl;have xT:(⟨[BM t g Z nX iN nM,Bg t xm lZ p1 oa]⟩:Array Oper)[1]?=a_ (Bg t xm lZ p1 oa):=rfl;have KG:(BM t g Z nX iN nM).dst=a_ t:=rfl;have arG:(Bg t xm lZ p1 oa).dst=bn:=rfl;have s1:(BM t g Z nX iN nM).semAt (rj bn).round a.eval=execOp a.eval (BM t g Z nX iN nM):=rfl;have s2:(Bg t xm lZ p1 oa).semAt (rj bn).round (a.put (a_ t) (.func (.func g) #[] (Z.map a.eval))).eval=execOp (a.put (a_ t) (.func (.func g) #[] (Z.map a.eval))).eval (Bg t xm lZ p1 oa):=rfl;unfold wpOpsIn;simp only[nk,λ_=>rfl,if_true];refine⟨λ_ _=>trivial,?_⟩;rw[s1,e1];simp only[Oper.uponIn,KG];unfold wpOpsIn;simp only[xT,λ_=>rfl,if_true];refine⟨λ_ _=>trivial,?_⟩;rw[s2,e2];simp only[Oper.uponIn,arG];exact hq
def arN(G:Cells)(P:Program)(g:FuncId)(ks:List Nat)(rs:List iQ)(K:bg->List br->Prop):Exit->er->Prop
 |.normal,s=>kB G P g (ks.map λk=>.mp k 0) s.J bn λbl=>∃r,tg ⟨s.ts,bl⟩ rs=a_ r/\K r bl
 |.ret,s=>kB G P g (ks.map λk=>.mp k 0) s.J bn λbl=>∃r,tg ⟨s.ts,bl⟩ rs=a_ r/\K r bl
 |.panic ch,s=>∃v,ch=[{v:=v,recovered:=bf}]/\kB G P g (ks.map λk=>.mp k 0) s.J (a_ v) λbl=>∃r,tg ⟨s.ts,bl⟩ rs=a_ r/\K r bl
 |_,_=>False
def asn{f}{d}(hf:Jr P hb f=a_ d){K}
  (h:jM G P d.head (λe s=>e=.normal/\d.t<s.ts.length/\∃ks:List Nat,d.caps.map (ev s.ts)=ks.map (λk=>.mp k 0)/\
    k8 G P (.rH d.g ks) d.body (arN G P d.g ks d.results K) ⟨s.ts.set d.t (.fn (.func d.g) [] (ks.map λk=>.mp k 0)),s.J⟩) ⟨uW args d.ntmps,J⟩):cy G P f args J K:=by
 unfold Jr at hf;split at hf;rename_i fn qm;split at hf;cases hf;rename_i wM;split at hf;rename_i bS id o1 o2 rest O;split at hf;rename_i t g l hd bd rs zZ hh at2 yd;split at hf;rename_i cQ;cases hf;unfold adK at zZ;split at zZ;rename_i t0 g0 cs0 nX iN nM;split at zZ;rename_i t1 xm lZ p1 oa;split at zZ;rename_i ht;subst ht;split at zZ;rename_i l' hl;cases zZ;refine⟨⟨fn,qm,by rw[O];rfl,by simpa using wM⟩,λbase w0 C M w cZ hs D=>?_⟩;refine callsIn_wide.1 (callsIn_of_wp_defers (n:=0) qm O trivial ?_);have hf:iy G .plain bn base w0 C M ⟨uW args fn.ntmps,J⟩ {tmps:=cZ.toArray++AK (fn.ntmps-cZ.toArray.size) undef,defers:=[]} w:=
  ⟨hs,Pv D _,rfl,trivial⟩
 refine wpIn_seq (wpIn_mono (h bS hb hh bn base w0 C M _ w hf) λe a1 w1 ⟨NS,J6,s1,⟨he,FP,ks,Bs,hT⟩,Dm,Ln⟩=>?_);subst he;have gT:dn NS J6 s1.J (ks.map λk=>.mp k 0) (cs0.map a1.eval).toList:=by
  have:=w9 Ln.frame hl;rw[Bs] at this;simpa using this
 have dG:t<a1.tmps.size:=by
  have:=Ln.frame.1;simp only[aob] at this;have aGF:t<s1.ts.length:=FP;omega
 refine wpIn_seq (wpIn_region ?_);refine arB dG ?_;have VX:iy G (.rH g ks) bn base w0 NS J6 ⟨s1.ts.set t (.fn (.func g) [] (ks.map λk=>.mp k 0)),s1.J⟩ {(a1.put (a_ t) (.func (.func g) #[] (cs0.map a1.eval))) with defers:={target:=.fn (.func g) (cs0.map a1.eval),args:= #[]}::a1.defers} w1:=by
  refine⟨Ln.ku,?_,⟨NS,cs0.map a1.eval,by rw[Ln.defers],gT⟩,rfl⟩;exact Bl Ln.frame (.fn rfl (by have:=gT.1;simpa using this) (λi x y I _=>aG) (λi x y I hy=>gT.2 i x y I (by simpa using hy))) (a_ t)
 refine wpIn_mono (hT rest hb at2 bn base w0 NS J6 _ w1 VX) λe a2 w2 ⟨Cv,M2,s2,hq,nu,VY⟩=>?_;obtain⟨Ey,cap,Fv,afI⟩:=VY.defers;have fin:∀(x) (u),u=(match x with|none=>.returning|some v=>.panicking [{v:=v,recovered:=bf}])->
   kB G P g (ks.map λk=>.mp k 0) s2.J x (λbl=>∃r,tg ⟨s2.ts,bl⟩ rs=a_ r/\K r bl)->
   LeavesIn yW 0 P fn a2.tmps (λe w'=>∃bI M' bl r v',K r bl/\e=.returned v'/\cY C M J bI M' bl/\ct G base w0 bI M' bl w'/\bO bI M' bl r v') a2.defers u w2:=by
  intro x u hu jE;rw[Fv];have aua:dn Cv M2 s2.J (ks.map λk=>.mp k 0) cap.toList:=by
   refine⟨afI.1,λi a b ha O=>?_⟩;have:=afI.2 i a b ha O;simp only[fL,dm] at ha;obtain⟨k,_,rfl⟩:=ha;cases this with
   |mp hb' eC=>exact .mp hb' eC
  refine leavesIn_cons (by rw[hu];cases x<;>simp) (λq=>av) (MZ jE.1 _ _) (λ_ _=>trivial) ?_;rw[hu];have e0:(#[]:Array Value)++cap=cap.toList.toArray:=af
  rw[e0];refine CallsDIn.mono (jE.2 base w0 Cv M2 w2 cap.toList VY.ku aua) λe u' w' ⟨ao1,ao9,wN,v,⟨r,lU,hK⟩,he,By,Dn,wP⟩=>?_;subst he;simp only;rw[By];obtain⟨v',BA,Al⟩:=Y3 (c6:=.plain) (ro:=bn) (s':=⟨s2.ts,wN⟩) (a':={tmps:=a2.tmps,defers:=[]}) yd ⟨wP,zO Dn VY.frame,rfl,trivial⟩ lU;exact⟨v',BA,ao1,ao9,wN,r,v',hK,rfl,Dm.trans (nu.trans Dn),wP,Al⟩
 cases e with
 |normal=>exact fin bn .returning rfl hq
 |ret=>exact fin bn .returning rfl hq
 |panic ch=>
  obtain⟨v,rfl,jE⟩:=hq;exact fin (a_ v) _ rfl jE
 |_=>exact hq.elim
 cases zZ;cases zZ;cases zZ;cases zZ;cases hf;cases hf;cases hf;cases hf
end
end
section
variable{v:bg}{F K:bg->List br->Prop}{n:Nat}{args ts xs ys:List bg}{t:n_}{i:iJ}{k:IntKind}{J l:List br}{b w:Bool}{a:Prop}{ops r:List dI}{α:Type}{d:Option Nat}{f g:FuncId}{ch:List PanicEntry}{G:Cells}{P:Program}{rs:List iQ}{hb pu:mN}
section
variable{P:Program}{K:er->Prop}{ts:List bg}{J:List br}{r:List dI}
def Z0(x:Option (bg×List br))(F:bg->List br->Prop):Prop:=∃v bl,x=a_ (v,bl)/\F v bl
def anS{bl}:Z0 (a_ (v,bl)) F=F v bl:=by
 apply propext;constructor;rintro⟨v',jr,h,k⟩;cases h;exact k;intro k;exact⟨v,bl,rfl,k⟩
section
variable(k:IntKind)(a b:Int)
def abx:dF .add (.v (.int k a)) (.v (.int k b))=a_ (.v (.int k (k.wrap (a+b)))):=aHv
def abG:dF .sub (.v (.int k a)) (.v (.int k b))=a_ (.v (.int k (k.wrap (a-b)))):=aHv
def abE:dF .mul (.v (.int k a)) (.v (.int k b))=a_ (.v (.int k (k.wrap (a*b)))):=aHv
def abz:dF .eql (.v (.int k a)) (.v (.int k b))=a_ (.v (.bool (a==b))):=aHv
def abF:dF .neq (.v (.int k a)) (.v (.int k b))=a_ (.v (.bool (a !=b))):=aHv
def abD:dF .lss (.v (.int k a)) (.v (.int k b))=a_ (.v (.bool (decide (a<b)))):=aHv
def abC:dF .leq (.v (.int k a)) (.v (.int k b))=a_ (.v (.bool (decide (a<=b)))):=aHv
def abB:dF .gtr (.v (.int k a)) (.v (.int k b))=a_ (.v (.bool (decide (b<a)))):=aHv
def abA:dF .geq (.v (.int k a)) (.v (.int k b))=a_ (.v (.bool (decide (b<=a)))):=aHv
def Tz(h:b≠0):dF .quo (.v (.int k a)) (.v (.int k b))=a_ (.v (.int k (k.wrap (a.tdiv b)))):=aJw
def TA(h:b≠0):dF .rem (.v (.int k a)) (.v (.int k b))=a_ (.v (.int k (a.tmod b))):=aJw
def apw(k')(h:¬b<0):dF .shl (.v (.int k a)) (.v (.int k' b))=a_ (.v (.int k (k.wrap (a*2^(min b.toNat k.bits))))):=aJw
def apx(k')(h:¬b<0):dF .shr (.v (.int k a)) (.v (.int k' b))=a_ (.v (.int k (a.fdiv (2^(min b.toNat k.bits))))):=aJw
def aby:dF .and (.v (.int k a)) (.v (.int k b))=a_ (.v (wq k a b (· &&& ·))):=aHv
def apv:dF .or (.v (.int k a)) (.v (.int k b))=a_ (.v (wq k a b (· ||| ·))):=aHv
end
def zk(x):e9 1 [.v x]=a_ (.sl [.v x] .exact):=aIc
def mP{i:Nat}{x:bg}(h:xs[i]?=a_ x)(hn:x.cells.length=n):cA n (.sl xs t) (.v (.int k (i:Int)))=a_ (.fp x.cells 0):=by simp[cA,h,hn]
def TH{bM}{off:Nat}{Z}{c:bg}(J)(h:eZ bM n Z off=a_ c):bA J bM n (.fp Z off)=a_ c:=h
def abI(a b):e9 1 [.v a,.v b]=a_ (.sl [.v a,.v b] .exact):=aIc
def abJ(a b c):e9 1 [.v a,.v b,.v c]=a_ (.sl [.v a,.v b,.v c] .exact):=aIc
def abK(a b c d):e9 1 [.v a,.v b,.v c,.v d]=a_ (.sl [.v a,.v b,.v c,.v d] .exact):=aIc
def abL(a b c d e f g h):e9 1 [.v a,.v b,.v c,.v d,.v e,.v f,.v g,.v h]=a_ (.sl [.v a,.v b,.v c,.v d,.v e,.v f,.v g,.v h] .exact):=aIc
def zl(off o:Nat)(Z):k9 off (.fp Z o)=a_ (.fp Z (o+off)):=rfl
def mh(off o k:Nat):k9 off (.mp k o)=a_ (.mp k (o+off)):=rfl
def cG(v:bg)(xs:List bg):Prop:=v=.sl xs .no\/(v=.bp/\xs=[])
def cG.len{v:bg}{xs}(h:cG v xs):Kj v=a_ (.v (goInt xs.length)):=by
 rcases h with rfl|⟨rfl,rfl⟩<;>rfl
def cG.cI(h:cG v xs){i:Nat}{x:bg}(I:xs[i]?=a_ x)(hn:x.cells.length=n):cA n v (.v (.int k (i:Int)))=a_ (.fp x.cells 0):=by
 rcases h with rfl|⟨rfl,rfl⟩
 exact mP I hn;simp at I
def cG.ns(h:cG v xs):∀s,v≠.v (.string s):=by
 rcases h with rfl|⟨rfl,rfl⟩<;>(intro s e;cases e)
def cN(v:bg)(J:List br):Option (bg×List br):=match v with
 |.v (.string _)=>bn
 |x'=>(Kj x').map λr=>(r,J)
def cG.cN{v:bg}{xs:List bg}(h:cG v xs)(J:List br):cN v J=a_ (.v (goInt xs.length),J):=by
 rcases h with rfl|⟨rfl,rfl⟩<;>rfl
def qq(xs)(t)(J):cN (.sl xs t) J=a_ (.v (goInt xs.length),J):=rfl
section
variable(ts:List bg)(J:List br)
def Hw(k o:Nat):uR (.mp k o)=a_ (.mp k o):=rfl
def ab1(Z)(o:Nat):uR (.fp Z o)=a_ (.fp Z o):=rfl
end
def TE(k k')(n:Int):Hq k (.v (.int k' n))=a_ (.v (.int k (k.wrap n))):=rfl
def Ee(n:Int):GS.wrap n=n % 18446744073709551616:=by simp[aap,JI,JJ]
def an1(n:Int):IntKind.u8.wrap n=n % 256:=by simp[aap,JI,JJ]
def gN{n:Int}(h0: -9223372036854775808<=n)(Y:n<=9223372036854775807):dy.wrap n=n:=by
 simp[aap,JI,JJ];split<;>omega
def cV(J:List br)(v:bg)(xs:List bg)(n:Nat)(e:TypeId):Prop:=(v=.bp/\xs=[])\/∃id,v=.sl xs (.tok id)/\J[id]?=a_ (.tok xs.length n e)
structure aaQ(J bl:List br)(v:bg):Prop where
 len:J.length<=bl.length
 cells:∀(k:Nat) Z fz,J[k]?=a_ (.cells Z fz)->bl[k]?=a_ (.cells Z fz)
 toks:∀(k:Nat) n s e,J[k]?=a_ (.tok n s e)->(∀xs,v≠.sl xs (.tok k))->bl[k]?=a_ (.tok n s e)
 gp:∀(k:Nat) b,b.isObj=bh->J[k]?=a_ b->bl[k]?=a_ b
def cV.nil(J)(n:Nat)(e):cV J .bp [] n e:=bD ⟨rfl,rfl⟩
def cV.run{b6:Nat}{e}(hA:cV J v xs n e)(I:c8 n xs=bh)(hy:c8 n ys=bh)(bR:ys≠[])(hn:0<n)(O:0<b6)
  (hfit:(xs.length+ys.length)*b6<=140737488355328) (k:∀v' bl,cV bl v' (xs++ys) n e->aaQ J bl v->(∃id,v'=.sl (xs++ys) (.tok id))->F v' bl):Z0 (eu J n b6 e v (.sl ys t)) F:=by
 rcases hA with⟨rfl,rfl⟩|⟨id,rfl,hid⟩
 refine⟨.sl ys (.tok J.length),J++[.tok ys.length n e],?_,?_⟩;simp only[iP,gF] at hfit;simp[eu,gZ,iY,iK,bR,hy,hn,O,hfit];refine k _ _ (bF ⟨J.length,rfl,af⟩) ⟨af,λj Z fz h=>?_,λj n s e' h _=>?_,λj b _ h=>by rw[fE (cJ.1 h).1];exact h⟩ ⟨_,rfl⟩;rw[fE (cJ.1 h).1];exact h;rw[fE (cJ.1 h).1];exact h;have hl:=(cJ.1 hid).1;refine⟨.sl (xs++ys) (.tok id),J.set id (.tok (xs.length+ys.length) n e),?_,?_⟩;simp[eu,gZ,iY,iK,bR,hy,hn,O,hfit,I,hid];refine k _ _ (bF ⟨id,rfl,by rw[bV hl,en]⟩) ⟨af,λj Z fz h=>?_,λj n' s e' h agf=>?_,λj b O h=>by rw[bC (by intro e;subst e;rw[hid] at h;cases h;cases O)];exact h⟩ ⟨_,rfl⟩;rw[bC];exact h;intro e;subst e;rw[hid] at h;cases h;rw[bC];exact h;intro e;subst e;exact agf xs rfl
def cV.at{id:Nat}{e}(h:cV J (.sl xs (.tok id)) ys n e):J[id]?=a_ (.tok ys.length n e):=by
 rcases h with⟨h,_⟩|⟨nx,h,V⟩
 cases h;cases h;exact V
def bU{k:Nat}{b:br}(h:J[k]?=a_ b):(J++l)[k]?=a_ b:=by
 rw[fE (cJ.1 h).1];exact h
def cV.ext{e}(h:cV J v xs n e):cV (J++l) v xs n e:=
 h.imp id λ⟨id,q,h⟩=>⟨id,q,bU h⟩
def cV.new{e}:cV (J++[.tok xs.length n e]) (.sl xs (.tok J.length)) xs n e:=bF ⟨_,rfl,af⟩
end
abbrev dh:=List (Nat×bg)
variable{e:dh}
def gC:dh->Nat->Option bg
 |[],_=>bn
 |(j,v)::r,k=>if j=k then a_ v else gC r k
def C0(k:Nat)(o:Option bg)(e:dh):dh:=
 match o with
 |some v=>(k,v)::e
 |none=>e
def mm:List Nat->dh->dh
 |[],_=>[]
 |k::L,e=>C0 k (gC e k) (mm L e)
def ec(e:dh):dr->Option bg
 |.t k=>gC e k
 |.c a=>a_ a
def nr(e:dh):List dr->Option (List bg)
 |[]=>a_ []
 |x::r=>(ec e x).bind λa=>(nr e r).map λl=>a::l
def xU(e:dh):Option dr->Option (Option bg)
 |none=>a_ bn
 |some x=>(ec e x).map a_
def C2(e:dh):List (Nat×Nat×dr)->Option (List (Nat×Nat×bg))
 |[]=>a_ []
 |(i,n,x)::r=>(ec e x).bind λa=>(C2 e r).map λl=>(i,n,a)::l
def qX(v:bg)(J:List br):Option (bg×List br):=match v with
 |.v (.string s)=>a_ (.v (goInt s.size),J)
 |_=>bn
def r7(n:Nat)(v:bg)(lo Q mx:Option bg)(J:List br):Option (bg×List br):=match v with
 |.v (.string _)=>bn
 |x'=>(mQ n x' lo Q mx).map λr=>(r,J)
def GD(v:bg)(lo Q:Option bg)(J:List br):Option (bg×List br):=match v with
 |.v (.string s)=>(mQ 0 (.v (.string s)) lo Q bn).map λr=>(r,J)
 |_=>bn
def I6(c:bg)(x y:Option bg):Option bg:=match c with
 |.v (.bool b)=>if b then x else y
 |_=>bn
def Qu(v:bg)(J:List br):Option (bg×List br):=match v with
 |.v (.string s)=>a_ (.gm J.length,J++[.obj (.stringIter s 0)])
 |_=>bn
def cz(e:dh)(J:List br):rA->Option (bg×List br)
 |.mv x=>(ec e x).map λr=>(r,J)
 |.pick c a b=>(ec e c).bind λc=>(I6 c (ec e a) (ec e b)).map λr=>(r,J)
 |.alloc z=>a_ (.mp J.length 0,J++[.cells z bf])
 |.zm t z=>a_ (.mp J.length 0,J++[.cells (.h_ J.length t::z) bf])
 |.zu b6 ty s x=>(ec e s).bind λs=>(ec e x).bind λx=>A8 J b6 ty s x
 |.zo b6 ty s x=>(ec e s).bind λs=>(ec e x).bind λx=>EL J b6 ty s x
 |.box x=>(ec e x).map λr=>(.mp J.length 0,J++[.cells r.cells bf])
 |.build z ps=>(C2 e ps).bind λl=>(dH z l).map λr=>(.agg r,J)
 |.zA n vs=>(nr e vs).bind λl=>(e9 n l).map λr=>(r,J)
 |.fY bM n x=>(ec e x).bind λx=>(bA J bM n x).map λr=>(r,J)
 |.st n p x=>(ec e p).bind λp=>(ec e x).bind λx=>(bL J n p x).map λbl=>(jx,bl)
 |.IS x=>(ec e x).bind λx=>(uR x).map λr=>(r,J)
 |.bin op x y=>(ec e x).bind λx=>(ec e y).bind λy=>(dF op x y).map λr=>(r,J)
 |.KM neg x y=>(ec e x).bind λx=>(ec e y).bind λy=>(Hs neg x y).map λr=>(r,J)
 |.KN K neg x y=>(ec e x).bind λx=>(ec e y).bind λy=>(nL K neg x y).map λr=>(r,J)
 |.HK ks neg x y=>(ec e x).bind λx=>(ec e y).bind λy=>(tO ks neg x y).map λr=>(r,J)
 |.un op x=>(ec e x).bind λx=>(EP op x).map λr=>(r,J)
 |.di k x=>(ec e x).bind λx=>(Hq k x).map λr=>(r,J)
 |.Jk x=>(ec e x).bind λx=>(Oq x).map λr=>(r,J)
 |.HA x=>(ec e x).bind λx=>(Kf x).map λr=>(r,J)
 |.slc n x lo Q mx=>(ec e x).bind λx=>(xU e lo).bind λlo=>(xU e Q).bind λQ=>(xU e mx).bind λmx=>r7 n x lo Q mx J
 |.xd x lo Q=>(ec e x).bind λx=>(xU e lo).bind λlo=>(xU e Q).bind λQ=>GD x lo Q J
 |.fa off x=>(ec e x).bind λx=>(k9 off x).map λr=>(r,J)
 |.cI n x i=>(ec e x).bind λx=>(ec e i).bind λi=>(cA n x i).map λr=>(r,J)
 |.xM len n x i=>(ec e x).bind λx=>(ec e i).bind λi=>(mO len n x i).map λr=>(r,J)
 |.Pp bM n off x=>(ec e x).bind λx=>(Ki bM n off x).map λr=>(r,J)
 |.idx bM n len x i=>(ec e x).bind λx=>(ec e i).bind λi=>(CJ bM n len x i).map λr=>(r,J)
 |.CU x i=>(ec e x).bind λx=>(ec e i).bind λi=>(wk x i).map λr=>(r,J)
 |.ext i x=>(ec e x).bind λx=>(oP i x).map λr=>(r,J)
 |.qX x=>(ec e x).bind λx=>qX x J
 |.len x=>(ec e x).bind λx=>cN x J
 |.app n b6 ty s x=>(ec e s).bind λs=>(ec e x).bind λx=>eu J n b6 ty s x
 |.Ar f a b=>(nr e a).bind λa=>(nr e b).map λb=>(.fn f a b,J)
 |.wv n vs=>(nr e vs).bind λl=>zj J n l
 |.A_ n b6 ty s x=>(ec e s).bind λs=>(ec e x).bind λx=>qG J n b6 ty s x
 |.As n b6 _ z l c=>(ec e l).bind λl=>(ec e c).bind λc=>CL J n b6 z l c
 |.BO n b6 ty z l c=>(ec e l).bind λl=>(ec e c).bind λc=>EN J n b6 ty z l c
 |.BL t x=>(ec e x).map λx=>(.ep t x,J)
 |.Jw t z ok x=>(ec e x).bind λx=>(Hx t z ok x).map λr=>(r,J)
 |.s_ mx xs=>(nr e xs).bind λl=>(rD mx l).map λr=>(r,J)
 |.iter x=>(ec e x).bind λx=>Qu x J
 |.next x=>(ec e x).bind λx=>rE J x
 |.BN=>a_ (.fR J.length,J++[.eH [] 0])
 |.DP x=>(ec e x).bind λx=>(CK J x).map λr=>(r,J)
 |.BH bM ks z ok m k=>(ec e m).bind λm=>(ec e k).bind λk=>(wm J bM ks z ok m k).map λr=>(r,J)
 |.wY bM ks m k x=>(ec e m).bind λm=>(ec e k).bind λk=>(ec e x).bind λx=>(xO J bM ks m k x).map λbl=>(jx,bl)
 |.Aq bM ks z m k=>(ec e m).bind λm=>(ec e k).bind λk=>Hu J bM ks z m k
 |.C1 m st x=>(ec e m).bind λm=>(ec e st).bind λst=>(ec e x).bind λx=>(Ht J m st x).map λbl=>(jx,bl)
def mb(n:Nat)(ts:List bg)(e:dh):Prop:=ts.length=n/\∀k v,gC e k=a_ v->ts[k]?=a_ v
def jW(h:mb n ts e){x:dr}{a:bg}(I:ec e x=a_ a):ev ts x=a:=by
 cases x with
 |t k=>
  have:=h.2 k a I;simp[ev,this]
 |c b=>cases I;rfl
def uX(h:mb n ts e):∀{xs} {dB},nr e xs=a_ dB->xs.map (ev ts)=dB
 |[],dB,I=>by cases I;rfl
 |x::r,dB,I=>by
  simp only[nr,gu,dm] at I;obtain⟨a,Y,l,V,rfl⟩:=I;rw[fM,jW h Y,uX h V]
def aed(h:mb n ts e):∀{xs} {dB},C2 e xs=a_ dB->xs.map (λp=>(p.1,p.2.1,ev ts p.2.2))=dB
 |[],dB,I=>by cases I;rfl
 |(i,n,x)::r,dB,I=>by
  simp only[C2,gu,dm] at I;obtain⟨a,Y,l,V,rfl⟩:=I;rw[fM,jW h Y,aed h V]
def KR(h:mb n ts e){x}{a}(I:xU e x=a_ a):x.map (ev ts)=a:=by
 cases x with
 |none=>cases I;rfl
 |some x=>
  simp only[xU,dm] at I;obtain⟨b,Y,rfl⟩:=I;rw[jS,jW h Y]
def ab8(h:mb n ts e){o:rA}{r}(ho:cz e J o=a_ r):fc ts J o=a_ r:=by
 cases o
 case pick c a b=>
  simp only[cz,gu,dm] at ho;obtain⟨c',Y,v,V,rfl⟩:=ho;unfold I6 at V;split at V;rename_i b';simp only[fc,jW h Y];cases b' with
  |true=>simp only[if_true] at V⊢;rw[jW h V]
  |false=>simp only[kz,if_false] at V⊢;rw[jW h V]
  cases V
 case slc m x lo Q mx=>
  simp only[cz,gu] at ho;obtain⟨x',Y,yl,V,jX,h3,uf,h4,h5⟩:=ho;simp only[fc,jW h Y,KR h V,KR h h3,KR h h4];exact h5
 case xd x lo Q=>
  simp only[cz,gu] at ho;obtain⟨x',Y,yl,V,jX,h3,h5⟩:=ho;simp only[fc,jW h Y,KR h V,KR h h3];exact h5
 case qX x=>
  simp only[cz,gu] at ho;obtain⟨x',Y,h5⟩:=ho;simp only[fc,jW h Y];exact h5
 case len x=>
  simp only[cz,gu] at ho;obtain⟨x',Y,h5⟩:=ho;simp only[fc,jW h Y];exact h5
 case build z ps=>
  simp only[cz,gu] at ho;obtain⟨x',Y,h5⟩:=ho;simp only[fc,aed h Y];exact h5
 case zA z ps=>
  simp only[cz,gu] at ho;obtain⟨x',Y,h5⟩:=ho;simp only[fc,uX h Y];exact h5
 case wv z ps=>
  simp only[cz,gu] at ho;obtain⟨x',Y,h5⟩:=ho;simp only[fc,uX h Y];exact h5
 case s_ z ps=>
  simp only[cz,gu] at ho;obtain⟨x',Y,h5⟩:=ho;simp only[fc,uX h Y];exact h5
 case BN=>exact ho
 case BL t x=>
  simp only[cz,dm] at ho;obtain⟨x',Y,rfl⟩:=ho;simp only[fc,jW h Y]
 case wY bM ks m k x=>
  simp only[cz,gu] at ho;obtain⟨m',Y,k',V,x',h3,h5⟩:=ho;simp only[fc,jW h Y,jW h V,jW h h3];exact h5
 case C1 m k x=>
  simp only[cz,gu] at ho;obtain⟨m',Y,k',V,x',h3,h5⟩:=ho;simp only[fc,jW h Y,jW h V,jW h h3];exact h5
 case Ar f a b=>
  simp only[cz,gu,dm] at ho;obtain⟨x',Y,y',V,h5⟩:=ho;simp only[fc,uX h Y,uX h V];rw[h5]
 case alloc z=>exact ho
 case zm t z=>exact ho
 case zo b6 ty s x=>
  simp only[cz,gu] at ho;obtain⟨x',Y,y',V,h5⟩:=ho;simp only[fc,jW h Y,jW h V];rw[h5]
 case zu b6 ty s x=>
  simp only[cz,gu] at ho;obtain⟨x',Y,y',V,h5⟩:=ho;simp only[fc,jW h Y,jW h V];rw[h5]
 case mv x=>
  simp only[cz,dm] at ho;obtain⟨x',Y,rfl⟩:=ho;simp only[fc,jW h Y]
 case box x=>
  simp only[cz,dm] at ho;obtain⟨x',Y,rfl⟩:=ho;simp only[fc,jW h Y]
 all_goals first
  |(simp only[cz,gu] at ho
    obtain⟨x',Y,y',V,h5⟩:=ho;simp only[fc,jW h Y,jW h V];exact h5)
  |(simp only[cz,gu] at ho
    obtain⟨x',Y,h5⟩:=ho;simp only[fc,jW h Y];exact h5)
class Hid(α:Type) where
 v:α
variable{A B:Hid Prop}
def af0(a:α):(Hid.mk a).v=a:=rfl
def gH{α:Type}(x:Option α)[F:Hid (α->Prop)]:Prop:=∃a,x=a_ a/\F.v a
def anR{a:α}{F}:@gH α (a_ a) F=F.v a:=by
 apply propext;constructor;rintro⟨b,h,k⟩;cases h;exact k;intro k;exact⟨a,rfl,k⟩
def sB(b:Bool)[A:Hid Prop][B:Hid Prop]:Prop:=(b=bh->A.v)/\(b=bf->B.v)
def NR:@sB bh A B=A.v:=by simp[sB]
def NQ:@sB bf A B=B.v:=by simp[sB]
def sB.mk(Y:b=bh->A.v)(V:b=bf->B.v):@sB b A B:=⟨Y,V⟩
def EU(v:bg)[A:Hid Prop][B:Hid Prop]:Prop:=match v with
 |.v (.bool b)=>@sB b A B
 |_=>False
def acE:@EU (.v (.bool b)) A B=@sB b A B:=rfl
def tW(w:Bool)(v:bg)[A:Hid Prop][B:Hid Prop]:Prop:=match v with
 |.v (.bool b)=>if w then@sB b A B else@sB b B A
 |.bQ []=>B.v
 |_=>False
def afl:@tW bh (.v (.bool b)) A B=@sB b A B:=rfl
def afj:@tW bf (.v (.bool b)) A B=@sB b B A:=rfl
def afk:@tW w jx A B=B.v:=rfl
abbrev ry:=List PanicEntry->List br->Prop
variable{E E':ry}
def S2(G:Cells)(P:Program)(f:FuncId)(args:List bg)(J:List br)[F:Hid (bg->List br->Prop)]:Prop:=cy G P f args J F.v
def Ud(G:Cells)(P:Program)(f:bg)(args:List bg)(J:List br)[F:Hid (bg->List br->Prop)]:Prop:=jK G P f args J F.v
def S3(G:Cells)(P:Program)(f:FuncId)(args:List bg)(J:List br)[F:Hid (bg->List br->Prop)][E:Hid ry]:Prop:=hO G P f args J F.v E.v
def Ue(G:Cells)(P:Program)(f:bg)(args:List bg)(J:List br)[F:Hid (bg->List br->Prop)][E:Hid ry]:Prop:=vY G P f args J F.v E.v
section
variable{G:Cells}{P:Program}{f:FuncId}{args fs Z:List bg}{J:List br}{F:Hid (bg->List br->Prop)}{E:Hid ry}
def acV:@Ud G P (.fn (.func f) fs Z) args J F=@S2 G P f (fs++args++Z) J F:=by simp[Ud,jK,S2]
def acW:@Ue G P (.fn (.func f) fs Z) args J F E=@S3 G P f (fs++args++Z) J F E:=by simp[Ue,vY,S3]
end
def aAW(G:Cells)(P:Program)(f:FuncId)(args:List bg)[F:Hid (bg->Prop)]:Prop:=∃bs r',qa args bs/\dL G P f bs r'/\F.v r'
def jB(G:Cells)(P:Program)(i:iJ)[F:Hid (bg->List br->Prop)][E:Hid ry](e:dh)(J:List br):Prop:=match i with
 |.op o=>@gH _ (cz e J o) ⟨λr=>F.v r.1 r.2⟩
 |.call f args=>@gH _ (nr e args) ⟨λdB=>@S2 G P f dB J F⟩
 |.lO x args=>@gH _ (ec e x) ⟨λx=>@gH _ (nr e args) ⟨λdB=>@Ud G P x dB J F⟩⟩
 |.nB f args=>@gH _ (nr e args) ⟨λdB=>@aAW G P f dB ⟨λv=>F.v v J⟩⟩
 |.oE f args r=>@gH _ (nr e args) ⟨λdB=>∃bs,qa dB bs/\dL G P f bs r/\F.v r J⟩
 |.pI f args=>@gH _ (nr e args) ⟨λdB=>@S3 G P f dB J F E⟩
 |.pJ x args=>@gH _ (ec e x) ⟨λx=>@gH _ (nr e args) ⟨λdB=>@Ue G P x dB J F E⟩⟩
 |.fV x=>@gH _ ((ec e x).bind qJ) ⟨λv=>E.v [{v:=v,recovered:=bf}] J⟩
def pX(d:Option Nat)(v:bg)(e:dh):dh:=match d with
 |some d=>(d,v)::e
 |none=>e
def j4(G:Cells)(P:Program)(l:List dI)[K:Hid (dh->List br->Prop)][E:Hid ry](e:dh)(J:List br):Prop:=match l with
 |[]=>K.v e J
 |⟨d,bn,i⟩::r=>@jB G P i ⟨λv bl=>@j4 G P r K E (pX d v e) bl⟩ E e J
 |⟨d,a_ (k,w),i⟩::r=>@gH _ (gC e k) ⟨λg=>@tW w g ⟨@jB G P i ⟨λv bl=>@j4 G P r K E (pX d v e) bl⟩ E e J⟩ ⟨@j4 G P r K E (pX d jx e) J⟩⟩
section
variable{G:Cells}{P:Program}{K:Hid (dh->List br->Prop)}{E:Hid ry}{e:dh}{J:List br}{d:Option Nat}{k:Nat}{i:iJ}{r:List dI}
def EI:@j4 G P [] K E e J=K.v e J:=by simp only[j4]
def Hi:@j4 G P (⟨d,bn,i⟩::r) K E e J=@jB G P i ⟨λv bl=>@j4 G P r K E (pX d v e) bl⟩ E e J:=by simp only[j4]
def Hh:@j4 G P (⟨d,a_ (k,w),i⟩::r) K E e J=@gH _ (gC e k) ⟨λg=>@tW w g ⟨@jB G P i ⟨λv bl=>@j4 G P r K E (pX d v e) bl⟩ E e J⟩ ⟨@j4 G P r K E (pX d jx e) J⟩⟩:=by simp only[j4]
end
def wB(n:Nat):List dI->Bool
 |[]=>bh
 |o::r=>(match o.dst with|some d=>decide (d<n)|none=>bh)&&wB n r
def adW{ρ}:∀{l},wB n (l.map (gb ρ))=wB n l
 |[]=>rfl
 |o::r=>by simp only[fM,wB,Sg,adW]
def H6(h:mb n ts e)(hd:(match d with|some d=>decide (d<n)|none=>bh)=bh):mb n (e_ ts d v) (pX d v e):=by
 cases d with
 |none=>exact h
 |some d=>
  simp only[decide_eq_true_eq] at hd;refine⟨by simp[e_,h.1],λk w S=>?_⟩;simp only[pX,gC] at S;simp only[e_];split at S;rename_i e1;subst e1;cases S;exact bV (by rw[h.1];exact hd);rename_i e1;rw[bC e1];exact h.2 k w S
section
variable{G:Cells}{P:Program}
def awp{F}{E}{K}(h:mb n ts e)(Q:@jB G P i F E e J)(hF:∀v bl,F.v v bl->gK G E.v P r K ⟨e_ ts d v,bl⟩):
  gK G E.v P (⟨d,bn,i⟩::r) K ⟨ts,J⟩:=by
 simp only[gK];unfold dJ;rw[if_pos (by rfl)];cases i with
 |op o=>
  obtain⟨⟨v,bl⟩,Y,V⟩:=Q;simp only;rw[ab8 h Y];exact hF _ _ V
 |call f args=>
  obtain⟨dB,Y,V⟩:=Q;simp only;rw[uX h Y];exact cm V hF
 |lO x args=>
  obtain⟨x',h0,dB,Y,V⟩:=Q;dsimp only at V;simp only;rw[uX h Y,jW h h0];exact vK V hF
 |nB f args=>
  obtain⟨dB,Y,bs,r',V,h3,h4⟩:=Q;simp only;rw[uX h Y];exact⟨bs,r',V,h3,hF _ _ h4⟩
 |oE f args r=>
  obtain⟨dB,Y,bs,V,h3,h4⟩:=Q;simp only;rw[uX h Y];exact⟨bs,V,h3,hF _ _ h4⟩
 |pI f args=>
  obtain⟨dB,Y,V⟩:=Q;simp only;rw[uX h Y];exact gE V hF λ_ _ k=>k
 |pJ x args=>
  obtain⟨x',h0,dB,Y,V⟩:=Q;dsimp only at V;simp only;rw[uX h Y,jW h h0];exact aaf V hF λ_ _ k=>k
 |fV x=>
  obtain⟨v,Y,V⟩:=Q;simp only[gu] at Y;obtain⟨x',h3,h4⟩:=Y;simp only;rw[jW h h3,h4];exact V
def amP{g}{K}:
  (oR (a_ g) ts=bh->gK G E P (⟨d,bn,i⟩::r) K ⟨ts,J⟩)->(oR (a_ g) ts=bf->gK G E P r K ⟨e_ ts d jx,J⟩)->gK G E P (⟨d,a_ g,i⟩::r) K ⟨ts,J⟩:=λY V=>by
 cases hw:oR (a_ g) ts with
 |true=>
  have:=Y hw;simp only[gK] at this⊢;unfold dJ at this⊢;rw[if_pos (by rfl)] at this;simp only;rw[if_pos hw];exact this
 |false=>
  have:=V hw;simp only[gK];unfold dJ;simp only;rw[if_neg (by rw[hw];simp)];exact this
def Kb:∀{l} {K} {E} {K'} {e:dh} {J} {ts},wB n l=bh->mb n ts e->@j4 G P l K E e J->(∀ts e J,mb n ts e->K.v e J->K' ⟨ts,J⟩)->gK G E.v P l K' ⟨ts,J⟩
 |[],K,E,K',e,J,ts,hd,h,D,S=>S _ _ _ h (by rw[EI] at D;exact D)
 |⟨d,g,i⟩::r,K,E,K',e,J,ts,hd,h,D,S=>by
  simp only[wB,fA] at hd;obtain⟨x4,t_⟩:=hd;have so:@jB G P i ⟨λv bl=>@j4 G P r K E (pX d v e) bl⟩ E e J->gK G E.v P (⟨d,bn,i⟩::r) K' ⟨ts,J⟩:=λq=>
   awp h q λv bl k=>Kb t_ (H6 h x4) k S
  have no:@j4 G P r K E (pX d jx e) J->gK G E.v P r K' ⟨e_ ts d jx,J⟩:=λk=>Kb t_ (H6 h x4) k S
  rcases g with _|⟨k,w⟩
  rw[Hi] at D;exact so D;rw[Hh] at D;obtain⟨g,Y,V⟩:=D;have gD:=h.2 k _ Y;dsimp only at V;unfold tW at V;split at V;rename_i b;have hg:(b=w->@jB G P i ⟨λv bl=>@j4 G P r K E (pX d v e) bl⟩ E e J)/\(b≠w->@j4 G P r K E (pX d jx e) J):=by
   cases w with
   |true=>exact⟨λq=>V.1 q,λq=>V.2 an⟩
   |false=>exact⟨λq=>V.2 q,λq=>V.1 an⟩
  refine amP (λhw=>so (hg.1 ?_)) λhw=>no (hg.2 ?_);simpa[oR,gD] using hw;simpa[oR,gD] using hw;exact amP (λhw=>by simp[oR,gD] at hw) λ_=>no V;exact V.elim
end
def q2(c:dI)(e:dh)(J:List br):Prop:=match c.ins,c.dst with
 |.op o,a_ d=>match c.guard with
  |none=>@gH _ (gC e d) ⟨λv=>@gH _ (cz e J o) ⟨λr=>r.1=v⟩⟩
  |some (k,w)=>@gH _ (gC e k) ⟨λg=>@tW w g ⟨@gH _ (gC e d) ⟨λv=>@gH _ (cz e J o) ⟨λr=>r.1=v⟩⟩⟩ ⟨@gH _ (gC e d) ⟨λv=>v=jx⟩⟩⟩
 |_,_=>False
def pZ(Z:List dI)(e:dh)(J:List br):Prop:=match Z with
 |[]=>True
 |c::r=>q2 c e J/\pZ r e J
def tL(G:Cells)(P:Program)(l:List (dI×List dI))[K:Hid (dh->List br->Prop)][E:Hid ry](e:dh)(J:List br):Prop:=match l with
 |[]=>K.v e J
 |(o,Z)::r=>@j4 G P [o] ⟨λe' bl=>pZ Z e' bl/\@tL G P r K E e' bl⟩ E e J
section
variable{G:Cells}{P:Program}{K:Hid (dh->List br->Prop)}{E:Hid ry}{e:dh}{J:List br}{o:dI}{Z:List dI}{r:List (dI×List dI)}
def Hj:@tL G P [] K E e J=K.v e J:=by simp only[tL]
def Hl:@tL G P ((o,Z)::r) K E e J=@j4 G P [o] ⟨λe' bl=>pZ Z e' bl/\@tL G P r K E e' bl⟩ E e J:=by simp only[tL]
def aBE(h:mb n ts e){c}(T:q2 c e J):tJ G P c ⟨ts,J⟩:=by
 obtain⟨d,g,i⟩:=c;unfold q2 at T;split at T;rename_i o dd Q hd;dsimp only at Q hd;subst Q hd;have so:(oR g ts=bh)->@gH _ (gC e dd) ⟨λv=>@gH _ (cz e J o) ⟨λr=>r.1=v⟩⟩->tJ G P ⟨a_ dd,g,.op o⟩ ⟨ts,J⟩:=by
  rintro hw ⟨v,Y,r,V,h3⟩;dsimp only at h3;refine⟨dd,v,rfl,h.2 _ _ Y,?_⟩;unfold mM;rw[if_pos hw];simp only;rw[ab8 h V,jS,h3]
 have no:(oR g ts=bf)->@gH _ (gC e dd) ⟨λv=>v=jx⟩->tJ G P ⟨a_ dd,g,.op o⟩ ⟨ts,J⟩:=by
  rintro hw ⟨v,Y,V⟩;dsimp only at V;refine⟨dd,v,rfl,h.2 _ _ Y,?_⟩;unfold mM;rw[if_neg (by rw[hw];simp)];exact V
 cases g with
 |none=>exact so rfl T
 |some g=>
  obtain⟨k,w⟩:=g;obtain⟨g,Y,V⟩:=T;have gD:=h.2 k _ Y;dsimp only at V;unfold tW at V;split at V;rename_i b;cases w with
  |true=>
   cases b with
   |true=>exact so aJi (V.1 rfl)
   |false=>exact no aJi (V.2 rfl)
  |false=>
   cases b with
   |true=>exact no aJi (V.1 rfl)
   |false=>exact so aJi (V.2 rfl)
  exact no aJi V;exact V.elim
 exact T.elim
def alx(h:mb n ts e):∀{Z},pZ Z e J->∀c∈Z,tJ G P c ⟨ts,J⟩
 |[],_,c,T=>aJc
 |c::r,D,c',T=>by
  rcases fB.1 T with rfl|T
  exact aBE h D.1;exact alx h D.2 c' T
def abl:∀{l} {K} {E} {K'} {e:dh} {J} {ts},wB n (l.map (·.1))=bh->mb n ts e->@tL G P l K E e J->(∀ts e J,mb n ts e->K.v e J->K' ⟨ts,J⟩)->kE G E.v P l K' ⟨ts,J⟩
 |[],K,E,K',e,J,ts,hd,h,D,S=>S _ _ _ h (by rw[Hj] at D;exact D)
 |(o,Z)::r,K,E,K',e,J,ts,hd,h,D,S=>by
  simp only[fM,wB,fA] at hd;rw[Hl] at D;have:=Kb (K':=λs'=>(∀c∈Z,tJ G P c s')/\kE G E.v P r K' s') (by simp only[wB,fA];exact⟨hd.1,trivial⟩) h D λts e J h' k=>⟨alx h' k.1,abl hd.2 h' k.2 S⟩;exact this
end
inductive eG where
 |skip (L:List Nat)
 |region (ops:List dI) (L:List Nat)
 |seq (a b:eG)
 |cond (c:dr) (a b:eG)
 |block (id:Nat) (a:eG)
 |loop (a:eG)
 |exit (id:Nat) (L:List Nat)
 |ret (L:List Nat)
 |qZ (x:dr) (ps:List Nat) (a b:eG) (L:List Nat)
 |q3 (ls:List (List dI)) (L:List Nat)
 |qw (l:List (dI×List dI)) (L:List Nat)
 |scope (a:eG)
 |lab (L:List Nat)
 |bad
variable{c:eG}
def eG.b7:eG->qd
 |.skip _=>.skip
 |.region ops _=>.region ops
 |.seq a b=>.seq a.b7 b.b7
 |.cond c a b=>.cond c a.b7 b.b7
 |.block id a=>.block id a.b7
 |.loop a=>.loop a.b7
 |.exit id _=>.exit id
 |.ret _=>.ret
 |.qZ x ps a b _=>.qZ x ps a.b7 b.b7
 |.q3 ls _=>.q3 ls
 |.qw l _=>.qw l
 |.scope a=>.scope a.b7
 |.lab _=>.lab
 |.bad=>.bad
def eG.oT(n:Nat):eG->Bool->Bool
 |.region ops _,_=>wB n ops
 |.q3 ls _,_=>ls.all (wB n)
 |.qw l _,_=>wB n (l.map (·.1))
 |.seq a b,m=>a.oT n m&&b.oT n m
 |.cond _ a b,m=>a.oT n m&&b.oT n m
 |.block _ a,m=>a.oT n m
 |.loop a,m=>a.oT n m
 |.scope a,m=>a.oT n m
 |.qZ _ ps a b _,m=>m&&(ps.all λp=>decide (p<n))&&a.oT n bf&&b.oT n bh
 |_,_=>bh
def eG.fits(n:Nat)(c:eG):Bool:=c.oT n bf
def sO(ops:List dI):dh->dh
 |[]=>[]
 |(k,v)::e=>if ops.any (λo=>o.dst==a_ k) then sO ops e else(k,v)::sO ops e
def UC{k:Nat}:∀{e:dh} {v:bg},gC (sO ops e) k=a_ v->gC e k=a_ v/\∀bJ∈ops,bJ.dst≠a_ k
 |[],v,h=>aF
 |(j,w)::e,v,h=>by
  simp only[sO] at h;split at h;rename_i hj;obtain⟨Y,V⟩:=UC h;refine⟨?_,V⟩;simp only[gC];split;rename_i LA;subst LA;rw[GX] at hj;obtain⟨bJ,q1,bt⟩:=hj;exact(V bJ q1 aX).elim;exact Y;rename_i hj;simp only[gC] at h⊢;by_cases LA:j=k;rw[if_pos LA] at h⊢;subst LA;refine⟨h,λbJ js q=>hj ?_⟩;rw[GX];exact⟨bJ,js,by simp[q]⟩;rw[if_neg LA] at h⊢;exact UC h
def VK{mF}(h:mb n ts e)(ha:mZ ops ts mF):mb n mF (sO ops e):=by
 refine⟨ha.1.trans h.1,λk v S=>?_⟩;obtain⟨Y,V⟩:=UC S;rw[ha.2 k V];exact h.2 k v Y
abbrev ng:=Exit->dh->List br->Prop
def r_[next:Hid (dh->List br->Prop)][hi:Hid ng]:ng
 |.normal,e,J=>next.v e J
 |x,e,J=>hi.v x e J
def wu(id:Nat)[hi:Hid ng]:ng
 |.exit nx,e,J=>if nx=id then hi.v .normal e J else hi.v (.exit nx) e J
 |x,e,J=>hi.v x e J
def Jn[hi:Hid ng]:ng
 |.goto _,_,_=>False
 |x,e,J=>hi.v x e J
section
variable{next:Hid (dh->List br->Prop)}{hi:Hid ng}{e:dh}{J:List br}{id:Nat}
def aml:@Jn hi .normal e J=hi.v .normal e J:=rfl
def amk:@Jn hi (.exit id) e J=hi.v (.exit id) e J:=rfl
def amn:@Jn hi .ret e J=hi.v .ret e J:=rfl
def amm:@Jn hi (.panic ch) e J=hi.v (.panic ch) e J:=rfl
def anu:@r_ next hi .normal e J=next.v e J:=rfl
def ant:@r_ next hi (.exit id) e J=hi.v (.exit id) e J:=rfl
def anw:@r_ next hi .ret e J=hi.v .ret e J:=rfl
def anv:@r_ next hi (.panic ch) e J=hi.v (.panic ch) e J:=rfl
def acw:@wu id hi (.panic ch) e J=hi.v (.panic ch) e J:=rfl
def acv:@wu id hi .normal e J=hi.v .normal e J:=rfl
def acy:@wu id hi .ret e J=hi.v .ret e J:=rfl
def acz:@wu id hi (.exit id) e J=hi.v .normal e J:=by simp[wu]
def acu{nx:Nat}(h:nx≠id):@wu id hi (.exit nx) e J=hi.v (.exit nx) e J:=by simp[wu,h]
end
def An[hi:Hid ng]:Option Code->dh->List br->Prop
 |none,e,J=>hi.v .normal e J
 |some .ret,e,J=>hi.v .ret e J
 |some (.exit id),e,J=>hi.v (.exit id) e J
 |_,_,_=>False
def aBU(k:Nat)(bX:List bg)(ps:Array Tmp)(ok:Code->Code->Prop)(K:bg->List br->Prop):ng
 |.normal,_,J=>(∃st pd,J[k]?=a_ (.cc st pd bX ps ok))/\K (.v (.bool bh)) (J.set k (.cc .ready bn bX ps ok))
 |.ret,_,J=>(∃st pd,J[k]?=a_ (.cc st pd bX ps ok))/\K (.v (.bool bf)) (J.set k (.cc .done (a_ .ret) bX ps ok))
 |.exit id,_,J=>(∃st pd,J[k]?=a_ (.cc st pd bX ps ok))/\K (.v (.bool bf)) (J.set k (.cc .done (a_ (.exit id)) bX ps ok))
 |_,_,_=>False
def uq:dh->List (Nat×bg)->dh
 |e,[]=>e
 |e,(k,v)::r=>uq ((k,v)::e) r
def To(G:Cells)(P:Program)(k:Nat)(bX:List bg)(ps:List Nat)(ok:Code->Code->Prop)(wa:ng->dh->List br->Prop)(wb:ng->dh->List br->Prop)(e:dh):Prop:=
 ∀(args:List bg) (J:List br) (K:bg->List br->Prop),args.length=ps.length->(∃pd,J[k]?=a_ (.cc .ready pd bX ps.toArray ok))->
  wa (@r_ ⟨λe1 eD=>(∃pd,eD[k]?=a_ (.cc .ready pd bX ps.toArray ok))/\∀pd,wb (aBU k bX ps.toArray ok K) e1 (eD.set k (.cc .busy pd bX ps.toArray ok))⟩ ⟨λ_ _ _=>False⟩) (uq e (ps.zip args)) J->jK G P (.iV k) args J K
def marks(nest:Bool):List br:=if nest then [] else [.obj (.deferred (a_ []))]
def alu(G:Cells)(P:Program)(nest:Bool)(x:Option bg)(ps:List Nat)(L:List Nat)(wa:ng->dh->List br->Prop)(wb:ng->dh->List br->Prop)[hi:Hid ng](e:dh)(J:List br):Prop:=
 ∃g fs Z,x=a_ (.fn (.func g) fs Z)/\∀k,k=(J++marks nest).length->∀bX ok,To G P k bX ps ok wa wb e->
  cy G P g (fs++[.iV k]++Z) (J++marks nest++[.cc .ready bn bX ps.toArray ok])
   λr bl=>∃st pd,bl[k]?=a_ (.cc st pd bX ps.toArray ok)/\st≠.busy/\An pd (mm L e) (bl.set k (.cc .exhausted pd bX ps.toArray ok))
def eg(G:Cells)(P:Program)(nest:Bool)(c:eG)[hi:Hid ng](e:dh)(J:List br):Prop:=match c with
 |.skip L=>hi.v .normal (mm L e) J
 |.region ops L=>@j4 G P ops ⟨λe' bl=>hi.v .normal (mm L e') bl⟩ ⟨λch bl=>hi.v (.panic ch) (sO ops e) bl⟩ e J
 |.q3 ls L=>∃ρ:Nat->bg,∀l∈ls,@j4 G P (l.map (gb ρ)) ⟨λe' bl=>hi.v .normal (mm L e') bl⟩ ⟨λch bl=>hi.v (.panic ch) (sO ls.flatten e) bl⟩ e J
 |.qw l L=>@tL G P l ⟨λe' bl=>hi.v .normal (mm L e') bl⟩ ⟨λch bl=>hi.v (.panic ch) (sO (l.map (·.1)) e) bl⟩ e J
 |.seq a b=>@eg G P nest a ⟨@r_ ⟨λe J=>@eg G P nest b hi e J⟩ hi⟩ e J
 |.cond c a b=>@gH _ (ec e c) ⟨λc=>@EU c ⟨@eg G P nest a hi e J⟩ ⟨@eg G P nest b hi e J⟩⟩
 |.block id a=>@eg G P nest a ⟨@wu id hi⟩ e J
 |.loop a=>∃(hx:Nat->dh->List br->Prop) (m:Nat),hx m e J/\∀m e J,hx m e J->@eg G P nest a ⟨@r_ ⟨λe' bl=>∃m',m'<m/\hx m' e' bl⟩ hi⟩ e J
 |.exit id L=>hi.v (.exit id) (mm L e) J
 |.scope a=>@eg G P nest a ⟨@Jn hi⟩ e J
 |.lab L=>hi.v .normal (mm L e) J
 |.bad=>False
 |.ret L=>hi.v .ret (mm L e) J
 |.qZ x ps a b L=>alu G P nest (ec e x) ps L (λhi e J=>@eg G P bh a ⟨hi⟩ e J) (λhi e J=>@eg G P bh b ⟨hi⟩ e J) e J
section
variable{G:Cells}{P:Program}{nest:Bool}{hi:Hid ng}{e:dh}{J:List br}
def Nr(L):@eg G P nest (.skip L) hi e J=hi.v .normal (mm L e) J:=aM
def Nn(ops)(L):@eg G P nest (.region ops L) hi e J=@j4 G P ops ⟨λe' bl=>hi.v .normal (mm L e') bl⟩ ⟨λch bl=>hi.v (.panic ch) (sO ops e) bl⟩ e J:=aM
def JC(ls)(L):@eg G P nest (.q3 ls L) hi e J=∃ρ:Nat->bg,∀l∈ls,@j4 G P (l.map (gb ρ)) ⟨λe' bl=>hi.v .normal (mm L e') bl⟩ ⟨λch bl=>hi.v (.panic ch) (sO ls.flatten e) bl⟩ e J:=aM
def GI(a b:eG):@eg G P nest (.seq a b) hi e J=@eg G P nest a ⟨@r_ ⟨λe J=>@eg G P nest b hi e J⟩ hi⟩ e J:=aM
def Nh(c:dr)(a b:eG):@eg G P nest (.cond c a b) hi e J=@gH _ (ec e c) ⟨λc=>@EU c ⟨@eg G P nest a hi e J⟩ ⟨@eg G P nest b hi e J⟩⟩:=aM
def Ca(id:Nat)(a:eG):@eg G P nest (.block id a) hi e J=@eg G P nest a ⟨@wu id hi⟩ e J:=aM
def Nk(a:eG):@eg G P nest (.loop a) hi e J=∃(hx:Nat->dh->List br->Prop) (m:Nat),hx m e J/\∀m e J,hx m e J->@eg G P nest a ⟨@r_ ⟨λe' bl=>∃m',m'<m/\hx m' e' bl⟩ hi⟩ e J:=aM
def No(l)(L):@eg G P nest (.qw l L) hi e J=@tL G P l ⟨λe' bl=>hi.v .normal (mm L e') bl⟩ ⟨λch bl=>hi.v (.panic ch) (sO (l.map (·.1)) e) bl⟩ e J:=aM
def Nq(a:eG):@eg G P nest (.scope a) hi e J=@eg G P nest a ⟨@Jn hi⟩ e J:=aM
def Nj(L):@eg G P nest (.lab L) hi e J=hi.v .normal (mm L e) J:=aM
def Ni(id:Nat)(L):@eg G P nest (.exit id L) hi e J=hi.v (.exit id) (mm L e) J:=aM
def Np(L):@eg G P nest (.ret L) hi e J=hi.v .ret (mm L e) J:=aM
def AH(x:dr)(ps)(a b:eG)(L):@eg G P nest (.qZ x ps a b L) hi e J=alu G P nest (ec e x) ps L (λhi e J=>@eg G P bh a ⟨hi⟩ e J) (λhi e J=>@eg G P bh b ⟨hi⟩ e J) e J:=aM
end
def amX(hE:∀ch J,E ch J->E' ch J){bJ}{K}{s:er}(h:dJ G E P bJ K s):dJ G E' P bJ K s:=by
 unfold dJ at h⊢;split at h;rename_i hw;rw[if_pos hw];split at h;exact h;exact h;exact h;exact h;exact h;exact gE h (λ_ _ k=>k) hE;exact aaf h (λ_ _ k=>k) hE;split at h;exact hE _ _ h;exact h;rename_i hw;rw[if_neg hw];exact h
def Zl(hE:∀ch J,E ch J->E' ch J):∀{l} {K} {s:er},gK G E P l K s->gK G E' P l K s
 |[],_,_,h=>h
 |_::_,_,_,h=>amX hE (dJ.mono h λ_ k=>Zl hE k)
def amO(hE:∀ch J,E ch J->E' ch J):∀{l} {K} {s:er},kE G E P l K s->kE G E' P l K s
 |[],_,_,h=>h
 |(o,Z)::_,_,_,h=>amX hE (dJ.mono h λ_ k=>⟨k.1,amO hE k.2⟩)
def zX(h:mb n ts e)(L):mb n ts (mm L e):=by
 refine⟨h.1,?_⟩
 induction L with
 |nil=>intro k v S;cases S
 |cons j L ih=>
  intro k v S;simp only[mm] at S;cases hj:gC e j with
  |none=>rw[hj] at S;exact ih k v S
  |some w=>
   rw[hj] at S;simp only[C0,gC] at S;split at S;rename_i e1;subst e1;cases S;exact h.2 j _ hj;exact ih k v S
def atZ{ps:List Nat}:∀{ts} {e:dh} (_:mb n ts e) (_:(ps.all λp=>decide (p<n))=bh) (args),mb n (yD ts (ps.toArray.toList.zip args)) (uq e (ps.zip args)):=by
 induction ps with
 |nil=>intro ts e h _ args;simpa[yD,uq] using h
 |cons p r ih=>
  intro ts e h J args;simp only[oJ,fA] at J;cases args with
  |nil=>simpa[yD,uq] using h
  |cons v vs=>
   have:=ih (ts:=ts.set p v) (e:=(p,v)::e) (H6 (d:=a_ p) h J.1) J.2 vs;simpa[yD,uq] using this
def p_.nest:p_->Bool
 |.AA _=>bh
 |_=>bf
def p_.loops:p_->Bool
 |.plain|.rH _ _=>bf
 |_=>bh
def Nl(hm:P.follows .mixedOrders=bh):∀{c:eG} {c6:p_} {nest} {hi} {Q'} {e:dh} {J} {ts},c.oT n c6.loops=bh->(c6.loops=bh->nest=c6.nest)->mb n ts e->@eg G P nest c hi e J->
  (∀x ts e J,mb n ts e->hi.v x e J->Q' x ⟨ts,J⟩)->k8 G P c6 c.b7 Q' ⟨ts,J⟩:=by
 intro c
 induction c with
 |skip L=>intro c6 nest hi Q' e J ts hf ja h hw S;rw[Nr] at hw;exact jM.skip (S _ _ _ _ (zX h L) hw)
 |exit id L=>intro c6 nest hi Q' e J ts hf ja h hw S;rw[Ni] at hw;exact jM.exit (S _ _ _ _ (zX h L) hw)
 |lab L=>intro c6 nest hi Q' e J ts hf ja h hw S;rw[Nj] at hw;exact jM.lab (S _ _ _ _ (zX h L) hw)
 |bad=>intro c6 nest hi Q' e J ts hf ja h hw S;unfold eg at hw;exact hw.elim
 |scope a jQ=>
  intro c6 nest hi Q' e J ts hf ja h hw S;rw[Nq] at hw;refine jM.scope (jQ hf ja h hw λx mF e' bl h' k=>?_);cases x with
  |goto l=>exact k.elim
  |_=>exact S _ _ _ _ h' k
 |ret L=>intro c6 nest hi Q' e J ts hf ja h hw S;rw[Np] at hw;exact jM.ret (S _ _ _ _ (zX h L) hw)
 |region ops L=>
  intro c6 nest hi Q' e J ts hf ja h hw S;rw[Nn] at hw;refine jM.region hm ?_;refine Zl (λch J k ts dM=>S _ _ _ _ (VK h dM) k) ?_;exact Kb hf h hw λmF e' bl h' k=>S _ _ _ _ (zX h' L) k
 |qw l L=>
  intro c6 nest hi Q' e J ts hf ja h hw S;rw[No] at hw;refine jM.qw hm ?_;refine amO (λch J k ts dM=>S _ _ _ _ (VK h dM) k) ?_;exact abl hf h hw λmF e' bl h' k=>S _ _ _ _ (zX h' L) k
 |seq a b jQ s8=>
  intro c6 nest hi Q' e J ts hf ja h hw S;simp only[eG.oT,fA] at hf;rw[GI] at hw;refine jM.seq (jQ hf.1 ja h hw λx mF e' bl h' k=>?_);cases x with
  |normal=>exact s8 hf.2 ja h' k S
  |_=>exact S _ _ _ _ h' k
 |cond o a b jQ s8=>
  intro c6 nest hi Q' e J ts hf ja h hw S;simp only[eG.oT,fA] at hf;rw[Nh] at hw;obtain⟨v,Y,V⟩:=hw;dsimp only at V;unfold EU at V;split at V;rename_i b';refine jM.cond (jW h Y) ?_;cases b' with
  |true=>exact jQ hf.1 ja h (V.1 rfl) S
  |false=>exact s8 hf.2 ja h (V.2 rfl) S
  exact V.elim
 |block id a jQ=>
  intro c6 nest hi Q' e J ts hf ja h hw S;rw[Ca] at hw;refine jM.block (jQ hf ja h hw λx mF e' bl h' k=>?_);cases x with
  |exit nx=>
   simp only[wu] at k;simp only[WQ];split;rename_i e1;rw[if_pos e1] at k;exact S _ _ _ _ h' k;rename_i e1;rw[if_neg e1] at k;exact S _ _ _ _ h' k
  |_=>exact S _ _ _ _ h' k
 |loop a jQ=>
  intro c6 nest hi Q' e J ts hf ja h hw S;rw[Nk] at hw;obtain⟨hx,m,h0,D⟩:=hw;refine jM.azw (λm s=>∃e,mb n s.ts e/\hx m e s.J) ⟨e,h,h0⟩ λm s ⟨e',h',hI⟩=>?_;refine jQ hf ja h' (D m e' s.J hI) λx ZJ e2 jr V k=>?_;cases x with
  |normal=>
   obtain⟨m',cQ,atC⟩:=k;exact⟨m',cQ,e2,V,atC⟩
  |_=>exact S _ _ _ _ V k
 |q3 ls L=>
  intro c6 nest hi Q' e J ts hf ja h hw S;simp only[eG.oT,eO] at hf;rw[JC] at hw;obtain⟨ρ,hw⟩:=hw;refine jM.q3 hm ρ λl hl=>?_;refine Zl (λch J k ts dM=>S _ _ _ _ (VK h dM) k) ?_;exact Kb (by rw[adW];exact hf l hl) h (hw l hl) λmF e' bl h' k=>S _ _ _ _ (zX h' L) k
 |qZ x ps a b L jQ s8=>
  intro c6 nest hi Q' e J ts hf ja h hw S;simp only[eG.oT,fA] at hf;obtain⟨⟨⟨oZ,iB⟩,Lo⟩,Lp⟩:=hf;rw[AH] at hw;obtain⟨g,fs,Z,I,D⟩:=hw;have ua:∀{pd} {bl},@An hi pd (mm L e) bl->WY Q' pd ⟨ts,bl⟩:=λ{pd bl} h3=>by
   cases pd with
   |none=>exact S _ _ _ _ (zX h L) h3
   |some c=>
    cases c with
    |ret=>exact S _ _ _ _ (zX h L) h3
    |exit id=>exact S _ _ _ _ (zX h L) h3
    |_=>exact h3.elim
  have agz:∀k,To G P k ts ps (kP P a.b7 b.b7) (λhi e J=>@eg G P bh a ⟨hi⟩ e J) (λhi e J=>@eg G P bh b ⟨hi⟩ e J) e:=λkk args bl K c7 ⟨pd,iA⟩ avN=>by
   refine⟨⟨_,_,_,_,_,iA⟩,aE1 iA aHw ?_⟩;refine jQ Lo (λq=>av) (atZ h iB args) avN λx xm e1 eD Y k=>?_;cases x with
   |normal=>
    obtain⟨k1,k2⟩:=k;refine⟨k1,λpd=>s8 Lp (λ_=>rfl) Y (k2 pd) λx ZJ e2 jr V k=>?_⟩;cases x with
    |normal=>exact k
    |ret=>exact k
    |exit id=>exact k
    |_=>exact k.elim
   |_=>exact k.elim
  cases c6 with
  |plain=>cases oZ
  |rH g ks=>cases oZ
  |fn n0=>
   have:nest=bf:=ja rfl;subst this;have ko:=D (J.length+1) (by simp[marks]) ts (kP P a.b7 b.b7) (agz _);simp only[marks,kz,if_false] at ko;exact jM.range (jW h I) (cm ko λr bl ⟨st,pd,Y,V,h3⟩=>⟨st,pd,Y,V,ua h3⟩)
  |AA k=>
   have:nest=bh:=ja rfl;subst this;have ko:=D J.length (by simp[marks]) ts (kP P a.b7 b.b7) (agz _);simp only[marks,if_true,hJ] at ko;exact jM.aBu (jW h I) (cm ko λr bl ⟨st,pd,Y,V,h3⟩=>⟨st,pd,Y,V,ua h3⟩)
def Ax(e:dh)(J:List br):iQ->Option bg
 |.s t=>gC e t
 |.c t bM n=>(gC e t).bind λp=>bA J bM n p
def th(e:dh)(J:List br):List iQ->Option (List bg)
 |[]=>a_ []
 |x::r=>(Ax e J x).bind λa=>(th e J r).map λl=>a::l
def kO(e:dh)(J:List br)(rs:List iQ):Option bg:=(th e J rs).map λl=>match l with
 |[x]=>x
 |l=>.bQ l
def Je(rs:List iQ)[K:Hid (bg->List br->Prop)][E:Hid ry]:ng
 |.normal,e,J=>@gH _ (kO e J rs) ⟨λr=>K.v r J⟩
 |.ret,e,J=>@gH _ (kO e J rs) ⟨λr=>K.v r J⟩
 |.panic ch,_,J=>E.v ch J
 |_,_,_=>False
section
variable{rs:List iQ}{K:Hid (bg->List br->Prop)}{E:Hid ry}{e:dh}{J:List br}
def alJ:@Je rs K E .normal e J=@gH _ (kO e J rs) ⟨λr=>K.v r J⟩:=rfl
def alL:@Je rs K E .ret e J=@gH _ (kO e J rs) ⟨λr=>K.v r J⟩:=rfl
def alK:@Je rs K E (.panic ch) e J=E.v ch J:=rfl
end
def oQ:Nat->List bg->dh
 |_,[]=>[]
 |i,a::r=>(i,a)::oQ (i+1) r
def ab6:∀{l} {i k:Nat} {v:bg},gC (oQ i l) k=a_ v->i<=k/\l[k-i]?=a_ v
 |[],i,k,v,h=>aF
 |a::r,i,k,v,h=>by
  simp only[oQ,gC] at h;split at h;rename_i e;subst e;cases h;exact⟨ck _,af⟩;rename_i e;obtain⟨Y,V⟩:=ab6 h;refine⟨aa,?_⟩;rw[show k-i=(k-(i+1))+1 by omega,y4];exact V
def PT(h:args.length<=n):mb n (uW args n) (oQ 0 args):=by
 refine⟨by simp[uW];omega,λk v S=>?_⟩;obtain⟨_,V⟩:=ab6 S;rw[GZ] at V;unfold uW;rw[fE (cJ.1 V).1];exact V
def MU(h:mb n ts e){r:bg}(D:kO e J rs=a_ r):tg ⟨ts,J⟩ rs=a_ r:=by
 have key:∀{rs} {l},th e J rs=a_ l->Gt ⟨ts,J⟩ rs=a_ l:=by
  intro rs
  induction rs with
  |nil=>intro l hl;cases hl;rfl
  |cons x r ih=>
   intro l hl;simp only[th,gu,dm] at hl;obtain⟨a,Y,l',V,rfl⟩:=hl;have I:MT ⟨ts,J⟩ x=a_ a:=by
    cases x with
    |s t=>simp only[MT,h.2 _ _ Y,vW]
    |c t bM m=>
     simp only[Ax,gu] at Y;obtain⟨p,q1,bt⟩:=Y;simp only[MT,h.2 _ _ q1,vW,bt]
   simp only[Gt,I,ih V]
 simp only[kO,dm] at D;obtain⟨l,Y,V⟩:=D;unfold tg;rw[key Y];split at V;subst V;rfl;rename_i bR;subst V;split;rename_i e1;cases e1;exact(bR _ rfl).elim;rename_i e1;cases e1;rfl;rename_i e1;cases e1
def aeG(hm:P.follows .mixedOrders=bh)(F:r8 P pu f=a_ ⟨n,rs,c.b7⟩)(hf:c.fits n=bh)(hn:args.length<=n)
  (h:@eg G P bf c ⟨@Je rs ⟨K⟩ ⟨E⟩⟩ (oQ 0 args) J):hO G P f args J K E:=by
 refine aso F (Nl hm hf (λq=>av) (PT hn) h λx ts e bl h' k=>?_);cases x with
 |normal=>
  obtain⟨r,Y,V⟩:=k;exact⟨r,MU h' Y,V⟩
 |ret=>
  obtain⟨r,Y,V⟩:=k;exact⟨r,MU h' Y,V⟩
 |panic ch=>exact k
 |_=>exact k.elim
def RG(n0:Nat)(rs:List iQ)[K:Hid (bg->List br->Prop)][E:Hid ry]:ng
 |.normal,e,J=>∀bl,nH n0 J bl->@gH _ (kO e bl rs) ⟨λr=>K.v r bl⟩
 |.ret,e,J=>∀bl,nH n0 J bl->@gH _ (kO e bl rs) ⟨λr=>K.v r bl⟩
 |.panic ch,_,J=>∀bl,nH n0 J bl->E.v ch bl
 |_,_,_=>False
section
variable{n0:Nat}{rs:List iQ}{K:Hid (bg->List br->Prop)}{E:Hid ry}{e:dh}{J:List br}
def YW:@RG n0 rs K E .normal e J=∀bl,nH n0 J bl->@gH _ (kO e bl rs) ⟨λr=>K.v r bl⟩:=rfl
def Gu:@RG n0 rs K E .ret e J=∀bl,nH n0 J bl->@gH _ (kO e bl rs) ⟨λr=>K.v r bl⟩:=rfl
end
def aeH(hm:P.follows .mixedOrders=bh)(F:r8 P pu f=a_ ⟨n,rs,c.b7⟩)(hf:c.oT n bh=bh)(hn:args.length<=n)
  (h:@eg G P bf c ⟨@RG J.length rs ⟨K⟩ ⟨E⟩⟩ (oQ 0 args) J):hO G P f args J K E:=by
 refine asp F (Nl hm hf (λ_=>rfl) (PT hn) h λx ts e bl h' k=>?_);cases x with
 |normal=>
  refine λjr he=>?_;obtain⟨r,Y,V⟩:=k jr he;exact⟨r,MU h' Y,V⟩
 |ret=>
  refine λjr he=>?_;obtain⟨r,Y,V⟩:=k jr he;exact⟨r,MU h' Y,V⟩
 |panic ch=>exact k
 |_=>exact k.elim
def alM[K:Hid (List br->Prop)]:ng
 |.normal,_,J=>K.v J
 |.ret,_,J=>K.v J
 |_,_,_=>False
section
variable{K:Hid (List br->Prop)}{e:dh}{J:List br}
end
def adJ(hm:P.follows .mixedOrders=bh){d0 d1:Nat}(F:Jt P hb g=a_ ⟨n,d0,d1,c.b7⟩)(hf:c.fits n=bh)(hd:d0<n/\d1<n)(hn:args.length<=n){x}{v}{K}
  (I:match x,v with|none,bn=>True|some x,a_ v=>w7 x=bh/\qJ x=a_ v|_,_=>False)
  (h:@eg G P bf c ⟨@alM ⟨K⟩⟩ ((d1,pY x)::(d0,pY x)::oQ 0 args) J):kB G P g args J v K:=by
 refine ary F I (Nl hm hf (λq=>av) ?_ h λx ts e bl h' k=>?_);have:=H6 (d:=a_ d1) (v:=pY x) (H6 (d:=a_ d0) (v:=pY x) (PT hn) (by simpa using hd.1)) (by simpa using hd.2);exact this;cases x with
 |normal=>exact⟨bD rfl,k⟩
 |ret=>exact⟨bF rfl,k⟩
 |_=>exact k.elim
def kB.mono{x}{K K'}(h:kB G P g args J x K)(S:∀J,K J->K' J):kB G P g args J x K':=
 ⟨h.1,λbase w0 C M w cZ hs D=>CallsDIn.mono (h.2 base w0 C M w cZ hs D) λe u' w' ⟨bI,M',bl,v,k,rest⟩=>⟨bI,M',bl,v,S _ k,rest⟩⟩
def alI(G:Cells)(P:Program)(g:FuncId)(ks:List Nat)(rs:List iQ)[K:Hid (bg->List br->Prop)]:ng
 |.normal,e,J=>kB G P g (ks.map λk=>.mp k 0) J bn λbl=>@gH _ (kO e bl rs) ⟨λr=>K.v r bl⟩
 |.ret,e,J=>kB G P g (ks.map λk=>.mp k 0) J bn λbl=>@gH _ (kO e bl rs) ⟨λr=>K.v r bl⟩
 |.panic ch,e,J=>∃v,ch=[{v:=v,recovered:=bf}]/\kB G P g (ks.map λk=>.mp k 0) J (a_ v) λbl=>@gH _ (kO e bl rs) ⟨λr=>K.v r bl⟩
 |_,_,_=>False
def aeF(hm:P.follows .mixedOrders=bh){t:Nat}{caps}{a b:eG}(F:Jr P hb f=a_ ⟨n,rs,a.b7,t,g,caps,b.b7⟩)(Lo:a.fits n=bh)(Lp:b.fits n=bh)(ht:t<n)(hn:args.length<=n)
  (h:@eg G P bf a ⟨@r_ ⟨λe J=>∃ks:List Nat,nr e caps=a_ (ks.map λk=>.mp k 0)/\@eg G P bf b ⟨@alI G P g ks rs ⟨K⟩⟩ ((t,.fn (.func g) [] (ks.map λk=>.mp k 0))::e) J⟩ ⟨λ_ _ _=>False⟩⟩ (oQ 0 args) J):cy G P f args J K:=by
 refine asn F (Nl hm Lo (λq=>av) (PT hn) h λx ts e bl h' k=>?_);cases x with
 |normal=>
  obtain⟨ks,Y,V⟩:=k;refine⟨rfl,by rw[h'.1];exact ht,ks,uX h' Y,Nl hm Lp (λq=>av) (H6 (d:=a_ t) h' (by simpa using ht)) V λx ZJ e2 jr h3 k=>?_⟩;have B1:∀bl,@gH _ (kO e2 bl rs) ⟨λr=>K r bl⟩->∃r,tg ⟨ZJ,bl⟩ rs=a_ r/\K r bl:=λbl ⟨r,q1,bt⟩=>⟨r,MU h3 q1,bt⟩;cases x with
  |normal=>
   have k':kB G P g (ks.map λk=>.mp k 0) jr bn λbl=>@gH _ (kO e2 bl rs) ⟨λr=>K r bl⟩:=k;exact kB.mono k' B1
  |ret=>
   have k':kB G P g (ks.map λk=>.mp k 0) jr bn λbl=>@gH _ (kO e2 bl rs) ⟨λr=>K r bl⟩:=k;exact kB.mono k' B1
  |panic ch=>
   obtain⟨v,q1,bt⟩:=k;exact⟨v,q1,kB.mono bt B1⟩
  |_=>exact k.elim
 |_=>exact k.elim
def sj{nest}:∀{c:eG} {hi Q'} {e:dh} {J},@eg G P nest c hi e J->(∀x e J,hi.v x e J->Q'.v x e J)->@eg G P nest c Q' e J:=by
 have agT:∀{i} {F F'} {E E'} {e:dh} {J},@jB G P i F E e J->(∀v J,F.v v J->F'.v v J)->(∀ch J,E.v ch J->E'.v ch J)->@jB G P i F' E' e J:=by
  intro i F F' E E' e J h hF hE;cases i with
  |op o=>obtain⟨v,Y,V⟩:=h;exact⟨v,Y,hF _ _ V⟩
  |call f args=>obtain⟨dB,Y,V⟩:=h;exact⟨dB,Y,cm V hF⟩
  |lO x args=>
   obtain⟨x',h0,dB,Y,V⟩:=h;exact⟨x',h0,dB,Y,vK V hF⟩
  |nB f args=>obtain⟨dB,Y,bs,r',V,h3,h4⟩:=h;exact⟨dB,Y,bs,r',V,h3,hF _ _ h4⟩
  |oE f args r=>obtain⟨dB,Y,bs,V,h3,h4⟩:=h;exact⟨dB,Y,bs,V,h3,hF _ _ h4⟩
  |pI f args=>obtain⟨dB,Y,V⟩:=h;exact⟨dB,Y,gE V hF hE⟩
  |pJ x args=>
   obtain⟨x',h0,dB,Y,V⟩:=h;exact⟨x',h0,dB,Y,aaf V hF hE⟩
  |fV x=>obtain⟨v,Y,V⟩:=h;exact⟨v,Y,hE _ _ V⟩
 have aqv:∀{v:bg} {A B A' B'},@EU v A B->(A.v->A'.v)->(B.v->B'.v)->@EU v A' B':=by
  intro v A B A' B' h Y V;unfold EU at h⊢;split at h;exact⟨λq=>Y (h.1 q),λq=>V (h.2 q)⟩;exact h.elim
 have guard:∀{w} {v:bg} {A B A' B'},@tW w v A B->(A.v->A'.v)->(B.v->B'.v)->@tW w v A' B':=by
  intro w v A B A' B' h Y V;unfold tW at h⊢;split at h;cases w with
  |true=>exact⟨λq=>Y (h.1 q),λq=>V (h.2 q)⟩
  |false=>exact⟨λq=>V (h.1 q),λq=>Y (h.2 q)⟩
  exact V h;exact h.elim
 have run:∀{l} {K K'} {E E'} {e:dh} {J},@j4 G P l K E e J->(∀e J,K.v e J->K'.v e J)->(∀ch J,E.v ch J->E'.v ch J)->@j4 G P l K' E' e J:=by
  intro l
  induction l with
  |nil=>intro K K' E E' e J h S hE;rw[EI] at h⊢;exact S _ _ h
  |cons o r ih=>
   intro K K' E E' e J h S hE;obtain⟨d,g,i⟩:=o
   rcases g with _|⟨k,w⟩
   rw[Hi] at h⊢;exact agT h (λv bl q=>ih q S hE) hE;rw[Hh] at h⊢;obtain⟨g,Y,V⟩:=h;exact⟨g,Y,guard V (λq=>agT q (λv bl q=>ih q S hE) hE) λq=>ih q S hE⟩
 have aB6:∀{l} {K K'} {E E'} {e:dh} {J},@tL G P l K E e J->(∀e J,K.v e J->K'.v e J)->(∀ch J,E.v ch J->E'.v ch J)->@tL G P l K' E' e J:=by
  intro l
  induction l with
  |nil=>intro K K' E E' e J h S hE;rw[Hj] at h⊢;exact S _ _ h
  |cons o r ih=>
   intro K K' E E' e J h S hE;obtain⟨o,Z⟩:=o;rw[Hl] at h⊢;exact run h (λe J k=>⟨k.1,ih k.2 S hE⟩) hE
 intro c
 induction c with
 |skip L=>intro hi Q' e J h hq;rw[Nr] at h⊢;exact hq _ _ _ h
 |exit id L=>intro hi Q' e J h hq;rw[Ni] at h⊢;exact hq _ _ _ h
 |lab L=>intro hi Q' e J h hq;rw[Nj] at h⊢;exact hq _ _ _ h
 |bad=>intro hi Q' e J h hq;unfold eg at h;exact h.elim
 |scope a jQ=>
  intro hi Q' e J h hq;rw[Nq] at h⊢;refine jQ h λx e' bl k=>?_;cases x with
  |goto l=>exact k.elim
  |_=>exact hq _ _ _ k
 |ret L=>intro hi Q' e J h hq;rw[Np] at h⊢;exact hq _ _ _ h
 |region ops L=>intro hi Q' e J h hq;rw[Nn] at h⊢;exact run h (λe' bl k=>hq _ _ _ k) λch bl k=>hq _ _ _ k
 |qw l L=>intro hi Q' e J h hq;rw[No] at h⊢;exact aB6 h (λe' bl k=>hq _ _ _ k) λch bl k=>hq _ _ _ k
 |seq a b jQ s8=>
  intro hi Q' e J h hq;rw[GI] at h⊢;refine jQ h λx e' bl k=>?_;cases x with
  |normal=>exact s8 k hq
  |_=>exact hq _ _ _ k
 |cond o a b jQ s8=>intro hi Q' e J h hq;rw[Nh] at h⊢;obtain⟨v,Y,V⟩:=h;exact⟨v,Y,aqv V (λq=>jQ q hq) (λq=>s8 q hq)⟩
 |block id a jQ=>
  intro hi Q' e J h hq;rw[Ca] at h⊢;refine jQ h λx e' bl k=>?_;cases x with
  |exit nx=>
   simp only[wu] at k⊢;split at k;rename_i e1;rw[if_pos e1];exact hq _ _ _ k;rename_i e1;rw[if_neg e1];exact hq _ _ _ k
  |_=>exact hq _ _ _ k
 |loop a jQ=>
  intro hi Q' e J h hq;rw[Nk] at h⊢;obtain⟨hx,m,h0,D⟩:=h;refine⟨hx,m,h0,λm e J hI=>jQ (D m e J hI) λx e' bl k=>?_⟩;cases x with
  |normal=>exact k
  |_=>exact hq _ _ _ k
 |q3 ls L=>intro hi Q' e J h hq;rw[JC] at h⊢;obtain⟨ρ,h⟩:=h;exact⟨ρ,λl hl=>run (h l hl) (λe' bl k=>hq _ _ _ k) λch bl k=>hq _ _ _ k⟩
 |qZ x ps a b L jQ s8=>
  intro hi Q' e J h hq;rw[AH] at h⊢;obtain⟨g,fs,Z,I,D⟩:=h;refine⟨g,fs,Z,I,λk S bX ok hR=>cm (D k S bX ok hR) λr bl ⟨st,pd,Y,V,h3⟩=>⟨st,pd,Y,V,?_⟩⟩;cases pd with
  |none=>exact hq _ _ _ h3
  |some c=>
   cases c with
   |ret=>exact hq _ _ _ h3
   |exit id=>exact hq _ _ _ h3
   |_=>exact h3.elim
section
variable{G:Cells}{P:Program}{nest:Bool}{hi:Hid ng}{e:dh}{J:List br}
def eE{a b:eG}(M)(Y:@eg G P nest a ⟨@r_ ⟨M⟩ ⟨λ_ _ _=>False⟩⟩ e J)(V:∀e J,M e J->@eg G P nest b hi e J):@eg G P nest (.seq a b) hi e J:=by
 rw[GI];refine sj Y λx e J k=>?_;cases x with
 |normal=>exact V _ _ k
 |_=>exact k.elim
def iq{a b:eG}(M)(Y:@eg G P nest a ⟨@r_ ⟨M⟩ hi⟩ e J)(V:∀e J,M e J->@eg G P nest b hi e J):@eg G P nest (.seq a b) hi e J:=by
 rw[GI];refine sj Y λx e J k=>?_;cases x with
 |normal=>exact V _ _ k
 |_=>exact k
def dx{x:eG}(hx:Nat->dh->List br->Prop)(n:Nat)(h0:hx 0 e J)(round:∀i e J,i<n->hx i e J->@eg G P nest x ⟨@r_ ⟨hx (i+1)⟩ hi⟩ e J)(last:∀e J,hx n e J->@eg G P nest x ⟨@r_ ⟨λ_ _=>False⟩ hi⟩ e J):@eg G P nest (.loop x) hi e J:=by
 rw[Nk];refine⟨λk e J=>∃i,k=n-i/\i<=n/\hx i e J,_,⟨0,rfl,jR _,h0⟩,λk e J ⟨i,S,Q,hI⟩=>?_⟩
 rcases d_ i n with hl|hl
 refine sj (round i e J hl hI) λx e' bl q=>?_;cases x with
 |normal=>exact⟨n-(i+1),aa,i+1,rfl,hl,q⟩
 |_=>exact q
 have e1:i=n:=aa
 subst e1;refine sj (last e J hI) λx e' bl q=>?_;cases x with
 |normal=>exact q.elim
 |_=>exact q
def o9{x:eG}(hx:Nat->dh->List br->Prop)(h0:hx n e J)(round:∀n e J,hx n e J->@eg G P nest x ⟨@r_ ⟨λe' bl=>∃m,m<n/\hx m e' bl⟩ hi⟩ e J):@eg G P nest (.loop x) hi e J:=by
 rw[Nk];exact⟨hx,n,h0,round⟩
end
def nY:type_of% @Nr/\type_of% @Nn/\type_of% @JC/\type_of% @GI/\type_of% @Nh/\type_of% @Ca/\type_of% @Ni/\type_of% @Np/\type_of% @EI/\type_of% @Hi/\type_of% @Hh/\type_of% @afl/\type_of% @afj/\type_of% @afk/\type_of% @af0/\type_of% @anR/\type_of% @anS/\type_of% @NR/\type_of% @NQ/\type_of% @acE/\type_of% @anu/\type_of% @ant/\type_of% @anw/\type_of% @acv/\type_of% @acy/\type_of% @acz/\type_of% @acu/\type_of% @alJ/\type_of% @alL/\type_of% @acV/\type_of% @qq/\type_of% @zk/\type_of% @abI/\type_of% @abJ/\type_of% @abK/\type_of% @abL/\type_of% @zl/\type_of% @mh/\type_of% @Hw/\type_of% @ab1/\type_of% @TE/\type_of% @abx/\type_of% @abG/\type_of% @abE/\type_of% @abz/\type_of% @abF/\type_of% @abD/\type_of% @abC/\type_of% @abB/\type_of% @abA/\type_of% @Tz/\type_of% @TA/\type_of% @anv/\type_of% @acw/\type_of% @alK/\type_of% @acW/\type_of% @No/\type_of% @Hj/\type_of% @Hl/\type_of% @Nq/\type_of% @Nj/\type_of% @aml/\type_of% @amk/\type_of% @amn/\type_of% @amm:=
 ⟨@Nr,@Nn,@JC,@GI,@Nh,@Ca,@Ni,@Np,@EI,@Hi,@Hh,@afl,@afj,@afk,@af0,@anR,@anS,@NR,@NQ,@acE,@anu,@ant,@anw,@acv,@acy,@acz,@acu,@alJ,@alL,@acV,@qq,@zk,@abI,@abJ,@abK,@abL,@zl,@mh,@Hw,@ab1,@TE,@abx,@abG,@abE,@abz,@abF,@abD,@abC,@abB,@abA,@Tz,@TA,@anv,@acw,@alK,@acW,@No,@Hj,@Hl,@Nq,@Nj,@aml,@amk,@amn,@amm⟩
def nZ:type_of% @cz.eq_1/\type_of% @cz.eq_2/\type_of% @cz.eq_3/\type_of% @cz.eq_4/\type_of% @cz.eq_5/\type_of% @cz.eq_6/\type_of% @cz.eq_7/\type_of% @cz.eq_8/\type_of% @cz.eq_9/\type_of% @cz.eq_10/\type_of% @cz.eq_11/\type_of% @cz.eq_12/\type_of% @cz.eq_13/\type_of% @cz.eq_14/\type_of% @cz.eq_15/\type_of% @cz.eq_16/\type_of% @cz.eq_17/\type_of% @cz.eq_18/\type_of% @cz.eq_19/\type_of% @cz.eq_20/\type_of% @cz.eq_21/\type_of% @cz.eq_22/\type_of% @cz.eq_23/\type_of% @cz.eq_24/\type_of% @cz.eq_25/\type_of% @cz.eq_26/\type_of% @cz.eq_27/\type_of% @cz.eq_28/\type_of% @cz.eq_29/\type_of% @cz.eq_30/\type_of% @cz.eq_31/\type_of% @cz.eq_32/\type_of% @cz.eq_33/\type_of% @cz.eq_34/\type_of% @cz.eq_35/\type_of% @cz.eq_36/\type_of% @cz.eq_37/\type_of% @cz.eq_38/\type_of% @cz.eq_39/\type_of% @cz.eq_40/\type_of% @cz.eq_41/\type_of% @cz.eq_42/\type_of% @cz.eq_43/\type_of% @cz.eq_44/\type_of% @cz.eq_45/\type_of% @cz.eq_46/\type_of% @cz.eq_47/\type_of% @ec.eq_1/\type_of% @ec.eq_2/\type_of% @nr.eq_1/\type_of% @nr.eq_2/\type_of% @xU.eq_1/\type_of% @xU.eq_2/\type_of% @C2.eq_1/\type_of% @C2.eq_2/\type_of% @gC.eq_1/\type_of% @gC.eq_2/\type_of% @C0.eq_1/\type_of% @C0.eq_2/\type_of% @mm.eq_1/\type_of% @mm.eq_2/\type_of% @pX.eq_1/\type_of% @pX.eq_2/\type_of% @oQ.eq_1/\type_of% @oQ.eq_2/\type_of% @I6.eq_1/\type_of% @I6.eq_2/\type_of% @kO.eq_1/\type_of% @th.eq_1/\type_of% @th.eq_2/\type_of% @Ax.eq_1/\type_of% @Ax.eq_2/\type_of% @l7.{0,0}/\type_of% @Option.bind_none.{0,0}/\type_of% @jS.{0,0}/\type_of% @Option.map_none.{0,0}/\type_of% @gF/\type_of% @uE/\type_of% @kz:=
 ⟨@cz.eq_1,@cz.eq_2,@cz.eq_3,@cz.eq_4,@cz.eq_5,@cz.eq_6,@cz.eq_7,@cz.eq_8,@cz.eq_9,@cz.eq_10,@cz.eq_11,@cz.eq_12,@cz.eq_13,@cz.eq_14,@cz.eq_15,@cz.eq_16,@cz.eq_17,@cz.eq_18,@cz.eq_19,@cz.eq_20,@cz.eq_21,@cz.eq_22,@cz.eq_23,@cz.eq_24,@cz.eq_25,@cz.eq_26,@cz.eq_27,@cz.eq_28,@cz.eq_29,@cz.eq_30,@cz.eq_31,@cz.eq_32,@cz.eq_33,@cz.eq_34,@cz.eq_35,@cz.eq_36,@cz.eq_37,@cz.eq_38,@cz.eq_39,@cz.eq_40,@cz.eq_41,@cz.eq_42,@cz.eq_43,@cz.eq_44,@cz.eq_45,@cz.eq_46,@cz.eq_47,@ec.eq_1,@ec.eq_2,@nr.eq_1,@nr.eq_2,@xU.eq_1,@xU.eq_2,@C2.eq_1,@C2.eq_2,@gC.eq_1,@gC.eq_2,@C0.eq_1,@C0.eq_2,@mm.eq_1,@mm.eq_2,@pX.eq_1,@pX.eq_2,@oQ.eq_1,@oQ.eq_2,@I6.eq_1,@I6.eq_2,@kO.eq_1,@th.eq_1,@th.eq_2,@Ax.eq_1,@Ax.eq_2,@l7.{0,0},@Option.bind_none.{0,0},@jS.{0,0},@Option.map_none.{0,0},@gF,@uE,@kz⟩
def fH{b c d}(x:a)(y:b)(z:c)(u:d):a/\b/\c/\d:=⟨x,y,z,u⟩
def JB{p q a0:Prop}(x0:a0)(h:q)(e:a0->q->p:=by intro f0 hh;simp -failIfUnchanged -implicitDefEqProofs (disch:=first|assumption|decide|omega) only[jB,nY,nZ,↓reduceIte,Nat.reduceEqDiff,Nat.reduceAdd,Nat.reduceLT,Nat.reduceLeDiff,f0];exact hh):p:=e x0 h
def aEI{p q a b:Prop}(x:a)(y:b)(h:q)(e:a/\b->q->p:=by intro f h;exact JB f h):p:=e ⟨x,y⟩ h
def aEJ{p q a b c d:Prop}(x:a)(y:b)(z:c)(u:d)(h:q)(e:a/\b/\c/\d->q->p:=by intro f h;exact JB f h):p:=e ⟨x,y,z,u⟩ h
def Z1{p q a b c d f:Prop}(x:a)(y:b)(z:c)(u:d)(v:f)(h:q)(e:a/\b/\c/\d/\f->q->p:=by intro f h;exact JB f h):p:=e ⟨x,y,z,u,v⟩ h
def aEK{p q a b c d f g i:Prop}(x:a)(y:b)(z:c)(u:d)(v:f)(w:g)(r:i)(h:q)(e:a/\b/\c/\d/\f/\g/\i->q->p:=by intro f h;exact JB f h):p:=e ⟨x,y,z,u,v,w,r⟩ h
def anT{p q a b c d f g i j:Prop}(x:a)(y:b)(z:c)(u:d)(v:f)(w:g)(r:i)(s:j)(h:q)(e:a/\b/\c/\d/\f/\g/\i/\j->q->p:=by intro f h;exact JB f h):p:=e ⟨x,y,z,u,v,w,r,s⟩ h
def anU{p q a b c d f g i j k:Prop}(x:a)(y:b)(z:c)(u:d)(v:f)(w:g)(r:i)(s:j)(t:k)(h:q)(e:a/\b/\c/\d/\f/\g/\i/\j/\k->q->p:=by intro f h;exact JB f h):p:=e ⟨x,y,z,u,v,w,r,s,t⟩ h
end
open Go.ChangeShapes Go.WideShapes Go.ChangeAt
def sD(W:World):Cells:=λb o=>W.cell? ⟨b,o,bn⟩
section
variable{H:Type}{enc:TypeId×Value->H}{P:Program}
def anD(hl:laidOutB P=bh){W W'}{sp}(O:Below W.heap.size W W'):∀{ts} {vs} {ds} {ps},(∀t∈ts,P.readableRec t=bh/\t<P.types.size)->
  SE enc P W 0 (λ_=>bh) bh ts vs ds ps->(∀p∈ps,p.block<W.heap.size)->(∀p∈ps,sp p.block=bh)->SE enc P W' 0 sp bh ts vs ds ps
 |[],[],[],_,_,h,_,_=>h
 |t::ts,v::vs,d::ds,ps,ht,⟨p,q,Y,V,e⟩,cQ,gk=>by
  subst e;exact⟨p,q,WideElems.Trod_stays hl (ht t af).1 (ht t af).2 Y (λx I=>O.same (cQ x aA)) (λx I=>gk x aA),(anD hl O (λu hu=>ht u (by simp[hu])) V (λx I=>cQ x aA) (λx I=>gk x aA)),rfl⟩
def aqp{W W'}(O:Below W.heap.size W W')(azP):W.keptBut W' azP:=by
 refine⟨O.os,O.output,λi Q=>?_⟩;rw[O.block i Q];split;rename_i a b c a' b' c' Y V;rw[Y] at V;cases V;exact⟨rfl,rfl,rfl,λ_ _=>rfl⟩;rename_i Y V;rw[Y] at V;cases V;exact bF ⟨rfl,rfl⟩;rfl
def aqn{W W'}(O:Below W.heap.size W W'){b off}(h:b<W.heap.size):W'.frozen? ⟨b,off,bn⟩=W.frozen? ⟨b,off,bn⟩:=by
 unfold NG;rw[O.block b h]
def zb(W:World):Cells:=λb o=>(sD W b o).filter λv=> !vB v
def G1{W:World}{b o v}(h:sD W b o=a_ v)(hv:vB v=bf):zb W b o=a_ v:=by unfold zb;rw[h];simp[SZ,hv]
def aeP(W:World):He (zb W):=λb o v h=>by
 unfold zb at h;cases T:sD W b o with
 |none=>rw[T] at h;cases h
 |some u=>
  rw[T] at h;simp only[SZ] at h;split at h;rename_i q;cases h;simpa using q;cases h
def ao2{W:World}{b o v}(h:zb W b o=a_ v):W.cell? ⟨b,o,bn⟩=a_ v:=by
 unfold zb at h;cases T:sD W b o with
 |none=>rw[T] at h;cases h
 |some u=>
  rw[T] at h;simp only[SZ] at h;split at h;cases h;exact T;cases h
def ap5{W:World}:∀b o v,zb W b o=a_ v->pz (zb W) W b o v:=λb o v h=>⟨ao2 h,λ_ hv=>by rw[aeP W b o v h] at hv;cases hv⟩
def ayL{f}{fn}{s:ChangeSpec}{tb}(hl:laidOutB P=bh)(agA:P.underlying tb=a_ .bool)(Qi:fn.resultTypes= #[tb])
  (avo:∀t∈fn.params.toList,P.readableRec t=bh/\t<P.types.size) (agF:s.vars=[]) {W} {args} {ds gs} {zy}
  (avA:∀gs,gs=[]->s.fn H (ds++gs)={results:=[.lit (.bool bh)],args:=ds}) (hW:DataW.Whole enc P fn.params.toList s.vars bf W args.toList ds gs zy)
  {ei} {G:Cells} (hT:EK W) (cB:∀b o v,G b o=a_ v->pz G W b o v) (J:dL G P f ei (.v (.bool bh))) (D:dn G [] [] ei args.toList):
  Calls P f args W λe W'=>∃v,e=.returned v/\s.post enc P fn bf bh bf bf W args v W':=by
 have De:=J.2 G W args.toList ⟨λb o v h=>h,hT⟩ cB D;rw[Array.toArray_toList] at De;refine De.mono λe W' ⟨bI,v',he,_,_,_,O,iM,_⟩=>?_;cases iM;subst he;refine⟨_,rfl,?_⟩;have cQ:∀p∈zy,p.block<W.heap.size:=λp J=>hW.lt p J;have VA:=hW;obtain⟨p,q,hA,hV,rfl,hz,hn⟩:=hW;rw[agF] at hV;obtain⟨rfl,rfl⟩:=trodVars_none hV;have hs:=avA [] rfl;have ou:∀sp:Nat->Bool,(∀x∈p++[],sp x.block=bh)->SE enc P W' 0 sp bh fn.params.toList args.toList ds p:=λsp gk=>
  anD hl O avo hA (λx I=>cQ x aA) (λx I=>gk x aA)
 have agw:∀(b) (sp) (hd),SE enc P W' b sp hd fn.resultTypes.toList ((Value.bool bh).resultList fn.resultTypes.size) [.lit (.bool bh)] []:=λb sp hd=>by
  rw[Qi];exact trodAll_cons_mk (shut_bool agA _) trodAll_mk0
 have agE:∀sp,DataW.TrodVars enc P W' sp s.vars [] []:=λsp=>by rw[agF];rfl
 refine⟨ds,[],p++[],[],p,[],VA,?_,?_,?_,aqp O _,λ_=>?_⟩;rw[hs];exact agw _ _ _;rw[hs];exact ou _ (λx I=>by simpa using cQ x I);rw[hs];exact agE _;refine⟨ok_one Qi rfl (okWide_bool_mk agA _),_,_,([]++p)++[],⟨[]++p,[],trodAll_append (ou _ (λ_ _=>rfl)) (agw _ _ _),by simpa using agE _,af,?_,?_⟩,?_⟩;intro b off bl;rw[aqn O (show b<W.heap.size from cQ (.cell b off) (by simpa using bl))];exact hz b off (by simpa using bl);intro ha;cases ha;intro x I _;simpa using I
def aBP{a}{C}{os:Os}{f}{fn}{s}{adz}{apart fresh afC abQ}{X:World->Array Value->Prop}
  (hX:∀(w w') (args),w.heap=w'.heap->X w args->X w' args)
  (own:ownKnob C.prog.godebug=bn) (M7:os.Started) (aAl:C.prog.inits.idxOf? f=bn) (qm:C.prog.funcs[f]?=a_ fn)
  (aEH:∃(w:World) (tape:Tape) (i:Input),w.os=os/\(w.forCall tape i).Shaped C.prog/\i.vars=[]/\Input.okWide C.prog (w.forCall tape i) .any w.heap.size f i/\
    ((s.pre enc C.prog fn adz apart (w.forCall tape i).memory i.args/\X (w.forCall tape i).memory i.args)/\sizedMet enc C.prog fn (aas s) apart (w.forCall tape i).memory i.args)/\a.holds C.prog (lone (Frame.enter C.prog f i.args .normal) [] (w.forCall tape i)))
  (arl:∀(W) (base) (args) (ds gs) (zy),
    (∀(j:Nat) t v,fn.params[j]?=a_ t->args[j]?=a_ v->NF C.prog W .any base t v)->
    DataW.Whole enc C.prog fn.params.toList s.vars apart W args.toList ds gs zy->X W args->W.ShapedOpen C.prog->
    Calls C.prog f args W λe W'=>∃v,e=.returned v/\s.post enc C.prog fn apart fresh afC abQ W args v W'):
  ReturnsInHanded a C os f .any (λw args=>(s.pre enc C.prog fn adz apart w args/\X w args)/\sizedMet enc C.prog fn (aas s) apart w args) (s.post enc C.prog fn apart fresh afC abQ):=by
 refine returnsInHanded_of_calls own M7 aAl aEH ?_;intro w tape i _ kY _ fG qn aGp;obtain⟨_,_,_,asm,auq,_,_,_,_,DB⟩:=fG;have e:asm=fn:=mY (auq.symm.trans qm);subst e;obtain⟨⟨⟨ds,gs,zy,hw,T⟩,I⟩,hz⟩:=qn;refine(arl (w.forCall tape i) w.heap.size i.args ds gs zy DB (DataW.Whole.of_heap (w':=w.forCall tape i) (by rfl) hw) (hX _ _ _ (by rfl) I) kY).mono λe W' ⟨v,he,J⟩=>?_;subst he;exact ChangeSpec.post_blind J
end
inductive vX where
 |i (k:IntKind)
 |b
 |s
 |sl (e:List vX)
inductive vZ(W:World):vX->Value->Prop
 |i {k:IntKind} {n:Int} (h:(Lit.int k n).wf=bh):vZ W (.i k) (.int k n)
 |b {x:Bool}:vZ W .b (.bool x)
 |s {x:ByteArray} (h:x.size<=maxLen):vZ W .s (.string x)
 |nil {e:List vX}:vZ W (.sl e) (.slice bn 0 0)
 |sl {e:List vX} {a:Addr} {len cap:Nat} (g:Nat->Nat->Value) (hl:len<=cap) (T:cap<=maxLen) (gk:0<len->0<e.length->a.spot=bn)
  (hC:∀i j c,i<len->e[j]?=a_ c->W.cell? ⟨a.block,a.off+i*e.length+j,bn⟩=a_ (g i j))
  (hR:∀i j c,i<len->e[j]?=a_ c->vZ W c (g i j)):vZ W (.sl e) (.slice (a_ a) len cap)
def pE(W:World)(L:List vX)(Z:List Value):Prop:=L.length=Z.length/\∀(i:Nat) c v,L[i]?=a_ c->Z[i]?=a_ v->vZ W c v
def Po(P:Program)(g:TypeId->Option (List vX)):List Field->Nat->Option (List vX)
 |[],_=>a_ []
 |f::r,off=>if f.offset=off then match g f.type with
   |some l=>if P.cellsOf f.type=l.length then(Po P g r (off+l.length)).map (l++ ·) else bn
   |none=>bn
  else bn
def D1:Nat->List vX->List vX
 |0,_=>[]
 |n+1,l=>l++D1 n l
def Fb(P:Program):Nat->TypeId->Option (List vX)
 |0,_=>bn
 |f+1,t=>match P.underlying t with
  |some (.int k)=>a_ [.i k]
  |some .bool=>a_ [.b]
  |some .string=>a_ [.s]
  |some (.slice e)=>match Fb P f e with
   |some l=>if P.cellsOf e=l.length then a_ [.sl l] else bn
   |none=>bn
  |some (.struct fs)=>match Po P (Fb P f) fs.toList 0 with
   |some l=>if P.cellsOf t=l.length then a_ l else bn
   |none=>bn
  |some (.array n e)=>match Fb P f e with
   |some l=>if P.cellsOf e=l.length/\P.cellsOf t=n*l.length then a_ (D1 n l) else bn
   |none=>bn
  |_=>bn
section
variable{H:Type}{enc:TypeId×Value->H}{P:Program}{W:World}{sp:Nat->Bool}{Lm:Bool}
def acY{L L'}{Z cs'}(h:pE W L Z)(h':pE W L' cs'):pE W (L++L') (Z++cs'):=by
 refine⟨by simp[h.1,h'.1],λi c v T hv=>?_⟩
 rcases d_ i L.length with Q|Q
 rw[fE Q] at T;rw[fE (by rw[<-h.1];exact Q)] at hv;exact h.2 i c v T hv;rw[fF Q] at T;rw[fF (by rw[<-h.1];exact Q),<-h.1] at hv;exact h'.2 _ c v T hv
def Kt{c}{v}(h:vZ W c v):pE W [c] [v]:=⟨rfl,λi c' v' T hv=>by
 cases i with
 |zero=>simp at T hv;subst T;subst hv;exact h
 |succ i=>simp at T⟩
def aBG(n)(l):(D1 n l).length=n*l.length:=by
 induction n with
 |zero=>simp[D1]
 |succ n ih=>simp only[D1,en,ih,tB];omega
def adV{α:Type}(Z:List α)(off n):Z.drop off=(Z.drop off).take n++Z.drop (off+n):=by
 conv=>lhs;rw[<-aaJ n (Z.drop off)]
 rw[y2]
def aeS{g}{Z:List Value}{R:TypeId->List Value->Prop}(hg:∀t l v,g t=a_ l->R t v->pE W l v):
  ∀(fs) (off) (L),Po P g fs off=a_ L->(∀f∈fs,R f.type ((Z.drop f.offset).take (P.cellsOf f.type)))->(Z.drop off).length=L.length->pE W L (Z.drop off)
 |[],off,L,h,_,hl=>by
  cases h;have:Z.drop off=[]:=nF hl;rw[this];exact⟨rfl,λi c v T=>aJc⟩
 |f::r,off,L,h,hR,hl=>by
  simp only[Po] at h;split at h;rename_i avc;subst avc;split at h;rename_i l kH;split at h;rename_i hn;simp only[dm] at h;obtain⟨L',sS,rfl⟩:=h;rw[adV Z f.offset (P.cellsOf f.type)];refine acY (hg _ _ _ kH (hR f af)) ?_;rw[hn];refine aeS hg r (f.offset+l.length) L' sS (λf' eM=>hR f' (by simp[eM])) ?_;simp only[en,y5] at hl⊢;omega;cases h;cases h;cases h
def alD{l}{Z:List Value}(n):∀(k i),k+i=n->(∀j,j<n->pE W l ((Z.drop (j*l.length)).take l.length))->(Z.drop (i*l.length)).length=k*l.length->pE W (D1 k l) (Z.drop (i*l.length))
 |0,i,_,_,hl=>by
  have:Z.drop (i*l.length)=[]:=nF (by rw[hl];simp);rw[this];exact⟨rfl,λi c v T=>by simp[D1] at T⟩
 |k+1,i,S,hR,hl=>by
  rw[adV Z (i*l.length) l.length];refine acY (hR i aa) ?_;have e:i*l.length+l.length=(i+1)*l.length:=by rw[tB]
  rw[e];refine alD n k (i+1) aa hR ?_;rw[<-e];simp only[y5,tB] at hl⊢;omega
def acZ{a}{n}{Z}(h:W.cells? 0 a n=a_ Z):Z.length=n/\∀j,j<n->W.cell? (a.add j)=Z[j]? :=by
 unfold World.cells? at h;rw[if_pos (jR _)] at h;exact⟨by simpa using mapM_some_length h,λj hj=>mapM_some_get h j j aI5⟩
def apG(a:Addr)(n)(h:a.spot=bn):a.add n=⟨a.block,a.off+n,bn⟩:=by
 cases a with
 |mk b o s=>simp at h;subst h;rw[addr_add]
def aqG{a}{v}(h:W.cell? a=a_ v):a.spot=bn:=by
 unfold Es at h;split at h;split at h;cases h;rename_i hs;simpa using hs;cases h
def Nb:∀(d) (t) (L),Fb P d t=a_ L->∀(nO) (Z) (x),SF enc P W 0 sp Lm nO t Z=a_ x->pE W L Z
 |0,t,L,h=>aF
 |d+1,t,L,h=>by
  intro nO Z x I;simp only[Fb] at h;split at h;rename_i k ht;cases h;obtain⟨n,rfl,_,hw⟩:=DataW.trod_int ht I;exact Kt (.i hw);rename_i ht;cases h;obtain⟨n,rfl,_⟩:=DataW.trod_bool ht I;exact Kt .b;rename_i ht;cases h;obtain⟨n,rfl,_,hw⟩:=DataW.trod_string ht I;exact Kt (.s hw);rename_i e ht;split at h;rename_i l hl;split at h;rename_i hn;cases h
  rcases DataW.trod_slice ht I with⟨rfl,_⟩|⟨a,len,cap,aFU,rest,n,rfl,rfl,_,_,fO,VS,sW,kW,_,_⟩
  exact Kt .nil
  · rw[hn] at kW
    have each:∀i,i<len->∃ci,W.cells? 0 (a.add (i*l.length)) l.length=a_ ci/\pE W l ci:=λi Q=>by
     have Y:=kW i Q;rw[cx aa] at Y;simp only[gu] at Y;obtain⟨ci,c1,c2⟩:=Y;exact⟨ci,c1,Nb d e l hl n ci _ c2⟩
    have gk:0<len->0<l.length->a.spot=bn:=λh0 Y=>by
     obtain⟨ci,c1,_⟩:=each 0 h0;obtain⟨q1,bt⟩:=acZ c1;have bT:=bt 0 Y;rw[cx aa] at bT;have iO:(a.add (0*l.length)).add 0=a:=by simp[Addr.add]
     rw[iO] at bT;exact aqG bT
    refine Kt (.sl (λi j=>(W.cell? ⟨a.block,a.off+i*l.length+j,bn⟩).getD (.int .i64 0)) fO VS gk (λi j c Q hj=>?_) (λi j c Q hj=>?_))
    all_goals
     have lz:=(cJ.1 hj).1;obtain⟨ci,c1,c2,c3⟩:=each i Q;obtain⟨q1,bt⟩:=acZ c1;have bT:=bt j lz;rw[apG a _ (gk aa aa),addr_add] at bT;rw[cx aa] at bT;simp only[bT,vW]
    exact c3 j c _ hj (cx aa)
  cases h;cases h;rename_i fs ht;split at h;rename_i l hl;split at h;rename_i hn;cases h;obtain⟨xs,n,rfl,_,c7,dG,kW⟩:=DataW.trod_struct ht I;have:=aeS (R:=λt v=>∃x,SF enc P W 0 sp Lm n t v=a_ x) (λt l v hg I=>by
   obtain⟨x,I⟩:=I;exact Nb d t l hg n v x I) fs.toList 0 _ hl (λf hf=>by
   obtain⟨i,Q,rfl⟩:=Eu hf;have jX:i<fs.size:=aZ
   have:=kW i fs[i] (by simp[jX]);rw[List.getElem?_eq_getElem aa] at this;exact⟨_,by simpa using this⟩) (by rw[pg];omega)
  rwa [pg] at this
  cases h;cases h;rename_i n e ht;split at h;rename_i l hl;split at h;rename_i hn;cases h;obtain⟨xs,m,rfl,_,c7,dG,kW⟩:=DataW.trod_array ht I;have:=alD n n 0 aa (λj hj=>by
   have Y:=kW j hj;rw[cx aa,hn.1] at Y;exact Nb d e l hl m _ _ Y) ah
  simpa using this;cases h;cases h;cases h
def ab7{d}:∀{ts} {G8} {vs} {ds} {ps},ts.mapM (Fb P d)=a_ G8->SE enc P W 0 sp Lm ts vs ds ps->
  vs.length=G8.length/\ds.length=G8.length/\∀(i:Nat) L v,G8[i]?=a_ L->vs[i]?=a_ v->pE W L v.cells.toList
 |[],G8,[],[],_,h,_=>by
  simp at h;subst h;exact⟨rfl,rfl,λi L v h=>aq⟩
 |t::ts,G8,v::vs,x::ds,ps,h,⟨p,q,⟨nO,Y⟩,V,_⟩=>by
  simp only[List.mapM_cons,Option.pure_def,Option.bind_eq_bind,gu,mJ] at h;obtain⟨L,hL,aFm,atF,rfl⟩:=h;obtain⟨e1,e2,dc⟩:=ab7 atF V;refine⟨aHM,by simp[e2],λi L' v' sS Ix=>?_⟩;cases i with
  |zero=>simp at sS Ix;subst sS;subst Ix;exact Nb d t L hL nO _ _ Y
  |succ i=>simp at sS Ix;exact dc i L' v' sS Ix
end
section
variable{J:List br}{f:FuncId}{t:TypeId×Nat}{k:Nat}{z:List bg}
section
variable{G:Cells}{P:Program}
structure NT(P:Program)(f:FuncId)(t:TypeId×Nat):Prop where
 enters:Enters P f
 fresh:∀b w,w.cell? ⟨b,0,bn⟩=a_ (.pointer bn)->w.shape? b=a_ t->w.frozen? ⟨b,0,bn⟩=bf->
  Calls P f #[.pointer (a_ ⟨b,0,bn⟩)] w λe w'=>e=.returned (.tuple #[])/\w'=w.setCell ⟨b,0,bn⟩ (.pointer (a_ ⟨b,0,bn⟩))
 used:∀b w,w.cell? ⟨b,0,bn⟩=a_ (.pointer (a_ ⟨b,0,bn⟩))->
  Calls P f #[.pointer (a_ ⟨b,0,bn⟩)] w λe w'=>e=.returned (.tuple #[])/\w'=w
def alF{C}{M}:bO C M J (.bQ []) (.tuple #[]):=.bQ rfl λi a b ha O=>by simp at ha
def acQ(hS:NT P f t)(S:J[k]?=a_ (.cells (.h_ k t::z) bf)):
  cy G P f [.mp k 0] J λr bl=>r=.bQ []/\bl=J.set k (.cells (.mp k 0::z) bf):=by
 refine⟨hS.enters,λbase w0 C M w cZ hs D=>?_⟩;obtain⟨hl,hh⟩:=D
 match cZ,hl,hh with
 |[v],_,hh=>
  cases(hh 0 _ _ rfl rfl) with
  |@mp _ _ L Z O hM=>
   obtain⟨_,_,h3,h4,_,_,h7⟩:=hs.cells k _ _ L S hM;obtain⟨c',h5,h6⟩:=h3 0 (.h_ k t) rfl;generalize I:bg.h_ k t=x at h6;cases h6 with
   |@h_ k' L' cs' hb' eC=>
    cases I;rw[hM] at eC;cases eC;refine(hS.fresh L.b w h5 h7 (h4 0)).mono ?_;rintro e w' ⟨rfl,rfl⟩;obtain⟨bK,ez⟩:=hs.store S hM 0 [.mp k 0] [.pointer (a_ ⟨L.b,0,bn⟩)] ⟨rfl,λi a b ha i_=>by
     cases i with
     |zero=>simp at ha i_;subst ha;subst i_;exact .mp S hM
     |succ i=>simp at ha⟩ af
    exact⟨C,M,_,.bQ [],.tuple #[],⟨rfl,rfl⟩,rfl,bK,ez,alF⟩
   |_=>cases I
def acT(hS:NT P f t)(S:J[k]?=a_ (.cells (.mp k 0::z) bf)):
  cy G P f [.mp k 0] J λr bl=>r=.bQ []/\bl=J:=by
 refine⟨hS.enters,λbase w0 C M w cZ hs D=>?_⟩;obtain⟨hl,hh⟩:=D
 match cZ,hl,hh with
 |[v],_,hh=>
  cases(hh 0 _ _ rfl rfl) with
  |@mp _ _ L Z O hM=>
   obtain⟨_,_,h3,_⟩:=hs.cells k _ _ L S hM;obtain⟨c',h5,h6⟩:=h3 0 (.mp k 0) rfl;generalize I:cS k 0=x at h6;cases h6 with
   |@mp k' off L' cs' hb' eC=>
    cases I;rw[hM] at eC;cases eC;refine(hS.used L.b w h5).mono ?_;rintro e w' ⟨rfl,rfl⟩;exact⟨C,M,_,.bQ [],.tuple #[],⟨rfl,rfl⟩,rfl,n3 _ _ _,hs,alF⟩
   |_=>cases I
end
end
section
variable{P:Program}
def aze{e}(T:P.cellsOf e=1)(count o n)(hn:o+n<=count):liesAt P P.depth e count o e n=bh:=by
 have hd:P.depth=(2*(P.types.size+Made.depth)+1)+1:=rfl;rw[hd];simp only[liesAt,Ek];left;rw[hd];simp[rowAt,T,hn,sameLayout,Nat.mod_one]
def aCf{w}(pt it ty e)(J:P.underlying pt=a_ (.pointer e))(T:P.cellsOf e=1)(g o cells)(kY:w.shape? g=a_ (e,cells))(l)(h0:l≠[])(hn:o+l.length<=cells)(Fh:l.length<=9223372036854775807)
  (oW:∀(j) x,l[j]?=a_ x->w.cell? ((⟨g,o,bn⟩:Addr).add j)=a_ (.int .u8 x.toNat)):
  (aai #[pt,it] ty #[.pointer (a_ ⟨g,o,bn⟩),.int .i64 l.length]).run P w=.ok (.string ⟨l.toArray⟩) (w.freeze ⟨g,o,bn⟩ l.length):=by
 have att:¬(9223372036854775807:Int)<(l.length:Int):=aa
 have au5:dy.max=9223372036854775807:=rfl;have agj:¬(l.length:Int)<0:=aa
 rw[(@id (aai #[pt,it] ty #[.pointer (a_ ⟨g,o,bn⟩),.int .i64 l.length]=(asInt (.int .i64 l.length)>>=_)) rfl)];simp[asInt,asIntOf,au5,att,agj,(by simpa using h0),variablesAt,kY,elemOf,run_underlying J,aze (P:=P) T (cells/P.cellsOf e) o l.length (by rw[T];simpa using hn),Lib.run_loadBytes (P:=P) w l ⟨g,o,bn⟩ .empty oW]
end
section
variable{f:FuncId}{e:TypeId}{k:Nat}{c0:bg}{J:List br}
section
variable{G:Cells}{P:Program}
structure Oe(P:Program)(f:FuncId)(e:TypeId):Prop where
 byte:e=5
 enters:Enters P f
 got:∀(b g o cap cells:Nat) (l:List UInt8) (w:World),w.cell? ⟨b,1,bn⟩=a_ (.slice (a_ ⟨g,o,bn⟩) l.length cap)->l≠[]->l.length<=cap->w.shape? g=a_ (e,cells)->o+l.length<=cells->
  l.length<=140737488355328->
  (∀(j:Nat) x,l[j]?=a_ x->w.cell? ((⟨g,o,bn⟩:Addr).add j)=a_ (.int .u8 x.toNat))->
  Calls P f #[.pointer (a_ ⟨b,0,bn⟩)] w λr w'=>r=.returned (.string ⟨l.toArray⟩)/\w'=w.drew.freeze ⟨g,o,bn⟩ l.length
 akD:∀(b:Nat) (w:World),w.cell? ⟨b,1,bn⟩=a_ (.slice bn 0 0)->
  Calls P f #[.pointer (a_ ⟨b,0,bn⟩)] w λr w'=>r=.returned (.string .empty)/\w'=w.drew
def acR(hS:Oe P f e){id}{l}(S:J[k]?=a_ (.cells [c0,.sl (l.map λc=>.v (.int .u8 c.toNat)) (.tok id)] bf))(hid:J[id]?=a_ (.tok l.length 1 e))
  (h0:l≠[]) (HU:l.length<=140737488355328):
  cy G P f [.mp k 0] J λr bl=>r=.v (.string ⟨l.toArray⟩)/\bl=J:=by
 refine⟨hS.enters,λbase w0 C M w cZ hs D=>?_⟩;obtain⟨hl,hh⟩:=D
 match cZ,hl,hh with
 |[v],_,hh=>
  cases(hh 0 _ _ rfl rfl) with
  |@mp _ _ L Z O hM=>
   obtain⟨_,_,h3,_⟩:=hs.cells k _ _ L S hM;obtain⟨c',h5,h6⟩:=h3 1 (.sl (l.map λc=>.v (.int .u8 c.toNat)) (.tok id)) rfl;generalize I:bg.sl (l.map λc=>cU (.int .u8 c.toNat)) (.tok id)=x at h6;cases h6 with
   |@sl xs t a cap sz fv gk dG hC hR hT gT=>
    cases I;rw[dj] at*;obtain⟨n,s,ty,L',q1,bt,bT,fh,iO⟩:=hT;rw[hid] at q1;cases q1;obtain⟨aBh,BX,vu,_⟩:=iO rfl;obtain⟨ab,ao,Ba⟩:=a;cases aBh;have bR:l.map (λc=>cU (.int .u8 c.toNat))≠[]:=by simpa using h0
    have ve:0<l.length:=by cases l with|nil=>exact(h0 rfl).elim|cons _ _=>simp
    have pQ:sz=1:=by
     rcases fh with q|q
     omega;exact q
    subst pQ;obtain⟨_,_,Bx,s4,_,avJ⟩:=hs.toks id _ _ _ L' hid bt;obtain⟨cells,kY⟩:=avJ.shape;have oW:∀(j) x,l[j]?=a_ x->w.cell? ((⟨ab,ao,bn⟩:Addr).add j)=a_ (.int .u8 x.toNat):=by
     intro j x hj;have hm:(l.map (λc=>cU (.int .u8 c.toNat)))[j]?=a_ (.v (.int .u8 x.toNat)):=aI5
     have Y:=(hs.oo _ _ _ (hC j _ 0 _ hm rfl)).1;have V:=hR j _ 0 _ hm rfl;rw[addr_add];simp only[Nat.mul_one,uE] at Y;rw[Y];generalize hg:fv j 0=y at V;cases V;rfl
    have hfit:ao+l.length<=cells:=by
     obtain⟨x,I⟩:∃x,l[l.length-1]?=a_ x:=⟨_,cx aa⟩;have Y:=oW _ _ I;rw[addr_add] at Y;rw[BX.symm] at kY;unfold Es at Y;unfold JM at kY;dsimp only at Y kY;cases hw:w.heap[ab]? with
     |none=>rw[hw] at Y;cases Y
     |some gm=>
      rw[hw] at Y kY;cases gm with
      |cells d t fr=>
       simp only[mJ,xx] at kY;simp only[A2,kz,if_false] at Y;have:=(yU.1 Y).1;omega
      |_=>cases Y
    refine(hS.got L.b ab ao cap cells l w h5 h0 gT (by rw[<-BX] at kY;exact kY) hfit HU oW).mono ?_;rintro r w' ⟨rfl,rfl⟩;exact⟨C,M,_,.v (.string ⟨l.toArray⟩),.string ⟨l.toArray⟩,⟨rfl,rfl⟩,rfl,n3 _ _ _,hs.drew.ast hid bt BX.symm (by dsimp only at vu⊢;omega) hS.byte (λj v T=>by
     have hf:=Bx.2.1;dsimp only at vu;by_cases hj:j<l.length;have hm:(l.map (λc=>cU (.int .u8 c.toNat)))[j]?=a_ (.v (.int .u8 l[j].toNat)):=aI5
     have Y:=hC j _ 0 _ hm rfl;have V:=hR j _ 0 _ hm rfl;dsimp only at Y;rw[show ao+j*1+0=j by omega,show ab=L'.b from BX,T] at Y;generalize fv j 0=y at Y V;cases Y;cases V;rfl;rw[s4 j aa] at T;cases T),.v rfl⟩
   |_=>cases I
def acS(hS:Oe P f e)(S:J[k]?=a_ (.cells [c0,.bp] bf)):
  cy G P f [.mp k 0] J λr bl=>r=.v (.string .empty)/\bl=J:=by
 refine⟨hS.enters,λbase w0 C M w cZ hs D=>?_⟩;obtain⟨hl,hh⟩:=D
 match cZ,hl,hh with
 |[v],_,hh=>
  cases(hh 0 _ _ rfl rfl) with
  |@mp _ _ L Z O hM=>
   obtain⟨_,_,h3,_⟩:=hs.cells k _ _ L S hM;obtain⟨c',h5,h6⟩:=h3 1 .bp rfl;cases h6;refine(hS.akD L.b w h5).mono ?_;rintro r w' ⟨rfl,rfl⟩;exact⟨C,M,_,.v (.string .empty),.string .empty,⟨rfl,rfl⟩,rfl,n3 _ _ _,hs.drew,.v rfl⟩
end
end
section
variable{b:br}{c key l m s v x:bg}{J:List br}{b6 k n:Nat}{e:TypeId}{α:Type}{bM:Bool}{z:List bg}{ks:List mL}
def b7:br->br
 |.cc st pd _ _ _=>.cc st (match st with|.busy=>bn|_=>pd) [] #[] (λ_ _=>False)
 |.obj (.deferred _)=>.obj (.deferred bn)
 |b=>b
def fT(J bl:List br):Prop:=∀(k:Nat) st pd bX ps ok,J[k]?=a_ (.cc st pd bX ps ok)->∃ga k3,bl[k]?=a_ (.cc ga k3 bX ps ok)
def fT.refl(J):fT J J:=λk st pd bX ps ok h=>⟨st,pd,h⟩
def fT.trans{a b c}(h:fT a b)(h':fT b c):fT a c:=λk st pd bX ps ok q=>by
 obtain⟨ga,k3,q'⟩:=h k st pd bX ps ok q;exact h' k ga k3 bX ps ok q'
def Ao{l}:fT J (J++l):=λk st pd bX ps ok h=>⟨st,pd,bU h⟩
def yg{b'}(S:J[k]?=a_ b)(O:∀st pd bX ps ok,b≠.cc st pd bX ps ok):fT J (J.set k b'):=λj st pd bX ps ok h=>by
 by_cases e:k=j;subst e;rw[S] at h;cases h;exact(O _ _ _ _ _ rfl).elim;exact⟨st,pd,aI6⟩
def KO(h:(J.map b7)[k]?=a_ b):∃b0,J[k]?=a_ b0/\b7 b0=b:=by
 rwa [fL,dm] at h
def rI{Z}{r}(h:(J.map b7)[k]?=a_ (.cells Z r)):J[k]?=a_ (.cells Z r):=by
 obtain⟨b,Y,V⟩:=KO h;cases b with
 |cells cs' r'=>cases V;exact Y
 |obj o=>cases o<;>cases V
 |_=>cases V
def UQ{s}(h:(J.map b7)[k]?=a_ (.tok n s e)):J[k]?=a_ (.tok n s e):=by
 obtain⟨b,Y,V⟩:=KO h;cases b with
 |tok n s e=>cases V;exact Y
 |obj o=>cases o<;>cases V
 |_=>cases V
def ad8{es}{cC}(h:(J.map b7)[k]?=a_ (.eH es cC)):J[k]?=a_ (.eH es cC):=by
 obtain⟨b,Y,V⟩:=KO h;cases b with
 |eH es cC=>cases V;exact Y
 |obj o=>cases o<;>cases V
 |_=>cases V
def ad6{s}{p}(h:(J.map b7)[k]?=a_ (.obj (.stringIter s p))):J[k]?=a_ (.obj (.stringIter s p)):=by
 obtain⟨b,Y,V⟩:=KO h;cases b with
 |obj o=>cases o<;>cases V;exact Y
 |_=>cases V
def ad7{st}{pd}{bX}{ps}{ok}(h:(J.map b7)[k]?=a_ (.cc st pd bX ps ok)):
  ∃k3 Km ps' Mu,J[k]?=a_ (.cc st k3 Km ps' Mu)/\(st≠.busy->k3=pd):=by
 obtain⟨b,Y,V⟩:=KO h;cases b with
 |cc ga k3 Km ps' Mu=>
  simp only[b7,br.cc.injEq] at V;obtain⟨rfl,h3,_⟩:=V;exact⟨k3,Km,ps',Mu,Y,λbR=>by cases ga<;>first|exact h3|exact(bR rfl).elim⟩
 |obj o=>cases o<;>cases V
 |_=>cases V
def cD(f:List br->Option (bg×List br)):Prop:=∀J v hE,f (J.map b7)=a_ (v,hE)->∃bl,f J=a_ (v,bl)/\bl.map b7=hE/\fT J bl
def cD.const(x:Option bg):cD λJ=>x.map λr=>(r,J):=λJ v hE h=>by
 simp only[dm,xx] at h;obtain⟨r,Y,rfl,rfl⟩:=h;exact⟨J,aIu,rfl,fT.refl J⟩
def cD.bind(x:Option α){g:α->List br->Option (bg×List br)}(hg:∀a,cD (g a)):cD λJ=>x.bind λa=>g a J:=λJ v hE h=>by
 simp only[gu] at h;obtain⟨a,Y,V⟩:=h;obtain⟨bl,q1,bt,bT⟩:=hg a J v hE V;exact⟨bl,by simp[Y,q1],bt,bT⟩
def cD.T3(x:Option α)(g:α->bg):cD λJ=>x.map λa=>(g a,J):=λJ v hE h=>by
 simp only[dm,xx] at h;obtain⟨a,Y,rfl,rfl⟩:=h;exact⟨J,aIu,rfl,fT.refl J⟩
def cD.push(x:Option α)(g:Nat->α->bg)(b:α->br)(O:∀a,b7 (b a)=b a):cD λJ=>x.map λa=>(g J.length a,J++[b a]):=λJ v hE h=>by
 simp only[dm,xx,dj] at h;obtain⟨a,Y,rfl,rfl⟩:=h;exact⟨J++[b a],aIu,aIw,Ao⟩
def cD.none:cD λ_=>bn:=λJ v hE h=>aF
def cD.some(x:bg):cD λJ=>a_ (x,J):=λJ v hE h=>by
 cases h;exact⟨J,rfl,rfl,fT.refl J⟩
def cD.read(g:List br->Option bg)(hg:∀J x,g (J.map b7)=.some x->g J=.some x):cD λJ=>(g J).map λr=>(r,J):=λJ v hE h=>by
 simp only[dm,xx] at h;obtain⟨r,Y,rfl,rfl⟩:=h;exact⟨J,by simp[hg J r Y],rfl,fT.refl J⟩
def cD.ite{c}[Decidable c]{f g}(hf:c->cD f)(hg:¬c->cD g):cD λJ=>if c then f J else g J:=λJ v hE h=>by
 dsimp only at h⊢;split at h;rename_i T;rw[if_pos T];exact hf T J v hE h;rename_i T;rw[if_neg T];exact hg T J v hE h
def cD.Gb(x:Nat->bg)(b)(O:b7 b=b):cD λJ=>a_ (x J.length,J++[b]):=λJ v hE h=>by
 simp only[mJ,xx,dj] at h;obtain⟨rfl,rfl⟩:=h;exact⟨J++[b],rfl,aIw,Ao⟩
def cD.aA_(b:Nat->br)(x:Nat->bg)(O:∀k,b7 (b k)=b k):cD λJ=>a_ (x J.length,J++[b J.length]):=λJ v hE h=>by
 simp only[mJ,xx,dj] at h;obtain⟨rfl,rfl⟩:=h;exact⟨J++[b J.length],rfl,aIw,Ao⟩
def cD.setCells{r}{g:List bg->Option (bg×List bg)}:cD λJ=>match J[k]? with
  |.some (.cells Z r')=>if r'=r then(g Z).map λp=>(p.1,J.set k (.cells p.2 r)) else .none
  |_=>.none:=λJ v hE h=>by
 dsimp only at h⊢;split at h;rename_i Z r' S;have iA:=rI S;rw[iA];dsimp only;split at h;rename_i D;rw[if_pos D];simp only[dm,xx] at h;obtain⟨p,Y,rfl,rfl⟩:=h;refine⟨J.set k (.cells p.2 r),aIu,aHA,yg iA nofun⟩;cases h;cases h
def abX{p:bg}(h:bA (J.map b7) bM n p=a_ c):bA J bM n p=a_ c:=by
 unfold bA at h⊢;split at h;exact h;split at h;rename_i S;rw[rI S];exact h;cases h;split at h;rename_i S;rw[rI S];exact h;cases h;cases h
def ard{p:bg}:cD λJ=>(bL J n p x).map λbl=>(jx,bl):=λJ v hE h=>by
 simp only[dm,xx] at h;obtain⟨Y,q,rfl,rfl⟩:=h;have key:∀(k) (row) Z off,J[k]?=a_ (.cells Z row)->e5 (J.map b7) k row Z n off x=a_ Y->∃bl,e5 J k row Z n off x=a_ bl/\bl.map b7=Y/\fT J bl:=λk row Z off S hs=>by
  unfold e5 at hs⊢;split at hs;rename_i T;rw[if_pos T];cases hs;exact⟨_,rfl,aHA,yg S nofun⟩;cases hs
 unfold bL at q⊢;cases p with
 |mp k off=>
  simp only at q⊢;split at q;rename_i Z S;rw[rI S];obtain⟨bl,a,b,c⟩:=key _ _ _ _ (rI S) q;exact⟨bl,by simp[a],b,c⟩;cases q
 |rp k m off=>
  simp only at q⊢;split at q;rename_i Z S;rw[rI S];simp only at q⊢;split at q;rename_i hm;rw[if_pos hm];obtain⟨bl,a,b,c⟩:=key _ _ _ _ (rI S) q;exact⟨bl,by simp[a],b,c⟩;cases q;cases q
 |_=>cases q
def Up{ys}:cD λJ=>iY J n b6 e s ys:=λJ v hE h=>by
 dsimp only at h⊢;unfold iY at h⊢;cases s with
 |bp=>
  simp only[dj] at h⊢;split at h;rename_i hl;rw[if_pos hl];cases h;exact⟨_,rfl,by simp[b7],Ao⟩;cases h
 |rs k m sz off len=>
  simp only at h⊢;split at h;rename_i hl;rw[if_pos hl];split at h;rename_i Z S;rw[rI S];simp only at h⊢;split at h;rename_i hm;rw[if_pos hm];cases h;exact⟨_,rfl,aHA,yg (rI S) nofun⟩;cases h;cases h;cases h
 |sl xs t=>
  simp only at h⊢;split at h;rename_i hl;rw[if_pos hl];cases t with
  |exact=>
   simp only[dj] at h⊢;cases h;exact⟨_,rfl,by simp[b7],Ao⟩
  |no=>cases h
  |tok id=>
   simp only at h⊢;split at h;rename_i c s' e' S;rw[UQ S];simp only at h⊢;split at h;rename_i hm;rw[if_pos hm];cases h;exact⟨_,rfl,aHA,yg (UQ S) nofun⟩;cases h;cases h
  cases h
 |_=>cases h
def adk:cD λJ=>gZ J n b6 e s x:=λJ v hE h=>by
 dsimp only at h⊢;unfold gZ at h⊢;cases PY:iK x with
 |none=>rw[PY] at h;cases h
 |some ys=>
  rw[PY] at h;simp only at h⊢;by_cases hy:ys=[];rw[if_pos hy] at h⊢
  split at h<;>first|(cases h;exact⟨J,rfl,rfl,fT.refl J⟩)|cases h
  rw[if_neg hy] at h⊢;split at h;rename_i T;rw[if_pos T];exact Up J v hE h;cases h
def adl:cD λJ=>eu J n b6 e s x:=by
 unfold eu;cases s with
 |rs _ _ _ _ _=>exact cD.none
 |_=>exact adk
def aq5:cD λJ=>EL J b6 e s x:=λJ v hE h=>by
 dsimp only at h⊢;unfold EL at h⊢;split at h;split at h;rename_i q;simp only[if_pos q];exact adl J v hE h;cases h;cases h
def aq7:cD λJ=>A8 J b6 e s x:=λJ v hE h=>by
 dsimp only at h⊢;unfold A8 at h⊢;split at h;rename_i b;by_cases h0:b.size=0;rw[if_pos h0] at h⊢
 split at h<;>first|(cases h;exact⟨J,rfl,rfl,fT.refl J⟩)|cases h
 rw[if_neg h0] at h⊢;split at h;split at h;rename_i q;simp only[if_pos q];exact Up J v hE h;cases h;split at h;rename_i q;simp only[if_pos q];exact Up J v hE h;cases h;cases h;cases h
def aq6:cD λJ=>qG J n b6 e s x:=by
 unfold qG;cases s with
 |bp=>
  simp only;cases iK x with
  |none=>exact cD.none
  |some ys=>
   simp only;exact cD.ite (λ_=>cD.some _) λ_=>cD.ite (λ_=>cD.Gb (λk=>.rs k (ey ys).length n 0 ys.length) _ rfl) λ_=>cD.none
 |_=>exact adk
def aq2{vs}:cD λJ=>zj J n vs:=by
 unfold zj;exact cD.ite (λ_=>cD.Gb (λk=>.rs k (ey vs).length n 0 vs.length) _ rfl) λ_=>cD.none
def aq3:cD λJ=>CL J n b6 z l c:=by
 unfold CL;split;exact cD.ite (λ_=>cD.Gb (λk=>.rs k _ n 0 _) _ rfl) λ_=>cD.none;exact cD.none
def aq4:cD λJ=>EN J n b6 e z l c:=by
 unfold EN;split;exact cD.ite (λ_=>cD.Gb (λk=>.sl [] (.tok k)) _ rfl) λ_=>cD.none;exact cD.none
def aq9:cD λJ=>Qu v J:=by
 unfold Qu;split;exact cD.Gb (λk=>.gm k) _ rfl;exact cD.none
def arc:cD λJ=>rE J v:=λJ u hE h=>by
 dsimp only at h⊢;unfold rE at h⊢;split at h;rename_i k;split at h;rename_i s pos S;rw[ad6 S];simp only;split at h;rename_i hl;rw[if_pos hl];cases h;exact⟨_,rfl,aHA,yg (ad6 S) nofun⟩;rename_i hl;rw[if_neg hl];cases h;exact⟨_,rfl,rfl,fT.refl J⟩;cases h;cases h
def Mf{r}(h:rY (J.map b7) m=a_ r):rY J m=a_ r/\J[r.1]?=a_ (.eH r.2.1 r.2.2):=by
 unfold rY at h⊢;split at h;rename_i k;split at h;rename_i es cC S;rw[ad8 S];cases h;exact⟨rfl,ad8 S⟩;cases h;cases h
def apK{z:bg}{ok}(h:wm (J.map b7) bM ks z ok m key=a_ x):wm J bM ks z ok m key=a_ x:=by
 unfold wm at h⊢;split at h;rename_i k es cC hm;rw[(Mf hm).1];exact h;cases h
def apQ(h:CK (J.map b7) m=a_ x):CK J m=a_ x:=by
 unfold CK at h⊢;split at h;rename_i k es cC hm;rw[(Mf hm).1];exact h;cases h
def arb:cD λJ=>(xO J bM ks m key x).map λbl=>(jx,bl):=λJ v hE h=>by
 simp only[dm,xx] at h;obtain⟨Y,q,rfl,rfl⟩:=h;dsimp only;unfold xO at q⊢;split at q;rename_i k es cC hm;obtain⟨m1,m2⟩:=Mf hm;rw[m1];simp only;split at q;rename_i T;rw[if_pos T];split at q;cases q;exact⟨_,rfl,aHA,yg m2 nofun⟩;cases q;exact⟨_,rfl,aHA,yg m2 nofun⟩;cases q;cases q;cases q
def ara{z:bg}:cD λJ=>Hu J bM ks z m key:=λJ v hE q=>by
 dsimp only at q⊢;unfold Hu at q⊢;split at q;rename_i k es cC hm;obtain⟨m1,m2⟩:=Mf hm;rw[m1];simp only;split at q;rename_i T;rw[if_pos T];split at q;cases q;exact⟨_,rfl,aHA,yg m2 nofun⟩;cases q;exact⟨_,rfl,aHA,yg m2 nofun⟩;cases q;cases q;cases q
def aq8{st:bg}:cD λJ=>(Ht J m st x).map λbl=>(jx,bl):=λJ v hE h=>by
 simp only[dm,xx] at h;obtain⟨Y,q,rfl,rfl⟩:=h;dsimp only;unfold Ht at q⊢;split at q;rename_i k es cC _ n hm;obtain⟨m1,m2⟩:=Mf hm;rw[m1];simp only;split at q;cases q;exact⟨_,rfl,aHA,yg m2 nofun⟩;cases q;cases q
def aq_:cD λJ=>cN v J:=by
 unfold cN;split;exact cD.none;exact cD.const _
def adm{e}{o}:cD λJ=>cz e J o:=by
 cases o<;>simp only[cz]
 case mv x=>exact cD.const _
 case pick c a b=>exact cD.bind _ λc=>cD.const _
 case alloc z=>exact cD.Gb (λk=>.mp k 0) _ rfl
 case zm t z=>exact cD.aA_ (λk=>.cells (.h_ k t::z) bf) (λk=>.mp k 0) λ_=>rfl
 case box x=>exact cD.push _ (λk _=>.mp k 0) (λr:bg=>.cells r.cells bf) λ_=>rfl
 case build z ps=>exact cD.bind _ λl=>cD.T3 _ _
 case zA n vs=>exact cD.bind _ λl=>cD.const _
 case fY bM n x=>exact cD.bind _ λx=>cD.read (λJ=>bA J bM n x) λJ y h=>abX h
 case st n p x=>exact cD.bind _ λp=>cD.bind _ λx=>ard
 case app n b6 ty s x=>exact cD.bind _ λs=>cD.bind _ λx=>adl
 case Ar f a b=>exact cD.bind _ λa=>cD.T3 _ _
 case wv n vs=>exact cD.bind _ λl=>aq2
 case A_ n b6 ty s x=>exact cD.bind _ λs=>cD.bind _ λx=>aq6
 case zu b6 ty s x=>exact cD.bind _ λs=>cD.bind _ λx=>aq7
 case zo b6 ty s x=>exact cD.bind _ λs=>cD.bind _ λx=>aq5
 case As n b6 ty z l c=>exact cD.bind _ λl=>cD.bind _ λc=>aq3
 case BO n b6 ty z l c=>exact cD.bind _ λl=>cD.bind _ λc=>aq4
 case BL t x=>exact cD.T3 _ _
 case iter x=>exact cD.bind _ λx=>aq9
 case next x=>exact cD.bind _ λx=>arc
 case BN=>exact cD.Gb (λk=>.fR k) _ rfl
 case DP x=>exact cD.bind _ λx=>cD.read (λJ=>CK J x) λJ y h=>apQ h
 case BH bM ks z ok m k=>exact cD.bind _ λm=>cD.bind _ λk=>cD.read (λJ=>wm J bM ks z ok m k) λJ y h=>apK h
 case wY bM ks m k x=>exact cD.bind _ λm=>cD.bind _ λk=>cD.bind _ λx=>arb
 case Aq bM ks z m k=>exact cD.bind _ λm=>cD.bind _ λk=>ara
 case C1 m st x=>exact cD.bind _ λm=>cD.bind _ λst=>cD.bind _ λx=>aq8
 case len x=>exact cD.bind _ λx=>aq_
 case qX x=>
  refine cD.bind _ λx=>?_;unfold qX;split;exact cD.some _;exact cD.none
 case slc n x lo Q mx=>
  refine cD.bind _ λx=>cD.bind _ λlo=>cD.bind _ λQ=>cD.bind _ λmx=>?_;unfold r7;split;exact cD.none;exact cD.const _
 case xd x lo Q=>
  refine cD.bind _ λx=>cD.bind _ λlo=>cD.bind _ λQ=>?_;unfold GD;split;exact cD.const _;exact cD.none
 all_goals first
  |exact cD.bind _ λ_=>cD.const _
  |exact cD.bind _ λ_=>cD.bind _ λ_=>cD.const _
end
section
variable{n sz:Nat}{Z:List bg}{J:List br}{x:bg}
def j0{α β:Type}(f:α->Option β):List α->Option (List β)
 |[]=>a_ []
 |x::r=>match f x with
  |some y=>match j0 f r with
   |some l=>a_ (y::l)
   |none=>bn
  |none=>bn
def yo{α β}{f}:∀{l:List α} {r:List β},j0 f l=a_ r->r.length=l.length/\∀(i:Nat) x y,l[i]?=a_ x->r[i]?=a_ y->f x=a_ y
 |[],r,h=>by cases h;exact⟨rfl,λi x y I=>aG⟩
 |a::l,r,h=>by
  simp only[j0] at h;split at h;rename_i y hy;split at h;rename_i l' hl;cases h;obtain⟨Y,V⟩:=yo hl;refine⟨aIu,λi x z I hz=>?_⟩;cases i with
  |zero=>simp at I hz;subst I;subst hz;exact hy
  |succ i=>simp at I hz;exact V i x z I hz
  cases h;cases h
def tT(sz:Nat)(Z:List bg)(off:Nat):Nat->List bg
 |0=>[]
 |n+1=>.agg ((Z.drop off).take sz)::tT sz Z (off+sz) n
def ac9:∀{n off i},i<n->(tT sz Z off n)[i]?=a_ (.agg ((Z.drop (off+i*sz)).take sz))
 |n+1,off,0,_=>by simp[tT]
 |n+1,off,i+1,h=>by
  simp only[tT,y4];rw[ac9 aa,show off+sz+i*sz=off+(i+1)*sz by rw[tB];omega]
def OI:∀{n off},(tT sz Z off n).length=n
 |0,off=>rfl
 |n+1,off=>by simp[tT,OI]
def cX(J:List br):Nat->bg->Option bg
 |0,_=>bn
 |n+1,x=>match x with
  |.v x=>a_ (.v x)
  |.bp=>a_ .bp
  |.agg Z=>(j0 (cX J n) Z).map .agg
  |.bQ Z=>(j0 (cX J n) Z).map .bQ
  |.sl xs _=>(j0 (cX J n) xs).map λys=>.sl ys .no
  |.fp Z off=>(j0 (cX J n) Z).map λds=>.fp ds off
  |.ep t x=>(cX J n x).map (.ep t)
  |.fn f a b=>(j0 (cX J n) a).bind λa=>(j0 (cX J n) b).map λb=>.fn f a b
  |.mp k off=>match J[k]? with
   |some (.cells Z bf)=>(j0 (cX J n) Z).map λds=>.fp ds off
   |_=>bn
  |.rp k m off=>match J[k]? with
   |some (.cells Z bh)=>if m=Z.length then(j0 (cX J n) Z).map λds=>.fp ds off else bn
   |_=>bn
  |.rs k m sz off len=>match J[k]? with
   |some (.cells Z bh)=>if m=Z.length then(j0 (cX J n) Z).map λds=>.sl (tT sz ds off len) .no else bn
   |_=>bn
  |_=>bn
def aqI{y:bg}(h:cX J n x=a_ y)(I:∀Z,x≠.agg Z):y.cells=[y]:=by
 cases n with
 |zero=>cases h
 |succ n=>
  unfold cX at h;cases x<;>simp only at h
  case agg Z=>exact(I Z rfl).elim
  case v x=>cases h;rfl
  case bp=>cases h;rfl
  case mp k off=>split at h<;>first|cases h;done|(simp only[dm] at h;obtain⟨_,_,rfl⟩:=h;rfl)
  case rp k m off=>split at h<;>first|cases h;done|(split at h<;>first|cases h;done|(simp only[dm] at h;obtain⟨_,_,rfl⟩:=h;rfl))
  case rs k m sz off len=>split at h<;>first|cases h;done|(split at h<;>first|cases h;done|(simp only[dm] at h;obtain⟨_,_,rfl⟩:=h;rfl))
  case fn f a b=>
   simp only[gu,dm] at h;obtain⟨_,_,_,_,rfl⟩:=h;rfl
  all_goals first
   |(cases h;done)
   |(simp only[dm] at h;obtain⟨_,_,rfl⟩:=h;rfl)
def Px{C bI}{M}{Dv}(hC:∀b o v,C b o=a_ v->bI b o=a_ v)
  (hm:∀(k:Nat) Z row L,Dv[k]?=a_ (.cells Z row)->M[k]?=a_ L->∀(i) c,Z[i]?=a_ c->∃c',bI L.b i=a_ c'/\bO C M J c c') (hz:∀(k:Nat) Z row,Dv[k]?=a_ (.cells Z row)->J[k]?=a_ (.cells Z row)):
  ∀{n} {x r:bg} {v},cX Dv n x=a_ r->bO C M J x v->bO bI [] [] r v:=by
 intro n
 induction n with
 |zero=>intro x r v h;cases h
 |succ n ih=>
  intro x r v h D;have aj0:∀{Z ds} {f:Nat->Value},j0 (cX Dv n) Z=a_ ds->(∀(i) c,Z[i]?=a_ c->bO C M J c (f i))->∀(i) d,ds[i]?=a_ d->∃c,Z[i]?=a_ c/\bO bI [] [] d (f i):=by
   intro Z ds f Ag hR i d hd;obtain⟨e1,e2⟩:=yo Ag;have Q:i<Z.length:=by rw[<-e1];exact(cJ.1 hd).1
   exact⟨Z[i],cx Q,ih (e2 i _ _ (cx Q) hd) (hR i _ (cx Q))⟩
  have blk:∀{k:Nat} {Z ds} {row} {L},Dv[k]?=a_ (.cells Z row)->M[k]?=a_ L->j0 (cX Dv n) Z=a_ ds->∀off,bO bI [] [] (.fp ds off) (.pointer (a_ ⟨L.b,off,bn⟩))/\∀(i) d,ds[i]?=a_ d->∃c',bI L.b i=a_ c'/\bO bI [] [] d c':=by
   intro k Z ds row L S hM Ag off;obtain⟨e1,e2⟩:=yo Ag;have key:∀(i) d,ds[i]?=a_ d->∃c',bI L.b i=a_ c'/\bO bI [] [] d c':=by
    intro i d hd;have Q:i<Z.length:=by rw[<-e1];exact(cJ.1 hd).1
    obtain⟨c',q1,bt⟩:=hm k Z row L S hM i Z[i] (cx Q);exact⟨c',q1,ih (e2 i _ _ (cx Q) hd) bt⟩
   refine⟨?_,key⟩;have:=bO.fp (C:=bI) (off:=off) (λi=>(bI L.b i).getD undef) (λi d hd=>by
    obtain⟨c',q1,_⟩:=key i d hd;rw[gF,q1];rfl) (λi d hd=>by
    obtain⟨c',q1,bt⟩:=key i d hd;rw[q1];exact bt)
   simpa using this
  unfold cX at h;cases D with
  |v bl=>simp only at h;cases h;exact .v bl
  |bp=>simp only at h;cases h;exact .bp
  |agg hl hh=>
   rename_i Z cs';simp only[dm] at h;obtain⟨ds,Y,rfl⟩:=h;obtain⟨e1,e2⟩:=yo Y;refine .agg aa λi a b ha O=>?_;have Q:i<Z.length:=by rw[<-e1];exact(cJ.1 ha).1
   exact ih (e2 i _ _ (cx Q) ha) (hh i _ b (cx Q) O)
  |bQ hl hh=>
   rename_i Z cs';simp only[dm] at h;obtain⟨ds,Y,rfl⟩:=h;obtain⟨e1,e2⟩:=yo Y;refine .bQ aa λi a b ha O=>?_;have Q:i<Z.length:=by rw[<-e1];exact(cJ.1 ha).1
   exact ih (e2 i _ _ (cx Q) ha) (hh i _ b (cx Q) O)
  |sl f gk dG zT hR hT gT=>
   rename_i xs t a cap sz;simp only[dm] at h;obtain⟨ys,Y,rfl⟩:=h;obtain⟨e1,e2⟩:=yo Y;have el:∀(i) y,ys[i]?=a_ y->∃x,xs[i]?=a_ x/\y.cells.length=x.cells.length/\∀(j) d,y.cells[j]?=a_ d->∃c,x.cells[j]?=a_ c/\bO bI [] [] d (f i j):=by
    intro i y hy;have Q:i<xs.length:=by rw[<-e1];exact(cJ.1 hy).1
    have I:=cx Q;have hf:=e2 i _ _ I hy;refine⟨xs[i],I,?_⟩;by_cases dM:∃Z,xs[i]=.agg Z;obtain⟨Z,jh⟩:=dM;rw[jh] at hf I⊢;cases n with
    |zero=>cases hf
    |succ n=>
     unfold cX at hf;simp only[dm] at hf;obtain⟨ds,q1,rfl⟩:=hf;obtain⟨g1,g2⟩:=yo q1;refine⟨g1,λj d hd=>?_⟩;have hj:j<Z.length:=by rw[<-g1];exact(cJ.1 hd).1
     refine⟨Z[j],cx hj,?_⟩;have:=g2 j _ _ (cx hj) hd;have up:cX Dv (n+1) (.agg [Z[j]])=a_ (.agg [d]):=by
      unfold cX;simp[j0,this]
     have iM:bO C M J (.agg [Z[j]]) (.agg #[f i j]):=.agg rfl λi' a b ha O=>by
      cases i' with
      |zero=>simp at ha O;subst ha;subst O;exact hR i _ j _ I (cx hj)
      |succ i'=>simp at ha
     have:=ih up iM;cases this with
     |agg hl hh=>exact hh 0 d (f i j) rfl rfl
    have Wp:=λZ jh=>dM ⟨Z,jh⟩;have FR:(xs[i]).cells=[xs[i]]:=by
     cases IA:xs[i] with
     |agg Z=>exact(Wp Z IA).elim
     |_=>rfl
    rw[(aqI hf Wp),FR];refine⟨rfl,λj d hd=>?_⟩;cases j with
    |zero=>
     simp at hd;subst hd;exact⟨xs[i],rfl,ih hf (hR i _ 0 _ I (by rw[FR];rfl))⟩
    |succ j=>simp at hd
   rw[<-e1];refine .sl (sz:=sz) f (λbR=>gk (by intro e;subst e;simp at e1;exact bR e1)) (λi y hy=>?_) (λi y j d hy hd=>?_) (λi y j d hy hd=>?_) trivial (by rw[e1];exact gT);obtain⟨x,I,q1,_⟩:=el i y hy;rw[q1];exact dG i x I;obtain⟨x,I,_,bt⟩:=el i y hy;obtain⟨c,T,_⟩:=bt j d hd;exact hC _ _ _ (zT i x j c I T);obtain⟨x,I,_,bt⟩:=el i y hy;obtain⟨c,T,iM⟩:=bt j d hd;exact iM
  |fp f zT hR=>
   simp only[dm] at h;obtain⟨ds,Y,rfl⟩:=h;refine .fp f (λi d hd=>?_) λi d hd=>?_;obtain⟨c,T,_⟩:=aj0 Y hR i d hd;exact hC _ _ _ (zT i c T);obtain⟨c,_,q⟩:=aj0 Y hR i d hd;exact q
  |fx f zT hR=>cases h
  |ep I=>
   simp only[dm] at h;obtain⟨y,Y,rfl⟩:=h;exact .ep (ih Y I)
  |fn kK fO hf T=>
   rename_i f fs Z kG cs';simp only[gu,dm] at h;obtain⟨a,Y,b,V,rfl⟩:=h;obtain⟨e1,e2⟩:=yo Y;obtain⟨g1,g2⟩:=yo V;refine .fn aa aa (λi x y I hy=>?_) λi x y I hy=>?_;have Q:i<fs.length:=by rw[<-e1];exact(cJ.1 I).1
   exact ih (e2 i _ _ (cx Q) I) (hf i _ y (cx Q) hy);have Q:i<Z.length:=by rw[<-g1];exact(cJ.1 I).1
   exact ih (g2 i _ _ (cx Q) I) (T i _ y (cx Q) hy)
  |mp O hM=>
   simp only at h;split at h;rename_i Z S;simp only[dm] at h;obtain⟨ds,Y,rfl⟩:=h;exact(blk S hM Y _).1;cases h
  |rp O hM hn ha=>
   simp only at h;split at h;rename_i Z S;split at h;rename_i Bv;simp only[dm] at h;obtain⟨ds,Y,rfl⟩:=h;have iA:=hz _ _ _ S;rw[O] at iA;cases iA;rw[ha Bv];exact(blk S hM Y _).1;cases h;cases h
  |rs O hM hn fO ha=>
   rename_i k nn sz off len cap L cs0 a;simp only at h;split at h;rename_i Z S;split at h;rename_i Bv;simp only[dm] at h;obtain⟨ds,Y,rfl⟩:=h;have iA:=hz _ _ _ S;rw[O] at iA;cases iA;obtain⟨a1,a2,a3,a4⟩:=ha Bv;rw[a1];obtain⟨_,oW⟩:=blk S hM Y 0;have aGk:=(yo Y).1;have hge:∀(i) x,(tT sz ds off len)[i]?=a_ x->i<len/\x=.agg ((ds.drop (off+i*sz)).take sz):=by
    intro i x I;have Q:i<len:=by have:=(cJ.1 I).1;rwa [OI] at this
    rw[ac9 Q] at I;exact⟨Q,(mY I).symm⟩
   have Ab:∀i,i<len->off+i*sz+sz<=ds.length:=by
    intro i Q;have:(i+1)*sz<=len*sz:=pq _ Q;rw[tB] at this;omega
   have sW:∀(i) x (j) c,(tT sz ds off len)[i]?=a_ x->x.cells[j]?=a_ c->ds[off+i*sz+j]?=a_ c:=by
    intro i x j c I T;obtain⟨Q,rfl⟩:=hge i x I;simp only[jy] at T;have hj:j<sz:=by have:=(cJ.1 T).1;simp at this;omega
    rwa [Cr hj,sx] at T
   have:=bO.sl (C:=bI) (t:=.no) (a:=⟨L.b,off,bn⟩) (sz:=sz) (λi j=>(bI L.b (off+i*sz+j)).getD undef) (λ_=>rfl) (λi x I=>by
    obtain⟨Q,rfl⟩:=hge i x I;have:=Ab i Q;simp only[jy,Cs,y5];omega) (λi x j c I T=>by
    obtain⟨c',q1,bt⟩:=oW _ _ (sW i x j c I T);dsimp only;rw[q1];rfl) (λi x j c I T=>by
    obtain⟨c',q1,bt⟩:=oW _ _ (sW i x j c I T);rw[q1];exact bt) trivial (by rw[OI];exact fO)
   rwa [OI] at this
   cases h;cases h
  |gm O hM=>cases h
  |fR O hM=>cases h
  |iV O hM=>cases h
  |h_ O hM=>cases h
def asx{r:bg}(h:cX [] n x=a_ r):mc x r:=λC M J v D=>Px (λ_ _ _ q=>q) (λk Z row L S=>aJe) (λk Z row S=>aJe) h D
def U_{as bs}(h:j0 (cX [] n) as=a_ bs):qa as bs:=by
 obtain⟨e1,e2⟩:=yo h;exact⟨e1.symm,λi a b ha O=>asx (e2 i a b ha O)⟩
noncomputable def xA(C:Cells)(M:List Loc)(J:List br)(n:Nat)(w:World):Cells:=open Classical in λb o=>match C b o with
 |some v=>a_ v
 |none=>if∃(k:Nat) (L:Loc) (Z:List bg) (r:Bool),n<=k/\J[k]?=a_ (.cells Z r)/\M[k]?=a_ L/\L.b=b then w.cell? ⟨b,o,bn⟩ else bn
section
variable{G:Cells}{base n b o k:Nat}{w0:kD}{w:World}{C:Cells}{M:List Loc}{J:List br}{v:Value}{L:Loc}{Z:List bg}{r:Bool}
def JV(h:C b o=a_ v):xA C M J n w b o=a_ v:=by unfold xA;rw[h]
def S5(h:xA C M J n w b o=a_ v):C b o=a_ v\/(∃(k:Nat) (L:Loc) (Z:List bg) (r:Bool),n<=k/\J[k]?=a_ (.cells Z r)/\M[k]?=a_ L/\L.b=b)/\w.cell? ⟨b,o,bn⟩=a_ v:=by
 unfold xA at h;split at h;rename_i hu;cases h;exact .inl hu;split at h;rename_i O;exact .inr ⟨O,h⟩;cases h
def S4(hs:ct G base w0 C M J w)(h:xA C M J n w b o=a_ v):pz G w b o v:=by
 rcases S5 h with q|⟨⟨k,L,Z,r,_,Y,V,rfl⟩,q⟩
 exact hs.oo _ _ _ q;exact⟨q,λ_ _=>(hs.cells k Z r L Y V).2.2.2.1⟩
def S7(hs:ct G base w0 C M J w)(h:xA C M J n w b o=a_ v):C b o=a_ v\/base<=b:=by
 rcases S5 h with q|⟨⟨k,L,Z,r,_,Y,V,rfl⟩,q⟩
 exact .inl q;exact .inr (hs.at V).2
def S6(hs:ct G base w0 C M J w)(hn:n<=k)(S:J[k]?=a_ (.cells Z r))(hM:M[k]?=a_ L)(i:Nat):xA C M J n w L.b i=w.cell? ⟨L.b,i,bn⟩:=by
 unfold xA;rw[(hs.cells k Z r L S hM).2.2.2.2.1 i];simp only;rw[if_pos ⟨k,L,Z,r,hn,S,hM,rfl⟩]
end
def gr{G}{P}{f}{args}{bS:bg}(h:cy G P f args [] λr bl=>∃n,cX bl n r=a_ bS):dL G P f args bS:=
 ⟨h.1,λC w cZ hg T D=>(h.2 w.heap.size ⟨w,C⟩ C [] w cZ (amv hg T) D).mono λe w' ⟨bI,M',bl,r,v',⟨n,z8⟩,he,bK,ez,iM⟩=>by
  refine⟨xA bI M' bl 0 w',v',he,λb o v q=>JV (bK.C b o v q),λb o v q=>?_,λb o v q=>S4 ez q,ez.below,?_,trivial⟩
  rcases S7 ez q with hu|O
  rcases d_ b w.heap.size with O|O
  exact bD (ez.old b o v hu O);exact bF O;exact bF O;refine Px (λb o v q=>JV q) (λk Z row L S hM i c T=>?_) (λ_ _ _ q=>q) z8 iM;obtain⟨c',q1,bt⟩:=(ez.cells k Z row L S hM).2.2.1 i c T;exact⟨c',by rw[S6 ez (jR _) S hM];exact q1,bt⟩⟩
end
section
variable{α:Type}{k n:Nat}{x:bg}{v:Value}{J:List br}{f:FuncId}{args:List bg}
inductive kT(n:Nat):bg->Prop
 |v {x:Value}:kT n (.v x)
 |agg {Z:List bg} (h:∀(i:Nat) c,Z[i]?=a_ c->kT n c):kT n (.agg Z)
 |bQ {Z:List bg} (h:∀(i:Nat) c,Z[i]?=a_ c->kT n c):kT n (.bQ Z)
 |bp:kT n .bp
 |sl {xs:List bg} {t:n_} (ht:∀id,t=.tok id->id<n) (h:∀(i:Nat) x (j:Nat) c,xs[i]?=a_ x->x.cells[j]?=a_ c->kT n c):kT n (.sl xs t)
 |fp {Z:List bg} {off:Nat} (h:∀(i:Nat) c,Z[i]?=a_ c->kT n c):kT n (.fp Z off)
 |fx {Z:List bg} {b o:Nat} (h:∀(i:Nat) c,Z[i]?=a_ c->kT n c):kT n (.fx Z b o)
 |mp {k off:Nat} (h:k<n):kT n (.mp k off)
 |rp {k m off:Nat} (h:k<n):kT n (.rp k m off)
 |rs {k m sz off len:Nat} (h:k<n):kT n (.rs k m sz off len)
 |gm {k:Nat} (h:k<n):kT n (.gm k)
 |fV {ch:List PanicEntry}:kT n (.fV ch)
 |fn {f:Fn} {fs Z:List bg} (Y:∀(i:Nat) c,fs[i]?=a_ c->kT n c) (V:∀(i:Nat) c,Z[i]?=a_ c->kT n c):kT n (.fn f fs Z)
 |ep {t:TypeId} {x:bg} (h:kT n x):kT n (.ep t x)
 |fR {k:Nat} (h:k<n):kT n (.fR k)
 |iV {k:Nat} (h:k<n):kT n (.iV k)
 |h_ {k:Nat} {t:TypeId×Nat} (h:k<n):kT n (.h_ k t)
section
variable{G:Cells}{P:Program}{C:Cells}{M:List Loc}{J:List br}
def pM{l:List α}{x:α}(h:l[k]?=a_ x):k<l.length:=(cJ.1 h).1
def O_{l:List bg}{a:Array α}(hl:l.length=a.size){i:Nat}{c:bg}(T:l[i]?=a_ c):∃b,a[i]?=a_ b:=⟨_,vJ (by rw[<-hl];exact pM T)⟩
def bO.low(h:bO C M J x v):kT J.length x:=by
 induction h with
 |v h=>exact .v
 |agg hl h ih=>
  refine .agg λi c T=>?_;obtain⟨b,O⟩:=O_ hl T;exact ih i c b T O
 |bQ hl h ih=>
  refine .bQ λi c T=>?_;obtain⟨b,O⟩:=O_ hl T;exact ih i c b T O
 |bp=>exact .bp
 |sl f gk dG hC hR hT gT ih=>
  refine .sl (λid e=>?_) ih;subst e;obtain⟨n,s,ty,L,q1,_⟩:=hT;exact pM q1
 |fp f hC hR ih=>exact .fp ih
 |fx f hC hR ih=>exact .fx ih
 |mp O hM=>exact .mp (pM O)
 |rp O hM hn ha=>exact .rp (pM O)
 |rs O hM hn fO ha=>exact .rs (pM O)
 |gm O hM=>exact .gm (pM O)
 |fn kK fO hf T FV FU=>
  refine .fn (λi c h=>?_) λi c h=>?_;obtain⟨b,O⟩:=O_ kK h;exact FV i c b h O;obtain⟨b,O⟩:=O_ fO h;exact FU i c b h O
 |ep h ih=>exact .ep ih
 |fR O hM=>exact .fR (pM O)
 |iV O hM=>exact .iV (pM O)
 |h_ O hM=>exact .h_ (pM O)
def k4{l:List α}(h:k<n):(l.take n)[k]?=l[k]? :=by
 rw[SP];simp[h]
def bO.aD6(h:bO C M J x v):kT n x->bO C (M.take n) (J.take n) x v:=by
 induction h with
 |v h=>intro _;exact .v h
 |agg hl h ih=>intro hL;cases hL with|agg q=>exact .agg hl λi a b ha O=>ih i a b ha O (q i a ha)
 |bQ hl h ih=>intro hL;cases hL with|bQ q=>exact .bQ hl λi a b ha O=>ih i a b ha O (q i a ha)
 |bp=>intro _;exact .bp
 |sl f gk dG hC hR hT gT ih=>
  intro hL;cases hL with
  |sl ht q=>
   refine .sl f gk dG hC (λi x j c I T=>ih i x j c I T (q i x j c I T)) ?_ gT;rename_i xs t a cap sz;cases t with
   |exact=>exact hT
   |no=>exact hT
   |tok id=>
    have hid:=ht id rfl;obtain⟨n',s,ty,L,q1,bt,bT⟩:=hT;exact⟨n',s,ty,L,by rw[k4 hid];exact q1,by rw[k4 hid];exact bt,bT⟩
 |fp f hC hR ih=>intro hL;cases hL with|fp q=>exact .fp f hC λi c T=>ih i c T (q i c T)
 |fx f hC hR ih=>intro hL;cases hL with|fx q=>exact .fx f hC λi c T=>ih i c T (q i c T)
 |mp O hM=>intro hL;cases hL with|mp q=>exact .mp aHF aHB
 |rp O hM hn ha=>intro hL;cases hL with|rp q=>exact .rp aHF aHB hn ha
 |rs O hM hn fO ha=>intro hL;cases hL with|rs q=>exact .rs aHF aHB hn fO ha
 |gm O hM=>intro hL;cases hL with|gm q=>exact .gm aHF aHB
 |fn kK fO hf T FV FU=>intro hL;cases hL with|fn q1 bt=>exact .fn kK fO (λi a b ha O=>FV i a b ha O (q1 i a ha)) λi a b ha O=>FU i a b ha O (bt i a ha)
 |ep h ih=>intro hL;cases hL with|ep q=>exact .ep (ih q)
 |fR O hM=>intro hL;cases hL with|fR q=>exact .fR aHF aHB
 |iV O hM=>intro hL;cases hL with|iV q=>exact .iV aHF aHB
 |h_ O hM=>intro hL;cases hL with|h_ q=>exact .h_ aHF aHB
def nR(n:Nat)(J:List br):List br:=e3 n (.tok 0 0 0)++J.drop n
def aj9{Z}{r}(h:(nR n J)[k]?=a_ (.cells Z r)):n<=k/\J[k]?=a_ (.cells Z r):=by
 unfold nR at h
 rcases d_ k n with q|q
 rw[fE an] at h;rw[List.getElem?_replicate] at h;split at h<;>simp at h;rw[fF an] at h;simp only[List.length_replicate,sx] at h;exact⟨q,by rw[<-h];congr 1;omega⟩
def azN(n)(J):nR n (J.map b7)=(nR n J).map b7:=by
 unfold nR;rw[gQ,List.map_replicate,List.map_drop];rfl
def UP{b b'}(h:b7 b=b7 b'):(b'=b\/(∃st pd bX ps ok,b=.cc st pd bX ps ok)\/(∃c c',b=.obj (.deferred c)/\b'=.obj (.deferred c'))):=by
 cases b with
 |cells Z r=>cases b' with
  |cells cs' r'=>left;exact h.symm
  |obj o=>cases o<;>cases h
  |_=>cases h
 |tok n s e=>cases b' with
  |tok n' s' e'=>left;exact h.symm
  |obj o=>cases o<;>cases h
  |_=>cases h
 |eH es cC=>cases b' with
  |eH mo mS=>left;exact h.symm
  |obj o=>cases o<;>cases h
  |_=>cases h
 |cc st pd bX ps ok=>right;left;exact⟨_,_,_,_,_,rfl⟩
 |obj o=>
  cases o with
  |deferred c=>cases b' with
   |obj o'=>cases o'<;>first|(right;right;exact⟨_,_,rfl,rfl⟩)|cases h
   |_=>cases h
  |_=>cases b' with
   |obj o'=>left;cases o'<;>first|exact h.symm|cases h
   |_=>cases h
def cy.adh{hi:bg->List br->Prop}(h:cy G P f args J λr bl=>(bl.map b7).take J.length=J.map b7/\fT J bl/\∃n bS,cX (nR J.length bl) n r=a_ bS/\hi bS (bl.take J.length)):
  cy G P f args J λr bl=>hi r bl:=by
 classical
 refine⟨h.1,λbase w0 C M w cZ hs D=>(h.2 base w0 C M w cZ hs D).mono ?_⟩;rintro e w' ⟨bI,M',bl,r,v',⟨Qk,P4,n,bS,z8,hq⟩,he,bK,ez,iM⟩;have hN:=bK.length;have aF8:=hs.fJ
 let Cv:Cells:=xA bI M' bl J.length w'
 have zU:∀b o v,bI b o=a_ v->Cv b o=a_ v:=λb o v q=>JV q;have Wl:∀{k:Nat} {b:br},J[k]?=a_ b->∃b',bl[k]?=a_ b'/\b7 b=b7 b':=λ{k b} O=>by
  have S:=pM O;have:((bl.map b7).take J.length)[k]?=(J.map b7)[k]? :=by rw[Qk]
  rw[k4 S,fL,fL,O] at this;cases hb':bl[k]? with
  |none=>rw[hb'] at this;cases this
  |some b'=>rw[hb'] at this;exact⟨b',rfl,by simpa using this.symm⟩
 have VQ:∀{k:Nat} {Z} {fz:Bool},k<J.length->bl[k]?=a_ (.cells Z fz)->J[k]?=a_ (.cells Z fz):=λ{k Z fz} S hb'=>by
  obtain⟨b,O⟩:∃b,J[k]?=a_ b:=⟨_,cx S⟩;obtain⟨b2,Y,V⟩:=Wl O;rw[hb'] at Y;cases Y
  rcases UP V with q|⟨_,_,_,_,_,q⟩|⟨_,_,_,q⟩
  rw[O,q];rw[q] at V;cases V;cases q
 have HV:∀{k:Nat},k<J.length->M'[k]?=M[k]? :=λ{k} S=>by
  obtain⟨b,O⟩:∃b,J[k]?=a_ b:=⟨_,cx S⟩;obtain⟨b2,Y,V⟩:=Wl O;cases b with
  |cells Z fz=>
   obtain⟨cs',q1,_,bT,_⟩:=bK.cells k Z fz O;have:=VQ S q1;rw[O] at this;cases this;exact bT λ_=>rfl
  |tok n s ty=>
   obtain⟨n',q1,_,bT,_⟩:=bK.toks k n s ty O;rw[Y] at q1;cases q1
   rcases UP V with q|⟨_,_,_,_,_,q⟩|⟨_,_,q,_⟩
   cases q;exact bT rfl;cases q;cases q
  |obj o=>exact(bK.gp k _ rfl O).2
  |eH es cC=>exact(bK.gp k _ rfl O).2
  |cc st pd bX ps ok=>exact(bK.gp k _ rfl O).2
 have LJ:∀{k:Nat} {L:Loc} {o:Nat},k<J.length->M'[k]?=a_ L->bI L.b o=bn->Cv L.b o=bn:=λ{k L o} S hM T=>by
  cases q:Cv L.b o with
  |none=>rfl
  |some v=>
   rcases S5 q with e|⟨⟨k',L',_,_,Y,_,V,h3⟩,_⟩
   rw[T] at e;cases e;exact(ez.apart k' k L' L aa V hM h3).elim
 have Qm:∀{x:bg} {v},kT J.length x->bO bI M' bl x v->bO Cv (M'.take J.length) (bl.take J.length) x v:=λhl D=>by
  have Y:=D.aD6 hl;exact Y.mono ⟨zU,λk Z fz q=>⟨Z,q,λ_=>ck _,λ_=>rfl,λq=>q⟩,λk n s ty q=>⟨n,q,ck _,λ_=>rfl,λq=>q⟩,λk b O q=>⟨⟨b,q,br.like.refl b⟩,rfl⟩⟩
 have cQ:∀{k:Nat} {b:br},(bl.take J.length)[k]?=a_ b->k<J.length/\bl[k]?=a_ b:=λ{k b} O=>by
  have S:k<J.length:=by have:=pM O;rw[Cs] at this;omega
  rw[k4 S] at O;exact⟨S,O⟩
 have LC:∀{k:Nat} {L:Loc},k<J.length->(M'.take J.length)[k]?=a_ L->M'[k]?=a_ L:=λ{k L} S O=>by
  rw[k4 S] at O;exact O
 refine⟨Cv,M'.take J.length,bl.take J.length,bS,v',hq,he,?_,?_,?_⟩;refine⟨λb o v q=>zU _ _ _ (bK.C b o v q),λk Z fz S=>?_,λk n s ty S=>?_,λk b O S=>?_⟩;have eS:=pM S;obtain⟨cs',q1,_⟩:=bK.cells k Z fz S;have:=VQ eS q1;rw[S] at this;cases this;exact⟨Z,aJz,λ_=>ck _,λ_=>by rw[k4 eS];exact HV eS,λq=>by rw[k4 eS,HV eS];exact q⟩;have eS:=pM S;obtain⟨n',q1,bt,bT,fh⟩:=bK.toks k n s ty S;exact⟨n',aJz,bt,λ_=>by rw[k4 eS];exact HV eS,λq=>by rw[k4 eS,HV eS];exact q⟩;have eS:=pM S;obtain⟨⟨b',q1,bt⟩,bT⟩:=bK.gp k b O S;exact⟨⟨b',aJz,bt⟩,by rw[k4 eS];exact bT⟩;refine⟨ez.below,ez.nN,λb o v q O=>?_,λb o v q=>zU _ _ _ (ez.sQ b o v q),?_,λb o v q=>?_,λk Z fz L S hM=>?_,λk n s ty L S hM=>?_,λk k' L L' bR hM eC=>?_,λk b L O S hM=>?_⟩
 rcases S7 ez q with hu|hu
 exact ez.old b o _ hu O;omega;rw[Cs,Cs,ez.fJ];exact S4 ez q;obtain⟨eS,iA⟩:=cQ S;have eC:=LC eS hM;obtain⟨t1,t2,t3,t4,t5,t6,t7⟩:=ez.cells k Z fz L iA eC;refine⟨t1,t2,λi c T=>?_,t4,λo=>LJ eS eC (t5 o),t6,t7⟩;obtain⟨c',q1,bt⟩:=t3 i c T;refine⟨c',q1,Qm ?_ bt⟩;rw[HV eS] at eC;obtain⟨_,_,eK,_⟩:=hs.cells k Z fz L (VQ eS iA) eC;obtain⟨c0,_,bT⟩:=eK i c T;exact bT.low;obtain⟨eS,iA⟩:=cQ S;have eC:=LC eS hM;obtain⟨t1,t2,t3,t4,t5,t6⟩:=ez.toks k n s ty L iA eC;exact⟨t1,t2,t3,λo ho=>LJ eS eC (t4 o ho),t5,t6⟩;have e1:k<J.length:=by have:=pM hM;rw[Cs] at this;omega
 have e2:k'<J.length:=by have:=pM eC;rw[Cs] at this;omega
 exact ez.apart k k' L L' bR (LC e1 hM) (LC e2 eC);obtain⟨eS,iA⟩:=cQ S;have eC:=LC eS hM;obtain⟨t1,o,t2,t3,t4⟩:=ez.gp k b L O iA eC;refine⟨t1,o,t2,t3,?_⟩;obtain⟨b0,lq⟩:∃b,J[k]?=a_ b:=⟨_,cx eS⟩;obtain⟨b2,Y,V⟩:=Wl lq;rw[iA] at Y;cases Y;have PL:M[k]?=a_ L:=by rw[<-HV eS];exact eC
 cases b with
 |obj o'=>exact t4
 |eH es cC=>
  rcases UP V with q|⟨_,_,_,_,_,q⟩|⟨_,_,_,q⟩
  subst q;obtain⟨_,o0,_,_,arR,_,ve,Ls⟩:=hs.gp k _ L rfl lq PL;obtain⟨e6,e1,e2,dc⟩:=t4;refine⟨e6,e1,e2,λi a b ha O=>?_⟩;obtain⟨b1,g_⟩:∃b1,arR.toList[i]?=a_ b1:=⟨_,cx (by rw[<-ve];exact pM ha)⟩;obtain⟨u1,u2,_⟩:=Ls i a b1 ha g_;obtain⟨v1,v2,v3⟩:=dc i a b ha O;exact⟨Qm u1.low v1,Qm u2.low v2,v3⟩;rw[q] at V;cases V;cases q
 |cc st pd bX ps ok=>
  obtain⟨fn,tmps,assign,body,hr,e1,e2,dc,eL⟩:=t4;refine⟨fn,tmps,assign,body,hr,e1,e2,dc,λi a b ha O=>Qm ?_ (eL i a b ha O)⟩;cases b0 with
  |cc qy ala ap7 aA3 aAB=>
   obtain⟨ga,k3,q⟩:=P4 k qy ala ap7 aA3 aAB lq;rw[iA] at q;cases q;obtain⟨_,o0,_,_,aFW,aDZ,aFp,aFx,aFl,_,_,g3,g4⟩:=hs.gp k _ L rfl lq PL;obtain⟨b1,g_⟩:∃b1,aDZ[i]?=a_ b1:=⟨_,vJ (by rw[<-g3];exact pM ha)⟩;exact(g4 i a b1 ha g_).low
  |obj o=>cases o<;>cases V
  |_=>cases V
 |cells Z fz=>cases O
 |tok n s e=>cases O
 refine(Px zU (λk Z row L S hM i c T=>?_) (λk Z row S=>((aj9 S).2)) z8 iM).mono QM;obtain⟨gD,hk2⟩:=aj9 S;obtain⟨t1,t2,t3,t4,t5,_⟩:=ez.cells k Z row L hk2 hM;obtain⟨c',q1,bt⟩:=t3 i c T;exact⟨c',(S6 ez gD hk2 hM i).trans q1,bt⟩
def cy.close{bS:bg}(h:cy G P f args J λr bl=>(bl.map b7).take J.length=J.map b7/\fT J bl/\∃n,cX (nR J.length bl) n r=a_ bS):
  cy G P f args J λr bl=>r=bS/\bl.map b7=J.map b7/\fT J bl:=by
 refine cy.adh (cm h ?_);rintro r bl ⟨Qk,P4,n,z8⟩;refine⟨Qk,P4,n,bS,z8,rfl,?_,?_⟩;rw[aoG];exact Qk;intro k st pd bX ps ok S;obtain⟨ga,k3,q⟩:=P4 k st pd bX ps ok S;exact⟨ga,k3,by rw[k4 (pM S)];exact q⟩
def cy.Un{hi:bg->Prop}(h:cy G P f args J λr bl=>(∃l,bl=J++l)/\∃n bS,cX (nR J.length bl) n r=a_ bS/\hi bS):
  cy G P f args J λr bl=>hi r/\bl=J:=by
 refine cy.adh (cm h ?_);rintro r bl ⟨⟨l,rfl⟩,n,bS,hf,hq⟩;have e1:(J++l).take J.length=J:=SU rfl;exact⟨by rw[<-aoG,e1],Ao,n,bS,hf,hq,e1⟩
end
end
end Go.bP

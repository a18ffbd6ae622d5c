/- Part 12 of a proof. No condition. -/
import Derived.Test.YtggeooeohcbdhaaGreatDoorZ11
set_option linter.unusedVariables false
set_option linter.unusedSimpArgs false
set_option linter.defProp false
open Array renaming getElem?_eq_getElem->sX
open Bool renaming and_eq_true->dY,eq_iff_iff->Bl,false_eq_true->iA
open Go.aJ.U renaming agg->bT,cells->gm,mp->bB,one->bn,v->bP
open Go.aJ.aa renaming cells->aj,aT->iB
open Go.aJ.qf renaming mk->bA
open Go.aJ.aE renaming mono->aZ,pure->dx,avB->gf
open Go.aJ.gP renaming mono->rT
open Go.aJ renaming Clean->dn
open Go.aJ.aX renaming agg->iO,af->cS,sl->fj,aK->dR,v->aB
open Go.aJ.dD renaming cons->aA,map->gh,nil->bW
open Go.aJ.T renaming size->vV
open Go.aJ.de renaming aG->l5
open Go.Fn renaming func->qM
open Go.IntKind renaming i64->b7
open Go.Lib renaming decDigits_length->azI,pow10Tab->DE
open Go.MakeChecks renaming laidMetH_plain->azJ
open Go.OpenSpec renaming ofChange->VZ
open Go.Proofs.Tryz renaming checked->aiZ,f3->vX,prog->az
open Go.Proofs.YtggeooeohcbdhaaGreatDoor.Ext renaming app->jV,split->V0
open Go.Proofs.YtggeooeohcbdhaaGreatDoor.Rows renaming scanPartsRow->zm,scanPartsSpec->J7
open Go.Value renaming cells->vY,okWide->J_
open Go.World renaming cell?->DG
open Int renaming le_refl->nj,reduceBEq->x4,reduceBNe->x5
open List renaming all_cons->lD,all_eq_true->c_,all_nil->oy,append_assoc->cq,append_nil->e4,cons_append->jW,dropLast_concat_getLast->azM,drop_drop->vZ,drop_eq_getElem_cons->F8,drop_succ_cons->x6,drop_zero->nk,eq_nil_of_length_eq_zero->lE,foldl_append->V9,foldl_cons->sZ,foldl_nil->ajd,getElem?_eq_getElem->br,getElem?_eq_none->hG,getElem?_eq_some_iff->bE,getElem?_map->eC,getElem?_set_ne->av,getElem?_set_self->aR,getLast?_eq_getElem?->azR,length->zq,length_append->cB,length_cons->dm,length_drop->v_,length_map->b_,length_nil->fQ,length_pos_iff->DK,length_set->rU,length_singleton->nq,length_take->zu,map_append->eX,map_cons->eD,map_map->we,map_nil->kX,map_set->s0,mem_append->dZ,mem_cons->ek,mem_cons_of_mem->qP,mem_cons_self->zw,mem_map->cO,mem_of_getElem?->bG,mem_of_mem_drop->uH,mem_or_eq_of_mem_set->Ga,mem_singleton->cr,nil_append->eR,set_append_right->We,take_add_one->Gc,take_length->rV,take_of_length_le->kG,take_succ_cons->x7,take_zero->qQ
open Nat renaming add_sub_cancel->Kg,eq_zero_or_pos->x8,le_refl->bl,le_trans->fk,lt_or_ge->cE,lt_succ_self->Bw,reduceAdd->rX,reduceEqDiff->s5,reduceLT->s6,reduceLeDiff->s7,sub_self->kj,zero_add->e5,zero_le->ic
open Ne renaming symm->dr
open Option.some renaming inj->mL
open Or renaming inl->ay,inr->ax
namespace Go.Proofs.YtggeooeohcbdhaaGreatDoor
open Go Go.aJ Go.RowKit
section
variable{hp:List aa}{ms:List Int}
section
variable{G:Cells}{S au mv:U}{rows marks:List (List U)}
def akM(s:jF S au mv rows marks){kx ks:Nat}{a b:Int}(hx:hp[kx]?=some (.cells [ag a,ag b] false))(hS:hp[ks]?=some (.cells [S] false))(o:Int):
  aE G az 148 [.v (.int .i64 o),.mp kx 0,.mp ks 0] hp λr h'=>gW r/\h'=hp:=by
 have hc:=s.clean;refine acj.go ?_;have ym:jH 2 1 (.mp kx 0) (.v (.int .i64 0))=some (.mp kx 0):=rfl;have l1:=c6 hS;refine wy ?_;refine bA (λq=>?_) λq=>?_;refine wy ?_;refine gf (akN s o a) (aP hc (aP (bM _) (aP (bM _) bS))) ?_;rintro r ⟨z,rfl⟩;refine cV @q ?_;exact⟨⟨_,rfl⟩,trivial⟩;refine cV @q ?_;exact⟨⟨_,rfl⟩,trivial⟩
def auU(hl:ms.length=8){y:U}(iI:∀(o:Int) g,Ext hp g->gP G az y [.v (.int .i64 o)] g λr g'=>gW r/\g'=g):
  aE G az 150 [.agg (ms.map ep),y] hp λr h'=>gW r/\∃l,h'=hp++l:=by
 refine acn.go ?_;have hk:(hp++[aj (ms.map ep) false])[hp.length]?=some (.cells (ms.map ep) false):=aBI
 refine xR (tD hk (n:=8) aB5) ?_;refine gf (aeN hl) (aP (K_ ms) bS) ?_;rintro lv ⟨l,h1,h2⟩;have ln:=h1.bO;rw[b_] at ln;refine wy ?_;refine cj (λi e g=>e=[(1,y),(8,lv),(9,ag l.length),(10,ag i)]/\∃x,g=hp++x) l.length ⟨rfl,_,rfl⟩ ?_ ?_;rintro i e g hi ⟨rfl,x,rfl⟩;obtain⟨z,hz⟩:∃z,l[i]?=some z:=⟨l[i],br hi⟩;have SE:bu 2 lv (.v (.int .i64 (i:Int)))=some (.fp [ag z.1,ag z.2] 0):=h1.bK (x:=.agg [ag z.1,ag z.2]) aEr rfl;have la:∀h,aq h true 2 (.fp [ag z.1,ag z.2] 0)=some (.agg [ag z.1,ag z.2]):=λh=>rfl;have st:=pn (n:=2) (g:=hp++x++[.cells [.v (.int .i64 0),.v (.int .i64 0)] false]) (k:=(hp++x).length) (cs:=[ag z.1,ag z.2]) (cs0:=[.v (.int .i64 0),.v (.int .i64 0)]) aBI rfl rfl rfl;have e1:(hp++x++[aj [.v (.int .i64 0),.v (.int .i64 0)] false]).set (hp++x).length (.cells [ag z.1,ag z.2] false)=hp++x++[.cells [ag z.1,ag z.2] false]:=aBI
 rw[e1] at st;have hk2:(hp++x++[aj [ag z.1,ag z.2] false])[(hp++x).length]?=some (.cells [ag z.1,ag z.2] false):=aBI
 have hE:Ext hp (hp++x++[aj [ag z.1,ag z.2] false]):=(jV).n3;unfold ag at SE la st hE hk2;refine wy ?_;have ym:jH 2 1 (.mp (hp++x).length 0) (.v (.int .i64 0))=some (.mp (hp++x).length 0):=rfl;refine wy ?_;refine rT (iI z.1 _ hE) ?_;rintro r g' ⟨⟨b,rfl⟩,rfl⟩;cases b with
 |true=>
  refine wy ?_;exact⟨⟨_,rfl⟩,x++[aj [bP (.int .i64 z.1),bP (.int .i64 z.2)] false],aCW⟩
 |false=>
  refine fY ?_;exact⟨rfl,x++[aj [bP (.int .i64 z.1),bP (.int .i64 z.2)] false],aCW⟩
 rintro e g ⟨rfl,x,rfl⟩;refine wy ?_;exact⟨⟨_,rfl⟩,x,rfl⟩
def awp(s:jF S au mv rows marks)(hl:ms.length=8):cx G az 84 [S,.agg (ms.map ep)] gW:=by
 have hc:=s.clean;have dy:S.cells=[S]:=by rw[s.eq];rfl
 refine cR (abU.go ?_);have aey:∀x:List aa,aq ([aj [S] false,aj (ms.map ep) false]++x) true 8 (.mp 1 0)=some (.agg (ms.map ep)):=λx=>tD (cs:=ms.map ep) rfl aB5;have as5:=aey [];rw[e4] at as5;refine wy ?_;refine gf (aeN hl) (aP (K_ ms) bS) ?_;rintro lv ⟨l,h1,h2⟩;have ln:=h1.bO;rw[b_] at ln;refine wy ?_;refine cj (λi e g=>e=[(2,.mp 0 0),(3,.mp 1 0),(9,lv),(10,ag l.length),(11,ag i)]/\∃x,g=[aj [S] false,aj (ms.map ep) false]++x) l.length ⟨rfl,[],rfl⟩ ?_ ?_;rintro i e g hi ⟨rfl,x,rfl⟩;obtain⟨z,hz⟩:∃z,l[i]?=some z:=⟨l[i],br hi⟩;have SE:bu 2 lv (.v (.int .i64 (i:Int)))=some (.fp [ag z.1,ag z.2] 0):=h1.bK (x:=.agg [ag z.1,ag z.2]) aEr rfl;have la:∀h,aq h true 2 (.fp [ag z.1,ag z.2] 0)=some (.agg [ag z.1,ag z.2]):=λh=>rfl;generalize hH:[aj [S] false,aj (ms.map ep) false]++x=H;have st:=pn (n:=2) (g:=H++[.cells [.v (.int .i64 0),.v (.int .i64 0)] false]) (k:=H.length) (cs:=[ag z.1,ag z.2]) (cs0:=[.v (.int .i64 0),.v (.int .i64 0)]) aBI rfl rfl rfl;have e1:(H++[aj [.v (.int .i64 0),.v (.int .i64 0)] false]).set H.length (.cells [ag z.1,ag z.2] false)=H++[.cells [ag z.1,ag z.2] false]:=aBI
 rw[e1] at st;have hk2:(H++[aj [ag z.1,ag z.2] false])[H.length]?=some (.cells [ag z.1,ag z.2] false):=aBI
 have hS:(H++[aj [ag z.1,ag z.2] false])[0]?=some (.cells [S] false):=by rw[<-hH];rfl
 have lm:aq (H++[aj [ag z.1,ag z.2] false]) true 8 (.mp 1 0)=some (.agg (ms.map ep)):=by rw[<-hH];exact aey _
 have w1:b7.wrap ((i:Int)+1)=((i+1:Nat):Int):=jA aBH;have a0:jH 2 1 (.mp H.length 0) (.v (.int .i64 0))=some (.mp H.length 0):=rfl;have a1:jH 2 1 (.mp H.length 0) (.v (.int .i64 1))=some (.mp H.length 1):=rfl;have l0:aq (H++[aj [ag z.1,ag z.2] false]) false 1 (.mp H.length 0)=some (.v (.int .i64 z.1)):=by simp only[aq,hk2];rfl
 have l1:aq (H++[aj [ag z.1,ag z.2] false]) false 1 (.mp H.length 1)=some (.v (.int .i64 z.2)):=by simp only[aq,hk2];rfl
 unfold ag at SE la st l0 l1 hS lm hk2;refine wy ?_;refine gf (aum s z.1 z.2) (aP hc (aP (bM _) (aP (bM _) bS))) ?_;rintro r ⟨b,rfl⟩;have hx2:H++[aj [bP (.int .i64 z.1),bP (.int .i64 z.2)] false]=[aj [S] false,aj (ms.map ep) false]++(x++[aj [bP (.int .i64 z.1),bP (.int .i64 z.2)] false]):=by rw[<-hH,cq]
 cases b with
 |false=>
  refine wy ?_;exact gj _
 |true=>
  refine cV @lm ?_;refine aZ (auU hl λo g hE=>?_) ?_;show gP G az (.fn (.func 148) [] [.mp H.length 0,.mp 0 0]) [.v (.int .i64 o)] g _;exact akM s (hE _ _ hk2) (hE _ _ hS) o;rintro r g ⟨⟨b,rfl⟩,y,rfl⟩;cases b with
  |false=>
   refine wy ?_;exact gj _
  |true=>
   refine di @w1 ?_;exact⟨rfl,x++[aj [bP (.int .i64 z.1),bP (.int .i64 z.2)] false]++y,by rw[hx2];simp only[cq]⟩
 rintro e g ⟨rfl,x,rfl⟩;refine wy ?_;exact gj _
def ay2(r:Int):cx G az 85 [.v (.int .i32 r)] gW:=by
 refine cR (abV.go ?_);refine wy ?_
 repeat' ((refine bA (λq=>?_) λq=>?_)<;>(have q':=q)<;>(simp -failIfUnchanged only[lO] at q')<;>(refine di @q ?_))
 all_goals exact gj _
end
end
section
variable{G:Cells}
def Qm{P:Program}{f:FuncId}{args:List U}{hp:List aa}{Q:U->Prop}(h:aE G P f args hp λr hp'=>∃aQ,Q aQ/\∃l,hp'=hp++l/\aX (mask hp.length hp') r aQ):aE G P f args hp λr hp'=>Q r/\hp'=hp:=
 aE.Ql (aZ h λr hp' ⟨aQ,hq,l,hl,hf⟩=>⟨⟨l,hl⟩,by obtain⟨n,hn⟩:=hf.done;exact⟨n,aQ,hn,hq⟩⟩)
def Shape(t:de):Prop:=t.kind=1\/t=La\/t.kind=3\/(t.kind=4/\t.type=0/\t.attr=0)
def Wr(p:Prop)(r:U):Prop:=∃b:Bool,r=.v (.bool b)/\(b=true->p)
def ny{hp}{b:Bool}{p:Prop}(h:b=true->p):∃n aQ,b9 hp n (.v (.bool b))=some aQ/\Wr p aQ:=by
 obtain⟨n,hn⟩:=(aB (hp:=hp) (.bool b)).done;exact⟨n,_,hn,_,rfl,h⟩
def Zb{t u:de}(ht:t.marks.length=8)(hu:u.marks.length=8):∃b:Bool,(b=true↔t=u)/\q6 [.i,.i,.i,.i,.i,.i,.i,.i,.i,.i,.i,.i] false (.agg t.cells) (.agg u.cells)=some (.v (.bool b)):=by
 obtain⟨k,ty,a,r,ms⟩:=t;obtain⟨k',ty',a',r',ms'⟩:=u
 match ms,ht,ms',hu with
 |[a0,a1,a2,a3,a4,a5,a6,a7],_,[b0,b1,b2,b3,b4,pg,sg,zR],_=>
  simp only[q6,dN,lQ,de.cells,ag,oc,ep,eD,kX];refine⟨_,?_,by simp;rfl⟩;simp
section
variable{G:Cells}{S au mv:U}{rows marks:List (List U)}
def awr(s:jF S au mv rows marks){t:de}(ho:t.cA):cx G az 45 [S,t.aG] (Wr (Shape t)):=by
 have hc:=s.clean;obtain⟨k,ty,aV,qG,ms⟩:=t;obtain⟨m0,m1,m2,m3,m4,m5,m6,m7,rfl⟩:∃m0 m1 m2 m3 m4 m5 m6 m7,ms=[m0,m1,m2,m3,m4,m5,m6,m7]:=by
  have h8:=ho.len;dsimp only at h8
  match ms,h8 with
  |[a,b,c,d,e,f,g,h],_=>exact⟨a,b,c,d,e,f,g,h,rfl⟩
 refine cR (MI.go ?_);obtain⟨cs,hcs⟩:∃cs,cs=(⟨k,ty,aV,qG,[m0,m1,m2,m3,m4,m5,m6,m7]⟩:de).cells:=⟨_,rfl⟩;have hcl:(⟨k,ty,aV,qG,[m0,m1,m2,m3,m4,m5,m6,m7]⟩:de).aG.cells=cs:=hcs.symm;have l0:aq [aj cs false] false 1 (.mp 0 0)=some (.v (.int .i64 k)):=aDT
 have l1:aq [aj cs false] false 1 (.mp 0 1)=some (.v (.int .i64 ty)):=aDT
 have l2:aq [aj cs false] false 1 (.mp 0 2)=some (.v (.int .i64 aV)):=aDT
 have l3:aq [aj cs false] false 1 (.mp 0 3)=some (.v (.int .i32 qG)):=aDT
 have CN:aq [aj cs false] true 8 (.mp 0 4)=some (.agg ([m0,m1,m2,m3,m4,m5,m6,m7].map ep)):=aDT
 have aew:aq [aj cs false] true 12 (.mp 0 0)=some (.agg cs):=aDT
 have f1:∀a b,cm z12 [(0,1,.v (.int .i64 1)),(1,1,.v (.int .i64 a)),(2,1,.v (.int .i64 b))]=some (⟨1,a,b,0,[0,0,0,0,0,0,0,0]⟩:de).cells:=λa b=>rfl;have f2:cm z12 [(0,1,.v (.int .i64 2))]=some La.cells:=rfl;have f8:cm (z12.drop 4) []=some ([0,0,0,0,0,0,0,0].map ep):=rfl;simp only[z12,Bh,x7,qQ,x6,nk] at f1 f2 f8;obtain⟨x1,_,q1⟩:=Zb (t:=⟨k,ty,aV,qG,[m0,m1,m2,m3,m4,m5,m6,m7]⟩) (u:=⟨1,ty,aV,0,[0,0,0,0,0,0,0,0]⟩) rfl rfl;obtain⟨x2,h2,ah⟩:=Zb (t:=⟨k,ty,aV,qG,[m0,m1,m2,m3,m4,m5,m6,m7]⟩) (u:=La) rfl rfl;rw[<-hcs] at q1 ah;obtain⟨azu,pY⟩:∃x:Bool,q6 [.i,.i,.i,.i,.i,.i,.i,.i] false (.agg ([m0,m1,m2,m3,m4,m5,m6,m7].map ep)) (.agg ([0,0,0,0,0,0,0,0].map ep))=some (.v (.bool x)):=by
  simp[q6,dN,lQ,ep]
 have sj:=K_ [m0,m1,m2,m3,m4,m5,m6,m7];have fX:∀{hp:List aa} {K:U->List aa->Prop},(∀b:Bool,K (.v (.bool b)) hp)->aE G az 84 [S,.agg ([m0,m1,m2,m3,m4,m5,m6,m7].map ep)] hp K:=λ{hp K} hK=>
  gf (awp s (ms:=[m0,m1,m2,m3,m4,m5,m6,m7]) rfl) (aP hc (aP sj bS)) λr ⟨b,hb⟩=>by rw[hb];exact hK b
 generalize hM:bT ([m0,m1,m2,m3,m4,m5,m6,m7].map ep)=M at CN pY fX;generalize hZ:bT ([0,0,0,0,0,0,0,0].map ep)=Z at pY;refine fG @hcl @l0 ?_;by_cases k1:k=1;subst k1;refine fB @iE @l1 @l2 ?_;refine dx (GL s ty aV) (aP hc (aP (bM _) (aP (bM _) bS))) ?_;generalize(decide (ty>=1)&&decide (ty<=(rows.length:Int))&&decide (aV>=0)&&decide (aV<=yt rows ty))=b1;cases b1 with
 |false=>
  refine fY ?_;exact ny λ_=>ay rfl
 |true=>
  refine cV @l1 ?_;refine dx (IK s ty) (aP hc (aP (bM _) bS)) ?_;generalize AL rows ty=b2;cases b2 with
  |true=>
   refine fY ?_;exact ny λ_=>ay rfl
  |false=>
   refine nQ @l1 @l2 @aew @f1 @q1 ?_;exact ny λ_=>ay rfl
 have e1:(k==1)=false:=beq_eq_false_iff_ne.2 k1;by_cases k2:k=2;subst k2;refine kf @e1 @aew @f2 @ah ?_;exact ny λz=>ax (ay (h2.1 z));have e2:(k==2)=false:=beq_eq_false_iff_ne.2 k2;by_cases eF:k=3
 · subst eF
   refine kf @CN @f8 @hZ @pY ?_;cases azu with
   |true=>
    refine fB @iE @l1 @l2 ?_;refine dx (GL s ty aV) (aP hc (aP (bM _) (aP (bM _) bS))) ?_;generalize(decide (ty>=1)&&decide (ty<=(rows.length:Int))&&decide (aV>=0)&&decide (aV<=yt rows ty))=b1;cases b1 with
    |false=>
     refine fY ?_;exact ny λ_=>ax (ax (ay rfl))
    |true=>
     refine cV @l1 ?_;refine dx (IK s ty) (aP hc (aP (bM _) bS)) ?_;generalize AL rows ty=b2;cases b2 with
     |false=>
      refine fY ?_;exact ny λ_=>ax (ax (ay rfl))
     |true=>
      refine di @l3 ?_
      repeat' ((refine bA (λq=>?_) λq=>?_)<;>(have q':=q)<;>(simp -failIfUnchanged only[lO] at q')<;>(refine fB @iE @l3 @q ?_))
      all_goals exact ny λ_=>ax (ax (ay rfl))
   |false=>
    refine kE @iE @l1 ?_;refine dx (abH s ty) (aP hc (aP (bM _) bS)) ?_;generalize j6 rows ty=b3;cases b3 with
    |false=>
     refine fG @l1 @l2 ?_;refine dx (GL s ty aV) (aP hc (aP (bM _) (aP (bM _) bS))) ?_;generalize(decide (ty>=1)&&decide (ty<=(rows.length:Int))&&decide (aV>=0)&&decide (aV<=yt rows ty))=b1;cases b1 with
     |false=>
      refine fY ?_;exact ny λ_=>ax (ax (ay rfl))
     |true=>
      refine cV @l1 ?_;refine dx (IK s ty) (aP hc (aP (bM _) bS)) ?_;generalize AL rows ty=b2;cases b2 with
      |false=>
       refine fY ?_;exact ny λ_=>ax (ax (ay rfl))
      |true=>
       refine fY ?_
       repeat' ((refine bA (λq=>?_) λq=>?_)<;>(have q':=q)<;>(simp -failIfUnchanged only[lO] at q')<;>(refine fB @iE @l3 @q ?_))
       all_goals exact ny λ_=>ax (ax (ay rfl))
    |true=>
     refine cV @CN ?_;refine fX λb4=>?_;cases b4 with
     |false=>
      refine fG @l1 @l2 ?_;refine dx (GL s ty aV) (aP hc (aP (bM _) (aP (bM _) bS))) ?_;generalize(decide (ty>=1)&&decide (ty<=(rows.length:Int))&&decide (aV>=0)&&decide (aV<=yt rows ty))=b1;cases b1 with
      |false=>
       refine fY ?_;exact ny λ_=>ax (ax (ay rfl))
      |true=>
       refine cV @l1 ?_;refine dx (IK s ty) (aP hc (aP (bM _) bS)) ?_;generalize AL rows ty=b2;cases b2 with
       |false=>
        refine fY ?_;exact ny λ_=>ax (ax (ay rfl))
       |true=>
        refine fY ?_
        repeat' ((refine bA (λq=>?_) λq=>?_)<;>(have q':=q)<;>(simp -failIfUnchanged only[lO] at q')<;>(refine fB @iE @l3 @q ?_))
        all_goals exact ny λ_=>ax (ax (ay rfl))
     |true=>
      refine fG @l1 @l2 ?_;refine dx (GL s ty aV) (aP hc (aP (bM _) (aP (bM _) bS))) ?_;generalize(decide (ty>=1)&&decide (ty<=(rows.length:Int))&&decide (aV>=0)&&decide (aV<=yt rows ty))=b1;cases b1 with
      |false=>
       refine fY ?_;exact ny λ_=>ax (ax (ay rfl))
      |true=>
       refine cV @l1 ?_;refine dx (IK s ty) (aP hc (aP (bM _) bS)) ?_;generalize AL rows ty=b2;cases b2 with
       |false=>
        refine fY ?_;exact ny λ_=>ax (ax (ay rfl))
       |true=>
        refine cV @l3 ?_
        repeat' ((refine bA (λq=>?_) λq=>?_)<;>(have q':=q)<;>(simp -failIfUnchanged only[lO] at q')<;>(refine fB @iE @l3 @q ?_))
        all_goals exact ny λ_=>ax (ax (ay rfl))
 have bQ:(k==3)=false:=beq_eq_false_iff_ne.2 eF;by_cases gZ:k=4
 · subst gZ
   simp -failIfUnchanged -implicitDefEqProofs (disch:=first|assumption|decide|omega) only[gQ,lY,lZ,↓reduceIte,s5,rX,s6,s7,ov,x4,x5,e1,e2,bQ,iE,l3];refine gf (ay2 qG) (aP (bM _) bS) ?_;rintro r ⟨b1,rfl⟩;cases b1 with
   |false=>
    refine fY ?_;exact ny nofun
   |true=>
    refine cV @CN ?_;refine fX λb2=>?_;refine fG @l1 @l2 ?_
    repeat' ((refine bA (λq=>?_) λq=>?_)<;>(have q':=q)<;>(simp -failIfUnchanged only[lO] at q')<;>(refine kf @iE @l1 @l2 @q ?_))
    all_goals exact ny λz=>ax (ax (ax ⟨rfl,by simp_all,by simp_all⟩))
 have cC:(k==4)=false:=beq_eq_false_iff_ne.2 gZ;simp -failIfUnchanged -implicitDefEqProofs (disch:=first|assumption|decide|omega) only[gQ,lY,lZ,↓reduceIte,s5,rX,s6,s7,ov,x4,x5,e1,e2,bQ,cC];exact ny nofun
end
def ajx(l:List de)(r:U):Prop:=(∃e:Int,e≠0/\r=.aK [.v (.pointer none),yX e])\/∃t,tF l=some t/\(∀u∈l,Shape u)/\r=.aK [t.aG,yX 0]
def ak6{hb:List aa}(hbc:DO hb){cs:List U}{l:List de}{v:U}(hv:uQ hb v l)(ho:∀t∈l,t.cA)
  (hA:l.length<=20000->aE G az 22 [.fp cs 0,v] hb λr hp'=>(∃(n:Int) (ok:Bool),r=.aK [ag n,.v (.bool ok)]/\(ok=true->∀u∈l,Shape u))/\hp'=hb):aE G az 8 [.fp cs 0,v] hb λr hp'=>ajx l r/\hp'=hb:=by
 refine Qm (MF.go ?_);have hE:oC .ptr false (.fp cs 0) (.v (.pointer none))=some (.v (.bool false)):=rfl;refine fG @hE @hv.len ?_;refine bA (λh=>?_) λh=>?_;refine cV @h ?_;exact⟨.aK [.v (.pointer none),yX 4],ay ⟨4,aBJ,rfl⟩,[],aBI,dR (aA (aB _) (aA (aB _) bW))⟩;have hl:l.length<=20000:=by simp at h;omega
 refine cV @h ?_;refine aZ (hA hl) ?_;rintro _ hp' ⟨⟨n,ok,rfl,hsh⟩,hh⟩;rw[hh];clear hh;have x0:∀a b,nY 0 (.aK [a,b])=some a:=λ_ _=>rfl;have x1:∀a b,nY 1 (.aK [a,b])=some b:=λ_ _=>rfl;have un:∀b,BO .not (.v (.bool b))=some (.v (.bool !b)):=λb=>rfl;refine gV @x0 @x1 @un ?_;refine bA (λh2=>?_) λh2=>?_;refine cV @h2 ?_;have:ok=false:=aBY
 subst this;exact⟨.aK [.v (.pointer none),yX 1],ay ⟨1,aBJ,rfl⟩,[],aBI,dR (aA (aB _) (aA (aB _) bW))⟩;have hok:ok=true:=aBY
 subst hok;have f1:cm (Bh.take 12) [(0,1,.v (.int .i64 1)),(1,1,.v (.int .i64 1))]=some rJ.cells:=rfl;have f2:cm Bh [(0,12,.agg rJ.cells)]=some (rJ.cells++[.af]):=rfl;have f3:∀hp,wC hp 13 [.agg (rJ.cells++[.af])]=some (.rs hp.length (g_ [(⟨rJ,[]⟩,.af)]++[]).length 13 0 1,hp++[.cells (g_ [(⟨rJ,[]⟩,.af)]++[]) true]):=λhp=>rfl;simp only[Bh,x7,qQ] at f1 f2;refine gV @f1 @f2 @f3 ?_;refine mF (n:=l.length) (λk e hp=>∃i st fV,k=l.length-i/\e=[(1,v),(8,.rs hb.length (g_ st++fV).length 13 0 st.length),(9,.v (.bool true)),(10,ag i)]/\Kj hb l i st fV hp) ⟨0,[(⟨rJ,[]⟩,.af)],[],rfl,rfl,?_⟩ ?_;exact⟨aBI,jV,⟨ay ⟨rfl,rfl⟩,(λit h=>aB1),trivial⟩,rfl,aBI,aBI,⟨⟨⟨aBJ,aBJ⟩,⟨aBJ,aBJ⟩,⟨aBJ,aBJ⟩,⟨aBJ,aBJ⟩,rfl,aBJ⟩,⟨λk hk=>(by cases hk),trivial⟩⟩,by simp[sS,sizes],by simp[rN],ic _⟩;rintro k e hp ⟨i,st,fV,rfl,rfl,hI⟩;refine fG @hv.len @ag.eq_1 ?_;refine bA (λh3=>?_) λh3=>?_;have hi:i<l.length:=aDO
 obtain⟨t,ht⟩:∃t,l[i]?=some t:=⟨l[i],br hi⟩;have Mq:=bG ht;have tT:=ho t Mq;have HU:l.drop i=t::l.drop (i+1):=by rw[F8 hi];congr 1;rw[br hi] at ht;exact mL ht
 obtain⟨q,e1,hq⟩:=hv.tok ht tT;obtain⟨q0,n0,II⟩:=hq.f0;have l1:=II hp hI.base;have l2:=hq.all hp hI.base;obtain⟨⟨f,w⟩,r,rfl⟩:∃a r,st=a::r:=by
  cases st with
  |nil=>exact(hI.ne rfl).elim
  |cons a r=>exact⟨a,r,rfl⟩
 have hA:(g_ r).length=r.length*13:=Jv hI.ok.2.2;have xp:f.h.cA:=hI.ok.1;obtain⟨m,hm⟩:∃m,m=(g_ ((f,w)::r)++fV).length:=⟨_,rfl⟩;rw[<-hm];have hcs:g_ ((f,w)::r)++fV=g_ r++(f.h.cells++[w])++fV:=rfl;have eo:=hI.eo;rw[hcs] at eo hm;have hlen:=hI.len;rw[dm] at hlen;have w1:b7.wrap (((r.length+1:Nat):Int)-1)=((r.length:Nat):Int):=by rw[wrap_i64 aBH aBH];omega
 have a1:bu 13 (.rs hb.length m 13 0 (r.length+1)) (.v (.int .i64 (r.length:Nat)))=some (.rp hb.length m (r.length*13)):=by
  show(if 0<=((r.length:Nat):Int)/\((r.length:Nat):Int)<((r.length+1:Nat):Int) then some (U.rp hb.length m (0+((r.length:Nat):Int).toNat*13)) else none)=_;rw[if_pos ⟨aBH,aBH⟩];simp
 have ls:∀hp,bO (.rs hb.length m 13 0 (r.length+1)) hp=some (.v (.int .i64 ((r.length+1:Nat):Int)),hp):=λhp=>rfl;have w2:b7.wrap ((i:Int)+1)=((i+1:Nat):Int):=by rw[wrap_i64 aBH aBH];rfl
 refine Du @h3 @ls @w1 @a1 @e1 @n0 @l1 ?_;refine bA (λh4=>?_) λh4=>?_;have eL:t.kind=1:=aC4
 have jj:=hI.go;rw[HU,HC aBK,if_pos eL] at jj;refine fG @h4 @ls ?_;refine bA (λh8=>?_) λh8=>?_;refine fG @h8 @un ?_;have h9:40<r.length+1:=by have:=of_decide_eq_true h8;omega
 rw[if_pos (by simpa using h9)] at jj;have hn:tF l=none:=by unfold tF;rw[<-jj]
 exact⟨.aK [.v (.pointer none),yX 12],ay ⟨12,aBJ,rfl⟩,_,(V0 hI.base).choose_spec,dR (aA (aB _) (aA (aB _) bW))⟩;have h9:r.length+1<=40:=by have:=of_decide_eq_false h8;omega
 rw[if_neg aBK] at jj;have g1:=avI (t:=t) (st:=(f,w)::r) hm eo (Jv hI.ok) tT aBK;rw[dm] at g1;have g2:=amH tT;have g3:=aj4 tT;simp only[Bh] at g2;refine aze @h8 @e1 @l2 @g1 @g2 @g3 @w2 ?_;exact⟨l.length-(i+1),aBH,i+1,_,_,rfl,rfl,ak3 hI tT aBK jj hi⟩;refine cV @h4 ?_;refine bA (λh5=>?_) λh5=>?_;have hk2:t.kind=2:=aEp
 have eL:¬t.kind=1:=aC4
 have jj:=hI.go;rw[HU,HC aBK,if_neg eL,if_pos hk2] at jj;refine fG @h5 @ls ?_;refine bA (λh8=>?_) λh8=>?_;refine fG @h8 @un ?_;have h9:r=[]:=lE (by simp at h8;omega);subst h9;have hn:tF l=none:=by unfold tF;rw[<-jj];rfl
 exact⟨.aK [.v (.pointer none),yX 12],ay ⟨12,aBJ,rfl⟩,_,(V0 hI.base).choose_spec,dR (aA (aB _) (aA (aB _) bW))⟩;obtain⟨⟨g,u⟩,r',rfl⟩:∃a r',r=a::r':=by
  cases r with
  |nil=>simp at h8
  |cons a r'=>exact⟨a,r',rfl⟩
 have sy:(g_ r').length=r'.length*13:=Jv hI.ok.2.2.2.2;have apB:g.h.cA:=hI.ok.2.2.1;have hsz:=hI.size;have xl:=hI.kids;simp only[eD,sS,rN,dm] at hsz xl hlen⊢;have sl:=λhp=>agM (k:=hb.length) (m:=m) (n:=13) (len:=r'.length+1+1) (j:=r'.length+1) aBH hp;have w3:b7.wrap (((r'.length+1:Nat):Int)-1)=((r'.length:Nat):Int):=by rw[wrap_i64 aBH aBH];omega
 have a3:=UD (k:=hb.length) (m:=m) (n:=13) (len:=r'.length+1) (j:=r'.length) aBH;have aoG:g_ r'++(g.h.cells++[u])++(f.h.cells++[w]++fV)=g_ ((g,u)::r')++(f.h.cells++[w])++fV:=by simp[g_]
 have cW:=eo;have mY:=hm;rw[<-aoG] at cW mY;have q1:=Jy cW mY apB sy;have ah:=agK eo hm xp hA;have aN:=Jy eo hm xp hA;simp only[dm] at w1 a1 ah aN;refine vS (dV @h8 @w1 @sl @w3) @a3 @agN @Dj @y6 @q1 @ah @aN @true_and ?_;refine dx (abI (h:=f.h) (ks:=f.ks) xp hI.ok.2.1 aBH aBH) (aP (GW f.h) (aP (aeo hI.ks.1) bS)) ?_;obtain⟨w',hp',yI,r1,r2,fX,xJ⟩:=P7 hbc (l:=l) (i':=i+1) (g:=g) (u:=u) (r:=r') (fV:=(f.h.cells++[w])++fV) (k:=.node f.h f.ks) (m:=m)
  (by rw[mY];rfl) (by rw[cW];rfl) hI.base hI.ks.2.2 hI.ok.2.2 aBH ⟨xp.len,(ais _).2 hI.ok.2.1⟩ jj
  (by simp only[sS,vV];omega) aEv hi hl
 simp -failIfUnchanged -implicitDefEqProofs (disch:=first|assumption|decide|omega) only[gQ,lY,lZ,↓reduceIte,s5,rX,s6,s7,nM,oR,q1,PF,r1,r2,a3,y6,Dj,true_and,and_true,w2];exact⟨l.length-(i+1),aBH,i+1,_,_,rfl,by rw[fX];rfl,xJ⟩;refine cV @h5 ?_;refine bA (λh6=>?_) λh6=>?_;have eL:¬t.kind=1:=aC4
 have hk2:¬t.kind=2:=aEp
 have sC:t.kind=3:=by simpa using h6
 have jj:=hI.go;rw[HU,HC aBK,if_neg eL,if_neg hk2,if_pos sC] at jj;have hsz:=hI.size;have xl:=hI.kids;simp only[eD,sS,rN,dm] at hsz xl hlen⊢;have aN:=Jy eo hm xp hA;refine Du @h6 @e1 @l2 @Dj @y6 @aN @true_and ?_;refine dx (atx tT) (aP (GW t) bS) ?_;obtain⟨w',hp',yI,r1,r2,fX,xJ⟩:=P7 hbc (l:=l) (i':=i+1) (g:=f) (u:=w) (r:=r) (fV:=fV) (k:=.leaf t) (m:=m)
  hm eo hI.base hI.ks hI.ok aBH tT.len jj
  (by simp only[sS,vV];omega) aEv hi hl
 simp -failIfUnchanged -implicitDefEqProofs (disch:=first|assumption|decide|omega) only[gQ,lY,lZ,↓reduceIte,s5,rX,s6,s7,nM,oR,aN,PF,r1,r2,y6,Dj,true_and,and_true,w2];exact⟨l.length-(i+1),aBH,i+1,_,_,rfl,by rw[fX];rfl,xJ⟩;refine cV @h6 ?_;refine bA (λh7=>?_) λh7=>?_;have eL:¬t.kind=1:=aC4
 have hk2:¬t.kind=2:=aEp
 have sC:¬t.kind=3:=by simpa using h6
 have iq:t.kind=4:=by simpa using h7
 have jj:=hI.go;rw[HU,HC aBK,if_neg eL,if_neg hk2,if_neg sC,if_pos iq] at jj;have hsz:=hI.size;have xl:=hI.kids;simp only[eD,sS,rN,dm] at hsz xl hlen⊢;generalize hp':(l.drop (i+1)).takeWhile (oI t)=p at jj;have hrun:=awJ hp';have hpl:=awO hp' hi;refine cV @h7 ?_;refine cj (λk e h'=>e=[(1,v),(8,.rs hb.length m 13 0 (r.length+1)),(9,.v (.bool true)),(10,ag ((i+k:Nat):Int)),(11,.rp hb.length m (r.length*13)),(12,ag i)]/\hp=h') p.length ⟨rfl,rfl⟩ ?_ ?_;rintro k e h' hk ⟨rfl,rfl⟩;obtain⟨u,hu,So⟩:=hrun.1 k hk;have Ar:=ho u (bG hu);obtain⟨agh,e2,Cs⟩:=hv.tok hu Ar;obtain⟨avU,Ng,Tu⟩:=Cs.f0;obtain⟨avV,Nh,Tv⟩:=Cs.f4;obtain⟨dI,gF,Td⟩:=hq.f4;have m1:=Tu hp hI.base;have m2:=Tv hp hI.base;have m3:=Td hp hI.base;have m4:=Za tT Ar;have vQ:b7.wrap (((i+k:Nat):Int)+1)=((i+k+1:Nat):Int):=by rw[wrap_i64 aBH aBH];rfl
 simp only[oI,dY,decide_eq_true_eq] at So;have d2:decide (((i+k+1:Nat):Int)<(l.length:Int))=true:=aBK
 have d3:(u.kind==4)=true:=by simp[So.1]
 have d4:decide (u.marks=t.marks)=true:=by simp[So.2]
 refine vS (dV @ag.eq_1 @hv.len @vQ @d2) (dV @d3 @d4 @e1 @e2) @Ng @Nh @gF @m1 @m2 @m3 @m4 ?_;exact⟨rfl,trivial⟩
 · rintro e h' ⟨rfl,rfl⟩
   have vQ:b7.wrap (((i+p.length:Nat):Int)+1)=((i+p.length+1:Nat):Int):=by rw[wrap_i64 aBH aBH];rfl
   rcases cE (i+p.length+1) l.length with hb'|hb'
   obtain⟨u,hu⟩:∃u,l[i+p.length+1]?=some u:=⟨l[i+p.length+1],br hb'⟩;have hst:=hrun.2.1 u hu;have Ar:=ho u (bG hu);obtain⟨agh,e2,Cs⟩:=hv.tok hu Ar;obtain⟨avU,Ng,Tu⟩:=Cs.f0;obtain⟨avV,Nh,Tv⟩:=Cs.f4;obtain⟨dI,gF,Td⟩:=hq.f4;have m1:=Tu hp hI.base;have m2:=Tv hp hI.base;have m3:=Td hp hI.base;have m4:=Za tT Ar;have d2:decide (((i+p.length+1:Nat):Int)<(l.length:Int))=true:=aBK
   by_cases hk:u.kind=4;have d3:(u.kind==4)=true:=by simp[hk]
   have d4:decide (u.marks=t.marks)=false:=by simpa[oI,hk] using hst
   refine aix (dV @ag.eq_1 @hv.len @vQ @d2) (dV @d3 @d4 @e1 @e2) @Ng @Nh @gF @m1 @m2 @m3 @m4 ?_
   rotate_left
   have d3:(u.kind==4)=false:=by simp[hk]
   refine aiw (dV @ag.eq_1 @hv.len @vQ @d2) (dV @d3 @e1 @e2 @Ng) @Nh @gF @m1 @m2 @m3 @m4 ?_
   rotate_left
   have d2:decide (((i+p.length+1:Nat):Int)<(l.length:Int))=false:=aBK
   refine azd @ag.eq_1 @hv.len @vQ @d2 ?_
   all_goals
    have Ov:b7.wrap (((i+p.length+1:Nat):Int)-(i:Int))=((p.length+1:Nat):Int):=by rw[wrap_i64 aBH aBH];omega
    have k1:=aur hp (n:=p.length+1) aBH;obtain⟨sv,k2,hsv⟩:=hv.seg ht (λk u hu=>hrun.2.2 k u hu) hpl ho;have eF:=hsv.len;rw[dm] at eF;refine Vy @vQ @Ov @k1 @k2 @eF ?_;refine cj (λk e h''=>e=[(1,v),(8,.rs hb.length m 13 0 (r.length+1)),(9,.v (.bool true)),(10,ag ((i+p.length:Nat):Int)),(11,.rp hb.length m (r.length*13)),(12,ag i),(13,.sl ((((t::p).take k).map (·.rune)).map oc) (.tok hp.length)),(153,sv),(154,ag ((p.length+1:Nat):Int)),(155,ag k)]/\h''[hp.length]?=some (.tok k 1 21)/\∀j b,hp[j]?=some b->h''[j]?=some b) (p.length+1) ⟨rfl,?_,λj b q=>aM q⟩ ?_ ?_;simp;rintro k e h'' hk ⟨rfl,H_,hj2⟩;obtain⟨u,hu⟩:∃u,(t::p)[k]?=some u:=⟨(t::p)[k],br (by simpa using hk)⟩;have Ar:u.cA:=by
     cases k with
     |zero=>cases hu;exact tT
     |succ k=>exact ho u (bG (hrun.2.2 k u hu))
    obtain⟨agh,e2,Cs⟩:=hsv.tok hu Ar;have m1:=Cs.all h'' (λj b q=>hj2 j b (hI.base j b q));have d2:decide ((k:Int)<((p.length+1:Nat):Int))=true:=aBK
    have g1:=akl Ar h'';have g2:=atU u h'';have htk:((t::p).take k).length=k:=by rw[zu,dm];omega
    have g3:=avK (hp:=h''++[.cells u.cells false]) (id:=hp.length) (xs:=((t::p).take k).map (·.rune)) (x:=u.rune) (by rw[b_,htk];exact aM H_) (by rw[b_,htk];omega);have hts:((t::p).take k).map (·.rune)++[u.rune]=((t::p).take (k+1)).map (·.rune):=by rw[Gc,hu];simp
    rw[hts,b_,htk] at g3;have Ow:b7.wrap ((k:Int)+1)=((k+1:Nat):Int):=by rw[wrap_i64 aBH aBH];rfl
    simp only[z12,Bh,x7,qQ] at g1;refine Bf @ag.eq_1 @d2 @e2 @m1 @g1 @g2 @g3 @Ow ?_;have hlt:=(bE.1 H_).1;refine⟨trivial,by rw[aR aC0],λj b q=>?_⟩;rw[av (by intro e;subst e;rw[hG (bl _)] at q;cases q)];exact aM (hj2 j b q);rintro e h'' ⟨rfl,H_,hj2⟩;have d2:decide (((p.length+1:Nat):Int)<((p.length+1:Nat):Int))=false:=aBI
    have Cx:(t::p).take (p.length+1)=t::p:=kG aBI;rw[Cx];have tU:=hj2 hb.length _ eo;have aaE:Ext hb h'':=λj b q=>hj2 j b (hI.base j b q);have l3:=hq.all h'' aaE;have aN:=Jy tU hm xp hA;refine aix @ag.eq_1 @d2 @Dj @y6 @aN @e1 @l3 @nM.eq_1 @true_and ?_;refine dx (atA tT ((t::p).map (·.rune))) (aP (GW t) (aP (jZ λx hx c hc=>by
     obtain⟨a,_,rfl⟩:=cO.1 hx;have e:c=oc a:=by simpa[oc,U.cells] using hc
     subst e;exact bM _) bS)) ?_
    have apg:tZ h'' ((f,w)::r):=MM (id:=hp.length) (λj b _ q=>hj2 j b q) hI.ks λit hit ys e=>by
     have:=SS hI.ks it hit ys _ e;omega
    obtain⟨w',hp',yI,r1,r2,fX,xJ⟩:=P7 hbc (l:=l) (i':=i+p.length+1) (g:=f) (u:=w) (r:=r) (fV:=fV) (k:=.text t.bare ((t::p).map (·.rune))) (m:=m)
     hm tU aaE apg hI.ok aBH tT.len (by rw[vZ] at jj;rw[show i+p.length+1=i+1+p.length by omega];exact jj)
     (by simp only[sS,vV,b_,dm];omega) aEv aBH hl
    simp -failIfUnchanged -implicitDefEqProofs (disch:=first|assumption|decide|omega) only[gQ,lY,lZ,↓reduceIte,s5,rX,s6,s7,nM,oR,aN,PF,r1,r2,y6,Dj,true_and,and_true,vQ];exact⟨l.length-(i+p.length+1),aBH,i+p.length+1,_,_,rfl,by rw[fX];rfl,xJ⟩
 have eL:¬t.kind=1:=aC4
 have hk2:¬t.kind=2:=aEp
 have sC:¬t.kind=3:=by simpa using h6
 have iq:¬t.kind=4:=by simpa using h7
 have jj:=hI.go;rw[HU,HC aBK,if_neg eL,if_neg hk2,if_neg sC,if_neg iq] at jj;refine cV @h7 ?_;exact⟨l.length-(i+1),aBH,i+1,(f,w)::r,fV,rfl,by rw[hm];rfl,⟨hI.eo,hI.base,hI.ks,jj,hI.ne,hI.len,hI.ok,by have:=hI.size;omega,by have:=hI.kids;omega,hi⟩⟩;have hi:i=l.length:=by have:=hI.aqq;have:=of_decide_eq_false h3;omega
 subst hi;have jj:=hI.go;rw[List.drop_length] at jj;have aaS:jg l.length l [⟨rJ,[]⟩]=some (st.map (·.1)):=by
  rw[<-jj];cases l.length<;>rfl
 refine gV @h3 @un @agN ?_;refine bA (λh4=>?_) λh4=>?_;refine cV @h4 ?_;have hn:tF l=none:=by
  unfold tF;rw[aaS]
  match st,hI.ne,h4 with
  |[a],_,h4=>simp at h4
  |a::b::r,_,_=>rfl
 exact⟨.aK [.v (.pointer none),yX 12],ay ⟨12,aBJ,rfl⟩,_,(V0 hI.base).choose_spec,dR (aA (aB _) (aA (aB _) bW))⟩;obtain⟨f,w,rfl⟩:∃f w,st=[(f,w)]:=by
  match st,hI.ne,h4 with
  |[(f,w)],_,_=>exact⟨f,w,rfl⟩
  |a::b::r,_,h4=>simp at h4;omega
 have hn:tF l=some (.node f.h f.ks):=by unfold tF;rw[aaS];rfl
 have eo:=hI.eo;have xp:f.h.cA:=hI.ok.1;have hsz:=hI.size;have xl:=hI.kids;simp only[eD,kX,sS,rN,dm,fQ] at hsz xl;have hcs:g_ [(f,w)]++fV=[]++(f.h.cells++[w])++fV:=rfl;rw[hcs] at eo;have ah:=agK (n:=0) eo rfl xp rfl;have aN:=Jy (n:=0) eo rfl xp rfl;have a0:=UD (k:=hb.length) (m:=([]++(f.h.cells++[w])++fV).length) (n:=13) (len:=1) (j:=0) aBH;simp only[Nat.zero_mul,e5,Int.ofNat_zero] at ah aN a0;refine aiw @h4 @hcs @a0 @ah @aN @y6 @dm.{0} @fQ.{0} ?_;refine dx (abI (h:=f.h) (ks:=f.ks) xp hI.ok.2.1 aBH aBH) (aP (GW f.h) (aP (aeo hI.ks.1) bS)) ?_;refine fY ?_;exact⟨_,ax ⟨_,hn,hsh rfl,rfl⟩,_,(V0 hI.base).choose_spec,dR (aA (Hx _) (aA (aB _) bW))⟩
end
def aff{u:Nat}(h:u<18446744073709551616):Lib.nDigits u<=20:=by
 rcases x8 u with rfl|hu
 unfold Lib.nDigits;simp;have:=Lib.numDigits_eq u hu h;split at this<;>omega
def aqQ(n:Int)(h0: -9223372036854775808<=n)(h1:n<=9223372036854775807):(Lib.itoa n).length<=30:=by
 by_cases hneg:n<0;obtain⟨u,rfl⟩:∃u:Nat,n= -(u:Int):=⟨n.natAbs,aBH⟩;rw[Lib.itoa_neg u aBH,dm,azI];have:=aff (u:=u) aBH;omega;obtain⟨u,rfl⟩:∃u:Nat,n=u:=⟨n.toNat,aBH⟩;rw[Lib.itoa_nonneg,azI];have:=aff (u:=u) aBH;omega
def avx{G:Cells}(bz:eE G){w:World}(hg:Gk G w)(ht:BJ w):Lib.TabIs az w "internal/strconv.uint64pow10" .u64 DE:=by
 obtain⟨cs,t,f,hw,hs⟩:=ht;have m17:=Tryz.aeC.m17;have e:Tryz.aeD.g 17=Oj:=rfl;rw[e] at m17;unfold Lib.TabIs World.var?;rw[m17];show(match w.heap[Oj]? with|some (.cells cs _ _)=>some cs|_=>none)=_
 rw[hw];show some cs=_;congr 1;apply Array.ext;simp[hs,Lib.pow10Tab_length];intro j h1 h2;have hj:j<DE.length:=aBY
 have hc:=hg 6 j _ (bz.pow j hj);have EU:w.heap[6]?=some (.cells cs t f):=hw;simp only[DG,EU] at hc;have h3:cs[j]?=some (.int .u64 (DE.getD j 0)):=by
  simpa using hc
 rw[sX h1] at h3;have h4:=mL h3;rw[h4];simp[List.getD,br hj]
def aqP{G:Cells}(bz:eE G):yf G:=λn h0 h1=>⟨Lib.itoa n,aqQ n h0 h1,AV ⟨_,Tryz.func186,aBL,aBL⟩ λC w args' hg hc hr=>by
 have e:=Dd (xs:=[.int .i64 n]) hr;subst e;exact(Any.strconv_Itoa Tryz.aeC n h0 h1 w (avx bz hg.1 hg.2)).mono λe w' ⟨h1,k,os,hw⟩=>⟨_,h1,by rw[hw];exact akU (bl _),.v rfl⟩⟩
section
variable{v:U}{hp:List aa}{l:List de}
section
variable{G:Cells}{S au mv:U}{rows marks:List (List U)}{l:List de}{hb:List aa}
def awq(s:jF S au mv rows marks){t:de}(ho:t.cA):
  aE G az 44 [t.aG,.mp hb.length 0] (hb++[.cells [S] false]) λr hp'=>(∃b:Bool,r=.v (.bool b)/\(b=false->Shape t))/\hp'=hb++[.cells [S] false]:=by
 refine Qm (abX.go ?_);have l0:aq (hb++[.cells [S] false]++[aj t.aG.cells false]) true 12 (.mp (hb.length+1) 0)=some t.aG:=by
  have:(hb++[.cells [S] false]++[aj t.aG.cells false])[hb.length+1]?=some (.cells t.cells false):=by simp[l5,gm]
  simp only[aq,this];exact IP ho
 have l1:aq (hb++[.cells [S] false]++[aj t.aG.cells false]) false 1 (.mp hb.length 0)=some S:=by
  have:(hb++[.cells [S] false]++[aj t.aG.cells false])[hb.length]?=some (.cells [S] false):=aBI
  simp only[aq,this];rfl
 refine xR @cB.{0} ?_;refine gf (awr s ho) (aP s.clean (aP (GW t) bS)) ?_;rintro r ⟨b,rfl,gD⟩;refine wy ?_;exact⟨_,⟨_,rfl,λz=>gD aCa⟩,[_],rfl,aB _⟩
def aqw(s:jF S au mv rows marks)(hv:uQ hb v l)(hn:l.length<=4611686018427387904)(ho:∀t∈l,t.cA):
  aE G az 43 [v,.fn (.func 44) [] [.mp hb.length 0]] (hb++[.cells [S] false]) λr hp'=>(∃n:Int,r=.v (.int .i64 n)/\(n<0->∀u∈l,Shape u))/\hp'=hb++[.cells [S] false]:=by
 refine abW.go ?_;refine xR @hv.len ?_;refine cj (λi e hp=>e=[(0,v),(1,.fn (.func 44) [] [.mp hb.length 0]),(7,ag l.length),(8,ag i)]/\hp=hb++[.cells [S] false]/\∀u∈l.take i,Shape u) l.length ⟨rfl,rfl,aBI⟩ ?_ ?_;rintro i e hp hi ⟨rfl,rfl,hI⟩;obtain⟨t,ht⟩:∃t,l[i]?=some t:=⟨l[i],br hi⟩;have Mq:=bG ht;obtain⟨q,e1,hq⟩:=hv.tok ht (ho t Mq);have l1:=hq.all _ (jV (l:=[.cells [S] false]));refine wy ?_;refine aZ (awq s (ho t Mq)) ?_;rintro r hp' ⟨⟨b,rfl,gD⟩,rfl⟩;cases b with
 |true=>
  refine fY ?_;exact⟨⟨_,rfl,λz=>aBH⟩,trivial⟩
 |false=>
  refine fY ?_;refine⟨rfl,trivial,?_⟩;rw[Gc,ht];simpa[or_imp,forall_and] using⟨hI,gD rfl⟩
 rintro e hp ⟨rfl,rfl,hI⟩;rw[rV] at hI;refine cV @ag.eq_1 ?_;exact⟨⟨_,rfl,λ_=>hI⟩,trivial⟩
def akj(s:jF S au mv rows marks)(hv:uQ hb v l)(hn:l.length<=4611686018427387904)(ho:∀t∈l,t.cA):
  aE G az 22 [S,v] hb λr hp'=>(∃(n:Int) (ok:Bool),r=.aK [ag n,.v (.bool ok)]/\(ok=true->∀u∈l,Shape u))/\hp'=hb:=by
 have dy:S.cells=[S]:=by rw[s.eq];rfl
 refine Qm (adK.go ?_);refine wy ?_;refine aZ (aqw s hv hn ho) ?_;rintro r hp' ⟨⟨n,rfl,hn2⟩,rfl⟩;have m1:nZ true [.v (.int .i64 n),.v (.int .i64 0)]=some (.v (.int .i64 (if(0:Int)>n then 0 else n))):=rfl;refine wy ?_;exact⟨_,⟨_,_,rfl,λz=>hn2 aCa⟩,_,rfl,dR (aA (aB _) (aA (aB _) bW))⟩
def jF.fz(s:jF S au mv rows marks)(hp:List aa):aX hp S S:=by
 rw[s.eq];refine aX.fp (aA ?_ (aA ?_ bW))
 rcases s.n with h|⟨h,_⟩
 rw[h];exact fj (gh λx hx=>iO ((s.rc x hx).Hy hp));rw[h];exact cS
 rcases s.m with h|⟨h,_⟩
 rw[h];exact fj (gh λx hx=>(s.eM x hx).fz hp);rw[h];exact cS
end
def Kt.fz{X:U}(h:Kt X)(hp:List aa):aX hp X X:=by
 obtain⟨au,mv,pv,bC,lv,nodes,marks,parts,texts,jm,rfl,D,p1,p2,p3,t1,t2,t3,l1,l2,l3⟩:=h.ex;obtain⟨d1,d2⟩:=D.Z0 hp;have slc:∀{v:U} {xs:List U},bL v xs->dD hp xs xs->aX hp v v:=λ{v xs} q hx=>by
  rcases q with rfl|⟨rfl,_⟩
  exact fj hx;exact cS
 refine iO (aA d1 (aA d2 (aA (slc p1 (dD.each λx hx=>(p3 x hx).fz hp)) (aA (slc t1 (dD.each λx hx=>by obtain⟨b,rfl⟩:=t3 x hx;exact aB _)) (aA (slc l1 (gh λx hx=>?_)) bW)))));obtain⟨nm,iv,l,rfl,hiv,_⟩:=l2 x hx;refine iO (aA (aB _) (aA ?_ bW))
 rcases hiv with rfl|⟨rfl,_⟩
 exact fj (gh λa _=>aB _);exact cS
def Ws(r:U):Prop:=∃(S a b c d e:U) (ok:Bool),r=.aK [S,.agg [a,b,c,d,e],.v (.bool ok)]/\[a,b,c,d,e].all bn=true/\(ok=true->Gq S/\Kt (.agg [a,b,c,d,e]))
section
variable{G:Cells}
def X0:∃k aQ,b9 hp k (.aK [.v (.pointer none),.agg [.af,.af,.af,.af,.af],.v (.bool false)])=some aQ/\Ws aQ:=by
 obtain⟨k,hk⟩:=(dR (aA (aB (.pointer none)) (aA (iO (aA cS (aA cS (aA cS (aA cS (aA cS bW)))))) (aA (aB (.bool false)) bW))):aX hp _ _).done;exact⟨k,_,hk,_,_,_,_,_,_,false,rfl,rfl,aBI⟩
def ak5(bz:eE G)(w:List UInt8)(hw:w.length<=9223372036854775807):cx G az 7 [ai w] Ws:=by
 refine cR (SI.go ?_);have b0:∀(x:List aa) (cs:List U),cs.all bn=true->cs.length=5->aF ([aj [.af,.af,.af,.af,.af] false]++x) 5 (.mp 0 0) (.agg cs)=some ([aj cs false]++x):=λx cs h1 h2=>by
  rw[pn (n:=5) (cs0:=[.af,.af,.af,.af,.af]) rfl rfl h2 h1];rfl
 have l0:∀(x:List aa) (cs:List U),cs.length=5->aq ([aj cs false]++x) true 5 (.mp 0 0)=some (.agg cs):=λx cs h2=>tD rfl h2;have akI:=b0 [] [.af,.af,.af,.af,.af] rfl rfl;have as0:=l0 [] [.af,.af,.af,.af,.af] rfl;rw[e4] at akI as0;refine wy ?_;refine bA (λq=>?_) λq=>?_;refine wy ?_;exact X0;have hs:w.length<=3000:=aBQ
 refine wy ?_;refine gf (auM w aBH) (aP (q9 _) bS) ?_;rintro _ ⟨a,b,c,d,e,n,rfl,ho,hI,hB⟩;have st:aF ([aj [.af,.af,.af,.af,.af] false]++[aj [.af,.af,.af,.af,.af] false]) 5 (.mp 1 0) (.agg [a,b,c,d,e])=some [aj [.af,.af,.af,.af,.af] false,aj [a,b,c,d,e] false]:=by
  rw[pn (n:=5) (cs0:=[.af,.af,.af,.af,.af]) rfl rfl rfl ho];rfl
 have la:aq [aj [.af,.af,.af,.af,.af] false,aj [a,b,c,d,e] false] true 5 (.mp 1 0)=some (.agg [a,b,c,d,e]):=rfl;have b2:=b0 [aj [a,b,c,d,e] false] [a,b,c,d,e] ho rfl;have l2:=l0 [aj [a,b,c,d,e] false] [a,b,c,d,e] rfl;simp only[jW,eR] at st b2 l2;refine wy ?_;refine bA (λah=>?_) λah=>?_;have hn:n≠0:=aB8
 have hz:=hB hn;refine gV @ah @la @b2 ?_;rw[hz];exact X0;have hn:n=0:=aB8
 refine wy ?_;refine gf (auI bz (aqP bz) w aBH) (aP (q9 _) bS) ?_;rintro _ ⟨S,e2,rfl,hS⟩;have hx:=hI hn;have hf:=hx.fz [aj [a,b,c,d,e] false,aj [a,b,c,d,e] false];unfold ag;refine wy ?_
 rcases hS with⟨rfl,hS⟩|⟨he,rfl⟩
 obtain⟨au,mv,rows,marks,s⟩:=hS.c;obtain⟨k,hk⟩:=(dR (aA (s.fz _) (aA hf (aA (aB (.bool true)) bW))):aX [aj [a,b,c,d,e] false,aj [a,b,c,d,e] false] _ _).done;exact⟨k,_,hk,S,a,b,c,d,e,true,rfl,ho,λ_=>⟨hS,hx⟩⟩;have hb:((e2:Int)==0)=false:=beq_eq_false_iff_ne.2 he;rw[hb];obtain⟨k,hk⟩:=(dR (aA (aB (.pointer none)) (aA hf (aA (aB (.bool false)) bW))):aX [aj [a,b,c,d,e] false,aj [a,b,c,d,e] false] _ _).done;exact⟨k,_,hk,_,a,b,c,d,e,false,rfl,ho,aBI⟩
def W1(l:List de)(r:U):Prop:=∃(S n:U) (ok:Bool),r=.aK [S,n,.v (.bool ok)]/\(ok=true->Gq S/\l.length<=150/\∃t,tF l=some t/\(∀u∈l,Shape u)/\n=t.aG)
def aid:∃k aQ,b9 hp k (.aK [.v (.pointer none),.v (.pointer none),.v (.bool false)])=some aQ/\W1 l aQ:=by
 obtain⟨k,hk⟩:=(dR (aA (aB (.pointer none)) (aA (aB (.pointer none)) (aA (aB (.bool false)) bW))):aX hp _ _).done;exact⟨k,_,hk,_,_,false,rfl,aBI⟩
def ayG(bz:eE G)(w:List UInt8)(hw:w.length<=9223372036854775807)(hv:bL v (l.map l5))(ho:∀t∈l,t.cA):cx G az 4 [ai w,v] (W1 l):=by
 refine cR (asw.go ?_);have ln:=hv.bO;rw[b_] at ln;refine wy ?_;refine gf (ak5 bz w hw) (aP (q9 _) bS) ?_;rintro _ ⟨S,a,b,c,d,e,ok,rfl,h1,hok⟩;have st:aF [aj [.af,.af,.af,.af,.af] false] 5 (.mp 0 0) (.agg [a,b,c,d,e])=some [aj [a,b,c,d,e] false]:=by
  rw[pn (n:=5) (cs0:=[.af,.af,.af,.af,.af]) rfl rfl rfl h1];rfl
 refine wy ?_;cases ok with
 |false=>
  refine wy ?_;exact aid
 |true=>
  obtain⟨hS,hX⟩:=hok rfl;obtain⟨au,mv,rows,marks,s⟩:=hS.c;refine wy ?_;refine bA (λq=>?_) λq=>?_;refine wy ?_;exact aid;have aa4:l.length<=150:=aBQ
  have hr:uQ [aj [a,b,c,d,e] false] v l:=ay hv;have hb:DO [aj [a,b,c,d,e] false]:=λb hb=>⟨_,_,cr.1 hb⟩;refine wy ?_;have hA:=akj (G:=G) s hr aBH ho;have he:=s.eq;rw[he] at hA⊢;refine aZ (ak6 hb hr ho λ_=>hA) ?_;rintro r hp' ⟨hB,rfl⟩;have Q9:=s.fz [aj [a,b,c,d,e] false];rw[he] at Q9
  rcases hB with⟨e2,xe,rfl⟩|⟨t,ht,hsh,rfl⟩
  have gD:((e2:Int)==0)=false:=beq_eq_false_iff_ne.2 xe;unfold yX;refine wy ?_;obtain⟨k,hk⟩:=(dR (aA Q9 (aA (aB (.pointer none)) (aA (aB (.bool false)) bW))):aX [aj [a,b,c,d,e] false] _ _).done;exact⟨k,_,hk,_,_,false,rfl,aBI⟩;obtain⟨cs,hcs⟩:=t.KQ;have Z3:=Hx (hp:=[aj [a,b,c,d,e] false]) t;unfold yX;refine wy ?_;rw[hcs] at Z3;obtain⟨k,hk⟩:=(dR (aA Q9 (aA Z3 (aA (aB (.bool true)) bW))):aX [aj [a,b,c,d,e] false] _ _).done;refine⟨k,_,hk,_,_,true,rfl,λ_=>⟨?_,aa4,t,ht,hsh,hcs.symm⟩⟩;rw[<-he];exact hS
end
end
section
variable{k t:T}
def kV:T->de
 |.node h _=>h
 |.leaf h=>h
 |.text h _=>h
def hD:T->List T
 |.node _ ks=>ks
 |_=>[]
mutual
def jo:T->Prop
 |.node h ks=>h.cA/\h.kind=1/\qt ks
 |.leaf h=>h.cA/\h.kind=3
 |.text h r=>h.cA/\h.kind=4/\r≠[]
def qt:List T->Prop
 |[]=>True
 |k::r=>jo k/\qt r
end
def aai:∀ks:List T,qt ks↔∀k∈ks,jo k
 |[]=>by simp[qt]
 |k::r=>by simp[qt,aai r]
def FR(h:jo t):(kV t).cA:=by
 cases t with
 |node h ks=>exact h.1
 |leaf h=>exact h.1
 |text h r=>exact h.1
def ayw(h:jo t)(hk:k∈hD t):jo k:=by
 cases t with
 |node hd ks=>exact(aai ks).1 h.2.2 k hk
 |leaf h=>cases hk
 |text h r=>cases hk
def axw(hk:k∈hD t):sizes (hD t)+2<=t.size:=by
 cases t with
 |node h ks=>show sizes ks+2<=2+sizes ks;omega
 |leaf h=>cases hk
 |text h r=>cases hk
def FT(t:T)(ho:(kV t).cA):∃cs,t.aG=.fp cs 0/\(∀hp,aq hp false 1 (.fp cs 0)=some (.v (.int .i64 (kV t).kind)))/\(∀hp,aq hp false 1 (.fp cs 1)=some (.v (.int .i64 (kV t).type)))/\(∀hp,aq hp true 8 (.fp cs 4)=some (.agg ((kV t).marks.map ep)))/\
  (∀hp,aq hp false 1 (.fp cs 13)=some (gR (dh (hD t))))/\(∀hp,aq hp false 1 (.fp cs 14)=some (.v (.int .i64 (t.size:Int)))):=by
 have key:∀(h:de) (x y:U) (n m:Int),h.cA->(∀hp,aq hp false 1 (.fp (h.cells++[x,y,ag n,ag m]) 0)=some (.v (.int .i64 h.kind)))/\(∀hp,aq hp false 1 (.fp (h.cells++[x,y,ag n,ag m]) 1)=some (.v (.int .i64 h.type)))/\(∀hp,aq hp true 8 (.fp (h.cells++[x,y,ag n,ag m]) 4)=some (.agg (h.marks.map ep)))/\
   (∀hp,aq hp false 1 (.fp (h.cells++[x,y,ag n,ag m]) 13)=some y)/\(∀hp,aq hp false 1 (.fp (h.cells++[x,y,ag n,ag m]) 14)=some (.v (.int .i64 n))):=λh x y n m ho=>by
  obtain⟨k,ty,aV,qG,ms⟩:=h;have h8:=ho.len;dsimp only at h8
  match ms,h8 with
  |[m0,m1,m2,m3,m4,m5,m6,m7],_=>exact⟨λ_=>rfl,λ_=>rfl,λ_=>rfl,λ_=>rfl,λ_=>rfl⟩
 cases t with
 |node h ks=>exact⟨_,rfl,key h .af (gR (dh ks)) _ _ ho⟩
 |leaf h=>exact⟨_,rfl,key h .af .af _ _ ho⟩
 |text h r=>exact⟨_,rfl,key h (.sl (r.map oc) .no) .af _ _ ho⟩
def SR(l:List U):bL (gR l) l:=by
 cases l with
 |nil=>exact ax ⟨rfl,rfl⟩
 |cons a r=>exact ay rfl
section
variable{G:Cells}{t:T}
def type36(ho:(kV t).cA):ck G az 18 [t.aG] (.v (.int .i64 (kV t).type)):=by
 obtain⟨cs,e,_,l1,_⟩:=FT t ho;rw[e];refine ef (adS.go ?_);refine wy ?_;exact(aB _).done
def atw(ho:(kV t).cA):ck G az 16 [t.aG] (.v (.bool ((kV t).kind !=1))):=by
 obtain⟨cs,e,l0,_⟩:=FT t ho;rw[e];refine ef (asu.go ?_);refine wy ?_;exact(aB _).done
def aui(ho:(kV t).cA):ck G az 20 [t.aG] (.agg ((kV t).marks.map ep)):=by
 obtain⟨cs,e,_,_,l4,_⟩:=FT t ho;rw[e];refine ef (asr.go ?_);have h8:=ho.len;have TG:((kV t).marks.map ep).all bn=true:=by
  rw[c_];intro x hx;obtain⟨n,_,rfl⟩:=cO.1 hx;rfl
 have st:=pn (n:=8) (g:=[aj [.v (.int .u16 0),.v (.int .u16 0),.v (.int .u16 0),.v (.int .u16 0),.v (.int .u16 0),.v (.int .u16 0),.v (.int .u16 0),.v (.int .u16 0)] false]) (k:=0) (cs0:=[.v (.int .u16 0),.v (.int .u16 0),.v (.int .u16 0),.v (.int .u16 0),.v (.int .u16 0),.v (.int .u16 0),.v (.int .u16 0),.v (.int .u16 0)]) rfl rfl (by simpa using h8) TG;have la:=tD (n:=8) (g:=[aj [.v (.int .u16 0),.v (.int .u16 0),.v (.int .u16 0),.v (.int .u16 0),.v (.int .u16 0),.v (.int .u16 0),.v (.int .u16 0),.v (.int .u16 0)] false].set 0 (.cells ((kV t).marks.map ep) false)) (k:=0) (cs:=(kV t).marks.map ep) rfl (by simpa using h8);refine ni ?_;exact(iO (gh λa _=>aB _)).done
def NW(ho:(kV t).cA):ck G az 19 [t.aG] (.v (.int .i64 (t.size:Int))):=by
 obtain⟨cs,e,_,_,_,_,aBc⟩:=FT t ho;rw[e];refine ef (MG.go ?_);refine wy ?_;exact(aB _).done
def asQ(ho:(kV t).cA)(hl:(hD t).length<=1000000):ck G az 67 [t.aG] (.v (.int .i64 ((hD t).length:Int))):=by
 obtain⟨cs,e,_,_,_,as1,_⟩:=FT t ho;rw[e];have ln:=(SR (dh (hD t))).bO;rw[GN] at ln;refine ef (adZ.go ?_);refine wy ?_;exact(aB _).done
def asO(ho:(kV t).cA)(hl:(hD t).length<=1000000){i:Nat}(hk:(hD t)[i]?=some k):ck G az 68 [t.aG,.v (.int .i64 (i:Int))] k.aG:=by
 obtain⟨cs,e,_,_,_,as1,_⟩:=FT t ho;rw[e];have hi:=(bE.1 hk).1;have ln:=(SR (dh (hD t))).bO;rw[GN] at ln;have bK:bu 1 (gR (dh (hD t))) (.v (.int .i64 (i:Int)))=some (.fp [k.aG] 0):=by
  have h1:(dh (hD t))[i]?=some k.aG:=by rw[Eb,eC,hk];rfl
  have:=(SR (dh (hD t))).bK (n:=1) (k:=.i64) h1 (by rw[T.Ea];rfl);rw[T.Ea] at this;exact this
 have d1:decide ((i:Int)<0)=false:=decide_eq_false aBH;refine ef (ad0.go ?_);refine wy ?_;exact(Hx k).done
end
mutual
def mE(fr to:Int):T->Int->List (Int×T)
 |.node _ ks,aV=>oW fr to ks (aV)
 |.leaf _,_=>[]
 |.text _ _,_=>[]
def oW(fr to:Int):List T->Int->List (Int×T)
 |[],_=>[]
 |k::r,aV=>if to<=aV then [] else(if fr<aV+(k.size:Int) then(aV,k)::mE fr to k (aV+1) else [])++oW fr to r (aV+(k.size:Int))
end
def ay3(fr to:Int)(t:T)(a:Int):mE fr to t a=oW fr to (hD t) a:=by
 cases t with
 |node h ks=>rw[mE];rfl
 |leaf h=>rw[mE];simp[hD,oW]
 |text h r=>rw[mE];simp[hD,oW]
section
variable{G:Cells}{fr to:Int}{y:U}{Inv:List (Int×T)->List aa->Prop}{N:Nat}
def ay7(hy:∀done (x:Int×T) g,done.length<N->Inv done g->jo x.2->(0<=x.1/\x.1+(x.2.size:Int)<=100000000)->gP G az y [.v (.int .i64 x.1),x.2.aG] g λr g'=>r=.v (.bool true)/\Inv (done++[x]) g')(aAK:True):
  ∀(n:Nat) (t:T),t.size<n->jo t->(∀u:T,jo u->u.size<=t.size->(hD u).length<=1000000)->∀(aV:Int),0<=aV->aV+t.size<=100000000->∀(done:List (Int×T)) hp,done.length+(mE fr to t aV).length<=N->Inv done hp->
   aE G az 36 [t.aG,.v (.int .i64 aV),.v (.int .i64 fr),.v (.int .i64 to),y] hp λr h'=>r=.v (.bool true)/\Inv (done++mE fr to t aV) h':=by
 intro n
 induction n with
 |zero=>intro t h;omega
 |succ n ih=>
  intro t hn hg hK aV h0 h1 done hp hN hI;have ho:=FR hg;have cK:=hK t hg (bl _);rw[ay3] at hN⊢;refine ab1.go ?_;refine wy ?_;refine dx (asQ ho cK) (aP (u6 t) bS) ?_;refine wy ?_;refine cj (λi e g=>∃(a:Int) (d:List (Int×T)),e=[(0,t.aG),(1,.v (.int .i64 a)),(2,.v (.int .i64 fr)),(3,.v (.int .i64 to)),(4,y),(14,ag ((hD t).length:Int)),(15,ag i)]/\Inv d g/\a=aV+(sizes ((hD t).take i):Int)/\d++oW fr to ((hD t).drop i) a=done++oW fr to (hD t) aV) (hD t).length ⟨aV,done,rfl,hI,by simp[sizes],aBI⟩ ?_ ?_;rintro i e g hi ⟨a,d,rfl,hI,ha,hv⟩;obtain⟨k,hk⟩:∃k,(hD t)[i]?=some k:=⟨(hD t)[i],br hi⟩;have hkm:=bG hk;have sE:=ayw hg hkm;have xd:(hD t).drop i=k::(hD t).drop (i+1):=by
   rw[F8 hi];rw[br hi] at hk;rw[mL hk]
  have hst:=ahi hk;have tW:=UR (hD t) (i+1);have aA1:=axw hkm;rw[xd,oW] at hv;have hlen:=congrArg zq hv;rw[cB,cB] at hlen;have w1:b7.wrap ((i:Int)+1)=((i+1:Nat):Int):=jA aBH;have w2:b7.wrap (a+(k.size:Int))=a+(k.size:Int):=wrap_i64 aBH aBH;have w3:b7.wrap (a+1)=a+1:=wrap_i64 aBH aBH;refine cV @ag.eq_1 ?_;refine dx (asO ho cK hk) (aP (u6 t) (aP (bM _) bS)) ?_;refine fY ?_;refine bA (λq=>?_) λq=>?_;have q':to<=a:=aBN
  rw[if_pos q',e4] at hv;refine cV @q ?_;rw[<-hv];exact⟨trivial,hI⟩;have q':¬to<=a:=aBN
  rw[if_neg q'] at hv hlen;refine cV @q ?_;refine dx (NW (FR sE)) (aP (u6 k) bS) ?_;refine cV @w2 ?_;refine bA (λah=>?_) λah=>?_;have NF:fr<a+(k.size:Int):=aB8
  rw[if_pos NF,cB,dm] at hlen;rw[if_pos NF] at hv;refine cV @ah ?_;refine rT (hy d (a,k) g aBH hI sE (show 0<=a/\a+(k.size:Int)<=100000000 by omega)) ?_;rintro r g2 ⟨rfl,ru⟩;refine cV @w3 ?_;refine aZ (ih k aBH sE (λu aoY hu=>hK u aoY aBH) (a+1) aBH aBH _ _ (by rw[cB,nq];omega) ru) ?_;rintro r g3 ⟨rfl,Ew⟩;refine fY ?_;refine dx (NW (FR sE)) (aP (u6 k) bS) ?_;refine fG @w2 @w1 ?_;exact⟨_,_,rfl,Ew,by rw[hst];omega,by rw[<-hv];simp only[cq,jW,eR]⟩;have NF:¬fr<a+(k.size:Int):=aB8
  rw[if_neg NF,eR] at hv;refine cV @ah ?_;refine dx (NW (FR sE)) (aP (u6 k) bS) ?_;refine fG @w2 @w1 ?_;exact⟨_,_,rfl,hI,by rw[hst];omega,hv⟩;rintro e g ⟨a,d,rfl,hI,ha,hv⟩;rw[List.drop_length,oW,e4] at hv;refine cV @ag.eq_1 ?_;rw[<-hv];exact⟨trivial,hI⟩
def k8(fr to:Int)(t:T):List (Int×T):=if fr<to then mE fr to t 0 else []
def akX(hy:∀done (x:Int×T) g,done.length<N->Inv done g->jo x.2->(0<=x.1/\x.1+(x.2.size:Int)<=100000000)->gP G az y [.v (.int .i64 x.1),x.2.aG] g λr g'=>r=.v (.bool true)/\Inv (done++[x]) g')(hg:jo t)(hK:∀u:T,jo u->u.size<=t.size->(hD u).length<=1000000)(hs:t.size<=100000000){aej kt an:Nat}{hp:List aa}(h1:hp[aej]?=some (.cells [.v (.int .i64 fr)] false))(h2:hp[kt]?=some (.cells [.v (.int .i64 to)] false))(h3:hp[an]?=some (.cells [t.aG] false))(hN:(k8 fr to t).length<=N)(hI:Inv [] hp):
  aE G az 35 [y,.mp aej 0,.mp kt 0,.mp an 0] hp λr h'=>r=.aK []/\Inv (k8 fr to t) h':=by
 refine ab0.go ?_;unfold k8;refine wy ?_;refine bA (λq=>?_) λq=>?_;have q':fr<to:=aBN
 unfold k8 at hN;rw[if_pos q'] at hN⊢;refine wy ?_;refine aZ (ay7 hy trivial _ t (Bw _) hg hK 0 aBH aBH [] hp (by simpa using hN) hI) ?_;rintro r g ⟨rfl,ru⟩;refine fY ?_;exact⟨trivial,ru⟩;have q':¬fr<to:=aBN
 rw[if_neg q'];refine cV @q ?_;exact⟨trivial,hI⟩
def akY{n a b:U}(h1:n.cells=[n])(h2:a.cells=[a])(h3:b.cells=[b])(hp:List aa):aE G az 15 [n,a,b] hp λr h'=>r=.fn (.func 35) [] [.mp (hp.length+1) 0,.mp (hp.length+2) 0,.mp hp.length 0]/\h'=hp++[.cells [n] false]++[.cells [a] false]++[.cells [b] false]:=by
 refine ad2.go ?_;refine mG @h1 @h2 @h3 @cB.{0} ?_;exact⟨trivial,trivial⟩
end
end
section
variable{g g':List aa}{S ak:U}{fr to:Int}
structure cT where
 f:Int
 t:Int
 m:List Int
variable{r:cT}{l:List cT}
def ez(r:cT):List U:=ag r.f::ag r.t::r.m.map ep
def pz(fr to:Int)(x:Int×T):cT:=⟨max x.1 fr,min (x.1+(x.2.size:Int)) to,(kV x.2).marks⟩
def mw(r x:cT):Bool:=(r.t==x.f)&&decide (r.m=x.m)
def lW(out:List cT)(x:cT):List cT:=match out.getLast? with
 |some r=>if mw r x then out.set (out.length-1) {r with t:=x.t} else out++[x]
 |none=>out++[x]
def uC(inl:Int->Bool)(x:Int×T):Bool:=((kV x.2).kind !=1)&&inl (kV x.2).type
def lX(inl:Int->Bool)(fr to:Int)(out:List cT)(x:Int×T):List cT:=if uC inl x then lW out (pz fr to x) else out
def kT(inl:Int->Bool)(fr to:Int)(l:List (Int×T)):List cT:=l.foldl (lX inl fr to) []
def awU(inl:Int->Bool)(fr to:Int)(l:List (Int×T))(x:Int×T):kT inl fr to (l++[x])=lX inl fr to (kT inl fr to l) x:=by
 unfold kT;rw[V9];rfl
def avN(out:List cT)(x:cT):(lW out x).length<=out.length+1:=by
 unfold lW;split;split<;>simp;simp
def agZ(inl:Int->Bool)(fr to:Int)(l:List (Int×T)):(kT inl fr to l).length<=l.length:=by
 unfold kT;have:∀(l:List (Int×T)) (out:List cT),(l.foldl (lX inl fr to) out).length<=out.length+l.length:=by
  intro l
  induction l with
  |nil=>intro out;simp
  |cons x r ih=>
   intro out;rw[sZ,dm];have h1:=ih (lX inl fr to out x);have h2:(lX inl fr to out x).length<=out.length+1:=by
    unfold lX;split;exact avN out _;omega
   omega
 simpa using this l []
def uo:List cT->U
 |[]=>.af
 |l=>.sl (l.map λr=>.agg (ez r)) .no
def NS(l:List cT):bL (uo l) (l.map λr=>.agg (ez r)):=by
 cases l with
 |nil=>exact ax ⟨rfl,rfl⟩
 |cons a r=>exact ay rfl
def ako(a b:Int):nZ true [.v (.int .i64 a),.v (.int .i64 b)]=some (.v (.int .i64 (max a b))):=by
 show some (bP (.int .i64 (if b>a then b else a)))=_;congr 3;split<;>omega
def akp(a b:Int):nZ false [.v (.int .i64 a),.v (.int .i64 b)]=some (.v (.int .i64 (min a b))):=by
 show some (bP (.int .i64 (if b<a then b else a)))=_;congr 3;split<;>omega
def Dk(h:r.m.length=8):(ez r).length=10/\(ez r).all bn=true:=by
 refine⟨by simp[ez,h],?_⟩;unfold ez;simp only[lD,List.all_map];rw[show(r.m.all (bn∘ep))=true from c_.2 λ_ _=>rfl];rfl
def Lv{a b:List Int}(ha:a.length=8)(hb:b.length=8):q6 [.i,.i,.i,.i,.i,.i,.i,.i] false (.agg (a.map ep)) (.agg (b.map ep))=some (.v (.bool (decide (a=b)))):=by
 match a,ha,b,hb with
 |[a0,a1,a2,a3,a4,a5,a6,a7],_,[b0,b1,b2,b3,b4,pg,sg,zR],_=>
  have e:∀a b:Int,(a==b)=decide (a=b):=λa b=>by rw[Bl];simp
  simp only[q6,dN,lQ,ep,eD,kX];simp[Bool.and_assoc,e]
def awx{h:List aa}{x:List U}(hx:x.length=10/\x.all bn=true):mb h 10 32 35 .af (.sl [.agg x] .exact)=some (.rs h.length [x].flatten.length 10 0 1,h++[.cells [x].flatten true]):=by
 have ok:bV 10 [bT x]=true:=by
  simp only[bV,lD,oy,Bool.and_true,gm];rw[hx.2];simp[hx.1]
 have hfl:flat [bT x]=[x].flatten:=aEA
 have h3:¬([bT x]=([]:List U)):=aBI
 simp only[mb,contents,h3,if_false,ok,true_and,hfl,dm,fQ];rw[if_pos aBJ]
def tr(g:List aa)(ak:U)(l:List cT):Prop:=(∀r∈l,r.m.length=8)/\((ak=.af/\l=[])\/(l≠[]/\∃k,gJ 10 g k ak (l.map ez)))
structure o8(S:U)(fr to:Int)(l:List cT)(g:List aa):Prop where
 s:g[0]?=some (.cells [S] false)
 f:g[1]?=some (.cells [.v (.int .i64 fr)] false)
 t:g[2]?=some (.cells [.v (.int .i64 to)] false)
 o:∃ak,g[3]?=some (.cells [ak] false)/\tr g ak l
def tr.keep(h:tr g ak l)(hk:∀(j:Nat) cs,g[j]?=some (.cells cs true)->g'[j]?=some (.cells cs true)):tr g' ak l:=by
 refine⟨h.1,h.2.elim ay ?_⟩;rintro⟨hne,k,q⟩;exact ax ⟨hne,k,q.keep λcs z=>hk _ _ z⟩
def o8.keep(h:o8 S fr to l g)(hk:∀(j:Nat) cs b,g[j]?=some (.cells cs b)->g'[j]?=some (.cells cs b)):o8 S fr to l g':=by
 obtain⟨ak,h1,h2⟩:=h.o;exact⟨hk _ _ _ h.s,hk _ _ _ h.f,hk _ _ _ h.t,ak,hk _ _ _ h1,h2.keep λj cs q=>hk _ _ _ q⟩
def tr.one(h:tr g ak l):bn ak=true:=by
 rcases h.2 with⟨rfl,_⟩|⟨_,k,q⟩
 rfl;rw[q.v];rfl
def tr.len(h:tr g ak l)(g':List aa):bO ak g'=some (.v (.int .i64 (l.length:Int)),g'):=by
 rcases h.2 with⟨rfl,rfl⟩|⟨_,k,q⟩
 rfl;have:=q.len g';rw[b_] at this;exact this
def o8.push(h:o8 S fr to l g)(ho:g[3]?=some (.cells [ak] false))(hr:tr g ak l){x:cT}(hx:x.m.length=8)(hl:l.length<=100000000):
  ∃bD g1 g2,mb g 10 32 35 ak (.sl [.agg (ez x)] .exact)=some (bD,g1)/\aF g1 1 (.mp 3 0) bD=some g2/\o8 S fr to (l++[x]) g2/\(∀(j:Nat) b,g[j]?=some b->(∀cs,b≠.cells cs true)->j≠3->g2[j]?=some b)/\g.length<=g2.length:=by
 have ok:=Dk hx;have hm:∀r∈l++[x],r.m.length=8:=λr hr'=>by
  rcases dZ.1 hr' with q|q
  exact hr.1 r q;rw[cr.1 q];exact hx
 have main:∃bD g1 k,mb g 10 32 35 ak (.sl [.agg (ez x)] .exact)=some (bD,g1)/\gJ 10 g1 k bD ((l++[x]).map ez)/\(∀(j:Nat) b,g[j]?=some b->(∀cs,b≠.cells cs true)->g1[j]?=some b)/\g.length<=g1.length:=by
  rcases hr.2 with⟨rfl,rfl⟩|⟨hne,k,q⟩
  refine⟨_,_,g.length,awx ok,?_,λj b q _=>aM q,aBI⟩;have hE:jD 10 [ez x]:=λy hy=>by rw[cr.1 hy];exact ok
  exact gJ.new hE;obtain⟨v',e1,e2⟩:=q.push (aY:=32) (e:=35) aBJ aBJ ok (by rw[b_];omega);refine⟨v',_,k,e1,?_,λj b z hb=>?_,aBI⟩;rw[eX];exact e2;rw[av];exact z;rintro rfl;rw[q.b] at z;cases z;exact hb _ rfl
 obtain⟨bD,g1,k,e1,e2,bQ,cC⟩:=main;have o1:=bQ _ _ ho aBI;have hol:=(bE.1 o1).1;have one':bn bD=true:=by rw[e2.v];rfl
 have sC:k≠3:=by rintro rfl;have:=e2.b;rw[o1] at this;simp at this
 have st:aF g1 1 (.mp 3 0) bD=some (g1.set 3 (.cells [bD] false)):=by
  simp only[aF,o1,dJ,n5 one'];simp[one',putAt]
 refine⟨bD,g1,_,e1,st,⟨?_,?_,?_,bD,aR hol,hm,ax ⟨aBI,k,e2.keep λcs z=>?_⟩⟩,λj b z hb hj=>?_,by simpa using cC⟩;rw[av aBJ];exact bQ _ _ h.s aBI;rw[av aBJ];exact bQ _ _ h.f aBI;rw[av aBJ];exact bQ _ _ h.t aBI;rw[av (dr sC)];exact z;rw[av (dr hj)];exact bQ _ _ z hb
def o8.last(h:o8 S fr to l g)(ho:g[3]?=some (.cells [ak] false))(hr:tr g ak l){n:Nat}(hn:n+1=l.length)(aa5:l[n]?=some r):
  ∃k M,bu 10 ak (.v (.int .i64 (n:Int)))=some (.rp k M (n*10))/\aq g false 1 (.rp k M (n*10+1))=some (.v (.int .i64 r.t))/\aq g true 8 (.rp k M (n*10+2))=some (.agg (r.m.map ep))/\
   ∀z:Int,∃g',aF g 1 (.rp k M (n*10+1)) (.v (.int .i64 z))=some g'/\o8 S fr to (l.set n {r with t:=z}) g'/\(∀(j:Nat) b,g[j]?=some b->(∀cs,b≠.cells cs true)->g'[j]?=some b)/\g'.length=g.length:=by
 have EH:=hr.1 r (bG aa5)
 rcases hr.2 with⟨rfl,rfl⟩|⟨hne,k,q⟩
 simp at hn;have hx:(l.map ez)[n]?=some (ez r):=by rw[eC,aa5];rfl
 refine⟨k,_,q.bK (by rw[b_];omega),q.fy hx aBJ rfl,?_,λz=>?_⟩;rw[q.S3 hx aBJ];show some (bT (List.take 8 (r.m.map ep)))=_;rw[kG (by simp[EH])];obtain⟨e1,e2⟩:=q.st (w:=1) (o:=1) (y:=.v (.int .i64 z)) hx rfl aBJ rfl;have bQ:putAt (ez r) 1 (bP (.int .i64 z)).cells=ez {r with t:=z}:=rfl
 rw[bQ] at e1 e2;have cC:(l.map ez).set n (ez {r with t:=z})=(l.set n {r with t:=z}).map ez:=by rw[s0]
 rw[cC] at e1 e2;have I0:∀(j:Nat) b,g[j]?=some b->(∀cs,b≠.cells cs true)->(g.set k (.cells ((l.set n {r with t:=z}).map ez).flatten true))[j]?=some b:=λj b hj hb=>by
  rw[av];exact hj;rintro rfl;rw[q.b] at hj;cases hj;exact hb _ rfl
 refine⟨_,e1,⟨I0 _ _ h.s aBI,I0 _ _ h.f aBI,I0 _ _ h.t aBI,ak,I0 _ _ ho aBI,λx hx'=>?_,ax ⟨by intro z;have:=congrArg zq z;rw[rU] at this;simp at this;exact hne this,k,e2⟩⟩,I0,aBI⟩
 rcases Ga hx' with z|rfl
 exact hr.1 x z;exact EH
end
section
variable{G:Cells}{S au mv:U}{rows afb:List (List U)}
def amG(f t:Int){m:List Int}(h:m.length=8):cm [.v (.int .i64 0),.v (.int .i64 0),.v (.int .u16 0),.v (.int .u16 0),.v (.int .u16 0),.v (.int .u16 0),.v (.int .u16 0),.v (.int .u16 0),.v (.int .u16 0),.v (.int .u16 0)] [(0,1,.v (.int .i64 f)),(1,1,.v (.int .i64 t)),(2,8,.agg (m.map ep))]=some (ez ⟨f,t,m⟩):=by
 match m,h with
 |[a0,a1,a2,a3,a4,a5,a6,a7],_=>rfl
def PC{x:cT}(h:x.m.length=8):dA 10 [.agg (ez x)]=some (.sl [.agg (ez x)] .exact):=by
 have ok:=Dk h;have:bV 10 [bT (ez x)]=true:=by
  simp only[bV,lD,oy,Bool.and_true,gm];rw[ok.2];simp[ok.1]
 unfold dA;rw[if_pos ⟨this,aBI⟩]
def awt{g:List aa}{ak:U}{l:List cT}(h:tr g ak l):aX g ak (uo l):=by
 rcases h.2 with⟨rfl,rfl⟩|⟨hne,k,q⟩
 exact cS;cases l with
 |nil=>exact absurd rfl hne
 |cons a r=>
  have fl:dD g ((a::r).map ez).flatten ((a::r).map ez).flatten:=dD.each λc hc=>by
   obtain⟨x,hx,Ci⟩:=List.mem_flatten.1 hc;obtain⟨y,_,rfl⟩:=cO.1 hx;simp only[ez,ek,cO] at Ci
   rcases Ci with rfl|rfl|⟨n,_,rfl⟩<;>exact aB _
  have h2:=aX.rs (sz:=10) (o:=0) (len:=((a::r).map ez).length) q.b rfl fl;have e:=Ht [] q.each;rw[eR,show([]:List U).length=0 from rfl] at e;rw[e,<-q.v,we] at h2;exact h2
def avM{out:List cT}{n:Nat}{r x:cT}(hn:n+1=out.length)(hr:out[n]?=some r):lW out x=if mw r x then out.set n {r with t:=x.t} else out++[x]:=by
 unfold lW;have:out.getLast? =some r:=by rw[azR,<-hr];congr 1;omega
 rw[this];dsimp only;rw[show out.length-1=n by omega]
def awT(s:jF S au mv rows afb){t:T}(hg:jo t)(hK:∀u:T,jo u->u.size<=t.size->(hD u).length<=1000000)(hs:t.size<=100000000)(hvl:∀fr to,(k8 fr to t).length<=100000000)(fr to:Int):
  ck G az 6 [S,t.aG,.v (.int .i64 fr),.v (.int .i64 to)] (uo (kT (j6 rows) fr to (k8 fr to t))):=by
 have hc:=s.clean;have dy:S.cells=[S]:=by rw[s.eq];rfl
 refine ef (asz.go ?_);have aoC:∀z:Int,(bP (.int .i64 z)).cells=[.v (.int .i64 z)]:=λ_=>rfl;obtain⟨H0,HG⟩:∃H0:List aa,H0=[.cells [S] false,.cells [.v (.int .i64 fr)] false,.cells [.v (.int .i64 to)] false,.cells [.af] false]:=⟨_,rfl⟩;refine cM (λe g=>e=[(1,t.aG),(4,.mp 0 0),(6,.mp 1 0),(7,.mp 2 0),(8,.af)]/\g=[.cells [S] false,.cells [.v (.int .i64 fr)] false,.cells [.v (.int .i64 to)] false]) ?_ ?_;refine fG @dy @aoC ?_;exact⟨trivial,trivial⟩;rintro e g ⟨rfl,Cl⟩;refine cM (λe g=>e=[(1,t.aG),(4,.mp 0 0),(6,.mp 1 0),(7,.mp 2 0),(8,.af),(9,.mp 3 0)]/\g=H0) ?_ ?_;refine cV @Cl ?_;exact⟨trivial,HG.symm⟩;rintro e g1 ⟨rfl,qx⟩;have b1:g1[1]?=some (.cells [.v (.int .i64 fr)] false):=by rw[qx,HG];rfl
 have b2:g1[2]?=some (.cells [.v (.int .i64 to)] false):=by rw[qx,HG];rfl
 refine cM (λe g=>e=[(8,.af),(9,.mp 3 0)]/\o8 S fr to (kT (j6 rows) fr to (k8 fr to t)) g) ?_ ?_
 · refine fG (c6 b1) (c6 b2) ?_
   refine aZ (akY (T.Ea t) rfl rfl g1) ?_;rintro _ g2 ⟨rfl,h_⟩;have gl:g1.length=4:=by rw[qx,HG];rfl
   refine fY ?_;rw[vR];refine⟨_,_,_,rfl,λk hk ats ok hR=>?_⟩;have kl:7<=k:=by rw[hk,h_];simp[gl,marks]
   generalize hX:g2++marks false++[iB .ready none ats [18,19].toArray ok]=X;have x0:∀(j:Nat) b,g2[j]?=some b->X[j]?=some b:=λj b q=>by rw[<-hX];exact aM (aM q)
   have azw:X[k]?=some (.aT .ready none ats [18,19].toArray ok):=by rw[<-hX,hk];simp
   have ajN:o8 S fr to [] X:=by
    refine⟨x0 _ _ ?_,x0 _ _ ?_,x0 _ _ ?_,.af,x0 _ _ ?_,aBI,ay ⟨rfl,rfl⟩⟩
    all_goals
     rw[h_];refine aM (aM (aM ?_));rw[qx,HG];rfl
   have h4:X[4]?=some (.cells [t.aG] false):=x0 _ _ (by rw[h_,<-gl];simp[cq]);have h5:X[5]?=some (.cells [.v (.int .i64 fr)] false):=x0 _ _ (by rw[h_];simp[cq,gl]);have h6:X[6]?=some (.cells [.v (.int .i64 to)] false):=x0 _ _ (by rw[h_];simp[cq,gl]);rw[gl] at hR⊢;refine aZ (akX (fr:=fr) (to:=to) (N:=100000000) (Inv:=λdone g=>g[k]?=some (.aT .ready none ats [18,19].toArray ok)/\o8 S fr to (kT (j6 rows) fr to done) g) ?_ hg hK hs h5 h6 h4 (hvl fr to) ⟨azw,ajN⟩) ?_
   · rintro done x g aoK ⟨hl,hI⟩ abx hxs
     obtain⟨a,u⟩:=x;dsimp only at hxs abx;have Iv:=FR abx;refine hR [_,_] g _ rfl ⟨none,hl⟩ ?_;have se:qI [(4,bB 0 0),(6,bB 1 0),(7,bB 2 0),(8,U.af),(9,bB 3 0),(17,U.fn (qM 35) [] [bB (4+1) 0,bB (4+2) 0,bB 4 0])] (List.zip [18,19] [bP (.int .i64 a),u.aG])=[(19,u.aG),(18,bP (.int .i64 a)),(4,bB 0 0),(6,bB 1 0),(7,bB 2 0),(8,U.af),(9,bB 3 0),(17,U.fn (qM 35) [] [bB (4+1) 0,bB (4+2) 0,bB 4 0])]:=rfl;rw[se];refine fY ?_;refine⟨⟨none,hl⟩,λdz=>?_⟩;have sE:=(bE.1 hl).1;have fu:(g.set k (.aT .busy dz ats [18,19].toArray ok))[k]?=some (.aT .busy dz ats [18,19].toArray ok):=aR sE;have ru:o8 S fr to (kT (j6 rows) fr to done) (g.set k (.aT .busy dz ats [18,19].toArray ok)):=hI.keep λj cs b q=>by
      rw[av (by rintro rfl;rw[hl] at q;cases q)];exact q
     generalize g.set k (.aT .busy dz ats [18,19].toArray ok)=g' at fu ru⊢;have fin:∀g2:List aa,g2[k]?=some (.aT .busy dz ats [18,19].toArray ok)->o8 S fr to (kT (j6 rows) fr to (done++[(a,u)])) g2->(g2.set k (.aT .ready none ats [18,19].toArray ok))[k]?=some (.aT .ready none ats [18,19].toArray ok)/\o8 S fr to (kT (j6 rows) fr to (done++[(a,u)])) (g2.set k (.aT .ready none ats [18,19].toArray ok)):=λg2 h1 h2=>
      ⟨aR (bE.1 h1).1,h2.keep λj cs b q=>by
       rw[av (by rintro rfl;rw[h1] at q;cases q)];exact q⟩
     rw[awU] at fin⊢;have hlen:=agZ (j6 rows) fr to done;generalize hout:kT (j6 rows) fr to done=out at fin ru hlen⊢;generalize sB:lX (j6 rows) fr to out (a,u)=O' at fin⊢;refine ni ?_;refine⟨_,_,aP (u6 u) bS,atw Iv,?_⟩;cases eL:((kV u).kind !=1) with
     |false=>
      have Rw:O'=out:=by
       rw[<-sB,lX,uC];dsimp only;rw[eL];rfl
      refine fY ?_;exact⟨⟨.busy,dz,fu⟩,rfl,fin g' fu (by rw[Rw];exact ru)⟩
     |true=>
      refine cV (c6 ru.s) ?_;refine⟨_,_,aP (u6 u) bS,type36 Iv,?_⟩;refine wy ?_;refine⟨_,_,aP hc (aP (bM _) bS),abH s _,?_⟩;cases hin:j6 rows (kV u).type with
      |false=>
       have Rw:O'=out:=by
        rw[<-sB,lX,uC];dsimp only;rw[eL,hin];rfl
       refine fY ?_;exact⟨⟨.busy,dz,fu⟩,rfl,fin g' fu (by rw[Rw];exact ru)⟩
      |true=>
       have pL:O'=lW out (pz fr to (a,u)):=by
        rw[<-sB,lX,uC];dsimp only;rw[eL,hin];rfl
       refine azn (c6 ru.f) (c6 ru.t) @ako ?_;refine⟨_,_,aP (u6 u) bS,NW Iv,?_⟩;have w1:b7.wrap (a+(u.size:Int))=a+(u.size:Int):=wrap_i64 aBH aBH;refine aiE (c6 ru.t) @akp ?_;refine⟨_,_,aP (u6 u) bS,aui Iv,?_⟩;have EH:(kV u).marks.length=8:=Iv.len;unfold pz at pL;dsimp only at pL;generalize EI:(kV u).marks=ms at EH pL⊢;generalize kQ:(⟨max a fr,min (a+(u.size:Int)) to,ms⟩:cT)=x at pL;have f1:=amG (max a fr) (min (a+(u.size:Int)) to) EH;rw[kQ] at f1;have Cz:x.m.length=8:=by rw[<-kQ];exact EH
       have Nl:=Dk Cz;have st:=pn (n:=10) (g:=g'++[.cells [.v (.int .i64 0),.v (.int .i64 0),.v (.int .u16 0),.v (.int .u16 0),.v (.int .u16 0),.v (.int .u16 0),.v (.int .u16 0),.v (.int .u16 0),.v (.int .u16 0),.v (.int .u16 0)] false]) (k:=g'.length) (cs:=ez x) (cs0:=[.v (.int .i64 0),.v (.int .i64 0),.v (.int .u16 0),.v (.int .u16 0),.v (.int .u16 0),.v (.int .u16 0),.v (.int .u16 0),.v (.int .u16 0),.v (.int .u16 0),.v (.int .u16 0)]) aBI rfl Nl.1 Nl.2;have e1:(g'++[aj [.v (.int .i64 0),.v (.int .i64 0),.v (.int .u16 0),.v (.int .u16 0),.v (.int .u16 0),.v (.int .u16 0),.v (.int .u16 0),.v (.int .u16 0),.v (.int .u16 0),.v (.int .u16 0)] false]).set g'.length (.cells (ez x) false)=g'++[.cells (ez x) false]:=aBI
       rw[e1] at st;have Ew:o8 S fr to out (g'++[.cells (ez x) false]):=ru.keep λj cs b q=>aM q;have mW:(g'++[aj (ez x) false])[k]?=some (.aT .busy dz ats [18,19].toArray ok):=aM fu;have hx3:(g'++[aj (ez x) false])[g'.length]?=some (.cells (ez x) false):=aBI
       have Cp:3<g'.length:=by
        obtain⟨_,q,_⟩:=ru.o;exact(bE.1 q).1
       refine ni ?_;generalize g'.length=m at hx3 Cp⊢;generalize g'++[aj (ez x) false]=BK at Ew mW hx3⊢;obtain⟨ak,ho,hr⟩:=Ew.o;have la:aq BK true 10 (.mp m 0)=some (.agg (ez x)):=tD hx3 Nl.1;have bf:aq BK false 1 (.mp m 0)=some (.v (.int .i64 x.f)):=by simp only[aq,hx3];rfl
       have lt:aq BK false 1 (.mp m 1)=some (.v (.int .i64 x.t)):=by simp only[aq,hx3];rfl
       have lm:aq BK true 8 (.mp m 2)=some (.agg (x.m.map ep)):=by
        simp only[aq,hx3];unfold dB;rw[if_pos rfl,if_pos (by rw[Nl.1];decide)];show some (bT (List.take 8 (x.m.map ep)))=_;rw[kG (by simp[Cz])]
       obtain⟨bD,g1,g2,p1,p2,p3,fW,C7⟩:=Ew.push ho hr Cz aBH;have hk2:g2[k]?=some (.aT .busy dz ats [18,19].toArray ok):=fW _ _ mW aBI aBH
       rcases x8 out.length with hz|hz
       have apF:out=[]:=lE hz;have w2:b7.wrap ((out.length:Int)-1)= -1:=by rw[hz];rfl
       have hp:lW out x=out++[x]:=by rw[apF];rfl
       rw[hp] at pL;have d0:decide ((0:Int)<= -1)=false:=aBJ
       refine Bf (c6 ho) @hr.len @w2 @d0 @la (PC Cz) @p1 @p2 ?_;exact⟨⟨.busy,dz,hk2⟩,rfl,fin g2 hk2 (by rw[pL];exact p3)⟩;obtain⟨n,hn⟩:∃n,n+1=out.length:=⟨out.length-1,aBH⟩;obtain⟨r,hrl⟩:∃r,out[n]?=some r:=⟨out[n]' aBH,br _⟩;have w2:b7.wrap ((out.length:Int)-1)=(n:Int):=by rw[wrap_i64 aBH aBH];omega
       obtain⟨aS,M,q1,ah,aN,dI⟩:=Ew.last ho hr hn hrl;have apQ:=hr.1 r (bG hrl);have hp:=avM (x:=x) hn hrl;rw[hp] at pL;have yD:je 1 (.rp aS M (n*10))=some (.rp aS M (n*10+1)):=rfl;have ZV:je 2 (.rp aS M (n*10))=some (.rp aS M (n*10+2)):=rfl;have bN:decide ((0:Int)<=(n:Int))=true:=decide_eq_true aBH;refine p9 (c6 ho) @hr.len @w2 @bN @q1 @yD @ZV @ah @bf ?_;cases hj:(r.t==x.f) with
       |false=>
        have hj0:mw r x=false:=by unfold mw;rw[hj];rfl
        rw[hj0] at pL;simp only[iA,if_false] at pL;refine lB @hj @bN @la (PC Cz) @p1 @p2 (c6 ho) ?_;exact⟨⟨.busy,dz,hk2⟩,rfl,fin g2 hk2 (by rw[pL];exact p3)⟩
       |true=>
        refine p9 @hj @bN (c6 ho) @q1 @ZV @aN @iE @lm (Lv apQ Cz) ?_;cases hj2:decide (r.m=x.m) with
        |false=>
         have hj0:mw r x=false:=by unfold mw;rw[hj,hj2];rfl
         rw[hj0] at pL;simp only[iA,if_false] at pL;refine lB @hj2 @bN @la (PC Cz) @p1 @p2 (c6 ho) ?_;exact⟨⟨.busy,dz,hk2⟩,rfl,fin g2 hk2 (by rw[pL];exact p3)⟩
        |true=>
         have hj0:mw r x=true:=by unfold mw;rw[hj,hj2];rfl
         rw[hj0] at pL;simp only[if_true] at pL;obtain⟨g4,r1,r2,fX,xJ⟩:=dI x.t;refine F0 @hj2 @bN (c6 ho) @iE @lt @q1 @yD @r1 ?_;have iq:=fX _ _ mW aBI;exact⟨⟨.busy,dz,iq⟩,rfl,fin g4 iq (by rw[pL];exact r2)⟩
   rintro r g ⟨rfl,hl,hI⟩;refine⟨.ready,none,hl,aBJ,?_⟩;refine cV @vk.eq_1 ?_;refine⟨trivial,hI.keep λj cs b q=>?_⟩;rw[av (by rintro rfl;rw[hl] at q;cases q)];exact q
 rintro e g3 ⟨rfl,hI⟩;obtain⟨ak,ho,hr⟩:=hI.o;refine wy ?_;rw[A2];intro g4 he;have kp:∀(j:Nat) b,(∀o,b≠.obj o)->g3[j]?=some b->g4[j]?=some b:=λj b hb q=>by
  rcases he.2 j with z|⟨_,z,_⟩
  rw[z];exact q;rw[z] at q;cases q;exact absurd rfl (hb _)
 have apO:tr g4 ak (kT (j6 rows) fr to (k8 fr to t)):=hr.keep λj cs q=>kp _ _ aBI q;refine wy ?_;exact(awt apO).done
end
section
variable{t:T}{xs:List U}
def L0:∀a b:List T,qt (a++b)↔qt a/\qt b
 |[],b=>by simp[qt]
 |k::r,b=>by simp only[jW,qt,L0 r b,and_assoc]
def U9:List Fr->Prop
 |[]=>True
 |f::r=>f.h.cA/\f.h.kind=1/\qt f.ks/\U9 r
def A8:List Fr->Nat
 |[]=>0
 |f::r=>2+sizes f.ks+A8 r
def anM:∀(n:Nat) (l:List de) (st st':List Fr),jg n l st=some st'->(∀t∈l,t.cA)->U9 st->U9 st'/\A8 st'<=A8 st+2*l.length:=by
 intro n
 induction n with
 |zero=>intro l st st' h _ hs;rw[jg] at h;cases h;exact⟨hs,aBH⟩
 |succ n ih=>
  intro l st st' h ho hs;cases l with
  |nil=>rw[jg] at h;cases h;exact⟨hs,aBH⟩
  |cons t r=>
   have hto:=ho t (zw ..);have hro:∀u∈r,u.cA:=λu hu=>ho u (qP _ hu);simp only[jg] at h;rw[dm];split at h;rename_i k1;split at h;cases h;obtain⟨a,b⟩:=ih _ _ _ h hro ⟨hto,k1,trivial,hs⟩;refine⟨a,?_⟩;simp only[A8,sizes] at b;omega;split at h;split at h;rename_i top par rest;obtain⟨a1,a2,a3,b1,b2,b3,b4⟩:=hs;obtain⟨a,b⟩:=ih _ _ _ h hro ⟨b1,b2,(L0 _ _).2 ⟨b3,⟨⟨a1,a2,a3⟩,trivial⟩⟩,b4⟩;refine⟨a,?_⟩;simp only[A8,FL,sizes,vV] at b⊢;omega;cases h;split at h;rename_i eF;split at h;rename_i top rest;obtain⟨a1,a2,a3,a4⟩:=hs;obtain⟨a,b⟩:=ih _ _ _ h hro ⟨a1,a2,(L0 _ _).2 ⟨a3,⟨⟨hto,eF⟩,trivial⟩⟩,a4⟩;refine⟨a,?_⟩;simp only[A8,FL,sizes,vV] at b⊢;omega;cases h;split at h;rename_i gZ;split at h;rename_i top rest;obtain⟨a1,a2,a3,a4⟩:=hs;obtain⟨a,b⟩:=ih _ _ _ h (λu hu=>hro u (uH hu)) ⟨a1,a2,(L0 _ _).2 ⟨a3,⟨⟨PZ hto,gZ,aBI⟩,trivial⟩⟩,a4⟩;refine⟨a,?_⟩;have hw:(r.takeWhile (oI t)).length<=r.length:=(List.takeWhile_sublist _).length_le;simp only[A8,FL,sizes,vV,dm,b_,v_] at b⊢;omega;cases h;obtain⟨a,b⟩:=ih _ _ _ h hro hs;exact⟨a,aBH⟩
def awu:rJ.cA:=by
 constructor<;>simp[rJ,Ks,WC]
def ak8{l:List de}(h:tF l=some t)(ho:∀t∈l,t.cA):jo t/\t.size<=2*l.length+2:=by
 unfold tF at h;split at h;rename_i f hf;cases h;obtain⟨⟨a1,a2,a3,_⟩,b⟩:=anM _ _ _ _ hf ho ⟨awu,rfl,trivial,trivial⟩;refine⟨⟨a1,a2,a3⟩,?_⟩;simp only[A8,sizes] at b;rw[vV];omega;cases h
def size_pos:∀{t:T},jo t->1<=t.size
 |.node h ks,_=>by rw[vV];omega
 |.leaf h,_=>bl _
 |.text h r,g=>by
  rw[vV];exact DK.2 g.2.2
def aaj:∀{ks:List T},qt ks->ks.length<=sizes ks
 |[],_=>bl _
 |k::r,⟨h1,h2⟩=>by
  have:=size_pos h1;have:=aaj h2;rw[dm,sizes];omega
def asS(h:jo t):(hD t).length<=t.size:=by
 cases t with
 |node hd ks=>
  have:=aaj h.2.2;show ks.length<=2+sizes ks;omega
 |leaf h=>exact ic _
 |text h r=>exact ic _
mutual
theorem air(fr to:Int):∀(t:T) (a:Int),jo t->(mE fr to t a).length+1<=t.size/\∀x∈mE fr to t a,jo x.2
 |.node h ks,a,g=>by
  have⟨h1,h2⟩:=aip fr to ks a g.2.2;rw[mE,vV];exact⟨aBH,h2⟩
 |.leaf h,a,g=>by rw[mE,vV];exact⟨bl _,λx hx=>aDc⟩
 |.text h r,a,g=>by
  have:=DK.2 g.2.2;rw[mE,vV];exact⟨this,λx hx=>aDc⟩
theorem aip(fr to:Int):∀(ks:List T) (a:Int),qt ks->(oW fr to ks a).length<=sizes ks/\∀x∈oW fr to ks a,jo x.2
 |[],a,g=>by rw[oW];exact⟨ic _,λx hx=>aDc⟩
 |k::r,a,g=>by
  have⟨h1,h2⟩:=air fr to k (a+1) g.1;have⟨q1,ah⟩:=aip fr to r (a+(k.size:Int)) g.2;rw[oW,sizes];split;exact⟨ic _,λx hx=>aDc⟩;split;refine⟨by rw[cB,dm];omega,λx hx=>?_⟩
  rcases dZ.1 hx with z|z
  rcases ek.1 z with rfl|z
  exact g.1;exact h2 x z;exact ah x z;rw[eR];exact⟨aBH,ah⟩
end
def P3(g:jo t)(fr to:Int):(k8 fr to t).length<=t.size/\∀x∈k8 fr to t,jo x.2:=by
 unfold k8;split;have⟨h1,h2⟩:=air fr to t 0 g;exact⟨aBH,h2⟩;exact⟨ic _,λx hx=>aDc⟩
def avL{P:List Int->Prop}{out:List cT}{x:cT}(h:∀r∈out,P r.m)(hx:P x.m):∀r∈lW out x,P r.m:=by
 unfold lW;split;rename_i aQ Ip;have h0:=h _ (List.mem_of_getLast? Ip);split;intro r hr
 rcases Ga hr with z|rfl
 exact h r z;exact h0;intro r hr
 rcases dZ.1 hr with z|z
 exact h r z;rw[cr.1 z];exact hx;intro r hr
 rcases dZ.1 hr with z|z
 exact h r z;rw[cr.1 z];exact hx
def ag0(inl:Int->Bool)(fr to:Int):∀(l:List (Int×T)) (out:List cT),(∀x∈l,jo x.2)->(∀r∈out,r.m.length=8)->∀r∈l.foldl (lX inl fr to) out,r.m.length=8
 |[],out,_,h=>h
 |x::l,out,hl,h=>by
  rw[sZ];refine ag0 inl fr to l _ (λy hy=>hl y (qP _ hy)) ?_;unfold lX;split;exact avL (P:=λm=>m.length=8) h (FR (hl x (zw ..))).len;exact h
def UI(g:jo t)(inl:Int->Bool)(fr to:Int):∀r∈kT inl fr to (k8 fr to t),r.m.length=8:=
 ag0 inl fr to _ [] (P3 g fr to).2 aBI
def UH(g:jo t)(inl:Int->Bool)(fr to:Int):(kT inl fr to (k8 fr to t)).length<=t.size:=
 fk (agZ _ _ _ _) (P3 g fr to).1
def afX{B:Nat}{hp:List aa}{v y:U}{ys:List U}{n aY:Nat}{e:TypeId}(hA:jE B hp v xs n e)(hB:B<=hp.length)(iI:bL y ys)(hx:bV n xs=true)(hy:bV n ys=true)(hn:0<n)(hb:0<aY)(hfit:(xs.length+ys.length)*aY<=140737488355328):
  ∃v' hp',cG hp n aY e v y=some (v',hp')/\jE B hp' v' (xs++ys) n e/\B<=hp'.length:=by
 have hc:contents y=some ys:=by
  rcases iI with⟨t,rfl⟩|⟨rfl,rfl⟩<;>rfl
 by_cases h0:ys=[];subst h0;refine⟨v,hp,?_,by rw[e4];exact hA,hB⟩
 rcases hA with rfl|⟨id,rfl,hid,hk⟩
 simp[cG,e9,hc];simp[cG,e9,hc]
 rcases hA with rfl|⟨id,rfl,hid,hk⟩
 refine⟨.sl (xs++ys) (.tok hp.length),hp++[.tok (xs.length+ys.length) n e],?_,ax ⟨hp.length,rfl,hB,aBI⟩,aBK⟩;simp[cG,e9,ga,hc,hy,hn,hb,hfit,hx,h0];have hl:id<hp.length:=(bE.1 hk).1;refine⟨.sl (xs++ys) (.tok id),hp.set id (.tok (xs.length+ys.length) n e),?_,ax ⟨id,rfl,hid,aCr⟩,aBK⟩;simp[cG,e9,ga,hc,hy,hn,hb,hfit,hx,hk,h0]
def axx{tl:iD}(hp:List aa):bO (.sl xs tl) hp=some (.v (.int .i64 (xs.length:Int)),hp):=by
 rw[nF,kN]
end
def uT:Int->Int->List cT->Prop
 |a,b,[]=>a=b
 |a,b,x::r=>x.f=a/\x.f<x.t/\x.t<=b/\uT x.t b r
def Pt(R:cT)(seg:List cT):Prop:=uT R.f R.t seg/\(∀x∈seg,x.m=R.m)/\R.f<R.t
inductive gK:List cT->List cT->Prop
 |nil:gK [] []
 |cons {R:cT} {seg ps rs:List cT}:Pt R seg->gK ps rs->gK (seg++ps) (R::rs)
def uT.le:∀{l:List cT} {a b:Int},uT a b l->a<=b
 |[],a,b,h=>by rw[show a=b from h];exact nj _
 |x::r,a,b,h=>by obtain⟨h1,h2,h3,h4⟩:=h;omega
def uT.snoc:∀{l:List cT} {a b:Int} {y:cT},uT a b l->y.f=b->y.f<y.t->uT a y.t (l++[y])
 |[],a,b,y,h,h1,h2=>⟨by rw[h1];exact h.symm,h2,nj _,rfl⟩
 |x::r,a,b,y,h,h1,h2=>by
  obtain⟨q1,ah,aN,dI⟩:=h;have:=dI.snoc h1 h2;exact⟨q1,ah,this.le,this⟩
def uT.grow:∀{l:List cT} {a b e:Int} {p:cT},uT a b (l++[p])->b<=e->uT a e (l++[{p with t:=e}])/\p.t=b
 |[],a,b,e,p,h,he=>by
  obtain⟨q1,ah,aN,dI⟩:=h;have vz:p.t=b:=dI;exact⟨⟨q1,show p.f<e by omega,nj _,rfl⟩,vz⟩
 |x::r,a,b,e,p,h,he=>by
  obtain⟨q1,ah,aN,dI⟩:=h;obtain⟨w1,w2⟩:=dI.grow he;exact⟨⟨q1,ah,aBH,w1⟩,w2⟩
def gK.snoc{yj jr:List cT}(h:gK yj jr){r:cT}{seg:List cT}(hs:Pt r seg):gK (yj++seg) (jr++[r]):=by
 induction h with
 |nil=>
  have:=gK.cons hs gK.nil;simpa using this
 |cons h1 _ ih=>
  rw[cq,jW];exact gK.cons h1 ih
def gK.last{P C:List cT}(h:gK P C):C≠[]->∃yj jr r seg,C=jr++[r]/\P=yj++seg/\gK yj jr/\Pt r seg:=by
 induction h with
 |nil=>intro h;exact absurd rfl h
 |@cons R seg ps rs h1 h2 ih=>
  intro _;cases rs with
  |nil=>
   cases h2;exact⟨[],[],R,seg,rfl,aBI,gK.nil,h1⟩
  |cons a r=>
   obtain⟨yj,jr,r',aw9,e1,e2,bQ,cC⟩:=ih aBI;exact⟨seg++yj,R::jr,r',aw9,by rw[e1];rfl,by rw[e2,cq],gK.cons h1 bQ,cC⟩
def gK.new{P C:List cT}(h:gK P C){x:cT}(hx:x.f<x.t):gK (P++[x]) (C++[x]):=
 h.snoc ⟨⟨rfl,hx,nj _,rfl⟩,λy hy=>by rw[cr.1 hy],hx⟩
def U2{jr yb:List cT}{r s:cT}(h:jr++[r]=yb++[s]):jr=yb/\r=s:=by
 have:=List.append_inj' h rfl;exact⟨this.1,by simpa using this.2⟩
def gK.ext{P jr:List cT}{r y:cT}(h:gK P (jr++[r]))(h1:y.f=r.t)(h2:y.m=r.m)(h3:y.f<y.t):gK (P++[y]) (jr++[{r with t:=y.t}]):=by
 obtain⟨yj,yb,r',seg,e1,e2,bQ,cC,iW,sn⟩:=h.last aBI;obtain⟨rfl,rfl⟩:=U2 e1;rw[e2,cq];refine bQ.snoc ⟨cC.snoc h1 h3,λx hx=>?_,show r.f<y.t by omega⟩
 rcases dZ.1 hx with q|q
 exact iW x q;rw[cr.1 q];exact h2
def gK.grow{P jr:List cT}{p r:cT}(h:gK (P++[p]) (jr++[r])):p.t=r.t/\p.m=r.m/\∀e,r.t<=e->gK (P++[{p with t:=e}]) (jr++[{r with t:=e}]):=by
 obtain⟨yj,yb,r',seg,e1,e2,bQ,cC,iW,sn⟩:=h.last aBI;obtain⟨rfl,rfl⟩:=U2 e1;have hne:seg≠[]:=by
  rintro rfl;have:r.f=r.t:=cC;omega
 obtain⟨iK,q,rfl⟩:∃iK q,seg=iK++[q]:=⟨seg.dropLast,seg.getLast hne,(azM hne).symm⟩;rw[<-cq] at e2;obtain⟨rfl,rfl⟩:=U2 e2;refine⟨(cC.grow (nj _)).2,iW p aBI,λe he=>?_⟩;rw[cq];refine bQ.snoc ⟨(cC.grow he).1,λx hx=>?_,show r.f<e by omega⟩
 rcases dZ.1 hx with z|z
 exact iW x (by simp[z]);rw[cr.1 z];exact iW p aBI
def NB(x:cT):lW [] x=[x]:=rfl
def C_(l:List cT)(r x:cT):lW (l++[r]) x=if mw r x then l++[{r with t:=x.t}] else l++[r]++[x]:=by
 unfold lW;rw[List.getLast?_concat];dsimp only;split;rw[cB,nq,Kg,We _ _ (bl _),kj];rfl;rfl
def MC{r x:cT}:mw r x=true↔r.t=x.f/\r.m=x.m:=by
 unfold mw;simp
def IL{l:List cT}(h:l≠[]):∃l0 r,l=l0++[r]:=⟨l.dropLast,l.getLast h,(azM h).symm⟩
structure qV(A B C:List cT):Prop where
 vM:gK (A++B) C
 self:gK A A
 eq:B=[]->A=C
def qV.same{A C:List cT}(h:qV A [] C){x:cT}(hx:x.f<x.t):qV (lW A x) [] (lW C x):=by
 have e:=h.eq rfl;subst e;have key:gK (lW A x) (lW A x):=by
  by_cases hn:A=[];subst hn;exact gK.nil.new hx;obtain⟨l,r,rfl⟩:=IL hn;rw[C_];by_cases hj:mw r x=true;rw[if_pos hj];obtain⟨q1,ah⟩:=MC.1 hj;exact(h.self.grow).2.2 x.t aBH;rw[if_neg hj];exact h.self.new hx
 exact⟨by rw[e4];exact key,key,λ_=>rfl⟩
def qV.second{A B C:List cT}(h:qV A B C){y:cT}(hy:y.f<y.t):qV A (lW B y) (lW C y):=by
 by_cases hn:B=[];subst hn;have e:=h.eq rfl;subst e;refine⟨?_,h.self,λq=>aBT⟩;rw[NB];by_cases ha:A=[];subst ha;exact gK.nil.new hy;obtain⟨l,r,rfl⟩:=IL ha;rw[C_];by_cases hj:mw r y=true;rw[if_pos hj];obtain⟨q1,ah⟩:=MC.1 hj;exact h.self.ext q1.symm ah.symm hy;rw[if_neg hj];exact h.self.new hy;obtain⟨azV,b,rfl⟩:=IL hn;have hc:C≠[]:=by
  rintro rfl;have:=h.vM;have:∀{P:List cT},gK P []->P=[]:=λh=>by cases h;rfl
  have:=this h.vM;simp at this
 obtain⟨jr,c,rfl⟩:=IL hc;have ht:=h.vM;rw[<-cq] at ht;obtain⟨g1,g2,g3⟩:=ht.grow;have R5:mw b y=mw c y:=by unfold mw;rw[g1,g2]
 refine⟨?_,h.self,λq=>?_⟩;rw[C_,C_,R5];by_cases hj:mw c y=true;rw[if_pos hj,if_pos hj];obtain⟨q1,ah⟩:=MC.1 hj;rw[<-cq];exact g3 y.t aBH;rw[if_neg hj,if_neg hj,<-cq];exact h.vM.new hy;rw[C_] at q;split at q<;>simp at q
def qV.both{A C:List cT}(h:qV A [] C){u v w:cT}(h1:u.f<u.t)(h2:v.f<v.t)(h3:v.f=u.t)(h4:w.f=u.f)(h5:w.t=v.t)(h6:v.m=u.m)(h7:w.m=u.m):qV (lW A u) [v] (lW C w):=by
 have e:=h.eq rfl;subst e;have hs:=(h.same h1).self;have hw:w={u with t:=v.t}:=by cases u;cases w;simp_all
 refine⟨?_,hs,λq=>aBT⟩;by_cases ha:A=[];subst ha;rw[NB] at hs⊢;rw[NB,hw];exact gK.ext (jr:=[]) hs h3 h6 h2;obtain⟨l,r,rfl⟩:=IL ha;have R5:mw r w=mw r u:=by unfold mw;rw[h4,h7]
 rw[C_] at hs⊢;rw[C_,R5];by_cases hj:mw r u=true;rw[if_pos hj] at hs⊢;rw[if_pos hj];obtain⟨q1,ah⟩:=MC.1 hj;have:=hs.ext (y:=v) h3 (by rw[h6];exact ah.symm) h2;rw[h5];exact this;rw[if_neg hj] at hs⊢;rw[if_neg hj,hw];exact hs.ext h3 h6 h2
def iz(inl:Int->Bool)(fr to:Int)(out:List cT)(x:Int×T):List cT:=if uC inl x/\x.1<to/\fr<x.1+(x.2.size:Int) then lW out (pz fr to x) else out
def qW:Int->List (Int×T)->Prop
 |_,[]=>True
 |p,x::r=>p<=x.1/\1<=x.2.size/\qW (x.1+(x.2.size:Int)) r
def ZO(inl:Int->Bool){f m t:Int}(h1:f<m)(h2:m<t):∀(L:List (Int×T)) (p:Int),qW p L->∀A B C,qV A B C->(B≠[]->m<=p)->
  ∃A' B' aC,L.foldl (iz inl f m) A=A'/\L.foldl (iz inl m t) B=B'/\L.foldl (iz inl f t) C=aC/\qV A' B' aC
 |[],p,_,A,B,C,h,_=>⟨A,B,C,rfl,rfl,rfl,h⟩
 |x::r,p,hL,A,B,C,h,hB=>by
  obtain⟨q1,ah,aN⟩:=hL;rw[sZ,sZ,sZ];have go:∀A' B' aC,iz inl f m A x=A'->iz inl m t B x=B'->iz inl f t C x=aC->qV A' B' aC->(B'≠[]->m<=x.1+(x.2.size:Int))->∃zx ja oZ,r.foldl (iz inl f m) (iz inl f m A x)=zx/\r.foldl (iz inl m t) (iz inl m t B x)=ja/\r.foldl (iz inl f t) (iz inl f t C x)=oZ/\qV zx ja oZ:=λA' B' aC e1 e2 bQ hi hb=>by
   rw[e1,e2,bQ];exact ZO inl h1 h2 r _ aN A' B' aC hi hb
  have hs:(1:Int)<=(x.2.size:Int):=aBH
  by_cases hw:uC inl x=true;have st:∀fr to out,iz inl fr to out x=if x.1<to/\fr<x.1+(x.2.size:Int) then lW out (pz fr to x) else out:=λfr to out=>by
   unfold iz;simp only[hw,true_and]
  by_cases c1:x.1+(x.2.size:Int)<=f;refine go A B C ?_ ?_ ?_ h λhb=>?_;rw[st,if_neg aBH];rw[st,if_neg aBH];rw[st,if_neg aBH];have:=hB hb;omega;by_cases c2:t<=x.1;refine go A B C ?_ ?_ ?_ h λhb=>?_;rw[st,if_neg aBH];rw[st,if_neg aBH];rw[st,if_neg aBH];omega;by_cases c3:x.1+(x.2.size:Int)<=m;have Rp:B=[]:=by
   by_cases hb:B=[];exact hb;have:=hB hb;omega
  subst Rp;have Qy:pz f t x=pz f m x:=by unfold pz;congr 1;omega
  refine go _ [] _ (by rw[st,if_pos ⟨aBH,aBH⟩]) (by rw[st,if_neg aBH]) (by rw[st,if_pos ⟨aBH,aBH⟩]) ?_ λhb=>absurd rfl hb;rw[Qy];exact h.same aDI;by_cases c4:m<=x.1;have Qy:pz f t x=pz m t x:=by unfold pz;congr 1;omega
  refine go A _ _ (by rw[st,if_neg aBH]) (by rw[st,if_pos ⟨aBH,aBH⟩]) (by rw[st,if_pos ⟨aBH,aBH⟩]) ?_ λ_=>aBH
  rw[Qy];exact h.second aDI;have Rp:B=[]:=by
   by_cases hb:B=[];exact hb;have:=hB hb;omega
  subst Rp;refine go _ _ _ (by rw[st,if_pos ⟨aBH,aBH⟩]) (by rw[st,if_pos ⟨aBH,aBH⟩,NB]) (by rw[st,if_pos ⟨aBH,aBH⟩]) ?_ λ_=>aBH
  refine h.both ?_ ?_ ?_ ?_ ?_ rfl rfl<;>first|rfl|(unfold pz;dsimp only;omega)
  have st:∀fr to out,iz inl fr to out x=out:=λfr to out=>by
   unfold iz;rw[if_neg (λq=>hw q.1)]
  exact go A B C (st _ _ _) (st _ _ _) (st _ _ _) h λhb=>by have:=hB hb;omega
open Go.Proofs.YtggeooeohcbdhaaGreatDoor.gK renaming nil->ON
mutual
def sI:T->Int->List (Int×T)
 |.node _ ks,a=>nG ks a
 |.leaf _,_=>[]
 |.text _ _,_=>[]
def nG:List T->Int->List (Int×T)
 |[],_=>[]
 |k::r,a=>(match k with
  |.node h ks=>sI (.node h ks) (a+1)
  |.leaf h=>[(a,.leaf h)]
  |.text h x=>[(a,.text h x)])++nG r (a+(k.size:Int))
end
def qW.mono:∀{l:List (Int×T)} {p q:Int},qW q l->p<=q->qW p l
 |[],_,_,_,_=>trivial
 |x::r,p,q,h,hpq=>⟨Int.le_trans hpq h.1,h.2.1,h.2.2⟩
def qW.app:∀{l m:List (Int×T)} {p q:Int},qW p l->(∀x∈l,x.1+(x.2.size:Int)<=q)->p<=q->qW q m->qW p (l++m)
 |[],m,p,q,_,_,h,hm=>hm.mono h
 |x::r,m,p,q,h,hx,hpq,hm=>by
  obtain⟨h1,h2,h3⟩:=h;exact⟨h1,h2,h3.app (λy hy=>hx y aB9) (hx x aBI) hm⟩
mutual
theorem Tc:∀(t:T),jo t->∀a,qW a (sI t a)/\∀x∈sI t a,a<=x.1/\x.1+(x.2.size:Int)<=a+(sizes (hD t):Int)
 |.node h ks,hg,a=>by
  rw[sI];exact Tb ks hg.2.2 a
 |.leaf h,_,a=>by rw[sI];exact⟨trivial,λx hx=>aDc⟩
 |.text h r,_,a=>by rw[sI];exact⟨trivial,λx hx=>aDc⟩
theorem Tb:∀(ks:List T),qt ks->∀a,qW a (nG ks a)/\∀x∈nG ks a,a<=x.1/\x.1+(x.2.size:Int)<=a+(sizes ks:Int)
 |[],_,a=>by rw[nG];exact⟨trivial,λx hx=>aDc⟩
 |k::r,hg,a=>by
  obtain⟨hk,hr⟩:=hg;obtain⟨r1,r2⟩:=Tb r hr (a+(k.size:Int));have main:∀l:List (Int×T),qW a l->(∀x∈l,a<=x.1/\x.1+(x.2.size:Int)<=a+(k.size:Int))->qW a (l++nG r (a+(k.size:Int)))/\∀x∈l++nG r (a+(k.size:Int)),a<=x.1/\x.1+(x.2.size:Int)<=a+(sizes (k::r):Int):=λl h1 h2=>by
   refine⟨h1.app (λx hx=>(h2 x hx).2) aBH r1,λx hx=>?_⟩;have hs:sizes (k::r)=k.size+sizes r:=rfl
   rcases dZ.1 hx with q|q
   have:=h2 x q;omega;have:=r2 x q;omega
  cases k with
  |node h ks=>
   obtain⟨k1,k2⟩:=Tc (.node h ks) hk (a+1);rw[nG];refine main _ (k1.mono aBH) λx hx=>?_;have:=k2 x hx;have e1:(T.node h ks).size=2+sizes ks:=rfl;have e2:hD (.node h ks)=ks:=rfl;rw[e2] at this;omega
  |leaf h=>
   rw[nG];refine main _ ⟨nj _,bl _,trivial⟩ λx hx=>?_;rw[cr.1 hx];exact⟨nj _,nj _⟩
  |text h x=>
   rw[nG];refine main _ ⟨nj _,?_,trivial⟩ λx hx=>?_;show 1<=x.length;exact DK.2 hk.2.2;rw[cr.1 hx];exact⟨nj _,nj _⟩
end
def JB{inl:Int->Bool}{fr to:Int}:∀{l:List (Int×T)} {out:List cT},(∀x∈l,¬(x.1<to/\fr<x.1+(x.2.size:Int)))->l.foldl (iz inl fr to) out=out
 |[],_,_=>rfl
 |x::r,out,h=>by
  rw[sZ];have:iz inl fr to out x=out:=by
   unfold iz;rw[if_neg λq=>h x aBI q.2]
  rw[this];exact JB λy hy=>h y aB9
mutual
theorem aiq{inl:Int->Bool}{fr to:Int}:∀(t:T),jo t->∀a out,(mE fr to t a).foldl (lX inl fr to) out=(sI t a).foldl (iz inl fr to) out
 |.node h ks,hg,a,out=>by
  rw[mE,sI];exact aio ks hg.2.2 a out
 |.leaf h,_,a,out=>by rw[mE,sI];rfl
 |.text h r,_,a,out=>by rw[mE,sI];rfl
theorem aio{inl:Int->Bool}{fr to:Int}:∀(ks:List T),qt ks->∀a out,(oW fr to ks a).foldl (lX inl fr to) out=(nG ks a).foldl (iz inl fr to) out
 |[],_,a,out=>by rw[oW,nG];rfl
 |k::r,hg,a,out=>by
  by_cases q:to<=a;have h2:=(Tb (k::r) hg a).2;rw[oW,if_pos q,JB λx hx z=>aEu];rfl;obtain⟨hk,hr⟩:=hg;rw[oW,if_neg q,V9,aio r hr];have key:∀l:List (Int×T),nG (k::r) a=l++nG r (a+(k.size:Int))->(if fr<a+(k.size:Int) then(a,k)::mE fr to k (a+1) else []).foldl (lX inl fr to) out=l.foldl (iz inl fr to) out->(nG r (a+(k.size:Int))).foldl (iz inl fr to) ((if fr<a+(k.size:Int) then(a,k)::mE fr to k (a+1) else []).foldl (lX inl fr to) out)=(nG (k::r) a).foldl (iz inl fr to) out:=λl e1 e2=>by
   rw[e1,V9,e2]
  cases k with
  |node h ks=>
   refine key (sI (.node h ks) (a+1)) (by rw[nG]) ?_;by_cases ah:fr<a+((T.node h ks).size:Int);rw[if_pos ah,sZ];have hw:uC inl (a,T.node h ks)=false:=by
    unfold uC;show((h.kind !=1)&&_)=false;rw[hk.2.1];rfl
   have hs:lX inl fr to out (a,.node h ks)=out:=by
    unfold lX;rw[hw];rfl
   rw[hs];exact aiq (.node h ks) hk (a+1) out;rw[if_neg ah,ajd];symm;apply JB;intro x hx z;have:=(Tc (.node h ks) hk (a+1)).2 x hx;have e1:(T.node h ks).size=2+sizes ks:=rfl;have e2:hD (.node h ks)=ks:=rfl;rw[e2] at this;omega
  |leaf h=>
   refine key [(a,.leaf h)] (by rw[nG]) ?_;by_cases ah:fr<a+((T.leaf h).size:Int);rw[if_pos ah,sZ,mE];show lX inl fr to out (a,.leaf h)=iz inl fr to out (a,.leaf h);unfold lX iz;have:(uC inl (a,T.leaf h)=true/\a<to/\fr<a+((T.leaf h).size:Int))↔uC inl (a,T.leaf h)=true:=⟨λz=>z.1,λz=>⟨z,aBH,ah⟩⟩;simp only[this];rw[if_neg ah,ajd];symm;apply JB;intro x hx z;rw[cr.1 hx] at z;exact ah z.2
  |text h y=>
   refine key [(a,.text h y)] (by rw[nG]) ?_;by_cases ah:fr<a+((T.text h y).size:Int);rw[if_pos ah,sZ,mE];show lX inl fr to out (a,.text h y)=iz inl fr to out (a,.text h y);unfold lX iz;have:(uC inl (a,T.text h y)=true/\a<to/\fr<a+((T.text h y).size:Int))↔uC inl (a,T.text h y)=true:=⟨λz=>z.1,λz=>⟨z,aBH,ah⟩⟩;simp only[this];rw[if_neg ah,ajd];symm;apply JB;intro x hx z;rw[cr.1 hx] at z;exact ah z.2
end
def UG{inl:Int->Bool}{t:T}(hg:jo t)(fr to:Int):kT inl fr to (k8 fr to t)=if fr<to then(sI t 0).foldl (iz inl fr to) [] else []:=by
 unfold k8 kT;by_cases q:fr<to;rw[if_pos q,if_pos q];exact aiq t hg 0 [];rw[if_neg q,if_neg q];rfl
def Q2{inl:Int->Bool}{fr to:Int}(h:fr<to):∀{L:List (Int×T)} {p:Int} {A:List cT},qW p L->gK A A->gK (L.foldl (iz inl fr to) A) (L.foldl (iz inl fr to) A)
 |[],_,_,_,hA=>hA
 |x::r,p,A,hL,hA=>by
  obtain⟨q1,ah,aN⟩:=hL;rw[sZ];refine Q2 h aN ?_;unfold iz;split;rename_i z;exact((qV.mk (B:=[]) (by rw[e4];exact hA) hA λ_=>rfl).same (x:=pz fr to x) aDI).self;exact hA
def awV{inl:Int->Bool}{t:T}(hg:jo t){a b c:Int}(h1:a<=b)(h2:b<=c):gK (kT inl a b (k8 a b t)++kT inl b c (k8 b c t)) (kT inl a c (k8 a c t)):=by
 have hL:=(Tc t hg 0).1;rw[UG hg,UG hg,UG hg];by_cases q1:a<b;by_cases ah:b<c;obtain⟨A,B,C,e1,e2,bQ,hi⟩:=ZO inl q1 ah (sI t 0) 0 hL [] [] [] ⟨ON,ON,λ_=>rfl⟩ (λz=>absurd rfl z);rw[if_pos q1,if_pos ah,if_pos aBH,e1,e2,bQ];exact hi.vM;have e:b=c:=aBH
 subst e;rw[if_pos q1,if_neg ah,e4];exact Q2 q1 hL ON;have e:a=b:=aBH
 subst e;rw[if_neg q1,eR];by_cases ah:a<c;rw[if_pos ah];exact Q2 ah hL ON;rw[if_neg ah];exact ON
def TO{l:List cT}(h:∀r∈l,r.m.length=8):bV 10 (l.map λr=>bT (ez r))=true:=by
 unfold bV;rw[c_];intro x hx;obtain⟨r,hr,rfl⟩:=cO.1 hx;have ok:=Dk (h r hr);simp only[gm];rw[ok.2,ok.1];rfl
def Ju(r:cT)(hp:List aa):aq hp false 1 (.fp (ez r) 0)=some (.v (.int .i64 r.f)):=rfl
def NN(r:cT)(hp:List aa):aq hp false 1 (.fp (ez r) 1)=some (.v (.int .i64 r.t)):=rfl
def FA{r:cT}(h:r.m.length=8)(hp:List aa):aq hp true 8 (.fp (ez r) 2)=some (.agg (r.m.map ep)):=by
 have ok:=Dk h;simp only[aq];unfold dB;rw[if_pos rfl,if_pos (by rw[ok.1];decide)];show some (bT (List.take 8 (r.m.map ep)))=_;rw[kG (by simp[h])]
def drop_cons{α:Type}{l r:List α}{k:Nat}{x:α}(h:l.drop k=x::r):l[k]?=some x/\l.drop (k+1)=r/\k<l.length:=by
 have h1:k<l.length:=by
  apply Nat.lt_of_not_le;intro z;rw[List.drop_eq_nil_of_le z] at h;cases h
 rw[F8 h1] at h;simp only[List.cons.injEq] at h;exact⟨by rw[br h1,h.1],h.2,h1⟩
section
variable{G:Cells}
def avp(bz:eE G)(aa9:ck G az 5 [] (.v (.bool true)))(w:List UInt8)(hw:w.length<=9223372036854775807){v:U}{l:List de}(hv:bL v (l.map l5))(ho:∀t∈l,t.cA)(a b c:Int):
  ck G az 3 [ai w,v,.agg [.v (.int .i64 a),.v (.int .i64 b),.v (.int .i64 c)]] (.v (.bool true)):=by
 refine ef (AB.go ?_);have y0:∀a b c,nY 0 (.aK [a,b,c])=some a:=λ_ _ _=>rfl;have y1:∀a b c,nY 1 (.aK [a,b,c])=some b:=λ_ _ _=>rfl;have eg:∀a b c,nY 2 (.aK [a,b,c])=some c:=λ_ _ _=>rfl;obtain⟨h0,vg⟩:∃h0:List aa,h0=[.cells [.v (.int .i64 a),.v (.int .i64 b),.v (.int .i64 c)] false]:=⟨_,rfl⟩;have b0:h0[0]?=some (.cells [.v (.int .i64 a),.v (.int .i64 b),.v (.int .i64 c)] false):=by rw[vg];rfl
 have ca:(bT [.v (.int .i64 a),.v (.int .i64 b),.v (.int .i64 c)]).cells=[.v (.int .i64 a),.v (.int .i64 b),.v (.int .i64 c)]:=rfl;have e0:jH 3 1 (.mp 0 0) (.v (.int .i64 0))=some (.mp 0 0):=rfl;have e1:jH 3 1 (.mp 0 0) (.v (.int .i64 1))=some (.mp 0 1):=rfl;have e2:jH 3 1 (.mp 0 0) (.v (.int .i64 2))=some (.mp 0 2):=rfl;have l0:aq h0 false 1 (.mp 0 0)=some (.v (.int .i64 a)):=by rw[vg];rfl
 have l1:aq h0 false 1 (.mp 0 1)=some (.v (.int .i64 b)):=by rw[vg];rfl
 have l2:aq h0 false 1 (.mp 0 2)=some (.v (.int .i64 c)):=by rw[vg];rfl
 refine cM (λe g=>e=[(0,ai w),(1,v),(5,.mp 0 0)]/\g=h0) ?_ ?_;refine cV @ca ?_;exact⟨trivial,vg.symm⟩;rintro e g ⟨rfl,hg⟩;subst hg;have live:aE G az 5 [] g λr h'=>r=.v (.bool true)/\h'=g:=dx aa9 bS ⟨rfl,rfl⟩;have b5:dn v:=Eh hv λx hx=>by
  obtain⟨t,_,rfl⟩:=cO.1 hx;exact GX t
 refine fY ?_;refine gf (ayG bz w hw hv ho) (aP (q9 _) (aP b5 bS)) ?_;rintro _ ⟨S,n,ok,rfl,hok⟩;cases ok with
 |false=>
  refine gV @y0 @y1 @eg ?_;refine aZ live ?_;rintro r g2 ⟨rfl,rfl⟩;refine fY ?_;exact(aB _).done
 |true=>
  obtain⟨hS,aa4,t,ht,hsh,rfl⟩:=hok rfl;obtain⟨au,mv,rows,afb,s⟩:=hS.c;obtain⟨za,aBC⟩:=ak8 ht ho;have hc:=s.clean;have hK:∀u:T,jo u->u.size<=t.size->(hD u).length<=1000000:=λu hu hz=>by have:=asS hu;omega
  have hvl:∀fr to,(k8 fr to t).length<=100000000:=λfr to=>by have:=(P3 za fr to).1;omega
  have runs:∀fr to,ck G az 6 [S,t.aG,.v (.int .i64 fr),.v (.int .i64 to)] (uo (kT (j6 rows) fr to (k8 fr to t))):=awT s za hK aBH hvl;have imp:∀x y,mN [S,t.aG,.v x,.v y] [S,t.aG,.v x,.v y]:=λx y=>aP hc (aP (u6 t) (aP (bM _) (aP (bM _) bS)));refine vS @y0 @y1 @eg @e0 @e1 @e2 @l0 @l1 @l2 ?_;have aAc:∀(Q:Prop),Q->Q:=λ_ h=>h;refine bA (λq1=>?_) λq1=>?_;refine cV @q1 ?_;refine aZ live ?_;rintro r g2 ⟨rfl,rfl⟩;refine fY ?_;exact(aB _).done;refine nQ @q1 @e1 @e2 @l1 @l2 ?_;refine bA (λah=>?_) λah=>?_;refine cV @ah ?_;refine aZ live ?_;rintro r g2 ⟨rfl,rfl⟩;refine fY ?_;exact(aB _).done;have hab:a<=b:=aCN
  have hbc:b<=c:=aB8
  have vM:=awV (inl:=j6 rows) za hab hbc;have ma:=UI za (j6 rows) a b;have IT:=UI za (j6 rows) b c;have eM:=UI za (j6 rows) a c;have la:=UH za (j6 rows) a b;have lb:=UH za (j6 rows) b c;have lc:=UH za (j6 rows) a c;have r1:=runs a b;have r2:=runs b c;have fX:=runs a c;generalize kT (j6 rows) a b (k8 a b t)=A at vM ma la r1;generalize kT (j6 rows) b c (k8 b c t)=B at vM IT lb r2;generalize kT (j6 rows) a c (k8 a c t)=C at vM eM lc fX;refine nQ @ah @e0 @e1 @l0 @l1 ?_;refine dx r1 (imp _ _) ?_;refine mG @e1 @e2 @l1 @l2 ?_;refine dx r2 (imp _ _) ?_;refine mG @e0 @e2 @l0 @l2 ?_;refine dx fX (imp _ _) ?_;obtain⟨v1,g1,p1,o1,_⟩:=afX (B:=g.length) (hp:=g) (v:=.sl [] .exact) (xs:=[]) (n:=10) (aY:=32) (e:=35) (ay rfl) (bl _) (NS A) rfl (TO ma) aBJ aBJ aBK;obtain⟨v2,g2,p2,o2,_⟩:=afX (aY:=32) o1 aBH (NS B) (by rw[eR];exact TO ma) (TO IT) aBJ aBJ aBK;rw[eR,<-eX] at o2;obtain⟨tl,rfl⟩:=o2.sl;have mp:∀r∈A++B,r.m.length=8:=λr hr=>by
   rcases dZ.1 hr with z|z
   exact ma r z;exact IT r z
  have bs:dA 10 []=some (.sl [] .exact):=rfl;have at0:(A++B).length<=1000:=aC0
  generalize A++B=D at vM o2 mp at0 p2;have ln:=(NS C).bO;rw[b_] at ln;have aeR:∀hp,bO (uo C) hp=some (.v (.int .i64 (C.length:Int)),hp):=λhp=>aCl
  have E2:∀hp,bO (.sl (D.map λr=>bT (ez r)) tl) hp=some (.v (.int .i64 (D.length:Int)),hp):=λhp=>by rw[axx,b_]
  have IA:∀{i:Nat} {r:cT},C[i]?=some r->bu 10 (uo C) (.v (.int .i64 (i:Int)))=some (.fp (ez r) 0):=λ{i r} h=>by
   have:=(NS C).bK (n:=10) (k:=.i64) (i:=i) (x:=.agg (ez r)) (by rw[eC,h];rfl) (Dk (eM r (bG h))).1;exact this
  have My:∀{i:Nat} {r:cT},D[i]?=some r->bu 10 (.sl (D.map λr=>bT (ez r)) tl) (.v (.int .i64 (i:Int)))=some (.fp (ez r) 0):=λ{i r} h=>by
   have:=ku (n:=10) (t:=tl) (k:=.i64) (i:=i) (xs:=D.map λr=>bT (ez r)) (x:=.agg (ez r)) (by rw[eC,h];rfl) (Dk (mp r (bG h))).1;exact this
  refine gV @bs @p1 @p2 ?_;refine cj (λi e h=>∃k:Nat,e=[(12,uo C),(13,.sl (D.map λr=>bT (ez r)) tl),(14,.v (.int .i64 (k:Int))),(15,.v (.int .i64 (i:Int)))]/\gK (D.drop k) (C.drop i)/\k<=D.length/\h=g2) C.length ⟨0,rfl,vM,ic _,rfl⟩ ?_ ?_;rintro i e h hi ⟨k,rfl,hT,hk,rfl⟩;obtain⟨R,hR⟩:∃R,C[i]?=some R:=⟨C[i],br hi⟩;have xd:C.drop i=R::C.drop (i+1):=by
   rw[F8 hi];rw[br hi] at hR;rw[mL hR]
  rw[xd] at hT;have al8:decide ((i:Int)<(C.length:Int))=true:=decide_eq_true aBH;have w1:b7.wrap ((i:Int)+1)=((i+1:Nat):Int):=jA aBH;have E5:=eM R (bG hR);generalize hX:D.drop k=X at hT;cases hT with
  |@cons _ seg ps _ hs h2=>
   obtain⟨s1,s2,c8⟩:=hs;refine fh (λe g=>e=[(12,uo C),(13,.sl (D.map λr=>bT (ez r)) tl),(14,.v (.int .i64 (k:Int))),(15,.v (.int .i64 (i:Int)))]/\g=h) ?_ ?_;refine fG @aeR @al8 ?_;exact⟨trivial,trivial⟩;rintro e g3 ⟨rfl,rfl⟩;refine fh (λe g=>∃k2:Nat,e=[(12,uo C),(13,.sl (D.map λr=>bT (ez r)) tl),(14,.v (.int .i64 (k2:Int))),(15,.v (.int .i64 (i:Int)))]/\gK (D.drop k2) (C.drop (i+1))/\k2<=D.length/\g=g3) ?_ ?_;rw[xP];refine fh (λe g=>e=[(12,uo C),(13,.sl (D.map λr=>bT (ez r)) tl),(14,.v (.int .i64 (k:Int))),(15,.v (.int .i64 (i:Int))),(16,.v (.int .i64 R.f))]/\g=g3) ?_ ?_;refine fG (IA hR) @Ju ?_;exact⟨trivial,trivial⟩;rintro e g4 ⟨rfl,rfl⟩;refine fh (λe g=>∃k2:Nat,e=[(12,uo C),(13,.sl (D.map λr=>bT (ez r)) tl),(14,.v (.int .i64 (k2:Int))),(15,.v (.int .i64 (i:Int))),(16,.v (.int .i64 R.t))]/\D.drop k2=ps/\k2<=D.length/\g=g4) ?_ ?_;refine fY ?_;refine mF (n:=D.length-k) (λn e g=>∃(k2:Nat) (aV:Int) (JA:List cT),n=D.length-k2/\e=[(12,uo C),(13,.sl (D.map λr=>bT (ez r)) tl),(14,.v (.int .i64 (k2:Int))),(15,.v (.int .i64 (i:Int))),(16,.v (.int .i64 aV))]/\D.drop k2=JA++ps/\uT aV R.t JA/\(∀x∈JA,x.m=R.m)/\k2<=D.length/\g=g4) ⟨k,R.f,seg,rfl,rfl,hX,s1,s2,hk,rfl⟩ ?_;rintro n e g5 ⟨k2,aV,JA,rfl,rfl,hd,q1,ah,hk2,rfl⟩;cases JA with
   |nil=>
    have Jl:aV=R.t:=q1;subst Jl;have Qv:decide (R.t<R.t)=false:=decide_eq_false aBH
    rcases cE k2 D.length with fu|fu
    obtain⟨y,hy⟩:∃y,D[k2]?=some y:=⟨D[k2],br fu⟩;have CT:=mp y (bG hy);have d2:decide ((k2:Int)<(D.length:Int))=true:=decide_eq_true aBH;cases d3:(y.f==R.t) with
    |false=>
     refine nQ @E2 @d2 (My hy) @Ju @d3 ?_;exact⟨k2,rfl,hd,hk2,trivial⟩
    |true=>
     cases d4:decide (y.m=R.m) with
     |false=>
      refine Bf (dV @E2 @d2 (My hy) (IA hR)) @Ju @NN (FA CT) (FA E5) (Lv CT E5) @d3 @d4 ?_;exact⟨k2,rfl,hd,hk2,trivial⟩
     |true=>
      refine vS (dV @E2 @d2 (My hy) (IA hR)) @Ju @NN (FA CT) (FA E5) (Lv CT E5) @d3 @d4 @Qv ?_;exact⟨k2,rfl,hd,hk2,trivial⟩
    have d2:decide ((k2:Int)<(D.length:Int))=false:=decide_eq_false aBH;refine cV @E2 ?_;exact⟨k2,rfl,hd,hk2,trivial⟩
   |cons x r=>
    obtain⟨x1,x2,x3,mH⟩:=q1;obtain⟨hy,pN,fu⟩:=drop_cons hd;have CT:=mp x (bG hy);have d2:decide ((k2:Int)<(D.length:Int))=true:=decide_eq_true aBH;have d3:(x.f==aV)=true:=beq_iff_eq.2 x1;have d4:decide (x.m=R.m)=true:=decide_eq_true (ah x (zw ..));have Qv:decide (aV<R.t)=true:=decide_eq_true aBH;have w2:b7.wrap ((k2:Int)+1)=((k2+1:Nat):Int):=jA aBH;refine Du (dV @E2 @d2 (My hy) (IA hR)) (dV @Ju @NN (FA CT) (FA E5)) (Lv CT E5) @d3 @d4 @Qv @w2 ?_;exact⟨_,aBH,k2+1,x.t,r,rfl,rfl,pN,mH,λz hz=>ah z (qP _ hz),aBH,trivial⟩
   rintro e g5 ⟨k2,rfl,hd,hk2,rfl⟩;have bN:(R.t !=R.t)=false:=aBI
   refine gV (IA hR) @NN @bN ?_;exact⟨k2,rfl,by rw[hd];exact h2,hk2,trivial⟩;rintro e g4 ⟨k2,rfl,aoh,hk2,rfl⟩;refine fY ?_;exact⟨k2,rfl,aoh,hk2,trivial⟩
  rintro e h ⟨k,rfl,hT,hk,rfl⟩;have dl:decide ((C.length:Int)<(C.length:Int))=false:=decide_eq_false aBH;rw[List.drop_length] at hT;have cK:k=D.length:=by
   generalize hX:D.drop k=X at hT;cases hT;have:=congrArg zq hX;rw[v_,fQ] at this;omega
  subst cK;have al5:((D.length:Int)==(D.length:Int))=true:=aBI
  refine mG @aeR @dl @E2 @al5 ?_;refine dx aa9 bS ?_;refine fY ?_;exact(aB _).done
end
def ax8{P:Program}{W:World}{base:Nat}{t:TypeId}{v:Value}(ht:P.underlying t=some .string)(hv:J_ P W .any base t v)(h:mM W [.s] v.cells.toList):∃b:List UInt8,v=.string ⟨⟨b⟩⟩/\b.length<=9223372036854775807:=by
 obtain⟨w,r,e1,h1,h2⟩:=wO h;rw[KZ h2] at e1;have:v=w:=by
  cases v
  case agg cs=>simp[J_,ht,Cell.okWide,Cell.ok] at hv
  all_goals
   simp[vY] at e1;exact e1
 subst this;cases h1 with
 |@s x hx=>exact⟨x.data.toList,rfl,by simpa[maxLen] using hx⟩
def akd{W:World}{v:Value}(h:mM W [.i .i64,.i .i64,.i .i64] v.cells.toList):∃a b c:Int,v=.agg #[.int .i64 a,.int .i64 b,.int .i64 c]:=by
 obtain⟨x,r,e1,h1,h2⟩:=wO h;obtain⟨y,r2,rfl,h3,h4⟩:=wO h2;obtain⟨z,fX,rfl,h5,h6⟩:=wO h4;cases KZ h6;obtain⟨a,rfl,_⟩:=zW h1;obtain⟨b,rfl,_⟩:=zW h3;obtain⟨c,rfl,_⟩:=zW h5;refine⟨a,b,c,?_⟩;cases v
 case agg cs=>
  have:cs= #[.int .i64 a,.int .i64 b,.int .i64 c]:=by rw[<-Array.toArray_toList (xs:=cs)];exact congrArg List.toArray e1
  rw[this]
 all_goals simp[vY] at e1
def awf{C:Cells}{M:List aJ.Loc}{hp:List aa}{cs:List U}{vs:Array Value}(h:bY C M hp cs vs.toList):aI C M hp (.agg cs) (.agg vs):=.agg aDx λi a b ha hb=>h.2 i a b ha aB0
def amS:vX.params.toList.mapM (B3 az 20)=some [[.s],[.sl aib],[.i .i64,.i .i64,.i .i64]]:=aBL
def av_:(vX.params.toList.all λt=>az.readableRec t&&decide (t<az.types.size))=true:=aBL
def awk:vX.resultTypes= #[4]:=aBL
set_option maxRecDepth 100000 in
def aw3(H:Type)(enc:TypeId×Value->H)(W:World)(base:Nat)(args:Array Value)(ds gs:List (DataW H))(before:List MemPlace)
  (hval:∀(j:Nat) t v,vX.params[j]?=some t->args[j]?=some v->J_ az W .any base t v)
  (hW:DataW.Whole enc az vX.params.toList J7.vars false W args.toList ds gs before) (hL:laidMetH az laid W) (hsh:W.ShapedOpen az):
  Calls az 3 args W λe W'=>∃v,e=.returned v/\J7.post enc az vX false true false false W args v W':=by
 rw[Tryz.params3] at hval;have Rz:=hW;obtain⟨p,q,hA,hV,rfl,hz,hn⟩:=hW;obtain⟨n1,n2,hcells⟩:=XC amS hA;obtain⟨v1,v2,v3,hargs⟩:∃v1 v2 v3,args.toList=[v1,v2,v3]:=by
  generalize args.toList=l at n1
  match l,n1 with
  |[a,b,c],_=>exact⟨a,b,c,rfl⟩
 obtain⟨d1,d2,d3,rfl⟩:∃d1 d2 d3,ds=[d1,d2,d3]:=by
  match ds,n2 with
  |[a,b,c],_=>exact⟨a,b,c,rfl⟩
 obtain rfl:args= #[v1,v2,v3]:=by cases args;simp_all
 obtain⟨w,rfl,hw⟩:=ax8 Tryz.underlying9 (hval 0 _ v1 rfl rfl) (hcells 0 _ _ rfl rfl);obtain⟨o2,k2,r2⟩:=ava (f:=l5) ayE aBJ (cellArg Tryz.underlying22 (hval 1 _ v2 rfl rfl) (hcells 1 _ _ rfl rfl));obtain⟨a,b,c,rfl⟩:=akd (hcells 2 _ _ rfl rfl);obtain⟨bz,hT⟩:=anO hsh hL;exact as9 laidOut Tryz.underlying4 awk (awa av_) rfl (λgs hg=>by subst hg;rfl) Rz hT
  (avp bz (atM bz) w hw (axz l5 o2) k2 a b c)
  (by exact vB (aI.v rfl) (vB r2 (vB (awf (vB (AZ _ _) (vB (AZ _ _) (vB (AZ _ _) Ux)))) Ux)))
def as6(os:Os)(args:Array Value):laidMetH az laid ((World.laidAll az os laid).forCall (λ_ _=>0) ⟨#[],args,[]⟩).memory:=by
 rw[azJ _ _ _ aeA];exact laidMet_laidAll _ aBL aBL
set_option maxRecDepth 100000 in
def aw5(os:Os)(started:os.Started)(H:Type)(enc:TypeId×Value->H):
  ReturnsInHanded {} aiZ os 3 .any (λw args=>(J7.pre enc az vX [] false w args/\laidMetH az laid w)/\sizedMet enc az vX (VZ J7) false w args)
   (J7.post enc az vX false true false false):=by
 refine awo (C:=aiZ) (X:=λw _=>laidMetH az laid w) (λ_ _ _ hh h=>h.of_heap hh) asT started aBL Tryz.func3
  (ChangeSpec.witness_shaped (enc:=enc) (C:=aiZ) (os:=os) (X:=λw _=>laidMetH az laid w) false (World.laidAll az os laid) #[.string ⟨#[]⟩,.slice none 0 0,.agg #[.int .i64 0,.int .i64 0,.int .i64 0]] 8 (World.laidAll_os _ _ _) (World.shaped_of_ZipB aBL aBL) aBL aBL aBL (as6 os _)) ?_
 intro W base args ds gs before hval hW hL hsh;exact aw3 H enc W base args ds gs before hval hW hL hsh
def aqv:(zm.inPlace==az.inPlace 3)=true:=aBL
def ay1:(zm.unfollowed==az.unfollowed 3)=true:=aBL
def awd:(zm.recurses==az.recurses 3)=true:=aBL
def auD:(zm.named==az.varsNamed 3)=true:=aBL
def anN:false=zm.goesBy az:=aBL
def afg:az.funcNamed zm.func=some 3:=aBL
def aBo:az.inits.idxOf? 3=none:=aBL
def aqW:joinedFacts az 3 vX J7 zm=true:=
 aqX aBL laidOut aue aBL aBL aBL ax5 aBL ax3 aqv ay1 awd auD aBL aBL aBL aBL aBL aBL aBL aBL aBL asN aBL ax4 aun atF at4 aBL aBL aBL aBL
def aw4:Rows.ScanPartsSaid:=
 OpenClaim.holds_of_wide 3 vX rfl rfl rfl rfl rfl rfl rfl ⟨rfl,rfl,rfl,rfl,rfl⟩ rfl rfl rfl rfl rfl afg Tryz.func3 aqW
  (of_decide_eq_true aBL) (by unfold Func.isWrapper;first|(rw[if_pos aCz];kernel_rfl)|(rw[if_neg aCz];exact⟨rfl,rfl⟩))
  (λos started H enc _=>aw5 os started H enc)
def ax2(t:TypeId)(ht:t∈[9,22,23]):az.wantsStandIn t=false:=by
 have hall:([9,22,23].all λu=> !az.wantsStandIn u)=true:=aBL
 simpa using c_.1 hall t ht
theorem scanParts_card:Rows.ScanPartsCardSaid:=
 Claim7.holds_tied_plain_at .later [] [.data,.data,.data,.data,.sentinel,.sentinel,.pinned] true (true,"99589eb1fd3497b6fd5b2a4b61eddd5a43368610bb47a355c4815e8df76eb415") true aw4 (λ_ h=>aB1) aBL (λ_ h=>aB1) scanParts_row_tie rfl ⟨rfl,rfl⟩ at3 rfl
  (λf fn hf hfn=>by
    obtain rfl:f=3:=mL (afg.symm.trans hf)|>.symm;obtain rfl:fn=vX:=(mL (Tryz.func3.symm.trans hfn)).symm;exact⟨atX,λj t ht=>by
     rw[Tryz.params3] at ht;exact ax2 t (by simpa using Array.mem_of_getElem? ht)⟩)
  anN
#print axioms scanParts_card
end Go.Proofs.YtggeooeohcbdhaaGreatDoor

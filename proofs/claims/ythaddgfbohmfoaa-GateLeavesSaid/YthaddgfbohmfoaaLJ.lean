/-
  A symbolic run of the model, proved sound, and the walk of the code: a text of its parts. Conditions: none.
-/
import Derived.Test.YthaddgfbohmfoaaLI
set_option linter.unusedSectionVars false
set_option maxRecDepth 100000
set_option linter.unusedVariables false
set_option linter.unusedSimpArgs false
namespace Go.Proofs.Ythaddgfbohmfoaa
open Go.Proofs.Ythaddgfbohmfoaa.SX Go.Conc
open Go.ConcN (upd upd_ne upd_same)
open Go.Proofs.Try renaming prog->aa
open _root_.List renaming mem_cons->ac,mem_singleton->ad,not_mem_nil->ae,map_cons->ah,nodup_nil->ai,map_nil->ak,mem_cons_of_mem->am,mem_cons_self->an,find?_cons->aw,mem_append->ay,cons_append->az,nil_append->aA,length_append->aD,getElem?_append_right->aE,getElem?_eq_getElem->aF,length_pos_iff->aG,getElem?_eq_some_iff->aH,mem_map->aJ,all_eq_true->aO,getElem?_append_left->aP,mem_filter->aU,append_nil->aX,getElem?_map->aZ,mem_of_getElem?->bf,length_map->bj
open _root_.Option renaming map_some->af
open _root_.Int renaming toNat_natCast->ap
open _root_.Nat renaming le_refl->aq,eq_of_beq_eq_true->aI,lt_succ_self->a_,lt_or_ge->bo,le_trans->bp,reduceEqDiff->br
open _root_.Option.some renaming inj->au
theorem bK.atk{ι:Type}{P:Program}{base:Nat}{w:World}{L:ι->Option (Nat×fK)}(H:bK P base w L)(σ:ι->ι)(GZ:∀r r',σ r=σ r'->r=r'):bK P base w fun r=>L (σ r):=
 ⟨fun r b k e=>H.eG _ b k e,fun r r' b k k' e e'=>GZ _ _ (H.inj _ _ b k k' e e'),fun r b k e=>H.ge _ b k e⟩
structure VK(L0 L:cg)(a:Nat)(rc:cD)(p:Pl)(RB LA cL PA cP:Nat):Prop where
 res:L (a,.app 12 1)=some (RB,.obj dY (Q_ (c_ p.bI.length LA cL) p.first p.bI.length (c_ p.cK.length PA cP) p.cd))
 arr:∃kB,L (a,.app 4 0)=some (LA,kB)∧∀i l,p.bI[i]?=some l->∃bv,kB.cell i=some bv∧qM L a bv 0 (l.map Rp.ki)
 pk:p.cK≠[]->∃k,L rc=some (PA,k)∧∀i n,p.cK[i]?=some n->k.cell i=some (iV n)
 off:∀r,r.1≠a->r≠rc->L r=L0 r
 dE:∀k,(∀j,k≠.app 3 j)->k≠.app 4 0->k≠.app 12 0->k≠.app 12 1->L (a,k)=L0 (a,k)
section
variable {base:Nat}{W0:World}{h N:Nat}{m:Machine}{T:Trace}{L:cg}{cs:List Frame}{fr:Frame}{p:Pl}{bv pv:Value}{a x:Nat}
abbrev VL(bv pv:Value)(p:Pl)(fr:Frame):Prop:=FA i7 58 [.code (bQ Fn.ki)] [] .normal [(0,.agg (sA bv p.first pv p.cd).toArray)] fr
noncomputable def VM(nB oB cB bB nP oP cP bP:Nat)(first cd:Int):cn:=gY [(1,nB),(8,oB),(7,cB),(21,nP),(28,oP),(27,cP),(31,first),(32,cd)] [(9,bB),(29,bP)] []
theorem GJ{zB zP:Bool}{nB oB cB bB nP oP cP bP:Nat}{first cd:Int}{bL:cn}(Ag:cz (dR 100) (VM nB oB cB bB nP oP cP bP first cd) bL):AV.cf bL (Ab zB zP)=sA (GD zB bB oB nB cB) first (GD zP bP oP nP cP) cd:=by
 have h1:bL.i 1=nB:=Ag.i 1 (by decide);have h2:bL.i 8=oB:=Ag.i 8 (by decide);have h3:bL.i 7=cB:=Ag.i 7 (by decide);have h4:bL.i 21=nP:=Ag.i 21 (by decide);have h5:bL.i 28=oP:=Ag.i 28 (by decide);have h6:bL.i 27=cP:=Ag.i 27 (by decide);have h7:bL.i 31=first:=Ag.i 31 (by decide)
 have h8:bL.i 32=cd:=Ag.i 32 (by decide);have h9:bL.b 9=bB:=Ag.b 9 (by decide);have zY:bL.b 29=bP:=Ag.b 29 (by decide);simp only[Ab,AV.cf,j7,h1,h2,h3,h4,h5,h6,h9,zY,ap,i64,v,AV.ev,IE.ev,h7,h8];rfl
theorem L4(hI:Dt base W0 bv pv p)(h0:L (a,.app 12 0)=none)(h1:L (a,.app 12 1)=none)(o:g_ base W0 eZ h N L (G fr cs) m T)(hf:VL bv pv p fr):
  cm aa m T fun m' T'=>∃B RB bT,g_ base W0 eZ h N (cg.set (cg.set L (a,.app 12 0) (B,.obj dY (sA bv p.first pv p.cd))) (a,.app 12 1) (RB,.obj dY [fO,iV 0,fO,iV 0])) (G bT cs) m' T'∧Qs B RB fO 0 bT:=by
 obtain⟨⟨zB,bB,oB,cB,rfl,eB,gB⟩,zP,bP,oP,cP,rfl,eP,_⟩:=hI;obtain⟨w,A,H,hS⟩:=o;let ρ:cn:=VM p.bI.length oB cB bB p.cK.length oP cP bP p.first p.cd
 have ea0:=GJ (zB:=zB) (zP:=zP) (cz.refl (dR 100) ρ);refine(cQ (cC:=[]) (cs:=cs) A H hS [] [((a,.app 12 1),101,.cells pl0 dY),((a,.app 12 0),100,.cells (Ab zB zP) dY)] (asG zB zP (bU fr)) rfl rfl (aaj zB zP _) nU (ρ:=ρ) (hf.rel (.inl rfl) [(0,.agg (Ab zB zP))] ?_ rfl) trivial (nofun) (nofun) (nofun) ai (by simp) rfl).mono fun m1 T1 hd=>?_
 ·simp only[gz,ah,ak,AV.ev,ea0]
 obtain⟨w1,bW,c9,d9,C⟩:=hd;obtain rfl:=C.none;have ea1:=GJ (zB:=zB) (zP:=zP) C.bE;refine⟨bW.b 100,bW.b 101,c9,⟨w1,C.eG,C.heap.sub (cX [(a,.app 12 1),(a,.app 12 0)] (fun q hq=>?_) (nofun) (fun q hq=>?_) fun q hq zz hz=>?_),dc⟩,?_⟩
 ·rw[cg.b7 fun e=>hq (by simp[e]),cg.b7 fun e=>hq (by simp[e])]
 ·simp only[cr,ah,ak,ac,ae,or_false]at hq;rcases hq with rfl|rfl<;>simp
 ·simp only[ac,ae,or_false]at hq;rcases hq with rfl|rfl
  ·rw[cg.cj]at hz;cases hz;refine bX ?_;simp only[cr,ah,ak,aw,decide_true,cY];rfl
  ·rw[cg.b7 (by simp),cg.cj]at hz;cases hz;refine bX ?_;simp only[cr,ah,ak,aw,Prod.mk.injEq,RK.app.injEq,true_and,and_true,decide_true,decide_false,br,Nat.one_ne_zero,cY,ea1]
 ·exact C.fr
theorem VN{B RB LA cL:Nat}{dx:List Value}{arr:Nat->Option (Nat×fK)}{lv:Value}(hI:Jc base W0 bv p.bI)(hB:L (a,.app 12 0)=some (B,.obj dY (sA bv p.first pv p.cd)))(o:g_ base W0 eZ h N (qT a LA cL dx arr L) (G fr cs) m T)(hf:Qs B RB lv p.bI.length fr):
  cm aa m T fun m' T'=>∃bT,g_ base W0 eZ h N (qT a LA cL dx arr L) (G bT cs) m' T'∧FA i7 58 tdZ [] .normal (tzB B RB lv) bT:=by
 obtain⟨w,A,H,hS⟩:=o;obtain⟨zB,bB,oB,cB,rfl,eB,gB⟩:=hI;let ρ:cn:=gY [(1,p.bI.length),(8,oB),(7,cB),(41,p.bI.length)] [(9,bB),(12,B),(13,RB)] [(70,lv)];have lB:(xB zB 1).ev ρ=p.bI.length:=tQ (ρ:=ρ) (fun e=>by show((p.bI.length:Nat):Int)=0;rw[eB e];rfl) (by show(0:Int)≤((p.bI.length:Nat):Int);omega);refine(cQ (cC:=[]) (cs:=cs) A H hS [] [] (amy zB (bU fr)) rfl rfl (VC _) (agt zB) (ρ:=ρ) (hf.rel (.inl rfl) (tdL (.ez 70)) rfl rfl) trivial (fun q hq=>?_) (fun q hq=>?_) (nofun) ai ai rfl).mono fun m1 T1 hd=>?_
 ·obtain rfl:=ad.1 hq;show decide (((p.bI.length:Nat):Int)<(xB zB 1).ev ρ)=false;rw[lB];exact decide_eq_false (by omega)
 ·obtain rfl:=ad.1 hq;refine .inl ⟨(a,.app 12 0),_,vN.trans hB,by simp,?_⟩;dsimp only;rw[j7];rfl
 ·obtain⟨w1,bW,c9,d9,C⟩:=hd;obtain rfl:=C.none;refine⟨c9,⟨w1,C.eG,C.heap.sub fun r x e=>e,dc⟩,?_⟩;have f1:=C.fr;have y12:bW.b 12=B:=C.bE.bb 12;have KQ:bW.b 13=RB:=C.bE.bb 13;have x70:bW.v 70=lv:=congrFun C.bE.v 70;simp only[AV.cf,bF,AV.ev,af,AA.ev,BR.ev,IE.ev,y12,KQ,x70]at f1;exact f1.sub fun q hq=>by
   simp only[tzB,ac,ae,or_false]at hq;rcases hq with rfl|rfl|rfl
   ·exact an ..
   ·exact am _ (an ..)
   ·exact am _ (am _ (an ..))
def ES(a:Nat)(r:cD):cD:=if r=(a,.app 4 0)then(a,.app 12 0)else if r=(a,.app 12 0)then(a,.app 4 0)else r
theorem aaw{r r':cD}(e:ES a r=ES a r'):r=r':=by unfold ES at e;by_cases h1:r=(a,.app 4 0)<;>by_cases h2:r'=(a,.app 4 0)<;>by_cases h3:r=(a,.app 12 0)<;>by_cases h4:r'=(a,.app 12 0)<;>simp_all
theorem VO(hI:Dt base W0 bv pv p)(df:x≠a)(h0:L (a,.app 12 0)=none)(h1:L (a,.app 12 1)=none)(hJ:L (a,.dN)=none)(hc:L (x,.app 2 0)=none)(hn:p.bI.length+kN p.bI≤2000)(hP:p.cK.length≤4000)(o:g_ base W0 eZ h N L (G fr cs) m T)(hf:VL bv pv p fr):
  cm aa m T fun m' T'=>∃RB LA cL PA cP L' bT,g_ base W0 eZ h N L' (G bT cs) m' T'∧GI RB bT∧VK L L' a (x,.app 2 0) p RB LA cL PA cP:=by
 have hsz:∀l∈p.bI,l.length≤2000:=fun l hl=>by
  have:l.length≤kN p.bI:=by
   unfold kN;clear hI hn hf h0 h1 hP;revert hl;generalize p.bI=Ls;intro hl
   induction Ls with
   |nil=>cases hl
   |cons y Ls ih=>
    simp only[ah,List.sum_cons];rcases ac.1 hl with rfl|hl
    ·omega
    ·have:=ih hl;omega
  omega
 refine(L4 hI h0 h1 o hf).trans fun m1 T1 hd=>?_;obtain⟨B,RB,c9,o1,f1⟩:=hd;let L1:cg:=cg.set (cg.set L (a,.app 12 0) (B,.obj dY (sA bv p.first pv p.cd))) (a,.app 12 1) (RB,.obj dY [fO,iV 0,fO,iV 0]);have hB1:L1 (a,.app 12 0)=some (B,.obj dY (sA bv p.first pv p.cd)):=(cg.b7 (by simp)).trans cg.cj;have hR1:L1 (a,.app 12 1)=some (RB,.obj dY [fO,iV 0,fO,iV 0]):=cg.cj;have hJ1:L1 (a,.dN)=none:=(cg.b7 (by simp)).trans ((cg.b7 (by simp)).trans hJ);have atl:∀{LA cL:Nat} {dx:List Value} {arr:Nat->Option (Nat×fK)},qT a LA cL dx arr L1 (x,.app 2 0)=none:=fun{LA cL dx arr}=>by unfold qT;rw[if_neg df];exact(cg.b7 (by simp)).trans ((cg.b7 (by simp)).trans hc)
 have o1':g_ base W0 eZ h N (qT a 0 0 [] (fun _=>none) L1) (G c9 cs) m1 T1:=o1.sub (fun r y e=>by
  obtain⟨z,k⟩:=r;unfold qT at e;dsimp only at e;split at e
  ·split at e
   ·cases e
   ·split at e
    ·cases e
    ·exact e
   ·exact e
  ·exact e) dc
 refine(Qu hI.1 hB1 hJ1 hsz (by omega) p.bI.length 0 (by omega) ⟨rfl,fun _ _=>rfl,fun j l hj=>absurd hj (Nat.not_lt_zero _)⟩ o1' f1).trans fun m2 T2 hd=>?_;obtain⟨LA,cL,dx,arr,iE,k2,o2,f2⟩:=hd;refine(VN hI.1 hB1 o2 f2).trans fun m3 T3 hd=>?_;obtain⟨kH,o3,f3⟩:=hd;refine(Qy (rB:=(a,.app 12 0)) (rc:=(x,.app 2 0)) (a:=a) (L:=qT a LA cL dx arr L1) (vN.trans hB1) (vN.trans hR1) atl (fun e=>by cases e) hI.2 (by omega) (by omega) o3 f3).mono fun m4 T4 hd=>?_;obtain⟨PA,cP,zV,o4,f4⟩:=hd;let L2:cg:=cg.set (cpL (qT a LA cL dx arr L1) (x,.app 2 0) PA cP p.cK) (a,.app 12 1) (RB,.obj dY (Q_ (c_ p.bI.length LA cL) p.first p.bI.length (c_ p.cK.length PA cP) p.cd));have hL2:∀r:cD,r≠(a,.app 12 1)->r≠(x,.app 2 0)->L2 r=qT a LA cL dx arr L1 r:=fun r g1 g2=>(cg.b7 g1).trans (LR g2);have amV:∀r:cD,r.1≠a->qT a LA cL dx arr L1 r=L r:=fun r hr=>by unfold qT;rw[if_neg hr];exact(cg.b7 fun e=>hr (by rw[e])).trans (cg.b7 fun e=>hr (by rw[e]))
 have OV:∀k,(∀j,k≠.app 3 j)->k≠.app 4 0->k≠.app 12 0->k≠.app 12 1->L2 (a,k)=L (a,k):=fun k g3 g4 g5 g6=>by
  refine(hL2 _ (fun e=>g6 (by cases e;rfl)) (fun e=>df (by cases e;rfl))).trans ?_;have e1:L1 (a,k)=L (a,k):=(cg.b7 fun e=>g6 (by cases e;rfl)).trans (cg.b7 fun e=>g5 (by cases e;rfl));unfold qT;dsimp only;rw[if_pos rfl];split
  ·rename_i j;exact absurd rfl (g3 j)
  ·rename_i j;rw[if_neg g4];exact e1
  ·exact e1
 have JA:p.cK≠[]->∃k,L2 (x,.app 2 0)=some (PA,k)∧∀i n,p.cK[i]?=some n->k.cell i=some (iV n):=fun hp=>by refine⟨.fF 3 cP (p.cK.map iV),(cg.b7 (by simp)).trans (Vy hp),fun i n e=>?_⟩;show(p.cK.map iV)[i]?=some (iV n);rw[aZ,e];rfl
 by_cases hb:p.bI=[]
 ·
  have hv:dx=[]:=List.length_eq_zero_iff.1 (by rw[k2.1,hb];rfl);obtain⟨w4,A4,H4,S4⟩:=o4;refine⟨RB,B,cL,PA,cP,fun r=>L2 (ES a r),zV,⟨w4,A4,bK.atk H4 (ES a) fun r r' e=>aaw e,dc⟩,f4,?_,?_,fun hp=>?_,fun r g1 g2=>?_,fun k g3 g4 g5 g6=>?_⟩
  ·show L2 (ES a (a,.app 12 1))=_;rw[show ES a (a,.app 12 1)=(a,.app 12 1)from by simp[ES],hb];exact cg.cj.trans (by rw[hb];rfl)
  ·refine⟨.obj dY (sA bv p.first pv p.cd),?_,fun i l e=>by rw[hb]at e;cases e⟩;show L2 (ES a (a,.app 4 0))=_;rw[show ES a (a,.app 4 0)=(a,.app 12 0)from by simp[ES]];exact(hL2 _ (by simp) (by simp)).trans (vN.trans hB1)
  ·show ∃k,L2 (ES a (x,.app 2 0))=some (PA,k)∧_;rw[show ES a (x,.app 2 0)=(x,.app 2 0)from by simp[ES]];exact JA hp
  ·show L2 (ES a r)=L r;rw[show ES a r=r from by
    unfold ES;rw[if_neg fun e=>g1 (by rw[e]),if_neg fun e=>g1 (by rw[e])]]
   exact(hL2 r (fun e=>g1 (by rw[e])) g2).trans (amV r g1)
  ·show L2 (ES a (a,k))=L (a,k);rw[show ES a (a,k)=(a,k)from by
    unfold ES;rw[if_neg fun e=>g4 (by cases e;rfl),if_neg fun e=>g5 (by cases e;rfl)]]
   exact OV k g3 g4 g5 g6
 ·
  have hv:dx≠[]:=fun e=>hb (List.length_eq_zero_iff.1 (by rw[<-k2.1,e];rfl));obtain⟨w4,A4,H4,S4⟩:=o4;have h3:∀j,L2 (a,.app 3 j)=arr j:=fun j=>(hL2 _ (by simp) (by simp)).trans VD;refine⟨RB,LA,cL,PA,cP,L2,zV,⟨w4,A4,H4,S4⟩,f4,cg.cj,⟨.fF jM cL dx,?_,fun i l e=>?_⟩,JA,fun r g1 g2=>(hL2 r (fun e=>g1 (by rw[e])) g2).trans (amV r g1),OV⟩
  ·exact(hL2 _ (by simp) (by simp)).trans (VE.trans (if_neg hv))
  ·have hil:i<p.bI.length:=(aH.1 e).1;obtain⟨IA,cI,q1,q2⟩:=k2.2.2 i l hil e;refine⟨c_ l.length IA cI,q1,?_⟩;by_cases hl:l=[]
   ·subst hl;exact .inl ⟨rfl,rfl,rfl⟩
   ·have q3:L2 (a,.app 3 i)=some (IA,.fF 96 cI (kZ l)):=(h3 i).trans (q2.trans (if_neg hl));have kY:0<l.length:=aG.2 hl;have hV:lU aa w4 96 IA (kZ l) cI:=H4.eG _ _ _ q3;obtain⟨ar,rest,no,_,g2,g3,g4⟩:=hV.ex;have atm:=Jh no g2;have dI:=congrArg List.length g3;rw[aD,CA,Array.length_toList,g4,atm]at dI;refine .inr ⟨IA,0,l.length,cI,i,_,cy kY,by omega,hsz l (bf e),by simp,q3,fun q s hs=>?_⟩;rw[aZ]at hs;cases hq:l[q]? with
    |none=>rw[hq]at hs;cases hs
    |some r=>rw[hq]at hs;cases hs;obtain⟨t0,t1,t2,t3⟩:=NV hq;rw[Nat.zero_add,Nat.zero_add];refine⟨t0,?_,t2,t3⟩;refine t1.trans ?_;have:=qQ (n:=r.c) (m:=6) (by decide);show some (iV (fX r.c 6))=some (iV (((fX r.c 6).toNat:Nat):Int));rw[Int.toNat_of_nonneg this.1]
end
abbrev lG:Nat:=18
noncomputable abbrev Fn.bI:Func:=Try.f18
noncomputable def boB:Code:=pc (bQ Fn.bI) [1,1,0,1,0,0]
noncomputable def boT:List Item:=[.code boB,.inLoop boB,.inBlock 0,.code (pc (bQ Fn.bI) [1,1,1])]
noncomputable def boE(st:Nat->Value):bH:=⟨lG,21,bZ 21 st [(0,bF 40)],[.code (bQ Fn.bI)],[],.run,.normal⟩
theorem atn(st:Nat->Value):c7 (cO [] [] 15 [] (cJ (boE st) [] [])) [0,3,4] (fun _=>[])=some (⟨lG,21,boT,[],.run,.normal,[],[],[bF 40,eU,i64 (.lit 0)]⟩,[]):=by kernel_rfl
theorem aax(st:Nat->Value):bR 100 (cJ (boE st) [] [])=true:=by kernel_rfl
noncomputable def boL(l:AV):List (Nat×AV):=[(0,bF 40),(3,l),(4,i64 (v 41))]
noncomputable def boH(l:AV)(st:Nat->Value):bH:=⟨lG,21,bZ 21 st (boL l),boT,[],.run,.normal⟩
noncomputable def boM:List (AA×AV):=[(⟨.cN 40,.lit 1⟩,i64 (v 31)),(⟨.cN 40,.lit 0⟩,.slice (some ⟨.cN 50,.lit 0⟩) (v 1) (v 7))]
noncomputable def agE(z:Bool):List (BE×Bool):=[(.cmp .lss (v 41) (v 31),true),(.cmp .lss (v 41) (.lit 0),false),(.cmp .geq (v 41) (.tn (v 1)),false)]++Bool.rec [(.cmp .leq (.plus (.tn (v 61)) (.lit 1)) (.lit 1048576),true)] [] z
noncomputable def agF(z:Bool):List (Nat×bM):=Bool.rec [(60,.cH false 63 (v 61) [] [] [] 35 (v 62))] [] z
noncomputable def boF:AV:=.func (.func 65) [] [bF 100,bF 101]
noncomputable def boA(z:Bool):bM:=Bool.rec (.cH false 63 (v 61) [] [] [boF] 35 (v 103)) (.row [boF] 35 (v 103)) z
noncomputable def amW(z:Bool):List (Nat×bM):=[(103,boA z),(102,.cells [boF] 35),(101,.cells [i64 (v 41)] 2),(100,.cells [bF 40] 48)]
noncomputable def amX(z:Bool):AV:=.slice (some ⟨.cN 103,.lit 0⟩) (Bool.rec (.plus (.tn (v 61)) (.lit 1)) (.lit 1) z) (v 103)
theorem agH(z:Bool)(st:Nat->Value):c7 (cO (agE z) boM 49 [103,102,101,100] (cJ (boH (iL z 60 61 62) st) [] (agF z))) [0,3,4] (fun _=>[])=some (⟨lG,21,boT,[],.run,.normal,[],amW z,[bF 40,amX z,i64 (.op .add .i64 (v 41) (.lit 1))]⟩,[]):=by cases z<;>kernel_rfl
theorem Qz(z:Bool)(st:Nat->Value):bR 100 (cJ (boH (iL z 60 61 62) st) [] (agF z))=true:=by cases z<;>kernel_rfl
theorem aay(z:Bool):(OO (agE z) [] boM).low 100=true:=by cases z<;>kernel_rfl
noncomputable def amY:List (BE×Bool):=[(.cmp .lss (v 41) (v 31),false)]
noncomputable def amZ:List (AA×AV):=[(⟨.cN 40,.lit 1⟩,i64 (v 31))]
theorem am0(st:Nat->Value):c7 (cO amY amZ 18 [] (cJ (boH (.ez 70) st) [] [])) [2] (fun _=>[])=some (⟨lG,21,[.code .ret],[],.run,.normal,[],[],[.ez 70]⟩,[]):=by kernel_rfl
theorem VP(st:Nat->Value):bR 100 (cJ (boH (.ez 70) st) [] [])=true:=by kernel_rfl
theorem agI:(OO amY [] amZ).low 100=true:=by kernel_rfl
def XS.fn(X:XS)(i B5 B6:Nat):XS:={X with b5:=upd X.b5 i (some B5),b6:=upd X.b6 i (some (B6,(i:Int)))}
theorem aaz{a x i B5 B6:Nat}{X:XS}{L:cg}{y:Nat×fK}{r:cD}(h3:r≠(x,.app 3 0))(h5:r≠(a,.app 5 i))(h6:r≠(a,.app 6 i)):dM a (X.fn i B5 B6) (cg.set L (x,.app 3 0) y) r=dM a X L r:=by
 have e:cg.set L (x,.app 3 0) y r=L r:=cg.b7 h3;obtain⟨z,k⟩:=r;unfold dM eQ iK;dsimp only;by_cases hz:z=a
 ·subst hz;simp only[if_true,e];cases k with
  |app q j=>
   by_cases q5:q=5
   ·subst q5;have:j≠i:=fun e=>h5 (by rw[e]);simp only[XS.fn,upd_ne _ _ this]
   ·by_cases q6:q=6
    ·subst q6;have:j≠i:=fun e=>h6 (by rw[e]);simp only[XS.fn,upd_ne _ _ this]
    ·split<;>first|rfl|(split<;>first|rfl|(rename_i e;cases e;exact absurd rfl q5)|(rename_i e;cases e;exact absurd rfl q6))
  |_=>rfl
 ·simp only[if_neg hz,e]
theorem VQ(no:TypeInfo)(hi:Try.prog.info? 35=some no):no.size=1:=by
 have e2:(Try.prog.info? 35).map (fun x=>x.size)=some 1:=by kernel_rfl
 rw[hi]at e2;exact au e2
def ET(X:XS)(i:Nat)(fs:List Value):Prop:=fs.length=i∧∀j,j<i->∃c:Nat->Nat,fs[j]?=some (w_ .pM c)∧X.b5 j=some (c 11)∧X.b6 j=some (c 12,(j:Int))
structure y7(X X':XS):Prop where
 s:X'.s=X.s
 b8:X'.b8=X.b8
 nV:X'.nV=X.nV
 nW:X'.nW=X.nW
def tR(L:cg)(x FB cF:Nat)(fs:List Value):cg:=match fs with
 |[]=>L
 |fs=>cg.set L (x,.app 3 0) (FB,.fF 35 cF fs)
theorem xq{L:cg}{x FB cF:Nat}{fs:List Value}(h:fs≠[]):tR L x FB cF fs=cg.set L (x,.app 3 0) (FB,.fF 35 cF fs):=by
 cases fs with
 |nil=>exact absurd rfl h
 |cons a l=>rfl
section
variable {base:Nat}{W0:World}{h N:Nat}{m:Machine}{T:Trace}{L:cg}{cs:List Frame}{fr:Frame}{a x PB nb fI nf FB cF:Nat}{X:XS}{fs:List Value}
abbrev aaA(S:Nat)(lv:Value)(i:Nat)(fr:Frame):Prop:=FA lG 21 boT [] .normal [(0,cb S),(3,lv),(4,iV i)] fr
abbrev am1(v:Value)(fr:Frame):Prop:=FA lG 21 [.code .ret] [] .normal [(2,v)] fr
theorem agJ{s:SS}{j:Nat}{v:Value}(h:s.q[j]?=some v):s.xs[j]?=some v:=by unfold SS.xs;rw[aP (aH.1 h).1];exact h
theorem aaB{i:Nat}(df:x≠a)(hJ:L (a,.dN)=none)(vB:X.s.q[0]?=some (.slice (some ⟨PB,0,none⟩) nb fI))(xg:X.s.q[1]?=some (iV nf))(hi:i<nf)(hnb:nf≤nb)(WJ:nf≤1000000)(iw:ET X i fs)
 (o:g_ base W0 eZ h N (dM a X (tR L x FB cF fs)) (G fr cs) m T)(hf:aaA X.s.S (c_ i FB cF) i fr):
  cm aa m T fun m' T'=>∃X' G1 cF' W6 bT,y7 X X'∧ET X' (i+1) W6∧g_ base W0 eZ h N (dM a X' (tR L x G1 cF' W6)) (G bT cs) m' T'∧aaA X.s.S (c_ (i+1) G1 cF') (i+1) bT:=by
 obtain⟨w,A,H,hS⟩:=o;let z:Bool:=decide (i=0);have yf:z=true->i=0:=fun e=>of_decide_eq_true e;have zI:z=false->i≠0:=fun e=>of_decide_eq_false e;let ρ:cn:=gY [(1,nb),(7,fI),(31,nf),(41,i),(61,i),(62,cF)] [(40,X.s.S),(50,PB),(60,FB)] [(63,.agg fs.toArray)];have hpre:∀pr∈(if z then[]else[((x,RK.app 3 0),60,bM.cH false 63 (v 61) [] [] [] 35 (v 62))]:List (cD×Nat×bM)),∃kk,dM a X (tR L x FB cF fs) pr.1=some (ρ.b pr.2.1,kk)∧uQ aa ρ pr.2.2 kk:=fun pr hp=>by
  split at hp
  ·cases hp
  ·rename_i hc;obtain rfl:=ad.1 hp;have hk0:i≠0:=zI (by simpa using hc);have hfn:fs≠[]:=fun e=>by have:=iw.1;rw[e]at this;exact hk0 this.symm
   refine⟨.fF 35 cF fs,?_,rfl,rfl,fun no hi=>?_,(nofun),rfl⟩
   ·rw[lC df,xq hfn];exact cg.cj
   ·rw[VQ no hi,iw.1];show i=(((i:Nat):Int)).toNat*1;omega
 have hvv:=agH z (bU fr);have od:=Qz z (bU fr);have e1:agF z=(if z then[]else[((x,RK.app 3 0),60,bM.cH false 63 (v 61) [] [] [] 35 (v 62))]:List (cD×Nat×bM)).map (·.2):=by cases z<;>rfl
 rw[e1]at hvv od;refine(cQ (cC:=[]) (cs:=cs) A H hS _ [((x,.app 3 0),103,boA z),((a,.dN),102,.cells [boF] 35),((a,.app 6 i),101,.cells [i64 (v 41)] 2),((a,.app 5 i),100,.cells [bF 40] 48)] hvv rfl rfl od (aay z) (ρ:=ρ) (hf.rel (.inl rfl) (boL (iL z 60 61 62)) ?_ rfl) trivial (fun q hq=>?_) (fun q hq=>?_) hpre (by split<;>simp) (by simp) (by split<;>rfl)).mono fun m1 T1 hd=>?_
 ·simp only[boL,gz,ah,ak];rw[dC (ρ:=ρ) (b:=60) (n:=61) (c:=62) (B:=FB) (k:=i) (q:=cF) rfl rfl rfl];rfl
 ·unfold agE at hq;rcases ay.1 hq with hq|hq
  ·simp only[ac,ae,or_false]at hq;rcases hq with rfl|rfl|rfl
   ·show decide (((i:Nat):Int)<((nf:Nat):Int))=true;exact decide_eq_true (by omega)
   ·show decide (((i:Nat):Int)<0)=false;exact decide_eq_false (by omega)
   ·show decide (((i:Nat):Int)≥(((nb:Nat):Int).toNat:Int))=false;exact decide_eq_false (by omega)
  ·cases hy:z with
   |true=>rw[hy]at hq;cases hq
   |false=>rw[hy]at hq;obtain rfl:=ad.1 hq;show decide ((((i:Nat):Int).toNat:Int)+1≤1048576)=true;exact decide_eq_true (by omega)
 ·have hdr:(a,RK.app 0 0)∉(if z then[]else[((x,RK.app 3 0),60,bM.cH false 63 (v 61) [] [] [] 35 (v 62))]:List (cD×Nat×bM)).map (·.1):=by split<;>simp
  simp only[boM,ac,ae,or_false]at hq;rcases hq with rfl|rfl
  ·exact .inl ⟨(a,.app 0 0),_,i5,hdr,agJ xg⟩
  ·exact .inl ⟨(a,.app 0 0),_,i5,hdr,agJ vB⟩
 obtain⟨w1,bW,c9,d9,C⟩:=hd;obtain rfl:=C.none;have zU:bW.i 41=i:=C.bE.ii 41;have Ik:bW.i 61=i:=C.bE.ii 61;have lx:bW.b 40=X.s.S:=C.bE.bb 40;have x63:bW.v 63=.agg fs.toArray:=congrFun C.bE.v 63;let c:Nat->Nat:=fun n=>if n=11 then bW.b 100 else bW.b 101
 have eF:boF.ev bW=w_ .pM c:=rfl;have eSl:(amX z).ev bW=c_ (i+1) (bW.b 103) (bW.i 103).toNat:=by
  cases hy:z with
  |true=>rw[yf hy];rfl
  |false=>show Value.slice (some ⟨bW.b 103,0,none⟩) ((((bW.i 61).toNat:Int)+1).toNat) (bW.i 103).toNat=_;rw[Ik];rw[show((((i:Nat):Int).toNat:Int)+1).toNat=i+1 by omega];rfl
 have eA:cY bW (boA z)=.fF 35 (bW.i 103).toNat (fs++[w_ .pM c]):=by
  cases hy:z with
  |true=>show fK.fF 35 (bW.i 103).toNat (AV.cf bW [boF])=_;simp only[AV.cf,eF];rw[List.length_eq_zero_iff.1 (iw.1.trans (yf hy))];rfl
  |false=>show fK.fF 35 (bW.i 103).toNat (dF bW (gy (bW.v 63)) []++AV.cf bW [boF])=_;simp only[AV.cf,eF,x63];rfl
 have Qr:fs++[w_ .pM c]≠[]:=by simp
 have am2:∀{r:cD},r≠(x,.app 3 0)->dM a X (tR L x FB cF fs) r=dM a X L r:=fun{r} hr=>my (by
  cases fs with
  |nil=>rfl
  |cons b l=>exact cg.b7 hr)
 refine⟨X.fn i (bW.b 100) (bW.b 101),bW.b 103,(bW.i 103).toNat,fs++[w_ .pM c],c9,⟨rfl,rfl,rfl,rfl⟩,⟨by rw[aD,iw.1];rfl,fun j hj=>?_⟩,⟨w1,C.eG,C.heap.sub (cX [(x,.app 3 0),(a,.dN),(a,.app 6 i),(a,.app 5 i)] (fun q hq=>?_) (fun q hq=>?_) (fun q hq=>?_) fun q hq zz hz=>?_),dc⟩,?_⟩
 ·by_cases hji:j=i
  ·subst hji;refine⟨c,?_,upd_same _ _ _,upd_same _ _ _⟩;rw[aE (by rw[iw.1];exact aq _),iw.1,Nat.sub_self];rfl
  ·obtain⟨c',q1,q2,q3⟩:=iw.2 j (by omega);refine⟨c',?_,(upd_ne _ _ hji).trans q2,(upd_ne _ _ hji).trans q3⟩;rw[aP (by rw[iw.1];omega)];exact q1
 ·rw[xq Qr,aaz (fun e=>hq (by simp[e])) (fun e=>hq (by simp[e])) (fun e=>hq (by simp[e])),am2 fun e=>hq (by simp[e])]
 ·split at hq
  ·cases hq
  ·obtain rfl:=ad.1 hq;simp
 ·simp only[cr,ah,ak,ac,ae,or_false]at hq;rcases hq with rfl|rfl|rfl|rfl<;>simp
 ·rw[xq Qr]at hz;simp only[ac,ae,or_false]at hq;rcases hq with rfl|rfl|rfl|rfl
  ·rw[lC df,cg.cj]at hz;cases hz;refine bX ?_;simp only[cr,ah,ak,aw,decide_true];rw[eA]
  ·rw[kJ rfl,cg.b7 (by simp),hJ]at hz;cases hz
  ·rw[IJ (show(X.fn i (bW.b 100) (bW.b 101)).b6 i=some (bW.b 101,(i:Int))from upd_same _ _ _)]at hz;cases hz;refine bX ?_;simp only[cr,ah,ak,aw,Prod.mk.injEq,RK.app.injEq,reduceCtorEq,true_and,and_true,and_false,false_and,decide_true,decide_false,br,cY,AV.cf,i64,v,AV.ev,IE.ev,zU];rfl
  ·rw[Cg (show(X.fn i (bW.b 100) (bW.b 101)).b5 i=some (bW.b 100)from upd_same _ _ _)]at hz;cases hz;refine bX ?_;simp only[cr,ah,ak,aw,Prod.mk.injEq,RK.app.injEq,reduceCtorEq,true_and,and_true,and_false,false_and,decide_true,decide_false,br,cY,AV.cf,bF,AV.ev,af,AA.ev,BR.ev,IE.ev,lx];rfl
 ·have f1:=C.fr;dsimp only at f1;simp only[AV.cf,eSl,bF,i64,AV.ev,af,AA.ev,BR.ev,IE.ev,v,lx,zU]at f1;rw[show o0 .add .i64 (i:Int) 1=((i+1:Nat):Int)from add_one (by omega)]at f1;exact f1
end
theorem y7.trans{X X' P4:XS}(a:y7 X X')(b:y7 X' P4):y7 X P4:=⟨b.s.trans a.s,b.b8.trans a.b8,b.nV.trans a.nV,b.nW.trans a.nW⟩
section
variable {base:Nat}{W0:World}{h N:Nat}{m:Machine}{T:Trace}{L:cg}{cs:List Frame}{fr:Frame}{a x PB nb fI nf FB cF:Nat}{X:XS}{fs:List Value}
theorem aaC(df:x≠a)(hJ:L (a,.dN)=none)(hnb:nf≤nb)(WJ:nf≤1000000):∀(d i:Nat),i+d=nf->∀{X:XS} {FB cF:Nat} {fs:List Value} {m:Machine} {T:Trace} {fr:Frame},(nf≠0->X.s.q[0]?=some (.slice (some ⟨PB,0,none⟩) nb fI))->X.s.q[1]?=some (iV nf)->ET X i fs->
  g_ base W0 eZ h N (dM a X (tR L x FB cF fs)) (G fr cs) m T->aaA X.s.S (c_ i FB cF) i fr->
  cm aa m T fun m' T'=>∃X' G1 cF' W6 bT,y7 X X'∧ET X' nf W6∧g_ base W0 eZ h N (dM a X' (tR L x G1 cF' W6)) (G bT cs) m' T'∧aaA X.s.S (c_ nf G1 cF') nf bT:=by
 intro d
 induction d with
 |zero=>
  intro i hi X FB cF fs m T fr vB xg k o hf;obtain rfl:i=nf:=by omega
  exact cm.refl ⟨X,FB,cF,fs,fr,⟨rfl,rfl,rfl,rfl⟩,k,o,hf⟩
 |succ d ih=>intro i hi X FB cF fs m T fr vB xg k o hf;refine(aaB df hJ (vB (by omega)) xg (by omega) hnb WJ k o hf).trans fun m1 T1 hd=>?_;obtain⟨X1,FB1,cF1,fs1,c9,s1,k1,o1,f1⟩:=hd;refine(ih (i+1) (by omega) (by rw[s1.s];exact vB) (by rw[s1.s];exact xg) k1 o1 (by rw[s1.s];exact f1)).mono fun m2 T2 hd=>?_;obtain⟨X2,FB2,cF2,fs2,iE,s2,k2,o2,f2⟩:=hd;exact⟨X2,FB2,cF2,fs2,iE,s1.trans s2,k2,o2,by rw[s1.s]at f2;exact f2⟩
abbrev atr(S:Nat)(fr:Frame):Prop:=FA lG 21 [.code (bQ Fn.bI)] [] .normal [(0,cb S)] fr
theorem L5(df:x≠a)(hJ:L (a,.dN)=none)(hnb:nf≤nb)(WJ:nf≤1000000)(vB:nf≠0->X.s.q[0]?=some (.slice (some ⟨PB,0,none⟩) nb fI))(xg:X.s.q[1]?=some (iV nf))(o:g_ base W0 eZ h N (dM a X L) (G fr cs) m T)(hf:atr X.s.S fr):
  cm aa m T fun m' T'=>∃X' G1 cF' W6 bT,y7 X X'∧ET X' nf W6∧g_ base W0 eZ h N (dM a X' (tR L x G1 cF' W6)) (G bT cs) m' T'∧am1 (c_ nf G1 cF') bT:=by
 obtain⟨w,A,H,hS⟩:=o;refine(cQ (cC:=[]) (cs:=cs) A H hS [] [] (atn (bU fr)) rfl rfl (aax _) nU (ρ:=gY [] [(40,X.s.S)] []) (hf.rel (.inl rfl) [(0,bF 40)] rfl rfl) trivial (nofun) (nofun) (nofun) ai ai rfl).trans fun m1 T1 hd=>?_;obtain⟨w1,bW,c9,d9,C⟩:=hd;obtain rfl:=C.none;have f1:=C.fr;have lx:bW.b 40=X.s.S:=C.bE.bb 40;simp only[AV.cf,bF,AV.ev,af,AA.ev,BR.ev,IE.ev,lx]at f1;refine(aaC (L:=L) (X:=X) (FB:=0) (cF:=0) (fs:=[]) (PB:=PB) (fI:=fI) df hJ hnb WJ nf 0 (by omega) vB xg ⟨rfl,fun j hj=>absurd hj (Nat.not_lt_zero _)⟩ ⟨w1,C.eG,C.heap.sub fun r x e=>e,dc⟩ f1).trans fun m2 T2 hd=>?_;obtain⟨X2,FB2,cF2,fs2,iE,s2,k2,⟨w2,A2,H2,S2⟩,f2⟩:=hd;refine(cQ (cC:=[]) (cs:=cs) A2 H2 S2 [] [] (am0 (bU iE)) rfl rfl (VP _) agI (ρ:=gY [(31,nf),(41,nf)] [(40,X.s.S)] [(70,c_ nf FB2 cF2)]) (f2.rel (.inl rfl) (boL (.ez 70)) rfl rfl) trivial (fun q hq=>?_) (fun q hq=>?_) (nofun) ai ai rfl).mono fun m3 T3 hd=>?_
 ·obtain rfl:=ad.1 hq;show decide (((nf:Nat):Int)<((nf:Nat):Int))=false;exact decide_eq_false (by omega)
 ·obtain rfl:=ad.1 hq;refine .inl ⟨(a,.app 0 0),.fF fe 1 X2.s.xs,?_,by simp,agJ (by rw[s2.s];exact xg)⟩;have:dM a X2 (tR L x FB2 cF2 fs2) (a,.app 0 0)=some (X2.s.S,.fF fe 1 X2.s.xs):=i5;rw[this,s2.s];rfl
 ·obtain⟨w3,qm,kH,KX,C3⟩:=hd;obtain rfl:=C3.none;refine⟨X2,FB2,cF2,fs2,kH,s2,k2,⟨w3,C3.eG,C3.heap.sub fun r x e=>e,dc⟩,?_⟩;have f3:=C3.fr;have x70:qm.v 70=c_ nf FB2 cF2:=congrFun C3.bE.v 70;simp only[AV.cf,AV.ev,x70]at f3;exact f3
end
abbrev agK:Nat:=9
noncomputable def QA:bH:=okA (fD aa 9 [] .normal)
def Jj:AH:=⟨[],100,5192296858534827628530496329220096⟩
noncomputable def okS(m:M yK):yK:=match m with
 |.ok c=>c
 |.error _=>⟨1,⟨⟨0,0,.ju,[],[],.run,.normal⟩,[],e0⟩,[],0,0⟩
noncomputable def wkS:yK:=okS (cchunk? aa (OO [] [] []) (XX [] [] []) oq 40000 1990 [] ⟨0,⟨QA,[],Jj⟩,[],1,0⟩)
theorem am3:cchunk? aa (OO [] [] []) (XX [] [] []) oq 40000 1990 [] ⟨0,⟨QA,[],Jj⟩,[],1,0⟩=.ok wkS:=by kernel_rfl
theorem wkH:wkS.h=0:=by kernel_rfl
theorem aaD:wkS.cq=[]:=by kernel_rfl
theorem agM:wkS.deaf=0:=by kernel_rfl
theorem QB:wkS.c.callers=[]:=by kernel_rfl
theorem agN:fW wkS.c.da [0]=⟨9,44,[.code .ret],[],.run,.normal,[],[],[TB]⟩:=by kernel_rfl
theorem am4:bR 100 ⟨QA,[],⟨[],100,100⟩⟩=true:=by kernel_rfl
abbrev Jk:Nat->Option Tok.Seat:=eZ
theorem VR:iX aa (OO [] [] []) (XX [] [] []) oq:=
 ⟨fun _ _ _ _=>⟨vr,mi,mixed⟩,fun _ _ _ _ G=>xT G (.inr mn) mj,(nofun),fun _ _ _ _ _ _=>uc⟩
abbrev xr(fr:Frame):Prop:=FA agK 44 [.code .ret] [] .normal [(0,.bool true)] fr
theorem QC{base:Nat}{W0:World}{m:Machine}{T:Trace}{w:World}{f9:Frame}{cs:List Frame}{ρ:cn}(hb:base≤W0.heap.size)(A:dD aa base W0 Jk 0 1 m T (G f9 cs) w)(h9:dj aa ρ QA f9):
  cm aa m T fun m' T'=>∃N' w' f9',dD aa base W0 Jk 0 N' m' T' (G f9' cs) w'∧xr f9':=by
 obtain⟨gs,sl,q,rfl,hsz,ha,C⟩:=A.ex;have jG:=wS am4;have I0:h_ (CK aa (OO [] [] []) base [] ρ) (dR 100) Jj:=
  ⟨(fun i b hb=>by cases hb),(fun i hi=>by cases hi),ai,(fun n hn _ h=>by have h1:100≤n:=hn;have h2:n<100:=h;omega),(nofun),(nofun),fun p hp=>by cases hp⟩
 have R0:Rel (CK aa (OO [] [] []) base [] ρ) ρ Jj w:=by refine⟨(fun i b hb=>by cases hb),(fun i b hb=>by cases hb),(fun i j b c hb=>by cases hb),(nofun),(nofun),(nofun),(fun n hn=>⟨bp A.size hn,fun⟨s,hs,_⟩=>by cases hs⟩),(fun i b hb=>by cases hb),fun b n h=>?_⟩;rcases h with⟨s,hs,_⟩|⟨_,s,hs,_⟩<;>cases hs
 have I:uv aa (OO [] [] []) base W0 cs ⟨0,⟨QA,[],Jj⟩,[],1,0⟩ (crowd gs w sl) T:=
  ⟨gs,w,sl,q,Jk,dR 100,ρ,fun n=>n,_,rfl,⟨C,rfl,fun _ _ _ _ e=>e,fun i hi=>by have:i<1:=hi;show i<gs.size;omega,a_ _,ha,⟨jG.da,fun _ x=>(by simp at x),I0⟩,⟨R0,f9,[],h9,trivial,rfl⟩,fun s hs=>(by cases hs),fun i t e=>(by cases e),ai,A.gX,fun p hp=>(by cases hp)⟩⟩
 have fJ:=am3;unfold cchunk? at fJ;have hH:=wkH;have hS:=aaD;have hD:=agM;have hC:=QB;have hV:=agN;revert hH hS hD hC hV fJ;generalize wkS=st;intro fJ hH hS hD hC hV;split at fJ
 ·rename_i h da callers hp nb eH cq next deaf hr;cases fJ;obtain⟨M,m1,T1,h1,I1⟩:=XC VR hr I;refine⟨M,m1,T1,h1,?_⟩;obtain⟨gs1,w1,sl1,q1,fS,U1,bW,γ,a1,rfl,F⟩:=I1;dsimp only at hH hS hD hC hV;subst hH;subst hS;subst hD;subst hC;have pF:fS=Jk:=by
   funext i;show fS i=none;cases e:fS i with
   |none=>rfl
   |some t=>obtain⟨s,hs,_⟩:=F.all i t e;cases hs
  subst pF;obtain⟨R1,c9,d9,Ru,ats,rfl⟩:=F.Xw;obtain rfl:d9=[]:=by
   cases d9 with
   |nil=>rfl
   |cons a b=>exact ats.elim
  have hz:=F.zero;have FH:=F.FH;have FI:=F.FI;dsimp only at FH FI;rw[hz]at FH FI;have hfa:xr c9:=tw.of (dH:=[0]) (dx:=[TB]) (dA:=[]) Ru hV (.inl rfl);exact⟨gs1.size,w1,c9,⟨⟨gs1,sl1,q1,rfl,rfl,FI,FH⟩,fun i t e=>(by cases e),F.gX,bp hb F.gX.size⟩,hfa⟩
 ·cases fJ
 ·cases fJ
theorem dD.on{base VS:Nat}{W0 W0':World}{N:Nat}{m:Machine}{T:Trace}{a:Goroutine}{w:World}(A:dD aa base W0 Jk 0 N m T a w)(kp:cE (fun n=>VS≤n) W0' w)(hb:VS≤W0'.heap.size):dD aa VS W0' Jk 0 N m T a w:=
 ⟨A.ex,fun i t e=>(by cases e),kp,bp hb kp.size⟩
def un(f:FuncId)(base:Nat)(W0:World)(m:Machine)(T:Trace):Prop:=∃N a w,dD aa base W0 Jk 0 N m T a w∧∃ρ,sV (SK aa base Jk) f ρ (.returned (.bool (.lit true))) [] a w
section
variable {base:Nat}{W0:World}{N:Nat}{m:Machine}{T:Trace}{w:World}{L:cg}
theorem NZ{f:FuncId}{fr:Frame}{cC:List Frame}(o:g_ base W0 Jk 0 N L (G fr (cC++[])) m T){bs:List (BE×Bool)}{mem:List (AA×AV)}{n:Nat}{da:bH}{callers:List bH}
 (hv:isT (run? aa (OO bs [] mem) (XX bs [] mem) oq n (cJ da callers []))=true)(atu:wB da.fn callers=f)(hl:bR 100 (cJ da callers [])=true)(hO:(OO bs [] mem).low 100=true){ρ:cn}(hf:dj aa ρ da fr)(iw:c8 aa ρ callers cC)
 (hb:∀p∈bs,p.1.ev ρ=p.2)(hm:∀p∈mem,zD L [] base W0 ρ p):
  cm aa m T (un f base W0):=by
 obtain⟨w,A,H,_⟩:=o;have hm':∀p∈mem,w.cell? (p.1.ev ρ)=some (p.2.ev ρ):=fun p hp=>by
  rcases(hm p hp).to A with⟨r,k,h1,_,h3⟩|⟨_,h2⟩
  ·rw[AA.pG ρ p.1];exact H.cell h1 h3
  ·exact h2
 have ST:=mT (K:=SK aa base Jk) (O:=OO bs [] mem) (own:=fun b=>w.heap.size≤b) (still:=fun _ _=>False) pJ (FP A).new;have W:=Pa (K:=SK aa base Jk) (main:=true) (own:=fun b=>w.heap.size≤b) (still:=fun _ _=>False) (O:=OO bs [] mem) (cs:=[]) pJ (FP A).new ⟨vr,mi,mixed⟩ (xT ST (.inr mn) mj) uc hv hl rfl hO hf iw
  (XD ⟨hb,(nofun),fun p hp=>⟨Nat.not_le.2 (FL (hm' p hp)),hm' p hp,fun s=>⟨nT _ _ s,fun b n s e=>by cases e⟩⟩⟩ (fun n hn=>hn) fun b n h=>h.elim (A.low b n) False.elim)
 have am5:wB (cJ da callers []).da.fn (cJ da callers []).callers=f:=atu;rw[am5]at W;refine(A.uu W fun a' w' hd=>hd.1.mono fun n hn=>bp A.size hn).mono fun m' T' hd=>?_;obtain⟨a',w',A',_,hE⟩:=hd;exact⟨N,a',w',A',hE⟩
end
abbrev mL:Nat:=5
noncomputable abbrev Fn.lv:Func:=Try.f5
noncomputable def CD(l:List Nat):Code:=pc (bQ Fn.lv) l
noncomputable def lvI(zB zP:Bool):bH:=okA (fD aa 5 [.agg (Ab zB zP)] .normal)
theorem atv(zB zP:Bool):fD aa 5 [.agg (Ab zB zP)] .normal=.ok (lvI zB zP):=by cases zB<;>cases zP<;>kernel_rfl
noncomputable def a0E(zB zP:Bool):dw:=XK (cO [] [] 8 [100] (cJ (lvI zB zP) [] []))
theorem am7(zB zP:Bool):cO [] [] 8 [100] (cJ (lvI zB zP) [] [])=.ok (a0E zB zP):=by cases zB<;>cases zP<;>kernel_rfl
theorem am8(zB zP:Bool):(a0E zB zP).da=QA:=by cases zB<;>cases zP<;>kernel_rfl
noncomputable def VT:List Item:=[.inRegion (fP (CD [1,0])) [0,1],.code (CD [1,1])]
theorem atw(zB zP:Bool):(a0E zB zP).callers.map (fun fr=>fW fr [1])=[⟨5,197,VT,[],.run,.normal,[],[],[bF 100]⟩]:=by cases zB<;>cases zP<;>kernel_rfl
theorem atx(zB zP:Bool):(a0E zB zP).h.hp=[(100,.cells (Ab zB zP) dY)]:=by cases zB<;>cases zP<;>kernel_rfl
theorem aty(zB zP:Bool):bR 100 (cJ (lvI zB zP) [] [])=true:=by cases zB<;>cases zP<;>kernel_rfl
noncomputable def lvM(zB zP:Bool):List (AA×AV):=[(⟨.cN 10,.lit 0⟩,Jb zB 9 8 1 7),(⟨.cN 10,.lit 1⟩,i64 (v 31)),(⟨.cN 10,.lit 2⟩,Jb zP 29 28 21 27),(⟨.cN 10,.lit 3⟩,i64 (v 32))]
theorem atz(zB zP:Bool):(OO [] [] (lvM zB zP)).low 100=true:=by cases zB<;>cases zP<;>kernel_rfl
noncomputable def wkR(st:Nat->Value):bH:=⟨9,44,bZ 44 st [(0,TB)],[.code .ret],[],.run,.normal⟩
noncomputable def am9(st:Nat->Value):bH:=⟨5,197,bZ 197 st [(1,bF 10)],VT,[],.run,.normal⟩
noncomputable def agO:List Item:=[.inRegion (fP (CD [1,1,0,0])) [4,5,6,7,8,9,10,11],.code (CD [1,1,0,1]),.code (CD [1,1,1])]
theorem VU(zB zP:Bool)(fZ st:Nat->Value):c7 (cO [] (lvM zB zP) 12 [] (cJ (wkR fZ) [am9 st] [])) [0] (fun _=>[1,3,19])=some (⟨uZ,35,[.code (bQ Fn.Cx)],[],.run,.normal,[],[],[.agg (Ab zB zP)]⟩,[⟨5,197,agO,[],.run,.normal,[],[],[bF 10,TB,ff]⟩]):=by cases zB<;>cases zP<;>kernel_rfl
theorem Jl(fZ st:Nat->Value):bR 100 (cJ (wkR fZ) [am9 st] [])=true:=by kernel_rfl
noncomputable def lgR(b:Bool)(st:Nat->Value):bH:=⟨uZ,35,bZ 35 st [(2,tr b)],[.code .ret],[],.run,.normal⟩
noncomputable def VV(st:Nat->Value):bH:=⟨5,197,bZ 197 st [(1,bF 10),(3,TB),(19,ff)],agO,[],.run,.normal⟩
theorem agP(fZ st:Nat->Value):isT (run? aa (OO [] [] []) (XX [] [] []) oq 400 (cJ (lgR true fZ) [VV st] []))=true:=by kernel_rfl
noncomputable def VW(zB b:Bool):List (BE×Bool):=[(.cmp .gtr (xB zB 1) (.lit 60),b)]
noncomputable def agQ(zB:Bool):List (AA×AV):=[(⟨.cN 10,.lit 0⟩,Jb zB 9 8 1 7)]
theorem agR(fZ st:Nat->Value):isT (run? aa (OO (VW false true) [] (agQ false)) (XX (VW false true) [] (agQ false)) oq 400 (cJ (lgR false fZ) [VV st] []))=true:=by kernel_rfl
theorem aaE:(OO (VW false true) [] (agQ false)).low 100=true:=by kernel_rfl
theorem VY(b:Bool)(fZ st:Nat->Value):bR 100 (cJ (lgR b fZ) [VV st] [])=true:=by cases b<;>kernel_rfl
noncomputable def agS:List Item:=[.inRegion (fP (CD [1,1,1,0])) [1,2],.code (CD [1,1,1,1])]
theorem VZ(zB zP:Bool)(fZ st:Nat->Value):c7 (cO (VW zB false) (lvM zB zP) 16 [] (cJ (lgR false fZ) [VV st] [])) [0] (fun _=>[1,3])=some (⟨i7,58,[.code (bQ Fn.ki)],[],.run,.normal,[],[],[.agg (Ab zB zP)]⟩,[⟨5,197,agS,[],.run,.normal,[],[],[bF 10,TB]⟩]):=by cases zB<;>cases zP<;>kernel_rfl
theorem QD(zB zP:Bool):(OO (VW zB false) [] (lvM zB zP)).low 100=true:=by cases zB<;>cases zP<;>kernel_rfl
noncomputable def tdR(st:Nat->Value):bH:=⟨i7,58,bZ 58 st [(2,bF 13)],[.code .ret],[],.run,.normal⟩
noncomputable def am'(st:Nat->Value):bH:=⟨5,197,bZ 197 st [(1,bF 10),(3,TB)],agS,[],.run,.normal⟩
noncomputable def agT(z y:Bool):List (AA×AV):=[(⟨.cN 13,.lit 0⟩,iL z 50 51 52),(⟨.cN 13,.lit 1⟩,i64 (v 31)),(⟨.cN 13,.lit 2⟩,iL y 60 61 62),(⟨.cN 13,.lit 3⟩,i64 (v 32))]
noncomputable def V0(z y:Bool):List AV:=GH z y++[i64 (.lit 0),i64 (.lit 0),i64 (.lit 0),i64 (.lit 0),i64 (.lit 0),i64 (.lit 0),eU,eU,ff,i64 (.lit 0),i64 (.lit 0)]
noncomputable def lvZ:List Item:=[.code (CD [1,1,1,1,1,0]),.code (CD [1,1,1,1,1,1])]
noncomputable def agU:List AV:=[.ez 90,.ez 91,.ez 92,.ez 93]
theorem aaF(z y:Bool)(fZ st:Nat->Value):c7 (cO [] (agT z y) 12 [100,10] (cJ (tdR fZ) [am' st] [(10,.cells agU dY)])) [1,3,4] (fun _=>[])=some (⟨5,197,lvZ,[],.run,.normal,[],[(100,.cells (V0 z y) fe),(10,.cells (GH z y) dY)],[bF 10,TB,bF 100]⟩,[]):=by cases z<;>cases y<;>kernel_rfl
theorem L6(fZ st:Nat->Value):bR 100 (cJ (tdR fZ) [am' st] [(10,.cells agU dY)])=true:=by kernel_rfl
theorem V2(z y:Bool):(OO [] [] (agT z y)).low 100=true:=by cases z<;>cases y<;>kernel_rfl
theorem bK.atB{base:Nat}{w:World}{L:cg}{r:cD}{b e:Nat}{cs:List Value}{no:TypeInfo}(H:bK aa base w L)(hr:L r=some (b,.obj e cs))(hi:Try.prog.info? e=some no)(hs:no.size=cs.length):bK aa base w (cg.set L r (b,.fF e 1 cs)):=by
 have hb:∀r' x,cg.set L r (b,.fF e 1 cs) r'=some x->∃k,L r'=some (x.1,k):=fun r' x hx=>by
  by_cases h:r'=r
  ·rw[h,cg.cj]at hx;cases hx;exact⟨_,h▸hr⟩
  ·rw[cg.b7 h]at hx;exact⟨x.2,hx⟩
 refine⟨fun r' b' k hx=>?_,fun r1 r2 b' k k' e1 e2=>?_,fun r' b' k hx=>?_⟩
 ·by_cases h:r'=r
  ·rw[h,cg.cj]at hx;cases hx;obtain⟨arr,h1,h2⟩:ka w b cs e:=H.eG _ _ _ hr;refine⟨arr,[],no,h1,hi,by rw[aX];exact h2,?_⟩;rw[Nat.one_mul,hs,<-h2,Array.length_toList]
  ·rw[cg.b7 h]at hx;exact H.eG _ _ _ hx
 ·obtain⟨k1,q1⟩:=hb _ _ e1;obtain⟨k2,q2⟩:=hb _ _ e2;exact H.inj _ _ _ _ _ q1 q2
 ·obtain⟨k1,q1⟩:=hb _ _ hx;exact H.ge _ _ _ q1
section
variable {W:World}{N:Nat}{m:Machine}{T:Trace}{L:cg}{fr f:Frame}{p:Pl}{bv pv:Value}{B:Nat}
def aaG(B:Nat)(cs:List Value):cg:=cg.set (fun _=>none) (0,.app 12 2) (B,.obj dY cs)
theorem V3(hI:Dt W.heap.size W bv pv p):cm aa (solo (G (Frame.enter aa 5 #[.agg (sA bv p.first pv p.cd).toArray] .normal) []) W) #[] fun m T=>∃N B f9 f5,g_ W.heap.size W Jk 0 N (aaG B (sA bv p.first pv p.cd)) (G f9 [f5]) m T∧xr f9∧FA mL 197 VT [] .normal [(1,cb B)] f5:=by
 obtain⟨⟨zB,bB,oB,cB,rfl,eB,gB⟩,zP,bP,oP,cP,rfl,eP,_⟩:=hI;let ρ:cn:=VM p.bI.length oB cB bB p.cK.length oP cP bP p.first p.cd
 have ea0:=GJ (zB:=zB) (zP:=zP) (cz.refl (dR 100) ρ);have hin:AV.iB (dR 100) [.agg (Ab zB zP)]:=AV.gJ _ (by cases zB<;>cases zP<;>rfl);obtain⟨e1,e2,e3,e4,e5⟩:=jW (atv zB zP) (.inl rfl) hin (ρ:=ρ);have eA:(AV.cf ρ [.agg (Ab zB zP)]).toArray=#[.agg (sA (GD zB bB oB p.bI.length cB) p.first (GD zP bP oP p.cK.length cP) p.cd).toArray]:=by simp only[AV.cf,AV.ev,ea0]
 rw[eA]at e1;generalize pz:(#[.agg (sA (GD zB bB oB p.bI.length cB) p.first (GD zP bP oP p.cK.length cP) p.cd).toArray]:Array Value)=args at e1;have C0:Tok.fM aa (fun _=>none) 0 0 #[] #[G (Frame.enter aa 5 args .normal) []] W (fun _=>0):=Tok.adx (leavers_one aa _) past_nil;have A0:=dD.start aa _ W C0;have A0':dD aa W.heap.size W Jk 0 1 (solo (G (Frame.enter aa 5 args .normal) []) W) #[] (G (Frame.enter aa 5 args .normal) ([]++[])) W:=A0;have H0:bK aa W.heap.size W (fun _=>none:cg):=⟨fun r b k e=>(by cases e),fun r r' b k k' e=>(by cases e),fun r b k e=>(by cases e)⟩;refine(FT (cC:=[]) (cs:=[]) A0' H0 [] [((0,RK.app 12 2),100,.cells (Ab zB zP) dY)] (am7 zB zP) (atx zB zP) (aty zB zP) nU e1 trivial (nofun) (nofun) (nofun) ai (by simp) (nofun)).trans fun m1 T1 hd=>?_;obtain⟨a',w1,bW,U1,A1,Ag,kp,I,Γ,H1⟩:=hd;obtain⟨f9,cC,h9,iw,rfl⟩:=Γ;have ea1:=GJ (zB:=zB) (zP:=zP) Ag;have Q0:=atw zB zP;rw[am8 zB zP]at h9;generalize(a0E zB zP).callers=cl at Q0 iw;obtain⟨a5,rfl,e5'⟩:=XG Q0;obtain⟨f5,rfl,r5⟩:=XH iw;have h5:FA mL 197 VT [] .normal [(1,cb (bW.b 100))] f5:=tw.of (dH:=[1]) (dx:=[bF 100]) (dA:=[]) r5 e5' (.inl rfl);refine(QC (base:=w1.heap.size) (W0:=w1) (aq _) (dD.on A1 (cE.refl _ _) (aq _)) h9).mono fun m2 T2 hd=>?_;obtain⟨N',w2,f9',A2,h9'⟩:=hd;refine⟨N',bW.b 100,f9',f5,⟨w2,dD.on A2 (A1.gX.trans (A2.gX.mono fun b hb=>bp A1.size hb)) (aq _),(H1.Eg A2.gX).sub fun r x e=>?_,dc⟩,h9',h5⟩;unfold aaG at e;by_cases hr:r=(0,.app 12 2)
 ·subst hr;rw[cg.cj]at e;cases e;refine bX ?_;simp only[cr,ah,ak,aw,decide_true,cY,ea1]
 ·rw[cg.b7 hr]at e;cases e
theorem V4(hI:Dt W.heap.size W bv pv p)(hL:L (0,.app 12 2)=some (B,.obj dY (sA bv p.first pv p.cd))):∃zB zP,∃ρ:cn,ρ.b 10=B∧(zB=true->p.bI=[])∧ρ.i 1=p.bI.length∧AV.cf ρ (Ab zB zP)=sA bv p.first pv p.cd∧(∀bL,cz (dR 100) ρ bL->AV.cf bL (Ab zB zP)=sA bv p.first pv p.cd)∧∀x∈lvM zB zP,zD L [] W.heap.size W ρ x:=by
 obtain⟨⟨zB,bB,oB,cB,rfl,eB,gB⟩,zP,bP,oP,cP,rfl,eP,_⟩:=hI;let ρ:cn:=gY [(1,p.bI.length),(8,oB),(7,cB),(21,p.cK.length),(28,oP),(27,cP),(31,p.first),(32,p.cd)] [(9,bB),(29,bP),(10,B)] [];have ev:∀bL,cz (dR 100) ρ bL->AV.cf bL (Ab zB zP)=sA (GD zB bB oB p.bI.length cB) p.first (GD zP bP oP p.cK.length cP) p.cd:=fun bL Ag=>by
  have h1:bL.i 1=p.bI.length:=Ag.i 1 (by decide);have h2:bL.i 8=oB:=Ag.i 8 (by decide);have h3:bL.i 7=cB:=Ag.i 7 (by decide);have h4:bL.i 21=p.cK.length:=Ag.i 21 (by decide);have h5:bL.i 28=oP:=Ag.i 28 (by decide);have h6:bL.i 27=cP:=Ag.i 27 (by decide);have h7:bL.i 31=p.first:=Ag.i 31 (by decide)
  have h8:bL.i 32=p.cd:=Ag.i 32 (by decide);have h9:bL.b 9=bB:=Ag.b 9 (by decide);have zY:bL.b 29=bP:=Ag.b 29 (by decide);simp only[Ab,AV.cf,j7,h1,h2,h3,h4,h5,h6,h9,zY,ap,i64,v,AV.ev,IE.ev,h7,h8];rfl
 refine⟨zB,zP,ρ,rfl,eB,rfl,ev ρ (cz.refl _ _),ev,fun x hx=>?_⟩;have e0:((Jb zB 9 8 1 7).ev ρ)=GD zB bB oB p.bI.length cB:=j7;have e2:((Jb zP 29 28 21 27).ev ρ)=GD zP bP oP p.cK.length cP:=j7;simp only[lvM,ac,ae,or_false]at hx;rcases hx with rfl|rfl|rfl|rfl
 ·exact .inl ⟨_,_,hL,by simp,by dsimp only;rw[e0];rfl⟩
 ·exact .inl ⟨_,_,hL,by simp,rfl⟩
 ·exact .inl ⟨_,_,hL,by simp,by dsimp only;rw[e2];rfl⟩
 ·exact .inl ⟨_,_,hL,by simp,rfl⟩
theorem aaH(hI:Dt W.heap.size W bv pv p)(hL:L (0,.app 12 2)=some (B,.obj dY (sA bv p.first pv p.cd)))(o:g_ W.heap.size W Jk 0 N L (G fr [f]) m T)(h9:xr fr)(h5:FA mL 197 VT [] .normal [(1,cb B)] f):
  cm aa m T fun m' T'=>∃bT f',g_ W.heap.size W Jk 0 N L (G bT [f']) m' T'∧Vu bv pv p bT∧FA mL 197 agO [] .normal [(1,cb B),(3,.bool true),(19,.bool false)] f':=by
 obtain⟨zB,zP,ρ,hB,_,_,e0,e1,hm⟩:=V4 hI hL;obtain⟨w,A,H,hS⟩:=o;refine(cQ (cC:=[f]) (cs:=[]) A H hS [] [] (VU zB zP (bU fr) (bU f)) rfl rfl (Jl _ _) (atz zB zP) (ρ:=ρ) (h9.rel (.inl rfl) [(0,TB)] rfl rfl) ⟨h5.rel (.inl rfl) [(1,bF 10)] (by simp only[gz,ah,ak,bF,AV.ev,af,AA.ev,BR.ev,IE.ev,hB];rfl) rfl,trivial⟩ (nofun) (fun x hx=>(hm x hx).to A) (nofun) ai ai rfl).mono fun m1 T1 hd=>?_;obtain⟨w1,bW,c9,d9,C⟩:=hd;obtain⟨f',rfl,q⟩:=C.one;refine⟨c9,f',⟨w1,C.eG,C.heap.sub fun r x e=>e,dc⟩,?_,?_⟩
 ·have f1:=C.fr;simp only[AV.cf,AV.ev,e1 bW C.bE]at f1;exact f1
 ·have mr:bW.b 10=B:=(C.bE.bb 10).trans hB;simp only[AV.cf,bF,AV.ev,af,AA.ev,BR.ev,IE.ev,mr]at q;exact q
end
def SS.new(S:Nat)(q:List Value):SS:=⟨S,q,fun _=>0,[],0,0,[],0,0,0,0,fun _=>none⟩
def XS.new(S:Nat)(q:List Value):XS:=⟨SS.new S q,fun _=>none,fun _=>none,fun _=>none,fun _=>none,fun _=>none⟩
theorem V5{a S:Nat}{q:List Value}{L:cg}{r:cD}{x:Nat×fK}(h:dM a (XS.new S q) L r=some x):(r=(a,.app 0 0)∧x=(S,.fF fe 1 (SS.new S q).xs))∨(r≠(a,.app 0 0)∧L r=some x):=by
 by_cases hr:r=(a,.app 0 0)
 ·subst hr;have:dM a (XS.new S q) L (a,.app 0 0)=some (S,.fF fe 1 (SS.new S q).xs):=i5;rw[this]at h;cases h;exact .inl ⟨rfl,rfl⟩
 ·refine .inr ⟨hr,?_⟩;obtain⟨z,k⟩:=r;unfold dM eQ iK at h;dsimp only at h;by_cases hz:z=a
  ·subst hz;simp only[if_true]at h;split at h
   ·rename_i j;rw[if_neg fun e=>hr (by rw[e])]at h;cases h
   ·split at h<;>cases h
   ·split at h<;>cases h
   ·cases h
   ·split at h<;>first|exact h|cases h
  ·simp only[if_neg hz]at h;exact h
section
variable {W:World}{N:Nat}{m:Machine}{T:Trace}{L:cg}{fr f:Frame}{p:Pl}{bv pv:Value}{B:Nat}
structure ana(LB:cg)(p:Pl)(B LA cL PA cP:Nat):Prop where
 box:LB (0,.app 12 2)=some (B,.obj dY (Q_ (c_ p.bI.length LA cL) p.first p.bI.length (c_ p.cK.length PA cP) p.cd))
 arr:∃kB,LB (0,.app 4 0)=some (LA,kB)∧∀i l,p.bI[i]?=some l->∃bv,kB.cell i=some bv∧qM LB 0 bv 0 (l.map Rp.ki)
 pk:p.cK≠[]->∃k,LB (1,.app 2 0)=some (PA,k)∧∀i n,p.cK[i]?=some n->k.cell i=some (iV n)
 off:∀r,r.1≠0->r≠(1,.app 2 0)->LB r=none
 na:∀k,fm k=false->LB (0,k)=none
 Vo:LB (0,.app 13 0)=none
 f14:∀j,LB (0,.app 14 j)=none
def aaI(W:World)(p:Pl)(m:Machine)(T:Trace):Prop:=∃N B S LA cL PA cP LB fr,g_ W.heap.size W Jk 0 N (dM 0 (XS.new S (Q_ (c_ p.bI.length LA cL) p.first p.bI.length (c_ p.cK.length PA cP) p.cd)) LB) (G fr []) m T∧FA mL 197 lvZ [] .normal [(1,cb B),(3,.bool true),(4,cb S)] fr∧ana LB p B LA cL PA cP
theorem V6{RB LA cL PA cP:Nat}{L0:cg}(hL:L (0,.app 12 2)=some (B,.obj dY (sA bv p.first pv p.cd)))(h0:∀r,r≠(0,.app 12 2)->L0 r=none)(hT:VK L0 L 0 (1,.app 2 0) p RB LA cL PA cP)(o:g_ W.heap.size W Jk 0 N L (G fr [f]) m T)(hf:GI RB fr)(h5:FA mL 197 agS [] .normal [(1,cb B),(3,.bool true)] f):
  cm aa m T (aaI W p):=by
 obtain⟨w,A,H,hS⟩:=o;let n:=p.bI.length;let kP:=p.cK.length;let z:Bool:=decide (n=0);let y:Bool:=decide (kP=0);let ρ:cn:=gY [(31,fX p.first ((n+1:Nat):Int)),(32,p.cd),(51,n),(52,cL),(61,kP),(62,cP)] [(10,B),(13,RB),(50,LA),(60,PA)] [(90,bv),(91,iV p.first),(92,pv),(93,iV p.cd)];have Qw:(iL z 50 51 52).ev ρ=c_ n LA cL:=dC rfl rfl rfl;have e60:(iL y 60 61 62).ev ρ=c_ kP PA cP:=dC rfl rfl rfl;refine(cQ (cC:=[f]) (cs:=[]) A H hS [((0,.app 12 2),10,.cells agU dY)] [((0,.app 0 0),100,.cells (V0 z y) fe),((0,.app 12 2),10,.cells (GH z y) dY)] (aaF z y (bU fr) (bU f)) rfl rfl (L6 _ _) (V2 z y) (ρ:=ρ) (hf.rel (.inl rfl) [(2,bF 13)] rfl rfl) ⟨h5.rel (.inl rfl) [(1,bF 10),(3,TB)] rfl rfl,trivial⟩ (nofun) (fun x hx=>?_) (fun x hx=>?_) (by simp) (by simp) rfl).mono fun m1 T1 hd=>?_
 ·simp only[agT,ac,ae,or_false]at hx;rcases hx with rfl|rfl|rfl|rfl
  ·exact .inl ⟨_,_,hT.res,by simp,by dsimp only;rw[Qw];rfl⟩
  ·exact .inl ⟨_,_,hT.res,by simp,rfl⟩
  ·exact .inl ⟨_,_,hT.res,by simp,by dsimp only;rw[e60];rfl⟩
  ·exact .inl ⟨_,_,hT.res,by simp,rfl⟩
 ·obtain rfl:=ad.1 hx;exact⟨_,hL,rfl,rfl⟩
 obtain⟨w1,bW,c9,d9,C⟩:=hd;obtain rfl:=C.none;have mr:bW.b 10=B:=C.bE.bb 10;have eV:AV.cf bW (GH z y)=Q_ (c_ n LA cL) p.first n (c_ kP PA cP) p.cd:=by
  have e1:(iL z 50 51 52).ev bW=c_ n LA cL:=dC (C.bE.bb 50) (C.bE.ii 51) (C.bE.ii 52);have e2:(iL y 60 61 62).ev bW=c_ kP PA cP:=dC (C.bE.bb 60) (C.bE.ii 61) (C.bE.ii 62);have z31:bW.i 31=fX p.first ((n+1:Nat):Int):=C.bE.ii 31
  have z32:bW.i 32=p.cd:=C.bE.ii 32;simp only[GH,AV.cf,e1,e2,i64,v,AV.ev,IE.ev,z31,z32];rfl
 let q:=Q_ (c_ n LA cL) p.first n (c_ kP PA cP) p.cd
 let S:=bW.b 100;have eS:AV.cf bW (V0 z y)=(SS.new S q).xs:=by
  have:AV.cf bW (V0 z y)=AV.cf bW (GH z y)++AV.cf bW [i64 (.lit 0),i64 (.lit 0),i64 (.lit 0),i64 (.lit 0),i64 (.lit 0),i64 (.lit 0),eU,eU,ff,i64 (.lit 0),i64 (.lit 0)]:=by
   unfold V0;generalize GH z y=l1
   induction l1 with
   |nil=>rfl
   |cons b l ih=>simp only[az,AV.cf,ih]
  rw[this,eV];have hz0:∀a b:Nat,c_ (([]:List Value).length / 8) a b=fO:=fun a b=>by rw[show([]:List Value).length / 8=0 from by simp];rfl
  unfold SS.xs SS.new;dsimp only;rw[hz0];rfl
 let LB:cg:=cg.set L (0,.app 12 2) (B,.obj dY q);obtain⟨no,acY,atC⟩:∃i,Try.prog.info? fe=some i∧i.size=15:=by
  have e2:(Try.prog.info? fe).map (fun x=>x.size)=some 15:=by kernel_rfl
  cases e:Try.prog.info? fe with
  |none=>rw[e]at e2;cases e2
  |some i=>rw[e]at e2;exact⟨i,rfl,au e2⟩
 have H1:bK aa W.heap.size w1 (cg.set LB (0,.app 0 0) (S,.obj fe (SS.new S q).xs)):=C.heap.sub (cX [(0,.app 0 0),(0,.app 12 2)] (fun r hr=>?_) (fun r hr=>by simp at hr;simp[hr]) (fun r hr=>?_) fun r hr zz hz=>?_)
 ·refine⟨N,B,S,LA,cL,PA,cP,LB,c9,⟨w1,C.eG,(bK.atB H1 cg.cj acY (by rw[atC];exact(rJ (s:=SS.new S q) rfl).symm)).sub fun r x e=>?_,dc⟩,?_,cg.cj,?_,fun hp=>?_,fun r g1 g2=>?_,fun k hk=>?_,?_,fun j=>?_⟩
  ·rcases V5 e with⟨rfl,rfl⟩|⟨g1,g2⟩
   ·exact cg.cj
   ·rw[cg.b7 g1,cg.b7 g1];exact g2
  ·have f1:=C.fr;simp only[AV.cf,bF,AV.ev,af,AA.ev,BR.ev,IE.ev,mr]at f1;exact f1
  ·obtain⟨kB,g1,g2⟩:=hT.arr;refine⟨kB,(cg.b7 (by simp)).trans g1,fun i l e=>?_⟩;obtain⟨bv',g3,g4⟩:=g2 i l e;exact⟨bv',g3,g4.to fun r=>cg.b7 (by simp)⟩
  ·obtain⟨k,g1,g2⟩:=hT.pk hp;exact⟨k,(cg.b7 (by simp)).trans g1,g2⟩
  ·refine(cg.b7 fun e=>g1 (by rw[e])).trans ((hT.off r g1 g2).trans (h0 r fun e=>g1 (by rw[e])))
  ·exact(cg.b7 fun e=>by cases e;cases hk).trans ((hT.dE k (fun j e=>by subst e;cases hk) (fun e=>by subst e;cases hk) (fun e=>by subst e;cases hk) (fun e=>by subst e;cases hk)).trans (h0 _ fun e=>by cases e;cases hk))
  ·exact(cg.b7 (by simp)).trans ((hT.dE (.app 13 0) (fun j=>by simp) (by simp) (by simp) (by simp)).trans (h0 _ (by simp)))
  ·exact(cg.b7 (by simp)).trans ((hT.dE (.app 14 j) (fun j=>by simp) (by simp) (by simp) (by simp)).trans (h0 _ (by simp)))
 ·exact(cg.b7 fun e=>hr (by simp[e])).trans (cg.b7 fun e=>hr (by simp[e]))
 ·simp only[cr,ah,ak,ac,ae,or_false]at hr;rcases hr with rfl|rfl<;>simp
 ·simp only[ac,ae,or_false]at hr;rcases hr with rfl|rfl
  ·rw[cg.cj]at hz;cases hz;refine bX ?_;simp only[cr,ah,ak,aw,decide_true,cY,eS];rfl
  ·have e2:cg.set LB (0,.app 0 0) (S,.obj fe (SS.new S q).xs) (0,.app 12 2)=some (B,.obj dY q):=(cg.b7 (by simp)).trans cg.cj;rw[e2]at hz;cases hz;refine bX ?_;simp only[cr,ah,ak,aw,Prod.mk.injEq,RK.app.injEq,true_and,and_true,decide_true,decide_false,br,reduceCtorEq,false_and,cY,eV,mr];rfl
theorem V7(hI:Dt W.heap.size W bv pv p)(hs:p.Jd):cm aa (solo (G (Frame.enter aa 5 #[.agg (sA bv p.first pv p.cd).toArray] .normal) []) W) #[] fun m T=>un 5 W.heap.size W m T∨(p.bI.length≤60∧p.bI.length+kN p.bI≤2000∧p.cK.length≤4000∧aaI W p m T):=by
 refine(V3 hI).trans fun m1 T1 hd=>?_;obtain⟨N,B,f9,f5,o1,h1,g1⟩:=hd;have hL:aaG B (sA bv p.first pv p.cd) (0,.app 12 2)=some (B,.obj dY (sA bv p.first pv p.cd)):=cg.cj;have h0:∀r,r≠(0,.app 12 2)->aaG B (sA bv p.first pv p.cd) r=none:=fun r hr=>cg.b7 hr;refine(aaH hI hL o1 h1 g1).trans fun m2 T2 hd=>?_;obtain⟨iE,f2,o2,h2,g2⟩:=hd;refine(Vv (rj:=(0,.dN)) hI hs (h0 _ (by simp)) o2 h2).trans fun m3 T3 hd=>?_;obtain⟨kH,o3,h3⟩:=hd;obtain⟨zB,zP,ρ,hB,hz,e1,_,eA,hm⟩:=V4 hI hL;have hw:dj aa ρ (VV (bU f2)) f2:=g2.rel (.inl rfl) [(1,bF 10),(3,TB),(19,ff)] (by simp only[gz,ah,ak,bF,AV.ev,af,AA.ev,BR.ev,IE.ev,hB];rfl) rfl;by_cases BT:p.Cx=true
 ·refine(NZ (f:=5) (cC:=[f2]) o3 (agP (bU kH) (bU f2)) rfl (VY true _ _) nU (ρ:=ρ) (h3.rel (.inl rfl) [(2,tr true)] (by rw[BT];rfl) rfl) ⟨hw,trivial⟩ (nofun) (nofun)).mono fun m4 T4 hd=>.inl hd
 have kG:p.Cx=false:=by simpa using BT
 have kI:dj aa ρ (lgR false (bU kH)) kH:=h3.rel (.inl rfl) [(2,tr false)] (by rw[kG];rfl) rfl;unfold Pl.Cx at kG;simp only[Bool.or_eq_false_iff,decide_eq_false_iff_not]at kG;have lB:(xB zB 1).ev ρ=p.bI.length:=(tQ (ρ:=ρ) (fun e=>by rw[e1,hz e];rfl) (by rw[e1];omega)).trans e1;by_cases h60:60<p.bI.length
 ·have hzB:zB=false:=by
   cases hzz:zB with
   |false=>rfl
   |true=>rw[hz hzz]at h60;exact absurd h60 (by simp)
  subst hzB;refine(NZ (f:=5) (cC:=[f2]) o3 (agR (bU kH) (bU f2)) rfl (VY false _ _) aaE (ρ:=ρ) kI ⟨hw,trivial⟩ (fun x hx=>?_) (fun x hx=>?_)).mono fun m4 T4 hd=>.inl hd
  ·obtain rfl:=ad.1 hx;show decide ((xB false 1).ev ρ>60)=true;rw[lB];exact decide_eq_true (by omega)
  ·obtain rfl:=ad.1 hx;exact hm _ (an ..)
 ·obtain⟨w3,A3,H3,S3⟩:=o3;refine(cQ (cC:=[f2]) (cs:=[]) A3 H3 S3 [] [] (VZ zB zP (bU kH) (bU f2)) rfl rfl (VY false _ _) (QD zB zP) (ρ:=ρ) kI ⟨hw,trivial⟩ (fun x hx=>?_) (fun x hx=>(hm x hx).to A3) (nofun) ai ai rfl).trans fun m4 T4 hd=>?_
  ·obtain rfl:=ad.1 hx;show decide ((xB zB 1).ev ρ>60)=false;rw[lB];exact decide_eq_false (by omega)
  obtain⟨w4,ρ4,zV,aAv,C⟩:=hd;obtain⟨f4,rfl,g4⟩:=C.one;have h4:=C.fr;simp only[AV.cf,AV.ev,eA ρ4 C.bE]at h4;have mr:ρ4.b 10=B:=(C.bE.bb 10).trans hB;simp only[AV.cf,bF,AV.ev,af,AA.ev,BR.ev,IE.ev,mr]at g4;refine(VO (a:=0) (x:=1) hI (by decide) (h0 _ (by simp)) (h0 _ (by simp)) (h0 _ (by simp)) (h0 _ (by simp)) (by omega) (by omega) ⟨w4,C.eG,C.heap.sub fun r x e=>e,dc⟩ h4).trans fun m5 T5 hd=>?_;obtain⟨RB,LA,cL,PA,cP,L',Uo,o5,h5,hT⟩:=hd;refine(V6 (L:=L') ((hT.dE (.app 12 2) (fun j=>by simp) (by simp) (by simp) (by simp)).trans hL) h0 hT o5 h5 g4).mono fun m6 T6 hd=>.inr ⟨by omega,by omega,by omega,hd⟩
end
noncomputable def pP:Array Oper:=fP (CD [1,1,1,1,1,0])
noncomputable def Ac:List Item:=[.code (CD [1,1,1,1,1,1])]
theorem r6C:CD [1,1,1,1,1,0]=.region 6 pP true:=by kernel_rfl
theorem GK:pP.size=9:=by kernel_rfl
theorem atD:((List.range 9).all fun i=>(ni pP i).all fun p=>Nat.blt p i)=true:=by kernel_rfl
theorem anb:ni pP 1=[0]:=by kernel_rfl
theorem anc:ni pP 3=[2]:=by kernel_rfl
theorem ane:ni pP 5=[4]:=by kernel_rfl
theorem agV:ni pP 6=[1,3,5,5]:=by kernel_rfl
theorem anf:ni pP 8=[7,6,6,0,1,2,3,4,5,6,7]:=by kernel_rfl
noncomputable def Ad:List Nat:=[1,3,4,5,35,36,37,38,39,40,41]
noncomputable def Jm(lA:List (Nat×AV))(i:Nat)(l:List Nat)(st:Nat->Value):bH:=⟨mL,197,bZ 197 st lA,.inRegion pP (i::l)::Ac,[],.run,.normal⟩
def R6Q(lA:List (Nat×AV))(i d:Nat)(val:AV)(mem:List (AA×AV)):Prop:=∀(l:List Nat) (st:Nat->Value),c7 (cO [] mem 1 [] (cJ (Jm lA i l st) [] [])) Ad (fun _=>[])=some (⟨mL,197,.inRegion pP l::Ac,[],.run,.normal,[],[],Ad.map (qw d val lA st)⟩,[])
noncomputable def QE(n:Nat):AV:=.ptr (some ⟨.cN 10,.lit (.ofNat n)⟩)
theorem r60:R6Q [(1,bF 10)] 0 35 (QE 2) []:=fun l st=>by kernel_rfl
theorem r61:R6Q [(35,QE 2)] 1 36 (.ez 71) [(⟨.cN 10,.lit 2⟩,.ez 71)]:=fun l st=>by kernel_rfl
theorem r62:R6Q [(1,bF 10)] 2 37 (QE 3) []:=fun l st=>by kernel_rfl
theorem r63:R6Q [(37,QE 3)] 3 38 (i64 (v 32)) [(⟨.cN 10,.lit 3⟩,i64 (v 32))]:=fun l st=>by kernel_rfl
theorem r64:R6Q [(4,bF 40)] 4 39 (bF 40) []:=fun l st=>by kernel_rfl
theorem r67(l:List Nat)(st:Nat->Value):c7 (cO [] [] 1 [100] (cJ (Jm [] 7 l st) [] [])) Ad (fun _=>[])=some (⟨mL,197,.inRegion pP l::Ac,[],.run,.normal,[],[(100,.cells tN ft)],Ad.map (qw 5 (bF 100) [] st)⟩,[]):=by kernel_rfl
theorem aaJ(l:List Nat)(st:Nat->Value):c7 (cO [] [] 1 [] (cJ (Jm [(39,bF 40)] 5 l st) [] [])) [0] (fun _=>Ad)=some (⟨lG,21,[.code (bQ Fn.bI)],[],.run,.normal,[],[],[bF 40]⟩,[⟨mL,197,.inRegion pP (5::l)::Ac,[],.run,.normal,[],[],Ad.map (qv [(39,bF 40)] st)⟩]):=by kernel_rfl
theorem aaK(l:List Nat)(st fZ:Nat->Value):c7 (cO [] [] 2 [] (cJ ⟨lG,21,bZ 21 fZ [(2,.ez 71)],[.code .ret],[],.run,.normal⟩ [Jm [] 5 l st] [])) Ad (fun _=>[])=some (⟨mL,197,.inRegion pP l::Ac,[],.run,.normal,[],[],Ad.map (qw 40 (.ez 71) [] st)⟩,[]):=by kernel_rfl
noncomputable def aaL:List (Nat×AV):=[(36,.ez 71),(38,i64 (v 32)),(40,.ez 72)]
theorem aaM(l:List Nat)(st:Nat->Value):c7 (cO [] [] 1 [] (cJ (Jm aaL 6 l st) [] [])) [0,1,2] (fun _=>Ad)=some (⟨wT,30,[.code (bQ Fn.run)],[],.run,.normal,[],[],[.ez 71,i64 (v 32),.ez 72]⟩,[⟨mL,197,.inRegion pP (6::l)::Ac,[],.run,.normal,[],[],Ad.map (qv aaL st)⟩]):=by kernel_rfl
noncomputable def rpM(k f y lg:Bool):List (AA×AV):=(List.zip [0,1,2,3,4,5,6] (LJ k f y lg)).map fun q=>((⟨.cN 84,.lit (.ofNat q.1)⟩:AA),q.2)
theorem aaN(k f y lg:Bool)(l:List Nat)(st fZ:Nat->Value):c7 (cO [] (rpM k f y lg) 2 [] (cJ ⟨wT,30,bZ 30 fZ [(6,bF 84)],[.code .ret],[],.run,.normal⟩ [Jm [] 6 l st] [])) Ad (fun _=>[])=some (⟨mL,197,.inRegion pP l::Ac,[],.run,.normal,[],[],Ad.map (qw 41 (.agg (LJ k f y lg)) [] st)⟩,[]):=by cases k<;>cases f<;>cases y<;>cases lg<;>kernel_rfl
noncomputable def aaO(k f y lg:Bool):List (Nat×AV):=[(1,bF 10),(3,TB),(4,bF 40),(5,bF 82),(41,.agg (LJ k f y lg))]
theorem r68(k f y lg:Bool)(st:Nat->Value):c7 (cO [] [] 2 [82] (cJ (Jm (aaO k f y lg) 8 [] st) [] [(82,.cells tN ft)])) [1,3,4,5] (fun _=>[])=some (⟨mL,197,Ac,[],.run,.normal,[],[(82,.cells (LJ k f y lg) ft)],[bF 10,TB,bF 40,bF 82]⟩,[]):=by cases k<;>cases f<;>cases y<;>cases lg<;>kernel_rfl
theorem anh(i:Nat)(l:List Nat)(st:Nat->Value):bR 100 (cJ (Jm [(1,bF 10)] i l st) [] [])=true:=by kernel_rfl
theorem atF(l:List Nat)(st:Nat->Value):bR 100 (cJ (Jm [(35,QE 2)] 1 l st) [] [])=true:=by kernel_rfl
theorem atG(l:List Nat)(st:Nat->Value):bR 100 (cJ (Jm [(37,QE 3)] 3 l st) [] [])=true:=by kernel_rfl
theorem atH(l:List Nat)(st:Nat->Value):bR 100 (cJ (Jm [(4,bF 40)] 4 l st) [] [])=true:=by kernel_rfl
theorem ani(l:List Nat)(st:Nat->Value):bR 100 (cJ (Jm [] 7 l st) [] [])=true:=by kernel_rfl
theorem atJ(l:List Nat)(st:Nat->Value):bR 100 (cJ (Jm [(39,bF 40)] 5 l st) [] [])=true:=by kernel_rfl
theorem anj(l:List Nat)(st fZ:Nat->Value):bR 100 (cJ ⟨lG,21,bZ 21 fZ [(2,.ez 71)],[.code .ret],[],.run,.normal⟩ [Jm [] 5 l st] [])=true:=by kernel_rfl
theorem atK(l:List Nat)(st:Nat->Value):bR 100 (cJ (Jm aaL 6 l st) [] [])=true:=by kernel_rfl
theorem ank(l:List Nat)(st fZ:Nat->Value):bR 100 (cJ ⟨wT,30,bZ 30 fZ [(6,bF 84)],[.code .ret],[],.run,.normal⟩ [Jm [] 6 l st] [])=true:=by kernel_rfl
theorem atL(k f y lg:Bool)(st:Nat->Value):bR 100 (cJ (Jm (aaO k f y lg) 8 [] st) [] [(82,.cells tN ft)])=true:=by cases k<;>cases f<;>cases y<;>cases lg<;>kernel_rfl
theorem atM:(OO [] [] [(⟨.cN 10,.lit 2⟩,.ez 71)]).low 100=true:=by kernel_rfl
theorem atN:(OO [] [] [(⟨.cN 10,.lit 3⟩,i64 (v 32))]).low 100=true:=by kernel_rfl
theorem atO(k f y lg:Bool):(OO [] [] (rpM k f y lg)).low 100=true:=by cases k<;>cases f<;>cases y<;>cases lg<;>kernel_rfl
theorem atP(k f y lg:Bool):AV.lp 100 [.agg (LJ k f y lg)]=true:=by cases k<;>cases f<;>cases y<;>cases lg<;>kernel_rfl
def WM(B S:Nat):List (Nat×Value):=[(1,cb B),(3,.bool true),(4,cb S)]
def r6f(B S:Nat)(pv:Value)(cd:Int)(JI Ra:Value)(o:Option Nat):Nat->Option (Nat×Value)
 |0=>some (35,ptB B 2)
 |1=>some (36,pv)
 |2=>some (37,ptB B 3)
 |3=>some (38,iV cd)
 |4=>some (39,cb S)
 |5=>some (40,JI)
 |6=>some (41,Ra)
 |7=>o.map fun BR=>(5,cb BR)
 |_=>none
def r6d(i:Nat):Nat:=if i=7 then 5 else 35+i
theorem aaP{B S:Nat}{pv:Value}{cd:Int}{JI Ra:Value}{o:Option Nat}{j:Nat}{y:Nat×Value}(h:r6f B S pv cd JI Ra o j=some y):j<8∧y.1=r6d j:=by
 unfold r6f at h;split at h<;>first|(cases h;exact⟨by decide,rfl⟩)|skip
 ·cases o with
  |none=>cases h
  |some BR=>cases h;exact⟨by decide,rfl⟩
 ·cases h
theorem aaQ{i j:Nat}(hi:i<8)(hj:j<8)(e:r6d i=r6d j):i=j:=by unfold r6d at e;split at e<;>split at e<;>omega
theorem GL:∀i,i<pP.size->∀p∈ni pP i,p<i:=fun i hi p hp=>by rw[GK]at hi;have h1:=aO.1 atD i (List.mem_range.2 hi);have h2:=aO.1 h1 p hp;exact Nat.blt_eq.mp h2
section
variable {base:Nat}{W0:World}{h N:Nat}{m:Machine}{T:Trace}{L:cg}{cs:List Frame}{r l:List Nat}{B S:Nat}{cd:Int}{bv pv JI Ra:Value}{o:Option Nat}{rB:cD}{cs0:List Value}
abbrev R6D(base:Nat)(W0:World)(h N:Nat)(L:cg)(B S:Nat)(pv:Value)(cd:Int)(JI Ra:Value)(o:Option Nat)(cs:List Frame)(r l:List Nat)(m:Machine)(T:Trace):Prop:=DrI base W0 h N L mL 197 pP Ac Ad (WM B S) (r6f B S pv cd JI Ra o) cs r l m T
theorem CE{i j:Nat}{y:Nat×Value}(hi:i<8)(hj:j≠i)(h:r6f B S pv cd JI Ra o j=some y):y.1≠r6d i:=fun e=>by obtain⟨h1,h2⟩:=aaP h;exact hj (aaQ h1 hi (h2.symm.trans e))
theorem vQ{i:Nat}(hi:i<8):∀x∈WM B S,x.1≠r6d i:=fun x hx=>by
 have mE:x.1=1∨x.1=3∨x.1=4:=by
  simp only[WM,ac,ae,or_false]at hx;rcases hx with rfl|rfl|rfl
  ·exact .inl rfl
  ·exact .inr (.inl rfl)
  ·exact .inr (.inr rfl)
 unfold r6d;split<;>omega
theorem V8{ra:cD}(hra:ra=(0,.app 13 0))(hL:L ra=none)(hr:7∈cZ pP r)(D:R6D base W0 h N L B S pv cd JI Ra none cs r (7::l) m T):
  cm aa m T fun m' T'=>∃BR,R6D base W0 h N (cg.set L ra (BR,.obj ft l8)) B S pv cd JI Ra (some BR) cs (7::r) l m' T':=by
 obtain⟨lv,fr,⟨w,A,H,hS⟩,hf,h3,h4,h5⟩:=D.ex;have xx:FA mL 197 (.inRegion pP (7::l)::Ac) [] .normal [] fr:=hf.sub fun p hp=>by cases hp
 refine(cQ (cC:=[]) (cs:=cs) A H hS [] [(ra,100,.cells tN ft)] (r67 l (bU fr)) rfl rfl (ani l _) nU (ρ:=gY [] [] []) (xx.rel (.inl rfl) [] rfl rfl) trivial (nofun) (nofun) (nofun) ai (by simp) rfl).mono fun m1 T1 hd=>?_;obtain⟨w1,bW,c9,d9,C⟩:=hd;obtain rfl:=C.none;refine⟨bW.b 100,CB (d:=5) (x:=cb (bW.b 100)) (lv:=lv) ⟨w1,C.eG,C.heap.sub (cX [ra] (fun q hq=>?_) (nofun) (fun q hq=>?_) fun q hq zz hz=>?_),dc⟩ (tw.sub C.fr fun p hp=>?_) (dK hr).2.1 (fun y hy=>(au hy).symm) (by decide) (vQ (i:=7) (by decide)) (fun j hj y hy=>CE (i:=7) (by decide) (fun e=>(dK hr).2.1 (e▸hj)) hy) h3 h4 fun i hi x hx=>h5 i hi x ?_⟩
 ·exact cg.b7 (by simpa using hq)
 ·simp only[cr,ah,ak]at hq;rw[ad.1 hq];simp
 ·obtain rfl:=ad.1 hq;rw[cg.cj]at hz;cases hz;refine bX ?_;simp only[cr,ah,ak,aw,decide_true,cY];rfl
 ·dsimp only;rcases ac.1 hp with rfl|hp
  ·have:=mK (ρ:=bW) (f:=qw 5 (bF 100) [] (bU fr)) (ns:=Ad) (n:=5) (by decide);exact this
  ·obtain⟨g1,g2⟩:=aU.1 hp;have:=mK (ρ:=bW) (f:=qw 5 (bF 100) [] (bU fr)) (h3 p g1);have e:(qw 5 (bF 100) [] (bU fr) p.1).ev bW=p.2:=by
    unfold qw;rw[show Nat.beq p.1 5=false from by simpa using g2];exact Ja C.bE hf (lA:=[]) rfl (nofun) (n:=p.1) (x:=p.2) g1
   rw[e]at this;exact this
 ·have:i≠7:=fun e=>(dK hr).2.1 (e▸hi);rw[<-hx];unfold r6f;split<;>first|rfl|exact absurd rfl this
theorem V9(hB:L rB=some (B,.obj dY [bv,iV 0,pv,iV cd])∨∃x0 x1,L rB=some (B,.obj dY [x0,x1,pv,iV cd])):∀i∈[0,1,2,3,4],∀r l m T,i∈cZ pP r->R6D base W0 h N L B S pv cd JI Ra o cs r (i::l) m T->cm aa m T (R6D base W0 h N L B S pv cd JI Ra o cs (i::r) l):=by
 intro i hi r l m T hr D;obtain⟨x0,x1,hB⟩:∃x0 x1,L rB=some (B,.obj dY [x0,x1,pv,iV cd]):=by
  rcases hB with h|h
  ·exact⟨_,_,h⟩
  ·exact h
 let ρ:cn:=gY [(32,cd)] [(10,B),(40,S)] [(71,pv)];simp only[ac,ae,or_false]at hi;rcases hi with rfl|rfl|rfl|rfl|rfl
 ·exact gE (ρ:=ρ) r60 (anh 0) nU (nofun) (nofun) rfl (fun p hp=>.inl (by obtain rfl:=ad.1 hp;exact an ..)) rfl (by decide) (vQ (i:=0) (by decide)) (fun j hj y hy=>CE (i:=0) (by decide) hj hy) hr D
 ·exact gE (ρ:=ρ) r61 atF atM (nofun) (fun p hp=>by obtain rfl:=ad.1 hp;exact .inl ⟨rB,_,hB,by simp,rfl⟩) rfl (fun p hp=>.inr ⟨0,by rw[anb];simp,by obtain rfl:=ad.1 hp;rfl⟩) rfl (by decide) (vQ (i:=1) (by decide)) (fun j hj y hy=>CE (i:=1) (by decide) hj hy) hr D
 ·exact gE (ρ:=ρ) r62 (anh 2) nU (nofun) (nofun) rfl (fun p hp=>.inl (by obtain rfl:=ad.1 hp;exact an ..)) rfl (by decide) (vQ (i:=2) (by decide)) (fun j hj y hy=>CE (i:=2) (by decide) hj hy) hr D
 ·exact gE (ρ:=ρ) r63 atG atN (nofun) (fun p hp=>by obtain rfl:=ad.1 hp;exact .inl ⟨rB,_,hB,by simp,rfl⟩) rfl (fun p hp=>.inr ⟨2,by rw[anc];simp,by obtain rfl:=ad.1 hp;rfl⟩) rfl (by decide) (vQ (i:=3) (by decide)) (fun j hj y hy=>CE (i:=3) (by decide) hj hy) hr D
 ·exact gE (ρ:=ρ) r64 atH nU (nofun) (nofun) rfl (fun p hp=>.inl (by obtain rfl:=ad.1 hp;exact am _ (am _ (an ..)))) rfl (by decide) (vQ (i:=4) (by decide)) (fun j hj y hy=>CE (i:=4) (by decide) hj hy) hr D
end
def LBo(LB:cg):Option Nat->cg
 |none=>LB
 |some BR=>cg.set LB (0,.app 13 0) (BR,.obj ft l8)
theorem GM{LB:cg}{o:Option Nat}{r:cD}(h:r≠(0,.app 13 0)):LBo LB o r=LB r:=by
 cases o with
 |none=>rfl
 |some BR=>exact cg.b7 h
abbrev LX(X:XS)(LB:cg)(o:Option Nat):cg:=dM 0 X (LBo LB o)
theorem V_{X:XS}{LB:cg}{y:Nat×fK}:cg.set (dM 0 X LB) (0,.app 13 0) y=dM 0 X (cg.set LB (0,.app 13 0) y):=by
 funext r;by_cases hr:r=(0,.app 13 0)
 ·subst hr;rw[cg.cj];simp[eQ,iK,cg.cj]
 ·rw[cg.b7 hr];exact(my (cg.b7 hr)).symm
theorem V'{L:cg}{r1 r2:cD}{y1 y2:Nat×fK}(h:r1≠r2):cg.set (cg.set L r1 y1) r2 y2=cg.set (cg.set L r2 y2) r1 y1:=by
 funext r;by_cases h1:r=r1
 ·subst h1;rw[cg.b7 h,cg.cj,cg.cj]
 ·by_cases h2:r=r2
  ·subst h2;rw[cg.cj,cg.b7 h1,cg.cj]
  ·rw[cg.b7 h2,cg.b7 h1,cg.b7 h1,cg.b7 h2]
theorem Wa{LB:cg}{o:Option Nat}{FB cF:Nat}{fs:List Value}:tR (LBo LB o) 1 FB cF fs=LBo (tR LB 1 FB cF fs) o:=by
 cases fs with
 |nil=>rfl
 |cons a l=>
  cases o with
  |none=>rfl
  |some BR=>exact V' (by simp)
section
variable {W:World}{N:Nat}{m:Machine}{T:Trace}{cs:List Frame}{r l:List Nat}{B S:Nat}{cd:Int}{pv JI Ra x0 x1:Value}{X:XS}{LB:cg}
def Rb:List Nat:=[0,1,2,3,4,7]
def R6I(W:World)(N:Nat)(X:XS)(LB:cg)(B S:Nat)(pv:Value)(cd:Int)(JI:Value)(cs:List Frame)(r l:List Nat)(m:Machine)(T:Trace):Prop:=wE pP r∧∃o:Option Nat,(7∈r↔o≠none)∧R6D W.heap.size W 0 N (LX X LB o) B S pv cd JI fO o cs r l m T
theorem N0(hB:LB (0,.app 12 2)=some (B,.obj dY [x0,x1,pv,iV cd]))(h6:LB (0,.app 13 0)=none):∀i∈Rb,∀r l m T,i∈cZ pP r->iq pP (i::r) l->R6I W N X LB B S pv cd JI cs r (i::l) m T->cm aa m T (R6I W N X LB B S pv cd JI cs (i::r) l):=by
 intro i hi r l m T hr _ D;obtain⟨dn,o,ho,D⟩:=D;have dn':=dn.cons hr;by_cases h7:i=7
 ·subst h7;have hno:o=none:=Classical.byContradiction fun e=>(dK hr).2.1 (ho.2 e);subst hno;refine(V8 (ra:=(0,.app 13 0)) rfl ((show dM 0 X LB (0,.app 13 0)=LB (0,.app 13 0) by simp[eQ,iK]).trans h6) hr D).mono fun m1 T1 hd=>?_;obtain⟨BR,D1⟩:=hd;refine⟨dn',some BR,⟨fun _=>by simp,fun _=>an ..⟩,?_⟩;rw[V_]at D1;exact D1
 ·have nN:i∈[0,1,2,3,4]:=by
   simp only[Rb,ac,ae,or_false]at hi⊢;omega
  refine(V9 (rB:=(0,.app 12 2)) (bv:=fO) (.inr ⟨x0,x1,?_⟩) i nN r l m T hr D).mono fun m1 T1 hd=>⟨dn',o,⟨fun h=>?_,fun h=>am _ (ho.2 h)⟩,hd⟩
  ·have e1:LX X LB o (0,.app 12 2)=LBo LB o (0,.app 12 2):=by simp[eQ,iK]
   rw[e1,GM (by simp)];exact hB
  ·rcases ac.1 h with h|h
   ·exact absurd h.symm h7
   ·exact ho.1 h
theorem CF{ops:Array Oper}{r:List Nat}{i p:Nat}(dn:wE ops r)(hi:i∈r)(hp:p∈ni ops i):p∈r:=by
 unfold ni at hp;split at hp
 ·rename_i o ho;obtain⟨e,he,rfl⟩:=aJ.1 hp;obtain⟨h1,h2⟩:=aU.1 he;exact dn i hi o ho e h1 h2
 ·cases hp
theorem N5{j:Nat}{S1:List Nat}(hj:j∈cZ pP r)(hr:∀a∈r,a∈S1)(agC:j∉Rb):j=5∨(j=6∧5∈S1)∨(j=8∧6∈S1):=by
 obtain⟨h1,h2,h3⟩:=dK hj;rw[GK]at h1;have:j=5∨j=6∨j=8:=by simp only[Rb,ac,ae,or_false,not_or]at agC;omega
 rcases this with rfl|rfl|rfl
 ·exact .inl rfl
 ·exact .inr (.inl ⟨rfl,hr 5 (h3 5 (by rw[agV];simp))⟩)
 ·exact .inr (.inr ⟨rfl,hr 6 (h3 6 (by rw[anf];simp))⟩)
theorem QF{nb nf PB fI:Nat}{fr:Frame}(hB:LB (0,.app 12 2)=some (B,.obj dY [x0,x1,pv,iV cd]))(h6:LB (0,.app 13 0)=none)(hJ:LB (0,.dN)=none)(hnb:nf≤nb)(WJ:nf≤1000000)(vB:nf≠0->X.s.q[0]?=some (.slice (some ⟨PB,0,none⟩) nb fI))(xg:X.s.q[1]?=some (iV nf))(hS:X.s.S=S)
 (o:g_ W.heap.size W eZ 0 N (dM 0 X LB) (G fr []) m T)(hf:FA mL 197 lvZ [] .normal [(1,cb B),(3,.bool true),(4,cb S)] fr):
  cm aa m T fun m' T'=>∃X' FB cF fs o r l lv bT f,y7 X X'∧ET X' nf fs∧g_ W.heap.size W eZ 0 N (LX X' (tR LB 1 FB cF fs) o) (G bT [f]) m' T'∧Vl pv (c_ nf FB cF) cd bT∧FA mL 197 (.inRegion pP (6::l)::Ac) [] .normal lv f∧(∀x∈lv,x.1∈Ad)∧(∀x∈WM B S,x∈lv)∧(∀BR,o=some BR->(5,cb BR)∈lv)∧(7∈r↔o≠none)∧(∀a∈r,a∈5::Rb)∧iq pP r (6::l)∧wE pP r:=by
 have Yh:FA mL 197 (.code (.region 6 pP true)::Ac) [] .normal (WM B S) fr:=by rw[<-r6C];exact hf
 refine(NS o Yh).trans fun m1 T1 hd=>?_;obtain⟨l,c9,hs,o1,f1⟩:=hd;have D0:R6I W N X LB B S pv cd fO [] [] l m1 T1:=⟨(fun i hi=>by cases hi),none,by simp,_,c9,o1,f1,fun x hx=>by
  simp only[WM,ac,ae,or_false]at hx;rcases hx with rfl|rfl|rfl
  ·exact(by decide:1∈Ad)
  ·exact(by decide:3∈Ad)
  ·exact(by decide:4∈Ad),fun x hx=>hx,fun i hi=>by cases hi⟩
 refine(qP (N0 hB h6) hs D0).trans fun m2 T2 hd=>?_;obtain⟨r2,l2,q_,_,hr2,⟨dn2,o2,ho2,D2⟩,Fx⟩:=hd;have L3:∀a∈r2,a∈Rb:=fun a ha=>(hr2 a ha).elim (fun h=>by cases h) id;have hj5:∃l3,l2=5::l3:=by
  rcases Fx with rfl|⟨j,l3,rfl,hj⟩
  ·exact absurd (L3 5 (kO GL q_ 5 (by rw[GK];decide))) (by decide)
  ·rcases N5 (S1:=Rb) q_.1 L3 hj with rfl|⟨_,h⟩|⟨_,h⟩
   ·exact⟨l3,rfl⟩
   ·exact absurd h (by decide)
   ·exact absurd h (by decide)
 obtain⟨l3,rfl⟩:=hj5;obtain⟨lv2,iE,q2,f2,g3,g4,g5⟩:=D2.ex;have p5:=(dK q_.1).2.2;rw[ane]at p5;refine(NQ (ρ:=gY [] [(40,S)] []) q2 f2 rfl (aaJ l3) (atJ l3) nU (nofun) (nofun) rfl (fun p hp=>?_) g3).trans fun m3 T3 hd=>?_
 ·obtain rfl:=ad.1 hp;exact g5 4 (p5 4 (by simp)) _ rfl
 obtain⟨kH,f3,o3,h3,w3⟩:=hd;refine(L5 (x:=1) (a:=0) (X:=X) (L:=LBo LB o2) (PB:=PB) (fI:=fI) (nb:=nb) (nf:=nf) (by decide) ((GM (by simp)).trans hJ) hnb WJ vB xg o3 (by rw[hS];exact h3)).trans fun m4 T4 hd=>?_;obtain⟨X',FB,cF,fs,zV,sx,kf,o4,h4⟩:=hd;rw[Wa]at o4;refine(NR (ρ:=gY [] [] [(71,c_ nf FB cF)]) o4 h4 w3 rfl (fun st fZ=>aaK l3 st fZ) (fun st fZ=>anj l3 st fZ) nU (nofun) (nofun) rfl rfl g3 (by decide)).trans fun m5 T5 hd=>?_;obtain⟨Uo,o5,h5⟩:=hd;have hn5:5∉r2:=(dK q_.1).2.1;have D5:R6I W N X' (tR LB 1 FB cF fs) B S pv cd (c_ nf FB cF) [] (5::r2) l3 m5 T5:=⟨dn2.cons q_.1,o2,⟨fun h=>(ac.1 h).elim (fun e=>by cases e) ho2.1,fun h=>am _ (ho2.2 h)⟩,CB o5 h5 hn5 (fun y hy=>(au hy).symm) (by decide) (vQ (i:=5) (by decide)) (fun j hj y hy=>CE (i:=5) (by decide) (fun e=>hn5 (e▸hj)) hy) g3 g4 (fun i hi x hx=>g5 i hi x (by have df:i≠5:=fun e=>hn5 (e▸hi);rw[<-hx];unfold r6f;split<;>first|rfl|exact absurd rfl df))⟩
 have iw:∀r:cD,r≠(1,.app 3 0)->tR LB 1 FB cF fs r=LB r:=fun r hr=>by
  cases fs with
  |nil=>rfl
  |cons a l=>exact cg.b7 hr
 refine(qP (N0 (x0:=x0) (x1:=x1) ((iw _ (by simp)).trans hB) ((iw _ (by simp)).trans h6)) q_.2 D5).trans fun m6 T6 hd=>?_;obtain⟨r6,l6,Qe,hk6,hr6,⟨dn6,o6,ho6,D6⟩,hl6⟩:=hd;have Ji:∀a∈r6,a∈5::Rb:=fun a ha=>by
  rcases hr6 a ha with h|h
  ·rcases ac.1 h with rfl|h
   ·exact an ..
   ·exact am _ (L3 a h)
  ·exact am _ h
 have atS:5∈r6:=hk6 5 (an ..);have hj6:∃l7,l6=6::l7:=by
  rcases hl6 with rfl|⟨j,l7,rfl,hj⟩
  ·exact absurd (Ji 6 (kO GL Qe 6 (by rw[GK];decide))) (by decide)
  ·rcases N5 (S1:=5::Rb) Qe.1 Ji hj with rfl|⟨rfl,_⟩|⟨_,h⟩
   ·exact absurd atS (dK Qe.1).2.1
   ·exact⟨l7,rfl⟩
   ·exact absurd h (by decide)
 obtain⟨l7,rfl⟩:=hj6;obtain⟨lv6,fr6,q6,f6,u3,u4,u5⟩:=D6.ex;have p6:=(dK Qe.1).2.2;rw[agV]at p6;refine(NQ (ρ:=gY [(32,cd)] [] [(71,pv),(72,c_ nf FB cF)]) q6 f6 rfl (aaM l7) (atK l7) nU (nofun) (nofun) rfl (fun p hp=>?_) u3).mono fun m7 T7 hd=>?_
 ·simp only[aaL,gz,ah,ak,ac,ae,or_false]at hp;rcases hp with rfl|rfl|rfl
  ·exact u5 1 (p6 1 (by simp)) _ rfl
  ·exact u5 3 (p6 3 (by simp)) _ rfl
  ·exact u5 5 (p6 5 (by simp)) _ rfl
 obtain⟨fr7,f7,o7,h7,w7⟩:=hd;refine⟨X',FB,cF,fs,o6,r6,l7,lv6,fr7,f7,sx,kf,o7,h7,w7,u3,u4,fun BR e=>?_,ho6,Ji,Qe,dn6⟩;have atT:7∈r6:=ho6.2 (by rw[e];simp);exact u5 7 atT _ (by rw[e];rfl)
end
def Pl.nf(p:Pl):Nat:=(fX p.first ((p.bI.length+1:Nat):Int)).toNat
theorem Pl.anm(p:Pl):fX p.first ((p.bI.length+1:Nat):Int)=(p.nf:Int)∧p.nf≤p.bI.length:=by have:=qQ (n:=p.first) (m:=((p.bI.length+1:Nat):Int)) (by omega);unfold Pl.nf;omega
def Pl.GN(p:Pl):List (List Sp):=p.bI.map fun l=>l.map Rp.ki
structure Ran(W:World)(p:Pl)(E:Wd)(X:XS)(PB fI:Nat)(E':Wd)(c6:Nat->Option Tok.Seat)(Y1:GS)(X1:XS)(iO:dX)(cl:List Nat)(Y':GS)(X':XS)(Bk:Nat)(e:Int)(L:List Value)(AB cA FB ig:Nat):Prop where
 got:Vn E PB p.bI.length fI p.GN X (WK p.cd) E' c6 Y1 X1 iO cl Y' X' Bk e L AB cA FB ig
 base:E.base=W.heap.size
 W0:E.W0=W
 x:E.x=1
 a:E.a=0
 s:X.s=SS.new X.s.S X.s.q
 ql:X.s.q.length=4
 na:∀k,fm k=false->E'.LB (0,k)=none
 f14:∀j,E'.LB (0,.app 14 j)=none
section
variable {W:World}{m:Machine}{T:Trace}{p:Pl}
theorem agX(h60:p.bI.length≤60)(di:p.bI.length+kN p.bI≤2000)(hP:p.cK.length≤4000)(hL:aaI W p m T):
  cm aa m T fun m' T'=>∃E X PB fI E' N' Y1 X1 iO cl Y' X' Bk e Ls AB cA FB ig B r l lv o bT f,Ran W p E X PB fI E' (fun _=>none) Y1 X1 iO cl Y' X' Bk e Ls AB cA FB ig∧On E' (fun _=>none) 0 N' Y' X' (G bT [f]) m' T'∧Cw Bk bT∧
   FA mL 197 (.inRegion pP (6::l)::Ac) [] .normal lv f∧(∀x∈lv,x.1∈Ad)∧(∀x∈WM B X.s.S,x∈lv)∧(∀BR,o=some BR->(5,cb BR)∈lv)∧(7∈r↔o≠none)∧(∀a∈r,a∈5::Rb)∧iq pP r (6::l)∧wE pP r∧E'.LB (0,.app 13 0)=o.map fun BR=>(BR,.obj ft l8):=by
 obtain⟨N,B,S,LA,cL,PA,cP,LB,fr,o,hf,M⟩:=hL;obtain⟨hz,hle⟩:=p.anm;let q:=Q_ (c_ p.bI.length LA cL) p.first p.bI.length (c_ p.cK.length PA cP) p.cd
 have vB:p.nf≠0->q[0]?=some (.slice (some ⟨LA,0,none⟩) p.bI.length cL):=fun h=>by show some (c_ p.bI.length LA cL)=_;rw[cy (by omega)]
 have xg:q[1]?=some (iV p.nf):=by show some (iV (fX p.first ((p.bI.length+1:Nat):Int)))=_;rw[hz]
 have agY:∀r:cD,r.1≠0->r≠(1,.app 2 0)->LB r=none:=M.off;refine(QF (S:=S) (X:=XS.new S q) (LB:=LB) (PB:=LA) (fI:=cL) M.box M.Vo (M.na .dN rfl) hle (by omega) vB xg rfl o hf).trans fun m1 T1 hd=>?_;obtain⟨X,FB,cF,fs,oo,r,l,lv,c9,f1,sx,kf,o1,h1,w1,g1,g2,g3,g4,g5,g6,gd⟩:=hd;let Q7:cg:=tR LB 1 FB cF fs;have iw:∀r:cD,r≠(1,.app 3 0)->Q7 r=LB r:=fun r hr=>by
  show tR LB 1 FB cF fs r=LB r;cases fs with
  |nil=>rfl
  |cons a l=>exact cg.b7 hr
 let E:Wd:=⟨W.heap.size,W,1,0,LBo Q7 oo⟩;have hE:∀r:cD,r≠(1,.app 3 0)->r≠(0,.app 13 0)->E.LB r=LB r:=fun r a1 a2=>(GM a2).trans (iw r a1);have hXs:X.s=SS.new S q:=sx.s;have hsz:∀l∈p.bI,l.length≤2000:=fun l hl=>by
  have:l.length≤kN p.bI:=by
   unfold kN;revert hl;clear di hf h60 o M hle vB xg hz h1 kf;generalize p.bI=Ls;intro hl
   induction Ls with
   |nil=>cases hl
   |cons y Ls ih=>
    simp only[ah,List.sum_cons];rcases ac.1 hl with rfl|hl
    ·omega
    ·have:=ih hl;omega
  omega
 have Bd:JH E LA p.bI.length cL p.GN:=by
  refine⟨?_,fun l hl x hx=>?_,by simp[Pl.GN],fun l hl=>?_,(show(1:Nat)≠0 by decide)⟩
  ·obtain⟨kB,a1,a2⟩:=M.arr;refine⟨kB,(hE _ (by simp) (by simp)).trans a1,fun i l e=>?_⟩;unfold Pl.GN at e;rw[aZ]at e;cases hb:p.bI[i]? with
   |none=>rw[hb]at e;cases e
   |some b=>rw[hb]at e;cases e;obtain⟨bv,a3,a4⟩:=a2 i b hb;exact⟨bv,a3,a4.to fun r=>hE _ (by simp) (by simp)⟩
  ·obtain⟨b,_,rfl⟩:=aJ.1 hl;obtain⟨y,_,rfl⟩:=aJ.1 hx;exact y.aam
  ·obtain⟨b,hb,rfl⟩:=aJ.1 hl;rw[bj];exact hsz b hb
 have Fn:ZH E X FB p.nf:=⟨fun h=>by
  have hfn:fs≠[]:=fun e=>by have:=kf.1;rw[e]at this;exact h this.symm
  refine⟨.fF 35 cF fs,(GM (by simp)).trans ?_,kf.2⟩;show tR LB 1 FB cF fs (1,.app 3 0)=_;rw[xq hfn];exact cg.cj⟩
 have pb:∀k,fm k=false->E.LB (1,k)=none:=fun k hk=>(hE _ (fun e=>by cases e;cases hk) (fun e=>by cases e)).trans (agY _ (by simp) fun e=>by cases e;cases hk);refine(Z' (E:=E) (X:=X) (bJ:=fun _=>none) (cK:=p.cK) (cd:=p.cd) (PA:=PA) (cP:=cP) (FB:=FB) (nf:=p.nf) (cF:=cF) Bd Fn (fun hp=>?_) (fun i=>?_) pb (by rw[hXs];rfl) (by rw[hXs];rfl) (by rw[hXs];rfl) (by rw[hXs];rfl) (fun h=>by rw[hXs];exact vB h) hle (by omega) (fun i s e=>by cases e) o1 h1).mono fun m2 T2 hd=>?_
 ·obtain⟨k,a1,a2⟩:=M.pk hp;exact⟨k,(hE _ (by simp) (by simp)).trans a1,a2⟩
 ·exact(hE _ (by simp) (by simp)).trans (agY _ (by simp) (by simp))
 obtain⟨E',c6,N',Y1,X1,iO,cl,Y',X',Bk,e,Ls,AB,cA,FBk,ig,iE,o2,h2,R⟩:=hd;obtain⟨LB2,rfl,aaR⟩:=R.lb;have pF:c6=fun _=>none:=by
  funext i;cases ei:c6 i with
  |none=>rfl
  |some s=>
   obtain⟨z,k,a1,a2,a3⟩:=R.only i s ei;have a3':LB2 (z,k)=some (s.c,.chan):=a3;rw[aaR _ a1,hE _ (fun e=>by cases e;cases a2) (fun e=>by cases e;cases a2)]at a3';by_cases hz0:z=0
   ·subst hz0;rw[M.na k a2]at a3';cases a3'
   ·rw[agY _ hz0 fun e=>by cases e;cases a2]at a3';cases a3'
 subst pF;refine⟨E,X,LA,cL,_,N',Y1,X1,iO,cl,Y',X',Bk,e,Ls,AB,cA,FBk,ig,B,r,l,lv,oo,iE,f1,⟨R,rfl,rfl,rfl,rfl,by rw[hXs];rfl,by rw[hXs];rfl,fun k hk=>?_,fun j=>?_⟩,o2,h2,w1,g1,by rw[show X.s.S=S from by rw[hXs];rfl];exact g2,g3,g4,g5,g6,gd,?_⟩
 ·show LB2 (0,k)=none;rw[aaR _ (show(0:Nat)≠1 by decide),hE _ (fun e=>by cases e) (fun e=>by cases e;cases hk)];exact M.na k hk
 ·show LB2 (0,.app 14 j)=none;rw[aaR _ (show(0:Nat)≠1 by decide),hE _ (by simp) (by simp)];exact M.f14 j
 show LB2 (0,.app 13 0)=_;rw[aaR _ (show(0:Nat)≠1 by decide)];show LBo Q7 oo (0,.app 13 0)=_;cases oo with
 |none=>exact(iw _ (by simp)).trans M.Vo
 |some BR=>exact cg.cj
end
noncomputable def Wb(e:Int)(Y:GS)(kL AB cA kF FB ig Bk B S BR:Nat):cn:=gY [(6,Y.cp.length),(25,Y.cW),(26,Y.cR),(36,(Y.db.length / 8:Nat)),(38,Y.cL),(70,kL),(71,cA),(72,kF),(73,ig),(81,e)] [(10,B),(23,Y.WA),(24,Y.RA),(34,AB),(35,FB),(39,Y.LA),(40,S),(82,BR),(84,Bk)] []
noncomputable def reA(Y:GS)(kL kF:Nat):List AV:=LJ (decide (kL=0)) (decide (kF=0)) (decide (Y.cp.length=0)) (decide (Y.db.length / 8=0))
theorem Wc{e:Int}{Y:GS}{kL AB cA kF FB ig Bk B S BR:Nat}{bW:cn}(Ag:cz (dR 100) (Wb e Y kL AB cA kF FB ig Bk B S BR) bW)(xA:Y.ready.length=Y.cp.length):AV.cf bW (reA Y kL kF)=fb e Y kL AB cA kF FB ig:=by
 have z6:bW.i 6=Y.cp.length:=Ag.i 6 (by decide);have Z1:bW.i 81=e:=Ag.i 81 (by decide);simp only[reA,LJ,AV.cf];rw[dC (ρ:=bW) (B:=Y.LA) (k:=Y.db.length / 8) (q:=Y.cL) (Ag.b 39 (by decide)) (Ag.i 36 (by decide)) (Ag.i 38 (by decide)),dC (ρ:=bW) (B:=Y.WA) (k:=Y.cp.length) (q:=Y.cW) (Ag.b 23 (by decide)) z6 (Ag.i 25 (by decide)),dC (ρ:=bW) (B:=Y.RA) (k:=Y.cp.length) (q:=Y.cR) (Ag.b 24 (by decide)) z6 (Ag.i 26 (by decide)),dC (ρ:=bW) (B:=AB) (k:=kL) (q:=cA) (Ag.b 34 (by decide)) (Ag.i 70 (by decide)) (Ag.i 71 (by decide)),dC (ρ:=bW) (B:=FB) (k:=kF) (q:=ig) (Ag.b 35 (by decide)) (Ag.i 72 (by decide)) (Ag.i 73 (by decide))];unfold fb;rw[xA];have ew:(Gq (decide (Y.cp.length=0))).ev bW=Y.cp.length:=by
  by_cases hw:Y.cp.length=0
  ·rw[show decide (Y.cp.length=0)=true from decide_eq_true hw,hw];rfl
  ·rw[show decide (Y.cp.length=0)=false from decide_eq_false hw];simp only[Gq,v,IE.ev,z6,ap]
 simp only[i8,i64,AV.ev,ew,v,IE.ev,Z1];rfl
section
variable {W:World}{m:Machine}{T:Trace}{base N:Nat}{L:cg}{e:Int}{Y:GS}{kL AB cA kF FB ig Bk B S BR:Nat}{lv:List (Nat×Value)}{r l:List Nat}{fr f:Frame}{rK:cD}{o:Option Nat}
abbrev QG(e:Int)(Y:GS)(kL AB cA kF FB ig:Nat):Value:=.agg (fb e Y kL AB cA kF FB ig).toArray
theorem aaS(xA:Y.ready.length=Y.cp.length)(hK:L rK=some (Bk,.obj ft (fb e Y kL AB cA kF FB ig)))(xw:∀x∈lv,x.1∈Ad)(ob:g_ base W eZ 0 N L (G fr [f]) m T)(h:Cw Bk fr)(hf:FA mL 197 (.inRegion pP (6::l)::Ac) [] .normal lv f):
  cm aa m T fun m' T'=>∃bT,g_ base W eZ 0 N L (G bT []) m' T'∧FA mL 197 (.inRegion pP l::Ac) [] .normal (xo 41 (QG e Y kL AB cA kF FB ig) lv) bT:=by
 let ρ:=Wb e Y kL AB cA kF FB ig Bk 0 0 0;have ev:=Wc (cz.refl (dR 100) ρ) xA;refine(NR (ρ:=ρ) (gA:=[(6,bF 84)]) (val:=.agg (reA Y kL kF)) ob h hf rfl (fun st fZ=>aaN _ _ _ _ l st fZ) (fun st fZ=>ank l st fZ) (atO _ _ _ _) (nofun) (fun p hp=>?_) (atP _ _ _ _) rfl xw (by decide)).mono fun m1 T1 hd=>?_
 ·have key:∀(j:Nat) (a:AV),(reA Y kL kF)[j]?=some a->zD L [] base W ρ (⟨.cN 84,.lit (.ofNat j)⟩,a):=fun j a ha=>by
   refine .inl ⟨rK,_,hK,by simp,?_⟩;show(fb e Y kL AB cA kF FB ig)[j]?=some (a.ev ρ);rw[<-ev];have:∀(l:List AV) (j:Nat),l[j]?=some a->(AV.cf ρ l)[j]?=some (a.ev ρ):=by
    intro l
    induction l with
    |nil=>intro j h;cases h
    |cons b l ih=>
     intro j h;cases j with
     |zero=>cases h;rfl
     |succ j=>exact ih j (by simpa using h)
   exact this _ _ ha
  simp only[rpM,LJ,List.zip_cons_cons,List.zip_nil_right,ah,ak,ac,ae,or_false]at hp;rcases hp with rfl|rfl|rfl|rfl|rfl|rfl|rfl
  ·exact key 0 _ rfl
  ·exact key 1 _ rfl
  ·exact key 2 _ rfl
  ·exact key 3 _ rfl
  ·exact key 4 _ rfl
  ·exact key 5 _ rfl
  ·exact key 6 _ rfl
 ·obtain⟨bT,o',h'⟩:=hd;refine⟨bT,o',?_⟩;have:(AV.agg (reA Y kL kF)).ev ρ=QG e Y kL AB cA kF FB ig:=by
   show Value.agg (AV.cf ρ (reA Y kL kF)).toArray=_;rw[ev]
  rw[this]at h';exact h'
theorem Jn(xA:Y.ready.length=Y.cp.length)(hR:L (0,.app 13 0)=some (BR,.obj ft l8))(ob:g_ base W eZ 0 N L (G fr []) m T)(hf:FA mL 197 (.inRegion pP [8]::Ac) [] .normal lv fr)(h1:∀x∈WM B S,x∈lv)(h5:(5,cb BR)∈lv)(h41:(41,QG e Y kL AB cA kF FB ig)∈lv):
  cm aa m T fun m' T'=>∃bT,g_ base W eZ 0 N (cg.set L (0,.app 13 0) (BR,.obj ft (fb e Y kL AB cA kF FB ig))) (G bT []) m' T'∧FA mL 197 Ac [] .normal [(1,cb B),(3,.bool true),(4,cb S),(5,cb BR)] bT:=by
 obtain⟨w,A,H,hS⟩:=ob;let ρ:=Wb e Y kL AB cA kF FB ig 0 B S BR;have ev:=Wc (cz.refl (dR 100) ρ) xA;have xx:FA mL 197 (.inRegion pP [8]::Ac) [] .normal (gz ρ (aaO (decide (kL=0)) (decide (kF=0)) (decide (Y.cp.length=0)) (decide (Y.db.length / 8=0)))) fr:=hf.sub fun x hx=>by
  simp only[aaO,gz,ah,ak,ac,ae,or_false]at hx;rcases hx with rfl|rfl|rfl|rfl|rfl
  ·exact h1 _ (an ..)
  ·exact h1 _ (am _ (an ..))
  ·exact h1 _ (am _ (am _ (an ..)))
  ·exact h5
  ·have:(41,(AV.agg (LJ (decide (kL=0)) (decide (kF=0)) (decide (Y.cp.length=0)) (decide (Y.db.length / 8=0)))).ev ρ)=(41,QG e Y kL AB cA kF FB ig):=by
    show(41,Value.agg (AV.cf ρ (reA Y kL kF)).toArray)=_;rw[ev]
   rw[this];exact h41
 refine(cQ (cC:=[]) (cs:=[]) A H hS [((0,.app 13 0),82,.cells tN ft)] [((0,.app 13 0),82,.cells (reA Y kL kF) ft)] (r68 _ _ _ _ (bU fr)) rfl rfl (atL _ _ _ _ _) nU (ρ:=ρ) (xx.rel (.inl rfl) _ rfl rfl) trivial (nofun) (nofun) (fun p hp=>?_) (by simp) (by simp) rfl).mono fun m1 T1 hd=>?_
 ·obtain rfl:=ad.1 hp;exact⟨_,hR,rfl,rfl⟩
 obtain⟨w1,bW,c9,d9,C⟩:=hd;obtain rfl:=C.none;have y82:bW.b 82=BR:=C.bE.bb 82;have mr:bW.b 10=B:=C.bE.bb 10;have lx:bW.b 40=S:=C.bE.bb 40;refine⟨c9,⟨w1,C.eG,C.heap.sub (cX [(0,.app 13 0)] (fun q hq=>?_) (fun q hq=>by simpa using hq) (fun q hq=>?_) fun q hq zz hz=>?_),dc⟩,?_⟩
 ·exact cg.b7 (by simpa using hq)
 ·simp only[cr,ah,ak]at hq;rw[ad.1 hq];simp
 ·obtain rfl:=ad.1 hq;rw[cg.cj]at hz;cases hz;refine bX ?_;simp only[cr,ah,ak,aw,decide_true,cY,Wc C.bE xA,y82]
 ·have f1:=C.fr;simp only[AV.cf,bF,AV.ev,af,AA.ev,Go.Proofs.Ythaddgfbohmfoaa.SX.BR.ev,IE.ev,y82,mr,lx]at f1;exact f1
theorem aaT(hs:iq pP r (6::l))(dn:wE pP r)(hr:∀a∈r,a∈5::Rb):(∀a,a<7->a∈6::r):=by have p6:=(dK hs.1).2.2;rw[agV]at p6;have a1:=p6 1 (by simp);have a3:=p6 3 (by simp);have a5:=p6 5 (by simp);have a0:=CF dn a1 (p:=0) (by rw[anb];simp);have a2:=CF dn a3 (p:=2) (by rw[anc];simp);have a4:=CF dn a5 (p:=4) (by rw[ane];simp);intro a ha;rcases(by omega:a=0∨a=1∨a=2∨a=3∨a=4∨a=5∨a=6)with rfl|rfl|rfl|rfl|rfl|rfl|rfl<;>simp[*]
theorem aaU(hs:iq pP r (6::l))(dn:wE pP r)(hr:∀a∈r,a∈5::Rb):(7∈r->l=[8])∧(7∉r->l=[7,8]):=by
 have jc:=aaT hs dn hr;have h8:∀{r2:List Nat},(∀a,a<8->a∈r2)->8∉r2->∀{l2:List Nat},iq pP r2 l2->l2=[8]:=fun{r2} ha h8 {l2} q_=>by
  cases l2 with
  |nil=>exact absurd (kO GL q_ 8 (by rw[GK];decide)) h8
  |cons j l3=>
   obtain⟨x1,x2,_⟩:=dK q_.1;rw[GK]at x1;have hj:j=8:=by
    rcases bo j 8 with h|h
    ·exact absurd (ha j h) x2
    ·omega
   subst hj;cases l3 with
   |nil=>rfl
   |cons j2 l4=>
    obtain⟨y1,y2,_⟩:=dK q_.2.1;rw[GK]at y1;refine absurd ?_ y2;rcases bo j2 8 with h|h
    ·exact am _ (ha j2 h)
    ·rw[show j2=8 by omega];exact an ..
 have h8r:8∉6::r:=fun h=>by
  rcases ac.1 h with h|h
  ·cases h
  ·exact absurd (hr 8 h) (by decide)
 refine⟨fun h7=>h8 (fun a ha=>?_) h8r hs.2,fun h7=>?_⟩
 ·by_cases h:a=7
  ·rw[h];exact am _ h7
  ·exact jc a (by omega)
 ·have h7':7∉6::r:=fun h=>by
   rcases ac.1 h with h|h
   ·cases h
   ·exact h7 h
  cases l with
  |nil=>exact absurd (kO GL hs.2 7 (by rw[GK];decide)) h7'
  |cons j l3=>
   obtain⟨x1,x2,x3⟩:=dK hs.2.1;rw[GK]at x1;have hj:j=7:=by
    rcases bo j 7 with h|h
    ·exact absurd (jc j h) x2
    ·rcases(by omega:j=7∨j=8)with h|h
     ·exact h
     ·rw[h,anf]at x3;exact absurd (x3 7 (by simp)) h7'
   subst hj;rw[h8 (r2:=7::6::r) (fun a ha=>?_) (fun h=>?_) hs.2.2]
   ·by_cases h:a=7
    ·rw[h];exact an ..
    ·exact am _ (jc a (by omega))
   ·rcases ac.1 h with h|h
    ·cases h
    ·exact h8r h
end
section
variable {W:World}{m:Machine}{T:Trace}{base N:Nat}{L:cg}{lv:List (Nat×Value)}{r l:List Nat}{fr:Frame}{p:Pl}
theorem QH(hL:L (0,.app 13 0)=none)(xw:∀x∈lv,x.1∈Ad)(ob:g_ base W eZ 0 N L (G fr []) m T)(hf:FA mL 197 (.inRegion pP (7::l)::Ac) [] .normal lv fr):
  cm aa m T fun m' T'=>∃BR bT,g_ base W eZ 0 N (cg.set L (0,.app 13 0) (BR,.obj ft l8)) (G bT []) m' T'∧FA mL 197 (.inRegion pP l::Ac) [] .normal (xo 5 (cb BR) lv) bT:=by
 obtain⟨w,A,H,hS⟩:=ob;have xx:FA mL 197 (.inRegion pP (7::l)::Ac) [] .normal [] fr:=hf.sub fun p hp=>by cases hp
 refine(cQ (cC:=[]) (cs:=[]) A H hS [] [((0,.app 13 0),100,.cells tN ft)] (r67 l (bU fr)) rfl rfl (ani l _) nU (ρ:=gY [] [] []) (xx.rel (.inl rfl) [] rfl rfl) trivial (nofun) (nofun) (nofun) ai (by simp) rfl).mono fun m1 T1 hd=>?_;obtain⟨w1,bW,c9,d9,C⟩:=hd;obtain rfl:=C.none;refine⟨bW.b 100,c9,⟨w1,C.eG,C.heap.sub (cX [(0,.app 13 0)] (fun q hq=>?_) (nofun) (fun q hq=>?_) fun q hq zz hz=>?_),dc⟩,tw.sub C.fr fun p hp=>?_⟩
 ·exact cg.b7 (by simpa using hq)
 ·simp only[cr,ah,ak]at hq;rw[ad.1 hq];simp
 ·obtain rfl:=ad.1 hq;rw[cg.cj]at hz;cases hz;refine bX ?_;simp only[cr,ah,ak,aw,decide_true,cY];rfl
 ·dsimp only;rcases ac.1 hp with rfl|hp
  ·have:=mK (ρ:=bW) (f:=qw 5 (bF 100) [] (bU fr)) (ns:=Ad) (n:=5) (by decide);exact this
  ·obtain⟨g1,g2⟩:=aU.1 hp;have:=mK (ρ:=bW) (f:=qw 5 (bF 100) [] (bU fr)) (xw p g1);have e:(qw 5 (bF 100) [] (bU fr) p.1).ev bW=p.2:=by
    unfold qw;rw[show Nat.beq p.1 5=false from by simpa using g2];exact Ja C.bE hf (lA:=[]) rfl (nofun) (n:=p.1) (x:=p.2) g1
   rw[e]at this;exact this
structure f_(W:World)(p:Pl)(E:Wd)(X:XS)(PB fI:Nat)(E':Wd)(N':Nat)(Y1:GS)(X1:XS)(iO:dX)(cl:List Nat)(Y':GS)(X':XS)(Bk:Nat)(e:Int)(Ls:List Value)(AB cA FB ig B BR:Nat)(fr:Frame)(m:Machine)(T:Trace):Prop where
 ran:Ran W p E X PB fI E' (fun _=>none) Y1 X1 iO cl Y' X' Bk e Ls AB cA FB ig
 on:g_ W.heap.size W eZ 0 N' (cg.set (E'.de Y' X') (0,.app 13 0) (BR,.obj ft (fb e Y' (Ls.length / 8) AB cA (eY Y'.dz Y'.n).length FB ig))) (G fr []) m T
 fr:FA mL 197 Ac [] .normal [(1,cb B),(3,.bool true),(4,cb X.s.S),(5,cb BR)] fr
theorem aaV{L:cg}{r:cD}{y z:Nat×fK}:cg.set (cg.set L r y) r z=cg.set L r z:=by
 funext q;by_cases h:q=r
 ·subst h;rw[cg.cj,cg.cj]
 ·rw[cg.b7 h,cg.b7 h,cg.b7 h]
theorem We(h60:p.bI.length≤60)(di:p.bI.length+kN p.bI≤2000)(hP:p.cK.length≤4000)(hL:aaI W p m T):
  cm aa m T fun m' T'=>∃E X PB fI E' N' Y1 X1 iO cl Y' X' Bk e Ls AB cA FB ig B BR fr,f_ W p E X PB fI E' N' Y1 X1 iO cl Y' X' Bk e Ls AB cA FB ig B BR fr m' T':=by
 refine(agX h60 di hP hL).trans fun m1 T1 hd=>?_;obtain⟨E,X,PB,fI,E',N',Y1,X1,iO,cl,Y',X',Bk,e,Ls,AB,cA,FB,ig,B,r,l,lv,oo,c9,f1,R,o1,h1,w1,g1,g2,g3,g4,g5,g6,gd,gR⟩:=hd;obtain⟨LB2,hE',_⟩:=R.got.lb;have eb:E'.base=W.heap.size:=by rw[hE'];exact R.base
 have ew:E'.W0=W:=by rw[hE'];exact R.W0
 have ex:E'.x=1:=by rw[hE'];exact R.x
 have ea:E'.a=0:=by rw[hE'];exact R.a
 obtain⟨w,A,H,hS⟩:=o1;rw[eb,ew]at A;rw[eb]at H;have o1':g_ W.heap.size W eZ 0 N' (E'.de Y' X') (G c9 [f1]) m1 T1:=⟨w,A,H,dc⟩;obtain⟨ts,hY⟩:=R.got.halt;have xA:Y'.ready.length=Y'.cp.length:=by rw[hY];exact R.got.inv.rd
 have hx:E.x=1:=R.x;have hK:E'.de Y' X' (1,.app 1 4)=some (Bk,.obj ft (fb e Y' (Ls.length / 8) AB cA (eY Y'.dz Y'.n).length FB ig)):=by have h1:=sk (E:=E') (Y:=Y') (X:=X') (k:=1) (i:=4) (by rw[ex,ea];decide);have h2:=R.got.Vo;rw[R.x]at h2;rw[ex]at h1;exact h1.trans h2
 have hA:E'.de Y' X' (0,.app 13 0)=E'.LB (0,.app 13 0):=by unfold Wd.de;rw[ct rfl];simp[eQ,iK]
 obtain⟨q7,q7'⟩:=aaU g6 gd g5;have tk:∀{lw:List (Nat×Value)} {x:Nat×Value},x∈lv->x.1≠41->x∈xo 41 (QG e Y' (Ls.length / 8) AB cA (eY Y'.dz Y'.n).length FB ig) lv:=fun{lw x} h1 h2=>m_ h1 h2;have nb:∀x∈WM B X.s.S,x.1≠41∧x.1≠5:=fun x hx=>by
  simp only[WM,ac,ae,or_false]at hx;rcases hx with rfl|rfl|rfl
  ·exact(by decide:(1:Nat)≠41∧(1:Nat)≠5)
  ·exact(by decide:(3:Nat)≠41∧(3:Nat)≠5)
  ·exact(by decide:(4:Nat)≠41∧(4:Nat)≠5)
 refine(aaS xA hK g1 o1' h1 w1).trans fun m2 T2 hd=>?_;obtain⟨iE,o2,h2⟩:=hd;cases oo with
 |some BR=>have h7:7∈r:=g4.2 (by simp);rw[q7 h7]at h2;refine(Jn (S:=X.s.S) (BR:=BR) xA (hA.trans gR) o2 h2 (fun x hx=>m_ (g2 x hx) (nb x hx).1) (m_ (g3 BR rfl) (by decide:(5:Nat)≠41)) xp).mono fun m3 T3 hd=>?_;obtain⟨kH,o3,h3⟩:=hd;exact⟨E,X,PB,fI,E',N',Y1,X1,iO,cl,Y',X',Bk,e,Ls,AB,cA,FB,ig,B,BR,kH,R,o3,h3⟩
 |none=>
  have h7:7∉r:=fun h=>g4.1 h rfl;rw[q7' h7]at h2;have ac6:∀x∈xo 41 (QG e Y' (Ls.length / 8) AB cA (eY Y'.dz Y'.n).length FB ig) lv,x.1∈Ad:=fun x hx=>by
   rcases ac.1 hx with rfl|hx
   ·exact(by decide:41∈Ad)
   ·exact g1 x (aU.1 hx).1
  refine(QH (hA.trans gR) ac6 o2 h2).trans fun m3 T3 hd=>?_;obtain⟨BR,kH,o3,h3⟩:=hd;refine(Jn (S:=X.s.S) (BR:=BR) (B:=B) xA cg.cj o3 h3 (fun x hx=>m_ (m_ (g2 x hx) (nb x hx).1) (nb x hx).2) xp (m_ xp (by decide:(41:Nat)≠5))).mono fun m4 T4 hd=>?_;obtain⟨zV,o4,h4⟩:=hd;rw[aaV]at o4;exact⟨E,X,PB,fI,E',N',Y1,X1,iO,cl,Y',X',Bk,e,Ls,AB,cA,FB,ig,B,BR,zV,R,o4,h4⟩
end
noncomputable def QI:List (Nat×AV):=[(1,bF 10),(3,TB),(4,bF 40),(5,bF 82)]
noncomputable def xu:List AV:=[bF 10,TB,bF 40,bF 82]
noncomputable def afF(st:Nat->Value):bH:=⟨mL,197,bZ 197 st QI,Ac,[],.run,.normal⟩
noncomputable def idB:Code:=CD [1,1,1,1,1,1,1,0,1,0,0]
noncomputable def idT:List Item:=[.code idB,.inLoop idB,.inBlock 0,.code (CD [1,1,1,1,1,1,1,1])]
noncomputable def ann(z:Bool):List (BE×Bool):=[(.cmp .neq (v 2) (GG z 51),false)]
noncomputable def afM(z:Bool):List (AA×AV):=[(⟨.cN 40,.lit 13⟩,i64 (v 2)),(⟨.cN 40,.lit 11⟩,iL z 50 51 52),(⟨.cN 40,.lit 12⟩,ff)]
theorem atV(z:Bool)(st:Nat->Value):c7 (cO (ann z) (afM z) 12 [] (cJ (afF st) [] [])) [1,3,4,5,6] (fun _=>[])=some (⟨mL,197,idT,[],.run,.normal,[],[],xu++[i64 (.lit 0)]⟩,[]):=by cases z<;>kernel_rfl
theorem ano(st:Nat->Value):bR 100 (cJ (afF st) [] [])=true:=by kernel_rfl
theorem afO(z:Bool):(OO (ann z) [] (afM z)).low 100=true:=by cases z<;>kernel_rfl
noncomputable def idH(st:Nat->Value):bH:=⟨mL,197,bZ 197 st (QI++[(6,i64 (v 41))]),idT,[],.run,.normal⟩
noncomputable def QJ:List (BE×Bool):=[(.cmp .lss (v 41) (.tn (v 51)),true),(.cmp .leq (.lit 0) (v 41),true)]
noncomputable def idM:List (AA×AV):=[(⟨.cN 40,.lit 11⟩,nq 50 51 52),(⟨.cN 50,.tn (v 41)⟩,bF 14),(⟨.cN 14,.lit 0⟩,bF 13),(⟨.cN 14,.lit 13⟩,TB)]
theorem ag0(st:Nat->Value):c7 (cO QJ idM 357 [101,100] (cJ (idH st) [] [])) [1,3,4,5,6] (fun _=>[])=some (⟨mL,197,idT,[],.run,.normal,[],[(101,.cells [ff] 4),(100,.cells [i64 (.lit 5)] 28)],xu++[i64 (.op .add .i64 (v 41) (.lit 1))]⟩,[]):=by kernel_rfl
theorem acJ(st:Nat->Value):bR 100 (cJ (idH st) [] [])=true:=by kernel_rfl
theorem idO:(OO QJ [] idM).low 100=true:=by kernel_rfl
noncomputable def gB:Code:=CD [1,1,1,1,1,1,1,1,1,1,0,1,0,0]
noncomputable def gT:List Item:=[.code gB,.inLoop gB,.inBlock 2,.code (CD [1,1,1,1,1,1,1,1,1,1,1])]
noncomputable def aaW(z:Bool):List (BE×Bool):=[(.cmp .lss (v 41) (GG z 51),false)]
noncomputable def anp(z:Bool):List (AA×AV):=[(⟨.cN 40,.lit 11⟩,iL z 50 51 52)]
noncomputable def n6:List AV:=[i64 (.lit 0),i64 (.lit 0),i64 (.lit 0),i64 (.lit 0),i64 (.lit 0),i64 (.lit 0)]
noncomputable def m6:List AV:=[ff,ff,ff,ff,ff,ff]
theorem anq(z:Bool)(st:Nat->Value):c7 (cO (aaW z) (anp z) 28 [101,100] (cJ (idH st) [] [])) [1,3,4,5,7,8,9] (fun _=>[])=some (⟨mL,197,gT,[],.run,.normal,[],[(101,.cells m6 59),(100,.cells n6 58)],xu++[bF 100,bF 101,i64 (.lit 0)]⟩,[]):=by cases z<;>kernel_rfl
theorem ag1(z:Bool):(OO (aaW z) [] (anp z)).low 100=true:=by cases z<;>kernel_rfl
noncomputable def gL:List (Nat×AV):=QI++[(7,bF 43),(8,bF 44),(9,i64 (v 41))]
noncomputable def gH(st:Nat->Value):bH:=⟨mL,197,bZ 197 st gL,gT,[],.run,.normal⟩
noncomputable def QK:List AV:=[i64 (v 60),i64 (v 61),i64 (v 62),i64 (v 63),i64 (v 64),i64 (v 65)]
noncomputable def QL:List AV:=[.bool (.var 70),.bool (.var 71),.bool (.var 72),.bool (.var 73),.bool (.var 74),.bool (.var 75)]
noncomputable def gC(c:Option (Fin 6)):AV:=match c with
 |none=>i64 (.lit (-1))
 |some i=>i64 (.lit (Int.ofNat i.val))
noncomputable def gM(c:Option (Fin 6)):List (AA×AV):=[(⟨.cN 82,.lit 2⟩,nq 50 51 52),(⟨.cN 50,nJ (.times (.tn (v 41)) (.lit 8)) 2⟩,gC c),(⟨.cN 50,nJ (.times (.tn (v 41)) (.lit 8)) 6⟩,i64 (v 3))]
noncomputable def Jo(c:Option (Fin 6)):List AV:=match c with
 |none=>QK
 |some i=>QK.set i.val (i64 (v 3))
noncomputable def Jp(c:Option (Fin 6)):List AV:=match c with
 |none=>QL
 |some i=>QL.set i.val (.bool (.lit true))
noncomputable def gN(c:Option (Fin 6)):Nat:=match c with
 |none=>45
 |some _=>56
noncomputable def gHp:List (Nat×bM):=[(43,.cells QK 58),(44,.cells QL 59)]
theorem anr(c:Option (Fin 6))(st:Nat->Value):c7 (cO QJ (gM c) (gN c) [43,44] (cJ (gH st) [] gHp)) [1,3,4,5,7,8,9] (fun _=>[])=some (⟨mL,197,gT,[],.run,.normal,[],[(43,.cells (Jo c) 58),(44,.cells (Jp c) 59)],xu++[bF 43,bF 44,i64 (.op .add .i64 (v 41) (.lit 1))]⟩,[]):=by
 rcases c with _|⟨c,h⟩
 ·kernel_rfl
 ·rcases(by omega:c=0∨c=1∨c=2∨c=3∨c=4∨c=5)with rfl|rfl|rfl|rfl|rfl|rfl<;>kernel_rfl
theorem atY(st:Nat->Value):bR 100 (cJ (gH st) [] gHp)=true:=by kernel_rfl
theorem gO(c:Option (Fin 6)):(OO QJ [] (gM c)).low 100=true:=by
 rcases c with _|⟨c,h⟩
 ·kernel_rfl
 ·rcases(by omega:c=0∨c=1∨c=2∨c=3∨c=4∨c=5)with rfl|rfl|rfl|rfl|rfl|rfl<;>kernel_rfl
structure Jq(L:cg)(S:Nat)(xs:List Value)(n TH kt:Nat):Prop where
 eQ:L (0,.app 0 0)=some (S,.fF fe 1 xs)
 f0:xs[11]?=some (c_ n TH kt)
 ant:xs[12]?=some (.bool false)
 ended:xs[13]?=some (iV n)
 all:∀i,i<n->∃k T R cs rT,L (0,.app 2 0)=some (TH,k)∧k.cell i=some (cb T)∧L rT=some (T,.obj mU cs)∧cs[0]?=some (cb R)∧cs[13]?=some (.bool true)
 dN:L (0,.dN)=none
 oR:L (0,.app 14 0)=none
 met:L (0,.app 14 1)=none
 n:n≤1000000
def lvB(B S BR:Nat):List (Nat×Value):=[(1,cb B),(3,.bool true),(4,cb S),(5,cb BR)]
section
variable {base:Nat}{W:World}{N:Nat}{m:Machine}{T:Trace}{L:cg}{fr:Frame}{S B BR n TH kt:Nat}{xs:List Value}
abbrev QM(B S BR i:Nat)(fr:Frame):Prop:=FA mL 197 idT [] .normal (lvB B S BR++[(6,iV i)]) fr
theorem qi{ρ:cn}(zY:ρ.b 10=B)(Yr:ρ.b 40=S)(h82:ρ.b 82=BR):AV.cf ρ xu=[cb B,.bool true,cb S,cb BR]:=by simp only[xu,AV.cf,bF,AV.ev,af,AA.ev,Go.Proofs.Ythaddgfbohmfoaa.SX.BR.ev,IE.ev,zY,Yr,h82];rfl
theorem lH{ρ:cn}:∀{l l':List AV},AV.cf ρ (l++l')=AV.cf ρ l++AV.cf ρ l'
 |[],_=>rfl
 |a::l,l'=>by simp only[az,AV.cf,lH]
theorem anu(M:Jq L S xs n TH kt)(o:g_ base W eZ 0 N L (G fr []) m T)(hf:FA mL 197 Ac [] .normal (lvB B S BR) fr):
  cm aa m T fun m' T'=>∃bT,g_ base W eZ 0 N L (G bT []) m' T'∧QM B S BR 0 bT:=by
 obtain⟨w,A,H,hS⟩:=o;let z:Bool:=decide (n=0);let ρ:cn:=gY [(2,n),(51,n),(52,kt)] [(10,B),(40,S),(50,TH),(82,BR)] [];have Qw:(iL z 50 51 52).ev ρ=c_ n TH kt:=dC rfl rfl rfl;refine(cQ (cC:=[]) (cs:=[]) A H hS [] [] (atV z (bU fr)) rfl rfl (ano _) (afO z) (ρ:=ρ) (hf.rel (.inl rfl) QI rfl rfl) trivial (fun x hx=>?_) (fun x hx=>?_) (nofun) ai ai rfl).mono fun m1 T1 hd=>?_
 ·obtain rfl:=ad.1 hx;show(((n:Nat):Int) != (GG z 51).ev ρ)=false;rw[vP (ρ:=ρ) (fun e=>by show((n:Nat):Int)=0;rw[of_decide_eq_true e];rfl) (by show(0:Int)≤((n:Nat):Int);omega)];show(((n:Nat):Int) != ((n:Nat):Int))=false;simp
 ·simp only[afM,ac,ae,or_false]at hx;rcases hx with rfl|rfl|rfl
  ·exact .inl ⟨_,_,M.eQ,by simp,M.ended⟩
  ·exact .inl ⟨_,_,M.eQ,by simp,by dsimp only;rw[Qw];exact M.f0⟩
  ·exact .inl ⟨_,_,M.eQ,by simp,M.ant⟩
 ·obtain⟨w1,bW,c9,d9,C⟩:=hd;obtain rfl:=C.none;refine⟨c9,⟨w1,C.eG,C.heap.sub fun r x e=>e,dc⟩,?_⟩;have f1:=C.fr;dsimp only at f1;rw[lH,qi (C.bE.bb 10) (C.bE.bb 40) (C.bE.bb 82)]at f1;exact f1
theorem aaX{i:Nat}(M:Jq L S xs n TH kt)(hi:i<n)(o:g_ base W eZ 0 N L (G fr []) m T)(hf:QM B S BR i fr):
  cm aa m T fun m' T'=>∃bT,g_ base W eZ 0 N L (G bT []) m' T'∧QM B S BR (i+1) bT:=by
 obtain⟨w,A,H,hS⟩:=o;obtain⟨k,Tb,R,cs,rT,q1,q2,q3,q4,q5⟩:=M.all i hi;let ρ:cn:=gY [(41,i),(51,n),(52,kt)] [(10,B),(13,R),(14,Tb),(40,S),(50,TH),(82,BR)] [];refine(cQ (cC:=[]) (cs:=[]) A H hS [] [((0,.dN),101,.cells [ff] 4),((0,.dN),100,.cells [i64 (.lit 5)] 28)] (ag0 (bU fr)) rfl rfl (acJ _) idO (ρ:=ρ) (hf.rel (.inl rfl) (QI++[(6,i64 (v 41))]) rfl rfl) trivial (fun x hx=>?_) (fun x hx=>?_) (nofun) ai (by simp) rfl).mono fun m1 T1 hd=>?_
 ·simp only[QJ,ac,ae,or_false]at hx;rcases hx with rfl|rfl
  ·show decide (((i:Nat):Int)<(((n:Nat):Int).toNat:Int))=true;exact decide_eq_true (by omega)
  ·show decide ((0:Int)≤((i:Nat):Int))=true;exact decide_eq_true (by omega)
 ·simp only[idM,ac,ae,or_false]at hx;rcases hx with rfl|rfl|rfl|rfl
  ·refine .inl ⟨_,_,M.eQ,by simp,?_⟩;show xs[11]?=some (.slice (some ⟨TH,0,none⟩) n kt);rw[M.f0,cy (by omega)]
  ·refine .inl ⟨_,_,q1,by simp,?_⟩;show k.cell (((i:Nat):Int).toNat:Int).toNat=_;rw[ap,ap];exact q2
  ·exact .inl ⟨_,_,q3,by simp,q4⟩
  ·exact .inl ⟨_,_,q3,by simp,q5⟩
 ·obtain⟨w1,bW,c9,d9,C⟩:=hd;obtain rfl:=C.none;refine⟨c9,⟨w1,C.eG,C.heap.sub (cX [(0,.dN)] (fun q hq=>rfl) (nofun) (fun q hq=>?_) fun q hq zz hz=>?_),dc⟩,?_⟩
  ·simp only[cr,ah,ak,ac,ae,or_false]at hq;rcases hq with rfl|rfl<;>simp
  ·obtain rfl:=ad.1 hq;rw[M.dN]at hz;cases hz
  ·have f1:=C.fr;have zU:bW.i 41=i:=C.bE.ii 41;dsimp only at f1;rw[lH,qi (C.bE.bb 10) (C.bE.bb 40) (C.bE.bb 82)]at f1;simp only[AV.cf,i64,AV.ev,IE.ev,v,zU]at f1;rw[show o0 .add .i64 (i:Int) 1=((i+1:Nat):Int)from add_one (by have:=M.n;omega)]at f1;exact f1
theorem aaY(M:Jq L S xs n TH kt):∀(d i:Nat),i+d=n->∀{m:Machine} {T:Trace} {fr:Frame},g_ base W eZ 0 N L (G fr []) m T->QM B S BR i fr->
  cm aa m T fun m' T'=>∃bT,g_ base W eZ 0 N L (G bT []) m' T'∧QM B S BR n bT:=by
 intro d
 induction d with
 |zero=>
  intro i hi m T fr o hf;obtain rfl:i=n:=by omega
  exact cm.refl ⟨fr,o,hf⟩
 |succ d ih=>intro i hi m T fr o hf;refine(aaX M (by omega) o hf).trans fun m1 T1 hd=>?_;obtain⟨c9,o1,h1⟩:=hd;exact ih (i+1) (by omega) o1 h1
end
abbrev Rec:=Nat->Option (Fin 6)×Int
def jN(rc:Rec):Nat->Nat->Int
 |0=>fun _=>0
 |i+1=>match(rc i).1 with
  |none=>jN rc i
  |some c=>upd (jN rc i) c.val (rc i).2
def jk(rc:Rec):Nat->Nat->Bool
 |0=>fun _=>false
 |i+1=>match(rc i).1 with
  |none=>jk rc i
  |some c=>upd (jk rc i) c.val true
def i6(f:Nat->Int):List Value:=[iV (f 0),iV (f 1),iV (f 2),iV (f 3),iV (f 4),iV (f 5)]
def b6(g:Nat->Bool):List Value:=[.bool (g 0),.bool (g 1),.bool (g 2),.bool (g 3),.bool (g 4),.bool (g 5)]
def ag2:Option (Fin 6)->Value
 |none=>iV (-1)
 |some c=>iV c.val
def Ae(L:cg)(NB MB:Nat)(f:Nat->Int)(g:Nat->Bool):cg:=cg.set (cg.set L (0,.app 14 0) (NB,.obj 58 (i6 f))) (0,.app 14 1) (MB,.obj 59 (b6 g))
structure N6(L:cg)(BR n LA cL:Nat)(rc:Rec):Prop where
 Vo:∃rp,L (0,.app 13 0)=some (BR,.obj ft rp)∧rp[2]?=some (c_ n LA cL)
 all:∀i,i<n->∃k rl,rl≠(0,.app 14 0)∧rl≠(0,.app 14 1)∧L rl=some (LA,k)∧k.cell (i*8+2)=some (ag2 (rc i).1)∧k.cell (i*8+6)=some (iV (rc i).2)
 n:n≤1000000
section
variable {base:Nat}{W:World}{N:Nat}{m:Machine}{T:Trace}{L:cg}{fr:Frame}{S B BR n TH kt NB MB LA cL:Nat}{xs:List Value}{rc:Rec}
abbrev GAt(B S BR NB MB i:Nat)(fr:Frame):Prop:=FA mL 197 gT [] .normal (lvB B S BR++[(7,cb NB),(8,cb MB),(9,iV i)]) fr
theorem ag3(M:Jq L S xs n TH kt)(o:g_ base W eZ 0 N L (G fr []) m T)(hf:QM B S BR n fr):
  cm aa m T fun m' T'=>∃NB MB bT,g_ base W eZ 0 N (Ae L NB MB (fun _=>0) fun _=>false) (G bT []) m' T'∧GAt B S BR NB MB 0 bT:=by
 obtain⟨w,A,H,hS⟩:=o;let z:Bool:=decide (n=0);let ρ:cn:=gY [(41,n),(51,n),(52,kt)] [(10,B),(40,S),(50,TH),(82,BR)] [];have Qw:(iL z 50 51 52).ev ρ=c_ n TH kt:=dC rfl rfl rfl;refine(cQ (cC:=[]) (cs:=[]) A H hS [] [((0,.app 14 1),101,.cells m6 59),((0,.app 14 0),100,.cells n6 58)] (anq z (bU fr)) rfl rfl (acJ _) (ag1 z) (ρ:=ρ) (hf.rel (.inl rfl) (QI++[(6,i64 (v 41))]) rfl rfl) trivial (fun x hx=>?_) (fun x hx=>?_) (nofun) ai (by simp) rfl).mono fun m1 T1 hd=>?_
 ·obtain rfl:=ad.1 hx;show decide (((n:Nat):Int)<(GG z 51).ev ρ)=false;rw[vP (ρ:=ρ) (fun e=>by show((n:Nat):Int)=0;rw[of_decide_eq_true e];rfl) (by show(0:Int)≤((n:Nat):Int);omega)];exact decide_eq_false (Int.lt_irrefl _)
 ·obtain rfl:=ad.1 hx;exact .inl ⟨_,_,M.eQ,by simp,by dsimp only;rw[Qw];exact M.f0⟩
 ·obtain⟨w1,bW,c9,d9,C⟩:=hd;obtain rfl:=C.none;refine⟨bW.b 100,bW.b 101,c9,⟨w1,C.eG,C.heap.sub (cX [(0,.app 14 1),(0,.app 14 0)] (fun q hq=>?_) (nofun) (fun q hq=>?_) fun q hq zz hz=>?_),dc⟩,?_⟩
  ·exact(cg.b7 fun e=>hq (by simp[e])).trans (cg.b7 fun e=>hq (by simp[e]))
  ·simp only[cr,ah,ak,ac,ae,or_false]at hq;rcases hq with rfl|rfl<;>simp
  ·simp only[ac,ae,or_false]at hq;rcases hq with rfl|rfl
   ·rw[show Ae L (bW.b 100) (bW.b 101) (fun _=>0) (fun _=>false) (0,.app 14 1)=some (bW.b 101,.obj 59 (b6 fun _=>false))from cg.cj]at hz;cases hz;refine bX ?_;simp only[cr,ah,ak,aw,decide_true,cY];rfl
   ·rw[show Ae L (bW.b 100) (bW.b 101) (fun _=>0) (fun _=>false) (0,.app 14 0)=some (bW.b 100,.obj 58 (i6 fun _=>0))from(cg.b7 (by simp)).trans cg.cj]at hz;cases hz;refine bX ?_;simp only[cr,ah,ak,aw,Prod.mk.injEq,RK.app.injEq,true_and,and_true,decide_true,decide_false,br,reduceCtorEq,Nat.one_ne_zero,cY];rfl
  ·have f1:=C.fr;dsimp only at f1;rw[lH,qi (C.bE.bb 10) (C.bE.bb 40) (C.bE.bb 82)]at f1;exact f1
theorem ag4{i:Nat}(M:N6 L BR n LA cL rc)(hi:i<n)(o:g_ base W eZ 0 N (Ae L NB MB (jN rc i) (jk rc i)) (G fr []) m T)(hf:GAt B S BR NB MB i fr):
  cm aa m T fun m' T'=>∃bT,g_ base W eZ 0 N (Ae L NB MB (jN rc (i+1)) (jk rc (i+1))) (G bT []) m' T'∧GAt B S BR NB MB (i+1) bT:=by
 obtain⟨w,A,H,hS⟩:=o;obtain⟨rp,q1,q2⟩:=M.Vo;obtain⟨k,rl,a1,a2,a3,a4,a5⟩:=M.all i hi;let f:=jN rc i;let g:=jk rc i;let ρ0:cn:=gY [(3,(rc i).2),(41,i),(51,n),(52,cL),(60,f 0),(61,f 1),(62,f 2),(63,f 3),(64,f 4),(65,f 5)] [(10,B),(40,S),(43,NB),(44,MB),(50,LA),(82,BR)] [];let ρ:cn:={ρ0 with p:=fun j=>g (j-70)};have q1':Ae L NB MB f g (0,.app 13 0)=some (BR,.obj ft rp):=(cg.b7 (by simp)).trans ((cg.b7 (by simp)).trans q1);have a3':Ae L NB MB f g rl=some (LA,k):=(cg.b7 a2).trans ((cg.b7 a1).trans a3);have n1:Ae L NB MB f g (0,.app 14 0)=some (NB,.obj 58 (i6 f)):=(cg.b7 (by simp)).trans cg.cj;have n2:Ae L NB MB f g (0,.app 14 1)=some (MB,.obj 59 (b6 g)):=cg.cj;have eI:∀j:Nat,j≠0->((nJ (.times (.tn (v 41)) (.lit 8)) j).ev ρ).toNat=i*8+j:=fun j hj=>by rw[show nJ (.times (.tn (v 41)) (.lit 8)) j=.plus (.tn (.times (.tn (v 41)) (.lit 8))) (.lit (.ofNat j))from if_neg hj];show(((((((i:Nat):Int).toNat:Int)*8).toNat:Nat):Int)+(j:Int)).toNat=_;omega
 refine(cQ (cC:=[]) (cs:=[]) A H hS [((0,.app 14 0),43,.cells QK 58),((0,.app 14 1),44,.cells QL 59)] [((0,.app 14 0),43,.cells (Jo (rc i).1) 58),((0,.app 14 1),44,.cells (Jp (rc i).1) 59)] (anr (rc i).1 (bU fr)) rfl rfl (atY _) (gO _) (ρ:=ρ) (hf.rel (.inl rfl) gL rfl rfl) trivial (fun x hx=>?_) (fun x hx=>?_) (fun x hx=>?_) (by simp) (by simp) rfl).mono fun m1 T1 hd=>?_
 ·simp only[QJ,ac,ae,or_false]at hx;rcases hx with rfl|rfl
  ·show decide (((i:Nat):Int)<(((n:Nat):Int).toNat:Int))=true;exact decide_eq_true (by omega)
  ·show decide ((0:Int)≤((i:Nat):Int))=true;exact decide_eq_true (by omega)
 ·simp only[gM,ac,ae,or_false]at hx;rcases hx with rfl|rfl|rfl
  ·refine .inl ⟨_,_,q1',by simp,?_⟩;show rp[2]?=some (.slice (some ⟨LA,0,none⟩) n cL);rw[q2,cy (by omega)]
  ·refine .inl ⟨_,_,a3',by simp[a1,a2],?_⟩;show k.cell ((nJ (.times (.tn (v 41)) (.lit 8)) 2).ev ρ).toNat=some ((gC (rc i).1).ev ρ);rw[eI 2 (by decide),a4];cases(rc i).1<;>rfl
  ·refine .inl ⟨_,_,a3',by simp[a1,a2],?_⟩;show k.cell ((nJ (.times (.tn (v 41)) (.lit 8)) 6).ev ρ).toNat=_;rw[eI 6 (by decide),a5];rfl
 ·simp only[ac,ae,or_false]at hx;rcases hx with rfl|rfl
  ·exact⟨_,n1,rfl,rfl⟩
  ·exact⟨_,n2,rfl,rfl⟩
 ·obtain⟨w1,bW,c9,d9,C⟩:=hd;obtain rfl:=C.none;have y43:bW.b 43=NB:=C.bE.bb 43;have y44:bW.b 44=MB:=C.bE.bb 44;have z3:bW.i 3=(rc i).2:=C.bE.ii 3;have Yf:bW.i 60=f 0:=C.bE.ii 60;have Ik:bW.i 61=f 1:=C.bE.ii 61;have Pp:bW.i 62=f 2:=C.bE.ii 62;have Pq:bW.i 63=f 3:=C.bE.ii 63;have To:bW.i 64=f 4:=C.bE.ii 64;have Q6:bW.i 65=f 5:=C.bE.ii 65;have zp:bW.p=fun j=>g (j-70):=C.bE.p;have eN:AV.cf bW (Jo (rc i).1)=i6 (jN rc (i+1)):=by
   show _=i6 (match(rc i).1 with|none=>f|some c=>upd f c.val (rc i).2);rcases(rc i).1 with _|⟨c,hc⟩
   ·simp only[Jo,QK,AV.cf,i64,v,AV.ev,IE.ev,Yf,Ik,Pp,Pq,To,Q6];rfl
   ·rcases(by omega:c=0∨c=1∨c=2∨c=3∨c=4∨c=5)with rfl|rfl|rfl|rfl|rfl|rfl<;>
     simp only[Jo,QK,List.set,AV.cf,i64,v,AV.ev,IE.ev,z3,Yf,Ik,Pp,Pq,To,Q6]<;>simp[i6,upd,iV]
  have eM:AV.cf bW (Jp (rc i).1)=b6 (jk rc (i+1)):=by
   show _=b6 (match(rc i).1 with|none=>g|some c=>upd g c.val true);rcases(rc i).1 with _|⟨c,hc⟩
   ·simp only[Jp,QL,AV.cf,AV.ev,BE.ev,zp];rfl
   ·rcases(by omega:c=0∨c=1∨c=2∨c=3∨c=4∨c=5)with rfl|rfl|rfl|rfl|rfl|rfl<;>
     simp only[Jp,QL,List.set,AV.cf,AV.ev,BE.ev,zp]<;>simp[b6,upd]
  refine⟨c9,⟨w1,C.eG,C.heap.sub (cX [(0,.app 14 0),(0,.app 14 1)] (fun q hq=>?_) (fun q hq=>by simpa using hq) (fun q hq=>?_) fun q hq zz hz=>?_),dc⟩,?_⟩
  ·have h1:q≠(0,.app 14 0):=fun e=>hq (by simp[e]);have h2:q≠(0,.app 14 1):=fun e=>hq (by simp[e]);exact((cg.b7 h2).trans (cg.b7 h1)).trans ((cg.b7 h2).trans (cg.b7 h1)).symm
  ·simp only[cr,ah,ak,ac,ae,or_false]at hq;rcases hq with rfl|rfl<;>simp
  ·simp only[ac,ae,or_false]at hq;rcases hq with rfl|rfl
   ·rw[show Ae L NB MB (jN rc (i+1)) (jk rc (i+1)) (0,.app 14 0)=some (NB,.obj 58 (i6 (jN rc (i+1))))from(cg.b7 (by simp)).trans cg.cj]at hz;cases hz;refine bX ?_;simp only[cr,ah,ak,aw,decide_true,cY,eN,y43]
   ·rw[show Ae L NB MB (jN rc (i+1)) (jk rc (i+1)) (0,.app 14 1)=some (MB,.obj 59 (b6 (jk rc (i+1))))from cg.cj]at hz;cases hz;refine bX ?_;simp only[cr,ah,ak,aw,Prod.mk.injEq,RK.app.injEq,true_and,and_true,decide_true,decide_false,br,reduceCtorEq,cY,eM,y44]
  ·have f1:=C.fr;have zU:bW.i 41=i:=C.bE.ii 41;dsimp only at f1;rw[lH,qi (C.bE.bb 10) (C.bE.bb 40) (C.bE.bb 82)]at f1;simp only[AV.cf,bF,i64,AV.ev,af,AA.ev,Go.Proofs.Ythaddgfbohmfoaa.SX.BR.ev,IE.ev,v,zU,y43,y44]at f1;rw[show o0 .add .i64 (i:Int) 1=((i+1:Nat):Int)from add_one (by have:=M.n;omega)]at f1;exact f1
end
noncomputable def clB:Code:=CD [1,1,1,1,1,1,1,1,1,1,1,1,0,1,0,0]
noncomputable def clT:List Item:=[.code clB,.inLoop clB,.inBlock 4,.code (CD [1,1,1,1,1,1,1,1,1,1,1,1,1])]
noncomputable def gEM(z:Bool):List (AA×AV):=[(⟨.cN 82,.lit 2⟩,iL z 50 51 52)]
theorem atZ(z:Bool)(st:Nat->Value):c7 (cO (aaW z) (gEM z) 22 [] (cJ (gH st) [] [])) [1,3,4,5,7,8,10,11] (fun _=>[])=some (⟨mL,197,clT,[],.run,.normal,[],[],xu++[bF 43,bF 44,i64 (.lit 0),i64 (.lit 0)]⟩,[]):=by cases z<;>kernel_rfl
theorem aa0(st:Nat->Value):bR 100 (cJ (gH st) [] [])=true:=by kernel_rfl
theorem anv(z:Bool):(OO (aaW z) [] (gEM z)).low 100=true:=by cases z<;>kernel_rfl
noncomputable def clL(i:Nat):List (Nat×AV):=QI++[(7,bF 43),(8,bF 44),(10,i64 (v 9)),(11,i64 (.lit (.ofNat i)))]
noncomputable def GO(i:Nat):List (Nat×AV):=(List.range 197).map fun n=>(n,(Go.Proofs.Ythaddgfbohmfoaa.SX.look (fun a b=>Nat.beq a b) n (clL i)).getD (.ez (200+n)))
noncomputable def clH(i:Nat)(st:Nat->Value):bH:=⟨mL,197,bZ 197 st (GO i),clT,[],.run,.normal⟩
noncomputable def clC:List (AA×AV):=[(⟨.cN 40,.lit 4⟩,i64 (v 20)),(⟨.cN 40,.lit 5⟩,i64 (v 21)),(⟨.cN 40,.lit 6⟩,i64 (v 22)),(⟨.cN 40,.lit 7⟩,i64 (v 23)),(⟨.cN 40,.lit 8⟩,i64 (v 24)),(⟨.cN 40,.lit 9⟩,i64 (v 25))]
noncomputable def clM(i:Nat)(b:Bool):List (AA×AV):=clC++[(⟨.cN 44,.lit (.ofNat i)⟩,.bool (.lit b)),(⟨.cN 43,.lit (.ofNat i)⟩,i64 (v 3))]
noncomputable def aa1(k:Nat):List (BE×Bool):=match k with
 |0=>[(.cmp .eql (v 20) (v 3),true)]
 |1=>[(.cmp .eql (v 20) (v 3),false),(.cmp .eql (v 21) (v 3),true)]
 |2=>[(.cmp .eql (v 20) (v 3),false),(.cmp .eql (v 21) (v 3),false),(.cmp .eql (v 22) (v 3),true)]
 |3=>[(.cmp .eql (v 20) (v 3),false),(.cmp .eql (v 21) (v 3),false),(.cmp .eql (v 22) (v 3),false),(.cmp .eql (v 23) (v 3),true)]
 |4=>[(.cmp .eql (v 20) (v 3),false),(.cmp .eql (v 21) (v 3),false),(.cmp .eql (v 22) (v 3),false),(.cmp .eql (v 23) (v 3),false),(.cmp .eql (v 24) (v 3),true)]
 |_=>[(.cmp .eql (v 20) (v 3),false),(.cmp .eql (v 21) (v 3),false),(.cmp .eql (v 22) (v 3),false),(.cmp .eql (v 23) (v 3),false),(.cmp .eql (v 24) (v 3),false),(.cmp .eql (v 25) (v 3),true)]
theorem ag6(i k:Nat)(hi:i<6)(hk:k<6)(st:Nat->Value):c7 (cO (aa1 k) (clM i true) 167 [] (cJ (clH i st) [] [])) [1,3,4,5,7,8,10,11] (fun _=>[])=some (⟨mL,197,clT,[],.run,.normal,[],[],xu++[bF 43,bF 44,i64 (.op .add .i64 (v 9) (.lit 1)),i64 (.lit (.ofNat (i+1)))]⟩,[]):=by rcases(by omega:i=0∨i=1∨i=2∨i=3∨i=4∨i=5)with rfl|rfl|rfl|rfl|rfl|rfl<;>rcases(by omega:k=0∨k=1∨k=2∨k=3∨k=4∨k=5)with rfl|rfl|rfl|rfl|rfl|rfl<;>kernel_rfl
theorem ag7(i:Nat)(hi:i<6)(st:Nat->Value):c7 (cO [] (clM i false) 26 [] (cJ (clH i st) [] [])) [1,3,4,5,7,8,10,11] (fun _=>[])=some (⟨mL,197,clT,[],.run,.normal,[],[],xu++[bF 43,bF 44,i64 (v 9),i64 (.lit (.ofNat (i+1)))]⟩,[]):=by rcases(by omega:i=0∨i=1∨i=2∨i=3∨i=4∨i=5)with rfl|rfl|rfl|rfl|rfl|rfl<;>kernel_rfl
theorem Wg(i:Nat)(hi:i<7)(st:Nat->Value):bR 100 (cJ (clH i st) [] [])=true:=by rcases(by omega:i=0∨i=1∨i=2∨i=3∨i=4∨i=5∨i=6)with rfl|rfl|rfl|rfl|rfl|rfl|rfl<;>kernel_rfl
theorem clO(i k:Nat)(b:Bool)(hi:i<6)(hk:k<6):(OO (aa1 k) [] (clM i b)).low 100=true:=by rcases(by omega:i=0∨i=1∨i=2∨i=3∨i=4∨i=5)with rfl|rfl|rfl|rfl|rfl|rfl<;>rcases(by omega:k=0∨k=1∨k=2∨k=3∨k=4∨k=5)with rfl|rfl|rfl|rfl|rfl|rfl<;>cases b<;>kernel_rfl
theorem at1(i:Nat)(b:Bool)(hi:i<6):(OO [] [] (clM i b)).low 100=true:=by rcases(by omega:i=0∨i=1∨i=2∨i=3∨i=4∨i=5)with rfl|rfl|rfl|rfl|rfl|rfl<;>cases b<;>kernel_rfl
theorem Jr{P:Nat->Prop}:∀n,(∃k,k<n∧P k)->∃k,k<n∧P k∧∀j,j<k->¬P j
 |0,⟨k,h,_⟩=>absurd h (Nat.not_lt_zero _)
 |n+1,⟨k,hk,hp⟩=>by
  by_cases h:∃k,k<n∧P k
  ·obtain⟨k,a,b,c⟩:=Jr n h;exact⟨k,by omega,b,c⟩
  ·have:k=n:=by
    rcases bo k n with h1|h1
    ·exact absurd ⟨k,h1,hp⟩ h
    ·omega
   subst this;exact⟨k,hk,hp,fun j hj hp=>h ⟨j,hj,hp⟩⟩
theorem tw.jn{P:Program}{fn nt:Nat}{todo:List Item}{ds:List Deferred}{kind:CallKind}{lv lw:List (Nat×Value)}{fr:Frame}(h:tw P fn nt todo ds kind lv fr)(hw:∀p∈lw,p∈lv∨p.2=bU fr p.1):tw P fn nt todo ds kind lw fr:=by
 obtain⟨⟨tm,rfl,h2,h3⟩,h4,h5⟩:=h;refine⟨⟨tm,rfl,h2,fun p hp=>?_⟩,h4,h5⟩;rcases hw p hp with h|h
 ·exact h3 p h
 ·exact h.symm
section
variable {base:Nat}{W:World}{N:Nat}{m:Machine}{T:Trace}{L:cg}{fr:Frame}{S B BR n TH kt NB MB LA cL left:Nat}{xs:List Value}{rc:Rec}{f:Nat->Int}{g:Nat->Bool}{cells:Nat->Int}
theorem ag8(M:N6 L BR n LA cL rc):∀(d i:Nat),i+d=n->∀{m:Machine} {T:Trace} {fr:Frame},g_ base W eZ 0 N (Ae L NB MB (jN rc i) (jk rc i)) (G fr []) m T->GAt B S BR NB MB i fr->
  cm aa m T fun m' T'=>∃bT,g_ base W eZ 0 N (Ae L NB MB (jN rc n) (jk rc n)) (G bT []) m' T'∧GAt B S BR NB MB n bT:=by
 intro d
 induction d with
 |zero=>
  intro i hi m T fr o hf;obtain rfl:i=n:=by omega
  exact cm.refl ⟨fr,o,hf⟩
 |succ d ih=>intro i hi m T fr o hf;refine(ag4 M (by omega) o hf).trans fun m1 T1 hd=>?_;obtain⟨c9,o1,h1⟩:=hd;exact ih (i+1) (by omega) o1 h1
abbrev Js(B S BR NB MB left i:Nat)(fr:Frame):Prop:=FA mL 197 clT [] .normal (lvB B S BR++[(7,cb NB),(8,cb MB),(10,iV left),(11,iV i)]) fr
theorem anx(M:N6 L BR n LA cL rc)(o:g_ base W eZ 0 N (Ae L NB MB f g) (G fr []) m T)(hf:GAt B S BR NB MB n fr):
  cm aa m T fun m' T'=>∃bT,g_ base W eZ 0 N (Ae L NB MB f g) (G bT []) m' T'∧Js B S BR NB MB 0 0 bT:=by
 obtain⟨w,A,H,hS⟩:=o;obtain⟨rp,q1,q2⟩:=M.Vo;let z:Bool:=decide (n=0);let ρ:cn:=gY [(41,n),(51,n),(52,cL)] [(10,B),(40,S),(43,NB),(44,MB),(50,LA),(82,BR)] [];have Qw:(iL z 50 51 52).ev ρ=c_ n LA cL:=dC rfl rfl rfl;refine(cQ (cC:=[]) (cs:=[]) A H hS [] [] (atZ z (bU fr)) rfl rfl (aa0 _) (anv z) (ρ:=ρ) (hf.rel (.inl rfl) gL rfl rfl) trivial (fun x hx=>?_) (fun x hx=>?_) (nofun) ai ai rfl).mono fun m1 T1 hd=>?_
 ·obtain rfl:=ad.1 hx;show decide (((n:Nat):Int)<(GG z 51).ev ρ)=false;rw[vP (ρ:=ρ) (fun e=>by show((n:Nat):Int)=0;rw[of_decide_eq_true e];rfl) (by show(0:Int)≤((n:Nat):Int);omega)];exact decide_eq_false (Int.lt_irrefl _)
 ·obtain rfl:=ad.1 hx;exact .inl ⟨_,_,(cg.b7 (by simp)).trans ((cg.b7 (by simp)).trans q1),by simp,by dsimp only;rw[Qw];exact q2⟩
 ·obtain⟨w1,bW,c9,d9,C⟩:=hd;obtain rfl:=C.none;refine⟨c9,⟨w1,C.eG,C.heap.sub fun r x e=>e,dc⟩,?_⟩;have f1:=C.fr;have y43:bW.b 43=NB:=C.bE.bb 43;have y44:bW.b 44=MB:=C.bE.bb 44;dsimp only at f1;rw[lH,qi (C.bE.bb 10) (C.bE.bb 40) (C.bE.bb 82)]at f1;simp only[AV.cf,bF,i64,AV.ev,af,AA.ev,Go.Proofs.Ythaddgfbohmfoaa.SX.BR.ev,IE.ev,y43,y44]at f1;exact f1
noncomputable def EU(fr:Frame)(left:Nat)(x:Int)(cells:Nat->Int)(B S NB MB BR:Nat):cn:={gY [(3,x),(9,left),(20,cells 0),(21,cells 1),(22,cells 2),(23,cells 3),(24,cells 4),(25,cells 5)] [(10,B),(40,S),(43,NB),(44,MB),(82,BR)] []with v:=fun n=>bU fr (n-200)}
theorem L7{i:Nat}{x:Int}(hf:Js B S BR NB MB left i fr):dj aa (EU fr left x cells B S NB MB BR) (clH i (bU fr)) fr:=by
 let ρ:=EU fr left x cells B S NB MB BR;have hfull:FA mL 197 clT [] .normal (gz ρ (GO i)) fr:=tw.jn hf fun p hp=>by
  unfold gz GO at hp;rw[List.map_map]at hp;obtain⟨n,hn,rfl⟩:=aJ.1 hp;dsimp only[Function.comp];cases e:Go.Proofs.Ythaddgfbohmfoaa.SX.look (fun a b=>Nat.beq a b) n (clL i)with
  |none=>refine .inr ?_;show bU fr (200+n-200)=bU fr n;rw[Nat.add_sub_cancel_left]
  |some y=>obtain⟨n',hy,he⟩:=iv e;obtain rfl:=aI he;refine .inl ?_;have:(n,y.ev ρ)∈gz ρ (clL i):=aJ.2 ⟨(n,y),hy,rfl⟩;exact this
 exact hfull.rel (.inl rfl) (GO i) rfl rfl
theorem acK{i:Nat}(hi:i<6):(i6 f)[i]?=some (iV (f i))∧(b6 g)[i]?=some (.bool (g i)):=by rcases(by omega:i=0∨i=1∨i=2∨i=3∨i=4∨i=5)with rfl|rfl|rfl|rfl|rfl|rfl<;>exact⟨rfl,rfl⟩
theorem ag9{i:Nat}(hi:i<6)(di:L (0,.app 0 0)=some (S,.fF fe 1 xs))(hx:∀c,c<6->xs[4+c]?=some (iV (cells c))):∀y∈clM i (g i),zD (Ae L NB MB f g) [] base W (EU fr left (f i) cells B S NB MB BR) y:=fun y hy=>by
 have Gm:Ae L NB MB f g (0,.app 0 0)=some (S,.fF fe 1 xs):=(cg.b7 (by simp)).trans ((cg.b7 (by simp)).trans di);have n1:Ae L NB MB f g (0,.app 14 0)=some (NB,.obj 58 (i6 f)):=(cg.b7 (by simp)).trans cg.cj;have n2:Ae L NB MB f g (0,.app 14 1)=some (MB,.obj 59 (b6 g)):=cg.cj;simp only[clM,clC,az,aA,ac,ae,or_false]at hy;rcases hy with rfl|rfl|rfl|rfl|rfl|rfl|rfl|rfl
 ·exact .inl ⟨_,_,Gm,by simp,hx 0 (by decide)⟩
 ·exact .inl ⟨_,_,Gm,by simp,hx 1 (by decide)⟩
 ·exact .inl ⟨_,_,Gm,by simp,hx 2 (by decide)⟩
 ·exact .inl ⟨_,_,Gm,by simp,hx 3 (by decide)⟩
 ·exact .inl ⟨_,_,Gm,by simp,hx 4 (by decide)⟩
 ·exact .inl ⟨_,_,Gm,by simp,hx 5 (by decide)⟩
 ·exact .inl ⟨_,_,n2,by simp,(acK (f:=f) hi).2⟩
 ·exact .inl ⟨_,_,n1,by simp,(acK (g:=g) hi).1⟩
end
section
variable {base:Nat}{W:World}{N:Nat}{m:Machine}{T:Trace}{L:cg}{fr:Frame}{S B BR NB MB left:Nat}{xs:List Value}{f:Nat->Int}{g:Nat->Bool}{cells:Nat->Int}
theorem Jt{i:Nat}{x:Int}{la:AV}{y8:Nat}{c9:Frame}{bW:cn}(Ag:cz (dR 100) (EU fr left x cells B S NB MB BR) bW)(hla:la.ev bW=iV y8)(hf:FA mL 197 clT ([].map (AD.ev bW)) .normal ([1,3,4,5,7,8,10,11].zip (AV.cf bW (xu++[bF 43,bF 44,la,i64 (.lit (.ofNat (i+1)))]))) c9):Js B S BR NB MB y8 (i+1) c9:=by have y43:bW.b 43=NB:=Ag.b 43 (by decide);have y44:bW.b 44=MB:=Ag.b 44 (by decide);rw[lH,qi (Ag.b 10 (by decide)) (Ag.b 40 (by decide)) (Ag.b 82 (by decide))]at hf;simp only[AV.cf,hla,bF,i64,AV.ev,af,AA.ev,Go.Proofs.Ythaddgfbohmfoaa.SX.BR.ev,IE.ev,y43,y44]at hf;exact hf
theorem aa2{i:Nat}(hi:i<6)(hl:left≤i)(di:L (0,.app 0 0)=some (S,.fF fe 1 xs))(hx:∀c,c<6->xs[4+c]?=some (iV (cells c)))(CG:g i=true->∃k,k<6∧cells k=f i)(o:g_ base W eZ 0 N (Ae L NB MB f g) (G fr []) m T)(hf:Js B S BR NB MB left i fr):
  cm aa m T fun m' T'=>∃y8 bT,y8≤i+1∧g_ base W eZ 0 N (Ae L NB MB f g) (G bT []) m' T'∧Js B S BR NB MB y8 (i+1) bT:=by
 obtain⟨w,A,H,hS⟩:=o;let ρ:=EU fr left (f i) cells B S NB MB BR;have hm:=ag9 (base:=base) (W:=W) (fr:=fr) (left:=left) (B:=B) (BR:=BR) (NB:=NB) (MB:=MB) (f:=f) (g:=g) hi di hx;cases hg:g i with
 |false=>rw[hg]at hm;refine(cQ (cC:=[]) (cs:=[]) A H hS [] [] (ag7 i hi (bU fr)) rfl rfl (Wg i (by omega) _) (at1 i false hi) (ρ:=ρ) (L7 hf) trivial (nofun) (fun y hy=>(hm y hy).to A) (nofun) ai ai rfl).mono fun m1 T1 hd=>?_;obtain⟨w1,bW,c9,d9,C⟩:=hd;obtain rfl:=C.none;have z9:bW.i 9=left:=C.bE.ii 9;refine⟨left,c9,by omega,⟨w1,C.eG,C.heap.sub fun r x e=>e,dc⟩,Jt C.bE ?_ C.fr⟩;show Value.int .i64 (bW.i 9)=_;rw[z9];rfl
 |true=>
  rw[hg]at hm;obtain⟨k,hk,hp,hn⟩:=Jr 6 (CG hg);have hbs:∀y∈aa1 k,y.1.ev ρ=y.2:=fun y hy=>by
   rcases(by omega:k=0∨k=1∨k=2∨k=3∨k=4∨k=5)with rfl|rfl|rfl|rfl|rfl|rfl<;>simp only[aa1,ac,ae,or_false]at hy
   ·obtain rfl:=hy;exact decide_eq_true hp
   ·rcases hy with rfl|rfl
    ·exact decide_eq_false (hn 0 (by decide))
    ·exact decide_eq_true hp
   ·rcases hy with rfl|rfl|rfl
    ·exact decide_eq_false (hn 0 (by decide))
    ·exact decide_eq_false (hn 1 (by decide))
    ·exact decide_eq_true hp
   ·rcases hy with rfl|rfl|rfl|rfl
    ·exact decide_eq_false (hn 0 (by decide))
    ·exact decide_eq_false (hn 1 (by decide))
    ·exact decide_eq_false (hn 2 (by decide))
    ·exact decide_eq_true hp
   ·rcases hy with rfl|rfl|rfl|rfl|rfl
    ·exact decide_eq_false (hn 0 (by decide))
    ·exact decide_eq_false (hn 1 (by decide))
    ·exact decide_eq_false (hn 2 (by decide))
    ·exact decide_eq_false (hn 3 (by decide))
    ·exact decide_eq_true hp
   ·rcases hy with rfl|rfl|rfl|rfl|rfl|rfl
    ·exact decide_eq_false (hn 0 (by decide))
    ·exact decide_eq_false (hn 1 (by decide))
    ·exact decide_eq_false (hn 2 (by decide))
    ·exact decide_eq_false (hn 3 (by decide))
    ·exact decide_eq_false (hn 4 (by decide))
    ·exact decide_eq_true hp
  refine(cQ (cC:=[]) (cs:=[]) A H hS [] [] (ag6 i k hi hk (bU fr)) rfl rfl (Wg i (by omega) _) (clO i k true hi hk) (ρ:=ρ) (L7 hf) trivial hbs (fun y hy=>(hm y hy).to A) (nofun) ai ai rfl).mono fun m1 T1 hd=>?_;obtain⟨w1,bW,c9,d9,C⟩:=hd;obtain rfl:=C.none;have z9:bW.i 9=left:=C.bE.ii 9;refine⟨left+1,c9,by omega,⟨w1,C.eG,C.heap.sub fun r x e=>e,dc⟩,Jt C.bE ?_ C.fr⟩;show Value.int .i64 (o0 .add .i64 (bW.i 9) 1)=_;rw[z9,show o0 .add .i64 (left:Int) 1=((left+1:Nat):Int)from add_one (by omega)];rfl
theorem aa3(di:L (0,.app 0 0)=some (S,.fF fe 1 xs))(hx:∀c,c<6->xs[4+c]?=some (iV (cells c)))(CG:∀i,i<6->g i=true->∃k,k<6∧cells k=f i):∀(d i:Nat),i+d=6->∀{left:Nat} {m:Machine} {T:Trace} {fr:Frame},left≤i->g_ base W eZ 0 N (Ae L NB MB f g) (G fr []) m T->Js B S BR NB MB left i fr->
  cm aa m T fun m' T'=>∃y8 bT,y8≤6∧g_ base W eZ 0 N (Ae L NB MB f g) (G bT []) m' T'∧Js B S BR NB MB y8 6 bT:=by
 intro d
 induction d with
 |zero=>
  intro i hi left m T fr hl o hf;obtain rfl:i=6:=by omega
  exact cm.refl ⟨left,fr,hl,o,hf⟩
 |succ d ih=>intro i hi left m T fr hl o hf;refine(aa2 (by omega) hl di hx (CG i (by omega)) o hf).trans fun m1 T1 hd=>?_;obtain⟨awj,c9,RP,o1,h1⟩:=hd;exact ih (i+1) (by omega) RP o1 h1
end
noncomputable def keB:Code:=CD [1,1,1,1,1,1,1,1,1,1,1,1,1,0,1,0,0]
noncomputable def keT:List Item:=[.code keB,.inLoop keB,.inBlock 8,.code (CD [1,1,1,1,1,1,1,1,1,1,1,1,1,1])]
noncomputable def leB:Code:=CD [1,1,1,1,1,1,1,1,1,1,1,1,1,0,1,0,0,1,0,0,1,0,0]
noncomputable def leT:List Item:=[.code leB,.inLoop leB,.inBlock 10,.inBlock 9,.code (CD [1,1,1,1,1,1,1,1,1,1,1,1,1,0,1,0,0,1,1]),.inLoop keB,.inBlock 8,.code (CD [1,1,1,1,1,1,1,1,1,1,1,1,1,1])]
theorem anz(st:Nat->Value):c7 (cO [] [] 15 [] (cJ (clH 6 st) [] [])) [1,3,4,5,10,14] (fun _=>[])=some (⟨mL,197,keT,[],.run,.normal,[],[],xu++[i64 (v 9),i64 (.lit 0)]⟩,[]):=by kernel_rfl
noncomputable def keH(st:Nat->Value):bH:=⟨mL,197,bZ 197 st (QI++[(10,i64 (v 9)),(14,i64 (v 41))]),keT,[],.run,.normal⟩
noncomputable def Wh:List (BE×Bool):=[(.cmp .lss (v 41) (.tn (v 73)),true),(.cmp .leq (.lit 0) (v 41),true)]
noncomputable def keM:List (AA×AV):=[(⟨.cN 82,.lit 6⟩,nq 35 73 74)]
theorem at3(st:Nat->Value):c7 (cO Wh keM 19 [] (cJ (keH st) [] [])) [1,3,4,5,10,14,15] (fun _=>[])=some (⟨mL,197,leT,[],.run,.normal,[],[],xu++[i64 (v 9),i64 (v 41),i64 (.lit 0)]⟩,[]):=by kernel_rfl
theorem Wi(st:Nat->Value):bR 100 (cJ (keH st) [] [])=true:=by kernel_rfl
theorem keO:(OO Wh [] keM).low 100=true:=by kernel_rfl
noncomputable def leH(st:Nat->Value):bH:=⟨mL,197,bZ 197 st (QI++[(10,i64 (v 9)),(14,i64 (v 41)),(15,i64 (v 42))]),leT,[],.run,.normal⟩
noncomputable def ag_:List (BE×Bool):=[(.cmp .lss (v 42) (.tn (v 71)),true),(.cmp .leq (.lit 0) (v 42),true)]++Wh++[(.cmp .eql (v 6) (v 5),false)]
noncomputable def leM:List (AA×AV):=keM++[(⟨.cN 82,.lit 5⟩,nq 34 71 72),(⟨.cN 34,.times (.tn (v 42)) (.lit 8)⟩,i64 (v 6)),(⟨.cN 35,.tn (v 41)⟩,i64 (v 5))]
theorem acL(st:Nat->Value):bR 100 (cJ (leH st) [] [])=true:=by kernel_rfl
theorem leO:(OO ag_ [] leM).low 100=true:=by kernel_rfl
noncomputable def anB(z:Bool):List (BE×Bool):=[(.cmp .lss (v 42) (GG z 71),false)]
noncomputable def anC(z:Bool):List (AA×AV):=[(⟨.cN 82,.lit 5⟩,iL z 34 71 72)]
theorem anD(z:Bool)(st:Nat->Value):c7 (cO (anB z) (anC z) 18 [] (cJ (leH st) [] [])) [1,3,4,5,10,14] (fun _=>[])=some (⟨mL,197,keT,[],.run,.normal,[],[],xu++[i64 (v 9),i64 (.op .add .i64 (v 41) (.lit 1))]⟩,[]):=by cases z<;>kernel_rfl
theorem ag'(z:Bool):(OO (anB z) [] (anC z)).low 100=true:=by cases z<;>kernel_rfl
noncomputable def L8(z y:Bool):List (BE×Bool):=[(.cmp .lss (v 41) (GG z 73),false),(.cmp .leq (v 9) (.lit 6),true),(.cmp .eql (v 2) (.lit 1),y),(.cmp .eql (GG y 71) (.lit 0),y),(.cmp .gtr (GG y 71) (.lit 0),!y)]
noncomputable def L9(z y:Bool):List (AA×AV):=[(⟨.cN 82,.lit 6⟩,iL z 35 73 74),(⟨.cN 82,.lit 5⟩,iL y 34 71 72),(⟨.cN 82,.lit 0⟩,i8 (v 2)),(⟨.cN 40,.lit 14⟩,i64 (v 3))]
noncomputable def Wj(y b:Bool):List (BE×Bool):=[(.cmp .eql (v 3) (.lit 0),b)]
theorem aha(z:Bool)(st:Nat->Value):isT (run? aa (OO (L8 z true++Wj true true) [] (L9 z true)) (XX (L8 z true++Wj true true) [] (L9 z true)) oq 400 (cJ (keH st) [] []))=true:=by cases z<;>kernel_rfl
theorem ahb(z b:Bool)(st:Nat->Value):isT (run? aa (OO (L8 z false++Wj false b) [] (L9 z false)) (XX (L8 z false++Wj false b) [] (L9 z false)) oq 400 (cJ (keH st) [] []))=true:=by cases z<;>cases b<;>kernel_rfl
theorem Wk(z y b:Bool):(OO (L8 z y++Wj y b) [] (L9 z y)).low 100=true:=by cases z<;>cases y<;>cases b<;>kernel_rfl
theorem ahc(st:Nat->Value):c7 (cO ag_ leM 24 [] (cJ (leH st) [] [])) [1,3,4,5,10,14,15] (fun _=>[])=some (⟨mL,197,leT,[],.run,.normal,[],[],xu++[i64 (v 9),i64 (v 41),i64 (.op .add .i64 (v 42) (.lit 1))]⟩,[]):=by kernel_rfl
section
variable {base:Nat}{W:World}{N:Nat}{m:Machine}{T:Trace}{L:cg}{fr:Frame}{S B BR NB MB left nF FB cF nL AB cA:Nat}{dz nI:Nat->Int}
structure EV(L:cg)(BR nF FB cF nL AB cA:Nat)(dz nI:Nat->Int):Prop where
 Vo:∃rp,L (0,.app 13 0)=some (BR,.obj ft rp)∧rp[6]?=some (c_ nF FB cF)∧rp[5]?=some (c_ nL AB cA)
 fl:∀i,i<nF->∃k r,L r=some (FB,k)∧k.cell i=some (iV (dz i))
 lf:∀i,i<nL->∃k r,L r=some (AB,k)∧k.cell (i*8)=some (iV (nI i))
 apart:∀i j,i<nF->j<nL->nI j≠dz i
 n:nF≤1000000∧nL≤1000000
abbrev QN(B S BR left i:Nat)(fr:Frame):Prop:=FA mL 197 keT [] .normal (lvB B S BR++[(10,iV left),(14,iV i)]) fr
abbrev QO(B S BR left i k:Nat)(fr:Frame):Prop:=FA mL 197 leT [] .normal (lvB B S BR++[(10,iV left),(14,iV i),(15,iV k)]) fr
noncomputable def Wl(left i k:Nat)(x y:Int)(B S BR nF FB cF nL AB cA:Nat):cn:=gY [(5,x),(6,y),(9,left),(41,i),(42,k),(71,nL),(72,cA),(73,nF),(74,cF)] [(10,B),(34,AB),(35,FB),(40,S),(82,BR)] []
theorem aa4{i k:Nat}(M:EV L BR nF FB cF nL AB cA dz nI)(hi:i<nF)(hk:k<nL)(o:g_ base W eZ 0 N L (G fr []) m T)(hf:QO B S BR left i k fr):
  cm aa m T fun m' T'=>∃bT,g_ base W eZ 0 N L (G bT []) m' T'∧QO B S BR left i (k+1) bT:=by
 obtain⟨w,A,H,hS⟩:=o;obtain⟨rp,q1,q2,q3⟩:=M.Vo;obtain⟨kf,rf,a1,a2⟩:=M.fl i hi;obtain⟨kl,rl,b1,b2⟩:=M.lf k hk;let ρ:=Wl left i k (dz i) (nI k) B S BR nF FB cF nL AB cA;refine(cQ (cC:=[]) (cs:=[]) A H hS [] [] (ahc (bU fr)) rfl rfl (acL _) leO (ρ:=ρ) (hf.rel (.inl rfl) (QI++[(10,i64 (v 9)),(14,i64 (v 41)),(15,i64 (v 42))]) rfl rfl) trivial (fun x hx=>?_) (fun x hx=>?_) (nofun) ai ai rfl).mono fun m1 T1 hd=>?_
 ·simp only[ag_,Wh,az,aA,ac,ae,or_false]at hx;rcases hx with rfl|rfl|rfl|rfl|rfl
  ·show decide (((k:Nat):Int)<(((nL:Nat):Int).toNat:Int))=true;exact decide_eq_true (by omega)
  ·show decide ((0:Int)≤((k:Nat):Int))=true;exact decide_eq_true (by omega)
  ·show decide (((i:Nat):Int)<(((nF:Nat):Int).toNat:Int))=true;exact decide_eq_true (by omega)
  ·show decide ((0:Int)≤((i:Nat):Int))=true;exact decide_eq_true (by omega)
  ·exact decide_eq_false (M.apart i k hi hk)
 ·simp only[leM,keM,az,aA,ac,ae,or_false]at hx;rcases hx with rfl|rfl|rfl|rfl
  ·refine .inl ⟨_,_,q1,by simp,?_⟩;show rp[6]?=some (.slice (some ⟨FB,0,none⟩) nF cF);rw[q2,cy (by omega)]
  ·refine .inl ⟨_,_,q1,by simp,?_⟩;show rp[5]?=some (.slice (some ⟨AB,0,none⟩) nL cA);rw[q3,cy (by omega)]
  ·refine .inl ⟨_,_,b1,by simp,?_⟩;show kl.cell (((((k:Nat):Int).toNat:Int)*8)).toNat=_;rw[show(((((k:Nat):Int).toNat:Int)*8)).toNat=k*8 by omega];exact b2
  ·refine .inl ⟨_,_,a1,by simp,?_⟩;show kf.cell (((i:Nat):Int).toNat:Int).toNat=_;rw[ap,ap];exact a2
 ·obtain⟨w1,bW,c9,d9,C⟩:=hd;obtain rfl:=C.none;refine⟨c9,⟨w1,C.eG,C.heap.sub fun r x e=>e,dc⟩,?_⟩;have f1:=C.fr;have z9:bW.i 9=left:=C.bE.ii 9;have zU:bW.i 41=i:=C.bE.ii 41;have CH:bW.i 42=k:=C.bE.ii 42;dsimp only at f1;rw[lH,qi (C.bE.bb 10) (C.bE.bb 40) (C.bE.bb 82)]at f1;simp only[AV.cf,i64,AV.ev,IE.ev,v,z9,zU,CH]at f1;rw[show o0 .add .i64 (k:Int) 1=((k+1:Nat):Int)from add_one (by have:=M.n;omega)]at f1;exact f1
end
section
variable {base:Nat}{W:World}{N:Nat}{m:Machine}{T:Trace}{L:cg}{fr:Frame}{S B BR NB MB left nF FB cF nL AB cA:Nat}{dz nI:Nat->Int}
theorem ahd(o:g_ base W eZ 0 N L (G fr []) m T)(hf:Js B S BR NB MB left 6 fr):
  cm aa m T fun m' T'=>∃bT,g_ base W eZ 0 N L (G bT []) m' T'∧QN B S BR left 0 bT:=by
 obtain⟨w,A,H,hS⟩:=o;let ρ:=EU fr left 0 (fun _=>0) B S NB MB BR;refine(cQ (cC:=[]) (cs:=[]) A H hS [] [] (anz (bU fr)) rfl rfl (Wg 6 (by omega) _) nU (ρ:=ρ) (L7 hf) trivial (nofun) (nofun) (nofun) ai ai rfl).mono fun m1 T1 hd=>?_;obtain⟨w1,bW,c9,d9,C⟩:=hd;obtain rfl:=C.none;refine⟨c9,⟨w1,C.eG,C.heap.sub fun r x e=>e,dc⟩,?_⟩;have f1:=C.fr;have z9:bW.i 9=left:=C.bE.ii 9;dsimp only at f1;rw[lH,qi (C.bE.bb 10) (C.bE.bb 40) (C.bE.bb 82)]at f1;simp only[AV.cf,i64,AV.ev,IE.ev,v,z9]at f1;exact f1
theorem anE{i:Nat}(M:EV L BR nF FB cF nL AB cA dz nI)(hi:i<nF)(o:g_ base W eZ 0 N L (G fr []) m T)(hf:QN B S BR left i fr):
  cm aa m T fun m' T'=>∃bT,g_ base W eZ 0 N L (G bT []) m' T'∧QO B S BR left i 0 bT:=by
 obtain⟨w,A,H,hS⟩:=o;obtain⟨rp,q1,q2,q3⟩:=M.Vo;let ρ:=Wl left i 0 0 0 B S BR nF FB cF nL AB cA;refine(cQ (cC:=[]) (cs:=[]) A H hS [] [] (at3 (bU fr)) rfl rfl (Wi _) keO (ρ:=ρ) (hf.rel (.inl rfl) (QI++[(10,i64 (v 9)),(14,i64 (v 41))]) rfl rfl) trivial (fun x hx=>?_) (fun x hx=>?_) (nofun) ai ai rfl).mono fun m1 T1 hd=>?_
 ·simp only[Wh,ac,ae,or_false]at hx;rcases hx with rfl|rfl
  ·show decide (((i:Nat):Int)<(((nF:Nat):Int).toNat:Int))=true;exact decide_eq_true (by omega)
  ·show decide ((0:Int)≤((i:Nat):Int))=true;exact decide_eq_true (by omega)
 ·obtain rfl:=ad.1 hx;refine .inl ⟨_,_,q1,by simp,?_⟩;show rp[6]?=some (.slice (some ⟨FB,0,none⟩) nF cF);rw[q2,cy (by omega)]
 ·obtain⟨w1,bW,c9,d9,C⟩:=hd;obtain rfl:=C.none;refine⟨c9,⟨w1,C.eG,C.heap.sub fun r x e=>e,dc⟩,?_⟩;have f1:=C.fr;have z9:bW.i 9=left:=C.bE.ii 9;have zU:bW.i 41=i:=C.bE.ii 41;dsimp only at f1;rw[lH,qi (C.bE.bb 10) (C.bE.bb 40) (C.bE.bb 82)]at f1;simp only[AV.cf,i64,AV.ev,IE.ev,v,z9,zU]at f1;exact f1
theorem ahe{i:Nat}(M:EV L BR nF FB cF nL AB cA dz nI)(hi:i<nF)(o:g_ base W eZ 0 N L (G fr []) m T)(hf:QO B S BR left i nL fr):
  cm aa m T fun m' T'=>∃bT,g_ base W eZ 0 N L (G bT []) m' T'∧QN B S BR left (i+1) bT:=by
 obtain⟨w,A,H,hS⟩:=o;obtain⟨rp,q1,q2,q3⟩:=M.Vo;let z:Bool:=decide (nL=0);let ρ:=Wl left i nL 0 0 B S BR nF FB cF nL AB cA;refine(cQ (cC:=[]) (cs:=[]) A H hS [] [] (anD z (bU fr)) rfl rfl (acL _) (ag' z) (ρ:=ρ) (hf.rel (.inl rfl) (QI++[(10,i64 (v 9)),(14,i64 (v 41)),(15,i64 (v 42))]) rfl rfl) trivial (fun x hx=>?_) (fun x hx=>?_) (nofun) ai ai rfl).mono fun m1 T1 hd=>?_
 ·obtain rfl:=ad.1 hx;show decide (((nL:Nat):Int)<(GG z 71).ev ρ)=false;rw[vP (ρ:=ρ) (fun e=>by show((nL:Nat):Int)=0;rw[of_decide_eq_true e];rfl) (by show(0:Int)≤((nL:Nat):Int);omega)];exact decide_eq_false (Int.lt_irrefl _)
 ·obtain rfl:=ad.1 hx;refine .inl ⟨_,_,q1,by simp,?_⟩;dsimp only;rw[dC (ρ:=ρ) (B:=AB) (k:=nL) (q:=cA) rfl rfl rfl];exact q3
 ·obtain⟨w1,bW,c9,d9,C⟩:=hd;obtain rfl:=C.none;refine⟨c9,⟨w1,C.eG,C.heap.sub fun r x e=>e,dc⟩,?_⟩;have f1:=C.fr;have z9:bW.i 9=left:=C.bE.ii 9;have zU:bW.i 41=i:=C.bE.ii 41;dsimp only at f1;rw[lH,qi (C.bE.bb 10) (C.bE.bb 40) (C.bE.bb 82)]at f1;simp only[AV.cf,i64,AV.ev,IE.ev,v,z9,zU]at f1;rw[show o0 .add .i64 (i:Int) 1=((i+1:Nat):Int)from add_one (by have:=M.n;omega)]at f1;exact f1
theorem aa5{i:Nat}(M:EV L BR nF FB cF nL AB cA dz nI)(hi:i<nF):∀(d k:Nat),k+d=nL->∀{m:Machine} {T:Trace} {fr:Frame},g_ base W eZ 0 N L (G fr []) m T->QO B S BR left i k fr->
  cm aa m T fun m' T'=>∃bT,g_ base W eZ 0 N L (G bT []) m' T'∧QO B S BR left i nL bT:=by
 intro d
 induction d with
 |zero=>
  intro k hk m T fr o hf;obtain rfl:k=nL:=by omega
  exact cm.refl ⟨fr,o,hf⟩
 |succ d ih=>intro k hk m T fr o hf;refine(aa4 M hi (by omega) o hf).trans fun m1 T1 hd=>?_;obtain⟨c9,o1,h1⟩:=hd;exact ih (k+1) (by omega) o1 h1
theorem aa6(M:EV L BR nF FB cF nL AB cA dz nI):∀(d i:Nat),i+d=nF->∀{m:Machine} {T:Trace} {fr:Frame},g_ base W eZ 0 N L (G fr []) m T->QN B S BR left i fr->
  cm aa m T fun m' T'=>∃bT,g_ base W eZ 0 N L (G bT []) m' T'∧QN B S BR left nF bT:=by
 intro d
 induction d with
 |zero=>
  intro i hi m T fr o hf;obtain rfl:i=nF:=by omega
  exact cm.refl ⟨fr,o,hf⟩
 |succ d ih=>intro i hi m T fr o hf;refine(anE M (by omega) o hf).trans fun m1 T1 hd=>?_;obtain⟨c9,o1,h1⟩:=hd;refine(aa5 M (by omega) nL 0 (by omega) o1 h1).trans fun m2 T2 hd=>?_;obtain⟨iE,o2,h2⟩:=hd;refine(ahe M (by omega) o2 h2).trans fun m3 T3 hd=>?_;obtain⟨kH,o3,h3⟩:=hd;exact ih (i+1) (by omega) o3 h3
end
section
variable {base:Nat}{W:World}{N:Nat}{m:Machine}{T:Trace}{L:cg}{fr:Frame}{S B BR NB MB left nF FB cF nL AB cA:Nat}{dz nI:Nat->Int}{xs rp:List Value}{e holds:Int}
noncomputable def anF(left nF FB cF nL AB cA B S BR:Nat)(e holds:Int):cn:=gY [(2,e),(3,holds),(9,left),(41,nF),(71,nL),(72,cA),(73,nF),(74,cF)] [(10,B),(34,AB),(35,FB),(40,S),(82,BR)] []
theorem ahf(hr:L (0,.app 13 0)=some (BR,.obj ft rp))(h0:rp[0]?=some (qn e))(h5:rp[5]?=some (c_ nL AB cA))(h6:rp[6]?=some (c_ nF FB cF))(di:L (0,.app 0 0)=some (S,.fF fe 1 xs))(hho:xs[14]?=some (iV holds))(hl:left≤6)(hy:nL=0->e=1∧holds=0)(hn:nL≠0->e≠1)(o:g_ base W eZ 0 N L (G fr []) m T)(hf:QN B S BR left nF fr):
  cm aa m T (un 5 base W):=by
 let z:Bool:=decide (nF=0);let y:Bool:=decide (nL=0);let ρ:=anF left nF FB cF nL AB cA B S BR e holds;have lF:(GG z 73).ev ρ=nF:=vP (ρ:=ρ) (fun e=>by show((nF:Nat):Int)=0;rw[of_decide_eq_true e];rfl) (by show(0:Int)≤((nF:Nat):Int);omega);have lL:(GG y 71).ev ρ=nL:=vP (ρ:=ρ) (fun e=>by show((nL:Nat):Int)=0;rw[of_decide_eq_true e];rfl) (by show(0:Int)≤((nL:Nat):Int);omega);have kI:dj aa ρ (keH (bU fr)) fr:=hf.rel (.inl rfl) (QI++[(10,i64 (v 9)),(14,i64 (v 41))]) rfl rfl;have hm:∀x∈L9 z y,zD L [] base W ρ x:=fun x hx=>by
  simp only[L9,ac,ae,or_false]at hx;rcases hx with rfl|rfl|rfl|rfl
  ·refine .inl ⟨_,_,hr,by simp,?_⟩;dsimp only;rw[dC (ρ:=ρ) (B:=FB) (k:=nF) (q:=cF) rfl rfl rfl];exact h6
  ·refine .inl ⟨_,_,hr,by simp,?_⟩;dsimp only;rw[dC (ρ:=ρ) (B:=AB) (k:=nL) (q:=cA) rfl rfl rfl];exact h5
  ·exact .inl ⟨_,_,hr,by simp,h0⟩
  ·exact .inl ⟨_,_,di,by simp,hho⟩
 have hb:∀x∈L8 z y,x.1.ev ρ=x.2:=fun x hx=>by
  simp only[L8,ac,ae,or_false]at hx;rcases hx with rfl|rfl|rfl|rfl|rfl
  ·show decide (((nF:Nat):Int)<(GG z 73).ev ρ)=false;rw[lF];exact decide_eq_false (Int.lt_irrefl _)
  ·show decide (((left:Nat):Int)≤6)=true;exact decide_eq_true (by omega)
  ·show decide (e=1)=decide (nL=0);by_cases h:nL=0
   ·rw[decide_eq_true h,decide_eq_true (hy h).1]
   ·rw[decide_eq_false h,decide_eq_false (hn h)]
  ·show decide ((GG y 71).ev ρ=0)=decide (nL=0);rw[lL];exact decide_eq_decide.2 (by omega)
  ·show decide ((GG y 71).ev ρ>0)=!decide (nL=0);rw[lL];by_cases h:nL=0
   ·rw[decide_eq_true h,decide_eq_false (by omega)];rfl
   ·rw[decide_eq_false h,decide_eq_true (by omega)];rfl
 have hh:(BE.cmp .eql (v 3) (.lit 0)).ev ρ=decide (holds=0):=rfl;by_cases h:nL=0
 ·have hyt:y=true:=decide_eq_true h;rw[hyt]at hm hb;refine NZ (f:=5) (cC:=[]) o (aha z (bU fr)) rfl (Wi _) (Wk z true true) (ρ:=ρ) kI trivial (fun x hx=>?_) hm;rcases ay.1 hx with hx|hx
  ·exact hb x hx
  ·obtain rfl:=ad.1 hx;exact hh.trans (decide_eq_true (hy h).2)
 ·have hyt:y=false:=decide_eq_false h;rw[hyt]at hm hb;refine NZ (f:=5) (cC:=[]) o (ahb z (decide (holds=0)) (bU fr)) rfl (Wi _) (Wk z false (decide (holds=0))) (ρ:=ρ) kI trivial (fun x hx=>?_) hm;rcases ay.1 hx with hx|hx
  ·exact hb x hx
  ·obtain rfl:=ad.1 hx;exact hh
end
theorem EW:∀(k:Nat) {l:List Nat},l.Nodup->(∀c∈l,c<k)->l.length≤k
 |0,l,_,h=>by
  cases l with
  |nil=>exact aq _
  |cons a t=>exact absurd (h a (an ..)) (Nat.not_lt_zero _)
 |k+1,l,hn,h=>by
  have h1:(l.erase k).length≤k:=EW k (hn.erase k) fun c hc=>by have h2:=h c (List.mem_of_mem_erase hc);have h3:c≠k:=(hn.mem_erase_iff.1 hc).1;omega
  have h4:l.length≤(l.erase k).length+1:=by rw[List.length_erase];split<;>omega
  omega
def aa7(db:List Value)(rc:Rec):Prop:=db.length=8*(db.length / 8)∧∀i,i<db.length / 8->db[i*8+2]?=some (ag2 (rc i).1)∧db[i*8+6]?=some (iV (rc i).2)
theorem y9{rc rc':Rec}:∀{n:Nat},(∀i,i<n->rc i=rc' i)->jN rc n=jN rc' n∧jk rc n=jk rc' n
 |0,_=>⟨rfl,rfl⟩
 |n+1,h=>by obtain⟨h1,h2⟩:=y9 (n:=n) fun i hi=>h i (by omega);unfold jN jk;rw[h n (a_ _),h1,h2];exact⟨rfl,rfl⟩
theorem GP{rc:Rec}{n:Nat}{x:Option (Fin 6)×Int}:jN (upd rc n x) (n+1)=(match x.1 with|none=>jN rc n|some c=>upd (jN rc n) c.val x.2)∧jk (upd rc n x) (n+1)=(match x.1 with|none=>jk rc n|some c=>upd (jk rc n) c.val true):=by obtain⟨h1,h2⟩:=y9 (rc:=upd rc n x) (rc':=rc) (n:=n) fun i hi=>upd_ne _ _ (by omega);show(match(upd rc n x n).1 with|none=>jN (upd rc n x) n|some c=>upd (jN (upd rc n x) n) c.val (upd rc n x n).2)=_∧(match(upd rc n x n).1 with|none=>jk (upd rc n x) n|some c=>upd (jk (upd rc n x) n) c.val true)=_;rw[upd_same,h1,h2];exact⟨rfl,rfl⟩
theorem aa7.add{db d:List Value}{rc:Rec}{x:Option (Fin 6)×Int}(h:aa7 db rc)(hd:d.length=8)(h2:d[2]?=some (ag2 x.1))(h6:d[6]?=some (iV x.2)):aa7 (db++d) (upd rc (db.length / 8) x):=by
 obtain⟨e1,e2⟩:=mz h.1 hd;refine⟨e1,fun i hi=>?_⟩;rw[e2]at hi;have h1:=h.1;by_cases hl:i<db.length / 8
 ·rw[upd_ne _ _ (by omega),aP (by omega),aP (by omega)];exact h.2 i hl
 ·have:i=db.length / 8:=by omega
  subst this;rw[upd_same,aE (by omega),aE (by omega),show db.length / 8*8+2-db.length=2 by omega,show db.length / 8*8+6-db.length=6 by omega];exact⟨h2,h6⟩
def lI(db:List Value)(mp:List (Value×Value))(S:Nat)(cells:Nat->Int):Prop:=∃cl rc,mp=kM S cl 0∧cl.Nodup∧(∀c∈cl,c<6)∧aa7 db rc∧∀n,jk rc (db.length / 8) n=true->∃c,cl[n]?=some c∧cells c=jN rc (db.length / 8) n
theorem lI.none{db d:List Value}{mp:List (Value×Value)}{S:Nat}{cells:Nat->Int}{y:Int}(h:lI db mp S cells)(hd:d.length=8)(h2:d[2]?=some (iV (-1)))(h6:d[6]?=some (iV y)):lI (db++d) mp S cells:=by obtain⟨cl,rc,h1,hn,hs,hl,hm⟩:=h;obtain⟨e1,e2⟩:=mz hl.1 hd;refine⟨cl,_,h1,hn,hs,hl.add (x:=(Option.none,y)) hd h2 h6,fun n=>?_⟩;rw[e2,GP.1,GP.2];exact hm n
theorem lI.acM{mp:List (Value×Value)}{S:Nat}{cells:Nat->Int}{j:Nat}:∀{l:List (Int×Int)} {db:List Value},lI db mp S cells->lI (db++yr j l) mp S cells
 |[],db,h=>by rw[show yr j []=[]from rfl,aX];exact h
 |p::l,db,h=>by rw[show yr j (p::l)=nG j p.1 p.2++yr j l from rfl,<-List.append_assoc];exact lI.acM (h.none (y:=0) rfl rfl rfl)
theorem lI.gG{db:List Value}{S c j:Nat}{o:pg}{a b lY i4:Int}{cells:Nat->Int}{Y:GS}{gP:Bool}(h:lI db Y.mp S cells)(hc:c<6)(qI:uU Y gP (cv S (4+c)) i4):lI (db++nD j o i4 a b lY) (wZ Y gP (cv S (4+c))) S (upd cells c (o.eu lY a b)):=by
 obtain⟨cl,rc,h1,hn,hs,hl,hm⟩:=h;obtain⟨e1,e2⟩:=mz hl.1 (d:=nD j o i4 a b lY) rfl;obtain⟨rX,n,rfl,hcn,Q0,Fv,MU,OH⟩:∃(rX:List Nat) (n:Nat),i4=(n:Nat)∧rX[n]?=some c∧(∀k x,cl[k]?=some x->rX[k]?=some x)∧wZ Y gP (cv S (4+c))=kM S rX 0∧rX.Nodup∧(∀c∈rX,c<6):=by
  rcases U6 h1 qI with⟨rfl,n,rfl,hcn⟩|⟨rfl,rfl,hnc⟩
  ·exact⟨cl,n,rfl,hcn,fun _ _ e=>e,h1,hn,hs⟩
  ·refine⟨cl++[c],cl.length,rfl,?_,fun k x e=>?_,acb h1 c,?_,fun x hx=>?_⟩
   ·rw[aE (aq _)];simp
   ·have hk:k<cl.length:=(aH.1 e).1;rw[aP hk];exact e
   ·rw[List.nodup_append];refine⟨hn,by simp,fun a ha b hb e=>?_⟩;obtain rfl:=ad.1 hb;exact hnc (e▸ha)
   ·rcases ay.1 hx with hx|hx
    ·exact hs x hx
    ·obtain rfl:=ad.1 hx;exact hc
 have dI:=EW 6 MU OH;have hn6:n<rX.length:=(aH.1 hcn).1;let x:Option (Fin 6)×Int:=(some ⟨n,by omega⟩,o.eu lY a b);refine⟨rX,_,Fv,MU,OH,hl.add (x:=x) rfl rfl rfl,fun k=>?_⟩;rw[e2,GP.1,GP.2];show upd (jk rc (db.length / 8)) n true k=true->∃c',rX[k]?=some c'∧upd cells c (o.eu lY a b) c'=upd (jN rc (db.length / 8)) n (o.eu lY a b) k;intro hk;by_cases hkn:k=n
 ·subst hkn;exact⟨c,hcn,by rw[upd_same,upd_same]⟩
 ·rw[upd_ne _ _ hkn]at hk;obtain⟨c',a1,a2⟩:=hm k hk;have a3:=Q0 k c' a1;refine⟨c',a3,?_⟩;have df:c'≠c:=fun e=>by
   subst e;exact hkn ((List.getElem?_inj (aH.1 a3).1 MU).1 (a3.trans hcn.symm))
  rw[upd_ne _ _ df,upd_ne _ _ hkn];exact a2
section
variable {E:Wd}{nb:Nat}{bI:List (List Sp)}{Y Y' Y1:GS}{X X' X1:XS}{st fZ:dX}
abbrev oY(Y:GS)(X:XS):Prop:=lI Y.db Y.mp X.s.S X.s.cells
theorem oY.e_{bJ c6:Nat->Option Tok.Seat}{h p j b:Nat}{l:List (Int×Int)}{r:(Sp×Ct)⊕Bool}(k:dV E nb bJ h p Y X j b l r c6 Y' X')(o:oY Y X):oY Y' X':=by have w:=k.whole;unfold oY;rw[k.db,w.mp,w.S,w.cells];exact o.acM
theorem gV.y_{bJ c6:Nat->Option Tok.Seat}{h N:Nat}{k:Option Nat}{nw:Option (Sp×Ct)}(g:gV E nb bI bJ h N Y X k c6 Y' X' nw)(o:oY Y X):oY Y' X':=by
 obtain⟨t,fv,TA,cT,FA,cF,p,_,g⟩:=g;cases k with
 |none=>obtain⟨_,_,rfl,rfl,rfl⟩:=g;exact o
 |some i=>obtain⟨body,B5,TH,kt,l,r,_,_,_,k,rfl⟩:=g;exact oY.e_ k o
theorem oX.y_{bJ fS:Nat->Option Tok.Seat}{h N N1 j:Nat}{x:Sp}{iO:dX}(g:oX E nb bI bJ h N Y X j x st fS N1 Y1 X1 iO)(o:oY Y X):oY Y1 X1:=by
 rcases g with⟨d,_,_,rfl,e⟩|⟨AB,LA,cL,TO,jI,X2,nw,_,_,g,rfl,_,rfl⟩
 ·cases d with
  |gG hc _ _ qI=>exact lI.gG o hc qI
  |jn=>exact lI.none o (y:=-1) rfl rfl rfl
  |@go AB LA cL TO jI _ _ _ _ _ g=>have:=g.n;have e5:(Y.jt j Y.n AB LA cL).n=Y.n:=rfl;omega
 ·exact g.y_ (Y:=Y.jt j Y.n AB LA cL) (lI.none o (y:=Y.n) rfl rfl rfl)
theorem Mv.y_(a:Mv E nb bI Y X st Y' X' fZ)(o:oY Y X):oY Y' X':=by
 cases a with
 |beg _ g=>exact g.y_ o
 |@HN j x c b r0 WA cW RA cR h p N N1 Gz fS c6 Y1 X1 iO l r Y' X' hj di d _ k=>exact oY.e_ k (d.y_ (Y:=Y.lZ j r0 WA cW RA cR) o)
theorem Cq.y_(a:Cq E nb bI Y X st Y' X' fZ)(o:oY Y X):oY Y' X':=by
 induction a with
 |refl=>exact o
 |step _ m ih=>exact m.y_ ih
end
theorem iP.who{cl:List Nat}{X:XS}{st:dX}{n:Nat}{L:List Value}(h:iP cl X st n L):∀k,k<L.length / 8->∃j,j<n∧st j≠none∧L[k*8]?=some (iV j):=by
 induction h with
 |zero=>exact fun k hk=>absurd hk (by simp)
 |skip e _ ih=>intro k hk;obtain⟨j,h1,h2,h3⟩:=ih k hk;exact⟨j,by omega,h2,h3⟩
 |@add n L x c rec e r hL ih=>
  intro k hk;obtain⟨r1,r2⟩:=r.len;have hl:L.length=8*(L.length / 8):=by have:=hL.len;omega
  rw[aD,r1]at hk;by_cases h:k<L.length / 8
  ·obtain⟨j,h1,h2,h3⟩:=ih k h;exact⟨j,by omega,h2,by rw[aP (by omega)];exact h3⟩
  ·have:k=L.length / 8:=by omega
   subst this;refine⟨n,a_ _,by rw[e];simp,?_⟩;rw[aE (by omega),show L.length / 8*8-L.length=0 by omega];exact r2
theorem iP.none{cl:List Nat}{X:XS}{st:dX}{n:Nat}{L:List Value}(h:iP cl X st n L):L.length / 8=0↔∀j,j<n->st j=none:=by
 have hl:=h.len;refine⟨fun h0 j hj=>?_,fun h0=>?_⟩
 ·have:=I7 (f:=xm) (st:=st) hj;cases e:st j with
  |none=>rfl
  |some y=>rw[e]at this;simp only[xm]at this;omega
 ·have:wt xm st n=0:=by
   have:∀k,k≤n->wt xm st k=0:=by
    intro k
    induction k with
    |zero=>exact fun _=>rfl
    |succ k ih=>intro hk;unfold wt;rw[ih (by omega),h0 k (by omega)];rfl
   exact this n (aq _)
  omega
theorem QP{f:Nat->Bool}{n i j:Nat}(h:(eY f n)[i]?=some j):j<n∧f j=true:=by have:=bf h;unfold eY at this;obtain⟨a,b⟩:=aU.1 this;exact⟨List.mem_range.1 a,b⟩
section
variable {W:World}{p:Pl}{E E':Wd}{X X1 X':XS}{PB fI N':Nat}{Y1 Y':GS}{iO:dX}{cl:List Nat}{Bk B BR AB cA FB ig:Nat}{e:Int}{Ls:List Value}{fr:Frame}{m:Machine}{T:Trace}
abbrev afL(E':Wd)(Y':GS)(X':XS)(e:Int)(Ls:List Value)(AB cA FB ig BR:Nat):cg:=cg.set (E'.de Y' X') (0,.app 13 0) (BR,.obj ft (fb e Y' (Ls.length / 8) AB cA (eY Y'.dz Y'.n).length FB ig))
structure anH(E':Wd)(Y1 Y':GS)(X X':XS):Prop where
 x:E'.x=1
 a:E'.a=0
 S:X'.s.S=X.s.S
 q:X'.s.q.length=4
 de:E'.de Y' X'=ci 1 Y' (dM 0 X' E'.LB)
theorem Ran.de{bJ:Nat->Option Tok.Seat}(R:Ran W p E X PB fI E' bJ Y1 X1 iO cl Y' X' Bk e Ls AB cA FB ig):anH E' Y1 Y' X X':=by
 obtain⟨LB2,hE',_⟩:=R.got.lb;have ex:E'.x=1:=by rw[hE'];exact R.x
 have ea:E'.a=0:=by rw[hE'];exact R.a
 obtain⟨E1,R1,MB1,mv⟩:=R.got.mvs;have k:=mv.uz;refine⟨ex,ea,R.got.eL.S.trans k.1,by rw[R.got.eL.q,k.2.1];exact R.ql,?_⟩;show ci E'.x Y' (dM E'.a X' E'.LB)=_;rw[ex,ea]
theorem Wm(A:f_ W p E X PB fI E' N' Y1 X1 iO cl Y' X' Bk e Ls AB cA FB ig B BR fr m T):Jq (afL E' Y' X' e Ls AB cA FB ig BR) X.s.S X'.s.xs X'.s.f0.length X'.s.TH X'.s.kt:=by
 have R:=A.ran;have F:=R.de;obtain⟨ts,hY⟩:=R.got.halt;obtain⟨E1,R1,MB1,mv⟩:=R.got.mvs;have Z3:qN Y1 X1:=mv.f0 fun v hv=>by rw[R.s]at hv;cases hv
 have hn:Y'.n=Y1.n:=by rw[hY];rfl
 have hth:Y'.th=Y1.th:=by rw[hY];rfl
 have hl:∀{r:cD},r≠(0,.app 13 0)->afL E' Y' X' e Ls AB cA FB ig BR r=ci 1 Y' (dM 0 X' E'.LB) r:=fun{r} h=>by rw[<-F.de];exact cg.b7 h
 have hxs:∀i,4≤i->X'.s.xs[i]?=([iV (X'.s.cells 0),iV (X'.s.cells 1),iV (X'.s.cells 2),iV (X'.s.cells 3),iV (X'.s.cells 4),iV (X'.s.cells 5),c_ (X'.s.tl.length / 8) X'.s.TO X'.s.jI,c_ X'.s.f0.length X'.s.TH X'.s.kt,.bool false,iV X'.s.ended,iV X'.s.holds]:List Value)[i-4]?:=fun i hi=>by unfold SS.xs;rw[aE (by rw[F.q];exact hi),F.q]
 have hle:=R.got.inv.f0;have P6:=R.got.inv.n;have dU:X'.s.f0.length=X1.s.f0.length:=by rw[R.got.eL.f0]
 refine⟨?_,?_,?_,?_,fun i hi=>?_,?_,?_,?_,by omega⟩
 ·rw[hl (by simp),ct rfl,<-F.S];exact i5
 ·rw[hxs 11 (by decide)];rfl
 ·rw[hxs 12 (by decide)];rfl
 ·rw[hxs 13 (by decide),<-R.got.count];rfl
 ·have df:X'.s.f0≠[]:=fun e=>by rw[e]at hi;exact absurd hi (Nat.not_lt_zero _)
  have hv:X'.s.f0[i]?=some X'.s.f0[i]:=aF hi;obtain⟨j,hj,hjv⟩:=Z3 X'.s.f0[i] (by rw[<-R.got.eL.f0];exact List.getElem_mem hi);obtain⟨d1,d2⟩:=R.got.done j hj;refine⟨.fF g9 X'.s.kt X'.s.f0,(Y'.th j).T,Y'.R,fA Y'.R j (Y'.th j) (Y'.ts j),(1,.lW j),?_,?_,?_,rfl,?_⟩
  ·rw[hl (by simp),ct rfl];simp[eQ,df]
  ·show X'.s.f0[i]?=_;rw[hv,hjv,hth]
  ·rw[hl (by simp),bY rfl];exact if_pos (by omega)
  ·unfold fA;rw[aE (by simp[d2]),show 13-([cb Y'.R,iV (j:Int),.chan (some (Y'.th j).wk),.chan (some (Y'.th j).sd),(Y'.ts j).v]++(Y'.ts j).a).length=0 by simp[d2],d1];rfl
 ·rw[hl (by simp),lu (by decide)];exact(show dM 0 X' E'.LB (0,.dN)=E'.LB (0,.dN) by simp[eQ,iK]).trans (R.na .dN rfl)
 ·rw[hl (by simp),ct rfl];exact(show dM 0 X' E'.LB (0,.app 14 0)=E'.LB (0,.app 14 0) by simp[eQ,iK]).trans (R.f14 0)
 ·rw[hl (by simp),ct rfl];exact(show dM 0 X' E'.LB (0,.app 14 1)=E'.LB (0,.app 14 1) by simp[eQ,iK]).trans (R.f14 1)
theorem Wn(A:f_ W p E X PB fI E' N' Y1 X1 iO cl Y' X' Bk e Ls AB cA FB ig B BR fr m T):∃rc,N6 (afL E' Y' X' e Ls AB cA FB ig BR) BR (Y'.db.length / 8) Y'.LA Y'.cL rc∧∀i,i<6->jk rc (Y'.db.length / 8) i=true->∃k,k<6∧X'.s.cells k=jN rc (Y'.db.length / 8) i:=by
 have R:=A.ran;have F:=R.de;obtain⟨ts,hY⟩:=R.got.halt;obtain⟨E1,R1,MB1,mv⟩:=R.got.mvs;have pi:Y'.db=Y1.db:=by rw[hY];rfl
 have vf:X'.s.cells=X1.s.cells:=R.got.eL.cells;have h0:oY (GS.start R1 MB1) X:=⟨[],fun _=>(none,0),rfl,ai,(fun c hc=>by cases hc),⟨(by show([]:List Value).length=8*(([]:List Value).length / 8);simp),fun i hi=>absurd hi (by simp[GS.start])⟩,fun n hn=>by have:jk (fun _=>(none,0)) (([]:List Value).length / 8) n=true:=hn;simp[jk]at this⟩
 obtain⟨rX,rc,h1,h2,h3,h4,h5⟩:=mv.y_ h0;have ZF:=R.got.inv.pot;have P6:=R.got.inv.n;have hl:∀{r:cD},r≠(0,.app 13 0)->afL E' Y' X' e Ls AB cA FB ig BR r=ci 1 Y' (dM 0 X' E'.LB) r:=fun{r} h=>by rw[<-F.de];exact cg.b7 h
 refine⟨rc,⟨⟨_,cg.cj,rfl⟩,fun i hi=>?_,?_⟩,fun i hi hm=>?_⟩
 ·have df:Y'.db≠[]:=fun e=>by rw[e]at hi;exact absurd hi (by simp)
  rw[pi]at hi;obtain⟨a1,a2⟩:=h4.2 i hi;refine⟨.fF dQ Y'.cL Y'.db,(1,.db),by simp,by simp,?_,?_,?_⟩
  ·rw[hl (by simp),bY rfl];exact if_neg df
  ·show Y'.db[i*8+2]?=_;rw[pi];exact a1
  ·show Y'.db[i*8+6]?=_;rw[pi];exact a2
 ·rw[pi];have hwl:=R.got.cp;have hmv:=(EO p.cd).2;omega
 ·rw[pi]at hm⊢;obtain⟨c,a1,a2⟩:=h5 i hm;exact⟨c,h3 c (bf a1),by rw[vf];exact a2⟩
end
def anJ:Option Value->Int
 |some (.int _ n)=>n
 |_=>0
section
variable {W:World}{p:Pl}{E E':Wd}{X X1 X':XS}{PB fI N':Nat}{Y1 Y':GS}{iO:dX}{cl:List Nat}{Bk B BR AB cA FB ig:Nat}{e:Int}{Ls:List Value}{fr:Frame}{m:Machine}{T:Trace}{L':cg}
theorem Wo(A:f_ W p E X PB fI E' N' Y1 X1 iO cl Y' X' Bk e Ls AB cA FB ig B BR fr m T)(hL:∀r,r≠(0,.app 14 0)->r≠(0,.app 14 1)->L' r=afL E' Y' X' e Ls AB cA FB ig BR r):EV L' BR (eY Y'.dz Y'.n).length FB ig (Ls.length / 8) AB cA (fun i=>(((eY Y'.dz Y'.n)[i]?.getD 0:Nat):Int)) (fun k=>anJ Ls[k*8]?):=by
 have R:=A.ran;have F:=R.de;obtain⟨ts,hY⟩:=R.got.halt;obtain⟨E1,R1,MB1,mv⟩:=R.got.mvs;have hn:Y'.n=Y1.n:=by rw[hY];rfl
 have hfe:Y'.dz=Y1.dz:=by rw[hY];rfl
 have hfo:qh Y1 iO:=mv.tP fun j hj=>absurd hj (Nat.not_lt_zero _);have hl:∀{r:cD},r.1=1->fm r.2=true->L' r=E'.LB r:=fun{r} h h2=>by obtain⟨z,k⟩:=r;obtain rfl:z=1:=h;rw[hL _ (by simp) (by simp),afL,cg.b7 (by simp),F.de,ct h2];simp[eQ,iK]
 have hF:=R.got.dz;have hA:=R.got.left;rw[R.x]at hF hA;have P6:=R.got.inv.n;have hll:=R.got.nI.len;have hwl:=Ve iO Y1.n;refine⟨⟨_,(hL _ (by simp) (by simp)).trans cg.cj,rfl,rfl⟩,fun i hi=>?_,fun k hk=>?_,fun i j hi hj=>?_,?_,?_⟩
 ·have df:eY Y'.dz Y'.n≠[]:=fun e=>by rw[e]at hi;exact absurd hi (Nat.not_lt_zero _)
  refine⟨.fF ke ig (fH (eY Y'.dz Y'.n)),(1,.app 1 2),(hl rfl rfl).trans (hF.trans (if_neg df)),?_⟩;show(fH (eY Y'.dz Y'.n))[i]?=_;unfold fH;rw[aZ,aF hi];rfl
 ·have df:Ls≠[]:=fun e=>by rw[e]at hk;exact absurd hk (by simp)
  obtain⟨j,_,_,hj⟩:=R.got.nI.who k hk;refine⟨.fF dQ cA Ls,(1,.app 1 1),(hl rfl rfl).trans (hA.trans (if_neg df)),?_⟩;show Ls[k*8]?=_;rw[hj];rfl
 ·obtain⟨j',h1,h2,h3⟩:=R.got.nI.who j hj;have nN:(eY Y'.dz Y'.n)[i]?=some (eY Y'.dz Y'.n)[i]:=aF hi;obtain⟨q1,q2⟩:=QP nN;show anJ Ls[j*8]?≠(((eY Y'.dz Y'.n)[i]?.getD 0:Nat):Int);rw[h3,nN];show(j':Int)≠(((eY Y'.dz Y'.n)[i]:Nat):Int);intro e;have e':j'=(eY Y'.dz Y'.n)[i]:=by omega
  rw[<-e',hfe]at q2;exact h2 (hfo j' h1 q2)
 ·have:=Cu Y'.dz Y'.n;omega
 ·omega
theorem aa8(A:f_ W p E X PB fI E' N' Y1 X1 iO cl Y' X' Bk e Ls AB cA FB ig B BR fr m T):cm aa m T (un 5 W.heap.size W):=by
 have M:=Wm A;obtain⟨rc,Mg,CG⟩:=Wn A;have R:=A.ran;have F:=R.de;have vf:∀c,c<6->X'.s.xs[4+c]?=some (iV (X'.s.cells c)):=fun c hc=>F4 F.q hc;refine(anu M A.on A.fr).trans fun m1 T1 hd=>?_;obtain⟨c9,o1,h1⟩:=hd;refine(aaY M X'.s.f0.length 0 (by omega) o1 h1).trans fun m2 T2 hd=>?_;obtain⟨iE,o2,h2⟩:=hd;refine(ag3 M o2 h2).trans fun m3 T3 hd=>?_;obtain⟨NB,MB,kH,o3,h3⟩:=hd;refine(ag8 Mg (Y'.db.length / 8) 0 (by omega) o3 h3).trans fun m4 T4 hd=>?_;obtain⟨zV,o4,h4⟩:=hd;refine(anx Mg o4 h4).trans fun m5 T5 hd=>?_;obtain⟨Uo,o5,h5⟩:=hd;refine(aa3 M.eQ vf CG 6 0 (by omega) (aq _) o5 h5).trans fun m6 T6 hd=>?_;obtain⟨left,fr6,hl6,o6,h6⟩:=hd;refine(ahd o6 h6).trans fun m7 T7 hd=>?_;obtain⟨fr7,o7,h7⟩:=hd;have hLg:∀r:cD,r≠(0,.app 14 0)->r≠(0,.app 14 1)->Ae (afL E' Y' X' e Ls AB cA FB ig BR) NB MB (jN rc (Y'.db.length / 8)) (jk rc (Y'.db.length / 8)) r=afL E' Y' X' e Ls AB cA FB ig BR r:=fun r g1 g2=>(cg.b7 g2).trans (cg.b7 g1);have Mf:=Wo A hLg;refine(aa6 Mf (eY Y'.dz Y'.n).length 0 (by omega) o7 h7).trans fun m8 T8 hd=>?_;obtain⟨fr8,o8,h8⟩:=hd;have pF:=R.got.nI.none;have hho:X'.s.xs[14]?=some (iV X'.s.holds):=by unfold SS.xs;rw[aE (by rw[F.q];decide),F.q];rfl
 refine ahf (rp:=fb e Y' (Ls.length / 8) AB cA (eY Y'.dz Y'.n).length FB ig) (nL:=Ls.length / 8) (nF:=(eY Y'.dz Y'.n).length) ((hLg _ (by simp) (by simp)).trans cg.cj) rfl rfl rfl ((hLg _ (by simp) (by simp)).trans M.eQ) hho hl6 (fun h=>?_) (fun h=>?_) o8 h8
 ·have jc:=pF.1 h;refine⟨?_,?_⟩
  ·rcases R.got.amh with⟨he,_⟩|⟨_,j,hj,hs⟩
   ·exact he
   ·exact absurd (jc j hj) hs
  ·obtain⟨E1,R1,MB1,mv⟩:=R.got.mvs;rw[R.got.k7 jc,mv.uz.2.2,R.s];rfl
 ·rcases R.got.amh with⟨_,jc⟩|⟨he,_⟩
  ·exact absurd (pF.2 jc) h
  ·omega
end
theorem ahg{W:World}{p:Pl}{bv pv:Value}(hI:Dt W.heap.size W bv pv p)(hs:p.Jd):cm aa (solo (G (Frame.enter aa 5 #[.agg (sA bv p.first pv p.cd).toArray] .normal) []) W) #[] (un 5 W.heap.size W):=by
 refine(V7 hI hs).trans fun m1 T1 hd=>?_;rcases hd with h|⟨h60,di,hP,hL⟩
 ·exact cm.refl h
 refine(We h60 di hP hL).trans fun m2 T2 hd=>?_;obtain⟨E,X,PB,fI,E',N',Y1,X1,iO,cl,Y',X',Bk,e,Ls,AB,cA,FB,ig,B,BR,fr,A⟩:=hd;exact aa8 A
end Go.Proofs.Ythaddgfbohmfoaa

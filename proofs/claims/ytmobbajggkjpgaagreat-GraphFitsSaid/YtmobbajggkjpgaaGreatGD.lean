/-
  A symbolic run of the model, proved sound, and the walk of the code: a text of its parts. Conditions: none.
-/
import Derived.Test.YtmobbajggkjpgaaGreatGC
set_option linter.unusedSectionVars false
set_option maxRecDepth 100000
set_option linter.unusedVariables false
set_option linter.unusedSimpArgs false
namespace Go.Proofs.YtmobbajggkjpgaaGreat
open Go.Proofs.YtmobbajggkjpgaaGreat.SX Go.Conc
open _root_.List renaming getElem?_eq_getElem->aa,mem_cons_of_mem->af,mem_singleton->ah,mem_cons->ai,mem_cons_self->aj,getElem?_eq_some_iff->ak,length_append->an,mem_of_getElem?->az,not_mem_nil->aA,length_cons->aC,length_map->aD,drop_eq_getElem_cons->aG,drop_of_length_le->aI,getElem?_map->aL,length->aR,mem_append->aT,append_nil->aV,drop_eq_nil_iff->aW,length_nil->aX,append_assoc->a_,length_eq_zero_iff->bg,getD_eq_getElem?_getD->bn,length_singleton->bp,length_pos_iff->bq,length_drop->br,map_append->bu,eq_nil_of_length_eq_zero->bz
open _root_.Bool renaming and_eq_true->aq,false_eq_true->aH
open _root_.Option.some renaming inj->au
open _root_.Option renaming map_some->av,map_none->aM
open _root_.Nat renaming le_trans->ax,le_refl->ay,zero_add->aF
def eT(a b:Int):Int:=iz .add .i64 a b
def max2(a b:Int):Int:=if b>a then b else a
mutual
def flat:T->List Nd
 |.nd n ks=>n::bY ks
def bY:List T->List Nd
 |[]=>[]
 |k::ks=>flat k++bY ks
end
mutual
def cD:T->Int->Int×Int
 |.nd n ks,d=>((fy n.op (if cm n.op>2∧ks≠[]then eT d 1 else d) 0 ks (if cm n.op>2∧ks≠[]then eT d 1 else d) 0).1,eT (fy n.op (if cm n.op>2∧ks≠[]then eT d 1 else d) 0 ks (if cm n.op>2∧ks≠[]then eT d 1 else d) 0).2 1)
def fy(op d:Int):Nat->List T->Int->Int->Int×Int
 |i,[],most,marks=>(most,marks)
 |i,k::ks,most,marks=>
  let a1:=if cm op<3∧i=1 then eT d marks else d
  let a2:=if decide (cm k.n.op<eF op i)then eT a1 1 else a1
  let r:=cD k a2
  fy op d (i+1) ks (max2 (max2 most r.1) a2) (if i=0∧cm op<3∧cm k.n.op=cm op then r.2 else marks)
end
theorem f_:∀ks:List T,ks.length≤(bY ks).length
 |[]=>ay _
 |.nd n l::ks=>by have:=f_ ks;simp only[bY,flat,aC,an];omega
noncomputable abbrev dpH:List Item:=oW
section
variable {w:World}{cs:List Frame}{fr:Frame}
theorem Q8{Ev:Event->Prop}{E:Value->World->Prop}{a b c:Int}{ts:Array TypeId}{ty:TypeId}{Q:Value->World->Prop}(hq:Q (iV (max2 (max2 a b) c)) w):wq Tryz.prog Ev E (Builtin.max_ ts ty #[iV a,iV b,iV c]) Q w:=by simp only[Builtin.max_,iV,List.foldlM_cons,List.foldlM_nil,Builtin.max2,bH,bI];exact hq
theorem dM{α:Type}{l:List α}{i:Nat}{a:α}{r:List α}(h:l.drop i=a::r):l[i]?=some a∧l.drop (i+1)=r∧i<l.length:=by
 have h1:l[i]?=some a:=by have:=congrArg (·[0]?) h;simpa using this
 refine⟨h1,?_,(ak.1 h1).1⟩;have:=congrArg List.tail h;rw[List.tail_drop]at this;simpa using this
mutual
theorem Dp:∀(t:T) {w:World} {U:Nat->Prop} {b:Nat} {d:Int},fU w U b t->(flat t).length≤1000000->dV 68 #[bK b,iV d] w fun v w'=>bA w w'∧v=.tuple #[iV (cD t d).1,iV (cD t d).2]
 |.nd n ks,w,U,b,d,h,hl=>by
  have h':=h;obtain⟨b,n,ks,ps,s,u,c0,c1,c2,c3,c5,hs,hks⟩:=h;have hlen:(bY ks).length≤1000000:=by simp only[flat,aC]at hl;omega
  have hlk:=f_ ks;refine cI fun cs=>?_;refine(dpA.go (bO [(7,d),(2,n.op)] [(61,b)] []) (dU aaS rfl (bK b) (iV d)) rfl trivial ⟨c0,trivial⟩).trans fun g1 w1 hd=>?_;obtain⟨I,B,bR,rfl,f1,F1,_⟩:=hd;refine(dpB.go (bO [] [] [(16,cY n.op)]) (Q:=fun v w'=>v=iV (cm n.op)) F1 rfl fun w' f1=>tF).trans fun g2 w2 b_=>?_;obtain⟨cE,v,rfl,f2,rfl,F2⟩:=b_;have f12:=f1.trans f2;rcases hs.ex with⟨rfl,rfl⟩|⟨A,o,c,uA,lA,rfl,hc,hel⟩
  ·obtain rfl:ks=[]:=bz hks.len.symm;have e0:cD (.nd n []) d=(d,eT 0 1):=by simp[cD,fy]
   rw[e0];have fin:∀{w3:World} {cF:Frame},bA w2 w3->FA 68 87 dpH [] .normal [(0,bK b),(1,iV d),(4,iV d),(5,iV 0),(6,iV (cm n.op)),(34,eH),(35,iV 0),(36,iV 0)] cF->Goes (G cF cs) w3 fun g' w'=>∃fr' v,g'=G fr' cs∧de 68 fr' w' v∧bA w w'∧v=.tuple #[iV d,iV (eT 0 1)]:=fun{w3 cF} f3 F3=>by refine(afS.go (bO [(7,d),(8,d),(9,0),(3,cm n.op)] [(61,b)] []) F3 rfl trivial trivial).trans fun g4 w4 dh=>?_;obtain⟨I,B,eO,rfl,f4,F4,_⟩:=dh;refine(jo Ta F4 rfl rfl).mono fun g6 w6 dz=>?_;obtain⟨dK,rfl,rfl,hL⟩:=dz;exact⟨dK,_,rfl,hL,f12.trans (f3.trans f4),rfl⟩
   by_cases h2:cm n.op>2
   ·refine(afI.go (bO [(7,d),(3,cm n.op)] [(61,b)] []) F2 rfl ⟨decide_eq_true h2,trivial⟩ ⟨f12.cell c5,trivial⟩).trans fun g3 w3 cv=>?_;obtain⟨I,B,cF,rfl,f3,F3,_⟩:=cv;exact fin f3 F3
   ·refine(afH.go (bO [(7,d),(3,cm n.op)] [(61,b)] []) F2 rfl ⟨decide_eq_false h2,trivial⟩ ⟨f12.cell c5,trivial⟩).trans fun g3 w3 cv=>?_;obtain⟨I,B,cF,rfl,f3,F3,_⟩:=cv;exact fin f3 F3
  ·obtain⟨ρ,hρ⟩:∃ρ:Env,ρ=bO [(7,d),(3,cm n.op),(51,ps.length),(52,c),(53,o)] [(61,b),(50,A)] []:=⟨_,rfl⟩;have ed:∀{x:Int},x=(if cm n.op>2∧ks≠[]then eT d 1 else d)->cD (.nd n ks) d=((fy n.op x 0 ks x 0).1,eT (fy n.op x 0 ks x 0).2 1):=fun h=>by
    subst h;simp only[cD]
   have go:∀{w3:World} {cF:Frame} {x:Int},bA w2 w3->x=(if cm n.op>2∧ks≠[]then eT d 1 else d)->FA 68 87 dpH [] .normal [(0,bK b),(1,iV x),(4,iV x),(5,iV 0),(6,iV (cm n.op)),(34,bS A o ps.length c),(35,iV ps.length),(36,iV 0)] cF->Goes (G cF cs) w3 fun g' w'=>∃fr' v,g'=G fr' cs∧de 68 fr' w' v∧bA w w'∧v=.tuple #[iV (cD (.nd n ks) d).1,iV (cD (.nd n ks) d).2]:=fun{w3 cF x} f3 hx F3=>by rw[ed hx];refine(Ap ks (i:=0) h' hks hel rfl (by omega) hlen (f12.trans f3) F3).mono fun g4 w4 dh=>?_;obtain⟨eO,rfl,f4,hL⟩:=dh;exact⟨eO,_,rfl,hL,f4,rfl⟩
   have hk0:ks≠[]↔0<ps.length:=by rw[hks.len];exact List.length_pos_iff.symm
   by_cases h2:cm n.op>2
   ·by_cases h0:((ps.length:Nat):Int)>0
    ·refine(afG.go ρ F2 (by rw[hρ];rfl) ⟨by rw[hρ];exact decide_eq_true h2,by rw[hρ];exact decide_eq_true h0,trivial⟩ ⟨by rw[hρ];exact f12.cell c5,trivial⟩).trans fun g3 w3 cv=>?_;obtain⟨I,B,cF,rfl,f3,F3,_⟩:=cv;exact go (x:=eT d 1) f3 (by rw[if_pos ⟨h2,hk0.2 (by omega)⟩]) (by rw[hρ]at F3;exact F3)
    ·refine(afF.go ρ F2 (by rw[hρ];rfl) ⟨by rw[hρ];exact decide_eq_true h2,by rw[hρ];exact decide_eq_false h0,trivial⟩ ⟨by rw[hρ];exact f12.cell c5,trivial⟩).trans fun g3 w3 cv=>?_;obtain⟨I,B,cF,rfl,f3,F3,_⟩:=cv;exact go (x:=d) f3 (by rw[if_neg fun hh=>by have:=hk0.1 hh.2;omega]) (by rw[hρ]at F3;exact F3)
   ·refine(afE.go ρ F2 (by rw[hρ];rfl) ⟨by rw[hρ];exact decide_eq_false h2,trivial⟩ ⟨by rw[hρ];exact f12.cell c5,trivial⟩).trans fun g3 w3 cv=>?_;obtain⟨I,B,cF,rfl,f3,F3,_⟩:=cv;exact go (x:=d) f3 (by rw[if_neg fun hh=>h2 hh.1]) (by rw[hρ]at F3;exact F3)
theorem Ap:∀(ks:List T) {n:Nd} {all:List T} {U:Nat->Prop} {b A o c i:Nat} {ps:List Nat} {d most marks:Int} {w0 w:World} {cs:List Frame} {fr:Frame},fU w0 U b (.nd n all)->dQ w0 U ps all->(∀i p,ps[i]?=some p->w0.cell? ⟨A,o+i,none⟩=some (bK p))->all.drop i=ks->all.length≤1000000->(bY ks).length≤1000000->bA w0 w->
  FA 68 87 dpH [] .normal [(0,bK b),(1,iV d),(4,iV most),(5,iV marks),(6,iV (cm n.op)),(34,bS A o ps.length c),(35,iV ps.length),(36,iV i)] fr->
  Goes (G fr cs) w fun g' w'=>∃fr',g'=G fr' cs∧bA w0 w'∧de 68 fr' w' (.tuple #[iV (fy n.op d i ks most marks).1,iV (eT (fy n.op d i ks most marks).2 1)])
 |[],n,all,U,b,A,o,c,i,ps,d,most,marks,w0,w,cs,fr,ht,hks,hel,Q9,hla,hfl,fw,hf=>by
  have hi:ps.length≤i:=by rw[hks.len];exact aW.1 Q9
  obtain⟨ρ,hρ⟩:∃ρ:Env,ρ=bO [(7,d),(8,most),(9,marks),(3,cm n.op),(51,ps.length),(52,c),(53,o),(10,i)] [(61,b),(50,A)] []:=⟨_,rfl⟩;refine(dpE.go ρ hf (by rw[hρ];rfl) ⟨by rw[hρ];exact decide_eq_false (by show ¬((i:Int)<((ps.length:Nat):Int));omega),trivial⟩ trivial).trans fun g4 w4 dh=>?_;obtain⟨I,B,eO,rfl,f4,F4,_⟩:=dh;rw[hρ]at F4;refine(jo Ta F4 rfl rfl).mono fun g6 w6 dz=>?_;obtain⟨dK,rfl,rfl,hL⟩:=dz;exact⟨dK,rfl,fw.trans f4,hL⟩
 |k::ks,n,all,U,b,A,o,c,i,ps,d,most,marks,w0,w,cs,fr,ht,hks,hel,Q9,hla,hfl,fw,hf=>by
  obtain⟨hk,oV,hi⟩:=dM Q9;obtain⟨p,hp,hpk⟩:=hks.get hk;have hip:i<ps.length:=(ak.1 hp).1;have hfk:(flat k).length≤1000000:=by simp only[bY,an]at hfl;omega
  have afU:(bY ks).length≤1000000:=by simp only[bY,an]at hfl;omega
  have bb:∀{ρ:Env},ρ=bO [(7,d),(8,most),(9,marks),(3,cm n.op),(51,ps.length),(52,c),(53,o),(10,i)] [(61,b),(50,A),(62,p)] []->cg ρ _:=fun{ρ} hρ=>bX (ρ:=ρ) (i:=10) (n:=51) (I:=i) (N:=ps.length) (by rw[hρ];rfl) (by rw[hρ];rfl) hip;obtain⟨ρ,hρ⟩:∃ρ:Env,ρ=bO [(7,d),(8,most),(9,marks),(3,cm n.op),(51,ps.length),(52,c),(53,o),(10,i)] [(61,b),(50,A),(62,p)] []:=⟨_,rfl⟩;have mm:cq ρ w [(eC 50 53 10,bC 62)]:=by rw[hρ];exact⟨fw.cell (hel i p hp),trivial⟩
  have No:∀{a1:Int} {w3:World} {cF:Frame},a1=(if cm n.op<3∧i=1 then eT d marks else d)->bA w0 w3->FA 68 87 (.inRegion (opsOf (jh 256412)) [2]::[.code (jh 256413),.code (jh 128207),.inBlock 1,.code (jh 4007),.inLoop (jh 500),.inBlock 0,.code (jh 63)]) [] .normal [(0,bK b),(1,iV d),(4,iV most),(5,iV marks),(6,iV (cm n.op)),(7,iV i),(8,bK p),(9,iV a1),(34,bS A o ps.length c),(35,iV ps.length),(36,iV i),(51,bK b),(52,iV i)] cF->
    Goes (G cF cs) w3 fun g' w'=>∃fr',g'=G fr' cs∧bA w0 w'∧de 68 fr' w' (.tuple #[iV (fy n.op d i (k::ks) most marks).1,iV (eT (fy n.op d i (k::ks) most marks).2 1)]):=fun{a1 w3 cF} ha f3 F3=>by
   refine(dpS.go (bO [] [] [(51,bK b),(52,iV i)]) (Q:=fun v w'=>v=.bool (HY (.nd n all) i k)) F3 rfl fun w' f4=>Dl (fU.keep (f3.trans f4) ht) hk hla).trans fun g4 w4 dh=>?_;obtain⟨eO,vv,rfl,f4,rfl,F4⟩:=dh;have Td:∀{a2:Int} {w5:World} {gn:Frame},a2=(if decide (cm k.n.op<eF n.op i)then eT a1 1 else a1)->bA w0 w5->FA 68 87 (.inRegion (opsOf (jh 256414)) [2,3,4,5,6,7]::[.code (jh 256415),.inBlock 1,.code (jh 4007),.inLoop (jh 500),.inBlock 0,.code (jh 63)]) [] .normal [(0,bK b),(1,iV d),(4,iV most),(5,iV marks),(6,iV (cm n.op)),(7,iV i),(8,bK p),(9,iV a2),(34,bS A o ps.length c),(35,iV ps.length),(36,iV i),(57,bK p),(58,iV a2)] gn->
     Goes (G gn cs) w5 fun g' w'=>∃fr',g'=G fr' cs∧bA w0 w'∧de 68 fr' w' (.tuple #[iV (fy n.op d i (k::ks) most marks).1,iV (eT (fy n.op d i (k::ks) most marks).2 1)]):=fun{a2 w5 gn} ha2 f5 F5=>by
    refine(dpU.go (bO [] [] [(57,bK p),(58,iV a2)]) (Q:=fun v w'=>v=.tuple #[iV (cD k a2).1,iV (cD k a2).2]) F5 rfl fun w' f6=>Dp k (fU.keep (f5.trans f6) hpk) hfk).trans fun g6 w6 dz=>?_;obtain⟨dK,vv,rfl,f6,rfl,F6⟩:=dz;obtain⟨σ,cr⟩:∃σ:Env,σ=bO [(7,d),(8,most),(9,marks),(3,cm n.op),(51,ps.length),(52,c),(53,o),(10,i),(11,a2),(12,(cD k a2).1),(13,(cD k a2).2),(14,k.n.op),(15,cm k.n.op)] [(61,b),(50,A),(62,p)] []:=⟨_,rfl⟩;have HZ:∀{mk':Int} {w7:World} {qX:Frame},mk'=(if i=0∧cm n.op<3∧cm k.n.op=cm n.op then(cD k a2).2 else marks)->bA w0 w7->FA 68 87 (.inRegion (opsOf (jh 512831)) [3,4]::[.inBlock 1,.code (jh 4007),.inLoop (jh 500),.inBlock 0,.code (jh 63)]) [] .normal [(0,bK b),(1,iV d),(5,iV mk'),(6,iV (cm n.op)),(34,bS A o ps.length c),(35,iV ps.length),(36,iV i),(79,iV most),(80,iV (cD k a2).1),(81,iV a2)] qX->
      Goes (G qX cs) w7 fun g' w'=>∃fr',g'=G fr' cs∧bA w0 w'∧de 68 fr' w' (.tuple #[iV (fy n.op d i (k::ks) most marks).1,iV (eT (fy n.op d i (k::ks) most marks).2 1)]):=fun{mk' w7 qX} hm f7 F7=>by
     refine(dpW.go (R:=fun v w'=>v=iV (max2 (max2 most (cD k a2).1) a2)∧w'=w7) (bO [] [] []) F7 (by decide) rfl fun tm ir x' e1 e2=>?_).trans fun g8 w8 BH=>?_
     ·unfold execOp;simp only[e1,resolve,bH,bI,invoke,builtin];rw[show Array.map (⟨tm,[]⟩:Act).eval #[Operand.tmp 79,Operand.tmp 80,Operand.tmp 81]=#[(⟨tm,[]⟩:Act).eval (.tmp 79),(⟨tm,[]⟩:Act).eval (.tmp 80),(⟨tm,[]⟩:Act).eval (.tmp 81)]from by simp];rw[ir 79 _ rfl,ir 80 _ rfl,ir 81 _ rfl];exact Q8 ⟨_,rfl,rfl,rfl⟩
     obtain⟨Np,vv,rfl,⟨rfl,rfl⟩,F8⟩:=BH;refine(dpK.go (bO [(7,d),(9,mk'),(3,cm n.op),(51,ps.length),(52,c),(53,o),(10,i),(16,max2 (max2 most (cD k a2).1) a2)] [(61,b),(50,A)] []) F8 rfl trivial trivial).trans fun g9 w9 zA=>?_;obtain⟨I,B,E6,rfl,f9,F9,_⟩:=zA;have hgo:=Ap ks (i:=i+1) (c:=c) (d:=d) (most:=max2 (max2 most (cD k a2).1) a2) (marks:=mk') (w:=w9) (cs:=cs) (fr:=E6) ht hks hel oV hla afU (f7.trans f9) (by rw[<-inc (i:=i) (by omega)];exact F9)
     have e:fy n.op d i (k::ks) most marks=fy n.op d (i+1) ks (max2 (max2 most (cD k a2).1) a2) mk':=by subst hm ha2 ha;simp only[fy]
     rw[e];exact hgo
    by_cases h0:i=0
    ·subst h0;by_cases h3:cm n.op<3
     ·refine(dpX.go σ F6 (by rw[cr];rfl) ⟨by rw[cr];rfl,by rw[cr];exact decide_eq_true h3,trivial⟩ ⟨?_,trivial⟩).trans fun g7 w7 mW=>?_
      ·have:=fU.keep (f5.trans f6) hpk;obtain⟨_,m,ks',ps',s',u',d0,_⟩:=this;rw[cr];exact d0
      obtain⟨I,B,qX,rfl,f7,F7,_⟩:=mW;rw[cr]at F7;refine(dpY.go (bO [] [] [(73,cY k.n.op)]) (Q:=fun v w'=>v=iV (cm k.n.op)) F7 rfl fun w' f1=>tF).trans fun g8 w8 BH=>?_;obtain⟨Np,vv,rfl,f8,rfl,F8⟩:=BH;by_cases hr:cm k.n.op=cm n.op
      ·refine(afR.go σ F8 (by rw[cr];rfl) ⟨by rw[cr];exact decide_eq_true hr,trivial⟩ trivial).trans fun g9 w9 zA=>?_;obtain⟨I,B,E6,rfl,f9,F9,_⟩:=zA;rw[cr]at F9;exact HZ (mk':=(cD k a2).2) (by rw[if_pos ⟨rfl,h3,hr⟩]) (f5.trans (f6.trans (f7.trans (f8.trans f9)))) F9
      ·refine(afQ.go σ F8 (by rw[cr];rfl) ⟨by rw[cr];exact decide_eq_false hr,trivial⟩ trivial).trans fun g9 w9 zA=>?_;obtain⟨I,B,E6,rfl,f9,F9,_⟩:=zA;rw[cr]at F9;exact HZ (mk':=marks) (by rw[if_neg fun hh=>hr hh.2.2]) (f5.trans (f6.trans (f7.trans (f8.trans f9)))) F9
     ·refine(afP.go σ F6 (by rw[cr];rfl) ⟨by rw[cr];rfl,by rw[cr];exact decide_eq_false h3,trivial⟩ trivial).trans fun g7 w7 mW=>?_;obtain⟨I,B,qX,rfl,f7,F7,_⟩:=mW;rw[cr]at F7;exact HZ (mk':=marks) (by rw[if_neg fun hh=>h3 hh.2.1]) (f5.trans (f6.trans f7)) F7
    ·refine(afO.go σ F6 (by rw[cr];rfl) ⟨by rw[cr];exact decide_eq_false (by show ¬((i:Int)=0);omega),trivial⟩ trivial).trans fun g7 w7 mW=>?_;obtain⟨I,B,qX,rfl,f7,F7,_⟩:=mW;rw[cr]at F7;exact HZ (mk':=marks) (by rw[if_neg fun hh=>h0 hh.1]) (f5.trans (f6.trans f7)) F7
   obtain⟨σ,cr⟩:∃σ:Env,σ=bO [(7,d),(8,most),(9,marks),(3,cm n.op),(51,ps.length),(52,c),(53,o),(10,i),(11,a1)] [(61,b),(50,A),(62,p)] []:=⟨_,rfl⟩;cases e:HY (.nd n all) i k with
   |false=>rw[e]at F4;refine(afM.go σ F4 (by rw[cr];rfl) trivial trivial).trans fun g5 w5 eg=>?_;obtain⟨I,B,gn,rfl,f5,F5,_⟩:=eg;rw[cr]at F5;exact Td (a2:=a1) (by rw[show decide (cm k.n.op<eF n.op i)=false from e];rfl) (f3.trans (f4.trans f5)) F5
   |true=>rw[e]at F4;refine(afN.go σ F4 (by rw[cr];rfl) trivial trivial).trans fun g5 w5 eg=>?_;obtain⟨I,B,gn,rfl,f5,F5,_⟩:=eg;rw[cr]at F5;exact Td (a2:=eT a1 1) (by rw[show decide (cm k.n.op<eF n.op i)=true from e];rfl) (f3.trans (f4.trans f5)) F5
  by_cases h3:cm n.op<3
  ·by_cases h1:i=1
   ·refine(afL.go ρ hf (by rw[hρ];rfl) (cg.app (bb hρ) ⟨by rw[hρ];exact decide_eq_true h3,by rw[hρ];exact decide_eq_true (by show(i:Int)=1;omega),trivial⟩) mm).trans fun g3 w3 cv=>?_;obtain⟨I,B,cF,rfl,f3,F3,_⟩:=cv;rw[hρ]at F3;exact No (a1:=eT d marks) (by rw[if_pos ⟨h3,h1⟩]) (fw.trans f3) F3
   ·refine(afK.go ρ hf (by rw[hρ];rfl) (cg.app (bb hρ) ⟨by rw[hρ];exact decide_eq_true h3,by rw[hρ];exact decide_eq_false (by show ¬((i:Int)=1);omega),trivial⟩) mm).trans fun g3 w3 cv=>?_;obtain⟨I,B,cF,rfl,f3,F3,_⟩:=cv;rw[hρ]at F3;exact No (a1:=d) (by rw[if_neg fun hh=>h1 hh.2]) (fw.trans f3) F3
  ·refine(afJ.go ρ hf (by rw[hρ];rfl) (cg.app (bb hρ) ⟨by rw[hρ];exact decide_eq_false h3,trivial⟩) mm).trans fun g3 w3 cv=>?_;obtain⟨I,B,cF,rfl,f3,F3,_⟩:=cv;rw[hρ]at F3;exact No (a1:=d) (by rw[if_neg fun hh=>h3 hh.1]) (fw.trans f3) F3
end
end
noncomputable def ki(l:Nat):Code:=pc (bD Tryz.f67) (pd l)
theorem Nq:bT Tryz.prog 67 [.bF 0,.bF 1] .normal=.ok ⟨67,135,c_ 67 [.bF 0,.bF 1],[.code (bD Tryz.f67)],[],.run,.normal⟩:=by kernel_rfl
theorem H6:p6 67 135 4 5:=fun st=>by kernel_rfl
theorem gr0:Pc 67 135 [.code (bD Tryz.f67)] [(0,cn)] [] [] [] 18 [] [4,5] [.code .ret,.code (ki 7)] [zz,cn] []:={}
theorem gr1:Pc 67 135 [.code (bD Tryz.f67)] [(0,sA 50 53 51 52)] [((.cmp .eql (.tn (v 51)) (.lit 0)),true)] [] [] 18 [] [4,5] [.code .ret,.code (ki 7)] [zz,cn] []:={}
abbrev lC:List (BE×Bool):=[((.cmp .eql (.tn (v 51)) (.lit 0)),false),((.cmp .lss (.lit 0) (.tn (v 51))),true)]
noncomputable abbrev Te:List AV:=[sA 50 53 51 52,.bF 1,bC 100,i64 (.lit 0),i64 (.lit 0),FB]
noncomputable abbrev lD:List (Nat×AV):=[(0,sA 50 53 51 52),(1,.bF 1)]
theorem afV:Pc 67 135 [.code (bD Tryz.f67)] lD lC [(⟨(.dyn 50),(v 53)⟩,i8 (.lit 1)),(⟨(.dyn 50),(.plus (.tn (v 53)) (.lit 1))⟩,i64 (v 2)),(⟨(.dyn 50),(.plus (.tn (v 53)) (.lit 2))⟩,i64 (v 3)),(⟨(.dyn 50),(.plus (.tn (v 53)) (.lit 3))⟩,i64 (v 4))] [] 46 [100] [0,1,6,7,8,9] [.code (ki 63)] Te [(100,.cells [i8 (.lit 1),i64 (v 2),i64 (v 3),i64 (v 4)] 77)]:={}
theorem afW:Pc 67 135 [.code (bD Tryz.f67)] lD lC [(⟨(.dyn 50),(v 53)⟩,i8 (.lit 2)),(⟨(.dyn 50),(.plus (.tn (v 53)) (.lit 1))⟩,i64 (v 2)),(⟨(.dyn 50),(.plus (.tn (v 53)) (.lit 2))⟩,i64 (v 3)),(⟨(.dyn 50),(.plus (.tn (v 53)) (.lit 3))⟩,i64 (v 4))] [] 49 [100] [0,1,6,7,8,9] [.code (ki 63)] Te [(100,.cells [i8 (.lit 2),i64 (v 2),i64 (v 3),i64 (v 4)] 77)]:={}
noncomputable abbrev Dq:List AV:=[sA 50 53 51 52,.bF 1,bC 100,i64 (.lit 1),i64 (.lit 1),FB]
theorem afX:Pc 67 135 [.code (bD Tryz.f67)] lD lC [(⟨(.dyn 50),(v 53)⟩,i8 (.lit 3)),(⟨(.dyn 50),(.plus (.tn (v 53)) (.lit 1))⟩,i64 (v 2)),(⟨(.dyn 50),(.plus (.tn (v 53)) (.lit 2))⟩,i64 (v 3)),(⟨(.dyn 50),(.plus (.tn (v 53)) (.lit 3))⟩,i64 (v 4))] [] 61 [100] [0,1,6,7,8,9] [.code (ki 63)] Dq [(100,.cells [i8 (.lit 3),i64 (v 2),i64 (v 3),i64 (v 4)] 77)]:={}
theorem aaY:Pc 67 135 [.code (bD Tryz.f67)] lD lC [(⟨(.dyn 50),(v 53)⟩,i8 (.lit 13)),(⟨(.dyn 50),(.plus (.tn (v 53)) (.lit 1))⟩,i64 (v 2)),(⟨(.dyn 50),(.plus (.tn (v 53)) (.lit 2))⟩,i64 (v 3)),(⟨(.dyn 50),(.plus (.tn (v 53)) (.lit 3))⟩,i64 (v 4))] [] 67 [100] [0,1,6,7,8,9] [.code (ki 63)] Dq [(100,.cells [i8 (.lit 13),i64 (v 2),i64 (v 3),i64 (v 4)] 77)]:={}
theorem aaZ:Pc 67 135 [.code (bD Tryz.f67)] lD lC [(⟨(.dyn 50),(v 53)⟩,i8 (.lit 14)),(⟨(.dyn 50),(.plus (.tn (v 53)) (.lit 1))⟩,i64 (v 2)),(⟨(.dyn 50),(.plus (.tn (v 53)) (.lit 2))⟩,i64 (v 3)),(⟨(.dyn 50),(.plus (.tn (v 53)) (.lit 3))⟩,i64 (v 4))] [] 73 [100] [0,1,6,7,8,9] [.code (ki 63)] Dq [(100,.cells [i8 (.lit 14),i64 (v 2),i64 (v 3),i64 (v 4)] 77)]:={}
theorem aa0:Pc 67 135 [.code (bD Tryz.f67)] lD lC [(⟨(.dyn 50),(v 53)⟩,i8 (.lit 15)),(⟨(.dyn 50),(.plus (.tn (v 53)) (.lit 1))⟩,i64 (v 2)),(⟨(.dyn 50),(.plus (.tn (v 53)) (.lit 2))⟩,i64 (v 3)),(⟨(.dyn 50),(.plus (.tn (v 53)) (.lit 3))⟩,i64 (v 4))] [] 79 [100] [0,1,6,7,8,9] [.code (ki 63)] Dq [(100,.cells [i8 (.lit 15),i64 (v 2),i64 (v 3),i64 (v 4)] 77)]:={}
theorem aa1:Pc 67 135 [.code (bD Tryz.f67)] lD lC [(⟨(.dyn 50),(v 53)⟩,i8 (.lit 16)),(⟨(.dyn 50),(.plus (.tn (v 53)) (.lit 1))⟩,i64 (v 2)),(⟨(.dyn 50),(.plus (.tn (v 53)) (.lit 2))⟩,i64 (v 3)),(⟨(.dyn 50),(.plus (.tn (v 53)) (.lit 3))⟩,i64 (v 4))] [] 82 [100] [0,1,6,7,8,9] [.code (ki 63)] Dq [(100,.cells [i8 (.lit 16),i64 (v 2),i64 (v 3),i64 (v 4)] 77)]:={}
theorem aa2:Pc 67 135 [.code (bD Tryz.f67)] lD lC [(⟨(.dyn 50),(v 53)⟩,i8 (.lit 18)),(⟨(.dyn 50),(.plus (.tn (v 53)) (.lit 1))⟩,i64 (v 2)),(⟨(.dyn 50),(.plus (.tn (v 53)) (.lit 2))⟩,i64 (v 3)),(⟨(.dyn 50),(.plus (.tn (v 53)) (.lit 3))⟩,i64 (v 4))] [] 89 [100] [0,1,6,7,8,9] [.code (ki 63)] [sA 50 53 51 52,.bF 1,bC 100,i64 (.lit 1),i64 (.lit 1),TB] [(100,.cells [i8 (.lit 18),i64 (v 2),i64 (v 3),i64 (v 4)] 77)]:={}
noncomputable abbrev Nr:List AV:=[sA 50 53 51 52,.bF 1,bC 100,i64 (.lit 2),i64 (.lit 2),FB]
theorem afY:Pc 67 135 [.code (bD Tryz.f67)] lD lC [(⟨(.dyn 50),(v 53)⟩,i8 (.lit 4)),(⟨(.dyn 50),(.plus (.tn (v 53)) (.lit 1))⟩,i64 (v 2)),(⟨(.dyn 50),(.plus (.tn (v 53)) (.lit 2))⟩,i64 (v 3)),(⟨(.dyn 50),(.plus (.tn (v 53)) (.lit 3))⟩,i64 (v 4))] [] 97 [100] [0,1,6,7,8,9] [.code (ki 63)] Nr [(100,.cells [i8 (.lit 4),i64 (v 2),i64 (v 3),i64 (v 4)] 77)]:={}
theorem afZ:Pc 67 135 [.code (bD Tryz.f67)] lD lC [(⟨(.dyn 50),(v 53)⟩,i8 (.lit 5)),(⟨(.dyn 50),(.plus (.tn (v 53)) (.lit 1))⟩,i64 (v 2)),(⟨(.dyn 50),(.plus (.tn (v 53)) (.lit 2))⟩,i64 (v 3)),(⟨(.dyn 50),(.plus (.tn (v 53)) (.lit 3))⟩,i64 (v 4))] [] 103 [100] [0,1,6,7,8,9] [.code (ki 63)] Nr [(100,.cells [i8 (.lit 5),i64 (v 2),i64 (v 3),i64 (v 4)] 77)]:={}
theorem af0:Pc 67 135 [.code (bD Tryz.f67)] lD lC [(⟨(.dyn 50),(v 53)⟩,i8 (.lit 6)),(⟨(.dyn 50),(.plus (.tn (v 53)) (.lit 1))⟩,i64 (v 2)),(⟨(.dyn 50),(.plus (.tn (v 53)) (.lit 2))⟩,i64 (v 3)),(⟨(.dyn 50),(.plus (.tn (v 53)) (.lit 3))⟩,i64 (v 4))] [] 106 [100] [0,1,6,7,8,9] [.code (ki 63)] Nr [(100,.cells [i8 (.lit 6),i64 (v 2),i64 (v 3),i64 (v 4)] 77)]:={}
theorem aa3:Pc 67 135 [.code (bD Tryz.f67)] lD lC [(⟨(.dyn 50),(v 53)⟩,i8 (.lit 12)),(⟨(.dyn 50),(.plus (.tn (v 53)) (.lit 1))⟩,i64 (v 2)),(⟨(.dyn 50),(.plus (.tn (v 53)) (.lit 2))⟩,i64 (v 3)),(⟨(.dyn 50),(.plus (.tn (v 53)) (.lit 3))⟩,i64 (v 4))] [] 112 [100] [0,1,6,7,8,9] [.code (ki 63)] [sA 50 53 51 52,.bF 1,bC 100,i64 (.lit 3),i64 (.lit 3),FB] [(100,.cells [i8 (.lit 12),i64 (v 2),i64 (v 3),i64 (v 4)] 77)]:={}
noncomputable abbrev Ns:List AV:=[sA 50 53 51 52,.bF 1,bC 100,i64 (.lit 1),i64 (.tn (v 51)),TB]
theorem aa4:Pc 67 135 [.code (bD Tryz.f67)] lD lC [(⟨(.dyn 50),(v 53)⟩,i8 (.lit 10)),(⟨(.dyn 50),(.plus (.tn (v 53)) (.lit 1))⟩,i64 (v 2)),(⟨(.dyn 50),(.plus (.tn (v 53)) (.lit 2))⟩,i64 (v 3)),(⟨(.dyn 50),(.plus (.tn (v 53)) (.lit 3))⟩,i64 (v 4))] [] 124 [100] [0,1,6,7,8,9] [.code (ki 63)] Ns [(100,.cells [i8 (.lit 10),i64 (v 2),i64 (v 3),i64 (v 4)] 77)]:={}
theorem aa5:Pc 67 135 [.code (bD Tryz.f67)] lD lC [(⟨(.dyn 50),(v 53)⟩,i8 (.lit 11)),(⟨(.dyn 50),(.plus (.tn (v 53)) (.lit 1))⟩,i64 (v 2)),(⟨(.dyn 50),(.plus (.tn (v 53)) (.lit 2))⟩,i64 (v 3)),(⟨(.dyn 50),(.plus (.tn (v 53)) (.lit 3))⟩,i64 (v 4))] [] 130 [100] [0,1,6,7,8,9] [.code (ki 63)] Ns [(100,.cells [i8 (.lit 11),i64 (v 2),i64 (v 3),i64 (v 4)] 77)]:={}
theorem aa6:Pc 67 135 [.code (bD Tryz.f67)] lD lC [(⟨(.dyn 50),(v 53)⟩,i8 (.lit 17)),(⟨(.dyn 50),(.plus (.tn (v 53)) (.lit 1))⟩,i64 (v 2)),(⟨(.dyn 50),(.plus (.tn (v 53)) (.lit 2))⟩,i64 (v 3)),(⟨(.dyn 50),(.plus (.tn (v 53)) (.lit 3))⟩,i64 (v 4))] [] 133 [100] [0,1,6,7,8,9] [.code (ki 63)] Ns [(100,.cells [i8 (.lit 17),i64 (v 2),i64 (v 3),i64 (v 4)] 77)]:={}
noncomputable abbrev Aq:List (Nat×bQ):=[(100,.cells [i8 (v 1),i64 (v 2),i64 (v 3),i64 (v 4)] 77)]
theorem af1:Pc 67 135 [.code (bD Tryz.f67)] lD [((.cmp .eql (.tn (v 51)) (.lit 0)),false),((.cmp .lss (.lit 0) (.tn (v 51))),true),((.cmp .eql (v 1) (.lit 1)),false),((.cmp .eql (v 1) (.lit 2)),false),((.cmp .eql (v 1) (.lit 3)),false),((.cmp .eql (v 1) (.lit 13)),false),((.cmp .eql (v 1) (.lit 14)),false),((.cmp .eql (v 1) (.lit 15)),false),((.cmp .eql (v 1) (.lit 16)),false),((.cmp .eql (v 1) (.lit 18)),false),((.cmp .eql (v 1) (.lit 4)),false),((.cmp .eql (v 1) (.lit 5)),false),((.cmp .eql (v 1) (.lit 6)),false),((.cmp .eql (v 1) (.lit 12)),false),((.cmp .eql (v 1) (.lit 10)),false),((.cmp .eql (v 1) (.lit 11)),false),((.cmp .eql (v 1) (.lit 17)),false)] [(⟨(.dyn 50),(v 53)⟩,i8 (v 1)),(⟨(.dyn 50),(.plus (.tn (v 53)) (.lit 1))⟩,i64 (v 2)),(⟨(.dyn 50),(.plus (.tn (v 53)) (.lit 2))⟩,i64 (v 3)),(⟨(.dyn 50),(.plus (.tn (v 53)) (.lit 3))⟩,i64 (v 4))] [] 130 [100] [4,5] [.code .ret,.inBlock 0,.code (ki 63)] [zz,cn] Aq:={}
noncomputable abbrev qY:List (AA×AV):=[(eD 64 0,i8 (v 1)),(eD 64 1,i64 (v 2)),(eD 64 2,i64 (v 3)),(eD 64 3,i64 (v 4))]
theorem grB(a b c d:Bool):Pc 67 135 [.code (ki 63)] [(0,sA 50 53 51 52),(1,.bF 1),(6,bC 64),(7,i64 (v 5)),(8,i64 (v 6)),(9,.bF 9)] [((.cmp .eql (v 2) (.lit 0)),a),((.cmp .eql (v 1) (.lit 2)),b),((.cmp .eql (v 1) (.lit 1)),c),((.cmp .gtr (v 2) (.lit 0)),d)] qY [] 22 [] [0,1,6,7,8,9,10] [.code (ki 127)] [sA 50 53 51 52,.bF 1,bC 64,i64 (v 5),i64 (v 6),.bF 9,.bool (.lit (a||b||c&&d))] []:=⟨fun st=>by cases a<;>cases b<;>cases c<;>cases d<;>kernel_rfl,fun st=>by kernel_rfl,by cases a<;>cases b<;>cases c<;>cases d<;>kernel_rfl,of_decide_eq_true (by kernel_rfl)⟩
noncomputable abbrev H7:List Item:=[.code (ki 509),.code (ki 255)]
theorem grG(h z e f g i j:Bool):Pc 67 135 [.code (ki 127)] [(0,sA 50 53 51 52),(1,.bool (.lit h)),(6,bC 64),(7,i64 (v 5)),(8,i64 (v 6)),(9,.bF 9),(10,.bool (.lit z))] [((.cmp .lss (v 3) (v 5)),e),((.cmp .gtr (v 3) (v 6)),f),((.cmp .lss (v 4) (.lit 0)),g),((.cmp .eql (v 1) (.lit 17)),i),((.cmp .eql (v 1) (.lit 18)),j)] qY [] 37 [] [0,1,6,9,94] H7 [sA 50 53 51 52,.bool (.lit h),bC 64,.bF 9,.bool (.lit (e||f||g||!z||!h&&(i||j)))] []:=⟨fun st=>by cases h<;>cases z<;>cases e<;>cases f<;>cases g<;>cases i<;>cases j<;>kernel_rfl,fun st=>by cases h<;>cases z<;>kernel_rfl,by cases e<;>cases f<;>cases g<;>cases i<;>cases j<;>kernel_rfl,of_decide_eq_true (by kernel_rfl)⟩
theorem grX:Pc 67 135 H7 [(94,TB)] [] [] [] 6 [] [4,5] [.code .ret,.code (ki 255)] [zz,cn] []:={}
theorem grY:Pc 67 135 H7 [(0,sA 50 53 51 52),(6,bC 64),(9,.bF 9),(94,FB)] [] qY [] 12 [100] [0,6,9,11,98] [.inRegion (opsOf (ki 1022)) [1,2],.code (ki 1023)] [sA 50 53 51 52,bC 64,.bF 9,bC 100,sA 50 53 51 52] [(100,.cells [i8 (v 1),i64 (v 2),i64 (v 3),i64 (v 4),.str ⟨#[]⟩,cn] 129)]:={}
theorem grZ:j7 135 (opsOf (ki 1022)) 1 [] (.slice 48 (.tmp 98) (some (.const (.int .i64 1))) none none) 48 (some 99):={}
noncomputable abbrev vg:List Item:=[.code (ki 16372),.inLoop (ki 16372),.inBlock 1,.code (ki 2047)]
theorem grH:Pc 67 135 [.inRegion (opsOf (ki 1022)) [2],.code (ki 1023)] [(6,bC 64),(9,.bF 9),(11,bC 63),(99,.bF 8)] [] [(eD 64 2,i64 (v 3))] [] 11 [] [0,9,11,101,102] vg [.bF 8,.bF 9,bC 63,i64 (v 3),i64 (.lit 0)] []:={}
noncomputable abbrev Tf:List (Nat×AV):=[(0,.bF 8),(9,.bF 9),(11,bC 63),(101,i64 (v 3)),(102,i64 (v 7))]
theorem grL:Pc 67 135 vg Tf [((.cmp .lss (v 7) (v 3)),true)] [] [] 17 [] [0,9,11,101,102,105] [.inRegion (opsOf (ki 2095716)) [1,2,3,4,5,6],.code (ki 2095717),.code (ki 1047859),.inBlock 2,.code (ki 130983),.inLoop (ki 16372),.inBlock 1,.code (ki 2047)] [.bF 8,.bF 9,bC 63,i64 (v 3),i64 (v 7),.bF 8] []:={}
theorem grM:dy 135 (opsOf (ki 2095716)) 1 [(105,.bF 105)] 67 [.bF 105,FB] 106:={}
noncomputable abbrev Gl:List Item:=[.inRegion (opsOf (ki 2095716)) [2,3,4,5,6],.code (ki 2095717),.code (ki 1047859),.inBlock 2,.code (ki 130983),.inLoop (ki 16372),.inBlock 1,.code (ki 2047)]
noncomputable abbrev VK:List Item:=[.code .ret,.code (ki 1047859),.inBlock 2,.code (ki 130983),.inLoop (ki 16372),.inBlock 1,.code (ki 2047)]
theorem Q_:Pc 67 135 Gl [(9,TB),(11,bC 63),(101,i64 (v 3)),(102,i64 (v 7)),(106,.tuple [zz,.bF 8])] [] [] [] 28 [] [4,5] VK [zz,cn] []:={}
theorem Nt:Pc 67 135 Gl [(9,FB),(11,bC 63),(101,i64 (v 3)),(102,i64 (v 7)),(106,.tuple [zz,.bF 8])] [] [] [] 28 [] [4,5] VK [zz,cn] []:={}
noncomputable abbrev Nu:List (Nat×AV):=[(9,TB),(11,bC 63),(101,i64 (v 3)),(102,i64 (v 7)),(106,.tuple [bC 62,.bF 8])]
theorem grO:Pc 67 135 Gl Nu [((.cmp .neq (v 1) (.lit 2)),true)] [(eD 62 0,i8 (v 1))] [] 28 [] [4,5] VK [zz,cn] []:={}
noncomputable abbrev Nv:List (Nat×bQ):=[(63,.cells [i8 (v 21),i64 (v 22),i64 (v 3),i64 (v 24),.str ⟨#[]⟩,cn] 129)]
noncomputable abbrev Tg:List AV:=[.bF 8,TB,bC 63,i64 (v 3),i64 (.op .add .i64 (v 7) (.lit 1))]
theorem af2:Pc 67 135 Gl Nu [((.cmp .neq (v 1) (.lit 2)),false)] [(eD 62 0,i8 (v 1))] Nv 43 [101,63] [0,9,11,101,102] vg Tg [(101,.row [bC 62] 105 (v 101)),(63,.cells [i8 (v 21),i64 (v 22),i64 (v 3),i64 (v 24),.str ⟨#[]⟩,.slice (some (eD 101 0)) (.lit 1) (v 101)] 129)]:={}
noncomputable abbrev Ti:List (Nat×AV):=[(9,FB),(11,bC 63),(101,i64 (v 3)),(102,i64 (v 7)),(106,.tuple [bC 62,.bF 8])]
noncomputable abbrev Tj:List AV:=[.bF 8,FB,bC 63,i64 (v 3),i64 (.op .add .i64 (v 7) (.lit 1))]
theorem af3:Pc 67 135 Gl Ti [] [] Nv 43 [101,63] [0,9,11,101,102] vg Tj [(101,.row [bC 62] 105 (v 101)),(63,.cells [i8 (v 21),i64 (v 22),i64 (v 3),i64 (v 24),.str ⟨#[]⟩,.slice (some (eD 101 0)) (.lit 1) (v 101)] 129)]:={}
theorem af4:Pc 67 135 Gl Nu [((.cmp .leq (.plus (.tn (v 8)) (.lit 1)) (.lit 1048576)),true),((.cmp .neq (v 1) (.lit 2)),false)] [(eD 62 0,i8 (v 1))] [(52,.pre false 65 (v 8) [] [] [] 105 (v 57)),(63,.cells [i8 (v 21),i64 (v 22),i64 (v 3),i64 (v 24),.str ⟨#[]⟩,.slice (some (eD 52 0)) (v 8) (v 57)] 129)] 43 [101,63] [0,9,11,101,102] vg Tg [(101,.pre false 65 (v 8) [] [] [bC 62] 105 (v 101)),(63,.cells [i8 (v 21),i64 (v 22),i64 (v 3),i64 (v 24),.str ⟨#[]⟩,.slice (some (eD 101 0)) (.plus (.tn (v 8)) (.lit 1)) (v 101)] 129)]:={}
abbrev Nw:List (BE×Bool):=[((.cmp .leq (.plus (.tn (v 8)) (.lit 1)) (.lit 1048576)),true)]
theorem af5:Pc 67 135 Gl Ti Nw [] [(52,.pre false 65 (v 8) [] [] [] 105 (v 57)),(63,.cells [i8 (v 21),i64 (v 22),i64 (v 3),i64 (v 24),.str ⟨#[]⟩,.slice (some (eD 52 0)) (v 8) (v 57)] 129)] 43 [101,63] [0,9,11,101,102] vg Tj [(101,.pre false 65 (v 8) [] [] [bC 62] 105 (v 101)),(63,.cells [i8 (v 21),i64 (v 22),i64 (v 3),i64 (v 24),.str ⟨#[]⟩,.slice (some (eD 101 0)) (.plus (.tn (v 8)) (.lit 1)) (v 101)] 129)]:={}
theorem grE:Pc 67 135 vg Tf [((.cmp .lss (v 7) (v 3)),false)] [] [] 14 [] [4,5] [.code .ret] [bC 63,.bF 8] []:={}
structure iI(w:World)(A o:Nat)(n:Nd):Prop where
 c0:w.cell? ⟨A,o,none⟩=some (cY n.op)
 c1:w.cell? ⟨A,o+1,none⟩=some (iV n.n)
 c2:w.cell? ⟨A,o+2,none⟩=some (iV n.kids)
 c3:w.cell? ⟨A,o+3,none⟩=some (iV n.cj)
structure cK(w:World)(s:Value)(l:List Nd):Prop where
 ex:(s=eH∧l=[])∨∃A o c,s=bS A o l.length c∧l.length≤c∧∀i n,l[i]?=some n->iI w A (o+i*4) n
theorem iI.keep{w w':World}{A o:Nat}{n:Nd}(h:iI w A o n)(f:bA w w'):iI w' A o n:=⟨f.cell h.c0,f.cell h.c1,f.cell h.c2,f.cell h.c3⟩
theorem cK.keep{w w':World}{s:Value}{l:List Nd}(h:cK w s l)(f:bA w w'):cK w' s l:=by
 rcases h.ex with h|⟨A,o,c,h1,h2,h3⟩
 ·exact⟨.inl h⟩
 ·exact⟨.inr ⟨A,o,c,h1,h2,fun i n hi=>(h3 i n hi).keep f⟩⟩
def ji(op:Int)(len:Nat):Option (Int×Int×Bool):=
 if op=1∨op=2 then some (0,0,false)
 else if op=3∨op=13∨op=14∨op=15∨op=16 then some (1,1,false)
 else if op=18 then some (1,1,true)
 else if op=4∨op=5∨op=6 then some (2,2,false)
 else if op=12 then some (3,3,false)
 else if op=10∨op=11∨op=17 then some (1,len,true)
 else none
def oX(n:Nd)(root:Bool)(lo hi:Int):Bool:=
 decide (n.kids<lo)||decide (n.kids>hi)||decide (n.cj<0)||!(decide (n.n=0)||decide (n.op=2)||decide (n.op=1)&&decide (n.n>0))||!root&&(decide (n.op=17)||decide (n.op=18))
def eP(g:List Nd->Option (T×List Nd))(names:Bool):Nat->List Nd->Option (List T×List Nd)
 |0,l=>some ([],l)
 |k+1,l=>match g l with
  |none=>none
  |some (t,r)=>if names&&decide (t.n.op≠2)then none else match eP g names k r with
   |none=>none
   |some (ts,r')=>some (t::ts,r')
def dJ:Nat->List Nd->Bool->Option (T×List Nd)
 |0,_,_=>none
 |_+1,[],_=>none
 |f+1,n::l,root=>match ji n.op (l.length+1)with
  |none=>none
  |some (lo,hi,names)=>if oX n root lo hi then none else match eP (fun r=>dJ f r false) names n.kids.toNat l with
   |none=>none
   |some (ts,r)=>some (.nd n ts,r)
theorem tH{g:List Nd->Option (T×List Nd)}{names:Bool}(hg:∀l t r,g l=some (t,r)->r.length≤l.length):∀(k:Nat) (l:List Nd) (ts:List T) (r:List Nd),eP g names k l=some (ts,r)->r.length≤l.length
 |0,l,ts,r,h=>by cases h;exact ay _
 |k+1,l,ts,r,h=>by
  unfold eP at h;split at h
  ·cases h
  ·rename_i t r' e;split at h
   ·cases h
   ·split at h
    ·cases h
    ·rename_i ts' r'' e2;cases h;exact ax (tH hg k _ _ _ e2) (hg _ _ _ e)
theorem x5:∀(f:Nat) (l:List Nd) (root:Bool) (t:T) (r:List Nd),dJ f l root=some (t,r)->r.length≤l.length
 |0,l,root,t,r,h=>by cases h
 |f+1,[],root,t,r,h=>by cases h
 |f+1,n::l,root,t,r,h=>by
  unfold dJ at h;split at h
  ·cases h
  ·split at h
   ·cases h
   ·split at h
    ·cases h
    ·rename_i ts r' e;cases h;have:=tH (fun l t r h=>x5 f l false t r h) _ _ _ _ e;simp only[aC];omega
theorem aa7:under? Tryz.prog 48=.ok (.slice 77):=by kernel_rfl
theorem aa8:sizeOf? Tryz.prog 77=.ok 4:=by kernel_rfl
theorem Ra{t elem size:Nat}(hU:under? Tryz.prog t=.ok (.slice elem))(hS:sizeOf? Tryz.prog elem=.ok size){off n c k:Nat}(h:k≤n)(hn:n≤c):sliceOp? Tryz.prog t (.slice (some ⟨.dyn 50,.lit (Int.ofNat off)⟩) (.lit (Int.ofNat n)) (.lit (Int.ofNat c))) (some (.int .i64 (.lit (Int.ofNat k)))) none none=.ok (.slice (if c=k then some ⟨.dyn 50,.lit (Int.ofNat off)⟩else some ⟨.dyn 50,.lit (Int.ofNat (off+k*size))⟩) (.lit (Int.ofNat (n-k))) (.lit (Int.ofNat (c-k)))):=by unfold sliceOp?;rw[hU];simp only[bind,Except.bind,litNat?,bounds?,bound?,high?,hS,pure,Except.pure];simp[h,hn,AA.add,zb]
section
variable {w:World}{cs:List Frame}{fr:Frame}
theorem H8{E:Value->World->Prop}{t elem size:Nat}(hU:under? Tryz.prog t=.ok (.slice elem))(hS:sizeOf? Tryz.prog elem=.ok size){A off n c k:Nat}(h:k≤n)(hn:n≤c){Q:Value->World->Prop}(hq:∀o',(n=k∨o'=off+k*size)->Q (bS A o' (n-k) (c-k)) w):
  wq Tryz.prog (fun _=>True) E (Instr.sliceAt t (bS A off n c) (some (iV k)) none none) Q w:=by
 let K:Ctx:=⟨Tryz.prog,{},fun _=>True,fun _=>True,True,fun _ _=>False⟩;let ρ:Env:=bO [] [(50,A)] [];refine kJ (K:=K) (ρ:=ρ) (w:=w) (Ra (off:=off) (k:=k) hU hS h hn) (Q:=Q) ?_;by_cases hc:c=k
 ·rw[if_pos hc];exact hq off (.inl (by omega))
 ·rw[if_neg hc];exact hq (off+k*size) (.inr rfl)
end
abbrev aa9:AV:=sA 50 53 51 52
noncomputable abbrev aa_(op:AV):List (AA×AV):=[(⟨(.dyn 50),(v 53)⟩,op),(⟨(.dyn 50),(.plus (.tn (v 53)) (.lit 1))⟩,i64 (v 2)),(⟨(.dyn 50),(.plus (.tn (v 53)) (.lit 2))⟩,i64 (v 3)),(⟨(.dyn 50),(.plus (.tn (v 53)) (.lit 3))⟩,i64 (v 4))]
noncomputable abbrev Rb(op:AV):List (AA×AV):=[(eD 64 0,op),(eD 64 1,i64 (v 2)),(eD 64 2,i64 (v 3)),(eD 64 3,i64 (v 4))]
abbrev af6:List (BE×Bool):=lC
def oY:Value:=.tuple #[.pointer none,eH]
section
variable {w:World}{cs:List Frame}{fr:Frame}{nd:Nd}{A o N c:Nat}{root:Bool}
noncomputable def Ks(nd:Nd)(A o N c:Nat)(root:Bool):Env:=bO [(51,N),(52,c),(53,o),(1,nd.op),(2,nd.n),(3,nd.kids),(4,nd.cj)] [(50,A)] [(1,.bool root)]
def Tk(nd:Nd)(A o N c:Nat)(root:Bool)(w:World)(cs:List Frame)(r:Option (Int×Int×Bool))(g':Goroutine)(w':World):Prop:=match r with
 |none=>∃fr',g'=G fr' cs∧bA w w'∧de 67 fr' w' oY
 |some (lo,hi,nm)=>∃fr' X,g'=G fr' cs∧bA w w'∧iI w' X 0 nd∧FA 67 135 [.code (ki 63)] [] .normal [(0,bS A o N c),(1,.bool root),(6,bK X),(7,iV lo),(8,iV hi),(9,.bool nm)] fr'
theorem jM{n:Nat}{ks:List Nat}{lo hi:IE}{nm:Bool}{k LO HI:Int}(P:Pc 67 135 [.code (bD Tryz.f67)] [(0,aa9),(1,.bF 1)] af6 (aa_ (i8 (.lit k))) [] n ks [0,1,6,7,8,9] [.code (ki 63)] [aa9,.bF 1,bC 100,i64 lo,i64 hi,.bool (.lit nm)] [(100,.cells [i8 (.lit k),i64 (v 2),i64 (v 3),i64 (v 4)] 77)])
 (hk:nd.op=k)(hN:0<N)(h:iI w A o nd)(hlo:∀I B,lo.ev (dc (Ks nd A o N c root) I B)=LO)(hhi:∀I B,hi.ev (dc (Ks nd A o N c root) I B)=HI)(hf:FA 67 135 [.code (bD Tryz.f67)] [] .normal [(0,bS A o N c),(1,.bool root)] fr){r:Option (Int×Int×Bool)}(hr:r=some (LO,HI,nm)):
  Goes (G fr cs) w (Tk nd A o N c root w cs r):=by
 subst hr hk;refine(P.go (Ks nd A o N c root) hf rfl ⟨decide_eq_false (by show ¬(((N:Nat):Int)=0);omega),decide_eq_true (by show(0:Int)<((N:Nat):Int);omega),trivial⟩ ⟨h.c0,h.c1,h.c2,h.c3,trivial⟩).mono fun g1 w1 hd=>?_;obtain⟨I,B,bR,rfl,f1,F1,bl,_⟩:=hd;have hX:=bl.1.2;refine⟨bR,B 100,rfl,f1,⟨bG hX (i:=0) rfl,bG hX (i:=1) rfl,bG hX (i:=2) rfl,bG hX (i:=3) rfl⟩,?_⟩;rw[<-hlo I B,<-hhi I B];exact F1
theorem aa'(hN:0<N)(h:iI w A o nd)(hf:FA 67 135 [.code (bD Tryz.f67)] [] .normal [(0,bS A o N c),(1,.bool root)] fr):Goes (G fr cs) w (Tk nd A o N c root w cs (ji nd.op N)):=by
 have no:∀{n:Int},nd.op≠n->(decide (nd.op=n))=false:=fun h=>decide_eq_false h;have L0:∀{x:Int} (I:Nat->Int) (B:Nat->Nat),(IE.lit x).ev (dc (Ks nd A o N c root) I B)=x:=fun _ _=>rfl;have L1:∀(I:Nat->Int) (B:Nat->Nat),(IE.tn (v 51)).ev (dc (Ks nd A o N c root) I B)=(N:Int):=fun _ _=>rfl;by_cases e1:nd.op=1
 ·exact jM afV e1 hN h L0 L0 hf (by rw[e1];rfl)
 by_cases e2:nd.op=2
 ·exact jM afW e2 hN h L0 L0 hf (by rw[e2];rfl)
 by_cases e3:nd.op=3
 ·exact jM afX e3 hN h L0 L0 hf (by rw[e3];rfl)
 by_cases BI:nd.op=13
 ·exact jM aaY BI hN h L0 L0 hf (by rw[BI];rfl)
 by_cases Nx:nd.op=14
 ·exact jM aaZ Nx hN h L0 L0 hf (by rw[Nx];rfl)
 by_cases Ny:nd.op=15
 ·exact jM aa0 Ny hN h L0 L0 hf (by rw[Ny];rfl)
 by_cases e16:nd.op=16
 ·exact jM aa1 e16 hN h L0 L0 hf (by rw[e16];rfl)
 by_cases e18:nd.op=18
 ·exact jM aa2 e18 hN h L0 L0 hf (by rw[e18];rfl)
 by_cases e4:nd.op=4
 ·exact jM afY e4 hN h L0 L0 hf (by rw[e4];rfl)
 by_cases e5:nd.op=5
 ·exact jM afZ e5 hN h L0 L0 hf (by rw[e5];rfl)
 by_cases e6:nd.op=6
 ·exact jM af0 e6 hN h L0 L0 hf (by rw[e6];rfl)
 by_cases BJ:nd.op=12
 ·exact jM aa3 BJ hN h L0 L0 hf (by rw[BJ];rfl)
 by_cases p_:nd.op=10
 ·exact jM aa4 p_ hN h L0 L1 hf (by rw[p_];rfl)
 by_cases zB:nd.op=11
 ·exact jM aa5 zB hN h L0 L1 hf (by rw[zB];rfl)
 by_cases e17:nd.op=17
 ·exact jM aa6 e17 hN h L0 L1 hf (by rw[e17];rfl)
 have er:ji nd.op N=none:=by simp[ji, *]
 rw[er];refine(af1.go (Ks nd A o N c root) hf rfl ⟨decide_eq_false (by show ¬(((N:Nat):Int)=0);omega),decide_eq_true (by show(0:Int)<((N:Nat):Int);omega),no e1,no e2,no e3,no BI,no Nx,no Ny,no e16,no e18,no e4,no e5,no e6,no BJ,no p_,no zB,no e17,trivial⟩ ⟨h.c0,h.c1,h.c2,h.c3,trivial⟩).trans fun g1 w1 hd=>?_;obtain⟨I,B,bR,rfl,f1,F1,_⟩:=hd;refine(jo H6 F1 rfl rfl).mono fun g6 w6 dz=>?_;obtain⟨dK,rfl,rfl,hL⟩:=dz;exact⟨dK,rfl,f1,hL⟩
noncomputable abbrev GrH:List Item:=vg
theorem VL{X:Nat}{lo hi:Int}{nm:Bool}(hN:0<N)(hNc:N≤c)(hX:iI w X 0 nd)(hf:FA 67 135 [.code (ki 63)] [] .normal [(0,bS A o N c),(1,.bool root),(6,bK X),(7,iV lo),(8,iV hi),(9,.bool nm)] fr):
  Goes (G fr cs) w fun g' w'=>(oX nd root lo hi=true∧∃fr',g'=G fr' cs∧bA w w'∧de 67 fr' w' oY)∨(oX nd root lo hi=false∧∃fr' P o',g'=G fr' cs∧bA w w'∧w.heap.size≤P∧(cy.obj 129 [cY nd.op,iV nd.n,iV nd.kids,iV nd.cj,.string ⟨#[]⟩,eH]).at Tryz.prog w' P∧(N=1∨o'=o+4)∧FA 67 135 GrH [] .normal [(0,bS A o' (N-1) (c-1)),(9,.bool nm),(11,bK P),(101,iV nd.kids),(102,iV 0)] fr'):=by
 obtain⟨ρ,hρ⟩:∃ρ:Env,ρ=bO [(51,N),(52,c),(53,o),(1,nd.op),(2,nd.n),(3,nd.kids),(4,nd.cj),(5,lo),(6,hi)] [(50,A),(64,X)] [(1,.bool root),(9,.bool nm)]:=⟨_,rfl⟩;have hm:∀{w':World},bA w w'->cq ρ w' (Rb (i8 (v 1))):=fun f=>by rw[hρ];exact⟨f.cell hX.c0,f.cell hX.c1,f.cell hX.c2,f.cell hX.c3,trivial⟩
 refine((grB (decide (nd.n=0)) (decide (nd.op=2)) (decide (nd.op=1)) (decide (nd.n>0))).go ρ hf (by rw[hρ];rfl) ⟨by rw[hρ];rfl,by rw[hρ];rfl,by rw[hρ];rfl,by rw[hρ];rfl,trivial⟩ (hm (bA.refl w))).trans fun g1 w1 hd=>?_;obtain⟨I,B,bR,rfl,f1,F1,_⟩:=hd;rw[hρ]at F1;refine((grG root (decide (nd.n=0)||decide (nd.op=2)||decide (nd.op=1)&&decide (nd.n>0)) (decide (nd.kids<lo)) (decide (nd.kids>hi)) (decide (nd.cj<0)) (decide (nd.op=17)) (decide (nd.op=18))).go ρ F1 (by rw[hρ];rfl) ⟨by rw[hρ];rfl,by rw[hρ];rfl,by rw[hρ];rfl,by rw[hρ];rfl,by rw[hρ];rfl,trivial⟩ (hm f1)).trans fun g2 w2 b_=>?_;obtain⟨I,B,cE,rfl,f2,F2,_⟩:=b_;rw[hρ]at F2;have lY:FA 67 135 H7 [] .normal [(0,bS A o N c),(1,.bool root),(6,bK X),(9,.bool nm),(94,.bool (oX nd root lo hi))] cE:=F2;cases hb:oX nd root lo hi with
 |true=>rw[hb]at lY;refine(grX.go ρ lY (by rw[hρ];rfl) trivial trivial).trans fun g3 w3 cv=>?_;obtain⟨I,B,cF,rfl,f3,F3,_⟩:=cv;refine(jo H6 F3 rfl rfl).mono fun g6 w6 dz=>?_;obtain⟨dK,rfl,rfl,hL⟩:=dz;exact .inl ⟨rfl,dK,rfl,f1.trans (f2.trans f3),hL⟩
 |false=>
  rw[hb]at lY;have f12:=f1.trans f2;refine(grY.go ρ lY (by rw[hρ];rfl) trivial (hm f12)).trans fun g3 w3 cv=>?_;obtain⟨I,B,cF,rfl,f3,F3,bl,_⟩:=cv;rw[hρ]at F3 bl;refine(grZ.go (R:=fun x w'=>(∃o',(N=1∨o'=o+4)∧x=bS A o' (N-1) (c-1))∧w'=w3) (bO [] [] []) F3 (by decide) rfl fun tm ir x' e1 e2=>?_).trans fun g4 w4 dh=>?_
  ·unfold execOp;simp only[e1,bH,av,aM];rw[ir 98 (bS A o N c) rfl];exact H8 aa7 aa8 (k:=1) hN hNc fun o' ho'=>⟨_,rfl,⟨o',ho',rfl⟩,rfl⟩
  obtain⟨eO,x,rfl,⟨⟨o',ho',rfl⟩,rfl⟩,F4⟩:=dh;have gP:w.heap.size≤B 100:=ax f12.size bl.1.1;have hP:(cy.obj 129 [cY nd.op,iV nd.n,iV nd.kids,iV nd.cj,.string ⟨#[]⟩,eH]).at Tryz.prog w4 (B 100):=bl.1.2;refine(grH.go (bO [(3,nd.kids)] [(63,B 100),(64,X)] [(9,.bool nm),(8,bS A o' (N-1) (c-1))]) F4 rfl trivial ⟨(f12.trans f3).cell hX.c2,trivial⟩).mono fun g5 w5 eg=>?_;obtain⟨I,B',gn,rfl,f5,F5,_⟩:=eg;exact .inr ⟨rfl,gn,B 100,o',rfl,f12.trans (f3.trans f5),gP,bP hP f5,ho',F5⟩
end
theorem Nz(inf:TypeInfo)(hi:Tryz.prog.info? 105=some inf):inf.size=1:=by
 have e2:(Tryz.prog.info? 105).map (fun x=>x.size)=some 1:=by kernel_rfl
 rw[hi]at e2;exact au e2
theorem lZ{a o n c a' o' n' c':Nat}(h:bS a o n c=bS a' o' n' c'):a=a':=congrArg (fun v=>match v with|.slice (some x) _ _=>x.block|_=>0) h
def uM(w:World)(base P:Nat)(sl:Value)(ps:List Nat):Prop:=(sl=eH∧ps=[])∨∃Bk c,sl=bS Bk 0 ps.length c∧base≤Bk∧Bk≠P∧ps≠[]∧(cy.vec 105 c (ps.map bK)).at Tryz.prog w Bk
def NA(base P:Nat)(sl:Value)(x:Nat):Prop:=base≤x∧x≠P∧∀Bk n c,sl=bS Bk 0 n c->x≠Bk
theorem uM.keep{w w':World}{base P:Nat}{sl:Value}{ps:List Nat}(h:uM w base P sl ps)(f:bA w w'):uM w' base P sl ps:=by
 rcases h with h|⟨Bk,c,h1,h2,h3,h4,h5⟩
 ·exact .inl h
 ·exact .inr ⟨Bk,c,h1,h2,h3,h4,bP h5 f⟩
abbrev Ar(nd:Nd)(sl:Value):cy:=.obj 129 [cY nd.op,iV nd.n,iV nd.kids,iV nd.cj,.string ⟨#[]⟩,sl]
noncomputable abbrev GrT(l:List Nat):List Item:=.inRegion (opsOf (ki 2095716)) l::[.code (ki 2095717),.code (ki 1047859),.inBlock 2,.code (ki 130983),.inLoop (ki 16372),.inBlock 1,.code (ki 2047)]
noncomputable def ZM(nd:Nd)(i n c P p Bk op:Int)(s xs:Value):Env:=bO [(1,op),(21,nd.op),(22,nd.n),(3,nd.kids),(24,nd.cj),(7,i),(8,n),(57,c)] [(63,P.toNat),(62,p.toNat),(52,Bk.toNat)] [(8,s),(65,xs)]
noncomputable abbrev BK:List (Nat×bQ):=Nv
noncomputable abbrev uN:List (Nat×bQ):=[(52,.pre false 65 (v 8) [] [] [] 105 (v 57)),(63,.cells [i8 (v 21),i64 (v 22),i64 (v 3),i64 (v 24),.str ⟨#[]⟩,.slice (some (eD 52 0)) (v 8) (v 57)] 129)]
noncomputable abbrev BL:List (Nat×bQ):=[(101,.row [bC 62] 105 (v 101)),(63,.cells [i8 (v 21),i64 (v 22),i64 (v 3),i64 (v 24),.str ⟨#[]⟩,.slice (some (eD 101 0)) (.lit 1) (v 101)] 129)]
noncomputable abbrev BM:List (Nat×bQ):=[(101,.pre false 65 (v 8) [] [] [bC 62] 105 (v 101)),(63,.cells [i8 (v 21),i64 (v 22),i64 (v 3),i64 (v 24),.str ⟨#[]⟩,.slice (some (eD 101 0)) (.plus (.tn (v 8)) (.lit 1)) (v 101)] 129)]
section
variable {w w0:World}{cs:List Frame}{fr:Frame}{nd:Nd}{base P p i:Nat}{nm:Bool}{s sl:Value}{ps:List Nat}{ts:List T}{t:T}
theorem Rc(ZN:base≤P)(hb:base≤w.heap.size)(hP:(Ar nd sl).at Tryz.prog w P)(hk:uM w base P sl ps)(ht:dQ w (NA base P sl) ps ts)(hpt:fU w (NA base P sl) p t)(hop:nm=true->t.n.op=2)(hlen:ps.length≤1000000)(hi:i≤1000000)
 (hf:FA 67 135 (GrT [2,3,4,5,6]) [] .normal [(9,.bool nm),(11,bK P),(101,iV nd.kids),(102,iV i),(106,.tuple #[bK p,s])] fr):
  Goes (G fr cs) w fun g' w'=>∃fr' sl',g'=G fr' cs∧bU (fun x=>base≤x) w w'∧(Ar nd sl').at Tryz.prog w' P∧uM w' base P sl' (ps++[p])∧dQ w' (NA base P sl') (ps++[p]) (ts++[t])∧FA 67 135 GrH [] .normal [(0,s),(9,.bool nm),(11,bK P),(101,iV nd.kids),(102,iV ((i+1:Nat):Int))] fr':=by
 obtain⟨hpU,Re⟩:NA base P sl p∧w.cell? ⟨p,0,none⟩=some (cY t.n.op):=by
  cases hpt with
  |mk b n ks ps s u c0=>exact⟨u,c0⟩
 rcases hk with⟨rfl,rfl⟩|⟨Bk,c,rfl,hBk,hBP,hne,hv⟩
 ·obtain⟨ρ,hρ⟩:∃ρ:Env,ρ=ZM nd i 0 0 P p 0 t.n.op s undef:=⟨_,rfl⟩;have hgo:Goes (G fr cs) w fun g' w'=>∃I B fr',g'=G fr' cs∧bU (k_ ρ w BK) w w'∧FA 67 135 GrH [] .normal [(0,s),(9,.bool nm),(11,bK P),(101,iV nd.kids),(102,iV (iz .add .i64 i 1))] fr'∧xX (dc ρ I B) (k_ ρ w BK) w' BL∧∀x∈BL,∀y∈BL,(dc ρ I B).b x.1=(dc ρ I B).b y.1->x.1=y.1:=by
   subst hρ;cases nm with
   |true=>exact af2.Df (ZM nd i 0 0 P p 0 t.n.op s undef) hf rfl ⟨by show(!decide (t.n.op=2))=false;rw[hop rfl];rfl,trivial⟩ ⟨Re,trivial⟩ (fun q hq x hx=>by obtain rfl:=ah.1 hq;obtain rfl:=ah.1 hx;exact fun e=>hpU.2.1 e.symm) ⟨⟨_,hP,rfl,rfl⟩,trivial⟩ eS
   |false=>exact af3.Df (ZM nd i 0 0 P p 0 t.n.op s undef) hf rfl trivial trivial (nofun) ⟨⟨_,hP,rfl,rfl⟩,trivial⟩ eS
  refine hgo.mono fun g' w' hd=>?_;obtain⟨I,B,fr',rfl,kp,F,bl,inj⟩:=hd;have b63:(dc ρ I B).b 63=P:=by rw[hρ];rfl
  have e63:ρ.b 63=P:=by rw[hρ];rfl
  have own:∀x,k_ ρ w BK x->w.heap.size≤x∨x=P:=fun x hx=>by
   rcases hx with h|⟨y,hy,e⟩
   ·exact .inl h
   ·obtain rfl:=ah.1 hy;exact .inr (e.symm.trans e63)
  obtain⟨⟨o1,v1⟩,⟨o2,v2⟩,_⟩:=bl;have hB:(cy.vec 105 (I 101).toNat [bK p]).at Tryz.prog w' (B 101):=by rw[hρ]at v1;exact v1
  have hP':(Ar nd (bS (B 101) 0 1 (I 101).toNat)).at Tryz.prog w' P:=by rw[b63]at v2;rw[hρ]at v2;exact v2
  have hne:B 101≠P:=fun e=>by have:=inj _ (aj ..) _ (af _ (ah.2 rfl)) (by rw[b63];exact e);cases this
  have LQ:w.heap.size≤B 101:=by
   rcases own _ o1 with h|h
   ·exact h
   ·exact(hne h).elim
  refine⟨fr',_,rfl,kp.mono fun x hx=>?_,hP',.inr ⟨B 101,(I 101).toNat,rfl,ax hb LQ,hne,by simp,hB⟩,?_,by rw[<-inc (i:=i) (by omega)];exact F⟩
  ·rcases own x hx with h|rfl
   ·exact ax hb h
   ·exact ZN
  ·have hU:∀x,NA base P eH x->x<w.heap.size->¬k_ ρ w BK x∧NA base P (bS (B 101) 0 1 (I 101).toNat) x:=fun x hx hlt=>⟨fun hh=>by
    rcases own x hh with h|h
    ·omega
    ·exact hx.2.1 h,hx.1,hx.2.1,fun Bk n c e=>by
    have:B 101=Bk:=lZ e;omega⟩
   exact(ht.e_ kp hU).snoc (hpt.e_ kp hU)
 ·obtain⟨ρ,hρ⟩:∃ρ:Env,ρ=ZM nd i ps.length c P p Bk t.n.op s (.agg (ps.map bK).toArray):=⟨_,rfl⟩;have NB:ρ.b 52=Bk:=by rw[hρ];rfl
  have e63:ρ.b 63=P:=by rw[hρ];rfl
  have hO:Gh ρ w uN:=by refine⟨⟨.vec 105 c (ps.map bK),by rw[NB];exact hv,rfl,by rw[hρ];rfl,fun inf rS=>?_,(nofun),by rw[hρ];rfl⟩,⟨Ar nd (bS Bk 0 ps.length c),by rw[e63];exact hP,rfl,by rw[hρ];rfl⟩,trivial⟩;rw[Nz inf rS,aD,hρ];show ps.length=((ps.length:Nat):Int).toNat*1;omega
  have iK:(uN.map fun p=>ρ.b p.1).Nodup:=by show[ρ.b 52,ρ.b 63].Nodup;rw[NB,e63];exact List.nodup_cons.2 ⟨fun h=>hBP (ah.1 h),eS⟩
  have hap:(BE.cmp .leq (.plus (.tn (v 8)) (.lit 1)) (.lit 1048576)).ev ρ=true:=by rw[hρ];show decide ((((ps.length:Int).toNat:Nat):Int)+1≤1048576)=true;exact decide_eq_true (by omega)
  have hgo:Goes (G fr cs) w fun g' w'=>∃I B fr',g'=G fr' cs∧bU (k_ ρ w uN) w w'∧FA 67 135 GrH [] .normal [(0,s),(9,.bool nm),(11,bK P),(101,iV nd.kids),(102,iV (iz .add .i64 i 1))] fr'∧xX (dc ρ I B) (k_ ρ w uN) w' BM∧∀x∈BM,∀y∈BM,(dc ρ I B).b x.1=(dc ρ I B).b y.1->x.1=y.1:=by
   subst hρ;cases nm with
   |true=>exact af4.Df (ZM nd i ps.length c P p Bk t.n.op s (.agg (ps.map bK).toArray)) hf rfl ⟨hap,by show(!decide (t.n.op=2))=false;rw[hop rfl];rfl,trivial⟩ ⟨Re,trivial⟩ (fun q hq x hx=>by
     obtain rfl:=ah.1 hq;have hx':x.1=52∨x.1=63:=by
      simp only[ai,aA,or_false]at hx;rcases hx with rfl|rfl
      ·exact .inl rfl
      ·exact .inr rfl
     rcases hx' with h|h<;>rw[h]
     ·exact fun e=>hpU.2.2 Bk _ _ rfl e.symm
     ·exact fun e=>hpU.2.1 e.symm) hO iK
   |false=>exact af5.Df (ZM nd i ps.length c P p Bk t.n.op s (.agg (ps.map bK).toArray)) hf rfl ⟨hap,trivial⟩ trivial (nofun) hO iK
  refine hgo.mono fun g' w' hd=>?_;obtain⟨I,B,fr',rfl,kp,F,bl,inj⟩:=hd;have b63:(dc ρ I B).b 63=P:=by rw[hρ];rfl
  have own:∀x,k_ ρ w uN x->w.heap.size≤x∨x=P∨x=Bk:=fun x hx=>by
   rcases hx with h|⟨y,hy,e⟩
   ·exact .inl h
   ·simp only[ai,aA,or_false]at hy;rcases hy with rfl|rfl
    ·exact .inr (.inr (e.symm.trans NB))
    ·exact .inr (.inl (e.symm.trans e63))
  obtain⟨⟨o1,v1⟩,⟨o2,v2⟩,_⟩:=bl;have hB:(cy.vec 105 (I 101).toNat ((ps++[p]).map bK)).at Tryz.prog w' (B 101):=by rw[hρ]at v1;rw[bu];exact v1
  have hn:((((ps.length:Int).toNat:Nat):Int)+1).toNat=(ps++[p]).length:=by rw[an,bp];omega
  have hP':(Ar nd (bS (B 101) 0 (ps++[p]).length (I 101).toNat)).at Tryz.prog w' P:=by rw[b63]at v2;rw[hρ]at v2;rw[<-hn];exact v2
  have hne:B 101≠P:=fun e=>by have:=inj _ (aj ..) _ (af _ (ah.2 rfl)) (by rw[b63];exact e);cases this
  have LQ:w.heap.size≤B 101∨B 101=Bk:=by
   rcases own _ o1 with h|h|h
   ·exact .inl h
   ·exact(hne h).elim
   ·exact .inr h
  refine⟨fr',_,rfl,kp.mono fun x hx=>?_,hP',.inr ⟨B 101,(I 101).toNat,rfl,?_,hne,by simp,hB⟩,?_,by rw[<-inc (i:=i) (by omega)];exact F⟩
  ·rcases own x hx with h|rfl|rfl
   ·exact ax hb h
   ·exact ZN
   ·exact hBk
  ·rcases LQ with h|h
   ·exact ax hb h
   ·rw[h];exact hBk
  ·have hU:∀x,NA base P (bS Bk 0 ps.length c) x->x<w.heap.size->¬k_ ρ w uN x∧NA base P (bS (B 101) 0 (ps++[p]).length (I 101).toNat) x:=fun x hx hlt=>⟨fun hh=>by
    rcases own x hh with h|h|h
    ·omega
    ·exact hx.2.1 h
    ·exact hx.2.2 Bk _ _ rfl h,hx.1,hx.2.1,fun Bk' n' c' e=>by
    have:B 101=Bk':=lZ e;subst this;rcases LQ with h|h
    ·omega
    ·rw[h];exact hx.2.2 Bk _ _ rfl⟩
   exact(ht.e_ kp hU).snoc (hpt.e_ kp hU)
end
theorem x6{op:Int}{len:Nat}{lo hi:Int}{nm:Bool}(e:ji op len=some (lo,hi,nm)):0≤lo∧(hi≤3∨hi=len):=by
 unfold ji at e
 repeat' split at e
 all_goals cases e
 all_goals exact⟨by omega,by omega⟩
def vh(base:Nat)(s:Value)(l:List Nd)(w':World)(v:Value)(r:Option (T×List Nd)):Prop:=match r with
 |none=>v=oY
 |some (t,rest)=>∃p s',v=.tuple #[bK p,s']∧fU w' (fun x=>base≤x) p t∧∀W,cK W s l->cK W s' rest
def BN(base P:Nat)(nd:Nd)(s:Value)(l:List Nd)(ts:List T)(w':World)(v:Value)(r:Option (List T×List Nd)):Prop:=match r with
 |none=>v=oY
 |some (ts',rest)=>∃s',v=.tuple #[bK P,s']∧fU w' (fun x=>base≤x) P (.nd nd (ts++ts'))∧∀W,cK W s l->cK W s' rest
theorem cw{w0 w w':World}(h:bA w0 w)(k:bU (fun x=>w0.heap.size≤x) w w'):bA w0 w':=bU.trans h k
section
variable {w w0:World}{cs:List Frame}{fr:Frame}
theorem x7{k:List Item}{w0 w:World}{P:Value->Prop}(fw:bA w0 w)(hf:FA 67 135 (.code .ret::k) [] .normal [(4,.pointer none),(5,eH)] fr)(hP:P oY):Goes (G fr cs) w fun g' w'=>∃fr' v,g'=G fr' cs∧bA w0 w'∧de 67 fr' w' v∧P v:=by refine(jo H6 hf rfl rfl).mono fun g6 w6 dz=>?_;obtain⟨dK,rfl,rfl,hL⟩:=dz;exact⟨dK,_,rfl,fw,hL,hP⟩
theorem H9{f:Nat}{names:Bool}(IH:∀{w:World} {s:Value} {l:List Nd},cK w s l->l.length<f->l.length≤1000000->dV 67 #[s,.bool false] w fun v w'=>bA w w'∧vh w.heap.size s l w' v (dJ f l false)){P:Nat}{nd:Nd}(ZN:w0.heap.size≤P)(hkb:nd.kids≤1000000):
  ∀(m i:Nat) {w:World} {cs:List Frame} {fr:Frame} {s sl:Value} {l:List Nd} {ps:List Nat} {ts:List T},(i:Int)+m=nd.kids->l.length<f->l.length≤1000000->bA w0 w->cK w0 s l->(Ar nd sl).at Tryz.prog w P->uM w w0.heap.size P sl ps->dQ w (NA w0.heap.size P sl) ps ts->ps.length=i->
   FA 67 135 GrH [] .normal [(0,s),(9,.bool names),(11,bK P),(101,iV nd.kids),(102,iV i)] fr->
   Goes (G fr cs) w fun g' w'=>∃fr' v,g'=G fr' cs∧bA w0 w'∧de 67 fr' w' v∧BN w0.heap.size P nd s l ts w' v (eP (fun r=>dJ f r false) names m l)
 |0,i,w,cs,fr,s,sl,l,ps,ts,hi,hlf,hl,fw,hn,hP,hk,ht,hpi,hf=>by
  refine(grE.go (bO [(3,nd.kids),(7,i)] [(63,P)] [(8,s),(9,.bool names)]) hf rfl ⟨decide_eq_false (by show ¬((i:Int)<nd.kids);omega),trivial⟩ trivial).trans fun g1 w1 hd=>?_;obtain⟨I,B,bR,rfl,f1,F1,_⟩:=hd;refine(jo H6 F1 rfl rfl).mono fun g6 w6 dz=>?_;obtain⟨dK,rfl,rfl,hL⟩:=dz;refine⟨dK,_,rfl,fw.trans f1,hL,s,rfl,?_,fun W h=>h⟩;rw[aV];have hP1:=bP hP f1;have hs:xZ w6 (fun x=>w0.heap.size≤x) sl ps:=by
   rcases hk.keep f1 with⟨h1,h2⟩|⟨Bk,c,h1,h2,h3,h4,h5⟩
   ·exact⟨.inl ⟨h1,h2⟩⟩
   ·refine⟨.inr ⟨Bk,0,c,h2,cy.jR h5,h1,?_,fun j p hj=>?_⟩⟩
    ·obtain⟨arr,rest,inf,e1,e2,e3,e4⟩:=h5;have:=congrArg aR e3;rw[Nz inf e2]at e4;rw[an,aD]at this;have:arr.size=arr.toList.length:=rfl;omega
    ·rw[aF];refine cy.cS h5 ?_;show(ps.map bK)[j]?=some (bK p);rw[aL,hj];rfl
  exact .mk P nd ts ps sl ZN (bG hP1 (i:=0) rfl) (bG hP1 (i:=1) rfl) (bG hP1 (i:=2) rfl) (bG hP1 (i:=3) rfl) (bG hP1 (i:=5) rfl) hs (ht.e_ f1 fun x u lt=>⟨fun hh=>by omega,u.1⟩)
 |m+1,i,w,cs,fr,s,sl,l,ps,ts,hi,hlf,hl,fw,hn,hP,hk,ht,hpi,hf=>by
  refine(grL.go (bO [(3,nd.kids),(7,i)] [(63,P)] [(8,s),(9,.bool names)]) hf rfl ⟨decide_eq_true (by show((i:Int)<nd.kids);omega),trivial⟩ trivial).trans fun g1 w1 hd=>?_;obtain⟨I,B,bR,rfl,f1,F1,_⟩:=hd;have Dr:=fw.trans f1;refine(grM.go (bO [] [] [(105,s)]) (Q:=fun v w'=>vh w1.heap.size s l w' v (dJ f l false)) F1 rfl fun w' f2=>(IH (hn.keep (Dr.trans f2)) hlf hl).mono fun v w3 O=>⟨O.1,?_⟩).trans fun g2 w2 b_=>?_
  ·unfold vh at O⊢;cases e:dJ f l false with
   |none=>rw[e]at O;exact O.2
   |some x=>rw[e]at O;obtain⟨_,p,s',h1,h2,h3⟩:=O;exact⟨p,s',h1,h2.e_ (bA.refl _) fun x u lt=>⟨fun hh=>by omega,ax f2.size u⟩,h3⟩
  obtain⟨cE,vv,rfl,f2,hO,F2⟩:=b_;have fw2:=Dr.trans f2;unfold eP;unfold vh at hO;cases e:dJ f l false with
  |none=>
   rw[e]at hO;have hO:vv=oY:=hO;subst hO;cases names with
   |true=>refine(Q_.go (bO [(3,nd.kids),(7,i)] [(63,P)] [(8,eH)]) F2 rfl trivial trivial).trans fun g3 w3 cv=>?_;obtain⟨I,B,cF,rfl,f3,F3,_⟩:=cv;refine(x7 (P:=fun v=>v=oY) (fw2.trans f3) F3 rfl).mono fun g4 w4 dh=>?_;obtain⟨eO,v,h1,h2,h3,h4⟩:=dh;exact⟨eO,v,h1,h2,h3,h4⟩
   |false=>refine(Nt.go (bO [(3,nd.kids),(7,i)] [(63,P)] [(8,eH)]) F2 rfl trivial trivial).trans fun g3 w3 cv=>?_;obtain⟨I,B,cF,rfl,f3,F3,_⟩:=cv;refine(x7 (P:=fun v=>v=oY) (fw2.trans f3) F3 rfl).mono fun g4 w4 dh=>?_;obtain⟨eO,v,h1,h2,h3,h4⟩:=dh;exact⟨eO,v,h1,h2,h3,h4⟩
  |some x=>
   obtain⟨t,r⟩:=x;rw[e]at hO;obtain⟨p,s',rfl,hpt,qa⟩:=hO;have hlen:=x5 _ _ _ _ _ e;by_cases NC:(names&&decide (t.n.op≠2))=true
   ·have VM:names=true:=by
     cases names with
     |true=>rfl
     |false=>cases NC
    subst VM;have hop:t.n.op≠2:=by simpa using NC
    have Re:w2.cell? ⟨p,0,none⟩=some (cY t.n.op):=by
     cases hpt with
     |mk b n ks ps s u c0=>exact c0
    refine(grO.go (bO [(1,t.n.op),(3,nd.kids),(7,i)] [(63,P),(62,p)] [(8,s')]) F2 rfl ⟨by show(!decide (t.n.op=2))=true;rw[decide_eq_false hop];rfl,trivial⟩ ⟨Re,trivial⟩).trans fun g3 w3 cv=>?_;obtain⟨I,B,cF,rfl,f3,F3,_⟩:=cv;refine(x7 (P:=fun v=>v=oY) (fw2.trans f3) F3 rfl).mono fun g4 w4 dh=>?_;obtain⟨eO,v,h1,h2,h3,h4⟩:=dh;refine⟨eO,v,h1,h2,h3,?_⟩;dsimp only;rw[if_pos NC];exact h4
   ·have hop:names=true->t.n.op=2:=fun h=>by
     subst h;simpa using NC
    dsimp only;rw[if_neg NC];have hPk:=bP hP (f1.trans f2);have hkk:=hk.keep (f1.trans f2);have VN:=ht.keep (f1.trans f2);have arv:P<w1.heap.size:=cy.jR (bP hP f1);have hoff:∀x,w1.heap.size≤x->NA w0.heap.size P sl x:=fun x hx=>⟨ax Dr.size hx,by omega,fun Bk n c e'=>by
     rcases hk.keep f1 with⟨h1,h2⟩|⟨Bk',c',h1,h2,h3,h4,h5⟩
     ·rw[h1]at e';cases e'
     ·have:=cy.jR h5;have:Bk'=Bk:=lZ (h1.symm.trans e');omega⟩
    have af':fU w2 (NA w0.heap.size P sl) p t:=hpt.e_ (bA.refl _) fun x u lt=>⟨fun hh=>by omega,hoff x u⟩;refine(Rc (s:=s') (i:=i) ZN (ax fw2.size (ay _)) hPk hkk VN af' hop (by omega) (by omega) (F2.only rfl)).trans fun g3 w3 cv=>?_;obtain⟨cF,sl',rfl,ZO,hP3,hk3,ht3,F3⟩:=cv;have fw3:=cw fw2 ZO;refine(H9 IH ZN hkb m (i+1) (by omega) (by omega) (by omega) fw3 (qa _ hn) hP3 hk3 ht3 (by rw[an,bp,hpi]) F3).mono fun g4 w4 dh=>?_;obtain⟨eO,v,h1,h2,h3,h4⟩:=dh;refine⟨eO,v,h1,h2,h3,?_⟩;unfold BN at h4⊢;cases e2:eP (fun r=>dJ f r false) names m r with
    |none=>rw[e2]at h4;exact h4
    |some y=>obtain⟨ts',r'⟩:=y;rw[e2]at h4;obtain⟨s'',g1,g2,g3⟩:=h4;refine⟨s'',g1,?_,fun W h=>g3 W (qa W h)⟩;rw[a_]at g2;exact g2
theorem As:∀(f:Nat) {w:World} {s:Value} {l:List Nd} {root:Bool},cK w s l->l.length<f->l.length≤1000000->dV 67 #[s,.bool root] w fun v w'=>bA w w'∧vh w.heap.size s l w' v (dJ f l root)
 |0,w,s,l,root,h,hlt,hl=>by omega
 |f+1,w,s,[],root,h,hlt,hl=>by
  refine cI fun cs=>?_;rcases h.ex with⟨rfl,_⟩|⟨A,o,c,rfl,_,_⟩
  ·refine(gr0.go (bO [] [] []) (dU Nq rfl eH (.bool root)) rfl trivial trivial).trans fun g3 w3 cv=>?_;obtain⟨I,B,cF,rfl,f3,F3,_⟩:=cv;refine(x7 (P:=fun v=>v=oY) f3 F3 rfl).mono fun g4 w4 dh=>?_;obtain⟨eO,v,h1,h2,h3,h4⟩:=dh;exact⟨eO,v,h1,h3,h2,h4⟩
  ·refine(gr1.go (bO [(51,0),(52,c),(53,o)] [(50,A)] []) (dU Nq rfl (bS A o 0 c) (.bool root)) rfl ⟨rfl,trivial⟩ trivial).trans fun g3 w3 cv=>?_;obtain⟨I,B,cF,rfl,f3,F3,_⟩:=cv;refine(x7 (P:=fun v=>v=oY) f3 F3 rfl).mono fun g4 w4 dh=>?_;obtain⟨eO,v,h1,h2,h3,h4⟩:=dh;exact⟨eO,v,h1,h3,h2,h4⟩
 |f+1,w,s,nd::l,root,h,hlt,hl=>by
  rcases h.ex with⟨_,e⟩|⟨A,o,c,rfl,hc,hel⟩
  ·cases e
  refine cI fun cs=>?_;have iK:iI w A o nd:=by have:=hel 0 nd rfl;simpa using this
  have hN:0<(nd::l).length:=by simp
  refine(aa' (c:=c) hN iK (dU Nq rfl (bS A o (nd::l).length c) (.bool root))).trans fun g1 w1 hd=>?_;unfold dJ;rw[show(nd::l).length=l.length+1 from rfl]at hd;cases e:ji nd.op (l.length+1)with
  |none=>rw[e]at hd;obtain⟨bR,rfl,f1,hL⟩:=hd;exact .here ⟨bR,_,rfl,hL,f1,rfl⟩
  |some x=>
   obtain⟨lo,hi,names⟩:=x;rw[e]at hd;obtain⟨bR,X,rfl,f1,hX,F1⟩:=hd;refine(VL hN hc hX F1).trans fun g2 w2 b_=>?_;dsimp only;rcases b_ with⟨hb,cE,rfl,f2,hL⟩|⟨hb,cE,P,o',rfl,f2,gP,hP,ho',F2⟩
   ·rw[if_pos hb];exact .here ⟨cE,_,rfl,hL,f1.trans f2,rfl⟩
   ·rw[if_neg (by rw[hb];decide)];have hk:0≤nd.kids∧nd.kids≤1000000:=by
     have zV:¬(nd.kids<lo)∧¬(nd.kids>hi):=by simp only[oX,Bool.or_eq_false_iff,decide_eq_false_iff_not]at hb;exact⟨hb.1.1.1.1,hb.1.1.1.2⟩
     have hlh:=x6 e;simp only[aC]at hl;omega
    have f12:=f1.trans f2;have qa:∀W,cK W (bS A o (nd::l).length c) (nd::l)->cK W (bS A o' ((nd::l).length-1) (c-1)) l:=fun W hW=>by
     rcases hW.ex with⟨e',_⟩|⟨A',o2,c',e',U8,jL⟩
     ·cases e'
     ·obtain⟨rfl,rfl,rfl⟩:A'=A∧o2=o∧c'=c:=by
       refine⟨(lZ e').symm,?_,?_⟩
       ·exact(congrArg (fun v=>match v with|.slice (some x) _ _=>x.off|_=>0) e').symm
       ·exact(congrArg (fun v=>match v with|.slice (some x) _ c=>c|_=>0) e').symm
      refine⟨.inr ⟨A',o',c'-1,rfl,by simp only[aC]at U8;omega,fun i n hi=>?_⟩⟩;have:=jL (i+1) n hi;rcases ho' with h1|rfl
      ·simp only[aC]at h1;have:l=[]:=bz (by omega);subst this;cases hi
      ·rw[show o2+4+i*4=o2+(i+1)*4 by omega];exact this
    refine(H9 (f:=f) (names:=names) (fun h1 h2 h3=>As f h1 h2 h3) (w0:=w) (P:=P) (nd:=nd) (ax f1.size gP) hk.2 nd.kids.toNat 0 (by omega) (by simp only[aC]at hlt;omega) (by simp only[aC]at hl;omega) f12 (qa w h) hP (.inl ⟨rfl,rfl⟩) .nil rfl F2).mono fun g4 w4 dh=>?_;obtain⟨eO,v,h1,h2,h3,h4⟩:=dh;refine⟨eO,v,h1,h3,h2,?_⟩;unfold BN at h4;cases e2:eP (fun r=>dJ f r false) names nd.kids.toNat l with
    |none=>rw[e2]at h4;exact h4
    |some y=>obtain⟨ts',r'⟩:=y;rw[e2]at h4;obtain⟨s'',g1,g2,g3⟩:=h4;exact⟨P,s'',g1,g2,fun W hW=>g3 W (qa W hW)⟩
end
noncomputable def nu(l:Nat):Code:=pc (bD Tryz.f44) (pd l)
theorem abh:bT Tryz.prog 44 [.bF 0,.bF 1,.bF 2] .normal=.ok ⟨44,87,c_ 44 [.bF 0,.bF 1,.bF 2],[.code (bD Tryz.f44)],[],.run,.normal⟩:=by kernel_rfl
theorem abi:dL 44 87 6:=fun st=>by kernel_rfl
noncomputable abbrev Tl:List (Nat×AV):=[(0,.agg [ss 1,sA 50 53 51 52,i64 (v 4)]),(1,i64 (v 7)),(2,.bF 2)]
noncomputable abbrev H_:List Item:=[.code .ret,.inBlock 0,.code (nu 7)]
theorem so1:Pc 44 87 [.code (bD Tryz.f44)] Tl [((.cmp .geq (v 7) (.lit 4096)),true)] [] [] 18 [] [6] H_ [i64 (.lit 34)] []:={}
noncomputable abbrev Tm:List (Nat×AV):=[(0,.agg [ss 1,cn,i64 (v 4)]),(1,i64 (v 7)),(2,.bF 2)]
theorem agb:Pc 44 87 [.code (bD Tryz.f44)] Tm [((.cmp .geq (v 7) (.lit 4096)),true)] [] [] 18 [] [6] H_ [i64 (.lit 34)] []:={}
noncomputable abbrev Tn:List Item:=[.inRegion (opsOf (nu 102)) [2,3,4,5,6,7,8,9,10],.code (nu 103),.inBlock 0,.code (nu 7)]
theorem agc:Pc 44 87 [.code (bD Tryz.f44)] Tm [((.cmp .geq (v 7) (.lit 4096)),false)] [] [] 18 [100] [1,2,3,20] Tn [i64 (v 7),.bF 2,bC 100,ss 1] [(100,.cells [ss 1,cn,i64 (v 4)] 50)]:={}
theorem so2:Pc 44 87 [.code (bD Tryz.f44)] Tl [((.cmp .geq (v 7) (.lit 4096)),false)] [] [] 18 [100] [1,2,3,20] Tn [i64 (v 7),.bF 2,bC 100,ss 1] [(100,.cells [ss 1,sA 50 53 51 52,i64 (v 4)] 50)]:={}
theorem so3:dy 87 (opsOf (nu 102)) 2 [(20,.bF 20)] 66 [.bF 20] 21:={}
noncomputable abbrev To:List Item:=[.inRegion (opsOf (nu 102)) [3,4,5,6,7,8,9,10],.code (nu 103),.inBlock 0,.code (nu 7)]
noncomputable abbrev tI:List (AA×AV):=[(eD 64 0,ss 1),(eD 64 1,.bF 8),(eD 64 2,i64 (v 4))]
theorem so4:Pc 44 87 To [(1,i64 (v 7)),(2,.bF 2),(3,bC 64),(21,FB)] [] tI [] 14 [] [6] H_ [i64 (.lit 43)] []:={}
theorem so5:Pc 44 87 To [(1,i64 (v 7)),(2,.bF 2),(3,bC 64),(21,TB)] [] tI [] 5 [] [1,2,3,23,24,26] [.inRegion (opsOf (nu 102)) [8,9,10],.code (nu 103),.inBlock 0,.code (nu 7)] [i64 (v 7),.bF 2,bC 64,FB,.bF 2,ss 1] []:={}
theorem so6:j7 87 (opsOf (nu 102)) 8 [(23,FB)] (.lookup 83 (.tmp 24) (.tmp 26) false) 4 (some 27):={}
noncomputable abbrev Tp:List Item:=[.inRegion (opsOf (nu 102)) [9,10],.code (nu 103),.inBlock 0,.code (nu 7)]
theorem so7:Pc 44 87 Tp [(1,i64 (v 7)),(2,.bF 2),(3,bC 64),(23,FB),(27,TB)] [] tI [] 8 [] [6] H_ [i64 (.lit 43)] []:={}
theorem so8:Pc 44 87 Tp [(1,i64 (v 7)),(2,.bF 2),(3,bC 64),(23,FB),(27,FB)] [] tI [] 10 [] [1,3,31] [.inRegion (opsOf (nu 14)) [2,3,4,5,6,7],.code (nu 15)] [i64 (v 7),bC 64,.bF 8] []:={}
theorem so9:dy 87 (opsOf (nu 14)) 2 [(31,.bF 31)] 67 [.bF 31,TB] 32:={}
noncomputable abbrev Au:List Item:=[.inRegion (opsOf (nu 14)) [3,4,5,6,7],.code (nu 15)]
noncomputable abbrev Ia:List Item:=[.code .ret,.code (nu 31)]
theorem soA:Pc 44 87 Au [(1,i64 (v 7)),(3,bC 64),(32,.tuple [zz,cn])] [] tI [] 27 [] [6] Ia [i64 (.lit 1)] []:={}
noncomputable abbrev ND:List (Nat×AV):=[(1,i64 (v 7)),(3,bC 64),(32,.tuple [bC 62,sA 55 56 57 58])]
theorem soB:Pc 44 87 Au ND [((.cmp .gtr (.tn (v 57)) (.lit 0)),true)] tI [] 27 [] [6] Ia [i64 (.lit 1)] []:={}
theorem agd:Pc 44 87 Au ND [((.cmp .gtr (.tn (v 57)) (.lit 0)),false),((.cmp .lss (v 4) (.lit 0)),true)] tI [] 27 [] [6] Ia [i64 (.lit 1)] []:={}
noncomputable abbrev NF:List AV:=[i64 (v 7),bC 64,bC 62,sA 50 53 51 52,i64 (.tn (v 51)),i64 (.lit 0)]
noncomputable abbrev NG:List (AA×AV):=[(eD 64 0,ss 1),(eD 64 1,sA 50 53 51 52),(eD 64 2,i64 (v 4))]
noncomputable abbrev x8:List Item:=[.code (nu 500),.inLoop (nu 500),.inBlock 1,.code (nu 63)]
theorem age:Pc 44 87 Au ND [((.cmp .gtr (.tn (v 57)) (.lit 0)),false),((.cmp .lss (v 4) (.lit 0)),false)] NG [] 34 [] [1,3,7,48,49,50] x8 NF []:={}
noncomputable abbrev Dt:List (AA×AV):=[(eB 50 53 10 4,i8 (v 11)),(eA 50 53 10 4 1,i64 (v 12)),(eA 50 53 10 4 2,i64 (v 13)),(eA 50 53 10 4 3,i64 (v 14))]
noncomputable abbrev VO:List (Nat×AV):=[(1,i64 (v 7)),(3,bC 64),(7,bC 62),(48,sA 50 53 51 52),(49,i64 (.tn (v 51))),(50,i64 (v 10))]
theorem soE:Pc 44 87 x8 VO (fo 10 51++[((.cmp .gtr (v 13) (.lit 16)),true)]) Dt [] 27 [] [6] [.code .ret,.inBlock 2,.code (nu 4007),.inLoop (nu 500),.inBlock 1,.code (nu 63)] [i64 (.lit 44)] []:={}
noncomputable abbrev NH:List AV:=[i64 (v 7),bC 64,bC 62,sA 50 53 51 52,i64 (.tn (v 51)),i64 (.op .add .i64 (v 10) (.lit 1))]
theorem soF:Pc 44 87 x8 VO (fo 10 51++[((.cmp .gtr (v 13) (.lit 16)),false)]) Dt [] 30 [] [1,3,7,48,49,50] x8 NH []:={}
noncomputable abbrev tJ:List Item:=[.code (nu 1012),.inLoop (nu 1012),.inBlock 3,.code (nu 127)]
theorem soG:Pc 44 87 x8 VO Ao NG [] 17 [] [1,3,7,59,60,61] tJ NF []:={}
noncomputable abbrev NI:List (Nat×AV):=[(1,i64 (v 7)),(3,bC 64),(7,bC 62),(59,sA 50 53 51 52),(60,i64 (.tn (v 51))),(61,i64 (v 10))]
theorem soH:Pc 44 87 tJ NI (fo 10 51++[((.cmp .eql (v 11) (.lit 2)),false)]) Dt [] 41 [] [1,3,7,59,60,61] tJ NH []:={}
noncomputable abbrev Tq:List Item:=[.code .ret,.inBlock 4,.code (nu 8103),.inLoop (nu 1012),.inBlock 3,.code (nu 127)]
theorem soI:Pc 44 87 tJ NI (fo 10 51++[((.cmp .eql (v 11) (.lit 2)),true),((.cmp .lss (v 12) (.lit 0)),true)]) Dt [] 38 [] [6] Tq [i64 (.lit 43)] []:={}
theorem soJ:Pc 44 87 tJ NI (fo 10 51++[((.cmp .eql (v 11) (.lit 2)),true),((.cmp .lss (v 12) (.lit 0)),false),((.cmp .geq (v 12) (v 7)),true)]) Dt [] 38 [] [6] Tq [i64 (.lit 43)] []:={}
theorem soK:Pc 44 87 tJ NI (fo 10 51++[((.cmp .eql (v 11) (.lit 2)),true),((.cmp .lss (v 12) (.lit 0)),false),((.cmp .geq (v 12) (v 7)),false)]) Dt [] 41 [] [1,3,7,59,60,61] tJ NH []:={}
theorem soL:Pc 44 87 tJ NI Ao [] [] 11 [] [81] [.inRegion (opsOf (nu 508)) [1,2,3,4,5,6],.code (nu 509),.code (nu 255)] [bC 62] []:={}
theorem soM:dy 87 (opsOf (nu 508)) 1 [(81,.bF 81)] 68 [.bF 81,i64 (.lit 0)] 82:={}
noncomputable abbrev Tr:List Item:=[.inRegion (opsOf (nu 508)) [2,3,4,5,6],.code (nu 509),.code (nu 255)]
theorem Rf:Pc 44 87 Tr [(82,.tuple [i64 (v 5),i64 (v 6)])] [((.cmp .gtr (v 5) (.lit 64)),true)] [] [] 16 [] [6] [.code .ret,.code (nu 255)] [i64 (.lit 42)] []:={}
theorem NJ:Pc 44 87 Tr [(82,.tuple [i64 (v 5),i64 (v 6)])] [((.cmp .gtr (v 5) (.lit 64)),false)] [] [] 17 [] [6] [.code .ret] [i64 (.lit 0)] []:={}
noncomputable abbrev Ts:List (Nat×AV):=[(1,i64 (v 7)),(3,bC 64),(32,.tuple [bC 62,cn])]
theorem agf:Pc 44 87 Au Ts [((.cmp .lss (v 4) (.lit 0)),true)] tI [] 27 [] [6] Ia [i64 (.lit 1)] []:={}
theorem agh:Pc 44 87 Au Ts [((.cmp .lss (v 4) (.lit 0)),false)] NG [] 34 [] [1,3,7,48,49,50] x8 NF []:={}
theorem nJ{g:List Nd->Option (T×List Nd)}{names:Bool}(hg:∀l t r,g l=some (t,r)->l=flat t++r):∀(k:Nat) (l:List Nd) (ts:List T) (r:List Nd),eP g names k l=some (ts,r)->l=bY ts++r
 |0,l,ts,r,h=>by cases h;rfl
 |k+1,l,ts,r,h=>by
  unfold eP at h;split at h
  ·cases h
  ·rename_i t r' e;split at h
   ·cases h
   ·split at h
    ·cases h
    ·rename_i ts' r'' e2;cases h;rw[hg _ _ _ e,nJ hg k _ _ _ e2,bY,a_]
theorem gi:∀(f:Nat) (l:List Nd) (root:Bool) (t:T) (r:List Nd),dJ f l root=some (t,r)->l=flat t++r
 |0,l,root,t,r,h=>by cases h
 |f+1,[],root,t,r,h=>by cases h
 |f+1,n::l,root,t,r,h=>by
  unfold dJ at h;split at h
  ·cases h
  ·split at h
   ·cases h
   ·split at h
    ·cases h
    ·rename_i ts r' e;cases h;have:=nJ (fun l t r h=>gi f l false t r h) _ _ _ _ e;rw[flat,this];simp
noncomputable def cU(z:Bool)(b o n c:Nat):AV:=Bool.rec (.slice (some ⟨.dyn b,v o⟩) (v n) (v c)) cn z
noncomputable def dO(z:Bool)(n:Nat):IE:=Bool.rec (.tn (v n)) (.lit 0) z
def ew(z:Bool)(A o n c:Nat):Value:=match z with
 |false=>bS A o n c
 |true=>eH
structure cx where
 name:ByteArray
 tree:List Nd
 cj:Int
def fK(x:cx)(s:Value):Value:=.agg #[.string x.name,s,iV x.cj]
def fz(x:cx)(i:Nat)(names:List (ByteArray×Bool)):Int:=
 if(i:Int)≥4096 then 34
 else if gz x.name=false∨(fu x.name names).getD false=true then 43
 else match dJ (x.tree.length+1) x.tree true with
  |none=>1
  |some (t,rest)=>
   if 0<rest.length∨x.cj<0 then 1
   else if x.tree.any (fun n=>decide (n.kids>16))then 44
   else if x.tree.any (fun n=>decide (n.op=2)&&(decide (n.n<0)||decide (n.n≥i)))then 43
   else if(cD t 0).1>64 then 42 else 0
section
variable {w w0:World}{cs:List Frame}{fr:Frame}
theorem x9{k:List Item}{n:Int}(fw:bA w0 w)(hf:FA 44 87 (.code .ret::k) [] .normal [(6,iV n)] fr):Goes (G fr cs) w fun g' w'=>∃fr',g'=G fr' cs∧bA w0 w'∧de 44 fr' w' (iV n):=by refine(leave1 abi hf rfl).mono fun g6 w6 dz=>?_;obtain⟨dK,rfl,rfl,hL⟩:=dz;exact⟨dK,rfl,fw,hL⟩
noncomputable abbrev Tt:List (AA×AV):=Dt
noncomputable abbrev abj:List Item:=tJ
noncomputable abbrev abk:List Item:=x8
theorem NK{x:cx}{A o c X p idx:Nat}{t:T}{U:Nat->Prop}{rest:List Nd}(hel:∀i n,x.tree[i]?=some n->iI w0 A (o+i*4) n)(hl:x.tree.length≤1000000)(ht:fU w0 U p t)(hfl:x.tree=flat t++rest):
  ∀(m j:Nat) {w:World} {cs:List Frame} {fr:Frame},j+m=x.tree.length->bA w0 w->FA 44 87 abj [] .normal [(1,iV idx),(3,bK X),(7,bK p),(59,bS A o x.tree.length c),(60,iV x.tree.length),(61,iV j)] fr->
  Goes (G fr cs) w fun g' w'=>∃fr',g'=G fr' cs∧bA w0 w'∧de 44 fr' w' (iV (if(x.tree.drop j).any (fun n=>decide (n.op=2)&&(decide (n.n<0)||decide (n.n≥idx)))then 43 else if(cD t 0).1>64 then 42 else 0))
 |0,j,w,cs,fr,hj,fw,hf=>by
  have ht':=ht.keep fw;refine(soL.go (bO [(7,idx),(51,x.tree.length),(52,c),(53,o),(10,j)] [(50,A),(64,X),(62,p)] []) hf rfl ⟨decide_eq_false (by show ¬((j:Int)<((x.tree.length:Nat):Int));omega),trivial⟩ trivial).trans fun g1 w1 hd=>?_;obtain⟨I,B,bR,rfl,f1,F1,_⟩:=hd;refine(soM.go (bO [] [] [(81,bK p)]) (Q:=fun v w'=>v=.tuple #[iV (cD t 0).1,iV (cD t 0).2]) F1 rfl fun w' f2=>Dp t (ht'.keep (f1.trans f2)) (by have:=congrArg aR hfl;rw[an]at this;omega)).trans fun g2 w2 b_=>?_
  obtain⟨cE,vv,rfl,f2,rfl,F2⟩:=b_;rw[aI (by omega)];by_cases h:(cD t 0).1>64
  ·refine(Rf.go (bO [(5,(cD t 0).1),(6,(cD t 0).2)] [] []) F2 rfl ⟨decide_eq_true h,trivial⟩ trivial).trans fun g3 w3 cv=>?_;obtain⟨I,B,cF,rfl,f3,F3,_⟩:=cv;simp only[List.any_nil,aH,if_false,if_pos h];exact x9 (fw.trans (f1.trans (f2.trans f3))) F3
  ·refine(NJ.go (bO [(5,(cD t 0).1),(6,(cD t 0).2)] [] []) F2 rfl ⟨decide_eq_false h,trivial⟩ trivial).trans fun g3 w3 cv=>?_;obtain⟨I,B,cF,rfl,f3,F3,_⟩:=cv;simp only[List.any_nil,aH,if_false,if_neg h];exact x9 (fw.trans (f1.trans (f2.trans f3))) F3
 |m+1,j,w,cs,fr,hj,fw,hf=>by
  have hlt:j<x.tree.length:=by omega
  obtain⟨n,hn⟩:∃n,x.tree[j]?=some n:=⟨_,aa hlt⟩;have iK:=(hel j n hn).keep fw;have dS:x.tree.drop j=n::x.tree.drop (j+1):=by rw[aG hlt];congr 1;exact au ((aa hlt).symm.trans hn)
  obtain⟨ρ,hρ⟩:∃ρ:Env,ρ=bO [(7,idx),(51,x.tree.length),(52,c),(53,o),(10,j),(11,n.op),(12,n.n),(13,n.kids),(14,n.cj)] [(50,A),(64,X),(62,p)] []:=⟨_,rfl⟩;have mm:cq ρ w Tt:=by rw[hρ];exact⟨iK.c0,iK.c1,iK.c2,iK.c3,trivial⟩
  have bb:=bX (ρ:=ρ) (i:=10) (n:=51) (I:=j) (N:=x.tree.length) (by rw[hρ];rfl) (by rw[hρ];rfl) hlt;rw[dS,List.any_cons];have next:∀{w1:World} {bR:Frame},(decide (n.op=2)&&(decide (n.n<0)||decide (n.n≥idx)))=false->bA w w1->FA 44 87 abj [] .normal [(1,iV idx),(3,bK X),(7,bK p),(59,bS A o x.tree.length c),(60,iV x.tree.length),(61,iV (iz .add .i64 j 1))] bR->Goes (G bR cs) w1 fun g' w'=>∃fr',g'=G fr' cs∧bA w0 w'∧de 44 fr' w' (iV (if(decide (n.op=2)&&(decide (n.n<0)||decide (n.n≥idx))||(x.tree.drop (j+1)).any (fun n=>decide (n.op=2)&&(decide (n.n<0)||decide (n.n≥idx))))then 43 else if(cD t 0).1>64 then 42 else 0)):=fun{w1 bR} he f1 F1=>by rw[he,Bool.false_or];rw[inc (by omega)]at F1;exact NK hel hl ht hfl m (j+1) (by omega) (fw.trans f1) F1
  have bad:∀{w1:World} {bR:Frame} {k:List Item},(decide (n.op=2)&&(decide (n.n<0)||decide (n.n≥idx)))=true->bA w w1->FA 44 87 (.code .ret::k) [] .normal [(6,iV 43)] bR->Goes (G bR cs) w1 fun g' w'=>∃fr',g'=G fr' cs∧bA w0 w'∧de 44 fr' w' (iV (if(decide (n.op=2)&&(decide (n.n<0)||decide (n.n≥idx))||(x.tree.drop (j+1)).any (fun n=>decide (n.op=2)&&(decide (n.n<0)||decide (n.n≥idx))))then 43 else if(cD t 0).1>64 then 42 else 0)):=fun{w1 bR k} he f1 F1=>by rw[he,Bool.true_or,if_pos rfl];exact x9 (fw.trans f1) F1
  by_cases h2:n.op=2
  ·by_cases h0:n.n<0
   ·refine(soI.go ρ hf (by rw[hρ];rfl) (cg.app bb ⟨by rw[hρ];exact decide_eq_true h2,by rw[hρ];exact decide_eq_true h0,trivial⟩) mm).trans fun g1 w1 hd=>?_;obtain⟨I,B,bR,rfl,f1,F1,_⟩:=hd;exact bad (by simp[h2,h0]) f1 F1
   ·by_cases h1:n.n≥idx
    ·refine(soJ.go ρ hf (by rw[hρ];rfl) (cg.app bb ⟨by rw[hρ];exact decide_eq_true h2,by rw[hρ];exact decide_eq_false h0,by rw[hρ];exact decide_eq_true h1,trivial⟩) mm).trans fun g1 w1 hd=>?_;obtain⟨I,B,bR,rfl,f1,F1,_⟩:=hd;exact bad (by simp[h2,h0];omega) f1 F1
    ·refine(soK.go ρ hf (by rw[hρ];rfl) (cg.app bb ⟨by rw[hρ];exact decide_eq_true h2,by rw[hρ];exact decide_eq_false h0,by rw[hρ];exact decide_eq_false h1,trivial⟩) mm).trans fun g1 w1 hd=>?_;obtain⟨I,B,bR,rfl,f1,F1,_⟩:=hd;rw[hρ]at F1;exact next (by simp[h2];omega) f1 F1
  ·refine(soH.go ρ hf (by rw[hρ];rfl) (cg.app bb ⟨by rw[hρ];exact decide_eq_false h2,trivial⟩) mm).trans fun g1 w1 hd=>?_;obtain⟨I,B,bR,rfl,f1,F1,_⟩:=hd;rw[hρ]at F1;exact next (by simp[h2]) f1 F1
theorem NL{x:cx}{A o c X p idx:Nat}{t:T}{U:Nat->Prop}{rest:List Nd}(hX:w0.cell? ⟨X,0,none⟩=some (.string x.name)∧w0.cell? ⟨X,1,none⟩=some (bS A o x.tree.length c)∧w0.cell? ⟨X,2,none⟩=some (iV x.cj))(hel:∀i n,x.tree[i]?=some n->iI w0 A (o+i*4) n)(hl:x.tree.length≤1000000)(ht:fU w0 U p t)(hfl:x.tree=flat t++rest):
  ∀(m j:Nat) {w:World} {cs:List Frame} {fr:Frame},j+m=x.tree.length->bA w0 w->FA 44 87 abk [] .normal [(1,iV idx),(3,bK X),(7,bK p),(48,bS A o x.tree.length c),(49,iV x.tree.length),(50,iV j)] fr->
  Goes (G fr cs) w fun g' w'=>∃fr',g'=G fr' cs∧bA w0 w'∧de 44 fr' w' (iV (if(x.tree.drop j).any (fun n=>decide (n.kids>16))then 44 else if x.tree.any (fun n=>decide (n.op=2)&&(decide (n.n<0)||decide (n.n≥idx)))then 43 else if(cD t 0).1>64 then 42 else 0))
 |0,j,w,cs,fr,hj,fw,hf=>by refine(soG.go (Go.Proofs.YtmobbajggkjpgaaGreat.SX.iS [(7,idx),(51,x.tree.length),(52,c),(53,o),(10,j),(4,x.cj)] [(50,A),(64,X),(62,p)] [] [(1,x.name)]) hf rfl ⟨decide_eq_false (by show ¬((j:Int)<((x.tree.length:Nat):Int));omega),trivial⟩ ⟨fw.cell hX.1,fw.cell hX.2.1,fw.cell hX.2.2,trivial⟩).trans fun g1 w1 hd=>?_;obtain⟨I,B,bR,rfl,f1,F1,_⟩:=hd;rw[aI (by omega)];simp only[List.any_nil,aH,if_false];exact NK hel hl ht hfl x.tree.length 0 (aF _) (fw.trans f1) F1
 |m+1,j,w,cs,fr,hj,fw,hf=>by
  have hlt:j<x.tree.length:=by omega
  obtain⟨n,hn⟩:∃n,x.tree[j]?=some n:=⟨_,aa hlt⟩;have iK:=(hel j n hn).keep fw;have dS:x.tree.drop j=n::x.tree.drop (j+1):=by rw[aG hlt];congr 1;exact au ((aa hlt).symm.trans hn)
  obtain⟨ρ,hρ⟩:∃ρ:Env,ρ=bO [(7,idx),(51,x.tree.length),(52,c),(53,o),(10,j),(11,n.op),(12,n.n),(13,n.kids),(14,n.cj)] [(50,A),(64,X),(62,p)] []:=⟨_,rfl⟩;have mm:cq ρ w Tt:=by rw[hρ];exact⟨iK.c0,iK.c1,iK.c2,iK.c3,trivial⟩
  have bb:=bX (ρ:=ρ) (i:=10) (n:=51) (I:=j) (N:=x.tree.length) (by rw[hρ];rfl) (by rw[hρ];rfl) hlt;rw[dS,List.any_cons];by_cases h:n.kids>16
  ·refine(soE.go ρ hf (by rw[hρ];rfl) (cg.app bb ⟨by rw[hρ];exact decide_eq_true h,trivial⟩) mm).trans fun g1 w1 hd=>?_;obtain⟨I,B,bR,rfl,f1,F1,_⟩:=hd;rw[decide_eq_true h,Bool.true_or,if_pos rfl];exact x9 (fw.trans f1) F1
  ·refine(soF.go ρ hf (by rw[hρ];rfl) (cg.app bb ⟨by rw[hρ];exact decide_eq_false h,trivial⟩) mm).trans fun g1 w1 hd=>?_;obtain⟨I,B,bR,rfl,f1,F1,_⟩:=hd;rw[hρ]at F1;rw[decide_eq_false h,Bool.false_or];refine NL hX hel hl ht hfl m (j+1) (by omega) (fw.trans f1) ?_;rw[<-inc (by omega)];exact F1
theorem Kt{x:cx}{s:Value}{idx M:Nat}{names:List (ByteArray×Bool)}(hs:cK w s x.tree)(hl:x.tree.length≤999999)(hM:jg w M names):dV 44 #[fK x s,iV idx,.map (some M)] w fun v w'=>bA w w'∧v=iV (fz x idx names):=by
 refine cI fun cs=>?_;obtain⟨z,A,o,c,hsz,hz,hel⟩:∃(z:Bool) (A o c:Nat),s=(match z with|true=>eH|false=>bS A o x.tree.length c)∧(z=true->x.tree=[])∧(∀i n,x.tree[i]?=some n->iI w A (o+i*4) n):=by
  rcases hs.ex with⟨h1,h2⟩|⟨A,o,c,h1,h2,h3⟩
  ·exact⟨true,0,0,0,h1,fun _=>h2,fun i n hi=>by rw[h2]at hi;cases hi⟩
  ·exact⟨false,A,o,c,h1,(fun h=>by cases h),h3⟩
 have E:=p9 abh rfl (fK x s) (iV idx) (.map (some M));have done:∀{w1:World} {bR:Frame} {k:List Item} {n:Int},bA w w1->FA 44 87 (.code .ret::k) [] .normal [(6,iV n)] bR->fz x idx names=n->Goes (G bR cs) w1 fun g' w'=>∃fr' v,g'=G fr' cs∧de 44 fr' w' v∧bA w w'∧v=iV (fz x idx names):=fun f1 F1 he=>by refine(x9 f1 F1).mono fun g2 w2 b_=>?_;obtain⟨cE,rfl,f2,hL⟩:=b_;exact⟨cE,_,rfl,hL,f2,by rw[he]⟩
 obtain⟨ρ,hρ⟩:∃ρ:Env,ρ=Go.Proofs.YtmobbajggkjpgaaGreat.SX.iS [(7,idx),(51,x.tree.length),(52,c),(53,o),(4,x.cj)] [(50,A)] [(2,.map (some M))] [(1,x.name)]:=⟨_,rfl⟩;by_cases h4:(idx:Int)≥4096
 ·have he:fz x idx names=34:=by unfold fz;rw[if_pos h4]
  cases z with
  |false=>refine(so1.go ρ E (by rw[hsz,hρ];rfl) ⟨by rw[hρ];exact decide_eq_true h4,trivial⟩ trivial).trans fun g1 w1 hd=>?_;obtain⟨I,B,bR,rfl,f1,F1,_⟩:=hd;exact done f1 F1 he
  |true=>refine(agb.go ρ E (by rw[hsz,hρ];rfl) ⟨by rw[hρ];exact decide_eq_true h4,trivial⟩ trivial).trans fun g1 w1 hd=>?_;obtain⟨I,B,bR,rfl,f1,F1,_⟩:=hd;exact done f1 F1 he
 have agi:Goes (G (Frame.enter Tryz.prog 44 #[fK x s,iV idx,.map (some M)] .normal) cs) w fun g' w'=>∃fr' X,g'=G fr' cs∧bA w w'∧(w'.cell? ⟨X,0,none⟩=some (.string x.name)∧w'.cell? ⟨X,1,none⟩=some s∧w'.cell? ⟨X,2,none⟩=some (iV x.cj))∧FA 44 87 (.inRegion (opsOf (nu 102)) [2,3,4,5,6,7,8,9,10]::[.code (nu 103),.inBlock 0,.code (nu 7)]) [] .normal [(1,iV idx),(2,.map (some M)),(3,bK X),(20,.string x.name)] fr':=by
  cases z with
  |false=>refine(so2.go ρ E (by rw[hsz,hρ];rfl) ⟨by rw[hρ];exact decide_eq_false h4,trivial⟩ trivial).mono fun g1 w1 hd=>?_;obtain⟨I,B,bR,rfl,f1,F1,bl,_⟩:=hd;rw[hρ]at F1 bl;have hX:=bl.1.2;exact⟨bR,B 100,rfl,f1,⟨bG hX (i:=0) rfl,by rw[hsz];exact bG hX (i:=1) rfl,bG hX (i:=2) rfl⟩,F1⟩
  |true=>refine(agc.go ρ E (by rw[hsz,hρ];rfl) ⟨by rw[hρ];exact decide_eq_false h4,trivial⟩ trivial).mono fun g1 w1 hd=>?_;obtain⟨I,B,bR,rfl,f1,F1,bl,_⟩:=hd;rw[hρ]at F1 bl;have hX:=bl.1.2;exact⟨bR,B 100,rfl,f1,⟨bG hX (i:=0) rfl,by rw[hsz];exact bG hX (i:=1) rfl,bG hX (i:=2) rfl⟩,F1⟩
 refine agi.trans fun g1 w1 hd=>?_;obtain⟨bR,X,rfl,f1,hX,F1⟩:=hd;obtain⟨σ,cr⟩:∃σ:Env,σ=Go.Proofs.YtmobbajggkjpgaaGreat.SX.iS [(7,idx),(51,x.tree.length),(52,c),(53,o),(4,x.cj)] [(50,A),(64,X)] [(2,.map (some M)),(8,s)] [(1,x.name)]:=⟨_,rfl⟩;have mo:∀{w':World},bA w1 w'->cq σ w' tI:=fun f=>by rw[cr];exact⟨f.cell hX.1,f.cell hX.2.1,f.cell hX.2.2,trivial⟩
 refine(so3.go (bO [] [] [(20,.string x.name)]) (Q:=fun v w'=>v=.bool (gz x.name)) F1 rfl fun w' f2=>Gk).trans fun g2 w2 b_=>?_;obtain⟨cE,vv,rfl,f2,rfl,F2⟩:=b_;cases hn:gz x.name with
 |false=>rw[hn]at F2;refine(so4.go σ F2 (by rw[cr];rfl) trivial (mo f2)).trans fun g3 w3 cv=>?_;obtain⟨I,B,cF,rfl,f3,F3,_⟩:=cv;exact done (n:=43) (f1.trans (f2.trans f3)) F3 (by unfold fz;rw[if_neg h4,if_pos (.inl hn)])
 |true=>
 rw[hn]at F2;refine(so5.go σ F2 (by rw[cr];rfl) trivial (mo f2)).trans fun g3 w3 cv=>?_;obtain⟨I,B,cF,rfl,f3,F3,_⟩:=cv;rw[cr]at F3;have f13:=f1.trans (f2.trans f3);have ZP:jg w3 M names:=bP (k:=.map _) hM f13;refine(so6.go (R:=fun v w'=>v=xY false (fu x.name names)∧w'=w3) (bO [] [] []) F3 (by decide) rfl fun tm ir x' e1 e2=>?_).trans fun g4 w4 dh=>?_
 ·unfold execOp;simp only[e1,bH];rw[ir 24 (.map (some M)) rfl,ir 26 (.string x.name) rfl];exact vf ZP ⟨_,rfl,rfl,rfl⟩
 obtain⟨eO,vv,rfl,⟨rfl,rfl⟩,F4⟩:=dh;cases hf:(fu x.name names).getD false with
 |true=>rw[show xY false (fu x.name names)=.bool true from by unfold xY;rw[hf];rfl]at F4;refine(so7.go σ F4 (by rw[cr];rfl) trivial (mo (f2.trans f3))).trans fun g5 w5 eg=>?_;obtain⟨I,B,gn,rfl,f5,F5,_⟩:=eg;exact done (n:=43) (f13.trans f5) F5 (by unfold fz;rw[if_neg h4,if_pos (.inr hf)])
 |false=>
 rw[show xY false (fu x.name names)=.bool false from by unfold xY;rw[hf];rfl]at F4;have hnn:¬(gz x.name=false∨(fu x.name names).getD false=true):=by rw[hn,hf];simp
 refine(so8.go σ F4 (by rw[cr];rfl) trivial (mo (f2.trans f3))).trans fun g5 w5 eg=>?_;obtain⟨I,B,gn,rfl,f5,F5,_⟩:=eg;rw[cr]at F5;have f15:=f13.trans f5;have hs5:=hs.keep f15;refine(so9.go (bO [] [] [(31,s)]) (Q:=fun v w'=>vh w5.heap.size s x.tree w' v (dJ (x.tree.length+1) x.tree true)) F5 rfl fun w' f6=>(As (root:=true) (x.tree.length+1) (hs5.keep f6) (by omega) (by omega)).mono fun v w6 O=>⟨O.1,?_⟩).trans fun g6 w6 dz=>?_
 ·unfold vh at O⊢;cases e:dJ (x.tree.length+1) x.tree true with
  |none=>rw[e]at O;exact O.2
  |some y=>rw[e]at O;obtain⟨_,p,s',h1,h2,h3⟩:=O;exact⟨p,s',h1,h2.e_ (bA.refl _) fun x u lt=>⟨fun hh=>by omega,ax f6.size u⟩,h3⟩
 obtain⟨dK,vv,rfl,f6,hO,F6⟩:=dz;have f26:=f2.trans (f3.trans (f5.trans f6));unfold vh at hO;cases e:dJ (x.tree.length+1) x.tree true with
 |none=>rw[e]at hO;have hO:vv=oY:=hO;subst hO;refine(soA.go σ F6 (by rw[cr];rfl) trivial (mo f26)).trans fun g7 w7 mW=>?_;obtain⟨I,B,qX,rfl,f7,F7,_⟩:=mW;exact done (n:=1) (f15.trans (f6.trans f7)) F7 (by unfold fz;rw[if_neg h4,if_neg hnn,e])
 |some y=>
 obtain⟨t,rest⟩:=y;rw[e]at hO;obtain⟨p,s',rfl,hpt,qa⟩:=hO;have hfl:=gi _ _ _ _ _ e;have hr6:=qa w hs;obtain rfl:z=false:=by
  cases z with
  |false=>rfl
  |true=>rw[hz rfl]at e;cases e
 have zC:w6.cell? ⟨X,0,none⟩=some (.string x.name)∧w6.cell? ⟨X,1,none⟩=some (bS A o x.tree.length c)∧w6.cell? ⟨X,2,none⟩=some (iV x.cj):=⟨f26.cell hX.1,by rw[<-show s=bS A o x.tree.length c from hsz];exact f26.cell hX.2.1,f26.cell hX.2.2⟩;have agj:∀i n,x.tree[i]?=some n->iI w6 A (o+i*4) n:=fun i n hi=>(hel i n hi).keep (f15.trans f6);have go1:∀{w7:World} {qX:Frame},bA w6 w7->¬(0<rest.length∨x.cj<0)->FA 44 87 abk [] .normal [(1,iV idx),(3,bK X),(7,bK p),(48,bS A o x.tree.length c),(49,iV x.tree.length),(50,iV 0)] qX->Goes (G qX cs) w7 fun g' w'=>∃fr' v,g'=G fr' cs∧de 44 fr' w' v∧bA w w'∧v=iV (fz x idx names):=fun f7 hno F7=>by refine(NL (rest:=rest) zC agj (by omega) hpt hfl x.tree.length 0 (aF _) f7 F7).mono fun g8 w8 BH=>?_;obtain⟨Np,rfl,f8,hL⟩:=BH;refine⟨Np,_,rfl,hL,(f15.trans f6).trans f8,?_⟩;unfold fz;rw[if_neg h4,if_neg hnn,e];dsimp only;rw[if_neg hno,List.drop_zero]
 have VP:∀{w7:World} {qX:Frame} {k:List Item},bA w6 w7->(0<rest.length∨x.cj<0)->FA 44 87 (.code .ret::k) [] .normal [(6,iV 1)] qX->Goes (G qX cs) w7 fun g' w'=>∃fr' v,g'=G fr' cs∧de 44 fr' w' v∧bA w w'∧v=iV (fz x idx names):=fun f7 hyes F7=>done (n:=1) ((f15.trans f6).trans f7) F7 (by unfold fz;rw[if_neg h4,if_neg hnn,e];dsimp only;rw[if_pos hyes])
 rcases hr6.ex with⟨rfl,rfl⟩|⟨A',o',c',rfl,U8,_⟩
 ·by_cases ha:x.cj<0
  ·refine(agf.go (Go.Proofs.YtmobbajggkjpgaaGreat.SX.iS [(7,idx),(4,x.cj)] [(64,X),(62,p)] [(8,bS A o x.tree.length c)] [(1,x.name)]) F6 rfl ⟨decide_eq_true ha,trivial⟩ ⟨zC.1,zC.2.1,zC.2.2,trivial⟩).trans fun g7 w7 mW=>?_;obtain⟨I,B,qX,rfl,f7,F7,_⟩:=mW;exact VP f7 (.inr ha) F7
  ·refine(agh.go (Go.Proofs.YtmobbajggkjpgaaGreat.SX.iS [(7,idx),(51,x.tree.length),(52,c),(53,o),(4,x.cj)] [(50,A),(64,X),(62,p)] [] [(1,x.name)]) F6 rfl ⟨decide_eq_false ha,trivial⟩ ⟨zC.1,zC.2.1,zC.2.2,trivial⟩).trans fun g7 w7 mW=>?_;obtain⟨I,B,qX,rfl,f7,F7,_⟩:=mW;exact go1 f7 (by simp;omega) F7
 ·by_cases hr:((rest.length:Nat):Int)>0
  ·refine(soB.go (Go.Proofs.YtmobbajggkjpgaaGreat.SX.iS [(7,idx),(4,x.cj),(56,o'),(57,rest.length),(58,c')] [(64,X),(62,p),(55,A')] [(8,bS A o x.tree.length c)] [(1,x.name)]) F6 rfl ⟨decide_eq_true hr,trivial⟩ ⟨zC.1,zC.2.1,zC.2.2,trivial⟩).trans fun g7 w7 mW=>?_;obtain⟨I,B,qX,rfl,f7,F7,_⟩:=mW;exact VP f7 (.inl (by omega)) F7
  ·by_cases ha:x.cj<0
   ·refine(agd.go (Go.Proofs.YtmobbajggkjpgaaGreat.SX.iS [(7,idx),(4,x.cj),(56,o'),(57,rest.length),(58,c')] [(64,X),(62,p),(55,A')] [(8,bS A o x.tree.length c)] [(1,x.name)]) F6 rfl ⟨decide_eq_false hr,decide_eq_true ha,trivial⟩ ⟨zC.1,zC.2.1,zC.2.2,trivial⟩).trans fun g7 w7 mW=>?_;obtain⟨I,B,qX,rfl,f7,F7,_⟩:=mW;exact VP f7 (.inr ha) F7
   ·refine(age.go (Go.Proofs.YtmobbajggkjpgaaGreat.SX.iS [(7,idx),(51,x.tree.length),(52,c),(53,o),(4,x.cj),(56,o'),(57,rest.length),(58,c')] [(50,A),(64,X),(62,p),(55,A')] [] [(1,x.name)]) F6 rfl ⟨decide_eq_false hr,decide_eq_false ha,trivial⟩ ⟨zC.1,zC.2.1,zC.2.2,trivial⟩).trans fun g7 w7 mW=>?_;obtain⟨I,B,qX,rfl,f7,F7,_⟩:=mW;exact go1 f7 (by omega) F7
end
noncomputable def mZ(l:Nat):Code:=pc (bD Tryz.f26) (pd l)
theorem abm:bT Tryz.prog 26 [.bF 0] .normal=.ok ⟨26,61,c_ 26 [.bF 0],[.code (bD Tryz.f26)],[],.run,.normal⟩:=by kernel_rfl
theorem abn:p6 26 61 2 3:=fun st=>by kernel_rfl
noncomputable abbrev Du:List Item:=[.code (mZ 116),.inLoop (mZ 116),.inBlock 0,.code (mZ 15)]
theorem ck1(z y:Bool):Pc 26 61 [.code (bD Tryz.f26)] [(0,.agg [cU z 50 53 51 52,cU y 60 66 67 68])] [] [] [] 21 [101,100] [1,4,12,13,14] Du [bC 100,.map (some (.dyn 101)),cU z 50 53 51 52,i64 (dO z 51),i64 (.lit 0)] [(101,.map []),(100,.cells [cU z 50 53 51 52,cU y 60 66 67 68] 25)]:=by cases z<;>cases y<;>exact{}
noncomputable abbrev Tu:List (Nat×AV):=[(1,bC 64),(4,.bF 4),(12,sA 50 53 51 52),(13,i64 (.tn (v 51))),(14,i64 (v 10))]
theorem ck2(y:Bool):Pc 26 61 Du Tu (fo 10 51) [(eB 50 53 10 3,ss 1),(eA 50 53 10 3 1,cU y 70 73 71 72),(eA 50 53 10 3 2,i64 (v 4))] [] 24 [100] [1,4,5,6,12,13,14,19,20,21] [.inRegion (opsOf (mZ 14948)) [3,4],.code (mZ 14949),.code (mZ 7475),.inBlock 1,.code (mZ 935),.inLoop (mZ 116),.inBlock 0,.code (mZ 15)] [bC 64,.bF 4,i64 (v 10),bC 100,sA 50 53 51 52,i64 (.tn (v 51)),i64 (v 10),.agg [ss 1,cU y 70 73 71 72,i64 (v 4)],i64 (v 10),.bF 4] [(100,.cells [ss 1,cU y 70 73 71 72,i64 (v 4)] 50)]:=by cases y<;>exact{}
theorem ck3:dy 61 (opsOf (mZ 14948)) 3 [(19,.bF 19),(20,.bF 20),(21,.bF 21)] 44 [.bF 19,.bF 20,.bF 21] 22:={}
noncomputable abbrev abo:List Item:=[.inRegion (opsOf (mZ 14948)) [4],.code (mZ 14949),.code (mZ 7475),.inBlock 1,.code (mZ 935),.inLoop (mZ 116),.inBlock 0,.code (mZ 15)]
noncomputable abbrev abp:List (Nat×AV):=[(1,bC 64),(4,.bF 4),(5,i64 (v 10)),(6,bC 65),(12,sA 50 53 51 52),(13,i64 (.tn (v 51))),(14,i64 (v 10)),(22,i64 (v 5))]
abbrev Ic:List (BE×Bool):=[((.cmp .neq (v 5) (.lit 0)),true)]
theorem ck4:Pc 26 61 abo abp Ic [] [] 15 [] [2,3] [.code .ret,.code (mZ 7475),.inBlock 1,.code (mZ 935),.inLoop (mZ 116),.inBlock 0,.code (mZ 15)] [i64 (v 5),i64 (v 10)] []:={}
theorem ck5:Pc 26 61 abo abp [((.cmp .neq (v 5) (.lit 0)),false)] [(eD 65 0,ss 1)] [] 13 [] [1,4,12,13,14,27,29] [.inRegion (opsOf (mZ 7475)) [3],.inBlock 1,.code (mZ 935),.inLoop (mZ 116),.inBlock 0,.code (mZ 15)] [bC 64,.bF 4,sA 50 53 51 52,i64 (.tn (v 51)),i64 (v 10),.bF 4,ss 1] []:={}
theorem ck6:j7 61 (opsOf (mZ 7475)) 3 [] (.mapUpdate 83 (.tmp 27) (.tmp 29) (.const (.bool true))) 0 none:={}
theorem ck7:Pc 26 61 [.inRegion (opsOf (mZ 7475)) [],.inBlock 1,.code (mZ 935),.inLoop (mZ 116),.inBlock 0,.code (mZ 15)] Tu [] [] [] 7 [] [1,4,12,13,14] Du [bC 64,.bF 4,sA 50 53 51 52,i64 (.tn (v 51)),i64 (.op .add .i64 (v 10) (.lit 1))] []:={}
noncomputable abbrev vi:List Item:=[.code (mZ 244),.inLoop (mZ 244),.inBlock 2,.code (mZ 31)]
theorem ck8(z y:Bool):Pc 26 61 Du [(1,bC 64),(4,.bF 4),(12,cU z 50 53 51 52),(13,i64 (dO z 51)),(14,i64 (v 10))] [((.cmp .lss (v 10) (dO z 51)),false)] [(eD 64 1,cU y 60 66 67 68)] [] 17 [] [1,32,33,34] vi [bC 64,cU y 60 66 67 68,i64 (dO y 67),i64 (.lit 0)] []:=by cases z<;>cases y<;>exact{}
noncomputable abbrev Ie:List (Nat×AV):=[(1,bC 64),(32,sA 60 66 67 68),(33,i64 (.tn (v 67))),(34,i64 (v 10))]
abbrev NM:List (BE×Bool):=[((.cmp .geq (v 10) (.lit 4096)),true)]
theorem ck9(z:Bool):Pc 26 61 vi Ie (fo 10 67++NM) [(eD 64 0,cU z 50 53 51 52),(eC 60 66 10,i64 (v 12))] [] 26 [] [2,3] [.code .ret,.code (mZ 15667),.inBlock 3,.code (mZ 1959),.inLoop (mZ 244),.inBlock 2,.code (mZ 31)] [i64 (.lit 34),i64 (.op .add .i64 (dO z 51) (v 10))] []:=by cases z<;>exact{}
noncomputable abbrev Tv:List Item:=[.code .ret,.inBlock 3,.code (mZ 1959),.inLoop (mZ 244),.inBlock 2,.code (mZ 31)]
abbrev Tw:List (BE×Bool):=[((.cmp .geq (v 10) (.lit 4096)),false),((.cmp .lss (v 12) (.lit 0)),true)]
theorem ckA(z:Bool):Pc 26 61 vi Ie (fo 10 67++Tw) [(eD 64 0,cU z 50 53 51 52),(eC 60 66 10,i64 (v 12))] [] 40 [] [2,3] Tv [i64 (.lit 43),i64 (.op .add .i64 (dO z 51) (v 10))] []:=by cases z<;>exact{}
theorem ckB(z:Bool):Pc 26 61 vi Ie (fo 10 67++[((.cmp .geq (v 10) (.lit 4096)),false),((.cmp .lss (v 12) (.lit 0)),false),((.cmp .geq (v 12) (dO z 51)),true)]) [(eD 64 0,cU z 50 53 51 52),(eC 60 66 10,i64 (v 12))] [] 40 [] [2,3] Tv [i64 (.lit 43),i64 (.op .add .i64 (dO z 51) (v 10))] []:=by cases z<;>exact{}
theorem ckC(z:Bool):Pc 26 61 vi Ie (fo 10 67++[((.cmp .geq (v 10) (.lit 4096)),false),((.cmp .lss (v 12) (.lit 0)),false),((.cmp .geq (v 12) (dO z 51)),false)]) [(eD 64 0,cU z 50 53 51 52),(eC 60 66 10,i64 (v 12))] [] 45 [] [1,32,33,34] vi [bC 64,sA 60 66 67 68,i64 (.tn (v 67)),i64 (.op .add .i64 (v 10) (.lit 1))] []:=by cases z<;>exact{}
noncomputable abbrev Av:List AV:=[i64 (.lit 0),i64 (.lit 0)]
theorem ckD(y:Bool):Pc 26 61 vi [(1,bC 64),(32,cU y 60 66 67 68),(33,i64 (dO y 67)),(34,i64 (v 10))] [((.cmp .lss (v 10) (dO y 67)),false)] [] [] 12 [] [2,3] [.code .ret] Av []:=by cases y<;>exact{}
structure iG where
 lets:List cx
 outs:List Int
structure lE(w:World)(A o:Nat)(x:cx):Prop where
 ex:∃ts,w.cell? ⟨A,o,none⟩=some (.string x.name)∧w.cell? ⟨A,o+1,none⟩=some ts∧w.cell? ⟨A,o+2,none⟩=some (iV x.cj)∧cK w ts x.tree
structure r9(w:World)(s:Value)(L:List cx):Prop where
 ex:∃(z:Bool) (A o c:Nat),s=ew z A o L.length c∧(z=true->L=[])∧(z=false->L.length≤c)∧∀i x,L[i]?=some x->lE w A (o+i*3) x
structure jq(w:World)(s:Value)(l:List Int):Prop where
 ex:∃(z:Bool) (A o c:Nat),s=ew z A o l.length c∧(z=true->l=[])∧(z=false->l.length≤c)∧∀i n,l[i]?=some n->w.cell? ⟨A,o+i,none⟩=some (iV n)
def r_(w:World)(x:Value)(F:iG):Prop:=∃ls os,x=.agg #[ls,os]∧r9 w ls F.lets∧jq w os F.outs
theorem lE.keep{w w':World}{A o:Nat}{x:cx}(h:lE w A o x)(f:bA w w'):lE w' A o x:=by obtain⟨ts,h1,h2,h3,h4⟩:=h.ex;exact⟨ts,f.cell h1,f.cell h2,f.cell h3,h4.keep f⟩
theorem r9.keep{w w':World}{s:Value}{L:List cx}(h:r9 w s L)(f:bA w w'):r9 w' s L:=by obtain⟨z,A,o,c,h1,h2,h3,h4⟩:=h.ex;exact⟨z,A,o,c,h1,h2,h3,fun i x hi=>(h4 i x hi).keep f⟩
theorem jq.keep{w w':World}{s:Value}{l:List Int}(h:jq w s l)(f:bA w w'):jq w' s l:=by obtain⟨z,A,o,c,h1,h2,h3,h4⟩:=h.ex;exact⟨z,A,o,c,h1,h2,h3,fun i x hi=>f.cell (h4 i x hi)⟩
def dX:List cx->Nat->List (ByteArray×Bool)->Option (Int×Nat)
 |[],_,_=>none
 |x::r,i,names=>if fz x i names≠0 then some (fz x i names,i)else dX r (i+1) (names++[(x.name,true)])
def dD(n:Nat):List Int->Nat->Int×Int
 |[],_=>(0,0)
 |o::r,i=>if(i:Int)≥4096 then(34,eT n i)else if o<0 then(43,eT n i)else if o≥n then(43,eT n i)else dD n r (i+1)
def gH(F:iG):Int×Int:=match dX F.lets 0 []with
 |some (e,i)=>(e,i)
 |none=>dD F.lets.length F.outs 0
theorem Gm{s:ByteArray}:∀{names:List (ByteArray×Bool)},(∀p∈names,p.2=true)->(fu s names).getD false=false->fu s names=none:=fun{names} h hf=>by
 unfold fu at hf⊢;cases e:names.find? fun p=>s==p.1 with
 |none=>rfl
 |some p=>rw[e]at hf;have:=h p (List.mem_of_find?_eq_some e);simp[this]at hf
theorem Ku{x:cx}{i:Nat}{names:List (ByteArray×Bool)}(h:fz x i names=0):(fu x.name names).getD false=false:=by
 unfold fz at h;split at h
 ·cases h
 ·split at h
  ·cases h
  ·rename_i h2;cases e:(fu x.name names).getD false with
   |false=>rfl
   |true=>exact(h2 (.inr e)).elim
noncomputable abbrev abq:List Item:=Du
noncomputable abbrev abr:List Item:=vi
section
variable {w w0:World}{cs:List Frame}{fr:Frame}{F:iG}{ls os:Value}{X M:Nat}
theorem BO{k:List Item}{a b:Int}(fw:bA w0 w)(hf:FA 26 61 (.code .ret::k) [] .normal [(2,iV a),(3,iV b)] fr):Goes (G fr cs) w fun g' w'=>∃fr',g'=G fr' cs∧bA w0 w'∧de 26 fr' w' (.tuple #[iV a,iV b]):=by refine(jo abn hf rfl rfl).mono fun g6 w6 dz=>?_;obtain⟨dK,rfl,rfl,hL⟩:=dz;exact⟨dK,rfl,fw,hL⟩
theorem Ig{z:Bool}{A o c A' o' c' N:Nat}(hN:z=true->N=0)(h0:w0.cell? ⟨X,0,none⟩=some (ew z A o N c)){outs:List Int}(hel:∀i n,outs[i]?=some n->w0.cell? ⟨A',o'+i,none⟩=some (iV n)):
  ∀(r:List Int) (i:Nat) {w:World} {cs:List Frame} {fr:Frame},outs.drop i=r->bA w0 w->i≤5000->FA 26 61 abr [] .normal [(1,bK X),(32,bS A' o' outs.length c'),(33,iV outs.length),(34,iV i)] fr->
  Goes (G fr cs) w fun g' w'=>∃fr',g'=G fr' cs∧bA w0 w'∧de 26 fr' w' (.tuple #[iV (dD N r i).1,iV (dD N r i).2])
 |[],i,w,cs,fr,hr,fw,hi,hf=>by have hlen:outs.length≤i:=aW.1 hr;refine((ckD false).go (bO [(67,outs.length),(68,c'),(66,o'),(10,i)] [(60,A'),(64,X)] []) hf rfl ⟨decide_eq_false (by show ¬((i:Int)<((outs.length:Nat):Int));omega),trivial⟩ trivial).trans fun g1 w1 hd=>?_;obtain⟨I,B,bR,rfl,f1,F1,_⟩:=hd;exact BO (fw.trans f1) F1
 |n::r,i,w,cs,fr,hr,fw,hi,hf=>by
  obtain⟨hn,wu,hlt⟩:=dM hr;obtain⟨ρ,hρ⟩:∃ρ:Env,ρ=bO [(67,outs.length),(68,c'),(66,o'),(10,i),(12,n),(51,N),(52,c),(53,o)] [(60,A'),(64,X),(50,A)] []:=⟨_,rfl⟩;have mm:cq ρ w [(eD 64 0,cU z 50 53 51 52),(eC 60 66 10,i64 (v 12))]:=by rw[hρ];refine⟨(fw.cell h0).trans ?_,fw.cell (hel i n hn),trivial⟩;cases z<;>rfl
  have bb:=bX (ρ:=ρ) (i:=10) (n:=67) (I:=i) (N:=outs.length) (by rw[hρ];rfl) (by rw[hρ];rfl) hlt;have eN:(dO z 51).ev ρ=(N:Int):=by
   rw[hρ];cases z with
   |false=>rfl
   |true=>rw[hN rfl];rfl
  have bad:∀{k:List Item} {w1:World} {bR:Frame} {e:Int} {I:Nat->Int} {B:Nat->Nat},bA w w1->FA 26 61 (.code .ret::k) [] .normal [(2,iV e),(3,iV (iz .add .i64 ((dO z 51).ev (dc ρ I B)) ((dc ρ I B).i 10)))] bR->dD N (n::r) i=(e,eT N i)->Goes (G bR cs) w1 fun g' w'=>∃fr',g'=G fr' cs∧bA w0 w'∧de 26 fr' w' (.tuple #[iV (dD N (n::r) i).1,iV (dD N (n::r) i).2]):=fun{k w1 bR e I B} f1 F1 he=>by
   rw[he];have e1:(dO z 51).ev (dc ρ I B)=(N:Int):=by
    rw[hρ];cases z with
    |false=>rfl
    |true=>rw[hN rfl];rfl
   rw[e1]at F1;subst hρ;exact BO (fw.trans f1) F1
  by_cases h1:(i:Int)≥4096
  ·refine((ck9 z).go ρ hf (by rw[hρ];rfl) (cg.app bb ⟨by rw[hρ];exact decide_eq_true h1,trivial⟩) mm).trans fun g1 w1 hd=>?_;obtain⟨I,B,bR,rfl,f1,F1,_⟩:=hd;exact bad (I:=I) (B:=B) (e:=34) f1 F1 (by unfold dD;rw[if_pos h1])
  by_cases h2:n<0
  ·refine((ckA z).go ρ hf (by rw[hρ];rfl) (cg.app bb ⟨by rw[hρ];exact decide_eq_false h1,by rw[hρ];exact decide_eq_true h2,trivial⟩) mm).trans fun g1 w1 hd=>?_;obtain⟨I,B,bR,rfl,f1,F1,_⟩:=hd;exact bad (I:=I) (B:=B) (e:=43) f1 F1 (by unfold dD;rw[if_neg h1,if_pos h2])
  by_cases h3:n≥N
  ·refine((ckB z).go ρ hf (by rw[hρ];rfl) (cg.app bb ⟨by rw[hρ];exact decide_eq_false h1,by rw[hρ];exact decide_eq_false h2,by show decide (ρ.i 12≥(dO z 51).ev ρ)=true;rw[eN,hρ];exact decide_eq_true h3,trivial⟩) mm).trans fun g1 w1 hd=>?_;obtain⟨I,B,bR,rfl,f1,F1,_⟩:=hd;exact bad (I:=I) (B:=B) (e:=43) f1 F1 (by unfold dD;rw[if_neg h1,if_neg h2,if_pos h3])
  refine((ckC z).go ρ hf (by rw[hρ];rfl) (cg.app bb ⟨by rw[hρ];exact decide_eq_false h1,by rw[hρ];exact decide_eq_false h2,by show decide (ρ.i 12≥(dO z 51).ev ρ)=false;rw[eN,hρ];exact decide_eq_false h3,trivial⟩) mm).trans fun g1 w1 hd=>?_;obtain⟨I,B,bR,rfl,f1,F1,_⟩:=hd;rw[hρ]at F1;unfold dD;rw[if_neg h1,if_neg h2,if_neg h3];refine Ig (c':=c') hN h0 hel r (i+1) wu (fw.trans f1) (by omega) ?_;rw[<-inc (i:=i) (by omega)];exact F1
theorem Ih{z:Bool}{A o c:Nat}{L:List cx}(hz:z=true->L=[])(hx:w0.heap.size≤M)(h0:w0.heap.size≤X)(hXM:X≠M)(hos:jq w0 os F.outs)(hL:F.lets=L)(hel:∀i x,L[i]?=some x->lE w0 A (o+i*3) x)(hlen:L.length≤1000000)(htr:∀x∈L,x.tree.length≤999999):
  ∀(r:List cx) (i:Nat) {names:List (ByteArray×Bool)} {w:World} {cs:List Frame} {fr:Frame},L.drop i=r->bA w0 w->(cy.obj 25 [ew z A o L.length c,os]).at Tryz.prog w X->jg w M names->(∀p∈names,p.2=true)->FA 26 61 abq [] .normal [(1,bK X),(4,.map (some M)),(12,ew z A o L.length c),(13,iV L.length),(14,iV i)] fr->
  Goes (G fr cs) w fun g' w'=>∃fr',g'=G fr' cs∧bA w0 w'∧de 26 fr' w' (match dX r i names with
   |some (e,j)=>.tuple #[iV e,iV j]
   |none=>.tuple #[iV (dD L.length F.outs 0).1,iV (dD L.length F.outs 0).2])
 |[],i,names,w,cs,fr,hr,fw,hX,hM,hn,hf=>by
  have Gn:L.length≤i:=aW.1 hr;obtain⟨y,A',o',c',rfl,hy,Gp,fW⟩:=hos.ex;have hN:z=true->L.length=0:=fun h=>by rw[hz h];rfl
  have hgo:Goes (G fr cs) w fun g' w'=>∃fr',g'=G fr' cs∧bA w w'∧FA 26 61 abr [] .normal [(1,bK X),(32,ew y A' o' F.outs.length c'),(33,iV F.outs.length),(34,iV 0)] fr':=by
   refine((ck8 z y).go (bO [(51,L.length),(52,c),(53,o),(10,i),(67,F.outs.length),(68,c'),(66,o')] [(50,A),(64,X),(60,A')] [(4,.map (some M))]) hf (by
    cases z with
    |false=>rfl
    |true=>rw[hz rfl];rfl) ⟨?_,trivial⟩ ⟨?_,trivial⟩).mono fun g1 w1 hd=>?_
   ·cases z with
    |false=>exact decide_eq_false (by show ¬((i:Int)<((L.length:Nat):Int));omega)
    |true=>exact decide_eq_false (by show ¬((i:Int)<0);omega)
   ·have:=bG hX (i:=1) rfl;refine Eq.trans this ?_;cases y<;>rfl
   ·obtain⟨I,B,bR,rfl,f1,F1,_⟩:=hd;refine⟨bR,rfl,f1,?_⟩;cases y with
    |false=>exact F1
    |true=>rw[hy rfl];exact F1
  refine hgo.trans fun g1 w1 hd=>?_;obtain⟨bR,rfl,f1,F1⟩:=hd;have Dr:=fw.trans f1;unfold dX;dsimp only;cases y with
  |true=>have ho:F.outs=[]:=hy rfl;rw[ho]at F1⊢;refine((ckD true).go (bO [(10,0)] [(64,X)] []) F1 rfl ⟨rfl,trivial⟩ trivial).trans fun g2 w2 b_=>?_;obtain⟨I,B,cE,rfl,f2,F2,_⟩:=b_;exact BO (Dr.trans f2) F2
  |false=>have hc0:w1.cell? ⟨X,0,none⟩=some (ew z A o L.length c):=f1.cell (bG hX (i:=0) rfl);have hye:∀i n,F.outs[i]?=some n->w1.cell? ⟨A',o'+i,none⟩=some (iV n):=fun i n hi=>Dr.cell (fW i n hi);refine(Ig (w0:=w1) (c':=c') hN hc0 hye F.outs 0 rfl (bA.refl w1) (by omega) F1).mono fun g2 w2 b_=>?_;obtain⟨cE,rfl,f2,hL⟩:=b_;exact⟨cE,rfl,Dr.trans f2,hL⟩
 |x::r,i,names,w,cs,fr,hr,fw,hX,hM,hn,hf=>by
  obtain⟨hx',wu,hlt⟩:=dM hr;obtain rfl:z=false:=by
   cases z with
   |false=>rfl
   |true=>rw[hz rfl]at hlt;simp at hlt
  obtain⟨ts,a0,a1,a2,a3⟩:=((hel i x hx').keep fw).ex;have NO:x.tree.length≤999999:=htr x (az hx');obtain⟨y,A',o',c',hts,hy⟩:∃(y:Bool) (A' o' c':Nat),ts=ew y A' o' x.tree.length c'∧True:=by
   rcases a3.ex with⟨h1,h2⟩|⟨A',o',c',h1,h2,h3⟩
   ·exact⟨true,0,0,0,h1,trivial⟩
   ·exact⟨false,A',o',c',h1,trivial⟩
  obtain⟨ρ,hρ⟩:∃ρ:Env,ρ=Go.Proofs.YtmobbajggkjpgaaGreat.SX.iS [(51,L.length),(52,c),(53,o),(10,i),(71,x.tree.length),(72,c'),(73,o'),(4,x.cj)] [(50,A),(64,X),(70,A')] [(4,.map (some M))] [(1,x.name)]:=⟨_,rfl⟩;have e70:(cU y 70 73 71 72).ev ρ=ts:=by rw[hts,hρ];cases y<;>rfl
  refine((ck2 y).go ρ hf (by rw[hρ];rfl) (bX (ρ:=ρ) (i:=10) (n:=51) (I:=i) (N:=L.length) (by rw[hρ];rfl) (by rw[hρ];rfl) hlt) ⟨by rw[hρ];exact a0,by rw[e70,hρ];exact a1,by rw[hρ];exact a2,trivial⟩).trans fun g1 w1 hd=>?_;obtain⟨I,B,bR,rfl,f1,F1,bl,_⟩:=hd;have abt:(cU y 70 73 71 72).ev (dc ρ I B)=ts:=by rw[hts,hρ];cases y<;>rfl
  have hb:(cy.obj 50 [.string x.name,ts,iV x.cj]).at Tryz.prog w1 (B 100):=by have:=bl.1.2;rw[<-abt];rw[hρ]at this⊢;exact this
  have fN:FA 26 61 (.inRegion (opsOf (mZ 14948)) [3,4]::[.code (mZ 14949),.code (mZ 7475),.inBlock 1,.code (mZ 935),.inLoop (mZ 116),.inBlock 0,.code (mZ 15)]) [] .normal [(1,bK X),(4,.map (some M)),(5,iV i),(6,bK (B 100)),(12,bS A o L.length c),(13,iV L.length),(14,iV i),(19,fK x ts),(20,iV i),(21,.map (some M))] bR:=by
   have e0:fK x ts=.agg #[.string x.name,(cU y 70 73 71 72).ev (dc ρ I B),iV x.cj]:=by rw[abt];rfl
   rw[e0];rw[hρ]at F1⊢;exact F1
  have hM1:jg w1 M names:=bP (k:=.map _) hM f1;refine(ck3.go (bO [] [] [(19,fK x ts),(20,iV i),(21,.map (some M))]) (Q:=fun v w'=>v=iV (fz x i names)) fN rfl fun w' f2=>Kt ((a3.keep (f1.trans f2))) NO (bP (k:=.map _) hM1 f2)).trans fun g2 w2 b_=>?_;obtain⟨cE,vv,rfl,f2,rfl,F2⟩:=b_;have f12:=f1.trans f2;obtain⟨σ,cr⟩:∃σ:Env,σ=Go.Proofs.YtmobbajggkjpgaaGreat.SX.iS [(51,L.length),(52,c),(53,o),(10,i),(5,fz x i names)] [(50,A),(64,X),(65,B 100)] [(4,.map (some M))] [(1,x.name)]:=⟨_,rfl⟩;by_cases he:fz x i names=0
  ·refine(ck5.go σ F2 (by rw[cr];rfl) ⟨by rw[cr];show(!decide (fz x i names=0))=false;rw[decide_eq_true he];rfl,trivial⟩ ⟨by rw[cr];exact f2.cell (bG hb (i:=0) rfl),trivial⟩).trans fun g3 w3 cv=>?_;obtain⟨I,B',cF,rfl,f3,F3,_⟩:=cv;rw[cr]at F3;have f13:=f12.trans f3;have ZP:jg w3 M names:=bP (k:=.map _) hM f13;have hnone:=Gm hn (Ku he);refine(ck6.go0 (R:=fun w'=>jg w' M (names++[(x.name,true)])∧bU (fun n=>n=M) w3 w') (bO [] [] []) F3 rfl fun tm ir x' e1 e2=>?_).trans fun g4 w4 dh=>?_
   ·unfold execOp;simp only[e1,bH];rw[ir 27 (.map (some M)) rfl,ir 29 (.string x.name) rfl];exact Gi ZP hnone fun w' h1 h2=>⟨rfl,h1,h2⟩
   obtain⟨eO,rfl,⟨hM4,kp4⟩,F4⟩:=dh;have fw4:bA w0 w4:=cw (fw.trans f13) (kp4.mono fun n hn=>by rw[hn];exact hx);have hX4:(cy.obj 25 [ew false A o L.length c,os]).at Tryz.prog w4 X:=cy.qy (bP hX f13) kp4 fun h=>hXM h;refine(ck7.go (bO [(51,L.length),(52,c),(53,o),(10,i)] [(50,A),(64,X)] [(4,.map (some M))]) F4 rfl trivial trivial).trans fun g5 w5 eg=>?_;obtain⟨I,B',gn,rfl,f5,F5,_⟩:=eg;have ec:dX (x::r) i names=dX r (i+1) (names++[(x.name,true)]):=by
    conv=>lhs;unfold dX
    rw[if_neg (by rw[he];decide)]
   rw[ec];refine Ih hz hx h0 hXM hos hL hel hlen htr r (i+1) wu (fw4.trans f5) (bP hX4 f5) (bP (k:=.map _) hM4 f5) (fun p hp=>?_) ?_
   ·rcases aT.1 hp with hp|hp
    ·exact hn p hp
    ·obtain rfl:=ah.1 hp;rfl
   ·rw[<-inc (i:=i) (by omega)];exact F5
  ·refine(ck4.go σ F2 (by rw[cr];rfl) ⟨by rw[cr];show(!decide (fz x i names=0))=true;rw[decide_eq_false he];rfl,trivial⟩ trivial).trans fun g3 w3 cv=>?_;obtain⟨I,B',cF,rfl,f3,F3,_⟩:=cv;rw[cr]at F3;unfold dX;rw[if_pos he];exact BO (fw.trans (f12.trans f3)) F3
theorem qA{x:Value}(h:r_ w x F)(hlen:F.lets.length≤1000000)(htr:∀x∈F.lets,x.tree.length≤999999):dV 26 #[x] w fun v w'=>bA w w'∧v=.tuple #[iV (gH F).1,iV (gH F).2]:=by
 obtain⟨ls,os,rfl,hl,ho⟩:=h;obtain⟨z,A,o,c,hls,hz,oU,hel⟩:=hl.ex;obtain⟨y,A',o',c',hos,hy,Gp,fW⟩:=ho.ex;refine cI fun cs=>?_;have E:=cC abm rfl (.agg #[ls,os]);obtain⟨ρ,hρ⟩:∃ρ:Env,ρ=bO [(51,F.lets.length),(52,c),(53,o),(67,F.outs.length),(68,c'),(66,o')] [(50,A),(60,A')] []:=⟨_,rfl⟩;refine((ck1 z y).go ρ E (by rw[hls,hos,hρ];cases z<;>cases y<;>rfl) trivial trivial).trans fun g1 w1 hd=>?_;obtain⟨I,B,bR,rfl,f1,F1,bl,inj⟩:=hd;have hM:jg w1 (B 101) []:=bl.1.2;have hX:(cy.obj 25 [ew z A o F.lets.length c,os]).at Tryz.prog w1 (B 100):=by
  have:=bl.2.1.2;have e1:(cU z 50 53 51 52).ev (dc ρ I B)=ew z A o F.lets.length c:=by rw[hρ];cases z<;>rfl
  have e2:(cU y 60 66 67 68).ev (dc ρ I B)=os:=by rw[hos,hρ];cases y<;>rfl
  rw[<-e1,<-e2];rw[hρ]at this⊢;exact this
 have hXM:B 100≠B 101:=fun e=>by have:=inj _ (af _ (ah.2 rfl)) _ (aj ..) (by rw[hρ];exact e);cases this
 have fN:FA 26 61 abq [] .normal [(1,bK (B 100)),(4,.map (some (B 101))),(12,ew z A o F.lets.length c),(13,iV F.lets.length),(14,iV 0)] bR:=by
  rw[hρ]at F1;cases z with
  |false=>exact F1
  |true=>rw[hz rfl];exact F1
 refine(Ih (w0:=w) (M:=B 101) (X:=B 100) (names:=[]) hz bl.1.1 bl.2.1.1 hXM ho rfl hel hlen htr F.lets 0 rfl f1 hX hM (nofun) fN).mono fun g2 w2 b_=>?_;obtain⟨cE,rfl,f2,hL⟩:=b_;refine⟨cE,_,rfl,hL,f2,?_⟩;unfold gH;cases dX F.lets 0 []with
 |none=>rfl
 |some p=>rfl
end
noncomputable def q22(l:Nat):Code:=pc (bD Tryz.f36) (pd l)
theorem abu:bT Tryz.prog 36 [.bF 0] .normal=.ok ⟨36,8,c_ 36 [.bF 0],[.code (bD Tryz.f36)],[],.run,.normal⟩:=by kernel_rfl
theorem abv:dL 36 8 2:=fun st=>by kernel_rfl
noncomputable def q47(l:Nat):Code:=pc (bD Tryz.f81) (pd l)
theorem abw:bT Tryz.prog 81 [.bF 0,.bF 1] .normal=.ok ⟨81,22,c_ 81 [.bF 0,.bF 1],[.code (bD Tryz.f81)],[],.run,.normal⟩:=by kernel_rfl
theorem abx:dL 81 22 4:=fun st=>by kernel_rfl
noncomputable def E7(l:Nat):Code:=pc (bD Tryz.f58) (pd l)
theorem aby:bT Tryz.prog 58 [.bF 0,.bF 1] .normal=.ok ⟨58,28,c_ 58 [.bF 0,.bF 1],[.code (bD Tryz.f58)],[],.run,.normal⟩:=by kernel_rfl
theorem abz:dL 58 28 4:=fun st=>by kernel_rfl
noncomputable def q48(l:Nat):Code:=pc (bD Tryz.f82) (pd l)
theorem abA:bT Tryz.prog 82 [.bF 0,.bF 1] .normal=.ok ⟨82,41,c_ 82 [.bF 0,.bF 1],[.code (bD Tryz.f82)],[],.run,.normal⟩:=by kernel_rfl
theorem x_:dL 82 41 4:=fun st=>by kernel_rfl
noncomputable def q91(l:Nat):Code:=pc (bD Tryz.f127) (pd l)
theorem abB:bT Tryz.prog 127 [.bF 0] .normal=.ok ⟨127,5,c_ 127 [.bF 0],[.code (bD Tryz.f127)],[],.run,.normal⟩:=by kernel_rfl
noncomputable def q92(l:Nat):Code:=pc (bD Tryz.f128) (pd l)
theorem abC:bT Tryz.prog 128 [.bF 0] .normal=.ok ⟨128,4,c_ 128 [.bF 0],[.code (bD Tryz.f128)],[],.run,.normal⟩:=by kernel_rfl
theorem rt1:Pc 36 8 [.code (bD Tryz.f36)] [(0,.agg [ss 1,sA 50 53 51 52,i64 (v 4)])] [((.cmp .lss (.lit 0) (.tn (v 51))),true)] [(⟨(.dyn 50),(v 53)⟩,i8 (v 1))] [] 14 [] [2] [.code .ret] [i8 (v 1)] []:={}
noncomputable abbrev Dv:List Item:=[.code (q47 52),.inLoop (q47 52),.inBlock 0,.code (q47 7)]
noncomputable abbrev NP:List (Nat×AV):=[(0,bC 61),(1,i64 (v 10))]
theorem sk1:Pc 81 22 [.code (bD Tryz.f81)] NP [] [] [] 11 [] [0,1,5] Dv [bC 61,i64 (v 10),i64 (.lit 1)] []:={}
noncomputable abbrev Tx:List (AA×AV):=[(eD 61 0,sA 50 53 51 52),(eA 50 53 10 4 2,i64 (v 13))]
theorem sk2:Pc 81 22 Dv [(0,bC 61),(1,i64 (v 10)),(5,i64 (v 8))] (fo 10 51++[((.cmp .gtr (v 8) (.lit 0)),true)]) Tx [] 31 [] [0,1,5] Dv [bC 61,i64 (.op .add .i64 (v 10) (.lit 1)),i64 (.op .add .i64 (v 8) (.op .sub .i64 (v 13) (.lit 1)))] []:={}
theorem sk3:Pc 81 22 Dv [(0,bC 61),(1,i64 (v 10)),(5,i64 (v 8))] [((.cmp .gtr (v 8) (.lit 0)),false)] [] [] 13 [] [4] [.code .ret] [i64 (v 10)] []:={}
noncomputable abbrev Aw:List Item:=[.code (E7 244),.inLoop (E7 244),.inBlock 0,.code (E7 31)]
theorem kd1:Pc 58 28 [.code (bD Tryz.f58)] NP (fo 10 51) Tx [] 29 [] [0,5,6,16,17] Aw [bC 61,cn,i64 (.op .add .i64 (v 10) (.lit 1)),i64 (v 13),i64 (.lit 0)] []:={}
noncomputable abbrev abD:List Item:=[.inRegion (opsOf (E7 7833)) [2,3],.inBlock 1,.code (E7 1959),.inLoop (E7 244),.inBlock 0,.code (E7 31)]
theorem agm:Pc 58 28 Aw [(0,bC 61),(5,cn),(6,i64 (v 11)),(16,i64 (v 13)),(17,i64 (v 9))] [((.cmp .lss (v 9) (v 13)),true)] [] [] 20 [101] [0,5,6,16,17,23,24] abD [bC 61,.slice (some (eD 101 0)) (.lit 1) (v 101),i64 (v 11),i64 (v 13),i64 (v 9),bC 61,i64 (v 11)] [(101,.row [i64 (v 11)] 3 (v 101))]:={}
abbrev Tz:List (BE×Bool):=[((.cmp .lss (v 9) (v 13)),true),((.cmp .leq (.plus (.tn (v 8)) (.lit 1)) (.lit 1048576)),true)]
noncomputable abbrev TA:List (Nat×bQ):=[(101,.pre false 65 (v 8) [] [] [i64 (v 11)] 3 (v 101))]
noncomputable abbrev vj:List (Nat×bQ):=[(52,.pre false 65 (v 8) [] [] [] 3 (v 57))]
theorem kd2:Pc 58 28 Aw [(0,bC 61),(5,.slice (some (eD 52 0)) (v 8) (v 57)),(6,i64 (v 11)),(16,i64 (v 13)),(17,i64 (v 9))] Tz [] vj 20 [101] [0,5,6,16,17,23,24] abD [bC 61,.slice (some (eD 101 0)) (.plus (.tn (v 8)) (.lit 1)) (v 101),i64 (v 11),i64 (v 13),i64 (v 9),bC 61,i64 (v 11)] TA:={}
theorem kd3:dy 28 (opsOf (E7 7833)) 2 [(23,.bF 23),(24,.bF 24)] 81 [.bF 23,.bF 24] 25:={}
theorem kd4:Pc 58 28 [.inRegion (opsOf (E7 7833)) [3],.inBlock 1,.code (E7 1959),.inLoop (E7 244),.inBlock 0,.code (E7 31)] [(0,bC 61),(5,.bF 5),(16,i64 (v 13)),(17,i64 (v 9)),(25,i64 (v 12))] [] [] [] 8 [] [0,5,6,16,17] Aw [bC 61,.bF 5,i64 (v 12),i64 (v 13),i64 (.op .add .i64 (v 9) (.lit 1))] []:={}
theorem kd5:Pc 58 28 Aw [(0,bC 61),(5,.bF 5),(6,i64 (v 11)),(16,i64 (v 13)),(17,i64 (v 9))] [((.cmp .lss (v 9) (v 13)),false)] [] [] 12 [] [4] [.code .ret] [.bF 5] []:={}
noncomputable abbrev ya:List (Nat×AV):=[(0,.agg [i64 (v 1),i64 (v 2),i64 (v 3),i64 (v 4)]),(1,i64 (v 5))]
noncomputable abbrev NQ:List Item:=[.code .ret,.inBlock 0,.code (q48 7)]
theorem bd1:Pc 82 41 [.code (bD Tryz.f82)] ya [((.cmp .gtr (v 4) (.lit 0)),true),((.cmp .eql (v 4) (.lit 0)),false),((.cmp .eql (.op .rem .i64 (v 5) (v 4)) (.lit 0)),true)] [] [] 29 [] [4] NQ [.iface 100 (.agg [i8 (.lit 3),i64 (v 5)])] []:={}
theorem bd2:Pc 82 41 [.code (bD Tryz.f82)] ya [((.cmp .gtr (v 4) (.lit 0)),true),((.cmp .eql (v 4) (.lit 0)),false),((.cmp .eql (.op .rem .i64 (v 5) (v 4)) (.lit 0)),false),((.cmp .gtr (v 3) (.lit 0)),true),((.cmp .eql (v 3) (.lit 0)),false),((.cmp .eql (.op .rem .i64 (v 5) (v 3)) (.lit 0)),true)] [] [] 44 [] [4] NQ [.iface 100 (.agg [i8 (.lit 2),i64 (v 5)])] []:={}
theorem bd3:Pc 82 41 [.code (bD Tryz.f82)] ya [((.cmp .gtr (v 4) (.lit 0)),true),((.cmp .eql (v 4) (.lit 0)),false),((.cmp .eql (.op .rem .i64 (v 5) (v 4)) (.lit 0)),false),((.cmp .gtr (v 3) (.lit 0)),true),((.cmp .eql (v 3) (.lit 0)),false),((.cmp .eql (.op .rem .i64 (v 5) (v 3)) (.lit 0)),false)] [] [] 51 [] [4] [.code .ret] [.iface 97 (i64 (.op .add .i64 (.op .mul .i64 (v 5) (v 1)) (v 2)))] []:={}
theorem bd4:Pc 82 41 [.code (bD Tryz.f82)] ya [((.cmp .gtr (v 4) (.lit 0)),true),((.cmp .eql (v 4) (.lit 0)),false),((.cmp .eql (.op .rem .i64 (v 5) (v 4)) (.lit 0)),false),((.cmp .gtr (v 3) (.lit 0)),false)] [] [] 51 [] [4] [.code .ret] [.iface 97 (i64 (.op .add .i64 (.op .mul .i64 (v 5) (v 1)) (v 2)))] []:={}
theorem bd5:Pc 82 41 [.code (bD Tryz.f82)] ya [((.cmp .gtr (v 4) (.lit 0)),false),((.cmp .gtr (v 3) (.lit 0)),true),((.cmp .eql (v 3) (.lit 0)),false),((.cmp .eql (.op .rem .i64 (v 5) (v 3)) (.lit 0)),true)] [] [] 44 [] [4] NQ [.iface 100 (.agg [i8 (.lit 2),i64 (v 5)])] []:={}
theorem bd6:Pc 82 41 [.code (bD Tryz.f82)] ya [((.cmp .gtr (v 4) (.lit 0)),false),((.cmp .gtr (v 3) (.lit 0)),true),((.cmp .eql (v 3) (.lit 0)),false),((.cmp .eql (.op .rem .i64 (v 5) (v 3)) (.lit 0)),false)] [] [] 51 [] [4] [.code .ret] [.iface 97 (i64 (.op .add .i64 (.op .mul .i64 (v 5) (v 1)) (v 2)))] []:={}
theorem bd7:Pc 82 41 [.code (bD Tryz.f82)] ya [((.cmp .gtr (v 4) (.lit 0)),false),((.cmp .gtr (v 3) (.lit 0)),false)] [] [] 51 [] [4] [.code .ret] [.iface 97 (i64 (.op .add .i64 (.op .mul .i64 (v 5) (v 1)) (v 2)))] []:={}
theorem e91:Pc 127 5 [.code (bD Tryz.f127)] [(0,i64 (v 1))] [] [] [] 10 [100] [2] [.code .ret] [bC 100] [(100,.cells [i8 (.lit 1),i64 (v 1)] 43)]:={}
theorem e92:Pc 128 4 [.code (bD Tryz.f128)] [(0,.agg [i8 (v 1),i64 (v 2)])] [] [] [] 10 [101,100] [2] [.code .ret] [bC 101] [(101,.cells [i8 (v 1),i64 (v 2)] 43),(100,.cells [i8 (v 1),i64 (v 2)] 100)]:={}
section
mutual
def vk:T->Prop
 |.nd n ks=>n.kids=ks.length∧o9 ks
def o9:List T->Prop
 |[]=>True
 |t::r=>vk t∧o9 r
end
theorem o9.app:∀{a b:List T},o9 a->o9 b->o9 (a++b)
 |[],b,_,h=>h
 |t::a,b,h,h'=>⟨h.1,o9.app h.2 h'⟩
theorem jj:∀(a b:List T),bY (a++b)=bY a++bY b
 |[],b=>rfl
 |t::a,b=>by show flat t++bY (a++b)=flat t++bY a++bY b;rw[jj a b,a_]
def gI(e:Int×Int):Value:=if e.1=1 then .iface 97 (iV e.2)else .iface 100 (.agg #[cY e.1,iV e.2])
def dY(e:Int×Int):Value:=.agg #[cY e.1,iV e.2]
structure cV where
 mul:Int
 add:Int
 cJ:Int
 panics:Int
def dx(m:cV):Value:=.agg #[iV m.mul,iV m.add,iV m.cJ,iV m.panics]
def Dw(a b:Int):Int:=iz .rem .i64 a b
def eU(m:cV)(k:Int):Int×Int:=
 if m.panics>0∧Dw k m.panics=0 then(3,k)
 else if m.cJ>0∧Dw k m.cJ=0 then(2,k)
 else(1,iz .add .i64 (iz .mul .i64 k m.mul) m.add)
structure nM(w:World)(b:Nat)(tree:List Nd)(A o c:Nat)(es:Value)(m:cV):Prop where
 c0:w.cell? ⟨b,0,none⟩=some (bS A o tree.length c)
 c1:w.cell? ⟨b,1,none⟩=some es
 c2:w.cell? ⟨b,2,none⟩=some (iV m.mul)
 c3:w.cell? ⟨b,3,none⟩=some (iV m.add)
 c4:w.cell? ⟨b,4,none⟩=some (iV m.cJ)
 c5:w.cell? ⟨b,5,none⟩=some (iV m.panics)
 el:∀i n,tree[i]?=some n->iI w A (o+i*4) n
theorem nM.keep{w w':World}{b:Nat}{tree:List Nd}{A o c:Nat}{es:Value}{m:cV}(h:nM w b tree A o c es m)(f:bA w w'):nM w' b tree A o c es m:=
 ⟨f.cell h.c0,f.cell h.c1,f.cell h.c2,f.cell h.c3,f.cell h.c4,f.cell h.c5,fun i n hi=>(h.el i n hi).keep f⟩
section
variable {w w0:World}{cs:List Frame}{fr:Frame}
theorem Dx{x:cx}{A o c:Nat}{n:Nd}(h:iI w A o n)(hl:0<x.tree.length):dV 36 #[fK x (bS A o x.tree.length c)] w fun v w'=>bA w w'∧v=cY n.op:=
 (rt1.iY abv (Go.Proofs.YtmobbajggkjpgaaGreat.SX.iS [(51,x.tree.length),(52,c),(53,o),(4,x.cj),(1,n.op)] [(50,A)] [] [(1,x.name)]) (cC abu rfl (fK x (bS A o x.tree.length c))) rfl ⟨decide_eq_true (by show(0:Int)<((x.tree.length:Nat):Int);omega),trivial⟩ ⟨h.c0,trivial⟩).mono fun v w' ⟨f,I,B,e,_⟩=>⟨f,e⟩
theorem Kv{m:cV}{k:Int}:dV 82 #[dx m,iV k] w fun v w'=>bA w w'∧v=gI (eU m k):=by
 have E:=dU abA rfl (dx m) (iV k);obtain⟨ρ,hρ⟩:∃ρ:Env,ρ=bO [(1,m.mul),(2,m.add),(3,m.cJ),(4,m.panics),(5,k)] [] []:=⟨_,rfl⟩;have ne:∀{x:Int},x>0->decide (x=0)=false:=fun h=>decide_eq_false (by omega);have t:=fun{p:Prop} [Decidable p] (h:p)=>decide_eq_true h;have out:∀{x:Value} {e:Int×Int},eU m k=e->x=gI e->x=gI (eU m k):=fun h1 h2=>by rw[h1];exact h2
 by_cases h4:m.panics>0
 ·by_cases r4:Dw k m.panics=0
  ·subst hρ;exact(bd1.iY x_ (bO [(1,m.mul),(2,m.add),(3,m.cJ),(4,m.panics),(5,k)] [] []) E rfl ⟨decide_eq_true h4,ne h4,decide_eq_true r4,trivial⟩ trivial).mono fun v w' ⟨f,I,B,e,_⟩=>⟨f,out (e:=(3,k)) (by unfold eU;rw[if_pos ⟨h4,r4⟩]) e⟩
  ·by_cases h3:m.cJ>0
   ·by_cases r3:Dw k m.cJ=0
    ·exact(bd2.iY x_ (bO [(1,m.mul),(2,m.add),(3,m.cJ),(4,m.panics),(5,k)] [] []) E rfl ⟨decide_eq_true h4,ne h4,decide_eq_false r4,decide_eq_true h3,ne h3,decide_eq_true r3,trivial⟩ trivial).mono fun v w' ⟨f,I,B,e,_⟩=>⟨f,out (e:=(2,k)) (by unfold eU;rw[if_neg fun h=>r4 h.2,if_pos ⟨h3,r3⟩]) e⟩
    ·exact(bd3.iY x_ (bO [(1,m.mul),(2,m.add),(3,m.cJ),(4,m.panics),(5,k)] [] []) E rfl ⟨decide_eq_true h4,ne h4,decide_eq_false r4,decide_eq_true h3,ne h3,decide_eq_false r3,trivial⟩ trivial).mono fun v w' ⟨f,I,B,e,_⟩=>⟨f,out (e:=(1,iz .add .i64 (iz .mul .i64 k m.mul) m.add)) (by unfold eU;rw[if_neg fun h=>r4 h.2,if_neg fun h=>r3 h.2]) e⟩
   ·exact(bd4.iY x_ (bO [(1,m.mul),(2,m.add),(3,m.cJ),(4,m.panics),(5,k)] [] []) E rfl ⟨decide_eq_true h4,ne h4,decide_eq_false r4,decide_eq_false h3,trivial⟩ trivial).mono fun v w' ⟨f,I,B,e,_⟩=>⟨f,out (e:=(1,iz .add .i64 (iz .mul .i64 k m.mul) m.add)) (by unfold eU;rw[if_neg fun h=>r4 h.2,if_neg fun h=>h3 h.1]) e⟩
 ·by_cases h3:m.cJ>0
  ·by_cases r3:Dw k m.cJ=0
   ·exact(bd5.iY x_ (bO [(1,m.mul),(2,m.add),(3,m.cJ),(4,m.panics),(5,k)] [] []) E rfl ⟨decide_eq_false h4,decide_eq_true h3,ne h3,decide_eq_true r3,trivial⟩ trivial).mono fun v w' ⟨f,I,B,e,_⟩=>⟨f,out (e:=(2,k)) (by unfold eU;rw[if_neg fun h=>h4 h.1,if_pos ⟨h3,r3⟩]) e⟩
   ·exact(bd6.iY x_ (bO [(1,m.mul),(2,m.add),(3,m.cJ),(4,m.panics),(5,k)] [] []) E rfl ⟨decide_eq_false h4,decide_eq_true h3,ne h3,decide_eq_false r3,trivial⟩ trivial).mono fun v w' ⟨f,I,B,e,_⟩=>⟨f,out (e:=(1,iz .add .i64 (iz .mul .i64 k m.mul) m.add)) (by unfold eU;rw[if_neg fun h=>h4 h.1,if_neg fun h=>r3 h.2]) e⟩
  ·exact(bd7.iY x_ (bO [(1,m.mul),(2,m.add),(3,m.cJ),(4,m.panics),(5,k)] [] []) E rfl ⟨decide_eq_false h4,decide_eq_false h3,trivial⟩ trivial).mono fun v w' ⟨f,I,B,e,_⟩=>⟨f,out (e:=(1,iz .add .i64 (iz .mul .i64 k m.mul) m.add)) (by unfold eU;rw[if_neg fun h=>h4 h.1,if_neg fun h=>h3 h.1]) e⟩
theorem uO{f nt d:Nat}{lv:List (Nat×Value)}{k:List Item}{R:Nat}{a b:Value}(he:∀st,results? Tryz.prog (OO [] [(⟨.dyn 62,.lit 0⟩,.bF 40),(⟨.dyn 62,.lit 1⟩,.bF 41)]) hN f (tmpsOf nt st [(d,bC 62)])=.ok (.agg [.bF 40,.bF 41]))(hf:FA f nt (.code .ret::k) [] .normal lv fr)(hd:gh d lv=some (bK R))(h0:w.cell? ⟨R,0,none⟩=some a)(h1:w.cell? ⟨R,1,none⟩=some b):
  Goes (G fr cs) w fun g' w'=>∃fr',g'=G fr' cs∧w'=w∧de f fr' w' (.agg #[a,b]):=
 oe (ρ:=bO [] [(62,R)] [(40,a),(41,b)]) (lA:=[(d,bC 62)]) (bs:=[]) (mem:=[(⟨.dyn 62,.lit 0⟩,.bF 40),(⟨.dyn 62,.lit 1⟩,.bF 41)]) hf (a:=.agg [.bF 40,.bF 41]) (fun p hp=>by
  obtain rfl:=ah.1 hp;exact cN hd) he (nofun) (fun q hq=>by
  simp only[ai,aA,or_false]at hq;rcases hq with rfl|rfl
  ·exact h0
  ·exact h1)
theorem Ii{e:Int×Int}:∃t p,gI e=.iface t p∧(t=97∨t=100)∧∀w,dV (if t=97 then 127 else 128) #[p] w fun v w'=>bA w w'∧v=dY e:=by
 unfold gI;by_cases h:e.1=1
 ·rw[if_pos h];refine⟨97,_,rfl,.inl rfl,fun w=>?_⟩;rw[if_pos rfl];refine cI fun cs=>?_;refine(e91.go (bO [(1,e.2)] [] []) (cC abB rfl (iV e.2)) rfl trivial trivial).trans fun g1 w1 hd=>?_;obtain⟨I,B,bR,rfl,f1,F1,bl,_⟩:=hd;refine(uO (d:=2) (fun st=>by kernel_rfl) F1 rfl (bG bl.1.2 (i:=0) rfl) (bG bl.1.2 (i:=1) rfl)).mono fun g2 w2 b_=>?_;obtain⟨cE,rfl,rfl,hL⟩:=b_;refine⟨cE,_,rfl,hL,f1,?_⟩;unfold dY;rw[h];rfl
 ·rw[if_neg h];refine⟨100,_,rfl,.inr rfl,fun w=>?_⟩;rw[if_neg (by decide)];refine cI fun cs=>?_;refine(e92.go (bO [(1,e.1),(2,e.2)] [] []) (cC abC rfl (dY e)) rfl trivial trivial).trans fun g1 w1 hd=>?_;obtain⟨I,B,bR,rfl,f1,F1,bl,_⟩:=hd;have hb:(cy.obj 43 [cY e.1,iV e.2]).at Tryz.prog w1 (B 101):=bl.1.2;refine(uO (d:=2) (fun st=>by kernel_rfl) F1 rfl (bG hb (i:=0) rfl) (bG hb (i:=1) rfl)).mono fun g2 w2 b_=>?_;obtain⟨cE,rfl,rfl,hL⟩:=b_;exact⟨cE,_,rfl,hL,f1,rfl⟩
theorem tK(t:T):0<(flat t).length:=by cases t;simp[flat]
theorem Ax{b:Nat}{tree:List Nd}{A o c:Nat}{es:Value}{m:cV}(hw:nM w0 b tree A o c es m)(hl:tree.length≤1000000):
  ∀(n:Nat) (ts:List T) (cj:Nat) {rest:List Nd} {w:World} {cs:List Frame} {fr:Frame},(bY ts).length=n->o9 ts->tree.drop cj=bY ts++rest->bA w0 w->FA 81 22 Dv [] .normal [(0,bK b),(1,iV cj),(5,iV ts.length)] fr->
  Goes (G fr cs) w fun g' w'=>∃fr',g'=G fr' cs∧bA w0 w'∧de 81 fr' w' (iV ((cj+(bY ts).length:Nat):Int))
 |n,[],cj,rest,w,cs,fr,hn,hwf,Q9,fw,hf=>by refine(sk3.go (bO [(10,cj),(8,0)] [(61,b)] []) hf rfl ⟨rfl,trivial⟩ trivial).trans fun g1 w1 hd=>?_;obtain⟨I,B,bR,rfl,f1,F1,_⟩:=hd;refine(leave1 abx F1 rfl).mono fun g2 w2 b_=>?_;obtain⟨cE,rfl,rfl,hL⟩:=b_;exact⟨cE,rfl,fw.trans f1,hL⟩
 |0,t::ts,cj,rest,w,cs,fr,hn,hwf,Q9,fw,hf=>by have:=tK t;simp only[bY,an]at hn;omega
 |n+1,.nd x ks::ts,cj,rest,w,cs,fr,hn,hwf,Q9,fw,hf=>by
  have oV:tree.drop cj=x::(bY (ks++ts)++rest):=by rw[Q9,jj];simp[bY,flat]
  obtain⟨hx,b_,hlt⟩:=dM oV;have iK:=(hw.el cj x hx).keep fw;have hk:x.kids=ks.length:=hwf.1.1;have htot:(bY (ks++ts)).length=n:=by rw[jj,an];simp only[bY,flat,an,aC]at hn;omega
  have hfl:=f_ (ks++ts);have hbig:(bY (ks++ts)).length≤1000000:=by have:=congrArg aR b_;rw[an,br]at this;omega
  refine(sk2.go (bO [(10,cj),(8,(aR (T.nd x ks::ts):Nat)),(51,tree.length),(52,c),(53,o),(13,x.kids)] [(61,b),(50,A)] []) hf rfl (cg.app (bX (i:=10) (n:=51) (I:=cj) (N:=tree.length) rfl rfl hlt) ⟨decide_eq_true (by show((aR (T.nd x ks::ts):Nat):Int)>0;simp only[aC];omega),trivial⟩) ⟨fw.cell hw.c0,iK.c2,trivial⟩).trans fun g1 w1 hd=>?_;obtain⟨I,B,bR,rfl,f1,F1,_⟩:=hd;have e1:iz .add .i64 ((aR (T.nd x ks::ts):Nat):Int) (iz .sub .i64 x.kids 1)=(((ks++ts).length:Nat):Int):=by rw[an]at hfl⊢;show IntKind.wrap .i64 (_+IntKind.wrap .i64 (x.kids-1))=_;rw[iT (x:=x.kids-1) (by omega),iT (by simp only[aC];omega)];simp only[aC];omega
  have e2:cj+(bY (.nd x ks::ts)).length=cj+1+(bY (ks++ts)).length:=by rw[hn,htot];omega
  rw[e2];refine Ax hw hl n (ks++ts) (cj+1) htot (o9.app hwf.1.2 hwf.2) b_ (fw.trans f1) ?_;rw[<-e1,<-inc (i:=cj) (by omega)];exact F1
theorem NR{b:Nat}{tree:List Nd}{A o c:Nat}{es:Value}{m:cV}{t:T}{cj:Nat}{rest:List Nd}(hw:nM w b tree A o c es m)(hl:tree.length≤1000000)(ht:vk t)(hd:tree.drop cj=flat t++rest):dV 81 #[bK b,iV cj] w fun v w'=>bA w w'∧v=iV ((cj+(flat t).length:Nat):Int):=by refine cI fun cs=>?_;refine(sk1.go (bO [(10,cj)] [(61,b)] []) (dU abw rfl (bK b) (iV cj)) rfl trivial trivial).trans fun g1 w1 oV=>?_;obtain⟨I,B,bR,rfl,f1,F1,_⟩:=oV;refine(Ax hw hl (bY [t]).length [t] cj (rest:=rest) rfl ⟨ht,trivial⟩ (by rw[hd];simp[bY]) f1 F1).mono fun g2 w2 b_=>?_;obtain⟨cE,rfl,f2,hL⟩:=b_;refine⟨cE,_,rfl,hL,f2,?_⟩;simp[bY]
end
end
def fX:Nat->List T->List Nat
 |_,[]=>[]
 |k,t::ts=>k::fX (k+(flat t).length) ts
theorem fV:∀(ts:List T) (k:Nat),(fX k ts).length=ts.length
 |[],_=>rfl
 |t::ts,k=>by simp[fX,fV ts]
def c7(w:World)(base:Nat)(s:Value)(l:List Int):Prop:=(s=eH∧l=[])∨(l≠[]∧∃B c,s=bS B 0 l.length c∧base≤B∧(cy.vec 3 c (l.map iV)).at Tryz.prog w B)
theorem c7.keep{w w':World}{base:Nat}{s:Value}{l:List Int}(h:c7 w base s l)(f:bA w w'):c7 w' base s l:=by
 rcases h with h|⟨h1,B,c,h2,h3,h4⟩
 ·exact .inl h
 ·exact .inr ⟨h1,B,c,h2,h3,bP h4 f⟩
theorem yb(inf:TypeInfo)(hi:Tryz.prog.info? 3=some inf):inf.size=1:=by
 have e2:(Tryz.prog.info? 3).map (fun x=>x.size)=some 1:=by kernel_rfl
 rw[hi]at e2;exact au e2
theorem Ij{w:World}{B c:Nat}{xs:List Value}(h:(cy.vec 3 c xs).at Tryz.prog w B):xs.length≤c:=by obtain⟨arr,rest,inf,e1,e2,e3,e4⟩:=h;have:=congrArg aR e3;rw[yb inf e2]at e4;rw[an]at this;have:arr.size=arr.toList.length:=rfl;omega
noncomputable abbrev KdH:List Item:=Aw
noncomputable abbrev KdT(l:List Nat):List Item:=.inRegion (opsOf (E7 15667)) l::[.inBlock 1,.code (E7 1959),.inLoop (E7 244),.inBlock 0,.code (E7 31)]
section
variable {w w0:World}{cs:List Frame}{fr:Frame}{b base i k:Nat}{kids:Int}{s:Value}{l:List Int}
theorem Rg(hb:base≤w.heap.size)(hs:c7 w base s l)(hl:l.length≤1000000)(hi:(i:Int)<kids)(hf:FA 58 28 KdH [] .normal [(0,bK b),(5,s),(6,iV k),(16,iV kids),(17,iV i)] fr):
  Goes (G fr cs) w fun g' w'=>∃fr' s',g'=G fr' cs∧bU (fun x=>base≤x) w w'∧c7 w' base s' (l++[(k:Int)])∧FA 58 28 (KdT [2,3]) [] .normal [(0,bK b),(5,s'),(6,iV k),(16,iV kids),(17,iV i),(23,bK b),(24,iV k)] fr':=by
 rcases hs with⟨rfl,rfl⟩|⟨hne,B0,c,rfl,LQ,hv⟩
 ·refine(agm.go (bO [(11,k),(13,kids),(9,i)] [(61,b)] []) hf rfl ⟨decide_eq_true hi,trivial⟩ trivial).mono fun g1 w1 hd=>?_;obtain⟨I,B,bR,rfl,f1,F1,bl,_⟩:=hd;exact⟨bR,_,rfl,f1.mono fun x hx=>ax hb hx,.inr ⟨by simp,B 101,(I 101).toNat,rfl,ax hb bl.1.1,bl.1.2⟩,F1⟩
 ·obtain⟨ρ,hρ⟩:∃ρ:Env,ρ=bO [(11,k),(13,kids),(9,i),(8,l.length),(57,c)] [(61,b),(52,B0)] [(65,.agg (l.map iV).toArray)]:=⟨_,rfl⟩;have NB:ρ.b 52=B0:=by rw[hρ];rfl
  refine(kd2.Df ρ hf (by rw[hρ];rfl) ⟨by rw[hρ];exact decide_eq_true hi,by rw[hρ];show decide ((((l.length:Int).toNat:Nat):Int)+1≤1048576)=true;exact decide_eq_true (by omega),trivial⟩ trivial (nofun) ⟨⟨.vec 3 c (l.map iV),by rw[NB];exact hv,rfl,by rw[hρ];rfl,fun inf rS=>?_,(nofun),by rw[hρ];rfl⟩,trivial⟩ eS).mono fun g1 w1 hd=>?_
  ·rw[yb inf rS,aD,hρ];show l.length=((l.length:Nat):Int).toNat*1;omega
  obtain⟨I,B,bR,rfl,kp,F1,bl,_⟩:=hd;have own:∀x,k_ ρ w vj x->base≤x:=fun x hx=>by
   rcases hx with h|⟨y,hy,e⟩
   ·exact ax hb h
   ·obtain rfl:=ah.1 hy;have e:ρ.b 52=x:=e;omega
  have hB:(cy.vec 3 (I 101).toNat ((l++[(k:Int)]).map iV)).at Tryz.prog w1 (B 101):=by have:=bl.1.2;rw[hρ]at this;rw[bu];exact this
  have hn:((((l.length:Int).toNat:Nat):Int)+1).toNat=(l++[(k:Int)]).length:=by rw[an,bp];omega
  refine⟨bR,bS (B 101) 0 (l++[(k:Int)]).length (I 101).toNat,rfl,kp.mono own,.inr ⟨by simp,B 101,(I 101).toNat,rfl,own _ bl.1.1,hB⟩,?_⟩;rw[<-hn];rw[hρ]at F1;exact F1
theorem Ik{tree:List Nd}{A o c:Nat}{es:Value}{m:cV}(hw:nM w0 b tree A o c es m)(hl:tree.length≤1000000)(hk:kids≤1000000):
  ∀(ts:List T) (i k:Nat) {rest:List Nd} {l:List Int} {s:Value} {w:World} {cs:List Frame} {fr:Frame},(i:Int)+ts.length=kids->l.length=i->o9 ts->tree.drop k=bY ts++rest->bA w0 w->c7 w w0.heap.size s l->FA 58 28 KdH [] .normal [(0,bK b),(5,s),(6,iV k),(16,iV kids),(17,iV i)] fr->
  Goes (G fr cs) w fun g' w'=>∃fr' s',g'=G fr' cs∧bA w0 w'∧c7 w' w0.heap.size s' (l++(fX k ts).map Int.ofNat)∧de 58 fr' w' s'
 |[],i,k,rest,l,s,w,cs,fr,hi,Gn,hwf,hd,fw,hs,hf=>by refine(kd5.go (bO [(11,k),(13,kids),(9,i)] [(61,b)] [(5,s)]) hf rfl ⟨decide_eq_false (by show ¬((i:Int)<kids);simp only[aX]at hi;omega),trivial⟩ trivial).trans fun g1 w1 hd=>?_;obtain⟨I,B,bR,rfl,f1,F1,_⟩:=hd;refine(leave1 abz F1 rfl).mono fun g2 w2 b_=>?_;obtain⟨cE,rfl,rfl,hL⟩:=b_;refine⟨cE,s,rfl,fw.trans f1,?_,hL⟩;simp only[fX,List.map_nil,aV];exact hs.keep f1
 |t::ts,i,k,rest,l,s,w,cs,fr,hi,Gn,hwf,hd,fw,hs,hf=>by
  simp only[aC]at hi;refine(Rg fw.size hs (by omega) (by omega) hf).trans fun g1 w1 oV=>?_;obtain⟨bR,s1,rfl,kp,hs1,F1⟩:=oV;have Dr:=cw fw kp;have hd':tree.drop k=flat t++(bY ts++rest):=by rw[hd];simp[bY]
  refine(kd3.go (bO [] [] [(23,bK b),(24,iV k)]) (Q:=fun v w'=>v=iV ((k+(flat t).length:Nat):Int)) F1 rfl fun w' f2=>NR (hw.keep (Dr.trans f2)) hl hwf.1 hd').trans fun g2 w2 b_=>?_;obtain⟨cE,vv,rfl,f2,rfl,F2⟩:=b_;refine(kd4.go (bO [(13,kids),(9,i),(12,(k+(flat t).length:Nat))] [(61,b)] [(5,s1)]) F2 rfl trivial trivial).trans fun g3 w3 cv=>?_;obtain⟨I,B,cF,rfl,f3,F3,_⟩:=cv;have Gq:tree.drop (k+(flat t).length)=bY ts++rest:=by rw[<-List.drop_drop,hd',List.drop_left]
  have:=Ik hw hl hk ts (i+1) (k+(flat t).length) (rest:=rest) (l:=l++[(k:Int)]) (s:=s1) (w:=w3) (cs:=cs) (fr:=cF) (by omega) (by rw[an,bp,Gn]) hwf.2 Gq (Dr.trans (f2.trans f3)) (hs1.keep (f2.trans f3)) (by rw[<-inc (i:=i) (by omega)];exact F3)
  refine this.mono fun g4 w4 dh=>?_;obtain⟨eO,s',h1,h2,h3,h4⟩:=dh;refine⟨eO,s',h1,h2,?_,h4⟩;rw[a_]at h3;exact h3
theorem NS{tree:List Nd}{A o c cj:Nat}{es:Value}{m:cV}{n:Nd}{ks:List T}{rest:List Nd}(hw:nM w b tree A o c es m)(hl:tree.length≤1000000)(ht:vk (.nd n ks))(hd:tree.drop cj=flat (.nd n ks)++rest):dV 58 #[bK b,iV cj] w fun v w'=>bA w w'∧c7 w' w.heap.size v ((fX (cj+1) ks).map Int.ofNat):=by
 refine cI fun cs=>?_;have oV:tree.drop cj=n::(bY ks++rest):=by rw[hd];simp[flat]
 obtain⟨hx,b_,hlt⟩:=dM oV;have iK:=hw.el cj n hx;have hfl:=f_ ks;have hle:(bY ks).length≤tree.length:=by have:=congrArg aR b_;rw[an,br]at this;omega
 have hk:n.kids=ks.length:=ht.1;refine(kd1.go (bO [(10,cj),(51,tree.length),(52,c),(53,o),(13,n.kids)] [(61,b),(50,A)] []) (dU aby rfl (bK b) (iV cj)) rfl (bX (i:=10) (n:=51) (I:=cj) (N:=tree.length) rfl rfl hlt) ⟨hw.c0,iK.c2,trivial⟩).trans fun g1 w1 oV=>?_;obtain⟨I,B,bR,rfl,f1,F1,_⟩:=oV;refine(Ik (hw) hl (kids:=n.kids) (by omega) ks 0 (cj+1) (rest:=rest) (l:=[]) (s:=eH) (by omega) rfl ht.2 b_ f1 (.inl ⟨rfl,rfl⟩) (by rw[<-inc (i:=cj) (by omega)];exact F1)).mono fun g2 w2 b_=>?_
 obtain⟨cE,s',rfl,f2,h3,h4⟩:=b_;exact⟨cE,s',rfl,h4,f2,h3⟩
end
noncomputable def l5(l:Nat):Code:=pc (bD Tryz.f37) (pd l)
theorem abE:bT Tryz.prog 37 [.bF 0,.bF 1] .normal=.ok ⟨37,83,c_ 37 [.bF 0,.bF 1],[.code (bD Tryz.f37)],[],.run,.normal⟩:=by kernel_rfl
theorem NT:dL 37 83 4:=fun st=>by kernel_rfl
noncomputable def kz(l:Nat):Code:=pc (bD Tryz.f60) (pd l)
theorem abF:bT Tryz.prog 60 j6 .normal=.ok ⟨60,98,c_ 60 j6,[.code (bD Tryz.f60)],[],.run,.normal⟩:=by kernel_rfl
theorem NU:dL 60 98 8:=fun st=>by kernel_rfl
theorem nd1:Pc 37 83 [.code (bD Tryz.f37)] NP (fo 10 51) [(eD 61 0,sA 50 53 51 52),(eB 50 53 10 4,i8 (v 1)),(eA 50 53 10 4 1,i64 (v 2)),(eA 50 53 10 4 2,i64 (v 3)),(eA 50 53 10 4 3,i64 (v 4))] [] 20 [100] [0,5,20,21] [.inRegion (opsOf (l5 14)) [2,3],.code (l5 15)] [bC 61,bC 100,bC 61,i64 (v 10)] Aq:={}
theorem nd2:dy 83 (opsOf (l5 14)) 2 [(20,.bF 20),(21,.bF 21)] 58 [.bF 20,.bF 21] 22:={}
noncomputable abbrev Dy:List Item:=[.inRegion (opsOf (l5 14)) [3],.code (l5 15)]
noncomputable abbrev NV:List (Nat×AV):=[(0,bC 61),(5,bC 64),(22,.bF 22)]
noncomputable abbrev Il:List Item:=[.code .ret,.inBlock 0,.code (l5 31)]
theorem nd3:Pc 37 83 Dy NV [((.cmp .eql (v 1) (.lit 1)),true)] qY [] 22 [] [4] Il [.iface 97 (i64 (v 2))] []:={}
noncomputable abbrev abG:List (AA×AV):=[(eD 64 0,i8 (v 1)),(eD 64 1,i64 (v 2)),(eD 64 2,i64 (v 3)),(eD 64 3,i64 (v 4)),(eD 61 1,sA 70 73 71 72),(eB 70 73 2 2,i8 (v 15)),(eA 70 73 2 2 1,i64 (v 16))]
theorem Rh:Pc 37 83 Dy NV (((.cmp .eql (v 1) (.lit 1)),false)::((.cmp .eql (v 1) (.lit 2)),true)::((.cmp .eql (v 15) (.lit 1)),true)::fo 2 71) abG [] 23 [] [4] Il [.iface 97 (i64 (v 16))] []:={}
theorem NW:Pc 37 83 Dy NV (((.cmp .eql (v 1) (.lit 1)),false)::((.cmp .eql (v 1) (.lit 2)),true)::((.cmp .eql (v 15) (.lit 1)),false)::fo 2 71) abG [] 23 [] [4] Il [.iface 100 (.agg [i8 (v 15),i64 (v 16)])] []:={}
abbrev abH:List (BE×Bool):=[((.cmp .eql (v 1) (.lit 1)),false),((.cmp .eql (v 1) (.lit 2)),false),((.cmp .eql (v 1) (.lit 11)),true)]
noncomputable abbrev Dz:List Item:=[.code (l5 125924),.inLoop (l5 125924),.inBlock 1,.code (l5 15741),.inBlock 0,.code (l5 31)]
theorem nd5:Pc 37 83 Dy [(0,bC 61),(5,bC 64),(22,sA 80 83 81 82)] abH qY [] 36 [] [0,6,43,44,45] Dz [bC 61,sA 80 83 81 82,sA 80 83 81 82,i64 (.tn (v 81)),i64 (.lit 0)] []:={}
noncomputable abbrev TC:List (Nat×AV):=[(0,bC 61),(6,sA 80 83 81 82),(43,sA 80 83 81 82),(44,i64 (.tn (v 81))),(45,i64 (v 10))]
theorem nd6:Pc 37 83 Dz TC (fo 10 81) [(eC 80 83 10,i64 (v 12))] [] 19 [] [0,6,43,44,45,50,51] [.inRegion (opsOf (l5 8059186)) [2,3,4,5,6,7,8],.code (l5 8059187),.inBlock 2,.code (l5 1007399),.inLoop (l5 125924),.inBlock 1,.code (l5 15741),.inBlock 0,.code (l5 31)] [bC 61,sA 80 83 81 82,sA 80 83 81 82,i64 (.tn (v 81)),i64 (v 10),bC 61,i64 (v 12)] []:={}
theorem nd7:dy 83 (opsOf (l5 8059186)) 2 [(50,.bF 50),(51,.bF 51)] 37 [.bF 50,.bF 51] 52:={}
noncomputable abbrev abI:List Item:=[.inRegion (opsOf (l5 8059186)) [3,4,5,6,7,8],.code (l5 8059187),.inBlock 2,.code (l5 1007399),.inLoop (l5 125924),.inBlock 1,.code (l5 15741),.inBlock 0,.code (l5 31)]
theorem nd8:Pc 37 83 abI [(0,bC 61),(6,sA 80 83 81 82),(43,sA 80 83 81 82),(44,i64 (.tn (v 81))),(45,i64 (v 10)),(52,.iface 97 (i64 (v 6)))] [] [] [] 18 [] [4] [.code .ret,.inBlock 2,.code (l5 1007399),.inLoop (l5 125924),.inBlock 1,.code (l5 15741),.inBlock 0,.code (l5 31)] [.iface 97 (i64 (v 6))] []:={}
theorem nd9:Pc 37 83 abI [(0,bC 61),(6,sA 80 83 81 82),(43,sA 80 83 81 82),(44,i64 (.tn (v 81))),(45,i64 (v 10)),(52,.iface 100 (.agg [i8 (v 5),i64 (v 6)]))] [] [] [] 19 [] [0,6,43,44,45] Dz [bC 61,sA 80 83 81 82,sA 80 83 81 82,i64 (.tn (v 81)),i64 (.op .add .i64 (v 10) (.lit 1))] []:={}
theorem ndA:Pc 37 83 Dz TC [((.cmp .lss (v 10) (.tn (v 81))),false),((.cmp .lss (.lit 0) (.tn (v 81))),true)] [(⟨(.dyn 80),(v 83)⟩,i64 (v 12))] [] 13 [] [60,63] [.inRegion (opsOf (l5 31482)) [4,5],.code .ret,.inBlock 0,.code (l5 31)] [bC 61,i64 (v 12)] []:={}
theorem ndB:dy 83 (opsOf (l5 31482)) 4 [(60,.bF 60),(63,.bF 63)] 37 [.bF 60,.bF 63] 64:={}
theorem ndC:Pc 37 83 [.inRegion (opsOf (l5 31482)) [5],.code .ret,.inBlock 0,.code (l5 31)] [(64,.bF 64)] [] [] [] 2 [] [4] Il [.bF 64] []:={}
theorem ndD:Pc 37 83 Dy [(0,bC 61),(5,bC 64),(22,sA 80 83 81 82)] [((.cmp .eql (v 1) (.lit 1)),false),((.cmp .eql (v 1) (.lit 2)),false),((.cmp .eql (v 1) (.lit 11)),false),((.cmp .lss (.lit 0) (.tn (v 81))),true)] [(eD 64 0,i8 (v 1)),(eD 64 1,i64 (v 2)),(eD 64 2,i64 (v 3)),(eD 64 3,i64 (v 4)),(⟨(.dyn 80),(v 83)⟩,i64 (v 12))] [] 36 [] [0,5,6,65,68] [.inRegion (opsOf (l5 124)) [4],.code (l5 125),.code (l5 63)] [bC 61,bC 64,sA 80 83 81 82,bC 61,i64 (v 12)] []:={}
theorem ndE:dy 83 (opsOf (l5 124)) 4 [(65,.bF 65),(68,.bF 68)] 37 [.bF 65,.bF 68] 69:={}
noncomputable abbrev TD:List Item:=[.inRegion (opsOf (l5 124)) [],.code (l5 125),.code (l5 63)]
theorem ndF:Pc 37 83 TD [(0,bC 61),(5,bC 64),(6,sA 80 83 81 82),(69,.iface 100 (.agg [i8 (v 5),i64 (v 6)]))] [] [] [] 20 [] [4] [.code .ret,.inBlock 3,.code (l5 63)] [.iface 100 (.agg [i8 (v 5),i64 (v 6)])] []:={}
theorem ndG:Pc 37 83 TD [(0,bC 61),(5,bC 64),(6,sA 80 83 81 82),(69,.iface 97 (i64 (v 6)))] [] qY [] 26 [] [78,79,80,81] [.inRegion (opsOf (l5 16058)) [4,5],.code .ret,.inBlock 3,.code (l5 63)] [bC 61,.agg [i8 (v 1),i64 (v 2),i64 (v 3),i64 (v 4)],sA 80 83 81 82,i64 (v 6)] []:={}
theorem ndH:dy 83 (opsOf (l5 16058)) 4 [(78,.bF 78),(79,.bF 79),(80,.bF 80),(81,.bF 81)] 60 [.bF 78,.bF 79,.bF 80,.bF 81] 82:={}
theorem ndI:Pc 37 83 [.inRegion (opsOf (l5 16058)) [5],.code .ret,.inBlock 3,.code (l5 63)] [(82,.bF 82)] [] [] [] 2 [] [4] [.code .ret,.inBlock 3,.code (l5 63)] [.bF 82] []:={}
noncomputable abbrev DC:List (Nat×AV):=[(0,bC 61),(1,.agg [i8 (v 1),i64 (v 2),i64 (v 3),i64 (v 4)]),(2,sA 80 83 81 82),(3,i64 (v 5))]
theorem wi1:Pc 60 98 [.code (bD Tryz.f60)] DC [((.cmp .eql (v 1) (.lit 12)),true),((.cmp .neq (v 5) (.lit 0)),true),((.cmp .lss (.lit 1) (.tn (v 81))),true)] [(⟨(.dyn 80),(.plus (.tn (v 83)) (.lit 1))⟩,i64 (v 12))] [] 31 [] [20,23] [.inRegion (opsOf (kz 1700)) [4,5],.code .ret,.code (kz 213),.inBlock 0,.code (kz 7)] [bC 61,i64 (v 12)] []:={}
theorem wi2:dy 98 (opsOf (kz 1700)) 4 [(20,.bF 20),(23,.bF 23)] 37 [.bF 20,.bF 23] 24:={}
theorem wi3:Pc 60 98 [.inRegion (opsOf (kz 1700)) [5],.code .ret,.code (kz 213),.inBlock 0,.code (kz 7)] [(24,.bF 24)] [] [] [] 2 [] [8] [.code .ret,.code (kz 213),.inBlock 0,.code (kz 7)] [.bF 24] []:={}
theorem wi4:Pc 60 98 [.code (bD Tryz.f60)] DC [((.cmp .eql (v 1) (.lit 12)),true),((.cmp .neq (v 5) (.lit 0)),false),((.cmp .lss (.lit 2) (.tn (v 81))),true)] [(⟨(.dyn 80),(.plus (.tn (v 83)) (.lit 2))⟩,i64 (v 12))] [] 32 [] [25,28] [.inRegion (opsOf (kz 426)) [4,5],.code .ret,.inBlock 0,.code (kz 7)] [bC 61,i64 (v 12)] []:={}
theorem wi5:dy 98 (opsOf (kz 426)) 4 [(25,.bF 25),(28,.bF 28)] 37 [.bF 25,.bF 28] 29:={}
noncomputable abbrev Ay:List Item:=[.code .ret,.inBlock 0,.code (kz 7)]
theorem wi6:Pc 60 98 [.inRegion (opsOf (kz 426)) [5],.code .ret,.inBlock 0,.code (kz 7)] [(29,.bF 29)] [] [] [] 2 [] [8] Ay [.bF 29] []:={}
theorem wi7:Pc 60 98 [.code (bD Tryz.f60)] DC [((.cmp .eql (v 1) (.lit 12)),false),((.cmp .eql (v 1) (.lit 3)),true)] [] [] 31 [] [8] Ay [.iface 97 (i64 (.op .sub .i64 (.lit 0) (v 5)))] []:={}
theorem wi8:Pc 60 98 [.code (bD Tryz.f60)] DC [((.cmp .eql (v 1) (.lit 12)),false),((.cmp .eql (v 1) (.lit 3)),false),((.cmp .eql (v 1) (.lit 13)),true)] [] [] 37 [] [8] Ay [.iface 100 (.agg [i8 (.lit 2),i64 (v 5)])] []:={}
theorem wi9:Pc 60 98 [.code (bD Tryz.f60)] DC [((.cmp .eql (v 1) (.lit 12)),false),((.cmp .eql (v 1) (.lit 3)),false),((.cmp .eql (v 1) (.lit 13)),false),((.cmp .eql (v 1) (.lit 14)),true)] [] [] 43 [] [8] Ay [.iface 100 (.agg [i8 (.lit 3),i64 (v 5)])] []:={}
noncomputable abbrev Az:List AV:=[i64 (v 21),i64 (v 22),i64 (v 23),i64 (v 24)]
theorem wiA:Pc 60 98 [.code (bD Tryz.f60)] DC [((.cmp .eql (v 1) (.lit 12)),false),((.cmp .eql (v 1) (.lit 3)),false),((.cmp .eql (v 1) (.lit 13)),false),((.cmp .eql (v 1) (.lit 14)),false),((.cmp .eql (v 1) (.lit 15)),true)] [(eD 61 2,i64 (v 21)),(eD 61 3,i64 (v 22)),(eD 61 4,i64 (v 23)),(eD 61 5,i64 (v 24))] [] 49 [] [50,51] [.inRegion (opsOf (kz 55292)) [5,6],.code .ret,.inBlock 0,.code (kz 7)] [.agg Az,i64 (v 5)] []:={}
theorem wiB:dy 98 (opsOf (kz 55292)) 5 [(50,.bF 50),(51,.bF 51)] 82 [.bF 50,.bF 51] 52:={}
theorem wiC:Pc 60 98 [.inRegion (opsOf (kz 55292)) [6],.code .ret,.inBlock 0,.code (kz 7)] [(52,.bF 52)] [] [] [] 2 [] [8] Ay [.bF 52] []:={}
theorem wiD:Pc 60 98 [.code (bD Tryz.f60)] DC [((.cmp .eql (v 1) (.lit 12)),false),((.cmp .eql (v 1) (.lit 3)),false),((.cmp .eql (v 1) (.lit 13)),false),((.cmp .eql (v 1) (.lit 14)),false),((.cmp .eql (v 1) (.lit 15)),false),((.cmp .eql (v 1) (.lit 16)),true)] [] [] 54 [] [8] Ay [.iface 97 (i64 (v 5))] []:={}
theorem wiE:Pc 60 98 [.code (bD Tryz.f60)] DC [((.cmp .eql (v 1) (.lit 12)),false),((.cmp .eql (v 1) (.lit 3)),false),((.cmp .eql (v 1) (.lit 13)),false),((.cmp .eql (v 1) (.lit 14)),false),((.cmp .eql (v 1) (.lit 15)),false),((.cmp .eql (v 1) (.lit 16)),false)] [] [] 59 [100] [0,3,5,9,58] [.inRegion (opsOf (kz 60)) [1,2,3],.code (kz 61),.code (kz 31)] [bC 61,i64 (v 5),bC 100,i64 (v 5),sA 80 83 81 82] Aq:={}
theorem wiF:j7 98 (opsOf (kz 60)) 1 [] (.slice 23 (.tmp 58) (some (.const (.int .i64 1))) none none) 23 (some 59):={}
noncomputable abbrev vl:List Item:=[.code (kz 244),.inLoop (kz 244),.inBlock 1,.code (kz 31)]
theorem wiG:Pc 60 98 [.inRegion (opsOf (kz 60)) [2,3],.code (kz 61),.code (kz 31)] [(0,bC 61),(3,i64 (v 5)),(5,bC 64),(9,i64 (v 7)),(59,sA 80 83 81 82)] [] [] [] 5 [] [0,3,5,9,59,60,61] vl [bC 61,i64 (v 5),bC 64,i64 (v 7),sA 80 83 81 82,i64 (.tn (v 81)),i64 (.lit 0)] []:={}
noncomputable abbrev abJ:List (Nat×AV):=[(0,bC 61),(3,i64 (v 5)),(5,bC 64),(9,i64 (v 7)),(59,sA 80 83 81 82),(60,i64 (.tn (v 81))),(61,i64 (v 10))]
theorem wiH:Pc 60 98 vl abJ (fo 10 81) [(eC 80 83 10,i64 (v 12))] [] 19 [] [0,3,5,9,11,59,60,61,66,67] [.inRegion (opsOf (kz 15666)) [2,3,4,5,6,7,8],.code (kz 15667),.inBlock 2,.code (kz 1959),.inLoop (kz 244),.inBlock 1,.code (kz 31)] [bC 61,i64 (v 5),bC 64,i64 (v 7),i64 (v 12),sA 80 83 81 82,i64 (.tn (v 81)),i64 (v 10),bC 61,i64 (v 12)] []:={}
theorem wiI:dy 98 (opsOf (kz 15666)) 2 [(66,.bF 66),(67,.bF 67)] 37 [.bF 66,.bF 67] 68:={}
noncomputable abbrev NX:List Item:=[.inRegion (opsOf (kz 15666)) [3,4,5,6,7,8],.code (kz 15667),.inBlock 2,.code (kz 1959),.inLoop (kz 244),.inBlock 1,.code (kz 31)]
theorem wiJ:Pc 60 98 NX [(0,bC 61),(3,i64 (v 5)),(5,bC 64),(9,i64 (v 7)),(59,sA 80 83 81 82),(60,i64 (.tn (v 81))),(61,i64 (v 10)),(11,i64 (v 12)),(68,.iface 100 (.agg [i8 (v 8),i64 (v 6)]))] [] [] [] 18 [] [74,75] [.inRegion (opsOf (kz 250676)) [2,3],.code .ret,.code (kz 31335),.inBlock 2,.code (kz 1959),.inLoop (kz 244),.inBlock 1,.code (kz 31)] [bC 61,i64 (v 12)] []:={}
theorem wiK:dy 98 (opsOf (kz 250676)) 2 [(74,.bF 74),(75,.bF 75)] 37 [.bF 74,.bF 75] 76:={}
theorem wiL:Pc 60 98 [.inRegion (opsOf (kz 250676)) [3],.code .ret,.code (kz 31335),.inBlock 2,.code (kz 1959),.inLoop (kz 244),.inBlock 1,.code (kz 31)] [(76,.bF 76)] [] [] [] 2 [] [8] [.code .ret,.code (kz 31335),.inBlock 2,.code (kz 1959),.inLoop (kz 244),.inBlock 1,.code (kz 31)] [.bF 76] []:={}
noncomputable abbrev Ri:List (Nat×AV):=[(0,bC 61),(3,i64 (v 5)),(5,bC 64),(9,i64 (v 7)),(59,sA 80 83 81 82),(60,i64 (.tn (v 81))),(61,i64 (v 10)),(11,i64 (v 12)),(68,.iface 97 (i64 (v 6)))]
theorem agn:Pc 60 98 NX Ri Nh [(eD 64 0,i8 (v 1))] [] 45 [] [0,3,5,9,59,60,61] vl [bC 61,i64 (v 5),bC 64,i64 (.op .add .i64 (v 5) (v 6)),sA 80 83 81 82,i64 (.tn (v 81)),i64 (.op .add .i64 (v 10) (.lit 1))] []:={}
theorem ago:Pc 60 98 NX Ri Ni [(eD 64 0,i8 (v 1))] [] 51 [] [0,3,5,9,59,60,61] vl [bC 61,i64 (v 5),bC 64,i64 (.op .sub .i64 (v 5) (v 6)),sA 80 83 81 82,i64 (.tn (v 81)),i64 (.op .add .i64 (v 10) (.lit 1))] []:={}
theorem agp:Pc 60 98 NX Ri VE [(eD 64 0,i8 (v 1))] [] 57 [] [0,3,5,9,59,60,61] vl [bC 61,i64 (v 5),bC 64,i64 (.op .mul .i64 (v 5) (v 6)),sA 80 83 81 82,i64 (.tn (v 81)),i64 (.op .add .i64 (v 10) (.lit 1))] []:={}
theorem agq:Pc 60 98 NX Ri [((.cmp .eql (v 1) (.lit 4)),false),((.cmp .eql (v 1) (.lit 5)),false),((.cmp .eql (v 1) (.lit 6)),false)] [(eD 64 0,i8 (v 1))] [] 52 [] [0,3,5,9,59,60,61] vl [bC 61,i64 (v 5),bC 64,i64 (v 6),sA 80 83 81 82,i64 (.tn (v 81)),i64 (.op .add .i64 (v 10) (.lit 1))] []:={}
theorem wiN:Pc 60 98 vl abJ [((.cmp .lss (v 10) (.tn (v 81))),false)] [] [] 13 [] [8] [.code .ret] [.iface 97 (i64 (v 7))] []:={}
def lu(op x y:Int):Int:=if op=4 then iz .add .i64 x y else if op=5 then iz .sub .i64 x y else if op=6 then iz .mul .i64 x y else y
def oZ(op x:Int):Int->List (Int×Int)->Int×Int
 |acc,[]=>(1,acc)
 |acc,e::r=>if e.1=1 then oZ op x (lu op x e.2) r else e
def lF(op x:Int)(m:cV)(vs:List (Int×Int)):Int×Int:=
 if op=12 then(if x≠0 then vs.getD 1 (0,0)else vs.getD 2 (0,0))
 else if op=3 then(1,iz .sub .i64 0 x)
 else if op=13 then(2,x)
 else if op=14 then(3,x)
 else if op=15 then eU m x
 else if op=16 then(1,x)
 else oZ op x x (vs.drop 1)
def qZ(op n:Int)(E:List (Int×Int))(m:cV)(vs:List (Int×Int)):Int×Int:=
 if op=1 then(1,n)
 else if op=2 then E.getD n.toNat (0,0)
 else if op=11 then(vs.find? fun e=>decide (e.1=1)).getD (vs.headD (0,0))
 else if(vs.headD (0,0)).1=1 then lF op (vs.headD (0,0)).2 m vs else vs.headD (0,0)
mutual
def qB(E:List (Int×Int))(m:cV):T->Int×Int
 |.nd n ks=>qZ n.op n.n E m (sC E m ks)
def sC(E:List (Int×Int))(m:cV):List T->List (Int×Int)
 |[]=>[]
 |t::ts=>qB E m t::sC E m ts
end
theorem wv(E:List (Int×Int))(m:cV):∀ts:List T,sC E m ts=ts.map (qB E m)
 |[]=>rfl
 |t::ts=>by rw[sC,wv E m ts];rfl
mutual
def nv(N:Nat):T->Prop
 |.nd n ks=>(n.op=2->0≤n.n∧n.n<N)∧(n.op≠1->n.op≠2->ks≠[])∧(n.op=12->ks.length=3)∧lf N ks
def lf(N:Nat):List T->Prop
 |[]=>True
 |t::ts=>nv N t∧lf N ts
end
theorem o9.mem:∀{ts:List T},o9 ts->∀t∈ts,vk t
 |t'::ts,h,t,ht=>by
  rcases ai.1 ht with rfl|ht
  ·exact h.1
  ·exact o9.mem (ts:=ts) h.2 t ht
theorem lf.mem{N:Nat}:∀{ts:List T},lf N ts->∀t∈ts,nv N t
 |t'::ts,h,t,ht=>by
  rcases ai.1 ht with rfl|ht
  ·exact h.1
  ·exact lf.mem (ts:=ts) h.2 t ht
theorem lg{e:Int×Int}(h:e.1=1):gI e=.iface 97 (iV e.2):=by unfold gI;rw[if_pos h]
theorem mG{e:Int×Int}(h:e.1≠1):gI e=.iface 100 (.agg #[cY e.1,iV e.2]):=by unfold gI;rw[if_neg h]
def ndV(n:Nd):Value:=.agg #[cY n.op,iV n.n,iV n.kids,iV n.cj]
structure abK(w:World)(b:Nat)(m:cV):Prop where
 c2:w.cell? ⟨b,2,none⟩=some (iV m.mul)
 c3:w.cell? ⟨b,3,none⟩=some (iV m.add)
 c4:w.cell? ⟨b,4,none⟩=some (iV m.cJ)
 c5:w.cell? ⟨b,5,none⟩=some (iV m.panics)
theorem abL:under? Tryz.prog 23=.ok (.slice 3):=by kernel_rfl
theorem abM:sizeOf? Tryz.prog 3=.ok 1:=by kernel_rfl
def Im(w0:World)(b:Nat)(js:List Nat)(vs:List (Int×Int)):Prop:=∀(i j:Nat) (e:Int×Int),js[i]?=some j->vs[i]?=some e->∀w',bA w0 w'->dV 37 #[bK b,iV j] w' fun v w2=>bA w' w2∧v=gI e
noncomputable abbrev WiH:List Item:=vl
section
variable {w w0:World}{cs:List Frame}{fr:Frame}
theorem both{js:List Nat}{vs:List (Int×Int)}(hl:js.length=vs.length){i:Nat}(h:i<vs.length):∃j e,js[i]?=some j∧vs[i]?=some e:=⟨_,_,aa (hl▸h),aa h⟩
theorem Io{b X K o' c:Nat}{op x:Int}{js:List Nat}{vs:List (Int×Int)}(hl:js.length=vs.length)(hbig:js.length≤1000000)(hX:w0.cell? ⟨X,0,none⟩=some (cY op))(hc:∀i j:Nat,js[i+1]?=some j->w0.cell? ⟨K,o'+i,none⟩=some (iV j))(hk:Im w0 b js vs):
  ∀(m i:Nat) (acc:Int) {w:World} {cs:List Frame} {fr:Frame},i+m+1=vs.length->bA w0 w->FA 60 98 WiH [] .normal [(0,bK b),(3,iV x),(5,bK X),(9,iV acc),(59,bS K o' (js.length-1) c),(60,iV ((js.length-1:Nat):Int)),(61,iV i)] fr->
  Goes (G fr cs) w fun g' w'=>∃fr',g'=G fr' cs∧bA w0 w'∧de 60 fr' w' (gI (oZ op x acc (vs.drop (i+1))))
 |0,i,acc,w,cs,fr,hi,fw,hf=>by refine(wiN.go (bO [(5,x),(7,acc),(83,o'),(81,(js.length-1:Nat)),(82,c),(10,i)] [(61,b),(64,X),(80,K)] []) hf rfl ⟨decide_eq_false (by show ¬((i:Int)<((js.length-1:Nat):Int));omega),trivial⟩ trivial).trans fun g1 w1 hd=>?_;obtain⟨I,B,bR,rfl,f1,F1,_⟩:=hd;refine(leave1 NU F1 rfl).mono fun g2 w2 b_=>?_;obtain⟨cE,rfl,rfl,hL⟩:=b_;rw[aI (by omega)];exact⟨cE,rfl,fw.trans f1,hL⟩
 |m+1,i,acc,w,cs,fr,hi,fw,hf=>by
  obtain⟨j,e,hj,he⟩:=both hl (i:=i+1) (by omega);refine(wiH.go (bO [(5,x),(7,acc),(83,o'),(81,(js.length-1:Nat)),(82,c),(10,i),(12,j)] [(61,b),(64,X),(80,K)] []) hf rfl (bX (i:=10) (n:=81) (I:=i) (N:=js.length-1) rfl rfl (by omega)) ⟨fw.cell (hc i j hj),trivial⟩).trans fun g1 w1 hd=>?_;obtain⟨I,B,bR,rfl,f1,F1,_⟩:=hd;refine(wiI.go (bO [] [] [(66,bK b),(67,iV j)]) (Q:=fun v w'=>v=gI e) F1 rfl fun w' f2=>hk (i+1) j e hj he w' (fw.trans (f1.trans f2))).trans fun g2 w2 b_=>?_;obtain⟨cE,vv,rfl,f2,rfl,F2⟩:=b_;have Gr:=fw.trans (f1.trans f2);have dS:vs.drop (i+1)=e::vs.drop (i+1+1):=by
   have hlt:i+1<vs.length:=by omega
   rw[aG hlt];congr 1;exact au ((aa hlt).symm.trans he)
  rw[dS];by_cases h1:e.1=1
  ·rw[lg h1]at F2;have next:∀{w3:World} {cF:Frame} {y:Int},y=lu op x e.2->bA w2 w3->FA 60 98 WiH [] .normal [(0,bK b),(3,iV x),(5,bK X),(9,iV y),(59,bS K o' (js.length-1) c),(60,iV ((js.length-1:Nat):Int)),(61,iV (iz .add .i64 i 1))] cF->Goes (G cF cs) w3 fun g' w'=>∃fr',g'=G fr' cs∧bA w0 w'∧de 60 fr' w' (gI (oZ op x acc (e::vs.drop (i+1+1)))):=fun{w3 cF y} hy f3 F3=>by
    subst hy;rw[inc (by omega)]at F3;unfold oZ;rw[if_pos h1];exact Io hl hbig hX hc hk m (i+1) (lu op x e.2) (by omega) (Gr.trans f3) F3
   obtain⟨ρ,hρ⟩:∃ρ:Env,ρ=bO [(5,x),(7,acc),(83,o'),(81,(js.length-1:Nat)),(82,c),(10,i),(12,j),(6,e.2),(1,op)] [(61,b),(64,X),(80,K)] []:=⟨_,rfl⟩;have mm:cq ρ w2 [(eD 64 0,i8 (v 1))]:=by rw[hρ];exact⟨Gr.cell hX,trivial⟩
   by_cases h4:op=4
   ·refine(agn.go ρ F2 (by rw[hρ];rfl) ⟨by rw[hρ];exact decide_eq_true h4,trivial⟩ mm).trans fun g3 w3 cv=>?_;obtain⟨I,B,cF,rfl,f3,F3,_⟩:=cv;rw[hρ]at F3;exact next (by unfold lu;rw[if_pos h4];rfl) f3 F3
   by_cases h5:op=5
   ·refine(ago.go ρ F2 (by rw[hρ];rfl) ⟨by rw[hρ];exact decide_eq_false h4,by rw[hρ];exact decide_eq_true h5,trivial⟩ mm).trans fun g3 w3 cv=>?_;obtain⟨I,B,cF,rfl,f3,F3,_⟩:=cv;rw[hρ]at F3;exact next (by unfold lu;rw[if_neg h4,if_pos h5];rfl) f3 F3
   by_cases h6:op=6
   ·refine(agp.go ρ F2 (by rw[hρ];rfl) ⟨by rw[hρ];exact decide_eq_false h4,by rw[hρ];exact decide_eq_false h5,by rw[hρ];exact decide_eq_true h6,trivial⟩ mm).trans fun g3 w3 cv=>?_;obtain⟨I,B,cF,rfl,f3,F3,_⟩:=cv;rw[hρ]at F3;exact next (by unfold lu;rw[if_neg h4,if_neg h5,if_pos h6];rfl) f3 F3
   ·refine(agq.go ρ F2 (by rw[hρ];rfl) ⟨by rw[hρ];exact decide_eq_false h4,by rw[hρ];exact decide_eq_false h5,by rw[hρ];exact decide_eq_false h6,trivial⟩ mm).trans fun g3 w3 cv=>?_;obtain⟨I,B,cF,rfl,f3,F3,_⟩:=cv;rw[hρ]at F3;exact next (y:=e.2) (by unfold lu;rw[if_neg h4,if_neg h5,if_neg h6]) f3 F3
  ·rw[mG h1]at F2;refine(wiJ.go (bO [(5,x),(8,e.1),(7,acc),(83,o'),(81,(js.length-1:Nat)),(82,c),(10,i),(12,j),(6,e.2)] [(61,b),(64,X),(80,K)] []) F2 rfl trivial trivial).trans fun g3 w3 cv=>?_;obtain⟨I,B,cF,rfl,f3,F3,_⟩:=cv;refine(wiK.go (bO [] [] [(74,bK b),(75,iV j)]) (Q:=fun v w'=>v=gI e) F3 rfl fun w' f4=>hk (i+1) j e hj he w' (Gr.trans (f3.trans f4))).trans fun g4 w4 dh=>?_;obtain⟨eO,vv,rfl,f4,rfl,F4⟩:=dh;refine(wiL.go (bO [] [] [(76,gI e)]) F4 rfl trivial trivial).trans fun g5 w5 eg=>?_;obtain⟨I,B,gn,rfl,f5,F5,_⟩:=eg;refine(leave1 NU F5 rfl).mono fun g6 w6 dz=>?_;obtain⟨dK,rfl,rfl,hL⟩:=dz;unfold oZ;rw[if_neg h1];exact⟨dK,rfl,Gr.trans (f3.trans (f4.trans f5)),hL⟩
theorem NY{b K c:Nat}{m:cV}{n:Nd}{x:Int}{js:List Nat}{vs:List (Int×Int)}(hl:js.length=vs.length)(hbig:js.length≤1000000)(hne:vs≠[])(hcap:js.length≤c)(hc:∀i j:Nat,js[i]?=some j->w.cell? ⟨K,0+i,none⟩=some (iV j))(hm:abK w b m)(hk:Im w b js vs)(h12:n.op=12->vs.length=3):
  dV 60 #[bK b,ndV n,bS K 0 js.length c,iV x] w fun v w'=>bA w w'∧v=gI (lF n.op x m vs):=by
 have E:=xW abF rfl (bK b) (ndV n) (bS K 0 js.length c) (iV x);have hpos:0<vs.length:=bq.2 hne;refine cI fun cs=>?_;obtain⟨ρ,hρ⟩:∃ρ:Int->Env,ρ=fun j=>bO [(1,n.op),(2,n.n),(3,n.kids),(4,n.cj),(5,x),(83,(0:Nat)),(81,js.length),(82,c),(12,j),(21,m.mul),(22,m.add),(23,m.cJ),(24,m.panics)] [(61,b),(80,K)] []:=⟨_,rfl⟩;have fin:∀{k:List Item} {w1:World} {bR:Frame} {v:Value},v=gI (lF n.op x m vs)->bA w w1->FA 60 98 (.code .ret::k) [] .normal [(8,v)] bR->Goes (G bR cs) w1 fun g' w'=>∃fr' v,g'=G fr' cs∧de 60 fr' w' v∧bA w w'∧v=gI (lF n.op x m vs):=fun{k w1 bR v} hv f1 F1=>by refine(leave1 NU F1 rfl).mono fun g2 w2 b_=>?_;obtain⟨cE,rfl,rfl,hL⟩:=b_;exact⟨cE,_,rfl,hL,f1,hv⟩
 by_cases h:n.op=12
 ·have h3:=h12 h;by_cases hx:x≠0
  ·obtain⟨j,e,hj,he⟩:=both hl (i:=1) (by omega);refine(wi1.go (ρ j) E (by rw[hρ];rfl) ⟨by rw[hρ];exact decide_eq_true h,by rw[hρ];show(!decide (x=0))=true;rw[decide_eq_false hx];rfl,by rw[hρ];exact decide_eq_true (by show(1:Int)<((js.length:Nat):Int);omega),trivial⟩ ⟨by rw[hρ];exact hc 1 j hj,trivial⟩).trans fun g1 w1 hd=>?_;obtain⟨I,B,bR,rfl,f1,F1,_⟩:=hd;rw[hρ]at F1;refine(wi2.go (bO [] [] [(20,bK b),(23,iV j)]) (Q:=fun v w'=>v=gI e) F1 rfl fun w' f2=>hk 1 j e hj he w' (f1.trans f2)).trans fun g2 w2 b_=>?_;obtain⟨cE,vv,rfl,f2,rfl,F2⟩:=b_;refine(wi3.go (bO [] [] [(24,gI e)]) F2 rfl trivial trivial).trans fun g5 w5 eg=>?_;obtain⟨I,B,gn,rfl,f5,F5,_⟩:=eg;refine fin ?_ (f1.trans (f2.trans f5)) F5;unfold lF;rw[if_pos h,if_pos hx,bn,he];rfl
  ·obtain⟨j,e,hj,he⟩:=both hl (i:=2) (by omega);refine(wi4.go (ρ j) E (by rw[hρ];rfl) ⟨by rw[hρ];exact decide_eq_true h,by rw[hρ];show(!decide (x=0))=false;rw[decide_eq_true (Classical.not_not.1 hx)];rfl,by rw[hρ];exact decide_eq_true (by show(2:Int)<((js.length:Nat):Int);omega),trivial⟩ ⟨by rw[hρ];exact hc 2 j hj,trivial⟩).trans fun g1 w1 hd=>?_;obtain⟨I,B,bR,rfl,f1,F1,_⟩:=hd;rw[hρ]at F1;refine(wi5.go (bO [] [] [(25,bK b),(28,iV j)]) (Q:=fun v w'=>v=gI e) F1 rfl fun w' f2=>hk 2 j e hj he w' (f1.trans f2)).trans fun g2 w2 b_=>?_;obtain⟨cE,vv,rfl,f2,rfl,F2⟩:=b_;refine(wi6.go (bO [] [] [(29,gI e)]) F2 rfl trivial trivial).trans fun g5 w5 eg=>?_;obtain⟨I,B,gn,rfl,f5,F5,_⟩:=eg;refine fin ?_ (f1.trans (f2.trans f5)) F5;unfold lF;rw[if_pos h,if_neg hx,bn,he];rfl
 have no:∀{a b:Int},a≠b->decide (a=b)=false:=fun h=>decide_eq_false h;by_cases h3:n.op=3
 ·refine(wi7.go (ρ 0) E (by rw[hρ];rfl) ⟨by rw[hρ];exact no h,by rw[hρ];exact decide_eq_true h3,trivial⟩ trivial).trans fun g1 w1 hd=>?_;obtain⟨I,B,bR,rfl,f1,F1,_⟩:=hd;rw[hρ]at F1;refine fin ?_ f1 F1;unfold lF;rw[if_neg h,if_pos h3,lg rfl];rfl
 by_cases Gs:n.op=13
 ·refine(wi8.go (ρ 0) E (by rw[hρ];rfl) ⟨by rw[hρ];exact no h,by rw[hρ];exact no h3,by rw[hρ];exact decide_eq_true Gs,trivial⟩ trivial).trans fun g1 w1 hd=>?_;obtain⟨I,B,bR,rfl,f1,F1,_⟩:=hd;rw[hρ]at F1;refine fin ?_ f1 F1;unfold lF;rw[if_neg h,if_neg h3,if_pos Gs,mG (by show(2:Int)≠1;decide)];rfl
 by_cases Kx:n.op=14
 ·refine(wi9.go (ρ 0) E (by rw[hρ];rfl) ⟨by rw[hρ];exact no h,by rw[hρ];exact no h3,by rw[hρ];exact no Gs,by rw[hρ];exact decide_eq_true Kx,trivial⟩ trivial).trans fun g1 w1 hd=>?_;obtain⟨I,B,bR,rfl,f1,F1,_⟩:=hd;rw[hρ]at F1;refine fin ?_ f1 F1;unfold lF;rw[if_neg h,if_neg h3,if_neg Gs,if_pos Kx,mG (by show(3:Int)≠1;decide)];rfl
 by_cases NZ:n.op=15
 ·refine(wiA.go (ρ 0) E (by rw[hρ];rfl) ⟨by rw[hρ];exact no h,by rw[hρ];exact no h3,by rw[hρ];exact no Gs,by rw[hρ];exact no Kx,by rw[hρ];exact decide_eq_true NZ,trivial⟩ ⟨by rw[hρ];exact hm.c2,by rw[hρ];exact hm.c3,by rw[hρ];exact hm.c4,by rw[hρ];exact hm.c5,trivial⟩).trans fun g1 w1 hd=>?_;obtain⟨I,B,bR,rfl,f1,F1,_⟩:=hd;rw[hρ]at F1;refine(wiB.go (bO [] [] [(50,dx m),(51,iV x)]) (Q:=fun v w'=>v=gI (eU m x)) F1 rfl fun w' f2=>Kv).trans fun g2 w2 b_=>?_;obtain⟨cE,vv,rfl,f2,rfl,F2⟩:=b_;refine(wiC.go (bO [] [] [(52,gI (eU m x))]) F2 rfl trivial trivial).trans fun g5 w5 eg=>?_;obtain⟨I,B,gn,rfl,f5,F5,_⟩:=eg;refine fin ?_ (f1.trans (f2.trans f5)) F5;unfold lF;rw[if_neg h,if_neg h3,if_neg Gs,if_neg Kx,if_pos NZ];rfl
 by_cases Rj:n.op=16
 ·refine(wiD.go (ρ 0) E (by rw[hρ];rfl) ⟨by rw[hρ];exact no h,by rw[hρ];exact no h3,by rw[hρ];exact no Gs,by rw[hρ];exact no Kx,by rw[hρ];exact no NZ,by rw[hρ];exact decide_eq_true Rj,trivial⟩ trivial).trans fun g1 w1 hd=>?_;obtain⟨I,B,bR,rfl,f1,F1,_⟩:=hd;rw[hρ]at F1;refine fin ?_ f1 F1;unfold lF;rw[if_neg h,if_neg h3,if_neg Gs,if_neg Kx,if_neg NZ,if_pos Rj,lg rfl];rfl
 ·refine(wiE.go (ρ 0) E (by rw[hρ];rfl) ⟨by rw[hρ];exact no h,by rw[hρ];exact no h3,by rw[hρ];exact no Gs,by rw[hρ];exact no Kx,by rw[hρ];exact no NZ,by rw[hρ];exact no Rj,trivial⟩ trivial).trans fun g1 w1 hd=>?_;obtain⟨I,B,bR,rfl,f1,F1,bl,_⟩:=hd;rw[hρ]at F1 bl;have hX:(cy.obj 77 [cY n.op,iV n.n,iV n.kids,iV n.cj]).at Tryz.prog w1 (B 100):=bl.1.2;refine(wiF.go (R:=fun y w'=>(∃o',(js.length=1∨o'=0+1*1)∧y=bS K o' (js.length-1) (c-1))∧w'=w1) (bO [] [] []) F1 (by decide) rfl fun tm ir x' e1 e2=>?_).trans fun g4 w4 dh=>?_
  ·unfold execOp;simp only[e1,bH,av,aM];rw[ir 58 (bS K 0 js.length c) rfl];exact H8 abL abM (k:=1) (by omega) hcap fun o' ho'=>⟨_,rfl,⟨o',ho',rfl⟩,rfl⟩
  obtain⟨eO,y,rfl,⟨⟨o',ho',rfl⟩,rfl⟩,F4⟩:=dh;refine(wiG.go (bO [(5,x),(7,x),(83,o'),(81,(js.length-1:Nat)),(82,(c-1:Nat))] [(61,b),(64,B 100),(80,K)] []) F4 rfl trivial trivial).trans fun g5 w5 eg=>?_;obtain⟨I,B',gn,rfl,f5,F5,_⟩:=eg;have ff:=f1.trans f5;refine(Io (w0:=w5) hl hbig (op:=n.op) (x:=x) ((f5.cell (bG hX (i:=0) rfl))) (o':=o') (fun i j hj=>?_) (fun i j e hj he w' f'=>hk i j e hj he w' (ff.trans f')) (vs.length-1) 0 x (by omega) (bA.refl _) F5).mono fun g6 w6 dz=>?_
  ·rcases ho' with h1|rfl
   ·have:=(ak.1 hj).1;omega
   ·have:=hc (i+1) j hj;rw[show 0+1*1+i=0+(i+1) by omega];exact ff.cell this
  ·obtain⟨dK,rfl,f6,hL⟩:=dz;refine⟨dK,_,rfl,hL,ff.trans f6,?_⟩;unfold lF;rw[if_neg h,if_neg h3,if_neg Gs,if_neg Kx,if_neg NZ,if_neg Rj]
end
structure ei(w:World)(s:Value)(E:List (Int×Int)):Prop where
 ex:∃(z:Bool) (A o c:Nat),s=ew z A o E.length c∧(z=true->E=[])∧(z=false->E.length≤c)∧∀i e,E[i]?=some e->w.cell? ⟨A,o+i*2,none⟩=some (cY e.1)∧w.cell? ⟨A,o+i*2+1,none⟩=some (iV e.2)
theorem ei.keep{w w':World}{s:Value}{E:List (Int×Int)}(h:ei w s E)(f:bA w w'):ei w' s E:=by obtain⟨z,A,o,c,h1,h2,h3,h4⟩:=h.ex;exact⟨z,A,o,c,h1,h2,h3,fun i e hi=>⟨f.cell (h4 i e hi).1,f.cell (h4 i e hi).2⟩⟩
def Ip(t:T):Prop:=∀{w:World} {b:Nat} {tree:List Nd} {A o c:Nat} {es:Value} {m:cV} {E:List (Int×Int)} {cj:Nat} {rest:List Nd},nM w b tree A o c es m->tree.length≤1000000->ei w es E->vk t->nv E.length t->tree.drop cj=flat t++rest->dV 37 #[bK b,iV cj] w fun v w'=>bA w w'∧v=gI (qB E m t)
theorem mH{tree:List Nd}:∀{ks:List T} {k i j:Nat} {t:T} {rest:List Nd},tree.drop k=bY ks++rest->(fX k ks)[i]?=some j->ks[i]?=some t->∃rest',tree.drop j=flat t++rest'
 |[],k,i,j,t,rest,hd,hj,ht=>by cases ht
 |t'::ks,k,0,j,t,rest,hd,hj,ht=>by obtain rfl:t'=t:=au ht;obtain rfl:k=j:=au hj;exact⟨bY ks++rest,by rw[hd,bY,a_]⟩
 |t'::ks,k,i+1,j,t,rest,hd,hj,ht=>by
  have hd':tree.drop (k+(flat t').length)=bY ks++rest:=by rw[<-List.drop_drop,hd,bY,a_,List.drop_left]
  exact mH (i:=i) hd' hj ht
noncomputable abbrev NdH:List Item:=Dz
section
variable {w w0:World}{cs:List Frame}{fr:Frame}
theorem Iq{b K c:Nat}{js:List Nat}{vs:List (Int×Int)}(hl:js.length=vs.length)(hbig:js.length≤1000000)(hne:vs≠[])(hc:∀i j:Nat,js[i]?=some j->w0.cell? ⟨K,0+i,none⟩=some (iV j))(hk:Im w0 b js vs):
  ∀(m i:Nat) {w:World} {cs:List Frame} {fr:Frame},i+m=vs.length->bA w0 w->FA 37 83 NdH [] .normal [(0,bK b),(6,bS K 0 js.length c),(43,bS K 0 js.length c),(44,iV js.length),(45,iV i)] fr->
  Goes (G fr cs) w fun g' w'=>∃fr',g'=G fr' cs∧bA w0 w'∧de 37 fr' w' (gI (((vs.drop i).find? fun e=>decide (e.1=1)).getD (vs.headD (0,0))))
 |0,i,w,cs,fr,hi,fw,hf=>by
  obtain⟨j,e,hj,he⟩:=both hl (i:=0) (bq.2 hne);have hlen:js.length≠0:=by have:=bq.2 hne;omega
  refine(ndA.go (bO [(83,(0:Nat)),(81,js.length),(82,c),(10,i),(12,j)] [(61,b),(80,K)] []) hf rfl ⟨decide_eq_false (by show ¬((i:Int)<((js.length:Nat):Int));omega),decide_eq_true (by show(0:Int)<((js.length:Nat):Int);omega),trivial⟩ ⟨fw.cell (hc 0 j hj),trivial⟩).trans fun g1 w1 hd=>?_;obtain⟨I,B,bR,rfl,f1,F1,_⟩:=hd;refine(ndB.go (bO [] [] [(60,bK b),(63,iV j)]) (Q:=fun v w'=>v=gI e) F1 rfl fun w' f2=>hk 0 j e hj he w' (fw.trans (f1.trans f2))).trans fun g2 w2 b_=>?_;obtain⟨cE,vv,rfl,f2,rfl,F2⟩:=b_;refine(ndC.go (bO [] [] [(64,gI e)]) F2 rfl trivial trivial).trans fun g5 w5 eg=>?_;obtain⟨I,B,gn,rfl,f5,F5,_⟩:=eg;refine(leave1 NT F5 rfl).mono fun g6 w6 dz=>?_;obtain⟨dK,rfl,rfl,hL⟩:=dz;refine⟨dK,rfl,fw.trans (f1.trans (f2.trans f5)),?_⟩;rw[aI (by omega)];have:vs.headD (0,0)=e:=by
   cases vs with
   |nil=>cases he
   |cons a l=>exact au he
  rw[List.find?_nil,Option.getD_none,this];exact hL
 |m+1,i,w,cs,fr,hi,fw,hf=>by
  have hlt:i<vs.length:=by omega
  obtain⟨j,e,hj,he⟩:=both hl (i:=i) hlt;refine(nd6.go (bO [(83,(0:Nat)),(81,js.length),(82,c),(10,i),(12,j)] [(61,b),(80,K)] []) hf rfl (bX (i:=10) (n:=81) (I:=i) (N:=js.length) rfl rfl (by omega)) ⟨fw.cell (hc i j hj),trivial⟩).trans fun g1 w1 hd=>?_;obtain⟨I,B,bR,rfl,f1,F1,_⟩:=hd;refine(nd7.go (bO [] [] [(50,bK b),(51,iV j)]) (Q:=fun v w'=>v=gI e) F1 rfl fun w' f2=>hk i j e hj he w' (fw.trans (f1.trans f2))).trans fun g2 w2 b_=>?_;obtain⟨cE,vv,rfl,f2,rfl,F2⟩:=b_;have Gr:=fw.trans (f1.trans f2);have dS:vs.drop i=e::vs.drop (i+1):=by rw[aG hlt];congr 1;exact au ((aa hlt).symm.trans he)
  rw[dS,List.find?_cons];by_cases h1:e.1=1
  ·rw[lg h1]at F2;refine(nd8.go (bO [(83,(0:Nat)),(81,js.length),(82,c),(10,i),(6,e.2)] [(61,b),(80,K)] []) F2 rfl trivial trivial).trans fun g5 w5 eg=>?_;obtain⟨I,B,gn,rfl,f5,F5,_⟩:=eg;refine(leave1 NT F5 rfl).mono fun g6 w6 dz=>?_;obtain⟨dK,rfl,rfl,hL⟩:=dz;rw[decide_eq_true h1];refine⟨dK,rfl,Gr.trans f5,?_⟩;show de 37 dK _ (gI e);rw[lg h1];exact hL
  ·rw[mG h1]at F2;refine(nd9.go (bO [(83,(0:Nat)),(81,js.length),(82,c),(10,i),(5,e.1),(6,e.2)] [(61,b),(80,K)] []) F2 rfl trivial trivial).trans fun g5 w5 eg=>?_;obtain⟨I,B,gn,rfl,f5,F5,_⟩:=eg;rw[decide_eq_false h1];refine Iq (c:=c) hl hbig hne hc hk m (i+1) (by omega) (Gr.trans f5) ?_;rw[<-inc (i:=i) (by omega)];exact F5
theorem lP(E:List (Int×Int))(m:cV)(ts:List T):(sC E m ts).length=ts.length:=by rw[wv,aD]
theorem Rk{n:Nd}{ks:List T}(ih:∀t∈ks,Ip t):Ip (.nd n ks):=by
 intro w b tree A o c es m E cj rest hw hl hE ht hn hd;have oV:tree.drop cj=n::(bY ks++rest):=by rw[hd];simp[flat]
 obtain⟨hx,b_,hlt⟩:=dM oV;have iK:=hw.el cj n hx;have hfl:=f_ ks;have hle:(bY ks).length≤tree.length:=by have:=congrArg aR b_;rw[an,br]at this;omega
 obtain⟨nE,nK,n3,nL⟩:=hn;refine cI fun cs=>?_;refine(nd1.go (bO [(10,cj),(51,tree.length),(52,c),(53,o),(1,n.op),(2,n.n),(3,n.kids),(4,n.cj)] [(61,b),(50,A)] []) (dU abE rfl (bK b) (iV cj)) rfl (bX (i:=10) (n:=51) (I:=cj) (N:=tree.length) rfl rfl hlt) ⟨hw.c0,iK.c0,iK.c1,iK.c2,iK.c3,trivial⟩).trans fun g1 w1 oV=>?_;obtain⟨I,B,bR,rfl,f1,F1,bl,_⟩:=oV;have hX:(cy.obj 77 [cY n.op,iV n.n,iV n.kids,iV n.cj]).at Tryz.prog w1 (B 100):=bl.1.2;obtain⟨X,eX⟩:∃X,B 100=X:=⟨_,rfl⟩;have fN:FA 37 83 [.inRegion (opsOf (l5 14)) [2,3],.code (l5 15)] [] .normal [(0,bK b),(5,bK X),(20,bK b),(21,iV cj)] bR:=by rw[<-eX];exact F1
 rw[eX]at hX;refine(nd2.go (bO [] [] [(20,bK b),(21,iV cj)]) (Q:=fun v w'=>∃w1,bA w1 w'∧c7 w' w1.heap.size v ((fX (cj+1) ks).map Int.ofNat)) fN rfl fun w' f2=>(NS (hw.keep (f1.trans f2)) hl ht hd).mono fun v w2 hd=>⟨hd.1,w',hd.1,hd.2⟩).trans fun g2 w2 b_=>?_;obtain⟨cE,s,rfl,f2,⟨wk,fk,hs⟩,F2⟩:=b_;have f12:=f1.trans f2;have fin:∀{k:List Item} {w3:World} {cF:Frame} {v:Value},v=gI (qB E m (.nd n ks))->bA w w3->FA 37 83 (.code .ret::k) [] .normal [(4,v)] cF->Goes (G cF cs) w3 fun g' w'=>∃fr' v,g'=G fr' cs∧de 37 fr' w' v∧bA w w'∧v=gI (qB E m (.nd n ks)):=fun{k w3 cF v} hv f3 F3=>by refine(leave1 NT F3 rfl).mono fun g2 w2 b_=>?_;obtain⟨cE,rfl,rfl,hL⟩:=b_;exact⟨cE,_,rfl,hL,f3,hv⟩
 have X0:=f2.cell (bG hX (i:=0) rfl);have X1:=f2.cell (bG hX (i:=1) rfl);have X2:=f2.cell (bG hX (i:=2) rfl);have X3:=f2.cell (bG hX (i:=3) rfl);have no:∀{a b:Int},a≠b->decide (a=b)=false:=fun h=>decide_eq_false h;by_cases h1:n.op=1
 ·refine(nd3.go (bO [(1,n.op),(2,n.n),(3,n.kids),(4,n.cj)] [(61,b),(64,X)] [(22,s)]) F2 rfl ⟨decide_eq_true h1,trivial⟩ ⟨X0,X1,X2,X3,trivial⟩).trans fun g3 w3 cv=>?_;obtain⟨I,B,cF,rfl,f3,F3,_⟩:=cv;refine fin ?_ (f12.trans f3) F3;unfold qB qZ;rw[if_pos h1,lg rfl];rfl
 by_cases h2:n.op=2
 ·obtain⟨hn0,HB⟩:=nE h2;obtain⟨z,A',o',c',he,hz,oU,hel⟩:=(hE.keep f12).ex;cases z with
  |true=>rw[hz rfl]at HB;simp only[aX]at HB;omega
  |false=>
   obtain⟨N,hN⟩:∃N:Nat,n.n=N:=⟨n.n.toNat,by omega⟩;have DD:N<E.length:=by omega
   obtain⟨e,hee⟩:∃e,E[N]?=some e:=⟨_,aa DD⟩;have hg:qB E m (.nd n ks)=e:=by unfold qB qZ;rw[if_neg h1,if_pos h2,hN];show E.getD ((N:Int)).toNat (0,0)=e;rw[bn,show((N:Int)).toNat=N by omega,hee];rfl
   have hc1:w2.cell? ⟨b,1,none⟩=some (bS A' o' E.length c'):=by rw[<-show es=bS A' o' E.length c' from he];exact f12.cell hw.c1
   have X1':w2.cell? ⟨X,1,none⟩=some (iV N):=by rw[<-hN];exact X1
   obtain⟨ec,ec'⟩:=hel N e hee;by_cases Cf:e.1=1
   ·refine(Rh.go (bO [(1,n.op),(2,N),(3,n.kids),(4,n.cj),(15,e.1),(16,e.2),(71,E.length),(72,c'),(73,o')] [(61,b),(64,X),(70,A')] [(22,s)]) F2 rfl ⟨no h1,decide_eq_true h2,decide_eq_true Cf,bX (i:=2) (n:=71) (I:=N) (N:=E.length) rfl rfl DD⟩ ⟨X0,X1',X2,X3,hc1,ec,ec',trivial⟩).trans fun g3 w3 cv=>?_;obtain⟨I,B,cF,rfl,f3,F3,_⟩:=cv;refine fin ?_ (f12.trans f3) F3;rw[hg,lg Cf];rfl
   ·refine(NW.go (bO [(1,n.op),(2,N),(3,n.kids),(4,n.cj),(15,e.1),(16,e.2),(71,E.length),(72,c'),(73,o')] [(61,b),(64,X),(70,A')] [(22,s)]) F2 rfl ⟨no h1,decide_eq_true h2,decide_eq_false Cf,bX (i:=2) (n:=71) (I:=N) (N:=E.length) rfl rfl DD⟩ ⟨X0,X1',X2,X3,hc1,ec,ec',trivial⟩).trans fun g3 w3 cv=>?_;obtain⟨I,B,cF,rfl,f3,F3,_⟩:=cv;refine fin ?_ (f12.trans f3) F3;rw[hg,mG Cf];rfl
 have hks:ks≠[]:=nK h1 h2;have hvs:sC E m ks≠[]:=fun h=>hks (by have:=lP E m ks;rw[h]at this;exact bg.1 this.symm)
 rcases hs with⟨rfl,oE⟩|⟨hne,K,c',rfl,hK,hv⟩
 ·have:=congrArg aR oE;rw[aD,fV]at this;exact(hks (bg.1 this)).elim
 have hjl:(fX (cj+1) ks).length=(sC E m ks).length:=by rw[fV,lP]
 obtain⟨js,C4⟩:∃js,js=fX (cj+1) ks:=⟨_,rfl⟩;rw[<-C4]at hv hjl F2;have hbig:js.length≤1000000:=by rw[C4,fV];omega
 have hcap:js.length≤c':=by have:=Ij hv;rw[aD,aD]at this;exact this
 rw[aD]at F2;have hcell:∀{w3:World},bA w2 w3->∀i j:Nat,js[i]?=some j->w3.cell? ⟨K,0+i,none⟩=some (iV j):=fun f i j hj=>by rw[aF];refine f.cell (cy.cS hv ?_);show((js.map Int.ofNat).map iV)[i]?=_;rw[aL,aL,hj];rfl
 have hkc:∀{w3:World},bA w2 w3->Im w3 b js (sC E m ks):=fun{w3} f i j e hj he w' f'=>by
  have hi:i<ks.length:=by have:=(ak.1 he).1;rwa[lP]at this
  have VN:ks[i]?=some ks[i]:=aa hi;have hmem:ks[i]∈ks:=List.getElem_mem hi;obtain⟨rest',hr⟩:=mH b_ (C4▸hj) VN;have fa:=f12.trans (f.trans f');have he':e=qB E m ks[i]:=by rw[wv,aL,VN]at he;exact(au he).symm
  rw[he'];exact ih ks[i] hmem (hw.keep fa) hl (hE.keep fa) (o9.mem ht.2 _ hmem) (lf.mem nL _ hmem) hr
 by_cases h11:n.op=11
 ·refine(nd5.go (bO [(1,n.op),(2,n.n),(3,n.kids),(4,n.cj),(83,(0:Nat)),(81,js.length),(82,c')] [(61,b),(64,X),(80,K)] []) F2 rfl ⟨no h1,no h2,decide_eq_true h11,trivial⟩ ⟨X0,X1,X2,X3,trivial⟩).trans fun g3 w3 cv=>?_;obtain⟨I,B,cF,rfl,f3,F3,_⟩:=cv;refine(Iq hjl hbig hvs (hcell f3) (hkc f3) (sC E m ks).length 0 (by omega) (bA.refl _) F3).mono fun g6 w6 dz=>?_;obtain⟨dK,rfl,f6,hL⟩:=dz;refine⟨dK,_,rfl,hL,f12.trans (f3.trans f6),?_⟩;unfold qB qZ;rw[if_neg h1,if_neg h2,if_pos h11];rfl
 obtain⟨j,e,hj,he⟩:=both hjl (i:=0) (bq.2 hvs);have hlen:js.length≠0:=by have:=bq.2 hvs;omega
 have hhd:(sC E m ks).headD (0,0)=e:=by
  generalize sC E m ks=vs at he;cases vs with
  |nil=>cases he
  |cons a l=>exact au he
 refine(ndD.go (bO [(1,n.op),(2,n.n),(3,n.kids),(4,n.cj),(83,(0:Nat)),(81,js.length),(82,c'),(12,j)] [(61,b),(64,X),(80,K)] []) F2 rfl ⟨no h1,no h2,no h11,decide_eq_true (by show(0:Int)<((js.length:Nat):Int);omega),trivial⟩ ⟨X0,X1,X2,X3,hcell (bA.refl _) 0 j hj,trivial⟩).trans fun g3 w3 cv=>?_;obtain⟨I,B,cF,rfl,f3,F3,_⟩:=cv;refine(ndE.go (bO [] [] [(65,bK b),(68,iV j)]) (Q:=fun v w'=>v=gI e) F3 rfl fun w' f4=>hkc f3 0 j e hj he w' f4).trans fun g4 w4 dh=>?_;obtain⟨eO,vv,rfl,f4,rfl,F4⟩:=dh;have f34:=f3.trans f4;by_cases Cf:e.1=1
 ·rw[lg Cf]at F4;refine(ndG.go (bO [(1,n.op),(2,n.n),(3,n.kids),(4,n.cj),(83,(0:Nat)),(81,js.length),(82,c'),(6,e.2)] [(61,b),(64,X),(80,K)] []) F4 rfl trivial ⟨f34.cell X0,f34.cell X1,f34.cell X2,f34.cell X3,trivial⟩).trans fun g5 w5 eg=>?_;obtain⟨I,B,gn,rfl,f5,F5,_⟩:=eg;refine(ndH.go (bO [] [] [(78,bK b),(79,ndV n),(80,bS K 0 js.length c'),(81,iV e.2)]) (Q:=fun v w'=>v=gI (lF n.op e.2 m (sC E m ks))) F5 rfl fun w' f6=>?_).trans fun g6 w6 dz=>?_
  ·have fa:=f12.trans (f34.trans (f5.trans f6));have fb:=f34.trans (f5.trans f6);refine NY hjl hbig hvs hcap (hcell fb) ⟨fa.cell hw.c2,fa.cell hw.c3,fa.cell hw.c4,fa.cell hw.c5⟩ (hkc fb) fun h=>?_;rw[lP];exact n3 h
  obtain⟨dK,vv,rfl,f6,rfl,F6⟩:=dz;refine(ndI.go (bO [] [] [(82,gI (lF n.op e.2 m (sC E m ks)))]) F6 rfl trivial trivial).trans fun g7 w7 mW=>?_;obtain⟨I,B,qX,rfl,f7,F7,_⟩:=mW;refine fin ?_ (f12.trans (f34.trans (f5.trans (f6.trans f7)))) F7;unfold qB qZ;rw[if_neg h1,if_neg h2,if_neg h11,hhd,if_pos Cf];rfl
 ·rw[mG Cf]at F4;refine(ndF.go (bO [(83,(0:Nat)),(81,js.length),(82,c'),(5,e.1),(6,e.2)] [(61,b),(64,X),(80,K)] []) F4 rfl trivial trivial).trans fun g5 w5 eg=>?_;obtain⟨I,B,gn,rfl,f5,F5,_⟩:=eg;refine fin ?_ (f12.trans (f34.trans f5)) F5;unfold qB qZ;rw[if_neg h1,if_neg h2,if_neg h11,hhd,if_neg Cf,mG Cf];rfl
end
mutual
theorem yc:∀t:T,Ip t
 |.nd n ks=>Rk (AB ks)
theorem AB:∀ts:List T,∀t∈ts,Ip t
 |[],t,h=>by cases h
 |t'::ts,t,h=>by
  rcases ai.1 h with e|h
  ·rw[e];exact yc t'
  ·exact AB ts t h
end
theorem yd{op:Int}{len:Nat}{lo hi:Int}{nm:Bool}(h:ji op len=some (lo,hi,nm)):0≤lo∧(op≠1->op≠2->1≤lo)∧(op=12->lo=3∧hi=3):=by
 unfold ji at h;split at h
 ·rename_i h1;cases h;exact⟨by decide,fun a b=>(h1.elim a b).elim,fun e=>by omega⟩
 split at h
 ·cases h;exact⟨by decide,fun _ _=>by decide,fun e=>by omega⟩
 split at h
 ·cases h;exact⟨by decide,fun _ _=>by decide,fun e=>by omega⟩
 split at h
 ·cases h;exact⟨by decide,fun _ _=>by decide,fun e=>by omega⟩
 split at h
 ·cases h;exact⟨by decide,fun _ _=>by decide,fun e=>⟨rfl,rfl⟩⟩
 split at h
 ·cases h;exact⟨by decide,fun _ _=>by decide,fun e=>by omega⟩
 ·cases h
theorem qb{P:T->Prop}{g:List Nd->Option (T×List Nd)}{names:Bool}(hg:∀l t r,g l=some (t,r)->P t):∀(k:Nat) (l:List Nd) (ts:List T) (r:List Nd),eP g names k l=some (ts,r)->ts.length=k∧∀t∈ts,P t
 |0,l,ts,r,h=>by cases h;exact⟨rfl,fun t ht=>by cases ht⟩
 |k+1,l,ts,r,h=>by
  unfold eP at h;split at h
  ·cases h
  ·rename_i t r' e;split at h
   ·cases h
   ·split at h
    ·cases h
    ·rename_i ts' r'' e2;cases h;obtain⟨h1,h2⟩:=qb hg k _ _ _ e2;refine⟨by rw[aC,h1],fun t' ht=>?_⟩;rcases ai.1 ht with rfl|ht
     ·exact hg _ _ _ e
     ·exact h2 t' ht
theorem o9.of:∀{ts:List T},(∀t∈ts,vk t)->o9 ts
 |[],_=>trivial
 |t::ts,h=>⟨h t (aj ..),o9.of fun t' ht=>h t' (af _ ht)⟩
theorem lf.of{N:Nat}:∀{ts:List T},(∀t∈ts,nv N t)->lf N ts
 |[],_=>trivial
 |t::ts,h=>⟨h t (aj ..),lf.of fun t' ht=>h t' (af _ ht)⟩
theorem AF{n:Nd}:∀{ts:List T} {t:T},t∈ts->n∈flat t->n∈bY ts
 |t'::ts,t,ht,hn=>by
  rw[bY];rcases ai.1 ht with rfl|ht
  ·exact List.mem_append_left _ hn
  ·exact List.mem_append_right _ (AF ht hn)
theorem jS:∀(f:Nat) (l:List Nd) (root:Bool) (t:T) (r:List Nd),dJ f l root=some (t,r)->vk t∧∀N:Nat,(∀n∈flat t,n.op=2->0≤n.n∧n.n<N)->nv N t
 |0,l,root,t,r,h=>by cases h
 |f+1,[],root,t,r,h=>by cases h
 |f+1,n::l,root,t,r,h=>by
  unfold dJ at h;split at h
  ·cases h
  ·rename_i lo hi nm e0;obtain⟨l0,l1,l12⟩:=yd e0;split at h
   ·cases h
   ·rename_i hb;split at h
    ·cases h
    ·rename_i ts r' e;cases h;obtain⟨hlen,hall⟩:=qb (P:=fun t=>vk t∧∀N:Nat,(∀n∈flat t,n.op=2->0≤n.n∧n.n<N)->nv N t) (fun l t r h=>jS f l false t r h) _ _ _ _ e;have hk:lo≤n.kids∧n.kids≤hi:=by
      have hb':oX n root lo hi=false:=by simpa using hb
      unfold oX at hb';simp only[Bool.or_eq_false_iff,decide_eq_false_iff_not]at hb';omega
     have hne:∀h:ts=[],n.kids.toNat=0:=fun h=>by rw[<-hlen,h];rfl
     refine⟨⟨by omega,o9.of fun t ht=>(hall t ht).1⟩,fun N hN=>⟨hN n (by rw[flat];exact aj ..),fun h1 h2 h=>?_,fun h=>?_,lf.of fun t ht=>(hall t ht).2 N fun n' hn'=>hN n' (by rw[flat];exact af _ (AF ht hn'))⟩⟩
     ·have:=l1 h1 h2;have:=hne h;omega
     ·have:=l12 h;omega
def mJ(x:cx):Option T:=(dJ (x.tree.length+1) x.tree true).map (·.1)
structure fO(x:cx)(i:Nat)(t:T):Prop where
 tr:mJ x=some t
 fl:x.tree=flat t
 wf:vk t
 nd:nv i t
theorem Gt{x:cx}{i:Nat}{names:List (ByteArray×Bool)}(h:fz x i names=0):∃t,fO x i t:=by
 unfold fz at h;split at h
 ·cases h
 split at h
 ·cases h
 split at h
 ·cases h
 rename_i t rest e;split at h
 ·cases h
 rename_i hr;split at h
 ·cases h
 split at h
 ·cases h
 rename_i ha;have hfl:=gi _ _ _ _ _ e;have qa:rest=[]:=by
  cases rest with
  |nil=>rfl
  |cons a l=>exact(hr (.inl (by simp))).elim
 rw[qa,aV]at hfl;obtain⟨g1,g2⟩:=jS _ _ _ _ _ e;refine⟨t,⟨by unfold mJ;rw[e];rfl,hfl,g1,g2 i fun n hn h2=>?_⟩⟩;rw[<-hfl]at hn;have:=ha;simp only[List.any_eq_true,aq,Bool.or_eq_true,decide_eq_true_eq,not_exists,not_and,not_or]at this;have:=this n hn h2;omega
theorem tL:∀(l:List cx) (i:Nat) (names:List (ByteArray×Bool)),dX l i names=none->∀j x,l[j]?=some x->∃t,fO x (i+j) t
 |[],i,names,h,j,x,hj=>by cases hj
 |y::l,i,names,h,j,x,hj=>by
  unfold dX at h;split at h
  ·cases h
  ·rename_i hs;have hs:fz y i names=0:=by simpa using hs
   cases j with
   |zero=>obtain rfl:y=x:=au hj;exact Gt hs
   |succ j=>have:=tL l (i+1) _ h j x hj;rwa[show i+1+j=i+(j+1) by omega]at this
noncomputable def q7(l:Nat):Code:=pc (bD Tryz.f19) (pd l)
theorem ags:bT Tryz.prog 19 [.bF 0,.bF 1] .normal=.ok ⟨19,59,c_ 19 [.bF 0,.bF 1],[.code (bD Tryz.f19)],[],.run,.normal⟩:=by kernel_rfl
theorem VQ:p6 19 59 4 5:=fun st=>by kernel_rfl
theorem pl1(z:Bool):Pc 19 59 [.code (bD Tryz.f19)] [(0,.agg [cU z 50 53 51 52,.bF 9]),(1,.agg Az)] [] [] [] 11 [101,100] [2,3,15] [.inRegion (opsOf (q7 12)) [1,2,3,4,5,6],.code (q7 13),.code (q7 7)] [bC 100,bC 101,.agg [cU z 50 53 51 52,.bF 9]] [(101,.cells Az 27),(100,.cells [cU z 50 53 51 52,.bF 9] 25)]:=by cases z<;>exact{}
theorem pl2:dy 59 (opsOf (q7 12)) 1 [(15,.bF 15)] 26 [.bF 15] 16:={}
noncomputable abbrev TE:List Item:=[.inRegion (opsOf (q7 12)) [2,3,4,5,6],.code (q7 13),.code (q7 7)]
noncomputable abbrev TF:List (Nat×AV):=[(2,bC 64),(3,bC 65),(16,.tuple [i64 (v 5),i64 (v 6)])]
theorem pl3:Pc 19 59 TE TF Ic [] [] 18 [] [4,5] [.code .ret,.code (q7 7)] [cn,i64 (v 5)] []:={}
noncomputable abbrev DE:List Item:=[.code (q7 116),.inLoop (q7 116),.inBlock 0,.code (q7 15)]
theorem pl4(z:Bool):Pc 19 59 TE TF [((.cmp .neq (v 5) (.lit 0)),false)] [(eD 64 0,cU z 50 53 51 52)] [] 23 [] [2,3,23,24,25] DE [bC 64,bC 65,cU z 50 53 51 52,i64 (dO z 51),i64 (.lit 0)] []:=by cases z<;>exact{}
theorem pl5:Pc 19 59 DE [(2,bC 64),(3,bC 65),(23,sA 50 53 51 52),(24,i64 (.tn (v 51))),(25,i64 (v 10))] (fo 10 51) [(eB 50 53 10 3,ss 1),(eA 50 53 10 3 1,sA 70 73 71 72),(eA 50 53 10 3 2,i64 (v 4))] [] 19 [100] [2,3,9,23,24,25,29] [.inRegion (opsOf (q7 7474)) [1,2,3,4,5,6,7],.code (q7 7475),.inBlock 1,.code (q7 935),.inLoop (q7 116),.inBlock 0,.code (q7 15)] [bC 64,bC 65,bC 100,sA 50 53 51 52,i64 (.tn (v 51)),i64 (v 10),.agg [ss 1,sA 70 73 71 72,i64 (v 4)]] [(100,.cells [ss 1,sA 70 73 71 72,i64 (v 4)] 50)]:={}
theorem pl6:dy 59 (opsOf (q7 7474)) 1 [(29,.bF 29)] 36 [.bF 29] 30:={}
noncomputable abbrev abN:List Item:=[.inRegion (opsOf (q7 7474)) [2,3,4,5,6,7],.code (q7 7475),.inBlock 1,.code (q7 935),.inLoop (q7 116),.inBlock 0,.code (q7 15)]
noncomputable abbrev abO:List (Nat×AV):=[(2,bC 64),(3,bC 65),(9,bC 66),(23,sA 50 53 51 52),(24,i64 (.tn (v 51))),(25,i64 (v 10)),(30,i8 (v 1))]
noncomputable abbrev TG:List Item:=[.code .ret,.inBlock 1,.code (q7 935),.inLoop (q7 116),.inBlock 0,.code (q7 15)]
theorem pl7:Pc 19 59 abN abO [((.cmp .eql (v 1) (.lit 17)),true)] [] [] 13 [] [4,5] TG [cn,i64 (.lit 11)] []:={}
theorem pl8:Pc 19 59 abN abO [((.cmp .eql (v 1) (.lit 17)),false)] [(eD 66 0,ss 1),(eD 66 1,sA 70 73 71 72),(eD 66 2,i64 (v 4))] [] 3 [] [2,3,23,24,25,32,33] [.inRegion (opsOf (q7 7474)) [5,6,7],.code (q7 7475),.inBlock 1,.code (q7 935),.inLoop (q7 116),.inBlock 0,.code (q7 15)] [bC 64,bC 65,sA 50 53 51 52,i64 (.tn (v 51)),i64 (v 10),FB,.agg [ss 1,sA 70 73 71 72,i64 (v 4)]] []:={}
theorem pl9:dy 59 (opsOf (q7 7474)) 5 [(32,FB),(33,.bF 33)] 36 [.bF 33] 34:={}
noncomputable abbrev abP:List Item:=[.inRegion (opsOf (q7 7474)) [6,7],.code (q7 7475),.inBlock 1,.code (q7 935),.inLoop (q7 116),.inBlock 0,.code (q7 15)]
noncomputable abbrev abQ:List (Nat×AV):=[(2,bC 64),(3,bC 65),(23,sA 50 53 51 52),(24,i64 (.tn (v 51))),(25,i64 (v 10)),(32,FB),(34,i8 (v 1))]
theorem plA:Pc 19 59 abP abQ [((.cmp .eql (v 1) (.lit 18)),true)] [] [] 9 [] [4,5] TG [cn,i64 (.lit 11)] []:={}
theorem plB:Pc 19 59 abP abQ [((.cmp .eql (v 1) (.lit 18)),false)] [] [] 11 [] [2,3,23,24,25] DE [bC 64,bC 65,sA 50 53 51 52,i64 (.tn (v 51)),i64 (.op .add .i64 (v 10) (.lit 1))] []:={}
noncomputable abbrev AG:List Item:=[.code (q7 500),.inLoop (q7 500),.inBlock 2,.code (q7 63)]
theorem plC(z:Bool):Pc 19 59 DE [(2,bC 64),(3,bC 65),(23,cU z 50 53 51 52),(24,i64 (dO z 51)),(25,i64 (v 10))] [((.cmp .lss (v 10) (dO z 51)),false)] [(eD 64 0,cU z 50 53 51 52)] [] 21 [] [2,3,10,39,40,41] AG [bC 64,bC 65,cn,cU z 50 53 51 52,i64 (dO z 51),i64 (.lit 0)] []:=by cases z<;>exact{}
theorem plD(y:Bool):Pc 19 59 AG [(2,bC 64),(3,bC 65),(10,cU y 80 83 81 82),(39,sA 50 53 51 52),(40,i64 (.tn (v 51))),(41,i64 (v 10))] (fo 10 51) [(eB 50 53 10 3,ss 1),(eA 50 53 10 3 1,sA 70 73 71 72),(eA 50 53 10 3 2,i64 (v 4)),(eD 65 0,i64 (v 21)),(eD 65 1,i64 (v 22)),(eD 65 2,i64 (v 23)),(eD 65 3,i64 (v 24))] [] 29 [101] [2,3,10,13,39,40,41,51,52] [.inRegion (opsOf (q7 32051)) [2,3,4,5,6],.inBlock 3,.code (q7 4007),.inLoop (q7 500),.inBlock 2,.code (q7 63)] [bC 64,bC 65,cU y 80 83 81 82,bC 101,sA 50 53 51 52,i64 (.tn (v 51)),i64 (v 10),cU y 80 83 81 82,bC 101] [(101,.cells [sA 70 73 71 72,cU y 80 83 81 82,i64 (v 21),i64 (v 22),i64 (v 23),i64 (v 24)] 69)]:=by cases y<;>exact{}
theorem plE:dy 59 (opsOf (q7 32051)) 2 [(52,.bF 52)] 37 [.bF 52,i64 (.lit 0)] 53:={}
theorem abR:dy 59 (opsOf (q7 32051)) 3 [(53,.iface 97 (.bF 53))] 127 [.bF 53] 54:={}
theorem abS:dy 59 (opsOf (q7 32051)) 3 [(53,.iface 100 (.bF 53))] 128 [.bF 53] 54:={}
noncomputable abbrev abT:List Item:=[.inRegion (opsOf (q7 32051)) [4,5,6],.inBlock 3,.code (q7 4007),.inLoop (q7 500),.inBlock 2,.code (q7 63)]
theorem agt:Pc 19 59 abT [(2,bC 64),(3,bC 65),(10,cn),(39,sA 50 53 51 52),(40,i64 (.tn (v 51))),(41,i64 (v 10)),(51,cn),(54,.agg [i8 (v 11),i64 (v 12)])] [] [] [] 10 [101] [2,3,10,39,40,41] AG [bC 64,bC 65,.slice (some (eD 101 0)) (.lit 1) (v 101),sA 50 53 51 52,i64 (.tn (v 51)),i64 (.op .add .i64 (v 10) (.lit 1))] [(101,.row [i8 (v 11),i64 (v 12)] 43 (v 101))]:={}
theorem plG:Pc 19 59 abT [(2,bC 64),(3,bC 65),(10,.slice (some (eD 62 0)) (v 8) (v 57)),(39,sA 50 53 51 52),(40,i64 (.tn (v 51))),(41,i64 (v 10)),(51,.slice (some (eD 62 0)) (v 8) (v 57)),(54,.agg [i8 (v 11),i64 (v 12)])] Nw [] [(62,.pre false 63 (v 8) [] [] [] 43 (v 57))] 10 [101] [2,3,10,39,40,41] AG [bC 64,bC 65,.slice (some (eD 101 0)) (.plus (.tn (v 8)) (.lit 1)) (v 101),sA 50 53 51 52,i64 (.tn (v 51)),i64 (.op .add .i64 (v 10) (.lit 1))] [(101,.pre false 63 (v 8) [] [] [i8 (v 11),i64 (v 12)] 43 (v 101))]:={}
theorem plH(z:Bool):Pc 19 59 AG [(2,bC 64),(3,bC 65),(10,.bF 10),(39,cU z 50 53 51 52),(40,i64 (dO z 51)),(41,i64 (v 10))] [((.cmp .lss (v 10) (dO z 51)),false)] [] [] 13 [] [4,5] [.code .ret] [.bF 10,i64 (.lit 0)] []:=by cases z<;>exact{}
def cQ(x:cx):Int:=(x.tree.headD ⟨0,0,0,0⟩).op
def N0(m:cV)(E:List (Int×Int))(x:cx):Int×Int:=match mJ x with
 |some t=>qB E m t
 |none=>(0,0)
def kN(m:cV):List cx->List (Int×Int)->List (Int×Int)
 |[],E=>E
 |x::r,E=>kN m r (E++[N0 m E x])
def jG(x:cx):Bool:=decide (cQ x=17)||decide (cQ x=18)
def oJ(F:iG)(m:cV):Int×List (Int×Int):=
 if(gH F).1≠0 then((gH F).1,[])
 else if F.lets.any jG then(11,[])
 else(0,kN m F.lets [])
theorem ye:∀(l:List cx) (i:Nat) (names:List (ByteArray×Bool)) (e:Int) (j:Nat),dX l i names=some (e,j)->e≠0
 |[],i,names,e,j,h=>by cases h
 |y::l,i,names,e,j,h=>by
  unfold dX at h;split at h
  ·rename_i hs;cases h;exact hs
  ·exact ye l _ _ e j h
theorem qC{F:iG}(h:(gH F).1=0):∀i x,F.lets[i]?=some x->∃t,fO x i t:=by
 have h0:dX F.lets 0 []=none:=by
  unfold gH at h;cases e:dX F.lets 0 []with
  |none=>rfl
  |some p=>rw[e]at h;exact(ye _ _ _ p.1 p.2 e h).elim
 intro i x hi;have:=tL F.lets 0 [] h0 i x hi;rwa[aF]at this
def h_(e:Int×Int):List Value:=[cY e.1,iV e.2]
def kU(w:World)(base:Nat)(s:Value)(l:List (Int×Int)):Prop:=(s=eH∧l=[])∨(l≠[]∧∃B c,s=bS B 0 l.length c∧base≤B∧(cy.vec 43 c (l.flatMap h_)).at Tryz.prog w B)
theorem kU.keep{w w':World}{base:Nat}{s:Value}{l:List (Int×Int)}(h:kU w base s l)(f:bA w w'):kU w' base s l:=by
 rcases h with h|⟨h1,B,c,h2,h3,h4⟩
 ·exact .inl h
 ·exact .inr ⟨h1,B,c,h2,h3,bP h4 f⟩
theorem N2(inf:TypeInfo)(hi:Tryz.prog.info? 43=some inf):inf.size=2:=by
 have e2:(Tryz.prog.info? 43).map (fun x=>x.size)=some 2:=by kernel_rfl
 rw[hi]at e2;exact au e2
theorem oK:∀l:List (Int×Int),(l.flatMap h_).length=2*l.length
 |[]=>rfl
 |e::l=>by rw[List.flatMap_cons,an,oK l,aC];show 2+2*l.length=_;omega
theorem tM:∀{l:List (Int×Int)} {i:Nat} {e:Int×Int},l[i]?=some e->(l.flatMap h_)[i*2]?=some (cY e.1)∧(l.flatMap h_)[i*2+1]?=some (iV e.2)
 |a::l,0,e,h=>by obtain rfl:a=e:=au h;exact⟨rfl,rfl⟩
 |a::l,i+1,e,h=>by
  obtain⟨h1,h2⟩:=tM (l:=l) (i:=i) h;rw[List.flatMap_cons];refine⟨?_,?_⟩
  ·rw[show(i+1)*2=i*2+1+1 by omega];exact h1
  ·rw[show(i+1)*2+1=i*2+1+1+1 by omega];exact h2
theorem N3{w:World}{B c:Nat}{l:List (Int×Int)}(h:(cy.vec 43 c (l.flatMap h_)).at Tryz.prog w B):l.length≤c:=by obtain⟨arr,rest,inf,e1,e2,e3,e4⟩:=h;have:=congrArg aR e3;rw[N2 inf e2]at e4;rw[an,oK]at this;have:arr.size=arr.toList.length:=rfl;omega
theorem kU.at{w:World}{base:Nat}{s:Value}{l:List (Int×Int)}(h:kU w base s l):ei w s l:=by
 rcases h with⟨h1,h2⟩|⟨h1,B,c,h2,h3,h4⟩
 ·exact⟨true,0,0,0,h1,fun _=>h2,(fun h=>by cases h),fun i n hi=>by rw[h2]at hi;cases hi⟩
 ·refine⟨false,B,0,c,h2,(fun h=>by cases h),fun _=>N3 h4,fun i e hi=>?_⟩;obtain⟨g1,g2⟩:=tM hi;rw[aF];exact⟨cy.cS h4 g1,cy.cS h4 g2⟩
noncomputable abbrev abU:List Item:=DE
noncomputable abbrev Rl:List Item:=AG
noncomputable abbrev PlA(l:List Nat):List Item:=.inRegion (opsOf (q7 32051)) l::[.inBlock 3,.code (q7 4007),.inLoop (q7 500),.inBlock 2,.code (q7 63)]
section
variable {w w0:World}{cs:List Frame}{fr:Frame}{m:cV}
theorem Rm{base X Y A o L c i:Nat}{s:Value}{l:List (Int×Int)}{e:Int×Int}(hb:base≤w.heap.size)(hs:kU w base s l)(hl:l.length≤1000000)(hf:FA 19 59 (PlA [4,5,6]) [] .normal [(2,bK X),(3,bK Y),(10,s),(39,bS A o L c),(40,iV L),(41,iV i),(51,s),(54,dY e)] fr):
  Goes (G fr cs) w fun g' w'=>∃fr' s',g'=G fr' cs∧bU (fun x=>base≤x) w w'∧kU w' base s' (l++[e])∧FA 19 59 Rl [] .normal [(2,bK X),(3,bK Y),(10,s'),(39,bS A o L c),(40,iV L),(41,iV (iz .add .i64 i 1))] fr':=by
 rcases hs with⟨rfl,rfl⟩|⟨hne,B0,c0,rfl,LQ,hv⟩
 ·refine(agt.go (bO [(51,L),(52,c),(53,o),(10,i),(11,e.1),(12,e.2)] [(64,X),(65,Y),(50,A)] []) hf rfl trivial trivial).mono fun g1 w1 hd=>?_;obtain⟨I,B,bR,rfl,f1,F1,bl,_⟩:=hd;exact⟨bR,_,rfl,f1.mono fun x hx=>ax hb hx,.inr ⟨by simp,B 101,(I 101).toNat,rfl,ax hb bl.1.1,bl.1.2⟩,F1⟩
 ·obtain⟨ρ,hρ⟩:∃ρ:Env,ρ=bO [(51,L),(52,c),(53,o),(10,i),(11,e.1),(12,e.2),(8,l.length),(57,c0)] [(64,X),(65,Y),(50,A),(62,B0)] [(63,.agg (l.flatMap h_).toArray)]:=⟨_,rfl⟩;have e62:ρ.b 62=B0:=by rw[hρ];rfl
  refine(plG.Df ρ hf (by rw[hρ];rfl) ⟨by rw[hρ];show decide ((((l.length:Int).toNat:Nat):Int)+1≤1048576)=true;exact decide_eq_true (by omega),trivial⟩ trivial (nofun) ⟨⟨.vec 43 c0 (l.flatMap h_),by rw[e62];exact hv,rfl,by rw[hρ];rfl,fun inf rS=>?_,(nofun),by rw[hρ];rfl⟩,trivial⟩ eS).mono fun g1 w1 hd=>?_
  ·rw[N2 inf rS,oK,hρ];show 2*l.length=((l.length:Nat):Int).toNat*2;omega
  obtain⟨I,B,bR,rfl,kp,F1,bl,_⟩:=hd;have own:∀x,k_ ρ w [(62,.pre false 63 (v 8) [] [] [] 43 (v 57))] x->base≤x:=fun x hx=>by
   rcases hx with h|⟨y,hy,e⟩
   ·exact ax hb h
   ·obtain rfl:=ah.1 hy;have e:ρ.b 62=x:=e;omega
  have hB:(cy.vec 43 (I 101).toNat ((l++[e]).flatMap h_)).at Tryz.prog w1 (B 101):=by have:=bl.1.2;rw[hρ]at this;rw[List.flatMap_append];exact this
  have hn:((((l.length:Int).toNat:Nat):Int)+1).toNat=(l++[e]).length:=by rw[an,bp];omega
  refine⟨bR,bS (B 101) 0 (l++[e]).length (I 101).toNat,rfl,kp.mono own,.inr ⟨by simp,B 101,(I 101).toNat,rfl,own _ bl.1.1,hB⟩,?_⟩;rw[<-hn];rw[hρ]at F1;exact F1
theorem l6{A o i:Nat}{x:cx}(h:lE w A (o+i*3) x)(hne:x.tree≠[]):∃At ot ct,w.cell? ⟨A,o+i*3,none⟩=some (.string x.name)∧w.cell? ⟨A,o+i*3+1,none⟩=some (bS At ot x.tree.length ct)∧w.cell? ⟨A,o+i*3+2,none⟩=some (iV x.cj)∧x.tree.length≤ct∧∀i n,x.tree[i]?=some n->iI w At (ot+i*4) n:=by
 obtain⟨ts,h1,h2,h3,h4⟩:=h.ex;rcases h4.ex with⟨rfl,h5⟩|⟨At,ot,ct,rfl,h5,h6⟩
 ·exact(hne h5).elim
 ·exact⟨At,ot,ct,h1,h2,h3,h5,h6⟩
theorem nw{x:cx}{i:Nat}{t:T}(h:fO x i t):x.tree≠[]:=by rw[h.fl];cases t;simp[flat]
theorem yf{x:cx}{A o c:Nat}(hne:x.tree≠[])(hel:∀i n,x.tree[i]?=some n->iI w A (o+i*4) n):dV 36 #[fK x (bS A o x.tree.length c)] w fun v w'=>bA w w'∧v=cY (cQ x):=by
 obtain⟨n,l,e⟩:∃n l,x.tree=n::l:=by
  cases e:x.tree with
  |nil=>exact(hne e).elim
  |cons n l=>exact⟨n,l,rfl⟩
 have h0:=hel 0 n (by rw[e];rfl);rw[Nat.zero_mul,Nat.add_zero]at h0;have er:cQ x=n.op:=by unfold cQ;rw[e];rfl
 rw[er];exact Dx (w:=w) (x:=x) (c:=c) h0 (by rw[e];simp)
theorem N4{F:iG}{z:Bool}{A o c X Y:Nat}{os:Value}(hz:z=true->F.lets=[])(hel:∀i x,F.lets[i]?=some x->lE w0 A (o+i*3) x)(hg:∀i x,F.lets[i]?=some x->∃t,fO x i t)(hlen:F.lets.length≤1000000)
 (hX:(cy.obj 25 [ew z A o F.lets.length c,os]).at Tryz.prog w0 X):
  ∀(k i:Nat) {w:World} {cs:List Frame} {fr:Frame},i+k=F.lets.length->bA w0 w->FA 19 59 abU [] .normal [(2,bK X),(3,bK Y),(23,ew z A o F.lets.length c),(24,iV F.lets.length),(25,iV i)] fr->
  Goes (G fr cs) w fun g' w'=>((F.lets.drop i).any jG=true∧∃fr',g'=G fr' cs∧bA w0 w'∧de 19 fr' w' (.tuple #[eH,iV 11]))∨((F.lets.drop i).any jG=false∧∃fr',g'=G fr' cs∧bA w0 w'∧FA 19 59 Rl [] .normal [(2,bK X),(3,bK Y),(10,eH),(39,ew z A o F.lets.length c),(40,iV F.lets.length),(41,iV 0)] fr')
 |0,i,w,cs,fr,hi,fw,hf=>by
  obtain⟨ρ,hρ⟩:∃ρ:Env,ρ=bO [(51,F.lets.length),(52,c),(53,o),(10,i)] [(64,X),(65,Y),(50,A)] []:=⟨_,rfl⟩;have ez:(cU z 50 53 51 52).ev ρ=ew z A o F.lets.length c:=by rw[hρ];cases z<;>rfl
  have en:(i64 (dO z 51)).ev ρ=iV F.lets.length:=by
   rw[hρ];cases z with
   |false=>rfl
   |true=>rw[hz rfl];rfl
  refine((plC z).go ρ hf (by
   show[some _,some _,some _,some _,some _]=[some _,some _,some ((cU z 50 53 51 52).ev ρ),some ((i64 (dO z 51)).ev ρ),some _];rw[ez,en,hρ];rfl) ⟨by
    rw[hρ];cases z with
    |false=>exact decide_eq_false (by show ¬((i:Int)<((F.lets.length:Nat):Int));omega)
    |true=>exact decide_eq_false (by show ¬((i:Int)<0);omega),trivial⟩ ⟨by
    rw[ez,hρ];exact fw.cell (bG hX (i:=0) rfl),trivial⟩).mono fun g1 w1 hd=>?_
  obtain⟨I,B,bR,rfl,f1,F1,_⟩:=hd;rw[aI (by omega)];refine .inr ⟨rfl,bR,rfl,fw.trans f1,?_⟩;rw[hρ]at F1;cases z with
  |false=>exact F1
  |true=>rw[hz rfl];exact F1
 |k+1,i,w,cs,fr,hi,fw,hf=>by
  have hlt:i<F.lets.length:=by omega
  obtain⟨x,hx⟩:∃x,F.lets[i]?=some x:=⟨_,aa hlt⟩;cases z with
  |true=>rw[hz rfl]at hlt;simp only[aX]at hlt;omega
  |false=>
  obtain⟨t,hgt⟩:=hg i x hx;have hne:=nw hgt;obtain⟨At,ot,ct,c0,c1,c2,Rn,iK⟩:=l6 ((hel i x hx).keep fw) hne;have dS:F.lets.drop i=x::F.lets.drop (i+1):=by rw[aG hlt];congr 1;exact au ((aa hlt).symm.trans hx)
  rw[dS,List.any_cons];obtain⟨ρ,hρ⟩:∃ρ:Env,ρ=Go.Proofs.YtmobbajggkjpgaaGreat.SX.iS [(51,F.lets.length),(52,c),(53,o),(10,i),(71,x.tree.length),(72,ct),(73,ot),(4,x.cj),(1,cQ x)] [(64,X),(65,Y),(50,A),(70,At)] [] [(1,x.name)]:=⟨_,rfl⟩;refine(pl5.go ρ hf (by rw[hρ];rfl) (bX (i:=10) (n:=51) (I:=i) (N:=F.lets.length) (by rw[hρ];rfl) (by rw[hρ];rfl) hlt) ⟨by rw[hρ];exact c0,by rw[hρ];exact c1,by rw[hρ];exact c2,trivial⟩).trans fun g1 w1 hd=>?_;obtain⟨I,B,bR,rfl,f1,F1,bl,_⟩:=hd;rw[hρ]at F1 bl;have hL:(cy.obj 50 [.string x.name,bS At ot x.tree.length ct,iV x.cj]).at Tryz.prog w1 (B 100):=bl.1.2;obtain⟨V,eV⟩:∃V,B 100=V:=⟨_,rfl⟩;rw[eV]at hL;have fN:FA 19 59 (.inRegion (opsOf (q7 7474)) [1,2,3,4,5,6,7]::[.code (q7 7475),.inBlock 1,.code (q7 935),.inLoop (q7 116),.inBlock 0,.code (q7 15)]) [] .normal [(2,bK X),(3,bK Y),(9,bK V),(23,bS A o F.lets.length c),(24,iV F.lets.length),(25,iV i),(29,fK x (bS At ot x.tree.length ct))] bR:=by rw[<-eV];exact F1
  refine(pl6.go (bO [] [] [(29,fK x (bS At ot x.tree.length ct))]) (Q:=fun v w'=>v=cY (cQ x)) fN rfl fun w' f2=>yf hne fun i n hi=>(iK i n hi).keep (f1.trans f2)).trans fun g2 w2 b_=>?_;obtain⟨cE,vv,rfl,f2,rfl,F2⟩:=b_;have f12:=f1.trans f2;obtain⟨σ,cr⟩:∃σ:Env,σ=Go.Proofs.YtmobbajggkjpgaaGreat.SX.iS [(51,F.lets.length),(52,c),(53,o),(10,i),(71,x.tree.length),(72,ct),(73,ot),(4,x.cj),(1,cQ x)] [(64,X),(65,Y),(66,V),(50,A),(70,At)] [] [(1,x.name)]:=⟨_,rfl⟩;have fin:∀{k:List Item} {w3:World} {cF:Frame},jG x=true->bA w0 w3->FA 19 59 (.code .ret::k) [] .normal [(4,eH),(5,iV 11)] cF->Goes (G cF cs) w3 fun g' w'=>((jG x||(F.lets.drop (i+1)).any jG)=true∧∃fr',g'=G fr' cs∧bA w0 w'∧de 19 fr' w' (.tuple #[eH,iV 11]))∨((jG x||(F.lets.drop (i+1)).any jG)=false∧∃fr',g'=G fr' cs∧bA w0 w'∧FA 19 59 Rl [] .normal [(2,bK X),(3,bK Y),(10,eH),(39,bS A o F.lets.length c),(40,iV F.lets.length),(41,iV 0)] fr'):=fun{k w3 cF} hw f3 F3=>by refine(jo VQ F3 rfl rfl).mono fun g6 w6 dz=>?_;obtain⟨dK,rfl,rfl,hL⟩:=dz;exact .inl ⟨by rw[hw];rfl,dK,rfl,f3,hL⟩
  by_cases sg:cQ x=17
  ·refine(pl7.go σ F2 (by rw[cr];rfl) ⟨by rw[cr];exact decide_eq_true sg,trivial⟩ trivial).trans fun g3 w3 cv=>?_;obtain⟨I,B,cF,rfl,f3,F3,_⟩:=cv;exact fin (by unfold jG;rw[decide_eq_true sg];rfl) (fw.trans (f12.trans f3)) F3
  refine(pl8.go σ F2 (by rw[cr];rfl) ⟨by rw[cr];exact decide_eq_false sg,trivial⟩ ⟨by rw[cr];exact f2.cell (bG hL (i:=0) rfl),by rw[cr];exact f2.cell (bG hL (i:=1) rfl),by rw[cr];exact f2.cell (bG hL (i:=2) rfl),trivial⟩).trans fun g3 w3 cv=>?_;obtain⟨I,B,cF,rfl,f3,F3,_⟩:=cv;rw[cr]at F3;refine(pl9.go (bO [] [] [(33,fK x (bS At ot x.tree.length ct))]) (Q:=fun v w'=>v=cY (cQ x)) F3 rfl fun w' f4=>yf hne fun i n hi=>(iK i n hi).keep (f12.trans (f3.trans f4))).trans fun g4 w4 dh=>?_;obtain⟨eO,vv,rfl,f4,rfl,F4⟩:=dh;by_cases lQ:cQ x=18
  ·refine(plA.go σ F4 (by rw[cr];rfl) ⟨by rw[cr];exact decide_eq_true lQ,trivial⟩ trivial).trans fun g5 w5 eg=>?_;obtain⟨I,B,gn,rfl,f5,F5,_⟩:=eg;exact fin (by unfold jG;rw[decide_eq_true lQ,Bool.or_true]) (fw.trans (f12.trans (f3.trans (f4.trans f5)))) F5
  ·refine(plB.go σ F4 (by rw[cr];rfl) ⟨by rw[cr];exact decide_eq_false lQ,trivial⟩ trivial).trans fun g5 w5 eg=>?_;obtain⟨I,B,gn,rfl,f5,F5,_⟩:=eg;have VR:jG x=false:=by unfold jG;rw[decide_eq_false sg,decide_eq_false lQ];rfl
   rw[VR,Bool.false_or];refine N4 (z:=false) (os:=os) (fun h=>by cases h) hel hg hlen hX k (i+1) (by omega) (fw.trans (f12.trans (f3.trans (f4.trans f5)))) ?_;rw[cr]at F5;rw[<-inc (i:=i) (by omega)];exact F5
theorem N5{e:Int×Int}{fn nt i:Nat}{ops:Array Oper}{lv:List (Nat×Value)}{l:List Nat}{k:List Item}{r d:Nat}(o79:dy nt ops i [(r,.iface 97 (.bF r))] 127 [.bF r] d)(o82:dy nt ops i [(r,.iface 100 (.bF r))] 128 [.bF r] d)(hf:FA fn nt (.inRegion ops (i::l)::k) [] .normal lv fr)(hr:gh r lv=some (gI e)):
  Goes (G fr cs) w fun g' w'=>∃fr',g'=G fr' cs∧bA w w'∧FA fn nt (.inRegion ops l::k) [] .normal (fP d (dY e) lv) fr':=by
 obtain⟨t,p,h1,h2,h3⟩:=Ii (e:=e);have ep:(bO [] [] [(r,p)]).v r=p:=by show vc undef r [(r,p)]=p;simp[vc,Go.Proofs.YtmobbajggkjpgaaGreat.SX.look]
 have ea:AV.evs (bO [] [] [(r,p)]) [.bF r]=[p]:=by show[(bO [] [] [(r,p)]).v r]=[p];rw[ep]
 rcases h2 with rfl|rfl
 ·refine(o79.go (bO [] [] [(r,p)]) (Q:=fun v w'=>v=dY e) hf (by
   show[gh r lv]=[some (Value.iface 97 ((bO [] [] [(r,p)]).v r))];rw[ep,hr,h1]) fun w' f=>?_).mono fun g' w' hd=>?_
  ·rw[ea];exact h3 w'
  ·obtain⟨fr',vv,h4,h5,rfl,h6⟩:=hd;exact⟨fr',h4,h5,h6⟩
 ·refine(o82.go (bO [] [] [(r,p)]) (Q:=fun v w'=>v=dY e) hf (by
   show[gh r lv]=[some (Value.iface 100 ((bO [] [] [(r,p)]).v r))];rw[ep,hr,h1]) fun w' f=>?_).mono fun g' w' hd=>?_
  ·rw[ea];exact h3 w'
  ·obtain⟨fr',vv,h4,h5,rfl,h6⟩:=hd;exact⟨fr',h4,h5,h6⟩
noncomputable def plR(L c o i tl ct ot cj:Int)(m:cV)(en c' o':Int)(X Y A At A':Nat)(nm:ByteArray):Env:=Go.Proofs.YtmobbajggkjpgaaGreat.SX.iS [(51,L),(52,c),(53,o),(10,i),(71,tl),(72,ct),(73,ot),(4,cj),(21,m.mul),(22,m.add),(23,m.cJ),(24,m.panics),(81,en),(82,c'),(83,o')] [(64,X),(65,Y),(50,A),(70,At),(80,A')] [] [(1,nm)]
theorem N6{F:iG}{z:Bool}{A o c X Y:Nat}(hz:z=true->F.lets=[])(hel:∀i x,F.lets[i]?=some x->lE w0 A (o+i*3) x)(hg:∀i x,F.lets[i]?=some x->∃t,fO x i t)(hlen:F.lets.length≤1000000)(htr:∀x∈F.lets,x.tree.length≤999999)
 (hY:(cy.obj 27 [iV m.mul,iV m.add,iV m.cJ,iV m.panics]).at Tryz.prog w0 Y):
  ∀(k i:Nat) {E:List (Int×Int)} {s:Value} {w:World} {cs:List Frame} {fr:Frame},i+k=F.lets.length->E.length=i->bA w0 w->kU w w0.heap.size s E->FA 19 59 Rl [] .normal [(2,bK X),(3,bK Y),(10,s),(39,ew z A o F.lets.length c),(40,iV F.lets.length),(41,iV i)] fr->
  Goes (G fr cs) w fun g' w'=>∃fr' s',g'=G fr' cs∧bA w0 w'∧kU w' w0.heap.size s' (kN m (F.lets.drop i) E)∧de 19 fr' w' (.tuple #[s',iV 0])
 |0,i,E,s,w,cs,fr,hi,hE,fw,hs,hf=>by
  obtain⟨ρ,hρ⟩:∃ρ:Env,ρ=bO [(51,F.lets.length),(52,c),(53,o),(10,i)] [(64,X),(65,Y),(50,A)] [(10,s)]:=⟨_,rfl⟩;have ez:(cU z 50 53 51 52).ev ρ=ew z A o F.lets.length c:=by rw[hρ];cases z<;>rfl
  have en:(i64 (dO z 51)).ev ρ=iV F.lets.length:=by
   rw[hρ];cases z with
   |false=>rfl
   |true=>rw[hz rfl];rfl
  refine((plH z).go ρ hf (by
   show[some _,some _,some _,some _,some _,some _]=[some _,some _,some _,some ((cU z 50 53 51 52).ev ρ),some ((i64 (dO z 51)).ev ρ),some _];rw[ez,en,hρ];rfl) ⟨by
    rw[hρ];cases z with
    |false=>exact decide_eq_false (by show ¬((i:Int)<((F.lets.length:Nat):Int));omega)
    |true=>exact decide_eq_false (by show ¬((i:Int)<0);omega),trivial⟩ trivial).trans fun g1 w1 hd=>?_
  obtain⟨I,B,bR,rfl,f1,F1,_⟩:=hd;rw[hρ]at F1;refine(jo VQ F1 rfl rfl).mono fun g6 w6 dz=>?_;obtain⟨dK,rfl,rfl,hL⟩:=dz;rw[aI (by omega)];exact⟨dK,s,rfl,fw.trans f1,hs.keep f1,hL⟩
 |k+1,i,E,s,w,cs,fr,hi,hE,fw,hs,hf=>by
  have hlt:i<F.lets.length:=by omega
  obtain⟨x,hx⟩:∃x,F.lets[i]?=some x:=⟨_,aa hlt⟩;cases z with
  |true=>rw[hz rfl]at hlt;simp only[aX]at hlt;omega
  |false=>
  obtain⟨t,hgt⟩:=hg i x hx;have hne:=nw hgt;obtain⟨At,ot,ct,c0,c1,c2,Rn,iK⟩:=l6 ((hel i x hx).keep fw) hne;have dS:F.lets.drop i=x::F.lets.drop (i+1):=by rw[aG hlt];congr 1;exact au ((aa hlt).symm.trans hx)
  have NO:=htr x (az hx);obtain⟨y,A',o',c',es,hy,Gp,fW⟩:=hs.at.ex;obtain⟨ρ,hρ⟩:∃ρ:Env,ρ=plR F.lets.length c o i x.tree.length ct ot x.cj m E.length c' o' X Y A At A' x.name:=⟨_,rfl⟩;have ey:(cU y 80 83 81 82).ev ρ=s:=by rw[hρ,es];cases y<;>rfl
  have eyI:∀I B,(cU y 80 83 81 82).ev (dc ρ I B)=s:=fun I B=>by rw[hρ,es];cases y<;>rfl
  refine((plD y).go ρ hf (by show[some _,some _,some _,some _,some _,some _]=[some _,some _,some ((cU y 80 83 81 82).ev ρ),some _,some _,some _];rw[ey,hρ];rfl) (bX (i:=10) (n:=51) (I:=i) (N:=F.lets.length) (by rw[hρ];rfl) (by rw[hρ];rfl) hlt) ⟨by rw[hρ];exact c0,by rw[hρ];exact c1,by rw[hρ];exact c2,by rw[hρ];exact fw.cell (bG hY (i:=0) rfl),by rw[hρ];exact fw.cell (bG hY (i:=1) rfl),by rw[hρ];exact fw.cell (bG hY (i:=2) rfl),by rw[hρ];exact fw.cell (bG hY (i:=3) rfl),trivial⟩).trans fun g1 w1 hd=>?_
  obtain⟨I,B,bR,rfl,f1,F1,bl,_⟩:=hd;obtain⟨V,eV⟩:∃V,B 101=V:=⟨_,rfl⟩;have hW:(cy.obj 69 [bS At ot x.tree.length ct,s,iV m.mul,iV m.add,iV m.cJ,iV m.panics]).at Tryz.prog w1 V:=by
   have h1:(cy.obj 69 [bS At ot x.tree.length ct,(cU y 80 83 81 82).ev (dc ρ I B),iV m.mul,iV m.add,iV m.cJ,iV m.panics]).at Tryz.prog w1 (B 101):=by have:=bl.1.2;rw[hρ]at this⊢;exact this
   rw[eyI,eV]at h1;exact h1
  have fN:FA 19 59 (PlA [2,3,4,5,6]) [] .normal [(2,bK X),(3,bK Y),(10,s),(13,bK V),(39,bS A o F.lets.length c),(40,iV F.lets.length),(41,iV i),(51,s),(52,bK V)] bR:=by
   have h1:FA 19 59 (PlA [2,3,4,5,6]) [] .normal [(2,bK X),(3,bK Y),(10,(cU y 80 83 81 82).ev (dc ρ I B)),(13,bK (B 101)),(39,bS A o F.lets.length c),(40,iV F.lets.length),(41,iV i),(51,(cU y 80 83 81 82).ev (dc ρ I B)),(52,bK (B 101))] bR:=by rw[hρ]at F1⊢;exact F1
   rw[eyI,eV]at h1;exact h1
  have wk:nM w1 V x.tree At ot ct s m:=⟨bG hW (i:=0) rfl,bG hW (i:=1) rfl,bG hW (i:=2) rfl,bG hW (i:=3) rfl,bG hW (i:=4) rfl,bG hW (i:=5) rfl,fun i n hi=>(iK i n hi).keep f1⟩;refine(plE.go (bO [] [] [(52,bK V)]) (Q:=fun v w'=>v=gI (qB E m t)) fN rfl fun w' f2=>?_).trans fun g2 w2 b_=>?_
  ·exact yc t (cj:=0) (rest:=[]) (wk.keep f2) (by omega) (hs.at.keep (f1.trans f2)) hgt.wf (by rw[hE];exact hgt.nd) (by rw[List.drop_zero,aV];exact hgt.fl)
  obtain⟨cE,vv,rfl,f2,rfl,F2⟩:=b_;refine(N5 (e:=qB E m t) abR abS F2 rfl).trans fun g3 w3 cv=>?_;obtain⟨cF,rfl,f3,F3⟩:=cv;have vV:=fw.trans (f1.trans (f2.trans f3));have qc:FA 19 59 (PlA [4,5,6]) [] .normal [(2,bK X),(3,bK Y),(10,s),(39,bS A o F.lets.length c),(40,iV F.lets.length),(41,iV i),(51,s),(54,dY (qB E m t))] cF:=F3.only rfl;refine(Rm (base:=w0.heap.size) vV.size (hs.keep (f1.trans (f2.trans f3))) (by omega) qc).trans fun g4 w4 dh=>?_;obtain⟨eO,s',rfl,kp,hs',F4⟩:=dh;rw[dS];have e1:kN m (x::F.lets.drop (i+1)) E=kN m (F.lets.drop (i+1)) (E++[qB E m t]):=by show kN m (F.lets.drop (i+1)) (E++[N0 m E x])=_;unfold N0;rw[hgt.tr]
  rw[e1];rw[inc (by omega)]at F4;exact N6 (z:=false) (X:=X) (fun h=>by cases h) hel hg hlen htr hY k (i+1) (by omega) (by rw[an,hE];rfl) (cw vV kp) hs' F4
theorem Ky{x:Value}{F:iG}(h:r_ w x F)(hlen:F.lets.length≤1000000)(htr:∀x∈F.lets,x.tree.length≤999999):dV 19 #[x,dx m] w fun v w'=>bA w w'∧∃s,v=.tuple #[s,iV (oJ F m).1]∧kU w' w.heap.size s (oJ F m).2:=by
 obtain⟨ls,os,rfl,hl,ho⟩:=h;obtain⟨z,A,o,c,hls,hz,oU,hel⟩:=hl.ex;refine cI fun cs=>?_;obtain⟨ρ,hρ⟩:∃ρ:Env,ρ=bO [(51,F.lets.length),(52,c),(53,o),(21,m.mul),(22,m.add),(23,m.cJ),(24,m.panics)] [(50,A)] [(9,os)]:=⟨_,rfl⟩;have ez:∀I B,(cU z 50 53 51 52).ev (dc ρ I B)=ls:=fun I B=>by rw[hρ,hls];cases z<;>rfl
 refine((pl1 z).go ρ (dU ags rfl (.agg #[ls,os]) (dx m)) (by rw[hls,hρ];cases z<;>rfl) trivial trivial).trans fun g1 w1 hd=>?_;obtain⟨I,B,bR,rfl,f1,F1,bl,_⟩:=hd;obtain⟨X,eX⟩:∃X,B 100=X:=⟨_,rfl⟩;obtain⟨Y,eY⟩:∃Y,B 101=Y:=⟨_,rfl⟩;have hY:(cy.obj 27 [iV m.mul,iV m.add,iV m.cJ,iV m.panics]).at Tryz.prog w1 Y:=by have:=bl.1.2;rw[hρ]at this;rw[<-eY];exact this
 have hX:(cy.obj 25 [ls,os]).at Tryz.prog w1 X:=by
  have h1:(cy.obj 25 [(cU z 50 53 51 52).ev (dc ρ I B),os]).at Tryz.prog w1 (B 100):=by have:=bl.2.1.2;rw[hρ]at this⊢;exact this
  rw[ez,eX]at h1;exact h1
 have fN:FA 19 59 (.inRegion (opsOf (q7 12)) [1,2,3,4,5,6]::[.code (q7 13),.code (q7 7)]) [] .normal [(2,bK X),(3,bK Y),(15,.agg #[ls,os])] bR:=by
  have h1:FA 19 59 (.inRegion (opsOf (q7 12)) [1,2,3,4,5,6]::[.code (q7 13),.code (q7 7)]) [] .normal [(2,bK (B 100)),(3,bK (B 101)),(15,.agg #[(cU z 50 53 51 52).ev (dc ρ I B),os])] bR:=by rw[hρ]at F1⊢;exact F1
  rw[ez,eX,eY]at h1;exact h1
 refine(pl2.go (bO [] [] [(15,.agg #[ls,os])]) (Q:=fun v w'=>v=.tuple #[iV (gH F).1,iV (gH F).2]) fN rfl fun w' f2=>qA ⟨ls,os,rfl,hl.keep (f1.trans f2),ho.keep (f1.trans f2)⟩ hlen htr).trans fun g2 w2 b_=>?_;obtain⟨cE,vv,rfl,f2,rfl,F2⟩:=b_;have f12:=f1.trans f2;obtain⟨σ,cr⟩:∃σ:Env,σ=bO [(51,F.lets.length),(52,c),(53,o),(5,(gH F).1),(6,(gH F).2)] [(50,A),(64,X),(65,Y)] [(9,os)]:=⟨_,rfl⟩;by_cases h0:(gH F).1=0
 ·have hg:=qC h0;have es:∀I B,(cU z 50 53 51 52).ev (dc σ I B)=ew z A o F.lets.length c:=fun I B=>by rw[cr];cases z<;>rfl
  have DF:(cy.obj 25 [ew z A o F.lets.length c,os]).at Tryz.prog w2 X:=by rw[<-hls];exact bP hX f2
  refine((pl4 z).go σ F2 (by rw[cr];rfl) ⟨by rw[cr];show(!decide ((gH F).1=0))=false;rw[decide_eq_true h0];rfl,trivial⟩ ⟨by have:=bG DF (i:=0) rfl;rw[cr];cases z<;>exact this,trivial⟩).trans fun g3 w3 cv=>?_
  obtain⟨I,B',cF,rfl,f3,F3,_⟩:=cv;have qc:FA 19 59 abU [] .normal [(2,bK X),(3,bK Y),(23,ew z A o F.lets.length c),(24,iV F.lets.length),(25,iV (0:Nat))] cF:=by
   rw[cr]at F3;cases z with
   |false=>exact F3
   |true=>rw[hz rfl];exact F3
  have f13:=f12.trans f3;refine(N4 (w0:=w3) hz (fun i x hi=>(hel i x hi).keep f13) hg hlen (bP DF f3) F.lets.length 0 (by omega) (bA.refl _) qc).trans fun g4 w4 dh=>?_;rcases dh with⟨ha,eO,rfl,f4,hL⟩|⟨ha,eO,rfl,f4,F4⟩
  ·refine .here ⟨eO,_,rfl,hL,f13.trans f4,eH,?_,?_⟩
   ·unfold oJ;rw[if_neg (by rw[h0];decide),if_pos (by simpa using ha)]
   ·unfold oJ;rw[if_neg (by rw[h0];decide),if_pos (by simpa using ha)];exact .inl ⟨rfl,rfl⟩
  ·have f14:=f13.trans f4;refine(N6 (w0:=w4) hz (fun i x hi=>(hel i x hi).keep f14) hg hlen htr (bP hY (f2.trans (f3.trans f4))) F.lets.length 0 (E:=[]) (s:=eH) (by omega) rfl (bA.refl _) (.inl ⟨rfl,rfl⟩) F4).mono fun g5 w5 eg=>?_;obtain⟨gn,s',rfl,f5,hs',hL⟩:=eg;have e:oJ F m=(0,kN m F.lets []):=by
    unfold oJ;rw[if_neg (by rw[h0];decide),if_neg (by simpa using ha)]
   refine⟨gn,_,rfl,hL,f14.trans f5,s',by rw[e],?_⟩;rw[e];rcases hs' with h|⟨h1,B0,c0,h2,h3,h4⟩
   ·exact .inl h
   ·exact .inr ⟨h1,B0,c0,h2,ax f14.size h3,h4⟩
 ·refine(pl3.go σ F2 (by rw[cr];rfl) ⟨by rw[cr];show(!decide ((gH F).1=0))=true;rw[decide_eq_false h0];rfl,trivial⟩ trivial).trans fun g3 w3 cv=>?_;obtain⟨I,B',cF,rfl,f3,F3,_⟩:=cv;rw[cr]at F3;refine(jo VQ F3 rfl rfl).mono fun g6 w6 dz=>?_;obtain⟨dK,rfl,rfl,hL⟩:=dz;have e:oJ F m=((gH F).1,[]):=by
   unfold oJ;rw[if_pos h0]
  refine⟨dK,_,rfl,hL,f12.trans f3,eH,by rw[e];rfl,?_⟩;rw[e];exact .inl ⟨rfl,rfl⟩
end
noncomputable abbrev Z:AV:=cL
noncomputable def zs(a n:Nat):List (Nat×AV):=(List.range n).map fun i=>(i+a,Z)
abbrev TH:Nat:=713053462628379038341895553118
abbrev TI:Nat:=792281625142643375935439503453
abbrev Kz:Nat:=1029966112685436388716071354458
theorem Pc.full{fn nt n:Nat}{todo todo':List Item}{lA:List (Nat×AV)}{bs:List (BE×Bool)}{mem:List (AA×AV)}{pre post:List (Nat×bQ)}{ks live:List Nat}{vals:List AV}
 (hT:∀st,tmpsOf nt st lA=tmpsOf nt (fun _=>.nilIface) lA)(run:Q0 (VC bs mem n ks (cfg (ZK fn nt todo lA (fun _=>.nilIface)) [] pre)) live noL=some (⟨fn,nt,todo',[],.run,.normal,[],post,vals⟩,[]))(low:r6 100 (cfg (ZK fn nt todo lA (fun _=>.nilIface)) [] pre)=true)(Q3:(OO bs mem).low 100=true)(nd:(post.map (·.1)).Nodup):Pc fn nt todo lA bs mem pre n ks live todo' vals post:=
 ⟨fun st=>by unfold ZK;rw[hT st];exact run,fun st=>by unfold ZK;rw[hT st];exact low,Q3,nd⟩
theorem Ro{f nt:Nat}{t:TT}{body:Code}{live:List Nat}{vals:List AV}(h:bT Tryz.prog f j6 .normal=.ok ⟨f,nt,t,[.code body],[],.run,.normal⟩)(hs:kM (⟨f,nt,t,[.code body],[],.run,.normal⟩:bW) live=⟨f,nt,[.code body],[],.run,.normal,[],[],vals⟩)(x y z u:Value):
  FA f nt [.code body] [] .normal (live.zip (AV.evs (bO [] [] [(0,x),(1,y),(2,z),(3,u)]) vals)) (Frame.enter Tryz.prog f #[x,y,z,u] .normal):=by
 let ρ:Env:=bO [] [] [(0,x),(1,y),(2,z),(3,u)];exact E5.of (live:=live) (vals:=vals) (dA:=[]) (gZ (U:=fun _=>True) h (.inl rfl) ⟨trivial,trivial,trivial,trivial,trivial⟩ (ρ:=ρ)).1 hs (.inl rfl)
end Go.Proofs.YtmobbajggkjpgaaGreat

/-
  A symbolic run of the model, proved sound, and the walk of the code: a text of its parts. Conditions: none.
-/
import Derived.Test.YtmobbajggkjpgaaGE
set_option linter.unusedSectionVars false
set_option maxRecDepth 100000
set_option linter.unusedVariables false
set_option linter.unusedSimpArgs false
namespace Go.Proofs.Ytmobbajggkjpgaa
open Go.Proofs.Ytmobbajggkjpgaa.SX Go.Conc
def wadd(a b:Int):Int:=iop .add .i64 a b
def max2(a b:Int):Int:=if b>a then b else a
mutual
def flat:T->List Nd
 |.nd n ks=>n::flatL ks
def flatL:List T->List Nd
 |[]=>[]
 |k::ks=>flat k++flatL ks
end
mutual
def deepF:T->Int->Int×Int
 |.nd n ks,d=>((deepL n.op (if rkOf n.op>2∧ks≠[]then wadd d 1 else d) 0 ks (if rkOf n.op>2∧ks≠[]then wadd d 1 else d) 0).1,wadd (deepL n.op (if rkOf n.op>2∧ks≠[]then wadd d 1 else d) 0 ks (if rkOf n.op>2∧ks≠[]then wadd d 1 else d) 0).2 1)
def deepL(op d:Int):Nat->List T->Int->Int->Int×Int
 |i,[],most,marks=>(most,marks)
 |i,k::ks,most,marks=>
  let a1:=if rkOf op<3∧i=1 then wadd d marks else d
  let a2:=if decide (rkOf k.n.op<wantsOf op i)then wadd a1 1 else a1
  let r:=deepF k a2
  deepL op d (i+1) ks (max2 (max2 most r.1) a2) (if i=0∧rkOf op<3∧rkOf k.n.op=rkOf op then r.2 else marks)
end
theorem flatL_len:∀ks:List T,ks.length≤(flatL ks).length
 |[]=>Nat.le_refl _
 |.nd n l::ks=>by
  have:=flatL_len ks
  simp only[flatL,flat,List.length_cons,List.length_append]
  omega
noncomputable abbrev dpH:List Item:=[.code (q46 [1,1,1,1,0,1,0,0]),.inLoop (q46 [1,1,1,1,0,1,0,0]),.inBlock 0,.code (q46 [1,1,1,1,1])]
section
variable {w:World}{cs:List Frame}{fr:Frame}
theorem wq_max3{Ev:Event->Prop}{E:Value->World->Prop}{a b c:Int}{ts:Array TypeId}{ty:TypeId}{Q:Value->World->Prop}(hq:Q (iV (max2 (max2 a b) c)) w):wq Try.prog Ev E (Builtin.max_ ts ty #[iV a,iV b,iV c]) Q w:=by
 simp only[Builtin.max_,iV,List.foldlM_cons,List.foldlM_nil,Builtin.max2,wq_bind,wq_pure]
 exact hq
theorem drop_get{α:Type}{l:List α}{i:Nat}{a:α}{r:List α}(h:l.drop i=a::r):l[i]?=some a∧l.drop (i+1)=r∧i<l.length:=by
 have h1:l[i]?=some a:=by
  have:=congrArg (·[0]?) h
  simpa using this
 refine⟨h1,?_,(List.getElem?_eq_some_iff.1 h1).1⟩
 have:=congrArg List.tail h
 rw[List.tail_drop]at this
 simpa using this
mutual
theorem deep_all:∀(t:T) {w:World} {U:Nat->Prop} {b:Nat} {d:Int},TreeAt w U b t->(flat t).length≤1000000->Ans 46 #[ptrV b,iV d] w fun v w'=>Fresh w w'∧v=.tuple #[iV (deepF t d).1,iV (deepF t d).2]
 |.nd n ks,w,U,b,d,h,hl=>by
  have h':=h
  obtain⟨b,n,ks,ps,s,u,c0,c1,c2,c3,c5,hs,hks⟩:=h
  have hlen:(flatL ks).length≤1000000:=by
   simp only[flat,List.length_cons]at hl
   omega
  have hlk:=flatL_len ks
  refine ans_of fun cs=>?_
  refine(dpA.go (mkE [(7,d),(2,n.op)] [(61,b)] []) (enter2 ent46 rfl (ptrV b) (iV d)) rfl trivial ⟨c0,trivial⟩).trans fun g1 w1 hd=>?_
  obtain⟨I,B,fr1,rfl,f1,F1,_⟩:=hd
  refine(dpB.go (mkE [] [] [(16,i8V n.op)]) (Q:=fun v w'=>v=iV (rkOf n.op)) F1 rfl fun w' f1=>rank_all).trans fun g2 w2 hd2=>?_
  obtain⟨fr2,v,rfl,f2,rfl,F2⟩:=hd2
  have f12:=f1.trans f2
  rcases hs.ex with⟨rfl,rfl⟩|⟨A,o,c,uA,lA,rfl,hc,hel⟩
  ·obtain rfl:ks=[]:=List.eq_nil_of_length_eq_zero hks.len.symm
   have e0:deepF (.nd n []) d=(d,wadd 0 1):=by simp[deepF,deepL]
   rw[e0]
   have fin:∀{w3:World} {fr3:Frame},Fresh w2 w3->FA 46 87 dpH [] .normal [(0,ptrV b),(1,iV d),(4,iV d),(5,iV 0),(6,iV (rkOf n.op)),(34,nilV),(35,iV 0),(36,iV 0)] fr3->Goes (G fr3 cs) w3 fun g' w'=>∃fr' v,g'=G fr' cs∧Leav 46 fr' w' v∧Fresh w w'∧v=.tuple #[iV d,iV (wadd 0 1)]:=fun{w3 fr3} f3 F3=>by
    refine(dpEn.go (mkE [(7,d),(8,d),(9,0),(3,rkOf n.op)] [(61,b)] []) F3 rfl trivial trivial).trans fun g4 w4 hd4=>?_
    obtain⟨I,B,fr4,rfl,f4,F4,_⟩:=hd4
    refine(leave2 ret46 F4 rfl rfl).mono fun g6 w6 hd6=>?_
    obtain⟨fr6,rfl,rfl,hL⟩:=hd6
    exact⟨fr6,_,rfl,hL,f12.trans (f3.trans f4),rfl⟩
   by_cases h2:rkOf n.op>2
   ·refine(dpN1.go (mkE [(7,d),(3,rkOf n.op)] [(61,b)] []) F2 rfl ⟨decide_eq_true h2,trivial⟩ ⟨f12.cell c5,trivial⟩).trans fun g3 w3 hd3=>?_
    obtain⟨I,B,fr3,rfl,f3,F3,_⟩:=hd3
    exact fin f3 F3
   ·refine(dpN0.go (mkE [(7,d),(3,rkOf n.op)] [(61,b)] []) F2 rfl ⟨decide_eq_false h2,trivial⟩ ⟨f12.cell c5,trivial⟩).trans fun g3 w3 hd3=>?_
    obtain⟨I,B,fr3,rfl,f3,F3,_⟩:=hd3
    exact fin f3 F3
  ·obtain⟨ρ,hρ⟩:∃ρ:Env,ρ=mkE [(7,d),(3,rkOf n.op),(51,ps.length),(52,c),(53,o)] [(61,b),(50,A)] []:=⟨_,rfl⟩
   have ed:∀{x:Int},x=(if rkOf n.op>2∧ks≠[]then wadd d 1 else d)->deepF (.nd n ks) d=((deepL n.op x 0 ks x 0).1,wadd (deepL n.op x 0 ks x 0).2 1):=fun h=>by
    subst h
    simp only[deepF]
   have go:∀{w3:World} {fr3:Frame} {x:Int},Fresh w2 w3->x=(if rkOf n.op>2∧ks≠[]then wadd d 1 else d)->FA 46 87 dpH [] .normal [(0,ptrV b),(1,iV x),(4,iV x),(5,iV 0),(6,iV (rkOf n.op)),(34,slV A o ps.length c),(35,iV ps.length),(36,iV 0)] fr3->Goes (G fr3 cs) w3 fun g' w'=>∃fr' v,g'=G fr' cs∧Leav 46 fr' w' v∧Fresh w w'∧v=.tuple #[iV (deepF (.nd n ks) d).1,iV (deepF (.nd n ks) d).2]:=fun{w3 fr3 x} f3 hx F3=>by
    rw[ed hx]
    refine(deep_loop ks (i:=0) h' hks hel rfl (by omega) hlen (f12.trans f3) F3).mono fun g4 w4 hd4=>?_
    obtain⟨fr4,rfl,f4,hL⟩:=hd4
    exact⟨fr4,_,rfl,hL,f4,rfl⟩
   have hk0:ks≠[]↔0<ps.length:=by
    rw[hks.len]
    exact List.length_pos_iff.symm
   by_cases h2:rkOf n.op>2
   ·by_cases h0:((ps.length:Nat):Int)>0
    ·refine(dpC2.go ρ F2 (by rw[hρ];rfl) ⟨by rw[hρ];exact decide_eq_true h2,by rw[hρ];exact decide_eq_true h0,trivial⟩ ⟨by rw[hρ];exact f12.cell c5,trivial⟩).trans fun g3 w3 hd3=>?_
     obtain⟨I,B,fr3,rfl,f3,F3,_⟩:=hd3
     exact go (x:=wadd d 1) f3 (by rw[if_pos ⟨h2,hk0.2 (by omega)⟩]) (by rw[hρ]at F3;exact F3)
    ·refine(dpC1.go ρ F2 (by rw[hρ];rfl) ⟨by rw[hρ];exact decide_eq_true h2,by rw[hρ];exact decide_eq_false h0,trivial⟩ ⟨by rw[hρ];exact f12.cell c5,trivial⟩).trans fun g3 w3 hd3=>?_
     obtain⟨I,B,fr3,rfl,f3,F3,_⟩:=hd3
     exact go (x:=d) f3 (by rw[if_neg fun hh=>by have:=hk0.1 hh.2;omega]) (by rw[hρ]at F3;exact F3)
   ·refine(dpC0.go ρ F2 (by rw[hρ];rfl) ⟨by rw[hρ];exact decide_eq_false h2,trivial⟩ ⟨by rw[hρ];exact f12.cell c5,trivial⟩).trans fun g3 w3 hd3=>?_
    obtain⟨I,B,fr3,rfl,f3,F3,_⟩:=hd3
    exact go (x:=d) f3 (by rw[if_neg fun hh=>h2 hh.1]) (by rw[hρ]at F3;exact F3)
theorem deep_loop:∀(ks:List T) {n:Nd} {all:List T} {U:Nat->Prop} {b A o c i:Nat} {ps:List Nat} {d most marks:Int} {w0 w:World} {cs:List Frame} {fr:Frame},TreeAt w0 U b (.nd n all)->TreesAt w0 U ps all->(∀i p,ps[i]?=some p->w0.cell? ⟨A,o+i,none⟩=some (ptrV p))->all.drop i=ks->all.length≤1000000->(flatL ks).length≤1000000->Fresh w0 w->
  FA 46 87 dpH [] .normal [(0,ptrV b),(1,iV d),(4,iV most),(5,iV marks),(6,iV (rkOf n.op)),(34,slV A o ps.length c),(35,iV ps.length),(36,iV i)] fr->
  Goes (G fr cs) w fun g' w'=>∃fr',g'=G fr' cs∧Fresh w0 w'∧Leav 46 fr' w' (.tuple #[iV (deepL n.op d i ks most marks).1,iV (wadd (deepL n.op d i ks most marks).2 1)])
 |[],n,all,U,b,A,o,c,i,ps,d,most,marks,w0,w,cs,fr,ht,hks,hel,hd0,hla,hfl,fw,hf=>by
  have hi:ps.length≤i:=by
   rw[hks.len]
   exact List.drop_eq_nil_iff.1 hd0
  obtain⟨ρ,hρ⟩:∃ρ:Env,ρ=mkE [(7,d),(8,most),(9,marks),(3,rkOf n.op),(51,ps.length),(52,c),(53,o),(10,i)] [(61,b),(50,A)] []:=⟨_,rfl⟩
  refine(dpE.go ρ hf (by rw[hρ];rfl) ⟨by rw[hρ];exact decide_eq_false (by show ¬((i:Int)<((ps.length:Nat):Int));omega),trivial⟩ trivial).trans fun g4 w4 hd4=>?_
  obtain⟨I,B,fr4,rfl,f4,F4,_⟩:=hd4
  rw[hρ]at F4
  refine(leave2 ret46 F4 rfl rfl).mono fun g6 w6 hd6=>?_
  obtain⟨fr6,rfl,rfl,hL⟩:=hd6
  exact⟨fr6,rfl,fw.trans f4,hL⟩
 |k::ks,n,all,U,b,A,o,c,i,ps,d,most,marks,w0,w,cs,fr,ht,hks,hel,hd0,hla,hfl,fw,hf=>by
  obtain⟨hk,hd1,hi⟩:=drop_get hd0
  obtain⟨p,hp,hpk⟩:=hks.get hk
  have hip:i<ps.length:=(List.getElem?_eq_some_iff.1 hp).1
  have hfk:(flat k).length≤1000000:=by
   simp only[flatL,List.length_append]at hfl
   omega
  have hfk2:(flatL ks).length≤1000000:=by
   simp only[flatL,List.length_append]at hfl
   omega
  have bb:∀{ρ:Env},ρ=mkE [(7,d),(8,most),(9,marks),(3,rkOf n.op),(51,ps.length),(52,c),(53,o),(10,i)] [(61,b),(50,A),(62,p)] []->AllB ρ _:=fun{ρ} hρ=>ltB_ok (ρ:=ρ) (i:=10) (n:=51) (I:=i) (N:=ps.length) (by rw[hρ];rfl) (by rw[hρ];rfl) hip
  obtain⟨ρ,hρ⟩:∃ρ:Env,ρ=mkE [(7,d),(8,most),(9,marks),(3,rkOf n.op),(51,ps.length),(52,c),(53,o),(10,i)] [(61,b),(50,A),(62,p)] []:=⟨_,rfl⟩
  have mm:AllM ρ w [(⟨(.dyn 50),(.plus (.tn (v 53)) (.tn (v 10)))⟩,ptr0 62)]:=by
   rw[hρ]
   exact⟨fw.cell (hel i p hp),trivial⟩
  have step3:∀{a1:Int} {w3:World} {fr3:Frame},a1=(if rkOf n.op<3∧i=1 then wadd d marks else d)->Fresh w0 w3->FA 46 87 (.inRegion (opsOf (q46 [1,1,1,1,0,1,0,0,1,1,0,0,1,1,1,0,0])) [2]::[.code (q46 [1,1,1,1,0,1,0,0,1,1,0,0,1,1,1,0,1]),.code (q46 [1,1,1,1,0,1,0,0,1,1,0,0,1,1,1,1]),.inBlock 1,.code (q46 [1,1,1,1,0,1,0,0,1,1,1]),.inLoop (q46 [1,1,1,1,0,1,0,0]),.inBlock 0,.code (q46 [1,1,1,1,1])]) [] .normal [(0,ptrV b),(1,iV d),(4,iV most),(5,iV marks),(6,iV (rkOf n.op)),(7,iV i),(8,ptrV p),(9,iV a1),(34,slV A o ps.length c),(35,iV ps.length),(36,iV i),(51,ptrV b),(52,iV i)] fr3->
    Goes (G fr3 cs) w3 fun g' w'=>∃fr',g'=G fr' cs∧Fresh w0 w'∧Leav 46 fr' w' (.tuple #[iV (deepL n.op d i (k::ks) most marks).1,iV (wadd (deepL n.op d i (k::ks) most marks).2 1)]):=fun{a1 w3 fr3} ha f3 F3=>by
   refine(dpS.go (mkE [] [] [(51,ptrV b),(52,iV i)]) (Q:=fun v w'=>v=.bool (wrapB (.nd n all) i k)) F3 rfl fun w' f4=>wrapped_all (TreeAt.keep (f3.trans f4) ht) hk hla).trans fun g4 w4 hd4=>?_
   obtain⟨fr4,vv,rfl,f4,rfl,F4⟩:=hd4
   have step5:∀{a2:Int} {w5:World} {fr5:Frame},a2=(if decide (rkOf k.n.op<wantsOf n.op i)then wadd a1 1 else a1)->Fresh w0 w5->FA 46 87 (.inRegion (opsOf (q46 [1,1,1,1,0,1,0,0,1,1,0,0,1,1,1,1,0])) [2,3,4,5,6,7]::[.code (q46 [1,1,1,1,0,1,0,0,1,1,0,0,1,1,1,1,1]),.inBlock 1,.code (q46 [1,1,1,1,0,1,0,0,1,1,1]),.inLoop (q46 [1,1,1,1,0,1,0,0]),.inBlock 0,.code (q46 [1,1,1,1,1])]) [] .normal [(0,ptrV b),(1,iV d),(4,iV most),(5,iV marks),(6,iV (rkOf n.op)),(7,iV i),(8,ptrV p),(9,iV a2),(34,slV A o ps.length c),(35,iV ps.length),(36,iV i),(57,ptrV p),(58,iV a2)] fr5->
     Goes (G fr5 cs) w5 fun g' w'=>∃fr',g'=G fr' cs∧Fresh w0 w'∧Leav 46 fr' w' (.tuple #[iV (deepL n.op d i (k::ks) most marks).1,iV (wadd (deepL n.op d i (k::ks) most marks).2 1)]):=fun{a2 w5 fr5} ha2 f5 F5=>by
    refine(dpU.go (mkE [] [] [(57,ptrV p),(58,iV a2)]) (Q:=fun v w'=>v=.tuple #[iV (deepF k a2).1,iV (deepF k a2).2]) F5 rfl fun w' f6=>deep_all k (TreeAt.keep (f5.trans f6) hpk) hfk).trans fun g6 w6 hd6=>?_
    obtain⟨fr6,vv,rfl,f6,rfl,F6⟩:=hd6
    obtain⟨σ,hσ⟩:∃σ:Env,σ=mkE [(7,d),(8,most),(9,marks),(3,rkOf n.op),(51,ps.length),(52,c),(53,o),(10,i),(11,a2),(12,(deepF k a2).1),(13,(deepF k a2).2),(14,k.n.op),(15,rkOf k.n.op)] [(61,b),(50,A),(62,p)] []:=⟨_,rfl⟩
    have step7:∀{mk':Int} {w7:World} {fr7:Frame},mk'=(if i=0∧rkOf n.op<3∧rkOf k.n.op=rkOf n.op then(deepF k a2).2 else marks)->Fresh w0 w7->FA 46 87 (.inRegion (opsOf (q46 [1,1,1,1,0,1,0,0,1,1,0,0,1,1,1,1,1,1])) [3,4]::[.inBlock 1,.code (q46 [1,1,1,1,0,1,0,0,1,1,1]),.inLoop (q46 [1,1,1,1,0,1,0,0]),.inBlock 0,.code (q46 [1,1,1,1,1])]) [] .normal [(0,ptrV b),(1,iV d),(5,iV mk'),(6,iV (rkOf n.op)),(34,slV A o ps.length c),(35,iV ps.length),(36,iV i),(79,iV most),(80,iV (deepF k a2).1),(81,iV a2)] fr7->
      Goes (G fr7 cs) w7 fun g' w'=>∃fr',g'=G fr' cs∧Fresh w0 w'∧Leav 46 fr' w' (.tuple #[iV (deepL n.op d i (k::ks) most marks).1,iV (wadd (deepL n.op d i (k::ks) most marks).2 1)]):=fun{mk' w7 fr7} hm f7 F7=>by
     refine(dpW.go (R:=fun v w'=>v=iV (max2 (max2 most (deepF k a2).1) a2)∧w'=w7) (mkE [] [] []) F7 (by decide) rfl fun tm htm x' e1 e2=>?_).trans fun g8 w8 hd8=>?_
     ·unfold execOp
      simp only[e1,resolve,wq_bind,wq_pure,invoke,builtin]
      rw[show Array.map (⟨tm,[]⟩:Act).eval #[Operand.tmp 79,Operand.tmp 80,Operand.tmp 81]=#[(⟨tm,[]⟩:Act).eval (.tmp 79),(⟨tm,[]⟩:Act).eval (.tmp 80),(⟨tm,[]⟩:Act).eval (.tmp 81)]from by simp]
      rw[htm 79 _ rfl,htm 80 _ rfl,htm 81 _ rfl]
      exact wq_max3 ⟨_,rfl,rfl,rfl⟩
     obtain⟨fr8,vv,rfl,⟨rfl,rfl⟩,F8⟩:=hd8
     refine(dpK.go (mkE [(7,d),(9,mk'),(3,rkOf n.op),(51,ps.length),(52,c),(53,o),(10,i),(16,max2 (max2 most (deepF k a2).1) a2)] [(61,b),(50,A)] []) F8 rfl trivial trivial).trans fun g9 w9 hd9=>?_
     obtain⟨I,B,fr9,rfl,f9,F9,_⟩:=hd9
     have hgo:=deep_loop ks (i:=i+1) (c:=c) (d:=d) (most:=max2 (max2 most (deepF k a2).1) a2) (marks:=mk') (w:=w9) (cs:=cs) (fr:=fr9) ht hks hel hd1 hla hfk2 (f7.trans f9) (by
      rw[<-inc (i:=i) (by omega)]
      exact F9)
     have e:deepL n.op d i (k::ks) most marks=deepL n.op d (i+1) ks (max2 (max2 most (deepF k a2).1) a2) mk':=by
      subst hm ha2 ha
      simp only[deepL]
     rw[e]
     exact hgo
    by_cases h0:i=0
    ·subst h0
     by_cases h3:rkOf n.op<3
     ·refine(dpX.go σ F6 (by rw[hσ];rfl) ⟨by rw[hσ];rfl,by rw[hσ];exact decide_eq_true h3,trivial⟩ ⟨?_,trivial⟩).trans fun g7 w7 hd7=>?_
      ·have:=TreeAt.keep (f5.trans f6) hpk
       obtain⟨_,m,ks',ps',s',u',d0,_⟩:=this
       rw[hσ]
       exact d0
      obtain⟨I,B,fr7,rfl,f7,F7,_⟩:=hd7
      rw[hσ]at F7
      refine(dpY.go (mkE [] [] [(73,i8V k.n.op)]) (Q:=fun v w'=>v=iV (rkOf k.n.op)) F7 rfl fun w' f1=>rank_all).trans fun g8 w8 hd8=>?_
      obtain⟨fr8,vv,rfl,f8,rfl,F8⟩:=hd8
      by_cases hr:rkOf k.n.op=rkOf n.op
      ·refine(dpZ1.go σ F8 (by rw[hσ];rfl) ⟨by rw[hσ];exact decide_eq_true hr,trivial⟩ trivial).trans fun g9 w9 hd9=>?_
       obtain⟨I,B,fr9,rfl,f9,F9,_⟩:=hd9
       rw[hσ]at F9
       exact step7 (mk':=(deepF k a2).2) (by rw[if_pos ⟨rfl,h3,hr⟩]) (f5.trans (f6.trans (f7.trans (f8.trans f9)))) F9
      ·refine(dpZ0.go σ F8 (by rw[hσ];rfl) ⟨by rw[hσ];exact decide_eq_false hr,trivial⟩ trivial).trans fun g9 w9 hd9=>?_
       obtain⟨I,B,fr9,rfl,f9,F9,_⟩:=hd9
       rw[hσ]at F9
       exact step7 (mk':=marks) (by rw[if_neg fun hh=>hr hh.2.2]) (f5.trans (f6.trans (f7.trans (f8.trans f9)))) F9
     ·refine(dpV1.go σ F6 (by rw[hσ];rfl) ⟨by rw[hσ];rfl,by rw[hσ];exact decide_eq_false h3,trivial⟩ trivial).trans fun g7 w7 hd7=>?_
      obtain⟨I,B,fr7,rfl,f7,F7,_⟩:=hd7
      rw[hσ]at F7
      exact step7 (mk':=marks) (by rw[if_neg fun hh=>h3 hh.2.1]) (f5.trans (f6.trans f7)) F7
    ·refine(dpV0.go σ F6 (by rw[hσ];rfl) ⟨by rw[hσ];exact decide_eq_false (by show ¬((i:Int)=0);omega),trivial⟩ trivial).trans fun g7 w7 hd7=>?_
     obtain⟨I,B,fr7,rfl,f7,F7,_⟩:=hd7
     rw[hσ]at F7
     exact step7 (mk':=marks) (by rw[if_neg fun hh=>h0 hh.1]) (f5.trans (f6.trans f7)) F7
   obtain⟨σ,hσ⟩:∃σ:Env,σ=mkE [(7,d),(8,most),(9,marks),(3,rkOf n.op),(51,ps.length),(52,c),(53,o),(10,i),(11,a1)] [(61,b),(50,A),(62,p)] []:=⟨_,rfl⟩
   cases e:wrapB (.nd n all) i k with
   |false=>
    rw[e]at F4
    refine(dpT0.go σ F4 (by rw[hσ];rfl) trivial trivial).trans fun g5 w5 hd5=>?_
    obtain⟨I,B,fr5,rfl,f5,F5,_⟩:=hd5
    rw[hσ]at F5
    exact step5 (a2:=a1) (by rw[show decide (rkOf k.n.op<wantsOf n.op i)=false from e];rfl) (f3.trans (f4.trans f5)) F5
   |true=>
    rw[e]at F4
    refine(dpT1.go σ F4 (by rw[hσ];rfl) trivial trivial).trans fun g5 w5 hd5=>?_
    obtain⟨I,B,fr5,rfl,f5,F5,_⟩:=hd5
    rw[hσ]at F5
    exact step5 (a2:=wadd a1 1) (by rw[show decide (rkOf k.n.op<wantsOf n.op i)=true from e];rfl) (f3.trans (f4.trans f5)) F5
  by_cases h3:rkOf n.op<3
  ·by_cases h1:i=1
   ·refine(dpR2.go ρ hf (by rw[hρ];rfl) (AllB.app (bb hρ) ⟨by rw[hρ];exact decide_eq_true h3,by rw[hρ];exact decide_eq_true (by show(i:Int)=1;omega),trivial⟩) mm).trans fun g3 w3 hd3=>?_
    obtain⟨I,B,fr3,rfl,f3,F3,_⟩:=hd3
    rw[hρ]at F3
    exact step3 (a1:=wadd d marks) (by rw[if_pos ⟨h3,h1⟩]) (fw.trans f3) F3
   ·refine(dpR1.go ρ hf (by rw[hρ];rfl) (AllB.app (bb hρ) ⟨by rw[hρ];exact decide_eq_true h3,by rw[hρ];exact decide_eq_false (by show ¬((i:Int)=1);omega),trivial⟩) mm).trans fun g3 w3 hd3=>?_
    obtain⟨I,B,fr3,rfl,f3,F3,_⟩:=hd3
    rw[hρ]at F3
    exact step3 (a1:=d) (by rw[if_neg fun hh=>h1 hh.2]) (fw.trans f3) F3
  ·refine(dpR0.go ρ hf (by rw[hρ];rfl) (AllB.app (bb hρ) ⟨by rw[hρ];exact decide_eq_false h3,trivial⟩) mm).trans fun g3 w3 hd3=>?_
   obtain⟨I,B,fr3,rfl,f3,F3,_⟩:=hd3
   rw[hρ]at F3
   exact step3 (a1:=d) (by rw[if_neg fun hh=>h3 hh.1]) (fw.trans f3) F3
end
end
noncomputable def q45(l:List Nat):Code:=pc (bodyOf Try.f45) l
theorem ent45:enterA Try.prog 45 [.opq 0,.opq 1] .normal=.ok ⟨45,135,entT 45 [.opq 0,.opq 1],[.code (bodyOf Try.f45)],[],.run,.normal⟩:=by kernel_rfl
theorem ret45:RetC2 45 135 4 5:=fun st=>by kernel_rfl
theorem gr0:Pc 45 135 [.code (q45 [])] [(0,nilA)] [] [] [] 18 [] [4,5] [.code .ret,.code (q45 [1,1])] [nilP,nilA] []:=⟨fun st=>by kernel_rfl,fun st=>by kernel_rfl,by kernel_rfl,of_decide_eq_true (by kernel_rfl)⟩
theorem gr1:Pc 45 135 [.code (q45 [])] [(0,.slice (some ⟨(.dyn 50),(v 53)⟩) (v 51) (v 52))] [((.cmp .eql (.tn (v 51)) (.lit 0)),true)] [] [] 18 [] [4,5] [.code .ret,.code (q45 [1,1])] [nilP,nilA] []:=⟨fun st=>by kernel_rfl,fun st=>by kernel_rfl,by kernel_rfl,of_decide_eq_true (by kernel_rfl)⟩
theorem grS1:Pc 45 135 [.code (q45 [])] [(0,.slice (some ⟨(.dyn 50),(v 53)⟩) (v 51) (v 52)),(1,.opq 1)] [((.cmp .eql (.tn (v 51)) (.lit 0)),false),((.cmp .lss (.lit 0) (.tn (v 51))),true)] [(⟨(.dyn 50),(v 53)⟩,i8 (.lit 1)),(⟨(.dyn 50),(.plus (.tn (v 53)) (.lit 1))⟩,i64 (v 2)),(⟨(.dyn 50),(.plus (.tn (v 53)) (.lit 2))⟩,i64 (v 3)),(⟨(.dyn 50),(.plus (.tn (v 53)) (.lit 3))⟩,i64 (v 4))] [] 46 [100] [0,1,6,7,8,9] [.code (q45 [1,1,1,1,1])] [.slice (some ⟨(.dyn 50),(v 53)⟩) (v 51) (v 52),.opq 1,ptr0 100,i64 (.lit 0),i64 (.lit 0),FB] [(100,.cells [i8 (.lit 1),i64 (v 2),i64 (v 3),i64 (v 4)] 75)]:=⟨fun st=>by kernel_rfl,fun st=>by kernel_rfl,by kernel_rfl,of_decide_eq_true (by kernel_rfl)⟩
theorem grS2:Pc 45 135 [.code (q45 [])] [(0,.slice (some ⟨(.dyn 50),(v 53)⟩) (v 51) (v 52)),(1,.opq 1)] [((.cmp .eql (.tn (v 51)) (.lit 0)),false),((.cmp .lss (.lit 0) (.tn (v 51))),true)] [(⟨(.dyn 50),(v 53)⟩,i8 (.lit 2)),(⟨(.dyn 50),(.plus (.tn (v 53)) (.lit 1))⟩,i64 (v 2)),(⟨(.dyn 50),(.plus (.tn (v 53)) (.lit 2))⟩,i64 (v 3)),(⟨(.dyn 50),(.plus (.tn (v 53)) (.lit 3))⟩,i64 (v 4))] [] 49 [100] [0,1,6,7,8,9] [.code (q45 [1,1,1,1,1])] [.slice (some ⟨(.dyn 50),(v 53)⟩) (v 51) (v 52),.opq 1,ptr0 100,i64 (.lit 0),i64 (.lit 0),FB] [(100,.cells [i8 (.lit 2),i64 (v 2),i64 (v 3),i64 (v 4)] 75)]:=⟨fun st=>by kernel_rfl,fun st=>by kernel_rfl,by kernel_rfl,of_decide_eq_true (by kernel_rfl)⟩
theorem grS3:Pc 45 135 [.code (q45 [])] [(0,.slice (some ⟨(.dyn 50),(v 53)⟩) (v 51) (v 52)),(1,.opq 1)] [((.cmp .eql (.tn (v 51)) (.lit 0)),false),((.cmp .lss (.lit 0) (.tn (v 51))),true)] [(⟨(.dyn 50),(v 53)⟩,i8 (.lit 3)),(⟨(.dyn 50),(.plus (.tn (v 53)) (.lit 1))⟩,i64 (v 2)),(⟨(.dyn 50),(.plus (.tn (v 53)) (.lit 2))⟩,i64 (v 3)),(⟨(.dyn 50),(.plus (.tn (v 53)) (.lit 3))⟩,i64 (v 4))] [] 61 [100] [0,1,6,7,8,9] [.code (q45 [1,1,1,1,1])] [.slice (some ⟨(.dyn 50),(v 53)⟩) (v 51) (v 52),.opq 1,ptr0 100,i64 (.lit 1),i64 (.lit 1),FB] [(100,.cells [i8 (.lit 3),i64 (v 2),i64 (v 3),i64 (v 4)] 75)]:=⟨fun st=>by kernel_rfl,fun st=>by kernel_rfl,by kernel_rfl,of_decide_eq_true (by kernel_rfl)⟩
theorem grS13:Pc 45 135 [.code (q45 [])] [(0,.slice (some ⟨(.dyn 50),(v 53)⟩) (v 51) (v 52)),(1,.opq 1)] [((.cmp .eql (.tn (v 51)) (.lit 0)),false),((.cmp .lss (.lit 0) (.tn (v 51))),true)] [(⟨(.dyn 50),(v 53)⟩,i8 (.lit 13)),(⟨(.dyn 50),(.plus (.tn (v 53)) (.lit 1))⟩,i64 (v 2)),(⟨(.dyn 50),(.plus (.tn (v 53)) (.lit 2))⟩,i64 (v 3)),(⟨(.dyn 50),(.plus (.tn (v 53)) (.lit 3))⟩,i64 (v 4))] [] 67 [100] [0,1,6,7,8,9] [.code (q45 [1,1,1,1,1])] [.slice (some ⟨(.dyn 50),(v 53)⟩) (v 51) (v 52),.opq 1,ptr0 100,i64 (.lit 1),i64 (.lit 1),FB] [(100,.cells [i8 (.lit 13),i64 (v 2),i64 (v 3),i64 (v 4)] 75)]:=⟨fun st=>by kernel_rfl,fun st=>by kernel_rfl,by kernel_rfl,of_decide_eq_true (by kernel_rfl)⟩
theorem grS14:Pc 45 135 [.code (q45 [])] [(0,.slice (some ⟨(.dyn 50),(v 53)⟩) (v 51) (v 52)),(1,.opq 1)] [((.cmp .eql (.tn (v 51)) (.lit 0)),false),((.cmp .lss (.lit 0) (.tn (v 51))),true)] [(⟨(.dyn 50),(v 53)⟩,i8 (.lit 14)),(⟨(.dyn 50),(.plus (.tn (v 53)) (.lit 1))⟩,i64 (v 2)),(⟨(.dyn 50),(.plus (.tn (v 53)) (.lit 2))⟩,i64 (v 3)),(⟨(.dyn 50),(.plus (.tn (v 53)) (.lit 3))⟩,i64 (v 4))] [] 73 [100] [0,1,6,7,8,9] [.code (q45 [1,1,1,1,1])] [.slice (some ⟨(.dyn 50),(v 53)⟩) (v 51) (v 52),.opq 1,ptr0 100,i64 (.lit 1),i64 (.lit 1),FB] [(100,.cells [i8 (.lit 14),i64 (v 2),i64 (v 3),i64 (v 4)] 75)]:=⟨fun st=>by kernel_rfl,fun st=>by kernel_rfl,by kernel_rfl,of_decide_eq_true (by kernel_rfl)⟩
theorem grS15:Pc 45 135 [.code (q45 [])] [(0,.slice (some ⟨(.dyn 50),(v 53)⟩) (v 51) (v 52)),(1,.opq 1)] [((.cmp .eql (.tn (v 51)) (.lit 0)),false),((.cmp .lss (.lit 0) (.tn (v 51))),true)] [(⟨(.dyn 50),(v 53)⟩,i8 (.lit 15)),(⟨(.dyn 50),(.plus (.tn (v 53)) (.lit 1))⟩,i64 (v 2)),(⟨(.dyn 50),(.plus (.tn (v 53)) (.lit 2))⟩,i64 (v 3)),(⟨(.dyn 50),(.plus (.tn (v 53)) (.lit 3))⟩,i64 (v 4))] [] 79 [100] [0,1,6,7,8,9] [.code (q45 [1,1,1,1,1])] [.slice (some ⟨(.dyn 50),(v 53)⟩) (v 51) (v 52),.opq 1,ptr0 100,i64 (.lit 1),i64 (.lit 1),FB] [(100,.cells [i8 (.lit 15),i64 (v 2),i64 (v 3),i64 (v 4)] 75)]:=⟨fun st=>by kernel_rfl,fun st=>by kernel_rfl,by kernel_rfl,of_decide_eq_true (by kernel_rfl)⟩
theorem grS16:Pc 45 135 [.code (q45 [])] [(0,.slice (some ⟨(.dyn 50),(v 53)⟩) (v 51) (v 52)),(1,.opq 1)] [((.cmp .eql (.tn (v 51)) (.lit 0)),false),((.cmp .lss (.lit 0) (.tn (v 51))),true)] [(⟨(.dyn 50),(v 53)⟩,i8 (.lit 16)),(⟨(.dyn 50),(.plus (.tn (v 53)) (.lit 1))⟩,i64 (v 2)),(⟨(.dyn 50),(.plus (.tn (v 53)) (.lit 2))⟩,i64 (v 3)),(⟨(.dyn 50),(.plus (.tn (v 53)) (.lit 3))⟩,i64 (v 4))] [] 82 [100] [0,1,6,7,8,9] [.code (q45 [1,1,1,1,1])] [.slice (some ⟨(.dyn 50),(v 53)⟩) (v 51) (v 52),.opq 1,ptr0 100,i64 (.lit 1),i64 (.lit 1),FB] [(100,.cells [i8 (.lit 16),i64 (v 2),i64 (v 3),i64 (v 4)] 75)]:=⟨fun st=>by kernel_rfl,fun st=>by kernel_rfl,by kernel_rfl,of_decide_eq_true (by kernel_rfl)⟩
theorem grS18:Pc 45 135 [.code (q45 [])] [(0,.slice (some ⟨(.dyn 50),(v 53)⟩) (v 51) (v 52)),(1,.opq 1)] [((.cmp .eql (.tn (v 51)) (.lit 0)),false),((.cmp .lss (.lit 0) (.tn (v 51))),true)] [(⟨(.dyn 50),(v 53)⟩,i8 (.lit 18)),(⟨(.dyn 50),(.plus (.tn (v 53)) (.lit 1))⟩,i64 (v 2)),(⟨(.dyn 50),(.plus (.tn (v 53)) (.lit 2))⟩,i64 (v 3)),(⟨(.dyn 50),(.plus (.tn (v 53)) (.lit 3))⟩,i64 (v 4))] [] 89 [100] [0,1,6,7,8,9] [.code (q45 [1,1,1,1,1])] [.slice (some ⟨(.dyn 50),(v 53)⟩) (v 51) (v 52),.opq 1,ptr0 100,i64 (.lit 1),i64 (.lit 1),TB] [(100,.cells [i8 (.lit 18),i64 (v 2),i64 (v 3),i64 (v 4)] 75)]:=⟨fun st=>by kernel_rfl,fun st=>by kernel_rfl,by kernel_rfl,of_decide_eq_true (by kernel_rfl)⟩
theorem grS4:Pc 45 135 [.code (q45 [])] [(0,.slice (some ⟨(.dyn 50),(v 53)⟩) (v 51) (v 52)),(1,.opq 1)] [((.cmp .eql (.tn (v 51)) (.lit 0)),false),((.cmp .lss (.lit 0) (.tn (v 51))),true)] [(⟨(.dyn 50),(v 53)⟩,i8 (.lit 4)),(⟨(.dyn 50),(.plus (.tn (v 53)) (.lit 1))⟩,i64 (v 2)),(⟨(.dyn 50),(.plus (.tn (v 53)) (.lit 2))⟩,i64 (v 3)),(⟨(.dyn 50),(.plus (.tn (v 53)) (.lit 3))⟩,i64 (v 4))] [] 97 [100] [0,1,6,7,8,9] [.code (q45 [1,1,1,1,1])] [.slice (some ⟨(.dyn 50),(v 53)⟩) (v 51) (v 52),.opq 1,ptr0 100,i64 (.lit 2),i64 (.lit 2),FB] [(100,.cells [i8 (.lit 4),i64 (v 2),i64 (v 3),i64 (v 4)] 75)]:=⟨fun st=>by kernel_rfl,fun st=>by kernel_rfl,by kernel_rfl,of_decide_eq_true (by kernel_rfl)⟩
theorem grS5:Pc 45 135 [.code (q45 [])] [(0,.slice (some ⟨(.dyn 50),(v 53)⟩) (v 51) (v 52)),(1,.opq 1)] [((.cmp .eql (.tn (v 51)) (.lit 0)),false),((.cmp .lss (.lit 0) (.tn (v 51))),true)] [(⟨(.dyn 50),(v 53)⟩,i8 (.lit 5)),(⟨(.dyn 50),(.plus (.tn (v 53)) (.lit 1))⟩,i64 (v 2)),(⟨(.dyn 50),(.plus (.tn (v 53)) (.lit 2))⟩,i64 (v 3)),(⟨(.dyn 50),(.plus (.tn (v 53)) (.lit 3))⟩,i64 (v 4))] [] 103 [100] [0,1,6,7,8,9] [.code (q45 [1,1,1,1,1])] [.slice (some ⟨(.dyn 50),(v 53)⟩) (v 51) (v 52),.opq 1,ptr0 100,i64 (.lit 2),i64 (.lit 2),FB] [(100,.cells [i8 (.lit 5),i64 (v 2),i64 (v 3),i64 (v 4)] 75)]:=⟨fun st=>by kernel_rfl,fun st=>by kernel_rfl,by kernel_rfl,of_decide_eq_true (by kernel_rfl)⟩
theorem grS6:Pc 45 135 [.code (q45 [])] [(0,.slice (some ⟨(.dyn 50),(v 53)⟩) (v 51) (v 52)),(1,.opq 1)] [((.cmp .eql (.tn (v 51)) (.lit 0)),false),((.cmp .lss (.lit 0) (.tn (v 51))),true)] [(⟨(.dyn 50),(v 53)⟩,i8 (.lit 6)),(⟨(.dyn 50),(.plus (.tn (v 53)) (.lit 1))⟩,i64 (v 2)),(⟨(.dyn 50),(.plus (.tn (v 53)) (.lit 2))⟩,i64 (v 3)),(⟨(.dyn 50),(.plus (.tn (v 53)) (.lit 3))⟩,i64 (v 4))] [] 106 [100] [0,1,6,7,8,9] [.code (q45 [1,1,1,1,1])] [.slice (some ⟨(.dyn 50),(v 53)⟩) (v 51) (v 52),.opq 1,ptr0 100,i64 (.lit 2),i64 (.lit 2),FB] [(100,.cells [i8 (.lit 6),i64 (v 2),i64 (v 3),i64 (v 4)] 75)]:=⟨fun st=>by kernel_rfl,fun st=>by kernel_rfl,by kernel_rfl,of_decide_eq_true (by kernel_rfl)⟩
theorem grS12:Pc 45 135 [.code (q45 [])] [(0,.slice (some ⟨(.dyn 50),(v 53)⟩) (v 51) (v 52)),(1,.opq 1)] [((.cmp .eql (.tn (v 51)) (.lit 0)),false),((.cmp .lss (.lit 0) (.tn (v 51))),true)] [(⟨(.dyn 50),(v 53)⟩,i8 (.lit 12)),(⟨(.dyn 50),(.plus (.tn (v 53)) (.lit 1))⟩,i64 (v 2)),(⟨(.dyn 50),(.plus (.tn (v 53)) (.lit 2))⟩,i64 (v 3)),(⟨(.dyn 50),(.plus (.tn (v 53)) (.lit 3))⟩,i64 (v 4))] [] 112 [100] [0,1,6,7,8,9] [.code (q45 [1,1,1,1,1])] [.slice (some ⟨(.dyn 50),(v 53)⟩) (v 51) (v 52),.opq 1,ptr0 100,i64 (.lit 3),i64 (.lit 3),FB] [(100,.cells [i8 (.lit 12),i64 (v 2),i64 (v 3),i64 (v 4)] 75)]:=⟨fun st=>by kernel_rfl,fun st=>by kernel_rfl,by kernel_rfl,of_decide_eq_true (by kernel_rfl)⟩
theorem grS10:Pc 45 135 [.code (q45 [])] [(0,.slice (some ⟨(.dyn 50),(v 53)⟩) (v 51) (v 52)),(1,.opq 1)] [((.cmp .eql (.tn (v 51)) (.lit 0)),false),((.cmp .lss (.lit 0) (.tn (v 51))),true)] [(⟨(.dyn 50),(v 53)⟩,i8 (.lit 10)),(⟨(.dyn 50),(.plus (.tn (v 53)) (.lit 1))⟩,i64 (v 2)),(⟨(.dyn 50),(.plus (.tn (v 53)) (.lit 2))⟩,i64 (v 3)),(⟨(.dyn 50),(.plus (.tn (v 53)) (.lit 3))⟩,i64 (v 4))] [] 124 [100] [0,1,6,7,8,9] [.code (q45 [1,1,1,1,1])] [.slice (some ⟨(.dyn 50),(v 53)⟩) (v 51) (v 52),.opq 1,ptr0 100,i64 (.lit 1),i64 (.tn (v 51)),TB] [(100,.cells [i8 (.lit 10),i64 (v 2),i64 (v 3),i64 (v 4)] 75)]:=⟨fun st=>by kernel_rfl,fun st=>by kernel_rfl,by kernel_rfl,of_decide_eq_true (by kernel_rfl)⟩
theorem grS11:Pc 45 135 [.code (q45 [])] [(0,.slice (some ⟨(.dyn 50),(v 53)⟩) (v 51) (v 52)),(1,.opq 1)] [((.cmp .eql (.tn (v 51)) (.lit 0)),false),((.cmp .lss (.lit 0) (.tn (v 51))),true)] [(⟨(.dyn 50),(v 53)⟩,i8 (.lit 11)),(⟨(.dyn 50),(.plus (.tn (v 53)) (.lit 1))⟩,i64 (v 2)),(⟨(.dyn 50),(.plus (.tn (v 53)) (.lit 2))⟩,i64 (v 3)),(⟨(.dyn 50),(.plus (.tn (v 53)) (.lit 3))⟩,i64 (v 4))] [] 130 [100] [0,1,6,7,8,9] [.code (q45 [1,1,1,1,1])] [.slice (some ⟨(.dyn 50),(v 53)⟩) (v 51) (v 52),.opq 1,ptr0 100,i64 (.lit 1),i64 (.tn (v 51)),TB] [(100,.cells [i8 (.lit 11),i64 (v 2),i64 (v 3),i64 (v 4)] 75)]:=⟨fun st=>by kernel_rfl,fun st=>by kernel_rfl,by kernel_rfl,of_decide_eq_true (by kernel_rfl)⟩
theorem grS17:Pc 45 135 [.code (q45 [])] [(0,.slice (some ⟨(.dyn 50),(v 53)⟩) (v 51) (v 52)),(1,.opq 1)] [((.cmp .eql (.tn (v 51)) (.lit 0)),false),((.cmp .lss (.lit 0) (.tn (v 51))),true)] [(⟨(.dyn 50),(v 53)⟩,i8 (.lit 17)),(⟨(.dyn 50),(.plus (.tn (v 53)) (.lit 1))⟩,i64 (v 2)),(⟨(.dyn 50),(.plus (.tn (v 53)) (.lit 2))⟩,i64 (v 3)),(⟨(.dyn 50),(.plus (.tn (v 53)) (.lit 3))⟩,i64 (v 4))] [] 133 [100] [0,1,6,7,8,9] [.code (q45 [1,1,1,1,1])] [.slice (some ⟨(.dyn 50),(v 53)⟩) (v 51) (v 52),.opq 1,ptr0 100,i64 (.lit 1),i64 (.tn (v 51)),TB] [(100,.cells [i8 (.lit 17),i64 (v 2),i64 (v 3),i64 (v 4)] 75)]:=⟨fun st=>by kernel_rfl,fun st=>by kernel_rfl,by kernel_rfl,of_decide_eq_true (by kernel_rfl)⟩
theorem grSx:Pc 45 135 [.code (q45 [])] [(0,.slice (some ⟨(.dyn 50),(v 53)⟩) (v 51) (v 52)),(1,.opq 1)] [((.cmp .eql (.tn (v 51)) (.lit 0)),false),((.cmp .lss (.lit 0) (.tn (v 51))),true),((.cmp .eql (v 1) (.lit 1)),false),((.cmp .eql (v 1) (.lit 2)),false),((.cmp .eql (v 1) (.lit 3)),false),((.cmp .eql (v 1) (.lit 13)),false),((.cmp .eql (v 1) (.lit 14)),false),((.cmp .eql (v 1) (.lit 15)),false),((.cmp .eql (v 1) (.lit 16)),false),((.cmp .eql (v 1) (.lit 18)),false),((.cmp .eql (v 1) (.lit 4)),false),((.cmp .eql (v 1) (.lit 5)),false),((.cmp .eql (v 1) (.lit 6)),false),((.cmp .eql (v 1) (.lit 12)),false),((.cmp .eql (v 1) (.lit 10)),false),((.cmp .eql (v 1) (.lit 11)),false),((.cmp .eql (v 1) (.lit 17)),false)] [(⟨(.dyn 50),(v 53)⟩,i8 (v 1)),(⟨(.dyn 50),(.plus (.tn (v 53)) (.lit 1))⟩,i64 (v 2)),(⟨(.dyn 50),(.plus (.tn (v 53)) (.lit 2))⟩,i64 (v 3)),(⟨(.dyn 50),(.plus (.tn (v 53)) (.lit 3))⟩,i64 (v 4))] [] 130 [100] [4,5] [.code .ret,.inBlock 0,.code (q45 [1,1,1,1,1])] [nilP,nilA] [(100,.cells [i8 (v 1),i64 (v 2),i64 (v 3),i64 (v 4)] 75)]:=⟨fun st=>by kernel_rfl,fun st=>by kernel_rfl,by kernel_rfl,of_decide_eq_true (by kernel_rfl)⟩
theorem grB(a b c d:Bool):Pc 45 135 [.code (q45 [1,1,1,1,1])] [(0,.slice (some ⟨(.dyn 50),(v 53)⟩) (v 51) (v 52)),(1,.opq 1),(6,ptr0 64),(7,i64 (v 5)),(8,i64 (v 6)),(9,.opq 9)] [((.cmp .eql (v 2) (.lit 0)),a),((.cmp .eql (v 1) (.lit 2)),b),((.cmp .eql (v 1) (.lit 1)),c),((.cmp .gtr (v 2) (.lit 0)),d)] [(⟨(.dyn 64),(.lit 0)⟩,i8 (v 1)),(⟨(.dyn 64),(.lit 1)⟩,i64 (v 2)),(⟨(.dyn 64),(.lit 2)⟩,i64 (v 3)),(⟨(.dyn 64),(.lit 3)⟩,i64 (v 4))] [] 22 [] [0,1,6,7,8,9,10] [.code (q45 [1,1,1,1,1,1])] [.slice (some ⟨(.dyn 50),(v 53)⟩) (v 51) (v 52),.opq 1,ptr0 64,i64 (v 5),i64 (v 6),.opq 9,.bool (.lit (a||b||c&&d))] []:=⟨fun st=>by cases a<;>cases b<;>cases c<;>cases d<;>kernel_rfl,fun st=>by kernel_rfl,by cases a<;>cases b<;>cases c<;>cases d<;>kernel_rfl,of_decide_eq_true (by kernel_rfl)⟩
theorem grG(h z e f g i j:Bool):Pc 45 135 [.code (q45 [1,1,1,1,1,1])] [(0,.slice (some ⟨(.dyn 50),(v 53)⟩) (v 51) (v 52)),(1,.bool (.lit h)),(6,ptr0 64),(7,i64 (v 5)),(8,i64 (v 6)),(9,.opq 9),(10,.bool (.lit z))] [((.cmp .lss (v 3) (v 5)),e),((.cmp .gtr (v 3) (v 6)),f),((.cmp .lss (v 4) (.lit 0)),g),((.cmp .eql (v 1) (.lit 17)),i),((.cmp .eql (v 1) (.lit 18)),j)] [(⟨(.dyn 64),(.lit 0)⟩,i8 (v 1)),(⟨(.dyn 64),(.lit 1)⟩,i64 (v 2)),(⟨(.dyn 64),(.lit 2)⟩,i64 (v 3)),(⟨(.dyn 64),(.lit 3)⟩,i64 (v 4))] [] 37 [] [0,1,6,9,94] [.code (q45 [1,1,1,1,1,1,0,1]),.code (q45 [1,1,1,1,1,1,1])] [.slice (some ⟨(.dyn 50),(v 53)⟩) (v 51) (v 52),.bool (.lit h),ptr0 64,.opq 9,.bool (.lit (e||f||g||!z||!h&&(i||j)))] []:=⟨fun st=>by cases h<;>cases z<;>cases e<;>cases f<;>cases g<;>cases i<;>cases j<;>kernel_rfl,fun st=>by cases h<;>cases z<;>kernel_rfl,by cases e<;>cases f<;>cases g<;>cases i<;>cases j<;>kernel_rfl,of_decide_eq_true (by kernel_rfl)⟩
theorem grX:Pc 45 135 [.code (q45 [1,1,1,1,1,1,0,1]),.code (q45 [1,1,1,1,1,1,1])] [(94,TB)] [] [] [] 6 [] [4,5] [.code .ret,.code (q45 [1,1,1,1,1,1,1])] [nilP,nilA] []:=⟨fun st=>by kernel_rfl,fun st=>by kernel_rfl,by kernel_rfl,of_decide_eq_true (by kernel_rfl)⟩
theorem grY:Pc 45 135 [.code (q45 [1,1,1,1,1,1,0,1]),.code (q45 [1,1,1,1,1,1,1])] [(0,.slice (some ⟨(.dyn 50),(v 53)⟩) (v 51) (v 52)),(6,ptr0 64),(9,.opq 9),(94,FB)] [] [(⟨(.dyn 64),(.lit 0)⟩,i8 (v 1)),(⟨(.dyn 64),(.lit 1)⟩,i64 (v 2)),(⟨(.dyn 64),(.lit 2)⟩,i64 (v 3)),(⟨(.dyn 64),(.lit 3)⟩,i64 (v 4))] [] 12 [100] [0,6,9,11,98] [.inRegion (opsOf (q45 [1,1,1,1,1,1,1,1,0])) [1,2],.code (q45 [1,1,1,1,1,1,1,1,1])] [.slice (some ⟨(.dyn 50),(v 53)⟩) (v 51) (v 52),ptr0 64,.opq 9,ptr0 100,.slice (some ⟨(.dyn 50),(v 53)⟩) (v 51) (v 52)] [(100,.cells [i8 (v 1),i64 (v 2),i64 (v 3),i64 (v 4),.str ⟨#[]⟩,nilA] 107)]:=⟨fun st=>by kernel_rfl,fun st=>by kernel_rfl,by kernel_rfl,of_decide_eq_true (by kernel_rfl)⟩
theorem grZ:OpW 135 (opsOf (q45 [1,1,1,1,1,1,1,1,0])) 1 [] (.slice 49 (.tmp 98) (some (.const (.int .i64 1))) none none) 49 (some 99):=⟨fun st=>by kernel_rfl,fun st=>by kernel_rfl,by kernel_rfl⟩
theorem grH:Pc 45 135 [.inRegion (opsOf (q45 [1,1,1,1,1,1,1,1,0])) [2],.code (q45 [1,1,1,1,1,1,1,1,1])] [(6,ptr0 64),(9,.opq 9),(11,ptr0 63),(99,.opq 8)] [] [(⟨(.dyn 64),(.lit 2)⟩,i64 (v 3))] [] 11 [] [0,9,11,101,102] [.code (q45 [1,1,1,1,1,1,1,1,1,0,1,0,0]),.inLoop (q45 [1,1,1,1,1,1,1,1,1,0,1,0,0]),.inBlock 1,.code (q45 [1,1,1,1,1,1,1,1,1,1])] [.opq 8,.opq 9,ptr0 63,i64 (v 3),i64 (.lit 0)] []:=⟨fun st=>by kernel_rfl,fun st=>by kernel_rfl,by kernel_rfl,of_decide_eq_true (by kernel_rfl)⟩
theorem grL:Pc 45 135 [.code (q45 [1,1,1,1,1,1,1,1,1,0,1,0,0]),.inLoop (q45 [1,1,1,1,1,1,1,1,1,0,1,0,0]),.inBlock 1,.code (q45 [1,1,1,1,1,1,1,1,1,1])] [(0,.opq 8),(9,.opq 9),(11,ptr0 63),(101,i64 (v 3)),(102,i64 (v 7))] [((.cmp .lss (v 7) (v 3)),true)] [] [] 17 [] [0,9,11,101,102,105] [.inRegion (opsOf (q45 [1,1,1,1,1,1,1,1,1,0,1,0,0,1,1,0,0,1,0,0])) [1,2,3,4,5,6],.code (q45 [1,1,1,1,1,1,1,1,1,0,1,0,0,1,1,0,0,1,0,1]),.code (q45 [1,1,1,1,1,1,1,1,1,0,1,0,0,1,1,0,0,1,1]),.inBlock 2,.code (q45 [1,1,1,1,1,1,1,1,1,0,1,0,0,1,1,1]),.inLoop (q45 [1,1,1,1,1,1,1,1,1,0,1,0,0]),.inBlock 1,.code (q45 [1,1,1,1,1,1,1,1,1,1])] [.opq 8,.opq 9,ptr0 63,i64 (v 3),i64 (v 7),.opq 8] []:=⟨fun st=>by kernel_rfl,fun st=>by kernel_rfl,by kernel_rfl,of_decide_eq_true (by kernel_rfl)⟩
theorem grM:OpC 135 (opsOf (q45 [1,1,1,1,1,1,1,1,1,0,1,0,0,1,1,0,0,1,0,0])) 1 [(105,.opq 105)] 45 [.opq 105,FB] 106:=⟨fun st=>by kernel_rfl,fun st=>by kernel_rfl,fun st=>by kernel_rfl,by kernel_rfl,by decide,rfl⟩
theorem grNtrue:Pc 45 135 [.inRegion (opsOf (q45 [1,1,1,1,1,1,1,1,1,0,1,0,0,1,1,0,0,1,0,0])) [2,3,4,5,6],.code (q45 [1,1,1,1,1,1,1,1,1,0,1,0,0,1,1,0,0,1,0,1]),.code (q45 [1,1,1,1,1,1,1,1,1,0,1,0,0,1,1,0,0,1,1]),.inBlock 2,.code (q45 [1,1,1,1,1,1,1,1,1,0,1,0,0,1,1,1]),.inLoop (q45 [1,1,1,1,1,1,1,1,1,0,1,0,0]),.inBlock 1,.code (q45 [1,1,1,1,1,1,1,1,1,1])] [(9,TB),(11,ptr0 63),(101,i64 (v 3)),(102,i64 (v 7)),(106,.tuple [nilP,.opq 8])] [] [] [] 28 [] [4,5] [.code .ret,.code (q45 [1,1,1,1,1,1,1,1,1,0,1,0,0,1,1,0,0,1,1]),.inBlock 2,.code (q45 [1,1,1,1,1,1,1,1,1,0,1,0,0,1,1,1]),.inLoop (q45 [1,1,1,1,1,1,1,1,1,0,1,0,0]),.inBlock 1,.code (q45 [1,1,1,1,1,1,1,1,1,1])] [nilP,nilA] []:=⟨fun st=>by kernel_rfl,fun st=>by kernel_rfl,by kernel_rfl,of_decide_eq_true (by kernel_rfl)⟩
theorem grNfalse:Pc 45 135 [.inRegion (opsOf (q45 [1,1,1,1,1,1,1,1,1,0,1,0,0,1,1,0,0,1,0,0])) [2,3,4,5,6],.code (q45 [1,1,1,1,1,1,1,1,1,0,1,0,0,1,1,0,0,1,0,1]),.code (q45 [1,1,1,1,1,1,1,1,1,0,1,0,0,1,1,0,0,1,1]),.inBlock 2,.code (q45 [1,1,1,1,1,1,1,1,1,0,1,0,0,1,1,1]),.inLoop (q45 [1,1,1,1,1,1,1,1,1,0,1,0,0]),.inBlock 1,.code (q45 [1,1,1,1,1,1,1,1,1,1])] [(9,FB),(11,ptr0 63),(101,i64 (v 3)),(102,i64 (v 7)),(106,.tuple [nilP,.opq 8])] [] [] [] 28 [] [4,5] [.code .ret,.code (q45 [1,1,1,1,1,1,1,1,1,0,1,0,0,1,1,0,0,1,1]),.inBlock 2,.code (q45 [1,1,1,1,1,1,1,1,1,0,1,0,0,1,1,1]),.inLoop (q45 [1,1,1,1,1,1,1,1,1,0,1,0,0]),.inBlock 1,.code (q45 [1,1,1,1,1,1,1,1,1,1])] [nilP,nilA] []:=⟨fun st=>by kernel_rfl,fun st=>by kernel_rfl,by kernel_rfl,of_decide_eq_true (by kernel_rfl)⟩
theorem grO:Pc 45 135 [.inRegion (opsOf (q45 [1,1,1,1,1,1,1,1,1,0,1,0,0,1,1,0,0,1,0,0])) [2,3,4,5,6],.code (q45 [1,1,1,1,1,1,1,1,1,0,1,0,0,1,1,0,0,1,0,1]),.code (q45 [1,1,1,1,1,1,1,1,1,0,1,0,0,1,1,0,0,1,1]),.inBlock 2,.code (q45 [1,1,1,1,1,1,1,1,1,0,1,0,0,1,1,1]),.inLoop (q45 [1,1,1,1,1,1,1,1,1,0,1,0,0]),.inBlock 1,.code (q45 [1,1,1,1,1,1,1,1,1,1])] [(9,TB),(11,ptr0 63),(101,i64 (v 3)),(102,i64 (v 7)),(106,.tuple [ptr0 62,.opq 8])] [((.cmp .neq (v 1) (.lit 2)),true)] [(⟨(.dyn 62),(.lit 0)⟩,i8 (v 1))] [] 28 [] [4,5] [.code .ret,.code (q45 [1,1,1,1,1,1,1,1,1,0,1,0,0,1,1,0,0,1,1]),.inBlock 2,.code (q45 [1,1,1,1,1,1,1,1,1,0,1,0,0,1,1,1]),.inLoop (q45 [1,1,1,1,1,1,1,1,1,0,1,0,0]),.inBlock 1,.code (q45 [1,1,1,1,1,1,1,1,1,1])] [nilP,nilA] []:=⟨fun st=>by kernel_rfl,fun st=>by kernel_rfl,by kernel_rfl,of_decide_eq_true (by kernel_rfl)⟩
theorem grPt:Pc 45 135 [.inRegion (opsOf (q45 [1,1,1,1,1,1,1,1,1,0,1,0,0,1,1,0,0,1,0,0])) [2,3,4,5,6],.code (q45 [1,1,1,1,1,1,1,1,1,0,1,0,0,1,1,0,0,1,0,1]),.code (q45 [1,1,1,1,1,1,1,1,1,0,1,0,0,1,1,0,0,1,1]),.inBlock 2,.code (q45 [1,1,1,1,1,1,1,1,1,0,1,0,0,1,1,1]),.inLoop (q45 [1,1,1,1,1,1,1,1,1,0,1,0,0]),.inBlock 1,.code (q45 [1,1,1,1,1,1,1,1,1,1])] [(9,TB),(11,ptr0 63),(101,i64 (v 3)),(102,i64 (v 7)),(106,.tuple [ptr0 62,.opq 8])] [((.cmp .neq (v 1) (.lit 2)),false)] [(⟨(.dyn 62),(.lit 0)⟩,i8 (v 1))] [(63,.cells [i8 (v 21),i64 (v 22),i64 (v 3),i64 (v 24),.str ⟨#[]⟩,nilA] 107)] 43 [101,63] [0,9,11,101,102] [.code (q45 [1,1,1,1,1,1,1,1,1,0,1,0,0]),.inLoop (q45 [1,1,1,1,1,1,1,1,1,0,1,0,0]),.inBlock 1,.code (q45 [1,1,1,1,1,1,1,1,1,1])] [.opq 8,TB,ptr0 63,i64 (v 3),i64 (.op .add .i64 (v 7) (.lit 1))] [(101,.row [ptr0 62] 91 (v 101)),(63,.cells [i8 (v 21),i64 (v 22),i64 (v 3),i64 (v 24),.str ⟨#[]⟩,.slice (some ⟨(.dyn 101),(.lit 0)⟩) (.lit 1) (v 101)] 107)]:=⟨fun st=>by kernel_rfl,fun st=>by kernel_rfl,by kernel_rfl,of_decide_eq_true (by kernel_rfl)⟩
theorem grPf:Pc 45 135 [.inRegion (opsOf (q45 [1,1,1,1,1,1,1,1,1,0,1,0,0,1,1,0,0,1,0,0])) [2,3,4,5,6],.code (q45 [1,1,1,1,1,1,1,1,1,0,1,0,0,1,1,0,0,1,0,1]),.code (q45 [1,1,1,1,1,1,1,1,1,0,1,0,0,1,1,0,0,1,1]),.inBlock 2,.code (q45 [1,1,1,1,1,1,1,1,1,0,1,0,0,1,1,1]),.inLoop (q45 [1,1,1,1,1,1,1,1,1,0,1,0,0]),.inBlock 1,.code (q45 [1,1,1,1,1,1,1,1,1,1])] [(9,FB),(11,ptr0 63),(101,i64 (v 3)),(102,i64 (v 7)),(106,.tuple [ptr0 62,.opq 8])] [] [] [(63,.cells [i8 (v 21),i64 (v 22),i64 (v 3),i64 (v 24),.str ⟨#[]⟩,nilA] 107)] 43 [101,63] [0,9,11,101,102] [.code (q45 [1,1,1,1,1,1,1,1,1,0,1,0,0]),.inLoop (q45 [1,1,1,1,1,1,1,1,1,0,1,0,0]),.inBlock 1,.code (q45 [1,1,1,1,1,1,1,1,1,1])] [.opq 8,FB,ptr0 63,i64 (v 3),i64 (.op .add .i64 (v 7) (.lit 1))] [(101,.row [ptr0 62] 91 (v 101)),(63,.cells [i8 (v 21),i64 (v 22),i64 (v 3),i64 (v 24),.str ⟨#[]⟩,.slice (some ⟨(.dyn 101),(.lit 0)⟩) (.lit 1) (v 101)] 107)]:=⟨fun st=>by kernel_rfl,fun st=>by kernel_rfl,by kernel_rfl,of_decide_eq_true (by kernel_rfl)⟩
theorem grQt:Pc 45 135 [.inRegion (opsOf (q45 [1,1,1,1,1,1,1,1,1,0,1,0,0,1,1,0,0,1,0,0])) [2,3,4,5,6],.code (q45 [1,1,1,1,1,1,1,1,1,0,1,0,0,1,1,0,0,1,0,1]),.code (q45 [1,1,1,1,1,1,1,1,1,0,1,0,0,1,1,0,0,1,1]),.inBlock 2,.code (q45 [1,1,1,1,1,1,1,1,1,0,1,0,0,1,1,1]),.inLoop (q45 [1,1,1,1,1,1,1,1,1,0,1,0,0]),.inBlock 1,.code (q45 [1,1,1,1,1,1,1,1,1,1])] [(9,TB),(11,ptr0 63),(101,i64 (v 3)),(102,i64 (v 7)),(106,.tuple [ptr0 62,.opq 8])] [((.cmp .leq (.plus (.tn (v 8)) (.lit 1)) (.lit 1048576)),true),((.cmp .neq (v 1) (.lit 2)),false)] [(⟨(.dyn 62),(.lit 0)⟩,i8 (v 1))] [(52,.pre false 65 (v 8) [] [] [] 91 (v 57)),(63,.cells [i8 (v 21),i64 (v 22),i64 (v 3),i64 (v 24),.str ⟨#[]⟩,.slice (some ⟨(.dyn 52),(.lit 0)⟩) (v 8) (v 57)] 107)] 43 [101,63] [0,9,11,101,102] [.code (q45 [1,1,1,1,1,1,1,1,1,0,1,0,0]),.inLoop (q45 [1,1,1,1,1,1,1,1,1,0,1,0,0]),.inBlock 1,.code (q45 [1,1,1,1,1,1,1,1,1,1])] [.opq 8,TB,ptr0 63,i64 (v 3),i64 (.op .add .i64 (v 7) (.lit 1))] [(101,.pre false 65 (v 8) [] [] [ptr0 62] 91 (v 101)),(63,.cells [i8 (v 21),i64 (v 22),i64 (v 3),i64 (v 24),.str ⟨#[]⟩,.slice (some ⟨(.dyn 101),(.lit 0)⟩) (.plus (.tn (v 8)) (.lit 1)) (v 101)] 107)]:=⟨fun st=>by kernel_rfl,fun st=>by kernel_rfl,by kernel_rfl,of_decide_eq_true (by kernel_rfl)⟩
theorem grQf:Pc 45 135 [.inRegion (opsOf (q45 [1,1,1,1,1,1,1,1,1,0,1,0,0,1,1,0,0,1,0,0])) [2,3,4,5,6],.code (q45 [1,1,1,1,1,1,1,1,1,0,1,0,0,1,1,0,0,1,0,1]),.code (q45 [1,1,1,1,1,1,1,1,1,0,1,0,0,1,1,0,0,1,1]),.inBlock 2,.code (q45 [1,1,1,1,1,1,1,1,1,0,1,0,0,1,1,1]),.inLoop (q45 [1,1,1,1,1,1,1,1,1,0,1,0,0]),.inBlock 1,.code (q45 [1,1,1,1,1,1,1,1,1,1])] [(9,FB),(11,ptr0 63),(101,i64 (v 3)),(102,i64 (v 7)),(106,.tuple [ptr0 62,.opq 8])] [((.cmp .leq (.plus (.tn (v 8)) (.lit 1)) (.lit 1048576)),true)] [] [(52,.pre false 65 (v 8) [] [] [] 91 (v 57)),(63,.cells [i8 (v 21),i64 (v 22),i64 (v 3),i64 (v 24),.str ⟨#[]⟩,.slice (some ⟨(.dyn 52),(.lit 0)⟩) (v 8) (v 57)] 107)] 43 [101,63] [0,9,11,101,102] [.code (q45 [1,1,1,1,1,1,1,1,1,0,1,0,0]),.inLoop (q45 [1,1,1,1,1,1,1,1,1,0,1,0,0]),.inBlock 1,.code (q45 [1,1,1,1,1,1,1,1,1,1])] [.opq 8,FB,ptr0 63,i64 (v 3),i64 (.op .add .i64 (v 7) (.lit 1))] [(101,.pre false 65 (v 8) [] [] [ptr0 62] 91 (v 101)),(63,.cells [i8 (v 21),i64 (v 22),i64 (v 3),i64 (v 24),.str ⟨#[]⟩,.slice (some ⟨(.dyn 101),(.lit 0)⟩) (.plus (.tn (v 8)) (.lit 1)) (v 101)] 107)]:=⟨fun st=>by kernel_rfl,fun st=>by kernel_rfl,by kernel_rfl,of_decide_eq_true (by kernel_rfl)⟩
theorem grE:Pc 45 135 [.code (q45 [1,1,1,1,1,1,1,1,1,0,1,0,0]),.inLoop (q45 [1,1,1,1,1,1,1,1,1,0,1,0,0]),.inBlock 1,.code (q45 [1,1,1,1,1,1,1,1,1,1])] [(0,.opq 8),(9,.opq 9),(11,ptr0 63),(101,i64 (v 3)),(102,i64 (v 7))] [((.cmp .lss (v 7) (v 3)),false)] [] [] 14 [] [4,5] [.code .ret] [ptr0 63,.opq 8] []:=⟨fun st=>by kernel_rfl,fun st=>by kernel_rfl,by kernel_rfl,of_decide_eq_true (by kernel_rfl)⟩
structure NdAt(w:World)(A o:Nat)(n:Nd):Prop where
 c0:w.cell? ⟨A,o,none⟩=some (i8V n.op)
 c1:w.cell? ⟨A,o+1,none⟩=some (iV n.n)
 c2:w.cell? ⟨A,o+2,none⟩=some (iV n.kids)
 c3:w.cell? ⟨A,o+3,none⟩=some (iV n.at')
structure NodesAt(w:World)(s:Value)(l:List Nd):Prop where
 ex:(s=nilV∧l=[])∨∃A o c,s=slV A o l.length c∧l.length≤c∧∀i n,l[i]?=some n->NdAt w A (o+i*4) n
theorem NdAt.keep{w w':World}{A o:Nat}{n:Nd}(h:NdAt w A o n)(f:Fresh w w'):NdAt w' A o n:=⟨f.cell h.c0,f.cell h.c1,f.cell h.c2,f.cell h.c3⟩
theorem NodesAt.keep{w w':World}{s:Value}{l:List Nd}(h:NodesAt w s l)(f:Fresh w w'):NodesAt w' s l:=by
 rcases h.ex with h|⟨A,o,c,h1,h2,h3⟩
 ·exact⟨.inl h⟩
 ·exact⟨.inr ⟨A,o,c,h1,h2,fun i n hi=>(h3 i n hi).keep f⟩⟩
def lowHigh(op:Int)(len:Nat):Option (Int×Int×Bool):=
 if op=1∨op=2 then some (0,0,false)
 else if op=3∨op=13∨op=14∨op=15∨op=16 then some (1,1,false)
 else if op=18 then some (1,1,true)
 else if op=4∨op=5∨op=6 then some (2,2,false)
 else if op=12 then some (3,3,false)
 else if op=10∨op=11∨op=17 then some (1,len,true)
 else none
def badNd(n:Nd)(root:Bool)(lo hi:Int):Bool:=
 decide (n.kids<lo)||decide (n.kids>hi)||decide (n.at'<0)||!(decide (n.n=0)||decide (n.op=2)||decide (n.op=1)&&decide (n.n>0))||!root&&(decide (n.op=17)||decide (n.op=18))
def kidsWith(g:List Nd->Option (T×List Nd))(names:Bool):Nat->List Nd->Option (List T×List Nd)
 |0,l=>some ([],l)
 |k+1,l=>match g l with
  |none=>none
  |some (t,r)=>if names&&decide (t.n.op≠2)then none else match kidsWith g names k r with
   |none=>none
   |some (ts,r')=>some (t::ts,r')
def grownF:Nat->List Nd->Bool->Option (T×List Nd)
 |0,_,_=>none
 |_+1,[],_=>none
 |f+1,n::l,root=>match lowHigh n.op (l.length+1)with
  |none=>none
  |some (lo,hi,names)=>if badNd n root lo hi then none else match kidsWith (fun r=>grownF f r false) names n.kids.toNat l with
   |none=>none
   |some (ts,r)=>some (.nd n ts,r)
theorem kidsWith_len{g:List Nd->Option (T×List Nd)}{names:Bool}(hg:∀l t r,g l=some (t,r)->r.length≤l.length):∀(k:Nat) (l:List Nd) (ts:List T) (r:List Nd),kidsWith g names k l=some (ts,r)->r.length≤l.length
 |0,l,ts,r,h=>by
  cases h
  exact Nat.le_refl _
 |k+1,l,ts,r,h=>by
  unfold kidsWith at h
  split at h
  ·cases h
  ·rename_i t r' e
   split at h
   ·cases h
   ·split at h
    ·cases h
    ·rename_i ts' r'' e2
     cases h
     exact Nat.le_trans (kidsWith_len hg k _ _ _ e2) (hg _ _ _ e)
theorem grownF_len:∀(f:Nat) (l:List Nd) (root:Bool) (t:T) (r:List Nd),grownF f l root=some (t,r)->r.length≤l.length
 |0,l,root,t,r,h=>by cases h
 |f+1,[],root,t,r,h=>by cases h
 |f+1,n::l,root,t,r,h=>by
  unfold grownF at h
  split at h
  ·cases h
  ·split at h
   ·cases h
   ·split at h
    ·cases h
    ·rename_i ts r' e
     cases h
     have:=kidsWith_len (fun l t r h=>grownF_len f l false t r h) _ _ _ _ e
     simp only[List.length_cons]
     omega
theorem nodeU:under? Try.prog 49=.ok (.slice 75):=by kernel_rfl
theorem nodeS:sizeOf? Try.prog 75=.ok 4:=by kernel_rfl
theorem drop_op{t elem size:Nat}(hU:under? Try.prog t=.ok (.slice elem))(hS:sizeOf? Try.prog elem=.ok size){off n c k:Nat}(h:k≤n)(hn:n≤c):sliceOp? Try.prog t (.slice (some ⟨.dyn 50,.lit (Int.ofNat off)⟩) (.lit (Int.ofNat n)) (.lit (Int.ofNat c))) (some (.int .i64 (.lit (Int.ofNat k)))) none none=.ok (.slice (if c=k then some ⟨.dyn 50,.lit (Int.ofNat off)⟩else some ⟨.dyn 50,.lit (Int.ofNat (off+k*size))⟩) (.lit (Int.ofNat (n-k))) (.lit (Int.ofNat (c-k)))):=by
 unfold sliceOp?
 rw[hU]
 simp only[bind,Except.bind,litNat?,bounds?,bound?,high?,hS,pure,Except.pure]
 simp[h,hn,AA.add,addN]
section
variable {w:World}{cs:List Frame}{fr:Frame}
theorem wq_drop{E:Value->World->Prop}{t elem size:Nat}(hU:under? Try.prog t=.ok (.slice elem))(hS:sizeOf? Try.prog elem=.ok size){A off n c k:Nat}(h:k≤n)(hn:n≤c){Q:Value->World->Prop}(hq:∀o',(n=k∨o'=off+k*size)->Q (slV A o' (n-k) (c-k)) w):
  wq Try.prog (fun _=>True) E (Instr.sliceAt t (slV A off n c) (some (iV k)) none none) Q w:=by
 let K:Ctx:=⟨Try.prog,{},fun _=>True,fun _=>True,True,fun _ _=>False⟩
 let ρ:Env:=mkE [] [(50,A)] []
 refine wq_sliceAt (K:=K) (ρ:=ρ) (w:=w) (drop_op (off:=off) (k:=k) hU hS h hn) (Q:=Q) ?_
 by_cases hc:c=k
 ·rw[if_pos hc]
  exact hq off (.inl (by omega))
 ·rw[if_neg hc]
  exact hq (off+k*size) (.inr rfl)
end
abbrev grSl:AV:=.slice (some ⟨(.dyn 50),(v 53)⟩) (v 51) (v 52)
noncomputable abbrev grMem(op:AV):List (AA×AV):=[(⟨(.dyn 50),(v 53)⟩,op),(⟨(.dyn 50),(.plus (.tn (v 53)) (.lit 1))⟩,i64 (v 2)),(⟨(.dyn 50),(.plus (.tn (v 53)) (.lit 2))⟩,i64 (v 3)),(⟨(.dyn 50),(.plus (.tn (v 53)) (.lit 3))⟩,i64 (v 4))]
noncomputable abbrev grCells(op:AV):List (AA×AV):=[(⟨(.dyn 64),(.lit 0)⟩,op),(⟨(.dyn 64),(.lit 1)⟩,i64 (v 2)),(⟨(.dyn 64),(.lit 2)⟩,i64 (v 3)),(⟨(.dyn 64),(.lit 3)⟩,i64 (v 4))]
abbrev grPz:List (BE×Bool):=[((.cmp .eql (.tn (v 51)) (.lit 0)),false),((.cmp .lss (.lit 0) (.tn (v 51))),true)]
def noneV:Value:=.tuple #[.pointer none,nilV]
section
variable {w:World}{cs:List Frame}{fr:Frame}{nd:Nd}{A o N c:Nat}{root:Bool}
noncomputable def grE0(nd:Nd)(A o N c:Nat)(root:Bool):Env:=mkE [(51,N),(52,c),(53,o),(1,nd.op),(2,nd.n),(3,nd.kids),(4,nd.at')] [(50,A)] [(1,.bool root)]
def SwOut(nd:Nd)(A o N c:Nat)(root:Bool)(w:World)(cs:List Frame)(r:Option (Int×Int×Bool))(g':Goroutine)(w':World):Prop:=match r with
 |none=>∃fr',g'=G fr' cs∧Fresh w w'∧Leav 45 fr' w' noneV
 |some (lo,hi,nm)=>∃fr' X,g'=G fr' cs∧Fresh w w'∧NdAt w' X 0 nd∧FA 45 135 [.code (q45 [1,1,1,1,1])] [] .normal [(0,slV A o N c),(1,.bool root),(6,ptrV X),(7,iV lo),(8,iV hi),(9,.bool nm)] fr'
theorem gr_one{n:Nat}{ks:List Nat}{lo hi:IE}{nm:Bool}{k LO HI:Int}(P:Pc 45 135 [.code (q45 [])] [(0,grSl),(1,.opq 1)] grPz (grMem (i8 (.lit k))) [] n ks [0,1,6,7,8,9] [.code (q45 [1,1,1,1,1])] [grSl,.opq 1,ptr0 100,i64 lo,i64 hi,.bool (.lit nm)] [(100,.cells [i8 (.lit k),i64 (v 2),i64 (v 3),i64 (v 4)] 75)])
 (hk:nd.op=k)(hN:0<N)(h:NdAt w A o nd)(hlo:∀I B,lo.ev (mixE (grE0 nd A o N c root) I B)=LO)(hhi:∀I B,hi.ev (mixE (grE0 nd A o N c root) I B)=HI)(hf:FA 45 135 [.code (q45 [])] [] .normal [(0,slV A o N c),(1,.bool root)] fr){r:Option (Int×Int×Bool)}(hr:r=some (LO,HI,nm)):
  Goes (G fr cs) w (SwOut nd A o N c root w cs r):=by
 subst hr hk
 refine(P.go (grE0 nd A o N c root) hf rfl ⟨decide_eq_false (by show ¬(((N:Nat):Int)=0);omega),decide_eq_true (by show(0:Int)<((N:Nat):Int);omega),trivial⟩ ⟨h.c0,h.c1,h.c2,h.c3,trivial⟩).mono fun g1 w1 hd=>?_
 obtain⟨I,B,fr1,rfl,f1,F1,bl,_⟩:=hd
 have hX:=bl.1.2
 refine⟨fr1,B 100,rfl,f1,⟨blk_cell hX (i:=0) rfl,blk_cell hX (i:=1) rfl,blk_cell hX (i:=2) rfl,blk_cell hX (i:=3) rfl⟩,?_⟩
 rw[<-hlo I B,<-hhi I B]
 exact F1
theorem gr_sw(hN:0<N)(h:NdAt w A o nd)(hf:FA 45 135 [.code (q45 [])] [] .normal [(0,slV A o N c),(1,.bool root)] fr):Goes (G fr cs) w (SwOut nd A o N c root w cs (lowHigh nd.op N)):=by
 have no:∀{n:Int},nd.op≠n->(decide (nd.op=n))=false:=fun h=>decide_eq_false h
 have L0:∀{x:Int} (I:Nat->Int) (B:Nat->Nat),(IE.lit x).ev (mixE (grE0 nd A o N c root) I B)=x:=fun _ _=>rfl
 have L1:∀(I:Nat->Int) (B:Nat->Nat),(IE.tn (v 51)).ev (mixE (grE0 nd A o N c root) I B)=(N:Int):=fun _ _=>rfl
 by_cases e1:nd.op=1
 ·exact gr_one grS1 e1 hN h L0 L0 hf (by rw[e1];rfl)
 by_cases e2:nd.op=2
 ·exact gr_one grS2 e2 hN h L0 L0 hf (by rw[e2];rfl)
 by_cases e3:nd.op=3
 ·exact gr_one grS3 e3 hN h L0 L0 hf (by rw[e3];rfl)
 by_cases e13:nd.op=13
 ·exact gr_one grS13 e13 hN h L0 L0 hf (by rw[e13];rfl)
 by_cases e14:nd.op=14
 ·exact gr_one grS14 e14 hN h L0 L0 hf (by rw[e14];rfl)
 by_cases e15:nd.op=15
 ·exact gr_one grS15 e15 hN h L0 L0 hf (by rw[e15];rfl)
 by_cases e16:nd.op=16
 ·exact gr_one grS16 e16 hN h L0 L0 hf (by rw[e16];rfl)
 by_cases e18:nd.op=18
 ·exact gr_one grS18 e18 hN h L0 L0 hf (by rw[e18];rfl)
 by_cases e4:nd.op=4
 ·exact gr_one grS4 e4 hN h L0 L0 hf (by rw[e4];rfl)
 by_cases e5:nd.op=5
 ·exact gr_one grS5 e5 hN h L0 L0 hf (by rw[e5];rfl)
 by_cases e6:nd.op=6
 ·exact gr_one grS6 e6 hN h L0 L0 hf (by rw[e6];rfl)
 by_cases e12:nd.op=12
 ·exact gr_one grS12 e12 hN h L0 L0 hf (by rw[e12];rfl)
 by_cases e10:nd.op=10
 ·exact gr_one grS10 e10 hN h L0 L1 hf (by rw[e10];rfl)
 by_cases e11:nd.op=11
 ·exact gr_one grS11 e11 hN h L0 L1 hf (by rw[e11];rfl)
 by_cases e17:nd.op=17
 ·exact gr_one grS17 e17 hN h L0 L1 hf (by rw[e17];rfl)
 have er:lowHigh nd.op N=none:=by simp[lowHigh, *]
 rw[er]
 refine(grSx.go (grE0 nd A o N c root) hf rfl ⟨decide_eq_false (by show ¬(((N:Nat):Int)=0);omega),decide_eq_true (by show(0:Int)<((N:Nat):Int);omega),no e1,no e2,no e3,no e13,no e14,no e15,no e16,no e18,no e4,no e5,no e6,no e12,no e10,no e11,no e17,trivial⟩ ⟨h.c0,h.c1,h.c2,h.c3,trivial⟩).trans fun g1 w1 hd=>?_
 obtain⟨I,B,fr1,rfl,f1,F1,_⟩:=hd
 refine(leave2 ret45 F1 rfl rfl).mono fun g6 w6 hd6=>?_
 obtain⟨fr6,rfl,rfl,hL⟩:=hd6
 exact⟨fr6,rfl,f1,hL⟩
noncomputable abbrev GrH:List Item:=[.code (q45 [1,1,1,1,1,1,1,1,1,0,1,0,0]),.inLoop (q45 [1,1,1,1,1,1,1,1,1,0,1,0,0]),.inBlock 1,.code (q45 [1,1,1,1,1,1,1,1,1,1])]
theorem gr_mid{X:Nat}{lo hi:Int}{nm:Bool}(hN:0<N)(hNc:N≤c)(hX:NdAt w X 0 nd)(hf:FA 45 135 [.code (q45 [1,1,1,1,1])] [] .normal [(0,slV A o N c),(1,.bool root),(6,ptrV X),(7,iV lo),(8,iV hi),(9,.bool nm)] fr):
  Goes (G fr cs) w fun g' w'=>(badNd nd root lo hi=true∧∃fr',g'=G fr' cs∧Fresh w w'∧Leav 45 fr' w' noneV)∨(badNd nd root lo hi=false∧∃fr' P o',g'=G fr' cs∧Fresh w w'∧w.heap.size≤P∧(Blk.obj 107 [i8V nd.op,iV nd.n,iV nd.kids,iV nd.at',.string ⟨#[]⟩,nilV]).at Try.prog w' P∧(N=1∨o'=o+4)∧FA 45 135 GrH [] .normal [(0,slV A o' (N-1) (c-1)),(9,.bool nm),(11,ptrV P),(101,iV nd.kids),(102,iV 0)] fr'):=by
 obtain⟨ρ,hρ⟩:∃ρ:Env,ρ=mkE [(51,N),(52,c),(53,o),(1,nd.op),(2,nd.n),(3,nd.kids),(4,nd.at'),(5,lo),(6,hi)] [(50,A),(64,X)] [(1,.bool root),(9,.bool nm)]:=⟨_,rfl⟩
 have hm:∀{w':World},Fresh w w'->AllM ρ w' (grCells (i8 (v 1))):=fun f=>by
  rw[hρ]
  exact⟨f.cell hX.c0,f.cell hX.c1,f.cell hX.c2,f.cell hX.c3,trivial⟩
 refine((grB (decide (nd.n=0)) (decide (nd.op=2)) (decide (nd.op=1)) (decide (nd.n>0))).go ρ hf (by rw[hρ];rfl) ⟨by rw[hρ];rfl,by rw[hρ];rfl,by rw[hρ];rfl,by rw[hρ];rfl,trivial⟩ (hm (Fresh.refl w))).trans fun g1 w1 hd=>?_
 obtain⟨I,B,fr1,rfl,f1,F1,_⟩:=hd
 rw[hρ]at F1
 refine((grG root (decide (nd.n=0)||decide (nd.op=2)||decide (nd.op=1)&&decide (nd.n>0)) (decide (nd.kids<lo)) (decide (nd.kids>hi)) (decide (nd.at'<0)) (decide (nd.op=17)) (decide (nd.op=18))).go ρ F1 (by rw[hρ];rfl) ⟨by rw[hρ];rfl,by rw[hρ];rfl,by rw[hρ];rfl,by rw[hρ];rfl,by rw[hρ];rfl,trivial⟩ (hm f1)).trans fun g2 w2 hd2=>?_
 obtain⟨I,B,fr2,rfl,f2,F2,_⟩:=hd2
 rw[hρ]at F2
 have F2':FA 45 135 [.code (q45 [1,1,1,1,1,1,0,1]),.code (q45 [1,1,1,1,1,1,1])] [] .normal [(0,slV A o N c),(1,.bool root),(6,ptrV X),(9,.bool nm),(94,.bool (badNd nd root lo hi))] fr2:=F2
 cases hb:badNd nd root lo hi with
 |true=>
  rw[hb]at F2'
  refine(grX.go ρ F2' (by rw[hρ];rfl) trivial trivial).trans fun g3 w3 hd3=>?_
  obtain⟨I,B,fr3,rfl,f3,F3,_⟩:=hd3
  refine(leave2 ret45 F3 rfl rfl).mono fun g6 w6 hd6=>?_
  obtain⟨fr6,rfl,rfl,hL⟩:=hd6
  exact .inl ⟨rfl,fr6,rfl,f1.trans (f2.trans f3),hL⟩
 |false=>
  rw[hb]at F2'
  have f12:=f1.trans f2
  refine(grY.go ρ F2' (by rw[hρ];rfl) trivial (hm f12)).trans fun g3 w3 hd3=>?_
  obtain⟨I,B,fr3,rfl,f3,F3,bl,_⟩:=hd3
  rw[hρ]at F3 bl
  refine(grZ.go (R:=fun x w'=>(∃o',(N=1∨o'=o+4)∧x=slV A o' (N-1) (c-1))∧w'=w3) (mkE [] [] []) F3 (by decide) rfl fun tm htm x' e1 e2=>?_).trans fun g4 w4 hd4=>?_
  ·unfold execOp
   simp only[e1,wq_bind,Option.map_some,Option.map_none]
   rw[htm 98 (slV A o N c) rfl]
   exact wq_drop nodeU nodeS (k:=1) hN hNc fun o' ho'=>⟨_,rfl,⟨o',ho',rfl⟩,rfl⟩
  obtain⟨fr4,x,rfl,⟨⟨o',ho',rfl⟩,rfl⟩,F4⟩:=hd4
  have gP:w.heap.size≤B 100:=Nat.le_trans f12.size bl.1.1
  have hP:(Blk.obj 107 [i8V nd.op,iV nd.n,iV nd.kids,iV nd.at',.string ⟨#[]⟩,nilV]).at Try.prog w4 (B 100):=bl.1.2
  refine(grH.go (mkE [(3,nd.kids)] [(63,B 100),(64,X)] [(9,.bool nm),(8,slV A o' (N-1) (c-1))]) F4 rfl trivial ⟨(f12.trans f3).cell hX.c2,trivial⟩).mono fun g5 w5 hd5=>?_
  obtain⟨I,B',fr5,rfl,f5,F5,_⟩:=hd5
  exact .inr ⟨rfl,fr5,B 100,o',rfl,f12.trans (f3.trans f5),gP,blk_keep hP f5,ho',F5⟩
end
theorem size91(inf:TypeInfo)(hi:Try.prog.info? 91=some inf):inf.size=1:=by
 have e2:(Try.prog.info? 91).map (fun x=>x.size)=some 1:=by kernel_rfl
 rw[hi]at e2
 exact Option.some.inj e2
theorem slV_block{a o n c a' o' n' c':Nat}(h:slV a o n c=slV a' o' n' c'):a=a':=congrArg (fun v=>match v with|.slice (some x) _ _=>x.block|_=>0) h
def KidsIn(w:World)(base P:Nat)(sl:Value)(ps:List Nat):Prop:=(sl=nilV∧ps=[])∨∃Bk c,sl=slV Bk 0 ps.length c∧base≤Bk∧Bk≠P∧ps≠[]∧(Blk.vec 91 c (ps.map ptrV)).at Try.prog w Bk
def Off(base P:Nat)(sl:Value)(x:Nat):Prop:=base≤x∧x≠P∧∀Bk n c,sl=slV Bk 0 n c->x≠Bk
theorem KidsIn.keep{w w':World}{base P:Nat}{sl:Value}{ps:List Nat}(h:KidsIn w base P sl ps)(f:Fresh w w'):KidsIn w' base P sl ps:=by
 rcases h with h|⟨Bk,c,h1,h2,h3,h4,h5⟩
 ·exact .inl h
 ·exact .inr ⟨Bk,c,h1,h2,h3,h4,blk_keep h5 f⟩
abbrev nodeB(nd:Nd)(sl:Value):Blk:=.obj 107 [i8V nd.op,iV nd.n,iV nd.kids,iV nd.at',.string ⟨#[]⟩,sl]
noncomputable abbrev GrT(l:List Nat):List Item:=.inRegion (opsOf (q45 [1,1,1,1,1,1,1,1,1,0,1,0,0,1,1,0,0,1,0,0])) l::[.code (q45 [1,1,1,1,1,1,1,1,1,0,1,0,0,1,1,0,0,1,0,1]),.code (q45 [1,1,1,1,1,1,1,1,1,0,1,0,0,1,1,0,0,1,1]),.inBlock 2,.code (q45 [1,1,1,1,1,1,1,1,1,0,1,0,0,1,1,1]),.inLoop (q45 [1,1,1,1,1,1,1,1,1,0,1,0,0]),.inBlock 1,.code (q45 [1,1,1,1,1,1,1,1,1,1])]
noncomputable def grR(nd:Nd)(i n c P p Bk op:Int)(s xs:Value):Env:=mkE [(1,op),(21,nd.op),(22,nd.n),(3,nd.kids),(24,nd.at'),(7,i),(8,n),(57,c)] [(63,P.toNat),(62,p.toNat),(52,Bk.toNat)] [(8,s),(65,xs)]
noncomputable abbrev grPre0:List (Nat×ABlk):=[(63,.cells [i8 (v 21),i64 (v 22),i64 (v 3),i64 (v 24),.str ⟨#[]⟩,nilA] 107)]
noncomputable abbrev grPre1:List (Nat×ABlk):=[(52,.pre false 65 (v 8) [] [] [] 91 (v 57)),(63,.cells [i8 (v 21),i64 (v 22),i64 (v 3),i64 (v 24),.str ⟨#[]⟩,.slice (some ⟨(.dyn 52),(.lit 0)⟩) (v 8) (v 57)] 107)]
noncomputable abbrev grPost0:List (Nat×ABlk):=[(101,.row [ptr0 62] 91 (v 101)),(63,.cells [i8 (v 21),i64 (v 22),i64 (v 3),i64 (v 24),.str ⟨#[]⟩,.slice (some ⟨(.dyn 101),(.lit 0)⟩) (.lit 1) (v 101)] 107)]
noncomputable abbrev grPost1:List (Nat×ABlk):=[(101,.pre false 65 (v 8) [] [] [ptr0 62] 91 (v 101)),(63,.cells [i8 (v 21),i64 (v 22),i64 (v 3),i64 (v 24),.str ⟨#[]⟩,.slice (some ⟨(.dyn 101),(.lit 0)⟩) (.plus (.tn (v 8)) (.lit 1)) (v 101)] 107)]
section
variable {w w0:World}{cs:List Frame}{fr:Frame}{nd:Nd}{base P p i:Nat}{nm:Bool}{s sl:Value}{ps:List Nat}{ts:List T}{t:T}
theorem gr_push(hP0:base≤P)(hb:base≤w.heap.size)(hP:(nodeB nd sl).at Try.prog w P)(hk:KidsIn w base P sl ps)(ht:TreesAt w (Off base P sl) ps ts)(hpt:TreeAt w (Off base P sl) p t)(hop:nm=true->t.n.op=2)(hlen:ps.length≤1000000)(hi:i≤1000000)
 (hf:FA 45 135 (GrT [2,3,4,5,6]) [] .normal [(9,.bool nm),(11,ptrV P),(101,iV nd.kids),(102,iV i),(106,.tuple #[ptrV p,s])] fr):
  Goes (G fr cs) w fun g' w'=>∃fr' sl',g'=G fr' cs∧Keeps (fun x=>base≤x) w w'∧(nodeB nd sl').at Try.prog w' P∧KidsIn w' base P sl' (ps++[p])∧TreesAt w' (Off base P sl') (ps++[p]) (ts++[t])∧FA 45 135 GrH [] .normal [(0,s),(9,.bool nm),(11,ptrV P),(101,iV nd.kids),(102,iV ((i+1:Nat):Int))] fr':=by
 obtain⟨hpU,hpop⟩:Off base P sl p∧w.cell? ⟨p,0,none⟩=some (i8V t.n.op):=by
  cases hpt with
  |mk b n ks ps s u c0=>exact⟨u,c0⟩
 rcases hk with⟨rfl,rfl⟩|⟨Bk,c,rfl,hBk,hBP,hne,hv⟩
 ·obtain⟨ρ,hρ⟩:∃ρ:Env,ρ=grR nd i 0 0 P p 0 t.n.op s undef:=⟨_,rfl⟩
  have hgo:Goes (G fr cs) w fun g' w'=>∃I B fr',g'=G fr' cs∧Keeps (ownP ρ w grPre0) w w'∧FA 45 135 GrH [] .normal [(0,s),(9,.bool nm),(11,ptrV P),(101,iV nd.kids),(102,iV (iop .add .i64 i 1))] fr'∧AllP (mixE ρ I B) (ownP ρ w grPre0) w' grPost0∧∀x∈grPost0,∀y∈grPost0,(mixE ρ I B).b x.1=(mixE ρ I B).b y.1->x.1=y.1:=by
   subst hρ
   cases nm with
   |true=>exact grPt.goW (grR nd i 0 0 P p 0 t.n.op s undef) hf rfl ⟨by show(!decide (t.n.op=2))=false;rw[hop rfl];rfl,trivial⟩ ⟨hpop,trivial⟩ (fun q hq x hx=>by
     obtain rfl:=List.mem_singleton.1 hq
     obtain rfl:=List.mem_singleton.1 hx
     exact fun e=>hpU.2.1 e.symm) ⟨⟨_,hP,rfl,rfl⟩,trivial⟩ one_nodup
   |false=>exact grPf.goW (grR nd i 0 0 P p 0 t.n.op s undef) hf rfl trivial trivial (nofun) ⟨⟨_,hP,rfl,rfl⟩,trivial⟩ one_nodup
  refine hgo.mono fun g' w' hd=>?_
  obtain⟨I,B,fr',rfl,kp,F,bl,inj⟩:=hd
  have b63:(mixE ρ I B).b 63=P:=by rw[hρ];rfl
  have e63:ρ.b 63=P:=by rw[hρ];rfl
  have own:∀x,ownP ρ w grPre0 x->w.heap.size≤x∨x=P:=fun x hx=>by
   rcases hx with h|⟨y,hy,e⟩
   ·exact .inl h
   ·obtain rfl:=List.mem_singleton.1 hy
    exact .inr (e.symm.trans e63)
  obtain⟨⟨o1,v1⟩,⟨o2,v2⟩,_⟩:=bl
  have hB:(Blk.vec 91 (I 101).toNat [ptrV p]).at Try.prog w' (B 101):=by rw[hρ]at v1;exact v1
  have hP':(nodeB nd (slV (B 101) 0 1 (I 101).toNat)).at Try.prog w' P:=by
   rw[b63]at v2
   rw[hρ]at v2
   exact v2
  have hne:B 101≠P:=fun e=>by
   have:=inj _ (List.mem_cons_self ..) _ (List.mem_cons_of_mem _ (List.mem_singleton.2 rfl)) (by rw[b63];exact e)
   cases this
  have hB0:w.heap.size≤B 101:=by
   rcases own _ o1 with h|h
   ·exact h
   ·exact(hne h).elim
  refine⟨fr',_,rfl,kp.mono fun x hx=>?_,hP',.inr ⟨B 101,(I 101).toNat,rfl,Nat.le_trans hb hB0,hne,by simp,hB⟩,?_,by rw[<-inc (i:=i) (by omega)];exact F⟩
  ·rcases own x hx with h|rfl
   ·exact Nat.le_trans hb h
   ·exact hP0
  ·have hU:∀x,Off base P nilV x->x<w.heap.size->¬ownP ρ w grPre0 x∧Off base P (slV (B 101) 0 1 (I 101).toNat) x:=fun x hx hlt=>⟨fun hh=>by
    rcases own x hh with h|h
    ·omega
    ·exact hx.2.1 h,hx.1,hx.2.1,fun Bk n c e=>by
    have:B 101=Bk:=slV_block e
    omega⟩
   exact(ht.keepBut kp hU).snoc (hpt.keepBut kp hU)
 ·obtain⟨ρ,hρ⟩:∃ρ:Env,ρ=grR nd i ps.length c P p Bk t.n.op s (.agg (ps.map ptrV).toArray):=⟨_,rfl⟩
  have e52:ρ.b 52=Bk:=by rw[hρ];rfl
  have e63:ρ.b 63=P:=by rw[hρ];rfl
  have hO:AllO ρ w grPre1:=by
   refine⟨⟨.vec 91 c (ps.map ptrV),by rw[e52];exact hv,rfl,by rw[hρ];rfl,fun inf hinf=>?_,(nofun),by rw[hρ];rfl⟩,⟨nodeB nd (slV Bk 0 ps.length c),by rw[e63];exact hP,rfl,by rw[hρ];rfl⟩,trivial⟩
   rw[size91 inf hinf,List.length_map,hρ]
   show ps.length=((ps.length:Nat):Int).toNat*1
   omega
  have hnd:(grPre1.map fun p=>ρ.b p.1).Nodup:=by
   show[ρ.b 52,ρ.b 63].Nodup
   rw[e52,e63]
   exact List.nodup_cons.2 ⟨fun h=>hBP (List.mem_singleton.1 h),one_nodup⟩
  have hap:(BE.cmp .leq (.plus (.tn (v 8)) (.lit 1)) (.lit 1048576)).ev ρ=true:=by
   rw[hρ]
   show decide ((((ps.length:Int).toNat:Nat):Int)+1≤1048576)=true
   exact decide_eq_true (by omega)
  have hgo:Goes (G fr cs) w fun g' w'=>∃I B fr',g'=G fr' cs∧Keeps (ownP ρ w grPre1) w w'∧FA 45 135 GrH [] .normal [(0,s),(9,.bool nm),(11,ptrV P),(101,iV nd.kids),(102,iV (iop .add .i64 i 1))] fr'∧AllP (mixE ρ I B) (ownP ρ w grPre1) w' grPost1∧∀x∈grPost1,∀y∈grPost1,(mixE ρ I B).b x.1=(mixE ρ I B).b y.1->x.1=y.1:=by
   subst hρ
   cases nm with
   |true=>exact grQt.goW (grR nd i ps.length c P p Bk t.n.op s (.agg (ps.map ptrV).toArray)) hf rfl ⟨hap,by show(!decide (t.n.op=2))=false;rw[hop rfl];rfl,trivial⟩ ⟨hpop,trivial⟩ (fun q hq x hx=>by
     obtain rfl:=List.mem_singleton.1 hq
     have hx':x.1=52∨x.1=63:=by
      simp only[List.mem_cons,List.not_mem_nil,or_false]at hx
      rcases hx with rfl|rfl
      ·exact .inl rfl
      ·exact .inr rfl
     rcases hx' with h|h<;>rw[h]
     ·exact fun e=>hpU.2.2 Bk _ _ rfl e.symm
     ·exact fun e=>hpU.2.1 e.symm) hO hnd
   |false=>exact grQf.goW (grR nd i ps.length c P p Bk t.n.op s (.agg (ps.map ptrV).toArray)) hf rfl ⟨hap,trivial⟩ trivial (nofun) hO hnd
  refine hgo.mono fun g' w' hd=>?_
  obtain⟨I,B,fr',rfl,kp,F,bl,inj⟩:=hd
  have b63:(mixE ρ I B).b 63=P:=by rw[hρ];rfl
  have own:∀x,ownP ρ w grPre1 x->w.heap.size≤x∨x=P∨x=Bk:=fun x hx=>by
   rcases hx with h|⟨y,hy,e⟩
   ·exact .inl h
   ·simp only[List.mem_cons,List.not_mem_nil,or_false]at hy
    rcases hy with rfl|rfl
    ·exact .inr (.inr (e.symm.trans e52))
    ·exact .inr (.inl (e.symm.trans e63))
  obtain⟨⟨o1,v1⟩,⟨o2,v2⟩,_⟩:=bl
  have hB:(Blk.vec 91 (I 101).toNat ((ps++[p]).map ptrV)).at Try.prog w' (B 101):=by
   rw[hρ]at v1
   rw[List.map_append]
   exact v1
  have hn:((((ps.length:Int).toNat:Nat):Int)+1).toNat=(ps++[p]).length:=by
   rw[List.length_append,List.length_singleton]
   omega
  have hP':(nodeB nd (slV (B 101) 0 (ps++[p]).length (I 101).toNat)).at Try.prog w' P:=by
   rw[b63]at v2
   rw[hρ]at v2
   rw[<-hn]
   exact v2
  have hne:B 101≠P:=fun e=>by
   have:=inj _ (List.mem_cons_self ..) _ (List.mem_cons_of_mem _ (List.mem_singleton.2 rfl)) (by rw[b63];exact e)
   cases this
  have hB0:w.heap.size≤B 101∨B 101=Bk:=by
   rcases own _ o1 with h|h|h
   ·exact .inl h
   ·exact(hne h).elim
   ·exact .inr h
  refine⟨fr',_,rfl,kp.mono fun x hx=>?_,hP',.inr ⟨B 101,(I 101).toNat,rfl,?_,hne,by simp,hB⟩,?_,by rw[<-inc (i:=i) (by omega)];exact F⟩
  ·rcases own x hx with h|rfl|rfl
   ·exact Nat.le_trans hb h
   ·exact hP0
   ·exact hBk
  ·rcases hB0 with h|h
   ·exact Nat.le_trans hb h
   ·rw[h];exact hBk
  ·have hU:∀x,Off base P (slV Bk 0 ps.length c) x->x<w.heap.size->¬ownP ρ w grPre1 x∧Off base P (slV (B 101) 0 (ps++[p]).length (I 101).toNat) x:=fun x hx hlt=>⟨fun hh=>by
    rcases own x hh with h|h|h
    ·omega
    ·exact hx.2.1 h
    ·exact hx.2.2 Bk _ _ rfl h,hx.1,hx.2.1,fun Bk' n' c' e=>by
    have:B 101=Bk':=slV_block e
    subst this
    rcases hB0 with h|h
    ·omega
    ·rw[h];exact hx.2.2 Bk _ _ rfl⟩
   exact(ht.keepBut kp hU).snoc (hpt.keepBut kp hU)
end
theorem lowHigh_bounds{op:Int}{len:Nat}{lo hi:Int}{nm:Bool}(e:lowHigh op len=some (lo,hi,nm)):0≤lo∧(hi≤3∨hi=len):=by
 unfold lowHigh at e
 repeat' split at e
 all_goals cases e
 all_goals exact⟨by omega,by omega⟩
def GrOut(base:Nat)(s:Value)(l:List Nd)(w':World)(v:Value)(r:Option (T×List Nd)):Prop:=match r with
 |none=>v=noneV
 |some (t,rest)=>∃p s',v=.tuple #[ptrV p,s']∧TreeAt w' (fun x=>base≤x) p t∧∀W,NodesAt W s l->NodesAt W s' rest
def LoopOut(base P:Nat)(nd:Nd)(s:Value)(l:List Nd)(ts:List T)(w':World)(v:Value)(r:Option (List T×List Nd)):Prop:=match r with
 |none=>v=noneV
 |some (ts',rest)=>∃s',v=.tuple #[ptrV P,s']∧TreeAt w' (fun x=>base≤x) P (.nd nd (ts++ts'))∧∀W,NodesAt W s l->NodesAt W s' rest
theorem fresh_keeps{w0 w w':World}(h:Fresh w0 w)(k:Keeps (fun x=>w0.heap.size≤x) w w'):Fresh w0 w':=Keeps.trans h k
section
variable {w w0:World}{cs:List Frame}{fr:Frame}
theorem gr_fin{k:List Item}{w0 w:World}{P:Value->Prop}(fw:Fresh w0 w)(hf:FA 45 135 (.code .ret::k) [] .normal [(4,.pointer none),(5,nilV)] fr)(hP:P noneV):Goes (G fr cs) w fun g' w'=>∃fr' v,g'=G fr' cs∧Fresh w0 w'∧Leav 45 fr' w' v∧P v:=by
 refine(leave2 ret45 hf rfl rfl).mono fun g6 w6 hd6=>?_
 obtain⟨fr6,rfl,rfl,hL⟩:=hd6
 exact⟨fr6,_,rfl,fw,hL,hP⟩
theorem gr_loop{f:Nat}{names:Bool}(IH:∀{w:World} {s:Value} {l:List Nd},NodesAt w s l->l.length<f->l.length≤1000000->Ans 45 #[s,.bool false] w fun v w'=>Fresh w w'∧GrOut w.heap.size s l w' v (grownF f l false)){P:Nat}{nd:Nd}(hP0:w0.heap.size≤P)(hkb:nd.kids≤1000000):
  ∀(m i:Nat) {w:World} {cs:List Frame} {fr:Frame} {s sl:Value} {l:List Nd} {ps:List Nat} {ts:List T},(i:Int)+m=nd.kids->l.length<f->l.length≤1000000->Fresh w0 w->NodesAt w0 s l->(nodeB nd sl).at Try.prog w P->KidsIn w w0.heap.size P sl ps->TreesAt w (Off w0.heap.size P sl) ps ts->ps.length=i->
   FA 45 135 GrH [] .normal [(0,s),(9,.bool names),(11,ptrV P),(101,iV nd.kids),(102,iV i)] fr->
   Goes (G fr cs) w fun g' w'=>∃fr' v,g'=G fr' cs∧Fresh w0 w'∧Leav 45 fr' w' v∧LoopOut w0.heap.size P nd s l ts w' v (kidsWith (fun r=>grownF f r false) names m l)
 |0,i,w,cs,fr,s,sl,l,ps,ts,hi,hlf,hl,fw,hn,hP,hk,ht,hpi,hf=>by
  refine(grE.go (mkE [(3,nd.kids),(7,i)] [(63,P)] [(8,s),(9,.bool names)]) hf rfl ⟨decide_eq_false (by show ¬((i:Int)<nd.kids);omega),trivial⟩ trivial).trans fun g1 w1 hd=>?_
  obtain⟨I,B,fr1,rfl,f1,F1,_⟩:=hd
  refine(leave2 ret45 F1 rfl rfl).mono fun g6 w6 hd6=>?_
  obtain⟨fr6,rfl,rfl,hL⟩:=hd6
  refine⟨fr6,_,rfl,fw.trans f1,hL,s,rfl,?_,fun W h=>h⟩
  rw[List.append_nil]
  have hP1:=blk_keep hP f1
  have hs:PtrsAt w6 (fun x=>w0.heap.size≤x) sl ps:=by
   rcases hk.keep f1 with⟨h1,h2⟩|⟨Bk,c,h1,h2,h3,h4,h5⟩
   ·exact⟨.inl ⟨h1,h2⟩⟩
   ·refine⟨.inr ⟨Bk,0,c,h2,Blk.at_lt h5,h1,?_,fun j p hj=>?_⟩⟩
    ·obtain⟨arr,rest,inf,e1,e2,e3,e4⟩:=h5
     have:=congrArg List.length e3
     rw[size91 inf e2]at e4
     rw[List.length_append,List.length_map]at this
     have:arr.size=arr.toList.length:=rfl
     omega
    ·rw[Nat.zero_add]
     refine Blk.at_cell h5 ?_
     show(ps.map ptrV)[j]?=some (ptrV p)
     rw[List.getElem?_map,hj];rfl
  exact .mk P nd ts ps sl hP0 (blk_cell hP1 (i:=0) rfl) (blk_cell hP1 (i:=1) rfl) (blk_cell hP1 (i:=2) rfl) (blk_cell hP1 (i:=3) rfl) (blk_cell hP1 (i:=5) rfl) hs (ht.keepBut f1 fun x u lt=>⟨fun hh=>by omega,u.1⟩)
 |m+1,i,w,cs,fr,s,sl,l,ps,ts,hi,hlf,hl,fw,hn,hP,hk,ht,hpi,hf=>by
  refine(grL.go (mkE [(3,nd.kids),(7,i)] [(63,P)] [(8,s),(9,.bool names)]) hf rfl ⟨decide_eq_true (by show((i:Int)<nd.kids);omega),trivial⟩ trivial).trans fun g1 w1 hd=>?_
  obtain⟨I,B,fr1,rfl,f1,F1,_⟩:=hd
  have fw1:=fw.trans f1
  refine(grM.go (mkE [] [] [(105,s)]) (Q:=fun v w'=>GrOut w1.heap.size s l w' v (grownF f l false)) F1 rfl fun w' f2=>(IH (hn.keep (fw1.trans f2)) hlf hl).mono fun v w3 O=>⟨O.1,?_⟩).trans fun g2 w2 hd2=>?_
  ·unfold GrOut at O⊢
   cases e:grownF f l false with
   |none=>rw[e]at O;exact O.2
   |some x=>
    rw[e]at O
    obtain⟨_,p,s',h1,h2,h3⟩:=O
    exact⟨p,s',h1,h2.keepBut (Fresh.refl _) fun x u lt=>⟨fun hh=>by omega,Nat.le_trans f2.size u⟩,h3⟩
  obtain⟨fr2,vv,rfl,f2,hO,F2⟩:=hd2
  have fw2:=fw1.trans f2
  unfold kidsWith
  unfold GrOut at hO
  cases e:grownF f l false with
  |none=>
   rw[e]at hO
   have hO:vv=noneV:=hO
   subst hO
   cases names with
   |true=>
    refine(grNtrue.go (mkE [(3,nd.kids),(7,i)] [(63,P)] [(8,nilV)]) F2 rfl trivial trivial).trans fun g3 w3 hd3=>?_
    obtain⟨I,B,fr3,rfl,f3,F3,_⟩:=hd3
    refine(gr_fin (P:=fun v=>v=noneV) (fw2.trans f3) F3 rfl).mono fun g4 w4 hd4=>?_
    obtain⟨fr4,v,h1,h2,h3,h4⟩:=hd4
    exact⟨fr4,v,h1,h2,h3,h4⟩
   |false=>
    refine(grNfalse.go (mkE [(3,nd.kids),(7,i)] [(63,P)] [(8,nilV)]) F2 rfl trivial trivial).trans fun g3 w3 hd3=>?_
    obtain⟨I,B,fr3,rfl,f3,F3,_⟩:=hd3
    refine(gr_fin (P:=fun v=>v=noneV) (fw2.trans f3) F3 rfl).mono fun g4 w4 hd4=>?_
    obtain⟨fr4,v,h1,h2,h3,h4⟩:=hd4
    exact⟨fr4,v,h1,h2,h3,h4⟩
  |some x=>
   obtain⟨t,r⟩:=x
   rw[e]at hO
   obtain⟨p,s',rfl,hpt,hrest⟩:=hO
   have hlen:=grownF_len _ _ _ _ _ e
   by_cases hbad:(names&&decide (t.n.op≠2))=true
   ·have hnames:names=true:=by
     cases names with
     |true=>rfl
     |false=>cases hbad
    subst hnames
    have hop:t.n.op≠2:=by simpa using hbad
    have hpop:w2.cell? ⟨p,0,none⟩=some (i8V t.n.op):=by
     cases hpt with
     |mk b n ks ps s u c0=>exact c0
    refine(grO.go (mkE [(1,t.n.op),(3,nd.kids),(7,i)] [(63,P),(62,p)] [(8,s')]) F2 rfl ⟨by show(!decide (t.n.op=2))=true;rw[decide_eq_false hop];rfl,trivial⟩ ⟨hpop,trivial⟩).trans fun g3 w3 hd3=>?_
    obtain⟨I,B,fr3,rfl,f3,F3,_⟩:=hd3
    refine(gr_fin (P:=fun v=>v=noneV) (fw2.trans f3) F3 rfl).mono fun g4 w4 hd4=>?_
    obtain⟨fr4,v,h1,h2,h3,h4⟩:=hd4
    refine⟨fr4,v,h1,h2,h3,?_⟩
    dsimp only
    rw[if_pos hbad]
    exact h4
   ·have hop:names=true->t.n.op=2:=fun h=>by
     subst h
     simpa using hbad
    dsimp only
    rw[if_neg hbad]
    have hPk:=blk_keep hP (f1.trans f2)
    have hkk:=hk.keep (f1.trans f2)
    have htk:=ht.keep (f1.trans f2)
    have hPlt:P<w1.heap.size:=Blk.at_lt (blk_keep hP f1)
    have hoff:∀x,w1.heap.size≤x->Off w0.heap.size P sl x:=fun x hx=>⟨Nat.le_trans fw1.size hx,by omega,fun Bk n c e'=>by
     rcases hk.keep f1 with⟨h1,h2⟩|⟨Bk',c',h1,h2,h3,h4,h5⟩
     ·rw[h1]at e';cases e'
     ·have:=Blk.at_lt h5
      have:Bk'=Bk:=slV_block (h1.symm.trans e')
      omega⟩
    have hpt':TreeAt w2 (Off w0.heap.size P sl) p t:=hpt.keepBut (Fresh.refl _) fun x u lt=>⟨fun hh=>by omega,hoff x u⟩
    refine(gr_push (s:=s') (i:=i) hP0 (Nat.le_trans fw2.size (Nat.le_refl _)) hPk hkk htk hpt' hop (by omega) (by omega) (F2.only rfl)).trans fun g3 w3 hd3=>?_
    obtain⟨fr3,sl',rfl,kp3,hP3,hk3,ht3,F3⟩:=hd3
    have fw3:=fresh_keeps fw2 kp3
    refine(gr_loop IH hP0 hkb m (i+1) (by omega) (by omega) (by omega) fw3 (hrest _ hn) hP3 hk3 ht3 (by rw[List.length_append,List.length_singleton,hpi]) F3).mono fun g4 w4 hd4=>?_
    obtain⟨fr4,v,h1,h2,h3,h4⟩:=hd4
    refine⟨fr4,v,h1,h2,h3,?_⟩
    unfold LoopOut at h4⊢
    cases e2:kidsWith (fun r=>grownF f r false) names m r with
    |none=>rw[e2]at h4;exact h4
    |some y=>
     obtain⟨ts',r'⟩:=y
     rw[e2]at h4
     obtain⟨s'',g1,g2,g3⟩:=h4
     refine⟨s'',g1,?_,fun W h=>g3 W (hrest W h)⟩
     rw[List.append_assoc]at g2
     exact g2
theorem grown_all:∀(f:Nat) {w:World} {s:Value} {l:List Nd} {root:Bool},NodesAt w s l->l.length<f->l.length≤1000000->Ans 45 #[s,.bool root] w fun v w'=>Fresh w w'∧GrOut w.heap.size s l w' v (grownF f l root)
 |0,w,s,l,root,h,hlt,hl=>by omega
 |f+1,w,s,[],root,h,hlt,hl=>by
  refine ans_of fun cs=>?_
  rcases h.ex with⟨rfl,_⟩|⟨A,o,c,rfl,_,_⟩
  ·refine(gr0.go (mkE [] [] []) (enter2 ent45 rfl nilV (.bool root)) rfl trivial trivial).trans fun g3 w3 hd3=>?_
   obtain⟨I,B,fr3,rfl,f3,F3,_⟩:=hd3
   refine(gr_fin (P:=fun v=>v=noneV) f3 F3 rfl).mono fun g4 w4 hd4=>?_
   obtain⟨fr4,v,h1,h2,h3,h4⟩:=hd4
   exact⟨fr4,v,h1,h3,h2,h4⟩
  ·refine(gr1.go (mkE [(51,0),(52,c),(53,o)] [(50,A)] []) (enter2 ent45 rfl (slV A o 0 c) (.bool root)) rfl ⟨rfl,trivial⟩ trivial).trans fun g3 w3 hd3=>?_
   obtain⟨I,B,fr3,rfl,f3,F3,_⟩:=hd3
   refine(gr_fin (P:=fun v=>v=noneV) f3 F3 rfl).mono fun g4 w4 hd4=>?_
   obtain⟨fr4,v,h1,h2,h3,h4⟩:=hd4
   exact⟨fr4,v,h1,h3,h2,h4⟩
 |f+1,w,s,nd::l,root,h,hlt,hl=>by
  rcases h.ex with⟨_,e⟩|⟨A,o,c,rfl,hc,hel⟩
  ·cases e
  refine ans_of fun cs=>?_
  have hnd:NdAt w A o nd:=by
   have:=hel 0 nd rfl
   simpa using this
  have hN:0<(nd::l).length:=by simp
  refine(gr_sw (c:=c) hN hnd (enter2 ent45 rfl (slV A o (nd::l).length c) (.bool root))).trans fun g1 w1 hd=>?_
  unfold grownF
  rw[show(nd::l).length=l.length+1 from rfl]at hd
  cases e:lowHigh nd.op (l.length+1)with
  |none=>
   rw[e]at hd
   obtain⟨fr1,rfl,f1,hL⟩:=hd
   exact .here ⟨fr1,_,rfl,hL,f1,rfl⟩
  |some x=>
   obtain⟨lo,hi,names⟩:=x
   rw[e]at hd
   obtain⟨fr1,X,rfl,f1,hX,F1⟩:=hd
   refine(gr_mid hN hc hX F1).trans fun g2 w2 hd2=>?_
   dsimp only
   rcases hd2 with⟨hb,fr2,rfl,f2,hL⟩|⟨hb,fr2,P,o',rfl,f2,gP,hP,ho',F2⟩
   ·rw[if_pos hb]
    exact .here ⟨fr2,_,rfl,hL,f1.trans f2,rfl⟩
   ·rw[if_neg (by rw[hb];decide)]
    have hk:0≤nd.kids∧nd.kids≤1000000:=by
     have hb1:¬(nd.kids<lo)∧¬(nd.kids>hi):=by
      simp only[badNd,Bool.or_eq_false_iff,decide_eq_false_iff_not]at hb
      exact⟨hb.1.1.1.1,hb.1.1.1.2⟩
     have hlh:=lowHigh_bounds e
     simp only[List.length_cons]at hl
     omega
    have f12:=f1.trans f2
    have hrest:∀W,NodesAt W (slV A o (nd::l).length c) (nd::l)->NodesAt W (slV A o' ((nd::l).length-1) (c-1)) l:=fun W hW=>by
     rcases hW.ex with⟨e',_⟩|⟨A',o2,c',e',hc',hel'⟩
     ·cases e'
     ·obtain⟨rfl,rfl,rfl⟩:A'=A∧o2=o∧c'=c:=by
       refine⟨(slV_block e').symm,?_,?_⟩
       ·exact(congrArg (fun v=>match v with|.slice (some x) _ _=>x.off|_=>0) e').symm
       ·exact(congrArg (fun v=>match v with|.slice (some x) _ c=>c|_=>0) e').symm
      refine⟨.inr ⟨A',o',c'-1,rfl,by simp only[List.length_cons]at hc';omega,fun i n hi=>?_⟩⟩
      have:=hel' (i+1) n hi
      rcases ho' with h1|rfl
      ·simp only[List.length_cons]at h1
       have:l=[]:=List.eq_nil_of_length_eq_zero (by omega)
       subst this
       cases hi
      ·rw[show o2+4+i*4=o2+(i+1)*4 by omega]
       exact this
    refine(gr_loop (f:=f) (names:=names) (fun h1 h2 h3=>grown_all f h1 h2 h3) (w0:=w) (P:=P) (nd:=nd) (Nat.le_trans f1.size gP) hk.2 nd.kids.toNat 0 (by omega) (by simp only[List.length_cons]at hlt;omega) (by simp only[List.length_cons]at hl;omega) f12 (hrest w h) hP (.inl ⟨rfl,rfl⟩) .nil rfl F2).mono fun g4 w4 hd4=>?_
    obtain⟨fr4,v,h1,h2,h3,h4⟩:=hd4
    refine⟨fr4,v,h1,h3,h2,?_⟩
    unfold LoopOut at h4
    cases e2:kidsWith (fun r=>grownF f r false) names nd.kids.toNat l with
    |none=>rw[e2]at h4;exact h4
    |some y=>
     obtain⟨ts',r'⟩:=y
     rw[e2]at h4
     obtain⟨s'',g1,g2,g3⟩:=h4
     exact⟨P,s'',g1,g2,fun W hW=>g3 W (hrest W hW)⟩
end
noncomputable def q31(l:List Nat):Code:=pc (bodyOf Try.f31) l
theorem ent31:enterA Try.prog 31 [.opq 0,.opq 1,.opq 2] .normal=.ok ⟨31,87,entT 31 [.opq 0,.opq 1,.opq 2],[.code (bodyOf Try.f31)],[],.run,.normal⟩:=by kernel_rfl
theorem ret31:RetC 31 87 6:=fun st=>by kernel_rfl
theorem so1:Pc 31 87 [.code (q31 [])] [(0,.agg [ss 1,.slice (some ⟨(.dyn 50),(v 53)⟩) (v 51) (v 52),i64 (v 4)]),(1,i64 (v 7)),(2,.opq 2)] [((.cmp .geq (v 7) (.lit 4096)),true)] [] [] 18 [] [6] [.code .ret,.inBlock 0,.code (q31 [1,1])] [i64 (.lit 34)] []:=⟨fun st=>by kernel_rfl,fun st=>by kernel_rfl,by kernel_rfl,of_decide_eq_true (by kernel_rfl)⟩
theorem so1n:Pc 31 87 [.code (q31 [])] [(0,.agg [ss 1,nilA,i64 (v 4)]),(1,i64 (v 7)),(2,.opq 2)] [((.cmp .geq (v 7) (.lit 4096)),true)] [] [] 18 [] [6] [.code .ret,.inBlock 0,.code (q31 [1,1])] [i64 (.lit 34)] []:=⟨fun st=>by kernel_rfl,fun st=>by kernel_rfl,by kernel_rfl,of_decide_eq_true (by kernel_rfl)⟩
theorem so2n:Pc 31 87 [.code (q31 [])] [(0,.agg [ss 1,nilA,i64 (v 4)]),(1,i64 (v 7)),(2,.opq 2)] [((.cmp .geq (v 7) (.lit 4096)),false)] [] [] 18 [100] [1,2,3,20] [.inRegion (opsOf (q31 [1,0,0,1,1,0])) [2,3,4,5,6,7,8,9,10],.code (q31 [1,0,0,1,1,1]),.inBlock 0,.code (q31 [1,1])] [i64 (v 7),.opq 2,ptr0 100,ss 1] [(100,.cells [ss 1,nilA,i64 (v 4)] 51)]:=⟨fun st=>by kernel_rfl,fun st=>by kernel_rfl,by kernel_rfl,of_decide_eq_true (by kernel_rfl)⟩
theorem so2:Pc 31 87 [.code (q31 [])] [(0,.agg [ss 1,.slice (some ⟨(.dyn 50),(v 53)⟩) (v 51) (v 52),i64 (v 4)]),(1,i64 (v 7)),(2,.opq 2)] [((.cmp .geq (v 7) (.lit 4096)),false)] [] [] 18 [100] [1,2,3,20] [.inRegion (opsOf (q31 [1,0,0,1,1,0])) [2,3,4,5,6,7,8,9,10],.code (q31 [1,0,0,1,1,1]),.inBlock 0,.code (q31 [1,1])] [i64 (v 7),.opq 2,ptr0 100,ss 1] [(100,.cells [ss 1,.slice (some ⟨(.dyn 50),(v 53)⟩) (v 51) (v 52),i64 (v 4)] 51)]:=⟨fun st=>by kernel_rfl,fun st=>by kernel_rfl,by kernel_rfl,of_decide_eq_true (by kernel_rfl)⟩
theorem so3:OpC 87 (opsOf (q31 [1,0,0,1,1,0])) 2 [(20,.opq 20)] 44 [.opq 20] 21:=⟨fun st=>by kernel_rfl,fun st=>by kernel_rfl,fun st=>by kernel_rfl,by kernel_rfl,by decide,rfl⟩
theorem so4:Pc 31 87 [.inRegion (opsOf (q31 [1,0,0,1,1,0])) [3,4,5,6,7,8,9,10],.code (q31 [1,0,0,1,1,1]),.inBlock 0,.code (q31 [1,1])] [(1,i64 (v 7)),(2,.opq 2),(3,ptr0 64),(21,FB)] [] [(⟨(.dyn 64),(.lit 0)⟩,ss 1),(⟨(.dyn 64),(.lit 1)⟩,.opq 8),(⟨(.dyn 64),(.lit 2)⟩,i64 (v 4))] [] 14 [] [6] [.code .ret,.inBlock 0,.code (q31 [1,1])] [i64 (.lit 43)] []:=⟨fun st=>by kernel_rfl,fun st=>by kernel_rfl,by kernel_rfl,of_decide_eq_true (by kernel_rfl)⟩
theorem so5:Pc 31 87 [.inRegion (opsOf (q31 [1,0,0,1,1,0])) [3,4,5,6,7,8,9,10],.code (q31 [1,0,0,1,1,1]),.inBlock 0,.code (q31 [1,1])] [(1,i64 (v 7)),(2,.opq 2),(3,ptr0 64),(21,TB)] [] [(⟨(.dyn 64),(.lit 0)⟩,ss 1),(⟨(.dyn 64),(.lit 1)⟩,.opq 8),(⟨(.dyn 64),(.lit 2)⟩,i64 (v 4))] [] 5 [] [1,2,3,23,24,26] [.inRegion (opsOf (q31 [1,0,0,1,1,0])) [8,9,10],.code (q31 [1,0,0,1,1,1]),.inBlock 0,.code (q31 [1,1])] [i64 (v 7),.opq 2,ptr0 64,FB,.opq 2,ss 1] []:=⟨fun st=>by kernel_rfl,fun st=>by kernel_rfl,by kernel_rfl,of_decide_eq_true (by kernel_rfl)⟩
theorem so6:OpW 87 (opsOf (q31 [1,0,0,1,1,0])) 8 [(23,FB)] (.lookup 76 (.tmp 24) (.tmp 26) false) 4 (some 27):=⟨fun st=>by kernel_rfl,fun st=>by kernel_rfl,by kernel_rfl⟩
theorem so7:Pc 31 87 [.inRegion (opsOf (q31 [1,0,0,1,1,0])) [9,10],.code (q31 [1,0,0,1,1,1]),.inBlock 0,.code (q31 [1,1])] [(1,i64 (v 7)),(2,.opq 2),(3,ptr0 64),(23,FB),(27,TB)] [] [(⟨(.dyn 64),(.lit 0)⟩,ss 1),(⟨(.dyn 64),(.lit 1)⟩,.opq 8),(⟨(.dyn 64),(.lit 2)⟩,i64 (v 4))] [] 8 [] [6] [.code .ret,.inBlock 0,.code (q31 [1,1])] [i64 (.lit 43)] []:=⟨fun st=>by kernel_rfl,fun st=>by kernel_rfl,by kernel_rfl,of_decide_eq_true (by kernel_rfl)⟩
theorem so8:Pc 31 87 [.inRegion (opsOf (q31 [1,0,0,1,1,0])) [9,10],.code (q31 [1,0,0,1,1,1]),.inBlock 0,.code (q31 [1,1])] [(1,i64 (v 7)),(2,.opq 2),(3,ptr0 64),(23,FB),(27,FB)] [] [(⟨(.dyn 64),(.lit 0)⟩,ss 1),(⟨(.dyn 64),(.lit 1)⟩,.opq 8),(⟨(.dyn 64),(.lit 2)⟩,i64 (v 4))] [] 10 [] [1,3,31] [.inRegion (opsOf (q31 [1,1,0])) [2,3,4,5,6,7],.code (q31 [1,1,1])] [i64 (v 7),ptr0 64,.opq 8] []:=⟨fun st=>by kernel_rfl,fun st=>by kernel_rfl,by kernel_rfl,of_decide_eq_true (by kernel_rfl)⟩
theorem so9:OpC 87 (opsOf (q31 [1,1,0])) 2 [(31,.opq 31)] 45 [.opq 31,TB] 32:=⟨fun st=>by kernel_rfl,fun st=>by kernel_rfl,fun st=>by kernel_rfl,by kernel_rfl,by decide,rfl⟩
theorem soA:Pc 31 87 [.inRegion (opsOf (q31 [1,1,0])) [3,4,5,6,7],.code (q31 [1,1,1])] [(1,i64 (v 7)),(3,ptr0 64),(32,.tuple [nilP,nilA])] [] [(⟨(.dyn 64),(.lit 0)⟩,ss 1),(⟨(.dyn 64),(.lit 1)⟩,.opq 8),(⟨(.dyn 64),(.lit 2)⟩,i64 (v 4))] [] 27 [] [6] [.code .ret,.code (q31 [1,1,1,1])] [i64 (.lit 1)] []:=⟨fun st=>by kernel_rfl,fun st=>by kernel_rfl,by kernel_rfl,of_decide_eq_true (by kernel_rfl)⟩
theorem soB:Pc 31 87 [.inRegion (opsOf (q31 [1,1,0])) [3,4,5,6,7],.code (q31 [1,1,1])] [(1,i64 (v 7)),(3,ptr0 64),(32,.tuple [ptr0 62,.slice (some ⟨(.dyn 55),(v 56)⟩) (v 57) (v 58)])] [((.cmp .gtr (.tn (v 57)) (.lit 0)),true)] [(⟨(.dyn 64),(.lit 0)⟩,ss 1),(⟨(.dyn 64),(.lit 1)⟩,.opq 8),(⟨(.dyn 64),(.lit 2)⟩,i64 (v 4))] [] 27 [] [6] [.code .ret,.code (q31 [1,1,1,1])] [i64 (.lit 1)] []:=⟨fun st=>by kernel_rfl,fun st=>by kernel_rfl,by kernel_rfl,of_decide_eq_true (by kernel_rfl)⟩
theorem soCx:Pc 31 87 [.inRegion (opsOf (q31 [1,1,0])) [3,4,5,6,7],.code (q31 [1,1,1])] [(1,i64 (v 7)),(3,ptr0 64),(32,.tuple [ptr0 62,.slice (some ⟨(.dyn 55),(v 56)⟩) (v 57) (v 58)])] [((.cmp .gtr (.tn (v 57)) (.lit 0)),false),((.cmp .lss (v 4) (.lit 0)),true)] [(⟨(.dyn 64),(.lit 0)⟩,ss 1),(⟨(.dyn 64),(.lit 1)⟩,.opq 8),(⟨(.dyn 64),(.lit 2)⟩,i64 (v 4))] [] 27 [] [6] [.code .ret,.code (q31 [1,1,1,1])] [i64 (.lit 1)] []:=⟨fun st=>by kernel_rfl,fun st=>by kernel_rfl,by kernel_rfl,of_decide_eq_true (by kernel_rfl)⟩
theorem soCy:Pc 31 87 [.inRegion (opsOf (q31 [1,1,0])) [3,4,5,6,7],.code (q31 [1,1,1])] [(1,i64 (v 7)),(3,ptr0 64),(32,.tuple [ptr0 62,.slice (some ⟨(.dyn 55),(v 56)⟩) (v 57) (v 58)])] [((.cmp .gtr (.tn (v 57)) (.lit 0)),false),((.cmp .lss (v 4) (.lit 0)),false)] [(⟨(.dyn 64),(.lit 0)⟩,ss 1),(⟨(.dyn 64),(.lit 1)⟩,.slice (some ⟨(.dyn 50),(v 53)⟩) (v 51) (v 52)),(⟨(.dyn 64),(.lit 2)⟩,i64 (v 4))] [] 34 [] [1,3,7,48,49,50] [.code (q31 [1,1,1,1,0,1,0,0]),.inLoop (q31 [1,1,1,1,0,1,0,0]),.inBlock 1,.code (q31 [1,1,1,1,1])] [i64 (v 7),ptr0 64,ptr0 62,.slice (some ⟨(.dyn 50),(v 53)⟩) (v 51) (v 52),i64 (.tn (v 51)),i64 (.lit 0)] []:=⟨fun st=>by kernel_rfl,fun st=>by kernel_rfl,by kernel_rfl,of_decide_eq_true (by kernel_rfl)⟩
theorem soE:Pc 31 87 [.code (q31 [1,1,1,1,0,1,0,0]),.inLoop (q31 [1,1,1,1,0,1,0,0]),.inBlock 1,.code (q31 [1,1,1,1,1])] [(1,i64 (v 7)),(3,ptr0 64),(7,ptr0 62),(48,.slice (some ⟨(.dyn 50),(v 53)⟩) (v 51) (v 52)),(49,i64 (.tn (v 51))),(50,i64 (v 10))] [((.cmp .lss (v 10) (.tn (v 51))),true),((.cmp .leq (.lit 0) (v 10)),true),((.cmp .lss (v 10) (.lit 0)),false),((.cmp .geq (v 10) (.tn (v 51))),false),((.cmp .gtr (v 13) (.lit 16)),true)] [(⟨(.dyn 50),(.plus (.tn (v 53)) (.times (.tn (v 10)) (.lit 4)))⟩,i8 (v 11)),(⟨(.dyn 50),(.plus (.tn (.plus (.tn (v 53)) (.times (.tn (v 10)) (.lit 4)))) (.lit 1))⟩,i64 (v 12)),(⟨(.dyn 50),(.plus (.tn (.plus (.tn (v 53)) (.times (.tn (v 10)) (.lit 4)))) (.lit 2))⟩,i64 (v 13)),(⟨(.dyn 50),(.plus (.tn (.plus (.tn (v 53)) (.times (.tn (v 10)) (.lit 4)))) (.lit 3))⟩,i64 (v 14))] [] 27 [] [6] [.code .ret,.inBlock 2,.code (q31 [1,1,1,1,0,1,0,0,1,1,1]),.inLoop (q31 [1,1,1,1,0,1,0,0]),.inBlock 1,.code (q31 [1,1,1,1,1])] [i64 (.lit 44)] []:=⟨fun st=>by kernel_rfl,fun st=>by kernel_rfl,by kernel_rfl,of_decide_eq_true (by kernel_rfl)⟩
theorem soF:Pc 31 87 [.code (q31 [1,1,1,1,0,1,0,0]),.inLoop (q31 [1,1,1,1,0,1,0,0]),.inBlock 1,.code (q31 [1,1,1,1,1])] [(1,i64 (v 7)),(3,ptr0 64),(7,ptr0 62),(48,.slice (some ⟨(.dyn 50),(v 53)⟩) (v 51) (v 52)),(49,i64 (.tn (v 51))),(50,i64 (v 10))] [((.cmp .lss (v 10) (.tn (v 51))),true),((.cmp .leq (.lit 0) (v 10)),true),((.cmp .lss (v 10) (.lit 0)),false),((.cmp .geq (v 10) (.tn (v 51))),false),((.cmp .gtr (v 13) (.lit 16)),false)] [(⟨(.dyn 50),(.plus (.tn (v 53)) (.times (.tn (v 10)) (.lit 4)))⟩,i8 (v 11)),(⟨(.dyn 50),(.plus (.tn (.plus (.tn (v 53)) (.times (.tn (v 10)) (.lit 4)))) (.lit 1))⟩,i64 (v 12)),(⟨(.dyn 50),(.plus (.tn (.plus (.tn (v 53)) (.times (.tn (v 10)) (.lit 4)))) (.lit 2))⟩,i64 (v 13)),(⟨(.dyn 50),(.plus (.tn (.plus (.tn (v 53)) (.times (.tn (v 10)) (.lit 4)))) (.lit 3))⟩,i64 (v 14))] [] 30 [] [1,3,7,48,49,50] [.code (q31 [1,1,1,1,0,1,0,0]),.inLoop (q31 [1,1,1,1,0,1,0,0]),.inBlock 1,.code (q31 [1,1,1,1,1])] [i64 (v 7),ptr0 64,ptr0 62,.slice (some ⟨(.dyn 50),(v 53)⟩) (v 51) (v 52),i64 (.tn (v 51)),i64 (.op .add .i64 (v 10) (.lit 1))] []:=⟨fun st=>by kernel_rfl,fun st=>by kernel_rfl,by kernel_rfl,of_decide_eq_true (by kernel_rfl)⟩
theorem soG:Pc 31 87 [.code (q31 [1,1,1,1,0,1,0,0]),.inLoop (q31 [1,1,1,1,0,1,0,0]),.inBlock 1,.code (q31 [1,1,1,1,1])] [(1,i64 (v 7)),(3,ptr0 64),(7,ptr0 62),(48,.slice (some ⟨(.dyn 50),(v 53)⟩) (v 51) (v 52)),(49,i64 (.tn (v 51))),(50,i64 (v 10))] [((.cmp .lss (v 10) (.tn (v 51))),false)] [(⟨(.dyn 64),(.lit 0)⟩,ss 1),(⟨(.dyn 64),(.lit 1)⟩,.slice (some ⟨(.dyn 50),(v 53)⟩) (v 51) (v 52)),(⟨(.dyn 64),(.lit 2)⟩,i64 (v 4))] [] 17 [] [1,3,7,59,60,61] [.code (q31 [1,1,1,1,1,0,1,0,0]),.inLoop (q31 [1,1,1,1,1,0,1,0,0]),.inBlock 3,.code (q31 [1,1,1,1,1,1])] [i64 (v 7),ptr0 64,ptr0 62,.slice (some ⟨(.dyn 50),(v 53)⟩) (v 51) (v 52),i64 (.tn (v 51)),i64 (.lit 0)] []:=⟨fun st=>by kernel_rfl,fun st=>by kernel_rfl,by kernel_rfl,of_decide_eq_true (by kernel_rfl)⟩
theorem soH:Pc 31 87 [.code (q31 [1,1,1,1,1,0,1,0,0]),.inLoop (q31 [1,1,1,1,1,0,1,0,0]),.inBlock 3,.code (q31 [1,1,1,1,1,1])] [(1,i64 (v 7)),(3,ptr0 64),(7,ptr0 62),(59,.slice (some ⟨(.dyn 50),(v 53)⟩) (v 51) (v 52)),(60,i64 (.tn (v 51))),(61,i64 (v 10))] [((.cmp .lss (v 10) (.tn (v 51))),true),((.cmp .leq (.lit 0) (v 10)),true),((.cmp .lss (v 10) (.lit 0)),false),((.cmp .geq (v 10) (.tn (v 51))),false),((.cmp .eql (v 11) (.lit 2)),false)] [(⟨(.dyn 50),(.plus (.tn (v 53)) (.times (.tn (v 10)) (.lit 4)))⟩,i8 (v 11)),(⟨(.dyn 50),(.plus (.tn (.plus (.tn (v 53)) (.times (.tn (v 10)) (.lit 4)))) (.lit 1))⟩,i64 (v 12)),(⟨(.dyn 50),(.plus (.tn (.plus (.tn (v 53)) (.times (.tn (v 10)) (.lit 4)))) (.lit 2))⟩,i64 (v 13)),(⟨(.dyn 50),(.plus (.tn (.plus (.tn (v 53)) (.times (.tn (v 10)) (.lit 4)))) (.lit 3))⟩,i64 (v 14))] [] 41 [] [1,3,7,59,60,61] [.code (q31 [1,1,1,1,1,0,1,0,0]),.inLoop (q31 [1,1,1,1,1,0,1,0,0]),.inBlock 3,.code (q31 [1,1,1,1,1,1])] [i64 (v 7),ptr0 64,ptr0 62,.slice (some ⟨(.dyn 50),(v 53)⟩) (v 51) (v 52),i64 (.tn (v 51)),i64 (.op .add .i64 (v 10) (.lit 1))] []:=⟨fun st=>by kernel_rfl,fun st=>by kernel_rfl,by kernel_rfl,of_decide_eq_true (by kernel_rfl)⟩
theorem soI:Pc 31 87 [.code (q31 [1,1,1,1,1,0,1,0,0]),.inLoop (q31 [1,1,1,1,1,0,1,0,0]),.inBlock 3,.code (q31 [1,1,1,1,1,1])] [(1,i64 (v 7)),(3,ptr0 64),(7,ptr0 62),(59,.slice (some ⟨(.dyn 50),(v 53)⟩) (v 51) (v 52)),(60,i64 (.tn (v 51))),(61,i64 (v 10))] [((.cmp .lss (v 10) (.tn (v 51))),true),((.cmp .leq (.lit 0) (v 10)),true),((.cmp .lss (v 10) (.lit 0)),false),((.cmp .geq (v 10) (.tn (v 51))),false),((.cmp .eql (v 11) (.lit 2)),true),((.cmp .lss (v 12) (.lit 0)),true)] [(⟨(.dyn 50),(.plus (.tn (v 53)) (.times (.tn (v 10)) (.lit 4)))⟩,i8 (v 11)),(⟨(.dyn 50),(.plus (.tn (.plus (.tn (v 53)) (.times (.tn (v 10)) (.lit 4)))) (.lit 1))⟩,i64 (v 12)),(⟨(.dyn 50),(.plus (.tn (.plus (.tn (v 53)) (.times (.tn (v 10)) (.lit 4)))) (.lit 2))⟩,i64 (v 13)),(⟨(.dyn 50),(.plus (.tn (.plus (.tn (v 53)) (.times (.tn (v 10)) (.lit 4)))) (.lit 3))⟩,i64 (v 14))] [] 38 [] [6] [.code .ret,.inBlock 4,.code (q31 [1,1,1,1,1,0,1,0,0,1,1,1]),.inLoop (q31 [1,1,1,1,1,0,1,0,0]),.inBlock 3,.code (q31 [1,1,1,1,1,1])] [i64 (.lit 43)] []:=⟨fun st=>by kernel_rfl,fun st=>by kernel_rfl,by kernel_rfl,of_decide_eq_true (by kernel_rfl)⟩
theorem soJ:Pc 31 87 [.code (q31 [1,1,1,1,1,0,1,0,0]),.inLoop (q31 [1,1,1,1,1,0,1,0,0]),.inBlock 3,.code (q31 [1,1,1,1,1,1])] [(1,i64 (v 7)),(3,ptr0 64),(7,ptr0 62),(59,.slice (some ⟨(.dyn 50),(v 53)⟩) (v 51) (v 52)),(60,i64 (.tn (v 51))),(61,i64 (v 10))] [((.cmp .lss (v 10) (.tn (v 51))),true),((.cmp .leq (.lit 0) (v 10)),true),((.cmp .lss (v 10) (.lit 0)),false),((.cmp .geq (v 10) (.tn (v 51))),false),((.cmp .eql (v 11) (.lit 2)),true),((.cmp .lss (v 12) (.lit 0)),false),((.cmp .geq (v 12) (v 7)),true)] [(⟨(.dyn 50),(.plus (.tn (v 53)) (.times (.tn (v 10)) (.lit 4)))⟩,i8 (v 11)),(⟨(.dyn 50),(.plus (.tn (.plus (.tn (v 53)) (.times (.tn (v 10)) (.lit 4)))) (.lit 1))⟩,i64 (v 12)),(⟨(.dyn 50),(.plus (.tn (.plus (.tn (v 53)) (.times (.tn (v 10)) (.lit 4)))) (.lit 2))⟩,i64 (v 13)),(⟨(.dyn 50),(.plus (.tn (.plus (.tn (v 53)) (.times (.tn (v 10)) (.lit 4)))) (.lit 3))⟩,i64 (v 14))] [] 38 [] [6] [.code .ret,.inBlock 4,.code (q31 [1,1,1,1,1,0,1,0,0,1,1,1]),.inLoop (q31 [1,1,1,1,1,0,1,0,0]),.inBlock 3,.code (q31 [1,1,1,1,1,1])] [i64 (.lit 43)] []:=⟨fun st=>by kernel_rfl,fun st=>by kernel_rfl,by kernel_rfl,of_decide_eq_true (by kernel_rfl)⟩
theorem soK:Pc 31 87 [.code (q31 [1,1,1,1,1,0,1,0,0]),.inLoop (q31 [1,1,1,1,1,0,1,0,0]),.inBlock 3,.code (q31 [1,1,1,1,1,1])] [(1,i64 (v 7)),(3,ptr0 64),(7,ptr0 62),(59,.slice (some ⟨(.dyn 50),(v 53)⟩) (v 51) (v 52)),(60,i64 (.tn (v 51))),(61,i64 (v 10))] [((.cmp .lss (v 10) (.tn (v 51))),true),((.cmp .leq (.lit 0) (v 10)),true),((.cmp .lss (v 10) (.lit 0)),false),((.cmp .geq (v 10) (.tn (v 51))),false),((.cmp .eql (v 11) (.lit 2)),true),((.cmp .lss (v 12) (.lit 0)),false),((.cmp .geq (v 12) (v 7)),false)] [(⟨(.dyn 50),(.plus (.tn (v 53)) (.times (.tn (v 10)) (.lit 4)))⟩,i8 (v 11)),(⟨(.dyn 50),(.plus (.tn (.plus (.tn (v 53)) (.times (.tn (v 10)) (.lit 4)))) (.lit 1))⟩,i64 (v 12)),(⟨(.dyn 50),(.plus (.tn (.plus (.tn (v 53)) (.times (.tn (v 10)) (.lit 4)))) (.lit 2))⟩,i64 (v 13)),(⟨(.dyn 50),(.plus (.tn (.plus (.tn (v 53)) (.times (.tn (v 10)) (.lit 4)))) (.lit 3))⟩,i64 (v 14))] [] 41 [] [1,3,7,59,60,61] [.code (q31 [1,1,1,1,1,0,1,0,0]),.inLoop (q31 [1,1,1,1,1,0,1,0,0]),.inBlock 3,.code (q31 [1,1,1,1,1,1])] [i64 (v 7),ptr0 64,ptr0 62,.slice (some ⟨(.dyn 50),(v 53)⟩) (v 51) (v 52),i64 (.tn (v 51)),i64 (.op .add .i64 (v 10) (.lit 1))] []:=⟨fun st=>by kernel_rfl,fun st=>by kernel_rfl,by kernel_rfl,of_decide_eq_true (by kernel_rfl)⟩
theorem soL:Pc 31 87 [.code (q31 [1,1,1,1,1,0,1,0,0]),.inLoop (q31 [1,1,1,1,1,0,1,0,0]),.inBlock 3,.code (q31 [1,1,1,1,1,1])] [(1,i64 (v 7)),(3,ptr0 64),(7,ptr0 62),(59,.slice (some ⟨(.dyn 50),(v 53)⟩) (v 51) (v 52)),(60,i64 (.tn (v 51))),(61,i64 (v 10))] [((.cmp .lss (v 10) (.tn (v 51))),false)] [] [] 11 [] [81] [.inRegion (opsOf (q31 [1,1,1,1,1,1,0,0])) [1,2,3,4,5,6],.code (q31 [1,1,1,1,1,1,0,1]),.code (q31 [1,1,1,1,1,1,1])] [ptr0 62] []:=⟨fun st=>by kernel_rfl,fun st=>by kernel_rfl,by kernel_rfl,of_decide_eq_true (by kernel_rfl)⟩
theorem soM:OpC 87 (opsOf (q31 [1,1,1,1,1,1,0,0])) 1 [(81,.opq 81)] 46 [.opq 81,i64 (.lit 0)] 82:=⟨fun st=>by kernel_rfl,fun st=>by kernel_rfl,fun st=>by kernel_rfl,by kernel_rfl,by decide,rfl⟩
theorem soNtrue:Pc 31 87 [.inRegion (opsOf (q31 [1,1,1,1,1,1,0,0])) [2,3,4,5,6],.code (q31 [1,1,1,1,1,1,0,1]),.code (q31 [1,1,1,1,1,1,1])] [(82,.tuple [i64 (v 5),i64 (v 6)])] [((.cmp .gtr (v 5) (.lit 64)),true)] [] [] 16 [] [6] [.code .ret,.code (q31 [1,1,1,1,1,1,1])] [i64 (.lit 42)] []:=⟨fun st=>by kernel_rfl,fun st=>by kernel_rfl,by kernel_rfl,of_decide_eq_true (by kernel_rfl)⟩
theorem soNfalse:Pc 31 87 [.inRegion (opsOf (q31 [1,1,1,1,1,1,0,0])) [2,3,4,5,6],.code (q31 [1,1,1,1,1,1,0,1]),.code (q31 [1,1,1,1,1,1,1])] [(82,.tuple [i64 (v 5),i64 (v 6)])] [((.cmp .gtr (v 5) (.lit 64)),false)] [] [] 17 [] [6] [.code .ret] [i64 (.lit 0)] []:=⟨fun st=>by kernel_rfl,fun st=>by kernel_rfl,by kernel_rfl,of_decide_eq_true (by kernel_rfl)⟩
theorem soDx:Pc 31 87 [.inRegion (opsOf (q31 [1,1,0])) [3,4,5,6,7],.code (q31 [1,1,1])] [(1,i64 (v 7)),(3,ptr0 64),(32,.tuple [ptr0 62,nilA])] [((.cmp .lss (v 4) (.lit 0)),true)] [(⟨(.dyn 64),(.lit 0)⟩,ss 1),(⟨(.dyn 64),(.lit 1)⟩,.opq 8),(⟨(.dyn 64),(.lit 2)⟩,i64 (v 4))] [] 27 [] [6] [.code .ret,.code (q31 [1,1,1,1])] [i64 (.lit 1)] []:=⟨fun st=>by kernel_rfl,fun st=>by kernel_rfl,by kernel_rfl,of_decide_eq_true (by kernel_rfl)⟩
theorem soDy:Pc 31 87 [.inRegion (opsOf (q31 [1,1,0])) [3,4,5,6,7],.code (q31 [1,1,1])] [(1,i64 (v 7)),(3,ptr0 64),(32,.tuple [ptr0 62,nilA])] [((.cmp .lss (v 4) (.lit 0)),false)] [(⟨(.dyn 64),(.lit 0)⟩,ss 1),(⟨(.dyn 64),(.lit 1)⟩,.slice (some ⟨(.dyn 50),(v 53)⟩) (v 51) (v 52)),(⟨(.dyn 64),(.lit 2)⟩,i64 (v 4))] [] 34 [] [1,3,7,48,49,50] [.code (q31 [1,1,1,1,0,1,0,0]),.inLoop (q31 [1,1,1,1,0,1,0,0]),.inBlock 1,.code (q31 [1,1,1,1,1])] [i64 (v 7),ptr0 64,ptr0 62,.slice (some ⟨(.dyn 50),(v 53)⟩) (v 51) (v 52),i64 (.tn (v 51)),i64 (.lit 0)] []:=⟨fun st=>by kernel_rfl,fun st=>by kernel_rfl,by kernel_rfl,of_decide_eq_true (by kernel_rfl)⟩
theorem kidsWith_flat{g:List Nd->Option (T×List Nd)}{names:Bool}(hg:∀l t r,g l=some (t,r)->l=flat t++r):∀(k:Nat) (l:List Nd) (ts:List T) (r:List Nd),kidsWith g names k l=some (ts,r)->l=flatL ts++r
 |0,l,ts,r,h=>by
  cases h
  rfl
 |k+1,l,ts,r,h=>by
  unfold kidsWith at h
  split at h
  ·cases h
  ·rename_i t r' e
   split at h
   ·cases h
   ·split at h
    ·cases h
    ·rename_i ts' r'' e2
     cases h
     rw[hg _ _ _ e,kidsWith_flat hg k _ _ _ e2,flatL,List.append_assoc]
theorem grownF_flat:∀(f:Nat) (l:List Nd) (root:Bool) (t:T) (r:List Nd),grownF f l root=some (t,r)->l=flat t++r
 |0,l,root,t,r,h=>by cases h
 |f+1,[],root,t,r,h=>by cases h
 |f+1,n::l,root,t,r,h=>by
  unfold grownF at h
  split at h
  ·cases h
  ·split at h
   ·cases h
   ·split at h
    ·cases h
    ·rename_i ts r' e
     cases h
     have:=kidsWith_flat (fun l t r h=>grownF_flat f l false t r h) _ _ _ _ e
     rw[flat,this]
     simp
noncomputable def slZ(z:Bool)(b o n c:Nat):AV:=Bool.rec (.slice (some ⟨.dyn b,v o⟩) (v n) (v c)) nilA z
noncomputable def lnZ(z:Bool)(n:Nat):IE:=Bool.rec (.tn (v n)) (.lit 0) z
def hdV(z:Bool)(A o n c:Nat):Value:=match z with
 |false=>slV A o n c
 |true=>nilV
structure LetD where
 name:ByteArray
 tree:List Nd
 at':Int
def letV(x:LetD)(s:Value):Value:=.agg #[.string x.name,s,iV x.at']
def soundF(x:LetD)(i:Nat)(names:List (ByteArray×Bool)):Int:=
 if(i:Int)≥4096 then 34
 else if nameOk x.name=false∨(findT x.name names).getD false=true then 43
 else match grownF (x.tree.length+1) x.tree true with
  |none=>1
  |some (t,rest)=>
   if 0<rest.length∨x.at'<0 then 1
   else if x.tree.any (fun n=>decide (n.kids>16))then 44
   else if x.tree.any (fun n=>decide (n.op=2)&&(decide (n.n<0)||decide (n.n≥i)))then 43
   else if(deepF t 0).1>64 then 42 else 0
section
variable {w w0:World}{cs:List Frame}{fr:Frame}
theorem so_fin{k:List Item}{n:Int}(fw:Fresh w0 w)(hf:FA 31 87 (.code .ret::k) [] .normal [(6,iV n)] fr):Goes (G fr cs) w fun g' w'=>∃fr',g'=G fr' cs∧Fresh w0 w'∧Leav 31 fr' w' (iV n):=by
 refine(leave1 ret31 hf rfl).mono fun g6 w6 hd6=>?_
 obtain⟨fr6,rfl,rfl,hL⟩:=hd6
 exact⟨fr6,rfl,fw,hL⟩
noncomputable abbrev ndMem:List (AA×AV):=[(⟨(.dyn 50),(.plus (.tn (v 53)) (.times (.tn (v 10)) (.lit 4)))⟩,i8 (v 11)),(⟨(.dyn 50),(.plus (.tn (.plus (.tn (v 53)) (.times (.tn (v 10)) (.lit 4)))) (.lit 1))⟩,i64 (v 12)),(⟨(.dyn 50),(.plus (.tn (.plus (.tn (v 53)) (.times (.tn (v 10)) (.lit 4)))) (.lit 2))⟩,i64 (v 13)),(⟨(.dyn 50),(.plus (.tn (.plus (.tn (v 53)) (.times (.tn (v 10)) (.lit 4)))) (.lit 3))⟩,i64 (v 14))]
noncomputable abbrev SoH2:List Item:=[.code (q31 [1,1,1,1,1,0,1,0,0]),.inLoop (q31 [1,1,1,1,1,0,1,0,0]),.inBlock 3,.code (q31 [1,1,1,1,1,1])]
noncomputable abbrev SoH1:List Item:=[.code (q31 [1,1,1,1,0,1,0,0]),.inLoop (q31 [1,1,1,1,0,1,0,0]),.inBlock 1,.code (q31 [1,1,1,1,1])]
theorem so_two{x:LetD}{A o c X p idx:Nat}{t:T}{U:Nat->Prop}{rest:List Nd}(hel:∀i n,x.tree[i]?=some n->NdAt w0 A (o+i*4) n)(hl:x.tree.length≤1000000)(ht:TreeAt w0 U p t)(hfl:x.tree=flat t++rest):
  ∀(m j:Nat) {w:World} {cs:List Frame} {fr:Frame},j+m=x.tree.length->Fresh w0 w->FA 31 87 SoH2 [] .normal [(1,iV idx),(3,ptrV X),(7,ptrV p),(59,slV A o x.tree.length c),(60,iV x.tree.length),(61,iV j)] fr->
  Goes (G fr cs) w fun g' w'=>∃fr',g'=G fr' cs∧Fresh w0 w'∧Leav 31 fr' w' (iV (if(x.tree.drop j).any (fun n=>decide (n.op=2)&&(decide (n.n<0)||decide (n.n≥idx)))then 43 else if(deepF t 0).1>64 then 42 else 0))
 |0,j,w,cs,fr,hj,fw,hf=>by
  have ht':=ht.keep fw
  refine(soL.go (mkE [(7,idx),(51,x.tree.length),(52,c),(53,o),(10,j)] [(50,A),(64,X),(62,p)] []) hf rfl ⟨decide_eq_false (by show ¬((j:Int)<((x.tree.length:Nat):Int));omega),trivial⟩ trivial).trans fun g1 w1 hd=>?_
  obtain⟨I,B,fr1,rfl,f1,F1,_⟩:=hd
  refine(soM.go (mkE [] [] [(81,ptrV p)]) (Q:=fun v w'=>v=.tuple #[iV (deepF t 0).1,iV (deepF t 0).2]) F1 rfl fun w' f2=>deep_all t (ht'.keep (f1.trans f2)) (by
   have:=congrArg List.length hfl
   rw[List.length_append]at this
   omega)).trans fun g2 w2 hd2=>?_
  obtain⟨fr2,vv,rfl,f2,rfl,F2⟩:=hd2
  rw[List.drop_of_length_le (by omega)]
  by_cases h:(deepF t 0).1>64
  ·refine(soNtrue.go (mkE [(5,(deepF t 0).1),(6,(deepF t 0).2)] [] []) F2 rfl ⟨decide_eq_true h,trivial⟩ trivial).trans fun g3 w3 hd3=>?_
   obtain⟨I,B,fr3,rfl,f3,F3,_⟩:=hd3
   simp only[List.any_nil,Bool.false_eq_true,if_false,if_pos h]
   exact so_fin (fw.trans (f1.trans (f2.trans f3))) F3
  ·refine(soNfalse.go (mkE [(5,(deepF t 0).1),(6,(deepF t 0).2)] [] []) F2 rfl ⟨decide_eq_false h,trivial⟩ trivial).trans fun g3 w3 hd3=>?_
   obtain⟨I,B,fr3,rfl,f3,F3,_⟩:=hd3
   simp only[List.any_nil,Bool.false_eq_true,if_false,if_neg h]
   exact so_fin (fw.trans (f1.trans (f2.trans f3))) F3
 |m+1,j,w,cs,fr,hj,fw,hf=>by
  have hlt:j<x.tree.length:=by omega
  obtain⟨n,hn⟩:∃n,x.tree[j]?=some n:=⟨_,List.getElem?_eq_getElem hlt⟩
  have hnd:=(hel j n hn).keep fw
  have hdrop:x.tree.drop j=n::x.tree.drop (j+1):=by
   rw[List.drop_eq_getElem_cons hlt]
   congr 1
   exact Option.some.inj ((List.getElem?_eq_getElem hlt).symm.trans hn)
  obtain⟨ρ,hρ⟩:∃ρ:Env,ρ=mkE [(7,idx),(51,x.tree.length),(52,c),(53,o),(10,j),(11,n.op),(12,n.n),(13,n.kids),(14,n.at')] [(50,A),(64,X),(62,p)] []:=⟨_,rfl⟩
  have mm:AllM ρ w ndMem:=by
   rw[hρ]
   exact⟨hnd.c0,hnd.c1,hnd.c2,hnd.c3,trivial⟩
  have bb:=ltB_ok (ρ:=ρ) (i:=10) (n:=51) (I:=j) (N:=x.tree.length) (by rw[hρ];rfl) (by rw[hρ];rfl) hlt
  rw[hdrop,List.any_cons]
  have next:∀{w1:World} {fr1:Frame},(decide (n.op=2)&&(decide (n.n<0)||decide (n.n≥idx)))=false->Fresh w w1->FA 31 87 SoH2 [] .normal [(1,iV idx),(3,ptrV X),(7,ptrV p),(59,slV A o x.tree.length c),(60,iV x.tree.length),(61,iV (iop .add .i64 j 1))] fr1->Goes (G fr1 cs) w1 fun g' w'=>∃fr',g'=G fr' cs∧Fresh w0 w'∧Leav 31 fr' w' (iV (if(decide (n.op=2)&&(decide (n.n<0)||decide (n.n≥idx))||(x.tree.drop (j+1)).any (fun n=>decide (n.op=2)&&(decide (n.n<0)||decide (n.n≥idx))))then 43 else if(deepF t 0).1>64 then 42 else 0)):=fun{w1 fr1} he f1 F1=>by
   rw[he,Bool.false_or]
   rw[inc (by omega)]at F1
   exact so_two hel hl ht hfl m (j+1) (by omega) (fw.trans f1) F1
  have bad:∀{w1:World} {fr1:Frame} {k:List Item},(decide (n.op=2)&&(decide (n.n<0)||decide (n.n≥idx)))=true->Fresh w w1->FA 31 87 (.code .ret::k) [] .normal [(6,iV 43)] fr1->Goes (G fr1 cs) w1 fun g' w'=>∃fr',g'=G fr' cs∧Fresh w0 w'∧Leav 31 fr' w' (iV (if(decide (n.op=2)&&(decide (n.n<0)||decide (n.n≥idx))||(x.tree.drop (j+1)).any (fun n=>decide (n.op=2)&&(decide (n.n<0)||decide (n.n≥idx))))then 43 else if(deepF t 0).1>64 then 42 else 0)):=fun{w1 fr1 k} he f1 F1=>by
   rw[he,Bool.true_or,if_pos rfl]
   exact so_fin (fw.trans f1) F1
  by_cases h2:n.op=2
  ·by_cases h0:n.n<0
   ·refine(soI.go ρ hf (by rw[hρ];rfl) (AllB.app bb ⟨by rw[hρ];exact decide_eq_true h2,by rw[hρ];exact decide_eq_true h0,trivial⟩) mm).trans fun g1 w1 hd=>?_
    obtain⟨I,B,fr1,rfl,f1,F1,_⟩:=hd
    exact bad (by simp[h2,h0]) f1 F1
   ·by_cases h1:n.n≥idx
    ·refine(soJ.go ρ hf (by rw[hρ];rfl) (AllB.app bb ⟨by rw[hρ];exact decide_eq_true h2,by rw[hρ];exact decide_eq_false h0,by rw[hρ];exact decide_eq_true h1,trivial⟩) mm).trans fun g1 w1 hd=>?_
     obtain⟨I,B,fr1,rfl,f1,F1,_⟩:=hd
     exact bad (by simp[h2,h0];omega) f1 F1
    ·refine(soK.go ρ hf (by rw[hρ];rfl) (AllB.app bb ⟨by rw[hρ];exact decide_eq_true h2,by rw[hρ];exact decide_eq_false h0,by rw[hρ];exact decide_eq_false h1,trivial⟩) mm).trans fun g1 w1 hd=>?_
     obtain⟨I,B,fr1,rfl,f1,F1,_⟩:=hd
     rw[hρ]at F1
     exact next (by simp[h2];omega) f1 F1
  ·refine(soH.go ρ hf (by rw[hρ];rfl) (AllB.app bb ⟨by rw[hρ];exact decide_eq_false h2,trivial⟩) mm).trans fun g1 w1 hd=>?_
   obtain⟨I,B,fr1,rfl,f1,F1,_⟩:=hd
   rw[hρ]at F1
   exact next (by simp[h2]) f1 F1
theorem so_one{x:LetD}{A o c X p idx:Nat}{t:T}{U:Nat->Prop}{rest:List Nd}(hX:w0.cell? ⟨X,0,none⟩=some (.string x.name)∧w0.cell? ⟨X,1,none⟩=some (slV A o x.tree.length c)∧w0.cell? ⟨X,2,none⟩=some (iV x.at'))(hel:∀i n,x.tree[i]?=some n->NdAt w0 A (o+i*4) n)(hl:x.tree.length≤1000000)(ht:TreeAt w0 U p t)(hfl:x.tree=flat t++rest):
  ∀(m j:Nat) {w:World} {cs:List Frame} {fr:Frame},j+m=x.tree.length->Fresh w0 w->FA 31 87 SoH1 [] .normal [(1,iV idx),(3,ptrV X),(7,ptrV p),(48,slV A o x.tree.length c),(49,iV x.tree.length),(50,iV j)] fr->
  Goes (G fr cs) w fun g' w'=>∃fr',g'=G fr' cs∧Fresh w0 w'∧Leav 31 fr' w' (iV (if(x.tree.drop j).any (fun n=>decide (n.kids>16))then 44 else if x.tree.any (fun n=>decide (n.op=2)&&(decide (n.n<0)||decide (n.n≥idx)))then 43 else if(deepF t 0).1>64 then 42 else 0))
 |0,j,w,cs,fr,hj,fw,hf=>by
  refine(soG.go (Go.Proofs.Ytmobbajggkjpgaa.SX.mkS [(7,idx),(51,x.tree.length),(52,c),(53,o),(10,j),(4,x.at')] [(50,A),(64,X),(62,p)] [] [(1,x.name)]) hf rfl ⟨decide_eq_false (by show ¬((j:Int)<((x.tree.length:Nat):Int));omega),trivial⟩ ⟨fw.cell hX.1,fw.cell hX.2.1,fw.cell hX.2.2,trivial⟩).trans fun g1 w1 hd=>?_
  obtain⟨I,B,fr1,rfl,f1,F1,_⟩:=hd
  rw[List.drop_of_length_le (by omega)]
  simp only[List.any_nil,Bool.false_eq_true,if_false]
  exact so_two hel hl ht hfl x.tree.length 0 (Nat.zero_add _) (fw.trans f1) F1
 |m+1,j,w,cs,fr,hj,fw,hf=>by
  have hlt:j<x.tree.length:=by omega
  obtain⟨n,hn⟩:∃n,x.tree[j]?=some n:=⟨_,List.getElem?_eq_getElem hlt⟩
  have hnd:=(hel j n hn).keep fw
  have hdrop:x.tree.drop j=n::x.tree.drop (j+1):=by
   rw[List.drop_eq_getElem_cons hlt]
   congr 1
   exact Option.some.inj ((List.getElem?_eq_getElem hlt).symm.trans hn)
  obtain⟨ρ,hρ⟩:∃ρ:Env,ρ=mkE [(7,idx),(51,x.tree.length),(52,c),(53,o),(10,j),(11,n.op),(12,n.n),(13,n.kids),(14,n.at')] [(50,A),(64,X),(62,p)] []:=⟨_,rfl⟩
  have mm:AllM ρ w ndMem:=by
   rw[hρ]
   exact⟨hnd.c0,hnd.c1,hnd.c2,hnd.c3,trivial⟩
  have bb:=ltB_ok (ρ:=ρ) (i:=10) (n:=51) (I:=j) (N:=x.tree.length) (by rw[hρ];rfl) (by rw[hρ];rfl) hlt
  rw[hdrop,List.any_cons]
  by_cases h:n.kids>16
  ·refine(soE.go ρ hf (by rw[hρ];rfl) (AllB.app bb ⟨by rw[hρ];exact decide_eq_true h,trivial⟩) mm).trans fun g1 w1 hd=>?_
   obtain⟨I,B,fr1,rfl,f1,F1,_⟩:=hd
   rw[decide_eq_true h,Bool.true_or,if_pos rfl]
   exact so_fin (fw.trans f1) F1
  ·refine(soF.go ρ hf (by rw[hρ];rfl) (AllB.app bb ⟨by rw[hρ];exact decide_eq_false h,trivial⟩) mm).trans fun g1 w1 hd=>?_
   obtain⟨I,B,fr1,rfl,f1,F1,_⟩:=hd
   rw[hρ]at F1
   rw[decide_eq_false h,Bool.false_or]
   refine so_one hX hel hl ht hfl m (j+1) (by omega) (fw.trans f1) ?_
   rw[<-inc (by omega)]
   exact F1
theorem sound_all{x:LetD}{s:Value}{idx M:Nat}{names:List (ByteArray×Bool)}(hs:NodesAt w s x.tree)(hl:x.tree.length≤999999)(hM:TextMap w M names):Ans 31 #[letV x s,iV idx,.map (some M)] w fun v w'=>Fresh w w'∧v=iV (soundF x idx names):=by
 refine ans_of fun cs=>?_
 obtain⟨z,A,o,c,hsz,hz,hel⟩:∃(z:Bool) (A o c:Nat),s=(match z with|true=>nilV|false=>slV A o x.tree.length c)∧(z=true->x.tree=[])∧(∀i n,x.tree[i]?=some n->NdAt w A (o+i*4) n):=by
  rcases hs.ex with⟨h1,h2⟩|⟨A,o,c,h1,h2,h3⟩
  ·exact⟨true,0,0,0,h1,fun _=>h2,fun i n hi=>by rw[h2]at hi;cases hi⟩
  ·exact⟨false,A,o,c,h1,(fun h=>by cases h),h3⟩
 have E:=enter3 ent31 rfl (letV x s) (iV idx) (.map (some M))
 have done:∀{w1:World} {fr1:Frame} {k:List Item} {n:Int},Fresh w w1->FA 31 87 (.code .ret::k) [] .normal [(6,iV n)] fr1->soundF x idx names=n->Goes (G fr1 cs) w1 fun g' w'=>∃fr' v,g'=G fr' cs∧Leav 31 fr' w' v∧Fresh w w'∧v=iV (soundF x idx names):=fun f1 F1 he=>by
  refine(so_fin f1 F1).mono fun g2 w2 hd2=>?_
  obtain⟨fr2,rfl,f2,hL⟩:=hd2
  exact⟨fr2,_,rfl,hL,f2,by rw[he]⟩
 obtain⟨ρ,hρ⟩:∃ρ:Env,ρ=Go.Proofs.Ytmobbajggkjpgaa.SX.mkS [(7,idx),(51,x.tree.length),(52,c),(53,o),(4,x.at')] [(50,A)] [(2,.map (some M))] [(1,x.name)]:=⟨_,rfl⟩
 by_cases h4:(idx:Int)≥4096
 ·have he:soundF x idx names=34:=by unfold soundF;rw[if_pos h4]
  cases z with
  |false=>
   refine(so1.go ρ E (by rw[hsz,hρ];rfl) ⟨by rw[hρ];exact decide_eq_true h4,trivial⟩ trivial).trans fun g1 w1 hd=>?_
   obtain⟨I,B,fr1,rfl,f1,F1,_⟩:=hd
   exact done f1 F1 he
  |true=>
   refine(so1n.go ρ E (by rw[hsz,hρ];rfl) ⟨by rw[hρ];exact decide_eq_true h4,trivial⟩ trivial).trans fun g1 w1 hd=>?_
   obtain⟨I,B,fr1,rfl,f1,F1,_⟩:=hd
   exact done f1 F1 he
 have hbox:Goes (G (Frame.enter Try.prog 31 #[letV x s,iV idx,.map (some M)] .normal) cs) w fun g' w'=>∃fr' X,g'=G fr' cs∧Fresh w w'∧(w'.cell? ⟨X,0,none⟩=some (.string x.name)∧w'.cell? ⟨X,1,none⟩=some s∧w'.cell? ⟨X,2,none⟩=some (iV x.at'))∧FA 31 87 (.inRegion (opsOf (q31 [1,0,0,1,1,0])) [2,3,4,5,6,7,8,9,10]::[.code (q31 [1,0,0,1,1,1]),.inBlock 0,.code (q31 [1,1])]) [] .normal [(1,iV idx),(2,.map (some M)),(3,ptrV X),(20,.string x.name)] fr':=by
  cases z with
  |false=>
   refine(so2.go ρ E (by rw[hsz,hρ];rfl) ⟨by rw[hρ];exact decide_eq_false h4,trivial⟩ trivial).mono fun g1 w1 hd=>?_
   obtain⟨I,B,fr1,rfl,f1,F1,bl,_⟩:=hd
   rw[hρ]at F1 bl
   have hX:=bl.1.2
   exact⟨fr1,B 100,rfl,f1,⟨blk_cell hX (i:=0) rfl,by rw[hsz];exact blk_cell hX (i:=1) rfl,blk_cell hX (i:=2) rfl⟩,F1⟩
  |true=>
   refine(so2n.go ρ E (by rw[hsz,hρ];rfl) ⟨by rw[hρ];exact decide_eq_false h4,trivial⟩ trivial).mono fun g1 w1 hd=>?_
   obtain⟨I,B,fr1,rfl,f1,F1,bl,_⟩:=hd
   rw[hρ]at F1 bl
   have hX:=bl.1.2
   exact⟨fr1,B 100,rfl,f1,⟨blk_cell hX (i:=0) rfl,by rw[hsz];exact blk_cell hX (i:=1) rfl,blk_cell hX (i:=2) rfl⟩,F1⟩
 refine hbox.trans fun g1 w1 hd=>?_
 obtain⟨fr1,X,rfl,f1,hX,F1⟩:=hd
 obtain⟨σ,hσ⟩:∃σ:Env,σ=Go.Proofs.Ytmobbajggkjpgaa.SX.mkS [(7,idx),(51,x.tree.length),(52,c),(53,o),(4,x.at')] [(50,A),(64,X)] [(2,.map (some M)),(8,s)] [(1,x.name)]:=⟨_,rfl⟩
 have mo:∀{w':World},Fresh w1 w'->AllM σ w' [(⟨(.dyn 64),(.lit 0)⟩,ss 1),(⟨(.dyn 64),(.lit 1)⟩,.opq 8),(⟨(.dyn 64),(.lit 2)⟩,i64 (v 4))]:=fun f=>by
  rw[hσ]
  exact⟨f.cell hX.1,f.cell hX.2.1,f.cell hX.2.2,trivial⟩
 refine(so3.go (mkE [] [] [(20,.string x.name)]) (Q:=fun v w'=>v=.bool (nameOk x.name)) F1 rfl fun w' f2=>isName_all).trans fun g2 w2 hd2=>?_
 obtain⟨fr2,vv,rfl,f2,rfl,F2⟩:=hd2
 cases hn:nameOk x.name with
 |false=>
  rw[hn]at F2
  refine(so4.go σ F2 (by rw[hσ];rfl) trivial (mo f2)).trans fun g3 w3 hd3=>?_
  obtain⟨I,B,fr3,rfl,f3,F3,_⟩:=hd3
  exact done (n:=43) (f1.trans (f2.trans f3)) F3 (by unfold soundF;rw[if_neg h4,if_pos (.inl hn)])
 |true=>
 rw[hn]at F2
 refine(so5.go σ F2 (by rw[hσ];rfl) trivial (mo f2)).trans fun g3 w3 hd3=>?_
 obtain⟨I,B,fr3,rfl,f3,F3,_⟩:=hd3
 rw[hσ]at F3
 have f13:=f1.trans (f2.trans f3)
 have hM3:TextMap w3 M names:=blk_keep (k:=.map _) hM f13
 refine(so6.go (R:=fun v w'=>v=lookR false (findT x.name names)∧w'=w3) (mkE [] [] []) F3 (by decide) rfl fun tm htm x' e1 e2=>?_).trans fun g4 w4 hd4=>?_
 ·unfold execOp
  simp only[e1,wq_bind]
  rw[htm 24 (.map (some M)) rfl,htm 26 (.string x.name) rfl]
  exact wq_lookText hM3 ⟨_,rfl,rfl,rfl⟩
 obtain⟨fr4,vv,rfl,⟨rfl,rfl⟩,F4⟩:=hd4
 cases hf:(findT x.name names).getD false with
 |true=>
  rw[show lookR false (findT x.name names)=.bool true from by unfold lookR;rw[hf];rfl]at F4
  refine(so7.go σ F4 (by rw[hσ];rfl) trivial (mo (f2.trans f3))).trans fun g5 w5 hd5=>?_
  obtain⟨I,B,fr5,rfl,f5,F5,_⟩:=hd5
  exact done (n:=43) (f13.trans f5) F5 (by unfold soundF;rw[if_neg h4,if_pos (.inr hf)])
 |false=>
 rw[show lookR false (findT x.name names)=.bool false from by unfold lookR;rw[hf];rfl]at F4
 have hnn:¬(nameOk x.name=false∨(findT x.name names).getD false=true):=by rw[hn,hf];simp
 refine(so8.go σ F4 (by rw[hσ];rfl) trivial (mo (f2.trans f3))).trans fun g5 w5 hd5=>?_
 obtain⟨I,B,fr5,rfl,f5,F5,_⟩:=hd5
 rw[hσ]at F5
 have f15:=f13.trans f5
 have hs5:=hs.keep f15
 refine(so9.go (mkE [] [] [(31,s)]) (Q:=fun v w'=>GrOut w5.heap.size s x.tree w' v (grownF (x.tree.length+1) x.tree true)) F5 rfl fun w' f6=>(grown_all (root:=true) (x.tree.length+1) (hs5.keep f6) (by omega) (by omega)).mono fun v w6 O=>⟨O.1,?_⟩).trans fun g6 w6 hd6=>?_
 ·unfold GrOut at O⊢
  cases e:grownF (x.tree.length+1) x.tree true with
  |none=>rw[e]at O;exact O.2
  |some y=>
   rw[e]at O
   obtain⟨_,p,s',h1,h2,h3⟩:=O
   exact⟨p,s',h1,h2.keepBut (Fresh.refl _) fun x u lt=>⟨fun hh=>by omega,Nat.le_trans f6.size u⟩,h3⟩
 obtain⟨fr6,vv,rfl,f6,hO,F6⟩:=hd6
 have f26:=f2.trans (f3.trans (f5.trans f6))
 unfold GrOut at hO
 cases e:grownF (x.tree.length+1) x.tree true with
 |none=>
  rw[e]at hO
  have hO:vv=noneV:=hO
  subst hO
  refine(soA.go σ F6 (by rw[hσ];rfl) trivial (mo f26)).trans fun g7 w7 hd7=>?_
  obtain⟨I,B,fr7,rfl,f7,F7,_⟩:=hd7
  exact done (n:=1) (f15.trans (f6.trans f7)) F7 (by
   unfold soundF
   rw[if_neg h4,if_neg hnn,e])
 |some y=>
 obtain⟨t,rest⟩:=y
 rw[e]at hO
 obtain⟨p,s',rfl,hpt,hrest⟩:=hO
 have hfl:=grownF_flat _ _ _ _ _ e
 have hr6:=hrest w hs
 obtain rfl:z=false:=by
  cases z with
  |false=>rfl
  |true=>
   rw[hz rfl]at e
   cases e
 have hX6:w6.cell? ⟨X,0,none⟩=some (.string x.name)∧w6.cell? ⟨X,1,none⟩=some (slV A o x.tree.length c)∧w6.cell? ⟨X,2,none⟩=some (iV x.at'):=⟨f26.cell hX.1,by rw[<-show s=slV A o x.tree.length c from hsz];exact f26.cell hX.2.1,f26.cell hX.2.2⟩
 have hel6:∀i n,x.tree[i]?=some n->NdAt w6 A (o+i*4) n:=fun i n hi=>(hel i n hi).keep (f15.trans f6)
 have go1:∀{w7:World} {fr7:Frame},Fresh w6 w7->¬(0<rest.length∨x.at'<0)->FA 31 87 SoH1 [] .normal [(1,iV idx),(3,ptrV X),(7,ptrV p),(48,slV A o x.tree.length c),(49,iV x.tree.length),(50,iV 0)] fr7->Goes (G fr7 cs) w7 fun g' w'=>∃fr' v,g'=G fr' cs∧Leav 31 fr' w' v∧Fresh w w'∧v=iV (soundF x idx names):=fun f7 hno F7=>by
  refine(so_one (rest:=rest) hX6 hel6 (by omega) hpt hfl x.tree.length 0 (Nat.zero_add _) f7 F7).mono fun g8 w8 hd8=>?_
  obtain⟨fr8,rfl,f8,hL⟩:=hd8
  refine⟨fr8,_,rfl,hL,(f15.trans f6).trans f8,?_⟩
  unfold soundF
  rw[if_neg h4,if_neg hnn,e]
  dsimp only
  rw[if_neg hno,List.drop_zero]
 have bad1:∀{w7:World} {fr7:Frame} {k:List Item},Fresh w6 w7->(0<rest.length∨x.at'<0)->FA 31 87 (.code .ret::k) [] .normal [(6,iV 1)] fr7->Goes (G fr7 cs) w7 fun g' w'=>∃fr' v,g'=G fr' cs∧Leav 31 fr' w' v∧Fresh w w'∧v=iV (soundF x idx names):=fun f7 hyes F7=>done (n:=1) ((f15.trans f6).trans f7) F7 (by
  unfold soundF
  rw[if_neg h4,if_neg hnn,e]
  dsimp only
  rw[if_pos hyes])
 rcases hr6.ex with⟨rfl,rfl⟩|⟨A',o',c',rfl,hc',_⟩
 ·by_cases ha:x.at'<0
  ·refine(soDx.go (Go.Proofs.Ytmobbajggkjpgaa.SX.mkS [(7,idx),(4,x.at')] [(64,X),(62,p)] [(8,slV A o x.tree.length c)] [(1,x.name)]) F6 rfl ⟨decide_eq_true ha,trivial⟩ ⟨hX6.1,hX6.2.1,hX6.2.2,trivial⟩).trans fun g7 w7 hd7=>?_
   obtain⟨I,B,fr7,rfl,f7,F7,_⟩:=hd7
   exact bad1 f7 (.inr ha) F7
  ·refine(soDy.go (Go.Proofs.Ytmobbajggkjpgaa.SX.mkS [(7,idx),(51,x.tree.length),(52,c),(53,o),(4,x.at')] [(50,A),(64,X),(62,p)] [] [(1,x.name)]) F6 rfl ⟨decide_eq_false ha,trivial⟩ ⟨hX6.1,hX6.2.1,hX6.2.2,trivial⟩).trans fun g7 w7 hd7=>?_
   obtain⟨I,B,fr7,rfl,f7,F7,_⟩:=hd7
   exact go1 f7 (by simp;omega) F7
 ·by_cases hr:((rest.length:Nat):Int)>0
  ·refine(soB.go (Go.Proofs.Ytmobbajggkjpgaa.SX.mkS [(7,idx),(4,x.at'),(56,o'),(57,rest.length),(58,c')] [(64,X),(62,p),(55,A')] [(8,slV A o x.tree.length c)] [(1,x.name)]) F6 rfl ⟨decide_eq_true hr,trivial⟩ ⟨hX6.1,hX6.2.1,hX6.2.2,trivial⟩).trans fun g7 w7 hd7=>?_
   obtain⟨I,B,fr7,rfl,f7,F7,_⟩:=hd7
   exact bad1 f7 (.inl (by omega)) F7
  ·by_cases ha:x.at'<0
   ·refine(soCx.go (Go.Proofs.Ytmobbajggkjpgaa.SX.mkS [(7,idx),(4,x.at'),(56,o'),(57,rest.length),(58,c')] [(64,X),(62,p),(55,A')] [(8,slV A o x.tree.length c)] [(1,x.name)]) F6 rfl ⟨decide_eq_false hr,decide_eq_true ha,trivial⟩ ⟨hX6.1,hX6.2.1,hX6.2.2,trivial⟩).trans fun g7 w7 hd7=>?_
    obtain⟨I,B,fr7,rfl,f7,F7,_⟩:=hd7
    exact bad1 f7 (.inr ha) F7
   ·refine(soCy.go (Go.Proofs.Ytmobbajggkjpgaa.SX.mkS [(7,idx),(51,x.tree.length),(52,c),(53,o),(4,x.at'),(56,o'),(57,rest.length),(58,c')] [(50,A),(64,X),(62,p),(55,A')] [] [(1,x.name)]) F6 rfl ⟨decide_eq_false hr,decide_eq_false ha,trivial⟩ ⟨hX6.1,hX6.2.1,hX6.2.2,trivial⟩).trans fun g7 w7 hd7=>?_
    obtain⟨I,B,fr7,rfl,f7,F7,_⟩:=hd7
    exact go1 f7 (by omega) F7
end
noncomputable def q21(l:List Nat):Code:=pc (bodyOf Try.f21) l
theorem ent21:enterA Try.prog 21 [.opq 0] .normal=.ok ⟨21,61,entT 21 [.opq 0],[.code (bodyOf Try.f21)],[],.run,.normal⟩:=by kernel_rfl
theorem ret21:RetC2 21 61 2 3:=fun st=>by kernel_rfl
theorem ck1(z y:Bool):Pc 21 61 [.code (q21 [])] [(0,.agg [slZ z 50 53 51 52,slZ y 60 66 67 68])] [] [] [] 21 [101,100] [1,4,12,13,14] [.code (q21 [1,1,0,1,0,0]),.inLoop (q21 [1,1,0,1,0,0]),.inBlock 0,.code (q21 [1,1,1])] [ptr0 100,.map (some (.dyn 101)),slZ z 50 53 51 52,i64 (lnZ z 51),i64 (.lit 0)] [(101,.map []),(100,.cells [slZ z 50 53 51 52,slZ y 60 66 67 68] 25)]:=⟨fun st=>by cases z<;>cases y<;>kernel_rfl,fun st=>by cases z<;>cases y<;>kernel_rfl,by cases z<;>cases y<;>kernel_rfl,of_decide_eq_true (by kernel_rfl)⟩
theorem ck2(y:Bool):Pc 21 61 [.code (q21 [1,1,0,1,0,0]),.inLoop (q21 [1,1,0,1,0,0]),.inBlock 0,.code (q21 [1,1,1])] [(1,ptr0 64),(4,.opq 4),(12,.slice (some ⟨(.dyn 50),(v 53)⟩) (v 51) (v 52)),(13,i64 (.tn (v 51))),(14,i64 (v 10))] [((.cmp .lss (v 10) (.tn (v 51))),true),((.cmp .leq (.lit 0) (v 10)),true),((.cmp .lss (v 10) (.lit 0)),false),((.cmp .geq (v 10) (.tn (v 51))),false)] [(⟨(.dyn 50),(.plus (.tn (v 53)) (.times (.tn (v 10)) (.lit 3)))⟩,ss 1),(⟨(.dyn 50),(.plus (.tn (.plus (.tn (v 53)) (.times (.tn (v 10)) (.lit 3)))) (.lit 1))⟩,slZ y 70 73 71 72),(⟨(.dyn 50),(.plus (.tn (.plus (.tn (v 53)) (.times (.tn (v 10)) (.lit 3)))) (.lit 2))⟩,i64 (v 4))] [] 24 [100] [1,4,5,6,12,13,14,19,20,21] [.inRegion (opsOf (q21 [1,1,0,1,0,0,1,1,0,0,1,0,0])) [3,4],.code (q21 [1,1,0,1,0,0,1,1,0,0,1,0,1]),.code (q21 [1,1,0,1,0,0,1,1,0,0,1,1]),.inBlock 1,.code (q21 [1,1,0,1,0,0,1,1,1]),.inLoop (q21 [1,1,0,1,0,0]),.inBlock 0,.code (q21 [1,1,1])] [ptr0 64,.opq 4,i64 (v 10),ptr0 100,.slice (some ⟨(.dyn 50),(v 53)⟩) (v 51) (v 52),i64 (.tn (v 51)),i64 (v 10),.agg [ss 1,slZ y 70 73 71 72,i64 (v 4)],i64 (v 10),.opq 4] [(100,.cells [ss 1,slZ y 70 73 71 72,i64 (v 4)] 51)]:=⟨fun st=>by cases y<;>kernel_rfl,fun st=>by cases y<;>kernel_rfl,by cases y<;>kernel_rfl,of_decide_eq_true (by kernel_rfl)⟩
theorem ck3:OpC 61 (opsOf (q21 [1,1,0,1,0,0,1,1,0,0,1,0,0])) 3 [(19,.opq 19),(20,.opq 20),(21,.opq 21)] 31 [.opq 19,.opq 20,.opq 21] 22:=⟨fun st=>by kernel_rfl,fun st=>by kernel_rfl,fun st=>by kernel_rfl,by kernel_rfl,by decide,rfl⟩
theorem ck4:Pc 21 61 [.inRegion (opsOf (q21 [1,1,0,1,0,0,1,1,0,0,1,0,0])) [4],.code (q21 [1,1,0,1,0,0,1,1,0,0,1,0,1]),.code (q21 [1,1,0,1,0,0,1,1,0,0,1,1]),.inBlock 1,.code (q21 [1,1,0,1,0,0,1,1,1]),.inLoop (q21 [1,1,0,1,0,0]),.inBlock 0,.code (q21 [1,1,1])] [(1,ptr0 64),(4,.opq 4),(5,i64 (v 10)),(6,ptr0 65),(12,.slice (some ⟨(.dyn 50),(v 53)⟩) (v 51) (v 52)),(13,i64 (.tn (v 51))),(14,i64 (v 10)),(22,i64 (v 5))] [((.cmp .neq (v 5) (.lit 0)),true)] [] [] 15 [] [2,3] [.code .ret,.code (q21 [1,1,0,1,0,0,1,1,0,0,1,1]),.inBlock 1,.code (q21 [1,1,0,1,0,0,1,1,1]),.inLoop (q21 [1,1,0,1,0,0]),.inBlock 0,.code (q21 [1,1,1])] [i64 (v 5),i64 (v 10)] []:=⟨fun st=>by kernel_rfl,fun st=>by kernel_rfl,by kernel_rfl,of_decide_eq_true (by kernel_rfl)⟩
theorem ck5:Pc 21 61 [.inRegion (opsOf (q21 [1,1,0,1,0,0,1,1,0,0,1,0,0])) [4],.code (q21 [1,1,0,1,0,0,1,1,0,0,1,0,1]),.code (q21 [1,1,0,1,0,0,1,1,0,0,1,1]),.inBlock 1,.code (q21 [1,1,0,1,0,0,1,1,1]),.inLoop (q21 [1,1,0,1,0,0]),.inBlock 0,.code (q21 [1,1,1])] [(1,ptr0 64),(4,.opq 4),(5,i64 (v 10)),(6,ptr0 65),(12,.slice (some ⟨(.dyn 50),(v 53)⟩) (v 51) (v 52)),(13,i64 (.tn (v 51))),(14,i64 (v 10)),(22,i64 (v 5))] [((.cmp .neq (v 5) (.lit 0)),false)] [(⟨(.dyn 65),(.lit 0)⟩,ss 1)] [] 13 [] [1,4,12,13,14,27,29] [.inRegion (opsOf (q21 [1,1,0,1,0,0,1,1,0,0,1,1])) [3],.inBlock 1,.code (q21 [1,1,0,1,0,0,1,1,1]),.inLoop (q21 [1,1,0,1,0,0]),.inBlock 0,.code (q21 [1,1,1])] [ptr0 64,.opq 4,.slice (some ⟨(.dyn 50),(v 53)⟩) (v 51) (v 52),i64 (.tn (v 51)),i64 (v 10),.opq 4,ss 1] []:=⟨fun st=>by kernel_rfl,fun st=>by kernel_rfl,by kernel_rfl,of_decide_eq_true (by kernel_rfl)⟩
theorem ck6:OpW 61 (opsOf (q21 [1,1,0,1,0,0,1,1,0,0,1,1])) 3 [] (.mapUpdate 76 (.tmp 27) (.tmp 29) (.const (.bool true))) 0 none:=⟨fun st=>by kernel_rfl,fun st=>by kernel_rfl,by kernel_rfl⟩
theorem ck7:Pc 21 61 [.inRegion (opsOf (q21 [1,1,0,1,0,0,1,1,0,0,1,1])) [],.inBlock 1,.code (q21 [1,1,0,1,0,0,1,1,1]),.inLoop (q21 [1,1,0,1,0,0]),.inBlock 0,.code (q21 [1,1,1])] [(1,ptr0 64),(4,.opq 4),(12,.slice (some ⟨(.dyn 50),(v 53)⟩) (v 51) (v 52)),(13,i64 (.tn (v 51))),(14,i64 (v 10))] [] [] [] 7 [] [1,4,12,13,14] [.code (q21 [1,1,0,1,0,0]),.inLoop (q21 [1,1,0,1,0,0]),.inBlock 0,.code (q21 [1,1,1])] [ptr0 64,.opq 4,.slice (some ⟨(.dyn 50),(v 53)⟩) (v 51) (v 52),i64 (.tn (v 51)),i64 (.op .add .i64 (v 10) (.lit 1))] []:=⟨fun st=>by kernel_rfl,fun st=>by kernel_rfl,by kernel_rfl,of_decide_eq_true (by kernel_rfl)⟩
theorem ck8(z y:Bool):Pc 21 61 [.code (q21 [1,1,0,1,0,0]),.inLoop (q21 [1,1,0,1,0,0]),.inBlock 0,.code (q21 [1,1,1])] [(1,ptr0 64),(4,.opq 4),(12,slZ z 50 53 51 52),(13,i64 (lnZ z 51)),(14,i64 (v 10))] [((.cmp .lss (v 10) (lnZ z 51)),false)] [(⟨(.dyn 64),(.lit 1)⟩,slZ y 60 66 67 68)] [] 17 [] [1,32,33,34] [.code (q21 [1,1,1,0,1,0,0]),.inLoop (q21 [1,1,1,0,1,0,0]),.inBlock 2,.code (q21 [1,1,1,1])] [ptr0 64,slZ y 60 66 67 68,i64 (lnZ y 67),i64 (.lit 0)] []:=⟨fun st=>by cases z<;>cases y<;>kernel_rfl,fun st=>by cases z<;>cases y<;>kernel_rfl,by cases z<;>cases y<;>kernel_rfl,of_decide_eq_true (by kernel_rfl)⟩
theorem ck9(z:Bool):Pc 21 61 [.code (q21 [1,1,1,0,1,0,0]),.inLoop (q21 [1,1,1,0,1,0,0]),.inBlock 2,.code (q21 [1,1,1,1])] [(1,ptr0 64),(32,.slice (some ⟨(.dyn 60),(v 66)⟩) (v 67) (v 68)),(33,i64 (.tn (v 67))),(34,i64 (v 10))] [((.cmp .lss (v 10) (.tn (v 67))),true),((.cmp .leq (.lit 0) (v 10)),true),((.cmp .lss (v 10) (.lit 0)),false),((.cmp .geq (v 10) (.tn (v 67))),false),((.cmp .geq (v 10) (.lit 4096)),true)] [(⟨(.dyn 64),(.lit 0)⟩,slZ z 50 53 51 52),(⟨(.dyn 60),(.plus (.tn (v 66)) (.tn (v 10)))⟩,i64 (v 12))] [] 26 [] [2,3] [.code .ret,.code (q21 [1,1,1,0,1,0,0,1,1,0,0,1,1]),.inBlock 3,.code (q21 [1,1,1,0,1,0,0,1,1,1]),.inLoop (q21 [1,1,1,0,1,0,0]),.inBlock 2,.code (q21 [1,1,1,1])] [i64 (.lit 34),i64 (.op .add .i64 (lnZ z 51) (v 10))] []:=⟨fun st=>by cases z<;>kernel_rfl,fun st=>by cases z<;>kernel_rfl,by cases z<;>kernel_rfl,of_decide_eq_true (by kernel_rfl)⟩
theorem ckA(z:Bool):Pc 21 61 [.code (q21 [1,1,1,0,1,0,0]),.inLoop (q21 [1,1,1,0,1,0,0]),.inBlock 2,.code (q21 [1,1,1,1])] [(1,ptr0 64),(32,.slice (some ⟨(.dyn 60),(v 66)⟩) (v 67) (v 68)),(33,i64 (.tn (v 67))),(34,i64 (v 10))] [((.cmp .lss (v 10) (.tn (v 67))),true),((.cmp .leq (.lit 0) (v 10)),true),((.cmp .lss (v 10) (.lit 0)),false),((.cmp .geq (v 10) (.tn (v 67))),false),((.cmp .geq (v 10) (.lit 4096)),false),((.cmp .lss (v 12) (.lit 0)),true)] [(⟨(.dyn 64),(.lit 0)⟩,slZ z 50 53 51 52),(⟨(.dyn 60),(.plus (.tn (v 66)) (.tn (v 10)))⟩,i64 (v 12))] [] 40 [] [2,3] [.code .ret,.inBlock 3,.code (q21 [1,1,1,0,1,0,0,1,1,1]),.inLoop (q21 [1,1,1,0,1,0,0]),.inBlock 2,.code (q21 [1,1,1,1])] [i64 (.lit 43),i64 (.op .add .i64 (lnZ z 51) (v 10))] []:=⟨fun st=>by cases z<;>kernel_rfl,fun st=>by cases z<;>kernel_rfl,by cases z<;>kernel_rfl,of_decide_eq_true (by kernel_rfl)⟩
theorem ckB(z:Bool):Pc 21 61 [.code (q21 [1,1,1,0,1,0,0]),.inLoop (q21 [1,1,1,0,1,0,0]),.inBlock 2,.code (q21 [1,1,1,1])] [(1,ptr0 64),(32,.slice (some ⟨(.dyn 60),(v 66)⟩) (v 67) (v 68)),(33,i64 (.tn (v 67))),(34,i64 (v 10))] [((.cmp .lss (v 10) (.tn (v 67))),true),((.cmp .leq (.lit 0) (v 10)),true),((.cmp .lss (v 10) (.lit 0)),false),((.cmp .geq (v 10) (.tn (v 67))),false),((.cmp .geq (v 10) (.lit 4096)),false),((.cmp .lss (v 12) (.lit 0)),false),((.cmp .geq (v 12) (lnZ z 51)),true)] [(⟨(.dyn 64),(.lit 0)⟩,slZ z 50 53 51 52),(⟨(.dyn 60),(.plus (.tn (v 66)) (.tn (v 10)))⟩,i64 (v 12))] [] 40 [] [2,3] [.code .ret,.inBlock 3,.code (q21 [1,1,1,0,1,0,0,1,1,1]),.inLoop (q21 [1,1,1,0,1,0,0]),.inBlock 2,.code (q21 [1,1,1,1])] [i64 (.lit 43),i64 (.op .add .i64 (lnZ z 51) (v 10))] []:=⟨fun st=>by cases z<;>kernel_rfl,fun st=>by cases z<;>kernel_rfl,by cases z<;>kernel_rfl,of_decide_eq_true (by kernel_rfl)⟩
theorem ckC(z:Bool):Pc 21 61 [.code (q21 [1,1,1,0,1,0,0]),.inLoop (q21 [1,1,1,0,1,0,0]),.inBlock 2,.code (q21 [1,1,1,1])] [(1,ptr0 64),(32,.slice (some ⟨(.dyn 60),(v 66)⟩) (v 67) (v 68)),(33,i64 (.tn (v 67))),(34,i64 (v 10))] [((.cmp .lss (v 10) (.tn (v 67))),true),((.cmp .leq (.lit 0) (v 10)),true),((.cmp .lss (v 10) (.lit 0)),false),((.cmp .geq (v 10) (.tn (v 67))),false),((.cmp .geq (v 10) (.lit 4096)),false),((.cmp .lss (v 12) (.lit 0)),false),((.cmp .geq (v 12) (lnZ z 51)),false)] [(⟨(.dyn 64),(.lit 0)⟩,slZ z 50 53 51 52),(⟨(.dyn 60),(.plus (.tn (v 66)) (.tn (v 10)))⟩,i64 (v 12))] [] 45 [] [1,32,33,34] [.code (q21 [1,1,1,0,1,0,0]),.inLoop (q21 [1,1,1,0,1,0,0]),.inBlock 2,.code (q21 [1,1,1,1])] [ptr0 64,.slice (some ⟨(.dyn 60),(v 66)⟩) (v 67) (v 68),i64 (.tn (v 67)),i64 (.op .add .i64 (v 10) (.lit 1))] []:=⟨fun st=>by cases z<;>kernel_rfl,fun st=>by cases z<;>kernel_rfl,by cases z<;>kernel_rfl,of_decide_eq_true (by kernel_rfl)⟩
theorem ckD(y:Bool):Pc 21 61 [.code (q21 [1,1,1,0,1,0,0]),.inLoop (q21 [1,1,1,0,1,0,0]),.inBlock 2,.code (q21 [1,1,1,1])] [(1,ptr0 64),(32,slZ y 60 66 67 68),(33,i64 (lnZ y 67)),(34,i64 (v 10))] [((.cmp .lss (v 10) (lnZ y 67)),false)] [] [] 12 [] [2,3] [.code .ret] [i64 (.lit 0),i64 (.lit 0)] []:=⟨fun st=>by cases y<;>kernel_rfl,fun st=>by cases y<;>kernel_rfl,by cases y<;>kernel_rfl,of_decide_eq_true (by kernel_rfl)⟩
structure FlowD where
 lets:List LetD
 outs:List Int
structure LetAt(w:World)(A o:Nat)(x:LetD):Prop where
 ex:∃ts,w.cell? ⟨A,o,none⟩=some (.string x.name)∧w.cell? ⟨A,o+1,none⟩=some ts∧w.cell? ⟨A,o+2,none⟩=some (iV x.at')∧NodesAt w ts x.tree
structure LetsAt(w:World)(s:Value)(L:List LetD):Prop where
 ex:∃(z:Bool) (A o c:Nat),s=hdV z A o L.length c∧(z=true->L=[])∧(z=false->L.length≤c)∧∀i x,L[i]?=some x->LetAt w A (o+i*3) x
structure IntsAt(w:World)(s:Value)(l:List Int):Prop where
 ex:∃(z:Bool) (A o c:Nat),s=hdV z A o l.length c∧(z=true->l=[])∧(z=false->l.length≤c)∧∀i n,l[i]?=some n->w.cell? ⟨A,o+i,none⟩=some (iV n)
def FlowAt(w:World)(x:Value)(F:FlowD):Prop:=∃ls os,x=.agg #[ls,os]∧LetsAt w ls F.lets∧IntsAt w os F.outs
theorem LetAt.keep{w w':World}{A o:Nat}{x:LetD}(h:LetAt w A o x)(f:Fresh w w'):LetAt w' A o x:=by
 obtain⟨ts,h1,h2,h3,h4⟩:=h.ex
 exact⟨ts,f.cell h1,f.cell h2,f.cell h3,h4.keep f⟩
theorem LetsAt.keep{w w':World}{s:Value}{L:List LetD}(h:LetsAt w s L)(f:Fresh w w'):LetsAt w' s L:=by
 obtain⟨z,A,o,c,h1,h2,h3,h4⟩:=h.ex
 exact⟨z,A,o,c,h1,h2,h3,fun i x hi=>(h4 i x hi).keep f⟩
theorem IntsAt.keep{w w':World}{s:Value}{l:List Int}(h:IntsAt w s l)(f:Fresh w w'):IntsAt w' s l:=by
 obtain⟨z,A,o,c,h1,h2,h3,h4⟩:=h.ex
 exact⟨z,A,o,c,h1,h2,h3,fun i x hi=>f.cell (h4 i x hi)⟩
theorem FlowAt.keep{w w':World}{x:Value}{F:FlowD}(h:FlowAt w x F)(f:Fresh w w'):FlowAt w' x F:=by
 obtain⟨ls,os,h1,h2,h3⟩:=h
 exact⟨ls,os,h1,h2.keep f,h3.keep f⟩
def chkLets:List LetD->Nat->List (ByteArray×Bool)->Option (Int×Nat)
 |[],_,_=>none
 |x::r,i,names=>if soundF x i names≠0 then some (soundF x i names,i)else chkLets r (i+1) (names++[(x.name,true)])
def chkOuts(n:Nat):List Int->Nat->Int×Int
 |[],_=>(0,0)
 |o::r,i=>if(i:Int)≥4096 then(34,wadd n i)else if o<0 then(43,wadd n i)else if o≥n then(43,wadd n i)else chkOuts n r (i+1)
def chkF(F:FlowD):Int×Int:=match chkLets F.lets 0 []with
 |some (e,i)=>(e,i)
 |none=>chkOuts F.lets.length F.outs 0
theorem findT_true{s:ByteArray}:∀{names:List (ByteArray×Bool)},(∀p∈names,p.2=true)->(findT s names).getD false=false->findT s names=none:=fun{names} h hf=>by
 unfold findT at hf⊢
 cases e:names.find? fun p=>s==p.1 with
 |none=>rfl
 |some p=>
  rw[e]at hf
  have:=h p (List.mem_of_find?_eq_some e)
  simp[this]at hf
theorem sound_new{x:LetD}{i:Nat}{names:List (ByteArray×Bool)}(h:soundF x i names=0):(findT x.name names).getD false=false:=by
 unfold soundF at h
 split at h
 ·cases h
 ·split at h
  ·cases h
  ·rename_i h2
   cases e:(findT x.name names).getD false with
   |false=>rfl
   |true=>exact(h2 (.inr e)).elim
noncomputable abbrev CkH1:List Item:=[.code (q21 [1,1,0,1,0,0]),.inLoop (q21 [1,1,0,1,0,0]),.inBlock 0,.code (q21 [1,1,1])]
noncomputable abbrev CkH2:List Item:=[.code (q21 [1,1,1,0,1,0,0]),.inLoop (q21 [1,1,1,0,1,0,0]),.inBlock 2,.code (q21 [1,1,1,1])]
section
variable {w w0:World}{cs:List Frame}{fr:Frame}{F:FlowD}{ls os:Value}{X M:Nat}
theorem ck_fin{k:List Item}{a b:Int}(fw:Fresh w0 w)(hf:FA 21 61 (.code .ret::k) [] .normal [(2,iV a),(3,iV b)] fr):Goes (G fr cs) w fun g' w'=>∃fr',g'=G fr' cs∧Fresh w0 w'∧Leav 21 fr' w' (.tuple #[iV a,iV b]):=by
 refine(leave2 ret21 hf rfl rfl).mono fun g6 w6 hd6=>?_
 obtain⟨fr6,rfl,rfl,hL⟩:=hd6
 exact⟨fr6,rfl,fw,hL⟩
theorem ck_outs{z:Bool}{A o c A' o' c' N:Nat}(hN:z=true->N=0)(h0:w0.cell? ⟨X,0,none⟩=some (hdV z A o N c)){outs:List Int}(hel:∀i n,outs[i]?=some n->w0.cell? ⟨A',o'+i,none⟩=some (iV n)):
  ∀(r:List Int) (i:Nat) {w:World} {cs:List Frame} {fr:Frame},outs.drop i=r->Fresh w0 w->i≤5000->FA 21 61 CkH2 [] .normal [(1,ptrV X),(32,slV A' o' outs.length c'),(33,iV outs.length),(34,iV i)] fr->
  Goes (G fr cs) w fun g' w'=>∃fr',g'=G fr' cs∧Fresh w0 w'∧Leav 21 fr' w' (.tuple #[iV (chkOuts N r i).1,iV (chkOuts N r i).2])
 |[],i,w,cs,fr,hr,fw,hi,hf=>by
  have hlen:outs.length≤i:=List.drop_eq_nil_iff.1 hr
  refine((ckD false).go (mkE [(67,outs.length),(68,c'),(66,o'),(10,i)] [(60,A'),(64,X)] []) hf rfl ⟨decide_eq_false (by show ¬((i:Int)<((outs.length:Nat):Int));omega),trivial⟩ trivial).trans fun g1 w1 hd=>?_
  obtain⟨I,B,fr1,rfl,f1,F1,_⟩:=hd
  exact ck_fin (fw.trans f1) F1
 |n::r,i,w,cs,fr,hr,fw,hi,hf=>by
  obtain⟨hn,hr2,hlt⟩:=drop_get hr
  obtain⟨ρ,hρ⟩:∃ρ:Env,ρ=mkE [(67,outs.length),(68,c'),(66,o'),(10,i),(12,n),(51,N),(52,c),(53,o)] [(60,A'),(64,X),(50,A)] []:=⟨_,rfl⟩
  have mm:AllM ρ w [(⟨(.dyn 64),(.lit 0)⟩,slZ z 50 53 51 52),(⟨(.dyn 60),(.plus (.tn (v 66)) (.tn (v 10)))⟩,i64 (v 12))]:=by
   rw[hρ]
   refine⟨(fw.cell h0).trans ?_,fw.cell (hel i n hn),trivial⟩
   cases z<;>rfl
  have bb:=ltB_ok (ρ:=ρ) (i:=10) (n:=67) (I:=i) (N:=outs.length) (by rw[hρ];rfl) (by rw[hρ];rfl) hlt
  have eN:(lnZ z 51).ev ρ=(N:Int):=by
   rw[hρ]
   cases z with
   |false=>rfl
   |true=>rw[hN rfl];rfl
  have bad:∀{k:List Item} {w1:World} {fr1:Frame} {e:Int} {I:Nat->Int} {B:Nat->Nat},Fresh w w1->FA 21 61 (.code .ret::k) [] .normal [(2,iV e),(3,iV (iop .add .i64 ((lnZ z 51).ev (mixE ρ I B)) ((mixE ρ I B).i 10)))] fr1->chkOuts N (n::r) i=(e,wadd N i)->Goes (G fr1 cs) w1 fun g' w'=>∃fr',g'=G fr' cs∧Fresh w0 w'∧Leav 21 fr' w' (.tuple #[iV (chkOuts N (n::r) i).1,iV (chkOuts N (n::r) i).2]):=fun{k w1 fr1 e I B} f1 F1 he=>by
   rw[he]
   have e1:(lnZ z 51).ev (mixE ρ I B)=(N:Int):=by
    rw[hρ]
    cases z with
    |false=>rfl
    |true=>rw[hN rfl];rfl
   rw[e1]at F1
   subst hρ
   exact ck_fin (fw.trans f1) F1
  by_cases h1:(i:Int)≥4096
  ·refine((ck9 z).go ρ hf (by rw[hρ];rfl) (AllB.app bb ⟨by rw[hρ];exact decide_eq_true h1,trivial⟩) mm).trans fun g1 w1 hd=>?_
   obtain⟨I,B,fr1,rfl,f1,F1,_⟩:=hd
   exact bad (I:=I) (B:=B) (e:=34) f1 F1 (by unfold chkOuts;rw[if_pos h1])
  by_cases h2:n<0
  ·refine((ckA z).go ρ hf (by rw[hρ];rfl) (AllB.app bb ⟨by rw[hρ];exact decide_eq_false h1,by rw[hρ];exact decide_eq_true h2,trivial⟩) mm).trans fun g1 w1 hd=>?_
   obtain⟨I,B,fr1,rfl,f1,F1,_⟩:=hd
   exact bad (I:=I) (B:=B) (e:=43) f1 F1 (by unfold chkOuts;rw[if_neg h1,if_pos h2])
  by_cases h3:n≥N
  ·refine((ckB z).go ρ hf (by rw[hρ];rfl) (AllB.app bb ⟨by rw[hρ];exact decide_eq_false h1,by rw[hρ];exact decide_eq_false h2,by show decide (ρ.i 12≥(lnZ z 51).ev ρ)=true;rw[eN,hρ];exact decide_eq_true h3,trivial⟩) mm).trans fun g1 w1 hd=>?_
   obtain⟨I,B,fr1,rfl,f1,F1,_⟩:=hd
   exact bad (I:=I) (B:=B) (e:=43) f1 F1 (by unfold chkOuts;rw[if_neg h1,if_neg h2,if_pos h3])
  refine((ckC z).go ρ hf (by rw[hρ];rfl) (AllB.app bb ⟨by rw[hρ];exact decide_eq_false h1,by rw[hρ];exact decide_eq_false h2,by show decide (ρ.i 12≥(lnZ z 51).ev ρ)=false;rw[eN,hρ];exact decide_eq_false h3,trivial⟩) mm).trans fun g1 w1 hd=>?_
  obtain⟨I,B,fr1,rfl,f1,F1,_⟩:=hd
  rw[hρ]at F1
  unfold chkOuts
  rw[if_neg h1,if_neg h2,if_neg h3]
  refine ck_outs (c':=c') hN h0 hel r (i+1) hr2 (fw.trans f1) (by omega) ?_
  rw[<-inc (i:=i) (by omega)]
  exact F1
theorem ck_lets{z:Bool}{A o c:Nat}{L:List LetD}(hz:z=true->L=[])(hx:w0.heap.size≤M)(h0:w0.heap.size≤X)(hXM:X≠M)(hos:IntsAt w0 os F.outs)(hL:F.lets=L)(hel:∀i x,L[i]?=some x->LetAt w0 A (o+i*3) x)(hlen:L.length≤1000000)(htr:∀x∈L,x.tree.length≤999999):
  ∀(r:List LetD) (i:Nat) {names:List (ByteArray×Bool)} {w:World} {cs:List Frame} {fr:Frame},L.drop i=r->Fresh w0 w->(Blk.obj 25 [hdV z A o L.length c,os]).at Try.prog w X->TextMap w M names->(∀p∈names,p.2=true)->FA 21 61 CkH1 [] .normal [(1,ptrV X),(4,.map (some M)),(12,hdV z A o L.length c),(13,iV L.length),(14,iV i)] fr->
  Goes (G fr cs) w fun g' w'=>∃fr',g'=G fr' cs∧Fresh w0 w'∧Leav 21 fr' w' (match chkLets r i names with
   |some (e,j)=>.tuple #[iV e,iV j]
   |none=>.tuple #[iV (chkOuts L.length F.outs 0).1,iV (chkOuts L.length F.outs 0).2])
 |[],i,names,w,cs,fr,hr,fw,hX,hM,hn,hf=>by
  have hli:L.length≤i:=List.drop_eq_nil_iff.1 hr
  obtain⟨y,A',o',c',rfl,hy,hyc,hyel⟩:=hos.ex
  have hN:z=true->L.length=0:=fun h=>by rw[hz h];rfl
  have hgo:Goes (G fr cs) w fun g' w'=>∃fr',g'=G fr' cs∧Fresh w w'∧FA 21 61 CkH2 [] .normal [(1,ptrV X),(32,hdV y A' o' F.outs.length c'),(33,iV F.outs.length),(34,iV 0)] fr':=by
   refine((ck8 z y).go (mkE [(51,L.length),(52,c),(53,o),(10,i),(67,F.outs.length),(68,c'),(66,o')] [(50,A),(64,X),(60,A')] [(4,.map (some M))]) hf (by
    cases z with
    |false=>rfl
    |true=>rw[hz rfl];rfl) ⟨?_,trivial⟩ ⟨?_,trivial⟩).mono fun g1 w1 hd=>?_
   ·cases z with
    |false=>exact decide_eq_false (by show ¬((i:Int)<((L.length:Nat):Int));omega)
    |true=>exact decide_eq_false (by show ¬((i:Int)<0);omega)
   ·have:=blk_cell hX (i:=1) rfl
    refine Eq.trans this ?_
    cases y<;>rfl
   ·obtain⟨I,B,fr1,rfl,f1,F1,_⟩:=hd
    refine⟨fr1,rfl,f1,?_⟩
    cases y with
    |false=>exact F1
    |true=>rw[hy rfl];exact F1
  refine hgo.trans fun g1 w1 hd=>?_
  obtain⟨fr1,rfl,f1,F1⟩:=hd
  have fw1:=fw.trans f1
  unfold chkLets
  dsimp only
  cases y with
  |true=>
   have ho:F.outs=[]:=hy rfl
   rw[ho]at F1⊢
   refine((ckD true).go (mkE [(10,0)] [(64,X)] []) F1 rfl ⟨rfl,trivial⟩ trivial).trans fun g2 w2 hd2=>?_
   obtain⟨I,B,fr2,rfl,f2,F2,_⟩:=hd2
   exact ck_fin (fw1.trans f2) F2
  |false=>
   have hc0:w1.cell? ⟨X,0,none⟩=some (hdV z A o L.length c):=f1.cell (blk_cell hX (i:=0) rfl)
   have hye:∀i n,F.outs[i]?=some n->w1.cell? ⟨A',o'+i,none⟩=some (iV n):=fun i n hi=>fw1.cell (hyel i n hi)
   refine(ck_outs (w0:=w1) (c':=c') hN hc0 hye F.outs 0 rfl (Fresh.refl w1) (by omega) F1).mono fun g2 w2 hd2=>?_
   obtain⟨fr2,rfl,f2,hL⟩:=hd2
   exact⟨fr2,rfl,fw1.trans f2,hL⟩
 |x::r,i,names,w,cs,fr,hr,fw,hX,hM,hn,hf=>by
  obtain⟨hx',hr2,hlt⟩:=drop_get hr
  obtain rfl:z=false:=by
   cases z with
   |false=>rfl
   |true=>rw[hz rfl]at hlt;simp at hlt
  obtain⟨ts,a0,a1,a2,a3⟩:=((hel i x hx').keep fw).ex
  have hxl:x.tree.length≤999999:=htr x (List.mem_of_getElem? hx')
  obtain⟨y,A',o',c',hts,hy⟩:∃(y:Bool) (A' o' c':Nat),ts=hdV y A' o' x.tree.length c'∧True:=by
   rcases a3.ex with⟨h1,h2⟩|⟨A',o',c',h1,h2,h3⟩
   ·exact⟨true,0,0,0,h1,trivial⟩
   ·exact⟨false,A',o',c',h1,trivial⟩
  obtain⟨ρ,hρ⟩:∃ρ:Env,ρ=Go.Proofs.Ytmobbajggkjpgaa.SX.mkS [(51,L.length),(52,c),(53,o),(10,i),(71,x.tree.length),(72,c'),(73,o'),(4,x.at')] [(50,A),(64,X),(70,A')] [(4,.map (some M))] [(1,x.name)]:=⟨_,rfl⟩
  have e70:(slZ y 70 73 71 72).ev ρ=ts:=by
   rw[hts,hρ]
   cases y<;>rfl
  refine((ck2 y).go ρ hf (by rw[hρ];rfl) (ltB_ok (ρ:=ρ) (i:=10) (n:=51) (I:=i) (N:=L.length) (by rw[hρ];rfl) (by rw[hρ];rfl) hlt) ⟨by rw[hρ];exact a0,by rw[e70,hρ];exact a1,by rw[hρ];exact a2,trivial⟩).trans fun g1 w1 hd=>?_
  obtain⟨I,B,fr1,rfl,f1,F1,bl,_⟩:=hd
  have e70':(slZ y 70 73 71 72).ev (mixE ρ I B)=ts:=by
   rw[hts,hρ]
   cases y<;>rfl
  have hb:(Blk.obj 51 [.string x.name,ts,iV x.at']).at Try.prog w1 (B 100):=by
   have:=bl.1.2
   rw[<-e70']
   rw[hρ]at this⊢
   exact this
  have F1':FA 21 61 (.inRegion (opsOf (q21 [1,1,0,1,0,0,1,1,0,0,1,0,0])) [3,4]::[.code (q21 [1,1,0,1,0,0,1,1,0,0,1,0,1]),.code (q21 [1,1,0,1,0,0,1,1,0,0,1,1]),.inBlock 1,.code (q21 [1,1,0,1,0,0,1,1,1]),.inLoop (q21 [1,1,0,1,0,0]),.inBlock 0,.code (q21 [1,1,1])]) [] .normal [(1,ptrV X),(4,.map (some M)),(5,iV i),(6,ptrV (B 100)),(12,slV A o L.length c),(13,iV L.length),(14,iV i),(19,letV x ts),(20,iV i),(21,.map (some M))] fr1:=by
   have e0:letV x ts=.agg #[.string x.name,(slZ y 70 73 71 72).ev (mixE ρ I B),iV x.at']:=by rw[e70'];rfl
   rw[e0]
   rw[hρ]at F1⊢
   exact F1
  have hM1:TextMap w1 M names:=blk_keep (k:=.map _) hM f1
  refine(ck3.go (mkE [] [] [(19,letV x ts),(20,iV i),(21,.map (some M))]) (Q:=fun v w'=>v=iV (soundF x i names)) F1' rfl fun w' f2=>sound_all ((a3.keep (f1.trans f2))) hxl (blk_keep (k:=.map _) hM1 f2)).trans fun g2 w2 hd2=>?_
  obtain⟨fr2,vv,rfl,f2,rfl,F2⟩:=hd2
  have f12:=f1.trans f2
  obtain⟨σ,hσ⟩:∃σ:Env,σ=Go.Proofs.Ytmobbajggkjpgaa.SX.mkS [(51,L.length),(52,c),(53,o),(10,i),(5,soundF x i names)] [(50,A),(64,X),(65,B 100)] [(4,.map (some M))] [(1,x.name)]:=⟨_,rfl⟩
  by_cases he:soundF x i names=0
  ·refine(ck5.go σ F2 (by rw[hσ];rfl) ⟨by rw[hσ];show(!decide (soundF x i names=0))=false;rw[decide_eq_true he];rfl,trivial⟩ ⟨by rw[hσ];exact f2.cell (blk_cell hb (i:=0) rfl),trivial⟩).trans fun g3 w3 hd3=>?_
   obtain⟨I,B',fr3,rfl,f3,F3,_⟩:=hd3
   rw[hσ]at F3
   have f13:=f12.trans f3
   have hM3:TextMap w3 M names:=blk_keep (k:=.map _) hM f13
   have hnone:=findT_true hn (sound_new he)
   refine(ck6.go0 (R:=fun w'=>TextMap w' M (names++[(x.name,true)])∧Keeps (fun n=>n=M) w3 w') (mkE [] [] []) F3 rfl fun tm htm x' e1 e2=>?_).trans fun g4 w4 hd4=>?_
   ·unfold execOp
    simp only[e1,wq_bind]
    rw[htm 27 (.map (some M)) rfl,htm 29 (.string x.name) rfl]
    exact wq_newText hM3 hnone fun w' h1 h2=>⟨rfl,h1,h2⟩
   obtain⟨fr4,rfl,⟨hM4,kp4⟩,F4⟩:=hd4
   have fw4:Fresh w0 w4:=fresh_keeps (fw.trans f13) (kp4.mono fun n hn=>by rw[hn];exact hx)
   have hX4:(Blk.obj 25 [hdV false A o L.length c,os]).at Try.prog w4 X:=Blk.at_keep (blk_keep hX f13) kp4 fun h=>hXM h
   refine(ck7.go (mkE [(51,L.length),(52,c),(53,o),(10,i)] [(50,A),(64,X)] [(4,.map (some M))]) F4 rfl trivial trivial).trans fun g5 w5 hd5=>?_
   obtain⟨I,B',fr5,rfl,f5,F5,_⟩:=hd5
   have ec:chkLets (x::r) i names=chkLets r (i+1) (names++[(x.name,true)]):=by
    conv=>lhs;unfold chkLets
    rw[if_neg (by rw[he];decide)]
   rw[ec]
   refine ck_lets hz hx h0 hXM hos hL hel hlen htr r (i+1) hr2 (fw4.trans f5) (blk_keep hX4 f5) (blk_keep (k:=.map _) hM4 f5) (fun p hp=>?_) ?_
   ·rcases List.mem_append.1 hp with hp|hp
    ·exact hn p hp
    ·obtain rfl:=List.mem_singleton.1 hp
     rfl
   ·rw[<-inc (i:=i) (by omega)]
    exact F5
  ·refine(ck4.go σ F2 (by rw[hσ];rfl) ⟨by rw[hσ];show(!decide (soundF x i names=0))=true;rw[decide_eq_false he];rfl,trivial⟩ trivial).trans fun g3 w3 hd3=>?_
   obtain⟨I,B',fr3,rfl,f3,F3,_⟩:=hd3
   rw[hσ]at F3
   unfold chkLets
   rw[if_pos he]
   exact ck_fin (fw.trans (f12.trans f3)) F3
theorem check_all{x:Value}(h:FlowAt w x F)(hlen:F.lets.length≤1000000)(htr:∀x∈F.lets,x.tree.length≤999999):Ans 21 #[x] w fun v w'=>Fresh w w'∧v=.tuple #[iV (chkF F).1,iV (chkF F).2]:=by
 obtain⟨ls,os,rfl,hl,ho⟩:=h
 obtain⟨z,A,o,c,hls,hz,hzc,hel⟩:=hl.ex
 obtain⟨y,A',o',c',hos,hy,hyc,hyel⟩:=ho.ex
 refine ans_of fun cs=>?_
 have E:=enter1 ent21 rfl (.agg #[ls,os])
 obtain⟨ρ,hρ⟩:∃ρ:Env,ρ=mkE [(51,F.lets.length),(52,c),(53,o),(67,F.outs.length),(68,c'),(66,o')] [(50,A),(60,A')] []:=⟨_,rfl⟩
 refine((ck1 z y).go ρ E (by rw[hls,hos,hρ];cases z<;>cases y<;>rfl) trivial trivial).trans fun g1 w1 hd=>?_
 obtain⟨I,B,fr1,rfl,f1,F1,bl,inj⟩:=hd
 have hM:TextMap w1 (B 101) []:=bl.1.2
 have hX:(Blk.obj 25 [hdV z A o F.lets.length c,os]).at Try.prog w1 (B 100):=by
  have:=bl.2.1.2
  have e1:(slZ z 50 53 51 52).ev (mixE ρ I B)=hdV z A o F.lets.length c:=by rw[hρ];cases z<;>rfl
  have e2:(slZ y 60 66 67 68).ev (mixE ρ I B)=os:=by rw[hos,hρ];cases y<;>rfl
  rw[<-e1,<-e2]
  rw[hρ]at this⊢
  exact this
 have hXM:B 100≠B 101:=fun e=>by
  have:=inj _ (List.mem_cons_of_mem _ (List.mem_singleton.2 rfl)) _ (List.mem_cons_self ..) (by rw[hρ];exact e)
  cases this
 have F1':FA 21 61 CkH1 [] .normal [(1,ptrV (B 100)),(4,.map (some (B 101))),(12,hdV z A o F.lets.length c),(13,iV F.lets.length),(14,iV 0)] fr1:=by
  rw[hρ]at F1
  cases z with
  |false=>exact F1
  |true=>rw[hz rfl];exact F1
 refine(ck_lets (w0:=w) (M:=B 101) (X:=B 100) (names:=[]) hz bl.1.1 bl.2.1.1 hXM ho rfl hel hlen htr F.lets 0 rfl f1 hX hM (nofun) F1').mono fun g2 w2 hd2=>?_
 obtain⟨fr2,rfl,f2,hL⟩:=hd2
 refine⟨fr2,_,rfl,hL,f2,?_⟩
 unfold chkF
 cases chkLets F.lets 0 []with
 |none=>rfl
 |some p=>rfl
end
noncomputable def q22(l:List Nat):Code:=pc (bodyOf Try.f22) l
theorem ent22:enterA Try.prog 22 [.opq 0] .normal=.ok ⟨22,8,entT 22 [.opq 0],[.code (bodyOf Try.f22)],[],.run,.normal⟩:=by kernel_rfl
theorem ret22:RetC 22 8 2:=fun st=>by kernel_rfl
noncomputable def q47(l:List Nat):Code:=pc (bodyOf Try.f47) l
theorem ent47:enterA Try.prog 47 [.opq 0,.opq 1] .normal=.ok ⟨47,22,entT 47 [.opq 0,.opq 1],[.code (bodyOf Try.f47)],[],.run,.normal⟩:=by kernel_rfl
theorem ret47:RetC 47 22 4:=fun st=>by kernel_rfl
noncomputable def q32(l:List Nat):Code:=pc (bodyOf Try.f32) l
theorem ent32:enterA Try.prog 32 [.opq 0,.opq 1] .normal=.ok ⟨32,28,entT 32 [.opq 0,.opq 1],[.code (bodyOf Try.f32)],[],.run,.normal⟩:=by kernel_rfl
theorem ret32:RetC 32 28 4:=fun st=>by kernel_rfl
noncomputable def q33(l:List Nat):Code:=pc (bodyOf Try.f33) l
noncomputable def q48(l:List Nat):Code:=pc (bodyOf Try.f48) l
theorem ent48:enterA Try.prog 48 [.opq 0,.opq 1] .normal=.ok ⟨48,41,entT 48 [.opq 0,.opq 1],[.code (bodyOf Try.f48)],[],.run,.normal⟩:=by kernel_rfl
theorem ret48:RetC 48 41 4:=fun st=>by kernel_rfl
noncomputable def q91(l:List Nat):Code:=pc (bodyOf Try.f91) l
theorem ent91:enterA Try.prog 91 [.opq 0] .normal=.ok ⟨91,5,entT 91 [.opq 0],[.code (bodyOf Try.f91)],[],.run,.normal⟩:=by kernel_rfl
noncomputable def q92(l:List Nat):Code:=pc (bodyOf Try.f92) l
theorem ent92:enterA Try.prog 92 [.opq 0] .normal=.ok ⟨92,4,entT 92 [.opq 0],[.code (bodyOf Try.f92)],[],.run,.normal⟩:=by kernel_rfl
theorem rt1:Pc 22 8 [.code (q22 [])] [(0,.agg [ss 1,.slice (some ⟨(.dyn 50),(v 53)⟩) (v 51) (v 52),i64 (v 4)])] [((.cmp .lss (.lit 0) (.tn (v 51))),true)] [(⟨(.dyn 50),(v 53)⟩,i8 (v 1))] [] 14 [] [2] [.code .ret] [i8 (v 1)] []:=⟨fun st=>by kernel_rfl,fun st=>by kernel_rfl,by kernel_rfl,of_decide_eq_true (by kernel_rfl)⟩
theorem sk1:Pc 47 22 [.code (q47 [])] [(0,ptr0 61),(1,i64 (v 10))] [] [] [] 11 [] [0,1,5] [.code (q47 [1,0,1,0,0]),.inLoop (q47 [1,0,1,0,0]),.inBlock 0,.code (q47 [1,1])] [ptr0 61,i64 (v 10),i64 (.lit 1)] []:=⟨fun st=>by kernel_rfl,fun st=>by kernel_rfl,by kernel_rfl,of_decide_eq_true (by kernel_rfl)⟩
theorem sk2:Pc 47 22 [.code (q47 [1,0,1,0,0]),.inLoop (q47 [1,0,1,0,0]),.inBlock 0,.code (q47 [1,1])] [(0,ptr0 61),(1,i64 (v 10)),(5,i64 (v 8))] [((.cmp .lss (v 10) (.tn (v 51))),true),((.cmp .leq (.lit 0) (v 10)),true),((.cmp .lss (v 10) (.lit 0)),false),((.cmp .geq (v 10) (.tn (v 51))),false),((.cmp .gtr (v 8) (.lit 0)),true)] [(⟨(.dyn 61),(.lit 0)⟩,.slice (some ⟨(.dyn 50),(v 53)⟩) (v 51) (v 52)),(⟨(.dyn 50),(.plus (.tn (.plus (.tn (v 53)) (.times (.tn (v 10)) (.lit 4)))) (.lit 2))⟩,i64 (v 13))] [] 31 [] [0,1,5] [.code (q47 [1,0,1,0,0]),.inLoop (q47 [1,0,1,0,0]),.inBlock 0,.code (q47 [1,1])] [ptr0 61,i64 (.op .add .i64 (v 10) (.lit 1)),i64 (.op .add .i64 (v 8) (.op .sub .i64 (v 13) (.lit 1)))] []:=⟨fun st=>by kernel_rfl,fun st=>by kernel_rfl,by kernel_rfl,of_decide_eq_true (by kernel_rfl)⟩
theorem sk3:Pc 47 22 [.code (q47 [1,0,1,0,0]),.inLoop (q47 [1,0,1,0,0]),.inBlock 0,.code (q47 [1,1])] [(0,ptr0 61),(1,i64 (v 10)),(5,i64 (v 8))] [((.cmp .gtr (v 8) (.lit 0)),false)] [] [] 13 [] [4] [.code .ret] [i64 (v 10)] []:=⟨fun st=>by kernel_rfl,fun st=>by kernel_rfl,by kernel_rfl,of_decide_eq_true (by kernel_rfl)⟩
theorem kd1:Pc 32 28 [.code (q32 [])] [(0,ptr0 61),(1,i64 (v 10))] [((.cmp .lss (v 10) (.tn (v 51))),true),((.cmp .leq (.lit 0) (v 10)),true),((.cmp .lss (v 10) (.lit 0)),false),((.cmp .geq (v 10) (.tn (v 51))),false)] [(⟨(.dyn 61),(.lit 0)⟩,.slice (some ⟨(.dyn 50),(v 53)⟩) (v 51) (v 52)),(⟨(.dyn 50),(.plus (.tn (.plus (.tn (v 53)) (.times (.tn (v 10)) (.lit 4)))) (.lit 2))⟩,i64 (v 13))] [] 29 [] [0,5,6,16,17] [.code (q32 [1,1,1,0,1,0,0]),.inLoop (q32 [1,1,1,0,1,0,0]),.inBlock 0,.code (q32 [1,1,1,1])] [ptr0 61,nilA,i64 (.op .add .i64 (v 10) (.lit 1)),i64 (v 13),i64 (.lit 0)] []:=⟨fun st=>by kernel_rfl,fun st=>by kernel_rfl,by kernel_rfl,of_decide_eq_true (by kernel_rfl)⟩
theorem kd2n:Pc 32 28 [.code (q32 [1,1,1,0,1,0,0]),.inLoop (q32 [1,1,1,0,1,0,0]),.inBlock 0,.code (q32 [1,1,1,1])] [(0,ptr0 61),(5,nilA),(6,i64 (v 11)),(16,i64 (v 13)),(17,i64 (v 9))] [((.cmp .lss (v 9) (v 13)),true)] [] [] 20 [101] [0,5,6,16,17,23,24] [.inRegion (opsOf (q32 [1,1,1,0,1,0,0,1,1,0,0,1])) [2,3],.inBlock 1,.code (q32 [1,1,1,0,1,0,0,1,1,1]),.inLoop (q32 [1,1,1,0,1,0,0]),.inBlock 0,.code (q32 [1,1,1,1])] [ptr0 61,.slice (some ⟨(.dyn 101),(.lit 0)⟩) (.lit 1) (v 101),i64 (v 11),i64 (v 13),i64 (v 9),ptr0 61,i64 (v 11)] [(101,.row [i64 (v 11)] 3 (v 101))]:=⟨fun st=>by kernel_rfl,fun st=>by kernel_rfl,by kernel_rfl,of_decide_eq_true (by kernel_rfl)⟩
theorem kd2:Pc 32 28 [.code (q32 [1,1,1,0,1,0,0]),.inLoop (q32 [1,1,1,0,1,0,0]),.inBlock 0,.code (q32 [1,1,1,1])] [(0,ptr0 61),(5,.slice (some ⟨(.dyn 52),(.lit 0)⟩) (v 8) (v 57)),(6,i64 (v 11)),(16,i64 (v 13)),(17,i64 (v 9))] [((.cmp .lss (v 9) (v 13)),true),((.cmp .leq (.plus (.tn (v 8)) (.lit 1)) (.lit 1048576)),true)] [] [(52,.pre false 65 (v 8) [] [] [] 3 (v 57))] 20 [101] [0,5,6,16,17,23,24] [.inRegion (opsOf (q32 [1,1,1,0,1,0,0,1,1,0,0,1])) [2,3],.inBlock 1,.code (q32 [1,1,1,0,1,0,0,1,1,1]),.inLoop (q32 [1,1,1,0,1,0,0]),.inBlock 0,.code (q32 [1,1,1,1])] [ptr0 61,.slice (some ⟨(.dyn 101),(.lit 0)⟩) (.plus (.tn (v 8)) (.lit 1)) (v 101),i64 (v 11),i64 (v 13),i64 (v 9),ptr0 61,i64 (v 11)] [(101,.pre false 65 (v 8) [] [] [i64 (v 11)] 3 (v 101))]:=⟨fun st=>by kernel_rfl,fun st=>by kernel_rfl,by kernel_rfl,of_decide_eq_true (by kernel_rfl)⟩
theorem kd3:OpC 28 (opsOf (q32 [1,1,1,0,1,0,0,1,1,0,0,1])) 2 [(23,.opq 23),(24,.opq 24)] 47 [.opq 23,.opq 24] 25:=⟨fun st=>by kernel_rfl,fun st=>by kernel_rfl,fun st=>by kernel_rfl,by kernel_rfl,by decide,rfl⟩
theorem kd4:Pc 32 28 [.inRegion (opsOf (q32 [1,1,1,0,1,0,0,1,1,0,0,1])) [3],.inBlock 1,.code (q32 [1,1,1,0,1,0,0,1,1,1]),.inLoop (q32 [1,1,1,0,1,0,0]),.inBlock 0,.code (q32 [1,1,1,1])] [(0,ptr0 61),(5,.opq 5),(16,i64 (v 13)),(17,i64 (v 9)),(25,i64 (v 12))] [] [] [] 8 [] [0,5,6,16,17] [.code (q32 [1,1,1,0,1,0,0]),.inLoop (q32 [1,1,1,0,1,0,0]),.inBlock 0,.code (q32 [1,1,1,1])] [ptr0 61,.opq 5,i64 (v 12),i64 (v 13),i64 (.op .add .i64 (v 9) (.lit 1))] []:=⟨fun st=>by kernel_rfl,fun st=>by kernel_rfl,by kernel_rfl,of_decide_eq_true (by kernel_rfl)⟩
theorem kd5:Pc 32 28 [.code (q32 [1,1,1,0,1,0,0]),.inLoop (q32 [1,1,1,0,1,0,0]),.inBlock 0,.code (q32 [1,1,1,1])] [(0,ptr0 61),(5,.opq 5),(6,i64 (v 11)),(16,i64 (v 13)),(17,i64 (v 9))] [((.cmp .lss (v 9) (v 13)),false)] [] [] 12 [] [4] [.code .ret] [.opq 5] []:=⟨fun st=>by kernel_rfl,fun st=>by kernel_rfl,by kernel_rfl,of_decide_eq_true (by kernel_rfl)⟩
theorem of1:Pc 33 11 [.code (q33 [])] [(0,.agg [i8 (v 1),i64 (v 2)])] [((.cmp .eql (v 1) (.lit 1)),true)] [] [] 20 [] [2] [.code .ret,.code (q33 [1,1])] [.iface 79 (i64 (v 2))] []:=⟨fun st=>by kernel_rfl,fun st=>by kernel_rfl,by kernel_rfl,of_decide_eq_true (by kernel_rfl)⟩
theorem of2:Pc 33 11 [.code (q33 [])] [(0,.agg [i8 (v 1),i64 (v 2)])] [((.cmp .eql (v 1) (.lit 1)),false)] [] [] 20 [] [2] [.code .ret] [.iface 82 (.agg [i8 (v 1),i64 (v 2)])] []:=⟨fun st=>by kernel_rfl,fun st=>by kernel_rfl,by kernel_rfl,of_decide_eq_true (by kernel_rfl)⟩
theorem bd1:Pc 48 41 [.code (q48 [])] [(0,.agg [i64 (v 1),i64 (v 2),i64 (v 3),i64 (v 4)]),(1,i64 (v 5))] [((.cmp .gtr (v 4) (.lit 0)),true),((.cmp .eql (v 4) (.lit 0)),false),((.cmp .eql (.op .rem .i64 (v 5) (v 4)) (.lit 0)),true)] [] [] 29 [] [4] [.code .ret,.inBlock 0,.code (q48 [1,1])] [.iface 82 (.agg [i8 (.lit 3),i64 (v 5)])] []:=⟨fun st=>by kernel_rfl,fun st=>by kernel_rfl,by kernel_rfl,of_decide_eq_true (by kernel_rfl)⟩
theorem bd2:Pc 48 41 [.code (q48 [])] [(0,.agg [i64 (v 1),i64 (v 2),i64 (v 3),i64 (v 4)]),(1,i64 (v 5))] [((.cmp .gtr (v 4) (.lit 0)),true),((.cmp .eql (v 4) (.lit 0)),false),((.cmp .eql (.op .rem .i64 (v 5) (v 4)) (.lit 0)),false),((.cmp .gtr (v 3) (.lit 0)),true),((.cmp .eql (v 3) (.lit 0)),false),((.cmp .eql (.op .rem .i64 (v 5) (v 3)) (.lit 0)),true)] [] [] 44 [] [4] [.code .ret,.inBlock 0,.code (q48 [1,1])] [.iface 82 (.agg [i8 (.lit 2),i64 (v 5)])] []:=⟨fun st=>by kernel_rfl,fun st=>by kernel_rfl,by kernel_rfl,of_decide_eq_true (by kernel_rfl)⟩
theorem bd3:Pc 48 41 [.code (q48 [])] [(0,.agg [i64 (v 1),i64 (v 2),i64 (v 3),i64 (v 4)]),(1,i64 (v 5))] [((.cmp .gtr (v 4) (.lit 0)),true),((.cmp .eql (v 4) (.lit 0)),false),((.cmp .eql (.op .rem .i64 (v 5) (v 4)) (.lit 0)),false),((.cmp .gtr (v 3) (.lit 0)),true),((.cmp .eql (v 3) (.lit 0)),false),((.cmp .eql (.op .rem .i64 (v 5) (v 3)) (.lit 0)),false)] [] [] 51 [] [4] [.code .ret] [.iface 79 (i64 (.op .add .i64 (.op .mul .i64 (v 5) (v 1)) (v 2)))] []:=⟨fun st=>by kernel_rfl,fun st=>by kernel_rfl,by kernel_rfl,of_decide_eq_true (by kernel_rfl)⟩
theorem bd4:Pc 48 41 [.code (q48 [])] [(0,.agg [i64 (v 1),i64 (v 2),i64 (v 3),i64 (v 4)]),(1,i64 (v 5))] [((.cmp .gtr (v 4) (.lit 0)),true),((.cmp .eql (v 4) (.lit 0)),false),((.cmp .eql (.op .rem .i64 (v 5) (v 4)) (.lit 0)),false),((.cmp .gtr (v 3) (.lit 0)),false)] [] [] 51 [] [4] [.code .ret] [.iface 79 (i64 (.op .add .i64 (.op .mul .i64 (v 5) (v 1)) (v 2)))] []:=⟨fun st=>by kernel_rfl,fun st=>by kernel_rfl,by kernel_rfl,of_decide_eq_true (by kernel_rfl)⟩
theorem bd5:Pc 48 41 [.code (q48 [])] [(0,.agg [i64 (v 1),i64 (v 2),i64 (v 3),i64 (v 4)]),(1,i64 (v 5))] [((.cmp .gtr (v 4) (.lit 0)),false),((.cmp .gtr (v 3) (.lit 0)),true),((.cmp .eql (v 3) (.lit 0)),false),((.cmp .eql (.op .rem .i64 (v 5) (v 3)) (.lit 0)),true)] [] [] 44 [] [4] [.code .ret,.inBlock 0,.code (q48 [1,1])] [.iface 82 (.agg [i8 (.lit 2),i64 (v 5)])] []:=⟨fun st=>by kernel_rfl,fun st=>by kernel_rfl,by kernel_rfl,of_decide_eq_true (by kernel_rfl)⟩
theorem bd6:Pc 48 41 [.code (q48 [])] [(0,.agg [i64 (v 1),i64 (v 2),i64 (v 3),i64 (v 4)]),(1,i64 (v 5))] [((.cmp .gtr (v 4) (.lit 0)),false),((.cmp .gtr (v 3) (.lit 0)),true),((.cmp .eql (v 3) (.lit 0)),false),((.cmp .eql (.op .rem .i64 (v 5) (v 3)) (.lit 0)),false)] [] [] 51 [] [4] [.code .ret] [.iface 79 (i64 (.op .add .i64 (.op .mul .i64 (v 5) (v 1)) (v 2)))] []:=⟨fun st=>by kernel_rfl,fun st=>by kernel_rfl,by kernel_rfl,of_decide_eq_true (by kernel_rfl)⟩
theorem bd7:Pc 48 41 [.code (q48 [])] [(0,.agg [i64 (v 1),i64 (v 2),i64 (v 3),i64 (v 4)]),(1,i64 (v 5))] [((.cmp .gtr (v 4) (.lit 0)),false),((.cmp .gtr (v 3) (.lit 0)),false)] [] [] 51 [] [4] [.code .ret] [.iface 79 (i64 (.op .add .i64 (.op .mul .i64 (v 5) (v 1)) (v 2)))] []:=⟨fun st=>by kernel_rfl,fun st=>by kernel_rfl,by kernel_rfl,of_decide_eq_true (by kernel_rfl)⟩
theorem e91:Pc 91 5 [.code (q91 [])] [(0,i64 (v 1))] [] [] [] 10 [100] [2] [.code .ret] [ptr0 100] [(100,.cells [i8 (.lit 1),i64 (v 1)] 30)]:=⟨fun st=>by kernel_rfl,fun st=>by kernel_rfl,by kernel_rfl,of_decide_eq_true (by kernel_rfl)⟩
theorem e92:Pc 92 4 [.code (q92 [])] [(0,.agg [i8 (v 1),i64 (v 2)])] [] [] [] 10 [101,100] [2] [.code .ret] [ptr0 101] [(101,.cells [i8 (v 1),i64 (v 2)] 30),(100,.cells [i8 (v 1),i64 (v 2)] 82)]:=⟨fun st=>by kernel_rfl,fun st=>by kernel_rfl,by kernel_rfl,of_decide_eq_true (by kernel_rfl)⟩
end Go.Proofs.Ytmobbajggkjpgaa

/-
  A symbolic run of the model, proved sound, and the walk of the code: a text of its parts. Conditions: none.
-/
import Derived.Test.YtmobbajggkjpgaaHD
set_option linter.unusedSectionVars false
set_option maxRecDepth 100000
set_option linter.unusedVariables false
set_option linter.unusedSimpArgs false
namespace Go.Proofs.Ytmobbajggkjpgaa
open Go.Proofs.Ytmobbajggkjpgaa.SX Go.Conc
theorem kidsWith_flat{g:List Nd->Option (T×List Nd)}{names:Bool}(hg:∀l t r,g l=some (t,r)->l=flat t++r):∀(k:Nat) (l:List Nd) (ts:List T) (r:List Nd),kidsWith g names k l=some (ts,r)->l=flatL ts++r
 |0,l,ts,r,h=>by
  cases h
  rfl
 |k+1,l,ts,r,h=>by
  unfold kidsWith at h
  split at h
  ·cases h
  ·rename_i t r' e
   split at h
   ·cases h
   ·split at h
    ·cases h
    ·rename_i ts' r'' e2
     cases h
     rw[hg _ _ _ e,kidsWith_flat hg k _ _ _ e2,flatL,List.append_assoc]
theorem grownF_flat:∀(f:Nat) (l:List Nd) (root:Bool) (t:T) (r:List Nd),grownF f l root=some (t,r)->l=flat t++r
 |0,l,root,t,r,h=>by cases h
 |f+1,[],root,t,r,h=>by cases h
 |f+1,n::l,root,t,r,h=>by
  unfold grownF at h
  split at h
  ·cases h
  ·split at h
   ·cases h
   ·split at h
    ·cases h
    ·rename_i ts r' e
     cases h
     have:=kidsWith_flat (fun l t r h=>grownF_flat f l false t r h) _ _ _ _ e
     rw[flat,this]
     simp
noncomputable def slZ(z:Bool)(b o n c:Nat):AV:=Bool.rec (.slice (some ⟨.dyn b,v o⟩) (v n) (v c)) nilA z
noncomputable def lnZ(z:Bool)(n:Nat):IE:=Bool.rec (.tn (v n)) (.lit 0) z
def hdV(z:Bool)(A o n c:Nat):Value:=match z with
 |false=>slV A o n c
 |true=>nilV
structure LetD where
 name:ByteArray
 tree:List Nd
 at':Int
def letV(x:LetD)(s:Value):Value:=.agg #[.string x.name,s,iV x.at']
def soundF(x:LetD)(i:Nat)(names:List (ByteArray×Bool)):Int:=
 if(i:Int)≥4096 then 34
 else if nameOk x.name=false∨(findT x.name names).getD false=true then 43
 else match grownF (x.tree.length+1) x.tree true with
  |none=>1
  |some (t,rest)=>
   if 0<rest.length∨x.at'<0 then 1
   else if x.tree.any (fun n=>decide (n.kids>16))then 44
   else if x.tree.any (fun n=>decide (n.op=2)&&(decide (n.n<0)||decide (n.n≥i)))then 43
   else if(deepF t 0).1>64 then 42 else 0
section
variable {w w0:World}{cs:List Frame}{fr:Frame}
theorem so_fin{k:List Item}{n:Int}(fw:Fresh w0 w)(hf:FA 31 87 (.code .ret::k) [] .normal [(6,iV n)] fr):Goes (G fr cs) w fun g' w'=>∃fr',g'=G fr' cs∧Fresh w0 w'∧Leav 31 fr' w' (iV n):=by
 refine(leave1 ret31 hf rfl).mono fun g6 w6 hd6=>?_
 obtain⟨fr6,rfl,rfl,hL⟩:=hd6
 exact⟨fr6,rfl,fw,hL⟩
noncomputable abbrev ndMem:List (AA×AV):=[(⟨(.dyn 50),(.plus (.tn (v 53)) (.times (.tn (v 10)) (.lit 4)))⟩,i8 (v 11)),(⟨(.dyn 50),(.plus (.tn (.plus (.tn (v 53)) (.times (.tn (v 10)) (.lit 4)))) (.lit 1))⟩,i64 (v 12)),(⟨(.dyn 50),(.plus (.tn (.plus (.tn (v 53)) (.times (.tn (v 10)) (.lit 4)))) (.lit 2))⟩,i64 (v 13)),(⟨(.dyn 50),(.plus (.tn (.plus (.tn (v 53)) (.times (.tn (v 10)) (.lit 4)))) (.lit 3))⟩,i64 (v 14))]
noncomputable abbrev SoH2:List Item:=[.code (q31 [1,1,1,1,1,0,1,0,0]),.inLoop (q31 [1,1,1,1,1,0,1,0,0]),.inBlock 3,.code (q31 [1,1,1,1,1,1])]
noncomputable abbrev SoH1:List Item:=[.code (q31 [1,1,1,1,0,1,0,0]),.inLoop (q31 [1,1,1,1,0,1,0,0]),.inBlock 1,.code (q31 [1,1,1,1,1])]
theorem so_two{x:LetD}{A o c X p idx:Nat}{t:T}{U:Nat->Prop}{rest:List Nd}(hel:∀i n,x.tree[i]?=some n->NdAt w0 A (o+i*4) n)(hl:x.tree.length≤1000000)(ht:TreeAt w0 U p t)(hfl:x.tree=flat t++rest):
  ∀(m j:Nat) {w:World} {cs:List Frame} {fr:Frame},j+m=x.tree.length->Fresh w0 w->FA 31 87 SoH2 [] .normal [(1,iV idx),(3,ptrV X),(7,ptrV p),(59,slV A o x.tree.length c),(60,iV x.tree.length),(61,iV j)] fr->
  Goes (G fr cs) w fun g' w'=>∃fr',g'=G fr' cs∧Fresh w0 w'∧Leav 31 fr' w' (iV (if(x.tree.drop j).any (fun n=>decide (n.op=2)&&(decide (n.n<0)||decide (n.n≥idx)))then 43 else if(deepF t 0).1>64 then 42 else 0))
 |0,j,w,cs,fr,hj,fw,hf=>by
  have ht':=ht.keep fw
  refine(soL.go (mkE [(7,idx),(51,x.tree.length),(52,c),(53,o),(10,j)] [(50,A),(64,X),(62,p)] []) hf rfl ⟨decide_eq_false (by show ¬((j:Int)<((x.tree.length:Nat):Int));omega),trivial⟩ trivial).trans fun g1 w1 hd=>?_
  obtain⟨I,B,fr1,rfl,f1,F1,_⟩:=hd
  refine(soM.go (mkE [] [] [(81,ptrV p)]) (Q:=fun v w'=>v=.tuple #[iV (deepF t 0).1,iV (deepF t 0).2]) F1 rfl fun w' f2=>deep_all t (ht'.keep (f1.trans f2)) (by
   have:=congrArg List.length hfl
   rw[List.length_append]at this
   omega)).trans fun g2 w2 hd2=>?_
  obtain⟨fr2,vv,rfl,f2,rfl,F2⟩:=hd2
  rw[List.drop_of_length_le (by omega)]
  by_cases h:(deepF t 0).1>64
  ·refine(soNtrue.go (mkE [(5,(deepF t 0).1),(6,(deepF t 0).2)] [] []) F2 rfl ⟨decide_eq_true h,trivial⟩ trivial).trans fun g3 w3 hd3=>?_
   obtain⟨I,B,fr3,rfl,f3,F3,_⟩:=hd3
   simp only[List.any_nil,Bool.false_eq_true,if_false,if_pos h]
   exact so_fin (fw.trans (f1.trans (f2.trans f3))) F3
  ·refine(soNfalse.go (mkE [(5,(deepF t 0).1),(6,(deepF t 0).2)] [] []) F2 rfl ⟨decide_eq_false h,trivial⟩ trivial).trans fun g3 w3 hd3=>?_
   obtain⟨I,B,fr3,rfl,f3,F3,_⟩:=hd3
   simp only[List.any_nil,Bool.false_eq_true,if_false,if_neg h]
   exact so_fin (fw.trans (f1.trans (f2.trans f3))) F3
 |m+1,j,w,cs,fr,hj,fw,hf=>by
  have hlt:j<x.tree.length:=by omega
  obtain⟨n,hn⟩:∃n,x.tree[j]?=some n:=⟨_,List.getElem?_eq_getElem hlt⟩
  have hnd:=(hel j n hn).keep fw
  have hdrop:x.tree.drop j=n::x.tree.drop (j+1):=by
   rw[List.drop_eq_getElem_cons hlt]
   congr 1
   exact Option.some.inj ((List.getElem?_eq_getElem hlt).symm.trans hn)
  obtain⟨ρ,hρ⟩:∃ρ:Env,ρ=mkE [(7,idx),(51,x.tree.length),(52,c),(53,o),(10,j),(11,n.op),(12,n.n),(13,n.kids),(14,n.at')] [(50,A),(64,X),(62,p)] []:=⟨_,rfl⟩
  have mm:AllM ρ w ndMem:=by
   rw[hρ]
   exact⟨hnd.c0,hnd.c1,hnd.c2,hnd.c3,trivial⟩
  have bb:=ltB_ok (ρ:=ρ) (i:=10) (n:=51) (I:=j) (N:=x.tree.length) (by rw[hρ];rfl) (by rw[hρ];rfl) hlt
  rw[hdrop,List.any_cons]
  have next:∀{w1:World} {fr1:Frame},(decide (n.op=2)&&(decide (n.n<0)||decide (n.n≥idx)))=false->Fresh w w1->FA 31 87 SoH2 [] .normal [(1,iV idx),(3,ptrV X),(7,ptrV p),(59,slV A o x.tree.length c),(60,iV x.tree.length),(61,iV (iop .add .i64 j 1))] fr1->Goes (G fr1 cs) w1 fun g' w'=>∃fr',g'=G fr' cs∧Fresh w0 w'∧Leav 31 fr' w' (iV (if(decide (n.op=2)&&(decide (n.n<0)||decide (n.n≥idx))||(x.tree.drop (j+1)).any (fun n=>decide (n.op=2)&&(decide (n.n<0)||decide (n.n≥idx))))then 43 else if(deepF t 0).1>64 then 42 else 0)):=fun{w1 fr1} he f1 F1=>by
   rw[he,Bool.false_or]
   rw[inc (by omega)]at F1
   exact so_two hel hl ht hfl m (j+1) (by omega) (fw.trans f1) F1
  have bad:∀{w1:World} {fr1:Frame} {k:List Item},(decide (n.op=2)&&(decide (n.n<0)||decide (n.n≥idx)))=true->Fresh w w1->FA 31 87 (.code .ret::k) [] .normal [(6,iV 43)] fr1->Goes (G fr1 cs) w1 fun g' w'=>∃fr',g'=G fr' cs∧Fresh w0 w'∧Leav 31 fr' w' (iV (if(decide (n.op=2)&&(decide (n.n<0)||decide (n.n≥idx))||(x.tree.drop (j+1)).any (fun n=>decide (n.op=2)&&(decide (n.n<0)||decide (n.n≥idx))))then 43 else if(deepF t 0).1>64 then 42 else 0)):=fun{w1 fr1 k} he f1 F1=>by
   rw[he,Bool.true_or,if_pos rfl]
   exact so_fin (fw.trans f1) F1
  by_cases h2:n.op=2
  ·by_cases h0:n.n<0
   ·refine(soI.go ρ hf (by rw[hρ];rfl) (AllB.app bb ⟨by rw[hρ];exact decide_eq_true h2,by rw[hρ];exact decide_eq_true h0,trivial⟩) mm).trans fun g1 w1 hd=>?_
    obtain⟨I,B,fr1,rfl,f1,F1,_⟩:=hd
    exact bad (by simp[h2,h0]) f1 F1
   ·by_cases h1:n.n≥idx
    ·refine(soJ.go ρ hf (by rw[hρ];rfl) (AllB.app bb ⟨by rw[hρ];exact decide_eq_true h2,by rw[hρ];exact decide_eq_false h0,by rw[hρ];exact decide_eq_true h1,trivial⟩) mm).trans fun g1 w1 hd=>?_
     obtain⟨I,B,fr1,rfl,f1,F1,_⟩:=hd
     exact bad (by simp[h2,h0];omega) f1 F1
    ·refine(soK.go ρ hf (by rw[hρ];rfl) (AllB.app bb ⟨by rw[hρ];exact decide_eq_true h2,by rw[hρ];exact decide_eq_false h0,by rw[hρ];exact decide_eq_false h1,trivial⟩) mm).trans fun g1 w1 hd=>?_
     obtain⟨I,B,fr1,rfl,f1,F1,_⟩:=hd
     rw[hρ]at F1
     exact next (by simp[h2];omega) f1 F1
  ·refine(soH.go ρ hf (by rw[hρ];rfl) (AllB.app bb ⟨by rw[hρ];exact decide_eq_false h2,trivial⟩) mm).trans fun g1 w1 hd=>?_
   obtain⟨I,B,fr1,rfl,f1,F1,_⟩:=hd
   rw[hρ]at F1
   exact next (by simp[h2]) f1 F1
theorem so_one{x:LetD}{A o c X p idx:Nat}{t:T}{U:Nat->Prop}{rest:List Nd}(hX:w0.cell? ⟨X,0,none⟩=some (.string x.name)∧w0.cell? ⟨X,1,none⟩=some (slV A o x.tree.length c)∧w0.cell? ⟨X,2,none⟩=some (iV x.at'))(hel:∀i n,x.tree[i]?=some n->NdAt w0 A (o+i*4) n)(hl:x.tree.length≤1000000)(ht:TreeAt w0 U p t)(hfl:x.tree=flat t++rest):
  ∀(m j:Nat) {w:World} {cs:List Frame} {fr:Frame},j+m=x.tree.length->Fresh w0 w->FA 31 87 SoH1 [] .normal [(1,iV idx),(3,ptrV X),(7,ptrV p),(48,slV A o x.tree.length c),(49,iV x.tree.length),(50,iV j)] fr->
  Goes (G fr cs) w fun g' w'=>∃fr',g'=G fr' cs∧Fresh w0 w'∧Leav 31 fr' w' (iV (if(x.tree.drop j).any (fun n=>decide (n.kids>16))then 44 else if x.tree.any (fun n=>decide (n.op=2)&&(decide (n.n<0)||decide (n.n≥idx)))then 43 else if(deepF t 0).1>64 then 42 else 0))
 |0,j,w,cs,fr,hj,fw,hf=>by
  refine(soG.go (Go.Proofs.Ytmobbajggkjpgaa.SX.mkS [(7,idx),(51,x.tree.length),(52,c),(53,o),(10,j),(4,x.at')] [(50,A),(64,X),(62,p)] [] [(1,x.name)]) hf rfl ⟨decide_eq_false (by show ¬((j:Int)<((x.tree.length:Nat):Int));omega),trivial⟩ ⟨fw.cell hX.1,fw.cell hX.2.1,fw.cell hX.2.2,trivial⟩).trans fun g1 w1 hd=>?_
  obtain⟨I,B,fr1,rfl,f1,F1,_⟩:=hd
  rw[List.drop_of_length_le (by omega)]
  simp only[List.any_nil,Bool.false_eq_true,if_false]
  exact so_two hel hl ht hfl x.tree.length 0 (Nat.zero_add _) (fw.trans f1) F1
 |m+1,j,w,cs,fr,hj,fw,hf=>by
  have hlt:j<x.tree.length:=by omega
  obtain⟨n,hn⟩:∃n,x.tree[j]?=some n:=⟨_,List.getElem?_eq_getElem hlt⟩
  have hnd:=(hel j n hn).keep fw
  have hdrop:x.tree.drop j=n::x.tree.drop (j+1):=by
   rw[List.drop_eq_getElem_cons hlt]
   congr 1
   exact Option.some.inj ((List.getElem?_eq_getElem hlt).symm.trans hn)
  obtain⟨ρ,hρ⟩:∃ρ:Env,ρ=mkE [(7,idx),(51,x.tree.length),(52,c),(53,o),(10,j),(11,n.op),(12,n.n),(13,n.kids),(14,n.at')] [(50,A),(64,X),(62,p)] []:=⟨_,rfl⟩
  have mm:AllM ρ w ndMem:=by
   rw[hρ]
   exact⟨hnd.c0,hnd.c1,hnd.c2,hnd.c3,trivial⟩
  have bb:=ltB_ok (ρ:=ρ) (i:=10) (n:=51) (I:=j) (N:=x.tree.length) (by rw[hρ];rfl) (by rw[hρ];rfl) hlt
  rw[hdrop,List.any_cons]
  by_cases h:n.kids>16
  ·refine(soE.go ρ hf (by rw[hρ];rfl) (AllB.app bb ⟨by rw[hρ];exact decide_eq_true h,trivial⟩) mm).trans fun g1 w1 hd=>?_
   obtain⟨I,B,fr1,rfl,f1,F1,_⟩:=hd
   rw[decide_eq_true h,Bool.true_or,if_pos rfl]
   exact so_fin (fw.trans f1) F1
  ·refine(soF.go ρ hf (by rw[hρ];rfl) (AllB.app bb ⟨by rw[hρ];exact decide_eq_false h,trivial⟩) mm).trans fun g1 w1 hd=>?_
   obtain⟨I,B,fr1,rfl,f1,F1,_⟩:=hd
   rw[hρ]at F1
   rw[decide_eq_false h,Bool.false_or]
   refine so_one hX hel hl ht hfl m (j+1) (by omega) (fw.trans f1) ?_
   rw[<-inc (by omega)]
   exact F1
theorem sound_all{x:LetD}{s:Value}{idx M:Nat}{names:List (ByteArray×Bool)}(hs:NodesAt w s x.tree)(hl:x.tree.length≤999999)(hM:TextMap w M names):Ans 31 #[letV x s,iV idx,.map (some M)] w fun v w'=>Fresh w w'∧v=iV (soundF x idx names):=by
 refine ans_of fun cs=>?_
 obtain⟨z,A,o,c,hsz,hz,hel⟩:∃(z:Bool) (A o c:Nat),s=(match z with|true=>nilV|false=>slV A o x.tree.length c)∧(z=true->x.tree=[])∧(∀i n,x.tree[i]?=some n->NdAt w A (o+i*4) n):=by
  rcases hs.ex with⟨h1,h2⟩|⟨A,o,c,h1,h2,h3⟩
  ·exact⟨true,0,0,0,h1,fun _=>h2,fun i n hi=>by rw[h2]at hi;cases hi⟩
  ·exact⟨false,A,o,c,h1,(fun h=>by cases h),h3⟩
 have E:=enter3 ent31 rfl (letV x s) (iV idx) (.map (some M))
 have done:∀{w1:World} {fr1:Frame} {k:List Item} {n:Int},Fresh w w1->FA 31 87 (.code .ret::k) [] .normal [(6,iV n)] fr1->soundF x idx names=n->Goes (G fr1 cs) w1 fun g' w'=>∃fr' v,g'=G fr' cs∧Leav 31 fr' w' v∧Fresh w w'∧v=iV (soundF x idx names):=fun f1 F1 he=>by
  refine(so_fin f1 F1).mono fun g2 w2 hd2=>?_
  obtain⟨fr2,rfl,f2,hL⟩:=hd2
  exact⟨fr2,_,rfl,hL,f2,by rw[he]⟩
 obtain⟨ρ,hρ⟩:∃ρ:Env,ρ=Go.Proofs.Ytmobbajggkjpgaa.SX.mkS [(7,idx),(51,x.tree.length),(52,c),(53,o),(4,x.at')] [(50,A)] [(2,.map (some M))] [(1,x.name)]:=⟨_,rfl⟩
 by_cases h4:(idx:Int)≥4096
 ·have he:soundF x idx names=34:=by unfold soundF;rw[if_pos h4]
  cases z with
  |false=>
   refine(so1.go ρ E (by rw[hsz,hρ];rfl) ⟨by rw[hρ];exact decide_eq_true h4,trivial⟩ trivial).trans fun g1 w1 hd=>?_
   obtain⟨I,B,fr1,rfl,f1,F1,_⟩:=hd
   exact done f1 F1 he
  |true=>
   refine(so1n.go ρ E (by rw[hsz,hρ];rfl) ⟨by rw[hρ];exact decide_eq_true h4,trivial⟩ trivial).trans fun g1 w1 hd=>?_
   obtain⟨I,B,fr1,rfl,f1,F1,_⟩:=hd
   exact done f1 F1 he
 have hbox:Goes (G (Frame.enter Try.prog 31 #[letV x s,iV idx,.map (some M)] .normal) cs) w fun g' w'=>∃fr' X,g'=G fr' cs∧Fresh w w'∧(w'.cell? ⟨X,0,none⟩=some (.string x.name)∧w'.cell? ⟨X,1,none⟩=some s∧w'.cell? ⟨X,2,none⟩=some (iV x.at'))∧FA 31 87 (.inRegion (opsOf (q31 [1,0,0,1,1,0])) [2,3,4,5,6,7,8,9,10]::[.code (q31 [1,0,0,1,1,1]),.inBlock 0,.code (q31 [1,1])]) [] .normal [(1,iV idx),(2,.map (some M)),(3,ptrV X),(20,.string x.name)] fr':=by
  cases z with
  |false=>
   refine(so2.go ρ E (by rw[hsz,hρ];rfl) ⟨by rw[hρ];exact decide_eq_false h4,trivial⟩ trivial).mono fun g1 w1 hd=>?_
   obtain⟨I,B,fr1,rfl,f1,F1,bl,_⟩:=hd
   rw[hρ]at F1 bl
   have hX:=bl.1.2
   exact⟨fr1,B 100,rfl,f1,⟨blk_cell hX (i:=0) rfl,by rw[hsz];exact blk_cell hX (i:=1) rfl,blk_cell hX (i:=2) rfl⟩,F1⟩
  |true=>
   refine(so2n.go ρ E (by rw[hsz,hρ];rfl) ⟨by rw[hρ];exact decide_eq_false h4,trivial⟩ trivial).mono fun g1 w1 hd=>?_
   obtain⟨I,B,fr1,rfl,f1,F1,bl,_⟩:=hd
   rw[hρ]at F1 bl
   have hX:=bl.1.2
   exact⟨fr1,B 100,rfl,f1,⟨blk_cell hX (i:=0) rfl,by rw[hsz];exact blk_cell hX (i:=1) rfl,blk_cell hX (i:=2) rfl⟩,F1⟩
 refine hbox.trans fun g1 w1 hd=>?_
 obtain⟨fr1,X,rfl,f1,hX,F1⟩:=hd
 obtain⟨σ,hσ⟩:∃σ:Env,σ=Go.Proofs.Ytmobbajggkjpgaa.SX.mkS [(7,idx),(51,x.tree.length),(52,c),(53,o),(4,x.at')] [(50,A),(64,X)] [(2,.map (some M)),(8,s)] [(1,x.name)]:=⟨_,rfl⟩
 have mo:∀{w':World},Fresh w1 w'->AllM σ w' [(⟨(.dyn 64),(.lit 0)⟩,ss 1),(⟨(.dyn 64),(.lit 1)⟩,.opq 8),(⟨(.dyn 64),(.lit 2)⟩,i64 (v 4))]:=fun f=>by
  rw[hσ]
  exact⟨f.cell hX.1,f.cell hX.2.1,f.cell hX.2.2,trivial⟩
 refine(so3.go (mkE [] [] [(20,.string x.name)]) (Q:=fun v w'=>v=.bool (nameOk x.name)) F1 rfl fun w' f2=>isName_all).trans fun g2 w2 hd2=>?_
 obtain⟨fr2,vv,rfl,f2,rfl,F2⟩:=hd2
 cases hn:nameOk x.name with
 |false=>
  rw[hn]at F2
  refine(so4.go σ F2 (by rw[hσ];rfl) trivial (mo f2)).trans fun g3 w3 hd3=>?_
  obtain⟨I,B,fr3,rfl,f3,F3,_⟩:=hd3
  exact done (n:=43) (f1.trans (f2.trans f3)) F3 (by unfold soundF;rw[if_neg h4,if_pos (.inl hn)])
 |true=>
 rw[hn]at F2
 refine(so5.go σ F2 (by rw[hσ];rfl) trivial (mo f2)).trans fun g3 w3 hd3=>?_
 obtain⟨I,B,fr3,rfl,f3,F3,_⟩:=hd3
 rw[hσ]at F3
 have f13:=f1.trans (f2.trans f3)
 have hM3:TextMap w3 M names:=blk_keep (k:=.map _) hM f13
 refine(so6.go (R:=fun v w'=>v=lookR false (findT x.name names)∧w'=w3) (mkE [] [] []) F3 (by decide) rfl fun tm htm x' e1 e2=>?_).trans fun g4 w4 hd4=>?_
 ·unfold execOp
  simp only[e1,wq_bind]
  rw[htm 24 (.map (some M)) rfl,htm 26 (.string x.name) rfl]
  exact wq_lookText hM3 ⟨_,rfl,rfl,rfl⟩
 obtain⟨fr4,vv,rfl,⟨rfl,rfl⟩,F4⟩:=hd4
 cases hf:(findT x.name names).getD false with
 |true=>
  rw[show lookR false (findT x.name names)=.bool true from by unfold lookR;rw[hf];rfl]at F4
  refine(so7.go σ F4 (by rw[hσ];rfl) trivial (mo (f2.trans f3))).trans fun g5 w5 hd5=>?_
  obtain⟨I,B,fr5,rfl,f5,F5,_⟩:=hd5
  exact done (n:=43) (f13.trans f5) F5 (by unfold soundF;rw[if_neg h4,if_pos (.inr hf)])
 |false=>
 rw[show lookR false (findT x.name names)=.bool false from by unfold lookR;rw[hf];rfl]at F4
 have hnn:¬(nameOk x.name=false∨(findT x.name names).getD false=true):=by rw[hn,hf];simp
 refine(so8.go σ F4 (by rw[hσ];rfl) trivial (mo (f2.trans f3))).trans fun g5 w5 hd5=>?_
 obtain⟨I,B,fr5,rfl,f5,F5,_⟩:=hd5
 rw[hσ]at F5
 have f15:=f13.trans f5
 have hs5:=hs.keep f15
 refine(so9.go (mkE [] [] [(31,s)]) (Q:=fun v w'=>GrOut w5.heap.size s x.tree w' v (grownF (x.tree.length+1) x.tree true)) F5 rfl fun w' f6=>(grown_all (root:=true) (x.tree.length+1) (hs5.keep f6) (by omega) (by omega)).mono fun v w6 O=>⟨O.1,?_⟩).trans fun g6 w6 hd6=>?_
 ·unfold GrOut at O⊢
  cases e:grownF (x.tree.length+1) x.tree true with
  |none=>rw[e]at O;exact O.2
  |some y=>
   rw[e]at O
   obtain⟨_,p,s',h1,h2,h3⟩:=O
   exact⟨p,s',h1,h2.keepBut (Fresh.refl _) fun x u lt=>⟨fun hh=>by omega,Nat.le_trans f6.size u⟩,h3⟩
 obtain⟨fr6,vv,rfl,f6,hO,F6⟩:=hd6
 have f26:=f2.trans (f3.trans (f5.trans f6))
 unfold GrOut at hO
 cases e:grownF (x.tree.length+1) x.tree true with
 |none=>
  rw[e]at hO
  have hO:vv=noneV:=hO
  subst hO
  refine(soA.go σ F6 (by rw[hσ];rfl) trivial (mo f26)).trans fun g7 w7 hd7=>?_
  obtain⟨I,B,fr7,rfl,f7,F7,_⟩:=hd7
  exact done (n:=1) (f15.trans (f6.trans f7)) F7 (by
   unfold soundF
   rw[if_neg h4,if_neg hnn,e])
 |some y=>
 obtain⟨t,rest⟩:=y
 rw[e]at hO
 obtain⟨p,s',rfl,hpt,hrest⟩:=hO
 have hfl:=grownF_flat _ _ _ _ _ e
 have hr6:=hrest w hs
 obtain rfl:z=false:=by
  cases z with
  |false=>rfl
  |true=>
   rw[hz rfl]at e
   cases e
 have hX6:w6.cell? ⟨X,0,none⟩=some (.string x.name)∧w6.cell? ⟨X,1,none⟩=some (slV A o x.tree.length c)∧w6.cell? ⟨X,2,none⟩=some (iV x.at'):=⟨f26.cell hX.1,by rw[<-show s=slV A o x.tree.length c from hsz];exact f26.cell hX.2.1,f26.cell hX.2.2⟩
 have hel6:∀i n,x.tree[i]?=some n->NdAt w6 A (o+i*4) n:=fun i n hi=>(hel i n hi).keep (f15.trans f6)
 have go1:∀{w7:World} {fr7:Frame},Fresh w6 w7->¬(0<rest.length∨x.at'<0)->FA 31 87 SoH1 [] .normal [(1,iV idx),(3,ptrV X),(7,ptrV p),(48,slV A o x.tree.length c),(49,iV x.tree.length),(50,iV 0)] fr7->Goes (G fr7 cs) w7 fun g' w'=>∃fr' v,g'=G fr' cs∧Leav 31 fr' w' v∧Fresh w w'∧v=iV (soundF x idx names):=fun f7 hno F7=>by
  refine(so_one (rest:=rest) hX6 hel6 (by omega) hpt hfl x.tree.length 0 (Nat.zero_add _) f7 F7).mono fun g8 w8 hd8=>?_
  obtain⟨fr8,rfl,f8,hL⟩:=hd8
  refine⟨fr8,_,rfl,hL,(f15.trans f6).trans f8,?_⟩
  unfold soundF
  rw[if_neg h4,if_neg hnn,e]
  dsimp only
  rw[if_neg hno,List.drop_zero]
 have bad1:∀{w7:World} {fr7:Frame} {k:List Item},Fresh w6 w7->(0<rest.length∨x.at'<0)->FA 31 87 (.code .ret::k) [] .normal [(6,iV 1)] fr7->Goes (G fr7 cs) w7 fun g' w'=>∃fr' v,g'=G fr' cs∧Leav 31 fr' w' v∧Fresh w w'∧v=iV (soundF x idx names):=fun f7 hyes F7=>done (n:=1) ((f15.trans f6).trans f7) F7 (by
  unfold soundF
  rw[if_neg h4,if_neg hnn,e]
  dsimp only
  rw[if_pos hyes])
 rcases hr6.ex with⟨rfl,rfl⟩|⟨A',o',c',rfl,hc',_⟩
 ·by_cases ha:x.at'<0
  ·refine(soDx.go (Go.Proofs.Ytmobbajggkjpgaa.SX.mkS [(7,idx),(4,x.at')] [(64,X),(62,p)] [(8,slV A o x.tree.length c)] [(1,x.name)]) F6 rfl ⟨decide_eq_true ha,trivial⟩ ⟨hX6.1,hX6.2.1,hX6.2.2,trivial⟩).trans fun g7 w7 hd7=>?_
   obtain⟨I,B,fr7,rfl,f7,F7,_⟩:=hd7
   exact bad1 f7 (.inr ha) F7
  ·refine(soDy.go (Go.Proofs.Ytmobbajggkjpgaa.SX.mkS [(7,idx),(51,x.tree.length),(52,c),(53,o),(4,x.at')] [(50,A),(64,X),(62,p)] [] [(1,x.name)]) F6 rfl ⟨decide_eq_false ha,trivial⟩ ⟨hX6.1,hX6.2.1,hX6.2.2,trivial⟩).trans fun g7 w7 hd7=>?_
   obtain⟨I,B,fr7,rfl,f7,F7,_⟩:=hd7
   exact go1 f7 (by simp;omega) F7
 ·by_cases hr:((rest.length:Nat):Int)>0
  ·refine(soB.go (Go.Proofs.Ytmobbajggkjpgaa.SX.mkS [(7,idx),(4,x.at'),(56,o'),(57,rest.length),(58,c')] [(64,X),(62,p),(55,A')] [(8,slV A o x.tree.length c)] [(1,x.name)]) F6 rfl ⟨decide_eq_true hr,trivial⟩ ⟨hX6.1,hX6.2.1,hX6.2.2,trivial⟩).trans fun g7 w7 hd7=>?_
   obtain⟨I,B,fr7,rfl,f7,F7,_⟩:=hd7
   exact bad1 f7 (.inl (by omega)) F7
  ·by_cases ha:x.at'<0
   ·refine(soCx.go (Go.Proofs.Ytmobbajggkjpgaa.SX.mkS [(7,idx),(4,x.at'),(56,o'),(57,rest.length),(58,c')] [(64,X),(62,p),(55,A')] [(8,slV A o x.tree.length c)] [(1,x.name)]) F6 rfl ⟨decide_eq_false hr,decide_eq_true ha,trivial⟩ ⟨hX6.1,hX6.2.1,hX6.2.2,trivial⟩).trans fun g7 w7 hd7=>?_
    obtain⟨I,B,fr7,rfl,f7,F7,_⟩:=hd7
    exact bad1 f7 (.inr ha) F7
   ·refine(soCy.go (Go.Proofs.Ytmobbajggkjpgaa.SX.mkS [(7,idx),(51,x.tree.length),(52,c),(53,o),(4,x.at'),(56,o'),(57,rest.length),(58,c')] [(50,A),(64,X),(62,p),(55,A')] [] [(1,x.name)]) F6 rfl ⟨decide_eq_false hr,decide_eq_false ha,trivial⟩ ⟨hX6.1,hX6.2.1,hX6.2.2,trivial⟩).trans fun g7 w7 hd7=>?_
    obtain⟨I,B,fr7,rfl,f7,F7,_⟩:=hd7
    exact go1 f7 (by omega) F7
end
noncomputable def q21(l:List Nat):Code:=pc (bodyOf Try.f21) l
theorem ent21:enterA Try.prog 21 [.opq 0] .normal=.ok ⟨21,61,entT 21 [.opq 0],[.code (bodyOf Try.f21)],[],.run,.normal⟩:=by kernel_rfl
theorem ret21:RetC2 21 61 2 3:=fun st=>by kernel_rfl
theorem ck1(z y:Bool):Pc 21 61 [.code (q21 [])] [(0,.agg [slZ z 50 53 51 52,slZ y 60 66 67 68])] [] [] [] 21 [101,100] [1,4,12,13,14] [.code (q21 [1,1,0,1,0,0]),.inLoop (q21 [1,1,0,1,0,0]),.inBlock 0,.code (q21 [1,1,1])] [ptr0 100,.map (some (.dyn 101)),slZ z 50 53 51 52,i64 (lnZ z 51),i64 (.lit 0)] [(101,.map []),(100,.cells [slZ z 50 53 51 52,slZ y 60 66 67 68] 25)]:=⟨fun st=>by cases z<;>cases y<;>kernel_rfl,fun st=>by cases z<;>cases y<;>kernel_rfl,by cases z<;>cases y<;>kernel_rfl,of_decide_eq_true (by kernel_rfl)⟩
theorem ck2(y:Bool):Pc 21 61 [.code (q21 [1,1,0,1,0,0]),.inLoop (q21 [1,1,0,1,0,0]),.inBlock 0,.code (q21 [1,1,1])] [(1,ptr0 64),(4,.opq 4),(12,.slice (some ⟨(.dyn 50),(v 53)⟩) (v 51) (v 52)),(13,i64 (.tn (v 51))),(14,i64 (v 10))] [((.cmp .lss (v 10) (.tn (v 51))),true),((.cmp .leq (.lit 0) (v 10)),true),((.cmp .lss (v 10) (.lit 0)),false),((.cmp .geq (v 10) (.tn (v 51))),false)] [(⟨(.dyn 50),(.plus (.tn (v 53)) (.times (.tn (v 10)) (.lit 3)))⟩,ss 1),(⟨(.dyn 50),(.plus (.tn (.plus (.tn (v 53)) (.times (.tn (v 10)) (.lit 3)))) (.lit 1))⟩,slZ y 70 73 71 72),(⟨(.dyn 50),(.plus (.tn (.plus (.tn (v 53)) (.times (.tn (v 10)) (.lit 3)))) (.lit 2))⟩,i64 (v 4))] [] 24 [100] [1,4,5,6,12,13,14,19,20,21] [.inRegion (opsOf (q21 [1,1,0,1,0,0,1,1,0,0,1,0,0])) [3,4],.code (q21 [1,1,0,1,0,0,1,1,0,0,1,0,1]),.code (q21 [1,1,0,1,0,0,1,1,0,0,1,1]),.inBlock 1,.code (q21 [1,1,0,1,0,0,1,1,1]),.inLoop (q21 [1,1,0,1,0,0]),.inBlock 0,.code (q21 [1,1,1])] [ptr0 64,.opq 4,i64 (v 10),ptr0 100,.slice (some ⟨(.dyn 50),(v 53)⟩) (v 51) (v 52),i64 (.tn (v 51)),i64 (v 10),.agg [ss 1,slZ y 70 73 71 72,i64 (v 4)],i64 (v 10),.opq 4] [(100,.cells [ss 1,slZ y 70 73 71 72,i64 (v 4)] 51)]:=⟨fun st=>by cases y<;>kernel_rfl,fun st=>by cases y<;>kernel_rfl,by cases y<;>kernel_rfl,of_decide_eq_true (by kernel_rfl)⟩
theorem ck3:OpC 61 (opsOf (q21 [1,1,0,1,0,0,1,1,0,0,1,0,0])) 3 [(19,.opq 19),(20,.opq 20),(21,.opq 21)] 31 [.opq 19,.opq 20,.opq 21] 22:=⟨fun st=>by kernel_rfl,fun st=>by kernel_rfl,fun st=>by kernel_rfl,by kernel_rfl,by decide,rfl⟩
theorem ck4:Pc 21 61 [.inRegion (opsOf (q21 [1,1,0,1,0,0,1,1,0,0,1,0,0])) [4],.code (q21 [1,1,0,1,0,0,1,1,0,0,1,0,1]),.code (q21 [1,1,0,1,0,0,1,1,0,0,1,1]),.inBlock 1,.code (q21 [1,1,0,1,0,0,1,1,1]),.inLoop (q21 [1,1,0,1,0,0]),.inBlock 0,.code (q21 [1,1,1])] [(1,ptr0 64),(4,.opq 4),(5,i64 (v 10)),(6,ptr0 65),(12,.slice (some ⟨(.dyn 50),(v 53)⟩) (v 51) (v 52)),(13,i64 (.tn (v 51))),(14,i64 (v 10)),(22,i64 (v 5))] [((.cmp .neq (v 5) (.lit 0)),true)] [] [] 15 [] [2,3] [.code .ret,.code (q21 [1,1,0,1,0,0,1,1,0,0,1,1]),.inBlock 1,.code (q21 [1,1,0,1,0,0,1,1,1]),.inLoop (q21 [1,1,0,1,0,0]),.inBlock 0,.code (q21 [1,1,1])] [i64 (v 5),i64 (v 10)] []:=⟨fun st=>by kernel_rfl,fun st=>by kernel_rfl,by kernel_rfl,of_decide_eq_true (by kernel_rfl)⟩
theorem ck5:Pc 21 61 [.inRegion (opsOf (q21 [1,1,0,1,0,0,1,1,0,0,1,0,0])) [4],.code (q21 [1,1,0,1,0,0,1,1,0,0,1,0,1]),.code (q21 [1,1,0,1,0,0,1,1,0,0,1,1]),.inBlock 1,.code (q21 [1,1,0,1,0,0,1,1,1]),.inLoop (q21 [1,1,0,1,0,0]),.inBlock 0,.code (q21 [1,1,1])] [(1,ptr0 64),(4,.opq 4),(5,i64 (v 10)),(6,ptr0 65),(12,.slice (some ⟨(.dyn 50),(v 53)⟩) (v 51) (v 52)),(13,i64 (.tn (v 51))),(14,i64 (v 10)),(22,i64 (v 5))] [((.cmp .neq (v 5) (.lit 0)),false)] [(⟨(.dyn 65),(.lit 0)⟩,ss 1)] [] 13 [] [1,4,12,13,14,27,29] [.inRegion (opsOf (q21 [1,1,0,1,0,0,1,1,0,0,1,1])) [3],.inBlock 1,.code (q21 [1,1,0,1,0,0,1,1,1]),.inLoop (q21 [1,1,0,1,0,0]),.inBlock 0,.code (q21 [1,1,1])] [ptr0 64,.opq 4,.slice (some ⟨(.dyn 50),(v 53)⟩) (v 51) (v 52),i64 (.tn (v 51)),i64 (v 10),.opq 4,ss 1] []:=⟨fun st=>by kernel_rfl,fun st=>by kernel_rfl,by kernel_rfl,of_decide_eq_true (by kernel_rfl)⟩
theorem ck6:OpW 61 (opsOf (q21 [1,1,0,1,0,0,1,1,0,0,1,1])) 3 [] (.mapUpdate 76 (.tmp 27) (.tmp 29) (.const (.bool true))) 0 none:=⟨fun st=>by kernel_rfl,fun st=>by kernel_rfl,by kernel_rfl⟩
theorem ck7:Pc 21 61 [.inRegion (opsOf (q21 [1,1,0,1,0,0,1,1,0,0,1,1])) [],.inBlock 1,.code (q21 [1,1,0,1,0,0,1,1,1]),.inLoop (q21 [1,1,0,1,0,0]),.inBlock 0,.code (q21 [1,1,1])] [(1,ptr0 64),(4,.opq 4),(12,.slice (some ⟨(.dyn 50),(v 53)⟩) (v 51) (v 52)),(13,i64 (.tn (v 51))),(14,i64 (v 10))] [] [] [] 7 [] [1,4,12,13,14] [.code (q21 [1,1,0,1,0,0]),.inLoop (q21 [1,1,0,1,0,0]),.inBlock 0,.code (q21 [1,1,1])] [ptr0 64,.opq 4,.slice (some ⟨(.dyn 50),(v 53)⟩) (v 51) (v 52),i64 (.tn (v 51)),i64 (.op .add .i64 (v 10) (.lit 1))] []:=⟨fun st=>by kernel_rfl,fun st=>by kernel_rfl,by kernel_rfl,of_decide_eq_true (by kernel_rfl)⟩
theorem ck8(z y:Bool):Pc 21 61 [.code (q21 [1,1,0,1,0,0]),.inLoop (q21 [1,1,0,1,0,0]),.inBlock 0,.code (q21 [1,1,1])] [(1,ptr0 64),(4,.opq 4),(12,slZ z 50 53 51 52),(13,i64 (lnZ z 51)),(14,i64 (v 10))] [((.cmp .lss (v 10) (lnZ z 51)),false)] [(⟨(.dyn 64),(.lit 1)⟩,slZ y 60 66 67 68)] [] 17 [] [1,32,33,34] [.code (q21 [1,1,1,0,1,0,0]),.inLoop (q21 [1,1,1,0,1,0,0]),.inBlock 2,.code (q21 [1,1,1,1])] [ptr0 64,slZ y 60 66 67 68,i64 (lnZ y 67),i64 (.lit 0)] []:=⟨fun st=>by cases z<;>cases y<;>kernel_rfl,fun st=>by cases z<;>cases y<;>kernel_rfl,by cases z<;>cases y<;>kernel_rfl,of_decide_eq_true (by kernel_rfl)⟩
theorem ck9(z:Bool):Pc 21 61 [.code (q21 [1,1,1,0,1,0,0]),.inLoop (q21 [1,1,1,0,1,0,0]),.inBlock 2,.code (q21 [1,1,1,1])] [(1,ptr0 64),(32,.slice (some ⟨(.dyn 60),(v 66)⟩) (v 67) (v 68)),(33,i64 (.tn (v 67))),(34,i64 (v 10))] [((.cmp .lss (v 10) (.tn (v 67))),true),((.cmp .leq (.lit 0) (v 10)),true),((.cmp .lss (v 10) (.lit 0)),false),((.cmp .geq (v 10) (.tn (v 67))),false),((.cmp .geq (v 10) (.lit 4096)),true)] [(⟨(.dyn 64),(.lit 0)⟩,slZ z 50 53 51 52),(⟨(.dyn 60),(.plus (.tn (v 66)) (.tn (v 10)))⟩,i64 (v 12))] [] 26 [] [2,3] [.code .ret,.code (q21 [1,1,1,0,1,0,0,1,1,0,0,1,1]),.inBlock 3,.code (q21 [1,1,1,0,1,0,0,1,1,1]),.inLoop (q21 [1,1,1,0,1,0,0]),.inBlock 2,.code (q21 [1,1,1,1])] [i64 (.lit 34),i64 (.op .add .i64 (lnZ z 51) (v 10))] []:=⟨fun st=>by cases z<;>kernel_rfl,fun st=>by cases z<;>kernel_rfl,by cases z<;>kernel_rfl,of_decide_eq_true (by kernel_rfl)⟩
theorem ckA(z:Bool):Pc 21 61 [.code (q21 [1,1,1,0,1,0,0]),.inLoop (q21 [1,1,1,0,1,0,0]),.inBlock 2,.code (q21 [1,1,1,1])] [(1,ptr0 64),(32,.slice (some ⟨(.dyn 60),(v 66)⟩) (v 67) (v 68)),(33,i64 (.tn (v 67))),(34,i64 (v 10))] [((.cmp .lss (v 10) (.tn (v 67))),true),((.cmp .leq (.lit 0) (v 10)),true),((.cmp .lss (v 10) (.lit 0)),false),((.cmp .geq (v 10) (.tn (v 67))),false),((.cmp .geq (v 10) (.lit 4096)),false),((.cmp .lss (v 12) (.lit 0)),true)] [(⟨(.dyn 64),(.lit 0)⟩,slZ z 50 53 51 52),(⟨(.dyn 60),(.plus (.tn (v 66)) (.tn (v 10)))⟩,i64 (v 12))] [] 40 [] [2,3] [.code .ret,.inBlock 3,.code (q21 [1,1,1,0,1,0,0,1,1,1]),.inLoop (q21 [1,1,1,0,1,0,0]),.inBlock 2,.code (q21 [1,1,1,1])] [i64 (.lit 43),i64 (.op .add .i64 (lnZ z 51) (v 10))] []:=⟨fun st=>by cases z<;>kernel_rfl,fun st=>by cases z<;>kernel_rfl,by cases z<;>kernel_rfl,of_decide_eq_true (by kernel_rfl)⟩
theorem ckB(z:Bool):Pc 21 61 [.code (q21 [1,1,1,0,1,0,0]),.inLoop (q21 [1,1,1,0,1,0,0]),.inBlock 2,.code (q21 [1,1,1,1])] [(1,ptr0 64),(32,.slice (some ⟨(.dyn 60),(v 66)⟩) (v 67) (v 68)),(33,i64 (.tn (v 67))),(34,i64 (v 10))] [((.cmp .lss (v 10) (.tn (v 67))),true),((.cmp .leq (.lit 0) (v 10)),true),((.cmp .lss (v 10) (.lit 0)),false),((.cmp .geq (v 10) (.tn (v 67))),false),((.cmp .geq (v 10) (.lit 4096)),false),((.cmp .lss (v 12) (.lit 0)),false),((.cmp .geq (v 12) (lnZ z 51)),true)] [(⟨(.dyn 64),(.lit 0)⟩,slZ z 50 53 51 52),(⟨(.dyn 60),(.plus (.tn (v 66)) (.tn (v 10)))⟩,i64 (v 12))] [] 40 [] [2,3] [.code .ret,.inBlock 3,.code (q21 [1,1,1,0,1,0,0,1,1,1]),.inLoop (q21 [1,1,1,0,1,0,0]),.inBlock 2,.code (q21 [1,1,1,1])] [i64 (.lit 43),i64 (.op .add .i64 (lnZ z 51) (v 10))] []:=⟨fun st=>by cases z<;>kernel_rfl,fun st=>by cases z<;>kernel_rfl,by cases z<;>kernel_rfl,of_decide_eq_true (by kernel_rfl)⟩
theorem ckC(z:Bool):Pc 21 61 [.code (q21 [1,1,1,0,1,0,0]),.inLoop (q21 [1,1,1,0,1,0,0]),.inBlock 2,.code (q21 [1,1,1,1])] [(1,ptr0 64),(32,.slice (some ⟨(.dyn 60),(v 66)⟩) (v 67) (v 68)),(33,i64 (.tn (v 67))),(34,i64 (v 10))] [((.cmp .lss (v 10) (.tn (v 67))),true),((.cmp .leq (.lit 0) (v 10)),true),((.cmp .lss (v 10) (.lit 0)),false),((.cmp .geq (v 10) (.tn (v 67))),false),((.cmp .geq (v 10) (.lit 4096)),false),((.cmp .lss (v 12) (.lit 0)),false),((.cmp .geq (v 12) (lnZ z 51)),false)] [(⟨(.dyn 64),(.lit 0)⟩,slZ z 50 53 51 52),(⟨(.dyn 60),(.plus (.tn (v 66)) (.tn (v 10)))⟩,i64 (v 12))] [] 45 [] [1,32,33,34] [.code (q21 [1,1,1,0,1,0,0]),.inLoop (q21 [1,1,1,0,1,0,0]),.inBlock 2,.code (q21 [1,1,1,1])] [ptr0 64,.slice (some ⟨(.dyn 60),(v 66)⟩) (v 67) (v 68),i64 (.tn (v 67)),i64 (.op .add .i64 (v 10) (.lit 1))] []:=⟨fun st=>by cases z<;>kernel_rfl,fun st=>by cases z<;>kernel_rfl,by cases z<;>kernel_rfl,of_decide_eq_true (by kernel_rfl)⟩
theorem ckD(y:Bool):Pc 21 61 [.code (q21 [1,1,1,0,1,0,0]),.inLoop (q21 [1,1,1,0,1,0,0]),.inBlock 2,.code (q21 [1,1,1,1])] [(1,ptr0 64),(32,slZ y 60 66 67 68),(33,i64 (lnZ y 67)),(34,i64 (v 10))] [((.cmp .lss (v 10) (lnZ y 67)),false)] [] [] 12 [] [2,3] [.code .ret] [i64 (.lit 0),i64 (.lit 0)] []:=⟨fun st=>by cases y<;>kernel_rfl,fun st=>by cases y<;>kernel_rfl,by cases y<;>kernel_rfl,of_decide_eq_true (by kernel_rfl)⟩
structure FlowD where
 lets:List LetD
 outs:List Int
structure LetAt(w:World)(A o:Nat)(x:LetD):Prop where
 ex:∃ts,w.cell? ⟨A,o,none⟩=some (.string x.name)∧w.cell? ⟨A,o+1,none⟩=some ts∧w.cell? ⟨A,o+2,none⟩=some (iV x.at')∧NodesAt w ts x.tree
structure LetsAt(w:World)(s:Value)(L:List LetD):Prop where
 ex:∃(z:Bool) (A o c:Nat),s=hdV z A o L.length c∧(z=true->L=[])∧(z=false->L.length≤c)∧∀i x,L[i]?=some x->LetAt w A (o+i*3) x
structure IntsAt(w:World)(s:Value)(l:List Int):Prop where
 ex:∃(z:Bool) (A o c:Nat),s=hdV z A o l.length c∧(z=true->l=[])∧(z=false->l.length≤c)∧∀i n,l[i]?=some n->w.cell? ⟨A,o+i,none⟩=some (iV n)
def FlowAt(w:World)(x:Value)(F:FlowD):Prop:=∃ls os,x=.agg #[ls,os]∧LetsAt w ls F.lets∧IntsAt w os F.outs
theorem LetAt.keep{w w':World}{A o:Nat}{x:LetD}(h:LetAt w A o x)(f:Fresh w w'):LetAt w' A o x:=by
 obtain⟨ts,h1,h2,h3,h4⟩:=h.ex
 exact⟨ts,f.cell h1,f.cell h2,f.cell h3,h4.keep f⟩
theorem LetsAt.keep{w w':World}{s:Value}{L:List LetD}(h:LetsAt w s L)(f:Fresh w w'):LetsAt w' s L:=by
 obtain⟨z,A,o,c,h1,h2,h3,h4⟩:=h.ex
 exact⟨z,A,o,c,h1,h2,h3,fun i x hi=>(h4 i x hi).keep f⟩
theorem IntsAt.keep{w w':World}{s:Value}{l:List Int}(h:IntsAt w s l)(f:Fresh w w'):IntsAt w' s l:=by
 obtain⟨z,A,o,c,h1,h2,h3,h4⟩:=h.ex
 exact⟨z,A,o,c,h1,h2,h3,fun i x hi=>f.cell (h4 i x hi)⟩
theorem FlowAt.keep{w w':World}{x:Value}{F:FlowD}(h:FlowAt w x F)(f:Fresh w w'):FlowAt w' x F:=by
 obtain⟨ls,os,h1,h2,h3⟩:=h
 exact⟨ls,os,h1,h2.keep f,h3.keep f⟩
def chkLets:List LetD->Nat->List (ByteArray×Bool)->Option (Int×Nat)
 |[],_,_=>none
 |x::r,i,names=>if soundF x i names≠0 then some (soundF x i names,i)else chkLets r (i+1) (names++[(x.name,true)])
def chkOuts(n:Nat):List Int->Nat->Int×Int
 |[],_=>(0,0)
 |o::r,i=>if(i:Int)≥4096 then(34,wadd n i)else if o<0 then(43,wadd n i)else if o≥n then(43,wadd n i)else chkOuts n r (i+1)
def chkF(F:FlowD):Int×Int:=match chkLets F.lets 0 []with
 |some (e,i)=>(e,i)
 |none=>chkOuts F.lets.length F.outs 0
theorem findT_true{s:ByteArray}:∀{names:List (ByteArray×Bool)},(∀p∈names,p.2=true)->(findT s names).getD false=false->findT s names=none:=fun{names} h hf=>by
 unfold findT at hf⊢
 cases e:names.find? fun p=>s==p.1 with
 |none=>rfl
 |some p=>
  rw[e]at hf
  have:=h p (List.mem_of_find?_eq_some e)
  simp[this]at hf
theorem sound_new{x:LetD}{i:Nat}{names:List (ByteArray×Bool)}(h:soundF x i names=0):(findT x.name names).getD false=false:=by
 unfold soundF at h
 split at h
 ·cases h
 ·split at h
  ·cases h
  ·rename_i h2
   cases e:(findT x.name names).getD false with
   |false=>rfl
   |true=>exact(h2 (.inr e)).elim
noncomputable abbrev CkH1:List Item:=[.code (q21 [1,1,0,1,0,0]),.inLoop (q21 [1,1,0,1,0,0]),.inBlock 0,.code (q21 [1,1,1])]
noncomputable abbrev CkH2:List Item:=[.code (q21 [1,1,1,0,1,0,0]),.inLoop (q21 [1,1,1,0,1,0,0]),.inBlock 2,.code (q21 [1,1,1,1])]
section
variable {w w0:World}{cs:List Frame}{fr:Frame}{F:FlowD}{ls os:Value}{X M:Nat}
theorem ck_fin{k:List Item}{a b:Int}(fw:Fresh w0 w)(hf:FA 21 61 (.code .ret::k) [] .normal [(2,iV a),(3,iV b)] fr):Goes (G fr cs) w fun g' w'=>∃fr',g'=G fr' cs∧Fresh w0 w'∧Leav 21 fr' w' (.tuple #[iV a,iV b]):=by
 refine(leave2 ret21 hf rfl rfl).mono fun g6 w6 hd6=>?_
 obtain⟨fr6,rfl,rfl,hL⟩:=hd6
 exact⟨fr6,rfl,fw,hL⟩
theorem ck_outs{z:Bool}{A o c A' o' c' N:Nat}(hN:z=true->N=0)(h0:w0.cell? ⟨X,0,none⟩=some (hdV z A o N c)){outs:List Int}(hel:∀i n,outs[i]?=some n->w0.cell? ⟨A',o'+i,none⟩=some (iV n)):
  ∀(r:List Int) (i:Nat) {w:World} {cs:List Frame} {fr:Frame},outs.drop i=r->Fresh w0 w->i≤5000->FA 21 61 CkH2 [] .normal [(1,ptrV X),(32,slV A' o' outs.length c'),(33,iV outs.length),(34,iV i)] fr->
  Goes (G fr cs) w fun g' w'=>∃fr',g'=G fr' cs∧Fresh w0 w'∧Leav 21 fr' w' (.tuple #[iV (chkOuts N r i).1,iV (chkOuts N r i).2])
 |[],i,w,cs,fr,hr,fw,hi,hf=>by
  have hlen:outs.length≤i:=List.drop_eq_nil_iff.1 hr
  refine((ckD false).go (mkE [(67,outs.length),(68,c'),(66,o'),(10,i)] [(60,A'),(64,X)] []) hf rfl ⟨decide_eq_false (by show ¬((i:Int)<((outs.length:Nat):Int));omega),trivial⟩ trivial).trans fun g1 w1 hd=>?_
  obtain⟨I,B,fr1,rfl,f1,F1,_⟩:=hd
  exact ck_fin (fw.trans f1) F1
 |n::r,i,w,cs,fr,hr,fw,hi,hf=>by
  obtain⟨hn,hr2,hlt⟩:=drop_get hr
  obtain⟨ρ,hρ⟩:∃ρ:Env,ρ=mkE [(67,outs.length),(68,c'),(66,o'),(10,i),(12,n),(51,N),(52,c),(53,o)] [(60,A'),(64,X),(50,A)] []:=⟨_,rfl⟩
  have mm:AllM ρ w [(⟨(.dyn 64),(.lit 0)⟩,slZ z 50 53 51 52),(⟨(.dyn 60),(.plus (.tn (v 66)) (.tn (v 10)))⟩,i64 (v 12))]:=by
   rw[hρ]
   refine⟨(fw.cell h0).trans ?_,fw.cell (hel i n hn),trivial⟩
   cases z<;>rfl
  have bb:=ltB_ok (ρ:=ρ) (i:=10) (n:=67) (I:=i) (N:=outs.length) (by rw[hρ];rfl) (by rw[hρ];rfl) hlt
  have eN:(lnZ z 51).ev ρ=(N:Int):=by
   rw[hρ]
   cases z with
   |false=>rfl
   |true=>rw[hN rfl];rfl
  have bad:∀{k:List Item} {w1:World} {fr1:Frame} {e:Int} {I:Nat->Int} {B:Nat->Nat},Fresh w w1->FA 21 61 (.code .ret::k) [] .normal [(2,iV e),(3,iV (iop .add .i64 ((lnZ z 51).ev (mixE ρ I B)) ((mixE ρ I B).i 10)))] fr1->chkOuts N (n::r) i=(e,wadd N i)->Goes (G fr1 cs) w1 fun g' w'=>∃fr',g'=G fr' cs∧Fresh w0 w'∧Leav 21 fr' w' (.tuple #[iV (chkOuts N (n::r) i).1,iV (chkOuts N (n::r) i).2]):=fun{k w1 fr1 e I B} f1 F1 he=>by
   rw[he]
   have e1:(lnZ z 51).ev (mixE ρ I B)=(N:Int):=by
    rw[hρ]
    cases z with
    |false=>rfl
    |true=>rw[hN rfl];rfl
   rw[e1]at F1
   subst hρ
   exact ck_fin (fw.trans f1) F1
  by_cases h1:(i:Int)≥4096
  ·refine((ck9 z).go ρ hf (by rw[hρ];rfl) (AllB.app bb ⟨by rw[hρ];exact decide_eq_true h1,trivial⟩) mm).trans fun g1 w1 hd=>?_
   obtain⟨I,B,fr1,rfl,f1,F1,_⟩:=hd
   exact bad (I:=I) (B:=B) (e:=34) f1 F1 (by unfold chkOuts;rw[if_pos h1])
  by_cases h2:n<0
  ·refine((ckA z).go ρ hf (by rw[hρ];rfl) (AllB.app bb ⟨by rw[hρ];exact decide_eq_false h1,by rw[hρ];exact decide_eq_true h2,trivial⟩) mm).trans fun g1 w1 hd=>?_
   obtain⟨I,B,fr1,rfl,f1,F1,_⟩:=hd
   exact bad (I:=I) (B:=B) (e:=43) f1 F1 (by unfold chkOuts;rw[if_neg h1,if_pos h2])
  by_cases h3:n≥N
  ·refine((ckB z).go ρ hf (by rw[hρ];rfl) (AllB.app bb ⟨by rw[hρ];exact decide_eq_false h1,by rw[hρ];exact decide_eq_false h2,by show decide (ρ.i 12≥(lnZ z 51).ev ρ)=true;rw[eN,hρ];exact decide_eq_true h3,trivial⟩) mm).trans fun g1 w1 hd=>?_
   obtain⟨I,B,fr1,rfl,f1,F1,_⟩:=hd
   exact bad (I:=I) (B:=B) (e:=43) f1 F1 (by unfold chkOuts;rw[if_neg h1,if_neg h2,if_pos h3])
  refine((ckC z).go ρ hf (by rw[hρ];rfl) (AllB.app bb ⟨by rw[hρ];exact decide_eq_false h1,by rw[hρ];exact decide_eq_false h2,by show decide (ρ.i 12≥(lnZ z 51).ev ρ)=false;rw[eN,hρ];exact decide_eq_false h3,trivial⟩) mm).trans fun g1 w1 hd=>?_
  obtain⟨I,B,fr1,rfl,f1,F1,_⟩:=hd
  rw[hρ]at F1
  unfold chkOuts
  rw[if_neg h1,if_neg h2,if_neg h3]
  refine ck_outs (c':=c') hN h0 hel r (i+1) hr2 (fw.trans f1) (by omega) ?_
  rw[<-inc (i:=i) (by omega)]
  exact F1
theorem ck_lets{z:Bool}{A o c:Nat}{L:List LetD}(hz:z=true->L=[])(hx:w0.heap.size≤M)(h0:w0.heap.size≤X)(hXM:X≠M)(hos:IntsAt w0 os F.outs)(hL:F.lets=L)(hel:∀i x,L[i]?=some x->LetAt w0 A (o+i*3) x)(hlen:L.length≤1000000)(htr:∀x∈L,x.tree.length≤999999):
  ∀(r:List LetD) (i:Nat) {names:List (ByteArray×Bool)} {w:World} {cs:List Frame} {fr:Frame},L.drop i=r->Fresh w0 w->(Blk.obj 25 [hdV z A o L.length c,os]).at Try.prog w X->TextMap w M names->(∀p∈names,p.2=true)->FA 21 61 CkH1 [] .normal [(1,ptrV X),(4,.map (some M)),(12,hdV z A o L.length c),(13,iV L.length),(14,iV i)] fr->
  Goes (G fr cs) w fun g' w'=>∃fr',g'=G fr' cs∧Fresh w0 w'∧Leav 21 fr' w' (match chkLets r i names with
   |some (e,j)=>.tuple #[iV e,iV j]
   |none=>.tuple #[iV (chkOuts L.length F.outs 0).1,iV (chkOuts L.length F.outs 0).2])
 |[],i,names,w,cs,fr,hr,fw,hX,hM,hn,hf=>by
  have hli:L.length≤i:=List.drop_eq_nil_iff.1 hr
  obtain⟨y,A',o',c',rfl,hy,hyc,hyel⟩:=hos.ex
  have hN:z=true->L.length=0:=fun h=>by rw[hz h];rfl
  have hgo:Goes (G fr cs) w fun g' w'=>∃fr',g'=G fr' cs∧Fresh w w'∧FA 21 61 CkH2 [] .normal [(1,ptrV X),(32,hdV y A' o' F.outs.length c'),(33,iV F.outs.length),(34,iV 0)] fr':=by
   refine((ck8 z y).go (mkE [(51,L.length),(52,c),(53,o),(10,i),(67,F.outs.length),(68,c'),(66,o')] [(50,A),(64,X),(60,A')] [(4,.map (some M))]) hf (by
    cases z with
    |false=>rfl
    |true=>rw[hz rfl];rfl) ⟨?_,trivial⟩ ⟨?_,trivial⟩).mono fun g1 w1 hd=>?_
   ·cases z with
    |false=>exact decide_eq_false (by show ¬((i:Int)<((L.length:Nat):Int));omega)
    |true=>exact decide_eq_false (by show ¬((i:Int)<0);omega)
   ·have:=blk_cell hX (i:=1) rfl
    refine Eq.trans this ?_
    cases y<;>rfl
   ·obtain⟨I,B,fr1,rfl,f1,F1,_⟩:=hd
    refine⟨fr1,rfl,f1,?_⟩
    cases y with
    |false=>exact F1
    |true=>rw[hy rfl];exact F1
  refine hgo.trans fun g1 w1 hd=>?_
  obtain⟨fr1,rfl,f1,F1⟩:=hd
  have fw1:=fw.trans f1
  unfold chkLets
  dsimp only
  cases y with
  |true=>
   have ho:F.outs=[]:=hy rfl
   rw[ho]at F1⊢
   refine((ckD true).go (mkE [(10,0)] [(64,X)] []) F1 rfl ⟨rfl,trivial⟩ trivial).trans fun g2 w2 hd2=>?_
   obtain⟨I,B,fr2,rfl,f2,F2,_⟩:=hd2
   exact ck_fin (fw1.trans f2) F2
  |false=>
   have hc0:w1.cell? ⟨X,0,none⟩=some (hdV z A o L.length c):=f1.cell (blk_cell hX (i:=0) rfl)
   have hye:∀i n,F.outs[i]?=some n->w1.cell? ⟨A',o'+i,none⟩=some (iV n):=fun i n hi=>fw1.cell (hyel i n hi)
   refine(ck_outs (w0:=w1) (c':=c') hN hc0 hye F.outs 0 rfl (Fresh.refl w1) (by omega) F1).mono fun g2 w2 hd2=>?_
   obtain⟨fr2,rfl,f2,hL⟩:=hd2
   exact⟨fr2,rfl,fw1.trans f2,hL⟩
 |x::r,i,names,w,cs,fr,hr,fw,hX,hM,hn,hf=>by
  obtain⟨hx',hr2,hlt⟩:=drop_get hr
  obtain rfl:z=false:=by
   cases z with
   |false=>rfl
   |true=>rw[hz rfl]at hlt;simp at hlt
  obtain⟨ts,a0,a1,a2,a3⟩:=((hel i x hx').keep fw).ex
  have hxl:x.tree.length≤999999:=htr x (List.mem_of_getElem? hx')
  obtain⟨y,A',o',c',hts,hy⟩:∃(y:Bool) (A' o' c':Nat),ts=hdV y A' o' x.tree.length c'∧True:=by
   rcases a3.ex with⟨h1,h2⟩|⟨A',o',c',h1,h2,h3⟩
   ·exact⟨true,0,0,0,h1,trivial⟩
   ·exact⟨false,A',o',c',h1,trivial⟩
  obtain⟨ρ,hρ⟩:∃ρ:Env,ρ=Go.Proofs.Ytmobbajggkjpgaa.SX.mkS [(51,L.length),(52,c),(53,o),(10,i),(71,x.tree.length),(72,c'),(73,o'),(4,x.at')] [(50,A),(64,X),(70,A')] [(4,.map (some M))] [(1,x.name)]:=⟨_,rfl⟩
  have e70:(slZ y 70 73 71 72).ev ρ=ts:=by
   rw[hts,hρ]
   cases y<;>rfl
  refine((ck2 y).go ρ hf (by rw[hρ];rfl) (ltB_ok (ρ:=ρ) (i:=10) (n:=51) (I:=i) (N:=L.length) (by rw[hρ];rfl) (by rw[hρ];rfl) hlt) ⟨by rw[hρ];exact a0,by rw[e70,hρ];exact a1,by rw[hρ];exact a2,trivial⟩).trans fun g1 w1 hd=>?_
  obtain⟨I,B,fr1,rfl,f1,F1,bl,_⟩:=hd
  have e70':(slZ y 70 73 71 72).ev (mixE ρ I B)=ts:=by
   rw[hts,hρ]
   cases y<;>rfl
  have hb:(Blk.obj 51 [.string x.name,ts,iV x.at']).at Try.prog w1 (B 100):=by
   have:=bl.1.2
   rw[<-e70']
   rw[hρ]at this⊢
   exact this
  have F1':FA 21 61 (.inRegion (opsOf (q21 [1,1,0,1,0,0,1,1,0,0,1,0,0])) [3,4]::[.code (q21 [1,1,0,1,0,0,1,1,0,0,1,0,1]),.code (q21 [1,1,0,1,0,0,1,1,0,0,1,1]),.inBlock 1,.code (q21 [1,1,0,1,0,0,1,1,1]),.inLoop (q21 [1,1,0,1,0,0]),.inBlock 0,.code (q21 [1,1,1])]) [] .normal [(1,ptrV X),(4,.map (some M)),(5,iV i),(6,ptrV (B 100)),(12,slV A o L.length c),(13,iV L.length),(14,iV i),(19,letV x ts),(20,iV i),(21,.map (some M))] fr1:=by
   have e0:letV x ts=.agg #[.string x.name,(slZ y 70 73 71 72).ev (mixE ρ I B),iV x.at']:=by rw[e70'];rfl
   rw[e0]
   rw[hρ]at F1⊢
   exact F1
  have hM1:TextMap w1 M names:=blk_keep (k:=.map _) hM f1
  refine(ck3.go (mkE [] [] [(19,letV x ts),(20,iV i),(21,.map (some M))]) (Q:=fun v w'=>v=iV (soundF x i names)) F1' rfl fun w' f2=>sound_all ((a3.keep (f1.trans f2))) hxl (blk_keep (k:=.map _) hM1 f2)).trans fun g2 w2 hd2=>?_
  obtain⟨fr2,vv,rfl,f2,rfl,F2⟩:=hd2
  have f12:=f1.trans f2
  obtain⟨σ,hσ⟩:∃σ:Env,σ=Go.Proofs.Ytmobbajggkjpgaa.SX.mkS [(51,L.length),(52,c),(53,o),(10,i),(5,soundF x i names)] [(50,A),(64,X),(65,B 100)] [(4,.map (some M))] [(1,x.name)]:=⟨_,rfl⟩
  by_cases he:soundF x i names=0
  ·refine(ck5.go σ F2 (by rw[hσ];rfl) ⟨by rw[hσ];show(!decide (soundF x i names=0))=false;rw[decide_eq_true he];rfl,trivial⟩ ⟨by rw[hσ];exact f2.cell (blk_cell hb (i:=0) rfl),trivial⟩).trans fun g3 w3 hd3=>?_
   obtain⟨I,B',fr3,rfl,f3,F3,_⟩:=hd3
   rw[hσ]at F3
   have f13:=f12.trans f3
   have hM3:TextMap w3 M names:=blk_keep (k:=.map _) hM f13
   have hnone:=findT_true hn (sound_new he)
   refine(ck6.go0 (R:=fun w'=>TextMap w' M (names++[(x.name,true)])∧Keeps (fun n=>n=M) w3 w') (mkE [] [] []) F3 rfl fun tm htm x' e1 e2=>?_).trans fun g4 w4 hd4=>?_
   ·unfold execOp
    simp only[e1,wq_bind]
    rw[htm 27 (.map (some M)) rfl,htm 29 (.string x.name) rfl]
    exact wq_newText hM3 hnone fun w' h1 h2=>⟨rfl,h1,h2⟩
   obtain⟨fr4,rfl,⟨hM4,kp4⟩,F4⟩:=hd4
   have fw4:Fresh w0 w4:=fresh_keeps (fw.trans f13) (kp4.mono fun n hn=>by rw[hn];exact hx)
   have hX4:(Blk.obj 25 [hdV false A o L.length c,os]).at Try.prog w4 X:=Blk.at_keep (blk_keep hX f13) kp4 fun h=>hXM h
   refine(ck7.go (mkE [(51,L.length),(52,c),(53,o),(10,i)] [(50,A),(64,X)] [(4,.map (some M))]) F4 rfl trivial trivial).trans fun g5 w5 hd5=>?_
   obtain⟨I,B',fr5,rfl,f5,F5,_⟩:=hd5
   have ec:chkLets (x::r) i names=chkLets r (i+1) (names++[(x.name,true)]):=by
    conv=>lhs;unfold chkLets
    rw[if_neg (by rw[he];decide)]
   rw[ec]
   refine ck_lets hz hx h0 hXM hos hL hel hlen htr r (i+1) hr2 (fw4.trans f5) (blk_keep hX4 f5) (blk_keep (k:=.map _) hM4 f5) (fun p hp=>?_) ?_
   ·rcases List.mem_append.1 hp with hp|hp
    ·exact hn p hp
    ·obtain rfl:=List.mem_singleton.1 hp
     rfl
   ·rw[<-inc (i:=i) (by omega)]
    exact F5
  ·refine(ck4.go σ F2 (by rw[hσ];rfl) ⟨by rw[hσ];show(!decide (soundF x i names=0))=true;rw[decide_eq_false he];rfl,trivial⟩ trivial).trans fun g3 w3 hd3=>?_
   obtain⟨I,B',fr3,rfl,f3,F3,_⟩:=hd3
   rw[hσ]at F3
   unfold chkLets
   rw[if_pos he]
   exact ck_fin (fw.trans (f12.trans f3)) F3
theorem check_all{x:Value}(h:FlowAt w x F)(hlen:F.lets.length≤1000000)(htr:∀x∈F.lets,x.tree.length≤999999):Ans 21 #[x] w fun v w'=>Fresh w w'∧v=.tuple #[iV (chkF F).1,iV (chkF F).2]:=by
 obtain⟨ls,os,rfl,hl,ho⟩:=h
 obtain⟨z,A,o,c,hls,hz,hzc,hel⟩:=hl.ex
 obtain⟨y,A',o',c',hos,hy,hyc,hyel⟩:=ho.ex
 refine ans_of fun cs=>?_
 have E:=enter1 ent21 rfl (.agg #[ls,os])
 obtain⟨ρ,hρ⟩:∃ρ:Env,ρ=mkE [(51,F.lets.length),(52,c),(53,o),(67,F.outs.length),(68,c'),(66,o')] [(50,A),(60,A')] []:=⟨_,rfl⟩
 refine((ck1 z y).go ρ E (by rw[hls,hos,hρ];cases z<;>cases y<;>rfl) trivial trivial).trans fun g1 w1 hd=>?_
 obtain⟨I,B,fr1,rfl,f1,F1,bl,inj⟩:=hd
 have hM:TextMap w1 (B 101) []:=bl.1.2
 have hX:(Blk.obj 25 [hdV z A o F.lets.length c,os]).at Try.prog w1 (B 100):=by
  have:=bl.2.1.2
  have e1:(slZ z 50 53 51 52).ev (mixE ρ I B)=hdV z A o F.lets.length c:=by rw[hρ];cases z<;>rfl
  have e2:(slZ y 60 66 67 68).ev (mixE ρ I B)=os:=by rw[hos,hρ];cases y<;>rfl
  rw[<-e1,<-e2]
  rw[hρ]at this⊢
  exact this
 have hXM:B 100≠B 101:=fun e=>by
  have:=inj _ (List.mem_cons_of_mem _ (List.mem_singleton.2 rfl)) _ (List.mem_cons_self ..) (by rw[hρ];exact e)
  cases this
 have F1':FA 21 61 CkH1 [] .normal [(1,ptrV (B 100)),(4,.map (some (B 101))),(12,hdV z A o F.lets.length c),(13,iV F.lets.length),(14,iV 0)] fr1:=by
  rw[hρ]at F1
  cases z with
  |false=>exact F1
  |true=>rw[hz rfl];exact F1
 refine(ck_lets (w0:=w) (M:=B 101) (X:=B 100) (names:=[]) hz bl.1.1 bl.2.1.1 hXM ho rfl hel hlen htr F.lets 0 rfl f1 hX hM (nofun) F1').mono fun g2 w2 hd2=>?_
 obtain⟨fr2,rfl,f2,hL⟩:=hd2
 refine⟨fr2,_,rfl,hL,f2,?_⟩
 unfold chkF
 cases chkLets F.lets 0 []with
 |none=>rfl
 |some p=>rfl
end
noncomputable def q22(l:List Nat):Code:=pc (bodyOf Try.f22) l
theorem ent22:enterA Try.prog 22 [.opq 0] .normal=.ok ⟨22,8,entT 22 [.opq 0],[.code (bodyOf Try.f22)],[],.run,.normal⟩:=by kernel_rfl
theorem ret22:RetC 22 8 2:=fun st=>by kernel_rfl
noncomputable def q47(l:List Nat):Code:=pc (bodyOf Try.f47) l
theorem ent47:enterA Try.prog 47 [.opq 0,.opq 1] .normal=.ok ⟨47,22,entT 47 [.opq 0,.opq 1],[.code (bodyOf Try.f47)],[],.run,.normal⟩:=by kernel_rfl
theorem ret47:RetC 47 22 4:=fun st=>by kernel_rfl
noncomputable def q32(l:List Nat):Code:=pc (bodyOf Try.f32) l
theorem ent32:enterA Try.prog 32 [.opq 0,.opq 1] .normal=.ok ⟨32,28,entT 32 [.opq 0,.opq 1],[.code (bodyOf Try.f32)],[],.run,.normal⟩:=by kernel_rfl
theorem ret32:RetC 32 28 4:=fun st=>by kernel_rfl
noncomputable def q33(l:List Nat):Code:=pc (bodyOf Try.f33) l
noncomputable def q48(l:List Nat):Code:=pc (bodyOf Try.f48) l
theorem ent48:enterA Try.prog 48 [.opq 0,.opq 1] .normal=.ok ⟨48,41,entT 48 [.opq 0,.opq 1],[.code (bodyOf Try.f48)],[],.run,.normal⟩:=by kernel_rfl
theorem ret48:RetC 48 41 4:=fun st=>by kernel_rfl
noncomputable def q91(l:List Nat):Code:=pc (bodyOf Try.f91) l
theorem ent91:enterA Try.prog 91 [.opq 0] .normal=.ok ⟨91,5,entT 91 [.opq 0],[.code (bodyOf Try.f91)],[],.run,.normal⟩:=by kernel_rfl
noncomputable def q92(l:List Nat):Code:=pc (bodyOf Try.f92) l
theorem ent92:enterA Try.prog 92 [.opq 0] .normal=.ok ⟨92,4,entT 92 [.opq 0],[.code (bodyOf Try.f92)],[],.run,.normal⟩:=by kernel_rfl
theorem rt1:Pc 22 8 [.code (q22 [])] [(0,.agg [ss 1,.slice (some ⟨(.dyn 50),(v 53)⟩) (v 51) (v 52),i64 (v 4)])] [((.cmp .lss (.lit 0) (.tn (v 51))),true)] [(⟨(.dyn 50),(v 53)⟩,i8 (v 1))] [] 14 [] [2] [.code .ret] [i8 (v 1)] []:=⟨fun st=>by kernel_rfl,fun st=>by kernel_rfl,by kernel_rfl,of_decide_eq_true (by kernel_rfl)⟩
theorem sk1:Pc 47 22 [.code (q47 [])] [(0,ptr0 61),(1,i64 (v 10))] [] [] [] 11 [] [0,1,5] [.code (q47 [1,0,1,0,0]),.inLoop (q47 [1,0,1,0,0]),.inBlock 0,.code (q47 [1,1])] [ptr0 61,i64 (v 10),i64 (.lit 1)] []:=⟨fun st=>by kernel_rfl,fun st=>by kernel_rfl,by kernel_rfl,of_decide_eq_true (by kernel_rfl)⟩
theorem sk2:Pc 47 22 [.code (q47 [1,0,1,0,0]),.inLoop (q47 [1,0,1,0,0]),.inBlock 0,.code (q47 [1,1])] [(0,ptr0 61),(1,i64 (v 10)),(5,i64 (v 8))] [((.cmp .lss (v 10) (.tn (v 51))),true),((.cmp .leq (.lit 0) (v 10)),true),((.cmp .lss (v 10) (.lit 0)),false),((.cmp .geq (v 10) (.tn (v 51))),false),((.cmp .gtr (v 8) (.lit 0)),true)] [(⟨(.dyn 61),(.lit 0)⟩,.slice (some ⟨(.dyn 50),(v 53)⟩) (v 51) (v 52)),(⟨(.dyn 50),(.plus (.tn (.plus (.tn (v 53)) (.times (.tn (v 10)) (.lit 4)))) (.lit 2))⟩,i64 (v 13))] [] 31 [] [0,1,5] [.code (q47 [1,0,1,0,0]),.inLoop (q47 [1,0,1,0,0]),.inBlock 0,.code (q47 [1,1])] [ptr0 61,i64 (.op .add .i64 (v 10) (.lit 1)),i64 (.op .add .i64 (v 8) (.op .sub .i64 (v 13) (.lit 1)))] []:=⟨fun st=>by kernel_rfl,fun st=>by kernel_rfl,by kernel_rfl,of_decide_eq_true (by kernel_rfl)⟩
theorem sk3:Pc 47 22 [.code (q47 [1,0,1,0,0]),.inLoop (q47 [1,0,1,0,0]),.inBlock 0,.code (q47 [1,1])] [(0,ptr0 61),(1,i64 (v 10)),(5,i64 (v 8))] [((.cmp .gtr (v 8) (.lit 0)),false)] [] [] 13 [] [4] [.code .ret] [i64 (v 10)] []:=⟨fun st=>by kernel_rfl,fun st=>by kernel_rfl,by kernel_rfl,of_decide_eq_true (by kernel_rfl)⟩
theorem kd1:Pc 32 28 [.code (q32 [])] [(0,ptr0 61),(1,i64 (v 10))] [((.cmp .lss (v 10) (.tn (v 51))),true),((.cmp .leq (.lit 0) (v 10)),true),((.cmp .lss (v 10) (.lit 0)),false),((.cmp .geq (v 10) (.tn (v 51))),false)] [(⟨(.dyn 61),(.lit 0)⟩,.slice (some ⟨(.dyn 50),(v 53)⟩) (v 51) (v 52)),(⟨(.dyn 50),(.plus (.tn (.plus (.tn (v 53)) (.times (.tn (v 10)) (.lit 4)))) (.lit 2))⟩,i64 (v 13))] [] 29 [] [0,5,6,16,17] [.code (q32 [1,1,1,0,1,0,0]),.inLoop (q32 [1,1,1,0,1,0,0]),.inBlock 0,.code (q32 [1,1,1,1])] [ptr0 61,nilA,i64 (.op .add .i64 (v 10) (.lit 1)),i64 (v 13),i64 (.lit 0)] []:=⟨fun st=>by kernel_rfl,fun st=>by kernel_rfl,by kernel_rfl,of_decide_eq_true (by kernel_rfl)⟩
theorem kd2n:Pc 32 28 [.code (q32 [1,1,1,0,1,0,0]),.inLoop (q32 [1,1,1,0,1,0,0]),.inBlock 0,.code (q32 [1,1,1,1])] [(0,ptr0 61),(5,nilA),(6,i64 (v 11)),(16,i64 (v 13)),(17,i64 (v 9))] [((.cmp .lss (v 9) (v 13)),true)] [] [] 20 [101] [0,5,6,16,17,23,24] [.inRegion (opsOf (q32 [1,1,1,0,1,0,0,1,1,0,0,1])) [2,3],.inBlock 1,.code (q32 [1,1,1,0,1,0,0,1,1,1]),.inLoop (q32 [1,1,1,0,1,0,0]),.inBlock 0,.code (q32 [1,1,1,1])] [ptr0 61,.slice (some ⟨(.dyn 101),(.lit 0)⟩) (.lit 1) (v 101),i64 (v 11),i64 (v 13),i64 (v 9),ptr0 61,i64 (v 11)] [(101,.row [i64 (v 11)] 3 (v 101))]:=⟨fun st=>by kernel_rfl,fun st=>by kernel_rfl,by kernel_rfl,of_decide_eq_true (by kernel_rfl)⟩
theorem kd2:Pc 32 28 [.code (q32 [1,1,1,0,1,0,0]),.inLoop (q32 [1,1,1,0,1,0,0]),.inBlock 0,.code (q32 [1,1,1,1])] [(0,ptr0 61),(5,.slice (some ⟨(.dyn 52),(.lit 0)⟩) (v 8) (v 57)),(6,i64 (v 11)),(16,i64 (v 13)),(17,i64 (v 9))] [((.cmp .lss (v 9) (v 13)),true),((.cmp .leq (.plus (.tn (v 8)) (.lit 1)) (.lit 1048576)),true)] [] [(52,.pre false 65 (v 8) [] [] [] 3 (v 57))] 20 [101] [0,5,6,16,17,23,24] [.inRegion (opsOf (q32 [1,1,1,0,1,0,0,1,1,0,0,1])) [2,3],.inBlock 1,.code (q32 [1,1,1,0,1,0,0,1,1,1]),.inLoop (q32 [1,1,1,0,1,0,0]),.inBlock 0,.code (q32 [1,1,1,1])] [ptr0 61,.slice (some ⟨(.dyn 101),(.lit 0)⟩) (.plus (.tn (v 8)) (.lit 1)) (v 101),i64 (v 11),i64 (v 13),i64 (v 9),ptr0 61,i64 (v 11)] [(101,.pre false 65 (v 8) [] [] [i64 (v 11)] 3 (v 101))]:=⟨fun st=>by kernel_rfl,fun st=>by kernel_rfl,by kernel_rfl,of_decide_eq_true (by kernel_rfl)⟩
theorem kd3:OpC 28 (opsOf (q32 [1,1,1,0,1,0,0,1,1,0,0,1])) 2 [(23,.opq 23),(24,.opq 24)] 47 [.opq 23,.opq 24] 25:=⟨fun st=>by kernel_rfl,fun st=>by kernel_rfl,fun st=>by kernel_rfl,by kernel_rfl,by decide,rfl⟩
theorem kd4:Pc 32 28 [.inRegion (opsOf (q32 [1,1,1,0,1,0,0,1,1,0,0,1])) [3],.inBlock 1,.code (q32 [1,1,1,0,1,0,0,1,1,1]),.inLoop (q32 [1,1,1,0,1,0,0]),.inBlock 0,.code (q32 [1,1,1,1])] [(0,ptr0 61),(5,.opq 5),(16,i64 (v 13)),(17,i64 (v 9)),(25,i64 (v 12))] [] [] [] 8 [] [0,5,6,16,17] [.code (q32 [1,1,1,0,1,0,0]),.inLoop (q32 [1,1,1,0,1,0,0]),.inBlock 0,.code (q32 [1,1,1,1])] [ptr0 61,.opq 5,i64 (v 12),i64 (v 13),i64 (.op .add .i64 (v 9) (.lit 1))] []:=⟨fun st=>by kernel_rfl,fun st=>by kernel_rfl,by kernel_rfl,of_decide_eq_true (by kernel_rfl)⟩
theorem kd5:Pc 32 28 [.code (q32 [1,1,1,0,1,0,0]),.inLoop (q32 [1,1,1,0,1,0,0]),.inBlock 0,.code (q32 [1,1,1,1])] [(0,ptr0 61),(5,.opq 5),(6,i64 (v 11)),(16,i64 (v 13)),(17,i64 (v 9))] [((.cmp .lss (v 9) (v 13)),false)] [] [] 12 [] [4] [.code .ret] [.opq 5] []:=⟨fun st=>by kernel_rfl,fun st=>by kernel_rfl,by kernel_rfl,of_decide_eq_true (by kernel_rfl)⟩
theorem of1:Pc 33 11 [.code (q33 [])] [(0,.agg [i8 (v 1),i64 (v 2)])] [((.cmp .eql (v 1) (.lit 1)),true)] [] [] 20 [] [2] [.code .ret,.code (q33 [1,1])] [.iface 79 (i64 (v 2))] []:=⟨fun st=>by kernel_rfl,fun st=>by kernel_rfl,by kernel_rfl,of_decide_eq_true (by kernel_rfl)⟩
theorem of2:Pc 33 11 [.code (q33 [])] [(0,.agg [i8 (v 1),i64 (v 2)])] [((.cmp .eql (v 1) (.lit 1)),false)] [] [] 20 [] [2] [.code .ret] [.iface 82 (.agg [i8 (v 1),i64 (v 2)])] []:=⟨fun st=>by kernel_rfl,fun st=>by kernel_rfl,by kernel_rfl,of_decide_eq_true (by kernel_rfl)⟩
theorem bd1:Pc 48 41 [.code (q48 [])] [(0,.agg [i64 (v 1),i64 (v 2),i64 (v 3),i64 (v 4)]),(1,i64 (v 5))] [((.cmp .gtr (v 4) (.lit 0)),true),((.cmp .eql (v 4) (.lit 0)),false),((.cmp .eql (.op .rem .i64 (v 5) (v 4)) (.lit 0)),true)] [] [] 29 [] [4] [.code .ret,.inBlock 0,.code (q48 [1,1])] [.iface 82 (.agg [i8 (.lit 3),i64 (v 5)])] []:=⟨fun st=>by kernel_rfl,fun st=>by kernel_rfl,by kernel_rfl,of_decide_eq_true (by kernel_rfl)⟩
theorem bd2:Pc 48 41 [.code (q48 [])] [(0,.agg [i64 (v 1),i64 (v 2),i64 (v 3),i64 (v 4)]),(1,i64 (v 5))] [((.cmp .gtr (v 4) (.lit 0)),true),((.cmp .eql (v 4) (.lit 0)),false),((.cmp .eql (.op .rem .i64 (v 5) (v 4)) (.lit 0)),false),((.cmp .gtr (v 3) (.lit 0)),true),((.cmp .eql (v 3) (.lit 0)),false),((.cmp .eql (.op .rem .i64 (v 5) (v 3)) (.lit 0)),true)] [] [] 44 [] [4] [.code .ret,.inBlock 0,.code (q48 [1,1])] [.iface 82 (.agg [i8 (.lit 2),i64 (v 5)])] []:=⟨fun st=>by kernel_rfl,fun st=>by kernel_rfl,by kernel_rfl,of_decide_eq_true (by kernel_rfl)⟩
theorem bd3:Pc 48 41 [.code (q48 [])] [(0,.agg [i64 (v 1),i64 (v 2),i64 (v 3),i64 (v 4)]),(1,i64 (v 5))] [((.cmp .gtr (v 4) (.lit 0)),true),((.cmp .eql (v 4) (.lit 0)),false),((.cmp .eql (.op .rem .i64 (v 5) (v 4)) (.lit 0)),false),((.cmp .gtr (v 3) (.lit 0)),true),((.cmp .eql (v 3) (.lit 0)),false),((.cmp .eql (.op .rem .i64 (v 5) (v 3)) (.lit 0)),false)] [] [] 51 [] [4] [.code .ret] [.iface 79 (i64 (.op .add .i64 (.op .mul .i64 (v 5) (v 1)) (v 2)))] []:=⟨fun st=>by kernel_rfl,fun st=>by kernel_rfl,by kernel_rfl,of_decide_eq_true (by kernel_rfl)⟩
theorem bd4:Pc 48 41 [.code (q48 [])] [(0,.agg [i64 (v 1),i64 (v 2),i64 (v 3),i64 (v 4)]),(1,i64 (v 5))] [((.cmp .gtr (v 4) (.lit 0)),true),((.cmp .eql (v 4) (.lit 0)),false),((.cmp .eql (.op .rem .i64 (v 5) (v 4)) (.lit 0)),false),((.cmp .gtr (v 3) (.lit 0)),false)] [] [] 51 [] [4] [.code .ret] [.iface 79 (i64 (.op .add .i64 (.op .mul .i64 (v 5) (v 1)) (v 2)))] []:=⟨fun st=>by kernel_rfl,fun st=>by kernel_rfl,by kernel_rfl,of_decide_eq_true (by kernel_rfl)⟩
theorem bd5:Pc 48 41 [.code (q48 [])] [(0,.agg [i64 (v 1),i64 (v 2),i64 (v 3),i64 (v 4)]),(1,i64 (v 5))] [((.cmp .gtr (v 4) (.lit 0)),false),((.cmp .gtr (v 3) (.lit 0)),true),((.cmp .eql (v 3) (.lit 0)),false),((.cmp .eql (.op .rem .i64 (v 5) (v 3)) (.lit 0)),true)] [] [] 44 [] [4] [.code .ret,.inBlock 0,.code (q48 [1,1])] [.iface 82 (.agg [i8 (.lit 2),i64 (v 5)])] []:=⟨fun st=>by kernel_rfl,fun st=>by kernel_rfl,by kernel_rfl,of_decide_eq_true (by kernel_rfl)⟩
theorem bd6:Pc 48 41 [.code (q48 [])] [(0,.agg [i64 (v 1),i64 (v 2),i64 (v 3),i64 (v 4)]),(1,i64 (v 5))] [((.cmp .gtr (v 4) (.lit 0)),false),((.cmp .gtr (v 3) (.lit 0)),true),((.cmp .eql (v 3) (.lit 0)),false),((.cmp .eql (.op .rem .i64 (v 5) (v 3)) (.lit 0)),false)] [] [] 51 [] [4] [.code .ret] [.iface 79 (i64 (.op .add .i64 (.op .mul .i64 (v 5) (v 1)) (v 2)))] []:=⟨fun st=>by kernel_rfl,fun st=>by kernel_rfl,by kernel_rfl,of_decide_eq_true (by kernel_rfl)⟩
theorem bd7:Pc 48 41 [.code (q48 [])] [(0,.agg [i64 (v 1),i64 (v 2),i64 (v 3),i64 (v 4)]),(1,i64 (v 5))] [((.cmp .gtr (v 4) (.lit 0)),false),((.cmp .gtr (v 3) (.lit 0)),false)] [] [] 51 [] [4] [.code .ret] [.iface 79 (i64 (.op .add .i64 (.op .mul .i64 (v 5) (v 1)) (v 2)))] []:=⟨fun st=>by kernel_rfl,fun st=>by kernel_rfl,by kernel_rfl,of_decide_eq_true (by kernel_rfl)⟩
theorem e91:Pc 91 5 [.code (q91 [])] [(0,i64 (v 1))] [] [] [] 10 [100] [2] [.code .ret] [ptr0 100] [(100,.cells [i8 (.lit 1),i64 (v 1)] 30)]:=⟨fun st=>by kernel_rfl,fun st=>by kernel_rfl,by kernel_rfl,of_decide_eq_true (by kernel_rfl)⟩
theorem e92:Pc 92 4 [.code (q92 [])] [(0,.agg [i8 (v 1),i64 (v 2)])] [] [] [] 10 [101,100] [2] [.code .ret] [ptr0 101] [(101,.cells [i8 (v 1),i64 (v 2)] 30),(100,.cells [i8 (v 1),i64 (v 2)] 82)]:=⟨fun st=>by kernel_rfl,fun st=>by kernel_rfl,by kernel_rfl,of_decide_eq_true (by kernel_rfl)⟩
section
mutual
def WfT:T->Prop
 |.nd n ks=>n.kids=ks.length∧WfL ks
def WfL:List T->Prop
 |[]=>True
 |t::r=>WfT t∧WfL r
end
theorem WfL.app:∀{a b:List T},WfL a->WfL b->WfL (a++b)
 |[],b,_,h=>h
 |t::a,b,h,h'=>⟨h.1,WfL.app h.2 h'⟩
theorem flatL_app:∀(a b:List T),flatL (a++b)=flatL a++flatL b
 |[],b=>rfl
 |t::a,b=>by
  show flat t++flatL (a++b)=flat t++flatL a++flatL b
  rw[flatL_app a b,List.append_assoc]
def outV(e:Int×Int):Value:=if e.1=1 then .iface 79 (iV e.2)else .iface 82 (.agg #[i8V e.1,iV e.2])
def endV(e:Int×Int):Value:=.agg #[i8V e.1,iV e.2]
structure MakerD where
 mul:Int
 add:Int
 fails:Int
 panics:Int
def makerV(m:MakerD):Value:=.agg #[iV m.mul,iV m.add,iV m.fails,iV m.panics]
def irem(a b:Int):Int:=iop .rem .i64 a b
def buildF(m:MakerD)(k:Int):Int×Int:=
 if m.panics>0∧irem k m.panics=0 then(3,k)
 else if m.fails>0∧irem k m.fails=0 then(2,k)
 else(1,iop .add .i64 (iop .mul .i64 k m.mul) m.add)
structure WalkAt(w:World)(b:Nat)(tree:List Nd)(A o c:Nat)(es:Value)(m:MakerD):Prop where
 c0:w.cell? ⟨b,0,none⟩=some (slV A o tree.length c)
 c1:w.cell? ⟨b,1,none⟩=some es
 c2:w.cell? ⟨b,2,none⟩=some (iV m.mul)
 c3:w.cell? ⟨b,3,none⟩=some (iV m.add)
 c4:w.cell? ⟨b,4,none⟩=some (iV m.fails)
 c5:w.cell? ⟨b,5,none⟩=some (iV m.panics)
 el:∀i n,tree[i]?=some n->NdAt w A (o+i*4) n
theorem WalkAt.keep{w w':World}{b:Nat}{tree:List Nd}{A o c:Nat}{es:Value}{m:MakerD}(h:WalkAt w b tree A o c es m)(f:Fresh w w'):WalkAt w' b tree A o c es m:=
 ⟨f.cell h.c0,f.cell h.c1,f.cell h.c2,f.cell h.c3,f.cell h.c4,f.cell h.c5,fun i n hi=>(h.el i n hi).keep f⟩
section
variable {w w0:World}{cs:List Frame}{fr:Frame}
theorem root_all{x:LetD}{A o c:Nat}{n:Nd}(h:NdAt w A o n)(hl:0<x.tree.length):Ans 22 #[letV x (slV A o x.tree.length c)] w fun v w'=>Fresh w w'∧v=i8V n.op:=
 (rt1.ans ret22 (Go.Proofs.Ytmobbajggkjpgaa.SX.mkS [(51,x.tree.length),(52,c),(53,o),(4,x.at'),(1,n.op)] [(50,A)] [] [(1,x.name)]) (enter1 ent22 rfl (letV x (slV A o x.tree.length c))) rfl ⟨decide_eq_true (by show(0:Int)<((x.tree.length:Nat):Int);omega),trivial⟩ ⟨h.c0,trivial⟩).mono fun v w' ⟨f,I,B,e,_⟩=>⟨f,e⟩
theorem build_all{m:MakerD}{k:Int}:Ans 48 #[makerV m,iV k] w fun v w'=>Fresh w w'∧v=outV (buildF m k):=by
 have E:=enter2 ent48 rfl (makerV m) (iV k)
 obtain⟨ρ,hρ⟩:∃ρ:Env,ρ=mkE [(1,m.mul),(2,m.add),(3,m.fails),(4,m.panics),(5,k)] [] []:=⟨_,rfl⟩
 have ne:∀{x:Int},x>0->decide (x=0)=false:=fun h=>decide_eq_false (by omega)
 have t:=fun{p:Prop} [Decidable p] (h:p)=>decide_eq_true h
 have out:∀{x:Value} {e:Int×Int},buildF m k=e->x=outV e->x=outV (buildF m k):=fun h1 h2=>by rw[h1];exact h2
 by_cases h4:m.panics>0
 ·by_cases r4:irem k m.panics=0
  ·subst hρ
   exact(bd1.ans ret48 (mkE [(1,m.mul),(2,m.add),(3,m.fails),(4,m.panics),(5,k)] [] []) E rfl ⟨decide_eq_true h4,ne h4,decide_eq_true r4,trivial⟩ trivial).mono fun v w' ⟨f,I,B,e,_⟩=>⟨f,out (e:=(3,k)) (by unfold buildF;rw[if_pos ⟨h4,r4⟩]) e⟩
  ·by_cases h3:m.fails>0
   ·by_cases r3:irem k m.fails=0
    ·exact(bd2.ans ret48 (mkE [(1,m.mul),(2,m.add),(3,m.fails),(4,m.panics),(5,k)] [] []) E rfl ⟨decide_eq_true h4,ne h4,decide_eq_false r4,decide_eq_true h3,ne h3,decide_eq_true r3,trivial⟩ trivial).mono fun v w' ⟨f,I,B,e,_⟩=>⟨f,out (e:=(2,k)) (by unfold buildF;rw[if_neg fun h=>r4 h.2,if_pos ⟨h3,r3⟩]) e⟩
    ·exact(bd3.ans ret48 (mkE [(1,m.mul),(2,m.add),(3,m.fails),(4,m.panics),(5,k)] [] []) E rfl ⟨decide_eq_true h4,ne h4,decide_eq_false r4,decide_eq_true h3,ne h3,decide_eq_false r3,trivial⟩ trivial).mono fun v w' ⟨f,I,B,e,_⟩=>⟨f,out (e:=(1,iop .add .i64 (iop .mul .i64 k m.mul) m.add)) (by unfold buildF;rw[if_neg fun h=>r4 h.2,if_neg fun h=>r3 h.2]) e⟩
   ·exact(bd4.ans ret48 (mkE [(1,m.mul),(2,m.add),(3,m.fails),(4,m.panics),(5,k)] [] []) E rfl ⟨decide_eq_true h4,ne h4,decide_eq_false r4,decide_eq_false h3,trivial⟩ trivial).mono fun v w' ⟨f,I,B,e,_⟩=>⟨f,out (e:=(1,iop .add .i64 (iop .mul .i64 k m.mul) m.add)) (by unfold buildF;rw[if_neg fun h=>r4 h.2,if_neg fun h=>h3 h.1]) e⟩
 ·by_cases h3:m.fails>0
  ·by_cases r3:irem k m.fails=0
   ·exact(bd5.ans ret48 (mkE [(1,m.mul),(2,m.add),(3,m.fails),(4,m.panics),(5,k)] [] []) E rfl ⟨decide_eq_false h4,decide_eq_true h3,ne h3,decide_eq_true r3,trivial⟩ trivial).mono fun v w' ⟨f,I,B,e,_⟩=>⟨f,out (e:=(2,k)) (by unfold buildF;rw[if_neg fun h=>h4 h.1,if_pos ⟨h3,r3⟩]) e⟩
   ·exact(bd6.ans ret48 (mkE [(1,m.mul),(2,m.add),(3,m.fails),(4,m.panics),(5,k)] [] []) E rfl ⟨decide_eq_false h4,decide_eq_true h3,ne h3,decide_eq_false r3,trivial⟩ trivial).mono fun v w' ⟨f,I,B,e,_⟩=>⟨f,out (e:=(1,iop .add .i64 (iop .mul .i64 k m.mul) m.add)) (by unfold buildF;rw[if_neg fun h=>h4 h.1,if_neg fun h=>r3 h.2]) e⟩
  ·exact(bd7.ans ret48 (mkE [(1,m.mul),(2,m.add),(3,m.fails),(4,m.panics),(5,k)] [] []) E rfl ⟨decide_eq_false h4,decide_eq_false h3,trivial⟩ trivial).mono fun v w' ⟨f,I,B,e,_⟩=>⟨f,out (e:=(1,iop .add .i64 (iop .mul .i64 k m.mul) m.add)) (by unfold buildF;rw[if_neg fun h=>h4 h.1,if_neg fun h=>h3 h.1]) e⟩
theorem leave_end{f nt d:Nat}{lv:List (Nat×Value)}{k:List Item}{R:Nat}{a b:Value}(he:∀st,results? Try.prog (OO [] [(⟨.dyn 62,.lit 0⟩,.opq 40),(⟨.dyn 62,.lit 1⟩,.opq 41)]) hN f (tmpsOf nt st [(d,ptr0 62)])=.ok (.agg [.opq 40,.opq 41]))(hf:FA f nt (.code .ret::k) [] .normal lv fr)(hd:lookV d lv=some (ptrV R))(h0:w.cell? ⟨R,0,none⟩=some a)(h1:w.cell? ⟨R,1,none⟩=some b):
  Goes (G fr cs) w fun g' w'=>∃fr',g'=G fr' cs∧w'=w∧Leav f fr' w' (.agg #[a,b]):=
 leave_at (ρ:=mkE [] [(62,R)] [(40,a),(41,b)]) (lA:=[(d,ptr0 62)]) (bs:=[]) (mem:=[(⟨.dyn 62,.lit 0⟩,.opq 40),(⟨.dyn 62,.lit 1⟩,.opq 41)]) hf (a:=.agg [.opq 40,.opq 41]) (fun p hp=>by
  obtain rfl:=List.mem_singleton.1 hp
  exact lookV_mem hd) he (nofun) (fun q hq=>by
  simp only[List.mem_cons,List.not_mem_nil,or_false]at hq
  rcases hq with rfl|rfl
  ·exact h0
  ·exact h1)
theorem end_all{e:Int×Int}:∃t p,outV e=.iface t p∧(t=79∨t=82)∧∀w,Ans (if t=79 then 91 else 92) #[p] w fun v w'=>Fresh w w'∧v=endV e:=by
 unfold outV
 by_cases h:e.1=1
 ·rw[if_pos h]
  refine⟨79,_,rfl,.inl rfl,fun w=>?_⟩
  rw[if_pos rfl]
  refine ans_of fun cs=>?_
  refine(e91.go (mkE [(1,e.2)] [] []) (enter1 ent91 rfl (iV e.2)) rfl trivial trivial).trans fun g1 w1 hd=>?_
  obtain⟨I,B,fr1,rfl,f1,F1,bl,_⟩:=hd
  refine(leave_end (d:=2) (fun st=>by kernel_rfl) F1 rfl (blk_cell bl.1.2 (i:=0) rfl) (blk_cell bl.1.2 (i:=1) rfl)).mono fun g2 w2 hd2=>?_
  obtain⟨fr2,rfl,rfl,hL⟩:=hd2
  refine⟨fr2,_,rfl,hL,f1,?_⟩
  unfold endV
  rw[h];rfl
 ·rw[if_neg h]
  refine⟨82,_,rfl,.inr rfl,fun w=>?_⟩
  rw[if_neg (by decide)]
  refine ans_of fun cs=>?_
  refine(e92.go (mkE [(1,e.1),(2,e.2)] [] []) (enter1 ent92 rfl (endV e)) rfl trivial trivial).trans fun g1 w1 hd=>?_
  obtain⟨I,B,fr1,rfl,f1,F1,bl,_⟩:=hd
  have hb:(Blk.obj 30 [i8V e.1,iV e.2]).at Try.prog w1 (B 101):=bl.1.2
  refine(leave_end (d:=2) (fun st=>by kernel_rfl) F1 rfl (blk_cell hb (i:=0) rfl) (blk_cell hb (i:=1) rfl)).mono fun g2 w2 hd2=>?_
  obtain⟨fr2,rfl,rfl,hL⟩:=hd2
  exact⟨fr2,_,rfl,hL,f1,rfl⟩
theorem flat_len(t:T):0<(flat t).length:=by
 cases t
 simp[flat]
theorem skip_loop{b:Nat}{tree:List Nd}{A o c:Nat}{es:Value}{m:MakerD}(hw:WalkAt w0 b tree A o c es m)(hl:tree.length≤1000000):
  ∀(n:Nat) (ts:List T) (at':Nat) {rest:List Nd} {w:World} {cs:List Frame} {fr:Frame},(flatL ts).length=n->WfL ts->tree.drop at'=flatL ts++rest->Fresh w0 w->FA 47 22 [.code (q47 [1,0,1,0,0]),.inLoop (q47 [1,0,1,0,0]),.inBlock 0,.code (q47 [1,1])] [] .normal [(0,ptrV b),(1,iV at'),(5,iV ts.length)] fr->
  Goes (G fr cs) w fun g' w'=>∃fr',g'=G fr' cs∧Fresh w0 w'∧Leav 47 fr' w' (iV ((at'+(flatL ts).length:Nat):Int))
 |n,[],at',rest,w,cs,fr,hn,hwf,hd0,fw,hf=>by
  refine(sk3.go (mkE [(10,at'),(8,0)] [(61,b)] []) hf rfl ⟨rfl,trivial⟩ trivial).trans fun g1 w1 hd=>?_
  obtain⟨I,B,fr1,rfl,f1,F1,_⟩:=hd
  refine(leave1 ret47 F1 rfl).mono fun g2 w2 hd2=>?_
  obtain⟨fr2,rfl,rfl,hL⟩:=hd2
  exact⟨fr2,rfl,fw.trans f1,hL⟩
 |0,t::ts,at',rest,w,cs,fr,hn,hwf,hd0,fw,hf=>by
  have:=flat_len t
  simp only[flatL,List.length_append]at hn
  omega
 |n+1,.nd x ks::ts,at',rest,w,cs,fr,hn,hwf,hd0,fw,hf=>by
  have hd1:tree.drop at'=x::(flatL (ks++ts)++rest):=by
   rw[hd0,flatL_app]
   simp[flatL,flat]
  obtain⟨hx,hd2,hlt⟩:=drop_get hd1
  have hnd:=(hw.el at' x hx).keep fw
  have hk:x.kids=ks.length:=hwf.1.1
  have htot:(flatL (ks++ts)).length=n:=by
   rw[flatL_app,List.length_append]
   simp only[flatL,flat,List.length_append,List.length_cons]at hn
   omega
  have hfl:=flatL_len (ks++ts)
  have hbig:(flatL (ks++ts)).length≤1000000:=by
   have:=congrArg List.length hd2
   rw[List.length_append,List.length_drop]at this
   omega
  refine(sk2.go (mkE [(10,at'),(8,(List.length (T.nd x ks::ts):Nat)),(51,tree.length),(52,c),(53,o),(13,x.kids)] [(61,b),(50,A)] []) hf rfl (AllB.app (ltB_ok (i:=10) (n:=51) (I:=at') (N:=tree.length) rfl rfl hlt) ⟨decide_eq_true (by show((List.length (T.nd x ks::ts):Nat):Int)>0;simp only[List.length_cons];omega),trivial⟩) ⟨fw.cell hw.c0,hnd.c2,trivial⟩).trans fun g1 w1 hd=>?_
  obtain⟨I,B,fr1,rfl,f1,F1,_⟩:=hd
  have e1:iop .add .i64 ((List.length (T.nd x ks::ts):Nat):Int) (iop .sub .i64 x.kids 1)=(((ks++ts).length:Nat):Int):=by
   rw[List.length_append]at hfl⊢
   show IntKind.wrap .i64 (_+IntKind.wrap .i64 (x.kids-1))=_
   rw[I64_wrap (x:=x.kids-1) (by omega),I64_wrap (by simp only[List.length_cons];omega)]
   simp only[List.length_cons]
   omega
  have e2:at'+(flatL (.nd x ks::ts)).length=at'+1+(flatL (ks++ts)).length:=by
   rw[hn,htot];omega
  rw[e2]
  refine skip_loop hw hl n (ks++ts) (at'+1) htot (WfL.app hwf.1.2 hwf.2) hd2 (fw.trans f1) ?_
  rw[<-e1,<-inc (i:=at') (by omega)]
  exact F1
theorem skip_all{b:Nat}{tree:List Nd}{A o c:Nat}{es:Value}{m:MakerD}{t:T}{at':Nat}{rest:List Nd}(hw:WalkAt w b tree A o c es m)(hl:tree.length≤1000000)(ht:WfT t)(hd:tree.drop at'=flat t++rest):Ans 47 #[ptrV b,iV at'] w fun v w'=>Fresh w w'∧v=iV ((at'+(flat t).length:Nat):Int):=by
 refine ans_of fun cs=>?_
 refine(sk1.go (mkE [(10,at')] [(61,b)] []) (enter2 ent47 rfl (ptrV b) (iV at')) rfl trivial trivial).trans fun g1 w1 hd1=>?_
 obtain⟨I,B,fr1,rfl,f1,F1,_⟩:=hd1
 refine(skip_loop hw hl (flatL [t]).length [t] at' (rest:=rest) rfl ⟨ht,trivial⟩ (by rw[hd];simp[flatL]) f1 F1).mono fun g2 w2 hd2=>?_
 obtain⟨fr2,rfl,f2,hL⟩:=hd2
 refine⟨fr2,_,rfl,hL,f2,?_⟩
 simp[flatL]
end
end
def kidsAt:Nat->List T->List Nat
 |_,[]=>[]
 |k,t::ts=>k::kidsAt (k+(flat t).length) ts
theorem kidsAt_len:∀(ts:List T) (k:Nat),(kidsAt k ts).length=ts.length
 |[],_=>rfl
 |t::ts,k=>by simp[kidsAt,kidsAt_len ts]
def IntsNew(w:World)(base:Nat)(s:Value)(l:List Int):Prop:=(s=nilV∧l=[])∨(l≠[]∧∃B c,s=slV B 0 l.length c∧base≤B∧(Blk.vec 3 c (l.map iV)).at Try.prog w B)
theorem IntsNew.keep{w w':World}{base:Nat}{s:Value}{l:List Int}(h:IntsNew w base s l)(f:Fresh w w'):IntsNew w' base s l:=by
 rcases h with h|⟨h1,B,c,h2,h3,h4⟩
 ·exact .inl h
 ·exact .inr ⟨h1,B,c,h2,h3,blk_keep h4 f⟩
theorem size3(inf:TypeInfo)(hi:Try.prog.info? 3=some inf):inf.size=1:=by
 have e2:(Try.prog.info? 3).map (fun x=>x.size)=some 1:=by kernel_rfl
 rw[hi]at e2
 exact Option.some.inj e2
theorem vec_cap{w:World}{B c:Nat}{xs:List Value}(h:(Blk.vec 3 c xs).at Try.prog w B):xs.length≤c:=by
 obtain⟨arr,rest,inf,e1,e2,e3,e4⟩:=h
 have:=congrArg List.length e3
 rw[size3 inf e2]at e4
 rw[List.length_append]at this
 have:arr.size=arr.toList.length:=rfl
 omega
theorem IntsNew.at{w:World}{base:Nat}{s:Value}{l:List Int}(h:IntsNew w base s l):IntsAt w s l:=by
 rcases h with⟨h1,h2⟩|⟨h1,B,c,h2,h3,h4⟩
 ·exact⟨true,0,0,0,h1,fun _=>h2,(fun h=>by cases h),fun i n hi=>by rw[h2]at hi;cases hi⟩
 ·refine⟨false,B,0,c,h2,(fun h=>by cases h),fun _=>by simpa using vec_cap h4,fun i n hi=>?_⟩
  rw[Nat.zero_add]
  refine Blk.at_cell h4 ?_
  show(l.map iV)[i]?=some (iV n)
  rw[List.getElem?_map,hi];rfl
noncomputable abbrev KdH:List Item:=[.code (q32 [1,1,1,0,1,0,0]),.inLoop (q32 [1,1,1,0,1,0,0]),.inBlock 0,.code (q32 [1,1,1,1])]
noncomputable abbrev KdT(l:List Nat):List Item:=.inRegion (opsOf (q32 [1,1,1,0,1,0,0,1,1,0,0,1,1])) l::[.inBlock 1,.code (q32 [1,1,1,0,1,0,0,1,1,1]),.inLoop (q32 [1,1,1,0,1,0,0]),.inBlock 0,.code (q32 [1,1,1,1])]
section
variable {w w0:World}{cs:List Frame}{fr:Frame}{b base i k:Nat}{kids:Int}{s:Value}{l:List Int}
theorem kd_push(hb:base≤w.heap.size)(hs:IntsNew w base s l)(hl:l.length≤1000000)(hi:(i:Int)<kids)(hf:FA 32 28 KdH [] .normal [(0,ptrV b),(5,s),(6,iV k),(16,iV kids),(17,iV i)] fr):
  Goes (G fr cs) w fun g' w'=>∃fr' s',g'=G fr' cs∧Keeps (fun x=>base≤x) w w'∧IntsNew w' base s' (l++[(k:Int)])∧FA 32 28 (KdT [2,3]) [] .normal [(0,ptrV b),(5,s'),(6,iV k),(16,iV kids),(17,iV i),(23,ptrV b),(24,iV k)] fr':=by
 rcases hs with⟨rfl,rfl⟩|⟨hne,B0,c,rfl,hB0,hv⟩
 ·refine(kd2n.go (mkE [(11,k),(13,kids),(9,i)] [(61,b)] []) hf rfl ⟨decide_eq_true hi,trivial⟩ trivial).mono fun g1 w1 hd=>?_
  obtain⟨I,B,fr1,rfl,f1,F1,bl,_⟩:=hd
  exact⟨fr1,_,rfl,f1.mono fun x hx=>Nat.le_trans hb hx,.inr ⟨by simp,B 101,(I 101).toNat,rfl,Nat.le_trans hb bl.1.1,bl.1.2⟩,F1⟩
 ·obtain⟨ρ,hρ⟩:∃ρ:Env,ρ=mkE [(11,k),(13,kids),(9,i),(8,l.length),(57,c)] [(61,b),(52,B0)] [(65,.agg (l.map iV).toArray)]:=⟨_,rfl⟩
  have e52:ρ.b 52=B0:=by rw[hρ];rfl
  refine(kd2.goW ρ hf (by rw[hρ];rfl) ⟨by rw[hρ];exact decide_eq_true hi,by
    rw[hρ]
    show decide ((((l.length:Int).toNat:Nat):Int)+1≤1048576)=true
    exact decide_eq_true (by omega),trivial⟩ trivial (nofun) ⟨⟨.vec 3 c (l.map iV),by rw[e52];exact hv,rfl,by rw[hρ];rfl,fun inf hinf=>?_,(nofun),by rw[hρ];rfl⟩,trivial⟩ one_nodup).mono fun g1 w1 hd=>?_
  ·rw[size3 inf hinf,List.length_map,hρ]
   show l.length=((l.length:Nat):Int).toNat*1
   omega
  obtain⟨I,B,fr1,rfl,kp,F1,bl,_⟩:=hd
  have own:∀x,ownP ρ w [(52,.pre false 65 (v 8) [] [] [] 3 (v 57))] x->base≤x:=fun x hx=>by
   rcases hx with h|⟨y,hy,e⟩
   ·exact Nat.le_trans hb h
   ·obtain rfl:=List.mem_singleton.1 hy
    have e:ρ.b 52=x:=e
    omega
  have hB:(Blk.vec 3 (I 101).toNat ((l++[(k:Int)]).map iV)).at Try.prog w1 (B 101):=by
   have:=bl.1.2
   rw[hρ]at this
   rw[List.map_append]
   exact this
  have hn:((((l.length:Int).toNat:Nat):Int)+1).toNat=(l++[(k:Int)]).length:=by
   rw[List.length_append,List.length_singleton]
   omega
  refine⟨fr1,slV (B 101) 0 (l++[(k:Int)]).length (I 101).toNat,rfl,kp.mono own,.inr ⟨by simp,B 101,(I 101).toNat,rfl,own _ bl.1.1,hB⟩,?_⟩
  rw[<-hn]
  rw[hρ]at F1
  exact F1
theorem kd_loop{tree:List Nd}{A o c:Nat}{es:Value}{m:MakerD}(hw:WalkAt w0 b tree A o c es m)(hl:tree.length≤1000000)(hk:kids≤1000000):
  ∀(ts:List T) (i k:Nat) {rest:List Nd} {l:List Int} {s:Value} {w:World} {cs:List Frame} {fr:Frame},(i:Int)+ts.length=kids->l.length=i->WfL ts->tree.drop k=flatL ts++rest->Fresh w0 w->IntsNew w w0.heap.size s l->FA 32 28 KdH [] .normal [(0,ptrV b),(5,s),(6,iV k),(16,iV kids),(17,iV i)] fr->
  Goes (G fr cs) w fun g' w'=>∃fr' s',g'=G fr' cs∧Fresh w0 w'∧IntsNew w' w0.heap.size s' (l++(kidsAt k ts).map Int.ofNat)∧Leav 32 fr' w' s'
 |[],i,k,rest,l,s,w,cs,fr,hi,hli,hwf,hd,fw,hs,hf=>by
  refine(kd5.go (mkE [(11,k),(13,kids),(9,i)] [(61,b)] [(5,s)]) hf rfl ⟨decide_eq_false (by show ¬((i:Int)<kids);simp only[List.length_nil]at hi;omega),trivial⟩ trivial).trans fun g1 w1 hd=>?_
  obtain⟨I,B,fr1,rfl,f1,F1,_⟩:=hd
  refine(leave1 ret32 F1 rfl).mono fun g2 w2 hd2=>?_
  obtain⟨fr2,rfl,rfl,hL⟩:=hd2
  refine⟨fr2,s,rfl,fw.trans f1,?_,hL⟩
  simp only[kidsAt,List.map_nil,List.append_nil]
  exact hs.keep f1
 |t::ts,i,k,rest,l,s,w,cs,fr,hi,hli,hwf,hd,fw,hs,hf=>by
  simp only[List.length_cons]at hi
  refine(kd_push fw.size hs (by omega) (by omega) hf).trans fun g1 w1 hd1=>?_
  obtain⟨fr1,s1,rfl,kp,hs1,F1⟩:=hd1
  have fw1:=fresh_keeps fw kp
  have hd':tree.drop k=flat t++(flatL ts++rest):=by
   rw[hd];simp[flatL]
  refine(kd3.go (mkE [] [] [(23,ptrV b),(24,iV k)]) (Q:=fun v w'=>v=iV ((k+(flat t).length:Nat):Int)) F1 rfl fun w' f2=>skip_all (hw.keep (fw1.trans f2)) hl hwf.1 hd').trans fun g2 w2 hd2=>?_
  obtain⟨fr2,vv,rfl,f2,rfl,F2⟩:=hd2
  refine(kd4.go (mkE [(13,kids),(9,i),(12,(k+(flat t).length:Nat))] [(61,b)] [(5,s1)]) F2 rfl trivial trivial).trans fun g3 w3 hd3=>?_
  obtain⟨I,B,fr3,rfl,f3,F3,_⟩:=hd3
  have hd2':tree.drop (k+(flat t).length)=flatL ts++rest:=by
   rw[<-List.drop_drop,hd',List.drop_left]
  have:=kd_loop hw hl hk ts (i+1) (k+(flat t).length) (rest:=rest) (l:=l++[(k:Int)]) (s:=s1) (w:=w3) (cs:=cs) (fr:=fr3) (by omega) (by rw[List.length_append,List.length_singleton,hli]) hwf.2 hd2' (fw1.trans (f2.trans f3)) (hs1.keep (f2.trans f3)) (by
   rw[<-inc (i:=i) (by omega)]
   exact F3)
  refine this.mono fun g4 w4 hd4=>?_
  obtain⟨fr4,s',h1,h2,h3,h4⟩:=hd4
  refine⟨fr4,s',h1,h2,?_,h4⟩
  rw[List.append_assoc]at h3
  exact h3
theorem kids_all{tree:List Nd}{A o c at':Nat}{es:Value}{m:MakerD}{n:Nd}{ks:List T}{rest:List Nd}(hw:WalkAt w b tree A o c es m)(hl:tree.length≤1000000)(ht:WfT (.nd n ks))(hd:tree.drop at'=flat (.nd n ks)++rest):Ans 32 #[ptrV b,iV at'] w fun v w'=>Fresh w w'∧IntsNew w' w.heap.size v ((kidsAt (at'+1) ks).map Int.ofNat):=by
 refine ans_of fun cs=>?_
 have hd1:tree.drop at'=n::(flatL ks++rest):=by rw[hd];simp[flat]
 obtain⟨hx,hd2,hlt⟩:=drop_get hd1
 have hnd:=hw.el at' n hx
 have hfl:=flatL_len ks
 have hle:(flatL ks).length≤tree.length:=by
  have:=congrArg List.length hd2
  rw[List.length_append,List.length_drop]at this
  omega
 have hk:n.kids=ks.length:=ht.1
 refine(kd1.go (mkE [(10,at'),(51,tree.length),(52,c),(53,o),(13,n.kids)] [(61,b),(50,A)] []) (enter2 ent32 rfl (ptrV b) (iV at')) rfl (ltB_ok (i:=10) (n:=51) (I:=at') (N:=tree.length) rfl rfl hlt) ⟨hw.c0,hnd.c2,trivial⟩).trans fun g1 w1 hd1=>?_
 obtain⟨I,B,fr1,rfl,f1,F1,_⟩:=hd1
 refine(kd_loop (hw) hl (kids:=n.kids) (by omega) ks 0 (at'+1) (rest:=rest) (l:=[]) (s:=nilV) (by omega) rfl ht.2 hd2 f1 (.inl ⟨rfl,rfl⟩) (by
  rw[<-inc (i:=at') (by omega)]
  exact F1)).mono fun g2 w2 hd2=>?_
 obtain⟨fr2,s',rfl,f2,h3,h4⟩:=hd2
 exact⟨fr2,s',rfl,h4,f2,h3⟩
end
noncomputable def q23(l:List Nat):Code:=pc (bodyOf Try.f23) l
theorem ent23:enterA Try.prog 23 [.opq 0,.opq 1] .normal=.ok ⟨23,83,entT 23 [.opq 0,.opq 1],[.code (bodyOf Try.f23)],[],.run,.normal⟩:=by kernel_rfl
theorem ret23:RetC 23 83 4:=fun st=>by kernel_rfl
noncomputable def q34(l:List Nat):Code:=pc (bodyOf Try.f34) l
theorem ent34:enterA Try.prog 34 [.opq 0,.opq 1,.opq 2,.opq 3] .normal=.ok ⟨34,98,entT 34 [.opq 0,.opq 1,.opq 2,.opq 3],[.code (bodyOf Try.f34)],[],.run,.normal⟩:=by kernel_rfl
theorem ret34:RetC 34 98 8:=fun st=>by kernel_rfl
theorem nd1:Pc 23 83 [.code (q23 [])] [(0,ptr0 61),(1,i64 (v 10))] [((.cmp .lss (v 10) (.tn (v 51))),true),((.cmp .leq (.lit 0) (v 10)),true),((.cmp .lss (v 10) (.lit 0)),false),((.cmp .geq (v 10) (.tn (v 51))),false)] [(⟨(.dyn 61),(.lit 0)⟩,.slice (some ⟨(.dyn 50),(v 53)⟩) (v 51) (v 52)),(⟨(.dyn 50),(.plus (.tn (v 53)) (.times (.tn (v 10)) (.lit 4)))⟩,i8 (v 1)),(⟨(.dyn 50),(.plus (.tn (.plus (.tn (v 53)) (.times (.tn (v 10)) (.lit 4)))) (.lit 1))⟩,i64 (v 2)),(⟨(.dyn 50),(.plus (.tn (.plus (.tn (v 53)) (.times (.tn (v 10)) (.lit 4)))) (.lit 2))⟩,i64 (v 3)),(⟨(.dyn 50),(.plus (.tn (.plus (.tn (v 53)) (.times (.tn (v 10)) (.lit 4)))) (.lit 3))⟩,i64 (v 4))] [] 20 [100] [0,5,20,21] [.inRegion (opsOf (q23 [1,1,0])) [2,3],.code (q23 [1,1,1])] [ptr0 61,ptr0 100,ptr0 61,i64 (v 10)] [(100,.cells [i8 (v 1),i64 (v 2),i64 (v 3),i64 (v 4)] 75)]:=⟨fun st=>by kernel_rfl,fun st=>by kernel_rfl,by kernel_rfl,of_decide_eq_true (by kernel_rfl)⟩
theorem nd2:OpC 83 (opsOf (q23 [1,1,0])) 2 [(20,.opq 20),(21,.opq 21)] 32 [.opq 20,.opq 21] 22:=⟨fun st=>by kernel_rfl,fun st=>by kernel_rfl,fun st=>by kernel_rfl,by kernel_rfl,by decide,rfl⟩
theorem nd3:Pc 23 83 [.inRegion (opsOf (q23 [1,1,0])) [3],.code (q23 [1,1,1])] [(0,ptr0 61),(5,ptr0 64),(22,.opq 22)] [((.cmp .eql (v 1) (.lit 1)),true)] [(⟨(.dyn 64),(.lit 0)⟩,i8 (v 1)),(⟨(.dyn 64),(.lit 1)⟩,i64 (v 2)),(⟨(.dyn 64),(.lit 2)⟩,i64 (v 3)),(⟨(.dyn 64),(.lit 3)⟩,i64 (v 4))] [] 22 [] [4] [.code .ret,.inBlock 0,.code (q23 [1,1,1,1])] [.iface 79 (i64 (v 2))] []:=⟨fun st=>by kernel_rfl,fun st=>by kernel_rfl,by kernel_rfl,of_decide_eq_true (by kernel_rfl)⟩
theorem nd4true:Pc 23 83 [.inRegion (opsOf (q23 [1,1,0])) [3],.code (q23 [1,1,1])] [(0,ptr0 61),(5,ptr0 64),(22,.opq 22)] [((.cmp .eql (v 1) (.lit 1)),false),((.cmp .eql (v 1) (.lit 2)),true),((.cmp .eql (v 15) (.lit 1)),true),((.cmp .lss (v 2) (.tn (v 71))),true),((.cmp .leq (.lit 0) (v 2)),true),((.cmp .lss (v 2) (.lit 0)),false),((.cmp .geq (v 2) (.tn (v 71))),false)] [(⟨(.dyn 64),(.lit 0)⟩,i8 (v 1)),(⟨(.dyn 64),(.lit 1)⟩,i64 (v 2)),(⟨(.dyn 64),(.lit 2)⟩,i64 (v 3)),(⟨(.dyn 64),(.lit 3)⟩,i64 (v 4)),(⟨(.dyn 61),(.lit 1)⟩,.slice (some ⟨(.dyn 70),(v 73)⟩) (v 71) (v 72)),(⟨(.dyn 70),(.plus (.tn (v 73)) (.times (.tn (v 2)) (.lit 2)))⟩,i8 (v 15)),(⟨(.dyn 70),(.plus (.tn (.plus (.tn (v 73)) (.times (.tn (v 2)) (.lit 2)))) (.lit 1))⟩,i64 (v 16))] [] 23 [] [4] [.code .ret,.inBlock 0,.code (q23 [1,1,1,1])] [.iface 79 (i64 (v 16))] []:=⟨fun st=>by kernel_rfl,fun st=>by kernel_rfl,by kernel_rfl,of_decide_eq_true (by kernel_rfl)⟩
theorem nd4false:Pc 23 83 [.inRegion (opsOf (q23 [1,1,0])) [3],.code (q23 [1,1,1])] [(0,ptr0 61),(5,ptr0 64),(22,.opq 22)] [((.cmp .eql (v 1) (.lit 1)),false),((.cmp .eql (v 1) (.lit 2)),true),((.cmp .eql (v 15) (.lit 1)),false),((.cmp .lss (v 2) (.tn (v 71))),true),((.cmp .leq (.lit 0) (v 2)),true),((.cmp .lss (v 2) (.lit 0)),false),((.cmp .geq (v 2) (.tn (v 71))),false)] [(⟨(.dyn 64),(.lit 0)⟩,i8 (v 1)),(⟨(.dyn 64),(.lit 1)⟩,i64 (v 2)),(⟨(.dyn 64),(.lit 2)⟩,i64 (v 3)),(⟨(.dyn 64),(.lit 3)⟩,i64 (v 4)),(⟨(.dyn 61),(.lit 1)⟩,.slice (some ⟨(.dyn 70),(v 73)⟩) (v 71) (v 72)),(⟨(.dyn 70),(.plus (.tn (v 73)) (.times (.tn (v 2)) (.lit 2)))⟩,i8 (v 15)),(⟨(.dyn 70),(.plus (.tn (.plus (.tn (v 73)) (.times (.tn (v 2)) (.lit 2)))) (.lit 1))⟩,i64 (v 16))] [] 23 [] [4] [.code .ret,.inBlock 0,.code (q23 [1,1,1,1])] [.iface 82 (.agg [i8 (v 15),i64 (v 16)])] []:=⟨fun st=>by kernel_rfl,fun st=>by kernel_rfl,by kernel_rfl,of_decide_eq_true (by kernel_rfl)⟩
theorem nd5:Pc 23 83 [.inRegion (opsOf (q23 [1,1,0])) [3],.code (q23 [1,1,1])] [(0,ptr0 61),(5,ptr0 64),(22,.slice (some ⟨(.dyn 80),(v 83)⟩) (v 81) (v 82))] [((.cmp .eql (v 1) (.lit 1)),false),((.cmp .eql (v 1) (.lit 2)),false),((.cmp .eql (v 1) (.lit 11)),true)] [(⟨(.dyn 64),(.lit 0)⟩,i8 (v 1)),(⟨(.dyn 64),(.lit 1)⟩,i64 (v 2)),(⟨(.dyn 64),(.lit 2)⟩,i64 (v 3)),(⟨(.dyn 64),(.lit 3)⟩,i64 (v 4))] [] 36 [] [0,6,43,44,45] [.code (q23 [1,1,1,0,1,0,1,1,1,1,1,0,0,1,0,0]),.inLoop (q23 [1,1,1,0,1,0,1,1,1,1,1,0,0,1,0,0]),.inBlock 1,.code (q23 [1,1,1,0,1,0,1,1,1,1,1,0,1]),.inBlock 0,.code (q23 [1,1,1,1])] [ptr0 61,.slice (some ⟨(.dyn 80),(v 83)⟩) (v 81) (v 82),.slice (some ⟨(.dyn 80),(v 83)⟩) (v 81) (v 82),i64 (.tn (v 81)),i64 (.lit 0)] []:=⟨fun st=>by kernel_rfl,fun st=>by kernel_rfl,by kernel_rfl,of_decide_eq_true (by kernel_rfl)⟩
theorem nd6:Pc 23 83 [.code (q23 [1,1,1,0,1,0,1,1,1,1,1,0,0,1,0,0]),.inLoop (q23 [1,1,1,0,1,0,1,1,1,1,1,0,0,1,0,0]),.inBlock 1,.code (q23 [1,1,1,0,1,0,1,1,1,1,1,0,1]),.inBlock 0,.code (q23 [1,1,1,1])] [(0,ptr0 61),(6,.slice (some ⟨(.dyn 80),(v 83)⟩) (v 81) (v 82)),(43,.slice (some ⟨(.dyn 80),(v 83)⟩) (v 81) (v 82)),(44,i64 (.tn (v 81))),(45,i64 (v 10))] [((.cmp .lss (v 10) (.tn (v 81))),true),((.cmp .leq (.lit 0) (v 10)),true),((.cmp .lss (v 10) (.lit 0)),false),((.cmp .geq (v 10) (.tn (v 81))),false)] [(⟨(.dyn 80),(.plus (.tn (v 83)) (.tn (v 10)))⟩,i64 (v 12))] [] 19 [] [0,6,43,44,45,50,51] [.inRegion (opsOf (q23 [1,1,1,0,1,0,1,1,1,1,1,0,0,1,0,0,1,1,0,0,1,0])) [2,3,4,5,6,7,8],.code (q23 [1,1,1,0,1,0,1,1,1,1,1,0,0,1,0,0,1,1,0,0,1,1]),.inBlock 2,.code (q23 [1,1,1,0,1,0,1,1,1,1,1,0,0,1,0,0,1,1,1]),.inLoop (q23 [1,1,1,0,1,0,1,1,1,1,1,0,0,1,0,0]),.inBlock 1,.code (q23 [1,1,1,0,1,0,1,1,1,1,1,0,1]),.inBlock 0,.code (q23 [1,1,1,1])] [ptr0 61,.slice (some ⟨(.dyn 80),(v 83)⟩) (v 81) (v 82),.slice (some ⟨(.dyn 80),(v 83)⟩) (v 81) (v 82),i64 (.tn (v 81)),i64 (v 10),ptr0 61,i64 (v 12)] []:=⟨fun st=>by kernel_rfl,fun st=>by kernel_rfl,by kernel_rfl,of_decide_eq_true (by kernel_rfl)⟩
theorem nd7:OpC 83 (opsOf (q23 [1,1,1,0,1,0,1,1,1,1,1,0,0,1,0,0,1,1,0,0,1,0])) 2 [(50,.opq 50),(51,.opq 51)] 23 [.opq 50,.opq 51] 52:=⟨fun st=>by kernel_rfl,fun st=>by kernel_rfl,fun st=>by kernel_rfl,by kernel_rfl,by decide,rfl⟩
theorem nd8:Pc 23 83 [.inRegion (opsOf (q23 [1,1,1,0,1,0,1,1,1,1,1,0,0,1,0,0,1,1,0,0,1,0])) [3,4,5,6,7,8],.code (q23 [1,1,1,0,1,0,1,1,1,1,1,0,0,1,0,0,1,1,0,0,1,1]),.inBlock 2,.code (q23 [1,1,1,0,1,0,1,1,1,1,1,0,0,1,0,0,1,1,1]),.inLoop (q23 [1,1,1,0,1,0,1,1,1,1,1,0,0,1,0,0]),.inBlock 1,.code (q23 [1,1,1,0,1,0,1,1,1,1,1,0,1]),.inBlock 0,.code (q23 [1,1,1,1])] [(0,ptr0 61),(6,.slice (some ⟨(.dyn 80),(v 83)⟩) (v 81) (v 82)),(43,.slice (some ⟨(.dyn 80),(v 83)⟩) (v 81) (v 82)),(44,i64 (.tn (v 81))),(45,i64 (v 10)),(52,.iface 79 (i64 (v 6)))] [] [] [] 18 [] [4] [.code .ret,.inBlock 2,.code (q23 [1,1,1,0,1,0,1,1,1,1,1,0,0,1,0,0,1,1,1]),.inLoop (q23 [1,1,1,0,1,0,1,1,1,1,1,0,0,1,0,0]),.inBlock 1,.code (q23 [1,1,1,0,1,0,1,1,1,1,1,0,1]),.inBlock 0,.code (q23 [1,1,1,1])] [.iface 79 (i64 (v 6))] []:=⟨fun st=>by kernel_rfl,fun st=>by kernel_rfl,by kernel_rfl,of_decide_eq_true (by kernel_rfl)⟩
theorem nd9:Pc 23 83 [.inRegion (opsOf (q23 [1,1,1,0,1,0,1,1,1,1,1,0,0,1,0,0,1,1,0,0,1,0])) [3,4,5,6,7,8],.code (q23 [1,1,1,0,1,0,1,1,1,1,1,0,0,1,0,0,1,1,0,0,1,1]),.inBlock 2,.code (q23 [1,1,1,0,1,0,1,1,1,1,1,0,0,1,0,0,1,1,1]),.inLoop (q23 [1,1,1,0,1,0,1,1,1,1,1,0,0,1,0,0]),.inBlock 1,.code (q23 [1,1,1,0,1,0,1,1,1,1,1,0,1]),.inBlock 0,.code (q23 [1,1,1,1])] [(0,ptr0 61),(6,.slice (some ⟨(.dyn 80),(v 83)⟩) (v 81) (v 82)),(43,.slice (some ⟨(.dyn 80),(v 83)⟩) (v 81) (v 82)),(44,i64 (.tn (v 81))),(45,i64 (v 10)),(52,.iface 82 (.agg [i8 (v 5),i64 (v 6)]))] [] [] [] 19 [] [0,6,43,44,45] [.code (q23 [1,1,1,0,1,0,1,1,1,1,1,0,0,1,0,0]),.inLoop (q23 [1,1,1,0,1,0,1,1,1,1,1,0,0,1,0,0]),.inBlock 1,.code (q23 [1,1,1,0,1,0,1,1,1,1,1,0,1]),.inBlock 0,.code (q23 [1,1,1,1])] [ptr0 61,.slice (some ⟨(.dyn 80),(v 83)⟩) (v 81) (v 82),.slice (some ⟨(.dyn 80),(v 83)⟩) (v 81) (v 82),i64 (.tn (v 81)),i64 (.op .add .i64 (v 10) (.lit 1))] []:=⟨fun st=>by kernel_rfl,fun st=>by kernel_rfl,by kernel_rfl,of_decide_eq_true (by kernel_rfl)⟩
theorem ndA:Pc 23 83 [.code (q23 [1,1,1,0,1,0,1,1,1,1,1,0,0,1,0,0]),.inLoop (q23 [1,1,1,0,1,0,1,1,1,1,1,0,0,1,0,0]),.inBlock 1,.code (q23 [1,1,1,0,1,0,1,1,1,1,1,0,1]),.inBlock 0,.code (q23 [1,1,1,1])] [(0,ptr0 61),(6,.slice (some ⟨(.dyn 80),(v 83)⟩) (v 81) (v 82)),(43,.slice (some ⟨(.dyn 80),(v 83)⟩) (v 81) (v 82)),(44,i64 (.tn (v 81))),(45,i64 (v 10))] [((.cmp .lss (v 10) (.tn (v 81))),false),((.cmp .lss (.lit 0) (.tn (v 81))),true)] [(⟨(.dyn 80),(v 83)⟩,i64 (v 12))] [] 13 [] [60,63] [.inRegion (opsOf (q23 [1,1,1,0,1,0,1,1,1,1,1,0,1,0])) [4,5],.code .ret,.inBlock 0,.code (q23 [1,1,1,1])] [ptr0 61,i64 (v 12)] []:=⟨fun st=>by kernel_rfl,fun st=>by kernel_rfl,by kernel_rfl,of_decide_eq_true (by kernel_rfl)⟩
theorem ndB:OpC 83 (opsOf (q23 [1,1,1,0,1,0,1,1,1,1,1,0,1,0])) 4 [(60,.opq 60),(63,.opq 63)] 23 [.opq 60,.opq 63] 64:=⟨fun st=>by kernel_rfl,fun st=>by kernel_rfl,fun st=>by kernel_rfl,by kernel_rfl,by decide,rfl⟩
theorem ndC:Pc 23 83 [.inRegion (opsOf (q23 [1,1,1,0,1,0,1,1,1,1,1,0,1,0])) [5],.code .ret,.inBlock 0,.code (q23 [1,1,1,1])] [(64,.opq 64)] [] [] [] 2 [] [4] [.code .ret,.inBlock 0,.code (q23 [1,1,1,1])] [.opq 64] []:=⟨fun st=>by kernel_rfl,fun st=>by kernel_rfl,by kernel_rfl,of_decide_eq_true (by kernel_rfl)⟩
theorem ndD:Pc 23 83 [.inRegion (opsOf (q23 [1,1,0])) [3],.code (q23 [1,1,1])] [(0,ptr0 61),(5,ptr0 64),(22,.slice (some ⟨(.dyn 80),(v 83)⟩) (v 81) (v 82))] [((.cmp .eql (v 1) (.lit 1)),false),((.cmp .eql (v 1) (.lit 2)),false),((.cmp .eql (v 1) (.lit 11)),false),((.cmp .lss (.lit 0) (.tn (v 81))),true)] [(⟨(.dyn 64),(.lit 0)⟩,i8 (v 1)),(⟨(.dyn 64),(.lit 1)⟩,i64 (v 2)),(⟨(.dyn 64),(.lit 2)⟩,i64 (v 3)),(⟨(.dyn 64),(.lit 3)⟩,i64 (v 4)),(⟨(.dyn 80),(v 83)⟩,i64 (v 12))] [] 36 [] [0,5,6,65,68] [.inRegion (opsOf (q23 [1,1,1,1,0,0])) [4],.code (q23 [1,1,1,1,0,1]),.code (q23 [1,1,1,1,1])] [ptr0 61,ptr0 64,.slice (some ⟨(.dyn 80),(v 83)⟩) (v 81) (v 82),ptr0 61,i64 (v 12)] []:=⟨fun st=>by kernel_rfl,fun st=>by kernel_rfl,by kernel_rfl,of_decide_eq_true (by kernel_rfl)⟩
theorem ndE:OpC 83 (opsOf (q23 [1,1,1,1,0,0])) 4 [(65,.opq 65),(68,.opq 68)] 23 [.opq 65,.opq 68] 69:=⟨fun st=>by kernel_rfl,fun st=>by kernel_rfl,fun st=>by kernel_rfl,by kernel_rfl,by decide,rfl⟩
theorem ndF:Pc 23 83 [.inRegion (opsOf (q23 [1,1,1,1,0,0])) [],.code (q23 [1,1,1,1,0,1]),.code (q23 [1,1,1,1,1])] [(0,ptr0 61),(5,ptr0 64),(6,.slice (some ⟨(.dyn 80),(v 83)⟩) (v 81) (v 82)),(69,.iface 82 (.agg [i8 (v 5),i64 (v 6)]))] [] [] [] 20 [] [4] [.code .ret,.inBlock 3,.code (q23 [1,1,1,1,1])] [.iface 82 (.agg [i8 (v 5),i64 (v 6)])] []:=⟨fun st=>by kernel_rfl,fun st=>by kernel_rfl,by kernel_rfl,of_decide_eq_true (by kernel_rfl)⟩
theorem ndG:Pc 23 83 [.inRegion (opsOf (q23 [1,1,1,1,0,0])) [],.code (q23 [1,1,1,1,0,1]),.code (q23 [1,1,1,1,1])] [(0,ptr0 61),(5,ptr0 64),(6,.slice (some ⟨(.dyn 80),(v 83)⟩) (v 81) (v 82)),(69,.iface 79 (i64 (v 6)))] [] [(⟨(.dyn 64),(.lit 0)⟩,i8 (v 1)),(⟨(.dyn 64),(.lit 1)⟩,i64 (v 2)),(⟨(.dyn 64),(.lit 2)⟩,i64 (v 3)),(⟨(.dyn 64),(.lit 3)⟩,i64 (v 4))] [] 26 [] [78,79,80,81] [.inRegion (opsOf (q23 [1,1,1,1,0,1,0,1,1,1,0,1,0])) [4,5],.code .ret,.inBlock 3,.code (q23 [1,1,1,1,1])] [ptr0 61,.agg [i8 (v 1),i64 (v 2),i64 (v 3),i64 (v 4)],.slice (some ⟨(.dyn 80),(v 83)⟩) (v 81) (v 82),i64 (v 6)] []:=⟨fun st=>by kernel_rfl,fun st=>by kernel_rfl,by kernel_rfl,of_decide_eq_true (by kernel_rfl)⟩
theorem ndH:OpC 83 (opsOf (q23 [1,1,1,1,0,1,0,1,1,1,0,1,0])) 4 [(78,.opq 78),(79,.opq 79),(80,.opq 80),(81,.opq 81)] 34 [.opq 78,.opq 79,.opq 80,.opq 81] 82:=⟨fun st=>by kernel_rfl,fun st=>by kernel_rfl,fun st=>by kernel_rfl,by kernel_rfl,by decide,rfl⟩
theorem ndI:Pc 23 83 [.inRegion (opsOf (q23 [1,1,1,1,0,1,0,1,1,1,0,1,0])) [5],.code .ret,.inBlock 3,.code (q23 [1,1,1,1,1])] [(82,.opq 82)] [] [] [] 2 [] [4] [.code .ret,.inBlock 3,.code (q23 [1,1,1,1,1])] [.opq 82] []:=⟨fun st=>by kernel_rfl,fun st=>by kernel_rfl,by kernel_rfl,of_decide_eq_true (by kernel_rfl)⟩
theorem wi1:Pc 34 98 [.code (q34 [])] [(0,ptr0 61),(1,.agg [i8 (v 1),i64 (v 2),i64 (v 3),i64 (v 4)]),(2,.slice (some ⟨(.dyn 80),(v 83)⟩) (v 81) (v 82)),(3,i64 (v 5))] [((.cmp .eql (v 1) (.lit 12)),true),((.cmp .neq (v 5) (.lit 0)),true),((.cmp .lss (.lit 1) (.tn (v 81))),true)] [(⟨(.dyn 80),(.plus (.tn (v 83)) (.lit 1))⟩,i64 (v 12))] [] 31 [] [20,23] [.inRegion (opsOf (q34 [1,0,1,0,1,0,0,1,0,0])) [4,5],.code .ret,.code (q34 [1,0,1,0,1,0,1]),.inBlock 0,.code (q34 [1,1])] [ptr0 61,i64 (v 12)] []:=⟨fun st=>by kernel_rfl,fun st=>by kernel_rfl,by kernel_rfl,of_decide_eq_true (by kernel_rfl)⟩
theorem wi2:OpC 98 (opsOf (q34 [1,0,1,0,1,0,0,1,0,0])) 4 [(20,.opq 20),(23,.opq 23)] 23 [.opq 20,.opq 23] 24:=⟨fun st=>by kernel_rfl,fun st=>by kernel_rfl,fun st=>by kernel_rfl,by kernel_rfl,by decide,rfl⟩
theorem wi3:Pc 34 98 [.inRegion (opsOf (q34 [1,0,1,0,1,0,0,1,0,0])) [5],.code .ret,.code (q34 [1,0,1,0,1,0,1]),.inBlock 0,.code (q34 [1,1])] [(24,.opq 24)] [] [] [] 2 [] [8] [.code .ret,.code (q34 [1,0,1,0,1,0,1]),.inBlock 0,.code (q34 [1,1])] [.opq 24] []:=⟨fun st=>by kernel_rfl,fun st=>by kernel_rfl,by kernel_rfl,of_decide_eq_true (by kernel_rfl)⟩
theorem wi4:Pc 34 98 [.code (q34 [])] [(0,ptr0 61),(1,.agg [i8 (v 1),i64 (v 2),i64 (v 3),i64 (v 4)]),(2,.slice (some ⟨(.dyn 80),(v 83)⟩) (v 81) (v 82)),(3,i64 (v 5))] [((.cmp .eql (v 1) (.lit 12)),true),((.cmp .neq (v 5) (.lit 0)),false),((.cmp .lss (.lit 2) (.tn (v 81))),true)] [(⟨(.dyn 80),(.plus (.tn (v 83)) (.lit 2))⟩,i64 (v 12))] [] 32 [] [25,28] [.inRegion (opsOf (q34 [1,0,1,0,1,0,1,0])) [4,5],.code .ret,.inBlock 0,.code (q34 [1,1])] [ptr0 61,i64 (v 12)] []:=⟨fun st=>by kernel_rfl,fun st=>by kernel_rfl,by kernel_rfl,of_decide_eq_true (by kernel_rfl)⟩
theorem wi5:OpC 98 (opsOf (q34 [1,0,1,0,1,0,1,0])) 4 [(25,.opq 25),(28,.opq 28)] 23 [.opq 25,.opq 28] 29:=⟨fun st=>by kernel_rfl,fun st=>by kernel_rfl,fun st=>by kernel_rfl,by kernel_rfl,by decide,rfl⟩
theorem wi6:Pc 34 98 [.inRegion (opsOf (q34 [1,0,1,0,1,0,1,0])) [5],.code .ret,.inBlock 0,.code (q34 [1,1])] [(29,.opq 29)] [] [] [] 2 [] [8] [.code .ret,.inBlock 0,.code (q34 [1,1])] [.opq 29] []:=⟨fun st=>by kernel_rfl,fun st=>by kernel_rfl,by kernel_rfl,of_decide_eq_true (by kernel_rfl)⟩
theorem wi7:Pc 34 98 [.code (q34 [])] [(0,ptr0 61),(1,.agg [i8 (v 1),i64 (v 2),i64 (v 3),i64 (v 4)]),(2,.slice (some ⟨(.dyn 80),(v 83)⟩) (v 81) (v 82)),(3,i64 (v 5))] [((.cmp .eql (v 1) (.lit 12)),false),((.cmp .eql (v 1) (.lit 3)),true)] [] [] 31 [] [8] [.code .ret,.inBlock 0,.code (q34 [1,1])] [.iface 79 (i64 (.op .sub .i64 (.lit 0) (v 5)))] []:=⟨fun st=>by kernel_rfl,fun st=>by kernel_rfl,by kernel_rfl,of_decide_eq_true (by kernel_rfl)⟩
theorem wi8:Pc 34 98 [.code (q34 [])] [(0,ptr0 61),(1,.agg [i8 (v 1),i64 (v 2),i64 (v 3),i64 (v 4)]),(2,.slice (some ⟨(.dyn 80),(v 83)⟩) (v 81) (v 82)),(3,i64 (v 5))] [((.cmp .eql (v 1) (.lit 12)),false),((.cmp .eql (v 1) (.lit 3)),false),((.cmp .eql (v 1) (.lit 13)),true)] [] [] 37 [] [8] [.code .ret,.inBlock 0,.code (q34 [1,1])] [.iface 82 (.agg [i8 (.lit 2),i64 (v 5)])] []:=⟨fun st=>by kernel_rfl,fun st=>by kernel_rfl,by kernel_rfl,of_decide_eq_true (by kernel_rfl)⟩
theorem wi9:Pc 34 98 [.code (q34 [])] [(0,ptr0 61),(1,.agg [i8 (v 1),i64 (v 2),i64 (v 3),i64 (v 4)]),(2,.slice (some ⟨(.dyn 80),(v 83)⟩) (v 81) (v 82)),(3,i64 (v 5))] [((.cmp .eql (v 1) (.lit 12)),false),((.cmp .eql (v 1) (.lit 3)),false),((.cmp .eql (v 1) (.lit 13)),false),((.cmp .eql (v 1) (.lit 14)),true)] [] [] 43 [] [8] [.code .ret,.inBlock 0,.code (q34 [1,1])] [.iface 82 (.agg [i8 (.lit 3),i64 (v 5)])] []:=⟨fun st=>by kernel_rfl,fun st=>by kernel_rfl,by kernel_rfl,of_decide_eq_true (by kernel_rfl)⟩
theorem wiA:Pc 34 98 [.code (q34 [])] [(0,ptr0 61),(1,.agg [i8 (v 1),i64 (v 2),i64 (v 3),i64 (v 4)]),(2,.slice (some ⟨(.dyn 80),(v 83)⟩) (v 81) (v 82)),(3,i64 (v 5))] [((.cmp .eql (v 1) (.lit 12)),false),((.cmp .eql (v 1) (.lit 3)),false),((.cmp .eql (v 1) (.lit 13)),false),((.cmp .eql (v 1) (.lit 14)),false),((.cmp .eql (v 1) (.lit 15)),true)] [(⟨(.dyn 61),(.lit 2)⟩,i64 (v 21)),(⟨(.dyn 61),(.lit 3)⟩,i64 (v 22)),(⟨(.dyn 61),(.lit 4)⟩,i64 (v 23)),(⟨(.dyn 61),(.lit 5)⟩,i64 (v 24))] [] 49 [] [50,51] [.inRegion (opsOf (q34 [1,0,1,0,1,1,1,1,1,1,1,1,1,0,0])) [5,6],.code .ret,.inBlock 0,.code (q34 [1,1])] [.agg [i64 (v 21),i64 (v 22),i64 (v 23),i64 (v 24)],i64 (v 5)] []:=⟨fun st=>by kernel_rfl,fun st=>by kernel_rfl,by kernel_rfl,of_decide_eq_true (by kernel_rfl)⟩
theorem wiB:OpC 98 (opsOf (q34 [1,0,1,0,1,1,1,1,1,1,1,1,1,0,0])) 5 [(50,.opq 50),(51,.opq 51)] 48 [.opq 50,.opq 51] 52:=⟨fun st=>by kernel_rfl,fun st=>by kernel_rfl,fun st=>by kernel_rfl,by kernel_rfl,by decide,rfl⟩
theorem wiC:Pc 34 98 [.inRegion (opsOf (q34 [1,0,1,0,1,1,1,1,1,1,1,1,1,0,0])) [6],.code .ret,.inBlock 0,.code (q34 [1,1])] [(52,.opq 52)] [] [] [] 2 [] [8] [.code .ret,.inBlock 0,.code (q34 [1,1])] [.opq 52] []:=⟨fun st=>by kernel_rfl,fun st=>by kernel_rfl,by kernel_rfl,of_decide_eq_true (by kernel_rfl)⟩
theorem wiD:Pc 34 98 [.code (q34 [])] [(0,ptr0 61),(1,.agg [i8 (v 1),i64 (v 2),i64 (v 3),i64 (v 4)]),(2,.slice (some ⟨(.dyn 80),(v 83)⟩) (v 81) (v 82)),(3,i64 (v 5))] [((.cmp .eql (v 1) (.lit 12)),false),((.cmp .eql (v 1) (.lit 3)),false),((.cmp .eql (v 1) (.lit 13)),false),((.cmp .eql (v 1) (.lit 14)),false),((.cmp .eql (v 1) (.lit 15)),false),((.cmp .eql (v 1) (.lit 16)),true)] [] [] 54 [] [8] [.code .ret,.inBlock 0,.code (q34 [1,1])] [.iface 79 (i64 (v 5))] []:=⟨fun st=>by kernel_rfl,fun st=>by kernel_rfl,by kernel_rfl,of_decide_eq_true (by kernel_rfl)⟩
theorem wiE:Pc 34 98 [.code (q34 [])] [(0,ptr0 61),(1,.agg [i8 (v 1),i64 (v 2),i64 (v 3),i64 (v 4)]),(2,.slice (some ⟨(.dyn 80),(v 83)⟩) (v 81) (v 82)),(3,i64 (v 5))] [((.cmp .eql (v 1) (.lit 12)),false),((.cmp .eql (v 1) (.lit 3)),false),((.cmp .eql (v 1) (.lit 13)),false),((.cmp .eql (v 1) (.lit 14)),false),((.cmp .eql (v 1) (.lit 15)),false),((.cmp .eql (v 1) (.lit 16)),false)] [] [] 59 [100] [0,3,5,9,58] [.inRegion (opsOf (q34 [1,1,1,0,0])) [1,2,3],.code (q34 [1,1,1,0,1]),.code (q34 [1,1,1,1])] [ptr0 61,i64 (v 5),ptr0 100,i64 (v 5),.slice (some ⟨(.dyn 80),(v 83)⟩) (v 81) (v 82)] [(100,.cells [i8 (v 1),i64 (v 2),i64 (v 3),i64 (v 4)] 75)]:=⟨fun st=>by kernel_rfl,fun st=>by kernel_rfl,by kernel_rfl,of_decide_eq_true (by kernel_rfl)⟩
theorem wiF:OpW 98 (opsOf (q34 [1,1,1,0,0])) 1 [] (.slice 23 (.tmp 58) (some (.const (.int .i64 1))) none none) 23 (some 59):=⟨fun st=>by kernel_rfl,fun st=>by kernel_rfl,by kernel_rfl⟩
theorem wiG:Pc 34 98 [.inRegion (opsOf (q34 [1,1,1,0,0])) [2,3],.code (q34 [1,1,1,0,1]),.code (q34 [1,1,1,1])] [(0,ptr0 61),(3,i64 (v 5)),(5,ptr0 64),(9,i64 (v 7)),(59,.slice (some ⟨(.dyn 80),(v 83)⟩) (v 81) (v 82))] [] [] [] 5 [] [0,3,5,9,59,60,61] [.code (q34 [1,1,1,0,1,0,0]),.inLoop (q34 [1,1,1,0,1,0,0]),.inBlock 1,.code (q34 [1,1,1,1])] [ptr0 61,i64 (v 5),ptr0 64,i64 (v 7),.slice (some ⟨(.dyn 80),(v 83)⟩) (v 81) (v 82),i64 (.tn (v 81)),i64 (.lit 0)] []:=⟨fun st=>by kernel_rfl,fun st=>by kernel_rfl,by kernel_rfl,of_decide_eq_true (by kernel_rfl)⟩
theorem wiH:Pc 34 98 [.code (q34 [1,1,1,0,1,0,0]),.inLoop (q34 [1,1,1,0,1,0,0]),.inBlock 1,.code (q34 [1,1,1,1])] [(0,ptr0 61),(3,i64 (v 5)),(5,ptr0 64),(9,i64 (v 7)),(59,.slice (some ⟨(.dyn 80),(v 83)⟩) (v 81) (v 82)),(60,i64 (.tn (v 81))),(61,i64 (v 10))] [((.cmp .lss (v 10) (.tn (v 81))),true),((.cmp .leq (.lit 0) (v 10)),true),((.cmp .lss (v 10) (.lit 0)),false),((.cmp .geq (v 10) (.tn (v 81))),false)] [(⟨(.dyn 80),(.plus (.tn (v 83)) (.tn (v 10)))⟩,i64 (v 12))] [] 19 [] [0,3,5,9,11,59,60,61,66,67] [.inRegion (opsOf (q34 [1,1,1,0,1,0,0,1,1,0,0,1,0])) [2,3,4,5,6,7,8],.code (q34 [1,1,1,0,1,0,0,1,1,0,0,1,1]),.inBlock 2,.code (q34 [1,1,1,0,1,0,0,1,1,1]),.inLoop (q34 [1,1,1,0,1,0,0]),.inBlock 1,.code (q34 [1,1,1,1])] [ptr0 61,i64 (v 5),ptr0 64,i64 (v 7),i64 (v 12),.slice (some ⟨(.dyn 80),(v 83)⟩) (v 81) (v 82),i64 (.tn (v 81)),i64 (v 10),ptr0 61,i64 (v 12)] []:=⟨fun st=>by kernel_rfl,fun st=>by kernel_rfl,by kernel_rfl,of_decide_eq_true (by kernel_rfl)⟩
theorem wiI:OpC 98 (opsOf (q34 [1,1,1,0,1,0,0,1,1,0,0,1,0])) 2 [(66,.opq 66),(67,.opq 67)] 23 [.opq 66,.opq 67] 68:=⟨fun st=>by kernel_rfl,fun st=>by kernel_rfl,fun st=>by kernel_rfl,by kernel_rfl,by decide,rfl⟩
theorem wiJ:Pc 34 98 [.inRegion (opsOf (q34 [1,1,1,0,1,0,0,1,1,0,0,1,0])) [3,4,5,6,7,8],.code (q34 [1,1,1,0,1,0,0,1,1,0,0,1,1]),.inBlock 2,.code (q34 [1,1,1,0,1,0,0,1,1,1]),.inLoop (q34 [1,1,1,0,1,0,0]),.inBlock 1,.code (q34 [1,1,1,1])] [(0,ptr0 61),(3,i64 (v 5)),(5,ptr0 64),(9,i64 (v 7)),(59,.slice (some ⟨(.dyn 80),(v 83)⟩) (v 81) (v 82)),(60,i64 (.tn (v 81))),(61,i64 (v 10)),(11,i64 (v 12)),(68,.iface 82 (.agg [i8 (v 8),i64 (v 6)]))] [] [] [] 18 [] [74,75] [.inRegion (opsOf (q34 [1,1,1,0,1,0,0,1,1,0,0,1,1,0,1,0,0])) [2,3],.code .ret,.code (q34 [1,1,1,0,1,0,0,1,1,0,0,1,1,1]),.inBlock 2,.code (q34 [1,1,1,0,1,0,0,1,1,1]),.inLoop (q34 [1,1,1,0,1,0,0]),.inBlock 1,.code (q34 [1,1,1,1])] [ptr0 61,i64 (v 12)] []:=⟨fun st=>by kernel_rfl,fun st=>by kernel_rfl,by kernel_rfl,of_decide_eq_true (by kernel_rfl)⟩
theorem wiK:OpC 98 (opsOf (q34 [1,1,1,0,1,0,0,1,1,0,0,1,1,0,1,0,0])) 2 [(74,.opq 74),(75,.opq 75)] 23 [.opq 74,.opq 75] 76:=⟨fun st=>by kernel_rfl,fun st=>by kernel_rfl,fun st=>by kernel_rfl,by kernel_rfl,by decide,rfl⟩
theorem wiL:Pc 34 98 [.inRegion (opsOf (q34 [1,1,1,0,1,0,0,1,1,0,0,1,1,0,1,0,0])) [3],.code .ret,.code (q34 [1,1,1,0,1,0,0,1,1,0,0,1,1,1]),.inBlock 2,.code (q34 [1,1,1,0,1,0,0,1,1,1]),.inLoop (q34 [1,1,1,0,1,0,0]),.inBlock 1,.code (q34 [1,1,1,1])] [(76,.opq 76)] [] [] [] 2 [] [8] [.code .ret,.code (q34 [1,1,1,0,1,0,0,1,1,0,0,1,1,1]),.inBlock 2,.code (q34 [1,1,1,0,1,0,0,1,1,1]),.inLoop (q34 [1,1,1,0,1,0,0]),.inBlock 1,.code (q34 [1,1,1,1])] [.opq 76] []:=⟨fun st=>by kernel_rfl,fun st=>by kernel_rfl,by kernel_rfl,of_decide_eq_true (by kernel_rfl)⟩
theorem wiM4:Pc 34 98 [.inRegion (opsOf (q34 [1,1,1,0,1,0,0,1,1,0,0,1,0])) [3,4,5,6,7,8],.code (q34 [1,1,1,0,1,0,0,1,1,0,0,1,1]),.inBlock 2,.code (q34 [1,1,1,0,1,0,0,1,1,1]),.inLoop (q34 [1,1,1,0,1,0,0]),.inBlock 1,.code (q34 [1,1,1,1])] [(0,ptr0 61),(3,i64 (v 5)),(5,ptr0 64),(9,i64 (v 7)),(59,.slice (some ⟨(.dyn 80),(v 83)⟩) (v 81) (v 82)),(60,i64 (.tn (v 81))),(61,i64 (v 10)),(11,i64 (v 12)),(68,.iface 79 (i64 (v 6)))] [((.cmp .eql (v 1) (.lit 4)),true)] [(⟨(.dyn 64),(.lit 0)⟩,i8 (v 1))] [] 45 [] [0,3,5,9,59,60,61] [.code (q34 [1,1,1,0,1,0,0]),.inLoop (q34 [1,1,1,0,1,0,0]),.inBlock 1,.code (q34 [1,1,1,1])] [ptr0 61,i64 (v 5),ptr0 64,i64 (.op .add .i64 (v 5) (v 6)),.slice (some ⟨(.dyn 80),(v 83)⟩) (v 81) (v 82),i64 (.tn (v 81)),i64 (.op .add .i64 (v 10) (.lit 1))] []:=⟨fun st=>by kernel_rfl,fun st=>by kernel_rfl,by kernel_rfl,of_decide_eq_true (by kernel_rfl)⟩
theorem wiM5:Pc 34 98 [.inRegion (opsOf (q34 [1,1,1,0,1,0,0,1,1,0,0,1,0])) [3,4,5,6,7,8],.code (q34 [1,1,1,0,1,0,0,1,1,0,0,1,1]),.inBlock 2,.code (q34 [1,1,1,0,1,0,0,1,1,1]),.inLoop (q34 [1,1,1,0,1,0,0]),.inBlock 1,.code (q34 [1,1,1,1])] [(0,ptr0 61),(3,i64 (v 5)),(5,ptr0 64),(9,i64 (v 7)),(59,.slice (some ⟨(.dyn 80),(v 83)⟩) (v 81) (v 82)),(60,i64 (.tn (v 81))),(61,i64 (v 10)),(11,i64 (v 12)),(68,.iface 79 (i64 (v 6)))] [((.cmp .eql (v 1) (.lit 4)),false),((.cmp .eql (v 1) (.lit 5)),true)] [(⟨(.dyn 64),(.lit 0)⟩,i8 (v 1))] [] 51 [] [0,3,5,9,59,60,61] [.code (q34 [1,1,1,0,1,0,0]),.inLoop (q34 [1,1,1,0,1,0,0]),.inBlock 1,.code (q34 [1,1,1,1])] [ptr0 61,i64 (v 5),ptr0 64,i64 (.op .sub .i64 (v 5) (v 6)),.slice (some ⟨(.dyn 80),(v 83)⟩) (v 81) (v 82),i64 (.tn (v 81)),i64 (.op .add .i64 (v 10) (.lit 1))] []:=⟨fun st=>by kernel_rfl,fun st=>by kernel_rfl,by kernel_rfl,of_decide_eq_true (by kernel_rfl)⟩
theorem wiM6:Pc 34 98 [.inRegion (opsOf (q34 [1,1,1,0,1,0,0,1,1,0,0,1,0])) [3,4,5,6,7,8],.code (q34 [1,1,1,0,1,0,0,1,1,0,0,1,1]),.inBlock 2,.code (q34 [1,1,1,0,1,0,0,1,1,1]),.inLoop (q34 [1,1,1,0,1,0,0]),.inBlock 1,.code (q34 [1,1,1,1])] [(0,ptr0 61),(3,i64 (v 5)),(5,ptr0 64),(9,i64 (v 7)),(59,.slice (some ⟨(.dyn 80),(v 83)⟩) (v 81) (v 82)),(60,i64 (.tn (v 81))),(61,i64 (v 10)),(11,i64 (v 12)),(68,.iface 79 (i64 (v 6)))] [((.cmp .eql (v 1) (.lit 4)),false),((.cmp .eql (v 1) (.lit 5)),false),((.cmp .eql (v 1) (.lit 6)),true)] [(⟨(.dyn 64),(.lit 0)⟩,i8 (v 1))] [] 57 [] [0,3,5,9,59,60,61] [.code (q34 [1,1,1,0,1,0,0]),.inLoop (q34 [1,1,1,0,1,0,0]),.inBlock 1,.code (q34 [1,1,1,1])] [ptr0 61,i64 (v 5),ptr0 64,i64 (.op .mul .i64 (v 5) (v 6)),.slice (some ⟨(.dyn 80),(v 83)⟩) (v 81) (v 82),i64 (.tn (v 81)),i64 (.op .add .i64 (v 10) (.lit 1))] []:=⟨fun st=>by kernel_rfl,fun st=>by kernel_rfl,by kernel_rfl,of_decide_eq_true (by kernel_rfl)⟩
theorem wiM0:Pc 34 98 [.inRegion (opsOf (q34 [1,1,1,0,1,0,0,1,1,0,0,1,0])) [3,4,5,6,7,8],.code (q34 [1,1,1,0,1,0,0,1,1,0,0,1,1]),.inBlock 2,.code (q34 [1,1,1,0,1,0,0,1,1,1]),.inLoop (q34 [1,1,1,0,1,0,0]),.inBlock 1,.code (q34 [1,1,1,1])] [(0,ptr0 61),(3,i64 (v 5)),(5,ptr0 64),(9,i64 (v 7)),(59,.slice (some ⟨(.dyn 80),(v 83)⟩) (v 81) (v 82)),(60,i64 (.tn (v 81))),(61,i64 (v 10)),(11,i64 (v 12)),(68,.iface 79 (i64 (v 6)))] [((.cmp .eql (v 1) (.lit 4)),false),((.cmp .eql (v 1) (.lit 5)),false),((.cmp .eql (v 1) (.lit 6)),false)] [(⟨(.dyn 64),(.lit 0)⟩,i8 (v 1))] [] 52 [] [0,3,5,9,59,60,61] [.code (q34 [1,1,1,0,1,0,0]),.inLoop (q34 [1,1,1,0,1,0,0]),.inBlock 1,.code (q34 [1,1,1,1])] [ptr0 61,i64 (v 5),ptr0 64,i64 (v 6),.slice (some ⟨(.dyn 80),(v 83)⟩) (v 81) (v 82),i64 (.tn (v 81)),i64 (.op .add .i64 (v 10) (.lit 1))] []:=⟨fun st=>by kernel_rfl,fun st=>by kernel_rfl,by kernel_rfl,of_decide_eq_true (by kernel_rfl)⟩
theorem wiN:Pc 34 98 [.code (q34 [1,1,1,0,1,0,0]),.inLoop (q34 [1,1,1,0,1,0,0]),.inBlock 1,.code (q34 [1,1,1,1])] [(0,ptr0 61),(3,i64 (v 5)),(5,ptr0 64),(9,i64 (v 7)),(59,.slice (some ⟨(.dyn 80),(v 83)⟩) (v 81) (v 82)),(60,i64 (.tn (v 81))),(61,i64 (v 10))] [((.cmp .lss (v 10) (.tn (v 81))),false)] [] [] 13 [] [8] [.code .ret] [.iface 79 (i64 (v 7))] []:=⟨fun st=>by kernel_rfl,fun st=>by kernel_rfl,by kernel_rfl,of_decide_eq_true (by kernel_rfl)⟩
def arithF(op x y:Int):Int:=if op=4 then iop .add .i64 x y else if op=5 then iop .sub .i64 x y else if op=6 then iop .mul .i64 x y else y
def lastF(op x:Int):Int->List (Int×Int)->Int×Int
 |acc,[]=>(1,acc)
 |acc,e::r=>if e.1=1 then lastF op x (arithF op x e.2) r else e
def withF(op x:Int)(m:MakerD)(vs:List (Int×Int)):Int×Int:=
 if op=12 then(if x≠0 then vs.getD 1 (0,0)else vs.getD 2 (0,0))
 else if op=3 then(1,iop .sub .i64 0 x)
 else if op=13 then(2,x)
 else if op=14 then(3,x)
 else if op=15 then buildF m x
 else if op=16 then(1,x)
 else lastF op x x (vs.drop 1)
def combF(op n:Int)(E:List (Int×Int))(m:MakerD)(vs:List (Int×Int)):Int×Int:=
 if op=1 then(1,n)
 else if op=2 then E.getD n.toNat (0,0)
 else if op=11 then(vs.find? fun e=>decide (e.1=1)).getD (vs.headD (0,0))
 else if(vs.headD (0,0)).1=1 then withF op (vs.headD (0,0)).2 m vs else vs.headD (0,0)
mutual
def evF(E:List (Int×Int))(m:MakerD):T->Int×Int
 |.nd n ks=>combF n.op n.n E m (evL E m ks)
def evL(E:List (Int×Int))(m:MakerD):List T->List (Int×Int)
 |[]=>[]
 |t::ts=>evF E m t::evL E m ts
end
theorem evL_map(E:List (Int×Int))(m:MakerD):∀ts:List T,evL E m ts=ts.map (evF E m)
 |[]=>rfl
 |t::ts=>by rw[evL,evL_map E m ts];rfl
mutual
def NeedT(N:Nat):T->Prop
 |.nd n ks=>(n.op=2->0≤n.n∧n.n<N)∧(n.op≠1->n.op≠2->ks≠[])∧(n.op=12->ks.length=3)∧NeedL N ks
def NeedL(N:Nat):List T->Prop
 |[]=>True
 |t::ts=>NeedT N t∧NeedL N ts
end
theorem WfL.mem:∀{ts:List T},WfL ts->∀t∈ts,WfT t
 |t'::ts,h,t,ht=>by
  rcases List.mem_cons.1 ht with rfl|ht
  ·exact h.1
  ·exact WfL.mem (ts:=ts) h.2 t ht
theorem NeedL.mem{N:Nat}:∀{ts:List T},NeedL N ts->∀t∈ts,NeedT N t
 |t'::ts,h,t,ht=>by
  rcases List.mem_cons.1 ht with rfl|ht
  ·exact h.1
  ·exact NeedL.mem (ts:=ts) h.2 t ht
theorem outV_val{e:Int×Int}(h:e.1=1):outV e=.iface 79 (iV e.2):=by
 unfold outV;rw[if_pos h]
theorem outV_bad{e:Int×Int}(h:e.1≠1):outV e=.iface 82 (.agg #[i8V e.1,iV e.2]):=by
 unfold outV;rw[if_neg h]
def ndV(n:Nd):Value:=.agg #[i8V n.op,iV n.n,iV n.kids,iV n.at']
structure MakIn(w:World)(b:Nat)(m:MakerD):Prop where
 c2:w.cell? ⟨b,2,none⟩=some (iV m.mul)
 c3:w.cell? ⟨b,3,none⟩=some (iV m.add)
 c4:w.cell? ⟨b,4,none⟩=some (iV m.fails)
 c5:w.cell? ⟨b,5,none⟩=some (iV m.panics)
theorem intU:under? Try.prog 23=.ok (.slice 3):=by kernel_rfl
theorem intS:sizeOf? Try.prog 3=.ok 1:=by kernel_rfl
def KidsC(w0:World)(b:Nat)(js:List Nat)(vs:List (Int×Int)):Prop:=∀(i j:Nat) (e:Int×Int),js[i]?=some j->vs[i]?=some e->∀w',Fresh w0 w'->Ans 23 #[ptrV b,iV j] w' fun v w2=>Fresh w' w2∧v=outV e
noncomputable abbrev WiH:List Item:=[.code (q34 [1,1,1,0,1,0,0]),.inLoop (q34 [1,1,1,0,1,0,0]),.inBlock 1,.code (q34 [1,1,1,1])]
section
variable {w w0:World}{cs:List Frame}{fr:Frame}
theorem both{js:List Nat}{vs:List (Int×Int)}(hl:js.length=vs.length){i:Nat}(h:i<vs.length):∃j e,js[i]?=some j∧vs[i]?=some e:=⟨_,_,List.getElem?_eq_getElem (hl▸h),List.getElem?_eq_getElem h⟩
theorem wi_loop{b X K o' c:Nat}{op x:Int}{js:List Nat}{vs:List (Int×Int)}(hl:js.length=vs.length)(hbig:js.length≤1000000)(hX:w0.cell? ⟨X,0,none⟩=some (i8V op))(hc:∀i j:Nat,js[i+1]?=some j->w0.cell? ⟨K,o'+i,none⟩=some (iV j))(hk:KidsC w0 b js vs):
  ∀(m i:Nat) (acc:Int) {w:World} {cs:List Frame} {fr:Frame},i+m+1=vs.length->Fresh w0 w->FA 34 98 WiH [] .normal [(0,ptrV b),(3,iV x),(5,ptrV X),(9,iV acc),(59,slV K o' (js.length-1) c),(60,iV ((js.length-1:Nat):Int)),(61,iV i)] fr->
  Goes (G fr cs) w fun g' w'=>∃fr',g'=G fr' cs∧Fresh w0 w'∧Leav 34 fr' w' (outV (lastF op x acc (vs.drop (i+1))))
 |0,i,acc,w,cs,fr,hi,fw,hf=>by
  refine(wiN.go (mkE [(5,x),(7,acc),(83,o'),(81,(js.length-1:Nat)),(82,c),(10,i)] [(61,b),(64,X),(80,K)] []) hf rfl ⟨decide_eq_false (by show ¬((i:Int)<((js.length-1:Nat):Int));omega),trivial⟩ trivial).trans fun g1 w1 hd=>?_
  obtain⟨I,B,fr1,rfl,f1,F1,_⟩:=hd
  refine(leave1 ret34 F1 rfl).mono fun g2 w2 hd2=>?_
  obtain⟨fr2,rfl,rfl,hL⟩:=hd2
  rw[List.drop_of_length_le (by omega)]
  exact⟨fr2,rfl,fw.trans f1,hL⟩
 |m+1,i,acc,w,cs,fr,hi,fw,hf=>by
  obtain⟨j,e,hj,he⟩:=both hl (i:=i+1) (by omega)
  refine(wiH.go (mkE [(5,x),(7,acc),(83,o'),(81,(js.length-1:Nat)),(82,c),(10,i),(12,j)] [(61,b),(64,X),(80,K)] []) hf rfl (ltB_ok (i:=10) (n:=81) (I:=i) (N:=js.length-1) rfl rfl (by omega)) ⟨fw.cell (hc i j hj),trivial⟩).trans fun g1 w1 hd=>?_
  obtain⟨I,B,fr1,rfl,f1,F1,_⟩:=hd
  refine(wiI.go (mkE [] [] [(66,ptrV b),(67,iV j)]) (Q:=fun v w'=>v=outV e) F1 rfl fun w' f2=>hk (i+1) j e hj he w' (fw.trans (f1.trans f2))).trans fun g2 w2 hd2=>?_
  obtain⟨fr2,vv,rfl,f2,rfl,F2⟩:=hd2
  have f012:=fw.trans (f1.trans f2)
  have hdrop:vs.drop (i+1)=e::vs.drop (i+1+1):=by
   have hlt:i+1<vs.length:=by omega
   rw[List.drop_eq_getElem_cons hlt]
   congr 1
   exact Option.some.inj ((List.getElem?_eq_getElem hlt).symm.trans he)
  rw[hdrop]
  by_cases h1:e.1=1
  ·rw[outV_val h1]at F2
   have next:∀{w3:World} {fr3:Frame} {y:Int},y=arithF op x e.2->Fresh w2 w3->FA 34 98 WiH [] .normal [(0,ptrV b),(3,iV x),(5,ptrV X),(9,iV y),(59,slV K o' (js.length-1) c),(60,iV ((js.length-1:Nat):Int)),(61,iV (iop .add .i64 i 1))] fr3->Goes (G fr3 cs) w3 fun g' w'=>∃fr',g'=G fr' cs∧Fresh w0 w'∧Leav 34 fr' w' (outV (lastF op x acc (e::vs.drop (i+1+1)))):=fun{w3 fr3 y} hy f3 F3=>by
    subst hy
    rw[inc (by omega)]at F3
    unfold lastF
    rw[if_pos h1]
    exact wi_loop hl hbig hX hc hk m (i+1) (arithF op x e.2) (by omega) (f012.trans f3) F3
   obtain⟨ρ,hρ⟩:∃ρ:Env,ρ=mkE [(5,x),(7,acc),(83,o'),(81,(js.length-1:Nat)),(82,c),(10,i),(12,j),(6,e.2),(1,op)] [(61,b),(64,X),(80,K)] []:=⟨_,rfl⟩
   have mm:AllM ρ w2 [(⟨(.dyn 64),(.lit 0)⟩,i8 (v 1))]:=by
    rw[hρ];exact⟨f012.cell hX,trivial⟩
   by_cases h4:op=4
   ·refine(wiM4.go ρ F2 (by rw[hρ];rfl) ⟨by rw[hρ];exact decide_eq_true h4,trivial⟩ mm).trans fun g3 w3 hd3=>?_
    obtain⟨I,B,fr3,rfl,f3,F3,_⟩:=hd3
    rw[hρ]at F3
    exact next (by unfold arithF;rw[if_pos h4];rfl) f3 F3
   by_cases h5:op=5
   ·refine(wiM5.go ρ F2 (by rw[hρ];rfl) ⟨by rw[hρ];exact decide_eq_false h4,by rw[hρ];exact decide_eq_true h5,trivial⟩ mm).trans fun g3 w3 hd3=>?_
    obtain⟨I,B,fr3,rfl,f3,F3,_⟩:=hd3
    rw[hρ]at F3
    exact next (by unfold arithF;rw[if_neg h4,if_pos h5];rfl) f3 F3
   by_cases h6:op=6
   ·refine(wiM6.go ρ F2 (by rw[hρ];rfl) ⟨by rw[hρ];exact decide_eq_false h4,by rw[hρ];exact decide_eq_false h5,by rw[hρ];exact decide_eq_true h6,trivial⟩ mm).trans fun g3 w3 hd3=>?_
    obtain⟨I,B,fr3,rfl,f3,F3,_⟩:=hd3
    rw[hρ]at F3
    exact next (by unfold arithF;rw[if_neg h4,if_neg h5,if_pos h6];rfl) f3 F3
   ·refine(wiM0.go ρ F2 (by rw[hρ];rfl) ⟨by rw[hρ];exact decide_eq_false h4,by rw[hρ];exact decide_eq_false h5,by rw[hρ];exact decide_eq_false h6,trivial⟩ mm).trans fun g3 w3 hd3=>?_
    obtain⟨I,B,fr3,rfl,f3,F3,_⟩:=hd3
    rw[hρ]at F3
    exact next (y:=e.2) (by unfold arithF;rw[if_neg h4,if_neg h5,if_neg h6]) f3 F3
  ·rw[outV_bad h1]at F2
   refine(wiJ.go (mkE [(5,x),(8,e.1),(7,acc),(83,o'),(81,(js.length-1:Nat)),(82,c),(10,i),(12,j),(6,e.2)] [(61,b),(64,X),(80,K)] []) F2 rfl trivial trivial).trans fun g3 w3 hd3=>?_
   obtain⟨I,B,fr3,rfl,f3,F3,_⟩:=hd3
   refine(wiK.go (mkE [] [] [(74,ptrV b),(75,iV j)]) (Q:=fun v w'=>v=outV e) F3 rfl fun w' f4=>hk (i+1) j e hj he w' (f012.trans (f3.trans f4))).trans fun g4 w4 hd4=>?_
   obtain⟨fr4,vv,rfl,f4,rfl,F4⟩:=hd4
   refine(wiL.go (mkE [] [] [(76,outV e)]) F4 rfl trivial trivial).trans fun g5 w5 hd5=>?_
   obtain⟨I,B,fr5,rfl,f5,F5,_⟩:=hd5
   refine(leave1 ret34 F5 rfl).mono fun g6 w6 hd6=>?_
   obtain⟨fr6,rfl,rfl,hL⟩:=hd6
   unfold lastF
   rw[if_neg h1]
   exact⟨fr6,rfl,f012.trans (f3.trans (f4.trans f5)),hL⟩
theorem with_all{b K c:Nat}{m:MakerD}{n:Nd}{x:Int}{js:List Nat}{vs:List (Int×Int)}(hl:js.length=vs.length)(hbig:js.length≤1000000)(hne:vs≠[])(hcap:js.length≤c)(hc:∀i j:Nat,js[i]?=some j->w.cell? ⟨K,0+i,none⟩=some (iV j))(hm:MakIn w b m)(hk:KidsC w b js vs)(h12:n.op=12->vs.length=3):
  Ans 34 #[ptrV b,ndV n,slV K 0 js.length c,iV x] w fun v w'=>Fresh w w'∧v=outV (withF n.op x m vs):=by
 have E:=enter4 ent34 rfl (ptrV b) (ndV n) (slV K 0 js.length c) (iV x)
 have hpos:0<vs.length:=List.length_pos_iff.2 hne
 refine ans_of fun cs=>?_
 obtain⟨ρ,hρ⟩:∃ρ:Int->Env,ρ=fun j=>mkE [(1,n.op),(2,n.n),(3,n.kids),(4,n.at'),(5,x),(83,(0:Nat)),(81,js.length),(82,c),(12,j),(21,m.mul),(22,m.add),(23,m.fails),(24,m.panics)] [(61,b),(80,K)] []:=⟨_,rfl⟩
 have fin:∀{k:List Item} {w1:World} {fr1:Frame} {v:Value},v=outV (withF n.op x m vs)->Fresh w w1->FA 34 98 (.code .ret::k) [] .normal [(8,v)] fr1->Goes (G fr1 cs) w1 fun g' w'=>∃fr' v,g'=G fr' cs∧Leav 34 fr' w' v∧Fresh w w'∧v=outV (withF n.op x m vs):=fun{k w1 fr1 v} hv f1 F1=>by
  refine(leave1 ret34 F1 rfl).mono fun g2 w2 hd2=>?_
  obtain⟨fr2,rfl,rfl,hL⟩:=hd2
  exact⟨fr2,_,rfl,hL,f1,hv⟩
 by_cases h:n.op=12
 ·have h3:=h12 h
  by_cases hx:x≠0
  ·obtain⟨j,e,hj,he⟩:=both hl (i:=1) (by omega)
   refine(wi1.go (ρ j) E (by rw[hρ];rfl) ⟨by rw[hρ];exact decide_eq_true h,by rw[hρ];show(!decide (x=0))=true;rw[decide_eq_false hx];rfl,by rw[hρ];exact decide_eq_true (by show(1:Int)<((js.length:Nat):Int);omega),trivial⟩ ⟨by rw[hρ];exact hc 1 j hj,trivial⟩).trans fun g1 w1 hd=>?_
   obtain⟨I,B,fr1,rfl,f1,F1,_⟩:=hd
   rw[hρ]at F1
   refine(wi2.go (mkE [] [] [(20,ptrV b),(23,iV j)]) (Q:=fun v w'=>v=outV e) F1 rfl fun w' f2=>hk 1 j e hj he w' (f1.trans f2)).trans fun g2 w2 hd2=>?_
   obtain⟨fr2,vv,rfl,f2,rfl,F2⟩:=hd2
   refine(wi3.go (mkE [] [] [(24,outV e)]) F2 rfl trivial trivial).trans fun g5 w5 hd5=>?_
   obtain⟨I,B,fr5,rfl,f5,F5,_⟩:=hd5
   refine fin ?_ (f1.trans (f2.trans f5)) F5
   unfold withF
   rw[if_pos h,if_pos hx,List.getD_eq_getElem?_getD,he];rfl
  ·obtain⟨j,e,hj,he⟩:=both hl (i:=2) (by omega)
   refine(wi4.go (ρ j) E (by rw[hρ];rfl) ⟨by rw[hρ];exact decide_eq_true h,by rw[hρ];show(!decide (x=0))=false;rw[decide_eq_true (Classical.not_not.1 hx)];rfl,by rw[hρ];exact decide_eq_true (by show(2:Int)<((js.length:Nat):Int);omega),trivial⟩ ⟨by rw[hρ];exact hc 2 j hj,trivial⟩).trans fun g1 w1 hd=>?_
   obtain⟨I,B,fr1,rfl,f1,F1,_⟩:=hd
   rw[hρ]at F1
   refine(wi5.go (mkE [] [] [(25,ptrV b),(28,iV j)]) (Q:=fun v w'=>v=outV e) F1 rfl fun w' f2=>hk 2 j e hj he w' (f1.trans f2)).trans fun g2 w2 hd2=>?_
   obtain⟨fr2,vv,rfl,f2,rfl,F2⟩:=hd2
   refine(wi6.go (mkE [] [] [(29,outV e)]) F2 rfl trivial trivial).trans fun g5 w5 hd5=>?_
   obtain⟨I,B,fr5,rfl,f5,F5,_⟩:=hd5
   refine fin ?_ (f1.trans (f2.trans f5)) F5
   unfold withF
   rw[if_pos h,if_neg hx,List.getD_eq_getElem?_getD,he];rfl
 have no:∀{a b:Int},a≠b->decide (a=b)=false:=fun h=>decide_eq_false h
 by_cases h3:n.op=3
 ·refine(wi7.go (ρ 0) E (by rw[hρ];rfl) ⟨by rw[hρ];exact no h,by rw[hρ];exact decide_eq_true h3,trivial⟩ trivial).trans fun g1 w1 hd=>?_
  obtain⟨I,B,fr1,rfl,f1,F1,_⟩:=hd
  rw[hρ]at F1
  refine fin ?_ f1 F1
  unfold withF
  rw[if_neg h,if_pos h3,outV_val rfl];rfl
 by_cases h13:n.op=13
 ·refine(wi8.go (ρ 0) E (by rw[hρ];rfl) ⟨by rw[hρ];exact no h,by rw[hρ];exact no h3,by rw[hρ];exact decide_eq_true h13,trivial⟩ trivial).trans fun g1 w1 hd=>?_
  obtain⟨I,B,fr1,rfl,f1,F1,_⟩:=hd
  rw[hρ]at F1
  refine fin ?_ f1 F1
  unfold withF
  rw[if_neg h,if_neg h3,if_pos h13,outV_bad (by show(2:Int)≠1;decide)];rfl
 by_cases h14:n.op=14
 ·refine(wi9.go (ρ 0) E (by rw[hρ];rfl) ⟨by rw[hρ];exact no h,by rw[hρ];exact no h3,by rw[hρ];exact no h13,by rw[hρ];exact decide_eq_true h14,trivial⟩ trivial).trans fun g1 w1 hd=>?_
  obtain⟨I,B,fr1,rfl,f1,F1,_⟩:=hd
  rw[hρ]at F1
  refine fin ?_ f1 F1
  unfold withF
  rw[if_neg h,if_neg h3,if_neg h13,if_pos h14,outV_bad (by show(3:Int)≠1;decide)];rfl
 by_cases h15:n.op=15
 ·refine(wiA.go (ρ 0) E (by rw[hρ];rfl) ⟨by rw[hρ];exact no h,by rw[hρ];exact no h3,by rw[hρ];exact no h13,by rw[hρ];exact no h14,by rw[hρ];exact decide_eq_true h15,trivial⟩ ⟨by rw[hρ];exact hm.c2,by rw[hρ];exact hm.c3,by rw[hρ];exact hm.c4,by rw[hρ];exact hm.c5,trivial⟩).trans fun g1 w1 hd=>?_
  obtain⟨I,B,fr1,rfl,f1,F1,_⟩:=hd
  rw[hρ]at F1
  refine(wiB.go (mkE [] [] [(50,makerV m),(51,iV x)]) (Q:=fun v w'=>v=outV (buildF m x)) F1 rfl fun w' f2=>build_all).trans fun g2 w2 hd2=>?_
  obtain⟨fr2,vv,rfl,f2,rfl,F2⟩:=hd2
  refine(wiC.go (mkE [] [] [(52,outV (buildF m x))]) F2 rfl trivial trivial).trans fun g5 w5 hd5=>?_
  obtain⟨I,B,fr5,rfl,f5,F5,_⟩:=hd5
  refine fin ?_ (f1.trans (f2.trans f5)) F5
  unfold withF
  rw[if_neg h,if_neg h3,if_neg h13,if_neg h14,if_pos h15];rfl
 by_cases h16:n.op=16
 ·refine(wiD.go (ρ 0) E (by rw[hρ];rfl) ⟨by rw[hρ];exact no h,by rw[hρ];exact no h3,by rw[hρ];exact no h13,by rw[hρ];exact no h14,by rw[hρ];exact no h15,by rw[hρ];exact decide_eq_true h16,trivial⟩ trivial).trans fun g1 w1 hd=>?_
  obtain⟨I,B,fr1,rfl,f1,F1,_⟩:=hd
  rw[hρ]at F1
  refine fin ?_ f1 F1
  unfold withF
  rw[if_neg h,if_neg h3,if_neg h13,if_neg h14,if_neg h15,if_pos h16,outV_val rfl];rfl
 ·refine(wiE.go (ρ 0) E (by rw[hρ];rfl) ⟨by rw[hρ];exact no h,by rw[hρ];exact no h3,by rw[hρ];exact no h13,by rw[hρ];exact no h14,by rw[hρ];exact no h15,by rw[hρ];exact no h16,trivial⟩ trivial).trans fun g1 w1 hd=>?_
  obtain⟨I,B,fr1,rfl,f1,F1,bl,_⟩:=hd
  rw[hρ]at F1 bl
  have hX:(Blk.obj 75 [i8V n.op,iV n.n,iV n.kids,iV n.at']).at Try.prog w1 (B 100):=bl.1.2
  refine(wiF.go (R:=fun y w'=>(∃o',(js.length=1∨o'=0+1*1)∧y=slV K o' (js.length-1) (c-1))∧w'=w1) (mkE [] [] []) F1 (by decide) rfl fun tm htm x' e1 e2=>?_).trans fun g4 w4 hd4=>?_
  ·unfold execOp
   simp only[e1,wq_bind,Option.map_some,Option.map_none]
   rw[htm 58 (slV K 0 js.length c) rfl]
   exact wq_drop intU intS (k:=1) (by omega) hcap fun o' ho'=>⟨_,rfl,⟨o',ho',rfl⟩,rfl⟩
  obtain⟨fr4,y,rfl,⟨⟨o',ho',rfl⟩,rfl⟩,F4⟩:=hd4
  refine(wiG.go (mkE [(5,x),(7,x),(83,o'),(81,(js.length-1:Nat)),(82,(c-1:Nat))] [(61,b),(64,B 100),(80,K)] []) F4 rfl trivial trivial).trans fun g5 w5 hd5=>?_
  obtain⟨I,B',fr5,rfl,f5,F5,_⟩:=hd5
  have ff:=f1.trans f5
  refine(wi_loop (w0:=w5) hl hbig (op:=n.op) (x:=x) ((f5.cell (blk_cell hX (i:=0) rfl))) (o':=o') (fun i j hj=>?_) (fun i j e hj he w' f'=>hk i j e hj he w' (ff.trans f')) (vs.length-1) 0 x (by omega) (Fresh.refl _) F5).mono fun g6 w6 hd6=>?_
  ·rcases ho' with h1|rfl
   ·have:=(List.getElem?_eq_some_iff.1 hj).1
    omega
   ·have:=hc (i+1) j hj
    rw[show 0+1*1+i=0+(i+1) by omega]
    exact ff.cell this
  ·obtain⟨fr6,rfl,f6,hL⟩:=hd6
   refine⟨fr6,_,rfl,hL,ff.trans f6,?_⟩
   unfold withF
   rw[if_neg h,if_neg h3,if_neg h13,if_neg h14,if_neg h15,if_neg h16]
end
structure EndsAt(w:World)(s:Value)(E:List (Int×Int)):Prop where
 ex:∃(z:Bool) (A o c:Nat),s=hdV z A o E.length c∧(z=true->E=[])∧(z=false->E.length≤c)∧∀i e,E[i]?=some e->w.cell? ⟨A,o+i*2,none⟩=some (i8V e.1)∧w.cell? ⟨A,o+i*2+1,none⟩=some (iV e.2)
theorem EndsAt.keep{w w':World}{s:Value}{E:List (Int×Int)}(h:EndsAt w s E)(f:Fresh w w'):EndsAt w' s E:=by
 obtain⟨z,A,o,c,h1,h2,h3,h4⟩:=h.ex
 exact⟨z,A,o,c,h1,h2,h3,fun i e hi=>⟨f.cell (h4 i e hi).1,f.cell (h4 i e hi).2⟩⟩
def NodeC(t:T):Prop:=∀{w:World} {b:Nat} {tree:List Nd} {A o c:Nat} {es:Value} {m:MakerD} {E:List (Int×Int)} {at':Nat} {rest:List Nd},WalkAt w b tree A o c es m->tree.length≤1000000->EndsAt w es E->WfT t->NeedT E.length t->tree.drop at'=flat t++rest->Ans 23 #[ptrV b,iV at'] w fun v w'=>Fresh w w'∧v=outV (evF E m t)
theorem kidsAt_get{tree:List Nd}:∀{ks:List T} {k i j:Nat} {t:T} {rest:List Nd},tree.drop k=flatL ks++rest->(kidsAt k ks)[i]?=some j->ks[i]?=some t->∃rest',tree.drop j=flat t++rest'
 |[],k,i,j,t,rest,hd,hj,ht=>by cases ht
 |t'::ks,k,0,j,t,rest,hd,hj,ht=>by
  obtain rfl:t'=t:=Option.some.inj ht
  obtain rfl:k=j:=Option.some.inj hj
  exact⟨flatL ks++rest,by rw[hd,flatL,List.append_assoc]⟩
 |t'::ks,k,i+1,j,t,rest,hd,hj,ht=>by
  have hd':tree.drop (k+(flat t').length)=flatL ks++rest:=by
   rw[<-List.drop_drop,hd,flatL,List.append_assoc,List.drop_left]
  exact kidsAt_get (i:=i) hd' hj ht
noncomputable abbrev NdH:List Item:=[.code (q23 [1,1,1,0,1,0,1,1,1,1,1,0,0,1,0,0]),.inLoop (q23 [1,1,1,0,1,0,1,1,1,1,1,0,0,1,0,0]),.inBlock 1,.code (q23 [1,1,1,0,1,0,1,1,1,1,1,0,1]),.inBlock 0,.code (q23 [1,1,1,1])]
section
variable {w w0:World}{cs:List Frame}{fr:Frame}
theorem nd_loop{b K c:Nat}{js:List Nat}{vs:List (Int×Int)}(hl:js.length=vs.length)(hbig:js.length≤1000000)(hne:vs≠[])(hc:∀i j:Nat,js[i]?=some j->w0.cell? ⟨K,0+i,none⟩=some (iV j))(hk:KidsC w0 b js vs):
  ∀(m i:Nat) {w:World} {cs:List Frame} {fr:Frame},i+m=vs.length->Fresh w0 w->FA 23 83 NdH [] .normal [(0,ptrV b),(6,slV K 0 js.length c),(43,slV K 0 js.length c),(44,iV js.length),(45,iV i)] fr->
  Goes (G fr cs) w fun g' w'=>∃fr',g'=G fr' cs∧Fresh w0 w'∧Leav 23 fr' w' (outV (((vs.drop i).find? fun e=>decide (e.1=1)).getD (vs.headD (0,0))))
 |0,i,w,cs,fr,hi,fw,hf=>by
  obtain⟨j,e,hj,he⟩:=both hl (i:=0) (List.length_pos_iff.2 hne)
  have hlen:js.length≠0:=by
   have:=List.length_pos_iff.2 hne
   omega
  refine(ndA.go (mkE [(83,(0:Nat)),(81,js.length),(82,c),(10,i),(12,j)] [(61,b),(80,K)] []) hf rfl ⟨decide_eq_false (by show ¬((i:Int)<((js.length:Nat):Int));omega),decide_eq_true (by show(0:Int)<((js.length:Nat):Int);omega),trivial⟩ ⟨fw.cell (hc 0 j hj),trivial⟩).trans fun g1 w1 hd=>?_
  obtain⟨I,B,fr1,rfl,f1,F1,_⟩:=hd
  refine(ndB.go (mkE [] [] [(60,ptrV b),(63,iV j)]) (Q:=fun v w'=>v=outV e) F1 rfl fun w' f2=>hk 0 j e hj he w' (fw.trans (f1.trans f2))).trans fun g2 w2 hd2=>?_
  obtain⟨fr2,vv,rfl,f2,rfl,F2⟩:=hd2
  refine(ndC.go (mkE [] [] [(64,outV e)]) F2 rfl trivial trivial).trans fun g5 w5 hd5=>?_
  obtain⟨I,B,fr5,rfl,f5,F5,_⟩:=hd5
  refine(leave1 ret23 F5 rfl).mono fun g6 w6 hd6=>?_
  obtain⟨fr6,rfl,rfl,hL⟩:=hd6
  refine⟨fr6,rfl,fw.trans (f1.trans (f2.trans f5)),?_⟩
  rw[List.drop_of_length_le (by omega)]
  have:vs.headD (0,0)=e:=by
   cases vs with
   |nil=>cases he
   |cons a l=>exact Option.some.inj he
  rw[List.find?_nil,Option.getD_none,this]
  exact hL
 |m+1,i,w,cs,fr,hi,fw,hf=>by
  have hlt:i<vs.length:=by omega
  obtain⟨j,e,hj,he⟩:=both hl (i:=i) hlt
  refine(nd6.go (mkE [(83,(0:Nat)),(81,js.length),(82,c),(10,i),(12,j)] [(61,b),(80,K)] []) hf rfl (ltB_ok (i:=10) (n:=81) (I:=i) (N:=js.length) rfl rfl (by omega)) ⟨fw.cell (hc i j hj),trivial⟩).trans fun g1 w1 hd=>?_
  obtain⟨I,B,fr1,rfl,f1,F1,_⟩:=hd
  refine(nd7.go (mkE [] [] [(50,ptrV b),(51,iV j)]) (Q:=fun v w'=>v=outV e) F1 rfl fun w' f2=>hk i j e hj he w' (fw.trans (f1.trans f2))).trans fun g2 w2 hd2=>?_
  obtain⟨fr2,vv,rfl,f2,rfl,F2⟩:=hd2
  have f012:=fw.trans (f1.trans f2)
  have hdrop:vs.drop i=e::vs.drop (i+1):=by
   rw[List.drop_eq_getElem_cons hlt]
   congr 1
   exact Option.some.inj ((List.getElem?_eq_getElem hlt).symm.trans he)
  rw[hdrop,List.find?_cons]
  by_cases h1:e.1=1
  ·rw[outV_val h1]at F2
   refine(nd8.go (mkE [(83,(0:Nat)),(81,js.length),(82,c),(10,i),(6,e.2)] [(61,b),(80,K)] []) F2 rfl trivial trivial).trans fun g5 w5 hd5=>?_
   obtain⟨I,B,fr5,rfl,f5,F5,_⟩:=hd5
   refine(leave1 ret23 F5 rfl).mono fun g6 w6 hd6=>?_
   obtain⟨fr6,rfl,rfl,hL⟩:=hd6
   rw[decide_eq_true h1]
   refine⟨fr6,rfl,f012.trans f5,?_⟩
   show Leav 23 fr6 _ (outV e)
   rw[outV_val h1]
   exact hL
  ·rw[outV_bad h1]at F2
   refine(nd9.go (mkE [(83,(0:Nat)),(81,js.length),(82,c),(10,i),(5,e.1),(6,e.2)] [(61,b),(80,K)] []) F2 rfl trivial trivial).trans fun g5 w5 hd5=>?_
   obtain⟨I,B,fr5,rfl,f5,F5,_⟩:=hd5
   rw[decide_eq_false h1]
   refine nd_loop (c:=c) hl hbig hne hc hk m (i+1) (by omega) (f012.trans f5) ?_
   rw[<-inc (i:=i) (by omega)]
   exact F5
theorem evL_len(E:List (Int×Int))(m:MakerD)(ts:List T):(evL E m ts).length=ts.length:=by rw[evL_map,List.length_map]
theorem node_of{n:Nd}{ks:List T}(ih:∀t∈ks,NodeC t):NodeC (.nd n ks):=by
 intro w b tree A o c es m E at' rest hw hl hE ht hn hd
 have hd1:tree.drop at'=n::(flatL ks++rest):=by rw[hd];simp[flat]
 obtain⟨hx,hd2,hlt⟩:=drop_get hd1
 have hnd:=hw.el at' n hx
 have hfl:=flatL_len ks
 have hle:(flatL ks).length≤tree.length:=by
  have:=congrArg List.length hd2
  rw[List.length_append,List.length_drop]at this
  omega
 obtain⟨nE,nK,n3,nL⟩:=hn
 refine ans_of fun cs=>?_
 refine(nd1.go (mkE [(10,at'),(51,tree.length),(52,c),(53,o),(1,n.op),(2,n.n),(3,n.kids),(4,n.at')] [(61,b),(50,A)] []) (enter2 ent23 rfl (ptrV b) (iV at')) rfl (ltB_ok (i:=10) (n:=51) (I:=at') (N:=tree.length) rfl rfl hlt) ⟨hw.c0,hnd.c0,hnd.c1,hnd.c2,hnd.c3,trivial⟩).trans fun g1 w1 hd1=>?_
 obtain⟨I,B,fr1,rfl,f1,F1,bl,_⟩:=hd1
 have hX:(Blk.obj 75 [i8V n.op,iV n.n,iV n.kids,iV n.at']).at Try.prog w1 (B 100):=bl.1.2
 obtain⟨X,eX⟩:∃X,B 100=X:=⟨_,rfl⟩
 have F1':FA 23 83 [.inRegion (opsOf (q23 [1,1,0])) [2,3],.code (q23 [1,1,1])] [] .normal [(0,ptrV b),(5,ptrV X),(20,ptrV b),(21,iV at')] fr1:=by
  rw[<-eX];exact F1
 rw[eX]at hX
 refine(nd2.go (mkE [] [] [(20,ptrV b),(21,iV at')]) (Q:=fun v w'=>∃w1,Fresh w1 w'∧IntsNew w' w1.heap.size v ((kidsAt (at'+1) ks).map Int.ofNat)) F1' rfl fun w' f2=>(kids_all (hw.keep (f1.trans f2)) hl ht hd).mono fun v w2 hd=>⟨hd.1,w',hd.1,hd.2⟩).trans fun g2 w2 hd2=>?_
 obtain⟨fr2,s,rfl,f2,⟨wk,fk,hs⟩,F2⟩:=hd2
 have f12:=f1.trans f2
 have fin:∀{k:List Item} {w3:World} {fr3:Frame} {v:Value},v=outV (evF E m (.nd n ks))->Fresh w w3->FA 23 83 (.code .ret::k) [] .normal [(4,v)] fr3->Goes (G fr3 cs) w3 fun g' w'=>∃fr' v,g'=G fr' cs∧Leav 23 fr' w' v∧Fresh w w'∧v=outV (evF E m (.nd n ks)):=fun{k w3 fr3 v} hv f3 F3=>by
  refine(leave1 ret23 F3 rfl).mono fun g2 w2 hd2=>?_
  obtain⟨fr2,rfl,rfl,hL⟩:=hd2
  exact⟨fr2,_,rfl,hL,f3,hv⟩
 have X0:=f2.cell (blk_cell hX (i:=0) rfl)
 have X1:=f2.cell (blk_cell hX (i:=1) rfl)
 have X2:=f2.cell (blk_cell hX (i:=2) rfl)
 have X3:=f2.cell (blk_cell hX (i:=3) rfl)
 have no:∀{a b:Int},a≠b->decide (a=b)=false:=fun h=>decide_eq_false h
 by_cases h1:n.op=1
 ·refine(nd3.go (mkE [(1,n.op),(2,n.n),(3,n.kids),(4,n.at')] [(61,b),(64,X)] [(22,s)]) F2 rfl ⟨decide_eq_true h1,trivial⟩ ⟨X0,X1,X2,X3,trivial⟩).trans fun g3 w3 hd3=>?_
  obtain⟨I,B,fr3,rfl,f3,F3,_⟩:=hd3
  refine fin ?_ (f12.trans f3) F3
  unfold evF combF
  rw[if_pos h1,outV_val rfl];rfl
 by_cases h2:n.op=2
 ·obtain⟨hn0,hn1⟩:=nE h2
  obtain⟨z,A',o',c',he,hz,hzc,hel⟩:=(hE.keep f12).ex
  cases z with
  |true=>
   rw[hz rfl]at hn1
   simp only[List.length_nil]at hn1
   omega
  |false=>
   obtain⟨N,hN⟩:∃N:Nat,n.n=N:=⟨n.n.toNat,by omega⟩
   have hNlt:N<E.length:=by omega
   obtain⟨e,hee⟩:∃e,E[N]?=some e:=⟨_,List.getElem?_eq_getElem hNlt⟩
   have hg:evF E m (.nd n ks)=e:=by
    unfold evF combF
    rw[if_neg h1,if_pos h2,hN]
    show E.getD ((N:Int)).toNat (0,0)=e
    rw[List.getD_eq_getElem?_getD,show((N:Int)).toNat=N by omega,hee];rfl
   have hc1:w2.cell? ⟨b,1,none⟩=some (slV A' o' E.length c'):=by
    rw[<-show es=slV A' o' E.length c' from he];exact f12.cell hw.c1
   have X1':w2.cell? ⟨X,1,none⟩=some (iV N):=by rw[<-hN];exact X1
   obtain⟨ec,ec'⟩:=hel N e hee
   by_cases h1':e.1=1
   ·refine(nd4true.go (mkE [(1,n.op),(2,N),(3,n.kids),(4,n.at'),(15,e.1),(16,e.2),(71,E.length),(72,c'),(73,o')] [(61,b),(64,X),(70,A')] [(22,s)]) F2 rfl ⟨no h1,decide_eq_true h2,decide_eq_true h1',ltB_ok (i:=2) (n:=71) (I:=N) (N:=E.length) rfl rfl hNlt⟩ ⟨X0,X1',X2,X3,hc1,ec,ec',trivial⟩).trans fun g3 w3 hd3=>?_
    obtain⟨I,B,fr3,rfl,f3,F3,_⟩:=hd3
    refine fin ?_ (f12.trans f3) F3
    rw[hg,outV_val h1'];rfl
   ·refine(nd4false.go (mkE [(1,n.op),(2,N),(3,n.kids),(4,n.at'),(15,e.1),(16,e.2),(71,E.length),(72,c'),(73,o')] [(61,b),(64,X),(70,A')] [(22,s)]) F2 rfl ⟨no h1,decide_eq_true h2,decide_eq_false h1',ltB_ok (i:=2) (n:=71) (I:=N) (N:=E.length) rfl rfl hNlt⟩ ⟨X0,X1',X2,X3,hc1,ec,ec',trivial⟩).trans fun g3 w3 hd3=>?_
    obtain⟨I,B,fr3,rfl,f3,F3,_⟩:=hd3
    refine fin ?_ (f12.trans f3) F3
    rw[hg,outV_bad h1'];rfl
 have hks:ks≠[]:=nK h1 h2
 have hvs:evL E m ks≠[]:=fun h=>hks (by
  have:=evL_len E m ks
  rw[h]at this
  exact List.length_eq_zero_iff.1 this.symm)
 rcases hs with⟨rfl,hnil⟩|⟨hne,K,c',rfl,hK,hv⟩
 ·have:=congrArg List.length hnil
  rw[List.length_map,kidsAt_len]at this
  exact(hks (List.length_eq_zero_iff.1 this)).elim
 have hjl:(kidsAt (at'+1) ks).length=(evL E m ks).length:=by rw[kidsAt_len,evL_len]
 obtain⟨js,hjs⟩:∃js,js=kidsAt (at'+1) ks:=⟨_,rfl⟩
 rw[<-hjs]at hv hjl F2
 have hbig:js.length≤1000000:=by rw[hjs,kidsAt_len];omega
 have hcap:js.length≤c':=by
  have:=vec_cap hv
  rw[List.length_map,List.length_map]at this
  exact this
 rw[List.length_map]at F2
 have hcell:∀{w3:World},Fresh w2 w3->∀i j:Nat,js[i]?=some j->w3.cell? ⟨K,0+i,none⟩=some (iV j):=fun f i j hj=>by
  rw[Nat.zero_add]
  refine f.cell (Blk.at_cell hv ?_)
  show((js.map Int.ofNat).map iV)[i]?=_
  rw[List.getElem?_map,List.getElem?_map,hj];rfl
 have hkc:∀{w3:World},Fresh w2 w3->KidsC w3 b js (evL E m ks):=fun{w3} f i j e hj he w' f'=>by
  have hi:i<ks.length:=by
   have:=(List.getElem?_eq_some_iff.1 he).1
   rwa[evL_len]at this
  have htk:ks[i]?=some ks[i]:=List.getElem?_eq_getElem hi
  have hmem:ks[i]∈ks:=List.getElem_mem hi
  obtain⟨rest',hr⟩:=kidsAt_get hd2 (hjs▸hj) htk
  have fa:=f12.trans (f.trans f')
  have he':e=evF E m ks[i]:=by
   rw[evL_map,List.getElem?_map,htk]at he
   exact(Option.some.inj he).symm
  rw[he']
  exact ih ks[i] hmem (hw.keep fa) hl (hE.keep fa) (WfL.mem ht.2 _ hmem) (NeedL.mem nL _ hmem) hr
 by_cases h11:n.op=11
 ·refine(nd5.go (mkE [(1,n.op),(2,n.n),(3,n.kids),(4,n.at'),(83,(0:Nat)),(81,js.length),(82,c')] [(61,b),(64,X),(80,K)] []) F2 rfl ⟨no h1,no h2,decide_eq_true h11,trivial⟩ ⟨X0,X1,X2,X3,trivial⟩).trans fun g3 w3 hd3=>?_
  obtain⟨I,B,fr3,rfl,f3,F3,_⟩:=hd3
  refine(nd_loop hjl hbig hvs (hcell f3) (hkc f3) (evL E m ks).length 0 (by omega) (Fresh.refl _) F3).mono fun g6 w6 hd6=>?_
  obtain⟨fr6,rfl,f6,hL⟩:=hd6
  refine⟨fr6,_,rfl,hL,f12.trans (f3.trans f6),?_⟩
  unfold evF combF
  rw[if_neg h1,if_neg h2,if_pos h11];rfl
 obtain⟨j,e,hj,he⟩:=both hjl (i:=0) (List.length_pos_iff.2 hvs)
 have hlen:js.length≠0:=by
  have:=List.length_pos_iff.2 hvs
  omega
 have hhd:(evL E m ks).headD (0,0)=e:=by
  generalize evL E m ks=vs at he
  cases vs with
  |nil=>cases he
  |cons a l=>exact Option.some.inj he
 refine(ndD.go (mkE [(1,n.op),(2,n.n),(3,n.kids),(4,n.at'),(83,(0:Nat)),(81,js.length),(82,c'),(12,j)] [(61,b),(64,X),(80,K)] []) F2 rfl ⟨no h1,no h2,no h11,decide_eq_true (by show(0:Int)<((js.length:Nat):Int);omega),trivial⟩ ⟨X0,X1,X2,X3,hcell (Fresh.refl _) 0 j hj,trivial⟩).trans fun g3 w3 hd3=>?_
 obtain⟨I,B,fr3,rfl,f3,F3,_⟩:=hd3
 refine(ndE.go (mkE [] [] [(65,ptrV b),(68,iV j)]) (Q:=fun v w'=>v=outV e) F3 rfl fun w' f4=>hkc f3 0 j e hj he w' f4).trans fun g4 w4 hd4=>?_
 obtain⟨fr4,vv,rfl,f4,rfl,F4⟩:=hd4
 have f34:=f3.trans f4
 by_cases h1':e.1=1
 ·rw[outV_val h1']at F4
  refine(ndG.go (mkE [(1,n.op),(2,n.n),(3,n.kids),(4,n.at'),(83,(0:Nat)),(81,js.length),(82,c'),(6,e.2)] [(61,b),(64,X),(80,K)] []) F4 rfl trivial ⟨f34.cell X0,f34.cell X1,f34.cell X2,f34.cell X3,trivial⟩).trans fun g5 w5 hd5=>?_
  obtain⟨I,B,fr5,rfl,f5,F5,_⟩:=hd5
  refine(ndH.go (mkE [] [] [(78,ptrV b),(79,ndV n),(80,slV K 0 js.length c'),(81,iV e.2)]) (Q:=fun v w'=>v=outV (withF n.op e.2 m (evL E m ks))) F5 rfl fun w' f6=>?_).trans fun g6 w6 hd6=>?_
  ·have fa:=f12.trans (f34.trans (f5.trans f6))
   have fb:=f34.trans (f5.trans f6)
   refine with_all hjl hbig hvs hcap (hcell fb) ⟨fa.cell hw.c2,fa.cell hw.c3,fa.cell hw.c4,fa.cell hw.c5⟩ (hkc fb) fun h=>?_
   rw[evL_len];exact n3 h
  obtain⟨fr6,vv,rfl,f6,rfl,F6⟩:=hd6
  refine(ndI.go (mkE [] [] [(82,outV (withF n.op e.2 m (evL E m ks)))]) F6 rfl trivial trivial).trans fun g7 w7 hd7=>?_
  obtain⟨I,B,fr7,rfl,f7,F7,_⟩:=hd7
  refine fin ?_ (f12.trans (f34.trans (f5.trans (f6.trans f7)))) F7
  unfold evF combF
  rw[if_neg h1,if_neg h2,if_neg h11,hhd,if_pos h1'];rfl
 ·rw[outV_bad h1']at F4
  refine(ndF.go (mkE [(83,(0:Nat)),(81,js.length),(82,c'),(5,e.1),(6,e.2)] [(61,b),(64,X),(80,K)] []) F4 rfl trivial trivial).trans fun g5 w5 hd5=>?_
  obtain⟨I,B,fr5,rfl,f5,F5,_⟩:=hd5
  refine fin ?_ (f12.trans (f34.trans f5)) F5
  unfold evF combF
  rw[if_neg h1,if_neg h2,if_neg h11,hhd,if_neg h1',outV_bad h1'];rfl
end
mutual
theorem node_all:∀t:T,NodeC t
 |.nd n ks=>node_of (node_alls ks)
theorem node_alls:∀ts:List T,∀t∈ts,NodeC t
 |[],t,h=>by cases h
 |t'::ts,t,h=>by
  rcases List.mem_cons.1 h with e|h
  ·rw[e];exact node_all t'
  ·exact node_alls ts t h
end
theorem lowHigh_lo{op:Int}{len:Nat}{lo hi:Int}{nm:Bool}(h:lowHigh op len=some (lo,hi,nm)):0≤lo∧(op≠1->op≠2->1≤lo)∧(op=12->lo=3∧hi=3):=by
 unfold lowHigh at h
 split at h
 ·rename_i h1
  cases h
  exact⟨by decide,fun a b=>(h1.elim a b).elim,fun e=>by omega⟩
 split at h
 ·cases h
  exact⟨by decide,fun _ _=>by decide,fun e=>by omega⟩
 split at h
 ·cases h
  exact⟨by decide,fun _ _=>by decide,fun e=>by omega⟩
 split at h
 ·cases h
  exact⟨by decide,fun _ _=>by decide,fun e=>by omega⟩
 split at h
 ·cases h
  exact⟨by decide,fun _ _=>by decide,fun e=>⟨rfl,rfl⟩⟩
 split at h
 ·cases h
  exact⟨by decide,fun _ _=>by decide,fun e=>by omega⟩
 ·cases h
theorem kidsWith_of{P:T->Prop}{g:List Nd->Option (T×List Nd)}{names:Bool}(hg:∀l t r,g l=some (t,r)->P t):∀(k:Nat) (l:List Nd) (ts:List T) (r:List Nd),kidsWith g names k l=some (ts,r)->ts.length=k∧∀t∈ts,P t
 |0,l,ts,r,h=>by
  cases h
  exact⟨rfl,fun t ht=>by cases ht⟩
 |k+1,l,ts,r,h=>by
  unfold kidsWith at h
  split at h
  ·cases h
  ·rename_i t r' e
   split at h
   ·cases h
   ·split at h
    ·cases h
    ·rename_i ts' r'' e2
     cases h
     obtain⟨h1,h2⟩:=kidsWith_of hg k _ _ _ e2
     refine⟨by rw[List.length_cons,h1],fun t' ht=>?_⟩
     rcases List.mem_cons.1 ht with rfl|ht
     ·exact hg _ _ _ e
     ·exact h2 t' ht
theorem WfL.of:∀{ts:List T},(∀t∈ts,WfT t)->WfL ts
 |[],_=>trivial
 |t::ts,h=>⟨h t (List.mem_cons_self ..),WfL.of fun t' ht=>h t' (List.mem_cons_of_mem _ ht)⟩
theorem NeedL.of{N:Nat}:∀{ts:List T},(∀t∈ts,NeedT N t)->NeedL N ts
 |[],_=>trivial
 |t::ts,h=>⟨h t (List.mem_cons_self ..),NeedL.of fun t' ht=>h t' (List.mem_cons_of_mem _ ht)⟩
theorem flatL_mem{n:Nd}:∀{ts:List T} {t:T},t∈ts->n∈flat t->n∈flatL ts
 |t'::ts,t,ht,hn=>by
  rw[flatL]
  rcases List.mem_cons.1 ht with rfl|ht
  ·exact List.mem_append_left _ hn
  ·exact List.mem_append_right _ (flatL_mem ht hn)
theorem grownF_good:∀(f:Nat) (l:List Nd) (root:Bool) (t:T) (r:List Nd),grownF f l root=some (t,r)->WfT t∧∀N:Nat,(∀n∈flat t,n.op=2->0≤n.n∧n.n<N)->NeedT N t
 |0,l,root,t,r,h=>by cases h
 |f+1,[],root,t,r,h=>by cases h
 |f+1,n::l,root,t,r,h=>by
  unfold grownF at h
  split at h
  ·cases h
  ·rename_i lo hi nm e0
   obtain⟨l0,l1,l12⟩:=lowHigh_lo e0
   split at h
   ·cases h
   ·rename_i hb
    split at h
    ·cases h
    ·rename_i ts r' e
     cases h
     obtain⟨hlen,hall⟩:=kidsWith_of (P:=fun t=>WfT t∧∀N:Nat,(∀n∈flat t,n.op=2->0≤n.n∧n.n<N)->NeedT N t) (fun l t r h=>grownF_good f l false t r h) _ _ _ _ e
     have hk:lo≤n.kids∧n.kids≤hi:=by
      have hb':badNd n root lo hi=false:=by simpa using hb
      unfold badNd at hb'
      simp only[Bool.or_eq_false_iff,decide_eq_false_iff_not]at hb'
      omega
     have hne:∀h:ts=[],n.kids.toNat=0:=fun h=>by rw[<-hlen,h];rfl
     refine⟨⟨by omega,WfL.of fun t ht=>(hall t ht).1⟩,fun N hN=>⟨hN n (by rw[flat];exact List.mem_cons_self ..),fun h1 h2 h=>?_,fun h=>?_,NeedL.of fun t ht=>(hall t ht).2 N fun n' hn'=>hN n' (by
      rw[flat]
      exact List.mem_cons_of_mem _ (flatL_mem ht hn'))⟩⟩
     ·have:=l1 h1 h2
      have:=hne h
      omega
     ·have:=l12 h
      omega
def treeOf(x:LetD):Option T:=(grownF (x.tree.length+1) x.tree true).map (·.1)
structure GoodLet(x:LetD)(i:Nat)(t:T):Prop where
 tr:treeOf x=some t
 fl:x.tree=flat t
 wf:WfT t
 nd:NeedT i t
theorem sound_good{x:LetD}{i:Nat}{names:List (ByteArray×Bool)}(h:soundF x i names=0):∃t,GoodLet x i t:=by
 unfold soundF at h
 split at h
 ·cases h
 split at h
 ·cases h
 split at h
 ·cases h
 rename_i t rest e
 split at h
 ·cases h
 rename_i hr
 split at h
 ·cases h
 split at h
 ·cases h
 rename_i ha
 have hfl:=grownF_flat _ _ _ _ _ e
 have hrest:rest=[]:=by
  cases rest with
  |nil=>rfl
  |cons a l=>exact(hr (.inl (by simp))).elim
 rw[hrest,List.append_nil]at hfl
 obtain⟨g1,g2⟩:=grownF_good _ _ _ _ _ e
 refine⟨t,⟨by unfold treeOf;rw[e];rfl,hfl,g1,g2 i fun n hn h2=>?_⟩⟩
 rw[<-hfl]at hn
 have:=ha
 simp only[List.any_eq_true,Bool.and_eq_true,Bool.or_eq_true,decide_eq_true_eq,not_exists,not_and,not_or]at this
 have:=this n hn h2
 omega
theorem chkLets_good:∀(l:List LetD) (i:Nat) (names:List (ByteArray×Bool)),chkLets l i names=none->∀j x,l[j]?=some x->∃t,GoodLet x (i+j) t
 |[],i,names,h,j,x,hj=>by cases hj
 |y::l,i,names,h,j,x,hj=>by
  unfold chkLets at h
  split at h
  ·cases h
  ·rename_i hs
   have hs:soundF y i names=0:=by simpa using hs
   cases j with
   |zero=>
    obtain rfl:y=x:=Option.some.inj hj
    exact sound_good hs
   |succ j=>
    have:=chkLets_good l (i+1) _ h j x hj
    rwa[show i+1+j=i+(j+1) by omega]at this
noncomputable def q7(l:List Nat):Code:=pc (bodyOf Try.f7) l
theorem ent7:enterA Try.prog 7 [.opq 0,.opq 1] .normal=.ok ⟨7,59,entT 7 [.opq 0,.opq 1],[.code (bodyOf Try.f7)],[],.run,.normal⟩:=by kernel_rfl
theorem ret7:RetC2 7 59 4 5:=fun st=>by kernel_rfl
theorem pl1(z:Bool):Pc 7 59 [.code (q7 [])] [(0,.agg [slZ z 50 53 51 52,.opq 9]),(1,.agg [i64 (v 21),i64 (v 22),i64 (v 23),i64 (v 24)])] [] [] [] 11 [101,100] [2,3,15] [.inRegion (opsOf (q7 [1,0,0])) [1,2,3,4,5,6],.code (q7 [1,0,1]),.code (q7 [1,1])] [ptr0 100,ptr0 101,.agg [slZ z 50 53 51 52,.opq 9]] [(101,.cells [i64 (v 21),i64 (v 22),i64 (v 23),i64 (v 24)] 27),(100,.cells [slZ z 50 53 51 52,.opq 9] 25)]:=⟨fun st=>by cases z<;>kernel_rfl,fun st=>by cases z<;>kernel_rfl,by cases z<;>kernel_rfl,of_decide_eq_true (by kernel_rfl)⟩
theorem pl2:OpC 59 (opsOf (q7 [1,0,0])) 1 [(15,.opq 15)] 21 [.opq 15] 16:=⟨fun st=>by kernel_rfl,fun st=>by kernel_rfl,fun st=>by kernel_rfl,by kernel_rfl,by decide,rfl⟩
theorem pl3:Pc 7 59 [.inRegion (opsOf (q7 [1,0,0])) [2,3,4,5,6],.code (q7 [1,0,1]),.code (q7 [1,1])] [(2,ptr0 64),(3,ptr0 65),(16,.tuple [i64 (v 5),i64 (v 6)])] [((.cmp .neq (v 5) (.lit 0)),true)] [] [] 18 [] [4,5] [.code .ret,.code (q7 [1,1])] [nilA,i64 (v 5)] []:=⟨fun st=>by kernel_rfl,fun st=>by kernel_rfl,by kernel_rfl,of_decide_eq_true (by kernel_rfl)⟩
theorem pl4(z:Bool):Pc 7 59 [.inRegion (opsOf (q7 [1,0,0])) [2,3,4,5,6],.code (q7 [1,0,1]),.code (q7 [1,1])] [(2,ptr0 64),(3,ptr0 65),(16,.tuple [i64 (v 5),i64 (v 6)])] [((.cmp .neq (v 5) (.lit 0)),false)] [(⟨(.dyn 64),(.lit 0)⟩,slZ z 50 53 51 52)] [] 23 [] [2,3,23,24,25] [.code (q7 [1,1,0,1,0,0]),.inLoop (q7 [1,1,0,1,0,0]),.inBlock 0,.code (q7 [1,1,1])] [ptr0 64,ptr0 65,slZ z 50 53 51 52,i64 (lnZ z 51),i64 (.lit 0)] []:=⟨fun st=>by cases z<;>kernel_rfl,fun st=>by cases z<;>kernel_rfl,by cases z<;>kernel_rfl,of_decide_eq_true (by kernel_rfl)⟩
theorem pl5:Pc 7 59 [.code (q7 [1,1,0,1,0,0]),.inLoop (q7 [1,1,0,1,0,0]),.inBlock 0,.code (q7 [1,1,1])] [(2,ptr0 64),(3,ptr0 65),(23,.slice (some ⟨(.dyn 50),(v 53)⟩) (v 51) (v 52)),(24,i64 (.tn (v 51))),(25,i64 (v 10))] [((.cmp .lss (v 10) (.tn (v 51))),true),((.cmp .leq (.lit 0) (v 10)),true),((.cmp .lss (v 10) (.lit 0)),false),((.cmp .geq (v 10) (.tn (v 51))),false)] [(⟨(.dyn 50),(.plus (.tn (v 53)) (.times (.tn (v 10)) (.lit 3)))⟩,ss 1),(⟨(.dyn 50),(.plus (.tn (.plus (.tn (v 53)) (.times (.tn (v 10)) (.lit 3)))) (.lit 1))⟩,.slice (some ⟨(.dyn 70),(v 73)⟩) (v 71) (v 72)),(⟨(.dyn 50),(.plus (.tn (.plus (.tn (v 53)) (.times (.tn (v 10)) (.lit 3)))) (.lit 2))⟩,i64 (v 4))] [] 19 [100] [2,3,9,23,24,25,29] [.inRegion (opsOf (q7 [1,1,0,1,0,0,1,1,0,0,1,0])) [1,2,3,4,5,6,7],.code (q7 [1,1,0,1,0,0,1,1,0,0,1,1]),.inBlock 1,.code (q7 [1,1,0,1,0,0,1,1,1]),.inLoop (q7 [1,1,0,1,0,0]),.inBlock 0,.code (q7 [1,1,1])] [ptr0 64,ptr0 65,ptr0 100,.slice (some ⟨(.dyn 50),(v 53)⟩) (v 51) (v 52),i64 (.tn (v 51)),i64 (v 10),.agg [ss 1,.slice (some ⟨(.dyn 70),(v 73)⟩) (v 71) (v 72),i64 (v 4)]] [(100,.cells [ss 1,.slice (some ⟨(.dyn 70),(v 73)⟩) (v 71) (v 72),i64 (v 4)] 51)]:=⟨fun st=>by kernel_rfl,fun st=>by kernel_rfl,by kernel_rfl,of_decide_eq_true (by kernel_rfl)⟩
theorem pl6:OpC 59 (opsOf (q7 [1,1,0,1,0,0,1,1,0,0,1,0])) 1 [(29,.opq 29)] 22 [.opq 29] 30:=⟨fun st=>by kernel_rfl,fun st=>by kernel_rfl,fun st=>by kernel_rfl,by kernel_rfl,by decide,rfl⟩
theorem pl7:Pc 7 59 [.inRegion (opsOf (q7 [1,1,0,1,0,0,1,1,0,0,1,0])) [2,3,4,5,6,7],.code (q7 [1,1,0,1,0,0,1,1,0,0,1,1]),.inBlock 1,.code (q7 [1,1,0,1,0,0,1,1,1]),.inLoop (q7 [1,1,0,1,0,0]),.inBlock 0,.code (q7 [1,1,1])] [(2,ptr0 64),(3,ptr0 65),(9,ptr0 66),(23,.slice (some ⟨(.dyn 50),(v 53)⟩) (v 51) (v 52)),(24,i64 (.tn (v 51))),(25,i64 (v 10)),(30,i8 (v 1))] [((.cmp .eql (v 1) (.lit 17)),true)] [] [] 13 [] [4,5] [.code .ret,.inBlock 1,.code (q7 [1,1,0,1,0,0,1,1,1]),.inLoop (q7 [1,1,0,1,0,0]),.inBlock 0,.code (q7 [1,1,1])] [nilA,i64 (.lit 11)] []:=⟨fun st=>by kernel_rfl,fun st=>by kernel_rfl,by kernel_rfl,of_decide_eq_true (by kernel_rfl)⟩
theorem pl8:Pc 7 59 [.inRegion (opsOf (q7 [1,1,0,1,0,0,1,1,0,0,1,0])) [2,3,4,5,6,7],.code (q7 [1,1,0,1,0,0,1,1,0,0,1,1]),.inBlock 1,.code (q7 [1,1,0,1,0,0,1,1,1]),.inLoop (q7 [1,1,0,1,0,0]),.inBlock 0,.code (q7 [1,1,1])] [(2,ptr0 64),(3,ptr0 65),(9,ptr0 66),(23,.slice (some ⟨(.dyn 50),(v 53)⟩) (v 51) (v 52)),(24,i64 (.tn (v 51))),(25,i64 (v 10)),(30,i8 (v 1))] [((.cmp .eql (v 1) (.lit 17)),false)] [(⟨(.dyn 66),(.lit 0)⟩,ss 1),(⟨(.dyn 66),(.lit 1)⟩,.slice (some ⟨(.dyn 70),(v 73)⟩) (v 71) (v 72)),(⟨(.dyn 66),(.lit 2)⟩,i64 (v 4))] [] 3 [] [2,3,23,24,25,32,33] [.inRegion (opsOf (q7 [1,1,0,1,0,0,1,1,0,0,1,0])) [5,6,7],.code (q7 [1,1,0,1,0,0,1,1,0,0,1,1]),.inBlock 1,.code (q7 [1,1,0,1,0,0,1,1,1]),.inLoop (q7 [1,1,0,1,0,0]),.inBlock 0,.code (q7 [1,1,1])] [ptr0 64,ptr0 65,.slice (some ⟨(.dyn 50),(v 53)⟩) (v 51) (v 52),i64 (.tn (v 51)),i64 (v 10),FB,.agg [ss 1,.slice (some ⟨(.dyn 70),(v 73)⟩) (v 71) (v 72),i64 (v 4)]] []:=⟨fun st=>by kernel_rfl,fun st=>by kernel_rfl,by kernel_rfl,of_decide_eq_true (by kernel_rfl)⟩
theorem pl9:OpC 59 (opsOf (q7 [1,1,0,1,0,0,1,1,0,0,1,0])) 5 [(32,FB),(33,.opq 33)] 22 [.opq 33] 34:=⟨fun st=>by kernel_rfl,fun st=>by kernel_rfl,fun st=>by kernel_rfl,by kernel_rfl,by decide,rfl⟩
theorem plA:Pc 7 59 [.inRegion (opsOf (q7 [1,1,0,1,0,0,1,1,0,0,1,0])) [6,7],.code (q7 [1,1,0,1,0,0,1,1,0,0,1,1]),.inBlock 1,.code (q7 [1,1,0,1,0,0,1,1,1]),.inLoop (q7 [1,1,0,1,0,0]),.inBlock 0,.code (q7 [1,1,1])] [(2,ptr0 64),(3,ptr0 65),(23,.slice (some ⟨(.dyn 50),(v 53)⟩) (v 51) (v 52)),(24,i64 (.tn (v 51))),(25,i64 (v 10)),(32,FB),(34,i8 (v 1))] [((.cmp .eql (v 1) (.lit 18)),true)] [] [] 9 [] [4,5] [.code .ret,.inBlock 1,.code (q7 [1,1,0,1,0,0,1,1,1]),.inLoop (q7 [1,1,0,1,0,0]),.inBlock 0,.code (q7 [1,1,1])] [nilA,i64 (.lit 11)] []:=⟨fun st=>by kernel_rfl,fun st=>by kernel_rfl,by kernel_rfl,of_decide_eq_true (by kernel_rfl)⟩
theorem plB:Pc 7 59 [.inRegion (opsOf (q7 [1,1,0,1,0,0,1,1,0,0,1,0])) [6,7],.code (q7 [1,1,0,1,0,0,1,1,0,0,1,1]),.inBlock 1,.code (q7 [1,1,0,1,0,0,1,1,1]),.inLoop (q7 [1,1,0,1,0,0]),.inBlock 0,.code (q7 [1,1,1])] [(2,ptr0 64),(3,ptr0 65),(23,.slice (some ⟨(.dyn 50),(v 53)⟩) (v 51) (v 52)),(24,i64 (.tn (v 51))),(25,i64 (v 10)),(32,FB),(34,i8 (v 1))] [((.cmp .eql (v 1) (.lit 18)),false)] [] [] 11 [] [2,3,23,24,25] [.code (q7 [1,1,0,1,0,0]),.inLoop (q7 [1,1,0,1,0,0]),.inBlock 0,.code (q7 [1,1,1])] [ptr0 64,ptr0 65,.slice (some ⟨(.dyn 50),(v 53)⟩) (v 51) (v 52),i64 (.tn (v 51)),i64 (.op .add .i64 (v 10) (.lit 1))] []:=⟨fun st=>by kernel_rfl,fun st=>by kernel_rfl,by kernel_rfl,of_decide_eq_true (by kernel_rfl)⟩
theorem plC(z:Bool):Pc 7 59 [.code (q7 [1,1,0,1,0,0]),.inLoop (q7 [1,1,0,1,0,0]),.inBlock 0,.code (q7 [1,1,1])] [(2,ptr0 64),(3,ptr0 65),(23,slZ z 50 53 51 52),(24,i64 (lnZ z 51)),(25,i64 (v 10))] [((.cmp .lss (v 10) (lnZ z 51)),false)] [(⟨(.dyn 64),(.lit 0)⟩,slZ z 50 53 51 52)] [] 21 [] [2,3,10,39,40,41] [.code (q7 [1,1,1,1,0,1,0,0]),.inLoop (q7 [1,1,1,1,0,1,0,0]),.inBlock 2,.code (q7 [1,1,1,1,1])] [ptr0 64,ptr0 65,nilA,slZ z 50 53 51 52,i64 (lnZ z 51),i64 (.lit 0)] []:=⟨fun st=>by cases z<;>kernel_rfl,fun st=>by cases z<;>kernel_rfl,by cases z<;>kernel_rfl,of_decide_eq_true (by kernel_rfl)⟩
theorem plD(y:Bool):Pc 7 59 [.code (q7 [1,1,1,1,0,1,0,0]),.inLoop (q7 [1,1,1,1,0,1,0,0]),.inBlock 2,.code (q7 [1,1,1,1,1])] [(2,ptr0 64),(3,ptr0 65),(10,slZ y 80 83 81 82),(39,.slice (some ⟨(.dyn 50),(v 53)⟩) (v 51) (v 52)),(40,i64 (.tn (v 51))),(41,i64 (v 10))] [((.cmp .lss (v 10) (.tn (v 51))),true),((.cmp .leq (.lit 0) (v 10)),true),((.cmp .lss (v 10) (.lit 0)),false),((.cmp .geq (v 10) (.tn (v 51))),false)] [(⟨(.dyn 50),(.plus (.tn (v 53)) (.times (.tn (v 10)) (.lit 3)))⟩,ss 1),(⟨(.dyn 50),(.plus (.tn (.plus (.tn (v 53)) (.times (.tn (v 10)) (.lit 3)))) (.lit 1))⟩,.slice (some ⟨(.dyn 70),(v 73)⟩) (v 71) (v 72)),(⟨(.dyn 50),(.plus (.tn (.plus (.tn (v 53)) (.times (.tn (v 10)) (.lit 3)))) (.lit 2))⟩,i64 (v 4)),(⟨(.dyn 65),(.lit 0)⟩,i64 (v 21)),(⟨(.dyn 65),(.lit 1)⟩,i64 (v 22)),(⟨(.dyn 65),(.lit 2)⟩,i64 (v 23)),(⟨(.dyn 65),(.lit 3)⟩,i64 (v 24))] [] 29 [101] [2,3,10,13,39,40,41,51,52] [.inRegion (opsOf (q7 [1,1,1,1,0,1,0,0,1,1,0,0,1,1])) [2,3,4,5,6],.inBlock 3,.code (q7 [1,1,1,1,0,1,0,0,1,1,1]),.inLoop (q7 [1,1,1,1,0,1,0,0]),.inBlock 2,.code (q7 [1,1,1,1,1])] [ptr0 64,ptr0 65,slZ y 80 83 81 82,ptr0 101,.slice (some ⟨(.dyn 50),(v 53)⟩) (v 51) (v 52),i64 (.tn (v 51)),i64 (v 10),slZ y 80 83 81 82,ptr0 101] [(101,.cells [.slice (some ⟨(.dyn 70),(v 73)⟩) (v 71) (v 72),slZ y 80 83 81 82,i64 (v 21),i64 (v 22),i64 (v 23),i64 (v 24)] 61)]:=⟨fun st=>by cases y<;>kernel_rfl,fun st=>by cases y<;>kernel_rfl,by cases y<;>kernel_rfl,of_decide_eq_true (by kernel_rfl)⟩
theorem plE:OpC 59 (opsOf (q7 [1,1,1,1,0,1,0,0,1,1,0,0,1,1])) 2 [(52,.opq 52)] 23 [.opq 52,i64 (.lit 0)] 53:=⟨fun st=>by kernel_rfl,fun st=>by kernel_rfl,fun st=>by kernel_rfl,by kernel_rfl,by decide,rfl⟩
theorem plF79:OpC 59 (opsOf (q7 [1,1,1,1,0,1,0,0,1,1,0,0,1,1])) 3 [(53,.iface 79 (.opq 53))] 91 [.opq 53] 54:=⟨fun st=>by kernel_rfl,fun st=>by kernel_rfl,fun st=>by kernel_rfl,by kernel_rfl,by decide,rfl⟩
theorem plF82:OpC 59 (opsOf (q7 [1,1,1,1,0,1,0,0,1,1,0,0,1,1])) 3 [(53,.iface 82 (.opq 53))] 92 [.opq 53] 54:=⟨fun st=>by kernel_rfl,fun st=>by kernel_rfl,fun st=>by kernel_rfl,by kernel_rfl,by decide,rfl⟩
theorem plGn:Pc 7 59 [.inRegion (opsOf (q7 [1,1,1,1,0,1,0,0,1,1,0,0,1,1])) [4,5,6],.inBlock 3,.code (q7 [1,1,1,1,0,1,0,0,1,1,1]),.inLoop (q7 [1,1,1,1,0,1,0,0]),.inBlock 2,.code (q7 [1,1,1,1,1])] [(2,ptr0 64),(3,ptr0 65),(10,nilA),(39,.slice (some ⟨(.dyn 50),(v 53)⟩) (v 51) (v 52)),(40,i64 (.tn (v 51))),(41,i64 (v 10)),(51,nilA),(54,.agg [i8 (v 11),i64 (v 12)])] [] [] [] 10 [101] [2,3,10,39,40,41] [.code (q7 [1,1,1,1,0,1,0,0]),.inLoop (q7 [1,1,1,1,0,1,0,0]),.inBlock 2,.code (q7 [1,1,1,1,1])] [ptr0 64,ptr0 65,.slice (some ⟨(.dyn 101),(.lit 0)⟩) (.lit 1) (v 101),.slice (some ⟨(.dyn 50),(v 53)⟩) (v 51) (v 52),i64 (.tn (v 51)),i64 (.op .add .i64 (v 10) (.lit 1))] [(101,.row [i8 (v 11),i64 (v 12)] 30 (v 101))]:=⟨fun st=>by kernel_rfl,fun st=>by kernel_rfl,by kernel_rfl,of_decide_eq_true (by kernel_rfl)⟩
theorem plG:Pc 7 59 [.inRegion (opsOf (q7 [1,1,1,1,0,1,0,0,1,1,0,0,1,1])) [4,5,6],.inBlock 3,.code (q7 [1,1,1,1,0,1,0,0,1,1,1]),.inLoop (q7 [1,1,1,1,0,1,0,0]),.inBlock 2,.code (q7 [1,1,1,1,1])] [(2,ptr0 64),(3,ptr0 65),(10,.slice (some ⟨(.dyn 62),(.lit 0)⟩) (v 8) (v 57)),(39,.slice (some ⟨(.dyn 50),(v 53)⟩) (v 51) (v 52)),(40,i64 (.tn (v 51))),(41,i64 (v 10)),(51,.slice (some ⟨(.dyn 62),(.lit 0)⟩) (v 8) (v 57)),(54,.agg [i8 (v 11),i64 (v 12)])] [((.cmp .leq (.plus (.tn (v 8)) (.lit 1)) (.lit 1048576)),true)] [] [(62,.pre false 63 (v 8) [] [] [] 30 (v 57))] 10 [101] [2,3,10,39,40,41] [.code (q7 [1,1,1,1,0,1,0,0]),.inLoop (q7 [1,1,1,1,0,1,0,0]),.inBlock 2,.code (q7 [1,1,1,1,1])] [ptr0 64,ptr0 65,.slice (some ⟨(.dyn 101),(.lit 0)⟩) (.plus (.tn (v 8)) (.lit 1)) (v 101),.slice (some ⟨(.dyn 50),(v 53)⟩) (v 51) (v 52),i64 (.tn (v 51)),i64 (.op .add .i64 (v 10) (.lit 1))] [(101,.pre false 63 (v 8) [] [] [i8 (v 11),i64 (v 12)] 30 (v 101))]:=⟨fun st=>by kernel_rfl,fun st=>by kernel_rfl,by kernel_rfl,of_decide_eq_true (by kernel_rfl)⟩
theorem plH(z:Bool):Pc 7 59 [.code (q7 [1,1,1,1,0,1,0,0]),.inLoop (q7 [1,1,1,1,0,1,0,0]),.inBlock 2,.code (q7 [1,1,1,1,1])] [(2,ptr0 64),(3,ptr0 65),(10,.opq 10),(39,slZ z 50 53 51 52),(40,i64 (lnZ z 51)),(41,i64 (v 10))] [((.cmp .lss (v 10) (lnZ z 51)),false)] [] [] 13 [] [4,5] [.code .ret] [.opq 10,i64 (.lit 0)] []:=⟨fun st=>by cases z<;>kernel_rfl,fun st=>by cases z<;>kernel_rfl,by cases z<;>kernel_rfl,of_decide_eq_true (by kernel_rfl)⟩
def rootOp(x:LetD):Int:=(x.tree.headD ⟨0,0,0,0⟩).op
def endOf(m:MakerD)(E:List (Int×Int))(x:LetD):Int×Int:=match treeOf x with
 |some t=>evF E m t
 |none=>(0,0)
def plainEnds(m:MakerD):List LetD->List (Int×Int)->List (Int×Int)
 |[],E=>E
 |x::r,E=>plainEnds m r (E++[endOf m E x])
def wildLet(x:LetD):Bool:=decide (rootOp x=17)||decide (rootOp x=18)
def plainF(F:FlowD)(m:MakerD):Int×List (Int×Int):=
 if(chkF F).1≠0 then((chkF F).1,[])
 else if F.lets.any wildLet then(11,[])
 else(0,plainEnds m F.lets [])
theorem chkLets_ne:∀(l:List LetD) (i:Nat) (names:List (ByteArray×Bool)) (e:Int) (j:Nat),chkLets l i names=some (e,j)->e≠0
 |[],i,names,e,j,h=>by cases h
 |y::l,i,names,e,j,h=>by
  unfold chkLets at h
  split at h
  ·rename_i hs
   cases h
   exact hs
  ·exact chkLets_ne l _ _ e j h
theorem chkF_good{F:FlowD}(h:(chkF F).1=0):∀i x,F.lets[i]?=some x->∃t,GoodLet x i t:=by
 have h0:chkLets F.lets 0 []=none:=by
  unfold chkF at h
  cases e:chkLets F.lets 0 []with
  |none=>rfl
  |some p=>
   rw[e]at h
   exact(chkLets_ne _ _ _ p.1 p.2 e h).elim
 intro i x hi
 have:=chkLets_good F.lets 0 [] h0 i x hi
 rwa[Nat.zero_add]at this
def endCells(e:Int×Int):List Value:=[i8V e.1,iV e.2]
def EndsNew(w:World)(base:Nat)(s:Value)(l:List (Int×Int)):Prop:=(s=nilV∧l=[])∨(l≠[]∧∃B c,s=slV B 0 l.length c∧base≤B∧(Blk.vec 30 c (l.flatMap endCells)).at Try.prog w B)
theorem EndsNew.keep{w w':World}{base:Nat}{s:Value}{l:List (Int×Int)}(h:EndsNew w base s l)(f:Fresh w w'):EndsNew w' base s l:=by
 rcases h with h|⟨h1,B,c,h2,h3,h4⟩
 ·exact .inl h
 ·exact .inr ⟨h1,B,c,h2,h3,blk_keep h4 f⟩
theorem size30(inf:TypeInfo)(hi:Try.prog.info? 30=some inf):inf.size=2:=by
 have e2:(Try.prog.info? 30).map (fun x=>x.size)=some 2:=by kernel_rfl
 rw[hi]at e2
 exact Option.some.inj e2
theorem endCells_len:∀l:List (Int×Int),(l.flatMap endCells).length=2*l.length
 |[]=>rfl
 |e::l=>by
  rw[List.flatMap_cons,List.length_append,endCells_len l,List.length_cons]
  show 2+2*l.length=_
  omega
theorem endCells_get:∀{l:List (Int×Int)} {i:Nat} {e:Int×Int},l[i]?=some e->(l.flatMap endCells)[i*2]?=some (i8V e.1)∧(l.flatMap endCells)[i*2+1]?=some (iV e.2)
 |a::l,0,e,h=>by
  obtain rfl:a=e:=Option.some.inj h
  exact⟨rfl,rfl⟩
 |a::l,i+1,e,h=>by
  obtain⟨h1,h2⟩:=endCells_get (l:=l) (i:=i) h
  rw[List.flatMap_cons]
  refine⟨?_,?_⟩
  ·rw[show(i+1)*2=i*2+1+1 by omega]
   exact h1
  ·rw[show(i+1)*2+1=i*2+1+1+1 by omega]
   exact h2
theorem vec_cap2{w:World}{B c:Nat}{l:List (Int×Int)}(h:(Blk.vec 30 c (l.flatMap endCells)).at Try.prog w B):l.length≤c:=by
 obtain⟨arr,rest,inf,e1,e2,e3,e4⟩:=h
 have:=congrArg List.length e3
 rw[size30 inf e2]at e4
 rw[List.length_append,endCells_len]at this
 have:arr.size=arr.toList.length:=rfl
 omega
theorem EndsNew.at{w:World}{base:Nat}{s:Value}{l:List (Int×Int)}(h:EndsNew w base s l):EndsAt w s l:=by
 rcases h with⟨h1,h2⟩|⟨h1,B,c,h2,h3,h4⟩
 ·exact⟨true,0,0,0,h1,fun _=>h2,(fun h=>by cases h),fun i n hi=>by rw[h2]at hi;cases hi⟩
 ·refine⟨false,B,0,c,h2,(fun h=>by cases h),fun _=>vec_cap2 h4,fun i e hi=>?_⟩
  obtain⟨g1,g2⟩:=endCells_get hi
  rw[Nat.zero_add]
  exact⟨Blk.at_cell h4 g1,Blk.at_cell h4 g2⟩
noncomputable abbrev PlH1:List Item:=[.code (q7 [1,1,0,1,0,0]),.inLoop (q7 [1,1,0,1,0,0]),.inBlock 0,.code (q7 [1,1,1])]
noncomputable abbrev PlH2:List Item:=[.code (q7 [1,1,1,1,0,1,0,0]),.inLoop (q7 [1,1,1,1,0,1,0,0]),.inBlock 2,.code (q7 [1,1,1,1,1])]
noncomputable abbrev PlA(l:List Nat):List Item:=.inRegion (opsOf (q7 [1,1,1,1,0,1,0,0,1,1,0,0,1,1])) l::[.inBlock 3,.code (q7 [1,1,1,1,0,1,0,0,1,1,1]),.inLoop (q7 [1,1,1,1,0,1,0,0]),.inBlock 2,.code (q7 [1,1,1,1,1])]
section
variable {w w0:World}{cs:List Frame}{fr:Frame}{m:MakerD}
theorem pl_push{base X Y A o L c i:Nat}{s:Value}{l:List (Int×Int)}{e:Int×Int}(hb:base≤w.heap.size)(hs:EndsNew w base s l)(hl:l.length≤1000000)(hf:FA 7 59 (PlA [4,5,6]) [] .normal [(2,ptrV X),(3,ptrV Y),(10,s),(39,slV A o L c),(40,iV L),(41,iV i),(51,s),(54,endV e)] fr):
  Goes (G fr cs) w fun g' w'=>∃fr' s',g'=G fr' cs∧Keeps (fun x=>base≤x) w w'∧EndsNew w' base s' (l++[e])∧FA 7 59 PlH2 [] .normal [(2,ptrV X),(3,ptrV Y),(10,s'),(39,slV A o L c),(40,iV L),(41,iV (iop .add .i64 i 1))] fr':=by
 rcases hs with⟨rfl,rfl⟩|⟨hne,B0,c0,rfl,hB0,hv⟩
 ·refine(plGn.go (mkE [(51,L),(52,c),(53,o),(10,i),(11,e.1),(12,e.2)] [(64,X),(65,Y),(50,A)] []) hf rfl trivial trivial).mono fun g1 w1 hd=>?_
  obtain⟨I,B,fr1,rfl,f1,F1,bl,_⟩:=hd
  exact⟨fr1,_,rfl,f1.mono fun x hx=>Nat.le_trans hb hx,.inr ⟨by simp,B 101,(I 101).toNat,rfl,Nat.le_trans hb bl.1.1,bl.1.2⟩,F1⟩
 ·obtain⟨ρ,hρ⟩:∃ρ:Env,ρ=mkE [(51,L),(52,c),(53,o),(10,i),(11,e.1),(12,e.2),(8,l.length),(57,c0)] [(64,X),(65,Y),(50,A),(62,B0)] [(63,.agg (l.flatMap endCells).toArray)]:=⟨_,rfl⟩
  have e62:ρ.b 62=B0:=by rw[hρ];rfl
  refine(plG.goW ρ hf (by rw[hρ];rfl) ⟨by
    rw[hρ]
    show decide ((((l.length:Int).toNat:Nat):Int)+1≤1048576)=true
    exact decide_eq_true (by omega),trivial⟩ trivial (nofun) ⟨⟨.vec 30 c0 (l.flatMap endCells),by rw[e62];exact hv,rfl,by rw[hρ];rfl,fun inf hinf=>?_,(nofun),by rw[hρ];rfl⟩,trivial⟩ one_nodup).mono fun g1 w1 hd=>?_
  ·rw[size30 inf hinf,endCells_len,hρ]
   show 2*l.length=((l.length:Nat):Int).toNat*2
   omega
  obtain⟨I,B,fr1,rfl,kp,F1,bl,_⟩:=hd
  have own:∀x,ownP ρ w [(62,.pre false 63 (v 8) [] [] [] 30 (v 57))] x->base≤x:=fun x hx=>by
   rcases hx with h|⟨y,hy,e⟩
   ·exact Nat.le_trans hb h
   ·obtain rfl:=List.mem_singleton.1 hy
    have e:ρ.b 62=x:=e
    omega
  have hB:(Blk.vec 30 (I 101).toNat ((l++[e]).flatMap endCells)).at Try.prog w1 (B 101):=by
   have:=bl.1.2
   rw[hρ]at this
   rw[List.flatMap_append]
   exact this
  have hn:((((l.length:Int).toNat:Nat):Int)+1).toNat=(l++[e]).length:=by
   rw[List.length_append,List.length_singleton]
   omega
  refine⟨fr1,slV (B 101) 0 (l++[e]).length (I 101).toNat,rfl,kp.mono own,.inr ⟨by simp,B 101,(I 101).toNat,rfl,own _ bl.1.1,hB⟩,?_⟩
  rw[<-hn]
  rw[hρ]at F1
  exact F1
theorem let_cells{A o i:Nat}{x:LetD}(h:LetAt w A (o+i*3) x)(hne:x.tree≠[]):∃At ot ct,w.cell? ⟨A,o+i*3,none⟩=some (.string x.name)∧w.cell? ⟨A,o+i*3+1,none⟩=some (slV At ot x.tree.length ct)∧w.cell? ⟨A,o+i*3+2,none⟩=some (iV x.at')∧x.tree.length≤ct∧∀i n,x.tree[i]?=some n->NdAt w At (ot+i*4) n:=by
 obtain⟨ts,h1,h2,h3,h4⟩:=h.ex
 rcases h4.ex with⟨rfl,h5⟩|⟨At,ot,ct,rfl,h5,h6⟩
 ·exact(hne h5).elim
 ·exact⟨At,ot,ct,h1,h2,h3,h5,h6⟩
theorem good_ne{x:LetD}{i:Nat}{t:T}(h:GoodLet x i t):x.tree≠[]:=by
 rw[h.fl]
 cases t
 simp[flat]
theorem root_let{x:LetD}{A o c:Nat}(hne:x.tree≠[])(hel:∀i n,x.tree[i]?=some n->NdAt w A (o+i*4) n):Ans 22 #[letV x (slV A o x.tree.length c)] w fun v w'=>Fresh w w'∧v=i8V (rootOp x):=by
 obtain⟨n,l,e⟩:∃n l,x.tree=n::l:=by
  cases e:x.tree with
  |nil=>exact(hne e).elim
  |cons n l=>exact⟨n,l,rfl⟩
 have h0:=hel 0 n (by rw[e];rfl)
 rw[Nat.zero_mul,Nat.add_zero]at h0
 have er:rootOp x=n.op:=by
  unfold rootOp
  rw[e];rfl
 rw[er]
 exact root_all (w:=w) (x:=x) (c:=c) h0 (by rw[e];simp)
theorem pl_one{F:FlowD}{z:Bool}{A o c X Y:Nat}{os:Value}(hz:z=true->F.lets=[])(hel:∀i x,F.lets[i]?=some x->LetAt w0 A (o+i*3) x)(hg:∀i x,F.lets[i]?=some x->∃t,GoodLet x i t)(hlen:F.lets.length≤1000000)
 (hX:(Blk.obj 25 [hdV z A o F.lets.length c,os]).at Try.prog w0 X):
  ∀(k i:Nat) {w:World} {cs:List Frame} {fr:Frame},i+k=F.lets.length->Fresh w0 w->FA 7 59 PlH1 [] .normal [(2,ptrV X),(3,ptrV Y),(23,hdV z A o F.lets.length c),(24,iV F.lets.length),(25,iV i)] fr->
  Goes (G fr cs) w fun g' w'=>((F.lets.drop i).any wildLet=true∧∃fr',g'=G fr' cs∧Fresh w0 w'∧Leav 7 fr' w' (.tuple #[nilV,iV 11]))∨((F.lets.drop i).any wildLet=false∧∃fr',g'=G fr' cs∧Fresh w0 w'∧FA 7 59 PlH2 [] .normal [(2,ptrV X),(3,ptrV Y),(10,nilV),(39,hdV z A o F.lets.length c),(40,iV F.lets.length),(41,iV 0)] fr')
 |0,i,w,cs,fr,hi,fw,hf=>by
  obtain⟨ρ,hρ⟩:∃ρ:Env,ρ=mkE [(51,F.lets.length),(52,c),(53,o),(10,i)] [(64,X),(65,Y),(50,A)] []:=⟨_,rfl⟩
  have ez:(slZ z 50 53 51 52).ev ρ=hdV z A o F.lets.length c:=by rw[hρ];cases z<;>rfl
  have en:(i64 (lnZ z 51)).ev ρ=iV F.lets.length:=by
   rw[hρ]
   cases z with
   |false=>rfl
   |true=>rw[hz rfl];rfl
  refine((plC z).go ρ hf (by
   show[some _,some _,some _,some _,some _]=[some _,some _,some ((slZ z 50 53 51 52).ev ρ),some ((i64 (lnZ z 51)).ev ρ),some _]
   rw[ez,en,hρ];rfl) ⟨by
    rw[hρ]
    cases z with
    |false=>exact decide_eq_false (by show ¬((i:Int)<((F.lets.length:Nat):Int));omega)
    |true=>exact decide_eq_false (by show ¬((i:Int)<0);omega),trivial⟩ ⟨by
    rw[ez,hρ]
    exact fw.cell (blk_cell hX (i:=0) rfl),trivial⟩).mono fun g1 w1 hd=>?_
  obtain⟨I,B,fr1,rfl,f1,F1,_⟩:=hd
  rw[List.drop_of_length_le (by omega)]
  refine .inr ⟨rfl,fr1,rfl,fw.trans f1,?_⟩
  rw[hρ]at F1
  cases z with
  |false=>exact F1
  |true=>rw[hz rfl];exact F1
 |k+1,i,w,cs,fr,hi,fw,hf=>by
  have hlt:i<F.lets.length:=by omega
  obtain⟨x,hx⟩:∃x,F.lets[i]?=some x:=⟨_,List.getElem?_eq_getElem hlt⟩
  cases z with
  |true=>
   rw[hz rfl]at hlt
   simp only[List.length_nil]at hlt
   omega
  |false=>
  obtain⟨t,hgt⟩:=hg i x hx
  have hne:=good_ne hgt
  obtain⟨At,ot,ct,c0,c1,c2,hct,hnd⟩:=let_cells ((hel i x hx).keep fw) hne
  have hdrop:F.lets.drop i=x::F.lets.drop (i+1):=by
   rw[List.drop_eq_getElem_cons hlt]
   congr 1
   exact Option.some.inj ((List.getElem?_eq_getElem hlt).symm.trans hx)
  rw[hdrop,List.any_cons]
  obtain⟨ρ,hρ⟩:∃ρ:Env,ρ=Go.Proofs.Ytmobbajggkjpgaa.SX.mkS [(51,F.lets.length),(52,c),(53,o),(10,i),(71,x.tree.length),(72,ct),(73,ot),(4,x.at'),(1,rootOp x)] [(64,X),(65,Y),(50,A),(70,At)] [] [(1,x.name)]:=⟨_,rfl⟩
  refine(pl5.go ρ hf (by rw[hρ];rfl) (ltB_ok (i:=10) (n:=51) (I:=i) (N:=F.lets.length) (by rw[hρ];rfl) (by rw[hρ];rfl) hlt) ⟨by rw[hρ];exact c0,by rw[hρ];exact c1,by rw[hρ];exact c2,trivial⟩).trans fun g1 w1 hd=>?_
  obtain⟨I,B,fr1,rfl,f1,F1,bl,_⟩:=hd
  rw[hρ]at F1 bl
  have hL:(Blk.obj 51 [.string x.name,slV At ot x.tree.length ct,iV x.at']).at Try.prog w1 (B 100):=bl.1.2
  obtain⟨V,eV⟩:∃V,B 100=V:=⟨_,rfl⟩
  rw[eV]at hL
  have F1':FA 7 59 (.inRegion (opsOf (q7 [1,1,0,1,0,0,1,1,0,0,1,0])) [1,2,3,4,5,6,7]::[.code (q7 [1,1,0,1,0,0,1,1,0,0,1,1]),.inBlock 1,.code (q7 [1,1,0,1,0,0,1,1,1]),.inLoop (q7 [1,1,0,1,0,0]),.inBlock 0,.code (q7 [1,1,1])]) [] .normal [(2,ptrV X),(3,ptrV Y),(9,ptrV V),(23,slV A o F.lets.length c),(24,iV F.lets.length),(25,iV i),(29,letV x (slV At ot x.tree.length ct))] fr1:=by
   rw[<-eV];exact F1
  refine(pl6.go (mkE [] [] [(29,letV x (slV At ot x.tree.length ct))]) (Q:=fun v w'=>v=i8V (rootOp x)) F1' rfl fun w' f2=>root_let hne fun i n hi=>(hnd i n hi).keep (f1.trans f2)).trans fun g2 w2 hd2=>?_
  obtain⟨fr2,vv,rfl,f2,rfl,F2⟩:=hd2
  have f12:=f1.trans f2
  obtain⟨σ,hσ⟩:∃σ:Env,σ=Go.Proofs.Ytmobbajggkjpgaa.SX.mkS [(51,F.lets.length),(52,c),(53,o),(10,i),(71,x.tree.length),(72,ct),(73,ot),(4,x.at'),(1,rootOp x)] [(64,X),(65,Y),(66,V),(50,A),(70,At)] [] [(1,x.name)]:=⟨_,rfl⟩
  have fin:∀{k:List Item} {w3:World} {fr3:Frame},wildLet x=true->Fresh w0 w3->FA 7 59 (.code .ret::k) [] .normal [(4,nilV),(5,iV 11)] fr3->Goes (G fr3 cs) w3 fun g' w'=>((wildLet x||(F.lets.drop (i+1)).any wildLet)=true∧∃fr',g'=G fr' cs∧Fresh w0 w'∧Leav 7 fr' w' (.tuple #[nilV,iV 11]))∨((wildLet x||(F.lets.drop (i+1)).any wildLet)=false∧∃fr',g'=G fr' cs∧Fresh w0 w'∧FA 7 59 PlH2 [] .normal [(2,ptrV X),(3,ptrV Y),(10,nilV),(39,slV A o F.lets.length c),(40,iV F.lets.length),(41,iV 0)] fr'):=fun{k w3 fr3} hw f3 F3=>by
   refine(leave2 ret7 F3 rfl rfl).mono fun g6 w6 hd6=>?_
   obtain⟨fr6,rfl,rfl,hL⟩:=hd6
   exact .inl ⟨by rw[hw];rfl,fr6,rfl,f3,hL⟩
  by_cases h17:rootOp x=17
  ·refine(pl7.go σ F2 (by rw[hσ];rfl) ⟨by rw[hσ];exact decide_eq_true h17,trivial⟩ trivial).trans fun g3 w3 hd3=>?_
   obtain⟨I,B,fr3,rfl,f3,F3,_⟩:=hd3
   exact fin (by unfold wildLet;rw[decide_eq_true h17];rfl) (fw.trans (f12.trans f3)) F3
  refine(pl8.go σ F2 (by rw[hσ];rfl) ⟨by rw[hσ];exact decide_eq_false h17,trivial⟩ ⟨by rw[hσ];exact f2.cell (blk_cell hL (i:=0) rfl),by rw[hσ];exact f2.cell (blk_cell hL (i:=1) rfl),by rw[hσ];exact f2.cell (blk_cell hL (i:=2) rfl),trivial⟩).trans fun g3 w3 hd3=>?_
  obtain⟨I,B,fr3,rfl,f3,F3,_⟩:=hd3
  rw[hσ]at F3
  refine(pl9.go (mkE [] [] [(33,letV x (slV At ot x.tree.length ct))]) (Q:=fun v w'=>v=i8V (rootOp x)) F3 rfl fun w' f4=>root_let hne fun i n hi=>(hnd i n hi).keep (f12.trans (f3.trans f4))).trans fun g4 w4 hd4=>?_
  obtain⟨fr4,vv,rfl,f4,rfl,F4⟩:=hd4
  by_cases h18:rootOp x=18
  ·refine(plA.go σ F4 (by rw[hσ];rfl) ⟨by rw[hσ];exact decide_eq_true h18,trivial⟩ trivial).trans fun g5 w5 hd5=>?_
   obtain⟨I,B,fr5,rfl,f5,F5,_⟩:=hd5
   exact fin (by unfold wildLet;rw[decide_eq_true h18,Bool.or_true]) (fw.trans (f12.trans (f3.trans (f4.trans f5)))) F5
  ·refine(plB.go σ F4 (by rw[hσ];rfl) ⟨by rw[hσ];exact decide_eq_false h18,trivial⟩ trivial).trans fun g5 w5 hd5=>?_
   obtain⟨I,B,fr5,rfl,f5,F5,_⟩:=hd5
   have hwl:wildLet x=false:=by unfold wildLet;rw[decide_eq_false h17,decide_eq_false h18];rfl
   rw[hwl,Bool.false_or]
   refine pl_one (z:=false) (os:=os) (fun h=>by cases h) hel hg hlen hX k (i+1) (by omega) (fw.trans (f12.trans (f3.trans (f4.trans f5)))) ?_
   rw[hσ]at F5
   rw[<-inc (i:=i) (by omega)]
   exact F5
theorem end_call{e:Int×Int}{fn nt i:Nat}{ops:Array Oper}{lv:List (Nat×Value)}{l:List Nat}{k:List Item}{r d:Nat}(o79:OpC nt ops i [(r,.iface 79 (.opq r))] 91 [.opq r] d)(o82:OpC nt ops i [(r,.iface 82 (.opq r))] 92 [.opq r] d)(hf:FA fn nt (.inRegion ops (i::l)::k) [] .normal lv fr)(hr:lookV r lv=some (outV e)):
  Goes (G fr cs) w fun g' w'=>∃fr',g'=G fr' cs∧Fresh w w'∧FA fn nt (.inRegion ops l::k) [] .normal (lvPut d (endV e) lv) fr':=by
 obtain⟨t,p,h1,h2,h3⟩:=end_all (e:=e)
 have ep:(mkE [] [] [(r,p)]).v r=p:=by
  show lookN undef r [(r,p)]=p
  simp[lookN,Go.Proofs.Ytmobbajggkjpgaa.SX.look]
 have ea:AV.evs (mkE [] [] [(r,p)]) [.opq r]=[p]:=by
  show[(mkE [] [] [(r,p)]).v r]=[p]
  rw[ep]
 rcases h2 with rfl|rfl
 ·refine(o79.go (mkE [] [] [(r,p)]) (Q:=fun v w'=>v=endV e) hf (by
   show[lookV r lv]=[some (Value.iface 79 ((mkE [] [] [(r,p)]).v r))]
   rw[ep,hr,h1]) fun w' f=>?_).mono fun g' w' hd=>?_
  ·rw[ea]
   exact h3 w'
  ·obtain⟨fr',vv,h4,h5,rfl,h6⟩:=hd
   exact⟨fr',h4,h5,h6⟩
 ·refine(o82.go (mkE [] [] [(r,p)]) (Q:=fun v w'=>v=endV e) hf (by
   show[lookV r lv]=[some (Value.iface 82 ((mkE [] [] [(r,p)]).v r))]
   rw[ep,hr,h1]) fun w' f=>?_).mono fun g' w' hd=>?_
  ·rw[ea]
   exact h3 w'
  ·obtain⟨fr',vv,h4,h5,rfl,h6⟩:=hd
   exact⟨fr',h4,h5,h6⟩
noncomputable def plR(L c o i tl ct ot at':Int)(m:MakerD)(en c' o':Int)(X Y A At A':Nat)(nm:ByteArray):Env:=Go.Proofs.Ytmobbajggkjpgaa.SX.mkS [(51,L),(52,c),(53,o),(10,i),(71,tl),(72,ct),(73,ot),(4,at'),(21,m.mul),(22,m.add),(23,m.fails),(24,m.panics),(81,en),(82,c'),(83,o')] [(64,X),(65,Y),(50,A),(70,At),(80,A')] [] [(1,nm)]
theorem pl_two{F:FlowD}{z:Bool}{A o c X Y:Nat}(hz:z=true->F.lets=[])(hel:∀i x,F.lets[i]?=some x->LetAt w0 A (o+i*3) x)(hg:∀i x,F.lets[i]?=some x->∃t,GoodLet x i t)(hlen:F.lets.length≤1000000)(htr:∀x∈F.lets,x.tree.length≤999999)
 (hY:(Blk.obj 27 [iV m.mul,iV m.add,iV m.fails,iV m.panics]).at Try.prog w0 Y):
  ∀(k i:Nat) {E:List (Int×Int)} {s:Value} {w:World} {cs:List Frame} {fr:Frame},i+k=F.lets.length->E.length=i->Fresh w0 w->EndsNew w w0.heap.size s E->FA 7 59 PlH2 [] .normal [(2,ptrV X),(3,ptrV Y),(10,s),(39,hdV z A o F.lets.length c),(40,iV F.lets.length),(41,iV i)] fr->
  Goes (G fr cs) w fun g' w'=>∃fr' s',g'=G fr' cs∧Fresh w0 w'∧EndsNew w' w0.heap.size s' (plainEnds m (F.lets.drop i) E)∧Leav 7 fr' w' (.tuple #[s',iV 0])
 |0,i,E,s,w,cs,fr,hi,hE,fw,hs,hf=>by
  obtain⟨ρ,hρ⟩:∃ρ:Env,ρ=mkE [(51,F.lets.length),(52,c),(53,o),(10,i)] [(64,X),(65,Y),(50,A)] [(10,s)]:=⟨_,rfl⟩
  have ez:(slZ z 50 53 51 52).ev ρ=hdV z A o F.lets.length c:=by rw[hρ];cases z<;>rfl
  have en:(i64 (lnZ z 51)).ev ρ=iV F.lets.length:=by
   rw[hρ]
   cases z with
   |false=>rfl
   |true=>rw[hz rfl];rfl
  refine((plH z).go ρ hf (by
   show[some _,some _,some _,some _,some _,some _]=[some _,some _,some _,some ((slZ z 50 53 51 52).ev ρ),some ((i64 (lnZ z 51)).ev ρ),some _]
   rw[ez,en,hρ];rfl) ⟨by
    rw[hρ]
    cases z with
    |false=>exact decide_eq_false (by show ¬((i:Int)<((F.lets.length:Nat):Int));omega)
    |true=>exact decide_eq_false (by show ¬((i:Int)<0);omega),trivial⟩ trivial).trans fun g1 w1 hd=>?_
  obtain⟨I,B,fr1,rfl,f1,F1,_⟩:=hd
  rw[hρ]at F1
  refine(leave2 ret7 F1 rfl rfl).mono fun g6 w6 hd6=>?_
  obtain⟨fr6,rfl,rfl,hL⟩:=hd6
  rw[List.drop_of_length_le (by omega)]
  exact⟨fr6,s,rfl,fw.trans f1,hs.keep f1,hL⟩
 |k+1,i,E,s,w,cs,fr,hi,hE,fw,hs,hf=>by
  have hlt:i<F.lets.length:=by omega
  obtain⟨x,hx⟩:∃x,F.lets[i]?=some x:=⟨_,List.getElem?_eq_getElem hlt⟩
  cases z with
  |true=>
   rw[hz rfl]at hlt
   simp only[List.length_nil]at hlt
   omega
  |false=>
  obtain⟨t,hgt⟩:=hg i x hx
  have hne:=good_ne hgt
  obtain⟨At,ot,ct,c0,c1,c2,hct,hnd⟩:=let_cells ((hel i x hx).keep fw) hne
  have hdrop:F.lets.drop i=x::F.lets.drop (i+1):=by
   rw[List.drop_eq_getElem_cons hlt]
   congr 1
   exact Option.some.inj ((List.getElem?_eq_getElem hlt).symm.trans hx)
  have hxl:=htr x (List.mem_of_getElem? hx)
  obtain⟨y,A',o',c',es,hy,hyc,hyel⟩:=hs.at.ex
  obtain⟨ρ,hρ⟩:∃ρ:Env,ρ=plR F.lets.length c o i x.tree.length ct ot x.at' m E.length c' o' X Y A At A' x.name:=⟨_,rfl⟩
  have ey:(slZ y 80 83 81 82).ev ρ=s:=by rw[hρ,es];cases y<;>rfl
  have eyI:∀I B,(slZ y 80 83 81 82).ev (mixE ρ I B)=s:=fun I B=>by rw[hρ,es];cases y<;>rfl
  refine((plD y).go ρ hf (by
   show[some _,some _,some _,some _,some _,some _]=[some _,some _,some ((slZ y 80 83 81 82).ev ρ),some _,some _,some _]
   rw[ey,hρ];rfl) (ltB_ok (i:=10) (n:=51) (I:=i) (N:=F.lets.length) (by rw[hρ];rfl) (by rw[hρ];rfl) hlt) ⟨by rw[hρ];exact c0,by rw[hρ];exact c1,by rw[hρ];exact c2,by rw[hρ];exact fw.cell (blk_cell hY (i:=0) rfl),by rw[hρ];exact fw.cell (blk_cell hY (i:=1) rfl),by rw[hρ];exact fw.cell (blk_cell hY (i:=2) rfl),by rw[hρ];exact fw.cell (blk_cell hY (i:=3) rfl),trivial⟩).trans fun g1 w1 hd=>?_
  obtain⟨I,B,fr1,rfl,f1,F1,bl,_⟩:=hd
  obtain⟨V,eV⟩:∃V,B 101=V:=⟨_,rfl⟩
  have hW:(Blk.obj 61 [slV At ot x.tree.length ct,s,iV m.mul,iV m.add,iV m.fails,iV m.panics]).at Try.prog w1 V:=by
   have h1:(Blk.obj 61 [slV At ot x.tree.length ct,(slZ y 80 83 81 82).ev (mixE ρ I B),iV m.mul,iV m.add,iV m.fails,iV m.panics]).at Try.prog w1 (B 101):=by
    have:=bl.1.2
    rw[hρ]at this⊢
    exact this
   rw[eyI,eV]at h1
   exact h1
  have F1':FA 7 59 (PlA [2,3,4,5,6]) [] .normal [(2,ptrV X),(3,ptrV Y),(10,s),(13,ptrV V),(39,slV A o F.lets.length c),(40,iV F.lets.length),(41,iV i),(51,s),(52,ptrV V)] fr1:=by
   have h1:FA 7 59 (PlA [2,3,4,5,6]) [] .normal [(2,ptrV X),(3,ptrV Y),(10,(slZ y 80 83 81 82).ev (mixE ρ I B)),(13,ptrV (B 101)),(39,slV A o F.lets.length c),(40,iV F.lets.length),(41,iV i),(51,(slZ y 80 83 81 82).ev (mixE ρ I B)),(52,ptrV (B 101))] fr1:=by
    rw[hρ]at F1⊢
    exact F1
   rw[eyI,eV]at h1
   exact h1
  have wk:WalkAt w1 V x.tree At ot ct s m:=⟨blk_cell hW (i:=0) rfl,blk_cell hW (i:=1) rfl,blk_cell hW (i:=2) rfl,blk_cell hW (i:=3) rfl,blk_cell hW (i:=4) rfl,blk_cell hW (i:=5) rfl,fun i n hi=>(hnd i n hi).keep f1⟩
  refine(plE.go (mkE [] [] [(52,ptrV V)]) (Q:=fun v w'=>v=outV (evF E m t)) F1' rfl fun w' f2=>?_).trans fun g2 w2 hd2=>?_
  ·exact node_all t (at':=0) (rest:=[]) (wk.keep f2) (by omega) (hs.at.keep (f1.trans f2)) hgt.wf (by rw[hE];exact hgt.nd) (by rw[List.drop_zero,List.append_nil];exact hgt.fl)
  obtain⟨fr2,vv,rfl,f2,rfl,F2⟩:=hd2
  refine(end_call (e:=evF E m t) plF79 plF82 F2 rfl).trans fun g3 w3 hd3=>?_
  obtain⟨fr3,rfl,f3,F3⟩:=hd3
  have f03:=fw.trans (f1.trans (f2.trans f3))
  have F3':FA 7 59 (PlA [4,5,6]) [] .normal [(2,ptrV X),(3,ptrV Y),(10,s),(39,slV A o F.lets.length c),(40,iV F.lets.length),(41,iV i),(51,s),(54,endV (evF E m t))] fr3:=F3.only rfl
  refine(pl_push (base:=w0.heap.size) f03.size (hs.keep (f1.trans (f2.trans f3))) (by omega) F3').trans fun g4 w4 hd4=>?_
  obtain⟨fr4,s',rfl,kp,hs',F4⟩:=hd4
  rw[hdrop]
  have e1:plainEnds m (x::F.lets.drop (i+1)) E=plainEnds m (F.lets.drop (i+1)) (E++[evF E m t]):=by
   show plainEnds m (F.lets.drop (i+1)) (E++[endOf m E x])=_
   unfold endOf
   rw[hgt.tr]
  rw[e1]
  rw[inc (by omega)]at F4
  exact pl_two (z:=false) (X:=X) (fun h=>by cases h) hel hg hlen htr hY k (i+1) (by omega) (by rw[List.length_append,hE];rfl) (fresh_keeps f03 kp) hs' F4
theorem plain_all{x:Value}{F:FlowD}(h:FlowAt w x F)(hlen:F.lets.length≤1000000)(htr:∀x∈F.lets,x.tree.length≤999999):Ans 7 #[x,makerV m] w fun v w'=>Fresh w w'∧∃s,v=.tuple #[s,iV (plainF F m).1]∧EndsNew w' w.heap.size s (plainF F m).2:=by
 obtain⟨ls,os,rfl,hl,ho⟩:=h
 obtain⟨z,A,o,c,hls,hz,hzc,hel⟩:=hl.ex
 refine ans_of fun cs=>?_
 obtain⟨ρ,hρ⟩:∃ρ:Env,ρ=mkE [(51,F.lets.length),(52,c),(53,o),(21,m.mul),(22,m.add),(23,m.fails),(24,m.panics)] [(50,A)] [(9,os)]:=⟨_,rfl⟩
 have ez:∀I B,(slZ z 50 53 51 52).ev (mixE ρ I B)=ls:=fun I B=>by rw[hρ,hls];cases z<;>rfl
 refine((pl1 z).go ρ (enter2 ent7 rfl (.agg #[ls,os]) (makerV m)) (by rw[hls,hρ];cases z<;>rfl) trivial trivial).trans fun g1 w1 hd=>?_
 obtain⟨I,B,fr1,rfl,f1,F1,bl,_⟩:=hd
 obtain⟨X,eX⟩:∃X,B 100=X:=⟨_,rfl⟩
 obtain⟨Y,eY⟩:∃Y,B 101=Y:=⟨_,rfl⟩
 have hY:(Blk.obj 27 [iV m.mul,iV m.add,iV m.fails,iV m.panics]).at Try.prog w1 Y:=by
  have:=bl.1.2
  rw[hρ]at this
  rw[<-eY]
  exact this
 have hX:(Blk.obj 25 [ls,os]).at Try.prog w1 X:=by
  have h1:(Blk.obj 25 [(slZ z 50 53 51 52).ev (mixE ρ I B),os]).at Try.prog w1 (B 100):=by
   have:=bl.2.1.2
   rw[hρ]at this⊢
   exact this
  rw[ez,eX]at h1
  exact h1
 have F1':FA 7 59 (.inRegion (opsOf (q7 [1,0,0])) [1,2,3,4,5,6]::[.code (q7 [1,0,1]),.code (q7 [1,1])]) [] .normal [(2,ptrV X),(3,ptrV Y),(15,.agg #[ls,os])] fr1:=by
  have h1:FA 7 59 (.inRegion (opsOf (q7 [1,0,0])) [1,2,3,4,5,6]::[.code (q7 [1,0,1]),.code (q7 [1,1])]) [] .normal [(2,ptrV (B 100)),(3,ptrV (B 101)),(15,.agg #[(slZ z 50 53 51 52).ev (mixE ρ I B),os])] fr1:=by
   rw[hρ]at F1⊢
   exact F1
  rw[ez,eX,eY]at h1
  exact h1
 refine(pl2.go (mkE [] [] [(15,.agg #[ls,os])]) (Q:=fun v w'=>v=.tuple #[iV (chkF F).1,iV (chkF F).2]) F1' rfl fun w' f2=>check_all ⟨ls,os,rfl,hl.keep (f1.trans f2),ho.keep (f1.trans f2)⟩ hlen htr).trans fun g2 w2 hd2=>?_
 obtain⟨fr2,vv,rfl,f2,rfl,F2⟩:=hd2
 have f12:=f1.trans f2
 obtain⟨σ,hσ⟩:∃σ:Env,σ=mkE [(51,F.lets.length),(52,c),(53,o),(5,(chkF F).1),(6,(chkF F).2)] [(50,A),(64,X),(65,Y)] [(9,os)]:=⟨_,rfl⟩
 by_cases h0:(chkF F).1=0
 ·have hg:=chkF_good h0
  have es:∀I B,(slZ z 50 53 51 52).ev (mixE σ I B)=hdV z A o F.lets.length c:=fun I B=>by rw[hσ];cases z<;>rfl
  have hX2:(Blk.obj 25 [hdV z A o F.lets.length c,os]).at Try.prog w2 X:=by rw[<-hls];exact blk_keep hX f2
  refine((pl4 z).go σ F2 (by rw[hσ];rfl) ⟨by rw[hσ];show(!decide ((chkF F).1=0))=false;rw[decide_eq_true h0];rfl,trivial⟩ ⟨by
   have:=blk_cell hX2 (i:=0) rfl
   rw[hσ]
   cases z<;>exact this,trivial⟩).trans fun g3 w3 hd3=>?_
  obtain⟨I,B',fr3,rfl,f3,F3,_⟩:=hd3
  have F3':FA 7 59 PlH1 [] .normal [(2,ptrV X),(3,ptrV Y),(23,hdV z A o F.lets.length c),(24,iV F.lets.length),(25,iV (0:Nat))] fr3:=by
   rw[hσ]at F3
   cases z with
   |false=>exact F3
   |true=>rw[hz rfl];exact F3
  have f13:=f12.trans f3
  refine(pl_one (w0:=w3) hz (fun i x hi=>(hel i x hi).keep f13) hg hlen (blk_keep hX2 f3) F.lets.length 0 (by omega) (Fresh.refl _) F3').trans fun g4 w4 hd4=>?_
  rcases hd4 with⟨ha,fr4,rfl,f4,hL⟩|⟨ha,fr4,rfl,f4,F4⟩
  ·refine .here ⟨fr4,_,rfl,hL,f13.trans f4,nilV,?_,?_⟩
   ·unfold plainF
    rw[if_neg (by rw[h0];decide),if_pos (by simpa using ha)]
   ·unfold plainF
    rw[if_neg (by rw[h0];decide),if_pos (by simpa using ha)]
    exact .inl ⟨rfl,rfl⟩
  ·have f14:=f13.trans f4
   refine(pl_two (w0:=w4) hz (fun i x hi=>(hel i x hi).keep f14) hg hlen htr (blk_keep hY (f2.trans (f3.trans f4))) F.lets.length 0 (E:=[]) (s:=nilV) (by omega) rfl (Fresh.refl _) (.inl ⟨rfl,rfl⟩) F4).mono fun g5 w5 hd5=>?_
   obtain⟨fr5,s',rfl,f5,hs',hL⟩:=hd5
   have e:plainF F m=(0,plainEnds m F.lets []):=by
    unfold plainF
    rw[if_neg (by rw[h0];decide),if_neg (by simpa using ha)]
   refine⟨fr5,_,rfl,hL,f14.trans f5,s',by rw[e],?_⟩
   rw[e]
   rcases hs' with h|⟨h1,B0,c0,h2,h3,h4⟩
   ·exact .inl h
   ·exact .inr ⟨h1,B0,c0,h2,Nat.le_trans f14.size h3,h4⟩
 ·refine(pl3.go σ F2 (by rw[hσ];rfl) ⟨by rw[hσ];show(!decide ((chkF F).1=0))=true;rw[decide_eq_false h0];rfl,trivial⟩ trivial).trans fun g3 w3 hd3=>?_
  obtain⟨I,B',fr3,rfl,f3,F3,_⟩:=hd3
  rw[hσ]at F3
  refine(leave2 ret7 F3 rfl rfl).mono fun g6 w6 hd6=>?_
  obtain⟨fr6,rfl,rfl,hL⟩:=hd6
  have e:plainF F m=((chkF F).1,[]):=by
   unfold plainF
   rw[if_pos h0]
  refine⟨fr6,_,rfl,hL,f12.trans f3,nilV,by rw[e];rfl,?_⟩
  rw[e]
  exact .inl ⟨rfl,rfl⟩
end
noncomputable abbrev Z:AV:=undefA
noncomputable def zs(a n:Nat):List (Nat×AV):=(List.range n).map fun i=>(i+a,Z)
abbrev ftL:Nat:=713053462628379038341895553118
abbrev ftE:Nat:=792281625142643375935439503453
abbrev ftO:Nat:=1029966112685436388716071354458
theorem Pc.full{fn nt n:Nat}{todo todo':List Item}{lA:List (Nat×AV)}{bs:List (BE×Bool)}{mem:List (AA×AV)}{pre post:List (Nat×ABlk)}{ks live:List Nat}{vals:List AV}
 (hT:∀st,tmpsOf nt st lA=tmpsOf nt (fun _=>.nilIface) lA)(run:seeF (runZ bs mem n ks (cfg (fr0 fn nt todo lA (fun _=>.nilIface)) [] pre)) live noL=some (⟨fn,nt,todo',[],.run,.normal,[],post,vals⟩,[]))(low:cfgLow 100 (cfg (fr0 fn nt todo lA (fun _=>.nilIface)) [] pre)=true)(olow:(OO bs mem).low 100=true)(nd:(post.map (·.1)).Nodup):Pc fn nt todo lA bs mem pre n ks live todo' vals post:=
 ⟨fun st=>by unfold fr0;rw[hT st];exact run,fun st=>by unfold fr0;rw[hT st];exact low,olow,nd⟩
theorem enter4T{f nt:Nat}{t:TT}{body:Code}{live:List Nat}{vals:List AV}(h:enterA Try.prog f [.opq 0,.opq 1,.opq 2,.opq 3] .normal=.ok ⟨f,nt,t,[.code body],[],.run,.normal⟩)(hs:frSeen (⟨f,nt,t,[.code body],[],.run,.normal⟩:AFrame) live=⟨f,nt,[.code body],[],.run,.normal,[],[],vals⟩)(x y z u:Value):
  FA f nt [.code body] [] .normal (live.zip (AV.evs (mkE [] [] [(0,x),(1,y),(2,z),(3,u)]) vals)) (Frame.enter Try.prog f #[x,y,z,u] .normal):=by
 let ρ:Env:=mkE [] [] [(0,x),(1,y),(2,z),(3,u)]
 exact FAt.of (live:=live) (vals:=vals) (dA:=[]) (enterA_ok (U:=fun _=>True) h (.inl rfl) ⟨trivial,trivial,trivial,trivial,trivial⟩ (ρ:=ρ)).1 hs (.inl rfl)
noncomputable def q25(l:List Nat):Code:=pc (bodyOf Try.f25) l
theorem ent25:enterA Try.prog 25 [.opq 0,.opq 1] .normal=.ok ⟨25,10,entT 25 [.opq 0,.opq 1],[.code (bodyOf Try.f25)],[],.run,.normal⟩:=by kernel_rfl
theorem ret25:RetC 25 10 4:=fun st=>by kernel_rfl
noncomputable def q35(l:List Nat):Code:=pc (bodyOf Try.f35) l
theorem ent35:enterA Try.prog 35 [.opq 0,.opq 1] .normal=.ok ⟨35,9,entT 35 [.opq 0,.opq 1],[.code (bodyOf Try.f35)],[],.run,.normal⟩:=by kernel_rfl
theorem ret35:RetC 35 9 4:=fun st=>by kernel_rfl
noncomputable def q49(l:List Nat):Code:=pc (bodyOf Try.f49) l
theorem ent49:enterA Try.prog 49 [.opq 0,.opq 1] .normal=.ok ⟨49,19,entT 49 [.opq 0,.opq 1],[.code (bodyOf Try.f49)],[],.run,.normal⟩:=by kernel_rfl
theorem ret49:RetC 49 19 4:=fun st=>by kernel_rfl
theorem al1:Pc 25 10 [.code (q25 [])] [(0,.opq 0),(1,i64 (v 1))] [] [] [] 8 [] [5,6] [.inRegion (opsOf (q25 [1,0])) [2,3,4,5],.code .ret] [.opq 0,i64 (v 1)] []:=⟨fun st=>by kernel_rfl,fun st=>by kernel_rfl,by kernel_rfl,of_decide_eq_true (by kernel_rfl)⟩
theorem al2:OpW 10 (opsOf (q25 [1,0])) 2 [] (.slice 33 (.tmp 5) none (some (.tmp 6)) none) 33 (some 7):=⟨fun st=>by kernel_rfl,fun st=>by kernel_rfl,by kernel_rfl⟩
theorem al3:OpC 10 (opsOf (q25 [1,0])) 3 [(7,.opq 7)] 35 [.opq 7,.func (.func 36) [] []] 8:=⟨fun st=>by kernel_rfl,fun st=>by kernel_rfl,fun st=>by kernel_rfl,by kernel_rfl,by decide,rfl⟩
theorem al4true:Pc 25 10 [.inRegion (opsOf (q25 [1,0])) [4,5],.code .ret] [(8,TB)] [] [] [] 3 [] [4] [.code .ret] [FB] []:=⟨fun st=>by kernel_rfl,fun st=>by kernel_rfl,by kernel_rfl,of_decide_eq_true (by kernel_rfl)⟩
theorem al4false:Pc 25 10 [.inRegion (opsOf (q25 [1,0])) [4,5],.code .ret] [(8,FB)] [] [] [] 3 [] [4] [.code .ret] [TB] []:=⟨fun st=>by kernel_rfl,fun st=>by kernel_rfl,by kernel_rfl,of_decide_eq_true (by kernel_rfl)⟩
theorem al5:Pc 35 9 [.code (q35 [])] [(0,.opq 0),(1,.func (.func 36) [] [])] [] [] [] 8 [] [5,6] [.inRegion (opsOf (q35 [1,0])) [2,3,4],.code .ret] [.opq 0,.func (.func 36) [] []] []:=⟨fun st=>by kernel_rfl,fun st=>by kernel_rfl,by kernel_rfl,of_decide_eq_true (by kernel_rfl)⟩
theorem al6:OpC 9 (opsOf (q35 [1,0])) 2 [(5,.opq 5),(6,.func (.func 36) [] [])] 49 [.opq 5,.func (.func 36) [] []] 7:=⟨fun st=>by kernel_rfl,fun st=>by kernel_rfl,fun st=>by kernel_rfl,by kernel_rfl,by decide,rfl⟩
theorem al7true:Pc 35 9 [.inRegion (opsOf (q35 [1,0])) [3,4],.code .ret] [(7,i64 (v 1))] [((.cmp .geq (v 1) (.lit 0)),true)] [] [] 3 [] [4] [.code .ret] [TB] []:=⟨fun st=>by kernel_rfl,fun st=>by kernel_rfl,by kernel_rfl,of_decide_eq_true (by kernel_rfl)⟩
theorem al7false:Pc 35 9 [.inRegion (opsOf (q35 [1,0])) [3,4],.code .ret] [(7,i64 (v 1))] [((.cmp .geq (v 1) (.lit 0)),false)] [] [] 3 [] [4] [.code .ret] [FB] []:=⟨fun st=>by kernel_rfl,fun st=>by kernel_rfl,by kernel_rfl,of_decide_eq_true (by kernel_rfl)⟩
theorem al8(z:Bool):Pc 49 19 [.code (q49 [])] [(0,slZ z 80 83 81 82),(1,.func (.func 36) [] [])] [] [] [] 13 [] [0,1,7,8] [.code (q49 [1,0,1,0,0]),.inLoop (q49 [1,0,1,0,0]),.inBlock 0,.code (q49 [1,1])] [slZ z 80 83 81 82,.func (.func 36) [] [],i64 (lnZ z 81),i64 (.lit 0)] []:=⟨fun st=>by cases z<;>kernel_rfl,fun st=>by cases z<;>kernel_rfl,by cases z<;>kernel_rfl,of_decide_eq_true (by kernel_rfl)⟩
theorem al9(z:Bool):Pc 49 19 [.code (q49 [1,0,1,0,0]),.inLoop (q49 [1,0,1,0,0]),.inBlock 0,.code (q49 [1,1])] [(0,slZ z 80 83 81 82),(1,.func (.func 36) [] []),(7,i64 (lnZ z 81)),(8,i64 (v 10))] [((.cmp .lss (v 10) (lnZ z 81)),false)] [] [] 11 [] [4] [.code .ret] [i64 (.lit (-1))] []:=⟨fun st=>by cases z<;>kernel_rfl,fun st=>by cases z<;>kernel_rfl,by cases z<;>kernel_rfl,of_decide_eq_true (by kernel_rfl)⟩
theorem alA:Pc 49 19 [.code (q49 [1,0,1,0,0]),.inLoop (q49 [1,0,1,0,0]),.inBlock 0,.code (q49 [1,1])] [(0,.slice (some ⟨(.dyn 80),(v 83)⟩) (v 81) (v 82)),(1,.func (.func 36) [] []),(7,i64 (.tn (v 81))),(8,i64 (v 10))] [((.cmp .lss (v 10) (.tn (v 81))),true),((.cmp .leq (.lit 0) (v 10)),true),((.cmp .lss (v 10) (.lit 0)),false),((.cmp .geq (v 10) (.tn (v 81))),false),((.cmp .lss (v 11) (.lit 1)),true)] [(⟨(.dyn 80),(.plus (.tn (v 83)) (.times (.tn (v 10)) (.lit 2)))⟩,i8 (v 11)),(⟨(.dyn 80),(.plus (.tn (.plus (.tn (v 83)) (.times (.tn (v 10)) (.lit 2)))) (.lit 1))⟩,i64 (v 12))] [] 48 [] [4] [.code .ret,.inBlock 1,.code (q49 [1,0,1,0,0,1,1,1]),.inLoop (q49 [1,0,1,0,0]),.inBlock 0,.code (q49 [1,1])] [i64 (v 10)] []:=⟨fun st=>by kernel_rfl,fun st=>by kernel_rfl,by kernel_rfl,of_decide_eq_true (by kernel_rfl)⟩
theorem alB:Pc 49 19 [.code (q49 [1,0,1,0,0]),.inLoop (q49 [1,0,1,0,0]),.inBlock 0,.code (q49 [1,1])] [(0,.slice (some ⟨(.dyn 80),(v 83)⟩) (v 81) (v 82)),(1,.func (.func 36) [] []),(7,i64 (.tn (v 81))),(8,i64 (v 10))] [((.cmp .lss (v 10) (.tn (v 81))),true),((.cmp .leq (.lit 0) (v 10)),true),((.cmp .lss (v 10) (.lit 0)),false),((.cmp .geq (v 10) (.tn (v 81))),false),((.cmp .lss (v 11) (.lit 1)),false),((.cmp .gtr (v 11) (.lit 4)),true)] [(⟨(.dyn 80),(.plus (.tn (v 83)) (.times (.tn (v 10)) (.lit 2)))⟩,i8 (v 11)),(⟨(.dyn 80),(.plus (.tn (.plus (.tn (v 83)) (.times (.tn (v 10)) (.lit 2)))) (.lit 1))⟩,i64 (v 12))] [] 48 [] [4] [.code .ret,.inBlock 1,.code (q49 [1,0,1,0,0,1,1,1]),.inLoop (q49 [1,0,1,0,0]),.inBlock 0,.code (q49 [1,1])] [i64 (v 10)] []:=⟨fun st=>by kernel_rfl,fun st=>by kernel_rfl,by kernel_rfl,of_decide_eq_true (by kernel_rfl)⟩
theorem alC:Pc 49 19 [.code (q49 [1,0,1,0,0]),.inLoop (q49 [1,0,1,0,0]),.inBlock 0,.code (q49 [1,1])] [(0,.slice (some ⟨(.dyn 80),(v 83)⟩) (v 81) (v 82)),(1,.func (.func 36) [] []),(7,i64 (.tn (v 81))),(8,i64 (v 10))] [((.cmp .lss (v 10) (.tn (v 81))),true),((.cmp .leq (.lit 0) (v 10)),true),((.cmp .lss (v 10) (.lit 0)),false),((.cmp .geq (v 10) (.tn (v 81))),false),((.cmp .lss (v 11) (.lit 1)),false),((.cmp .gtr (v 11) (.lit 4)),false)] [(⟨(.dyn 80),(.plus (.tn (v 83)) (.times (.tn (v 10)) (.lit 2)))⟩,i8 (v 11)),(⟨(.dyn 80),(.plus (.tn (.plus (.tn (v 83)) (.times (.tn (v 10)) (.lit 2)))) (.lit 1))⟩,i64 (v 12))] [] 50 [] [0,1,7,8] [.code (q49 [1,0,1,0,0]),.inLoop (q49 [1,0,1,0,0]),.inBlock 0,.code (q49 [1,1])] [.slice (some ⟨(.dyn 80),(v 83)⟩) (v 81) (v 82),.func (.func 36) [] [],i64 (.tn (v 81)),i64 (.op .add .i64 (v 10) (.lit 1))] []:=⟨fun st=>by kernel_rfl,fun st=>by kernel_rfl,by kernel_rfl,of_decide_eq_true (by kernel_rfl)⟩
noncomputable def q26(l:List Nat):Code:=pc (bodyOf Try.f26) l
theorem ent26:enterA Try.prog 26 [.opq 0,.opq 1,.opq 2,.opq 3] .normal=.ok ⟨26,107,entT 26 [.opq 0,.opq 1,.opq 2,.opq 3],[.code (bodyOf Try.f26)],[],.run,.normal⟩:=by kernel_rfl
theorem ret26:RetC 26 107 8:=fun st=>by kernel_rfl
theorem ft1:Pc 26 107 [.code (q26 [])] ([(0,.agg [.slice (some ⟨(.dyn 50),(v 53)⟩) (v 51) (v 52),.opq 9]),(1,i64 (v 10)),(2,.agg [i64 (v 21),i64 (v 22),i64 (v 23),i64 (v 24)]),(3,.slice (some ⟨(.dyn 80),(v 83)⟩) (v 81) (v 82))]++zs 4 103) [((.cmp .lss (v 10) (.tn (v 51))),true),((.cmp .leq (.lit 0) (v 10)),true),((.cmp .lss (v 10) (.lit 0)),false),((.cmp .geq (v 10) (.tn (v 51))),false),((.cmp .lss (v 10) (.tn (v 81))),true),((.cmp .leq (.lit 0) (v 10)),true),((.cmp .lss (v 10) (.lit 0)),false),((.cmp .geq (v 10) (.tn (v 81))),false),((.cmp .eql (v 11) (.lit 4)),false)] [(⟨(.dyn 50),(.plus (.tn (v 53)) (.times (.tn (v 10)) (.lit 3)))⟩,ss 1),(⟨(.dyn 50),(.plus (.tn (.plus (.tn (v 53)) (.times (.tn (v 10)) (.lit 3)))) (.lit 1))⟩,.slice (some ⟨(.dyn 70),(v 73)⟩) (v 71) (v 72)),(⟨(.dyn 50),(.plus (.tn (.plus (.tn (v 53)) (.times (.tn (v 10)) (.lit 3)))) (.lit 2))⟩,i64 (v 4)),(⟨(.dyn 80),(.plus (.tn (v 83)) (.times (.tn (v 10)) (.lit 2)))⟩,i8 (v 11)),(⟨(.dyn 80),(.plus (.tn (.plus (.tn (v 83)) (.times (.tn (v 10)) (.lit 2)))) (.lit 1))⟩,i64 (v 12))] [] 29 [ftE,ftL,102,101,100] [4,6,7,9,10,64] [.inRegion (opsOf (q26 [1,1,1,1,0,0])) [1],.code (q26 [1,1,1,1,0,1]),.code (q26 [1,1,1,1,1])] [ptr0 100,ptr0 101,ptr0 102,ptr0 ftL,ptr0 ftE,.agg [ss 1,.slice (some ⟨(.dyn 70),(v 73)⟩) (v 71) (v 72),i64 (v 4)]] [(ftE,.cells [i8 (v 11),i64 (v 12)] 30),(ftL,.cells [ss 1,.slice (some ⟨(.dyn 70),(v 73)⟩) (v 71) (v 72),i64 (v 4)] 51),(102,.cells [.slice (some ⟨(.dyn 80),(v 83)⟩) (v 81) (v 82)] 33),(101,.cells [i64 (v 21),i64 (v 22),i64 (v 23),i64 (v 24)] 27),(100,.cells [.slice (some ⟨(.dyn 50),(v 53)⟩) (v 51) (v 52),.opq 9] 25)]:=Pc.full (fun st=>by kernel_rfl) (by kernel_rfl) (by kernel_rfl) (by kernel_rfl) (of_decide_eq_true (by kernel_rfl))
theorem ft2:OpC 107 (opsOf (q26 [1,1,1,1,0,0])) 1 [(64,.opq 64)] 22 [.opq 64] 65:=⟨fun st=>by kernel_rfl,fun st=>by kernel_rfl,fun st=>by kernel_rfl,by kernel_rfl,by decide,rfl⟩
theorem ft3:Pc 26 107 [.code (q26 [])] ([(0,.agg [.slice (some ⟨(.dyn 50),(v 53)⟩) (v 51) (v 52),.opq 9]),(1,i64 (v 10)),(2,.agg [i64 (v 21),i64 (v 22),i64 (v 23),i64 (v 24)]),(3,.slice (some ⟨(.dyn 80),(v 83)⟩) (v 81) (v 82))]++zs 4 103) [((.cmp .lss (v 10) (.tn (v 51))),true),((.cmp .leq (.lit 0) (v 10)),true),((.cmp .lss (v 10) (.lit 0)),false),((.cmp .geq (v 10) (.tn (v 51))),false),((.cmp .lss (v 10) (.tn (v 81))),true),((.cmp .leq (.lit 0) (v 10)),true),((.cmp .lss (v 10) (.lit 0)),false),((.cmp .geq (v 10) (.tn (v 81))),false),((.cmp .eql (v 11) (.lit 4)),true),((.cmp .eql (v 12) (v 10)),false)] [(⟨(.dyn 50),(.plus (.tn (v 53)) (.times (.tn (v 10)) (.lit 3)))⟩,ss 1),(⟨(.dyn 50),(.plus (.tn (.plus (.tn (v 53)) (.times (.tn (v 10)) (.lit 3)))) (.lit 1))⟩,.slice (some ⟨(.dyn 70),(v 73)⟩) (v 71) (v 72)),(⟨(.dyn 50),(.plus (.tn (.plus (.tn (v 53)) (.times (.tn (v 10)) (.lit 3)))) (.lit 2))⟩,i64 (v 4)),(⟨(.dyn 80),(.plus (.tn (v 83)) (.times (.tn (v 10)) (.lit 2)))⟩,i8 (v 11)),(⟨(.dyn 80),(.plus (.tn (.plus (.tn (v 83)) (.times (.tn (v 10)) (.lit 2)))) (.lit 1))⟩,i64 (v 12))] [] 29 [ftE,ftL,102,101,100] [4,6,7,9,10,64] [.inRegion (opsOf (q26 [1,1,1,1,0,0])) [1],.code (q26 [1,1,1,1,0,1]),.code (q26 [1,1,1,1,1])] [ptr0 100,ptr0 101,ptr0 102,ptr0 ftL,ptr0 ftE,.agg [ss 1,.slice (some ⟨(.dyn 70),(v 73)⟩) (v 71) (v 72),i64 (v 4)]] [(ftE,.cells [i8 (v 11),i64 (v 12)] 30),(ftL,.cells [ss 1,.slice (some ⟨(.dyn 70),(v 73)⟩) (v 71) (v 72),i64 (v 4)] 51),(102,.cells [.slice (some ⟨(.dyn 80),(v 83)⟩) (v 81) (v 82)] 33),(101,.cells [i64 (v 21),i64 (v 22),i64 (v 23),i64 (v 24)] 27),(100,.cells [.slice (some ⟨(.dyn 50),(v 53)⟩) (v 51) (v 52),.opq 9] 25)]:=Pc.full (fun st=>by kernel_rfl) (by kernel_rfl) (by kernel_rfl) (by kernel_rfl) (of_decide_eq_true (by kernel_rfl))
theorem ft4:Pc 26 107 [.code (q26 [])] ([(0,.agg [.slice (some ⟨(.dyn 50),(v 53)⟩) (v 51) (v 52),.opq 9]),(1,i64 (v 10)),(2,.agg [i64 (v 21),i64 (v 22),i64 (v 23),i64 (v 24)]),(3,.slice (some ⟨(.dyn 80),(v 83)⟩) (v 81) (v 82))]++zs 4 103) [((.cmp .lss (v 10) (.tn (v 51))),true),((.cmp .leq (.lit 0) (v 10)),true),((.cmp .lss (v 10) (.lit 0)),false),((.cmp .geq (v 10) (.tn (v 51))),false),((.cmp .lss (v 10) (.tn (v 81))),true),((.cmp .leq (.lit 0) (v 10)),true),((.cmp .lss (v 10) (.lit 0)),false),((.cmp .geq (v 10) (.tn (v 81))),false),((.cmp .eql (v 11) (.lit 4)),true),((.cmp .eql (v 12) (v 10)),true)] [(⟨(.dyn 50),(.plus (.tn (v 53)) (.times (.tn (v 10)) (.lit 3)))⟩,ss 1),(⟨(.dyn 50),(.plus (.tn (.plus (.tn (v 53)) (.times (.tn (v 10)) (.lit 3)))) (.lit 1))⟩,.slice (some ⟨(.dyn 70),(v 73)⟩) (v 71) (v 72)),(⟨(.dyn 50),(.plus (.tn (.plus (.tn (v 53)) (.times (.tn (v 10)) (.lit 3)))) (.lit 2))⟩,i64 (v 4)),(⟨(.dyn 80),(.plus (.tn (v 83)) (.times (.tn (v 10)) (.lit 2)))⟩,i8 (v 11)),(⟨(.dyn 80),(.plus (.tn (.plus (.tn (v 83)) (.times (.tn (v 10)) (.lit 2)))) (.lit 1))⟩,i64 (v 12))] [] 38 [] [1,4,7,11,12,32,33,34] [.code (q26 [1,1,1,0,1,0,1,0,1,0,0]),.inLoop (q26 [1,1,1,0,1,0,1,0,1,0,0]),.inBlock 0,.code (q26 [1,1,1,0,1,0,1,1]),.code (q26 [1,1,1,1])] [i64 (v 10),ptr0 100,ptr0 102,ptr0 ftO,i64 (.lit 0),.slice (some ⟨(.dyn 50),(v 53)⟩) (v 51) (v 52),i64 (.tn (v 51)),i64 (.lit 0)] []:=Pc.full (fun st=>by kernel_rfl) (by kernel_rfl) (by kernel_rfl) (by kernel_rfl) (of_decide_eq_true (by kernel_rfl))
theorem ft5:Pc 26 107 [.code (q26 [1,1,1,0,1,0,1,0,1,0,0]),.inLoop (q26 [1,1,1,0,1,0,1,0,1,0,0]),.inBlock 0,.code (q26 [1,1,1,0,1,0,1,1]),.code (q26 [1,1,1,1])] ([(1,i64 (v 10)),(4,ptr0 64),(7,ptr0 65),(11,ptr0 66),(12,i64 (.lit 0)),(32,.slice (some ⟨(.dyn 50),(v 53)⟩) (v 51) (v 52)),(33,i64 (.tn (v 51))),(34,i64 (v 15))]) [((.cmp .lss (v 15) (.tn (v 51))),true),((.cmp .leq (.lit 0) (v 15)),true),((.cmp .lss (v 15) (.lit 0)),false),((.cmp .geq (v 15) (.tn (v 51))),false),((.cmp .lss (.lit 0) (.tn (v 71))),true),((.cmp .eql (v 1) (.lit 18)),false)] [(⟨(.dyn 50),(.plus (.tn (v 53)) (.times (.tn (v 15)) (.lit 3)))⟩,ss 1),(⟨(.dyn 50),(.plus (.tn (.plus (.tn (v 53)) (.times (.tn (v 15)) (.lit 3)))) (.lit 1))⟩,.slice (some ⟨(.dyn 70),(v 73)⟩) (v 71) (v 72)),(⟨(.dyn 50),(.plus (.tn (.plus (.tn (v 53)) (.times (.tn (v 15)) (.lit 3)))) (.lit 2))⟩,i64 (v 4)),(⟨(.dyn 70),(v 73)⟩,i8 (v 1))] [] 28 [] [1,4,7,11,12,32,33,34] [.code (q26 [1,1,1,0,1,0,1,0,1,0,0]),.inLoop (q26 [1,1,1,0,1,0,1,0,1,0,0]),.inBlock 0,.code (q26 [1,1,1,0,1,0,1,1]),.code (q26 [1,1,1,1])] [i64 (v 10),ptr0 64,ptr0 65,ptr0 66,i64 (.lit 0),.slice (some ⟨(.dyn 50),(v 53)⟩) (v 51) (v 52),i64 (.tn (v 51)),i64 (.op .add .i64 (v 15) (.lit 1))] []:=⟨fun st=>by kernel_rfl,fun st=>by kernel_rfl,by kernel_rfl,of_decide_eq_true (by kernel_rfl)⟩
theorem ft6:Pc 26 107 [.code (q26 [1,1,1,0,1,0,1,0,1,0,0]),.inLoop (q26 [1,1,1,0,1,0,1,0,1,0,0]),.inBlock 0,.code (q26 [1,1,1,0,1,0,1,1]),.code (q26 [1,1,1,1])] ([(1,i64 (v 10)),(4,ptr0 64),(7,ptr0 65),(11,ptr0 66),(12,i64 (.lit 0)),(32,.slice (some ⟨(.dyn 50),(v 53)⟩) (v 51) (v 52)),(33,i64 (.tn (v 51))),(34,i64 (v 15))]) [((.cmp .lss (v 15) (.tn (v 51))),false)] [] [] 13 [] [8] [.code .ret,.code (q26 [1,1,1,1])] [FB] []:=⟨fun st=>by kernel_rfl,fun st=>by kernel_rfl,by kernel_rfl,of_decide_eq_true (by kernel_rfl)⟩
theorem ft7:Pc 26 107 [.inRegion (opsOf (q26 [1,1,1,1,0,0])) [],.code (q26 [1,1,1,1,0,1]),.code (q26 [1,1,1,1,1])] ([(4,ptr0 64),(6,ptr0 65),(7,ptr0 66),(9,ptr0 67),(10,ptr0 68),(65,i8 (v 1))]) [((.cmp .eql (v 1) (.lit 17)),false),((.cmp .eql (v 1) (.lit 18)),false)] [(⟨(.dyn 67),(.lit 0)⟩,ss 1),(⟨(.dyn 67),(.lit 1)⟩,.slice (some ⟨(.dyn 70),(v 73)⟩) (v 71) (v 72)),(⟨(.dyn 67),(.lit 2)⟩,i64 (v 4)),(⟨(.dyn 66),(.lit 0)⟩,.slice (some ⟨(.dyn 80),(v 83)⟩) (v 81) (v 82)),(⟨(.dyn 65),(.lit 0)⟩,i64 (v 21)),(⟨(.dyn 65),(.lit 1)⟩,i64 (v 22)),(⟨(.dyn 65),(.lit 2)⟩,i64 (v 23)),(⟨(.dyn 65),(.lit 3)⟩,i64 (v 24))] [] 27 [100] [10,16] [.code (q26 [1,1,1,1,1,1,0]),.code .ret] [ptr0 68,ptr0 100] [(100,.cells [.slice (some ⟨(.dyn 70),(v 73)⟩) (v 71) (v 72),.slice (some ⟨(.dyn 80),(v 83)⟩) (v 81) (v 82),i64 (v 21),i64 (v 22),i64 (v 23),i64 (v 24)] 61)]:=⟨fun st=>by kernel_rfl,fun st=>by kernel_rfl,by kernel_rfl,of_decide_eq_true (by kernel_rfl)⟩
theorem ftA0:OpV 107 (opsOf (q26 [1,1,1,1,1,1,0])) 0 [] [] [(16,.opq 16)] (.opq 16) 102:=⟨fun st=>by kernel_rfl,fun st=>by kernel_rfl,fun st=>by kernel_rfl,by kernel_rfl,rfl⟩
theorem ftA3:OpV 107 (opsOf (q26 [1,1,1,1,1,1,0])) 3 [] [(⟨(.dyn 68),(.lit 0)⟩,i8 (v 11)),(⟨(.dyn 68),(.lit 1)⟩,i64 (v 12))] [(10,ptr0 68)] (.agg [i8 (v 11),i64 (v 12)]) 105:=⟨fun st=>by kernel_rfl,fun st=>by kernel_rfl,fun st=>by kernel_rfl,by kernel_rfl,rfl⟩
theorem ftA4n:OpV 107 (opsOf (q26 [1,1,1,1,1,1,0])) 4 [((.cmp .eql (v 13) (v 11)),false)] [] [(104,.agg [i8 (v 13),i64 (v 14)]),(105,.agg [i8 (v 11),i64 (v 12)])] (FB) 106:=⟨fun st=>by kernel_rfl,fun st=>by kernel_rfl,fun st=>by kernel_rfl,by kernel_rfl,rfl⟩
theorem ftA4m:OpV 107 (opsOf (q26 [1,1,1,1,1,1,0])) 4 [((.cmp .eql (v 13) (v 11)),true),((.cmp .eql (v 14) (v 12)),false)] [] [(104,.agg [i8 (v 13),i64 (v 14)]),(105,.agg [i8 (v 11),i64 (v 12)])] (FB) 106:=⟨fun st=>by kernel_rfl,fun st=>by kernel_rfl,fun st=>by kernel_rfl,by kernel_rfl,rfl⟩
theorem ftA4y:OpV 107 (opsOf (q26 [1,1,1,1,1,1,0])) 4 [((.cmp .eql (v 13) (v 11)),true),((.cmp .eql (v 14) (v 12)),true)] [] [(104,.agg [i8 (v 13),i64 (v 14)]),(105,.agg [i8 (v 11),i64 (v 12)])] (TB) 106:=⟨fun st=>by kernel_rfl,fun st=>by kernel_rfl,fun st=>by kernel_rfl,by kernel_rfl,rfl⟩
theorem ftA5:OpV 107 (opsOf (q26 [1,1,1,1,1,1,0])) 5 [] [] [(106,.opq 7)] (.opq 7) 8:=⟨fun st=>by kernel_rfl,fun st=>by kernel_rfl,fun st=>by kernel_rfl,by kernel_rfl,rfl⟩
theorem ft8:OpC 107 (opsOf (q26 [1,1,1,1,1,1,0])) 1 [(102,.opq 102)] 23 [.opq 102,i64 (.lit 0)] 103:=⟨fun st=>by kernel_rfl,fun st=>by kernel_rfl,fun st=>by kernel_rfl,by kernel_rfl,by decide,rfl⟩
theorem ftEnd:Pc 26 107 [.inRegion (opsOf (q26 [1,1,1,1,1,1,0])) [],.code .ret] ([(8,.opq 8)]) [] [] [] 1 [] [8] [.code .ret] [.opq 8] []:=⟨fun st=>by kernel_rfl,fun st=>by kernel_rfl,by kernel_rfl,of_decide_eq_true (by kernel_rfl)⟩
theorem ft9a:OpC 107 (opsOf (q26 [1,1,1,1,1,1,0])) 2 [(103,.iface 79 (.opq 103))] 91 [.opq 103] 104:=⟨fun st=>by kernel_rfl,fun st=>by kernel_rfl,fun st=>by kernel_rfl,by kernel_rfl,by decide,rfl⟩
theorem ft9b:OpC 107 (opsOf (q26 [1,1,1,1,1,1,0])) 2 [(103,.iface 82 (.opq 103))] 92 [.opq 103] 104:=⟨fun st=>by kernel_rfl,fun st=>by kernel_rfl,fun st=>by kernel_rfl,by kernel_rfl,by decide,rfl⟩
end Go.Proofs.Ytmobbajggkjpgaa

/-
  GraphOne: whatever the flow, the maker, the number and the end: of a flow without race and cancel just the ends of Plain fit: the law answers true; the arguments read as they did. Conditions: none.. Conditions: none.
-/
import Derived.Test.YtmobbajggkjpgaaGI
import GoSem.Step
import Derived.Orders
import Derived.Conc.Own5
import Derived.Laws.Sem
import Derived.Conc.Events
import Derived.Laws.StructEq
import Derived.Laws.Append
import Derived.IntWalk
import Derived.Conc.Own4
import Derived.AtR
import Derived.Calls
import Derived.Test.YtmobbajggkjpgaaRows
import Derived.ChangeSame
import Derived.ChangeVars
import Derived.JoinedOf
import Derived.RowKit
import Derived.RowKitTokens
import Derived.LaidLaws
import Derived.LaidHandle
import Derived.Stop.Joined
import Derived.Conc.Token
import Derived.Conc.TokenWalk
import Derived.Conc.Beside
import Derived.ProofKit
import Derived.SizedLaws
import Derived.ChangeSlices
import Derived.Deep.Slices
import Derived.WideKeyArgs
import Derived.Carry
set_option linter.unusedSectionVars false
set_option maxRecDepth 100000
set_option linter.unusedVariables false
set_option linter.unusedSimpArgs false
namespace Go.Proofs.Ytmobbajggkjpgaa
open Go.Proofs.Ytmobbajggkjpgaa.SX Go.Conc
noncomputable abbrev d17:Array Oper:=opsOf (q3 [1,1,1,1,1,1,1,1,0,1,0,0])
noncomputable abbrev GOut:List Item:=[.inRegion d17 [0,1],.code .ret,.code (q3 [1,1,1,1,1,1,1,1,1])]
theorem go1'(y:Bool):Pc 3 135 GHead ([(2,i64 (v 30)),(4,ptr0 64),(5,ptr0 65),(7,ptr0 66),(9,slZ y 80 83 81 82),(13,i64 (v 10))]) [((.cmp .lss (v 10) (lnZ y 81)),false),((.cmp .lss (v 30) (.lit 0)),true)] [] [] 16 [] [] GOut [] []:=⟨fun st=>by cases y<;>kernel_rfl,fun st=>by cases y<;>kernel_rfl,by cases y<;>kernel_rfl,of_decide_eq_true (by kernel_rfl)⟩
theorem go2'(y:Bool):Pc 3 135 GHead ([(2,i64 (v 30)),(4,ptr0 64),(5,ptr0 65),(7,ptr0 66),(9,slZ y 80 83 81 82),(13,i64 (v 10))]) [((.cmp .lss (v 10) (lnZ y 81)),false),((.cmp .lss (v 30) (.lit 0)),false),((.cmp .geq (v 30) (lnZ y 81)),true)] [] [] 16 [] [] GOut [] []:=⟨fun st=>by cases y<;>kernel_rfl,fun st=>by cases y<;>kernel_rfl,by cases y<;>kernel_rfl,of_decide_eq_true (by kernel_rfl)⟩
theorem gv:OpC 135 d17 0 [] 6 [] 110:=⟨fun st=>by kernel_rfl,fun st=>by kernel_rfl,fun st=>by kernel_rfl,by kernel_rfl,by decide,rfl⟩
theorem gw:Pc 3 135 [.inRegion d17 [1],.code .ret,.code (q3 [1,1,1,1,1,1,1,1,1])] ([(110,.opq 19)]) [] [] [] 2 [] [8] [.code .ret,.code (q3 [1,1,1,1,1,1,1,1,1])] [.opq 19] []:=⟨fun st=>by kernel_rfl,fun st=>by kernel_rfl,by kernel_rfl,of_decide_eq_true (by kernel_rfl)⟩
noncomputable abbrev d20:Array Oper:=opsOf (q3 [1,1,1,1,1,1,1,1,1,1,0])
theorem gRB:Pc 3 135 [.inRegion d20 [0,1,2,3,4],.code (q3 [1,1,1,1,1,1,1,1,1,1,1])] ([(2,i64 (v 30)),(4,ptr0 64),(5,ptr0 65),(7,ptr0 66),(16,.slice (some ⟨(.dyn 68),(.lit 0)⟩) (v 81) (v 82))]) [((.cmp .lss (v 30) (.tn (v 81))),true),((.cmp .leq (.lit 0) (v 30)),true),((.cmp .lss (v 30) (.lit 0)),false),((.cmp .geq (v 30) (.tn (v 81))),false)] [(⟨(.dyn 66),(.lit 0)⟩,i8 (v 31)),(⟨(.dyn 66),(.lit 1)⟩,i64 (v 32))] [] 4 [] [2,4,5,7,16,115,116] [.inRegion d20 [4],.code (q3 [1,1,1,1,1,1,1,1,1,1,1])] [i64 (v 30),ptr0 64,ptr0 65,ptr0 66,.slice (some ⟨(.dyn 68),(.lit 0)⟩) (v 81) (v 82),.agg [i8 (v 31),i64 (v 32)],.ptr (some ⟨.dyn 68,.times (.tn (v 30)) (.lit 2)⟩)] []:=⟨fun st=>by kernel_rfl,fun st=>by kernel_rfl,by kernel_rfl,of_decide_eq_true (by kernel_rfl)⟩
section
variable {w:World}{cs:List Frame}{fr:Frame}{m:MakerD}
theorem one_out(hf:FA 3 135 GOut [] .normal [] fr):Goes (G fr cs) w fun g' w'=>∃fr',g'=G fr' cs∧Fresh w w'∧Leav 3 fr' w' (.bool true):=by
 refine(gv.go (mkE [] [] []) (Q:=fun v w'=>v=.bool true) hf rfl fun w' f1=>lives_all).trans fun g1 w1 hd=>?_
 obtain⟨fr1,vv,rfl,f1,rfl,F1⟩:=hd
 refine(gw.go (mkE [] [] [(19,.bool true)]) F1 rfl trivial trivial).trans fun g2 w2 hd2=>?_
 obtain⟨I,B,fr2,rfl,f2,F2,_⟩:=hd2
 refine(leave1 ret3 F2 rfl).mono fun g6 w6 hd6=>?_
 obtain⟨fr6,rfl,rfl,hL⟩:=hd6
 exact⟨fr6,rfl,f1.trans f2,hL⟩
theorem any_set{E:List (Int×Int)}{N:Nat}{e:Int×Int}(h:E.any badE=false)(he:badE e=false):(E.set N e).any badE=false:=by
 rw[List.any_eq_false]at h⊢
 intro x hx
 rcases List.mem_or_eq_of_mem_set hx with h1|rfl
 ·exact h x h1
 ·rw[he];exact fun h=>by cases h
theorem one_set{X Y Z N:Nat}{ls os s:Value}{e:Int×Int}{F:FlowD}{E:List (Int×Int)}(hX:(Blk.obj 25 [ls,os]).at Try.prog w X)(hY:(Blk.obj 27 [iV m.mul,iV m.add,iV m.fails,iV m.panics]).at Try.prog w Y)(hZ:(Blk.obj 30 [i8V e.1,iV e.2]).at Try.prog w Z)(hF:FlowIn w (.agg #[ls,os]) F)(hE:EndsAt w s E)(h0:(chkF F).1=0)(hw:∀(i:Nat) (x:LetD),F.lets[i]?=some x->wildLet x=false)(hEp:E=plainEnds m F.lets [])(hok:E.any badE=false)(hlen:F.lets.length≤1000000)(htr:∀x∈F.lets,x.tree.length≤999999)(hol:F.outs.length≤4294967296)(hN:N<E.length)(hne:E[N]?≠some e)(hk:badE e=false)
 (hf:FA 3 135 (.inRegion (opsOf (q3 [1,1,1,1,1,1,1,1,1,0])) [1,2]::[.code (q3 [1,1,1,1,1,1,1,1,1,1])]) [] .normal [(2,iV N),(4,ptrV X),(5,ptrV Y),(7,ptrV Z),(111,s)] fr):
  Goes (G fr cs) w fun g' w'=>∃fr',g'=G fr' cs∧Fresh w w'∧Leav 3 fr' w' (.bool true):=by
 have hlE:E.length=F.lets.length:=by rw[hEp];exact plain_at.1
 refine(gq.go (mkE [] [] [(111,s)]) (Q:=fun v w'=>∃wk,Fresh w wk∧EndsNew w' wk.heap.size v E) hf rfl fun w' f1=>(copyEnds_all (hE.keep f1) (by omega)).mono fun v w2 hd=>⟨hd.1,w',f1,hd.2⟩).trans fun g1 w1 hd=>?_
 obtain⟨fr1,vv,rfl,f1,⟨wk,fk,hv⟩,F1⟩:=hd
 rcases hv with⟨_,h⟩|⟨hEn,B,c,rfl,hB,hvec⟩
 ·rw[h]at hN
  simp at hN
 obtain⟨ρ,hρ⟩:∃ρ:Env,ρ=mkE [(30,(N:Int)),(81,E.length),(82,c),(31,e.1),(32,e.2)] [(64,X),(65,Y),(66,Z),(68,B)] []:=⟨_,rfl⟩
 refine(grA.go ρ F1 (by rw[hρ];rfl) trivial trivial).trans fun g2 w2 hd2=>?_
 obtain⟨I,B2,fr2,rfl,f2,F2,_⟩:=hd2
 rw[hρ]at F2
 have f02:=f1.trans f2
 refine(gRB.go ρ F2 (by rw[hρ];rfl) (ltB_ok (i:=30) (n:=81) (I:=N) (N:=E.length) (by rw[hρ];rfl) (by rw[hρ];rfl) hN) ⟨by rw[hρ];exact f02.cell (blk_cell hZ (i:=0) rfl),by rw[hρ];exact f02.cell (blk_cell hZ (i:=1) rfl),trivial⟩).trans fun g3 w3 hd3=>?_
 obtain⟨I,B3,fr3,rfl,f3,F3,_⟩:=hd3
 have F3':FA 3 135 (.inRegion d20 [4]::[.code (q3 [1,1,1,1,1,1,1,1,1,1,1])]) [] .normal [(2,iV N),(4,ptrV X),(5,ptrV Y),(7,ptrV Z),(16,slV B 0 E.length c),(115,endV e),(116,.pointer (some ⟨B,N*2,none⟩))] fr3:=by
  rw[hρ]at F3
  exact F3
 refine(op_storeEnd grC F3' rfl rfl (blk_keep hvec (f2.trans f3)) hN).trans fun g4 w4 hd4=>?_
 obtain⟨fr4,rfl,⟨kp,hv4⟩,F4⟩:=hd4
 have f03:Fresh w w3:=f02.trans f3
 have f04:Fresh w w4:=fresh_keeps f03 (kp.mono fun b hb=>by
  have:=fk.size
  subst hb
  omega)
 refine(grD.go (mkE [(30,(N:Int))] [(64,X),(65,Y),(66,Z)] [(16,slV B 0 E.length c)]) F4 rfl trivial trivial).trans fun g5 w5 hd5=>?_
 obtain⟨I,B5,fr5,rfl,f5,F5,_⟩:=hd5
 have f05:=f04.trans f5
 have hE5:EndsAt w5 (slV B 0 E.length c) (E.set N e):=by
  have h1:EndsNew w5 0 (slV B 0 E.length c) (E.set N e):=.inr ⟨fun h=>hEn (List.length_eq_zero_iff.1 (by rw[<-List.length_set (i:=N) (a:=e),h];rfl)),B,c,by rw[List.length_set],Nat.zero_le _,blk_keep hv4 f5⟩
  exact h1.at
 refine(s21_all (m:=m) (a:=iV N) (b:=ptrV Z) (blk_keep hX f05) (blk_keep hY f05) (hF.keep f05) hE5 h0 hw (by rw[List.length_set];exact hlE) (any_set hok hk) hlen htr hol F5).trans fun g6 w6 hd6=>?_
 obtain⟨fr6,rfl,f6,F6⟩:=hd6
 have hfit:fitsL m (E.set N e) F.lets 0=(30,(N:Int)):=by
  rw[hEp]at hne⊢
  exact fits_set (chkF_good h0) (by omega) hne
 rw[hfit]at F6
 refine(gs.go (mkE [(30,(N:Int))] [] []) F6 rfl ⟨decide_eq_true rfl,trivial⟩ trivial).trans fun g7 w7 hd7=>?_
 obtain⟨I,B7,fr7,rfl,f7,F7,_⟩:=hd7
 refine(gt.go (mkE [] [] []) (Q:=fun v w'=>v=.bool true) F7 rfl fun w' f1=>lives_all).trans fun g8 w8 hd8=>?_
 obtain⟨fr8,vv,rfl,f8,rfl,F8⟩:=hd8
 refine(gu.go (mkE [] [] []) F8 rfl trivial trivial).trans fun g9 w9 hd9=>?_
 obtain⟨I,B9,fr9,rfl,f9,F9,_⟩:=hd9
 refine(leave1 ret3 F9 rfl).mono fun ga wa hda=>?_
 obtain⟨fra,rfl,rfl,hL⟩:=hda
 exact⟨fra,rfl,f05.trans (f6.trans (f7.trans (f8.trans f9))),hL⟩
theorem one_tail{X Y Z:Nat}{ls os s:Value}{n:Int}{e:Int×Int}{F:FlowD}{E:List (Int×Int)}(hX:(Blk.obj 25 [ls,os]).at Try.prog w X)(hY:(Blk.obj 27 [iV m.mul,iV m.add,iV m.fails,iV m.panics]).at Try.prog w Y)(hZ:(Blk.obj 30 [i8V e.1,iV e.2]).at Try.prog w Z)(hF:FlowIn w (.agg #[ls,os]) F)(hE:EndsAt w s E)(h0:(chkF F).1=0)(hw:∀(i:Nat) (x:LetD),F.lets[i]?=some x->wildLet x=false)(hEp:E=plainEnds m F.lets [])(hok:E.any badE=false)(hlen:F.lets.length≤1000000)(htr:∀x∈F.lets,x.tree.length≤999999)(hol:F.outs.length≤4294967296)
 (hf:FA 3 135 GHead [] .normal [(2,iV n),(4,ptrV X),(5,ptrV Y),(7,ptrV Z),(9,s),(13,iV E.length)] fr):
  Goes (G fr cs) w fun g' w'=>∃fr',g'=G fr' cs∧Fresh w w'∧Leav 3 fr' w' (.bool true):=by
 obtain⟨z,A,o,c,hs,hz,hzc,hel⟩:=hE.ex
 have out:∀{w1:World} {fr1:Frame},Fresh w w1->FA 3 135 GOut [] .normal [] fr1->Goes (G fr1 cs) w1 fun g' w'=>∃fr',g'=G fr' cs∧Fresh w w'∧Leav 3 fr' w' (.bool true):=fun f1 F1=>(one_out F1).mono fun g2 w2 hd2=>by
  obtain⟨fr2,h1,h2,h3⟩:=hd2
  exact⟨fr2,h1,f1.trans h2,h3⟩
 by_cases hn0:n<0
 ·obtain⟨ρ,hρ⟩:∃ρ:Env,ρ=mkE [(30,n),(10,E.length),(81,E.length),(82,c),(83,o)] [(64,X),(65,Y),(66,Z),(80,A)] []:=⟨_,rfl⟩
  have ez:(slZ z 80 83 81 82).ev ρ=s:=by rw[hρ,hs];cases z<;>rfl
  refine((go1' z).go ρ hf (by
   show[some _,some _,some _,some _,some _,some _]=[some _,some _,some _,some _,some ((slZ z 80 83 81 82).ev ρ),some _]
   rw[ez,hρ];rfl) ⟨by
    rw[hρ]
    cases z with
    |false=>exact decide_eq_false (by show ¬((E.length:Int)<((E.length:Nat):Int));omega)
    |true=>exact decide_eq_false (by show ¬((E.length:Int)<0);omega),by rw[hρ];exact decide_eq_true hn0,trivial⟩ trivial).trans fun g1 w1 hd=>?_
  obtain⟨I,B,fr1,rfl,f1,F1,_⟩:=hd
  exact out f1 F1
 by_cases hnl:(E.length:Int)≤n
 ·obtain⟨ρ,hρ⟩:∃ρ:Env,ρ=mkE [(30,n),(10,E.length),(81,E.length),(82,c),(83,o)] [(64,X),(65,Y),(66,Z),(80,A)] []:=⟨_,rfl⟩
  have ez:(slZ z 80 83 81 82).ev ρ=s:=by rw[hρ,hs];cases z<;>rfl
  refine((go2' z).go ρ hf (by
   show[some _,some _,some _,some _,some _,some _]=[some _,some _,some _,some _,some ((slZ z 80 83 81 82).ev ρ),some _]
   rw[ez,hρ];rfl) ⟨by
    rw[hρ]
    cases z with
    |false=>exact decide_eq_false (by show ¬((E.length:Int)<((E.length:Nat):Int));omega)
    |true=>exact decide_eq_false (by show ¬((E.length:Int)<0);omega),by rw[hρ];exact decide_eq_false hn0,by
    rw[hρ]
    cases z with
    |false=>exact decide_eq_true (by show n≥((E.length:Nat):Int);omega)
    |true=>exact decide_eq_true (by show n≥0;omega),trivial⟩ trivial).trans fun g1 w1 hd=>?_
  obtain⟨I,B,fr1,rfl,f1,F1,_⟩:=hd
  exact out f1 F1
 obtain⟨N,rfl⟩:∃N:Nat,n=N:=⟨n.toNat,by omega⟩
 have hN:N<E.length:=by omega
 obtain⟨e',he'⟩:∃e',E[N]?=some e':=⟨_,List.getElem?_eq_getElem hN⟩
 cases z with
 |true=>
  rw[hz rfl]at hN
  simp at hN
 |false=>
 obtain⟨c1,c2⟩:=hel N e' he'
 obtain⟨ρ,hρ⟩:∃ρ:Env,ρ=mkE [(30,(N:Int)),(10,E.length),(81,E.length),(82,c),(83,o),(11,e'.1),(12,e'.2),(31,e.1),(32,e.2)] [(64,X),(65,Y),(66,Z),(80,A)] []:=⟨_,rfl⟩
 have hlb:=(ltB_ok (ρ:=ρ) (i:=30) (n:=81) (I:=N) (N:=E.length) (by rw[hρ];rfl) (by rw[hρ];rfl) hN)
 have hl0:(BE.cmp .lss (v 10) (.tn (v 81))).ev ρ=false:=by rw[hρ];exact decide_eq_false (by show ¬((E.length:Int)<((E.length:Nat):Int));omega)
 have ht:Tell [(2,iV N),(4,ptrV X),(5,ptrV Y),(7,ptrV Z),(9,s),(13,iV E.length)] (told ρ [(2,i64 (v 30)),(4,ptr0 64),(5,ptr0 65),(7,ptr0 66),(9,.slice (some ⟨(.dyn 80),(v 83)⟩) (v 81) (v 82)),(13,i64 (v 10))]):=by rw[hρ,hs];rfl
 have hm:AllM ρ w [(⟨(.dyn 80),(.plus (.tn (v 83)) (.times (.tn (v 30)) (.lit 2)))⟩,i8 (v 11)),(⟨(.dyn 80),(.plus (.tn (.plus (.tn (v 83)) (.times (.tn (v 30)) (.lit 2)))) (.lit 1))⟩,i64 (v 12)),(⟨(.dyn 66),(.lit 0)⟩,i8 (v 31)),(⟨(.dyn 66),(.lit 1)⟩,i64 (v 32))]:=
  ⟨by rw[hρ];exact c1,by rw[hρ];exact c2,by rw[hρ];exact blk_cell hZ (i:=0) rfl,by rw[hρ];exact blk_cell hZ (i:=1) rfl,trivial⟩
 have k1:∀{b:Bool},decide (e.1<1)=b->(BE.cmp .lss (v 31) (.lit 1)).ev ρ=b:=fun h=>by rw[hρ];exact h
 have k4:∀{b:Bool},decide (e.1>4)=b->(BE.cmp .gtr (v 31) (.lit 4)).ev ρ=b:=fun h=>by rw[hρ];exact h
 have q1:∀{b:Bool},decide (e.1=e'.1)=b->(BE.cmp .eql (v 31) (v 11)).ev ρ=b:=fun h=>by rw[hρ];exact h
 have q2:∀{b:Bool},decide (e.2=e'.2)=b->(BE.cmp .eql (v 32) (v 12)).ev ρ=b:=fun h=>by rw[hρ];exact h
 have set:∀{w1:World} {fr1:Frame},Fresh w w1->E[N]?≠some e->¬e.1<1->¬e.1>4->FA 3 135 (.inRegion (opsOf (q3 [1,1,1,1,1,1,1,1,1,0])) [1,2]::[.code (q3 [1,1,1,1,1,1,1,1,1,1])]) [] .normal [(2,iV N),(4,ptrV X),(5,ptrV Y),(7,ptrV Z),(111,s)] fr1->Goes (G fr1 cs) w1 fun g' w'=>∃fr',g'=G fr' cs∧Fresh w w'∧Leav 3 fr' w' (.bool true):=fun{w1 fr1} f1 hne h1 h4 F1=>
  (one_set (m:=m) (blk_keep hX f1) (blk_keep hY f1) (blk_keep hZ f1) (hF.keep f1) (hE.keep f1) h0 hw hEp hok hlen htr hol hN hne (by unfold badE;rw[decide_eq_false h1,decide_eq_false h4];rfl) F1).mono fun g2 w2 hd2=>by
   obtain⟨fr2,h1,h2,h3⟩:=hd2
   exact⟨fr2,h1,f1.trans h2,h3⟩
 by_cases h1:e.1=e'.1
 ·by_cases h2:e.2=e'.2
  ·refine(go3.go ρ hf ht ⟨hl0,hlb.1,hlb.2.1,hlb.2.2.1,hlb.2.2.2.1,q1 (decide_eq_true h1),q2 (decide_eq_true h2),trivial⟩ hm).trans fun g1 w1 hd=>?_
   obtain⟨I,B,fr1,rfl,f1,F1,_⟩:=hd
   exact out f1 F1
  have hne:E[N]?≠some e:=fun h=>by
   rw[he']at h
   obtain rfl:=Option.some.inj h
   exact h2 rfl
  by_cases h3:e.1<1
  ·refine(go6.go ρ hf ht ⟨hl0,hlb.1,hlb.2.1,hlb.2.2.1,hlb.2.2.2.1,q1 (decide_eq_true h1),q2 (decide_eq_false h2),k1 (decide_eq_true h3),trivial⟩ hm).trans fun g1 w1 hd=>?_
   obtain⟨I,B,fr1,rfl,f1,F1,_⟩:=hd
   exact out f1 F1
  by_cases h4:e.1>4
  ·refine(go7.go ρ hf ht ⟨hl0,hlb.1,hlb.2.1,hlb.2.2.1,hlb.2.2.2.1,q1 (decide_eq_true h1),q2 (decide_eq_false h2),k1 (decide_eq_false h3),k4 (decide_eq_true h4),trivial⟩ hm).trans fun g1 w1 hd=>?_
   obtain⟨I,B,fr1,rfl,f1,F1,_⟩:=hd
   exact out f1 F1
  ·refine(gp2.go ρ hf ht ⟨hl0,hlb.1,hlb.2.1,hlb.2.2.1,hlb.2.2.2.1,q1 (decide_eq_true h1),q2 (decide_eq_false h2),k1 (decide_eq_false h3),k4 (decide_eq_false h4),trivial⟩ hm).trans fun g1 w1 hd=>?_
   obtain⟨I,B,fr1,rfl,f1,F1,_⟩:=hd
   refine set f1 hne h3 h4 ?_
   rw[hρ]at F1
   rw[hs]
   exact F1
 ·have hne:E[N]?≠some e:=fun h=>by
   rw[he']at h
   obtain rfl:=Option.some.inj h
   exact h1 rfl
  by_cases h3:e.1<1
  ·refine(go4.go ρ hf ht ⟨hl0,hlb.1,hlb.2.1,hlb.2.2.1,hlb.2.2.2.1,q1 (decide_eq_false h1),k1 (decide_eq_true h3),trivial⟩ hm).trans fun g1 w1 hd=>?_
   obtain⟨I,B,fr1,rfl,f1,F1,_⟩:=hd
   exact out f1 F1
  by_cases h4:e.1>4
  ·refine(go5.go ρ hf ht ⟨hl0,hlb.1,hlb.2.1,hlb.2.2.1,hlb.2.2.2.1,q1 (decide_eq_false h1),k1 (decide_eq_false h3),k4 (decide_eq_true h4),trivial⟩ hm).trans fun g1 w1 hd=>?_
   obtain⟨I,B,fr1,rfl,f1,F1,_⟩:=hd
   exact out f1 F1
  ·refine(gp1.go ρ hf ht ⟨hl0,hlb.1,hlb.2.1,hlb.2.2.1,hlb.2.2.2.1,q1 (decide_eq_false h1),k1 (decide_eq_false h3),k4 (decide_eq_false h4),trivial⟩ hm).trans fun g1 w1 hd=>?_
   obtain⟨I,B,fr1,rfl,f1,F1,_⟩:=hd
   refine set f1 hne h3 h4 ?_
   rw[hρ]at F1
   rw[hs]
   exact F1
end
section
variable {w:World}{m:MakerD}
theorem one_all{x:Value}{n:Int}{e:Int×Int}{F:FlowD}(h:FlowIn w x F)(hlen:F.lets.length+F.outs.length≤100000000000000):Ans 3 #[x,makerV m,iV n,endV e] w fun v w'=>Fresh w w'∧v=.bool true:=by
 have h':=h
 obtain⟨ls,os,rfl,hl,ho⟩:=h
 refine ans_of fun cs=>?_
 refine(ga.go (mkE [(21,m.mul),(22,m.add),(23,m.fails),(24,m.panics),(30,n),(31,e.1),(32,e.2)] [] [(8,ls),(9,os)]) (enter4 ent3 rfl (.agg #[ls,os]) (makerV m) (iV n) (endV e)) rfl trivial trivial).trans fun g1 w1 hd=>?_
 obtain⟨I,B,fr1,rfl,f1,F1,bl,_⟩:=hd
 obtain⟨X,eX⟩:∃X,B 100=X:=⟨_,rfl⟩
 obtain⟨Y,eY⟩:∃Y,B 101=Y:=⟨_,rfl⟩
 obtain⟨Z,eZ⟩:∃Z,B 102=Z:=⟨_,rfl⟩
 have hX:(Blk.obj 25 [ls,os]).at Try.prog w1 X:=by rw[<-eX];exact bl.2.2.1.2
 have hY:(Blk.obj 27 [iV m.mul,iV m.add,iV m.fails,iV m.panics]).at Try.prog w1 Y:=by rw[<-eY];exact bl.2.1.2
 have hZ:(Blk.obj 30 [i8V e.1,iV e.2]).at Try.prog w1 Z:=by rw[<-eZ];exact bl.1.2
 have F1':FA 3 135 (.inRegion (opsOf (q3 [1,0,0])) [1]::[.code (q3 [1,0,1]),.code (q3 [1,1])]) [] .normal [(2,iV n),(4,ptrV X),(5,ptrV Y),(7,ptrV Z),(17,.agg #[ls,os])] fr1:=by rw[<-eX,<-eY,<-eZ];exact F1
 have fin:∀{w2:World} {fr2:Frame},Fresh w w2->(∃fr',G fr2 cs=G fr' cs∧Leav 3 fr' w2 (.bool true))->∃fr' v,G fr2 cs=G fr' cs∧Leav 3 fr' w2 v∧Fresh w w2∧v=.bool true:=fun f h=>by
  obtain⟨fr',h1,h2⟩:=h
  exact⟨fr',_,h1,h2,f,rfl⟩
 refine(gb.go (mkE [] [] [(17,.agg #[ls,os])]) (Q:=fun v w'=>∃b,v=.bool b∧(b=false->F.lets.length≤256∧F.outs.length≤2147483647∧∀x∈F.lets,x.tree.length≤1024)) F1' rfl fun w' f2=>wide_all (h'.keep (f1.trans f2)) hlen).trans fun g2 w2 hd2=>?_
 obtain⟨fr2,vv,rfl,f2,⟨b,rfl,hb⟩,F2⟩:=hd2
 have f02:=f1.trans f2
 cases b with
 |true=>
  refine(gc.go (mkE [] [] []) F2 rfl trivial trivial).trans fun g3 w3 hd3=>?_
  obtain⟨I,B3,fr3,rfl,f3,F3,_⟩:=hd3
  refine(gd.go (mkE [] [] []) (Q:=fun v w'=>v=.bool true) F3 rfl fun w' f1=>lives_all).trans fun g4 w4 hd4=>?_
  obtain⟨fr4,vv,rfl,f4,rfl,F4⟩:=hd4
  refine(ge.go (mkE [] [] [(19,.bool true)]) F4 rfl trivial trivial).trans fun g5 w5 hd5=>?_
  obtain⟨I,B5,fr5,rfl,f5,F5,_⟩:=hd5
  refine(leave1 ret3 F5 rfl).mono fun ga wa hda=>?_
  obtain⟨fra,rfl,rfl,hL⟩:=hda
  exact⟨fra,_,rfl,hL,f02.trans (f3.trans (f4.trans f5)),rfl⟩
 |false=>
  obtain⟨h256,hout,htree⟩:=hb rfl
  have hlen':F.lets.length≤1000000:=by omega
  have htr:∀x∈F.lets,x.tree.length≤999999:=fun x hx=>by
   have:=htree x hx
   omega
  refine(gf.go (mkE [(30,n)] [(64,X),(65,Y),(66,Z)] []) F2 rfl trivial trivial).trans fun g3 w3 hd3=>?_
  obtain⟨I,B3,fr3,rfl,f3,F3,_⟩:=hd3
  have f13:=f2.trans f3
  refine(s3_all (m:=m) (a:=iV n) (b:=ptrV Z) (blk_keep hX f13) (blk_keep hY f13) (h'.keep (f1.trans f13)) hlen' htr (by omega) F3).trans fun g4 w4 hd4=>?_
  obtain⟨fr4,s,rfl,f4,⟨hE,hEn⟩,F4⟩:=hd4
  have f14:=f13.trans f4
  by_cases h0:(plainF F m).1=0
  ·have hp:(chkF F).1=0∧F.lets.any wildLet=false∧plainF F m=(0,plainEnds m F.lets []):=by
    unfold plainF at h0⊢
    by_cases c1:(chkF F).1=0
    ·rw[if_neg (fun h=>h c1)]at h0⊢
     by_cases c2:F.lets.any wildLet=true
     ·rw[if_pos c2]at h0;cases h0
     ·rw[if_neg c2]
      exact⟨c1,by simpa using c2,rfl⟩
    ·rw[if_pos c1]at h0
     exact(c1 h0).elim
   obtain⟨hc0,hwild,hpe⟩:=hp
   have hw:∀(i:Nat) (x:LetD),F.lets[i]?=some x->wildLet x=false:=fun i x hi=>by
    rw[List.any_eq_false]at hwild
    have:=hwild x (List.mem_of_getElem? hi)
    simpa using this
   rw[hpe]at hE F4
   obtain⟨E,hEp⟩:∃E,E=plainEnds m F.lets []:=⟨_,rfl⟩
   have hE:EndsAt w4 s E:=by rw[hEp];exact hE
   have hlE:E.length=F.lets.length:=by rw[hEp];exact plain_at.1
   have hok:E.any badE=false:=by
    rw[List.any_eq_false]
    intro e' he'
    obtain⟨i,hi⟩:=List.getElem?_of_mem he'
    rw[hEp]at hi
    have:=plain_ok (chkF_good hc0) i e' hi
    unfold okV at this
    unfold badE
    rw[decide_eq_false (by omega),decide_eq_false (by omega)]
    decide
   obtain⟨z,A,o,c,hls,hz,hzc,_⟩:=hl.ex
   obtain⟨y,A',o',c',hs,hy,hyc,_⟩:=hE.ex
   obtain⟨ρ,hρ⟩:∃ρ:Env,ρ=mkE [(30,n),(5,0),(51,F.lets.length),(52,c),(53,o),(81,E.length),(82,c'),(83,o')] [(64,X),(65,Y),(66,Z),(50,A),(80,A')] []:=⟨_,rfl⟩
   have ez:(slZ z 50 53 51 52).ev ρ=ls:=by rw[hρ,hls];cases z<;>rfl
   have ey:(slZ y 80 83 81 82).ev ρ=s:=by rw[hρ,hs];cases y<;>rfl
   have nz:(lnZ z 51).ev ρ=(F.lets.length:Int):=by
    rw[hρ]
    cases z with
    |false=>rfl
    |true=>rw[hz rfl];rfl
   have ny:(lnZ y 81).ev ρ=(E.length:Int):=by
    rw[hρ]
    cases y with
    |false=>rfl
    |true=>rw[hy rfl];rfl
   refine((gj z y).go ρ F4 (by
    show[some _,some _,some _,some _,some _,some _]=[some _,some _,some _,some _,some ((slZ y 80 83 81 82).ev ρ),some _]
    rw[ey,hρ];rfl) ⟨by rw[hρ];rfl,by
     show(!decide ((lnZ y 81).ev ρ=(lnZ z 51).ev ρ))=false
     rw[ny,nz,decide_eq_true (by omega)]
     rfl,trivial⟩ ⟨by rw[ez,hρ];exact blk_cell (blk_keep hX f14) (i:=0) rfl,trivial⟩).trans fun g5 w5 hd5=>?_
   obtain⟨I,B5,fr5,rfl,f5,F5,_⟩:=hd5
   have f15:=f14.trans f5
   have F5':FA 3 135 (.code (q3 [1,1,1,1,1,0])::[.code (q3 [1,1,1,1,1,1])]) [] .normal [(2,iV n),(4,ptrV X),(5,ptrV Y),(7,ptrV Z),(9,s)] fr5:=by
    have h1:FA 3 135 (.code (q3 [1,1,1,1,1,0])::[.code (q3 [1,1,1,1,1,1])]) [] .normal [(2,iV n),(4,ptrV X),(5,ptrV Y),(7,ptrV Z),(9,(slZ y 80 83 81 82).ev (mixE ρ I B5))] fr5:=by
     rw[hρ]at F5⊢
     exact F5
    have e2:(slZ y 80 83 81 82).ev (mixE ρ I B5)=s:=by rw[hρ,hs];cases y<;>rfl
    rwa[e2]at h1
   refine(s8_all (m:=m) (a:=iV n) (b:=ptrV Z) (blk_keep hX f15) (blk_keep hY f15) (h'.keep (f1.trans f15)) (hE.keep f5) hc0 hw hlE hok hlen' htr (by omega) F5').trans fun g6 w6 hd6=>?_
   obtain⟨fr6,rfl,f6,F6⟩:=hd6
   have hfit:fitsL m E F.lets 0=(0,0):=by
    rw[hEp]
    exact fits_plain (chkF_good hc0)
   rw[hfit]at F6
   refine(gk.go (mkE [(30,n)] [(64,X),(65,Y),(66,Z)] [(9,s)]) F6 rfl trivial trivial).trans fun g7 w7 hd7=>?_
   obtain⟨I,B7,fr7,rfl,f7,F7,_⟩:=hd7
   have f57:=f5.trans (f6.trans f7)
   have f17:=f14.trans f57
   refine(ge_loop (m:=m) (w0:=w7) (blk_keep hX f17) (blk_keep hY f17) (h'.keep (f1.trans f17)) (hE.keep f57) hc0 hw hlE (fun i x t hx ht=>by
    rw[hEp]
    exact plain_ev hx ht fun j hj=>by rw[List.getElem?_take,if_pos hj]) hok hlen' htr (by omega) E.length 0 (by omega) (Fresh.refl _) F7).trans fun g8 w8 hd8=>?_
   obtain⟨fr8,rfl,f8,F8⟩:=hd8
   have f18:=f17.trans f8
   refine(one_tail (m:=m) (blk_keep hX f18) (blk_keep hY f18) (blk_keep hZ f18) (h'.keep (f1.trans f18)) (hE.keep (f57.trans f8)) hc0 hw hEp hok hlen' htr (by omega) F8).mono fun g9 w9 hd9=>?_
   obtain⟨fr9,rfl,f9,hL⟩:=hd9
   exact⟨fr9,_,rfl,hL,f1.trans (f18.trans f9),rfl⟩
  ·have hnil:s=nilV:=hEn (by
    unfold plainF at h0⊢
    by_cases c1:(chkF F).1=0
    ·rw[if_neg (fun h=>h c1)]at h0⊢
     by_cases c2:F.lets.any wildLet=true
     ·rw[if_pos c2]
     ·rw[if_neg c2]at h0;exact(h0 rfl).elim
    ·rw[if_pos c1])
   subst hnil
   refine(gg.go (mkE [(5,(plainF F m).1)] [] []) F4 rfl ⟨by show(!decide ((plainF F m).1=0))=true;rw[decide_eq_false h0];rfl,trivial⟩ trivial).trans fun g5 w5 hd5=>?_
   obtain⟨I,B5,fr5,rfl,f5,F5,_⟩:=hd5
   refine(gh.go (mkE [] [] []) (Q:=fun v w'=>v=.bool true) F5 rfl fun w' f1=>lives_all).trans fun g6 w6 hd6=>?_
   obtain⟨fr6,vv,rfl,f6,rfl,F6⟩:=hd6
   refine(gi.go (mkE [] [] []) F6 rfl trivial trivial).trans fun g7 w7 hd7=>?_
   obtain⟨I,B7,fr7,rfl,f7,F7,_⟩:=hd7
   refine(leave1 ret3 F7 rfl).mono fun ga wa hda=>?_
   obtain⟨fra,rfl,rfl,hL⟩:=hda
   exact⟨fra,_,rfl,hL,f1.trans (f14.trans (f5.trans (f6.trans f7))),rfl⟩
end
end Go.Proofs.Ytmobbajggkjpgaa
namespace Go.Proofs.Ytmobbajggkjpgaa
open Go.ChangeShapes Go.WideShapes Go.ChangeAt Go.RowKit Go.Proofs.Ytmobbajggkjpgaa.SX
theorem kept{W W':World}{may:MemPlace->Prop}(h:Keeps (fun n=>W.heap.size≤n) W W'):W.keptBut W' may:=by
 refine⟨h.os,h.output,fun i hi=>?_⟩
 have e:=h.heap i (Nat.not_le.2 hi)
 rw[e]
 split
 ·rename_i e1 e2
  cases e1.symm.trans e2
  exact⟨rfl,rfl,rfl,fun _ _=>rfl⟩
 ·rename_i e1 e2
  cases e1.symm.trans e2
  exact .inr ⟨rfl,rfl⟩
 ·rfl
theorem Try.cells2:Try.prog.cellsOf 2=1:=by kernel_rfl
theorem Try.cells3:Try.prog.cellsOf 3=1:=by kernel_rfl
theorem Try.cells9:Try.prog.cellsOf 9=1:=by kernel_rfl
theorem Try.cells22:Try.prog.cellsOf 22=1:=by kernel_rfl
theorem Try.cells23:Try.prog.cellsOf 23=1:=by kernel_rfl
theorem Try.cells25:Try.prog.cellsOf 25=2:=by kernel_rfl
theorem Try.cells27:Try.prog.cellsOf 27=4:=by kernel_rfl
theorem Try.cells28:Try.prog.cellsOf 28=1:=by kernel_rfl
theorem Try.cells30:Try.prog.cellsOf 30=2:=by kernel_rfl
theorem Try.cells49:Try.prog.cellsOf 49=1:=by kernel_rfl
theorem Try.cells51:Try.prog.cellsOf 51=3:=by kernel_rfl
theorem Try.cells75:Try.prog.cellsOf 75=4:=by kernel_rfl
theorem Try.bytes51:Try.prog.bytesOf 51=48:=by kernel_rfl
theorem Try.bytes3:Try.prog.bytesOf 3=8:=by kernel_rfl
theorem Try.types25:Try.prog.cellTypes Try.prog.depth 25=some [22,23]:=by kernel_rfl
section
variable {H:Type}{enc:TypeId×Value->H}{W:World}
theorem two{l:List Value}(h:l.length=2):∃a b,l=[a,b]:=by
 match l,h with
 |[a,b],_=>exact⟨a,b,rfl⟩
theorem three{l:List Value}(h:l.length=3):∃a b c,l=[a,b,c]:=by
 match l,h with
 |[a,b,c],_=>exact⟨a,b,c,rfl⟩
theorem four{l:List Value}(h:l.length=4):∃a b c d,l=[a,b,c,d]:=by
 match l,h with
 |[a,b,c,d],_=>exact⟨a,b,c,d,rfl⟩
theorem weigh_step{l r:List Nat}{n:Nat}(h:∀x∈l++r,x≤n):(∀x∈l,x≤n)∧∀x∈r,x≤n:=
 ⟨fun x hx=>h x (List.mem_append_left _ hx),fun x hx=>h x (List.mem_append_right _ hx)⟩
theorem open_node{n:Nat}{cs:List Value}{x:DataW H×List MemPlace}(h:DataW.trod enc Try.prog W 0 (fun _=>true) true n 75 cs=some x):
  ∃r:Nd,cs=[i8V r.op,iV r.n,iV r.kids,iV r.at']:=by
 obtain⟨xs,k,_,_,hl,hlen,hf⟩:=DataW.trod_struct Try.underlying75 h
 rw[Try.cells75]at hl
 obtain⟨a,b,c,d,rfl⟩:=four hl
 have hl4:xs.length=4:=hlen
 have g0:DataW.trod enc Try.prog W 0 (fun _=>true) true k 28 [a]=some (xs[0]'(by omega)):=by
  have:=hf 0 _ rfl
  rw[List.getElem?_eq_getElem (by omega)]at this
  simpa[Try.cells28] using this
 have g1:DataW.trod enc Try.prog W 0 (fun _=>true) true k 2 [b]=some (xs[1]'(by omega)):=by
  have:=hf 1 _ rfl
  rw[List.getElem?_eq_getElem (by omega)]at this
  simpa[Try.cells2] using this
 have g2:DataW.trod enc Try.prog W 0 (fun _=>true) true k 3 [c]=some (xs[2]'(by omega)):=by
  have:=hf 2 _ rfl
  rw[List.getElem?_eq_getElem (by omega)]at this
  simpa[Try.cells3] using this
 have g3:DataW.trod enc Try.prog W 0 (fun _=>true) true k 3 [d]=some (xs[3]'(by omega)):=by
  have:=hf 3 _ rfl
  rw[List.getElem?_eq_getElem (by omega)]at this
  simpa[Try.cells3] using this
 obtain⟨n0,e0,_⟩:=DataW.trod_int Try.underlying28 g0
 obtain⟨n1,e1,_⟩:=DataW.trod_int Try.underlying2 g1
 obtain⟨n2,e2,_⟩:=DataW.trod_int Try.underlying3 g2
 obtain⟨n3,e3,_⟩:=DataW.trod_int Try.underlying3 g3
 cases e0
 cases e1
 cases e2
 cases e3
 exact⟨⟨n0,n1,n2,n3⟩,rfl⟩
instance:Inhabited Nd:=⟨⟨0,0,0,0⟩⟩
theorem open_nodes{n:Nat}{v:Value}{x:DataW H×List MemPlace}(h:DataW.trod enc Try.prog W 0 (fun _=>true) true n 49 [v]=some x):∃l:List Nd,NodesIn W v l:=by
 rcases Go.Deep.open_slice Try.underlying49 h with⟨hc,hx⟩|⟨a,len,cap,m,k,D,Pl,hc,_,hl,hm,hmm,hx,hel⟩
 ·cases hc
  exact⟨[],⟨.inl ⟨.inl ⟨rfl,rfl⟩⟩⟩⟩
 ·cases hc
  cases hx
  simp only[if_true]at hmm
  subst hmm
  by_cases h0:len=0
  ·subst h0
   exact⟨[],⟨.inr ⟨rfl,some a,m,rfl⟩⟩⟩
  ·have hsp:a.spot=none:=by
    obtain⟨cs',h1,_⟩:=hel 0 (by omega)
    obtain⟨_,_,h3⟩:=World.cells?_some h1
    have h4:=h3 0 (by rw[Try.cells75];decide)
    obtain⟨_,hlen,_⟩:=World.cells?_some h1
    rw[List.getElem?_eq_getElem (by rw[hlen,Try.cells75];decide)]at h4
    simpa[Addr.add] using World.cell?_spot h4
   obtain⟨b,o,spot⟩:=a
   dsimp only at hsp
   subst hsp
   obtain⟨R,hR⟩:=Go.Deep.choose_lt (n:=len) (p:=fun i (r:Nd)=>NdAt W b (o+i*4) r) fun i hi=>by
    obtain⟨cs',h1,h2⟩:=hel i (by omega)
    obtain⟨r,rfl⟩:=open_node h2
    obtain⟨_,_,h3⟩:=World.cells?_some h1
    rw[Try.cells75]at h3
    have at':∀j v,j<4->[i8V r.op,iV r.n,iV r.kids,iV r.at'][j]?=some v->W.cell? ⟨b,o+i*4+j,none⟩=some v:=fun j v hj hv=>by
     have h4:=(h3 j hj).trans hv
     rwa[add_plain,add_plain]at h4
    exact⟨r,at' 0 _ (by decide) rfl,at' 1 _ (by decide) rfl,at' 2 _ (by decide) rfl,at' 3 _ (by decide) rfl⟩
   refine⟨(List.range len).map R,⟨.inl ⟨.inr ⟨b,o,m,?_,?_,fun k r hr=>?_⟩⟩⟩⟩
   ·rw[List.length_map,List.length_range];rfl
   ·rw[List.length_map,List.length_range];exact hl
   ·rw[List.getElem?_map]at hr
    by_cases hk:k<len
    ·rw[List.getElem?_range hk]at hr
     cases hr
     exact hR k hk
    ·rw[List.getElem?_eq_none (by rw[List.length_range];omega)]at hr
     cases hr
theorem open_let{n:Nat}{cs:List Value}{x:DataW H×List MemPlace}(h:DataW.trod enc Try.prog W 0 (fun _=>true) true n 51 cs=some x):
  ∃(r:LetD) (ts:Value),cs=[.string r.name,ts,iV r.at']∧NodesIn W ts r.tree:=by
 obtain⟨xs,k,_,_,hl,hlen,hf⟩:=DataW.trod_struct Try.underlying51 h
 rw[Try.cells51]at hl
 obtain⟨a,b,c,rfl⟩:=three hl
 have hl4:xs.length=3:=hlen
 have g0:DataW.trod enc Try.prog W 0 (fun _=>true) true k 9 [a]=some (xs[0]'(by omega)):=by
  have:=hf 0 _ rfl
  rw[List.getElem?_eq_getElem (by omega)]at this
  simpa[Try.cells9] using this
 have g1:DataW.trod enc Try.prog W 0 (fun _=>true) true k 49 [b]=some (xs[1]'(by omega)):=by
  have:=hf 1 _ rfl
  rw[List.getElem?_eq_getElem (by omega)]at this
  simpa[Try.cells49] using this
 have g2:DataW.trod enc Try.prog W 0 (fun _=>true) true k 3 [c]=some (xs[2]'(by omega)):=by
  have:=hf 2 _ rfl
  rw[List.getElem?_eq_getElem (by omega)]at this
  simpa[Try.cells3] using this
 obtain⟨s,e0,_⟩:=DataW.trod_string Try.underlying9 g0
 obtain⟨l,hN⟩:=open_nodes g1
 obtain⟨n2,e2,_⟩:=DataW.trod_int Try.underlying3 g2
 cases e0
 cases e2
 exact⟨⟨s,l,n2⟩,b,rfl,hN⟩
instance:Inhabited LetD:=⟨⟨⟨#[]⟩,[],0⟩⟩
theorem open_lets{n:Nat}{v:Value}{d:DataW H}{ps:List MemPlace}(h:DataW.trod enc Try.prog W 0 (fun _=>true) true n 22 [v]=some (d,ps))(hw:∀x∈d.weights Try.prog 22,x≤reachBytes)(hv:∀a len cap,v=.slice (some a) len cap->a.spot=none):
  ∃L:List LetD,LetsIn W v L∧L.length*48≤reachBytes:=by
 rcases Go.Deep.open_slice Try.underlying22 h with⟨hc,hx⟩|⟨a,len,cap,m,k,D,Pl,hc,_,hl,hm,hmm,hx,hel⟩
 ·cases hc
  exact⟨[],⟨true,0,0,0,rfl,fun _=>rfl,(fun h=>by cases h),fun k r hr=>by cases hr⟩,by simp⟩
 ·cases hc
  cases hx
  simp only[if_true]at hmm
  subst hmm
  obtain⟨b,o,spot⟩:=a
  obtain rfl:spot=none:=hv _ _ _ rfl
  have hw1:=hw ((((List.range len).map D).length+((List.range (m-len)).map fun j=>D (len+j)).length)*Try.prog.bytesOf 51) (by
   rw[DataW.weights,Try.underlying22]
   exact List.mem_cons_self)
  obtain⟨R,hR⟩:=Go.Deep.choose_lt (n:=len) (p:=fun i (r:LetD)=>LetIn W b (o+i*3) r) fun i hi=>by
   obtain⟨cs',h1,h2⟩:=hel i (by omega)
   obtain⟨r,ts,rfl,hN⟩:=open_let h2
   obtain⟨_,_,h3⟩:=World.cells?_some h1
   rw[Try.cells51]at h3
   have at':∀j v,j<3->[.string r.name,ts,iV r.at'][j]?=some v->W.cell? ⟨b,o+i*3+j,none⟩=some v:=fun j v hj hv=>by
    have h4:=(h3 j hj).trans hv
    rwa[add_plain,add_plain]at h4
   exact⟨r,ts,at' 0 _ (by decide) rfl,at' 1 _ (by decide) rfl,at' 2 _ (by decide) rfl,hN⟩
  refine⟨(List.range len).map R,⟨false,b,o,m,?_,(fun e=>by cases e),fun _=>?_,fun k r hr=>?_⟩,?_⟩
  ·rw[List.length_map,List.length_range];rfl
  ·rw[List.length_map,List.length_range];exact hl
  ·rw[List.getElem?_map]at hr
   by_cases hk:k<len
   ·rw[List.getElem?_range hk]at hr
    cases hr
    exact hR k hk
   ·rw[List.getElem?_eq_none (by rw[List.length_range];omega)]at hr
    cases hr
  ·rw[List.length_map,List.length_range]at*
   rw[Try.bytes51]at hw1
   omega
theorem open_outs{n:Nat}{v:Value}{d:DataW H}{ps:List MemPlace}(h:DataW.trod enc Try.prog W 0 (fun _=>true) true n 23 [v]=some (d,ps))(hw:∀x∈d.weights Try.prog 23,x≤reachBytes)(hv:∀a len cap,v=.slice (some a) len cap->a.spot=none):
  ∃l:List Int,IntsAt W v l∧l.length*8≤reachBytes:=by
 rcases Go.Deep.open_slice1 Try.underlying23 Try.cells3 h with⟨hc,hx⟩|⟨a,len,cap,m,k,V,D,Pl,hc,_,hl,hm,hmm,hx,hel⟩
 ·cases hc
  exact⟨[],⟨true,0,0,0,rfl,fun _=>rfl,(fun h=>by cases h),fun k r hr=>by cases hr⟩,by simp⟩
 ·cases hc
  cases hx
  simp only[if_true]at hmm
  subst hmm
  obtain⟨b,o,spot⟩:=a
  obtain rfl:spot=none:=hv _ _ _ rfl
  have hw1:=hw ((((List.range len).map D).length+((List.range (m-len)).map fun j=>D (len+j)).length)*Try.prog.bytesOf 3) (by
   rw[DataW.weights,Try.underlying23]
   exact List.mem_cons_self)
  obtain⟨R,hR⟩:=Go.Deep.choose_lt (n:=len) (p:=fun i (n:Int)=>W.cell? ⟨b,o+i,none⟩=some (iV n)) fun i hi=>by
   obtain⟨h1,h2⟩:=hel i (by omega)
   obtain⟨n,e,_,hw⟩:=DataW.trod_int Try.underlying3 h2
   rw[add_plain,(List.cons.inj e).1]at h1
   exact⟨n,h1⟩
  refine⟨(List.range len).map R,⟨false,b,o,m,?_,(fun e=>by cases e),fun _=>?_,fun k r hr=>?_⟩,?_⟩
  ·rw[List.length_map,List.length_range];rfl
  ·rw[List.length_map,List.length_range];exact hl
  ·rw[List.getElem?_map]at hr
   by_cases hk:k<len
   ·rw[List.getElem?_range hk]at hr
    cases hr
    exact hR k hk
   ·rw[List.getElem?_eq_none (by rw[List.length_range];omega)]at hr
    cases hr
  ·rw[List.length_map,List.length_range]at*
   rw[Try.bytes3]at hw1
   omega
theorem open_flow{v:Value}{d:DataW H}{ps:List MemPlace}{base:Nat}(h:DataW.Trod enc Try.prog W 0 (fun _=>true) true 25 v d ps)(hok:Value.okWide Try.prog W .any base 25 v)(hw:∀x∈d.weights Try.prog 25,x≤reachBytes):
  ∃F:FlowD,FlowIn W v F∧F.lets.length+F.outs.length≤100000000000000:=by
 obtain⟨fuel,hf⟩:=h
 obtain⟨cs,rfl,hsz,hrow⟩:∃cs,v=.agg cs∧cs.size=Try.prog.cellsOf 25∧Row.okWide Try.prog W .any base 25 cs:=by
  unfold Value.okWide at hok
  simp only[Try.underlying25]at hok
  exact hok
 have hf':DataW.trod enc Try.prog W 0 (fun _=>true) true fuel 25 cs.toList=some (d,ps):=hf
 obtain⟨xs,n,_,hx,hl,hlen,hfd⟩:=DataW.trod_struct Try.underlying25 hf'
 rw[Try.cells25]at hl
 obtain⟨a,b,hcs⟩:=two hl
 obtain rfl:cs=#[a,b]:=by
  rw[<-Array.toList_inj]
  exact hcs
 cases hx
 match xs,hlen with
 |[x0,x1],_=>
  have g0:DataW.trod enc Try.prog W 0 (fun _=>true) true n 22 [a]=some x0:=by
   have:=hfd 0 _ rfl
   simpa[Try.cells22] using this
  have g1:DataW.trod enc Try.prog W 0 (fun _=>true) true n 23 [b]=some x1:=by
   have:=hfd 1 _ rfl
   simpa[Try.cells23] using this
  have hw':∀x∈x0.1.weights Try.prog 22++(x1.1.weights Try.prog 23++[]),x≤reachBytes:=fun x hx=>hw x (by
   rw[DataW.weights,Try.underlying25]
   exact hx)
  obtain⟨w0,w1⟩:=weigh_step hw'
  obtain⟨w1,_⟩:=weigh_step w1
  have spot:∀i v u,#[a,b][i]?=some v->[22,23][i % 2]?=some u->(∃z,Try.prog.underlying u=some (.slice z))->∀a' len cap,v=.slice (some a') len cap->a'.spot=none:=fun i v u hi hu ⟨z,hz⟩ a' len cap hv=>by
   obtain⟨ts,h1,_,h3⟩:=hrow
   obtain rfl:=Option.some.inj (Try.types25.symm.trans h1)
   obtain⟨u',hu',hok⟩:=h3 i v hi
   have:u'=u:=by
    have h1:[22,23][i % 2]?=some u':=hu'
    rw[h1]at hu
    exact Option.some.inj hu
   subst this hv
   simp only[Cell.okWide,Cell.ok,hz]at hok
   exact hok.2.2.2.1
  obtain⟨L,hL,hL1⟩:=open_lets (d:=x0.1) (ps:=x0.2) g0 w0 (spot 0 a 22 rfl rfl ⟨_,Try.underlying22⟩)
  obtain⟨O,hO,hO1⟩:=open_outs (d:=x1.1) (ps:=x1.2) g1 w1 (spot 1 b 23 rfl rfl ⟨_,Try.underlying23⟩)
  refine⟨⟨L,O⟩,⟨a,b,rfl,hL,hO⟩,?_⟩
  have:reachBytes=140737488351232:=rfl
  show L.length+O.length≤_
  omega
theorem open_maker{v:Value}{d:DataW H}{ps:List MemPlace}{base:Nat}(h:DataW.Trod enc Try.prog W 0 (fun _=>true) true 27 v d ps)(hok:Value.okWide Try.prog W .any base 27 v):∃m:MakerD,v=makerV m:=by
 obtain⟨fuel,hf⟩:=h
 obtain⟨cs,rfl,hsz,hrow⟩:∃cs,v=.agg cs∧cs.size=Try.prog.cellsOf 27∧Row.okWide Try.prog W .any base 27 cs:=by
  unfold Value.okWide at hok
  simp only[Try.underlying27]at hok
  exact hok
 have hf':DataW.trod enc Try.prog W 0 (fun _=>true) true fuel 27 cs.toList=some (d,ps):=hf
 obtain⟨xs,n,_,hx,hl,hlen,hfd⟩:=DataW.trod_struct Try.underlying27 hf'
 rw[Try.cells27]at hl
 obtain⟨a,b,c,e,hcs⟩:=four hl
 obtain rfl:cs=#[a,b,c,e]:=by
  rw[<-Array.toList_inj]
  exact hcs
 have hl4:xs.length=4:=hlen
 have g:∀(i:Nat) (hi:i<4) (z:Value),[a,b,c,e][i]?=some z->∃n:Int,z=iV n:=fun i hi z hz=>by
  have hz2:DataW.trod enc Try.prog W 0 (fun _=>true) true n 2 [z]=some (xs[i]'(by omega)):=by
   rcases(by omega:i=0∨i=1∨i=2∨i=3)with rfl|rfl|rfl|rfl
   all_goals
    first
     |have:=hfd 0 _ rfl;rw[List.getElem?_eq_getElem (by omega)]at this;cases hz;simpa[Try.cells2] using this;done
     |have:=hfd 1 _ rfl;rw[List.getElem?_eq_getElem (by omega)]at this;cases hz;simpa[Try.cells2] using this;done
     |have:=hfd 2 _ rfl;rw[List.getElem?_eq_getElem (by omega)]at this;cases hz;simpa[Try.cells2] using this;done
     |have:=hfd 3 _ rfl;rw[List.getElem?_eq_getElem (by omega)]at this;cases hz;simpa[Try.cells2] using this;done
  obtain⟨n0,e0,_⟩:=DataW.trod_int Try.underlying2 hz2
  cases e0
  exact⟨n0,rfl⟩
 obtain⟨n0,rfl⟩:=g 0 (by decide) a rfl
 obtain⟨n1,rfl⟩:=g 1 (by decide) b rfl
 obtain⟨n2,rfl⟩:=g 2 (by decide) c rfl
 obtain⟨n3,rfl⟩:=g 3 (by decide) e rfl
 exact⟨⟨n0,n1,n2,n3⟩,rfl⟩
theorem open_end{v:Value}{d:DataW H}{ps:List MemPlace}{base:Nat}(h:DataW.Trod enc Try.prog W 0 (fun _=>true) true 30 v d ps)(hok:Value.okWide Try.prog W .any base 30 v):∃e:Int×Int,v=endV e:=by
 obtain⟨fuel,hf⟩:=h
 obtain⟨cs,rfl,hsz,hrow⟩:∃cs,v=.agg cs∧cs.size=Try.prog.cellsOf 30∧Row.okWide Try.prog W .any base 30 cs:=by
  unfold Value.okWide at hok
  simp only[Try.underlying30]at hok
  exact hok
 have hf':DataW.trod enc Try.prog W 0 (fun _=>true) true fuel 30 cs.toList=some (d,ps):=hf
 obtain⟨xs,n,_,hx,hl,hlen,hfd⟩:=DataW.trod_struct Try.underlying30 hf'
 rw[Try.cells30]at hl
 obtain⟨a,b,hcs⟩:=two hl
 obtain rfl:cs=#[a,b]:=by
  rw[<-Array.toList_inj]
  exact hcs
 have hl2:xs.length=2:=hlen
 have g0:DataW.trod enc Try.prog W 0 (fun _=>true) true n 28 [a]=some (xs[0]'(by omega)):=by
  have:=hfd 0 _ rfl
  rw[List.getElem?_eq_getElem (by omega)]at this
  simpa[Try.cells28] using this
 have g1:DataW.trod enc Try.prog W 0 (fun _=>true) true n 2 [b]=some (xs[1]'(by omega)):=by
  have:=hfd 1 _ rfl
  rw[List.getElem?_eq_getElem (by omega)]at this
  simpa[Try.cells2] using this
 obtain⟨n0,e0,_⟩:=DataW.trod_int Try.underlying28 g0
 obtain⟨n1,e1,_⟩:=DataW.trod_int Try.underlying2 g1
 cases e0
 cases e1
 exact⟨(n0,n1),rfl⟩
end
theorem laidOut:laidOutB Try.prog=true:=by kernel_rfl
theorem graphOne_lifted(os:Os)(started:os.Started)(H:Type)(enc:TypeId×Value->H):
  ReturnsInHanded {} Try.checked os 3 .any (Rows.graphOneSpec.pre6 enc Try.prog Try.f3 Rows.graphOneRow.domain false) (Rows.graphOneSpec.post enc Try.prog Try.f3 false true false false):=by
 refine returnsInHanded_of_change_sized (C:=Try.checked) Try.own started (by kernel_rfl) Try.func3
  (ChangeSpec.witness6 (enc:=enc) (C:=Try.checked) false ⟨#[],#[.agg #[.slice none 0 0,.slice none 0 0],.agg #[.int .i64 0,.int .i64 0,.int .i64 0,.int .i64 0],.int .i64 0,.agg #[.int .i8 0,.int .i64 0]],[]⟩ 8 (by kernel_rfl) (by kernel_rfl) (by kernel_rfl) (by kernel_rfl)) ?_
 intro W base args ds gs before hval0 hW _ hwt _
 have hval:∀(j:Nat) t v,Try.f3.params[j]?=some t->args[j]?=some v->Value.okWide Try.prog W .any base t v:=hval0
 have hW':=hW
 obtain⟨p,q,hA0,hV,rfl,_,_⟩:=hW
 have hA:DataW.TrodAll enc Try.prog W 0 (fun _=>true) true Try.f3.params.toList args.toList ds p:=hA0
 rw[Try.params3]at hA hval
 obtain⟨v0,v1,v2,v3,d0,d1,d2,d3,p0,p1,p2,p3,rfl,rfl,rfl,h0,h1,h2,h3⟩:=trodAll_four hA
 obtain⟨rfl,rfl⟩:=trodVars_none hV
 have hwt':∀x∈d0.weights Try.prog 25,x≤reachBytes:=fun x hx=>by
  have h1:=List.all_eq_true.1 hwt x (by
   show x∈DataW.weightsEach Try.prog (Try.f3.params.toList++_) _
   rw[Try.params3]
   exact List.mem_append_left _ hx)
  exact of_decide_eq_true h1
 obtain⟨F,hF,hlen⟩:=open_flow h0 (hval 0 25 v0 rfl rfl) hwt'
 obtain⟨m,rfl⟩:=open_maker h1 (hval 1 27 v1 rfl rfl)
 obtain⟨n,rfl,rfl,rfl,wn⟩:=open_int Try.underlying3 (hval 2 3 v2 rfl rfl) h2
 obtain⟨e,rfl⟩:=open_end h3 (hval 3 30 v3 rfl rfl)
 have hC:Calls Try.prog 3 #[v0,makerV m,iV n,endV e] W fun e W'=>∃v,e=.returned v∧Fresh W W'∧v=.bool true:=one_all hF hlen
 refine hC.mono fun e' W' ⟨v,he,hw,hv⟩=>?_
 subst he
 subst hv
 have hlt:∀x∈(p0++p1++[]++p3)++[],x.block<W.heap.size:=fun x hx=>hW'.lt x (by simpa using hx)
 have stay:∀x:MemPlace,x.block<W.heap.size->(match x with|.cell b o=>W'.cell? ⟨b,o,none⟩=W.cell? ⟨b,o,none⟩|.map b=>W'.heap[b]?=W.heap[b]?):=fun x hb=>by
  have e:=hw.heap _ (Nat.not_le.2 hb)
  cases x with
  |cell b o=>
   show W'.cell? _=W.cell? _
   simp only[World.cell?]
   rw[show W'.heap[b]?=W.heap[b]? from e]
  |map b=>exact e
 have t0:=WideElems.Trod_stays (sp':=fun b=>decide (b<W.heap.size)) laidOut (by kernel_rfl) (of_decide_eq_true (by kernel_rfl)) h0 (W':=W') (fun x hx=>by
  have hb:=hlt x (by simp[hx])
  have e:=hw.heap _ (Nat.not_le.2 hb)
  cases x with
  |cell b o=>
   show W'.cell? _=W.cell? _
   simp only[World.cell?]
   rw[show W'.heap[b]?=W.heap[b]? from e]
  |map b=>exact e) (fun x hx=>decide_eq_true (hlt x (by simp[hx])))
 have t1:=WideElems.Trod_stays (sp':=fun b=>decide (b<W.heap.size)) laidOut (by kernel_rfl) (of_decide_eq_true (by kernel_rfl)) h1 (W':=W') (fun x hx=>by
  have hb:=hlt x (by simp[hx])
  have e:=hw.heap _ (Nat.not_le.2 hb)
  cases x with
  |cell b o=>
   show W'.cell? _=W.cell? _
   simp only[World.cell?]
   rw[show W'.heap[b]?=W.heap[b]? from e]
  |map b=>exact e) (fun x hx=>decide_eq_true (hlt x (by simp[hx])))
 have t3:=WideElems.Trod_stays (sp':=fun b=>decide (b<W.heap.size)) laidOut (by kernel_rfl) (of_decide_eq_true (by kernel_rfl)) h3 (W':=W') (fun x hx=>by
  have hb:=hlt x (by simp[hx])
  have e:=hw.heap _ (Nat.not_le.2 hb)
  cases x with
  |cell b o=>
   show W'.cell? _=W.cell? _
   simp only[World.cell?]
   rw[show W'.heap[b]?=W.heap[b]? from e]
  |map b=>exact e) (fun x hx=>decide_eq_true (hlt x (by simp[hx])))
 exact⟨_,rfl,_,_,_,[],_,[],hW',trodAll_mk1 (shut_bool Try.underlying4 true),trodAll_mk4 t0 t1 (shut_int Try.underlying3 wn) t3,rfl,kept hw,fun h=>by cases h⟩
theorem graphOne_holds:Rows.GraphOneSaid:=
 OpenClaim.holds_of_wide 3 Try.f3 rfl rfl rfl rfl rfl rfl rfl ⟨rfl,rfl,rfl,rfl,rfl⟩ rfl rfl rfl rfl rfl (by kernel_rfl) Try.func3 (by kernel_rfl)
  (of_decide_eq_true (by kernel_rfl)) (by unfold Func.isWrapper;first|(rw[if_pos (by decide+kernel)];kernel_rfl)|(rw[if_neg (by decide+kernel)];exact⟨rfl,rfl⟩))
  (fun os started H enc _=>graphOne_lifted os started H enc)
end Go.Proofs.Ytmobbajggkjpgaa

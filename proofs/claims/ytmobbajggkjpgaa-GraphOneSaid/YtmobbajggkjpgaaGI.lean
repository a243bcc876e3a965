/-
  A symbolic run of the model, proved sound, and the walk of the code: a text of its parts. Conditions: none.
-/
import Derived.Test.YtmobbajggkjpgaaGH
set_option linter.unusedSectionVars false
set_option maxRecDepth 100000
set_option linter.unusedVariables false
set_option linter.unusedSimpArgs false
namespace Go.Proofs.Ytmobbajggkjpgaa
open Go.Proofs.Ytmobbajggkjpgaa.SX Go.Conc
theorem FA.more{fn nt:Nat}{t:List Item}{ds:List Deferred}{kind:CallKind}{lv:List (Nat×Value)}{fr:Frame}(hf:FA fn nt t ds kind lv fr):∃f:Nat->Value,∀ks:List Nat,FA fn nt t ds kind (lv++ks.map fun i=>(i,f i)) fr:=by
 obtain⟨⟨tm,rfl,h2,h3⟩,h4,h5⟩:=hf
 exact⟨fun i=>tm.getD i undef,fun ks=>⟨⟨tm,rfl,h2,fun p hp=>(List.mem_append.1 hp).elim (h3 p) fun hp=>by
  obtain⟨i,_,rfl⟩:=List.mem_map.1 hp
  rfl⟩,h4,h5⟩⟩
noncomputable abbrev SzH:List Item:=[.code (q19 [1,1,0,1,0,0]),.inLoop (q19 [1,1,0,1,0,0]),.inBlock 0,.code (q19 [1,1,1])]
noncomputable abbrev WdH:List Item:=[.code (q5 [1,1,0,1,0,0]),.inLoop (q5 [1,1,0,1,0,0]),.inBlock 0,.code (q5 [1,1,1])]
section
variable {w w0:World}{cs:List Frame}{fr:Frame}
theorem sz_loop{z:Bool}{A o c X:Nat}{os:Value}{L:List LetD}(hz:z=true->L=[])(hel:∀i x,L[i]?=some x->LetIn w0 A (o+i*3) x)(hlen:L.length≤100000000000000)(hX:(Blk.obj 25 [hdV z A o L.length c,os]).at Try.prog w0 X):
  ∀(k i:Nat) (s:Int) {w:World} {cs:List Frame} {fr:Frame},i+k=L.length->Fresh w0 w->FA 19 41 SzH [] .normal [(1,ptrV X),(3,iV s),(4,iV i)] fr->
  Goes (G fr cs) w fun g' w'=>∃fr' n,g'=G fr' cs∧Fresh w0 w'∧(s>2147483647->n=s)∧Leav 19 fr' w' (iV n)
 |0,i,s,w,cs,fr,hi,fw,hf=>by
  obtain⟨ρ,hρ⟩:∃ρ:Env,ρ=mkE [(51,L.length),(52,c),(53,o),(10,i),(7,s)] [(64,X),(50,A)] []:=⟨_,rfl⟩
  have ez:(slZ z 50 53 51 52).ev ρ=hdV z A o L.length c:=by rw[hρ];cases z<;>rfl
  refine((sz3 z).go ρ hf (by rw[hρ];rfl) ⟨by
    rw[hρ]
    cases z with
    |false=>exact decide_eq_false (by show ¬((i:Int)<((L.length:Nat):Int));omega)
    |true=>exact decide_eq_false (by show ¬((i:Int)<0);omega),trivial⟩ ⟨by
    rw[ez,hρ]
    exact fw.cell (blk_cell hX (i:=0) rfl),trivial⟩).trans fun g1 w1 hd=>?_
  obtain⟨I,B,fr1,rfl,f1,F1,_⟩:=hd
  rw[hρ]at F1
  refine(leave1 ret19 F1 rfl).mono fun g2 w2 hd2=>?_
  obtain⟨fr2,rfl,rfl,hL⟩:=hd2
  exact⟨fr2,s,rfl,fw.trans f1,fun _=>rfl,hL⟩
 |k+1,i,s,w,cs,fr,hi,fw,hf=>by
  have hlt:i<L.length:=by omega
  obtain⟨x,hx⟩:∃x,L[i]?=some x:=⟨_,List.getElem?_eq_getElem hlt⟩
  cases z with
  |true=>
   rw[hz rfl]at hlt
   simp only[List.length_nil]at hlt
   omega
  |false=>
  have hc0:w.cell? ⟨X,0,none⟩=some (slV A o L.length c):=fw.cell (blk_cell hX (i:=0) rfl)
  by_cases hs:s≤2147483647
  ·obtain⟨ts,c0,c1,c2,hN⟩:=((hel i x hx).keep fw).ex
   obtain⟨f,hmore⟩:=hf.more
   have hf2:=hmore ((List.range 41).filter fun i=>!([1,3,4].contains i))
   have key:Goes (G fr cs) w fun g' w'=>∃fr1 n1,g'=G fr1 cs∧Fresh w w'∧FA 19 41 SzH [] .normal [(1,ptrV X),(3,iV n1),(4,iV ((i+1:Nat):Int))] fr1:=by
    rcases hN.ex with hN|⟨hx0,a',c',rfl⟩
    ·obtain⟨y,At,ot,ct,rfl,hy,hyc,hyel⟩:=hN.hd
     obtain⟨ρ,hρ⟩:∃ρ:Env,ρ={(Go.Proofs.Ytmobbajggkjpgaa.SX.mkS [(51,L.length),(52,c),(53,o),(10,i),(7,s),(71,x.tree.length),(72,ct),(73,ot)] [(64,X),(50,A),(70,At)] [] [(1,x.name)]:Env)with v:=f}:=⟨_,rfl⟩
     have ey:(slZ y 70 73 71 72).ev ρ=hdV y At ot x.tree.length ct:=by rw[hρ];cases y<;>rfl
     refine((sz2 y).go ρ hf2 (by rw[hρ];unfold Tell;kernel_rfl) (AllB.app (ltB_ok (i:=10) (n:=51) (I:=i) (N:=L.length) (by rw[hρ];rfl) (by rw[hρ];rfl) hlt) ⟨by rw[hρ];exact decide_eq_true hs,trivial⟩) ⟨by rw[hρ];exact hc0,by rw[hρ];exact c0,by rw[ey,hρ];exact c1,trivial⟩).mono fun g1 w1 hd=>?_
     obtain⟨I,B,fr1,rfl,f1,F1,_⟩:=hd
     refine⟨fr1,(IE.op .add .i64 (.op .add .i64 (v 7) (.slen (.var 1))) (lnZ y 71)).ev (mixE ρ I B),rfl,f1,?_⟩
     rw[<-inc (i:=i) (by omega)]
     rw[hρ]at F1⊢
     exact F1
    ·rw[<-inc (i:=i) (by omega)]
     exact sz_weird hc0 c0 c1 hlt hs hf
   refine key.trans fun g1 w1 hd=>?_
   obtain⟨fr1,n1,rfl,f1,F1'⟩:=hd
   refine(sz_loop (z:=false) (c:=c) (os:=os) (fun h=>by cases h) hel hlen hX k (i+1) n1 (by omega) (fw.trans f1) F1').mono fun g2 w2 hd2=>?_
   obtain⟨fr2,n,h1,h2,h3,h4⟩:=hd2
   exact⟨fr2,n,h1,h2,fun h=>by omega,h4⟩
  ·obtain⟨ρ,hρ⟩:∃ρ:Env,ρ=mkE [(51,L.length),(52,c),(53,o),(10,i),(7,s)] [(64,X),(50,A)] []:=⟨_,rfl⟩
   refine(sz4.go ρ hf (by rw[hρ];rfl) ⟨by rw[hρ];exact decide_eq_true (by show(i:Int)<((L.length:Nat):Int);omega),by rw[hρ];exact decide_eq_false hs,trivial⟩ ⟨by rw[hρ];exact hc0,trivial⟩).trans fun g1 w1 hd=>?_
   obtain⟨I,B,fr1,rfl,f1,F1,_⟩:=hd
   rw[hρ]at F1
   refine(leave1 ret19 F1 rfl).mono fun g2 w2 hd2=>?_
   obtain⟨fr2,rfl,rfl,hL⟩:=hd2
   exact⟨fr2,s,rfl,fw.trans f1,fun _=>rfl,hL⟩
theorem size_all{x:Value}{F:FlowD}(h:FlowIn w x F)(hlen:F.lets.length+F.outs.length≤100000000000000):Ans 19 #[x] w fun v w'=>Fresh w w'∧∃n,v=iV n∧(n≤2147483647->F.outs.length≤2147483647):=by
 obtain⟨ls,os,rfl,hl,ho⟩:=h
 obtain⟨z,A,o,c,hls,hz,hzc,hel⟩:=hl.ex
 obtain⟨y,A',o',c',hos,hy,hyc,hyel⟩:=ho.ex
 refine ans_of fun cs=>?_
 have E:=enter1 ent19 rfl (.agg #[ls,os])
 obtain⟨ρ,hρ⟩:∃ρ:Env,ρ=mkE [(51,F.lets.length),(52,c),(53,o),(67,F.outs.length),(68,c'),(66,o')] [(50,A),(60,A')] []:=⟨_,rfl⟩
 have go:Goes (G (Frame.enter Try.prog 19 #[.agg #[ls,os]] .normal) cs) w fun g' w'=>∃fr' X,g'=G fr' cs∧Fresh w w'∧(Blk.obj 25 [hdV z A o F.lets.length c,os]).at Try.prog w' X∧FA 19 41 SzH [] .normal [(1,ptrV X),(3,iV ((F.lets.length+F.outs.length:Nat):Int)),(4,iV (0:Nat))] fr':=by
  have es:iop .add .i64 (F.lets.length:Int) (F.outs.length:Int)=((F.lets.length+F.outs.length:Nat):Int):=by
   show IntKind.wrap .i64 _=_
   rw[I64_wrap (by omega)]
   omega
  cases z with
  |false=>
   cases y with
   |false=>
    refine(sz1ff.go ρ E (by rw[hls,hos,hρ];rfl) trivial trivial).mono fun g1 w1 hd=>?_
    obtain⟨I,B,fr1,rfl,f1,F1,bl,inj⟩:=hd
    rw[hρ]at F1 bl
    refine⟨fr1,B 100,rfl,f1,by rw[hos];exact bl.1.2,?_⟩
    rw[<-es];exact F1
   |true=>
    refine(sz1ft.go ρ E (by rw[hls,hos,hρ];rfl) trivial trivial).mono fun g1 w1 hd=>?_
    obtain⟨I,B,fr1,rfl,f1,F1,bl,inj⟩:=hd
    rw[hρ]at F1 bl
    refine⟨fr1,B 100,rfl,f1,by rw[hos];exact bl.1.2,?_⟩
    rw[<-es,hy rfl];exact F1
  |true=>
   have e0:=hz rfl
   cases y with
   |false=>
    refine(sz1tf.go ρ E (by rw[hls,hos,hρ];rfl) trivial trivial).mono fun g1 w1 hd=>?_
    obtain⟨I,B,fr1,rfl,f1,F1,bl,inj⟩:=hd
    rw[hρ]at F1 bl
    refine⟨fr1,B 100,rfl,f1,by rw[hos];exact bl.1.2,?_⟩
    rw[<-es,e0];exact F1
   |true=>
    refine(sz1tt.go ρ E (by rw[hls,hos,hρ];rfl) trivial trivial).mono fun g1 w1 hd=>?_
    obtain⟨I,B,fr1,rfl,f1,F1,bl,inj⟩:=hd
    rw[hρ]at F1 bl
    refine⟨fr1,B 100,rfl,f1,by rw[hos];exact bl.1.2,?_⟩
    rw[e0,hy rfl];exact F1
 refine go.trans fun g1 w1 hd=>?_
 obtain⟨fr1,X,rfl,f1,hX,F1⟩:=hd
 refine(sz_loop (w0:=w1) (os:=os) hz (fun i x hi=>(hel i x hi).keep f1) (by omega) hX F.lets.length 0 _ (by omega) (Fresh.refl _) F1).mono fun g2 w2 hd2=>?_
 obtain⟨fr2,n,rfl,f2,hn,hL⟩:=hd2
 exact⟨fr2,_,rfl,hL,f1.trans f2,n,rfl,fun h=>by omega⟩
theorem long_all{n:Int}:Ans 18 #[iV n] w fun v w'=>Fresh w w'∧v=.bool (decide (n>2147483647)):=
 (lg1.ans ret18 (mkE [(1,n)] [] []) (enter1 ent18 rfl (iV n)) rfl trivial trivial).mono fun v w' ⟨f,I,B,e,_⟩=>⟨f,e⟩
theorem wd_loop{z:Bool}{A o c X:Nat}{os:Value}{L:List LetD}(hz:z=true->L=[])(hel:∀i x,L[i]?=some x->LetIn w0 A (o+i*3) x)(hlen:L.length≤100000000000000)(hX:(Blk.obj 25 [hdV z A o L.length c,os]).at Try.prog w0 X):
  ∀(k i:Nat) {w:World} {cs:List Frame} {fr:Frame},i+k=L.length->(∀x∈L.take i,x.tree.length≤1024)->Fresh w0 w->FA 5 28 WdH [] .normal [(1,ptrV X),(3,iV i)] fr->
  Goes (G fr cs) w fun g' w'=>∃fr' b,g'=G fr' cs∧Fresh w0 w'∧(b=false->∀x∈L,x.tree.length≤1024)∧Leav 5 fr' w' (.bool b)
 |0,i,w,cs,fr,hi,ht,fw,hf=>by
  obtain⟨ρ,hρ⟩:∃ρ:Env,ρ=mkE [(51,L.length),(52,c),(53,o),(10,i)] [(64,X),(50,A)] []:=⟨_,rfl⟩
  have ez:(slZ z 50 53 51 52).ev ρ=hdV z A o L.length c:=by rw[hρ];cases z<;>rfl
  refine((wd9 z).go ρ hf (by rw[hρ];rfl) ⟨by
    rw[hρ]
    cases z with
    |false=>exact decide_eq_false (by show ¬((i:Int)<((L.length:Nat):Int));omega)
    |true=>exact decide_eq_false (by show ¬((i:Int)<0);omega),trivial⟩ ⟨by
    rw[ez,hρ]
    exact fw.cell (blk_cell hX (i:=0) rfl),trivial⟩).trans fun g1 w1 hd=>?_
  obtain⟨I,B,fr1,rfl,f1,F1,_⟩:=hd
  rw[hρ]at F1
  refine(leave1 ret5 F1 rfl).mono fun g2 w2 hd2=>?_
  obtain⟨fr2,rfl,rfl,hL⟩:=hd2
  rw[List.take_of_length_le (by omega)]at ht
  exact⟨fr2,false,rfl,fw.trans f1,fun _=>ht,hL⟩
 |k+1,i,w,cs,fr,hi,ht,fw,hf=>by
  have hlt:i<L.length:=by omega
  obtain⟨x,hx⟩:∃x,L[i]?=some x:=⟨_,List.getElem?_eq_getElem hlt⟩
  cases z with
  |true=>
   rw[hz rfl]at hlt
   simp only[List.length_nil]at hlt
   omega
  |false=>
  have hc0:w.cell? ⟨X,0,none⟩=some (slV A o L.length c):=fw.cell (blk_cell hX (i:=0) rfl)
  obtain⟨ts,c0,c1,c2,hN⟩:=((hel i x hx).keep fw).ex
  rcases hN.ex with hN|⟨hx0,a',c',rfl⟩
  rotate_left
  ·obtain⟨ρ,hρ⟩:∃ρ:Env,ρ=mkE [(51,L.length),(52,c),(53,o),(10,i)] [(64,X),(50,A)] []:=⟨_,rfl⟩
   refine((wd7w a' c').go ρ hf (by rw[hρ];rfl) (AllB.app (ltB_ok (ρ:=ρ) (i:=10) (n:=51) (I:=i) (N:=L.length) (by rw[hρ];rfl) (by rw[hρ];rfl) hlt) ⟨rfl,trivial⟩) ⟨by rw[hρ];exact hc0,by rw[hρ];exact c1,trivial⟩).trans fun g1 w1 hd=>?_
   obtain⟨I,B,fr1,rfl,f1,F1,_⟩:=hd
   rw[hρ]at F1
   refine wd_loop (z:=false) (c:=c) (os:=os) (fun h=>by cases h) hel hlen hX k (i+1) (by omega) (fun x' hx'=>?_) (fw.trans f1) ?_
   ·rw[List.take_add_one,hx]at hx'
    rcases List.mem_append.1 hx' with h|h
    ·exact ht x' h
    ·have h:x'=x:=by simpa using h
     rw[h,hx0];exact Nat.zero_le _
   ·rw[<-inc (i:=i) (by omega)]
    exact F1
  obtain⟨y,At,ot,ct,rfl,hy,hyc,hyel⟩:=hN.hd
  obtain⟨ρ,hρ⟩:∃ρ:Env,ρ=mkE [(51,L.length),(52,c),(53,o),(10,i),(71,x.tree.length),(72,ct),(73,ot)] [(64,X),(50,A),(70,At)] []:=⟨_,rfl⟩
  have ey:(slZ y 70 73 71 72).ev ρ=hdV y At ot x.tree.length ct:=by rw[hρ];cases y<;>rfl
  have en:(lnZ y 71).ev ρ=(x.tree.length:Int):=by
   rw[hρ]
   cases y with
   |false=>rfl
   |true=>rw[hy rfl];rfl
  have bb:=ltB_ok (ρ:=ρ) (i:=10) (n:=51) (I:=i) (N:=L.length) (by rw[hρ];rfl) (by rw[hρ];rfl) hlt
  by_cases hb:x.tree.length>1024
  ·cases y with
   |true=>
    rw[hy rfl]at hb
    simp only[List.length_nil]at hb
    omega
   |false=>
   refine(wd7true.go ρ hf (by rw[hρ];rfl) (AllB.app bb ⟨by rw[hρ];exact decide_eq_true (by show((x.tree.length:Nat):Int)>1024;omega),trivial⟩) ⟨by rw[hρ];exact hc0,by rw[hρ];exact c1,trivial⟩).trans fun g1 w1 hd=>?_
   obtain⟨I,B,fr1,rfl,f1,F1,_⟩:=hd
   rw[hρ]at F1
   refine(leave1 ret5 F1 rfl).mono fun g2 w2 hd2=>?_
   obtain⟨fr2,rfl,rfl,hL⟩:=hd2
   exact⟨fr2,true,rfl,fw.trans f1,(fun h=>by cases h),hL⟩
  ·refine((wd7false y).go ρ hf (by rw[hρ];rfl) (AllB.app bb ⟨by
     show decide ((lnZ y 71).ev ρ>1024)=false
     rw[en]
     exact decide_eq_false (by omega),trivial⟩) ⟨by rw[hρ];exact hc0,by rw[ey,hρ];exact c1,trivial⟩).trans fun g1 w1 hd=>?_
   obtain⟨I,B,fr1,rfl,f1,F1,_⟩:=hd
   rw[hρ]at F1
   refine wd_loop (z:=false) (c:=c) (os:=os) (fun h=>by cases h) hel hlen hX k (i+1) (by omega) (fun x' hx'=>?_) (fw.trans f1) ?_
   ·rw[List.take_add_one,hx]at hx'
    rcases List.mem_append.1 hx' with h|h
    ·exact ht x' h
    ·have h:x'=x:=by simpa using h
     rw[h];omega
   ·rw[<-inc (i:=i) (by omega)]
    exact F1
theorem wide_all{x:Value}{F:FlowD}(h:FlowIn w x F)(hlen:F.lets.length+F.outs.length≤100000000000000):Ans 5 #[x] w fun v w'=>Fresh w w'∧∃b,v=.bool b∧(b=false->F.lets.length≤256∧F.outs.length≤2147483647∧∀x∈F.lets,x.tree.length≤1024):=by
 have h':=h
 obtain⟨ls,os,rfl,hl,ho⟩:=h
 obtain⟨z,A,o,c,hls,hz,hzc,hel⟩:=hl.ex
 refine ans_of fun cs=>?_
 obtain⟨ρ,hρ⟩:∃ρ:Env,ρ=mkE [(51,F.lets.length),(52,c),(53,o)] [(50,A)] [(9,os)]:=⟨_,rfl⟩
 have ez:∀I B,(slZ z 50 53 51 52).ev (mixE ρ I B)=ls:=fun I B=>by rw[hρ,hls];cases z<;>rfl
 refine((wd1 z).go ρ (enter1 ent5 rfl (.agg #[ls,os])) (by rw[hls,hρ];cases z<;>rfl) trivial trivial).trans fun g1 w1 hd=>?_
 obtain⟨I,B,fr1,rfl,f1,F1,bl,_⟩:=hd
 obtain⟨X,eX⟩:∃X,B 100=X:=⟨_,rfl⟩
 have hX:(Blk.obj 25 [ls,os]).at Try.prog w1 X:=by
  have h1:(Blk.obj 25 [(slZ z 50 53 51 52).ev (mixE ρ I B),os]).at Try.prog w1 (B 100):=by
   have:=bl.1.2
   rw[hρ]at this⊢
   exact this
  rw[ez,eX]at h1
  exact h1
 have F1':FA 5 28 (.inRegion (opsOf (q5 [1,0,0])) [1,2,3,4,5,6,7,8]::[.code (q5 [1,0,1]),.code (q5 [1,1])]) [] .normal [(1,ptrV X),(4,.agg #[ls,os])] fr1:=by
  have h1:FA 5 28 (.inRegion (opsOf (q5 [1,0,0])) [1,2,3,4,5,6,7,8]::[.code (q5 [1,0,1]),.code (q5 [1,1])]) [] .normal [(1,ptrV (B 100)),(4,.agg #[(slZ z 50 53 51 52).ev (mixE ρ I B),os])] fr1:=by
   rw[hρ]at F1⊢
   exact F1
  rw[ez,eX]at h1
  exact h1
 refine(wd2.go (mkE [] [] [(4,.agg #[ls,os])]) (Q:=fun v w'=>∃n,v=iV n∧(n≤2147483647->F.outs.length≤2147483647)) F1' rfl fun w' f2=>size_all (h'.keep (f1.trans f2)) hlen).trans fun g2 w2 hd2=>?_
 obtain⟨fr2,vv,rfl,f2,⟨n,rfl,hn⟩,F2⟩:=hd2
 refine(wd3.go (mkE [] [] [(5,iV n)]) (Q:=fun v w'=>v=.bool (decide (n>2147483647))) F2 rfl fun w' f3=>long_all).trans fun g3 w3 hd3=>?_
 obtain⟨fr3,vv,rfl,f3,rfl,F3⟩:=hd3
 have f13:=f1.trans (f2.trans f3)
 have hX3:=blk_keep hX (f2.trans f3)
 obtain⟨σ,hσ⟩:∃σ:Env,σ=mkE [(51,F.lets.length),(52,c),(53,o)] [(50,A),(64,X)] []:=⟨_,rfl⟩
 have es:(slZ z 50 53 51 52).ev σ=ls:=by rw[hσ,hls];cases z<;>rfl
 have en:(lnZ z 51).ev σ=(F.lets.length:Int):=by
  rw[hσ]
  cases z with
  |false=>rfl
  |true=>rw[hz rfl];rfl
 have fin:∀{k:List Item} {w4:World} {fr4:Frame},Fresh w w4->FA 5 28 (.code .ret::k) [] .normal [(2,.bool true)] fr4->Goes (G fr4 cs) w4 fun g' w'=>∃fr' v,g'=G fr' cs∧Leav 5 fr' w' v∧Fresh w w'∧∃b,v=.bool b∧(b=false->F.lets.length≤256∧F.outs.length≤2147483647∧∀x∈F.lets,x.tree.length≤1024):=fun{k w4 fr4} f4 F4=>by
  refine(leave1 ret5 F4 rfl).mono fun g6 w6 hd6=>?_
  obtain⟨fr6,rfl,rfl,hL⟩:=hd6
  exact⟨fr6,_,rfl,hL,f4,true,rfl,fun h=>by cases h⟩
 by_cases hlong:n>2147483647
 ·rw[decide_eq_true hlong]at F3
  refine(wd4.go σ F3 (by rw[hσ];rfl) trivial trivial).trans fun g4 w4 hd4=>?_
  obtain⟨I,B,fr4,rfl,f4,F4,_⟩:=hd4
  exact fin (f13.trans f4) F4
 ·rw[decide_eq_false hlong]at F3
  by_cases hbig:F.lets.length>256
  ·cases z with
   |true=>
    rw[hz rfl]at hbig
    simp only[List.length_nil]at hbig
    omega
   |false=>
   refine(wd5.go σ F3 (by rw[hσ];rfl) ⟨by rw[hσ];exact decide_eq_true (by show((F.lets.length:Nat):Int)>256;omega),trivial⟩ ⟨by
    rw[hσ]
    rw[hls]at hX3
    exact blk_cell hX3 (i:=0) rfl,trivial⟩).trans fun g4 w4 hd4=>?_
   obtain⟨I,B,fr4,rfl,f4,F4,_⟩:=hd4
   exact fin (f13.trans f4) F4
  ·refine((wd6 z).go σ F3 (by rw[hσ];rfl) ⟨by
     show decide ((lnZ z 51).ev σ>256)=false
     rw[en]
     exact decide_eq_false (by omega),trivial⟩ ⟨by
    rw[es,hσ]
    exact blk_cell hX3 (i:=0) rfl,trivial⟩).trans fun g4 w4 hd4=>?_
   obtain⟨I,B,fr4,rfl,f4,F4,_⟩:=hd4
   rw[hσ]at F4
   have f14:=f13.trans f4
   refine(wd_loop (w0:=w4) (c:=c) (os:=os) hz (fun i x hi=>(hel i x hi).keep f14) (by omega) (by rw[<-hls];exact blk_keep hX3 f4) F.lets.length 0 (by omega) (fun x hx=>by simp at hx) (Fresh.refl _) F4).mono fun g5 w5 hd5=>?_
   obtain⟨fr5,b,rfl,f5,hb,hL⟩:=hd5
   exact⟨fr5,_,rfl,hL,f14.trans f5,b,rfl,fun h=>⟨by omega,hn (by omega),hb h⟩⟩
end
noncomputable def q20(l:List Nat):Code:=pc (bodyOf Try.f20) l
theorem ent20:enterA Try.prog 20 [] .normal=.ok ⟨20,15,entT 20 [],[.code (bodyOf Try.f20)],[],.run,.normal⟩:=by kernel_rfl
noncomputable def q40(l:List Nat):Code:=pc (bodyOf Try.f40) l
theorem ent40:enterA Try.prog 40 [.opq 0] .normal=.ok ⟨40,9,entT 40 [.opq 0],[.code (bodyOf Try.f40)],[],.run,.normal⟩:=by kernel_rfl
theorem ret40:RetC 40 9 2:=fun st=>by kernel_rfl
noncomputable def q28(l:List Nat):Code:=pc (bodyOf Try.f28) l
theorem ent28:enterA Try.prog 28 [.opq 0] .normal=.ok ⟨28,30,entT 28 [.opq 0],[.code (bodyOf Try.f28)],[],.run,.normal⟩:=by kernel_rfl
theorem ret28:RetC 28 30 2:=fun st=>by kernel_rfl
noncomputable def q13(l:List Nat):Code:=pc (bodyOf Try.f13) l
theorem ent13:enterA Try.prog 13 [.opq 0,.opq 1] .normal=.ok ⟨13,31,entT 13 [.opq 0,.opq 1],[.code (bodyOf Try.f13)],[],.run,.normal⟩:=by kernel_rfl
theorem ret13:RetC 13 31 4:=fun st=>by kernel_rfl
theorem pr1:Pc 20 15 [.code (q20 [])] ([]) [] [] [] 30 [105,103,101,100] [0] [.code .ret] [ptr0 100] [(105,.cells [.str ⟨#[97]⟩,.slice (some ⟨(.dyn 101),(.lit 0)⟩) (.lit 1) (.lit 1),i64 (.lit 0),.str ⟨#[98]⟩,.slice (some ⟨(.dyn 103),(.lit 0)⟩) (.lit 3) (.lit 3),i64 (.lit 0)] 51),(103,.cells [i8 (.lit 4),i64 (.lit 0),i64 (.lit 2),i64 (.lit 0),i8 (.lit 2),i64 (.lit 0),i64 (.lit 0),i64 (.lit 0),i8 (.lit 1),i64 (.lit 2),i64 (.lit 0),i64 (.lit 0)] 75),(101,.cells [i8 (.lit 1),i64 (.lit 1),i64 (.lit 0),i64 (.lit 0)] 75),(100,.cells [.slice (some ⟨(.dyn 105),(.lit 0)⟩) (.lit 2) (.lit 2),nilA] 25)]:=⟨fun st=>by kernel_rfl,fun st=>by kernel_rfl,by kernel_rfl,of_decide_eq_true (by kernel_rfl)⟩
theorem cc1:Pc 40 9 [.code (q40 [])] ([(0,.slice (some ⟨(.dyn 50),(v 53)⟩) (v 51) (v 52))]) [] [] [] 11 [] [3,5,7] [.inRegion (opsOf (q40 [1,0])) [5,6],.code .ret] [.slice (some ⟨(.dyn 50),(v 53)⟩) (v 51) (v 52),i64 (.tn (v 51)),i64 (.tn (v 51))] []:=⟨fun st=>by kernel_rfl,fun st=>by kernel_rfl,by kernel_rfl,of_decide_eq_true (by kernel_rfl)⟩
theorem cc2:OpW 9 (opsOf (q40 [1,0])) 5 [] (.slice 23 (.tmp 3) none (some (.tmp 5)) (some (.tmp 7))) 23 (some 8):=⟨fun st=>by kernel_rfl,fun st=>by kernel_rfl,by kernel_rfl⟩
theorem cc3:Pc 40 9 [.inRegion (opsOf (q40 [1,0])) [6],.code .ret] ([(8,.opq 8)]) [] [] [] 2 [] [2] [.code .ret] [.opq 8] []:=⟨fun st=>by kernel_rfl,fun st=>by kernel_rfl,by kernel_rfl,of_decide_eq_true (by kernel_rfl)⟩
theorem ne1:Pc 28 30 [.code (q28 [])] ([(0,.agg [ss 1,.slice (some ⟨(.dyn 70),(.lit 0)⟩) (.lit 3) (.lit 3),i64 (v 4)])]) [] [(⟨(.dyn 70),(.lit 0)⟩,i8 (.lit 4)),(⟨(.dyn 70),(.lit 1)⟩,i64 (.lit 0)),(⟨(.dyn 70),(.lit 2)⟩,i64 (.lit 2)),(⟨(.dyn 70),(.lit 3)⟩,i64 (.lit 0)),(⟨(.dyn 70),(.lit 4)⟩,i8 (.lit 2)),(⟨(.dyn 70),(.lit 5)⟩,i64 (.lit 0)),(⟨(.dyn 70),(.lit 6)⟩,i64 (.lit 0)),(⟨(.dyn 70),(.lit 7)⟩,i64 (.lit 0)),(⟨(.dyn 70),(.lit 8)⟩,i8 (.lit 1)),(⟨(.dyn 70),(.lit 9)⟩,i64 (.lit 2)),(⟨(.dyn 70),(.lit 10)⟩,i64 (.lit 0)),(⟨(.dyn 70),(.lit 11)⟩,i64 (.lit 0))] [] 300 [105] [28] [.inRegion (opsOf (q28 [1,1,1,1,1,0])) [2,3],.code .ret] [.slice (some ⟨(.dyn 105),(.lit 0)⟩) (.lit 1) (v 105)] [(105,.row [i64 (.lit 0)] 3 (v 105))]:=⟨fun st=>by kernel_rfl,fun st=>by kernel_rfl,by kernel_rfl,of_decide_eq_true (by kernel_rfl)⟩
theorem ne2:OpC 30 (opsOf (q28 [1,1,1,1,1,0])) 2 [(28,.opq 28)] 40 [.opq 28] 29:=⟨fun st=>by kernel_rfl,fun st=>by kernel_rfl,fun st=>by kernel_rfl,by kernel_rfl,by decide,rfl⟩
theorem ne3:Pc 28 30 [.inRegion (opsOf (q28 [1,1,1,1,1,0])) [3],.code .ret] ([(29,.opq 29)]) [] [] [] 2 [] [2] [.code .ret] [.opq 29] []:=⟨fun st=>by kernel_rfl,fun st=>by kernel_rfl,by kernel_rfl,of_decide_eq_true (by kernel_rfl)⟩
noncomputable def q12(l:List Nat):Code:=pc (bodyOf Try.f12) l
theorem ent12:enterA Try.prog 12 [.opq 0] .normal=.ok ⟨12,34,entT 12 [.opq 0],[.code (bodyOf Try.f12)],[],.run,.normal⟩:=by kernel_rfl
theorem ret12:RetC2 12 34 2 3:=fun st=>by kernel_rfl
noncomputable def q27(l:List Nat):Code:=pc (bodyOf Try.f27) l
theorem ret27:RetC 27 41 5:=fun st=>by kernel_rfl
theorem nn1:Pc 13 31 [.code (q13 [])] ([(0,.agg [.slice (some ⟨(.dyn 50),(.lit 0)⟩) (.lit 2) (.lit 2),nilA]),(1,i64 (.lit 1))]) [] [] [] 9 [100] [1,2,8] [.inRegion (opsOf (q13 [1,0,0])) [1,2,3,4,5,6],.code (q13 [1,0,1]),.code (q13 [1,1])] [i64 (.lit 1),ptr0 100,.agg [.slice (some ⟨(.dyn 50),(.lit 0)⟩) (.lit 2) (.lit 2),nilA]] [(100,.cells [.slice (some ⟨(.dyn 50),(.lit 0)⟩) (.lit 2) (.lit 2),nilA] 25)]:=⟨fun st=>by kernel_rfl,fun st=>by kernel_rfl,by kernel_rfl,of_decide_eq_true (by kernel_rfl)⟩
theorem nn2:OpC 31 (opsOf (q13 [1,0,0])) 1 [(8,.opq 8)] 21 [.opq 8] 9:=⟨fun st=>by kernel_rfl,fun st=>by kernel_rfl,fun st=>by kernel_rfl,by kernel_rfl,by decide,rfl⟩
theorem nn3:Pc 13 31 [.inRegion (opsOf (q13 [1,0,0])) [2,3,4,5,6],.code (q13 [1,0,1]),.code (q13 [1,1])] ([(1,i64 (.lit 1)),(2,ptr0 64),(9,.tuple [i64 (.lit 0),i64 (.lit 0)])]) [] [(⟨(.dyn 50),(.lit 0)⟩,.str ⟨#[97]⟩),(⟨(.dyn 50),(.lit 1)⟩,.slice (some ⟨(.dyn 70),(.lit 0)⟩) (.lit 1) (.lit 1)),(⟨(.dyn 50),(.lit 2)⟩,i64 (.lit 0)),(⟨(.dyn 50),(.lit 3)⟩,.str ⟨#[98]⟩),(⟨(.dyn 50),(.lit 4)⟩,.slice (some ⟨(.dyn 71),(.lit 0)⟩) (.lit 3) (.lit 3)),(⟨(.dyn 50),(.lit 5)⟩,i64 (.lit 0)),(⟨(.dyn 70),(.lit 0)⟩,i8 (.lit 1)),(⟨(.dyn 70),(.lit 1)⟩,i64 (.lit 1)),(⟨(.dyn 70),(.lit 2)⟩,i64 (.lit 0)),(⟨(.dyn 70),(.lit 3)⟩,i64 (.lit 0)),(⟨(.dyn 71),(.lit 0)⟩,i8 (.lit 4)),(⟨(.dyn 71),(.lit 1)⟩,i64 (.lit 0)),(⟨(.dyn 71),(.lit 2)⟩,i64 (.lit 2)),(⟨(.dyn 71),(.lit 3)⟩,i64 (.lit 0)),(⟨(.dyn 71),(.lit 4)⟩,i8 (.lit 2)),(⟨(.dyn 71),(.lit 5)⟩,i64 (.lit 0)),(⟨(.dyn 71),(.lit 6)⟩,i64 (.lit 0)),(⟨(.dyn 71),(.lit 7)⟩,i64 (.lit 0)),(⟨(.dyn 71),(.lit 8)⟩,i8 (.lit 1)),(⟨(.dyn 71),(.lit 9)⟩,i64 (.lit 2)),(⟨(.dyn 71),(.lit 10)⟩,i64 (.lit 0)),(⟨(.dyn 71),(.lit 11)⟩,i64 (.lit 0)),(⟨(.dyn 64),(.lit 0)⟩,.slice (some ⟨(.dyn 50),(.lit 0)⟩) (.lit 2) (.lit 2))] [] 31 [] [29] [.inRegion (opsOf (q13 [1,1,0])) [5,6],.code .ret] [.agg [.str ⟨#[98]⟩,.slice (some ⟨(.dyn 71),(.lit 0)⟩) (.lit 3) (.lit 3),i64 (.lit 0)]] []:=⟨fun st=>by kernel_rfl,fun st=>by kernel_rfl,by kernel_rfl,of_decide_eq_true (by kernel_rfl)⟩
theorem nn4:OpC 31 (opsOf (q13 [1,1,0])) 5 [(29,.opq 29)] 28 [.opq 29] 30:=⟨fun st=>by kernel_rfl,fun st=>by kernel_rfl,fun st=>by kernel_rfl,by kernel_rfl,by decide,rfl⟩
theorem nn5:Pc 13 31 [.inRegion (opsOf (q13 [1,1,0])) [6],.code .ret] ([(30,.opq 30)]) [] [] [] 2 [] [4] [.code .ret] [.opq 30] []:=⟨fun st=>by kernel_rfl,fun st=>by kernel_rfl,by kernel_rfl,of_decide_eq_true (by kernel_rfl)⟩
noncomputable def prM:List (AA×AV):=[(⟨(.dyn 50),(.lit 0)⟩,.str ⟨#[97]⟩),(⟨(.dyn 50),(.lit 1)⟩,.slice (some ⟨(.dyn 70),(.lit 0)⟩) (.lit 1) (.lit 1)),(⟨(.dyn 50),(.lit 2)⟩,i64 (.lit 0)),(⟨(.dyn 50),(.lit 3)⟩,.str ⟨#[98]⟩),(⟨(.dyn 50),(.lit 4)⟩,.slice (some ⟨(.dyn 71),(.lit 0)⟩) (.lit 3) (.lit 3)),(⟨(.dyn 50),(.lit 5)⟩,i64 (.lit 0)),(⟨(.dyn 70),(.lit 0)⟩,i8 (.lit 1)),(⟨(.dyn 70),(.lit 1)⟩,i64 (.lit 1)),(⟨(.dyn 70),(.lit 2)⟩,i64 (.lit 0)),(⟨(.dyn 70),(.lit 3)⟩,i64 (.lit 0)),(⟨(.dyn 71),(.lit 0)⟩,i8 (.lit 4)),(⟨(.dyn 71),(.lit 1)⟩,i64 (.lit 0)),(⟨(.dyn 71),(.lit 2)⟩,i64 (.lit 2)),(⟨(.dyn 71),(.lit 3)⟩,i64 (.lit 0)),(⟨(.dyn 71),(.lit 4)⟩,i8 (.lit 2)),(⟨(.dyn 71),(.lit 5)⟩,i64 (.lit 0)),(⟨(.dyn 71),(.lit 6)⟩,i64 (.lit 0)),(⟨(.dyn 71),(.lit 7)⟩,i64 (.lit 0)),(⟨(.dyn 71),(.lit 8)⟩,i8 (.lit 1)),(⟨(.dyn 71),(.lit 9)⟩,i64 (.lit 2)),(⟨(.dyn 71),(.lit 10)⟩,i64 (.lit 0)),(⟨(.dyn 71),(.lit 11)⟩,i64 (.lit 0))]
noncomputable def prE(P A C:Nat):Env:=mkE [] [(50,P),(70,A),(71,C)] []
def pairV(P:Nat):Value:=.agg #[slV P 0 2 2,nilV]
def letA:LetD:=⟨⟨#[97]⟩,[⟨1,1,0,0⟩],0⟩
def letB:LetD:=⟨⟨#[98]⟩,[⟨4,0,2,0⟩,⟨2,0,0,0⟩,⟨1,2,0,0⟩],0⟩
def pairF:FlowD:=⟨[letA,letB],[]⟩
theorem pair_chk:chkF pairF=(0,0):=by kernel_rfl
theorem pair_plain:plainF pairF ⟨0,0,0,0⟩=(0,[(1,1),(1,3)]):=by kernel_rfl
theorem pair_fits:fitsL ⟨0,0,0,0⟩ [(1,1),(1,4)] pairF.lets 0=(30,1):=by kernel_rfl
theorem AllM.keep{ρ:Env}{w w':World}(f:Fresh w w'):∀{l:List (AA×AV)},AllM ρ w l->AllM ρ w' l
 |[],_=>trivial
 |p::r,h=>⟨f.cell h.1,AllM.keep f h.2⟩
section
variable {w w0:World}{cs:List Frame}{fr:Frame}
theorem pair_flow{P A C:Nat}(h:AllM (prE P A C) w prM):FlowAt w (pairV P) pairF:=by
 obtain⟨p0,p1,p2,p3,p4,p5,a0,a1,a2,a3,b0,b1,b2,b3,b4,b5,b6,b7,b8,b9,b10,b11,_⟩:=h
 refine⟨slV P 0 2 2,nilV,rfl,⟨false,P,0,2,rfl,(fun h=>by cases h),fun _=>Nat.le_refl _,fun i x hi=>?_⟩,⟨true,0,0,0,rfl,fun _=>rfl,(fun h=>by cases h),fun i n hi=>by cases hi⟩⟩
 match i,hi with
 |0,hi=>
  obtain rfl:letA=x:=Option.some.inj hi
  refine⟨slV A 0 1 1,p0,p1,p2,⟨.inr ⟨A,0,1,rfl,Nat.le_refl _,fun i n hi=>?_⟩⟩⟩
  match i,hi with
  |0,hi=>
   obtain rfl:(⟨1,1,0,0⟩:Nd)=n:=Option.some.inj hi
   exact⟨a0,a1,a2,a3⟩
  |i+1,hi=>cases hi
 |1,hi=>
  obtain rfl:letB=x:=Option.some.inj hi
  refine⟨slV C 0 3 3,p3,p4,p5,⟨.inr ⟨C,0,3,rfl,Nat.le_refl _,fun i n hi=>?_⟩⟩⟩
  match i,hi with
  |0,hi=>
   obtain rfl:(⟨4,0,2,0⟩:Nd)=n:=Option.some.inj hi
   exact⟨b0,b1,b2,b3⟩
  |1,hi=>
   obtain rfl:(⟨2,0,0,0⟩:Nd)=n:=Option.some.inj hi
   exact⟨b4,b5,b6,b7⟩
  |2,hi=>
   obtain rfl:(⟨1,2,0,0⟩:Nd)=n:=Option.some.inj hi
   exact⟨b8,b9,b10,b11⟩
  |i+3,hi=>cases hi
 |i+2,hi=>cases hi
theorem pair_all:Ans 20 #[] w fun v w'=>Fresh w w'∧∃P A C,v=pairV P∧AllM (prE P A C) w' prM:=by
 refine ans_of fun cs=>?_
 refine(pr1.go (mkE [] [] []) (enter0 ent20) rfl trivial trivial).trans fun g1 w1 hd=>?_
 obtain⟨I,B,fr1,rfl,f1,F1,bl,_⟩:=hd
 have hP:(Blk.obj 51 [.string ⟨#[97]⟩,slV (B 101) 0 1 1,iV 0,.string ⟨#[98]⟩,slV (B 103) 0 3 3,iV 0]).at Try.prog w1 (B 105):=bl.1.2
 have hC:(Blk.obj 75 [i8V 4,iV 0,iV 2,iV 0,i8V 2,iV 0,iV 0,iV 0,i8V 1,iV 2,iV 0,iV 0]).at Try.prog w1 (B 103):=bl.2.1.2
 have hA:(Blk.obj 75 [i8V 1,iV 1,iV 0,iV 0]).at Try.prog w1 (B 101):=bl.2.2.1.2
 have hR:(Blk.obj 25 [slV (B 105) 0 2 2,nilV]).at Try.prog w1 (B 100):=bl.2.2.2.1.2
 have F1':FA 20 15 (.code .ret::[]) [] .normal [(0,ptrV (B 100))] fr1:=F1
 refine(leave_at (ρ:=mkE [] [(62,B 100)] [(40,slV (B 105) 0 2 2),(41,nilV)]) (lA:=[(0,ptr0 62)]) (bs:=[]) (mem:=[(⟨.dyn 62,.lit 0⟩,.opq 40),(⟨.dyn 62,.lit 1⟩,.opq 41)]) F1' (a:=.agg [.opq 40,.opq 41]) (fun p hp=>by
  obtain rfl:=List.mem_singleton.1 hp
  exact lookV_mem rfl) (fun st=>by kernel_rfl) (nofun) (fun q hq=>by
  simp only[List.mem_cons,List.not_mem_nil,or_false]at hq
  rcases hq with rfl|rfl
  ·exact blk_cell hR (i:=0) rfl
  ·exact blk_cell hR (i:=1) rfl)).mono fun g6 w6 hd6=>?_
 obtain⟨fr6,rfl,rfl,hL⟩:=hd6
 exact⟨fr6,_,rfl,hL,f1,B 105,B 101,B 103,rfl,blk_cell hP (i:=0) rfl,blk_cell hP (i:=1) rfl,blk_cell hP (i:=2) rfl,blk_cell hP (i:=3) rfl,blk_cell hP (i:=4) rfl,blk_cell hP (i:=5) rfl,blk_cell hA (i:=0) rfl,blk_cell hA (i:=1) rfl,blk_cell hA (i:=2) rfl,blk_cell hA (i:=3) rfl,blk_cell hC (i:=0) rfl,blk_cell hC (i:=1) rfl,blk_cell hC (i:=2) rfl,blk_cell hC (i:=3) rfl,blk_cell hC (i:=4) rfl,blk_cell hC (i:=5) rfl,blk_cell hC (i:=6) rfl,blk_cell hC (i:=7) rfl,blk_cell hC (i:=8) rfl,blk_cell hC (i:=9) rfl,blk_cell hC (i:=10) rfl,blk_cell hC (i:=11) rfl,trivial⟩
theorem clip_op{t elem size:Nat}(hU:under? Try.prog t=.ok (.slice elem))(hS:sizeOf? Try.prog elem=.ok size){off n c:Nat}(hn:n≤c):sliceOp? Try.prog t (.slice (some ⟨.dyn 50,.lit (Int.ofNat off)⟩) (.lit (Int.ofNat n)) (.lit (Int.ofNat c))) none (some (.int .i64 (.lit (Int.ofNat n)))) (some (.int .i64 (.lit (Int.ofNat n))))=.ok (.slice (some ⟨.dyn 50,.lit (Int.ofNat off)⟩) (.lit (Int.ofNat n)) (.lit (Int.ofNat n))):=by
 unfold sliceOp?
 rw[hU]
 simp only[bind,Except.bind,litNat?,bounds?,bound?,high?,hS,pure,Except.pure]
 simp[hn,AA.add,addN]
theorem wq_clip{E:Value->World->Prop}{t elem size:Nat}(hU:under? Try.prog t=.ok (.slice elem))(hS:sizeOf? Try.prog elem=.ok size){A off n c:Nat}(hn:n≤c){Q:Value->World->Prop}(hq:Q (slV A off n n) w):
  wq Try.prog (fun _=>True) E (Instr.sliceAt t (slV A off n c) none (some (iV n)) (some (iV n))) Q w:=by
 let K:Ctx:=⟨Try.prog,{},fun _=>True,fun _=>True,True,fun _ _=>False⟩
 let ρ:Env:=mkE [] [(50,A)] []
 exact wq_sliceAt (K:=K) (ρ:=ρ) (w:=w) (clip_op (off:=off) hU hS hn) (Q:=Q) hq
theorem clip_all{B o n c:Nat}(h:n≤c):Ans 40 #[slV B o n c] w fun v w'=>Fresh w w'∧v=slV B o n n:=by
 refine ans_of fun cs=>?_
 refine(cc1.go (mkE [(51,n),(52,c),(53,o)] [(50,B)] []) (enter1 ent40 rfl (slV B o n c)) rfl trivial trivial).trans fun g1 w1 hd=>?_
 obtain⟨I,B',fr1,rfl,f1,F1,_⟩:=hd
 refine(cc2.go (R:=fun y w'=>y=slV B o n n∧w'=w1) (mkE [] [] []) F1 (by decide) rfl fun tm htm x' e1 e2=>?_).trans fun g2 w2 hd2=>?_
 ·unfold execOp
  simp only[e1,wq_bind,Option.map_some,Option.map_none]
  rw[htm 3 (slV B o n c) rfl,htm 5 (iV n) rfl,htm 7 (iV n) rfl]
  exact wq_clip intU intS h ⟨_,rfl,rfl,rfl⟩
 obtain⟨fr2,y,rfl,⟨rfl,rfl⟩,F2⟩:=hd2
 refine(cc3.go (mkE [] [] [(8,slV B o n n)]) F2 rfl trivial trivial).trans fun g3 w3 hd3=>?_
 obtain⟨I,B',fr3,rfl,f3,F3,_⟩:=hd3
 refine(leave1 ret40 F3 rfl).mono fun g6 w6 hd6=>?_
 obtain⟨fr6,rfl,rfl,hL⟩:=hd6
 exact⟨fr6,_,rfl,hL,f1.trans f3,rfl⟩
theorem needsB_all{P A C:Nat}(h:AllM (prE P A C) w prM):Ans 28 #[letV letB (slV C 0 3 3)] w fun v w'=>Fresh w w'∧∃B,w.heap.size≤B∧v=slV B 0 1 1∧w'.cell? ⟨B,0,none⟩=some (iV 0):=by
 obtain⟨p0,p1,p2,p3,p4,p5,a0,a1,a2,a3,b0,b1,b2,b3,b4,b5,b6,b7,b8,b9,b10,b11,_⟩:=h
 refine ans_of fun cs=>?_
 refine(ne1.go (Go.Proofs.Ytmobbajggkjpgaa.SX.mkS [(4,0)] [(70,C)] [] [(1,⟨#[98]⟩)]) (enter1 ent28 rfl (letV letB (slV C 0 3 3))) rfl trivial ⟨b0,b1,b2,b3,b4,b5,b6,b7,b8,b9,b10,b11,trivial⟩).trans fun g1 w1 hd=>?_
 obtain⟨I,B,fr1,rfl,f1,F1,bl,_⟩:=hd
 have hv:(Blk.vec 3 (I 105).toNat [iV 0]).at Try.prog w1 (B 105):=bl.1.2
 have gB:w.heap.size≤B 105:=bl.1.1
 have hc:1≤(I 105).toNat:=vec_cap hv
 refine(ne2.go (mkE [] [] [(28,slV (B 105) 0 1 (I 105).toNat)]) (Q:=fun v w'=>v=slV (B 105) 0 1 1) F1 rfl fun w' f2=>clip_all hc).trans fun g2 w2 hd2=>?_
 obtain⟨fr2,vv,rfl,f2,rfl,F2⟩:=hd2
 refine(ne3.go (mkE [] [] [(29,slV (B 105) 0 1 1)]) F2 rfl trivial trivial).trans fun g3 w3 hd3=>?_
 obtain⟨I',B',fr3,rfl,f3,F3,_⟩:=hd3
 refine(leave1 ret28 F3 rfl).mono fun g6 w6 hd6=>?_
 obtain⟨fr6,rfl,rfl,hL⟩:=hd6
 exact⟨fr6,_,rfl,hL,f1.trans (f2.trans f3),B 105,gB,rfl,(f2.trans f3).cell (Blk.at_cell hv rfl)⟩
theorem Needs_all{P A C:Nat}(h:AllM (prE P A C) w prM):Ans 13 #[pairV P,iV 1] w fun v w'=>Fresh w w'∧∃B,w.heap.size≤B∧v=slV B 0 1 1∧w'.cell? ⟨B,0,none⟩=some (iV 0):=by
 refine ans_of fun cs=>?_
 refine(nn1.go (mkE [] [(50,P)] []) (enter2 ent13 rfl (pairV P) (iV 1)) rfl trivial trivial).trans fun g1 w1 hd=>?_
 obtain⟨I,B,fr1,rfl,f1,F1,bl,_⟩:=hd
 obtain⟨X,eX⟩:∃X,B 100=X:=⟨_,rfl⟩
 have hX:(Blk.obj 25 [slV P 0 2 2,nilV]).at Try.prog w1 X:=by rw[<-eX];exact bl.1.2
 have F1':FA 13 31 (.inRegion (opsOf (q13 [1,0,0])) [1,2,3,4,5,6]::[.code (q13 [1,0,1]),.code (q13 [1,1])]) [] .normal [(1,iV 1),(2,ptrV X),(8,pairV P)] fr1:=by rw[<-eX];exact F1
 refine(nn2.go (mkE [] [] [(8,pairV P)]) (Q:=fun v w'=>v=.tuple #[iV 0,iV 0]) F1' rfl fun w' f2=>(check_all (pair_flow (h.keep (f1.trans f2))) (by decide) (by decide)).mono fun v w2 hd=>⟨hd.1,by
  have:=hd.2
  rw[pair_chk]at this
  exact this⟩).trans fun g2 w2 hd2=>?_
 obtain⟨fr2,vv,rfl,f2,rfl,F2⟩:=hd2
 have f12:=f1.trans f2
 have h2:=h.keep f12
 refine(nn3.go (mkE [] [(50,P),(64,X),(70,A),(71,C)] []) F2 rfl trivial (AllM.app (l:=prM) (l':=[(⟨.dyn 64,.lit 0⟩,.slice (some ⟨.dyn 50,.lit 0⟩) (.lit 2) (.lit 2))]) h2 ⟨f2.cell (blk_cell hX (i:=0) rfl),trivial⟩)).trans fun g3 w3 hd3=>?_
 obtain⟨I,B,fr3,rfl,f3,F3,_⟩:=hd3
 have f13:=f12.trans f3
 refine(nn4.go (mkE [] [] [(29,letV letB (slV C 0 3 3))]) (Q:=fun v w'=>∃wk B,Fresh w wk∧wk.heap.size≤B∧v=slV B 0 1 1∧w'.cell? ⟨B,0,none⟩=some (iV 0)) F3 rfl fun w' f4=>(needsB_all (h.keep (f13.trans f4))).mono fun v w2 hd=>⟨hd.1,by
  obtain⟨B,h1,h2,h3⟩:=hd.2
  exact⟨w',B,f13.trans f4,h1,h2,h3⟩⟩).trans fun g4 w4 hd4=>?_
 obtain⟨fr4,vv,rfl,f4,⟨wk,B4,fk,hB,rfl,hc⟩,F4⟩:=hd4
 refine(nn5.go (mkE [] [] [(30,slV B4 0 1 1)]) F4 rfl trivial trivial).trans fun g5 w5 hd5=>?_
 obtain⟨I',B',fr5,rfl,f5,F5,_⟩:=hd5
 refine(leave1 ret13 F5 rfl).mono fun g6 w6 hd6=>?_
 obtain⟨fr6,rfl,rfl,hL⟩:=hd6
 exact⟨fr6,_,rfl,hL,f13.trans (f4.trans f5),B4,Nat.le_trans fk.size hB,rfl,f5.cell hc⟩
end
theorem ll1:Pc 12 34 [.code (q12 [])] ([(0,.agg [.slice (some ⟨(.dyn 50),(.lit 0)⟩) (.lit 2) (.lit 2),nilA])]) [] [] [] 10 [100] [1,11] [.inRegion (opsOf (q12 [1,0,0])) [1,2,3,4,5,6],.code (q12 [1,0,1]),.code (q12 [1,1])] [ptr0 100,.agg [.slice (some ⟨(.dyn 50),(.lit 0)⟩) (.lit 2) (.lit 2),nilA]] [(100,.cells [.slice (some ⟨(.dyn 50),(.lit 0)⟩) (.lit 2) (.lit 2),nilA] 25)]:=⟨fun st=>by kernel_rfl,fun st=>by kernel_rfl,by kernel_rfl,of_decide_eq_true (by kernel_rfl)⟩
theorem ll2:OpC 34 (opsOf (q12 [1,0,0])) 1 [(11,.opq 11)] 21 [.opq 11] 12:=⟨fun st=>by kernel_rfl,fun st=>by kernel_rfl,fun st=>by kernel_rfl,by kernel_rfl,by decide,rfl⟩
theorem ll3:Pc 12 34 [.inRegion (opsOf (q12 [1,0,0])) [2,3,4,5,6],.code (q12 [1,0,1]),.code (q12 [1,1])] ([(1,ptr0 64),(12,.tuple [i64 (.lit 0),i64 (.lit 0)])]) [] [(⟨(.dyn 50),(.lit 0)⟩,.str ⟨#[97]⟩),(⟨(.dyn 50),(.lit 1)⟩,.slice (some ⟨(.dyn 70),(.lit 0)⟩) (.lit 1) (.lit 1)),(⟨(.dyn 50),(.lit 2)⟩,i64 (.lit 0)),(⟨(.dyn 50),(.lit 3)⟩,.str ⟨#[98]⟩),(⟨(.dyn 50),(.lit 4)⟩,.slice (some ⟨(.dyn 71),(.lit 0)⟩) (.lit 3) (.lit 3)),(⟨(.dyn 50),(.lit 5)⟩,i64 (.lit 0)),(⟨(.dyn 70),(.lit 0)⟩,i8 (.lit 1)),(⟨(.dyn 70),(.lit 1)⟩,i64 (.lit 1)),(⟨(.dyn 70),(.lit 2)⟩,i64 (.lit 0)),(⟨(.dyn 70),(.lit 3)⟩,i64 (.lit 0)),(⟨(.dyn 71),(.lit 0)⟩,i8 (.lit 4)),(⟨(.dyn 71),(.lit 1)⟩,i64 (.lit 0)),(⟨(.dyn 71),(.lit 2)⟩,i64 (.lit 2)),(⟨(.dyn 71),(.lit 3)⟩,i64 (.lit 0)),(⟨(.dyn 71),(.lit 4)⟩,i8 (.lit 2)),(⟨(.dyn 71),(.lit 5)⟩,i64 (.lit 0)),(⟨(.dyn 71),(.lit 6)⟩,i64 (.lit 0)),(⟨(.dyn 71),(.lit 7)⟩,i64 (.lit 0)),(⟨(.dyn 71),(.lit 8)⟩,i8 (.lit 1)),(⟨(.dyn 71),(.lit 9)⟩,i64 (.lit 2)),(⟨(.dyn 71),(.lit 10)⟩,i64 (.lit 0)),(⟨(.dyn 71),(.lit 11)⟩,i64 (.lit 0)),(⟨(.dyn 64),(.lit 0)⟩,.slice (some ⟨(.dyn 50),(.lit 0)⟩) (.lit 2) (.lit 2))] [] 404 [107,102,101,100] [1,7,8,22,23,24,25,26,27,28] [.inRegion (opsOf (q12 [1,1,1,1,1,1,0,1,0,0,1,1,0,0,1])) [3,4,5,6],.inBlock 1,.code (q12 [1,1,1,1,1,1,0,1,0,0,1,1,1]),.inLoop (q12 [1,1,1,1,1,1,0,1,0,0]),.inBlock 0,.code (q12 [1,1,1,1,1,1,1])] [ptr0 64,ptr0 102,.slice (some ⟨(.dyn 107),(.lit 0)⟩) (.lit 1) (v 107),i64 (.lit 2),i64 (.lit 1),TB,i64 (.lit 1),.slice (some ⟨(.dyn 107),(.lit 0)⟩) (.lit 1) (v 107),.func (.func 27) [] [ptr0 101,ptr0 64,ptr0 102],i64 (.lit 1)] [(107,.row [i64 (.lit 0)] 3 (v 107)),(102,.cells [.func (.func 27) [] [ptr0 101,ptr0 64,ptr0 102]] 70),(101,.cells [.map (some (.dyn 100))] 69),(100,.map [(i64 (.lit 0),i64 (.lit 0))])]:=⟨fun st=>by kernel_rfl,fun st=>by kernel_rfl,by kernel_rfl,of_decide_eq_true (by kernel_rfl)⟩
theorem lf1:Pc 27 41 [.code (q27 [])] ([(0,i64 (.lit 1)),(1,ptr0 61),(2,ptr0 64),(3,ptr0 62)]) [] [(⟨(.dyn 50),(.lit 0)⟩,.str ⟨#[97]⟩),(⟨(.dyn 50),(.lit 1)⟩,.slice (some ⟨(.dyn 70),(.lit 0)⟩) (.lit 1) (.lit 1)),(⟨(.dyn 50),(.lit 2)⟩,i64 (.lit 0)),(⟨(.dyn 50),(.lit 3)⟩,.str ⟨#[98]⟩),(⟨(.dyn 50),(.lit 4)⟩,.slice (some ⟨(.dyn 71),(.lit 0)⟩) (.lit 3) (.lit 3)),(⟨(.dyn 50),(.lit 5)⟩,i64 (.lit 0)),(⟨(.dyn 70),(.lit 0)⟩,i8 (.lit 1)),(⟨(.dyn 70),(.lit 1)⟩,i64 (.lit 1)),(⟨(.dyn 70),(.lit 2)⟩,i64 (.lit 0)),(⟨(.dyn 70),(.lit 3)⟩,i64 (.lit 0)),(⟨(.dyn 71),(.lit 0)⟩,i8 (.lit 4)),(⟨(.dyn 71),(.lit 1)⟩,i64 (.lit 0)),(⟨(.dyn 71),(.lit 2)⟩,i64 (.lit 2)),(⟨(.dyn 71),(.lit 3)⟩,i64 (.lit 0)),(⟨(.dyn 71),(.lit 4)⟩,i8 (.lit 2)),(⟨(.dyn 71),(.lit 5)⟩,i64 (.lit 0)),(⟨(.dyn 71),(.lit 6)⟩,i64 (.lit 0)),(⟨(.dyn 71),(.lit 7)⟩,i64 (.lit 0)),(⟨(.dyn 71),(.lit 8)⟩,i8 (.lit 1)),(⟨(.dyn 71),(.lit 9)⟩,i64 (.lit 2)),(⟨(.dyn 71),(.lit 10)⟩,i64 (.lit 0)),(⟨(.dyn 71),(.lit 11)⟩,i64 (.lit 0)),(⟨(.dyn 64),(.lit 0)⟩,.slice (some ⟨(.dyn 50),(.lit 0)⟩) (.lit 2) (.lit 2)),(⟨(.dyn 61),(.lit 0)⟩,.map (some (.dyn 60))),(⟨(.dyn 62),(.lit 0)⟩,.func (.func 27) [] [ptr0 61,ptr0 64,ptr0 62])] [(60,.map [(i64 (.lit 0),i64 (.lit 0))])] 34 [60] [0,1,2,3,8,23] [.inRegion (opsOf (q27 [1,1,1,0,0])) [5,6,7],.code (q27 [1,1,1,0,1]),.code (q27 [1,1,1,1])] [i64 (.lit 1),ptr0 61,ptr0 64,ptr0 62,i64 (.lit 0),.agg [.str ⟨#[98]⟩,.slice (some ⟨(.dyn 71),(.lit 0)⟩) (.lit 3) (.lit 3),i64 (.lit 0)]] [(60,.map [(i64 (.lit 0),i64 (.lit 0))])]:=⟨fun st=>by kernel_rfl,fun st=>by kernel_rfl,by kernel_rfl,of_decide_eq_true (by kernel_rfl)⟩
theorem lf2:OpC 41 (opsOf (q27 [1,1,1,0,0])) 5 [(23,.opq 23)] 28 [.opq 23] 24:=⟨fun st=>by kernel_rfl,fun st=>by kernel_rfl,fun st=>by kernel_rfl,by kernel_rfl,by decide,rfl⟩
theorem lf3:Pc 27 41 [.inRegion (opsOf (q27 [1,1,1,0,0])) [6,7],.code (q27 [1,1,1,0,1]),.code (q27 [1,1,1,1])] ([(8,i64 (.lit 0)),(24,.slice (some ⟨(.dyn 72),(.lit 0)⟩) (.lit 1) (.lit 1)),(0,i64 (.lit 1)),(1,ptr0 61),(2,ptr0 64),(3,ptr0 62)]) [] [(⟨(.dyn 50),(.lit 0)⟩,.str ⟨#[97]⟩),(⟨(.dyn 50),(.lit 1)⟩,.slice (some ⟨(.dyn 70),(.lit 0)⟩) (.lit 1) (.lit 1)),(⟨(.dyn 50),(.lit 2)⟩,i64 (.lit 0)),(⟨(.dyn 50),(.lit 3)⟩,.str ⟨#[98]⟩),(⟨(.dyn 50),(.lit 4)⟩,.slice (some ⟨(.dyn 71),(.lit 0)⟩) (.lit 3) (.lit 3)),(⟨(.dyn 50),(.lit 5)⟩,i64 (.lit 0)),(⟨(.dyn 70),(.lit 0)⟩,i8 (.lit 1)),(⟨(.dyn 70),(.lit 1)⟩,i64 (.lit 1)),(⟨(.dyn 70),(.lit 2)⟩,i64 (.lit 0)),(⟨(.dyn 70),(.lit 3)⟩,i64 (.lit 0)),(⟨(.dyn 71),(.lit 0)⟩,i8 (.lit 4)),(⟨(.dyn 71),(.lit 1)⟩,i64 (.lit 0)),(⟨(.dyn 71),(.lit 2)⟩,i64 (.lit 2)),(⟨(.dyn 71),(.lit 3)⟩,i64 (.lit 0)),(⟨(.dyn 71),(.lit 4)⟩,i8 (.lit 2)),(⟨(.dyn 71),(.lit 5)⟩,i64 (.lit 0)),(⟨(.dyn 71),(.lit 6)⟩,i64 (.lit 0)),(⟨(.dyn 71),(.lit 7)⟩,i64 (.lit 0)),(⟨(.dyn 71),(.lit 8)⟩,i8 (.lit 1)),(⟨(.dyn 71),(.lit 9)⟩,i64 (.lit 2)),(⟨(.dyn 71),(.lit 10)⟩,i64 (.lit 0)),(⟨(.dyn 71),(.lit 11)⟩,i64 (.lit 0)),(⟨(.dyn 64),(.lit 0)⟩,.slice (some ⟨(.dyn 50),(.lit 0)⟩) (.lit 2) (.lit 2)),(⟨(.dyn 61),(.lit 0)⟩,.map (some (.dyn 60))),(⟨(.dyn 62),(.lit 0)⟩,.func (.func 27) [] [ptr0 61,ptr0 64,ptr0 62]),(⟨(.dyn 72),(.lit 0)⟩,i64 (.lit 0))] [(60,.map [(i64 (.lit 0),i64 (.lit 0))])] 54 [60] [0,1,2,3,24,25,26,30,34] [.inRegion (opsOf (q27 [1,1,1,0,1,0,0,1,1,0,0,1])) [5,6],.inBlock 1,.code (q27 [1,1,1,0,1,0,0,1,1,1]),.inLoop (q27 [1,1,1,0,1,0,0]),.inBlock 0,.code (q27 [1,1,1,1])] [i64 (.lit 1),ptr0 61,ptr0 64,ptr0 62,.slice (some ⟨(.dyn 72),(.lit 0)⟩) (.lit 1) (.lit 1),i64 (.lit 1),i64 (.lit 0),i64 (.lit 0),i64 (.lit 1)] [(60,.map [(i64 (.lit 0),i64 (.lit 0))])]:=⟨fun st=>by kernel_rfl,fun st=>by kernel_rfl,by kernel_rfl,of_decide_eq_true (by kernel_rfl)⟩
theorem lf4:OpW 41 (opsOf (q27 [1,1,1,0,1,0,0,1,1,0,0,1])) 5 [] (.call {callee:=.builtin .max,args:=#[.tmp 30,.tmp 34],argTypes:=#[3,3]}) 3 (some 35):=⟨fun st=>by kernel_rfl,fun st=>by kernel_rfl,by kernel_rfl⟩
theorem lf5:Pc 27 41 [.inRegion (opsOf (q27 [1,1,1,0,1,0,0,1,1,0,0,1])) [6],.inBlock 1,.code (q27 [1,1,1,0,1,0,0,1,1,1]),.inLoop (q27 [1,1,1,0,1,0,0]),.inBlock 0,.code (q27 [1,1,1,1])] ([(0,i64 (.lit 1)),(1,ptr0 61),(2,ptr0 64),(3,ptr0 62),(24,.slice (some ⟨(.dyn 72),(.lit 0)⟩) (.lit 1) (.lit 1)),(25,i64 (.lit 1)),(26,i64 (.lit 0)),(35,i64 (.lit 1))]) [] [(⟨(.dyn 50),(.lit 0)⟩,.str ⟨#[97]⟩),(⟨(.dyn 50),(.lit 1)⟩,.slice (some ⟨(.dyn 70),(.lit 0)⟩) (.lit 1) (.lit 1)),(⟨(.dyn 50),(.lit 2)⟩,i64 (.lit 0)),(⟨(.dyn 50),(.lit 3)⟩,.str ⟨#[98]⟩),(⟨(.dyn 50),(.lit 4)⟩,.slice (some ⟨(.dyn 71),(.lit 0)⟩) (.lit 3) (.lit 3)),(⟨(.dyn 50),(.lit 5)⟩,i64 (.lit 0)),(⟨(.dyn 70),(.lit 0)⟩,i8 (.lit 1)),(⟨(.dyn 70),(.lit 1)⟩,i64 (.lit 1)),(⟨(.dyn 70),(.lit 2)⟩,i64 (.lit 0)),(⟨(.dyn 70),(.lit 3)⟩,i64 (.lit 0)),(⟨(.dyn 71),(.lit 0)⟩,i8 (.lit 4)),(⟨(.dyn 71),(.lit 1)⟩,i64 (.lit 0)),(⟨(.dyn 71),(.lit 2)⟩,i64 (.lit 2)),(⟨(.dyn 71),(.lit 3)⟩,i64 (.lit 0)),(⟨(.dyn 71),(.lit 4)⟩,i8 (.lit 2)),(⟨(.dyn 71),(.lit 5)⟩,i64 (.lit 0)),(⟨(.dyn 71),(.lit 6)⟩,i64 (.lit 0)),(⟨(.dyn 71),(.lit 7)⟩,i64 (.lit 0)),(⟨(.dyn 71),(.lit 8)⟩,i8 (.lit 1)),(⟨(.dyn 71),(.lit 9)⟩,i64 (.lit 2)),(⟨(.dyn 71),(.lit 10)⟩,i64 (.lit 0)),(⟨(.dyn 71),(.lit 11)⟩,i64 (.lit 0)),(⟨(.dyn 64),(.lit 0)⟩,.slice (some ⟨(.dyn 50),(.lit 0)⟩) (.lit 2) (.lit 2)),(⟨(.dyn 61),(.lit 0)⟩,.map (some (.dyn 60))),(⟨(.dyn 62),(.lit 0)⟩,.func (.func 27) [] [ptr0 61,ptr0 64,ptr0 62]),(⟨(.dyn 72),(.lit 0)⟩,i64 (.lit 0))] [(60,.map [(i64 (.lit 0),i64 (.lit 0))])] 27 [60] [5] [.code .ret] [i64 (.lit 1)] [(60,.map [(i64 (.lit 0),i64 (.lit 0)),(i64 (.lit 1),i64 (.lit 1))])]:=⟨fun st=>by kernel_rfl,fun st=>by kernel_rfl,by kernel_rfl,of_decide_eq_true (by kernel_rfl)⟩
theorem ll4:OpC 34 (opsOf (q12 [1,1,1,1,1,1,0,1,0,0,1,1,0,0,1])) 3 [(27,.func (.func 27) [] [ptr0 61,ptr0 64,ptr0 62]),(28,i64 (.lit 1))] 27 [i64 (.lit 1),ptr0 61,ptr0 64,ptr0 62] 29:=⟨fun st=>by kernel_rfl,fun st=>by kernel_rfl,fun st=>by kernel_rfl,by kernel_rfl,by decide,rfl⟩
theorem ll5:Pc 12 34 [.inRegion (opsOf (q12 [1,1,1,1,1,1,0,1,0,0,1,1,0,0,1])) [4,5,6],.inBlock 1,.code (q12 [1,1,1,1,1,1,0,1,0,0,1,1,1]),.inLoop (q12 [1,1,1,1,1,1,0,1,0,0]),.inBlock 0,.code (q12 [1,1,1,1,1,1,1])] ([(1,ptr0 64),(7,ptr0 62),(8,.slice (some ⟨(.dyn 52),(.lit 0)⟩) (v 8) (v 57)),(22,i64 (.lit 2)),(23,i64 (.lit 1)),(24,TB),(25,i64 (.lit 1)),(26,.slice (some ⟨(.dyn 52),(.lit 0)⟩) (v 8) (v 57)),(29,i64 (.lit 1))]) [((.cmp .leq (.plus (.tn (v 8)) (.lit 1)) (.lit 1048576)),true)] [(⟨(.dyn 64),(.lit 0)⟩,.slice (some ⟨(.dyn 50),(.lit 0)⟩) (.lit 2) (.lit 2))] [(52,.pre false 65 (v 8) [] [] [] 3 (v 57))] 23 [101] [2,3] [.code .ret] [.slice (some ⟨(.dyn 101),(.lit 0)⟩) (.plus (.tn (v 8)) (.lit 1)) (v 101),i64 (.lit 0)] [(101,.pre false 65 (v 8) [] [] [i64 (.lit 1)] 3 (v 101))]:=⟨fun st=>by kernel_rfl,fun st=>by kernel_rfl,by kernel_rfl,of_decide_eq_true (by kernel_rfl)⟩
noncomputable def q6(l:List Nat):Code:=pc (bodyOf Try.f6) l
theorem ent6:enterA Try.prog 6 [] .normal=.ok ⟨6,72,entT 6 [],[.code (bodyOf Try.f6)],[],.run,.normal⟩:=by kernel_rfl
theorem ret6:RetC 6 72 0:=fun st=>by kernel_rfl
theorem lv1:Pc 6 72 [.code (q6 [])] ([]) [] [] [] 6 [] [] [.inRegion (opsOf (q6 [1,0])) [0,1,2,3,4,5,6,7],.code (q6 [1,1])] [] []:=⟨fun st=>by kernel_rfl,fun st=>by kernel_rfl,by kernel_rfl,of_decide_eq_true (by kernel_rfl)⟩
theorem lv2:OpC 72 (opsOf (q6 [1,0])) 0 [] 20 [] 9:=⟨fun st=>by kernel_rfl,fun st=>by kernel_rfl,fun st=>by kernel_rfl,by kernel_rfl,by decide,rfl⟩
theorem lv3:Pc 6 72 [.inRegion (opsOf (q6 [1,0])) [1,2,3,4,5,6,7],.code (q6 [1,1])] ([(9,.opq 9)]) [] [] [] 1 [] [9,10] [.inRegion (opsOf (q6 [1,0])) [2,3,4,5,6,7],.code (q6 [1,1])] [.opq 9,.agg [i64 (.lit 0),i64 (.lit 0),i64 (.lit 0),i64 (.lit 0)]] []:=⟨fun st=>by kernel_rfl,fun st=>by kernel_rfl,by kernel_rfl,of_decide_eq_true (by kernel_rfl)⟩
theorem lv4:OpC 72 (opsOf (q6 [1,0])) 2 [(9,.opq 9),(10,.opq 10)] 7 [.opq 9,.opq 10] 11:=⟨fun st=>by kernel_rfl,fun st=>by kernel_rfl,fun st=>by kernel_rfl,by kernel_rfl,by decide,rfl⟩
theorem lv5:Pc 6 72 [.inRegion (opsOf (q6 [1,0])) [3,4,5,6,7],.code (q6 [1,1])] ([(11,.tuple [.opq 11,i64 (.lit 0)])]) [] [] [] 8 [] [1,2] [.inRegion (opsOf (q6 [1,1,0])) [0,1,2],.code (q6 [1,1,1])] [.opq 11,i64 (.lit 0)] []:=⟨fun st=>by kernel_rfl,fun st=>by kernel_rfl,by kernel_rfl,of_decide_eq_true (by kernel_rfl)⟩
theorem lv6:OpC 72 (opsOf (q6 [1,1,0])) 0 [] 20 [] 14:=⟨fun st=>by kernel_rfl,fun st=>by kernel_rfl,fun st=>by kernel_rfl,by kernel_rfl,by decide,rfl⟩
theorem lv7:OpC 72 (opsOf (q6 [1,1,0])) 1 [(14,.opq 14)] 13 [.opq 14,i64 (.lit 1)] 15:=⟨fun st=>by kernel_rfl,fun st=>by kernel_rfl,fun st=>by kernel_rfl,by kernel_rfl,by decide,rfl⟩
theorem lv8:Pc 6 72 [.inRegion (opsOf (q6 [1,1,0])) [2],.code (q6 [1,1,1])] ([(1,.opq 1),(2,i64 (.lit 0)),(15,.opq 15)]) [] [] [] 4 [] [1,2,3] [.inRegion (opsOf (q6 [1,1,1,0])) [0,1,2,3,4,5,6],.code (q6 [1,1,1,1])] [.opq 1,i64 (.lit 0),.opq 15] []:=⟨fun st=>by kernel_rfl,fun st=>by kernel_rfl,by kernel_rfl,of_decide_eq_true (by kernel_rfl)⟩
theorem lv9:OpC 72 (opsOf (q6 [1,1,1,0])) 0 [] 20 [] 17:=⟨fun st=>by kernel_rfl,fun st=>by kernel_rfl,fun st=>by kernel_rfl,by kernel_rfl,by decide,rfl⟩
theorem lvA:OpC 72 (opsOf (q6 [1,1,1,0])) 1 [(17,.opq 17)] 12 [.opq 17] 18:=⟨fun st=>by kernel_rfl,fun st=>by kernel_rfl,fun st=>by kernel_rfl,by kernel_rfl,by decide,rfl⟩
theorem lvB:Pc 6 72 [.inRegion (opsOf (q6 [1,1,1,0])) [2,3,4,5,6],.code (q6 [1,1,1,1])] ([(1,.opq 1),(2,i64 (.lit 0)),(3,.opq 3),(18,.tuple [.opq 18,i64 (.lit 0)])]) [] [] [] 8 [] [1,2,3,4,5] [.inRegion (opsOf (q6 [1,1,1,1,0])) [0,1,2,3,4,5,6,7,8,9,10],.code (q6 [1,1,1,1,1])] [.opq 1,i64 (.lit 0),.opq 3,.opq 18,i64 (.lit 0)] []:=⟨fun st=>by kernel_rfl,fun st=>by kernel_rfl,by kernel_rfl,of_decide_eq_true (by kernel_rfl)⟩
theorem lvC:OpC 72 (opsOf (q6 [1,1,1,1,0])) 0 [] 20 [] 22:=⟨fun st=>by kernel_rfl,fun st=>by kernel_rfl,fun st=>by kernel_rfl,by kernel_rfl,by decide,rfl⟩
theorem lvD:Pc 6 72 [.inRegion (opsOf (q6 [1,1,1,1,0])) [1,2,3,4,5,6,7,8,9,10],.code (q6 [1,1,1,1,1])] ([(1,.opq 1),(2,i64 (.lit 0)),(3,.opq 3),(4,.opq 4),(5,i64 (.lit 0)),(22,.opq 22)]) [] [] [] 4 [100] [1,2,3,4,5,22,23,26] [.inRegion (opsOf (q6 [1,1,1,1,0])) [5,6,7,8,9,10],.code (q6 [1,1,1,1,1])] [.opq 1,i64 (.lit 0),.opq 3,.opq 4,i64 (.lit 0),.opq 22,.agg [i64 (.lit 0),i64 (.lit 0),i64 (.lit 0),i64 (.lit 0)],.slice (some ⟨(.dyn 100),(.lit 0)⟩) (.lit 2) (.lit 2)] [(100,.cells [i8 (.lit 1),i64 (.lit 1),i8 (.lit 1),i64 (.lit 4)] 30)]:=⟨fun st=>by kernel_rfl,fun st=>by kernel_rfl,by kernel_rfl,of_decide_eq_true (by kernel_rfl)⟩
theorem lvE:OpC 72 (opsOf (q6 [1,1,1,1,0])) 5 [(22,.opq 22),(23,.opq 23),(26,.opq 26)] 9 [.opq 22,.opq 23,.opq 26] 27:=⟨fun st=>by kernel_rfl,fun st=>by kernel_rfl,fun st=>by kernel_rfl,by kernel_rfl,by decide,rfl⟩
theorem lvF:Pc 6 72 [.inRegion (opsOf (q6 [1,1,1,1,0])) [6,7,8,9,10],.code (q6 [1,1,1,1,1])] ([(1,.slice (some ⟨(.dyn 73),(.lit 0)⟩) (.lit 2) (v 81)),(2,i64 (.lit 0)),(3,.slice (some ⟨(.dyn 72),(.lit 0)⟩) (.lit 1) (.lit 1)),(4,.slice (some ⟨(.dyn 74),(.lit 0)⟩) (.lit 2) (v 82)),(5,i64 (.lit 0)),(27,.tuple [i64 (.lit 30),i64 (.lit 1)])]) [] [(⟨(.dyn 73),(.lit 2)⟩,i8 (.lit 1)),(⟨(.dyn 73),(.lit 3)⟩,i64 (.lit 3)),(⟨(.dyn 74),(.lit 1)⟩,i64 (.lit 1))] [] 52 [] [0] [.code .ret] [TB] []:=⟨fun st=>by kernel_rfl,fun st=>by kernel_rfl,by kernel_rfl,of_decide_eq_true (by kernel_rfl)⟩
noncomputable def lfnV(K X G:Nat):Value:=(AV.func (.func 27) [] [ptr0 61,ptr0 64,ptr0 62]).ev (mkE [] [(61,K),(64,X),(62,G)] [])
section
variable {w w0:World}{cs:List Frame}{fr:Frame}
theorem map_off{M:Nat}{es:List (Value×Value)}{a:Addr}{v:Value}(h:(Blk.map es).at Try.prog w M)(hc:w.cell? a=some v):M≠a.block:=fun e=>by
 obtain⟨arr,clk,h1,h2⟩:=h
 unfold World.cell? at hc
 rw[<-e,h1]at hc
 cases hc
theorem ent27c:enterA Try.prog 27 [.opq 0,.opq 1,.opq 2,.opq 3] .normal=.ok ⟨27,41,entT 27 [.opq 0,.opq 1,.opq 2,.opq 3],[.code (bodyOf Try.f27)],[],.run,.normal⟩:=by kernel_rfl
theorem AllM.keepG{ρ:Env}{w w':World}(f:∀a v,w.cell? a=some v->w'.cell? a=some v):∀{l:List (AA×AV)},AllM ρ w l->AllM ρ w' l
 |[],_=>trivial
 |p::r,h=>⟨f _ _ h.1,AllM.keepG f h.2⟩
theorem lev1_all{P A C X M K G:Nat}(h:AllM (prE P A C) w prM)(hX:w.cell? ⟨X,0,none⟩=some (slV P 0 2 2))(hM:(Blk.map [(iV 0,iV 0)]).at Try.prog w M)(hK:w.cell? ⟨K,0,none⟩=some (.map (some M)))(hG:w.cell? ⟨G,0,none⟩=some (lfnV K X G)):
  Ans 27 #[iV 1,ptrV K,ptrV X,ptrV G] w fun v w'=>v=iV 1∧Keeps (fun x=>w.heap.size≤x∨x=M) w w':=by
 refine ans_of fun cs=>?_
 obtain⟨O,hO⟩:∃O:Nat->Prop,O=fun x=>w.heap.size≤x∨x=M:=⟨_,rfl⟩
 rw[<-hO]
 have kc:∀{w':World},Keeps O w w'->∀a v,w.cell? a=some v->w'.cell? a=some v:=fun{w'} kp a v hc=>cell_keep kp hc (by
  rw[hO]
  intro hh
  rcases hh with hh|hh
  ·have:=cellLt hc
   omega
  ·exact map_off hM hc hh.symm)
 obtain⟨ρ,hρ⟩:∃ρ:Nat->Env,ρ=fun B=>mkE [] [(50,P),(70,A),(71,C),(64,X),(61,K),(62,G),(60,M),(72,B)] []:=⟨_,rfl⟩
 have mm:∀{w':World} (B:Nat),Keeps O w w'->AllM (ρ B) w' (prM++[(⟨.dyn 64,.lit 0⟩,.slice (some ⟨.dyn 50,.lit 0⟩) (.lit 2) (.lit 2)),(⟨.dyn 61,.lit 0⟩,.map (some (.dyn 60))),(⟨.dyn 62,.lit 0⟩,.func (.func 27) [] [ptr0 61,ptr0 64,ptr0 62])]):=fun{w'} B kp=>by
  rw[hρ]
  exact AllM.app (l:=prM) (AllM.keepG (kc kp) h) ⟨kc kp _ _ hX,kc kp _ _ hK,kc kp _ _ hG,trivial⟩
 have pre:∀{w':World} (B:Nat),(Blk.map [(iV 0,iV 0)]).at Try.prog w' M->AllO (ρ B) w' [(60,.map [(i64 (.lit 0),i64 (.lit 0))])]:=fun{w'} B hm=>⟨⟨.map [(iV 0,iV 0)],by rw[hρ];exact hm,rfl⟩,trivial⟩
 have e60:∀B,(ρ B).b 60=M:=fun B=>by rw[hρ];rfl
 have off:∀{w':World} {l:List (AA×AV)} (B:Nat),(Blk.map [(iV 0,iV 0)]).at Try.prog w' M->AllM (ρ B) w' l->∀p∈l,∀x∈[((60,.map [(i64 (.lit 0),i64 (.lit 0))]):Nat×ABlk)],(ρ B).b x.1≠(p.1.ev (ρ B)).block:=fun{w' l} B hm hmm p hp x hx=>by
  obtain rfl:=List.mem_singleton.1 hx
  rw[e60]
  exact map_off hm (hmm.mem p hp)
 have own:∀{w':World} (B:Nat) {q:Nat},Keeps O w w'->ownP (ρ B) w' [(60,.map [(i64 (.lit 0),i64 (.lit 0))])] q->O q:=fun{w'} B {q} kp hq=>by
  rw[hO]
  rcases hq with hh|⟨p,hp,e⟩
  ·exact .inl (Nat.le_trans kp.size hh)
  ·obtain rfl:=List.mem_singleton.1 hp
   exact .inr (e.symm.trans (e60 B))
 have k0:Keeps O w w:=Keeps.refl _ _
 refine(lf1.goW (ρ 0) (enter4 ent27c rfl (iV 1) (ptrV K) (ptrV X) (ptrV G)) (by rw[hρ];rfl) trivial (mm 0 k0) (off 0 hM (mm 0 k0)) (pre 0 hM) one_nodup).trans fun g1 w1 hd=>?_
 obtain⟨I,B,fr1,rfl,kp1,F1,bl1,_⟩:=hd
 have k1:Keeps O w w1:=kp1.mono fun q hq=>own 0 k0 hq
 have hM1:(Blk.map [(iV 0,iV 0)]).at Try.prog w1 M:=by
  have:=bl1.1.2
  rw[hρ]at this
  exact this
 rw[hρ]at F1
 refine(lf2.go (mkE [] [] [(23,letV letB (slV C 0 3 3))]) (Q:=fun v w'=>∃B,v=slV B 0 1 1∧w'.cell? ⟨B,0,none⟩=some (iV 0)) F1 rfl fun w' f2=>(needsB_all ((AllM.keepG (kc k1) h).keep f2)).mono fun v w2 hd=>⟨hd.1,by
  obtain⟨B,h1,h2,h3⟩:=hd.2
  exact⟨B,h2,h3⟩⟩).trans fun g2 w2 hd2=>?_
 obtain⟨fr2,vv,rfl,f2,⟨B2,rfl,hB2⟩,F2⟩:=hd2
 have kf:∀{a b:World},Keeps O w a->Fresh a b->Keeps O w b:=fun{a b} k f=>k.trans (f.mono fun q hq=>by
  rw[hO]
  exact .inl (Nat.le_trans k.size hq))
 have k2:=kf k1 f2
 have hM2:=blk_keep (k:=.map _) hM1 f2
 have m2:AllM (ρ B2) w2 (prM++[(⟨.dyn 64,.lit 0⟩,.slice (some ⟨.dyn 50,.lit 0⟩) (.lit 2) (.lit 2)),(⟨.dyn 61,.lit 0⟩,.map (some (.dyn 60))),(⟨.dyn 62,.lit 0⟩,.func (.func 27) [] [ptr0 61,ptr0 64,ptr0 62])]++[(⟨.dyn 72,.lit 0⟩,i64 (.lit 0))]):=AllM.app (mm B2 k2) ⟨by rw[hρ];exact hB2,trivial⟩
 refine(lf3.goW (ρ B2) F2 (by rw[hρ];rfl) trivial m2 (off B2 hM2 m2) (pre B2 hM2) one_nodup).trans fun g3 w3 hd3=>?_
 obtain⟨I3,B3,fr3,rfl,kp3,F3,bl3,_⟩:=hd3
 have k3:Keeps O w w3:=k2.trans (kp3.mono fun q hq=>own B2 k2 hq)
 have hM3:(Blk.map [(iV 0,iV 0)]).at Try.prog w3 M:=by
  have:=bl3.1.2
  rw[hρ]at this
  exact this
 have hB3:w3.cell? ⟨B2,0,none⟩=some (iV 0):=cell_keep kp3 hB2 fun hh=>by
  rcases hh with hh|⟨p,hp,e⟩
  ·have:=cellLt hB2
   have:B2<w2.heap.size:=this
   have hh:w2.heap.size≤B2:=hh
   omega
  ·obtain rfl:=List.mem_singleton.1 hp
   exact map_off hM2 hB2 ((e60 B2).symm.trans e)
 rw[hρ]at F3
 refine(lf4.go (R:=fun y w'=>y=iV 1∧w'=w3) (mkE [] [] []) F3 (by decide) rfl fun tm htm x' e1 e2=>?_).trans fun g4 w4 hd4=>?_
 ·unfold execOp
  simp only[e1,e2,resolve,wq_bind,wq_pure,invoke,builtin]
  rw[show Array.map (⟨tm,[]⟩:Act).eval #[Operand.tmp 30,Operand.tmp 34]=#[(⟨tm,[]⟩:Act).eval (.tmp 30),(⟨tm,[]⟩:Act).eval (.tmp 34)]from by simp]
  rw[htm 30 (iV 0) rfl,htm 34 (iV 1) rfl]
  simp only[Builtin.max_,iV,List.foldlM_cons,List.foldlM_nil,Builtin.max2,wq_bind,wq_pure]
  exact⟨_,rfl,rfl,trivial⟩
 obtain⟨fr4,y,rfl,⟨rfl,rfl⟩,F4⟩:=hd4
 have m4:AllM (ρ B2) w4 (prM++[(⟨.dyn 64,.lit 0⟩,.slice (some ⟨.dyn 50,.lit 0⟩) (.lit 2) (.lit 2)),(⟨.dyn 61,.lit 0⟩,.map (some (.dyn 60))),(⟨.dyn 62,.lit 0⟩,.func (.func 27) [] [ptr0 61,ptr0 64,ptr0 62])]++[(⟨.dyn 72,.lit 0⟩,i64 (.lit 0))]):=AllM.app (mm B2 k3) ⟨by rw[hρ];exact hB3,trivial⟩
 refine(lf5.goW (ρ B2) F4 (by rw[hρ];rfl) trivial m4 (off B2 hM3 m4) (pre B2 hM3) one_nodup).trans fun g5 w5 hd5=>?_
 obtain⟨I5,B5,fr5,rfl,kp5,F5,bl5,_⟩:=hd5
 have k5:Keeps O w w5:=k3.trans (kp5.mono fun q hq=>own B2 k3 hq)
 refine(leave1 ret27 F5 rfl).mono fun g6 w6 hd6=>?_
 obtain⟨fr6,rfl,rfl,hL⟩:=hd6
 exact⟨fr6,_,rfl,hL,rfl,k5⟩
end
section
variable {w w0:World}{cs:List Frame}{fr:Frame}
theorem Levels_all{P A C:Nat}(h:AllM (prE P A C) w prM):Ans 12 #[pairV P] w fun v w'=>Fresh w w'∧∃B c,v=.tuple #[slV B 0 2 c,iV 0]∧w'.cell? ⟨B,1,none⟩=some (iV 1)∧w.heap.size≤B:=by
 refine ans_of fun cs=>?_
 refine(ll1.go (mkE [] [(50,P)] []) (enter1 ent12 rfl (pairV P)) rfl trivial trivial).trans fun g1 w1 hd=>?_
 obtain⟨I,B,fr1,rfl,f1,F1,bl,_⟩:=hd
 obtain⟨X,eX⟩:∃X,B 100=X:=⟨_,rfl⟩
 have hX:(Blk.obj 25 [slV P 0 2 2,nilV]).at Try.prog w1 X:=by rw[<-eX];exact bl.1.2
 have F1':FA 12 34 (.inRegion (opsOf (q12 [1,0,0])) [1,2,3,4,5,6]::[.code (q12 [1,0,1]),.code (q12 [1,1])]) [] .normal [(1,ptrV X),(11,pairV P)] fr1:=by rw[<-eX];exact F1
 refine(ll2.go (mkE [] [] [(11,pairV P)]) (Q:=fun v w'=>v=.tuple #[iV 0,iV 0]) F1' rfl fun w' f2=>(check_all (pair_flow (h.keep (f1.trans f2))) (by decide) (by decide)).mono fun v w2 hd=>⟨hd.1,by
  have:=hd.2
  rw[pair_chk]at this
  exact this⟩).trans fun g2 w2 hd2=>?_
 obtain⟨fr2,vv,rfl,f2,rfl,F2⟩:=hd2
 have f12:=f1.trans f2
 have hX2:=f2.cell (blk_cell hX (i:=0) rfl)
 refine(ll3.go (mkE [] [(50,P),(64,X),(70,A),(71,C)] []) F2 rfl trivial (AllM.app (l:=prM) (l':=[(⟨.dyn 64,.lit 0⟩,.slice (some ⟨.dyn 50,.lit 0⟩) (.lit 2) (.lit 2))]) (h.keep f12) ⟨hX2,trivial⟩)).trans fun g3 w3 hd3=>?_
 obtain⟨I,B,fr3,rfl,f3,F3,bl3,inj⟩:=hd3
 obtain⟨M,eM⟩:∃M,B 100=M:=⟨_,rfl⟩
 obtain⟨K,eK⟩:∃K,B 101=K:=⟨_,rfl⟩
 obtain⟨Gb,eG⟩:∃Gb,B 102=Gb:=⟨_,rfl⟩
 obtain⟨D,eD⟩:∃D,B 107=D:=⟨_,rfl⟩
 have hD:(Blk.vec 3 (I 107).toNat [iV 0]).at Try.prog w3 D:=by rw[<-eD];exact bl3.1.2
 have hG:(Blk.obj 70 [lfnV K X Gb]).at Try.prog w3 Gb:=by rw[<-eG,<-eK];exact bl3.2.1.2
 have hK:(Blk.obj 69 [.map (some M)]).at Try.prog w3 K:=by rw[<-eK,<-eM];exact bl3.2.2.1.2
 have hM:(Blk.map [(iV 0,iV 0)]).at Try.prog w3 M:=by rw[<-eM];exact bl3.2.2.2.1.2
 have gD:w2.heap.size≤D:=by rw[<-eD];exact bl3.1.1
 have gM:w2.heap.size≤M:=by rw[<-eM];exact bl3.2.2.2.1.1
 have f13:=f12.trans f3
 obtain⟨c,ec⟩:∃c,(I 107).toNat=c:=⟨_,rfl⟩
 rw[ec]at hD
 have F3':FA 12 34 (.inRegion (opsOf (q12 [1,1,1,1,1,1,0,1,0,0,1,1,0,0,1])) [3,4,5,6]::[.inBlock 1,.code (q12 [1,1,1,1,1,1,0,1,0,0,1,1,1]),.inLoop (q12 [1,1,1,1,1,1,0,1,0,0]),.inBlock 0,.code (q12 [1,1,1,1,1,1,1])]) [] .normal [(1,ptrV X),(7,ptrV Gb),(8,slV D 0 1 c),(22,iV 2),(23,iV 1),(24,.bool true),(25,iV 1),(26,slV D 0 1 c),(27,lfnV K X Gb),(28,iV 1)] fr3:=by
  rw[<-ec,<-eD,<-eG,<-eK]
  exact F3
 refine(op_call (ρ:=mkE [] [(61,K),(64,X),(62,Gb)] []) (bs:=[]) (mem:=[]) (Q:=fun v w'=>v=iV 1∧Keeps (fun x=>w3.heap.size≤x∨x=M) w3 w') F3' (fun p hp=>?_) ll4.want ll4.op ll4.low (nofun) (nofun) ll4.dst ll4.dlt ll4.alow fun w' f4=>?_).trans fun g4 w4 hd4=>?_
 ·simp only[told,List.map_cons,List.map_nil,List.mem_cons,List.not_mem_nil,or_false]at hp
  rcases hp with rfl|rfl
  ·exact lookV_mem rfl
  ·exact lookV_mem rfl
 ·refine(lev1_all (P:=P) (A:=A) (C:=C) (M:=M) (h.keep (f13.trans f4)) ((f3.trans f4).cell hX2) (blk_keep (k:=.map _) hM f4) (f4.cell (blk_cell hK (i:=0) rfl)) (f4.cell (blk_cell hG (i:=0) rfl))).mono fun v w2 hd=>⟨hd.1,?_⟩
  exact(f4.mono fun q hq=>.inl hq).trans (hd.2.mono fun q hq=>hq.imp (fun hq=>Nat.le_trans f4.size hq) id)
 obtain⟨fr4,vv,rfl,⟨rfl,k4⟩,F4⟩:=hd4
 have hMD:M≠D:=fun e=>by
  have hd0:w3.cell? ⟨D,0,none⟩=some (iV 0):=Blk.at_cell hD rfl
  exact map_off hM hd0 e
 have hD4:(Blk.vec 3 c [iV 0]).at Try.prog w4 D:=Blk.at_keep hD k4 fun hh=>by
  rcases hh with hh|hh
  ·have:=Blk.at_lt hD
   omega
  ·exact hMD hh.symm
 have hX4:w4.cell? ⟨X,0,none⟩=some (slV P 0 2 2):=cell_keep k4 (f3.cell hX2) fun hh=>by
  have h3:=f3.cell hX2
  have:=cellLt h3
  have:X<w3.heap.size:=this
  rcases hh with hh|hh
  ·have hh:w3.heap.size≤X:=hh
   omega
  ·exact map_off hM h3 hh.symm
 obtain⟨ρ,hρ⟩:∃ρ:Env,ρ=mkE [(8,1),(57,c)] [(64,X),(62,Gb),(52,D),(50,P)] [(65,.agg #[iV 0])]:=⟨_,rfl⟩
 refine(ll5.goW ρ F4 (by rw[hρ];rfl) ⟨by
  rw[hρ]
  show decide ((((1:Int).toNat:Nat):Int)+1≤1048576)=true
  exact decide_eq_true (by omega),trivial⟩ ⟨by rw[hρ];exact hX4,trivial⟩ (fun p hp x hx=>?_) ⟨⟨.vec 3 c [iV 0],by rw[hρ];exact hD4,rfl,by rw[hρ];rfl,fun inf hinf=>?_,(nofun),by rw[hρ];rfl⟩,trivial⟩ one_nodup).trans fun g5 w5 hd5=>?_
 ·obtain rfl:=List.mem_singleton.1 hp
  obtain rfl:=List.mem_singleton.1 hx
  rw[hρ]
  show D≠X
  intro e
  have:=Blk.at_lt (blk_keep hX f2)
  omega
 ·rw[size3 inf hinf,hρ];rfl
 obtain⟨I5,B5,fr5,rfl,kp5,F5,bl5,_⟩:=hd5
 have own:∀q,ownP ρ w4 [(52,.pre false 65 (v 8) [] [] [] 3 (v 57))] q->w4.heap.size≤q∨q=D:=fun q hq=>by
  rcases hq with hh|⟨p,hp,e⟩
  ·exact .inl hh
  ·obtain rfl:=List.mem_singleton.1 hp
   have e:ρ.b 52=q:=e
   rw[hρ]at e
   exact .inr e.symm
 have hR:(Blk.vec 3 (I5 101).toNat [iV 0,iV 1]).at Try.prog w5 (B5 101):=by
  have:=bl5.1.2
  rw[hρ]at this
  exact this
 have gR:w.heap.size≤B5 101:=by
  have h1:=f12.size
  have h2:=f3.size
  have h3:=k4.size
  have h4:w4.heap.size≤B5 101∨B5 101=D:=own _ bl5.1.1
  rcases h4 with h4|h4<;>omega
 have f5:Fresh w w5:=fresh_keeps (fresh_keeps f13 (k4.mono fun q hq=>by
  have h1:=f12.size
  have h2:=f13.size
  rcases hq with hq|hq<;>omega)) (kp5.mono fun q hq=>by
  have h1:=f12.size
  have h2:=f3.size
  have h3:=k4.size
  rcases own q hq with hq|hq<;>omega)
 have F5':FA 12 34 (.code .ret::[]) [] .normal [(2,slV (B5 101) 0 2 (I5 101).toNat),(3,iV 0)] fr5:=by
  rw[hρ]at F5
  exact F5
 refine(leave2 ret12 F5' rfl rfl).mono fun g6 w6 hd6=>?_
 obtain⟨fr6,rfl,rfl,hL⟩:=hd6
 exact⟨fr6,_,rfl,hL,f5,B5 101,(I5 101).toNat,rfl,Blk.at_cell hR rfl,gR⟩
theorem lives_all:Ans 6 #[] w fun v w'=>Fresh w w'∧v=.bool true:=by
 refine ans_of fun cs=>?_
 refine(lv1.go (mkE [] [] []) (enter0 ent6) rfl trivial trivial).trans fun g1 w1 hd=>?_
 obtain⟨I,B,fr1,rfl,f1,F1,_⟩:=hd
 let PQ:Value->World->Prop:=fun v w'=>∃P A C,v=pairV P∧AllM (prE P A C) w' prM
 refine(lv2.go (mkE [] [] []) (Q:=PQ) F1 rfl fun w' f2=>pair_all).trans fun g2 w2 hd2=>?_
 obtain⟨fr2,vv,rfl,f2,⟨P,A,C,rfl,hP⟩,F2⟩:=hd2
 refine(lv3.go (mkE [] [] [(9,pairV P)]) F2 rfl trivial trivial).trans fun g3 w3 hd3=>?_
 obtain⟨I,B,fr3,rfl,f3,F3,_⟩:=hd3
 refine(lv4.go (mkE [] [] [(9,pairV P),(10,makerV ⟨0,0,0,0⟩)]) (Q:=fun v w'=>∃B c,v=.tuple #[slV B 0 2 c,iV 0]∧w'.cell? ⟨B,2,none⟩=some (i8V 1)∧w'.cell? ⟨B,3,none⟩=some (iV 3)) F3 rfl fun w' f4=>(plain_all (pair_flow (hP.keep (f3.trans f4))) (by decide) (by decide)).mono fun v w2 hd=>⟨hd.1,by
  obtain⟨s,h1,h2⟩:=hd.2
  rw[pair_plain]at h1 h2
  rcases h2 with⟨_,h3⟩|⟨_,B,c,h3,_,h4⟩
  ·cases h3
  ·exact⟨B,c,by rw[h1,h3];rfl,Blk.at_cell h4 rfl,Blk.at_cell h4 rfl⟩⟩).trans fun g4 w4 hd4=>?_
 obtain⟨fr4,vv,rfl,f4,⟨D,c,rfl,d2,d3⟩,F4⟩:=hd4
 refine(lv5.go (mkE [] [] [(11,slV D 0 2 c)]) F4 rfl trivial trivial).trans fun g5 w5 hd5=>?_
 obtain⟨I,B,fr5,rfl,f5,F5,_⟩:=hd5
 refine(lv6.go (mkE [] [] []) (Q:=PQ) F5 rfl fun w' f2=>pair_all).trans fun g6 w6 hd6=>?_
 obtain⟨fr6,vv,rfl,f6,⟨P',A',C',rfl,hP'⟩,F6⟩:=hd6
 refine(lv7.go (mkE [] [] [(14,pairV P')]) (Q:=fun v w'=>∃B,v=slV B 0 1 1) F6 rfl fun w' f7=>(Needs_all (hP'.keep f7)).mono fun v w2 hd=>⟨hd.1,by
  obtain⟨B,_,h2,_⟩:=hd.2
  exact⟨B,h2⟩⟩).trans fun g7 w7 hd7=>?_
 obtain⟨fr7,vv,rfl,f7,⟨N,rfl⟩,F7⟩:=hd7
 refine(lv8.go (mkE [] [] [(1,slV D 0 2 c),(15,slV N 0 1 1)]) F7 rfl trivial trivial).trans fun g8 w8 hd8=>?_
 obtain⟨I,B,fr8,rfl,f8,F8,_⟩:=hd8
 refine(lv9.go (mkE [] [] []) (Q:=PQ) F8 rfl fun w' f2=>pair_all).trans fun g9 w9 hd9=>?_
 obtain⟨fr9,vv,rfl,f9,⟨P2,A2,C2,rfl,hP2⟩,F9⟩:=hd9
 refine(lvA.go (mkE [] [] [(17,pairV P2)]) (Q:=fun v w'=>∃B c,v=.tuple #[slV B 0 2 c,iV 0]∧w'.cell? ⟨B,1,none⟩=some (iV 1)) F9 rfl fun w' fA=>(Levels_all (hP2.keep fA)).mono fun v w2 hd=>⟨hd.1,by
  obtain⟨B,c,h1,h2,_⟩:=hd.2
  exact⟨B,c,h1,h2⟩⟩).trans fun gA wA hdA=>?_
 obtain⟨frA,vv,rfl,fA,⟨L,c2,rfl,l1⟩,FA'⟩:=hdA
 refine(lvB.go (mkE [] [] [(1,slV D 0 2 c),(3,slV N 0 1 1),(18,slV L 0 2 c2)]) FA' rfl trivial trivial).trans fun gB wB hdB=>?_
 obtain⟨I,B,frB,rfl,fB,FB',_⟩:=hdB
 refine(lvC.go (mkE [] [] []) (Q:=PQ) FB' rfl fun w' f2=>pair_all).trans fun gC wC hdC=>?_
 obtain⟨frC,vv,rfl,fC,⟨P3,A3,C3,rfl,hP3⟩,FC⟩:=hdC
 refine(lvD.go (mkE [] [] [(1,slV D 0 2 c),(3,slV N 0 1 1),(4,slV L 0 2 c2),(22,pairV P3)]) FC rfl trivial trivial).trans fun gD wD hdD=>?_
 obtain⟨I,B,frD,rfl,fD,FD,blD,_⟩:=hdD
 obtain⟨Eb,eE⟩:∃Eb,B 100=Eb:=⟨_,rfl⟩
 have hE:(Blk.obj 30 [i8V 1,iV 1,i8V 1,iV 4]).at Try.prog wD Eb:=by rw[<-eE];exact blD.1.2
 have FD':FA 6 72 (.inRegion (opsOf (q6 [1,1,1,1,0])) [5,6,7,8,9,10]::[.code (q6 [1,1,1,1,1])]) [] .normal [(1,slV D 0 2 c),(2,iV 0),(3,slV N 0 1 1),(4,slV L 0 2 c2),(5,iV 0),(22,pairV P3),(23,makerV ⟨0,0,0,0⟩),(26,slV Eb 0 2 2)] frD:=by
  rw[<-eE];exact FD
 have hEnds:EndsAt wD (slV Eb 0 2 2) [(1,1),(1,4)]:=⟨false,Eb,0,2,rfl,(fun h=>by cases h),fun _=>Nat.le_refl _,fun i e he=>by
  match i,he with
  |0,he=>
   obtain rfl:((1:Int),(1:Int))=e:=Option.some.inj he
   exact⟨blk_cell hE (i:=0) rfl,blk_cell hE (i:=1) rfl⟩
  |1,he=>
   obtain rfl:((1:Int),(4:Int))=e:=Option.some.inj he
   exact⟨blk_cell hE (i:=2) rfl,blk_cell hE (i:=3) rfl⟩
  |i+2,he=>cases he⟩
 refine(lvE.go (mkE [] [] [(22,pairV P3),(23,makerV ⟨0,0,0,0⟩),(26,slV Eb 0 2 2)]) (Q:=fun v w'=>v=.tuple #[iV 30,iV 1]) FD' rfl fun w' fE=>(Fits_all (m:=⟨0,0,0,0⟩) (pair_flow (hP3.keep (fD.trans fE))) (hEnds.keep fE) (by rw[pair_chk]) (fun i x hi=>?_) rfl (by decide) (by decide) (by decide)).mono fun v w2 hd=>⟨hd.1,by
  have:=hd.2
  rw[pair_fits]at this
  exact this⟩).trans fun gE wE hdE=>?_
 ·match i,hi with
  |0,hi=>
   obtain rfl:letA=x:=Option.some.inj hi
   rfl
  |1,hi=>
   obtain rfl:letB=x:=Option.some.inj hi
   rfl
  |i+2,hi=>cases hi
 obtain⟨frE,vv,rfl,fE,rfl,FE⟩:=hdE
 have g1:=f5.trans (f6.trans (f7.trans (f8.trans (f9.trans (fA.trans (fB.trans (fC.trans (fD.trans fE))))))))
 have g2:=fB.trans (fC.trans (fD.trans fE))
 refine(lvF.go (mkE [(81,c),(82,c2)] [(73,D),(72,N),(74,L)] []) FE rfl trivial ⟨g1.cell d2,g1.cell d3,g2.cell l1,trivial⟩).trans fun gF wF hdF=>?_
 obtain⟨I,B,frF,rfl,fF,FF,_⟩:=hdF
 refine(leave1 ret6 FF rfl).mono fun gG wG hdG=>?_
 obtain⟨frG,rfl,rfl,hL⟩:=hdG
 exact⟨frG,_,rfl,hL,f1.trans (f2.trans (f3.trans (f4.trans (g1.trans fF)))),rfl⟩
end
noncomputable def q3(l:List Nat):Code:=pc (bodyOf Try.f3) l
theorem ent3:enterA Try.prog 3 [.opq 0,.opq 1,.opq 2,.opq 3] .normal=.ok ⟨3,135,entT 3 [.opq 0,.opq 1,.opq 2,.opq 3],[.code (bodyOf Try.f3)],[],.run,.normal⟩:=by kernel_rfl
theorem ret3:RetC 3 135 8:=fun st=>by kernel_rfl
theorem ga:Pc 3 135 [.code (q3 [])] ([(0,.agg [.opq 8,.opq 9]),(1,.agg [i64 (v 21),i64 (v 22),i64 (v 23),i64 (v 24)]),(2,i64 (v 30)),(3,.agg [i8 (v 31),i64 (v 32)])]) [] [] [] 11 [102,101,100] [2,4,5,7,17] [.inRegion (opsOf (q3 [1,0,0])) [1],.code (q3 [1,0,1]),.code (q3 [1,1])] [i64 (v 30),ptr0 100,ptr0 101,ptr0 102,.agg [.opq 8,.opq 9]] [(102,.cells [i8 (v 31),i64 (v 32)] 30),(101,.cells [i64 (v 21),i64 (v 22),i64 (v 23),i64 (v 24)] 27),(100,.cells [.opq 8,.opq 9] 25)]:=⟨fun st=>by kernel_rfl,fun st=>by kernel_rfl,by kernel_rfl,of_decide_eq_true (by kernel_rfl)⟩
theorem gb:OpC 135 (opsOf (q3 [1,0,0])) 1 [(17,.opq 17)] 5 [.opq 17] 18:=⟨fun st=>by kernel_rfl,fun st=>by kernel_rfl,fun st=>by kernel_rfl,by kernel_rfl,by decide,rfl⟩
theorem gc:Pc 3 135 [.inRegion (opsOf (q3 [1,0,0])) [],.code (q3 [1,0,1]),.code (q3 [1,1])] ([(18,TB)]) [] [] [] 4 [] [] [.inRegion (opsOf (q3 [1,0,1,0,0])) [0,1],.code .ret,.code (q3 [1,1])] [] []:=⟨fun st=>by kernel_rfl,fun st=>by kernel_rfl,by kernel_rfl,of_decide_eq_true (by kernel_rfl)⟩
theorem gd:OpC 135 (opsOf (q3 [1,0,1,0,0])) 0 [] 6 [] 19:=⟨fun st=>by kernel_rfl,fun st=>by kernel_rfl,fun st=>by kernel_rfl,by kernel_rfl,by decide,rfl⟩
theorem ge:Pc 3 135 [.inRegion (opsOf (q3 [1,0,1,0,0])) [1],.code .ret,.code (q3 [1,1])] ([(19,.opq 19)]) [] [] [] 2 [] [8] [.code .ret,.code (q3 [1,1])] [.opq 19] []:=⟨fun st=>by kernel_rfl,fun st=>by kernel_rfl,by kernel_rfl,of_decide_eq_true (by kernel_rfl)⟩
theorem gf:Pc 3 135 [.inRegion (opsOf (q3 [1,0,0])) [],.code (q3 [1,0,1]),.code (q3 [1,1])] ([(2,i64 (v 30)),(4,ptr0 64),(5,ptr0 65),(7,ptr0 66),(18,FB)]) [] [] [] 4 [] [2,4,5,7] [.code (q3 [1,1,0]),.code (q3 [1,1,1])] [i64 (v 30),ptr0 64,ptr0 65,ptr0 66] []:=⟨fun st=>by kernel_rfl,fun st=>by kernel_rfl,by kernel_rfl,of_decide_eq_true (by kernel_rfl)⟩
theorem h3_0:OpV 135 (opsOf (q3 [1,1,0])) 0 [] [(⟨(.dyn 64),(.lit 0)⟩,.opq 8),(⟨(.dyn 64),(.lit 1)⟩,.opq 9)] [(4,ptr0 64)] (.agg [.opq 8,.opq 9]) 21:=⟨fun st=>by kernel_rfl,fun st=>by kernel_rfl,fun st=>by kernel_rfl,by kernel_rfl,rfl⟩
theorem h3_1:OpC 135 (opsOf (q3 [1,1,0])) 1 [(21,.opq 21)] 8 [.opq 21] 22:=⟨fun st=>by kernel_rfl,fun st=>by kernel_rfl,fun st=>by kernel_rfl,by kernel_rfl,by decide,rfl⟩
theorem h3_2:OpV 135 (opsOf (q3 [1,1,0])) 2 [] [(⟨(.dyn 65),(.lit 0)⟩,i64 (v 21)),(⟨(.dyn 65),(.lit 1)⟩,i64 (v 22)),(⟨(.dyn 65),(.lit 2)⟩,i64 (v 23)),(⟨(.dyn 65),(.lit 3)⟩,i64 (v 24))] [(5,ptr0 65)] (.agg [i64 (v 21),i64 (v 22),i64 (v 23),i64 (v 24)]) 23:=⟨fun st=>by kernel_rfl,fun st=>by kernel_rfl,fun st=>by kernel_rfl,by kernel_rfl,rfl⟩
theorem h3_3:OpC 135 (opsOf (q3 [1,1,0])) 3 [(22,.opq 22),(23,.opq 23)] 7 [.opq 22,.opq 23] 24:=⟨fun st=>by kernel_rfl,fun st=>by kernel_rfl,fun st=>by kernel_rfl,by kernel_rfl,by decide,rfl⟩
theorem h3_4:OpV 135 (opsOf (q3 [1,1,0])) 4 [] [] [(24,.opq 24)] (.opq 24) 20:=⟨fun st=>by kernel_rfl,fun st=>by kernel_rfl,fun st=>by kernel_rfl,by kernel_rfl,rfl⟩
theorem h3_5:OpV 135 (opsOf (q3 [1,1,0])) 5 [] [] [(20,.tuple [.opq 1,.opq 2])] (.opq 1) 25:=⟨fun st=>by kernel_rfl,fun st=>by kernel_rfl,fun st=>by kernel_rfl,by kernel_rfl,rfl⟩
theorem h3_6:OpV 135 (opsOf (q3 [1,1,0])) 6 [] [] [(20,.tuple [.opq 1,.opq 2])] (.opq 2) 26:=⟨fun st=>by kernel_rfl,fun st=>by kernel_rfl,fun st=>by kernel_rfl,by kernel_rfl,rfl⟩
theorem h3_7:OpV 135 (opsOf (q3 [1,1,0])) 7 [] [] [(25,.opq 25)] (.opq 25) 9:=⟨fun st=>by kernel_rfl,fun st=>by kernel_rfl,fun st=>by kernel_rfl,by kernel_rfl,rfl⟩
theorem h3_8:OpV 135 (opsOf (q3 [1,1,0])) 8 [] [] [(26,.opq 26)] (.opq 26) 10:=⟨fun st=>by kernel_rfl,fun st=>by kernel_rfl,fun st=>by kernel_rfl,by kernel_rfl,rfl⟩
theorem gg:Pc 3 135 [.inRegion (opsOf (q3 [1,1,0])) [],.code (q3 [1,1,1])] ([(9,nilA),(10,i64 (v 5))]) [((.cmp .neq (v 5) (.lit 0)),true)] [] [] 14 [] [32] [.inRegion (opsOf (q3 [1,1,1,0,1,0,0])) [4,5,6],.code .ret,.code (q3 [1,1,1,1])] [TB] []:=⟨fun st=>by kernel_rfl,fun st=>by kernel_rfl,by kernel_rfl,of_decide_eq_true (by kernel_rfl)⟩
theorem gh:OpC 135 (opsOf (q3 [1,1,1,0,1,0,0])) 4 [(32,TB)] 6 [] 33:=⟨fun st=>by kernel_rfl,fun st=>by kernel_rfl,fun st=>by kernel_rfl,by kernel_rfl,by decide,rfl⟩
theorem gi:Pc 3 135 [.inRegion (opsOf (q3 [1,1,1,0,1,0,0])) [5,6],.code .ret,.code (q3 [1,1,1,1])] ([(32,TB),(33,TB)]) [] [] [] 3 [] [8] [.code .ret,.code (q3 [1,1,1,1])] [TB] []:=⟨fun st=>by kernel_rfl,fun st=>by kernel_rfl,by kernel_rfl,of_decide_eq_true (by kernel_rfl)⟩
theorem gj(z y:Bool):Pc 3 135 [.inRegion (opsOf (q3 [1,1,0])) [],.code (q3 [1,1,1])] ([(2,i64 (v 30)),(4,ptr0 64),(5,ptr0 65),(7,ptr0 66),(9,slZ y 80 83 81 82),(10,i64 (v 5))]) [((.cmp .neq (v 5) (.lit 0)),false),((.cmp .neq (lnZ y 81) (lnZ z 51)),false)] [(⟨(.dyn 64),(.lit 0)⟩,slZ z 50 53 51 52)] [] 22 [] [2,4,5,7,9] [.code (q3 [1,1,1,1,1,0]),.code (q3 [1,1,1,1,1,1])] [i64 (v 30),ptr0 64,ptr0 65,ptr0 66,slZ y 80 83 81 82] []:=⟨fun st=>by cases z<;>cases y<;>kernel_rfl,fun st=>by cases z<;>cases y<;>kernel_rfl,by cases z<;>cases y<;>kernel_rfl,of_decide_eq_true (by kernel_rfl)⟩
theorem h8_0:OpV 135 (opsOf (q3 [1,1,1,1,1,0])) 0 [] [(⟨(.dyn 64),(.lit 0)⟩,.opq 8),(⟨(.dyn 64),(.lit 1)⟩,.opq 9)] [(4,ptr0 64)] (.agg [.opq 8,.opq 9]) 42:=⟨fun st=>by kernel_rfl,fun st=>by kernel_rfl,fun st=>by kernel_rfl,by kernel_rfl,rfl⟩
theorem h8_1:OpC 135 (opsOf (q3 [1,1,1,1,1,0])) 1 [(42,.opq 42)] 8 [.opq 42] 43:=⟨fun st=>by kernel_rfl,fun st=>by kernel_rfl,fun st=>by kernel_rfl,by kernel_rfl,by decide,rfl⟩
theorem h8_2:OpV 135 (opsOf (q3 [1,1,1,1,1,0])) 2 [] [(⟨(.dyn 65),(.lit 0)⟩,i64 (v 21)),(⟨(.dyn 65),(.lit 1)⟩,i64 (v 22)),(⟨(.dyn 65),(.lit 2)⟩,i64 (v 23)),(⟨(.dyn 65),(.lit 3)⟩,i64 (v 24))] [(5,ptr0 65)] (.agg [i64 (v 21),i64 (v 22),i64 (v 23),i64 (v 24)]) 44:=⟨fun st=>by kernel_rfl,fun st=>by kernel_rfl,fun st=>by kernel_rfl,by kernel_rfl,rfl⟩
theorem h8_3:OpV 135 (opsOf (q3 [1,1,1,1,1,0])) 3 [] [] [(9,.opq 9)] (.opq 9) 45:=⟨fun st=>by kernel_rfl,fun st=>by kernel_rfl,fun st=>by kernel_rfl,by kernel_rfl,rfl⟩
theorem h8_4:OpC 135 (opsOf (q3 [1,1,1,1,1,0])) 4 [(45,.opq 45)] 10 [.opq 45] 46:=⟨fun st=>by kernel_rfl,fun st=>by kernel_rfl,fun st=>by kernel_rfl,by kernel_rfl,by decide,rfl⟩
theorem h8_5:OpC 135 (opsOf (q3 [1,1,1,1,1,0])) 5 [(43,.opq 43),(44,.opq 44),(46,.opq 46)] 9 [.opq 43,.opq 44,.opq 46] 47:=⟨fun st=>by kernel_rfl,fun st=>by kernel_rfl,fun st=>by kernel_rfl,by kernel_rfl,by decide,rfl⟩
theorem h8_6:OpV 135 (opsOf (q3 [1,1,1,1,1,0])) 6 [] [] [(47,.opq 47)] (.opq 47) 41:=⟨fun st=>by kernel_rfl,fun st=>by kernel_rfl,fun st=>by kernel_rfl,by kernel_rfl,rfl⟩
theorem h8_7:OpV 135 (opsOf (q3 [1,1,1,1,1,0])) 7 [] [] [(41,.tuple [.opq 1,.opq 2])] (.opq 1) 48:=⟨fun st=>by kernel_rfl,fun st=>by kernel_rfl,fun st=>by kernel_rfl,by kernel_rfl,rfl⟩
theorem h8_8:OpV 135 (opsOf (q3 [1,1,1,1,1,0])) 8 [] [] [(41,.tuple [.opq 1,.opq 2])] (.opq 2) 49:=⟨fun st=>by kernel_rfl,fun st=>by kernel_rfl,fun st=>by kernel_rfl,by kernel_rfl,rfl⟩
theorem h8_9:OpV 135 (opsOf (q3 [1,1,1,1,1,0])) 9 [] [] [(48,.opq 48)] (.opq 48) 11:=⟨fun st=>by kernel_rfl,fun st=>by kernel_rfl,fun st=>by kernel_rfl,by kernel_rfl,rfl⟩
theorem h8_10:OpV 135 (opsOf (q3 [1,1,1,1,1,0])) 10 [] [] [(49,.opq 49)] (.opq 49) 12:=⟨fun st=>by kernel_rfl,fun st=>by kernel_rfl,fun st=>by kernel_rfl,by kernel_rfl,rfl⟩
theorem gk:Pc 3 135 [.inRegion (opsOf (q3 [1,1,1,1,1,0])) [],.code (q3 [1,1,1,1,1,1])] ([(2,i64 (v 30)),(4,ptr0 64),(5,ptr0 65),(7,ptr0 66),(9,.opq 9),(11,i64 (.lit 0)),(12,i64 (.lit 0))]) [] [] [] 20 [] [2,4,5,7,9,13] [.code (q3 [1,1,1,1,1,1,1,0,1,0,0]),.inLoop (q3 [1,1,1,1,1,1,1,0,1,0,0]),.inBlock 0,.code (q3 [1,1,1,1,1,1,1,1])] [i64 (v 30),ptr0 64,ptr0 65,ptr0 66,.opq 9,i64 (.lit 0)] []:=⟨fun st=>by kernel_rfl,fun st=>by kernel_rfl,by kernel_rfl,of_decide_eq_true (by kernel_rfl)⟩
theorem gl:Pc 3 135 [.code (q3 [1,1,1,1,1,1,1,0,1,0,0]),.inLoop (q3 [1,1,1,1,1,1,1,0,1,0,0]),.inBlock 0,.code (q3 [1,1,1,1,1,1,1,1])] ([(2,i64 (v 30)),(4,ptr0 64),(5,ptr0 65),(7,ptr0 66),(9,.slice (some ⟨(.dyn 80),(v 83)⟩) (v 81) (v 82)),(13,i64 (v 10))]) [((.cmp .lss (v 10) (.tn (v 81))),true)] [] [] 13 [] [2,4,5,7,9,13] [.code (q3 [1,1,1,1,1,1,1,0,1,0,0,1,0,0,0]),.code (q3 [1,1,1,1,1,1,1,0,1,0,0,1,0,0,1]),.inBlock 1,.code (q3 [1,1,1,1,1,1,1,0,1,0,0,1,1]),.inLoop (q3 [1,1,1,1,1,1,1,0,1,0,0]),.inBlock 0,.code (q3 [1,1,1,1,1,1,1,1])] [i64 (v 30),ptr0 64,ptr0 65,ptr0 66,.slice (some ⟨(.dyn 80),(v 83)⟩) (v 81) (v 82),i64 (v 10)] []:=⟨fun st=>by kernel_rfl,fun st=>by kernel_rfl,by kernel_rfl,of_decide_eq_true (by kernel_rfl)⟩
theorem h14_0:OpV 135 (opsOf (q3 [1,1,1,1,1,1,1,0,1,0,0,1,0,0,0])) 0 [] [(⟨(.dyn 64),(.lit 0)⟩,.opq 8),(⟨(.dyn 64),(.lit 1)⟩,.opq 9)] [(4,ptr0 64)] (.agg [.opq 8,.opq 9]) 63:=⟨fun st=>by kernel_rfl,fun st=>by kernel_rfl,fun st=>by kernel_rfl,by kernel_rfl,rfl⟩
theorem h14_1:OpC 135 (opsOf (q3 [1,1,1,1,1,1,1,0,1,0,0,1,0,0,0])) 1 [(63,.opq 63)] 8 [.opq 63] 64:=⟨fun st=>by kernel_rfl,fun st=>by kernel_rfl,fun st=>by kernel_rfl,by kernel_rfl,by decide,rfl⟩
theorem h14_2:OpV 135 (opsOf (q3 [1,1,1,1,1,1,1,0,1,0,0,1,0,0,0])) 2 [] [] [(13,.opq 13)] (.opq 13) 65:=⟨fun st=>by kernel_rfl,fun st=>by kernel_rfl,fun st=>by kernel_rfl,by kernel_rfl,rfl⟩
theorem h14_3:OpV 135 (opsOf (q3 [1,1,1,1,1,1,1,0,1,0,0,1,0,0,0])) 3 [] [(⟨(.dyn 65),(.lit 0)⟩,i64 (v 21)),(⟨(.dyn 65),(.lit 1)⟩,i64 (v 22)),(⟨(.dyn 65),(.lit 2)⟩,i64 (v 23)),(⟨(.dyn 65),(.lit 3)⟩,i64 (v 24))] [(5,ptr0 65)] (.agg [i64 (v 21),i64 (v 22),i64 (v 23),i64 (v 24)]) 66:=⟨fun st=>by kernel_rfl,fun st=>by kernel_rfl,fun st=>by kernel_rfl,by kernel_rfl,rfl⟩
theorem h14_4:OpV 135 (opsOf (q3 [1,1,1,1,1,1,1,0,1,0,0,1,0,0,0])) 4 [] [] [(9,.opq 9)] (.opq 9) 67:=⟨fun st=>by kernel_rfl,fun st=>by kernel_rfl,fun st=>by kernel_rfl,by kernel_rfl,rfl⟩
theorem h14_5:OpV 135 (opsOf (q3 [1,1,1,1,1,1,1,0,1,0,0,1,0,0,0])) 5 [] [] [(13,.opq 13)] (.opq 13) 68:=⟨fun st=>by kernel_rfl,fun st=>by kernel_rfl,fun st=>by kernel_rfl,by kernel_rfl,rfl⟩
theorem h14_6:OpW 135 (opsOf (q3 [1,1,1,1,1,1,1,0,1,0,0,1,0,0,0])) 6 [] (.slice 33 (.tmp 67) none (some (.tmp 68)) none) 33 (some 69):=⟨fun st=>by kernel_rfl,fun st=>by kernel_rfl,by kernel_rfl⟩
theorem h14_7:OpC 135 (opsOf (q3 [1,1,1,1,1,1,1,0,1,0,0,1,0,0,0])) 7 [(69,.opq 69)] 10 [.opq 69] 70:=⟨fun st=>by kernel_rfl,fun st=>by kernel_rfl,fun st=>by kernel_rfl,by kernel_rfl,by decide,rfl⟩
theorem h14_8:OpC 135 (opsOf (q3 [1,1,1,1,1,1,1,0,1,0,0,1,0,0,0])) 8 [(64,.opq 64),(65,.opq 65),(66,.opq 66),(70,.opq 70)] 11 [.opq 64,.opq 65,.opq 66,.opq 70] 71:=⟨fun st=>by kernel_rfl,fun st=>by kernel_rfl,fun st=>by kernel_rfl,by kernel_rfl,by decide,rfl⟩
theorem h14_9:OpV 135 (opsOf (q3 [1,1,1,1,1,1,1,0,1,0,0,1,0,0,0])) 9 [] [] [(71,.opq 71)] (.opq 71) 62:=⟨fun st=>by kernel_rfl,fun st=>by kernel_rfl,fun st=>by kernel_rfl,by kernel_rfl,rfl⟩
theorem h14_10:OpV 135 (opsOf (q3 [1,1,1,1,1,1,1,0,1,0,0,1,0,0,0])) 10 [] [] [(62,.tuple [.opq 1,.opq 2])] (.opq 1) 72:=⟨fun st=>by kernel_rfl,fun st=>by kernel_rfl,fun st=>by kernel_rfl,by kernel_rfl,rfl⟩
theorem h14_11:OpV 135 (opsOf (q3 [1,1,1,1,1,1,1,0,1,0,0,1,0,0,0])) 11 [] [] [(62,.tuple [.opq 1,.opq 2])] (.opq 2) 73:=⟨fun st=>by kernel_rfl,fun st=>by kernel_rfl,fun st=>by kernel_rfl,by kernel_rfl,rfl⟩
theorem h14_12:OpW 135 (opsOf (q3 [1,1,1,1,1,1,1,0,1,0,0,1,0,0,0])) 12 [] (.alloc 30) 0 (some 14):=⟨fun st=>by kernel_rfl,fun st=>by kernel_rfl,by kernel_rfl⟩
theorem gmA:Pc 3 135 [.inRegion (opsOf (q3 [1,1,1,1,1,1,1,0,1,0,0,1,0,0,0])) [13,14],.code (q3 [1,1,1,1,1,1,1,0,1,0,0,1,0,0,1]),.inBlock 1,.code (q3 [1,1,1,1,1,1,1,0,1,0,0,1,1]),.inLoop (q3 [1,1,1,1,1,1,1,0,1,0,0]),.inBlock 0,.code (q3 [1,1,1,1,1,1,1,1])] ([(2,i64 (v 30)),(4,ptr0 64),(5,ptr0 65),(7,ptr0 66),(9,.slice (some ⟨(.dyn 80),(v 83)⟩) (v 81) (v 82)),(13,i64 (v 10)),(14,ptr0 67),(62,.tuple [.agg [i8 (v 11),i64 (v 12)],i64 (.lit 0)]),(72,.agg [i8 (v 11),i64 (v 12)]),(73,i64 (.lit 0))]) [((.cmp .lss (v 10) (.tn (v 81))),true),((.cmp .leq (.lit 0) (v 10)),true),((.cmp .lss (v 10) (.lit 0)),false),((.cmp .geq (v 10) (.tn (v 81))),false),((.cmp .eql (v 11) (v 11)),true),((.cmp .eql (v 12) (v 12)),true)] [(⟨(.dyn 80),(.plus (.tn (v 83)) (.times (.tn (v 10)) (.lit 2)))⟩,i8 (v 11)),(⟨(.dyn 80),(.plus (.tn (.plus (.tn (v 83)) (.times (.tn (v 10)) (.lit 2)))) (.lit 1))⟩,i64 (v 12))] [(67,.cells [i8 (.lit 0),i64 (.lit 0)] 30)] 14 [] [2,4,5,7,9,13] [.code (q3 [1,1,1,1,1,1,1,0,1,0,0]),.inLoop (q3 [1,1,1,1,1,1,1,0,1,0,0]),.inBlock 0,.code (q3 [1,1,1,1,1,1,1,1])] [i64 (v 30),ptr0 64,ptr0 65,ptr0 66,.slice (some ⟨(.dyn 80),(v 83)⟩) (v 81) (v 82),i64 (.op .add .i64 (v 10) (.lit 1))] []:=⟨fun st=>by kernel_rfl,fun st=>by kernel_rfl,by kernel_rfl,of_decide_eq_true (by kernel_rfl)⟩
theorem gmB:Pc 3 135 [.inRegion (opsOf (q3 [1,1,1,1,1,1,1,0,1,0,0,1,0,0,0])) [13,11,14],.code (q3 [1,1,1,1,1,1,1,0,1,0,0,1,0,0,1]),.inBlock 1,.code (q3 [1,1,1,1,1,1,1,0,1,0,0,1,1]),.inLoop (q3 [1,1,1,1,1,1,1,0,1,0,0]),.inBlock 0,.code (q3 [1,1,1,1,1,1,1,1])] ([(2,i64 (v 30)),(4,ptr0 64),(5,ptr0 65),(7,ptr0 66),(9,.slice (some ⟨(.dyn 80),(v 83)⟩) (v 81) (v 82)),(13,i64 (v 10)),(14,ptr0 67),(62,.tuple [.agg [i8 (v 11),i64 (v 12)],i64 (.lit 0)]),(72,.agg [i8 (v 11),i64 (v 12)])]) [((.cmp .lss (v 10) (.tn (v 81))),true),((.cmp .leq (.lit 0) (v 10)),true),((.cmp .lss (v 10) (.lit 0)),false),((.cmp .geq (v 10) (.tn (v 81))),false),((.cmp .eql (v 11) (v 11)),true),((.cmp .eql (v 12) (v 12)),true)] [(⟨(.dyn 80),(.plus (.tn (v 83)) (.times (.tn (v 10)) (.lit 2)))⟩,i8 (v 11)),(⟨(.dyn 80),(.plus (.tn (.plus (.tn (v 83)) (.times (.tn (v 10)) (.lit 2)))) (.lit 1))⟩,i64 (v 12))] [(67,.cells [i8 (.lit 0),i64 (.lit 0)] 30)] 15 [] [2,4,5,7,9,13] [.code (q3 [1,1,1,1,1,1,1,0,1,0,0]),.inLoop (q3 [1,1,1,1,1,1,1,0,1,0,0]),.inBlock 0,.code (q3 [1,1,1,1,1,1,1,1])] [i64 (v 30),ptr0 64,ptr0 65,ptr0 66,.slice (some ⟨(.dyn 80),(v 83)⟩) (v 81) (v 82),i64 (.op .add .i64 (v 10) (.lit 1))] []:=⟨fun st=>by kernel_rfl,fun st=>by kernel_rfl,by kernel_rfl,of_decide_eq_true (by kernel_rfl)⟩
theorem go1(y:Bool):Pc 3 135 [.code (q3 [1,1,1,1,1,1,1,0,1,0,0]),.inLoop (q3 [1,1,1,1,1,1,1,0,1,0,0]),.inBlock 0,.code (q3 [1,1,1,1,1,1,1,1])] ([(2,i64 (v 30)),(4,ptr0 64),(5,ptr0 65),(7,ptr0 66),(9,slZ y 80 83 81 82),(13,i64 (v 10))]) [((.cmp .lss (v 10) (lnZ y 81)),false),((.cmp .lss (v 30) (.lit 0)),true)] [(⟨(.dyn 80),(.plus (.tn (v 83)) (.times (.tn (v 30)) (.lit 2)))⟩,i8 (v 11)),(⟨(.dyn 80),(.plus (.tn (.plus (.tn (v 83)) (.times (.tn (v 30)) (.lit 2)))) (.lit 1))⟩,i64 (v 12)),(⟨(.dyn 66),(.lit 0)⟩,i8 (v 31)),(⟨(.dyn 66),(.lit 1)⟩,i64 (v 32))] [] 16 [] [] [.inRegion (opsOf (q3 [1,1,1,1,1,1,1,1,0,1,0,0])) [0,1],.code .ret,.code (q3 [1,1,1,1,1,1,1,1,1])] [] []:=⟨fun st=>by cases y<;>kernel_rfl,fun st=>by cases y<;>kernel_rfl,by cases y<;>kernel_rfl,of_decide_eq_true (by kernel_rfl)⟩
theorem go3:Pc 3 135 [.code (q3 [1,1,1,1,1,1,1,0,1,0,0]),.inLoop (q3 [1,1,1,1,1,1,1,0,1,0,0]),.inBlock 0,.code (q3 [1,1,1,1,1,1,1,1])] ([(2,i64 (v 30)),(4,ptr0 64),(5,ptr0 65),(7,ptr0 66),(9,.slice (some ⟨(.dyn 80),(v 83)⟩) (v 81) (v 82)),(13,i64 (v 10))]) [((.cmp .lss (v 10) (.tn (v 81))),false),((.cmp .lss (v 30) (.tn (v 81))),true),((.cmp .leq (.lit 0) (v 30)),true),((.cmp .lss (v 30) (.lit 0)),false),((.cmp .geq (v 30) (.tn (v 81))),false),((.cmp .eql (v 31) (v 11)),true),((.cmp .eql (v 32) (v 12)),true)] [(⟨(.dyn 80),(.plus (.tn (v 83)) (.times (.tn (v 30)) (.lit 2)))⟩,i8 (v 11)),(⟨(.dyn 80),(.plus (.tn (.plus (.tn (v 83)) (.times (.tn (v 30)) (.lit 2)))) (.lit 1))⟩,i64 (v 12)),(⟨(.dyn 66),(.lit 0)⟩,i8 (v 31)),(⟨(.dyn 66),(.lit 1)⟩,i64 (v 32))] [] 16 [] [] [.inRegion (opsOf (q3 [1,1,1,1,1,1,1,1,0,1,0,0])) [0,1],.code .ret,.code (q3 [1,1,1,1,1,1,1,1,1])] [] []:=⟨fun st=>by kernel_rfl,fun st=>by kernel_rfl,by kernel_rfl,of_decide_eq_true (by kernel_rfl)⟩
theorem go4:Pc 3 135 [.code (q3 [1,1,1,1,1,1,1,0,1,0,0]),.inLoop (q3 [1,1,1,1,1,1,1,0,1,0,0]),.inBlock 0,.code (q3 [1,1,1,1,1,1,1,1])] ([(2,i64 (v 30)),(4,ptr0 64),(5,ptr0 65),(7,ptr0 66),(9,.slice (some ⟨(.dyn 80),(v 83)⟩) (v 81) (v 82)),(13,i64 (v 10))]) [((.cmp .lss (v 10) (.tn (v 81))),false),((.cmp .lss (v 30) (.tn (v 81))),true),((.cmp .leq (.lit 0) (v 30)),true),((.cmp .lss (v 30) (.lit 0)),false),((.cmp .geq (v 30) (.tn (v 81))),false),((.cmp .eql (v 31) (v 11)),false),((.cmp .lss (v 31) (.lit 1)),true)] [(⟨(.dyn 80),(.plus (.tn (v 83)) (.times (.tn (v 30)) (.lit 2)))⟩,i8 (v 11)),(⟨(.dyn 80),(.plus (.tn (.plus (.tn (v 83)) (.times (.tn (v 30)) (.lit 2)))) (.lit 1))⟩,i64 (v 12)),(⟨(.dyn 66),(.lit 0)⟩,i8 (v 31)),(⟨(.dyn 66),(.lit 1)⟩,i64 (v 32))] [] 16 [] [] [.inRegion (opsOf (q3 [1,1,1,1,1,1,1,1,0,1,0,0])) [0,1],.code .ret,.code (q3 [1,1,1,1,1,1,1,1,1])] [] []:=⟨fun st=>by kernel_rfl,fun st=>by kernel_rfl,by kernel_rfl,of_decide_eq_true (by kernel_rfl)⟩
theorem go5:Pc 3 135 [.code (q3 [1,1,1,1,1,1,1,0,1,0,0]),.inLoop (q3 [1,1,1,1,1,1,1,0,1,0,0]),.inBlock 0,.code (q3 [1,1,1,1,1,1,1,1])] ([(2,i64 (v 30)),(4,ptr0 64),(5,ptr0 65),(7,ptr0 66),(9,.slice (some ⟨(.dyn 80),(v 83)⟩) (v 81) (v 82)),(13,i64 (v 10))]) [((.cmp .lss (v 10) (.tn (v 81))),false),((.cmp .lss (v 30) (.tn (v 81))),true),((.cmp .leq (.lit 0) (v 30)),true),((.cmp .lss (v 30) (.lit 0)),false),((.cmp .geq (v 30) (.tn (v 81))),false),((.cmp .eql (v 31) (v 11)),false),((.cmp .lss (v 31) (.lit 1)),false),((.cmp .gtr (v 31) (.lit 4)),true)] [(⟨(.dyn 80),(.plus (.tn (v 83)) (.times (.tn (v 30)) (.lit 2)))⟩,i8 (v 11)),(⟨(.dyn 80),(.plus (.tn (.plus (.tn (v 83)) (.times (.tn (v 30)) (.lit 2)))) (.lit 1))⟩,i64 (v 12)),(⟨(.dyn 66),(.lit 0)⟩,i8 (v 31)),(⟨(.dyn 66),(.lit 1)⟩,i64 (v 32))] [] 16 [] [] [.inRegion (opsOf (q3 [1,1,1,1,1,1,1,1,0,1,0,0])) [0,1],.code .ret,.code (q3 [1,1,1,1,1,1,1,1,1])] [] []:=⟨fun st=>by kernel_rfl,fun st=>by kernel_rfl,by kernel_rfl,of_decide_eq_true (by kernel_rfl)⟩
theorem go6:Pc 3 135 [.code (q3 [1,1,1,1,1,1,1,0,1,0,0]),.inLoop (q3 [1,1,1,1,1,1,1,0,1,0,0]),.inBlock 0,.code (q3 [1,1,1,1,1,1,1,1])] ([(2,i64 (v 30)),(4,ptr0 64),(5,ptr0 65),(7,ptr0 66),(9,.slice (some ⟨(.dyn 80),(v 83)⟩) (v 81) (v 82)),(13,i64 (v 10))]) [((.cmp .lss (v 10) (.tn (v 81))),false),((.cmp .lss (v 30) (.tn (v 81))),true),((.cmp .leq (.lit 0) (v 30)),true),((.cmp .lss (v 30) (.lit 0)),false),((.cmp .geq (v 30) (.tn (v 81))),false),((.cmp .eql (v 31) (v 11)),true),((.cmp .eql (v 32) (v 12)),false),((.cmp .lss (v 31) (.lit 1)),true)] [(⟨(.dyn 80),(.plus (.tn (v 83)) (.times (.tn (v 30)) (.lit 2)))⟩,i8 (v 11)),(⟨(.dyn 80),(.plus (.tn (.plus (.tn (v 83)) (.times (.tn (v 30)) (.lit 2)))) (.lit 1))⟩,i64 (v 12)),(⟨(.dyn 66),(.lit 0)⟩,i8 (v 31)),(⟨(.dyn 66),(.lit 1)⟩,i64 (v 32))] [] 16 [] [] [.inRegion (opsOf (q3 [1,1,1,1,1,1,1,1,0,1,0,0])) [0,1],.code .ret,.code (q3 [1,1,1,1,1,1,1,1,1])] [] []:=⟨fun st=>by kernel_rfl,fun st=>by kernel_rfl,by kernel_rfl,of_decide_eq_true (by kernel_rfl)⟩
theorem go7:Pc 3 135 [.code (q3 [1,1,1,1,1,1,1,0,1,0,0]),.inLoop (q3 [1,1,1,1,1,1,1,0,1,0,0]),.inBlock 0,.code (q3 [1,1,1,1,1,1,1,1])] ([(2,i64 (v 30)),(4,ptr0 64),(5,ptr0 65),(7,ptr0 66),(9,.slice (some ⟨(.dyn 80),(v 83)⟩) (v 81) (v 82)),(13,i64 (v 10))]) [((.cmp .lss (v 10) (.tn (v 81))),false),((.cmp .lss (v 30) (.tn (v 81))),true),((.cmp .leq (.lit 0) (v 30)),true),((.cmp .lss (v 30) (.lit 0)),false),((.cmp .geq (v 30) (.tn (v 81))),false),((.cmp .eql (v 31) (v 11)),true),((.cmp .eql (v 32) (v 12)),false),((.cmp .lss (v 31) (.lit 1)),false),((.cmp .gtr (v 31) (.lit 4)),true)] [(⟨(.dyn 80),(.plus (.tn (v 83)) (.times (.tn (v 30)) (.lit 2)))⟩,i8 (v 11)),(⟨(.dyn 80),(.plus (.tn (.plus (.tn (v 83)) (.times (.tn (v 30)) (.lit 2)))) (.lit 1))⟩,i64 (v 12)),(⟨(.dyn 66),(.lit 0)⟩,i8 (v 31)),(⟨(.dyn 66),(.lit 1)⟩,i64 (v 32))] [] 16 [] [] [.inRegion (opsOf (q3 [1,1,1,1,1,1,1,1,0,1,0,0])) [0,1],.code .ret,.code (q3 [1,1,1,1,1,1,1,1,1])] [] []:=⟨fun st=>by kernel_rfl,fun st=>by kernel_rfl,by kernel_rfl,of_decide_eq_true (by kernel_rfl)⟩
theorem gp1:Pc 3 135 [.code (q3 [1,1,1,1,1,1,1,0,1,0,0]),.inLoop (q3 [1,1,1,1,1,1,1,0,1,0,0]),.inBlock 0,.code (q3 [1,1,1,1,1,1,1,1])] ([(2,i64 (v 30)),(4,ptr0 64),(5,ptr0 65),(7,ptr0 66),(9,.slice (some ⟨(.dyn 80),(v 83)⟩) (v 81) (v 82)),(13,i64 (v 10))]) [((.cmp .lss (v 10) (.tn (v 81))),false),((.cmp .lss (v 30) (.tn (v 81))),true),((.cmp .leq (.lit 0) (v 30)),true),((.cmp .lss (v 30) (.lit 0)),false),((.cmp .geq (v 30) (.tn (v 81))),false),((.cmp .eql (v 31) (v 11)),false),((.cmp .lss (v 31) (.lit 1)),false),((.cmp .gtr (v 31) (.lit 4)),false)] [(⟨(.dyn 80),(.plus (.tn (v 83)) (.times (.tn (v 30)) (.lit 2)))⟩,i8 (v 11)),(⟨(.dyn 80),(.plus (.tn (.plus (.tn (v 83)) (.times (.tn (v 30)) (.lit 2)))) (.lit 1))⟩,i64 (v 12)),(⟨(.dyn 66),(.lit 0)⟩,i8 (v 31)),(⟨(.dyn 66),(.lit 1)⟩,i64 (v 32))] [] 18 [] [2,4,5,7,111] [.inRegion (opsOf (q3 [1,1,1,1,1,1,1,1,1,0])) [1,2],.code (q3 [1,1,1,1,1,1,1,1,1,1])] [i64 (v 30),ptr0 64,ptr0 65,ptr0 66,.slice (some ⟨(.dyn 80),(v 83)⟩) (v 81) (v 82)] []:=⟨fun st=>by kernel_rfl,fun st=>by kernel_rfl,by kernel_rfl,of_decide_eq_true (by kernel_rfl)⟩
theorem gp2:Pc 3 135 [.code (q3 [1,1,1,1,1,1,1,0,1,0,0]),.inLoop (q3 [1,1,1,1,1,1,1,0,1,0,0]),.inBlock 0,.code (q3 [1,1,1,1,1,1,1,1])] ([(2,i64 (v 30)),(4,ptr0 64),(5,ptr0 65),(7,ptr0 66),(9,.slice (some ⟨(.dyn 80),(v 83)⟩) (v 81) (v 82)),(13,i64 (v 10))]) [((.cmp .lss (v 10) (.tn (v 81))),false),((.cmp .lss (v 30) (.tn (v 81))),true),((.cmp .leq (.lit 0) (v 30)),true),((.cmp .lss (v 30) (.lit 0)),false),((.cmp .geq (v 30) (.tn (v 81))),false),((.cmp .eql (v 31) (v 11)),true),((.cmp .eql (v 32) (v 12)),false),((.cmp .lss (v 31) (.lit 1)),false),((.cmp .gtr (v 31) (.lit 4)),false)] [(⟨(.dyn 80),(.plus (.tn (v 83)) (.times (.tn (v 30)) (.lit 2)))⟩,i8 (v 11)),(⟨(.dyn 80),(.plus (.tn (.plus (.tn (v 83)) (.times (.tn (v 30)) (.lit 2)))) (.lit 1))⟩,i64 (v 12)),(⟨(.dyn 66),(.lit 0)⟩,i8 (v 31)),(⟨(.dyn 66),(.lit 1)⟩,i64 (v 32))] [] 18 [] [2,4,5,7,111] [.inRegion (opsOf (q3 [1,1,1,1,1,1,1,1,1,0])) [1,2],.code (q3 [1,1,1,1,1,1,1,1,1,1])] [i64 (v 30),ptr0 64,ptr0 65,ptr0 66,.slice (some ⟨(.dyn 80),(v 83)⟩) (v 81) (v 82)] []:=⟨fun st=>by kernel_rfl,fun st=>by kernel_rfl,by kernel_rfl,of_decide_eq_true (by kernel_rfl)⟩
theorem gq:OpC 135 (opsOf (q3 [1,1,1,1,1,1,1,1,1,0])) 1 [(111,.opq 111)] 10 [.opq 111] 112:=⟨fun st=>by kernel_rfl,fun st=>by kernel_rfl,fun st=>by kernel_rfl,by kernel_rfl,by decide,rfl⟩
theorem grA:Pc 3 135 [.inRegion (opsOf (q3 [1,1,1,1,1,1,1,1,1,0])) [2],.code (q3 [1,1,1,1,1,1,1,1,1,1])] ([(2,i64 (v 30)),(4,ptr0 64),(5,ptr0 65),(7,ptr0 66),(112,.slice (some ⟨(.dyn 68),(.lit 0)⟩) (v 81) (v 82))]) [] [] [] 4 [] [2,4,5,7,16] [.inRegion (opsOf (q3 [1,1,1,1,1,1,1,1,1,1,0])) [0,1,2,3,4],.code (q3 [1,1,1,1,1,1,1,1,1,1,1])] [i64 (v 30),ptr0 64,ptr0 65,ptr0 66,.slice (some ⟨(.dyn 68),(.lit 0)⟩) (v 81) (v 82)] []:=⟨fun st=>by kernel_rfl,fun st=>by kernel_rfl,by kernel_rfl,of_decide_eq_true (by kernel_rfl)⟩
theorem grC:OpW 135 (opsOf (q3 [1,1,1,1,1,1,1,1,1,1,0])) 4 [] (.store 30 (.tmp 116) (.tmp 115)) 0 none:=⟨fun st=>by kernel_rfl,fun st=>by kernel_rfl,by kernel_rfl⟩
theorem grD:Pc 3 135 [.inRegion (opsOf (q3 [1,1,1,1,1,1,1,1,1,1,0])) [],.code (q3 [1,1,1,1,1,1,1,1,1,1,1])] ([(2,i64 (v 30)),(4,ptr0 64),(5,ptr0 65),(7,ptr0 66),(16,.opq 16)]) [] [] [] 2 [] [2,4,5,7,16] [.code (q3 [1,1,1,1,1,1,1,1,1,1,1,0]),.code (q3 [1,1,1,1,1,1,1,1,1,1,1,1])] [i64 (v 30),ptr0 64,ptr0 65,ptr0 66,.opq 16] []:=⟨fun st=>by kernel_rfl,fun st=>by kernel_rfl,by kernel_rfl,of_decide_eq_true (by kernel_rfl)⟩
theorem h21_0:OpV 135 (opsOf (q3 [1,1,1,1,1,1,1,1,1,1,1,0])) 0 [] [(⟨(.dyn 64),(.lit 0)⟩,.opq 8),(⟨(.dyn 64),(.lit 1)⟩,.opq 9)] [(4,ptr0 64)] (.agg [.opq 8,.opq 9]) 118:=⟨fun st=>by kernel_rfl,fun st=>by kernel_rfl,fun st=>by kernel_rfl,by kernel_rfl,rfl⟩
theorem h21_1:OpC 135 (opsOf (q3 [1,1,1,1,1,1,1,1,1,1,1,0])) 1 [(118,.opq 118)] 8 [.opq 118] 119:=⟨fun st=>by kernel_rfl,fun st=>by kernel_rfl,fun st=>by kernel_rfl,by kernel_rfl,by decide,rfl⟩
theorem h21_2:OpV 135 (opsOf (q3 [1,1,1,1,1,1,1,1,1,1,1,0])) 2 [] [(⟨(.dyn 65),(.lit 0)⟩,i64 (v 21)),(⟨(.dyn 65),(.lit 1)⟩,i64 (v 22)),(⟨(.dyn 65),(.lit 2)⟩,i64 (v 23)),(⟨(.dyn 65),(.lit 3)⟩,i64 (v 24))] [(5,ptr0 65)] (.agg [i64 (v 21),i64 (v 22),i64 (v 23),i64 (v 24)]) 120:=⟨fun st=>by kernel_rfl,fun st=>by kernel_rfl,fun st=>by kernel_rfl,by kernel_rfl,rfl⟩
theorem h21_3:OpV 135 (opsOf (q3 [1,1,1,1,1,1,1,1,1,1,1,0])) 3 [] [] [(16,.opq 16)] (.opq 16) 121:=⟨fun st=>by kernel_rfl,fun st=>by kernel_rfl,fun st=>by kernel_rfl,by kernel_rfl,rfl⟩
theorem h21_4:OpC 135 (opsOf (q3 [1,1,1,1,1,1,1,1,1,1,1,0])) 4 [(119,.opq 119),(120,.opq 120),(121,.opq 121)] 9 [.opq 119,.opq 120,.opq 121] 122:=⟨fun st=>by kernel_rfl,fun st=>by kernel_rfl,fun st=>by kernel_rfl,by kernel_rfl,by decide,rfl⟩
theorem h21_5:OpV 135 (opsOf (q3 [1,1,1,1,1,1,1,1,1,1,1,0])) 5 [] [] [(122,.opq 47)] (.opq 47) 117:=⟨fun st=>by kernel_rfl,fun st=>by kernel_rfl,fun st=>by kernel_rfl,by kernel_rfl,rfl⟩
theorem h21_6:OpV 135 (opsOf (q3 [1,1,1,1,1,1,1,1,1,1,1,0])) 6 [] [] [(117,.tuple [.opq 1,.opq 2])] (.opq 1) 123:=⟨fun st=>by kernel_rfl,fun st=>by kernel_rfl,fun st=>by kernel_rfl,by kernel_rfl,rfl⟩
theorem h21_7:OpV 135 (opsOf (q3 [1,1,1,1,1,1,1,1,1,1,1,0])) 7 [] [] [(117,.tuple [.opq 1,.opq 2])] (.opq 2) 124:=⟨fun st=>by kernel_rfl,fun st=>by kernel_rfl,fun st=>by kernel_rfl,by kernel_rfl,rfl⟩
theorem h21_8:OpV 135 (opsOf (q3 [1,1,1,1,1,1,1,1,1,1,1,0])) 8 [] [] [(123,.opq 48)] (.opq 48) 11:=⟨fun st=>by kernel_rfl,fun st=>by kernel_rfl,fun st=>by kernel_rfl,by kernel_rfl,rfl⟩
theorem h21_9:OpV 135 (opsOf (q3 [1,1,1,1,1,1,1,1,1,1,1,0])) 9 [] [] [(124,.opq 49)] (.opq 49) 12:=⟨fun st=>by kernel_rfl,fun st=>by kernel_rfl,fun st=>by kernel_rfl,by kernel_rfl,rfl⟩
theorem gs:Pc 3 135 [.inRegion (opsOf (q3 [1,1,1,1,1,1,1,1,1,1,1,0])) [],.code (q3 [1,1,1,1,1,1,1,1,1,1,1,1])] ([(2,i64 (v 30)),(11,i64 (.lit 30)),(12,i64 (v 30))]) [((.cmp .eql (v 30) (v 30)),true)] [] [] 11 [] [132] [.inRegion (opsOf (q3 [1,1,1,1,1,1,1,1,1,1,1,1,0])) [8,9,10],.code .ret] [TB] []:=⟨fun st=>by kernel_rfl,fun st=>by kernel_rfl,by kernel_rfl,of_decide_eq_true (by kernel_rfl)⟩
theorem gt:OpC 135 (opsOf (q3 [1,1,1,1,1,1,1,1,1,1,1,1,0])) 8 [(132,TB)] 6 [] 133:=⟨fun st=>by kernel_rfl,fun st=>by kernel_rfl,fun st=>by kernel_rfl,by kernel_rfl,by decide,rfl⟩
theorem gu:Pc 3 135 [.inRegion (opsOf (q3 [1,1,1,1,1,1,1,1,1,1,1,1,0])) [9,10],.code .ret] ([(132,TB),(133,TB)]) [] [] [] 3 [] [8] [.code .ret] [TB] []:=⟨fun st=>by kernel_rfl,fun st=>by kernel_rfl,by kernel_rfl,of_decide_eq_true (by kernel_rfl)⟩
def okV(e:Int×Int):Prop:=e.1=1∨e.1=2∨e.1=3
section
variable {m:MakerD}{E E':List (Int×Int)}{N:Nat}
mutual
theorem evF_ext(h:∀i,i<N->E[i]?=E'[i]?):∀{t:T},NeedT N t->evF E m t=evF E' m t
 |.nd n ks,⟨h1,h2,h3,h4⟩=>by
  unfold evF
  rw[evL_ext h h4]
  unfold combF
  by_cases e2:n.op=2
  ·have:=h1 e2
   have e:=h n.n.toNat (by omega)
   rw[List.getD_eq_getElem?_getD,List.getD_eq_getElem?_getD,e]
  ·rw[if_neg e2,if_neg e2]
theorem evL_ext(h:∀i,i<N->E[i]?=E'[i]?):∀{ts:List T},NeedL N ts->evL E m ts=evL E' m ts
 |[],_=>rfl
 |t::ts,⟨h1,h2⟩=>by
  unfold evL
  rw[evF_ext h h1,evL_ext h h2]
end
theorem lastF_ok{op x:Int}:∀{vs:List (Int×Int)} {acc:Int},(∀e∈vs,okV e)->okV (lastF op x acc vs)
 |[],acc,h=>.inl rfl
 |e::r,acc,h=>by
  unfold lastF
  split
  ·exact lastF_ok fun e' he=>h e' (List.mem_cons_of_mem _ he)
  ·exact h e (List.mem_cons_self ..)
theorem buildF_ok{k:Int}:okV (buildF m k):=by
 unfold buildF
 split
 ·exact .inr (.inr rfl)
 split
 ·exact .inr (.inl rfl)
 ·exact .inl rfl
theorem getD_ok{vs:List (Int×Int)}{i:Nat}(h:∀e∈vs,okV e)(hi:i<vs.length):okV (vs.getD i (0,0)):=by
 rw[List.getD_eq_getElem?_getD,List.getElem?_eq_getElem hi]
 exact h _ (List.getElem_mem hi)
theorem headD_ok{vs:List (Int×Int)}(h:∀e∈vs,okV e)(hn:vs≠[]):okV (vs.headD (0,0)):=by
 cases vs with
 |nil=>exact(hn rfl).elim
 |cons e r=>exact h e (List.mem_cons_self ..)
theorem withF_ok{op x:Int}{vs:List (Int×Int)}(h:∀e∈vs,okV e)(h12:op=12->vs.length=3):okV (withF op x m vs):=by
 unfold withF
 split
 ·rename_i e
  have:=h12 e
  split<;>exact getD_ok h (by omega)
 split
 ·exact .inl rfl
 split
 ·exact .inr (.inl rfl)
 split
 ·exact .inr (.inr rfl)
 split
 ·exact buildF_ok
 split
 ·exact .inl rfl
 ·exact lastF_ok fun e he=>h e (List.mem_of_mem_drop he)
mutual
theorem evF_ok(h:∀e∈E,okV e)(hN:N≤E.length):∀{t:T},NeedT N t->okV (evF E m t)
 |.nd n ks,⟨h1,h2,h3,h4⟩=>by
  have hv:=evL_ok h hN h4
  unfold evF combF
  split
  ·exact .inl rfl
  rename_i e1
  split
  ·rename_i e2
   have:=h1 e2
   exact getD_ok h (by omega)
  rename_i e2
  have hne:evL E m ks≠[]:=fun e=>by
   have:=evL_len E m ks
   rw[e]at this
   exact h2 e1 e2 (List.length_eq_zero_iff.1 this.symm)
  split
  ·cases hf:(evL E m ks).find? fun e=>decide (e.1=1)with
   |none=>exact headD_ok hv hne
   |some e=>exact hv e (List.mem_of_find?_eq_some hf)
  split
  ·exact withF_ok hv fun e=>by rw[evL_len];exact h3 e
  ·exact headD_ok hv hne
theorem evL_ok(h:∀e∈E,okV e)(hN:N≤E.length):∀{ts:List T},NeedL N ts->∀e∈evL E m ts,okV e
 |[],_,e,he=>by cases he
 |t::ts,⟨h1,h2⟩,e,he=>by
  unfold evL at he
  rcases List.mem_cons.1 he with rfl|he
  ·exact evF_ok h hN h1
  ·exact evL_ok h hN h2 e he
end
end
theorem plainEnds_spec(m:MakerD):∀(L:List LetD) (E:List (Int×Int)),∃R,plainEnds m L E=E++R∧R.length=L.length∧∀i x,L[i]?=some x->R[i]?=some (endOf m (E++R.take i) x)
 |[],E=>⟨[],by simp[plainEnds],rfl,fun i x hi=>by cases hi⟩
 |y::L,E=>by
  obtain⟨R,h1,h2,h3⟩:=plainEnds_spec m L (E++[endOf m E y])
  refine⟨endOf m E y::R,by rw[plainEnds,h1,List.append_assoc];rfl,by simp[h2],fun i x hi=>?_⟩
  cases i with
  |zero=>
   obtain rfl:y=x:=Option.some.inj hi
   simp
  |succ i=>
   have:=h3 i x hi
   rw[List.append_assoc]at this
   exact this
theorem plain_at{m:MakerD}{L:List LetD}:(plainEnds m L []).length=L.length∧∀i x,L[i]?=some x->(plainEnds m L [])[i]?=some (endOf m ((plainEnds m L []).take i) x):=by
 obtain⟨R,h1,h2,h3⟩:=plainEnds_spec m L []
 rw[List.nil_append]at h1
 rw[h1]
 exact⟨h2,fun i x hi=>by simpa using h3 i x hi⟩
section
variable {m:MakerD}{L:List LetD}
theorem plain_ok(hg:∀i x,L[i]?=some x->∃t,GoodLet x i t):∀(i:Nat) (e:Int×Int),(plainEnds m L [])[i]?=some e->okV e:=by
 obtain⟨hl,hat⟩:=plain_at (m:=m) (L:=L)
 intro i
 induction i using Nat.strongRecOn with
 |ind i ih=>
  intro e he
  have hi:i<L.length:=by
   rw[<-hl]
   exact(List.getElem?_eq_some_iff.1 he).1
  obtain⟨x,hx⟩:∃x,L[i]?=some x:=⟨_,List.getElem?_eq_getElem hi⟩
  obtain⟨t,ht⟩:=hg i x hx
  have:=hat i x hx
  rw[he]at this
  have:=Option.some.inj this
  rw[this]
  unfold endOf
  rw[ht.tr]
  refine evF_ok (N:=i) (fun e' he'=>?_) (by rw[List.length_take,hl];omega) ht.nd
  obtain⟨j,hj⟩:=List.getElem?_of_mem he'
  rw[List.getElem?_take]at hj
  split at hj
  ·exact ih j (by assumption) e' hj
  ·cases hj
theorem plain_ev{i:Nat}{x:LetD}{t:T}{E:List (Int×Int)}(hx:L[i]?=some x)(ht:GoodLet x i t)(hE:∀j,j<i->E[j]?=(plainEnds m L [])[j]?):(plainEnds m L [])[i]?=some (evF E m t):=by
 obtain⟨hl,hat⟩:=plain_at (m:=m) (L:=L)
 rw[hat i x hx]
 unfold endOf
 rw[ht.tr]
 congr 1
 refine evF_ext (N:=i) (fun j hj=>?_) ht.nd
 rw[hE j hj,List.getElem?_take,if_pos hj]
theorem fit_same(hg:∀i x,L[i]?=some x->∃t,GoodLet x i t){E:List (Int×Int)}{j:Nat}{x:LetD}(hx:L[j]?=some x)(hE:∀k,k≤j->E[k]?=(plainEnds m L [])[k]?):fitAt m E j x=true:=by
 obtain⟨t,ht⟩:=hg j x hx
 have hev:=plain_ev (m:=m) (E:=E) hx ht fun k hk=>hE k (by omega)
 have hEj:E[j]?=some (evF E m t):=(hE j (Nat.le_refl _)).trans hev
 have hok:=plain_ok hg j _ hev
 unfold fitAt
 rw[ht.tr,hEj]
 show fitF m E j (evF E m t) t=true
 unfold fitF
 rw[if_neg (fun h=>by
  have:=h.1
  unfold okV at hok
  omega)]
 simp
theorem fits_upto(hg:∀i x,L[i]?=some x->∃t,GoodLet x i t){E:List (Int×Int)}:∀(k i:Nat),(∀j x,i≤j->j<i+k->L[j]?=some x->fitAt m E j x=true)->fitsL m E (L.drop i) i=if i+k≥L.length then(0,0)else fitsL m E (L.drop (i+k)) (i+k)
 |0,i,h=>by
  split
  ·rw[List.drop_of_length_le (by omega)];rfl
  ·rfl
 |k+1,i,h=>by
  by_cases hi:i<L.length
  ·obtain⟨x,hx⟩:∃x,L[i]?=some x:=⟨_,List.getElem?_eq_getElem hi⟩
   have hdrop:L.drop i=x::L.drop (i+1):=by
    rw[List.drop_eq_getElem_cons hi]
    congr 1
    exact Option.some.inj ((List.getElem?_eq_getElem hi).symm.trans hx)
   rw[hdrop,show fitsL m E (x::L.drop (i+1)) i=if fitAt m E i x then fitsL m E (L.drop (i+1)) (i+1)else(30,i)from rfl]
   rw[if_pos (h i x (Nat.le_refl _) (by omega) hx),fits_upto hg k (i+1) fun j x h1 h2 hx=>h j x (by omega) (by omega) hx]
   rw[show i+1+k=i+(k+1) by omega]
  ·rw[if_pos (by omega),List.drop_of_length_le (by omega)];rfl
theorem fits_plain(hg:∀i x,L[i]?=some x->∃t,GoodLet x i t):fitsL m (plainEnds m L []) L 0=(0,0):=by
 have:=fits_upto (m:=m) hg (E:=plainEnds m L []) L.length 0 fun j x _ _ hx=>fit_same hg hx fun k _=>rfl
 rw[List.drop_zero,if_pos (by omega)]at this
 exact this
theorem fits_set(hg:∀i x,L[i]?=some x->∃t,GoodLet x i t){i:Nat}{e:Int×Int}(hi:i<L.length)(hne:(plainEnds m L [])[i]?≠some e):fitsL m ((plainEnds m L []).set i e) L 0=(30,(i:Int)):=by
 obtain⟨hl,hat⟩:=plain_at (m:=m) (L:=L)
 have hset:∀k,k<i->((plainEnds m L []).set i e)[k]?=(plainEnds m L [])[k]?:=fun k hk=>by
  rw[List.getElem?_set_ne (by omega)]
 have h1:=fits_upto (m:=m) hg (E:=(plainEnds m L []).set i e) i 0 fun j x _ h2 hx=>fit_same hg hx fun k hk=>hset k (by omega)
 rw[List.drop_zero,if_neg (by omega),Nat.zero_add]at h1
 rw[h1]
 obtain⟨x,hx⟩:∃x,L[i]?=some x:=⟨_,List.getElem?_eq_getElem hi⟩
 have hdrop:L.drop i=x::L.drop (i+1):=by
  rw[List.drop_eq_getElem_cons hi]
  congr 1
  exact Option.some.inj ((List.getElem?_eq_getElem hi).symm.trans hx)
 obtain⟨t,ht⟩:=hg i x hx
 have hev:=plain_ev (m:=m) (E:=(plainEnds m L []).set i e) hx ht hset
 have hEi:((plainEnds m L []).set i e)[i]?=some e:=by
  rw[List.getElem?_set_self (by rw[hl];exact hi)]
 have hf:fitAt m ((plainEnds m L []).set i e) i x=false:=by
  unfold fitAt
  rw[ht.tr,hEi]
  show fitF m _ i e t=false
  unfold fitF
  split
  ·rfl
  ·refine decide_eq_false fun h=>hne ?_
   rw[hev,h]
 rw[hdrop]
 unfold fitsL
 rw[hf];rfl
end
def PE(F:FlowD)(m:MakerD)(s:Value)(w:World):Prop:=EndsAt w s (plainF F m).2∧((plainF F m).2=[]->s=nilV)
theorem PE.keep{F:FlowD}{m:MakerD}{s:Value}{w w':World}(h:PE F m s w)(f:Fresh w w'):PE F m s w':=⟨h.1.keep f,h.2⟩
noncomputable abbrev d3:Array Oper:=opsOf (q3 [1,1,0])
def n3(i:Nat):Nat:=match i with
 |0=>21|1=>22|2=>23|3=>24|4=>20|5=>25|6=>26|7=>9|_=>10
def v3(x:Value)(F:FlowD)(m:MakerD)(i:Nat)(v:Value)(w:World):Prop:=match i with
 |0=>v=x
 |1=>FlowAt w v F
 |2=>v=makerV m
 |3=>∃s,v=.tuple #[s,iV (plainF F m).1]∧PE F m s w
 |4=>∃s,v=.tuple #[s,iV (plainF F m).1]∧PE F m s w
 |5=>PE F m v w
 |6=>v=iV (plainF F m).1
 |7=>PE F m v w
 |_=>v=iV (plainF F m).1
theorem v3_keep{x:Value}{F:FlowD}{m:MakerD}(i:Nat)(v:Value)(w w':World)(h:v3 x F m i v w)(f:Fresh w w'):v3 x F m i v w':=by
 unfold v3 at h⊢
 split at h
 all_goals first|exact h|exact FlowAt.keep h f|exact PE.keep h f|exact(let⟨s,h1,h2⟩:=h;⟨s,h1,h2.keep f⟩)
section
variable {w w0:World}{cs:List Frame}{fr:Frame}
theorem s3_step{X Y i0 e0:Nat}{ls os a b:Value}{F:FlowD}{m:MakerD}{k:List Item}(hX:(Blk.obj 25 [ls,os]).at Try.prog w0 X)(hY:(Blk.obj 27 [iV m.mul,iV m.add,iV m.fails,iV m.panics]).at Try.prog w0 Y)(hF:FlowIn w0 (.agg #[ls,os]) F)(hlen:F.lets.length≤1000000)(htr:∀x∈F.lets,x.tree.length≤999999)(hol:F.outs.length≤4294967296):
  ∀i,i<9->true=true->∀(l:List Nat) (w:World) (fr:Frame) (lv:List (Nat×Value)),Fresh w0 w->FA 3 135 (.inRegion d3 (i::l)::k) [] .normal lv fr->(∀x∈[(2,a),(4,ptrV X),(5,ptrV Y),(7,b)],x∈lv)->(∀p∈preN d3 i,∃v,(n3 p,v)∈lv∧v3 (.agg #[ls,os]) F m p v w)->
   Goes (G fr cs) w fun g' w'=>∃fr' v,g'=G fr' cs∧Fresh w w'∧v3 (.agg #[ls,os]) F m i v w'∧FA 3 135 (.inRegion d3 l::k) [] .normal (lvPut (n3 i) v lv) fr':=by
 intro i hi _ l w fr lv f hf hb hp
 have b4:((4,ptrV X):Nat×Value)∈lv:=hb _ (List.mem_cons_of_mem _ (List.mem_cons_self ..))
 have b5:((5,ptrV Y):Nat×Value)∈lv:=hb _ (List.mem_cons_of_mem _ (List.mem_cons_of_mem _ (List.mem_cons_self ..)))
 have one:∀{q:Nat×Value} {k:Nat} {v:Value},(k,v)∈lv->q∈[(k,v)]->q∈lv:=fun h hq=>by
  obtain rfl:=List.mem_singleton.1 hq
  exact h
 rcases(by omega:i=0∨i=1∨i=2∨i=3∨i=4∨i=5∨i=6∨i=7∨i=8)with rfl|rfl|rfl|rfl|rfl|rfl|rfl|rfl|rfl
 ·exact h3_0.goM (mkE [] [(64,X)] [(8,ls),(9,os)]) hf (by decide) (fun q hq=>one b4 hq) trivial ⟨f.cell (blk_cell hX (i:=0) rfl),f.cell (blk_cell hX (i:=1) rfl),trivial⟩ rfl
 ·obtain⟨v0,q0,e0⟩:=hp 0 (pin (by kernel_rfl))
  have e0:v0=.agg #[ls,os]:=e0
  subst e0
  exact h3_1.goM (mkE [] [] [(21,.agg #[ls,os])]) (Q:=fun v w'=>FlowAt w' v F) hf (fun q hq=>one q0 hq) fun w' f1=>copyFlow_all (hF.keep (f.trans f1)) hlen htr hol
 ·exact h3_2.goM (mkE [(21,m.mul),(22,m.add),(23,m.fails),(24,m.panics)] [(65,Y)] []) hf (by decide) (fun q hq=>one b5 hq) trivial ⟨f.cell (blk_cell hY (i:=0) rfl),f.cell (blk_cell hY (i:=1) rfl),f.cell (blk_cell hY (i:=2) rfl),f.cell (blk_cell hY (i:=3) rfl),trivial⟩ rfl
 ·obtain⟨v1,q1,e1⟩:=hp 1 (pin (by kernel_rfl))
  have e1:FlowAt w v1 F:=e1
  obtain⟨v2,q2,e2⟩:=hp 2 (pin (by kernel_rfl))
  have e2:v2=makerV m:=e2
  subst e2
  exact h3_3.goM (mkE [] [] [(22,v1),(23,makerV m)]) (Q:=fun v w'=>∃s,v=.tuple #[s,iV (plainF F m).1]∧PE F m s w') hf (fun q hq=>by
   simp only[told,List.map_cons,List.map_nil,List.mem_cons,List.not_mem_nil,or_false]at hq
   rcases hq with rfl|rfl
   ·exact q1
   ·exact q2) fun w' f1=>(plain_all (e1.keep f1) hlen htr).mono fun v w2 hd=>⟨hd.1,by
    obtain⟨s,h1,h2⟩:=hd.2
    exact⟨s,h1,h2.at,fun h=>by
     rcases h2 with h2|h2
     ·exact h2.1
     ·exact(h2.1 h).elim⟩⟩
 ·obtain⟨v3',q3,s,rfl,hs⟩:=hp 3 (pin (by kernel_rfl))
  refine(h3_4.goM (mkE [] [] [(24,.tuple #[s,iV (plainF F m).1])]) hf (by decide) (fun q hq=>one q3 hq) trivial trivial rfl).mono fun g' w' hd=>?_
  obtain⟨fr',v',k1,k2,rfl,k3⟩:=hd
  exact⟨fr',_,k1,k2,⟨s,rfl,hs.keep k2⟩,k3⟩
 ·obtain⟨v4,q4,s,rfl,hs⟩:=hp 4 (pin (by kernel_rfl))
  refine(h3_5.goM (mkE [] [] [(1,s),(2,iV (plainF F m).1)]) hf (by decide) (fun q hq=>one q4 hq) trivial trivial (v:=s) rfl).mono fun g' w' hd=>?_
  obtain⟨fr',v',k1,k2,rfl,k3⟩:=hd
  exact⟨fr',_,k1,k2,hs.keep k2,k3⟩
 ·obtain⟨v4,q4,s,rfl,hs⟩:=hp 4 (pin (by kernel_rfl))
  exact h3_6.goM (mkE [] [] [(1,s),(2,iV (plainF F m).1)]) hf (by decide) (fun q hq=>one q4 hq) trivial trivial rfl
 ·obtain⟨v5,q5,e5⟩:=hp 5 (pin (by kernel_rfl))
  have e5:PE F m v5 w:=e5
  refine(h3_7.goM (mkE [] [] [(25,v5)]) hf (by decide) (fun q hq=>one q5 hq) trivial trivial (v:=v5) rfl).mono fun g' w' hd=>?_
  obtain⟨fr',v',k1,k2,rfl,k3⟩:=hd
  exact⟨fr',_,k1,k2,e5.keep k2,k3⟩
 ·obtain⟨v6,q6,e6⟩:=hp 6 (pin (by kernel_rfl))
  have e6:v6=iV (plainF F m).1:=e6
  subst e6
  exact h3_8.goM (mkE [] [] [(26,iV (plainF F m).1)]) hf (by decide) (fun q hq=>one q6 hq) trivial trivial rfl
theorem s3_all{X Y:Nat}{ls os a b:Value}{F:FlowD}{m:MakerD}{k:List Item}(hX:(Blk.obj 25 [ls,os]).at Try.prog w X)(hY:(Blk.obj 27 [iV m.mul,iV m.add,iV m.fails,iV m.panics]).at Try.prog w Y)(hF:FlowIn w (.agg #[ls,os]) F)(hlen:F.lets.length≤1000000)(htr:∀x∈F.lets,x.tree.length≤999999)(hol:F.outs.length≤4294967296)(hf:FA 3 135 (.code (q3 [1,1,0])::k) [] .normal [(2,a),(4,ptrV X),(5,ptrV Y),(7,b)] fr):
  Goes (G fr cs) w fun g' w'=>∃fr' s,g'=G fr' cs∧Fresh w w'∧PE F m s w'∧FA 3 135 (.inRegion d3 []::k) [] .normal [(2,a),(4,ptrV X),(5,ptrV Y),(7,b),(9,s),(10,iV (plainF F m).1)] fr':=by
 obtain⟨id,hid⟩:=draw_is (c:=q3 [1,1,0]) (by kernel_rfl)
 rw[hid]at hf
 refine(draw_in hf).trans fun g1 w1 hd=>?_
 obtain⟨ls',fr1,rfl,f1,hs,F1⟩:=hd
 refine(draw_up (b:=[(2,a),(4,ptrV X),(5,ptrV Y),(7,b)]) (nm:=n3) (val:=v3 (.agg #[ls,os]) F m) (early:=fun _=>true) (late:=[]) (n:=9) (w0:=w) (by kernel_rfl) (by kernel_rfl) (by kernel_rfl) (by kernel_rfl) (by kernel_rfl) (by kernel_rfl) (by kernel_rfl) List.Pairwise.nil v3_keep (s3_step (i0:=0) (e0:=0) hX hY hF hlen htr hol) ls' [] f1 (fun i hi=>by cases hi) hs ⟨_,F1,fun x hx=>hx,fun i hi=>by cases hi⟩).mono fun g2 w2 hd2=>?_
 obtain⟨fr2,lv,rfl,f2,F2,hb,hv⟩:=hd2
 obtain⟨s,q7,e7⟩:=hv 7 (by decide) rfl
 obtain⟨v8,q8,e8⟩:=hv 8 (by decide) rfl
 have e8:v8=iV (plainF F m).1:=e8
 subst e8
 refine⟨fr2,s,rfl,f2,e7,F2.sub fun x hx=>?_⟩
 simp only[List.mem_cons,List.not_mem_nil,or_false]at hx hb
 rcases hx with rfl|rfl|rfl|rfl|rfl|rfl
 ·exact hb _ (.inl rfl)
 ·exact hb _ (.inr (.inl rfl))
 ·exact hb _ (.inr (.inr (.inl rfl)))
 ·exact hb _ (.inr (.inr (.inr rfl)))
 ·exact q7
 ·exact q8
end
noncomputable abbrev d8:Array Oper:=opsOf (q3 [1,1,1,1,1,0])
def n8(i:Nat):Nat:=match i with
 |0=>42|1=>43|2=>44|3=>45|4=>46|5=>47|6=>41|7=>48|8=>49|9=>11|_=>12
def v8(x s:Value)(F:FlowD)(m:MakerD)(E:List (Int×Int))(r:Int×Int)(i:Nat)(v:Value)(w:World):Prop:=match i with
 |0=>v=x
 |1=>FlowAt w v F
 |2=>v=makerV m
 |3=>v=s
 |4=>EndsAt w v E
 |5=>v=.tuple #[iV r.1,iV r.2]
 |6=>v=.tuple #[iV r.1,iV r.2]
 |7=>v=iV r.1
 |8=>v=iV r.2
 |9=>v=iV r.1
 |_=>v=iV r.2
theorem v8_keep{x s:Value}{F:FlowD}{m:MakerD}{E:List (Int×Int)}{r:Int×Int}(i:Nat)(v:Value)(w w':World)(h:v8 x s F m E r i v w)(f:Fresh w w'):v8 x s F m E r i v w':=by
 unfold v8 at h⊢
 split at h
 all_goals first|exact h|exact FlowAt.keep h f|exact EndsAt.keep h f
section
variable {w w0:World}{cs:List Frame}{fr:Frame}
theorem s8_step{X Y:Nat}{ls os a b s:Value}{F:FlowD}{m:MakerD}{E:List (Int×Int)}{k:List Item}(hX:(Blk.obj 25 [ls,os]).at Try.prog w0 X)(hY:(Blk.obj 27 [iV m.mul,iV m.add,iV m.fails,iV m.panics]).at Try.prog w0 Y)(hF:FlowIn w0 (.agg #[ls,os]) F)(hE:EndsAt w0 s E)(h0:(chkF F).1=0)(hw:∀(i:Nat) (x:LetD),F.lets[i]?=some x->wildLet x=false)(hlE:E.length=F.lets.length)(hok:E.any badE=false)(hlen:F.lets.length≤1000000)(htr:∀x∈F.lets,x.tree.length≤999999)(hol:F.outs.length≤4294967296):
  ∀i,i<11->true=true->∀(l:List Nat) (w:World) (fr:Frame) (lv:List (Nat×Value)),Fresh w0 w->FA 3 135 (.inRegion d8 (i::l)::k) [] .normal lv fr->(∀x∈[(2,a),(4,ptrV X),(5,ptrV Y),(7,b),(9,s)],x∈lv)->(∀p∈preN d8 i,∃v,(n8 p,v)∈lv∧v8 (.agg #[ls,os]) s F m E (fitsL m E F.lets 0) p v w)->
   Goes (G fr cs) w fun g' w'=>∃fr' v,g'=G fr' cs∧Fresh w w'∧v8 (.agg #[ls,os]) s F m E (fitsL m E F.lets 0) i v w'∧FA 3 135 (.inRegion d8 l::k) [] .normal (lvPut (n8 i) v lv) fr':=by
 intro i hi _ l w fr lv f hf hb hp
 have b4:((4,ptrV X):Nat×Value)∈lv:=hb _ (List.mem_cons_of_mem _ (List.mem_cons_self ..))
 have b5:((5,ptrV Y):Nat×Value)∈lv:=hb _ (List.mem_cons_of_mem _ (List.mem_cons_of_mem _ (List.mem_cons_self ..)))
 have b9:((9,s):Nat×Value)∈lv:=hb _ (by simp)
 have one:∀{q:Nat×Value} {k:Nat} {v:Value},(k,v)∈lv->q∈[(k,v)]->q∈lv:=fun h hq=>by
  obtain rfl:=List.mem_singleton.1 hq
  exact h
 obtain⟨r,hr⟩:∃r,r=fitsL m E F.lets 0:=⟨_,rfl⟩
 rw[<-hr]at hp⊢
 rcases(by omega:i=0∨i=1∨i=2∨i=3∨i=4∨i=5∨i=6∨i=7∨i=8∨i=9∨i=10)with rfl|rfl|rfl|rfl|rfl|rfl|rfl|rfl|rfl|rfl|rfl
 ·exact h8_0.goM (mkE [] [(64,X)] [(8,ls),(9,os)]) hf (by decide) (fun q hq=>one b4 hq) trivial ⟨f.cell (blk_cell hX (i:=0) rfl),f.cell (blk_cell hX (i:=1) rfl),trivial⟩ rfl
 ·obtain⟨v0,q0,e0⟩:=hp 0 (pin (by kernel_rfl))
  have e0:v0=.agg #[ls,os]:=e0
  subst e0
  exact h8_1.goM (mkE [] [] [(42,.agg #[ls,os])]) (Q:=fun v w'=>FlowAt w' v F) hf (fun q hq=>one q0 hq) fun w' f1=>copyFlow_all (hF.keep (f.trans f1)) hlen htr hol
 ·exact h8_2.goM (mkE [(21,m.mul),(22,m.add),(23,m.fails),(24,m.panics)] [(65,Y)] []) hf (by decide) (fun q hq=>one b5 hq) trivial ⟨f.cell (blk_cell hY (i:=0) rfl),f.cell (blk_cell hY (i:=1) rfl),f.cell (blk_cell hY (i:=2) rfl),f.cell (blk_cell hY (i:=3) rfl),trivial⟩ rfl
 ·exact h8_3.goM (mkE [] [] [(9,s)]) hf (by decide) (fun q hq=>one b9 hq) trivial trivial rfl
 ·obtain⟨v3',q3,e3⟩:=hp 3 (pin (by kernel_rfl))
  have e3:v3'=s:=e3
  subst e3
  exact h8_4.goM (mkE [] [] [(45,v3')]) (Q:=fun v w'=>EndsAt w' v E) hf (fun q hq=>one q3 hq) fun w' f1=>(copyEnds_all (hE.keep (f.trans f1)) (by omega)).mono fun v w2 hd=>⟨hd.1,hd.2.at⟩
 ·obtain⟨v1,q1,e1⟩:=hp 1 (pin (by kernel_rfl))
  have e1:FlowAt w v1 F:=e1
  obtain⟨v2,q2,e2⟩:=hp 2 (pin (by kernel_rfl))
  have e2:v2=makerV m:=e2
  subst e2
  obtain⟨v4,q4,e4⟩:=hp 4 (pin (by kernel_rfl))
  have e4:EndsAt w v4 E:=e4
  exact h8_5.goM (mkE [] [] [(43,v1),(44,makerV m),(46,v4)]) (Q:=fun v w'=>v=.tuple #[iV r.1,iV r.2]) hf (fun q hq=>by
   simp only[told,List.map_cons,List.map_nil,List.mem_cons,List.not_mem_nil,or_false]at hq
   rcases hq with rfl|rfl|rfl
   ·exact q1
   ·exact q2
   ·exact q4) fun w' f1=>by
    rw[hr]
    exact Fits_all (e1.keep f1) (e4.keep f1) h0 hw hlE hok hlen htr
 ·obtain⟨v5,q5,e5⟩:=hp 5 (pin (by kernel_rfl))
  have e5:v5=.tuple #[iV r.1,iV r.2]:=e5
  subst e5
  exact h8_6.goM (mkE [] [] [(47,.tuple #[iV r.1,iV r.2])]) hf (by decide) (fun q hq=>one q5 hq) trivial trivial rfl
 ·obtain⟨v6,q6,e6⟩:=hp 6 (pin (by kernel_rfl))
  have e6:v6=.tuple #[iV r.1,iV r.2]:=e6
  subst e6
  exact h8_7.goM (mkE [] [] [(1,iV r.1),(2,iV r.2)]) hf (by decide) (fun q hq=>one q6 hq) trivial trivial rfl
 ·obtain⟨v6,q6,e6⟩:=hp 6 (pin (by kernel_rfl))
  have e6:v6=.tuple #[iV r.1,iV r.2]:=e6
  subst e6
  exact h8_8.goM (mkE [] [] [(1,iV r.1),(2,iV r.2)]) hf (by decide) (fun q hq=>one q6 hq) trivial trivial rfl
 ·obtain⟨v7,q7,e7⟩:=hp 7 (pin (by kernel_rfl))
  have e7:v7=iV r.1:=e7
  subst e7
  exact h8_9.goM (mkE [] [] [(48,iV r.1)]) hf (by decide) (fun q hq=>one q7 hq) trivial trivial rfl
 ·obtain⟨v8',q8,e8⟩:=hp 8 (pin (by kernel_rfl))
  have e8:v8'=iV r.2:=e8
  subst e8
  exact h8_10.goM (mkE [] [] [(49,iV r.2)]) hf (by decide) (fun q hq=>one q8 hq) trivial trivial rfl
theorem s8_all{X Y:Nat}{ls os a b s:Value}{F:FlowD}{m:MakerD}{E:List (Int×Int)}{k:List Item}(hX:(Blk.obj 25 [ls,os]).at Try.prog w X)(hY:(Blk.obj 27 [iV m.mul,iV m.add,iV m.fails,iV m.panics]).at Try.prog w Y)(hF:FlowIn w (.agg #[ls,os]) F)(hE:EndsAt w s E)(h0:(chkF F).1=0)(hw:∀(i:Nat) (x:LetD),F.lets[i]?=some x->wildLet x=false)(hlE:E.length=F.lets.length)(hok:E.any badE=false)(hlen:F.lets.length≤1000000)(htr:∀x∈F.lets,x.tree.length≤999999)(hol:F.outs.length≤4294967296)(hf:FA 3 135 (.code (q3 [1,1,1,1,1,0])::k) [] .normal [(2,a),(4,ptrV X),(5,ptrV Y),(7,b),(9,s)] fr):
  Goes (G fr cs) w fun g' w'=>∃fr',g'=G fr' cs∧Fresh w w'∧FA 3 135 (.inRegion d8 []::k) [] .normal [(2,a),(4,ptrV X),(5,ptrV Y),(7,b),(9,s),(11,iV (fitsL m E F.lets 0).1),(12,iV (fitsL m E F.lets 0).2)] fr':=by
 obtain⟨id,hid⟩:=draw_is (c:=q3 [1,1,1,1,1,0]) (by kernel_rfl)
 rw[hid]at hf
 refine(draw_in hf).trans fun g1 w1 hd=>?_
 obtain⟨ls',fr1,rfl,f1,hs,F1⟩:=hd
 refine(draw_up (b:=[(2,a),(4,ptrV X),(5,ptrV Y),(7,b),(9,s)]) (nm:=n8) (val:=v8 (.agg #[ls,os]) s F m E (fitsL m E F.lets 0)) (early:=fun _=>true) (late:=[]) (n:=11) (w0:=w) (by kernel_rfl) (by kernel_rfl) (by kernel_rfl) (by kernel_rfl) (by kernel_rfl) (by kernel_rfl) (by kernel_rfl) List.Pairwise.nil v8_keep (s8_step hX hY hF hE h0 hw hlE hok hlen htr hol) ls' [] f1 (fun i hi=>by cases hi) hs ⟨_,F1,fun x hx=>hx,fun i hi=>by cases hi⟩).mono fun g2 w2 hd2=>?_
 obtain⟨fr2,lv,rfl,f2,F2,hb,hv⟩:=hd2
 obtain⟨v9,q9,e9⟩:=hv 9 (by decide) rfl
 have e9:v9=iV (fitsL m E F.lets 0).1:=e9
 subst e9
 obtain⟨v10,q10,e10⟩:=hv 10 (by decide) rfl
 have e10:v10=iV (fitsL m E F.lets 0).2:=e10
 subst e10
 refine⟨fr2,rfl,f2,F2.sub fun x hx=>?_⟩
 simp only[List.mem_cons,List.not_mem_nil,or_false]at hx hb
 rcases hx with rfl|rfl|rfl|rfl|rfl|rfl|rfl
 ·exact hb _ (.inl rfl)
 ·exact hb _ (.inr (.inl rfl))
 ·exact hb _ (.inr (.inr (.inl rfl)))
 ·exact hb _ (.inr (.inr (.inr (.inl rfl))))
 ·exact hb _ (.inr (.inr (.inr (.inr rfl))))
 ·exact q9
 ·exact q10
end
noncomputable abbrev d21:Array Oper:=opsOf (q3 [1,1,1,1,1,1,1,1,1,1,1,0])
def n21(i:Nat):Nat:=match i with
 |0=>118|1=>119|2=>120|3=>121|4=>122|5=>117|6=>123|7=>124|8=>11|_=>12
def v21(x s:Value)(F:FlowD)(m:MakerD)(E:List (Int×Int))(r:Int×Int)(i:Nat)(v:Value)(w:World):Prop:=match i with
 |0=>v=x
 |1=>FlowAt w v F
 |2=>v=makerV m
 |3=>v=s
 |4=>v=.tuple #[iV r.1,iV r.2]
 |5=>v=.tuple #[iV r.1,iV r.2]
 |6=>v=iV r.1
 |7=>v=iV r.2
 |8=>v=iV r.1
 |_=>v=iV r.2
theorem v21_keep{x s:Value}{F:FlowD}{m:MakerD}{E:List (Int×Int)}{r:Int×Int}(i:Nat)(v:Value)(w w':World)(h:v21 x s F m E r i v w)(f:Fresh w w'):v21 x s F m E r i v w':=by
 unfold v21 at h⊢
 split at h
 all_goals first|exact h|exact FlowAt.keep h f
section
variable {w w0:World}{cs:List Frame}{fr:Frame}
theorem s21_step{X Y:Nat}{ls os a b s:Value}{F:FlowD}{m:MakerD}{E:List (Int×Int)}{k:List Item}(hX:(Blk.obj 25 [ls,os]).at Try.prog w0 X)(hY:(Blk.obj 27 [iV m.mul,iV m.add,iV m.fails,iV m.panics]).at Try.prog w0 Y)(hF:FlowIn w0 (.agg #[ls,os]) F)(hE:EndsAt w0 s E)(h0:(chkF F).1=0)(hw:∀(i:Nat) (x:LetD),F.lets[i]?=some x->wildLet x=false)(hlE:E.length=F.lets.length)(hok:E.any badE=false)(hlen:F.lets.length≤1000000)(htr:∀x∈F.lets,x.tree.length≤999999)(hol:F.outs.length≤4294967296):
  ∀i,i<10->true=true->∀(l:List Nat) (w:World) (fr:Frame) (lv:List (Nat×Value)),Fresh w0 w->FA 3 135 (.inRegion d21 (i::l)::k) [] .normal lv fr->(∀x∈[(2,a),(4,ptrV X),(5,ptrV Y),(7,b),(16,s)],x∈lv)->(∀p∈preN d21 i,∃v,(n21 p,v)∈lv∧v21 (.agg #[ls,os]) s F m E (fitsL m E F.lets 0) p v w)->
   Goes (G fr cs) w fun g' w'=>∃fr' v,g'=G fr' cs∧Fresh w w'∧v21 (.agg #[ls,os]) s F m E (fitsL m E F.lets 0) i v w'∧FA 3 135 (.inRegion d21 l::k) [] .normal (lvPut (n21 i) v lv) fr':=by
 intro i hi _ l w fr lv f hf hb hp
 have b4:((4,ptrV X):Nat×Value)∈lv:=hb _ (List.mem_cons_of_mem _ (List.mem_cons_self ..))
 have b5:((5,ptrV Y):Nat×Value)∈lv:=hb _ (List.mem_cons_of_mem _ (List.mem_cons_of_mem _ (List.mem_cons_self ..)))
 have b9:((16,s):Nat×Value)∈lv:=hb _ (by simp)
 have one:∀{q:Nat×Value} {k:Nat} {v:Value},(k,v)∈lv->q∈[(k,v)]->q∈lv:=fun h hq=>by
  obtain rfl:=List.mem_singleton.1 hq
  exact h
 obtain⟨r,hr⟩:∃r,r=fitsL m E F.lets 0:=⟨_,rfl⟩
 rw[<-hr]at hp⊢
 rcases(by omega:i=0∨i=1∨i=2∨i=3∨i=4∨i=5∨i=6∨i=7∨i=8∨i=9)with rfl|rfl|rfl|rfl|rfl|rfl|rfl|rfl|rfl|rfl
 ·exact h21_0.goM (mkE [] [(64,X)] [(8,ls),(9,os)]) hf (by decide) (fun q hq=>one b4 hq) trivial ⟨f.cell (blk_cell hX (i:=0) rfl),f.cell (blk_cell hX (i:=1) rfl),trivial⟩ rfl
 ·obtain⟨v0,q0,e0⟩:=hp 0 (pin (by kernel_rfl))
  have e0:v0=.agg #[ls,os]:=e0
  subst e0
  exact h21_1.goM (mkE [] [] [(118,.agg #[ls,os])]) (Q:=fun v w'=>FlowAt w' v F) hf (fun q hq=>one q0 hq) fun w' f1=>copyFlow_all (hF.keep (f.trans f1)) hlen htr hol
 ·exact h21_2.goM (mkE [(21,m.mul),(22,m.add),(23,m.fails),(24,m.panics)] [(65,Y)] []) hf (by decide) (fun q hq=>one b5 hq) trivial ⟨f.cell (blk_cell hY (i:=0) rfl),f.cell (blk_cell hY (i:=1) rfl),f.cell (blk_cell hY (i:=2) rfl),f.cell (blk_cell hY (i:=3) rfl),trivial⟩ rfl
 ·exact h21_3.goM (mkE [] [] [(16,s)]) hf (by decide) (fun q hq=>one b9 hq) trivial trivial rfl
 ·obtain⟨v1,q1,e1⟩:=hp 1 (pin (by kernel_rfl))
  have e1:FlowAt w v1 F:=e1
  obtain⟨v2,q2,e2⟩:=hp 2 (pin (by kernel_rfl))
  have e2:v2=makerV m:=e2
  subst e2
  obtain⟨v4,q4,e4⟩:=hp 3 (pin (by kernel_rfl))
  have e4:v4=s:=e4
  subst e4
  exact h21_4.goM (mkE [] [] [(119,v1),(120,makerV m),(121,v4)]) (Q:=fun v w'=>v=.tuple #[iV r.1,iV r.2]) hf (fun q hq=>by
   simp only[told,List.map_cons,List.map_nil,List.mem_cons,List.not_mem_nil,or_false]at hq
   rcases hq with rfl|rfl|rfl
   ·exact q1
   ·exact q2
   ·exact q4) fun w' f1=>by
    rw[hr]
    exact Fits_all (e1.keep f1) (hE.keep (f.trans f1)) h0 hw hlE hok hlen htr
 ·obtain⟨v5,q5,e5⟩:=hp 4 (pin (by kernel_rfl))
  have e5:v5=.tuple #[iV r.1,iV r.2]:=e5
  subst e5
  exact h21_5.goM (mkE [] [] [(47,.tuple #[iV r.1,iV r.2])]) hf (by decide) (fun q hq=>one q5 hq) trivial trivial rfl
 ·obtain⟨v6,q6,e6⟩:=hp 5 (pin (by kernel_rfl))
  have e6:v6=.tuple #[iV r.1,iV r.2]:=e6
  subst e6
  exact h21_6.goM (mkE [] [] [(1,iV r.1),(2,iV r.2)]) hf (by decide) (fun q hq=>one q6 hq) trivial trivial rfl
 ·obtain⟨v6,q6,e6⟩:=hp 5 (pin (by kernel_rfl))
  have e6:v6=.tuple #[iV r.1,iV r.2]:=e6
  subst e6
  exact h21_7.goM (mkE [] [] [(1,iV r.1),(2,iV r.2)]) hf (by decide) (fun q hq=>one q6 hq) trivial trivial rfl
 ·obtain⟨v7,q7,e7⟩:=hp 6 (pin (by kernel_rfl))
  have e7:v7=iV r.1:=e7
  subst e7
  exact h21_8.goM (mkE [] [] [(48,iV r.1)]) hf (by decide) (fun q hq=>one q7 hq) trivial trivial rfl
 ·obtain⟨v8',q8,e8⟩:=hp 7 (pin (by kernel_rfl))
  have e8:v8'=iV r.2:=e8
  subst e8
  exact h21_9.goM (mkE [] [] [(49,iV r.2)]) hf (by decide) (fun q hq=>one q8 hq) trivial trivial rfl
theorem s21_all{X Y:Nat}{ls os a b s:Value}{F:FlowD}{m:MakerD}{E:List (Int×Int)}{k:List Item}(hX:(Blk.obj 25 [ls,os]).at Try.prog w X)(hY:(Blk.obj 27 [iV m.mul,iV m.add,iV m.fails,iV m.panics]).at Try.prog w Y)(hF:FlowIn w (.agg #[ls,os]) F)(hE:EndsAt w s E)(h0:(chkF F).1=0)(hw:∀(i:Nat) (x:LetD),F.lets[i]?=some x->wildLet x=false)(hlE:E.length=F.lets.length)(hok:E.any badE=false)(hlen:F.lets.length≤1000000)(htr:∀x∈F.lets,x.tree.length≤999999)(hol:F.outs.length≤4294967296)(hf:FA 3 135 (.code (q3 [1,1,1,1,1,1,1,1,1,1,1,0])::k) [] .normal [(2,a),(4,ptrV X),(5,ptrV Y),(7,b),(16,s)] fr):
  Goes (G fr cs) w fun g' w'=>∃fr',g'=G fr' cs∧Fresh w w'∧FA 3 135 (.inRegion d21 []::k) [] .normal [(2,a),(4,ptrV X),(5,ptrV Y),(7,b),(16,s),(11,iV (fitsL m E F.lets 0).1),(12,iV (fitsL m E F.lets 0).2)] fr':=by
 obtain⟨id,hid⟩:=draw_is (c:=q3 [1,1,1,1,1,1,1,1,1,1,1,0]) (by kernel_rfl)
 rw[hid]at hf
 refine(draw_in hf).trans fun g1 w1 hd=>?_
 obtain⟨ls',fr1,rfl,f1,hs,F1⟩:=hd
 refine(draw_up (b:=[(2,a),(4,ptrV X),(5,ptrV Y),(7,b),(16,s)]) (nm:=n21) (val:=v21 (.agg #[ls,os]) s F m E (fitsL m E F.lets 0)) (early:=fun _=>true) (late:=[]) (n:=10) (w0:=w) (by kernel_rfl) (by kernel_rfl) (by kernel_rfl) (by kernel_rfl) (by kernel_rfl) (by kernel_rfl) (by kernel_rfl) List.Pairwise.nil v21_keep (s21_step hX hY hF hE h0 hw hlE hok hlen htr hol) ls' [] f1 (fun i hi=>by cases hi) hs ⟨_,F1,fun x hx=>hx,fun i hi=>by cases hi⟩).mono fun g2 w2 hd2=>?_
 obtain⟨fr2,lv,rfl,f2,F2,hb,hv⟩:=hd2
 obtain⟨v9,q9,e9⟩:=hv 8 (by decide) rfl
 have e9:v9=iV (fitsL m E F.lets 0).1:=e9
 subst e9
 obtain⟨v10,q10,e10⟩:=hv 9 (by decide) rfl
 have e10:v10=iV (fitsL m E F.lets 0).2:=e10
 subst e10
 refine⟨fr2,rfl,f2,F2.sub fun x hx=>?_⟩
 simp only[List.mem_cons,List.not_mem_nil,or_false]at hx hb
 rcases hx with rfl|rfl|rfl|rfl|rfl|rfl|rfl
 ·exact hb _ (.inl rfl)
 ·exact hb _ (.inr (.inl rfl))
 ·exact hb _ (.inr (.inr (.inl rfl)))
 ·exact hb _ (.inr (.inr (.inr (.inl rfl))))
 ·exact hb _ (.inr (.inr (.inr (.inr rfl))))
 ·exact q9
 ·exact q10
end
section
variable {w:World}{cs:List Frame}{fr:Frame}{fn nt i d:Nat}{ops:Array Oper}{l:List Nat}{k:List Item}{lv:List (Nat×Value)}
theorem op_allocEnd{ty:TypeId}(O:OpW nt ops i [] (.alloc 30) ty (some d))(hf:FA fn nt (.inRegion ops (i::l)::k) [] .normal lv fr)(hdn:d<nt):
  Goes (G fr cs) w fun g' w'=>∃fr' v,g'=G fr' cs∧(Fresh w w'∧v=ptrV w.heap.size∧(Blk.obj 30 [i8V 0,iV 0]).at Try.prog w' w.heap.size)∧FA fn nt (.inRegion ops l::k) [] .normal (lvPut d v lv) fr':=by
 refine O.go (R:=fun v w'=>Fresh w w'∧v=ptrV w.heap.size∧(Blk.obj 30 [i8V 0,iV 0]).at Try.prog w' w.heap.size) (mkE [] [] []) hf hdn rfl fun tm htm x e1 e2=>?_
 obtain⟨zv,hzv,hzc⟩:∃z,zero? Try.prog 30=.ok z∧z.cells?=.ok [i8 (.lit 0),i64 (.lit 0)]:=by
  have:=kindEnd.zero
  cases e:zero? Try.prog 30 with
  |error x=>rw[e]at this;cases this
  |ok i=>
   rw[e]at this
   have h2:some i.cells?=some (.ok [i8 (.lit 0),i64 (.lit 0)]):=this
   exact⟨i,rfl,Option.some.inj h2⟩
 unfold execOp
 simp only[e1,wq_bind,Instr.alloc,wq_zeroValue (ρ:=mkE [] [] []) hzv]
 refine wq_newVar_of (K:=KZ 0) (cells?_ev hzc (mkE [] [] [])) ?_
 refine⟨_,rfl,⟨fun n hn=>?_,by simp,rfl,rfl,rfl⟩,rfl,⟨(AV.evs (mkE [] [] []) [i8 (.lit 0),i64 (.lit 0)]).toArray,by simp,rfl⟩⟩
 show(w.heap.push _)[n]?=w.heap[n]?
 rw[Array.getElem?_push]
 have hn:¬w.heap.size≤n:=hn
 have:n≠w.heap.size:=fun e=>hn (by omega)
 simp[this]
end
noncomputable abbrev dE:Array Oper:=opsOf (q3 [1,1,1,1,1,1,1,0,1,0,0,1,0,0,0])
def nE(i:Nat):Nat:=match i with
 |0=>63|1=>64|2=>65|3=>66|4=>67|5=>68|6=>69|7=>70|8=>71|9=>62|10=>72|11=>73|12=>14|13=>200|_=>15
def vE(base:Nat)(x s:Value)(F:FlowD)(m:MakerD)(E:List (Int×Int))(j:Nat)(r:Int×Int)(i:Nat)(v:Value)(w:World):Prop:=match i with
 |0=>v=x
 |1=>FlowAt w v F
 |2=>v=iV j
 |3=>v=makerV m
 |4=>v=s
 |5=>v=iV j
 |6=>EndsAt w v (E.take j)
 |7=>EndsAt w v (E.take j)
 |8=>v=.tuple #[endV r,iV 0]
 |9=>v=.tuple #[endV r,iV 0]
 |10=>v=endV r
 |11=>v=iV 0
 |_=>∃X,v=ptrV X∧base≤X∧(Blk.obj 30 [i8V 0,iV 0]).at Try.prog w X
theorem vE_keep{base j:Nat}{x s:Value}{F:FlowD}{m:MakerD}{E:List (Int×Int)}{r:Int×Int}(i:Nat)(v:Value)(w w':World)(h:vE base x s F m E j r i v w)(f:Fresh w w'):vE base x s F m E j r i v w':=by
 unfold vE at h⊢
 split at h
 all_goals first|exact h|exact FlowAt.keep h f|exact EndsAt.keep h f|exact(let⟨X,h1,h2,h3⟩:=h;⟨X,h1,h2,blk_keep h3 f⟩)
section
variable {w w0:World}{cs:List Frame}{fr:Frame}
theorem sE_step{X Y j:Nat}{ls os a b s:Value}{F:FlowD}{m:MakerD}{E:List (Int×Int)}{y:LetD}{t:T}{k:List Item}(hX:(Blk.obj 25 [ls,os]).at Try.prog w0 X)(hY:(Blk.obj 27 [iV m.mul,iV m.add,iV m.fails,iV m.panics]).at Try.prog w0 Y)(hF:FlowIn w0 (.agg #[ls,os]) F)(hE:EndsAt w0 s E)(h0:(chkF F).1=0)(hj:F.lets[j]?=some y)(hg:GoodLet y j t)(hwy:wildLet y=false)(hjE:j≤E.length)(hok:(E.take j).any badE=false)(hEl:E.length≤1000000)(hlen:F.lets.length≤1000000)(htr:∀x∈F.lets,x.tree.length≤999999)(hol:F.outs.length≤4294967296):
  ∀i,i<15->Nat.blt i 13=true->∀(l:List Nat) (w:World) (fr:Frame) (lv:List (Nat×Value)),Fresh w0 w->FA 3 135 (.inRegion dE (i::l)::k) [] .normal lv fr->(∀x∈[(2,a),(4,ptrV X),(5,ptrV Y),(7,b),(9,s),(13,iV j)],x∈lv)->(∀p∈preN dE i,∃v,(nE p,v)∈lv∧vE w0.heap.size (.agg #[ls,os]) s F m E j (evF (E.take j) m t) p v w)->
   Goes (G fr cs) w fun g' w'=>∃fr' v,g'=G fr' cs∧Fresh w w'∧vE w0.heap.size (.agg #[ls,os]) s F m E j (evF (E.take j) m t) i v w'∧FA 3 135 (.inRegion dE l::k) [] .normal (lvPut (nE i) v lv) fr':=by
 intro i hi he l w fr lv f hf hb hp
 have b4:((4,ptrV X):Nat×Value)∈lv:=hb _ (by simp)
 have b5:((5,ptrV Y):Nat×Value)∈lv:=hb _ (by simp)
 have b9:((9,s):Nat×Value)∈lv:=hb _ (by simp)
 have b13:((13,iV j):Nat×Value)∈lv:=hb _ (by simp)
 have one:∀{q:Nat×Value} {k:Nat} {v:Value},(k,v)∈lv->q∈[(k,v)]->q∈lv:=fun h hq=>by
  obtain rfl:=List.mem_singleton.1 hq
  exact h
 have he:=Nat.blt_eq.mp he
 obtain⟨r,hr⟩:∃r,r=evF (E.take j) m t:=⟨_,rfl⟩
 rw[<-hr]at hp⊢
 rcases(by omega:i=0∨i=1∨i=2∨i=3∨i=4∨i=5∨i=6∨i=7∨i=8∨i=9∨i=10∨i=11∨i=12)with rfl|rfl|rfl|rfl|rfl|rfl|rfl|rfl|rfl|rfl|rfl|rfl|rfl
 ·exact h14_0.goM (mkE [] [(64,X)] [(8,ls),(9,os)]) hf (by decide) (fun q hq=>one b4 hq) trivial ⟨f.cell (blk_cell hX (i:=0) rfl),f.cell (blk_cell hX (i:=1) rfl),trivial⟩ rfl
 ·obtain⟨v0,q0,e0⟩:=hp 0 (pin (by kernel_rfl))
  have e0:v0=.agg #[ls,os]:=e0
  subst e0
  exact h14_1.goM (mkE [] [] [(63,.agg #[ls,os])]) (Q:=fun v w'=>FlowAt w' v F) hf (fun q hq=>one q0 hq) fun w' f1=>copyFlow_all (hF.keep (f.trans f1)) hlen htr hol
 ·exact h14_2.goM (mkE [] [] [(13,iV j)]) hf (by decide) (fun q hq=>one b13 hq) trivial trivial rfl
 ·exact h14_3.goM (mkE [(21,m.mul),(22,m.add),(23,m.fails),(24,m.panics)] [(65,Y)] []) hf (by decide) (fun q hq=>one b5 hq) trivial ⟨f.cell (blk_cell hY (i:=0) rfl),f.cell (blk_cell hY (i:=1) rfl),f.cell (blk_cell hY (i:=2) rfl),f.cell (blk_cell hY (i:=3) rfl),trivial⟩ rfl
 ·exact h14_4.goM (mkE [] [] [(9,s)]) hf (by decide) (fun q hq=>one b9 hq) trivial trivial rfl
 ·exact h14_5.goM (mkE [] [] [(13,iV j)]) hf (by decide) (fun q hq=>one b13 hq) trivial trivial rfl
 ·obtain⟨v4,q4,e4⟩:=hp 4 (pin (by kernel_rfl))
  have e4:v4=s:=e4
  subst e4
  obtain⟨v5,q5,e5⟩:=hp 5 (pin (by kernel_rfl))
  have e5:v5=iV j:=e5
  subst e5
  obtain⟨z,A,o,c,hs,hz,hzc,hel⟩:=(hE.keep f).ex
  have hf2:FA 3 135 (.inRegion dE (6::l)::k) [] .normal ((67,v4)::(68,iV j)::lv) fr:=hf.sub fun x hx=>by
   rcases List.mem_cons.1 hx with rfl|hx
   ·exact q4
   ·rcases List.mem_cons.1 hx with rfl|hx
    ·exact q5
    ·exact hx
  refine(h14_6.go (R:=fun y w'=>y=hdV z A o j c∧w'=w) (mkE [] [] []) hf2 (by decide) rfl fun tm htm x' e1 e2=>?_).mono fun g' w' hd=>?_
  ·unfold execOp
   simp only[e1,wq_bind,Option.map_some,Option.map_none]
   rw[htm 67 v4 rfl,htm 68 (iV j) rfl,hs]
   exact wq_take endU endS hjE (fun h=>by rw[hz h];rfl) hzc ⟨_,rfl,rfl,rfl⟩
  ·obtain⟨fr',y',h1,⟨rfl,rfl⟩,h3⟩:=hd
   refine⟨fr',_,h1,Fresh.refl _,EndsAt.take hs hz hzc hel hjE,h3.sub fun x hx=>?_⟩
   rcases List.mem_cons.1 hx with rfl|hx
   ·exact List.mem_cons_self ..
   ·have hx:=List.mem_filter.1 hx
    exact List.mem_cons_of_mem _ (List.mem_filter.2 ⟨List.mem_cons_of_mem _ (List.mem_cons_of_mem _ hx.1),hx.2⟩)
 ·obtain⟨v6,q6,e6⟩:=hp 6 (pin (by kernel_rfl))
  have e6:EndsAt w v6 (E.take j):=e6
  exact h14_7.goM (mkE [] [] [(69,v6)]) (Q:=fun v w'=>EndsAt w' v (E.take j)) hf (fun q hq=>one q6 hq) fun w' f1=>(copyEnds_all (e6.keep f1) (by rw[List.length_take];omega)).mono fun v w2 hd=>⟨hd.1,hd.2.at⟩
 ·obtain⟨v1,q1,e1⟩:=hp 1 (pin (by kernel_rfl))
  have e1:FlowAt w v1 F:=e1
  obtain⟨v2,q2,e2⟩:=hp 2 (pin (by kernel_rfl))
  have e2:v2=iV j:=e2
  subst e2
  obtain⟨v3,q3,e3⟩:=hp 3 (pin (by kernel_rfl))
  have e3:v3=makerV m:=e3
  subst e3
  obtain⟨v7,q7,e7⟩:=hp 7 (pin (by kernel_rfl))
  have e7:EndsAt w v7 (E.take j):=e7
  exact h14_8.goM (mkE [] [] [(64,v1),(65,iV j),(66,makerV m),(70,v7)]) (Q:=fun v w'=>v=.tuple #[endV r,iV 0]) hf (fun q hq=>by
   simp only[told,List.map_cons,List.map_nil,List.mem_cons,List.not_mem_nil,or_false]at hq
   rcases hq with rfl|rfl|rfl|rfl
   ·exact q1
   ·exact q2
   ·exact q3
   ·exact q7) fun w' f1=>by
    rw[hr]
    exact Let_all (e1.keep f1) (e7.keep f1) h0 hj hg hwy (by rw[List.length_take];omega) (by rw[List.take_take,Nat.min_self];exact hok) (by rw[List.length_take];omega) hlen htr
 ·obtain⟨v5,q5,e5⟩:=hp 8 (pin (by kernel_rfl))
  have e5:v5=.tuple #[endV r,iV 0]:=e5
  subst e5
  exact h14_9.goM (mkE [] [] [(71,.tuple #[endV r,iV 0])]) hf (by decide) (fun q hq=>one q5 hq) trivial trivial rfl
 ·obtain⟨v6,q6,e6⟩:=hp 9 (pin (by kernel_rfl))
  have e6:v6=.tuple #[endV r,iV 0]:=e6
  subst e6
  exact h14_10.goM (mkE [] [] [(1,endV r),(2,iV 0)]) hf (by decide) (fun q hq=>one q6 hq) trivial trivial rfl
 ·obtain⟨v6,q6,e6⟩:=hp 9 (pin (by kernel_rfl))
  have e6:v6=.tuple #[endV r,iV 0]:=e6
  subst e6
  exact h14_11.goM (mkE [] [] [(1,endV r),(2,iV 0)]) hf (by decide) (fun q hq=>one q6 hq) trivial trivial rfl
 ·refine(op_allocEnd h14_12 hf (by decide)).mono fun g' w' hd=>?_
  obtain⟨fr',v,h1,⟨h2,h3,h4⟩,h5⟩:=hd
  exact⟨fr',v,h1,h2,⟨_,h3,f.size,h4⟩,h5⟩
end
section
variable {fn nt n:Nat}{ops:Array Oper}{k:List Item}{b:List (Nat×Value)}{cs:List Frame}
theorem draw_rest{nm:Nat->Nat}{val:Nat->Value->World->Prop}{early must:Nat->Bool}(hsz:ops.size=n)(h1:((List.range n).all fun i=>(preN ops i).all fun p=>Nat.blt p i)=true)(h2:((List.range n).all fun i=>early i||((List.range n).all fun j=>!must j||(preN ops i).contains j))=true)(h3:((List.range n).all fun i=>(b.map (·.1)).all fun x=>!Nat.beq x (nm i))=true)(h4:((List.range n).all fun i=>(List.range n).all fun j=>Nat.beq i j||!Nat.beq (nm j) (nm i))=true)
 (keep:∀i v w w',val i v w->Fresh w w'->val i v w'){w0:World}
 (step:∀i,i<n->early i=true->∀(l:List Nat) (w:World) (fr:Frame) (lv:List (Nat×Value)),Fresh w0 w->FA fn nt (.inRegion ops (i::l)::k) [] .normal lv fr->(∀x∈b,x∈lv)->(∀p∈preN ops i,∃v,(nm p,v)∈lv∧val p v w)->
   Goes (G fr cs) w fun g' w'=>∃fr' v,g'=G fr' cs∧Fresh w w'∧val i v w'∧FA fn nt (.inRegion ops l::k) [] .normal (lvPut (nm i) v lv) fr'):
  ∀(l r:List Nat) {w:World} {fr:Frame},Fresh w0 w->(∀i∈r,i<n∧early i=true)->Sched ops r l->DrG fn nt ops k b nm val r l fr w->Goes (G fr cs) w fun g' w'=>∃fr' lv l r,g'=G fr' cs∧Fresh w0 w'∧(∀i∈r,i<n∧early i=true)∧(∀i,i<n->must i=true->i∈r)∧Sched ops r l∧(∀i∈l.head?,early i=false)∧FA fn nt (.inRegion ops l::k) [] .normal lv fr'∧(∀x∈b,x∈lv)∧∀i,i∈r->∃v,(nm i,v)∈lv∧val i v w':=by
 have hp:=pre_ok hsz h1
 have stop:∀{l r:List Nat} {w:World} {fr:Frame},Fresh w0 w->(∀i∈r,i<n∧early i=true)->(∀i,i<n->must i=true->i∈r)->Sched ops r l->(∀i∈l.head?,early i=false)->DrG fn nt ops k b nm val r l fr w->Goes (G fr cs) w fun g' w'=>∃fr' lv l r,g'=G fr' cs∧Fresh w0 w'∧(∀i∈r,i<n∧early i=true)∧(∀i,i<n->must i=true->i∈r)∧Sched ops r l∧(∀i∈l.head?,early i=false)∧FA fn nt (.inRegion ops l::k) [] .normal lv fr'∧(∀x∈b,x∈lv)∧∀i,i∈r->∃v,(nm i,v)∈lv∧val i v w':=fun{l r w fr} fw hr hall hs hh D=>by
  obtain⟨lv,g1,g2,g3⟩:=D.ex
  exact .here ⟨fr,lv,l,r,rfl,fw,hr,hall,hs,hh,g1,g2,g3⟩
 intro l
 induction l with
 |nil=>
  intro r w fr fw hr hs D
  exact stop fw hr (fun i hi he=>sched_full hp hs i (by rw[hsz];exact hi)) hs (fun i hi=>by cases hi) D
 |cons i l ih=>
  intro r w fr fw hr hs D
  obtain⟨q1,q2,q3⟩:=ready_pre hs.1
  rw[hsz]at q1
  cases he:early i with
  |false=>
   refine stop fw hr (fun j hj hje=>?_) hs (fun j hj=>by
    obtain rfl:i=j:=Option.some.inj hj
    exact he) D
   have:=List.all_eq_true.1 h2 i (List.mem_range.2 q1)
   rw[he,Bool.false_or]at this
   have:=List.all_eq_true.1 this j (List.mem_range.2 hj)
   rw[hje]at this
   exact q3 j (by simpa using this)
  |true=>
   obtain⟨lv,g1,g2,g3⟩:=D.ex
   refine(step i q1 he l w fr lv fw g1 g2 fun p hpp=>g3 p (q3 p hpp)).trans fun g1 w1 hd=>?_
   obtain⟨fr1,v,rfl,f1,hv,F1⟩:=hd
   have hbi:∀x∈b,x.1≠nm i:=fun x hx h=>by
    have:=List.all_eq_true.1 h3 i (List.mem_range.2 q1)
    have:=List.all_eq_true.1 this x.1 (List.mem_map.2 ⟨x,hx,rfl⟩)
    rw[h]at this
    simp at this
   refine ih (i::r) (fw.trans f1) (fun j hj=>?_) hs.2 ⟨_,F1,fun x hx=>?_,fun j hj=>?_⟩
   ·rcases List.mem_cons.1 hj with rfl|hj
    ·exact⟨q1,he⟩
    ·exact hr j hj
   ·exact List.mem_cons_of_mem _ (List.mem_filter.2 ⟨g2 x hx,by simpa using hbi x hx⟩)
   ·rcases List.mem_cons.1 hj with rfl|hj
    ·exact⟨v,List.mem_cons_self ..,hv⟩
    ·obtain⟨u,h8,h9⟩:=g3 j hj
     refine⟨u,List.mem_cons_of_mem _ (List.mem_filter.2 ⟨h8,?_⟩),keep _ _ _ _ h9 f1⟩
     have hne:i≠j:=fun e=>q2 (e▸hj)
     have:=List.all_eq_true.1 h4 i (List.mem_range.2 q1)
     have:=List.all_eq_true.1 this j (List.mem_range.2 (hr j hj).1)
     simp only[Bool.or_eq_true,Bool.not_eq_true']at this
     rcases this with h|h
     ·exact(hne (Nat.eq_of_beq_eq_true h)).elim
     ·have:nm j≠nm i:=fun e=>by rw[e]at h;simp at h
      simpa using this
end
section
variable {w w0:World}{cs:List Frame}{fr:Frame}
theorem sE_all{X Y j:Nat}{ls os a b s:Value}{F:FlowD}{m:MakerD}{E:List (Int×Int)}{y:LetD}{t:T}{k:List Item}(hX:(Blk.obj 25 [ls,os]).at Try.prog w X)(hY:(Blk.obj 27 [iV m.mul,iV m.add,iV m.fails,iV m.panics]).at Try.prog w Y)(hF:FlowIn w (.agg #[ls,os]) F)(hE:EndsAt w s E)(h0:(chkF F).1=0)(hj:F.lets[j]?=some y)(hg:GoodLet y j t)(hwy:wildLet y=false)(hjE:j≤E.length)(hok:(E.take j).any badE=false)(hEl:E.length≤1000000)(hlen:F.lets.length≤1000000)(htr:∀x∈F.lets,x.tree.length≤999999)(hol:F.outs.length≤4294967296)(hf:FA 3 135 (.code (q3 [1,1,1,1,1,1,1,0,1,0,0,1,0,0,0])::k) [] .normal [(2,a),(4,ptrV X),(5,ptrV Y),(7,b),(9,s),(13,iV j)] fr):
  Goes (G fr cs) w fun g' w'=>∃fr' R l,g'=G fr' cs∧Fresh w w'∧w.heap.size≤R∧(Blk.obj 30 [i8V 0,iV 0]).at Try.prog w' R∧(l=[13,14]∧FA 3 135 (.inRegion dE l::k) [] .normal [(73,iV 0)] fr'∨l=[13,11,14])∧FA 3 135 (.inRegion dE l::k) [] .normal [(2,a),(4,ptrV X),(5,ptrV Y),(7,b),(9,s),(13,iV j),(14,ptrV R),(62,.tuple #[endV (evF (E.take j) m t),iV 0]),(72,endV (evF (E.take j) m t))] fr':=by
 obtain⟨id,hid⟩:=draw_is (c:=q3 [1,1,1,1,1,1,1,0,1,0,0,1,0,0,0]) (by kernel_rfl)
 rw[hid]at hf
 refine(draw_in hf).trans fun g1 w1 hd=>?_
 obtain⟨ls',fr1,rfl,f1,hs,F1⟩:=hd
 refine(draw_rest (b:=[(2,a),(4,ptrV X),(5,ptrV Y),(7,b),(9,s),(13,iV j)]) (nm:=nE) (val:=vE w.heap.size (.agg #[ls,os]) s F m E j (evF (E.take j) m t)) (early:=fun i=>Nat.blt i 13) (must:=fun i=>Nat.blt i 13&&!Nat.beq i 11) (n:=15) (w0:=w) (by kernel_rfl) (by kernel_rfl) (by kernel_rfl) (by kernel_rfl) (by kernel_rfl) vE_keep (sE_step hX hY hF hE h0 hj hg hwy hjE hok hEl hlen htr hol) ls' [] f1 (fun i hi=>by cases hi) hs ⟨_,F1,fun x hx=>hx,fun i hi=>by cases hi⟩).mono fun g2 w2 hd2=>?_
 obtain⟨fr2,lv,l,r,rfl,f2,hr,hall,hS,hh,F2,hb,hv⟩:=hd2
 have hsz:dE.size=15:=by kernel_rfl
 have hpre:∀i,i<dE.size->∀p∈preN dE i,p<i:=pre_ok hsz (by kernel_rfl)
 have hin:∀i,i<15->i≠11->i≠13->i≠14->i∈r:=fun i hi h1 h2 h3=>hall i hi (by
  have e1:Nat.blt i 13=true:=Nat.blt_eq.mpr (by omega)
  have e2:Nat.beq i 11=false:=by
   cases e:Nat.beq i 11 with
   |false=>rfl
   |true=>exact(h1 (Nat.eq_of_beq_eq_true e)).elim
  show(Nat.blt i 13&&!Nat.beq i 11)=true
  rw[e1,e2];rfl)
 have hno:∀i,13≤i->i∉r:=fun i h hi=>by
  have:=Nat.blt_eq.mp (hr i hi).2
  omega
 have hl:(l=[13,14]∧FA 3 135 (.inRegion dE l::k) [] .normal [(73,iV 0)] fr2)∨l=[13,11,14]:=by
  by_cases h11:11∈r
  ·left
   refine⟨?_,F2.sub fun x hx=>by
    obtain⟨v11,q11,e11⟩:=hv 11 h11
    have e11:v11=iV 0:=e11
    subst e11
    obtain rfl:=List.mem_singleton.1 hx
    exact q11⟩
   refine sched_chain hpre [13,14] hS (fun i hi=>?_) (fun i hi=>?_) (List.Pairwise.cons (fun b hb=>by
     obtain rfl:=List.mem_singleton.1 hb
     exact⟨by decide,pin (by kernel_rfl)⟩) (List.pairwise_singleton _ _))
   ·rw[hsz]at hi
    by_cases e1:i=11
    ·exact .inl (e1▸h11)
    by_cases e2:i=13
    ·exact .inr (by rw[e2];exact List.mem_cons_self ..)
    by_cases e3:i=14
    ·exact .inr (by rw[e3];exact List.mem_cons_of_mem _ (List.mem_cons_self ..))
    ·exact .inl (hin i hi e1 e2 e3)
   ·simp only[List.mem_cons,List.not_mem_nil,or_false]at hi
    rcases hi with rfl|rfl
    ·exact⟨by rw[hsz];decide,hno 13 (by decide)⟩
    ·exact⟨by rw[hsz];decide,hno 14 (by decide)⟩
  ·right
   cases l with
   |nil=>exact(h11 (sched_full hpre hS 11 (by rw[hsz];decide))).elim
   |cons i l=>
    obtain⟨q1,q2,q3⟩:=ready_pre hS.1
    rw[hsz]at q1
    have hi13:i=13:=by
     have h1:Nat.blt i 13=false:=hh i rfl
     have h2:¬i<13:=fun h=>by rw[Nat.blt_eq.mpr h]at h1;cases h1
     by_cases e:i=14
     ·subst e
      exact(hno 13 (by decide) (q3 13 (pin (by kernel_rfl)))).elim
     ·omega
    subst hi13
    rw[sched_chain hpre [11,14] hS.2 (fun i hi=>?_) (fun i hi=>?_) (List.Pairwise.cons (fun b hb=>by
     obtain rfl:=List.mem_singleton.1 hb
     exact⟨by decide,pin (by kernel_rfl)⟩) (List.pairwise_singleton _ _))]
    ·rw[hsz]at hi
     by_cases e1:i=11
     ·exact .inr (by rw[e1];exact List.mem_cons_self ..)
     by_cases e2:i=13
     ·exact .inl (by rw[e2];exact List.mem_cons_self ..)
     by_cases e3:i=14
     ·exact .inr (by rw[e3];exact List.mem_cons_of_mem _ (List.mem_cons_self ..))
     ·exact .inl (List.mem_cons_of_mem _ (hin i hi e1 e2 e3))
    ·simp only[List.mem_cons,List.not_mem_nil,or_false]at hi
     rcases hi with rfl|rfl
     ·refine⟨by rw[hsz];decide,fun h=>?_⟩
      rcases List.mem_cons.1 h with h|h
      ·cases h
      ·exact h11 h
     ·refine⟨by rw[hsz];decide,fun h=>?_⟩
      rcases List.mem_cons.1 h with h|h
      ·cases h
      ·exact hno 14 (by decide) h
 obtain⟨v10,q10,e10⟩:=hv 10 (hin 10 (by decide) (by decide) (by decide) (by decide))
 have e10:v10=endV (evF (E.take j) m t):=e10
 subst e10
 obtain⟨v9,q9,e9⟩:=hv 9 (hin 9 (by decide) (by decide) (by decide) (by decide))
 have e9:v9=.tuple #[endV (evF (E.take j) m t),iV 0]:=e9
 subst e9
 obtain⟨v12,q12,R,rfl,gR,hR⟩:=hv 12 (hin 12 (by decide) (by decide) (by decide) (by decide))
 refine⟨fr2,R,l,rfl,f2,gR,hR,hl,F2.sub fun x hx=>?_⟩
 simp only[List.mem_cons,List.not_mem_nil,or_false]at hx hb
 rcases hx with rfl|rfl|rfl|rfl|rfl|rfl|rfl|rfl|rfl
 ·exact hb _ (.inl rfl)
 ·exact hb _ (.inr (.inl rfl))
 ·exact hb _ (.inr (.inr (.inl rfl)))
 ·exact hb _ (.inr (.inr (.inr (.inl rfl))))
 ·exact hb _ (.inr (.inr (.inr (.inr (.inl rfl)))))
 ·exact hb _ (.inr (.inr (.inr (.inr (.inr rfl)))))
 ·exact q12
 ·exact q9
 ·exact q10
end
theorem FA.both{fn nt:Nat}{t:List Item}{ds:List Deferred}{kind:CallKind}{lv l:List (Nat×Value)}{fr:Frame}(h:FA fn nt t ds kind lv fr)(h':FA fn nt t ds kind l fr):FA fn nt t ds kind (lv++l) fr:=by
 obtain⟨⟨tm,rfl,h2,h3⟩,h4,h5⟩:=h
 obtain⟨⟨tm',e,h2',h3'⟩,_,_⟩:=h'
 have e:tm=tm':=by
  have:=congrArg Frame.tmps e
  exact this
 subst e
 exact⟨⟨tm,rfl,h2,fun p hp=>(List.mem_append.1 hp).elim (h3 p) (h3' p)⟩,h4,h5⟩
theorem badE_take{E:List (Int×Int)}(h:E.any badE=false)(j:Nat):(E.take j).any badE=false:=by
 rw[List.any_eq_false]at h⊢
 exact fun x hx=>h x (List.mem_of_mem_take hx)
noncomputable abbrev GHead:List Item:=[.code (q3 [1,1,1,1,1,1,1,0,1,0,0]),.inLoop (q3 [1,1,1,1,1,1,1,0,1,0,0]),.inBlock 0,.code (q3 [1,1,1,1,1,1,1,1])]
section
variable {w0:World}{cs:List Frame}{m:MakerD}
theorem ge_loop{X Y Z:Nat}{ls os s:Value}{n:Int}{F:FlowD}{E:List (Int×Int)}(hX:(Blk.obj 25 [ls,os]).at Try.prog w0 X)(hY:(Blk.obj 27 [iV m.mul,iV m.add,iV m.fails,iV m.panics]).at Try.prog w0 Y)(hF:FlowIn w0 (.agg #[ls,os]) F)(hE:EndsAt w0 s E)(h0:(chkF F).1=0)(hw:∀(i:Nat) (x:LetD),F.lets[i]?=some x->wildLet x=false)(hlE:E.length=F.lets.length)(hev:∀i x t,F.lets[i]?=some x->GoodLet x i t->E[i]?=some (evF (E.take i) m t))(hok:E.any badE=false)(hlen:F.lets.length≤1000000)(htr:∀x∈F.lets,x.tree.length≤999999)(hol:F.outs.length≤4294967296):
  ∀(k i:Nat) {w:World} {fr:Frame},i+k=E.length->Fresh w0 w->FA 3 135 GHead [] .normal [(2,iV n),(4,ptrV X),(5,ptrV Y),(7,ptrV Z),(9,s),(13,iV i)] fr->
  Goes (G fr cs) w fun g' w'=>∃fr',g'=G fr' cs∧Fresh w0 w'∧FA 3 135 GHead [] .normal [(2,iV n),(4,ptrV X),(5,ptrV Y),(7,ptrV Z),(9,s),(13,iV E.length)] fr'
 |0,i,w,fr,hi,fw,hf=>.here ⟨fr,rfl,fw,by rw[show E.length=i by omega];exact hf⟩
 |k+1,i,w,fr,hi,fw,hf=>by
  have hlt:i<E.length:=by omega
  obtain⟨x,hx⟩:∃x,F.lets[i]?=some x:=⟨_,List.getElem?_eq_getElem (by omega)⟩
  obtain⟨t,hgt⟩:=chkF_good h0 i x hx
  have he:=hev i x t hx hgt
  obtain⟨z,A,o,c,hs,hz,hzc,hel⟩:=hE.ex
  cases z with
  |true=>
   rw[hz rfl]at hlt
   simp only[List.length_nil]at hlt
   omega
  |false=>
  subst hs
  obtain⟨ρ,hρ⟩:∃ρ:Env,ρ=mkE [(30,n),(10,i),(81,E.length),(82,c),(83,o)] [(64,X),(65,Y),(66,Z),(80,A)] []:=⟨_,rfl⟩
  have hlb:=(ltB_ok (ρ:=ρ) (i:=10) (n:=81) (I:=i) (N:=E.length) (by rw[hρ];rfl) (by rw[hρ];rfl) hlt)
  refine(gl.go ρ hf (by rw[hρ];rfl) ⟨hlb.1,trivial⟩ trivial).trans fun g1 w1 hd=>?_
  obtain⟨I,B,fr1,rfl,f1,F1,_⟩:=hd
  rw[hρ]at F1
  have f01:=fw.trans f1
  refine(sE_all (a:=iV n) (b:=ptrV Z) (blk_keep hX f01) (blk_keep hY f01) (hF.keep f01) (hE.keep f01) h0 hx hgt (hw i x hx) (by omega) (badE_take hok i) (by omega) hlen htr hol F1).trans fun g2 w2 hd2=>?_
  obtain⟨fr2,R,l,rfl,f2,gR,hR,hl,F2⟩:=hd2
  obtain⟨e,hee⟩:∃e,e=evF (E.take i) m t:=⟨_,rfl⟩
  rw[<-hee]at F2 he
  obtain⟨c1,c2⟩:=hel i e he
  have f02:=f01.trans f2
  obtain⟨ρ2,hρ2⟩:∃ρ:Env,ρ=mkE [(30,n),(10,i),(81,E.length),(82,c),(83,o),(11,e.1),(12,e.2)] [(64,X),(65,Y),(66,Z),(80,A),(67,R)] []:=⟨_,rfl⟩
  have hlb2:=(ltB_ok (ρ:=ρ2) (i:=10) (n:=81) (I:=i) (N:=E.length) (by rw[hρ2];rfl) (by rw[hρ2];rfl) hlt)
  have hb:AllB ρ2 [((.cmp .lss (v 10) (.tn (v 81))),true),((.cmp .leq (.lit 0) (v 10)),true),((.cmp .lss (v 10) (.lit 0)),false),((.cmp .geq (v 10) (.tn (v 81))),false),((.cmp .eql (v 11) (v 11)),true),((.cmp .eql (v 12) (v 12)),true)]:=⟨hlb2.1,hlb2.2.1,hlb2.2.2.1,hlb2.2.2.2.1,decide_eq_true rfl,decide_eq_true rfl,trivial⟩
  have ao:((⟨(.dyn 80),(.plus (.tn (v 83)) (.times (.tn (v 10)) (.lit 2)))⟩:AA).ev ρ2)=⟨A,o+i*2,none⟩:=by rw[hρ2];rfl
  have ao1:((⟨(.dyn 80),(.plus (.tn (.plus (.tn (v 83)) (.times (.tn (v 10)) (.lit 2)))) (.lit 1))⟩:AA).ev ρ2)=⟨A,o+i*2+1,none⟩:=by rw[hρ2];rfl
  have hm:AllM ρ2 w2 [(⟨(.dyn 80),(.plus (.tn (v 83)) (.times (.tn (v 10)) (.lit 2)))⟩,i8 (v 11)),(⟨(.dyn 80),(.plus (.tn (.plus (.tn (v 83)) (.times (.tn (v 10)) (.lit 2)))) (.lit 1))⟩,i64 (v 12))]:=by
   refine⟨?_,?_,trivial⟩
   ·rw[ao]
    exact(f02.cell c1).trans (by rw[hρ2];rfl)
   ·rw[ao1]
    exact(f02.cell c2).trans (by rw[hρ2];rfl)
  have hAR:R≠A:=fun e=>by
   have h1:A<w1.heap.size:=cellLt (f01.cell c1)
   omega
  have hmo:∀p∈[((⟨(.dyn 80),(.plus (.tn (v 83)) (.times (.tn (v 10)) (.lit 2)))⟩:AA),i8 (v 11)),(⟨(.dyn 80),(.plus (.tn (.plus (.tn (v 83)) (.times (.tn (v 10)) (.lit 2)))) (.lit 1))⟩,i64 (v 12))],∀x∈[((67,.cells [i8 (.lit 0),i64 (.lit 0)] 30):Nat×ABlk)],ρ2.b x.1≠(p.1.ev ρ2).block:=fun p hp x hx=>by
   obtain rfl:=List.mem_singleton.1 hx
   simp only[List.mem_cons,List.not_mem_nil,or_false]at hp
   have e67:ρ2.b 67=R:=by rw[hρ2];rfl
   show ρ2.b 67≠_
   rw[e67]
   rcases hp with rfl|rfl
   ·show R≠((⟨(.dyn 80),(.plus (.tn (v 83)) (.times (.tn (v 10)) (.lit 2)))⟩:AA).ev ρ2).block
    rw[ao];exact hAR
   ·show R≠((⟨(.dyn 80),(.plus (.tn (.plus (.tn (v 83)) (.times (.tn (v 10)) (.lit 2)))) (.lit 1))⟩:AA).ev ρ2).block
    rw[ao1];exact hAR
  have ho:AllO ρ2 w2 [(67,.cells [i8 (.lit 0),i64 (.lit 0)] 30)]:=⟨⟨.obj 30 [i8V 0,iV 0],by rw[hρ2];exact hR,rfl,rfl⟩,trivial⟩
  have own:∀q,ownP ρ2 w2 [(67,.cells [i8 (.lit 0),i64 (.lit 0)] 30)] q->w1.heap.size≤q:=fun q hq=>by
   have:=f2.size
   rcases hq with h|⟨p,hp,e⟩
   ·omega
   ·obtain rfl:=List.mem_singleton.1 hp
    have e:ρ2.b 67=q:=e
    rw[hρ2]at e
    have e:R=q:=e
    omega
  have next:∀{w3:World} {fr3:Frame} {I B},Keeps (ownP ρ2 w2 [(67,.cells [i8 (.lit 0),i64 (.lit 0)] 30)]) w2 w3->FA 3 135 GHead [] .normal ([2,4,5,7,9,13].zip (AV.evs (mixE ρ2 I B) [i64 (v 30),ptr0 64,ptr0 65,ptr0 66,.slice (some ⟨(.dyn 80),(v 83)⟩) (v 81) (v 82),i64 (.op .add .i64 (v 10) (.lit 1))])) fr3->
    Goes (G fr3 cs) w3 fun g' w'=>∃fr',g'=G fr' cs∧Fresh w0 w'∧FA 3 135 GHead [] .normal [(2,iV n),(4,ptrV X),(5,ptrV Y),(7,ptrV Z),(9,hdV false A o E.length c),(13,iV E.length)] fr':=fun{w3 fr3 I B} kp F3=>by
   have f13:Fresh w1 w3:=fresh_keeps f2 (kp.mono own)
   refine ge_loop hX hY hF hE h0 hw hlE hev hok hlen htr hol k (i+1) (by omega) (f01.trans f13) ?_
   rw[hρ2]at F3
   rw[<-inc (i:=i) (by omega)]
   exact F3
  rcases hl with⟨rfl,F73⟩|rfl
  ·have F2':=F2.both F73
   refine(gmA.goW ρ2 F2' (by rw[hρ2];rfl) hb hm hmo ho one_nodup).trans fun g3 w3 hd3=>?_
   obtain⟨I,B,fr3,rfl,kp,F3,_⟩:=hd3
   exact next kp F3
  ·refine(gmB.goW ρ2 F2 (by rw[hρ2];rfl) hb hm hmo ho one_nodup).trans fun g3 w3 hd3=>?_
   obtain⟨I,B,fr3,rfl,kp,F3,_⟩:=hd3
   exact next kp F3
end
theorem endCells_set:∀{E:List (Int×Int)} {n:Nat} {e:Int×Int},n<E.length->((E.flatMap endCells).set (n*2) (i8V e.1)).set (n*2+1) (iV e.2)=(E.set n e).flatMap endCells
 |a::E,0,e,h=>rfl
 |a::E,n+1,e,h=>by
  have ih:=endCells_set (E:=E) (n:=n) (e:=e) (by simpa using h)
  rw[List.set_cons_succ,List.flatMap_cons,List.flatMap_cons,<-ih,show(n+1)*2=n*2+1+1 by omega]
  rfl
section
variable {w:World}{cs:List Frame}{fr:Frame}{fn nt i:Nat}{ops:Array Oper}{l:List Nat}{k:List Item}{lv:List (Nat×Value)}
theorem op_storeEnd{B n c p q:Nat}{e:Int×Int}{E:List (Int×Int)}(O:OpW nt ops i [] (.store 30 (.tmp p) (.tmp q)) 0 none)(hf:FA fn nt (.inRegion ops (i::l)::k) [] .normal lv fr)(hp:lookV p lv=some (.pointer (some ⟨B,n*2,none⟩)))(hq:lookV q lv=some (endV e))(hB:(Blk.vec 30 c (E.flatMap endCells)).at Try.prog w B)(h1:n<E.length):
  Goes (G fr cs) w fun g' w'=>∃fr',g'=G fr' cs∧(Keeps (fun b=>b=B) w w'∧(Blk.vec 30 c ((E.set n e).flatMap endCells)).at Try.prog w' B)∧FA fn nt (.inRegion ops l::k) [] .normal lv fr':=by
 obtain⟨arr,rest,inf,g1,g2,g3,g4⟩:=hB
 have hl:=endCells_len E
 have hsz:n*2+1<arr.size:=by
  have:=congrArg List.length g3
  rw[List.length_append]at this
  have:arr.size=arr.toList.length:=rfl
  omega
 refine O.go0 (R:=fun w'=>Keeps (fun b=>b=B) w w'∧(Blk.vec 30 c ((E.set n e).flatMap endCells)).at Try.prog w' B) (mkE [] [] []) hf rfl fun tm htm x e1 e2=>?_
 unfold execOp
 simp only[e1,wq_bind,Instr.storeAt]
 rw[htm p _ hp,htm q _ hq]
 simp only[Instr.sureAddr,wq_pure,storeVar,wq_bind,wq_sizeOf (n:=2) endS]
 rw[if_neg (fun h=>h rfl)]
 show wq _ _ _ (storeCells ⟨B,n*2,none⟩ [i8V e.1,iV e.2] 0) _ w
 simp only[storeCells,wq_bind]
 rw[wq_store]
 refine⟨rfl,⟨_,(cell?_of g1).trans (Array.getElem?_eq_getElem (show n*2<arr.size by omega))⟩,frozen?_of g1,trivial,?_⟩
 have a0:(⟨B,n*2,none⟩:Addr).add 0=⟨B,n*2,none⟩:=by simp[Addr.add]
 have a1:(⟨B,n*2,none⟩:Addr).add (0+1)=⟨B,n*2+1,none⟩:=by simp[Addr.add]
 rw[wq_store,a1,a0]
 have hb1:(w.setCell ⟨B,n*2,none⟩ (i8V e.1)).heap[B]?=some (.cells (arr.setIfInBounds (n*2) (i8V e.1)) 30 (0,0)):=by rw[heap_setCell,if_pos rfl,g1];rfl
 refine⟨rfl,⟨_,(cell?_of hb1).trans (Array.getElem?_eq_getElem (show n*2+1<(arr.setIfInBounds (n*2) (i8V e.1)).size by simp;omega))⟩,frozen?_of hb1,trivial,?_⟩
 have hb2:((w.setCell ⟨B,n*2,none⟩ (i8V e.1)).setCell ⟨B,n*2+1,none⟩ (iV e.2)).heap[B]?=some (.cells ((arr.setIfInBounds (n*2) (i8V e.1)).setIfInBounds (n*2+1) (iV e.2)) 30 (0,0)):=by rw[heap_setCell,if_pos rfl,hb1];rfl
 simp only[wq_pure]
 refine⟨trivial,⟨fun m hm=>?_,by rw[size_setCell,size_setCell];exact Nat.le_refl _,rfl,rfl,rfl⟩,_,rest,inf,hb2,g2,?_,?_⟩
 ·rw[heap_setCell,if_neg (fun x=>hm x),heap_setCell,if_neg (fun x=>hm x)]
 ·rw[Array.toList_setIfInBounds,Array.toList_setIfInBounds,g3,List.set_append_left _ _ (by omega),List.set_append_left _ _ (by rw[List.length_set];omega),endCells_set h1]
 ·simp only[Array.size_setIfInBounds]
  exact g4
end
end Go.Proofs.Ytmobbajggkjpgaa

/-
  A symbolic run of the model, proved sound, and the walk of the code: a text of its parts. Conditions: none.
-/
import Derived.Test.YtmobbajggkjpgaaHE
set_option linter.unusedSectionVars false
set_option maxRecDepth 100000
set_option linter.unusedVariables false
set_option linter.unusedSimpArgs false
namespace Go.Proofs.Ytmobbajggkjpgaa
open Go.Proofs.Ytmobbajggkjpgaa.SX Go.Conc
noncomputable def fnV:Value:=(AV.func (.func 36) [] []).ev (mkE [] [] [])
def badE(e:Int×Int):Bool:=decide (e.1<1)||decide (e.1>4)
theorem endU:under? Try.prog 33=.ok (.slice 30):=by kernel_rfl
theorem endS:sizeOf? Try.prog 30=.ok 2:=by kernel_rfl
theorem take_op{t elem size:Nat}(hU:under? Try.prog t=.ok (.slice elem))(hS:sizeOf? Try.prog elem=.ok size){off n c k:Nat}(h:k≤n)(hn:n≤c):sliceOp? Try.prog t (.slice (some ⟨.dyn 50,.lit (Int.ofNat off)⟩) (.lit (Int.ofNat n)) (.lit (Int.ofNat c))) none (some (.int .i64 (.lit (Int.ofNat k)))) none=.ok (.slice (some ⟨.dyn 50,.lit (Int.ofNat off)⟩) (.lit (Int.ofNat k)) (.lit (Int.ofNat c))):=by
 unfold sliceOp?
 rw[hU]
 simp only[bind,Except.bind,litNat?,bounds?,bound?,high?,hS,pure,Except.pure]
 have:k≤c:=Nat.le_trans h hn
 simp[h,hn,this,AA.add,addN]
theorem take_nil{t elem size:Nat}(hU:under? Try.prog t=.ok (.slice elem))(hS:sizeOf? Try.prog elem=.ok size):sliceOp? Try.prog t (.slice none (.lit 0) (.lit 0)) none (some (.int .i64 (.lit 0))) none=.ok (.slice none (.lit 0) (.lit 0)):=by
 unfold sliceOp?
 rw[hU]
 simp[bind,Except.bind,litNat?,bounds?,bound?,high?,hS,pure,Except.pure]
section
variable {w w0:World}{cs:List Frame}{fr:Frame}
theorem wq_take{E:Value->World->Prop}{t elem size:Nat}(hU:under? Try.prog t=.ok (.slice elem))(hS:sizeOf? Try.prog elem=.ok size){z:Bool}{A off n c k:Nat}(h:k≤n)(hz:z=true->n=0)(hn:z=false->n≤c){Q:Value->World->Prop}(hq:Q (hdV z A off k c) w):
  wq Try.prog (fun _=>True) E (Instr.sliceAt t (hdV z A off n c) none (some (iV k)) none) Q w:=by
 let K:Ctx:=⟨Try.prog,{},fun _=>True,fun _=>True,True,fun _ _=>False⟩
 let ρ:Env:=mkE [] [(50,A)] []
 cases z with
 |false=>exact wq_sliceAt (K:=K) (ρ:=ρ) (w:=w) (take_op (off:=off) (k:=k) hU hS h (hn rfl)) (Q:=Q) hq
 |true=>
  obtain rfl:k=0:=by
   have:=hz rfl
   omega
  exact wq_sliceAt (K:=K) (ρ:=ρ) (w:=w) (take_nil hU hS) (Q:=Q) hq
noncomputable abbrev AlH:List Item:=[.code (q49 [1,0,1,0,0]),.inLoop (q49 [1,0,1,0,0]),.inBlock 0,.code (q49 [1,1])]
theorem al_loop{z:Bool}{A o c:Nat}{E:List (Int×Int)}(hz:z=true->E=[])(hel:∀i e,E[i]?=some e->w0.cell? ⟨A,o+i*2,none⟩=some (i8V e.1)∧w0.cell? ⟨A,o+i*2+1,none⟩=some (iV e.2))(hlen:E.length≤1000000):
  ∀(m i:Nat) {w:World} {cs:List Frame} {fr:Frame},i+m=E.length->Fresh w0 w->FA 49 19 AlH [] .normal [(0,hdV z A o E.length c),(1,fnV),(7,iV E.length),(8,iV i)] fr->
  Goes (G fr cs) w fun g' w'=>∃fr' j,g'=G fr' cs∧Fresh w0 w'∧Leav 49 fr' w' (iV j)∧decide (j≥0)=(E.drop i).any badE
 |0,i,w,cs,fr,hi,fw,hf=>by
  obtain⟨ρ,hρ⟩:∃ρ:Env,ρ=mkE [(81,E.length),(82,c),(83,o),(10,i)] [(80,A)] []:=⟨_,rfl⟩
  have ez:(slZ z 80 83 81 82).ev ρ=hdV z A o E.length c:=by rw[hρ];cases z<;>rfl
  have en:(i64 (lnZ z 81)).ev ρ=iV E.length:=by
   rw[hρ]
   cases z with
   |false=>rfl
   |true=>rw[hz rfl];rfl
  refine((al9 z).go ρ hf (by
   show[some _,some _,some _,some _]=[some ((slZ z 80 83 81 82).ev ρ),some _,some ((i64 (lnZ z 81)).ev ρ),some _]
   rw[ez,en,hρ];rfl) ⟨by
    rw[hρ]
    cases z with
    |false=>exact decide_eq_false (by show ¬((i:Int)<((E.length:Nat):Int));omega)
    |true=>exact decide_eq_false (by show ¬((i:Int)<0);omega),trivial⟩ trivial).trans fun g1 w1 hd=>?_
  obtain⟨I,B,fr1,rfl,f1,F1,_⟩:=hd
  refine(leave1 ret49 F1 rfl).mono fun g6 w6 hd6=>?_
  obtain⟨fr6,rfl,rfl,hL⟩:=hd6
  rw[List.drop_of_length_le (by omega)]
  exact⟨fr6,-1,rfl,fw.trans f1,hL,rfl⟩
 |m+1,i,w,cs,fr,hi,fw,hf=>by
  have hlt:i<E.length:=by omega
  obtain⟨e,he⟩:∃e,E[i]?=some e:=⟨_,List.getElem?_eq_getElem hlt⟩
  cases z with
  |true=>
   rw[hz rfl]at hlt
   simp only[List.length_nil]at hlt
   omega
  |false=>
  obtain⟨c0,c1⟩:=hel i e he
  have hdrop:E.drop i=e::E.drop (i+1):=by
   rw[List.drop_eq_getElem_cons hlt]
   congr 1
   exact Option.some.inj ((List.getElem?_eq_getElem hlt).symm.trans he)
  rw[hdrop,List.any_cons]
  obtain⟨ρ,hρ⟩:∃ρ:Env,ρ=mkE [(81,E.length),(82,c),(83,o),(10,i),(11,e.1),(12,e.2)] [(80,A)] []:=⟨_,rfl⟩
  have mm:w.cell? ⟨A,o+i*2,none⟩=some (i8V e.1)∧w.cell? ⟨A,o+i*2+1,none⟩=some (iV e.2):=⟨fw.cell c0,fw.cell c1⟩
  have bb:=ltB_ok (ρ:=ρ) (i:=10) (n:=81) (I:=i) (N:=E.length) (by rw[hρ];rfl) (by rw[hρ];rfl) hlt
  by_cases h1:e.1<1
  ·refine(alA.go ρ hf (by rw[hρ];rfl) (AllB.app bb ⟨by rw[hρ];exact decide_eq_true h1,trivial⟩) ⟨by rw[hρ];exact mm.1,by rw[hρ];exact mm.2,trivial⟩).trans fun g1 w1 hd=>?_
   obtain⟨I,B,fr1,rfl,f1,F1,_⟩:=hd
   rw[hρ]at F1
   refine(leave1 ret49 F1 rfl).mono fun g6 w6 hd6=>?_
   obtain⟨fr6,rfl,rfl,hL⟩:=hd6
   refine⟨fr6,(i:Int),rfl,fw.trans f1,hL,?_⟩
   unfold badE
   rw[decide_eq_true h1,decide_eq_true (by omega)];rfl
  ·by_cases h4:e.1>4
   ·refine(alB.go ρ hf (by rw[hρ];rfl) (AllB.app bb ⟨by rw[hρ];exact decide_eq_false h1,by rw[hρ];exact decide_eq_true h4,trivial⟩) ⟨by rw[hρ];exact mm.1,by rw[hρ];exact mm.2,trivial⟩).trans fun g1 w1 hd=>?_
    obtain⟨I,B,fr1,rfl,f1,F1,_⟩:=hd
    rw[hρ]at F1
    refine(leave1 ret49 F1 rfl).mono fun g6 w6 hd6=>?_
    obtain⟨fr6,rfl,rfl,hL⟩:=hd6
    refine⟨fr6,(i:Int),rfl,fw.trans f1,hL,?_⟩
    unfold badE
    rw[decide_eq_true h4,decide_eq_true (by omega),Bool.or_true];rfl
   ·refine(alC.go ρ hf (by rw[hρ];rfl) (AllB.app bb ⟨by rw[hρ];exact decide_eq_false h1,by rw[hρ];exact decide_eq_false h4,trivial⟩) ⟨by rw[hρ];exact mm.1,by rw[hρ];exact mm.2,trivial⟩).trans fun g1 w1 hd=>?_
    obtain⟨I,B,fr1,rfl,f1,F1,_⟩:=hd
    rw[hρ]at F1
    have hb:badE e=false:=by unfold badE;rw[decide_eq_false h1,decide_eq_false h4];rfl
    rw[hb,Bool.false_or]
    refine al_loop (z:=false) (c:=c) (fun h=>by cases h) hel hlen m (i+1) (by omega) (fw.trans f1) ?_
    rw[<-inc (i:=i) (by omega)]
    exact F1
theorem index_all{s:Value}{E:List (Int×Int)}(h:EndsAt w s E)(hlen:E.length≤1000000):Ans 49 #[s,fnV] w fun v w'=>Fresh w w'∧∃j,v=iV j∧decide (j≥0)=E.any badE:=by
 obtain⟨z,A,o,c,rfl,hz,hzc,hel⟩:=h.ex
 refine ans_of fun cs=>?_
 obtain⟨ρ,hρ⟩:∃ρ:Env,ρ=mkE [(81,E.length),(82,c),(83,o)] [(80,A)] []:=⟨_,rfl⟩
 refine((al8 z).go ρ (enter2 ent49 rfl (hdV z A o E.length c) fnV) (by rw[hρ];cases z<;>rfl) trivial trivial).trans fun g1 w1 hd=>?_
 obtain⟨I,B,fr1,rfl,f1,F1,_⟩:=hd
 have F1':FA 49 19 AlH [] .normal [(0,hdV z A o E.length c),(1,fnV),(7,iV E.length),(8,iV (0:Nat))] fr1:=by
  rw[hρ]at F1
  cases z with
  |false=>exact F1
  |true=>rw[hz rfl];exact F1
 refine(al_loop hz hel hlen E.length 0 (by omega) f1 F1').mono fun g2 w2 hd2=>?_
 obtain⟨fr2,j,rfl,f2,hL,hj⟩:=hd2
 exact⟨fr2,_,rfl,hL,f2,j,rfl,hj⟩
theorem has_all{s:Value}{E:List (Int×Int)}(h:EndsAt w s E)(hlen:E.length≤1000000):Ans 35 #[s,fnV] w fun v w'=>Fresh w w'∧v=.bool (E.any badE):=by
 refine ans_of fun cs=>?_
 refine(al5.go (mkE [] [] [(0,s)]) (enter2 ent35 rfl s fnV) rfl trivial trivial).trans fun g1 w1 hd=>?_
 obtain⟨I,B,fr1,rfl,f1,F1,_⟩:=hd
 refine(al6.go (mkE [] [] [(5,s)]) (Q:=fun v w'=>∃j,v=iV j∧decide (j≥0)=E.any badE) F1 rfl fun w' f2=>index_all (h.keep (f1.trans f2)) hlen).trans fun g2 w2 hd2=>?_
 obtain⟨fr2,vv,rfl,f2,⟨j,rfl,hj⟩,F2⟩:=hd2
 have fin:∀{k:List Item} {w3:World} {fr3:Frame} {b:Bool},b=E.any badE->Fresh w w3->FA 35 9 (.code .ret::k) [] .normal [(4,.bool b)] fr3->Goes (G fr3 cs) w3 fun g' w'=>∃fr' v,g'=G fr' cs∧Leav 35 fr' w' v∧Fresh w w'∧v=.bool (E.any badE):=fun{k w3 fr3 b} hb f3 F3=>by
  refine(leave1 ret35 F3 rfl).mono fun g6 w6 hd6=>?_
  obtain⟨fr6,rfl,rfl,hL⟩:=hd6
  exact⟨fr6,_,rfl,hL,f3,by rw[hb]⟩
 by_cases h0:j≥0
 ·refine(al7true.go (mkE [(1,j)] [] []) F2 rfl ⟨decide_eq_true h0,trivial⟩ trivial).trans fun g3 w3 hd3=>?_
  obtain⟨I,B,fr3,rfl,f3,F3,_⟩:=hd3
  exact fin (b:=true) (by rw[<-hj,decide_eq_true h0]) (f1.trans (f2.trans f3)) F3
 ·refine(al7false.go (mkE [(1,j)] [] []) F2 rfl ⟨decide_eq_false h0,trivial⟩ trivial).trans fun g3 w3 hd3=>?_
  obtain⟨I,B,fr3,rfl,f3,F3,_⟩:=hd3
  exact fin (b:=false) (by rw[<-hj,decide_eq_false h0]) (f1.trans (f2.trans f3)) F3
theorem EndsAt.take{s:Value}{E:List (Int×Int)}{k:Nat}{z:Bool}{A o c:Nat}(hs:s=hdV z A o E.length c)(hz:z=true->E=[])(hzc:z=false->E.length≤c)(hel:∀i e,E[i]?=some e->w.cell? ⟨A,o+i*2,none⟩=some (i8V e.1)∧w.cell? ⟨A,o+i*2+1,none⟩=some (iV e.2))(hk:k≤E.length):EndsAt w (hdV z A o k c) (E.take k):=
 ⟨z,A,o,c,by rw[List.length_take,Nat.min_eq_left hk],fun h=>by rw[hz h,List.take_nil],fun h=>by
  rw[List.length_take,Nat.min_eq_left hk]
  exact Nat.le_trans hk (hzc h),fun i e he=>hel i e (by
  rw[List.getElem?_take]at he
  split at he
  ·exact he
  ·cases he)⟩
theorem all_all{s:Value}{E:List (Int×Int)}{k:Nat}(h:EndsAt w s E)(hk:k≤E.length)(hlen:E.length≤1000000):Ans 25 #[s,iV k] w fun v w'=>Fresh w w'∧v=.bool (!(E.take k).any badE):=by
 obtain⟨z,A,o,c,hs,hz,hzc,hel⟩:=h.ex
 refine ans_of fun cs=>?_
 refine(al1.go (mkE [(1,k)] [] [(0,s)]) (enter2 ent25 rfl s (iV k)) rfl trivial trivial).trans fun g1 w1 hd=>?_
 obtain⟨I,B,fr1,rfl,f1,F1,_⟩:=hd
 refine(al2.go (R:=fun y w'=>y=hdV z A o k c∧w'=w1) (mkE [] [] []) F1 (by decide) rfl fun tm htm x' e1 e2=>?_).trans fun g2 w2 hd2=>?_
 ·unfold execOp
  simp only[e1,wq_bind,Option.map_some,Option.map_none]
  rw[htm 5 s rfl,htm 6 (iV k) rfl,hs]
  exact wq_take endU endS hk (fun h=>by rw[hz h];rfl) hzc ⟨_,rfl,rfl,rfl⟩
 obtain⟨fr2,y,rfl,⟨rfl,rfl⟩,F2⟩:=hd2
 have hT:EndsAt w2 (hdV z A o k c) (E.take k):=EndsAt.take hs hz hzc (fun i e he=>⟨f1.cell (hel i e he).1,f1.cell (hel i e he).2⟩) hk
 refine(al3.go (mkE [] [] [(7,hdV z A o k c)]) (Q:=fun v w'=>v=.bool ((E.take k).any badE)) F2 rfl fun w' f3=>has_all (hT.keep f3) (by rw[List.length_take];omega)).trans fun g3 w3 hd3=>?_
 obtain⟨fr3,vv,rfl,f3,rfl,F3⟩:=hd3
 have fin:∀{kk:List Item} {w4:World} {fr4:Frame} {b:Bool},b=(!(E.take k).any badE)->Fresh w w4->FA 25 10 (.code .ret::kk) [] .normal [(4,.bool b)] fr4->Goes (G fr4 cs) w4 fun g' w'=>∃fr' v,g'=G fr' cs∧Leav 25 fr' w' v∧Fresh w w'∧v=.bool (!(E.take k).any badE):=fun{kk w3 fr3 b} hb f3 F3=>by
  refine(leave1 ret25 F3 rfl).mono fun g6 w6 hd6=>?_
  obtain⟨fr6,rfl,rfl,hL⟩:=hd6
  exact⟨fr6,_,rfl,hL,f3,by rw[hb]⟩
 cases hb:(E.take k).any badE with
 |true=>
  rw[hb]at F3 fin
  refine(al4true.go (mkE [] [] []) F3 rfl trivial trivial).trans fun g4 w4 hd4=>?_
  obtain⟨I,B,fr4,rfl,f4,F4,_⟩:=hd4
  exact fin (b:=false) rfl (f1.trans (f3.trans f4)) F4
 |false=>
  rw[hb]at F3 fin
  refine(al4false.go (mkE [] [] []) F3 rfl trivial trivial).trans fun g4 w4 hd4=>?_
  obtain⟨I,B,fr4,rfl,f4,F4,_⟩:=hd4
  exact fin (b:=true) rfl (f1.trans (f3.trans f4)) F4
end
section
variable {w:World}{cs:List Frame}{fr:Frame}{fn nt i d:Nat}{ops:Array Oper}{l:List Nat}{k:List Item}{lv:List (Nat×Value)}{lA:List (Nat×AV)}{bs:List (BE×Bool)}{mem:List (AA×AV)}
theorem OpV.goM{a:AV}(o:OpV nt ops i bs mem lA a d)(ρ:Env)(hf:FA fn nt (.inRegion ops (i::l)::k) [] .normal lv fr)(hdn:d<nt)(hl:∀p∈told ρ lA,p∈lv)(hb:AllB ρ bs)(hm:AllM ρ w mem){v:Value}(hv:a.ev ρ=v):
  Goes (G fr cs) w fun g' w'=>∃fr' v',g'=G fr' cs∧Fresh w w'∧v'=v∧FA fn nt (.inRegion ops l::k) [] .normal (lvPut d v' lv) fr':=
 (op_value (ρ:=ρ) hf (.inl rfl) hl o.want o.op o.low hb.mem hm.mem o.dst hdn o.alow).mono fun g' w' hd=>by
  obtain⟨fr',h1,h2,h3⟩:=hd
  exact⟨fr',_,h1,h2,hv,h3⟩
theorem OpC.goM{f:FuncId}{args:List AV}(o:OpC nt ops i lA f args d)(ρ:Env){Q:Value->World->Prop}(hf:FA fn nt (.inRegion ops (i::l)::k) [] .normal lv fr)(hl:∀p∈told ρ lA,p∈lv)(h:∀w',Fresh w w'->Ans f (AV.evs ρ args).toArray w' fun v w2=>Fresh w' w2∧Q v w2):
  Goes (G fr cs) w fun g' w'=>∃fr' v,g'=G fr' cs∧Fresh w w'∧Q v w'∧FA fn nt (.inRegion ops l::k) [] .normal (lvPut d v lv) fr':=
 (op_call (ρ:=ρ) (bs:=[]) (mem:=[]) (Q:=fun v w2=>Fresh w w2∧Q v w2) hf hl o.want o.op o.low (nofun) (nofun) o.dst o.dlt o.alow (fun w' f1=>(h w' f1).mono fun v w2 hd=>⟨f1.trans hd.1,hd.2⟩)).mono fun g' w' hd=>by
  obtain⟨fr',v,h1,h2,h3⟩:=hd
  exact⟨fr',v,h1,h2.1,h2.2,h3⟩
theorem end_callM{e:Int×Int}{r:Nat}(o79:OpC nt ops i [(r,.iface 79 (.opq r))] 91 [.opq r] d)(o82:OpC nt ops i [(r,.iface 82 (.opq r))] 92 [.opq r] d)(hf:FA fn nt (.inRegion ops (i::l)::k) [] .normal lv fr)(hr:(r,outV e)∈lv):
  Goes (G fr cs) w fun g' w'=>∃fr' v',g'=G fr' cs∧Fresh w w'∧v'=endV e∧FA fn nt (.inRegion ops l::k) [] .normal (lvPut d v' lv) fr':=by
 obtain⟨t,p,h1,h2,h3⟩:=end_all (e:=e)
 have ep:(mkE [] [] [(r,p)]).v r=p:=by
  show lookN undef r [(r,p)]=p
  simp[lookN,Go.Proofs.Ytmobbajggkjpgaa.SX.look]
 have ea:AV.evs (mkE [] [] [(r,p)]) [.opq r]=[p]:=by
  show[(mkE [] [] [(r,p)]).v r]=[p]
  rw[ep]
 rcases h2 with rfl|rfl
 ·refine(o79.goM (mkE [] [] [(r,p)]) (Q:=fun v w'=>v=endV e) hf (fun q hq=>by
   obtain rfl:q=(r,Value.iface 79 ((mkE [] [] [(r,p)]).v r)):=List.mem_singleton.1 hq
   rw[ep,<-h1];exact hr) fun w' f=>?_).mono fun g' w' hd=>?_
  ·rw[ea]
   exact h3 w'
  ·obtain⟨fr',vv,h4,h5,h6,h7⟩:=hd
   exact⟨fr',vv,h4,h5,h6,h7⟩
 ·refine(o82.goM (mkE [] [] [(r,p)]) (Q:=fun v w'=>v=endV e) hf (fun q hq=>by
   obtain rfl:q=(r,Value.iface 82 ((mkE [] [] [(r,p)]).v r)):=List.mem_singleton.1 hq
   rw[ep,<-h1];exact hr) fun w' f=>?_).mono fun g' w' hd=>?_
  ·rw[ea]
   exact h3 w'
  ·obtain⟨fr',vv,h4,h5,h6,h7⟩:=hd
   exact⟨fr',vv,h4,h5,h6,h7⟩
end
def fitF(m:MakerD)(E:List (Int×Int))(i:Nat)(e:Int×Int)(t:T):Bool:=
 if e.1=4∧e.2=i then false else decide (evF E m t=e)
noncomputable abbrev ftD:Array Oper:=opsOf (q26 [1,1,1,1,1,1,0])
noncomputable abbrev FtH:List Item:=[.code (q26 [1,1,1,0,1,0,1,0,1,0,0]),.inLoop (q26 [1,1,1,0,1,0,1,0,1,0,0]),.inBlock 0,.code (q26 [1,1,1,0,1,0,1,1]),.code (q26 [1,1,1,1])]
def ftN(i:Nat):Nat:=bif Nat.beq i 5 then 8 else i+102
def ftV(V:Nat)(r e:Int×Int)(i:Nat)(v:Value)(w:World):Prop:=match i with
 |0=>v=ptrV V
 |1=>v=outV r
 |2=>v=endV r
 |3=>v=endV e
 |_=>v=.bool (decide (r=e))
theorem ftSize:ftD.size=6:=by kernel_rfl
theorem ftPre:((List.range 6).all fun i=>(preN ftD i).all fun p=>Nat.blt p i)=true:=by kernel_rfl
theorem ftDraw:isDraw (q26 [1,1,1,1,1,1,0])=true:=by kernel_rfl
theorem ftN_inj{i j:Nat}(hi:i<6)(hj:j<6)(h:ftN i=ftN j):i=j:=by
 rcases(by omega:i=0∨i=1∨i=2∨i=3∨i=4∨i=5)with rfl|rfl|rfl|rfl|rfl|rfl<;>rcases(by omega:j=0∨j=1∨j=2∨j=3∨j=4∨j=5)with rfl|rfl|rfl|rfl|rfl|rfl<;>first|rfl|cases h
section
variable {w w0:World}{cs:List Frame}{fr:Frame}{m:MakerD}
theorem ft_step{V X:Nat}{r e:Int×Int}{k:List Item}(hc:∀w',Fresh w0 w'->Ans 23 #[ptrV V,iV 0] w' fun v w2=>Fresh w' w2∧v=outV r)(h0:w0.cell? ⟨X,0,none⟩=some (i8V e.1))(h1:w0.cell? ⟨X,1,none⟩=some (iV e.2)):
  ∀i,i<ftD.size->∀(l:List Nat) (w:World) (fr:Frame) (lv:List (Nat×Value)),Fresh w0 w->FA 26 107 (.inRegion ftD (i::l)::k) [] .normal lv fr->(∀x∈[(10,ptrV X),(16,ptrV V)],x∈lv)->(∀p∈preN ftD i,∃v,(ftN p,v)∈lv∧ftV V r e p v w)->
   Goes (G fr cs) w fun g' w'=>∃fr' v,g'=G fr' cs∧Fresh w w'∧ftV V r e i v w'∧FA 26 107 (.inRegion ftD l::k) [] .normal (lvPut (ftN i) v lv) fr':=by
 intro i hi l w fr lv f hf hb hp
 rw[ftSize]at hi
 have b10:((10,ptrV X):Nat×Value)∈lv:=hb _ (List.mem_cons_self ..)
 have b16:((16,ptrV V):Nat×Value)∈lv:=hb _ (List.mem_cons_of_mem _ (List.mem_cons_self ..))
 rcases(by omega:i=0∨i=1∨i=2∨i=3∨i=4∨i=5)with rfl|rfl|rfl|rfl|rfl|rfl
 ·exact ftA0.goM (mkE [] [] [(16,ptrV V)]) hf (by decide) (fun q hq=>by
   obtain rfl:=List.mem_singleton.1 hq
   exact b16) trivial trivial (v:=ptrV V) rfl
 ·obtain⟨v0,q0,e0⟩:=hp 0 (pin (by kernel_rfl))
  have e0:v0=ptrV V:=e0
  subst e0
  exact ft8.goM (mkE [] [] [(102,ptrV V)]) (Q:=fun v w'=>v=outV r) hf (fun q hq=>by
   obtain rfl:=List.mem_singleton.1 hq
   exact q0) fun w' f1=>hc w' (f.trans f1)
 ·obtain⟨v1,q1,e1⟩:=hp 1 (pin (by kernel_rfl))
  have e1:v1=outV r:=e1
  subst e1
  exact end_callM (e:=r) ft9a ft9b hf q1
 ·exact ftA3.goM (mkE [(11,e.1),(12,e.2)] [(68,X)] []) hf (by decide) (fun q hq=>by
   obtain rfl:=List.mem_singleton.1 hq
   exact b10) trivial ⟨f.cell h0,f.cell h1,trivial⟩ (v:=endV e) rfl
 ·obtain⟨v2,q2,e2⟩:=hp 2 (pin (by kernel_rfl))
  have e2:v2=endV r:=e2
  subst e2
  obtain⟨v3,q3,e3⟩:=hp 3 (pin (by kernel_rfl))
  have e3:v3=endV e:=e3
  subst e3
  have tl:∀p∈told (mkE [(11,e.1),(12,e.2),(13,r.1),(14,r.2)] [] []) [(104,.agg [i8 (v 13),i64 (v 14)]),(105,.agg [i8 (v 11),i64 (v 12)])],p∈lv:=fun q hq=>by
   simp only[told,List.map_cons,List.map_nil,List.mem_cons,List.not_mem_nil,or_false]at hq
   rcases hq with rfl|rfl
   ·exact q2
   ·exact q3
  by_cases h:r.1=e.1
  ·by_cases h':r.2=e.2
   ·exact ftA4y.goM (mkE [(11,e.1),(12,e.2),(13,r.1),(14,r.2)] [] []) hf (by decide) tl ⟨decide_eq_true h,decide_eq_true h',trivial⟩ trivial (v:=.bool (decide (r=e))) (by rw[decide_eq_true (Prod.ext h h')];rfl)
   ·exact ftA4m.goM (mkE [(11,e.1),(12,e.2),(13,r.1),(14,r.2)] [] []) hf (by decide) tl ⟨decide_eq_true h,decide_eq_false h',trivial⟩ trivial (v:=.bool (decide (r=e))) (by rw[decide_eq_false fun hh=>h' (by rw[hh])];rfl)
  ·exact ftA4n.goM (mkE [(11,e.1),(12,e.2),(13,r.1),(14,r.2)] [] []) hf (by decide) tl ⟨decide_eq_false h,trivial⟩ trivial (v:=.bool (decide (r=e))) (by rw[decide_eq_false fun hh=>h (by rw[hh])];rfl)
 ·obtain⟨v4,q4,e4⟩:=hp 4 (pin (by kernel_rfl))
  have e4:v4=.bool (decide (r=e)):=e4
  subst e4
  exact ftA5.goM (mkE [] [] [(7,.bool (decide (r=e)))]) hf (by decide) (fun q hq=>by
   obtain rfl:q=(106,Value.bool (decide (r=e))):=List.mem_singleton.1 hq
   exact q4) trivial trivial (v:=.bool (decide (r=e))) rfl
theorem ft_draw{V X:Nat}{r e:Int×Int}{k:List Item}(hc:∀w',Fresh w w'->Ans 23 #[ptrV V,iV 0] w' fun v w2=>Fresh w' w2∧v=outV r)(h0:w.cell? ⟨X,0,none⟩=some (i8V e.1))(h1:w.cell? ⟨X,1,none⟩=some (iV e.2))(hf:FA 26 107 (.code (q26 [1,1,1,1,1,1,0])::k) [] .normal [(10,ptrV X),(16,ptrV V)] fr):
  Goes (G fr cs) w fun g' w'=>∃fr',g'=G fr' cs∧Fresh w w'∧FA 26 107 (.inRegion ftD []::k) [] .normal [(8,.bool (decide (r=e)))] fr':=by
 obtain⟨id,hid⟩:=draw_is ftDraw
 rw[hid]at hf
 refine(draw_in hf).trans fun g1 w1 hd=>?_
 obtain⟨ls,fr1,rfl,f1,hs,F1⟩:=hd
 refine(draw_all (b:=[(10,ptrV X),(16,ptrV V)]) (nm:=ftN) (val:=ftV V r e) (w0:=w) (pre_ok ftSize ftPre) (fun i hi x hx=>?_) (fun i j hi hj hne h=>?_) (fun i v w w' h f=>h) (ft_step hc h0 h1) ls [] f1 (fun i hi=>by cases hi) hs ⟨_,F1,fun x hx=>hx,fun i hi=>by cases hi⟩).mono fun g2 w2 hd2=>?_
 ·rw[ftSize]at hi
  simp only[List.mem_cons,List.not_mem_nil,or_false]at hx
  rcases hx with rfl|rfl<;>(rcases(by omega:i=0∨i=1∨i=2∨i=3∨i=4∨i=5)with rfl|rfl|rfl|rfl|rfl|rfl<;>exact fun h=>by cases h)
 ·rw[ftSize]at hi hj
  exact hne (ftN_inj hi hj h.symm)
 ·obtain⟨fr2,lv,rfl,f2,F2,hb2,hv⟩:=hd2
  obtain⟨v,q,hval⟩:=hv 5 (by rw[ftSize];decide)
  have hval:v=.bool (decide (r=e)):=hval
  subst hval
  exact⟨fr2,rfl,f2,F2.sub fun x hx=>by
   obtain rfl:=List.mem_singleton.1 hx
   exact q⟩
theorem ft_loop{L:List LetD}{A o c i X1 X2 X3:Nat}(hel:∀i x,L[i]?=some x->LetAt w0 A (o+i*3) x)(hg:∀(i:Nat) (x:LetD),L[i]?=some x->x.tree≠[])(hw:∀(i:Nat) (x:LetD),L[i]?=some x->wildLet x=false)(hlen:L.length≤1000000):
  ∀(k j:Nat) {w:World} {cs:List Frame} {fr:Frame},j+k=L.length->Fresh w0 w->FA 26 107 FtH [] .normal [(1,iV i),(4,ptrV X1),(7,ptrV X2),(11,ptrV X3),(12,iV 0),(32,slV A o L.length c),(33,iV L.length),(34,iV j)] fr->
  Goes (G fr cs) w fun g' w'=>∃fr',g'=G fr' cs∧Fresh w0 w'∧Leav 26 fr' w' (.bool false)
 |0,j,w,cs,fr,hj,fw,hf=>by
  refine(ft6.go (mkE [(51,L.length),(52,c),(53,o),(10,i),(15,j)] [(64,X1),(65,X2),(66,X3),(50,A)] []) hf rfl ⟨decide_eq_false (by show ¬((j:Int)<((L.length:Nat):Int));omega),trivial⟩ trivial).trans fun g1 w1 hd=>?_
  obtain⟨I,B,fr1,rfl,f1,F1,_⟩:=hd
  refine(leave1 ret26 F1 rfl).mono fun g6 w6 hd6=>?_
  obtain⟨fr6,rfl,rfl,hL⟩:=hd6
  exact⟨fr6,rfl,fw.trans f1,hL⟩
 |k+1,j,w,cs,fr,hj,fw,hf=>by
  have hlt:j<L.length:=by omega
  obtain⟨x,hx⟩:∃x,L[j]?=some x:=⟨_,List.getElem?_eq_getElem hlt⟩
  have hne:=hg j x hx
  obtain⟨At,ot,ct,c0,c1,c2,hct,hnd⟩:=let_cells ((hel j x hx).keep fw) hne
  obtain⟨n,l,e⟩:∃n l,x.tree=n::l:=by
   cases e:x.tree with
   |nil=>exact(hne e).elim
   |cons n l=>exact⟨n,l,rfl⟩
  have h0:=hnd 0 n (by rw[e];rfl)
  rw[Nat.zero_mul,Nat.add_zero]at h0
  have h18:n.op≠18:=fun h=>by
   have:=hw j x hx
   unfold wildLet rootOp at this
   rw[e]at this
   simp[h]at this
  obtain⟨ρ,hρ⟩:∃ρ:Env,ρ=Go.Proofs.Ytmobbajggkjpgaa.SX.mkS [(51,L.length),(52,c),(53,o),(10,i),(15,j),(71,x.tree.length),(72,ct),(73,ot),(4,x.at'),(1,n.op)] [(64,X1),(65,X2),(66,X3),(50,A),(70,At)] [] [(1,x.name)]:=⟨_,rfl⟩
  refine(ft5.go ρ hf (by rw[hρ];rfl) (AllB.app (ltB_ok (i:=15) (n:=51) (I:=j) (N:=L.length) (by rw[hρ];rfl) (by rw[hρ];rfl) hlt) ⟨by rw[hρ];exact decide_eq_true (by show(0:Int)<((x.tree.length:Nat):Int);rw[e];simp only[List.length_cons];omega),by rw[hρ];exact decide_eq_false h18,trivial⟩) ⟨by rw[hρ];exact c0,by rw[hρ];exact c1,by rw[hρ];exact c2,by rw[hρ];exact h0.c0,trivial⟩).trans fun g1 w1 hd=>?_
  obtain⟨I,B,fr1,rfl,f1,F1,_⟩:=hd
  rw[hρ]at F1
  refine ft_loop (c:=c) (i:=i) (X1:=X1) (X2:=X2) (X3:=X3) hel hg hw hlen k (j+1) (by omega) (fw.trans f1) ?_
  rw[<-inc (i:=j) (by omega)]
  exact F1
theorem entT26:frSeen (⟨26,107,entT 26 [.opq 0,.opq 1,.opq 2,.opq 3],[.code (bodyOf Try.f26)],[],.run,.normal⟩:AFrame) (List.range 107)=⟨26,107,[.code (bodyOf Try.f26)],[],.run,.normal,[],[],[.opq 0,.opq 1,.opq 2,.opq 3]++List.replicate 103 Z⟩:=by kernel_rfl
theorem fits_all{ls os s:Value}{L:List LetD}{E:List (Int×Int)}{i:Nat}{x:LetD}{t:T}{e:Int×Int}(hl:LetsAt w ls L)(hE:EndsAt w s E)(hi:L[i]?=some x)(he:E[i]?=some e)(hlen:L.length≤1000000)(hxl:x.tree.length≤999999)(htr:treeOf x=some t)(hfl:x.tree=flat t)(hwf:WfT t)(hnd:NeedT E.length t)(hg:∀(i:Nat) (x:LetD),L[i]?=some x->x.tree≠[])(hw:∀(i:Nat) (x:LetD),L[i]?=some x->wildLet x=false):
  Ans 26 #[.agg #[ls,os],iV i,makerV m,s] w fun v w'=>Fresh w w'∧v=.bool (fitF m E i e t):=by
 obtain⟨z,A,o,c,hls,hz,hzc,hel⟩:=hl.ex
 obtain⟨y,A',o',c',hs,hy,hyc,hyel⟩:=hE.ex
 have hil:i<L.length:=(List.getElem?_eq_some_iff.1 hi).1
 have hie:i<E.length:=(List.getElem?_eq_some_iff.1 he).1
 cases z with
 |true=>
  rw[hz rfl]at hil
  simp only[List.length_nil]at hil
  omega
 |false=>
 cases y with
 |true=>
  rw[hy rfl]at hie
  simp only[List.length_nil]at hie
  omega
 |false=>
 have hls:ls=slV A o L.length c:=hls
 have hs:s=slV A' o' E.length c':=hs
 have hne:=hg i x hi
 obtain⟨At,ot,ct,c0,c1,c2,hct,hndAt⟩:=let_cells (hel i x hi) hne
 obtain⟨d0,d1⟩:=hyel i e he
 refine ans_of fun cs=>?_
 have En:=enter4T (live:=List.range 107) (vals:=[.opq 0,.opq 1,.opq 2,.opq 3]++List.replicate 103 Z) ent26 entT26 (.agg #[ls,os]) (iV i) (makerV m) s
 obtain⟨ρ,hρ⟩:∃ρ:Env,ρ=Go.Proofs.Ytmobbajggkjpgaa.SX.mkS [(51,L.length),(52,c),(53,o),(10,i),(71,x.tree.length),(72,ct),(73,ot),(4,x.at'),(81,E.length),(82,c'),(83,o'),(11,e.1),(12,e.2),(21,m.mul),(22,m.add),(23,m.fails),(24,m.panics)] [(50,A),(70,At),(80,A')] [(9,os)] [(1,x.name)]:=⟨_,rfl⟩
 have bb:=AllB.app (ltB_ok (ρ:=ρ) (i:=10) (n:=51) (I:=i) (N:=L.length) (by rw[hρ];rfl) (by rw[hρ];rfl) hil) (ltB_ok (ρ:=ρ) (i:=10) (n:=81) (I:=i) (N:=E.length) (by rw[hρ];rfl) (by rw[hρ];rfl) hie)
 have mm:w.cell? ⟨A,o+i*3,none⟩=some (.string x.name)∧w.cell? ⟨A,o+i*3+1,none⟩=some (slV At ot x.tree.length ct)∧w.cell? ⟨A,o+i*3+2,none⟩=some (iV x.at')∧w.cell? ⟨A',o'+i*2,none⟩=some (i8V e.1)∧w.cell? ⟨A',o'+i*2+1,none⟩=some (iV e.2):=⟨c0,c1,c2,d0,d1⟩
 have fin:∀{kk:List Item} {w4:World} {fr4:Frame} {b:Bool},b=fitF m E i e t->Fresh w w4->FA 26 107 (.code .ret::kk) [] .normal [(8,.bool b)] fr4->Goes (G fr4 cs) w4 fun g' w'=>∃fr' v,g'=G fr' cs∧Leav 26 fr' w' v∧Fresh w w'∧v=.bool (fitF m E i e t):=fun{kk w3 fr3 b} hb f3 F3=>by
  refine(leave1 ret26 F3 rfl).mono fun g6 w6 hd6=>?_
  obtain⟨fr6,rfl,rfl,hL⟩:=hd6
  exact⟨fr6,_,rfl,hL,f3,by rw[hb]⟩
 have rest:∀{w1:World} {fr1:Frame} {X0 X1 X2 X3 X4:Nat},¬(e.1=4∧e.2=i)->Fresh w w1->(Blk.obj 30 [i8V e.1,iV e.2]).at Try.prog w1 X4->(Blk.obj 51 [.string x.name,slV At ot x.tree.length ct,iV x.at']).at Try.prog w1 X3->(Blk.obj 33 [slV A' o' E.length c']).at Try.prog w1 X2->(Blk.obj 27 [iV m.mul,iV m.add,iV m.fails,iV m.panics]).at Try.prog w1 X1->
   FA 26 107 (.inRegion (opsOf (q26 [1,1,1,1,0,0])) [1]::[.code (q26 [1,1,1,1,0,1]),.code (q26 [1,1,1,1,1])]) [] .normal [(4,ptrV X0),(6,ptrV X1),(7,ptrV X2),(9,ptrV X3),(10,ptrV X4),(64,letV x (slV At ot x.tree.length ct))] fr1->Goes (G fr1 cs) w1 fun g' w'=>∃fr' v,g'=G fr' cs∧Leav 26 fr' w' v∧Fresh w w'∧v=.bool (fitF m E i e t):=fun{w1 fr1 X0 X1 X2 X3 X4} hn f1 h4 h3 h2 h1 F1=>by
  refine(ft2.go (mkE [] [] [(64,letV x (slV At ot x.tree.length ct))]) (Q:=fun v w'=>v=i8V (rootOp x)) F1 rfl fun w' f2=>root_let hne fun i n hi=>(hndAt i n hi).keep (f1.trans f2)).trans fun g2 w2 hd2=>?_
  obtain⟨fr2,vv,rfl,f2,rfl,F2⟩:=hd2
  have hwx:=hw i x hi
  unfold wildLet at hwx
  simp only[Bool.or_eq_false_iff,decide_eq_false_iff_not]at hwx
  obtain⟨σ,hσ⟩:∃σ:Env,σ=Go.Proofs.Ytmobbajggkjpgaa.SX.mkS [(71,x.tree.length),(72,ct),(73,ot),(4,x.at'),(81,E.length),(82,c'),(83,o'),(21,m.mul),(22,m.add),(23,m.fails),(24,m.panics),(1,rootOp x)] [(64,X0),(65,X1),(66,X2),(67,X3),(68,X4),(70,At),(80,A')] [] [(1,x.name)]:=⟨_,rfl⟩
  refine(ft7.go σ F2 (by rw[hσ];rfl) ⟨by rw[hσ];exact decide_eq_false hwx.1,by rw[hσ];exact decide_eq_false hwx.2,trivial⟩ ⟨by rw[hσ];exact f2.cell (blk_cell h3 (i:=0) rfl),by rw[hσ];exact f2.cell (blk_cell h3 (i:=1) rfl),by rw[hσ];exact f2.cell (blk_cell h3 (i:=2) rfl),by rw[hσ];exact f2.cell (blk_cell h2 (i:=0) rfl),by rw[hσ];exact f2.cell (blk_cell h1 (i:=0) rfl),by rw[hσ];exact f2.cell (blk_cell h1 (i:=1) rfl),by rw[hσ];exact f2.cell (blk_cell h1 (i:=2) rfl),by rw[hσ];exact f2.cell (blk_cell h1 (i:=3) rfl),trivial⟩).trans fun g3 w3 hd3=>?_
  obtain⟨I,B,fr3,rfl,f3,F3,bl,_⟩:=hd3
  rw[hσ]at F3 bl
  obtain⟨V,eV⟩:∃V,B 100=V:=⟨_,rfl⟩
  have hW:(Blk.obj 61 [slV At ot x.tree.length ct,slV A' o' E.length c',iV m.mul,iV m.add,iV m.fails,iV m.panics]).at Try.prog w3 V:=by rw[<-eV];exact bl.1.2
  have F3':FA 26 107 (.code (q26 [1,1,1,1,1,1,0])::[.code .ret]) [] .normal [(10,ptrV X4),(16,ptrV V)] fr3:=by rw[<-eV];exact F3
  have f03:=f1.trans (f2.trans f3)
  have wk:WalkAt w3 V x.tree At ot ct (slV A' o' E.length c') m:=⟨blk_cell hW (i:=0) rfl,blk_cell hW (i:=1) rfl,blk_cell hW (i:=2) rfl,blk_cell hW (i:=3) rfl,blk_cell hW (i:=4) rfl,blk_cell hW (i:=5) rfl,fun i n hi=>(hndAt i n hi).keep f03⟩
  refine(ft_draw (V:=V) (X:=X4) (r:=evF E m t) (e:=e) (fun w' f4=>?_) ((f2.trans f3).cell (blk_cell h4 (i:=0) rfl)) ((f2.trans f3).cell (blk_cell h4 (i:=1) rfl)) F3').trans fun g4 w4 hd4=>?_
  ·exact node_all t (at':=0) (rest:=[]) (wk.keep f4) (by omega) (by rw[<-hs];exact hE.keep (f03.trans f4)) hwf hnd (by rw[List.drop_zero,List.append_nil];exact hfl)
  ·obtain⟨fr4,rfl,f4,F4⟩:=hd4
   refine(ftEnd.go (mkE [] [] [(8,.bool (decide (evF E m t=e)))]) F4 rfl trivial trivial).trans fun g5 w5 hd5=>?_
   obtain⟨I,B,fr5,rfl,f5,F5,_⟩:=hd5
   refine fin (b:=decide (evF E m t=e)) ?_ (f03.trans (f4.trans f5)) F5
   unfold fitF
   rw[if_neg hn]
 by_cases h4:e.1=4
 ·by_cases h5:e.2=i
  ·refine(ft4.go ρ En (by rw[hρ,hls,hs];unfold Tell;kernel_rfl) (AllB.app bb ⟨by rw[hρ];exact decide_eq_true h4,by rw[hρ];exact decide_eq_true h5,trivial⟩) ⟨by rw[hρ];exact mm.1,by rw[hρ];exact mm.2.1,by rw[hρ];exact mm.2.2.1,by rw[hρ];exact mm.2.2.2.1,by rw[hρ];exact mm.2.2.2.2,trivial⟩).trans fun g1 w1 hd=>?_
   obtain⟨I,B,fr1,rfl,f1,F1,_⟩:=hd
   rw[hρ]at F1
   refine(ft_loop (w0:=w) (c:=c) (i:=i) (X1:=B 100) (X2:=B 102) (X3:=B ftO) hel hg hw hlen L.length 0 (by omega) f1 F1).mono fun g2 w2 hd2=>?_
   obtain⟨fr2,rfl,f2,hL⟩:=hd2
   refine⟨fr2,_,rfl,hL,f2,?_⟩
   unfold fitF
   rw[if_pos ⟨h4,h5⟩]
  ·refine(ft3.go ρ En (by rw[hρ,hls,hs];unfold Tell;kernel_rfl) (AllB.app bb ⟨by rw[hρ];exact decide_eq_true h4,by rw[hρ];exact decide_eq_false h5,trivial⟩) ⟨by rw[hρ];exact mm.1,by rw[hρ];exact mm.2.1,by rw[hρ];exact mm.2.2.1,by rw[hρ];exact mm.2.2.2.1,by rw[hρ];exact mm.2.2.2.2,trivial⟩).trans fun g1 w1 hd=>?_
   obtain⟨I,B,fr1,rfl,f1,F1,bl,_⟩:=hd
   rw[hρ]at F1 bl
   exact rest (X0:=B 100) (X1:=B 101) (X2:=B 102) (X3:=B ftL) (X4:=B ftE) (fun h=>h5 h.2) f1 bl.1.2 bl.2.1.2 bl.2.2.1.2 bl.2.2.2.1.2 F1
 ·refine(ft1.go ρ En (by rw[hρ,hls,hs];unfold Tell;kernel_rfl) (AllB.app bb ⟨by rw[hρ];exact decide_eq_false h4,trivial⟩) ⟨by rw[hρ];exact mm.1,by rw[hρ];exact mm.2.1,by rw[hρ];exact mm.2.2.1,by rw[hρ];exact mm.2.2.2.1,by rw[hρ];exact mm.2.2.2.2,trivial⟩).trans fun g1 w1 hd=>?_
  obtain⟨I,B,fr1,rfl,f1,F1,bl,_⟩:=hd
  rw[hρ]at F1 bl
  exact rest (X0:=B 100) (X1:=B 101) (X2:=B 102) (X3:=B ftL) (X4:=B ftE) (fun h=>h4 h.1) f1 bl.1.2 bl.2.1.2 bl.2.2.1.2 bl.2.2.2.1.2 F1
end
noncomputable def q9(l:List Nat):Code:=pc (bodyOf Try.f9) l
theorem ent9:enterA Try.prog 9 [.opq 0,.opq 1,.opq 2] .normal=.ok ⟨9,47,entT 9 [.opq 0,.opq 1,.opq 2],[.code (bodyOf Try.f9)],[],.run,.normal⟩:=by kernel_rfl
theorem ret9:RetC2 9 47 6 7:=fun st=>by kernel_rfl
noncomputable def q11(l:List Nat):Code:=pc (bodyOf Try.f11) l
theorem fi1(z:Bool):Pc 9 47 [.code (q9 [])] ([(0,.agg [slZ z 50 53 51 52,.opq 9]),(1,.agg [i64 (v 21),i64 (v 22),i64 (v 23),i64 (v 24)]),(2,.opq 2)]) [] [] [] 11 [101,100] [2,3,4,12] [.inRegion (opsOf (q9 [1,0,0])) [1,2,3,4,5,6],.code (q9 [1,0,1]),.code (q9 [1,1])] [.opq 2,ptr0 100,ptr0 101,.agg [slZ z 50 53 51 52,.opq 9]] [(101,.cells [i64 (v 21),i64 (v 22),i64 (v 23),i64 (v 24)] 27),(100,.cells [slZ z 50 53 51 52,.opq 9] 25)]:=⟨fun st=>by cases z<;>kernel_rfl,fun st=>by cases z<;>kernel_rfl,by cases z<;>kernel_rfl,of_decide_eq_true (by kernel_rfl)⟩
theorem fi2:OpC 47 (opsOf (q9 [1,0,0])) 1 [(12,.opq 12)] 21 [.opq 12] 13:=⟨fun st=>by kernel_rfl,fun st=>by kernel_rfl,fun st=>by kernel_rfl,by kernel_rfl,by decide,rfl⟩
theorem fi3(z y:Bool):Pc 9 47 [.inRegion (opsOf (q9 [1,0,0])) [2,3,4,5,6],.code (q9 [1,0,1]),.code (q9 [1,1])] ([(2,slZ y 80 83 81 82),(3,ptr0 64),(4,ptr0 65),(13,.tuple [i64 (v 5),i64 (v 6)])]) [((.cmp .neq (v 5) (.lit 0)),false),((.cmp .neq (lnZ y 81) (lnZ z 51)),false)] [(⟨(.dyn 64),(.lit 0)⟩,slZ z 50 53 51 52)] [] 26 [] [2,3,4,26,27,29] [.inRegion (opsOf (q9 [1,1,0,0])) [10,11,12],.code (q9 [1,1,0,1]),.code (q9 [1,1,1])] [slZ y 80 83 81 82,ptr0 64,ptr0 65,FB,slZ y 80 83 81 82,i64 (lnZ y 81)] []:=⟨fun st=>by cases z<;>cases y<;>kernel_rfl,fun st=>by cases z<;>cases y<;>kernel_rfl,by cases z<;>cases y<;>kernel_rfl,of_decide_eq_true (by kernel_rfl)⟩
theorem fi4:OpC 47 (opsOf (q9 [1,1,0,0])) 10 [(26,FB),(27,.opq 27),(29,.opq 29)] 25 [.opq 27,.opq 29] 30:=⟨fun st=>by kernel_rfl,fun st=>by kernel_rfl,fun st=>by kernel_rfl,by kernel_rfl,by decide,rfl⟩
theorem fi5(z:Bool):Pc 9 47 [.inRegion (opsOf (q9 [1,1,0,0])) [11,12],.code (q9 [1,1,0,1]),.code (q9 [1,1,1])] ([(2,.opq 2),(3,ptr0 64),(4,ptr0 65),(26,FB),(30,TB)]) [] [(⟨(.dyn 64),(.lit 0)⟩,slZ z 50 53 51 52)] [] 15 [] [2,3,4,34,35,36] [.code (q9 [1,1,1,0,1,0,0]),.inLoop (q9 [1,1,1,0,1,0,0]),.inBlock 0,.code (q9 [1,1,1,1])] [.opq 2,ptr0 64,ptr0 65,slZ z 50 53 51 52,i64 (lnZ z 51),i64 (.lit 0)] []:=⟨fun st=>by cases z<;>kernel_rfl,fun st=>by cases z<;>kernel_rfl,by cases z<;>kernel_rfl,of_decide_eq_true (by kernel_rfl)⟩
theorem fi6:Pc 9 47 [.code (q9 [1,1,1,0,1,0,0]),.inLoop (q9 [1,1,1,0,1,0,0]),.inBlock 0,.code (q9 [1,1,1,1])] ([(2,.opq 2),(3,ptr0 64),(4,ptr0 65),(34,.slice (some ⟨(.dyn 50),(v 53)⟩) (v 51) (v 52)),(35,i64 (.tn (v 51))),(36,i64 (v 10))]) [((.cmp .lss (v 10) (.tn (v 51))),true),((.cmp .leq (.lit 0) (v 10)),true),((.cmp .lss (v 10) (.lit 0)),false),((.cmp .geq (v 10) (.tn (v 51))),false)] [(⟨(.dyn 64),(.lit 0)⟩,.slice (some ⟨(.dyn 50),(v 53)⟩) (v 51) (v 52)),(⟨(.dyn 64),(.lit 1)⟩,.opq 9),(⟨(.dyn 65),(.lit 0)⟩,i64 (v 21)),(⟨(.dyn 65),(.lit 1)⟩,i64 (v 22)),(⟨(.dyn 65),(.lit 2)⟩,i64 (v 23)),(⟨(.dyn 65),(.lit 3)⟩,i64 (v 24))] [] 20 [] [2,3,4,10,34,35,36,39,40,41,42] [.inRegion (opsOf (q9 [1,1,1,0,1,0,0,1,1,0,0,1,0])) [4,5],.code (q9 [1,1,1,0,1,0,0,1,1,0,0,1,1]),.inBlock 1,.code (q9 [1,1,1,0,1,0,0,1,1,1]),.inLoop (q9 [1,1,1,0,1,0,0]),.inBlock 0,.code (q9 [1,1,1,1])] [.opq 2,ptr0 64,ptr0 65,i64 (v 10),.slice (some ⟨(.dyn 50),(v 53)⟩) (v 51) (v 52),i64 (.tn (v 51)),i64 (v 10),.agg [.slice (some ⟨(.dyn 50),(v 53)⟩) (v 51) (v 52),.opq 9],i64 (v 10),.agg [i64 (v 21),i64 (v 22),i64 (v 23),i64 (v 24)],.opq 2] []:=⟨fun st=>by kernel_rfl,fun st=>by kernel_rfl,by kernel_rfl,of_decide_eq_true (by kernel_rfl)⟩
theorem fi7:OpC 47 (opsOf (q9 [1,1,1,0,1,0,0,1,1,0,0,1,0])) 4 [(39,.opq 39),(40,.opq 40),(41,.opq 41),(42,.opq 42)] 26 [.opq 39,.opq 40,.opq 41,.opq 42] 43:=⟨fun st=>by kernel_rfl,fun st=>by kernel_rfl,fun st=>by kernel_rfl,by kernel_rfl,by decide,rfl⟩
theorem fi8:Pc 9 47 [.inRegion (opsOf (q9 [1,1,1,0,1,0,0,1,1,0,0,1,0])) [5],.code (q9 [1,1,1,0,1,0,0,1,1,0,0,1,1]),.inBlock 1,.code (q9 [1,1,1,0,1,0,0,1,1,1]),.inLoop (q9 [1,1,1,0,1,0,0]),.inBlock 0,.code (q9 [1,1,1,1])] ([(2,.opq 2),(3,ptr0 64),(4,ptr0 65),(34,.slice (some ⟨(.dyn 50),(v 53)⟩) (v 51) (v 52)),(35,i64 (.tn (v 51))),(36,i64 (v 10)),(10,i64 (v 10)),(43,FB)]) [] [] [] 9 [] [6,7] [.code .ret,.inBlock 1,.code (q9 [1,1,1,0,1,0,0,1,1,1]),.inLoop (q9 [1,1,1,0,1,0,0]),.inBlock 0,.code (q9 [1,1,1,1])] [i64 (.lit 30),i64 (v 10)] []:=⟨fun st=>by kernel_rfl,fun st=>by kernel_rfl,by kernel_rfl,of_decide_eq_true (by kernel_rfl)⟩
theorem fi9:Pc 9 47 [.inRegion (opsOf (q9 [1,1,1,0,1,0,0,1,1,0,0,1,0])) [5],.code (q9 [1,1,1,0,1,0,0,1,1,0,0,1,1]),.inBlock 1,.code (q9 [1,1,1,0,1,0,0,1,1,1]),.inLoop (q9 [1,1,1,0,1,0,0]),.inBlock 0,.code (q9 [1,1,1,1])] ([(2,.opq 2),(3,ptr0 64),(4,ptr0 65),(34,.slice (some ⟨(.dyn 50),(v 53)⟩) (v 51) (v 52)),(35,i64 (.tn (v 51))),(36,i64 (v 10)),(10,i64 (v 10)),(43,TB)]) [] [] [] 10 [] [2,3,4,34,35,36] [.code (q9 [1,1,1,0,1,0,0]),.inLoop (q9 [1,1,1,0,1,0,0]),.inBlock 0,.code (q9 [1,1,1,1])] [.opq 2,ptr0 64,ptr0 65,.slice (some ⟨(.dyn 50),(v 53)⟩) (v 51) (v 52),i64 (.tn (v 51)),i64 (.op .add .i64 (v 10) (.lit 1))] []:=⟨fun st=>by kernel_rfl,fun st=>by kernel_rfl,by kernel_rfl,of_decide_eq_true (by kernel_rfl)⟩
theorem fiA(z:Bool):Pc 9 47 [.code (q9 [1,1,1,0,1,0,0]),.inLoop (q9 [1,1,1,0,1,0,0]),.inBlock 0,.code (q9 [1,1,1,1])] ([(2,.opq 2),(3,ptr0 64),(4,ptr0 65),(34,slZ z 50 53 51 52),(35,i64 (lnZ z 51)),(36,i64 (v 10))]) [((.cmp .lss (v 10) (lnZ z 51)),false)] [] [] 12 [] [6,7] [.code .ret] [i64 (.lit 0),i64 (.lit 0)] []:=⟨fun st=>by cases z<;>kernel_rfl,fun st=>by cases z<;>kernel_rfl,by cases z<;>kernel_rfl,of_decide_eq_true (by kernel_rfl)⟩
section
mutual
theorem NeedT.mono{N M:Nat}(h:N≤M):∀{t:T},NeedT N t->NeedT M t
 |.nd n ks,⟨h1,h2,h3,h4⟩=>⟨fun e=>by have:=h1 e;omega,h2,h3,NeedL.mono h h4⟩
theorem NeedL.mono{N M:Nat}(h:N≤M):∀{ts:List T},NeedL N ts->NeedL M ts
 |[],_=>trivial
 |t::ts,⟨h1,h2⟩=>⟨NeedT.mono h h1,NeedL.mono h h2⟩
end
def fitAt(m:MakerD)(E:List (Int×Int))(i:Nat)(x:LetD):Bool:=match treeOf x,E[i]? with
 |some t,some e=>fitF m E i e t
 |_,_=>false
def fitsL(m:MakerD)(E:List (Int×Int)):List LetD->Nat->Int×Int
 |[],_=>(0,0)
 |x::r,i=>if fitAt m E i x then fitsL m E r (i+1)else(30,i)
noncomputable abbrev FiH:List Item:=[.code (q9 [1,1,1,0,1,0,0]),.inLoop (q9 [1,1,1,0,1,0,0]),.inBlock 0,.code (q9 [1,1,1,1])]
section
variable {w w0:World}{cs:List Frame}{fr:Frame}{m:MakerD}
theorem fi_loop{F:FlowD}{E:List (Int×Int)}{z:Bool}{A o c X Y:Nat}{os s:Value}(hz:z=true->F.lets=[])(hzc:z=false->F.lets.length≤c)(hel:∀i x,F.lets[i]?=some x->LetAt w0 A (o+i*3) x)(hE:EndsAt w0 s E)(hg:∀i x,F.lets[i]?=some x->∃t,GoodLet x i t)(hw:∀(i:Nat) (x:LetD),F.lets[i]?=some x->wildLet x=false)(hlE:E.length=F.lets.length)(hlen:F.lets.length≤1000000)(htr:∀x∈F.lets,x.tree.length≤999999)
 (hX:(Blk.obj 25 [hdV z A o F.lets.length c,os]).at Try.prog w0 X)(hY:(Blk.obj 27 [iV m.mul,iV m.add,iV m.fails,iV m.panics]).at Try.prog w0 Y):
  ∀(k i:Nat) {w:World} {cs:List Frame} {fr:Frame},i+k=F.lets.length->Fresh w0 w->FA 9 47 FiH [] .normal [(2,s),(3,ptrV X),(4,ptrV Y),(34,hdV z A o F.lets.length c),(35,iV F.lets.length),(36,iV i)] fr->
  Goes (G fr cs) w fun g' w'=>∃fr',g'=G fr' cs∧Fresh w0 w'∧Leav 9 fr' w' (.tuple #[iV (fitsL m E (F.lets.drop i) i).1,iV (fitsL m E (F.lets.drop i) i).2])
 |0,i,w,cs,fr,hi,fw,hf=>by
  obtain⟨ρ,hρ⟩:∃ρ:Env,ρ=mkE [(51,F.lets.length),(52,c),(53,o),(10,i)] [(64,X),(65,Y),(50,A)] [(2,s)]:=⟨_,rfl⟩
  have ez:(slZ z 50 53 51 52).ev ρ=hdV z A o F.lets.length c:=by rw[hρ];cases z<;>rfl
  have en:(i64 (lnZ z 51)).ev ρ=iV F.lets.length:=by
   rw[hρ]
   cases z with
   |false=>rfl
   |true=>rw[hz rfl];rfl
  refine((fiA z).go ρ hf (by
   show[some _,some _,some _,some _,some _,some _]=[some _,some _,some _,some ((slZ z 50 53 51 52).ev ρ),some ((i64 (lnZ z 51)).ev ρ),some _]
   rw[ez,en,hρ];rfl) ⟨by
    rw[hρ]
    cases z with
    |false=>exact decide_eq_false (by show ¬((i:Int)<((F.lets.length:Nat):Int));omega)
    |true=>exact decide_eq_false (by show ¬((i:Int)<0);omega),trivial⟩ trivial).trans fun g1 w1 hd=>?_
  obtain⟨I,B,fr1,rfl,f1,F1,_⟩:=hd
  refine(leave2 ret9 F1 rfl rfl).mono fun g6 w6 hd6=>?_
  obtain⟨fr6,rfl,rfl,hL⟩:=hd6
  rw[List.drop_of_length_le (by omega)]
  exact⟨fr6,rfl,fw.trans f1,hL⟩
 |k+1,i,w,cs,fr,hi,fw,hf=>by
  have hlt:i<F.lets.length:=by omega
  obtain⟨x,hx⟩:∃x,F.lets[i]?=some x:=⟨_,List.getElem?_eq_getElem hlt⟩
  obtain⟨e,he⟩:∃e,E[i]?=some e:=⟨_,List.getElem?_eq_getElem (by omega)⟩
  cases z with
  |true=>
   rw[hz rfl]at hlt
   simp only[List.length_nil]at hlt
   omega
  |false=>
  obtain⟨t,hgt⟩:=hg i x hx
  have hdrop:F.lets.drop i=x::F.lets.drop (i+1):=by
   rw[List.drop_eq_getElem_cons hlt]
   congr 1
   exact Option.some.inj ((List.getElem?_eq_getElem hlt).symm.trans hx)
  have hxl:=htr x (List.mem_of_getElem? hx)
  obtain⟨ρ,hρ⟩:∃ρ:Env,ρ=mkE [(51,F.lets.length),(52,c),(53,o),(10,i),(21,m.mul),(22,m.add),(23,m.fails),(24,m.panics)] [(64,X),(65,Y),(50,A)] [(2,s),(9,os)]:=⟨_,rfl⟩
  refine(fi6.go ρ hf (by rw[hρ];rfl) (ltB_ok (i:=10) (n:=51) (I:=i) (N:=F.lets.length) (by rw[hρ];rfl) (by rw[hρ];rfl) hlt) ⟨by rw[hρ];exact fw.cell (blk_cell hX (i:=0) rfl),by rw[hρ];exact fw.cell (blk_cell hX (i:=1) rfl),by rw[hρ];exact fw.cell (blk_cell hY (i:=0) rfl),by rw[hρ];exact fw.cell (blk_cell hY (i:=1) rfl),by rw[hρ];exact fw.cell (blk_cell hY (i:=2) rfl),by rw[hρ];exact fw.cell (blk_cell hY (i:=3) rfl),trivial⟩).trans fun g1 w1 hd=>?_
  obtain⟨I,B,fr1,rfl,f1,F1,_⟩:=hd
  rw[hρ]at F1
  have hfit:fitAt m E i x=fitF m E i e t:=by
   unfold fitAt
   rw[hgt.tr,he]
  refine(fi7.go (mkE [] [] [(39,.agg #[slV A o F.lets.length c,os]),(40,iV i),(41,makerV m),(42,s)]) (Q:=fun v w'=>v=.bool (fitF m E i e t)) F1 rfl fun w' f2=>?_).trans fun g2 w2 hd2=>?_
  ·have fa:=fw.trans (f1.trans f2)
   exact fits_all (L:=F.lets) ⟨false,A,o,c,rfl,hz,hzc,fun i x hi=>(hel i x hi).keep fa⟩ (hE.keep fa) hx he hlen hxl hgt.tr hgt.fl hgt.wf (hgt.nd.mono (by omega)) (fun i x hi=>by
    obtain⟨t,h⟩:=hg i x hi
    exact good_ne h) hw
  obtain⟨fr2,vv,rfl,f2,rfl,F2⟩:=hd2
  have f02:=fw.trans (f1.trans f2)
  rw[hdrop]
  unfold fitsL
  rw[hfit]
  cases hb:fitF m E i e t with
  |false=>
   rw[hb]at F2
   refine(fi8.go ρ F2 (by rw[hρ];rfl) trivial trivial).trans fun g3 w3 hd3=>?_
   obtain⟨I,B,fr3,rfl,f3,F3,_⟩:=hd3
   rw[hρ]at F3
   refine(leave2 ret9 F3 rfl rfl).mono fun g6 w6 hd6=>?_
   obtain⟨fr6,rfl,rfl,hL⟩:=hd6
   exact⟨fr6,rfl,f02.trans f3,hL⟩
  |true=>
   rw[hb]at F2
   refine(fi9.go ρ F2 (by rw[hρ];rfl) trivial trivial).trans fun g3 w3 hd3=>?_
   obtain⟨I,B,fr3,rfl,f3,F3,_⟩:=hd3
   rw[hρ]at F3
   refine fi_loop (z:=false) (os:=os) (fun h=>by cases h) hzc hel hE hg hw hlE hlen htr hX hY k (i+1) (by omega) (f02.trans f3) ?_
   rw[<-inc (i:=i) (by omega)]
   exact F3
theorem Fits_all{x s:Value}{F:FlowD}{E:List (Int×Int)}(h:FlowAt w x F)(hE:EndsAt w s E)(h0:(chkF F).1=0)(hw:∀(i:Nat) (x:LetD),F.lets[i]?=some x->wildLet x=false)(hlE:E.length=F.lets.length)(hok:E.any badE=false)(hlen:F.lets.length≤1000000)(htr:∀x∈F.lets,x.tree.length≤999999):
  Ans 9 #[x,makerV m,s] w fun v w'=>Fresh w w'∧v=.tuple #[iV (fitsL m E F.lets 0).1,iV (fitsL m E F.lets 0).2]:=by
 obtain⟨ls,os,rfl,hl,ho⟩:=h
 obtain⟨z,A,o,c,hls,hz,hzc,hel⟩:=hl.ex
 obtain⟨y,A',o',c',hs,hy,hyc,hyel⟩:=hE.ex
 refine ans_of fun cs=>?_
 obtain⟨ρ,hρ⟩:∃ρ:Env,ρ=mkE [(51,F.lets.length),(52,c),(53,o),(21,m.mul),(22,m.add),(23,m.fails),(24,m.panics)] [(50,A)] [(9,os),(2,s)]:=⟨_,rfl⟩
 have ez:∀I B,(slZ z 50 53 51 52).ev (mixE ρ I B)=ls:=fun I B=>by rw[hρ,hls];cases z<;>rfl
 refine((fi1 z).go ρ (enter3 ent9 rfl (.agg #[ls,os]) (makerV m) s) (by rw[hls,hρ];cases z<;>rfl) trivial trivial).trans fun g1 w1 hd=>?_
 obtain⟨I,B,fr1,rfl,f1,F1,bl,_⟩:=hd
 obtain⟨X,eX⟩:∃X,B 100=X:=⟨_,rfl⟩
 obtain⟨Y,eY⟩:∃Y,B 101=Y:=⟨_,rfl⟩
 have hY:(Blk.obj 27 [iV m.mul,iV m.add,iV m.fails,iV m.panics]).at Try.prog w1 Y:=by
  have:=bl.1.2
  rw[hρ]at this
  rw[<-eY]
  exact this
 have hX:(Blk.obj 25 [ls,os]).at Try.prog w1 X:=by
  have h1:(Blk.obj 25 [(slZ z 50 53 51 52).ev (mixE ρ I B),os]).at Try.prog w1 (B 100):=by
   have:=bl.2.1.2
   rw[hρ]at this⊢
   exact this
  rw[ez,eX]at h1
  exact h1
 have F1':FA 9 47 (.inRegion (opsOf (q9 [1,0,0])) [1,2,3,4,5,6]::[.code (q9 [1,0,1]),.code (q9 [1,1])]) [] .normal [(2,s),(3,ptrV X),(4,ptrV Y),(12,.agg #[ls,os])] fr1:=by
  have h1:FA 9 47 (.inRegion (opsOf (q9 [1,0,0])) [1,2,3,4,5,6]::[.code (q9 [1,0,1]),.code (q9 [1,1])]) [] .normal [(2,s),(3,ptrV (B 100)),(4,ptrV (B 101)),(12,.agg #[(slZ z 50 53 51 52).ev (mixE ρ I B),os])] fr1:=by
   rw[hρ]at F1⊢
   exact F1
  rw[ez,eX,eY]at h1
  exact h1
 refine(fi2.go (mkE [] [] [(12,.agg #[ls,os])]) (Q:=fun v w'=>v=.tuple #[iV (chkF F).1,iV (chkF F).2]) F1' rfl fun w' f2=>check_all ⟨ls,os,rfl,hl.keep (f1.trans f2),ho.keep (f1.trans f2)⟩ hlen htr).trans fun g2 w2 hd2=>?_
 obtain⟨fr2,vv,rfl,f2,rfl,F2⟩:=hd2
 have f12:=f1.trans f2
 obtain⟨σ,hσ⟩:∃σ:Env,σ=mkE [(51,F.lets.length),(52,c),(53,o),(5,(chkF F).1),(6,(chkF F).2),(81,E.length),(82,c'),(83,o')] [(50,A),(64,X),(65,Y),(80,A')] [(9,os),(2,s)]:=⟨_,rfl⟩
 have es:∀I B,(slZ z 50 53 51 52).ev (mixE σ I B)=ls:=fun I B=>by rw[hσ,hls];cases z<;>rfl
 have es0:(slZ z 50 53 51 52).ev σ=ls:=by rw[hσ,hls];cases z<;>rfl
 have ey:∀I B,(slZ y 80 83 81 82).ev (mixE σ I B)=s:=fun I B=>by rw[hσ,hs];cases y<;>rfl
 have ey0:(slZ y 80 83 81 82).ev σ=s:=by rw[hσ,hs];cases y<;>rfl
 have en0:(lnZ z 51).ev σ=(F.lets.length:Int):=by
  rw[hσ]
  cases z with
  |false=>rfl
  |true=>rw[hz rfl];rfl
 have eny:(lnZ y 81).ev σ=(E.length:Int):=by
  rw[hσ]
  cases y with
  |false=>rfl
  |true=>rw[hy rfl];rfl
 have enyI:∀I B,(i64 (lnZ y 81)).ev (mixE σ I B)=iV E.length:=fun I B=>by
  rw[hσ]
  cases y with
  |false=>rfl
  |true=>rw[hy rfl];rfl
 have hX2:=blk_keep hX f2
 refine((fi3 z y).go σ F2 (by
  show[some _,some _,some _,some _]=[some ((slZ y 80 83 81 82).ev σ),some _,some _,some _]
  rw[ey0,hσ];rfl) ⟨by rw[hσ];show(!decide ((chkF F).1=0))=false;rw[decide_eq_true h0];rfl,by
   show(!decide ((lnZ y 81).ev σ=(lnZ z 51).ev σ))=false
   rw[en0,eny,decide_eq_true (by rw[hlE])];rfl,trivial⟩ ⟨by
   rw[es0,hσ]
   exact blk_cell hX2 (i:=0) rfl,trivial⟩).trans fun g3 w3 hd3=>?_
 obtain⟨I3,B3,fr3,rfl,f3,F3,_⟩:=hd3
 have F3':FA 9 47 (.inRegion (opsOf (q9 [1,1,0,0])) [10,11,12]::[.code (q9 [1,1,0,1]),.code (q9 [1,1,1])]) [] .normal [(2,s),(3,ptrV X),(4,ptrV Y),(26,.bool false),(27,s),(29,iV E.length)] fr3:=by
  have h1:FA 9 47 (.inRegion (opsOf (q9 [1,1,0,0])) [10,11,12]::[.code (q9 [1,1,0,1]),.code (q9 [1,1,1])]) [] .normal [(2,(slZ y 80 83 81 82).ev (mixE σ I3 B3)),(3,ptrV X),(4,ptrV Y),(26,.bool false),(27,(slZ y 80 83 81 82).ev (mixE σ I3 B3)),(29,(i64 (lnZ y 81)).ev (mixE σ I3 B3))] fr3:=by
   rw[hσ]at F3⊢
   exact F3
  rw[ey,enyI]at h1
  exact h1
 have f13:=f12.trans f3
 refine(fi4.go (mkE [] [] [(27,s),(29,iV E.length)]) (Q:=fun v w'=>v=.bool true) F3' rfl fun w' f4=>(all_all (hE.keep (f13.trans f4)) (Nat.le_refl _) (by omega)).mono fun v w2 hd=>⟨hd.1,by
  have:=hd.2
  rw[List.take_length,hok]at this
  exact this⟩).trans fun g4 w4 hd4=>?_
 obtain⟨fr4,vv,rfl,f4,rfl,F4⟩:=hd4
 refine((fi5 z).go σ F4 (by rw[hσ];rfl) trivial ⟨by
   rw[es0,hσ]
   exact(f3.trans f4).cell (blk_cell hX2 (i:=0) rfl),trivial⟩).trans fun g5 w5 hd5=>?_
 obtain⟨I5,B5,fr5,rfl,f5,F5,_⟩:=hd5
 have f15:=f13.trans (f4.trans f5)
 have fb:=f2.trans (f3.trans (f4.trans f5))
 have F5':FA 9 47 FiH [] .normal [(2,s),(3,ptrV X),(4,ptrV Y),(34,hdV z A o F.lets.length c),(35,iV F.lets.length),(36,iV (0:Nat))] fr5:=by
  rw[hσ]at F5
  cases z with
  |false=>exact F5
  |true=>rw[hz rfl];exact F5
 refine(fi_loop (w0:=w5) (os:=os) hz hzc (fun i x hi=>(hel i x hi).keep f15) (hE.keep f15) (chkF_good h0) hw hlE hlen htr (by rw[<-hls];exact blk_keep hX fb) (blk_keep hY fb) F.lets.length 0 (by omega) (Fresh.refl _) F5').mono fun g6 w6 hd6=>?_
 obtain⟨fr6,rfl,f6,hL⟩:=hd6
 exact⟨fr6,_,rfl,hL,f15.trans f6,rfl⟩
end
end
theorem add_no{b o i:Nat}:(⟨b,o,none⟩:Addr).add i=⟨b,o+i,none⟩:=by unfold Addr.add;split<;>simp_all
theorem wq_loadOld{P:Program}{Ev:Event->Prop}{E:Value->World->Prop}{w:World}{b o:Nat}{f:Nat->Value}(rd:∀a,Ev ⟨.cell a,false,false⟩):∀(n j:Nat) (acc:Array Value),(∀i,i<n->w.cell? ⟨b,o+(j+i),none⟩=some (f (j+i)))->∀{Q:Array Value->World->Prop},
  Q (acc++((List.range n).map fun i=>f (j+i)).toArray) w->wq P Ev E (loadCellsFrom ⟨b,o,none⟩ j n acc) Q w
 |0,j,acc,h,Q,hq=>by simpa[loadCellsFrom] using hq
 |n+1,j,acc,h,Q,hq=>by
  simp only[loadCellsFrom,wq_bind]
  rw[wq_load,add_no]
  refine⟨f j,h 0 (Nat.succ_pos n),rd _,wq_loadOld (f:=f) rd n (j+1) (acc.push (f j)) (fun i hi=>?_) ?_⟩
  ·have:=h (i+1) (by omega)
   rw[show j+(i+1)=j+1+i by omega]at this
   exact this
  ·have e:acc.push (f j)++((List.range n).map fun i=>f (j+1+i)).toArray=acc++((List.range (n+1)).map fun i=>f (j+i)).toArray:=by
    rw[List.range_succ_eq_map]
    simp only[List.map_cons,List.map_map,Nat.add_zero]
    refine Array.ext' ?_
    simp only[Array.toList_append,Array.toList_push,List.append_assoc,List.singleton_append]
    congr 2
    refine List.map_congr_left fun i _=>?_
    show f (j+1+i)=f (j+(i+1))
    rw[show j+1+i=j+(i+1) by omega]
   rw[e]
   exact hq
structure Kind(st el sz by_:Nat)(zc:List AV):Prop where
 under:under? Try.prog st=.ok (.slice el)
 size:sizeOf? Try.prog el=.ok sz
 bytes:(Try.prog.info? el).map (fun i=>(i.size,i.bytes))=some (sz,by_)
 zero:(zero? Try.prog el).toOption.map AV.cells?=some (.ok zc)
 len:zc.length=sz
 pos:0<by_
theorem wq_copy{st el sz by_:Nat}{zc:List AV}(K:Kind st el sz by_ zc){Ev:Event->Prop}{E:Value->World->Prop}{w:World}{z:Bool}{b o n c:Nat}{P:List Value}{V:Value}(hV:V=hdV z b o n c∨(z=true∧∃a c',V=.slice a 0 c'))(rd:∀a,Ev ⟨.cell a,false,false⟩)(nr:Ev ⟨.mark .noRoom,false,true⟩)(hz:z=true->n=0)(hP:P.length=n*sz)(hc:∀(i:Nat) (x:Value),P[i]?=some x->w.cell? ⟨b,o+i,none⟩=some x)(hn:n*by_≤281474976710656){Q:Value->World->Prop}
 (h0:n=0->Q nilV w)(h1:n≠0->∀(cap:Nat) (w0:World) (arr:Array Value) (rest:List Value),w0.heap=w.heap->w0.tape=w.tape->w0.os=w.os->w0.output=w.output->arr.toList=P++rest->arr.size=cap*sz->
   Q (slV w.heap.size 0 n cap) {w0 with heap:=w0.heap.push (.cells arr el (0,0))}):
  wq Try.prog Ev E (Builtin.append_ #[st,st] st #[nilV,V]) Q w:=by
 obtain⟨info,hinfo,hsz,hby⟩:∃i,Try.prog.info? el=some i∧i.size=sz∧i.bytes=by_:=by
  have:=K.bytes
  cases e:Try.prog.info? el with
  |none=>rw[e]at this;cases this
  |some i=>
   rw[e]at this
   simp only[Option.map_some,Option.some.injEq,Prod.mk.injEq]at this
   exact⟨i,rfl,this.1,this.2⟩
 obtain⟨zv,hzv,hzc⟩:∃z,zero? Try.prog el=.ok z∧z.cells?=.ok zc:=by
  have:=K.zero
  cases e:zero? Try.prog el with
  |error x=>rw[e]at this;cases this
  |ok i=>
   rw[e]at this
   have h2:some i.cells?=some (.ok zc):=this
   exact⟨i,rfl,Option.some.inj h2⟩
 have hval:∀{Q':Nat->World->Prop} {w':World},Q' n w'->wq Try.prog Ev E (Builtin.lenOf V) Q' w':=fun{Q' w'} hq=>by
  rcases hV with rfl|⟨rfl,a,c',rfl⟩
  rotate_left
  ·rw[hz rfl]at hq;exact hq
  cases z with
  |true=>rw[hz rfl]at hq⊢;exact hq
  |false=>exact hq
 have hfirst:∀{Q':Array Value->World->Prop} {w':World},w'.heap=w.heap->Q' P.toArray w'->wq Try.prog Ev E (Builtin.firstCells sz n V) Q' w':=fun{Q' w'} hw hq=>by
  rcases hV with rfl|⟨rfl,a,c',rfl⟩
  rotate_left
  ·have h0:=hz rfl
   have hP0:P=[]:=List.length_eq_zero_iff.1 (by rw[hP,h0,Nat.zero_mul])
   rw[hP0]at hq
   rw[h0]
   cases a with
   |none=>exact hq
   |some a=>
    show wq Try.prog Ev E (loadCells a (0*sz)) Q' w'
    rw[Nat.zero_mul]
    exact hq
  cases z with
  |true=>
   have h0:=hz rfl
   have hP0:P=[]:=List.length_eq_zero_iff.1 (by rw[hP,h0,Nat.zero_mul])
   rw[hP0]at hq
   rw[h0]
   exact hq
  |false=>
   show wq Try.prog Ev E (loadCells ⟨b,o,none⟩ (n*sz)) Q' w'
   rw[<-hP]
   refine wq_loadOld (f:=fun i=>P.getD i undef) rd P.length 0 #[] (fun i hi=>?_) ?_
   ·rw[Nat.zero_add]
    have:=hc i P[i] (List.getElem?_eq_getElem hi)
    simp only[World.cell?]at this⊢
    rw[hw,this]
    simp[List.getD_eq_getElem?_getD,List.getElem?_eq_getElem hi]
   ·have e:((List.range P.length).map fun i=>P.getD (0+i) undef)=P:=by
     refine List.ext_getElem (by simp) fun i h2 h3=>?_
     simp only[List.length_map,List.length_range]at h2
     simp[List.getD_eq_getElem?_getD,List.getElem?_eq_getElem h2]
    rw[e]
    simpa using hq
 show wq Try.prog Ev E (Builtin.append_ #[st,st] st #[.slice none 0 0,V]) Q w
 unfold Builtin.append_
 simp only[List.getElem?_toArray,List.getElem?_cons_zero,List.getElem?_cons_succ,wq_bind,wq_underlying (under?_ok K.under),wq_sizeOf K.size,wq_pure]
 simp only[Bool.false_eq_true,if_false]
 rw[wq_bind]
 refine hval ?_
 simp only[Bool.not_false,if_true]
 by_cases hp:n=0
 ·rw[if_pos (by omega),wq_bind]
  refine hfirst rfl ?_
  show Q (.slice none (0+n) 0) w
  rw[hp]
  exact h0 hp
 ·have hnx:Builtin.nextslicecap (0+n) 0=n:=by
   unfold Builtin.nextslicecap
   rw[if_pos (by omega),Nat.zero_add]
  rw[if_neg (by omega),wq_bind,wq_typeInfo hinfo,if_neg (by rw[hby];intro hh;exact hh.2.elim id (fun h3=>by
   have:=K.pos
   omega)),wq_bind,wq_typeInfo hinfo,if_neg (by rw[hby,hnx];omega)]
  rw[wq_bind,wq_choose,if_neg (by simp[Question.forced])]
  intro nn
  rw[wq_bind,wq_typeInfo hinfo]
  have ask:∀{m:Nat} {Q':Unit->World->Prop} {w':World},Q' () w'->wq Try.prog Ev E (askRoom m) Q' w':=by
   intro m Q' w' hq'
   unfold askRoom
   simp only[wq_ite,wq_mark,wq_pure]
   split
   ·exact⟨nr,hq'⟩
   ·exact hq'
  rw[wq_bind]
  refine ask ?_
  rw[wq_bind]
  have hf1:∀{Q':Array Value->World->Prop} {w':World},Q' #[] w'->wq Try.prog Ev E (Builtin.firstCells sz 0 (.slice none 0 0)) Q' w':=fun hq=>hq
  refine hf1 ?_
  rw[wq_bind]
  refine hfirst rfl ?_
  simp only[wq_bind,wq_zeroValue (ρ:=(mkE [] [] [])) hzv,newRow,wq_newObj,wq_pure]
  have hcut:0+n≤Question.cut (.appendCap (0+n) 0 el) nn:=by simp only[Question.cut];omega
  generalize hcap:Question.cut (.appendCap (0+n) 0 el) nn=newCap at hcut
  have e1:(zv.ev (mkE [] [] [])).cells.size=sz:=by rw[cells?_ev hzc _];simp[evs_length,K.len]
  have hh:=h1 hp newCap {w with drawn:=w.drawn+1} (#[]++P.toArray++Builtin.zeroCells (zv.ev (mkE [] [] [])).cells (newCap-(0+n))) (Builtin.zeroCells (zv.ev (mkE [] [] [])).cells (newCap-(0+n))).toList rfl rfl rfl rfl (by simp) (by
   have e2:(Builtin.zeroCells (zv.ev (mkE [] [] [])).cells (newCap-(0+n))).size=(newCap-(0+n))*sz:=by
    simp only[Builtin.zeroCells,Array.size_map,Array.size_range,e1]
   simp only[Array.size_append,List.size_toArray,e2,hP]
   rw[<-Nat.zero_add (n*sz)]
   have:newCap=n+(newCap-(0+n)):=by omega
   conv=>rhs;rw[this,Nat.add_mul]
   simp)
  rw[show 0+n=n by omega]at hh⊢
  exact hh
def CopyOut(el:Nat)(w:World)(n:Nat)(P:List Value)(v:Value)(w':World):Prop:=(n=0∧v=nilV)∨(n≠0∧∃c,v=slV w.heap.size 0 n c∧(Blk.vec el c P).at Try.prog w' w.heap.size)
section
variable {w:World}{cs:List Frame}{fr:Frame}{fn nt i d a b':Nat}{ops:Array Oper}{l:List Nat}{k:List Item}{lv:List (Nat×Value)}
theorem op_copyV{st el sz by_:Nat}{zc:List AV}(K:Kind st el sz by_ zc){z:Bool}{b o n c:Nat}{P:List Value}{V:Value}(hV:V=hdV z b o n c∨(z=true∧∃a c',V=.slice a 0 c'))(O:OpW nt ops i [] (.call {callee:=.builtin .append,args:=#[.tmp a,.tmp b'],argTypes:=#[st,st]}) st (some d))(hf:FA fn nt (.inRegion ops (i::l)::k) [] .normal lv fr)(hdn:d<nt)(ha:lookV a lv=some nilV)(hb:lookV b' lv=some V)(hz:z=true->n=0)(hP:P.length=n*sz)(hc:∀(i:Nat) (x:Value),P[i]?=some x->w.cell? ⟨b,o+i,none⟩=some x)(hn:n*by_≤281474976710656):
  Goes (G fr cs) w fun g' w'=>∃fr' v,g'=G fr' cs∧(Fresh w w'∧CopyOut el w n P v w')∧FA fn nt (.inRegion ops l::k) [] .normal (lvPut d v lv) fr':=by
 refine O.go (R:=fun v w'=>Fresh w w'∧CopyOut el w n P v w') (mkE [] [] []) hf hdn rfl fun tm htm x e1 e2=>?_
 unfold execOp
 simp only[e1,e2,resolve,wq_bind,wq_pure,invoke,builtin]
 rw[show Array.map (⟨tm,[]⟩:Act).eval #[Operand.tmp a,Operand.tmp b']=#[(⟨tm,[]⟩:Act).eval (.tmp a),(⟨tm,[]⟩:Act).eval (.tmp b')]from by simp]
 rw[htm a nilV ha,htm b' _ hb]
 refine wq_copy K hV (fun _=>trivial) trivial hz hP hc hn (fun hp=>?_) fun hp cap w0 arr rest e1 e2 e3 e4 e5 e6=>?_
 ·exact⟨_,rfl,Fresh.refl w,.inl ⟨hp,rfl⟩⟩
 ·have hh:({w0 with heap:=w0.heap.push (.cells arr el (0,0))}:World).heap=w.heap.push (.cells arr el (0,0)):=by
   show w0.heap.push _=_
   rw[e1]
  refine⟨_,rfl,⟨fun n hn=>?_,by rw[hh,Array.size_push];omega,e2,e3,e4⟩,.inr ⟨hp,cap,rfl,?_⟩⟩
  ·rw[hh,Array.getElem?_push]
   have hn:¬w.heap.size≤n:=hn
   have:n≠w.heap.size:=fun e=>hn (by omega)
   simp[this]
  ·have hinf:∃inf,Try.prog.info? el=some inf∧inf.size=sz:=by
    have:=K.bytes
    cases e:Try.prog.info? el with
    |none=>rw[e]at this;cases this
    |some inf=>
     rw[e]at this
     simp only[Option.map_some,Option.some.injEq,Prod.mk.injEq]at this
     exact⟨inf,rfl,this.1⟩
   obtain⟨inf,g1,g2⟩:=hinf
   exact⟨arr,rest,inf,by rw[hh];simp,g1,e5,by rw[e6,g2]⟩
theorem op_copy{st el sz by_:Nat}{zc:List AV}(K:Kind st el sz by_ zc){z:Bool}{b o n c:Nat}{P:List Value}(O:OpW nt ops i [] (.call {callee:=.builtin .append,args:=#[.tmp a,.tmp b'],argTypes:=#[st,st]}) st (some d))(hf:FA fn nt (.inRegion ops (i::l)::k) [] .normal lv fr)(hdn:d<nt)(ha:lookV a lv=some nilV)(hb:lookV b' lv=some (hdV z b o n c))(hz:z=true->n=0)(hP:P.length=n*sz)(hc:∀(i:Nat) (x:Value),P[i]?=some x->w.cell? ⟨b,o+i,none⟩=some x)(hn:n*by_≤281474976710656):
 Goes (G fr cs) w fun g' w'=>∃fr' v,g'=G fr' cs∧(Fresh w w'∧CopyOut el w n P v w')∧FA fn nt (.inRegion ops l::k) [] .normal (lvPut d v lv) fr':=op_copyV K (.inl rfl) O hf hdn ha hb hz hP hc hn
end
theorem kindInt:Kind 23 3 1 8 [i64 (.lit 0)]:=⟨by kernel_rfl,by kernel_rfl,by kernel_rfl,by kernel_rfl,rfl,by decide⟩
theorem kindNode:Kind 49 75 4 32 [i8 (.lit 0),i64 (.lit 0),i64 (.lit 0),i64 (.lit 0)]:=⟨by kernel_rfl,by kernel_rfl,by kernel_rfl,by kernel_rfl,rfl,by decide⟩
noncomputable def q10(l:List Nat):Code:=pc (bodyOf Try.f10) l
noncomputable def q24(l:List Nat):Code:=pc (bodyOf Try.f24) l
theorem ent24:enterA Try.prog 24 [.opq 0] .normal=.ok ⟨24,7,entT 24 [.opq 0],[.code (bodyOf Try.f24)],[],.run,.normal⟩:=by kernel_rfl
theorem ret24:RetC 24 7 2:=fun st=>by kernel_rfl
theorem ci1:Pc 24 7 [.code (q24 [])] ([(0,.opq 0)]) [] [] [] 12 [] [4,5] [.inRegion (opsOf (q24 [1,1,0])) [2,3],.code .ret] [nilA,.opq 0] []:=⟨fun st=>by kernel_rfl,fun st=>by kernel_rfl,by kernel_rfl,of_decide_eq_true (by kernel_rfl)⟩
theorem ci2:OpW 7 (opsOf (q24 [1,1,0])) 2 [] (.call {callee:=.builtin .append,args:=#[.tmp 4,.tmp 5],argTypes:=#[23,23]}) 23 (some 6):=⟨fun st=>by kernel_rfl,fun st=>by kernel_rfl,by kernel_rfl⟩
theorem ci3:Pc 24 7 [.inRegion (opsOf (q24 [1,1,0])) [3],.code .ret] ([(6,.opq 6)]) [] [] [] 2 [] [2] [.code .ret] [.opq 6] []:=⟨fun st=>by kernel_rfl,fun st=>by kernel_rfl,by kernel_rfl,of_decide_eq_true (by kernel_rfl)⟩
noncomputable def q43(l:List Nat):Code:=pc (bodyOf Try.f43) l
theorem ent43:enterA Try.prog 43 [.opq 0] .normal=.ok ⟨43,7,entT 43 [.opq 0],[.code (bodyOf Try.f43)],[],.run,.normal⟩:=by kernel_rfl
theorem ret43:RetC 43 7 2:=fun st=>by kernel_rfl
theorem cn1:Pc 43 7 [.code (q43 [])] ([(0,.opq 0)]) [] [] [] 12 [] [4,5] [.inRegion (opsOf (q43 [1,1,0])) [2,3],.code .ret] [nilA,.opq 0] []:=⟨fun st=>by kernel_rfl,fun st=>by kernel_rfl,by kernel_rfl,of_decide_eq_true (by kernel_rfl)⟩
theorem cn2:OpW 7 (opsOf (q43 [1,1,0])) 2 [] (.call {callee:=.builtin .append,args:=#[.tmp 4,.tmp 5],argTypes:=#[49,49]}) 49 (some 6):=⟨fun st=>by kernel_rfl,fun st=>by kernel_rfl,by kernel_rfl⟩
theorem cn3:Pc 43 7 [.inRegion (opsOf (q43 [1,1,0])) [3],.code .ret] ([(6,.opq 6)]) [] [] [] 2 [] [2] [.code .ret] [.opq 6] []:=⟨fun st=>by kernel_rfl,fun st=>by kernel_rfl,by kernel_rfl,of_decide_eq_true (by kernel_rfl)⟩
noncomputable def q30(l:List Nat):Code:=pc (bodyOf Try.f30) l
theorem ent30:enterA Try.prog 30 [.opq 0] .normal=.ok ⟨30,8,entT 30 [.opq 0],[.code (bodyOf Try.f30)],[],.run,.normal⟩:=by kernel_rfl
noncomputable def q16(l:List Nat):Code:=pc (bodyOf Try.f16) l
theorem ent16:enterA Try.prog 16 [.opq 0] .normal=.ok ⟨16,20,entT 16 [.opq 0],[.code (bodyOf Try.f16)],[],.run,.normal⟩:=by kernel_rfl
theorem ret16:RetC 16 20 2:=fun st=>by kernel_rfl
noncomputable def q8(l:List Nat):Code:=pc (bodyOf Try.f8) l
theorem ent8:enterA Try.prog 8 [.opq 0] .normal=.ok ⟨8,10,entT 8 [.opq 0],[.code (bodyOf Try.f8)],[],.run,.normal⟩:=by kernel_rfl
theorem cl1:Pc 30 8 [.code (q30 [])] ([(0,.agg [ss 1,.opq 7,i64 (v 4)])]) [] [] [] 9 [101,100] [1,2,4] [.inRegion (opsOf (q30 [1,0])) [2,3,4],.code (q30 [1,1])] [ptr0 100,ptr0 101,.opq 7] [(101,.cells [.str ⟨#[]⟩,nilA,i64 (.lit 0)] 51),(100,.cells [ss 1,.opq 7,i64 (v 4)] 51)]:=⟨fun st=>by kernel_rfl,fun st=>by kernel_rfl,by kernel_rfl,of_decide_eq_true (by kernel_rfl)⟩
theorem cl2:OpC 8 (opsOf (q30 [1,0])) 2 [(4,.opq 4)] 43 [.opq 4] 5:=⟨fun st=>by kernel_rfl,fun st=>by kernel_rfl,fun st=>by kernel_rfl,by kernel_rfl,by decide,rfl⟩
theorem cl3(y:Bool):Pc 30 8 [.inRegion (opsOf (q30 [1,0])) [3,4],.code (q30 [1,1])] ([(1,ptr0 66),(2,ptr0 67),(5,slZ y 80 83 81 82)]) [] [] [(66,.cells [ss 1,.opq 7,i64 (v 4)] 51),(67,.cells [.str ⟨#[]⟩,nilA,i64 (.lit 0)] 51)] 8 [66,67] [2] [.code .ret] [ptr0 67] [(66,.cells [ss 1,slZ y 80 83 81 82,i64 (v 4)] 51),(67,.cells [ss 1,slZ y 80 83 81 82,i64 (v 4)] 51)]:=⟨fun st=>by cases y<;>kernel_rfl,fun st=>by cases y<;>kernel_rfl,by cases y<;>kernel_rfl,of_decide_eq_true (by kernel_rfl)⟩
theorem ct1(z:Bool):Pc 16 20 [.code (q16 [])] ([(0,slZ z 50 53 51 52)]) [] [] [] 15 [] [0,3,4] [.code (q16 [1,1,0,1,0,0]),.inLoop (q16 [1,1,0,1,0,0]),.inBlock 0,.code (q16 [1,1,1])] [slZ z 50 53 51 52,nilA,i64 (.lit 0)] []:=⟨fun st=>by cases z<;>kernel_rfl,fun st=>by cases z<;>kernel_rfl,by cases z<;>kernel_rfl,of_decide_eq_true (by kernel_rfl)⟩
theorem ct2:Pc 16 20 [.code (q16 [1,1,0,1,0,0]),.inLoop (q16 [1,1,0,1,0,0]),.inBlock 0,.code (q16 [1,1,1])] ([(0,.slice (some ⟨(.dyn 50),(v 53)⟩) (v 51) (v 52)),(3,.opq 3),(4,i64 (v 10))]) [((.cmp .lss (v 10) (.tn (v 51))),true),((.cmp .leq (.lit 0) (v 10)),true),((.cmp .lss (v 10) (.lit 0)),false),((.cmp .geq (v 10) (.tn (v 51))),false)] [(⟨(.dyn 50),(.plus (.tn (v 53)) (.times (.tn (v 10)) (.lit 3)))⟩,ss 1),(⟨(.dyn 50),(.plus (.tn (.plus (.tn (v 53)) (.times (.tn (v 10)) (.lit 3)))) (.lit 1))⟩,.opq 7),(⟨(.dyn 50),(.plus (.tn (.plus (.tn (v 53)) (.times (.tn (v 10)) (.lit 3)))) (.lit 2))⟩,i64 (v 4))] [] 18 [] [0,3,4,11,15] [.inRegion (opsOf (q16 [1,1,0,1,0,0,1,0,0])) [5,6,7,8],.inBlock 1,.code (q16 [1,1,0,1,0,0,1,1]),.inLoop (q16 [1,1,0,1,0,0]),.inBlock 0,.code (q16 [1,1,1])] [.slice (some ⟨(.dyn 50),(v 53)⟩) (v 51) (v 52),.opq 3,i64 (v 10),.opq 3,.agg [ss 1,.opq 7,i64 (v 4)]] []:=⟨fun st=>by kernel_rfl,fun st=>by kernel_rfl,by kernel_rfl,of_decide_eq_true (by kernel_rfl)⟩
theorem ct3:OpC 20 (opsOf (q16 [1,1,0,1,0,0,1,0,0])) 5 [(15,.opq 15)] 30 [.opq 15] 16:=⟨fun st=>by kernel_rfl,fun st=>by kernel_rfl,fun st=>by kernel_rfl,by kernel_rfl,by decide,rfl⟩
theorem ct4n(y:Bool):Pc 16 20 [.inRegion (opsOf (q16 [1,1,0,1,0,0,1,0,0])) [6,7,8],.inBlock 1,.code (q16 [1,1,0,1,0,0,1,1]),.inLoop (q16 [1,1,0,1,0,0]),.inBlock 0,.code (q16 [1,1,1])] ([(0,.slice (some ⟨(.dyn 50),(v 53)⟩) (v 51) (v 52)),(3,nilA),(4,i64 (v 10)),(11,nilA),(16,.agg [.ss (.var 2),slZ y 80 83 81 82,i64 (v 5)])]) [] [] [] 11 [101] [0,3,4] [.code (q16 [1,1,0,1,0,0]),.inLoop (q16 [1,1,0,1,0,0]),.inBlock 0,.code (q16 [1,1,1])] [.slice (some ⟨(.dyn 50),(v 53)⟩) (v 51) (v 52),.slice (some ⟨(.dyn 101),(.lit 0)⟩) (.lit 1) (v 101),i64 (.op .add .i64 (v 10) (.lit 1))] [(101,.row [.ss (.var 2),slZ y 80 83 81 82,i64 (v 5)] 51 (v 101))]:=⟨fun st=>by cases y<;>kernel_rfl,fun st=>by cases y<;>kernel_rfl,by cases y<;>kernel_rfl,of_decide_eq_true (by kernel_rfl)⟩
theorem ct4(y:Bool):Pc 16 20 [.inRegion (opsOf (q16 [1,1,0,1,0,0,1,0,0])) [6,7,8],.inBlock 1,.code (q16 [1,1,0,1,0,0,1,1]),.inLoop (q16 [1,1,0,1,0,0]),.inBlock 0,.code (q16 [1,1,1])] ([(0,.slice (some ⟨(.dyn 50),(v 53)⟩) (v 51) (v 52)),(3,.slice (some ⟨(.dyn 62),(.lit 0)⟩) (v 8) (v 57)),(4,i64 (v 10)),(11,.slice (some ⟨(.dyn 62),(.lit 0)⟩) (v 8) (v 57)),(16,.agg [.ss (.var 2),slZ y 80 83 81 82,i64 (v 5)])]) [((.cmp .leq (.plus (.tn (v 8)) (.lit 1)) (.lit 1048576)),true)] [] [(62,.pre false 63 (v 8) [] [] [] 51 (v 57))] 11 [101] [0,3,4] [.code (q16 [1,1,0,1,0,0]),.inLoop (q16 [1,1,0,1,0,0]),.inBlock 0,.code (q16 [1,1,1])] [.slice (some ⟨(.dyn 50),(v 53)⟩) (v 51) (v 52),.slice (some ⟨(.dyn 101),(.lit 0)⟩) (.plus (.tn (v 8)) (.lit 1)) (v 101),i64 (.op .add .i64 (v 10) (.lit 1))] [(101,.pre false 63 (v 8) [] [] [.ss (.var 2),slZ y 80 83 81 82,i64 (v 5)] 51 (v 101))]:=⟨fun st=>by cases y<;>kernel_rfl,fun st=>by cases y<;>kernel_rfl,by cases y<;>kernel_rfl,of_decide_eq_true (by kernel_rfl)⟩
theorem ct5(z:Bool):Pc 16 20 [.code (q16 [1,1,0,1,0,0]),.inLoop (q16 [1,1,0,1,0,0]),.inBlock 0,.code (q16 [1,1,1])] ([(0,slZ z 50 53 51 52),(3,.opq 3),(4,i64 (v 10))]) [((.cmp .lss (v 10) (lnZ z 51)),false)] [] [] 15 [] [2] [.code .ret] [.opq 3] []:=⟨fun st=>by cases z<;>kernel_rfl,fun st=>by cases z<;>kernel_rfl,by cases z<;>kernel_rfl,of_decide_eq_true (by kernel_rfl)⟩
theorem cf1:Pc 8 10 [.code (q8 [])] ([(0,.agg [.opq 7,.opq 8])]) [] [] [] 6 [101,100] [1,2] [.code (q8 [1,0]),.code .ret] [ptr0 100,ptr0 101] [(101,.cells [nilA,nilA] 25),(100,.cells [.opq 7,.opq 8] 25)]:=⟨fun st=>by kernel_rfl,fun st=>by kernel_rfl,by kernel_rfl,of_decide_eq_true (by kernel_rfl)⟩
theorem cfV0:OpV 10 (opsOf (q8 [1,0])) 0 [] [] [(1,ptr0 66)] (ptr0 66) 3:=⟨fun st=>by kernel_rfl,fun st=>by kernel_rfl,fun st=>by kernel_rfl,by kernel_rfl,rfl⟩
theorem cfV1:OpV 10 (opsOf (q8 [1,0])) 1 [] [(⟨(.dyn 66),(.lit 0)⟩,.opq 7)] [(3,ptr0 66)] (.opq 7) 4:=⟨fun st=>by kernel_rfl,fun st=>by kernel_rfl,fun st=>by kernel_rfl,by kernel_rfl,rfl⟩
theorem cfV2:OpC 10 (opsOf (q8 [1,0])) 2 [(4,.opq 4)] 16 [.opq 4] 5:=⟨fun st=>by kernel_rfl,fun st=>by kernel_rfl,fun st=>by kernel_rfl,by kernel_rfl,by decide,rfl⟩
theorem cfV3:OpV 10 (opsOf (q8 [1,0])) 3 [] [] [(1,ptr0 66)] (.ptr (some ⟨(.dyn 66),(.lit 1)⟩)) 6:=⟨fun st=>by kernel_rfl,fun st=>by kernel_rfl,fun st=>by kernel_rfl,by kernel_rfl,rfl⟩
theorem cfV4:OpV 10 (opsOf (q8 [1,0])) 4 [] [(⟨(.dyn 66),(.lit 1)⟩,.opq 7)] [(6,.ptr (some ⟨(.dyn 66),(.lit 1)⟩))] (.opq 7) 7:=⟨fun st=>by kernel_rfl,fun st=>by kernel_rfl,fun st=>by kernel_rfl,by kernel_rfl,rfl⟩
theorem cfV5:OpC 10 (opsOf (q8 [1,0])) 5 [(7,.opq 7)] 24 [.opq 7] 8:=⟨fun st=>by kernel_rfl,fun st=>by kernel_rfl,fun st=>by kernel_rfl,by kernel_rfl,by decide,rfl⟩
theorem cfV6(z y:Bool):OpV 10 (opsOf (q8 [1,0])) 6 [] [] [(5,slZ z 80 83 81 82),(8,slZ y 90 93 91 92)] (.agg [slZ z 80 83 81 82,slZ y 90 93 91 92]) 9:=⟨fun st=>by cases z<;>cases y<;>kernel_rfl,fun st=>by cases z<;>cases y<;>kernel_rfl,fun st=>by cases z<;>cases y<;>kernel_rfl,by kernel_rfl,by cases z<;>cases y<;>rfl⟩
theorem cfV7(z y:Bool):Pc 8 10 [.inRegion (opsOf (q8 [1,0])) [7],.code .ret] ([(2,ptr0 67),(9,.agg [slZ z 80 83 81 82,slZ y 90 93 91 92])]) [] [] [(67,.cells [nilA,nilA] 25)] 2 [67] [2] [.code .ret] [ptr0 67] [(67,.cells [slZ z 80 83 81 82,slZ y 90 93 91 92] 25)]:=⟨fun st=>by cases z<;>cases y<;>kernel_rfl,fun st=>by cases z<;>cases y<;>kernel_rfl,by cases z<;>cases y<;>kernel_rfl,of_decide_eq_true (by kernel_rfl)⟩
def ndCells(n:Nd):List Value:=[i8V n.op,iV n.n,iV n.kids,iV n.at']
theorem ndCells_len:∀l:List Nd,(l.flatMap ndCells).length=l.length*4
 |[]=>rfl
 |n::l=>by
  rw[List.flatMap_cons,List.length_append,ndCells_len l,List.length_cons]
  show 4+l.length*4=_
  omega
theorem ndCells_get:∀{l:List Nd} {i:Nat} {n:Nd},l[i]?=some n->(l.flatMap ndCells)[i*4]?=some (i8V n.op)∧(l.flatMap ndCells)[i*4+1]?=some (iV n.n)∧(l.flatMap ndCells)[i*4+2]?=some (iV n.kids)∧(l.flatMap ndCells)[i*4+3]?=some (iV n.at')
 |a::l,0,n,h=>by
  obtain rfl:a=n:=Option.some.inj h
  exact⟨rfl,rfl,rfl,rfl⟩
 |a::l,i+1,n,h=>by
  obtain⟨h1,h2,h3,h4⟩:=ndCells_get (l:=l) (i:=i) h
  rw[List.flatMap_cons]
  refine⟨?_,?_,?_,?_⟩
  ·rw[show(i+1)*4=i*4+1+1+1+1 by omega]
   exact h1
  ·rw[show(i+1)*4+1=i*4+1+1+1+1+1 by omega]
   exact h2
  ·rw[show(i+1)*4+2=i*4+2+1+1+1+1 by omega]
   exact h3
  ·rw[show(i+1)*4+3=i*4+3+1+1+1+1 by omega]
   exact h4
theorem ndCells_cell{C:Nat->Value->Prop}:∀{l:List Nd} {o:Nat},(∀i n,l[i]?=some n->C (o+i*4) (i8V n.op)∧C (o+i*4+1) (iV n.n)∧C (o+i*4+2) (iV n.kids)∧C (o+i*4+3) (iV n.at'))->∀(i:Nat) (x:Value),(l.flatMap ndCells)[i]?=some x->C (o+i) x
 |[],o,h,i,x,hx=>by cases hx
 |n::l,o,h,i,x,hx=>by
  rw[List.flatMap_cons]at hx
  match i,hx with
  |0,hx=>
   obtain rfl:i8V n.op=x:=Option.some.inj hx
   exact(h 0 n rfl).1
  |1,hx=>
   obtain rfl:iV n.n=x:=Option.some.inj hx
   exact(h 0 n rfl).2.1
  |2,hx=>
   obtain rfl:iV n.kids=x:=Option.some.inj hx
   exact(h 0 n rfl).2.2.1
  |3,hx=>
   obtain rfl:iV n.at'=x:=Option.some.inj hx
   exact(h 0 n rfl).2.2.2
  |i+4,hx=>
   have:=ndCells_cell (C:=C) (l:=l) (o:=o+4) (fun j e' he=>by
    have:=h (j+1) e' he
    rw[show o+4+j*4=o+(j+1)*4 by omega]
    exact this) i x hx
   rwa[show o+4+i=o+(i+4) by omega]at this
structure NodesU(w:World)(U:Nat->Prop)(s:Value)(l:List Nd):Prop where
 ex:∃(z:Bool) (A o c:Nat),s=hdV z A o l.length c∧(z=true->l=[])∧(z=false->U A∧A<w.heap.size∧l.length≤c)∧∀i n,l[i]?=some n->NdAt w A (o+i*4) n
theorem ndAt_keepBut{w w':World}{own:Nat->Prop}{A o:Nat}{n:Nd}(h:NdAt w A o n)(f:Keeps own w w')(hA:¬own A):NdAt w' A o n:=⟨cell_keep f h.c0 hA,cell_keep f h.c1 hA,cell_keep f h.c2 hA,cell_keep f h.c3 hA⟩
theorem NodesU.keepBut{w w':World}{U U' own:Nat->Prop}{s:Value}{l:List Nd}(h:NodesU w U s l)(f:Keeps own w w')(hU:∀x,U x->x<w.heap.size->¬own x∧U' x):NodesU w' U' s l:=by
 obtain⟨z,A,o,c,h1,h2,h3,h4⟩:=h.ex
 cases z with
 |true=>
  refine⟨true,A,o,c,h1,h2,(fun h=>by cases h),fun i n hi=>?_⟩
  rw[h2 rfl]at hi
  cases hi
 |false=>
  obtain⟨u,lt,hc⟩:=h3 rfl
  exact⟨false,A,o,c,h1,h2,fun _=>⟨(hU A u lt).2,Nat.lt_of_lt_of_le lt f.size,hc⟩,fun i n hi=>ndAt_keepBut (h4 i n hi) f (hU A u lt).1⟩
theorem NodesU.keep{w w':World}{U:Nat->Prop}{s:Value}{l:List Nd}(h:NodesU w U s l)(f:Fresh w w'):NodesU w' U s l:=h.keepBut f fun x u lt=>⟨fun hh=>by omega,u⟩
theorem NodesU.at{w:World}{U:Nat->Prop}{s:Value}{l:List Nd}(h:NodesU w U s l):NodesAt w s l:=by
 obtain⟨z,A,o,c,h1,h2,h3,h4⟩:=h.ex
 cases z with
 |true=>
  have h0:=h2 rfl
  exact⟨.inl ⟨h1,h0⟩⟩
 |false=>exact⟨.inr ⟨A,o,c,h1,(h3 rfl).2.2,h4⟩⟩
theorem NodesAt.hd{w:World}{s:Value}{l:List Nd}(h:NodesAt w s l):∃(z:Bool) (A o c:Nat),s=hdV z A o l.length c∧(z=true->l=[])∧(z=false->l.length≤c)∧∀i n,l[i]?=some n->NdAt w A (o+i*4) n:=by
 rcases h.ex with⟨h1,h2⟩|⟨A,o,c,h1,h2,h3⟩
 ·exact⟨true,0,0,0,h1,fun _=>h2,(fun h=>by cases h),fun i n hi=>by rw[h2]at hi;cases hi⟩
 ·exact⟨false,A,o,c,h1,(fun h=>by cases h),fun _=>h2,h3⟩
structure NodesIn(w:World)(s:Value)(l:List Nd):Prop where
 ex:NodesAt w s l∨(l=[]∧∃a c,s=.slice a 0 c)
structure LetIn(w:World)(A o:Nat)(x:LetD):Prop where
 ex:∃ts,w.cell? ⟨A,o,none⟩=some (.string x.name)∧w.cell? ⟨A,o+1,none⟩=some ts∧w.cell? ⟨A,o+2,none⟩=some (iV x.at')∧NodesIn w ts x.tree
structure LetsIn(w:World)(s:Value)(L:List LetD):Prop where
 ex:∃(z:Bool) (A o c:Nat),s=hdV z A o L.length c∧(z=true->L=[])∧(z=false->L.length≤c)∧∀i x,L[i]?=some x->LetIn w A (o+i*3) x
def FlowIn(w:World)(x:Value)(F:FlowD):Prop:=∃ls os,x=.agg #[ls,os]∧LetsIn w ls F.lets∧IntsAt w os F.outs
theorem NodesIn.keep{w w':World}{s:Value}{l:List Nd}(h:NodesIn w s l)(f:Fresh w w'):NodesIn w' s l:=⟨h.ex.imp (fun h=>h.keep f) id⟩
theorem LetIn.keep{w w':World}{A o:Nat}{x:LetD}(h:LetIn w A o x)(f:Fresh w w'):LetIn w' A o x:=by
 obtain⟨ts,h1,h2,h3,h4⟩:=h.ex
 exact⟨ts,f.cell h1,f.cell h2,f.cell h3,h4.keep f⟩
theorem LetsIn.keep{w w':World}{s:Value}{L:List LetD}(h:LetsIn w s L)(f:Fresh w w'):LetsIn w' s L:=by
 obtain⟨z,A,o,c,h1,h2,h3,h4⟩:=h.ex
 exact⟨z,A,o,c,h1,h2,h3,fun i x hi=>(h4 i x hi).keep f⟩
theorem FlowIn.keep{w w':World}{x:Value}{F:FlowD}(h:FlowIn w x F)(f:Fresh w w'):FlowIn w' x F:=by
 obtain⟨ls,os,h1,h2,h3⟩:=h
 exact⟨ls,os,h1,h2.keep f,h3.keep f⟩
theorem NodesIn.hd{w:World}{s:Value}{l:List Nd}(h:NodesIn w s l):∃(z:Bool) (A o c:Nat),(s=hdV z A o l.length c∨(z=true∧∃a c',s=.slice a 0 c'))∧(z=true->l=[])∧(z=false->l.length≤c)∧∀i n,l[i]?=some n->NdAt w A (o+i*4) n:=by
 rcases h.ex with h|⟨rfl,a,c,h⟩
 ·obtain⟨z,A,o,c,h1,h2,h3,h4⟩:=h.hd
  exact⟨z,A,o,c,.inl h1,h2,h3,h4⟩
 ·exact⟨true,0,0,0,.inr ⟨rfl,a,c,h⟩,fun _=>rfl,(fun h=>by cases h),fun i n hi=>by cases hi⟩
section
variable {w w0:World}{cs:List Frame}{fr:Frame}
theorem copyInts_all{s:Value}{l:List Int}(h:IntsAt w s l)(hn:l.length≤4294967296):Ans 24 #[s] w fun v w'=>Fresh w w'∧IntsAt w' v l:=by
 obtain⟨z,A,o,c,rfl,hz,hzc,hel⟩:=h.ex
 refine ans_of fun cs=>?_
 refine(ci1.go (mkE [] [] [(0,hdV z A o l.length c)]) (enter1 ent24 rfl (hdV z A o l.length c)) rfl trivial trivial).trans fun g1 w1 hd=>?_
 obtain⟨I,B,fr1,rfl,f1,F1,_⟩:=hd
 refine(op_copy kindInt (P:=l.map iV) ci2 F1 (by decide) rfl rfl (fun h=>by rw[hz h];rfl) (by rw[List.length_map];omega) (fun i x hx=>by
  rw[List.getElem?_map]at hx
  cases e:l[i]? with
  |none=>rw[e]at hx;cases hx
  |some n=>
   rw[e]at hx
   obtain rfl:iV n=x:=Option.some.inj hx
   exact f1.cell (hel i n e)) (by omega)).trans fun g2 w2 hd2=>?_
 obtain⟨fr2,v,rfl,⟨f2,hC⟩,F2⟩:=hd2
 refine(ci3.go (mkE [] [] [(6,v)]) F2 rfl trivial trivial).trans fun g3 w3 hd3=>?_
 obtain⟨I,B,fr3,rfl,f3,F3,_⟩:=hd3
 refine(leave1 ret24 F3 rfl).mono fun g6 w6 hd6=>?_
 obtain⟨fr6,rfl,rfl,hL⟩:=hd6
 refine⟨fr6,_,rfl,hL,f1.trans (f2.trans f3),?_⟩
 have:IntsNew w6 w.heap.size v l:=by
  rcases hC with⟨h0,rfl⟩|⟨h0,c',rfl,hv⟩
  ·exact .inl ⟨rfl,List.length_eq_zero_iff.1 h0⟩
  ·exact .inr ⟨fun e=>h0 (by rw[e];rfl),w1.heap.size,c',rfl,f1.size,blk_keep hv f3⟩
 exact this.at
theorem size75(inf:TypeInfo)(hi:Try.prog.info? 75=some inf):inf.size=4:=by
 have e2:(Try.prog.info? 75).map (fun x=>x.size)=some 4:=by kernel_rfl
 rw[hi]at e2
 exact Option.some.inj e2
theorem copyNodes_all{s:Value}{l:List Nd}(h:NodesIn w s l)(hn:l.length≤1000000):Ans 43 #[s] w fun v w'=>Fresh w w'∧NodesU w' (fun A=>w.heap.size≤A) v l:=by
 obtain⟨z,A,o,c,hV,hz,hzc,hel⟩:=h.hd
 refine ans_of fun cs=>?_
 refine(cn1.go (mkE [] [] [(0,s)]) (enter1 ent43 rfl s) rfl trivial trivial).trans fun g1 w1 hd=>?_
 obtain⟨I,B,fr1,rfl,f1,F1,_⟩:=hd
 refine(op_copyV kindNode (P:=l.flatMap ndCells) hV cn2 F1 (by decide) rfl rfl (fun h=>by rw[hz h];rfl) (by rw[ndCells_len]) (ndCells_cell (C:=fun i x=>w1.cell? ⟨A,i,none⟩=some x) fun i n hi=>by
  have:=(hel i n hi).keep f1
  exact⟨this.c0,this.c1,this.c2,this.c3⟩) (by omega)).trans fun g2 w2 hd2=>?_
 obtain⟨fr2,v,rfl,⟨f2,hC⟩,F2⟩:=hd2
 refine(cn3.go (mkE [] [] [(6,v)]) F2 rfl trivial trivial).trans fun g3 w3 hd3=>?_
 obtain⟨I,B,fr3,rfl,f3,F3,_⟩:=hd3
 refine(leave1 ret43 F3 rfl).mono fun g6 w6 hd6=>?_
 obtain⟨fr6,rfl,rfl,hL⟩:=hd6
 refine⟨fr6,_,rfl,hL,f1.trans (f2.trans f3),?_⟩
 rcases hC with⟨h0,rfl⟩|⟨h0,c',rfl,hv⟩
 ·have h0:=List.length_eq_zero_iff.1 h0
  exact⟨true,0,0,0,rfl,fun _=>h0,(fun h=>by cases h),fun i n hi=>by rw[h0]at hi;cases hi⟩
 ·have hv':=blk_keep hv f3
  refine⟨false,w1.heap.size,0,c',rfl,(fun h=>by cases h),fun _=>⟨f1.size,Blk.at_lt hv',?_⟩,fun i n hi=>?_⟩
  ·obtain⟨arr,rest,inf,e1,e2,e3,e4⟩:=hv'
   have:=congrArg List.length e3
   rw[size75 inf e2]at e4
   rw[List.length_append,ndCells_len]at this
   have:arr.size=arr.toList.length:=rfl
   omega
  ·obtain⟨g1,g2,g3,g4⟩:=ndCells_get hi
   rw[Nat.zero_add]
   exact⟨Blk.at_cell hv' g1,Blk.at_cell hv' g2,Blk.at_cell hv' g3,Blk.at_cell hv' g4⟩
theorem copyLet_all{x:LetD}{ts:Value}(h:NodesIn w ts x.tree)(hn:x.tree.length≤1000000):Ans 30 #[letV x ts] w fun v w'=>Fresh w w'∧∃ts',v=letV x ts'∧NodesU w' (fun A=>w.heap.size≤A) ts' x.tree:=by
 refine ans_of fun cs=>?_
 refine(cl1.go (Go.Proofs.Ytmobbajggkjpgaa.SX.mkS [(4,x.at')] [] [(7,ts)] [(1,x.name)]) (enter1 ent30 rfl (letV x ts)) rfl trivial trivial).trans fun g1 w1 hd=>?_
 obtain⟨I,B,fr1,rfl,f1,F1,bl,inj⟩:=hd
 obtain⟨X,eX⟩:∃X,B 100=X:=⟨_,rfl⟩
 obtain⟨R,eR⟩:∃R,B 101=R:=⟨_,rfl⟩
 have gR:w.heap.size≤R:=by rw[<-eR];exact bl.1.1
 have gX:w.heap.size≤X:=by rw[<-eX];exact bl.2.1.1
 have hR:(Blk.obj 51 [.string ⟨#[]⟩,nilV,iV 0]).at Try.prog w1 R:=by rw[<-eR];exact bl.1.2
 have hX:(Blk.obj 51 [.string x.name,ts,iV x.at']).at Try.prog w1 X:=by rw[<-eX];exact bl.2.1.2
 have hXR:X≠R:=fun e=>by
  have:=inj _ (List.mem_cons_of_mem _ (List.mem_singleton.2 rfl)) _ (List.mem_cons_self ..) (by show B 100=B 101;rw[eX,eR];exact e)
  cases this
 have F1':FA 30 8 (.inRegion (opsOf (q30 [1,0])) [2,3,4]::[.code (q30 [1,1])]) [] .normal [(1,ptrV X),(2,ptrV R),(4,ts)] fr1:=by rw[<-eX,<-eR];exact F1
 refine(cl2.go (mkE [] [] [(4,ts)]) (Q:=fun v w'=>∃wk,Fresh w1 wk∧NodesU w' (fun A=>wk.heap.size≤A) v x.tree) F1' rfl fun w' f2=>(copyNodes_all (h.keep (f1.trans f2)) hn).mono fun v w2 hd=>⟨hd.1,w',f2,hd.2⟩).trans fun g2 w2 hd2=>?_
 obtain⟨fr2,v,rfl,f2,⟨wk,fk,hv⟩,F2⟩:=hd2
 obtain⟨y,A',o',c',rfl,hy,hyc,hyel⟩:=hv.ex
 obtain⟨ρ,hρ⟩:∃ρ:Env,ρ=Go.Proofs.Ytmobbajggkjpgaa.SX.mkS [(4,x.at'),(81,x.tree.length),(82,c'),(83,o')] [(66,X),(67,R),(80,A')] [(7,ts)] [(1,x.name)]:=⟨_,rfl⟩
 have ey0:(slZ y 80 83 81 82).ev ρ=hdV y A' o' x.tree.length c':=by rw[hρ];cases y<;>rfl
 have eyI:∀I B,(slZ y 80 83 81 82).ev (mixE ρ I B)=hdV y A' o' x.tree.length c':=fun I B=>by rw[hρ];cases y<;>rfl
 refine((cl3 y).goW ρ F2 (by
  show[some _,some _,some _]=[some _,some _,some ((slZ y 80 83 81 82).ev ρ)]
  rw[ey0,hρ];rfl) trivial trivial (nofun) ⟨⟨.obj 51 [.string x.name,ts,iV x.at'],by rw[hρ];exact blk_keep hX f2,rfl,by rw[hρ];rfl⟩,⟨.obj 51 [.string ⟨#[]⟩,nilV,iV 0],by rw[hρ];exact blk_keep hR f2,rfl,rfl⟩,trivial⟩ (by
   rw[hρ]
   show[X,R].Nodup
   simp[hXR])).trans fun g3 w3 hd3=>?_
 obtain⟨I3,B3,fr3,rfl,kp,F3,bl3,_⟩:=hd3
 have F3':FA 30 8 (.code .ret::[]) [] .normal [(2,ptrV R)] fr3:=by
  rw[hρ]at F3
  exact F3
 have own:∀q,ownP ρ w2 [(66,.cells [ss 1,.opq 7,i64 (v 4)] 51),(67,.cells [.str ⟨#[]⟩,nilA,i64 (.lit 0)] 51)] q->w2.heap.size≤q∨q=X∨q=R:=fun q hq=>by
  rcases hq with h|⟨p,hp,e⟩
  ·exact .inl h
  ·rcases List.mem_cons.1 hp with rfl|hp
   ·have e:ρ.b 66=q:=e
    rw[hρ]at e
    exact .inr (.inl e.symm)
   ·obtain rfl:=List.mem_singleton.1 hp
    have e:ρ.b 67=q:=e
    rw[hρ]at e
    exact .inr (.inr e.symm)
 have hR3:(Blk.obj 51 [.string x.name,hdV y A' o' x.tree.length c',iV x.at']).at Try.prog w3 R:=by
  have h1:(Blk.obj 51 [.string x.name,(slZ y 80 83 81 82).ev (mixE ρ I3 B3),iV x.at']).at Try.prog w3 R:=by
   have:=bl3.2.1.2
   rw[hρ]at this⊢
   exact this
  rw[eyI]at h1
  exact h1
 have f3:Fresh w w3:=fresh_keeps (f1.trans f2) (kp.mono fun q hq=>by
  rcases own q hq with h|rfl|rfl
  ·exact Nat.le_trans (f1.trans f2).size h
  ·exact gX
  ·exact gR)
 have lX:X<w1.heap.size:=Blk.at_lt hX
 have lR:R<w1.heap.size:=Blk.at_lt hR
 refine(leave_at (ρ:=mkE [] [(62,R)] [(40,.string x.name),(41,hdV y A' o' x.tree.length c'),(42,iV x.at')]) (lA:=[(2,ptr0 62)]) (bs:=[]) (mem:=[(⟨.dyn 62,.lit 0⟩,.opq 40),(⟨.dyn 62,.lit 1⟩,.opq 41),(⟨.dyn 62,.lit 2⟩,.opq 42)]) F3' (a:=.agg [.opq 40,.opq 41,.opq 42]) (fun p hp=>by
  obtain rfl:=List.mem_singleton.1 hp
  exact lookV_mem rfl) (fun st=>by kernel_rfl) (nofun) (fun q hq=>by
  simp only[List.mem_cons,List.not_mem_nil,or_false]at hq
  rcases hq with rfl|rfl|rfl
  ·exact blk_cell hR3 (i:=0) rfl
  ·exact blk_cell hR3 (i:=1) rfl
  ·exact blk_cell hR3 (i:=2) rfl)).mono fun g6 w6 hd6=>?_
 obtain⟨fr6,rfl,rfl,hL⟩:=hd6
 refine⟨fr6,_,rfl,hL,f3,_,rfl,hv.keepBut kp fun q hq hlt=>⟨fun ho=>?_,?_⟩⟩
 ·have hq:wk.heap.size≤q:=hq
  have:=fk.size
  rcases own q ho with h|rfl|rfl<;>omega
 ·have hq:wk.heap.size≤q:=hq
  exact Nat.le_trans (f1.trans fk).size hq
end
def letCells(p:LetD×Value):List Value:=[.string p.1.name,p.2,iV p.1.at']
theorem letCells_len:∀l:List (LetD×Value),(l.flatMap letCells).length=l.length*3
 |[]=>rfl
 |n::l=>by
  rw[List.flatMap_cons,List.length_append,letCells_len l,List.length_cons]
  show 3+l.length*3=_
  omega
theorem letCells_get:∀{l:List (LetD×Value)} {i:Nat} {p:LetD×Value},l[i]?=some p->(l.flatMap letCells)[i*3]?=some (.string p.1.name)∧(l.flatMap letCells)[i*3+1]?=some p.2∧(l.flatMap letCells)[i*3+2]?=some (iV p.1.at')
 |a::l,0,p,h=>by
  obtain rfl:a=p:=Option.some.inj h
  exact⟨rfl,rfl,rfl⟩
 |a::l,i+1,p,h=>by
  obtain⟨h1,h2,h3⟩:=letCells_get (l:=l) (i:=i) h
  rw[List.flatMap_cons]
  refine⟨?_,?_,?_⟩
  ·rw[show(i+1)*3=i*3+1+1+1 by omega]
   exact h1
  ·rw[show(i+1)*3+1=i*3+1+1+1+1 by omega]
   exact h2
  ·rw[show(i+1)*3+2=i*3+2+1+1+1 by omega]
   exact h3
def OffS(base:Nat)(s:Value)(x:Nat):Prop:=base≤x∧∀B n c,s=slV B 0 n c->x≠B
def LetsNew(w:World)(base:Nat)(s:Value)(l:List (LetD×Value)):Prop:=(s=nilV∧l=[])∨(l≠[]∧∃B c,s=slV B 0 l.length c∧base≤B∧(Blk.vec 51 c (l.flatMap letCells)).at Try.prog w B)
theorem LetsNew.keep{w w':World}{base:Nat}{s:Value}{l:List (LetD×Value)}(h:LetsNew w base s l)(f:Fresh w w'):LetsNew w' base s l:=by
 rcases h with h|⟨h1,B,c,h2,h3,h4⟩
 ·exact .inl h
 ·exact .inr ⟨h1,B,c,h2,h3,blk_keep h4 f⟩
theorem size51(inf:TypeInfo)(hi:Try.prog.info? 51=some inf):inf.size=3:=by
 have e2:(Try.prog.info? 51).map (fun x=>x.size)=some 3:=by kernel_rfl
 rw[hi]at e2
 exact Option.some.inj e2
noncomputable abbrev CtH:List Item:=[.code (q16 [1,1,0,1,0,0]),.inLoop (q16 [1,1,0,1,0,0]),.inBlock 0,.code (q16 [1,1,1])]
noncomputable abbrev CtT(l:List Nat):List Item:=.inRegion (opsOf (q16 [1,1,0,1,0,0,1,0,0])) l::[.inBlock 1,.code (q16 [1,1,0,1,0,0,1,1]),.inLoop (q16 [1,1,0,1,0,0]),.inBlock 0,.code (q16 [1,1,1])]
section
variable {w w0:World}{cs:List Frame}{fr:Frame}{base:Nat}
theorem ct_push{A o L c i:Nat}{s ts:Value}{l:List (LetD×Value)}{x:LetD}(hb:base≤w.heap.size)(hs:LetsNew w base s l)(ha:∀p∈l,NodesU w (OffS base s) p.2 p.1.tree)(hx:NodesU w (OffS base s) ts x.tree)(hl:l.length≤1000000)(hf:FA 16 20 (CtT [6,7,8]) [] .normal [(0,slV A o L c),(3,s),(4,iV i),(11,s),(16,letV x ts)] fr):
  Goes (G fr cs) w fun g' w'=>∃fr' s',g'=G fr' cs∧Keeps (fun x=>base≤x) w w'∧LetsNew w' base s' (l++[(x,ts)])∧(∀p∈l++[(x,ts)],NodesU w' (OffS base s') p.2 p.1.tree)∧FA 16 20 CtH [] .normal [(0,slV A o L c),(3,s'),(4,iV (iop .add .i64 i 1))] fr':=by
 obtain⟨y,A',o',c',rfl,hy,hyc,hyel⟩:=hx.ex
 rcases hs with⟨rfl,rfl⟩|⟨hne,B0,c0,rfl,hB0,hv⟩
 ·obtain⟨ρ,hρ⟩:∃ρ:Env,ρ=Go.Proofs.Ytmobbajggkjpgaa.SX.mkS [(51,L),(52,c),(53,o),(10,i),(5,x.at'),(81,x.tree.length),(82,c'),(83,o')] [(50,A),(80,A')] [] [(2,x.name)]:=⟨_,rfl⟩
  have ey0:(AV.agg [ss 2,slZ y 80 83 81 82,i64 (v 5)]).ev ρ=letV x (hdV y A' o' x.tree.length c'):=by rw[hρ];cases y<;>rfl
  have eyI:∀I B,(slZ y 80 83 81 82).ev (mixE ρ I B)=hdV y A' o' x.tree.length c':=fun I B=>by rw[hρ];cases y<;>rfl
  refine((ct4n y).go ρ hf (by
   show[some _,some _,some _,some _,some _]=[some _,some _,some _,some _,some ((AV.agg [ss 2,slZ y 80 83 81 82,i64 (v 5)]).ev ρ)]
   rw[ey0,hρ];rfl) trivial trivial).mono fun g1 w1 hd=>?_
  obtain⟨I,B,fr1,rfl,f1,F1,bl,_⟩:=hd
  have hB:(Blk.vec 51 (I 101).toNat [.string x.name,hdV y A' o' x.tree.length c',iV x.at']).at Try.prog w1 (B 101):=by
   have h1:(Blk.vec 51 (I 101).toNat [.string x.name,(slZ y 80 83 81 82).ev (mixE ρ I B),iV x.at']).at Try.prog w1 (B 101):=by
    have:=bl.1.2
    rw[hρ]at this⊢
    exact this
   rw[eyI]at h1
   exact h1
  have gB:w.heap.size≤B 101:=bl.1.1
  refine⟨fr1,slV (B 101) 0 1 (I 101).toNat,rfl,f1.mono fun x hx=>Nat.le_trans hb hx,.inr ⟨by simp,B 101,(I 101).toNat,rfl,Nat.le_trans hb gB,hB⟩,fun p hp=>?_,by rw[hρ]at F1;exact F1⟩
  obtain rfl:=List.mem_singleton.1 hp
  refine hx.keepBut f1 fun q hq lt=>⟨fun h=>?_,hq.1,fun B' n c e=>?_⟩
  ·have h:w.heap.size≤q:=h
   omega
  ·have:=slV_block e
   omega
 ·obtain⟨ρ,hρ⟩:∃ρ:Env,ρ=Go.Proofs.Ytmobbajggkjpgaa.SX.mkS [(51,L),(52,c),(53,o),(10,i),(5,x.at'),(81,x.tree.length),(82,c'),(83,o'),(8,l.length),(57,c0)] [(50,A),(80,A'),(62,B0)] [(63,.agg (l.flatMap letCells).toArray)] [(2,x.name)]:=⟨_,rfl⟩
  have e62:ρ.b 62=B0:=by rw[hρ];rfl
  have ey0:(AV.agg [ss 2,slZ y 80 83 81 82,i64 (v 5)]).ev ρ=letV x (hdV y A' o' x.tree.length c'):=by rw[hρ];cases y<;>rfl
  have eyI:∀I B,(slZ y 80 83 81 82).ev (mixE ρ I B)=hdV y A' o' x.tree.length c':=fun I B=>by rw[hρ];cases y<;>rfl
  refine((ct4 y).goW ρ hf (by
   show[some _,some _,some _,some _,some _]=[some _,some _,some _,some _,some ((AV.agg [ss 2,slZ y 80 83 81 82,i64 (v 5)]).ev ρ)]
   rw[ey0,hρ];rfl) ⟨by
    rw[hρ]
    show decide ((((l.length:Int).toNat:Nat):Int)+1≤1048576)=true
    exact decide_eq_true (by omega),trivial⟩ trivial (nofun) ⟨⟨.vec 51 c0 (l.flatMap letCells),by rw[e62];exact hv,rfl,by rw[hρ];rfl,fun inf hinf=>?_,(nofun),by rw[hρ];rfl⟩,trivial⟩ one_nodup).mono fun g1 w1 hd=>?_
  ·rw[size51 inf hinf,letCells_len,hρ]
   show l.length*3=((l.length:Nat):Int).toNat*3
   omega
  obtain⟨I,B,fr1,rfl,kp,F1,bl,_⟩:=hd
  have own:∀x,ownP ρ w [(62,.pre false 63 (v 8) [] [] [] 51 (v 57))] x->w.heap.size≤x∨x=B0:=fun x hx=>by
   rcases hx with h|⟨y,hy,e⟩
   ·exact .inl h
   ·obtain rfl:=List.mem_singleton.1 hy
    have e:ρ.b 62=x:=e
    exact .inr (by omega)
  have hB:(Blk.vec 51 (I 101).toNat ((l++[(x,hdV y A' o' x.tree.length c')]).flatMap letCells)).at Try.prog w1 (B 101):=by
   have h1:(Blk.vec 51 (I 101).toNat (l.flatMap letCells++[.string x.name,(slZ y 80 83 81 82).ev (mixE ρ I B),iV x.at'])).at Try.prog w1 (B 101):=by
    have:=bl.1.2
    rw[hρ]at this⊢
    exact this
   rw[eyI]at h1
   rw[List.flatMap_append]
   exact h1
  have hn:((((l.length:Int).toNat:Nat):Int)+1).toNat=(l++[(x,hdV y A' o' x.tree.length c')]).length:=by
   rw[List.length_append,List.length_singleton]
   omega
  have gB:=own _ bl.1.1
  have hoff:∀q,OffS base (slV B0 0 l.length c0) q->q<w.heap.size->¬ownP ρ w [(62,.pre false 63 (v 8) [] [] [] 51 (v 57))] q∧OffS base (slV (B 101) 0 (l++[(x,hdV y A' o' x.tree.length c')]).length (I 101).toNat) q:=fun q hq lt=>by
   have hne:=hq.2 B0 _ _ rfl
   refine⟨fun h=>?_,hq.1,fun B' n c e=>?_⟩
   ·rcases own q h with h|h
    ·omega
    ·exact hne h
   ·have e':=slV_block e
    have gB:w.heap.size≤B 101∨B 101=B0:=gB
    rcases gB with h|h<;>omega
  refine⟨fr1,slV (B 101) 0 (l++[(x,hdV y A' o' x.tree.length c')]).length (I 101).toNat,rfl,kp.mono fun x hx=>?_,.inr ⟨by simp,B 101,(I 101).toNat,rfl,?_,hB⟩,fun p hp=>?_,?_⟩
  ·rcases own x hx with h|h<;>omega
  ·have gB:w.heap.size≤B 101∨B 101=B0:=gB
   rcases gB with h|h<;>omega
  ·rcases List.mem_append.1 hp with hp|hp
   ·exact(ha p hp).keepBut kp hoff
   ·obtain rfl:=List.mem_singleton.1 hp
    exact hx.keepBut kp hoff
  ·rw[<-hn]
   rw[hρ]at F1
   exact F1
theorem ct_loopU{z:Bool}{A o c:Nat}{L:List LetD}(hz:z=true->L=[])(hel:∀i x,L[i]?=some x->LetIn w0 A (o+i*3) x)(hlen:L.length≤1000000)(htr:∀x∈L,x.tree.length≤999999):
  ∀(k i:Nat) {l:List (LetD×Value)} {s:Value} {w:World} {cs:List Frame} {fr:Frame},i+k=L.length->l.map (·.1)=L.take i->Fresh w0 w->LetsNew w w0.heap.size s l->(∀p∈l,NodesU w (OffS w0.heap.size s) p.2 p.1.tree)->FA 16 20 CtH [] .normal [(0,hdV z A o L.length c),(3,s),(4,iV i)] fr->
  Goes (G fr cs) w fun g' w'=>∃fr' s' l',g'=G fr' cs∧Fresh w0 w'∧LetsNew w' w0.heap.size s' l'∧l'.map (·.1)=L∧(∀p∈l',NodesU w' (OffS w0.heap.size s') p.2 p.1.tree)∧Leav 16 fr' w' s'
 |0,i,l,s,w,cs,fr,hi,hli,fw,hs,ha,hf=>by
  obtain⟨ρ,hρ⟩:∃ρ:Env,ρ=mkE [(51,L.length),(52,c),(53,o),(10,i)] [(50,A)] [(3,s)]:=⟨_,rfl⟩
  have ez:(slZ z 50 53 51 52).ev ρ=hdV z A o L.length c:=by rw[hρ];cases z<;>rfl
  refine((ct5 z).go ρ hf (by
   show[some _,some _,some _]=[some ((slZ z 50 53 51 52).ev ρ),some _,some _]
   rw[ez,hρ];rfl) ⟨by
    rw[hρ]
    cases z with
    |false=>exact decide_eq_false (by show ¬((i:Int)<((L.length:Nat):Int));omega)
    |true=>exact decide_eq_false (by show ¬((i:Int)<0);omega),trivial⟩ trivial).trans fun g1 w1 hd=>?_
  obtain⟨I,B,fr1,rfl,f1,F1,_⟩:=hd
  rw[hρ]at F1
  refine(leave1 ret16 F1 rfl).mono fun g2 w2 hd2=>?_
  obtain⟨fr2,rfl,rfl,hL⟩:=hd2
  refine⟨fr2,s,l,rfl,fw.trans f1,hs.keep f1,?_,fun p hp=>(ha p hp).keep f1,hL⟩
  rw[hli,List.take_of_length_le (by omega)]
 |k+1,i,l,s,w,cs,fr,hi,hli,fw,hs,ha,hf=>by
  have hlt:i<L.length:=by omega
  obtain⟨x,hx⟩:∃x,L[i]?=some x:=⟨_,List.getElem?_eq_getElem hlt⟩
  cases z with
  |true=>
   rw[hz rfl]at hlt
   simp only[List.length_nil]at hlt
   omega
  |false=>
  have hxl:=htr x (List.mem_of_getElem? hx)
  have hll:l.length=i:=by
   have:=congrArg List.length hli
   rw[List.length_map,List.length_take]at this
   omega
  obtain⟨ts,c0,c1,c2,hN⟩:=((hel i x hx).keep fw).ex
  obtain⟨ρ,hρ⟩:∃ρ:Env,ρ=Go.Proofs.Ytmobbajggkjpgaa.SX.mkS [(51,L.length),(52,c),(53,o),(10,i),(4,x.at')] [(50,A)] [(3,s),(7,ts)] [(1,x.name)]:=⟨_,rfl⟩
  refine(ct2.go ρ hf (by rw[hρ];rfl) (ltB_ok (i:=10) (n:=51) (I:=i) (N:=L.length) (by rw[hρ];rfl) (by rw[hρ];rfl) hlt) ⟨by rw[hρ];exact c0,by rw[hρ];exact c1,by rw[hρ];exact c2,trivial⟩).trans fun g1 w1 hd=>?_
  obtain⟨I,B,fr1,rfl,f1,F1,_⟩:=hd
  rw[hρ]at F1
  refine(ct3.go (mkE [] [] [(15,letV x ts)]) (Q:=fun v w'=>∃wk,Fresh w1 wk∧∃ts',v=letV x ts'∧NodesU w' (fun A=>wk.heap.size≤A) ts' x.tree) F1 rfl fun w' f2=>(copyLet_all (hN.keep (f1.trans f2)) (by omega)).mono fun v w2 hd=>⟨hd.1,w',f2,hd.2⟩).trans fun g2 w2 hd2=>?_
  obtain⟨fr2,v,rfl,f2,⟨wk,fk,ts',rfl,hU⟩,F2⟩:=hd2
  have f02:=fw.trans (f1.trans f2)
  have hsz:∀B n c,s=slV B 0 n c->B<w.heap.size:=fun B n c e=>by
   rcases hs with⟨h,_⟩|⟨_,B0,c0,h,_,hv⟩
   ·rw[h]at e;cases e
   ·rw[h]at e
    have:=slV_block e
    have:=Blk.at_lt hv
    omega
  have hU':NodesU w2 (OffS w0.heap.size s) ts' x.tree:=hU.keepBut (Fresh.refl w2) fun q hq lt=>⟨fun h=>by
   have h:w2.heap.size≤q:=h
   omega,Nat.le_trans (fw.trans (f1.trans fk)).size hq,fun B n c e=>by
   have:=hsz B n c e
   have:=(f1.trans fk).size
   have hq:wk.heap.size≤q:=hq
   omega⟩
  refine(ct_push (base:=w0.heap.size) f02.size (hs.keep (f1.trans f2)) (fun p hp=>(ha p hp).keep (f1.trans f2)) hU' (by omega) (F2.only rfl)).trans fun g3 w3 hd3=>?_
  obtain⟨fr3,s',rfl,kp,hs',ha',F3⟩:=hd3
  rw[inc (by omega)]at F3
  refine ct_loopU (z:=false) (fun h=>by cases h) hel hlen htr k (i+1) (by omega) ?_ (fresh_keeps f02 kp) hs' ha' F3
  rw[List.map_append,hli,List.take_add_one,hx];rfl
theorem copyLetsU_all{s:Value}{L:List LetD}(h:LetsIn w s L)(hlen:L.length≤1000000)(htr:∀x∈L,x.tree.length≤999999):Ans 16 #[s] w fun v w'=>Fresh w w'∧∃l,l.map (·.1)=L∧LetsNew w' w.heap.size v l∧∀p∈l,NodesU w' (OffS w.heap.size v) p.2 p.1.tree:=by
 obtain⟨z,A,o,c,rfl,hz,hzc,hel⟩:=h.ex
 refine ans_of fun cs=>?_
 obtain⟨ρ,hρ⟩:∃ρ:Env,ρ=mkE [(51,L.length),(52,c),(53,o)] [(50,A)] []:=⟨_,rfl⟩
 refine((ct1 z).go ρ (enter1 ent16 rfl (hdV z A o L.length c)) (by rw[hρ];cases z<;>rfl) trivial trivial).trans fun g1 w1 hd=>?_
 obtain⟨I,B,fr1,rfl,f1,F1,_⟩:=hd
 have F1':FA 16 20 CtH [] .normal [(0,hdV z A o L.length c),(3,nilV),(4,iV (0:Nat))] fr1:=by
  rw[hρ]at F1
  cases z<;>exact F1
 refine(ct_loopU (w0:=w) hz hel hlen htr L.length 0 (l:=[]) (s:=nilV) (by omega) rfl f1 (.inl ⟨rfl,rfl⟩) (nofun) F1').mono fun g2 w2 hd2=>?_
 obtain⟨fr2,s',l',rfl,f2,hs',hm,ha,hL⟩:=hd2
 exact⟨fr2,_,rfl,hL,f2,l',hm,hs',ha⟩
theorem vec_lets{B c:Nat}{l:List (LetD×Value)}(hv:(Blk.vec 51 c (l.flatMap letCells)).at Try.prog w B)(ha:∀p∈l,NodesAt w p.2 p.1.tree):LetsAt w (slV B 0 l.length c) (l.map (·.1)):=by
 refine⟨false,B,0,c,by rw[List.length_map];rfl,(fun h=>by cases h),fun _=>?_,fun i x hi=>?_⟩
 ·obtain⟨arr,rest,inf,e1,e2,e3,e4⟩:=hv
  have:=congrArg List.length e3
  rw[size51 inf e2]at e4
  rw[List.length_append,letCells_len]at this
  have:arr.size=arr.toList.length:=rfl
  rw[List.length_map]
  omega
 ·rw[List.getElem?_map]at hi
  cases e:l[i]? with
  |none=>rw[e]at hi;cases hi
  |some p=>
   rw[e]at hi
   obtain rfl:p.1=x:=Option.some.inj hi
   obtain⟨g1,g2,g3⟩:=letCells_get e
   rw[Nat.zero_add]
   exact⟨p.2,Blk.at_cell hv g1,Blk.at_cell hv g2,Blk.at_cell hv g3,ha p (List.mem_of_getElem? e)⟩
theorem copyLets_all{s:Value}{L:List LetD}(h:LetsIn w s L)(hlen:L.length≤1000000)(htr:∀x∈L,x.tree.length≤999999):Ans 16 #[s] w fun v w'=>Fresh w w'∧LetsAt w' v L:=
 (copyLetsU_all h hlen htr).mono fun v w' hd=>by
  obtain⟨f,l,rfl,hs,ha⟩:=hd
  refine⟨f,?_⟩
  rcases hs with⟨rfl,rfl⟩|⟨hne,B,c,rfl,hB,hv⟩
  ·exact⟨true,0,0,0,rfl,fun _=>rfl,(fun h=>by cases h),fun i x hi=>by cases hi⟩
  ·exact vec_lets hv fun p hp=>(ha p hp).at
end
theorem sched_chain{ops:Array Oper}(hp:∀i,i<ops.size->∀p∈preN ops i,p<i):∀(late:List Nat) {r l:List Nat},Sched ops r l->(∀i,i<ops.size->i∈r∨i∈late)->(∀i∈late,i<ops.size∧i∉r)->late.Pairwise (fun a b=>a≠b∧a∈preN ops b)->l=late
 |[],r,l,hs,h1,h2,h3=>by
  cases l with
  |nil=>rfl
  |cons i l=>
   obtain⟨q1,q2,q3⟩:=ready_pre hs.1
   rcases h1 i q1 with h|h
   ·exact(q2 h).elim
   ·cases h
 |a::late,r,l,hs,h1,h2,h3=>by
  obtain⟨ha,har⟩:=h2 a (List.mem_cons_self ..)
  cases l with
  |nil=>exact(har (sched_full hp hs a ha)).elim
  |cons i l=>
   obtain⟨q1,q2,q3⟩:=ready_pre hs.1
   have hia:i=a:=by
    rcases h1 i q1 with h|h
    ·exact(q2 h).elim
    ·rcases List.mem_cons.1 h with h|h
     ·exact h
     ·have:=(List.pairwise_cons.1 h3).1 i h
      exact(har (q3 a this.2)).elim
   subst hia
   have:=sched_chain hp late (r:=i::r) (l:=l) hs.2 (fun j hj=>?_) (fun j hj=>?_) (List.pairwise_cons.1 h3).2
   ·rw[this]
   ·rcases h1 j hj with h|h
    ·exact .inl (List.mem_cons_of_mem _ h)
    ·rcases List.mem_cons.1 h with rfl|h
     ·exact .inl (List.mem_cons_self ..)
     ·exact .inr h
   ·refine⟨(h2 j (List.mem_cons_of_mem _ hj)).1,fun h=>?_⟩
    rcases List.mem_cons.1 h with rfl|h
    ·exact((List.pairwise_cons.1 h3).1 j hj).1 rfl
    ·exact(h2 j (List.mem_cons_of_mem _ hj)).2 h
section
variable {fn nt n:Nat}{ops:Array Oper}{k:List Item}{b:List (Nat×Value)}{cs:List Frame}
theorem draw_up{nm:Nat->Nat}{val:Nat->Value->World->Prop}{early:Nat->Bool}{late:List Nat}(hsz:ops.size=n)(h1:((List.range n).all fun i=>(preN ops i).all fun p=>Nat.blt p i)=true)(h2:((List.range n).all fun i=>early i||((List.range n).all fun j=>!early j||(preN ops i).contains j))=true)(h3:((List.range n).all fun i=>(b.map (·.1)).all fun x=>!Nat.beq x (nm i))=true)(h4:((List.range n).all fun i=>(List.range n).all fun j=>Nat.beq i j||!Nat.beq (nm j) (nm i))=true)(h5:((List.range n).all fun i=>early i||late.contains i)=true)(h6:(late.all fun i=>Nat.blt i n&&!early i)=true)(h7:late.Pairwise (fun a b=>a≠b∧a∈preN ops b))
 (keep:∀i v w w',val i v w->Fresh w w'->val i v w'){w0:World}
 (step:∀i,i<n->early i=true->∀(l:List Nat) (w:World) (fr:Frame) (lv:List (Nat×Value)),Fresh w0 w->FA fn nt (.inRegion ops (i::l)::k) [] .normal lv fr->(∀x∈b,x∈lv)->(∀p∈preN ops i,∃v,(nm p,v)∈lv∧val p v w)->
   Goes (G fr cs) w fun g' w'=>∃fr' v,g'=G fr' cs∧Fresh w w'∧val i v w'∧FA fn nt (.inRegion ops l::k) [] .normal (lvPut (nm i) v lv) fr'):
  ∀(l r:List Nat) {w:World} {fr:Frame},Fresh w0 w->(∀i∈r,i<n∧early i=true)->Sched ops r l->DrG fn nt ops k b nm val r l fr w->Goes (G fr cs) w fun g' w'=>∃fr' lv,g'=G fr' cs∧Fresh w0 w'∧FA fn nt (.inRegion ops late::k) [] .normal lv fr'∧(∀x∈b,x∈lv)∧∀i,i<n->early i=true->∃v,(nm i,v)∈lv∧val i v w':=by
 have hp:=pre_ok hsz h1
 have stop:∀{l r:List Nat} {w:World} {fr:Frame},Fresh w0 w->(∀i∈r,i<n∧early i=true)->(∀i,i<n->early i=true->i∈r)->Sched ops r l->DrG fn nt ops k b nm val r l fr w->Goes (G fr cs) w fun g' w'=>∃fr' lv,g'=G fr' cs∧Fresh w0 w'∧FA fn nt (.inRegion ops late::k) [] .normal lv fr'∧(∀x∈b,x∈lv)∧∀i,i<n->early i=true->∃v,(nm i,v)∈lv∧val i v w':=fun{l r w fr} fw hr hall hs D=>by
  have hll:l=late:=sched_chain hp late hs (fun i hi=>by
   rw[hsz]at hi
   have:=List.all_eq_true.1 h5 i (List.mem_range.2 hi)
   simp only[Bool.or_eq_true]at this
   rcases this with h|h
   ·exact .inl (hall i hi h)
   ·exact .inr (by simpa using h)) (fun i hi=>by
   have:=List.all_eq_true.1 h6 i hi
   simp only[Bool.and_eq_true,Bool.not_eq_true']at this
   refine⟨by rw[hsz];exact Nat.blt_eq.mp this.1,fun h=>?_⟩
   have:=(hr i h).2
   simp_all) h7
  subst hll
  obtain⟨lv,g1,g2,g3⟩:=D.ex
  exact .here ⟨fr,lv,rfl,fw,g1,g2,fun i hi he=>g3 i (hall i hi he)⟩
 intro l
 induction l with
 |nil=>
  intro r w fr fw hr hs D
  exact stop fw hr (fun i hi he=>sched_full hp hs i (by rw[hsz];exact hi)) hs D
 |cons i l ih=>
  intro r w fr fw hr hs D
  obtain⟨q1,q2,q3⟩:=ready_pre hs.1
  rw[hsz]at q1
  cases he:early i with
  |false=>
   refine stop fw hr (fun j hj hje=>?_) hs D
   have:=List.all_eq_true.1 h2 i (List.mem_range.2 q1)
   rw[he,Bool.false_or]at this
   have:=List.all_eq_true.1 this j (List.mem_range.2 hj)
   rw[hje]at this
   exact q3 j (by simpa using this)
  |true=>
   obtain⟨lv,g1,g2,g3⟩:=D.ex
   refine(step i q1 he l w fr lv fw g1 g2 fun p hpp=>g3 p (q3 p hpp)).trans fun g1 w1 hd=>?_
   obtain⟨fr1,v,rfl,f1,hv,F1⟩:=hd
   have hbi:∀x∈b,x.1≠nm i:=fun x hx h=>by
    have:=List.all_eq_true.1 h3 i (List.mem_range.2 q1)
    have:=List.all_eq_true.1 this x.1 (List.mem_map.2 ⟨x,hx,rfl⟩)
    rw[h]at this
    simp at this
   refine ih (i::r) (fw.trans f1) (fun j hj=>?_) hs.2 ⟨_,F1,fun x hx=>?_,fun j hj=>?_⟩
   ·rcases List.mem_cons.1 hj with rfl|hj
    ·exact⟨q1,he⟩
    ·exact hr j hj
   ·exact List.mem_cons_of_mem _ (List.mem_filter.2 ⟨g2 x hx,by simpa using hbi x hx⟩)
   ·rcases List.mem_cons.1 hj with rfl|hj
    ·exact⟨v,List.mem_cons_self ..,hv⟩
    ·obtain⟨u,h8,h9⟩:=g3 j hj
     refine⟨u,List.mem_cons_of_mem _ (List.mem_filter.2 ⟨h8,?_⟩),keep _ _ _ _ h9 f1⟩
     have hne:i≠j:=fun e=>q2 (e▸hj)
     have:=List.all_eq_true.1 h4 i (List.mem_range.2 q1)
     have:=List.all_eq_true.1 this j (List.mem_range.2 (hr j hj).1)
     simp only[Bool.or_eq_true,Bool.not_eq_true']at this
     rcases this with h|h
     ·exact(hne (Nat.eq_of_beq_eq_true h)).elim
     ·have:nm j≠nm i:=fun e=>by rw[e]at h;simp at h
      simpa using this
end
noncomputable abbrev cfD:Array Oper:=opsOf (q8 [1,0])
def cfV(X:Nat)(ls os:Value)(L:List LetD)(O:List Int)(i:Nat)(v:Value)(w:World):Prop:=match i with
 |0=>v=.pointer (some ⟨X,0,none⟩)
 |1=>v=ls
 |2=>LetsAt w v L
 |3=>v=.pointer (some ⟨X,1,none⟩)
 |4=>v=os
 |5=>IntsAt w v O
 |_=>∃a b,v=.agg #[a,b]∧LetsAt w a L∧IntsAt w b O
theorem cfSize:cfD.size=8:=by kernel_rfl
theorem cfDraw:isDraw (q8 [1,0])=true:=by kernel_rfl
section
variable {w w0:World}{cs:List Frame}{fr:Frame}
theorem cfV_keep{X:Nat}{ls os:Value}{L:List LetD}{O:List Int}(i:Nat)(v:Value)(w w':World)(h:cfV X ls os L O i v w)(f:Fresh w w'):cfV X ls os L O i v w':=by
 unfold cfV at h⊢
 split at h
 all_goals first|exact h|exact LetsAt.keep h f|exact IntsAt.keep h f|exact(let⟨a,b,h1,h2,h3⟩:=h;⟨a,b,h1,h2.keep f,h3.keep f⟩)
theorem cf_step{X R:Nat}{ls os:Value}{L:List LetD}{O:List Int}{k:List Item}(hX:(Blk.obj 25 [ls,os]).at Try.prog w0 X)(hL:LetsIn w0 ls L)(hO:IntsAt w0 os O)(hlen:L.length≤1000000)(htr:∀x∈L,x.tree.length≤999999)(hol:O.length≤4294967296):
  ∀i,i<8->Nat.blt i 7=true->∀(l:List Nat) (w:World) (fr:Frame) (lv:List (Nat×Value)),Fresh w0 w->FA 8 10 (.inRegion cfD (i::l)::k) [] .normal lv fr->(∀x∈[(1,ptrV X),(2,ptrV R)],x∈lv)->(∀p∈preN cfD i,∃v,(p+3,v)∈lv∧cfV X ls os L O p v w)->
   Goes (G fr cs) w fun g' w'=>∃fr' v,g'=G fr' cs∧Fresh w w'∧cfV X ls os L O i v w'∧FA 8 10 (.inRegion cfD l::k) [] .normal (lvPut (i+3) v lv) fr':=by
 intro i hi he l w fr lv f hf hb hp
 have b1:((1,ptrV X):Nat×Value)∈lv:=hb _ (List.mem_cons_self ..)
 have he:=Nat.blt_eq.mp he
 rcases(by omega:i=0∨i=1∨i=2∨i=3∨i=4∨i=5∨i=6)with rfl|rfl|rfl|rfl|rfl|rfl|rfl
 ·exact cfV0.goM (mkE [] [(66,X)] []) hf (by decide) (fun q hq=>by
   obtain rfl:=List.mem_singleton.1 hq
   exact b1) trivial trivial rfl
 ·obtain⟨v0,q0,e0⟩:=hp 0 (pin (by kernel_rfl))
  have e0:v0=.pointer (some ⟨X,0,none⟩):=e0
  subst e0
  exact cfV1.goM (mkE [] [(66,X)] [(7,ls)]) hf (by decide) (fun q hq=>by
   obtain rfl:=List.mem_singleton.1 hq
   exact q0) trivial ⟨f.cell (blk_cell hX (i:=0) rfl),trivial⟩ rfl
 ·obtain⟨v1,q1,e1⟩:=hp 1 (pin (by kernel_rfl))
  have e1:v1=ls:=e1
  subst e1
  exact cfV2.goM (mkE [] [] [(4,v1)]) (Q:=fun v w'=>LetsAt w' v L) hf (fun q hq=>by
   obtain rfl:=List.mem_singleton.1 hq
   exact q1) fun w' f1=>copyLets_all (hL.keep (f.trans f1)) hlen htr
 ·exact cfV3.goM (mkE [] [(66,X)] []) hf (by decide) (fun q hq=>by
   obtain rfl:=List.mem_singleton.1 hq
   exact b1) trivial trivial rfl
 ·obtain⟨v3,q3,e3⟩:=hp 3 (pin (by kernel_rfl))
  have e3:v3=.pointer (some ⟨X,1,none⟩):=e3
  subst e3
  exact cfV4.goM (mkE [] [(66,X)] [(7,os)]) hf (by decide) (fun q hq=>by
   obtain rfl:=List.mem_singleton.1 hq
   exact q3) trivial ⟨f.cell (blk_cell hX (i:=1) rfl),trivial⟩ rfl
 ·obtain⟨v4,q4,e4⟩:=hp 4 (pin (by kernel_rfl))
  have e4:v4=os:=e4
  subst e4
  exact cfV5.goM (mkE [] [] [(7,v4)]) (Q:=fun v w'=>IntsAt w' v O) hf (fun q hq=>by
   obtain rfl:=List.mem_singleton.1 hq
   exact q4) fun w' f1=>copyInts_all (hO.keep (f.trans f1)) hol
 ·obtain⟨v2,q2,e2⟩:=hp 2 (pin (by kernel_rfl))
  have e2:LetsAt w v2 L:=e2
  obtain⟨v5,q5,e5⟩:=hp 5 (pin (by kernel_rfl))
  have e5:IntsAt w v5 O:=e5
  obtain⟨z,A,o,c,h1,h2,h3,h4⟩:=e2.ex
  obtain⟨y,A',o',c',g1,g2,g3,g4⟩:=e5.ex
  obtain⟨ρ,hρ⟩:∃ρ:Env,ρ=mkE [(81,L.length),(82,c),(83,o),(91,O.length),(92,c'),(93,o')] [(80,A),(90,A')] []:=⟨_,rfl⟩
  have ez:(slZ z 80 83 81 82).ev ρ=v2:=by rw[hρ,h1];cases z<;>rfl
  have ey:(slZ y 90 93 91 92).ev ρ=v5:=by rw[hρ,g1];cases y<;>rfl
  refine((cfV6 z y).goM ρ hf (by decide) (fun q hq=>?_) trivial trivial (v:=.agg #[v2,v5]) (by
   show Value.agg #[(slZ z 80 83 81 82).ev ρ,(slZ y 90 93 91 92).ev ρ]=_
   rw[ez,ey])).mono fun g' w' hd=>?_
  ·simp only[told,List.map_cons,List.map_nil,List.mem_cons,List.not_mem_nil,or_false]at hq
   rcases hq with rfl|rfl
   ·rw[ez];exact q2
   ·rw[ey];exact q5
  ·obtain⟨fr',v',k1,k2,rfl,k3⟩:=hd
   exact⟨fr',_,k1,k2,⟨v2,v5,rfl,e2.keep k2,e5.keep k2⟩,k3⟩
theorem nil_only{R e i:Nat}{x:Value}(h:(Blk.obj e [nilV,nilV]).at Try.prog w R)(hc:w.cell? ⟨R,i,none⟩=some x):x=nilV:=by
 obtain⟨arr,h1,h2⟩:=h
 rw[cell?_of h1,<-Array.getElem?_toList,h2]at hc
 match i,hc with
 |0,hc=>exact(Option.some.inj hc).symm
 |1,hc=>exact(Option.some.inj hc).symm
 |i+2,hc=>cases hc
theorem off_block{R A e i:Nat}{x:Value}(h:(Blk.obj e [nilV,nilV]).at Try.prog w R)(hc:w.cell? ⟨A,i,none⟩=some x)(hx:x≠nilV):A≠R:=fun e=>by
 subst e
 exact hx (nil_only h hc)
theorem iV_ne{n:Int}:iV n≠nilV:=fun h=>by unfold iV nilV at h;cases h
theorem i8V_ne{n:Int}:i8V n≠nilV:=fun h=>by unfold i8V nilV at h;cases h
theorem str_ne{s:ByteArray}:Value.string s≠nilV:=fun h=>by unfold nilV at h;cases h
section
variable {w':World}{R e:Nat}{own:Nat->Prop}
theorem cell_off(h:(Blk.obj e [nilV,nilV]).at Try.prog w R)(kp:Keeps own w w')(ho:∀q,own q->w.heap.size≤q∨q=R){A i:Nat}{x:Value}(hA:A≠R)(hc:w.cell? ⟨A,i,none⟩=some x):w'.cell? ⟨A,i,none⟩=some x:=
 cell_keep kp hc fun hh=>by
  have:=cellLt hc
  rcases ho A hh with h|h
  ·have:A<w.heap.size:=this
   omega
  ·exact hA h
theorem IntsAt.keepOff(h:(Blk.obj e [nilV,nilV]).at Try.prog w R)(kp:Keeps own w w')(ho:∀q,own q->w.heap.size≤q∨q=R){s:Value}{l:List Int}(H:IntsAt w s l):IntsAt w' s l:=by
 obtain⟨z,A,o,c,h1,h2,h3,h4⟩:=H.ex
 exact⟨z,A,o,c,h1,h2,h3,fun i n hi=>cell_off h kp ho (off_block h (h4 i n hi) iV_ne) (h4 i n hi)⟩
theorem NodesAt.keepOff(h:(Blk.obj e [nilV,nilV]).at Try.prog w R)(kp:Keeps own w w')(ho:∀q,own q->w.heap.size≤q∨q=R){s:Value}{l:List Nd}(H:NodesAt w s l):NodesAt w' s l:=by
 rcases H.ex with H|⟨A,o,c,h1,h2,h3⟩
 ·exact⟨.inl H⟩
 ·refine⟨.inr ⟨A,o,c,h1,h2,fun i n hi=>?_⟩⟩
  have g:=h3 i n hi
  have hA:=off_block h g.c0 i8V_ne
  exact⟨cell_off h kp ho hA g.c0,cell_off h kp ho hA g.c1,cell_off h kp ho hA g.c2,cell_off h kp ho hA g.c3⟩
theorem LetsAt.keepOff(h:(Blk.obj e [nilV,nilV]).at Try.prog w R)(kp:Keeps own w w')(ho:∀q,own q->w.heap.size≤q∨q=R){s:Value}{l:List LetD}(H:LetsAt w s l):LetsAt w' s l:=by
 obtain⟨z,A,o,c,h1,h2,h3,h4⟩:=H.ex
 refine⟨z,A,o,c,h1,h2,h3,fun i n hi=>?_⟩
 obtain⟨ts,g1,g2,g3,g4⟩:=(h4 i n hi).ex
 have hA:=off_block h g1 str_ne
 exact⟨ts,cell_off h kp ho hA g1,cell_off h kp ho hA g2,cell_off h kp ho hA g3,g4.keepOff h kp ho⟩
end
theorem copyFlow_all{x:Value}{F:FlowD}(h:FlowIn w x F)(hlen:F.lets.length≤1000000)(htr:∀x∈F.lets,x.tree.length≤999999)(hol:F.outs.length≤4294967296):Ans 8 #[x] w fun v w'=>Fresh w w'∧FlowAt w' v F:=by
 obtain⟨ls,os,rfl,hl,ho⟩:=h
 refine ans_of fun cs=>?_
 refine(cf1.go (mkE [] [] [(7,ls),(8,os)]) (enter1 ent8 rfl (.agg #[ls,os])) rfl trivial trivial).trans fun g1 w1 hd=>?_
 obtain⟨I,B,fr1,rfl,f1,F1,bl,inj⟩:=hd
 obtain⟨X,eX⟩:∃X,B 100=X:=⟨_,rfl⟩
 obtain⟨R,eR⟩:∃R,B 101=R:=⟨_,rfl⟩
 have gR:w.heap.size≤R:=by rw[<-eR];exact bl.1.1
 have hR:(Blk.obj 25 [nilV,nilV]).at Try.prog w1 R:=by rw[<-eR];exact bl.1.2
 have hX:(Blk.obj 25 [ls,os]).at Try.prog w1 X:=by rw[<-eX];exact bl.2.1.2
 have F1':FA 8 10 (.code (q8 [1,0])::[.code .ret]) [] .normal [(1,ptrV X),(2,ptrV R)] fr1:=by rw[<-eX,<-eR];exact F1
 obtain⟨id,hid⟩:=draw_is cfDraw
 rw[hid]at F1'
 refine(draw_in F1').trans fun g2 w2 hd2=>?_
 obtain⟨l,fr2,rfl,f2,hs,F2⟩:=hd2
 refine(draw_up (b:=[(1,ptrV X),(2,ptrV R)]) (nm:=fun i=>i+3) (val:=cfV X ls os F.lets F.outs) (early:=fun i=>Nat.blt i 7) (late:=[7]) (w0:=w1) cfSize (by kernel_rfl) (by kernel_rfl) (by kernel_rfl) (by kernel_rfl) (by kernel_rfl) (by kernel_rfl) (List.pairwise_singleton _ _) cfV_keep (cf_step hX (hl.keep f1) (ho.keep f1) hlen htr hol) l [] f2 (fun i hi=>by cases hi) hs ⟨_,F2,fun x hx=>hx,fun i hi=>by cases hi⟩).trans fun g3 w3 hd3=>?_
 obtain⟨fr3,lv,rfl,f3,F3,hb,hv⟩:=hd3
 obtain⟨v,q,a,b,rfl,hA,hB⟩:=hv 6 (by decide) rfl
 obtain⟨z,A,o,c,h1,h2,h3,h4⟩:=hA.ex
 obtain⟨y,A',o',c',g1,g2,g3,g4⟩:=hB.ex
 obtain⟨ρ,hρ⟩:∃ρ:Env,ρ=mkE [(81,F.lets.length),(82,c),(83,o),(91,F.outs.length),(92,c'),(93,o')] [(67,R),(80,A),(90,A')] []:=⟨_,rfl⟩
 have ez:∀I B,(slZ z 80 83 81 82).ev (mixE ρ I B)=a:=fun I B=>by rw[hρ,h1];cases z<;>rfl
 have ey:∀I B,(slZ y 90 93 91 92).ev (mixE ρ I B)=b:=fun I B=>by rw[hρ,g1];cases y<;>rfl
 have e9:(AV.agg [slZ z 80 83 81 82,slZ y 90 93 91 92]).ev ρ=.agg #[a,b]:=by rw[hρ,h1,g1];cases z<;>cases y<;>rfl
 have F3':FA 8 10 (.inRegion cfD [7]::[.code .ret]) [] .normal [(2,ptrV R),(9,.agg #[a,b])] fr3:=F3.sub fun x hx=>by
  simp only[List.mem_cons,List.not_mem_nil,or_false]at hx
  rcases hx with rfl|rfl
  ·exact hb _ (List.mem_cons_of_mem _ (List.mem_cons_self ..))
  ·exact q
 refine((cfV7 z y).goW ρ F3' (by
  show[some _,some _]=[some _,some ((AV.agg [slZ z 80 83 81 82,slZ y 90 93 91 92]).ev ρ)]
  rw[e9,hρ];rfl) trivial trivial (nofun) ⟨⟨.obj 25 [nilV,nilV],by rw[hρ];exact blk_keep hR f3,rfl,rfl⟩,trivial⟩ one_nodup).trans fun g4 w4 hd4=>?_
 obtain⟨I4,B4,fr4,rfl,kp,F4,bl4,_⟩:=hd4
 have hR4:(Blk.obj 25 [a,b]).at Try.prog w4 R:=by
  have h1:(Blk.obj 25 [(slZ z 80 83 81 82).ev (mixE ρ I4 B4),(slZ y 90 93 91 92).ev (mixE ρ I4 B4)]).at Try.prog w4 R:=by
   have:=bl4.1.2
   rw[hρ]at this⊢
   exact this
  rw[ez,ey]at h1
  exact h1
 have own:∀q,ownP ρ w3 [(67,.cells [nilA,nilA] 25)] q->w3.heap.size≤q∨q=R:=fun q hq=>by
  rcases hq with h|⟨p,hp,e⟩
  ·exact .inl h
  ·obtain rfl:=List.mem_singleton.1 hp
   have e:ρ.b 67=q:=e
   rw[hρ]at e
   exact .inr e.symm
 have hR3:(Blk.obj 25 [nilV,nilV]).at Try.prog w3 R:=blk_keep hR f3
 have f4:Fresh w w4:=fresh_keeps (f1.trans f3) (kp.mono fun q hq=>by
  have:=(f1.trans f3).size
  rcases own q hq with h|h<;>omega)
 have F4':FA 8 10 (.code .ret::[]) [] .normal [(2,ptrV R)] fr4:=by
  rw[hρ]at F4
  exact F4
 refine(leave_at (ρ:=mkE [] [(62,R)] [(40,a),(41,b)]) (lA:=[(2,ptr0 62)]) (bs:=[]) (mem:=[(⟨.dyn 62,.lit 0⟩,.opq 40),(⟨.dyn 62,.lit 1⟩,.opq 41)]) F4' (a:=.agg [.opq 40,.opq 41]) (fun p hp=>by
  obtain rfl:=List.mem_singleton.1 hp
  exact lookV_mem rfl) (fun st=>by kernel_rfl) (nofun) (fun q hq=>by
  simp only[List.mem_cons,List.not_mem_nil,or_false]at hq
  rcases hq with rfl|rfl
  ·exact blk_cell hR4 (i:=0) rfl
  ·exact blk_cell hR4 (i:=1) rfl)).mono fun g6 w6 hd6=>?_
 obtain⟨fr6,rfl,rfl,hL⟩:=hd6
 exact⟨fr6,_,rfl,hL,f4,a,b,rfl,hA.keepOff hR3 kp own,hB.keepOff hR3 kp own⟩
end
noncomputable def q5(l:List Nat):Code:=pc (bodyOf Try.f5) l
theorem ent5:enterA Try.prog 5 [.opq 0] .normal=.ok ⟨5,28,entT 5 [.opq 0],[.code (bodyOf Try.f5)],[],.run,.normal⟩:=by kernel_rfl
theorem ret5:RetC 5 28 2:=fun st=>by kernel_rfl
noncomputable def q18(l:List Nat):Code:=pc (bodyOf Try.f18) l
theorem ent18:enterA Try.prog 18 [.opq 0] .normal=.ok ⟨18,5,entT 18 [.opq 0],[.code (bodyOf Try.f18)],[],.run,.normal⟩:=by kernel_rfl
theorem ret18:RetC 18 5 2:=fun st=>by kernel_rfl
noncomputable def q19(l:List Nat):Code:=pc (bodyOf Try.f19) l
theorem ent19:enterA Try.prog 19 [.opq 0] .normal=.ok ⟨19,41,entT 19 [.opq 0],[.code (bodyOf Try.f19)],[],.run,.normal⟩:=by kernel_rfl
theorem ret19:RetC 19 41 2:=fun st=>by kernel_rfl
theorem lg1:Pc 18 5 [.code (q18 [])] ([(0,i64 (v 1))]) [] [] [] 10 [] [2] [.code .ret] [.bool (.cmp .gtr (v 1) (.lit 2147483647))] []:=⟨fun st=>by kernel_rfl,fun st=>by kernel_rfl,by kernel_rfl,of_decide_eq_true (by kernel_rfl)⟩
theorem sz1ff:Pc 19 41 [.code (q19 [])] ([(0,.agg [.slice (some ⟨(.dyn 50),(v 53)⟩) (v 51) (v 52),.slice (some ⟨(.dyn 60),(v 66)⟩) (v 67) (v 68)])]) [] [] [] 23 [100] [1,3,4] [.code (q19 [1,1,0,1,0,0]),.inLoop (q19 [1,1,0,1,0,0]),.inBlock 0,.code (q19 [1,1,1])] [ptr0 100,i64 (.op .add .i64 (.tn (v 51)) (.tn (v 67))),i64 (.lit 0)] [(100,.cells [.slice (some ⟨(.dyn 50),(v 53)⟩) (v 51) (v 52),.slice (some ⟨(.dyn 60),(v 66)⟩) (v 67) (v 68)] 25)]:=⟨fun st=>by kernel_rfl,fun st=>by kernel_rfl,by kernel_rfl,of_decide_eq_true (by kernel_rfl)⟩
theorem sz1tf:Pc 19 41 [.code (q19 [])] ([(0,.agg [nilA,.slice (some ⟨(.dyn 60),(v 66)⟩) (v 67) (v 68)])]) [] [] [] 23 [100] [1,3,4] [.code (q19 [1,1,0,1,0,0]),.inLoop (q19 [1,1,0,1,0,0]),.inBlock 0,.code (q19 [1,1,1])] [ptr0 100,i64 (.op .add .i64 (.lit 0) (.tn (v 67))),i64 (.lit 0)] [(100,.cells [nilA,.slice (some ⟨(.dyn 60),(v 66)⟩) (v 67) (v 68)] 25)]:=⟨fun st=>by kernel_rfl,fun st=>by kernel_rfl,by kernel_rfl,of_decide_eq_true (by kernel_rfl)⟩
theorem sz1ft:Pc 19 41 [.code (q19 [])] ([(0,.agg [.slice (some ⟨(.dyn 50),(v 53)⟩) (v 51) (v 52),nilA])]) [] [] [] 23 [100] [1,3,4] [.code (q19 [1,1,0,1,0,0]),.inLoop (q19 [1,1,0,1,0,0]),.inBlock 0,.code (q19 [1,1,1])] [ptr0 100,i64 (.op .add .i64 (.tn (v 51)) (.lit 0)),i64 (.lit 0)] [(100,.cells [.slice (some ⟨(.dyn 50),(v 53)⟩) (v 51) (v 52),nilA] 25)]:=⟨fun st=>by kernel_rfl,fun st=>by kernel_rfl,by kernel_rfl,of_decide_eq_true (by kernel_rfl)⟩
theorem sz1tt:Pc 19 41 [.code (q19 [])] ([(0,.agg [nilA,nilA])]) [] [] [] 23 [100] [1,3,4] [.code (q19 [1,1,0,1,0,0]),.inLoop (q19 [1,1,0,1,0,0]),.inBlock 0,.code (q19 [1,1,1])] [ptr0 100,i64 (.lit 0),i64 (.lit 0)] [(100,.cells [nilA,nilA] 25)]:=⟨fun st=>by kernel_rfl,fun st=>by kernel_rfl,by kernel_rfl,of_decide_eq_true (by kernel_rfl)⟩
theorem sz2(y:Bool):Pc 19 41 [.code (q19 [1,1,0,1,0,0]),.inLoop (q19 [1,1,0,1,0,0]),.inBlock 0,.code (q19 [1,1,1])] ([(1,ptr0 64),(3,i64 (v 7)),(4,i64 (v 10)),(0,.opq 0),(2,.opq 2),(5,.opq 5),(6,.opq 6),(7,.opq 7),(8,.opq 8),(9,.opq 9),(10,.opq 10),(11,.opq 11),(12,.opq 12),(13,.opq 13),(14,.opq 14),(15,.opq 15),(16,.opq 16),(17,.opq 17),(18,.opq 18),(19,.opq 19),(20,.opq 20),(21,.opq 21),(22,.opq 22),(23,.opq 23),(24,.opq 24),(25,.opq 25),(26,.opq 26),(27,.opq 27),(28,.opq 28),(29,.opq 29),(30,.opq 30),(31,.opq 31),(32,.opq 32),(33,.opq 33),(34,.opq 34),(35,.opq 35),(36,.opq 36),(37,.opq 37),(38,.opq 38),(39,.opq 39),(40,.opq 40)]) [((.cmp .lss (v 10) (.tn (v 51))),true),((.cmp .leq (.lit 0) (v 10)),true),((.cmp .lss (v 10) (.lit 0)),false),((.cmp .geq (v 10) (.tn (v 51))),false),((.cmp .leq (v 7) (.lit 2147483647)),true)] [(⟨(.dyn 64),(.lit 0)⟩,.slice (some ⟨(.dyn 50),(v 53)⟩) (v 51) (v 52)),(⟨(.dyn 50),(.plus (.tn (v 53)) (.times (.tn (v 10)) (.lit 3)))⟩,ss 1),(⟨(.dyn 50),(.plus (.tn (.plus (.tn (v 53)) (.times (.tn (v 10)) (.lit 3)))) (.lit 1))⟩,slZ y 70 73 71 72)] [] 25 [] [1,3,4] [.code (q19 [1,1,0,1,0,0]),.inLoop (q19 [1,1,0,1,0,0]),.inBlock 0,.code (q19 [1,1,1])] [ptr0 64,i64 (.op .add .i64 (.op .add .i64 (v 7) (.slen (.var 1))) (lnZ y 71)),i64 (.op .add .i64 (v 10) (.lit 1))] []:=Pc.full (fun st=>by cases y<;>kernel_rfl) (by cases y<;>kernel_rfl) (by cases y<;>kernel_rfl) (by cases y<;>kernel_rfl) (of_decide_eq_true (by kernel_rfl))
theorem sz3(z:Bool):Pc 19 41 [.code (q19 [1,1,0,1,0,0]),.inLoop (q19 [1,1,0,1,0,0]),.inBlock 0,.code (q19 [1,1,1])] ([(1,ptr0 64),(3,i64 (v 7)),(4,i64 (v 10))]) [((.cmp .lss (v 10) (lnZ z 51)),false)] [(⟨(.dyn 64),(.lit 0)⟩,slZ z 50 53 51 52)] [] 20 [] [2] [.code .ret] [i64 (v 7)] []:=⟨fun st=>by cases z<;>kernel_rfl,fun st=>by cases z<;>kernel_rfl,by cases z<;>kernel_rfl,of_decide_eq_true (by kernel_rfl)⟩
theorem sz4:Pc 19 41 [.code (q19 [1,1,0,1,0,0]),.inLoop (q19 [1,1,0,1,0,0]),.inBlock 0,.code (q19 [1,1,1])] ([(1,ptr0 64),(3,i64 (v 7)),(4,i64 (v 10))]) [((.cmp .lss (v 10) (.tn (v 51))),true),((.cmp .leq (v 7) (.lit 2147483647)),false)] [(⟨(.dyn 64),(.lit 0)⟩,.slice (some ⟨(.dyn 50),(v 53)⟩) (v 51) (v 52))] [] 20 [] [2] [.code .ret] [i64 (v 7)] []:=⟨fun st=>by kernel_rfl,fun st=>by kernel_rfl,by kernel_rfl,of_decide_eq_true (by kernel_rfl)⟩
theorem wd1(z:Bool):Pc 5 28 [.code (q5 [])] ([(0,.agg [slZ z 50 53 51 52,.opq 9])]) [] [] [] 9 [100] [1,4] [.inRegion (opsOf (q5 [1,0,0])) [1,2,3,4,5,6,7,8],.code (q5 [1,0,1]),.code (q5 [1,1])] [ptr0 100,.agg [slZ z 50 53 51 52,.opq 9]] [(100,.cells [slZ z 50 53 51 52,.opq 9] 25)]:=⟨fun st=>by cases z<;>kernel_rfl,fun st=>by cases z<;>kernel_rfl,by cases z<;>kernel_rfl,of_decide_eq_true (by kernel_rfl)⟩
theorem wd2:OpC 28 (opsOf (q5 [1,0,0])) 1 [(4,.opq 4)] 19 [.opq 4] 5:=⟨fun st=>by kernel_rfl,fun st=>by kernel_rfl,fun st=>by kernel_rfl,by kernel_rfl,by decide,rfl⟩
theorem wd3:OpC 28 (opsOf (q5 [1,0,0])) 2 [(5,.opq 5)] 18 [.opq 5] 6:=⟨fun st=>by kernel_rfl,fun st=>by kernel_rfl,fun st=>by kernel_rfl,by kernel_rfl,by decide,rfl⟩
theorem wd4:Pc 5 28 [.inRegion (opsOf (q5 [1,0,0])) [3,4,5,6,7,8],.code (q5 [1,0,1]),.code (q5 [1,1])] ([(1,ptr0 64),(6,TB)]) [] [] [] 12 [] [2] [.code .ret,.code (q5 [1,1])] [TB] []:=⟨fun st=>by kernel_rfl,fun st=>by kernel_rfl,by kernel_rfl,of_decide_eq_true (by kernel_rfl)⟩
theorem wd5:Pc 5 28 [.inRegion (opsOf (q5 [1,0,0])) [3,4,5,6,7,8],.code (q5 [1,0,1]),.code (q5 [1,1])] ([(1,ptr0 64),(6,FB)]) [((.cmp .gtr (.tn (v 51)) (.lit 256)),true)] [(⟨(.dyn 64),(.lit 0)⟩,.slice (some ⟨(.dyn 50),(v 53)⟩) (v 51) (v 52))] [] 12 [] [2] [.code .ret,.code (q5 [1,1])] [TB] []:=⟨fun st=>by kernel_rfl,fun st=>by kernel_rfl,by kernel_rfl,of_decide_eq_true (by kernel_rfl)⟩
theorem wd6(z:Bool):Pc 5 28 [.inRegion (opsOf (q5 [1,0,0])) [3,4,5,6,7,8],.code (q5 [1,0,1]),.code (q5 [1,1])] ([(1,ptr0 64),(6,FB)]) [((.cmp .gtr (lnZ z 51) (.lit 256)),false)] [(⟨(.dyn 64),(.lit 0)⟩,slZ z 50 53 51 52)] [] 16 [] [1,3] [.code (q5 [1,1,0,1,0,0]),.inLoop (q5 [1,1,0,1,0,0]),.inBlock 0,.code (q5 [1,1,1])] [ptr0 64,i64 (.lit 0)] []:=⟨fun st=>by cases z<;>kernel_rfl,fun st=>by cases z<;>kernel_rfl,by cases z<;>kernel_rfl,of_decide_eq_true (by kernel_rfl)⟩
theorem wd7true:Pc 5 28 [.code (q5 [1,1,0,1,0,0]),.inLoop (q5 [1,1,0,1,0,0]),.inBlock 0,.code (q5 [1,1,1])] ([(1,ptr0 64),(3,i64 (v 10))]) [((.cmp .lss (v 10) (.tn (v 51))),true),((.cmp .leq (.lit 0) (v 10)),true),((.cmp .lss (v 10) (.lit 0)),false),((.cmp .geq (v 10) (.tn (v 51))),false),((.cmp .gtr (.tn (v 71)) (.lit 1024)),true)] [(⟨(.dyn 64),(.lit 0)⟩,.slice (some ⟨(.dyn 50),(v 53)⟩) (v 51) (v 52)),(⟨(.dyn 50),(.plus (.tn (.plus (.tn (v 53)) (.times (.tn (v 10)) (.lit 3)))) (.lit 1))⟩,.slice (some ⟨(.dyn 70),(v 73)⟩) (v 71) (v 72))] [] 29 [] [2] [.code .ret,.inBlock 1,.code (q5 [1,1,0,1,0,0,1,1]),.inLoop (q5 [1,1,0,1,0,0]),.inBlock 0,.code (q5 [1,1,1])] [TB] []:=⟨fun st=>by kernel_rfl,fun st=>by kernel_rfl,by kernel_rfl,of_decide_eq_true (by kernel_rfl)⟩
theorem wd7false(y:Bool):Pc 5 28 [.code (q5 [1,1,0,1,0,0]),.inLoop (q5 [1,1,0,1,0,0]),.inBlock 0,.code (q5 [1,1,1])] ([(1,ptr0 64),(3,i64 (v 10))]) [((.cmp .lss (v 10) (.tn (v 51))),true),((.cmp .leq (.lit 0) (v 10)),true),((.cmp .lss (v 10) (.lit 0)),false),((.cmp .geq (v 10) (.tn (v 51))),false),((.cmp .gtr (lnZ y 71) (.lit 1024)),false)] [(⟨(.dyn 64),(.lit 0)⟩,.slice (some ⟨(.dyn 50),(v 53)⟩) (v 51) (v 52)),(⟨(.dyn 50),(.plus (.tn (.plus (.tn (v 53)) (.times (.tn (v 10)) (.lit 3)))) (.lit 1))⟩,slZ y 70 73 71 72)] [] 33 [] [1,3] [.code (q5 [1,1,0,1,0,0]),.inLoop (q5 [1,1,0,1,0,0]),.inBlock 0,.code (q5 [1,1,1])] [ptr0 64,i64 (.op .add .i64 (v 10) (.lit 1))] []:=⟨fun st=>by cases y<;>kernel_rfl,fun st=>by cases y<;>kernel_rfl,by cases y<;>kernel_rfl,of_decide_eq_true (by kernel_rfl)⟩
theorem wd7w(a:Option Addr)(c:Nat):Pc 5 28 [.code (q5 [1,1,0,1,0,0]),.inLoop (q5 [1,1,0,1,0,0]),.inBlock 0,.code (q5 [1,1,1])] ([(1,ptr0 64),(3,i64 (v 10))]) [((.cmp .lss (v 10) (.tn (v 51))),true),((.cmp .leq (.lit 0) (v 10)),true),((.cmp .lss (v 10) (.lit 0)),false),((.cmp .geq (v 10) (.tn (v 51))),false),((.cmp .gtr (.lit 0) (.lit 1024)),false)] [(⟨(.dyn 64),(.lit 0)⟩,.slice (some ⟨(.dyn 50),(v 53)⟩) (v 51) (v 52)),(⟨(.dyn 50),(.plus (.tn (.plus (.tn (v 53)) (.times (.tn (v 10)) (.lit 3)))) (.lit 1))⟩,.raw (.slice a 0 c))] [] 33 [] [1,3] [.code (q5 [1,1,0,1,0,0]),.inLoop (q5 [1,1,0,1,0,0]),.inBlock 0,.code (q5 [1,1,1])] [ptr0 64,i64 (.op .add .i64 (v 10) (.lit 1))] []:=⟨fun st=>by kernel_rfl,fun st=>by kernel_rfl,by kernel_rfl,of_decide_eq_true (by kernel_rfl)⟩
theorem wd9(z:Bool):Pc 5 28 [.code (q5 [1,1,0,1,0,0]),.inLoop (q5 [1,1,0,1,0,0]),.inBlock 0,.code (q5 [1,1,1])] ([(1,ptr0 64),(3,i64 (v 10))]) [((.cmp .lss (v 10) (lnZ z 51)),false)] [(⟨(.dyn 64),(.lit 0)⟩,slZ z 50 53 51 52)] [] 15 [] [2] [.code .ret] [FB] []:=⟨fun st=>by cases z<;>kernel_rfl,fun st=>by cases z<;>kernel_rfl,by cases z<;>kernel_rfl,of_decide_eq_true (by kernel_rfl)⟩
theorem sw1:Pc 19 41 [.code (q19 [1,1,0,1,0,0]),.inLoop (q19 [1,1,0,1,0,0]),.inBlock 0,.code (q19 [1,1,1])] ([(1,ptr0 64),(3,i64 (v 7)),(4,i64 (v 10))]) [((.cmp .lss (v 10) (.tn (v 51))),true),((.cmp .leq (.lit 0) (v 10)),true),((.cmp .lss (v 10) (.lit 0)),false),((.cmp .geq (v 10) (.tn (v 51))),false),((.cmp .leq (v 7) (.lit 2147483647)),true)] [(⟨(.dyn 64),(.lit 0)⟩,.slice (some ⟨(.dyn 50),(v 53)⟩) (v 51) (v 52)),(⟨(.dyn 50),(.plus (.tn (v 53)) (.times (.tn (v 10)) (.lit 3)))⟩,.ss (.var 1)),(⟨(.dyn 50),(.plus (.tn (.plus (.tn (v 53)) (.times (.tn (v 10)) (.lit 3)))) (.lit 1))⟩,.opq 70)] [] 17 [] [1,3,4] [.code (q19 [1,1,0,1,0,0,1,0,0]),.inBlock 1,.code (q19 [1,1,0,1,0,0,1,1]),.inLoop (q19 [1,1,0,1,0,0]),.inBlock 0,.code (q19 [1,1,1])] [ptr0 64,i64 (v 7),i64 (v 10)] []:=⟨fun st=>by kernel_rfl,fun st=>by kernel_rfl,by kernel_rfl,of_decide_eq_true (by kernel_rfl)⟩
theorem sw_0:OpV 41 (opsOf (q19 [1,1,0,1,0,0,1,0,0])) 0 [] [] [(3,i64 (v 7))] (i64 (v 7)) 23:=⟨fun st=>by kernel_rfl,fun st=>by kernel_rfl,fun st=>by kernel_rfl,by kernel_rfl,rfl⟩
theorem sw_1:OpV 41 (opsOf (q19 [1,1,0,1,0,0,1,0,0])) 1 [] [] [(1,ptr0 64)] (ptr0 64) 24:=⟨fun st=>by kernel_rfl,fun st=>by kernel_rfl,fun st=>by kernel_rfl,by kernel_rfl,rfl⟩
theorem sw_2:OpV 41 (opsOf (q19 [1,1,0,1,0,0,1,0,0])) 2 [] [(⟨(.dyn 64),(.lit 0)⟩,.slice (some ⟨(.dyn 50),(v 53)⟩) (v 51) (v 52))] [(24,ptr0 64)] (.slice (some ⟨(.dyn 50),(v 53)⟩) (v 51) (v 52)) 25:=⟨fun st=>by kernel_rfl,fun st=>by kernel_rfl,fun st=>by kernel_rfl,by kernel_rfl,rfl⟩
theorem sw_3:OpV 41 (opsOf (q19 [1,1,0,1,0,0,1,0,0])) 3 [] [] [(4,i64 (v 10))] (i64 (v 10)) 26:=⟨fun st=>by kernel_rfl,fun st=>by kernel_rfl,fun st=>by kernel_rfl,by kernel_rfl,rfl⟩
theorem sw_4:OpV 41 (opsOf (q19 [1,1,0,1,0,0,1,0,0])) 4 [((.cmp .lss (v 10) (.tn (v 51))),true),((.cmp .leq (.lit 0) (v 10)),true),((.cmp .lss (v 10) (.lit 0)),false),((.cmp .geq (v 10) (.tn (v 51))),false)] [] [(25,.slice (some ⟨(.dyn 50),(v 53)⟩) (v 51) (v 52)),(26,i64 (v 10))] (.ptr (some ⟨(.dyn 50),(.plus (.tn (v 53)) (.times (.tn (v 10)) (.lit 3)))⟩)) 27:=⟨fun st=>by kernel_rfl,fun st=>by kernel_rfl,fun st=>by kernel_rfl,by kernel_rfl,rfl⟩
theorem sw_5:OpV 41 (opsOf (q19 [1,1,0,1,0,0,1,0,0])) 5 [] [] [(27,.ptr (some ⟨(.dyn 50),(.plus (.tn (v 53)) (.times (.tn (v 10)) (.lit 3)))⟩))] (.ptr (some ⟨(.dyn 50),(.plus (.tn (v 53)) (.times (.tn (v 10)) (.lit 3)))⟩)) 28:=⟨fun st=>by kernel_rfl,fun st=>by kernel_rfl,fun st=>by kernel_rfl,by kernel_rfl,rfl⟩
theorem sw_6:OpV 41 (opsOf (q19 [1,1,0,1,0,0,1,0,0])) 6 [] [(⟨(.dyn 50),(.plus (.tn (v 53)) (.times (.tn (v 10)) (.lit 3)))⟩,.ss (.var 1))] [(28,.ptr (some ⟨(.dyn 50),(.plus (.tn (v 53)) (.times (.tn (v 10)) (.lit 3)))⟩))] (.ss (.var 1)) 29:=⟨fun st=>by kernel_rfl,fun st=>by kernel_rfl,fun st=>by kernel_rfl,by kernel_rfl,rfl⟩
theorem sw_7:OpV 41 (opsOf (q19 [1,1,0,1,0,0,1,0,0])) 7 [] [] [(29,.ss (.var 1))] (i64 (.slen (.var 1))) 30:=⟨fun st=>by kernel_rfl,fun st=>by kernel_rfl,fun st=>by kernel_rfl,by kernel_rfl,rfl⟩
theorem sw_8:OpV 41 (opsOf (q19 [1,1,0,1,0,0,1,0,0])) 8 [] [] [(23,i64 (v 7)),(30,i64 (v 8))] (i64 (.op .add .i64 (v 7) (v 8))) 31:=⟨fun st=>by kernel_rfl,fun st=>by kernel_rfl,fun st=>by kernel_rfl,by kernel_rfl,rfl⟩
theorem sw_9:OpV 41 (opsOf (q19 [1,1,0,1,0,0,1,0,0])) 9 [] [] [(1,ptr0 64)] (ptr0 64) 32:=⟨fun st=>by kernel_rfl,fun st=>by kernel_rfl,fun st=>by kernel_rfl,by kernel_rfl,rfl⟩
theorem sw_10:OpV 41 (opsOf (q19 [1,1,0,1,0,0,1,0,0])) 10 [] [(⟨(.dyn 64),(.lit 0)⟩,.slice (some ⟨(.dyn 50),(v 53)⟩) (v 51) (v 52))] [(32,ptr0 64)] (.slice (some ⟨(.dyn 50),(v 53)⟩) (v 51) (v 52)) 33:=⟨fun st=>by kernel_rfl,fun st=>by kernel_rfl,fun st=>by kernel_rfl,by kernel_rfl,rfl⟩
theorem sw_11:OpV 41 (opsOf (q19 [1,1,0,1,0,0,1,0,0])) 11 [] [] [(4,i64 (v 10))] (i64 (v 10)) 34:=⟨fun st=>by kernel_rfl,fun st=>by kernel_rfl,fun st=>by kernel_rfl,by kernel_rfl,rfl⟩
theorem sw_12:OpV 41 (opsOf (q19 [1,1,0,1,0,0,1,0,0])) 12 [((.cmp .lss (v 10) (.tn (v 51))),true),((.cmp .leq (.lit 0) (v 10)),true),((.cmp .lss (v 10) (.lit 0)),false),((.cmp .geq (v 10) (.tn (v 51))),false)] [] [(33,.slice (some ⟨(.dyn 50),(v 53)⟩) (v 51) (v 52)),(34,i64 (v 10))] (.ptr (some ⟨(.dyn 50),(.plus (.tn (v 53)) (.times (.tn (v 10)) (.lit 3)))⟩)) 35:=⟨fun st=>by kernel_rfl,fun st=>by kernel_rfl,fun st=>by kernel_rfl,by kernel_rfl,rfl⟩
theorem sw_13:OpV 41 (opsOf (q19 [1,1,0,1,0,0,1,0,0])) 13 [] [] [(35,.ptr (some ⟨(.dyn 50),(.plus (.tn (v 53)) (.times (.tn (v 10)) (.lit 3)))⟩))] (.ptr (some ⟨(.dyn 50),(.plus (.tn (.plus (.tn (v 53)) (.times (.tn (v 10)) (.lit 3)))) (.lit 1))⟩)) 36:=⟨fun st=>by kernel_rfl,fun st=>by kernel_rfl,fun st=>by kernel_rfl,by kernel_rfl,rfl⟩
theorem sw_14:OpV 41 (opsOf (q19 [1,1,0,1,0,0,1,0,0])) 14 [] [(⟨(.dyn 50),(.plus (.tn (.plus (.tn (v 53)) (.times (.tn (v 10)) (.lit 3)))) (.lit 1))⟩,.opq 70)] [(36,.ptr (some ⟨(.dyn 50),(.plus (.tn (.plus (.tn (v 53)) (.times (.tn (v 10)) (.lit 3)))) (.lit 1))⟩))] (.opq 70) 37:=⟨fun st=>by kernel_rfl,fun st=>by kernel_rfl,fun st=>by kernel_rfl,by kernel_rfl,rfl⟩
theorem sw_15(a:Option Addr)(c:Nat):OpV 41 (opsOf (q19 [1,1,0,1,0,0,1,0,0])) 15 [] [] [(37,.raw (.slice a 0 c))] (i64 (.lit 0)) 38:=⟨fun st=>by kernel_rfl,fun st=>by kernel_rfl,fun st=>by kernel_rfl,by kernel_rfl,rfl⟩
theorem sw_16:OpV 41 (opsOf (q19 [1,1,0,1,0,0,1,0,0])) 16 [] [] [(31,i64 (v 8)),(38,i64 (v 9))] (i64 (.op .add .i64 (v 8) (v 9))) 39:=⟨fun st=>by kernel_rfl,fun st=>by kernel_rfl,fun st=>by kernel_rfl,by kernel_rfl,rfl⟩
theorem sw_17:OpV 41 (opsOf (q19 [1,1,0,1,0,0,1,0,0])) 17 [] [] [(39,i64 (v 8))] (i64 (v 8)) 3:=⟨fun st=>by kernel_rfl,fun st=>by kernel_rfl,fun st=>by kernel_rfl,by kernel_rfl,rfl⟩
theorem sw18:Pc 19 41 [.inRegion (opsOf (q19 [1,1,0,1,0,0,1,0,0])) [],.inBlock 1,.code (q19 [1,1,0,1,0,0,1,1]),.inLoop (q19 [1,1,0,1,0,0]),.inBlock 0,.code (q19 [1,1,1])] ([(1,ptr0 64),(3,i64 (v 7)),(4,i64 (v 10))]) [] [] [] 8 [] [1,3,4] [.code (q19 [1,1,0,1,0,0]),.inLoop (q19 [1,1,0,1,0,0]),.inBlock 0,.code (q19 [1,1,1])] [ptr0 64,i64 (v 7),i64 (.op .add .i64 (v 10) (.lit 1))] []:=⟨fun st=>by kernel_rfl,fun st=>by kernel_rfl,by kernel_rfl,of_decide_eq_true (by kernel_rfl)⟩
noncomputable abbrev dW:Array Oper:=opsOf (q19 [1,1,0,1,0,0,1,0,0])
noncomputable abbrev SzT:List Item:=[.inBlock 1,.code (q19 [1,1,0,1,0,0,1,1]),.inLoop (q19 [1,1,0,1,0,0]),.inBlock 0,.code (q19 [1,1,1])]
def nW(i:Nat):Nat:=if i=17 then 200 else i+23
def vW(X A o c L i:Nat)(s:Int)(nm:ByteArray)(a:Option Addr)(c' j:Nat)(v:Value):Prop:=match j with
 |0=>v=iV s
 |1=>v=ptrV X
 |2=>v=slV A o L c
 |3=>v=iV i
 |4=>v=.pointer (some ⟨A,o+i*3,none⟩)
 |5=>v=.pointer (some ⟨A,o+i*3,none⟩)
 |6=>v=.string nm
 |7=>∃n,v=iV n
 |8=>∃n,v=iV n
 |9=>v=ptrV X
 |10=>v=slV A o L c
 |11=>v=iV i
 |12=>v=.pointer (some ⟨A,o+i*3,none⟩)
 |13=>v=.pointer (some ⟨A,o+i*3+1,none⟩)
 |14=>v=.slice a 0 c'
 |15=>v=iV 0
 |_=>∃n,v=iV n
section
variable {w w0:World}{cs:List Frame}{fr:Frame}
theorem sw_step{X A o c L i:Nat}{s:Int}{nm:ByteArray}{a:Option Addr}{c':Nat}{k:List Item}(hX:w0.cell? ⟨X,0,none⟩=some (slV A o L c))(c0:w0.cell? ⟨A,o+i*3,none⟩=some (.string nm))(c1:w0.cell? ⟨A,o+i*3+1,none⟩=some (.slice a 0 c'))(hlt:i<L):
  ∀j,j<18->Nat.blt j 17=true->∀(l:List Nat) (w:World) (fr:Frame) (lv:List (Nat×Value)),Fresh w0 w->FA 19 41 (.inRegion dW (j::l)::k) [] .normal lv fr->(∀x∈[(1,ptrV X),(3,iV s),(4,iV i)],x∈lv)->(∀p∈preN dW j,∃v,(nW p,v)∈lv∧vW X A o c L i s nm a c' p v)->
   Goes (G fr cs) w fun g' w'=>∃fr' v,g'=G fr' cs∧Fresh w w'∧vW X A o c L i s nm a c' j v∧FA 19 41 (.inRegion dW l::k) [] .normal (lvPut (nW j) v lv) fr':=by
 intro j hj he l w fr lv f hf hb hp
 have b1:((1,ptrV X):Nat×Value)∈lv:=hb _ (by simp)
 have b3:((3,iV s):Nat×Value)∈lv:=hb _ (by simp)
 have b4:((4,iV i):Nat×Value)∈lv:=hb _ (by simp)
 have one:∀{q:Nat×Value} {k:Nat} {v:Value},(k,v)∈lv->q∈[(k,v)]->q∈lv:=fun h hq=>by
  obtain rfl:=List.mem_singleton.1 hq
  exact h
 have he:=Nat.blt_eq.mp he
 obtain⟨ρ,hρ⟩:∃ρ:Env,ρ=Go.Proofs.Ytmobbajggkjpgaa.SX.mkS [(51,L),(52,c),(53,o),(10,i),(7,s)] [(64,X),(50,A)] [(70,.slice a 0 c')] [(1,nm)]:=⟨_,rfl⟩
 have lt:=ltB_ok (ρ:=ρ) (i:=10) (n:=51) (I:=i) (N:=L) (by rw[hρ];rfl) (by rw[hρ];rfl) hlt
 rcases(by omega:j=0∨j=1∨j=2∨j=3∨j=4∨j=5∨j=6∨j=7∨j=8∨j=9∨j=10∨j=11∨j=12∨j=13∨j=14∨j=15∨j=16)with rfl|rfl|rfl|rfl|rfl|rfl|rfl|rfl|rfl|rfl|rfl|rfl|rfl|rfl|rfl|rfl|rfl
 ·exact sw_0.goM ρ hf (by decide) (fun q hq=>by rw[hρ]at hq;exact one b3 hq) trivial trivial (by rw[hρ];rfl)
 ·exact sw_1.goM ρ hf (by decide) (fun q hq=>by rw[hρ]at hq;exact one b1 hq) trivial trivial (by rw[hρ];rfl)
 ·obtain⟨v1,q1,e1⟩:=hp 1 (pin (by kernel_rfl))
  have e1:v1=ptrV X:=e1
  subst e1
  exact sw_2.goM ρ hf (by decide) (fun q hq=>by rw[hρ]at hq;exact one q1 hq) trivial ⟨by rw[hρ];exact f.cell hX,trivial⟩ (by rw[hρ];rfl)
 ·exact sw_3.goM ρ hf (by decide) (fun q hq=>by rw[hρ]at hq;exact one b4 hq) trivial trivial (by rw[hρ];rfl)
 ·obtain⟨v2,q2,e2⟩:=hp 2 (pin (by kernel_rfl))
  have e2:v2=slV A o L c:=e2
  subst e2
  obtain⟨v3,q3,e3⟩:=hp 3 (pin (by kernel_rfl))
  have e3:v3=iV i:=e3
  subst e3
  exact sw_4.goM ρ hf (by decide) (fun q hq=>by
   rw[hρ]at hq
   rcases List.mem_cons.1 hq with rfl|hq
   ·exact q2
   ·exact one q3 hq) lt trivial (by rw[hρ];rfl)
 ·obtain⟨v4,q4,e4⟩:=hp 4 (pin (by kernel_rfl))
  have e4:v4=.pointer (some ⟨A,o+i*3,none⟩):=e4
  subst e4
  exact sw_5.goM ρ hf (by decide) (fun q hq=>by rw[hρ]at hq;exact one q4 hq) trivial trivial (by rw[hρ];rfl)
 ·obtain⟨v5,q5,e5⟩:=hp 5 (pin (by kernel_rfl))
  have e5:v5=.pointer (some ⟨A,o+i*3,none⟩):=e5
  subst e5
  exact sw_6.goM ρ hf (by decide) (fun q hq=>by rw[hρ]at hq;exact one q5 hq) trivial ⟨by rw[hρ];exact f.cell c0,trivial⟩ (by rw[hρ];rfl)
 ·obtain⟨v6,q6,e6⟩:=hp 6 (pin (by kernel_rfl))
  have e6:v6=.string nm:=e6
  subst e6
  refine(sw_7.goM ρ hf (by decide) (fun q hq=>by rw[hρ]at hq;exact one q6 hq) trivial trivial rfl).mono fun g' w' hd=>?_
  obtain⟨fr',v',h1,h2,h3,h4⟩:=hd
  exact⟨fr',_,h1,h2,⟨_,h3⟩,h4⟩
 ·obtain⟨v0,q0,e0⟩:=hp 0 (pin (by kernel_rfl))
  have e0:v0=iV s:=e0
  subst e0
  obtain⟨v7,q7,n7,e7⟩:=hp 7 (pin (by kernel_rfl))
  subst e7
  refine(sw_8.goM (mkE [(7,s),(8,n7)] [] []) hf (by decide) (fun q hq=>by
   rcases List.mem_cons.1 hq with rfl|hq
   ·exact q0
   ·exact one q7 hq) trivial trivial rfl).mono fun g' w' hd=>?_
  obtain⟨fr',v',h1,h2,h3,h4⟩:=hd
  exact⟨fr',_,h1,h2,⟨_,h3⟩,h4⟩
 ·exact sw_9.goM ρ hf (by decide) (fun q hq=>by rw[hρ]at hq;exact one b1 hq) trivial trivial (by rw[hρ];rfl)
 ·obtain⟨v9,q9,e9⟩:=hp 9 (pin (by kernel_rfl))
  have e9:v9=ptrV X:=e9
  subst e9
  exact sw_10.goM ρ hf (by decide) (fun q hq=>by rw[hρ]at hq;exact one q9 hq) trivial ⟨by rw[hρ];exact f.cell hX,trivial⟩ (by rw[hρ];rfl)
 ·exact sw_11.goM ρ hf (by decide) (fun q hq=>by rw[hρ]at hq;exact one b4 hq) trivial trivial (by rw[hρ];rfl)
 ·obtain⟨v10,q10,e10⟩:=hp 10 (pin (by kernel_rfl))
  have e10:v10=slV A o L c:=e10
  subst e10
  obtain⟨v11,q11,e11⟩:=hp 11 (pin (by kernel_rfl))
  have e11:v11=iV i:=e11
  subst e11
  exact sw_12.goM ρ hf (by decide) (fun q hq=>by
   rw[hρ]at hq
   rcases List.mem_cons.1 hq with rfl|hq
   ·exact q10
   ·exact one q11 hq) lt trivial (by rw[hρ];rfl)
 ·obtain⟨v12,q12,e12⟩:=hp 12 (pin (by kernel_rfl))
  have e12:v12=.pointer (some ⟨A,o+i*3,none⟩):=e12
  subst e12
  exact sw_13.goM ρ hf (by decide) (fun q hq=>by rw[hρ]at hq;exact one q12 hq) trivial trivial (by rw[hρ];rfl)
 ·obtain⟨v13,q13,e13⟩:=hp 13 (pin (by kernel_rfl))
  have e13:v13=.pointer (some ⟨A,o+i*3+1,none⟩):=e13
  subst e13
  exact sw_14.goM ρ hf (by decide) (fun q hq=>by rw[hρ]at hq;exact one q13 hq) trivial ⟨by rw[hρ];exact f.cell c1,trivial⟩ (by rw[hρ];rfl)
 ·obtain⟨v14,q14,e14⟩:=hp 14 (pin (by kernel_rfl))
  have e14:v14=.slice a 0 c':=e14
  subst e14
  exact(sw_15 a c').goM (mkE [] [] []) hf (by decide) (fun q hq=>one q14 hq) trivial trivial rfl
 ·obtain⟨v8,q8,n8,e8⟩:=hp 8 (pin (by kernel_rfl))
  subst e8
  obtain⟨v15,q15,e15⟩:=hp 15 (pin (by kernel_rfl))
  have e15:v15=iV 0:=e15
  subst e15
  refine(sw_16.goM (mkE [(8,n8),(9,0)] [] []) hf (by decide) (fun q hq=>by
   rcases List.mem_cons.1 hq with rfl|hq
   ·exact q8
   ·exact one q15 hq) trivial trivial rfl).mono fun g' w' hd=>?_
  obtain⟨fr',v',h1,h2,h3,h4⟩:=hd
  exact⟨fr',_,h1,h2,⟨_,h3⟩,h4⟩
theorem sz_weird{X A o c L i:Nat}{s:Int}{nm:ByteArray}{a:Option Addr}{c':Nat}(hX:w.cell? ⟨X,0,none⟩=some (slV A o L c))(c0:w.cell? ⟨A,o+i*3,none⟩=some (.string nm))(c1:w.cell? ⟨A,o+i*3+1,none⟩=some (.slice a 0 c'))(hlt:i<L)(hs:s≤2147483647)(hf:FA 19 41 [.code (q19 [1,1,0,1,0,0]),.inLoop (q19 [1,1,0,1,0,0]),.inBlock 0,.code (q19 [1,1,1])] [] .normal [(1,ptrV X),(3,iV s),(4,iV i)] fr):
  Goes (G fr cs) w fun g' w'=>∃fr1 n1,g'=G fr1 cs∧Fresh w w'∧FA 19 41 [.code (q19 [1,1,0,1,0,0]),.inLoop (q19 [1,1,0,1,0,0]),.inBlock 0,.code (q19 [1,1,1])] [] .normal [(1,ptrV X),(3,iV n1),(4,iV (iop .add .i64 i 1))] fr1:=by
 obtain⟨ρ,hρ⟩:∃ρ:Env,ρ=Go.Proofs.Ytmobbajggkjpgaa.SX.mkS [(51,L),(52,c),(53,o),(10,i),(7,s)] [(64,X),(50,A)] [(70,.slice a 0 c')] [(1,nm)]:=⟨_,rfl⟩
 refine(sw1.go ρ hf (by rw[hρ];rfl) (AllB.app (ltB_ok (i:=10) (n:=51) (I:=i) (N:=L) (by rw[hρ];rfl) (by rw[hρ];rfl) hlt) ⟨by rw[hρ];exact decide_eq_true hs,trivial⟩) ⟨by rw[hρ];exact hX,by rw[hρ];exact c0,by rw[hρ];exact c1,trivial⟩).trans fun g1 w1 hd=>?_
 obtain⟨I,B,fr1,rfl,f1,F1,_⟩:=hd
 have F1':FA 19 41 (.code (q19 [1,1,0,1,0,0,1,0,0])::SzT) [] .normal [(1,ptrV X),(3,iV s),(4,iV i)] fr1:=by rw[hρ]at F1;exact F1
 obtain⟨id,hid⟩:=draw_is (c:=q19 [1,1,0,1,0,0,1,0,0]) (by kernel_rfl)
 rw[hid]at F1'
 refine(draw_in F1').trans fun g2 w2 hd2=>?_
 obtain⟨ls,fr2,rfl,f2,hsch,F2⟩:=hd2
 refine(draw_up (b:=[(1,ptrV X),(3,iV s),(4,iV i)]) (nm:=nW) (val:=fun j v _=>vW X A o c L i s nm a c' j v) (early:=fun j=>Nat.blt j 17) (late:=[17]) (n:=18) (w0:=w1) (by kernel_rfl) (by kernel_rfl) (by kernel_rfl) (by kernel_rfl) (by kernel_rfl) (by kernel_rfl) (by kernel_rfl) (List.pairwise_singleton _ _) (fun _ _ _ _ h _=>h) (sw_step (f1.cell hX) (f1.cell c0) (f1.cell c1) hlt) ls [] f2 (fun i hi=>by cases hi) hsch ⟨_,F2,fun x hx=>hx,fun i hi=>by cases hi⟩).trans fun g3 w3 hd3=>?_
 obtain⟨fr3,lv,rfl,f3,F3,hb,hv⟩:=hd3
 obtain⟨v16,q16,n16,e16⟩:=hv 16 (by decide) rfl
 subst e16
 have F3':FA 19 41 (.inRegion dW [17]::SzT) [] .normal [(1,ptrV X),(4,iV i),(39,iV n16)] fr3:=F3.sub fun x hx=>by
  simp only[List.mem_cons,List.not_mem_nil,or_false]at hx
  rcases hx with rfl|rfl|rfl
  ·exact hb _ (by simp)
  ·exact hb _ (by simp)
  ·exact q16
 refine(sw_17.go (mkE [(8,n16)] [] []) F3' (by decide) rfl trivial trivial).trans fun g4 w4 hd4=>?_
 obtain⟨fr4,rfl,f4,F4⟩:=hd4
 refine(sw18.go (mkE [(7,n16),(10,i)] [(64,X)] []) F4 rfl trivial trivial).mono fun g5 w5 hd5=>?_
 obtain⟨I,B,fr5,rfl,f5,F5,_⟩:=hd5
 exact⟨fr5,n16,rfl,f1.trans (f3.trans (f4.trans f5)),F5⟩
end
theorem FA.more{fn nt:Nat}{t:List Item}{ds:List Deferred}{kind:CallKind}{lv:List (Nat×Value)}{fr:Frame}(hf:FA fn nt t ds kind lv fr):∃f:Nat->Value,∀ks:List Nat,FA fn nt t ds kind (lv++ks.map fun i=>(i,f i)) fr:=by
 obtain⟨⟨tm,rfl,h2,h3⟩,h4,h5⟩:=hf
 exact⟨fun i=>tm.getD i undef,fun ks=>⟨⟨tm,rfl,h2,fun p hp=>(List.mem_append.1 hp).elim (h3 p) fun hp=>by
  obtain⟨i,_,rfl⟩:=List.mem_map.1 hp
  rfl⟩,h4,h5⟩⟩
noncomputable abbrev SzH:List Item:=[.code (q19 [1,1,0,1,0,0]),.inLoop (q19 [1,1,0,1,0,0]),.inBlock 0,.code (q19 [1,1,1])]
noncomputable abbrev WdH:List Item:=[.code (q5 [1,1,0,1,0,0]),.inLoop (q5 [1,1,0,1,0,0]),.inBlock 0,.code (q5 [1,1,1])]
section
variable {w w0:World}{cs:List Frame}{fr:Frame}
theorem sz_loop{z:Bool}{A o c X:Nat}{os:Value}{L:List LetD}(hz:z=true->L=[])(hel:∀i x,L[i]?=some x->LetIn w0 A (o+i*3) x)(hlen:L.length≤100000000000000)(hX:(Blk.obj 25 [hdV z A o L.length c,os]).at Try.prog w0 X):
  ∀(k i:Nat) (s:Int) {w:World} {cs:List Frame} {fr:Frame},i+k=L.length->Fresh w0 w->FA 19 41 SzH [] .normal [(1,ptrV X),(3,iV s),(4,iV i)] fr->
  Goes (G fr cs) w fun g' w'=>∃fr' n,g'=G fr' cs∧Fresh w0 w'∧(s>2147483647->n=s)∧Leav 19 fr' w' (iV n)
 |0,i,s,w,cs,fr,hi,fw,hf=>by
  obtain⟨ρ,hρ⟩:∃ρ:Env,ρ=mkE [(51,L.length),(52,c),(53,o),(10,i),(7,s)] [(64,X),(50,A)] []:=⟨_,rfl⟩
  have ez:(slZ z 50 53 51 52).ev ρ=hdV z A o L.length c:=by rw[hρ];cases z<;>rfl
  refine((sz3 z).go ρ hf (by rw[hρ];rfl) ⟨by
    rw[hρ]
    cases z with
    |false=>exact decide_eq_false (by show ¬((i:Int)<((L.length:Nat):Int));omega)
    |true=>exact decide_eq_false (by show ¬((i:Int)<0);omega),trivial⟩ ⟨by
    rw[ez,hρ]
    exact fw.cell (blk_cell hX (i:=0) rfl),trivial⟩).trans fun g1 w1 hd=>?_
  obtain⟨I,B,fr1,rfl,f1,F1,_⟩:=hd
  rw[hρ]at F1
  refine(leave1 ret19 F1 rfl).mono fun g2 w2 hd2=>?_
  obtain⟨fr2,rfl,rfl,hL⟩:=hd2
  exact⟨fr2,s,rfl,fw.trans f1,fun _=>rfl,hL⟩
 |k+1,i,s,w,cs,fr,hi,fw,hf=>by
  have hlt:i<L.length:=by omega
  obtain⟨x,hx⟩:∃x,L[i]?=some x:=⟨_,List.getElem?_eq_getElem hlt⟩
  cases z with
  |true=>
   rw[hz rfl]at hlt
   simp only[List.length_nil]at hlt
   omega
  |false=>
  have hc0:w.cell? ⟨X,0,none⟩=some (slV A o L.length c):=fw.cell (blk_cell hX (i:=0) rfl)
  by_cases hs:s≤2147483647
  ·obtain⟨ts,c0,c1,c2,hN⟩:=((hel i x hx).keep fw).ex
   obtain⟨f,hmore⟩:=hf.more
   have hf2:=hmore ((List.range 41).filter fun i=>!([1,3,4].contains i))
   have key:Goes (G fr cs) w fun g' w'=>∃fr1 n1,g'=G fr1 cs∧Fresh w w'∧FA 19 41 SzH [] .normal [(1,ptrV X),(3,iV n1),(4,iV ((i+1:Nat):Int))] fr1:=by
    rcases hN.ex with hN|⟨hx0,a',c',rfl⟩
    ·obtain⟨y,At,ot,ct,rfl,hy,hyc,hyel⟩:=hN.hd
     obtain⟨ρ,hρ⟩:∃ρ:Env,ρ={(Go.Proofs.Ytmobbajggkjpgaa.SX.mkS [(51,L.length),(52,c),(53,o),(10,i),(7,s),(71,x.tree.length),(72,ct),(73,ot)] [(64,X),(50,A),(70,At)] [] [(1,x.name)]:Env)with v:=f}:=⟨_,rfl⟩
     have ey:(slZ y 70 73 71 72).ev ρ=hdV y At ot x.tree.length ct:=by rw[hρ];cases y<;>rfl
     refine((sz2 y).go ρ hf2 (by rw[hρ];unfold Tell;kernel_rfl) (AllB.app (ltB_ok (i:=10) (n:=51) (I:=i) (N:=L.length) (by rw[hρ];rfl) (by rw[hρ];rfl) hlt) ⟨by rw[hρ];exact decide_eq_true hs,trivial⟩) ⟨by rw[hρ];exact hc0,by rw[hρ];exact c0,by rw[ey,hρ];exact c1,trivial⟩).mono fun g1 w1 hd=>?_
     obtain⟨I,B,fr1,rfl,f1,F1,_⟩:=hd
     refine⟨fr1,(IE.op .add .i64 (.op .add .i64 (v 7) (.slen (.var 1))) (lnZ y 71)).ev (mixE ρ I B),rfl,f1,?_⟩
     rw[<-inc (i:=i) (by omega)]
     rw[hρ]at F1⊢
     exact F1
    ·rw[<-inc (i:=i) (by omega)]
     exact sz_weird hc0 c0 c1 hlt hs hf
   refine key.trans fun g1 w1 hd=>?_
   obtain⟨fr1,n1,rfl,f1,F1'⟩:=hd
   refine(sz_loop (z:=false) (c:=c) (os:=os) (fun h=>by cases h) hel hlen hX k (i+1) n1 (by omega) (fw.trans f1) F1').mono fun g2 w2 hd2=>?_
   obtain⟨fr2,n,h1,h2,h3,h4⟩:=hd2
   exact⟨fr2,n,h1,h2,fun h=>by omega,h4⟩
  ·obtain⟨ρ,hρ⟩:∃ρ:Env,ρ=mkE [(51,L.length),(52,c),(53,o),(10,i),(7,s)] [(64,X),(50,A)] []:=⟨_,rfl⟩
   refine(sz4.go ρ hf (by rw[hρ];rfl) ⟨by rw[hρ];exact decide_eq_true (by show(i:Int)<((L.length:Nat):Int);omega),by rw[hρ];exact decide_eq_false hs,trivial⟩ ⟨by rw[hρ];exact hc0,trivial⟩).trans fun g1 w1 hd=>?_
   obtain⟨I,B,fr1,rfl,f1,F1,_⟩:=hd
   rw[hρ]at F1
   refine(leave1 ret19 F1 rfl).mono fun g2 w2 hd2=>?_
   obtain⟨fr2,rfl,rfl,hL⟩:=hd2
   exact⟨fr2,s,rfl,fw.trans f1,fun _=>rfl,hL⟩
theorem size_all{x:Value}{F:FlowD}(h:FlowIn w x F)(hlen:F.lets.length+F.outs.length≤100000000000000):Ans 19 #[x] w fun v w'=>Fresh w w'∧∃n,v=iV n∧(n≤2147483647->F.outs.length≤2147483647):=by
 obtain⟨ls,os,rfl,hl,ho⟩:=h
 obtain⟨z,A,o,c,hls,hz,hzc,hel⟩:=hl.ex
 obtain⟨y,A',o',c',hos,hy,hyc,hyel⟩:=ho.ex
 refine ans_of fun cs=>?_
 have E:=enter1 ent19 rfl (.agg #[ls,os])
 obtain⟨ρ,hρ⟩:∃ρ:Env,ρ=mkE [(51,F.lets.length),(52,c),(53,o),(67,F.outs.length),(68,c'),(66,o')] [(50,A),(60,A')] []:=⟨_,rfl⟩
 have go:Goes (G (Frame.enter Try.prog 19 #[.agg #[ls,os]] .normal) cs) w fun g' w'=>∃fr' X,g'=G fr' cs∧Fresh w w'∧(Blk.obj 25 [hdV z A o F.lets.length c,os]).at Try.prog w' X∧FA 19 41 SzH [] .normal [(1,ptrV X),(3,iV ((F.lets.length+F.outs.length:Nat):Int)),(4,iV (0:Nat))] fr':=by
  have es:iop .add .i64 (F.lets.length:Int) (F.outs.length:Int)=((F.lets.length+F.outs.length:Nat):Int):=by
   show IntKind.wrap .i64 _=_
   rw[I64_wrap (by omega)]
   omega
  cases z with
  |false=>
   cases y with
   |false=>
    refine(sz1ff.go ρ E (by rw[hls,hos,hρ];rfl) trivial trivial).mono fun g1 w1 hd=>?_
    obtain⟨I,B,fr1,rfl,f1,F1,bl,inj⟩:=hd
    rw[hρ]at F1 bl
    refine⟨fr1,B 100,rfl,f1,by rw[hos];exact bl.1.2,?_⟩
    rw[<-es];exact F1
   |true=>
    refine(sz1ft.go ρ E (by rw[hls,hos,hρ];rfl) trivial trivial).mono fun g1 w1 hd=>?_
    obtain⟨I,B,fr1,rfl,f1,F1,bl,inj⟩:=hd
    rw[hρ]at F1 bl
    refine⟨fr1,B 100,rfl,f1,by rw[hos];exact bl.1.2,?_⟩
    rw[<-es,hy rfl];exact F1
  |true=>
   have e0:=hz rfl
   cases y with
   |false=>
    refine(sz1tf.go ρ E (by rw[hls,hos,hρ];rfl) trivial trivial).mono fun g1 w1 hd=>?_
    obtain⟨I,B,fr1,rfl,f1,F1,bl,inj⟩:=hd
    rw[hρ]at F1 bl
    refine⟨fr1,B 100,rfl,f1,by rw[hos];exact bl.1.2,?_⟩
    rw[<-es,e0];exact F1
   |true=>
    refine(sz1tt.go ρ E (by rw[hls,hos,hρ];rfl) trivial trivial).mono fun g1 w1 hd=>?_
    obtain⟨I,B,fr1,rfl,f1,F1,bl,inj⟩:=hd
    rw[hρ]at F1 bl
    refine⟨fr1,B 100,rfl,f1,by rw[hos];exact bl.1.2,?_⟩
    rw[e0,hy rfl];exact F1
 refine go.trans fun g1 w1 hd=>?_
 obtain⟨fr1,X,rfl,f1,hX,F1⟩:=hd
 refine(sz_loop (w0:=w1) (os:=os) hz (fun i x hi=>(hel i x hi).keep f1) (by omega) hX F.lets.length 0 _ (by omega) (Fresh.refl _) F1).mono fun g2 w2 hd2=>?_
 obtain⟨fr2,n,rfl,f2,hn,hL⟩:=hd2
 exact⟨fr2,_,rfl,hL,f1.trans f2,n,rfl,fun h=>by omega⟩
theorem long_all{n:Int}:Ans 18 #[iV n] w fun v w'=>Fresh w w'∧v=.bool (decide (n>2147483647)):=
 (lg1.ans ret18 (mkE [(1,n)] [] []) (enter1 ent18 rfl (iV n)) rfl trivial trivial).mono fun v w' ⟨f,I,B,e,_⟩=>⟨f,e⟩
theorem wd_loop{z:Bool}{A o c X:Nat}{os:Value}{L:List LetD}(hz:z=true->L=[])(hel:∀i x,L[i]?=some x->LetIn w0 A (o+i*3) x)(hlen:L.length≤100000000000000)(hX:(Blk.obj 25 [hdV z A o L.length c,os]).at Try.prog w0 X):
  ∀(k i:Nat) {w:World} {cs:List Frame} {fr:Frame},i+k=L.length->(∀x∈L.take i,x.tree.length≤1024)->Fresh w0 w->FA 5 28 WdH [] .normal [(1,ptrV X),(3,iV i)] fr->
  Goes (G fr cs) w fun g' w'=>∃fr' b,g'=G fr' cs∧Fresh w0 w'∧(b=false->∀x∈L,x.tree.length≤1024)∧Leav 5 fr' w' (.bool b)
 |0,i,w,cs,fr,hi,ht,fw,hf=>by
  obtain⟨ρ,hρ⟩:∃ρ:Env,ρ=mkE [(51,L.length),(52,c),(53,o),(10,i)] [(64,X),(50,A)] []:=⟨_,rfl⟩
  have ez:(slZ z 50 53 51 52).ev ρ=hdV z A o L.length c:=by rw[hρ];cases z<;>rfl
  refine((wd9 z).go ρ hf (by rw[hρ];rfl) ⟨by
    rw[hρ]
    cases z with
    |false=>exact decide_eq_false (by show ¬((i:Int)<((L.length:Nat):Int));omega)
    |true=>exact decide_eq_false (by show ¬((i:Int)<0);omega),trivial⟩ ⟨by
    rw[ez,hρ]
    exact fw.cell (blk_cell hX (i:=0) rfl),trivial⟩).trans fun g1 w1 hd=>?_
  obtain⟨I,B,fr1,rfl,f1,F1,_⟩:=hd
  rw[hρ]at F1
  refine(leave1 ret5 F1 rfl).mono fun g2 w2 hd2=>?_
  obtain⟨fr2,rfl,rfl,hL⟩:=hd2
  rw[List.take_of_length_le (by omega)]at ht
  exact⟨fr2,false,rfl,fw.trans f1,fun _=>ht,hL⟩
 |k+1,i,w,cs,fr,hi,ht,fw,hf=>by
  have hlt:i<L.length:=by omega
  obtain⟨x,hx⟩:∃x,L[i]?=some x:=⟨_,List.getElem?_eq_getElem hlt⟩
  cases z with
  |true=>
   rw[hz rfl]at hlt
   simp only[List.length_nil]at hlt
   omega
  |false=>
  have hc0:w.cell? ⟨X,0,none⟩=some (slV A o L.length c):=fw.cell (blk_cell hX (i:=0) rfl)
  obtain⟨ts,c0,c1,c2,hN⟩:=((hel i x hx).keep fw).ex
  rcases hN.ex with hN|⟨hx0,a',c',rfl⟩
  rotate_left
  ·obtain⟨ρ,hρ⟩:∃ρ:Env,ρ=mkE [(51,L.length),(52,c),(53,o),(10,i)] [(64,X),(50,A)] []:=⟨_,rfl⟩
   refine((wd7w a' c').go ρ hf (by rw[hρ];rfl) (AllB.app (ltB_ok (ρ:=ρ) (i:=10) (n:=51) (I:=i) (N:=L.length) (by rw[hρ];rfl) (by rw[hρ];rfl) hlt) ⟨rfl,trivial⟩) ⟨by rw[hρ];exact hc0,by rw[hρ];exact c1,trivial⟩).trans fun g1 w1 hd=>?_
   obtain⟨I,B,fr1,rfl,f1,F1,_⟩:=hd
   rw[hρ]at F1
   refine wd_loop (z:=false) (c:=c) (os:=os) (fun h=>by cases h) hel hlen hX k (i+1) (by omega) (fun x' hx'=>?_) (fw.trans f1) ?_
   ·rw[List.take_add_one,hx]at hx'
    rcases List.mem_append.1 hx' with h|h
    ·exact ht x' h
    ·have h:x'=x:=by simpa using h
     rw[h,hx0];exact Nat.zero_le _
   ·rw[<-inc (i:=i) (by omega)]
    exact F1
  obtain⟨y,At,ot,ct,rfl,hy,hyc,hyel⟩:=hN.hd
  obtain⟨ρ,hρ⟩:∃ρ:Env,ρ=mkE [(51,L.length),(52,c),(53,o),(10,i),(71,x.tree.length),(72,ct),(73,ot)] [(64,X),(50,A),(70,At)] []:=⟨_,rfl⟩
  have ey:(slZ y 70 73 71 72).ev ρ=hdV y At ot x.tree.length ct:=by rw[hρ];cases y<;>rfl
  have en:(lnZ y 71).ev ρ=(x.tree.length:Int):=by
   rw[hρ]
   cases y with
   |false=>rfl
   |true=>rw[hy rfl];rfl
  have bb:=ltB_ok (ρ:=ρ) (i:=10) (n:=51) (I:=i) (N:=L.length) (by rw[hρ];rfl) (by rw[hρ];rfl) hlt
  by_cases hb:x.tree.length>1024
  ·cases y with
   |true=>
    rw[hy rfl]at hb
    simp only[List.length_nil]at hb
    omega
   |false=>
   refine(wd7true.go ρ hf (by rw[hρ];rfl) (AllB.app bb ⟨by rw[hρ];exact decide_eq_true (by show((x.tree.length:Nat):Int)>1024;omega),trivial⟩) ⟨by rw[hρ];exact hc0,by rw[hρ];exact c1,trivial⟩).trans fun g1 w1 hd=>?_
   obtain⟨I,B,fr1,rfl,f1,F1,_⟩:=hd
   rw[hρ]at F1
   refine(leave1 ret5 F1 rfl).mono fun g2 w2 hd2=>?_
   obtain⟨fr2,rfl,rfl,hL⟩:=hd2
   exact⟨fr2,true,rfl,fw.trans f1,(fun h=>by cases h),hL⟩
  ·refine((wd7false y).go ρ hf (by rw[hρ];rfl) (AllB.app bb ⟨by
     show decide ((lnZ y 71).ev ρ>1024)=false
     rw[en]
     exact decide_eq_false (by omega),trivial⟩) ⟨by rw[hρ];exact hc0,by rw[ey,hρ];exact c1,trivial⟩).trans fun g1 w1 hd=>?_
   obtain⟨I,B,fr1,rfl,f1,F1,_⟩:=hd
   rw[hρ]at F1
   refine wd_loop (z:=false) (c:=c) (os:=os) (fun h=>by cases h) hel hlen hX k (i+1) (by omega) (fun x' hx'=>?_) (fw.trans f1) ?_
   ·rw[List.take_add_one,hx]at hx'
    rcases List.mem_append.1 hx' with h|h
    ·exact ht x' h
    ·have h:x'=x:=by simpa using h
     rw[h];omega
   ·rw[<-inc (i:=i) (by omega)]
    exact F1
theorem wide_all{x:Value}{F:FlowD}(h:FlowIn w x F)(hlen:F.lets.length+F.outs.length≤100000000000000):Ans 5 #[x] w fun v w'=>Fresh w w'∧∃b,v=.bool b∧(b=false->F.lets.length≤256∧F.outs.length≤2147483647∧∀x∈F.lets,x.tree.length≤1024):=by
 have h':=h
 obtain⟨ls,os,rfl,hl,ho⟩:=h
 obtain⟨z,A,o,c,hls,hz,hzc,hel⟩:=hl.ex
 refine ans_of fun cs=>?_
 obtain⟨ρ,hρ⟩:∃ρ:Env,ρ=mkE [(51,F.lets.length),(52,c),(53,o)] [(50,A)] [(9,os)]:=⟨_,rfl⟩
 have ez:∀I B,(slZ z 50 53 51 52).ev (mixE ρ I B)=ls:=fun I B=>by rw[hρ,hls];cases z<;>rfl
 refine((wd1 z).go ρ (enter1 ent5 rfl (.agg #[ls,os])) (by rw[hls,hρ];cases z<;>rfl) trivial trivial).trans fun g1 w1 hd=>?_
 obtain⟨I,B,fr1,rfl,f1,F1,bl,_⟩:=hd
 obtain⟨X,eX⟩:∃X,B 100=X:=⟨_,rfl⟩
 have hX:(Blk.obj 25 [ls,os]).at Try.prog w1 X:=by
  have h1:(Blk.obj 25 [(slZ z 50 53 51 52).ev (mixE ρ I B),os]).at Try.prog w1 (B 100):=by
   have:=bl.1.2
   rw[hρ]at this⊢
   exact this
  rw[ez,eX]at h1
  exact h1
 have F1':FA 5 28 (.inRegion (opsOf (q5 [1,0,0])) [1,2,3,4,5,6,7,8]::[.code (q5 [1,0,1]),.code (q5 [1,1])]) [] .normal [(1,ptrV X),(4,.agg #[ls,os])] fr1:=by
  have h1:FA 5 28 (.inRegion (opsOf (q5 [1,0,0])) [1,2,3,4,5,6,7,8]::[.code (q5 [1,0,1]),.code (q5 [1,1])]) [] .normal [(1,ptrV (B 100)),(4,.agg #[(slZ z 50 53 51 52).ev (mixE ρ I B),os])] fr1:=by
   rw[hρ]at F1⊢
   exact F1
  rw[ez,eX]at h1
  exact h1
 refine(wd2.go (mkE [] [] [(4,.agg #[ls,os])]) (Q:=fun v w'=>∃n,v=iV n∧(n≤2147483647->F.outs.length≤2147483647)) F1' rfl fun w' f2=>size_all (h'.keep (f1.trans f2)) hlen).trans fun g2 w2 hd2=>?_
 obtain⟨fr2,vv,rfl,f2,⟨n,rfl,hn⟩,F2⟩:=hd2
 refine(wd3.go (mkE [] [] [(5,iV n)]) (Q:=fun v w'=>v=.bool (decide (n>2147483647))) F2 rfl fun w' f3=>long_all).trans fun g3 w3 hd3=>?_
 obtain⟨fr3,vv,rfl,f3,rfl,F3⟩:=hd3
 have f13:=f1.trans (f2.trans f3)
 have hX3:=blk_keep hX (f2.trans f3)
 obtain⟨σ,hσ⟩:∃σ:Env,σ=mkE [(51,F.lets.length),(52,c),(53,o)] [(50,A),(64,X)] []:=⟨_,rfl⟩
 have es:(slZ z 50 53 51 52).ev σ=ls:=by rw[hσ,hls];cases z<;>rfl
 have en:(lnZ z 51).ev σ=(F.lets.length:Int):=by
  rw[hσ]
  cases z with
  |false=>rfl
  |true=>rw[hz rfl];rfl
 have fin:∀{k:List Item} {w4:World} {fr4:Frame},Fresh w w4->FA 5 28 (.code .ret::k) [] .normal [(2,.bool true)] fr4->Goes (G fr4 cs) w4 fun g' w'=>∃fr' v,g'=G fr' cs∧Leav 5 fr' w' v∧Fresh w w'∧∃b,v=.bool b∧(b=false->F.lets.length≤256∧F.outs.length≤2147483647∧∀x∈F.lets,x.tree.length≤1024):=fun{k w4 fr4} f4 F4=>by
  refine(leave1 ret5 F4 rfl).mono fun g6 w6 hd6=>?_
  obtain⟨fr6,rfl,rfl,hL⟩:=hd6
  exact⟨fr6,_,rfl,hL,f4,true,rfl,fun h=>by cases h⟩
 by_cases hlong:n>2147483647
 ·rw[decide_eq_true hlong]at F3
  refine(wd4.go σ F3 (by rw[hσ];rfl) trivial trivial).trans fun g4 w4 hd4=>?_
  obtain⟨I,B,fr4,rfl,f4,F4,_⟩:=hd4
  exact fin (f13.trans f4) F4
 ·rw[decide_eq_false hlong]at F3
  by_cases hbig:F.lets.length>256
  ·cases z with
   |true=>
    rw[hz rfl]at hbig
    simp only[List.length_nil]at hbig
    omega
   |false=>
   refine(wd5.go σ F3 (by rw[hσ];rfl) ⟨by rw[hσ];exact decide_eq_true (by show((F.lets.length:Nat):Int)>256;omega),trivial⟩ ⟨by
    rw[hσ]
    rw[hls]at hX3
    exact blk_cell hX3 (i:=0) rfl,trivial⟩).trans fun g4 w4 hd4=>?_
   obtain⟨I,B,fr4,rfl,f4,F4,_⟩:=hd4
   exact fin (f13.trans f4) F4
  ·refine((wd6 z).go σ F3 (by rw[hσ];rfl) ⟨by
     show decide ((lnZ z 51).ev σ>256)=false
     rw[en]
     exact decide_eq_false (by omega),trivial⟩ ⟨by
    rw[es,hσ]
    exact blk_cell hX3 (i:=0) rfl,trivial⟩).trans fun g4 w4 hd4=>?_
   obtain⟨I,B,fr4,rfl,f4,F4,_⟩:=hd4
   rw[hσ]at F4
   have f14:=f13.trans f4
   refine(wd_loop (w0:=w4) (c:=c) (os:=os) hz (fun i x hi=>(hel i x hi).keep f14) (by omega) (by rw[<-hls];exact blk_keep hX3 f4) F.lets.length 0 (by omega) (fun x hx=>by simp at hx) (Fresh.refl _) F4).mono fun g5 w5 hd5=>?_
   obtain⟨fr5,b,rfl,f5,hb,hL⟩:=hd5
   exact⟨fr5,_,rfl,hL,f14.trans f5,b,rfl,fun h=>⟨by omega,hn (by omega),hb h⟩⟩
end
noncomputable def q20(l:List Nat):Code:=pc (bodyOf Try.f20) l
theorem ent20:enterA Try.prog 20 [] .normal=.ok ⟨20,15,entT 20 [],[.code (bodyOf Try.f20)],[],.run,.normal⟩:=by kernel_rfl
noncomputable def q40(l:List Nat):Code:=pc (bodyOf Try.f40) l
theorem ent40:enterA Try.prog 40 [.opq 0] .normal=.ok ⟨40,9,entT 40 [.opq 0],[.code (bodyOf Try.f40)],[],.run,.normal⟩:=by kernel_rfl
theorem ret40:RetC 40 9 2:=fun st=>by kernel_rfl
noncomputable def q28(l:List Nat):Code:=pc (bodyOf Try.f28) l
theorem ent28:enterA Try.prog 28 [.opq 0] .normal=.ok ⟨28,30,entT 28 [.opq 0],[.code (bodyOf Try.f28)],[],.run,.normal⟩:=by kernel_rfl
theorem ret28:RetC 28 30 2:=fun st=>by kernel_rfl
noncomputable def q13(l:List Nat):Code:=pc (bodyOf Try.f13) l
theorem ent13:enterA Try.prog 13 [.opq 0,.opq 1] .normal=.ok ⟨13,31,entT 13 [.opq 0,.opq 1],[.code (bodyOf Try.f13)],[],.run,.normal⟩:=by kernel_rfl
theorem ret13:RetC 13 31 4:=fun st=>by kernel_rfl
theorem pr1:Pc 20 15 [.code (q20 [])] ([]) [] [] [] 30 [105,103,101,100] [0] [.code .ret] [ptr0 100] [(105,.cells [.str ⟨#[97]⟩,.slice (some ⟨(.dyn 101),(.lit 0)⟩) (.lit 1) (.lit 1),i64 (.lit 0),.str ⟨#[98]⟩,.slice (some ⟨(.dyn 103),(.lit 0)⟩) (.lit 3) (.lit 3),i64 (.lit 0)] 51),(103,.cells [i8 (.lit 4),i64 (.lit 0),i64 (.lit 2),i64 (.lit 0),i8 (.lit 2),i64 (.lit 0),i64 (.lit 0),i64 (.lit 0),i8 (.lit 1),i64 (.lit 2),i64 (.lit 0),i64 (.lit 0)] 75),(101,.cells [i8 (.lit 1),i64 (.lit 1),i64 (.lit 0),i64 (.lit 0)] 75),(100,.cells [.slice (some ⟨(.dyn 105),(.lit 0)⟩) (.lit 2) (.lit 2),nilA] 25)]:=⟨fun st=>by kernel_rfl,fun st=>by kernel_rfl,by kernel_rfl,of_decide_eq_true (by kernel_rfl)⟩
theorem cc1:Pc 40 9 [.code (q40 [])] ([(0,.slice (some ⟨(.dyn 50),(v 53)⟩) (v 51) (v 52))]) [] [] [] 11 [] [3,5,7] [.inRegion (opsOf (q40 [1,0])) [5,6],.code .ret] [.slice (some ⟨(.dyn 50),(v 53)⟩) (v 51) (v 52),i64 (.tn (v 51)),i64 (.tn (v 51))] []:=⟨fun st=>by kernel_rfl,fun st=>by kernel_rfl,by kernel_rfl,of_decide_eq_true (by kernel_rfl)⟩
theorem cc2:OpW 9 (opsOf (q40 [1,0])) 5 [] (.slice 23 (.tmp 3) none (some (.tmp 5)) (some (.tmp 7))) 23 (some 8):=⟨fun st=>by kernel_rfl,fun st=>by kernel_rfl,by kernel_rfl⟩
theorem cc3:Pc 40 9 [.inRegion (opsOf (q40 [1,0])) [6],.code .ret] ([(8,.opq 8)]) [] [] [] 2 [] [2] [.code .ret] [.opq 8] []:=⟨fun st=>by kernel_rfl,fun st=>by kernel_rfl,by kernel_rfl,of_decide_eq_true (by kernel_rfl)⟩
theorem ne1:Pc 28 30 [.code (q28 [])] ([(0,.agg [ss 1,.slice (some ⟨(.dyn 70),(.lit 0)⟩) (.lit 3) (.lit 3),i64 (v 4)])]) [] [(⟨(.dyn 70),(.lit 0)⟩,i8 (.lit 4)),(⟨(.dyn 70),(.lit 1)⟩,i64 (.lit 0)),(⟨(.dyn 70),(.lit 2)⟩,i64 (.lit 2)),(⟨(.dyn 70),(.lit 3)⟩,i64 (.lit 0)),(⟨(.dyn 70),(.lit 4)⟩,i8 (.lit 2)),(⟨(.dyn 70),(.lit 5)⟩,i64 (.lit 0)),(⟨(.dyn 70),(.lit 6)⟩,i64 (.lit 0)),(⟨(.dyn 70),(.lit 7)⟩,i64 (.lit 0)),(⟨(.dyn 70),(.lit 8)⟩,i8 (.lit 1)),(⟨(.dyn 70),(.lit 9)⟩,i64 (.lit 2)),(⟨(.dyn 70),(.lit 10)⟩,i64 (.lit 0)),(⟨(.dyn 70),(.lit 11)⟩,i64 (.lit 0))] [] 300 [105] [28] [.inRegion (opsOf (q28 [1,1,1,1,1,0])) [2,3],.code .ret] [.slice (some ⟨(.dyn 105),(.lit 0)⟩) (.lit 1) (v 105)] [(105,.row [i64 (.lit 0)] 3 (v 105))]:=⟨fun st=>by kernel_rfl,fun st=>by kernel_rfl,by kernel_rfl,of_decide_eq_true (by kernel_rfl)⟩
theorem ne2:OpC 30 (opsOf (q28 [1,1,1,1,1,0])) 2 [(28,.opq 28)] 40 [.opq 28] 29:=⟨fun st=>by kernel_rfl,fun st=>by kernel_rfl,fun st=>by kernel_rfl,by kernel_rfl,by decide,rfl⟩
theorem ne3:Pc 28 30 [.inRegion (opsOf (q28 [1,1,1,1,1,0])) [3],.code .ret] ([(29,.opq 29)]) [] [] [] 2 [] [2] [.code .ret] [.opq 29] []:=⟨fun st=>by kernel_rfl,fun st=>by kernel_rfl,by kernel_rfl,of_decide_eq_true (by kernel_rfl)⟩
noncomputable def q12(l:List Nat):Code:=pc (bodyOf Try.f12) l
theorem ent12:enterA Try.prog 12 [.opq 0] .normal=.ok ⟨12,34,entT 12 [.opq 0],[.code (bodyOf Try.f12)],[],.run,.normal⟩:=by kernel_rfl
theorem ret12:RetC2 12 34 2 3:=fun st=>by kernel_rfl
noncomputable def q27(l:List Nat):Code:=pc (bodyOf Try.f27) l
theorem ret27:RetC 27 41 5:=fun st=>by kernel_rfl
theorem nn1:Pc 13 31 [.code (q13 [])] ([(0,.agg [.slice (some ⟨(.dyn 50),(.lit 0)⟩) (.lit 2) (.lit 2),nilA]),(1,i64 (.lit 1))]) [] [] [] 9 [100] [1,2,8] [.inRegion (opsOf (q13 [1,0,0])) [1,2,3,4,5,6],.code (q13 [1,0,1]),.code (q13 [1,1])] [i64 (.lit 1),ptr0 100,.agg [.slice (some ⟨(.dyn 50),(.lit 0)⟩) (.lit 2) (.lit 2),nilA]] [(100,.cells [.slice (some ⟨(.dyn 50),(.lit 0)⟩) (.lit 2) (.lit 2),nilA] 25)]:=⟨fun st=>by kernel_rfl,fun st=>by kernel_rfl,by kernel_rfl,of_decide_eq_true (by kernel_rfl)⟩
theorem nn2:OpC 31 (opsOf (q13 [1,0,0])) 1 [(8,.opq 8)] 21 [.opq 8] 9:=⟨fun st=>by kernel_rfl,fun st=>by kernel_rfl,fun st=>by kernel_rfl,by kernel_rfl,by decide,rfl⟩
theorem nn3:Pc 13 31 [.inRegion (opsOf (q13 [1,0,0])) [2,3,4,5,6],.code (q13 [1,0,1]),.code (q13 [1,1])] ([(1,i64 (.lit 1)),(2,ptr0 64),(9,.tuple [i64 (.lit 0),i64 (.lit 0)])]) [] [(⟨(.dyn 50),(.lit 0)⟩,.str ⟨#[97]⟩),(⟨(.dyn 50),(.lit 1)⟩,.slice (some ⟨(.dyn 70),(.lit 0)⟩) (.lit 1) (.lit 1)),(⟨(.dyn 50),(.lit 2)⟩,i64 (.lit 0)),(⟨(.dyn 50),(.lit 3)⟩,.str ⟨#[98]⟩),(⟨(.dyn 50),(.lit 4)⟩,.slice (some ⟨(.dyn 71),(.lit 0)⟩) (.lit 3) (.lit 3)),(⟨(.dyn 50),(.lit 5)⟩,i64 (.lit 0)),(⟨(.dyn 70),(.lit 0)⟩,i8 (.lit 1)),(⟨(.dyn 70),(.lit 1)⟩,i64 (.lit 1)),(⟨(.dyn 70),(.lit 2)⟩,i64 (.lit 0)),(⟨(.dyn 70),(.lit 3)⟩,i64 (.lit 0)),(⟨(.dyn 71),(.lit 0)⟩,i8 (.lit 4)),(⟨(.dyn 71),(.lit 1)⟩,i64 (.lit 0)),(⟨(.dyn 71),(.lit 2)⟩,i64 (.lit 2)),(⟨(.dyn 71),(.lit 3)⟩,i64 (.lit 0)),(⟨(.dyn 71),(.lit 4)⟩,i8 (.lit 2)),(⟨(.dyn 71),(.lit 5)⟩,i64 (.lit 0)),(⟨(.dyn 71),(.lit 6)⟩,i64 (.lit 0)),(⟨(.dyn 71),(.lit 7)⟩,i64 (.lit 0)),(⟨(.dyn 71),(.lit 8)⟩,i8 (.lit 1)),(⟨(.dyn 71),(.lit 9)⟩,i64 (.lit 2)),(⟨(.dyn 71),(.lit 10)⟩,i64 (.lit 0)),(⟨(.dyn 71),(.lit 11)⟩,i64 (.lit 0)),(⟨(.dyn 64),(.lit 0)⟩,.slice (some ⟨(.dyn 50),(.lit 0)⟩) (.lit 2) (.lit 2))] [] 31 [] [29] [.inRegion (opsOf (q13 [1,1,0])) [5,6],.code .ret] [.agg [.str ⟨#[98]⟩,.slice (some ⟨(.dyn 71),(.lit 0)⟩) (.lit 3) (.lit 3),i64 (.lit 0)]] []:=⟨fun st=>by kernel_rfl,fun st=>by kernel_rfl,by kernel_rfl,of_decide_eq_true (by kernel_rfl)⟩
theorem nn4:OpC 31 (opsOf (q13 [1,1,0])) 5 [(29,.opq 29)] 28 [.opq 29] 30:=⟨fun st=>by kernel_rfl,fun st=>by kernel_rfl,fun st=>by kernel_rfl,by kernel_rfl,by decide,rfl⟩
theorem nn5:Pc 13 31 [.inRegion (opsOf (q13 [1,1,0])) [6],.code .ret] ([(30,.opq 30)]) [] [] [] 2 [] [4] [.code .ret] [.opq 30] []:=⟨fun st=>by kernel_rfl,fun st=>by kernel_rfl,by kernel_rfl,of_decide_eq_true (by kernel_rfl)⟩
noncomputable def prM:List (AA×AV):=[(⟨(.dyn 50),(.lit 0)⟩,.str ⟨#[97]⟩),(⟨(.dyn 50),(.lit 1)⟩,.slice (some ⟨(.dyn 70),(.lit 0)⟩) (.lit 1) (.lit 1)),(⟨(.dyn 50),(.lit 2)⟩,i64 (.lit 0)),(⟨(.dyn 50),(.lit 3)⟩,.str ⟨#[98]⟩),(⟨(.dyn 50),(.lit 4)⟩,.slice (some ⟨(.dyn 71),(.lit 0)⟩) (.lit 3) (.lit 3)),(⟨(.dyn 50),(.lit 5)⟩,i64 (.lit 0)),(⟨(.dyn 70),(.lit 0)⟩,i8 (.lit 1)),(⟨(.dyn 70),(.lit 1)⟩,i64 (.lit 1)),(⟨(.dyn 70),(.lit 2)⟩,i64 (.lit 0)),(⟨(.dyn 70),(.lit 3)⟩,i64 (.lit 0)),(⟨(.dyn 71),(.lit 0)⟩,i8 (.lit 4)),(⟨(.dyn 71),(.lit 1)⟩,i64 (.lit 0)),(⟨(.dyn 71),(.lit 2)⟩,i64 (.lit 2)),(⟨(.dyn 71),(.lit 3)⟩,i64 (.lit 0)),(⟨(.dyn 71),(.lit 4)⟩,i8 (.lit 2)),(⟨(.dyn 71),(.lit 5)⟩,i64 (.lit 0)),(⟨(.dyn 71),(.lit 6)⟩,i64 (.lit 0)),(⟨(.dyn 71),(.lit 7)⟩,i64 (.lit 0)),(⟨(.dyn 71),(.lit 8)⟩,i8 (.lit 1)),(⟨(.dyn 71),(.lit 9)⟩,i64 (.lit 2)),(⟨(.dyn 71),(.lit 10)⟩,i64 (.lit 0)),(⟨(.dyn 71),(.lit 11)⟩,i64 (.lit 0))]
noncomputable def prE(P A C:Nat):Env:=mkE [] [(50,P),(70,A),(71,C)] []
def pairV(P:Nat):Value:=.agg #[slV P 0 2 2,nilV]
def letA:LetD:=⟨⟨#[97]⟩,[⟨1,1,0,0⟩],0⟩
def letB:LetD:=⟨⟨#[98]⟩,[⟨4,0,2,0⟩,⟨2,0,0,0⟩,⟨1,2,0,0⟩],0⟩
def pairF:FlowD:=⟨[letA,letB],[]⟩
theorem pair_chk:chkF pairF=(0,0):=by kernel_rfl
theorem pair_plain:plainF pairF ⟨0,0,0,0⟩=(0,[(1,1),(1,3)]):=by kernel_rfl
theorem pair_fits:fitsL ⟨0,0,0,0⟩ [(1,1),(1,4)] pairF.lets 0=(30,1):=by kernel_rfl
theorem AllM.keep{ρ:Env}{w w':World}(f:Fresh w w'):∀{l:List (AA×AV)},AllM ρ w l->AllM ρ w' l
 |[],_=>trivial
 |p::r,h=>⟨f.cell h.1,AllM.keep f h.2⟩
section
variable {w w0:World}{cs:List Frame}{fr:Frame}
theorem pair_flow{P A C:Nat}(h:AllM (prE P A C) w prM):FlowAt w (pairV P) pairF:=by
 obtain⟨p0,p1,p2,p3,p4,p5,a0,a1,a2,a3,b0,b1,b2,b3,b4,b5,b6,b7,b8,b9,b10,b11,_⟩:=h
 refine⟨slV P 0 2 2,nilV,rfl,⟨false,P,0,2,rfl,(fun h=>by cases h),fun _=>Nat.le_refl _,fun i x hi=>?_⟩,⟨true,0,0,0,rfl,fun _=>rfl,(fun h=>by cases h),fun i n hi=>by cases hi⟩⟩
 match i,hi with
 |0,hi=>
  obtain rfl:letA=x:=Option.some.inj hi
  refine⟨slV A 0 1 1,p0,p1,p2,⟨.inr ⟨A,0,1,rfl,Nat.le_refl _,fun i n hi=>?_⟩⟩⟩
  match i,hi with
  |0,hi=>
   obtain rfl:(⟨1,1,0,0⟩:Nd)=n:=Option.some.inj hi
   exact⟨a0,a1,a2,a3⟩
  |i+1,hi=>cases hi
 |1,hi=>
  obtain rfl:letB=x:=Option.some.inj hi
  refine⟨slV C 0 3 3,p3,p4,p5,⟨.inr ⟨C,0,3,rfl,Nat.le_refl _,fun i n hi=>?_⟩⟩⟩
  match i,hi with
  |0,hi=>
   obtain rfl:(⟨4,0,2,0⟩:Nd)=n:=Option.some.inj hi
   exact⟨b0,b1,b2,b3⟩
  |1,hi=>
   obtain rfl:(⟨2,0,0,0⟩:Nd)=n:=Option.some.inj hi
   exact⟨b4,b5,b6,b7⟩
  |2,hi=>
   obtain rfl:(⟨1,2,0,0⟩:Nd)=n:=Option.some.inj hi
   exact⟨b8,b9,b10,b11⟩
  |i+3,hi=>cases hi
 |i+2,hi=>cases hi
theorem pair_all:Ans 20 #[] w fun v w'=>Fresh w w'∧∃P A C,v=pairV P∧AllM (prE P A C) w' prM:=by
 refine ans_of fun cs=>?_
 refine(pr1.go (mkE [] [] []) (enter0 ent20) rfl trivial trivial).trans fun g1 w1 hd=>?_
 obtain⟨I,B,fr1,rfl,f1,F1,bl,_⟩:=hd
 have hP:(Blk.obj 51 [.string ⟨#[97]⟩,slV (B 101) 0 1 1,iV 0,.string ⟨#[98]⟩,slV (B 103) 0 3 3,iV 0]).at Try.prog w1 (B 105):=bl.1.2
 have hC:(Blk.obj 75 [i8V 4,iV 0,iV 2,iV 0,i8V 2,iV 0,iV 0,iV 0,i8V 1,iV 2,iV 0,iV 0]).at Try.prog w1 (B 103):=bl.2.1.2
 have hA:(Blk.obj 75 [i8V 1,iV 1,iV 0,iV 0]).at Try.prog w1 (B 101):=bl.2.2.1.2
 have hR:(Blk.obj 25 [slV (B 105) 0 2 2,nilV]).at Try.prog w1 (B 100):=bl.2.2.2.1.2
 have F1':FA 20 15 (.code .ret::[]) [] .normal [(0,ptrV (B 100))] fr1:=F1
 refine(leave_at (ρ:=mkE [] [(62,B 100)] [(40,slV (B 105) 0 2 2),(41,nilV)]) (lA:=[(0,ptr0 62)]) (bs:=[]) (mem:=[(⟨.dyn 62,.lit 0⟩,.opq 40),(⟨.dyn 62,.lit 1⟩,.opq 41)]) F1' (a:=.agg [.opq 40,.opq 41]) (fun p hp=>by
  obtain rfl:=List.mem_singleton.1 hp
  exact lookV_mem rfl) (fun st=>by kernel_rfl) (nofun) (fun q hq=>by
  simp only[List.mem_cons,List.not_mem_nil,or_false]at hq
  rcases hq with rfl|rfl
  ·exact blk_cell hR (i:=0) rfl
  ·exact blk_cell hR (i:=1) rfl)).mono fun g6 w6 hd6=>?_
 obtain⟨fr6,rfl,rfl,hL⟩:=hd6
 exact⟨fr6,_,rfl,hL,f1,B 105,B 101,B 103,rfl,blk_cell hP (i:=0) rfl,blk_cell hP (i:=1) rfl,blk_cell hP (i:=2) rfl,blk_cell hP (i:=3) rfl,blk_cell hP (i:=4) rfl,blk_cell hP (i:=5) rfl,blk_cell hA (i:=0) rfl,blk_cell hA (i:=1) rfl,blk_cell hA (i:=2) rfl,blk_cell hA (i:=3) rfl,blk_cell hC (i:=0) rfl,blk_cell hC (i:=1) rfl,blk_cell hC (i:=2) rfl,blk_cell hC (i:=3) rfl,blk_cell hC (i:=4) rfl,blk_cell hC (i:=5) rfl,blk_cell hC (i:=6) rfl,blk_cell hC (i:=7) rfl,blk_cell hC (i:=8) rfl,blk_cell hC (i:=9) rfl,blk_cell hC (i:=10) rfl,blk_cell hC (i:=11) rfl,trivial⟩
theorem clip_op{t elem size:Nat}(hU:under? Try.prog t=.ok (.slice elem))(hS:sizeOf? Try.prog elem=.ok size){off n c:Nat}(hn:n≤c):sliceOp? Try.prog t (.slice (some ⟨.dyn 50,.lit (Int.ofNat off)⟩) (.lit (Int.ofNat n)) (.lit (Int.ofNat c))) none (some (.int .i64 (.lit (Int.ofNat n)))) (some (.int .i64 (.lit (Int.ofNat n))))=.ok (.slice (some ⟨.dyn 50,.lit (Int.ofNat off)⟩) (.lit (Int.ofNat n)) (.lit (Int.ofNat n))):=by
 unfold sliceOp?
 rw[hU]
 simp only[bind,Except.bind,litNat?,bounds?,bound?,high?,hS,pure,Except.pure]
 simp[hn,AA.add,addN]
theorem wq_clip{E:Value->World->Prop}{t elem size:Nat}(hU:under? Try.prog t=.ok (.slice elem))(hS:sizeOf? Try.prog elem=.ok size){A off n c:Nat}(hn:n≤c){Q:Value->World->Prop}(hq:Q (slV A off n n) w):
  wq Try.prog (fun _=>True) E (Instr.sliceAt t (slV A off n c) none (some (iV n)) (some (iV n))) Q w:=by
 let K:Ctx:=⟨Try.prog,{},fun _=>True,fun _=>True,True,fun _ _=>False⟩
 let ρ:Env:=mkE [] [(50,A)] []
 exact wq_sliceAt (K:=K) (ρ:=ρ) (w:=w) (clip_op (off:=off) hU hS hn) (Q:=Q) hq
theorem clip_all{B o n c:Nat}(h:n≤c):Ans 40 #[slV B o n c] w fun v w'=>Fresh w w'∧v=slV B o n n:=by
 refine ans_of fun cs=>?_
 refine(cc1.go (mkE [(51,n),(52,c),(53,o)] [(50,B)] []) (enter1 ent40 rfl (slV B o n c)) rfl trivial trivial).trans fun g1 w1 hd=>?_
 obtain⟨I,B',fr1,rfl,f1,F1,_⟩:=hd
 refine(cc2.go (R:=fun y w'=>y=slV B o n n∧w'=w1) (mkE [] [] []) F1 (by decide) rfl fun tm htm x' e1 e2=>?_).trans fun g2 w2 hd2=>?_
 ·unfold execOp
  simp only[e1,wq_bind,Option.map_some,Option.map_none]
  rw[htm 3 (slV B o n c) rfl,htm 5 (iV n) rfl,htm 7 (iV n) rfl]
  exact wq_clip intU intS h ⟨_,rfl,rfl,rfl⟩
 obtain⟨fr2,y,rfl,⟨rfl,rfl⟩,F2⟩:=hd2
 refine(cc3.go (mkE [] [] [(8,slV B o n n)]) F2 rfl trivial trivial).trans fun g3 w3 hd3=>?_
 obtain⟨I,B',fr3,rfl,f3,F3,_⟩:=hd3
 refine(leave1 ret40 F3 rfl).mono fun g6 w6 hd6=>?_
 obtain⟨fr6,rfl,rfl,hL⟩:=hd6
 exact⟨fr6,_,rfl,hL,f1.trans f3,rfl⟩
theorem needsB_all{P A C:Nat}(h:AllM (prE P A C) w prM):Ans 28 #[letV letB (slV C 0 3 3)] w fun v w'=>Fresh w w'∧∃B,w.heap.size≤B∧v=slV B 0 1 1∧w'.cell? ⟨B,0,none⟩=some (iV 0):=by
 obtain⟨p0,p1,p2,p3,p4,p5,a0,a1,a2,a3,b0,b1,b2,b3,b4,b5,b6,b7,b8,b9,b10,b11,_⟩:=h
 refine ans_of fun cs=>?_
 refine(ne1.go (Go.Proofs.Ytmobbajggkjpgaa.SX.mkS [(4,0)] [(70,C)] [] [(1,⟨#[98]⟩)]) (enter1 ent28 rfl (letV letB (slV C 0 3 3))) rfl trivial ⟨b0,b1,b2,b3,b4,b5,b6,b7,b8,b9,b10,b11,trivial⟩).trans fun g1 w1 hd=>?_
 obtain⟨I,B,fr1,rfl,f1,F1,bl,_⟩:=hd
 have hv:(Blk.vec 3 (I 105).toNat [iV 0]).at Try.prog w1 (B 105):=bl.1.2
 have gB:w.heap.size≤B 105:=bl.1.1
 have hc:1≤(I 105).toNat:=vec_cap hv
 refine(ne2.go (mkE [] [] [(28,slV (B 105) 0 1 (I 105).toNat)]) (Q:=fun v w'=>v=slV (B 105) 0 1 1) F1 rfl fun w' f2=>clip_all hc).trans fun g2 w2 hd2=>?_
 obtain⟨fr2,vv,rfl,f2,rfl,F2⟩:=hd2
 refine(ne3.go (mkE [] [] [(29,slV (B 105) 0 1 1)]) F2 rfl trivial trivial).trans fun g3 w3 hd3=>?_
 obtain⟨I',B',fr3,rfl,f3,F3,_⟩:=hd3
 refine(leave1 ret28 F3 rfl).mono fun g6 w6 hd6=>?_
 obtain⟨fr6,rfl,rfl,hL⟩:=hd6
 exact⟨fr6,_,rfl,hL,f1.trans (f2.trans f3),B 105,gB,rfl,(f2.trans f3).cell (Blk.at_cell hv rfl)⟩
theorem Needs_all{P A C:Nat}(h:AllM (prE P A C) w prM):Ans 13 #[pairV P,iV 1] w fun v w'=>Fresh w w'∧∃B,w.heap.size≤B∧v=slV B 0 1 1∧w'.cell? ⟨B,0,none⟩=some (iV 0):=by
 refine ans_of fun cs=>?_
 refine(nn1.go (mkE [] [(50,P)] []) (enter2 ent13 rfl (pairV P) (iV 1)) rfl trivial trivial).trans fun g1 w1 hd=>?_
 obtain⟨I,B,fr1,rfl,f1,F1,bl,_⟩:=hd
 obtain⟨X,eX⟩:∃X,B 100=X:=⟨_,rfl⟩
 have hX:(Blk.obj 25 [slV P 0 2 2,nilV]).at Try.prog w1 X:=by rw[<-eX];exact bl.1.2
 have F1':FA 13 31 (.inRegion (opsOf (q13 [1,0,0])) [1,2,3,4,5,6]::[.code (q13 [1,0,1]),.code (q13 [1,1])]) [] .normal [(1,iV 1),(2,ptrV X),(8,pairV P)] fr1:=by rw[<-eX];exact F1
 refine(nn2.go (mkE [] [] [(8,pairV P)]) (Q:=fun v w'=>v=.tuple #[iV 0,iV 0]) F1' rfl fun w' f2=>(check_all (pair_flow (h.keep (f1.trans f2))) (by decide) (by decide)).mono fun v w2 hd=>⟨hd.1,by
  have:=hd.2
  rw[pair_chk]at this
  exact this⟩).trans fun g2 w2 hd2=>?_
 obtain⟨fr2,vv,rfl,f2,rfl,F2⟩:=hd2
 have f12:=f1.trans f2
 have h2:=h.keep f12
 refine(nn3.go (mkE [] [(50,P),(64,X),(70,A),(71,C)] []) F2 rfl trivial (AllM.app (l:=prM) (l':=[(⟨.dyn 64,.lit 0⟩,.slice (some ⟨.dyn 50,.lit 0⟩) (.lit 2) (.lit 2))]) h2 ⟨f2.cell (blk_cell hX (i:=0) rfl),trivial⟩)).trans fun g3 w3 hd3=>?_
 obtain⟨I,B,fr3,rfl,f3,F3,_⟩:=hd3
 have f13:=f12.trans f3
 refine(nn4.go (mkE [] [] [(29,letV letB (slV C 0 3 3))]) (Q:=fun v w'=>∃wk B,Fresh w wk∧wk.heap.size≤B∧v=slV B 0 1 1∧w'.cell? ⟨B,0,none⟩=some (iV 0)) F3 rfl fun w' f4=>(needsB_all (h.keep (f13.trans f4))).mono fun v w2 hd=>⟨hd.1,by
  obtain⟨B,h1,h2,h3⟩:=hd.2
  exact⟨w',B,f13.trans f4,h1,h2,h3⟩⟩).trans fun g4 w4 hd4=>?_
 obtain⟨fr4,vv,rfl,f4,⟨wk,B4,fk,hB,rfl,hc⟩,F4⟩:=hd4
 refine(nn5.go (mkE [] [] [(30,slV B4 0 1 1)]) F4 rfl trivial trivial).trans fun g5 w5 hd5=>?_
 obtain⟨I',B',fr5,rfl,f5,F5,_⟩:=hd5
 refine(leave1 ret13 F5 rfl).mono fun g6 w6 hd6=>?_
 obtain⟨fr6,rfl,rfl,hL⟩:=hd6
 exact⟨fr6,_,rfl,hL,f13.trans (f4.trans f5),B4,Nat.le_trans fk.size hB,rfl,f5.cell hc⟩
end
theorem ll1:Pc 12 34 [.code (q12 [])] ([(0,.agg [.slice (some ⟨(.dyn 50),(.lit 0)⟩) (.lit 2) (.lit 2),nilA])]) [] [] [] 10 [100] [1,11] [.inRegion (opsOf (q12 [1,0,0])) [1,2,3,4,5,6],.code (q12 [1,0,1]),.code (q12 [1,1])] [ptr0 100,.agg [.slice (some ⟨(.dyn 50),(.lit 0)⟩) (.lit 2) (.lit 2),nilA]] [(100,.cells [.slice (some ⟨(.dyn 50),(.lit 0)⟩) (.lit 2) (.lit 2),nilA] 25)]:=⟨fun st=>by kernel_rfl,fun st=>by kernel_rfl,by kernel_rfl,of_decide_eq_true (by kernel_rfl)⟩
theorem ll2:OpC 34 (opsOf (q12 [1,0,0])) 1 [(11,.opq 11)] 21 [.opq 11] 12:=⟨fun st=>by kernel_rfl,fun st=>by kernel_rfl,fun st=>by kernel_rfl,by kernel_rfl,by decide,rfl⟩
theorem ll3:Pc 12 34 [.inRegion (opsOf (q12 [1,0,0])) [2,3,4,5,6],.code (q12 [1,0,1]),.code (q12 [1,1])] ([(1,ptr0 64),(12,.tuple [i64 (.lit 0),i64 (.lit 0)])]) [] [(⟨(.dyn 50),(.lit 0)⟩,.str ⟨#[97]⟩),(⟨(.dyn 50),(.lit 1)⟩,.slice (some ⟨(.dyn 70),(.lit 0)⟩) (.lit 1) (.lit 1)),(⟨(.dyn 50),(.lit 2)⟩,i64 (.lit 0)),(⟨(.dyn 50),(.lit 3)⟩,.str ⟨#[98]⟩),(⟨(.dyn 50),(.lit 4)⟩,.slice (some ⟨(.dyn 71),(.lit 0)⟩) (.lit 3) (.lit 3)),(⟨(.dyn 50),(.lit 5)⟩,i64 (.lit 0)),(⟨(.dyn 70),(.lit 0)⟩,i8 (.lit 1)),(⟨(.dyn 70),(.lit 1)⟩,i64 (.lit 1)),(⟨(.dyn 70),(.lit 2)⟩,i64 (.lit 0)),(⟨(.dyn 70),(.lit 3)⟩,i64 (.lit 0)),(⟨(.dyn 71),(.lit 0)⟩,i8 (.lit 4)),(⟨(.dyn 71),(.lit 1)⟩,i64 (.lit 0)),(⟨(.dyn 71),(.lit 2)⟩,i64 (.lit 2)),(⟨(.dyn 71),(.lit 3)⟩,i64 (.lit 0)),(⟨(.dyn 71),(.lit 4)⟩,i8 (.lit 2)),(⟨(.dyn 71),(.lit 5)⟩,i64 (.lit 0)),(⟨(.dyn 71),(.lit 6)⟩,i64 (.lit 0)),(⟨(.dyn 71),(.lit 7)⟩,i64 (.lit 0)),(⟨(.dyn 71),(.lit 8)⟩,i8 (.lit 1)),(⟨(.dyn 71),(.lit 9)⟩,i64 (.lit 2)),(⟨(.dyn 71),(.lit 10)⟩,i64 (.lit 0)),(⟨(.dyn 71),(.lit 11)⟩,i64 (.lit 0)),(⟨(.dyn 64),(.lit 0)⟩,.slice (some ⟨(.dyn 50),(.lit 0)⟩) (.lit 2) (.lit 2))] [] 404 [107,102,101,100] [1,7,8,22,23,24,25,26,27,28] [.inRegion (opsOf (q12 [1,1,1,1,1,1,0,1,0,0,1,1,0,0,1])) [3,4,5,6],.inBlock 1,.code (q12 [1,1,1,1,1,1,0,1,0,0,1,1,1]),.inLoop (q12 [1,1,1,1,1,1,0,1,0,0]),.inBlock 0,.code (q12 [1,1,1,1,1,1,1])] [ptr0 64,ptr0 102,.slice (some ⟨(.dyn 107),(.lit 0)⟩) (.lit 1) (v 107),i64 (.lit 2),i64 (.lit 1),TB,i64 (.lit 1),.slice (some ⟨(.dyn 107),(.lit 0)⟩) (.lit 1) (v 107),.func (.func 27) [] [ptr0 101,ptr0 64,ptr0 102],i64 (.lit 1)] [(107,.row [i64 (.lit 0)] 3 (v 107)),(102,.cells [.func (.func 27) [] [ptr0 101,ptr0 64,ptr0 102]] 70),(101,.cells [.map (some (.dyn 100))] 69),(100,.map [(i64 (.lit 0),i64 (.lit 0))])]:=⟨fun st=>by kernel_rfl,fun st=>by kernel_rfl,by kernel_rfl,of_decide_eq_true (by kernel_rfl)⟩
theorem lf1:Pc 27 41 [.code (q27 [])] ([(0,i64 (.lit 1)),(1,ptr0 61),(2,ptr0 64),(3,ptr0 62)]) [] [(⟨(.dyn 50),(.lit 0)⟩,.str ⟨#[97]⟩),(⟨(.dyn 50),(.lit 1)⟩,.slice (some ⟨(.dyn 70),(.lit 0)⟩) (.lit 1) (.lit 1)),(⟨(.dyn 50),(.lit 2)⟩,i64 (.lit 0)),(⟨(.dyn 50),(.lit 3)⟩,.str ⟨#[98]⟩),(⟨(.dyn 50),(.lit 4)⟩,.slice (some ⟨(.dyn 71),(.lit 0)⟩) (.lit 3) (.lit 3)),(⟨(.dyn 50),(.lit 5)⟩,i64 (.lit 0)),(⟨(.dyn 70),(.lit 0)⟩,i8 (.lit 1)),(⟨(.dyn 70),(.lit 1)⟩,i64 (.lit 1)),(⟨(.dyn 70),(.lit 2)⟩,i64 (.lit 0)),(⟨(.dyn 70),(.lit 3)⟩,i64 (.lit 0)),(⟨(.dyn 71),(.lit 0)⟩,i8 (.lit 4)),(⟨(.dyn 71),(.lit 1)⟩,i64 (.lit 0)),(⟨(.dyn 71),(.lit 2)⟩,i64 (.lit 2)),(⟨(.dyn 71),(.lit 3)⟩,i64 (.lit 0)),(⟨(.dyn 71),(.lit 4)⟩,i8 (.lit 2)),(⟨(.dyn 71),(.lit 5)⟩,i64 (.lit 0)),(⟨(.dyn 71),(.lit 6)⟩,i64 (.lit 0)),(⟨(.dyn 71),(.lit 7)⟩,i64 (.lit 0)),(⟨(.dyn 71),(.lit 8)⟩,i8 (.lit 1)),(⟨(.dyn 71),(.lit 9)⟩,i64 (.lit 2)),(⟨(.dyn 71),(.lit 10)⟩,i64 (.lit 0)),(⟨(.dyn 71),(.lit 11)⟩,i64 (.lit 0)),(⟨(.dyn 64),(.lit 0)⟩,.slice (some ⟨(.dyn 50),(.lit 0)⟩) (.lit 2) (.lit 2)),(⟨(.dyn 61),(.lit 0)⟩,.map (some (.dyn 60))),(⟨(.dyn 62),(.lit 0)⟩,.func (.func 27) [] [ptr0 61,ptr0 64,ptr0 62])] [(60,.map [(i64 (.lit 0),i64 (.lit 0))])] 34 [60] [0,1,2,3,8,23] [.inRegion (opsOf (q27 [1,1,1,0,0])) [5,6,7],.code (q27 [1,1,1,0,1]),.code (q27 [1,1,1,1])] [i64 (.lit 1),ptr0 61,ptr0 64,ptr0 62,i64 (.lit 0),.agg [.str ⟨#[98]⟩,.slice (some ⟨(.dyn 71),(.lit 0)⟩) (.lit 3) (.lit 3),i64 (.lit 0)]] [(60,.map [(i64 (.lit 0),i64 (.lit 0))])]:=⟨fun st=>by kernel_rfl,fun st=>by kernel_rfl,by kernel_rfl,of_decide_eq_true (by kernel_rfl)⟩
theorem lf2:OpC 41 (opsOf (q27 [1,1,1,0,0])) 5 [(23,.opq 23)] 28 [.opq 23] 24:=⟨fun st=>by kernel_rfl,fun st=>by kernel_rfl,fun st=>by kernel_rfl,by kernel_rfl,by decide,rfl⟩
theorem lf3:Pc 27 41 [.inRegion (opsOf (q27 [1,1,1,0,0])) [6,7],.code (q27 [1,1,1,0,1]),.code (q27 [1,1,1,1])] ([(8,i64 (.lit 0)),(24,.slice (some ⟨(.dyn 72),(.lit 0)⟩) (.lit 1) (.lit 1)),(0,i64 (.lit 1)),(1,ptr0 61),(2,ptr0 64),(3,ptr0 62)]) [] [(⟨(.dyn 50),(.lit 0)⟩,.str ⟨#[97]⟩),(⟨(.dyn 50),(.lit 1)⟩,.slice (some ⟨(.dyn 70),(.lit 0)⟩) (.lit 1) (.lit 1)),(⟨(.dyn 50),(.lit 2)⟩,i64 (.lit 0)),(⟨(.dyn 50),(.lit 3)⟩,.str ⟨#[98]⟩),(⟨(.dyn 50),(.lit 4)⟩,.slice (some ⟨(.dyn 71),(.lit 0)⟩) (.lit 3) (.lit 3)),(⟨(.dyn 50),(.lit 5)⟩,i64 (.lit 0)),(⟨(.dyn 70),(.lit 0)⟩,i8 (.lit 1)),(⟨(.dyn 70),(.lit 1)⟩,i64 (.lit 1)),(⟨(.dyn 70),(.lit 2)⟩,i64 (.lit 0)),(⟨(.dyn 70),(.lit 3)⟩,i64 (.lit 0)),(⟨(.dyn 71),(.lit 0)⟩,i8 (.lit 4)),(⟨(.dyn 71),(.lit 1)⟩,i64 (.lit 0)),(⟨(.dyn 71),(.lit 2)⟩,i64 (.lit 2)),(⟨(.dyn 71),(.lit 3)⟩,i64 (.lit 0)),(⟨(.dyn 71),(.lit 4)⟩,i8 (.lit 2)),(⟨(.dyn 71),(.lit 5)⟩,i64 (.lit 0)),(⟨(.dyn 71),(.lit 6)⟩,i64 (.lit 0)),(⟨(.dyn 71),(.lit 7)⟩,i64 (.lit 0)),(⟨(.dyn 71),(.lit 8)⟩,i8 (.lit 1)),(⟨(.dyn 71),(.lit 9)⟩,i64 (.lit 2)),(⟨(.dyn 71),(.lit 10)⟩,i64 (.lit 0)),(⟨(.dyn 71),(.lit 11)⟩,i64 (.lit 0)),(⟨(.dyn 64),(.lit 0)⟩,.slice (some ⟨(.dyn 50),(.lit 0)⟩) (.lit 2) (.lit 2)),(⟨(.dyn 61),(.lit 0)⟩,.map (some (.dyn 60))),(⟨(.dyn 62),(.lit 0)⟩,.func (.func 27) [] [ptr0 61,ptr0 64,ptr0 62]),(⟨(.dyn 72),(.lit 0)⟩,i64 (.lit 0))] [(60,.map [(i64 (.lit 0),i64 (.lit 0))])] 54 [60] [0,1,2,3,24,25,26,30,34] [.inRegion (opsOf (q27 [1,1,1,0,1,0,0,1,1,0,0,1])) [5,6],.inBlock 1,.code (q27 [1,1,1,0,1,0,0,1,1,1]),.inLoop (q27 [1,1,1,0,1,0,0]),.inBlock 0,.code (q27 [1,1,1,1])] [i64 (.lit 1),ptr0 61,ptr0 64,ptr0 62,.slice (some ⟨(.dyn 72),(.lit 0)⟩) (.lit 1) (.lit 1),i64 (.lit 1),i64 (.lit 0),i64 (.lit 0),i64 (.lit 1)] [(60,.map [(i64 (.lit 0),i64 (.lit 0))])]:=⟨fun st=>by kernel_rfl,fun st=>by kernel_rfl,by kernel_rfl,of_decide_eq_true (by kernel_rfl)⟩
theorem lf4:OpW 41 (opsOf (q27 [1,1,1,0,1,0,0,1,1,0,0,1])) 5 [] (.call {callee:=.builtin .max,args:=#[.tmp 30,.tmp 34],argTypes:=#[3,3]}) 3 (some 35):=⟨fun st=>by kernel_rfl,fun st=>by kernel_rfl,by kernel_rfl⟩
theorem lf5:Pc 27 41 [.inRegion (opsOf (q27 [1,1,1,0,1,0,0,1,1,0,0,1])) [6],.inBlock 1,.code (q27 [1,1,1,0,1,0,0,1,1,1]),.inLoop (q27 [1,1,1,0,1,0,0]),.inBlock 0,.code (q27 [1,1,1,1])] ([(0,i64 (.lit 1)),(1,ptr0 61),(2,ptr0 64),(3,ptr0 62),(24,.slice (some ⟨(.dyn 72),(.lit 0)⟩) (.lit 1) (.lit 1)),(25,i64 (.lit 1)),(26,i64 (.lit 0)),(35,i64 (.lit 1))]) [] [(⟨(.dyn 50),(.lit 0)⟩,.str ⟨#[97]⟩),(⟨(.dyn 50),(.lit 1)⟩,.slice (some ⟨(.dyn 70),(.lit 0)⟩) (.lit 1) (.lit 1)),(⟨(.dyn 50),(.lit 2)⟩,i64 (.lit 0)),(⟨(.dyn 50),(.lit 3)⟩,.str ⟨#[98]⟩),(⟨(.dyn 50),(.lit 4)⟩,.slice (some ⟨(.dyn 71),(.lit 0)⟩) (.lit 3) (.lit 3)),(⟨(.dyn 50),(.lit 5)⟩,i64 (.lit 0)),(⟨(.dyn 70),(.lit 0)⟩,i8 (.lit 1)),(⟨(.dyn 70),(.lit 1)⟩,i64 (.lit 1)),(⟨(.dyn 70),(.lit 2)⟩,i64 (.lit 0)),(⟨(.dyn 70),(.lit 3)⟩,i64 (.lit 0)),(⟨(.dyn 71),(.lit 0)⟩,i8 (.lit 4)),(⟨(.dyn 71),(.lit 1)⟩,i64 (.lit 0)),(⟨(.dyn 71),(.lit 2)⟩,i64 (.lit 2)),(⟨(.dyn 71),(.lit 3)⟩,i64 (.lit 0)),(⟨(.dyn 71),(.lit 4)⟩,i8 (.lit 2)),(⟨(.dyn 71),(.lit 5)⟩,i64 (.lit 0)),(⟨(.dyn 71),(.lit 6)⟩,i64 (.lit 0)),(⟨(.dyn 71),(.lit 7)⟩,i64 (.lit 0)),(⟨(.dyn 71),(.lit 8)⟩,i8 (.lit 1)),(⟨(.dyn 71),(.lit 9)⟩,i64 (.lit 2)),(⟨(.dyn 71),(.lit 10)⟩,i64 (.lit 0)),(⟨(.dyn 71),(.lit 11)⟩,i64 (.lit 0)),(⟨(.dyn 64),(.lit 0)⟩,.slice (some ⟨(.dyn 50),(.lit 0)⟩) (.lit 2) (.lit 2)),(⟨(.dyn 61),(.lit 0)⟩,.map (some (.dyn 60))),(⟨(.dyn 62),(.lit 0)⟩,.func (.func 27) [] [ptr0 61,ptr0 64,ptr0 62]),(⟨(.dyn 72),(.lit 0)⟩,i64 (.lit 0))] [(60,.map [(i64 (.lit 0),i64 (.lit 0))])] 27 [60] [5] [.code .ret] [i64 (.lit 1)] [(60,.map [(i64 (.lit 0),i64 (.lit 0)),(i64 (.lit 1),i64 (.lit 1))])]:=⟨fun st=>by kernel_rfl,fun st=>by kernel_rfl,by kernel_rfl,of_decide_eq_true (by kernel_rfl)⟩
theorem ll4:OpC 34 (opsOf (q12 [1,1,1,1,1,1,0,1,0,0,1,1,0,0,1])) 3 [(27,.func (.func 27) [] [ptr0 61,ptr0 64,ptr0 62]),(28,i64 (.lit 1))] 27 [i64 (.lit 1),ptr0 61,ptr0 64,ptr0 62] 29:=⟨fun st=>by kernel_rfl,fun st=>by kernel_rfl,fun st=>by kernel_rfl,by kernel_rfl,by decide,rfl⟩
theorem ll5:Pc 12 34 [.inRegion (opsOf (q12 [1,1,1,1,1,1,0,1,0,0,1,1,0,0,1])) [4,5,6],.inBlock 1,.code (q12 [1,1,1,1,1,1,0,1,0,0,1,1,1]),.inLoop (q12 [1,1,1,1,1,1,0,1,0,0]),.inBlock 0,.code (q12 [1,1,1,1,1,1,1])] ([(1,ptr0 64),(7,ptr0 62),(8,.slice (some ⟨(.dyn 52),(.lit 0)⟩) (v 8) (v 57)),(22,i64 (.lit 2)),(23,i64 (.lit 1)),(24,TB),(25,i64 (.lit 1)),(26,.slice (some ⟨(.dyn 52),(.lit 0)⟩) (v 8) (v 57)),(29,i64 (.lit 1))]) [((.cmp .leq (.plus (.tn (v 8)) (.lit 1)) (.lit 1048576)),true)] [(⟨(.dyn 64),(.lit 0)⟩,.slice (some ⟨(.dyn 50),(.lit 0)⟩) (.lit 2) (.lit 2))] [(52,.pre false 65 (v 8) [] [] [] 3 (v 57))] 23 [101] [2,3] [.code .ret] [.slice (some ⟨(.dyn 101),(.lit 0)⟩) (.plus (.tn (v 8)) (.lit 1)) (v 101),i64 (.lit 0)] [(101,.pre false 65 (v 8) [] [] [i64 (.lit 1)] 3 (v 101))]:=⟨fun st=>by kernel_rfl,fun st=>by kernel_rfl,by kernel_rfl,of_decide_eq_true (by kernel_rfl)⟩
noncomputable def q6(l:List Nat):Code:=pc (bodyOf Try.f6) l
theorem ent6:enterA Try.prog 6 [] .normal=.ok ⟨6,72,entT 6 [],[.code (bodyOf Try.f6)],[],.run,.normal⟩:=by kernel_rfl
theorem ret6:RetC 6 72 0:=fun st=>by kernel_rfl
theorem lv1:Pc 6 72 [.code (q6 [])] ([]) [] [] [] 6 [] [] [.inRegion (opsOf (q6 [1,0])) [0,1,2,3,4,5,6,7],.code (q6 [1,1])] [] []:=⟨fun st=>by kernel_rfl,fun st=>by kernel_rfl,by kernel_rfl,of_decide_eq_true (by kernel_rfl)⟩
theorem lv2:OpC 72 (opsOf (q6 [1,0])) 0 [] 20 [] 9:=⟨fun st=>by kernel_rfl,fun st=>by kernel_rfl,fun st=>by kernel_rfl,by kernel_rfl,by decide,rfl⟩
theorem lv3:Pc 6 72 [.inRegion (opsOf (q6 [1,0])) [1,2,3,4,5,6,7],.code (q6 [1,1])] ([(9,.opq 9)]) [] [] [] 1 [] [9,10] [.inRegion (opsOf (q6 [1,0])) [2,3,4,5,6,7],.code (q6 [1,1])] [.opq 9,.agg [i64 (.lit 0),i64 (.lit 0),i64 (.lit 0),i64 (.lit 0)]] []:=⟨fun st=>by kernel_rfl,fun st=>by kernel_rfl,by kernel_rfl,of_decide_eq_true (by kernel_rfl)⟩
theorem lv4:OpC 72 (opsOf (q6 [1,0])) 2 [(9,.opq 9),(10,.opq 10)] 7 [.opq 9,.opq 10] 11:=⟨fun st=>by kernel_rfl,fun st=>by kernel_rfl,fun st=>by kernel_rfl,by kernel_rfl,by decide,rfl⟩
theorem lv5:Pc 6 72 [.inRegion (opsOf (q6 [1,0])) [3,4,5,6,7],.code (q6 [1,1])] ([(11,.tuple [.opq 11,i64 (.lit 0)])]) [] [] [] 8 [] [1,2] [.inRegion (opsOf (q6 [1,1,0])) [0,1,2],.code (q6 [1,1,1])] [.opq 11,i64 (.lit 0)] []:=⟨fun st=>by kernel_rfl,fun st=>by kernel_rfl,by kernel_rfl,of_decide_eq_true (by kernel_rfl)⟩
theorem lv6:OpC 72 (opsOf (q6 [1,1,0])) 0 [] 20 [] 14:=⟨fun st=>by kernel_rfl,fun st=>by kernel_rfl,fun st=>by kernel_rfl,by kernel_rfl,by decide,rfl⟩
theorem lv7:OpC 72 (opsOf (q6 [1,1,0])) 1 [(14,.opq 14)] 13 [.opq 14,i64 (.lit 1)] 15:=⟨fun st=>by kernel_rfl,fun st=>by kernel_rfl,fun st=>by kernel_rfl,by kernel_rfl,by decide,rfl⟩
theorem lv8:Pc 6 72 [.inRegion (opsOf (q6 [1,1,0])) [2],.code (q6 [1,1,1])] ([(1,.opq 1),(2,i64 (.lit 0)),(15,.opq 15)]) [] [] [] 4 [] [1,2,3] [.inRegion (opsOf (q6 [1,1,1,0])) [0,1,2,3,4,5,6],.code (q6 [1,1,1,1])] [.opq 1,i64 (.lit 0),.opq 15] []:=⟨fun st=>by kernel_rfl,fun st=>by kernel_rfl,by kernel_rfl,of_decide_eq_true (by kernel_rfl)⟩
theorem lv9:OpC 72 (opsOf (q6 [1,1,1,0])) 0 [] 20 [] 17:=⟨fun st=>by kernel_rfl,fun st=>by kernel_rfl,fun st=>by kernel_rfl,by kernel_rfl,by decide,rfl⟩
theorem lvA:OpC 72 (opsOf (q6 [1,1,1,0])) 1 [(17,.opq 17)] 12 [.opq 17] 18:=⟨fun st=>by kernel_rfl,fun st=>by kernel_rfl,fun st=>by kernel_rfl,by kernel_rfl,by decide,rfl⟩
theorem lvB:Pc 6 72 [.inRegion (opsOf (q6 [1,1,1,0])) [2,3,4,5,6],.code (q6 [1,1,1,1])] ([(1,.opq 1),(2,i64 (.lit 0)),(3,.opq 3),(18,.tuple [.opq 18,i64 (.lit 0)])]) [] [] [] 8 [] [1,2,3,4,5] [.inRegion (opsOf (q6 [1,1,1,1,0])) [0,1,2,3,4,5,6,7,8,9,10],.code (q6 [1,1,1,1,1])] [.opq 1,i64 (.lit 0),.opq 3,.opq 18,i64 (.lit 0)] []:=⟨fun st=>by kernel_rfl,fun st=>by kernel_rfl,by kernel_rfl,of_decide_eq_true (by kernel_rfl)⟩
theorem lvC:OpC 72 (opsOf (q6 [1,1,1,1,0])) 0 [] 20 [] 22:=⟨fun st=>by kernel_rfl,fun st=>by kernel_rfl,fun st=>by kernel_rfl,by kernel_rfl,by decide,rfl⟩
theorem lvD:Pc 6 72 [.inRegion (opsOf (q6 [1,1,1,1,0])) [1,2,3,4,5,6,7,8,9,10],.code (q6 [1,1,1,1,1])] ([(1,.opq 1),(2,i64 (.lit 0)),(3,.opq 3),(4,.opq 4),(5,i64 (.lit 0)),(22,.opq 22)]) [] [] [] 4 [100] [1,2,3,4,5,22,23,26] [.inRegion (opsOf (q6 [1,1,1,1,0])) [5,6,7,8,9,10],.code (q6 [1,1,1,1,1])] [.opq 1,i64 (.lit 0),.opq 3,.opq 4,i64 (.lit 0),.opq 22,.agg [i64 (.lit 0),i64 (.lit 0),i64 (.lit 0),i64 (.lit 0)],.slice (some ⟨(.dyn 100),(.lit 0)⟩) (.lit 2) (.lit 2)] [(100,.cells [i8 (.lit 1),i64 (.lit 1),i8 (.lit 1),i64 (.lit 4)] 30)]:=⟨fun st=>by kernel_rfl,fun st=>by kernel_rfl,by kernel_rfl,of_decide_eq_true (by kernel_rfl)⟩
theorem lvE:OpC 72 (opsOf (q6 [1,1,1,1,0])) 5 [(22,.opq 22),(23,.opq 23),(26,.opq 26)] 9 [.opq 22,.opq 23,.opq 26] 27:=⟨fun st=>by kernel_rfl,fun st=>by kernel_rfl,fun st=>by kernel_rfl,by kernel_rfl,by decide,rfl⟩
theorem lvF:Pc 6 72 [.inRegion (opsOf (q6 [1,1,1,1,0])) [6,7,8,9,10],.code (q6 [1,1,1,1,1])] ([(1,.slice (some ⟨(.dyn 73),(.lit 0)⟩) (.lit 2) (v 81)),(2,i64 (.lit 0)),(3,.slice (some ⟨(.dyn 72),(.lit 0)⟩) (.lit 1) (.lit 1)),(4,.slice (some ⟨(.dyn 74),(.lit 0)⟩) (.lit 2) (v 82)),(5,i64 (.lit 0)),(27,.tuple [i64 (.lit 30),i64 (.lit 1)])]) [] [(⟨(.dyn 73),(.lit 2)⟩,i8 (.lit 1)),(⟨(.dyn 73),(.lit 3)⟩,i64 (.lit 3)),(⟨(.dyn 74),(.lit 1)⟩,i64 (.lit 1))] [] 52 [] [0] [.code .ret] [TB] []:=⟨fun st=>by kernel_rfl,fun st=>by kernel_rfl,by kernel_rfl,of_decide_eq_true (by kernel_rfl)⟩
noncomputable def lfnV(K X G:Nat):Value:=(AV.func (.func 27) [] [ptr0 61,ptr0 64,ptr0 62]).ev (mkE [] [(61,K),(64,X),(62,G)] [])
section
variable {w w0:World}{cs:List Frame}{fr:Frame}
theorem map_off{M:Nat}{es:List (Value×Value)}{a:Addr}{v:Value}(h:(Blk.map es).at Try.prog w M)(hc:w.cell? a=some v):M≠a.block:=fun e=>by
 obtain⟨arr,clk,h1,h2⟩:=h
 unfold World.cell? at hc
 rw[<-e,h1]at hc
 cases hc
theorem ent27c:enterA Try.prog 27 [.opq 0,.opq 1,.opq 2,.opq 3] .normal=.ok ⟨27,41,entT 27 [.opq 0,.opq 1,.opq 2,.opq 3],[.code (bodyOf Try.f27)],[],.run,.normal⟩:=by kernel_rfl
theorem AllM.keepG{ρ:Env}{w w':World}(f:∀a v,w.cell? a=some v->w'.cell? a=some v):∀{l:List (AA×AV)},AllM ρ w l->AllM ρ w' l
 |[],_=>trivial
 |p::r,h=>⟨f _ _ h.1,AllM.keepG f h.2⟩
theorem lev1_all{P A C X M K G:Nat}(h:AllM (prE P A C) w prM)(hX:w.cell? ⟨X,0,none⟩=some (slV P 0 2 2))(hM:(Blk.map [(iV 0,iV 0)]).at Try.prog w M)(hK:w.cell? ⟨K,0,none⟩=some (.map (some M)))(hG:w.cell? ⟨G,0,none⟩=some (lfnV K X G)):
  Ans 27 #[iV 1,ptrV K,ptrV X,ptrV G] w fun v w'=>v=iV 1∧Keeps (fun x=>w.heap.size≤x∨x=M) w w':=by
 refine ans_of fun cs=>?_
 obtain⟨O,hO⟩:∃O:Nat->Prop,O=fun x=>w.heap.size≤x∨x=M:=⟨_,rfl⟩
 rw[<-hO]
 have kc:∀{w':World},Keeps O w w'->∀a v,w.cell? a=some v->w'.cell? a=some v:=fun{w'} kp a v hc=>cell_keep kp hc (by
  rw[hO]
  intro hh
  rcases hh with hh|hh
  ·have:=cellLt hc
   omega
  ·exact map_off hM hc hh.symm)
 obtain⟨ρ,hρ⟩:∃ρ:Nat->Env,ρ=fun B=>mkE [] [(50,P),(70,A),(71,C),(64,X),(61,K),(62,G),(60,M),(72,B)] []:=⟨_,rfl⟩
 have mm:∀{w':World} (B:Nat),Keeps O w w'->AllM (ρ B) w' (prM++[(⟨.dyn 64,.lit 0⟩,.slice (some ⟨.dyn 50,.lit 0⟩) (.lit 2) (.lit 2)),(⟨.dyn 61,.lit 0⟩,.map (some (.dyn 60))),(⟨.dyn 62,.lit 0⟩,.func (.func 27) [] [ptr0 61,ptr0 64,ptr0 62])]):=fun{w'} B kp=>by
  rw[hρ]
  exact AllM.app (l:=prM) (AllM.keepG (kc kp) h) ⟨kc kp _ _ hX,kc kp _ _ hK,kc kp _ _ hG,trivial⟩
 have pre:∀{w':World} (B:Nat),(Blk.map [(iV 0,iV 0)]).at Try.prog w' M->AllO (ρ B) w' [(60,.map [(i64 (.lit 0),i64 (.lit 0))])]:=fun{w'} B hm=>⟨⟨.map [(iV 0,iV 0)],by rw[hρ];exact hm,rfl⟩,trivial⟩
 have e60:∀B,(ρ B).b 60=M:=fun B=>by rw[hρ];rfl
 have off:∀{w':World} {l:List (AA×AV)} (B:Nat),(Blk.map [(iV 0,iV 0)]).at Try.prog w' M->AllM (ρ B) w' l->∀p∈l,∀x∈[((60,.map [(i64 (.lit 0),i64 (.lit 0))]):Nat×ABlk)],(ρ B).b x.1≠(p.1.ev (ρ B)).block:=fun{w' l} B hm hmm p hp x hx=>by
  obtain rfl:=List.mem_singleton.1 hx
  rw[e60]
  exact map_off hm (hmm.mem p hp)
 have own:∀{w':World} (B:Nat) {q:Nat},Keeps O w w'->ownP (ρ B) w' [(60,.map [(i64 (.lit 0),i64 (.lit 0))])] q->O q:=fun{w'} B {q} kp hq=>by
  rw[hO]
  rcases hq with hh|⟨p,hp,e⟩
  ·exact .inl (Nat.le_trans kp.size hh)
  ·obtain rfl:=List.mem_singleton.1 hp
   exact .inr (e.symm.trans (e60 B))
 have k0:Keeps O w w:=Keeps.refl _ _
 refine(lf1.goW (ρ 0) (enter4 ent27c rfl (iV 1) (ptrV K) (ptrV X) (ptrV G)) (by rw[hρ];rfl) trivial (mm 0 k0) (off 0 hM (mm 0 k0)) (pre 0 hM) one_nodup).trans fun g1 w1 hd=>?_
 obtain⟨I,B,fr1,rfl,kp1,F1,bl1,_⟩:=hd
 have k1:Keeps O w w1:=kp1.mono fun q hq=>own 0 k0 hq
 have hM1:(Blk.map [(iV 0,iV 0)]).at Try.prog w1 M:=by
  have:=bl1.1.2
  rw[hρ]at this
  exact this
 rw[hρ]at F1
 refine(lf2.go (mkE [] [] [(23,letV letB (slV C 0 3 3))]) (Q:=fun v w'=>∃B,v=slV B 0 1 1∧w'.cell? ⟨B,0,none⟩=some (iV 0)) F1 rfl fun w' f2=>(needsB_all ((AllM.keepG (kc k1) h).keep f2)).mono fun v w2 hd=>⟨hd.1,by
  obtain⟨B,h1,h2,h3⟩:=hd.2
  exact⟨B,h2,h3⟩⟩).trans fun g2 w2 hd2=>?_
 obtain⟨fr2,vv,rfl,f2,⟨B2,rfl,hB2⟩,F2⟩:=hd2
 have kf:∀{a b:World},Keeps O w a->Fresh a b->Keeps O w b:=fun{a b} k f=>k.trans (f.mono fun q hq=>by
  rw[hO]
  exact .inl (Nat.le_trans k.size hq))
 have k2:=kf k1 f2
 have hM2:=blk_keep (k:=.map _) hM1 f2
 have m2:AllM (ρ B2) w2 (prM++[(⟨.dyn 64,.lit 0⟩,.slice (some ⟨.dyn 50,.lit 0⟩) (.lit 2) (.lit 2)),(⟨.dyn 61,.lit 0⟩,.map (some (.dyn 60))),(⟨.dyn 62,.lit 0⟩,.func (.func 27) [] [ptr0 61,ptr0 64,ptr0 62])]++[(⟨.dyn 72,.lit 0⟩,i64 (.lit 0))]):=AllM.app (mm B2 k2) ⟨by rw[hρ];exact hB2,trivial⟩
 refine(lf3.goW (ρ B2) F2 (by rw[hρ];rfl) trivial m2 (off B2 hM2 m2) (pre B2 hM2) one_nodup).trans fun g3 w3 hd3=>?_
 obtain⟨I3,B3,fr3,rfl,kp3,F3,bl3,_⟩:=hd3
 have k3:Keeps O w w3:=k2.trans (kp3.mono fun q hq=>own B2 k2 hq)
 have hM3:(Blk.map [(iV 0,iV 0)]).at Try.prog w3 M:=by
  have:=bl3.1.2
  rw[hρ]at this
  exact this
 have hB3:w3.cell? ⟨B2,0,none⟩=some (iV 0):=cell_keep kp3 hB2 fun hh=>by
  rcases hh with hh|⟨p,hp,e⟩
  ·have:=cellLt hB2
   have:B2<w2.heap.size:=this
   have hh:w2.heap.size≤B2:=hh
   omega
  ·obtain rfl:=List.mem_singleton.1 hp
   exact map_off hM2 hB2 ((e60 B2).symm.trans e)
 rw[hρ]at F3
 refine(lf4.go (R:=fun y w'=>y=iV 1∧w'=w3) (mkE [] [] []) F3 (by decide) rfl fun tm htm x' e1 e2=>?_).trans fun g4 w4 hd4=>?_
 ·unfold execOp
  simp only[e1,e2,resolve,wq_bind,wq_pure,invoke,builtin]
  rw[show Array.map (⟨tm,[]⟩:Act).eval #[Operand.tmp 30,Operand.tmp 34]=#[(⟨tm,[]⟩:Act).eval (.tmp 30),(⟨tm,[]⟩:Act).eval (.tmp 34)]from by simp]
  rw[htm 30 (iV 0) rfl,htm 34 (iV 1) rfl]
  simp only[Builtin.max_,iV,List.foldlM_cons,List.foldlM_nil,Builtin.max2,wq_bind,wq_pure]
  exact⟨_,rfl,rfl,trivial⟩
 obtain⟨fr4,y,rfl,⟨rfl,rfl⟩,F4⟩:=hd4
 have m4:AllM (ρ B2) w4 (prM++[(⟨.dyn 64,.lit 0⟩,.slice (some ⟨.dyn 50,.lit 0⟩) (.lit 2) (.lit 2)),(⟨.dyn 61,.lit 0⟩,.map (some (.dyn 60))),(⟨.dyn 62,.lit 0⟩,.func (.func 27) [] [ptr0 61,ptr0 64,ptr0 62])]++[(⟨.dyn 72,.lit 0⟩,i64 (.lit 0))]):=AllM.app (mm B2 k3) ⟨by rw[hρ];exact hB3,trivial⟩
 refine(lf5.goW (ρ B2) F4 (by rw[hρ];rfl) trivial m4 (off B2 hM3 m4) (pre B2 hM3) one_nodup).trans fun g5 w5 hd5=>?_
 obtain⟨I5,B5,fr5,rfl,kp5,F5,bl5,_⟩:=hd5
 have k5:Keeps O w w5:=k3.trans (kp5.mono fun q hq=>own B2 k3 hq)
 refine(leave1 ret27 F5 rfl).mono fun g6 w6 hd6=>?_
 obtain⟨fr6,rfl,rfl,hL⟩:=hd6
 exact⟨fr6,_,rfl,hL,rfl,k5⟩
end
section
variable {w w0:World}{cs:List Frame}{fr:Frame}
theorem Levels_all{P A C:Nat}(h:AllM (prE P A C) w prM):Ans 12 #[pairV P] w fun v w'=>Fresh w w'∧∃B c,v=.tuple #[slV B 0 2 c,iV 0]∧w'.cell? ⟨B,1,none⟩=some (iV 1)∧w.heap.size≤B:=by
 refine ans_of fun cs=>?_
 refine(ll1.go (mkE [] [(50,P)] []) (enter1 ent12 rfl (pairV P)) rfl trivial trivial).trans fun g1 w1 hd=>?_
 obtain⟨I,B,fr1,rfl,f1,F1,bl,_⟩:=hd
 obtain⟨X,eX⟩:∃X,B 100=X:=⟨_,rfl⟩
 have hX:(Blk.obj 25 [slV P 0 2 2,nilV]).at Try.prog w1 X:=by rw[<-eX];exact bl.1.2
 have F1':FA 12 34 (.inRegion (opsOf (q12 [1,0,0])) [1,2,3,4,5,6]::[.code (q12 [1,0,1]),.code (q12 [1,1])]) [] .normal [(1,ptrV X),(11,pairV P)] fr1:=by rw[<-eX];exact F1
 refine(ll2.go (mkE [] [] [(11,pairV P)]) (Q:=fun v w'=>v=.tuple #[iV 0,iV 0]) F1' rfl fun w' f2=>(check_all (pair_flow (h.keep (f1.trans f2))) (by decide) (by decide)).mono fun v w2 hd=>⟨hd.1,by
  have:=hd.2
  rw[pair_chk]at this
  exact this⟩).trans fun g2 w2 hd2=>?_
 obtain⟨fr2,vv,rfl,f2,rfl,F2⟩:=hd2
 have f12:=f1.trans f2
 have hX2:=f2.cell (blk_cell hX (i:=0) rfl)
 refine(ll3.go (mkE [] [(50,P),(64,X),(70,A),(71,C)] []) F2 rfl trivial (AllM.app (l:=prM) (l':=[(⟨.dyn 64,.lit 0⟩,.slice (some ⟨.dyn 50,.lit 0⟩) (.lit 2) (.lit 2))]) (h.keep f12) ⟨hX2,trivial⟩)).trans fun g3 w3 hd3=>?_
 obtain⟨I,B,fr3,rfl,f3,F3,bl3,inj⟩:=hd3
 obtain⟨M,eM⟩:∃M,B 100=M:=⟨_,rfl⟩
 obtain⟨K,eK⟩:∃K,B 101=K:=⟨_,rfl⟩
 obtain⟨Gb,eG⟩:∃Gb,B 102=Gb:=⟨_,rfl⟩
 obtain⟨D,eD⟩:∃D,B 107=D:=⟨_,rfl⟩
 have hD:(Blk.vec 3 (I 107).toNat [iV 0]).at Try.prog w3 D:=by rw[<-eD];exact bl3.1.2
 have hG:(Blk.obj 70 [lfnV K X Gb]).at Try.prog w3 Gb:=by rw[<-eG,<-eK];exact bl3.2.1.2
 have hK:(Blk.obj 69 [.map (some M)]).at Try.prog w3 K:=by rw[<-eK,<-eM];exact bl3.2.2.1.2
 have hM:(Blk.map [(iV 0,iV 0)]).at Try.prog w3 M:=by rw[<-eM];exact bl3.2.2.2.1.2
 have gD:w2.heap.size≤D:=by rw[<-eD];exact bl3.1.1
 have gM:w2.heap.size≤M:=by rw[<-eM];exact bl3.2.2.2.1.1
 have f13:=f12.trans f3
 obtain⟨c,ec⟩:∃c,(I 107).toNat=c:=⟨_,rfl⟩
 rw[ec]at hD
 have F3':FA 12 34 (.inRegion (opsOf (q12 [1,1,1,1,1,1,0,1,0,0,1,1,0,0,1])) [3,4,5,6]::[.inBlock 1,.code (q12 [1,1,1,1,1,1,0,1,0,0,1,1,1]),.inLoop (q12 [1,1,1,1,1,1,0,1,0,0]),.inBlock 0,.code (q12 [1,1,1,1,1,1,1])]) [] .normal [(1,ptrV X),(7,ptrV Gb),(8,slV D 0 1 c),(22,iV 2),(23,iV 1),(24,.bool true),(25,iV 1),(26,slV D 0 1 c),(27,lfnV K X Gb),(28,iV 1)] fr3:=by
  rw[<-ec,<-eD,<-eG,<-eK]
  exact F3
 refine(op_call (ρ:=mkE [] [(61,K),(64,X),(62,Gb)] []) (bs:=[]) (mem:=[]) (Q:=fun v w'=>v=iV 1∧Keeps (fun x=>w3.heap.size≤x∨x=M) w3 w') F3' (fun p hp=>?_) ll4.want ll4.op ll4.low (nofun) (nofun) ll4.dst ll4.dlt ll4.alow fun w' f4=>?_).trans fun g4 w4 hd4=>?_
 ·simp only[told,List.map_cons,List.map_nil,List.mem_cons,List.not_mem_nil,or_false]at hp
  rcases hp with rfl|rfl
  ·exact lookV_mem rfl
  ·exact lookV_mem rfl
 ·refine(lev1_all (P:=P) (A:=A) (C:=C) (M:=M) (h.keep (f13.trans f4)) ((f3.trans f4).cell hX2) (blk_keep (k:=.map _) hM f4) (f4.cell (blk_cell hK (i:=0) rfl)) (f4.cell (blk_cell hG (i:=0) rfl))).mono fun v w2 hd=>⟨hd.1,?_⟩
  exact(f4.mono fun q hq=>.inl hq).trans (hd.2.mono fun q hq=>hq.imp (fun hq=>Nat.le_trans f4.size hq) id)
 obtain⟨fr4,vv,rfl,⟨rfl,k4⟩,F4⟩:=hd4
 have hMD:M≠D:=fun e=>by
  have hd0:w3.cell? ⟨D,0,none⟩=some (iV 0):=Blk.at_cell hD rfl
  exact map_off hM hd0 e
 have hD4:(Blk.vec 3 c [iV 0]).at Try.prog w4 D:=Blk.at_keep hD k4 fun hh=>by
  rcases hh with hh|hh
  ·have:=Blk.at_lt hD
   omega
  ·exact hMD hh.symm
 have hX4:w4.cell? ⟨X,0,none⟩=some (slV P 0 2 2):=cell_keep k4 (f3.cell hX2) fun hh=>by
  have h3:=f3.cell hX2
  have:=cellLt h3
  have:X<w3.heap.size:=this
  rcases hh with hh|hh
  ·have hh:w3.heap.size≤X:=hh
   omega
  ·exact map_off hM h3 hh.symm
 obtain⟨ρ,hρ⟩:∃ρ:Env,ρ=mkE [(8,1),(57,c)] [(64,X),(62,Gb),(52,D),(50,P)] [(65,.agg #[iV 0])]:=⟨_,rfl⟩
 refine(ll5.goW ρ F4 (by rw[hρ];rfl) ⟨by
  rw[hρ]
  show decide ((((1:Int).toNat:Nat):Int)+1≤1048576)=true
  exact decide_eq_true (by omega),trivial⟩ ⟨by rw[hρ];exact hX4,trivial⟩ (fun p hp x hx=>?_) ⟨⟨.vec 3 c [iV 0],by rw[hρ];exact hD4,rfl,by rw[hρ];rfl,fun inf hinf=>?_,(nofun),by rw[hρ];rfl⟩,trivial⟩ one_nodup).trans fun g5 w5 hd5=>?_
 ·obtain rfl:=List.mem_singleton.1 hp
  obtain rfl:=List.mem_singleton.1 hx
  rw[hρ]
  show D≠X
  intro e
  have:=Blk.at_lt (blk_keep hX f2)
  omega
 ·rw[size3 inf hinf,hρ];rfl
 obtain⟨I5,B5,fr5,rfl,kp5,F5,bl5,_⟩:=hd5
 have own:∀q,ownP ρ w4 [(52,.pre false 65 (v 8) [] [] [] 3 (v 57))] q->w4.heap.size≤q∨q=D:=fun q hq=>by
  rcases hq with hh|⟨p,hp,e⟩
  ·exact .inl hh
  ·obtain rfl:=List.mem_singleton.1 hp
   have e:ρ.b 52=q:=e
   rw[hρ]at e
   exact .inr e.symm
 have hR:(Blk.vec 3 (I5 101).toNat [iV 0,iV 1]).at Try.prog w5 (B5 101):=by
  have:=bl5.1.2
  rw[hρ]at this
  exact this
 have gR:w.heap.size≤B5 101:=by
  have h1:=f12.size
  have h2:=f3.size
  have h3:=k4.size
  have h4:w4.heap.size≤B5 101∨B5 101=D:=own _ bl5.1.1
  rcases h4 with h4|h4<;>omega
 have f5:Fresh w w5:=fresh_keeps (fresh_keeps f13 (k4.mono fun q hq=>by
  have h1:=f12.size
  have h2:=f13.size
  rcases hq with hq|hq<;>omega)) (kp5.mono fun q hq=>by
  have h1:=f12.size
  have h2:=f3.size
  have h3:=k4.size
  rcases own q hq with hq|hq<;>omega)
 have F5':FA 12 34 (.code .ret::[]) [] .normal [(2,slV (B5 101) 0 2 (I5 101).toNat),(3,iV 0)] fr5:=by
  rw[hρ]at F5
  exact F5
 refine(leave2 ret12 F5' rfl rfl).mono fun g6 w6 hd6=>?_
 obtain⟨fr6,rfl,rfl,hL⟩:=hd6
 exact⟨fr6,_,rfl,hL,f5,B5 101,(I5 101).toNat,rfl,Blk.at_cell hR rfl,gR⟩
theorem lives_all:Ans 6 #[] w fun v w'=>Fresh w w'∧v=.bool true:=by
 refine ans_of fun cs=>?_
 refine(lv1.go (mkE [] [] []) (enter0 ent6) rfl trivial trivial).trans fun g1 w1 hd=>?_
 obtain⟨I,B,fr1,rfl,f1,F1,_⟩:=hd
 let PQ:Value->World->Prop:=fun v w'=>∃P A C,v=pairV P∧AllM (prE P A C) w' prM
 refine(lv2.go (mkE [] [] []) (Q:=PQ) F1 rfl fun w' f2=>pair_all).trans fun g2 w2 hd2=>?_
 obtain⟨fr2,vv,rfl,f2,⟨P,A,C,rfl,hP⟩,F2⟩:=hd2
 refine(lv3.go (mkE [] [] [(9,pairV P)]) F2 rfl trivial trivial).trans fun g3 w3 hd3=>?_
 obtain⟨I,B,fr3,rfl,f3,F3,_⟩:=hd3
 refine(lv4.go (mkE [] [] [(9,pairV P),(10,makerV ⟨0,0,0,0⟩)]) (Q:=fun v w'=>∃B c,v=.tuple #[slV B 0 2 c,iV 0]∧w'.cell? ⟨B,2,none⟩=some (i8V 1)∧w'.cell? ⟨B,3,none⟩=some (iV 3)) F3 rfl fun w' f4=>(plain_all (pair_flow (hP.keep (f3.trans f4))) (by decide) (by decide)).mono fun v w2 hd=>⟨hd.1,by
  obtain⟨s,h1,h2⟩:=hd.2
  rw[pair_plain]at h1 h2
  rcases h2 with⟨_,h3⟩|⟨_,B,c,h3,_,h4⟩
  ·cases h3
  ·exact⟨B,c,by rw[h1,h3];rfl,Blk.at_cell h4 rfl,Blk.at_cell h4 rfl⟩⟩).trans fun g4 w4 hd4=>?_
 obtain⟨fr4,vv,rfl,f4,⟨D,c,rfl,d2,d3⟩,F4⟩:=hd4
 refine(lv5.go (mkE [] [] [(11,slV D 0 2 c)]) F4 rfl trivial trivial).trans fun g5 w5 hd5=>?_
 obtain⟨I,B,fr5,rfl,f5,F5,_⟩:=hd5
 refine(lv6.go (mkE [] [] []) (Q:=PQ) F5 rfl fun w' f2=>pair_all).trans fun g6 w6 hd6=>?_
 obtain⟨fr6,vv,rfl,f6,⟨P',A',C',rfl,hP'⟩,F6⟩:=hd6
 refine(lv7.go (mkE [] [] [(14,pairV P')]) (Q:=fun v w'=>∃B,v=slV B 0 1 1) F6 rfl fun w' f7=>(Needs_all (hP'.keep f7)).mono fun v w2 hd=>⟨hd.1,by
  obtain⟨B,_,h2,_⟩:=hd.2
  exact⟨B,h2⟩⟩).trans fun g7 w7 hd7=>?_
 obtain⟨fr7,vv,rfl,f7,⟨N,rfl⟩,F7⟩:=hd7
 refine(lv8.go (mkE [] [] [(1,slV D 0 2 c),(15,slV N 0 1 1)]) F7 rfl trivial trivial).trans fun g8 w8 hd8=>?_
 obtain⟨I,B,fr8,rfl,f8,F8,_⟩:=hd8
 refine(lv9.go (mkE [] [] []) (Q:=PQ) F8 rfl fun w' f2=>pair_all).trans fun g9 w9 hd9=>?_
 obtain⟨fr9,vv,rfl,f9,⟨P2,A2,C2,rfl,hP2⟩,F9⟩:=hd9
 refine(lvA.go (mkE [] [] [(17,pairV P2)]) (Q:=fun v w'=>∃B c,v=.tuple #[slV B 0 2 c,iV 0]∧w'.cell? ⟨B,1,none⟩=some (iV 1)) F9 rfl fun w' fA=>(Levels_all (hP2.keep fA)).mono fun v w2 hd=>⟨hd.1,by
  obtain⟨B,c,h1,h2,_⟩:=hd.2
  exact⟨B,c,h1,h2⟩⟩).trans fun gA wA hdA=>?_
 obtain⟨frA,vv,rfl,fA,⟨L,c2,rfl,l1⟩,FA'⟩:=hdA
 refine(lvB.go (mkE [] [] [(1,slV D 0 2 c),(3,slV N 0 1 1),(18,slV L 0 2 c2)]) FA' rfl trivial trivial).trans fun gB wB hdB=>?_
 obtain⟨I,B,frB,rfl,fB,FB',_⟩:=hdB
 refine(lvC.go (mkE [] [] []) (Q:=PQ) FB' rfl fun w' f2=>pair_all).trans fun gC wC hdC=>?_
 obtain⟨frC,vv,rfl,fC,⟨P3,A3,C3,rfl,hP3⟩,FC⟩:=hdC
 refine(lvD.go (mkE [] [] [(1,slV D 0 2 c),(3,slV N 0 1 1),(4,slV L 0 2 c2),(22,pairV P3)]) FC rfl trivial trivial).trans fun gD wD hdD=>?_
 obtain⟨I,B,frD,rfl,fD,FD,blD,_⟩:=hdD
 obtain⟨Eb,eE⟩:∃Eb,B 100=Eb:=⟨_,rfl⟩
 have hE:(Blk.obj 30 [i8V 1,iV 1,i8V 1,iV 4]).at Try.prog wD Eb:=by rw[<-eE];exact blD.1.2
 have FD':FA 6 72 (.inRegion (opsOf (q6 [1,1,1,1,0])) [5,6,7,8,9,10]::[.code (q6 [1,1,1,1,1])]) [] .normal [(1,slV D 0 2 c),(2,iV 0),(3,slV N 0 1 1),(4,slV L 0 2 c2),(5,iV 0),(22,pairV P3),(23,makerV ⟨0,0,0,0⟩),(26,slV Eb 0 2 2)] frD:=by
  rw[<-eE];exact FD
 have hEnds:EndsAt wD (slV Eb 0 2 2) [(1,1),(1,4)]:=⟨false,Eb,0,2,rfl,(fun h=>by cases h),fun _=>Nat.le_refl _,fun i e he=>by
  match i,he with
  |0,he=>
   obtain rfl:((1:Int),(1:Int))=e:=Option.some.inj he
   exact⟨blk_cell hE (i:=0) rfl,blk_cell hE (i:=1) rfl⟩
  |1,he=>
   obtain rfl:((1:Int),(4:Int))=e:=Option.some.inj he
   exact⟨blk_cell hE (i:=2) rfl,blk_cell hE (i:=3) rfl⟩
  |i+2,he=>cases he⟩
 refine(lvE.go (mkE [] [] [(22,pairV P3),(23,makerV ⟨0,0,0,0⟩),(26,slV Eb 0 2 2)]) (Q:=fun v w'=>v=.tuple #[iV 30,iV 1]) FD' rfl fun w' fE=>(Fits_all (m:=⟨0,0,0,0⟩) (pair_flow (hP3.keep (fD.trans fE))) (hEnds.keep fE) (by rw[pair_chk]) (fun i x hi=>?_) rfl (by decide) (by decide) (by decide)).mono fun v w2 hd=>⟨hd.1,by
  have:=hd.2
  rw[pair_fits]at this
  exact this⟩).trans fun gE wE hdE=>?_
 ·match i,hi with
  |0,hi=>
   obtain rfl:letA=x:=Option.some.inj hi
   rfl
  |1,hi=>
   obtain rfl:letB=x:=Option.some.inj hi
   rfl
  |i+2,hi=>cases hi
 obtain⟨frE,vv,rfl,fE,rfl,FE⟩:=hdE
 have g1:=f5.trans (f6.trans (f7.trans (f8.trans (f9.trans (fA.trans (fB.trans (fC.trans (fD.trans fE))))))))
 have g2:=fB.trans (fC.trans (fD.trans fE))
 refine(lvF.go (mkE [(81,c),(82,c2)] [(73,D),(72,N),(74,L)] []) FE rfl trivial ⟨g1.cell d2,g1.cell d3,g2.cell l1,trivial⟩).trans fun gF wF hdF=>?_
 obtain⟨I,B,frF,rfl,fF,FF,_⟩:=hdF
 refine(leave1 ret6 FF rfl).mono fun gG wG hdG=>?_
 obtain⟨frG,rfl,rfl,hL⟩:=hdG
 exact⟨frG,_,rfl,hL,f1.trans (f2.trans (f3.trans (f4.trans (g1.trans fF)))),rfl⟩
end
noncomputable def q3(l:List Nat):Code:=pc (bodyOf Try.f3) l
theorem ga:Pc 3 135 [.code (q3 [])] ([(0,.agg [.opq 8,.opq 9]),(1,.agg [i64 (v 21),i64 (v 22),i64 (v 23),i64 (v 24)]),(2,i64 (v 30)),(3,.agg [i8 (v 31),i64 (v 32)])]) [] [] [] 11 [102,101,100] [2,4,5,7,17] [.inRegion (opsOf (q3 [1,0,0])) [1],.code (q3 [1,0,1]),.code (q3 [1,1])] [i64 (v 30),ptr0 100,ptr0 101,ptr0 102,.agg [.opq 8,.opq 9]] [(102,.cells [i8 (v 31),i64 (v 32)] 30),(101,.cells [i64 (v 21),i64 (v 22),i64 (v 23),i64 (v 24)] 27),(100,.cells [.opq 8,.opq 9] 25)]:=⟨fun st=>by kernel_rfl,fun st=>by kernel_rfl,by kernel_rfl,of_decide_eq_true (by kernel_rfl)⟩
theorem gb:OpC 135 (opsOf (q3 [1,0,0])) 1 [(17,.opq 17)] 5 [.opq 17] 18:=⟨fun st=>by kernel_rfl,fun st=>by kernel_rfl,fun st=>by kernel_rfl,by kernel_rfl,by decide,rfl⟩
theorem gc:Pc 3 135 [.inRegion (opsOf (q3 [1,0,0])) [],.code (q3 [1,0,1]),.code (q3 [1,1])] ([(18,TB)]) [] [] [] 4 [] [] [.inRegion (opsOf (q3 [1,0,1,0,0])) [0,1],.code .ret,.code (q3 [1,1])] [] []:=⟨fun st=>by kernel_rfl,fun st=>by kernel_rfl,by kernel_rfl,of_decide_eq_true (by kernel_rfl)⟩
theorem ge:Pc 3 135 [.inRegion (opsOf (q3 [1,0,1,0,0])) [1],.code .ret,.code (q3 [1,1])] ([(19,.opq 19)]) [] [] [] 2 [] [8] [.code .ret,.code (q3 [1,1])] [.opq 19] []:=⟨fun st=>by kernel_rfl,fun st=>by kernel_rfl,by kernel_rfl,of_decide_eq_true (by kernel_rfl)⟩
theorem gl:Pc 3 135 [.code (q3 [1,1,1,1,1,1,1,0,1,0,0]),.inLoop (q3 [1,1,1,1,1,1,1,0,1,0,0]),.inBlock 0,.code (q3 [1,1,1,1,1,1,1,1])] ([(2,i64 (v 30)),(4,ptr0 64),(5,ptr0 65),(7,ptr0 66),(9,.slice (some ⟨(.dyn 80),(v 83)⟩) (v 81) (v 82)),(13,i64 (v 10))]) [((.cmp .lss (v 10) (.tn (v 81))),true)] [] [] 13 [] [2,4,5,7,9,13] [.code (q3 [1,1,1,1,1,1,1,0,1,0,0,1,0,0,0]),.code (q3 [1,1,1,1,1,1,1,0,1,0,0,1,0,0,1]),.inBlock 1,.code (q3 [1,1,1,1,1,1,1,0,1,0,0,1,1]),.inLoop (q3 [1,1,1,1,1,1,1,0,1,0,0]),.inBlock 0,.code (q3 [1,1,1,1,1,1,1,1])] [i64 (v 30),ptr0 64,ptr0 65,ptr0 66,.slice (some ⟨(.dyn 80),(v 83)⟩) (v 81) (v 82),i64 (v 10)] []:=⟨fun st=>by kernel_rfl,fun st=>by kernel_rfl,by kernel_rfl,of_decide_eq_true (by kernel_rfl)⟩
theorem go1(y:Bool):Pc 3 135 [.code (q3 [1,1,1,1,1,1,1,0,1,0,0]),.inLoop (q3 [1,1,1,1,1,1,1,0,1,0,0]),.inBlock 0,.code (q3 [1,1,1,1,1,1,1,1])] ([(2,i64 (v 30)),(4,ptr0 64),(5,ptr0 65),(7,ptr0 66),(9,slZ y 80 83 81 82),(13,i64 (v 10))]) [((.cmp .lss (v 10) (lnZ y 81)),false),((.cmp .lss (v 30) (.lit 0)),true)] [(⟨(.dyn 80),(.plus (.tn (v 83)) (.times (.tn (v 30)) (.lit 2)))⟩,i8 (v 11)),(⟨(.dyn 80),(.plus (.tn (.plus (.tn (v 83)) (.times (.tn (v 30)) (.lit 2)))) (.lit 1))⟩,i64 (v 12)),(⟨(.dyn 66),(.lit 0)⟩,i8 (v 31)),(⟨(.dyn 66),(.lit 1)⟩,i64 (v 32))] [] 16 [] [] [.inRegion (opsOf (q3 [1,1,1,1,1,1,1,1,0,1,0,0])) [0,1],.code .ret,.code (q3 [1,1,1,1,1,1,1,1,1])] [] []:=⟨fun st=>by cases y<;>kernel_rfl,fun st=>by cases y<;>kernel_rfl,by cases y<;>kernel_rfl,of_decide_eq_true (by kernel_rfl)⟩
theorem gs:Pc 3 135 [.inRegion (opsOf (q3 [1,1,1,1,1,1,1,1,1,1,1,0])) [],.code (q3 [1,1,1,1,1,1,1,1,1,1,1,1])] ([(2,i64 (v 30)),(11,i64 (.lit 30)),(12,i64 (v 30))]) [((.cmp .eql (v 30) (v 30)),true)] [] [] 11 [] [132] [.inRegion (opsOf (q3 [1,1,1,1,1,1,1,1,1,1,1,1,0])) [8,9,10],.code .ret] [TB] []:=⟨fun st=>by kernel_rfl,fun st=>by kernel_rfl,by kernel_rfl,of_decide_eq_true (by kernel_rfl)⟩
end Go.Proofs.Ytmobbajggkjpgaa

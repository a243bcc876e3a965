/-
  A symbolic run of the model, proved sound, and the walk of the code: a text of its parts. Conditions: none.
-/
import Derived.Test.YtmobbajggkjpgaaHF
import Derived.Ground.NamesProg
import Derived.Ground.Names2Prog
import Derived.Shelf.Sort.Plain
import Derived.Shelf.Slices.In.SortNone
import Derived.Shelf.Slices.CompactI
import Derived.Shelf.Slices.Turned
set_option linter.unusedSectionVars false
set_option maxRecDepth 100000
set_option linter.unusedVariables false
set_option linter.unusedSimpArgs false
namespace Go.Proofs.Ytmobbajggkjpgaa
open Go.Proofs.Ytmobbajggkjpgaa.SX Go.Conc
def okV(e:Int×Int):Prop:=e.1=1∨e.1=2∨e.1=3
section
variable {m:MakerD}{E E':List (Int×Int)}{N:Nat}
mutual
theorem evF_ext(h:∀i,i<N->E[i]?=E'[i]?):∀{t:T},NeedT N t->evF E m t=evF E' m t
 |.nd n ks,⟨h1,h2,h3,h4⟩=>by
  unfold evF
  rw[evL_ext h h4]
  unfold combF
  by_cases e2:n.op=2
  ·have:=h1 e2
   have e:=h n.n.toNat (by omega)
   rw[List.getD_eq_getElem?_getD,List.getD_eq_getElem?_getD,e]
  ·rw[if_neg e2,if_neg e2]
theorem evL_ext(h:∀i,i<N->E[i]?=E'[i]?):∀{ts:List T},NeedL N ts->evL E m ts=evL E' m ts
 |[],_=>rfl
 |t::ts,⟨h1,h2⟩=>by
  unfold evL
  rw[evF_ext h h1,evL_ext h h2]
end
theorem lastF_ok{op x:Int}:∀{vs:List (Int×Int)} {acc:Int},(∀e∈vs,okV e)->okV (lastF op x acc vs)
 |[],acc,h=>.inl rfl
 |e::r,acc,h=>by
  unfold lastF
  split
  ·exact lastF_ok fun e' he=>h e' (List.mem_cons_of_mem _ he)
  ·exact h e (List.mem_cons_self ..)
theorem buildF_ok{k:Int}:okV (buildF m k):=by
 unfold buildF
 split
 ·exact .inr (.inr rfl)
 split
 ·exact .inr (.inl rfl)
 ·exact .inl rfl
theorem getD_ok{vs:List (Int×Int)}{i:Nat}(h:∀e∈vs,okV e)(hi:i<vs.length):okV (vs.getD i (0,0)):=by
 rw[List.getD_eq_getElem?_getD,List.getElem?_eq_getElem hi]
 exact h _ (List.getElem_mem hi)
theorem headD_ok{vs:List (Int×Int)}(h:∀e∈vs,okV e)(hn:vs≠[]):okV (vs.headD (0,0)):=by
 cases vs with
 |nil=>exact(hn rfl).elim
 |cons e r=>exact h e (List.mem_cons_self ..)
theorem withF_ok{op x:Int}{vs:List (Int×Int)}(h:∀e∈vs,okV e)(h12:op=12->vs.length=3):okV (withF op x m vs):=by
 unfold withF
 split
 ·rename_i e
  have:=h12 e
  split<;>exact getD_ok h (by omega)
 split
 ·exact .inl rfl
 split
 ·exact .inr (.inl rfl)
 split
 ·exact .inr (.inr rfl)
 split
 ·exact buildF_ok
 split
 ·exact .inl rfl
 ·exact lastF_ok fun e he=>h e (List.mem_of_mem_drop he)
mutual
theorem evF_ok(h:∀e∈E,okV e)(hN:N≤E.length):∀{t:T},NeedT N t->okV (evF E m t)
 |.nd n ks,⟨h1,h2,h3,h4⟩=>by
  have hv:=evL_ok h hN h4
  unfold evF combF
  split
  ·exact .inl rfl
  rename_i e1
  split
  ·rename_i e2
   have:=h1 e2
   exact getD_ok h (by omega)
  rename_i e2
  have hne:evL E m ks≠[]:=fun e=>by
   have:=evL_len E m ks
   rw[e]at this
   exact h2 e1 e2 (List.length_eq_zero_iff.1 this.symm)
  split
  ·cases hf:(evL E m ks).find? fun e=>decide (e.1=1)with
   |none=>exact headD_ok hv hne
   |some e=>exact hv e (List.mem_of_find?_eq_some hf)
  split
  ·exact withF_ok hv fun e=>by rw[evL_len];exact h3 e
  ·exact headD_ok hv hne
theorem evL_ok(h:∀e∈E,okV e)(hN:N≤E.length):∀{ts:List T},NeedL N ts->∀e∈evL E m ts,okV e
 |[],_,e,he=>by cases he
 |t::ts,⟨h1,h2⟩,e,he=>by
  unfold evL at he
  rcases List.mem_cons.1 he with rfl|he
  ·exact evF_ok h hN h1
  ·exact evL_ok h hN h2 e he
end
end
theorem plainEnds_spec(m:MakerD):∀(L:List LetD) (E:List (Int×Int)),∃R,plainEnds m L E=E++R∧R.length=L.length∧∀i x,L[i]?=some x->R[i]?=some (endOf m (E++R.take i) x)
 |[],E=>⟨[],by simp[plainEnds],rfl,fun i x hi=>by cases hi⟩
 |y::L,E=>by
  obtain⟨R,h1,h2,h3⟩:=plainEnds_spec m L (E++[endOf m E y])
  refine⟨endOf m E y::R,by rw[plainEnds,h1,List.append_assoc];rfl,by simp[h2],fun i x hi=>?_⟩
  cases i with
  |zero=>
   obtain rfl:y=x:=Option.some.inj hi
   simp
  |succ i=>
   have:=h3 i x hi
   rw[List.append_assoc]at this
   exact this
theorem plain_at{m:MakerD}{L:List LetD}:(plainEnds m L []).length=L.length∧∀i x,L[i]?=some x->(plainEnds m L [])[i]?=some (endOf m ((plainEnds m L []).take i) x):=by
 obtain⟨R,h1,h2,h3⟩:=plainEnds_spec m L []
 rw[List.nil_append]at h1
 rw[h1]
 exact⟨h2,fun i x hi=>by simpa using h3 i x hi⟩
section
variable {m:MakerD}{L:List LetD}
theorem plain_ok(hg:∀i x,L[i]?=some x->∃t,GoodLet x i t):∀(i:Nat) (e:Int×Int),(plainEnds m L [])[i]?=some e->okV e:=by
 obtain⟨hl,hat⟩:=plain_at (m:=m) (L:=L)
 intro i
 induction i using Nat.strongRecOn with
 |ind i ih=>
  intro e he
  have hi:i<L.length:=by
   rw[<-hl]
   exact(List.getElem?_eq_some_iff.1 he).1
  obtain⟨x,hx⟩:∃x,L[i]?=some x:=⟨_,List.getElem?_eq_getElem hi⟩
  obtain⟨t,ht⟩:=hg i x hx
  have:=hat i x hx
  rw[he]at this
  have:=Option.some.inj this
  rw[this]
  unfold endOf
  rw[ht.tr]
  refine evF_ok (N:=i) (fun e' he'=>?_) (by rw[List.length_take,hl];omega) ht.nd
  obtain⟨j,hj⟩:=List.getElem?_of_mem he'
  rw[List.getElem?_take]at hj
  split at hj
  ·exact ih j (by assumption) e' hj
  ·cases hj
theorem plain_ev{i:Nat}{x:LetD}{t:T}{E:List (Int×Int)}(hx:L[i]?=some x)(ht:GoodLet x i t)(hE:∀j,j<i->E[j]?=(plainEnds m L [])[j]?):(plainEnds m L [])[i]?=some (evF E m t):=by
 obtain⟨hl,hat⟩:=plain_at (m:=m) (L:=L)
 rw[hat i x hx]
 unfold endOf
 rw[ht.tr]
 congr 1
 refine evF_ext (N:=i) (fun j hj=>?_) ht.nd
 rw[hE j hj,List.getElem?_take,if_pos hj]
theorem fit_same(hg:∀i x,L[i]?=some x->∃t,GoodLet x i t){E:List (Int×Int)}{j:Nat}{x:LetD}(hx:L[j]?=some x)(hE:∀k,k≤j->E[k]?=(plainEnds m L [])[k]?):fitAt m E j x=true:=by
 obtain⟨t,ht⟩:=hg j x hx
 have hev:=plain_ev (m:=m) (E:=E) hx ht fun k hk=>hE k (by omega)
 have hEj:E[j]?=some (evF E m t):=(hE j (Nat.le_refl _)).trans hev
 have hok:=plain_ok hg j _ hev
 unfold fitAt
 rw[ht.tr,hEj]
 show fitF m E j (evF E m t) t=true
 unfold fitF
 rw[if_neg (fun h=>by
  have:=h.1
  unfold okV at hok
  omega)]
 simp
theorem fits_upto(hg:∀i x,L[i]?=some x->∃t,GoodLet x i t){E:List (Int×Int)}:∀(k i:Nat),(∀j x,i≤j->j<i+k->L[j]?=some x->fitAt m E j x=true)->fitsL m E (L.drop i) i=if i+k≥L.length then(0,0)else fitsL m E (L.drop (i+k)) (i+k)
 |0,i,h=>by
  split
  ·rw[List.drop_of_length_le (by omega)];rfl
  ·rfl
 |k+1,i,h=>by
  by_cases hi:i<L.length
  ·obtain⟨x,hx⟩:∃x,L[i]?=some x:=⟨_,List.getElem?_eq_getElem hi⟩
   have hdrop:L.drop i=x::L.drop (i+1):=by
    rw[List.drop_eq_getElem_cons hi]
    congr 1
    exact Option.some.inj ((List.getElem?_eq_getElem hi).symm.trans hx)
   rw[hdrop,show fitsL m E (x::L.drop (i+1)) i=if fitAt m E i x then fitsL m E (L.drop (i+1)) (i+1)else(30,i)from rfl]
   rw[if_pos (h i x (Nat.le_refl _) (by omega) hx),fits_upto hg k (i+1) fun j x h1 h2 hx=>h j x (by omega) (by omega) hx]
   rw[show i+1+k=i+(k+1) by omega]
  ·rw[if_pos (by omega),List.drop_of_length_le (by omega)];rfl
theorem fits_set(hg:∀i x,L[i]?=some x->∃t,GoodLet x i t){i:Nat}{e:Int×Int}(hi:i<L.length)(hne:(plainEnds m L [])[i]?≠some e):fitsL m ((plainEnds m L []).set i e) L 0=(30,(i:Int)):=by
 obtain⟨hl,hat⟩:=plain_at (m:=m) (L:=L)
 have hset:∀k,k<i->((plainEnds m L []).set i e)[k]?=(plainEnds m L [])[k]?:=fun k hk=>by
  rw[List.getElem?_set_ne (by omega)]
 have h1:=fits_upto (m:=m) hg (E:=(plainEnds m L []).set i e) i 0 fun j x _ h2 hx=>fit_same hg hx fun k hk=>hset k (by omega)
 rw[List.drop_zero,if_neg (by omega),Nat.zero_add]at h1
 rw[h1]
 obtain⟨x,hx⟩:∃x,L[i]?=some x:=⟨_,List.getElem?_eq_getElem hi⟩
 have hdrop:L.drop i=x::L.drop (i+1):=by
  rw[List.drop_eq_getElem_cons hi]
  congr 1
  exact Option.some.inj ((List.getElem?_eq_getElem hi).symm.trans hx)
 obtain⟨t,ht⟩:=hg i x hx
 have hev:=plain_ev (m:=m) (E:=(plainEnds m L []).set i e) hx ht hset
 have hEi:((plainEnds m L []).set i e)[i]?=some e:=by
  rw[List.getElem?_set_self (by rw[hl];exact hi)]
 have hf:fitAt m ((plainEnds m L []).set i e) i x=false:=by
  unfold fitAt
  rw[ht.tr,hEi]
  show fitF m _ i e t=false
  unfold fitF
  split
  ·rfl
  ·refine decide_eq_false fun h=>hne ?_
   rw[hev,h]
 rw[hdrop]
 unfold fitsL
 rw[hf];rfl
end
def PE(F:FlowD)(m:MakerD)(s:Value)(w:World):Prop:=EndsAt w s (plainF F m).2∧((plainF F m).2=[]->s=nilV)
theorem PE.keep{F:FlowD}{m:MakerD}{s:Value}{w w':World}(h:PE F m s w)(f:Fresh w w'):PE F m s w':=⟨h.1.keep f,h.2⟩
noncomputable abbrev d3:Array Oper:=opsOf (q3 [1,1,0])
def n3(i:Nat):Nat:=match i with
 |0=>21|1=>22|2=>23|3=>24|4=>20|5=>25|6=>26|7=>9|_=>10
def v3(x:Value)(F:FlowD)(m:MakerD)(i:Nat)(v:Value)(w:World):Prop:=match i with
 |0=>v=x
 |1=>FlowAt w v F
 |2=>v=makerV m
 |3=>∃s,v=.tuple #[s,iV (plainF F m).1]∧PE F m s w
 |4=>∃s,v=.tuple #[s,iV (plainF F m).1]∧PE F m s w
 |5=>PE F m v w
 |6=>v=iV (plainF F m).1
 |7=>PE F m v w
 |_=>v=iV (plainF F m).1
def n8(i:Nat):Nat:=match i with
 |0=>42|1=>43|2=>44|3=>45|4=>46|5=>47|6=>41|7=>48|8=>49|9=>11|_=>12
def v8(x s:Value)(F:FlowD)(m:MakerD)(E:List (Int×Int))(r:Int×Int)(i:Nat)(v:Value)(w:World):Prop:=match i with
 |0=>v=x
 |1=>FlowAt w v F
 |2=>v=makerV m
 |3=>v=s
 |4=>EndsAt w v E
 |5=>v=.tuple #[iV r.1,iV r.2]
 |6=>v=.tuple #[iV r.1,iV r.2]
 |7=>v=iV r.1
 |8=>v=iV r.2
 |9=>v=iV r.1
 |_=>v=iV r.2
def v21(x s:Value)(F:FlowD)(m:MakerD)(E:List (Int×Int))(r:Int×Int)(i:Nat)(v:Value)(w:World):Prop:=match i with
 |0=>v=x
 |1=>FlowAt w v F
 |2=>v=makerV m
 |3=>v=s
 |4=>v=.tuple #[iV r.1,iV r.2]
 |5=>v=.tuple #[iV r.1,iV r.2]
 |6=>v=iV r.1
 |7=>v=iV r.2
 |8=>v=iV r.1
 |_=>v=iV r.2
def nE(i:Nat):Nat:=match i with
 |0=>63|1=>64|2=>65|3=>66|4=>67|5=>68|6=>69|7=>70|8=>71|9=>62|10=>72|11=>73|12=>14|13=>200|_=>15
theorem FA.both{fn nt:Nat}{t:List Item}{ds:List Deferred}{kind:CallKind}{lv l:List (Nat×Value)}{fr:Frame}(h:FA fn nt t ds kind lv fr)(h':FA fn nt t ds kind l fr):FA fn nt t ds kind (lv++l) fr:=by
 obtain⟨⟨tm,rfl,h2,h3⟩,h4,h5⟩:=h
 obtain⟨⟨tm',e,h2',h3'⟩,_,_⟩:=h'
 have e:tm=tm':=by
  have:=congrArg Frame.tmps e
  exact this
 subst e
 exact⟨⟨tm,rfl,h2,fun p hp=>(List.mem_append.1 hp).elim (h3 p) (h3' p)⟩,h4,h5⟩
noncomputable abbrev d17:Array Oper:=opsOf (q3 [1,1,1,1,1,1,1,1,0,1,0,0])
theorem gw:Pc 3 135 [.inRegion d17 [1],.code .ret,.code (q3 [1,1,1,1,1,1,1,1,1])] ([(110,.opq 19)]) [] [] [] 2 [] [8] [.code .ret,.code (q3 [1,1,1,1,1,1,1,1,1])] [.opq 19] []:=⟨fun st=>by kernel_rfl,fun st=>by kernel_rfl,by kernel_rfl,of_decide_eq_true (by kernel_rfl)⟩
theorem bna1:Pc 28 30 [.code (q28 [])] ([(0,.agg [ss 1,.slice (some ⟨(.dyn 70),(v 73)⟩) (v 71) (v 72),i64 (v 4)])]) [] [] [] 13 [100] [1,3,6] [.inRegion (opsOf (q28 [1,1,0,0])) [1,2],.code (q28 [1,1,0,1]),.code (q28 [1,1,1])] [ptr0 100,nilA,.agg [ss 1,.slice (some ⟨(.dyn 70),(v 73)⟩) (v 71) (v 72),i64 (v 4)]] [(100,.cells [ss 1,.slice (some ⟨(.dyn 70),(v 73)⟩) (v 71) (v 72),i64 (v 4)] 51)]:=⟨fun st=>by kernel_rfl,fun st=>by kernel_rfl,by kernel_rfl,of_decide_eq_true (by kernel_rfl)⟩
theorem bna2:OpC 30 (opsOf (q28 [1,1,0,0])) 1 [(6,.opq 6)] 22 [.opq 6] 7:=⟨fun st=>by kernel_rfl,fun st=>by kernel_rfl,fun st=>by kernel_rfl,by kernel_rfl,by decide,rfl⟩
theorem bna3:Pc 28 30 [.inRegion (opsOf (q28 [1,1,0,0])) [2],.code (q28 [1,1,0,1]),.code (q28 [1,1,1])] ([(1,ptr0 64),(3,nilA),(7,i8 (v 1))]) [((.cmp .eql (v 1) (.lit 18)),true)] [] [] 7 [] [2] [.code .ret,.code (q28 [1,1,1])] [nilA] []:=⟨fun st=>by kernel_rfl,fun st=>by kernel_rfl,by kernel_rfl,of_decide_eq_true (by kernel_rfl)⟩
theorem bna4:Pc 28 30 [.inRegion (opsOf (q28 [1,1,0,0])) [2],.code (q28 [1,1,0,1]),.code (q28 [1,1,1])] ([(1,ptr0 64),(3,nilA),(7,i8 (v 1))]) [((.cmp .eql (v 1) (.lit 18)),false)] [(⟨(.dyn 64),(.lit 0)⟩,ss 1),(⟨(.dyn 64),(.lit 1)⟩,.slice (some ⟨(.dyn 70),(v 73)⟩) (v 71) (v 72)),(⟨(.dyn 64),(.lit 2)⟩,i64 (v 4))] [] 14 [] [3,10,11,12] [.code (q28 [1,1,1,0,1,0,0]),.inLoop (q28 [1,1,1,0,1,0,0]),.inBlock 0,.code (q28 [1,1,1,1])] [nilA,.slice (some ⟨(.dyn 70),(v 73)⟩) (v 71) (v 72),i64 (.tn (v 71)),i64 (.lit 0)] []:=⟨fun st=>by kernel_rfl,fun st=>by kernel_rfl,by kernel_rfl,of_decide_eq_true (by kernel_rfl)⟩
theorem bna5:Pc 28 30 [.code (q28 [1,1,1,0,1,0,0]),.inLoop (q28 [1,1,1,0,1,0,0]),.inBlock 0,.code (q28 [1,1,1,1])] ([(3,.opq 5),(10,.slice (some ⟨(.dyn 70),(v 73)⟩) (v 71) (v 72)),(11,i64 (.tn (v 71))),(12,i64 (v 10))]) [((.cmp .lss (v 10) (.tn (v 71))),true),((.cmp .leq (.lit 0) (v 10)),true),((.cmp .lss (v 10) (.lit 0)),false),((.cmp .geq (v 10) (.tn (v 71))),false),((.cmp .eql (v 1) (.lit 2)),false)] [(⟨(.dyn 70),(.plus (.tn (v 73)) (.times (.tn (v 10)) (.lit 4)))⟩,i8 (v 1)),(⟨(.dyn 70),(.plus (.tn (.plus (.tn (v 73)) (.times (.tn (v 10)) (.lit 4)))) (.lit 1))⟩,i64 (v 2)),(⟨(.dyn 70),(.plus (.tn (.plus (.tn (v 73)) (.times (.tn (v 10)) (.lit 4)))) (.lit 2))⟩,i64 (v 3)),(⟨(.dyn 70),(.plus (.tn (.plus (.tn (v 73)) (.times (.tn (v 10)) (.lit 4)))) (.lit 3))⟩,i64 (v 4))] [] 30 [100] [3,10,11,12] [.code (q28 [1,1,1,0,1,0,0]),.inLoop (q28 [1,1,1,0,1,0,0]),.inBlock 0,.code (q28 [1,1,1,1])] [.opq 5,.slice (some ⟨(.dyn 70),(v 73)⟩) (v 71) (v 72),i64 (.tn (v 71)),i64 (.op .add .i64 (v 10) (.lit 1))] [(100,.cells [i8 (v 1),i64 (v 2),i64 (v 3),i64 (v 4)] 75)]:=⟨fun st=>by kernel_rfl,fun st=>by kernel_rfl,by kernel_rfl,of_decide_eq_true (by kernel_rfl)⟩
theorem bna6:Pc 28 30 [.code (q28 [1,1,1,0,1,0,0]),.inLoop (q28 [1,1,1,0,1,0,0]),.inBlock 0,.code (q28 [1,1,1,1])] ([(3,nilA),(10,.slice (some ⟨(.dyn 70),(v 73)⟩) (v 71) (v 72)),(11,i64 (.tn (v 71))),(12,i64 (v 10))]) [((.cmp .lss (v 10) (.tn (v 71))),true),((.cmp .leq (.lit 0) (v 10)),true),((.cmp .lss (v 10) (.lit 0)),false),((.cmp .geq (v 10) (.tn (v 71))),false),((.cmp .eql (v 1) (.lit 2)),true)] [(⟨(.dyn 70),(.plus (.tn (v 73)) (.times (.tn (v 10)) (.lit 4)))⟩,i8 (v 1)),(⟨(.dyn 70),(.plus (.tn (.plus (.tn (v 73)) (.times (.tn (v 10)) (.lit 4)))) (.lit 1))⟩,i64 (v 2)),(⟨(.dyn 70),(.plus (.tn (.plus (.tn (v 73)) (.times (.tn (v 10)) (.lit 4)))) (.lit 2))⟩,i64 (v 3)),(⟨(.dyn 70),(.plus (.tn (.plus (.tn (v 73)) (.times (.tn (v 10)) (.lit 4)))) (.lit 3))⟩,i64 (v 4))] [] 37 [102] [3,10,11,12] [.code (q28 [1,1,1,0,1,0,0]),.inLoop (q28 [1,1,1,0,1,0,0]),.inBlock 0,.code (q28 [1,1,1,1])] [.slice (some ⟨(.dyn 102),(.lit 0)⟩) (.lit 1) (v 102),.slice (some ⟨(.dyn 70),(v 73)⟩) (v 71) (v 72),i64 (.tn (v 71)),i64 (.op .add .i64 (v 10) (.lit 1))] [(102,.row [i64 (v 2)] 3 (v 102))]:=⟨fun st=>by kernel_rfl,fun st=>by kernel_rfl,by kernel_rfl,of_decide_eq_true (by kernel_rfl)⟩
theorem bna7:Pc 28 30 [.code (q28 [1,1,1,0,1,0,0]),.inLoop (q28 [1,1,1,0,1,0,0]),.inBlock 0,.code (q28 [1,1,1,1])] ([(3,.slice (some ⟨(.dyn 62),(.lit 0)⟩) (v 8) (v 57)),(10,.slice (some ⟨(.dyn 70),(v 73)⟩) (v 71) (v 72)),(11,i64 (.tn (v 71))),(12,i64 (v 10))]) [((.cmp .lss (v 10) (.tn (v 71))),true),((.cmp .leq (.lit 0) (v 10)),true),((.cmp .lss (v 10) (.lit 0)),false),((.cmp .geq (v 10) (.tn (v 71))),false),((.cmp .eql (v 1) (.lit 2)),true),((.cmp .leq (.plus (.tn (v 8)) (.lit 1)) (.lit 1048576)),true)] [(⟨(.dyn 70),(.plus (.tn (v 73)) (.times (.tn (v 10)) (.lit 4)))⟩,i8 (v 1)),(⟨(.dyn 70),(.plus (.tn (.plus (.tn (v 73)) (.times (.tn (v 10)) (.lit 4)))) (.lit 1))⟩,i64 (v 2)),(⟨(.dyn 70),(.plus (.tn (.plus (.tn (v 73)) (.times (.tn (v 10)) (.lit 4)))) (.lit 2))⟩,i64 (v 3)),(⟨(.dyn 70),(.plus (.tn (.plus (.tn (v 73)) (.times (.tn (v 10)) (.lit 4)))) (.lit 3))⟩,i64 (v 4))] [(62,.pre false 63 (v 8) [] [] [] 3 (v 57))] 37 [102] [3,10,11,12] [.code (q28 [1,1,1,0,1,0,0]),.inLoop (q28 [1,1,1,0,1,0,0]),.inBlock 0,.code (q28 [1,1,1,1])] [.slice (some ⟨(.dyn 102),(.lit 0)⟩) (.plus (.tn (v 8)) (.lit 1)) (v 102),.slice (some ⟨(.dyn 70),(v 73)⟩) (v 71) (v 72),i64 (.tn (v 71)),i64 (.op .add .i64 (v 10) (.lit 1))] [(102,.pre false 63 (v 8) [] [] [i64 (v 2)] 3 (v 102))]:=⟨fun st=>by kernel_rfl,fun st=>by kernel_rfl,by kernel_rfl,of_decide_eq_true (by kernel_rfl)⟩
theorem bna8:Pc 28 30 [.code (q28 [1,1,1,0,1,0,0]),.inLoop (q28 [1,1,1,0,1,0,0]),.inBlock 0,.code (q28 [1,1,1,1])] ([(3,.opq 5),(10,.slice (some ⟨(.dyn 70),(v 73)⟩) (v 71) (v 72)),(11,i64 (.tn (v 71))),(12,i64 (v 10))]) [((.cmp .lss (v 10) (.tn (v 71))),false)] [] [] 10 [] [3,25] [.inRegion (opsOf (q28 [1,1,1,1,0])) [1],.code (q28 [1,1,1,1,1])] [.opq 5,.opq 5] []:=⟨fun st=>by kernel_rfl,fun st=>by kernel_rfl,by kernel_rfl,of_decide_eq_true (by kernel_rfl)⟩
theorem bnaN:Pc 28 30 [.code (q28 [1,1,1,0,1,0,0]),.inLoop (q28 [1,1,1,0,1,0,0]),.inBlock 0,.code (q28 [1,1,1,1])] ([(3,nilA),(10,.slice (some ⟨(.dyn 70),(v 73)⟩) (v 71) (v 72)),(11,i64 (.tn (v 71))),(12,i64 (v 10))]) [((.cmp .lss (v 10) (.tn (v 71))),false)] [] [] 178 [] [2] [.code .ret] [nilA] []:=⟨fun st=>by kernel_rfl,fun st=>by kernel_rfl,by kernel_rfl,of_decide_eq_true (by kernel_rfl)⟩
theorem bna9:OpC 30 (opsOf (q28 [1,1,1,1,0])) 1 [(25,.opq 25)] 39 [.opq 25] 26:=⟨fun st=>by kernel_rfl,fun st=>by kernel_rfl,fun st=>by kernel_rfl,by kernel_rfl,by decide,rfl⟩
theorem bnaA:Pc 28 30 [.inRegion (opsOf (q28 [1,1,1,1,0])) [],.code (q28 [1,1,1,1,1])] ([(3,.opq 3)]) [] [] [] 4 [] [3,27] [.inRegion (opsOf (q28 [1,1,1,1,1,0])) [1,2,3],.code .ret] [.opq 3,.opq 3] []:=⟨fun st=>by kernel_rfl,fun st=>by kernel_rfl,by kernel_rfl,of_decide_eq_true (by kernel_rfl)⟩
theorem bnaB:OpC 30 (opsOf (q28 [1,1,1,1,1,0])) 1 [(27,.opq 27)] 41 [.opq 27] 28:=⟨fun st=>by kernel_rfl,fun st=>by kernel_rfl,fun st=>by kernel_rfl,by kernel_rfl,by decide,rfl⟩
theorem bnaC:OpC 30 (opsOf (q28 [1,1,1,1,1,0])) 2 [(28,.opq 28)] 40 [.opq 28] 29:=⟨fun st=>by kernel_rfl,fun st=>by kernel_rfl,fun st=>by kernel_rfl,by kernel_rfl,by decide,rfl⟩
theorem bnaD:Pc 28 30 [.inRegion (opsOf (q28 [1,1,1,1,1,0])) [3],.code .ret] ([(29,.opq 29)]) [] [] [] 2 [] [2] [.code .ret] [.opq 29] []:=⟨fun st=>by kernel_rfl,fun st=>by kernel_rfl,by kernel_rfl,of_decide_eq_true (by kernel_rfl)⟩
theorem bnb1:Pc 13 31 [.code (q13 [])] ([(0,.agg [.slice (some ⟨(.dyn 50),(v 53)⟩) (v 51) (v 52),.opq 9]),(1,i64 (v 10))]) [] [] [] 9 [100] [1,2,8] [.inRegion (opsOf (q13 [1,0,0])) [1,2,3,4,5,6],.code (q13 [1,0,1]),.code (q13 [1,1])] [i64 (v 10),ptr0 100,.agg [.slice (some ⟨(.dyn 50),(v 53)⟩) (v 51) (v 52),.opq 9]] [(100,.cells [.slice (some ⟨(.dyn 50),(v 53)⟩) (v 51) (v 52),.opq 9] 25)]:=⟨fun st=>by kernel_rfl,fun st=>by kernel_rfl,by kernel_rfl,of_decide_eq_true (by kernel_rfl)⟩
theorem bnb3:Pc 13 31 [.inRegion (opsOf (q13 [1,0,0])) [2,3,4,5,6],.code (q13 [1,0,1]),.code (q13 [1,1])] ([(1,i64 (v 10)),(2,ptr0 64),(9,.tuple [i64 (.lit 0),i64 (v 6)])]) [((.cmp .lss (v 10) (.tn (v 51))),true),((.cmp .leq (.lit 0) (v 10)),true),((.cmp .lss (v 10) (.lit 0)),false),((.cmp .geq (v 10) (.tn (v 51))),false)] [(⟨(.dyn 64),(.lit 0)⟩,.slice (some ⟨(.dyn 50),(v 53)⟩) (v 51) (v 52)),(⟨(.dyn 50),(.plus (.tn (v 53)) (.times (.tn (v 10)) (.lit 3)))⟩,ss 1),(⟨(.dyn 50),(.plus (.tn (.plus (.tn (v 53)) (.times (.tn (v 10)) (.lit 3)))) (.lit 1))⟩,.opq 7),(⟨(.dyn 50),(.plus (.tn (.plus (.tn (v 53)) (.times (.tn (v 10)) (.lit 3)))) (.lit 2))⟩,i64 (v 4))] [] 31 [] [29] [.inRegion (opsOf (q13 [1,1,0])) [5,6],.code .ret] [.agg [ss 1,.opq 7,i64 (v 4)]] []:=⟨fun st=>by kernel_rfl,fun st=>by kernel_rfl,by kernel_rfl,of_decide_eq_true (by kernel_rfl)⟩
theorem bnb4:OpC 31 (opsOf (q13 [1,1,0])) 5 [(29,.opq 29)] 28 [.opq 29] 30:=⟨fun st=>by kernel_rfl,fun st=>by kernel_rfl,fun st=>by kernel_rfl,by kernel_rfl,by decide,rfl⟩
theorem bnb5:Pc 13 31 [.inRegion (opsOf (q13 [1,1,0])) [6],.code .ret] ([(30,.opq 30)]) [] [] [] 2 [] [4] [.code .ret] [.opq 30] []:=⟨fun st=>by kernel_rfl,fun st=>by kernel_rfl,by kernel_rfl,of_decide_eq_true (by kernel_rfl)⟩
noncomputable def q15(l:List Nat):Code:=pc (bodyOf Try.f15) l
theorem ent15:enterA Try.prog 15 [.opq 0,.opq 1] .normal=.ok ⟨15,46,entT 15 [.opq 0,.opq 1],[.code (bodyOf Try.f15)],[],.run,.normal⟩:=by kernel_rfl
theorem ret15:RetC 15 46 4:=fun st=>by kernel_rfl
theorem bus1:Pc 15 46 [.code (q15 [])] ([(0,.agg [.slice (some ⟨(.dyn 50),(v 53)⟩) (v 51) (v 52),.opq 9]),(1,i64 (v 30))]) [] [] [] 9 [100] [1,2,4,11] [.inRegion (opsOf (q15 [1,0,0])) [1,2,3,4,5,6],.code (q15 [1,0,1]),.code (q15 [1,1])] [i64 (v 30),ptr0 100,nilA,.agg [.slice (some ⟨(.dyn 50),(v 53)⟩) (v 51) (v 52),.opq 9]] [(100,.cells [.slice (some ⟨(.dyn 50),(v 53)⟩) (v 51) (v 52),.opq 9] 25)]:=⟨fun st=>by kernel_rfl,fun st=>by kernel_rfl,by kernel_rfl,of_decide_eq_true (by kernel_rfl)⟩
theorem bus2:OpC 46 (opsOf (q15 [1,0,0])) 1 [(11,.opq 11)] 21 [.opq 11] 12:=⟨fun st=>by kernel_rfl,fun st=>by kernel_rfl,fun st=>by kernel_rfl,by kernel_rfl,by decide,rfl⟩
theorem bus3:Pc 15 46 [.inRegion (opsOf (q15 [1,0,0])) [2,3,4,5,6],.code (q15 [1,0,1]),.code (q15 [1,1])] ([(1,i64 (v 30)),(2,ptr0 64),(4,nilA),(12,.tuple [i64 (.lit 0),i64 (v 6)])]) [((.cmp .lss (v 30) (.tn (v 51))),true),((.cmp .leq (.lit 0) (v 30)),true),((.cmp .lss (v 30) (.lit 0)),false),((.cmp .geq (v 30) (.tn (v 51))),false)] [(⟨(.dyn 64),(.lit 0)⟩,.slice (some ⟨(.dyn 50),(v 53)⟩) (v 51) (v 52))] [] 38 [] [1,7,29,30,31] [.code (q15 [1,1,1,0,1,0,0]),.inLoop (q15 [1,1,1,0,1,0,0]),.inBlock 0,.code (q15 [1,1,1,1])] [i64 (v 30),nilA,.slice (some ⟨(.dyn 50),(v 53)⟩) (v 51) (v 52),i64 (.tn (v 51)),i64 (.lit 0)] []:=⟨fun st=>by kernel_rfl,fun st=>by kernel_rfl,by kernel_rfl,of_decide_eq_true (by kernel_rfl)⟩
theorem bus4:Pc 15 46 [.code (q15 [1,1,1,0,1,0,0]),.inLoop (q15 [1,1,1,0,1,0,0]),.inBlock 0,.code (q15 [1,1,1,1])] ([(1,i64 (v 30)),(7,.opq 7),(29,.slice (some ⟨(.dyn 50),(v 53)⟩) (v 51) (v 52)),(30,i64 (.tn (v 51))),(31,i64 (v 10))]) [((.cmp .lss (v 10) (.tn (v 51))),true),((.cmp .leq (.lit 0) (v 10)),true),((.cmp .lss (v 10) (.lit 0)),false),((.cmp .geq (v 10) (.tn (v 51))),false)] [(⟨(.dyn 50),(.plus (.tn (v 53)) (.times (.tn (v 10)) (.lit 3)))⟩,ss 1),(⟨(.dyn 50),(.plus (.tn (.plus (.tn (v 53)) (.times (.tn (v 10)) (.lit 3)))) (.lit 1))⟩,.slice (some ⟨(.dyn 70),(v 73)⟩) (v 71) (v 72)),(⟨(.dyn 50),(.plus (.tn (.plus (.tn (v 53)) (.times (.tn (v 10)) (.lit 3)))) (.lit 2))⟩,i64 (v 4))] [] 21 [100] [1,7,8,29,30,31,36] [.inRegion (opsOf (q15 [1,1,1,0,1,0,0,1,1,0,0,1,0])) [1,2,3],.code (q15 [1,1,1,0,1,0,0,1,1,0,0,1,1]),.inBlock 1,.code (q15 [1,1,1,0,1,0,0,1,1,1]),.inLoop (q15 [1,1,1,0,1,0,0]),.inBlock 0,.code (q15 [1,1,1,1])] [i64 (v 30),.opq 7,i64 (v 10),.slice (some ⟨(.dyn 50),(v 53)⟩) (v 51) (v 52),i64 (.tn (v 51)),i64 (v 10),.agg [ss 1,.slice (some ⟨(.dyn 70),(v 73)⟩) (v 71) (v 72),i64 (v 4)]] [(100,.cells [ss 1,.slice (some ⟨(.dyn 70),(v 73)⟩) (v 71) (v 72),i64 (v 4)] 51)]:=⟨fun st=>by kernel_rfl,fun st=>by kernel_rfl,by kernel_rfl,of_decide_eq_true (by kernel_rfl)⟩
theorem bus5:OpC 46 (opsOf (q15 [1,1,1,0,1,0,0,1,1,0,0,1,0])) 1 [(36,.opq 36)] 28 [.opq 36] 37:=⟨fun st=>by kernel_rfl,fun st=>by kernel_rfl,fun st=>by kernel_rfl,by kernel_rfl,by decide,rfl⟩
theorem bus5b:Pc 15 46 [.inRegion (opsOf (q15 [1,1,1,0,1,0,0,1,1,0,0,1,0])) [2,3],.code (q15 [1,1,1,0,1,0,0,1,1,0,0,1,1]),.inBlock 1,.code (q15 [1,1,1,0,1,0,0,1,1,1]),.inLoop (q15 [1,1,1,0,1,0,0]),.inBlock 0,.code (q15 [1,1,1,1])] ([(1,i64 (v 30)),(7,.opq 7),(29,.slice (some ⟨(.dyn 50),(v 53)⟩) (v 51) (v 52)),(30,i64 (.tn (v 51))),(31,i64 (v 10)),(8,i64 (v 10)),(37,.opq 37)]) [] [] [] 1 [] [1,7,8,29,30,31,37,38] [.inRegion (opsOf (q15 [1,1,1,0,1,0,0,1,1,0,0,1,0])) [3],.code (q15 [1,1,1,0,1,0,0,1,1,0,0,1,1]),.inBlock 1,.code (q15 [1,1,1,0,1,0,0,1,1,1]),.inLoop (q15 [1,1,1,0,1,0,0]),.inBlock 0,.code (q15 [1,1,1,1])] [i64 (v 30),.opq 7,i64 (v 10),.slice (some ⟨(.dyn 50),(v 53)⟩) (v 51) (v 52),i64 (.tn (v 51)),i64 (v 10),.opq 37,i64 (v 30)] []:=⟨fun st=>by kernel_rfl,fun st=>by kernel_rfl,by kernel_rfl,of_decide_eq_true (by kernel_rfl)⟩
theorem bus6:OpC 46 (opsOf (q15 [1,1,1,0,1,0,0,1,1,0,0,1,0])) 3 [(37,.opq 37),(38,.opq 38)] 29 [.opq 37,.opq 38] 39:=⟨fun st=>by kernel_rfl,fun st=>by kernel_rfl,fun st=>by kernel_rfl,by kernel_rfl,by decide,rfl⟩
theorem bus7:Pc 15 46 [.inRegion (opsOf (q15 [1,1,1,0,1,0,0,1,1,0,0,1,0])) [],.code (q15 [1,1,1,0,1,0,0,1,1,0,0,1,1]),.inBlock 1,.code (q15 [1,1,1,0,1,0,0,1,1,1]),.inLoop (q15 [1,1,1,0,1,0,0]),.inBlock 0,.code (q15 [1,1,1,1])] ([(1,i64 (v 30)),(7,.opq 7),(29,.slice (some ⟨(.dyn 50),(v 53)⟩) (v 51) (v 52)),(30,i64 (.tn (v 51))),(31,i64 (v 10)),(8,i64 (v 10)),(39,FB)]) [] [] [] 9 [] [1,7,29,30,31] [.code (q15 [1,1,1,0,1,0,0]),.inLoop (q15 [1,1,1,0,1,0,0]),.inBlock 0,.code (q15 [1,1,1,1])] [i64 (v 30),.opq 7,.slice (some ⟨(.dyn 50),(v 53)⟩) (v 51) (v 52),i64 (.tn (v 51)),i64 (.op .add .i64 (v 10) (.lit 1))] []:=⟨fun st=>by kernel_rfl,fun st=>by kernel_rfl,by kernel_rfl,of_decide_eq_true (by kernel_rfl)⟩
theorem bus8:Pc 15 46 [.inRegion (opsOf (q15 [1,1,1,0,1,0,0,1,1,0,0,1,0])) [],.code (q15 [1,1,1,0,1,0,0,1,1,0,0,1,1]),.inBlock 1,.code (q15 [1,1,1,0,1,0,0,1,1,1]),.inLoop (q15 [1,1,1,0,1,0,0]),.inBlock 0,.code (q15 [1,1,1,1])] ([(1,i64 (v 30)),(7,nilA),(29,.slice (some ⟨(.dyn 50),(v 53)⟩) (v 51) (v 52)),(30,i64 (.tn (v 51))),(31,i64 (v 10)),(8,i64 (v 10)),(39,TB)]) [] [] [] 15 [101] [1,7,29,30,31] [.code (q15 [1,1,1,0,1,0,0]),.inLoop (q15 [1,1,1,0,1,0,0]),.inBlock 0,.code (q15 [1,1,1,1])] [i64 (v 30),.slice (some ⟨(.dyn 101),(.lit 0)⟩) (.lit 1) (v 101),.slice (some ⟨(.dyn 50),(v 53)⟩) (v 51) (v 52),i64 (.tn (v 51)),i64 (.op .add .i64 (v 10) (.lit 1))] [(101,.row [i64 (v 10)] 3 (v 101))]:=⟨fun st=>by kernel_rfl,fun st=>by kernel_rfl,by kernel_rfl,of_decide_eq_true (by kernel_rfl)⟩
theorem bus9:Pc 15 46 [.inRegion (opsOf (q15 [1,1,1,0,1,0,0,1,1,0,0,1,0])) [],.code (q15 [1,1,1,0,1,0,0,1,1,0,0,1,1]),.inBlock 1,.code (q15 [1,1,1,0,1,0,0,1,1,1]),.inLoop (q15 [1,1,1,0,1,0,0]),.inBlock 0,.code (q15 [1,1,1,1])] ([(1,i64 (v 30)),(7,.slice (some ⟨(.dyn 52),(.lit 0)⟩) (v 8) (v 57)),(29,.slice (some ⟨(.dyn 50),(v 53)⟩) (v 51) (v 52)),(30,i64 (.tn (v 51))),(31,i64 (v 10)),(8,i64 (v 10)),(39,TB)]) [((.cmp .leq (.plus (.tn (v 8)) (.lit 1)) (.lit 1048576)),true)] [] [(52,.pre false 65 (v 8) [] [] [] 3 (v 57))] 15 [101] [1,7,29,30,31] [.code (q15 [1,1,1,0,1,0,0]),.inLoop (q15 [1,1,1,0,1,0,0]),.inBlock 0,.code (q15 [1,1,1,1])] [i64 (v 30),.slice (some ⟨(.dyn 101),(.lit 0)⟩) (.plus (.tn (v 8)) (.lit 1)) (v 101),.slice (some ⟨(.dyn 50),(v 53)⟩) (v 51) (v 52),i64 (.tn (v 51)),i64 (.op .add .i64 (v 10) (.lit 1))] [(101,.pre false 65 (v 8) [] [] [i64 (v 10)] 3 (v 101))]:=⟨fun st=>by kernel_rfl,fun st=>by kernel_rfl,by kernel_rfl,of_decide_eq_true (by kernel_rfl)⟩
theorem busA:Pc 15 46 [.code (q15 [1,1,1,0,1,0,0]),.inLoop (q15 [1,1,1,0,1,0,0]),.inBlock 0,.code (q15 [1,1,1,1])] ([(1,i64 (v 30)),(7,.opq 7),(29,.slice (some ⟨(.dyn 50),(v 53)⟩) (v 51) (v 52)),(30,i64 (.tn (v 51))),(31,i64 (v 10))]) [((.cmp .lss (v 10) (.tn (v 51))),false)] [] [] 12 [] [4] [.code .ret] [.opq 7] []:=⟨fun st=>by kernel_rfl,fun st=>by kernel_rfl,by kernel_rfl,of_decide_eq_true (by kernel_rfl)⟩
theorem ble1:Pc 27 41 [.code (q27 [])] ([(0,i64 (v 10)),(1,ptr0 61),(2,ptr0 64),(3,ptr0 62)]) [] [(⟨(.dyn 64),(.lit 0)⟩,.slice (some ⟨(.dyn 50),(v 53)⟩) (v 51) (v 52)),(⟨(.dyn 61),(.lit 0)⟩,.map (some (.dyn 60))),(⟨(.dyn 62),(.lit 0)⟩,.func (.func 27) [] [ptr0 61,ptr0 64,ptr0 62])] [] 9 [] [0,1,2,3,12,13] [.inRegion (opsOf (q27 [1,0,0])) [2,3,4,5,6,7],.code (q27 [1,0,1]),.code (q27 [1,1])] [i64 (v 10),ptr0 61,ptr0 64,ptr0 62,.map (some (.dyn 60)),i64 (v 10)] []:=⟨fun st=>by kernel_rfl,fun st=>by kernel_rfl,by kernel_rfl,of_decide_eq_true (by kernel_rfl)⟩
theorem ble2:OpW 41 (opsOf (q27 [1,0,0])) 2 [] (.lookup 69 (.tmp 12) (.tmp 13) true) 71 (some 14):=⟨fun st=>by kernel_rfl,fun st=>by kernel_rfl,by kernel_rfl⟩
theorem ble3:Pc 27 41 [.inRegion (opsOf (q27 [1,0,0])) [3,4,5,6,7],.code (q27 [1,0,1]),.code (q27 [1,1])] ([(0,i64 (v 10)),(1,ptr0 61),(2,ptr0 64),(3,ptr0 62),(14,.tuple [i64 (v 7),TB])]) [] [] [] 16 [] [5] [.code .ret,.code (q27 [1,1])] [i64 (v 7)] []:=⟨fun st=>by kernel_rfl,fun st=>by kernel_rfl,by kernel_rfl,of_decide_eq_true (by kernel_rfl)⟩
theorem ble4:Pc 27 41 [.inRegion (opsOf (q27 [1,0,0])) [3,4,5,6,7],.code (q27 [1,0,1]),.code (q27 [1,1])] ([(0,i64 (v 10)),(1,ptr0 61),(2,ptr0 64),(3,ptr0 62),(14,.tuple [i64 (v 7),FB])]) [((.cmp .lss (v 10) (.tn (v 51))),true),((.cmp .leq (.lit 0) (v 10)),true),((.cmp .lss (v 10) (.lit 0)),false),((.cmp .geq (v 10) (.tn (v 51))),false)] [(⟨(.dyn 64),(.lit 0)⟩,.slice (some ⟨(.dyn 50),(v 53)⟩) (v 51) (v 52)),(⟨(.dyn 61),(.lit 0)⟩,.map (some (.dyn 60))),(⟨(.dyn 62),(.lit 0)⟩,.func (.func 27) [] [ptr0 61,ptr0 64,ptr0 62]),(⟨(.dyn 50),(.plus (.tn (v 53)) (.times (.tn (v 10)) (.lit 3)))⟩,ss 1),(⟨(.dyn 50),(.plus (.tn (.plus (.tn (v 53)) (.times (.tn (v 10)) (.lit 3)))) (.lit 1))⟩,.opq 9),(⟨(.dyn 50),(.plus (.tn (.plus (.tn (v 53)) (.times (.tn (v 10)) (.lit 3)))) (.lit 2))⟩,i64 (v 4))] [] 24 [] [0,1,2,3,8,23] [.inRegion (opsOf (q27 [1,1,1,0,0])) [5,6,7],.code (q27 [1,1,1,0,1]),.code (q27 [1,1,1,1])] [i64 (v 10),ptr0 61,ptr0 64,ptr0 62,i64 (.lit 0),.agg [ss 1,.opq 9,i64 (v 4)]] []:=⟨fun st=>by kernel_rfl,fun st=>by kernel_rfl,by kernel_rfl,of_decide_eq_true (by kernel_rfl)⟩
theorem ble5:OpC 41 (opsOf (q27 [1,1,1,0,0])) 5 [(23,.opq 23)] 28 [.opq 23] 24:=⟨fun st=>by kernel_rfl,fun st=>by kernel_rfl,fun st=>by kernel_rfl,by kernel_rfl,by decide,rfl⟩
theorem ble6(z:Bool):Pc 27 41 [.inRegion (opsOf (q27 [1,1,1,0,0])) [6,7],.code (q27 [1,1,1,0,1]),.code (q27 [1,1,1,1])] ([(0,i64 (v 10)),(1,ptr0 61),(2,ptr0 64),(3,ptr0 62),(8,i64 (.lit 0)),(24,slZ z 70 73 71 72)]) [] [] [] 5 [] [0,1,2,3,8,24,25,26] [.code (q27 [1,1,1,0,1,0,0]),.inLoop (q27 [1,1,1,0,1,0,0]),.inBlock 0,.code (q27 [1,1,1,1])] [i64 (v 10),ptr0 61,ptr0 64,ptr0 62,i64 (.lit 0),slZ z 70 73 71 72,i64 (lnZ z 71),i64 (.lit 0)] []:=⟨fun st=>by cases z<;>kernel_rfl,fun st=>by cases z<;>kernel_rfl,by cases z<;>kernel_rfl,of_decide_eq_true (by kernel_rfl)⟩
theorem ble7:Pc 27 41 [.code (q27 [1,1,1,0,1,0,0]),.inLoop (q27 [1,1,1,0,1,0,0]),.inBlock 0,.code (q27 [1,1,1,1])] ([(0,i64 (v 10)),(1,ptr0 61),(2,ptr0 64),(3,ptr0 62),(8,i64 (v 9)),(24,.slice (some ⟨(.dyn 70),(v 73)⟩) (v 71) (v 72)),(25,i64 (.tn (v 71))),(26,i64 (v 11))]) [((.cmp .lss (v 11) (.tn (v 71))),true),((.cmp .leq (.lit 0) (v 11)),true),((.cmp .lss (v 11) (.lit 0)),false),((.cmp .geq (v 11) (.tn (v 71))),false)] [(⟨(.dyn 70),(.plus (.tn (v 73)) (.tn (v 11)))⟩,i64 (v 12)),(⟨(.dyn 62),(.lit 0)⟩,.func (.func 27) [] [ptr0 61,ptr0 64,ptr0 62])] [] 19 [] [0,1,2,3,8,24,25,26,30,31,32] [.inRegion (opsOf (q27 [1,1,1,0,1,0,0,1,1,0,0,1])) [3,4,5,6],.inBlock 1,.code (q27 [1,1,1,0,1,0,0,1,1,1]),.inLoop (q27 [1,1,1,0,1,0,0]),.inBlock 0,.code (q27 [1,1,1,1])] [i64 (v 10),ptr0 61,ptr0 64,ptr0 62,i64 (v 9),.slice (some ⟨(.dyn 70),(v 73)⟩) (v 71) (v 72),i64 (.tn (v 71)),i64 (v 11),i64 (v 9),.func (.func 27) [] [ptr0 61,ptr0 64,ptr0 62],i64 (v 12)] []:=⟨fun st=>by kernel_rfl,fun st=>by kernel_rfl,by kernel_rfl,of_decide_eq_true (by kernel_rfl)⟩
theorem ble8:OpC 41 (opsOf (q27 [1,1,1,0,1,0,0,1,1,0,0,1])) 3 [(31,.func (.func 27) [] [ptr0 61,ptr0 64,ptr0 62]),(32,i64 (v 12))] 27 [i64 (v 12),ptr0 61,ptr0 64,ptr0 62] 33:=⟨fun st=>by kernel_rfl,fun st=>by kernel_rfl,fun st=>by kernel_rfl,by kernel_rfl,by decide,rfl⟩
theorem ble9:Pc 27 41 [.inRegion (opsOf (q27 [1,1,1,0,1,0,0,1,1,0,0,1])) [4,5,6],.inBlock 1,.code (q27 [1,1,1,0,1,0,0,1,1,1]),.inLoop (q27 [1,1,1,0,1,0,0]),.inBlock 0,.code (q27 [1,1,1,1])] ([(0,i64 (v 10)),(1,ptr0 61),(2,ptr0 64),(3,ptr0 62),(8,i64 (v 9)),(24,.slice (some ⟨(.dyn 70),(v 73)⟩) (v 71) (v 72)),(25,i64 (.tn (v 71))),(26,i64 (v 11)),(30,i64 (v 9)),(33,i64 (v 7))]) [] [] [] 1 [] [0,1,2,3,8,24,25,26,30,34] [.inRegion (opsOf (q27 [1,1,1,0,1,0,0,1,1,0,0,1])) [5,6],.inBlock 1,.code (q27 [1,1,1,0,1,0,0,1,1,1]),.inLoop (q27 [1,1,1,0,1,0,0]),.inBlock 0,.code (q27 [1,1,1,1])] [i64 (v 10),ptr0 61,ptr0 64,ptr0 62,i64 (v 9),.slice (some ⟨(.dyn 70),(v 73)⟩) (v 71) (v 72),i64 (.tn (v 71)),i64 (v 11),i64 (v 9),i64 (.op .add .i64 (v 7) (.lit 1))] []:=⟨fun st=>by kernel_rfl,fun st=>by kernel_rfl,by kernel_rfl,of_decide_eq_true (by kernel_rfl)⟩
theorem bleA:OpW 41 (opsOf (q27 [1,1,1,0,1,0,0,1,1,0,0,1])) 5 [] (.call {callee:=.builtin .max,args:=#[.tmp 30,.tmp 34],argTypes:=#[3,3]}) 3 (some 35):=⟨fun st=>by kernel_rfl,fun st=>by kernel_rfl,by kernel_rfl⟩
theorem bleB:Pc 27 41 [.inRegion (opsOf (q27 [1,1,1,0,1,0,0,1,1,0,0,1])) [6],.inBlock 1,.code (q27 [1,1,1,0,1,0,0,1,1,1]),.inLoop (q27 [1,1,1,0,1,0,0]),.inBlock 0,.code (q27 [1,1,1,1])] ([(0,i64 (v 10)),(1,ptr0 61),(2,ptr0 64),(3,ptr0 62),(24,.slice (some ⟨(.dyn 70),(v 73)⟩) (v 71) (v 72)),(25,i64 (.tn (v 71))),(26,i64 (v 11)),(35,i64 (v 7))]) [] [] [] 8 [] [0,1,2,3,8,24,25,26] [.code (q27 [1,1,1,0,1,0,0]),.inLoop (q27 [1,1,1,0,1,0,0]),.inBlock 0,.code (q27 [1,1,1,1])] [i64 (v 10),ptr0 61,ptr0 64,ptr0 62,i64 (v 7),.slice (some ⟨(.dyn 70),(v 73)⟩) (v 71) (v 72),i64 (.tn (v 71)),i64 (.op .add .i64 (v 11) (.lit 1))] []:=⟨fun st=>by kernel_rfl,fun st=>by kernel_rfl,by kernel_rfl,of_decide_eq_true (by kernel_rfl)⟩
theorem bleD(z:Bool):Pc 27 41 [.code (q27 [1,1,1,0,1,0,0]),.inLoop (q27 [1,1,1,0,1,0,0]),.inBlock 0,.code (q27 [1,1,1,1])] ([(0,i64 (v 10)),(1,ptr0 61),(2,ptr0 64),(3,ptr0 62),(8,i64 (v 9)),(24,slZ z 70 73 71 72),(25,i64 (lnZ z 71)),(26,i64 (v 11))]) [((.cmp .lss (v 11) (lnZ z 71)),false)] [(⟨(.dyn 61),(.lit 0)⟩,.map (some (.dyn 60)))] [] 12 [] [8,37,38,39] [.inRegion (opsOf (q27 [1,1,1,1,0])) [3],.code (q27 [1,1,1,1,1])] [i64 (v 9),.map (some (.dyn 60)),i64 (v 10),i64 (v 9)] []:=⟨fun st=>by cases z<;>kernel_rfl,fun st=>by cases z<;>kernel_rfl,by cases z<;>kernel_rfl,of_decide_eq_true (by kernel_rfl)⟩
theorem bleE:OpW 41 (opsOf (q27 [1,1,1,1,0])) 3 [] (.mapUpdate 69 (.tmp 37) (.tmp 38) (.tmp 39)) 0 none:=⟨fun st=>by kernel_rfl,fun st=>by kernel_rfl,by kernel_rfl⟩
theorem bleF:Pc 27 41 [.inRegion (opsOf (q27 [1,1,1,1,0])) [],.code (q27 [1,1,1,1,1])] ([(8,i64 (v 9))]) [] [] [] 6 [] [5] [.code .ret] [i64 (v 9)] []:=⟨fun st=>by kernel_rfl,fun st=>by kernel_rfl,by kernel_rfl,of_decide_eq_true (by kernel_rfl)⟩
theorem blh1(z:Bool):Pc 12 34 [.code (q12 [])] ([(0,.agg [slZ z 50 53 51 52,.opq 9])]) [] [] [] 10 [100] [1,11] [.inRegion (opsOf (q12 [1,0,0])) [1,2,3,4,5,6],.code (q12 [1,0,1]),.code (q12 [1,1])] [ptr0 100,.agg [slZ z 50 53 51 52,.opq 9]] [(100,.cells [slZ z 50 53 51 52,.opq 9] 25)]:=⟨fun st=>by cases z<;>kernel_rfl,fun st=>by cases z<;>kernel_rfl,by cases z<;>kernel_rfl,of_decide_eq_true (by kernel_rfl)⟩
theorem blh1c:OpC 34 (opsOf (q12 [1,0,0])) 1 [(11,.opq 11)] 21 [.opq 11] 12:=⟨fun st=>by kernel_rfl,fun st=>by kernel_rfl,fun st=>by kernel_rfl,by kernel_rfl,by decide,rfl⟩
theorem blh2:Pc 12 34 [.inRegion (opsOf (q12 [1,0,0])) [2,3,4,5,6],.code (q12 [1,0,1]),.code (q12 [1,1])] ([(1,ptr0 64),(12,.tuple [i64 (v 5),i64 (v 6)])]) [((.cmp .neq (v 5) (.lit 0)),true)] [] [] 18 [] [2,3] [.code .ret,.code (q12 [1,1])] [nilA,i64 (v 5)] []:=⟨fun st=>by kernel_rfl,fun st=>by kernel_rfl,by kernel_rfl,of_decide_eq_true (by kernel_rfl)⟩
theorem blh3(z:Bool):Pc 12 34 [.inRegion (opsOf (q12 [1,0,0])) [2,3,4,5,6],.code (q12 [1,0,1]),.code (q12 [1,1])] ([(1,ptr0 64),(12,.tuple [i64 (v 5),i64 (v 6)])]) [((.cmp .neq (v 5) (.lit 0)),false)] [(⟨(.dyn 64),(.lit 0)⟩,slZ z 50 53 51 52)] [] 42 [102,101,100] [1,7,8,22,23] [.code (q12 [1,1,1,1,1,1,0,1,0,0]),.inLoop (q12 [1,1,1,1,1,1,0,1,0,0]),.inBlock 0,.code (q12 [1,1,1,1,1,1,1])] [ptr0 64,ptr0 102,nilA,i64 (lnZ z 51),i64 (.lit 0)] [(102,.cells [.func (.func 27) [] [ptr0 101,ptr0 64,ptr0 102]] 70),(101,.cells [.map (some (.dyn 100))] 69),(100,.map [])]:=⟨fun st=>by cases z<;>kernel_rfl,fun st=>by cases z<;>kernel_rfl,by cases z<;>kernel_rfl,of_decide_eq_true (by kernel_rfl)⟩
theorem blh4:Pc 12 34 [.code (q12 [1,1,1,1,1,1,0,1,0,0]),.inLoop (q12 [1,1,1,1,1,1,0,1,0,0]),.inBlock 0,.code (q12 [1,1,1,1,1,1,1])] ([(1,ptr0 64),(7,ptr0 62),(8,.opq 8),(22,i64 (.tn (v 51))),(23,i64 (v 10))]) [((.cmp .lss (v 10) (.tn (v 51))),true),((.cmp .leq (.lit 0) (v 10)),true),((.cmp .lss (v 10) (.lit 0)),false),((.cmp .geq (v 10) (.tn (v 51))),false)] [(⟨(.dyn 62),(.lit 0)⟩,.func (.func 27) [] [ptr0 61,ptr0 64,ptr0 62])] [] 18 [] [1,7,8,22,23,26,27,28] [.inRegion (opsOf (q12 [1,1,1,1,1,1,0,1,0,0,1,1,0,0,1])) [3,4,5,6],.inBlock 1,.code (q12 [1,1,1,1,1,1,0,1,0,0,1,1,1]),.inLoop (q12 [1,1,1,1,1,1,0,1,0,0]),.inBlock 0,.code (q12 [1,1,1,1,1,1,1])] [ptr0 64,ptr0 62,.opq 8,i64 (.tn (v 51)),i64 (v 10),.opq 8,.func (.func 27) [] [ptr0 61,ptr0 64,ptr0 62],i64 (v 10)] []:=⟨fun st=>by kernel_rfl,fun st=>by kernel_rfl,by kernel_rfl,of_decide_eq_true (by kernel_rfl)⟩
theorem blh5:OpC 34 (opsOf (q12 [1,1,1,1,1,1,0,1,0,0,1,1,0,0,1])) 3 [(27,.func (.func 27) [] [ptr0 61,ptr0 64,ptr0 62]),(28,i64 (v 10))] 27 [i64 (v 10),ptr0 61,ptr0 64,ptr0 62] 29:=⟨fun st=>by kernel_rfl,fun st=>by kernel_rfl,fun st=>by kernel_rfl,by kernel_rfl,by decide,rfl⟩
theorem blh6:Pc 12 34 [.inRegion (opsOf (q12 [1,1,1,1,1,1,0,1,0,0,1,1,0,0,1])) [4,5,6],.inBlock 1,.code (q12 [1,1,1,1,1,1,0,1,0,0,1,1,1]),.inLoop (q12 [1,1,1,1,1,1,0,1,0,0]),.inBlock 0,.code (q12 [1,1,1,1,1,1,1])] ([(1,ptr0 64),(7,ptr0 62),(8,nilA),(22,i64 (.tn (v 51))),(23,i64 (v 10)),(26,nilA),(29,i64 (v 7))]) [] [] [] 10 [101] [1,7,8,22,23] [.code (q12 [1,1,1,1,1,1,0,1,0,0]),.inLoop (q12 [1,1,1,1,1,1,0,1,0,0]),.inBlock 0,.code (q12 [1,1,1,1,1,1,1])] [ptr0 64,ptr0 62,.slice (some ⟨(.dyn 101),(.lit 0)⟩) (.lit 1) (v 101),i64 (.tn (v 51)),i64 (.op .add .i64 (v 10) (.lit 1))] [(101,.row [i64 (v 7)] 3 (v 101))]:=⟨fun st=>by kernel_rfl,fun st=>by kernel_rfl,by kernel_rfl,of_decide_eq_true (by kernel_rfl)⟩
theorem blh7:Pc 12 34 [.inRegion (opsOf (q12 [1,1,1,1,1,1,0,1,0,0,1,1,0,0,1])) [4,5,6],.inBlock 1,.code (q12 [1,1,1,1,1,1,0,1,0,0,1,1,1]),.inLoop (q12 [1,1,1,1,1,1,0,1,0,0]),.inBlock 0,.code (q12 [1,1,1,1,1,1,1])] ([(1,ptr0 64),(7,ptr0 62),(8,.slice (some ⟨(.dyn 52),(.lit 0)⟩) (v 8) (v 57)),(22,i64 (.tn (v 51))),(23,i64 (v 10)),(26,.slice (some ⟨(.dyn 52),(.lit 0)⟩) (v 8) (v 57)),(29,i64 (v 7))]) [((.cmp .leq (.plus (.tn (v 8)) (.lit 1)) (.lit 1048576)),true)] [] [(52,.pre false 65 (v 8) [] [] [] 3 (v 57))] 10 [101] [1,7,8,22,23] [.code (q12 [1,1,1,1,1,1,0,1,0,0]),.inLoop (q12 [1,1,1,1,1,1,0,1,0,0]),.inBlock 0,.code (q12 [1,1,1,1,1,1,1])] [ptr0 64,ptr0 62,.slice (some ⟨(.dyn 101),(.lit 0)⟩) (.plus (.tn (v 8)) (.lit 1)) (v 101),i64 (.tn (v 51)),i64 (.op .add .i64 (v 10) (.lit 1))] [(101,.pre false 65 (v 8) [] [] [i64 (v 7)] 3 (v 101))]:=⟨fun st=>by kernel_rfl,fun st=>by kernel_rfl,by kernel_rfl,of_decide_eq_true (by kernel_rfl)⟩
theorem blh8(z:Bool):Pc 12 34 [.code (q12 [1,1,1,1,1,1,0,1,0,0]),.inLoop (q12 [1,1,1,1,1,1,0,1,0,0]),.inBlock 0,.code (q12 [1,1,1,1,1,1,1])] ([(1,ptr0 64),(7,ptr0 62),(8,.opq 8),(22,i64 (lnZ z 51)),(23,i64 (v 10))]) [((.cmp .lss (v 10) (lnZ z 51)),false)] [] [] 13 [] [2,3] [.code .ret] [.opq 8,i64 (.lit 0)] []:=⟨fun st=>by cases z<;>kernel_rfl,fun st=>by cases z<;>kernel_rfl,by cases z<;>kernel_rfl,of_decide_eq_true (by kernel_rfl)⟩
noncomputable def q14(l:List Nat):Code:=pc (bodyOf Try.f14) l
theorem ent14:enterA Try.prog 14 [.opq 0,.opq 1] .normal=.ok ⟨14,18,entT 14 [.opq 0,.opq 1],[.code (bodyOf Try.f14)],[],.run,.normal⟩:=by kernel_rfl
theorem ret14:RetC 14 18 4:=fun st=>by kernel_rfl
theorem bha1:Pc 14 18 [.code (q14 [])] ([(0,.slice (some ⟨(.dyn 70),(v 73)⟩) (v 71) (v 72)),(1,i64 (v 30))]) [] [] [] 11 [] [0,1,5] [.code (q14 [1,0,1,0,0]),.inLoop (q14 [1,0,1,0,0]),.inBlock 0,.code (q14 [1,1])] [.slice (some ⟨(.dyn 70),(v 73)⟩) (v 71) (v 72),i64 (v 30),i64 (.lit 0)] []:=⟨fun st=>by kernel_rfl,fun st=>by kernel_rfl,by kernel_rfl,of_decide_eq_true (by kernel_rfl)⟩
theorem bha2:Pc 14 18 [.code (q14 [1,0,1,0,0]),.inLoop (q14 [1,0,1,0,0]),.inBlock 0,.code (q14 [1,1])] ([(0,.slice (some ⟨(.dyn 70),(v 73)⟩) (v 71) (v 72)),(1,i64 (v 30)),(5,i64 (v 10))]) [((.cmp .lss (v 10) (.tn (v 71))),true),((.cmp .leq (.lit 0) (v 10)),true),((.cmp .lss (v 10) (.lit 0)),false),((.cmp .geq (v 10) (.tn (v 71))),false),((.cmp .eql (v 12) (v 30)),true)] [(⟨(.dyn 70),(.plus (.tn (v 73)) (.tn (v 10)))⟩,i64 (v 12))] [] 26 [] [4] [.code .ret,.inBlock 1,.code (q14 [1,0,1,0,0,1,1]),.inLoop (q14 [1,0,1,0,0]),.inBlock 0,.code (q14 [1,1])] [TB] []:=⟨fun st=>by kernel_rfl,fun st=>by kernel_rfl,by kernel_rfl,of_decide_eq_true (by kernel_rfl)⟩
theorem bha3:Pc 14 18 [.code (q14 [1,0,1,0,0]),.inLoop (q14 [1,0,1,0,0]),.inBlock 0,.code (q14 [1,1])] ([(0,.slice (some ⟨(.dyn 70),(v 73)⟩) (v 71) (v 72)),(1,i64 (v 30)),(5,i64 (v 10))]) [((.cmp .lss (v 10) (.tn (v 71))),true),((.cmp .leq (.lit 0) (v 10)),true),((.cmp .lss (v 10) (.lit 0)),false),((.cmp .geq (v 10) (.tn (v 71))),false),((.cmp .eql (v 12) (v 30)),false)] [(⟨(.dyn 70),(.plus (.tn (v 73)) (.tn (v 10)))⟩,i64 (v 12))] [] 30 [] [0,1,5] [.code (q14 [1,0,1,0,0]),.inLoop (q14 [1,0,1,0,0]),.inBlock 0,.code (q14 [1,1])] [.slice (some ⟨(.dyn 70),(v 73)⟩) (v 71) (v 72),i64 (v 30),i64 (.op .add .i64 (v 10) (.lit 1))] []:=⟨fun st=>by kernel_rfl,fun st=>by kernel_rfl,by kernel_rfl,of_decide_eq_true (by kernel_rfl)⟩
noncomputable def q17(l:List Nat):Code:=pc (bodyOf Try.f17) l
theorem ent17:enterA Try.prog 17 [.opq 0,.opq 1] .normal=.ok ⟨17,26,entT 17 [.opq 0,.opq 1],[.code (bodyOf Try.f17)],[],.run,.normal⟩:=by kernel_rfl
theorem ret17:RetC 17 26 4:=fun st=>by kernel_rfl
theorem bee2(z y:Bool):Pc 17 26 [.code (q17 [])] ([(0,slZ z 50 53 51 52),(1,slZ y 60 63 61 62)]) [((.cmp .neq (lnZ z 51) (lnZ y 61)),false)] [] [] 22 [] [0,1,5] [.code (q17 [1,1,0,1,0,0]),.inLoop (q17 [1,1,0,1,0,0]),.inBlock 0,.code (q17 [1,1,1])] [slZ z 50 53 51 52,slZ y 60 63 61 62,i64 (.lit 0)] []:=⟨fun st=>by cases z<;>cases y<;>kernel_rfl,fun st=>by cases z<;>cases y<;>kernel_rfl,by cases z<;>cases y<;>kernel_rfl,of_decide_eq_true (by kernel_rfl)⟩
theorem bee3:Pc 17 26 [.code (q17 [1,1,0,1,0,0]),.inLoop (q17 [1,1,0,1,0,0]),.inBlock 0,.code (q17 [1,1,1])] ([(0,.slice (some ⟨(.dyn 50),(v 53)⟩) (v 51) (v 52)),(1,.slice (some ⟨(.dyn 60),(v 63)⟩) (v 61) (v 62)),(5,i64 (v 10)),(2,.opq 2),(3,.opq 3),(4,.opq 4),(6,.opq 6),(7,.opq 7),(8,.opq 8),(9,.opq 9),(10,.opq 10),(11,.opq 11),(12,.opq 12),(13,.opq 13),(14,.opq 14),(15,.opq 15),(16,.opq 16),(17,.opq 17),(18,.opq 18),(19,.opq 19),(20,.opq 20),(21,.opq 21),(22,.opq 22),(23,.opq 23),(24,.opq 24),(25,.opq 25)]) [((.cmp .lss (v 10) (.tn (v 51))),true),((.cmp .leq (.lit 0) (v 10)),true),((.cmp .lss (v 10) (.lit 0)),false),((.cmp .geq (v 10) (.tn (v 51))),false),((.cmp .lss (v 10) (.tn (v 61))),true),((.cmp .leq (.lit 0) (v 10)),true),((.cmp .lss (v 10) (.lit 0)),false),((.cmp .geq (v 10) (.tn (v 61))),false),((.cmp .eql (v 11) (v 13)),true),((.cmp .eql (v 12) (v 14)),true)] [(⟨(.dyn 50),(.plus (.tn (v 53)) (.times (.tn (v 10)) (.lit 2)))⟩,i8 (v 11)),(⟨(.dyn 50),(.plus (.tn (.plus (.tn (v 53)) (.times (.tn (v 10)) (.lit 2)))) (.lit 1))⟩,i64 (v 12)),(⟨(.dyn 60),(.plus (.tn (v 63)) (.times (.tn (v 10)) (.lit 2)))⟩,i8 (v 13)),(⟨(.dyn 60),(.plus (.tn (.plus (.tn (v 63)) (.times (.tn (v 10)) (.lit 2)))) (.lit 1))⟩,i64 (v 14))] [] 23 [] [0,1,5] [.code (q17 [1,1,0,1,0,0]),.inLoop (q17 [1,1,0,1,0,0]),.inBlock 0,.code (q17 [1,1,1])] [.slice (some ⟨(.dyn 50),(v 53)⟩) (v 51) (v 52),.slice (some ⟨(.dyn 60),(v 63)⟩) (v 61) (v 62),i64 (.op .add .i64 (v 10) (.lit 1))] []:=Pc.full (fun st=>by kernel_rfl) (by kernel_rfl) (by kernel_rfl) (by kernel_rfl) (of_decide_eq_true (by kernel_rfl))
theorem bee4(z y:Bool):Pc 17 26 [.code (q17 [1,1,0,1,0,0]),.inLoop (q17 [1,1,0,1,0,0]),.inBlock 0,.code (q17 [1,1,1])] ([(0,slZ z 50 53 51 52),(1,slZ y 60 63 61 62),(5,i64 (v 10))]) [((.cmp .lss (v 10) (lnZ z 51)),false)] [] [] 14 [] [4] [.code .ret] [TB] []:=⟨fun st=>by cases z<;>cases y<;>kernel_rfl,fun st=>by cases z<;>cases y<;>kernel_rfl,by cases z<;>cases y<;>kernel_rfl,of_decide_eq_true (by kernel_rfl)⟩
end Go.Proofs.Ytmobbajggkjpgaa
namespace Go.Proofs.Ytmobbajggkjpgaa
open Go.Proofs.Ytmobbajggkjpgaa.SX Go.Conc Go.Proofs Go.Shelf Go.Sort
def Try.laySort_ren:Go.Shelf.Ren:=⟨fun|189=>39|125=>52|257=>51|128=>66|129=>67|294=>57|295=>58|296=>59|297=>60|298=>61|299=>62|216=>63|300=>64|301=>65|328=>68|329=>69|330=>70|331=>71|332=>72|215=>73|343=>74|n=>n,fun|28=>23|3=>3|46=>101|0=>0|51=>118|53=>120|4=>4|183=>111|182=>110|131=>71|5=>5|9=>9|218=>121|222=>125|228=>127|229=>94|n=>n,fun|n=>n⟩
theorem Try.laySort:Go.Proofs.Lays.n189 Try.prog Try.laySort_ren:={
 mixed:=by kernel_rfl,
 f125:=Try.func52.trans (congrArg some (by kernel_rfl)),
 f128:=Try.func66.trans (congrArg some (by kernel_rfl)),
 f129:=Try.func67.trans (congrArg some (by kernel_rfl)),
 f189:=Try.func39.trans (congrArg some (by kernel_rfl)),
 f215:=Try.func73.trans (congrArg some (by kernel_rfl)),
 f216:=Try.func63.trans (congrArg some (by kernel_rfl)),
 f257:=Try.func51.trans (congrArg some (by kernel_rfl)),
 f294:=Try.func57.trans (congrArg some (by kernel_rfl)),
 f295:=Try.func58.trans (congrArg some (by kernel_rfl)),
 f296:=Try.func59.trans (congrArg some (by kernel_rfl)),
 f297:=Try.func60.trans (congrArg some (by kernel_rfl)),
 f298:=Try.func61.trans (congrArg some (by kernel_rfl)),
 f299:=Try.func62.trans (congrArg some (by kernel_rfl)),
 f300:=Try.func64.trans (congrArg some (by kernel_rfl)),
 f301:=Try.func65.trans (congrArg some (by kernel_rfl)),
 f328:=Try.func68.trans (congrArg some (by kernel_rfl)),
 f329:=Try.func69.trans (congrArg some (by kernel_rfl)),
 f330:=Try.func70.trans (congrArg some (by kernel_rfl)),
 f331:=Try.func71.trans (congrArg some (by kernel_rfl)),
 f332:=Try.func72.trans (congrArg some (by kernel_rfl)),
 f343:=Try.func74.trans (congrArg some (by kernel_rfl)),
 t0:=Try.underlying0,
 a0:=Try.isAgg0,
 z0:=Try.sizeOf0,
 v0:=Try.zeroValue0,
 t3:=Try.underlying3,
 a3:=Try.isAgg3,
 z3:=Try.sizeOf3,
 v3:=Try.zeroValue3,
 t4:=Try.underlying4,
 a4:=Try.isAgg4,
 z4:=Try.sizeOf4,
 v4:=Try.zeroValue4,
 t5:=Try.underlying5,
 a5:=Try.isAgg5,
 z5:=Try.sizeOf5,
 v5:=Try.zeroValue5,
 t9:=Try.underlying9,
 a9:=Try.isAgg9,
 z9:=Try.sizeOf9,
 v9:=Try.zeroValue9,
 t28:=Try.underlying23,
 a28:=Try.isAgg23,
 z28:=Try.sizeOf23,
 v28:=Try.zeroValue23,
 t46:=Try.underlying101,
 a46:=Try.isAgg101,
 z46:=Try.sizeOf101,
 v46:=Try.zeroValue101,
 t51:=Try.underlying118,
 a51:=Try.isAgg118,
 z51:=Try.sizeOf118,
 v51:=Try.zeroValue118,
 t53:=Try.underlying120,
 a53:=Try.isAgg120,
 z53:=Try.sizeOf120,
 v53:=Try.zeroValue120,
 t131:=Try.underlying71,
 a131:=Try.isAgg71,
 z131:=Try.sizeOf71,
 v131:=Try.zeroValue71,
 t182:=Try.underlying110,
 a182:=Try.isAgg110,
 z182:=Try.sizeOf110,
 v182:=Try.zeroValue110,
 t183:=Try.underlying111,
 a183:=Try.isAgg111,
 z183:=Try.sizeOf111,
 v183:=Try.zeroValue111,
 t218:=Try.underlying121,
 a218:=Try.isAgg121,
 z218:=Try.sizeOf121,
 v218:=Try.zeroValue121,
 t222:=Try.underlying125,
 a222:=Try.isAgg125,
 z222:=Try.sizeOf125,
 v222:=Try.zeroValue125,
 t228:=Try.underlying127,
 a228:=Try.isAgg127,
 z228:=Try.sizeOf127,
 v228:=Try.zeroValue127,
 t229:=Try.underlying94,
 a229:=Try.isAgg94,
 z229:=Try.sizeOf94,
 v229:=Try.zeroValue94}
def Try.layCompact_ren:Go.Shelf.Ren:=⟨fun|20=>41|n=>n,fun|22=>23|3=>3|4=>4|0=>0|n=>n,fun|n=>n⟩
theorem Try.layCompact:Go.Proofs.Lays2.n20 Try.prog Try.layCompact_ren:={
 mixed:=by kernel_rfl,
 f20:=Try.func41.trans (congrArg some (by kernel_rfl)),
 t0:=Try.underlying0,
 a0:=Try.isAgg0,
 z0:=Try.sizeOf0,
 v0:=Try.zeroValue0,
 t3:=Try.underlying3,
 a3:=Try.isAgg3,
 z3:=Try.sizeOf3,
 v3:=Try.zeroValue3,
 t4:=Try.underlying4,
 a4:=Try.isAgg4,
 z4:=Try.sizeOf4,
 v4:=Try.zeroValue4,
 t22:=Try.underlying23,
 a22:=Try.isAgg23,
 z22:=Try.sizeOf23,
 v22:=Try.zeroValue23,
 i3:=by kernel_rfl}
def Try.layContains_ren:Go.Shelf.Ren:=⟨fun|107=>29|108=>42|n=>n,fun|28=>23|3=>3|4=>4|0=>0|n=>n,fun|n=>n⟩
theorem Try.layContains:Go.Proofs.Lays.n107 Try.prog Try.layContains_ren:={
 mixed:=by kernel_rfl,
 f107:=Try.func29.trans (congrArg some (by kernel_rfl)),
 f108:=Try.func42.trans (congrArg some (by kernel_rfl)),
 t0:=Try.underlying0,
 a0:=Try.isAgg0,
 z0:=Try.sizeOf0,
 v0:=Try.zeroValue0,
 t3:=Try.underlying3,
 a3:=Try.isAgg3,
 z3:=Try.sizeOf3,
 v3:=Try.zeroValue3,
 t4:=Try.underlying4,
 a4:=Try.isAgg4,
 z4:=Try.sizeOf4,
 v4:=Try.zeroValue4,
 t28:=Try.underlying23,
 a28:=Try.isAgg23,
 z28:=Try.sizeOf23,
 v28:=Try.zeroValue23}
section
variable {w:World}
theorem keeps_row{blk off n:Nat}{d:Array Int}{os:Array Obj}:Keeps (fun b=>w.heap.size≤b∨b=blk) w (grow (putRow (Value.int .i64) (Sort.ahead w n) blk off d) os):=by
 have hs:(putRow (Value.int .i64) (Sort.ahead w n) blk off d).heap.size=w.heap.size:=Sort.size_putRow _ _ _ _ _
 refine⟨fun m hm=>?_,?_,rfl,rfl,rfl⟩
 ·have h1:m<w.heap.size:=by
   have:¬w.heap.size≤m:=fun h=>hm (.inl h)
   omega
  have h2:m≠blk:=fun h=>hm (.inr h)
  rw[heap_grow_old _ _ (by rw[hs];exact h1)]
  show(w.heap.modify blk _)[m]?=w.heap[m]?
  rw[Array.getElem?_modify,if_neg fun h=>h2 h.symm]
 ·show w.heap.size≤(_++os).size
  rw[Array.size_append,hs]
  omega
theorem holds_vec{B c:Nat}{l:List Int}(h:(Blk.vec 3 c (l.map iV)).at Try.prog w B):Holds (Value.int .i64) w B 0 l.toArray:=by
 obtain⟨arr,rest,inf,e1,e2,e3,e4⟩:=h
 intro j hj
 have hj:j<l.length:=by simpa using hj
 refine⟨?_,frozen?_of e1⟩
 rw[cell?_of e1,<-Array.getElem?_toList,e3,Nat.zero_add,List.getElem?_append_left (by simpa using hj),List.getElem?_map,List.getElem?_eq_getElem hj]
 simp[iV,hj]
theorem Holds.at{B:Nat}{l:List Int}(h:Holds (Value.int .i64) w B 0 l.toArray){i:Nat}{n:Int}(hi:l[i]?=some n):w.cell? ⟨B,i,none⟩=some (iV n):=by
 have hlt:=(List.getElem?_eq_some_iff.1 hi).1
 have h1:=(h i (by simpa using hlt)).1
 rw[Nat.zero_add]at h1
 rw[h1]
 obtain⟨_,e⟩:=List.getElem?_eq_some_iff.1 hi
 simp[iV,hlt,e]
theorem holds_grown{blk off n:Nat}{d0 d:Array Int}{os:Array Obj}(hH:Holds (Value.int .i64) w blk off d0)(hs:d.size=d0.size)(hb:blk<w.heap.size):Holds (Value.int .i64) (grow (putRow (Value.int .i64) (Sort.ahead w n) blk off d) os) blk off d:=by
 have h1:Holds (Value.int .i64) (putRow (Value.int .i64) (Sort.ahead w n) blk off d) blk off d:=Sort.holds_putRow _ _ _ _ d0 d hH hs
 have hsz:(putRow (Value.int .i64) (Sort.ahead w n) blk off d).heap.size=w.heap.size:=Sort.size_putRow _ _ _ _ _
 intro j hj
 obtain⟨h2,h3⟩:=h1 j hj
 refine⟨(cell?_grow _ _ _ (by rw[hsz];exact hb)).trans h2,?_⟩
 rw[<-h3]
 unfold World.frozen?
 rw[heap_grow_old _ _ (by rw[hsz];exact hb)]
def srt(l:List Int):List Int:=l.mergeSort fun x y=>decide (x≤y)
theorem srt_len(l:List Int):(srt l).length=l.length:=List.length_mergeSort l
theorem sort_all{B c:Nat}{l:List Int}(h:(Blk.vec 3 c (l.map iV)).at Try.prog w B)(hl:l.length<4611686018427387904):Ans 39 #[slV B 0 l.length c] w fun v w'=>Keeps (fun b=>w.heap.size≤b∨b=B) w w'∧Holds (Value.int .i64) w' B 0 (srt l).toArray:=by
 have hH:=holds_vec h
 have hb:=Blk.at_lt h
 have hC:Calls Try.prog 39 #[.slice (some ⟨B,0,none⟩) l.length c] w fun e w'=>e=.returned (.tuple #[])∧∃n os,w'=grow (putRow (Value.int .i64) (Sort.ahead w n) B 0 (l.mergeSort fun x y=>decide (x≤y)).toArray) os:=Any.slices_Sort_int Try.laySort B 0 c l w hH hb hl
 refine hC.mono fun e w' hd=>?_
 obtain⟨rfl,n,os,rfl⟩:=hd
 exact⟨_,rfl,keeps_row,holds_grown hH (by simp) hb⟩
theorem compact_all'{B c:Nat}{l:List Int}(hH:Holds (Value.int .i64) w B 0 l.toArray)(hb:B<w.heap.size)(hl:l.length≤1000000)(hc:l.length≤c):Ans 41 #[slV B 0 l.length c] w fun v w'=>Keeps (fun b=>w.heap.size≤b∨b=B) w w'∧v=slV B 0 (Lib.compact l).length c∧∀i n,(Lib.compact l)[i]?=some n->w'.cell? ⟨B,i,none⟩=some (iV n):=by
 have hC:Calls Try.prog 41 #[.slice (some ⟨B,0,none⟩) l.length c] w fun e w'=>e=.returned (.slice (some ⟨B,0,none⟩) (Lib.compact l).length c)∧∃q,w'=putRow (Value.int .i64) (Sort.ahead w q) B 0 (Lib.compact l++List.replicate (l.length-(Lib.compact l).length) 0).toArray:=Any.slices_Compact_int Try.layCompact B 0 c l w hH (by omega) hc
 have hlen:(Lib.compact l).length≤l.length:=by
  unfold Lib.compact Lib.compactUpTo
  rw[List.length_map]
  refine Nat.le_trans (List.length_filter_le _ _) ?_
  rw[List.length_range];exact Nat.le_refl _
 refine hC.mono fun e w' hd=>?_
 obtain⟨rfl,q,rfl⟩:=hd
 have e0:∀w1:World,grow w1 #[]=w1:=fun w1=>by unfold grow;simp
 have k:=keeps_row (w:=w) (blk:=B) (off:=0) (n:=q) (d:=(Lib.compact l++List.replicate (l.length-(Lib.compact l).length) 0).toArray) (os:=#[])
 have g:=holds_grown (w:=w) (blk:=B) (off:=0) (n:=q) (d0:=l.toArray) (d:=(Lib.compact l++List.replicate (l.length-(Lib.compact l).length) 0).toArray) (os:=#[]) hH (by simp;omega) hb
 rw[e0]at k g
 refine⟨_,rfl,k,rfl,fun i n hi=>Holds.at g ?_⟩
 rw[List.getElem?_append_left (List.getElem?_eq_some_iff.1 hi).1]
 exact hi
theorem contains_all{l:List Int}{s:Value}(h:IntsAt w s l)(hl:l.length≤1000000)(n:Int):Ans 29 #[s,iV n] w fun v w'=>Fresh w w'∧v=.bool (l.contains n):=by
 obtain⟨z,A,o,c,rfl,hz,hzc,hel⟩:=h.ex
 cases z with
 |true=>
  rw[hz rfl]
  have hC:Calls Try.prog 29 #[.slice none 0 0,.int .i64 n] w fun e w'=>e=.returned (.bool false)∧w'=w:=Any.slices_Contains_int_empty Try.layContains none 0 n w
  refine hC.mono fun e w' hd=>?_
  obtain⟨rfl,rfl⟩:=hd
  exact⟨_,rfl,Fresh.refl _,rfl⟩
 |false=>
  have hC:Calls Try.prog 29 #[.slice (some ⟨A,o,none⟩) l.length c,.int .i64 n] w fun e w'=>e=.returned (.bool ((l.take l.length).contains n))∧w'=w:=Any.slices_Contains_int Try.layContains A o l.length c l n w (Nat.le_refl _) (by omega) fun j hj=>by
   have:=hel j l[j] (List.getElem?_eq_getElem hj)
   rw[this]
   simp[iV,List.getD_eq_getElem?_getD,List.getElem?_eq_getElem hj]
  refine hC.mono fun e w' hd=>?_
  obtain⟨rfl,rfl⟩:=hd
  exact⟨_,rfl,Fresh.refl _,by rw[List.take_of_length_le (Nat.le_refl _)]⟩
end
theorem srt_mem{l:List Int}{a:Int}:a∈srt l↔a∈l:=List.mem_mergeSort
theorem srt_le(l:List Int):(srt l).Pairwise fun a b=>a≤b:=by
 have:=List.pairwise_mergeSort (le:=fun x y:Int=>decide (x≤y)) (fun a b c h1 h2=>by simp only[decide_eq_true_eq]at*;omega) (fun a b=>by simp only[Bool.or_eq_true,decide_eq_true_eq];omega) l
 exact this.imp fun h=>by simpa using h
theorem compact_mem{l:List Int}{a:Int}:a∈Lib.compact l↔a∈l:=by
 unfold Lib.compact Lib.compactUpTo
 constructor
 ·intro h
  obtain⟨j,hj,rfl⟩:=List.mem_map.1 h
  have hj:=List.mem_range.1 (List.mem_filter.1 hj).1
  rw[getElem!_pos _ j (by simpa using hj)]
  simp
 ·intro h
  obtain⟨i,hi⟩:=List.getElem?_of_mem h
  have ex:∃i,l[i]?=some a:=⟨i,hi⟩
  have key:∀n:Nat,∀i:Nat,i≤n->l[i]?=some a->∃j,l[j]?=some a∧(j=0∨l[j-1]?≠some a):=by
   intro n
   induction n with
   |zero=>
    intro i hi he
    exact⟨i,he,.inl (by omega)⟩
   |succ n ih=>
    intro i hi he
    by_cases h0:i=0∨l[i-1]?≠some a
    ·exact⟨i,he,h0⟩
    ·have h1:l[i-1]?=some a:=by
      by_cases h2:l[i-1]?=some a
      ·exact h2
      ·exact(h0 (.inr h2)).elim
     have h2:i≠0:=fun h=>h0 (.inl h)
     exact ih (i-1) (by omega) h1
  obtain⟨j,h1,h2⟩:=key i i (Nat.le_refl _) hi
  obtain⟨hj,e⟩:=List.getElem?_eq_some_iff.1 h1
  refine List.mem_map.2 ⟨j,List.mem_filter.2 ⟨List.mem_range.2 hj,?_⟩,?_⟩
  ·unfold Lib.keeps
   rcases h2 with h2|h2
   ·simp[h2]
   ·refine decide_eq_true (.inr fun h=>h2 ?_)
    rw[getElem!_pos _ j (by simpa using hj),getElem!_pos _ (j-1) (by simp;omega)]at h
    rw[List.getElem?_eq_getElem (by omega)]
    simp only[List.getElem_toArray]at h
    rw[<-h,e]
  ·rw[getElem!_pos _ j (by simpa using hj)]
   simpa using e
theorem compact_lt{l:List Int}(h:l.Pairwise fun a b=>a≤b):(Lib.compact l).Pairwise fun a b=>a<b:=by
 unfold Lib.compact Lib.compactUpTo
 rw[List.pairwise_map]
 refine List.Pairwise.imp_of_mem (R:=fun i j:Nat=>i<j) ?_ (List.Pairwise.sublist List.filter_sublist List.pairwise_lt_range)
 intro i j hi hj hij
 have hjl:=List.mem_range.1 (List.mem_filter.1 hj).1
 have hk:(j=0∨l.toArray[j]!≠l.toArray[j-1]!):=by
  have:=(List.mem_filter.1 hj).2
  unfold Lib.keeps at this
  exact of_decide_eq_true this
 rw[List.pairwise_iff_getElem]at h
 have e:∀k (hk:k<l.length),l.toArray[k]! =l[k]:=fun k hk=>by
  rw[getElem!_pos _ k (by simpa using hk)]
  simp
 rw[e i (by omega),e j hjl]
 rcases hk with hk|hk
 ·omega
 ·rw[e j hjl,e (j-1) (by omega)]at hk
  have h1:l[j-1]≤l[j]:=h (j-1) j (by omega) hjl (by omega)
  have h2:l[i]≤l[j-1]:=by
   by_cases hh:i=j-1
   ·subst hh;exact Int.le_refl _
   ·exact h i (j-1) (by omega) (by omega) (by omega)
  have:l[j]≠l[j-1]:=hk
  omega
def namesOf(l:List Nd):List Int:=(l.filter fun n=>decide (n.op=2)).map (·.n)
def needsF(x:LetD):List Int:=if rootOp x=18 then[]else Lib.compact (srt (namesOf x.tree))
theorem needs_mem{x:LetD}{a:Int}(h:a∈needsF x):a∈namesOf x.tree:=by
 unfold needsF at h
 split at h
 ·cases h
 ·exact srt_mem.1 (compact_mem.1 h)
theorem needs_lt(x:LetD):(needsF x).Pairwise fun a b=>a<b:=by
 unfold needsF
 split
 ·exact List.Pairwise.nil
 ·exact compact_lt (srt_le _)
theorem compact_len(l:List Int):(Lib.compact l).length≤l.length:=by
 unfold Lib.compact Lib.compactUpTo
 rw[List.length_map]
 refine Nat.le_trans (List.length_filter_le _ _) ?_
 rw[List.length_range];exact Nat.le_refl _
theorem names_len(l:List Nd):(namesOf l).length≤l.length:=by
 unfold namesOf
 rw[List.length_map]
 exact List.length_filter_le _ _
theorem needs_len(x:LetD):(needsF x).length≤x.tree.length:=by
 unfold needsF
 split
 ·exact Nat.zero_le _
 ·exact Nat.le_trans (compact_len _) (by rw[srt_len];exact names_len _)
noncomputable abbrev NaH:List Item:=[.code (q28 [1,1,1,0,1,0,0]),.inLoop (q28 [1,1,1,0,1,0,0]),.inBlock 0,.code (q28 [1,1,1,1])]
theorem vec_cap3{w:World}{B c:Nat}{l:List Int}(h:(Blk.vec 3 c (l.map iV)).at Try.prog w B):l.length≤c:=by
 obtain⟨arr,rest,inf,e1,e2,e3,e4⟩:=h
 have:=congrArg List.length e3
 rw[size3 inf e2]at e4
 rw[List.length_append,List.length_map]at this
 have:arr.size=arr.toList.length:=rfl
 omega
section
variable {w w0:World}{cs:List Frame}{fr:Frame}
theorem na_push{base A o L c i:Nat}{s:Value}{l:List Int}{nd:Nd}(hb:base≤w.heap.size)(hA:A<base)(hs:IntsNew w base s l)(hl:l.length≤1000000)(hN:NdAt w A (o+i*4) nd)(h2:nd.op=2)(hi:i<L)(hf:FA 28 30 NaH [] .normal [(3,s),(10,slV A o L c),(11,iV L),(12,iV i)] fr):
  Goes (G fr cs) w fun g' w'=>∃fr' s',g'=G fr' cs∧Keeps (fun x=>base≤x) w w'∧IntsNew w' base s' (l++[nd.n])∧FA 28 30 NaH [] .normal [(3,s'),(10,slV A o L c),(11,iV L),(12,iV (iop .add .i64 i 1))] fr':=by
 rcases hs with⟨rfl,rfl⟩|⟨hne,B0,c0,rfl,hB0,hv⟩
 ·obtain⟨ρ,hρ⟩:∃ρ:Env,ρ=mkE [(71,L),(72,c),(73,o),(10,i),(1,nd.op),(2,nd.n),(3,nd.kids),(4,nd.at')] [(70,A)] []:=⟨_,rfl⟩
  refine(bna6.go ρ hf (by rw[hρ];rfl) (AllB.app (ltB_ok (i:=10) (n:=71) (I:=i) (N:=L) (by rw[hρ];rfl) (by rw[hρ];rfl) hi) ⟨by rw[hρ];exact decide_eq_true h2,trivial⟩) ⟨by rw[hρ];exact hN.c0,by rw[hρ];exact hN.c1,by rw[hρ];exact hN.c2,by rw[hρ];exact hN.c3,trivial⟩).mono fun g1 w1 hd=>?_
  obtain⟨I,B,fr1,rfl,f1,F1,bl,_⟩:=hd
  rw[hρ]at F1 bl
  exact⟨fr1,_,rfl,f1.mono fun x hx=>Nat.le_trans hb hx,.inr ⟨by simp,B 102,(I 102).toNat,rfl,Nat.le_trans hb bl.1.1,bl.1.2⟩,F1⟩
 ·obtain⟨ρ,hρ⟩:∃ρ:Env,ρ=mkE [(71,L),(72,c),(73,o),(10,i),(1,nd.op),(2,nd.n),(3,nd.kids),(4,nd.at'),(8,l.length),(57,c0)] [(70,A),(62,B0)] [(63,.agg (l.map iV).toArray)]:=⟨_,rfl⟩
  have e62:ρ.b 62=B0:=by rw[hρ];rfl
  have e70:ρ.b 70=A:=by rw[hρ];rfl
  refine(bna7.goW ρ hf (by rw[hρ];rfl) (AllB.app (l':=[_,_]) (ltB_ok (i:=10) (n:=71) (I:=i) (N:=L) (by rw[hρ];rfl) (by rw[hρ];rfl) hi) ⟨by rw[hρ];exact decide_eq_true h2,by
    rw[hρ]
    show decide ((((l.length:Int).toNat:Nat):Int)+1≤1048576)=true
    exact decide_eq_true (by omega),trivial⟩) ⟨by rw[hρ];exact hN.c0,by rw[hρ];exact hN.c1,by rw[hρ];exact hN.c2,by rw[hρ];exact hN.c3,trivial⟩ (fun q hq x hx=>by
    obtain rfl:=List.mem_singleton.1 hx
    simp only[List.mem_cons,List.not_mem_nil,or_false]at hq
    show ρ.b 62≠_
    rw[e62]
    rcases hq with rfl|rfl|rfl|rfl
    ·show B0≠ρ.b 70
     omega
    ·show B0≠ρ.b 70
     omega
    ·show B0≠ρ.b 70
     omega
    ·show B0≠ρ.b 70
     omega) ⟨⟨.vec 3 c0 (l.map iV),by rw[e62];exact hv,rfl,by rw[hρ];rfl,fun inf hinf=>?_,(nofun),by rw[hρ];rfl⟩,trivial⟩ one_nodup).mono fun g1 w1 hd=>?_
  ·rw[size3 inf hinf,hρ]
   show(l.map iV).length=((l.length:Nat):Int).toNat*1
   rw[List.length_map]
   omega
  obtain⟨I,B,fr1,rfl,kp,F1,bl,_⟩:=hd
  have own:∀x,ownP ρ w [(62,.pre false 63 (v 8) [] [] [] 3 (v 57))] x->base≤x:=fun x hx=>by
   rcases hx with h|⟨y,hy,e⟩
   ·exact Nat.le_trans hb h
   ·obtain rfl:=List.mem_singleton.1 hy
    have e:ρ.b 62=x:=e
    omega
  have hB:(Blk.vec 3 (I 102).toNat ((l++[nd.n]).map iV)).at Try.prog w1 (B 102):=by
   have:=bl.1.2
   rw[hρ]at this
   rw[List.map_append]
   exact this
  have hn:((((l.length:Int).toNat:Nat):Int)+1).toNat=(l++[nd.n]).length:=by
   rw[List.length_append,List.length_singleton]
   omega
  refine⟨fr1,slV (B 102) 0 (l++[nd.n]).length (I 102).toNat,rfl,kp.mono own,.inr ⟨by simp,B 102,(I 102).toNat,rfl,own _ bl.1.1,hB⟩,?_⟩
  rw[<-hn]
  rw[hρ]at F1
  exact F1
theorem IntsNew.keep'{base:Nat}{s:Value}{l:List Int}{w':World}(h:IntsNew w base s l)(f:Fresh w w'):IntsNew w' base s l:=by
 rcases h with h|⟨h1,B,c,h2,h3,h4⟩
 ·exact .inl h
 ·exact .inr ⟨h1,B,c,h2,h3,blk_keep h4 f⟩
theorem na_loop{A o c:Nat}{tree:List Nd}(hel:∀i n,tree[i]?=some n->NdAt w0 A (o+i*4) n)(hlen:tree.length≤999999):
  ∀(k i:Nat) {s:Value} {w:World} {fr:Frame},i+k=tree.length->IntsNew w w0.heap.size s (namesOf (tree.take i))->Fresh w0 w->FA 28 30 NaH [] .normal [(3,s),(10,slV A o tree.length c),(11,iV tree.length),(12,iV i)] fr->
  Goes (G fr cs) w fun g' w'=>∃fr' s',g'=G fr' cs∧Fresh w0 w'∧IntsNew w' w0.heap.size s' (namesOf tree)∧FA 28 30 NaH [] .normal [(3,s'),(10,slV A o tree.length c),(11,iV tree.length),(12,iV tree.length)] fr'
 |0,i,s,w,fr,hi,hs,fw,hf=>.here ⟨fr,s,rfl,fw,by rwa[List.take_of_length_le (by omega)]at hs,by rw[show tree.length=i by omega]at hf⊢;exact hf⟩
 |k+1,i,s,w,fr,hi,hs,fw,hf=>by
  have hlt:i<tree.length:=by omega
  obtain⟨nd,hnd⟩:∃nd,tree[i]?=some nd:=⟨_,List.getElem?_eq_getElem hlt⟩
  have hN:=(hel i nd hnd).keep fw
  have htake:tree.take (i+1)=tree.take i++[nd]:=by rw[List.take_add_one,hnd];rfl
  have hA:A<w0.heap.size:=cellLt (hel i nd hnd).c0
  have hll:(namesOf (tree.take i)).length≤1000000:=Nat.le_trans (names_len _) (by rw[List.length_take];omega)
  by_cases h2:nd.op=2
  ·refine(na_push (base:=w0.heap.size) fw.size hA hs hll hN h2 hlt hf).trans fun g1 w1 hd=>?_
   obtain⟨fr1,s',rfl,kp,hs',F1⟩:=hd
   rw[inc (by omega)]at F1
   refine na_loop hel hlen k (i+1) (by omega) ?_ (fresh_keeps fw kp) F1
   have e:namesOf (tree.take (i+1))=namesOf (tree.take i)++[nd.n]:=by
    rw[htake]
    unfold namesOf
    rw[List.filter_append,List.map_append]
    simp[h2]
   rw[e]
   exact hs'
  ·obtain⟨ρ,hρ⟩:∃ρ:Env,ρ=mkE [(71,tree.length),(72,c),(73,o),(10,i),(1,nd.op),(2,nd.n),(3,nd.kids),(4,nd.at')] [(70,A)] [(5,s)]:=⟨_,rfl⟩
   refine(bna5.go ρ hf (by rw[hρ];rfl) (AllB.app (ltB_ok (i:=10) (n:=71) (I:=i) (N:=tree.length) (by rw[hρ];rfl) (by rw[hρ];rfl) hlt) ⟨by rw[hρ];exact decide_eq_false h2,trivial⟩) ⟨by rw[hρ];exact hN.c0,by rw[hρ];exact hN.c1,by rw[hρ];exact hN.c2,by rw[hρ];exact hN.c3,trivial⟩).trans fun g1 w1 hd=>?_
   obtain⟨I,B,fr1,rfl,f1,F1,_⟩:=hd
   rw[hρ]at F1
   refine na_loop hel hlen k (i+1) (s:=s) (by omega) ?_ (fw.trans f1) ?_
   ·have e:namesOf (tree.take (i+1))=namesOf (tree.take i):=by
     rw[htake]
     unfold namesOf
     rw[List.filter_append,List.map_append]
     simp[h2]
    rw[e]
    exact hs.keep' f1
   ·rw[<-inc (i:=i) (by omega)]
    exact F1
theorem needs_all{x:LetD}{ts:Value}(h:NodesAt w ts x.tree)(hn:x.tree≠[])(hlen:x.tree.length≤999999):Ans 28 #[letV x ts] w fun v w'=>Fresh w w'∧IntsAt w' v (needsF x):=by
 rcases h.ex with⟨_,h0⟩|⟨A,o,c,rfl,hc,hel⟩
 ·exact(hn h0).elim
 have hpos:0<x.tree.length:=by
  cases e:x.tree with
  |nil=>exact(hn e).elim
  |cons a b=>simp
 obtain⟨n0,h0⟩:∃n0,x.tree[0]?=some n0:=⟨_,List.getElem?_eq_getElem hpos⟩
 have hroot:rootOp x=n0.op:=by
  unfold rootOp
  cases e:x.tree with
  |nil=>exact(hn e).elim
  |cons a b=>
   rw[e]at h0
   obtain rfl:a=n0:=Option.some.inj h0
   rfl
 have hN0:NdAt w A o n0:=by
  have:=hel 0 n0 h0
  simpa using this
 refine ans_of fun cs=>?_
 obtain⟨ρ,hρ⟩:∃ρ:Env,ρ=Go.Proofs.Ytmobbajggkjpgaa.SX.mkS [(71,x.tree.length),(72,c),(73,o),(4,x.at'),(1,n0.op)] [(70,A)] [] [(1,x.name)]:=⟨_,rfl⟩
 refine(bna1.go ρ (enter1 ent28 rfl (letV x (slV A o x.tree.length c))) (by rw[hρ];rfl) trivial trivial).trans fun g1 w1 hd=>?_
 obtain⟨I,B,fr1,rfl,f1,F1,bl,_⟩:=hd
 rw[hρ]at F1 bl
 obtain⟨X,eX⟩:∃X,B 100=X:=⟨_,rfl⟩
 have hX:(Blk.obj 51 [.string x.name,slV A o x.tree.length c,iV x.at']).at Try.prog w1 X:=by rw[<-eX];exact bl.1.2
 have F1':FA 28 30 (.inRegion (opsOf (q28 [1,1,0,0])) [1,2]::[.code (q28 [1,1,0,1]),.code (q28 [1,1,1])]) [] .normal [(1,ptrV X),(3,nilV),(6,letV x (slV A o x.tree.length c))] fr1:=by rw[<-eX];exact F1
 refine(bna2.go (mkE [] [] [(6,letV x (slV A o x.tree.length c))]) (Q:=fun v w'=>v=i8V n0.op) F1' rfl fun w' f2=>root_all (hN0.keep (f1.trans f2)) hpos).trans fun g2 w2 hd2=>?_
 obtain⟨fr2,vv,rfl,f2,rfl,F2⟩:=hd2
 have f12:=f1.trans f2
 obtain⟨σ,hσ⟩:∃σ:Env,σ=Go.Proofs.Ytmobbajggkjpgaa.SX.mkS [(71,x.tree.length),(72,c),(73,o),(4,x.at'),(1,n0.op)] [(70,A),(64,X)] [] [(1,x.name)]:=⟨_,rfl⟩
 by_cases h18:n0.op=18
 ·refine(bna3.go σ F2 (by rw[hσ];rfl) ⟨by rw[hσ];exact decide_eq_true h18,trivial⟩ trivial).trans fun g3 w3 hd3=>?_
  obtain⟨I,B,fr3,rfl,f3,F3,_⟩:=hd3
  refine(leave1 ret28 F3 rfl).mono fun g6 w6 hd6=>?_
  obtain⟨fr6,rfl,rfl,hL⟩:=hd6
  refine⟨fr6,_,rfl,hL,f12.trans f3,?_⟩
  unfold needsF
  rw[if_pos (hroot.trans h18)]
  exact⟨true,0,0,0,rfl,fun _=>rfl,(fun h=>by cases h),fun i n hi=>by cases hi⟩
 ·have hX2:=blk_keep hX f2
  refine(bna4.go σ F2 (by rw[hσ];rfl) ⟨by rw[hσ];exact decide_eq_false h18,trivial⟩ ⟨by rw[hσ];exact blk_cell hX2 (i:=0) rfl,by rw[hσ];exact blk_cell hX2 (i:=1) rfl,by rw[hσ];exact blk_cell hX2 (i:=2) rfl,trivial⟩).trans fun g3 w3 hd3=>?_
  obtain⟨I,B,fr3,rfl,f3,F3,_⟩:=hd3
  rw[hσ]at F3
  have f13:=f12.trans f3
  refine(na_loop (w0:=w3) (fun i n hi=>(hel i n hi).keep f13) hlen x.tree.length 0 (by omega) (.inl ⟨rfl,rfl⟩) (Fresh.refl _) F3).trans fun g4 w4 hd4=>?_
  obtain⟨fr4,s',rfl,f4,hs',F4⟩:=hd4
  have f14:=f13.trans f4
  have hneeds:needsF x=Lib.compact (srt (namesOf x.tree)):=by
   unfold needsF
   rw[if_neg fun h=>h18 (hroot.symm.trans h)]
  rw[hneeds]
  have hlt:∀σ:Env,σ.i 10=x.tree.length->σ.i 71=x.tree.length->(BE.cmp .lss (v 10) (.tn (v 71))).ev σ=false:=fun σ h1 h2=>by
   show decide (σ.i 10<(((σ.i 71).toNat:Nat):Int))=false
   rw[h1,h2]
   exact decide_eq_false (by omega)
  rcases hs' with⟨rfl,hnil⟩|⟨hne,B0,c0,rfl,hB0,hv⟩
  ·refine(bnaN.go (mkE [(10,x.tree.length),(71,x.tree.length),(72,c),(73,o)] [(70,A)] []) F4 rfl ⟨hlt _ rfl rfl,trivial⟩ trivial).trans fun g5 w5 hd5=>?_
   obtain⟨I,B,fr5,rfl,f5,F5,_⟩:=hd5
   refine(leave1 ret28 F5 rfl).mono fun g6 w6 hd6=>?_
   obtain⟨fr6,rfl,rfl,hL⟩:=hd6
   refine⟨fr6,_,rfl,hL,f14.trans f5,?_⟩
   have e0:Lib.compact (srt ([]:List Int))=[]:=List.length_eq_zero_iff.1 (Nat.le_zero.1 (Nat.le_trans (compact_len _) (by rw[srt_len];exact Nat.le_refl _)))
   rw[hnil,e0]
   exact⟨true,0,0,0,rfl,fun _=>rfl,(fun h=>by cases h),fun i n hi=>by cases hi⟩
  ·obtain⟨l,hl⟩:∃l,l=namesOf x.tree:=⟨_,rfl⟩
   rw[<-hl]at hv F4 hne⊢
   have hll:l.length≤999999:=by
    rw[hl]
    exact Nat.le_trans (names_len _) hlen
   refine(bna8.go (mkE [(10,x.tree.length),(71,x.tree.length),(72,c),(73,o)] [(70,A)] [(5,slV B0 0 l.length c0)]) F4 rfl ⟨hlt _ rfl rfl,trivial⟩ trivial).trans fun g5 w5 hd5=>?_
   obtain⟨I,B,fr5,rfl,f5,F5,_⟩:=hd5
   have f15:=f14.trans f5
   have gB:w3.heap.size≤B0:=hB0
   have base3:=f13.size
   refine(op_call (ρ:=mkE [] [] [(25,slV B0 0 l.length c0)]) (bs:=[]) (mem:=[]) (Q:=fun v w'=>Fresh w w'∧B0<w'.heap.size∧Holds (Value.int .i64) w' B0 0 (srt l).toArray) F5 (fun p hp=>by
    obtain rfl:=List.mem_singleton.1 hp
    exact lookV_mem rfl) bna9.want bna9.op bna9.low (nofun) (nofun) bna9.dst bna9.dlt bna9.alow fun w' f6=>?_).trans fun g6 w6 hd6=>?_
   ·have hv':=blk_keep hv (f5.trans f6)
    refine(sort_all hv' (by omega)).mono fun v w2 hd=>?_
    refine⟨fresh_keeps (f15.trans f6) (hd.1.mono fun q hq=>?_),?_,hd.2⟩
    ·have:=(f15.trans f6).size
     rcases hq with hq|hq<;>omega
    ·have:=Blk.at_lt hv'
     have:=hd.1.size
     omega
   obtain⟨fr6,vv,rfl,⟨f06,hlt6,hH6⟩,F6⟩:=hd6
   refine(bnaA.go (mkE [] [] [(3,slV B0 0 l.length c0)]) (F6.only (l:=[(3,slV B0 0 l.length c0)]) rfl) rfl trivial trivial).trans fun g7 w7 hd7=>?_
   obtain⟨I,B,fr7,rfl,f7,F7,_⟩:=hd7
   have f07:=f06.trans f7
   have hkH:∀{w8:World},Fresh w6 w8->Holds (Value.int .i64) w8 B0 0 (srt l).toArray:=fun{w8} f8 j hj=>by
    obtain⟨h1,h2⟩:=hH6 j hj
    refine⟨f8.cell h1,?_⟩
    rw[<-h2]
    unfold World.frozen?
    rw[f8.heap B0 (by omega)]
   have hcap:l.length≤c0:=vec_cap3 hv
   have hsl:(srt l).length=l.length:=srt_len l
   refine(op_call (ρ:=mkE [] [] [(27,slV B0 0 l.length c0)]) (bs:=[]) (mem:=[]) (Q:=fun v w'=>Fresh w w'∧v=slV B0 0 (Lib.compact (srt l)).length c0∧∀i n,(Lib.compact (srt l))[i]?=some n->w'.cell? ⟨B0,i,none⟩=some (iV n)) F7 (fun p hp=>by
    obtain rfl:=List.mem_singleton.1 hp
    exact lookV_mem rfl) bnaB.want bnaB.op bnaB.low (nofun) (nofun) bnaB.dst bnaB.dlt bnaB.alow fun w' f8=>?_).trans fun g8 w8 hd8=>?_
   ·have hH:=hkH (f7.trans f8)
    have:=compact_all' (B:=B0) (c:=c0) (l:=srt l) hH (by have:=(f7.trans f8).size;omega) (by omega) (by omega)
    rw[hsl]at this
    refine this.mono fun v w2 hd=>⟨fresh_keeps (f07.trans f8) (hd.1.mono fun q hq=>?_),hd.2.1,hd.2.2⟩
    have:=(f07.trans f8).size
    rcases hq with hq|hq<;>omega
   obtain⟨fr8,vv,rfl,⟨f08,rfl,hC⟩,F8⟩:=hd8
   have hcl:(Lib.compact (srt l)).length≤c0:=Nat.le_trans (compact_len _) (by omega)
   refine(bnaC.go (mkE [] [] [(28,slV B0 0 (Lib.compact (srt l)).length c0)]) (Q:=fun v w'=>v=slV B0 0 (Lib.compact (srt l)).length (Lib.compact (srt l)).length) F8 rfl fun w' f2=>clip_all hcl).trans fun g9 w9 hd9=>?_
   obtain⟨fr9,vv,rfl,f9,rfl,F9⟩:=hd9
   refine(bnaD.go (mkE [] [] [(29,slV B0 0 (Lib.compact (srt l)).length (Lib.compact (srt l)).length)]) F9 rfl trivial trivial).trans fun ga wa hda=>?_
   obtain⟨I,B,fra,rfl,fa,Fa,_⟩:=hda
   refine(leave1 ret28 Fa rfl).mono fun gb wb hdb=>?_
   obtain⟨frb,rfl,rfl,hL⟩:=hdb
   refine⟨frb,_,rfl,hL,f08.trans (f9.trans fa),false,B0,0,(Lib.compact (srt l)).length,rfl,(fun h=>by cases h),fun _=>Nat.le_refl _,fun i n hi=>?_⟩
   rw[Nat.zero_add]
   exact(f9.trans fa).cell (hC i n hi)
theorem NeedsG_all{x:Value}{F:FlowD}{i:Nat}{y:LetD}(h:FlowAt w x F)(hlen:F.lets.length≤1000000)(htr:∀x∈F.lets,x.tree.length≤999999)(h0:(chkF F).1=0)(hi:F.lets[i]?=some y)(hy:y.tree≠[]):Ans 13 #[x,iV i] w fun v w'=>Fresh w w'∧IntsAt w' v (needsF y):=by
 have h':=h
 obtain⟨ls,os,rfl,hl,ho⟩:=h
 obtain⟨z,A,o,c,rfl,hz,hzc,hel⟩:=hl.ex
 have hlt:i<F.lets.length:=(List.getElem?_eq_some_iff.1 hi).1
 cases z with
 |true=>
  rw[hz rfl]at hlt
  simp at hlt
 |false=>
 have hyl:=htr y (List.mem_of_getElem? hi)
 refine ans_of fun cs=>?_
 obtain⟨ρ,hρ⟩:∃ρ:Env,ρ=mkE [(51,F.lets.length),(52,c),(53,o),(10,i)] [(50,A)] [(9,os)]:=⟨_,rfl⟩
 refine(bnb1.go ρ (enter2 ent13 rfl (.agg #[slV A o F.lets.length c,os]) (iV i)) (by rw[hρ];rfl) trivial trivial).trans fun g1 w1 hd=>?_
 obtain⟨I,B,fr1,rfl,f1,F1,bl,_⟩:=hd
 rw[hρ]at F1 bl
 obtain⟨X,eX⟩:∃X,B 100=X:=⟨_,rfl⟩
 have hX:(Blk.obj 25 [slV A o F.lets.length c,os]).at Try.prog w1 X:=by rw[<-eX];exact bl.1.2
 have F1':FA 13 31 (.inRegion (opsOf (q13 [1,0,0])) [1,2,3,4,5,6]::[.code (q13 [1,0,1]),.code (q13 [1,1])]) [] .normal [(1,iV i),(2,ptrV X),(8,.agg #[slV A o F.lets.length c,os])] fr1:=by rw[<-eX];exact F1
 refine(nn2.go (mkE [] [] [(8,.agg #[slV A o F.lets.length c,os])]) (Q:=fun v w'=>v=.tuple #[iV 0,iV (chkF F).2]) F1' rfl fun w' f2=>(check_all (h'.keep (f1.trans f2)) hlen htr).mono fun v w2 hd=>⟨hd.1,by rw[hd.2,h0]⟩).trans fun g2 w2 hd2=>?_
 obtain⟨fr2,vv,rfl,f2,rfl,F2⟩:=hd2
 have f12:=f1.trans f2
 obtain⟨ts,c0,c1,c2,hN⟩:=((hel i y hi).keep f12).ex
 obtain⟨σ,hσ⟩:∃σ:Env,σ=Go.Proofs.Ytmobbajggkjpgaa.SX.mkS [(51,F.lets.length),(52,c),(53,o),(10,i),(4,y.at'),(6,(chkF F).2)] [(50,A),(64,X)] [(7,ts)] [(1,y.name)]:=⟨_,rfl⟩
 refine(bnb3.go σ F2 (by rw[hσ];rfl) (ltB_ok (i:=10) (n:=51) (I:=i) (N:=F.lets.length) (by rw[hσ];rfl) (by rw[hσ];rfl) hlt) ⟨by rw[hσ];exact f2.cell (blk_cell hX (i:=0) rfl),by rw[hσ];exact c0,by rw[hσ];exact c1,by rw[hσ];exact c2,trivial⟩).trans fun g3 w3 hd3=>?_
 obtain⟨I,B,fr3,rfl,f3,F3,_⟩:=hd3
 rw[hσ]at F3
 refine(bnb4.go (mkE [] [] [(29,letV y ts)]) (Q:=fun v w'=>IntsAt w' v (needsF y)) F3 rfl fun w' f4=>needs_all (hN.keep (f3.trans f4)) hy hyl).trans fun g4 w4 hd4=>?_
 obtain⟨fr4,vv,rfl,f4,hI,F4⟩:=hd4
 refine(bnb5.go (mkE [] [] [(30,vv)]) F4 rfl trivial trivial).trans fun g5 w5 hd5=>?_
 obtain⟨I',B',fr5,rfl,f5,F5,_⟩:=hd5
 refine(leave1 ret13 F5 rfl).mono fun g6 w6 hd6=>?_
 obtain⟨fr6,rfl,rfl,hL⟩:=hd6
 exact⟨fr6,_,rfl,hL,f12.trans (f3.trans (f4.trans f5)),hI.keep f5⟩
end
noncomputable abbrev UsH:List Item:=[.code (q15 [1,1,1,0,1,0,0]),.inLoop (q15 [1,1,1,0,1,0,0]),.inBlock 0,.code (q15 [1,1,1,1])]
noncomputable abbrev UsT:List Item:=[.inRegion (opsOf (q15 [1,1,1,0,1,0,0,1,1,0,0,1,0])) [],.code (q15 [1,1,1,0,1,0,0,1,1,0,0,1,1]),.inBlock 1,.code (q15 [1,1,1,0,1,0,0,1,1,1]),.inLoop (q15 [1,1,1,0,1,0,0]),.inBlock 0,.code (q15 [1,1,1,1])]
section
variable {w w0:World}{cs:List Frame}{fr:Frame}
theorem us_push{base A o L c i:Nat}{n:Int}{s:Value}{l:List Int}(hb:base≤w.heap.size)(hs:IntsNew w base s l)(hl:l.length≤1000000)(hf:FA 15 46 UsT [] .normal [(1,iV n),(7,s),(29,slV A o L c),(30,iV L),(31,iV i),(8,iV i),(39,.bool true)] fr):
  Goes (G fr cs) w fun g' w'=>∃fr' s',g'=G fr' cs∧Keeps (fun x=>base≤x) w w'∧IntsNew w' base s' (l++[(i:Int)])∧FA 15 46 UsH [] .normal [(1,iV n),(7,s'),(29,slV A o L c),(30,iV L),(31,iV (iop .add .i64 i 1))] fr':=by
 rcases hs with⟨rfl,rfl⟩|⟨hne,B0,c0,rfl,hB0,hv⟩
 ·refine(bus8.go (mkE [(51,L),(52,c),(53,o),(10,i),(30,n)] [(50,A)] []) hf rfl trivial trivial).mono fun g1 w1 hd=>?_
  obtain⟨I,B,fr1,rfl,f1,F1,bl,_⟩:=hd
  exact⟨fr1,_,rfl,f1.mono fun x hx=>Nat.le_trans hb hx,.inr ⟨by simp,B 101,(I 101).toNat,rfl,Nat.le_trans hb bl.1.1,bl.1.2⟩,F1⟩
 ·obtain⟨ρ,hρ⟩:∃ρ:Env,ρ=mkE [(51,L),(52,c),(53,o),(10,i),(30,n),(8,l.length),(57,c0)] [(50,A),(52,B0)] [(65,.agg (l.map iV).toArray)]:=⟨_,rfl⟩
  have e52:ρ.b 52=B0:=by rw[hρ];rfl
  refine(bus9.goW ρ hf (by rw[hρ];rfl) ⟨by
    rw[hρ]
    show decide ((((l.length:Int).toNat:Nat):Int)+1≤1048576)=true
    exact decide_eq_true (by omega),trivial⟩ trivial (nofun) ⟨⟨.vec 3 c0 (l.map iV),by rw[e52];exact hv,rfl,by rw[hρ];rfl,fun inf hinf=>?_,(nofun),by rw[hρ];rfl⟩,trivial⟩ one_nodup).mono fun g1 w1 hd=>?_
  ·rw[size3 inf hinf,hρ]
   show(l.map iV).length=((l.length:Nat):Int).toNat*1
   rw[List.length_map]
   omega
  obtain⟨I,B,fr1,rfl,kp,F1,bl,_⟩:=hd
  have own:∀x,ownP ρ w [(52,.pre false 65 (v 8) [] [] [] 3 (v 57))] x->base≤x:=fun x hx=>by
   rcases hx with h|⟨y,hy,e⟩
   ·exact Nat.le_trans hb h
   ·obtain rfl:=List.mem_singleton.1 hy
    have e:ρ.b 52=x:=e
    omega
  have hB:(Blk.vec 3 (I 101).toNat ((l++[(i:Int)]).map iV)).at Try.prog w1 (B 101):=by
   have:=bl.1.2
   rw[hρ]at this
   rw[List.map_append]
   exact this
  have hn:((((l.length:Int).toNat:Nat):Int)+1).toNat=(l++[(i:Int)]).length:=by
   rw[List.length_append,List.length_singleton]
   omega
  refine⟨fr1,slV (B 101) 0 (l++[(i:Int)]).length (I 101).toNat,rfl,kp.mono own,.inr ⟨by simp,B 101,(I 101).toNat,rfl,own _ bl.1.1,hB⟩,?_⟩
  rw[<-hn]
  rw[hρ]at F1
  exact F1
theorem IntsNew.at'{base:Nat}{s:Value}{l:List Int}(h:IntsNew w base s l):IntsAt w s l:=by
 rcases h with⟨h1,h2⟩|⟨h1,B,c,h2,h3,h4⟩
 ·exact⟨true,0,0,0,h1,fun _=>h2,(fun h=>by cases h),fun i n hi=>by rw[h2]at hi;cases hi⟩
 ·refine⟨false,B,0,c,h2,(fun h=>by cases h),fun _=>vec_cap3 h4,fun i n hi=>?_⟩
  rw[Nat.zero_add]
  refine Blk.at_cell h4 ?_
  show(l.map iV)[i]?=_
  rw[List.getElem?_map,hi];rfl
theorem us_loop{A o c:Nat}{n:Int}{L:List LetD}(hel:∀(i:Nat) (x:LetD),L[i]?=some x->LetAt w0 A (o+i*3) x)(hne:∀(i:Nat) (x:LetD),L[i]?=some x->x.tree≠[])(hlen:L.length≤1000000)(htr:∀x∈L,x.tree.length≤999999):
  ∀(k i:Nat) {s:Value} {l:List Int} {w:World} {fr:Frame},i+k=L.length->IntsNew w w0.heap.size s l->l.length≤i->(∀(j:Nat) (y:LetD),j<i->L[j]?=some y->n∈needsF y->(j:Int)∈l)->Fresh w0 w->FA 15 46 UsH [] .normal [(1,iV n),(7,s),(29,slV A o L.length c),(30,iV L.length),(31,iV i)] fr->
  Goes (G fr cs) w fun g' w'=>∃fr' s' l',g'=G fr' cs∧Fresh w0 w'∧IntsAt w' s' l'∧l'.length≤L.length∧(∀(j:Nat) (y:LetD),L[j]?=some y->n∈needsF y->(j:Int)∈l')∧Leav 15 fr' w' s'
 |0,i,s,l,w,fr,hi,hs,hll,hm,fw,hf=>by
  refine(busA.go (mkE [(51,L.length),(52,c),(53,o),(10,i),(30,n)] [(50,A)] [(7,s)]) hf rfl ⟨by
   show decide ((i:Int)<((L.length:Nat):Int))=false
   exact decide_eq_false (by omega),trivial⟩ trivial).trans fun g1 w1 hd=>?_
  obtain⟨I,B,fr1,rfl,f1,F1,_⟩:=hd
  refine(leave1 ret15 F1 rfl).mono fun g6 w6 hd6=>?_
  obtain⟨fr6,rfl,rfl,hL⟩:=hd6
  exact⟨fr6,s,l,rfl,fw.trans f1,(hs.keep' f1).at',by omega,fun j y hj hy=>hm j y (by have:=(List.getElem?_eq_some_iff.1 hj).1;omega) hj hy,hL⟩
 |k+1,i,s,l,w,fr,hi,hs,hll,hm,fw,hf=>by
  have hlt:i<L.length:=by omega
  obtain⟨x,hx⟩:∃x,L[i]?=some x:=⟨_,List.getElem?_eq_getElem hlt⟩
  obtain⟨ts,c0,c1,c2,hN⟩:=((hel i x hx).keep fw).ex
  have hxl:=htr x (List.mem_of_getElem? hx)
  rcases hN.ex with⟨_,h0⟩|⟨At,ot,ct,rfl,hct,hNel⟩
  ·exact(hne i x hx h0).elim
  obtain⟨ρ,hρ⟩:∃ρ:Env,ρ=Go.Proofs.Ytmobbajggkjpgaa.SX.mkS [(51,L.length),(52,c),(53,o),(10,i),(30,n),(4,x.at'),(71,x.tree.length),(72,ct),(73,ot)] [(50,A),(70,At)] [(7,s)] [(1,x.name)]:=⟨_,rfl⟩
  refine(bus4.go ρ hf (by rw[hρ];rfl) (ltB_ok (i:=10) (n:=51) (I:=i) (N:=L.length) (by rw[hρ];rfl) (by rw[hρ];rfl) hlt) ⟨by rw[hρ];exact c0,by rw[hρ];exact c1,by rw[hρ];exact c2,trivial⟩).trans fun g1 w1 hd=>?_
  obtain⟨I,B,fr1,rfl,f1,F1,_⟩:=hd
  rw[hρ]at F1
  refine(bus5.go (mkE [] [] [(36,letV x (slV At ot x.tree.length ct))]) (Q:=fun v w'=>IntsAt w' v (needsF x)) F1 rfl fun w' f2=>needs_all (hN.keep (f1.trans f2)) (hne i x hx) hxl).trans fun g2 w2 hd2=>?_
  obtain⟨fr2,vv,rfl,f2,hI,F2⟩:=hd2
  refine(bus5b.go (mkE [(51,L.length),(52,c),(53,o),(10,i),(30,n)] [(50,A)] [(7,s),(37,vv)]) F2 rfl trivial trivial).trans fun g3 w3 hd3=>?_
  obtain⟨I,B,fr3,rfl,f3,F3,_⟩:=hd3
  have hnl:(needsF x).length≤1000000:=Nat.le_trans (needs_len x) (by omega)
  refine(bus6.go (mkE [] [] [(37,vv),(38,iV n)]) (Q:=fun v w'=>v=.bool ((needsF x).contains n)) F3 rfl fun w' f4=>contains_all (hI.keep (f3.trans f4)) hnl n).trans fun g4 w4 hd4=>?_
  obtain⟨fr4,v4,rfl,f4,rfl,F4⟩:=hd4
  have f14:=f1.trans (f2.trans (f3.trans f4))
  have f04:=fw.trans f14
  cases hc:(needsF x).contains n with
  |false=>
   rw[hc]at F4
   refine(bus7.go (mkE [(51,L.length),(52,c),(53,o),(10,i),(30,n)] [(50,A)] [(7,s)]) F4 rfl trivial trivial).trans fun g5 w5 hd5=>?_
   obtain⟨I,B,fr5,rfl,f5,F5,_⟩:=hd5
   refine us_loop (c:=c) hel hne hlen htr k (i+1) (s:=s) (l:=l) (by omega) (hs.keep' (f14.trans f5)) (by omega) (fun j y hj hjy hny=>?_) (f04.trans f5) ?_
   ·by_cases hji:j=i
    ·subst hji
     obtain rfl:x=y:=Option.some.inj (hx.symm.trans hjy)
     have:(needsF x).contains n=true:=List.contains_iff_mem.2 hny
     rw[hc]at this
     cases this
    ·exact hm j y (by omega) hjy hny
   ·rw[<-inc (i:=i) (by omega)]
    exact F5
  |true=>
   rw[hc]at F4
   refine(us_push (base:=w0.heap.size) f04.size (hs.keep' f14) (by omega) (F4.only (l:=[(1,iV n),(7,s),(29,slV A o L.length c),(30,iV L.length),(31,iV i),(8,iV i),(39,.bool true)]) rfl)).trans fun g5 w5 hd5=>?_
   obtain⟨fr5,s',rfl,kp,hs',F5⟩:=hd5
   rw[inc (by omega)]at F5
   refine us_loop (c:=c) hel hne hlen htr k (i+1) (by omega) hs' (by simp;omega) (fun j y hj hjy hny=>?_) (fresh_keeps f04 kp) F5
   by_cases hji:j=i
   ·subst hji
    exact List.mem_append_right _ (List.mem_singleton.2 rfl)
   ·exact List.mem_append_left _ (hm j y (by omega) hjy hny)
theorem Users_all{x:Value}{F:FlowD}{i:Nat}(h:FlowAt w x F)(hlen:F.lets.length≤1000000)(htr:∀x∈F.lets,x.tree.length≤999999)(h0:(chkF F).1=0)(hne:∀(i:Nat) (x:LetD),F.lets[i]?=some x->x.tree≠[])(hi:i<F.lets.length):Ans 15 #[x,iV i] w fun v w'=>Fresh w w'∧∃l,IntsAt w' v l∧l.length≤F.lets.length∧∀(j:Nat) (y:LetD),F.lets[j]?=some y->(i:Int)∈needsF y->(j:Int)∈l:=by
 have h':=h
 obtain⟨ls,os,rfl,hl,ho⟩:=h
 obtain⟨z,A,o,c,rfl,hz,hzc,hel⟩:=hl.ex
 cases z with
 |true=>
  rw[hz rfl]at hi
  simp at hi
 |false=>
 refine ans_of fun cs=>?_
 obtain⟨ρ,hρ⟩:∃ρ:Env,ρ=mkE [(51,F.lets.length),(52,c),(53,o),(30,i)] [(50,A)] [(9,os)]:=⟨_,rfl⟩
 refine(bus1.go ρ (enter2 ent15 rfl (.agg #[slV A o F.lets.length c,os]) (iV i)) (by rw[hρ];rfl) trivial trivial).trans fun g1 w1 hd=>?_
 obtain⟨I,B,fr1,rfl,f1,F1,bl,_⟩:=hd
 rw[hρ]at F1 bl
 obtain⟨X,eX⟩:∃X,B 100=X:=⟨_,rfl⟩
 have hX:(Blk.obj 25 [slV A o F.lets.length c,os]).at Try.prog w1 X:=by rw[<-eX];exact bl.1.2
 have F1':FA 15 46 (.inRegion (opsOf (q15 [1,0,0])) [1,2,3,4,5,6]::[.code (q15 [1,0,1]),.code (q15 [1,1])]) [] .normal [(1,iV i),(2,ptrV X),(4,nilV),(11,.agg #[slV A o F.lets.length c,os])] fr1:=by rw[<-eX];exact F1
 refine(bus2.go (mkE [] [] [(11,.agg #[slV A o F.lets.length c,os])]) (Q:=fun v w'=>v=.tuple #[iV 0,iV (chkF F).2]) F1' rfl fun w' f2=>(check_all (h'.keep (f1.trans f2)) hlen htr).mono fun v w2 hd=>⟨hd.1,by rw[hd.2,h0]⟩).trans fun g2 w2 hd2=>?_
 obtain⟨fr2,vv,rfl,f2,rfl,F2⟩:=hd2
 have f12:=f1.trans f2
 obtain⟨σ,hσ⟩:∃σ:Env,σ=mkE [(51,F.lets.length),(52,c),(53,o),(30,i),(6,(chkF F).2)] [(50,A),(64,X)] []:=⟨_,rfl⟩
 refine(bus3.go σ F2 (by rw[hσ];rfl) (ltB_ok (i:=30) (n:=51) (I:=i) (N:=F.lets.length) (by rw[hσ];rfl) (by rw[hσ];rfl) hi) ⟨by rw[hσ];exact f2.cell (blk_cell hX (i:=0) rfl),trivial⟩).trans fun g3 w3 hd3=>?_
 obtain⟨I,B,fr3,rfl,f3,F3,_⟩:=hd3
 rw[hσ]at F3
 have f13:=f12.trans f3
 refine(us_loop (w0:=w3) (l:=[]) (fun i x hi=>(hel i x hi).keep f13) hne hlen htr F.lets.length 0 (by omega) (.inl ⟨rfl,rfl⟩) (Nat.le_refl _) (fun j y hj=>(by omega)) (Fresh.refl _) F3).mono fun g4 w4 hd4=>?_
 obtain⟨fr4,s',l',rfl,f4,hI,hll,hm,hL⟩:=hd4
 exact⟨fr4,_,rfl,hL,f13.trans f4,l',hI,hll,hm⟩
noncomputable abbrev HaH:List Item:=[.code (q14 [1,0,1,0,0]),.inLoop (q14 [1,0,1,0,0]),.inBlock 0,.code (q14 [1,1])]
theorem ha_loop{A o c:Nat}{n:Int}{l:List Int}(hel:∀i m,l[i]?=some m->w0.cell? ⟨A,o+i,none⟩=some (iV m))(hlen:l.length≤1000000){j:Nat}(hj:l[j]?=some n):
  ∀(k i:Nat) {w:World} {fr:Frame},i+k=j->Fresh w0 w->FA 14 18 HaH [] .normal [(0,slV A o l.length c),(1,iV n),(5,iV i)] fr->
  Goes (G fr cs) w fun g' w'=>∃fr',g'=G fr' cs∧Fresh w0 w'∧Leav 14 fr' w' (.bool true):=by
 have hjl:=(List.getElem?_eq_some_iff.1 hj).1
 have hit:∀(i:Nat) {w:World} {fr:Frame},l[i]?=some n->Fresh w0 w->FA 14 18 HaH [] .normal [(0,slV A o l.length c),(1,iV n),(5,iV i)] fr->Goes (G fr cs) w fun g' w'=>∃fr',g'=G fr' cs∧Fresh w0 w'∧Leav 14 fr' w' (.bool true):=fun i w fr hi fw hf=>by
  have hlt:=(List.getElem?_eq_some_iff.1 hi).1
  obtain⟨ρ,hρ⟩:∃ρ:Env,ρ=mkE [(71,l.length),(72,c),(73,o),(10,i),(30,n),(12,n)] [(70,A)] []:=⟨_,rfl⟩
  refine(bha2.go ρ hf (by rw[hρ];rfl) (AllB.app (ltB_ok (i:=10) (n:=71) (I:=i) (N:=l.length) (by rw[hρ];rfl) (by rw[hρ];rfl) hlt) ⟨by rw[hρ];exact decide_eq_true rfl,trivial⟩) ⟨by rw[hρ];exact fw.cell (hel i n hi),trivial⟩).trans fun g1 w1 hd=>?_
  obtain⟨I,B,fr1,rfl,f1,F1,_⟩:=hd
  refine(leave1 ret14 F1 rfl).mono fun g6 w6 hd6=>?_
  obtain⟨fr6,rfl,rfl,hL⟩:=hd6
  exact⟨fr6,rfl,fw.trans f1,hL⟩
 intro k
 induction k with
 |zero=>
  intro i w fr hi fw hf
  obtain rfl:i=j:=by omega
  exact hit i hj fw hf
 |succ k ih=>
  intro i w fr hi fw hf
  have hlt:i<l.length:=by omega
  obtain⟨m,hm⟩:∃m,l[i]?=some m:=⟨_,List.getElem?_eq_getElem hlt⟩
  by_cases hmn:m=n
  ·subst hmn
   exact hit i hm fw hf
  ·obtain⟨ρ,hρ⟩:∃ρ:Env,ρ=mkE [(71,l.length),(72,c),(73,o),(10,i),(30,n),(12,m)] [(70,A)] []:=⟨_,rfl⟩
   refine(bha3.go ρ hf (by rw[hρ];rfl) (AllB.app (ltB_ok (i:=10) (n:=71) (I:=i) (N:=l.length) (by rw[hρ];rfl) (by rw[hρ];rfl) hlt) ⟨by rw[hρ];exact decide_eq_false hmn,trivial⟩) ⟨by rw[hρ];exact fw.cell (hel i m hm),trivial⟩).trans fun g1 w1 hd=>?_
   obtain⟨I,B,fr1,rfl,f1,F1,_⟩:=hd
   rw[hρ]at F1
   refine ih (i+1) (by omega) (fw.trans f1) ?_
   rw[<-inc (i:=i) (by omega)]
   exact F1
theorem hasInt_all{s:Value}{l:List Int}{n:Int}(h:IntsAt w s l)(hlen:l.length≤1000000)(hn:n∈l):Ans 14 #[s,iV n] w fun v w'=>Fresh w w'∧v=.bool true:=by
 obtain⟨z,A,o,c,rfl,hz,hzc,hel⟩:=h.ex
 cases z with
 |true=>
  rw[hz rfl]at hn
  cases hn
 |false=>
 obtain⟨j,hj⟩:=List.getElem?_of_mem hn
 refine ans_of fun cs=>?_
 refine(bha1.go (mkE [(71,l.length),(72,c),(73,o),(30,n)] [(70,A)] []) (enter2 ent14 rfl (slV A o l.length c) (iV n)) rfl trivial trivial).trans fun g1 w1 hd=>?_
 obtain⟨I,B,fr1,rfl,f1,F1,_⟩:=hd
 refine(ha_loop (w0:=w1) (fun i m hi=>f1.cell (hel i m hi)) hlen hj j 0 (by omega) (Fresh.refl _) F1).mono fun g2 w2 hd2=>?_
 obtain⟨fr2,rfl,f2,hL⟩:=hd2
 exact⟨fr2,_,rfl,hL,f1.trans f2,rfl⟩
noncomputable abbrev EeH:List Item:=[.code (q17 [1,1,0,1,0,0]),.inLoop (q17 [1,1,0,1,0,0]),.inBlock 0,.code (q17 [1,1,1])]
theorem ee_loop{z y:Bool}{A o c A' o' c':Nat}{E:List (Int×Int)}(hz:z=true->E=[])(hy:y=true->E=[])(hel:∀i e,E[i]?=some e->w0.cell? ⟨A,o+i*2,none⟩=some (i8V e.1)∧w0.cell? ⟨A,o+i*2+1,none⟩=some (iV e.2))(hel':∀i e,E[i]?=some e->w0.cell? ⟨A',o'+i*2,none⟩=some (i8V e.1)∧w0.cell? ⟨A',o'+i*2+1,none⟩=some (iV e.2))(hlen:E.length≤1000000):
  ∀(k i:Nat) {w:World} {fr:Frame},i+k=E.length->Fresh w0 w->FA 17 26 EeH [] .normal [(0,hdV z A o E.length c),(1,hdV y A' o' E.length c'),(5,iV i)] fr->
  Goes (G fr cs) w fun g' w'=>∃fr',g'=G fr' cs∧Fresh w0 w'∧Leav 17 fr' w' (.bool true)
 |0,i,w,fr,hi,fw,hf=>by
  obtain⟨ρ,hρ⟩:∃ρ:Env,ρ=mkE [(51,E.length),(52,c),(53,o),(61,E.length),(62,c'),(63,o'),(10,i)] [(50,A),(60,A')] []:=⟨_,rfl⟩
  have ez:(slZ z 50 53 51 52).ev ρ=hdV z A o E.length c:=by rw[hρ];cases z<;>rfl
  have ey:(slZ y 60 63 61 62).ev ρ=hdV y A' o' E.length c':=by rw[hρ];cases y<;>rfl
  refine((bee4 z y).go ρ hf (by
   show[some _,some _,some _]=[some ((slZ z 50 53 51 52).ev ρ),some ((slZ y 60 63 61 62).ev ρ),some _]
   rw[ez,ey,hρ];rfl) ⟨by
    rw[hρ]
    cases z with
    |false=>exact decide_eq_false (by show ¬((i:Int)<((E.length:Nat):Int));omega)
    |true=>exact decide_eq_false (by show ¬((i:Int)<0);omega),trivial⟩ trivial).trans fun g1 w1 hd=>?_
  obtain⟨I,B,fr1,rfl,f1,F1,_⟩:=hd
  refine(leave1 ret17 F1 rfl).mono fun g6 w6 hd6=>?_
  obtain⟨fr6,rfl,rfl,hL⟩:=hd6
  exact⟨fr6,rfl,fw.trans f1,hL⟩
 |k+1,i,w,fr,hi,fw,hf=>by
  have hlt:i<E.length:=by omega
  obtain⟨e,he⟩:∃e,E[i]?=some e:=⟨_,List.getElem?_eq_getElem hlt⟩
  cases z with
  |true=>
   rw[hz rfl]at hlt
   simp at hlt
  |false=>
  cases y with
  |true=>
   rw[hy rfl]at hlt
   simp at hlt
  |false=>
  obtain⟨c1,c2⟩:=hel i e he
  obtain⟨d1,d2⟩:=hel' i e he
  obtain⟨f,hmore⟩:=hf.more
  have hf2:=hmore ((List.range 26).filter fun i=>!([0,1,5].contains i))
  obtain⟨ρ,hρ⟩:∃ρ:Env,ρ={(mkE [(51,E.length),(52,c),(53,o),(61,E.length),(62,c'),(63,o'),(10,i),(11,e.1),(12,e.2),(13,e.1),(14,e.2)] [(50,A),(60,A')] []:Env)with v:=f}:=⟨_,rfl⟩
  refine(bee3.go ρ hf2 (by rw[hρ];unfold Tell;kernel_rfl) (AllB.app (ltB_ok (i:=10) (n:=51) (I:=i) (N:=E.length) (by rw[hρ];rfl) (by rw[hρ];rfl) hlt) (AllB.app (ltB_ok (i:=10) (n:=61) (I:=i) (N:=E.length) (by rw[hρ];rfl) (by rw[hρ];rfl) hlt) ⟨by rw[hρ];exact decide_eq_true rfl,by rw[hρ];exact decide_eq_true rfl,trivial⟩)) ⟨by rw[hρ];exact fw.cell c1,by rw[hρ];exact fw.cell c2,by rw[hρ];exact fw.cell d1,by rw[hρ];exact fw.cell d2,trivial⟩).trans fun g1 w1 hd=>?_
  obtain⟨I,B,fr1,rfl,f1,F1,_⟩:=hd
  rw[hρ]at F1
  refine ee_loop (z:=false) (y:=false) (c:=c) (c':=c') (fun h=>by cases h) (fun h=>by cases h) hel hel' hlen k (i+1) (by omega) (fw.trans f1) ?_
  rw[<-inc (i:=i) (by omega)]
  exact F1
theorem eqEnds_all{a b:Value}{E:List (Int×Int)}(ha:EndsAt w a E)(hb:EndsAt w b E)(hlen:E.length≤1000000):Ans 17 #[a,b] w fun v w'=>Fresh w w'∧v=.bool true:=by
 obtain⟨z,A,o,c,rfl,hz,hzc,hel⟩:=ha.ex
 obtain⟨y,A',o',c',rfl,hy,hyc,hel'⟩:=hb.ex
 refine ans_of fun cs=>?_
 obtain⟨ρ,hρ⟩:∃ρ:Env,ρ=mkE [(51,E.length),(52,c),(53,o),(61,E.length),(62,c'),(63,o')] [(50,A),(60,A')] []:=⟨_,rfl⟩
 have ez:∀I B,(slZ z 50 53 51 52).ev (mixE ρ I B)=hdV z A o E.length c:=fun I B=>by rw[hρ];cases z<;>rfl
 have ey:∀I B,(slZ y 60 63 61 62).ev (mixE ρ I B)=hdV y A' o' E.length c':=fun I B=>by rw[hρ];cases y<;>rfl
 have ez0:(slZ z 50 53 51 52).ev ρ=hdV z A o E.length c:=by rw[hρ];cases z<;>rfl
 have ey0:(slZ y 60 63 61 62).ev ρ=hdV y A' o' E.length c':=by rw[hρ];cases y<;>rfl
 have nz:(lnZ z 51).ev ρ=(E.length:Int):=by
  rw[hρ]
  cases z with
  |false=>rfl
  |true=>rw[hz rfl];rfl
 have ny:(lnZ y 61).ev ρ=(E.length:Int):=by
  rw[hρ]
  cases y with
  |false=>rfl
  |true=>rw[hy rfl];rfl
 refine((bee2 z y).go ρ (enter2 ent17 rfl (hdV z A o E.length c) (hdV y A' o' E.length c')) (by
  show[some _,some _]=[some ((slZ z 50 53 51 52).ev ρ),some ((slZ y 60 63 61 62).ev ρ)]
  rw[ez0,ey0]) ⟨by
   show(!decide ((lnZ z 51).ev ρ=(lnZ y 61).ev ρ))=false
   rw[nz,ny];simp,trivial⟩ trivial).trans fun g1 w1 hd=>?_
 obtain⟨I,B,fr1,rfl,f1,F1,_⟩:=hd
 have F1':FA 17 26 EeH [] .normal [(0,hdV z A o E.length c),(1,hdV y A' o' E.length c'),(5,iV (0:Nat))] fr1:=by
  have h1:FA 17 26 EeH [] .normal [(0,(slZ z 50 53 51 52).ev (mixE ρ I B)),(1,(slZ y 60 63 61 62).ev (mixE ρ I B)),(5,iV (0:Nat))] fr1:=F1
  rwa[ez,ey]at h1
 refine(ee_loop (w0:=w1) hz hy (fun i e hi=>⟨f1.cell (hel i e hi).1,f1.cell (hel i e hi).2⟩) (fun i e hi=>⟨f1.cell (hel' i e hi).1,f1.cell (hel' i e hi).2⟩) hlen E.length 0 (by omega) (Fresh.refl _) F1').mono fun g2 w2 hd2=>?_
 obtain⟨fr2,rfl,f2,hL⟩:=hd2
 exact⟨fr2,_,rfl,hL,f1.trans f2,rfl⟩
end
def NumMap(w:World)(M:Nat)(ks:List (Int×Int)):Prop:=MapIs w M (ks.map fun p=>(iV p.1,iV p.2))
def findI(n:Int)(ks:List (Int×Int)):Option Int:=(ks.find? fun p=>n==p.1).map (·.2)
theorem findNow_num{n:Int}:∀{es:List MapEntry} {ks:List (Int×Int)} (i:Nat),es.map (fun e=>(e.key,e.val))=ks.map (fun p=>(iV p.1,iV p.2))->∃r,Instr.findNow (.int .i64) (iV n) es i=some r∧r.map (·.2)=(findI n ks).map iV
 |[],ks,i,h=>by
  cases ks with
  |nil=>exact⟨none,rfl,rfl⟩
  |cons k ks=>cases h
 |e::es,ks,i,h=>by
  cases ks with
  |nil=>cases h
  |cons k ks=>
   simp only[List.map_cons,List.cons.injEq,Prod.mk.injEq]at h
   obtain⟨⟨h1,h2⟩,h3⟩:=h
   unfold Instr.findNow
   rw[h1]
   unfold findI
   rw[List.find?_cons]
   show ∃r,(match some (n==k.1)with
    |some true=>some (some (i,e.val))
    |some false=>Instr.findNow (.int .i64) (iV n) es (i+1)
    |none=>none)=some r∧_
   cases hb:n==k.1 with
   |true=>exact⟨_,rfl,by simp[h2]⟩
   |false=>
    obtain⟨r,h4,h5⟩:=findNow_num (i+1) h3
    exact⟨r,h4,h5⟩
theorem mapU69:Try.prog.underlying 69=some (.map 3 3):=by kernel_rfl
theorem intU3:Try.prog.underlying 3=some (.int .i64):=by kernel_rfl
theorem intZ3:zero? Try.prog 3=.ok (.int .i64 (.lit 0)):=by kernel_rfl
theorem wq_checkNum{Ev:Event->Prop}{E:Value->World->Prop}{w:World}{k:Value}{b:Bool}{Q:Unit->World->Prop}(hq:Q () w):wq Try.prog Ev E (Instr.checkKey b 10000 3 k) Q w:=by
 unfold Instr.checkKey
 simp only[wq_bind,wq_underlying intU3]
 cases k<;>exact hq
theorem wq_findNum{Ev:Event->Prop}{E:Value->World->Prop}{w:World}{n:Int}{es:List MapEntry}{ks:List (Int×Int)}(h:es.map (fun e=>(e.key,e.val))=ks.map (fun p=>(iV p.1,iV p.2))){Q:Option (Nat×Value)->World->Prop}(hq:∀r,r.map (·.2)=(findI n ks).map iV->Q r w):wq Try.prog Ev E (Instr.findKey 3 (iV n) es) Q w:=by
 unfold Instr.findKey
 simp only[wq_bind,wq_underlying intU3]
 obtain⟨r,h1,h2⟩:=findNow_num (n:=n) 0 h
 rw[h1]
 exact hq r h2
section
variable {w:World}{M:Nat}{ks:List (Int×Int)}{n:Int}{E:Value->World->Prop}
theorem wq_lookNum(h:NumMap w M ks){Q:Value->World->Prop}(hq:Q (.tuple #[iV ((findI n ks).getD 0),.bool (findI n ks).isSome]) w):wq Try.prog (fun _=>True) E (Instr.lookup 69 (.map (some M)) (iV n) true) Q w:=by
 obtain⟨arr,clk,h1,h2⟩:=h
 simp only[Instr.lookup,wq_bind,wq_underlying mapU69]
 refine wq_getObj h1 (by intros;simp) trivial ?_
 simp only[wq_bind,wq_pure]
 refine wq_checkNum ?_
 refine wq_findNum h2 fun r hr=>?_
 cases r with
 |none=>
  have e:findI n ks=none:=by
   cases e:findI n ks with
   |none=>rfl
   |some b=>rw[e]at hr;cases hr
  rw[e]at hq
  simp only[wq_bind,wq_pure]
  rw[wq_zeroValue (ρ:=mkE [] [] []) intZ3]
  exact hq
 |some p=>
  obtain⟨j,x⟩:=p
  have e:∃b,findI n ks=some b∧x=iV b:=by
   cases e:findI n ks with
   |none=>rw[e]at hr;cases hr
   |some b=>
    rw[e]at hr
    exact⟨b,rfl,Option.some.inj hr⟩
  obtain⟨b,e1,rfl⟩:=e
  rw[e1]at hq
  simp only[wq_pure]
  exact hq
theorem wq_newNum(h:NumMap w M ks)(hn:findI n ks=none){b:Int}{Q:Unit->World->Prop}(hq:∀w',NumMap w' M (ks++[(n,b)])->Keeps (fun n=>n=M) w w'->Q () w'):wq Try.prog (fun _=>True) E (Instr.mapUpdate 69 (.map (some M)) (iV n) (iV b)) Q w:=by
 have hlt:=MapIs.lt h
 obtain⟨arr,clk,h1,h2⟩:=h
 simp only[Instr.mapUpdate,wq_bind,wq_underlying mapU69]
 refine wq_getObj h1 (by intros;simp) trivial ?_
 simp only[wq_bind]
 refine wq_checkNum ?_
 refine wq_findNum h2 fun r hr=>?_
 rw[hn]at hr
 cases r with
 |some p=>cases hr
 |none=>
  refine wq_setObj h1 (by intros;simp) trivial ?_
  refine hq _ ⟨arr.push {key:=iV n,val:=iV b,born:=clk},clk+1,?_,?_⟩ ⟨fun n hn=>?_,?_,rfl,rfl,rfl⟩
  ·simp[hlt]
  ·rw[Array.toList_push,List.map_append,h2,List.map_append]
   rfl
  ·have:M≠n:=fun e=>hn e.symm
   simp[this]
  ·simp
end
def levStep(V:List Int)(x:LetD):Int:=(needsF x).foldl (fun m k=>max m (V.getD k.toNat 0+1)) 0
def levL:List LetD->List Int->List Int
 |[],V=>V
 |x::r,V=>levL r (V++[levStep V x])
def knownE(V:List Int):List (Int×Int):=V.zipIdx.map fun p=>((p.2:Int),p.1)
theorem find_known:∀(V:List Int) (k n:Nat),((V.zipIdx k).map fun p=>((p.2:Int),p.1)).find? (fun p=>((n:Int)==p.1))=if k≤n then(V[n-k]?).map fun v=>((n:Int),v)else none
 |[],k,n=>by simp
 |v::V,k,n=>by
  rw[List.zipIdx_cons,List.map_cons,List.find?_cons]
  by_cases h:n=k
  ·subst h
   simp
  ·have h1:((n:Int)==(k:Int))=false:=by
    cases e:((n:Int)==(k:Int))with
    |false=>rfl
    |true=>exact(h (by have:=eq_of_beq e;omega)).elim
   show(match((n:Int)==(k:Int))with|true=>_|false=>_)=_
   rw[h1]
   show List.find? _ _=_
   rw[find_known V (k+1) n]
   by_cases h2:k≤n
   ·rw[if_pos h2,if_pos (by omega),show n-k=(n-(k+1))+1 by omega,List.getElem?_cons_succ]
   ·rw[if_neg h2,if_neg (by omega)]
theorem find_knownE(V:List Int)(n:Nat):findI n (knownE V)=V[n]?:=by
 unfold findI knownE
 rw[find_known V 0 n,if_pos (Nat.zero_le _),Nat.sub_zero]
 cases V[n]?<;>rfl
theorem known_push(V:List Int)(v:Int):knownE (V++[v])=knownE V++[((V.length:Int),v)]:=by
 unfold knownE
 rw[List.zipIdx_append,List.map_append]
 simp
structure LevW(w:World)(L:List LetD)(A o c X K G M:Nat)(V:List Int):Prop where
 flow:w.cell? ⟨X,0,none⟩=some (slV A o L.length c)
 known:w.cell? ⟨K,0,none⟩=some (.map (some M))
 self:w.cell? ⟨G,0,none⟩=some (lfnV K X G)
 map:NumMap w M (knownE V)
 lets:∀(i:Nat) (x:LetD),L[i]?=some x->LetAt w A (o+i*3) x
theorem LevW.keep{w w':World}{L:List LetD}{A o c X K G M:Nat}{V:List Int}(h:LevW w L A o c X K G M V)(f:Fresh w w'):LevW w' L A o c X K G M V:=
 ⟨f.cell h.flow,f.cell h.known,f.cell h.self,blk_keep (k:=.map _) h.map f,fun i x hi=>(h.lets i x hi).keep f⟩
noncomputable abbrev LfH:List Item:=[.code (q27 [1,1,1,0,1,0,0]),.inLoop (q27 [1,1,1,0,1,0,0]),.inBlock 0,.code (q27 [1,1,1,1])]
section
variable {w w0:World}{cs:List Frame}{fr:Frame}{L:List LetD}{A o c X K Gb M:Nat}{V:List Int}
theorem lev_hit{n:Nat}{v:Int}(h:LevW w L A o c X K Gb M V)(hn:V[n]?=some v):Ans 27 #[iV n,ptrV K,ptrV X,ptrV Gb] w fun r w'=>Fresh w w'∧r=iV v:=by
 refine ans_of fun cs=>?_
 obtain⟨ρ,hρ⟩:∃ρ:Env,ρ=mkE [(51,L.length),(52,c),(53,o),(10,n),(7,v)] [(50,A),(61,K),(64,X),(62,Gb),(60,M)] []:=⟨_,rfl⟩
 refine(ble1.go ρ (enter4 ent27c rfl (iV n) (ptrV K) (ptrV X) (ptrV Gb)) (by rw[hρ];rfl) trivial ⟨by rw[hρ];exact h.flow,by rw[hρ];exact h.known,by rw[hρ];exact h.self,trivial⟩).trans fun g1 w1 hd=>?_
 obtain⟨I,B,fr1,rfl,f1,F1,_⟩:=hd
 rw[hρ]at F1
 refine(ble2.go (R:=fun y w'=>y=.tuple #[iV v,.bool true]∧w'=w1) (mkE [] [] []) F1 (by decide) rfl fun tm htm x' e1 e2=>?_).trans fun g2 w2 hd2=>?_
 ·unfold execOp
  simp only[e1,wq_bind]
  rw[htm 12 (.map (some M)) rfl,htm 13 (iV n) rfl]
  refine wq_lookNum (ks:=knownE V) (blk_keep (k:=.map _) h.map f1) ?_
  rw[find_knownE,hn]
  exact⟨_,rfl,rfl,rfl⟩
 obtain⟨fr2,y,rfl,⟨rfl,rfl⟩,F2⟩:=hd2
 refine(ble3.go ρ F2 (by rw[hρ];rfl) trivial trivial).trans fun g3 w3 hd3=>?_
 obtain⟨I,B,fr3,rfl,f3,F3,_⟩:=hd3
 rw[hρ]at F3
 refine(leave1 ret27 F3 rfl).mono fun g6 w6 hd6=>?_
 obtain⟨fr6,rfl,rfl,hL⟩:=hd6
 exact⟨fr6,_,rfl,hL,f1.trans f3,rfl⟩
theorem lev_loop{n:Nat}{S:List Int}{zs:Bool}{As os' cs':Nat}(hw:LevW w0 L A o c X K Gb M V)(hzs:zs=true->S=[])(hel:∀i m,S[i]?=some m->w0.cell? ⟨As,os'+i,none⟩=some (iV m))(hS:∀m∈S,0≤m∧m.toNat<V.length)(hV:∀v∈V,0≤v∧v≤1000000)(hlen:S.length≤1000000):
  ∀(k i:Nat) (most:Int) {w:World} {fr:Frame},i+k=S.length->0≤most->most≤1000001->most=(S.take i).foldl (fun m k=>max m (V.getD k.toNat 0+1)) 0->Fresh w0 w->FA 27 41 LfH [] .normal [(0,iV n),(1,ptrV K),(2,ptrV X),(3,ptrV Gb),(8,iV most),(24,hdV zs As os' S.length cs'),(25,iV S.length),(26,iV i)] fr->
  Goes (G fr cs) w fun g' w'=>∃fr',g'=G fr' cs∧Fresh w0 w'∧FA 27 41 LfH [] .normal [(0,iV n),(1,ptrV K),(2,ptrV X),(3,ptrV Gb),(8,iV (S.foldl (fun m k=>max m (V.getD k.toNat 0+1)) 0)),(24,hdV zs As os' S.length cs'),(25,iV S.length),(26,iV S.length)] fr'
 |0,i,most,w,fr,hi,h1,h2,hm,fw,hf=>by
  obtain rfl:i=S.length:=by omega
  rw[List.take_of_length_le (Nat.le_refl _)]at hm
  rw[hm]at hf
  exact .here ⟨fr,rfl,fw,hf⟩
 |k+1,i,most,w,fr,hi,h1,h2,hm,fw,hf=>by
  have hlt:i<S.length:=by omega
  obtain⟨m,hmi⟩:∃m,S[i]?=some m:=⟨_,List.getElem?_eq_getElem hlt⟩
  cases zs with
  |true=>
   rw[hzs rfl]at hlt
   simp at hlt
  |false=>
  obtain⟨hm0,hmV⟩:=hS m (List.mem_of_getElem? hmi)
  obtain⟨q,rfl⟩:∃q:Nat,m=q:=⟨m.toNat,by omega⟩
  have hqV:q<V.length:=by simpa using hmV
  obtain⟨lv,hlv⟩:∃lv,V[q]?=some lv:=⟨_,List.getElem?_eq_getElem hqV⟩
  have hlvb:=hV lv (List.mem_of_getElem? hlv)
  obtain⟨ρ,hρ⟩:∃ρ:Env,ρ=mkE [(71,S.length),(72,cs'),(73,os'),(10,n),(9,most),(11,i),(12,q)] [(70,As),(61,K),(64,X),(62,Gb)] []:=⟨_,rfl⟩
  refine(ble7.go ρ hf (by rw[hρ];rfl) (ltB_ok (i:=11) (n:=71) (I:=i) (N:=S.length) (by rw[hρ];rfl) (by rw[hρ];rfl) hlt) ⟨by rw[hρ];exact fw.cell (hel i q hmi),by rw[hρ];exact fw.cell hw.self,trivial⟩).trans fun g1 w1 hd=>?_
  obtain⟨I,B,fr1,rfl,f1,F1,_⟩:=hd
  rw[hρ]at F1
  refine(op_call (ρ:=mkE [(12,q)] [(61,K),(64,X),(62,Gb)] []) (bs:=[]) (mem:=[]) (Q:=fun r w'=>Fresh w1 w'∧r=iV lv) F1 (fun p hp=>?_) ble8.want ble8.op ble8.low (nofun) (nofun) ble8.dst ble8.dlt ble8.alow fun w' f2=>?_).trans fun g2 w2 hd2=>?_
  ·simp only[told,List.map_cons,List.map_nil,List.mem_cons,List.not_mem_nil,or_false]at hp
   rcases hp with rfl|rfl
   ·exact lookV_mem rfl
   ·exact lookV_mem rfl
  ·exact(lev_hit (hw.keep (fw.trans (f1.trans f2))) hlv).mono fun v w2 hd=>⟨f2.trans hd.1,hd.2⟩
  obtain⟨fr2,vv,rfl,⟨f2,rfl⟩,F2⟩:=hd2
  refine(ble9.go (mkE [(71,S.length),(72,cs'),(73,os'),(10,n),(9,most),(11,i),(7,lv)] [(70,As),(61,K),(64,X),(62,Gb)] []) F2 rfl trivial trivial).trans fun g3 w3 hd3=>?_
  obtain⟨I,B,fr3,rfl,f3,F3,_⟩:=hd3
  have e1':iop .add .i64 lv 1=lv+1:=by
   show IntKind.wrap .i64 (lv+1)=_
   rw[I64_wrap (by omega)]
  have F3':FA 27 41 (.inRegion (opsOf (q27 [1,1,1,0,1,0,0,1,1,0,0,1])) [5,6]::[.inBlock 1,.code (q27 [1,1,1,0,1,0,0,1,1,1]),.inLoop (q27 [1,1,1,0,1,0,0]),.inBlock 0,.code (q27 [1,1,1,1])]) [] .normal [(0,iV n),(1,ptrV K),(2,ptrV X),(3,ptrV Gb),(8,iV most),(24,slV As os' S.length cs'),(25,iV S.length),(26,iV i),(30,iV most),(34,iV (lv+1))] fr3:=by
   rw[<-e1']
   exact F3
  refine(bleA.go (R:=fun y w'=>y=iV (max most (lv+1))∧w'=w3) (mkE [] [] []) F3' (by decide) rfl fun tm htm x' e1 e2=>?_).trans fun g4 w4 hd4=>?_
  ·unfold execOp
   simp only[e1,e2,resolve,wq_bind,wq_pure,invoke,builtin]
   rw[show Array.map (⟨tm,[]⟩:Act).eval #[Operand.tmp 30,Operand.tmp 34]=#[(⟨tm,[]⟩:Act).eval (.tmp 30),(⟨tm,[]⟩:Act).eval (.tmp 34)]from by simp]
   rw[htm 30 (iV most) rfl,htm 34 (iV (lv+1)) rfl]
   simp only[Builtin.max_,iV,List.foldlM_cons,List.foldlM_nil,Builtin.max2,wq_bind,wq_pure]
   refine⟨_,rfl,?_,trivial⟩
   first|rfl|(simp only[Int.max_def];split<;>split<;>first|rfl|(congr 1;omega))
  obtain⟨fr4,y,rfl,⟨rfl,rfl⟩,F4⟩:=hd4
  refine(bleB.go (mkE [(71,S.length),(72,cs'),(73,os'),(10,n),(11,i),(7,max most (lv+1))] [(70,As),(61,K),(64,X),(62,Gb)] []) F4 rfl trivial trivial).trans fun g5 w5 hd5=>?_
  obtain⟨I,B,fr5,rfl,f5,F5,_⟩:=hd5
  refine lev_loop (zs:=false) (cs':=cs') hw (fun h=>by cases h) hel hS hV hlen k (i+1) (max most (lv+1)) (by omega) (by omega) (by omega) ?_ (fw.trans (f1.trans (f2.trans (f3.trans f5)))) ?_
  ·rw[List.take_add_one,hmi]
   simp only[Option.toList,List.foldl_append,List.foldl_cons,List.foldl_nil]
   rw[<-hm,Int.toNat_natCast,List.getD_eq_getElem?_getD,hlv]
   rfl
  ·rw[<-inc (i:=i) (by omega)]
   exact F5
end
section
variable {w w':World}
theorem NodesAt.keepC(f:∀a v,w.cell? a=some v->w'.cell? a=some v){s:Value}{l:List Nd}(h:NodesAt w s l):NodesAt w' s l:=by
 rcases h.ex with h|⟨A,o,c,h1,h2,h3⟩
 ·exact⟨.inl h⟩
 ·exact⟨.inr ⟨A,o,c,h1,h2,fun i n hi=>⟨f _ _ (h3 i n hi).c0,f _ _ (h3 i n hi).c1,f _ _ (h3 i n hi).c2,f _ _ (h3 i n hi).c3⟩⟩⟩
theorem LetAt.keepC(f:∀a v,w.cell? a=some v->w'.cell? a=some v){A o:Nat}{x:LetD}(h:LetAt w A o x):LetAt w' A o x:=by
 obtain⟨ts,h1,h2,h3,h4⟩:=h.ex
 exact⟨ts,f _ _ h1,f _ _ h2,f _ _ h3,h4.keepC f⟩
abbrev NewOr(w:World)(M b:Nat):Prop:=w.heap.size≤b∨b=M
theorem keep_map{M:Nat}{ks:List (Int×Int)}(hM:NumMap w M ks)(kp:Keeps (NewOr w M) w w'):∀a v,w.cell? a=some v->w'.cell? a=some v:=fun a v hc=>cell_keep kp hc (by
 intro hh
 rcases hh with hh|hh
 ·have:=cellLt hc
  omega
 ·exact map_off hM hc hh.symm)
theorem LevW.keepC{L:List LetD}{A o c X K G M:Nat}{V V':List Int}(h:LevW w L A o c X K G M V)(f:∀a v,w.cell? a=some v->w'.cell? a=some v)(hm:NumMap w' M (knownE V')):LevW w' L A o c X K G M V':=
 ⟨f _ _ h.flow,f _ _ h.known,f _ _ h.self,hm,fun i x hi=>(h.lets i x hi).keepC f⟩
end
theorem levStep_ge{V:List Int}:∀{S:List Int} {m:Int},0≤m->0≤S.foldl (fun m k=>max m (V.getD k.toNat 0+1)) m
 |[],m,h=>h
 |a::S,m,h=>by
  rw[List.foldl_cons]
  exact levStep_ge (by omega)
theorem levStep_le{V:List Int}{b:Int}(hV:∀v∈V,v≤b)(hb:0≤b):∀{S:List Int} {m:Int},m≤b+1->S.foldl (fun m k=>max m (V.getD k.toNat 0+1)) m≤b+1
 |[],m,h=>h
 |a::S,m,h=>by
  rw[List.foldl_cons]
  refine levStep_le hV hb ?_
  have:V.getD a.toNat 0≤b:=by
   rw[List.getD_eq_getElem?_getD]
   cases e:V[a.toNat]? with
   |none=>exact hb
   |some v=>exact hV v (List.mem_of_getElem? e)
  omega
section
variable {w w0:World}{cs:List Frame}{fr:Frame}{L:List LetD}{A o c X K Gb M:Nat}{V:List Int}
theorem lev_miss{x:LetD}(h:LevW w L A o c X K Gb M V)(hx:L[V.length]?=some x)(hne:x.tree≠[])(hxl:x.tree.length≤999999)(hS:∀m∈needsF x,0≤m∧m.toNat<V.length)(hV:∀v∈V,0≤v∧v≤1000000)(hlen:L.length≤1000000):
  Ans 27 #[iV V.length,ptrV K,ptrV X,ptrV Gb] w fun r w'=>Keeps (NewOr w M) w w'∧r=iV (levStep V x)∧NumMap w' M (knownE (V++[levStep V x])):=by
 have hlt:=(List.getElem?_eq_some_iff.1 hx).1
 refine ans_of fun cs=>?_
 obtain⟨ρ,hρ⟩:∃ρ:Env,ρ=mkE [(51,L.length),(52,c),(53,o),(10,V.length)] [(50,A),(61,K),(64,X),(62,Gb),(60,M)] []:=⟨_,rfl⟩
 refine(ble1.go ρ (enter4 ent27c rfl (iV V.length) (ptrV K) (ptrV X) (ptrV Gb)) (by rw[hρ];rfl) trivial ⟨by rw[hρ];exact h.flow,by rw[hρ];exact h.known,by rw[hρ];exact h.self,trivial⟩).trans fun g1 w1 hd=>?_
 obtain⟨I,B,fr1,rfl,f1,F1,_⟩:=hd
 rw[hρ]at F1
 have hnone:findI (V.length:Int) (knownE V)=none:=by
  rw[find_knownE]
  exact List.getElem?_eq_none (Nat.le_refl _)
 refine(ble2.go (R:=fun y w'=>y=.tuple #[iV 0,.bool false]∧w'=w1) (mkE [] [] []) F1 (by decide) rfl fun tm htm x' e1 e2=>?_).trans fun g2 w2 hd2=>?_
 ·unfold execOp
  simp only[e1,wq_bind]
  rw[htm 12 (.map (some M)) rfl,htm 13 (iV V.length) rfl]
  refine wq_lookNum (ks:=knownE V) (blk_keep (k:=.map _) h.map f1) ?_
  rw[hnone]
  exact⟨_,rfl,rfl,rfl⟩
 obtain⟨fr2,y,rfl,⟨rfl,rfl⟩,F2⟩:=hd2
 have h1:=h.keep f1
 obtain⟨ts,c0,c1,c2,hN⟩:=(h1.lets _ x hx).ex
 obtain⟨σ,hσ⟩:∃σ:Env,σ=Go.Proofs.Ytmobbajggkjpgaa.SX.mkS [(51,L.length),(52,c),(53,o),(10,V.length),(7,0),(4,x.at')] [(50,A),(61,K),(64,X),(62,Gb),(60,M)] [(9,ts)] [(1,x.name)]:=⟨_,rfl⟩
 refine(ble4.go σ F2 (by rw[hσ];rfl) (ltB_ok (i:=10) (n:=51) (I:=V.length) (N:=L.length) (by rw[hσ];rfl) (by rw[hσ];rfl) hlt) ⟨by rw[hσ];exact h1.flow,by rw[hσ];exact h1.known,by rw[hσ];exact h1.self,by rw[hσ];exact c0,by rw[hσ];exact c1,by rw[hσ];exact c2,trivial⟩).trans fun g3 w3 hd3=>?_
 obtain⟨I,B,fr3,rfl,f3,F3,_⟩:=hd3
 rw[hσ]at F3
 refine(ble5.go (mkE [] [] [(23,letV x ts)]) (Q:=fun v w'=>IntsAt w' v (needsF x)) F3 rfl fun w' f4=>needs_all (hN.keep (f3.trans f4)) hne hxl).trans fun g4 w4 hd4=>?_
 obtain⟨fr4,vv,rfl,f4,hI,F4⟩:=hd4
 obtain⟨zs,As,os',cs',rfl,hzs,hzc,hel⟩:=hI.ex
 obtain⟨τ,hτ⟩:∃τ:Env,τ=mkE [(10,V.length),(71,(needsF x).length),(72,cs'),(73,os')] [(61,K),(64,X),(62,Gb),(60,M),(70,As)] []:=⟨_,rfl⟩
 have es0:(slZ zs 70 73 71 72).ev τ=hdV zs As os' (needsF x).length cs':=by rw[hτ];cases zs<;>rfl
 have es:∀I B,(slZ zs 70 73 71 72).ev (mixE τ I B)=hdV zs As os' (needsF x).length cs':=fun I B=>by rw[hτ];cases zs<;>rfl
 have en:∀I B,(i64 (lnZ zs 71)).ev (mixE τ I B)=iV (needsF x).length:=fun I B=>by
  rw[hτ]
  cases zs with
  |false=>rfl
  |true=>rw[hzs rfl];rfl
 have en0:(i64 (lnZ zs 71)).ev τ=iV (needsF x).length:=by
  rw[hτ]
  cases zs with
  |false=>rfl
  |true=>rw[hzs rfl];rfl
 refine((ble6 zs).go τ F4 (by
  show[some _,some _,some _,some _,some _,some _]=[some _,some _,some _,some _,some _,some ((slZ zs 70 73 71 72).ev τ)]
  rw[es0,hτ];rfl) trivial trivial).trans fun g5 w5 hd5=>?_
 obtain⟨I5,B5,fr5,rfl,f5,F5,_⟩:=hd5
 have F5':FA 27 41 LfH [] .normal [(0,iV V.length),(1,ptrV K),(2,ptrV X),(3,ptrV Gb),(8,iV 0),(24,hdV zs As os' (needsF x).length cs'),(25,iV (needsF x).length),(26,iV (0:Nat))] fr5:=by
  have h1:FA 27 41 LfH [] .normal [(0,iV V.length),(1,ptrV K),(2,ptrV X),(3,ptrV Gb),(8,iV 0),(24,(slZ zs 70 73 71 72).ev (mixE τ I5 B5)),(25,(i64 (lnZ zs 71)).ev (mixE τ I5 B5)),(26,iV (0:Nat))] fr5:=by
   rw[hτ]at F5⊢
   exact F5
  rwa[es,en]at h1
 have f05:=f1.trans (f3.trans (f4.trans f5))
 have h5:=h.keep f05
 have hnl:(needsF x).length≤1000000:=Nat.le_trans (needs_len x) (by omega)
 refine(lev_loop (w0:=w5) (n:=V.length) (cs':=cs') h5 hzs (fun i m hi=>f5.cell (hel i m hi)) hS hV hnl (needsF x).length 0 0 (by omega) (by omega) (by omega) rfl (Fresh.refl _) F5').trans fun g6 w6 hd6=>?_
 obtain⟨fr6,rfl,f6,F6⟩:=hd6
 have f06:=f05.trans f6
 have h6:=h.keep f06
 obtain⟨most,hmost⟩:∃most,most=levStep V x:=⟨_,rfl⟩
 have F6':FA 27 41 LfH [] .normal [(0,iV V.length),(1,ptrV K),(2,ptrV X),(3,ptrV Gb),(8,iV most),(24,hdV zs As os' (needsF x).length cs'),(25,iV (needsF x).length),(26,iV (needsF x).length)] fr6:=by
  rw[hmost]
  exact F6
 rw[<-hmost]
 obtain⟨ξ,hξ⟩:∃ξ:Env,ξ=mkE [(10,V.length),(9,most),(11,(needsF x).length),(71,(needsF x).length),(72,cs'),(73,os')] [(61,K),(64,X),(62,Gb),(60,M),(70,As)] []:=⟨_,rfl⟩
 have es1:(slZ zs 70 73 71 72).ev ξ=hdV zs As os' (needsF x).length cs':=by rw[hξ];cases zs<;>rfl
 have en1:(i64 (lnZ zs 71)).ev ξ=iV (needsF x).length:=by
  rw[hξ]
  cases zs with
  |false=>rfl
  |true=>rw[hzs rfl];rfl
 refine((bleD zs).go ξ F6' (by
  show[some _,some _,some _,some _,some _,some _,some _,some _]=[some _,some _,some _,some _,some _,some ((slZ zs 70 73 71 72).ev ξ),some ((i64 (lnZ zs 71)).ev ξ),some _]
  rw[es1,en1,hξ];rfl) ⟨by
   rw[hξ]
   cases zs with
   |false=>exact decide_eq_false (by show ¬(((needsF x).length:Int)<(((needsF x).length:Nat):Int));omega)
   |true=>exact decide_eq_false (by show ¬(((needsF x).length:Int)<0);omega),trivial⟩ ⟨by rw[hξ];exact h6.known,trivial⟩).trans fun g7 w7 hd7=>?_
 obtain⟨I,B,fr7,rfl,f7,F7,_⟩:=hd7
 have F7':FA 27 41 (.inRegion (opsOf (q27 [1,1,1,1,0])) [3]::[.code (q27 [1,1,1,1,1])]) [] .normal [(8,iV most),(37,.map (some M)),(38,iV V.length),(39,iV most)] fr7:=by
  rw[hξ]at F7
  exact F7
 have f07:=f06.trans f7
 have hM7:NumMap w7 M (knownE V):=(h.keep f07).map
 refine(bleE.go0 (R:=fun w'=>NumMap w' M (knownE V++[((V.length:Int),most)])∧Keeps (fun n=>n=M) w7 w') (mkE [] [] []) F7' rfl fun tm htm x' e1 e2=>?_).trans fun g8 w8 hd8=>?_
 ·unfold execOp
  simp only[e1,wq_bind]
  rw[htm 37 (.map (some M)) rfl,htm 38 (iV V.length) rfl,htm 39 (iV most) rfl]
  exact wq_newNum (ks:=knownE V) hM7 hnone fun w' h1 h2=>⟨rfl,h1,h2⟩
 obtain⟨fr8,rfl,⟨hM8,kp8⟩,F8⟩:=hd8
 refine(bleF.go (mkE [(9,most)] [] []) F8 rfl trivial trivial).trans fun g9 w9 hd9=>?_
 obtain⟨I,B,fr9,rfl,f9,F9,_⟩:=hd9
 refine(leave1 ret27 F9 rfl).mono fun ga wa hda=>?_
 obtain⟨fra,rfl,rfl,hL⟩:=hda
 refine⟨fra,_,rfl,hL,?_,rfl,?_⟩
 ·exact(f07.mono fun q hq=>.inl hq).trans ((kp8.mono fun q hq=>.inr hq).trans (f9.mono fun q hq=>.inl (Nat.le_trans (f07.trans (Fresh.refl _)).size (Nat.le_trans kp8.size hq))))
 ·rw[known_push]
  exact blk_keep (k:=.map _) hM8 f9
noncomputable abbrev LhH:List Item:=[.code (q12 [1,1,1,1,1,1,0,1,0,0]),.inLoop (q12 [1,1,1,1,1,1,0,1,0,0]),.inBlock 0,.code (q12 [1,1,1,1,1,1,1])]
noncomputable abbrev LhT:List Item:=[.inRegion (opsOf (q12 [1,1,1,1,1,1,0,1,0,0,1,1,0,0,1])) [4,5,6],.inBlock 1,.code (q12 [1,1,1,1,1,1,0,1,0,0,1,1,1]),.inLoop (q12 [1,1,1,1,1,1,0,1,0,0]),.inBlock 0,.code (q12 [1,1,1,1,1,1,1])]
theorem lh_push{base X K Gb N i:Nat}{s:Value}{l:List Int}{m:Int}(hb:base≤w.heap.size)(hs:IntsNew w base s l)(hl:l.length≤1000000)(hf:FA 12 34 LhT [] .normal [(1,ptrV X),(7,ptrV Gb),(8,s),(22,iV N),(23,iV i),(26,s),(29,iV m)] fr):
  Goes (G fr cs) w fun g' w'=>∃fr' s',g'=G fr' cs∧Keeps (fun x=>base≤x) w w'∧IntsNew w' base s' (l++[m])∧FA 12 34 LhH [] .normal [(1,ptrV X),(7,ptrV Gb),(8,s'),(22,iV N),(23,iV (iop .add .i64 i 1))] fr':=by
 rcases hs with⟨rfl,rfl⟩|⟨hne,B0,c0,rfl,hB0,hv⟩
 ·refine(blh6.go (mkE [(51,N),(10,i),(7,m)] [(64,X),(62,Gb)] []) hf rfl trivial trivial).mono fun g1 w1 hd=>?_
  obtain⟨I,B,fr1,rfl,f1,F1,bl,_⟩:=hd
  exact⟨fr1,_,rfl,f1.mono fun x hx=>Nat.le_trans hb hx,.inr ⟨by simp,B 101,(I 101).toNat,rfl,Nat.le_trans hb bl.1.1,bl.1.2⟩,F1⟩
 ·obtain⟨ρ,hρ⟩:∃ρ:Env,ρ=mkE [(51,N),(10,i),(7,m),(8,l.length),(57,c0)] [(64,X),(62,Gb),(52,B0)] [(65,.agg (l.map iV).toArray)]:=⟨_,rfl⟩
  have e52:ρ.b 52=B0:=by rw[hρ];rfl
  refine(blh7.goW ρ hf (by rw[hρ];rfl) ⟨by
    rw[hρ]
    show decide ((((l.length:Int).toNat:Nat):Int)+1≤1048576)=true
    exact decide_eq_true (by omega),trivial⟩ trivial (nofun) ⟨⟨.vec 3 c0 (l.map iV),by rw[e52];exact hv,rfl,by rw[hρ];rfl,fun inf hinf=>?_,(nofun),by rw[hρ];rfl⟩,trivial⟩ one_nodup).mono fun g1 w1 hd=>?_
  ·rw[size3 inf hinf,hρ]
   show(l.map iV).length=((l.length:Nat):Int).toNat*1
   rw[List.length_map]
   omega
  obtain⟨I,B,fr1,rfl,kp,F1,bl,_⟩:=hd
  have own:∀x,ownP ρ w [(52,.pre false 65 (v 8) [] [] [] 3 (v 57))] x->base≤x:=fun x hx=>by
   rcases hx with h|⟨y,hy,e⟩
   ·exact Nat.le_trans hb h
   ·obtain rfl:=List.mem_singleton.1 hy
    have e:ρ.b 52=x:=e
    omega
  have hB:(Blk.vec 3 (I 101).toNat ((l++[m]).map iV)).at Try.prog w1 (B 101):=by
   have:=bl.1.2
   rw[hρ]at this
   rw[List.map_append]
   exact this
  have hn:((((l.length:Int).toNat:Nat):Int)+1).toNat=(l++[m]).length:=by
   rw[List.length_append,List.length_singleton]
   omega
  refine⟨fr1,slV (B 101) 0 (l++[m]).length (I 101).toNat,rfl,kp.mono own,.inr ⟨by simp,B 101,(I 101).toNat,rfl,own _ bl.1.1,hB⟩,?_⟩
  rw[<-hn]
  rw[hρ]at F1
  exact F1
theorem lh_loop(hw0:LevW w0 L A o c X K Gb M [])(hb:M<w0.heap.size)(hne:∀(i:Nat) (x:LetD),L[i]?=some x->x.tree≠[])(hxl:∀x∈L,x.tree.length≤999999)(hS:∀(i:Nat) (x:LetD),L[i]?=some x->∀m∈needsF x,0≤m∧m.toNat<i)(hlen:L.length≤1000000):
  ∀(k:Nat) {V:List Int} {s:Value} {w:World} {fr:Frame},V.length+k=L.length->NumMap w M (knownE V)->(∀v∈V,0≤v∧v≤V.length)->IntsNew w w0.heap.size s V->Keeps (NewOr w0 M) w0 w->FA 12 34 LhH [] .normal [(1,ptrV X),(7,ptrV Gb),(8,s),(22,iV L.length),(23,iV V.length)] fr->
  Goes (G fr cs) w fun g' w'=>∃fr' s',g'=G fr' cs∧Keeps (NewOr w0 M) w0 w'∧IntsNew w' w0.heap.size s' (levL (L.drop V.length) V)∧Leav 12 fr' w' (.tuple #[s',iV 0])
 |0,V,s,w,fr,hi,hM,hV,hs,kp,hf=>by
  refine((blh8 false).go (mkE [(51,L.length),(10,V.length)] [(64,X),(62,Gb)] [(8,s)]) hf rfl ⟨by
   show decide ((V.length:Int)<((L.length:Nat):Int))=false
   exact decide_eq_false (by omega),trivial⟩ trivial).trans fun g1 w1 hd=>?_
  obtain⟨I,B,fr1,rfl,f1,F1,_⟩:=hd
  refine(leave2 ret12 F1 rfl rfl).mono fun g6 w6 hd6=>?_
  obtain⟨fr6,rfl,rfl,hL⟩:=hd6
  refine⟨fr6,s,rfl,kp.trans (f1.mono fun q hq=>.inl (Nat.le_trans kp.size hq)),?_,hL⟩
  rw[List.drop_of_length_le (by omega)]
  exact hs.keep' f1
 |k+1,V,s,w,fr,hi,hM,hV,hs,kp,hf=>by
  have hw:LevW w L A o c X K Gb M V:=hw0.keepC (keep_map hw0.map kp) hM
  have hlt:V.length<L.length:=by omega
  obtain⟨x,hx⟩:∃x,L[V.length]?=some x:=⟨_,List.getElem?_eq_getElem hlt⟩
  obtain⟨ρ,hρ⟩:∃ρ:Env,ρ=mkE [(51,L.length),(10,V.length)] [(61,K),(64,X),(62,Gb)] [(8,s)]:=⟨_,rfl⟩
  refine(blh4.go ρ hf (by rw[hρ];rfl) (ltB_ok (i:=10) (n:=51) (I:=V.length) (N:=L.length) (by rw[hρ];rfl) (by rw[hρ];rfl) hlt) ⟨by rw[hρ];exact hw.self,trivial⟩).trans fun g1 w1 hd=>?_
  obtain⟨I,B,fr1,rfl,f1,F1,_⟩:=hd
  rw[hρ]at F1
  have hVb:∀v∈V,0≤v∧v≤1000000:=fun v hv=>by
   have:=hV v hv
   omega
  refine(op_call (ρ:=mkE [(10,V.length)] [(61,K),(64,X),(62,Gb)] []) (bs:=[]) (mem:=[]) (Q:=fun r w'=>r=iV (levStep V x)∧∃wk,Fresh w1 wk∧Keeps (NewOr wk M) wk w'∧LevW wk L A o c X K Gb M V∧NumMap w' M (knownE (V++[levStep V x]))) F1 (fun p hp=>?_) blh5.want blh5.op blh5.low (nofun) (nofun) blh5.dst blh5.dlt blh5.alow fun w' f2=>?_).trans fun g2 w2 hd2=>?_
  ·simp only[told,List.map_cons,List.map_nil,List.mem_cons,List.not_mem_nil,or_false]at hp
   rcases hp with rfl|rfl
   ·exact lookV_mem rfl
   ·exact lookV_mem rfl
  ·have hw':=hw.keep (f1.trans f2)
   exact(lev_miss hw' hx (hne _ x hx) (hxl x (List.mem_of_getElem? hx)) (fun m hm=>hS _ x hx m hm) hVb hlen).mono fun v w2 hd=>⟨hd.2.1,w',f2,hd.1,hw',hd.2.2⟩
  obtain⟨fr2,vv,rfl,⟨rfl,wk,f2,kp2,hwk,hM2⟩,F2⟩:=hd2
  have f02:=f1.trans f2
  have kpk:Keeps (NewOr w0 M) w0 wk:=kp.trans (f02.mono fun q hq=>.inl (Nat.le_trans kp.size hq))
  have kp02:Keeps (NewOr w0 M) w0 w2:=kpk.trans (kp2.mono fun q hq=>hq.imp (fun hq=>Nat.le_trans kpk.size hq) id)
  have hs2:IntsNew w2 w0.heap.size s V:=by
   rcases hs.keep' f02 with h|⟨h1,B0,c0,h2,h3,h4⟩
   ·exact .inl h
   ·refine .inr ⟨h1,B0,c0,h2,h3,Blk.at_keep h4 kp2 fun hh=>?_⟩
    rcases hh with hh|hh
    ·have:=Blk.at_lt h4
     omega
    ·omega
  refine(lh_push (K:=K) (base:=w0.heap.size) kp02.size hs2 (by omega) (F2.only (l:=[(1,ptrV X),(7,ptrV Gb),(8,s),(22,iV L.length),(23,iV V.length),(26,s),(29,iV (levStep V x))]) rfl)).trans fun g3 w3 hd3=>?_
  obtain⟨fr3,s',rfl,kp3,hs3,F3⟩:=hd3
  have hV1:(V++[levStep V x]).length=V.length+1:=by simp
  rw[inc (by omega)]at F3
  have hM3:NumMap w3 M (knownE (V++[levStep V x])):=Blk.at_keep (P:=Try.prog) (k:=.map _) hM2 kp3 (by omega)
  have kp03:Keeps (NewOr w0 M) w0 w3:=kp02.trans (kp3.mono fun q hq=>.inl hq)
  have h1:0≤levStep V x:=levStep_ge (Int.le_refl _)
  have h2:levStep V x≤(V.length:Int)+1:=levStep_le (fun v hv=>(hV v hv).2) (by omega) (by omega)
  have F3':FA 12 34 LhH [] .normal [(1,ptrV X),(7,ptrV Gb),(8,s'),(22,iV L.length),(23,iV (V++[levStep V x]).length)] fr3:=by rw[hV1];exact F3
  refine(lh_loop hw0 hb hne hxl hS hlen k (V:=V++[levStep V x]) (by omega) hM3 (fun v hv=>?_) hs3 kp03 F3').mono fun g4 w4 hd4=>?_
  ·rw[hV1]
   rcases List.mem_append.1 hv with hv|hv
   ·have:=hV v hv
    omega
   ·obtain rfl:=List.mem_singleton.1 hv
    omega
  ·obtain⟨fr4,s4,h3,h4,h5,h6⟩:=hd4
   refine⟨fr4,s4,h3,h4,?_,h6⟩
   have hdrop:L.drop V.length=x::L.drop (V.length+1):=by
    rw[List.drop_eq_getElem_cons hlt]
    congr 1
    exact Option.some.inj ((List.getElem?_eq_getElem hlt).symm.trans hx)
   rw[hdrop]
   rw[hV1]at h5
   exact h5
theorem LevelsG_all{x:Value}{F:FlowD}(h:FlowAt w x F)(hlen:F.lets.length≤1000000)(htr:∀x∈F.lets,x.tree.length≤999999)(hne:(chkF F).1=0->∀(i:Nat) (x:LetD),F.lets[i]?=some x->x.tree≠[])(hS:(chkF F).1=0->∀(i:Nat) (x:LetD),F.lets[i]?=some x->∀m∈needsF x,0≤m∧m.toNat<i):
  Ans 12 #[x] w fun v w'=>Fresh w w'∧∃s,v=.tuple #[s,iV (chkF F).1]∧IntsNew w' w.heap.size s (if(chkF F).1=0 then levL F.lets []else[]):=by
 have h':=h
 obtain⟨ls,os,rfl,hl,ho⟩:=h
 obtain⟨z,A,o,c,hls,hz,hzc,hel⟩:=hl.ex
 refine ans_of fun cs=>?_
 obtain⟨ρ,hρ⟩:∃ρ:Env,ρ=mkE [(51,F.lets.length),(52,c),(53,o)] [(50,A)] [(9,os)]:=⟨_,rfl⟩
 have ez0:(slZ z 50 53 51 52).ev ρ=ls:=by rw[hρ,hls];cases z<;>rfl
 have ez:∀I B,(slZ z 50 53 51 52).ev (mixE ρ I B)=ls:=fun I B=>by rw[hρ,hls];cases z<;>rfl
 refine((blh1 z).go ρ (enter1 ent12 rfl (.agg #[ls,os])) (by
  show[some _]=[some ((AV.agg [slZ z 50 53 51 52,.opq 9]).ev ρ)]
  have:(AV.agg [slZ z 50 53 51 52,.opq 9]).ev ρ=.agg #[(slZ z 50 53 51 52).ev ρ,os]:=by rw[hρ];rfl
  rw[this,ez0]) trivial trivial).trans fun g1 w1 hd=>?_
 obtain⟨I,B,fr1,rfl,f1,F1,bl,_⟩:=hd
 obtain⟨X,eX⟩:∃X,B 100=X:=⟨_,rfl⟩
 have hX:(Blk.obj 25 [ls,os]).at Try.prog w1 X:=by
  have h1:(Blk.obj 25 [(slZ z 50 53 51 52).ev (mixE ρ I B),os]).at Try.prog w1 (B 100):=by
   have:=bl.1.2
   rw[hρ]at this⊢
   exact this
  rw[ez,eX]at h1
  exact h1
 have F1':FA 12 34 (.inRegion (opsOf (q12 [1,0,0])) [1,2,3,4,5,6]::[.code (q12 [1,0,1]),.code (q12 [1,1])]) [] .normal [(1,ptrV X),(11,.agg #[ls,os])] fr1:=by
  have h1:FA 12 34 (.inRegion (opsOf (q12 [1,0,0])) [1,2,3,4,5,6]::[.code (q12 [1,0,1]),.code (q12 [1,1])]) [] .normal [(1,ptrV (B 100)),(11,.agg #[(slZ z 50 53 51 52).ev (mixE ρ I B),os])] fr1:=by
   rw[hρ]at F1⊢
   exact F1
  rw[ez,eX]at h1
  exact h1
 refine(blh1c.go (mkE [] [] [(11,.agg #[ls,os])]) (Q:=fun v w'=>v=.tuple #[iV (chkF F).1,iV (chkF F).2]) F1' rfl fun w' f2=>check_all (h'.keep (f1.trans f2)) hlen htr).trans fun g2 w2 hd2=>?_
 obtain⟨fr2,vv,rfl,f2,rfl,F2⟩:=hd2
 have f12:=f1.trans f2
 by_cases h0:(chkF F).1=0
 ·rw[if_pos h0]
  have hX2:=f2.cell (blk_cell hX (i:=0) rfl)
  obtain⟨σ,hσ⟩:∃σ:Env,σ=mkE [(51,F.lets.length),(52,c),(53,o),(5,(chkF F).1),(6,(chkF F).2)] [(50,A),(64,X)] []:=⟨_,rfl⟩
  have es:(slZ z 50 53 51 52).ev σ=ls:=by rw[hσ,hls];cases z<;>rfl
  have en:∀I B,(i64 (lnZ z 51)).ev (mixE σ I B)=iV F.lets.length:=fun I B=>by
   rw[hσ]
   cases z with
   |false=>rfl
   |true=>rw[hz rfl];rfl
  refine((blh3 z).go σ F2 (by rw[hσ];rfl) ⟨by
   rw[hσ]
   show(!decide ((chkF F).1=0))=false
   rw[decide_eq_true h0];rfl,trivial⟩ ⟨by rw[es,hσ];exact hX2,trivial⟩).trans fun g3 w3 hd3=>?_
  obtain⟨I3,B3,fr3,rfl,f3,F3,bl3,inj⟩:=hd3
  obtain⟨M,eM⟩:∃M,B3 100=M:=⟨_,rfl⟩
  obtain⟨K,eK⟩:∃K,B3 101=K:=⟨_,rfl⟩
  obtain⟨Gb,eG⟩:∃Gb,B3 102=Gb:=⟨_,rfl⟩
  have hG:(Blk.obj 70 [lfnV K X Gb]).at Try.prog w3 Gb:=by
   have:=bl3.1.2
   rw[hσ]at this
   rw[<-eG,<-eK]
   exact this
  have hK:(Blk.obj 69 [.map (some M)]).at Try.prog w3 K:=by rw[<-eK,<-eM];exact bl3.2.1.2
  have hM:NumMap w3 M (knownE []):=by rw[<-eM];exact bl3.2.2.1.2
  have gM:w2.heap.size≤M:=by rw[<-eM];exact bl3.2.2.1.1
  have F3':FA 12 34 LhH [] .normal [(1,ptrV X),(7,ptrV Gb),(8,nilV),(22,iV F.lets.length),(23,iV ([]:List Int).length)] fr3:=by
   have h1:FA 12 34 LhH [] .normal [(1,ptrV X),(7,ptrV (B3 102)),(8,nilV),(22,(i64 (lnZ z 51)).ev (mixE σ I3 B3)),(23,iV (0:Nat))] fr3:=by
    rw[hσ]at F3⊢
    exact F3
   rw[en,eG]at h1
   exact h1
  have f13:=f12.trans f3
  cases z with
  |true=>
   have hnil:=hz rfl
   refine((blh8 true).go (mkE [(10,0)] [(64,X),(62,Gb)] [(8,nilV)]) F3' (by rw[hnil];rfl) ⟨rfl,trivial⟩ trivial).trans fun g4 w4 hd4=>?_
   obtain⟨I,B,fr4,rfl,f4,F4,_⟩:=hd4
   refine(leave2 ret12 F4 rfl rfl).mono fun g6 w6 hd6=>?_
   obtain⟨fr6,rfl,rfl,hL⟩:=hd6
   refine⟨fr6,_,rfl,hL,f13.trans f4,nilV,by rw[h0];rfl,?_⟩
   rw[hnil]
   exact .inl ⟨rfl,rfl⟩
  |false=>
  have hw0:LevW w3 F.lets A o c X K Gb M []:=⟨by
    have:=f3.cell hX2
    rw[hls]at this
    exact this,blk_cell hK (i:=0) rfl,blk_cell hG (i:=0) rfl,hM,fun i x hi=>(hel i x hi).keep f13⟩
  refine(lh_loop (w0:=w3) hw0 (Blk.at_lt (P:=Try.prog) (k:=.map _) hM) (hne h0) htr (hS h0) hlen F.lets.length (by simp) hM (fun v hv=>by cases hv) (.inl ⟨rfl,rfl⟩) (Keeps.refl _ _) F3').mono fun g4 w4 hd4=>?_
  obtain⟨fr4,s4,rfl,kp4,hs4,hL⟩:=hd4
  refine⟨fr4,_,rfl,hL,fresh_keeps f13 (kp4.mono fun q hq=>?_),s4,by rw[h0],?_⟩
  ·have h1:=f12.size
   have h2:=f13.size
   rcases hq with hq|hq<;>omega
  ·rcases hs4 with h|⟨h1,B0,c0,h2,h3,h4⟩
   ·exact .inl h
   ·exact .inr ⟨h1,B0,c0,h2,Nat.le_trans f13.size h3,h4⟩
 ·rw[if_neg h0]
  refine(blh2.go (mkE [(5,(chkF F).1),(6,(chkF F).2)] [(64,X)] []) F2 rfl ⟨by
   show(!decide ((chkF F).1=0))=true
   rw[decide_eq_false h0];rfl,trivial⟩ trivial).trans fun g3 w3 hd3=>?_
  obtain⟨I,B,fr3,rfl,f3,F3,_⟩:=hd3
  refine(leave2 ret12 F3 rfl rfl).mono fun g6 w6 hd6=>?_
  obtain⟨fr6,rfl,rfl,hL⟩:=hd6
  exact⟨fr6,_,rfl,hL,f12.trans f3,nilV,rfl,.inl ⟨rfl,rfl⟩⟩
end
end Go.Proofs.Ytmobbajggkjpgaa
namespace Go.Proofs.Ytmobbajggkjpgaa
open Go.Proofs.Ytmobbajggkjpgaa.SX Go.Conc
noncomputable def q4(l:List Nat):Code:=pc (bodyOf Try.f4) l
theorem ent4:enterA Try.prog 4 [.opq 0,.opq 1,.opq 2] .normal=.ok ⟨4,204,entT 4 [.opq 0,.opq 1,.opq 2],[.code (bodyOf Try.f4)],[],.run,.normal⟩:=by kernel_rfl
theorem ret4:RetC 4 204 6:=fun st=>by kernel_rfl
theorem baw1:Pc 4 204 [.code (q4 [])] ([(0,.agg [.opq 8,.opq 9]),(1,.agg [i64 (v 21),i64 (v 22),i64 (v 23),i64 (v 24)]),(2,i64 (v 30))]) [] [] [] 10 [101,100] [2,3,4,20] [.inRegion (opsOf (q4 [1,0,0])) [1],.code (q4 [1,0,1]),.code (q4 [1,1])] [i64 (v 30),ptr0 100,ptr0 101,.agg [.opq 8,.opq 9]] [(101,.cells [i64 (v 21),i64 (v 22),i64 (v 23),i64 (v 24)] 27),(100,.cells [.opq 8,.opq 9] 25)]:=⟨fun st=>by kernel_rfl,fun st=>by kernel_rfl,by kernel_rfl,of_decide_eq_true (by kernel_rfl)⟩
theorem baw2:OpC 204 (opsOf (q4 [1,0,0])) 1 [(20,.opq 20)] 5 [.opq 20] 21:=⟨fun st=>by kernel_rfl,fun st=>by kernel_rfl,fun st=>by kernel_rfl,by kernel_rfl,by decide,rfl⟩
theorem baw3:Pc 4 204 [.inRegion (opsOf (q4 [1,0,0])) [],.code (q4 [1,0,1]),.code (q4 [1,1])] ([(21,TB)]) [] [] [] 4 [] [] [.inRegion (opsOf (q4 [1,0,1,0,0])) [0,1],.code .ret,.code (q4 [1,1])] [] []:=⟨fun st=>by kernel_rfl,fun st=>by kernel_rfl,by kernel_rfl,of_decide_eq_true (by kernel_rfl)⟩
theorem baw4:OpC 204 (opsOf (q4 [1,0,1,0,0])) 0 [] 6 [] 22:=⟨fun st=>by kernel_rfl,fun st=>by kernel_rfl,fun st=>by kernel_rfl,by kernel_rfl,by decide,rfl⟩
theorem baw5:Pc 4 204 [.inRegion (opsOf (q4 [1,0,1,0,0])) [1],.code .ret,.code (q4 [1,1])] ([(22,.opq 22)]) [] [] [] 2 [] [6] [.code .ret,.code (q4 [1,1])] [.opq 22] []:=⟨fun st=>by kernel_rfl,fun st=>by kernel_rfl,by kernel_rfl,of_decide_eq_true (by kernel_rfl)⟩
theorem baw6:Pc 4 204 [.inRegion (opsOf (q4 [1,0,0])) [],.code (q4 [1,0,1]),.code (q4 [1,1])] ([(2,i64 (v 30)),(3,ptr0 64),(4,ptr0 65),(21,FB)]) [] [] [] 4 [] [2,3,4] [.code (q4 [1,1,0]),.code (q4 [1,1,1])] [i64 (v 30),ptr0 64,ptr0 65] []:=⟨fun st=>by kernel_rfl,fun st=>by kernel_rfl,by kernel_rfl,of_decide_eq_true (by kernel_rfl)⟩
theorem baw7:Pc 4 204 [.inRegion (opsOf (q4 [1,1,0])) [],.code (q4 [1,1,1])] ([(2,i64 (v 30)),(3,ptr0 64),(4,ptr0 65),(7,.opq 7),(8,i64 (v 5))]) [] [(⟨(.dyn 64),(.lit 0)⟩,.opq 8),(⟨(.dyn 64),(.lit 1)⟩,.opq 9)] [] 4 [] [2,3,4,7,8,31] [.inRegion (opsOf (q4 [1,1,1,0])) [1,2,3,4,5,6,7],.code (q4 [1,1,1,1])] [i64 (v 30),ptr0 64,ptr0 65,.opq 7,i64 (v 5),.agg [.opq 8,.opq 9]] []:=⟨fun st=>by kernel_rfl,fun st=>by kernel_rfl,by kernel_rfl,of_decide_eq_true (by kernel_rfl)⟩
theorem baw8:OpC 204 (opsOf (q4 [1,1,1,0])) 1 [(31,.opq 31)] 8 [.opq 31] 32:=⟨fun st=>by kernel_rfl,fun st=>by kernel_rfl,fun st=>by kernel_rfl,by kernel_rfl,by decide,rfl⟩
theorem baw9:OpC 204 (opsOf (q4 [1,1,1,0])) 2 [(32,.opq 32)] 12 [.opq 32] 33:=⟨fun st=>by kernel_rfl,fun st=>by kernel_rfl,fun st=>by kernel_rfl,by kernel_rfl,by decide,rfl⟩
theorem bawA:Pc 4 204 [.inRegion (opsOf (q4 [1,1,1,0])) [3,4,5,6,7],.code (q4 [1,1,1,1])] ([(2,i64 (v 30)),(3,ptr0 64),(4,ptr0 65),(7,.opq 7),(8,i64 (v 5)),(33,.tuple [.opq 1,i64 (v 6)])]) [((.cmp .neq (v 6) (.lit 0)),true),((.cmp .eql (v 5) (v 6)),true)] [] [] 19 [] [41] [.inRegion (opsOf (q4 [1,1,1,1,0,1,0,0])) [4,5,6],.code .ret,.code (q4 [1,1,1,1,1])] [TB] []:=⟨fun st=>by kernel_rfl,fun st=>by kernel_rfl,by kernel_rfl,of_decide_eq_true (by kernel_rfl)⟩
theorem bawA2:OpC 204 (opsOf (q4 [1,1,1,1,0,1,0,0])) 4 [(41,TB)] 6 [] 42:=⟨fun st=>by kernel_rfl,fun st=>by kernel_rfl,fun st=>by kernel_rfl,by kernel_rfl,by decide,rfl⟩
theorem bawA3:Pc 4 204 [.inRegion (opsOf (q4 [1,1,1,1,0,1,0,0])) [5,6],.code .ret,.code (q4 [1,1,1,1,1])] ([(41,TB),(42,TB)]) [] [] [] 3 [] [6] [.code .ret,.code (q4 [1,1,1,1,1])] [TB] []:=⟨fun st=>by kernel_rfl,fun st=>by kernel_rfl,by kernel_rfl,of_decide_eq_true (by kernel_rfl)⟩
theorem bawB(z y:Bool):Pc 4 204 [.inRegion (opsOf (q4 [1,1,1,0])) [3,4,5,6,7],.code (q4 [1,1,1,1])] ([(2,i64 (v 30)),(3,ptr0 64),(4,ptr0 65),(7,.opq 7),(8,i64 (v 5)),(33,.tuple [slZ y 80 83 81 82,i64 (v 6)])]) [((.cmp .neq (v 6) (.lit 0)),false),((.cmp .neq (lnZ y 81) (lnZ z 51)),false)] [(⟨(.dyn 64),(.lit 0)⟩,slZ z 50 53 51 52)] [] 33 [] [2,3,4,7,8,9,11] [.code (q4 [1,1,1,1,1,1,0,1,0,0]),.inLoop (q4 [1,1,1,1,1,1,0,1,0,0]),.inBlock 0,.code (q4 [1,1,1,1,1,1,1])] [i64 (v 30),ptr0 64,ptr0 65,.opq 7,i64 (v 5),slZ y 80 83 81 82,i64 (.lit 0)] []:=⟨fun st=>by cases z<;>cases y<;>kernel_rfl,fun st=>by cases z<;>cases y<;>kernel_rfl,by cases z<;>cases y<;>kernel_rfl,of_decide_eq_true (by kernel_rfl)⟩
theorem r1_0:OpV 204 (opsOf (q4 [1,1,0])) 0 [] [(⟨(.dyn 64),(.lit 0)⟩,.opq 8),(⟨(.dyn 64),(.lit 1)⟩,.opq 9)] [(3,ptr0 64)] (.agg [.opq 8,.opq 9]) 24:=⟨fun st=>by kernel_rfl,fun st=>by kernel_rfl,fun st=>by kernel_rfl,by kernel_rfl,rfl⟩
theorem r1_1:OpC 204 (opsOf (q4 [1,1,0])) 1 [(24,.agg [.opq 8,.opq 9])] 8 [.agg [.opq 8,.opq 9]] 25:=⟨fun st=>by kernel_rfl,fun st=>by kernel_rfl,fun st=>by kernel_rfl,by kernel_rfl,by decide,rfl⟩
theorem r1_2:OpV 204 (opsOf (q4 [1,1,0])) 2 [] [(⟨(.dyn 65),(.lit 0)⟩,i64 (v 21)),(⟨(.dyn 65),(.lit 1)⟩,i64 (v 22)),(⟨(.dyn 65),(.lit 2)⟩,i64 (v 23)),(⟨(.dyn 65),(.lit 3)⟩,i64 (v 24))] [(4,ptr0 65)] (.agg [i64 (v 21),i64 (v 22),i64 (v 23),i64 (v 24)]) 26:=⟨fun st=>by kernel_rfl,fun st=>by kernel_rfl,fun st=>by kernel_rfl,by kernel_rfl,rfl⟩
theorem r1_3:OpC 204 (opsOf (q4 [1,1,0])) 3 [(25,.opq 25),(26,.agg [i64 (v 21),i64 (v 22),i64 (v 23),i64 (v 24)])] 7 [.opq 25,.agg [i64 (v 21),i64 (v 22),i64 (v 23),i64 (v 24)]] 27:=⟨fun st=>by kernel_rfl,fun st=>by kernel_rfl,fun st=>by kernel_rfl,by kernel_rfl,by decide,rfl⟩
theorem r1_4:OpV 204 (opsOf (q4 [1,1,0])) 4 [] [] [(27,.tuple [.opq 1,i64 (v 2)])] (.tuple [.opq 1,i64 (v 2)]) 23:=⟨fun st=>by kernel_rfl,fun st=>by kernel_rfl,fun st=>by kernel_rfl,by kernel_rfl,rfl⟩
theorem r1_5:OpV 204 (opsOf (q4 [1,1,0])) 5 [] [] [(23,.tuple [.opq 1,i64 (v 2)])] (.opq 1) 28:=⟨fun st=>by kernel_rfl,fun st=>by kernel_rfl,fun st=>by kernel_rfl,by kernel_rfl,rfl⟩
theorem r1_6:OpV 204 (opsOf (q4 [1,1,0])) 6 [] [] [(23,.tuple [.opq 1,i64 (v 2)])] (i64 (v 2)) 29:=⟨fun st=>by kernel_rfl,fun st=>by kernel_rfl,fun st=>by kernel_rfl,by kernel_rfl,rfl⟩
theorem r1_7:OpV 204 (opsOf (q4 [1,1,0])) 7 [] [] [(28,.opq 1)] (.opq 1) 7:=⟨fun st=>by kernel_rfl,fun st=>by kernel_rfl,fun st=>by kernel_rfl,by kernel_rfl,rfl⟩
theorem r1_8:OpV 204 (opsOf (q4 [1,1,0])) 8 [] [] [(29,i64 (v 2))] (i64 (v 2)) 8:=⟨fun st=>by kernel_rfl,fun st=>by kernel_rfl,fun st=>by kernel_rfl,by kernel_rfl,rfl⟩
theorem bawC:Pc 4 204 [.code (q4 [1,1,1,1,1,1,0,1,0,0]),.inLoop (q4 [1,1,1,1,1,1,0,1,0,0]),.inBlock 0,.code (q4 [1,1,1,1,1,1,1])] ([(2,i64 (v 30)),(3,ptr0 64),(4,ptr0 65),(7,.opq 7),(8,i64 (v 5)),(9,.slice (some ⟨(.dyn 80),(v 83)⟩) (v 81) (v 82)),(11,i64 (v 10))]) [((.cmp .lss (v 10) (.tn (v 51))),true)] [(⟨(.dyn 64),(.lit 0)⟩,.slice (some ⟨(.dyn 50),(v 53)⟩) (v 51) (v 52)),(⟨(.dyn 64),(.lit 1)⟩,.opq 9)] [] 16 [] [2,3,4,7,8,9,11,57] [.inRegion (opsOf (q4 [1,1,1,1,1,1,0,1,0,0,1,0,0,0])) [1,2,3,4],.code (q4 [1,1,1,1,1,1,0,1,0,0,1,0,0,1]),.inBlock 1,.code (q4 [1,1,1,1,1,1,0,1,0,0,1,1]),.inLoop (q4 [1,1,1,1,1,1,0,1,0,0]),.inBlock 0,.code (q4 [1,1,1,1,1,1,1])] [i64 (v 30),ptr0 64,ptr0 65,.opq 7,i64 (v 5),.slice (some ⟨(.dyn 80),(v 83)⟩) (v 81) (v 82),i64 (v 10),.agg [.slice (some ⟨(.dyn 50),(v 53)⟩) (v 51) (v 52),.opq 9]] []:=⟨fun st=>by kernel_rfl,fun st=>by kernel_rfl,by kernel_rfl,of_decide_eq_true (by kernel_rfl)⟩
theorem bawD:OpC 204 (opsOf (q4 [1,1,1,1,1,1,0,1,0,0,1,0,0,0])) 1 [(57,.opq 57)] 8 [.opq 57] 58:=⟨fun st=>by kernel_rfl,fun st=>by kernel_rfl,fun st=>by kernel_rfl,by kernel_rfl,by decide,rfl⟩
theorem bawE:Pc 4 204 [.inRegion (opsOf (q4 [1,1,1,1,1,1,0,1,0,0,1,0,0,0])) [2,3,4],.code (q4 [1,1,1,1,1,1,0,1,0,0,1,0,0,1]),.inBlock 1,.code (q4 [1,1,1,1,1,1,0,1,0,0,1,1]),.inLoop (q4 [1,1,1,1,1,1,0,1,0,0]),.inBlock 0,.code (q4 [1,1,1,1,1,1,1])] ([(2,i64 (v 30)),(3,ptr0 64),(4,ptr0 65),(7,.opq 7),(8,i64 (v 5)),(9,.slice (some ⟨(.dyn 80),(v 83)⟩) (v 81) (v 82)),(11,i64 (v 10)),(58,.opq 58)]) [] [] [] 1 [] [2,3,4,7,8,9,11,58,59] [.inRegion (opsOf (q4 [1,1,1,1,1,1,0,1,0,0,1,0,0,0])) [3,4],.code (q4 [1,1,1,1,1,1,0,1,0,0,1,0,0,1]),.inBlock 1,.code (q4 [1,1,1,1,1,1,0,1,0,0,1,1]),.inLoop (q4 [1,1,1,1,1,1,0,1,0,0]),.inBlock 0,.code (q4 [1,1,1,1,1,1,1])] [i64 (v 30),ptr0 64,ptr0 65,.opq 7,i64 (v 5),.slice (some ⟨(.dyn 80),(v 83)⟩) (v 81) (v 82),i64 (v 10),.opq 58,i64 (v 10)] []:=⟨fun st=>by kernel_rfl,fun st=>by kernel_rfl,by kernel_rfl,of_decide_eq_true (by kernel_rfl)⟩
theorem bawF:OpC 204 (opsOf (q4 [1,1,1,1,1,1,0,1,0,0,1,0,0,0])) 3 [(58,.opq 58),(59,.opq 59)] 13 [.opq 58,.opq 59] 60:=⟨fun st=>by kernel_rfl,fun st=>by kernel_rfl,fun st=>by kernel_rfl,by kernel_rfl,by decide,rfl⟩
theorem bawG(z:Bool):Pc 4 204 [.inRegion (opsOf (q4 [1,1,1,1,1,1,0,1,0,0,1,0,0,0])) [4],.code (q4 [1,1,1,1,1,1,0,1,0,0,1,0,0,1]),.inBlock 1,.code (q4 [1,1,1,1,1,1,0,1,0,0,1,1]),.inLoop (q4 [1,1,1,1,1,1,0,1,0,0]),.inBlock 0,.code (q4 [1,1,1,1,1,1,1])] ([(2,i64 (v 30)),(3,ptr0 64),(4,ptr0 65),(7,.opq 7),(8,i64 (v 5)),(9,.slice (some ⟨(.dyn 80),(v 83)⟩) (v 81) (v 82)),(11,i64 (v 10)),(60,slZ z 70 73 71 72)]) [((.cmp .lss (v 10) (.tn (v 81))),true),((.cmp .leq (.lit 0) (v 10)),true),((.cmp .lss (v 10) (.lit 0)),false),((.cmp .geq (v 10) (.tn (v 81))),false),((.cmp .eql (v 11) (.lit 0)),true),((.cmp .eql (lnZ z 71) (.lit 0)),true)] [(⟨(.dyn 80),(.plus (.tn (v 83)) (.tn (v 10)))⟩,i64 (v 11))] [] 23 [] [2,3,4,7,8,9,11,12,13,14] [.code (q4 [1,1,1,1,1,1,0,1,0,0,1,0,0,1,1,0,1,0,0]),.inLoop (q4 [1,1,1,1,1,1,0,1,0,0,1,0,0,1,1,0,1,0,0]),.inBlock 2,.code (q4 [1,1,1,1,1,1,0,1,0,0,1,0,0,1,1,1]),.inBlock 1,.code (q4 [1,1,1,1,1,1,0,1,0,0,1,1]),.inLoop (q4 [1,1,1,1,1,1,0,1,0,0]),.inBlock 0,.code (q4 [1,1,1,1,1,1,1])] [i64 (v 30),ptr0 64,ptr0 65,.opq 7,i64 (v 5),.slice (some ⟨(.dyn 80),(v 83)⟩) (v 81) (v 82),i64 (v 10),slZ z 70 73 71 72,TB,i64 (.lit 0)] []:=⟨fun st=>by cases z<;>kernel_rfl,fun st=>by cases z<;>kernel_rfl,by cases z<;>kernel_rfl,of_decide_eq_true (by kernel_rfl)⟩
theorem bawH:Pc 4 204 [.inRegion (opsOf (q4 [1,1,1,1,1,1,0,1,0,0,1,0,0,0])) [4],.code (q4 [1,1,1,1,1,1,0,1,0,0,1,0,0,1]),.inBlock 1,.code (q4 [1,1,1,1,1,1,0,1,0,0,1,1]),.inLoop (q4 [1,1,1,1,1,1,0,1,0,0]),.inBlock 0,.code (q4 [1,1,1,1,1,1,1])] ([(2,i64 (v 30)),(3,ptr0 64),(4,ptr0 65),(7,.opq 7),(8,i64 (v 5)),(9,.slice (some ⟨(.dyn 80),(v 83)⟩) (v 81) (v 82)),(11,i64 (v 10)),(60,.slice (some ⟨(.dyn 70),(v 73)⟩) (v 71) (v 72))]) [((.cmp .lss (v 10) (.tn (v 81))),true),((.cmp .leq (.lit 0) (v 10)),true),((.cmp .lss (v 10) (.lit 0)),false),((.cmp .geq (v 10) (.tn (v 81))),false),((.cmp .eql (v 11) (.lit 0)),false)] [(⟨(.dyn 80),(.plus (.tn (v 83)) (.tn (v 10)))⟩,i64 (v 11))] [] 23 [] [2,3,4,7,8,9,11,12,13,14] [.code (q4 [1,1,1,1,1,1,0,1,0,0,1,0,0,1,1,0,1,0,0]),.inLoop (q4 [1,1,1,1,1,1,0,1,0,0,1,0,0,1,1,0,1,0,0]),.inBlock 2,.code (q4 [1,1,1,1,1,1,0,1,0,0,1,0,0,1,1,1]),.inBlock 1,.code (q4 [1,1,1,1,1,1,0,1,0,0,1,1]),.inLoop (q4 [1,1,1,1,1,1,0,1,0,0]),.inBlock 0,.code (q4 [1,1,1,1,1,1,1])] [i64 (v 30),ptr0 64,ptr0 65,.opq 7,i64 (v 5),.slice (some ⟨(.dyn 80),(v 83)⟩) (v 81) (v 82),i64 (v 10),.slice (some ⟨(.dyn 70),(v 73)⟩) (v 71) (v 72),FB,i64 (.lit 0)] []:=⟨fun st=>by kernel_rfl,fun st=>by kernel_rfl,by kernel_rfl,of_decide_eq_true (by kernel_rfl)⟩
theorem bawI:Pc 4 204 [.code (q4 [1,1,1,1,1,1,0,1,0,0,1,0,0,1,1,0,1,0,0]),.inLoop (q4 [1,1,1,1,1,1,0,1,0,0,1,0,0,1,1,0,1,0,0]),.inBlock 2,.code (q4 [1,1,1,1,1,1,0,1,0,0,1,0,0,1,1,1]),.inBlock 1,.code (q4 [1,1,1,1,1,1,0,1,0,0,1,1]),.inLoop (q4 [1,1,1,1,1,1,0,1,0,0]),.inBlock 0,.code (q4 [1,1,1,1,1,1,1])] ([(2,i64 (v 30)),(3,ptr0 64),(4,ptr0 65),(7,.opq 7),(8,i64 (v 5)),(9,.slice (some ⟨(.dyn 80),(v 83)⟩) (v 81) (v 82)),(11,i64 (v 10)),(12,.slice (some ⟨(.dyn 70),(v 73)⟩) (v 71) (v 72)),(13,.opq 13),(14,i64 (v 14))]) [((.cmp .lss (v 14) (.tn (v 71))),true),((.cmp .leq (.lit 0) (v 14)),true),((.cmp .lss (v 14) (.lit 0)),false),((.cmp .geq (v 14) (.tn (v 71))),false)] [(⟨(.dyn 70),(.plus (.tn (v 73)) (.tn (v 14)))⟩,i64 (v 15))] [] 22 [] [2,3,4,7,8,9,11,12,13,14,15] [.code (q4 [1,1,1,1,1,1,0,1,0,0,1,0,0,1,1,0,1,0,0,1,0,0,1,0,0]),.code (q4 [1,1,1,1,1,1,0,1,0,0,1,0,0,1,1,0,1,0,0,1,0,0,1,0,1]),.code (q4 [1,1,1,1,1,1,0,1,0,0,1,0,0,1,1,0,1,0,0,1,0,0,1,1]),.inBlock 3,.code (q4 [1,1,1,1,1,1,0,1,0,0,1,0,0,1,1,0,1,0,0,1,1]),.inLoop (q4 [1,1,1,1,1,1,0,1,0,0,1,0,0,1,1,0,1,0,0]),.inBlock 2,.code (q4 [1,1,1,1,1,1,0,1,0,0,1,0,0,1,1,1]),.inBlock 1,.code (q4 [1,1,1,1,1,1,0,1,0,0,1,1]),.inLoop (q4 [1,1,1,1,1,1,0,1,0,0]),.inBlock 0,.code (q4 [1,1,1,1,1,1,1])] [i64 (v 30),ptr0 64,ptr0 65,.opq 7,i64 (v 5),.slice (some ⟨(.dyn 80),(v 83)⟩) (v 81) (v 82),i64 (v 10),.slice (some ⟨(.dyn 70),(v 73)⟩) (v 71) (v 72),.opq 13,i64 (v 14),i64 (v 15)] []:=⟨fun st=>by kernel_rfl,fun st=>by kernel_rfl,by kernel_rfl,of_decide_eq_true (by kernel_rfl)⟩
theorem awK:Pc 4 204 [.inRegion (opsOf (q4 [1,1,1,1,1,1,0,1,0,0,1,0,0,1,1,0,1,0,0,1,0,0,1,0,0])) [],.code (q4 [1,1,1,1,1,1,0,1,0,0,1,0,0,1,1,0,1,0,0,1,0,0,1,0,1]),.code (q4 [1,1,1,1,1,1,0,1,0,0,1,0,0,1,1,0,1,0,0,1,0,0,1,1]),.inBlock 3,.code (q4 [1,1,1,1,1,1,0,1,0,0,1,0,0,1,1,0,1,0,0,1,1]),.inLoop (q4 [1,1,1,1,1,1,0,1,0,0,1,0,0,1,1,0,1,0,0]),.inBlock 2,.code (q4 [1,1,1,1,1,1,0,1,0,0,1,0,0,1,1,1]),.inBlock 1,.code (q4 [1,1,1,1,1,1,0,1,0,0,1,1]),.inLoop (q4 [1,1,1,1,1,1,0,1,0,0]),.inBlock 0,.code (q4 [1,1,1,1,1,1,1])] ([(2,i64 (v 30)),(3,ptr0 64),(4,ptr0 65),(7,.opq 7),(8,i64 (v 5)),(9,.slice (some ⟨(.dyn 80),(v 83)⟩) (v 81) (v 82)),(11,i64 (v 10)),(12,.slice (some ⟨(.dyn 70),(v 73)⟩) (v 71) (v 72)),(13,.opq 13),(14,i64 (v 14)),(15,i64 (v 15)),(120,FB)]) [] [] [] 3 [] [2,3,4,7,8,9,11,12,13,14,15] [.code (q4 [1,1,1,1,1,1,0,1,0,0,1,0,0,1,1,0,1,0,0,1,0,0,1,1]),.inBlock 3,.code (q4 [1,1,1,1,1,1,0,1,0,0,1,0,0,1,1,0,1,0,0,1,1]),.inLoop (q4 [1,1,1,1,1,1,0,1,0,0,1,0,0,1,1,0,1,0,0]),.inBlock 2,.code (q4 [1,1,1,1,1,1,0,1,0,0,1,0,0,1,1,1]),.inBlock 1,.code (q4 [1,1,1,1,1,1,0,1,0,0,1,1]),.inLoop (q4 [1,1,1,1,1,1,0,1,0,0]),.inBlock 0,.code (q4 [1,1,1,1,1,1,1])] [i64 (v 30),ptr0 64,ptr0 65,.opq 7,i64 (v 5),.slice (some ⟨(.dyn 80),(v 83)⟩) (v 81) (v 82),i64 (v 10),.slice (some ⟨(.dyn 70),(v 73)⟩) (v 71) (v 72),.opq 13,i64 (v 14),i64 (v 15)] []:=⟨fun st=>by kernel_rfl,fun st=>by kernel_rfl,by kernel_rfl,of_decide_eq_true (by kernel_rfl)⟩
theorem awM:Pc 4 204 [.inRegion (opsOf (q4 [1,1,1,1,1,1,0,1,0,0,1,0,0,1,1,0,1,0,0,1,0,0,1,1])) [],.inBlock 3,.code (q4 [1,1,1,1,1,1,0,1,0,0,1,0,0,1,1,0,1,0,0,1,1]),.inLoop (q4 [1,1,1,1,1,1,0,1,0,0,1,0,0,1,1,0,1,0,0]),.inBlock 2,.code (q4 [1,1,1,1,1,1,0,1,0,0,1,0,0,1,1,1]),.inBlock 1,.code (q4 [1,1,1,1,1,1,0,1,0,0,1,1]),.inLoop (q4 [1,1,1,1,1,1,0,1,0,0]),.inBlock 0,.code (q4 [1,1,1,1,1,1,1])] ([(2,i64 (v 30)),(3,ptr0 64),(4,ptr0 65),(7,.opq 7),(8,i64 (v 5)),(9,.slice (some ⟨(.dyn 80),(v 83)⟩) (v 81) (v 82)),(11,i64 (v 10)),(12,.slice (some ⟨(.dyn 70),(v 73)⟩) (v 71) (v 72)),(13,.opq 13),(14,i64 (v 14))]) [] [] [] 8 [] [2,3,4,7,8,9,11,12,13,14] [.code (q4 [1,1,1,1,1,1,0,1,0,0,1,0,0,1,1,0,1,0,0]),.inLoop (q4 [1,1,1,1,1,1,0,1,0,0,1,0,0,1,1,0,1,0,0]),.inBlock 2,.code (q4 [1,1,1,1,1,1,0,1,0,0,1,0,0,1,1,1]),.inBlock 1,.code (q4 [1,1,1,1,1,1,0,1,0,0,1,1]),.inLoop (q4 [1,1,1,1,1,1,0,1,0,0]),.inBlock 0,.code (q4 [1,1,1,1,1,1,1])] [i64 (v 30),ptr0 64,ptr0 65,.opq 7,i64 (v 5),.slice (some ⟨(.dyn 80),(v 83)⟩) (v 81) (v 82),i64 (v 10),.slice (some ⟨(.dyn 70),(v 73)⟩) (v 71) (v 72),.opq 13,i64 (.op .add .i64 (v 14) (.lit 1))] []:=⟨fun st=>by kernel_rfl,fun st=>by kernel_rfl,by kernel_rfl,of_decide_eq_true (by kernel_rfl)⟩
theorem awO(z:Bool):Pc 4 204 [.code (q4 [1,1,1,1,1,1,0,1,0,0,1,0,0,1,1,0,1,0,0]),.inLoop (q4 [1,1,1,1,1,1,0,1,0,0,1,0,0,1,1,0,1,0,0]),.inBlock 2,.code (q4 [1,1,1,1,1,1,0,1,0,0,1,0,0,1,1,1]),.inBlock 1,.code (q4 [1,1,1,1,1,1,0,1,0,0,1,1]),.inLoop (q4 [1,1,1,1,1,1,0,1,0,0]),.inBlock 0,.code (q4 [1,1,1,1,1,1,1])] ([(2,i64 (v 30)),(3,ptr0 64),(4,ptr0 65),(7,.opq 7),(8,i64 (v 5)),(9,.slice (some ⟨(.dyn 80),(v 83)⟩) (v 81) (v 82)),(11,i64 (v 10)),(12,slZ z 70 73 71 72),(13,TB),(14,i64 (v 14))]) [((.cmp .lss (v 14) (lnZ z 71)),false)] [] [] 24 [] [2,3,4,7,8,9,11] [.code (q4 [1,1,1,1,1,1,0,1,0,0]),.inLoop (q4 [1,1,1,1,1,1,0,1,0,0]),.inBlock 0,.code (q4 [1,1,1,1,1,1,1])] [i64 (v 30),ptr0 64,ptr0 65,.opq 7,i64 (v 5),.slice (some ⟨(.dyn 80),(v 83)⟩) (v 81) (v 82),i64 (.op .add .i64 (v 10) (.lit 1))] []:=⟨fun st=>by cases z<;>kernel_rfl,fun st=>by cases z<;>kernel_rfl,by cases z<;>kernel_rfl,of_decide_eq_true (by kernel_rfl)⟩
theorem awP(z:Bool):Pc 4 204 [.code (q4 [1,1,1,1,1,1,0,1,0,0]),.inLoop (q4 [1,1,1,1,1,1,0,1,0,0]),.inBlock 0,.code (q4 [1,1,1,1,1,1,1])] ([(2,i64 (v 30)),(3,ptr0 64),(4,ptr0 65),(7,.opq 7),(8,i64 (v 5)),(11,i64 (v 10))]) [((.cmp .lss (v 10) (lnZ z 51)),false),((.cmp .neq (v 5) (.lit 0)),true)] [(⟨(.dyn 64),(.lit 0)⟩,slZ z 50 53 51 52)] [] 31 [] [] [.inRegion (opsOf (q4 [1,1,1,1,1,1,1,0,1,0,0])) [0,1],.code .ret,.code (q4 [1,1,1,1,1,1,1,1])] [] []:=⟨fun st=>by cases z<;>kernel_rfl,fun st=>by cases z<;>kernel_rfl,by cases z<;>kernel_rfl,of_decide_eq_true (by kernel_rfl)⟩
theorem awQ:OpC 204 (opsOf (q4 [1,1,1,1,1,1,1,0,1,0,0])) 0 [] 6 [] 149:=⟨fun st=>by kernel_rfl,fun st=>by kernel_rfl,fun st=>by kernel_rfl,by kernel_rfl,by decide,rfl⟩
theorem bawR:Pc 4 204 [.inRegion (opsOf (q4 [1,1,1,1,1,1,1,0,1,0,0])) [1],.code .ret,.code (q4 [1,1,1,1,1,1,1,1])] ([(149,.opq 149)]) [] [] [] 2 [] [6] [.code .ret,.code (q4 [1,1,1,1,1,1,1,1])] [.opq 149] []:=⟨fun st=>by kernel_rfl,fun st=>by kernel_rfl,by kernel_rfl,of_decide_eq_true (by kernel_rfl)⟩
theorem bawS(z:Bool):Pc 4 204 [.code (q4 [1,1,1,1,1,1,0,1,0,0]),.inLoop (q4 [1,1,1,1,1,1,0,1,0,0]),.inBlock 0,.code (q4 [1,1,1,1,1,1,1])] ([(2,i64 (v 30)),(3,ptr0 64),(4,ptr0 65),(7,.opq 7),(8,i64 (v 5)),(11,i64 (v 10))]) [((.cmp .lss (v 10) (lnZ z 51)),false),((.cmp .neq (v 5) (.lit 0)),false),((.cmp .lss (v 30) (.lit 0)),true)] [(⟨(.dyn 64),(.lit 0)⟩,slZ z 50 53 51 52)] [] 31 [] [] [.inRegion (opsOf (q4 [1,1,1,1,1,1,1,0,1,0,0])) [0,1],.code .ret,.code (q4 [1,1,1,1,1,1,1,1])] [] []:=⟨fun st=>by cases z<;>kernel_rfl,fun st=>by cases z<;>kernel_rfl,by cases z<;>kernel_rfl,of_decide_eq_true (by kernel_rfl)⟩
theorem bawT(z:Bool):Pc 4 204 [.code (q4 [1,1,1,1,1,1,0,1,0,0]),.inLoop (q4 [1,1,1,1,1,1,0,1,0,0]),.inBlock 0,.code (q4 [1,1,1,1,1,1,1])] ([(2,i64 (v 30)),(3,ptr0 64),(4,ptr0 65),(7,.opq 7),(8,i64 (v 5)),(11,i64 (v 10))]) [((.cmp .lss (v 10) (lnZ z 51)),false),((.cmp .neq (v 5) (.lit 0)),false),((.cmp .lss (v 30) (.lit 0)),false),((.cmp .gtr (v 30) (lnZ z 51)),true)] [(⟨(.dyn 64),(.lit 0)⟩,slZ z 50 53 51 52)] [] 31 [] [] [.inRegion (opsOf (q4 [1,1,1,1,1,1,1,0,1,0,0])) [0,1],.code .ret,.code (q4 [1,1,1,1,1,1,1,1])] [] []:=⟨fun st=>by cases z<;>kernel_rfl,fun st=>by cases z<;>kernel_rfl,by cases z<;>kernel_rfl,of_decide_eq_true (by kernel_rfl)⟩
theorem bawU(z:Bool):Pc 4 204 [.code (q4 [1,1,1,1,1,1,0,1,0,0]),.inLoop (q4 [1,1,1,1,1,1,0,1,0,0]),.inBlock 0,.code (q4 [1,1,1,1,1,1,1])] ([(2,i64 (v 30)),(3,ptr0 64),(4,ptr0 65),(7,.opq 7),(8,i64 (v 5)),(11,i64 (v 10))]) [((.cmp .lss (v 10) (lnZ z 51)),false),((.cmp .neq (v 5) (.lit 0)),false),((.cmp .lss (v 30) (.lit 0)),false),((.cmp .gtr (v 30) (lnZ z 51)),false)] [(⟨(.dyn 64),(.lit 0)⟩,slZ z 50 53 51 52)] [] 35 [] [2,3,4,7,151,152] [.inRegion (opsOf (q4 [1,1,1,1,1,1,1,1,0])) [3,4,5,6,7],.code (q4 [1,1,1,1,1,1,1,1,1])] [i64 (v 30),ptr0 64,ptr0 65,.opq 7,slZ z 50 53 51 52,i64 (v 30)] []:=⟨fun st=>by cases z<;>kernel_rfl,fun st=>by cases z<;>kernel_rfl,by cases z<;>kernel_rfl,of_decide_eq_true (by kernel_rfl)⟩
theorem bawV:OpW 204 (opsOf (q4 [1,1,1,1,1,1,1,1,0])) 3 [] (.slice 22 (.tmp 151) none (some (.tmp 152)) none) 22 (some 153):=⟨fun st=>by kernel_rfl,fun st=>by kernel_rfl,by kernel_rfl⟩
theorem bawX:OpC 204 (opsOf (q4 [1,1,1,1,1,1,1,1,0])) 4 [(153,.opq 153)] 16 [.opq 153] 154:=⟨fun st=>by kernel_rfl,fun st=>by kernel_rfl,fun st=>by kernel_rfl,by kernel_rfl,by decide,rfl⟩
theorem bawYn:Pc 4 204 [.inRegion (opsOf (q4 [1,1,1,1,1,1,1,1,0])) [5,6,7],.code (q4 [1,1,1,1,1,1,1,1,1])] ([(2,i64 (v 30)),(3,ptr0 64),(4,ptr0 65),(7,.opq 7),(154,nilA)]) [] [] [] 11 [100] [2,3,4,7,16,17] [.code (q4 [1,1,1,1,1,1,1,1,1,0,1,0,0]),.inLoop (q4 [1,1,1,1,1,1,1,1,1,0,1,0,0]),.inBlock 4,.code (q4 [1,1,1,1,1,1,1,1,1,1])] [i64 (v 30),ptr0 64,ptr0 65,.opq 7,ptr0 100,i64 (.lit 0)] [(100,.cells [nilA,nilA] 25)]:=⟨fun st=>by kernel_rfl,fun st=>by kernel_rfl,by kernel_rfl,of_decide_eq_true (by kernel_rfl)⟩
theorem bawY:Pc 4 204 [.inRegion (opsOf (q4 [1,1,1,1,1,1,1,1,0])) [5,6,7],.code (q4 [1,1,1,1,1,1,1,1,1])] ([(2,i64 (v 30)),(3,ptr0 64),(4,ptr0 65),(7,.opq 7),(154,.slice (some ⟨(.dyn 60),(v 63)⟩) (v 61) (v 62))]) [] [] [] 11 [100] [2,3,4,7,16,17] [.code (q4 [1,1,1,1,1,1,1,1,1,0,1,0,0]),.inLoop (q4 [1,1,1,1,1,1,1,1,1,0,1,0,0]),.inBlock 4,.code (q4 [1,1,1,1,1,1,1,1,1,1])] [i64 (v 30),ptr0 64,ptr0 65,.opq 7,ptr0 100,i64 (.lit 0)] [(100,.cells [.slice (some ⟨(.dyn 60),(v 63)⟩) (v 61) (v 62),nilA] 25)]:=⟨fun st=>by kernel_rfl,fun st=>by kernel_rfl,by kernel_rfl,of_decide_eq_true (by kernel_rfl)⟩
theorem bxA:Pc 4 204 [.code (q4 [1,1,1,1,1,1,1,1,1,0,1,0,0]),.inLoop (q4 [1,1,1,1,1,1,1,1,1,0,1,0,0]),.inBlock 4,.code (q4 [1,1,1,1,1,1,1,1,1,1])] ([(2,i64 (v 30)),(3,ptr0 64),(4,ptr0 65),(7,.opq 7),(16,ptr0 66),(17,i64 (v 10))]) [((.cmp .lss (v 10) (v 30)),true)] [(⟨(.dyn 66),(.lit 0)⟩,.slice (some ⟨(.dyn 60),(v 63)⟩) (v 61) (v 62))] [] 19 [] [2,3,4,7,16,17,162,163,167] [.inRegion (opsOf (q4 [1,1,1,1,1,1,1,1,1,0,1,0,0,1,0,0])) [7,8,9,10,11,12,13,14,15,16,17,18,19,20,21,22,23,24,25],.inBlock 5,.code (q4 [1,1,1,1,1,1,1,1,1,0,1,0,0,1,1]),.inLoop (q4 [1,1,1,1,1,1,1,1,1,0,1,0,0]),.inBlock 4,.code (q4 [1,1,1,1,1,1,1,1,1,1])] [i64 (v 30),ptr0 64,ptr0 65,.opq 7,ptr0 66,i64 (v 10),.slice (some ⟨(.dyn 60),(v 63)⟩) (v 61) (v 62),i64 (v 10),.int .i32 (.conv .i32 (.op .add .i64 (.lit 113) (.op .rem .i64 (v 10) (.lit 9))))] []:=⟨fun st=>by kernel_rfl,fun st=>by kernel_rfl,by kernel_rfl,of_decide_eq_true (by kernel_rfl)⟩
theorem bxA2:OpW 204 (opsOf (q4 [1,1,1,1,1,1,1,1,1,0,1,0,0,1,0,0])) 7 [] (.convert 21 9 (.tmp 167)) 9 (some 168):=⟨fun st=>by kernel_rfl,fun st=>by kernel_rfl,by kernel_rfl⟩
theorem bxA3:OpW 204 (opsOf (q4 [1,1,1,1,1,1,1,1,1,0,1,0,0,1,0,0])) 8 [] (.binOp .add 9 (.tmp 168) (.const (.string ⟨#[95]⟩)) 9) 9 (some 169):=⟨fun st=>by kernel_rfl,fun st=>by kernel_rfl,by kernel_rfl⟩
theorem bxB:Pc 4 204 [.inRegion (opsOf (q4 [1,1,1,1,1,1,1,1,1,0,1,0,0,1,0,0])) [9,10,11,12,13,14,15,16,17,18,19,20,21,22,23,24,25],.inBlock 5,.code (q4 [1,1,1,1,1,1,1,1,1,0,1,0,0,1,1]),.inLoop (q4 [1,1,1,1,1,1,1,1,1,0,1,0,0]),.inBlock 4,.code (q4 [1,1,1,1,1,1,1,1,1,1])] ([(2,i64 (v 30)),(3,ptr0 64),(4,ptr0 65),(7,.opq 7),(16,ptr0 66),(17,i64 (v 10)),(162,.slice (some ⟨(.dyn 60),(v 63)⟩) (v 61) (v 62)),(163,i64 (v 10)),(169,.opq 169)]) [] [] [] 5 [] [2,3,4,7,16,17,162,163,169,174] [.inRegion (opsOf (q4 [1,1,1,1,1,1,1,1,1,0,1,0,0,1,0,0])) [14,15,16,17,18,19,20,21,22,23,24,25],.inBlock 5,.code (q4 [1,1,1,1,1,1,1,1,1,0,1,0,0,1,1]),.inLoop (q4 [1,1,1,1,1,1,1,1,1,0,1,0,0]),.inBlock 4,.code (q4 [1,1,1,1,1,1,1,1,1,1])] [i64 (v 30),ptr0 64,ptr0 65,.opq 7,ptr0 66,i64 (v 10),.slice (some ⟨(.dyn 60),(v 63)⟩) (v 61) (v 62),i64 (v 10),.opq 169,.int .i32 (.conv .i32 (.op .add .i64 (.lit 97) (.op .rem .i64 (.op .quo .i64 (v 10) (.lit 9)) (.lit 26))))] []:=⟨fun st=>by kernel_rfl,fun st=>by kernel_rfl,by kernel_rfl,of_decide_eq_true (by kernel_rfl)⟩
theorem bxB2:OpW 204 (opsOf (q4 [1,1,1,1,1,1,1,1,1,0,1,0,0,1,0,0])) 14 [] (.convert 21 9 (.tmp 174)) 9 (some 175):=⟨fun st=>by kernel_rfl,fun st=>by kernel_rfl,by kernel_rfl⟩
theorem bxB3:OpW 204 (opsOf (q4 [1,1,1,1,1,1,1,1,1,0,1,0,0,1,0,0])) 15 [] (.binOp .add 9 (.tmp 169) (.tmp 175) 9) 9 (some 176):=⟨fun st=>by kernel_rfl,fun st=>by kernel_rfl,by kernel_rfl⟩
theorem bxC:Pc 4 204 [.inRegion (opsOf (q4 [1,1,1,1,1,1,1,1,1,0,1,0,0,1,0,0])) [16,17,18,19,20,21,22,23,24,25],.inBlock 5,.code (q4 [1,1,1,1,1,1,1,1,1,0,1,0,0,1,1]),.inLoop (q4 [1,1,1,1,1,1,1,1,1,0,1,0,0]),.inBlock 4,.code (q4 [1,1,1,1,1,1,1,1,1,1])] ([(2,i64 (v 30)),(3,ptr0 64),(4,ptr0 65),(7,.opq 7),(16,ptr0 66),(17,i64 (v 10)),(162,.slice (some ⟨(.dyn 60),(v 63)⟩) (v 61) (v 62)),(163,i64 (v 10)),(176,.opq 176)]) [] [] [] 5 [] [2,3,4,7,16,17,162,163,176,181] [.inRegion (opsOf (q4 [1,1,1,1,1,1,1,1,1,0,1,0,0,1,0,0])) [21,22,23,24,25],.inBlock 5,.code (q4 [1,1,1,1,1,1,1,1,1,0,1,0,0,1,1]),.inLoop (q4 [1,1,1,1,1,1,1,1,1,0,1,0,0]),.inBlock 4,.code (q4 [1,1,1,1,1,1,1,1,1,1])] [i64 (v 30),ptr0 64,ptr0 65,.opq 7,ptr0 66,i64 (v 10),.slice (some ⟨(.dyn 60),(v 63)⟩) (v 61) (v 62),i64 (v 10),.opq 176,.int .i32 (.conv .i32 (.op .add .i64 (.lit 97) (.op .rem .i64 (.op .quo .i64 (v 10) (.lit 234)) (.lit 26))))] []:=⟨fun st=>by kernel_rfl,fun st=>by kernel_rfl,by kernel_rfl,of_decide_eq_true (by kernel_rfl)⟩
theorem bxC2:OpW 204 (opsOf (q4 [1,1,1,1,1,1,1,1,1,0,1,0,0,1,0,0])) 21 [] (.convert 21 9 (.tmp 181)) 9 (some 182):=⟨fun st=>by kernel_rfl,fun st=>by kernel_rfl,by kernel_rfl⟩
theorem bxC3:OpW 204 (opsOf (q4 [1,1,1,1,1,1,1,1,1,0,1,0,0,1,0,0])) 22 [] (.binOp .add 9 (.tmp 176) (.tmp 182) 9) 9 (some 183):=⟨fun st=>by kernel_rfl,fun st=>by kernel_rfl,by kernel_rfl⟩
theorem bxD:Pc 4 204 [.inRegion (opsOf (q4 [1,1,1,1,1,1,1,1,1,0,1,0,0,1,0,0])) [23,24,25],.inBlock 5,.code (q4 [1,1,1,1,1,1,1,1,1,0,1,0,0,1,1]),.inLoop (q4 [1,1,1,1,1,1,1,1,1,0,1,0,0]),.inBlock 4,.code (q4 [1,1,1,1,1,1,1,1,1,1])] ([(2,i64 (v 30)),(3,ptr0 64),(4,ptr0 65),(7,.opq 7),(16,ptr0 66),(17,i64 (v 10)),(162,.slice (some ⟨(.dyn 60),(v 63)⟩) (v 61) (v 62)),(163,i64 (v 10)),(183,.opq 183)]) [((.cmp .lss (v 10) (.tn (v 61))),true),((.cmp .leq (.lit 0) (v 10)),true),((.cmp .lss (v 10) (.lit 0)),false),((.cmp .geq (v 10) (.tn (v 61))),false)] [] [] 2 [] [2,3,4,7,16,17,183,185] [.inRegion (opsOf (q4 [1,1,1,1,1,1,1,1,1,0,1,0,0,1,0,0])) [25],.inBlock 5,.code (q4 [1,1,1,1,1,1,1,1,1,0,1,0,0,1,1]),.inLoop (q4 [1,1,1,1,1,1,1,1,1,0,1,0,0]),.inBlock 4,.code (q4 [1,1,1,1,1,1,1,1,1,1])] [i64 (v 30),ptr0 64,ptr0 65,.opq 7,ptr0 66,i64 (v 10),.opq 183,.ptr (some ⟨(.dyn 60),(.plus (.tn (v 63)) (.times (.tn (v 10)) (.lit 3)))⟩)] []:=⟨fun st=>by kernel_rfl,fun st=>by kernel_rfl,by kernel_rfl,of_decide_eq_true (by kernel_rfl)⟩
theorem bxE:OpW 204 (opsOf (q4 [1,1,1,1,1,1,1,1,1,0,1,0,0,1,0,0])) 25 [] (.store 9 (.tmp 185) (.tmp 183)) 0 none:=⟨fun st=>by kernel_rfl,fun st=>by kernel_rfl,by kernel_rfl⟩
theorem bxF:Pc 4 204 [.inRegion (opsOf (q4 [1,1,1,1,1,1,1,1,1,0,1,0,0,1,0,0])) [],.inBlock 5,.code (q4 [1,1,1,1,1,1,1,1,1,0,1,0,0,1,1]),.inLoop (q4 [1,1,1,1,1,1,1,1,1,0,1,0,0]),.inBlock 4,.code (q4 [1,1,1,1,1,1,1,1,1,1])] ([(2,i64 (v 30)),(3,ptr0 64),(4,ptr0 65),(7,.opq 7),(16,ptr0 66),(17,i64 (v 10))]) [] [] [] 8 [] [2,3,4,7,16,17] [.code (q4 [1,1,1,1,1,1,1,1,1,0,1,0,0]),.inLoop (q4 [1,1,1,1,1,1,1,1,1,0,1,0,0]),.inBlock 4,.code (q4 [1,1,1,1,1,1,1,1,1,1])] [i64 (v 30),ptr0 64,ptr0 65,.opq 7,ptr0 66,i64 (.op .add .i64 (v 10) (.lit 1))] []:=⟨fun st=>by kernel_rfl,fun st=>by kernel_rfl,by kernel_rfl,of_decide_eq_true (by kernel_rfl)⟩
theorem bxG:Pc 4 204 [.code (q4 [1,1,1,1,1,1,1,1,1,0,1,0,0]),.inLoop (q4 [1,1,1,1,1,1,1,1,1,0,1,0,0]),.inBlock 4,.code (q4 [1,1,1,1,1,1,1,1,1,1])] ([(2,i64 (v 30)),(3,ptr0 64),(4,ptr0 65),(7,.opq 7),(16,ptr0 66),(17,i64 (v 10))]) [((.cmp .lss (v 10) (v 30)),false)] [(⟨(.dyn 66),(.lit 0)⟩,.opq 60),(⟨(.dyn 66),(.lit 1)⟩,nilA),(⟨(.dyn 65),(.lit 0)⟩,i64 (v 21)),(⟨(.dyn 65),(.lit 1)⟩,i64 (v 22)),(⟨(.dyn 65),(.lit 2)⟩,i64 (v 23)),(⟨(.dyn 65),(.lit 3)⟩,i64 (v 24))] [] 13 [] [2,7,187,188] [.inRegion (opsOf (q4 [1,1,1,1,1,1,1,1,1,1,0])) [2,3,4,5,6,7],.code (q4 [1,1,1,1,1,1,1,1,1,1,1])] [i64 (v 30),.opq 7,.agg [.opq 60,nilA],.agg [i64 (v 21),i64 (v 22),i64 (v 23),i64 (v 24)]] []:=⟨fun st=>by kernel_rfl,fun st=>by kernel_rfl,by kernel_rfl,of_decide_eq_true (by kernel_rfl)⟩
theorem bxH:OpC 204 (opsOf (q4 [1,1,1,1,1,1,1,1,1,1,0])) 2 [(187,.opq 187),(188,.opq 188)] 7 [.opq 187,.opq 188] 189:=⟨fun st=>by kernel_rfl,fun st=>by kernel_rfl,fun st=>by kernel_rfl,by kernel_rfl,by decide,rfl⟩
theorem bxI:Pc 4 204 [.inRegion (opsOf (q4 [1,1,1,1,1,1,1,1,1,1,0])) [3,4,5,6,7],.code (q4 [1,1,1,1,1,1,1,1,1,1,1])] ([(2,i64 (v 30)),(7,.opq 7),(189,.tuple [.opq 18,i64 (.lit 0)])]) [] [] [] 14 [] [194,195,196,197] [.inRegion (opsOf (q4 [1,1,1,1,1,1,1,1,1,1,1,0])) [6,7,8,9,10,11,12],.code .ret] [TB,.opq 18,.opq 7,i64 (v 30)] []:=⟨fun st=>by kernel_rfl,fun st=>by kernel_rfl,by kernel_rfl,of_decide_eq_true (by kernel_rfl)⟩
theorem bxJ:OpW 204 (opsOf (q4 [1,1,1,1,1,1,1,1,1,1,1,0])) 6 [(194,TB)] (.slice 33 (.tmp 196) none (some (.tmp 197)) none) 33 (some 198):=⟨fun st=>by kernel_rfl,fun st=>by kernel_rfl,by kernel_rfl⟩
theorem bxL:OpC 204 (opsOf (q4 [1,1,1,1,1,1,1,1,1,1,1,0])) 7 [(194,TB),(195,.opq 195),(198,.opq 198)] 17 [.opq 195,.opq 198] 199:=⟨fun st=>by kernel_rfl,fun st=>by kernel_rfl,fun st=>by kernel_rfl,by kernel_rfl,by decide,rfl⟩
theorem bxM:Pc 4 204 [.inRegion (opsOf (q4 [1,1,1,1,1,1,1,1,1,1,1,0])) [8,9,10,11,12],.code .ret] ([(194,TB),(199,TB)]) [] [] [] 2 [] [201] [.inRegion (opsOf (q4 [1,1,1,1,1,1,1,1,1,1,1,0])) [10,11,12],.code .ret] [TB] []:=⟨fun st=>by kernel_rfl,fun st=>by kernel_rfl,by kernel_rfl,of_decide_eq_true (by kernel_rfl)⟩
theorem bxN:OpC 204 (opsOf (q4 [1,1,1,1,1,1,1,1,1,1,1,0])) 10 [(201,TB)] 6 [] 202:=⟨fun st=>by kernel_rfl,fun st=>by kernel_rfl,fun st=>by kernel_rfl,by kernel_rfl,by decide,rfl⟩
theorem bxO:Pc 4 204 [.inRegion (opsOf (q4 [1,1,1,1,1,1,1,1,1,1,1,0])) [11,12],.code .ret] ([(201,TB),(202,.opq 202)]) [] [] [] 3 [] [6] [.code .ret] [.opq 202] []:=⟨fun st=>by kernel_rfl,fun st=>by kernel_rfl,by kernel_rfl,of_decide_eq_true (by kernel_rfl)⟩
end Go.Proofs.Ytmobbajggkjpgaa

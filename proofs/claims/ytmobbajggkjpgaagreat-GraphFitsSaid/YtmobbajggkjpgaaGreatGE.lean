/-
  A symbolic run of the model, proved sound, and the walk of the code: a text of its parts. Conditions: none.
-/
import Derived.Test.YtmobbajggkjpgaaGreatGD
set_option linter.unusedSectionVars false
set_option maxRecDepth 100000
set_option linter.unusedVariables false
set_option linter.unusedSimpArgs false
namespace Go.Proofs.YtmobbajggkjpgaaGreat
open Go.Proofs.YtmobbajggkjpgaaGreat.SX Go.Conc
open _root_.List renaming getElem?_eq_getElem->aa,mem_cons_of_mem->af,mem_singleton->ah,mem_cons->ai,mem_cons_self->aj,getElem?_eq_some_iff->ak,length_append->an,mem_of_getElem?->az,not_mem_nil->aA,length_cons->aC,all_eq_true->aE,drop_eq_getElem_cons->aG,drop_of_length_le->aI,getElem?_append_left->aK,mem_filter->aO,getElem?_eq_none->aQ,length->aR,mem_append->aT,map_cons->aU,length_nil->aX,mem_map->bf,pairwise_singleton->bx
open _root_.Bool renaming and_eq_true->aq
open _root_.Option.some renaming inj->au
open _root_.Option renaming map_some->av,map_none->aM
open _root_.Nat renaming le_trans->ax,le_refl->ay,zero_add->aF,eq_of_beq_eq_true->aJ,mul_le_mul_right->bk
open _root_.Array renaming getElem?_eq_getElem->aS
noncomputable def q25(l:Nat):Code:=pc (bD Tryz.f27) (pd l)
theorem abW:bT Tryz.prog 27 [.bF 0,.bF 1] .normal=.ok ⟨27,10,c_ 27 [.bF 0,.bF 1],[.code (bD Tryz.f27)],[],.run,.normal⟩:=by kernel_rfl
theorem abX:dL 27 10 4:=fun st=>by kernel_rfl
noncomputable def q35(l:Nat):Code:=pc (bD Tryz.f45) (pd l)
theorem abY:bT Tryz.prog 45 [.bF 0,.bF 1] .normal=.ok ⟨45,9,c_ 45 [.bF 0,.bF 1],[.code (bD Tryz.f45)],[],.run,.normal⟩:=by kernel_rfl
theorem abZ:dL 45 9 4:=fun st=>by kernel_rfl
noncomputable def ZQ(l:Nat):Code:=pc (bD Tryz.f69) (pd l)
theorem ab0:bT Tryz.prog 69 [.bF 0,.bF 1] .normal=.ok ⟨69,19,c_ 69 [.bF 0,.bF 1],[.code (bD Tryz.f69)],[],.run,.normal⟩:=by kernel_rfl
theorem N7:dL 69 19 4:=fun st=>by kernel_rfl
theorem al1:Pc 27 10 [.code (bD Tryz.f27)] [(0,.bF 0),(1,i64 (v 1))] [] [] [] 8 [] [5,6] [.inRegion (opsOf (q25 6)) [2,3,4,5],.code .ret] [.bF 0,i64 (v 1)] []:={}
theorem al2:j7 10 (opsOf (q25 6)) 2 [] (.slice 28 (.tmp 5) none (some (.tmp 6)) none) 28 (some 7):={}
theorem al3:dy 10 (opsOf (q25 6)) 3 [(7,.bF 7)] 45 [.bF 7,.func (.func 46) [] []] 8:={}
theorem Rq:Pc 27 10 [.inRegion (opsOf (q25 6)) [4,5],.code .ret] [(8,TB)] [] [] [] 3 [] [4] [.code .ret] [FB] []:={}
theorem N8:Pc 27 10 [.inRegion (opsOf (q25 6)) [4,5],.code .ret] [(8,FB)] [] [] [] 3 [] [4] [.code .ret] [TB] []:={}
theorem al5:Pc 45 9 [.code (bD Tryz.f45)] [(0,.bF 0),(1,.func (.func 46) [] [])] [] [] [] 8 [] [5,6] [.inRegion (opsOf (q35 6)) [2,3,4],.code .ret] [.bF 0,.func (.func 46) [] []] []:={}
theorem al6:dy 9 (opsOf (q35 6)) 2 [(5,.bF 5),(6,.func (.func 46) [] [])] 69 [.bF 5,.func (.func 46) [] []] 7:={}
theorem Rr:Pc 45 9 [.inRegion (opsOf (q35 6)) [3,4],.code .ret] [(7,i64 (v 1))] [((.cmp .geq (v 1) (.lit 0)),true)] [] [] 3 [] [4] [.code .ret] [TB] []:={}
theorem N9:Pc 45 9 [.inRegion (opsOf (q35 6)) [3,4],.code .ret] [(7,i64 (v 1))] [((.cmp .geq (v 1) (.lit 0)),false)] [] [] 3 [] [4] [.code .ret] [FB] []:={}
noncomputable abbrev yg:List Item:=[.code (ZQ 52),.inLoop (ZQ 52),.inBlock 0,.code (ZQ 7)]
theorem al8(z:Bool):Pc 69 19 [.code (bD Tryz.f69)] [(0,cU z 80 83 81 82),(1,.func (.func 46) [] [])] [] [] [] 13 [] [0,1,7,8] yg [cU z 80 83 81 82,.func (.func 46) [] [],i64 (dO z 81),i64 (.lit 0)] []:=by cases z<;>exact{}
theorem al9(z:Bool):Pc 69 19 yg [(0,cU z 80 83 81 82),(1,.func (.func 46) [] []),(7,i64 (dO z 81)),(8,i64 (v 10))] [((.cmp .lss (v 10) (dO z 81)),false)] [] [] 11 [] [4] [.code .ret] [i64 (.lit (-1))] []:=by cases z<;>exact{}
noncomputable abbrev TJ:List Item:=[.code .ret,.inBlock 1,.code (ZQ 423),.inLoop (ZQ 52),.inBlock 0,.code (ZQ 7)]
noncomputable abbrev N_:List (AA×AV):=[(eB 80 83 10 2,i8 (v 11)),(eA 80 83 10 2 1,i64 (v 12))]
theorem alA:Pc 69 19 yg [(0,sA 80 83 81 82),(1,.func (.func 46) [] []),(7,i64 (.tn (v 81))),(8,i64 (v 10))] (fo 10 81++[((.cmp .lss (v 11) (.lit 1)),true)]) N_ [] 48 [] [4] TJ [i64 (v 10)] []:={}
abbrev TK:List (BE×Bool):=[((.cmp .lss (v 11) (.lit 1)),false),((.cmp .gtr (v 11) (.lit 4)),true)]
theorem alB:Pc 69 19 yg [(0,sA 80 83 81 82),(1,.func (.func 46) [] []),(7,i64 (.tn (v 81))),(8,i64 (v 10))] (fo 10 81++TK) N_ [] 48 [] [4] TJ [i64 (v 10)] []:={}
abbrev TL:List (BE×Bool):=[((.cmp .lss (v 11) (.lit 1)),false),((.cmp .gtr (v 11) (.lit 4)),false)]
theorem alC:Pc 69 19 yg [(0,sA 80 83 81 82),(1,.func (.func 46) [] []),(7,i64 (.tn (v 81))),(8,i64 (v 10))] (fo 10 81++TL) N_ [] 50 [] [0,1,7,8] yg [sA 80 83 81 82,.func (.func 46) [] [],i64 (.tn (v 81)),i64 (.op .add .i64 (v 10) (.lit 1))] []:={}
noncomputable def nA(l:Nat):Code:=pc (bD Tryz.f28) (pd l)
theorem ab1:bT Tryz.prog 28 j6 .normal=.ok ⟨28,107,c_ 28 j6,[.code (bD Tryz.f28)],[],.run,.normal⟩:=by kernel_rfl
theorem qd:dL 28 107 8:=fun st=>by kernel_rfl
noncomputable abbrev vm:List Item:=[.inRegion (opsOf (nA 124)) [],.code (nA 125),.code (nA 63)]
theorem ft7:Pc 28 107 vm ([(4,bC 64),(6,bC 65),(7,bC 66),(9,bC 67),(10,bC 68),(65,i8 (v 1))]) [((.cmp .eql (v 1) (.lit 17)),false),((.cmp .eql (v 1) (.lit 18)),false)] [(eD 67 0,ss 1),(eD 67 1,sA 70 73 71 72),(eD 67 2,i64 (v 4)),(eD 66 0,sA 80 83 81 82),(eD 65 0,i64 (v 21)),(eD 65 1,i64 (v 22)),(eD 65 2,i64 (v 23)),(eD 65 3,i64 (v 24))] [] 27 [100] [10,16] [.code (nA 254),.code .ret] [bC 68,bC 100] [(100,.cells [sA 70 73 71 72,sA 80 83 81 82,i64 (v 21),i64 (v 22),i64 (v 23),i64 (v 24)] 69)]:={}
theorem agw:dH 107 (opsOf (nA 254)) 0 [] [] [(16,.bF 16)] (.bF 16) 102:={}
theorem agx:dH 107 (opsOf (nA 254)) 3 [] [(eD 68 0,i8 (v 11)),(eD 68 1,i64 (v 12))] [(10,bC 68)] (.agg [i8 (v 11),i64 (v 12)]) 105:={}
noncomputable abbrev Ir:List (Nat×AV):=[(104,.agg [i8 (v 13),i64 (v 14)]),(105,.agg [i8 (v 11),i64 (v 12)])]
theorem ab2:dH 107 (opsOf (nA 254)) 4 [((.cmp .eql (v 13) (v 11)),false)] [] Ir (FB) 106:={}
theorem ab3:dH 107 (opsOf (nA 254)) 4 [((.cmp .eql (v 13) (v 11)),true),((.cmp .eql (v 14) (v 12)),false)] [] Ir (FB) 106:={}
theorem ab4:dH 107 (opsOf (nA 254)) 4 [((.cmp .eql (v 13) (v 11)),true),((.cmp .eql (v 14) (v 12)),true)] [] Ir (TB) 106:={}
theorem agy:dH 107 (opsOf (nA 254)) 5 [] [] [(106,.bF 7)] (.bF 7) 8:={}
theorem ft8:dy 107 (opsOf (nA 254)) 1 [(102,.bF 102)] 37 [.bF 102,i64 (.lit 0)] 103:={}
theorem ab5:Pc 28 107 [.inRegion (opsOf (nA 254)) [],.code .ret] ([(8,.bF 8)]) [] [] [] 1 [] [8] [.code .ret] [.bF 8] []:={}
theorem agz:dy 107 (opsOf (nA 254)) 2 [(103,.iface 97 (.bF 103))] 127 [.bF 103] 104:={}
theorem agA:dy 107 (opsOf (nA 254)) 2 [(103,.iface 100 (.bF 103))] 128 [.bF 103] 104:={}
noncomputable def ZR:Value:=(AV.func (.func 46) [] []).ev (bO [] [] [])
def kn(e:Int×Int):Bool:=decide (e.1<1)||decide (e.1>4)
theorem agB:under? Tryz.prog 28=.ok (.slice 43):=by kernel_rfl
theorem agC:sizeOf? Tryz.prog 43=.ok 2:=by kernel_rfl
theorem Rs{t elem size:Nat}(hU:under? Tryz.prog t=.ok (.slice elem))(hS:sizeOf? Tryz.prog elem=.ok size){off n c k:Nat}(h:k≤n)(hn:n≤c):sliceOp? Tryz.prog t (.slice (some ⟨.dyn 50,.lit (Int.ofNat off)⟩) (.lit (Int.ofNat n)) (.lit (Int.ofNat c))) none (some (.int .i64 (.lit (Int.ofNat k)))) none=.ok (.slice (some ⟨.dyn 50,.lit (Int.ofNat off)⟩) (.lit (Int.ofNat k)) (.lit (Int.ofNat c))):=by unfold sliceOp?;rw[hU];simp only[bind,Except.bind,litNat?,bounds?,bound?,high?,hS,pure,Except.pure];have:k≤c:=ax h hn;simp[h,hn,this,AA.add,zb]
theorem take_nil{t elem size:Nat}(hU:under? Tryz.prog t=.ok (.slice elem))(hS:sizeOf? Tryz.prog elem=.ok size):sliceOp? Tryz.prog t (.slice none (.lit 0) (.lit 0)) none (some (.int .i64 (.lit 0))) none=.ok (.slice none (.lit 0) (.lit 0)):=by unfold sliceOp?;rw[hU];simp[bind,Except.bind,litNat?,bounds?,bound?,high?,hS,pure,Except.pure]
section
variable {w w0:World}{cs:List Frame}{fr:Frame}
theorem qD{E:Value->World->Prop}{t elem size:Nat}(hU:under? Tryz.prog t=.ok (.slice elem))(hS:sizeOf? Tryz.prog elem=.ok size){z:Bool}{A off n c k:Nat}(h:k≤n)(hz:z=true->n=0)(hn:z=false->n≤c){Q:Value->World->Prop}(hq:Q (ew z A off k c) w):
  wq Tryz.prog (fun _=>True) E (Instr.sliceAt t (ew z A off n c) none (some (iV k)) none) Q w:=by
 let K:Ctx:=⟨Tryz.prog,{},fun _=>True,fun _=>True,True,fun _ _=>False⟩;let ρ:Env:=bO [] [(50,A)] [];cases z with
 |false=>exact kJ (K:=K) (ρ:=ρ) (w:=w) (Rs (off:=off) (k:=k) hU hS h (hn rfl)) (Q:=Q) hq
 |true=>
  obtain rfl:k=0:=by have:=hz rfl;omega
  exact kJ (K:=K) (ρ:=ρ) (w:=w) (take_nil hU hS) (Q:=Q) hq
noncomputable abbrev AlH:List Item:=yg
theorem Is{z:Bool}{A o c:Nat}{E:List (Int×Int)}(hz:z=true->E=[])(hel:∀i e,E[i]?=some e->w0.cell? ⟨A,o+i*2,none⟩=some (cY e.1)∧w0.cell? ⟨A,o+i*2+1,none⟩=some (iV e.2))(hlen:E.length≤4294967000):
  ∀(m i:Nat) {w:World} {cs:List Frame} {fr:Frame},i+m=E.length->bA w0 w->FA 69 19 AlH [] .normal [(0,ew z A o E.length c),(1,ZR),(7,iV E.length),(8,iV i)] fr->
  Goes (G fr cs) w fun g' w'=>∃fr' j,g'=G fr' cs∧bA w0 w'∧de 69 fr' w' (iV j)∧decide (j≥0)=(E.drop i).any kn
 |0,i,w,cs,fr,hi,fw,hf=>by
  obtain⟨ρ,hρ⟩:∃ρ:Env,ρ=bO [(81,E.length),(82,c),(83,o),(10,i)] [(80,A)] []:=⟨_,rfl⟩;have ez:(cU z 80 83 81 82).ev ρ=ew z A o E.length c:=by rw[hρ];cases z<;>rfl
  have en:(i64 (dO z 81)).ev ρ=iV E.length:=by
   rw[hρ];cases z with
   |false=>rfl
   |true=>rw[hz rfl];rfl
  refine((al9 z).go ρ hf (by
   show[some _,some _,some _,some _]=[some ((cU z 80 83 81 82).ev ρ),some _,some ((i64 (dO z 81)).ev ρ),some _];rw[ez,en,hρ];rfl) ⟨by
    rw[hρ];cases z with
    |false=>exact decide_eq_false (by show ¬((i:Int)<((E.length:Nat):Int));omega)
    |true=>exact decide_eq_false (by show ¬((i:Int)<0);omega),trivial⟩ trivial).trans fun g1 w1 hd=>?_
  obtain⟨I,B,bR,rfl,f1,F1,_⟩:=hd;refine(leave1 N7 F1 rfl).mono fun g6 w6 dz=>?_;obtain⟨dK,rfl,rfl,hL⟩:=dz;rw[aI (by omega)];exact⟨dK,-1,rfl,fw.trans f1,hL,rfl⟩
 |m+1,i,w,cs,fr,hi,fw,hf=>by
  have hlt:i<E.length:=by omega
  obtain⟨e,he⟩:∃e,E[i]?=some e:=⟨_,aa hlt⟩;cases z with
  |true=>rw[hz rfl]at hlt;simp only[aX]at hlt;omega
  |false=>
  obtain⟨c0,c1⟩:=hel i e he;have dS:E.drop i=e::E.drop (i+1):=by rw[aG hlt];congr 1;exact au ((aa hlt).symm.trans he)
  rw[dS,List.any_cons];obtain⟨ρ,hρ⟩:∃ρ:Env,ρ=bO [(81,E.length),(82,c),(83,o),(10,i),(11,e.1),(12,e.2)] [(80,A)] []:=⟨_,rfl⟩;have mm:w.cell? ⟨A,o+i*2,none⟩=some (cY e.1)∧w.cell? ⟨A,o+i*2+1,none⟩=some (iV e.2):=⟨fw.cell c0,fw.cell c1⟩;have bb:=bX (ρ:=ρ) (i:=10) (n:=81) (I:=i) (N:=E.length) (by rw[hρ];rfl) (by rw[hρ];rfl) hlt;by_cases h1:e.1<1
  ·refine(alA.go ρ hf (by rw[hρ];rfl) (cg.app bb ⟨by rw[hρ];exact decide_eq_true h1,trivial⟩) ⟨by rw[hρ];exact mm.1,by rw[hρ];exact mm.2,trivial⟩).trans fun g1 w1 hd=>?_;obtain⟨I,B,bR,rfl,f1,F1,_⟩:=hd;rw[hρ]at F1;refine(leave1 N7 F1 rfl).mono fun g6 w6 dz=>?_;obtain⟨dK,rfl,rfl,hL⟩:=dz;refine⟨dK,(i:Int),rfl,fw.trans f1,hL,?_⟩;unfold kn;rw[decide_eq_true h1,decide_eq_true (by omega)];rfl
  ·by_cases h4:e.1>4
   ·refine(alB.go ρ hf (by rw[hρ];rfl) (cg.app bb ⟨by rw[hρ];exact decide_eq_false h1,by rw[hρ];exact decide_eq_true h4,trivial⟩) ⟨by rw[hρ];exact mm.1,by rw[hρ];exact mm.2,trivial⟩).trans fun g1 w1 hd=>?_;obtain⟨I,B,bR,rfl,f1,F1,_⟩:=hd;rw[hρ]at F1;refine(leave1 N7 F1 rfl).mono fun g6 w6 dz=>?_;obtain⟨dK,rfl,rfl,hL⟩:=dz;refine⟨dK,(i:Int),rfl,fw.trans f1,hL,?_⟩;unfold kn;rw[decide_eq_true h4,decide_eq_true (by omega),Bool.or_true];rfl
   ·refine(alC.go ρ hf (by rw[hρ];rfl) (cg.app bb ⟨by rw[hρ];exact decide_eq_false h1,by rw[hρ];exact decide_eq_false h4,trivial⟩) ⟨by rw[hρ];exact mm.1,by rw[hρ];exact mm.2,trivial⟩).trans fun g1 w1 hd=>?_;obtain⟨I,B,bR,rfl,f1,F1,_⟩:=hd;rw[hρ]at F1;have hb:kn e=false:=by unfold kn;rw[decide_eq_false h1,decide_eq_false h4];rfl
    rw[hb,Bool.false_or];refine Is (z:=false) (c:=c) (fun h=>by cases h) hel hlen m (i+1) (by omega) (fw.trans f1) ?_;rw[<-inc (i:=i) (by omega)];exact F1
theorem KA{s:Value}{E:List (Int×Int)}(h:ei w s E)(hlen:E.length≤4294967000):dV 69 #[s,ZR] w fun v w'=>bA w w'∧∃j,v=iV j∧decide (j≥0)=E.any kn:=by
 obtain⟨z,A,o,c,rfl,hz,oU,hel⟩:=h.ex;refine cI fun cs=>?_;obtain⟨ρ,hρ⟩:∃ρ:Env,ρ=bO [(81,E.length),(82,c),(83,o)] [(80,A)] []:=⟨_,rfl⟩;refine((al8 z).go ρ (dU ab0 rfl (ew z A o E.length c) ZR) (by rw[hρ];cases z<;>rfl) trivial trivial).trans fun g1 w1 hd=>?_;obtain⟨I,B,bR,rfl,f1,F1,_⟩:=hd;have fN:FA 69 19 AlH [] .normal [(0,ew z A o E.length c),(1,ZR),(7,iV E.length),(8,iV (0:Nat))] bR:=by
  rw[hρ]at F1;cases z with
  |false=>exact F1
  |true=>rw[hz rfl];exact F1
 refine(Is hz hel hlen E.length 0 (by omega) f1 fN).mono fun g2 w2 b_=>?_;obtain⟨cE,j,rfl,f2,hL,hj⟩:=b_;exact⟨cE,_,rfl,hL,f2,j,rfl,hj⟩
theorem Rt{s:Value}{E:List (Int×Int)}(h:ei w s E)(hlen:E.length≤4294967000):dV 45 #[s,ZR] w fun v w'=>bA w w'∧v=.bool (E.any kn):=by
 refine cI fun cs=>?_;refine(al5.go (bO [] [] [(0,s)]) (dU abY rfl s ZR) rfl trivial trivial).trans fun g1 w1 hd=>?_;obtain⟨I,B,bR,rfl,f1,F1,_⟩:=hd;refine(al6.go (bO [] [] [(5,s)]) (Q:=fun v w'=>∃j,v=iV j∧decide (j≥0)=E.any kn) F1 rfl fun w' f2=>KA (h.keep (f1.trans f2)) hlen).trans fun g2 w2 b_=>?_;obtain⟨cE,vv,rfl,f2,⟨j,rfl,hj⟩,F2⟩:=b_;have fin:∀{k:List Item} {w3:World} {cF:Frame} {b:Bool},b=E.any kn->bA w w3->FA 45 9 (.code .ret::k) [] .normal [(4,.bool b)] cF->Goes (G cF cs) w3 fun g' w'=>∃fr' v,g'=G fr' cs∧de 45 fr' w' v∧bA w w'∧v=.bool (E.any kn):=fun{k w3 cF b} hb f3 F3=>by refine(leave1 abZ F3 rfl).mono fun g6 w6 dz=>?_;obtain⟨dK,rfl,rfl,hL⟩:=dz;exact⟨dK,_,rfl,hL,f3,by rw[hb]⟩
 by_cases h0:j≥0
 ·refine(Rr.go (bO [(1,j)] [] []) F2 rfl ⟨decide_eq_true h0,trivial⟩ trivial).trans fun g3 w3 cv=>?_;obtain⟨I,B,cF,rfl,f3,F3,_⟩:=cv;exact fin (b:=true) (by rw[<-hj,decide_eq_true h0]) (f1.trans (f2.trans f3)) F3
 ·refine(N9.go (bO [(1,j)] [] []) F2 rfl ⟨decide_eq_false h0,trivial⟩ trivial).trans fun g3 w3 cv=>?_;obtain⟨I,B,cF,rfl,f3,F3,_⟩:=cv;exact fin (b:=false) (by rw[<-hj,decide_eq_false h0]) (f1.trans (f2.trans f3)) F3
theorem ei.take{s:Value}{E:List (Int×Int)}{k:Nat}{z:Bool}{A o c:Nat}(hs:s=ew z A o E.length c)(hz:z=true->E=[])(oU:z=false->E.length≤c)(hel:∀i e,E[i]?=some e->w.cell? ⟨A,o+i*2,none⟩=some (cY e.1)∧w.cell? ⟨A,o+i*2+1,none⟩=some (iV e.2))(hk:k≤E.length):ei w (ew z A o k c) (E.take k):=
 ⟨z,A,o,c,by rw[List.length_take,Nat.min_eq_left hk],fun h=>by rw[hz h,List.take_nil],fun h=>by
  rw[List.length_take,Nat.min_eq_left hk];exact ax hk (oU h),fun i e he=>hel i e (by
  rw[List.getElem?_take]at he;split at he
  ·exact he
  ·cases he)⟩
theorem Ru{s:Value}{E:List (Int×Int)}{k:Nat}(h:ei w s E)(hk:k≤E.length)(hlen:E.length≤4294967000):dV 27 #[s,iV k] w fun v w'=>bA w w'∧v=.bool (!(E.take k).any kn):=by
 obtain⟨z,A,o,c,hs,hz,oU,hel⟩:=h.ex;refine cI fun cs=>?_;refine(al1.go (bO [(1,k)] [] [(0,s)]) (dU abW rfl s (iV k)) rfl trivial trivial).trans fun g1 w1 hd=>?_;obtain⟨I,B,bR,rfl,f1,F1,_⟩:=hd;refine(al2.go (R:=fun y w'=>y=ew z A o k c∧w'=w1) (bO [] [] []) F1 (by decide) rfl fun tm ir x' e1 e2=>?_).trans fun g2 w2 b_=>?_
 ·unfold execOp;simp only[e1,bH,av,aM];rw[ir 5 s rfl,ir 6 (iV k) rfl,hs];exact qD agB agC hk (fun h=>by rw[hz h];rfl) oU ⟨_,rfl,rfl,rfl⟩
 obtain⟨cE,y,rfl,⟨rfl,rfl⟩,F2⟩:=b_;have hT:ei w2 (ew z A o k c) (E.take k):=ei.take hs hz oU (fun i e he=>⟨f1.cell (hel i e he).1,f1.cell (hel i e he).2⟩) hk;refine(al3.go (bO [] [] [(7,ew z A o k c)]) (Q:=fun v w'=>v=.bool ((E.take k).any kn)) F2 rfl fun w' f3=>Rt (hT.keep f3) (by rw[List.length_take];omega)).trans fun g3 w3 cv=>?_;obtain⟨cF,vv,rfl,f3,rfl,F3⟩:=cv;have fin:∀{kk:List Item} {w4:World} {eO:Frame} {b:Bool},b=(!(E.take k).any kn)->bA w w4->FA 27 10 (.code .ret::kk) [] .normal [(4,.bool b)] eO->Goes (G eO cs) w4 fun g' w'=>∃fr' v,g'=G fr' cs∧de 27 fr' w' v∧bA w w'∧v=.bool (!(E.take k).any kn):=fun{kk w3 cF b} hb f3 F3=>by refine(leave1 abX F3 rfl).mono fun g6 w6 dz=>?_;obtain⟨dK,rfl,rfl,hL⟩:=dz;exact⟨dK,_,rfl,hL,f3,by rw[hb]⟩
 cases hb:(E.take k).any kn with
 |true=>rw[hb]at F3 fin;refine(Rq.go (bO [] [] []) F3 rfl trivial trivial).trans fun g4 w4 dh=>?_;obtain⟨I,B,eO,rfl,f4,F4,_⟩:=dh;exact fin (b:=false) rfl (f1.trans (f3.trans f4)) F4
 |false=>rw[hb]at F3 fin;refine(N8.go (bO [] [] []) F3 rfl trivial trivial).trans fun g4 w4 dh=>?_;obtain⟨I,B,eO,rfl,f4,F4,_⟩:=dh;exact fin (b:=true) rfl (f1.trans (f3.trans f4)) F4
end
section
variable {w:World}{cs:List Frame}{fr:Frame}{fn nt i d:Nat}{ops:Array Oper}{l:List Nat}{k:List Item}{lv:List (Nat×Value)}{lA:List (Nat×AV)}{bs:List (BE×Bool)}{mem:List (AA×AV)}
theorem dH.di{a:AV}(o:dH nt ops i bs mem lA a d)(ρ:Env)(hf:FA fn nt (.inRegion ops (i::l)::k) [] .normal lv fr)(hdn:d<nt)(hl:∀p∈told ρ lA,p∈lv)(hb:cg ρ bs)(hm:cq ρ w mem){v:Value}(hv:a.ev ρ=v):
  Goes (G fr cs) w fun g' w'=>∃fr' v',g'=G fr' cs∧bA w w'∧v'=v∧FA fn nt (.inRegion ops l::k) [] .normal (fP d v' lv) fr':=
 (De (ρ:=ρ) hf (.inl rfl) hl o.want o.op o.low hb.mem hm.mem o.dst hdn o.Dg).mono fun g' w' hd=>by obtain⟨fr',h1,h2,h3⟩:=hd;exact⟨fr',_,h1,h2,hv,h3⟩
theorem dy.di{f:FuncId}{args:List AV}(o:dy nt ops i lA f args d)(ρ:Env){Q:Value->World->Prop}(hf:FA fn nt (.inRegion ops (i::l)::k) [] .normal lv fr)(hl:∀p∈told ρ lA,p∈lv)(h:∀w',bA w w'->dV f (AV.evs ρ args).toArray w' fun v w2=>bA w' w2∧Q v w2):
  Goes (G fr cs) w fun g' w'=>∃fr' v,g'=G fr' cs∧bA w w'∧Q v w'∧FA fn nt (.inRegion ops l::k) [] .normal (fP d v lv) fr':=
 (tB (ρ:=ρ) (bs:=[]) (mem:=[]) (Q:=fun v w2=>bA w w2∧Q v w2) hf hl o.want o.op o.low (nofun) (nofun) o.dst o.dlt o.Dg (fun w' f1=>(h w' f1).mono fun v w2 hd=>⟨f1.trans hd.1,hd.2⟩)).mono fun g' w' hd=>by obtain⟨fr',v,h1,h2,h3⟩:=hd;exact⟨fr',v,h1,h2.1,h2.2,h3⟩
theorem KB{e:Int×Int}{r:Nat}(o79:dy nt ops i [(r,.iface 97 (.bF r))] 127 [.bF r] d)(o82:dy nt ops i [(r,.iface 100 (.bF r))] 128 [.bF r] d)(hf:FA fn nt (.inRegion ops (i::l)::k) [] .normal lv fr)(hr:(r,gI e)∈lv):
  Goes (G fr cs) w fun g' w'=>∃fr' v',g'=G fr' cs∧bA w w'∧v'=dY e∧FA fn nt (.inRegion ops l::k) [] .normal (fP d v' lv) fr':=by
 obtain⟨t,p,h1,h2,h3⟩:=Ii (e:=e);have ep:(bO [] [] [(r,p)]).v r=p:=by show vc undef r [(r,p)]=p;simp[vc,Go.Proofs.YtmobbajggkjpgaaGreat.SX.look]
 have ea:AV.evs (bO [] [] [(r,p)]) [.bF r]=[p]:=by show[(bO [] [] [(r,p)]).v r]=[p];rw[ep]
 rcases h2 with rfl|rfl
 ·refine(o79.di (bO [] [] [(r,p)]) (Q:=fun v w'=>v=dY e) hf (fun q hq=>by
   obtain rfl:q=(r,Value.iface 97 ((bO [] [] [(r,p)]).v r)):=ah.1 hq;rw[ep,<-h1];exact hr) fun w' f=>?_).mono fun g' w' hd=>?_
  ·rw[ea];exact h3 w'
  ·obtain⟨fr',vv,h4,h5,h6,h7⟩:=hd;exact⟨fr',vv,h4,h5,h6,h7⟩
 ·refine(o82.di (bO [] [] [(r,p)]) (Q:=fun v w'=>v=dY e) hf (fun q hq=>by
   obtain rfl:q=(r,Value.iface 100 ((bO [] [] [(r,p)]).v r)):=ah.1 hq;rw[ep,<-h1];exact hr) fun w' f=>?_).mono fun g' w' hd=>?_
  ·rw[ea];exact h3 w'
  ·obtain⟨fr',vv,h4,h5,h6,h7⟩:=hd;exact⟨fr',vv,h4,h5,h6,h7⟩
end
noncomputable abbrev VS:Array Oper:=opsOf (nA 254)
noncomputable abbrev nB:List Item:=[.code (nA 3924),.inLoop (nA 3924),.inBlock 0,.code (nA 491),.code (nA 31)]
noncomputable abbrev FtH:List Item:=nB
def ftN(i:Nat):Nat:=bif Nat.beq i 5 then 8 else i+102
def ftV(V:Nat)(r e:Int×Int)(i:Nat)(v:Value)(w:World):Prop:=match i with
 |0=>v=bK V
 |1=>v=gI r
 |2=>v=dY r
 |3=>v=dY e
 |_=>v=.bool (decide (r=e))
theorem yh:VS.size=6:=by kernel_rfl
theorem ab7:((List.range 6).all fun i=>(jf VS i).all fun p=>Nat.blt p i)=true:=by kernel_rfl
theorem VT:BG (nA 254)=true:=by kernel_rfl
theorem Rv{i j:Nat}(hi:i<6)(hj:j<6)(h:ftN i=ftN j):i=j:=by rcases(by omega:i=0∨i=1∨i=2∨i=3∨i=4∨i=5)with rfl|rfl|rfl|rfl|rfl|rfl<;>rcases(by omega:j=0∨j=1∨j=2∨j=3∨j=4∨j=5)with rfl|rfl|rfl|rfl|rfl|rfl<;>first|rfl|cases h
section
variable {w w0:World}{cs:List Frame}{fr:Frame}{m:cV}
theorem Rx{V X:Nat}{r e:Int×Int}{k:List Item}(hc:∀w',bA w0 w'->dV 37 #[bK V,iV 0] w' fun v w2=>bA w' w2∧v=gI r)(h0:w0.cell? ⟨X,0,none⟩=some (cY e.1))(h1:w0.cell? ⟨X,1,none⟩=some (iV e.2)):
  ∀i,i<VS.size->∀(l:List Nat) (w:World) (fr:Frame) (lv:List (Nat×Value)),bA w0 w->FA 28 107 (.inRegion VS (i::l)::k) [] .normal lv fr->(∀x∈[(10,bK X),(16,bK V)],x∈lv)->(∀p∈jf VS i,∃v,(ftN p,v)∈lv∧ftV V r e p v w)->
   Goes (G fr cs) w fun g' w'=>∃fr' v,g'=G fr' cs∧bA w w'∧ftV V r e i v w'∧FA 28 107 (.inRegion VS l::k) [] .normal (fP (ftN i) v lv) fr':=by
 intro i hi l w fr lv f hf hb hp;rw[yh]at hi;have b10:((10,bK X):Nat×Value)∈lv:=hb _ (aj ..);have b16:((16,bK V):Nat×Value)∈lv:=hb _ (af _ (aj ..));rcases(by omega:i=0∨i=1∨i=2∨i=3∨i=4∨i=5)with rfl|rfl|rfl|rfl|rfl|rfl
 ·exact agw.di (bO [] [] [(16,bK V)]) hf (by decide) (fun q hq=>by obtain rfl:=ah.1 hq;exact b16) trivial trivial (v:=bK V) rfl
 ·obtain⟨v0,q0,e0⟩:=hp 0 (dI (by kernel_rfl));have e0:v0=bK V:=e0;subst e0;exact ft8.di (bO [] [] [(102,bK V)]) (Q:=fun v w'=>v=gI r) hf (fun q hq=>by obtain rfl:=ah.1 hq;exact q0) fun w' f1=>hc w' (f.trans f1)
 ·obtain⟨v1,q1,e1⟩:=hp 1 (dI (by kernel_rfl));have e1:v1=gI r:=e1;subst e1;exact KB (e:=r) agz agA hf q1
 ·exact agx.di (bO [(11,e.1),(12,e.2)] [(68,X)] []) hf (by decide) (fun q hq=>by obtain rfl:=ah.1 hq;exact b10) trivial ⟨f.cell h0,f.cell h1,trivial⟩ (v:=dY e) rfl
 ·obtain⟨v2,q2,e2⟩:=hp 2 (dI (by kernel_rfl));have e2:v2=dY r:=e2;subst e2;obtain⟨v3,q3,e3⟩:=hp 3 (dI (by kernel_rfl));have e3:v3=dY e:=e3;subst e3;have tl:∀p∈told (bO [(11,e.1),(12,e.2),(13,r.1),(14,r.2)] [] []) Ir,p∈lv:=fun q hq=>by
   simp only[told,aU,List.map_nil,ai,aA,or_false]at hq;rcases hq with rfl|rfl
   ·exact q2
   ·exact q3
  by_cases h:r.1=e.1
  ·by_cases h':r.2=e.2
   ·exact ab4.di (bO [(11,e.1),(12,e.2),(13,r.1),(14,r.2)] [] []) hf (by decide) tl ⟨decide_eq_true h,decide_eq_true h',trivial⟩ trivial (v:=.bool (decide (r=e))) (by rw[decide_eq_true (Prod.ext h h')];rfl)
   ·exact ab3.di (bO [(11,e.1),(12,e.2),(13,r.1),(14,r.2)] [] []) hf (by decide) tl ⟨decide_eq_true h,decide_eq_false h',trivial⟩ trivial (v:=.bool (decide (r=e))) (by rw[decide_eq_false fun hh=>h' (by rw[hh])];rfl)
  ·exact ab2.di (bO [(11,e.1),(12,e.2),(13,r.1),(14,r.2)] [] []) hf (by decide) tl ⟨decide_eq_false h,trivial⟩ trivial (v:=.bool (decide (r=e))) (by rw[decide_eq_false fun hh=>h (by rw[hh])];rfl)
 ·obtain⟨v4,q4,e4⟩:=hp 4 (dI (by kernel_rfl));have e4:v4=.bool (decide (r=e)):=e4;subst e4;exact agy.di (bO [] [] [(7,.bool (decide (r=e)))]) hf (by decide) (fun q hq=>by obtain rfl:q=(106,Value.bool (decide (r=e))):=ah.1 hq;exact q4) trivial trivial (v:=.bool (decide (r=e))) rfl
theorem Ry{V X:Nat}{r e:Int×Int}{k:List Item}(hc:∀w',bA w w'->dV 37 #[bK V,iV 0] w' fun v w2=>bA w' w2∧v=gI r)(h0:w.cell? ⟨X,0,none⟩=some (cY e.1))(h1:w.cell? ⟨X,1,none⟩=some (iV e.2))(hf:FA 28 107 (.code (nA 254)::k) [] .normal [(10,bK X),(16,bK V)] fr):
  Goes (G fr cs) w fun g' w'=>∃fr',g'=G fr' cs∧bA w w'∧FA 28 107 (.inRegion VS []::k) [] .normal [(8,.bool (decide (r=e)))] fr':=by
 obtain⟨id,hid⟩:=gS VT;rw[hid]at hf;refine(gQ hf).trans fun g1 w1 hd=>?_;obtain⟨ls,bR,rfl,f1,hs,F1⟩:=hd;refine(Dh (b:=[(10,bK X),(16,bK V)]) (nm:=ftN) (val:=ftV V r e) (w0:=w) (Nf yh ab7) (fun i hi x hx=>?_) (fun i j hi hj hne h=>?_) (fun i v w w' h f=>h) (Rx hc h0 h1) ls [] f1 (fun i hi=>by cases hi) hs ⟨_,F1,fun x hx=>hx,fun i hi=>by cases hi⟩).mono fun g2 w2 b_=>?_
 ·rw[yh]at hi;simp only[ai,aA,or_false]at hx;rcases hx with rfl|rfl<;>(rcases(by omega:i=0∨i=1∨i=2∨i=3∨i=4∨i=5)with rfl|rfl|rfl|rfl|rfl|rfl<;>exact fun h=>by cases h)
 ·rw[yh]at hi hj;exact hne (Rv hi hj h.symm)
 ·obtain⟨cE,lv,rfl,f2,F2,o7,hv⟩:=b_;obtain⟨v,q,hval⟩:=hv 5 (by rw[yh];decide);have hval:v=.bool (decide (r=e)):=hval;subst hval;exact⟨cE,rfl,f2,F2.sub fun x hx=>by obtain rfl:=ah.1 hx;exact q⟩
theorem VU:kM (⟨28,107,c_ 28 j6,[.code (bD Tryz.f28)],[],.run,.normal⟩:bW) (List.range 107)=⟨28,107,[.code (bD Tryz.f28)],[],.run,.normal,[],[],j6++List.replicate 103 Z⟩:=by kernel_rfl
end
noncomputable def q9(l:Nat):Code:=pc (bD Tryz.f10) (pd l)
theorem agE:bT Tryz.prog 10 [.bF 0,.bF 1,.bF 2] .normal=.ok ⟨10,47,c_ 10 [.bF 0,.bF 1,.bF 2],[.code (bD Tryz.f10)],[],.run,.normal⟩:=by kernel_rfl
theorem Oa:p6 10 47 6 7:=fun st=>by kernel_rfl
noncomputable def TM(l:Nat):Code:=pc (bD Tryz.f16) (pd l)
mutual
theorem nv.mono{N M:Nat}(h:N≤M):∀{t:T},nv N t->nv M t
 |.nd n ks,⟨h1,h2,h3,h4⟩=>⟨fun e=>by have:=h1 e;omega,h2,h3,lf.mono h h4⟩
theorem lf.mono{N M:Nat}(h:N≤M):∀{ts:List T},lf N ts->lf M ts
 |[],_=>trivial
 |t::ts,⟨h1,h2⟩=>⟨nv.mono h h1,lf.mono h h2⟩
end
noncomputable abbrev DG:List Item:=[.code (q9 244),.inLoop (q9 244),.inBlock 0,.code (q9 31)]
noncomputable abbrev FiH:List Item:=DG
structure Kind(st el sz by_:Nat)(zc:List AV):Prop where
 under:under? Tryz.prog st=.ok (.slice el)
 size:sizeOf? Tryz.prog el=.ok sz
 bytes:(Tryz.prog.info? el).map (fun i=>(i.size,i.bytes))=some (sz,by_)
 zero:(zero? Tryz.prog el).toOption.map AV.cells?=some (.ok zc)
 len:zc.length=sz
 pos:0<by_
theorem Rz:Kind 28 43 2 16 [i8 (.lit 0),i64 (.lit 0)]:=⟨by kernel_rfl,by kernel_rfl,by kernel_rfl,by kernel_rfl,rfl,by decide⟩
structure agF(w:World)(U:Nat->Prop)(s:Value)(l:List Nd):Prop where
 ex:∃(z:Bool) (A o c:Nat),s=ew z A o l.length c∧(z=true->l=[])∧(z=false->U A∧A<w.heap.size∧l.length≤c)∧∀i n,l[i]?=some n->iI w A (o+i*4) n
theorem cK.hd{w:World}{s:Value}{l:List Nd}(h:cK w s l):∃(z:Bool) (A o c:Nat),s=ew z A o l.length c∧(z=true->l=[])∧(z=false->l.length≤c)∧∀i n,l[i]?=some n->iI w A (o+i*4) n:=by
 rcases h.ex with⟨h1,h2⟩|⟨A,o,c,h1,h2,h3⟩
 ·exact⟨true,0,0,0,h1,fun _=>h2,(fun h=>by cases h),fun i n hi=>by rw[h2]at hi;cases hi⟩
 ·exact⟨false,A,o,c,h1,(fun h=>by cases h),fun _=>h2,h3⟩
structure iu(w:World)(s:Value)(l:List Nd):Prop where
 ex:cK w s l∨(l=[]∧∃a c,s=.slice a 0 c)
structure og(w:World)(A o:Nat)(x:cx):Prop where
 ex:∃ts,w.cell? ⟨A,o,none⟩=some (.string x.name)∧w.cell? ⟨A,o+1,none⟩=some ts∧w.cell? ⟨A,o+2,none⟩=some (iV x.cj)∧iu w ts x.tree
structure nN(w:World)(s:Value)(L:List cx):Prop where
 ex:∃(z:Bool) (A o c:Nat),s=ew z A o L.length c∧(z=true->L=[])∧(z=false->L.length≤c)∧∀i x,L[i]?=some x->og w A (o+i*3) x
def mK(w:World)(x:Value)(F:iG):Prop:=∃ls os,x=.agg #[ls,os]∧nN w ls F.lets∧jq w os F.outs
theorem iu.keep{w w':World}{s:Value}{l:List Nd}(h:iu w s l)(f:bA w w'):iu w' s l:=⟨h.ex.imp (fun h=>h.keep f) id⟩
theorem og.keep{w w':World}{A o:Nat}{x:cx}(h:og w A o x)(f:bA w w'):og w' A o x:=by obtain⟨ts,h1,h2,h3,h4⟩:=h.ex;exact⟨ts,f.cell h1,f.cell h2,f.cell h3,h4.keep f⟩
theorem nN.keep{w w':World}{s:Value}{L:List cx}(h:nN w s L)(f:bA w w'):nN w' s L:=by obtain⟨z,A,o,c,h1,h2,h3,h4⟩:=h.ex;exact⟨z,A,o,c,h1,h2,h3,fun i x hi=>(h4 i x hi).keep f⟩
theorem mK.keep{w w':World}{x:Value}{F:iG}(h:mK w x F)(f:bA w w'):mK w' x F:=by obtain⟨ls,os,h1,h2,h3⟩:=h;exact⟨ls,os,h1,h2.keep f,h3.keep f⟩
theorem vn{ops:Array Oper}(hp:∀i,i<ops.size->∀p∈jf ops i,p<i):∀(late:List Nat) {r l:List Nat},jl ops r l->(∀i,i<ops.size->i∈r∨i∈late)->(∀i∈late,i<ops.size∧i∉r)->late.Pairwise (fun a b=>a≠b∧a∈jf ops b)->l=late
 |[],r,l,hs,h1,h2,h3=>by
  cases l with
  |nil=>rfl
  |cons i l=>
   obtain⟨q1,q2,q3⟩:=qz hs.1;rcases h1 i q1 with h|h
   ·exact(q2 h).elim
   ·cases h
 |a::late,r,l,hs,h1,h2,h3=>by
  obtain⟨ha,har⟩:=h2 a (aj ..);cases l with
  |nil=>exact(har (r8 hp hs a ha)).elim
  |cons i l=>
   obtain⟨q1,q2,q3⟩:=qz hs.1;have hia:i=a:=by
    rcases h1 i q1 with h|h
    ·exact(q2 h).elim
    ·rcases ai.1 h with h|h
     ·exact h
     ·have:=(List.pairwise_cons.1 h3).1 i h;exact(har (q3 a this.2)).elim
   subst hia;have:=vn hp late (r:=i::r) (l:=l) hs.2 (fun j hj=>?_) (fun j hj=>?_) (List.pairwise_cons.1 h3).2
   ·rw[this]
   ·rcases h1 j hj with h|h
    ·exact .inl (af _ h)
    ·rcases ai.1 h with rfl|h
     ·exact .inl (aj ..)
     ·exact .inr h
   ·refine⟨(h2 j (af _ hj)).1,fun h=>?_⟩;rcases ai.1 h with rfl|h
    ·exact((List.pairwise_cons.1 h3).1 j hj).1 rfl
    ·exact(h2 j (af _ hj)).2 h
section
variable {fn nt n:Nat}{ops:Array Oper}{k:List Item}{b:List (Nat×Value)}{cs:List Frame}
theorem iw{nm:Nat->Nat}{val:Nat->Value->World->Prop}{early:Nat->Bool}{late:List Nat}(hsz:ops.size=n)(h1:((List.range n).all fun i=>(jf ops i).all fun p=>Nat.blt p i)=true)(h2:((List.range n).all fun i=>early i||((List.range n).all fun j=>!early j||(jf ops i).contains j))=true)(h3:((List.range n).all fun i=>(b.map (·.1)).all fun x=>!Nat.beq x (nm i))=true)(h4:((List.range n).all fun i=>(List.range n).all fun j=>Nat.beq i j||!Nat.beq (nm j) (nm i))=true)(h5:((List.range n).all fun i=>early i||late.contains i)=true)(h6:(late.all fun i=>Nat.blt i n&&!early i)=true)(h7:late.Pairwise (fun a b=>a≠b∧a∈jf ops b))
 (keep:∀i v w w',val i v w->bA w w'->val i v w'){w0:World}
 (step:∀i,i<n->early i=true->∀(l:List Nat) (w:World) (fr:Frame) (lv:List (Nat×Value)),bA w0 w->FA fn nt (.inRegion ops (i::l)::k) [] .normal lv fr->(∀x∈b,x∈lv)->(∀p∈jf ops i,∃v,(nm p,v)∈lv∧val p v w)->
   Goes (G fr cs) w fun g' w'=>∃fr' v,g'=G fr' cs∧bA w w'∧val i v w'∧FA fn nt (.inRegion ops l::k) [] .normal (fP (nm i) v lv) fr'):
  ∀(l r:List Nat) {w:World} {fr:Frame},bA w0 w->(∀i∈r,i<n∧early i=true)->jl ops r l->DrG fn nt ops k b nm val r l fr w->Goes (G fr cs) w fun g' w'=>∃fr' lv,g'=G fr' cs∧bA w0 w'∧FA fn nt (.inRegion ops late::k) [] .normal lv fr'∧(∀x∈b,x∈lv)∧∀i,i<n->early i=true->∃v,(nm i,v)∈lv∧val i v w':=by
 have hp:=Nf hsz h1;have stop:∀{l r:List Nat} {w:World} {fr:Frame},bA w0 w->(∀i∈r,i<n∧early i=true)->(∀i,i<n->early i=true->i∈r)->jl ops r l->DrG fn nt ops k b nm val r l fr w->Goes (G fr cs) w fun g' w'=>∃fr' lv,g'=G fr' cs∧bA w0 w'∧FA fn nt (.inRegion ops late::k) [] .normal lv fr'∧(∀x∈b,x∈lv)∧∀i,i<n->early i=true->∃v,(nm i,v)∈lv∧val i v w':=fun{l r w fr} fw hr hall hs D=>by
  have ZS:l=late:=vn hp late hs (fun i hi=>by
   rw[hsz]at hi;have:=aE.1 h5 i (List.mem_range.2 hi);simp only[Bool.or_eq_true]at this;rcases this with h|h
   ·exact .inl (hall i hi h)
   ·exact .inr (by simpa using h)) (fun i hi=>by
   have:=aE.1 h6 i hi;simp only[aq,Bool.not_eq_true']at this;refine⟨by rw[hsz];exact Nat.blt_eq.mp this.1,fun h=>?_⟩;have:=(hr i h).2
   simp_all) h7
  subst ZS;obtain⟨lv,g1,g2,g3⟩:=D.ex;exact .here ⟨fr,lv,rfl,fw,g1,g2,fun i hi he=>g3 i (hall i hi he)⟩
 intro l
 induction l with
 |nil=>intro r w fr fw hr hs D;exact stop fw hr (fun i hi he=>r8 hp hs i (by rw[hsz];exact hi)) hs D
 |cons i l ih=>
  intro r w fr fw hr hs D;obtain⟨q1,q2,q3⟩:=qz hs.1;rw[hsz]at q1;cases he:early i with
  |false=>refine stop fw hr (fun j hj hje=>?_) hs D;have:=aE.1 h2 i (List.mem_range.2 q1);rw[he,Bool.false_or]at this;have:=aE.1 this j (List.mem_range.2 hj);rw[hje]at this;exact q3 j (by simpa using this)
  |true=>
   obtain⟨lv,g1,g2,g3⟩:=D.ex;refine(step i q1 he l w fr lv fw g1 g2 fun p ZL=>g3 p (q3 p ZL)).trans fun g1 w1 hd=>?_;obtain⟨bR,v,rfl,f1,hv,F1⟩:=hd;have Ce:∀x∈b,x.1≠nm i:=fun x hx h=>by have:=aE.1 h3 i (List.mem_range.2 q1);have:=aE.1 this x.1 (bf.2 ⟨x,hx,rfl⟩);rw[h]at this;simp at this
   refine ih (i::r) (fw.trans f1) (fun j hj=>?_) hs.2 ⟨_,F1,fun x hx=>?_,fun j hj=>?_⟩
   ·rcases ai.1 hj with rfl|hj
    ·exact⟨q1,he⟩
    ·exact hr j hj
   ·exact af _ (aO.2 ⟨g2 x hx,by simpa using Ce x hx⟩)
   ·rcases ai.1 hj with rfl|hj
    ·exact⟨v,aj ..,hv⟩
    ·obtain⟨u,h8,h9⟩:=g3 j hj;refine⟨u,af _ (aO.2 ⟨h8,?_⟩),keep _ _ _ _ h9 f1⟩;have hne:i≠j:=fun e=>q2 (e▸hj);have:=aE.1 h4 i (List.mem_range.2 q1);have:=aE.1 this j (List.mem_range.2 (hr j hj).1);simp only[Bool.or_eq_true,Bool.not_eq_true']at this;rcases this with h|h
     ·exact(hne (aJ h)).elim
     ·have:nm j≠nm i:=fun e=>by rw[e]at h;simp at h
      simpa using this
end
noncomputable def q5(l:Nat):Code:=pc (bD Tryz.f5) (pd l)
theorem agG:bT Tryz.prog 5 [.bF 0] .normal=.ok ⟨5,28,c_ 5 [.bF 0],[.code (bD Tryz.f5)],[],.run,.normal⟩:=by kernel_rfl
theorem VV:dL 5 28 2:=fun st=>by kernel_rfl
noncomputable def VW(l:Nat):Code:=pc (bD Tryz.f6) (pd l)
theorem ab9:bT Tryz.prog 6 [.bF 0] .normal=.ok ⟨6,5,c_ 6 [.bF 0],[.code (bD Tryz.f6)],[],.run,.normal⟩:=by kernel_rfl
theorem ab_:dL 6 5 2:=fun st=>by kernel_rfl
noncomputable def qe(l:Nat):Code:=pc (bD Tryz.f18) (pd l)
theorem ab':bT Tryz.prog 18 [.bF 0] .normal=.ok ⟨18,41,c_ 18 [.bF 0],[.code (bD Tryz.f18)],[],.run,.normal⟩:=by kernel_rfl
theorem TN:dL 18 41 2:=fun st=>by kernel_rfl
theorem lg1:Pc 6 5 [.code (bD Tryz.f6)] ([(0,i64 (v 1))]) [] [] [] 10 [] [2] [.code .ret] [.bool (.cmp .gtr (v 1) (.lit 2147483647))] []:={}
noncomputable abbrev oh:List Item:=[.code (qe 116),.inLoop (qe 116),.inBlock 0,.code (qe 15)]
theorem acd:Pc 18 41 [.code (bD Tryz.f18)] ([(0,.agg [sA 50 53 51 52,sA 60 66 67 68])]) [] [] [] 23 [100] [1,3,4] oh [bC 100,i64 (.op .add .i64 (.tn (v 51)) (.tn (v 67))),i64 (.lit 0)] [(100,.cells [sA 50 53 51 52,sA 60 66 67 68] 25)]:={}
theorem ace:Pc 18 41 [.code (bD Tryz.f18)] ([(0,.agg [cn,sA 60 66 67 68])]) [] [] [] 23 [100] [1,3,4] oh [bC 100,i64 (.op .add .i64 (.lit 0) (.tn (v 67))),i64 (.lit 0)] [(100,.cells [cn,sA 60 66 67 68] 25)]:={}
theorem acf:Pc 18 41 [.code (bD Tryz.f18)] ([(0,.agg [sA 50 53 51 52,cn])]) [] [] [] 23 [100] [1,3,4] oh [bC 100,i64 (.op .add .i64 (.tn (v 51)) (.lit 0)),i64 (.lit 0)] [(100,.cells [sA 50 53 51 52,cn] 25)]:={}
theorem acg:Pc 18 41 [.code (bD Tryz.f18)] ([(0,.agg [cn,cn])]) [] [] [] 23 [100] [1,3,4] oh [bC 100,i64 (.lit 0),i64 (.lit 0)] [(100,.cells [cn,cn] 25)]:={}
theorem sz2(y:Bool):Pc 18 41 oh ([(1,bC 64),(3,i64 (v 7)),(4,i64 (v 10)),(0,.bF 0),(2,.bF 2),(5,.bF 5),(6,.bF 6),(7,.bF 7),(8,.bF 8),(9,.bF 9),(10,.bF 10),(11,.bF 11),(12,.bF 12),(13,.bF 13),(14,.bF 14),(15,.bF 15),(16,.bF 16),(17,.bF 17),(18,.bF 18),(19,.bF 19),(20,.bF 20),(21,.bF 21),(22,.bF 22),(23,.bF 23),(24,.bF 24),(25,.bF 25),(26,.bF 26),(27,.bF 27),(28,.bF 28),(29,.bF 29),(30,.bF 30),(31,.bF 31),(32,.bF 32),(33,.bF 33),(34,.bF 34),(35,.bF 35),(36,.bF 36),(37,.bF 37),(38,.bF 38),(39,.bF 39),(40,.bF 40)]) (fo 10 51++[((.cmp .leq (v 7) (.lit 2147483647)),true)]) [(eD 64 0,sA 50 53 51 52),(eB 50 53 10 3,ss 1),(eA 50 53 10 3 1,cU y 70 73 71 72)] [] 25 [] [1,3,4] oh [bC 64,i64 (.op .add .i64 (.op .add .i64 (v 7) (.jH (.var 1))) (dO y 71)),i64 (.op .add .i64 (v 10) (.lit 1))] []:=Pc.full (fun st=>by cases y<;>kernel_rfl) (by cases y<;>kernel_rfl) (by cases y<;>kernel_rfl) (by cases y<;>kernel_rfl) (of_decide_eq_true (by kernel_rfl))
noncomputable abbrev It:List (Nat×AV):=[(1,bC 64),(3,i64 (v 7)),(4,i64 (v 10))]
theorem sz3(z:Bool):Pc 18 41 oh (It) [((.cmp .lss (v 10) (dO z 51)),false)] [(eD 64 0,cU z 50 53 51 52)] [] 20 [] [2] [.code .ret] [i64 (v 7)] []:=by cases z<;>exact{}
noncomputable abbrev DI:List (AA×AV):=[(eD 64 0,sA 50 53 51 52)]
theorem sz4:Pc 18 41 oh (It) [((.cmp .lss (v 10) (.tn (v 51))),true),((.cmp .leq (v 7) (.lit 2147483647)),false)] DI [] 20 [] [2] [.code .ret] [i64 (v 7)] []:={}
theorem wd1(z:Bool):Pc 5 28 [.code (bD Tryz.f5)] ([(0,.agg [cU z 50 53 51 52,.bF 9])]) [] [] [] 9 [100] [1,4] [.inRegion (opsOf (q5 12)) [1,2,3,4,5,6,7,8],.code (q5 13),.code (q5 7)] [bC 100,.agg [cU z 50 53 51 52,.bF 9]] [(100,.cells [cU z 50 53 51 52,.bF 9] 25)]:=by cases z<;>exact{}
theorem wd2:dy 28 (opsOf (q5 12)) 1 [(4,.bF 4)] 18 [.bF 4] 5:={}
theorem wd3:dy 28 (opsOf (q5 12)) 2 [(5,.bF 5)] 6 [.bF 5] 6:={}
noncomputable abbrev Ob:List Item:=[.inRegion (opsOf (q5 12)) [3,4,5,6,7,8],.code (q5 13),.code (q5 7)]
theorem wd4:Pc 5 28 Ob ([(1,bC 64),(6,TB)]) [] [] [] 12 [] [2] [.code .ret,.code (q5 7)] [TB] []:={}
theorem wd5:Pc 5 28 Ob ([(1,bC 64),(6,FB)]) [((.cmp .gtr (.tn (v 51)) (.lit 256)),true)] DI [] 12 [] [2] [.code .ret,.code (q5 7)] [TB] []:={}
noncomputable abbrev vo:List Item:=[.code (q5 116),.inLoop (q5 116),.inBlock 0,.code (q5 15)]
theorem wd6(z:Bool):Pc 5 28 Ob ([(1,bC 64),(6,FB)]) [((.cmp .gtr (dO z 51) (.lit 256)),false)] [(eD 64 0,cU z 50 53 51 52)] [] 16 [] [1,3] vo [bC 64,i64 (.lit 0)] []:=by cases z<;>exact{}
noncomputable abbrev Iu:List (Nat×AV):=[(1,bC 64),(3,i64 (v 10))]
theorem RA:Pc 5 28 vo (Iu) (fo 10 51++[((.cmp .gtr (.tn (v 71)) (.lit 1024)),true)]) [(eD 64 0,sA 50 53 51 52),(eA 50 53 10 3 1,sA 70 73 71 72)] [] 29 [] [2] [.code .ret,.inBlock 1,.code (q5 467),.inLoop (q5 116),.inBlock 0,.code (q5 15)] [TB] []:={}
noncomputable abbrev Iv:List AV:=[bC 64,i64 (.op .add .i64 (v 10) (.lit 1))]
theorem Oc(y:Bool):Pc 5 28 vo (Iu) (fo 10 51++[((.cmp .gtr (dO y 71) (.lit 1024)),false)]) [(eD 64 0,sA 50 53 51 52),(eA 50 53 10 3 1,cU y 70 73 71 72)] [] 33 [] [1,3] vo Iv []:=by cases y<;>exact{}
theorem agH(a:Option Addr)(c:Nat):Pc 5 28 vo (Iu) (fo 10 51++[((.cmp .gtr (.lit 0) (.lit 1024)),false)]) [(eD 64 0,sA 50 53 51 52),(eA 50 53 10 3 1,.raw (.slice a 0 c))] [] 33 [] [1,3] vo Iv []:={}
theorem wd9(z:Bool):Pc 5 28 vo (Iu) [((.cmp .lss (v 10) (dO z 51)),false)] [(eD 64 0,cU z 50 53 51 52)] [] 15 [] [2] [.code .ret] [FB] []:=by cases z<;>exact{}
theorem sw1:Pc 18 41 oh (It) (fo 10 51++[((.cmp .leq (v 7) (.lit 2147483647)),true)]) [(eD 64 0,sA 50 53 51 52),(eB 50 53 10 3,.ss (.var 1)),(eA 50 53 10 3 1,.bF 70)] [] 17 [] [1,3,4] [.code (qe 932),.inBlock 1,.code (qe 467),.inLoop (qe 116),.inBlock 0,.code (qe 15)] [bC 64,i64 (v 7),i64 (v 10)] []:={}
theorem agI:dH 41 (opsOf (qe 932)) 0 [] [] [(3,i64 (v 7))] (i64 (v 7)) 23:={}
theorem agJ:dH 41 (opsOf (qe 932)) 1 [] [] [(1,bC 64)] (bC 64) 24:={}
theorem agK:dH 41 (opsOf (qe 932)) 2 [] DI [(24,bC 64)] (sA 50 53 51 52) 25:={}
theorem agL:dH 41 (opsOf (qe 932)) 3 [] [] [(4,i64 (v 10))] (i64 (v 10)) 26:={}
theorem agM:dH 41 (opsOf (qe 932)) 4 (fo 10 51) [] [(25,sA 50 53 51 52),(26,i64 (v 10))] (.ptr (some (eB 50 53 10 3))) 27:={}
theorem agN:dH 41 (opsOf (qe 932)) 5 [] [] [(27,.ptr (some (eB 50 53 10 3)))] (.ptr (some (eB 50 53 10 3))) 28:={}
theorem agO:dH 41 (opsOf (qe 932)) 6 [] [(eB 50 53 10 3,.ss (.var 1))] [(28,.ptr (some (eB 50 53 10 3)))] (.ss (.var 1)) 29:={}
theorem agP:dH 41 (opsOf (qe 932)) 7 [] [] [(29,.ss (.var 1))] (i64 (.jH (.var 1))) 30:={}
theorem agQ:dH 41 (opsOf (qe 932)) 8 [] [] [(23,i64 (v 7)),(30,i64 (v 8))] (i64 (.op .add .i64 (v 7) (v 8))) 31:={}
theorem agR:dH 41 (opsOf (qe 932)) 9 [] [] [(1,bC 64)] (bC 64) 32:={}
theorem ach:dH 41 (opsOf (qe 932)) 10 [] DI [(32,bC 64)] (sA 50 53 51 52) 33:={}
theorem aci:dH 41 (opsOf (qe 932)) 11 [] [] [(4,i64 (v 10))] (i64 (v 10)) 34:={}
theorem acj:dH 41 (opsOf (qe 932)) 12 (fo 10 51) [] [(33,sA 50 53 51 52),(34,i64 (v 10))] (.ptr (some (eB 50 53 10 3))) 35:={}
theorem ack:dH 41 (opsOf (qe 932)) 13 [] [] [(35,.ptr (some (eB 50 53 10 3)))] (.ptr (some (eA 50 53 10 3 1))) 36:={}
theorem acm:dH 41 (opsOf (qe 932)) 14 [] [(eA 50 53 10 3 1,.bF 70)] [(36,.ptr (some (eA 50 53 10 3 1)))] (.bF 70) 37:={}
theorem acn(a:Option Addr)(c:Nat):dH 41 (opsOf (qe 932)) 15 [] [] [(37,.raw (.slice a 0 c))] (i64 (.lit 0)) 38:={}
theorem aco:dH 41 (opsOf (qe 932)) 16 [] [] [(31,i64 (v 8)),(38,i64 (v 9))] (i64 (.op .add .i64 (v 8) (v 9))) 39:={}
theorem acp:dH 41 (opsOf (qe 932)) 17 [] [] [(39,i64 (v 8))] (i64 (v 8)) 3:={}
theorem agS:Pc 18 41 [.inRegion (opsOf (qe 932)) [],.inBlock 1,.code (qe 467),.inLoop (qe 116),.inBlock 0,.code (qe 15)] (It) [] [] [] 8 [] [1,3,4] oh [bC 64,i64 (v 7),i64 (.op .add .i64 (v 10) (.lit 1))] []:={}
noncomputable abbrev dW:Array Oper:=opsOf (qe 932)
noncomputable abbrev SzT:List Item:=[.inBlock 1,.code (qe 467),.inLoop (qe 116),.inBlock 0,.code (qe 15)]
def nW(i:Nat):Nat:=if i=17 then 200 else i+23
def vW(X A o c L i:Nat)(s:Int)(nm:ByteArray)(a:Option Addr)(c' j:Nat)(v:Value):Prop:=match j with
 |0=>v=iV s
 |1=>v=bK X
 |2=>v=bS A o L c
 |3=>v=iV i
 |4=>v=.pointer (some ⟨A,o+i*3,none⟩)
 |5=>v=.pointer (some ⟨A,o+i*3,none⟩)
 |6=>v=.string nm
 |7=>∃n,v=iV n
 |8=>∃n,v=iV n
 |9=>v=bK X
 |10=>v=bS A o L c
 |11=>v=iV i
 |12=>v=.pointer (some ⟨A,o+i*3,none⟩)
 |13=>v=.pointer (some ⟨A,o+i*3+1,none⟩)
 |14=>v=.slice a 0 c'
 |15=>v=iV 0
 |_=>∃n,v=iV n
section
variable {w w0:World}{cs:List Frame}{fr:Frame}
theorem RB{X A o c L i:Nat}{s:Int}{nm:ByteArray}{a:Option Addr}{c':Nat}{k:List Item}(hX:w0.cell? ⟨X,0,none⟩=some (bS A o L c))(c0:w0.cell? ⟨A,o+i*3,none⟩=some (.string nm))(c1:w0.cell? ⟨A,o+i*3+1,none⟩=some (.slice a 0 c'))(hlt:i<L):
  ∀j,j<18->Nat.blt j 17=true->∀(l:List Nat) (w:World) (fr:Frame) (lv:List (Nat×Value)),bA w0 w->FA 18 41 (.inRegion dW (j::l)::k) [] .normal lv fr->(∀x∈[(1,bK X),(3,iV s),(4,iV i)],x∈lv)->(∀p∈jf dW j,∃v,(nW p,v)∈lv∧vW X A o c L i s nm a c' p v)->
   Goes (G fr cs) w fun g' w'=>∃fr' v,g'=G fr' cs∧bA w w'∧vW X A o c L i s nm a c' j v∧FA 18 41 (.inRegion dW l::k) [] .normal (fP (nW j) v lv) fr':=by
 intro j hj he l w fr lv f hf hb hp;have b1:((1,bK X):Nat×Value)∈lv:=hb _ (by simp);have b3:((3,iV s):Nat×Value)∈lv:=hb _ (by simp);have b4:((4,iV i):Nat×Value)∈lv:=hb _ (by simp);have one:∀{q:Nat×Value} {k:Nat} {v:Value},(k,v)∈lv->q∈[(k,v)]->q∈lv:=fun h hq=>by obtain rfl:=ah.1 hq;exact h
 have he:=Nat.blt_eq.mp he;obtain⟨ρ,hρ⟩:∃ρ:Env,ρ=Go.Proofs.YtmobbajggkjpgaaGreat.SX.iS [(51,L),(52,c),(53,o),(10,i),(7,s)] [(64,X),(50,A)] [(70,.slice a 0 c')] [(1,nm)]:=⟨_,rfl⟩;have lt:=bX (ρ:=ρ) (i:=10) (n:=51) (I:=i) (N:=L) (by rw[hρ];rfl) (by rw[hρ];rfl) hlt;rcases(by omega:j=0∨j=1∨j=2∨j=3∨j=4∨j=5∨j=6∨j=7∨j=8∨j=9∨j=10∨j=11∨j=12∨j=13∨j=14∨j=15∨j=16)with rfl|rfl|rfl|rfl|rfl|rfl|rfl|rfl|rfl|rfl|rfl|rfl|rfl|rfl|rfl|rfl|rfl
 ·exact agI.di ρ hf (by decide) (fun q hq=>by rw[hρ]at hq;exact one b3 hq) trivial trivial (by rw[hρ];rfl)
 ·exact agJ.di ρ hf (by decide) (fun q hq=>by rw[hρ]at hq;exact one b1 hq) trivial trivial (by rw[hρ];rfl)
 ·obtain⟨v1,q1,e1⟩:=hp 1 (dI (by kernel_rfl));have e1:v1=bK X:=e1;subst e1;exact agK.di ρ hf (by decide) (fun q hq=>by rw[hρ]at hq;exact one q1 hq) trivial ⟨by rw[hρ];exact f.cell hX,trivial⟩ (by rw[hρ];rfl)
 ·exact agL.di ρ hf (by decide) (fun q hq=>by rw[hρ]at hq;exact one b4 hq) trivial trivial (by rw[hρ];rfl)
 ·obtain⟨v2,q2,e2⟩:=hp 2 (dI (by kernel_rfl));have e2:v2=bS A o L c:=e2;subst e2;obtain⟨v3,q3,e3⟩:=hp 3 (dI (by kernel_rfl));have e3:v3=iV i:=e3;subst e3;exact agM.di ρ hf (by decide) (fun q hq=>by
   rw[hρ]at hq;rcases ai.1 hq with rfl|hq
   ·exact q2
   ·exact one q3 hq) lt trivial (by rw[hρ];rfl)
 ·obtain⟨v4,q4,e4⟩:=hp 4 (dI (by kernel_rfl));have e4:v4=.pointer (some ⟨A,o+i*3,none⟩):=e4;subst e4;exact agN.di ρ hf (by decide) (fun q hq=>by rw[hρ]at hq;exact one q4 hq) trivial trivial (by rw[hρ];rfl)
 ·obtain⟨v5,q5,e5⟩:=hp 5 (dI (by kernel_rfl));have e5:v5=.pointer (some ⟨A,o+i*3,none⟩):=e5;subst e5;exact agO.di ρ hf (by decide) (fun q hq=>by rw[hρ]at hq;exact one q5 hq) trivial ⟨by rw[hρ];exact f.cell c0,trivial⟩ (by rw[hρ];rfl)
 ·obtain⟨v6,q6,e6⟩:=hp 6 (dI (by kernel_rfl));have e6:v6=.string nm:=e6;subst e6;refine(agP.di ρ hf (by decide) (fun q hq=>by rw[hρ]at hq;exact one q6 hq) trivial trivial rfl).mono fun g' w' hd=>?_;obtain⟨fr',v',h1,h2,h3,h4⟩:=hd;exact⟨fr',_,h1,h2,⟨_,h3⟩,h4⟩
 ·obtain⟨v0,q0,e0⟩:=hp 0 (dI (by kernel_rfl));have e0:v0=iV s:=e0;subst e0;obtain⟨v7,q7,n7,e7⟩:=hp 7 (dI (by kernel_rfl));subst e7;refine(agQ.di (bO [(7,s),(8,n7)] [] []) hf (by decide) (fun q hq=>by
   rcases ai.1 hq with rfl|hq
   ·exact q0
   ·exact one q7 hq) trivial trivial rfl).mono fun g' w' hd=>?_
  obtain⟨fr',v',h1,h2,h3,h4⟩:=hd;exact⟨fr',_,h1,h2,⟨_,h3⟩,h4⟩
 ·exact agR.di ρ hf (by decide) (fun q hq=>by rw[hρ]at hq;exact one b1 hq) trivial trivial (by rw[hρ];rfl)
 ·obtain⟨v9,q9,e9⟩:=hp 9 (dI (by kernel_rfl));have e9:v9=bK X:=e9;subst e9;exact ach.di ρ hf (by decide) (fun q hq=>by rw[hρ]at hq;exact one q9 hq) trivial ⟨by rw[hρ];exact f.cell hX,trivial⟩ (by rw[hρ];rfl)
 ·exact aci.di ρ hf (by decide) (fun q hq=>by rw[hρ]at hq;exact one b4 hq) trivial trivial (by rw[hρ];rfl)
 ·obtain⟨v10,Gu,p_⟩:=hp 10 (dI (by kernel_rfl));have p_:v10=bS A o L c:=p_;subst p_;obtain⟨v11,TM,zB⟩:=hp 11 (dI (by kernel_rfl));have zB:v11=iV i:=zB;subst zB;exact acj.di ρ hf (by decide) (fun q hq=>by
   rw[hρ]at hq;rcases ai.1 hq with rfl|hq
   ·exact Gu
   ·exact one TM hq) lt trivial (by rw[hρ];rfl)
 ·obtain⟨v12,sj,BJ⟩:=hp 12 (dI (by kernel_rfl));have BJ:v12=.pointer (some ⟨A,o+i*3,none⟩):=BJ;subst BJ;exact ack.di ρ hf (by decide) (fun q hq=>by rw[hρ]at hq;exact one sj hq) trivial trivial (by rw[hρ];rfl)
 ·obtain⟨VX,zD,BI⟩:=hp 13 (dI (by kernel_rfl));have BI:VX=.pointer (some ⟨A,o+i*3+1,none⟩):=BI;subst BI;exact acm.di ρ hf (by decide) (fun q hq=>by rw[hρ]at hq;exact one zD hq) trivial ⟨by rw[hρ];exact f.cell c1,trivial⟩ (by rw[hρ];rfl)
 ·obtain⟨v14,q14,Nx⟩:=hp 14 (dI (by kernel_rfl));have Nx:v14=.slice a 0 c':=Nx;subst Nx;exact(acn a c').di (bO [] [] []) hf (by decide) (fun q hq=>one q14 hq) trivial trivial rfl
 ·obtain⟨v8,q8,n8,e8⟩:=hp 8 (dI (by kernel_rfl));subst e8;obtain⟨v15,q15,Ny⟩:=hp 15 (dI (by kernel_rfl));have Ny:v15=iV 0:=Ny;subst Ny;refine(aco.di (bO [(8,n8),(9,0)] [] []) hf (by decide) (fun q hq=>by
   rcases ai.1 hq with rfl|hq
   ·exact q8
   ·exact one q15 hq) trivial trivial rfl).mono fun g' w' hd=>?_
  obtain⟨fr',v',h1,h2,h3,h4⟩:=hd;exact⟨fr',_,h1,h2,⟨_,h3⟩,h4⟩
theorem Od{X A o c L i:Nat}{s:Int}{nm:ByteArray}{a:Option Addr}{c':Nat}(hX:w.cell? ⟨X,0,none⟩=some (bS A o L c))(c0:w.cell? ⟨A,o+i*3,none⟩=some (.string nm))(c1:w.cell? ⟨A,o+i*3+1,none⟩=some (.slice a 0 c'))(hlt:i<L)(hs:s≤2147483647)(hf:FA 18 41 oh [] .normal [(1,bK X),(3,iV s),(4,iV i)] fr):
  Goes (G fr cs) w fun g' w'=>∃bR n1,g'=G bR cs∧bA w w'∧FA 18 41 oh [] .normal [(1,bK X),(3,iV n1),(4,iV (iz .add .i64 i 1))] bR:=by
 obtain⟨ρ,hρ⟩:∃ρ:Env,ρ=Go.Proofs.YtmobbajggkjpgaaGreat.SX.iS [(51,L),(52,c),(53,o),(10,i),(7,s)] [(64,X),(50,A)] [(70,.slice a 0 c')] [(1,nm)]:=⟨_,rfl⟩;refine(sw1.go ρ hf (by rw[hρ];rfl) (cg.app (bX (i:=10) (n:=51) (I:=i) (N:=L) (by rw[hρ];rfl) (by rw[hρ];rfl) hlt) ⟨by rw[hρ];exact decide_eq_true hs,trivial⟩) ⟨by rw[hρ];exact hX,by rw[hρ];exact c0,by rw[hρ];exact c1,trivial⟩).trans fun g1 w1 hd=>?_;obtain⟨I,B,bR,rfl,f1,F1,_⟩:=hd;have fN:FA 18 41 (.code (qe 932)::SzT) [] .normal [(1,bK X),(3,iV s),(4,iV i)] bR:=by rw[hρ]at F1;exact F1
 obtain⟨id,hid⟩:=gS (c:=qe 932) (by kernel_rfl);rw[hid]at fN;refine(gQ fN).trans fun g2 w2 b_=>?_;obtain⟨ls,cE,rfl,f2,agX,F2⟩:=b_;refine(iw (b:=[(1,bK X),(3,iV s),(4,iV i)]) (nm:=nW) (val:=fun j v _=>vW X A o c L i s nm a c' j v) (early:=fun j=>Nat.blt j 17) (late:=[17]) (n:=18) (w0:=w1) (by kernel_rfl) (by kernel_rfl) (by kernel_rfl) (by kernel_rfl) (by kernel_rfl) (by kernel_rfl) (by kernel_rfl) (bx _ _) (fun _ _ _ _ h _=>h) (RB (f1.cell hX) (f1.cell c0) (f1.cell c1) hlt) ls [] f2 (fun i hi=>by cases hi) agX ⟨_,F2,fun x hx=>hx,fun i hi=>by cases hi⟩).trans fun g3 w3 cv=>?_;obtain⟨cF,lv,rfl,f3,F3,hb,hv⟩:=cv;obtain⟨v16,q16,n16,e16⟩:=hv 16 (by decide) rfl;subst e16;have qc:FA 18 41 (.inRegion dW [17]::SzT) [] .normal [(1,bK X),(4,iV i),(39,iV n16)] cF:=F3.sub fun x hx=>by
  simp only[ai,aA,or_false]at hx;rcases hx with rfl|rfl|rfl
  ·exact hb _ (by simp)
  ·exact hb _ (by simp)
  ·exact q16
 refine(acp.go (bO [(8,n16)] [] []) qc (by decide) rfl trivial trivial).trans fun g4 w4 dh=>?_;obtain⟨eO,rfl,f4,F4⟩:=dh;refine(agS.go (bO [(7,n16),(10,i)] [(64,X)] []) F4 rfl trivial trivial).mono fun g5 w5 eg=>?_;obtain⟨I,B,gn,rfl,f5,F5,_⟩:=eg;exact⟨gn,n16,rfl,f1.trans (f3.trans (f4.trans f5)),F5⟩
end
theorem FA.more{fn nt:Nat}{t:List Item}{ds:List Deferred}{kind:CallKind}{lv:List (Nat×Value)}{fr:Frame}(hf:FA fn nt t ds kind lv fr):∃f:Nat->Value,∀ks:List Nat,FA fn nt t ds kind (lv++ks.map fun i=>(i,f i)) fr:=by obtain⟨⟨tm,rfl,h2,h3⟩,h4,h5⟩:=hf;exact⟨fun i=>tm.getD i undef,fun ks=>⟨⟨tm,rfl,h2,fun p hp=>(aT.1 hp).elim (h3 p) fun hp=>by obtain⟨i,_,rfl⟩:=bf.1 hp;rfl⟩,h4,h5⟩⟩
noncomputable abbrev SzH:List Item:=oh
noncomputable abbrev WdH:List Item:=vo
section
variable {w w0:World}{cs:List Frame}{fr:Frame}
theorem Iw{z:Bool}{A o c X:Nat}{os:Value}{L:List cx}(hz:z=true->L=[])(hel:∀i x,L[i]?=some x->og w0 A (o+i*3) x)(hlen:L.length≤100000000000000)(hX:(cy.obj 25 [ew z A o L.length c,os]).at Tryz.prog w0 X):
  ∀(k i:Nat) (s:Int) {w:World} {cs:List Frame} {fr:Frame},i+k=L.length->bA w0 w->FA 18 41 SzH [] .normal [(1,bK X),(3,iV s),(4,iV i)] fr->
  Goes (G fr cs) w fun g' w'=>∃fr' n,g'=G fr' cs∧bA w0 w'∧(s>2147483647->n=s)∧de 18 fr' w' (iV n)
 |0,i,s,w,cs,fr,hi,fw,hf=>by
  obtain⟨ρ,hρ⟩:∃ρ:Env,ρ=bO [(51,L.length),(52,c),(53,o),(10,i),(7,s)] [(64,X),(50,A)] []:=⟨_,rfl⟩;have ez:(cU z 50 53 51 52).ev ρ=ew z A o L.length c:=by rw[hρ];cases z<;>rfl
  refine((sz3 z).go ρ hf (by rw[hρ];rfl) ⟨by
    rw[hρ];cases z with
    |false=>exact decide_eq_false (by show ¬((i:Int)<((L.length:Nat):Int));omega)
    |true=>exact decide_eq_false (by show ¬((i:Int)<0);omega),trivial⟩ ⟨by
    rw[ez,hρ];exact fw.cell (bG hX (i:=0) rfl),trivial⟩).trans fun g1 w1 hd=>?_
  obtain⟨I,B,bR,rfl,f1,F1,_⟩:=hd;rw[hρ]at F1;refine(leave1 TN F1 rfl).mono fun g2 w2 b_=>?_;obtain⟨cE,rfl,rfl,hL⟩:=b_;exact⟨cE,s,rfl,fw.trans f1,fun _=>rfl,hL⟩
 |k+1,i,s,w,cs,fr,hi,fw,hf=>by
  have hlt:i<L.length:=by omega
  obtain⟨x,hx⟩:∃x,L[i]?=some x:=⟨_,aa hlt⟩;cases z with
  |true=>rw[hz rfl]at hlt;simp only[aX]at hlt;omega
  |false=>
  have hc0:w.cell? ⟨X,0,none⟩=some (bS A o L.length c):=fw.cell (bG hX (i:=0) rfl);by_cases hs:s≤2147483647
  ·obtain⟨ts,c0,c1,c2,hN⟩:=((hel i x hx).keep fw).ex;obtain⟨f,DJ⟩:=hf.more;have JG:=DJ ((List.range 41).filter fun i=>!([1,3,4].contains i));have key:Goes (G fr cs) w fun g' w'=>∃bR n1,g'=G bR cs∧bA w w'∧FA 18 41 SzH [] .normal [(1,bK X),(3,iV n1),(4,iV ((i+1:Nat):Int))] bR:=by
    rcases hN.ex with hN|⟨hx0,a',c',rfl⟩
    ·obtain⟨y,At,ot,ct,rfl,hy,Gp,fW⟩:=hN.hd;obtain⟨ρ,hρ⟩:∃ρ:Env,ρ={(Go.Proofs.YtmobbajggkjpgaaGreat.SX.iS [(51,L.length),(52,c),(53,o),(10,i),(7,s),(71,x.tree.length),(72,ct),(73,ot)] [(64,X),(50,A),(70,At)] [] [(1,x.name)]:Env)with v:=f}:=⟨_,rfl⟩;have ey:(cU y 70 73 71 72).ev ρ=ew y At ot x.tree.length ct:=by rw[hρ];cases y<;>rfl
     refine((sz2 y).go ρ JG (by rw[hρ];unfold eZ;kernel_rfl) (cg.app (bX (i:=10) (n:=51) (I:=i) (N:=L.length) (by rw[hρ];rfl) (by rw[hρ];rfl) hlt) ⟨by rw[hρ];exact decide_eq_true hs,trivial⟩) ⟨by rw[hρ];exact hc0,by rw[hρ];exact c0,by rw[ey,hρ];exact c1,trivial⟩).mono fun g1 w1 hd=>?_;obtain⟨I,B,bR,rfl,f1,F1,_⟩:=hd;refine⟨bR,(IE.op .add .i64 (.op .add .i64 (v 7) (.jH (.var 1))) (dO y 71)).ev (dc ρ I B),rfl,f1,?_⟩;rw[<-inc (i:=i) (by omega)];rw[hρ]at F1⊢;exact F1
    ·rw[<-inc (i:=i) (by omega)];exact Od hc0 c0 c1 hlt hs hf
   refine key.trans fun g1 w1 hd=>?_;obtain⟨bR,n1,rfl,f1,fN⟩:=hd;refine(Iw (z:=false) (c:=c) (os:=os) (fun h=>by cases h) hel hlen hX k (i+1) n1 (by omega) (fw.trans f1) fN).mono fun g2 w2 b_=>?_;obtain⟨cE,n,h1,h2,h3,h4⟩:=b_;exact⟨cE,n,h1,h2,fun h=>by omega,h4⟩
  ·obtain⟨ρ,hρ⟩:∃ρ:Env,ρ=bO [(51,L.length),(52,c),(53,o),(10,i),(7,s)] [(64,X),(50,A)] []:=⟨_,rfl⟩;refine(sz4.go ρ hf (by rw[hρ];rfl) ⟨by rw[hρ];exact decide_eq_true (by show(i:Int)<((L.length:Nat):Int);omega),by rw[hρ];exact decide_eq_false hs,trivial⟩ ⟨by rw[hρ];exact hc0,trivial⟩).trans fun g1 w1 hd=>?_;obtain⟨I,B,bR,rfl,f1,F1,_⟩:=hd;rw[hρ]at F1;refine(leave1 TN F1 rfl).mono fun g2 w2 b_=>?_;obtain⟨cE,rfl,rfl,hL⟩:=b_;exact⟨cE,s,rfl,fw.trans f1,fun _=>rfl,hL⟩
theorem Oe{x:Value}{F:iG}(h:mK w x F)(hlen:F.lets.length+F.outs.length≤100000000000000):dV 18 #[x] w fun v w'=>bA w w'∧∃n,v=iV n∧(n≤2147483647->F.outs.length≤2147483647):=by
 obtain⟨ls,os,rfl,hl,ho⟩:=h;obtain⟨z,A,o,c,hls,hz,oU,hel⟩:=hl.ex;obtain⟨y,A',o',c',hos,hy,Gp,fW⟩:=ho.ex;refine cI fun cs=>?_;have E:=cC ab' rfl (.agg #[ls,os]);obtain⟨ρ,hρ⟩:∃ρ:Env,ρ=bO [(51,F.lets.length),(52,c),(53,o),(67,F.outs.length),(68,c'),(66,o')] [(50,A),(60,A')] []:=⟨_,rfl⟩;have go:Goes (G (Frame.enter Tryz.prog 18 #[.agg #[ls,os]] .normal) cs) w fun g' w'=>∃fr' X,g'=G fr' cs∧bA w w'∧(cy.obj 25 [ew z A o F.lets.length c,os]).at Tryz.prog w' X∧FA 18 41 SzH [] .normal [(1,bK X),(3,iV ((F.lets.length+F.outs.length:Nat):Int)),(4,iV (0:Nat))] fr':=by
  have es:iz .add .i64 (F.lets.length:Int) (F.outs.length:Int)=((F.lets.length+F.outs.length:Nat):Int):=by show IntKind.wrap .i64 _=_;rw[iT (by omega)];omega
  cases z with
  |false=>
   cases y with
   |false=>refine(acd.go ρ E (by rw[hls,hos,hρ];rfl) trivial trivial).mono fun g1 w1 hd=>?_;obtain⟨I,B,bR,rfl,f1,F1,bl,inj⟩:=hd;rw[hρ]at F1 bl;refine⟨bR,B 100,rfl,f1,by rw[hos];exact bl.1.2,?_⟩;rw[<-es];exact F1
   |true=>refine(acf.go ρ E (by rw[hls,hos,hρ];rfl) trivial trivial).mono fun g1 w1 hd=>?_;obtain⟨I,B,bR,rfl,f1,F1,bl,inj⟩:=hd;rw[hρ]at F1 bl;refine⟨bR,B 100,rfl,f1,by rw[hos];exact bl.1.2,?_⟩;rw[<-es,hy rfl];exact F1
  |true=>
   have e0:=hz rfl;cases y with
   |false=>refine(ace.go ρ E (by rw[hls,hos,hρ];rfl) trivial trivial).mono fun g1 w1 hd=>?_;obtain⟨I,B,bR,rfl,f1,F1,bl,inj⟩:=hd;rw[hρ]at F1 bl;refine⟨bR,B 100,rfl,f1,by rw[hos];exact bl.1.2,?_⟩;rw[<-es,e0];exact F1
   |true=>refine(acg.go ρ E (by rw[hls,hos,hρ];rfl) trivial trivial).mono fun g1 w1 hd=>?_;obtain⟨I,B,bR,rfl,f1,F1,bl,inj⟩:=hd;rw[hρ]at F1 bl;refine⟨bR,B 100,rfl,f1,by rw[hos];exact bl.1.2,?_⟩;rw[e0,hy rfl];exact F1
 refine go.trans fun g1 w1 hd=>?_;obtain⟨bR,X,rfl,f1,hX,F1⟩:=hd;refine(Iw (w0:=w1) (os:=os) hz (fun i x hi=>(hel i x hi).keep f1) (by omega) hX F.lets.length 0 _ (by omega) (bA.refl _) F1).mono fun g2 w2 b_=>?_;obtain⟨cE,n,rfl,f2,hn,hL⟩:=b_;exact⟨cE,_,rfl,hL,f1.trans f2,n,rfl,fun h=>by omega⟩
theorem Of{n:Int}:dV 6 #[iV n] w fun v w'=>bA w w'∧v=.bool (decide (n>2147483647)):=
 (lg1.iY ab_ (bO [(1,n)] [] []) (cC ab9 rfl (iV n)) rfl trivial trivial).mono fun v w' ⟨f,I,B,e,_⟩=>⟨f,e⟩
theorem BP{z:Bool}{A o c X:Nat}{os:Value}{L:List cx}(hz:z=true->L=[])(hel:∀i x,L[i]?=some x->og w0 A (o+i*3) x)(hlen:L.length≤100000000000000)(hX:(cy.obj 25 [ew z A o L.length c,os]).at Tryz.prog w0 X):
  ∀(k i:Nat) {w:World} {cs:List Frame} {fr:Frame},i+k=L.length->(∀x∈L.take i,x.tree.length≤1024)->bA w0 w->FA 5 28 WdH [] .normal [(1,bK X),(3,iV i)] fr->
  Goes (G fr cs) w fun g' w'=>∃fr' b,g'=G fr' cs∧bA w0 w'∧(b=false->∀x∈L,x.tree.length≤1024)∧de 5 fr' w' (.bool b)
 |0,i,w,cs,fr,hi,ht,fw,hf=>by
  obtain⟨ρ,hρ⟩:∃ρ:Env,ρ=bO [(51,L.length),(52,c),(53,o),(10,i)] [(64,X),(50,A)] []:=⟨_,rfl⟩;have ez:(cU z 50 53 51 52).ev ρ=ew z A o L.length c:=by rw[hρ];cases z<;>rfl
  refine((wd9 z).go ρ hf (by rw[hρ];rfl) ⟨by
    rw[hρ];cases z with
    |false=>exact decide_eq_false (by show ¬((i:Int)<((L.length:Nat):Int));omega)
    |true=>exact decide_eq_false (by show ¬((i:Int)<0);omega),trivial⟩ ⟨by
    rw[ez,hρ];exact fw.cell (bG hX (i:=0) rfl),trivial⟩).trans fun g1 w1 hd=>?_
  obtain⟨I,B,bR,rfl,f1,F1,_⟩:=hd;rw[hρ]at F1;refine(leave1 VV F1 rfl).mono fun g2 w2 b_=>?_;obtain⟨cE,rfl,rfl,hL⟩:=b_;rw[List.take_of_length_le (by omega)]at ht;exact⟨cE,false,rfl,fw.trans f1,fun _=>ht,hL⟩
 |k+1,i,w,cs,fr,hi,ht,fw,hf=>by
  have hlt:i<L.length:=by omega
  obtain⟨x,hx⟩:∃x,L[i]?=some x:=⟨_,aa hlt⟩;cases z with
  |true=>rw[hz rfl]at hlt;simp only[aX]at hlt;omega
  |false=>
  have hc0:w.cell? ⟨X,0,none⟩=some (bS A o L.length c):=fw.cell (bG hX (i:=0) rfl);obtain⟨ts,c0,c1,c2,hN⟩:=((hel i x hx).keep fw).ex;rcases hN.ex with hN|⟨hx0,a',c',rfl⟩
  rotate_left
  ·obtain⟨ρ,hρ⟩:∃ρ:Env,ρ=bO [(51,L.length),(52,c),(53,o),(10,i)] [(64,X),(50,A)] []:=⟨_,rfl⟩;refine((agH a' c').go ρ hf (by rw[hρ];rfl) (cg.app (bX (ρ:=ρ) (i:=10) (n:=51) (I:=i) (N:=L.length) (by rw[hρ];rfl) (by rw[hρ];rfl) hlt) ⟨rfl,trivial⟩) ⟨by rw[hρ];exact hc0,by rw[hρ];exact c1,trivial⟩).trans fun g1 w1 hd=>?_;obtain⟨I,B,bR,rfl,f1,F1,_⟩:=hd;rw[hρ]at F1;refine BP (z:=false) (c:=c) (os:=os) (fun h=>by cases h) hel hlen hX k (i+1) (by omega) (fun x' hx'=>?_) (fw.trans f1) ?_
   ·rw[List.take_add_one,hx]at hx';rcases aT.1 hx' with h|h
    ·exact ht x' h
    ·have h:x'=x:=by simpa using h
     rw[h,hx0];exact Nat.zero_le _
   ·rw[<-inc (i:=i) (by omega)];exact F1
  obtain⟨y,At,ot,ct,rfl,hy,Gp,fW⟩:=hN.hd;obtain⟨ρ,hρ⟩:∃ρ:Env,ρ=bO [(51,L.length),(52,c),(53,o),(10,i),(71,x.tree.length),(72,ct),(73,ot)] [(64,X),(50,A),(70,At)] []:=⟨_,rfl⟩;have ey:(cU y 70 73 71 72).ev ρ=ew y At ot x.tree.length ct:=by rw[hρ];cases y<;>rfl
  have en:(dO y 71).ev ρ=(x.tree.length:Int):=by
   rw[hρ];cases y with
   |false=>rfl
   |true=>rw[hy rfl];rfl
  have bb:=bX (ρ:=ρ) (i:=10) (n:=51) (I:=i) (N:=L.length) (by rw[hρ];rfl) (by rw[hρ];rfl) hlt;by_cases hb:x.tree.length>1024
  ·cases y with
   |true=>rw[hy rfl]at hb;simp only[aX]at hb;omega
   |false=>
   refine(RA.go ρ hf (by rw[hρ];rfl) (cg.app bb ⟨by rw[hρ];exact decide_eq_true (by show((x.tree.length:Nat):Int)>1024;omega),trivial⟩) ⟨by rw[hρ];exact hc0,by rw[hρ];exact c1,trivial⟩).trans fun g1 w1 hd=>?_;obtain⟨I,B,bR,rfl,f1,F1,_⟩:=hd;rw[hρ]at F1;refine(leave1 VV F1 rfl).mono fun g2 w2 b_=>?_;obtain⟨cE,rfl,rfl,hL⟩:=b_;exact⟨cE,true,rfl,fw.trans f1,(fun h=>by cases h),hL⟩
  ·refine((Oc y).go ρ hf (by rw[hρ];rfl) (cg.app bb ⟨by
     show decide ((dO y 71).ev ρ>1024)=false;rw[en];exact decide_eq_false (by omega),trivial⟩) ⟨by rw[hρ];exact hc0,by rw[ey,hρ];exact c1,trivial⟩).trans fun g1 w1 hd=>?_
   obtain⟨I,B,bR,rfl,f1,F1,_⟩:=hd;rw[hρ]at F1;refine BP (z:=false) (c:=c) (os:=os) (fun h=>by cases h) hel hlen hX k (i+1) (by omega) (fun x' hx'=>?_) (fw.trans f1) ?_
   ·rw[List.take_add_one,hx]at hx';rcases aT.1 hx' with h|h
    ·exact ht x' h
    ·have h:x'=x:=by simpa using h
     rw[h];omega
   ·rw[<-inc (i:=i) (by omega)];exact F1
theorem Og{x:Value}{F:iG}(h:mK w x F)(hlen:F.lets.length+F.outs.length≤100000000000000):dV 5 #[x] w fun v w'=>bA w w'∧∃b,v=.bool b∧(b=false->F.lets.length≤256∧F.outs.length≤2147483647∧∀x∈F.lets,x.tree.length≤1024):=by
 have h':=h;obtain⟨ls,os,rfl,hl,ho⟩:=h;obtain⟨z,A,o,c,hls,hz,oU,hel⟩:=hl.ex;refine cI fun cs=>?_;obtain⟨ρ,hρ⟩:∃ρ:Env,ρ=bO [(51,F.lets.length),(52,c),(53,o)] [(50,A)] [(9,os)]:=⟨_,rfl⟩;have ez:∀I B,(cU z 50 53 51 52).ev (dc ρ I B)=ls:=fun I B=>by rw[hρ,hls];cases z<;>rfl
 refine((wd1 z).go ρ (cC agG rfl (.agg #[ls,os])) (by rw[hls,hρ];cases z<;>rfl) trivial trivial).trans fun g1 w1 hd=>?_;obtain⟨I,B,bR,rfl,f1,F1,bl,_⟩:=hd;obtain⟨X,eX⟩:∃X,B 100=X:=⟨_,rfl⟩;have hX:(cy.obj 25 [ls,os]).at Tryz.prog w1 X:=by
  have h1:(cy.obj 25 [(cU z 50 53 51 52).ev (dc ρ I B),os]).at Tryz.prog w1 (B 100):=by have:=bl.1.2;rw[hρ]at this⊢;exact this
  rw[ez,eX]at h1;exact h1
 have fN:FA 5 28 (.inRegion (opsOf (q5 12)) [1,2,3,4,5,6,7,8]::[.code (q5 13),.code (q5 7)]) [] .normal [(1,bK X),(4,.agg #[ls,os])] bR:=by
  have h1:FA 5 28 (.inRegion (opsOf (q5 12)) [1,2,3,4,5,6,7,8]::[.code (q5 13),.code (q5 7)]) [] .normal [(1,bK (B 100)),(4,.agg #[(cU z 50 53 51 52).ev (dc ρ I B),os])] bR:=by rw[hρ]at F1⊢;exact F1
  rw[ez,eX]at h1;exact h1
 refine(wd2.go (bO [] [] [(4,.agg #[ls,os])]) (Q:=fun v w'=>∃n,v=iV n∧(n≤2147483647->F.outs.length≤2147483647)) fN rfl fun w' f2=>Oe (h'.keep (f1.trans f2)) hlen).trans fun g2 w2 b_=>?_;obtain⟨cE,vv,rfl,f2,⟨n,rfl,hn⟩,F2⟩:=b_;refine(wd3.go (bO [] [] [(5,iV n)]) (Q:=fun v w'=>v=.bool (decide (n>2147483647))) F2 rfl fun w' f3=>Of).trans fun g3 w3 cv=>?_;obtain⟨cF,vv,rfl,f3,rfl,F3⟩:=cv;have f13:=f1.trans (f2.trans f3);have hX3:=bP hX (f2.trans f3);obtain⟨σ,cr⟩:∃σ:Env,σ=bO [(51,F.lets.length),(52,c),(53,o)] [(50,A),(64,X)] []:=⟨_,rfl⟩;have es:(cU z 50 53 51 52).ev σ=ls:=by rw[cr,hls];cases z<;>rfl
 have en:(dO z 51).ev σ=(F.lets.length:Int):=by
  rw[cr];cases z with
  |false=>rfl
  |true=>rw[hz rfl];rfl
 have fin:∀{k:List Item} {w4:World} {eO:Frame},bA w w4->FA 5 28 (.code .ret::k) [] .normal [(2,.bool true)] eO->Goes (G eO cs) w4 fun g' w'=>∃fr' v,g'=G fr' cs∧de 5 fr' w' v∧bA w w'∧∃b,v=.bool b∧(b=false->F.lets.length≤256∧F.outs.length≤2147483647∧∀x∈F.lets,x.tree.length≤1024):=fun{k w4 eO} f4 F4=>by refine(leave1 VV F4 rfl).mono fun g6 w6 dz=>?_;obtain⟨dK,rfl,rfl,hL⟩:=dz;exact⟨dK,_,rfl,hL,f4,true,rfl,fun h=>by cases h⟩
 by_cases pM:n>2147483647
 ·rw[decide_eq_true pM]at F3;refine(wd4.go σ F3 (by rw[cr];rfl) trivial trivial).trans fun g4 w4 dh=>?_;obtain⟨I,B,eO,rfl,f4,F4,_⟩:=dh;exact fin (f13.trans f4) F4
 ·rw[decide_eq_false pM]at F3;by_cases hbig:F.lets.length>256
  ·cases z with
   |true=>rw[hz rfl]at hbig;simp only[aX]at hbig;omega
   |false=>
   refine(wd5.go σ F3 (by rw[cr];rfl) ⟨by rw[cr];exact decide_eq_true (by show((F.lets.length:Nat):Int)>256;omega),trivial⟩ ⟨by rw[cr];rw[hls]at hX3;exact bG hX3 (i:=0) rfl,trivial⟩).trans fun g4 w4 dh=>?_
   obtain⟨I,B,eO,rfl,f4,F4,_⟩:=dh;exact fin (f13.trans f4) F4
  ·refine((wd6 z).go σ F3 (by rw[cr];rfl) ⟨by
     show decide ((dO z 51).ev σ>256)=false;rw[en];exact decide_eq_false (by omega),trivial⟩ ⟨by
    rw[es,cr];exact bG hX3 (i:=0) rfl,trivial⟩).trans fun g4 w4 dh=>?_
   obtain⟨I,B,eO,rfl,f4,F4,_⟩:=dh;rw[cr]at F4;have f14:=f13.trans f4;refine(BP (w0:=w4) (c:=c) (os:=os) hz (fun i x hi=>(hel i x hi).keep f14) (by omega) (by rw[<-hls];exact bP hX3 f4) F.lets.length 0 (by omega) (fun x hx=>by simp at hx) (bA.refl _) F4).mono fun g5 w5 eg=>?_;obtain⟨gn,b,rfl,f5,hb,hL⟩:=eg;exact⟨gn,_,rfl,hL,f14.trans f5,b,rfl,fun h=>⟨by omega,hn (by omega),hb h⟩⟩
end
noncomputable def q20(l:Nat):Code:=pc (bD Tryz.f20) (pd l)
theorem acr:bT Tryz.prog 20 [] .normal=.ok ⟨20,15,c_ 20 [],[.code (bD Tryz.f20)],[],.run,.normal⟩:=by kernel_rfl
noncomputable def q40(l:Nat):Code:=pc (bD Tryz.f63) (pd l)
theorem acs:bT Tryz.prog 63 [.bF 0] .normal=.ok ⟨63,9,c_ 63 [.bF 0],[.code (bD Tryz.f63)],[],.run,.normal⟩:=by kernel_rfl
theorem acu:dL 63 9 2:=fun st=>by kernel_rfl
noncomputable def vp(l:Nat):Code:=pc (bD Tryz.f41) (pd l)
theorem TO:bT Tryz.prog 41 [.bF 0] .normal=.ok ⟨41,30,c_ 41 [.bF 0],[.code (bD Tryz.f41)],[],.run,.normal⟩:=by kernel_rfl
theorem Ix:dL 41 30 2:=fun st=>by kernel_rfl
noncomputable def zD(l:Nat):Code:=pc (bD Tryz.f21) (pd l)
theorem acv:bT Tryz.prog 21 [.bF 0,.bF 1] .normal=.ok ⟨21,31,c_ 21 [.bF 0,.bF 1],[.code (bD Tryz.f21)],[],.run,.normal⟩:=by kernel_rfl
theorem acw:dL 21 31 4:=fun st=>by kernel_rfl
theorem pr1:Pc 20 15 [.code (bD Tryz.f20)] ([]) [] [] [] 30 [105,103,101,100] [0] [.code .ret] [bC 100] [(105,.cells [.str ⟨#[97]⟩,.slice (some (eD 101 0)) (.lit 1) (.lit 1),i64 (.lit 0),.str ⟨#[98]⟩,.slice (some (eD 103 0)) (.lit 3) (.lit 3),i64 (.lit 0)] 50),(103,.cells [i8 (.lit 4),i64 (.lit 0),i64 (.lit 2),i64 (.lit 0),i8 (.lit 2),i64 (.lit 0),i64 (.lit 0),i64 (.lit 0),i8 (.lit 1),i64 (.lit 2),i64 (.lit 0),i64 (.lit 0)] 77),(101,.cells [i8 (.lit 1),i64 (.lit 1),i64 (.lit 0),i64 (.lit 0)] 77),(100,.cells [.slice (some (eD 105 0)) (.lit 2) (.lit 2),cn] 25)]:={}
theorem cc1:Pc 63 9 [.code (bD Tryz.f63)] ([(0,sA 50 53 51 52)]) [] [] [] 11 [] [3,5,7] [.inRegion (opsOf (q40 6)) [5,6],.code .ret] [sA 50 53 51 52,i64 (.tn (v 51)),i64 (.tn (v 51))] []:={}
theorem cc2:j7 9 (opsOf (q40 6)) 5 [] (.slice 23 (.tmp 3) none (some (.tmp 5)) (some (.tmp 7))) 23 (some 8):={}
theorem cc3:Pc 63 9 [.inRegion (opsOf (q40 6)) [6],.code .ret] ([(8,.bF 8)]) [] [] [] 2 [] [2] [.code .ret] [.bF 8] []:={}
theorem ne1:Pc 41 30 [.code (bD Tryz.f41)] ([(0,.agg [ss 1,.slice (some (eD 70 0)) (.lit 3) (.lit 3),i64 (v 4)])]) [] [(eD 70 0,i8 (.lit 4)),(eD 70 1,i64 (.lit 0)),(eD 70 2,i64 (.lit 2)),(eD 70 3,i64 (.lit 0)),(eD 70 4,i8 (.lit 2)),(eD 70 5,i64 (.lit 0)),(eD 70 6,i64 (.lit 0)),(eD 70 7,i64 (.lit 0)),(eD 70 8,i8 (.lit 1)),(eD 70 9,i64 (.lit 2)),(eD 70 10,i64 (.lit 0)),(eD 70 11,i64 (.lit 0))] [] 300 [105] [28] [.inRegion (opsOf (vp 126)) [2,3],.code .ret] [.slice (some (eD 105 0)) (.lit 1) (v 105)] [(105,.row [i64 (.lit 0)] 3 (v 105))]:={}
theorem ne2:dy 30 (opsOf (vp 126)) 2 [(28,.bF 28)] 63 [.bF 28] 29:={}
theorem ne3:Pc 41 30 [.inRegion (opsOf (vp 126)) [3],.code .ret] ([(29,.bF 29)]) [] [] [] 2 [] [2] [.code .ret] [.bF 29] []:={}
noncomputable def sj(l:Nat):Code:=pc (bD Tryz.f22) (pd l)
theorem acy:bT Tryz.prog 22 [.bF 0] .normal=.ok ⟨22,34,c_ 22 [.bF 0],[.code (bD Tryz.f22)],[],.run,.normal⟩:=by kernel_rfl
theorem acz:p6 22 34 2 3:=fun st=>by kernel_rfl
noncomputable def E8(l:Nat):Code:=pc (bD Tryz.f42) (pd l)
theorem acA:dL 42 41 5:=fun st=>by kernel_rfl
theorem nn1:Pc 21 31 [.code (bD Tryz.f21)] ([(0,.agg [.slice (some (eD 50 0)) (.lit 2) (.lit 2),cn]),(1,i64 (.lit 1))]) [] [] [] 9 [100] [1,2,8] [.inRegion (opsOf (zD 12)) [1,2,3,4,5,6],.code (zD 13),.code (zD 7)] [i64 (.lit 1),bC 100,.agg [.slice (some (eD 50 0)) (.lit 2) (.lit 2),cn]] [(100,.cells [.slice (some (eD 50 0)) (.lit 2) (.lit 2),cn] 25)]:={}
theorem nn2:dy 31 (opsOf (zD 12)) 1 [(8,.bF 8)] 26 [.bF 8] 9:={}
noncomputable abbrev kz2:List (AA×AV):=[(eD 50 0,.str ⟨#[97]⟩),(eD 50 1,.slice (some (eD 70 0)) (.lit 1) (.lit 1)),(eD 50 2,i64 (.lit 0)),(eD 50 3,.str ⟨#[98]⟩),(eD 50 4,.slice (some (eD 71 0)) (.lit 3) (.lit 3)),(eD 50 5,i64 (.lit 0)),(eD 70 0,i8 (.lit 1)),(eD 70 1,i64 (.lit 1)),(eD 70 2,i64 (.lit 0)),(eD 70 3,i64 (.lit 0)),(eD 71 0,i8 (.lit 4)),(eD 71 1,i64 (.lit 0)),(eD 71 2,i64 (.lit 2)),(eD 71 3,i64 (.lit 0)),(eD 71 4,i8 (.lit 2)),(eD 71 5,i64 (.lit 0)),(eD 71 6,i64 (.lit 0)),(eD 71 7,i64 (.lit 0)),(eD 71 8,i8 (.lit 1)),(eD 71 9,i64 (.lit 2)),(eD 71 10,i64 (.lit 0)),(eD 71 11,i64 (.lit 0)),(eD 64 0,.slice (some (eD 50 0)) (.lit 2) (.lit 2))]
theorem nn3:Pc 21 31 [.inRegion (opsOf (zD 12)) [2,3,4,5,6],.code (zD 13),.code (zD 7)] ([(1,i64 (.lit 1)),(2,bC 64),(9,.tuple Av)]) [] kz2 [] 31 [] [29] [.inRegion (opsOf (zD 14)) [5,6],.code .ret] [.agg [.str ⟨#[98]⟩,.slice (some (eD 71 0)) (.lit 3) (.lit 3),i64 (.lit 0)]] []:={}
theorem nn4:dy 31 (opsOf (zD 14)) 5 [(29,.bF 29)] 41 [.bF 29] 30:={}
theorem nn5:Pc 21 31 [.inRegion (opsOf (zD 14)) [6],.code .ret] ([(30,.bF 30)]) [] [] [] 2 [] [4] [.code .ret] [.bF 30] []:={}
noncomputable def KC:List (AA×AV):=[(eD 50 0,.str ⟨#[97]⟩),(eD 50 1,.slice (some (eD 70 0)) (.lit 1) (.lit 1)),(eD 50 2,i64 (.lit 0)),(eD 50 3,.str ⟨#[98]⟩),(eD 50 4,.slice (some (eD 71 0)) (.lit 3) (.lit 3)),(eD 50 5,i64 (.lit 0)),(eD 70 0,i8 (.lit 1)),(eD 70 1,i64 (.lit 1)),(eD 70 2,i64 (.lit 0)),(eD 70 3,i64 (.lit 0)),(eD 71 0,i8 (.lit 4)),(eD 71 1,i64 (.lit 0)),(eD 71 2,i64 (.lit 2)),(eD 71 3,i64 (.lit 0)),(eD 71 4,i8 (.lit 2)),(eD 71 5,i64 (.lit 0)),(eD 71 6,i64 (.lit 0)),(eD 71 7,i64 (.lit 0)),(eD 71 8,i8 (.lit 1)),(eD 71 9,i64 (.lit 2)),(eD 71 10,i64 (.lit 0)),(eD 71 11,i64 (.lit 0))]
noncomputable def VY(P A C:Nat):Env:=bO [] [(50,P),(70,A),(71,C)] []
def kA(P:Nat):Value:=.agg #[bS P 0 2 2,eH]
def acB:cx:=⟨⟨#[97]⟩,[⟨1,1,0,0⟩],0⟩
def KD:cx:=⟨⟨#[98]⟩,[⟨4,0,2,0⟩,⟨2,0,0,0⟩,⟨1,2,0,0⟩],0⟩
def Iy:iG:=⟨[acB,KD],[]⟩
theorem DL:gH Iy=(0,0):=by kernel_rfl
theorem Gv:oJ Iy ⟨0,0,0,0⟩=(0,[(1,1),(1,3)]):=by kernel_rfl
theorem cq.keep{ρ:Env}{w w':World}(f:bA w w'):∀{l:List (AA×AV)},cq ρ w l->cq ρ w' l
 |[],_=>trivial
 |p::r,h=>⟨f.cell h.1,cq.keep f h.2⟩
section
variable {w w0:World}{cs:List Frame}{fr:Frame}
theorem qE{P A C:Nat}(h:cq (VY P A C) w KC):r_ w (kA P) Iy:=by
 obtain⟨p0,p1,p2,p3,p4,p5,a0,a1,a2,a3,b0,b1,b2,b3,b4,b5,b6,b7,b8,b9,b10,b11,_⟩:=h;refine⟨bS P 0 2 2,eH,rfl,⟨false,P,0,2,rfl,(fun h=>by cases h),fun _=>ay _,fun i x hi=>?_⟩,⟨true,0,0,0,rfl,fun _=>rfl,(fun h=>by cases h),fun i n hi=>by cases hi⟩⟩
 match i,hi with
 |0,hi=>
  obtain rfl:acB=x:=au hi;refine⟨bS A 0 1 1,p0,p1,p2,⟨.inr ⟨A,0,1,rfl,ay _,fun i n hi=>?_⟩⟩⟩
  match i,hi with
  |0,hi=>obtain rfl:(⟨1,1,0,0⟩:Nd)=n:=au hi;exact⟨a0,a1,a2,a3⟩
  |i+1,hi=>cases hi
 |1,hi=>
  obtain rfl:KD=x:=au hi;refine⟨bS C 0 3 3,p3,p4,p5,⟨.inr ⟨C,0,3,rfl,ay _,fun i n hi=>?_⟩⟩⟩
  match i,hi with
  |0,hi=>obtain rfl:(⟨4,0,2,0⟩:Nd)=n:=au hi;exact⟨b0,b1,b2,b3⟩
  |1,hi=>obtain rfl:(⟨2,0,0,0⟩:Nd)=n:=au hi;exact⟨b4,b5,b6,b7⟩
  |2,hi=>obtain rfl:(⟨1,2,0,0⟩:Nd)=n:=au hi;exact⟨b8,b9,b10,b11⟩
  |i+3,hi=>cases hi
 |i+2,hi=>cases hi
theorem tN:dV 20 #[] w fun v w'=>bA w w'∧∃P A C,v=kA P∧cq (VY P A C) w' KC:=by
 refine cI fun cs=>?_;refine(pr1.go (bO [] [] []) (BF acr) rfl trivial trivial).trans fun g1 w1 hd=>?_;obtain⟨I,B,bR,rfl,f1,F1,bl,_⟩:=hd;have hP:(cy.obj 50 [.string ⟨#[97]⟩,bS (B 101) 0 1 1,iV 0,.string ⟨#[98]⟩,bS (B 103) 0 3 3,iV 0]).at Tryz.prog w1 (B 105):=bl.1.2;have hC:(cy.obj 77 [cY 4,iV 0,iV 2,iV 0,cY 2,iV 0,iV 0,iV 0,cY 1,iV 2,iV 0,iV 0]).at Tryz.prog w1 (B 103):=bl.2.1.2;have hA:(cy.obj 77 [cY 1,iV 1,iV 0,iV 0]).at Tryz.prog w1 (B 101):=bl.2.2.1.2;have hR:(cy.obj 25 [bS (B 105) 0 2 2,eH]).at Tryz.prog w1 (B 100):=bl.2.2.2.1.2;have fN:FA 20 15 (.code .ret::[]) [] .normal [(0,bK (B 100))] bR:=F1;refine(oe (ρ:=bO [] [(62,B 100)] [(40,bS (B 105) 0 2 2),(41,eH)]) (lA:=[(0,bC 62)]) (bs:=[]) (mem:=[(⟨.dyn 62,.lit 0⟩,.bF 40),(⟨.dyn 62,.lit 1⟩,.bF 41)]) fN (a:=.agg [.bF 40,.bF 41]) (fun p hp=>by
  obtain rfl:=ah.1 hp;exact cN rfl) (fun st=>by kernel_rfl) (nofun) (fun q hq=>by
  simp only[ai,aA,or_false]at hq;rcases hq with rfl|rfl
  ·exact bG hR (i:=0) rfl
  ·exact bG hR (i:=1) rfl)).mono fun g6 w6 dz=>?_
 obtain⟨dK,rfl,rfl,hL⟩:=dz;exact⟨dK,_,rfl,hL,f1,B 105,B 101,B 103,rfl,bG hP (i:=0) rfl,bG hP (i:=1) rfl,bG hP (i:=2) rfl,bG hP (i:=3) rfl,bG hP (i:=4) rfl,bG hP (i:=5) rfl,bG hA (i:=0) rfl,bG hA (i:=1) rfl,bG hA (i:=2) rfl,bG hA (i:=3) rfl,bG hC (i:=0) rfl,bG hC (i:=1) rfl,bG hC (i:=2) rfl,bG hC (i:=3) rfl,bG hC (i:=4) rfl,bG hC (i:=5) rfl,bG hC (i:=6) rfl,bG hC (i:=7) rfl,bG hC (i:=8) rfl,bG hC (i:=9) rfl,bG hC (i:=10) rfl,bG hC (i:=11) rfl,trivial⟩
theorem RD{t elem size:Nat}(hU:under? Tryz.prog t=.ok (.slice elem))(hS:sizeOf? Tryz.prog elem=.ok size){off n c:Nat}(hn:n≤c):sliceOp? Tryz.prog t (.slice (some ⟨.dyn 50,.lit (Int.ofNat off)⟩) (.lit (Int.ofNat n)) (.lit (Int.ofNat c))) none (some (.int .i64 (.lit (Int.ofNat n)))) (some (.int .i64 (.lit (Int.ofNat n))))=.ok (.slice (some ⟨.dyn 50,.lit (Int.ofNat off)⟩) (.lit (Int.ofNat n)) (.lit (Int.ofNat n))):=by unfold sliceOp?;rw[hU];simp only[bind,Except.bind,litNat?,bounds?,bound?,high?,hS,pure,Except.pure];simp[hn,AA.add,zb]
theorem RE{E:Value->World->Prop}{t elem size:Nat}(hU:under? Tryz.prog t=.ok (.slice elem))(hS:sizeOf? Tryz.prog elem=.ok size){A off n c:Nat}(hn:n≤c){Q:Value->World->Prop}(hq:Q (bS A off n n) w):
  wq Tryz.prog (fun _=>True) E (Instr.sliceAt t (bS A off n c) none (some (iV n)) (some (iV n))) Q w:=by
 let K:Ctx:=⟨Tryz.prog,{},fun _=>True,fun _=>True,True,fun _ _=>False⟩;let ρ:Env:=bO [] [(50,A)] [];exact kJ (K:=K) (ρ:=ρ) (w:=w) (RD (off:=off) hU hS hn) (Q:=Q) hq
theorem DM{B o n c:Nat}(h:n≤c):dV 63 #[bS B o n c] w fun v w'=>bA w w'∧v=bS B o n n:=by
 refine cI fun cs=>?_;refine(cc1.go (bO [(51,n),(52,c),(53,o)] [(50,B)] []) (cC acs rfl (bS B o n c)) rfl trivial trivial).trans fun g1 w1 hd=>?_;obtain⟨I,B',bR,rfl,f1,F1,_⟩:=hd;refine(cc2.go (R:=fun y w'=>y=bS B o n n∧w'=w1) (bO [] [] []) F1 (by decide) rfl fun tm ir x' e1 e2=>?_).trans fun g2 w2 b_=>?_
 ·unfold execOp;simp only[e1,bH,av,aM];rw[ir 3 (bS B o n c) rfl,ir 5 (iV n) rfl,ir 7 (iV n) rfl];exact RE abL abM h ⟨_,rfl,rfl,rfl⟩
 obtain⟨cE,y,rfl,⟨rfl,rfl⟩,F2⟩:=b_;refine(cc3.go (bO [] [] [(8,bS B o n n)]) F2 rfl trivial trivial).trans fun g3 w3 cv=>?_;obtain⟨I,B',cF,rfl,f3,F3,_⟩:=cv;refine(leave1 acu F3 rfl).mono fun g6 w6 dz=>?_;obtain⟨dK,rfl,rfl,hL⟩:=dz;exact⟨dK,_,rfl,hL,f1.trans f3,rfl⟩
theorem yj{P A C:Nat}(h:cq (VY P A C) w KC):dV 41 #[fK KD (bS C 0 3 3)] w fun v w'=>bA w w'∧∃B,w.heap.size≤B∧v=bS B 0 1 1∧w'.cell? ⟨B,0,none⟩=some (iV 0):=by obtain⟨p0,p1,p2,p3,p4,p5,a0,a1,a2,a3,b0,b1,b2,b3,b4,b5,b6,b7,b8,b9,b10,b11,_⟩:=h;refine cI fun cs=>?_;refine(ne1.go (Go.Proofs.YtmobbajggkjpgaaGreat.SX.iS [(4,0)] [(70,C)] [] [(1,⟨#[98]⟩)]) (cC TO rfl (fK KD (bS C 0 3 3))) rfl trivial ⟨b0,b1,b2,b3,b4,b5,b6,b7,b8,b9,b10,b11,trivial⟩).trans fun g1 w1 hd=>?_;obtain⟨I,B,bR,rfl,f1,F1,bl,_⟩:=hd;have hv:(cy.vec 3 (I 105).toNat [iV 0]).at Tryz.prog w1 (B 105):=bl.1.2;have gB:w.heap.size≤B 105:=bl.1.1;have hc:1≤(I 105).toNat:=Ij hv;refine(ne2.go (bO [] [] [(28,bS (B 105) 0 1 (I 105).toNat)]) (Q:=fun v w'=>v=bS (B 105) 0 1 1) F1 rfl fun w' f2=>DM hc).trans fun g2 w2 b_=>?_;obtain⟨cE,vv,rfl,f2,rfl,F2⟩:=b_;refine(ne3.go (bO [] [] [(29,bS (B 105) 0 1 1)]) F2 rfl trivial trivial).trans fun g3 w3 cv=>?_;obtain⟨I',B',cF,rfl,f3,F3,_⟩:=cv;refine(leave1 Ix F3 rfl).mono fun g6 w6 dz=>?_;obtain⟨dK,rfl,rfl,hL⟩:=dz;exact⟨dK,_,rfl,hL,f1.trans (f2.trans f3),B 105,gB,rfl,(f2.trans f3).cell (cy.cS hv rfl)⟩
theorem KE{P A C:Nat}(h:cq (VY P A C) w KC):dV 21 #[kA P,iV 1] w fun v w'=>bA w w'∧∃B,w.heap.size≤B∧v=bS B 0 1 1∧w'.cell? ⟨B,0,none⟩=some (iV 0):=by
 refine cI fun cs=>?_;refine(nn1.go (bO [] [(50,P)] []) (dU acv rfl (kA P) (iV 1)) rfl trivial trivial).trans fun g1 w1 hd=>?_;obtain⟨I,B,bR,rfl,f1,F1,bl,_⟩:=hd;obtain⟨X,eX⟩:∃X,B 100=X:=⟨_,rfl⟩;have hX:(cy.obj 25 [bS P 0 2 2,eH]).at Tryz.prog w1 X:=by rw[<-eX];exact bl.1.2
 have fN:FA 21 31 (.inRegion (opsOf (zD 12)) [1,2,3,4,5,6]::[.code (zD 13),.code (zD 7)]) [] .normal [(1,iV 1),(2,bK X),(8,kA P)] bR:=by rw[<-eX];exact F1
 refine(nn2.go (bO [] [] [(8,kA P)]) (Q:=fun v w'=>v=.tuple #[iV 0,iV 0]) fN rfl fun w' f2=>(qA (qE (h.keep (f1.trans f2))) (by decide) (by decide)).mono fun v w2 hd=>⟨hd.1,by have:=hd.2;rw[DL]at this;exact this⟩).trans fun g2 w2 b_=>?_
 obtain⟨cE,vv,rfl,f2,rfl,F2⟩:=b_;have f12:=f1.trans f2;have h2:=h.keep f12;refine(nn3.go (bO [] [(50,P),(64,X),(70,A),(71,C)] []) F2 rfl trivial (cq.app (l:=KC) (l':=[(⟨.dyn 64,.lit 0⟩,.slice (some ⟨.dyn 50,.lit 0⟩) (.lit 2) (.lit 2))]) h2 ⟨f2.cell (bG hX (i:=0) rfl),trivial⟩)).trans fun g3 w3 cv=>?_;obtain⟨I,B,cF,rfl,f3,F3,_⟩:=cv;have f13:=f12.trans f3;refine(nn4.go (bO [] [] [(29,fK KD (bS C 0 3 3))]) (Q:=fun v w'=>∃wk B,bA w wk∧wk.heap.size≤B∧v=bS B 0 1 1∧w'.cell? ⟨B,0,none⟩=some (iV 0)) F3 rfl fun w' f4=>(yj (h.keep (f13.trans f4))).mono fun v w2 hd=>⟨hd.1,by obtain⟨B,h1,h2,h3⟩:=hd.2;exact⟨w',B,f13.trans f4,h1,h2,h3⟩⟩).trans fun g4 w4 dh=>?_
 obtain⟨eO,vv,rfl,f4,⟨wk,B4,fk,hB,rfl,hc⟩,F4⟩:=dh;refine(nn5.go (bO [] [] [(30,bS B4 0 1 1)]) F4 rfl trivial trivial).trans fun g5 w5 eg=>?_;obtain⟨I',B',gn,rfl,f5,F5,_⟩:=eg;refine(leave1 acw F5 rfl).mono fun g6 w6 dz=>?_;obtain⟨dK,rfl,rfl,hL⟩:=dz;exact⟨dK,_,rfl,hL,f13.trans (f4.trans f5),B4,ax fk.size hB,rfl,f5.cell hc⟩
end
theorem ll1:Pc 22 34 [.code (bD Tryz.f22)] ([(0,.agg [.slice (some (eD 50 0)) (.lit 2) (.lit 2),cn])]) [] [] [] 10 [100] [1,11] [.inRegion (opsOf (sj 12)) [1,2,3,4,5,6],.code (sj 13),.code (sj 7)] [bC 100,.agg [.slice (some (eD 50 0)) (.lit 2) (.lit 2),cn]] [(100,.cells [.slice (some (eD 50 0)) (.lit 2) (.lit 2),cn] 25)]:={}
theorem ll2:dy 34 (opsOf (sj 12)) 1 [(11,.bF 11)] 26 [.bF 11] 12:={}
theorem ll3:Pc 22 34 [.inRegion (opsOf (sj 12)) [2,3,4,5,6],.code (sj 13),.code (sj 7)] ([(1,bC 64),(12,.tuple Av)]) [] kz2 [] 404 [107,102,101,100] [1,7,8,22,23,24,25,26,27,28] [.inRegion (opsOf (sj 65177)) [3,4,5,6],.inBlock 1,.code (sj 16295),.inLoop (sj 2036),.inBlock 0,.code (sj 255)] [bC 64,bC 102,.slice (some (eD 107 0)) (.lit 1) (v 107),i64 (.lit 2),i64 (.lit 1),TB,i64 (.lit 1),.slice (some (eD 107 0)) (.lit 1) (v 107),.func (.func 42) [] [bC 101,bC 64,bC 102],i64 (.lit 1)] [(107,.row [i64 (.lit 0)] 3 (v 107)),(102,.cells [.func (.func 42) [] [bC 101,bC 64,bC 102]] 80),(101,.cells [.map (some (.dyn 100))] 79),(100,.map [(i64 (.lit 0),i64 (.lit 0))])]:={}
noncomputable abbrev yl:List AV:=[bC 61,bC 64,bC 62]
theorem lf1:Pc 42 41 [.code (bD Tryz.f42)] ([(0,i64 (.lit 1)),(1,bC 61),(2,bC 64),(3,bC 62)]) [] [(eD 50 0,.str ⟨#[97]⟩),(eD 50 1,.slice (some (eD 70 0)) (.lit 1) (.lit 1)),(eD 50 2,i64 (.lit 0)),(eD 50 3,.str ⟨#[98]⟩),(eD 50 4,.slice (some (eD 71 0)) (.lit 3) (.lit 3)),(eD 50 5,i64 (.lit 0)),(eD 70 0,i8 (.lit 1)),(eD 70 1,i64 (.lit 1)),(eD 70 2,i64 (.lit 0)),(eD 70 3,i64 (.lit 0)),(eD 71 0,i8 (.lit 4)),(eD 71 1,i64 (.lit 0)),(eD 71 2,i64 (.lit 2)),(eD 71 3,i64 (.lit 0)),(eD 71 4,i8 (.lit 2)),(eD 71 5,i64 (.lit 0)),(eD 71 6,i64 (.lit 0)),(eD 71 7,i64 (.lit 0)),(eD 71 8,i8 (.lit 1)),(eD 71 9,i64 (.lit 2)),(eD 71 10,i64 (.lit 0)),(eD 71 11,i64 (.lit 0)),(eD 64 0,.slice (some (eD 50 0)) (.lit 2) (.lit 2)),(eD 61 0,.map (some (.dyn 60))),(eD 62 0,.func (.func 42) [] yl)] [(60,.map [(i64 (.lit 0),i64 (.lit 0))])] 34 [60] [0,1,2,3,8,23] [.inRegion (opsOf (E8 60)) [5,6,7],.code (E8 61),.code (E8 31)] [i64 (.lit 1),bC 61,bC 64,bC 62,i64 (.lit 0),.agg [.str ⟨#[98]⟩,.slice (some (eD 71 0)) (.lit 3) (.lit 3),i64 (.lit 0)]] [(60,.map [(i64 (.lit 0),i64 (.lit 0))])]:={}
theorem lf2:dy 41 (opsOf (E8 60)) 5 [(23,.bF 23)] 41 [.bF 23] 24:={}
noncomputable abbrev kz1:List (AA×AV):=[(eD 50 0,.str ⟨#[97]⟩),(eD 50 1,.slice (some (eD 70 0)) (.lit 1) (.lit 1)),(eD 50 2,i64 (.lit 0)),(eD 50 3,.str ⟨#[98]⟩),(eD 50 4,.slice (some (eD 71 0)) (.lit 3) (.lit 3)),(eD 50 5,i64 (.lit 0)),(eD 70 0,i8 (.lit 1)),(eD 70 1,i64 (.lit 1)),(eD 70 2,i64 (.lit 0)),(eD 70 3,i64 (.lit 0)),(eD 71 0,i8 (.lit 4)),(eD 71 1,i64 (.lit 0)),(eD 71 2,i64 (.lit 2)),(eD 71 3,i64 (.lit 0)),(eD 71 4,i8 (.lit 2)),(eD 71 5,i64 (.lit 0)),(eD 71 6,i64 (.lit 0)),(eD 71 7,i64 (.lit 0)),(eD 71 8,i8 (.lit 1)),(eD 71 9,i64 (.lit 2)),(eD 71 10,i64 (.lit 0)),(eD 71 11,i64 (.lit 0)),(eD 64 0,.slice (some (eD 50 0)) (.lit 2) (.lit 2)),(eD 61 0,.map (some (.dyn 60))),(eD 62 0,.func (.func 42) [] yl),(eD 72 0,i64 (.lit 0))]
theorem lf3:Pc 42 41 [.inRegion (opsOf (E8 60)) [6,7],.code (E8 61),.code (E8 31)] ([(8,i64 (.lit 0)),(24,.slice (some (eD 72 0)) (.lit 1) (.lit 1)),(0,i64 (.lit 1)),(1,bC 61),(2,bC 64),(3,bC 62)]) [] kz1 [(60,.map [(i64 (.lit 0),i64 (.lit 0))])] 54 [60] [0,1,2,3,24,25,26,30,34] [.inRegion (opsOf (E8 7833)) [5,6],.inBlock 1,.code (E8 1959),.inLoop (E8 244),.inBlock 0,.code (E8 31)] [i64 (.lit 1),bC 61,bC 64,bC 62,.slice (some (eD 72 0)) (.lit 1) (.lit 1),i64 (.lit 1),i64 (.lit 0),i64 (.lit 0),i64 (.lit 1)] [(60,.map [(i64 (.lit 0),i64 (.lit 0))])]:={}
theorem lf4:j7 41 (opsOf (E8 7833)) 5 [] (.call {callee:=.builtin .max,args:=#[.tmp 30,.tmp 34],argTypes:=#[3,3]}) 3 (some 35):={}
theorem lf5:Pc 42 41 [.inRegion (opsOf (E8 7833)) [6],.inBlock 1,.code (E8 1959),.inLoop (E8 244),.inBlock 0,.code (E8 31)] ([(0,i64 (.lit 1)),(1,bC 61),(2,bC 64),(3,bC 62),(24,.slice (some (eD 72 0)) (.lit 1) (.lit 1)),(25,i64 (.lit 1)),(26,i64 (.lit 0)),(35,i64 (.lit 1))]) [] kz1 [(60,.map [(i64 (.lit 0),i64 (.lit 0))])] 27 [60] [5] [.code .ret] [i64 (.lit 1)] [(60,.map [(i64 (.lit 0),i64 (.lit 0)),(i64 (.lit 1),i64 (.lit 1))])]:={}
theorem ZT:dy 34 (opsOf (sj 65177)) 3 [(27,.func (.func 42) [] yl),(28,i64 (.lit 1))] 42 [i64 (.lit 1),bC 61,bC 64,bC 62] 29:={}
theorem ll5:Pc 22 34 [.inRegion (opsOf (sj 65177)) [4,5,6],.inBlock 1,.code (sj 16295),.inLoop (sj 2036),.inBlock 0,.code (sj 255)] ([(1,bC 64),(7,bC 62),(8,.slice (some (eD 52 0)) (v 8) (v 57)),(22,i64 (.lit 2)),(23,i64 (.lit 1)),(24,TB),(25,i64 (.lit 1)),(26,.slice (some (eD 52 0)) (v 8) (v 57)),(29,i64 (.lit 1))]) Nw [(eD 64 0,.slice (some (eD 50 0)) (.lit 2) (.lit 2))] vj 23 [101] [2,3] [.code .ret] [.slice (some (eD 101 0)) (.plus (.tn (v 8)) (.lit 1)) (v 101),i64 (.lit 0)] [(101,.pre false 65 (v 8) [] [] [i64 (.lit 1)] 3 (v 101))]:={}
noncomputable def q6(l:Nat):Code:=pc (bD Tryz.f7) (pd l)
theorem ag1:bT Tryz.prog 7 [] .normal=.ok ⟨7,72,c_ 7 [],[.code (bD Tryz.f7)],[],.run,.normal⟩:=by kernel_rfl
theorem ag2:dL 7 72 0:=fun st=>by kernel_rfl
theorem lv1:Pc 7 72 [.code (bD Tryz.f7)] ([]) [] [] [] 6 [] [] [.inRegion (opsOf (q6 6)) [0,1,2,3,4,5,6,7],.code (q6 7)] [] []:={}
theorem AI:dy 72 (opsOf (q6 6)) 0 [] 20 [] 9:={}
noncomputable abbrev TP:List AV:=[i64 (.lit 0),i64 (.lit 0),i64 (.lit 0),i64 (.lit 0)]
theorem lv3:Pc 7 72 [.inRegion (opsOf (q6 6)) [1,2,3,4,5,6,7],.code (q6 7)] ([(9,.bF 9)]) [] [] [] 1 [] [9,10] [.inRegion (opsOf (q6 6)) [2,3,4,5,6,7],.code (q6 7)] [.bF 9,.agg TP] []:={}
theorem lv4:dy 72 (opsOf (q6 6)) 2 [(9,.bF 9),(10,.bF 10)] 19 [.bF 9,.bF 10] 11:={}
theorem lv5:Pc 7 72 [.inRegion (opsOf (q6 6)) [3,4,5,6,7],.code (q6 7)] ([(11,.tuple [.bF 11,i64 (.lit 0)])]) [] [] [] 8 [] [1,2] [.inRegion (opsOf (q6 14)) [0,1,2],.code (q6 15)] [.bF 11,i64 (.lit 0)] []:={}
theorem lv6:dy 72 (opsOf (q6 14)) 0 [] 20 [] 14:={}
theorem lv7:dy 72 (opsOf (q6 14)) 1 [(14,.bF 14)] 21 [.bF 14,i64 (.lit 1)] 15:={}
theorem lv8:Pc 7 72 [.inRegion (opsOf (q6 14)) [2],.code (q6 15)] ([(1,.bF 1),(2,i64 (.lit 0)),(15,.bF 15)]) [] [] [] 4 [] [1,2,3] [.inRegion (opsOf (q6 30)) [0,1,2,3,4,5,6],.code (q6 31)] [.bF 1,i64 (.lit 0),.bF 15] []:={}
theorem lv9:dy 72 (opsOf (q6 30)) 0 [] 20 [] 17:={}
theorem lvA:dy 72 (opsOf (q6 30)) 1 [(17,.bF 17)] 22 [.bF 17] 18:={}
theorem lvB:Pc 7 72 [.inRegion (opsOf (q6 30)) [2,3,4,5,6],.code (q6 31)] ([(1,.bF 1),(2,i64 (.lit 0)),(3,.bF 3),(18,.tuple [.bF 18,i64 (.lit 0)])]) [] [] [] 8 [] [1,2,3,4,5] [.inRegion (opsOf (q6 62)) [0,1,2,3,4,5,6,7,8,9,10],.code (q6 63)] [.bF 1,i64 (.lit 0),.bF 3,.bF 18,i64 (.lit 0)] []:={}
theorem lvC:dy 72 (opsOf (q6 62)) 0 [] 20 [] 22:={}
theorem lvD:Pc 7 72 [.inRegion (opsOf (q6 62)) [1,2,3,4,5,6,7,8,9,10],.code (q6 63)] ([(1,.bF 1),(2,i64 (.lit 0)),(3,.bF 3),(4,.bF 4),(5,i64 (.lit 0)),(22,.bF 22)]) [] [] [] 4 [100] [1,2,3,4,5,22,23,26] [.inRegion (opsOf (q6 62)) [5,6,7,8,9,10],.code (q6 63)] [.bF 1,i64 (.lit 0),.bF 3,.bF 4,i64 (.lit 0),.bF 22,.agg TP,.slice (some (eD 100 0)) (.lit 2) (.lit 2)] [(100,.cells [i8 (.lit 1),i64 (.lit 1),i8 (.lit 1),i64 (.lit 4)] 43)]:={}
theorem lvE:dy 72 (opsOf (q6 62)) 5 [(22,.bF 22),(23,.bF 23),(26,.bF 26)] 10 [.bF 22,.bF 23,.bF 26] 27:={}
theorem lvF:Pc 7 72 [.inRegion (opsOf (q6 62)) [6,7,8,9,10],.code (q6 63)] ([(1,.slice (some (eD 73 0)) (.lit 2) (v 81)),(2,i64 (.lit 0)),(3,.slice (some (eD 72 0)) (.lit 1) (.lit 1)),(4,.slice (some (eD 74 0)) (.lit 2) (v 82)),(5,i64 (.lit 0)),(27,.tuple [i64 (.lit 30),i64 (.lit 1)])]) [] [(eD 73 2,i8 (.lit 1)),(eD 73 3,i64 (.lit 3)),(eD 74 1,i64 (.lit 1))] [] 52 [] [0] [.code .ret] [TB] []:={}
noncomputable def VZ(K X G:Nat):Value:=(AV.func (.func 42) [] yl).ev (bO [] [(61,K),(64,X),(62,G)] [])
section
variable {w w0:World}{cs:List Frame}{fr:Frame}
theorem tO{M:Nat}{es:List (Value×Value)}{a:Addr}{v:Value}(h:(cy.map es).at Tryz.prog w M)(hc:w.cell? a=some v):M≠a.block:=fun e=>by obtain⟨arr,nH,h1,h2⟩:=h;unfold World.cell? at hc;rw[<-e,h1]at hc;cases hc
theorem V0:bT Tryz.prog 42 j6 .normal=.ok ⟨42,41,c_ 42 j6,[.code (bD Tryz.f42)],[],.run,.normal⟩:=by kernel_rfl
theorem cq.Oh{ρ:Env}{w w':World}(f:∀a v,w.cell? a=some v->w'.cell? a=some v):∀{l:List (AA×AV)},cq ρ w l->cq ρ w' l
 |[],_=>trivial
 |p::r,h=>⟨f _ _ h.1,cq.Oh f h.2⟩
theorem Oi{P A C X M K G:Nat}(h:cq (VY P A C) w KC)(hX:w.cell? ⟨X,0,none⟩=some (bS P 0 2 2))(hM:(cy.map [(iV 0,iV 0)]).at Tryz.prog w M)(hK:w.cell? ⟨K,0,none⟩=some (.map (some M)))(hG:w.cell? ⟨G,0,none⟩=some (VZ K X G)):
  dV 42 #[iV 1,bK K,bK X,bK G] w fun v w'=>v=iV 1∧bU (fun x=>w.heap.size≤x∨x=M) w w':=by
 refine cI fun cs=>?_;obtain⟨O,hO⟩:∃O:Nat->Prop,O=fun x=>w.heap.size≤x∨x=M:=⟨_,rfl⟩;rw[<-hO];have kc:∀{w':World},bU O w w'->∀a v,w.cell? a=some v->w'.cell? a=some v:=fun{w'} kp a v hc=>iD kp hc (by
  rw[hO];intro hh;rcases hh with hh|hh
  ·have:=j5 hc;omega
  ·exact tO hM hc hh.symm)
 obtain⟨ρ,hρ⟩:∃ρ:Nat->Env,ρ=fun B=>bO [] [(50,P),(70,A),(71,C),(64,X),(61,K),(62,G),(60,M),(72,B)] []:=⟨_,rfl⟩;have mm:∀{w':World} (B:Nat),bU O w w'->cq (ρ B) w' (KC++[(⟨.dyn 64,.lit 0⟩,.slice (some ⟨.dyn 50,.lit 0⟩) (.lit 2) (.lit 2)),(⟨.dyn 61,.lit 0⟩,.map (some (.dyn 60))),(⟨.dyn 62,.lit 0⟩,.func (.func 42) [] yl)]):=fun{w'} B kp=>by rw[hρ];exact cq.app (l:=KC) (cq.Oh (kc kp) h) ⟨kc kp _ _ hX,kc kp _ _ hK,kc kp _ _ hG,trivial⟩
 have pre:∀{w':World} (B:Nat),(cy.map [(iV 0,iV 0)]).at Tryz.prog w' M->Gh (ρ B) w' [(60,.map [(i64 (.lit 0),i64 (.lit 0))])]:=fun{w'} B hm=>⟨⟨.map [(iV 0,iV 0)],by rw[hρ];exact hm,rfl⟩,trivial⟩;have e60:∀B,(ρ B).b 60=M:=fun B=>by rw[hρ];rfl
 have off:∀{w':World} {l:List (AA×AV)} (B:Nat),(cy.map [(iV 0,iV 0)]).at Tryz.prog w' M->cq (ρ B) w' l->∀p∈l,∀x∈[((60,.map [(i64 (.lit 0),i64 (.lit 0))]):Nat×bQ)],(ρ B).b x.1≠(p.1.ev (ρ B)).block:=fun{w' l} B hm KF p hp x hx=>by obtain rfl:=ah.1 hx;rw[e60];exact tO hm (KF.mem p hp)
 have own:∀{w':World} (B:Nat) {q:Nat},bU O w w'->k_ (ρ B) w' [(60,.map [(i64 (.lit 0),i64 (.lit 0))])] q->O q:=fun{w'} B {q} kp hq=>by
  rw[hO];rcases hq with hh|⟨p,hp,e⟩
  ·exact .inl (ax kp.size hh)
  ·obtain rfl:=ah.1 hp;exact .inr (e.symm.trans (e60 B))
 have k0:bU O w w:=bU.refl _ _;refine(lf1.Df (ρ 0) (xW V0 rfl (iV 1) (bK K) (bK X) (bK G)) (by rw[hρ];rfl) trivial (mm 0 k0) (off 0 hM (mm 0 k0)) (pre 0 hM) eS).trans fun g1 w1 hd=>?_;obtain⟨I,B,bR,rfl,Vm,F1,bl1,_⟩:=hd;have k1:bU O w w1:=Vm.mono fun q hq=>own 0 k0 hq;have hM1:(cy.map [(iV 0,iV 0)]).at Tryz.prog w1 M:=by have:=bl1.1.2;rw[hρ]at this;exact this
 rw[hρ]at F1;refine(lf2.go (bO [] [] [(23,fK KD (bS C 0 3 3))]) (Q:=fun v w'=>∃B,v=bS B 0 1 1∧w'.cell? ⟨B,0,none⟩=some (iV 0)) F1 rfl fun w' f2=>(yj ((cq.Oh (kc k1) h).keep f2)).mono fun v w2 hd=>⟨hd.1,by obtain⟨B,h1,h2,h3⟩:=hd.2;exact⟨B,h2,h3⟩⟩).trans fun g2 w2 b_=>?_
 obtain⟨cE,vv,rfl,f2,⟨B2,rfl,hB2⟩,F2⟩:=b_;have kf:∀{a b:World},bU O w a->bA a b->bU O w b:=fun{a b} k f=>k.trans (f.mono fun q hq=>by rw[hO];exact .inl (ax k.size hq))
 have k2:=kf k1 f2;have hM2:=bP (k:=.map _) hM1 f2;have m2:cq (ρ B2) w2 (KC++[(⟨.dyn 64,.lit 0⟩,.slice (some ⟨.dyn 50,.lit 0⟩) (.lit 2) (.lit 2)),(⟨.dyn 61,.lit 0⟩,.map (some (.dyn 60))),(⟨.dyn 62,.lit 0⟩,.func (.func 42) [] yl)]++[(⟨.dyn 72,.lit 0⟩,i64 (.lit 0))]):=cq.app (mm B2 k2) ⟨by rw[hρ];exact hB2,trivial⟩;refine(lf3.Df (ρ B2) F2 (by rw[hρ];rfl) trivial m2 (off B2 hM2 m2) (pre B2 hM2) eS).trans fun g3 w3 cv=>?_;obtain⟨I3,B3,cF,rfl,ZO,F3,Qt,_⟩:=cv;have k3:bU O w w3:=k2.trans (ZO.mono fun q hq=>own B2 k2 hq);have ZP:(cy.map [(iV 0,iV 0)]).at Tryz.prog w3 M:=by have:=Qt.1.2;rw[hρ]at this;exact this
 have KG:w3.cell? ⟨B2,0,none⟩=some (iV 0):=iD ZO hB2 fun hh=>by
  rcases hh with hh|⟨p,hp,e⟩
  ·have:=j5 hB2;have:B2<w2.heap.size:=this;have hh:w2.heap.size≤B2:=hh;omega
  ·obtain rfl:=ah.1 hp;exact tO hM2 hB2 ((e60 B2).symm.trans e)
 rw[hρ]at F3;refine(lf4.go (R:=fun y w'=>y=iV 1∧w'=w3) (bO [] [] []) F3 (by decide) rfl fun tm ir x' e1 e2=>?_).trans fun g4 w4 dh=>?_
 ·unfold execOp;simp only[e1,e2,resolve,bH,bI,invoke,builtin];rw[show Array.map (⟨tm,[]⟩:Act).eval #[Operand.tmp 30,Operand.tmp 34]=#[(⟨tm,[]⟩:Act).eval (.tmp 30),(⟨tm,[]⟩:Act).eval (.tmp 34)]from by simp];rw[ir 30 (iV 0) rfl,ir 34 (iV 1) rfl];simp only[Builtin.max_,iV,List.foldlM_cons,List.foldlM_nil,Builtin.max2,bH,bI];exact⟨_,rfl,rfl,trivial⟩
 obtain⟨eO,y,rfl,⟨rfl,rfl⟩,F4⟩:=dh;have m4:cq (ρ B2) w4 (KC++[(⟨.dyn 64,.lit 0⟩,.slice (some ⟨.dyn 50,.lit 0⟩) (.lit 2) (.lit 2)),(⟨.dyn 61,.lit 0⟩,.map (some (.dyn 60))),(⟨.dyn 62,.lit 0⟩,.func (.func 42) [] yl)]++[(⟨.dyn 72,.lit 0⟩,i64 (.lit 0))]):=cq.app (mm B2 k3) ⟨by rw[hρ];exact KG,trivial⟩;refine(lf5.Df (ρ B2) F4 (by rw[hρ];rfl) trivial m4 (off B2 ZP m4) (pre B2 ZP) eS).trans fun g5 w5 eg=>?_;obtain⟨I5,B5,gn,rfl,kp5,F5,Oj,_⟩:=eg;have k5:bU O w w5:=k3.trans (kp5.mono fun q hq=>own B2 k3 hq);refine(leave1 acA F5 rfl).mono fun g6 w6 dz=>?_;obtain⟨dK,rfl,rfl,hL⟩:=dz;exact⟨dK,_,rfl,hL,rfl,k5⟩
end
noncomputable def aus(l:Nat):Code:=pc (bD Tryz.f25) (pd l)
theorem V1:bT Tryz.prog 25 [.bF 0,.bF 1] .normal=.ok ⟨25,10,c_ 25 [.bF 0,.bF 1],[.code (bD Tryz.f25)],[],.run,.normal⟩:=by kernel_rfl
theorem V2:dL 25 10 4:=fun st=>by kernel_rfl
theorem zna:Pc 25 10 [.code (bD Tryz.f25)] ([(0,i64 (v 10)),(1,i64 (v 11))]) [] [] [] 13 [] [4] [.code .ret] [i64 (.op .add .i64 (.op .add .i64 (.op .mul .i64 (.lit 1048576) (v 10)) (v 11)) (.lit 1))] []:={}
noncomputable def gJ(l:Nat):Code:=pc (bD Tryz.f24) (pd l)
theorem Ol:bT Tryz.prog 24 [.bF 0] .normal=.ok ⟨24,35,c_ 24 [.bF 0],[.code (bD Tryz.f24)],[],.run,.normal⟩:=by kernel_rfl
theorem V3:dL 24 35 2:=fun st=>by kernel_rfl
abbrev RF:List (BE×Bool):=[((.cmp .gtr (.op .add .i64 (.tn (v 51)) (.lit 64)) (.lit 4294967296)),false),((.cmp .lss (.op .add .i64 (.tn (v 51)) (.lit 64)) (.lit 0)),false)]
noncomputable abbrev vq:List Item:=[.code (gJ 116),.inLoop (gJ 116),.inBlock 0,.code (gJ 15)]
theorem ag5:Pc 24 35 [.code (bD Tryz.f24)] ([(0,sA 50 53 51 52)]) RF [] [] 19 [100] [0,3,4] vq [sA 50 53 51 52,.slice (some (eD 100 0)) (.op .add .i64 (.tn (v 51)) (.lit 64)) (.op .add .i64 (.tn (v 51)) (.lit 64)),i64 (.lit 0)] [(100,.row [] 3 (.op .add .i64 (.tn (v 51)) (.lit 64)))]:={}
theorem acC:Pc 24 35 [.code (bD Tryz.f24)] ([(0,cn)]) [] [] [] 19 [100] [0,3,4] vq [cn,.slice (some (eD 100 0)) (.lit 64) (.lit 64),i64 (.lit 0)] [(100,.cells [i64 (.lit 0),i64 (.lit 0),i64 (.lit 0),i64 (.lit 0),i64 (.lit 0),i64 (.lit 0),i64 (.lit 0),i64 (.lit 0),i64 (.lit 0),i64 (.lit 0),i64 (.lit 0),i64 (.lit 0),i64 (.lit 0),i64 (.lit 0),i64 (.lit 0),i64 (.lit 0),i64 (.lit 0),i64 (.lit 0),i64 (.lit 0),i64 (.lit 0),i64 (.lit 0),i64 (.lit 0),i64 (.lit 0),i64 (.lit 0),i64 (.lit 0),i64 (.lit 0),i64 (.lit 0),i64 (.lit 0),i64 (.lit 0),i64 (.lit 0),i64 (.lit 0),i64 (.lit 0),i64 (.lit 0),i64 (.lit 0),i64 (.lit 0),i64 (.lit 0),i64 (.lit 0),i64 (.lit 0),i64 (.lit 0),i64 (.lit 0),i64 (.lit 0),i64 (.lit 0),i64 (.lit 0),i64 (.lit 0),i64 (.lit 0),i64 (.lit 0),i64 (.lit 0),i64 (.lit 0),i64 (.lit 0),i64 (.lit 0),i64 (.lit 0),i64 (.lit 0),i64 (.lit 0),i64 (.lit 0),i64 (.lit 0),i64 (.lit 0),i64 (.lit 0),i64 (.lit 0),i64 (.lit 0),i64 (.lit 0),i64 (.lit 0),i64 (.lit 0),i64 (.lit 0),i64 (.lit 0)] 3)]:={}
abbrev RG:List (BE×Bool):=[((.cmp .lss (v 10) (.tn (v 61))),true),((.cmp .leq (.lit 0) (v 10)),true),((.cmp .lss (v 10) (.lit 0)),false),((.cmp .geq (v 10) (.tn (v 61))),false),((.cmp .lss (v 10) (.tn (v 51))),true),((.cmp .leq (.lit 0) (v 10)),true),((.cmp .lss (v 10) (.lit 0)),false),((.cmp .geq (v 10) (.tn (v 51))),false)]
noncomputable abbrev Iz:List (Nat×AV):=[(0,sA 50 53 51 52),(3,sA 60 63 61 62),(4,i64 (v 10))]
theorem ag6:Pc 24 35 vq (Iz) RG [(eC 50 53 10,i64 (v 11))] [] 28 [] [0,3,4,25,24] [.inRegion (opsOf (gJ 3730)) [7],.inBlock 1,.code (gJ 467),.inLoop (gJ 116),.inBlock 0,.code (gJ 15)] [sA 50 53 51 52,sA 60 63 61 62,i64 (v 10),.ptr (some (eC 60 63 10)),i64 (v 11)] []:={}
theorem ag7:j7 35 (opsOf (gJ 3730)) 7 [] (.store 3 (.tmp 25) (.tmp 24)) 0 none:={}
noncomputable abbrev vr:List AV:=[.bF 0,sA 60 63 61 62,i64 (.op .add .i64 (v 10) (.lit 1))]
noncomputable abbrev q_:List (Nat×AV):=[(0,.bF 0),(3,sA 60 63 61 62),(4,i64 (v 10))]
theorem acD:Pc 24 35 [.inRegion (opsOf (gJ 3730)) [],.inBlock 1,.code (gJ 467),.inLoop (gJ 116),.inBlock 0,.code (gJ 15)] (q_) [] [] [] 8 [] [0,3,4] vq vr []:={}
theorem ag8(z:Bool):Pc 24 35 vq ([(0,cU z 50 53 51 52),(3,sA 60 63 61 62),(4,i64 (v 10))]) (fo 10 61++[((.cmp .lss (v 10) (dO z 51)),false)]) [] [] 24 [] [0,3,4,26,27,28] [.inRegion (opsOf (gJ 3731)) [3,4,5],.inBlock 1,.code (gJ 467),.inLoop (gJ 116),.inBlock 0,.code (gJ 15)] [cU z 50 53 51 52,sA 60 63 61 62,i64 (v 10),sA 60 63 61 62,i64 (v 10),i64 (v 10)] []:=by cases z<;>exact{}
theorem ag9:dy 35 (opsOf (gJ 3731)) 3 [(28,.bF 28)] 25 [i64 (.lit 9),.bF 28] 29:={}
noncomputable abbrev V4:List (Nat×AV):=[(0,.bF 0),(3,sA 60 63 61 62),(4,i64 (v 10)),(26,sA 60 63 61 62),(27,i64 (v 10)),(29,i64 (v 12))]
theorem ag_:Pc 24 35 [.inRegion (opsOf (gJ 3731)) [4,5],.inBlock 1,.code (gJ 467),.inLoop (gJ 116),.inBlock 0,.code (gJ 15)] (V4) (fo 10 61) [] [] 1 [] [0,3,4,30,29] [.inRegion (opsOf (gJ 3731)) [5],.inBlock 1,.code (gJ 467),.inLoop (gJ 116),.inBlock 0,.code (gJ 15)] [.bF 0,sA 60 63 61 62,i64 (v 10),.ptr (some (eC 60 63 10)),i64 (v 12)] []:={}
theorem ag':j7 35 (opsOf (gJ 3731)) 5 [] (.store 3 (.tmp 30) (.tmp 29)) 0 none:={}
theorem acE:Pc 24 35 [.inRegion (opsOf (gJ 3731)) [],.inBlock 1,.code (gJ 467),.inLoop (gJ 116),.inBlock 0,.code (gJ 15)] (q_) [] [] [] 8 [] [0,3,4] vq vr []:={}
abbrev tP:List (BE×Bool):=[((.cmp .lss (v 10) (.tn (v 61))),false)]
theorem aha(z:Bool):Pc 24 35 vq ([(0,cU z 50 53 51 52),(3,sA 60 63 61 62),(4,i64 (v 10))]) tP [] [] 15 [] [31,33] [.inRegion (opsOf (gJ 30)) [3,4],.code .ret] [sA 60 63 61 62,i64 (dO z 51)] []:=by cases z<;>exact{}
theorem ahb:j7 35 (opsOf (gJ 30)) 3 [] (.slice 23 (.tmp 31) none (some (.tmp 33)) none) 23 (some 34):={}
theorem ahc:Pc 24 35 [.inRegion (opsOf (gJ 30)) [4],.code .ret] ([(34,.bF 7)]) [] [] [] 2 [] [2] [.code .ret] [.bF 7] []:={}
noncomputable def gK(l:Nat):Code:=pc (bD Tryz.f65) (pd l)
theorem Gw:bT Tryz.prog 65 [.bF 0] .normal=.ok ⟨65,36,c_ 65 [.bF 0],[.code (bD Tryz.f65)],[],.run,.normal⟩:=by kernel_rfl
theorem Om:dL 65 36 2:=fun st=>by kernel_rfl
noncomputable abbrev qf:List Item:=[.code (gK 116),.inLoop (gK 116),.inBlock 0,.code (gK 15)]
theorem ahd:Pc 65 36 [.code (bD Tryz.f65)] ([(0,sA 50 53 51 52)]) RF [] [] 19 [100] [0,3,4] qf [sA 50 53 51 52,.slice (some (eD 100 0)) (.op .add .i64 (.tn (v 51)) (.lit 64)) (.op .add .i64 (.tn (v 51)) (.lit 64)),i64 (.lit 0)] [(100,.row [] 77 (.op .add .i64 (.tn (v 51)) (.lit 64)))]:={}
noncomputable abbrev kz0:List (Nat×bQ):=[(100,.cells [i8 (.lit 0),i64 (.lit 0),i64 (.lit 0),i64 (.lit 0),i8 (.lit 0),i64 (.lit 0),i64 (.lit 0),i64 (.lit 0),i8 (.lit 0),i64 (.lit 0),i64 (.lit 0),i64 (.lit 0),i8 (.lit 0),i64 (.lit 0),i64 (.lit 0),i64 (.lit 0),i8 (.lit 0),i64 (.lit 0),i64 (.lit 0),i64 (.lit 0),i8 (.lit 0),i64 (.lit 0),i64 (.lit 0),i64 (.lit 0),i8 (.lit 0),i64 (.lit 0),i64 (.lit 0),i64 (.lit 0),i8 (.lit 0),i64 (.lit 0),i64 (.lit 0),i64 (.lit 0),i8 (.lit 0),i64 (.lit 0),i64 (.lit 0),i64 (.lit 0),i8 (.lit 0),i64 (.lit 0),i64 (.lit 0),i64 (.lit 0),i8 (.lit 0),i64 (.lit 0),i64 (.lit 0),i64 (.lit 0),i8 (.lit 0),i64 (.lit 0),i64 (.lit 0),i64 (.lit 0),i8 (.lit 0),i64 (.lit 0),i64 (.lit 0),i64 (.lit 0),i8 (.lit 0),i64 (.lit 0),i64 (.lit 0),i64 (.lit 0),i8 (.lit 0),i64 (.lit 0),i64 (.lit 0),i64 (.lit 0),i8 (.lit 0),i64 (.lit 0),i64 (.lit 0),i64 (.lit 0),i8 (.lit 0),i64 (.lit 0),i64 (.lit 0),i64 (.lit 0),i8 (.lit 0),i64 (.lit 0),i64 (.lit 0),i64 (.lit 0),i8 (.lit 0),i64 (.lit 0),i64 (.lit 0),i64 (.lit 0),i8 (.lit 0),i64 (.lit 0),i64 (.lit 0),i64 (.lit 0),i8 (.lit 0),i64 (.lit 0),i64 (.lit 0),i64 (.lit 0),i8 (.lit 0),i64 (.lit 0),i64 (.lit 0),i64 (.lit 0),i8 (.lit 0),i64 (.lit 0),i64 (.lit 0),i64 (.lit 0),i8 (.lit 0),i64 (.lit 0),i64 (.lit 0),i64 (.lit 0),i8 (.lit 0),i64 (.lit 0),i64 (.lit 0),i64 (.lit 0),i8 (.lit 0),i64 (.lit 0),i64 (.lit 0),i64 (.lit 0),i8 (.lit 0),i64 (.lit 0),i64 (.lit 0),i64 (.lit 0),i8 (.lit 0),i64 (.lit 0),i64 (.lit 0),i64 (.lit 0),i8 (.lit 0),i64 (.lit 0),i64 (.lit 0),i64 (.lit 0),i8 (.lit 0),i64 (.lit 0),i64 (.lit 0),i64 (.lit 0),i8 (.lit 0),i64 (.lit 0),i64 (.lit 0),i64 (.lit 0),i8 (.lit 0),i64 (.lit 0),i64 (.lit 0),i64 (.lit 0),i8 (.lit 0),i64 (.lit 0),i64 (.lit 0),i64 (.lit 0),i8 (.lit 0),i64 (.lit 0),i64 (.lit 0),i64 (.lit 0),i8 (.lit 0),i64 (.lit 0),i64 (.lit 0),i64 (.lit 0),i8 (.lit 0),i64 (.lit 0),i64 (.lit 0),i64 (.lit 0),i8 (.lit 0),i64 (.lit 0),i64 (.lit 0),i64 (.lit 0),i8 (.lit 0),i64 (.lit 0),i64 (.lit 0),i64 (.lit 0),i8 (.lit 0),i64 (.lit 0),i64 (.lit 0),i64 (.lit 0),i8 (.lit 0),i64 (.lit 0),i64 (.lit 0),i64 (.lit 0),i8 (.lit 0),i64 (.lit 0),i64 (.lit 0),i64 (.lit 0),i8 (.lit 0),i64 (.lit 0),i64 (.lit 0),i64 (.lit 0),i8 (.lit 0),i64 (.lit 0),i64 (.lit 0),i64 (.lit 0),i8 (.lit 0),i64 (.lit 0),i64 (.lit 0),i64 (.lit 0),i8 (.lit 0),i64 (.lit 0),i64 (.lit 0),i64 (.lit 0),i8 (.lit 0),i64 (.lit 0),i64 (.lit 0),i64 (.lit 0),i8 (.lit 0),i64 (.lit 0),i64 (.lit 0),i64 (.lit 0),i8 (.lit 0),i64 (.lit 0),i64 (.lit 0),i64 (.lit 0),i8 (.lit 0),i64 (.lit 0),i64 (.lit 0),i64 (.lit 0),i8 (.lit 0),i64 (.lit 0),i64 (.lit 0),i64 (.lit 0),i8 (.lit 0),i64 (.lit 0),i64 (.lit 0),i64 (.lit 0),i8 (.lit 0),i64 (.lit 0),i64 (.lit 0),i64 (.lit 0),i8 (.lit 0),i64 (.lit 0),i64 (.lit 0),i64 (.lit 0),i8 (.lit 0),i64 (.lit 0),i64 (.lit 0),i64 (.lit 0),i8 (.lit 0),i64 (.lit 0),i64 (.lit 0),i64 (.lit 0),i8 (.lit 0),i64 (.lit 0),i64 (.lit 0),i64 (.lit 0),i8 (.lit 0),i64 (.lit 0),i64 (.lit 0),i64 (.lit 0),i8 (.lit 0),i64 (.lit 0),i64 (.lit 0),i64 (.lit 0),i8 (.lit 0),i64 (.lit 0),i64 (.lit 0),i64 (.lit 0),i8 (.lit 0),i64 (.lit 0),i64 (.lit 0),i64 (.lit 0),i8 (.lit 0),i64 (.lit 0),i64 (.lit 0),i64 (.lit 0),i8 (.lit 0),i64 (.lit 0),i64 (.lit 0),i64 (.lit 0),i8 (.lit 0),i64 (.lit 0),i64 (.lit 0),i64 (.lit 0),i8 (.lit 0),i64 (.lit 0),i64 (.lit 0),i64 (.lit 0)] 77)]
theorem acF:Pc 65 36 [.code (bD Tryz.f65)] ([(0,cn)]) [] [] [] 19 [100] [0,3,4] qf [cn,.slice (some (eD 100 0)) (.lit 64) (.lit 64),i64 (.lit 0)] kz0:={}
theorem ahe:Pc 65 36 qf (Iz) RG Dt [] 28 [] [0,3,4,25,24] [.inRegion (opsOf (gK 3730)) [7],.inBlock 1,.code (gK 467),.inLoop (gK 116),.inBlock 0,.code (gK 15)] [sA 50 53 51 52,sA 60 63 61 62,i64 (v 10),.ptr (some (eB 60 63 10 4)),.agg [i8 (v 11),i64 (v 12),i64 (v 13),i64 (v 14)]] []:={}
theorem ahf:j7 36 (opsOf (gK 3730)) 7 [] (.store 77 (.tmp 25) (.tmp 24)) 0 none:={}
theorem acG:Pc 65 36 [.inRegion (opsOf (gK 3730)) [],.inBlock 1,.code (gK 467),.inLoop (gK 116),.inBlock 0,.code (gK 15)] (q_) [] [] [] 8 [] [0,3,4] qf vr []:={}
noncomputable abbrev acH:List Item:=[.inRegion (opsOf (gK 3731)) [3,4,5,6],.inBlock 1,.code (gK 467),.inLoop (gK 116),.inBlock 0,.code (gK 15)]
theorem ahg(z:Bool):Pc 65 36 qf ([(0,cU z 50 53 51 52),(3,sA 60 63 61 62),(4,i64 (v 10))]) (fo 10 61++[((.cmp .lss (v 10) (dO z 51)),false)]) [] [] 24 [] [0,3,4,26,27,28] acH [cU z 50 53 51 52,sA 60 63 61 62,i64 (v 10),sA 60 63 61 62,i64 (v 10),i64 (v 10)] []:=by cases z<;>exact{}
theorem acI:dy 36 (opsOf (gK 3731)) 3 [(28,.bF 28)] 25 [i64 (.lit 9),.bF 28] 29:={}
theorem acJ:Pc 65 36 [.inRegion (opsOf (gK 3731)) [4,5,6],.inBlock 1,.code (gK 467),.inLoop (gK 116),.inBlock 0,.code (gK 15)] (V4) (fo 10 61) [] [] 2 [] [0,3,4,31,30] [.inRegion (opsOf (gK 3731)) [6],.inBlock 1,.code (gK 467),.inLoop (gK 116),.inBlock 0,.code (gK 15)] [.bF 0,sA 60 63 61 62,i64 (v 10),.ptr (some (eB 60 63 10 4)),.agg [i8 (.lit 0),i64 (.lit 0),i64 (.lit 0),i64 (v 12)]] []:={}
theorem acK:j7 36 (opsOf (gK 3731)) 6 [] (.store 77 (.tmp 31) (.tmp 30)) 0 none:={}
theorem TQ:Pc 65 36 [.inRegion (opsOf (gK 3731)) [],.inBlock 1,.code (gK 467),.inLoop (gK 116),.inBlock 0,.code (gK 15)] (q_) [] [] [] 8 [] [0,3,4] qf vr []:={}
noncomputable abbrev On:List Item:=[.inRegion (opsOf (gK 30)) [3,4],.code .ret]
theorem ahh(z:Bool):Pc 65 36 qf ([(0,cU z 50 53 51 52),(3,sA 60 63 61 62),(4,i64 (v 10))]) tP [] [] 15 [] [32,34] On [sA 60 63 61 62,i64 (dO z 51)] []:=by cases z<;>exact{}
theorem acL:j7 36 (opsOf (gK 30)) 3 [] (.slice 48 (.tmp 32) none (some (.tmp 34)) none) 48 (some 35):={}
theorem acM:Pc 65 36 [.inRegion (opsOf (gK 30)) [4],.code .ret] ([(35,.bF 7)]) [] [] [] 2 [] [2] [.code .ret] [.bF 7] []:={}
noncomputable def nQ(l:Nat):Code:=pc (bD Tryz.f9) (pd l)
theorem TR:bT Tryz.prog 9 [.bF 0] .normal=.ok ⟨9,36,c_ 9 [.bF 0],[.code (bD Tryz.f9)],[],.run,.normal⟩:=by kernel_rfl
theorem acN:dL 9 36 2:=fun st=>by kernel_rfl
noncomputable abbrev vt:List Item:=[.code (nQ 116),.inLoop (nQ 116),.inBlock 0,.code (nQ 15)]
theorem ahi:Pc 9 36 [.code (bD Tryz.f9)] ([(0,sA 50 53 51 52)]) RF [] [] 19 [100] [0,3,4] vt [sA 50 53 51 52,.slice (some (eD 100 0)) (.op .add .i64 (.tn (v 51)) (.lit 64)) (.op .add .i64 (.tn (v 51)) (.lit 64)),i64 (.lit 0)] [(100,.row [] 43 (.op .add .i64 (.tn (v 51)) (.lit 64)))]:={}
theorem acO:Pc 9 36 [.code (bD Tryz.f9)] ([(0,cn)]) [] [] [] 19 [100] [0,3,4] vt [cn,.slice (some (eD 100 0)) (.lit 64) (.lit 64),i64 (.lit 0)] [(100,.cells [i8 (.lit 0),i64 (.lit 0),i8 (.lit 0),i64 (.lit 0),i8 (.lit 0),i64 (.lit 0),i8 (.lit 0),i64 (.lit 0),i8 (.lit 0),i64 (.lit 0),i8 (.lit 0),i64 (.lit 0),i8 (.lit 0),i64 (.lit 0),i8 (.lit 0),i64 (.lit 0),i8 (.lit 0),i64 (.lit 0),i8 (.lit 0),i64 (.lit 0),i8 (.lit 0),i64 (.lit 0),i8 (.lit 0),i64 (.lit 0),i8 (.lit 0),i64 (.lit 0),i8 (.lit 0),i64 (.lit 0),i8 (.lit 0),i64 (.lit 0),i8 (.lit 0),i64 (.lit 0),i8 (.lit 0),i64 (.lit 0),i8 (.lit 0),i64 (.lit 0),i8 (.lit 0),i64 (.lit 0),i8 (.lit 0),i64 (.lit 0),i8 (.lit 0),i64 (.lit 0),i8 (.lit 0),i64 (.lit 0),i8 (.lit 0),i64 (.lit 0),i8 (.lit 0),i64 (.lit 0),i8 (.lit 0),i64 (.lit 0),i8 (.lit 0),i64 (.lit 0),i8 (.lit 0),i64 (.lit 0),i8 (.lit 0),i64 (.lit 0),i8 (.lit 0),i64 (.lit 0),i8 (.lit 0),i64 (.lit 0),i8 (.lit 0),i64 (.lit 0),i8 (.lit 0),i64 (.lit 0),i8 (.lit 0),i64 (.lit 0),i8 (.lit 0),i64 (.lit 0),i8 (.lit 0),i64 (.lit 0),i8 (.lit 0),i64 (.lit 0),i8 (.lit 0),i64 (.lit 0),i8 (.lit 0),i64 (.lit 0),i8 (.lit 0),i64 (.lit 0),i8 (.lit 0),i64 (.lit 0),i8 (.lit 0),i64 (.lit 0),i8 (.lit 0),i64 (.lit 0),i8 (.lit 0),i64 (.lit 0),i8 (.lit 0),i64 (.lit 0),i8 (.lit 0),i64 (.lit 0),i8 (.lit 0),i64 (.lit 0),i8 (.lit 0),i64 (.lit 0),i8 (.lit 0),i64 (.lit 0),i8 (.lit 0),i64 (.lit 0),i8 (.lit 0),i64 (.lit 0),i8 (.lit 0),i64 (.lit 0),i8 (.lit 0),i64 (.lit 0),i8 (.lit 0),i64 (.lit 0),i8 (.lit 0),i64 (.lit 0),i8 (.lit 0),i64 (.lit 0),i8 (.lit 0),i64 (.lit 0),i8 (.lit 0),i64 (.lit 0),i8 (.lit 0),i64 (.lit 0),i8 (.lit 0),i64 (.lit 0),i8 (.lit 0),i64 (.lit 0),i8 (.lit 0),i64 (.lit 0),i8 (.lit 0),i64 (.lit 0),i8 (.lit 0),i64 (.lit 0),i8 (.lit 0),i64 (.lit 0)] 43)]:={}
noncomputable abbrev DN:List (AA×AV):=[(eB 50 53 10 2,i8 (v 11)),(eA 50 53 10 2 1,i64 (v 12))]
theorem ahj:Pc 9 36 vt (Iz) RG DN [] 28 [] [0,3,4,25,24] [.inRegion (opsOf (nQ 3730)) [7],.inBlock 1,.code (nQ 467),.inLoop (nQ 116),.inBlock 0,.code (nQ 15)] [sA 50 53 51 52,sA 60 63 61 62,i64 (v 10),.ptr (some (eB 60 63 10 2)),.agg [i8 (v 11),i64 (v 12)]] []:={}
theorem ahk:j7 36 (opsOf (nQ 3730)) 7 [] (.store 43 (.tmp 25) (.tmp 24)) 0 none:={}
theorem acP:Pc 9 36 [.inRegion (opsOf (nQ 3730)) [],.inBlock 1,.code (nQ 467),.inLoop (nQ 116),.inBlock 0,.code (nQ 15)] (q_) [] [] [] 8 [] [0,3,4] vt vr []:={}
theorem ahl(z:Bool):Pc 9 36 vt ([(0,cU z 50 53 51 52),(3,sA 60 63 61 62),(4,i64 (v 10))]) (fo 10 61++[((.cmp .lss (v 10) (dO z 51)),false)]) [] [] 24 [] [0,3,4,26,27,28] [.inRegion (opsOf (nQ 3731)) [3,4,5,6],.inBlock 1,.code (nQ 467),.inLoop (nQ 116),.inBlock 0,.code (nQ 15)] [cU z 50 53 51 52,sA 60 63 61 62,i64 (v 10),sA 60 63 61 62,i64 (v 10),i64 (v 10)] []:=by cases z<;>exact{}
theorem ahm:dy 36 (opsOf (nQ 3731)) 3 [(28,.bF 28)] 25 [i64 (.lit 9),.bF 28] 29:={}
theorem ahn:Pc 9 36 [.inRegion (opsOf (nQ 3731)) [4,5,6],.inBlock 1,.code (nQ 467),.inLoop (nQ 116),.inBlock 0,.code (nQ 15)] (V4) (fo 10 61) [] [] 2 [] [0,3,4,31,30] [.inRegion (opsOf (nQ 3731)) [6],.inBlock 1,.code (nQ 467),.inLoop (nQ 116),.inBlock 0,.code (nQ 15)] [.bF 0,sA 60 63 61 62,i64 (v 10),.ptr (some (eB 60 63 10 2)),.agg [i8 (.lit 0),i64 (v 12)]] []:={}
theorem aho:j7 36 (opsOf (nQ 3731)) 6 [] (.store 43 (.tmp 31) (.tmp 30)) 0 none:={}
theorem acQ:Pc 9 36 [.inRegion (opsOf (nQ 3731)) [],.inBlock 1,.code (nQ 467),.inLoop (nQ 116),.inBlock 0,.code (nQ 15)] (q_) [] [] [] 8 [] [0,3,4] vt vr []:={}
theorem ahp(z:Bool):Pc 9 36 vt ([(0,cU z 50 53 51 52),(3,sA 60 63 61 62),(4,i64 (v 10))]) tP [] [] 15 [] [32,34] [.inRegion (opsOf (nQ 30)) [3,4],.code .ret] [sA 60 63 61 62,i64 (dO z 51)] []:=by cases z<;>exact{}
theorem ahq:j7 36 (opsOf (nQ 30)) 3 [] (.slice 28 (.tmp 32) none (some (.tmp 34)) none) 28 (some 35):={}
theorem ahr:Pc 9 36 [.inRegion (opsOf (nQ 30)) [4],.code .ret] ([(35,.bF 7)]) [] [] [] 2 [] [2] [.code .ret] [.bF 7] []:={}
section
variable {w:World}{cs:List Frame}{fr:Frame}{fn nt i:Nat}{ops:Array Oper}{l:List Nat}{k:List Item}{lv:List (Nat×Value)}
theorem Gx{E:Value->World->Prop}{B off el:Nat}:∀(cs:List Value) (j:Nat) {w:World} {arr:Array Value} {P rest:List Value} {Q:Unit->World->Prop},w.heap[B]?=some (.cells arr el (0,0))->arr.toList=P++rest->off+j=P.length->cs.length≤rest.length->(∀x∈cs,x.oneCell'=true)->
  (∀w' gx,bU (fun b=>b=B) w w'->w'.heap[B]?=some (.cells gx el (0,0))->gx.toList=(P++cs)++rest.drop cs.length->gx.size=arr.size->Q () w')->wq Tryz.prog (fun _=>True) E (storeCells ⟨B,off,none⟩ cs j) Q w
 |[],j,w,arr,P,rest,Q,g1,g3,hj,hl,ho,hq=>by simp only[storeCells,bI];exact hq w arr (bU.refl _ _) g1 (by simpa using g3) rfl
 |x::r,j,w,arr,P,rest,Q,g1,g3,hj,hl,ho,hq=>by
  match rest,hl with
  |y::rest,hl=>
  have hsz:P.length<arr.size:=by have:=congrArg aR g3;rw[an,aC]at this;have:arr.size=arr.toList.length:=rfl;omega
  simp only[storeCells,bH];have a0:(⟨B,off,none⟩:Addr).add j=⟨B,P.length,none⟩:=by
   unfold Addr.add;by_cases h0:j=0
   ·rw[if_pos h0,<-hj,h0];rfl
   ·rw[if_neg h0,hj]
  rw[pH,a0];refine⟨ho x (aj ..),⟨_,(iN g1).trans (aS hsz)⟩,gv g1,trivial,?_⟩;have zV:(w.setCell ⟨B,P.length,none⟩ x).heap[B]?=some (.cells (arr.setIfInBounds P.length x) el (0,0)):=by rw[heap_setCell,if_pos rfl,g1];rfl
  refine Gx r (j+1) (P:=P++[x]) (rest:=rest) zV (by rw[Array.toList_setIfInBounds,g3,List.set_append_right _ _ (ay _),Nat.sub_self];simp) (by rw[an];simp;omega) (by simpa using hl) (fun y hy=>ho y (af _ hy)) fun w' gx kp h1 h2 h3=>hq w' gx ?_ h1 (by rw[h2];simp) (by rw[h3];simp)
  exact bU.trans (w':=w.setCell ⟨B,P.length,none⟩ x) ⟨fun m hm=>by rw[heap_setCell,if_neg (fun x=>hm x)],by rw[size_setCell];exact ay _,rfl,rfl,rfl⟩ kp
theorem gm{B c p q T el sz:Nat}{V:Value}{P cs':List Value}(O:j7 nt ops i [] (.store T (.tmp p) (.tmp q)) 0 none)(hS:sizeOf? Tryz.prog T=.ok sz)(hI:(Tryz.prog.info? el).map (fun x=>x.size)=some sz)(hV:V.cells.toList=cs')(hV2:V.cells.size=sz)(hO:∀x∈cs',x.oneCell'=true)(hf:FA fn nt (.inRegion ops (i::l)::k) [] .normal lv fr)(hp:gh p lv=some (.pointer (some ⟨B,P.length,none⟩)))(hq:gh q lv=some V)(hB:(cy.vec el c P).at Tryz.prog w B)(h1:P.length+sz≤c*sz):
  Goes (G fr cs) w fun g' w'=>∃fr',g'=G fr' cs∧(bU (fun b=>b=B) w w'∧(cy.vec el c (P++cs')).at Tryz.prog w' B)∧FA fn nt (.inRegion ops l::k) [] .normal lv fr':=by
 obtain⟨arr,rest,inf,g1,g2,g3,g4⟩:=hB;have hsz:inf.size=sz:=by rw[g2]at hI;exact au hI
 have hcl:cs'.length=sz:=by rw[<-hV,<-hV2];rfl
 have qa:cs'.length≤rest.length:=by have:=congrArg aR g3;rw[an]at this;have e:arr.size=arr.toList.length:=rfl;rw[hsz]at g4;omega
 refine O.go0 (R:=fun w'=>bU (fun b=>b=B) w w'∧(cy.vec el c (P++cs')).at Tryz.prog w' B) (bO [] [] []) hf rfl fun tm ir x e1 e2=>?_;unfold execOp;simp only[e1,bH,Instr.storeAt];rw[ir p _ hp,ir q _ hq];simp only[Instr.sureAddr,bI,storeVar,bH,c9 (n:=sz) hS];rw[if_neg (fun h=>h hV2)];rw[hV];refine Gx cs' 0 g1 g3 rfl qa hO fun w' gx kp h1 h2 h3=>?_;exact⟨trivial,kp,gx,rest.drop cs'.length,inf,h1,g2,h2,by rw[h3];exact g4⟩
end
theorem lS{w:World}{n:Nat}(h:n≤4294967296):dV 25 #[iV 9,iV n] w fun v w'=>bA w w'∧v=iV (9437185+n:Nat):=by
 refine(zna.iY V2 (bO [(10,9),(11,n)] [] []) (dU V1 rfl (iV 9) (iV n)) rfl trivial trivial).mono fun v w' hd=>?_;obtain⟨f,I,B,e,_⟩:=hd;refine⟨f,?_⟩;rw[e];show Value.int .i64 (iz .add .i64 (iz .add .i64 (iz .mul .i64 1048576 9) (n:Int)) 1)=_;have e1:iz .mul .i64 1048576 9=9437184:=by decide
 have e2:iz .add .i64 9437184 (n:Int)=((9437184+n:Nat):Int):=by show IntKind.wrap .i64 (9437184+(n:Int))=_;rw[iT (by omega)];omega
 rw[e1,e2,inc (by omega),show 9437184+n+1=9437185+n by omega];rfl
theorem tQ{w:World}{B el c:Nat}{l:List Value}{sz:Nat}(h:(cy.obj el l).at Tryz.prog w B)(hI:(Tryz.prog.info? el).map (fun x=>x.size)=some sz)(hl:l.length=c*sz):(cy.vec el c []).at Tryz.prog w B:=by
 obtain⟨arr,h1,h2⟩:=h;cases e:Tryz.prog.info? el with
 |none=>rw[e]at hI;cases hI
 |some inf=>rw[e]at hI;have:inf.size=sz:=au hI;refine⟨arr,l,inf,h1,e,h2,?_⟩;rw[this,<-hl,<-h2];rfl
theorem lG{n:Nat}(h:n≤4294967000):iz .add .i64 (n:Int) 64=((n+64:Nat):Int):=by show IntKind.wrap .i64 ((n:Int)+64)=_;rw[iT (by omega)];omega
def tR(n:Nd):List Value:=[cY n.op,iV n.n,iV n.kids,iV n.cj]
def tS(l:List Int)(i:Nat):List Value:=match l[i]? with
 |some x=>[iV x]
 |none=>(fun(x:Int)=>[iV x]) ((9437185+i:Nat):Int)
def mL(l:List Int)(n:Nat):List Value:=(List.range n).flatMap (tS l)
theorem ym(l:List Int)(i:Nat):(tS l i).length=1:=by unfold tS;split<;>rfl
theorem sq(l:List Int)(n:Nat):mL l (n+1)=mL l n++tS l n:=by unfold mL;rw[List.range_succ,List.flatMap_append];simp
theorem AJ(l:List Int):∀n,(mL l n).length=n*1
 |0=>by simp[mL]
 |n+1=>by rw[sq,an,AJ l n,ym];omega
noncomputable abbrev acR:List Item:=vq
noncomputable abbrev Oo(r:List Item):List Item:=r++[.inBlock 1,.code (gJ 467),.inLoop (gJ 116),.inBlock 0,.code (gJ 15)]
section
variable {w0:World}{B:Nat}
theorem yo{z:Bool}{A o c':Nat}{l:List Int}(hz:z=true->l=[])(hel:∀i n,l[i]?=some n->w0.cell? ⟨A,o+i,none⟩=some (iV n))(hlen:l.length≤4294967000)(hB:w0.heap.size≤B):
  ∀(m i:Nat) {w:World} {cs:List Frame} {fr:Frame},i+m=l.length+64->bA w0 w->(cy.vec 3 (l.length+64) (mL l i)).at Tryz.prog w B->FA 24 35 acR [] .normal [(0,ew z A o l.length c'),(3,bS B 0 (l.length+64) (l.length+64)),(4,iV i)] fr->
  Goes (G fr cs) w fun g' w'=>∃fr',g'=G fr' cs∧(bA w0 w'∧(cy.vec 3 (l.length+64) (mL l (l.length+64))).at Tryz.prog w' B)∧de 24 fr' w' (bS B 0 l.length (l.length+64))
 |0,i,w,cs,fr,hi,fw,hv,hf=>by
  obtain rfl:i=l.length+64:=by omega
  obtain⟨ρ,hρ⟩:∃ρ:Env,ρ=bO [(51,l.length),(52,c'),(53,o),(61,(l.length+64:Nat)),(62,(l.length+64:Nat)),(63,0),(10,(l.length+64:Nat))] [(50,A),(60,B)] []:=⟨_,rfl⟩;refine((aha z).go ρ hf (by rw[hρ];cases z<;>rfl) ⟨by rw[hρ];exact decide_eq_false (by show ¬(((l.length+64:Nat):Int)<(((l.length+64:Nat):Nat):Int));omega),trivial⟩ trivial).trans fun g1 w1 hd=>?_;obtain⟨I,B1,bR,rfl,f1,F1,_⟩:=hd;have fN:FA 24 35 [.inRegion (opsOf (gJ 30)) [3,4],.code .ret] [] .normal [(31,bS B 0 (l.length+64) (l.length+64)),(33,iV l.length)] bR:=by
   rw[hρ]at F1;cases z with
   |false=>exact F1
   |true=>rw[hz rfl]at F1⊢;exact F1
  refine(ahb.go (R:=fun y w'=>y=bS B 0 l.length (l.length+64)∧w'=w1) (bO [] [] []) fN (by decide) rfl fun tm ir x' e1 e2=>?_).trans fun g2 w2 b_=>?_
  ·unfold execOp;simp only[e1,bH,av,aM];rw[ir 31 _ rfl,ir 33 (iV l.length) rfl];exact qD (z:=false) (t:=23) (elem:=3) (size:=1) (by kernel_rfl) (by kernel_rfl) (show l.length≤l.length+64 by omega) (fun h=>by cases h) (fun _=>ay _) ⟨_,rfl,rfl,rfl⟩
  obtain⟨cE,y,rfl,⟨rfl,rfl⟩,F2⟩:=b_;refine(ahc.go (bO [] [] [(7,bS B 0 l.length (l.length+64))]) F2 rfl trivial trivial).trans fun g3 w3 cv=>?_;obtain⟨I,B3,cF,rfl,f3,F3,_⟩:=cv;refine(leave1 V3 F3 rfl).mono fun g4 w4 dh=>?_;obtain⟨eO,rfl,rfl,hL⟩:=dh;exact⟨eO,rfl,⟨fw.trans (f1.trans f3),bP hv (f1.trans f3)⟩,hL⟩
 |m+1,i,w,cs,fr,hi,fw,hv,hf=>by
  have hic:i<l.length+64:=by omega
  have hP:=AJ l i;have next:∀{w1 w2:World} {cE:Frame},bA w w1->bU (fun b=>b=B) w1 w2->(cy.vec 3 (l.length+64) (mL l (i+1))).at Tryz.prog w2 B->(∃t,(t=Oo [.inRegion (opsOf (gJ 3730)) []]∨t=Oo [.inRegion (opsOf (gJ 3731)) []])∧FA 24 35 t [] .normal [(0,ew z A o l.length c'),(3,bS B 0 (l.length+64) (l.length+64)),(4,iV i)] cE)->
    Goes (G cE cs) w2 fun g' w'=>∃fr',g'=G fr' cs∧(bA w0 w'∧(cy.vec 3 (l.length+64) (mL l (l.length+64))).at Tryz.prog w' B)∧de 24 fr' w' (bS B 0 l.length (l.length+64)):=fun{w1 w2 cE} f1 kp kV ht=>by
   have jT:bA w0 w2:=cw (fw.trans f1) (kp.mono fun b hb=>by rw[hb];exact hB);obtain⟨t,ht,F2⟩:=ht;obtain⟨σ,cr⟩:∃σ:Env,σ=bO [(51,l.length),(52,c'),(53,o),(61,(l.length+64:Nat)),(62,(l.length+64:Nat)),(63,0),(10,i)] [(50,A),(60,B)] [(0,ew z A o l.length c')]:=⟨_,rfl⟩;rcases ht with rfl|rfl
   ·refine(acD.go σ F2 (by rw[cr];rfl) trivial trivial).trans fun g3 w3 cv=>?_;obtain⟨I,B3,cF,rfl,f3,F3,_⟩:=cv;rw[cr]at F3;refine yo (c':=c') hz hel hlen hB m (i+1) (by omega) (jT.trans f3) (bP kV f3) ?_;rw[<-inc (i:=i) (by omega)];exact F3
   ·refine(acE.go σ F2 (by rw[cr];rfl) trivial trivial).trans fun g3 w3 cv=>?_;obtain⟨I,B3,cF,rfl,f3,F3,_⟩:=cv;rw[cr]at F3;refine yo (c':=c') hz hel hlen hB m (i+1) (by omega) (jT.trans f3) (bP kV f3) ?_;rw[<-inc (i:=i) (by omega)];exact F3
  have BQ:∀{ρ:Env},ρ.i 10=(i:Int)->ρ.i 61=((l.length+64:Nat):Int)->cg ρ (fo 10 61):=fun h1 h2=>bX (i:=10) (n:=61) (I:=i) (N:=l.length+64) h1 h2 hic;by_cases hl:i<l.length
  ·cases z with
   |true=>rw[hz rfl]at hl;simp at hl
   |false=>
   obtain⟨x,hx⟩:∃x,l[i]?=some x:=⟨_,aa hl⟩;have hc:=fw.cell (hel i x hx);obtain⟨ρ,hρ⟩:∃ρ:Env,ρ=bO [(51,l.length),(52,c'),(53,o),(61,(l.length+64:Nat)),(62,(l.length+64:Nat)),(63,0),(10,i),(11,x)] [(50,A),(60,B)] []:=⟨_,rfl⟩;refine(ag6.go ρ hf (by rw[hρ];rfl) (cg.app (BQ (by rw[hρ];rfl) (by rw[hρ];rfl)) (bX (i:=10) (n:=51) (I:=i) (N:=l.length) (by rw[hρ];rfl) (by rw[hρ];rfl) hl)) ⟨by rw[hρ];exact hc,trivial⟩).trans fun g1 w1 hd=>?_;obtain⟨I,B1,bR,rfl,f1,F1,_⟩:=hd;have fN:FA 24 35 (Oo [.inRegion (opsOf (gJ 3730)) [7]]) [] .normal [(0,bS A o l.length c'),(3,bS B 0 (l.length+64) (l.length+64)),(4,iV i),(25,.pointer (some ⟨B,(mL l i).length,none⟩)),(24,iV x)] bR:=by rw[hP,show i*1=0+i by omega];rw[hρ]at F1;exact F1
   refine(gm (cs':=tS l i) (T:=3) (el:=3) (sz:=1) (V:=iV x) ag7 (by kernel_rfl) (by kernel_rfl) (by unfold tS;rw[hx];rfl) rfl (by unfold tS;rw[hx];intro y hy;simp only[ai,aA,or_false]at hy;subst hy;rfl) fN rfl rfl (bP hv f1) (by rw[hP];omega)).trans fun g2 w2 b_=>?_
   obtain⟨cE,rfl,⟨kp,kV⟩,F2⟩:=b_;rw[<-sq]at kV;exact next f1 kp kV ⟨_,.inl rfl,F2.only rfl⟩
  ·have hnone:l[i]?=none:=aQ (by omega);obtain⟨ρ,hρ⟩:∃ρ:Env,ρ=bO [(51,l.length),(52,c'),(53,o),(61,(l.length+64:Nat)),(62,(l.length+64:Nat)),(63,0),(10,i)] [(50,A),(60,B)] []:=⟨_,rfl⟩;refine((ag8 z).go ρ hf (by rw[hρ];cases z<;>rfl) (cg.app (BQ (by rw[hρ];rfl) (by rw[hρ];rfl)) ⟨by
    rw[hρ];cases z with
    |false=>exact decide_eq_false (by show ¬((i:Int)<((l.length:Nat):Int));omega)
    |true=>exact decide_eq_false (by show ¬((i:Int)<0);omega),trivial⟩) trivial).trans fun g1 w1 hd=>?_
   obtain⟨I,B1,bR,rfl,f1,F1,_⟩:=hd;have fN:FA 24 35 (Oo [.inRegion (opsOf (gJ 3731)) (3::4::[5])]) [] .normal [(0,ew z A o l.length c'),(3,bS B 0 (l.length+64) (l.length+64)),(4,iV i),(26,bS B 0 (l.length+64) (l.length+64)),(27,iV i),(28,iV i)] bR:=by rw[hρ]at F1;cases z<;>exact F1
   refine(ag9.go (bO [] [] [(28,iV i)]) (Q:=fun v w'=>v=iV (9437185+i:Nat)) fN rfl fun w' f=>lS (by omega)).trans fun g2 w2 b_=>?_;obtain⟨cE,vv,rfl,f2,rfl,F2⟩:=b_;obtain⟨τ,fS⟩:∃τ:Env,τ=bO [(61,(l.length+64:Nat)),(62,(l.length+64:Nat)),(63,0),(10,i),(12,(9437185+i:Nat)),(51,l.length),(52,c'),(53,o)] [(50,A),(60,B)] [(0,ew z A o l.length c')]:=⟨_,rfl⟩;refine(ag_.go τ F2 (by rw[fS];rfl) (BQ (by rw[fS];rfl) (by rw[fS];rfl)) trivial).trans fun g3 w3 cv=>?_;obtain⟨I,B3,cF,rfl,f3,F3,_⟩:=cv;have qc:FA 24 35 (Oo [.inRegion (opsOf (gJ 3731)) [5]]) [] .normal [(0,ew z A o l.length c'),(3,bS B 0 (l.length+64) (l.length+64)),(4,iV i),(30,.pointer (some ⟨B,(mL l i).length,none⟩)),(29,iV ((9437185+i:Nat):Int))] cF:=by rw[hP,show i*1=0+i by omega];rw[fS]at F3;exact F3
   have f13:=f1.trans (f2.trans f3);refine(gm (cs':=tS l i) (T:=3) (el:=3) (sz:=1) (V:=iV ((9437185+i:Nat):Int)) ag' (by kernel_rfl) (by kernel_rfl) (by unfold tS;rw[hnone];rfl) rfl (by unfold tS;rw[hnone];intro y hy;simp only[ai,aA,or_false]at hy;subst hy;rfl) qc rfl rfl (bP hv f13) (by rw[hP];omega)).trans fun g4 w4 dh=>?_
   obtain⟨eO,rfl,⟨kp,DO⟩,F4⟩:=dh;rw[<-sq]at DO;exact next f13 kp DO ⟨_,.inr rfl,F4.only rfl⟩
variable {w:World}
theorem KH{s:Value}{l:List Int}(h:jq w s l)(hlen:l.length≤4294967000):dV 24 #[s] w fun v w'=>bA w w'∧∃B,w.heap.size≤B∧v=bS B 0 l.length (l.length+64)∧(cy.vec 3 (l.length+64) (mL l (l.length+64))).at Tryz.prog w' B:=by
 obtain⟨z,A,o,c',rfl,hz,_,hel⟩:=h.ex;refine cI fun cs=>?_;have fin:∀{w1:World} {bR:Frame} {B:Nat},bA w w1->w.heap.size≤B->(cy.vec 3 (l.length+64) []).at Tryz.prog w1 B->FA 24 35 acR [] .normal [(0,ew z A o l.length c'),(3,bS B 0 (l.length+64) (l.length+64)),(4,iV (0:Nat))] bR->Goes (G bR cs) w1 fun g' w'=>∃fr' v,g'=G fr' cs∧de 24 fr' w' v∧bA w w'∧∃B,w.heap.size≤B∧v=bS B 0 l.length (l.length+64)∧(cy.vec 3 (l.length+64) (mL l (l.length+64))).at Tryz.prog w' B:=fun{w1 bR B} f1 hB hv F1=>by refine(yo (w0:=w) hz hel hlen hB (l.length+64) 0 (by omega) f1 hv F1).mono fun g2 w2 b_=>?_;obtain⟨cE,rfl,⟨f2,kV⟩,hL⟩:=b_;exact⟨cE,_,rfl,hL,f2,B,hB,rfl,kV⟩
 cases z with
 |true=>have hl0:=hz rfl;refine(acC.go (bO [] [] []) (cC Ol rfl eH) rfl trivial trivial).trans fun g1 w1 hd=>?_;obtain⟨I,B,bR,rfl,f1,F1,bl,_⟩:=hd;refine fin f1 bl.1.1 ?_ (by rw[hl0];exact F1);rw[hl0];exact tQ (sz:=1) bl.1.2 (by kernel_rfl) rfl
 |false=>
  obtain⟨ρ,hρ⟩:∃ρ:Env,ρ=bO [(51,l.length),(52,c'),(53,o)] [(50,A)] []:=⟨_,rfl⟩;refine(ag5.go ρ (cC Ol rfl (bS A o l.length c')) (by rw[hρ];rfl) ⟨by
   rw[hρ];show decide (iz .add .i64 (l.length:Int) 64>4294967296)=false;rw[lG hlen];exact decide_eq_false (by omega),by
   rw[hρ];show decide (iz .add .i64 (l.length:Int) 64<0)=false;rw[lG hlen];exact decide_eq_false (by omega),trivial⟩ trivial).trans fun g1 w1 hd=>?_
  obtain⟨I,B,bR,rfl,f1,F1,bl,_⟩:=hd;rw[hρ]at F1 bl;have Oq:l.length+64=(iz .add .i64 (l.length:Int) 64).toNat:=by rw[lG hlen];rfl
  refine fin (B:=B 100) f1 bl.1.1 (by rw[Oq];exact bl.1.2) (by rw[Oq];exact F1)
end
def sr(l:List Nd)(i:Nat):List Value:=match l[i]? with
 |some x=>tR x
 |none=>(fun(x:Nd)=>tR x) (⟨0,0,0,((9437185+i:Nat):Int)⟩:Nd)
def jz(l:List Nd)(n:Nat):List Value:=(List.range n).flatMap (sr l)
theorem yp(l:List Nd)(i:Nat):(sr l i).length=4:=by unfold sr;split<;>rfl
theorem oL(l:List Nd)(n:Nat):jz l (n+1)=jz l n++sr l n:=by unfold jz;rw[List.range_succ,List.flatMap_append];simp
theorem uP(l:List Nd):∀n,(jz l n).length=n*4
 |0=>by simp[jz]
 |n+1=>by rw[oL,an,uP l n,yp];omega
noncomputable abbrev V5:List Item:=qf
noncomputable abbrev KI(r:List Item):List Item:=r++[.inBlock 1,.code (gK 467),.inLoop (gK 116),.inBlock 0,.code (gK 15)]
section
variable {w0:World}{B:Nat}
theorem yq{z:Bool}{A o c':Nat}{l:List Nd}(hz:z=true->l=[])(hel:∀i n,l[i]?=some n->iI w0 A (o+i*4) n)(hlen:l.length≤4294967000)(hB:w0.heap.size≤B):
  ∀(m i:Nat) {w:World} {cs:List Frame} {fr:Frame},i+m=l.length+64->bA w0 w->(cy.vec 77 (l.length+64) (jz l i)).at Tryz.prog w B->FA 65 36 V5 [] .normal [(0,ew z A o l.length c'),(3,bS B 0 (l.length+64) (l.length+64)),(4,iV i)] fr->
  Goes (G fr cs) w fun g' w'=>∃fr',g'=G fr' cs∧(bA w0 w'∧(cy.vec 77 (l.length+64) (jz l (l.length+64))).at Tryz.prog w' B)∧de 65 fr' w' (bS B 0 l.length (l.length+64))
 |0,i,w,cs,fr,hi,fw,hv,hf=>by
  obtain rfl:i=l.length+64:=by omega
  obtain⟨ρ,hρ⟩:∃ρ:Env,ρ=bO [(51,l.length),(52,c'),(53,o),(61,(l.length+64:Nat)),(62,(l.length+64:Nat)),(63,0),(10,(l.length+64:Nat))] [(50,A),(60,B)] []:=⟨_,rfl⟩;refine((ahh z).go ρ hf (by rw[hρ];cases z<;>rfl) ⟨by rw[hρ];exact decide_eq_false (by show ¬(((l.length+64:Nat):Int)<(((l.length+64:Nat):Nat):Int));omega),trivial⟩ trivial).trans fun g1 w1 hd=>?_;obtain⟨I,B1,bR,rfl,f1,F1,_⟩:=hd;have fN:FA 65 36 On [] .normal [(32,bS B 0 (l.length+64) (l.length+64)),(34,iV l.length)] bR:=by
   rw[hρ]at F1;cases z with
   |false=>exact F1
   |true=>rw[hz rfl]at F1⊢;exact F1
  refine(acL.go (R:=fun y w'=>y=bS B 0 l.length (l.length+64)∧w'=w1) (bO [] [] []) fN (by decide) rfl fun tm ir x' e1 e2=>?_).trans fun g2 w2 b_=>?_
  ·unfold execOp;simp only[e1,bH,av,aM];rw[ir 32 _ rfl,ir 34 (iV l.length) rfl];exact qD (z:=false) (t:=48) (elem:=77) (size:=4) (by kernel_rfl) (by kernel_rfl) (show l.length≤l.length+64 by omega) (fun h=>by cases h) (fun _=>ay _) ⟨_,rfl,rfl,rfl⟩
  obtain⟨cE,y,rfl,⟨rfl,rfl⟩,F2⟩:=b_;refine(acM.go (bO [] [] [(7,bS B 0 l.length (l.length+64))]) F2 rfl trivial trivial).trans fun g3 w3 cv=>?_;obtain⟨I,B3,cF,rfl,f3,F3,_⟩:=cv;refine(leave1 Om F3 rfl).mono fun g4 w4 dh=>?_;obtain⟨eO,rfl,rfl,hL⟩:=dh;exact⟨eO,rfl,⟨fw.trans (f1.trans f3),bP hv (f1.trans f3)⟩,hL⟩
 |m+1,i,w,cs,fr,hi,fw,hv,hf=>by
  have hic:i<l.length+64:=by omega
  have hP:=uP l i;have next:∀{w1 w2:World} {cE:Frame},bA w w1->bU (fun b=>b=B) w1 w2->(cy.vec 77 (l.length+64) (jz l (i+1))).at Tryz.prog w2 B->(∃t,(t=KI [.inRegion (opsOf (gK 3730)) []]∨t=KI [.inRegion (opsOf (gK 3731)) []])∧FA 65 36 t [] .normal [(0,ew z A o l.length c'),(3,bS B 0 (l.length+64) (l.length+64)),(4,iV i)] cE)->
    Goes (G cE cs) w2 fun g' w'=>∃fr',g'=G fr' cs∧(bA w0 w'∧(cy.vec 77 (l.length+64) (jz l (l.length+64))).at Tryz.prog w' B)∧de 65 fr' w' (bS B 0 l.length (l.length+64)):=fun{w1 w2 cE} f1 kp kV ht=>by
   have jT:bA w0 w2:=cw (fw.trans f1) (kp.mono fun b hb=>by rw[hb];exact hB);obtain⟨t,ht,F2⟩:=ht;obtain⟨σ,cr⟩:∃σ:Env,σ=bO [(51,l.length),(52,c'),(53,o),(61,(l.length+64:Nat)),(62,(l.length+64:Nat)),(63,0),(10,i)] [(50,A),(60,B)] [(0,ew z A o l.length c')]:=⟨_,rfl⟩;rcases ht with rfl|rfl
   ·refine(acG.go σ F2 (by rw[cr];rfl) trivial trivial).trans fun g3 w3 cv=>?_;obtain⟨I,B3,cF,rfl,f3,F3,_⟩:=cv;rw[cr]at F3;refine yq (c':=c') hz hel hlen hB m (i+1) (by omega) (jT.trans f3) (bP kV f3) ?_;rw[<-inc (i:=i) (by omega)];exact F3
   ·refine(TQ.go σ F2 (by rw[cr];rfl) trivial trivial).trans fun g3 w3 cv=>?_;obtain⟨I,B3,cF,rfl,f3,F3,_⟩:=cv;rw[cr]at F3;refine yq (c':=c') hz hel hlen hB m (i+1) (by omega) (jT.trans f3) (bP kV f3) ?_;rw[<-inc (i:=i) (by omega)];exact F3
  have BQ:∀{ρ:Env},ρ.i 10=(i:Int)->ρ.i 61=((l.length+64:Nat):Int)->cg ρ (fo 10 61):=fun h1 h2=>bX (i:=10) (n:=61) (I:=i) (N:=l.length+64) h1 h2 hic;by_cases hl:i<l.length
  ·cases z with
   |true=>rw[hz rfl]at hl;simp at hl
   |false=>
   obtain⟨x,hx⟩:∃x,l[i]?=some x:=⟨_,aa hl⟩;have hc:=(hel i x hx).keep fw;obtain⟨ρ,hρ⟩:∃ρ:Env,ρ=bO [(51,l.length),(52,c'),(53,o),(61,(l.length+64:Nat)),(62,(l.length+64:Nat)),(63,0),(10,i),(11,x.op),(12,x.n),(13,x.kids),(14,x.cj)] [(50,A),(60,B)] []:=⟨_,rfl⟩;refine(ahe.go ρ hf (by rw[hρ];rfl) (cg.app (BQ (by rw[hρ];rfl) (by rw[hρ];rfl)) (bX (i:=10) (n:=51) (I:=i) (N:=l.length) (by rw[hρ];rfl) (by rw[hρ];rfl) hl)) ⟨by rw[hρ];exact hc.c0,by rw[hρ];exact hc.c1,by rw[hρ];exact hc.c2,by rw[hρ];exact hc.c3,trivial⟩).trans fun g1 w1 hd=>?_;obtain⟨I,B1,bR,rfl,f1,F1,_⟩:=hd;have fN:FA 65 36 (KI [.inRegion (opsOf (gK 3730)) [7]]) [] .normal [(0,bS A o l.length c'),(3,bS B 0 (l.length+64) (l.length+64)),(4,iV i),(25,.pointer (some ⟨B,(jz l i).length,none⟩)),(24,.agg #[cY x.op,iV x.n,iV x.kids,iV x.cj])] bR:=by rw[hP,show i*4=0+i*4 by omega];rw[hρ]at F1;exact F1
   refine(gm (cs':=sr l i) (T:=77) (el:=77) (sz:=4) (V:=.agg #[cY x.op,iV x.n,iV x.kids,iV x.cj]) ahf (by kernel_rfl) (by kernel_rfl) (by unfold sr;rw[hx];rfl) rfl (by unfold sr;rw[hx];intro y hy;simp only[tR,ai,aA,or_false]at hy;rcases hy with rfl|rfl|rfl|rfl<;>rfl) fN rfl rfl (bP hv f1) (by rw[hP];omega)).trans fun g2 w2 b_=>?_
   obtain⟨cE,rfl,⟨kp,kV⟩,F2⟩:=b_;rw[<-oL]at kV;exact next f1 kp kV ⟨_,.inl rfl,F2.only rfl⟩
  ·have hnone:l[i]?=none:=aQ (by omega);obtain⟨ρ,hρ⟩:∃ρ:Env,ρ=bO [(51,l.length),(52,c'),(53,o),(61,(l.length+64:Nat)),(62,(l.length+64:Nat)),(63,0),(10,i)] [(50,A),(60,B)] []:=⟨_,rfl⟩;refine((ahg z).go ρ hf (by rw[hρ];cases z<;>rfl) (cg.app (BQ (by rw[hρ];rfl) (by rw[hρ];rfl)) ⟨by
    rw[hρ];cases z with
    |false=>exact decide_eq_false (by show ¬((i:Int)<((l.length:Nat):Int));omega)
    |true=>exact decide_eq_false (by show ¬((i:Int)<0);omega),trivial⟩) trivial).trans fun g1 w1 hd=>?_
   obtain⟨I,B1,bR,rfl,f1,F1,_⟩:=hd;have fN:FA 65 36 (KI [.inRegion (opsOf (gK 3731)) (3::4::[5,6])]) [] .normal [(0,ew z A o l.length c'),(3,bS B 0 (l.length+64) (l.length+64)),(4,iV i),(26,bS B 0 (l.length+64) (l.length+64)),(27,iV i),(28,iV i)] bR:=by rw[hρ]at F1;cases z<;>exact F1
   refine(acI.go (bO [] [] [(28,iV i)]) (Q:=fun v w'=>v=iV (9437185+i:Nat)) fN rfl fun w' f=>lS (by omega)).trans fun g2 w2 b_=>?_;obtain⟨cE,vv,rfl,f2,rfl,F2⟩:=b_;obtain⟨τ,fS⟩:∃τ:Env,τ=bO [(61,(l.length+64:Nat)),(62,(l.length+64:Nat)),(63,0),(10,i),(12,(9437185+i:Nat)),(51,l.length),(52,c'),(53,o)] [(50,A),(60,B)] [(0,ew z A o l.length c')]:=⟨_,rfl⟩;refine(acJ.go τ F2 (by rw[fS];rfl) (BQ (by rw[fS];rfl) (by rw[fS];rfl)) trivial).trans fun g3 w3 cv=>?_;obtain⟨I,B3,cF,rfl,f3,F3,_⟩:=cv;have qc:FA 65 36 (KI [.inRegion (opsOf (gK 3731)) [6]]) [] .normal [(0,ew z A o l.length c'),(3,bS B 0 (l.length+64) (l.length+64)),(4,iV i),(31,.pointer (some ⟨B,(jz l i).length,none⟩)),(30,.agg #[cY 0,iV 0,iV 0,iV ((9437185+i:Nat):Int)])] cF:=by rw[hP,show i*4=0+i*4 by omega];rw[fS]at F3;exact F3
   have f13:=f1.trans (f2.trans f3);refine(gm (cs':=sr l i) (T:=77) (el:=77) (sz:=4) (V:=.agg #[cY 0,iV 0,iV 0,iV ((9437185+i:Nat):Int)]) acK (by kernel_rfl) (by kernel_rfl) (by unfold sr;rw[hnone];rfl) rfl (by unfold sr;rw[hnone];intro y hy;simp only[tR,ai,aA,or_false]at hy;rcases hy with rfl|rfl|rfl|rfl<;>rfl) qc rfl rfl (bP hv f13) (by rw[hP];omega)).trans fun g4 w4 dh=>?_
   obtain⟨eO,rfl,⟨kp,DO⟩,F4⟩:=dh;rw[<-oL]at DO;exact next f13 kp DO ⟨_,.inr rfl,F4.only rfl⟩
variable {w:World}
theorem KJ{s:Value}{l:List Nd}(h:cK w s l)(hlen:l.length≤4294967000):dV 65 #[s] w fun v w'=>bA w w'∧∃B,w.heap.size≤B∧v=bS B 0 l.length (l.length+64)∧(cy.vec 77 (l.length+64) (jz l (l.length+64))).at Tryz.prog w' B:=by
 obtain⟨z,A,o,c',rfl,hz,_,hel⟩:=h.hd;refine cI fun cs=>?_;have fin:∀{w1:World} {bR:Frame} {B:Nat},bA w w1->w.heap.size≤B->(cy.vec 77 (l.length+64) []).at Tryz.prog w1 B->FA 65 36 V5 [] .normal [(0,ew z A o l.length c'),(3,bS B 0 (l.length+64) (l.length+64)),(4,iV (0:Nat))] bR->Goes (G bR cs) w1 fun g' w'=>∃fr' v,g'=G fr' cs∧de 65 fr' w' v∧bA w w'∧∃B,w.heap.size≤B∧v=bS B 0 l.length (l.length+64)∧(cy.vec 77 (l.length+64) (jz l (l.length+64))).at Tryz.prog w' B:=fun{w1 bR B} f1 hB hv F1=>by refine(yq (w0:=w) hz hel hlen hB (l.length+64) 0 (by omega) f1 hv F1).mono fun g2 w2 b_=>?_;obtain⟨cE,rfl,⟨f2,kV⟩,hL⟩:=b_;exact⟨cE,_,rfl,hL,f2,B,hB,rfl,kV⟩
 cases z with
 |true=>have hl0:=hz rfl;refine(acF.go (bO [] [] []) (cC Gw rfl eH) rfl trivial trivial).trans fun g1 w1 hd=>?_;obtain⟨I,B,bR,rfl,f1,F1,bl,_⟩:=hd;refine fin f1 bl.1.1 ?_ (by rw[hl0];exact F1);rw[hl0];exact tQ (sz:=4) bl.1.2 (by kernel_rfl) rfl
 |false=>
  obtain⟨ρ,hρ⟩:∃ρ:Env,ρ=bO [(51,l.length),(52,c'),(53,o)] [(50,A)] []:=⟨_,rfl⟩;refine(ahd.go ρ (cC Gw rfl (bS A o l.length c')) (by rw[hρ];rfl) ⟨by
   rw[hρ];show decide (iz .add .i64 (l.length:Int) 64>4294967296)=false;rw[lG hlen];exact decide_eq_false (by omega),by
   rw[hρ];show decide (iz .add .i64 (l.length:Int) 64<0)=false;rw[lG hlen];exact decide_eq_false (by omega),trivial⟩ trivial).trans fun g1 w1 hd=>?_
  obtain⟨I,B,bR,rfl,f1,F1,bl,_⟩:=hd;rw[hρ]at F1 bl;have Oq:l.length+64=(iz .add .i64 (l.length:Int) 64).toNat:=by rw[lG hlen];rfl
  refine fin (B:=B 100) f1 bl.1.1 (by rw[Oq];exact bl.1.2) (by rw[Oq];exact F1)
end
def tT(l:List (Int×Int))(i:Nat):List Value:=match l[i]? with
 |some x=>h_ x
 |none=>(fun(x:(Int×Int))=>h_ x) ((0,((9437185+i:Nat):Int)):Int×Int)
def kB(l:List (Int×Int))(n:Nat):List Value:=(List.range n).flatMap (tT l)
theorem yu(l:List (Int×Int))(i:Nat):(tT l i).length=2:=by unfold tT;split<;>rfl
theorem su(l:List (Int×Int))(n:Nat):kB l (n+1)=kB l n++tT l n:=by unfold kB;rw[List.range_succ,List.flatMap_append];simp
theorem AK(l:List (Int×Int)):∀n,(kB l n).length=n*2
 |0=>by simp[kB]
 |n+1=>by rw[su,an,AK l n,yu];omega
noncomputable abbrev acS:List Item:=vt
noncomputable abbrev Ot(r:List Item):List Item:=r++[.inBlock 1,.code (nQ 467),.inLoop (nQ 116),.inBlock 0,.code (nQ 15)]
section
variable {w0:World}{B:Nat}
theorem yw{z:Bool}{A o c':Nat}{l:List (Int×Int)}(hz:z=true->l=[])(hel:∀i e,l[i]?=some e->w0.cell? ⟨A,o+i*2,none⟩=some (cY e.1)∧w0.cell? ⟨A,o+i*2+1,none⟩=some (iV e.2))(hlen:l.length≤4294967000)(hB:w0.heap.size≤B):
  ∀(m i:Nat) {w:World} {cs:List Frame} {fr:Frame},i+m=l.length+64->bA w0 w->(cy.vec 43 (l.length+64) (kB l i)).at Tryz.prog w B->FA 9 36 acS [] .normal [(0,ew z A o l.length c'),(3,bS B 0 (l.length+64) (l.length+64)),(4,iV i)] fr->
  Goes (G fr cs) w fun g' w'=>∃fr',g'=G fr' cs∧(bA w0 w'∧(cy.vec 43 (l.length+64) (kB l (l.length+64))).at Tryz.prog w' B)∧de 9 fr' w' (bS B 0 l.length (l.length+64))
 |0,i,w,cs,fr,hi,fw,hv,hf=>by
  obtain rfl:i=l.length+64:=by omega
  obtain⟨ρ,hρ⟩:∃ρ:Env,ρ=bO [(51,l.length),(52,c'),(53,o),(61,(l.length+64:Nat)),(62,(l.length+64:Nat)),(63,0),(10,(l.length+64:Nat))] [(50,A),(60,B)] []:=⟨_,rfl⟩;refine((ahp z).go ρ hf (by rw[hρ];cases z<;>rfl) ⟨by rw[hρ];exact decide_eq_false (by show ¬(((l.length+64:Nat):Int)<(((l.length+64:Nat):Nat):Int));omega),trivial⟩ trivial).trans fun g1 w1 hd=>?_;obtain⟨I,B1,bR,rfl,f1,F1,_⟩:=hd;have fN:FA 9 36 [.inRegion (opsOf (nQ 30)) [3,4],.code .ret] [] .normal [(32,bS B 0 (l.length+64) (l.length+64)),(34,iV l.length)] bR:=by
   rw[hρ]at F1;cases z with
   |false=>exact F1
   |true=>rw[hz rfl]at F1⊢;exact F1
  refine(ahq.go (R:=fun y w'=>y=bS B 0 l.length (l.length+64)∧w'=w1) (bO [] [] []) fN (by decide) rfl fun tm ir x' e1 e2=>?_).trans fun g2 w2 b_=>?_
  ·unfold execOp;simp only[e1,bH,av,aM];rw[ir 32 _ rfl,ir 34 (iV l.length) rfl];exact qD (z:=false) (t:=28) (elem:=43) (size:=2) (by kernel_rfl) (by kernel_rfl) (show l.length≤l.length+64 by omega) (fun h=>by cases h) (fun _=>ay _) ⟨_,rfl,rfl,rfl⟩
  obtain⟨cE,y,rfl,⟨rfl,rfl⟩,F2⟩:=b_;refine(ahr.go (bO [] [] [(7,bS B 0 l.length (l.length+64))]) F2 rfl trivial trivial).trans fun g3 w3 cv=>?_;obtain⟨I,B3,cF,rfl,f3,F3,_⟩:=cv;refine(leave1 acN F3 rfl).mono fun g4 w4 dh=>?_;obtain⟨eO,rfl,rfl,hL⟩:=dh;exact⟨eO,rfl,⟨fw.trans (f1.trans f3),bP hv (f1.trans f3)⟩,hL⟩
 |m+1,i,w,cs,fr,hi,fw,hv,hf=>by
  have hic:i<l.length+64:=by omega
  have hP:=AK l i;have next:∀{w1 w2:World} {cE:Frame},bA w w1->bU (fun b=>b=B) w1 w2->(cy.vec 43 (l.length+64) (kB l (i+1))).at Tryz.prog w2 B->(∃t,(t=Ot [.inRegion (opsOf (nQ 3730)) []]∨t=Ot [.inRegion (opsOf (nQ 3731)) []])∧FA 9 36 t [] .normal [(0,ew z A o l.length c'),(3,bS B 0 (l.length+64) (l.length+64)),(4,iV i)] cE)->
    Goes (G cE cs) w2 fun g' w'=>∃fr',g'=G fr' cs∧(bA w0 w'∧(cy.vec 43 (l.length+64) (kB l (l.length+64))).at Tryz.prog w' B)∧de 9 fr' w' (bS B 0 l.length (l.length+64)):=fun{w1 w2 cE} f1 kp kV ht=>by
   have jT:bA w0 w2:=cw (fw.trans f1) (kp.mono fun b hb=>by rw[hb];exact hB);obtain⟨t,ht,F2⟩:=ht;obtain⟨σ,cr⟩:∃σ:Env,σ=bO [(51,l.length),(52,c'),(53,o),(61,(l.length+64:Nat)),(62,(l.length+64:Nat)),(63,0),(10,i)] [(50,A),(60,B)] [(0,ew z A o l.length c')]:=⟨_,rfl⟩;rcases ht with rfl|rfl
   ·refine(acP.go σ F2 (by rw[cr];rfl) trivial trivial).trans fun g3 w3 cv=>?_;obtain⟨I,B3,cF,rfl,f3,F3,_⟩:=cv;rw[cr]at F3;refine yw (c':=c') hz hel hlen hB m (i+1) (by omega) (jT.trans f3) (bP kV f3) ?_;rw[<-inc (i:=i) (by omega)];exact F3
   ·refine(acQ.go σ F2 (by rw[cr];rfl) trivial trivial).trans fun g3 w3 cv=>?_;obtain⟨I,B3,cF,rfl,f3,F3,_⟩:=cv;rw[cr]at F3;refine yw (c':=c') hz hel hlen hB m (i+1) (by omega) (jT.trans f3) (bP kV f3) ?_;rw[<-inc (i:=i) (by omega)];exact F3
  have BQ:∀{ρ:Env},ρ.i 10=(i:Int)->ρ.i 61=((l.length+64:Nat):Int)->cg ρ (fo 10 61):=fun h1 h2=>bX (i:=10) (n:=61) (I:=i) (N:=l.length+64) h1 h2 hic;by_cases hl:i<l.length
  ·cases z with
   |true=>rw[hz rfl]at hl;simp at hl
   |false=>
   obtain⟨x,hx⟩:∃x,l[i]?=some x:=⟨_,aa hl⟩;have hc:w.cell? ⟨A,o+i*2,none⟩=some (cY x.1)∧w.cell? ⟨A,o+i*2+1,none⟩=some (iV x.2):=⟨fw.cell (hel i x hx).1,fw.cell (hel i x hx).2⟩;obtain⟨ρ,hρ⟩:∃ρ:Env,ρ=bO [(51,l.length),(52,c'),(53,o),(61,(l.length+64:Nat)),(62,(l.length+64:Nat)),(63,0),(10,i),(11,x.1),(12,x.2)] [(50,A),(60,B)] []:=⟨_,rfl⟩;refine(ahj.go ρ hf (by rw[hρ];rfl) (cg.app (BQ (by rw[hρ];rfl) (by rw[hρ];rfl)) (bX (i:=10) (n:=51) (I:=i) (N:=l.length) (by rw[hρ];rfl) (by rw[hρ];rfl) hl)) ⟨by rw[hρ];exact hc.1,by rw[hρ];exact hc.2,trivial⟩).trans fun g1 w1 hd=>?_;obtain⟨I,B1,bR,rfl,f1,F1,_⟩:=hd;have fN:FA 9 36 (Ot [.inRegion (opsOf (nQ 3730)) [7]]) [] .normal [(0,bS A o l.length c'),(3,bS B 0 (l.length+64) (l.length+64)),(4,iV i),(25,.pointer (some ⟨B,(kB l i).length,none⟩)),(24,dY x)] bR:=by rw[hP,show i*2=0+i*2 by omega];rw[hρ]at F1;exact F1
   refine(gm (cs':=tT l i) (T:=43) (el:=43) (sz:=2) (V:=dY x) ahk (by kernel_rfl) (by kernel_rfl) (by unfold tT;rw[hx];rfl) rfl (by unfold tT;rw[hx];intro y hy;simp only[h_,ai,aA,or_false]at hy;rcases hy with rfl|rfl<;>rfl) fN rfl rfl (bP hv f1) (by rw[hP];omega)).trans fun g2 w2 b_=>?_
   obtain⟨cE,rfl,⟨kp,kV⟩,F2⟩:=b_;rw[<-su]at kV;exact next f1 kp kV ⟨_,.inl rfl,F2.only rfl⟩
  ·have hnone:l[i]?=none:=aQ (by omega);obtain⟨ρ,hρ⟩:∃ρ:Env,ρ=bO [(51,l.length),(52,c'),(53,o),(61,(l.length+64:Nat)),(62,(l.length+64:Nat)),(63,0),(10,i)] [(50,A),(60,B)] []:=⟨_,rfl⟩;refine((ahl z).go ρ hf (by rw[hρ];cases z<;>rfl) (cg.app (BQ (by rw[hρ];rfl) (by rw[hρ];rfl)) ⟨by
    rw[hρ];cases z with
    |false=>exact decide_eq_false (by show ¬((i:Int)<((l.length:Nat):Int));omega)
    |true=>exact decide_eq_false (by show ¬((i:Int)<0);omega),trivial⟩) trivial).trans fun g1 w1 hd=>?_
   obtain⟨I,B1,bR,rfl,f1,F1,_⟩:=hd;have fN:FA 9 36 (Ot [.inRegion (opsOf (nQ 3731)) (3::4::[5,6])]) [] .normal [(0,ew z A o l.length c'),(3,bS B 0 (l.length+64) (l.length+64)),(4,iV i),(26,bS B 0 (l.length+64) (l.length+64)),(27,iV i),(28,iV i)] bR:=by rw[hρ]at F1;cases z<;>exact F1
   refine(ahm.go (bO [] [] [(28,iV i)]) (Q:=fun v w'=>v=iV (9437185+i:Nat)) fN rfl fun w' f=>lS (by omega)).trans fun g2 w2 b_=>?_;obtain⟨cE,vv,rfl,f2,rfl,F2⟩:=b_;obtain⟨τ,fS⟩:∃τ:Env,τ=bO [(61,(l.length+64:Nat)),(62,(l.length+64:Nat)),(63,0),(10,i),(12,(9437185+i:Nat)),(51,l.length),(52,c'),(53,o)] [(50,A),(60,B)] [(0,ew z A o l.length c')]:=⟨_,rfl⟩;refine(ahn.go τ F2 (by rw[fS];rfl) (BQ (by rw[fS];rfl) (by rw[fS];rfl)) trivial).trans fun g3 w3 cv=>?_;obtain⟨I,B3,cF,rfl,f3,F3,_⟩:=cv;have qc:FA 9 36 (Ot [.inRegion (opsOf (nQ 3731)) [6]]) [] .normal [(0,ew z A o l.length c'),(3,bS B 0 (l.length+64) (l.length+64)),(4,iV i),(31,.pointer (some ⟨B,(kB l i).length,none⟩)),(30,dY (0,((9437185+i:Nat):Int)))] cF:=by rw[hP,show i*2=0+i*2 by omega];rw[fS]at F3;exact F3
   have f13:=f1.trans (f2.trans f3);refine(gm (cs':=tT l i) (T:=43) (el:=43) (sz:=2) (V:=dY (0,((9437185+i:Nat):Int))) aho (by kernel_rfl) (by kernel_rfl) (by unfold tT;rw[hnone];rfl) rfl (by unfold tT;rw[hnone];intro y hy;simp only[h_,ai,aA,or_false]at hy;rcases hy with rfl|rfl<;>rfl) qc rfl rfl (bP hv f13) (by rw[hP];omega)).trans fun g4 w4 dh=>?_
   obtain⟨eO,rfl,⟨kp,DO⟩,F4⟩:=dh;rw[<-su]at DO;exact next f13 kp DO ⟨_,.inr rfl,F4.only rfl⟩
variable {w:World}
theorem KL{s:Value}{l:List (Int×Int)}(h:ei w s l)(hlen:l.length≤4294967000):dV 9 #[s] w fun v w'=>bA w w'∧∃B,w.heap.size≤B∧v=bS B 0 l.length (l.length+64)∧(cy.vec 43 (l.length+64) (kB l (l.length+64))).at Tryz.prog w' B:=by
 obtain⟨z,A,o,c',rfl,hz,_,hel⟩:=h.ex;refine cI fun cs=>?_;have fin:∀{w1:World} {bR:Frame} {B:Nat},bA w w1->w.heap.size≤B->(cy.vec 43 (l.length+64) []).at Tryz.prog w1 B->FA 9 36 acS [] .normal [(0,ew z A o l.length c'),(3,bS B 0 (l.length+64) (l.length+64)),(4,iV (0:Nat))] bR->Goes (G bR cs) w1 fun g' w'=>∃fr' v,g'=G fr' cs∧de 9 fr' w' v∧bA w w'∧∃B,w.heap.size≤B∧v=bS B 0 l.length (l.length+64)∧(cy.vec 43 (l.length+64) (kB l (l.length+64))).at Tryz.prog w' B:=fun{w1 bR B} f1 hB hv F1=>by refine(yw (w0:=w) hz hel hlen hB (l.length+64) 0 (by omega) f1 hv F1).mono fun g2 w2 b_=>?_;obtain⟨cE,rfl,⟨f2,kV⟩,hL⟩:=b_;exact⟨cE,_,rfl,hL,f2,B,hB,rfl,kV⟩
 cases z with
 |true=>have hl0:=hz rfl;refine(acO.go (bO [] [] []) (cC TR rfl eH) rfl trivial trivial).trans fun g1 w1 hd=>?_;obtain⟨I,B,bR,rfl,f1,F1,bl,_⟩:=hd;refine fin f1 bl.1.1 ?_ (by rw[hl0];exact F1);rw[hl0];exact tQ (sz:=2) bl.1.2 (by kernel_rfl) rfl
 |false=>
  obtain⟨ρ,hρ⟩:∃ρ:Env,ρ=bO [(51,l.length),(52,c'),(53,o)] [(50,A)] []:=⟨_,rfl⟩;refine(ahi.go ρ (cC TR rfl (bS A o l.length c')) (by rw[hρ];rfl) ⟨by
   rw[hρ];show decide (iz .add .i64 (l.length:Int) 64>4294967296)=false;rw[lG hlen];exact decide_eq_false (by omega),by
   rw[hρ];show decide (iz .add .i64 (l.length:Int) 64<0)=false;rw[lG hlen];exact decide_eq_false (by omega),trivial⟩ trivial).trans fun g1 w1 hd=>?_
  obtain⟨I,B,bR,rfl,f1,F1,bl,_⟩:=hd;rw[hρ]at F1 bl;have Oq:l.length+64=(iz .add .i64 (l.length:Int) 64).toNat:=by rw[lG hlen];rfl
  refine fin (B:=B 100) f1 bl.1.1 (by rw[Oq];exact bl.1.2) (by rw[Oq];exact F1)
end
noncomputable def V6(l:Nat):Code:=pc (bD Tryz.f33) (pd l)
theorem V7:bT Tryz.prog 33 [.bF 0,.bF 1] .normal=.ok ⟨33,26,c_ 33 [.bF 0,.bF 1],[.code (bD Tryz.f33)],[],.run,.normal⟩:=by kernel_rfl
theorem V8:dL 33 26 4:=fun st=>by kernel_rfl
noncomputable abbrev DR:List Item:=[.code (V6 116),.inLoop (V6 116),.inBlock 0,.code (V6 15)]
theorem ahs(z y:Bool):Pc 33 26 [.code (bD Tryz.f33)] ([(0,cU z 50 53 51 52),(1,cU y 60 63 61 62)]) [((.cmp .neq (dO z 51) (dO y 61)),false)] [] [] 22 [] [0,1,5] DR [cU z 50 53 51 52,cU y 60 63 61 62,i64 (.lit 0)] []:=by cases z<;>cases y<;>exact{}
noncomputable abbrev Ou:List AV:=[sA 50 53 51 52,sA 60 63 61 62,i64 (.op .add .i64 (v 10) (.lit 1))]
noncomputable abbrev Ov:List (Nat×AV):=[(0,sA 50 53 51 52),(1,sA 60 63 61 62),(5,i64 (v 10))]
theorem aht:Pc 33 26 DR (Ov) [((.cmp .lss (v 10) (.tn (v 51))),true),((.cmp .leq (.lit 0) (v 10)),true),((.cmp .lss (v 10) (.lit 0)),false),((.cmp .geq (v 10) (.tn (v 51))),false),((.cmp .lss (v 10) (.tn (v 61))),true),((.cmp .leq (.lit 0) (v 10)),true),((.cmp .lss (v 10) (.lit 0)),false),((.cmp .geq (v 10) (.tn (v 61))),false),((.cmp .neq (v 11) (v 12)),false)] [(eC 50 53 10,i64 (v 11)),(eC 60 63 10,i64 (v 12))] [] 23 [] [0,1,5] DR Ou []:={}
theorem ahu(z y:Bool):Pc 33 26 DR ([(0,cU z 50 53 51 52),(1,cU y 60 63 61 62),(5,i64 (v 10))]) [((.cmp .lss (v 10) (dO z 51)),false)] [] [] 14 [] [4] [.code .ret] [TB] []:=by cases z<;>cases y<;>exact{}
noncomputable def V9(l:Nat):Code:=pc (bD Tryz.f79) (pd l)
theorem Ow:bT Tryz.prog 79 [.bF 0,.bF 1] .normal=.ok ⟨79,26,c_ 79 [.bF 0,.bF 1],[.code (bD Tryz.f79)],[],.run,.normal⟩:=by kernel_rfl
theorem Ox:dL 79 26 4:=fun st=>by kernel_rfl
noncomputable abbrev yx:List Item:=[.code (V9 116),.inLoop (V9 116),.inBlock 0,.code (V9 15)]
theorem ahv(z y:Bool):Pc 79 26 [.code (bD Tryz.f79)] ([(0,cU z 50 53 51 52),(1,cU y 60 63 61 62)]) [((.cmp .neq (dO z 51) (dO y 61)),false)] [] [] 22 [] [0,1,5] yx [cU z 50 53 51 52,cU y 60 63 61 62,i64 (.lit 0)] []:=by cases z<;>cases y<;>exact{}
noncomputable abbrev kz6:List (Nat×AV):=[(0,sA 50 53 51 52),(1,sA 60 63 61 62),(5,i64 (v 10)),(2,.bF 2),(3,.bF 3),(4,.bF 4),(6,.bF 6),(7,.bF 7),(8,.bF 8),(9,.bF 9),(10,.bF 10),(11,.bF 11),(12,.bF 12),(13,.bF 13),(14,.bF 14),(15,.bF 15),(16,.bF 16),(17,.bF 17),(18,.bF 18),(19,.bF 19),(20,.bF 20),(21,.bF 21),(22,.bF 22),(23,.bF 23),(24,.bF 24),(25,.bF 25)]
theorem ahw:Pc 79 26 yx (kz6) [((.cmp .lss (v 10) (.tn (v 51))),true),((.cmp .leq (.lit 0) (v 10)),true),((.cmp .lss (v 10) (.lit 0)),false),((.cmp .geq (v 10) (.tn (v 51))),false),((.cmp .lss (v 10) (.tn (v 61))),true),((.cmp .leq (.lit 0) (v 10)),true),((.cmp .lss (v 10) (.lit 0)),false),((.cmp .geq (v 10) (.tn (v 61))),false),((.cmp .eql (v 11) (v 21)),true),((.cmp .eql (v 12) (v 22)),true),((.cmp .eql (v 13) (v 23)),true),((.cmp .eql (v 14) (v 24)),true)] [(eB 50 53 10 4,i8 (v 11)),(eA 50 53 10 4 1,i64 (v 12)),(eA 50 53 10 4 2,i64 (v 13)),(eA 50 53 10 4 3,i64 (v 14)),(eB 60 63 10 4,i8 (v 21)),(eA 60 63 10 4 1,i64 (v 22)),(eA 60 63 10 4 2,i64 (v 23)),(eA 60 63 10 4 3,i64 (v 24))] [] 23 [] [0,1,5] yx Ou []:=Pc.full (fun st=>by kernel_rfl) (by kernel_rfl) (by kernel_rfl) (by kernel_rfl) (of_decide_eq_true (by kernel_rfl))
theorem ahx(z y:Bool):Pc 79 26 yx ([(0,cU z 50 53 51 52),(1,cU y 60 63 61 62),(5,i64 (v 10))]) [((.cmp .lss (v 10) (dO z 51)),false)] [] [] 14 [] [4] [.code .ret] [TB] []:=by cases z<;>cases y<;>exact{}
theorem acT(z:Bool)(a:Option Addr)(c:Nat):Pc 79 26 [.code (bD Tryz.f79)] ([(0,cU z 50 53 51 52),(1,.raw (.slice a 0 c))]) [((.cmp .neq (dO z 51) (.lit 0)),false)] [] [] 22 [] [0,5] yx [cU z 50 53 51 52,i64 (.lit 0)] []:=by cases z<;>exact{}
theorem acU(z:Bool):Pc 79 26 yx ([(0,cU z 50 53 51 52),(5,i64 (v 10))]) [((.cmp .lss (v 10) (dO z 51)),false)] [] [] 14 [] [4] [.code .ret] [TB] []:=by cases z<;>exact{}
noncomputable def V_(l:Nat):Code:=pc (bD Tryz.f13) (pd l)
theorem Wa:bT Tryz.prog 13 [.bF 0,.bF 1] .normal=.ok ⟨13,26,c_ 13 [.bF 0,.bF 1],[.code (bD Tryz.f13)],[],.run,.normal⟩:=by kernel_rfl
theorem Wb:dL 13 26 4:=fun st=>by kernel_rfl
noncomputable abbrev DT:List Item:=[.code (V_ 116),.inLoop (V_ 116),.inBlock 0,.code (V_ 15)]
theorem ahy(z y:Bool):Pc 13 26 [.code (bD Tryz.f13)] ([(0,cU z 50 53 51 52),(1,cU y 60 63 61 62)]) [((.cmp .neq (dO z 51) (dO y 61)),false)] [] [] 22 [] [0,1,5] DT [cU z 50 53 51 52,cU y 60 63 61 62,i64 (.lit 0)] []:=by cases z<;>cases y<;>exact{}
theorem ahz:Pc 13 26 DT (kz6) [((.cmp .lss (v 10) (.tn (v 51))),true),((.cmp .leq (.lit 0) (v 10)),true),((.cmp .lss (v 10) (.lit 0)),false),((.cmp .geq (v 10) (.tn (v 51))),false),((.cmp .lss (v 10) (.tn (v 61))),true),((.cmp .leq (.lit 0) (v 10)),true),((.cmp .lss (v 10) (.lit 0)),false),((.cmp .geq (v 10) (.tn (v 61))),false),((.cmp .eql (v 11) (v 21)),true),((.cmp .eql (v 12) (v 22)),true)] [(eB 50 53 10 2,i8 (v 11)),(eA 50 53 10 2 1,i64 (v 12)),(eB 60 63 10 2,i8 (v 21)),(eA 60 63 10 2 1,i64 (v 22))] [] 23 [] [0,1,5] DT Ou []:=Pc.full (fun st=>by kernel_rfl) (by kernel_rfl) (by kernel_rfl) (by kernel_rfl) (of_decide_eq_true (by kernel_rfl))
theorem ahA(z y:Bool):Pc 13 26 DT ([(0,cU z 50 53 51 52),(1,cU y 60 63 61 62),(5,i64 (v 10))]) [((.cmp .lss (v 10) (dO z 51)),false)] [] [] 14 [] [4] [.code .ret] [TB] []:=by cases z<;>cases y<;>exact{}
section
variable {w w0:World}{cs:List Frame}
noncomputable abbrev acV:List Item:=DR
theorem DU{z y:Bool}{A o c A' o' c':Nat}{l:List Int}(hz:z=true->l=[])(hy:y=true->l=[])(hel:∀i n,l[i]?=some n->w0.cell? ⟨A,o+i,none⟩=some (iV n))(jL:∀i n,l[i]?=some n->w0.cell? ⟨A',o'+i,none⟩=some (iV n))(hlen:l.length≤4294967000):
  ∀(k i:Nat) {w:World} {fr:Frame},i+k=l.length->bA w0 w->FA 33 26 acV [] .normal [(0,ew z A o l.length c),(1,ew y A' o' l.length c'),(5,iV i)] fr->
  Goes (G fr cs) w fun g' w'=>∃fr',g'=G fr' cs∧bA w0 w'∧de 33 fr' w' (.bool true)
 |0,i,w,fr,hi,fw,hf=>by
  obtain⟨ρ,hρ⟩:∃ρ:Env,ρ=bO [(51,l.length),(52,c),(53,o),(61,l.length),(62,c'),(63,o'),(10,i)] [(50,A),(60,A')] []:=⟨_,rfl⟩;refine((ahu z y).go ρ hf (by rw[hρ];cases z<;>cases y<;>rfl) ⟨by
    rw[hρ];cases z with
    |false=>exact decide_eq_false (by show ¬((i:Int)<((l.length:Nat):Int));omega)
    |true=>exact decide_eq_false (by show ¬((i:Int)<0);omega),trivial⟩ trivial).trans fun g1 w1 hd=>?_
  obtain⟨I,B,bR,rfl,f1,F1,_⟩:=hd;refine(leave1 V8 F1 rfl).mono fun g6 w6 dz=>?_;obtain⟨dK,rfl,rfl,hL⟩:=dz;exact⟨dK,rfl,fw.trans f1,hL⟩
 |k+1,i,w,fr,hi,fw,hf=>by
  have hlt:i<l.length:=by omega
  obtain⟨x,hx⟩:∃x,l[i]?=some x:=⟨_,aa hlt⟩;cases z with
  |true=>rw[hz rfl]at hlt;simp at hlt
  |false=>
  cases y with
  |true=>rw[hy rfl]at hlt;simp at hlt
  |false=>
  have JG:=hf;obtain⟨ρ,hρ⟩:∃ρ:Env,ρ=bO [(51,l.length),(52,c),(53,o),(61,l.length),(62,c'),(63,o'),(10,i),(11,x),(12,x)] [(50,A),(60,A')] []:=⟨_,rfl⟩;refine(aht.go ρ JG (by rw[hρ];rfl) (cg.app (bX (i:=10) (n:=51) (I:=i) (N:=l.length) (by rw[hρ];rfl) (by rw[hρ];rfl) hlt) (cg.app (bX (i:=10) (n:=61) (I:=i) (N:=l.length) (by rw[hρ];rfl) (by rw[hρ];rfl) hlt) ⟨by rw[hρ];show(!decide (x=x))=false;simp,trivial⟩)) ⟨by rw[hρ];exact fw.cell (hel i x hx),by rw[hρ];exact fw.cell (jL i x hx),trivial⟩).trans fun g1 w1 hd=>?_;obtain⟨I,B,bR,rfl,f1,F1,_⟩:=hd;rw[hρ]at F1;refine DU (z:=false) (y:=false) (c:=c) (c':=c') (fun h=>by cases h) (fun h=>by cases h) hel jL hlen k (i+1) (by omega) (fw.trans f1) ?_;rw[<-inc (i:=i) (by omega)];exact F1
theorem Gy{a b:Value}{l:List Int}(ha:jq w a l)(hb:jq w b l)(hlen:l.length≤4294967000):dV 33 #[a,b] w fun v w'=>bA w w'∧v=.bool true:=by
 obtain⟨z,A,o,c,rfl,hz,oU,hel⟩:=ha.ex;obtain⟨y,A',o',c',rfl,hy,Gp,jL⟩:=hb.ex;refine cI fun cs=>?_;obtain⟨ρ,hρ⟩:∃ρ:Env,ρ=bO [(51,l.length),(52,c),(53,o),(61,l.length),(62,c'),(63,o')] [(50,A),(60,A')] []:=⟨_,rfl⟩;have nz:(dO z 51).ev ρ=(l.length:Int):=by
  rw[hρ];cases z with
  |false=>rfl
  |true=>rw[hz rfl];rfl
 have ny:(dO y 61).ev ρ=(l.length:Int):=by
  rw[hρ];cases y with
  |false=>rfl
  |true=>rw[hy rfl];rfl
 refine((ahs z y).go ρ (dU V7 rfl (ew z A o l.length c) (ew y A' o' l.length c')) (by rw[hρ];cases z<;>cases y<;>rfl) ⟨by show(!decide ((dO z 51).ev ρ=(dO y 61).ev ρ))=false;rw[nz,ny];simp,trivial⟩ trivial).trans fun g1 w1 hd=>?_
 obtain⟨I,B,bR,rfl,f1,F1,_⟩:=hd;have fN:FA 33 26 acV [] .normal [(0,ew z A o l.length c),(1,ew y A' o' l.length c'),(5,iV (0:Nat))] bR:=by rw[hρ]at F1;cases z<;>cases y<;>exact F1
 refine(DU (w0:=w) hz hy hel jL hlen l.length 0 (by omega) f1 fN).mono fun g2 w2 b_=>?_;obtain⟨cE,rfl,f2,hL⟩:=b_;exact⟨cE,_,rfl,hL,f2,rfl⟩
noncomputable abbrev Wc:List Item:=yx
theorem DV{z y:Bool}{A o c A' o' c':Nat}{l:List Nd}(hz:z=true->l=[])(hy:y=true->l=[])(hel:∀i n,l[i]?=some n->iI w0 A (o+i*4) n)(jL:∀i n,l[i]?=some n->iI w0 A' (o'+i*4) n)(hlen:l.length≤4294967000):
  ∀(k i:Nat) {w:World} {fr:Frame},i+k=l.length->bA w0 w->FA 79 26 Wc [] .normal [(0,ew z A o l.length c),(1,ew y A' o' l.length c'),(5,iV i)] fr->
  Goes (G fr cs) w fun g' w'=>∃fr',g'=G fr' cs∧bA w0 w'∧de 79 fr' w' (.bool true)
 |0,i,w,fr,hi,fw,hf=>by
  obtain⟨ρ,hρ⟩:∃ρ:Env,ρ=bO [(51,l.length),(52,c),(53,o),(61,l.length),(62,c'),(63,o'),(10,i)] [(50,A),(60,A')] []:=⟨_,rfl⟩;refine((ahx z y).go ρ hf (by rw[hρ];cases z<;>cases y<;>rfl) ⟨by
    rw[hρ];cases z with
    |false=>exact decide_eq_false (by show ¬((i:Int)<((l.length:Nat):Int));omega)
    |true=>exact decide_eq_false (by show ¬((i:Int)<0);omega),trivial⟩ trivial).trans fun g1 w1 hd=>?_
  obtain⟨I,B,bR,rfl,f1,F1,_⟩:=hd;refine(leave1 Ox F1 rfl).mono fun g6 w6 dz=>?_;obtain⟨dK,rfl,rfl,hL⟩:=dz;exact⟨dK,rfl,fw.trans f1,hL⟩
 |k+1,i,w,fr,hi,fw,hf=>by
  have hlt:i<l.length:=by omega
  obtain⟨x,hx⟩:∃x,l[i]?=some x:=⟨_,aa hlt⟩;cases z with
  |true=>rw[hz rfl]at hlt;simp at hlt
  |false=>
  cases y with
  |true=>rw[hy rfl]at hlt;simp at hlt
  |false=>
  obtain⟨f,DJ⟩:=hf.more;have JG:=DJ ((List.range 26).filter fun i=>!([0,1,5].contains i));obtain⟨ρ,hρ⟩:∃ρ:Env,ρ={(bO [(51,l.length),(52,c),(53,o),(61,l.length),(62,c'),(63,o'),(10,i),(11,x.op),(12,x.n),(13,x.kids),(14,x.cj),(21,x.op),(22,x.n),(23,x.kids),(24,x.cj)] [(50,A),(60,A')] []:Env)with v:=f}:=⟨_,rfl⟩;refine(ahw.go ρ JG (by rw[hρ];unfold eZ;kernel_rfl) (cg.app (bX (i:=10) (n:=51) (I:=i) (N:=l.length) (by rw[hρ];rfl) (by rw[hρ];rfl) hlt) (cg.app (bX (i:=10) (n:=61) (I:=i) (N:=l.length) (by rw[hρ];rfl) (by rw[hρ];rfl) hlt) ⟨by rw[hρ];exact decide_eq_true rfl,by rw[hρ];exact decide_eq_true rfl,by rw[hρ];exact decide_eq_true rfl,by rw[hρ];exact decide_eq_true rfl,trivial⟩)) ⟨by rw[hρ];exact fw.cell (hel i x hx).c0,by rw[hρ];exact fw.cell (hel i x hx).c1,by rw[hρ];exact fw.cell (hel i x hx).c2,by rw[hρ];exact fw.cell (hel i x hx).c3,by rw[hρ];exact fw.cell (jL i x hx).c0,by rw[hρ];exact fw.cell (jL i x hx).c1,by rw[hρ];exact fw.cell (jL i x hx).c2,by rw[hρ];exact fw.cell (jL i x hx).c3,trivial⟩).trans fun g1 w1 hd=>?_;obtain⟨I,B,bR,rfl,f1,F1,_⟩:=hd;rw[hρ]at F1;refine DV (z:=false) (y:=false) (c:=c) (c':=c') (fun h=>by cases h) (fun h=>by cases h) hel jL hlen k (i+1) (by omega) (fw.trans f1) ?_;rw[<-inc (i:=i) (by omega)];exact F1
theorem DW{a b:Value}{l:List Nd}(ha:cK w a l)(hb:cK w b l)(hlen:l.length≤4294967000):dV 79 #[a,b] w fun v w'=>bA w w'∧v=.bool true:=by
 obtain⟨z,A,o,c,rfl,hz,oU,hel⟩:=ha.hd;obtain⟨y,A',o',c',rfl,hy,Gp,jL⟩:=hb.hd;refine cI fun cs=>?_;obtain⟨ρ,hρ⟩:∃ρ:Env,ρ=bO [(51,l.length),(52,c),(53,o),(61,l.length),(62,c'),(63,o')] [(50,A),(60,A')] []:=⟨_,rfl⟩;have nz:(dO z 51).ev ρ=(l.length:Int):=by
  rw[hρ];cases z with
  |false=>rfl
  |true=>rw[hz rfl];rfl
 have ny:(dO y 61).ev ρ=(l.length:Int):=by
  rw[hρ];cases y with
  |false=>rfl
  |true=>rw[hy rfl];rfl
 refine((ahv z y).go ρ (dU Ow rfl (ew z A o l.length c) (ew y A' o' l.length c')) (by rw[hρ];cases z<;>cases y<;>rfl) ⟨by show(!decide ((dO z 51).ev ρ=(dO y 61).ev ρ))=false;rw[nz,ny];simp,trivial⟩ trivial).trans fun g1 w1 hd=>?_
 obtain⟨I,B,bR,rfl,f1,F1,_⟩:=hd;have fN:FA 79 26 Wc [] .normal [(0,ew z A o l.length c),(1,ew y A' o' l.length c'),(5,iV (0:Nat))] bR:=by rw[hρ]at F1;cases z<;>cases y<;>exact F1
 refine(DV (w0:=w) hz hy hel jL hlen l.length 0 (by omega) f1 fN).mono fun g2 w2 b_=>?_;obtain⟨cE,rfl,f2,hL⟩:=b_;exact⟨cE,_,rfl,hL,f2,rfl⟩
noncomputable abbrev acW:List Item:=DT
theorem DX{z y:Bool}{A o c A' o' c':Nat}{l:List (Int×Int)}(hz:z=true->l=[])(hy:y=true->l=[])(hel:∀i e,l[i]?=some e->w0.cell? ⟨A,o+i*2,none⟩=some (cY e.1)∧w0.cell? ⟨A,o+i*2+1,none⟩=some (iV e.2))(jL:∀i e,l[i]?=some e->w0.cell? ⟨A',o'+i*2,none⟩=some (cY e.1)∧w0.cell? ⟨A',o'+i*2+1,none⟩=some (iV e.2))(hlen:l.length≤4294967000):
  ∀(k i:Nat) {w:World} {fr:Frame},i+k=l.length->bA w0 w->FA 13 26 acW [] .normal [(0,ew z A o l.length c),(1,ew y A' o' l.length c'),(5,iV i)] fr->
  Goes (G fr cs) w fun g' w'=>∃fr',g'=G fr' cs∧bA w0 w'∧de 13 fr' w' (.bool true)
 |0,i,w,fr,hi,fw,hf=>by
  obtain⟨ρ,hρ⟩:∃ρ:Env,ρ=bO [(51,l.length),(52,c),(53,o),(61,l.length),(62,c'),(63,o'),(10,i)] [(50,A),(60,A')] []:=⟨_,rfl⟩;refine((ahA z y).go ρ hf (by rw[hρ];cases z<;>cases y<;>rfl) ⟨by
    rw[hρ];cases z with
    |false=>exact decide_eq_false (by show ¬((i:Int)<((l.length:Nat):Int));omega)
    |true=>exact decide_eq_false (by show ¬((i:Int)<0);omega),trivial⟩ trivial).trans fun g1 w1 hd=>?_
  obtain⟨I,B,bR,rfl,f1,F1,_⟩:=hd;refine(leave1 Wb F1 rfl).mono fun g6 w6 dz=>?_;obtain⟨dK,rfl,rfl,hL⟩:=dz;exact⟨dK,rfl,fw.trans f1,hL⟩
 |k+1,i,w,fr,hi,fw,hf=>by
  have hlt:i<l.length:=by omega
  obtain⟨x,hx⟩:∃x,l[i]?=some x:=⟨_,aa hlt⟩;cases z with
  |true=>rw[hz rfl]at hlt;simp at hlt
  |false=>
  cases y with
  |true=>rw[hy rfl]at hlt;simp at hlt
  |false=>
  obtain⟨f,DJ⟩:=hf.more;have JG:=DJ ((List.range 26).filter fun i=>!([0,1,5].contains i));obtain⟨ρ,hρ⟩:∃ρ:Env,ρ={(bO [(51,l.length),(52,c),(53,o),(61,l.length),(62,c'),(63,o'),(10,i),(11,x.1),(12,x.2),(21,x.1),(22,x.2)] [(50,A),(60,A')] []:Env)with v:=f}:=⟨_,rfl⟩;refine(ahz.go ρ JG (by rw[hρ];unfold eZ;kernel_rfl) (cg.app (bX (i:=10) (n:=51) (I:=i) (N:=l.length) (by rw[hρ];rfl) (by rw[hρ];rfl) hlt) (cg.app (bX (i:=10) (n:=61) (I:=i) (N:=l.length) (by rw[hρ];rfl) (by rw[hρ];rfl) hlt) ⟨by rw[hρ];exact decide_eq_true rfl,by rw[hρ];exact decide_eq_true rfl,trivial⟩)) ⟨by rw[hρ];exact fw.cell (hel i x hx).1,by rw[hρ];exact fw.cell (hel i x hx).2,by rw[hρ];exact fw.cell (jL i x hx).1,by rw[hρ];exact fw.cell (jL i x hx).2,trivial⟩).trans fun g1 w1 hd=>?_;obtain⟨I,B,bR,rfl,f1,F1,_⟩:=hd;rw[hρ]at F1;refine DX (z:=false) (y:=false) (c:=c) (c':=c') (fun h=>by cases h) (fun h=>by cases h) hel jL hlen k (i+1) (by omega) (fw.trans f1) ?_;rw[<-inc (i:=i) (by omega)];exact F1
theorem Gz{a b:Value}{l:List (Int×Int)}(ha:ei w a l)(hb:ei w b l)(hlen:l.length≤4294967000):dV 13 #[a,b] w fun v w'=>bA w w'∧v=.bool true:=by
 obtain⟨z,A,o,c,rfl,hz,oU,hel⟩:=ha.ex;obtain⟨y,A',o',c',rfl,hy,Gp,jL⟩:=hb.ex;refine cI fun cs=>?_;obtain⟨ρ,hρ⟩:∃ρ:Env,ρ=bO [(51,l.length),(52,c),(53,o),(61,l.length),(62,c'),(63,o')] [(50,A),(60,A')] []:=⟨_,rfl⟩;have nz:(dO z 51).ev ρ=(l.length:Int):=by
  rw[hρ];cases z with
  |false=>rfl
  |true=>rw[hz rfl];rfl
 have ny:(dO y 61).ev ρ=(l.length:Int):=by
  rw[hρ];cases y with
  |false=>rfl
  |true=>rw[hy rfl];rfl
 refine((ahy z y).go ρ (dU Wa rfl (ew z A o l.length c) (ew y A' o' l.length c')) (by rw[hρ];cases z<;>cases y<;>rfl) ⟨by show(!decide ((dO z 51).ev ρ=(dO y 61).ev ρ))=false;rw[nz,ny];simp,trivial⟩ trivial).trans fun g1 w1 hd=>?_
 obtain⟨I,B,bR,rfl,f1,F1,_⟩:=hd;have fN:FA 13 26 acW [] .normal [(0,ew z A o l.length c),(1,ew y A' o' l.length c'),(5,iV (0:Nat))] bR:=by rw[hρ]at F1;cases z<;>cases y<;>exact F1
 refine(DX (w0:=w) hz hy hel jL hlen l.length 0 (by omega) f1 fN).mono fun g2 w2 b_=>?_;obtain⟨cE,rfl,f2,hL⟩:=b_;exact⟨cE,_,rfl,hL,f2,rfl⟩
end
theorem acX(a:Option Addr)(c:Nat):Pc 65 36 [.code (bD Tryz.f65)] ([(0,.raw (.slice a 0 c))]) [] [] [] 19 [100] [0,3,4] qf [.raw (.slice a 0 c),.slice (some (eD 100 0)) (.lit 64) (.lit 64),i64 (.lit 0)] kz0:={}
theorem acY(a:Option Addr)(c:Nat):Pc 65 36 qf ([(0,.raw (.slice a 0 c)),(3,sA 60 63 61 62),(4,i64 (v 10))]) (fo 10 61++[((.cmp .lss (v 10) (.lit 0)),false)]) [] [] 24 [] [0,3,4,26,27,28] acH [.raw (.slice a 0 c),sA 60 63 61 62,i64 (v 10),sA 60 63 61 62,i64 (v 10),i64 (v 10)] []:={}
theorem acZ(a:Option Addr)(c:Nat):Pc 65 36 qf ([(0,.raw (.slice a 0 c)),(3,sA 60 63 61 62),(4,i64 (v 10))]) tP [] [] 15 [] [32,34] On [sA 60 63 61 62,i64 (.lit 0)] []:={}
section
variable {w0:World}{B:Nat}
theorem AL{a:Option Addr}{c':Nat}(hB:w0.heap.size≤B):
  ∀(m i:Nat) {w:World} {cs:List Frame} {fr:Frame},i+m=64->bA w0 w->(cy.vec 77 64 (jz [] i)).at Tryz.prog w B->FA 65 36 V5 [] .normal [(0,.slice a 0 c'),(3,bS B 0 64 64),(4,iV i)] fr->
  Goes (G fr cs) w fun g' w'=>∃fr',g'=G fr' cs∧(bA w0 w'∧(cy.vec 77 64 (jz [] 64)).at Tryz.prog w' B)∧de 65 fr' w' (bS B 0 0 64)
 |0,i,w,cs,fr,hi,fw,hv,hf=>by
  obtain rfl:i=64:=by omega
  obtain⟨ρ,hρ⟩:∃ρ:Env,ρ=bO [(61,64),(62,64),(63,0),(10,64)] [(60,B)] []:=⟨_,rfl⟩;refine((acZ a c').go ρ hf (by rw[hρ];rfl) ⟨by rw[hρ];exact decide_eq_false (by show ¬((64:Int)<64);omega),trivial⟩ trivial).trans fun g1 w1 hd=>?_;obtain⟨I,B1,bR,rfl,f1,F1,_⟩:=hd;rw[hρ]at F1;refine(acL.go (R:=fun y w'=>y=bS B 0 0 64∧w'=w1) (bO [] [] []) F1 (by decide) rfl fun tm ir x' e1 e2=>?_).trans fun g2 w2 b_=>?_
  ·unfold execOp;simp only[e1,bH,av,aM];rw[ir 32 _ rfl,ir 34 (iV (0:Nat)) rfl];exact qD (z:=false) (t:=48) (elem:=77) (size:=4) (A:=B) (off:=0) (n:=64) (c:=64) (k:=0) (by kernel_rfl) (by kernel_rfl) (by omega) (fun h=>by cases h) (fun _=>ay _) ⟨_,rfl,rfl,rfl⟩
  obtain⟨cE,y,rfl,⟨rfl,rfl⟩,F2⟩:=b_;refine(acM.go (bO [] [] [(7,bS B 0 0 64)]) F2 rfl trivial trivial).trans fun g3 w3 cv=>?_;obtain⟨I,B3,cF,rfl,f3,F3,_⟩:=cv;refine(leave1 Om F3 rfl).mono fun g4 w4 dh=>?_;obtain⟨eO,rfl,rfl,hL⟩:=dh;exact⟨eO,rfl,⟨fw.trans (f1.trans f3),bP hv (f1.trans f3)⟩,hL⟩
 |m+1,i,w,cs,fr,hi,fw,hv,hf=>by
  have hic:i<64:=by omega
  have hP:=uP [] i;have BQ:∀{ρ:Env},ρ.i 10=(i:Int)->ρ.i 61=((64:Nat):Int)->cg ρ (fo 10 61):=fun h1 h2=>bX (i:=10) (n:=61) (I:=i) (N:=64) h1 h2 hic;obtain⟨ρ,hρ⟩:∃ρ:Env,ρ=bO [(61,64),(62,64),(63,0),(10,i)] [(60,B)] []:=⟨_,rfl⟩;refine((acY a c').go ρ hf (by rw[hρ];rfl) (cg.app (BQ (by rw[hρ];rfl) (by rw[hρ];rfl)) ⟨by rw[hρ];exact decide_eq_false (by show ¬((i:Int)<0);omega),trivial⟩) trivial).trans fun g1 w1 hd=>?_
  obtain⟨I,B1,bR,rfl,f1,F1,_⟩:=hd;rw[hρ]at F1;refine(acI.go (bO [] [] [(28,iV i)]) (Q:=fun v w'=>v=iV (9437185+i:Nat)) F1 rfl fun w' f=>lS (by omega)).trans fun g2 w2 b_=>?_;obtain⟨cE,vv,rfl,f2,rfl,F2⟩:=b_;obtain⟨τ,fS⟩:∃τ:Env,τ=bO [(61,64),(62,64),(63,0),(10,i),(12,(9437185+i:Nat))] [(60,B)] [(0,.slice a 0 c')]:=⟨_,rfl⟩;refine(acJ.go τ F2 (by rw[fS];rfl) (BQ (by rw[fS];rfl) (by rw[fS];rfl)) trivial).trans fun g3 w3 cv=>?_;obtain⟨I,B3,cF,rfl,f3,F3,_⟩:=cv;have qc:FA 65 36 (KI [.inRegion (opsOf (gK 3731)) [6]]) [] .normal [(0,.slice a 0 c'),(3,bS B 0 64 64),(4,iV i),(31,.pointer (some ⟨B,(jz [] i).length,none⟩)),(30,.agg #[cY 0,iV 0,iV 0,iV ((9437185+i:Nat):Int)])] cF:=by rw[hP,show i*4=0+i*4 by omega];rw[fS]at F3;exact F3
  have f13:=f1.trans (f2.trans f3);refine(gm (cs':=sr [] i) (T:=77) (el:=77) (sz:=4) (V:=.agg #[cY 0,iV 0,iV 0,iV ((9437185+i:Nat):Int)]) acK (by kernel_rfl) (by kernel_rfl) rfl rfl (by intro y hy;have hy:y∈[cY 0,iV 0,iV 0,iV ((9437185+i:Nat):Int)]:=hy;simp only[ai,aA,or_false]at hy;rcases hy with rfl|rfl|rfl|rfl<;>rfl) qc rfl rfl (bP hv f13) (by rw[hP];omega)).trans fun g4 w4 dh=>?_
  obtain⟨eO,rfl,⟨kp,DO⟩,F4⟩:=dh;rw[<-oL]at DO;have o_:bA w0 w4:=cw (fw.trans f13) (kp.mono fun b hb=>by rw[hb];exact hB);refine(TQ.go (bO [(61,64),(62,64),(63,0),(10,i)] [(60,B)] [(0,.slice a 0 c')]) F4 rfl trivial trivial).trans fun g5 w5 eg=>?_;obtain⟨I,B5,gn,rfl,f5,F5,_⟩:=eg;refine AL (a:=a) (c':=c') hB m (i+1) (by omega) (o_.trans f5) (bP DO f5) ?_;rw[<-inc (i:=i) (by omega)];exact F5
variable {w:World}
theorem Oy{s:Value}{l:List Nd}(h:iu w s l)(hlen:l.length≤4294967000):dV 65 #[s] w fun v w'=>bA w w'∧∃B,w.heap.size≤B∧v=bS B 0 l.length (l.length+64)∧(cy.vec 77 (l.length+64) (jz l (l.length+64))).at Tryz.prog w' B:=by
 rcases h.ex with h|⟨rfl,a,c,rfl⟩
 ·exact KJ h hlen
 ·refine cI fun cs=>?_;refine((acX a c).go (bO [] [] []) (cC Gw rfl (.slice a 0 c)) rfl trivial trivial).trans fun g1 w1 hd=>?_;obtain⟨I,B,bR,rfl,f1,F1,bl,_⟩:=hd;refine(AL (w0:=w) bl.1.1 64 0 (by omega) f1 (tQ (sz:=4) bl.1.2 (by kernel_rfl) rfl) F1).mono fun g2 w2 b_=>?_;obtain⟨cE,rfl,⟨f2,kV⟩,hL⟩:=b_;exact⟨cE,_,rfl,hL,f2,_,bl.1.1,rfl,kV⟩
theorem GA{a b:Value}{l:List Nd}(ha:cK w a l)(hb:iu w b l)(hlen:l.length≤4294967000):dV 79 #[a,b] w fun v w'=>bA w w'∧v=.bool true:=by
 rcases hb.ex with hb|⟨rfl,ad,c',rfl⟩
 ·exact DW ha hb hlen
 ·obtain⟨z,A,o,c,rfl,hz,oU,hel⟩:=ha.hd;refine cI fun cs=>?_;obtain⟨ρ,hρ⟩:∃ρ:Env,ρ=bO [(51,0),(52,c),(53,o)] [(50,A)] []:=⟨_,rfl⟩;refine((acT z ad c').go ρ (dU Ow rfl (ew z A o 0 c) (.slice ad 0 c')) (by rw[hρ];cases z<;>rfl) ⟨by
   rw[hρ];cases z<;>rfl,trivial⟩ trivial).trans fun g1 w1 hd=>?_
  obtain⟨I,B,bR,rfl,f1,F1,_⟩:=hd;have fN:FA 79 26 Wc [] .normal [(0,ew z A o 0 c),(5,iV (0:Nat))] bR:=by rw[hρ]at F1;cases z<;>exact F1
  obtain⟨σ,cr⟩:∃σ:Env,σ=bO [(51,0),(52,c),(53,o),(10,0)] [(50,A)] []:=⟨_,rfl⟩;refine((acU z).go σ fN (by rw[cr];cases z<;>rfl) ⟨by rw[cr];cases z<;>rfl,trivial⟩ trivial).trans fun g2 w2 b_=>?_;obtain⟨I,B2,cE,rfl,f2,F2,_⟩:=b_;refine(leave1 Ox F2 rfl).mono fun g6 w6 dz=>?_;obtain⟨dK,rfl,rfl,hL⟩:=dz;exact⟨dK,_,rfl,hL,f1.trans f2,rfl⟩
end
noncomputable def GB(l:Nat):Code:=pc (bD Tryz.f43) (pd l)
theorem Wd:bT Tryz.prog 43 [.bF 0] .normal=.ok ⟨43,8,c_ 43 [.bF 0],[.code (bD Tryz.f43)],[],.run,.normal⟩:=by kernel_rfl
theorem ahB:Pc 43 8 [.code (bD Tryz.f43)] ([(0,.agg [ss 1,.bF 7,i64 (v 4)])]) [] [] [] 9 [101,100] [1,2,4] [.inRegion (opsOf (GB 6)) [2,3,4],.code (GB 7)] [bC 100,bC 101,.bF 7] [(101,.cells [.str ⟨#[]⟩,cn,i64 (.lit 0)] 50),(100,.cells [ss 1,.bF 7,i64 (v 4)] 50)]:={}
theorem ahC:dy 8 (opsOf (GB 6)) 2 [(4,.bF 4)] 65 [.bF 4] 5:={}
noncomputable abbrev TS:List (Nat×bQ):=[(66,.cells [ss 1,.bF 7,i64 (v 4)] 50),(67,.cells [.str ⟨#[]⟩,cn,i64 (.lit 0)] 50)]
theorem ahD:Pc 43 8 [.inRegion (opsOf (GB 6)) [3,4],.code (GB 7)] ([(1,bC 66),(2,bC 67),(5,sA 80 83 81 82)]) [] [] TS 8 [66,67] [2] [.code .ret] [bC 67] [(66,.cells [ss 1,sA 80 83 81 82,i64 (v 4)] 50),(67,.cells [ss 1,sA 80 83 81 82,i64 (v 4)] 50)]:={}
def jr(w:World)(base:Nat)(ts:Value)(l:List Nd):Prop:=∃B,base≤B∧ts=bS B 0 l.length (l.length+64)∧(cy.vec 77 (l.length+64) (jz l (l.length+64))).at Tryz.prog w B
theorem jr.e_{w w':World}{base base':Nat}{own:Nat->Prop}{ts:Value}{l:List Nd}(h:jr w base ts l)(f:bU own w w')(hb:base'≤base)(ho:∀q,base≤q->q<w.heap.size->¬own q):jr w' base' ts l:=by obtain⟨B,h1,h2,h3⟩:=h;exact⟨B,ax hb h1,h2,cy.qy h3 f (ho B h1 (cy.jR h3))⟩
theorem jr.keep{w w':World}{base:Nat}{ts:Value}{l:List Nd}(h:jr w base ts l)(f:bA w w'):jr w' base ts l:=h.e_ f (ay _) fun q _ hq ho=>by have:w.heap.size≤q:=ho;omega
section
variable {w:World}
theorem DY{x:cx}{ts:Value}(h:iu w ts x.tree)(hn:x.tree.length≤4294967000):dV 43 #[fK x ts] w fun v w'=>bA w w'∧∃ts',v=fK x ts'∧jr w' w.heap.size ts' x.tree:=by
 refine cI fun cs=>?_;refine(ahB.go (Go.Proofs.YtmobbajggkjpgaaGreat.SX.iS [(4,x.cj)] [] [(7,ts)] [(1,x.name)]) (cC Wd rfl (fK x ts)) rfl trivial trivial).trans fun g1 w1 hd=>?_;obtain⟨I,B,bR,rfl,f1,F1,bl,inj⟩:=hd;obtain⟨X,eX⟩:∃X,B 100=X:=⟨_,rfl⟩;obtain⟨R,eR⟩:∃R,B 101=R:=⟨_,rfl⟩;have gR:w.heap.size≤R:=by rw[<-eR];exact bl.1.1
 have gX:w.heap.size≤X:=by rw[<-eX];exact bl.2.1.1
 have hR:(cy.obj 50 [.string ⟨#[]⟩,eH,iV 0]).at Tryz.prog w1 R:=by rw[<-eR];exact bl.1.2
 have hX:(cy.obj 50 [.string x.name,ts,iV x.cj]).at Tryz.prog w1 X:=by rw[<-eX];exact bl.2.1.2
 have hXR:X≠R:=fun e=>by have:=inj _ (af _ (ah.2 rfl)) _ (aj ..) (by show B 100=B 101;rw[eX,eR];exact e);cases this
 have fN:FA 43 8 (.inRegion (opsOf (GB 6)) [2,3,4]::[.code (GB 7)]) [] .normal [(1,bK X),(2,bK R),(4,ts)] bR:=by rw[<-eX,<-eR];exact F1
 refine(ahC.go (bO [] [] [(4,ts)]) (Q:=fun v w'=>∃wk,bA w1 wk∧jr w' wk.heap.size v x.tree) fN rfl fun w' f2=>(Oy (h.keep (f1.trans f2)) hn).mono fun v w2 hd=>⟨hd.1,w',f2,hd.2⟩).trans fun g2 w2 b_=>?_;obtain⟨cE,v,rfl,f2,⟨wk,fk,hv⟩,F2⟩:=b_;have hv0:=hv;obtain⟨B0,LQ,rfl,auw⟩:=hv;obtain⟨ρ,hρ⟩:∃ρ:Env,ρ=Go.Proofs.YtmobbajggkjpgaaGreat.SX.iS [(4,x.cj),(81,x.tree.length),(82,(x.tree.length+64:Nat)),(83,0)] [(66,X),(67,R),(80,B0)] [(7,ts)] [(1,x.name)]:=⟨_,rfl⟩;refine(ahD.Df ρ F2 (by rw[hρ];rfl) trivial trivial (nofun) ⟨⟨.obj 50 [.string x.name,ts,iV x.cj],by rw[hρ];exact bP hX f2,rfl,by rw[hρ];rfl⟩,⟨.obj 50 [.string ⟨#[]⟩,eH,iV 0],by rw[hρ];exact bP hR f2,rfl,rfl⟩,trivial⟩ (by rw[hρ];show[X,R].Nodup;simp[hXR])).trans fun g3 w3 cv=>?_
 obtain⟨I3,B3,cF,rfl,kp,F3,Qt,_⟩:=cv;have qc:FA 43 8 (.code .ret::[]) [] .normal [(2,bK R)] cF:=by rw[hρ]at F3;exact F3
 have own:∀q,k_ ρ w2 TS q->w2.heap.size≤q∨q=X∨q=R:=fun q hq=>by
  rcases hq with h|⟨p,hp,e⟩
  ·exact .inl h
  ·rcases ai.1 hp with rfl|hp
   ·have e:ρ.b 66=q:=e;rw[hρ]at e;exact .inr (.inl e.symm)
   ·obtain rfl:=ah.1 hp;have e:ρ.b 67=q:=e;rw[hρ]at e;exact .inr (.inr e.symm)
 have ZU:(cy.obj 50 [.string x.name,bS B0 0 x.tree.length (x.tree.length+64),iV x.cj]).at Tryz.prog w3 R:=by have:=Qt.2.1.2;rw[hρ]at this;exact this
 have f3:bA w w3:=cw (f1.trans f2) (kp.mono fun q hq=>by
  rcases own q hq with h|rfl|rfl
  ·exact ax (f1.trans f2).size h
  ·exact gX
  ·exact gR)
 have lX:X<w1.heap.size:=cy.jR hX;have lR:R<w1.heap.size:=cy.jR hR;refine(oe (ρ:=bO [] [(62,R)] [(40,.string x.name),(41,bS B0 0 x.tree.length (x.tree.length+64)),(42,iV x.cj)]) (lA:=[(2,bC 62)]) (bs:=[]) (mem:=[(⟨.dyn 62,.lit 0⟩,.bF 40),(⟨.dyn 62,.lit 1⟩,.bF 41),(⟨.dyn 62,.lit 2⟩,.bF 42)]) qc (a:=.agg [.bF 40,.bF 41,.bF 42]) (fun p hp=>by
  obtain rfl:=ah.1 hp;exact cN rfl) (fun st=>by kernel_rfl) (nofun) (fun q hq=>by
  simp only[ai,aA,or_false]at hq;rcases hq with rfl|rfl|rfl
  ·exact bG ZU (i:=0) rfl
  ·exact bG ZU (i:=1) rfl
  ·exact bG ZU (i:=2) rfl)).mono fun g6 w6 dz=>?_
 obtain⟨dK,rfl,rfl,hL⟩:=dz;refine⟨dK,_,rfl,hL,f3,_,rfl,hv0.e_ kp (ax f1.size fk.size) fun q hq hlt ho=>?_⟩;have:=fk.size;rcases own q ho with h|rfl|rfl<;>omega
end
noncomputable def fL(l:Nat):Code:=pc (bD Tryz.f23) (pd l)
theorem Oz:bT Tryz.prog 23 [.bF 0] .normal=.ok ⟨23,37,c_ 23 [.bF 0],[.code (bD Tryz.f23)],[],.run,.normal⟩:=by kernel_rfl
theorem We:dL 23 37 2:=fun st=>by kernel_rfl
noncomputable abbrev vu:List Item:=[.code (fL 116),.inLoop (fL 116),.inBlock 0,.code (fL 15)]
theorem ahE:Pc 23 37 [.code (bD Tryz.f23)] ([(0,sA 50 53 51 52)]) RF [] [] 19 [100] [0,3,4] vu [sA 50 53 51 52,.slice (some (eD 100 0)) (.op .add .i64 (.tn (v 51)) (.lit 64)) (.op .add .i64 (.tn (v 51)) (.lit 64)),i64 (.lit 0)] [(100,.row [] 50 (.op .add .i64 (.tn (v 51)) (.lit 64)))]:={}
theorem ac0:Pc 23 37 [.code (bD Tryz.f23)] ([(0,cn)]) [] [] [] 19 [100] [0,3,4] vu [cn,.slice (some (eD 100 0)) (.lit 64) (.lit 64),i64 (.lit 0)] [(100,.cells [.str ⟨#[]⟩,cn,i64 (.lit 0),.str ⟨#[]⟩,cn,i64 (.lit 0),.str ⟨#[]⟩,cn,i64 (.lit 0),.str ⟨#[]⟩,cn,i64 (.lit 0),.str ⟨#[]⟩,cn,i64 (.lit 0),.str ⟨#[]⟩,cn,i64 (.lit 0),.str ⟨#[]⟩,cn,i64 (.lit 0),.str ⟨#[]⟩,cn,i64 (.lit 0),.str ⟨#[]⟩,cn,i64 (.lit 0),.str ⟨#[]⟩,cn,i64 (.lit 0),.str ⟨#[]⟩,cn,i64 (.lit 0),.str ⟨#[]⟩,cn,i64 (.lit 0),.str ⟨#[]⟩,cn,i64 (.lit 0),.str ⟨#[]⟩,cn,i64 (.lit 0),.str ⟨#[]⟩,cn,i64 (.lit 0),.str ⟨#[]⟩,cn,i64 (.lit 0),.str ⟨#[]⟩,cn,i64 (.lit 0),.str ⟨#[]⟩,cn,i64 (.lit 0),.str ⟨#[]⟩,cn,i64 (.lit 0),.str ⟨#[]⟩,cn,i64 (.lit 0),.str ⟨#[]⟩,cn,i64 (.lit 0),.str ⟨#[]⟩,cn,i64 (.lit 0),.str ⟨#[]⟩,cn,i64 (.lit 0),.str ⟨#[]⟩,cn,i64 (.lit 0),.str ⟨#[]⟩,cn,i64 (.lit 0),.str ⟨#[]⟩,cn,i64 (.lit 0),.str ⟨#[]⟩,cn,i64 (.lit 0),.str ⟨#[]⟩,cn,i64 (.lit 0),.str ⟨#[]⟩,cn,i64 (.lit 0),.str ⟨#[]⟩,cn,i64 (.lit 0),.str ⟨#[]⟩,cn,i64 (.lit 0),.str ⟨#[]⟩,cn,i64 (.lit 0),.str ⟨#[]⟩,cn,i64 (.lit 0),.str ⟨#[]⟩,cn,i64 (.lit 0),.str ⟨#[]⟩,cn,i64 (.lit 0),.str ⟨#[]⟩,cn,i64 (.lit 0),.str ⟨#[]⟩,cn,i64 (.lit 0),.str ⟨#[]⟩,cn,i64 (.lit 0),.str ⟨#[]⟩,cn,i64 (.lit 0),.str ⟨#[]⟩,cn,i64 (.lit 0),.str ⟨#[]⟩,cn,i64 (.lit 0),.str ⟨#[]⟩,cn,i64 (.lit 0),.str ⟨#[]⟩,cn,i64 (.lit 0),.str ⟨#[]⟩,cn,i64 (.lit 0),.str ⟨#[]⟩,cn,i64 (.lit 0),.str ⟨#[]⟩,cn,i64 (.lit 0),.str ⟨#[]⟩,cn,i64 (.lit 0),.str ⟨#[]⟩,cn,i64 (.lit 0),.str ⟨#[]⟩,cn,i64 (.lit 0),.str ⟨#[]⟩,cn,i64 (.lit 0),.str ⟨#[]⟩,cn,i64 (.lit 0),.str ⟨#[]⟩,cn,i64 (.lit 0),.str ⟨#[]⟩,cn,i64 (.lit 0),.str ⟨#[]⟩,cn,i64 (.lit 0),.str ⟨#[]⟩,cn,i64 (.lit 0),.str ⟨#[]⟩,cn,i64 (.lit 0),.str ⟨#[]⟩,cn,i64 (.lit 0),.str ⟨#[]⟩,cn,i64 (.lit 0),.str ⟨#[]⟩,cn,i64 (.lit 0),.str ⟨#[]⟩,cn,i64 (.lit 0),.str ⟨#[]⟩,cn,i64 (.lit 0),.str ⟨#[]⟩,cn,i64 (.lit 0),.str ⟨#[]⟩,cn,i64 (.lit 0),.str ⟨#[]⟩,cn,i64 (.lit 0)] 50)]:={}
noncomputable abbrev TU:List (AA×AV):=[(eB 50 53 10 3,ss 1),(eA 50 53 10 3 1,.bF 7),(eA 50 53 10 3 2,i64 (v 9))]
theorem ahF:Pc 23 37 vu (Iz) RG TU [] 27 [] [0,3,4,19,20,24] [.inRegion (opsOf (fL 3730)) [6,7,8],.inBlock 1,.code (fL 467),.inLoop (fL 116),.inBlock 0,.code (fL 15)] [sA 50 53 51 52,sA 60 63 61 62,i64 (v 10),sA 60 63 61 62,i64 (v 10),.agg [ss 1,.bF 7,i64 (v 9)]] []:={}
theorem ahG:dy 37 (opsOf (fL 3730)) 6 [(24,.bF 24)] 43 [.bF 24] 25:={}
theorem ahH:Pc 23 37 [.inRegion (opsOf (fL 3730)) [7,8],.inBlock 1,.code (fL 467),.inLoop (fL 116),.inBlock 0,.code (fL 15)] ([(0,.bF 0),(3,sA 60 63 61 62),(4,i64 (v 10)),(19,sA 60 63 61 62),(20,i64 (v 10)),(25,.bF 30)]) (fo 10 61) [] [] 1 [] [0,3,4,26,25] [.inRegion (opsOf (fL 3730)) [8],.inBlock 1,.code (fL 467),.inLoop (fL 116),.inBlock 0,.code (fL 15)] [.bF 0,sA 60 63 61 62,i64 (v 10),.ptr (some (eB 60 63 10 3)),.bF 30] []:={}
theorem ahI:j7 37 (opsOf (fL 3730)) 8 [] (.store 50 (.tmp 26) (.tmp 25)) 0 none:={}
theorem ac1:Pc 23 37 [.inRegion (opsOf (fL 3730)) [],.inBlock 1,.code (fL 467),.inLoop (fL 116),.inBlock 0,.code (fL 15)] (q_) [] [] [] 8 [] [0,3,4] vu vr []:={}
theorem ahJ(z:Bool):Pc 23 37 vu ([(0,cU z 50 53 51 52),(3,sA 60 63 61 62),(4,i64 (v 10))]) (fo 10 61++[((.cmp .lss (v 10) (dO z 51)),false)]) [] [] 24 [] [0,3,4,27,28,29] [.inRegion (opsOf (fL 3731)) [3,4,5,6],.inBlock 1,.code (fL 467),.inLoop (fL 116),.inBlock 0,.code (fL 15)] [cU z 50 53 51 52,sA 60 63 61 62,i64 (v 10),sA 60 63 61 62,i64 (v 10),i64 (v 10)] []:=by cases z<;>exact{}
theorem ahK:dy 37 (opsOf (fL 3731)) 3 [(29,.bF 29)] 25 [i64 (.lit 9),.bF 29] 30:={}
theorem ahL:Pc 23 37 [.inRegion (opsOf (fL 3731)) [4,5,6],.inBlock 1,.code (fL 467),.inLoop (fL 116),.inBlock 0,.code (fL 15)] ([(0,.bF 0),(3,sA 60 63 61 62),(4,i64 (v 10)),(27,sA 60 63 61 62),(28,i64 (v 10)),(30,i64 (v 12))]) (fo 10 61) [] [] 2 [] [0,3,4,32,31] [.inRegion (opsOf (fL 3731)) [6],.inBlock 1,.code (fL 467),.inLoop (fL 116),.inBlock 0,.code (fL 15)] [.bF 0,sA 60 63 61 62,i64 (v 10),.ptr (some (eB 60 63 10 3)),.agg [.str ⟨#[]⟩,cn,i64 (v 12)]] []:={}
theorem ahM:j7 37 (opsOf (fL 3731)) 6 [] (.store 50 (.tmp 32) (.tmp 31)) 0 none:={}
theorem ac2:Pc 23 37 [.inRegion (opsOf (fL 3731)) [],.inBlock 1,.code (fL 467),.inLoop (fL 116),.inBlock 0,.code (fL 15)] (q_) [] [] [] 8 [] [0,3,4] vu vr []:={}
theorem ahN(z:Bool):Pc 23 37 vu ([(0,cU z 50 53 51 52),(3,sA 60 63 61 62),(4,i64 (v 10))]) tP [] [] 15 [] [33,35] [.inRegion (opsOf (fL 30)) [3,4],.code .ret] [sA 60 63 61 62,i64 (dO z 51)] []:=by cases z<;>exact{}
theorem ahO:j7 37 (opsOf (fL 30)) 3 [] (.slice 22 (.tmp 33) none (some (.tmp 35)) none) 22 (some 36):={}
theorem ahP:Pc 23 37 [.inRegion (opsOf (fL 30)) [4],.code .ret] ([(36,.bF 7)]) [] [] [] 2 [] [2] [.code .ret] [.bF 7] []:={}
def iU(p:cx×Value):List Value:=[.string p.1.name,p.2,iV p.1.cj]
theorem tU:∀l:List (cx×Value),(l.flatMap iU).length=l.length*3
 |[]=>rfl
 |n::l=>by rw[List.flatMap_cons,an,tU l,aC];show 3+l.length*3=_;omega
def OA(i:Nat):cx×Value:=(⟨⟨#[]⟩,[],((9437185+i:Nat):Int)⟩,eH)
structure tV(w:World)(B:Nat)(L:List cx)(i:Nat)(ps:List (cx×Value)):Prop where
 vec:(cy.vec 50 (L.length+64) (ps.flatMap iU)).at Tryz.prog w B
 len:ps.length=i
 real:∀(j:Nat) (x:cx) (p:cx×Value),L[j]?=some x->ps[j]?=some p->p.1=x∧jr w (B+1) p.2 x.tree
 mark:∀(j:Nat) (p:cx×Value),L[j]?=none->ps[j]?=some p->p=OA j
theorem tV.keep{w w':World}{B i:Nat}{L:List cx}{ps:List (cx×Value)}(h:tV w B L i ps)(f:bA w w'):tV w' B L i ps:=
 ⟨bP h.vec f,h.len,fun j x p hx hp=>⟨(h.real j x p hx hp).1,(h.real j x p hx hp).2.keep f⟩,h.mark⟩
theorem tV.push{w w':World}{B i:Nat}{L:List cx}{ps:List (cx×Value)}{q:cx×Value}(h:tV w B L i ps)(kp:bU (fun b=>b=B) w w')(hv:(cy.vec 50 (L.length+64) (ps.flatMap iU++iU q)).at Tryz.prog w' B)(hr:∀x,L[i]?=some x->q.1=x∧jr w (B+1) q.2 x.tree)(hm:L[i]?=none->q=OA i):tV w' B L (i+1) (ps++[q]):=by
 refine⟨by simpa using hv,by rw[an,h.len];rfl,fun j x p hx hp=>?_,fun j p hx hp=>?_⟩
 ·have kw:∀{ts:Value} {l:List Nd},jr w (B+1) ts l->jr w' (B+1) ts l:=fun hh=>hh.e_ kp (ay _) fun q hq _ ho=>by
   have:q=B:=ho;omega
  rw[List.getElem?_append]at hp;split at hp
  ·exact⟨(h.real j x p hx hp).1,kw (h.real j x p hx hp).2⟩
  ·rename_i hj;have hj':j=i:=by
    have:=(ak.1 hp).1;simp at this;rw[h.len]at hj this;omega
   subst hj';rw[h.len,Nat.sub_self]at hp;obtain rfl:=au hp;exact⟨(hr x hx).1,kw (hr x hx).2⟩
 ·rw[List.getElem?_append]at hp;split at hp
  ·exact h.mark j p hx hp
  ·rename_i hj;have hj':j=i:=by
    have:=(ak.1 hp).1;simp at this;rw[h.len]at hj this;omega
   subst hj';rw[h.len,Nat.sub_self]at hp;obtain rfl:=au hp;exact hm hx
noncomputable abbrev ac3:List Item:=vu
noncomputable abbrev OB(r:List Item):List Item:=r++[.inBlock 1,.code (fL 467),.inLoop (fL 116),.inBlock 0,.code (fL 15)]
section
variable {w0:World}{B:Nat}
theorem yy{z:Bool}{A o c':Nat}{l:List cx}(hz:z=true->l=[])(hel:∀i x,l[i]?=some x->og w0 A (o+i*3) x)(hlen:l.length≤4294967000)(htr:∀x∈l,x.tree.length≤4294967000)(hB:w0.heap.size≤B):
  ∀(m i:Nat) {w:World} {cs:List Frame} {fr:Frame} {ps:List (cx×Value)},i+m=l.length+64->bA w0 w->tV w B l i ps->FA 23 37 ac3 [] .normal [(0,ew z A o l.length c'),(3,bS B 0 (l.length+64) (l.length+64)),(4,iV i)] fr->
  Goes (G fr cs) w fun g' w'=>∃fr',g'=G fr' cs∧(bA w0 w'∧∃ps,tV w' B l (l.length+64) ps)∧de 23 fr' w' (bS B 0 l.length (l.length+64))
 |0,i,w,cs,fr,ps,hi,fw,hv,hf=>by
  obtain rfl:i=l.length+64:=by omega
  obtain⟨ρ,hρ⟩:∃ρ:Env,ρ=bO [(51,l.length),(52,c'),(53,o),(61,(l.length+64:Nat)),(62,(l.length+64:Nat)),(63,0),(10,(l.length+64:Nat))] [(50,A),(60,B)] []:=⟨_,rfl⟩;refine((ahN z).go ρ hf (by rw[hρ];cases z<;>rfl) ⟨by rw[hρ];exact decide_eq_false (by show ¬(((l.length+64:Nat):Int)<(((l.length+64:Nat):Nat):Int));omega),trivial⟩ trivial).trans fun g1 w1 hd=>?_;obtain⟨I,B1,bR,rfl,f1,F1,_⟩:=hd;have fN:FA 23 37 [.inRegion (opsOf (fL 30)) [3,4],.code .ret] [] .normal [(33,bS B 0 (l.length+64) (l.length+64)),(35,iV l.length)] bR:=by
   rw[hρ]at F1;cases z with
   |false=>exact F1
   |true=>rw[hz rfl]at F1⊢;exact F1
  refine(ahO.go (R:=fun y w'=>y=bS B 0 l.length (l.length+64)∧w'=w1) (bO [] [] []) fN (by decide) rfl fun tm ir x' e1 e2=>?_).trans fun g2 w2 b_=>?_
  ·unfold execOp;simp only[e1,bH,av,aM];rw[ir 33 _ rfl,ir 35 (iV l.length) rfl];exact qD (z:=false) (t:=22) (elem:=50) (size:=3) (by kernel_rfl) (by kernel_rfl) (show l.length≤l.length+64 by omega) (fun h=>by cases h) (fun _=>ay _) ⟨_,rfl,rfl,rfl⟩
  obtain⟨cE,y,rfl,⟨rfl,rfl⟩,F2⟩:=b_;refine(ahP.go (bO [] [] [(7,bS B 0 l.length (l.length+64))]) F2 rfl trivial trivial).trans fun g3 w3 cv=>?_;obtain⟨I,B3,cF,rfl,f3,F3,_⟩:=cv;refine(leave1 We F3 rfl).mono fun g4 w4 dh=>?_;obtain⟨eO,rfl,rfl,hL⟩:=dh;exact⟨eO,rfl,⟨fw.trans (f1.trans f3),ps,hv.keep (f1.trans f3)⟩,hL⟩
 |m+1,i,w,cs,fr,ps,hi,fw,hv,hf=>by
  have hic:i<l.length+64:=by omega
  have hP:=tU ps;rw[hv.len]at hP;have next:∀{w1 w2:World} {cE:Frame} {ps2:List (cx×Value)},bA w w1->bU (fun b=>b=B) w1 w2->tV w2 B l (i+1) ps2->(∃t,(t=OB [.inRegion (opsOf (fL 3730)) []]∨t=OB [.inRegion (opsOf (fL 3731)) []])∧FA 23 37 t [] .normal [(0,ew z A o l.length c'),(3,bS B 0 (l.length+64) (l.length+64)),(4,iV i)] cE)->
    Goes (G cE cs) w2 fun g' w'=>∃fr',g'=G fr' cs∧(bA w0 w'∧∃ps,tV w' B l (l.length+64) ps)∧de 23 fr' w' (bS B 0 l.length (l.length+64)):=fun{w1 w2 cE ps2} f1 kp kV ht=>by
   have jT:bA w0 w2:=cw (fw.trans f1) (kp.mono fun b hb=>by rw[hb];exact hB);obtain⟨t,ht,F2⟩:=ht;obtain⟨σ,cr⟩:∃σ:Env,σ=bO [(51,l.length),(52,c'),(53,o),(61,(l.length+64:Nat)),(62,(l.length+64:Nat)),(63,0),(10,i)] [(50,A),(60,B)] [(0,ew z A o l.length c')]:=⟨_,rfl⟩;rcases ht with rfl|rfl
   ·refine(ac1.go σ F2 (by rw[cr];rfl) trivial trivial).trans fun g3 w3 cv=>?_;obtain⟨I,B3,cF,rfl,f3,F3,_⟩:=cv;rw[cr]at F3;refine yy (c':=c') hz hel hlen htr hB m (i+1) (by omega) (jT.trans f3) (kV.keep f3) ?_;rw[<-inc (i:=i) (by omega)];exact F3
   ·refine(ac2.go σ F2 (by rw[cr];rfl) trivial trivial).trans fun g3 w3 cv=>?_;obtain⟨I,B3,cF,rfl,f3,F3,_⟩:=cv;rw[cr]at F3;refine yy (c':=c') hz hel hlen htr hB m (i+1) (by omega) (jT.trans f3) (kV.keep f3) ?_;rw[<-inc (i:=i) (by omega)];exact F3
  have BQ:∀{ρ:Env},ρ.i 10=(i:Int)->ρ.i 61=((l.length+64:Nat):Int)->cg ρ (fo 10 61):=fun h1 h2=>bX (i:=10) (n:=61) (I:=i) (N:=l.length+64) h1 h2 hic;by_cases hl:i<l.length
  ·cases z with
   |true=>rw[hz rfl]at hl;simp at hl
   |false=>
   obtain⟨x,hx⟩:∃x,l[i]?=some x:=⟨_,aa hl⟩;obtain⟨ts,c0,c1,c2,hN⟩:=(hel i x hx).ex;obtain⟨ρ,hρ⟩:∃ρ:Env,ρ=Go.Proofs.YtmobbajggkjpgaaGreat.SX.iS [(51,l.length),(52,c'),(53,o),(61,(l.length+64:Nat)),(62,(l.length+64:Nat)),(63,0),(10,i),(9,x.cj)] [(50,A),(60,B)] [(7,ts)] [(1,x.name)]:=⟨_,rfl⟩;refine(ahF.go ρ hf (by rw[hρ];rfl) (cg.app (BQ (by rw[hρ];rfl) (by rw[hρ];rfl)) (bX (i:=10) (n:=51) (I:=i) (N:=l.length) (by rw[hρ];rfl) (by rw[hρ];rfl) hl)) ⟨by rw[hρ];exact fw.cell c0,by rw[hρ];exact fw.cell c1,by rw[hρ];exact fw.cell c2,trivial⟩).trans fun g1 w1 hd=>?_;obtain⟨I,B1,bR,rfl,f1,F1,_⟩:=hd;rw[hρ]at F1;have hBw:B<w.heap.size:=cy.jR hv.vec;refine(ahG.go (bO [] [] [(24,fK x ts)]) (Q:=fun v w'=>∃ts',v=fK x ts'∧jr w' (B+1) ts' x.tree) F1 rfl fun w' f=>(DY (hN.keep (fw.trans (f1.trans f))) (htr x (az hx))).mono fun v w2 hd=>⟨hd.1,by obtain⟨ts',h1,B',h2,h3⟩:=hd.2;have:=f1.size;have:=f.size;exact⟨ts',h1,B',by omega,h3⟩⟩).trans fun g2 w2 b_=>?_
   obtain⟨cE,vv,rfl,f2,⟨ts',rfl,hw⟩,F2⟩:=b_;obtain⟨τ,fS⟩:∃τ:Env,τ=bO [(61,(l.length+64:Nat)),(62,(l.length+64:Nat)),(63,0),(10,i)] [(60,B)] [(0,bS A o l.length c'),(30,fK x ts')]:=⟨_,rfl⟩;refine(ahH.go τ F2 (by rw[fS];rfl) (BQ (by rw[fS];rfl) (by rw[fS];rfl)) trivial).trans fun g3 w3 cv=>?_;obtain⟨I,B3,cF,rfl,f3,F3,_⟩:=cv;have qc:FA 23 37 (OB [.inRegion (opsOf (fL 3730)) [8]]) [] .normal [(0,bS A o l.length c'),(3,bS B 0 (l.length+64) (l.length+64)),(4,iV i),(26,.pointer (some ⟨B,(ps.flatMap iU).length,none⟩)),(25,fK x ts')] cF:=by rw[hP,show i*3=0+i*3 by omega];rw[fS]at F3;exact F3
   have f13:=f1.trans (f2.trans f3);obtain⟨B',hB',ets,_⟩:=id hw;refine(gm (cs':=iU (x,ts')) (T:=50) (el:=50) (sz:=3) (V:=fK x ts') ahI (by kernel_rfl) (by kernel_rfl) rfl rfl (by
    intro y hy;have hy:y∈[Value.string x.name,ts',iV x.cj]:=hy;simp only[ai,aA,or_false]at hy;rcases hy with rfl|rfl|rfl
    ·rfl
    ·rw[ets];rfl
    ·rfl) qc rfl rfl (bP hv.vec f13) (by rw[hP];omega)).trans fun g4 w4 dh=>?_
   obtain⟨eO,rfl,⟨kp,DO⟩,F4⟩:=dh;exact next f13 kp ((hv.keep f13).push kp DO (fun x' hx'=>by rw[hx]at hx';obtain rfl:=au hx';exact⟨rfl,hw.keep f3⟩) (fun h=>by rw[hx]at h;cases h)) ⟨_,.inl rfl,F4.only rfl⟩
  ·have hnone:l[i]?=none:=aQ (by omega);obtain⟨ρ,hρ⟩:∃ρ:Env,ρ=bO [(51,l.length),(52,c'),(53,o),(61,(l.length+64:Nat)),(62,(l.length+64:Nat)),(63,0),(10,i)] [(50,A),(60,B)] []:=⟨_,rfl⟩;refine((ahJ z).go ρ hf (by rw[hρ];cases z<;>rfl) (cg.app (BQ (by rw[hρ];rfl) (by rw[hρ];rfl)) ⟨by
    rw[hρ];cases z with
    |false=>exact decide_eq_false (by show ¬((i:Int)<((l.length:Nat):Int));omega)
    |true=>exact decide_eq_false (by show ¬((i:Int)<0);omega),trivial⟩) trivial).trans fun g1 w1 hd=>?_
   obtain⟨I,B1,bR,rfl,f1,F1,_⟩:=hd;have fN:FA 23 37 (OB [.inRegion (opsOf (fL 3731)) [3,4,5,6]]) [] .normal [(0,ew z A o l.length c'),(3,bS B 0 (l.length+64) (l.length+64)),(4,iV i),(27,bS B 0 (l.length+64) (l.length+64)),(28,iV i),(29,iV i)] bR:=by rw[hρ]at F1;cases z<;>exact F1
   refine(ahK.go (bO [] [] [(29,iV i)]) (Q:=fun v w'=>v=iV (9437185+i:Nat)) fN rfl fun w' f=>lS (by omega)).trans fun g2 w2 b_=>?_;obtain⟨cE,vv,rfl,f2,rfl,F2⟩:=b_;obtain⟨τ,fS⟩:∃τ:Env,τ=bO [(61,(l.length+64:Nat)),(62,(l.length+64:Nat)),(63,0),(10,i),(12,(9437185+i:Nat)),(51,l.length),(52,c'),(53,o)] [(50,A),(60,B)] [(0,ew z A o l.length c')]:=⟨_,rfl⟩;refine(ahL.go τ F2 (by rw[fS];rfl) (BQ (by rw[fS];rfl) (by rw[fS];rfl)) trivial).trans fun g3 w3 cv=>?_;obtain⟨I,B3,cF,rfl,f3,F3,_⟩:=cv;have qc:FA 23 37 (OB [.inRegion (opsOf (fL 3731)) [6]]) [] .normal [(0,ew z A o l.length c'),(3,bS B 0 (l.length+64) (l.length+64)),(4,iV i),(32,.pointer (some ⟨B,(ps.flatMap iU).length,none⟩)),(31,.agg #[.string ⟨#[]⟩,eH,iV ((9437185+i:Nat):Int)])] cF:=by rw[hP,show i*3=0+i*3 by omega];rw[fS]at F3;exact F3
   have f13:=f1.trans (f2.trans f3);refine(gm (cs':=iU (OA i)) (T:=50) (el:=50) (sz:=3) (V:=.agg #[.string ⟨#[]⟩,eH,iV ((9437185+i:Nat):Int)]) ahM (by kernel_rfl) (by kernel_rfl) rfl rfl (by intro y hy;have hy:y∈[Value.string ⟨#[]⟩,eH,iV ((9437185+i:Nat):Int)]:=hy;simp only[ai,aA,or_false]at hy;rcases hy with rfl|rfl|rfl<;>rfl) qc rfl rfl (bP hv.vec f13) (by rw[hP];omega)).trans fun g4 w4 dh=>?_
   obtain⟨eO,rfl,⟨kp,DO⟩,F4⟩:=dh;exact next f13 kp ((hv.keep f13).push kp DO (fun x' hx'=>by rw[hnone]at hx';cases hx') (fun _=>rfl)) ⟨_,.inr rfl,F4.only rfl⟩
variable {w:World}
theorem BS{s:Value}{l:List cx}(h:nN w s l)(hlen:l.length≤4294967000)(htr:∀x∈l,x.tree.length≤4294967000):dV 23 #[s] w fun v w'=>bA w w'∧∃B ps,w.heap.size≤B∧v=bS B 0 l.length (l.length+64)∧tV w' B l (l.length+64) ps:=by
 obtain⟨z,A,o,c',rfl,hz,_,hel⟩:=h.ex;refine cI fun cs=>?_;have fin:∀{w1:World} {bR:Frame} {B:Nat},bA w w1->w.heap.size≤B->(cy.vec 50 (l.length+64) []).at Tryz.prog w1 B->FA 23 37 ac3 [] .normal [(0,ew z A o l.length c'),(3,bS B 0 (l.length+64) (l.length+64)),(4,iV (0:Nat))] bR->Goes (G bR cs) w1 fun g' w'=>∃fr' v,g'=G fr' cs∧de 23 fr' w' v∧bA w w'∧∃B ps,w.heap.size≤B∧v=bS B 0 l.length (l.length+64)∧tV w' B l (l.length+64) ps:=fun{w1 bR B} f1 hB hv F1=>by refine(yy (w0:=w) (ps:=[]) hz hel hlen htr hB (l.length+64) 0 (by omega) f1 ⟨hv,rfl,(fun j x p hx hp=>by cases hp),fun j p hx hp=>by cases hp⟩ F1).mono fun g2 w2 b_=>?_;obtain⟨cE,rfl,⟨f2,ps,kV⟩,hL⟩:=b_;exact⟨cE,_,rfl,hL,f2,B,ps,hB,rfl,kV⟩
 cases z with
 |true=>have hl0:=hz rfl;refine(ac0.go (bO [] [] []) (cC Oz rfl eH) rfl trivial trivial).trans fun g1 w1 hd=>?_;obtain⟨I,B,bR,rfl,f1,F1,bl,_⟩:=hd;refine fin f1 bl.1.1 ?_ (by rw[hl0];exact F1);rw[hl0];exact tQ (sz:=3) bl.1.2 (by kernel_rfl) rfl
 |false=>
  obtain⟨ρ,hρ⟩:∃ρ:Env,ρ=bO [(51,l.length),(52,c'),(53,o)] [(50,A)] []:=⟨_,rfl⟩;refine(ahE.go ρ (cC Oz rfl (bS A o l.length c')) (by rw[hρ];rfl) ⟨by
   rw[hρ];show decide (iz .add .i64 (l.length:Int) 64>4294967296)=false;rw[lG hlen];exact decide_eq_false (by omega),by
   rw[hρ];show decide (iz .add .i64 (l.length:Int) 64<0)=false;rw[lG hlen];exact decide_eq_false (by omega),trivial⟩ trivial).trans fun g1 w1 hd=>?_
  obtain⟨I,B,bR,rfl,f1,F1,bl,_⟩:=hd;rw[hρ]at F1 bl;have Oq:l.length+64=(iz .add .i64 (l.length:Int) 64).toNat:=by rw[lG hlen];rfl
  refine fin (B:=B 100) f1 bl.1.1 (by rw[Oq];exact bl.1.2) (by rw[Oq];exact F1)
end
def kC(w:World)(base:Nat)(s:Value)(L:List cx):Prop:=∃B ps,base≤B∧s=bS B 0 L.length (L.length+64)∧tV w B L (L.length+64) ps
def kD(w:World)(base:Nat)(s:Value)(l:List Int):Prop:=∃B,base≤B∧s=bS B 0 l.length (l.length+64)∧(cy.vec 3 (l.length+64) (mL l (l.length+64))).at Tryz.prog w B
theorem kC.yz{w w':World}{base base':Nat}{own:Nat->Prop}{s:Value}{L:List cx}(h:kC w base s L)(kp:bU own w w')(hb:base'≤base)(ho:∀q,base≤q->q<w.heap.size->¬own q):kC w' base' s L:=by obtain⟨B,ps,h1,h2,h3⟩:=h;exact⟨B,ps,ax hb h1,h2,cy.qy h3.vec kp (ho B h1 (cy.jR h3.vec)),h3.len,fun j x p hx hp=>⟨(h3.real j x p hx hp).1,(h3.real j x p hx hp).2.e_ kp (ay _) fun q hq hl=>ho q (by omega) hl⟩,h3.mark⟩
theorem kD.yz{w w':World}{base base':Nat}{own:Nat->Prop}{s:Value}{l:List Int}(h:kD w base s l)(kp:bU own w w')(hb:base'≤base)(ho:∀q,base≤q->q<w.heap.size->¬own q):kD w' base' s l:=by obtain⟨B,h1,h2,h3⟩:=h;exact⟨B,ax hb h1,h2,cy.qy h3 kp (ho B h1 (cy.jR h3))⟩
theorem kC.keep{w w':World}{base:Nat}{s:Value}{L:List cx}(h:kC w base s L)(f:bA w w'):kC w' base s L:=h.yz f (ay _) fun q _ hq ho=>by have:w.heap.size≤q:=ho;omega
theorem kD.keep{w w':World}{base:Nat}{s:Value}{l:List Int}(h:kD w base s l)(f:bA w w'):kD w' base s l:=h.yz f (ay _) fun q _ hq ho=>by have:w.heap.size≤q:=ho;omega
noncomputable def q8(l:Nat):Code:=pc (bD Tryz.f8) (pd l)
theorem ahQ:bT Tryz.prog 8 [.bF 0] .normal=.ok ⟨8,10,c_ 8 [.bF 0],[.code (bD Tryz.f8)],[],.run,.normal⟩:=by kernel_rfl
theorem cf1:Pc 8 10 [.code (bD Tryz.f8)] ([(0,.agg [.bF 7,.bF 8])]) [] [] [] 6 [101,100] [1,2] [.code (q8 6),.code .ret] [bC 100,bC 101] [(101,.cells [cn,cn] 25),(100,.cells [.bF 7,.bF 8] 25)]:={}
theorem ahR:dH 10 (opsOf (q8 6)) 0 [] [] [(1,bC 66)] (bC 66) 3:={}
theorem ahS:dH 10 (opsOf (q8 6)) 1 [] [(eD 66 0,.bF 7)] [(3,bC 66)] (.bF 7) 4:={}
theorem ahT:dy 10 (opsOf (q8 6)) 2 [(4,.bF 4)] 23 [.bF 4] 5:={}
theorem ahU:dH 10 (opsOf (q8 6)) 3 [] [] [(1,bC 66)] (.ptr (some (eD 66 1))) 6:={}
theorem ahV:dH 10 (opsOf (q8 6)) 4 [] [(eD 66 1,.bF 7)] [(6,.ptr (some (eD 66 1)))] (.bF 7) 7:={}
theorem ahW:dy 10 (opsOf (q8 6)) 5 [(7,.bF 7)] 24 [.bF 7] 8:={}
theorem ahX(z y:Bool):dH 10 (opsOf (q8 6)) 6 [] [] [(5,cU z 80 83 81 82),(8,cU y 90 93 91 92)] (.agg [cU z 80 83 81 82,cU y 90 93 91 92]) 9:=⟨fun st=>by cases z<;>cases y<;>kernel_rfl,fun st=>by cases z<;>cases y<;>kernel_rfl,fun st=>by cases z<;>cases y<;>kernel_rfl,by kernel_rfl,by cases z<;>cases y<;>rfl⟩
noncomputable abbrev OC:List (Nat×bQ):=[(67,.cells [cn,cn] 25)]
theorem ahY(z y:Bool):Pc 8 10 [.inRegion (opsOf (q8 6)) [7],.code .ret] ([(2,bC 67),(9,.agg [cU z 80 83 81 82,cU y 90 93 91 92])]) [] [] OC 2 [67] [2] [.code .ret] [bC 67] [(67,.cells [cU z 80 83 81 82,cU y 90 93 91 92] 25)]:=by cases z<;>cases y<;>exact{}
noncomputable abbrev cfD:Array Oper:=opsOf (q8 6)
def ZV(X:Nat)(ls os:Value)(L:List cx)(O:List Int)(b0 i:Nat)(v:Value)(w:World):Prop:=match i with
 |0=>v=.pointer (some ⟨X,0,none⟩)
 |1=>v=ls
 |2=>kC w b0 v L
 |3=>v=.pointer (some ⟨X,1,none⟩)
 |4=>v=os
 |5=>kD w b0 v O
 |_=>∃a b,v=.agg #[a,b]∧kC w b0 a L∧kD w b0 b O
theorem Wh:cfD.size=8:=by kernel_rfl
theorem Wi:BG (q8 6)=true:=by kernel_rfl
section
variable {w w0:World}{cs:List Frame}{fr:Frame}
theorem OD{X:Nat}{ls os:Value}{L:List cx}{O:List Int}{b0:Nat}(i:Nat)(v:Value)(w w':World)(h:ZV X ls os L O b0 i v w)(f:bA w w'):ZV X ls os L O b0 i v w':=by
 unfold ZV at h⊢;split at h
 all_goals first|exact h|exact kC.keep h f|exact kD.keep h f|exact(let⟨a,b,h1,h2,h3⟩:=h;⟨a,b,h1,h2.keep f,h3.keep f⟩)
theorem RH{X R:Nat}{ls os:Value}{L:List cx}{O:List Int}{k:List Item}(hX:(cy.obj 25 [ls,os]).at Tryz.prog w0 X)(hL:nN w0 ls L)(hO:jq w0 os O)(hlen:L.length≤4294967000)(htr:∀x∈L,x.tree.length≤4294967000)(Wj:O.length≤4294967000):
  ∀i,i<8->Nat.blt i 7=true->∀(l:List Nat) (w:World) (fr:Frame) (lv:List (Nat×Value)),bA w0 w->FA 8 10 (.inRegion cfD (i::l)::k) [] .normal lv fr->(∀x∈[(1,bK X),(2,bK R)],x∈lv)->(∀p∈jf cfD i,∃v,(p+3,v)∈lv∧ZV X ls os L O w0.heap.size p v w)->
   Goes (G fr cs) w fun g' w'=>∃fr' v,g'=G fr' cs∧bA w w'∧ZV X ls os L O w0.heap.size i v w'∧FA 8 10 (.inRegion cfD l::k) [] .normal (fP (i+3) v lv) fr':=by
 intro i hi he l w fr lv f hf hb hp;have b1:((1,bK X):Nat×Value)∈lv:=hb _ (aj ..);have he:=Nat.blt_eq.mp he;rcases(by omega:i=0∨i=1∨i=2∨i=3∨i=4∨i=5∨i=6)with rfl|rfl|rfl|rfl|rfl|rfl|rfl
 ·exact ahR.di (bO [] [(66,X)] []) hf (by decide) (fun q hq=>by obtain rfl:=ah.1 hq;exact b1) trivial trivial rfl
 ·obtain⟨v0,q0,e0⟩:=hp 0 (dI (by kernel_rfl));have e0:v0=.pointer (some ⟨X,0,none⟩):=e0;subst e0;exact ahS.di (bO [] [(66,X)] [(7,ls)]) hf (by decide) (fun q hq=>by obtain rfl:=ah.1 hq;exact q0) trivial ⟨f.cell (bG hX (i:=0) rfl),trivial⟩ rfl
 ·obtain⟨v1,q1,e1⟩:=hp 1 (dI (by kernel_rfl));have e1:v1=ls:=e1;subst e1;exact ahT.di (bO [] [] [(4,v1)]) (Q:=fun v w'=>kC w' w0.heap.size v L) hf (fun q hq=>by
   obtain rfl:=ah.1 hq;exact q1) fun w' f1=>(BS (hL.keep (f.trans f1)) hlen htr).mono fun v w2 hd=>⟨hd.1,by
   obtain⟨B,ps,h1,h2,h3⟩:=hd.2;exact⟨B,ps,ax (f.trans f1).size h1,h2,h3⟩⟩
 ·exact ahU.di (bO [] [(66,X)] []) hf (by decide) (fun q hq=>by obtain rfl:=ah.1 hq;exact b1) trivial trivial rfl
 ·obtain⟨v3,q3,e3⟩:=hp 3 (dI (by kernel_rfl));have e3:v3=.pointer (some ⟨X,1,none⟩):=e3;subst e3;exact ahV.di (bO [] [(66,X)] [(7,os)]) hf (by decide) (fun q hq=>by obtain rfl:=ah.1 hq;exact q3) trivial ⟨f.cell (bG hX (i:=1) rfl),trivial⟩ rfl
 ·obtain⟨v4,q4,e4⟩:=hp 4 (dI (by kernel_rfl));have e4:v4=os:=e4;subst e4;exact ahW.di (bO [] [] [(7,v4)]) (Q:=fun v w'=>kD w' w0.heap.size v O) hf (fun q hq=>by
   obtain rfl:=ah.1 hq;exact q4) fun w' f1=>(KH (hO.keep (f.trans f1)) Wj).mono fun v w2 hd=>⟨hd.1,by
   obtain⟨B,h1,h2,h3⟩:=hd.2;exact⟨B,ax (f.trans f1).size h1,h2,h3⟩⟩
 ·obtain⟨v2,q2,e2⟩:=hp 2 (dI (by kernel_rfl));have e2:kC w w0.heap.size v2 L:=e2;obtain⟨v5,q5,e5⟩:=hp 5 (dI (by kernel_rfl));have e5:kD w w0.heap.size v5 O:=e5;obtain⟨A,ps,_,h1,_⟩:=(show _ from e2);obtain⟨A',_,g1,_⟩:=(show _ from e5);obtain⟨ρ,hρ⟩:∃ρ:Env,ρ=bO [(81,L.length),(82,(L.length+64:Nat)),(83,0),(91,O.length),(92,(O.length+64:Nat)),(93,0)] [(80,A),(90,A')] []:=⟨_,rfl⟩;have ez:(cU false 80 83 81 82).ev ρ=v2:=by rw[hρ,h1];rfl
  have ey:(cU false 90 93 91 92).ev ρ=v5:=by rw[hρ,g1];rfl
  refine((ahX false false).di ρ hf (by decide) (fun q hq=>?_) trivial trivial (v:=.agg #[v2,v5]) (by show Value.agg #[(cU false 80 83 81 82).ev ρ,(cU false 90 93 91 92).ev ρ]=_;rw[ez,ey])).mono fun g' w' hd=>?_
  ·simp only[told,aU,List.map_nil,ai,aA,or_false]at hq;rcases hq with rfl|rfl
   ·rw[ez];exact q2
   ·rw[ey];exact q5
  ·obtain⟨fr',v',k1,k2,rfl,k3⟩:=hd;exact⟨fr',_,k1,k2,⟨v2,v5,rfl,e2.keep k2,e5.keep k2⟩,k3⟩
theorem BT{x:Value}{F:iG}(h:mK w x F)(hlen:F.lets.length≤4294967000)(htr:∀x∈F.lets,x.tree.length≤4294967000)(Wj:F.outs.length≤4294967000):dV 8 #[x] w fun v w'=>bA w w'∧∃ls os,v=.agg #[ls,os]∧kC w' w.heap.size ls F.lets∧kD w' w.heap.size os F.outs:=by
 obtain⟨ls,os,rfl,hl,ho⟩:=h;refine cI fun cs=>?_;refine(cf1.go (bO [] [] [(7,ls),(8,os)]) (cC ahQ rfl (.agg #[ls,os])) rfl trivial trivial).trans fun g1 w1 hd=>?_;obtain⟨I,B,bR,rfl,f1,F1,bl,inj⟩:=hd;obtain⟨X,eX⟩:∃X,B 100=X:=⟨_,rfl⟩;obtain⟨R,eR⟩:∃R,B 101=R:=⟨_,rfl⟩;have gR:w.heap.size≤R:=by rw[<-eR];exact bl.1.1
 have hR:(cy.obj 25 [eH,eH]).at Tryz.prog w1 R:=by rw[<-eR];exact bl.1.2
 have hX:(cy.obj 25 [ls,os]).at Tryz.prog w1 X:=by rw[<-eX];exact bl.2.1.2
 have fN:FA 8 10 (.code (q8 6)::[.code .ret]) [] .normal [(1,bK X),(2,bK R)] bR:=by rw[<-eX,<-eR];exact F1
 obtain⟨id,hid⟩:=gS Wi;rw[hid]at fN;refine(gQ fN).trans fun g2 w2 b_=>?_;obtain⟨l,cE,rfl,f2,hs,F2⟩:=b_;refine(iw (b:=[(1,bK X),(2,bK R)]) (nm:=fun i=>i+3) (val:=ZV X ls os F.lets F.outs w1.heap.size) (early:=fun i=>Nat.blt i 7) (late:=[7]) (w0:=w1) Wh (by kernel_rfl) (by kernel_rfl) (by kernel_rfl) (by kernel_rfl) (by kernel_rfl) (by kernel_rfl) (bx _ _) OD (RH hX (hl.keep f1) (ho.keep f1) hlen htr Wj) l [] f2 (fun i hi=>by cases hi) hs ⟨_,F2,fun x hx=>hx,fun i hi=>by cases hi⟩).trans fun g3 w3 cv=>?_;obtain⟨cF,lv,rfl,f3,F3,hb,hv⟩:=cv;obtain⟨v,q,a,b,rfl,hA,hB⟩:=hv 6 (by decide) rfl;obtain⟨A,ps,_,h1,_⟩:=(show _ from hA);obtain⟨A',_,g1,_⟩:=(show _ from hB);obtain⟨ρ,hρ⟩:∃ρ:Env,ρ=bO [(81,F.lets.length),(82,(F.lets.length+64:Nat)),(83,0),(91,F.outs.length),(92,(F.outs.length+64:Nat)),(93,0)] [(67,R),(80,A),(90,A')] []:=⟨_,rfl⟩;have ez:∀I B,(cU false 80 83 81 82).ev (dc ρ I B)=a:=fun I B=>by rw[hρ,h1];rfl
 have ey:∀I B,(cU false 90 93 91 92).ev (dc ρ I B)=b:=fun I B=>by rw[hρ,g1];rfl
 have e9:(AV.agg [cU false 80 83 81 82,cU false 90 93 91 92]).ev ρ=.agg #[a,b]:=by rw[hρ,h1,g1];rfl
 have qc:FA 8 10 (.inRegion cfD [7]::[.code .ret]) [] .normal [(2,bK R),(9,.agg #[a,b])] cF:=F3.sub fun x hx=>by
  simp only[ai,aA,or_false]at hx;rcases hx with rfl|rfl
  ·exact hb _ (af _ (aj ..))
  ·exact q
 refine((ahY false false).Df ρ qc (by show[some _,some _]=[some _,some ((AV.agg [cU false 80 83 81 82,cU false 90 93 91 92]).ev ρ)];rw[e9,hρ];rfl) trivial trivial (nofun) ⟨⟨.obj 25 [eH,eH],by rw[hρ];exact bP hR f3,rfl,rfl⟩,trivial⟩ eS).trans fun g4 w4 dh=>?_
 obtain⟨I4,B4,eO,rfl,kp,F4,bl4,_⟩:=dh;have hR4:(cy.obj 25 [a,b]).at Tryz.prog w4 R:=by
  have h1:(cy.obj 25 [(cU false 80 83 81 82).ev (dc ρ I4 B4),(cU false 90 93 91 92).ev (dc ρ I4 B4)]).at Tryz.prog w4 R:=by have:=bl4.1.2;rw[hρ]at this⊢;exact this
  rw[ez,ey]at h1;exact h1
 have own:∀q,k_ ρ w3 OC q->w3.heap.size≤q∨q=R:=fun q hq=>by
  rcases hq with h|⟨p,hp,e⟩
  ·exact .inl h
  ·obtain rfl:=ah.1 hp;have e:ρ.b 67=q:=e;rw[hρ]at e;exact .inr e.symm
 have hi:∀q,w1.heap.size≤q->q<w3.heap.size->¬k_ ρ w3 OC q:=fun q h1 h2 ho=>by have:=cy.jR hR;rcases own q ho with h|h<;>omega
 have ZU:(cy.obj 25 [eH,eH]).at Tryz.prog w3 R:=bP hR f3;have f4:bA w w4:=cw (f1.trans f3) (kp.mono fun q hq=>by have:=(f1.trans f3).size;rcases own q hq with h|h<;>omega)
 have Qu:FA 8 10 (.code .ret::[]) [] .normal [(2,bK R)] eO:=by rw[hρ]at F4;exact F4
 refine(oe (ρ:=bO [] [(62,R)] [(40,a),(41,b)]) (lA:=[(2,bC 62)]) (bs:=[]) (mem:=[(⟨.dyn 62,.lit 0⟩,.bF 40),(⟨.dyn 62,.lit 1⟩,.bF 41)]) Qu (a:=.agg [.bF 40,.bF 41]) (fun p hp=>by
  obtain rfl:=ah.1 hp;exact cN rfl) (fun st=>by kernel_rfl) (nofun) (fun q hq=>by
  simp only[ai,aA,or_false]at hq;rcases hq with rfl|rfl
  ·exact bG hR4 (i:=0) rfl
  ·exact bG hR4 (i:=1) rfl)).mono fun g6 w6 dz=>?_
 obtain⟨dK,rfl,rfl,hL⟩:=dz;exact⟨dK,_,rfl,hL,f4,a,b,rfl,hA.yz kp f1.size hi,hB.yz kp f1.size hi⟩
end
theorem AM{f:Nat->List Value}{sz:Nat}(hf:∀i,(f i).length=sz):∀n,((List.range n).flatMap f).length=n*sz
 |0=>by simp
 |n+1=>by rw[List.range_succ,List.flatMap_append,an,AM hf n];simp[hf,Nat.succ_mul]
theorem kO{f:Nat->List Value}{sz:Nat}(hf:∀i,(f i).length=sz):∀(n i r:Nat),i<n->r<sz->((List.range n).flatMap f)[i*sz+r]?=(f i)[r]?
 |n+1,i,r,hi,hr=>by
  have hl:=AM hf n;rw[List.range_succ,List.flatMap_append];by_cases h:i<n
  ·have:(i+1)*sz≤n*sz:=bk _ h;rw[aK (by rw[hl];rw[Nat.succ_mul]at this;omega)];exact kO hf n i r h hr
  ·obtain rfl:i=n:=by omega
   rw[List.getElem?_append_right (by rw[hl];omega),hl,show i*sz+r-i*sz=r by omega];simp
section
variable {w:World}{base:Nat}{s:Value}
theorem kD.at{l:List Int}(h:kD w base s l):jq w s l:=by
 obtain⟨B,_,h2,h3⟩:=h;refine⟨false,B,0,l.length+64,h2,(fun h=>by cases h),fun _=>by omega,fun i n hi=>?_⟩;have hl:=(ak.1 hi).1;have e:=kO (f:=tS l) (sz:=1) (ym l) (l.length+64) i 0 (by omega) (by omega);have e':(mL l (l.length+64))[i]?=some (iV n):=by rw[Nat.mul_one,Nat.add_zero]at e;refine e.trans ?_;unfold tS;rw[hi];rfl
 rw[aF];exact cy.cS h3 e'
theorem jr.at{l:List Nd}(h:jr w base s l):cK w s l:=by
 obtain⟨B,_,h2,h3⟩:=h;refine⟨.inr ⟨B,0,l.length+64,h2,by omega,fun i n hi=>?_⟩⟩;have hl:=(ak.1 hi).1;have e:∀r,r<4->(jz l (l.length+64))[i*4+r]?=(tR n)[r]?:=fun r hr=>by have:=kO (f:=sr l) (sz:=4) (yp l) (l.length+64) i r (by omega) hr;refine this.trans ?_;unfold sr;rw[hi]
 rw[aF];exact⟨cy.cS h3 (e 0 (by decide)),cy.cS h3 (e 1 (by decide)),cy.cS h3 (e 2 (by decide)),cy.cS h3 (e 3 (by decide))⟩
theorem lT:∀{l:List (cx×Value)} {i:Nat} {p:cx×Value},l[i]?=some p->∀r,r<3->(l.flatMap iU)[i*3+r]?=(iU p)[r]?
 |a::l,0,p,h,r,hr=>by obtain rfl:a=p:=au h;rw[List.flatMap_cons,Nat.zero_mul,aF,aK (by show r<3;exact hr)]
 |a::l,i+1,p,h,r,hr=>by have ih:=lT (l:=l) (i:=i) (p:=p) h r hr;rw[List.flatMap_cons,List.getElem?_append_right (by show 3≤_;omega),show(i+1)*3+r-(iU a).length=i*3+r by show(i+1)*3+r-3=_;omega];exact ih
theorem kC.at{L:List cx}(h:kC w base s L):r9 w s L:=by obtain⟨B,ps,_,h2,h3⟩:=h;refine⟨false,B,0,L.length+64,h2,(fun h=>by cases h),fun _=>by omega,fun i x hi=>?_⟩;have hl:=(ak.1 hi).1;obtain⟨p,hp⟩:∃p,ps[i]?=some p:=⟨_,aa (by rw[h3.len];omega)⟩;obtain⟨rfl,hw⟩:=h3.real i x p hi hp;have e:=lT hp;rw[aF];exact⟨p.2,cy.cS h3.vec (e 0 (by decide)),cy.cS h3.vec (e 1 (by decide)),cy.cS h3.vec (e 2 (by decide)),hw.at⟩
theorem KM{x ls os:Value}{F:iG}(e:x=.agg #[ls,os])(h:kC w base ls F.lets)(h2:kD w base os F.outs):r_ w x F:=⟨ls,os,e,h.at,h2.at⟩
end
noncomputable def Wk(l:Nat):Code:=pc (bD Tryz.f56) (pd l)
theorem Wl:bT Tryz.prog 56 [.bF 0,.bF 1] .normal=.ok ⟨56,24,c_ 56 [.bF 0,.bF 1],[.code (bD Tryz.f56)],[],.run,.normal⟩:=by kernel_rfl
theorem Wm:dL 56 24 4:=fun st=>by kernel_rfl
theorem ahZ:Pc 56 24 [.code (bD Tryz.f56)] ([(0,.agg [ss 1,.bF 7,i64 (v 4)]),(1,.agg [ss 1,.bF 17,i64 (v 4)])]) [((.seq false (.var 1) (.var 1)),true),((.cmp .eql (v 4) (v 4)),true)] [] [] 25 [] [17,19,21] [.inRegion (opsOf (Wk 6)) [17,18,19],.code .ret] [TB,.bF 7,.bF 17] []:={}
theorem ah0:dy 24 (opsOf (Wk 6)) 17 [(17,TB),(19,.bF 19),(21,.bF 21)] 79 [.bF 19,.bF 21] 22:={}
theorem ah1:Pc 56 24 [.inRegion (opsOf (Wk 6)) [18,19],.code .ret] ([(17,TB),(22,TB)]) [] [] [] 3 [] [4] [.code .ret] [TB] []:={}
section
variable {w:World}
theorem KN{x:cx}{ts ts':Value}(ha:cK w ts x.tree)(hb:iu w ts' x.tree)(hn:x.tree.length≤4294967000):dV 56 #[fK x ts,fK x ts'] w fun v w'=>bA w w'∧v=.bool true:=by
 refine cI fun cs=>?_;obtain⟨ρ,hρ⟩:∃ρ:Env,ρ=Go.Proofs.YtmobbajggkjpgaaGreat.SX.iS [(4,x.cj)] [] [(7,ts),(17,ts')] [(1,x.name)]:=⟨_,rfl⟩;refine(ahZ.go ρ (dU Wl rfl (fK x ts) (fK x ts')) (by rw[hρ];rfl) ⟨by
  show(((ρ.s 1).toList==(ρ.s 1).toList) != false)=true;simp,by
  show decide (ρ.i 4=ρ.i 4)=true;simp,trivial⟩ trivial).trans fun g1 w1 hd=>?_
 obtain⟨I,B,bR,rfl,f1,F1,_⟩:=hd;rw[hρ]at F1;refine(ah0.go (bO [] [] [(19,ts),(21,ts')]) (Q:=fun v w'=>v=.bool true) F1 rfl fun w' f=>GA (ha.keep (f1.trans f)) (hb.keep (f1.trans f)) hn).trans fun g2 w2 b_=>?_;obtain⟨cE,vv,rfl,f2,rfl,F2⟩:=b_;refine(ah1.go (bO [] [] []) F2 rfl trivial trivial).trans fun g3 w3 cv=>?_;obtain⟨I3,B3,cF,rfl,f3,F3,_⟩:=cv;refine(leave1 Wm F3 rfl).mono fun g6 w6 dz=>?_;obtain⟨dK,rfl,rfl,hL⟩:=dz;exact⟨dK,_,rfl,hL,f1.trans (f2.trans f3),rfl⟩
end
end Go.Proofs.YtmobbajggkjpgaaGreat

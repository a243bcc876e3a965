/-
  A symbolic run of the model, proved sound, and the walk of the code: a text of its parts. Conditions: none.
-/
import Derived.Test.YtmobbajggkjpgaaGreatLF
set_option linter.unusedSectionVars false
set_option maxRecDepth 100000
set_option linter.unusedVariables false
set_option linter.unusedSimpArgs false
namespace Go.Proofs.YtmobbajggkjpgaaGreat
open Go.Proofs.YtmobbajggkjpgaaGreat.SX Go.Conc
open _root_.List renaming mem_cons_of_mem->aa,getElem?_eq_getElem->af,mem_singleton->ah,mem_cons_self->ai,mem_cons->aj,length_append->ak,getElem?_eq_some_iff->aq,mem_of_getElem?->ay,not_mem_nil->az,length_cons->aC,map_cons->aK,getElem?_eq_none->aM,length->aP,getElem?_append_left->aV,pairwise_singleton->bh
open _root_.Option.some renaming inj->au
open _root_.Option renaming map_some->av,map_none->aI
open _root_.Nat renaming le_refl->ax,le_trans->aA,zero_add->aG,mul_le_mul_right->bf
open _root_.Array renaming getElem?_eq_getElem->aO
noncomputable def q20(l:Nat):Code:=pc (bD Tryz.f20) (pd l)
theorem YL:bP Tryz.prog 20 [] .normal=.ok ⟨20,15,c8 20 [],[.code (bD Tryz.f20)],[],.run,.normal⟩:=by kernel_rfl
noncomputable def q40(l:Nat):Code:=pc (bD Tryz.f63) (pd l)
theorem YM:bP Tryz.prog 63 [.bC 0] .normal=.ok ⟨63,9,c8 63 [.bC 0],[.code (bD Tryz.f63)],[],.run,.normal⟩:=by kernel_rfl
theorem YN:dP 63 9 2:=fun st=>by kernel_rfl
noncomputable def q28(l:Nat):Code:=pc (bD Tryz.f41) (pd l)
theorem YO:bP Tryz.prog 41 [.bC 0] .normal=.ok ⟨41,30,c8 41 [.bC 0],[.code (bD Tryz.f41)],[],.run,.normal⟩:=by kernel_rfl
theorem YP:dP 41 30 2:=fun st=>by kernel_rfl
noncomputable def yG(l:Nat):Code:=pc (bD Tryz.f21) (pd l)
theorem YQ:bP Tryz.prog 21 [.bC 0,.bC 1] .normal=.ok ⟨21,31,c8 21 [.bC 0,.bC 1],[.code (bD Tryz.f21)],[],.run,.normal⟩:=by kernel_rfl
theorem YR:dP 21 31 4:=fun st=>by kernel_rfl
theorem pr1:Pc 20 15 [.code (bD Tryz.f20)] ([]) [] [] [] 30 [105,103,101,100] [0] [.code .ret] [bz 100] [(105,.cells [.str ⟨#[97]⟩,.slice (some (eD 101 0)) (.lit 1) (.lit 1),i64 (.lit 0),.str ⟨#[98]⟩,.slice (some (eD 103 0)) (.lit 3) (.lit 3),i64 (.lit 0)] 50),(103,.cells [i8 (.lit 4),i64 (.lit 0),i64 (.lit 2),i64 (.lit 0),i8 (.lit 2),i64 (.lit 0),i64 (.lit 0),i64 (.lit 0),i8 (.lit 1),i64 (.lit 2),i64 (.lit 0),i64 (.lit 0)] 77),(101,.cells [i8 (.lit 1),i64 (.lit 1),i64 (.lit 0),i64 (.lit 0)] 77),(100,.cells [.slice (some (eD 105 0)) (.lit 2) (.lit 2),cj] 25)]:={}
theorem cc1:Pc 63 9 [.code (bD Tryz.f63)] ([(0,sA 50 53 51 52)]) [] [] [] 11 [] [3,5,7] [.inRegion (opsOf (q40 6)) [5,6],.code .ret] [sA 50 53 51 52,i64 (.tn (v 51)),i64 (.tn (v 51))] []:={}
theorem cc2:jO 9 (opsOf (q40 6)) 5 [] (.slice 23 (.tmp 3) none (some (.tmp 5)) (some (.tmp 7))) 23 (some 8):={}
theorem cc3:Pc 63 9 [.inRegion (opsOf (q40 6)) [6],.code .ret] ([(8,.bC 8)]) [] [] [] 2 [] [2] [.code .ret] [.bC 8] []:={}
theorem ne1:Pc 41 30 [.code (bD Tryz.f41)] ([(0,.agg [ss 1,.slice (some (eD 70 0)) (.lit 3) (.lit 3),i64 (v 4)])]) [] [(eD 70 0,i8 (.lit 4)),(eD 70 1,i64 (.lit 0)),(eD 70 2,i64 (.lit 2)),(eD 70 3,i64 (.lit 0)),(eD 70 4,i8 (.lit 2)),(eD 70 5,i64 (.lit 0)),(eD 70 6,i64 (.lit 0)),(eD 70 7,i64 (.lit 0)),(eD 70 8,i8 (.lit 1)),(eD 70 9,i64 (.lit 2)),(eD 70 10,i64 (.lit 0)),(eD 70 11,i64 (.lit 0))] [] 300 [105] [28] [.inRegion (opsOf (q28 126)) [2,3],.code .ret] [.slice (some (eD 105 0)) (.lit 1) (v 105)] [(105,.row [i64 (.lit 0)] 3 (v 105))]:={}
theorem ne2:di 30 (opsOf (q28 126)) 2 [(28,.bC 28)] 63 [.bC 28] 29:={}
theorem ne3:Pc 41 30 [.inRegion (opsOf (q28 126)) [3],.code .ret] ([(29,.bC 29)]) [] [] [] 2 [] [2] [.code .ret] [.bC 29] []:={}
noncomputable def rI(l:Nat):Code:=pc (bD Tryz.f22) (pd l)
theorem YS:bP Tryz.prog 22 [.bC 0] .normal=.ok ⟨22,34,c8 22 [.bC 0],[.code (bD Tryz.f22)],[],.run,.normal⟩:=by kernel_rfl
theorem YT:sP 22 34 2 3:=fun st=>by kernel_rfl
noncomputable def Dp(l:Nat):Code:=pc (bD Tryz.f42) (pd l)
theorem YU:dP 42 41 5:=fun st=>by kernel_rfl
theorem nn1:Pc 21 31 [.code (bD Tryz.f21)] ([(0,.agg [.slice (some (eD 50 0)) (.lit 2) (.lit 2),cj]),(1,i64 (.lit 1))]) [] [] [] 9 [100] [1,2,8] [.inRegion (opsOf (yG 12)) [1,2,3,4,5,6],.code (yG 13),.code (yG 7)] [i64 (.lit 1),bz 100,.agg [.slice (some (eD 50 0)) (.lit 2) (.lit 2),cj]] [(100,.cells [.slice (some (eD 50 0)) (.lit 2) (.lit 2),cj] 25)]:={}
theorem nn2:di 31 (opsOf (yG 12)) 1 [(8,.bC 8)] 26 [.bC 8] 9:={}
noncomputable abbrev kz1:List (AA×AV):=[(eD 50 0,.str ⟨#[97]⟩),(eD 50 1,.slice (some (eD 70 0)) (.lit 1) (.lit 1)),(eD 50 2,i64 (.lit 0)),(eD 50 3,.str ⟨#[98]⟩),(eD 50 4,.slice (some (eD 71 0)) (.lit 3) (.lit 3)),(eD 50 5,i64 (.lit 0)),(eD 70 0,i8 (.lit 1)),(eD 70 1,i64 (.lit 1)),(eD 70 2,i64 (.lit 0)),(eD 70 3,i64 (.lit 0)),(eD 71 0,i8 (.lit 4)),(eD 71 1,i64 (.lit 0)),(eD 71 2,i64 (.lit 2)),(eD 71 3,i64 (.lit 0)),(eD 71 4,i8 (.lit 2)),(eD 71 5,i64 (.lit 0)),(eD 71 6,i64 (.lit 0)),(eD 71 7,i64 (.lit 0)),(eD 71 8,i8 (.lit 1)),(eD 71 9,i64 (.lit 2)),(eD 71 10,i64 (.lit 0)),(eD 71 11,i64 (.lit 0)),(eD 64 0,.slice (some (eD 50 0)) (.lit 2) (.lit 2))]
theorem nn3:Pc 21 31 [.inRegion (opsOf (yG 12)) [2,3,4,5,6],.code (yG 13),.code (yG 7)] ([(1,i64 (.lit 1)),(2,bz 64),(9,.tuple [i64 (.lit 0),i64 (.lit 0)])]) [] kz1 [] 31 [] [29] [.inRegion (opsOf (yG 14)) [5,6],.code .ret] [.agg [.str ⟨#[98]⟩,.slice (some (eD 71 0)) (.lit 3) (.lit 3),i64 (.lit 0)]] []:={}
theorem nn4:di 31 (opsOf (yG 14)) 5 [(29,.bC 29)] 41 [.bC 29] 30:={}
theorem nn5:Pc 21 31 [.inRegion (opsOf (yG 14)) [6],.code .ret] ([(30,.bC 30)]) [] [] [] 2 [] [4] [.code .ret] [.bC 30] []:={}
noncomputable def IG:List (AA×AV):=[(eD 50 0,.str ⟨#[97]⟩),(eD 50 1,.slice (some (eD 70 0)) (.lit 1) (.lit 1)),(eD 50 2,i64 (.lit 0)),(eD 50 3,.str ⟨#[98]⟩),(eD 50 4,.slice (some (eD 71 0)) (.lit 3) (.lit 3)),(eD 50 5,i64 (.lit 0)),(eD 70 0,i8 (.lit 1)),(eD 70 1,i64 (.lit 1)),(eD 70 2,i64 (.lit 0)),(eD 70 3,i64 (.lit 0)),(eD 71 0,i8 (.lit 4)),(eD 71 1,i64 (.lit 0)),(eD 71 2,i64 (.lit 2)),(eD 71 3,i64 (.lit 0)),(eD 71 4,i8 (.lit 2)),(eD 71 5,i64 (.lit 0)),(eD 71 6,i64 (.lit 0)),(eD 71 7,i64 (.lit 0)),(eD 71 8,i8 (.lit 1)),(eD 71 9,i64 (.lit 2)),(eD 71 10,i64 (.lit 0)),(eD 71 11,i64 (.lit 0))]
noncomputable def R5(P A C:Nat):Env:=bL [] [(50,P),(70,A),(71,C)] []
def j7(P:Nat):Value:=.agg #[bU P 0 2 2,eS]
def R6:cH:=⟨⟨#[97]⟩,[⟨1,1,0,0⟩],0⟩
def EA:cH:=⟨⟨#[98]⟩,[⟨4,0,2,0⟩,⟨2,0,0,0⟩,⟨1,2,0,0⟩],0⟩
def GF:gU:=⟨[R6,EA],[]⟩
theorem xy:ef GF=(0,0):=by kernel_rfl
theorem EB:oz GF ⟨0,0,0,0⟩=(0,[(1,1),(1,3)]):=by kernel_rfl
theorem II:xx ⟨0,0,0,0⟩ [(1,1),(1,4)] GF.lets 0=(30,1):=by kernel_rfl
theorem cw.keep{ρ:Env}{w w':World}(f:bA w w'):∀{l:List (AA×AV)},cw ρ w l->cw ρ w' l
 |[],_=>trivial
 |p::r,h=>⟨f.cell h.1,cw.keep f h.2⟩
section
variable {w w0:World}{cs:List Frame}{fr:Frame}
theorem qm{P A C:Nat}(h:cw (R5 P A C) w IG):oy w (j7 P) GF:=by
 obtain⟨p0,p1,p2,p3,p4,p5,a0,a1,a2,a3,b0,b1,b2,b3,b4,b5,b6,b7,b8,b9,Yo,b11,_⟩:=h;refine⟨bU P 0 2 2,eS,rfl,⟨false,P,0,2,rfl,(fun h=>by cases h),fun _=>ax _,fun i x hi=>?_⟩,⟨true,0,0,0,rfl,fun _=>rfl,(fun h=>by cases h),fun i n hi=>by cases hi⟩⟩
 match i,hi with
 |0,hi=>
  obtain rfl:R6=x:=au hi;refine⟨bU A 0 1 1,p0,p1,p2,⟨.inr ⟨A,0,1,rfl,ax _,fun i n hi=>?_⟩⟩⟩
  match i,hi with
  |0,hi=>obtain rfl:(⟨1,1,0,0⟩:Nd)=n:=au hi;exact⟨a0,a1,a2,a3⟩
  |i+1,hi=>cases hi
 |1,hi=>
  obtain rfl:EA=x:=au hi;refine⟨bU C 0 3 3,p3,p4,p5,⟨.inr ⟨C,0,3,rfl,ax _,fun i n hi=>?_⟩⟩⟩
  match i,hi with
  |0,hi=>obtain rfl:(⟨4,0,2,0⟩:Nd)=n:=au hi;exact⟨b0,b1,b2,b3⟩
  |1,hi=>obtain rfl:(⟨2,0,0,0⟩:Nd)=n:=au hi;exact⟨b4,b5,b6,b7⟩
  |2,hi=>obtain rfl:(⟨1,2,0,0⟩:Nd)=n:=au hi;exact⟨b8,b9,Yo,b11⟩
  |i+3,hi=>cases hi
 |i+2,hi=>cases hi
theorem s_:dS 20 #[] w fun v w'=>bA w w'∧∃P A C,v=j7 P∧cw (R5 P A C) w' IG:=by
 refine cF fun cs=>?_;refine(pr1.go (bL [] [] []) (Ao YL) rfl trivial trivial).trans fun g1 w1 hd=>?_;obtain⟨I,B,bT,rfl,f1,F1,bl,_⟩:=hd;have hP:(cu.obj 50 [.string ⟨#[97]⟩,bU (B 101) 0 1 1,iV 0,.string ⟨#[98]⟩,bU (B 103) 0 3 3,iV 0]).at Tryz.prog w1 (B 105):=bl.1.2;have hC:(cu.obj 77 [cY 4,iV 0,iV 2,iV 0,cY 2,iV 0,iV 0,iV 0,cY 1,iV 2,iV 0,iV 0]).at Tryz.prog w1 (B 103):=bl.2.1.2;have hA:(cu.obj 77 [cY 1,iV 1,iV 0,iV 0]).at Tryz.prog w1 (B 101):=bl.2.2.1.2;have hR:(cu.obj 25 [bU (B 105) 0 2 2,eS]).at Tryz.prog w1 (B 100):=bl.2.2.2.1.2;have fI:FA 20 15 (.code .ret::[]) [] .normal [(0,bI (B 100))] bT:=F1;refine(kV (ρ:=bL [] [(62,B 100)] [(40,bU (B 105) 0 2 2),(41,eS)]) (lA:=[(0,bz 62)]) (bs:=[]) (mem:=[(⟨.dyn 62,.lit 0⟩,.bC 40),(⟨.dyn 62,.lit 1⟩,.bC 41)]) fI (a:=.agg [.bC 40,.bC 41]) (fun p hp=>by
  obtain rfl:=ah.1 hp;exact cD rfl) (fun st=>by kernel_rfl) (nofun) (fun q hq=>by
  simp only[aj,az,or_false]at hq;rcases hq with rfl|rfl
  ·exact bE hR (i:=0) rfl
  ·exact bE hR (i:=1) rfl)).mono fun g6 w6 dj=>?_
 obtain⟨dJ,rfl,rfl,hL⟩:=dj;exact⟨dJ,_,rfl,hL,f1,B 105,B 101,B 103,rfl,bE hP (i:=0) rfl,bE hP (i:=1) rfl,bE hP (i:=2) rfl,bE hP (i:=3) rfl,bE hP (i:=4) rfl,bE hP (i:=5) rfl,bE hA (i:=0) rfl,bE hA (i:=1) rfl,bE hA (i:=2) rfl,bE hA (i:=3) rfl,bE hC (i:=0) rfl,bE hC (i:=1) rfl,bE hC (i:=2) rfl,bE hC (i:=3) rfl,bE hC (i:=4) rfl,bE hC (i:=5) rfl,bE hC (i:=6) rfl,bE hC (i:=7) rfl,bE hC (i:=8) rfl,bE hC (i:=9) rfl,bE hC (i:=10) rfl,bE hC (i:=11) rfl,trivial⟩
theorem OI{t elem size:Nat}(hU:under? Tryz.prog t=.ok (.slice elem))(hS:sizeOf? Tryz.prog elem=.ok size){off n c:Nat}(hn:n≤c):sliceOp? Tryz.prog t (.slice (some ⟨.dyn 50,.lit (Int.ofNat off)⟩) (.lit (Int.ofNat n)) (.lit (Int.ofNat c))) none (some (.int .i64 (.lit (Int.ofNat n)))) (some (.int .i64 (.lit (Int.ofNat n))))=.ok (.slice (some ⟨.dyn 50,.lit (Int.ofNat off)⟩) (.lit (Int.ofNat n)) (.lit (Int.ofNat n))):=by unfold sliceOp?;rw[hU];simp only[bind,Except.bind,litNat?,bounds?,bound?,high?,hS,pure,Except.pure];simp[hn,AA.add,yd]
theorem OJ{E:Value->World->Prop}{t elem size:Nat}(hU:under? Tryz.prog t=.ok (.slice elem))(hS:sizeOf? Tryz.prog elem=.ok size){A off n c:Nat}(hn:n≤c){Q:Value->World->Prop}(hq:Q (bU A off n n) w):
  wq Tryz.prog (fun _=>True) E (Instr.sliceAt t (bU A off n c) none (some (iV n)) (some (iV n))) Q w:=by
 let K:Ctx:=⟨Tryz.prog,{},fun _=>True,fun _=>True,True,fun _ _=>False⟩;let ρ:Env:=bL [] [(50,A)] [];exact kr (K:=K) (ρ:=ρ) (w:=w) (OI (off:=off) hU hS hn) (Q:=Q) hq
theorem LY{B o n c:Nat}(h:n≤c):dS 63 #[bU B o n c] w fun v w'=>bA w w'∧v=bU B o n n:=by
 refine cF fun cs=>?_;refine(cc1.go (bL [(51,n),(52,c),(53,o)] [(50,B)] []) (cz YM rfl (bU B o n c)) rfl trivial trivial).trans fun g1 w1 hd=>?_;obtain⟨I,B',bT,rfl,f1,F1,_⟩:=hd;refine(cc2.go (R:=fun y w'=>y=bU B o n n∧w'=w1) (bL [] [] []) F1 (by decide) rfl fun tm ie x' e1 e2=>?_).trans fun g2 w2 bX=>?_
 ·unfold execOp;simp only[e1,bF,av,aI];rw[ie 3 (bU B o n c) rfl,ie 5 (iV n) rfl,ie 7 (iV n) rfl];exact OJ XU XV h ⟨_,rfl,rfl,rfl⟩
 obtain⟨cB,y,rfl,⟨rfl,rfl⟩,F2⟩:=bX;refine(cc3.go (bL [] [] [(8,bU B o n n)]) F2 rfl trivial trivial).trans fun g3 w3 cn=>?_;obtain⟨I,B',cC,rfl,f3,F3,_⟩:=cn;refine(leave1 YN F3 rfl).mono fun g6 w6 dj=>?_;obtain⟨dJ,rfl,rfl,hL⟩:=dj;exact⟨dJ,_,rfl,hL,f1.trans f3,rfl⟩
theorem xz{P A C:Nat}(h:cw (R5 P A C) w IG):dS 41 #[fy EA (bU C 0 3 3)] w fun v w'=>bA w w'∧∃B,w.heap.size≤B∧v=bU B 0 1 1∧w'.cell? ⟨B,0,none⟩=some (iV 0):=by obtain⟨p0,p1,p2,p3,p4,p5,a0,a1,a2,a3,b0,b1,b2,b3,b4,b5,b6,b7,b8,b9,Yo,b11,_⟩:=h;refine cF fun cs=>?_;refine(ne1.go (Go.Proofs.YtmobbajggkjpgaaGreat.SX.jn [(4,0)] [(70,C)] [] [(1,⟨#[98]⟩)]) (cz YO rfl (fy EA (bU C 0 3 3))) rfl trivial ⟨b0,b1,b2,b3,b4,b5,b6,b7,b8,b9,Yo,b11,trivial⟩).trans fun g1 w1 hd=>?_;obtain⟨I,B,bT,rfl,f1,F1,bl,_⟩:=hd;have hv:(cu.vec 3 (I 105).toNat [iV 0]).at Tryz.prog w1 (B 105):=bl.1.2;have gB:w.heap.size≤B 105:=bl.1.1;have hc:1≤(I 105).toNat:=Gt hv;refine(ne2.go (bL [] [] [(28,bU (B 105) 0 1 (I 105).toNat)]) (Q:=fun v w'=>v=bU (B 105) 0 1 1) F1 rfl fun w' f2=>LY hc).trans fun g2 w2 bX=>?_;obtain⟨cB,vv,rfl,f2,rfl,F2⟩:=bX;refine(ne3.go (bL [] [] [(29,bU (B 105) 0 1 1)]) F2 rfl trivial trivial).trans fun g3 w3 cn=>?_;obtain⟨I',B',cC,rfl,f3,F3,_⟩:=cn;refine(leave1 YP F3 rfl).mono fun g6 w6 dj=>?_;obtain⟨dJ,rfl,rfl,hL⟩:=dj;exact⟨dJ,_,rfl,hL,f1.trans (f2.trans f3),B 105,gB,rfl,(f2.trans f3).cell (cu.cR hv rfl)⟩
theorem IJ{P A C:Nat}(h:cw (R5 P A C) w IG):dS 21 #[j7 P,iV 1] w fun v w'=>bA w w'∧∃B,w.heap.size≤B∧v=bU B 0 1 1∧w'.cell? ⟨B,0,none⟩=some (iV 0):=by
 refine cF fun cs=>?_;refine(nn1.go (bL [] [(50,P)] []) (dV YQ rfl (j7 P) (iV 1)) rfl trivial trivial).trans fun g1 w1 hd=>?_;obtain⟨I,B,bT,rfl,f1,F1,bl,_⟩:=hd;obtain⟨X,eX⟩:∃X,B 100=X:=⟨_,rfl⟩;have hX:(cu.obj 25 [bU P 0 2 2,eS]).at Tryz.prog w1 X:=by rw[<-eX];exact bl.1.2
 have fI:FA 21 31 (.inRegion (opsOf (yG 12)) [1,2,3,4,5,6]::[.code (yG 13),.code (yG 7)]) [] .normal [(1,iV 1),(2,bI X),(8,j7 P)] bT:=by rw[<-eX];exact F1
 refine(nn2.go (bL [] [] [(8,j7 P)]) (Q:=fun v w'=>v=.tuple #[iV 0,iV 0]) fI rfl fun w' f2=>(lP (qm (h.keep (f1.trans f2))) (by decide) (by decide)).mono fun v w2 hd=>⟨hd.1,by have:=hd.2;rw[xy]at this;exact this⟩).trans fun g2 w2 bX=>?_
 obtain⟨cB,vv,rfl,f2,rfl,F2⟩:=bX;have f12:=f1.trans f2;have h2:=h.keep f12;refine(nn3.go (bL [] [(50,P),(64,X),(70,A),(71,C)] []) F2 rfl trivial (cw.app (l:=IG) (l':=[(⟨.dyn 64,.lit 0⟩,.slice (some ⟨.dyn 50,.lit 0⟩) (.lit 2) (.lit 2))]) h2 ⟨f2.cell (bE hX (i:=0) rfl),trivial⟩)).trans fun g3 w3 cn=>?_;obtain⟨I,B,cC,rfl,f3,F3,_⟩:=cn;have f13:=f12.trans f3;refine(nn4.go (bL [] [] [(29,fy EA (bU C 0 3 3))]) (Q:=fun v w'=>∃wk B,bA w wk∧wk.heap.size≤B∧v=bU B 0 1 1∧w'.cell? ⟨B,0,none⟩=some (iV 0)) F3 rfl fun w' f4=>(xz (h.keep (f13.trans f4))).mono fun v w2 hd=>⟨hd.1,by obtain⟨B,h1,h2,h3⟩:=hd.2;exact⟨w',B,f13.trans f4,h1,h2,h3⟩⟩).trans fun g4 w4 c9=>?_
 obtain⟨eg,vv,rfl,f4,⟨wk,B4,fk,hB,rfl,hc⟩,F4⟩:=c9;refine(nn5.go (bL [] [] [(30,bU B4 0 1 1)]) F4 rfl trivial trivial).trans fun g5 w5 d_=>?_;obtain⟨I',B',gh,rfl,f5,F5,_⟩:=d_;refine(leave1 YR F5 rfl).mono fun g6 w6 dj=>?_;obtain⟨dJ,rfl,rfl,hL⟩:=dj;exact⟨dJ,_,rfl,hL,f13.trans (f4.trans f5),B4,aA fk.size hB,rfl,f5.cell hc⟩
end
theorem ll1:Pc 22 34 [.code (bD Tryz.f22)] ([(0,.agg [.slice (some (eD 50 0)) (.lit 2) (.lit 2),cj])]) [] [] [] 10 [100] [1,11] [.inRegion (opsOf (rI 12)) [1,2,3,4,5,6],.code (rI 13),.code (rI 7)] [bz 100,.agg [.slice (some (eD 50 0)) (.lit 2) (.lit 2),cj]] [(100,.cells [.slice (some (eD 50 0)) (.lit 2) (.lit 2),cj] 25)]:={}
theorem ll2:di 34 (opsOf (rI 12)) 1 [(11,.bC 11)] 26 [.bC 11] 12:={}
theorem ll3:Pc 22 34 [.inRegion (opsOf (rI 12)) [2,3,4,5,6],.code (rI 13),.code (rI 7)] ([(1,bz 64),(12,.tuple [i64 (.lit 0),i64 (.lit 0)])]) [] kz1 [] 404 [107,102,101,100] [1,7,8,22,23,24,25,26,27,28] [.inRegion (opsOf (rI 65177)) [3,4,5,6],.inBlock 1,.code (rI 16295),.inLoop (rI 2036),.inBlock 0,.code (rI 255)] [bz 64,bz 102,.slice (some (eD 107 0)) (.lit 1) (v 107),i64 (.lit 2),i64 (.lit 1),TB,i64 (.lit 1),.slice (some (eD 107 0)) (.lit 1) (v 107),.func (.func 42) [] [bz 101,bz 64,bz 102],i64 (.lit 1)] [(107,.row [i64 (.lit 0)] 3 (v 107)),(102,.cells [.func (.func 42) [] [bz 101,bz 64,bz 102]] 80),(101,.cells [.map (some (.dyn 100))] 79),(100,.map [(i64 (.lit 0),i64 (.lit 0))])]:={}
theorem lf1:Pc 42 41 [.code (bD Tryz.f42)] ([(0,i64 (.lit 1)),(1,bz 61),(2,bz 64),(3,bz 62)]) [] [(eD 50 0,.str ⟨#[97]⟩),(eD 50 1,.slice (some (eD 70 0)) (.lit 1) (.lit 1)),(eD 50 2,i64 (.lit 0)),(eD 50 3,.str ⟨#[98]⟩),(eD 50 4,.slice (some (eD 71 0)) (.lit 3) (.lit 3)),(eD 50 5,i64 (.lit 0)),(eD 70 0,i8 (.lit 1)),(eD 70 1,i64 (.lit 1)),(eD 70 2,i64 (.lit 0)),(eD 70 3,i64 (.lit 0)),(eD 71 0,i8 (.lit 4)),(eD 71 1,i64 (.lit 0)),(eD 71 2,i64 (.lit 2)),(eD 71 3,i64 (.lit 0)),(eD 71 4,i8 (.lit 2)),(eD 71 5,i64 (.lit 0)),(eD 71 6,i64 (.lit 0)),(eD 71 7,i64 (.lit 0)),(eD 71 8,i8 (.lit 1)),(eD 71 9,i64 (.lit 2)),(eD 71 10,i64 (.lit 0)),(eD 71 11,i64 (.lit 0)),(eD 64 0,.slice (some (eD 50 0)) (.lit 2) (.lit 2)),(eD 61 0,.map (some (.dyn 60))),(eD 62 0,.func (.func 42) [] [bz 61,bz 64,bz 62])] [(60,.map [(i64 (.lit 0),i64 (.lit 0))])] 34 [60] [0,1,2,3,8,23] [.inRegion (opsOf (Dp 60)) [5,6,7],.code (Dp 61),.code (Dp 31)] [i64 (.lit 1),bz 61,bz 64,bz 62,i64 (.lit 0),.agg [.str ⟨#[98]⟩,.slice (some (eD 71 0)) (.lit 3) (.lit 3),i64 (.lit 0)]] [(60,.map [(i64 (.lit 0),i64 (.lit 0))])]:={}
theorem lf2:di 41 (opsOf (Dp 60)) 5 [(23,.bC 23)] 41 [.bC 23] 24:={}
noncomputable abbrev kz0:List (AA×AV):=[(eD 50 0,.str ⟨#[97]⟩),(eD 50 1,.slice (some (eD 70 0)) (.lit 1) (.lit 1)),(eD 50 2,i64 (.lit 0)),(eD 50 3,.str ⟨#[98]⟩),(eD 50 4,.slice (some (eD 71 0)) (.lit 3) (.lit 3)),(eD 50 5,i64 (.lit 0)),(eD 70 0,i8 (.lit 1)),(eD 70 1,i64 (.lit 1)),(eD 70 2,i64 (.lit 0)),(eD 70 3,i64 (.lit 0)),(eD 71 0,i8 (.lit 4)),(eD 71 1,i64 (.lit 0)),(eD 71 2,i64 (.lit 2)),(eD 71 3,i64 (.lit 0)),(eD 71 4,i8 (.lit 2)),(eD 71 5,i64 (.lit 0)),(eD 71 6,i64 (.lit 0)),(eD 71 7,i64 (.lit 0)),(eD 71 8,i8 (.lit 1)),(eD 71 9,i64 (.lit 2)),(eD 71 10,i64 (.lit 0)),(eD 71 11,i64 (.lit 0)),(eD 64 0,.slice (some (eD 50 0)) (.lit 2) (.lit 2)),(eD 61 0,.map (some (.dyn 60))),(eD 62 0,.func (.func 42) [] [bz 61,bz 64,bz 62]),(eD 72 0,i64 (.lit 0))]
theorem lf3:Pc 42 41 [.inRegion (opsOf (Dp 60)) [6,7],.code (Dp 61),.code (Dp 31)] ([(8,i64 (.lit 0)),(24,.slice (some (eD 72 0)) (.lit 1) (.lit 1)),(0,i64 (.lit 1)),(1,bz 61),(2,bz 64),(3,bz 62)]) [] kz0 [(60,.map [(i64 (.lit 0),i64 (.lit 0))])] 54 [60] [0,1,2,3,24,25,26,30,34] [.inRegion (opsOf (Dp 7833)) [5,6],.inBlock 1,.code (Dp 1959),.inLoop (Dp 244),.inBlock 0,.code (Dp 31)] [i64 (.lit 1),bz 61,bz 64,bz 62,.slice (some (eD 72 0)) (.lit 1) (.lit 1),i64 (.lit 1),i64 (.lit 0),i64 (.lit 0),i64 (.lit 1)] [(60,.map [(i64 (.lit 0),i64 (.lit 0))])]:={}
theorem lf4:jO 41 (opsOf (Dp 7833)) 5 [] (.call {callee:=.builtin .max,args:=#[.tmp 30,.tmp 34],argTypes:=#[3,3]}) 3 (some 35):={}
theorem lf5:Pc 42 41 [.inRegion (opsOf (Dp 7833)) [6],.inBlock 1,.code (Dp 1959),.inLoop (Dp 244),.inBlock 0,.code (Dp 31)] ([(0,i64 (.lit 1)),(1,bz 61),(2,bz 64),(3,bz 62),(24,.slice (some (eD 72 0)) (.lit 1) (.lit 1)),(25,i64 (.lit 1)),(26,i64 (.lit 0)),(35,i64 (.lit 1))]) [] kz0 [(60,.map [(i64 (.lit 0),i64 (.lit 0))])] 27 [60] [5] [.code .ret] [i64 (.lit 1)] [(60,.map [(i64 (.lit 0),i64 (.lit 0)),(i64 (.lit 1),i64 (.lit 1))])]:={}
theorem VO:di 34 (opsOf (rI 65177)) 3 [(27,.func (.func 42) [] [bz 61,bz 64,bz 62]),(28,i64 (.lit 1))] 42 [i64 (.lit 1),bz 61,bz 64,bz 62] 29:={}
theorem ll5:Pc 22 34 [.inRegion (opsOf (rI 65177)) [4,5,6],.inBlock 1,.code (rI 16295),.inLoop (rI 2036),.inBlock 0,.code (rI 255)] ([(1,bz 64),(7,bz 62),(8,.slice (some (eD 52 0)) (v 8) (v 57)),(22,i64 (.lit 2)),(23,i64 (.lit 1)),(24,TB),(25,i64 (.lit 1)),(26,.slice (some (eD 52 0)) (v 8) (v 57)),(29,i64 (.lit 1))]) Lb [(eD 64 0,.slice (some (eD 50 0)) (.lit 2) (.lit 2))] [(52,.pre false 65 (v 8) [] [] [] 3 (v 57))] 23 [101] [2,3] [.code .ret] [.slice (some (eD 101 0)) (.plus (.tn (v 8)) (.lit 1)) (v 101),i64 (.lit 0)] [(101,.pre false 65 (v 8) [] [] [i64 (.lit 1)] 3 (v 101))]:={}
noncomputable def q6(l:Nat):Code:=pc (bD Tryz.f7) (pd l)
theorem adP:bP Tryz.prog 7 [] .normal=.ok ⟨7,72,c8 7 [],[.code (bD Tryz.f7)],[],.run,.normal⟩:=by kernel_rfl
theorem adQ:dP 7 72 0:=fun st=>by kernel_rfl
theorem lv1:Pc 7 72 [.code (bD Tryz.f7)] ([]) [] [] [] 6 [] [] [.inRegion (opsOf (q6 6)) [0,1,2,3,4,5,6,7],.code (q6 7)] [] []:={}
theorem zD:di 72 (opsOf (q6 6)) 0 [] 20 [] 9:={}
theorem lv3:Pc 7 72 [.inRegion (opsOf (q6 6)) [1,2,3,4,5,6,7],.code (q6 7)] ([(9,.bC 9)]) [] [] [] 1 [] [9,10] [.inRegion (opsOf (q6 6)) [2,3,4,5,6,7],.code (q6 7)] [.bC 9,.agg [i64 (.lit 0),i64 (.lit 0),i64 (.lit 0),i64 (.lit 0)]] []:={}
theorem lv4:di 72 (opsOf (q6 6)) 2 [(9,.bC 9),(10,.bC 10)] 19 [.bC 9,.bC 10] 11:={}
theorem lv5:Pc 7 72 [.inRegion (opsOf (q6 6)) [3,4,5,6,7],.code (q6 7)] ([(11,.tuple [.bC 11,i64 (.lit 0)])]) [] [] [] 8 [] [1,2] [.inRegion (opsOf (q6 14)) [0,1,2],.code (q6 15)] [.bC 11,i64 (.lit 0)] []:={}
theorem lv6:di 72 (opsOf (q6 14)) 0 [] 20 [] 14:={}
theorem lv7:di 72 (opsOf (q6 14)) 1 [(14,.bC 14)] 21 [.bC 14,i64 (.lit 1)] 15:={}
theorem lv8:Pc 7 72 [.inRegion (opsOf (q6 14)) [2],.code (q6 15)] ([(1,.bC 1),(2,i64 (.lit 0)),(15,.bC 15)]) [] [] [] 4 [] [1,2,3] [.inRegion (opsOf (q6 30)) [0,1,2,3,4,5,6],.code (q6 31)] [.bC 1,i64 (.lit 0),.bC 15] []:={}
theorem lv9:di 72 (opsOf (q6 30)) 0 [] 20 [] 17:={}
theorem lvA:di 72 (opsOf (q6 30)) 1 [(17,.bC 17)] 22 [.bC 17] 18:={}
theorem lvB:Pc 7 72 [.inRegion (opsOf (q6 30)) [2,3,4,5,6],.code (q6 31)] ([(1,.bC 1),(2,i64 (.lit 0)),(3,.bC 3),(18,.tuple [.bC 18,i64 (.lit 0)])]) [] [] [] 8 [] [1,2,3,4,5] [.inRegion (opsOf (q6 62)) [0,1,2,3,4,5,6,7,8,9,10],.code (q6 63)] [.bC 1,i64 (.lit 0),.bC 3,.bC 18,i64 (.lit 0)] []:={}
theorem lvC:di 72 (opsOf (q6 62)) 0 [] 20 [] 22:={}
theorem lvD:Pc 7 72 [.inRegion (opsOf (q6 62)) [1,2,3,4,5,6,7,8,9,10],.code (q6 63)] ([(1,.bC 1),(2,i64 (.lit 0)),(3,.bC 3),(4,.bC 4),(5,i64 (.lit 0)),(22,.bC 22)]) [] [] [] 4 [100] [1,2,3,4,5,22,23,26] [.inRegion (opsOf (q6 62)) [5,6,7,8,9,10],.code (q6 63)] [.bC 1,i64 (.lit 0),.bC 3,.bC 4,i64 (.lit 0),.bC 22,.agg [i64 (.lit 0),i64 (.lit 0),i64 (.lit 0),i64 (.lit 0)],.slice (some (eD 100 0)) (.lit 2) (.lit 2)] [(100,.cells [i8 (.lit 1),i64 (.lit 1),i8 (.lit 1),i64 (.lit 4)] 43)]:={}
theorem lvE:di 72 (opsOf (q6 62)) 5 [(22,.bC 22),(23,.bC 23),(26,.bC 26)] 10 [.bC 22,.bC 23,.bC 26] 27:={}
theorem lvF:Pc 7 72 [.inRegion (opsOf (q6 62)) [6,7,8,9,10],.code (q6 63)] ([(1,.slice (some (eD 73 0)) (.lit 2) (v 81)),(2,i64 (.lit 0)),(3,.slice (some (eD 72 0)) (.lit 1) (.lit 1)),(4,.slice (some (eD 74 0)) (.lit 2) (v 82)),(5,i64 (.lit 0)),(27,.tuple [i64 (.lit 30),i64 (.lit 1)])]) [] [(eD 73 2,i8 (.lit 1)),(eD 73 3,i64 (.lit 3)),(eD 74 1,i64 (.lit 1))] [] 52 [] [0] [.code .ret] [TB] []:={}
noncomputable def R7(K X G:Nat):Value:=(AV.func (.func 42) [] [bz 61,bz 64,bz 62]).ev (bL [] [(61,K),(64,X),(62,G)] [])
section
variable {w w0:World}{cs:List Frame}{fr:Frame}
theorem ta{M:Nat}{es:List (Value×Value)}{a:Addr}{v:Value}(h:(cu.map es).at Tryz.prog w M)(hc:w.cell? a=some v):M≠a.block:=fun e=>by obtain⟨arr,nu,h1,h2⟩:=h;unfold World.cell? at hc;rw[<-e,h1]at hc;cases hc
theorem R8:bP Tryz.prog 42 [.bC 0,.bC 1,.bC 2,.bC 3] .normal=.ok ⟨42,41,c8 42 [.bC 0,.bC 1,.bC 2,.bC 3],[.code (bD Tryz.f42)],[],.run,.normal⟩:=by kernel_rfl
theorem cw.LZ{ρ:Env}{w w':World}(f:∀a v,w.cell? a=some v->w'.cell? a=some v):∀{l:List (AA×AV)},cw ρ w l->cw ρ w' l
 |[],_=>trivial
 |p::r,h=>⟨f _ _ h.1,cw.LZ f h.2⟩
theorem L3{P A C X M K G:Nat}(h:cw (R5 P A C) w IG)(hX:w.cell? ⟨X,0,none⟩=some (bU P 0 2 2))(hM:(cu.map [(iV 0,iV 0)]).at Tryz.prog w M)(hK:w.cell? ⟨K,0,none⟩=some (.map (some M)))(hG:w.cell? ⟨G,0,none⟩=some (R7 K X G)):
  dS 42 #[iV 1,bI K,bI X,bI G] w fun v w'=>v=iV 1∧bS (fun x=>w.heap.size≤x∨x=M) w w':=by
 refine cF fun cs=>?_;obtain⟨O,hO⟩:∃O:Nat->Prop,O=fun x=>w.heap.size≤x∨x=M:=⟨_,rfl⟩;rw[<-hO];have kc:∀{w':World},bS O w w'->∀a v,w.cell? a=some v->w'.cell? a=some v:=fun{w'} kp a v hc=>iz kp hc (by
  rw[hO];intro hh;rcases hh with hh|hh
  ·have:=k6 hc;omega
  ·exact ta hM hc hh.symm)
 obtain⟨ρ,hρ⟩:∃ρ:Nat->Env,ρ=fun B=>bL [] [(50,P),(70,A),(71,C),(64,X),(61,K),(62,G),(60,M),(72,B)] []:=⟨_,rfl⟩;have mm:∀{w':World} (B:Nat),bS O w w'->cw (ρ B) w' (IG++[(⟨.dyn 64,.lit 0⟩,.slice (some ⟨.dyn 50,.lit 0⟩) (.lit 2) (.lit 2)),(⟨.dyn 61,.lit 0⟩,.map (some (.dyn 60))),(⟨.dyn 62,.lit 0⟩,.func (.func 42) [] [bz 61,bz 64,bz 62])]):=fun{w'} B kp=>by rw[hρ];exact cw.app (l:=IG) (cw.LZ (kc kp) h) ⟨kc kp _ _ hX,kc kp _ _ hK,kc kp _ _ hG,trivial⟩
 have pre:∀{w':World} (B:Nat),(cu.map [(iV 0,iV 0)]).at Tryz.prog w' M->El (ρ B) w' [(60,.map [(i64 (.lit 0),i64 (.lit 0))])]:=fun{w'} B hm=>⟨⟨.map [(iV 0,iV 0)],by rw[hρ];exact hm,rfl⟩,trivial⟩;have e60:∀B,(ρ B).b 60=M:=fun B=>by rw[hρ];rfl
 have off:∀{w':World} {l:List (AA×AV)} (B:Nat),(cu.map [(iV 0,iV 0)]).at Tryz.prog w' M->cw (ρ B) w' l->∀p∈l,∀x∈[((60,.map [(i64 (.lit 0),i64 (.lit 0))]):Nat×bO)],(ρ B).b x.1≠(p.1.ev (ρ B)).block:=fun{w' l} B hm IK p hp x hx=>by obtain rfl:=ah.1 hx;rw[e60];exact ta hm (IK.mem p hp)
 have own:∀{w':World} (B:Nat) {q:Nat},bS O w w'->lF (ρ B) w' [(60,.map [(i64 (.lit 0),i64 (.lit 0))])] q->O q:=fun{w'} B {q} kp hq=>by
  rw[hO];rcases hq with hh|⟨p,hp,e⟩
  ·exact .inl (aA kp.size hh)
  ·obtain rfl:=ah.1 hp;exact .inr (e.symm.trans (e60 B))
 have k0:bS O w w:=bS.refl _ _;refine(lf1.B6 (ρ 0) (pM R8 rfl (iV 1) (bI K) (bI X) (bI G)) (by rw[hρ];rfl) trivial (mm 0 k0) (off 0 hM (mm 0 k0)) (pre 0 hM) ei).trans fun g1 w1 hd=>?_;obtain⟨I,B,bT,rfl,Ri,F1,bl1,_⟩:=hd;have k1:bS O w w1:=Ri.mono fun q hq=>own 0 k0 hq;have hM1:(cu.map [(iV 0,iV 0)]).at Tryz.prog w1 M:=by have:=bl1.1.2;rw[hρ]at this;exact this
 rw[hρ]at F1;refine(lf2.go (bL [] [] [(23,fy EA (bU C 0 3 3))]) (Q:=fun v w'=>∃B,v=bU B 0 1 1∧w'.cell? ⟨B,0,none⟩=some (iV 0)) F1 rfl fun w' f2=>(xz ((cw.LZ (kc k1) h).keep f2)).mono fun v w2 hd=>⟨hd.1,by obtain⟨B,h1,h2,h3⟩:=hd.2;exact⟨B,h2,h3⟩⟩).trans fun g2 w2 bX=>?_
 obtain⟨cB,vv,rfl,f2,⟨B2,rfl,hB2⟩,F2⟩:=bX;have kf:∀{a b:World},bS O w a->bA a b->bS O w b:=fun{a b} k f=>k.trans (f.mono fun q hq=>by rw[hO];exact .inl (aA k.size hq))
 have k2:=kf k1 f2;have WU:=bM (k:=.map _) hM1 f2;have m2:cw (ρ B2) w2 (IG++[(⟨.dyn 64,.lit 0⟩,.slice (some ⟨.dyn 50,.lit 0⟩) (.lit 2) (.lit 2)),(⟨.dyn 61,.lit 0⟩,.map (some (.dyn 60))),(⟨.dyn 62,.lit 0⟩,.func (.func 42) [] [bz 61,bz 64,bz 62])]++[(⟨.dyn 72,.lit 0⟩,i64 (.lit 0))]):=cw.app (mm B2 k2) ⟨by rw[hρ];exact hB2,trivial⟩;refine(lf3.B6 (ρ B2) F2 (by rw[hρ];rfl) trivial m2 (off B2 WU m2) (pre B2 WU) ei).trans fun g3 w3 cn=>?_;obtain⟨I3,B3,cC,rfl,VK,F3,Ny,_⟩:=cn;have k3:bS O w w3:=k2.trans (VK.mono fun q hq=>own B2 k2 hq);have VL:(cu.map [(iV 0,iV 0)]).at Tryz.prog w3 M:=by have:=Ny.1.2;rw[hρ]at this;exact this
 have IL:w3.cell? ⟨B2,0,none⟩=some (iV 0):=iz VK hB2 fun hh=>by
  rcases hh with hh|⟨p,hp,e⟩
  ·have:=k6 hB2;have:B2<w2.heap.size:=this;have hh:w2.heap.size≤B2:=hh;omega
  ·obtain rfl:=ah.1 hp;exact ta WU hB2 ((e60 B2).symm.trans e)
 rw[hρ]at F3;refine(lf4.go (R:=fun y w'=>y=iV 1∧w'=w3) (bL [] [] []) F3 (by decide) rfl fun tm ie x' e1 e2=>?_).trans fun g4 w4 c9=>?_
 ·unfold execOp;simp only[e1,e2,resolve,bF,bG,invoke,builtin];rw[show Array.map (⟨tm,[]⟩:Act).eval #[Operand.tmp 30,Operand.tmp 34]=#[(⟨tm,[]⟩:Act).eval (.tmp 30),(⟨tm,[]⟩:Act).eval (.tmp 34)]from by simp];rw[ie 30 (iV 0) rfl,ie 34 (iV 1) rfl];simp only[Builtin.max_,iV,List.foldlM_cons,List.foldlM_nil,Builtin.max2,bF,bG];exact⟨_,rfl,rfl,trivial⟩
 obtain⟨eg,y,rfl,⟨rfl,rfl⟩,F4⟩:=c9;have m4:cw (ρ B2) w4 (IG++[(⟨.dyn 64,.lit 0⟩,.slice (some ⟨.dyn 50,.lit 0⟩) (.lit 2) (.lit 2)),(⟨.dyn 61,.lit 0⟩,.map (some (.dyn 60))),(⟨.dyn 62,.lit 0⟩,.func (.func 42) [] [bz 61,bz 64,bz 62])]++[(⟨.dyn 72,.lit 0⟩,i64 (.lit 0))]):=cw.app (mm B2 k3) ⟨by rw[hρ];exact IL,trivial⟩;refine(lf5.B6 (ρ B2) F4 (by rw[hρ];rfl) trivial m4 (off B2 VL m4) (pre B2 VL) ei).trans fun g5 w5 d_=>?_;obtain⟨I5,B5,gh,rfl,kp5,F5,AZ,_⟩:=d_;have k5:bS O w w5:=k3.trans (kp5.mono fun q hq=>own B2 k3 hq);refine(leave1 YU F5 rfl).mono fun g6 w6 dj=>?_;obtain⟨dJ,rfl,rfl,hL⟩:=dj;exact⟨dJ,_,rfl,hL,rfl,k5⟩
end
section
variable {w w0:World}{cs:List Frame}{fr:Frame}
theorem EC{P A C:Nat}(h:cw (R5 P A C) w IG):dS 22 #[j7 P] w fun v w'=>bA w w'∧∃B c,v=.tuple #[bU B 0 2 c,iV 0]∧w'.cell? ⟨B,1,none⟩=some (iV 1)∧w.heap.size≤B:=by
 refine cF fun cs=>?_;refine(ll1.go (bL [] [(50,P)] []) (cz YS rfl (j7 P)) rfl trivial trivial).trans fun g1 w1 hd=>?_;obtain⟨I,B,bT,rfl,f1,F1,bl,_⟩:=hd;obtain⟨X,eX⟩:∃X,B 100=X:=⟨_,rfl⟩;have hX:(cu.obj 25 [bU P 0 2 2,eS]).at Tryz.prog w1 X:=by rw[<-eX];exact bl.1.2
 have fI:FA 22 34 (.inRegion (opsOf (rI 12)) [1,2,3,4,5,6]::[.code (rI 13),.code (rI 7)]) [] .normal [(1,bI X),(11,j7 P)] bT:=by rw[<-eX];exact F1
 refine(ll2.go (bL [] [] [(11,j7 P)]) (Q:=fun v w'=>v=.tuple #[iV 0,iV 0]) fI rfl fun w' f2=>(lP (qm (h.keep (f1.trans f2))) (by decide) (by decide)).mono fun v w2 hd=>⟨hd.1,by have:=hd.2;rw[xy]at this;exact this⟩).trans fun g2 w2 bX=>?_
 obtain⟨cB,vv,rfl,f2,rfl,F2⟩:=bX;have f12:=f1.trans f2;have Dn:=f2.cell (bE hX (i:=0) rfl);refine(ll3.go (bL [] [(50,P),(64,X),(70,A),(71,C)] []) F2 rfl trivial (cw.app (l:=IG) (l':=[(⟨.dyn 64,.lit 0⟩,.slice (some ⟨.dyn 50,.lit 0⟩) (.lit 2) (.lit 2))]) (h.keep f12) ⟨Dn,trivial⟩)).trans fun g3 w3 cn=>?_;obtain⟨I,B,cC,rfl,f3,F3,Ny,inj⟩:=cn;obtain⟨M,eM⟩:∃M,B 100=M:=⟨_,rfl⟩;obtain⟨K,eK⟩:∃K,B 101=K:=⟨_,rfl⟩;obtain⟨Gb,eG⟩:∃Gb,B 102=Gb:=⟨_,rfl⟩;obtain⟨D,eD⟩:∃D,B 107=D:=⟨_,rfl⟩;have hD:(cu.vec 3 (I 107).toNat [iV 0]).at Tryz.prog w3 D:=by rw[<-eD];exact Ny.1.2
 have hG:(cu.obj 80 [R7 K X Gb]).at Tryz.prog w3 Gb:=by rw[<-eG,<-eK];exact Ny.2.1.2
 have hK:(cu.obj 79 [.map (some M)]).at Tryz.prog w3 K:=by rw[<-eK,<-eM];exact Ny.2.2.1.2
 have hM:(cu.map [(iV 0,iV 0)]).at Tryz.prog w3 M:=by rw[<-eM];exact Ny.2.2.2.1.2
 have gD:w2.heap.size≤D:=by rw[<-eD];exact Ny.1.1
 have gM:w2.heap.size≤M:=by rw[<-eM];exact Ny.2.2.2.1.1
 have f13:=f12.trans f3;obtain⟨c,ec⟩:∃c,(I 107).toNat=c:=⟨_,rfl⟩;rw[ec]at hD;have oT:FA 22 34 (.inRegion (opsOf (rI 65177)) [3,4,5,6]::[.inBlock 1,.code (rI 16295),.inLoop (rI 2036),.inBlock 0,.code (rI 255)]) [] .normal [(1,bI X),(7,bI Gb),(8,bU D 0 1 c),(22,iV 2),(23,iV 1),(24,.bool true),(25,iV 1),(26,bU D 0 1 c),(27,R7 K X Gb),(28,iV 1)] cC:=by rw[<-ec,<-eD,<-eG,<-eK];exact F3
 refine(An (ρ:=bL [] [(61,K),(64,X),(62,Gb)] []) (bs:=[]) (mem:=[]) (Q:=fun v w'=>v=iV 1∧bS (fun x=>w3.heap.size≤x∨x=M) w3 w') oT (fun p hp=>?_) VO.want VO.op VO.low (nofun) (nofun) VO.dst VO.dlt VO.Ir fun w' f4=>?_).trans fun g4 w4 c9=>?_
 ·simp only[told,aK,List.map_nil,aj,az,or_false]at hp;rcases hp with rfl|rfl
  ·exact cD rfl
  ·exact cD rfl
 ·refine(L3 (P:=P) (A:=A) (C:=C) (M:=M) (h.keep (f13.trans f4)) ((f3.trans f4).cell Dn) (bM (k:=.map _) hM f4) (f4.cell (bE hK (i:=0) rfl)) (f4.cell (bE hG (i:=0) rfl))).mono fun v w2 hd=>⟨hd.1,?_⟩;exact(f4.mono fun q hq=>.inl hq).trans (hd.2.mono fun q hq=>hq.imp (fun hq=>aA f4.size hq) id)
 obtain⟨eg,vv,rfl,⟨rfl,k4⟩,F4⟩:=c9;have hMD:M≠D:=fun e=>by have Od:w3.cell? ⟨D,0,none⟩=some (iV 0):=cu.cR hD rfl;exact ta hM Od e
 have hD4:(cu.vec 3 c [iV 0]).at Tryz.prog w4 D:=cu.qh hD k4 fun hh=>by
  rcases hh with hh|hh
  ·have:=cu.jW hD;omega
  ·exact hMD hh.symm
 have hX4:w4.cell? ⟨X,0,none⟩=some (bU P 0 2 2):=iz k4 (f3.cell Dn) fun hh=>by
  have h3:=f3.cell Dn;have:=k6 h3;have:X<w3.heap.size:=this;rcases hh with hh|hh
  ·have hh:w3.heap.size≤X:=hh;omega
  ·exact ta hM h3 hh.symm
 obtain⟨ρ,hρ⟩:∃ρ:Env,ρ=bL [(8,1),(57,c)] [(64,X),(62,Gb),(52,D),(50,P)] [(65,.agg #[iV 0])]:=⟨_,rfl⟩;refine(ll5.B6 ρ F4 (by rw[hρ];rfl) ⟨by rw[hρ];show decide ((((1:Int).toNat:Nat):Int)+1≤1048576)=true;exact decide_eq_true (by omega),trivial⟩ ⟨by rw[hρ];exact hX4,trivial⟩ (fun p hp x hx=>?_) ⟨⟨.vec 3 c [iV 0],by rw[hρ];exact hD4,rfl,by rw[hρ];rfl,fun inf vU=>?_,(nofun),by rw[hρ];rfl⟩,trivial⟩ ei).trans fun g5 w5 d_=>?_
 ·obtain rfl:=ah.1 hp;obtain rfl:=ah.1 hx;rw[hρ];show D≠X;intro e;have:=cu.jW (bM hX f2);omega
 ·rw[Gs inf vU,hρ];rfl
 obtain⟨I5,B5,gh,rfl,kp5,F5,AZ,_⟩:=d_;have own:∀q,lF ρ w4 [(52,.pre false 65 (v 8) [] [] [] 3 (v 57))] q->w4.heap.size≤q∨q=D:=fun q hq=>by
  rcases hq with hh|⟨p,hp,e⟩
  ·exact .inl hh
  ·obtain rfl:=ah.1 hp;have e:ρ.b 52=q:=e;rw[hρ]at e;exact .inr e.symm
 have hR:(cu.vec 3 (I5 101).toNat [iV 0,iV 1]).at Tryz.prog w5 (B5 101):=by have:=AZ.1.2;rw[hρ]at this;exact this
 have gR:w.heap.size≤B5 101:=by have h1:=f12.size;have h2:=f3.size;have h3:=k4.size;have h4:w4.heap.size≤B5 101∨B5 101=D:=own _ AZ.1.1;rcases h4 with h4|h4<;>omega
 have f5:bA w w5:=cq (cq f13 (k4.mono fun q hq=>by
  have h1:=f12.size;have h2:=f13.size;rcases hq with hq|hq<;>omega)) (kp5.mono fun q hq=>by
  have h1:=f12.size;have h2:=f3.size;have h3:=k4.size;rcases own q hq with hq|hq<;>omega)
 have OD:FA 22 34 (.code .ret::[]) [] .normal [(2,bU (B5 101) 0 2 (I5 101).toNat),(3,iV 0)] gh:=by rw[hρ]at F5;exact F5
 refine(iN YT OD rfl rfl).mono fun g6 w6 dj=>?_;obtain⟨dJ,rfl,rfl,hL⟩:=dj;exact⟨dJ,_,rfl,hL,f5,B5 101,(I5 101).toNat,rfl,cu.cR hR rfl,gR⟩
theorem zE:dS 7 #[] w fun v w'=>bA w w'∧v=.bool true:=by
 refine cF fun cs=>?_;refine(lv1.go (bL [] [] []) (Ao adP) rfl trivial trivial).trans fun g1 w1 hd=>?_;obtain⟨I,B,bT,rfl,f1,F1,_⟩:=hd;let PQ:Value->World->Prop:=fun v w'=>∃P A C,v=j7 P∧cw (R5 P A C) w' IG;refine(zD.go (bL [] [] []) (Q:=PQ) F1 rfl fun w' f2=>s_).trans fun g2 w2 bX=>?_;obtain⟨cB,vv,rfl,f2,⟨P,A,C,rfl,hP⟩,F2⟩:=bX;refine(lv3.go (bL [] [] [(9,j7 P)]) F2 rfl trivial trivial).trans fun g3 w3 cn=>?_;obtain⟨I,B,cC,rfl,f3,F3,_⟩:=cn;refine(lv4.go (bL [] [] [(9,j7 P),(10,c_ ⟨0,0,0,0⟩)]) (Q:=fun v w'=>∃B c,v=.tuple #[bU B 0 2 c,iV 0]∧w'.cell? ⟨B,2,none⟩=some (cY 1)∧w'.cell? ⟨B,3,none⟩=some (iV 3)) F3 rfl fun w' f4=>(IA (qm (hP.keep (f3.trans f4))) (by decide) (by decide)).mono fun v w2 hd=>⟨hd.1,by
  obtain⟨s,h1,h2⟩:=hd.2;rw[EB]at h1 h2;rcases h2 with⟨_,h3⟩|⟨_,B,c,h3,_,h4⟩
  ·cases h3
  ·exact⟨B,c,by rw[h1,h3];rfl,cu.cR h4 rfl,cu.cR h4 rfl⟩⟩).trans fun g4 w4 c9=>?_
 obtain⟨eg,vv,rfl,f4,⟨D,c,rfl,d2,d3⟩,F4⟩:=c9;refine(lv5.go (bL [] [] [(11,bU D 0 2 c)]) F4 rfl trivial trivial).trans fun g5 w5 d_=>?_;obtain⟨I,B,gh,rfl,f5,F5,_⟩:=d_;refine(lv6.go (bL [] [] []) (Q:=PQ) F5 rfl fun w' f2=>s_).trans fun g6 w6 dj=>?_;obtain⟨dJ,vv,rfl,f6,⟨P',A',C',rfl,Xi⟩,F6⟩:=dj;refine(lv7.go (bL [] [] [(14,j7 P')]) (Q:=fun v w'=>∃B,v=bU B 0 1 1) F6 rfl fun w' f7=>(IJ (Xi.keep f7)).mono fun v w2 hd=>⟨hd.1,by obtain⟨B,_,h2,_⟩:=hd.2;exact⟨B,h2⟩⟩).trans fun g7 w7 lG=>?_
 obtain⟨qj,vv,rfl,f7,⟨N,rfl⟩,F7⟩:=lG;refine(lv8.go (bL [] [] [(1,bU D 0 2 c),(15,bU N 0 1 1)]) F7 rfl trivial trivial).trans fun g8 w8 xg=>?_;obtain⟨I,B,Iu,rfl,f8,F8,_⟩:=xg;refine(lv9.go (bL [] [] []) (Q:=PQ) F8 rfl fun w' f2=>s_).trans fun g9 w9 xh=>?_;obtain⟨AY,vv,rfl,f9,⟨P2,A2,C2,rfl,hP2⟩,F9⟩:=xh;refine(lvA.go (bL [] [] [(17,j7 P2)]) (Q:=fun v w'=>∃B c,v=.tuple #[bU B 0 2 c,iV 0]∧w'.cell? ⟨B,1,none⟩=some (iV 1)) F9 rfl fun w' fA=>(EC (hP2.keep fA)).mono fun v w2 hd=>⟨hd.1,by obtain⟨B,c,h1,h2,_⟩:=hd.2;exact⟨B,c,h1,h2⟩⟩).trans fun gA wA Ys=>?_
 obtain⟨frA,vv,rfl,fA,⟨L,c2,rfl,l1⟩,Yt⟩:=Ys;refine(lvB.go (bL [] [] [(1,bU D 0 2 c),(3,bU N 0 1 1),(18,bU L 0 2 c2)]) Yt rfl trivial trivial).trans fun gB wB Yu=>?_;obtain⟨I,B,frB,rfl,fB,FB',_⟩:=Yu;refine(lvC.go (bL [] [] []) (Q:=PQ) FB' rfl fun w' f2=>s_).trans fun gC wC Yv=>?_;obtain⟨frC,vv,rfl,fC,⟨P3,A3,C3,rfl,hP3⟩,FC⟩:=Yv;refine(lvD.go (bL [] [] [(1,bU D 0 2 c),(3,bU N 0 1 1),(4,bU L 0 2 c2),(22,j7 P3)]) FC rfl trivial trivial).trans fun gD wD hdD=>?_;obtain⟨I,B,frD,rfl,fD,FD,blD,_⟩:=hdD;obtain⟨Eb,eE⟩:∃Eb,B 100=Eb:=⟨_,rfl⟩;have hE:(cu.obj 43 [cY 1,iV 1,cY 1,iV 4]).at Tryz.prog wD Eb:=by rw[<-eE];exact blD.1.2
 have FD':FA 7 72 (.inRegion (opsOf (q6 62)) [5,6,7,8,9,10]::[.code (q6 63)]) [] .normal [(1,bU D 0 2 c),(2,iV 0),(3,bU N 0 1 1),(4,bU L 0 2 c2),(5,iV 0),(22,j7 P3),(23,c_ ⟨0,0,0,0⟩),(26,bU Eb 0 2 2)] frD:=by rw[<-eE];exact FD
 have YV:dY wD (bU Eb 0 2 2) [(1,1),(1,4)]:=⟨false,Eb,0,2,rfl,(fun h=>by cases h),fun _=>ax _,fun i e he=>by
  match i,he with
  |0,he=>obtain rfl:((1:Int),(1:Int))=e:=au he;exact⟨bE hE (i:=0) rfl,bE hE (i:=1) rfl⟩
  |1,he=>obtain rfl:((1:Int),(4:Int))=e:=au he;exact⟨bE hE (i:=2) rfl,bE hE (i:=3) rfl⟩
  |i+2,he=>cases he⟩
 refine(lvE.go (bL [] [] [(22,j7 P3),(23,c_ ⟨0,0,0,0⟩),(26,bU Eb 0 2 2)]) (Q:=fun v w'=>v=.tuple #[iV 30,iV 1]) FD' rfl fun w' fE=>(LR (m:=⟨0,0,0,0⟩) (qm (hP3.keep (fD.trans fE))) (YV.keep fE) (by rw[xy]) (fun i x hi=>?_) rfl (by decide) (by decide) (by decide)).mono fun v w2 hd=>⟨hd.1,by have:=hd.2;rw[II]at this;exact this⟩).trans fun gE wE hdE=>?_
 ·match i,hi with
  |0,hi=>obtain rfl:R6=x:=au hi;rfl
  |1,hi=>obtain rfl:EA=x:=au hi;rfl
  |i+2,hi=>cases hi
 obtain⟨frE,vv,rfl,fE,rfl,FE⟩:=hdE;have g1:=f5.trans (f6.trans (f7.trans (f8.trans (f9.trans (fA.trans (fB.trans (fC.trans (fD.trans fE))))))));have g2:=fB.trans (fC.trans (fD.trans fE));refine(lvF.go (bL [(81,c),(82,c2)] [(73,D),(72,N),(74,L)] []) FE rfl trivial ⟨g1.cell d2,g1.cell d3,g2.cell l1,trivial⟩).trans fun gF wF hdF=>?_;obtain⟨I,B,frF,rfl,fF,FF,_⟩:=hdF;refine(leave1 adQ FF rfl).mono fun gG wG hdG=>?_;obtain⟨frG,rfl,rfl,hL⟩:=hdG;exact⟨frG,_,rfl,hL,f1.trans (f2.trans (f3.trans (f4.trans (g1.trans fF)))),rfl⟩
end
noncomputable def aqN(l:Nat):Code:=pc (bD Tryz.f25) (pd l)
theorem R9:bP Tryz.prog 25 [.bC 0,.bC 1] .normal=.ok ⟨25,10,c8 25 [.bC 0,.bC 1],[.code (bD Tryz.f25)],[],.run,.normal⟩:=by kernel_rfl
theorem R_:dP 25 10 4:=fun st=>by kernel_rfl
theorem zna:Pc 25 10 [.code (bD Tryz.f25)] ([(0,i64 (v 10)),(1,i64 (v 11))]) [] [] [] 13 [] [4] [.code .ret] [i64 (.op .add .i64 (.op .add .i64 (.op .mul .i64 (.lit 1048576) (v 10)) (v 11)) (.lit 1))] []:={}
noncomputable def gx(l:Nat):Code:=pc (bD Tryz.f24) (pd l)
theorem L4:bP Tryz.prog 24 [.bC 0] .normal=.ok ⟨24,35,c8 24 [.bC 0],[.code (bD Tryz.f24)],[],.run,.normal⟩:=by kernel_rfl
theorem Sa:dP 24 35 2:=fun st=>by kernel_rfl
abbrev OK:List (BE×Bool):=[((.cmp .gtr (.op .add .i64 (.tn (v 51)) (.lit 64)) (.lit 4294967296)),false),((.cmp .lss (.op .add .i64 (.tn (v 51)) (.lit 64)) (.lit 0)),false)]
noncomputable abbrev uN:List Item:=[.code (gx 116),.inLoop (gx 116),.inBlock 0,.code (gx 15)]
theorem adT:Pc 24 35 [.code (bD Tryz.f24)] ([(0,sA 50 53 51 52)]) OK [] [] 19 [100] [0,3,4] uN [sA 50 53 51 52,.slice (some (eD 100 0)) (.op .add .i64 (.tn (v 51)) (.lit 64)) (.op .add .i64 (.tn (v 51)) (.lit 64)),i64 (.lit 0)] [(100,.row [] 3 (.op .add .i64 (.tn (v 51)) (.lit 64)))]:={}
theorem YW:Pc 24 35 [.code (bD Tryz.f24)] ([(0,cj)]) [] [] [] 19 [100] [0,3,4] uN [cj,.slice (some (eD 100 0)) (.lit 64) (.lit 64),i64 (.lit 0)] [(100,.cells [i64 (.lit 0),i64 (.lit 0),i64 (.lit 0),i64 (.lit 0),i64 (.lit 0),i64 (.lit 0),i64 (.lit 0),i64 (.lit 0),i64 (.lit 0),i64 (.lit 0),i64 (.lit 0),i64 (.lit 0),i64 (.lit 0),i64 (.lit 0),i64 (.lit 0),i64 (.lit 0),i64 (.lit 0),i64 (.lit 0),i64 (.lit 0),i64 (.lit 0),i64 (.lit 0),i64 (.lit 0),i64 (.lit 0),i64 (.lit 0),i64 (.lit 0),i64 (.lit 0),i64 (.lit 0),i64 (.lit 0),i64 (.lit 0),i64 (.lit 0),i64 (.lit 0),i64 (.lit 0),i64 (.lit 0),i64 (.lit 0),i64 (.lit 0),i64 (.lit 0),i64 (.lit 0),i64 (.lit 0),i64 (.lit 0),i64 (.lit 0),i64 (.lit 0),i64 (.lit 0),i64 (.lit 0),i64 (.lit 0),i64 (.lit 0),i64 (.lit 0),i64 (.lit 0),i64 (.lit 0),i64 (.lit 0),i64 (.lit 0),i64 (.lit 0),i64 (.lit 0),i64 (.lit 0),i64 (.lit 0),i64 (.lit 0),i64 (.lit 0),i64 (.lit 0),i64 (.lit 0),i64 (.lit 0),i64 (.lit 0),i64 (.lit 0),i64 (.lit 0),i64 (.lit 0),i64 (.lit 0)] 3)]:={}
abbrev kz2:List (BE×Bool):=[((.cmp .lss (v 10) (.tn (v 61))),true),((.cmp .leq (.lit 0) (v 10)),true),((.cmp .lss (v 10) (.lit 0)),false),((.cmp .geq (v 10) (.tn (v 61))),false),((.cmp .lss (v 10) (.tn (v 51))),true),((.cmp .leq (.lit 0) (v 10)),true),((.cmp .lss (v 10) (.lit 0)),false),((.cmp .geq (v 10) (.tn (v 51))),false)]
theorem adU:Pc 24 35 uN ([(0,sA 50 53 51 52),(3,sA 60 63 61 62),(4,i64 (v 10))]) kz2 [(eC 50 53 10,i64 (v 11))] [] 28 [] [0,3,4,25,24] [.inRegion (opsOf (gx 3730)) [7],.inBlock 1,.code (gx 467),.inLoop (gx 116),.inBlock 0,.code (gx 15)] [sA 50 53 51 52,sA 60 63 61 62,i64 (v 10),.ptr (some (eC 60 63 10)),i64 (v 11)] []:={}
theorem adV:jO 35 (opsOf (gx 3730)) 7 [] (.store 3 (.tmp 25) (.tmp 24)) 0 none:={}
theorem YX:Pc 24 35 [.inRegion (opsOf (gx 3730)) [],.inBlock 1,.code (gx 467),.inLoop (gx 116),.inBlock 0,.code (gx 15)] ([(0,.bC 0),(3,sA 60 63 61 62),(4,i64 (v 10))]) [] [] [] 8 [] [0,3,4] uN [.bC 0,sA 60 63 61 62,i64 (.op .add .i64 (v 10) (.lit 1))] []:={}
theorem adW(z:Bool):Pc 24 35 uN ([(0,cG z 50 53 51 52),(3,sA 60 63 61 62),(4,i64 (v 10))]) (fN 10 61++[((.cmp .lss (v 10) (dL z 51)),false)]) [] [] 24 [] [0,3,4,26,27,28] [.inRegion (opsOf (gx 3731)) [3,4,5],.inBlock 1,.code (gx 467),.inLoop (gx 116),.inBlock 0,.code (gx 15)] [cG z 50 53 51 52,sA 60 63 61 62,i64 (v 10),sA 60 63 61 62,i64 (v 10),i64 (v 10)] []:=by cases z<;>exact{}
theorem adX:di 35 (opsOf (gx 3731)) 3 [(28,.bC 28)] 25 [i64 (.lit 9),.bC 28] 29:={}
theorem adY:Pc 24 35 [.inRegion (opsOf (gx 3731)) [4,5],.inBlock 1,.code (gx 467),.inLoop (gx 116),.inBlock 0,.code (gx 15)] ([(0,.bC 0),(3,sA 60 63 61 62),(4,i64 (v 10)),(26,sA 60 63 61 62),(27,i64 (v 10)),(29,i64 (v 12))]) (fN 10 61) [] [] 1 [] [0,3,4,30,29] [.inRegion (opsOf (gx 3731)) [5],.inBlock 1,.code (gx 467),.inLoop (gx 116),.inBlock 0,.code (gx 15)] [.bC 0,sA 60 63 61 62,i64 (v 10),.ptr (some (eC 60 63 10)),i64 (v 12)] []:={}
theorem adZ:jO 35 (opsOf (gx 3731)) 5 [] (.store 3 (.tmp 30) (.tmp 29)) 0 none:={}
theorem YY:Pc 24 35 [.inRegion (opsOf (gx 3731)) [],.inBlock 1,.code (gx 467),.inLoop (gx 116),.inBlock 0,.code (gx 15)] ([(0,.bC 0),(3,sA 60 63 61 62),(4,i64 (v 10))]) [] [] [] 8 [] [0,3,4] uN [.bC 0,sA 60 63 61 62,i64 (.op .add .i64 (v 10) (.lit 1))] []:={}
abbrev tc:List (BE×Bool):=[((.cmp .lss (v 10) (.tn (v 61))),false)]
theorem ad0(z:Bool):Pc 24 35 uN ([(0,cG z 50 53 51 52),(3,sA 60 63 61 62),(4,i64 (v 10))]) tc [] [] 15 [] [31,33] [.inRegion (opsOf (gx 30)) [3,4],.code .ret] [sA 60 63 61 62,i64 (dL z 51)] []:=by cases z<;>exact{}
theorem ad1:jO 35 (opsOf (gx 30)) 3 [] (.slice 23 (.tmp 31) none (some (.tmp 33)) none) 23 (some 34):={}
theorem ad2:Pc 24 35 [.inRegion (opsOf (gx 30)) [4],.code .ret] ([(34,.bC 7)]) [] [] [] 2 [] [2] [.code .ret] [.bC 7] []:={}
noncomputable def gy(l:Nat):Code:=pc (bD Tryz.f65) (pd l)
theorem ED:bP Tryz.prog 65 [.bC 0] .normal=.ok ⟨65,36,c8 65 [.bC 0],[.code (bD Tryz.f65)],[],.run,.normal⟩:=by kernel_rfl
theorem L5:dP 65 36 2:=fun st=>by kernel_rfl
noncomputable abbrev pV:List Item:=[.code (gy 116),.inLoop (gy 116),.inBlock 0,.code (gy 15)]
theorem ad3:Pc 65 36 [.code (bD Tryz.f65)] ([(0,sA 50 53 51 52)]) OK [] [] 19 [100] [0,3,4] pV [sA 50 53 51 52,.slice (some (eD 100 0)) (.op .add .i64 (.tn (v 51)) (.lit 64)) (.op .add .i64 (.tn (v 51)) (.lit 64)),i64 (.lit 0)] [(100,.row [] 77 (.op .add .i64 (.tn (v 51)) (.lit 64)))]:={}
theorem YZ:Pc 65 36 [.code (bD Tryz.f65)] ([(0,cj)]) [] [] [] 19 [100] [0,3,4] pV [cj,.slice (some (eD 100 0)) (.lit 64) (.lit 64),i64 (.lit 0)] [(100,.cells [i8 (.lit 0),i64 (.lit 0),i64 (.lit 0),i64 (.lit 0),i8 (.lit 0),i64 (.lit 0),i64 (.lit 0),i64 (.lit 0),i8 (.lit 0),i64 (.lit 0),i64 (.lit 0),i64 (.lit 0),i8 (.lit 0),i64 (.lit 0),i64 (.lit 0),i64 (.lit 0),i8 (.lit 0),i64 (.lit 0),i64 (.lit 0),i64 (.lit 0),i8 (.lit 0),i64 (.lit 0),i64 (.lit 0),i64 (.lit 0),i8 (.lit 0),i64 (.lit 0),i64 (.lit 0),i64 (.lit 0),i8 (.lit 0),i64 (.lit 0),i64 (.lit 0),i64 (.lit 0),i8 (.lit 0),i64 (.lit 0),i64 (.lit 0),i64 (.lit 0),i8 (.lit 0),i64 (.lit 0),i64 (.lit 0),i64 (.lit 0),i8 (.lit 0),i64 (.lit 0),i64 (.lit 0),i64 (.lit 0),i8 (.lit 0),i64 (.lit 0),i64 (.lit 0),i64 (.lit 0),i8 (.lit 0),i64 (.lit 0),i64 (.lit 0),i64 (.lit 0),i8 (.lit 0),i64 (.lit 0),i64 (.lit 0),i64 (.lit 0),i8 (.lit 0),i64 (.lit 0),i64 (.lit 0),i64 (.lit 0),i8 (.lit 0),i64 (.lit 0),i64 (.lit 0),i64 (.lit 0),i8 (.lit 0),i64 (.lit 0),i64 (.lit 0),i64 (.lit 0),i8 (.lit 0),i64 (.lit 0),i64 (.lit 0),i64 (.lit 0),i8 (.lit 0),i64 (.lit 0),i64 (.lit 0),i64 (.lit 0),i8 (.lit 0),i64 (.lit 0),i64 (.lit 0),i64 (.lit 0),i8 (.lit 0),i64 (.lit 0),i64 (.lit 0),i64 (.lit 0),i8 (.lit 0),i64 (.lit 0),i64 (.lit 0),i64 (.lit 0),i8 (.lit 0),i64 (.lit 0),i64 (.lit 0),i64 (.lit 0),i8 (.lit 0),i64 (.lit 0),i64 (.lit 0),i64 (.lit 0),i8 (.lit 0),i64 (.lit 0),i64 (.lit 0),i64 (.lit 0),i8 (.lit 0),i64 (.lit 0),i64 (.lit 0),i64 (.lit 0),i8 (.lit 0),i64 (.lit 0),i64 (.lit 0),i64 (.lit 0),i8 (.lit 0),i64 (.lit 0),i64 (.lit 0),i64 (.lit 0),i8 (.lit 0),i64 (.lit 0),i64 (.lit 0),i64 (.lit 0),i8 (.lit 0),i64 (.lit 0),i64 (.lit 0),i64 (.lit 0),i8 (.lit 0),i64 (.lit 0),i64 (.lit 0),i64 (.lit 0),i8 (.lit 0),i64 (.lit 0),i64 (.lit 0),i64 (.lit 0),i8 (.lit 0),i64 (.lit 0),i64 (.lit 0),i64 (.lit 0),i8 (.lit 0),i64 (.lit 0),i64 (.lit 0),i64 (.lit 0),i8 (.lit 0),i64 (.lit 0),i64 (.lit 0),i64 (.lit 0),i8 (.lit 0),i64 (.lit 0),i64 (.lit 0),i64 (.lit 0),i8 (.lit 0),i64 (.lit 0),i64 (.lit 0),i64 (.lit 0),i8 (.lit 0),i64 (.lit 0),i64 (.lit 0),i64 (.lit 0),i8 (.lit 0),i64 (.lit 0),i64 (.lit 0),i64 (.lit 0),i8 (.lit 0),i64 (.lit 0),i64 (.lit 0),i64 (.lit 0),i8 (.lit 0),i64 (.lit 0),i64 (.lit 0),i64 (.lit 0),i8 (.lit 0),i64 (.lit 0),i64 (.lit 0),i64 (.lit 0),i8 (.lit 0),i64 (.lit 0),i64 (.lit 0),i64 (.lit 0),i8 (.lit 0),i64 (.lit 0),i64 (.lit 0),i64 (.lit 0),i8 (.lit 0),i64 (.lit 0),i64 (.lit 0),i64 (.lit 0),i8 (.lit 0),i64 (.lit 0),i64 (.lit 0),i64 (.lit 0),i8 (.lit 0),i64 (.lit 0),i64 (.lit 0),i64 (.lit 0),i8 (.lit 0),i64 (.lit 0),i64 (.lit 0),i64 (.lit 0),i8 (.lit 0),i64 (.lit 0),i64 (.lit 0),i64 (.lit 0),i8 (.lit 0),i64 (.lit 0),i64 (.lit 0),i64 (.lit 0),i8 (.lit 0),i64 (.lit 0),i64 (.lit 0),i64 (.lit 0),i8 (.lit 0),i64 (.lit 0),i64 (.lit 0),i64 (.lit 0),i8 (.lit 0),i64 (.lit 0),i64 (.lit 0),i64 (.lit 0),i8 (.lit 0),i64 (.lit 0),i64 (.lit 0),i64 (.lit 0),i8 (.lit 0),i64 (.lit 0),i64 (.lit 0),i64 (.lit 0),i8 (.lit 0),i64 (.lit 0),i64 (.lit 0),i64 (.lit 0),i8 (.lit 0),i64 (.lit 0),i64 (.lit 0),i64 (.lit 0),i8 (.lit 0),i64 (.lit 0),i64 (.lit 0),i64 (.lit 0),i8 (.lit 0),i64 (.lit 0),i64 (.lit 0),i64 (.lit 0),i8 (.lit 0),i64 (.lit 0),i64 (.lit 0),i64 (.lit 0),i8 (.lit 0),i64 (.lit 0),i64 (.lit 0),i64 (.lit 0),i8 (.lit 0),i64 (.lit 0),i64 (.lit 0),i64 (.lit 0),i8 (.lit 0),i64 (.lit 0),i64 (.lit 0),i64 (.lit 0),i8 (.lit 0),i64 (.lit 0),i64 (.lit 0),i64 (.lit 0)] 77)]:={}
theorem ad4:Pc 65 36 pV ([(0,sA 50 53 51 52),(3,sA 60 63 61 62),(4,i64 (v 10))]) kz2 Ch [] 28 [] [0,3,4,25,24] [.inRegion (opsOf (gy 3730)) [7],.inBlock 1,.code (gy 467),.inLoop (gy 116),.inBlock 0,.code (gy 15)] [sA 50 53 51 52,sA 60 63 61 62,i64 (v 10),.ptr (some (eB 60 63 10 4)),.agg [i8 (v 11),i64 (v 12),i64 (v 13),i64 (v 14)]] []:={}
theorem ad5:jO 36 (opsOf (gy 3730)) 7 [] (.store 77 (.tmp 25) (.tmp 24)) 0 none:={}
theorem Y0:Pc 65 36 [.inRegion (opsOf (gy 3730)) [],.inBlock 1,.code (gy 467),.inLoop (gy 116),.inBlock 0,.code (gy 15)] ([(0,.bC 0),(3,sA 60 63 61 62),(4,i64 (v 10))]) [] [] [] 8 [] [0,3,4] pV [.bC 0,sA 60 63 61 62,i64 (.op .add .i64 (v 10) (.lit 1))] []:={}
noncomputable abbrev Y1:List Item:=[.inRegion (opsOf (gy 3731)) [3,4,5,6],.inBlock 1,.code (gy 467),.inLoop (gy 116),.inBlock 0,.code (gy 15)]
theorem ad6(z:Bool):Pc 65 36 pV ([(0,cG z 50 53 51 52),(3,sA 60 63 61 62),(4,i64 (v 10))]) (fN 10 61++[((.cmp .lss (v 10) (dL z 51)),false)]) [] [] 24 [] [0,3,4,26,27,28] Y1 [cG z 50 53 51 52,sA 60 63 61 62,i64 (v 10),sA 60 63 61 62,i64 (v 10),i64 (v 10)] []:=by cases z<;>exact{}
theorem Y2:di 36 (opsOf (gy 3731)) 3 [(28,.bC 28)] 25 [i64 (.lit 9),.bC 28] 29:={}
theorem Y3:Pc 65 36 [.inRegion (opsOf (gy 3731)) [4,5,6],.inBlock 1,.code (gy 467),.inLoop (gy 116),.inBlock 0,.code (gy 15)] ([(0,.bC 0),(3,sA 60 63 61 62),(4,i64 (v 10)),(26,sA 60 63 61 62),(27,i64 (v 10)),(29,i64 (v 12))]) (fN 10 61) [] [] 2 [] [0,3,4,31,30] [.inRegion (opsOf (gy 3731)) [6],.inBlock 1,.code (gy 467),.inLoop (gy 116),.inBlock 0,.code (gy 15)] [.bC 0,sA 60 63 61 62,i64 (v 10),.ptr (some (eB 60 63 10 4)),.agg [i8 (.lit 0),i64 (.lit 0),i64 (.lit 0),i64 (v 12)]] []:={}
theorem Y4:jO 36 (opsOf (gy 3731)) 6 [] (.store 77 (.tmp 31) (.tmp 30)) 0 none:={}
theorem Qh:Pc 65 36 [.inRegion (opsOf (gy 3731)) [],.inBlock 1,.code (gy 467),.inLoop (gy 116),.inBlock 0,.code (gy 15)] ([(0,.bC 0),(3,sA 60 63 61 62),(4,i64 (v 10))]) [] [] [] 8 [] [0,3,4] pV [.bC 0,sA 60 63 61 62,i64 (.op .add .i64 (v 10) (.lit 1))] []:={}
noncomputable abbrev L6:List Item:=[.inRegion (opsOf (gy 30)) [3,4],.code .ret]
theorem ad7(z:Bool):Pc 65 36 pV ([(0,cG z 50 53 51 52),(3,sA 60 63 61 62),(4,i64 (v 10))]) tc [] [] 15 [] [32,34] L6 [sA 60 63 61 62,i64 (dL z 51)] []:=by cases z<;>exact{}
theorem Y5:jO 36 (opsOf (gy 30)) 3 [] (.slice 48 (.tmp 32) none (some (.tmp 34)) none) 48 (some 35):={}
theorem Y6:Pc 65 36 [.inRegion (opsOf (gy 30)) [4],.code .ret] ([(35,.bC 7)]) [] [] [] 2 [] [2] [.code .ret] [.bC 7] []:={}
noncomputable def nD(l:Nat):Code:=pc (bD Tryz.f9) (pd l)
theorem Qi:bP Tryz.prog 9 [.bC 0] .normal=.ok ⟨9,36,c8 9 [.bC 0],[.code (bD Tryz.f9)],[],.run,.normal⟩:=by kernel_rfl
theorem Y7:dP 9 36 2:=fun st=>by kernel_rfl
noncomputable abbrev uO:List Item:=[.code (nD 116),.inLoop (nD 116),.inBlock 0,.code (nD 15)]
theorem ad8:Pc 9 36 [.code (bD Tryz.f9)] ([(0,sA 50 53 51 52)]) OK [] [] 19 [100] [0,3,4] uO [sA 50 53 51 52,.slice (some (eD 100 0)) (.op .add .i64 (.tn (v 51)) (.lit 64)) (.op .add .i64 (.tn (v 51)) (.lit 64)),i64 (.lit 0)] [(100,.row [] 43 (.op .add .i64 (.tn (v 51)) (.lit 64)))]:={}
theorem Y8:Pc 9 36 [.code (bD Tryz.f9)] ([(0,cj)]) [] [] [] 19 [100] [0,3,4] uO [cj,.slice (some (eD 100 0)) (.lit 64) (.lit 64),i64 (.lit 0)] [(100,.cells [i8 (.lit 0),i64 (.lit 0),i8 (.lit 0),i64 (.lit 0),i8 (.lit 0),i64 (.lit 0),i8 (.lit 0),i64 (.lit 0),i8 (.lit 0),i64 (.lit 0),i8 (.lit 0),i64 (.lit 0),i8 (.lit 0),i64 (.lit 0),i8 (.lit 0),i64 (.lit 0),i8 (.lit 0),i64 (.lit 0),i8 (.lit 0),i64 (.lit 0),i8 (.lit 0),i64 (.lit 0),i8 (.lit 0),i64 (.lit 0),i8 (.lit 0),i64 (.lit 0),i8 (.lit 0),i64 (.lit 0),i8 (.lit 0),i64 (.lit 0),i8 (.lit 0),i64 (.lit 0),i8 (.lit 0),i64 (.lit 0),i8 (.lit 0),i64 (.lit 0),i8 (.lit 0),i64 (.lit 0),i8 (.lit 0),i64 (.lit 0),i8 (.lit 0),i64 (.lit 0),i8 (.lit 0),i64 (.lit 0),i8 (.lit 0),i64 (.lit 0),i8 (.lit 0),i64 (.lit 0),i8 (.lit 0),i64 (.lit 0),i8 (.lit 0),i64 (.lit 0),i8 (.lit 0),i64 (.lit 0),i8 (.lit 0),i64 (.lit 0),i8 (.lit 0),i64 (.lit 0),i8 (.lit 0),i64 (.lit 0),i8 (.lit 0),i64 (.lit 0),i8 (.lit 0),i64 (.lit 0),i8 (.lit 0),i64 (.lit 0),i8 (.lit 0),i64 (.lit 0),i8 (.lit 0),i64 (.lit 0),i8 (.lit 0),i64 (.lit 0),i8 (.lit 0),i64 (.lit 0),i8 (.lit 0),i64 (.lit 0),i8 (.lit 0),i64 (.lit 0),i8 (.lit 0),i64 (.lit 0),i8 (.lit 0),i64 (.lit 0),i8 (.lit 0),i64 (.lit 0),i8 (.lit 0),i64 (.lit 0),i8 (.lit 0),i64 (.lit 0),i8 (.lit 0),i64 (.lit 0),i8 (.lit 0),i64 (.lit 0),i8 (.lit 0),i64 (.lit 0),i8 (.lit 0),i64 (.lit 0),i8 (.lit 0),i64 (.lit 0),i8 (.lit 0),i64 (.lit 0),i8 (.lit 0),i64 (.lit 0),i8 (.lit 0),i64 (.lit 0),i8 (.lit 0),i64 (.lit 0),i8 (.lit 0),i64 (.lit 0),i8 (.lit 0),i64 (.lit 0),i8 (.lit 0),i64 (.lit 0),i8 (.lit 0),i64 (.lit 0),i8 (.lit 0),i64 (.lit 0),i8 (.lit 0),i64 (.lit 0),i8 (.lit 0),i64 (.lit 0),i8 (.lit 0),i64 (.lit 0),i8 (.lit 0),i64 (.lit 0),i8 (.lit 0),i64 (.lit 0),i8 (.lit 0),i64 (.lit 0)] 43)]:={}
noncomputable abbrev Cs:List (AA×AV):=[(eB 50 53 10 2,i8 (v 11)),(eA 50 53 10 2 1,i64 (v 12))]
theorem ad9:Pc 9 36 uO ([(0,sA 50 53 51 52),(3,sA 60 63 61 62),(4,i64 (v 10))]) kz2 Cs [] 28 [] [0,3,4,25,24] [.inRegion (opsOf (nD 3730)) [7],.inBlock 1,.code (nD 467),.inLoop (nD 116),.inBlock 0,.code (nD 15)] [sA 50 53 51 52,sA 60 63 61 62,i64 (v 10),.ptr (some (eB 60 63 10 2)),.agg [i8 (v 11),i64 (v 12)]] []:={}
theorem ad_:jO 36 (opsOf (nD 3730)) 7 [] (.store 43 (.tmp 25) (.tmp 24)) 0 none:={}
theorem Y9:Pc 9 36 [.inRegion (opsOf (nD 3730)) [],.inBlock 1,.code (nD 467),.inLoop (nD 116),.inBlock 0,.code (nD 15)] ([(0,.bC 0),(3,sA 60 63 61 62),(4,i64 (v 10))]) [] [] [] 8 [] [0,3,4] uO [.bC 0,sA 60 63 61 62,i64 (.op .add .i64 (v 10) (.lit 1))] []:={}
theorem ad'(z:Bool):Pc 9 36 uO ([(0,cG z 50 53 51 52),(3,sA 60 63 61 62),(4,i64 (v 10))]) (fN 10 61++[((.cmp .lss (v 10) (dL z 51)),false)]) [] [] 24 [] [0,3,4,26,27,28] [.inRegion (opsOf (nD 3731)) [3,4,5,6],.inBlock 1,.code (nD 467),.inLoop (nD 116),.inBlock 0,.code (nD 15)] [cG z 50 53 51 52,sA 60 63 61 62,i64 (v 10),sA 60 63 61 62,i64 (v 10),i64 (v 10)] []:=by cases z<;>exact{}
theorem aea:di 36 (opsOf (nD 3731)) 3 [(28,.bC 28)] 25 [i64 (.lit 9),.bC 28] 29:={}
theorem aeb:Pc 9 36 [.inRegion (opsOf (nD 3731)) [4,5,6],.inBlock 1,.code (nD 467),.inLoop (nD 116),.inBlock 0,.code (nD 15)] ([(0,.bC 0),(3,sA 60 63 61 62),(4,i64 (v 10)),(26,sA 60 63 61 62),(27,i64 (v 10)),(29,i64 (v 12))]) (fN 10 61) [] [] 2 [] [0,3,4,31,30] [.inRegion (opsOf (nD 3731)) [6],.inBlock 1,.code (nD 467),.inLoop (nD 116),.inBlock 0,.code (nD 15)] [.bC 0,sA 60 63 61 62,i64 (v 10),.ptr (some (eB 60 63 10 2)),.agg [i8 (.lit 0),i64 (v 12)]] []:={}
theorem aec:jO 36 (opsOf (nD 3731)) 6 [] (.store 43 (.tmp 31) (.tmp 30)) 0 none:={}
theorem Y_:Pc 9 36 [.inRegion (opsOf (nD 3731)) [],.inBlock 1,.code (nD 467),.inLoop (nD 116),.inBlock 0,.code (nD 15)] ([(0,.bC 0),(3,sA 60 63 61 62),(4,i64 (v 10))]) [] [] [] 8 [] [0,3,4] uO [.bC 0,sA 60 63 61 62,i64 (.op .add .i64 (v 10) (.lit 1))] []:={}
theorem aed(z:Bool):Pc 9 36 uO ([(0,cG z 50 53 51 52),(3,sA 60 63 61 62),(4,i64 (v 10))]) tc [] [] 15 [] [32,34] [.inRegion (opsOf (nD 30)) [3,4],.code .ret] [sA 60 63 61 62,i64 (dL z 51)] []:=by cases z<;>exact{}
theorem aee:jO 36 (opsOf (nD 30)) 3 [] (.slice 28 (.tmp 32) none (some (.tmp 34)) none) 28 (some 35):={}
theorem aef:Pc 9 36 [.inRegion (opsOf (nD 30)) [4],.code .ret] ([(35,.bC 7)]) [] [] [] 2 [] [2] [.code .ret] [.bC 7] []:={}
section
variable {w:World}{cs:List Frame}{fr:Frame}{fn nt i:Nat}{ops:Array Oper}{l:List Nat}{k:List Item}{lv:List (Nat×Value)}
theorem EE{E:Value->World->Prop}{B off el:Nat}:∀(cs:List Value) (j:Nat) {w:World} {arr:Array Value} {P rest:List Value} {Q:Unit->World->Prop},w.heap[B]?=some (.cells arr el (0,0))->arr.toList=P++rest->off+j=P.length->cs.length≤rest.length->(∀x∈cs,x.oneCell'=true)->
  (∀w' gn,bS (fun b=>b=B) w w'->w'.heap[B]?=some (.cells gn el (0,0))->gn.toList=(P++cs)++rest.drop cs.length->gn.size=arr.size->Q () w')->wq Tryz.prog (fun _=>True) E (storeCells ⟨B,off,none⟩ cs j) Q w
 |[],j,w,arr,P,rest,Q,g1,g3,hj,hl,ho,hq=>by simp only[storeCells,bG];exact hq w arr (bS.refl _ _) g1 (by simpa using g3) rfl
 |x::r,j,w,arr,P,rest,Q,g1,g3,hj,hl,ho,hq=>by
  match rest,hl with
  |y::rest,hl=>
  have hsz:P.length<arr.size:=by have:=congrArg aP g3;rw[ak,aC]at this;have:arr.size=arr.toList.length:=rfl;omega
  simp only[storeCells,bF];have a0:(⟨B,off,none⟩:Addr).add j=⟨B,P.length,none⟩:=by
   unfold Addr.add;by_cases h0:j=0
   ·rw[if_pos h0,<-hj,h0];rfl
   ·rw[if_neg h0,hj]
  rw[o7,a0];refine⟨ho x (ai ..),⟨_,(jm g1).trans (aO hsz)⟩,h_ g1,trivial,?_⟩;have yb:(w.setCell ⟨B,P.length,none⟩ x).heap[B]?=some (.cells (arr.setIfInBounds P.length x) el (0,0)):=by rw[heap_setCell,if_pos rfl,g1];rfl
  refine EE r (j+1) (P:=P++[x]) (rest:=rest) yb (by rw[Array.toList_setIfInBounds,g3,List.set_append_right _ _ (ax _),Nat.sub_self];simp) (by rw[ak];simp;omega) (by simpa using hl) (fun y hy=>ho y (aa _ hy)) fun w' gn kp h1 h2 h3=>hq w' gn ?_ h1 (by rw[h2];simp) (by rw[h3];simp)
  exact bS.trans (w':=w.setCell ⟨B,P.length,none⟩ x) ⟨fun m hm=>by rw[heap_setCell,if_neg (fun x=>hm x)],by rw[size_setCell];exact ax _,rfl,rfl,rfl⟩ kp
theorem gd{B c p q T el sz:Nat}{V:Value}{P cs':List Value}(O:jO nt ops i [] (.store T (.tmp p) (.tmp q)) 0 none)(hS:sizeOf? Tryz.prog T=.ok sz)(hI:(Tryz.prog.info? el).map (fun x=>x.size)=some sz)(hV:V.cells.toList=cs')(hV2:V.cells.size=sz)(hO:∀x∈cs',x.oneCell'=true)(hf:FA fn nt (.inRegion ops (i::l)::k) [] .normal lv fr)(hp:fP p lv=some (.pointer (some ⟨B,P.length,none⟩)))(hq:fP q lv=some V)(hB:(cu.vec el c P).at Tryz.prog w B)(h1:P.length+sz≤c*sz):
  Goes (G fr cs) w fun g' w'=>∃fr',g'=G fr' cs∧(bS (fun b=>b=B) w w'∧(cu.vec el c (P++cs')).at Tryz.prog w' B)∧FA fn nt (.inRegion ops l::k) [] .normal lv fr':=by
 obtain⟨arr,rest,inf,g1,g2,g3,g4⟩:=hB;have hsz:inf.size=sz:=by rw[g2]at hI;exact au hI
 have hcl:cs'.length=sz:=by rw[<-hV,<-hV2];rfl
 have pP:cs'.length≤rest.length:=by have:=congrArg aP g3;rw[ak]at this;have e:arr.size=arr.toList.length:=rfl;rw[hsz]at g4;omega
 refine O.go0 (R:=fun w'=>bS (fun b=>b=B) w w'∧(cu.vec el c (P++cs')).at Tryz.prog w' B) (bL [] [] []) hf rfl fun tm ie x e1 e2=>?_;unfold execOp;simp only[e1,bF,Instr.storeAt];rw[ie p _ hp,ie q _ hq];simp only[Instr.sureAddr,bG,storeVar,bF,c6 (n:=sz) hS];rw[if_neg (fun h=>h hV2)];rw[hV];refine EE cs' 0 g1 g3 rfl pP hO fun w' gn kp h1 h2 h3=>?_;exact⟨trivial,kp,gn,rest.drop cs'.length,inf,h1,g2,h2,by rw[h3];exact g4⟩
end
theorem lI{w:World}{n:Nat}(h:n≤4294967296):dS 25 #[iV 9,iV n] w fun v w'=>bA w w'∧v=iV (9437185+n:Nat):=by
 refine(zna.jy R_ (bL [(10,9),(11,n)] [] []) (dV R9 rfl (iV 9) (iV n)) rfl trivial trivial).mono fun v w' hd=>?_;obtain⟨f,I,B,e,_⟩:=hd;refine⟨f,?_⟩;rw[e];show Value.int .i64 (iF .add .i64 (iF .add .i64 (iF .mul .i64 1048576 9) (n:Int)) 1)=_;have e1:iF .mul .i64 1048576 9=9437184:=by decide
 have e2:iF .add .i64 9437184 (n:Int)=((9437184+n:Nat):Int):=by show IntKind.wrap .i64 (9437184+(n:Int))=_;rw[iM (by omega)];omega
 rw[e1,e2,inc (by omega),show 9437184+n+1=9437185+n by omega];rfl
theorem tf{w:World}{B el c:Nat}{l:List Value}{sz:Nat}(h:(cu.obj el l).at Tryz.prog w B)(hI:(Tryz.prog.info? el).map (fun x=>x.size)=some sz)(hl:l.length=c*sz):(cu.vec el c []).at Tryz.prog w B:=by
 obtain⟨arr,h1,h2⟩:=h;cases e:Tryz.prog.info? el with
 |none=>rw[e]at hI;cases hI
 |some inf=>rw[e]at hI;have:inf.size=sz:=au hI;refine⟨arr,l,inf,h1,e,h2,?_⟩;rw[this,<-hl,<-h2];rfl
theorem lu{n:Nat}(h:n≤4294967000):iF .add .i64 (n:Int) 64=((n+64:Nat):Int):=by show IntKind.wrap .i64 ((n:Int)+64)=_;rw[iM (by omega)];omega
def tg(n:Nd):List Value:=[cY n.op,iV n.n,iV n.kids,iV n.bY]
def th(l:List Int)(i:Nat):List Value:=match l[i]? with
 |some x=>[iV x]
 |none=>(fun(x:Int)=>[iV x]) ((9437185+i:Nat):Int)
def mD(l:List Int)(n:Nat):List Value:=(List.range n).flatMap (th l)
theorem xA(l:List Int)(i:Nat):(th l i).length=1:=by unfold th;split<;>rfl
theorem rJ(l:List Int)(n:Nat):mD l (n+1)=mD l n++th l n:=by unfold mD;rw[List.range_succ,List.flatMap_append];simp
theorem zF(l:List Int):∀n,(mD l n).length=n*1
 |0=>by simp[mD]
 |n+1=>by rw[rJ,ak,zF l n,xA];omega
noncomputable abbrev Za:List Item:=uN
noncomputable abbrev L7(r:List Item):List Item:=r++[.inBlock 1,.code (gx 467),.inLoop (gx 116),.inBlock 0,.code (gx 15)]
section
variable {w0:World}{B:Nat}
theorem xB{z:Bool}{A o c':Nat}{l:List Int}(hz:z=true->l=[])(cL:∀i n,l[i]?=some n->w0.cell? ⟨A,o+i,none⟩=some (iV n))(hlen:l.length≤4294967000)(hB:w0.heap.size≤B):
  ∀(m i:Nat) {w:World} {cs:List Frame} {fr:Frame},i+m=l.length+64->bA w0 w->(cu.vec 3 (l.length+64) (mD l i)).at Tryz.prog w B->FA 24 35 Za [] .normal [(0,ew z A o l.length c'),(3,bU B 0 (l.length+64) (l.length+64)),(4,iV i)] fr->
  Goes (G fr cs) w fun g' w'=>∃fr',g'=G fr' cs∧(bA w0 w'∧(cu.vec 3 (l.length+64) (mD l (l.length+64))).at Tryz.prog w' B)∧cV 24 fr' w' (bU B 0 l.length (l.length+64))
 |0,i,w,cs,fr,hi,fw,hv,hf=>by
  obtain rfl:i=l.length+64:=by omega
  obtain⟨ρ,hρ⟩:∃ρ:Env,ρ=bL [(51,l.length),(52,c'),(53,o),(61,(l.length+64:Nat)),(62,(l.length+64:Nat)),(63,0),(10,(l.length+64:Nat))] [(50,A),(60,B)] []:=⟨_,rfl⟩;refine((ad0 z).go ρ hf (by rw[hρ];cases z<;>rfl) ⟨by rw[hρ];exact decide_eq_false (by show ¬(((l.length+64:Nat):Int)<(((l.length+64:Nat):Nat):Int));omega),trivial⟩ trivial).trans fun g1 w1 hd=>?_;obtain⟨I,B1,bT,rfl,f1,F1,_⟩:=hd;have fI:FA 24 35 [.inRegion (opsOf (gx 30)) [3,4],.code .ret] [] .normal [(31,bU B 0 (l.length+64) (l.length+64)),(33,iV l.length)] bT:=by
   rw[hρ]at F1;cases z with
   |false=>exact F1
   |true=>rw[hz rfl]at F1⊢;exact F1
  refine(ad1.go (R:=fun y w'=>y=bU B 0 l.length (l.length+64)∧w'=w1) (bL [] [] []) fI (by decide) rfl fun tm ie x' e1 e2=>?_).trans fun g2 w2 bX=>?_
  ·unfold execOp;simp only[e1,bF,av,aI];rw[ie 31 _ rfl,ie 33 (iV l.length) rfl];exact ql (z:=false) (t:=23) (elem:=3) (size:=1) (by kernel_rfl) (by kernel_rfl) (show l.length≤l.length+64 by omega) (fun h=>by cases h) (fun _=>ax _) ⟨_,rfl,rfl,rfl⟩
  obtain⟨cB,y,rfl,⟨rfl,rfl⟩,F2⟩:=bX;refine(ad2.go (bL [] [] [(7,bU B 0 l.length (l.length+64))]) F2 rfl trivial trivial).trans fun g3 w3 cn=>?_;obtain⟨I,B3,cC,rfl,f3,F3,_⟩:=cn;refine(leave1 Sa F3 rfl).mono fun g4 w4 c9=>?_;obtain⟨eg,rfl,rfl,hL⟩:=c9;exact⟨eg,rfl,⟨fw.trans (f1.trans f3),bM hv (f1.trans f3)⟩,hL⟩
 |m+1,i,w,cs,fr,hi,fw,hv,hf=>by
  have hic:i<l.length+64:=by omega
  have hP:=zF l i;have next:∀{w1 w2:World} {cB:Frame},bA w w1->bS (fun b=>b=B) w1 w2->(cu.vec 3 (l.length+64) (mD l (i+1))).at Tryz.prog w2 B->(∃t,(t=L7 [.inRegion (opsOf (gx 3730)) []]∨t=L7 [.inRegion (opsOf (gx 3731)) []])∧FA 24 35 t [] .normal [(0,ew z A o l.length c'),(3,bU B 0 (l.length+64) (l.length+64)),(4,iV i)] cB)->
    Goes (G cB cs) w2 fun g' w'=>∃fr',g'=G fr' cs∧(bA w0 w'∧(cu.vec 3 (l.length+64) (mD l (l.length+64))).at Tryz.prog w' B)∧cV 24 fr' w' (bU B 0 l.length (l.length+64)):=fun{w1 w2 cB} f1 kp kL ht=>by
   have mB:bA w0 w2:=cq (fw.trans f1) (kp.mono fun b hb=>by rw[hb];exact hB);obtain⟨t,ht,F2⟩:=ht;obtain⟨σ,bZ⟩:∃σ:Env,σ=bL [(51,l.length),(52,c'),(53,o),(61,(l.length+64:Nat)),(62,(l.length+64:Nat)),(63,0),(10,i)] [(50,A),(60,B)] [(0,ew z A o l.length c')]:=⟨_,rfl⟩;rcases ht with rfl|rfl
   ·refine(YX.go σ F2 (by rw[bZ];rfl) trivial trivial).trans fun g3 w3 cn=>?_;obtain⟨I,B3,cC,rfl,f3,F3,_⟩:=cn;rw[bZ]at F3;refine xB (c':=c') hz cL hlen hB m (i+1) (by omega) (mB.trans f3) (bM kL f3) ?_;rw[<-inc (i:=i) (by omega)];exact F3
   ·refine(YY.go σ F2 (by rw[bZ];rfl) trivial trivial).trans fun g3 w3 cn=>?_;obtain⟨I,B3,cC,rfl,f3,F3,_⟩:=cn;rw[bZ]at F3;refine xB (c':=c') hz cL hlen hB m (i+1) (by omega) (mB.trans f3) (bM kL f3) ?_;rw[<-inc (i:=i) (by omega)];exact F3
  have AF:∀{ρ:Env},ρ.i 10=(i:Int)->ρ.i 61=((l.length+64:Nat):Int)->cr ρ (fN 10 61):=fun h1 h2=>cg (i:=10) (n:=61) (I:=i) (N:=l.length+64) h1 h2 hic;by_cases hl:i<l.length
  ·cases z with
   |true=>rw[hz rfl]at hl;simp at hl
   |false=>
   obtain⟨x,hx⟩:∃x,l[i]?=some x:=⟨_,af hl⟩;have hc:=fw.cell (cL i x hx);obtain⟨ρ,hρ⟩:∃ρ:Env,ρ=bL [(51,l.length),(52,c'),(53,o),(61,(l.length+64:Nat)),(62,(l.length+64:Nat)),(63,0),(10,i),(11,x)] [(50,A),(60,B)] []:=⟨_,rfl⟩;refine(adU.go ρ hf (by rw[hρ];rfl) (cr.app (AF (by rw[hρ];rfl) (by rw[hρ];rfl)) (cg (i:=10) (n:=51) (I:=i) (N:=l.length) (by rw[hρ];rfl) (by rw[hρ];rfl) hl)) ⟨by rw[hρ];exact hc,trivial⟩).trans fun g1 w1 hd=>?_;obtain⟨I,B1,bT,rfl,f1,F1,_⟩:=hd;have fI:FA 24 35 (L7 [.inRegion (opsOf (gx 3730)) [7]]) [] .normal [(0,bU A o l.length c'),(3,bU B 0 (l.length+64) (l.length+64)),(4,iV i),(25,.pointer (some ⟨B,(mD l i).length,none⟩)),(24,iV x)] bT:=by rw[hP,show i*1=0+i by omega];rw[hρ]at F1;exact F1
   refine(gd (cs':=th l i) (T:=3) (el:=3) (sz:=1) (V:=iV x) adV (by kernel_rfl) (by kernel_rfl) (by unfold th;rw[hx];rfl) rfl (by unfold th;rw[hx];intro y hy;simp only[aj,az,or_false]at hy;subst hy;rfl) fI rfl rfl (bM hv f1) (by rw[hP];omega)).trans fun g2 w2 bX=>?_
   obtain⟨cB,rfl,⟨kp,kL⟩,F2⟩:=bX;rw[<-rJ]at kL;exact next f1 kp kL ⟨_,.inl rfl,F2.only rfl⟩
  ·have oM:l[i]?=none:=aM (by omega);obtain⟨ρ,hρ⟩:∃ρ:Env,ρ=bL [(51,l.length),(52,c'),(53,o),(61,(l.length+64:Nat)),(62,(l.length+64:Nat)),(63,0),(10,i)] [(50,A),(60,B)] []:=⟨_,rfl⟩;refine((adW z).go ρ hf (by rw[hρ];cases z<;>rfl) (cr.app (AF (by rw[hρ];rfl) (by rw[hρ];rfl)) ⟨by
    rw[hρ];cases z with
    |false=>exact decide_eq_false (by show ¬((i:Int)<((l.length:Nat):Int));omega)
    |true=>exact decide_eq_false (by show ¬((i:Int)<0);omega),trivial⟩) trivial).trans fun g1 w1 hd=>?_
   obtain⟨I,B1,bT,rfl,f1,F1,_⟩:=hd;have fI:FA 24 35 (L7 [.inRegion (opsOf (gx 3731)) (3::4::[5])]) [] .normal [(0,ew z A o l.length c'),(3,bU B 0 (l.length+64) (l.length+64)),(4,iV i),(26,bU B 0 (l.length+64) (l.length+64)),(27,iV i),(28,iV i)] bT:=by rw[hρ]at F1;cases z<;>exact F1
   refine(adX.go (bL [] [] [(28,iV i)]) (Q:=fun v w'=>v=iV (9437185+i:Nat)) fI rfl fun w' f=>lI (by omega)).trans fun g2 w2 bX=>?_;obtain⟨cB,vv,rfl,f2,rfl,F2⟩:=bX;obtain⟨τ,fz⟩:∃τ:Env,τ=bL [(61,(l.length+64:Nat)),(62,(l.length+64:Nat)),(63,0),(10,i),(12,(9437185+i:Nat)),(51,l.length),(52,c'),(53,o)] [(50,A),(60,B)] [(0,ew z A o l.length c')]:=⟨_,rfl⟩;refine(adY.go τ F2 (by rw[fz];rfl) (AF (by rw[fz];rfl) (by rw[fz];rfl)) trivial).trans fun g3 w3 cn=>?_;obtain⟨I,B3,cC,rfl,f3,F3,_⟩:=cn;have oT:FA 24 35 (L7 [.inRegion (opsOf (gx 3731)) [5]]) [] .normal [(0,ew z A o l.length c'),(3,bU B 0 (l.length+64) (l.length+64)),(4,iV i),(30,.pointer (some ⟨B,(mD l i).length,none⟩)),(29,iV ((9437185+i:Nat):Int))] cC:=by rw[hP,show i*1=0+i by omega];rw[fz]at F3;exact F3
   have f13:=f1.trans (f2.trans f3);refine(gd (cs':=th l i) (T:=3) (el:=3) (sz:=1) (V:=iV ((9437185+i:Nat):Int)) adZ (by kernel_rfl) (by kernel_rfl) (by unfold th;rw[oM];rfl) rfl (by unfold th;rw[oM];intro y hy;simp only[aj,az,or_false]at hy;subst hy;rfl) oT rfl rfl (bM hv f13) (by rw[hP];omega)).trans fun g4 w4 c9=>?_
   obtain⟨eg,rfl,⟨kp,Ct⟩,F4⟩:=c9;rw[<-rJ]at Ct;exact next f13 kp Ct ⟨_,.inr rfl,F4.only rfl⟩
variable {w:World}
theorem IM{s:Value}{l:List Int}(h:kB w s l)(hlen:l.length≤4294967000):dS 24 #[s] w fun v w'=>bA w w'∧∃B,w.heap.size≤B∧v=bU B 0 l.length (l.length+64)∧(cu.vec 3 (l.length+64) (mD l (l.length+64))).at Tryz.prog w' B:=by
 obtain⟨z,A,o,c',rfl,hz,_,cL⟩:=h.ex;refine cF fun cs=>?_;have fin:∀{w1:World} {bT:Frame} {B:Nat},bA w w1->w.heap.size≤B->(cu.vec 3 (l.length+64) []).at Tryz.prog w1 B->FA 24 35 Za [] .normal [(0,ew z A o l.length c'),(3,bU B 0 (l.length+64) (l.length+64)),(4,iV (0:Nat))] bT->Goes (G bT cs) w1 fun g' w'=>∃fr' v,g'=G fr' cs∧cV 24 fr' w' v∧bA w w'∧∃B,w.heap.size≤B∧v=bU B 0 l.length (l.length+64)∧(cu.vec 3 (l.length+64) (mD l (l.length+64))).at Tryz.prog w' B:=fun{w1 bT B} f1 hB hv F1=>by refine(xB (w0:=w) hz cL hlen hB (l.length+64) 0 (by omega) f1 hv F1).mono fun g2 w2 bX=>?_;obtain⟨cB,rfl,⟨f2,kL⟩,hL⟩:=bX;exact⟨cB,_,rfl,hL,f2,B,hB,rfl,kL⟩
 cases z with
 |true=>have L8:=hz rfl;refine(YW.go (bL [] [] []) (cz L4 rfl eS) rfl trivial trivial).trans fun g1 w1 hd=>?_;obtain⟨I,B,bT,rfl,f1,F1,bl,_⟩:=hd;refine fin f1 bl.1.1 ?_ (by rw[L8];exact F1);rw[L8];exact tf (sz:=1) bl.1.2 (by kernel_rfl) rfl
 |false=>
  obtain⟨ρ,hρ⟩:∃ρ:Env,ρ=bL [(51,l.length),(52,c'),(53,o)] [(50,A)] []:=⟨_,rfl⟩;refine(adT.go ρ (cz L4 rfl (bU A o l.length c')) (by rw[hρ];rfl) ⟨by
   rw[hρ];show decide (iF .add .i64 (l.length:Int) 64>4294967296)=false;rw[lu hlen];exact decide_eq_false (by omega),by
   rw[hρ];show decide (iF .add .i64 (l.length:Int) 64<0)=false;rw[lu hlen];exact decide_eq_false (by omega),trivial⟩ trivial).trans fun g1 w1 hd=>?_
  obtain⟨I,B,bT,rfl,f1,F1,bl,_⟩:=hd;rw[hρ]at F1 bl;have L9:l.length+64=(iF .add .i64 (l.length:Int) 64).toNat:=by rw[lu hlen];rfl
  refine fin (B:=B 100) f1 bl.1.1 (by rw[L9];exact bl.1.2) (by rw[L9];exact F1)
end
def rK(l:List Nd)(i:Nat):List Value:=match l[i]? with
 |some x=>tg x
 |none=>(fun(x:Nd)=>tg x) (⟨0,0,0,((9437185+i:Nat):Int)⟩:Nd)
def jq(l:List Nd)(n:Nat):List Value:=(List.range n).flatMap (rK l)
theorem xC(l:List Nd)(i:Nat):(rK l i).length=4:=by unfold rK;split<;>rfl
theorem oB(l:List Nd)(n:Nat):jq l (n+1)=jq l n++rK l n:=by unfold jq;rw[List.range_succ,List.flatMap_append];simp
theorem ug(l:List Nd):∀n,(jq l n).length=n*4
 |0=>by simp[jq]
 |n+1=>by rw[oB,ak,ug l n,xC];omega
noncomputable abbrev Sb:List Item:=pV
noncomputable abbrev IN(r:List Item):List Item:=r++[.inBlock 1,.code (gy 467),.inLoop (gy 116),.inBlock 0,.code (gy 15)]
section
variable {w0:World}{B:Nat}
theorem xD{z:Bool}{A o c':Nat}{l:List Nd}(hz:z=true->l=[])(cL:∀i n,l[i]?=some n->jF w0 A (o+i*4) n)(hlen:l.length≤4294967000)(hB:w0.heap.size≤B):
  ∀(m i:Nat) {w:World} {cs:List Frame} {fr:Frame},i+m=l.length+64->bA w0 w->(cu.vec 77 (l.length+64) (jq l i)).at Tryz.prog w B->FA 65 36 Sb [] .normal [(0,ew z A o l.length c'),(3,bU B 0 (l.length+64) (l.length+64)),(4,iV i)] fr->
  Goes (G fr cs) w fun g' w'=>∃fr',g'=G fr' cs∧(bA w0 w'∧(cu.vec 77 (l.length+64) (jq l (l.length+64))).at Tryz.prog w' B)∧cV 65 fr' w' (bU B 0 l.length (l.length+64))
 |0,i,w,cs,fr,hi,fw,hv,hf=>by
  obtain rfl:i=l.length+64:=by omega
  obtain⟨ρ,hρ⟩:∃ρ:Env,ρ=bL [(51,l.length),(52,c'),(53,o),(61,(l.length+64:Nat)),(62,(l.length+64:Nat)),(63,0),(10,(l.length+64:Nat))] [(50,A),(60,B)] []:=⟨_,rfl⟩;refine((ad7 z).go ρ hf (by rw[hρ];cases z<;>rfl) ⟨by rw[hρ];exact decide_eq_false (by show ¬(((l.length+64:Nat):Int)<(((l.length+64:Nat):Nat):Int));omega),trivial⟩ trivial).trans fun g1 w1 hd=>?_;obtain⟨I,B1,bT,rfl,f1,F1,_⟩:=hd;have fI:FA 65 36 L6 [] .normal [(32,bU B 0 (l.length+64) (l.length+64)),(34,iV l.length)] bT:=by
   rw[hρ]at F1;cases z with
   |false=>exact F1
   |true=>rw[hz rfl]at F1⊢;exact F1
  refine(Y5.go (R:=fun y w'=>y=bU B 0 l.length (l.length+64)∧w'=w1) (bL [] [] []) fI (by decide) rfl fun tm ie x' e1 e2=>?_).trans fun g2 w2 bX=>?_
  ·unfold execOp;simp only[e1,bF,av,aI];rw[ie 32 _ rfl,ie 34 (iV l.length) rfl];exact ql (z:=false) (t:=48) (elem:=77) (size:=4) (by kernel_rfl) (by kernel_rfl) (show l.length≤l.length+64 by omega) (fun h=>by cases h) (fun _=>ax _) ⟨_,rfl,rfl,rfl⟩
  obtain⟨cB,y,rfl,⟨rfl,rfl⟩,F2⟩:=bX;refine(Y6.go (bL [] [] [(7,bU B 0 l.length (l.length+64))]) F2 rfl trivial trivial).trans fun g3 w3 cn=>?_;obtain⟨I,B3,cC,rfl,f3,F3,_⟩:=cn;refine(leave1 L5 F3 rfl).mono fun g4 w4 c9=>?_;obtain⟨eg,rfl,rfl,hL⟩:=c9;exact⟨eg,rfl,⟨fw.trans (f1.trans f3),bM hv (f1.trans f3)⟩,hL⟩
 |m+1,i,w,cs,fr,hi,fw,hv,hf=>by
  have hic:i<l.length+64:=by omega
  have hP:=ug l i;have next:∀{w1 w2:World} {cB:Frame},bA w w1->bS (fun b=>b=B) w1 w2->(cu.vec 77 (l.length+64) (jq l (i+1))).at Tryz.prog w2 B->(∃t,(t=IN [.inRegion (opsOf (gy 3730)) []]∨t=IN [.inRegion (opsOf (gy 3731)) []])∧FA 65 36 t [] .normal [(0,ew z A o l.length c'),(3,bU B 0 (l.length+64) (l.length+64)),(4,iV i)] cB)->
    Goes (G cB cs) w2 fun g' w'=>∃fr',g'=G fr' cs∧(bA w0 w'∧(cu.vec 77 (l.length+64) (jq l (l.length+64))).at Tryz.prog w' B)∧cV 65 fr' w' (bU B 0 l.length (l.length+64)):=fun{w1 w2 cB} f1 kp kL ht=>by
   have mB:bA w0 w2:=cq (fw.trans f1) (kp.mono fun b hb=>by rw[hb];exact hB);obtain⟨t,ht,F2⟩:=ht;obtain⟨σ,bZ⟩:∃σ:Env,σ=bL [(51,l.length),(52,c'),(53,o),(61,(l.length+64:Nat)),(62,(l.length+64:Nat)),(63,0),(10,i)] [(50,A),(60,B)] [(0,ew z A o l.length c')]:=⟨_,rfl⟩;rcases ht with rfl|rfl
   ·refine(Y0.go σ F2 (by rw[bZ];rfl) trivial trivial).trans fun g3 w3 cn=>?_;obtain⟨I,B3,cC,rfl,f3,F3,_⟩:=cn;rw[bZ]at F3;refine xD (c':=c') hz cL hlen hB m (i+1) (by omega) (mB.trans f3) (bM kL f3) ?_;rw[<-inc (i:=i) (by omega)];exact F3
   ·refine(Qh.go σ F2 (by rw[bZ];rfl) trivial trivial).trans fun g3 w3 cn=>?_;obtain⟨I,B3,cC,rfl,f3,F3,_⟩:=cn;rw[bZ]at F3;refine xD (c':=c') hz cL hlen hB m (i+1) (by omega) (mB.trans f3) (bM kL f3) ?_;rw[<-inc (i:=i) (by omega)];exact F3
  have AF:∀{ρ:Env},ρ.i 10=(i:Int)->ρ.i 61=((l.length+64:Nat):Int)->cr ρ (fN 10 61):=fun h1 h2=>cg (i:=10) (n:=61) (I:=i) (N:=l.length+64) h1 h2 hic;by_cases hl:i<l.length
  ·cases z with
   |true=>rw[hz rfl]at hl;simp at hl
   |false=>
   obtain⟨x,hx⟩:∃x,l[i]?=some x:=⟨_,af hl⟩;have hc:=(cL i x hx).keep fw;obtain⟨ρ,hρ⟩:∃ρ:Env,ρ=bL [(51,l.length),(52,c'),(53,o),(61,(l.length+64:Nat)),(62,(l.length+64:Nat)),(63,0),(10,i),(11,x.op),(12,x.n),(13,x.kids),(14,x.bY)] [(50,A),(60,B)] []:=⟨_,rfl⟩;refine(ad4.go ρ hf (by rw[hρ];rfl) (cr.app (AF (by rw[hρ];rfl) (by rw[hρ];rfl)) (cg (i:=10) (n:=51) (I:=i) (N:=l.length) (by rw[hρ];rfl) (by rw[hρ];rfl) hl)) ⟨by rw[hρ];exact hc.c0,by rw[hρ];exact hc.c1,by rw[hρ];exact hc.c2,by rw[hρ];exact hc.c3,trivial⟩).trans fun g1 w1 hd=>?_;obtain⟨I,B1,bT,rfl,f1,F1,_⟩:=hd;have fI:FA 65 36 (IN [.inRegion (opsOf (gy 3730)) [7]]) [] .normal [(0,bU A o l.length c'),(3,bU B 0 (l.length+64) (l.length+64)),(4,iV i),(25,.pointer (some ⟨B,(jq l i).length,none⟩)),(24,.agg #[cY x.op,iV x.n,iV x.kids,iV x.bY])] bT:=by rw[hP,show i*4=0+i*4 by omega];rw[hρ]at F1;exact F1
   refine(gd (cs':=rK l i) (T:=77) (el:=77) (sz:=4) (V:=.agg #[cY x.op,iV x.n,iV x.kids,iV x.bY]) ad5 (by kernel_rfl) (by kernel_rfl) (by unfold rK;rw[hx];rfl) rfl (by unfold rK;rw[hx];intro y hy;simp only[tg,aj,az,or_false]at hy;rcases hy with rfl|rfl|rfl|rfl<;>rfl) fI rfl rfl (bM hv f1) (by rw[hP];omega)).trans fun g2 w2 bX=>?_
   obtain⟨cB,rfl,⟨kp,kL⟩,F2⟩:=bX;rw[<-oB]at kL;exact next f1 kp kL ⟨_,.inl rfl,F2.only rfl⟩
  ·have oM:l[i]?=none:=aM (by omega);obtain⟨ρ,hρ⟩:∃ρ:Env,ρ=bL [(51,l.length),(52,c'),(53,o),(61,(l.length+64:Nat)),(62,(l.length+64:Nat)),(63,0),(10,i)] [(50,A),(60,B)] []:=⟨_,rfl⟩;refine((ad6 z).go ρ hf (by rw[hρ];cases z<;>rfl) (cr.app (AF (by rw[hρ];rfl) (by rw[hρ];rfl)) ⟨by
    rw[hρ];cases z with
    |false=>exact decide_eq_false (by show ¬((i:Int)<((l.length:Nat):Int));omega)
    |true=>exact decide_eq_false (by show ¬((i:Int)<0);omega),trivial⟩) trivial).trans fun g1 w1 hd=>?_
   obtain⟨I,B1,bT,rfl,f1,F1,_⟩:=hd;have fI:FA 65 36 (IN [.inRegion (opsOf (gy 3731)) (3::4::[5,6])]) [] .normal [(0,ew z A o l.length c'),(3,bU B 0 (l.length+64) (l.length+64)),(4,iV i),(26,bU B 0 (l.length+64) (l.length+64)),(27,iV i),(28,iV i)] bT:=by rw[hρ]at F1;cases z<;>exact F1
   refine(Y2.go (bL [] [] [(28,iV i)]) (Q:=fun v w'=>v=iV (9437185+i:Nat)) fI rfl fun w' f=>lI (by omega)).trans fun g2 w2 bX=>?_;obtain⟨cB,vv,rfl,f2,rfl,F2⟩:=bX;obtain⟨τ,fz⟩:∃τ:Env,τ=bL [(61,(l.length+64:Nat)),(62,(l.length+64:Nat)),(63,0),(10,i),(12,(9437185+i:Nat)),(51,l.length),(52,c'),(53,o)] [(50,A),(60,B)] [(0,ew z A o l.length c')]:=⟨_,rfl⟩;refine(Y3.go τ F2 (by rw[fz];rfl) (AF (by rw[fz];rfl) (by rw[fz];rfl)) trivial).trans fun g3 w3 cn=>?_;obtain⟨I,B3,cC,rfl,f3,F3,_⟩:=cn;have oT:FA 65 36 (IN [.inRegion (opsOf (gy 3731)) [6]]) [] .normal [(0,ew z A o l.length c'),(3,bU B 0 (l.length+64) (l.length+64)),(4,iV i),(31,.pointer (some ⟨B,(jq l i).length,none⟩)),(30,.agg #[cY 0,iV 0,iV 0,iV ((9437185+i:Nat):Int)])] cC:=by rw[hP,show i*4=0+i*4 by omega];rw[fz]at F3;exact F3
   have f13:=f1.trans (f2.trans f3);refine(gd (cs':=rK l i) (T:=77) (el:=77) (sz:=4) (V:=.agg #[cY 0,iV 0,iV 0,iV ((9437185+i:Nat):Int)]) Y4 (by kernel_rfl) (by kernel_rfl) (by unfold rK;rw[oM];rfl) rfl (by unfold rK;rw[oM];intro y hy;simp only[tg,aj,az,or_false]at hy;rcases hy with rfl|rfl|rfl|rfl<;>rfl) oT rfl rfl (bM hv f13) (by rw[hP];omega)).trans fun g4 w4 c9=>?_
   obtain⟨eg,rfl,⟨kp,Ct⟩,F4⟩:=c9;rw[<-oB]at Ct;exact next f13 kp Ct ⟨_,.inr rfl,F4.only rfl⟩
variable {w:World}
theorem IP{s:Value}{l:List Nd}(h:cP w s l)(hlen:l.length≤4294967000):dS 65 #[s] w fun v w'=>bA w w'∧∃B,w.heap.size≤B∧v=bU B 0 l.length (l.length+64)∧(cu.vec 77 (l.length+64) (jq l (l.length+64))).at Tryz.prog w' B:=by
 obtain⟨z,A,o,c',rfl,hz,_,cL⟩:=h.hd;refine cF fun cs=>?_;have fin:∀{w1:World} {bT:Frame} {B:Nat},bA w w1->w.heap.size≤B->(cu.vec 77 (l.length+64) []).at Tryz.prog w1 B->FA 65 36 Sb [] .normal [(0,ew z A o l.length c'),(3,bU B 0 (l.length+64) (l.length+64)),(4,iV (0:Nat))] bT->Goes (G bT cs) w1 fun g' w'=>∃fr' v,g'=G fr' cs∧cV 65 fr' w' v∧bA w w'∧∃B,w.heap.size≤B∧v=bU B 0 l.length (l.length+64)∧(cu.vec 77 (l.length+64) (jq l (l.length+64))).at Tryz.prog w' B:=fun{w1 bT B} f1 hB hv F1=>by refine(xD (w0:=w) hz cL hlen hB (l.length+64) 0 (by omega) f1 hv F1).mono fun g2 w2 bX=>?_;obtain⟨cB,rfl,⟨f2,kL⟩,hL⟩:=bX;exact⟨cB,_,rfl,hL,f2,B,hB,rfl,kL⟩
 cases z with
 |true=>have L8:=hz rfl;refine(YZ.go (bL [] [] []) (cz ED rfl eS) rfl trivial trivial).trans fun g1 w1 hd=>?_;obtain⟨I,B,bT,rfl,f1,F1,bl,_⟩:=hd;refine fin f1 bl.1.1 ?_ (by rw[L8];exact F1);rw[L8];exact tf (sz:=4) bl.1.2 (by kernel_rfl) rfl
 |false=>
  obtain⟨ρ,hρ⟩:∃ρ:Env,ρ=bL [(51,l.length),(52,c'),(53,o)] [(50,A)] []:=⟨_,rfl⟩;refine(ad3.go ρ (cz ED rfl (bU A o l.length c')) (by rw[hρ];rfl) ⟨by
   rw[hρ];show decide (iF .add .i64 (l.length:Int) 64>4294967296)=false;rw[lu hlen];exact decide_eq_false (by omega),by
   rw[hρ];show decide (iF .add .i64 (l.length:Int) 64<0)=false;rw[lu hlen];exact decide_eq_false (by omega),trivial⟩ trivial).trans fun g1 w1 hd=>?_
  obtain⟨I,B,bT,rfl,f1,F1,bl,_⟩:=hd;rw[hρ]at F1 bl;have L9:l.length+64=(iF .add .i64 (l.length:Int) 64).toNat:=by rw[lu hlen];rfl
  refine fin (B:=B 100) f1 bl.1.1 (by rw[L9];exact bl.1.2) (by rw[L9];exact F1)
end
def tj(l:List (Int×Int))(i:Nat):List Value:=match l[i]? with
 |some x=>gW x
 |none=>(fun(x:(Int×Int))=>gW x) ((0,((9437185+i:Nat):Int)):Int×Int)
def j8(l:List (Int×Int))(n:Nat):List Value:=(List.range n).flatMap (tj l)
theorem xE(l:List (Int×Int))(i:Nat):(tj l i).length=2:=by unfold tj;split<;>rfl
theorem rL(l:List (Int×Int))(n:Nat):j8 l (n+1)=j8 l n++tj l n:=by unfold j8;rw[List.range_succ,List.flatMap_append];simp
theorem zG(l:List (Int×Int)):∀n,(j8 l n).length=n*2
 |0=>by simp[j8]
 |n+1=>by rw[rL,ak,zG l n,xE];omega
noncomputable abbrev Zb:List Item:=uO
noncomputable abbrev L_(r:List Item):List Item:=r++[.inBlock 1,.code (nD 467),.inLoop (nD 116),.inBlock 0,.code (nD 15)]
section
variable {w0:World}{B:Nat}
theorem xF{z:Bool}{A o c':Nat}{l:List (Int×Int)}(hz:z=true->l=[])(cL:∀i e,l[i]?=some e->w0.cell? ⟨A,o+i*2,none⟩=some (cY e.1)∧w0.cell? ⟨A,o+i*2+1,none⟩=some (iV e.2))(hlen:l.length≤4294967000)(hB:w0.heap.size≤B):
  ∀(m i:Nat) {w:World} {cs:List Frame} {fr:Frame},i+m=l.length+64->bA w0 w->(cu.vec 43 (l.length+64) (j8 l i)).at Tryz.prog w B->FA 9 36 Zb [] .normal [(0,ew z A o l.length c'),(3,bU B 0 (l.length+64) (l.length+64)),(4,iV i)] fr->
  Goes (G fr cs) w fun g' w'=>∃fr',g'=G fr' cs∧(bA w0 w'∧(cu.vec 43 (l.length+64) (j8 l (l.length+64))).at Tryz.prog w' B)∧cV 9 fr' w' (bU B 0 l.length (l.length+64))
 |0,i,w,cs,fr,hi,fw,hv,hf=>by
  obtain rfl:i=l.length+64:=by omega
  obtain⟨ρ,hρ⟩:∃ρ:Env,ρ=bL [(51,l.length),(52,c'),(53,o),(61,(l.length+64:Nat)),(62,(l.length+64:Nat)),(63,0),(10,(l.length+64:Nat))] [(50,A),(60,B)] []:=⟨_,rfl⟩;refine((aed z).go ρ hf (by rw[hρ];cases z<;>rfl) ⟨by rw[hρ];exact decide_eq_false (by show ¬(((l.length+64:Nat):Int)<(((l.length+64:Nat):Nat):Int));omega),trivial⟩ trivial).trans fun g1 w1 hd=>?_;obtain⟨I,B1,bT,rfl,f1,F1,_⟩:=hd;have fI:FA 9 36 [.inRegion (opsOf (nD 30)) [3,4],.code .ret] [] .normal [(32,bU B 0 (l.length+64) (l.length+64)),(34,iV l.length)] bT:=by
   rw[hρ]at F1;cases z with
   |false=>exact F1
   |true=>rw[hz rfl]at F1⊢;exact F1
  refine(aee.go (R:=fun y w'=>y=bU B 0 l.length (l.length+64)∧w'=w1) (bL [] [] []) fI (by decide) rfl fun tm ie x' e1 e2=>?_).trans fun g2 w2 bX=>?_
  ·unfold execOp;simp only[e1,bF,av,aI];rw[ie 32 _ rfl,ie 34 (iV l.length) rfl];exact ql (z:=false) (t:=28) (elem:=43) (size:=2) (by kernel_rfl) (by kernel_rfl) (show l.length≤l.length+64 by omega) (fun h=>by cases h) (fun _=>ax _) ⟨_,rfl,rfl,rfl⟩
  obtain⟨cB,y,rfl,⟨rfl,rfl⟩,F2⟩:=bX;refine(aef.go (bL [] [] [(7,bU B 0 l.length (l.length+64))]) F2 rfl trivial trivial).trans fun g3 w3 cn=>?_;obtain⟨I,B3,cC,rfl,f3,F3,_⟩:=cn;refine(leave1 Y7 F3 rfl).mono fun g4 w4 c9=>?_;obtain⟨eg,rfl,rfl,hL⟩:=c9;exact⟨eg,rfl,⟨fw.trans (f1.trans f3),bM hv (f1.trans f3)⟩,hL⟩
 |m+1,i,w,cs,fr,hi,fw,hv,hf=>by
  have hic:i<l.length+64:=by omega
  have hP:=zG l i;have next:∀{w1 w2:World} {cB:Frame},bA w w1->bS (fun b=>b=B) w1 w2->(cu.vec 43 (l.length+64) (j8 l (i+1))).at Tryz.prog w2 B->(∃t,(t=L_ [.inRegion (opsOf (nD 3730)) []]∨t=L_ [.inRegion (opsOf (nD 3731)) []])∧FA 9 36 t [] .normal [(0,ew z A o l.length c'),(3,bU B 0 (l.length+64) (l.length+64)),(4,iV i)] cB)->
    Goes (G cB cs) w2 fun g' w'=>∃fr',g'=G fr' cs∧(bA w0 w'∧(cu.vec 43 (l.length+64) (j8 l (l.length+64))).at Tryz.prog w' B)∧cV 9 fr' w' (bU B 0 l.length (l.length+64)):=fun{w1 w2 cB} f1 kp kL ht=>by
   have mB:bA w0 w2:=cq (fw.trans f1) (kp.mono fun b hb=>by rw[hb];exact hB);obtain⟨t,ht,F2⟩:=ht;obtain⟨σ,bZ⟩:∃σ:Env,σ=bL [(51,l.length),(52,c'),(53,o),(61,(l.length+64:Nat)),(62,(l.length+64:Nat)),(63,0),(10,i)] [(50,A),(60,B)] [(0,ew z A o l.length c')]:=⟨_,rfl⟩;rcases ht with rfl|rfl
   ·refine(Y9.go σ F2 (by rw[bZ];rfl) trivial trivial).trans fun g3 w3 cn=>?_;obtain⟨I,B3,cC,rfl,f3,F3,_⟩:=cn;rw[bZ]at F3;refine xF (c':=c') hz cL hlen hB m (i+1) (by omega) (mB.trans f3) (bM kL f3) ?_;rw[<-inc (i:=i) (by omega)];exact F3
   ·refine(Y_.go σ F2 (by rw[bZ];rfl) trivial trivial).trans fun g3 w3 cn=>?_;obtain⟨I,B3,cC,rfl,f3,F3,_⟩:=cn;rw[bZ]at F3;refine xF (c':=c') hz cL hlen hB m (i+1) (by omega) (mB.trans f3) (bM kL f3) ?_;rw[<-inc (i:=i) (by omega)];exact F3
  have AF:∀{ρ:Env},ρ.i 10=(i:Int)->ρ.i 61=((l.length+64:Nat):Int)->cr ρ (fN 10 61):=fun h1 h2=>cg (i:=10) (n:=61) (I:=i) (N:=l.length+64) h1 h2 hic;by_cases hl:i<l.length
  ·cases z with
   |true=>rw[hz rfl]at hl;simp at hl
   |false=>
   obtain⟨x,hx⟩:∃x,l[i]?=some x:=⟨_,af hl⟩;have hc:w.cell? ⟨A,o+i*2,none⟩=some (cY x.1)∧w.cell? ⟨A,o+i*2+1,none⟩=some (iV x.2):=⟨fw.cell (cL i x hx).1,fw.cell (cL i x hx).2⟩;obtain⟨ρ,hρ⟩:∃ρ:Env,ρ=bL [(51,l.length),(52,c'),(53,o),(61,(l.length+64:Nat)),(62,(l.length+64:Nat)),(63,0),(10,i),(11,x.1),(12,x.2)] [(50,A),(60,B)] []:=⟨_,rfl⟩;refine(ad9.go ρ hf (by rw[hρ];rfl) (cr.app (AF (by rw[hρ];rfl) (by rw[hρ];rfl)) (cg (i:=10) (n:=51) (I:=i) (N:=l.length) (by rw[hρ];rfl) (by rw[hρ];rfl) hl)) ⟨by rw[hρ];exact hc.1,by rw[hρ];exact hc.2,trivial⟩).trans fun g1 w1 hd=>?_;obtain⟨I,B1,bT,rfl,f1,F1,_⟩:=hd;have fI:FA 9 36 (L_ [.inRegion (opsOf (nD 3730)) [7]]) [] .normal [(0,bU A o l.length c'),(3,bU B 0 (l.length+64) (l.length+64)),(4,iV i),(25,.pointer (some ⟨B,(j8 l i).length,none⟩)),(24,dh x)] bT:=by rw[hP,show i*2=0+i*2 by omega];rw[hρ]at F1;exact F1
   refine(gd (cs':=tj l i) (T:=43) (el:=43) (sz:=2) (V:=dh x) ad_ (by kernel_rfl) (by kernel_rfl) (by unfold tj;rw[hx];rfl) rfl (by unfold tj;rw[hx];intro y hy;simp only[gW,aj,az,or_false]at hy;rcases hy with rfl|rfl<;>rfl) fI rfl rfl (bM hv f1) (by rw[hP];omega)).trans fun g2 w2 bX=>?_
   obtain⟨cB,rfl,⟨kp,kL⟩,F2⟩:=bX;rw[<-rL]at kL;exact next f1 kp kL ⟨_,.inl rfl,F2.only rfl⟩
  ·have oM:l[i]?=none:=aM (by omega);obtain⟨ρ,hρ⟩:∃ρ:Env,ρ=bL [(51,l.length),(52,c'),(53,o),(61,(l.length+64:Nat)),(62,(l.length+64:Nat)),(63,0),(10,i)] [(50,A),(60,B)] []:=⟨_,rfl⟩;refine((ad' z).go ρ hf (by rw[hρ];cases z<;>rfl) (cr.app (AF (by rw[hρ];rfl) (by rw[hρ];rfl)) ⟨by
    rw[hρ];cases z with
    |false=>exact decide_eq_false (by show ¬((i:Int)<((l.length:Nat):Int));omega)
    |true=>exact decide_eq_false (by show ¬((i:Int)<0);omega),trivial⟩) trivial).trans fun g1 w1 hd=>?_
   obtain⟨I,B1,bT,rfl,f1,F1,_⟩:=hd;have fI:FA 9 36 (L_ [.inRegion (opsOf (nD 3731)) (3::4::[5,6])]) [] .normal [(0,ew z A o l.length c'),(3,bU B 0 (l.length+64) (l.length+64)),(4,iV i),(26,bU B 0 (l.length+64) (l.length+64)),(27,iV i),(28,iV i)] bT:=by rw[hρ]at F1;cases z<;>exact F1
   refine(aea.go (bL [] [] [(28,iV i)]) (Q:=fun v w'=>v=iV (9437185+i:Nat)) fI rfl fun w' f=>lI (by omega)).trans fun g2 w2 bX=>?_;obtain⟨cB,vv,rfl,f2,rfl,F2⟩:=bX;obtain⟨τ,fz⟩:∃τ:Env,τ=bL [(61,(l.length+64:Nat)),(62,(l.length+64:Nat)),(63,0),(10,i),(12,(9437185+i:Nat)),(51,l.length),(52,c'),(53,o)] [(50,A),(60,B)] [(0,ew z A o l.length c')]:=⟨_,rfl⟩;refine(aeb.go τ F2 (by rw[fz];rfl) (AF (by rw[fz];rfl) (by rw[fz];rfl)) trivial).trans fun g3 w3 cn=>?_;obtain⟨I,B3,cC,rfl,f3,F3,_⟩:=cn;have oT:FA 9 36 (L_ [.inRegion (opsOf (nD 3731)) [6]]) [] .normal [(0,ew z A o l.length c'),(3,bU B 0 (l.length+64) (l.length+64)),(4,iV i),(31,.pointer (some ⟨B,(j8 l i).length,none⟩)),(30,dh (0,((9437185+i:Nat):Int)))] cC:=by rw[hP,show i*2=0+i*2 by omega];rw[fz]at F3;exact F3
   have f13:=f1.trans (f2.trans f3);refine(gd (cs':=tj l i) (T:=43) (el:=43) (sz:=2) (V:=dh (0,((9437185+i:Nat):Int))) aec (by kernel_rfl) (by kernel_rfl) (by unfold tj;rw[oM];rfl) rfl (by unfold tj;rw[oM];intro y hy;simp only[gW,aj,az,or_false]at hy;rcases hy with rfl|rfl<;>rfl) oT rfl rfl (bM hv f13) (by rw[hP];omega)).trans fun g4 w4 c9=>?_
   obtain⟨eg,rfl,⟨kp,Ct⟩,F4⟩:=c9;rw[<-rL]at Ct;exact next f13 kp Ct ⟨_,.inr rfl,F4.only rfl⟩
variable {w:World}
theorem IQ{s:Value}{l:List (Int×Int)}(h:dY w s l)(hlen:l.length≤4294967000):dS 9 #[s] w fun v w'=>bA w w'∧∃B,w.heap.size≤B∧v=bU B 0 l.length (l.length+64)∧(cu.vec 43 (l.length+64) (j8 l (l.length+64))).at Tryz.prog w' B:=by
 obtain⟨z,A,o,c',rfl,hz,_,cL⟩:=h.ex;refine cF fun cs=>?_;have fin:∀{w1:World} {bT:Frame} {B:Nat},bA w w1->w.heap.size≤B->(cu.vec 43 (l.length+64) []).at Tryz.prog w1 B->FA 9 36 Zb [] .normal [(0,ew z A o l.length c'),(3,bU B 0 (l.length+64) (l.length+64)),(4,iV (0:Nat))] bT->Goes (G bT cs) w1 fun g' w'=>∃fr' v,g'=G fr' cs∧cV 9 fr' w' v∧bA w w'∧∃B,w.heap.size≤B∧v=bU B 0 l.length (l.length+64)∧(cu.vec 43 (l.length+64) (j8 l (l.length+64))).at Tryz.prog w' B:=fun{w1 bT B} f1 hB hv F1=>by refine(xF (w0:=w) hz cL hlen hB (l.length+64) 0 (by omega) f1 hv F1).mono fun g2 w2 bX=>?_;obtain⟨cB,rfl,⟨f2,kL⟩,hL⟩:=bX;exact⟨cB,_,rfl,hL,f2,B,hB,rfl,kL⟩
 cases z with
 |true=>have L8:=hz rfl;refine(Y8.go (bL [] [] []) (cz Qi rfl eS) rfl trivial trivial).trans fun g1 w1 hd=>?_;obtain⟨I,B,bT,rfl,f1,F1,bl,_⟩:=hd;refine fin f1 bl.1.1 ?_ (by rw[L8];exact F1);rw[L8];exact tf (sz:=2) bl.1.2 (by kernel_rfl) rfl
 |false=>
  obtain⟨ρ,hρ⟩:∃ρ:Env,ρ=bL [(51,l.length),(52,c'),(53,o)] [(50,A)] []:=⟨_,rfl⟩;refine(ad8.go ρ (cz Qi rfl (bU A o l.length c')) (by rw[hρ];rfl) ⟨by
   rw[hρ];show decide (iF .add .i64 (l.length:Int) 64>4294967296)=false;rw[lu hlen];exact decide_eq_false (by omega),by
   rw[hρ];show decide (iF .add .i64 (l.length:Int) 64<0)=false;rw[lu hlen];exact decide_eq_false (by omega),trivial⟩ trivial).trans fun g1 w1 hd=>?_
  obtain⟨I,B,bT,rfl,f1,F1,bl,_⟩:=hd;rw[hρ]at F1 bl;have L9:l.length+64=(iF .add .i64 (l.length:Int) 64).toNat:=by rw[lu hlen];rfl
  refine fin (B:=B 100) f1 bl.1.1 (by rw[L9];exact bl.1.2) (by rw[L9];exact F1)
end
noncomputable def Sc(l:Nat):Code:=pc (bD Tryz.f33) (pd l)
theorem Sd:bP Tryz.prog 33 [.bC 0,.bC 1] .normal=.ok ⟨33,26,c8 33 [.bC 0,.bC 1],[.code (bD Tryz.f33)],[],.run,.normal⟩:=by kernel_rfl
theorem Se:dP 33 26 4:=fun st=>by kernel_rfl
noncomputable abbrev Cu:List Item:=[.code (Sc 116),.inLoop (Sc 116),.inBlock 0,.code (Sc 15)]
theorem aeg(z y:Bool):Pc 33 26 [.code (bD Tryz.f33)] ([(0,cG z 50 53 51 52),(1,cG y 60 63 61 62)]) [((.cmp .neq (dL z 51) (dL y 61)),false)] [] [] 22 [] [0,1,5] Cu [cG z 50 53 51 52,cG y 60 63 61 62,i64 (.lit 0)] []:=by cases z<;>cases y<;>exact{}
theorem aeh:Pc 33 26 Cu ([(0,sA 50 53 51 52),(1,sA 60 63 61 62),(5,i64 (v 10))]) [((.cmp .lss (v 10) (.tn (v 51))),true),((.cmp .leq (.lit 0) (v 10)),true),((.cmp .lss (v 10) (.lit 0)),false),((.cmp .geq (v 10) (.tn (v 51))),false),((.cmp .lss (v 10) (.tn (v 61))),true),((.cmp .leq (.lit 0) (v 10)),true),((.cmp .lss (v 10) (.lit 0)),false),((.cmp .geq (v 10) (.tn (v 61))),false),((.cmp .neq (v 11) (v 12)),false)] [(eC 50 53 10,i64 (v 11)),(eC 60 63 10,i64 (v 12))] [] 23 [] [0,1,5] Cu [sA 50 53 51 52,sA 60 63 61 62,i64 (.op .add .i64 (v 10) (.lit 1))] []:={}
theorem aei(z y:Bool):Pc 33 26 Cu ([(0,cG z 50 53 51 52),(1,cG y 60 63 61 62),(5,i64 (v 10))]) [((.cmp .lss (v 10) (dL z 51)),false)] [] [] 14 [] [4] [.code .ret] [TB] []:=by cases z<;>cases y<;>exact{}
noncomputable def Sf(l:Nat):Code:=pc (bD Tryz.f79) (pd l)
theorem Ma:bP Tryz.prog 79 [.bC 0,.bC 1] .normal=.ok ⟨79,26,c8 79 [.bC 0,.bC 1],[.code (bD Tryz.f79)],[],.run,.normal⟩:=by kernel_rfl
theorem Mb:dP 79 26 4:=fun st=>by kernel_rfl
noncomputable abbrev xG:List Item:=[.code (Sf 116),.inLoop (Sf 116),.inBlock 0,.code (Sf 15)]
theorem aej(z y:Bool):Pc 79 26 [.code (bD Tryz.f79)] ([(0,cG z 50 53 51 52),(1,cG y 60 63 61 62)]) [((.cmp .neq (dL z 51) (dL y 61)),false)] [] [] 22 [] [0,1,5] xG [cG z 50 53 51 52,cG y 60 63 61 62,i64 (.lit 0)] []:=by cases z<;>cases y<;>exact{}
theorem aek:Pc 79 26 xG ([(0,sA 50 53 51 52),(1,sA 60 63 61 62),(5,i64 (v 10)),(2,.bC 2),(3,.bC 3),(4,.bC 4),(6,.bC 6),(7,.bC 7),(8,.bC 8),(9,.bC 9),(10,.bC 10),(11,.bC 11),(12,.bC 12),(13,.bC 13),(14,.bC 14),(15,.bC 15),(16,.bC 16),(17,.bC 17),(18,.bC 18),(19,.bC 19),(20,.bC 20),(21,.bC 21),(22,.bC 22),(23,.bC 23),(24,.bC 24),(25,.bC 25)]) [((.cmp .lss (v 10) (.tn (v 51))),true),((.cmp .leq (.lit 0) (v 10)),true),((.cmp .lss (v 10) (.lit 0)),false),((.cmp .geq (v 10) (.tn (v 51))),false),((.cmp .lss (v 10) (.tn (v 61))),true),((.cmp .leq (.lit 0) (v 10)),true),((.cmp .lss (v 10) (.lit 0)),false),((.cmp .geq (v 10) (.tn (v 61))),false),((.cmp .eql (v 11) (v 21)),true),((.cmp .eql (v 12) (v 22)),true),((.cmp .eql (v 13) (v 23)),true),((.cmp .eql (v 14) (v 24)),true)] [(eB 50 53 10 4,i8 (v 11)),(eA 50 53 10 4 1,i64 (v 12)),(eA 50 53 10 4 2,i64 (v 13)),(eA 50 53 10 4 3,i64 (v 14)),(eB 60 63 10 4,i8 (v 21)),(eA 60 63 10 4 1,i64 (v 22)),(eA 60 63 10 4 2,i64 (v 23)),(eA 60 63 10 4 3,i64 (v 24))] [] 23 [] [0,1,5] xG [sA 50 53 51 52,sA 60 63 61 62,i64 (.op .add .i64 (v 10) (.lit 1))] []:=Pc.full (fun st=>by kernel_rfl) (by kernel_rfl) (by kernel_rfl) (by kernel_rfl) (of_decide_eq_true (by kernel_rfl))
theorem ael(z y:Bool):Pc 79 26 xG ([(0,cG z 50 53 51 52),(1,cG y 60 63 61 62),(5,i64 (v 10))]) [((.cmp .lss (v 10) (dL z 51)),false)] [] [] 14 [] [4] [.code .ret] [TB] []:=by cases z<;>cases y<;>exact{}
theorem Zc(z:Bool)(a:Option Addr)(c:Nat):Pc 79 26 [.code (bD Tryz.f79)] ([(0,cG z 50 53 51 52),(1,.raw (.slice a 0 c))]) [((.cmp .neq (dL z 51) (.lit 0)),false)] [] [] 22 [] [0,5] xG [cG z 50 53 51 52,i64 (.lit 0)] []:=by cases z<;>exact{}
theorem Zd(z:Bool):Pc 79 26 xG ([(0,cG z 50 53 51 52),(5,i64 (v 10))]) [((.cmp .lss (v 10) (dL z 51)),false)] [] [] 14 [] [4] [.code .ret] [TB] []:=by cases z<;>exact{}
noncomputable def Sg(l:Nat):Code:=pc (bD Tryz.f13) (pd l)
theorem Si:bP Tryz.prog 13 [.bC 0,.bC 1] .normal=.ok ⟨13,26,c8 13 [.bC 0,.bC 1],[.code (bD Tryz.f13)],[],.run,.normal⟩:=by kernel_rfl
theorem Sj:dP 13 26 4:=fun st=>by kernel_rfl
noncomputable abbrev Cv:List Item:=[.code (Sg 116),.inLoop (Sg 116),.inBlock 0,.code (Sg 15)]
theorem aem(z y:Bool):Pc 13 26 [.code (bD Tryz.f13)] ([(0,cG z 50 53 51 52),(1,cG y 60 63 61 62)]) [((.cmp .neq (dL z 51) (dL y 61)),false)] [] [] 22 [] [0,1,5] Cv [cG z 50 53 51 52,cG y 60 63 61 62,i64 (.lit 0)] []:=by cases z<;>cases y<;>exact{}
theorem aen:Pc 13 26 Cv ([(0,sA 50 53 51 52),(1,sA 60 63 61 62),(5,i64 (v 10)),(2,.bC 2),(3,.bC 3),(4,.bC 4),(6,.bC 6),(7,.bC 7),(8,.bC 8),(9,.bC 9),(10,.bC 10),(11,.bC 11),(12,.bC 12),(13,.bC 13),(14,.bC 14),(15,.bC 15),(16,.bC 16),(17,.bC 17),(18,.bC 18),(19,.bC 19),(20,.bC 20),(21,.bC 21),(22,.bC 22),(23,.bC 23),(24,.bC 24),(25,.bC 25)]) [((.cmp .lss (v 10) (.tn (v 51))),true),((.cmp .leq (.lit 0) (v 10)),true),((.cmp .lss (v 10) (.lit 0)),false),((.cmp .geq (v 10) (.tn (v 51))),false),((.cmp .lss (v 10) (.tn (v 61))),true),((.cmp .leq (.lit 0) (v 10)),true),((.cmp .lss (v 10) (.lit 0)),false),((.cmp .geq (v 10) (.tn (v 61))),false),((.cmp .eql (v 11) (v 21)),true),((.cmp .eql (v 12) (v 22)),true)] [(eB 50 53 10 2,i8 (v 11)),(eA 50 53 10 2 1,i64 (v 12)),(eB 60 63 10 2,i8 (v 21)),(eA 60 63 10 2 1,i64 (v 22))] [] 23 [] [0,1,5] Cv [sA 50 53 51 52,sA 60 63 61 62,i64 (.op .add .i64 (v 10) (.lit 1))] []:=Pc.full (fun st=>by kernel_rfl) (by kernel_rfl) (by kernel_rfl) (by kernel_rfl) (of_decide_eq_true (by kernel_rfl))
theorem aeo(z y:Bool):Pc 13 26 Cv ([(0,cG z 50 53 51 52),(1,cG y 60 63 61 62),(5,i64 (v 10))]) [((.cmp .lss (v 10) (dL z 51)),false)] [] [] 14 [] [4] [.code .ret] [TB] []:=by cases z<;>cases y<;>exact{}
section
variable {w w0:World}{cs:List Frame}
noncomputable abbrev Ze:List Item:=Cu
theorem Cw{z y:Bool}{A o c A' o' c':Nat}{l:List Int}(hz:z=true->l=[])(hy:y=true->l=[])(cL:∀i n,l[i]?=some n->w0.cell? ⟨A,o+i,none⟩=some (iV n))(jE:∀i n,l[i]?=some n->w0.cell? ⟨A',o'+i,none⟩=some (iV n))(hlen:l.length≤4294967000):
  ∀(k i:Nat) {w:World} {fr:Frame},i+k=l.length->bA w0 w->FA 33 26 Ze [] .normal [(0,ew z A o l.length c),(1,ew y A' o' l.length c'),(5,iV i)] fr->
  Goes (G fr cs) w fun g' w'=>∃fr',g'=G fr' cs∧bA w0 w'∧cV 33 fr' w' (.bool true)
 |0,i,w,fr,hi,fw,hf=>by
  obtain⟨ρ,hρ⟩:∃ρ:Env,ρ=bL [(51,l.length),(52,c),(53,o),(61,l.length),(62,c'),(63,o'),(10,i)] [(50,A),(60,A')] []:=⟨_,rfl⟩;refine((aei z y).go ρ hf (by rw[hρ];cases z<;>cases y<;>rfl) ⟨by
    rw[hρ];cases z with
    |false=>exact decide_eq_false (by show ¬((i:Int)<((l.length:Nat):Int));omega)
    |true=>exact decide_eq_false (by show ¬((i:Int)<0);omega),trivial⟩ trivial).trans fun g1 w1 hd=>?_
  obtain⟨I,B,bT,rfl,f1,F1,_⟩:=hd;refine(leave1 Se F1 rfl).mono fun g6 w6 dj=>?_;obtain⟨dJ,rfl,rfl,hL⟩:=dj;exact⟨dJ,rfl,fw.trans f1,hL⟩
 |k+1,i,w,fr,hi,fw,hf=>by
  have hlt:i<l.length:=by omega
  obtain⟨x,hx⟩:∃x,l[i]?=some x:=⟨_,af hlt⟩;cases z with
  |true=>rw[hz rfl]at hlt;simp at hlt
  |false=>
  cases y with
  |true=>rw[hy rfl]at hlt;simp at hlt
  |false=>
  have Hy:=hf;obtain⟨ρ,hρ⟩:∃ρ:Env,ρ=bL [(51,l.length),(52,c),(53,o),(61,l.length),(62,c'),(63,o'),(10,i),(11,x),(12,x)] [(50,A),(60,A')] []:=⟨_,rfl⟩;refine(aeh.go ρ Hy (by rw[hρ];rfl) (cr.app (cg (i:=10) (n:=51) (I:=i) (N:=l.length) (by rw[hρ];rfl) (by rw[hρ];rfl) hlt) (cr.app (cg (i:=10) (n:=61) (I:=i) (N:=l.length) (by rw[hρ];rfl) (by rw[hρ];rfl) hlt) ⟨by rw[hρ];show(!decide (x=x))=false;simp,trivial⟩)) ⟨by rw[hρ];exact fw.cell (cL i x hx),by rw[hρ];exact fw.cell (jE i x hx),trivial⟩).trans fun g1 w1 hd=>?_;obtain⟨I,B,bT,rfl,f1,F1,_⟩:=hd;rw[hρ]at F1;refine Cw (z:=false) (y:=false) (c:=c) (c':=c') (fun h=>by cases h) (fun h=>by cases h) cL jE hlen k (i+1) (by omega) (fw.trans f1) ?_;rw[<-inc (i:=i) (by omega)];exact F1
theorem EF{a b:Value}{l:List Int}(ha:kB w a l)(hb:kB w b l)(hlen:l.length≤4294967000):dS 33 #[a,b] w fun v w'=>bA w w'∧v=.bool true:=by
 obtain⟨z,A,o,c,rfl,hz,oU,cL⟩:=ha.ex;obtain⟨y,A',o',c',rfl,hy,Dl,jE⟩:=hb.ex;refine cF fun cs=>?_;obtain⟨ρ,hρ⟩:∃ρ:Env,ρ=bL [(51,l.length),(52,c),(53,o),(61,l.length),(62,c'),(63,o')] [(50,A),(60,A')] []:=⟨_,rfl⟩;have nz:(dL z 51).ev ρ=(l.length:Int):=by
  rw[hρ];cases z with
  |false=>rfl
  |true=>rw[hz rfl];rfl
 have ny:(dL y 61).ev ρ=(l.length:Int):=by
  rw[hρ];cases y with
  |false=>rfl
  |true=>rw[hy rfl];rfl
 refine((aeg z y).go ρ (dV Sd rfl (ew z A o l.length c) (ew y A' o' l.length c')) (by rw[hρ];cases z<;>cases y<;>rfl) ⟨by show(!decide ((dL z 51).ev ρ=(dL y 61).ev ρ))=false;rw[nz,ny];simp,trivial⟩ trivial).trans fun g1 w1 hd=>?_
 obtain⟨I,B,bT,rfl,f1,F1,_⟩:=hd;have fI:FA 33 26 Ze [] .normal [(0,ew z A o l.length c),(1,ew y A' o' l.length c'),(5,iV (0:Nat))] bT:=by rw[hρ]at F1;cases z<;>cases y<;>exact F1
 refine(Cw (w0:=w) hz hy cL jE hlen l.length 0 (by omega) f1 fI).mono fun g2 w2 bX=>?_;obtain⟨cB,rfl,f2,hL⟩:=bX;exact⟨cB,_,rfl,hL,f2,rfl⟩
noncomputable abbrev Sk:List Item:=xG
theorem Cx{z y:Bool}{A o c A' o' c':Nat}{l:List Nd}(hz:z=true->l=[])(hy:y=true->l=[])(cL:∀i n,l[i]?=some n->jF w0 A (o+i*4) n)(jE:∀i n,l[i]?=some n->jF w0 A' (o'+i*4) n)(hlen:l.length≤4294967000):
  ∀(k i:Nat) {w:World} {fr:Frame},i+k=l.length->bA w0 w->FA 79 26 Sk [] .normal [(0,ew z A o l.length c),(1,ew y A' o' l.length c'),(5,iV i)] fr->
  Goes (G fr cs) w fun g' w'=>∃fr',g'=G fr' cs∧bA w0 w'∧cV 79 fr' w' (.bool true)
 |0,i,w,fr,hi,fw,hf=>by
  obtain⟨ρ,hρ⟩:∃ρ:Env,ρ=bL [(51,l.length),(52,c),(53,o),(61,l.length),(62,c'),(63,o'),(10,i)] [(50,A),(60,A')] []:=⟨_,rfl⟩;refine((ael z y).go ρ hf (by rw[hρ];cases z<;>cases y<;>rfl) ⟨by
    rw[hρ];cases z with
    |false=>exact decide_eq_false (by show ¬((i:Int)<((l.length:Nat):Int));omega)
    |true=>exact decide_eq_false (by show ¬((i:Int)<0);omega),trivial⟩ trivial).trans fun g1 w1 hd=>?_
  obtain⟨I,B,bT,rfl,f1,F1,_⟩:=hd;refine(leave1 Mb F1 rfl).mono fun g6 w6 dj=>?_;obtain⟨dJ,rfl,rfl,hL⟩:=dj;exact⟨dJ,rfl,fw.trans f1,hL⟩
 |k+1,i,w,fr,hi,fw,hf=>by
  have hlt:i<l.length:=by omega
  obtain⟨x,hx⟩:∃x,l[i]?=some x:=⟨_,af hlt⟩;cases z with
  |true=>rw[hz rfl]at hlt;simp at hlt
  |false=>
  cases y with
  |true=>rw[hy rfl]at hlt;simp at hlt
  |false=>
  obtain⟨f,Cr⟩:=hf.more;have Hy:=Cr ((List.range 26).filter fun i=>!([0,1,5].contains i));obtain⟨ρ,hρ⟩:∃ρ:Env,ρ={(bL [(51,l.length),(52,c),(53,o),(61,l.length),(62,c'),(63,o'),(10,i),(11,x.op),(12,x.n),(13,x.kids),(14,x.bY),(21,x.op),(22,x.n),(23,x.kids),(24,x.bY)] [(50,A),(60,A')] []:Env)with v:=f}:=⟨_,rfl⟩;refine(aek.go ρ Hy (by rw[hρ];unfold fT;kernel_rfl) (cr.app (cg (i:=10) (n:=51) (I:=i) (N:=l.length) (by rw[hρ];rfl) (by rw[hρ];rfl) hlt) (cr.app (cg (i:=10) (n:=61) (I:=i) (N:=l.length) (by rw[hρ];rfl) (by rw[hρ];rfl) hlt) ⟨by rw[hρ];exact decide_eq_true rfl,by rw[hρ];exact decide_eq_true rfl,by rw[hρ];exact decide_eq_true rfl,by rw[hρ];exact decide_eq_true rfl,trivial⟩)) ⟨by rw[hρ];exact fw.cell (cL i x hx).c0,by rw[hρ];exact fw.cell (cL i x hx).c1,by rw[hρ];exact fw.cell (cL i x hx).c2,by rw[hρ];exact fw.cell (cL i x hx).c3,by rw[hρ];exact fw.cell (jE i x hx).c0,by rw[hρ];exact fw.cell (jE i x hx).c1,by rw[hρ];exact fw.cell (jE i x hx).c2,by rw[hρ];exact fw.cell (jE i x hx).c3,trivial⟩).trans fun g1 w1 hd=>?_;obtain⟨I,B,bT,rfl,f1,F1,_⟩:=hd;rw[hρ]at F1;refine Cx (z:=false) (y:=false) (c:=c) (c':=c') (fun h=>by cases h) (fun h=>by cases h) cL jE hlen k (i+1) (by omega) (fw.trans f1) ?_;rw[<-inc (i:=i) (by omega)];exact F1
theorem Cy{a b:Value}{l:List Nd}(ha:cP w a l)(hb:cP w b l)(hlen:l.length≤4294967000):dS 79 #[a,b] w fun v w'=>bA w w'∧v=.bool true:=by
 obtain⟨z,A,o,c,rfl,hz,oU,cL⟩:=ha.hd;obtain⟨y,A',o',c',rfl,hy,Dl,jE⟩:=hb.hd;refine cF fun cs=>?_;obtain⟨ρ,hρ⟩:∃ρ:Env,ρ=bL [(51,l.length),(52,c),(53,o),(61,l.length),(62,c'),(63,o')] [(50,A),(60,A')] []:=⟨_,rfl⟩;have nz:(dL z 51).ev ρ=(l.length:Int):=by
  rw[hρ];cases z with
  |false=>rfl
  |true=>rw[hz rfl];rfl
 have ny:(dL y 61).ev ρ=(l.length:Int):=by
  rw[hρ];cases y with
  |false=>rfl
  |true=>rw[hy rfl];rfl
 refine((aej z y).go ρ (dV Ma rfl (ew z A o l.length c) (ew y A' o' l.length c')) (by rw[hρ];cases z<;>cases y<;>rfl) ⟨by show(!decide ((dL z 51).ev ρ=(dL y 61).ev ρ))=false;rw[nz,ny];simp,trivial⟩ trivial).trans fun g1 w1 hd=>?_
 obtain⟨I,B,bT,rfl,f1,F1,_⟩:=hd;have fI:FA 79 26 Sk [] .normal [(0,ew z A o l.length c),(1,ew y A' o' l.length c'),(5,iV (0:Nat))] bT:=by rw[hρ]at F1;cases z<;>cases y<;>exact F1
 refine(Cx (w0:=w) hz hy cL jE hlen l.length 0 (by omega) f1 fI).mono fun g2 w2 bX=>?_;obtain⟨cB,rfl,f2,hL⟩:=bX;exact⟨cB,_,rfl,hL,f2,rfl⟩
noncomputable abbrev Zf:List Item:=Cv
theorem Cz{z y:Bool}{A o c A' o' c':Nat}{l:List (Int×Int)}(hz:z=true->l=[])(hy:y=true->l=[])(cL:∀i e,l[i]?=some e->w0.cell? ⟨A,o+i*2,none⟩=some (cY e.1)∧w0.cell? ⟨A,o+i*2+1,none⟩=some (iV e.2))(jE:∀i e,l[i]?=some e->w0.cell? ⟨A',o'+i*2,none⟩=some (cY e.1)∧w0.cell? ⟨A',o'+i*2+1,none⟩=some (iV e.2))(hlen:l.length≤4294967000):
  ∀(k i:Nat) {w:World} {fr:Frame},i+k=l.length->bA w0 w->FA 13 26 Zf [] .normal [(0,ew z A o l.length c),(1,ew y A' o' l.length c'),(5,iV i)] fr->
  Goes (G fr cs) w fun g' w'=>∃fr',g'=G fr' cs∧bA w0 w'∧cV 13 fr' w' (.bool true)
 |0,i,w,fr,hi,fw,hf=>by
  obtain⟨ρ,hρ⟩:∃ρ:Env,ρ=bL [(51,l.length),(52,c),(53,o),(61,l.length),(62,c'),(63,o'),(10,i)] [(50,A),(60,A')] []:=⟨_,rfl⟩;refine((aeo z y).go ρ hf (by rw[hρ];cases z<;>cases y<;>rfl) ⟨by
    rw[hρ];cases z with
    |false=>exact decide_eq_false (by show ¬((i:Int)<((l.length:Nat):Int));omega)
    |true=>exact decide_eq_false (by show ¬((i:Int)<0);omega),trivial⟩ trivial).trans fun g1 w1 hd=>?_
  obtain⟨I,B,bT,rfl,f1,F1,_⟩:=hd;refine(leave1 Sj F1 rfl).mono fun g6 w6 dj=>?_;obtain⟨dJ,rfl,rfl,hL⟩:=dj;exact⟨dJ,rfl,fw.trans f1,hL⟩
 |k+1,i,w,fr,hi,fw,hf=>by
  have hlt:i<l.length:=by omega
  obtain⟨x,hx⟩:∃x,l[i]?=some x:=⟨_,af hlt⟩;cases z with
  |true=>rw[hz rfl]at hlt;simp at hlt
  |false=>
  cases y with
  |true=>rw[hy rfl]at hlt;simp at hlt
  |false=>
  obtain⟨f,Cr⟩:=hf.more;have Hy:=Cr ((List.range 26).filter fun i=>!([0,1,5].contains i));obtain⟨ρ,hρ⟩:∃ρ:Env,ρ={(bL [(51,l.length),(52,c),(53,o),(61,l.length),(62,c'),(63,o'),(10,i),(11,x.1),(12,x.2),(21,x.1),(22,x.2)] [(50,A),(60,A')] []:Env)with v:=f}:=⟨_,rfl⟩;refine(aen.go ρ Hy (by rw[hρ];unfold fT;kernel_rfl) (cr.app (cg (i:=10) (n:=51) (I:=i) (N:=l.length) (by rw[hρ];rfl) (by rw[hρ];rfl) hlt) (cr.app (cg (i:=10) (n:=61) (I:=i) (N:=l.length) (by rw[hρ];rfl) (by rw[hρ];rfl) hlt) ⟨by rw[hρ];exact decide_eq_true rfl,by rw[hρ];exact decide_eq_true rfl,trivial⟩)) ⟨by rw[hρ];exact fw.cell (cL i x hx).1,by rw[hρ];exact fw.cell (cL i x hx).2,by rw[hρ];exact fw.cell (jE i x hx).1,by rw[hρ];exact fw.cell (jE i x hx).2,trivial⟩).trans fun g1 w1 hd=>?_;obtain⟨I,B,bT,rfl,f1,F1,_⟩:=hd;rw[hρ]at F1;refine Cz (z:=false) (y:=false) (c:=c) (c':=c') (fun h=>by cases h) (fun h=>by cases h) cL jE hlen k (i+1) (by omega) (fw.trans f1) ?_;rw[<-inc (i:=i) (by omega)];exact F1
theorem EG{a b:Value}{l:List (Int×Int)}(ha:dY w a l)(hb:dY w b l)(hlen:l.length≤4294967000):dS 13 #[a,b] w fun v w'=>bA w w'∧v=.bool true:=by
 obtain⟨z,A,o,c,rfl,hz,oU,cL⟩:=ha.ex;obtain⟨y,A',o',c',rfl,hy,Dl,jE⟩:=hb.ex;refine cF fun cs=>?_;obtain⟨ρ,hρ⟩:∃ρ:Env,ρ=bL [(51,l.length),(52,c),(53,o),(61,l.length),(62,c'),(63,o')] [(50,A),(60,A')] []:=⟨_,rfl⟩;have nz:(dL z 51).ev ρ=(l.length:Int):=by
  rw[hρ];cases z with
  |false=>rfl
  |true=>rw[hz rfl];rfl
 have ny:(dL y 61).ev ρ=(l.length:Int):=by
  rw[hρ];cases y with
  |false=>rfl
  |true=>rw[hy rfl];rfl
 refine((aem z y).go ρ (dV Si rfl (ew z A o l.length c) (ew y A' o' l.length c')) (by rw[hρ];cases z<;>cases y<;>rfl) ⟨by show(!decide ((dL z 51).ev ρ=(dL y 61).ev ρ))=false;rw[nz,ny];simp,trivial⟩ trivial).trans fun g1 w1 hd=>?_
 obtain⟨I,B,bT,rfl,f1,F1,_⟩:=hd;have fI:FA 13 26 Zf [] .normal [(0,ew z A o l.length c),(1,ew y A' o' l.length c'),(5,iV (0:Nat))] bT:=by rw[hρ]at F1;cases z<;>cases y<;>exact F1
 refine(Cz (w0:=w) hz hy cL jE hlen l.length 0 (by omega) f1 fI).mono fun g2 w2 bX=>?_;obtain⟨cB,rfl,f2,hL⟩:=bX;exact⟨cB,_,rfl,hL,f2,rfl⟩
end
theorem Zg(a:Option Addr)(c:Nat):Pc 65 36 [.code (bD Tryz.f65)] ([(0,.raw (.slice a 0 c))]) [] [] [] 19 [100] [0,3,4] pV [.raw (.slice a 0 c),.slice (some (eD 100 0)) (.lit 64) (.lit 64),i64 (.lit 0)] [(100,.cells [i8 (.lit 0),i64 (.lit 0),i64 (.lit 0),i64 (.lit 0),i8 (.lit 0),i64 (.lit 0),i64 (.lit 0),i64 (.lit 0),i8 (.lit 0),i64 (.lit 0),i64 (.lit 0),i64 (.lit 0),i8 (.lit 0),i64 (.lit 0),i64 (.lit 0),i64 (.lit 0),i8 (.lit 0),i64 (.lit 0),i64 (.lit 0),i64 (.lit 0),i8 (.lit 0),i64 (.lit 0),i64 (.lit 0),i64 (.lit 0),i8 (.lit 0),i64 (.lit 0),i64 (.lit 0),i64 (.lit 0),i8 (.lit 0),i64 (.lit 0),i64 (.lit 0),i64 (.lit 0),i8 (.lit 0),i64 (.lit 0),i64 (.lit 0),i64 (.lit 0),i8 (.lit 0),i64 (.lit 0),i64 (.lit 0),i64 (.lit 0),i8 (.lit 0),i64 (.lit 0),i64 (.lit 0),i64 (.lit 0),i8 (.lit 0),i64 (.lit 0),i64 (.lit 0),i64 (.lit 0),i8 (.lit 0),i64 (.lit 0),i64 (.lit 0),i64 (.lit 0),i8 (.lit 0),i64 (.lit 0),i64 (.lit 0),i64 (.lit 0),i8 (.lit 0),i64 (.lit 0),i64 (.lit 0),i64 (.lit 0),i8 (.lit 0),i64 (.lit 0),i64 (.lit 0),i64 (.lit 0),i8 (.lit 0),i64 (.lit 0),i64 (.lit 0),i64 (.lit 0),i8 (.lit 0),i64 (.lit 0),i64 (.lit 0),i64 (.lit 0),i8 (.lit 0),i64 (.lit 0),i64 (.lit 0),i64 (.lit 0),i8 (.lit 0),i64 (.lit 0),i64 (.lit 0),i64 (.lit 0),i8 (.lit 0),i64 (.lit 0),i64 (.lit 0),i64 (.lit 0),i8 (.lit 0),i64 (.lit 0),i64 (.lit 0),i64 (.lit 0),i8 (.lit 0),i64 (.lit 0),i64 (.lit 0),i64 (.lit 0),i8 (.lit 0),i64 (.lit 0),i64 (.lit 0),i64 (.lit 0),i8 (.lit 0),i64 (.lit 0),i64 (.lit 0),i64 (.lit 0),i8 (.lit 0),i64 (.lit 0),i64 (.lit 0),i64 (.lit 0),i8 (.lit 0),i64 (.lit 0),i64 (.lit 0),i64 (.lit 0),i8 (.lit 0),i64 (.lit 0),i64 (.lit 0),i64 (.lit 0),i8 (.lit 0),i64 (.lit 0),i64 (.lit 0),i64 (.lit 0),i8 (.lit 0),i64 (.lit 0),i64 (.lit 0),i64 (.lit 0),i8 (.lit 0),i64 (.lit 0),i64 (.lit 0),i64 (.lit 0),i8 (.lit 0),i64 (.lit 0),i64 (.lit 0),i64 (.lit 0),i8 (.lit 0),i64 (.lit 0),i64 (.lit 0),i64 (.lit 0),i8 (.lit 0),i64 (.lit 0),i64 (.lit 0),i64 (.lit 0),i8 (.lit 0),i64 (.lit 0),i64 (.lit 0),i64 (.lit 0),i8 (.lit 0),i64 (.lit 0),i64 (.lit 0),i64 (.lit 0),i8 (.lit 0),i64 (.lit 0),i64 (.lit 0),i64 (.lit 0),i8 (.lit 0),i64 (.lit 0),i64 (.lit 0),i64 (.lit 0),i8 (.lit 0),i64 (.lit 0),i64 (.lit 0),i64 (.lit 0),i8 (.lit 0),i64 (.lit 0),i64 (.lit 0),i64 (.lit 0),i8 (.lit 0),i64 (.lit 0),i64 (.lit 0),i64 (.lit 0),i8 (.lit 0),i64 (.lit 0),i64 (.lit 0),i64 (.lit 0),i8 (.lit 0),i64 (.lit 0),i64 (.lit 0),i64 (.lit 0),i8 (.lit 0),i64 (.lit 0),i64 (.lit 0),i64 (.lit 0),i8 (.lit 0),i64 (.lit 0),i64 (.lit 0),i64 (.lit 0),i8 (.lit 0),i64 (.lit 0),i64 (.lit 0),i64 (.lit 0),i8 (.lit 0),i64 (.lit 0),i64 (.lit 0),i64 (.lit 0),i8 (.lit 0),i64 (.lit 0),i64 (.lit 0),i64 (.lit 0),i8 (.lit 0),i64 (.lit 0),i64 (.lit 0),i64 (.lit 0),i8 (.lit 0),i64 (.lit 0),i64 (.lit 0),i64 (.lit 0),i8 (.lit 0),i64 (.lit 0),i64 (.lit 0),i64 (.lit 0),i8 (.lit 0),i64 (.lit 0),i64 (.lit 0),i64 (.lit 0),i8 (.lit 0),i64 (.lit 0),i64 (.lit 0),i64 (.lit 0),i8 (.lit 0),i64 (.lit 0),i64 (.lit 0),i64 (.lit 0),i8 (.lit 0),i64 (.lit 0),i64 (.lit 0),i64 (.lit 0),i8 (.lit 0),i64 (.lit 0),i64 (.lit 0),i64 (.lit 0),i8 (.lit 0),i64 (.lit 0),i64 (.lit 0),i64 (.lit 0),i8 (.lit 0),i64 (.lit 0),i64 (.lit 0),i64 (.lit 0),i8 (.lit 0),i64 (.lit 0),i64 (.lit 0),i64 (.lit 0),i8 (.lit 0),i64 (.lit 0),i64 (.lit 0),i64 (.lit 0),i8 (.lit 0),i64 (.lit 0),i64 (.lit 0),i64 (.lit 0),i8 (.lit 0),i64 (.lit 0),i64 (.lit 0),i64 (.lit 0),i8 (.lit 0),i64 (.lit 0),i64 (.lit 0),i64 (.lit 0),i8 (.lit 0),i64 (.lit 0),i64 (.lit 0),i64 (.lit 0)] 77)]:={}
theorem Zh(a:Option Addr)(c:Nat):Pc 65 36 pV ([(0,.raw (.slice a 0 c)),(3,sA 60 63 61 62),(4,i64 (v 10))]) (fN 10 61++[((.cmp .lss (v 10) (.lit 0)),false)]) [] [] 24 [] [0,3,4,26,27,28] Y1 [.raw (.slice a 0 c),sA 60 63 61 62,i64 (v 10),sA 60 63 61 62,i64 (v 10),i64 (v 10)] []:={}
theorem Zi(a:Option Addr)(c:Nat):Pc 65 36 pV ([(0,.raw (.slice a 0 c)),(3,sA 60 63 61 62),(4,i64 (v 10))]) tc [] [] 15 [] [32,34] L6 [sA 60 63 61 62,i64 (.lit 0)] []:={}
section
variable {w0:World}{B:Nat}
theorem zH{a:Option Addr}{c':Nat}(hB:w0.heap.size≤B):
  ∀(m i:Nat) {w:World} {cs:List Frame} {fr:Frame},i+m=64->bA w0 w->(cu.vec 77 64 (jq [] i)).at Tryz.prog w B->FA 65 36 Sb [] .normal [(0,.slice a 0 c'),(3,bU B 0 64 64),(4,iV i)] fr->
  Goes (G fr cs) w fun g' w'=>∃fr',g'=G fr' cs∧(bA w0 w'∧(cu.vec 77 64 (jq [] 64)).at Tryz.prog w' B)∧cV 65 fr' w' (bU B 0 0 64)
 |0,i,w,cs,fr,hi,fw,hv,hf=>by
  obtain rfl:i=64:=by omega
  obtain⟨ρ,hρ⟩:∃ρ:Env,ρ=bL [(61,64),(62,64),(63,0),(10,64)] [(60,B)] []:=⟨_,rfl⟩;refine((Zi a c').go ρ hf (by rw[hρ];rfl) ⟨by rw[hρ];exact decide_eq_false (by show ¬((64:Int)<64);omega),trivial⟩ trivial).trans fun g1 w1 hd=>?_;obtain⟨I,B1,bT,rfl,f1,F1,_⟩:=hd;rw[hρ]at F1;refine(Y5.go (R:=fun y w'=>y=bU B 0 0 64∧w'=w1) (bL [] [] []) F1 (by decide) rfl fun tm ie x' e1 e2=>?_).trans fun g2 w2 bX=>?_
  ·unfold execOp;simp only[e1,bF,av,aI];rw[ie 32 _ rfl,ie 34 (iV (0:Nat)) rfl];exact ql (z:=false) (t:=48) (elem:=77) (size:=4) (A:=B) (off:=0) (n:=64) (c:=64) (k:=0) (by kernel_rfl) (by kernel_rfl) (by omega) (fun h=>by cases h) (fun _=>ax _) ⟨_,rfl,rfl,rfl⟩
  obtain⟨cB,y,rfl,⟨rfl,rfl⟩,F2⟩:=bX;refine(Y6.go (bL [] [] [(7,bU B 0 0 64)]) F2 rfl trivial trivial).trans fun g3 w3 cn=>?_;obtain⟨I,B3,cC,rfl,f3,F3,_⟩:=cn;refine(leave1 L5 F3 rfl).mono fun g4 w4 c9=>?_;obtain⟨eg,rfl,rfl,hL⟩:=c9;exact⟨eg,rfl,⟨fw.trans (f1.trans f3),bM hv (f1.trans f3)⟩,hL⟩
 |m+1,i,w,cs,fr,hi,fw,hv,hf=>by
  have hic:i<64:=by omega
  have hP:=ug [] i;have AF:∀{ρ:Env},ρ.i 10=(i:Int)->ρ.i 61=((64:Nat):Int)->cr ρ (fN 10 61):=fun h1 h2=>cg (i:=10) (n:=61) (I:=i) (N:=64) h1 h2 hic;obtain⟨ρ,hρ⟩:∃ρ:Env,ρ=bL [(61,64),(62,64),(63,0),(10,i)] [(60,B)] []:=⟨_,rfl⟩;refine((Zh a c').go ρ hf (by rw[hρ];rfl) (cr.app (AF (by rw[hρ];rfl) (by rw[hρ];rfl)) ⟨by rw[hρ];exact decide_eq_false (by show ¬((i:Int)<0);omega),trivial⟩) trivial).trans fun g1 w1 hd=>?_
  obtain⟨I,B1,bT,rfl,f1,F1,_⟩:=hd;rw[hρ]at F1;refine(Y2.go (bL [] [] [(28,iV i)]) (Q:=fun v w'=>v=iV (9437185+i:Nat)) F1 rfl fun w' f=>lI (by omega)).trans fun g2 w2 bX=>?_;obtain⟨cB,vv,rfl,f2,rfl,F2⟩:=bX;obtain⟨τ,fz⟩:∃τ:Env,τ=bL [(61,64),(62,64),(63,0),(10,i),(12,(9437185+i:Nat))] [(60,B)] [(0,.slice a 0 c')]:=⟨_,rfl⟩;refine(Y3.go τ F2 (by rw[fz];rfl) (AF (by rw[fz];rfl) (by rw[fz];rfl)) trivial).trans fun g3 w3 cn=>?_;obtain⟨I,B3,cC,rfl,f3,F3,_⟩:=cn;have oT:FA 65 36 (IN [.inRegion (opsOf (gy 3731)) [6]]) [] .normal [(0,.slice a 0 c'),(3,bU B 0 64 64),(4,iV i),(31,.pointer (some ⟨B,(jq [] i).length,none⟩)),(30,.agg #[cY 0,iV 0,iV 0,iV ((9437185+i:Nat):Int)])] cC:=by rw[hP,show i*4=0+i*4 by omega];rw[fz]at F3;exact F3
  have f13:=f1.trans (f2.trans f3);refine(gd (cs':=rK [] i) (T:=77) (el:=77) (sz:=4) (V:=.agg #[cY 0,iV 0,iV 0,iV ((9437185+i:Nat):Int)]) Y4 (by kernel_rfl) (by kernel_rfl) rfl rfl (by intro y hy;have hy:y∈[cY 0,iV 0,iV 0,iV ((9437185+i:Nat):Int)]:=hy;simp only[aj,az,or_false]at hy;rcases hy with rfl|rfl|rfl|rfl<;>rfl) oT rfl rfl (bM hv f13) (by rw[hP];omega)).trans fun g4 w4 c9=>?_
  obtain⟨eg,rfl,⟨kp,Ct⟩,F4⟩:=c9;rw[<-oB]at Ct;have oO:bA w0 w4:=cq (fw.trans f13) (kp.mono fun b hb=>by rw[hb];exact hB);refine(Qh.go (bL [(61,64),(62,64),(63,0),(10,i)] [(60,B)] [(0,.slice a 0 c')]) F4 rfl trivial trivial).trans fun g5 w5 d_=>?_;obtain⟨I,B5,gh,rfl,f5,F5,_⟩:=d_;refine zH (a:=a) (c':=c') hB m (i+1) (by omega) (oO.trans f5) (bM Ct f5) ?_;rw[<-inc (i:=i) (by omega)];exact F5
variable {w:World}
theorem Mc{s:Value}{l:List Nd}(h:ig w s l)(hlen:l.length≤4294967000):dS 65 #[s] w fun v w'=>bA w w'∧∃B,w.heap.size≤B∧v=bU B 0 l.length (l.length+64)∧(cu.vec 77 (l.length+64) (jq l (l.length+64))).at Tryz.prog w' B:=by
 rcases h.ex with h|⟨rfl,a,c,rfl⟩
 ·exact IP h hlen
 ·refine cF fun cs=>?_;refine((Zg a c).go (bL [] [] []) (cz ED rfl (.slice a 0 c)) rfl trivial trivial).trans fun g1 w1 hd=>?_;obtain⟨I,B,bT,rfl,f1,F1,bl,_⟩:=hd;refine(zH (w0:=w) bl.1.1 64 0 (by omega) f1 (tf (sz:=4) bl.1.2 (by kernel_rfl) rfl) F1).mono fun g2 w2 bX=>?_;obtain⟨cB,rfl,⟨f2,kL⟩,hL⟩:=bX;exact⟨cB,_,rfl,hL,f2,_,bl.1.1,rfl,kL⟩
theorem EH{a b:Value}{l:List Nd}(ha:cP w a l)(hb:ig w b l)(hlen:l.length≤4294967000):dS 79 #[a,b] w fun v w'=>bA w w'∧v=.bool true:=by
 rcases hb.ex with hb|⟨rfl,ad,c',rfl⟩
 ·exact Cy ha hb hlen
 ·obtain⟨z,A,o,c,rfl,hz,oU,cL⟩:=ha.hd;refine cF fun cs=>?_;obtain⟨ρ,hρ⟩:∃ρ:Env,ρ=bL [(51,0),(52,c),(53,o)] [(50,A)] []:=⟨_,rfl⟩;refine((Zc z ad c').go ρ (dV Ma rfl (ew z A o 0 c) (.slice ad 0 c')) (by rw[hρ];cases z<;>rfl) ⟨by
   rw[hρ];cases z<;>rfl,trivial⟩ trivial).trans fun g1 w1 hd=>?_
  obtain⟨I,B,bT,rfl,f1,F1,_⟩:=hd;have fI:FA 79 26 Sk [] .normal [(0,ew z A o 0 c),(5,iV (0:Nat))] bT:=by rw[hρ]at F1;cases z<;>exact F1
  obtain⟨σ,bZ⟩:∃σ:Env,σ=bL [(51,0),(52,c),(53,o),(10,0)] [(50,A)] []:=⟨_,rfl⟩;refine((Zd z).go σ fI (by rw[bZ];cases z<;>rfl) ⟨by rw[bZ];cases z<;>rfl,trivial⟩ trivial).trans fun g2 w2 bX=>?_;obtain⟨I,B2,cB,rfl,f2,F2,_⟩:=bX;refine(leave1 Mb F2 rfl).mono fun g6 w6 dj=>?_;obtain⟨dJ,rfl,rfl,hL⟩:=dj;exact⟨dJ,_,rfl,hL,f1.trans f2,rfl⟩
end
noncomputable def EI(l:Nat):Code:=pc (bD Tryz.f43) (pd l)
theorem Sl:bP Tryz.prog 43 [.bC 0] .normal=.ok ⟨43,8,c8 43 [.bC 0],[.code (bD Tryz.f43)],[],.run,.normal⟩:=by kernel_rfl
theorem aep:Pc 43 8 [.code (bD Tryz.f43)] ([(0,.agg [ss 1,.bC 7,i64 (v 4)])]) [] [] [] 9 [101,100] [1,2,4] [.inRegion (opsOf (EI 6)) [2,3,4],.code (EI 7)] [bz 100,bz 101,.bC 7] [(101,.cells [.str ⟨#[]⟩,cj,i64 (.lit 0)] 50),(100,.cells [ss 1,.bC 7,i64 (v 4)] 50)]:={}
theorem aeq:di 8 (opsOf (EI 6)) 2 [(4,.bC 4)] 65 [.bC 4] 5:={}
theorem aer:Pc 43 8 [.inRegion (opsOf (EI 6)) [3,4],.code (EI 7)] ([(1,bz 66),(2,bz 67),(5,sA 80 83 81 82)]) [] [] [(66,.cells [ss 1,.bC 7,i64 (v 4)] 50),(67,.cells [.str ⟨#[]⟩,cj,i64 (.lit 0)] 50)] 8 [66,67] [2] [.code .ret] [bz 67] [(66,.cells [ss 1,sA 80 83 81 82,i64 (v 4)] 50),(67,.cells [ss 1,sA 80 83 81 82,i64 (v 4)] 50)]:={}
def jf(w:World)(base:Nat)(ts:Value)(l:List Nd):Prop:=∃B,base≤B∧ts=bU B 0 l.length (l.length+64)∧(cu.vec 77 (l.length+64) (jq l (l.length+64))).at Tryz.prog w B
theorem jf.eH{w w':World}{base base':Nat}{own:Nat->Prop}{ts:Value}{l:List Nd}(h:jf w base ts l)(f:bS own w w')(hb:base'≤base)(ho:∀q,base≤q->q<w.heap.size->¬own q):jf w' base' ts l:=by obtain⟨B,h1,h2,h3⟩:=h;exact⟨B,aA hb h1,h2,cu.qh h3 f (ho B h1 (cu.jW h3))⟩
theorem jf.keep{w w':World}{base:Nat}{ts:Value}{l:List Nd}(h:jf w base ts l)(f:bA w w'):jf w' base ts l:=h.eH f (ax _) fun q _ hq ho=>by have:w.heap.size≤q:=ho;omega
section
variable {w:World}
theorem CA{x:cH}{ts:Value}(h:ig w ts x.tree)(hn:x.tree.length≤4294967000):dS 43 #[fy x ts] w fun v w'=>bA w w'∧∃ts',v=fy x ts'∧jf w' w.heap.size ts' x.tree:=by
 refine cF fun cs=>?_;refine(aep.go (Go.Proofs.YtmobbajggkjpgaaGreat.SX.jn [(4,x.bY)] [] [(7,ts)] [(1,x.name)]) (cz Sl rfl (fy x ts)) rfl trivial trivial).trans fun g1 w1 hd=>?_;obtain⟨I,B,bT,rfl,f1,F1,bl,inj⟩:=hd;obtain⟨X,eX⟩:∃X,B 100=X:=⟨_,rfl⟩;obtain⟨R,eR⟩:∃R,B 101=R:=⟨_,rfl⟩;have gR:w.heap.size≤R:=by rw[<-eR];exact bl.1.1
 have gX:w.heap.size≤X:=by rw[<-eX];exact bl.2.1.1
 have hR:(cu.obj 50 [.string ⟨#[]⟩,eS,iV 0]).at Tryz.prog w1 R:=by rw[<-eR];exact bl.1.2
 have hX:(cu.obj 50 [.string x.name,ts,iV x.bY]).at Tryz.prog w1 X:=by rw[<-eX];exact bl.2.1.2
 have hXR:X≠R:=fun e=>by have:=inj _ (aa _ (ah.2 rfl)) _ (ai ..) (by show B 100=B 101;rw[eX,eR];exact e);cases this
 have fI:FA 43 8 (.inRegion (opsOf (EI 6)) [2,3,4]::[.code (EI 7)]) [] .normal [(1,bI X),(2,bI R),(4,ts)] bT:=by rw[<-eX,<-eR];exact F1
 refine(aeq.go (bL [] [] [(4,ts)]) (Q:=fun v w'=>∃wk,bA w1 wk∧jf w' wk.heap.size v x.tree) fI rfl fun w' f2=>(Mc (h.keep (f1.trans f2)) hn).mono fun v w2 hd=>⟨hd.1,w',f2,hd.2⟩).trans fun g2 w2 bX=>?_;obtain⟨cB,v,rfl,f2,⟨wk,fk,hv⟩,F2⟩:=bX;have hv0:=hv;obtain⟨B0,P4,rfl,aqR⟩:=hv;obtain⟨ρ,hρ⟩:∃ρ:Env,ρ=Go.Proofs.YtmobbajggkjpgaaGreat.SX.jn [(4,x.bY),(81,x.tree.length),(82,(x.tree.length+64:Nat)),(83,0)] [(66,X),(67,R),(80,B0)] [(7,ts)] [(1,x.name)]:=⟨_,rfl⟩;refine(aer.B6 ρ F2 (by rw[hρ];rfl) trivial trivial (nofun) ⟨⟨.obj 50 [.string x.name,ts,iV x.bY],by rw[hρ];exact bM hX f2,rfl,by rw[hρ];rfl⟩,⟨.obj 50 [.string ⟨#[]⟩,eS,iV 0],by rw[hρ];exact bM hR f2,rfl,rfl⟩,trivial⟩ (by rw[hρ];show[X,R].Nodup;simp[hXR])).trans fun g3 w3 cn=>?_
 obtain⟨I3,B3,cC,rfl,kp,F3,Ny,_⟩:=cn;have oT:FA 43 8 (.code .ret::[]) [] .normal [(2,bI R)] cC:=by rw[hρ]at F3;exact F3
 have own:∀q,lF ρ w2 [(66,.cells [ss 1,.bC 7,i64 (v 4)] 50),(67,.cells [.str ⟨#[]⟩,cj,i64 (.lit 0)] 50)] q->w2.heap.size≤q∨q=X∨q=R:=fun q hq=>by
  rcases hq with h|⟨p,hp,e⟩
  ·exact .inl h
  ·rcases aj.1 hp with rfl|hp
   ·have e:ρ.b 66=q:=e;rw[hρ]at e;exact .inr (.inl e.symm)
   ·obtain rfl:=ah.1 hp;have e:ρ.b 67=q:=e;rw[hρ]at e;exact .inr (.inr e.symm)
 have VP:(cu.obj 50 [.string x.name,bU B0 0 x.tree.length (x.tree.length+64),iV x.bY]).at Tryz.prog w3 R:=by have:=Ny.2.1.2;rw[hρ]at this;exact this
 have f3:bA w w3:=cq (f1.trans f2) (kp.mono fun q hq=>by
  rcases own q hq with h|rfl|rfl
  ·exact aA (f1.trans f2).size h
  ·exact gX
  ·exact gR)
 have lX:X<w1.heap.size:=cu.jW hX;have lR:R<w1.heap.size:=cu.jW hR;refine(kV (ρ:=bL [] [(62,R)] [(40,.string x.name),(41,bU B0 0 x.tree.length (x.tree.length+64)),(42,iV x.bY)]) (lA:=[(2,bz 62)]) (bs:=[]) (mem:=[(⟨.dyn 62,.lit 0⟩,.bC 40),(⟨.dyn 62,.lit 1⟩,.bC 41),(⟨.dyn 62,.lit 2⟩,.bC 42)]) oT (a:=.agg [.bC 40,.bC 41,.bC 42]) (fun p hp=>by
  obtain rfl:=ah.1 hp;exact cD rfl) (fun st=>by kernel_rfl) (nofun) (fun q hq=>by
  simp only[aj,az,or_false]at hq;rcases hq with rfl|rfl|rfl
  ·exact bE VP (i:=0) rfl
  ·exact bE VP (i:=1) rfl
  ·exact bE VP (i:=2) rfl)).mono fun g6 w6 dj=>?_
 obtain⟨dJ,rfl,rfl,hL⟩:=dj;refine⟨dJ,_,rfl,hL,f3,_,rfl,hv0.eH kp (aA f1.size fk.size) fun q hq hlt ho=>?_⟩;have:=fk.size;rcases own q ho with h|rfl|rfl<;>omega
end
noncomputable def fG(l:Nat):Code:=pc (bD Tryz.f23) (pd l)
theorem Me:bP Tryz.prog 23 [.bC 0] .normal=.ok ⟨23,37,c8 23 [.bC 0],[.code (bD Tryz.f23)],[],.run,.normal⟩:=by kernel_rfl
theorem Sm:dP 23 37 2:=fun st=>by kernel_rfl
noncomputable abbrev uP:List Item:=[.code (fG 116),.inLoop (fG 116),.inBlock 0,.code (fG 15)]
theorem aes:Pc 23 37 [.code (bD Tryz.f23)] ([(0,sA 50 53 51 52)]) OK [] [] 19 [100] [0,3,4] uP [sA 50 53 51 52,.slice (some (eD 100 0)) (.op .add .i64 (.tn (v 51)) (.lit 64)) (.op .add .i64 (.tn (v 51)) (.lit 64)),i64 (.lit 0)] [(100,.row [] 50 (.op .add .i64 (.tn (v 51)) (.lit 64)))]:={}
theorem Zj:Pc 23 37 [.code (bD Tryz.f23)] ([(0,cj)]) [] [] [] 19 [100] [0,3,4] uP [cj,.slice (some (eD 100 0)) (.lit 64) (.lit 64),i64 (.lit 0)] [(100,.cells [.str ⟨#[]⟩,cj,i64 (.lit 0),.str ⟨#[]⟩,cj,i64 (.lit 0),.str ⟨#[]⟩,cj,i64 (.lit 0),.str ⟨#[]⟩,cj,i64 (.lit 0),.str ⟨#[]⟩,cj,i64 (.lit 0),.str ⟨#[]⟩,cj,i64 (.lit 0),.str ⟨#[]⟩,cj,i64 (.lit 0),.str ⟨#[]⟩,cj,i64 (.lit 0),.str ⟨#[]⟩,cj,i64 (.lit 0),.str ⟨#[]⟩,cj,i64 (.lit 0),.str ⟨#[]⟩,cj,i64 (.lit 0),.str ⟨#[]⟩,cj,i64 (.lit 0),.str ⟨#[]⟩,cj,i64 (.lit 0),.str ⟨#[]⟩,cj,i64 (.lit 0),.str ⟨#[]⟩,cj,i64 (.lit 0),.str ⟨#[]⟩,cj,i64 (.lit 0),.str ⟨#[]⟩,cj,i64 (.lit 0),.str ⟨#[]⟩,cj,i64 (.lit 0),.str ⟨#[]⟩,cj,i64 (.lit 0),.str ⟨#[]⟩,cj,i64 (.lit 0),.str ⟨#[]⟩,cj,i64 (.lit 0),.str ⟨#[]⟩,cj,i64 (.lit 0),.str ⟨#[]⟩,cj,i64 (.lit 0),.str ⟨#[]⟩,cj,i64 (.lit 0),.str ⟨#[]⟩,cj,i64 (.lit 0),.str ⟨#[]⟩,cj,i64 (.lit 0),.str ⟨#[]⟩,cj,i64 (.lit 0),.str ⟨#[]⟩,cj,i64 (.lit 0),.str ⟨#[]⟩,cj,i64 (.lit 0),.str ⟨#[]⟩,cj,i64 (.lit 0),.str ⟨#[]⟩,cj,i64 (.lit 0),.str ⟨#[]⟩,cj,i64 (.lit 0),.str ⟨#[]⟩,cj,i64 (.lit 0),.str ⟨#[]⟩,cj,i64 (.lit 0),.str ⟨#[]⟩,cj,i64 (.lit 0),.str ⟨#[]⟩,cj,i64 (.lit 0),.str ⟨#[]⟩,cj,i64 (.lit 0),.str ⟨#[]⟩,cj,i64 (.lit 0),.str ⟨#[]⟩,cj,i64 (.lit 0),.str ⟨#[]⟩,cj,i64 (.lit 0),.str ⟨#[]⟩,cj,i64 (.lit 0),.str ⟨#[]⟩,cj,i64 (.lit 0),.str ⟨#[]⟩,cj,i64 (.lit 0),.str ⟨#[]⟩,cj,i64 (.lit 0),.str ⟨#[]⟩,cj,i64 (.lit 0),.str ⟨#[]⟩,cj,i64 (.lit 0),.str ⟨#[]⟩,cj,i64 (.lit 0),.str ⟨#[]⟩,cj,i64 (.lit 0),.str ⟨#[]⟩,cj,i64 (.lit 0),.str ⟨#[]⟩,cj,i64 (.lit 0),.str ⟨#[]⟩,cj,i64 (.lit 0),.str ⟨#[]⟩,cj,i64 (.lit 0),.str ⟨#[]⟩,cj,i64 (.lit 0),.str ⟨#[]⟩,cj,i64 (.lit 0),.str ⟨#[]⟩,cj,i64 (.lit 0),.str ⟨#[]⟩,cj,i64 (.lit 0),.str ⟨#[]⟩,cj,i64 (.lit 0),.str ⟨#[]⟩,cj,i64 (.lit 0),.str ⟨#[]⟩,cj,i64 (.lit 0),.str ⟨#[]⟩,cj,i64 (.lit 0),.str ⟨#[]⟩,cj,i64 (.lit 0),.str ⟨#[]⟩,cj,i64 (.lit 0),.str ⟨#[]⟩,cj,i64 (.lit 0),.str ⟨#[]⟩,cj,i64 (.lit 0)] 50)]:={}
noncomputable abbrev Sn:List (AA×AV):=[(eB 50 53 10 3,ss 1),(eA 50 53 10 3 1,.bC 7),(eA 50 53 10 3 2,i64 (v 9))]
theorem aet:Pc 23 37 uP ([(0,sA 50 53 51 52),(3,sA 60 63 61 62),(4,i64 (v 10))]) kz2 Sn [] 27 [] [0,3,4,19,20,24] [.inRegion (opsOf (fG 3730)) [6,7,8],.inBlock 1,.code (fG 467),.inLoop (fG 116),.inBlock 0,.code (fG 15)] [sA 50 53 51 52,sA 60 63 61 62,i64 (v 10),sA 60 63 61 62,i64 (v 10),.agg [ss 1,.bC 7,i64 (v 9)]] []:={}
theorem aeu:di 37 (opsOf (fG 3730)) 6 [(24,.bC 24)] 43 [.bC 24] 25:={}
theorem aev:Pc 23 37 [.inRegion (opsOf (fG 3730)) [7,8],.inBlock 1,.code (fG 467),.inLoop (fG 116),.inBlock 0,.code (fG 15)] ([(0,.bC 0),(3,sA 60 63 61 62),(4,i64 (v 10)),(19,sA 60 63 61 62),(20,i64 (v 10)),(25,.bC 30)]) (fN 10 61) [] [] 1 [] [0,3,4,26,25] [.inRegion (opsOf (fG 3730)) [8],.inBlock 1,.code (fG 467),.inLoop (fG 116),.inBlock 0,.code (fG 15)] [.bC 0,sA 60 63 61 62,i64 (v 10),.ptr (some (eB 60 63 10 3)),.bC 30] []:={}
theorem aew:jO 37 (opsOf (fG 3730)) 8 [] (.store 50 (.tmp 26) (.tmp 25)) 0 none:={}
theorem Zk:Pc 23 37 [.inRegion (opsOf (fG 3730)) [],.inBlock 1,.code (fG 467),.inLoop (fG 116),.inBlock 0,.code (fG 15)] ([(0,.bC 0),(3,sA 60 63 61 62),(4,i64 (v 10))]) [] [] [] 8 [] [0,3,4] uP [.bC 0,sA 60 63 61 62,i64 (.op .add .i64 (v 10) (.lit 1))] []:={}
theorem aex(z:Bool):Pc 23 37 uP ([(0,cG z 50 53 51 52),(3,sA 60 63 61 62),(4,i64 (v 10))]) (fN 10 61++[((.cmp .lss (v 10) (dL z 51)),false)]) [] [] 24 [] [0,3,4,27,28,29] [.inRegion (opsOf (fG 3731)) [3,4,5,6],.inBlock 1,.code (fG 467),.inLoop (fG 116),.inBlock 0,.code (fG 15)] [cG z 50 53 51 52,sA 60 63 61 62,i64 (v 10),sA 60 63 61 62,i64 (v 10),i64 (v 10)] []:=by cases z<;>exact{}
theorem aey:di 37 (opsOf (fG 3731)) 3 [(29,.bC 29)] 25 [i64 (.lit 9),.bC 29] 30:={}
theorem aez:Pc 23 37 [.inRegion (opsOf (fG 3731)) [4,5,6],.inBlock 1,.code (fG 467),.inLoop (fG 116),.inBlock 0,.code (fG 15)] ([(0,.bC 0),(3,sA 60 63 61 62),(4,i64 (v 10)),(27,sA 60 63 61 62),(28,i64 (v 10)),(30,i64 (v 12))]) (fN 10 61) [] [] 2 [] [0,3,4,32,31] [.inRegion (opsOf (fG 3731)) [6],.inBlock 1,.code (fG 467),.inLoop (fG 116),.inBlock 0,.code (fG 15)] [.bC 0,sA 60 63 61 62,i64 (v 10),.ptr (some (eB 60 63 10 3)),.agg [.str ⟨#[]⟩,cj,i64 (v 12)]] []:={}
theorem aeA:jO 37 (opsOf (fG 3731)) 6 [] (.store 50 (.tmp 32) (.tmp 31)) 0 none:={}
theorem Zl:Pc 23 37 [.inRegion (opsOf (fG 3731)) [],.inBlock 1,.code (fG 467),.inLoop (fG 116),.inBlock 0,.code (fG 15)] ([(0,.bC 0),(3,sA 60 63 61 62),(4,i64 (v 10))]) [] [] [] 8 [] [0,3,4] uP [.bC 0,sA 60 63 61 62,i64 (.op .add .i64 (v 10) (.lit 1))] []:={}
theorem aeB(z:Bool):Pc 23 37 uP ([(0,cG z 50 53 51 52),(3,sA 60 63 61 62),(4,i64 (v 10))]) tc [] [] 15 [] [33,35] [.inRegion (opsOf (fG 30)) [3,4],.code .ret] [sA 60 63 61 62,i64 (dL z 51)] []:=by cases z<;>exact{}
theorem aeC:jO 37 (opsOf (fG 30)) 3 [] (.slice 22 (.tmp 33) none (some (.tmp 35)) none) 22 (some 36):={}
theorem aeD:Pc 23 37 [.inRegion (opsOf (fG 30)) [4],.code .ret] ([(36,.bC 7)]) [] [] [] 2 [] [2] [.code .ret] [.bC 7] []:={}
def iO(p:cH×Value):List Value:=[.string p.1.name,p.2,iV p.1.bY]
theorem tq:∀l:List (cH×Value),(l.flatMap iO).length=l.length*3
 |[]=>rfl
 |n::l=>by rw[List.flatMap_cons,ak,tq l,aC];show 3+l.length*3=_;omega
def Mf(i:Nat):cH×Value:=(⟨⟨#[]⟩,[],((9437185+i:Nat):Int)⟩,eS)
structure tu(w:World)(B:Nat)(L:List cH)(i:Nat)(ps:List (cH×Value)):Prop where
 vec:(cu.vec 50 (L.length+64) (ps.flatMap iO)).at Tryz.prog w B
 len:ps.length=i
 real:∀(j:Nat) (x:cH) (p:cH×Value),L[j]?=some x->ps[j]?=some p->p.1=x∧jf w (B+1) p.2 x.tree
 mark:∀(j:Nat) (p:cH×Value),L[j]?=none->ps[j]?=some p->p=Mf j
theorem tu.keep{w w':World}{B i:Nat}{L:List cH}{ps:List (cH×Value)}(h:tu w B L i ps)(f:bA w w'):tu w' B L i ps:=
 ⟨bM h.vec f,h.len,fun j x p hx hp=>⟨(h.real j x p hx hp).1,(h.real j x p hx hp).2.keep f⟩,h.mark⟩
theorem tu.push{w w':World}{B i:Nat}{L:List cH}{ps:List (cH×Value)}{q:cH×Value}(h:tu w B L i ps)(kp:bS (fun b=>b=B) w w')(hv:(cu.vec 50 (L.length+64) (ps.flatMap iO++iO q)).at Tryz.prog w' B)(hr:∀x,L[i]?=some x->q.1=x∧jf w (B+1) q.2 x.tree)(hm:L[i]?=none->q=Mf i):tu w' B L (i+1) (ps++[q]):=by
 refine⟨by simpa using hv,by rw[ak,h.len];rfl,fun j x p hx hp=>?_,fun j p hx hp=>?_⟩
 ·have kw:∀{ts:Value} {l:List Nd},jf w (B+1) ts l->jf w' (B+1) ts l:=fun hh=>hh.eH kp (ax _) fun q hq _ ho=>by
   have:q=B:=ho;omega
  rw[List.getElem?_append]at hp;split at hp
  ·exact⟨(h.real j x p hx hp).1,kw (h.real j x p hx hp).2⟩
  ·rename_i hj;have hj':j=i:=by
    have:=(aq.1 hp).1;simp at this;rw[h.len]at hj this;omega
   subst hj';rw[h.len,Nat.sub_self]at hp;obtain rfl:=au hp;exact⟨(hr x hx).1,kw (hr x hx).2⟩
 ·rw[List.getElem?_append]at hp;split at hp
  ·exact h.mark j p hx hp
  ·rename_i hj;have hj':j=i:=by
    have:=(aq.1 hp).1;simp at this;rw[h.len]at hj this;omega
   subst hj';rw[h.len,Nat.sub_self]at hp;obtain rfl:=au hp;exact hm hx
noncomputable abbrev Zm:List Item:=uP
noncomputable abbrev Mg(r:List Item):List Item:=r++[.inBlock 1,.code (fG 467),.inLoop (fG 116),.inBlock 0,.code (fG 15)]
section
variable {w0:World}{B:Nat}
theorem xH{z:Bool}{A o c':Nat}{l:List cH}(hz:z=true->l=[])(cL:∀i x,l[i]?=some x->pS w0 A (o+i*3) x)(hlen:l.length≤4294967000)(ji:∀x∈l,x.tree.length≤4294967000)(hB:w0.heap.size≤B):
  ∀(m i:Nat) {w:World} {cs:List Frame} {fr:Frame} {ps:List (cH×Value)},i+m=l.length+64->bA w0 w->tu w B l i ps->FA 23 37 Zm [] .normal [(0,ew z A o l.length c'),(3,bU B 0 (l.length+64) (l.length+64)),(4,iV i)] fr->
  Goes (G fr cs) w fun g' w'=>∃fr',g'=G fr' cs∧(bA w0 w'∧∃ps,tu w' B l (l.length+64) ps)∧cV 23 fr' w' (bU B 0 l.length (l.length+64))
 |0,i,w,cs,fr,ps,hi,fw,hv,hf=>by
  obtain rfl:i=l.length+64:=by omega
  obtain⟨ρ,hρ⟩:∃ρ:Env,ρ=bL [(51,l.length),(52,c'),(53,o),(61,(l.length+64:Nat)),(62,(l.length+64:Nat)),(63,0),(10,(l.length+64:Nat))] [(50,A),(60,B)] []:=⟨_,rfl⟩;refine((aeB z).go ρ hf (by rw[hρ];cases z<;>rfl) ⟨by rw[hρ];exact decide_eq_false (by show ¬(((l.length+64:Nat):Int)<(((l.length+64:Nat):Nat):Int));omega),trivial⟩ trivial).trans fun g1 w1 hd=>?_;obtain⟨I,B1,bT,rfl,f1,F1,_⟩:=hd;have fI:FA 23 37 [.inRegion (opsOf (fG 30)) [3,4],.code .ret] [] .normal [(33,bU B 0 (l.length+64) (l.length+64)),(35,iV l.length)] bT:=by
   rw[hρ]at F1;cases z with
   |false=>exact F1
   |true=>rw[hz rfl]at F1⊢;exact F1
  refine(aeC.go (R:=fun y w'=>y=bU B 0 l.length (l.length+64)∧w'=w1) (bL [] [] []) fI (by decide) rfl fun tm ie x' e1 e2=>?_).trans fun g2 w2 bX=>?_
  ·unfold execOp;simp only[e1,bF,av,aI];rw[ie 33 _ rfl,ie 35 (iV l.length) rfl];exact ql (z:=false) (t:=22) (elem:=50) (size:=3) (by kernel_rfl) (by kernel_rfl) (show l.length≤l.length+64 by omega) (fun h=>by cases h) (fun _=>ax _) ⟨_,rfl,rfl,rfl⟩
  obtain⟨cB,y,rfl,⟨rfl,rfl⟩,F2⟩:=bX;refine(aeD.go (bL [] [] [(7,bU B 0 l.length (l.length+64))]) F2 rfl trivial trivial).trans fun g3 w3 cn=>?_;obtain⟨I,B3,cC,rfl,f3,F3,_⟩:=cn;refine(leave1 Sm F3 rfl).mono fun g4 w4 c9=>?_;obtain⟨eg,rfl,rfl,hL⟩:=c9;exact⟨eg,rfl,⟨fw.trans (f1.trans f3),ps,hv.keep (f1.trans f3)⟩,hL⟩
 |m+1,i,w,cs,fr,ps,hi,fw,hv,hf=>by
  have hic:i<l.length+64:=by omega
  have hP:=tq ps;rw[hv.len]at hP;have next:∀{w1 w2:World} {cB:Frame} {ps2:List (cH×Value)},bA w w1->bS (fun b=>b=B) w1 w2->tu w2 B l (i+1) ps2->(∃t,(t=Mg [.inRegion (opsOf (fG 3730)) []]∨t=Mg [.inRegion (opsOf (fG 3731)) []])∧FA 23 37 t [] .normal [(0,ew z A o l.length c'),(3,bU B 0 (l.length+64) (l.length+64)),(4,iV i)] cB)->
    Goes (G cB cs) w2 fun g' w'=>∃fr',g'=G fr' cs∧(bA w0 w'∧∃ps,tu w' B l (l.length+64) ps)∧cV 23 fr' w' (bU B 0 l.length (l.length+64)):=fun{w1 w2 cB ps2} f1 kp kL ht=>by
   have mB:bA w0 w2:=cq (fw.trans f1) (kp.mono fun b hb=>by rw[hb];exact hB);obtain⟨t,ht,F2⟩:=ht;obtain⟨σ,bZ⟩:∃σ:Env,σ=bL [(51,l.length),(52,c'),(53,o),(61,(l.length+64:Nat)),(62,(l.length+64:Nat)),(63,0),(10,i)] [(50,A),(60,B)] [(0,ew z A o l.length c')]:=⟨_,rfl⟩;rcases ht with rfl|rfl
   ·refine(Zk.go σ F2 (by rw[bZ];rfl) trivial trivial).trans fun g3 w3 cn=>?_;obtain⟨I,B3,cC,rfl,f3,F3,_⟩:=cn;rw[bZ]at F3;refine xH (c':=c') hz cL hlen ji hB m (i+1) (by omega) (mB.trans f3) (kL.keep f3) ?_;rw[<-inc (i:=i) (by omega)];exact F3
   ·refine(Zl.go σ F2 (by rw[bZ];rfl) trivial trivial).trans fun g3 w3 cn=>?_;obtain⟨I,B3,cC,rfl,f3,F3,_⟩:=cn;rw[bZ]at F3;refine xH (c':=c') hz cL hlen ji hB m (i+1) (by omega) (mB.trans f3) (kL.keep f3) ?_;rw[<-inc (i:=i) (by omega)];exact F3
  have AF:∀{ρ:Env},ρ.i 10=(i:Int)->ρ.i 61=((l.length+64:Nat):Int)->cr ρ (fN 10 61):=fun h1 h2=>cg (i:=10) (n:=61) (I:=i) (N:=l.length+64) h1 h2 hic;by_cases hl:i<l.length
  ·cases z with
   |true=>rw[hz rfl]at hl;simp at hl
   |false=>
   obtain⟨x,hx⟩:∃x,l[i]?=some x:=⟨_,af hl⟩;obtain⟨ts,c0,c1,c2,hN⟩:=(cL i x hx).ex;obtain⟨ρ,hρ⟩:∃ρ:Env,ρ=Go.Proofs.YtmobbajggkjpgaaGreat.SX.jn [(51,l.length),(52,c'),(53,o),(61,(l.length+64:Nat)),(62,(l.length+64:Nat)),(63,0),(10,i),(9,x.bY)] [(50,A),(60,B)] [(7,ts)] [(1,x.name)]:=⟨_,rfl⟩;refine(aet.go ρ hf (by rw[hρ];rfl) (cr.app (AF (by rw[hρ];rfl) (by rw[hρ];rfl)) (cg (i:=10) (n:=51) (I:=i) (N:=l.length) (by rw[hρ];rfl) (by rw[hρ];rfl) hl)) ⟨by rw[hρ];exact fw.cell c0,by rw[hρ];exact fw.cell c1,by rw[hρ];exact fw.cell c2,trivial⟩).trans fun g1 w1 hd=>?_;obtain⟨I,B1,bT,rfl,f1,F1,_⟩:=hd;rw[hρ]at F1;have hBw:B<w.heap.size:=cu.jW hv.vec;refine(aeu.go (bL [] [] [(24,fy x ts)]) (Q:=fun v w'=>∃ts',v=fy x ts'∧jf w' (B+1) ts' x.tree) F1 rfl fun w' f=>(CA (hN.keep (fw.trans (f1.trans f))) (ji x (ay hx))).mono fun v w2 hd=>⟨hd.1,by obtain⟨ts',h1,B',h2,h3⟩:=hd.2;have:=f1.size;have:=f.size;exact⟨ts',h1,B',by omega,h3⟩⟩).trans fun g2 w2 bX=>?_
   obtain⟨cB,vv,rfl,f2,⟨ts',rfl,hw⟩,F2⟩:=bX;obtain⟨τ,fz⟩:∃τ:Env,τ=bL [(61,(l.length+64:Nat)),(62,(l.length+64:Nat)),(63,0),(10,i)] [(60,B)] [(0,bU A o l.length c'),(30,fy x ts')]:=⟨_,rfl⟩;refine(aev.go τ F2 (by rw[fz];rfl) (AF (by rw[fz];rfl) (by rw[fz];rfl)) trivial).trans fun g3 w3 cn=>?_;obtain⟨I,B3,cC,rfl,f3,F3,_⟩:=cn;have oT:FA 23 37 (Mg [.inRegion (opsOf (fG 3730)) [8]]) [] .normal [(0,bU A o l.length c'),(3,bU B 0 (l.length+64) (l.length+64)),(4,iV i),(26,.pointer (some ⟨B,(ps.flatMap iO).length,none⟩)),(25,fy x ts')] cC:=by rw[hP,show i*3=0+i*3 by omega];rw[fz]at F3;exact F3
   have f13:=f1.trans (f2.trans f3);obtain⟨B',hB',ets,_⟩:=id hw;refine(gd (cs':=iO (x,ts')) (T:=50) (el:=50) (sz:=3) (V:=fy x ts') aew (by kernel_rfl) (by kernel_rfl) rfl rfl (by
    intro y hy;have hy:y∈[Value.string x.name,ts',iV x.bY]:=hy;simp only[aj,az,or_false]at hy;rcases hy with rfl|rfl|rfl
    ·rfl
    ·rw[ets];rfl
    ·rfl) oT rfl rfl (bM hv.vec f13) (by rw[hP];omega)).trans fun g4 w4 c9=>?_
   obtain⟨eg,rfl,⟨kp,Ct⟩,F4⟩:=c9;exact next f13 kp ((hv.keep f13).push kp Ct (fun x' hx'=>by rw[hx]at hx';obtain rfl:=au hx';exact⟨rfl,hw.keep f3⟩) (fun h=>by rw[hx]at h;cases h)) ⟨_,.inl rfl,F4.only rfl⟩
  ·have oM:l[i]?=none:=aM (by omega);obtain⟨ρ,hρ⟩:∃ρ:Env,ρ=bL [(51,l.length),(52,c'),(53,o),(61,(l.length+64:Nat)),(62,(l.length+64:Nat)),(63,0),(10,i)] [(50,A),(60,B)] []:=⟨_,rfl⟩;refine((aex z).go ρ hf (by rw[hρ];cases z<;>rfl) (cr.app (AF (by rw[hρ];rfl) (by rw[hρ];rfl)) ⟨by
    rw[hρ];cases z with
    |false=>exact decide_eq_false (by show ¬((i:Int)<((l.length:Nat):Int));omega)
    |true=>exact decide_eq_false (by show ¬((i:Int)<0);omega),trivial⟩) trivial).trans fun g1 w1 hd=>?_
   obtain⟨I,B1,bT,rfl,f1,F1,_⟩:=hd;have fI:FA 23 37 (Mg [.inRegion (opsOf (fG 3731)) [3,4,5,6]]) [] .normal [(0,ew z A o l.length c'),(3,bU B 0 (l.length+64) (l.length+64)),(4,iV i),(27,bU B 0 (l.length+64) (l.length+64)),(28,iV i),(29,iV i)] bT:=by rw[hρ]at F1;cases z<;>exact F1
   refine(aey.go (bL [] [] [(29,iV i)]) (Q:=fun v w'=>v=iV (9437185+i:Nat)) fI rfl fun w' f=>lI (by omega)).trans fun g2 w2 bX=>?_;obtain⟨cB,vv,rfl,f2,rfl,F2⟩:=bX;obtain⟨τ,fz⟩:∃τ:Env,τ=bL [(61,(l.length+64:Nat)),(62,(l.length+64:Nat)),(63,0),(10,i),(12,(9437185+i:Nat)),(51,l.length),(52,c'),(53,o)] [(50,A),(60,B)] [(0,ew z A o l.length c')]:=⟨_,rfl⟩;refine(aez.go τ F2 (by rw[fz];rfl) (AF (by rw[fz];rfl) (by rw[fz];rfl)) trivial).trans fun g3 w3 cn=>?_;obtain⟨I,B3,cC,rfl,f3,F3,_⟩:=cn;have oT:FA 23 37 (Mg [.inRegion (opsOf (fG 3731)) [6]]) [] .normal [(0,ew z A o l.length c'),(3,bU B 0 (l.length+64) (l.length+64)),(4,iV i),(32,.pointer (some ⟨B,(ps.flatMap iO).length,none⟩)),(31,.agg #[.string ⟨#[]⟩,eS,iV ((9437185+i:Nat):Int)])] cC:=by rw[hP,show i*3=0+i*3 by omega];rw[fz]at F3;exact F3
   have f13:=f1.trans (f2.trans f3);refine(gd (cs':=iO (Mf i)) (T:=50) (el:=50) (sz:=3) (V:=.agg #[.string ⟨#[]⟩,eS,iV ((9437185+i:Nat):Int)]) aeA (by kernel_rfl) (by kernel_rfl) rfl rfl (by intro y hy;have hy:y∈[Value.string ⟨#[]⟩,eS,iV ((9437185+i:Nat):Int)]:=hy;simp only[aj,az,or_false]at hy;rcases hy with rfl|rfl|rfl<;>rfl) oT rfl rfl (bM hv.vec f13) (by rw[hP];omega)).trans fun g4 w4 c9=>?_
   obtain⟨eg,rfl,⟨kp,Ct⟩,F4⟩:=c9;exact next f13 kp ((hv.keep f13).push kp Ct (fun x' hx'=>by rw[oM]at hx';cases hx') (fun _=>rfl)) ⟨_,.inr rfl,F4.only rfl⟩
variable {w:World}
theorem AG{s:Value}{l:List cH}(h:nA w s l)(hlen:l.length≤4294967000)(ji:∀x∈l,x.tree.length≤4294967000):dS 23 #[s] w fun v w'=>bA w w'∧∃B ps,w.heap.size≤B∧v=bU B 0 l.length (l.length+64)∧tu w' B l (l.length+64) ps:=by
 obtain⟨z,A,o,c',rfl,hz,_,cL⟩:=h.ex;refine cF fun cs=>?_;have fin:∀{w1:World} {bT:Frame} {B:Nat},bA w w1->w.heap.size≤B->(cu.vec 50 (l.length+64) []).at Tryz.prog w1 B->FA 23 37 Zm [] .normal [(0,ew z A o l.length c'),(3,bU B 0 (l.length+64) (l.length+64)),(4,iV (0:Nat))] bT->Goes (G bT cs) w1 fun g' w'=>∃fr' v,g'=G fr' cs∧cV 23 fr' w' v∧bA w w'∧∃B ps,w.heap.size≤B∧v=bU B 0 l.length (l.length+64)∧tu w' B l (l.length+64) ps:=fun{w1 bT B} f1 hB hv F1=>by refine(xH (w0:=w) (ps:=[]) hz cL hlen ji hB (l.length+64) 0 (by omega) f1 ⟨hv,rfl,(fun j x p hx hp=>by cases hp),fun j p hx hp=>by cases hp⟩ F1).mono fun g2 w2 bX=>?_;obtain⟨cB,rfl,⟨f2,ps,kL⟩,hL⟩:=bX;exact⟨cB,_,rfl,hL,f2,B,ps,hB,rfl,kL⟩
 cases z with
 |true=>have L8:=hz rfl;refine(Zj.go (bL [] [] []) (cz Me rfl eS) rfl trivial trivial).trans fun g1 w1 hd=>?_;obtain⟨I,B,bT,rfl,f1,F1,bl,_⟩:=hd;refine fin f1 bl.1.1 ?_ (by rw[L8];exact F1);rw[L8];exact tf (sz:=3) bl.1.2 (by kernel_rfl) rfl
 |false=>
  obtain⟨ρ,hρ⟩:∃ρ:Env,ρ=bL [(51,l.length),(52,c'),(53,o)] [(50,A)] []:=⟨_,rfl⟩;refine(aes.go ρ (cz Me rfl (bU A o l.length c')) (by rw[hρ];rfl) ⟨by
   rw[hρ];show decide (iF .add .i64 (l.length:Int) 64>4294967296)=false;rw[lu hlen];exact decide_eq_false (by omega),by
   rw[hρ];show decide (iF .add .i64 (l.length:Int) 64<0)=false;rw[lu hlen];exact decide_eq_false (by omega),trivial⟩ trivial).trans fun g1 w1 hd=>?_
  obtain⟨I,B,bT,rfl,f1,F1,bl,_⟩:=hd;rw[hρ]at F1 bl;have L9:l.length+64=(iF .add .i64 (l.length:Int) 64).toNat:=by rw[lu hlen];rfl
  refine fin (B:=B 100) f1 bl.1.1 (by rw[L9];exact bl.1.2) (by rw[L9];exact F1)
end
def j9(w:World)(base:Nat)(s:Value)(L:List cH):Prop:=∃B ps,base≤B∧s=bU B 0 L.length (L.length+64)∧tu w B L (L.length+64) ps
def j_(w:World)(base:Nat)(s:Value)(l:List Int):Prop:=∃B,base≤B∧s=bU B 0 l.length (l.length+64)∧(cu.vec 3 (l.length+64) (mD l (l.length+64))).at Tryz.prog w B
theorem j9.xI{w w':World}{base base':Nat}{own:Nat->Prop}{s:Value}{L:List cH}(h:j9 w base s L)(kp:bS own w w')(hb:base'≤base)(ho:∀q,base≤q->q<w.heap.size->¬own q):j9 w' base' s L:=by obtain⟨B,ps,h1,h2,h3⟩:=h;exact⟨B,ps,aA hb h1,h2,cu.qh h3.vec kp (ho B h1 (cu.jW h3.vec)),h3.len,fun j x p hx hp=>⟨(h3.real j x p hx hp).1,(h3.real j x p hx hp).2.eH kp (ax _) fun q hq hl=>ho q (by omega) hl⟩,h3.mark⟩
theorem j_.xI{w w':World}{base base':Nat}{own:Nat->Prop}{s:Value}{l:List Int}(h:j_ w base s l)(kp:bS own w w')(hb:base'≤base)(ho:∀q,base≤q->q<w.heap.size->¬own q):j_ w' base' s l:=by obtain⟨B,h1,h2,h3⟩:=h;exact⟨B,aA hb h1,h2,cu.qh h3 kp (ho B h1 (cu.jW h3))⟩
theorem j9.keep{w w':World}{base:Nat}{s:Value}{L:List cH}(h:j9 w base s L)(f:bA w w'):j9 w' base s L:=h.xI f (ax _) fun q _ hq ho=>by have:w.heap.size≤q:=ho;omega
theorem j_.keep{w w':World}{base:Nat}{s:Value}{l:List Int}(h:j_ w base s l)(f:bA w w'):j_ w' base s l:=h.xI f (ax _) fun q _ hq ho=>by have:w.heap.size≤q:=ho;omega
noncomputable def q8(l:Nat):Code:=pc (bD Tryz.f8) (pd l)
theorem aeE:bP Tryz.prog 8 [.bC 0] .normal=.ok ⟨8,10,c8 8 [.bC 0],[.code (bD Tryz.f8)],[],.run,.normal⟩:=by kernel_rfl
theorem cf1:Pc 8 10 [.code (bD Tryz.f8)] ([(0,.agg [.bC 7,.bC 8])]) [] [] [] 6 [101,100] [1,2] [.code (q8 6),.code .ret] [bz 100,bz 101] [(101,.cells [cj,cj] 25),(100,.cells [.bC 7,.bC 8] 25)]:={}
theorem aeF:dD 10 (opsOf (q8 6)) 0 [] [] [(1,bz 66)] (bz 66) 3:={}
theorem aeG:dD 10 (opsOf (q8 6)) 1 [] [(eD 66 0,.bC 7)] [(3,bz 66)] (.bC 7) 4:={}
theorem aeH:di 10 (opsOf (q8 6)) 2 [(4,.bC 4)] 23 [.bC 4] 5:={}
theorem aeI:dD 10 (opsOf (q8 6)) 3 [] [] [(1,bz 66)] (.ptr (some (eD 66 1))) 6:={}
theorem aeJ:dD 10 (opsOf (q8 6)) 4 [] [(eD 66 1,.bC 7)] [(6,.ptr (some (eD 66 1)))] (.bC 7) 7:={}
theorem aeK:di 10 (opsOf (q8 6)) 5 [(7,.bC 7)] 24 [.bC 7] 8:={}
theorem aeL(z y:Bool):dD 10 (opsOf (q8 6)) 6 [] [] [(5,cG z 80 83 81 82),(8,cG y 90 93 91 92)] (.agg [cG z 80 83 81 82,cG y 90 93 91 92]) 9:=⟨fun st=>by cases z<;>cases y<;>kernel_rfl,fun st=>by cases z<;>cases y<;>kernel_rfl,fun st=>by cases z<;>cases y<;>kernel_rfl,by kernel_rfl,by cases z<;>cases y<;>rfl⟩
theorem aeM(z y:Bool):Pc 8 10 [.inRegion (opsOf (q8 6)) [7],.code .ret] ([(2,bz 67),(9,.agg [cG z 80 83 81 82,cG y 90 93 91 92])]) [] [] [(67,.cells [cj,cj] 25)] 2 [67] [2] [.code .ret] [bz 67] [(67,.cells [cG z 80 83 81 82,cG y 90 93 91 92] 25)]:=by cases z<;>cases y<;>exact{}
noncomputable abbrev Zn:Array Oper:=opsOf (q8 6)
def VQ(X:Nat)(ls os:Value)(L:List cH)(O:List Int)(b0 i:Nat)(v:Value)(w:World):Prop:=match i with
 |0=>v=.pointer (some ⟨X,0,none⟩)
 |1=>v=ls
 |2=>j9 w b0 v L
 |3=>v=.pointer (some ⟨X,1,none⟩)
 |4=>v=os
 |5=>j_ w b0 v O
 |_=>∃a b,v=.agg #[a,b]∧j9 w b0 a L∧j_ w b0 b O
theorem So:Zn.size=8:=by kernel_rfl
theorem Sq:Ap (q8 6)=true:=by kernel_rfl
section
variable {w w0:World}{cs:List Frame}{fr:Frame}
theorem Mh{X:Nat}{ls os:Value}{L:List cH}{O:List Int}{b0:Nat}(i:Nat)(v:Value)(w w':World)(h:VQ X ls os L O b0 i v w)(f:bA w w'):VQ X ls os L O b0 i v w':=by
 unfold VQ at h⊢;split at h
 all_goals first|exact h|exact j9.keep h f|exact j_.keep h f|exact(let⟨a,b,h1,h2,h3⟩:=h;⟨a,b,h1,h2.keep f,h3.keep f⟩)
theorem OL{X R:Nat}{ls os:Value}{L:List cH}{O:List Int}{k:List Item}(hX:(cu.obj 25 [ls,os]).at Tryz.prog w0 X)(hL:nA w0 ls L)(hO:kB w0 os O)(hlen:L.length≤4294967000)(ji:∀x∈L,x.tree.length≤4294967000)(Sr:O.length≤4294967000):
  ∀i,i<8->Nat.blt i 7=true->∀(l:List Nat) (w:World) (fr:Frame) (lv:List (Nat×Value)),bA w0 w->FA 8 10 (.inRegion Zn (i::l)::k) [] .normal lv fr->(∀x∈[(1,bI X),(2,bI R)],x∈lv)->(∀p∈ja Zn i,∃v,(p+3,v)∈lv∧VQ X ls os L O w0.heap.size p v w)->
   Goes (G fr cs) w fun g' w'=>∃fr' v,g'=G fr' cs∧bA w w'∧VQ X ls os L O w0.heap.size i v w'∧FA 8 10 (.inRegion Zn l::k) [] .normal (fL (i+3) v lv) fr':=by
 intro i hi he l w fr lv f hf hb hp;have b1:((1,bI X):Nat×Value)∈lv:=hb _ (ai ..);have he:=Nat.blt_eq.mp he;rcases(by omega:i=0∨i=1∨i=2∨i=3∨i=4∨i=5∨i=6)with rfl|rfl|rfl|rfl|rfl|rfl|rfl
 ·exact aeF.dc (bL [] [(66,X)] []) hf (by decide) (fun q hq=>by obtain rfl:=ah.1 hq;exact b1) trivial trivial rfl
 ·obtain⟨v0,q0,e0⟩:=hp 0 (dy (by kernel_rfl));have e0:v0=.pointer (some ⟨X,0,none⟩):=e0;subst e0;exact aeG.dc (bL [] [(66,X)] [(7,ls)]) hf (by decide) (fun q hq=>by obtain rfl:=ah.1 hq;exact q0) trivial ⟨f.cell (bE hX (i:=0) rfl),trivial⟩ rfl
 ·obtain⟨v1,q1,e1⟩:=hp 1 (dy (by kernel_rfl));have e1:v1=ls:=e1;subst e1;exact aeH.dc (bL [] [] [(4,v1)]) (Q:=fun v w'=>j9 w' w0.heap.size v L) hf (fun q hq=>by
   obtain rfl:=ah.1 hq;exact q1) fun w' f1=>(AG (hL.keep (f.trans f1)) hlen ji).mono fun v w2 hd=>⟨hd.1,by
   obtain⟨B,ps,h1,h2,h3⟩:=hd.2;exact⟨B,ps,aA (f.trans f1).size h1,h2,h3⟩⟩
 ·exact aeI.dc (bL [] [(66,X)] []) hf (by decide) (fun q hq=>by obtain rfl:=ah.1 hq;exact b1) trivial trivial rfl
 ·obtain⟨v3,q3,e3⟩:=hp 3 (dy (by kernel_rfl));have e3:v3=.pointer (some ⟨X,1,none⟩):=e3;subst e3;exact aeJ.dc (bL [] [(66,X)] [(7,os)]) hf (by decide) (fun q hq=>by obtain rfl:=ah.1 hq;exact q3) trivial ⟨f.cell (bE hX (i:=1) rfl),trivial⟩ rfl
 ·obtain⟨v4,q4,e4⟩:=hp 4 (dy (by kernel_rfl));have e4:v4=os:=e4;subst e4;exact aeK.dc (bL [] [] [(7,v4)]) (Q:=fun v w'=>j_ w' w0.heap.size v O) hf (fun q hq=>by
   obtain rfl:=ah.1 hq;exact q4) fun w' f1=>(IM (hO.keep (f.trans f1)) Sr).mono fun v w2 hd=>⟨hd.1,by
   obtain⟨B,h1,h2,h3⟩:=hd.2;exact⟨B,aA (f.trans f1).size h1,h2,h3⟩⟩
 ·obtain⟨v2,q2,e2⟩:=hp 2 (dy (by kernel_rfl));have e2:j9 w w0.heap.size v2 L:=e2;obtain⟨v5,q5,e5⟩:=hp 5 (dy (by kernel_rfl));have e5:j_ w w0.heap.size v5 O:=e5;obtain⟨A,ps,_,h1,_⟩:=(show _ from e2);obtain⟨A',_,g1,_⟩:=(show _ from e5);obtain⟨ρ,hρ⟩:∃ρ:Env,ρ=bL [(81,L.length),(82,(L.length+64:Nat)),(83,0),(91,O.length),(92,(O.length+64:Nat)),(93,0)] [(80,A),(90,A')] []:=⟨_,rfl⟩;have ez:(cG false 80 83 81 82).ev ρ=v2:=by rw[hρ,h1];rfl
  have ey:(cG false 90 93 91 92).ev ρ=v5:=by rw[hρ,g1];rfl
  refine((aeL false false).dc ρ hf (by decide) (fun q hq=>?_) trivial trivial (v:=.agg #[v2,v5]) (by show Value.agg #[(cG false 80 83 81 82).ev ρ,(cG false 90 93 91 92).ev ρ]=_;rw[ez,ey])).mono fun g' w' hd=>?_
  ·simp only[told,aK,List.map_nil,aj,az,or_false]at hq;rcases hq with rfl|rfl
   ·rw[ez];exact q2
   ·rw[ey];exact q5
  ·obtain⟨fr',v',k1,k2,rfl,k3⟩:=hd;exact⟨fr',_,k1,k2,⟨v2,v5,rfl,e2.keep k2,e5.keep k2⟩,k3⟩
theorem AI{x:Value}{F:gU}(h:mC w x F)(hlen:F.lets.length≤4294967000)(ji:∀x∈F.lets,x.tree.length≤4294967000)(Sr:F.outs.length≤4294967000):dS 8 #[x] w fun v w'=>bA w w'∧∃ls os,v=.agg #[ls,os]∧j9 w' w.heap.size ls F.lets∧j_ w' w.heap.size os F.outs:=by
 obtain⟨ls,os,rfl,hl,ho⟩:=h;refine cF fun cs=>?_;refine(cf1.go (bL [] [] [(7,ls),(8,os)]) (cz aeE rfl (.agg #[ls,os])) rfl trivial trivial).trans fun g1 w1 hd=>?_;obtain⟨I,B,bT,rfl,f1,F1,bl,inj⟩:=hd;obtain⟨X,eX⟩:∃X,B 100=X:=⟨_,rfl⟩;obtain⟨R,eR⟩:∃R,B 101=R:=⟨_,rfl⟩;have gR:w.heap.size≤R:=by rw[<-eR];exact bl.1.1
 have hR:(cu.obj 25 [eS,eS]).at Tryz.prog w1 R:=by rw[<-eR];exact bl.1.2
 have hX:(cu.obj 25 [ls,os]).at Tryz.prog w1 X:=by rw[<-eX];exact bl.2.1.2
 have fI:FA 8 10 (.code (q8 6)::[.code .ret]) [] .normal [(1,bI X),(2,bI R)] bT:=by rw[<-eX,<-eR];exact F1
 obtain⟨id,hid⟩:=gI Sq;rw[hid]at fI;refine(gH fI).trans fun g2 w2 bX=>?_;obtain⟨l,cB,rfl,f2,hs,F2⟩:=bX;refine(ij (b:=[(1,bI X),(2,bI R)]) (nm:=fun i=>i+3) (val:=VQ X ls os F.lets F.outs w1.heap.size) (early:=fun i=>Nat.blt i 7) (late:=[7]) (w0:=w1) So (by kernel_rfl) (by kernel_rfl) (by kernel_rfl) (by kernel_rfl) (by kernel_rfl) (by kernel_rfl) (bh _ _) Mh (OL hX (hl.keep f1) (ho.keep f1) hlen ji Sr) l [] f2 (fun i hi=>by cases hi) hs ⟨_,F2,fun x hx=>hx,fun i hi=>by cases hi⟩).trans fun g3 w3 cn=>?_;obtain⟨cC,lv,rfl,f3,F3,hb,hv⟩:=cn;obtain⟨v,q,a,b,rfl,hA,hB⟩:=hv 6 (by decide) rfl;obtain⟨A,ps,_,h1,_⟩:=(show _ from hA);obtain⟨A',_,g1,_⟩:=(show _ from hB);obtain⟨ρ,hρ⟩:∃ρ:Env,ρ=bL [(81,F.lets.length),(82,(F.lets.length+64:Nat)),(83,0),(91,F.outs.length),(92,(F.outs.length+64:Nat)),(93,0)] [(67,R),(80,A),(90,A')] []:=⟨_,rfl⟩;have ez:∀I B,(cG false 80 83 81 82).ev (cQ ρ I B)=a:=fun I B=>by rw[hρ,h1];rfl
 have ey:∀I B,(cG false 90 93 91 92).ev (cQ ρ I B)=b:=fun I B=>by rw[hρ,g1];rfl
 have e9:(AV.agg [cG false 80 83 81 82,cG false 90 93 91 92]).ev ρ=.agg #[a,b]:=by rw[hρ,h1,g1];rfl
 have oT:FA 8 10 (.inRegion Zn [7]::[.code .ret]) [] .normal [(2,bI R),(9,.agg #[a,b])] cC:=F3.sub fun x hx=>by
  simp only[aj,az,or_false]at hx;rcases hx with rfl|rfl
  ·exact hb _ (aa _ (ai ..))
  ·exact q
 refine((aeM false false).B6 ρ oT (by show[some _,some _]=[some _,some ((AV.agg [cG false 80 83 81 82,cG false 90 93 91 92]).ev ρ)];rw[e9,hρ];rfl) trivial trivial (nofun) ⟨⟨.obj 25 [eS,eS],by rw[hρ];exact bM hR f3,rfl,rfl⟩,trivial⟩ ei).trans fun g4 w4 c9=>?_
 obtain⟨I4,B4,eg,rfl,kp,F4,bl4,_⟩:=c9;have JI:(cu.obj 25 [a,b]).at Tryz.prog w4 R:=by
  have h1:(cu.obj 25 [(cG false 80 83 81 82).ev (cQ ρ I4 B4),(cG false 90 93 91 92).ev (cQ ρ I4 B4)]).at Tryz.prog w4 R:=by have:=bl4.1.2;rw[hρ]at this⊢;exact this
  rw[ez,ey]at h1;exact h1
 have own:∀q,lF ρ w3 [(67,.cells [cj,cj] 25)] q->w3.heap.size≤q∨q=R:=fun q hq=>by
  rcases hq with h|⟨p,hp,e⟩
  ·exact .inl h
  ·obtain rfl:=ah.1 hp;have e:ρ.b 67=q:=e;rw[hρ]at e;exact .inr e.symm
 have hi:∀q,w1.heap.size≤q->q<w3.heap.size->¬lF ρ w3 [(67,.cells [cj,cj] 25)] q:=fun q h1 h2 ho=>by have:=cu.jW hR;rcases own q ho with h|h<;>omega
 have VP:(cu.obj 25 [eS,eS]).at Tryz.prog w3 R:=bM hR f3;have f4:bA w w4:=cq (f1.trans f3) (kp.mono fun q hq=>by have:=(f1.trans f3).size;rcases own q hq with h|h<;>omega)
 have Nz:FA 8 10 (.code .ret::[]) [] .normal [(2,bI R)] eg:=by rw[hρ]at F4;exact F4
 refine(kV (ρ:=bL [] [(62,R)] [(40,a),(41,b)]) (lA:=[(2,bz 62)]) (bs:=[]) (mem:=[(⟨.dyn 62,.lit 0⟩,.bC 40),(⟨.dyn 62,.lit 1⟩,.bC 41)]) Nz (a:=.agg [.bC 40,.bC 41]) (fun p hp=>by
  obtain rfl:=ah.1 hp;exact cD rfl) (fun st=>by kernel_rfl) (nofun) (fun q hq=>by
  simp only[aj,az,or_false]at hq;rcases hq with rfl|rfl
  ·exact bE JI (i:=0) rfl
  ·exact bE JI (i:=1) rfl)).mono fun g6 w6 dj=>?_
 obtain⟨dJ,rfl,rfl,hL⟩:=dj;exact⟨dJ,_,rfl,hL,f4,a,b,rfl,hA.xI kp f1.size hi,hB.xI kp f1.size hi⟩
end
theorem zI{f:Nat->List Value}{sz:Nat}(hf:∀i,(f i).length=sz):∀n,((List.range n).flatMap f).length=n*sz
 |0=>by simp
 |n+1=>by rw[List.range_succ,List.flatMap_append,ak,zI hf n];simp[hf,Nat.succ_mul]
theorem kD{f:Nat->List Value}{sz:Nat}(hf:∀i,(f i).length=sz):∀(n i r:Nat),i<n->r<sz->((List.range n).flatMap f)[i*sz+r]?=(f i)[r]?
 |n+1,i,r,hi,hr=>by
  have hl:=zI hf n;rw[List.range_succ,List.flatMap_append];by_cases h:i<n
  ·have:(i+1)*sz≤n*sz:=bf _ h;rw[aV (by rw[hl];rw[Nat.succ_mul]at this;omega)];exact kD hf n i r h hr
  ·obtain rfl:i=n:=by omega
   rw[List.getElem?_append_right (by rw[hl];omega),hl,show i*sz+r-i*sz=r by omega];simp
section
variable {w:World}{base:Nat}{s:Value}
theorem j_.at{l:List Int}(h:j_ w base s l):kB w s l:=by
 obtain⟨B,_,h2,h3⟩:=h;refine⟨false,B,0,l.length+64,h2,(fun h=>by cases h),fun _=>by omega,fun i n hi=>?_⟩;have hl:=(aq.1 hi).1;have e:=kD (f:=th l) (sz:=1) (xA l) (l.length+64) i 0 (by omega) (by omega);have e':(mD l (l.length+64))[i]?=some (iV n):=by rw[Nat.mul_one,Nat.add_zero]at e;refine e.trans ?_;unfold th;rw[hi];rfl
 rw[aG];exact cu.cR h3 e'
theorem jf.at{l:List Nd}(h:jf w base s l):cP w s l:=by
 obtain⟨B,_,h2,h3⟩:=h;refine⟨.inr ⟨B,0,l.length+64,h2,by omega,fun i n hi=>?_⟩⟩;have hl:=(aq.1 hi).1;have e:∀r,r<4->(jq l (l.length+64))[i*4+r]?=(tg n)[r]?:=fun r hr=>by have:=kD (f:=rK l) (sz:=4) (xC l) (l.length+64) i r (by omega) hr;refine this.trans ?_;unfold rK;rw[hi]
 rw[aG];exact⟨cu.cR h3 (e 0 (by decide)),cu.cR h3 (e 1 (by decide)),cu.cR h3 (e 2 (by decide)),cu.cR h3 (e 3 (by decide))⟩
theorem lJ:∀{l:List (cH×Value)} {i:Nat} {p:cH×Value},l[i]?=some p->∀r,r<3->(l.flatMap iO)[i*3+r]?=(iO p)[r]?
 |a::l,0,p,h,r,hr=>by obtain rfl:a=p:=au h;rw[List.flatMap_cons,Nat.zero_mul,aG,aV (by show r<3;exact hr)]
 |a::l,i+1,p,h,r,hr=>by have ih:=lJ (l:=l) (i:=i) (p:=p) h r hr;rw[List.flatMap_cons,List.getElem?_append_right (by show 3≤_;omega),show(i+1)*3+r-(iO a).length=i*3+r by show(i+1)*3+r-3=_;omega];exact ih
theorem j9.at{L:List cH}(h:j9 w base s L):rG w s L:=by obtain⟨B,ps,_,h2,h3⟩:=h;refine⟨false,B,0,L.length+64,h2,(fun h=>by cases h),fun _=>by omega,fun i x hi=>?_⟩;have hl:=(aq.1 hi).1;obtain⟨p,hp⟩:∃p,ps[i]?=some p:=⟨_,af (by rw[h3.len];omega)⟩;obtain⟨rfl,hw⟩:=h3.real i x p hi hp;have e:=lJ hp;rw[aG];exact⟨p.2,cu.cR h3.vec (e 0 (by decide)),cu.cR h3.vec (e 1 (by decide)),cu.cR h3.vec (e 2 (by decide)),hw.at⟩
theorem IS{x ls os:Value}{F:gU}(e:x=.agg #[ls,os])(h:j9 w base ls F.lets)(h2:j_ w base os F.outs):oy w x F:=⟨ls,os,e,h.at,h2.at⟩
end
noncomputable def Ss(l:Nat):Code:=pc (bD Tryz.f56) (pd l)
theorem Su:bP Tryz.prog 56 [.bC 0,.bC 1] .normal=.ok ⟨56,24,c8 56 [.bC 0,.bC 1],[.code (bD Tryz.f56)],[],.run,.normal⟩:=by kernel_rfl
theorem Sv:dP 56 24 4:=fun st=>by kernel_rfl
theorem aeN:Pc 56 24 [.code (bD Tryz.f56)] ([(0,.agg [ss 1,.bC 7,i64 (v 4)]),(1,.agg [ss 1,.bC 17,i64 (v 4)])]) [((.seq false (.var 1) (.var 1)),true),((.cmp .eql (v 4) (v 4)),true)] [] [] 25 [] [17,19,21] [.inRegion (opsOf (Ss 6)) [17,18,19],.code .ret] [TB,.bC 7,.bC 17] []:={}
theorem aeO:di 24 (opsOf (Ss 6)) 17 [(17,TB),(19,.bC 19),(21,.bC 21)] 79 [.bC 19,.bC 21] 22:={}
theorem aeP:Pc 56 24 [.inRegion (opsOf (Ss 6)) [18,19],.code .ret] ([(17,TB),(22,TB)]) [] [] [] 3 [] [4] [.code .ret] [TB] []:={}
section
variable {w:World}
theorem IT{x:cH}{ts ts':Value}(ha:cP w ts x.tree)(hb:ig w ts' x.tree)(hn:x.tree.length≤4294967000):dS 56 #[fy x ts,fy x ts'] w fun v w'=>bA w w'∧v=.bool true:=by
 refine cF fun cs=>?_;obtain⟨ρ,hρ⟩:∃ρ:Env,ρ=Go.Proofs.YtmobbajggkjpgaaGreat.SX.jn [(4,x.bY)] [] [(7,ts),(17,ts')] [(1,x.name)]:=⟨_,rfl⟩;refine(aeN.go ρ (dV Su rfl (fy x ts) (fy x ts')) (by rw[hρ];rfl) ⟨by
  show(((ρ.s 1).toList==(ρ.s 1).toList) != false)=true;simp,by
  show decide (ρ.i 4=ρ.i 4)=true;simp,trivial⟩ trivial).trans fun g1 w1 hd=>?_
 obtain⟨I,B,bT,rfl,f1,F1,_⟩:=hd;rw[hρ]at F1;refine(aeO.go (bL [] [] [(19,ts),(21,ts')]) (Q:=fun v w'=>v=.bool true) F1 rfl fun w' f=>EH (ha.keep (f1.trans f)) (hb.keep (f1.trans f)) hn).trans fun g2 w2 bX=>?_;obtain⟨cB,vv,rfl,f2,rfl,F2⟩:=bX;refine(aeP.go (bL [] [] []) F2 rfl trivial trivial).trans fun g3 w3 cn=>?_;obtain⟨I3,B3,cC,rfl,f3,F3,_⟩:=cn;refine(leave1 Sv F3 rfl).mono fun g6 w6 dj=>?_;obtain⟨dJ,rfl,rfl,hL⟩:=dj;exact⟨dJ,_,rfl,hL,f1.trans (f2.trans f3),rfl⟩
end
end Go.Proofs.YtmobbajggkjpgaaGreat

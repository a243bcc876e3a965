/-
  GraphLets: whatever the flow, the number, the maker and the ends: Let answers as the document does: the law answers true. Conditions: none.
-/
import Derived.Test.YtmobbajggkjpgaaGreatLJ
import GoSem.Step
import Derived.Orders
import Derived.Conc.Own5
import Derived.Laws.Sem
import Derived.Conc.Events
import Derived.Laws.StructEq
import Derived.Laws.Append
import Derived.IntWalk
import Derived.Conc.Own4
import Derived.AtR
import Derived.Calls
import Derived.Test.YtmobbajggkjpgaaGreatRows
import Derived.ChangeSame
import Derived.ChangeVars
import Derived.JoinedOf
import Derived.RowKit
import Derived.RowKitTokens
import Derived.LaidLaws
import Derived.LaidHandle
import Derived.Stop.Joined
import Derived.Conc.Token
import Derived.Conc.TokenWalk
import Derived.Conc.Beside
import Derived.ProofKit
import Derived.SizedLaws
import Derived.ChangeSlices
import Derived.Deep.Slices
import Derived.WideKeyArgs
import Derived.Carry
set_option linter.unusedSectionVars false
set_option maxRecDepth 100000
set_option linter.unusedVariables false
set_option linter.unusedSimpArgs false
namespace Go.Proofs.YtmobbajggkjpgaaGreat
open Go.Proofs.YtmobbajggkjpgaaGreat.SX Go.Conc
open _root_.List renaming mem_singleton->ah,mem_cons_self->ai,mem_cons->aj,not_mem_nil->az
section
variable {w w0:World}{cs:List Frame}{fr:Frame}
theorem Dh{x s:Value}{F:gU}{E:List (Int×Int)}{n:Int}{m:cU}(h:mC w x F)(hE:dY w s E)(hlen:F.lets.length+F.outs.length≤100000000000000):dS 4 #[x,iV n,c_ m,s] w fun v w'=>bA w w'∧v=.bool true:=by
 have h':=h;obtain⟨ls,os,rfl,hl,ho⟩:=h;refine Goes.jy fun cs=>?_;obtain⟨ρ,hρ⟩:∃ρ:Env,ρ=bL [(10,n),(31,m.mul),(32,m.add),(33,m.cA),(34,m.panics)] [] [(8,ls),(9,os),(3,s)]:=⟨_,rfl⟩;refine(ajr.go ρ (pM aaQ rfl (.agg #[ls,os]) (iV n) (c_ m) s) (by rw[hρ];rfl) trivial trivial).trans fun g1 w1 hd=>?_;obtain⟨I,B,bT,rfl,f1,F1,bl,inj⟩:=hd;rw[hρ]at F1 bl;obtain⟨Y,eY⟩:∃Y,B 101=Y:=⟨_,rfl⟩;obtain⟨X,eX⟩:∃X,B 100=X:=⟨_,rfl⟩;have hY:(cu.obj 27 [iV m.mul,iV m.add,iV m.cA,iV m.panics]).at Tryz.prog w1 Y:=by rw[<-eY];exact bl.1.2
 have hX:(cu.obj 25 [ls,os]).at Tryz.prog w1 X:=by rw[<-eX];exact bl.2.1.2
 have fI:FA 4 72 (.inRegion (opsOf (iR 12)) [1,2,3,4,5,6]::[.code (iR 13),.code (iR 7)]) [] .normal [(1,iV n),(3,s),(4,bI X),(6,bI Y),(15,.agg #[ls,os])] bT:=by rw[<-eX,<-eY];exact F1
 refine(ajs.go (bL [] [] [(15,.agg #[ls,os])]) (Q:=fun v w'=>∃b,v=.bool b∧(b=false->F.lets.length≤256∧F.outs.length≤2147483647∧∀x∈F.lets,x.tree.length≤1024)) fI rfl fun w' f=>LX (h'.keep (f1.trans f)) hlen).trans fun g2 w2 bX=>?_;obtain⟨cB,vv,rfl,f2,⟨b,rfl,hb⟩,F2⟩:=bX;have mB:=f1.trans f2;have lg:FA 4 72 Pz [] .normal [(1,iV n),(3,s),(4,bI X),(6,bI Y),(16,.bool b)] cB:=F2.only rfl;obtain⟨σ,bZ⟩:∃σ:Env,σ=bL [(10,n),(31,m.mul),(32,m.add),(33,m.cA),(34,m.panics)] [(64,X),(65,Y)] [(8,ls),(9,os),(3,s)]:=⟨_,rfl⟩;have live:∀{w3:World} {cC:Frame} {lv:List (Nat×Value)},bA w w3->FA 4 72 (.inRegion (opsOf (iR 52)) [0,1]::[.code .ret,.code (iR 7)]) [] .normal lv cC->Goes (G cC cs) w3 (Out 4 cs w fun v w'=>v=.bool true):=fun{w3 cC lv} f3 F3=>by
  refine(aaR.go (bL [] [] []) (Q:=fun v w'=>v=.bool true) F3 rfl fun w' f1=>zE).trans fun g4 w4 c9=>?_;obtain⟨eg,vv,rfl,f4,rfl,F4⟩:=c9;have Nz:FA 4 72 QN [] .normal [(22,.bool true)] eg:=F4.sub fun x hx=>by obtain rfl:=ah.1 hx;exact ai ..
  exact aaS.out QL (bL [] [] []) Nz rfl trivial trivial (f3.trans f4) fun _ _ _ _=>rfl
 cases b with
 |true=>refine(ajt.go σ lg (by rw[bZ];rfl) trivial trivial).trans fun g3 w3 cn=>?_;obtain⟨I,B,cC,rfl,f3,F3,_⟩:=cn;exact live (mB.trans f3) F3
 |false=>
 obtain⟨arA,hout,QU⟩:=hb rfl;have hlen':F.lets.length≤1000000:=by omega
 have ji:∀x∈F.lets,x.tree.length≤999999:=fun x hx=>by have:=QU x hx;omega
 have Nr:F.lets.length≤4294967000:=by omega
 have Vr:∀x∈F.lets,x.tree.length≤4294967000:=fun x hx=>by have:=QU x hx;omega
 have Vt:F.outs.length≤4294967000:=by omega
 obtain⟨y,A',o',c',hs,hy,Dl,rH⟩:=hE.ex;obtain⟨τ,fz⟩:∃τ:Env,τ=bL [(10,n),(81,E.length),(82,c'),(83,o')] [(64,X),(65,Y),(80,A')] [(8,ls),(9,os)]:=⟨_,rfl⟩;have Dn:=bM hX f2;by_cases jD:E.length>2147483647
 ·obtain rfl:y=false:=by
   cases y with
   |false=>rfl
   |true=>rw[hy rfl]at jD;simp at jD
  refine(aaT.go τ lg (by rw[fz,hs];rfl) ⟨by rw[fz];exact decide_eq_true (by show((E.length:Nat):Int)>2147483647;omega),trivial⟩ trivial).trans fun g3 w3 cn=>?_;obtain⟨I,B,cC,rfl,f3,F3,_⟩:=cn;exact live (mB.trans f3) F3
 have JH:E.length≤4294967000:=by omega
 have eE:(dL y 81).ev τ=(E.length:Int):=by
  rw[fz];cases y with
  |false=>rfl
  |true=>rw[hy rfl];rfl
 have es:∀I B,(cG y 80 83 81 82).ev (cQ τ I B)=s:=fun I B=>by rw[fz,hs];cases y<;>rfl
 have Qf:(cG y 80 83 81 82).ev τ=s:=by rw[fz,hs];cases y<;>rfl
 refine((aaU y).go τ lg (by show[some _,some _,some _,some _,some _]=[some _,some ((cG y 80 83 81 82).ev τ),some _,some _,some _];rw[Qf,fz];rfl) ⟨by show decide ((dL y 81).ev τ>2147483647)=false;rw[eE];exact decide_eq_false (by omega),trivial⟩ ⟨by rw[fz];exact bE Dn (i:=0) rfl,by rw[fz];exact bE Dn (i:=1) rfl,trivial⟩).trans fun g3 w3 cn=>?_
 obtain⟨I3,B3,cC,rfl,f3,F3,_⟩:=cn;have oT:FA 4 72 (.inRegion (opsOf (iR 14)) [1,2,3]::[.code (iR 15)]) [] .normal [(1,iV n),(3,s),(4,bI X),(6,bI Y),(23,.agg #[ls,os])] cC:=by
  have h1:FA 4 72 (.inRegion (opsOf (iR 14)) [1,2,3]::[.code (iR 15)]) [] .normal [(1,iV n),(3,(cG y 80 83 81 82).ev (cQ τ I3 B3)),(4,bI X),(6,bI Y),(23,.agg #[ls,os])] cC:=by rw[fz]at F3⊢;exact F3
  rw[es]at h1;exact h1
 have Ay:=mB.trans f3;refine(aju.go (bL [] [] [(23,.agg #[ls,os])]) (Q:=fun v w'=>∃base ls' os',w3.heap.size≤base∧v=.agg #[ls',os']∧j9 w' base ls' F.lets∧j_ w' base os' F.outs) oT rfl fun w' f=>(AI (h'.keep (Ay.trans f)) Nr Vr Vt).mono fun v w2 hd=>⟨hd.1,by obtain⟨_,ls',os',e,h1,h2⟩:=hd;exact⟨_,ls',os',f.size,e,h1,h2⟩⟩).trans fun g4 w4 c9=>?_
 obtain⟨eg,vv,rfl,f4,⟨base,ls',os',gb,rfl,RQ,hwi⟩,F4⟩:=c9;have oO:=Ay.trans f4;have Nz:FA 4 72 [.inRegion (opsOf (iR 14)) [2,3],.code (iR 15)] [] .normal [(1,iV n),(3,s),(4,bI X),(6,bI Y),(24,.agg #[ls',os'])] eg:=F4.only rfl;obtain⟨κ,gv⟩:∃κ:Env,κ=bL [(10,n)] [(64,X),(65,Y)] [(3,s),(24,.agg #[ls',os'])]:=⟨_,rfl⟩;refine(ajv.go κ Nz (by rw[gv];rfl) trivial trivial).trans fun g5 w5 d_=>?_;obtain⟨I,B,gh,rfl,f5,F5,AZ,_⟩:=d_;rw[gv]at F5 AZ;obtain⟨V,eV⟩:∃V,B 100=V:=⟨_,rfl⟩;have hV0:(cu.obj 25 [eS,eS]).at Tryz.prog w5 V:=by rw[<-eV];exact AZ.1.2
 have gV:w4.heap.size≤V:=by rw[<-eV];exact AZ.1.1
 have OD:FA 4 72 (.inRegion (opsOf (iR 14)) [3]::[.code (iR 15)]) [] .normal [(1,iV n),(3,s),(4,bI X),(6,bI Y),(9,bI V),(24,.agg #[ls',os'])] gh:=by rw[<-eV];exact F5
 have G3:=oO.trans f5;have arB:=RQ.keep f5;have arC:=hwi.keep f5;have ajO:∀z∈[ls',os'],z.oneCell'=true:=by
  intro z hz;simp only[aj,az,or_false]at hz;rcases hz with rfl|rfl
  ·obtain⟨_,_,_,rfl,_⟩:=RQ;rfl
  ·obtain⟨_,_,rfl,_⟩:=hwi;rfl
 refine(e_ (B:=V) (T:=25) (el:=25) (sz:=2) (V:=.agg #[ls',os']) (cs':=[ls',os']) ajw (by kernel_rfl) (by
   obtain⟨_,_,_,rfl,_⟩:=RQ;obtain⟨_,_,rfl,_⟩:=hwi;rfl) (by
   obtain⟨_,_,_,rfl,_⟩:=RQ;obtain⟨_,_,rfl,_⟩:=hwi;rfl) ajO OD rfl rfl hV0 rfl).trans fun g6 w6 dj=>?_
 obtain⟨dJ,rfl,⟨kp6,hV⟩,F6⟩:=dj;have f46:bA w4 w6:=cq f5 (kp6.mono fun q hq=>by rw[hq];exact gV);have G4:=oO.trans f46;have aaY:=RQ.keep f46;have aaZ:=hwi.keep f46;have yE:=bM hX (f2.trans (f3.trans (f4.trans f46)));have hY6:=bM hY (f2.trans (f3.trans (f4.trans f46)));refine(ajx.go (bL [(10,n)] [(64,X),(65,Y),(66,V)] [(3,s)]) F6 rfl trivial trivial).trans fun g7 w7 lG=>?_;obtain⟨I,B,qj,rfl,f7,F7,_⟩:=lG;have f07:=G4.trans f7;refine(ajy.go (bL [] [] [(25,s)]) (Q:=fun v w'=>∃B,v=bU B 0 E.length (E.length+64)∧(cu.vec 43 (E.length+64) (j8 E (E.length+64))).at Tryz.prog w' B) F7 rfl fun w' f=>(IQ (hE.keep (f07.trans f)) JH).mono fun v w2 hd=>⟨hd.1,by obtain⟨_,B,_,e,h⟩:=hd;exact⟨B,e,h⟩⟩).trans fun g8 w8 xg=>?_
 obtain⟨Iu,vv,rfl,f8,⟨K,rfl,hK⟩,F8⟩:=xg;have Pg:=f07.trans f8;have f68:=f7.trans f8;obtain⟨z,ez⟩:∃z,bU K 0 E.length (E.length+64)=z:=⟨_,rfl⟩;have hEz:∀{w':World},bA w8 w'->dY w' z E:=fun f=>by rw[<-ez];exact IZ (bM hK f)
 rw[ez]at F8;have F8':FA 4 72 [.inRegion (opsOf (iR 30)) [2],.code (iR 31)] [] .normal [(1,iV n),(3,s),(4,bI X),(6,bI Y),(9,bI V),(26,z)] Iu:=F8.only rfl;obtain⟨π,kM⟩:∃π:Env,π=bL [(10,n),(31,m.mul),(32,m.add),(33,m.cA),(34,m.panics),(21,(k9 F n m E).1.1),(22,(k9 F n m E).1.2),(23,(k9 F n m E).2)] [(64,X),(65,Y),(66,V)] [(3,s),(8,ls),(9,os),(10,z),(11,ls'),(12,os'),(26,z)]:=⟨_,rfl⟩;have mI:∀{w':World},bA w6 w'->cw π w' [(eD 66 0,.bC 11),(eD 66 1,.bC 12)]:=fun f=>by rw[kM];exact⟨f.cell (bE hV (i:=0) rfl),f.cell (bE hV (i:=1) rfl),trivial⟩
 have mF:∀{w':World},bA w6 w'->cw π w' [(eD 64 0,.bC 8),(eD 64 1,.bC 9)]:=fun f=>by rw[kM];exact⟨f.cell (bE yE (i:=0) rfl),f.cell (bE yE (i:=1) rfl),trivial⟩
 have mY:∀{w':World},bA w6 w'->cw π w' AO:=fun f=>by rw[kM];exact⟨f.cell (bE hY6 (i:=0) rfl),f.cell (bE hY6 (i:=1) rfl),f.cell (bE hY6 (i:=2) rfl),f.cell (bE hY6 (i:=3) rfl),trivial⟩
 refine(ajz.go π F8' (by rw[kM];rfl) trivial (cw.app (mI f68) (mY f68))).trans fun g9 w9 xh=>?_;obtain⟨I,B,AY,rfl,f9,F9,_⟩:=xh;rw[kM]at F9;have f69:=f68.trans f9;have Qz:=G4.trans f69;have hin:∀{w':World},bA w6 w'->oy w' (.agg #[ls',os']) F:=fun f=>IS rfl (aaY.keep f) (aaZ.keep f);refine(ajA.go (bL [] [] [(28,.agg #[ls',os']),(29,iV n),(30,c_ m),(31,z)]) (Q:=fun v w'=>v=.tuple #[dh (k9 F n m E).1,iV (k9 F n m E).2]) F9 rfl fun w' f=>Nq (hin (f69.trans f)) (hEz (f9.trans f)) JH hlen' ji).trans fun g10 w10 MO=>?_;obtain⟨Pe,vv,rfl,f10,rfl,F10⟩:=MO;have f6A:=f69.trans f10;have ajQ:FA 4 72 QO [] .normal [(1,iV n),(3,s),(4,bI X),(6,bI Y),(9,bI V),(10,z),(32,.tuple #[dh (k9 F n m E).1,iV (k9 F n m E).2])] Pe:=F10.only rfl;refine(ajB.go π ajQ (by rw[kM];rfl) trivial (cw.app (mF f6A) (mY f6A))).trans fun g11 w11 Ud=>?_;obtain⟨I,B,aat,rfl,f11,F11,aa0,_⟩:=Ud;rw[kM]at F11 aa0;obtain⟨O,eO⟩:∃O,B 100=O:=⟨_,rfl⟩;have hO:(cu.obj 43 [cY (k9 F n m E).1.1,iV (k9 F n m E).1.2]).at Tryz.prog w11 O:=by rw[<-eO];exact aa0.1.2
 have f6B:=f6A.trans f11;have f0B:=G4.trans f6B;have ajR:FA 4 72 (.inRegion (opsOf (iR 126)) [4,5,6,7,8,9,10]::[.code (iR 127)]) [] .normal [(3,s),(4,bI X),(9,bI V),(10,z),(11,bI O),(12,iV (k9 F n m E).2),(36,.agg #[ls,os]),(37,iV n),(38,c_ m),(39,s)] aat:=by rw[<-eO];exact F11
 refine(ajC.go (bL [] [] [(36,.agg #[ls,os]),(37,iV n),(38,c_ m),(39,s)]) (Q:=fun v w'=>v=.tuple #[dh (k9 F n m E).1,iV (k9 F n m E).2]) ajR rfl fun w' f=>Np (h'.keep (f0B.trans f)) (hE.keep (f0B.trans f)) JH hlen' ji).trans fun g12 w12 Ue=>?_;obtain⟨aaw,vv,rfl,f12,rfl,F12⟩:=Ue;have f6C:=f6B.trans f12;have ajS:FA 4 72 QS [] .normal [(3,s),(4,bI X),(9,bI V),(10,z),(11,bI O),(12,iV (k9 F n m E).2),(40,.tuple #[dh (k9 F n m E).1,iV (k9 F n m E).2])] aaw:=F12.only rfl;obtain⟨θ,yM⟩:∃θ:Env,θ=bL [(21,(k9 F n m E).1.1),(22,(k9 F n m E).1.2),(23,(k9 F n m E).2)] [(64,X),(66,V),(67,O)] [(3,s),(8,ls),(9,os),(10,z),(11,ls'),(12,os')]:=⟨_,rfl⟩;refine(ajD.go θ ajS (by rw[yM];rfl) ⟨by rw[yM];exact decide_eq_true rfl,by rw[yM];exact decide_eq_true rfl,by rw[yM];exact decide_eq_true rfl,trivial⟩ ⟨by rw[yM];exact f12.cell (bE hO (i:=0) rfl),by rw[yM];exact f12.cell (bE hO (i:=1) rfl),by rw[yM];exact f6C.cell (bE yE (i:=0) rfl),by rw[yM];exact f6C.cell (bE yE (i:=1) rfl),by rw[yM];exact f6C.cell (bE hV (i:=0) rfl),by rw[yM];exact f6C.cell (bE hV (i:=1) rfl),trivial⟩).trans fun g13 w13 MT=>?_;obtain⟨I,B,aax,rfl,f13,QA,_⟩:=MT;rw[yM]at QA;have f6D:=f6C.trans f13;have f0D:=G4.trans f6D;refine(ajE.go (bL [] [] [(52,.agg #[ls',os']),(53,.agg #[ls,os])]) (Q:=fun v w'=>v=.bool true) QA rfl fun w' f=>EL (hin (f6D.trans f)) (h'.keep (f0D.trans f)) Nr Vr Vt).trans fun g14 w14 ajU=>?_;obtain⟨ajV,vv,rfl,f14,rfl,F14⟩:=ajU;have f6E:=f6D.trans f14;have ajW:FA 4 72 aaV [] .normal [(3,s),(9,bI V),(10,z),(51,.bool true),(54,.bool true)] ajV:=F14.only rfl;refine(ajF.go θ ajW (by rw[yM];rfl) trivial trivial).trans fun g15 w15 ajX=>?_;obtain⟨I,B,arI,rfl,f15,F15,_⟩:=ajX;rw[yM]at F15;have f6F:=f6E.trans f15;have f8F:bA w8 w15:=f9.trans (f10.trans (f11.trans (f12.trans (f13.trans (f14.trans f15)))));refine(ajG.go (bL [] [] [(57,z),(58,s)]) (Q:=fun v w'=>v=.bool true) F15 rfl fun w' f=>EG (hEz (f8F.trans f)) (hE.keep ((G4.trans f6F).trans f)) JH).trans fun g16 w16 ajY=>?_;obtain⟨ajZ,vv,rfl,f16,rfl,F16⟩:=ajY;have f6G:=f6F.trans f16;have aj1:FA 4 72 aaW [] .normal [(9,bI V),(10,z),(56,.bool true),(59,.bool true)] ajZ:=F16.only rfl;refine(ajH.go θ aj1 (by rw[yM];rfl) trivial ⟨by rw[yM];exact f6G.cell (bE hV (i:=0) rfl),by rw[yM];exact f6G.cell (bE hV (i:=1) rfl),trivial⟩).trans fun g17 w17 aj2=>?_;obtain⟨I,B,arK,rfl,f17,F17,_⟩:=aj2;rw[yM]at F17;have f6H:=f6G.trans f17;refine(ajI.go (bL [] [] [(62,.agg #[ls',os'])]) (Q:=fun v w'=>v=.bool true) F17 rfl fun w' f=>yK (aaY.keep (f6H.trans f)) (aaZ.keep (f6H.trans f)) Nr Vr Vt).trans fun g18 w18 aj3=>?_;obtain⟨aj4,vv,rfl,f18,rfl,F18⟩:=aj3;have aj5:FA 4 72 aaX [] .normal [(10,z),(61,.bool true),(63,.bool true)] aj4:=F18.only rfl;refine(ajJ.go θ aj5 (by rw[yM];rfl) trivial trivial).trans fun g19 w19 aj6=>?_;obtain⟨I,B,arN,rfl,f19,F19,_⟩:=aj6;rw[yM]at F19;have f8J:bA w8 w19:=f8F.trans (f16.trans (f17.trans (f18.trans f19)));refine(ajK.go (bL [] [] [(66,z)]) (Q:=fun v w'=>v=.bool true) F19 rfl fun w' f=>by rw[<-ez];exact yI (bM hK (f8J.trans f)) JH).trans fun g20 w20 aj7=>?_
 obtain⟨aj8,vv,rfl,f20,rfl,F20⟩:=aj7;have aj9:FA 4 72 QT [] .normal [(65,.bool true),(67,.bool true)] aj8:=F20.only rfl;refine(ajL.go θ aj9 (by rw[yM];rfl) trivial trivial).trans fun g21 w21 aj_=>?_;obtain⟨I,B,arP,rfl,f21,F21,_⟩:=aj_;rw[yM]at F21;refine(ajM.go (bL [] [] []) (Q:=fun v w'=>v=.bool true) F21 rfl fun w' f=>zE).trans fun g22 w22 aj'=>?_;obtain⟨aka,vv,rfl,f22,rfl,F22⟩:=aj';have akb:FA 4 72 [.inRegion (opsOf (iR 254)) [28,29],.code .ret] [] .normal [(69,.bool true),(70,.bool true)] aka:=F22.sub fun x hx=>by
  simp only[aj,az,or_false]at hx;rcases hx with rfl|rfl
  ·exact cD rfl
  ·exact cD rfl
 exact ajN.out QL (bL [] [] []) akb rfl trivial trivial (Pg.trans (f8J.trans (f20.trans (f21.trans f22)))) fun _ _ _ _=>rfl
end
end Go.Proofs.YtmobbajggkjpgaaGreat
namespace Go.Proofs.YtmobbajggkjpgaaGreat
open Go.ChangeShapes Go.WideShapes Go.ChangeAt Go.RowKit Go.Proofs.YtmobbajggkjpgaaGreat.SX
open _root_.List renaming getElem?_eq_getElem->af,mem_cons_self->ai,all_eq_true->aD,length_map->aE,getElem?_map->aL,getElem?_eq_none->aM,length_range->aT
open _root_.Option.some renaming inj->au
theorem kept{W W':World}{may:MemPlace->Prop}(h:bS (fun n=>W.heap.size≤n) W W'):W.keptBut W' may:=by
 refine⟨h.os,h.output,fun i hi=>?_⟩;have e:=h.heap i (Nat.not_le.2 hi);rw[e];split
 ·rename_i e1 e2;cases e1.symm.trans e2;exact⟨rfl,rfl,rfl,fun _ _=>rfl⟩
 ·rename_i e1 e2;cases e1.symm.trans e2;exact .inr ⟨rfl,rfl⟩
 ·rfl
theorem Tryz.uq:Tryz.prog.cellsOf 2=1:=by kernel_rfl
theorem Tryz.AT:Tryz.prog.cellsOf 3=1:=by kernel_rfl
theorem Tryz.Vu:Tryz.prog.cellsOf 9=1:=by kernel_rfl
theorem Tryz.PA:Tryz.prog.cellsOf 22=1:=by kernel_rfl
theorem Tryz.PB:Tryz.prog.cellsOf 23=1:=by kernel_rfl
theorem Tryz.PC:Tryz.prog.cellsOf 25=2:=by kernel_rfl
theorem Tryz.PD:Tryz.prog.cellsOf 27=4:=by kernel_rfl
theorem Tryz.Hp:Tryz.prog.cellsOf 41=1:=by kernel_rfl
theorem Tryz.Hq:Tryz.prog.cellsOf 43=2:=by kernel_rfl
theorem Tryz.PE:Tryz.prog.cellsOf 48=1:=by kernel_rfl
theorem Tryz.Hr:Tryz.prog.cellsOf 50=3:=by kernel_rfl
theorem Tryz.vu:Tryz.prog.cellsOf 77=4:=by kernel_rfl
theorem Tryz.PF:Tryz.prog.bytesOf 50=48:=by kernel_rfl
theorem Tryz.Vv:Tryz.prog.bytesOf 3=8:=by kernel_rfl
theorem Tryz.PG:Tryz.prog.cellTypes Tryz.prog.depth 25=some [22,23]:=by kernel_rfl
section
variable {H:Type}{enc:TypeId×Value->H}{W:World}
theorem two{l:List Value}(h:l.length=2):∃a b,l=[a,b]:=by
 match l,h with
 |[a,b],_=>exact⟨a,b,rfl⟩
theorem three{l:List Value}(h:l.length=3):∃a b c,l=[a,b,c]:=by
 match l,h with
 |[a,b,c],_=>exact⟨a,b,c,rfl⟩
theorem four{l:List Value}(h:l.length=4):∃a b c d,l=[a,b,c,d]:=by
 match l,h with
 |[a,b,c,d],_=>exact⟨a,b,c,d,rfl⟩
theorem x_{l r:List Nat}{n:Nat}(h:∀x∈l++r,x≤n):(∀x∈l,x≤n)∧∀x∈r,x≤n:=
 ⟨fun x hx=>h x (List.mem_append_left _ hx),fun x hx=>h x (List.mem_append_right _ hx)⟩
theorem JA{n:Nat}{cs:List Value}{x:DataW H×List MemPlace}(h:DataW.trod enc Tryz.prog W 0 (fun _=>true) true n 77 cs=some x):
  ∃r:Nd,cs=[cY r.op,iV r.n,iV r.kids,iV r.bY]:=by
 obtain⟨xs,k,_,_,hl,hlen,hf⟩:=DataW.trod_struct Tryz.underlying77 h;rw[Tryz.vu]at hl;obtain⟨a,b,c,d,rfl⟩:=four hl;have hl4:xs.length=4:=hlen;have g0:DataW.trod enc Tryz.prog W 0 (fun _=>true) true k 41 [a]=some (xs[0]'(by omega)):=by have:=hf 0 _ rfl;rw[af (by omega)]at this;simpa[Tryz.Hp] using this
 have g1:DataW.trod enc Tryz.prog W 0 (fun _=>true) true k 2 [b]=some (xs[1]'(by omega)):=by have:=hf 1 _ rfl;rw[af (by omega)]at this;simpa[Tryz.uq] using this
 have g2:DataW.trod enc Tryz.prog W 0 (fun _=>true) true k 3 [c]=some (xs[2]'(by omega)):=by have:=hf 2 _ rfl;rw[af (by omega)]at this;simpa[Tryz.AT] using this
 have g3:DataW.trod enc Tryz.prog W 0 (fun _=>true) true k 3 [d]=some (xs[3]'(by omega)):=by have:=hf 3 _ rfl;rw[af (by omega)]at this;simpa[Tryz.AT] using this
 obtain⟨n0,e0,_⟩:=DataW.trod_int Tryz.underlying41 g0;obtain⟨n1,e1,_⟩:=DataW.trod_int Tryz.underlying2 g1;obtain⟨n2,e2,_⟩:=DataW.trod_int Tryz.underlying3 g2;obtain⟨n3,e3,_⟩:=DataW.trod_int Tryz.underlying3 g3;cases e0;cases e1;cases e2;cases e3;exact⟨⟨n0,n1,n2,n3⟩,rfl⟩
instance:Inhabited Nd:=⟨⟨0,0,0,0⟩⟩
theorem Fj{n:Nat}{v:Value}{x:DataW H×List MemPlace}(h:DataW.trod enc Tryz.prog W 0 (fun _=>true) true n 48 [v]=some x):∃l:List Nd,ig W v l:=by
 rcases Go.Deep.open_slice Tryz.underlying48 h with⟨hc,hx⟩|⟨a,len,cap,m,k,D,Pl,hc,_,hl,hm,IK,hx,cL⟩
 ·cases hc;exact⟨[],⟨.inl ⟨.inl ⟨rfl,rfl⟩⟩⟩⟩
 ·cases hc;cases hx;simp only[if_true]at IK;subst IK;by_cases h0:len=0
  ·subst h0;exact⟨[],⟨.inr ⟨rfl,some a,m,rfl⟩⟩⟩
  ·have hsp:a.spot=none:=by
    obtain⟨cs',h1,_⟩:=cL 0 (by omega);obtain⟨_,_,h3⟩:=World.cells?_some h1;have h4:=h3 0 (by rw[Tryz.vu];decide);obtain⟨_,hlen,_⟩:=World.cells?_some h1;rw[af (by rw[hlen,Tryz.vu];decide)]at h4;simpa[Addr.add] using World.cell?_spot h4
   obtain⟨b,o,spot⟩:=a;dsimp only at hsp;subst hsp;obtain⟨R,hR⟩:=Go.Deep.choose_lt (n:=len) (p:=fun i (r:Nd)=>jF W b (o+i*4) r) fun i hi=>by
    obtain⟨cs',h1,h2⟩:=cL i (by omega);obtain⟨r,rfl⟩:=JA h2;obtain⟨_,_,h3⟩:=World.cells?_some h1;rw[Tryz.vu]at h3;have bY:∀j v,j<4->[cY r.op,iV r.n,iV r.kids,iV r.bY][j]?=some v->W.cell? ⟨b,o+i*4+j,none⟩=some v:=fun j v hj hv=>by have h4:=(h3 j hj).trans hv;rwa[add_plain,add_plain]at h4
    exact⟨r,bY 0 _ (by decide) rfl,bY 1 _ (by decide) rfl,bY 2 _ (by decide) rfl,bY 3 _ (by decide) rfl⟩
   refine⟨(List.range len).map R,⟨.inl ⟨.inr ⟨b,o,m,?_,?_,fun k r hr=>?_⟩⟩⟩⟩
   ·rw[aE,aT];rfl
   ·rw[aE,aT];exact hl
   ·rw[aL]at hr;by_cases hk:k<len
    ·rw[List.getElem?_range hk]at hr;cases hr;exact hR k hk
    ·rw[aM (by rw[aT];omega)]at hr;cases hr
theorem Ns{n:Nat}{cs:List Value}{x:DataW H×List MemPlace}(h:DataW.trod enc Tryz.prog W 0 (fun _=>true) true n 50 cs=some x):
  ∃(r:cH) (ts:Value),cs=[.string r.name,ts,iV r.bY]∧ig W ts r.tree:=by
 obtain⟨xs,k,_,_,hl,hlen,hf⟩:=DataW.trod_struct Tryz.underlying50 h;rw[Tryz.Hr]at hl;obtain⟨a,b,c,rfl⟩:=three hl;have hl4:xs.length=3:=hlen;have g0:DataW.trod enc Tryz.prog W 0 (fun _=>true) true k 9 [a]=some (xs[0]'(by omega)):=by have:=hf 0 _ rfl;rw[af (by omega)]at this;simpa[Tryz.Vu] using this
 have g1:DataW.trod enc Tryz.prog W 0 (fun _=>true) true k 48 [b]=some (xs[1]'(by omega)):=by have:=hf 1 _ rfl;rw[af (by omega)]at this;simpa[Tryz.PE] using this
 have g2:DataW.trod enc Tryz.prog W 0 (fun _=>true) true k 3 [c]=some (xs[2]'(by omega)):=by have:=hf 2 _ rfl;rw[af (by omega)]at this;simpa[Tryz.AT] using this
 obtain⟨s,e0,_⟩:=DataW.trod_string Tryz.underlying9 g0;obtain⟨l,hN⟩:=Fj g1;obtain⟨n2,e2,_⟩:=DataW.trod_int Tryz.underlying3 g2;cases e0;cases e2;exact⟨⟨s,l,n2⟩,b,rfl,hN⟩
instance:Inhabited cH:=⟨⟨⟨#[]⟩,[],0⟩⟩
theorem JB{n:Nat}{v:Value}{d:DataW H}{ps:List MemPlace}(h:DataW.trod enc Tryz.prog W 0 (fun _=>true) true n 22 [v]=some (d,ps))(hw:∀x∈d.weights Tryz.prog 22,x≤reachBytes)(hv:∀a len cap,v=.slice (some a) len cap->a.spot=none):
  ∃L:List cH,nA W v L∧L.length*48≤reachBytes:=by
 rcases Go.Deep.open_slice Tryz.underlying22 h with⟨hc,hx⟩|⟨a,len,cap,m,k,D,Pl,hc,_,hl,hm,IK,hx,cL⟩
 ·cases hc;exact⟨[],⟨true,0,0,0,rfl,fun _=>rfl,(fun h=>by cases h),fun k r hr=>by cases hr⟩,by simp⟩
 ·cases hc;cases hx;simp only[if_true]at IK;subst IK;obtain⟨b,o,spot⟩:=a;obtain rfl:spot=none:=hv _ _ _ rfl;have hw1:=hw ((((List.range len).map D).length+((List.range (m-len)).map fun j=>D (len+j)).length)*Tryz.prog.bytesOf 50) (by
   rw[DataW.weights,Tryz.underlying22];exact ai)
  obtain⟨R,hR⟩:=Go.Deep.choose_lt (n:=len) (p:=fun i (r:cH)=>pS W b (o+i*3) r) fun i hi=>by
   obtain⟨cs',h1,h2⟩:=cL i (by omega);obtain⟨r,ts,rfl,hN⟩:=Ns h2;obtain⟨_,_,h3⟩:=World.cells?_some h1;rw[Tryz.Hr]at h3;have bY:∀j v,j<3->[.string r.name,ts,iV r.bY][j]?=some v->W.cell? ⟨b,o+i*3+j,none⟩=some v:=fun j v hj hv=>by have h4:=(h3 j hj).trans hv;rwa[add_plain,add_plain]at h4
   exact⟨r,ts,bY 0 _ (by decide) rfl,bY 1 _ (by decide) rfl,bY 2 _ (by decide) rfl,hN⟩
  refine⟨(List.range len).map R,⟨false,b,o,m,?_,(fun e=>by cases e),fun _=>?_,fun k r hr=>?_⟩,?_⟩
  ·rw[aE,aT];rfl
  ·rw[aE,aT];exact hl
  ·rw[aL]at hr;by_cases hk:k<len
   ·rw[List.getElem?_range hk]at hr;cases hr;exact hR k hk
   ·rw[aM (by rw[aT];omega)]at hr;cases hr
  ·rw[aE,aT]at*;rw[Tryz.PF]at hw1;omega
theorem JC{n:Nat}{v:Value}{d:DataW H}{ps:List MemPlace}(h:DataW.trod enc Tryz.prog W 0 (fun _=>true) true n 23 [v]=some (d,ps))(hw:∀x∈d.weights Tryz.prog 23,x≤reachBytes)(hv:∀a len cap,v=.slice (some a) len cap->a.spot=none):
  ∃l:List Int,kB W v l∧l.length*8≤reachBytes:=by
 rcases Go.Deep.open_slice1 Tryz.underlying23 Tryz.AT h with⟨hc,hx⟩|⟨a,len,cap,m,k,V,D,Pl,hc,_,hl,hm,IK,hx,cL⟩
 ·cases hc;exact⟨[],⟨true,0,0,0,rfl,fun _=>rfl,(fun h=>by cases h),fun k r hr=>by cases hr⟩,by simp⟩
 ·cases hc;cases hx;simp only[if_true]at IK;subst IK;obtain⟨b,o,spot⟩:=a;obtain rfl:spot=none:=hv _ _ _ rfl;have hw1:=hw ((((List.range len).map D).length+((List.range (m-len)).map fun j=>D (len+j)).length)*Tryz.prog.bytesOf 3) (by
   rw[DataW.weights,Tryz.underlying23];exact ai)
  obtain⟨R,hR⟩:=Go.Deep.choose_lt (n:=len) (p:=fun i (n:Int)=>W.cell? ⟨b,o+i,none⟩=some (iV n)) fun i hi=>by obtain⟨h1,h2⟩:=cL i (by omega);obtain⟨n,e,_,hw⟩:=DataW.trod_int Tryz.underlying3 h2;rw[add_plain,(List.cons.inj e).1]at h1;exact⟨n,h1⟩
  refine⟨(List.range len).map R,⟨false,b,o,m,?_,(fun e=>by cases e),fun _=>?_,fun k r hr=>?_⟩,?_⟩
  ·rw[aE,aT];rfl
  ·rw[aE,aT];exact hl
  ·rw[aL]at hr;by_cases hk:k<len
   ·rw[List.getElem?_range hk]at hr;cases hr;exact hR k hk
   ·rw[aM (by rw[aT];omega)]at hr;cases hr
  ·rw[aE,aT]at*;rw[Tryz.Vv]at hw1;omega
theorem JD{v:Value}{d:DataW H}{ps:List MemPlace}{base:Nat}(h:DataW.Trod enc Tryz.prog W 0 (fun _=>true) true 25 v d ps)(hok:Value.okWide Tryz.prog W .any base 25 v)(hw:∀x∈d.weights Tryz.prog 25,x≤reachBytes):
  ∃F:gU,mC W v F∧F.lets.length+F.outs.length≤100000000000000:=by
 obtain⟨fuel,hf⟩:=h;obtain⟨cs,rfl,hsz,hrow⟩:∃cs,v=.agg cs∧cs.size=Tryz.prog.cellsOf 25∧Row.okWide Tryz.prog W .any base 25 cs:=by unfold Value.okWide at hok;simp only[Tryz.underlying25]at hok;exact hok
 have hf':DataW.trod enc Tryz.prog W 0 (fun _=>true) true fuel 25 cs.toList=some (d,ps):=hf;obtain⟨xs,n,_,hx,hl,hlen,Vw⟩:=DataW.trod_struct Tryz.underlying25 hf';rw[Tryz.PC]at hl;obtain⟨a,b,hcs⟩:=two hl;obtain rfl:cs=#[a,b]:=by rw[<-Array.toList_inj];exact hcs
 cases hx
 match xs,hlen with
 |[x0,x1],_=>
  have g0:DataW.trod enc Tryz.prog W 0 (fun _=>true) true n 22 [a]=some x0:=by have:=Vw 0 _ rfl;simpa[Tryz.PA] using this
  have g1:DataW.trod enc Tryz.prog W 0 (fun _=>true) true n 23 [b]=some x1:=by have:=Vw 1 _ rfl;simpa[Tryz.PB] using this
  have hw':∀x∈x0.1.weights Tryz.prog 22++(x1.1.weights Tryz.prog 23++[]),x≤reachBytes:=fun x hx=>hw x (by rw[DataW.weights,Tryz.underlying25];exact hx)
  obtain⟨w0,w1⟩:=x_ hw';obtain⟨w1,_⟩:=x_ w1;have spot:∀i v u,#[a,b][i]?=some v->[22,23][i % 2]?=some u->(∃z,Tryz.prog.underlying u=some (.slice z))->∀a' len cap,v=.slice (some a') len cap->a'.spot=none:=fun i v u hi hu ⟨z,hz⟩ a' len cap hv=>by
   obtain⟨ts,h1,_,h3⟩:=hrow;obtain rfl:=au (Tryz.PG.symm.trans h1);obtain⟨u',hu',hok⟩:=h3 i v hi;have:u'=u:=by have h1:[22,23][i % 2]?=some u':=hu';rw[h1]at hu;exact au hu
   subst this hv;simp only[Cell.okWide,Cell.ok,hz]at hok;exact hok.2.2.2.1
  obtain⟨L,hL,hL1⟩:=JB (d:=x0.1) (ps:=x0.2) g0 w0 (spot 0 a 22 rfl rfl ⟨_,Tryz.underlying22⟩);obtain⟨O,hO,hO1⟩:=JC (d:=x1.1) (ps:=x1.2) g1 w1 (spot 1 b 23 rfl rfl ⟨_,Tryz.underlying23⟩);refine⟨⟨L,O⟩,⟨a,b,rfl,hL,hO⟩,?_⟩;have:reachBytes=140737488351232:=rfl;show L.length+O.length≤_;omega
theorem Fo{v:Value}{d:DataW H}{ps:List MemPlace}{base:Nat}(h:DataW.Trod enc Tryz.prog W 0 (fun _=>true) true 27 v d ps)(hok:Value.okWide Tryz.prog W .any base 27 v):∃m:cU,v=c_ m:=by
 obtain⟨fuel,hf⟩:=h;obtain⟨cs,rfl,hsz,hrow⟩:∃cs,v=.agg cs∧cs.size=Tryz.prog.cellsOf 27∧Row.okWide Tryz.prog W .any base 27 cs:=by unfold Value.okWide at hok;simp only[Tryz.underlying27]at hok;exact hok
 have hf':DataW.trod enc Tryz.prog W 0 (fun _=>true) true fuel 27 cs.toList=some (d,ps):=hf;obtain⟨xs,n,_,hx,hl,hlen,Vw⟩:=DataW.trod_struct Tryz.underlying27 hf';rw[Tryz.PD]at hl;obtain⟨a,b,c,e,hcs⟩:=four hl;obtain rfl:cs=#[a,b,c,e]:=by rw[<-Array.toList_inj];exact hcs
 have hl4:xs.length=4:=hlen;have g:∀(i:Nat) (hi:i<4) (z:Value),[a,b,c,e][i]?=some z->∃n:Int,z=iV n:=fun i hi z hz=>by
  have HJ:DataW.trod enc Tryz.prog W 0 (fun _=>true) true n 2 [z]=some (xs[i]'(by omega)):=by
   rcases(by omega:i=0∨i=1∨i=2∨i=3)with rfl|rfl|rfl|rfl
   all_goals
    first
     |have:=Vw 0 _ rfl;rw[af (by omega)]at this;cases hz;simpa[Tryz.uq] using this;done
     |have:=Vw 1 _ rfl;rw[af (by omega)]at this;cases hz;simpa[Tryz.uq] using this;done
     |have:=Vw 2 _ rfl;rw[af (by omega)]at this;cases hz;simpa[Tryz.uq] using this;done
     |have:=Vw 3 _ rfl;rw[af (by omega)]at this;cases hz;simpa[Tryz.uq] using this;done
  obtain⟨n0,e0,_⟩:=DataW.trod_int Tryz.underlying2 HJ;cases e0;exact⟨n0,rfl⟩
 obtain⟨n0,rfl⟩:=g 0 (by decide) a rfl;obtain⟨n1,rfl⟩:=g 1 (by decide) b rfl;obtain⟨n2,rfl⟩:=g 2 (by decide) c rfl;obtain⟨n3,rfl⟩:=g 3 (by decide) e rfl;exact⟨⟨n0,n1,n2,n3⟩,rfl⟩
theorem JE{n:Nat}{cs:List Value}{x:DataW H×List MemPlace}(h:DataW.trod enc Tryz.prog W 0 (fun _=>true) true n 43 cs=some x):∃e:Int×Int,cs=[cY e.1,iV e.2]:=by
 obtain⟨xs,k,_,_,hl,hlen,hf⟩:=DataW.trod_struct Tryz.underlying43 h;rw[Tryz.Hq]at hl;obtain⟨a,b,rfl⟩:=two hl;have VB:xs.length=2:=hlen;have g0:DataW.trod enc Tryz.prog W 0 (fun _=>true) true k 41 [a]=some (xs[0]'(by omega)):=by have:=hf 0 _ rfl;rw[af (by omega)]at this;simpa[Tryz.Hp] using this
 have g1:DataW.trod enc Tryz.prog W 0 (fun _=>true) true k 2 [b]=some (xs[1]'(by omega)):=by have:=hf 1 _ rfl;rw[af (by omega)]at this;simpa[Tryz.uq] using this
 obtain⟨n0,e0,_⟩:=DataW.trod_int Tryz.underlying41 g0;obtain⟨n1,e1,_⟩:=DataW.trod_int Tryz.underlying2 g1;cases e0;cases e1;exact⟨(n0,n1),rfl⟩
theorem JF{v:Value}{d:DataW H}{ps:List MemPlace}{base:Nat}(h:DataW.Trod enc Tryz.prog W 0 (fun _=>true) true 28 v d ps)(hok:Value.okWide Tryz.prog W .any base 28 v):∃E:List (Int×Int),dY W v E:=by
 have Mu:Cell.okWide Tryz.prog W .any base 28 v:=by unfold Value.okWide at hok;simp only[Tryz.underlying28]at hok;exact hok
 have hv:∀a len cap,v=.slice (some a) len cap->a.spot=none:=fun a len cap e=>by subst e;simp only[Cell.okWide,Cell.ok,Tryz.underlying28]at Mu;exact Mu.2.2.2.1
 obtain⟨fuel,hf⟩:=h;have hcells:v.cells.toList=[v]:=by
  cases v with
  |agg cs=>simp only[Cell.okWide,Cell.ok,Tryz.underlying28]at Mu
  |_=>rfl
 have hf':DataW.trod enc Tryz.prog W 0 (fun _=>true) true fuel 28 [v]=some (d,ps):=by rw[<-hcells];exact hf
 rcases Go.Deep.open_slice Tryz.underlying28 hf' with⟨hc,hx⟩|⟨a,len,cap,m,k,D,Pl,hc,_,hl,hm,IK,hx,cL⟩
 ·cases hc;exact⟨[],⟨true,0,0,0,rfl,fun _=>rfl,(fun h=>by cases h),fun k r hr=>by cases hr⟩⟩
 ·cases hc;cases hx;simp only[if_true]at IK;subst IK;obtain⟨b,o,spot⟩:=a;obtain rfl:spot=none:=hv _ _ _ rfl;obtain⟨R,hR⟩:=Go.Deep.choose_lt (n:=len) (p:=fun i (e:Int×Int)=>W.cell? ⟨b,o+i*2,none⟩=some (cY e.1)∧W.cell? ⟨b,o+i*2+1,none⟩=some (iV e.2)) fun i hi=>by
   obtain⟨cs',h1,h2⟩:=cL i (by omega);obtain⟨r,rfl⟩:=JE h2;obtain⟨_,_,h3⟩:=World.cells?_some h1;rw[Tryz.Hq]at h3;have bY:∀j v,j<2->[cY r.1,iV r.2][j]?=some v->W.cell? ⟨b,o+i*2+j,none⟩=some v:=fun j v hj hv=>by have h4:=(h3 j hj).trans hv;rwa[add_plain,add_plain]at h4
   exact⟨r,bY 0 _ (by decide) rfl,bY 1 _ (by decide) rfl⟩
  refine⟨(List.range len).map R,⟨false,b,o,m,?_,(fun e=>by cases e),fun _=>?_,fun k r hr=>?_⟩⟩
  ·rw[aE,aT];rfl
  ·rw[aE,aT];exact hl
  ·rw[aL]at hr;by_cases hk:k<len
   ·rw[List.getElem?_range hk]at hr;cases hr;exact hR k hk
   ·rw[aM (by rw[aT];omega)]at hr;cases hr
end
theorem laidOut:laidOutB Tryz.prog=true:=by kernel_rfl
theorem ur(os:Os)(started:os.Started)(H:Type)(enc:TypeId×Value->H):
  ReturnsInHanded {} Tryz.checked os 4 .any (Rows.graphLetsSpec.pre6 enc Tryz.prog Tryz.f4 Rows.graphLetsRow.domain false) (Rows.graphLetsSpec.post enc Tryz.prog Tryz.f4 false true false false):=by
 refine returnsInHanded_of_change_sized (C:=Tryz.checked) Tryz.own started (by kernel_rfl) Tryz.func4
  (ChangeSpec.witness6 (enc:=enc) (C:=Tryz.checked) false ⟨#[],#[.agg #[.slice none 0 0,.slice none 0 0],.int .i64 0,.agg #[.int .i64 0,.int .i64 0,.int .i64 0,.int .i64 0],.slice none 0 0],[]⟩ 8 (by kernel_rfl) (by kernel_rfl) (by kernel_rfl) (by kernel_rfl)) ?_
 intro W base args ds gs before aa2 hW _ AX _;have hval:∀(j:Nat) t v,Tryz.f4.params[j]?=some t->args[j]?=some v->Value.okWide Tryz.prog W .any base t v:=aa2;have hW':=hW;obtain⟨p,q,hA0,hV,rfl,_,_⟩:=hW;have hA:DataW.TrodAll enc Tryz.prog W 0 (fun _=>true) true Tryz.f4.params.toList args.toList ds p:=hA0;rw[Tryz.params4]at hA hval;obtain⟨v0,v1,v2,v3,d0,d1,d2,d3,p0,p1,p2,p3,rfl,rfl,rfl,h0,h1,h2,h3⟩:=trodAll_four hA;obtain⟨rfl,rfl⟩:=trodVars_none hV;have akc:∀x∈d0.weights Tryz.prog 25,x≤reachBytes:=fun x hx=>by
  have h1:=aD.1 AX x (by show x∈DataW.weightsEach Tryz.prog (Tryz.f4.params.toList++_) _;rw[Tryz.params4];exact List.mem_append_left _ hx)
  exact of_decide_eq_true h1
 obtain⟨F,hF,hlen⟩:=JD h0 (hval 0 25 v0 rfl rfl) akc;obtain⟨n,rfl,rfl,rfl,wn⟩:=open_int Tryz.underlying3 (hval 1 3 v1 rfl rfl) h1;obtain⟨m,rfl⟩:=Fo h2 (hval 2 27 v2 rfl rfl);obtain⟨E,hE⟩:=JF h3 (hval 3 28 v3 rfl rfl);have hC:Calls Tryz.prog 4 #[v0,iV n,c_ m,v3] W fun e W'=>∃v,e=.returned v∧bA W W'∧v=.bool true:=Dh hF hE hlen;refine hC.mono fun e' W' ⟨v,he,hw,hv⟩=>?_;subst he;subst hv;have hlt:∀x∈(p0++[]++p2++p3)++[],x.block<W.heap.size:=fun x hx=>hW'.lt x (by simpa using hx);have stay:∀(x:MemPlace),x.block<W.heap.size->(match x with|.cell b o=>W'.cell? ⟨b,o,none⟩=W.cell? ⟨b,o,none⟩|.map b=>W'.heap[b]?=W.heap[b]?):=fun x hb=>by
  have e:=hw.heap _ (Nat.not_le.2 hb);cases x with
  |cell b o=>show W'.cell? _=W.cell? _;simp only[World.cell?];rw[show W'.heap[b]?=W.heap[b]? from e]
  |map b=>exact e
 have t0:=WideElems.Trod_stays (sp':=fun b=>decide (b<W.heap.size)) laidOut (by kernel_rfl) (of_decide_eq_true (by kernel_rfl)) h0 (W':=W') (fun x hx=>stay x (hlt x (by simp[hx]))) (fun x hx=>decide_eq_true (hlt x (by simp[hx])));have t2:=WideElems.Trod_stays (sp':=fun b=>decide (b<W.heap.size)) laidOut (by kernel_rfl) (of_decide_eq_true (by kernel_rfl)) h2 (W':=W') (fun x hx=>stay x (hlt x (by simp[hx]))) (fun x hx=>decide_eq_true (hlt x (by simp[hx])));have t3:=WideElems.Trod_stays (sp':=fun b=>decide (b<W.heap.size)) laidOut (by kernel_rfl) (of_decide_eq_true (by kernel_rfl)) h3 (W':=W') (fun x hx=>stay x (hlt x (by simp[hx]))) (fun x hx=>decide_eq_true (hlt x (by simp[hx])));exact⟨_,rfl,_,_,_,[],_,[],hW',trodAll_mk1 (shut_bool Tryz.underlying4 true),trodAll_mk4 t0 (shut_int Tryz.underlying3 wn) t2 t3,rfl,kept hw,fun h=>by cases h⟩
theorem graphLets_holds:Rows.GraphLetsSaid:=
 OpenClaim.holds_of_wide 4 Tryz.f4 rfl rfl rfl rfl rfl rfl rfl ⟨rfl,rfl,rfl,rfl,rfl⟩ rfl rfl rfl rfl rfl (by kernel_rfl) Tryz.func4 (by kernel_rfl)
  (of_decide_eq_true (by kernel_rfl)) (by unfold Func.isWrapper;first|(rw[if_pos (by decide+kernel)];kernel_rfl)|(rw[if_neg (by decide+kernel)];exact⟨rfl,rfl⟩))
  (fun os started H enc _=>ur os started H enc)
end Go.Proofs.YtmobbajggkjpgaaGreat

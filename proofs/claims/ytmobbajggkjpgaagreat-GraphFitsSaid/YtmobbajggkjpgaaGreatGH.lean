/-
  GraphFits: whatever the flow, the maker and the ends: Fits answers as the document does, nothing that was given changes: the law answers true. Conditions: none.
-/
import Derived.Test.YtmobbajggkjpgaaGreatGG
import GoSem.Step
import Derived.Orders
import Derived.Conc.Own5
import Derived.Laws.Sem
import Derived.Conc.Events
import Derived.Laws.StructEq
import Derived.Laws.Append
import Derived.IntWalk
import Derived.Conc.Own4
import Derived.AtR
import Derived.Calls
import Derived.Test.YtmobbajggkjpgaaGreatRows
import Derived.ChangeSame
import Derived.ChangeVars
import Derived.JoinedOf
import Derived.RowKit
import Derived.RowKitTokens
import Derived.LaidLaws
import Derived.LaidHandle
import Derived.Stop.Joined
import Derived.Conc.Token
import Derived.Conc.TokenWalk
import Derived.Conc.Beside
import Derived.Ground.NamesProg
import Derived.Ground.Names2Prog
import Derived.Shelf.Sort.Plain
import Derived.Shelf.Slices.In.SortNone
import Derived.Shelf.Slices.CompactI
import Derived.Shelf.Slices.Turned
import Derived.ProofKit
import Derived.SizedLaws
import Derived.ChangeSlices
import Derived.Deep.Slices
import Derived.WideKeyArgs
import Derived.Carry
set_option linter.unusedSectionVars false
set_option maxRecDepth 100000
set_option linter.unusedVariables false
set_option linter.unusedSimpArgs false
namespace Go.Proofs.YtmobbajggkjpgaaGreat
open Go.Proofs.YtmobbajggkjpgaaGreat.SX Go.Conc
open _root_.List renaming getElem?_eq_getElem->aa,mem_singleton->ah,mem_cons->ai,mem_cons_self->aj,getElem?_eq_some_iff->ak,length_append->an,mem_of_getElem?->az,not_mem_nil->aA,length_cons->aC,length_map->aD,drop_eq_getElem_cons->aG,drop_of_length_le->aI,getElem?_append_left->aK,getElem?_map->aL,mem_filter->aO,mem_append->aT,map_cons->aU,append_nil->aV,length_nil->aX,mem_map->bf,length_singleton->bp,map_append->bu
open _root_.Option.some renaming inj->au
open _root_.Nat renaming le_trans->ax,le_refl->ay,zero_add->aF
open _root_.Array renaming getElem?_toList->aY
noncomputable def Ss(l:Nat):Code:=pc (bD Tryz.f47) (pd l)
theorem Y_:bT Tryz.prog 47 [.bF 0,.bF 1] .normal=.ok ⟨47,9,c_ 47 [.bF 0,.bF 1],[.code (bD Tryz.f47)],[],.run,.normal⟩:=by kernel_rfl
theorem P6:dL 47 9 4:=fun st=>by kernel_rfl
noncomputable def Ls(l:Nat):Code:=pc (bD Tryz.f70) (pd l)
theorem Za:bT Tryz.prog 70 [.bF 0,.bF 1] .normal=.ok ⟨70,19,c_ 70 [.bF 0,.bF 1],[.code (bD Tryz.f70)],[],.run,.normal⟩:=by kernel_rfl
theorem P7:dL 70 19 4:=fun st=>by kernel_rfl
theorem amB:Pc 47 9 [.code (bD Tryz.f47)] ([(0,.bF 0),(1,.func (.func 48) [] [bC 66,bC 68])]) [] [] [] 8 [] [5,6] [.inRegion (opsOf (Ss 6)) [2,3,4],.code .ret] [.bF 0,.func (.func 48) [] [bC 66,bC 68]] []:={}
theorem amC:dy 9 (opsOf (Ss 6)) 2 [(5,.bF 5),(6,.func (.func 48) [] [bC 66,bC 68])] 70 [.bF 5,.func (.func 48) [] [bC 66,bC 68]] 7:={}
theorem P8:Pc 47 9 [.inRegion (opsOf (Ss 6)) [3,4],.code .ret] ([(7,i64 (v 1))]) [((.cmp .geq (v 1) (.lit 0)),true)] [] [] 3 [] [4] [.code .ret] [TB] []:={}
theorem Lt:Pc 47 9 [.inRegion (opsOf (Ss 6)) [3,4],.code .ret] ([(7,i64 (v 1))]) [((.cmp .geq (v 1) (.lit 0)),false)] [] [] 3 [] [4] [.code .ret] [FB] []:={}
noncomputable abbrev vM:List Item:=[.code (Ls 52),.inLoop (Ls 52),.inBlock 0,.code (Ls 7)]
theorem amD:Pc 70 19 [.code (bD Tryz.f70)] ([(0,sA 70 73 71 72),(1,.func (.func 48) [] [bC 66,bC 68])]) [] [] [] 13 [] [0,1,7,8] vM [sA 70 73 71 72,.func (.func 48) [] [bC 66,bC 68],i64 (.tn (v 71)),i64 (.lit 0)] []:={}
theorem amE:Pc 70 19 vM ([(0,sA 70 73 71 72),(1,.func (.func 48) [] [bC 66,bC 68]),(7,i64 (.tn (v 71))),(8,i64 (v 15))]) [((.cmp .lss (v 15) (.tn (v 71))),false)] [] [] 11 [] [4] [.code .ret] [i64 (.lit (-1))] []:={}
noncomputable abbrev Su:List (AA×AV):=[(eD 66 0,sA 80 83 81 82),(eD 68 0,i8 (v 13)),(eD 68 1,i64 (v 14)),(eC 70 73 15,i64 (v 12)),(eB 80 83 12 2,i8 (v 11)),(eA 80 83 12 2 1,i64 (v 16))]
theorem amF:Pc 70 19 vM ([(0,sA 70 73 71 72),(1,.func (.func 48) [] [bC 66,bC 68]),(7,i64 (.tn (v 71))),(8,i64 (v 15))]) [((.cmp .lss (v 15) (.tn (v 71))),true),((.cmp .leq (.lit 0) (v 15)),true),((.cmp .lss (v 15) (.lit 0)),false),((.cmp .geq (v 15) (.tn (v 71))),false),((.cmp .lss (v 12) (.tn (v 81))),true),((.cmp .leq (.lit 0) (v 12)),true),((.cmp .lss (v 12) (.lit 0)),false),((.cmp .geq (v 12) (.tn (v 81))),false),((.cmp .eql (v 11) (v 13)),true),((.cmp .eql (v 16) (v 14)),true)] Su [] 37 [] [4] [.code .ret,.inBlock 1,.code (Ls 423),.inLoop (Ls 52),.inBlock 0,.code (Ls 7)] [i64 (v 15)] []:={}
noncomputable abbrev aei:List AV:=[sA 70 73 71 72,.func (.func 48) [] [bC 66,bC 68],i64 (.tn (v 71)),i64 (.op .add .i64 (v 15) (.lit 1))]
theorem amG:Pc 70 19 vM ([(0,sA 70 73 71 72),(1,.func (.func 48) [] [bC 66,bC 68]),(7,i64 (.tn (v 71))),(8,i64 (v 15))]) [((.cmp .lss (v 15) (.tn (v 71))),true),((.cmp .leq (.lit 0) (v 15)),true),((.cmp .lss (v 15) (.lit 0)),false),((.cmp .geq (v 15) (.tn (v 71))),false),((.cmp .lss (v 12) (.tn (v 81))),true),((.cmp .leq (.lit 0) (v 12)),true),((.cmp .lss (v 12) (.lit 0)),false),((.cmp .geq (v 12) (.tn (v 81))),false),((.cmp .eql (v 11) (v 13)),true),((.cmp .eql (v 16) (v 14)),false)] Su [] 39 [] [0,1,7,8] vM aei []:={}
theorem amH:Pc 70 19 vM ([(0,sA 70 73 71 72),(1,.func (.func 48) [] [bC 66,bC 68]),(7,i64 (.tn (v 71))),(8,i64 (v 15))]) [((.cmp .lss (v 15) (.tn (v 71))),true),((.cmp .leq (.lit 0) (v 15)),true),((.cmp .lss (v 15) (.lit 0)),false),((.cmp .geq (v 15) (.tn (v 71))),false),((.cmp .lss (v 12) (.tn (v 81))),true),((.cmp .leq (.lit 0) (v 12)),true),((.cmp .lss (v 12) (.lit 0)),false),((.cmp .geq (v 12) (.tn (v 81))),false),((.cmp .eql (v 11) (v 13)),false)] Su [] 39 [] [0,1,7,8] vM aei []:={}
abbrev kz9:List (BE×Bool):=[((.cmp .lss (v 10) (.tn (v 51))),true),((.cmp .leq (.lit 0) (v 10)),true),((.cmp .lss (v 10) (.lit 0)),false),((.cmp .geq (v 10) (.tn (v 51))),false),((.cmp .lss (v 10) (.tn (v 81))),true),((.cmp .leq (.lit 0) (v 10)),true),((.cmp .lss (v 10) (.lit 0)),false),((.cmp .geq (v 10) (.tn (v 81))),false),((.cmp .eql (v 11) (.lit 4)),false)]
noncomputable abbrev He:List (AA×AV):=[(eB 50 53 10 3,ss 1),(eA 50 53 10 3 1,sA 70 73 71 72),(eA 50 53 10 3 2,i64 (v 4)),(eB 80 83 10 2,i8 (v 11)),(eA 80 83 10 2 1,i64 (v 12))]
noncomputable abbrev Zb:List (Nat×AV):=[(0,.agg [sA 50 53 51 52,.bF 9]),(1,i64 (v 10)),(2,.agg Az),(3,sA 80 83 81 82)]
noncomputable abbrev Uy:List Item:=[.inRegion (opsOf (nA 124)) [1],.code (nA 125),.code (nA 63)]
theorem amI:Pc 28 107 [.code (bD Tryz.f28)] (Zb++zs 4 103) kz9 He [] 29 [Kz,TI,TH,102,101,100] [4,6,7,9,10,11,64] Uy [bC 100,bC 101,bC 102,bC TH,bC TI,bC Kz,.agg [ss 1,sA 70 73 71 72,i64 (v 4)]] [(Kz,.cells [i8 (.lit 1),i64 (.lit 1)] 43),(TI,.cells [i8 (v 11),i64 (v 12)] 43),(TH,.cells [ss 1,sA 70 73 71 72,i64 (v 4)] 50),(102,.cells [sA 80 83 81 82] 28),(101,.cells Az 27),(100,.cells [sA 50 53 51 52,.bF 9] 25)]:=Pc.full (fun st=>by kernel_rfl) (by kernel_rfl) (by kernel_rfl) (by kernel_rfl) (of_decide_eq_true (by kernel_rfl))
theorem amJ:dy 107 (opsOf (nA 124)) 1 [(64,.bF 64)] 36 [.bF 64] 65:={}
abbrev kz7:List (BE×Bool):=[((.cmp .lss (v 10) (.tn (v 51))),true),((.cmp .leq (.lit 0) (v 10)),true),((.cmp .lss (v 10) (.lit 0)),false),((.cmp .geq (v 10) (.tn (v 51))),false),((.cmp .lss (v 10) (.tn (v 81))),true),((.cmp .leq (.lit 0) (v 10)),true),((.cmp .lss (v 10) (.lit 0)),false),((.cmp .geq (v 10) (.tn (v 81))),false),((.cmp .eql (v 11) (.lit 4)),true),((.cmp .eql (v 12) (v 10)),false)]
theorem amK:Pc 28 107 [.code (bD Tryz.f28)] (Zb++zs 4 103) kz7 He [] 29 [Kz,TI,TH,102,101,100] [4,6,7,9,10,11,64] Uy [bC 100,bC 101,bC 102,bC TH,bC TI,bC Kz,.agg [ss 1,sA 70 73 71 72,i64 (v 4)]] [(Kz,.cells [i8 (.lit 1),i64 (.lit 1)] 43),(TI,.cells [i8 (v 11),i64 (v 12)] 43),(TH,.cells [ss 1,sA 70 73 71 72,i64 (v 4)] 50),(102,.cells [sA 80 83 81 82] 28),(101,.cells Az 27),(100,.cells [sA 50 53 51 52,.bF 9] 25)]:=Pc.full (fun st=>by kernel_rfl) (by kernel_rfl) (by kernel_rfl) (by kernel_rfl) (of_decide_eq_true (by kernel_rfl))
abbrev kz8:List (BE×Bool):=[((.cmp .lss (v 10) (.tn (v 51))),true),((.cmp .leq (.lit 0) (v 10)),true),((.cmp .lss (v 10) (.lit 0)),false),((.cmp .geq (v 10) (.tn (v 51))),false),((.cmp .lss (v 10) (.tn (v 81))),true),((.cmp .leq (.lit 0) (v 10)),true),((.cmp .lss (v 10) (.lit 0)),false),((.cmp .geq (v 10) (.tn (v 81))),false),((.cmp .eql (v 11) (.lit 4)),true),((.cmp .eql (v 12) (v 10)),true)]
theorem amL:Pc 28 107 [.code (bD Tryz.f28)] (Zb++zs 4 103) kz8 He [] 38 [Kz,102] [1,4,7,11,12,32,33,34] nB [i64 (v 10),bC 100,bC 102,bC Kz,i64 (.lit 0),sA 50 53 51 52,i64 (.tn (v 51)),i64 (.lit 0)] [(Kz,.cells [i8 (.lit 1),i64 (.lit 1)] 43),(102,.cells [sA 80 83 81 82] 28)]:=Pc.full (fun st=>by kernel_rfl) (by kernel_rfl) (by kernel_rfl) (by kernel_rfl) (of_decide_eq_true (by kernel_rfl))
noncomputable abbrev ER:List (Nat×AV):=[(1,i64 (v 10)),(4,bC 64),(7,bC 65),(11,bC 66),(12,i64 (v 17)),(32,sA 50 53 51 52),(33,i64 (.tn (v 51))),(34,i64 (v 15))]
noncomputable abbrev Sv:List AV:=[i64 (v 10),bC 64,bC 65,bC 66,i64 (v 17),sA 50 53 51 52,i64 (.tn (v 51)),i64 (.op .add .i64 (v 15) (.lit 1))]
abbrev Uz:List (BE×Bool):=[((.cmp .lss (.lit 0) (.tn (v 71))),true),((.cmp .eql (v 1) (.lit 18)),false)]
theorem amM:Pc 28 107 nB (ER) (fo 15 51++Uz) [(eB 50 53 15 3,ss 1),(eA 50 53 15 3 1,sA 70 73 71 72),(eA 50 53 15 3 2,i64 (v 4)),(⟨(.dyn 70),(v 73)⟩,i8 (v 1))] [] 28 [] [1,4,7,11,12,32,33,34] nB Sv []:={}
noncomputable abbrev aej:List (AA×AV):=[(eB 50 53 15 3,ss 1),(eA 50 53 15 3 1,sA 70 73 71 72),(eA 50 53 15 3 2,i64 (v 4)),(⟨(.dyn 70),(v 73)⟩,i8 (v 1)),(⟨(.dyn 70),(.plus (.tn (.plus (.tn (v 73)) (.lit 4))) (.lit 1))⟩,i64 (v 2))]
abbrev aek:List (BE×Bool):=[((.cmp .lss (.lit 0) (.tn (v 71))),true),((.cmp .eql (v 1) (.lit 18)),true),((.cmp .lss (.lit 1) (.tn (v 71))),true),((.cmp .eql (v 2) (v 10)),false)]
theorem amN:Pc 28 107 nB (ER) (fo 15 51++aek) aej [] 28 [] [1,4,7,11,12,32,33,34] nB Sv []:={}
abbrev kz5:List (BE×Bool):=[((.cmp .lss (v 15) (.tn (v 51))),true),((.cmp .leq (.lit 0) (v 15)),true),((.cmp .lss (v 15) (.lit 0)),false),((.cmp .geq (v 15) (.tn (v 51))),false),((.cmp .lss (.lit 0) (.tn (v 71))),true),((.cmp .eql (v 1) (.lit 18)),true),((.cmp .lss (.lit 1) (.tn (v 71))),true),((.cmp .eql (v 2) (v 10)),true),((.cmp .eql (v 13) (.lit 1)),false),((.cmp .lss (v 15) (.tn (v 81))),true),((.cmp .leq (.lit 0) (v 15)),true),((.cmp .lss (v 15) (.lit 0)),false),((.cmp .geq (v 15) (.tn (v 81))),false)]
noncomputable abbrev Zc:List (AA×AV):=[(eB 50 53 15 3,ss 1),(eA 50 53 15 3 1,sA 70 73 71 72),(eA 50 53 15 3 2,i64 (v 4)),(⟨(.dyn 70),(v 73)⟩,i8 (v 1)),(⟨(.dyn 70),(.plus (.tn (.plus (.tn (v 73)) (.lit 4))) (.lit 1))⟩,i64 (v 2)),(eD 65 0,sA 80 83 81 82),(eD 66 0,i8 (.lit 1)),(eD 66 1,i64 (.lit 1)),(eB 80 83 15 2,i8 (v 13)),(eA 80 83 15 2 1,i64 (v 14))]
theorem amO:Pc 28 107 nB (ER) kz5 Zc [] 28 [] [1,4,7,11,12,32,33,34] nB Sv []:={}
abbrev kz3:List (BE×Bool):=[((.cmp .lss (v 15) (.tn (v 51))),true),((.cmp .leq (.lit 0) (v 15)),true),((.cmp .lss (v 15) (.lit 0)),false),((.cmp .geq (v 15) (.tn (v 51))),false),((.cmp .lss (.lit 0) (.tn (v 71))),true),((.cmp .eql (v 1) (.lit 18)),true),((.cmp .lss (.lit 1) (.tn (v 71))),true),((.cmp .eql (v 2) (v 10)),true),((.cmp .eql (v 13) (.lit 1)),true),((.cmp .eql (v 14) (.lit 1)),false),((.cmp .lss (v 15) (.tn (v 81))),true),((.cmp .leq (.lit 0) (v 15)),true),((.cmp .lss (v 15) (.lit 0)),false),((.cmp .geq (v 15) (.tn (v 81))),false)]
theorem amP:Pc 28 107 nB (ER) kz3 Zc [] 28 [] [1,4,7,11,12,32,33,34] nB Sv []:={}
abbrev kz4:List (BE×Bool):=[((.cmp .lss (v 15) (.tn (v 51))),true),((.cmp .leq (.lit 0) (v 15)),true),((.cmp .lss (v 15) (.lit 0)),false),((.cmp .geq (v 15) (.tn (v 51))),false),((.cmp .lss (.lit 0) (.tn (v 71))),true),((.cmp .eql (v 1) (.lit 18)),true),((.cmp .lss (.lit 1) (.tn (v 71))),true),((.cmp .eql (v 2) (v 10)),true),((.cmp .eql (v 13) (.lit 1)),true),((.cmp .eql (v 14) (.lit 1)),true),((.cmp .lss (v 15) (.tn (v 81))),true),((.cmp .leq (.lit 0) (v 15)),true),((.cmp .lss (v 15) (.lit 0)),false),((.cmp .geq (v 15) (.tn (v 81))),false)]
theorem amQ:Pc 28 107 nB (ER) kz4 Zc [] 32 [] [1,4,7,11,12,32,33,34] nB [i64 (v 10),bC 64,bC 65,bC 66,i64 (.op .add .i64 (v 17) (.lit 1)),sA 50 53 51 52,i64 (.tn (v 51)),i64 (.op .add .i64 (v 15) (.lit 1))] []:={}
theorem P9:Pc 28 107 nB (ER) [((.cmp .lss (v 15) (.tn (v 51))),false),((.cmp .eql (v 17) (.lit 1)),true)] [] [] 13 [] [8] [.code .ret,.code (nA 31)] [TB] []:={}
theorem Lu:Pc 28 107 nB (ER) [((.cmp .lss (v 15) (.tn (v 51))),false),((.cmp .eql (v 17) (.lit 1)),false)] [] [] 13 [] [8] [.code .ret,.code (nA 31)] [FB] []:={}
noncomputable abbrev vN:List (Nat×AV):=[(4,bC 64),(6,bC 65),(7,bC 66),(9,bC 67),(10,bC 68),(11,bC 69),(65,i8 (v 1))]
noncomputable abbrev ES:List (AA×AV):=[(eD 67 0,ss 1),(eD 67 1,sA 70 73 71 72),(eD 67 2,i64 (v 4))]
theorem amR:Pc 28 107 vm (vN) [((.cmp .eql (v 1) (.lit 17)),true)] ES [] 11 [] [7,10,68] [.inRegion (opsOf (nA 2004)) [1,2,3,4],.code .ret,.inBlock 2,.code (nA 63)] [bC 66,bC 68,.agg [ss 1,sA 70 73 71 72,i64 (v 4)]] []:={}
theorem amS:dy 107 (opsOf (nA 2004)) 1 [(68,.bF 68)] 41 [.bF 68] 69:={}
theorem amT:Pc 28 107 [.inRegion (opsOf (nA 2004)) [2,3,4],.code .ret,.inBlock 2,.code (nA 63)] ([(7,bC 66),(10,bC 68),(69,.bF 69)]) [] [] [] 1 [] [69,70] [.inRegion (opsOf (nA 2004)) [3,4],.code .ret,.inBlock 2,.code (nA 63)] [.bF 69,.func (.func 48) [] [bC 66,bC 68]] []:={}
theorem amU:dy 107 (opsOf (nA 2004)) 3 [(69,.bF 69),(70,.func (.func 48) [] [bC 66,bC 68])] 47 [.bF 69,.func (.func 48) [] [bC 66,bC 68]] 71:={}
noncomputable abbrev UA:List Item:=[.inRegion (opsOf (nA 2004)) [4],.code .ret,.inBlock 2,.code (nA 63)]
noncomputable abbrev vO:List Item:=[.code .ret,.inBlock 2,.code (nA 63)]
theorem P_:Pc 28 107 UA ([(71,TB)]) [] [] [] 2 [] [8] vO [TB] []:={}
theorem Lv:Pc 28 107 UA ([(71,FB)]) [] [] [] 2 [] [8] vO [FB] []:={}
noncomputable abbrev Sw:List (AA×AV):=[(eD 67 0,ss 1),(eD 67 1,sA 70 73 71 72),(eD 67 2,i64 (v 4)),(⟨(.dyn 70),(.plus (.tn (.plus (.tn (v 73)) (.lit 4))) (.lit 1))⟩,i64 (v 2)),(eD 68 0,i8 (v 11)),(eD 68 1,i64 (v 12)),(eD 69 0,i8 (.lit 1)),(eD 69 1,i64 (.lit 1))]
theorem amV:Pc 28 107 vm (vN) [((.cmp .eql (v 1) (.lit 17)),false),((.cmp .eql (v 1) (.lit 18)),true),((.cmp .lss (.lit 1) (.tn (v 71))),true),((.cmp .eql (v 11) (.lit 1)),false)] Sw [] 44 [] [8] vO [FB] []:={}
theorem amW:Pc 28 107 vm (vN) [((.cmp .eql (v 1) (.lit 17)),false),((.cmp .eql (v 1) (.lit 18)),true),((.cmp .lss (.lit 1) (.tn (v 71))),true),((.cmp .eql (v 11) (.lit 1)),true),((.cmp .eql (v 12) (.lit 0)),true)] Sw [] 44 [] [8] vO [TB] []:={}
theorem amX:Pc 28 107 vm (vN) [((.cmp .eql (v 1) (.lit 17)),false),((.cmp .eql (v 1) (.lit 18)),true),((.cmp .lss (.lit 1) (.tn (v 71))),true),((.cmp .eql (v 11) (.lit 1)),true),((.cmp .eql (v 12) (.lit 0)),false),((.cmp .eql (v 12) (.lit 1)),false)] Sw [] 44 [] [8] vO [FB] []:={}
noncomputable abbrev Zd:List (AA×AV):=[(eD 67 0,ss 1),(eD 67 1,sA 70 73 71 72),(eD 67 2,i64 (v 4)),(⟨(.dyn 70),(.plus (.tn (.plus (.tn (v 73)) (.lit 4))) (.lit 1))⟩,i64 (v 2)),(eD 68 0,i8 (v 11)),(eD 68 1,i64 (v 12)),(eD 69 0,i8 (.lit 1)),(eD 69 1,i64 (.lit 1)),(eD 66 0,sA 80 83 81 82),(eB 80 83 2 2,i8 (v 13)),(eA 80 83 2 2 1,i64 (v 14))]
theorem amY:Pc 28 107 vm (vN) (((.cmp .eql (v 1) (.lit 17)),false)::((.cmp .eql (v 1) (.lit 18)),true)::((.cmp .lss (.lit 1) (.tn (v 71))),true)::((.cmp .eql (v 11) (.lit 1)),true)::((.cmp .eql (v 12) (.lit 0)),false)::((.cmp .eql (v 12) (.lit 1)),true)::(fo 2 81++[((.cmp .eql (v 13) (.lit 4)),false)])) Zd [] 44 [] [8] vO [FB] []:={}
abbrev UB:List (BE×Bool):=[((.cmp .eql (v 13) (.lit 4)),true),((.cmp .eql (v 14) (v 2)),false)]
theorem amZ:Pc 28 107 vm (vN) (((.cmp .eql (v 1) (.lit 17)),false)::((.cmp .eql (v 1) (.lit 18)),true)::((.cmp .lss (.lit 1) (.tn (v 71))),true)::((.cmp .eql (v 11) (.lit 1)),true)::((.cmp .eql (v 12) (.lit 0)),false)::((.cmp .eql (v 12) (.lit 1)),true)::(fo 2 81++UB)) Zd [] 44 [] [8] vO [FB] []:={}
abbrev UC:List (BE×Bool):=[((.cmp .eql (v 13) (.lit 4)),true),((.cmp .eql (v 14) (v 2)),true)]
theorem am0:Pc 28 107 vm (vN) (((.cmp .eql (v 1) (.lit 17)),false)::((.cmp .eql (v 1) (.lit 18)),true)::((.cmp .lss (.lit 1) (.tn (v 71))),true)::((.cmp .eql (v 11) (.lit 1)),true)::((.cmp .eql (v 12) (.lit 0)),false)::((.cmp .eql (v 12) (.lit 1)),true)::(fo 2 81++UC)) Zd [] 44 [] [8] vO [TB] []:={}
noncomputable def Ze(l:Nat):Code:=pc (bD Tryz.f55) (pd l)
theorem Zf:bT Tryz.prog 55 [.bF 0] .normal=.ok ⟨55,26,c_ 55 [.bF 0],[.code (bD Tryz.f55)],[],.run,.normal⟩:=by kernel_rfl
theorem Zg:dL 55 26 2:=fun st=>by kernel_rfl
noncomputable abbrev uh:List Item:=[.code (Ze 116),.inLoop (Ze 116),.inBlock 0,.code (Ze 15)]
theorem am1:Pc 55 26 [.code (bD Tryz.f55)] ([(0,.bF 0)]) [] [] [] 15 [] [0,3,4] uh [.bF 0,cn,i64 (.lit 0)] []:={}
noncomputable abbrev Qa:List (AA×AV):=[(eB 50 53 10 4,i8 (v 1)),(eA 50 53 10 4 1,i64 (v 13))]
theorem ael:Pc 55 26 uh ([(0,sA 50 53 51 54),(3,cn),(4,i64 (v 10))]) (fo 10 51++[((.cmp .eql (v 1) (.lit 2)),true)]) Qa [] 40 [101] [0,3,4] uh [sA 50 53 51 54,.slice (some (eD 101 0)) (.lit 1) (v 101),i64 (.op .add .i64 (v 10) (.lit 1))] [(101,.row [i64 (v 13)] 3 (v 101))]:={}
theorem am2:Pc 55 26 uh ([(0,sA 50 53 51 54),(3,.slice (some (eD 52 0)) (v 8) (v 57)),(4,i64 (v 10))]) (fo 10 51++Uw) Qa vj 40 [101] [0,3,4] uh [sA 50 53 51 54,.slice (some (eD 101 0)) (.plus (.tn (v 8)) (.lit 1)) (v 101),i64 (.op .add .i64 (v 10) (.lit 1))] [(101,.pre false 65 (v 8) [] [] [i64 (v 13)] 3 (v 101))]:={}
theorem am3:Pc 55 26 uh ([(0,sA 50 53 51 54),(3,.bF 5),(4,i64 (v 10))]) (fo 10 51++Pr) Qa [] 30 [] [0,3,4] uh [sA 50 53 51 54,.bF 5,i64 (.op .add .i64 (v 10) (.lit 1))] []:={}
theorem am4:Pc 55 26 uh ([(0,sA 50 53 51 54),(3,.bF 5),(4,i64 (v 10))]) Ao [] [] 15 [] [2] [.code .ret] [.bF 5] []:={}
noncomputable def Zh(l:Nat):Code:=pc (bD Tryz.f54) (pd l)
theorem Zi:bT Tryz.prog 54 [.bF 0,.bF 1,.bF 2] .normal=.ok ⟨54,46,c_ 54 [.bF 0,.bF 1,.bF 2],[.code (bD Tryz.f54)],[],.run,.normal⟩:=by kernel_rfl
theorem Zj:dL 54 46 6:=fun st=>by kernel_rfl
noncomputable abbrev oy:List Item:=[.code (Zh 116),.inLoop (Zh 116),.inBlock 0,.code (Zh 15)]
theorem am5:Pc 54 46 [.code (bD Tryz.f54)] ([(0,.agg [sA 50 53 51 52,.bF 9]),(1,i64 (v 10)),(2,.bF 2)]) [] [] [] 16 [100] [1,2,3,7,8] oy [i64 (v 10),.bF 2,bC 100,i64 (.lit 0),i64 (.lit 0)] [(100,.cells [sA 50 53 51 52,.bF 9] 25)]:={}
noncomputable abbrev yX:List (Nat×AV):=[(1,i64 (v 10)),(2,sA 80 83 81 82),(3,bC 64),(7,i64 (v 17)),(8,i64 (v 15))]
noncomputable abbrev Jm:List AV:=[i64 (v 10),sA 80 83 81 82,bC 64,i64 (v 17),i64 (.op .add .i64 (v 15) (.lit 1))]
theorem am6:Pc 54 46 oy (yX) (fo 15 51++Uz) [(eD 64 0,sA 50 53 51 52),(eB 50 53 15 3,ss 1),(eA 50 53 15 3 1,sA 70 73 71 72),(eA 50 53 15 3 2,i64 (v 4)),(⟨(.dyn 70),(v 73)⟩,i8 (v 1))] [] 69 [] [1,2,3,7,8] oy Jm []:={}
noncomputable abbrev aem:List (AA×AV):=[(eD 64 0,sA 50 53 51 52),(eB 50 53 15 3,ss 1),(eA 50 53 15 3 1,sA 70 73 71 72),(eA 50 53 15 3 2,i64 (v 4)),(⟨(.dyn 70),(v 73)⟩,i8 (v 1)),(⟨(.dyn 70),(.plus (.tn (.plus (.tn (v 73)) (.lit 4))) (.lit 1))⟩,i64 (v 2))]
theorem am7:Pc 54 46 oy (yX) (fo 15 51++aek) aem [] 69 [] [1,2,3,7,8] oy Jm []:={}
noncomputable abbrev Zk:List (AA×AV):=[(eD 64 0,sA 50 53 51 52),(eB 50 53 15 3,ss 1),(eA 50 53 15 3 1,sA 70 73 71 72),(eA 50 53 15 3 2,i64 (v 4)),(⟨(.dyn 70),(v 73)⟩,i8 (v 1)),(⟨(.dyn 70),(.plus (.tn (.plus (.tn (v 73)) (.lit 4))) (.lit 1))⟩,i64 (v 2)),(eB 80 83 15 2,i8 (v 13)),(eA 80 83 15 2 1,i64 (v 14))]
theorem am8:Pc 54 46 oy (yX) kz5 Zk [] 69 [] [1,2,3,7,8] oy Jm []:={}
theorem am9:Pc 54 46 oy (yX) kz3 Zk [] 69 [] [1,2,3,7,8] oy Jm []:={}
theorem am_:Pc 54 46 oy (yX) kz4 Zk [] 73 [] [1,2,3,7,8] oy [i64 (v 10),sA 80 83 81 82,bC 64,i64 (.op .add .i64 (v 17) (.lit 1)),i64 (.op .add .i64 (v 15) (.lit 1))] []:={}
theorem ana:Pc 54 46 oy (yX) Pq DI [] 16 [] [6] [.code .ret] [i64 (v 17)] []:={}
noncomputable def eW(l:Nat):Code:=pc (bD Tryz.f31) (pd l)
theorem Zl:bT Tryz.prog 31 j6 .normal=.ok ⟨31,82,c_ 31 j6,[.code (bD Tryz.f31)],[],.run,.normal⟩:=by kernel_rfl
theorem mT:dL 31 82 8:=fun st=>by kernel_rfl
noncomputable abbrev Sx:List (Nat×AV):=[(0,.agg [sA 50 53 51 52,.bF 9]),(1,i64 (v 10)),(2,.agg dR),(3,sA 80 83 81 82)]
theorem anb:Pc 31 82 [.code (bD Tryz.f31)] (Sx) kz8 He [] 39 [] [27,28,29] [.inRegion (opsOf (eW 244)) [3,4,5],.code .ret,.code (eW 31)] [.agg [sA 50 53 51 52,.bF 9],i64 (v 10),sA 80 83 81 82] []:={}
theorem aen:dy 82 (opsOf (eW 244)) 3 [(27,.bF 27),(28,.bF 28),(29,.bF 29)] 54 [.bF 27,.bF 28,.bF 29] 30:={}
noncomputable abbrev UD:List Item:=[.inRegion (opsOf (eW 244)) [4,5],.code .ret,.code (eW 31)]
theorem Qb:Pc 31 82 UD ([(30,i64 (v 5))]) [((.cmp .eql (v 5) (.lit 1)),true)] [] [] 3 [] [8] [.code .ret,.code (eW 31)] [TB] []:={}
theorem Lx:Pc 31 82 UD ([(30,i64 (v 5))]) [((.cmp .eql (v 5) (.lit 1)),false)] [] [] 3 [] [8] [.code .ret,.code (eW 31)] [FB] []:={}
noncomputable abbrev aeo:List (Nat×bQ):=[(103,.cells [i8 (v 11),i64 (v 12)] 43),(102,.cells [ss 1,sA 70 73 71 72,i64 (v 4)] 50),(101,.cells dR 27)]
noncomputable abbrev UE:List AV:=[sA 80 83 81 82,bC 101,bC 102,bC 103,.agg [ss 1,sA 70 73 71 72,i64 (v 4)]]
noncomputable abbrev UF:List Item:=[.inRegion (opsOf (eW 124)) [1],.code (eW 125),.code (eW 63)]
theorem anc:Pc 31 82 [.code (bD Tryz.f31)] (Sx) kz9 He [] 39 [103,102,101] [3,6,9,10,32] UF UE aeo:={}
theorem ane:Pc 31 82 [.code (bD Tryz.f31)] (Sx) kz7 He [] 39 [103,102,101] [3,6,9,10,32] UF UE aeo:={}
theorem anf:dy 82 (opsOf (eW 124)) 1 [(32,.bF 32)] 38 [.bF 32] 33:={}
noncomputable abbrev UG:List Item:=[.inRegion (opsOf (eW 124)) [],.code (eW 125),.code (eW 63)]
theorem ang:Pc 31 82 UG ([(3,.bF 3),(6,bC 65),(9,bC 67),(10,bC 68),(33,TB)]) [] ES [] 6 [] [3,10,35] [.inRegion (opsOf (eW 500)) [2,3],.code (eW 501),.code (eW 63)] [.bF 3,bC 68,sA 70 73 71 72] []:={}
theorem anh:dy 82 (opsOf (eW 500)) 2 [(35,.bF 35)] 55 [.bF 35] 36:={}
noncomputable abbrev vP:List Item:=[.code (eW 8020),.inLoop (eW 8020),.inBlock 0,.code (eW 1003),.code (eW 63)]
theorem ani:Pc 31 82 [.inRegion (opsOf (eW 500)) [3],.code (eW 501),.code (eW 63)] ([(3,.bF 3),(10,bC 68),(36,.bF 36)]) [] [] [] 9 [] [3,10,11,12] vP [.bF 3,bC 68,.bF 36,i64 (.lit 0)] []:={}
noncomputable abbrev ET:List (Nat×AV):=[(3,sA 80 83 81 82),(10,bC 68),(11,sA 60 63 61 62),(12,i64 (v 15))]
theorem anj:Pc 31 82 vP (ET) [((.cmp .lss (v 15) (.tn (v 61))),false)] [] [] 14 [] [8] [.code .ret,.code (eW 63)] [FB] []:={}
noncomputable abbrev Sy:List (AA×AV):=[(eC 60 63 15,i64 (v 12)),(eB 80 83 12 2,i8 (v 13)),(eA 80 83 12 2 1,i64 (v 14)),(eD 68 0,i8 (v 11)),(eD 68 1,i64 (v 16))]
theorem ank:Pc 31 82 vP (ET) [((.cmp .lss (v 15) (.tn (v 61))),true),((.cmp .leq (.lit 0) (v 15)),true),((.cmp .lss (v 15) (.lit 0)),false),((.cmp .geq (v 15) (.tn (v 61))),false),((.cmp .lss (v 12) (.tn (v 81))),true),((.cmp .leq (.lit 0) (v 12)),true),((.cmp .lss (v 12) (.lit 0)),false),((.cmp .geq (v 12) (.tn (v 81))),false),((.cmp .eql (v 13) (v 11)),true),((.cmp .eql (v 14) (v 16)),true)] Sy [] 19 [] [8] [.code .ret,.inBlock 1,.code (eW 32083),.inLoop (eW 8020),.inBlock 0,.code (eW 1003),.code (eW 63)] [TB] []:={}
noncomputable abbrev UH:List AV:=[sA 80 83 81 82,bC 68,sA 60 63 61 62,i64 (.op .add .i64 (v 15) (.lit 1))]
theorem anl:Pc 31 82 vP (ET) [((.cmp .lss (v 15) (.tn (v 61))),true),((.cmp .leq (.lit 0) (v 15)),true),((.cmp .lss (v 15) (.lit 0)),false),((.cmp .geq (v 15) (.tn (v 61))),false),((.cmp .lss (v 12) (.tn (v 81))),true),((.cmp .leq (.lit 0) (v 12)),true),((.cmp .lss (v 12) (.lit 0)),false),((.cmp .geq (v 12) (.tn (v 81))),false),((.cmp .eql (v 13) (v 11)),true),((.cmp .eql (v 14) (v 16)),false)] Sy [] 23 [] [3,10,11,12] vP UH []:={}
theorem anm:Pc 31 82 vP (ET) [((.cmp .lss (v 15) (.tn (v 61))),true),((.cmp .leq (.lit 0) (v 15)),true),((.cmp .lss (v 15) (.lit 0)),false),((.cmp .geq (v 15) (.tn (v 61))),false),((.cmp .lss (v 12) (.tn (v 81))),true),((.cmp .leq (.lit 0) (v 12)),true),((.cmp .lss (v 12) (.lit 0)),false),((.cmp .geq (v 12) (.tn (v 81))),false),((.cmp .eql (v 13) (v 11)),false)] Sy [] 23 [] [3,10,11,12] vP UH []:={}
theorem ann:Pc 31 82 UG ([(3,.bF 3),(6,bC 65),(9,bC 67),(10,bC 68),(33,FB)]) [] ES [] 7 [] [3,6,9,10,52] [.inRegion (opsOf (eW 252)) [1],.code (eW 253),.code (eW 127)] [.bF 3,bC 65,bC 67,bC 68,.agg [ss 1,sA 70 73 71 72,i64 (v 4)]] []:={}
theorem ano:dy 82 (opsOf (eW 252)) 1 [(52,.bF 52)] 39 [.bF 52] 53:={}
noncomputable abbrev Sz:List (AA×AV):=[(eD 67 0,ss 1),(eD 67 1,sA 70 73 71 72),(eD 67 2,i64 (v 4)),(⟨(.dyn 70),(.plus (.tn (.plus (.tn (v 73)) (.lit 4))) (.lit 1))⟩,i64 (v 2)),(eD 68 0,i8 (v 11)),(eD 68 1,i64 (v 12))]
noncomputable abbrev yY:List (Nat×AV):=[(3,sA 80 83 81 82),(6,bC 65),(9,bC 67),(10,bC 68),(53,TB)]
noncomputable abbrev yZ:List Item:=[.inRegion (opsOf (eW 252)) [],.code (eW 253),.code (eW 127)]
noncomputable abbrev Bb:List Item:=[.code .ret,.code (eW 127)]
theorem anp:Pc 31 82 yZ (yY) [((.cmp .lss (.lit 1) (.tn (v 71))),true),((.cmp .eql (v 11) (.lit 1)),false)] Sz [] 32 [] [8] Bb [FB] []:={}
theorem anq:Pc 31 82 yZ (yY) [((.cmp .lss (.lit 1) (.tn (v 71))),true),((.cmp .eql (v 11) (.lit 1)),true),((.cmp .eql (v 12) (.lit 0)),true)] Sz [] 32 [] [8] Bb [TB] []:={}
theorem anr:Pc 31 82 yZ (yY) [((.cmp .lss (.lit 1) (.tn (v 71))),true),((.cmp .eql (v 11) (.lit 1)),true),((.cmp .eql (v 12) (.lit 0)),false),((.cmp .eql (v 12) (.lit 1)),false)] Sz [] 32 [] [8] Bb [FB] []:={}
noncomputable abbrev Zm:List (AA×AV):=[(eD 67 0,ss 1),(eD 67 1,sA 70 73 71 72),(eD 67 2,i64 (v 4)),(⟨(.dyn 70),(.plus (.tn (.plus (.tn (v 73)) (.lit 4))) (.lit 1))⟩,i64 (v 2)),(eD 68 0,i8 (v 11)),(eD 68 1,i64 (v 12)),(eB 80 83 2 2,i8 (v 13)),(eA 80 83 2 2 1,i64 (v 14))]
theorem ant:Pc 31 82 yZ (yY) (((.cmp .lss (.lit 1) (.tn (v 71))),true)::((.cmp .eql (v 11) (.lit 1)),true)::((.cmp .eql (v 12) (.lit 0)),false)::((.cmp .eql (v 12) (.lit 1)),true)::(fo 2 81++[((.cmp .eql (v 13) (.lit 4)),false)])) Zm [] 32 [] [8] Bb [FB] []:={}
theorem anu:Pc 31 82 yZ (yY) (((.cmp .lss (.lit 1) (.tn (v 71))),true)::((.cmp .eql (v 11) (.lit 1)),true)::((.cmp .eql (v 12) (.lit 0)),false)::((.cmp .eql (v 12) (.lit 1)),true)::(fo 2 81++UB)) Zm [] 32 [] [8] Bb [FB] []:={}
theorem anv:Pc 31 82 yZ (yY) (((.cmp .lss (.lit 1) (.tn (v 71))),true)::((.cmp .eql (v 11) (.lit 1)),true)::((.cmp .eql (v 12) (.lit 0)),false)::((.cmp .eql (v 12) (.lit 1)),true)::(fo 2 81++UC)) Zm [] 32 [] [8] Bb [TB] []:={}
theorem anw:Pc 31 82 yZ ([(3,.bF 3),(6,bC 65),(9,bC 67),(10,bC 68),(53,FB)]) [] [] [] 4 [] [3,6,9,10] [.code (eW 254),.code .ret] [.bF 3,bC 65,bC 67,bC 68] []:={}
theorem anx:Pc 31 82 [.inRegion (opsOf (eW 254)) [],.code .ret] ([(8,.bF 8)]) [] [] [] 1 [] [8] [.code .ret] [.bF 8] []:={}
noncomputable def ic(l:Nat):Code:=pc (bD Tryz.f11) (pd l)
theorem Zn:bT Tryz.prog 11 [.bF 0,.bF 1,.bF 2] .normal=.ok ⟨11,47,c_ 11 [.bF 0,.bF 1,.bF 2],[.code (bD Tryz.f11)],[],.run,.normal⟩:=by kernel_rfl
theorem y3:p6 11 47 6 7:=fun st=>by kernel_rfl
noncomputable abbrev Qc:List (Nat×bQ):=[(101,.cells dR 27),(100,.cells [.bF 8,.bF 9] 25)]
noncomputable abbrev Qd:List (Nat×AV):=[(0,.agg [.bF 8,.bF 9]),(1,.agg dR),(2,.bF 2)]
noncomputable abbrev Qe:List AV:=[.bF 2,bC 100,bC 101,.agg [.bF 8,.bF 9]]
theorem anz:Pc 11 47 [.code (bD Tryz.f11)] (Qd) [] [] [] 10 [101,100] [2,3,4,12] [.inRegion (opsOf (ic 6)) [1,2,3,4,5,6],.code (ic 7)] Qe Qc:={}
theorem anA:dy 47 (opsOf (ic 6)) 1 [(12,.bF 12)] 29 [.bF 12] 13:={}
noncomputable abbrev UI:List (Nat×AV):=[(2,.bF 2),(3,bC 64),(4,bC 65),(13,.tuple [i64 (v 5),i64 (v 6)])]
noncomputable abbrev Jn:List Item:=[.inRegion (opsOf (ic 6)) [2,3,4,5,6],.code (ic 7)]
theorem anB:Pc 11 47 Jn (UI) Ic [] [] 20 [] [6,7] [.code .ret,.code (ic 15)] [i64 (v 5),i64 (v 6)] []:={}
noncomputable abbrev Jo:List AV:=[i64 (.lit 1),i64 (.lit 0)]
theorem anC(z y:Bool)(h:(z&&y)=false):Pc 11 47 Jn ([(2,cU y 80 83 81 82),(3,bC 64),(4,bC 65),(13,.tuple [i64 (v 5),i64 (v 6)])]) [((.cmp .neq (v 5) (.lit 0)),false),((.cmp .neq (dO y 81) (dO z 51)),true)] [(eD 64 0,cU z 50 53 51 52)] [] 37 [] [6,7] [.code .ret,.code (ic 31)] Jo []:=⟨fun st=>by cases z<;>cases y<;>first|exact absurd h (by decide)|kernel_rfl,fun st=>by cases z<;>cases y<;>first|exact absurd h (by decide)|kernel_rfl,by cases z<;>cases y<;>first|exact absurd h (by decide)|kernel_rfl,of_decide_eq_true (by kernel_rfl)⟩
theorem anD(z y:Bool):Pc 11 47 Jn ([(2,cU y 80 83 81 82),(3,bC 64),(4,bC 65),(13,.tuple [i64 (v 5),i64 (v 6)])]) [((.cmp .neq (v 5) (.lit 0)),false),((.cmp .neq (dO y 81) (dO z 51)),false)] [(eD 64 0,cU z 50 53 51 52)] [] 27 [] [2,3,4,26,27,29] [.inRegion (opsOf (ic 60)) [10,11,12],.code (ic 61),.code (ic 31)] [cU y 80 83 81 82,bC 64,bC 65,FB,cU y 80 83 81 82,i64 (dO y 81)] []:=by cases z<;>cases y<;>exact{}
theorem anE:dy 47 (opsOf (ic 60)) 10 [(26,FB),(27,.bF 27),(29,.bF 29)] 30 [.bF 27,.bF 29] 30:={}
noncomputable abbrev UJ:List Item:=[.inRegion (opsOf (ic 60)) [11,12],.code (ic 61),.code (ic 31)]
noncomputable abbrev UK:List (Nat×AV):=[(2,.bF 2),(3,bC 64),(4,bC 65),(26,FB),(30,FB)]
theorem anF:Pc 11 47 UJ (UK) [] [] [] 9 [] [6,7] [.code .ret,.code (ic 31)] Jo []:={}
noncomputable abbrev EU:List Item:=[.code (ic 500),.inLoop (ic 500),.inBlock 0,.code (ic 63)]
noncomputable abbrev UL:List (Nat×AV):=[(2,.bF 2),(3,bC 64),(4,bC 65),(26,FB),(30,TB)]
theorem anG:Pc 11 47 UJ (UL) [] [] [] 12 [] [2,3,4,10] EU [.bF 2,bC 64,bC 65,i64 (.lit 0)] []:={}
noncomputable abbrev aep:List (AA×AV):=[(eD 64 0,sA 50 53 51 52),(eD 64 1,.bF 9),(eD 65 0,i64 (v 31)),(eD 65 1,i64 (v 32)),(eD 65 2,i64 (v 33)),(eD 65 3,i64 (v 34))]
noncomputable abbrev UM:List (Nat×AV):=[(2,.bF 2),(3,bC 64),(4,bC 65),(10,i64 (v 10))]
theorem anH:Pc 11 47 EU (UM) (fo 10 51) aep [] 19 [] [2,3,4,10,40,41,42,43] [.inRegion (opsOf (ic 8008)) [4,5],.code (ic 8009),.inBlock 1,.code (ic 2003),.inLoop (ic 500),.inBlock 0,.code (ic 63)] [.bF 2,bC 64,bC 65,i64 (v 10),.agg [sA 50 53 51 52,.bF 9],i64 (v 10),.agg dR,.bF 2] []:={}
theorem anI:dy 47 (opsOf (ic 8008)) 4 [(40,.bF 40),(41,.bF 41),(42,.bF 42),(43,.bF 43)] 31 [.bF 40,.bF 41,.bF 42,.bF 43] 44:={}
noncomputable abbrev aeq:List Item:=[.inRegion (opsOf (ic 8008)) [5],.code (ic 8009),.inBlock 1,.code (ic 2003),.inLoop (ic 500),.inBlock 0,.code (ic 63)]
theorem anJ:Pc 11 47 aeq ([(2,.bF 2),(3,bC 64),(4,bC 65),(10,i64 (v 10)),(44,FB)]) [] [] [] 9 [] [6,7] [.code .ret,.inBlock 1,.code (ic 2003),.inLoop (ic 500),.inBlock 0,.code (ic 63)] [i64 (.lit 30),i64 (v 10)] []:={}
theorem anK:Pc 11 47 aeq ([(2,.bF 2),(3,bC 64),(4,bC 65),(10,i64 (v 10)),(44,TB)]) [] [] [] 11 [] [2,3,4,10] EU [.bF 2,bC 64,bC 65,i64 (.op .add .i64 (v 10) (.lit 1))] []:={}
theorem anL(z:Bool):Pc 11 47 EU (UM) [((.cmp .lss (v 10) (dO z 51)),false)] [(eD 64 0,cU z 50 53 51 52)] [] 16 [] [6,7] [.code .ret] Av []:=by cases z<;>exact{}
theorem anM:Pc 10 47 [.code (bD Tryz.f10)] (Qd) [] [] [] 11 [101,100] [2,3,4,12] [.inRegion (opsOf (q9 12)) [1,2,3,4,5,6],.code (q9 13),.code (q9 7)] Qe Qc:={}
theorem anN:dy 47 (opsOf (q9 12)) 1 [(12,.bF 12)] 26 [.bF 12] 13:={}
noncomputable abbrev Jp:List Item:=[.inRegion (opsOf (q9 12)) [2,3,4,5,6],.code (q9 13),.code (q9 7)]
theorem anO:Pc 10 47 Jp (UI) Ic [] [] 19 [] [6,7] [.code .ret,.code (q9 7)] [i64 (v 5),i64 (v 6)] []:={}
theorem anP(z y:Bool)(h:(z&&y)=false):Pc 10 47 Jp ([(2,cU y 80 83 81 82),(3,bC 64),(4,bC 65),(13,.tuple [i64 (v 5),i64 (v 6)])]) [((.cmp .neq (v 5) (.lit 0)),false),((.cmp .neq (dO y 81) (dO z 51)),true)] [(eD 64 0,cU z 50 53 51 52)] [] 36 [] [6,7] [.code .ret,.code (q9 15)] Jo []:=⟨fun st=>by cases z<;>cases y<;>first|exact absurd h (by decide)|kernel_rfl,fun st=>by cases z<;>cases y<;>first|exact absurd h (by decide)|kernel_rfl,by cases z<;>cases y<;>first|exact absurd h (by decide)|kernel_rfl,of_decide_eq_true (by kernel_rfl)⟩
theorem anQ(z y:Bool):Pc 10 47 Jp ([(2,cU y 80 83 81 82),(3,bC 64),(4,bC 65),(13,.tuple [i64 (v 5),i64 (v 6)])]) [((.cmp .neq (v 5) (.lit 0)),false),((.cmp .neq (dO y 81) (dO z 51)),false)] [(eD 64 0,cU z 50 53 51 52)] [] 26 [] [2,3,4,26,27,29] [.inRegion (opsOf (q9 28)) [10,11,12],.code (q9 29),.code (q9 15)] [cU y 80 83 81 82,bC 64,bC 65,FB,cU y 80 83 81 82,i64 (dO y 81)] []:=by cases z<;>cases y<;>exact{}
theorem anR:dy 47 (opsOf (q9 28)) 10 [(26,FB),(27,.bF 27),(29,.bF 29)] 27 [.bF 27,.bF 29] 30:={}
noncomputable abbrev UN:List Item:=[.inRegion (opsOf (q9 28)) [11,12],.code (q9 29),.code (q9 15)]
theorem anS:Pc 10 47 UN (UK) [] [] [] 9 [] [6,7] [.code .ret,.code (q9 15)] Jo []:={}
theorem anT(z:Bool):Pc 10 47 UN (UL) [] [(eD 64 0,cU z 50 53 51 52)] [] 15 [] [2,3,4,34,35,36] DG [.bF 2,bC 64,bC 65,cU z 50 53 51 52,i64 (dO z 51),i64 (.lit 0)] []:=by cases z<;>exact{}
theorem anU:Pc 10 47 DG ([(2,.bF 2),(3,bC 64),(4,bC 65),(34,sA 50 53 51 52),(35,i64 (.tn (v 51))),(36,i64 (v 10))]) (fo 10 51) aep [] 20 [] [2,3,4,10,34,35,36,39,40,41,42] [.inRegion (opsOf (q9 15666)) [4,5],.code (q9 15667),.inBlock 1,.code (q9 1959),.inLoop (q9 244),.inBlock 0,.code (q9 31)] [.bF 2,bC 64,bC 65,i64 (v 10),sA 50 53 51 52,i64 (.tn (v 51)),i64 (v 10),.agg [sA 50 53 51 52,.bF 9],i64 (v 10),.agg dR,.bF 2] []:={}
theorem anV:dy 47 (opsOf (q9 15666)) 4 [(39,.bF 39),(40,.bF 40),(41,.bF 41),(42,.bF 42)] 28 [.bF 39,.bF 40,.bF 41,.bF 42] 43:={}
noncomputable abbrev aer:List Item:=[.inRegion (opsOf (q9 15666)) [5],.code (q9 15667),.inBlock 1,.code (q9 1959),.inLoop (q9 244),.inBlock 0,.code (q9 31)]
theorem anW:Pc 10 47 aer ([(2,.bF 2),(3,bC 64),(4,bC 65),(34,sA 50 53 51 52),(35,i64 (.tn (v 51))),(36,i64 (v 10)),(10,i64 (v 10)),(43,FB)]) [] [] [] 9 [] [6,7] [.code .ret,.inBlock 1,.code (q9 1959),.inLoop (q9 244),.inBlock 0,.code (q9 31)] [i64 (.lit 30),i64 (v 10)] []:={}
theorem anX:Pc 10 47 aer ([(2,.bF 2),(3,bC 64),(4,bC 65),(34,sA 50 53 51 52),(35,i64 (.tn (v 51))),(36,i64 (v 10)),(10,i64 (v 10)),(43,TB)]) [] [] [] 10 [] [2,3,4,34,35,36] DG [.bF 2,bC 64,bC 65,sA 50 53 51 52,i64 (.tn (v 51)),i64 (.op .add .i64 (v 10) (.lit 1))] []:={}
theorem anY(z:Bool):Pc 10 47 DG ([(2,.bF 2),(3,bC 64),(4,bC 65),(34,cU z 50 53 51 52),(35,i64 (dO z 51)),(36,i64 (v 10))]) [((.cmp .lss (v 10) (dO z 51)),false)] [] [] 12 [] [6,7] [.code .ret] Av []:=by cases z<;>exact{}
def Jq(ρ:Env):Bool:=decide (ρ.i 21=ρ.i 11)&&decide (ρ.i 22=ρ.i 12)
noncomputable abbrev mU:Array Oper:=opsOf (eW 254)
theorem Zo:dH 82 mU 0 [] ES [(9,bC 67)] (.agg [ss 1,sA 70 73 71 72,i64 (v 4)]) 76:={}
theorem Zp:dH 82 mU 1 [] ug [(6,bC 65)] (.agg dR) 77:={}
theorem Zq:dH 82 mU 2 [] [] [(3,.bF 3)] (.bF 3) 78:={}
theorem Zr:dy 82 mU 3 [(76,.agg [ss 1,sA 70 73 71 72,i64 (v 4)]),(77,.agg dR),(78,.bF 3)] 40 [.agg [ss 1,sA 70 73 71 72,i64 (v 4)],.agg dR,.bF 3] 79:={}
theorem Zs:dH 82 mU 4 [] [(eD 68 0,i8 (v 11)),(eD 68 1,i64 (v 12))] [(10,bC 68)] (.agg [i8 (v 11),i64 (v 12)]) 80:={}
noncomputable abbrev Qf:List (Nat×AV):=[(79,.agg [i8 (v 21),i64 (v 22)]),(80,.agg [i8 (v 11),i64 (v 12)])]
theorem SA:dH 82 mU 5 [((.cmp .eql (v 21) (v 11)),true),((.cmp .eql (v 22) (v 12)),true)] [] Qf (TB) 81:={}
theorem SB:dH 82 mU 5 [((.cmp .eql (v 21) (v 11)),true),((.cmp .eql (v 22) (v 12)),false)] [] Qf (FB) 81:={}
theorem SC:dH 82 mU 5 [((.cmp .eql (v 21) (v 11)),false)] [] Qf (FB) 81:={}
theorem SD:dH 82 mU 6 [] [] [(81,TB)] (TB) 8:={}
theorem SF:dH 82 mU 6 [] [] [(81,FB)] (FB) 8:={}
def Jr(i:Nat):Nat:=match i with
 |0=>76|1=>77|2=>78|3=>79|4=>80|5=>81|_=>8
noncomputable abbrev Bc:List (Nat×AV):=[(3,.bF 3),(6,bC 65),(9,bC 67),(10,bC 68)]
noncomputable abbrev Qg:List (AA×AV):=[(eD 67 0,ss 1),(eD 67 1,sA 70 73 71 72),(eD 67 2,i64 (v 4)),(eD 65 0,i64 (v 31)),(eD 65 1,i64 (v 32)),(eD 65 2,i64 (v 33)),(eD 65 3,i64 (v 34)),(eD 68 0,i8 (v 11)),(eD 68 1,i64 (v 12))]
noncomputable abbrev UO:List (BE×Bool):=[]
noncomputable def y4(ρ:Env)(i:Nat)(u:Value)(w:World):Prop:=match i with
 |0=>u=(.agg [ss 1,sA 70 73 71 72,i64 (v 4)]:AV).ev ρ
 |1=>u=(.agg dR:AV).ev ρ
 |2=>u=(.bF 3:AV).ev ρ
 |3=>u=(.agg [i8 (v 21),i64 (v 22)]:AV).ev ρ
 |4=>u=(.agg [i8 (v 11),i64 (v 12)]:AV).ev ρ
 |5=>u=.bool (Jq ρ)
 |_=>u=.bool (Jq ρ)
theorem Hf{ρ:Env}(i:Nat)(u:Value)(w w':World)(h:y4 ρ i u w)(f:bA w w'):y4 ρ i u w':=by
 unfold y4 at h⊢;split at h
 all_goals first|exact h
section
variable {w w0:World}{cs:List Frame}{fr:Frame}
theorem Lz{ρ:Env}{k:List Item}(pk:∀w',bA w0 w'->dV 40 #[.agg #[.string (ρ.s 1),bS (ρ.b 70) (ρ.i 73).toNat (ρ.i 71).toNat (ρ.i 72).toNat,iV (ρ.i 4)],.agg #[iV (ρ.i 31),iV (ρ.i 32),iV (ρ.i 33),iV (ρ.i 34)],ρ.v 3] w' fun u w2=>bA w' w2∧u=.agg #[cY (ρ.i 21),iV (ρ.i 22)])(iH:cg ρ UO)(hmem:cq ρ w0 Qg):
  ∀i,i<7->(true)=true->∀(l:List Nat) (w:World) (fr:Frame) (lv:List (Nat×Value)),bA w0 w->FA 31 82 (.inRegion mU (i::l)::k) [] .normal lv fr->(∀x∈told ρ Bc,x∈lv)->(∀p∈jf mU i,∃v,(Jr p,v)∈lv∧y4 ρ p v w)->
   Goes (G fr cs) w fun g' w'=>∃fr' v,g'=G fr' cs∧bA w w'∧y4 ρ i v w'∧FA 31 82 (.inRegion mU l::k) [] .normal (fP (Jr i) v lv) fr':=by
 intro j hi he l w fr lv f hf hb hp;have bm:∀{j:Nat} {q:Nat×Value},(told ρ Bc)[j]?=some q->q∈lv:=fun h=>hb _ (az h);rcases(by omega:j=0∨j=1∨j=2∨j=3∨j=4∨j=5∨j=6)with rfl|rfl|rfl|rfl|rfl|rfl|rfl
 ·exact Zo.di ρ hf (by decide) (cX (bm (j:=2) rfl)) trivial ⟨f.cell hmem.1,f.cell hmem.2.1,f.cell hmem.2.2.1,trivial⟩ rfl
 ·exact Zp.di ρ hf (by decide) (cX (bm (j:=1) rfl)) trivial ⟨f.cell hmem.2.2.2.1,f.cell hmem.2.2.2.2.1,f.cell hmem.2.2.2.2.2.1,f.cell hmem.2.2.2.2.2.2.1,trivial⟩ rfl
 ·exact Zq.di ρ hf (by decide) (cX (bm (j:=0) rfl)) trivial trivial rfl
 ·obtain⟨v0,q0,e0⟩:=hp 0 (dI (by kernel_rfl));have e0:v0=(.agg [ss 1,sA 70 73 71 72,i64 (v 4)]:AV).ev ρ:=e0;subst e0;obtain⟨v1,q1,e1⟩:=hp 1 (dI (by kernel_rfl));have e1:v1=(.agg dR:AV).ev ρ:=e1;subst e1;obtain⟨v2,q2,e2⟩:=hp 2 (dI (by kernel_rfl));have e2:v2=(.bF 3:AV).ev ρ:=e2;subst e2;exact Zr.di ρ (Q:=fun u w'=>u=(.agg [i8 (v 21),i64 (v 22)]:AV).ev ρ) hf (ac7 q0 q1 q2) (fun w' f1=>pk w' (f.trans f1))
 ·exact Zs.di ρ hf (by decide) (cX (bm (j:=3) rfl)) trivial ⟨f.cell hmem.2.2.2.2.2.2.2.1,f.cell hmem.2.2.2.2.2.2.2.2.1,trivial⟩ rfl
 ·obtain⟨v3,q3,e3⟩:=hp 3 (dI (by kernel_rfl));have e3:v3=(.agg [i8 (v 21),i64 (v 22)]:AV).ev ρ:=e3;subst e3;obtain⟨v4,q4,e4⟩:=hp 4 (dI (by kernel_rfl));have e4:v4=(.agg [i8 (v 11),i64 (v 12)]:AV).ev ρ:=e4;subst e4;by_cases h1:ρ.i 21=ρ.i 11
  ·by_cases h2:ρ.i 22=ρ.i 12
   ·exact SA.di ρ hf (by decide) (ko q3 q4) ⟨decide_eq_true h1,decide_eq_true h2,trivial⟩ trivial (v:=.bool (Jq ρ)) (by unfold Jq;rw[decide_eq_true h1,decide_eq_true h2];rfl)
   ·exact SB.di ρ hf (by decide) (ko q3 q4) ⟨decide_eq_true h1,decide_eq_false h2,trivial⟩ trivial (v:=.bool (Jq ρ)) (by unfold Jq;rw[decide_eq_true h1,decide_eq_false h2];rfl)
  ·exact SC.di ρ hf (by decide) (ko q3 q4) ⟨decide_eq_false h1,trivial⟩ trivial (v:=.bool (Jq ρ)) (by unfold Jq;rw[decide_eq_false h1];rfl)
 ·obtain⟨v5,q5,e5⟩:=hp 5 (dI (by kernel_rfl));have e5:v5=.bool (Jq ρ):=e5;subst e5;cases hd:Jq ρ with
  |true=>exact SD.di ρ hf (by decide) (cX (by rw[hd]at q5;exact q5)) trivial trivial (v:=.bool (Jq ρ)) (by rw[hd];rfl)
  |false=>exact SF.di ρ hf (by decide) (cX (by rw[hd]at q5;exact q5)) trivial trivial (v:=.bool (Jq ρ)) (by rw[hd];rfl)
theorem Qh{ρ:Env}{k:List Item}{lv:List (Nat×Value)}(pk:∀w',bA w w'->dV 40 #[.agg #[.string (ρ.s 1),bS (ρ.b 70) (ρ.i 73).toNat (ρ.i 71).toNat (ρ.i 72).toNat,iV (ρ.i 4)],.agg #[iV (ρ.i 31),iV (ρ.i 32),iV (ρ.i 33),iV (ρ.i 34)],ρ.v 3] w' fun u w2=>bA w' w2∧u=.agg #[cY (ρ.i 21),iV (ρ.i 22)])(iH:cg ρ UO)(hmem:cq ρ w Qg)(hl:eZ lv (told ρ Bc))(hf:FA 31 82 (.code (eW 254)::k) [] .normal lv fr):
  Goes (G fr cs) w fun g' w'=>∃fr' jm,g'=G fr' cs∧bA w w'∧FA 31 82 (.inRegion mU []::k) [] .normal jm fr'∧(∀x∈told ρ Bc,x∈jm)∧∀i,i<7->(true)=true->∃v,(Jr i,v)∈jm∧y4 ρ i v w':=by
 obtain⟨id,hid⟩:=gS (c:=eW 254) (by kernel_rfl);have hf:=hf.only hl;rw[hid]at hf;refine(gQ hf).trans fun g1 w1 hd=>?_;obtain⟨ls,bR,rfl,f1,hs,F1⟩:=hd;refine(iw (b:=told ρ Bc) (nm:=Jr) (val:=y4 ρ) (early:=fun _=>true) (late:=[]) (n:=7) (w0:=w) (by kernel_rfl) (by kernel_rfl) (by kernel_rfl) (by kernel_rfl) (by kernel_rfl) (by kernel_rfl) (by kernel_rfl) List.Pairwise.nil Hf (Lz pk iH hmem) ls [] f1 (fun i hi=>by cases hi) hs ⟨_,F1,fun x hx=>hx,fun i hi=>by cases hi⟩).mono fun g2 w2 b_=>?_;obtain⟨cE,lv,h1,h2,h3,h4,h5⟩:=b_;exact⟨cE,lv,h1,h2,h3,h4,h5⟩
end
section
def EV(x:cx):Int:=match x.tree[1]? with
 |some n=>n.n
 |none=>0
def uV(E:List (Int×Int))(i:Int)(j:Nat)(x:cx):Bool:=decide (cQ x=18)&&(decide (EV x=i)&&decide (E[j]?=some (1,1)))
def kg(E:List (Int×Int))(i:Int):List cx->Nat->Nat
 |[],_=>0
 |x::r,j=>(if uV E i j x=true then 1 else 0)+kg E i r (j+1)
def uW(E:List (Int×Int))(e:Int×Int)(k:Int):Bool:=decide (E[k.toNat]?=some e)
def sx(m:cV)(E:List (Int×Int))(L:List cx)(i:Nat)(x:cx)(t:T)(e:Int×Int):Bool:=
 if e.1=4∧e.2=i then decide (kg E i L 0=1)
 else if cQ x=17 then(cT x.tree).any (uW E e)
 else if cQ x=18 then decide (e=(1,0))||(decide (e=(1,1))&&decide (E[(EV x).toNat]?=some (4,EV x)))
 else decide (qB E m t=e)
theorem LA{g:List Nd->Option (T×List Nd)}(hg:∀l t r,g l=some (t,r)->l=flat t++r){k:Nat}{l:List Nd}{ts:List T}{r:List Nd}(h:eP g true (k+1) l=some (ts,r)):∃n l',l=n::l'∧n.op=2:=by
 unfold eP at h;split at h
 ·cases h
 ·rename_i t r' e;split at h
  ·cases h
  ·rename_i hn;have hn:t.n.op=2:=by simpa using hn
   have:=hg _ _ _ e;cases t with
   |nd n ks=>exact⟨n,bY ks++r',by rw[this];rfl,hn⟩
theorem Qi{n:Nd}{l:List Nd}{f:Nat}{root:Bool}{p:T×List Nd}(h:dJ (f+1) (n::l) root=some p)(lQ:n.op=18∨n.op=17):∃k l',l=k::l'∧k.op=2:=by
 unfold dJ at h;split at h
 ·cases h
 ·rename_i lo hi nm hL;have hL2:=yd hL;have hnm:nm=true:=by
   rcases lQ with lQ|lQ<;>(rw[lQ]at hL;simp[ji]at hL;exact hL.2.2)
  split at h
  ·cases h
  ·rename_i hb;have hk:1≤n.kids:=by
    have h1:1≤lo:=hL2.2.1 (by omega) (by omega);unfold oX at hb;simp at hb;omega
   split at h
   ·cases h
   ·rename_i ts r hk2;rw[hnm]at hk2;obtain⟨c,hc⟩:∃c,n.kids.toNat=c+1:=⟨n.kids.toNat-1,by omega⟩;rw[hc]at hk2;exact LA (fun l t r=>gi f l false t r) hk2
theorem EW{x:cx}{i:Nat}{t:T}(h:fO x i t)(lQ:cQ x=18∨cQ x=17):∃n l k,x.tree=n::k::l∧k.op=2:=by
 have htr:=h.tr;unfold mJ at htr;cases e:x.tree with
 |nil=>exact(nw h e).elim
 |cons n l=>
  rw[e]at htr;cases e2:dJ ((n::l).length+1) (n::l) true with
  |none=>rw[e2]at htr;cases htr
  |some p=>unfold cQ at lQ;rw[e]at lQ;obtain⟨k,l',rfl,hk⟩:=Qi e2 lQ;exact⟨n,l',k,rfl,hk⟩
mutual
theorem Ca{N:Nat}:∀{t:T},nv N t->∀n∈flat t,n.op=2->0≤n.n∧n.n<N
 |.nd m ks,h,n,hn,h2=>by
  unfold flat at hn;rcases ai.1 hn with rfl|hn
  ·exact h.1 h2
  ·exact EX h.2.2.2 n hn h2
theorem EX{N:Nat}:∀{ts:List T},lf N ts->∀n∈bY ts,n.op=2->0≤n.n∧n.n<N
 |t::ts,h,n,hn,h2=>by
  unfold bY at hn;rcases aT.1 hn with hn|hn
  ·exact Ca h.1 n hn h2
  ·exact EX h.2 n hn h2
end
theorem y5{x:cx}{i:Nat}{t:T}(h:fO x i t){k:Int}(hk:k∈cT x.tree):0≤k∧k<(i:Int):=by unfold cT at hk;obtain⟨n,hn,rfl⟩:=bf.1 hk;obtain⟨hn,h2⟩:=aO.1 hn;rw[h.fl]at hn;exact Ca h.nd n hn (of_decide_eq_true h2)
theorem Cb{x:cx}{i:Nat}{t:T}(h:fO x i t)(lQ:cQ x=18):∃n,x.tree[1]?=some n∧EV x=n.n∧0≤n.n∧n.n<(i:Int):=by
 obtain⟨n,l,k,e,hk⟩:=EW h (.inl lQ);have e1:x.tree[1]?=some k:=by rw[e];rfl
 have hm:k∈flat t:=by rw[<-h.fl,e];simp
 have:=Ca h.nd k hm hk;exact⟨k,e1,by unfold EV;rw[e1],this.1,this.2⟩
theorem EY{x:cx}{i:Nat}{t:T}(h:fO x i t)(sg:cQ x=17):cT x.tree≠[]:=by obtain⟨n,l,k,e,hk⟩:=EW h (.inr sg);have:k.n∈cT x.tree:=bf.2 ⟨k,aO.2 ⟨by rw[e];simp,decide_eq_true hk⟩,rfl⟩;intro h0;rw[h0]at this;cases this
theorem uj{x:cx}(sg:cQ x=17){a:Int}:a∈mS x↔a∈cT x.tree:=by unfold mS;rw[if_neg (by omega),EO,Sq]
theorem LB{x:cx}(sg:cQ x=17)(p:Int->Bool):(mS x).any p=(cT x.tree).any p:=by rw[Bool.eq_iff_iff,List.any_eq_true,List.any_eq_true];exact⟨fun⟨a,h1,h2⟩=>⟨a,(uj sg).1 h1,h2⟩,fun⟨a,h1,h2⟩=>⟨a,(uj sg).2 h1,h2⟩⟩
noncomputable def Zt(X Y:Nat):Value:=(AV.func (.func 48) [] [bC 66,bC 68]).ev (bO [] [(66,X),(68,Y)] [])
noncomputable abbrev CfH:List Item:=vM
section
variable {w w0:World}{cs:List Frame}{fr:Frame}
theorem Js{A o c X Y A' o' c':Nat}{l:List Int}{E:List (Int×Int)}{e:Int×Int}(hel:∀i n,l[i]?=some n->w0.cell? ⟨A,o+i,none⟩=some (iV n))(hlen:l.length≤1000000)
 (fW:∀i e,E[i]?=some e->w0.cell? ⟨A',o'+i*2,none⟩=some (cY e.1)∧w0.cell? ⟨A',o'+i*2+1,none⟩=some (iV e.2))(hX:w0.cell? ⟨X,0,none⟩=some (bS A' o' E.length c'))(hY0:w0.cell? ⟨Y,0,none⟩=some (cY e.1))(hY1:w0.cell? ⟨Y,1,none⟩=some (iV e.2))(hin:∀n∈l,0≤n∧n<E.length):
  ∀(m i:Nat) {w:World} {cs:List Frame} {fr:Frame},i+m=l.length->bA w0 w->FA 70 19 CfH [] .normal [(0,bS A o l.length c),(1,Zt X Y),(7,iV l.length),(8,iV i)] fr->
  Goes (G fr cs) w (Out 70 cs w0 fun v _=>∃j,v=iV j∧decide (j≥0)=(l.drop i).any (uW E e))
 |0,i,w,cs,fr,hi,fw,hf=>by refine amE.out P7 (bO [(71,l.length),(72,c),(73,o),(15,i)] [(70,A),(66,X),(68,Y)] []) hf rfl ⟨decide_eq_false (by show ¬((i:Int)<((l.length:Nat):Int));omega),trivial⟩ trivial fw fun _ _ _ _=>⟨-1,rfl,?_⟩;rw[aI (by omega)];rfl
 |m+1,i,w,cs,fr,hi,fw,hf=>by
  have hlt:i<l.length:=by omega
  obtain⟨n,hn⟩:∃n,l[i]?=some n:=⟨_,aa hlt⟩;have hnb:=hin n (az hn);obtain⟨k,rfl⟩:∃k:Nat,n=k:=⟨n.toNat,by omega⟩;have hk:k<E.length:=by omega
  obtain⟨e',he'⟩:∃e',E[k]?=some e':=⟨_,aa hk⟩;have dS:l.drop i=(k:Int)::l.drop (i+1):=by rw[aG hlt];congr 1;exact au ((aa hlt).symm.trans hn)
  obtain⟨ρ,hρ⟩:∃ρ:Env,ρ=bO [(71,l.length),(72,c),(73,o),(15,i),(12,k),(81,E.length),(82,c'),(83,o'),(11,e'.1),(16,e'.2),(13,e.1),(14,e.2)] [(70,A),(80,A'),(66,X),(68,Y)] []:=⟨_,rfl⟩;have bb:=cg.app (bX (ρ:=ρ) (i:=15) (n:=71) (I:=i) (N:=l.length) (by rw[hρ];rfl) (by rw[hρ];rfl) hlt) (bX (ρ:=ρ) (i:=12) (n:=81) (I:=k) (N:=E.length) (by rw[hρ];rfl) (by rw[hρ];rfl) hk);have T:eZ [(0,bS A o l.length c),(1,Zt X Y),(7,iV l.length),(8,iV i)] (told ρ [(0,sA 70 73 71 72),(1,.func (.func 48) [] [bC 66,bC 68]),(7,i64 (.tn (v 71))),(8,i64 (v 15))]):=by rw[hρ];rfl
  have M:cq ρ w Su:=by rw[hρ];exact⟨fw.cell hX,fw.cell hY0,fw.cell hY1,fw.cell (hel i k hn),fw.cell (fW k e' he').1,fw.cell (fW k e' he').2,trivial⟩
  have hh:uW E e (k:Int)=decide (e'=e):=by unfold uW;rw[Int.toNat_natCast,he'];simp
  rw[dS,List.any_cons,hh];have next:e'≠e->∀{w1:World} {bR:Frame},bA w w1->FA 70 19 CfH [] .normal [(0,bS A o l.length c),(1,Zt X Y),(7,iV l.length),(8,iV (iz .add .i64 i 1))] bR->Goes (G bR cs) w1 (Out 70 cs w0 fun v _=>∃j,v=iV j∧decide (j≥0)=(decide (e'=e)||(l.drop (i+1)).any (uW E e))):=fun hne w1 bR f1 F1=>by rw[decide_eq_false hne,Bool.false_or];refine Js (c:=c) hel hlen fW hX hY0 hY1 hin m (i+1) (by omega) (fw.trans f1) ?_;rw[<-inc (i:=i) (by omega)];exact F1
  by_cases h1:e'.1=e.1
  ·by_cases h2:e'.2=e.2
   ·refine amF.out P7 ρ hf T (cg.app bb ⟨by rw[hρ];exact decide_eq_true h1,by rw[hρ];exact decide_eq_true h2,trivial⟩) M fw fun _ _ _ _=>⟨i,by rw[hρ];rfl,?_⟩;rw[decide_eq_true (Prod.ext h1 h2),decide_eq_true (by omega)];rfl
   ·refine(amG.go ρ hf T (cg.app bb ⟨by rw[hρ];exact decide_eq_true h1,by rw[hρ];exact decide_eq_false h2,trivial⟩) M).trans fun g1 w1 hd=>?_;obtain⟨I,B,bR,rfl,f1,F1,_⟩:=hd;rw[hρ]at F1;exact next (fun h=>h2 (by rw[h])) f1 F1
  ·refine(amH.go ρ hf T (cg.app bb ⟨by rw[hρ];exact decide_eq_false h1,trivial⟩) M).trans fun g1 w1 hd=>?_;obtain⟨I,B,bR,rfl,f1,F1,_⟩:=hd;rw[hρ]at F1;exact next (fun h=>h1 (by rw[h])) f1 F1
theorem LC{X Y A' o' c':Nat}{s:Value}{l:List Int}{E:List (Int×Int)}{e:Int×Int}(h:jq w s l)(hne:l≠[])(hlen:l.length≤1000000)
 (fW:∀i e,E[i]?=some e->w.cell? ⟨A',o'+i*2,none⟩=some (cY e.1)∧w.cell? ⟨A',o'+i*2+1,none⟩=some (iV e.2))(hX:w.cell? ⟨X,0,none⟩=some (bS A' o' E.length c'))(hY0:w.cell? ⟨Y,0,none⟩=some (cY e.1))(hY1:w.cell? ⟨Y,1,none⟩=some (iV e.2))(hin:∀n∈l,0≤n∧n<E.length):dV 47 #[s,Zt X Y] w fun v w'=>bA w w'∧v=.bool (l.any (uW E e)):=by
 obtain⟨z,A,o,c,hs,hz,oU,hel⟩:=h.ex;obtain rfl:z=false:=by
  cases z with
  |false=>rfl
  |true=>exact(hne (hz rfl)).elim
 have hs:s=bS A o l.length c:=hs;subst hs;refine Goes.iY fun cs=>?_;refine(amB.go (bO [] [(66,X),(68,Y)] [(0,bS A o l.length c)]) (dU Y_ rfl (bS A o l.length c) (Zt X Y)) rfl trivial trivial).trans fun g1 w1 hd=>?_;obtain⟨I,B,bR,rfl,f1,F1,_⟩:=hd;refine(amC.go (bO [] [(66,X),(68,Y)] [(5,bS A o l.length c)]) (Q:=fun v w'=>∃j,v=iV j∧decide (j≥0)=l.any (uW E e)) F1 rfl fun w' f=>Goes.iY fun cs=>?_).trans fun g2 w2 b_=>?_
 ·have fw:=f1.trans f;refine(amD.go (bO [(71,l.length),(72,c),(73,o)] [(70,A),(66,X),(68,Y)] []) (dU Za rfl (bS A o l.length c) (Zt X Y)) rfl trivial trivial).trans fun g3 w3 cv=>?_;obtain⟨I,B,cF,rfl,f3,F3,_⟩:=cv;have qc:FA 70 19 CfH [] .normal [(0,bS A o l.length c),(1,Zt X Y),(7,iV l.length),(8,iV (0:Nat))] cF:=F3;have:=Js (w0:=w') (cs:=cs) (fun i n hi=>fw.cell (hel i n hi)) hlen (fun i e hi=>⟨fw.cell (fW i e hi).1,fw.cell (fW i e hi).2⟩) (fw.cell hX) (fw.cell hY0) (fw.cell hY1) hin l.length 0 (by omega) f3 qc;rwa[List.drop_zero]at this
 ·obtain⟨cE,v,rfl,f2,⟨j,rfl,hj⟩,F2⟩:=b_;by_cases h0:j≥0
  ·exact P8.out P6 (bO [(1,j)] [] []) F2 rfl ⟨decide_eq_true h0,trivial⟩ trivial (f1.trans f2) fun _ _ _ _=>by rw[<-hj,decide_eq_true h0];rfl
  ·exact Lt.out P6 (bO [(1,j)] [] []) F2 rfl ⟨decide_eq_false h0,trivial⟩ trivial (f1.trans f2) fun _ _ _ _=>by rw[<-hj,decide_eq_false h0];rfl
end
end
theorem Bd{E:List (Int×Int)}{i:Int}{L:List cx}{j n:Nat}{x:cx}(hx:L[j]?=some x):n+kg E i (L.drop j) j=(if uV E i j x=true then n+1 else n)+kg E i (L.drop (j+1)) (j+1):=by
 have hlt:j<L.length:=(ak.1 hx).1;have dS:L.drop j=x::L.drop (j+1):=by rw[aG hlt];congr 1;exact au ((aa hlt).symm.trans hx)
 rw[dS,show kg E i (x::L.drop (j+1)) j=(if uV E i j x=true then 1 else 0)+kg E i (L.drop (j+1)) (j+1)from rfl];split<;>omega
section
variable {w w0:World}{cs:List Frame}{fr:Frame}{m:cV}
theorem Jt{L:List cx}{E:List (Int×Int)}{A o c i X1 X2 X3 A' o' c':Nat}(hel:∀i x,L[i]?=some x->lE w0 A (o+i*3) x)(fW:∀i e,E[i]?=some e->w0.cell? ⟨A',o'+i*2,none⟩=some (cY e.1)∧w0.cell? ⟨A',o'+i*2+1,none⟩=some (iV e.2))(hg:∀(j:Nat) (x:cx),L[j]?=some x->∃t,fO x j t)(LD:L.length≤E.length)(hlen:L.length≤1000000)
 (DF:w0.cell? ⟨X2,0,none⟩=some (bS A' o' E.length c'))(h30:w0.cell? ⟨X3,0,none⟩=some (cY 1))(h31:w0.cell? ⟨X3,1,none⟩=some (iV 1)):
  ∀(k j n:Nat) {w:World} {cs:List Frame} {fr:Frame},j+k=L.length->n≤j->bA w0 w->FA 28 107 FtH [] .normal [(1,iV i),(4,bK X1),(7,bK X2),(11,bK X3),(12,iV n),(32,bS A o L.length c),(33,iV L.length),(34,iV j)] fr->
  Goes (G fr cs) w (Out 28 cs w0 fun v _=>v=.bool (decide (n+kg E i (L.drop j) j=1)))
 |0,j,n,w,cs,fr,hj,hn,fw,hf=>by
  have e0:n+kg E i (L.drop j) j=n:=by rw[aI (by omega)];rfl
  rw[e0];obtain⟨ρ,hρ⟩:∃ρ:Env,ρ=bO [(51,L.length),(52,c),(53,o),(10,i),(15,j),(17,n)] [(64,X1),(65,X2),(66,X3),(50,A)] []:=⟨_,rfl⟩;have h1:(BE.cmp .lss (v 15) (.tn (v 51))).ev ρ=false:=by rw[hρ];exact decide_eq_false (by show ¬((j:Int)<((L.length:Nat):Int));omega)
  by_cases HB:n=1
  ·exact P9.out qd ρ hf (by rw[hρ];rfl) ⟨h1,by rw[hρ];exact decide_eq_true (by show(n:Int)=1;omega),trivial⟩ trivial fw fun _ _ _ _=>by rw[decide_eq_true HB];rfl
  ·exact Lu.out qd ρ hf (by rw[hρ];rfl) ⟨h1,by rw[hρ];exact decide_eq_false (by show ¬(n:Int)=1;omega),trivial⟩ trivial fw fun _ _ _ _=>by rw[decide_eq_false HB];rfl
 |k+1,j,n,w,cs,fr,hj,hn,fw,hf=>by
  have hlt:j<L.length:=by omega
  obtain⟨x,hx⟩:∃x,L[j]?=some x:=⟨_,aa hlt⟩;obtain⟨t,y_⟩:=hg j x hx;have hne:=nw y_;obtain⟨At,ot,ct,c0,c1,c2,Rn,iK⟩:=l6 ((hel j x hx).keep fw) hne;obtain⟨n0,l0,e0⟩:∃n l,x.tree=n::l:=by
   cases e:x.tree with
   |nil=>exact(hne e).elim
   |cons n l=>exact⟨n,l,rfl⟩
  have h0:=iK 0 n0 (by rw[e0];rfl);rw[Nat.zero_mul,Nat.add_zero]at h0;have hr:cQ x=n0.op:=by unfold cQ;rw[e0];rfl
  have hp7:(0:Int)<((x.tree.length:Nat):Int):=by rw[e0];simp only[aC];omega
  rw[Bd hx];have next:∀{n':Nat} {w1:World} {bR:Frame},(if uV E i j x=true then n+1 else n)=n'->bA w w1->FA 28 107 FtH [] .normal [(1,iV i),(4,bK X1),(7,bK X2),(11,bK X3),(12,iV n'),(32,bS A o L.length c),(33,iV L.length),(34,iV (iz .add .i64 j 1))] bR->Goes (G bR cs) w1 (Out 28 cs w0 fun v _=>v=.bool (decide ((if uV E i j x=true then n+1 else n)+kg E i (L.drop (j+1)) (j+1)=1))):=fun{n' w1 bR} hn' f1 F1=>by rw[hn'];refine Jt (c:=c) (i:=i) (X1:=X1) hel fW hg LD hlen DF h30 h31 k (j+1) n' (by omega) (by rw[<-hn'];split<;>omega) (fw.trans f1) ?_;rw[<-inc (i:=j) (by omega)];exact F1
  by_cases lQ:n0.op=18
  ·obtain⟨n1,e1,ea,ha0,SU⟩:=Cb y_ (hr.trans lQ);have h1:=iK 1 n1 e1;rw[Nat.one_mul]at h1;obtain⟨ej,Qj⟩:∃ej,E[j]?=some ej:=⟨_,aa (by omega)⟩;obtain⟨d0,d1⟩:=fW j ej Qj;have Zu:(1:Int)<((x.tree.length:Nat):Int):=by
    have:=(ak.1 e1).1;omega
   obtain⟨ρ,hρ⟩:∃ρ:Env,ρ=Go.Proofs.YtmobbajggkjpgaaGreat.SX.iS [(51,L.length),(52,c),(53,o),(10,i),(15,j),(17,n),(71,x.tree.length),(72,ct),(73,ot),(4,x.cj),(1,n0.op),(2,n1.n),(81,E.length),(82,c'),(83,o'),(13,ej.1),(14,ej.2)] [(64,X1),(65,X2),(66,X3),(50,A),(70,At),(80,A')] [] [(1,x.name)]:=⟨_,rfl⟩;have T:eZ [(1,iV i),(4,bK X1),(7,bK X2),(11,bK X3),(12,iV n),(32,bS A o L.length c),(33,iV L.length),(34,iV j)] (told ρ ER):=by rw[hρ];rfl
   have M1:cq ρ w aej:=by rw[hρ];exact⟨c0,c1,c2,h0.c0,h1.c1,trivial⟩
   have M2:cq ρ w [(eD 65 0,sA 80 83 81 82),(eD 66 0,i8 (.lit 1)),(eD 66 1,i64 (.lit 1)),(eB 80 83 15 2,i8 (v 13)),(eA 80 83 15 2 1,i64 (v 14))]:=by rw[hρ];exact⟨fw.cell DF,fw.cell h30,fw.cell h31,fw.cell d0,fw.cell d1,trivial⟩
   have b1:=bX (ρ:=ρ) (i:=15) (n:=51) (I:=j) (N:=L.length) (by rw[hρ];rfl) (by rw[hρ];rfl) hlt;have b2:=bX (ρ:=ρ) (i:=15) (n:=81) (I:=j) (N:=E.length) (by rw[hρ];rfl) (by rw[hρ];rfl) (by omega);have p7:(BE.cmp .lss (.lit 0) (.tn (v 71))).ev ρ=true:=by rw[hρ];exact decide_eq_true hp7
   have p8:(BE.cmp .lss (.lit 1) (.tn (v 71))).ev ρ=true:=by rw[hρ];exact decide_eq_true Zu
   have SG:(BE.cmp .eql (v 1) (.lit 18)).ev ρ=true:=by rw[hρ];exact decide_eq_true lQ
   have hb:uV E i j x=(decide (n1.n=i)&&decide (ej=(1,1))):=by unfold uV;rw[hr,lQ,ea,Qj];simp
   by_cases ha:n1.n=i
   ·have pa:(BE.cmp .eql (v 2) (v 10)).ev ρ=true:=by rw[hρ];exact decide_eq_true ha
    by_cases k1:ej.1=1
    ·have pk:(BE.cmp .eql (v 13) (.lit 1)).ev ρ=true:=by rw[hρ];exact decide_eq_true k1
     by_cases k2:ej.2=1
     ·refine(amQ.go ρ hf T (cg.app b1 ⟨p7,SG,p8,pa,pk,by rw[hρ];exact decide_eq_true k2,b2⟩) (cq.app M1 M2)).trans fun g1 w1 hd=>?_;obtain⟨I,B,bR,rfl,f1,F1,_⟩:=hd;rw[hρ]at F1;refine next (n':=n+1) (by rw[hb,decide_eq_true ha,decide_eq_true (Prod.ext k1 k2)];rfl) f1 ?_;rw[<-inc (i:=n) (by omega)];exact F1
     ·refine(amP.go ρ hf T (cg.app b1 ⟨p7,SG,p8,pa,pk,by rw[hρ];exact decide_eq_false k2,b2⟩) (cq.app M1 M2)).trans fun g1 w1 hd=>?_;obtain⟨I,B,bR,rfl,f1,F1,_⟩:=hd;rw[hρ]at F1;exact next (n':=n) (by rw[hb,decide_eq_false (fun h:ej=(1,1)=>k2 (by rw[h])),Bool.and_false];rfl) f1 F1
    ·refine(amO.go ρ hf T (cg.app b1 ⟨p7,SG,p8,pa,by rw[hρ];exact decide_eq_false k1,b2⟩) (cq.app M1 M2)).trans fun g1 w1 hd=>?_;obtain⟨I,B,bR,rfl,f1,F1,_⟩:=hd;rw[hρ]at F1;exact next (n':=n) (by rw[hb,decide_eq_false (fun h:ej=(1,1)=>k1 (by rw[h])),Bool.and_false];rfl) f1 F1
   ·refine(amN.go ρ hf T (cg.app b1 ⟨p7,SG,p8,by rw[hρ];exact decide_eq_false ha,trivial⟩) M1).trans fun g1 w1 hd=>?_;obtain⟨I,B,bR,rfl,f1,F1,_⟩:=hd;rw[hρ]at F1;exact next (n':=n) (by rw[hb,decide_eq_false ha];rfl) f1 F1
  ·obtain⟨ρ,hρ⟩:∃ρ:Env,ρ=Go.Proofs.YtmobbajggkjpgaaGreat.SX.iS [(51,L.length),(52,c),(53,o),(10,i),(15,j),(17,n),(71,x.tree.length),(72,ct),(73,ot),(4,x.cj),(1,n0.op)] [(64,X1),(65,X2),(66,X3),(50,A),(70,At)] [] [(1,x.name)]:=⟨_,rfl⟩;refine(amM.go ρ hf (by rw[hρ];rfl) (cg.app (bX (i:=15) (n:=51) (I:=j) (N:=L.length) (by rw[hρ];rfl) (by rw[hρ];rfl) hlt) ⟨by rw[hρ];exact decide_eq_true hp7,by rw[hρ];exact decide_eq_false lQ,trivial⟩) ⟨by rw[hρ];exact c0,by rw[hρ];exact c1,by rw[hρ];exact c2,by rw[hρ];exact h0.c0,trivial⟩).trans fun g1 w1 hd=>?_;obtain⟨I,B,bR,rfl,f1,F1,_⟩:=hd;rw[hρ]at F1;refine next (n':=n) ?_ f1 F1;unfold uV;rw[hr,decide_eq_false lQ];rfl
noncomputable abbrev Qk:List Item:=[.code (nA 125),.code (nA 63)]
theorem LF{ls os s:Value}{L:List cx}{E:List (Int×Int)}{i:Nat}{x:cx}{t:T}{e:Int×Int}(hl:r9 w ls L)(hE:ei w s E)(hi:L[i]?=some x)(he:E[i]?=some e)(LD:L.length≤E.length)(hlen:L.length≤1000000)(NO:x.tree.length≤999999)(y_:fO x i t)(hg:∀(j:Nat) (x:cx),L[j]?=some x->∃t,fO x j t):
  dV 28 #[.agg #[ls,os],iV i,dx m,s] w fun v w'=>bA w w'∧v=.bool (sx m E L i x t e):=by
 obtain⟨z,A,o,c,hls,hz,oU,hel⟩:=hl.ex;obtain⟨y,A',o',c',hs,hy,Gp,fW⟩:=hE.ex;have hil:i<L.length:=(ak.1 hi).1;have Zv:i<E.length:=(ak.1 he).1;cases z with
 |true=>rw[hz rfl]at hil;simp only[aX]at hil;omega
 |false=>
 cases y with
 |true=>rw[hy rfl]at Zv;simp only[aX]at Zv;omega
 |false=>
 have hls:ls=bS A o L.length c:=hls;have hs:s=bS A' o' E.length c':=hs;have hne:=nw y_;obtain⟨At,ot,ct,c0,c1,c2,Rn,y6⟩:=l6 (hel i x hi) hne;obtain⟨d0,d1⟩:=fW i e he;refine Goes.iY fun cs=>?_;have En:=Ro (live:=List.range 107) (vals:=j6++List.replicate 103 Z) ab1 VU (.agg #[ls,os]) (iV i) (dx m) s;obtain⟨ρ,hρ⟩:∃ρ:Env,ρ=Go.Proofs.YtmobbajggkjpgaaGreat.SX.iS [(51,L.length),(52,c),(53,o),(10,i),(71,x.tree.length),(72,ct),(73,ot),(4,x.cj),(81,E.length),(82,c'),(83,o'),(11,e.1),(12,e.2),(21,m.mul),(22,m.add),(23,m.cJ),(24,m.panics)] [(50,A),(70,At),(80,A')] [(9,os)] [(1,x.name)]:=⟨_,rfl⟩;have bb:=cg.app (bX (ρ:=ρ) (i:=10) (n:=51) (I:=i) (N:=L.length) (by rw[hρ];rfl) (by rw[hρ];rfl) hil) (bX (ρ:=ρ) (i:=10) (n:=81) (I:=i) (N:=E.length) (by rw[hρ];rfl) (by rw[hρ];rfl) Zv);have mm:w.cell? ⟨A,o+i*3,none⟩=some (.string x.name)∧w.cell? ⟨A,o+i*3+1,none⟩=some (bS At ot x.tree.length ct)∧w.cell? ⟨A,o+i*3+2,none⟩=some (iV x.cj)∧w.cell? ⟨A',o'+i*2,none⟩=some (cY e.1)∧w.cell? ⟨A',o'+i*2+1,none⟩=some (iV e.2):=⟨c0,c1,c2,d0,d1⟩;have rest:∀{w1:World} {bR:Frame} {X0 X1 X2 X3 X4 X5:Nat},¬(e.1=4∧e.2=i)->bA w w1->(cy.obj 43 [cY 1,iV 1]).at Tryz.prog w1 X5->(cy.obj 43 [cY e.1,iV e.2]).at Tryz.prog w1 X4->(cy.obj 50 [.string x.name,bS At ot x.tree.length ct,iV x.cj]).at Tryz.prog w1 X3->(cy.obj 28 [bS A' o' E.length c']).at Tryz.prog w1 X2->(cy.obj 27 [iV m.mul,iV m.add,iV m.cJ,iV m.panics]).at Tryz.prog w1 X1->
   FA 28 107 (.inRegion (opsOf (nA 124)) [1]::Qk) [] .normal [(4,bK X0),(6,bK X1),(7,bK X2),(9,bK X3),(10,bK X4),(11,bK X5),(64,fK x (bS At ot x.tree.length ct))] bR->Goes (G bR cs) w1 (Out 28 cs w fun v _=>v=.bool (sx m E L i x t e)):=fun{w1 bR X0 X1 X2 X3 X4 X5} hn f1 h5 h4 h3 h2 h1 F1=>by
  unfold sx;rw[if_neg hn];refine(amJ.go (bO [] [] [(64,fK x (bS At ot x.tree.length ct))]) (Q:=fun v w'=>v=cY (cQ x)) F1 rfl fun w' f2=>yf hne fun i n hi=>(y6 i n hi).keep (f1.trans f2)).trans fun g2 w2 b_=>?_;obtain⟨cE,vv,rfl,f2,rfl,F2⟩:=b_;have jT:=f1.trans f2;have F2:FA 28 107 (.inRegion (opsOf (nA 124)) []::Qk) [] .normal [(4,bK X0),(6,bK X1),(7,bK X2),(9,bK X3),(10,bK X4),(11,bK X5),(65,cY (cQ x))] cE:=F2.only rfl;have mE:∀{w':World},bA w1 w'->w'.cell? ⟨X2,0,none⟩=some (bS A' o' E.length c'):=fun f=>f.cell (bG h2 (i:=0) rfl);by_cases sg:cQ x=17
  ·rw[if_pos sg];obtain⟨σ,cr⟩:∃σ:Env,σ=Go.Proofs.YtmobbajggkjpgaaGreat.SX.iS [(71,x.tree.length),(72,ct),(73,ot),(4,x.cj),(1,cQ x)] [(64,X0),(65,X1),(66,X2),(67,X3),(68,X4),(69,X5),(70,At)] [] [(1,x.name)]:=⟨_,rfl⟩;refine(amR.go σ F2 (by rw[cr];rfl) ⟨by rw[cr];exact decide_eq_true sg,trivial⟩ ⟨by rw[cr];exact f2.cell (bG h3 (i:=0) rfl),by rw[cr];exact f2.cell (bG h3 (i:=1) rfl),by rw[cr];exact f2.cell (bG h3 (i:=2) rfl),trivial⟩).trans fun g3 w3 cv=>?_;obtain⟨I,B,cF,rfl,f3,F3,_⟩:=cv;rw[cr]at F3;refine(amS.go (bO [] [] [(68,fK x (bS At ot x.tree.length ct))]) (Q:=fun v w'=>jq w' v (mS x)) F3 rfl fun w' f=>Lr ⟨.inr ⟨At,ot,ct,rfl,Rn,fun i n hi=>(y6 i n hi).keep ((jT.trans f3).trans f)⟩⟩ hne NO).trans fun g4 w4 dh=>?_;obtain⟨eO,l,rfl,f4,hI,F4⟩:=dh;refine(amT.go (bO [] [(66,X2),(68,X4)] [(69,l)]) F4 rfl trivial trivial).trans fun g5 w5 eg=>?_;obtain⟨I,B,gn,rfl,f5,F5,_⟩:=eg;have f25:=f3.trans (f4.trans f5);refine(amU.go (bO [] [(66,X2),(68,X4)] [(69,l)]) (Q:=fun v w'=>v=.bool ((mS x).any (uW E e))) F5 rfl fun w' f=>?_).trans fun g6 w6 dz=>?_
   ·have fw:bA w w':=jT.trans (f25.trans f);have f1':bA w1 w':=f2.trans (f25.trans f);refine LC (hI.keep (f5.trans f)) ?_ (ax (Lq x) (by omega)) (fun i e hi=>⟨fw.cell (fW i e hi).1,fw.cell (fW i e hi).2⟩) (mE f1') (f1'.cell (bG h4 (i:=0) rfl)) (f1'.cell (bG h4 (i:=1) rfl)) (fun n hn=>?_)
    ·intro h0;obtain⟨a,ha⟩:=List.exists_mem_of_ne_nil _ (EY y_ sg);have:=(uj sg).2 ha;rw[h0]at this;cases this
    ·have:=y5 y_ ((uj sg).1 hn);omega
   ·obtain⟨dK,vv,rfl,f6,rfl,F6⟩:=dz;rw[LB sg]at F6;have BW:=jT.trans (f25.trans f6);cases hb:(cT x.tree).any (uW E e)with
    |true=>rw[hb]at F6;exact P_.out qd (bO [] [] []) F6 rfl trivial trivial BW fun _ _ _ _=>rfl
    |false=>rw[hb]at F6;exact Lv.out qd (bO [] [] []) F6 rfl trivial trivial BW fun _ _ _ _=>rfl
  rw[if_neg sg];by_cases lQ:cQ x=18
  ·rw[if_pos lQ];obtain⟨n1,e1,ea,ha0,SU⟩:=Cb y_ lQ;obtain⟨a,hna⟩:∃a:Nat,n1.n=a:=⟨n1.n.toNat,by omega⟩;have hal:a<E.length:=by omega
   obtain⟨ej,Qj⟩:∃ej,E[a]?=some ej:=⟨_,aa hal⟩;obtain⟨g0,g1⟩:=fW a ej Qj;have Ql:=y6 1 n1 e1;rw[Nat.one_mul]at Ql;have Zu:(1:Int)<((x.tree.length:Nat):Int):=by have:=(ak.1 e1).1;omega
   rw[ea,hna,Int.toNat_natCast,Qj];obtain⟨σ,cr⟩:∃σ:Env,σ=Go.Proofs.YtmobbajggkjpgaaGreat.SX.iS [(71,x.tree.length),(72,ct),(73,ot),(4,x.cj),(1,cQ x),(2,a),(11,e.1),(12,e.2),(81,E.length),(82,c'),(83,o'),(13,ej.1),(14,ej.2)] [(64,X0),(65,X1),(66,X2),(67,X3),(68,X4),(69,X5),(70,At),(80,A')] [] [(1,x.name)]:=⟨_,rfl⟩;have T:eZ [(4,bK X0),(6,bK X1),(7,bK X2),(9,bK X3),(10,bK X4),(11,bK X5),(65,cY (cQ x))] (told σ vN):=by rw[cr];rfl
   have M1:cq σ w2 Sw:=by rw[cr];exact⟨f2.cell (bG h3 (i:=0) rfl),f2.cell (bG h3 (i:=1) rfl),f2.cell (bG h3 (i:=2) rfl),jT.cell (by rw[<-hna];exact Ql.c1),f2.cell (bG h4 (i:=0) rfl),f2.cell (bG h4 (i:=1) rfl),f2.cell (bG h5 (i:=0) rfl),f2.cell (bG h5 (i:=1) rfl),trivial⟩
   have M2:cq σ w2 [(eD 66 0,sA 80 83 81 82),(eB 80 83 2 2,i8 (v 13)),(eA 80 83 2 2 1,i64 (v 14))]:=by rw[cr];exact⟨mE f2,jT.cell g0,jT.cell g1,trivial⟩
   have Z0:(BE.cmp .eql (v 1) (.lit 17)).ev σ=false:=by rw[cr];exact decide_eq_false sg
   have VW:(BE.cmp .eql (v 1) (.lit 18)).ev σ=true:=by rw[cr];exact decide_eq_true lQ
   have q8:(BE.cmp .lss (.lit 1) (.tn (v 71))).ev σ=true:=by rw[cr];exact decide_eq_true Zu
   have bE:=bX (ρ:=σ) (i:=2) (n:=81) (I:=a) (N:=E.length) (by rw[cr];rfl) (by rw[cr];rfl) hal;by_cases k1:e.1=1
   ·have qk:(BE.cmp .eql (v 11) (.lit 1)).ev σ=true:=by rw[cr];exact decide_eq_true k1
    by_cases k0:e.2=0
    ·refine amW.out qd σ F2 T ⟨Z0,VW,q8,qk,by rw[cr];exact decide_eq_true k0,trivial⟩ M1 jT fun _ _ _ _=>?_;rw[decide_eq_true (show e=(1,0)from Prod.ext k1 k0)];rfl
    ·have q0:(BE.cmp .eql (v 12) (.lit 0)).ev σ=false:=by rw[cr];exact decide_eq_false k0
     rw[decide_eq_false (fun h:e=(1,0)=>k0 (by rw[h])),Bool.false_or];by_cases k2:e.2=1
     ·have q1:(BE.cmp .eql (v 12) (.lit 1)).ev σ=true:=by rw[cr];exact decide_eq_true k2
      rw[decide_eq_true (show e=(1,1)from Prod.ext k1 k2),Bool.true_and];by_cases j1:ej.1=4
      ·have p4:(BE.cmp .eql (v 13) (.lit 4)).ev σ=true:=by rw[cr];exact decide_eq_true j1
       by_cases j2:ej.2=a
       ·refine am0.out qd σ F2 T ⟨Z0,VW,q8,qk,q0,q1,cg.app bE ⟨p4,by rw[cr];exact decide_eq_true j2,trivial⟩⟩ (cq.app M1 M2) jT fun _ _ _ _=>?_;rw[decide_eq_true (show some ej=some (4,(a:Int))from congrArg some (Prod.ext j1 j2))];rfl
       ·refine amZ.out qd σ F2 T ⟨Z0,VW,q8,qk,q0,q1,cg.app bE ⟨p4,by rw[cr];exact decide_eq_false j2,trivial⟩⟩ (cq.app M1 M2) jT fun _ _ _ _=>?_;rw[decide_eq_false (fun h:some ej=some (4,(a:Int))=>j2 (by rw[au h]))];rfl
      ·refine amY.out qd σ F2 T ⟨Z0,VW,q8,qk,q0,q1,cg.app bE ⟨by rw[cr];exact decide_eq_false j1,trivial⟩⟩ (cq.app M1 M2) jT fun _ _ _ _=>?_;rw[decide_eq_false (fun h:some ej=some (4,(a:Int))=>j1 (by rw[au h]))];rfl
     ·refine amX.out qd σ F2 T ⟨Z0,VW,q8,qk,q0,by rw[cr];exact decide_eq_false k2,trivial⟩ M1 jT fun _ _ _ _=>?_;rw[decide_eq_false (fun h:e=(1,1)=>k2 (by rw[h]))];rfl
   ·refine amV.out qd σ F2 T ⟨Z0,VW,q8,by rw[cr];exact decide_eq_false k1,trivial⟩ M1 jT fun _ _ _ _=>?_;rw[decide_eq_false (fun h:e=(1,0)=>k1 (by rw[h])),decide_eq_false (fun h:e=(1,1)=>k1 (by rw[h]))];rfl
  rw[if_neg lQ];obtain⟨σ,cr⟩:∃σ:Env,σ=Go.Proofs.YtmobbajggkjpgaaGreat.SX.iS [(71,x.tree.length),(72,ct),(73,ot),(4,x.cj),(81,E.length),(82,c'),(83,o'),(21,m.mul),(22,m.add),(23,m.cJ),(24,m.panics),(1,cQ x)] [(64,X0),(65,X1),(66,X2),(67,X3),(68,X4),(70,At),(80,A')] [] [(1,x.name)]:=⟨_,rfl⟩;have lY:FA 28 107 (.inRegion (opsOf (nA 124)) []::Qk) [] .normal [(4,bK X0),(6,bK X1),(7,bK X2),(9,bK X3),(10,bK X4),(65,cY (cQ x))] cE:=F2.only rfl;refine(ft7.go σ lY (by rw[cr];rfl) ⟨by rw[cr];exact decide_eq_false sg,by rw[cr];exact decide_eq_false lQ,trivial⟩ ⟨by rw[cr];exact f2.cell (bG h3 (i:=0) rfl),by rw[cr];exact f2.cell (bG h3 (i:=1) rfl),by rw[cr];exact f2.cell (bG h3 (i:=2) rfl),by rw[cr];exact f2.cell (bG h2 (i:=0) rfl),by rw[cr];exact f2.cell (bG h1 (i:=0) rfl),by rw[cr];exact f2.cell (bG h1 (i:=1) rfl),by rw[cr];exact f2.cell (bG h1 (i:=2) rfl),by rw[cr];exact f2.cell (bG h1 (i:=3) rfl),trivial⟩).trans fun g3 w3 cv=>?_;obtain⟨I,B,cF,rfl,f3,F3,bl,_⟩:=cv;rw[cr]at F3 bl;obtain⟨V,eV⟩:∃V,B 100=V:=⟨_,rfl⟩;have hW:(cy.obj 69 [bS At ot x.tree.length ct,bS A' o' E.length c',iV m.mul,iV m.add,iV m.cJ,iV m.panics]).at Tryz.prog w3 V:=by rw[<-eV];exact bl.1.2
  have qc:FA 28 107 (.code (nA 254)::[.code .ret]) [] .normal [(10,bK X4),(16,bK V)] cF:=by rw[<-eV];exact F3
  have vV:=f1.trans (f2.trans f3);have wk:nM w3 V x.tree At ot ct (bS A' o' E.length c') m:=⟨bG hW (i:=0) rfl,bG hW (i:=1) rfl,bG hW (i:=2) rfl,bG hW (i:=3) rfl,bG hW (i:=4) rfl,bG hW (i:=5) rfl,fun i n hi=>(y6 i n hi).keep vV⟩;refine(Ry (V:=V) (X:=X4) (r:=qB E m t) (e:=e) (fun w' f4=>?_) ((f2.trans f3).cell (bG h4 (i:=0) rfl)) ((f2.trans f3).cell (bG h4 (i:=1) rfl)) qc).trans fun g4 w4 dh=>?_
  ·exact yc t (cj:=0) (rest:=[]) (wk.keep f4) (by omega) (by rw[<-hs];exact hE.keep (vV.trans f4)) y_.wf (y_.nd.mono (by omega)) (by rw[List.drop_zero,aV];exact y_.fl)
  ·obtain⟨eO,rfl,f4,F4⟩:=dh;exact ab5.out qd (bO [] [] [(8,.bool (decide (qB E m t=e)))]) F4 rfl trivial trivial (vV.trans f4) fun _ _ _ _=>rfl
 by_cases h4:e.1=4
 ·by_cases h5:e.2=i
  ·refine(amL.go ρ En (by rw[hρ,hls,hs];unfold eZ;kernel_rfl) (cg.app bb ⟨by rw[hρ];exact decide_eq_true h4,by rw[hρ];exact decide_eq_true h5,trivial⟩) ⟨by rw[hρ];exact mm.1,by rw[hρ];exact mm.2.1,by rw[hρ];exact mm.2.2.1,by rw[hρ];exact mm.2.2.2.1,by rw[hρ];exact mm.2.2.2.2,trivial⟩).trans fun g1 w1 hd=>?_;obtain⟨I,B,bR,rfl,f1,F1,bl,_⟩:=hd;rw[hρ]at F1 bl;have hO:(cy.obj 43 [cY 1,iV 1]).at Tryz.prog w1 (B Kz):=bl.1.2;have hK:(cy.obj 28 [bS A' o' E.length c']).at Tryz.prog w1 (B 102):=bl.2.1.2;refine(Jt (w0:=w1) (c:=c) (i:=i) (X1:=B 100) (X2:=B 102) (X3:=B Kz) (fun i x hi=>(hel i x hi).keep f1) (fun i e hi=>⟨f1.cell (fW i e hi).1,f1.cell (fW i e hi).2⟩) hg LD hlen (bG hK (i:=0) rfl) (bG hO (i:=0) rfl) (bG hO (i:=1) rfl) L.length 0 0 (by omega) (ay _) (bA.refl _) F1).mono fun g2 w2 b_=>?_;obtain⟨cE,v,rfl,hL,f2,hv⟩:=b_;refine⟨cE,v,rfl,hL,f1.trans f2,?_⟩;unfold sx;rw[if_pos ⟨h4,h5⟩,hv,aF,List.drop_zero]
  ·refine(amK.go ρ En (by rw[hρ,hls,hs];unfold eZ;kernel_rfl) (cg.app bb ⟨by rw[hρ];exact decide_eq_true h4,by rw[hρ];exact decide_eq_false h5,trivial⟩) ⟨by rw[hρ];exact mm.1,by rw[hρ];exact mm.2.1,by rw[hρ];exact mm.2.2.1,by rw[hρ];exact mm.2.2.2.1,by rw[hρ];exact mm.2.2.2.2,trivial⟩).trans fun g1 w1 hd=>?_;obtain⟨I,B,bR,rfl,f1,F1,bl,_⟩:=hd;rw[hρ]at F1 bl;exact rest (X0:=B 100) (X1:=B 101) (X2:=B 102) (X3:=B TH) (X4:=B TI) (X5:=B Kz) (fun h=>h5 h.2) f1 bl.1.2 bl.2.1.2 bl.2.2.1.2 bl.2.2.2.1.2 bl.2.2.2.2.1.2 F1
 ·refine(amI.go ρ En (by rw[hρ,hls,hs];unfold eZ;kernel_rfl) (cg.app bb ⟨by rw[hρ];exact decide_eq_false h4,trivial⟩) ⟨by rw[hρ];exact mm.1,by rw[hρ];exact mm.2.1,by rw[hρ];exact mm.2.2.1,by rw[hρ];exact mm.2.2.2.1,by rw[hρ];exact mm.2.2.2.2,trivial⟩).trans fun g1 w1 hd=>?_;obtain⟨I,B,bR,rfl,f1,F1,bl,_⟩:=hd;rw[hρ]at F1 bl;exact rest (X0:=B 100) (X1:=B 101) (X2:=B 102) (X3:=B TH) (X4:=B TI) (X5:=B Kz) (fun h=>h4 h.1) f1 bl.1.2 bl.2.1.2 bl.2.2.1.2 bl.2.2.2.1.2 bl.2.2.2.2.1.2 F1
end
noncomputable abbrev RnH:List Item:=uh
noncomputable abbrev RhH:List Item:=oy
section
variable {w w0:World}{cs:List Frame}{fr:Frame}
theorem SH{base A o L c i:Nat}{s:Value}{l:List Int}{nd:Nd}(hb:base≤w.heap.size)(hA:A<base)(hs:c7 w base s l)(hl:l.length≤1000000)(hN:iI w A (o+i*4) nd)(h2:nd.op=2)(hi:i<L)(hf:FA 55 26 RnH [] .normal [(0,bS A o L c),(3,s),(4,iV i)] fr):
  Goes (G fr cs) w fun g' w'=>∃fr' s',g'=G fr' cs∧bU (fun x=>base≤x) w w'∧c7 w' base s' (l++[nd.n])∧FA 55 26 RnH [] .normal [(0,bS A o L c),(3,s'),(4,iV (iz .add .i64 i 1))] fr':=by
 rcases hs with⟨rfl,rfl⟩|⟨hne,B0,c0,rfl,LQ,hv⟩
 ·obtain⟨ρ,hρ⟩:∃ρ:Env,ρ=bO [(51,L),(54,c),(53,o),(10,i),(1,nd.op),(13,nd.n)] [(50,A)] []:=⟨_,rfl⟩;refine(ael.go ρ hf (by rw[hρ];rfl) (cg.app (bX (i:=10) (n:=51) (I:=i) (N:=L) (by rw[hρ];rfl) (by rw[hρ];rfl) hi) ⟨by rw[hρ];exact decide_eq_true h2,trivial⟩) ⟨by rw[hρ];exact hN.c0,by rw[hρ];exact hN.c1,trivial⟩).mono fun g1 w1 hd=>?_;obtain⟨I,B,bR,rfl,f1,F1,bl,_⟩:=hd;rw[hρ]at F1 bl;exact⟨bR,_,rfl,f1.mono fun x hx=>ax hb hx,.inr ⟨by simp,B 101,(I 101).toNat,rfl,ax hb bl.1.1,bl.1.2⟩,F1⟩
 ·obtain⟨ρ,hρ⟩:∃ρ:Env,ρ=bO [(51,L),(54,c),(53,o),(10,i),(1,nd.op),(13,nd.n),(8,l.length),(57,c0)] [(50,A),(52,B0)] [(65,.agg (l.map iV).toArray)]:=⟨_,rfl⟩;have NB:ρ.b 52=B0:=by rw[hρ];rfl
  have e50:ρ.b 50=A:=by rw[hρ];rfl
  refine(am2.Df ρ hf (by rw[hρ];rfl) (cg.app (l':=[_,_]) (bX (i:=10) (n:=51) (I:=i) (N:=L) (by rw[hρ];rfl) (by rw[hρ];rfl) hi) ⟨by rw[hρ];exact decide_eq_true h2,by
    rw[hρ];show decide ((((l.length:Int).toNat:Nat):Int)+1≤1048576)=true;exact decide_eq_true (by omega),trivial⟩) ⟨by rw[hρ];exact hN.c0,by rw[hρ];exact hN.c1,trivial⟩ (fun q hq x hx=>by
    obtain rfl:=ah.1 hx;simp only[ai,aA,or_false]at hq;show ρ.b 52≠_;rw[NB];rcases hq with rfl|rfl
    ·show B0≠ρ.b 50;omega
    ·show B0≠ρ.b 50;omega) ⟨⟨.vec 3 c0 (l.map iV),by rw[NB];exact hv,rfl,by rw[hρ];rfl,fun inf rS=>?_,(nofun),by rw[hρ];rfl⟩,trivial⟩ eS).mono fun g1 w1 hd=>?_
  ·rw[yb inf rS,hρ];show(l.map iV).length=((l.length:Nat):Int).toNat*1;rw[aD];omega
  obtain⟨I,B,bR,rfl,kp,F1,bl,_⟩:=hd;have own:∀x,k_ ρ w vj x->base≤x:=fun x hx=>by
   rcases hx with h|⟨y,hy,e⟩
   ·exact ax hb h
   ·obtain rfl:=ah.1 hy;have e:ρ.b 52=x:=e;omega
  have hB:(cy.vec 3 (I 101).toNat ((l++[nd.n]).map iV)).at Tryz.prog w1 (B 101):=by have:=bl.1.2;rw[hρ]at this;rw[bu];exact this
  have hn:((((l.length:Int).toNat:Nat):Int)+1).toNat=(l++[nd.n]).length:=by rw[an,bp];omega
  refine⟨bR,bS (B 101) 0 (l++[nd.n]).length (I 101).toNat,rfl,kp.mono own,.inr ⟨by simp,B 101,(I 101).toNat,rfl,own _ bl.1.1,hB⟩,?_⟩;rw[<-hn];rw[hρ]at F1;exact F1
theorem Cc{A o c:Nat}{tree:List Nd}(hel:∀i n,tree[i]?=some n->iI w0 A (o+i*4) n)(hlen:tree.length≤999999):
  ∀(k i:Nat) {s:Value} {w:World} {fr:Frame},i+k=tree.length->c7 w w0.heap.size s (cT (tree.take i))->bA w0 w->FA 55 26 RnH [] .normal [(0,bS A o tree.length c),(3,s),(4,iV i)] fr->
  Goes (G fr cs) w fun g' w'=>∃fr' s',g'=G fr' cs∧bA w0 w'∧c7 w' w0.heap.size s' (cT tree)∧FA 55 26 RnH [] .normal [(0,bS A o tree.length c),(3,s'),(4,iV tree.length)] fr'
 |0,i,s,w,fr,hi,hs,fw,hf=>.here ⟨fr,s,rfl,fw,by rwa[List.take_of_length_le (by omega)]at hs,by rw[show tree.length=i by omega]at hf⊢;exact hf⟩
 |k+1,i,s,w,fr,hi,hs,fw,hf=>by
  have hlt:i<tree.length:=by omega
  obtain⟨nd,iK⟩:∃nd,tree[i]?=some nd:=⟨_,aa hlt⟩;have hN:=(hel i nd iK).keep fw;have EP:tree.take (i+1)=tree.take i++[nd]:=by rw[List.take_add_one,iK];rfl
  have hA:A<w0.heap.size:=j5 (hel i nd iK).c0;have ZS:(cT (tree.take i)).length≤1000000:=ax (ox _) (by rw[List.length_take];omega);by_cases h2:nd.op=2
  ·refine(SH (base:=w0.heap.size) fw.size hA hs ZS hN h2 hlt hf).trans fun g1 w1 hd=>?_;obtain⟨bR,s',rfl,kp,hs',F1⟩:=hd;rw[inc (by omega)]at F1;refine Cc hel hlen k (i+1) (by omega) ?_ (cw fw kp) F1;have e:cT (tree.take (i+1))=cT (tree.take i)++[nd.n]:=by
    rw[EP];unfold cT;rw[List.filter_append,bu];simp[h2]
   rw[e];exact hs'
  ·obtain⟨ρ,hρ⟩:∃ρ:Env,ρ=bO [(51,tree.length),(54,c),(53,o),(10,i),(1,nd.op),(13,nd.n)] [(50,A)] [(5,s)]:=⟨_,rfl⟩;refine(am3.go ρ hf (by rw[hρ];rfl) (cg.app (bX (i:=10) (n:=51) (I:=i) (N:=tree.length) (by rw[hρ];rfl) (by rw[hρ];rfl) hlt) ⟨by rw[hρ];exact decide_eq_false h2,trivial⟩) ⟨by rw[hρ];exact hN.c0,by rw[hρ];exact hN.c1,trivial⟩).trans fun g1 w1 hd=>?_;obtain⟨I,B,bR,rfl,f1,F1,_⟩:=hd;rw[hρ]at F1;refine Cc hel hlen k (i+1) (s:=s) (by omega) ?_ (fw.trans f1) ?_
   ·have e:cT (tree.take (i+1))=cT (tree.take i):=by
     rw[EP];unfold cT;rw[List.filter_append,bu];simp[h2]
    rw[e];exact hs.P5 f1
   ·rw[<-inc (i:=i) (by omega)];exact F1
theorem Hg{s:Value}{tree:List Nd}(h:cK w s tree)(hn:tree≠[])(hlen:tree.length≤999999):dV 55 #[s] w fun v w'=>bA w w'∧c7 w' w.heap.size v (cT tree):=by
 rcases h.ex with⟨_,h0⟩|⟨A,o,c,rfl,hc,hel⟩
 ·exact(hn h0).elim
 refine Goes.iY fun cs=>?_;refine(am1.go (bO [] [] [(0,bS A o tree.length c)]) (cC Zf rfl (bS A o tree.length c)) rfl trivial trivial).trans fun g1 w1 hd=>?_;obtain⟨I,B,bR,rfl,f1,F1,_⟩:=hd;have fN:FA 55 26 RnH [] .normal [(0,bS A o tree.length c),(3,eH),(4,iV (0:Nat))] bR:=F1;refine(Cc (w0:=w) hel hlen tree.length 0 (s:=eH) (by omega) (.inl ⟨rfl,rfl⟩) f1 fN).trans fun g2 w2 b_=>?_;obtain⟨cE,s',rfl,f2,hI,F2⟩:=b_;refine am4.out Zg (bO [(51,tree.length),(54,c),(53,o),(10,tree.length)] [(50,A)] [(5,s')]) F2 rfl ⟨decide_eq_false (by show ¬(((tree.length:Nat):Int)<((tree.length:Nat):Int));omega),trivial⟩ trivial f2 fun _ _ w' f=>hI.P5 f
theorem Ju{L:List cx}{E:List (Int×Int)}{A o c i X A' o' c':Nat}(hel:∀i x,L[i]?=some x->lE w0 A (o+i*3) x)(fW:∀i e,E[i]?=some e->w0.cell? ⟨A',o'+i*2,none⟩=some (cY e.1)∧w0.cell? ⟨A',o'+i*2+1,none⟩=some (iV e.2))(hg:∀(j:Nat) (x:cx),L[j]?=some x->∃t,fO x j t)(LD:L.length≤E.length)(hlen:L.length≤1000000)
 (hX:w0.cell? ⟨X,0,none⟩=some (bS A o L.length c)):
  ∀(k j n:Nat) {w:World} {cs:List Frame} {fr:Frame},j+k=L.length->n≤j->bA w0 w->FA 54 46 RhH [] .normal [(1,iV i),(2,bS A' o' E.length c'),(3,bK X),(7,iV n),(8,iV j)] fr->
  Goes (G fr cs) w (Out 54 cs w0 fun v _=>v=iV (n+kg E i (L.drop j) j:Nat))
 |0,j,n,w,cs,fr,hj,hn,fw,hf=>by
  have e0:n+kg E i (L.drop j) j=n:=by rw[aI (by omega)];rfl
  rw[e0];obtain⟨ρ,hρ⟩:∃ρ:Env,ρ=bO [(51,L.length),(52,c),(53,o),(10,i),(15,j),(17,n),(81,E.length),(82,c'),(83,o')] [(64,X),(50,A),(80,A')] []:=⟨_,rfl⟩;exact ana.out Zj ρ hf (by rw[hρ];rfl) ⟨by rw[hρ];exact decide_eq_false (by show ¬((j:Int)<((L.length:Nat):Int));omega),trivial⟩ ⟨by rw[hρ];exact fw.cell hX,trivial⟩ fw fun _ _ _ _=>by rw[hρ];rfl
 |k+1,j,n,w,cs,fr,hj,hn,fw,hf=>by
  have hlt:j<L.length:=by omega
  obtain⟨x,hx⟩:∃x,L[j]?=some x:=⟨_,aa hlt⟩;obtain⟨t,y_⟩:=hg j x hx;have hne:=nw y_;obtain⟨At,ot,ct,c0,c1,c2,Rn,iK⟩:=l6 ((hel j x hx).keep fw) hne;obtain⟨n0,l0,e0⟩:∃n l,x.tree=n::l:=by
   cases e:x.tree with
   |nil=>exact(hne e).elim
   |cons n l=>exact⟨n,l,rfl⟩
  have h0:=iK 0 n0 (by rw[e0];rfl);rw[Nat.zero_mul,Nat.add_zero]at h0;have hr:cQ x=n0.op:=by unfold cQ;rw[e0];rfl
  have hp7:(0:Int)<((x.tree.length:Nat):Int):=by rw[e0];simp only[aC];omega
  rw[Bd hx];have next:∀{n':Nat} {w1:World} {bR:Frame},(if uV E i j x=true then n+1 else n)=n'->bA w w1->FA 54 46 RhH [] .normal [(1,iV i),(2,bS A' o' E.length c'),(3,bK X),(7,iV n'),(8,iV (iz .add .i64 j 1))] bR->Goes (G bR cs) w1 (Out 54 cs w0 fun v _=>v=iV ((if uV E i j x=true then n+1 else n)+kg E i (L.drop (j+1)) (j+1):Nat)):=fun{n' w1 bR} hn' f1 F1=>by rw[hn'];refine Ju (c:=c) (c':=c') (i:=i) (X:=X) hel fW hg LD hlen hX k (j+1) n' (by omega) (by rw[<-hn'];split<;>omega) (fw.trans f1) ?_;rw[<-inc (i:=j) (by omega)];exact F1
  by_cases lQ:n0.op=18
  ·obtain⟨n1,e1,ea,ha0,SU⟩:=Cb y_ (hr.trans lQ);have h1:=iK 1 n1 e1;rw[Nat.one_mul]at h1;obtain⟨ej,Qj⟩:∃ej,E[j]?=some ej:=⟨_,aa (by omega)⟩;obtain⟨d0,d1⟩:=fW j ej Qj;have Zu:(1:Int)<((x.tree.length:Nat):Int):=by
    have:=(ak.1 e1).1;omega
   obtain⟨ρ,hρ⟩:∃ρ:Env,ρ=Go.Proofs.YtmobbajggkjpgaaGreat.SX.iS [(51,L.length),(52,c),(53,o),(10,i),(15,j),(17,n),(71,x.tree.length),(72,ct),(73,ot),(4,x.cj),(1,n0.op),(2,n1.n),(81,E.length),(82,c'),(83,o'),(13,ej.1),(14,ej.2)] [(64,X),(50,A),(70,At),(80,A')] [] [(1,x.name)]:=⟨_,rfl⟩;have T:eZ [(1,iV i),(2,bS A' o' E.length c'),(3,bK X),(7,iV n),(8,iV j)] (told ρ yX):=by rw[hρ];rfl
   have M1:cq ρ w aem:=by rw[hρ];exact⟨fw.cell hX,c0,c1,c2,h0.c0,h1.c1,trivial⟩
   have M2:cq ρ w [(eB 80 83 15 2,i8 (v 13)),(eA 80 83 15 2 1,i64 (v 14))]:=by rw[hρ];exact⟨fw.cell d0,fw.cell d1,trivial⟩
   have b1:=bX (ρ:=ρ) (i:=15) (n:=51) (I:=j) (N:=L.length) (by rw[hρ];rfl) (by rw[hρ];rfl) hlt;have b2:=bX (ρ:=ρ) (i:=15) (n:=81) (I:=j) (N:=E.length) (by rw[hρ];rfl) (by rw[hρ];rfl) (by omega);have p7:(BE.cmp .lss (.lit 0) (.tn (v 71))).ev ρ=true:=by rw[hρ];exact decide_eq_true hp7
   have p8:(BE.cmp .lss (.lit 1) (.tn (v 71))).ev ρ=true:=by rw[hρ];exact decide_eq_true Zu
   have SG:(BE.cmp .eql (v 1) (.lit 18)).ev ρ=true:=by rw[hρ];exact decide_eq_true lQ
   have hb:uV E i j x=(decide (n1.n=i)&&decide (ej=(1,1))):=by unfold uV;rw[hr,lQ,ea,Qj];simp
   by_cases ha:n1.n=i
   ·have pa:(BE.cmp .eql (v 2) (v 10)).ev ρ=true:=by rw[hρ];exact decide_eq_true ha
    by_cases k1:ej.1=1
    ·have pk:(BE.cmp .eql (v 13) (.lit 1)).ev ρ=true:=by rw[hρ];exact decide_eq_true k1
     by_cases k2:ej.2=1
     ·refine(am_.go ρ hf T (cg.app b1 ⟨p7,SG,p8,pa,pk,by rw[hρ];exact decide_eq_true k2,b2⟩) (cq.app M1 M2)).trans fun g1 w1 hd=>?_;obtain⟨I,B,bR,rfl,f1,F1,_⟩:=hd;rw[hρ]at F1;refine next (n':=n+1) (by rw[hb,decide_eq_true ha,decide_eq_true (Prod.ext k1 k2)];rfl) f1 ?_;rw[<-inc (i:=n) (by omega)];exact F1
     ·refine(am9.go ρ hf T (cg.app b1 ⟨p7,SG,p8,pa,pk,by rw[hρ];exact decide_eq_false k2,b2⟩) (cq.app M1 M2)).trans fun g1 w1 hd=>?_;obtain⟨I,B,bR,rfl,f1,F1,_⟩:=hd;rw[hρ]at F1;exact next (n':=n) (by rw[hb,decide_eq_false (fun h:ej=(1,1)=>k2 (by rw[h])),Bool.and_false];rfl) f1 F1
    ·refine(am8.go ρ hf T (cg.app b1 ⟨p7,SG,p8,pa,by rw[hρ];exact decide_eq_false k1,b2⟩) (cq.app M1 M2)).trans fun g1 w1 hd=>?_;obtain⟨I,B,bR,rfl,f1,F1,_⟩:=hd;rw[hρ]at F1;exact next (n':=n) (by rw[hb,decide_eq_false (fun h:ej=(1,1)=>k1 (by rw[h])),Bool.and_false];rfl) f1 F1
   ·refine(am7.go ρ hf T (cg.app b1 ⟨p7,SG,p8,by rw[hρ];exact decide_eq_false ha,trivial⟩) M1).trans fun g1 w1 hd=>?_;obtain⟨I,B,bR,rfl,f1,F1,_⟩:=hd;rw[hρ]at F1;exact next (n':=n) (by rw[hb,decide_eq_false ha];rfl) f1 F1
  ·obtain⟨ρ,hρ⟩:∃ρ:Env,ρ=Go.Proofs.YtmobbajggkjpgaaGreat.SX.iS [(51,L.length),(52,c),(53,o),(10,i),(15,j),(17,n),(71,x.tree.length),(72,ct),(73,ot),(4,x.cj),(1,n0.op),(81,E.length),(82,c'),(83,o')] [(64,X),(50,A),(70,At),(80,A')] [] [(1,x.name)]:=⟨_,rfl⟩;refine(am6.go ρ hf (by rw[hρ];rfl) (cg.app (bX (i:=15) (n:=51) (I:=j) (N:=L.length) (by rw[hρ];rfl) (by rw[hρ];rfl) hlt) ⟨by rw[hρ];exact decide_eq_true hp7,by rw[hρ];exact decide_eq_false lQ,trivial⟩) ⟨by rw[hρ];exact fw.cell hX,by rw[hρ];exact c0,by rw[hρ];exact c1,by rw[hρ];exact c2,by rw[hρ];exact h0.c0,trivial⟩).trans fun g1 w1 hd=>?_;obtain⟨I,B,bR,rfl,f1,F1,_⟩:=hd;rw[hρ]at F1;refine next (n':=n) ?_ f1 F1;unfold uV;rw[hr,decide_eq_false lQ];rfl
theorem LG{os:Value}{L:List cx}{E:List (Int×Int)}{A o c i A' o' c':Nat}(hel:∀i x,L[i]?=some x->lE w A (o+i*3) x)(fW:∀i e,E[i]?=some e->w.cell? ⟨A',o'+i*2,none⟩=some (cY e.1)∧w.cell? ⟨A',o'+i*2+1,none⟩=some (iV e.2))(hg:∀(j:Nat) (x:cx),L[j]?=some x->∃t,fO x j t)(LD:L.length≤E.length)(hlen:L.length≤1000000):
  dV 54 #[.agg #[bS A o L.length c,os],iV i,bS A' o' E.length c'] w fun v w'=>bA w w'∧v=iV (kg E i L 0:Nat):=by
 refine Goes.iY fun cs=>?_;obtain⟨ρ,hρ⟩:∃ρ:Env,ρ=bO [(51,L.length),(52,c),(53,o),(10,i)] [(50,A)] [(9,os),(2,bS A' o' E.length c')]:=⟨_,rfl⟩;refine(am5.go ρ (p9 Zi rfl (.agg #[bS A o L.length c,os]) (iV i) (bS A' o' E.length c')) (by rw[hρ];rfl) trivial trivial).trans fun g1 w1 hd=>?_;obtain⟨I,B,bR,rfl,f1,F1,bl,_⟩:=hd;rw[hρ]at F1 bl;have hX:(cy.obj 25 [bS A o L.length c,os]).at Tryz.prog w1 (B 100):=bl.1.2;refine(Ju (w0:=w1) (c:=c) (i:=i) (X:=B 100) (fun i x hi=>(hel i x hi).keep f1) (fun i e hi=>⟨f1.cell (fW i e hi).1,f1.cell (fW i e hi).2⟩) hg LD hlen (bG hX (i:=0) rfl) L.length 0 0 (by omega) (ay _) (bA.refl _) F1).mono fun g2 w2 b_=>?_;obtain⟨cE,v,rfl,hL,f2,hv⟩:=b_;refine⟨cE,v,rfl,hL,f1.trans f2,?_⟩;rw[hv,aF,List.drop_zero]
end
noncomputable abbrev RfH:List Item:=vP
section
variable {w w0:World}{cs:List Frame}{fr:Frame}{m:cV}
theorem c7.cells{base:Nat}{s:Value}{l:List Int}(h:c7 w base s l)(hne:l≠[]):∃B c,s=bS B 0 l.length c∧∀i n,l[i]?=some n->w.cell? ⟨B,0+i,none⟩=some (iV n):=by
 rcases h with⟨_,h0⟩|⟨_,B,c,hs,_,hv⟩
 ·exact(hne h0).elim
 ·refine⟨B,c,hs,fun i n hi=>?_⟩;obtain⟨arr,rest,inf,e1,e2,e3,e4⟩:=hv;have h1:arr[i]?=some (iV n):=by
   rw[<-aY,e3,aK (by rw[aD];exact(ak.1 hi).1),aL,hi]
   rfl
  unfold World.cell?;rw[aF];dsimp only;rw[e1];simpa using h1
theorem Jv{A o c X A' o' c':Nat}{l:List Int}{E:List (Int×Int)}{e:Int×Int}(hel:∀i n,l[i]?=some n->w0.cell? ⟨A,o+i,none⟩=some (iV n))(hlen:l.length≤1000000)
 (fW:∀i e,E[i]?=some e->w0.cell? ⟨A',o'+i*2,none⟩=some (cY e.1)∧w0.cell? ⟨A',o'+i*2+1,none⟩=some (iV e.2))(I8:w0.cell? ⟨X,0,none⟩=some (cY e.1))(LS:w0.cell? ⟨X,1,none⟩=some (iV e.2))(hin:∀n∈l,0≤n∧n<E.length):
  ∀(m i:Nat) {w:World} {cs:List Frame} {fr:Frame},i+m=l.length->bA w0 w->FA 31 82 RfH [] .normal [(3,bS A' o' E.length c'),(10,bK X),(11,bS A o l.length c),(12,iV i)] fr->
  Goes (G fr cs) w (Out 31 cs w0 fun v _=>v=.bool ((l.drop i).any (uW E e)))
 |0,i,w,cs,fr,hi,fw,hf=>by refine anj.out mT (bO [(61,l.length),(62,c),(63,o),(15,i),(81,E.length),(82,c'),(83,o')] [(60,A),(80,A'),(68,X)] []) hf rfl ⟨decide_eq_false (by show ¬((i:Int)<((l.length:Nat):Int));omega),trivial⟩ trivial fw fun _ _ _ _=>?_;rw[aI (by omega)];rfl
 |m+1,i,w,cs,fr,hi,fw,hf=>by
  have hlt:i<l.length:=by omega
  obtain⟨n,hn⟩:∃n,l[i]?=some n:=⟨_,aa hlt⟩;have hnb:=hin n (az hn);obtain⟨k,rfl⟩:∃k:Nat,n=k:=⟨n.toNat,by omega⟩;have hk:k<E.length:=by omega
  obtain⟨e',he'⟩:∃e',E[k]?=some e':=⟨_,aa hk⟩;have dS:l.drop i=(k:Int)::l.drop (i+1):=by rw[aG hlt];congr 1;exact au ((aa hlt).symm.trans hn)
  obtain⟨ρ,hρ⟩:∃ρ:Env,ρ=bO [(61,l.length),(62,c),(63,o),(15,i),(12,k),(81,E.length),(82,c'),(83,o'),(13,e'.1),(14,e'.2),(11,e.1),(16,e.2)] [(60,A),(80,A'),(68,X)] []:=⟨_,rfl⟩;have bb:=cg.app (bX (ρ:=ρ) (i:=15) (n:=61) (I:=i) (N:=l.length) (by rw[hρ];rfl) (by rw[hρ];rfl) hlt) (bX (ρ:=ρ) (i:=12) (n:=81) (I:=k) (N:=E.length) (by rw[hρ];rfl) (by rw[hρ];rfl) hk);have T:eZ [(3,bS A' o' E.length c'),(10,bK X),(11,bS A o l.length c),(12,iV i)] (told ρ ET):=by rw[hρ];rfl
  have M:cq ρ w Sy:=by rw[hρ];exact⟨fw.cell (hel i k hn),fw.cell (fW k e' he').1,fw.cell (fW k e' he').2,fw.cell I8,fw.cell LS,trivial⟩
  have hh:uW E e (k:Int)=decide (e'=e):=by unfold uW;rw[Int.toNat_natCast,he'];simp
  rw[dS,List.any_cons,hh];have next:e'≠e->∀{w1:World} {bR:Frame},bA w w1->FA 31 82 RfH [] .normal [(3,bS A' o' E.length c'),(10,bK X),(11,bS A o l.length c),(12,iV (iz .add .i64 i 1))] bR->Goes (G bR cs) w1 (Out 31 cs w0 fun v _=>v=.bool (decide (e'=e)||(l.drop (i+1)).any (uW E e))):=fun hne w1 bR f1 F1=>by rw[decide_eq_false hne,Bool.false_or];refine Jv (c:=c) (c':=c') hel hlen fW I8 LS hin m (i+1) (by omega) (fw.trans f1) ?_;rw[<-inc (i:=i) (by omega)];exact F1
  by_cases h1:e'.1=e.1
  ·by_cases h2:e'.2=e.2
   ·refine ank.out mT ρ hf T (cg.app bb ⟨by rw[hρ];exact decide_eq_true h1,by rw[hρ];exact decide_eq_true h2,trivial⟩) M fw fun _ _ _ _=>?_;rw[decide_eq_true (Prod.ext h1 h2)];rfl
   ·refine(anl.go ρ hf T (cg.app bb ⟨by rw[hρ];exact decide_eq_true h1,by rw[hρ];exact decide_eq_false h2,trivial⟩) M).trans fun g1 w1 hd=>?_;obtain⟨I,B,bR,rfl,f1,F1,_⟩:=hd;rw[hρ]at F1;exact next (fun h=>h2 (by rw[h])) f1 F1
  ·refine(anm.go ρ hf T (cg.app bb ⟨by rw[hρ];exact decide_eq_false h1,trivial⟩) M).trans fun g1 w1 hd=>?_;obtain⟨I,B,bR,rfl,f1,F1,_⟩:=hd;rw[hρ]at F1;exact next (fun h=>h1 (by rw[h])) f1 F1
theorem LH{os s:Value}{L:List cx}{E:List (Int×Int)}{A o c i:Nat}{x:cx}{t:T}{e:Int×Int}(hel:∀i x,L[i]?=some x->lE w A (o+i*3) x)(hE:ei w s E)(hi:L[i]?=some x)(he:E[i]?=some e)(LD:L.length≤E.length)(hlen:L.length≤1000000)(NO:x.tree.length≤999999)(y_:fO x i t)(hg:∀(j:Nat) (x:cx),L[j]?=some x->∃t,fO x j t):
  dV 31 #[.agg #[bS A o L.length c,os],iV i,dx m,s] w fun v w'=>bA w w'∧v=.bool (sx m E L i x t e):=by
 obtain⟨y,A',o',c',hs,hy,Gp,fW⟩:=hE.ex;have hil:i<L.length:=(ak.1 hi).1;have Zv:i<E.length:=(ak.1 he).1;cases y with
 |true=>rw[hy rfl]at Zv;simp only[aX]at Zv;omega
 |false=>
 have hs:s=bS A' o' E.length c':=hs;have hne:=nw y_;obtain⟨At,ot,ct,c0,c1,c2,Rn,y6⟩:=l6 (hel i x hi) hne;have hNt:∀{w':World},bA w w'->cK w' (bS At ot x.tree.length ct) x.tree:=fun f=>⟨.inr ⟨At,ot,ct,rfl,Rn,fun i n hi=>(y6 i n hi).keep f⟩⟩;obtain⟨d0,d1⟩:=fW i e he;refine Goes.iY fun cs=>?_;obtain⟨ρ,hρ⟩:∃ρ:Env,ρ=Go.Proofs.YtmobbajggkjpgaaGreat.SX.iS [(51,L.length),(52,c),(53,o),(10,i),(71,x.tree.length),(72,ct),(73,ot),(4,x.cj),(81,E.length),(82,c'),(83,o'),(11,e.1),(12,e.2),(31,m.mul),(32,m.add),(33,m.cJ),(34,m.panics)] [(50,A),(70,At),(80,A')] [(9,os)] [(1,x.name)]:=⟨_,rfl⟩;have bb:=cg.app (bX (ρ:=ρ) (i:=10) (n:=51) (I:=i) (N:=L.length) (by rw[hρ];rfl) (by rw[hρ];rfl) hil) (bX (ρ:=ρ) (i:=10) (n:=81) (I:=i) (N:=E.length) (by rw[hρ];rfl) (by rw[hρ];rfl) Zv);have En:=xW Zl rfl (.agg #[bS A o L.length c,os]) (iV i) (dx m) s;have T0:eZ [(0,.agg #[bS A o L.length c,os]),(1,iV i),(2,dx m),(3,s)] (told ρ Sx):=by rw[hρ,hs];rfl
 have M0:cq ρ w He:=by rw[hρ];exact⟨c0,c1,c2,d0,d1,trivial⟩
 have rest:∀{w1:World} {bR:Frame} {X1 X3 X4:Nat},¬(e.1=4∧e.2=i)->bA w w1->(cy.obj 43 [cY e.1,iV e.2]).at Tryz.prog w1 X4->(cy.obj 50 [.string x.name,bS At ot x.tree.length ct,iV x.cj]).at Tryz.prog w1 X3->(cy.obj 27 [iV m.mul,iV m.add,iV m.cJ,iV m.panics]).at Tryz.prog w1 X1->
   FA 31 82 (.inRegion (opsOf (eW 124)) [1]::[.code (eW 125),.code (eW 63)]) [] .normal [(3,bS A' o' E.length c'),(6,bK X1),(9,bK X3),(10,bK X4),(32,fK x (bS At ot x.tree.length ct))] bR->Goes (G bR cs) w1 (Out 31 cs w fun v _=>v=.bool (sx m E L i x t e)):=fun{w1 bR X1 X3 X4} hn f1 h4 h3 h1 F1=>by
  unfold sx;rw[if_neg hn];refine(anf.go (bO [] [] [(32,fK x (bS At ot x.tree.length ct))]) (Q:=fun v w'=>v=.bool (decide (cQ x=17))) F1 rfl fun w' f2=>OT (hNt (f1.trans f2)) hne).trans fun g2 w2 b_=>?_;obtain⟨cE,vv,rfl,f2,rfl,F2⟩:=b_;have jT:=f1.trans f2;have F2:FA 31 82 (.inRegion (opsOf (eW 124)) []::[.code (eW 125),.code (eW 63)]) [] .normal [(3,bS A' o' E.length c'),(6,bK X1),(9,bK X3),(10,bK X4),(33,.bool (decide (cQ x=17)))] cE:=F2.only rfl;obtain⟨σ,cr⟩:∃σ:Env,σ=Go.Proofs.YtmobbajggkjpgaaGreat.SX.iS [(71,x.tree.length),(72,ct),(73,ot),(4,x.cj)] [(65,X1),(67,X3),(68,X4),(70,At)] [(3,bS A' o' E.length c')] [(1,x.name)]:=⟨_,rfl⟩;have M3:∀{w':World},bA w1 w'->cq σ w' ES:=fun f=>by rw[cr];exact⟨f.cell (bG h3 (i:=0) rfl),f.cell (bG h3 (i:=1) rfl),f.cell (bG h3 (i:=2) rfl),trivial⟩
  by_cases sg:cQ x=17
  ·rw[if_pos sg];rw[decide_eq_true sg]at F2;refine(ang.go σ F2 (by rw[cr];rfl) trivial (M3 f2)).trans fun g3 w3 cv=>?_;obtain⟨I,B,cF,rfl,f3,F3,_⟩:=cv;rw[cr]at F3;have vV:=jT.trans f3;refine(anh.go (bO [] [] [(35,bS At ot x.tree.length ct)]) (Q:=fun v w'=>∃base,c7 w' base v (cT x.tree)) F3 rfl fun w' f=>(Hg (hNt (vV.trans f)) hne NO).mono fun v w2 hd=>⟨hd.1,_,hd.2⟩).trans fun g4 w4 dh=>?_;obtain⟨eO,l,rfl,f4,⟨base,hI⟩,F4⟩:=dh;have hnn:=EY y_ sg;obtain⟨B,cB,rfl,hBl⟩:=hI.cells hnn;have F4:FA 31 82 (.inRegion (opsOf (eW 500)) [3]::[.code (eW 501),.code (eW 63)]) [] .normal [(3,bS A' o' E.length c'),(10,bK X4),(36,bS B 0 (cT x.tree).length cB)] eO:=F4.only rfl;refine(ani.go (bO [] [(68,X4)] [(3,bS A' o' E.length c'),(36,bS B 0 (cT x.tree).length cB)]) F4 rfl trivial trivial).trans fun g5 w5 eg=>?_;obtain⟨I,BB,gn,rfl,f5,F5,_⟩:=eg;have uk:=vV.trans (f4.trans f5);have f15:=f2.trans (f3.trans (f4.trans f5));refine(Jv (w0:=w5) (cs:=cs) (A:=B) (o:=0) (c:=cB) (X:=X4) (c':=c') (E:=E) (e:=e) (l:=cT x.tree) (fun i n hi=>f5.cell (hBl i n hi)) (ax (ox _) (by omega)) (fun i e hi=>⟨uk.cell (fW i e hi).1,uk.cell (fW i e hi).2⟩) (f15.cell (bG h4 (i:=0) rfl)) (f15.cell (bG h4 (i:=1) rfl)) (fun n hn=>?_) (cT x.tree).length 0 (by omega) (bA.refl _) F5).mono fun g6 w6 dz=>?_
   ·have:=y5 y_ hn;omega
   ·obtain⟨dK,v,rfl,hL,f6,hv⟩:=dz;exact⟨dK,v,rfl,hL,uk.trans f6,by rw[hv,List.drop_zero]⟩
  rw[if_neg sg];rw[decide_eq_false sg]at F2;refine(ann.go σ F2 (by rw[cr];rfl) trivial (M3 f2)).trans fun g3 w3 cv=>?_;obtain⟨I,B,cF,rfl,f3,F3,_⟩:=cv;rw[cr]at F3;have vV:=jT.trans f3;refine(ano.go (bO [] [] [(52,fK x (bS At ot x.tree.length ct))]) (Q:=fun v w'=>v=.bool (decide (cQ x=18))) F3 rfl fun w' f=>GK (hNt (vV.trans f)) hne).trans fun g4 w4 dh=>?_;obtain⟨eO,vv,rfl,f4,rfl,F4⟩:=dh;have o_:=vV.trans f4;have f14:=f2.trans (f3.trans f4);have F4:FA 31 82 (.inRegion (opsOf (eW 252)) []::[.code (eW 253),.code (eW 127)]) [] .normal [(3,bS A' o' E.length c'),(6,bK X1),(9,bK X3),(10,bK X4),(53,.bool (decide (cQ x=18)))] eO:=F4.only rfl;by_cases lQ:cQ x=18
  ·rw[if_pos lQ];rw[decide_eq_true lQ]at F4;obtain⟨n1,e1,ea,ha0,SU⟩:=Cb y_ lQ;obtain⟨a,hna⟩:∃a:Nat,n1.n=a:=⟨n1.n.toNat,by omega⟩;have hal:a<E.length:=by omega
   obtain⟨ej,Qj⟩:∃ej,E[a]?=some ej:=⟨_,aa hal⟩;obtain⟨g0,g1⟩:=fW a ej Qj;have Ql:=y6 1 n1 e1;rw[Nat.one_mul]at Ql;have Zu:(1:Int)<((x.tree.length:Nat):Int):=by have:=(ak.1 e1).1;omega
   rw[ea,hna,Int.toNat_natCast,Qj];obtain⟨τ,fS⟩:∃τ:Env,τ=Go.Proofs.YtmobbajggkjpgaaGreat.SX.iS [(71,x.tree.length),(72,ct),(73,ot),(4,x.cj),(2,a),(11,e.1),(12,e.2),(81,E.length),(82,c'),(83,o'),(13,ej.1),(14,ej.2)] [(65,X1),(67,X3),(68,X4),(70,At),(80,A')] [] [(1,x.name)]:=⟨_,rfl⟩;have TT:eZ [(3,bS A' o' E.length c'),(6,bK X1),(9,bK X3),(10,bK X4),(53,.bool true)] (told τ yY):=by rw[fS];rfl
   have M1:cq τ w4 Sz:=by rw[fS];exact⟨f14.cell (bG h3 (i:=0) rfl),f14.cell (bG h3 (i:=1) rfl),f14.cell (bG h3 (i:=2) rfl),o_.cell (by rw[<-hna];exact Ql.c1),f14.cell (bG h4 (i:=0) rfl),f14.cell (bG h4 (i:=1) rfl),trivial⟩
   have M2:cq τ w4 [(eB 80 83 2 2,i8 (v 13)),(eA 80 83 2 2 1,i64 (v 14))]:=by rw[fS];exact⟨o_.cell g0,o_.cell g1,trivial⟩
   have q8:(BE.cmp .lss (.lit 1) (.tn (v 71))).ev τ=true:=by rw[fS];exact decide_eq_true Zu
   have bE:=bX (ρ:=τ) (i:=2) (n:=81) (I:=a) (N:=E.length) (by rw[fS];rfl) (by rw[fS];rfl) hal;by_cases k1:e.1=1
   ·have qk:(BE.cmp .eql (v 11) (.lit 1)).ev τ=true:=by rw[fS];exact decide_eq_true k1
    by_cases k0:e.2=0
    ·refine anq.out mT τ F4 TT ⟨q8,qk,by rw[fS];exact decide_eq_true k0,trivial⟩ M1 o_ fun _ _ _ _=>?_;rw[decide_eq_true (show e=(1,0)from Prod.ext k1 k0)];rfl
    ·have q0:(BE.cmp .eql (v 12) (.lit 0)).ev τ=false:=by rw[fS];exact decide_eq_false k0
     rw[decide_eq_false (fun h:e=(1,0)=>k0 (by rw[h])),Bool.false_or];by_cases k2:e.2=1
     ·have q1:(BE.cmp .eql (v 12) (.lit 1)).ev τ=true:=by rw[fS];exact decide_eq_true k2
      rw[decide_eq_true (show e=(1,1)from Prod.ext k1 k2),Bool.true_and];by_cases j1:ej.1=4
      ·have p4:(BE.cmp .eql (v 13) (.lit 4)).ev τ=true:=by rw[fS];exact decide_eq_true j1
       by_cases j2:ej.2=a
       ·refine anv.out mT τ F4 TT ⟨q8,qk,q0,q1,cg.app bE ⟨p4,by rw[fS];exact decide_eq_true j2,trivial⟩⟩ (cq.app M1 M2) o_ fun _ _ _ _=>?_;rw[decide_eq_true (show some ej=some (4,(a:Int))from congrArg some (Prod.ext j1 j2))];rfl
       ·refine anu.out mT τ F4 TT ⟨q8,qk,q0,q1,cg.app bE ⟨p4,by rw[fS];exact decide_eq_false j2,trivial⟩⟩ (cq.app M1 M2) o_ fun _ _ _ _=>?_;rw[decide_eq_false (fun h:some ej=some (4,(a:Int))=>j2 (by rw[au h]))];rfl
      ·refine ant.out mT τ F4 TT ⟨q8,qk,q0,q1,cg.app bE ⟨by rw[fS];exact decide_eq_false j1,trivial⟩⟩ (cq.app M1 M2) o_ fun _ _ _ _=>?_;rw[decide_eq_false (fun h:some ej=some (4,(a:Int))=>j1 (by rw[au h]))];rfl
     ·refine anr.out mT τ F4 TT ⟨q8,qk,q0,by rw[fS];exact decide_eq_false k2,trivial⟩ M1 o_ fun _ _ _ _=>?_;rw[decide_eq_false (fun h:e=(1,1)=>k2 (by rw[h]))];rfl
   ·refine anp.out mT τ F4 TT ⟨q8,by rw[fS];exact decide_eq_false k1,trivial⟩ M1 o_ fun _ _ _ _=>?_;rw[decide_eq_false (fun h:e=(1,0)=>k1 (by rw[h])),decide_eq_false (fun h:e=(1,1)=>k1 (by rw[h]))];rfl
  rw[if_neg lQ];rw[decide_eq_false lQ]at F4;refine(anw.go (bO [] [(65,X1),(67,X3),(68,X4)] [(3,bS A' o' E.length c')]) F4 rfl trivial trivial).trans fun g5 w5 eg=>?_;obtain⟨I,B,gn,rfl,f5,F5,_⟩:=eg;have uk:=o_.trans f5;have f15:=f14.trans f5;obtain⟨r,hr⟩:∃r,qB E m t=r:=⟨_,rfl⟩;rw[hr];obtain⟨τ,fS⟩:∃τ:Env,τ=Go.Proofs.YtmobbajggkjpgaaGreat.SX.iS [(71,x.tree.length),(72,ct),(73,ot),(4,x.cj),(31,m.mul),(32,m.add),(33,m.cJ),(34,m.panics),(11,e.1),(12,e.2),(21,r.1),(22,r.2)] [(65,X1),(67,X3),(68,X4),(70,At)] [(3,bS A' o' E.length c')] [(1,x.name)]:=⟨_,rfl⟩;have pk:∀w',bA w5 w'->dV 40 #[.agg #[.string (τ.s 1),bS (τ.b 70) (τ.i 73).toNat (τ.i 71).toNat (τ.i 72).toNat,iV (τ.i 4)],.agg #[iV (τ.i 31),iV (τ.i 32),iV (τ.i 33),iV (τ.i 34)],τ.v 3] w' fun u w2=>bA w' w2∧u=.agg #[cY (τ.i 21),iV (τ.i 22)]:=fun w' f=>by rw[fS];have:=G9 (m:=m) (hNt (uk.trans f)) (by omega) (hE.keep (uk.trans f)) y_.wf (Lk y_.tr) (y_.nd.mono (by omega)) y_.fl;rw[hr,hs]at this;exact this
  have hm:cq τ w5 Qg:=by rw[fS];exact⟨f15.cell (bG h3 (i:=0) rfl),f15.cell (bG h3 (i:=1) rfl),f15.cell (bG h3 (i:=2) rfl),f15.cell (bG h1 (i:=0) rfl),f15.cell (bG h1 (i:=1) rfl),f15.cell (bG h1 (i:=2) rfl),f15.cell (bG h1 (i:=3) rfl),f15.cell (bG h4 (i:=0) rfl),f15.cell (bG h4 (i:=1) rfl),trivial⟩
  have fin:∀{w6:World} {dK:Frame} {lv:List (Nat×Value)} {b:Bool},b=decide (r=e)->bA w w6->FA 31 82 (.inRegion mU []::[.code .ret]) [] .normal lv dK->(8,Value.bool b)∈lv->Goes (G dK cs) w6 (Out 31 cs w fun v _=>v=.bool (decide (r=e))):=fun{w6 dK lv b} hb f6 F6 h8=>by refine anx.out mT (bO [] [] [(8,.bool b)]) (lv:=[(8,.bool b)]) (F6.sub fun x hx=>by obtain rfl:=ah.1 hx;exact h8) rfl trivial trivial f6 fun _ _ _ _=>by rw[<-hb];rfl
  have tl:eZ [(3,bS A' o' E.length c'),(6,bK X1),(9,bK X3),(10,bK X4)] (told τ Bc):=by rw[fS];rfl
  have hd:Jq τ=decide (r=e):=by rw[fS];show(decide (r.1=e.1)&&decide (r.2=e.2))=decide (r=e);rw[Bool.eq_iff_iff];simp[Prod.ext_iff]
  refine(Qh (k:=[.code .ret]) pk trivial hm tl F5).trans fun g6 w6 dz=>?_;obtain⟨dK,lv,rfl,f6,F6,_,hv⟩:=dz;obtain⟨u,h8,hu⟩:=hv 6 (by decide) rfl;have hu:u=.bool (Jq τ):=hu;subst hu;exact fin hd (uk.trans f6) F6 h8
 by_cases h4:e.1=4
 ·have p4:(BE.cmp .eql (v 11) (.lit 4)).ev ρ=true:=by rw[hρ];exact decide_eq_true h4
  by_cases h5:e.2=i
  ·refine(anb.go ρ En T0 (cg.app bb ⟨p4,by rw[hρ];exact decide_eq_true h5,trivial⟩) M0).trans fun g1 w1 hd=>?_;obtain⟨I,B,bR,rfl,f1,F1,_⟩:=hd;rw[hρ]at F1;refine(aen.go (bO [] [] [(27,.agg #[bS A o L.length c,os]),(28,iV i),(29,bS A' o' E.length c')]) (Q:=fun v w'=>v=iV (kg E i L 0:Nat)) F1 rfl fun w' f=>LG (fun i x hi=>(hel i x hi).keep (f1.trans f)) (fun i e hi=>⟨(f1.trans f).cell (fW i e hi).1,(f1.trans f).cell (fW i e hi).2⟩) hg LD hlen).trans fun g2 w2 b_=>?_;obtain⟨cE,vv,rfl,f2,rfl,F2⟩:=b_;unfold sx;rw[if_pos ⟨h4,h5⟩];by_cases h1:kg E i L 0=1
   ·exact Qb.out mT (bO [(5,(kg E i L 0:Nat))] [] []) F2 rfl ⟨decide_eq_true (by show((kg E i L 0:Nat):Int)=1;omega),trivial⟩ trivial (f1.trans f2) fun _ _ _ _=>by rw[decide_eq_true h1];rfl
   ·exact Lx.out mT (bO [(5,(kg E i L 0:Nat))] [] []) F2 rfl ⟨decide_eq_false (by show ¬((kg E i L 0:Nat):Int)=1;omega),trivial⟩ trivial (f1.trans f2) fun _ _ _ _=>by rw[decide_eq_false h1];rfl
  ·refine(ane.go ρ En T0 (cg.app bb ⟨p4,by rw[hρ];exact decide_eq_false h5,trivial⟩) M0).trans fun g1 w1 hd=>?_;obtain⟨I,B,bR,rfl,f1,F1,bl,_⟩:=hd;rw[hρ]at F1 bl;exact rest (X1:=B 101) (X3:=B 102) (X4:=B 103) (fun h=>h5 h.2) f1 bl.1.2 bl.2.1.2 bl.2.2.1.2 F1
 ·refine(anc.go ρ En T0 (cg.app bb ⟨by rw[hρ];exact decide_eq_false h4,trivial⟩) M0).trans fun g1 w1 hd=>?_;obtain⟨I,B,bR,rfl,f1,F1,bl,_⟩:=hd;rw[hρ]at F1 bl;exact rest (X1:=B 101) (X3:=B 102) (X4:=B 103) (fun h=>h4 h.1) f1 bl.1.2 bl.2.1.2 bl.2.2.1.2 F1
end
def y7(m:cV)(E:List (Int×Int))(L:List cx)(i:Nat)(x:cx):Bool:=match mJ x,E[i]? with
 |some t,some e=>sx m E L i x t e
 |_,_=>false
def vQ(m:cV)(E:List (Int×Int))(L:List cx):List cx->Nat->Int×Int
 |[],_=>(0,0)
 |x::r,i=>if y7 m E L i x then vQ m E L r (i+1)else(30,i)
def jD(F:iG)(m:cV)(E:List (Int×Int)):Int×Int:=
 if(gH F).1≠0 then gH F
 else if E.length≠F.lets.length∨E.any kn=true then(1,0)
 else vQ m E F.lets F.lets 0
theorem og.at{w:World}{A o:Nat}{x:cx}(h:og w A o x)(hne:x.tree≠[]):lE w A o x:=by obtain⟨ts,h1,h2,h3,h4⟩:=h.ex;exact⟨ts,h1,h2,h3,h4.at hne⟩
section
variable {w w0:World}{cs:List Frame}{fr:Frame}{fn nt n d d':Nat}{todo:List Item}{lA:List (Nat×AV)}{lv:List (Nat×Value)}{bs:List (BE×Bool)}{mem:List (AA×AV)}{post:List (Nat×bQ)}{ks:List Nat}
theorem Pc.zJ{k:List Item}{a b:AV}{Q:Value->World->Prop}(P:Pc fn nt todo lA bs mem [] n ks [6,7] (.code .ret::k) [a,b] post)(R:p6 fn nt 6 7)(ρ:Env)(hf:FA fn nt todo [] .normal lv fr)(hl:eZ lv (told ρ lA))(hb:cg ρ bs)(hm:cq ρ w mem)(fw:bA w0 w)(hq:∀I B w',bA w w'->Q (.tuple #[a.ev (dc ρ I B),b.ev (dc ρ I B)]) w'):Goes (G fr cs) w (Out fn cs w0 Q):=by refine(P.go ρ hf hl hb hm).trans fun g1 w1 hd=>?_;obtain⟨I,B,bR,rfl,f1,F1,_⟩:=hd;refine(jo R F1 (x:=a.ev (dc ρ I B)) (y:=b.ev (dc ρ I B)) rfl rfl).mono fun g2 w2 b_=>?_;obtain⟨cE,rfl,rfl,hL⟩:=b_;exact⟨cE,_,rfl,hL,fw.trans f1,hq I B _ f1⟩
end
noncomputable abbrev RsH:List Item:=EU
section
variable {w w0:World}{cs:List Frame}{fr:Frame}{m:cV}
theorem EZ{L:List cx}{E:List (Int×Int)}{z:Bool}{A o c X Y:Nat}{os s:Value}(hz:z=true->L=[])(oU:z=false->L.length≤c)(hel:∀i x,L[i]?=some x->lE w0 A (o+i*3) x)(hE:ei w0 s E)(hg:∀(i:Nat) (x:cx),L[i]?=some x->∃t,fO x i t)(LD:E.length=L.length)(hlen:L.length≤1000000)(htr:∀x∈L,x.tree.length≤999999)
 (hX:(cy.obj 25 [ew z A o L.length c,os]).at Tryz.prog w0 X)(hY:(cy.obj 27 [iV m.mul,iV m.add,iV m.cJ,iV m.panics]).at Tryz.prog w0 Y):
  ∀(k i:Nat) {w:World} {cs:List Frame} {fr:Frame},i+k=L.length->bA w0 w->FA 11 47 RsH [] .normal [(2,s),(3,bK X),(4,bK Y),(10,iV i)] fr->
  Goes (G fr cs) w (Out 11 cs w0 fun v _=>v=.tuple #[iV (vQ m E L (L.drop i) i).1,iV (vQ m E L (L.drop i) i).2])
 |0,i,w,cs,fr,hi,fw,hf=>by
  obtain⟨ρ,hρ⟩:∃ρ:Env,ρ=bO [(51,L.length),(52,c),(53,o),(10,i)] [(64,X),(65,Y),(50,A)] [(2,s)]:=⟨_,rfl⟩;have ez:(cU z 50 53 51 52).ev ρ=ew z A o L.length c:=by rw[hρ];cases z<;>rfl
  have eN:(dO z 51).ev ρ=(L.length:Int):=by
   rw[hρ];cases z with
   |false=>rfl
   |true=>rw[hz rfl];rfl
  refine(anL z).zJ y3 ρ hf (by rw[hρ];rfl) ⟨by show decide ((ρ.i 10:Int)<(dO z 51).ev ρ)=false;rw[eN,hρ];exact decide_eq_false (by show ¬((i:Int)<((L.length:Nat):Int));omega),trivial⟩ ⟨by rw[ez,hρ];exact fw.cell (bG hX (i:=0) rfl),trivial⟩ fw fun _ _ _ _=>?_
  rw[aI (by omega)];rfl
 |k+1,i,w,cs,fr,hi,fw,hf=>by
  have hlt:i<L.length:=by omega
  obtain⟨x,hx⟩:∃x,L[i]?=some x:=⟨_,aa hlt⟩;obtain⟨e,he⟩:∃e,E[i]?=some e:=⟨_,aa (by omega)⟩;cases z with
  |true=>rw[hz rfl]at hlt;simp only[aX]at hlt;omega
  |false=>
  obtain⟨t,hgt⟩:=hg i x hx;have dS:L.drop i=x::L.drop (i+1):=by rw[aG hlt];congr 1;exact au ((aa hlt).symm.trans hx)
  have NO:=htr x (az hx);obtain⟨ρ,hρ⟩:∃ρ:Env,ρ=bO [(51,L.length),(52,c),(53,o),(10,i),(31,m.mul),(32,m.add),(33,m.cJ),(34,m.panics)] [(64,X),(65,Y),(50,A)] [(2,s),(9,os)]:=⟨_,rfl⟩;refine(anH.go ρ hf (by rw[hρ];rfl) (bX (i:=10) (n:=51) (I:=i) (N:=L.length) (by rw[hρ];rfl) (by rw[hρ];rfl) hlt) ⟨by rw[hρ];exact fw.cell (bG hX (i:=0) rfl),by rw[hρ];exact fw.cell (bG hX (i:=1) rfl),by rw[hρ];exact fw.cell (bG hY (i:=0) rfl),by rw[hρ];exact fw.cell (bG hY (i:=1) rfl),by rw[hρ];exact fw.cell (bG hY (i:=2) rfl),by rw[hρ];exact fw.cell (bG hY (i:=3) rfl),trivial⟩).trans fun g1 w1 hd=>?_;obtain⟨I,B,bR,rfl,f1,F1,_⟩:=hd;rw[hρ]at F1;have hfit:y7 m E L i x=sx m E L i x t e:=by unfold y7;rw[hgt.tr,he]
  refine(anI.go (bO [] [] [(40,.agg #[bS A o L.length c,os]),(41,iV i),(42,dx m),(43,s)]) (Q:=fun v w'=>v=.bool (sx m E L i x t e)) F1 rfl fun w' f2=>?_).trans fun g2 w2 b_=>?_
  ·have fa:=fw.trans (f1.trans f2);exact LH (fun i x hi=>(hel i x hi).keep fa) (hE.keep fa) hx he (by omega) hlen NO hgt hg
  obtain⟨cE,vv,rfl,f2,rfl,F2⟩:=b_;have jT:=fw.trans (f1.trans f2);rw[dS];unfold vQ;rw[hfit];cases hb:sx m E L i x t e with
  |false=>rw[hb]at F2;exact anJ.zJ y3 ρ F2 (by rw[hρ];rfl) trivial trivial jT fun _ _ _ _=>by rw[hρ];rfl
  |true=>rw[hb]at F2;refine(anK.go ρ F2 (by rw[hρ];rfl) trivial trivial).trans fun g3 w3 cv=>?_;obtain⟨I,B,cF,rfl,f3,F3,_⟩:=cv;rw[hρ]at F3;refine EZ (z:=false) (os:=os) (fun h=>by cases h) oU hel hE hg LD hlen htr hX hY k (i+1) (by omega) (jT.trans f3) ?_;rw[<-inc (i:=i) (by omega)];exact F3
theorem LI{x s:Value}{F:iG}{E:List (Int×Int)}(h:mK w x F)(hE:ei w s E)(SI:E.length≤4294967000)(hlen:F.lets.length≤1000000)(htr:∀x∈F.lets,x.tree.length≤999999):dV 11 #[x,dx m,s] w fun v w'=>bA w w'∧v=.tuple #[iV (jD F m E).1,iV (jD F m E).2]:=by
 obtain⟨ls,os,rfl,hl,ho⟩:=h;obtain⟨z,A,o,c,hls,hz,oU,hel⟩:=hl.ex;obtain⟨y,A',o',c',hs,hy,Gp,fW⟩:=hE.ex;refine Goes.iY fun cs=>?_;obtain⟨ρ,hρ⟩:∃ρ:Env,ρ=bO [(31,m.mul),(32,m.add),(33,m.cJ),(34,m.panics)] [] [(8,ls),(9,os),(2,s)]:=⟨_,rfl⟩;refine(anz.go ρ (p9 Zn rfl (.agg #[ls,os]) (dx m) s) (by rw[hρ];rfl) trivial trivial).trans fun g1 w1 hd=>?_;obtain⟨I,B,bR,rfl,f1,F1,bl,_⟩:=hd;rw[hρ]at F1 bl;obtain⟨Y,eY⟩:∃Y,B 101=Y:=⟨_,rfl⟩;obtain⟨X,eX⟩:∃X,B 100=X:=⟨_,rfl⟩;have hY:(cy.obj 27 [iV m.mul,iV m.add,iV m.cJ,iV m.panics]).at Tryz.prog w1 Y:=by rw[<-eY];exact bl.1.2
 have hX:(cy.obj 25 [ls,os]).at Tryz.prog w1 X:=by rw[<-eX];exact bl.2.1.2
 have fN:FA 11 47 (.inRegion (opsOf (ic 6)) [1,2,3,4,5,6]::[.code (ic 7)]) [] .normal [(2,s),(3,bK X),(4,bK Y),(12,.agg #[ls,os])] bR:=by rw[<-eX,<-eY];exact F1
 refine(anA.go (bO [] [] [(12,.agg #[ls,os])]) (Q:=fun v w'=>v=.tuple #[iV (gH F).1,iV (gH F).2]) fN rfl fun w' f=>G2 ⟨ls,os,rfl,hl.keep (f1.trans f),ho.keep (f1.trans f)⟩ hlen htr).trans fun g2 w2 b_=>?_;obtain⟨cE,v,rfl,f2,rfl,F2⟩:=b_;have jT:=f1.trans f2;have lY:FA 11 47 Jn [] .normal [(2,s),(3,bK X),(4,bK Y),(13,.tuple #[iV (gH F).1,iV (gH F).2])] cE:=F2.only rfl;obtain⟨σ,cr⟩:∃σ:Env,σ=bO [(5,(gH F).1),(6,(gH F).2),(51,F.lets.length),(52,c),(53,o),(81,E.length),(82,c'),(83,o')] [(64,X),(65,Y),(50,A),(80,A')] [(2,s)]:=⟨_,rfl⟩;unfold jD;by_cases h0:(gH F).1=0
 ·have n0:(BE.cmp .neq (v 5) (.lit 0)).ev σ=false:=by rw[cr];show(!decide ((gH F).1=0))=false;rw[decide_eq_true h0];rfl
  rw[if_neg (fun h=>h h0)];have eN:(dO z 51).ev σ=(F.lets.length:Int):=by
   rw[cr];cases z with
   |false=>rfl
   |true=>rw[hz rfl];rfl
  have eE:(dO y 81).ev σ=(E.length:Int):=by
   rw[cr];cases y with
   |false=>rfl
   |true=>rw[hy rfl];rfl
  have es:∀I B,(cU y 80 83 81 82).ev (dc σ I B)=s:=fun I B=>by rw[cr,hs];cases y<;>rfl
  have es0:(cU y 80 83 81 82).ev σ=s:=by rw[cr,hs];cases y<;>rfl
  have enI:∀I B,(i64 (dO y 81)).ev (dc σ I B)=iV E.length:=fun I B=>by
   rw[cr];cases y with
   |false=>rfl
   |true=>rw[hy rfl];rfl
  have T2:eZ [(2,s),(3,bK X),(4,bK Y),(13,.tuple #[iV (gH F).1,iV (gH F).2])] (told σ [(2,cU y 80 83 81 82),(3,bC 64),(4,bC 65),(13,.tuple [i64 (v 5),i64 (v 6)])]):=by show[some _,some _,some _,some _]=[some ((cU y 80 83 81 82).ev σ),some _,some _,some _];rw[es0,cr];rfl
  have mX:∀{w':World},bA w1 w'->cq σ w' [(eD 64 0,cU z 50 53 51 52)]:=fun f=>by rw[cr];refine⟨(f.cell (bG hX (i:=0) rfl)).trans ?_,trivial⟩;rw[hls];cases z<;>rfl
  by_cases c1:E.length=F.lets.length
  ·refine((anD z y).go σ lY T2 ⟨n0,by
    show(!decide ((dO y 81).ev σ=(dO z 51).ev σ))=false;rw[eN,eE,decide_eq_true (by rw[c1])];rfl,trivial⟩ (mX f2)).trans fun g3 w3 cv=>?_
   obtain⟨I3,B3,cF,rfl,f3,F3,_⟩:=cv;have qc:FA 11 47 (.inRegion (opsOf (ic 60)) [10,11,12]::[.code (ic 61),.code (ic 31)]) [] .normal [(2,s),(3,bK X),(4,bK Y),(26,.bool false),(27,s),(29,iV E.length)] cF:=by
    have h1:FA 11 47 (.inRegion (opsOf (ic 60)) [10,11,12]::[.code (ic 61),.code (ic 31)]) [] .normal [(2,(cU y 80 83 81 82).ev (dc σ I3 B3)),(3,bK X),(4,bK Y),(26,.bool false),(27,(cU y 80 83 81 82).ev (dc σ I3 B3)),(29,(i64 (dO y 81)).ev (dc σ I3 B3))] cF:=by rw[cr]at F3⊢;exact F3
    rw[es,enI]at h1;exact h1
   have vV:=jT.trans f3;refine(anE.go (bO [] [] [(27,s),(29,iV E.length)]) (Q:=fun v w'=>v=.bool (!E.any kn)) qc rfl fun w' f=>(KX (hE.keep (vV.trans f)) (ay _) SI).mono fun v w2 hd=>⟨hd.1,by have:=hd.2;rwa[List.take_length]at this⟩).trans fun g4 w4 dh=>?_
   obtain⟨eO,v,rfl,f4,rfl,F4⟩:=dh;have o_:=vV.trans f4;have f14:=f2.trans (f3.trans f4);cases hb:E.any kn with
   |true=>rw[hb]at F4;rw[if_pos (.inr rfl)];exact anF.zJ y3 (bO [] [(64,X),(65,Y)] [(2,s)]) F4 rfl trivial trivial o_ fun _ _ _ _=>rfl
   |false=>
   rw[hb]at F4;rw[if_neg (by simp[c1])];refine(anG.go (bO [] [(64,X),(65,Y)] [(2,s)]) F4 rfl trivial trivial).trans fun g5 w5 eg=>?_;obtain⟨I,B,gn,rfl,f5,F5,_⟩:=eg;have uk:=o_.trans f5;have f15:=f14.trans f5;have hX5:(cy.obj 25 [ew z A o F.lets.length c,os]).at Tryz.prog w5 X:=by rw[<-hls];exact bP hX f15
   refine(EZ (w0:=w5) (cs:=cs) (os:=os) hz oU (fun i x hi=>((hel i x hi).keep uk).at ?_) (hE.keep uk) (qC h0) c1 hlen htr hX5 (bP hY f15) F.lets.length 0 (by omega) (bA.refl _) F5).mono fun g6 w6 dz=>?_
   ·obtain⟨t,hg⟩:=qC h0 i x hi;exact nw hg
   ·obtain⟨dK,v,rfl,hL,f6,hv⟩:=dz;exact⟨dK,v,rfl,hL,uk.trans f6,by rw[hv,List.drop_zero]⟩
  ·rw[if_pos (.inl c1)];refine(anC z y (by
    cases z with
    |false=>rfl
    |true=>
     cases y with
     |false=>rfl
     |true=>exact(c1 (by rw[hz rfl,hy rfl];rfl)).elim)).zJ y3 σ lY T2 ⟨n0,by
    show(!decide ((dO y 81).ev σ=(dO z 51).ev σ))=true;rw[eN,eE,decide_eq_false (by omega)];rfl,trivial⟩ (mX f2) jT fun _ _ _ _=>rfl
 ·rw[if_pos h0];refine anB.zJ y3 σ lY (by rw[cr];rfl) ⟨by rw[cr];show(!decide ((gH F).1=0))=true;rw[decide_eq_false h0];rfl,trivial⟩ trivial jT fun _ _ _ _=>?_;rw[cr];rfl
end
section
variable {w w0:World}{cs:List Frame}{fr:Frame}{m:cV}
theorem E0{L:List cx}{E:List (Int×Int)}{z:Bool}{A o c X Y:Nat}{os s:Value}(hz:z=true->L=[])(oU:z=false->L.length≤c)(hel:∀i x,L[i]?=some x->lE w0 A (o+i*3) x)(hE:ei w0 s E)(hg:∀(i:Nat) (x:cx),L[i]?=some x->∃t,fO x i t)(LD:E.length=L.length)(hlen:L.length≤1000000)(htr:∀x∈L,x.tree.length≤999999)
 (hX:(cy.obj 25 [ew z A o L.length c,os]).at Tryz.prog w0 X)(hY:(cy.obj 27 [iV m.mul,iV m.add,iV m.cJ,iV m.panics]).at Tryz.prog w0 Y):
  ∀(k i:Nat) {w:World} {cs:List Frame} {fr:Frame},i+k=L.length->bA w0 w->FA 10 47 FiH [] .normal [(2,s),(3,bK X),(4,bK Y),(34,ew z A o L.length c),(35,iV L.length),(36,iV i)] fr->
  Goes (G fr cs) w (Out 10 cs w0 fun v _=>v=.tuple #[iV (vQ m E L (L.drop i) i).1,iV (vQ m E L (L.drop i) i).2])
 |0,i,w,cs,fr,hi,fw,hf=>by
  obtain⟨ρ,hρ⟩:∃ρ:Env,ρ=bO [(51,L.length),(52,c),(53,o),(10,i)] [(64,X),(65,Y),(50,A)] [(2,s)]:=⟨_,rfl⟩;have ez:(cU z 50 53 51 52).ev ρ=ew z A o L.length c:=by rw[hρ];cases z<;>rfl
  have eN:(dO z 51).ev ρ=(L.length:Int):=by
   rw[hρ];cases z with
   |false=>rfl
   |true=>rw[hz rfl];rfl
  refine(anY z).zJ Oa ρ hf (by show[some _,some _,some _,some _,some _,some _]=[some _,some _,some _,some ((cU z 50 53 51 52).ev ρ),some (iV ((dO z 51).ev ρ)),some _];rw[ez,eN,hρ];rfl) ⟨by show decide ((ρ.i 10:Int)<(dO z 51).ev ρ)=false;rw[eN,hρ];exact decide_eq_false (by show ¬((i:Int)<((L.length:Nat):Int));omega),trivial⟩ trivial fw fun _ _ _ _=>?_
  rw[aI (by omega)];rfl
 |k+1,i,w,cs,fr,hi,fw,hf=>by
  have hlt:i<L.length:=by omega
  obtain⟨x,hx⟩:∃x,L[i]?=some x:=⟨_,aa hlt⟩;obtain⟨e,he⟩:∃e,E[i]?=some e:=⟨_,aa (by omega)⟩;cases z with
  |true=>rw[hz rfl]at hlt;simp only[aX]at hlt;omega
  |false=>
  obtain⟨t,hgt⟩:=hg i x hx;have dS:L.drop i=x::L.drop (i+1):=by rw[aG hlt];congr 1;exact au ((aa hlt).symm.trans hx)
  have NO:=htr x (az hx);obtain⟨ρ,hρ⟩:∃ρ:Env,ρ=bO [(51,L.length),(52,c),(53,o),(10,i),(31,m.mul),(32,m.add),(33,m.cJ),(34,m.panics)] [(64,X),(65,Y),(50,A)] [(2,s),(9,os)]:=⟨_,rfl⟩;refine(anU.go ρ hf (by rw[hρ];rfl) (bX (i:=10) (n:=51) (I:=i) (N:=L.length) (by rw[hρ];rfl) (by rw[hρ];rfl) hlt) ⟨by rw[hρ];exact fw.cell (bG hX (i:=0) rfl),by rw[hρ];exact fw.cell (bG hX (i:=1) rfl),by rw[hρ];exact fw.cell (bG hY (i:=0) rfl),by rw[hρ];exact fw.cell (bG hY (i:=1) rfl),by rw[hρ];exact fw.cell (bG hY (i:=2) rfl),by rw[hρ];exact fw.cell (bG hY (i:=3) rfl),trivial⟩).trans fun g1 w1 hd=>?_;obtain⟨I,B,bR,rfl,f1,F1,_⟩:=hd;rw[hρ]at F1;have hfit:y7 m E L i x=sx m E L i x t e:=by unfold y7;rw[hgt.tr,he]
  refine(anV.go (bO [] [] [(39,.agg #[bS A o L.length c,os]),(40,iV i),(41,dx m),(42,s)]) (Q:=fun v w'=>v=.bool (sx m E L i x t e)) F1 rfl fun w' f2=>?_).trans fun g2 w2 b_=>?_
  ·have fa:=fw.trans (f1.trans f2);exact LF (L:=L) ⟨false,A,o,c,rfl,hz,oU,fun i x hi=>(hel i x hi).keep fa⟩ (hE.keep fa) hx he (by omega) hlen NO hgt hg
  obtain⟨cE,vv,rfl,f2,rfl,F2⟩:=b_;have jT:=fw.trans (f1.trans f2);rw[dS];unfold vQ;rw[hfit];cases hb:sx m E L i x t e with
  |false=>rw[hb]at F2;exact anW.zJ Oa ρ F2 (by rw[hρ];rfl) trivial trivial jT fun _ _ _ _=>by rw[hρ];rfl
  |true=>rw[hb]at F2;refine(anX.go ρ F2 (by rw[hρ];rfl) trivial trivial).trans fun g3 w3 cv=>?_;obtain⟨I,B,cF,rfl,f3,F3,_⟩:=cv;rw[hρ]at F3;refine E0 (z:=false) (os:=os) (fun h=>by cases h) oU hel hE hg LD hlen htr hX hY k (i+1) (by omega) (jT.trans f3) ?_;rw[<-inc (i:=i) (by omega)];exact F3
theorem Be{x s:Value}{F:iG}{E:List (Int×Int)}(h:r_ w x F)(hE:ei w s E)(SI:E.length≤4294967000)(hlen:F.lets.length≤1000000)(htr:∀x∈F.lets,x.tree.length≤999999):dV 10 #[x,dx m,s] w fun v w'=>bA w w'∧v=.tuple #[iV (jD F m E).1,iV (jD F m E).2]:=by
 obtain⟨ls,os,rfl,hl,ho⟩:=h;obtain⟨z,A,o,c,hls,hz,oU,hel⟩:=hl.ex;obtain⟨y,A',o',c',hs,hy,Gp,fW⟩:=hE.ex;refine Goes.iY fun cs=>?_;obtain⟨ρ,hρ⟩:∃ρ:Env,ρ=bO [(31,m.mul),(32,m.add),(33,m.cJ),(34,m.panics)] [] [(8,ls),(9,os),(2,s)]:=⟨_,rfl⟩;refine(anM.go ρ (p9 agE rfl (.agg #[ls,os]) (dx m) s) (by rw[hρ];rfl) trivial trivial).trans fun g1 w1 hd=>?_;obtain⟨I,B,bR,rfl,f1,F1,bl,_⟩:=hd;rw[hρ]at F1 bl;obtain⟨Y,eY⟩:∃Y,B 101=Y:=⟨_,rfl⟩;obtain⟨X,eX⟩:∃X,B 100=X:=⟨_,rfl⟩;have hY:(cy.obj 27 [iV m.mul,iV m.add,iV m.cJ,iV m.panics]).at Tryz.prog w1 Y:=by rw[<-eY];exact bl.1.2
 have hX:(cy.obj 25 [ls,os]).at Tryz.prog w1 X:=by rw[<-eX];exact bl.2.1.2
 have fN:FA 10 47 (.inRegion (opsOf (q9 12)) [1,2,3,4,5,6]::[.code (q9 13),.code (q9 7)]) [] .normal [(2,s),(3,bK X),(4,bK Y),(12,.agg #[ls,os])] bR:=by rw[<-eX,<-eY];exact F1
 refine(anN.go (bO [] [] [(12,.agg #[ls,os])]) (Q:=fun v w'=>v=.tuple #[iV (gH F).1,iV (gH F).2]) fN rfl fun w' f=>qA ⟨ls,os,rfl,hl.keep (f1.trans f),ho.keep (f1.trans f)⟩ hlen htr).trans fun g2 w2 b_=>?_;obtain⟨cE,v,rfl,f2,rfl,F2⟩:=b_;have jT:=f1.trans f2;have lY:FA 10 47 Jp [] .normal [(2,s),(3,bK X),(4,bK Y),(13,.tuple #[iV (gH F).1,iV (gH F).2])] cE:=F2.only rfl;obtain⟨σ,cr⟩:∃σ:Env,σ=bO [(5,(gH F).1),(6,(gH F).2),(51,F.lets.length),(52,c),(53,o),(81,E.length),(82,c'),(83,o')] [(64,X),(65,Y),(50,A),(80,A')] [(2,s)]:=⟨_,rfl⟩;unfold jD;by_cases h0:(gH F).1=0
 ·have n0:(BE.cmp .neq (v 5) (.lit 0)).ev σ=false:=by rw[cr];show(!decide ((gH F).1=0))=false;rw[decide_eq_true h0];rfl
  rw[if_neg (fun h=>h h0)];have eN:(dO z 51).ev σ=(F.lets.length:Int):=by
   rw[cr];cases z with
   |false=>rfl
   |true=>rw[hz rfl];rfl
  have eE:(dO y 81).ev σ=(E.length:Int):=by
   rw[cr];cases y with
   |false=>rfl
   |true=>rw[hy rfl];rfl
  have es:∀I B,(cU y 80 83 81 82).ev (dc σ I B)=s:=fun I B=>by rw[cr,hs];cases y<;>rfl
  have es0:(cU y 80 83 81 82).ev σ=s:=by rw[cr,hs];cases y<;>rfl
  have enI:∀I B,(i64 (dO y 81)).ev (dc σ I B)=iV E.length:=fun I B=>by
   rw[cr];cases y with
   |false=>rfl
   |true=>rw[hy rfl];rfl
  have T2:eZ [(2,s),(3,bK X),(4,bK Y),(13,.tuple #[iV (gH F).1,iV (gH F).2])] (told σ [(2,cU y 80 83 81 82),(3,bC 64),(4,bC 65),(13,.tuple [i64 (v 5),i64 (v 6)])]):=by show[some _,some _,some _,some _]=[some ((cU y 80 83 81 82).ev σ),some _,some _,some _];rw[es0,cr];rfl
  have mX:∀{w':World},bA w1 w'->cq σ w' [(eD 64 0,cU z 50 53 51 52)]:=fun f=>by rw[cr];refine⟨(f.cell (bG hX (i:=0) rfl)).trans ?_,trivial⟩;rw[hls];cases z<;>rfl
  by_cases c1:E.length=F.lets.length
  ·refine((anQ z y).go σ lY T2 ⟨n0,by
    show(!decide ((dO y 81).ev σ=(dO z 51).ev σ))=false;rw[eN,eE,decide_eq_true (by rw[c1])];rfl,trivial⟩ (mX f2)).trans fun g3 w3 cv=>?_
   obtain⟨I3,B3,cF,rfl,f3,F3,_⟩:=cv;have qc:FA 10 47 (.inRegion (opsOf (q9 28)) [10,11,12]::[.code (q9 29),.code (q9 15)]) [] .normal [(2,s),(3,bK X),(4,bK Y),(26,.bool false),(27,s),(29,iV E.length)] cF:=by
    have h1:FA 10 47 (.inRegion (opsOf (q9 28)) [10,11,12]::[.code (q9 29),.code (q9 15)]) [] .normal [(2,(cU y 80 83 81 82).ev (dc σ I3 B3)),(3,bK X),(4,bK Y),(26,.bool false),(27,(cU y 80 83 81 82).ev (dc σ I3 B3)),(29,(i64 (dO y 81)).ev (dc σ I3 B3))] cF:=by rw[cr]at F3⊢;exact F3
    rw[es,enI]at h1;exact h1
   have vV:=jT.trans f3;refine(anR.go (bO [] [] [(27,s),(29,iV E.length)]) (Q:=fun v w'=>v=.bool (!E.any kn)) qc rfl fun w' f=>(Ru (hE.keep (vV.trans f)) (ay _) SI).mono fun v w2 hd=>⟨hd.1,by have:=hd.2;rwa[List.take_length]at this⟩).trans fun g4 w4 dh=>?_
   obtain⟨eO,v,rfl,f4,rfl,F4⟩:=dh;have o_:=vV.trans f4;have f14:=f2.trans (f3.trans f4);cases hb:E.any kn with
   |true=>rw[hb]at F4;rw[if_pos (.inr rfl)];exact anS.zJ Oa (bO [] [(64,X),(65,Y)] [(2,s)]) F4 rfl trivial trivial o_ fun _ _ _ _=>rfl
   |false=>
   rw[hb]at F4;rw[if_neg (by simp[c1])];refine((anT z).go σ F4 (by rw[cr];rfl) trivial (mX f14)).trans fun g5 w5 eg=>?_;obtain⟨I5,B5,gn,rfl,f5,F5,_⟩:=eg;have uk:=o_.trans f5;have f15:=f14.trans f5;have F5':FA 10 47 FiH [] .normal [(2,s),(3,bK X),(4,bK Y),(34,ew z A o F.lets.length c),(35,iV F.lets.length),(36,iV (0:Nat))] gn:=by
    rw[cr]at F5;cases z with
    |false=>exact F5
    |true=>rw[hz rfl];exact F5
   have hX5:(cy.obj 25 [ew z A o F.lets.length c,os]).at Tryz.prog w5 X:=by rw[<-hls];exact bP hX f15
   refine(E0 (w0:=w5) (cs:=cs) (os:=os) hz oU (fun i x hi=>(hel i x hi).keep uk) (hE.keep uk) (qC h0) c1 hlen htr hX5 (bP hY f15) F.lets.length 0 (by omega) (bA.refl _) F5').mono fun g6 w6 dz=>?_;obtain⟨dK,v,rfl,hL,f6,hv⟩:=dz;exact⟨dK,v,rfl,hL,uk.trans f6,by rw[hv,List.drop_zero]⟩
  ·rw[if_pos (.inl c1)];refine(anP z y (by
    cases z with
    |false=>rfl
    |true=>
     cases y with
     |false=>rfl
     |true=>exact(c1 (by rw[hz rfl,hy rfl];rfl)).elim)).zJ Oa σ lY T2 ⟨n0,by
    show(!decide ((dO y 81).ev σ=(dO z 51).ev σ))=true;rw[eN,eE,decide_eq_false (by omega)];rfl,trivial⟩ (mX f2) jT fun _ _ _ _=>rfl
 ·rw[if_pos h0];refine anO.zJ Oa σ lY (by rw[cr];rfl) ⟨by rw[cr];show(!decide ((gH F).1=0))=true;rw[decide_eq_false h0];rfl,trivial⟩ trivial jT fun _ _ _ _=>?_;rw[cr];rfl
end
noncomputable def jk(l:Nat):Code:=pc (bD Tryz.f3) (pd l)
theorem aex:bT Tryz.prog 3 [.bF 0,.bF 1,.bF 2] .normal=.ok ⟨3,68,c_ 3 [.bF 0,.bF 1,.bF 2],[.code (bD Tryz.f3)],[],.run,.normal⟩:=by kernel_rfl
theorem UP:dL 3 68 6:=fun st=>by kernel_rfl
theorem an3:Pc 3 68 [.code (bD Tryz.f3)] (Qd) [] [] [] 10 [101,100] [2,3,4,13] [.inRegion (opsOf (jk 12)) [1,2,3,4,5,6],.code (jk 13),.code (jk 7)] Qe Qc:={}
theorem an4:dy 68 (opsOf (jk 12)) 1 [(13,.bF 13)] 5 [.bF 13] 14:={}
noncomputable abbrev Jw:List Item:=[.inRegion (opsOf (jk 12)) [2,3,4,5,6],.code (jk 13),.code (jk 7)]
noncomputable abbrev UQ:List Item:=[.inRegion (opsOf (jk 52)) [0,1],.code .ret,.code (jk 7)]
theorem an5:Pc 3 68 Jw ([(2,.bF 2),(3,bC 64),(4,bC 65),(14,TB)]) [] [] [] 9 [] [3] UQ [bC 64] []:={}
theorem aey:dy 68 (opsOf (jk 52)) 0 [] 7 [] 20:={}
noncomputable abbrev UR:List Item:=[.inRegion (opsOf (jk 52)) [1],.code .ret,.code (jk 7)]
theorem aez:Pc 3 68 UR ([(20,TB)]) [] [] [] 2 [] [6] [.code .ret,.code (jk 7)] [TB] []:={}
theorem aeA:Pc 3 68 Jw ([(2,sA 80 83 81 82),(3,bC 64),(4,bC 65),(14,FB)]) [((.cmp .gtr (.tn (v 81)) (.lit 2147483647)),true)] [] [] 21 [] [3] UQ [bC 64] []:={}
theorem aeB(z:Bool):Pc 3 68 Jw ([(2,cU z 80 83 81 82),(3,bC 64),(4,bC 65),(14,FB)]) [((.cmp .gtr (dO z 81) (.lit 2147483647)),false)] [(eD 64 0,.bF 8),(eD 64 1,.bF 9)] [] 23 [] [2,3,4,21] [.inRegion (opsOf (jk 14)) [1,2,3],.code (jk 15)] [cU z 80 83 81 82,bC 64,bC 65,.agg [.bF 8,.bF 9]] []:=by cases z<;>exact{}
theorem an6:dy 68 (opsOf (jk 14)) 1 [(21,.bF 21)] 8 [.bF 21] 22:={}
theorem an7:Pc 3 68 [.inRegion (opsOf (jk 14)) [2,3],.code (jk 15)] ([(2,.bF 2),(3,bC 64),(4,bC 65),(22,.bF 24)]) [] [] [] 1 [100] [2,3,4,7,22] [.inRegion (opsOf (jk 14)) [3],.code (jk 15)] [.bF 2,bC 64,bC 65,bC 100,.bF 24] [(100,.cells [cn,cn] 25)]:={}
theorem an8:j7 68 (opsOf (jk 14)) 3 [] (.store 25 (.tmp 7) (.tmp 22)) 0 none:={}
theorem an9:Pc 3 68 [.inRegion (opsOf (jk 14)) [],.code (jk 15)] ([(2,.bF 2),(3,bC 64),(4,bC 65),(7,bC 66)]) [] [] [] 4 [] [2,3,4,7,23] [.inRegion (opsOf (jk 30)) [1,2],.code (jk 31)] [.bF 2,bC 64,bC 65,bC 66,.bF 2] []:={}
theorem an_:dy 68 (opsOf (jk 30)) 1 [(23,.bF 23)] 9 [.bF 23] 24:={}
theorem an':Pc 3 68 [.inRegion (opsOf (jk 30)) [2],.code (jk 31)] ([(2,.bF 2),(3,bC 64),(4,bC 65),(7,bC 66),(24,.bF 26)]) [] [(eD 66 0,.bF 11),(eD 66 1,.bF 12),(eD 65 0,i64 (v 31)),(eD 65 1,i64 (v 32)),(eD 65 2,i64 (v 33)),(eD 65 3,i64 (v 34))] [] 7 [] [2,3,4,7,8,26,27,28] [.inRegion (opsOf (jk 62)) [3,4,5,6,7,8],.code (jk 63)] [.bF 2,bC 64,bC 65,bC 66,.bF 26,.agg [.bF 11,.bF 12],.agg dR,.bF 26] []:={}
theorem aoa:dy 68 (opsOf (jk 62)) 3 [(26,.bF 26),(27,.bF 27),(28,.bF 28)] 10 [.bF 26,.bF 27,.bF 28] 29:={}
noncomputable abbrev US:List Item:=[.inRegion (opsOf (jk 62)) [4,5,6,7,8],.code (jk 63)]
theorem aob:Pc 3 68 US ([(2,.bF 2),(3,bC 64),(4,bC 65),(7,bC 66),(8,.bF 10),(29,.tuple [i64 (v 21),i64 (v 22)])]) [] [(eD 64 0,.bF 8),(eD 64 1,.bF 9),(eD 65 0,i64 (v 31)),(eD 65 1,i64 (v 32)),(eD 65 2,i64 (v 33)),(eD 65 3,i64 (v 34))] [] 11 [] [2,3,7,8,9,10,33,34,35] [.inRegion (opsOf (jk 126)) [3,4,5,6,7,8],.code (jk 127)] [.bF 2,bC 64,bC 66,.bF 10,i64 (v 21),i64 (v 22),.agg [.bF 8,.bF 9],.agg dR,.bF 2] []:={}
theorem aoc:dy 68 (opsOf (jk 126)) 3 [(33,.bF 33),(34,.bF 34),(35,.bF 35)] 11 [.bF 33,.bF 34,.bF 35] 36:={}
noncomputable abbrev UT:List Item:=[.inRegion (opsOf (jk 126)) [4,5,6,7,8],.code (jk 127)]
theorem aod:Pc 3 68 UT ([(2,.bF 2),(3,bC 64),(7,bC 66),(8,.bF 10),(9,i64 (v 21)),(10,i64 (v 22)),(36,.tuple [i64 (v 21),i64 (v 22)])]) [((.cmp .eql (v 21) (v 21)),true),((.cmp .eql (v 22) (v 22)),true)] [(eD 64 0,.bF 8),(eD 64 1,.bF 9),(eD 66 0,.bF 11),(eD 66 1,.bF 12)] [] 19 [] [2,7,8,47,48,49] [.inRegion (opsOf (jk 254)) [11,12,13,14,15,16,17,18,19,20,21,22,23,24,25,26,27,28,29],.code .ret] [.bF 2,bC 66,.bF 10,TB,.agg [.bF 11,.bF 12],.agg [.bF 8,.bF 9]] []:={}
theorem aoe:dy 68 (opsOf (jk 254)) 11 [(47,TB),(48,.bF 48),(49,.bF 49)] 12 [.bF 48,.bF 49] 50:={}
noncomputable abbrev aeC:List Item:=[.inRegion (opsOf (jk 254)) [12,13,14,15,16,17,18,19,20,21,22,23,24,25,26,27,28,29],.code .ret]
theorem aof:Pc 3 68 aeC ([(2,.bF 2),(7,bC 66),(8,.bF 10),(47,TB),(50,TB)]) [] [] [] 4 [] [7,8,52,53,54] [.inRegion (opsOf (jk 254)) [16,17,18,19,20,21,22,23,24,25,26,27,28,29],.code .ret] [bC 66,.bF 10,TB,.bF 10,.bF 2] []:={}
theorem aog:dy 68 (opsOf (jk 254)) 16 [(52,TB),(53,.bF 53),(54,.bF 54)] 13 [.bF 53,.bF 54] 55:={}
noncomputable abbrev UU:List Item:=[.inRegion (opsOf (jk 254)) [17,18,19,20,21,22,23,24,25,26,27,28,29],.code .ret]
theorem aoh:Pc 3 68 UU ([(7,bC 66),(8,.bF 10),(52,TB),(55,TB)]) [] [(eD 66 0,.bF 11),(eD 66 1,.bF 12)] [] 3 [] [8,57,58] [.inRegion (opsOf (jk 254)) [20,21,22,23,24,25,26,27,28,29],.code .ret] [.bF 10,TB,.agg [.bF 11,.bF 12]] []:={}
theorem aoi:dy 68 (opsOf (jk 254)) 20 [(57,TB),(58,.bF 58)] 14 [.bF 58] 59:={}
noncomputable abbrev UW:List Item:=[.inRegion (opsOf (jk 254)) [21,22,23,24,25,26,27,28,29],.code .ret]
theorem aoj:Pc 3 68 UW ([(8,.bF 10),(57,TB),(59,TB)]) [] [] [] 3 [] [61,62] [.inRegion (opsOf (jk 254)) [24,25,26,27,28,29],.code .ret] [TB,.bF 10] []:={}
theorem aok:dy 68 (opsOf (jk 254)) 24 [(61,TB),(62,.bF 62)] 15 [.bF 62] 63:={}
noncomputable abbrev UX:List Item:=[.inRegion (opsOf (jk 254)) [25,26,27,28,29],.code .ret]
theorem aol:Pc 3 68 UX ([(61,TB),(63,TB)]) [] [] [] 2 [] [65] [.inRegion (opsOf (jk 254)) [27,28,29],.code .ret] [TB] []:={}
theorem aom:dy 68 (opsOf (jk 254)) 27 [(65,TB)] 7 [] 66:={}
theorem aon:Pc 3 68 [.inRegion (opsOf (jk 254)) [28,29],.code .ret] ([(65,TB),(66,TB)]) [] [] [] 3 [] [6] [.code .ret] [TB] []:={}
section
variable {w w0:World}{cs:List Frame}{fr:Frame}
theorem Hh{P A C:Nat}(h:cq (VY P A C) w KC):dV 22 #[kA P] w fun v w'=>bA w w'∧∃B c,v=.tuple #[bS B 0 2 c,iV 0]∧w'.cell? ⟨B,1,none⟩=some (iV 1)∧w.heap.size≤B:=by
 refine cI fun cs=>?_;refine(ll1.go (bO [] [(50,P)] []) (cC acy rfl (kA P)) rfl trivial trivial).trans fun g1 w1 hd=>?_;obtain⟨I,B,bR,rfl,f1,F1,bl,_⟩:=hd;obtain⟨X,eX⟩:∃X,B 100=X:=⟨_,rfl⟩;have hX:(cy.obj 25 [bS P 0 2 2,eH]).at Tryz.prog w1 X:=by rw[<-eX];exact bl.1.2
 have fN:FA 22 34 (.inRegion (opsOf (sj 12)) [1,2,3,4,5,6]::[.code (sj 13),.code (sj 7)]) [] .normal [(1,bK X),(11,kA P)] bR:=by rw[<-eX];exact F1
 refine(ll2.go (bO [] [] [(11,kA P)]) (Q:=fun v w'=>v=.tuple #[iV 0,iV 0]) fN rfl fun w' f2=>(qA (qE (h.keep (f1.trans f2))) (by decide) (by decide)).mono fun v w2 hd=>⟨hd.1,by have:=hd.2;rw[DL]at this;exact this⟩).trans fun g2 w2 b_=>?_
 obtain⟨cE,vv,rfl,f2,rfl,F2⟩:=b_;have f12:=f1.trans f2;have DF:=f2.cell (bG hX (i:=0) rfl);refine(ll3.go (bO [] [(50,P),(64,X),(70,A),(71,C)] []) F2 rfl trivial (cq.app (l:=KC) (l':=[(⟨.dyn 64,.lit 0⟩,.slice (some ⟨.dyn 50,.lit 0⟩) (.lit 2) (.lit 2))]) (h.keep f12) ⟨DF,trivial⟩)).trans fun g3 w3 cv=>?_;obtain⟨I,B,cF,rfl,f3,F3,Qt,inj⟩:=cv;obtain⟨M,eM⟩:∃M,B 100=M:=⟨_,rfl⟩;obtain⟨K,eK⟩:∃K,B 101=K:=⟨_,rfl⟩;obtain⟨Gb,eG⟩:∃Gb,B 102=Gb:=⟨_,rfl⟩;obtain⟨D,eD⟩:∃D,B 107=D:=⟨_,rfl⟩;have hD:(cy.vec 3 (I 107).toNat [iV 0]).at Tryz.prog w3 D:=by rw[<-eD];exact Qt.1.2
 have hG:(cy.obj 80 [VZ K X Gb]).at Tryz.prog w3 Gb:=by rw[<-eG,<-eK];exact Qt.2.1.2
 have hK:(cy.obj 79 [.map (some M)]).at Tryz.prog w3 K:=by rw[<-eK,<-eM];exact Qt.2.2.1.2
 have hM:(cy.map [(iV 0,iV 0)]).at Tryz.prog w3 M:=by rw[<-eM];exact Qt.2.2.2.1.2
 have gD:w2.heap.size≤D:=by rw[<-eD];exact Qt.1.1
 have gM:w2.heap.size≤M:=by rw[<-eM];exact Qt.2.2.2.1.1
 have f13:=f12.trans f3;obtain⟨c,ec⟩:∃c,(I 107).toNat=c:=⟨_,rfl⟩;rw[ec]at hD;have qc:FA 22 34 (.inRegion (opsOf (sj 65177)) [3,4,5,6]::[.inBlock 1,.code (sj 16295),.inLoop (sj 2036),.inBlock 0,.code (sj 255)]) [] .normal [(1,bK X),(7,bK Gb),(8,bS D 0 1 c),(22,iV 2),(23,iV 1),(24,.bool true),(25,iV 1),(26,bS D 0 1 c),(27,VZ K X Gb),(28,iV 1)] cF:=by rw[<-ec,<-eD,<-eG,<-eK];exact F3
 refine(tB (ρ:=bO [] [(61,K),(64,X),(62,Gb)] []) (bs:=[]) (mem:=[]) (Q:=fun v w'=>v=iV 1∧bU (fun x=>w3.heap.size≤x∨x=M) w3 w') qc (fun p hp=>?_) ZT.want ZT.op ZT.low (nofun) (nofun) ZT.dst ZT.dlt ZT.Dg fun w' f4=>?_).trans fun g4 w4 dh=>?_
 ·simp only[told,aU,List.map_nil,ai,aA,or_false]at hp;rcases hp with rfl|rfl
  ·exact cN rfl
  ·exact cN rfl
 ·refine(Oi (P:=P) (A:=A) (C:=C) (M:=M) (h.keep (f13.trans f4)) ((f3.trans f4).cell DF) (bP (k:=.map _) hM f4) (f4.cell (bG hK (i:=0) rfl)) (f4.cell (bG hG (i:=0) rfl))).mono fun v w2 hd=>⟨hd.1,?_⟩;exact(f4.mono fun q hq=>.inl hq).trans (hd.2.mono fun q hq=>hq.imp (fun hq=>ax f4.size hq) id)
 obtain⟨eO,vv,rfl,⟨rfl,k4⟩,F4⟩:=dh;have hMD:M≠D:=fun e=>by have Q9:w3.cell? ⟨D,0,none⟩=some (iV 0):=cy.cS hD rfl;exact tO hM Q9 e
 have hD4:(cy.vec 3 c [iV 0]).at Tryz.prog w4 D:=cy.qy hD k4 fun hh=>by
  rcases hh with hh|hh
  ·have:=cy.jR hD;omega
  ·exact hMD hh.symm
 have hX4:w4.cell? ⟨X,0,none⟩=some (bS P 0 2 2):=iD k4 (f3.cell DF) fun hh=>by
  have h3:=f3.cell DF;have:=j5 h3;have:X<w3.heap.size:=this;rcases hh with hh|hh
  ·have hh:w3.heap.size≤X:=hh;omega
  ·exact tO hM h3 hh.symm
 obtain⟨ρ,hρ⟩:∃ρ:Env,ρ=bO [(8,1),(57,c)] [(64,X),(62,Gb),(52,D),(50,P)] [(65,.agg #[iV 0])]:=⟨_,rfl⟩;refine(ll5.Df ρ F4 (by rw[hρ];rfl) ⟨by rw[hρ];show decide ((((1:Int).toNat:Nat):Int)+1≤1048576)=true;exact decide_eq_true (by omega),trivial⟩ ⟨by rw[hρ];exact hX4,trivial⟩ (fun p hp x hx=>?_) ⟨⟨.vec 3 c [iV 0],by rw[hρ];exact hD4,rfl,by rw[hρ];rfl,fun inf rS=>?_,(nofun),by rw[hρ];rfl⟩,trivial⟩ eS).trans fun g5 w5 eg=>?_
 ·obtain rfl:=ah.1 hp;obtain rfl:=ah.1 hx;rw[hρ];show D≠X;intro e;have:=cy.jR (bP hX f2);omega
 ·rw[yb inf rS,hρ];rfl
 obtain⟨I5,B5,gn,rfl,kp5,F5,Oj,_⟩:=eg;have own:∀q,k_ ρ w4 vj q->w4.heap.size≤q∨q=D:=fun q hq=>by
  rcases hq with hh|⟨p,hp,e⟩
  ·exact .inl hh
  ·obtain rfl:=ah.1 hp;have e:ρ.b 52=q:=e;rw[hρ]at e;exact .inr e.symm
 have hR:(cy.vec 3 (I5 101).toNat [iV 0,iV 1]).at Tryz.prog w5 (B5 101):=by have:=Oj.1.2;rw[hρ]at this;exact this
 have gR:w.heap.size≤B5 101:=by have h1:=f12.size;have h2:=f3.size;have h3:=k4.size;have h4:w4.heap.size≤B5 101∨B5 101=D:=own _ Oj.1.1;rcases h4 with h4|h4<;>omega
 have f5:bA w w5:=cw (cw f13 (k4.mono fun q hq=>by
  have h1:=f12.size;have h2:=f13.size;rcases hq with hq|hq<;>omega)) (kp5.mono fun q hq=>by
  have h1:=f12.size;have h2:=f3.size;have h3:=k4.size;rcases own q hq with hq|hq<;>omega)
 have F5':FA 22 34 (.code .ret::[]) [] .normal [(2,bS (B5 101) 0 2 (I5 101).toNat),(3,iV 0)] gn:=by rw[hρ]at F5;exact F5
 refine(jo acz F5' rfl rfl).mono fun g6 w6 dz=>?_;obtain⟨dK,rfl,rfl,hL⟩:=dz;exact⟨dK,_,rfl,hL,f5,B5 101,(I5 101).toNat,rfl,cy.cS hR rfl,gR⟩
theorem Hi:jD Iy ⟨0,0,0,0⟩ [(1,1),(1,4)]=(30,1):=by kernel_rfl
theorem Bf:dV 7 #[] w fun v w'=>bA w w'∧v=.bool true:=by
 refine cI fun cs=>?_;refine(lv1.go (bO [] [] []) (BF ag1) rfl trivial trivial).trans fun g1 w1 hd=>?_;obtain⟨I,B,bR,rfl,f1,F1,_⟩:=hd;let PQ:Value->World->Prop:=fun v w'=>∃P A C,v=kA P∧cq (VY P A C) w' KC;refine(AI.go (bO [] [] []) (Q:=PQ) F1 rfl fun w' f2=>tN).trans fun g2 w2 b_=>?_;obtain⟨cE,vv,rfl,f2,⟨P,A,C,rfl,hP⟩,F2⟩:=b_;refine(lv3.go (bO [] [] [(9,kA P)]) F2 rfl trivial trivial).trans fun g3 w3 cv=>?_;obtain⟨I,B,cF,rfl,f3,F3,_⟩:=cv;refine(lv4.go (bO [] [] [(9,kA P),(10,dx ⟨0,0,0,0⟩)]) (Q:=fun v w'=>∃B c,v=.tuple #[bS B 0 2 c,iV 0]∧w'.cell? ⟨B,2,none⟩=some (cY 1)∧w'.cell? ⟨B,3,none⟩=some (iV 3)) F3 rfl fun w' f4=>(Ky (qE (hP.keep (f3.trans f4))) (by decide) (by decide)).mono fun v w2 hd=>⟨hd.1,by
  obtain⟨s,h1,h2⟩:=hd.2;rw[Gv]at h1 h2;rcases h2 with⟨_,h3⟩|⟨_,B,c,h3,_,h4⟩
  ·cases h3
  ·exact⟨B,c,by rw[h1,h3];rfl,cy.cS h4 rfl,cy.cS h4 rfl⟩⟩).trans fun g4 w4 dh=>?_
 obtain⟨eO,vv,rfl,f4,⟨D,c,rfl,d2,d3⟩,F4⟩:=dh;refine(lv5.go (bO [] [] [(11,bS D 0 2 c)]) F4 rfl trivial trivial).trans fun g5 w5 eg=>?_;obtain⟨I,B,gn,rfl,f5,F5,_⟩:=eg;refine(lv6.go (bO [] [] []) (Q:=PQ) F5 rfl fun w' f2=>tN).trans fun g6 w6 dz=>?_;obtain⟨dK,vv,rfl,f6,⟨P',A',C',rfl,hP'⟩,F6⟩:=dz;refine(lv7.go (bO [] [] [(14,kA P')]) (Q:=fun v w'=>∃B,v=bS B 0 1 1) F6 rfl fun w' f7=>(KE (hP'.keep f7)).mono fun v w2 hd=>⟨hd.1,by obtain⟨B,_,h2,_⟩:=hd.2;exact⟨B,h2⟩⟩).trans fun g7 w7 mW=>?_
 obtain⟨qX,vv,rfl,f7,⟨N,rfl⟩,F7⟩:=mW;refine(lv8.go (bO [] [] [(1,bS D 0 2 c),(15,bS N 0 1 1)]) F7 rfl trivial trivial).trans fun g8 w8 BH=>?_;obtain⟨I,B,Np,rfl,f8,F8,_⟩:=BH;refine(lv9.go (bO [] [] []) (Q:=PQ) F8 rfl fun w' f2=>tN).trans fun g9 w9 zA=>?_;obtain⟨E6,vv,rfl,f9,⟨P2,A2,C2,rfl,hP2⟩,F9⟩:=zA;refine(lvA.go (bO [] [] [(17,kA P2)]) (Q:=fun v w'=>∃B c,v=.tuple #[bS B 0 2 c,iV 0]∧w'.cell? ⟨B,1,none⟩=some (iV 1)) F9 rfl fun w' fA=>(Hh (hP2.keep fA)).mono fun v w2 hd=>⟨hd.1,by obtain⟨B,c,h1,h2,_⟩:=hd.2;exact⟨B,c,h1,h2⟩⟩).trans fun gA wA hdA=>?_
 obtain⟨frA,vv,rfl,fA,⟨L,c2,rfl,l1⟩,FA'⟩:=hdA;refine(lvB.go (bO [] [] [(1,bS D 0 2 c),(3,bS N 0 1 1),(18,bS L 0 2 c2)]) FA' rfl trivial trivial).trans fun gB wB hdB=>?_;obtain⟨I,B,frB,rfl,fB,FB',_⟩:=hdB;refine(lvC.go (bO [] [] []) (Q:=PQ) FB' rfl fun w' f2=>tN).trans fun gC wC hdC=>?_;obtain⟨frC,vv,rfl,fC,⟨P3,A3,C3,rfl,hP3⟩,FC⟩:=hdC;refine(lvD.go (bO [] [] [(1,bS D 0 2 c),(3,bS N 0 1 1),(4,bS L 0 2 c2),(22,kA P3)]) FC rfl trivial trivial).trans fun gD wD hdD=>?_;obtain⟨I,B,frD,rfl,fD,FD,blD,_⟩:=hdD;obtain⟨Eb,eE⟩:∃Eb,B 100=Eb:=⟨_,rfl⟩;have hE:(cy.obj 43 [cY 1,iV 1,cY 1,iV 4]).at Tryz.prog wD Eb:=by rw[<-eE];exact blD.1.2
 have FD':FA 7 72 (.inRegion (opsOf (q6 62)) [5,6,7,8,9,10]::[.code (q6 63)]) [] .normal [(1,bS D 0 2 c),(2,iV 0),(3,bS N 0 1 1),(4,bS L 0 2 c2),(5,iV 0),(22,kA P3),(23,dx ⟨0,0,0,0⟩),(26,bS Eb 0 2 2)] frD:=by rw[<-eE];exact FD
 have aeD:ei wD (bS Eb 0 2 2) [(1,1),(1,4)]:=⟨false,Eb,0,2,rfl,(fun h=>by cases h),fun _=>ay _,fun i e he=>by
  match i,he with
  |0,he=>obtain rfl:((1:Int),(1:Int))=e:=au he;exact⟨bG hE (i:=0) rfl,bG hE (i:=1) rfl⟩
  |1,he=>obtain rfl:((1:Int),(4:Int))=e:=au he;exact⟨bG hE (i:=2) rfl,bG hE (i:=3) rfl⟩
  |i+2,he=>cases he⟩
 refine(lvE.go (bO [] [] [(22,kA P3),(23,dx ⟨0,0,0,0⟩),(26,bS Eb 0 2 2)]) (Q:=fun v w'=>v=.tuple #[iV 30,iV 1]) FD' rfl fun w' fE=>(Be (m:=⟨0,0,0,0⟩) (qE (hP3.keep (fD.trans fE))) (aeD.keep fE) (by decide) (by decide) (by decide)).mono fun v w2 hd=>⟨hd.1,by have:=hd.2;rw[Hi]at this;exact this⟩).trans fun gE wE hdE=>?_
 obtain⟨frE,vv,rfl,fE,rfl,FE⟩:=hdE;have g1:=f5.trans (f6.trans (f7.trans (f8.trans (f9.trans (fA.trans (fB.trans (fC.trans (fD.trans fE))))))));have g2:=fB.trans (fC.trans (fD.trans fE));refine(lvF.go (bO [(81,c),(82,c2)] [(73,D),(72,N),(74,L)] []) FE rfl trivial ⟨g1.cell d2,g1.cell d3,g2.cell l1,trivial⟩).trans fun gF wF hdF=>?_;obtain⟨I,B,frF,rfl,fF,FF,_⟩:=hdF;refine(leave1 ag2 FF rfl).mono fun gG wG hdG=>?_;obtain⟨frG,rfl,rfl,hL⟩:=hdG;exact⟨frG,_,rfl,hL,f1.trans (f2.trans (f3.trans (f4.trans (g1.trans fF)))),rfl⟩
end
section
variable {w w0:World}{cs:List Frame}{fr:Frame}
theorem E3{x s:Value}{F:iG}{E:List (Int×Int)}{m:cV}(h:mK w x F)(hE:ei w s E)(hlen:F.lets.length+F.outs.length≤100000000000000):dV 3 #[x,dx m,s] w fun v w'=>bA w w'∧v=.bool true:=by
 have h':=h;obtain⟨ls,os,rfl,hl,ho⟩:=h;refine Goes.iY fun cs=>?_;obtain⟨ρ,hρ⟩:∃ρ:Env,ρ=bO [(31,m.mul),(32,m.add),(33,m.cJ),(34,m.panics)] [] [(8,ls),(9,os),(2,s)]:=⟨_,rfl⟩;refine(an3.go ρ (p9 aex rfl (.agg #[ls,os]) (dx m) s) (by rw[hρ];rfl) trivial trivial).trans fun g1 w1 hd=>?_;obtain⟨I,B,bR,rfl,f1,F1,bl,inj⟩:=hd;rw[hρ]at F1 bl;obtain⟨Y,eY⟩:∃Y,B 101=Y:=⟨_,rfl⟩;obtain⟨X,eX⟩:∃X,B 100=X:=⟨_,rfl⟩;have hY:(cy.obj 27 [iV m.mul,iV m.add,iV m.cJ,iV m.panics]).at Tryz.prog w1 Y:=by rw[<-eY];exact bl.1.2
 have hX:(cy.obj 25 [ls,os]).at Tryz.prog w1 X:=by rw[<-eX];exact bl.2.1.2
 have fN:FA 3 68 (.inRegion (opsOf (jk 12)) [1,2,3,4,5,6]::[.code (jk 13),.code (jk 7)]) [] .normal [(2,s),(3,bK X),(4,bK Y),(13,.agg #[ls,os])] bR:=by rw[<-eX,<-eY];exact F1
 refine(an4.go (bO [] [] [(13,.agg #[ls,os])]) (Q:=fun v w'=>∃b,v=.bool b∧(b=false->F.lets.length≤256∧F.outs.length≤2147483647∧∀x∈F.lets,x.tree.length≤1024)) fN rfl fun w' f=>Og (h'.keep (f1.trans f)) hlen).trans fun g2 w2 b_=>?_;obtain⟨cE,vv,rfl,f2,⟨b,rfl,hb⟩,F2⟩:=b_;have jT:=f1.trans f2;have lY:FA 3 68 Jw [] .normal [(2,s),(3,bK X),(4,bK Y),(14,.bool b)] cE:=F2.only rfl;obtain⟨σ,cr⟩:∃σ:Env,σ=bO [(31,m.mul),(32,m.add),(33,m.cJ),(34,m.panics)] [(64,X),(65,Y)] [(8,ls),(9,os),(2,s)]:=⟨_,rfl⟩;have live:∀{w3:World} {cF:Frame} {lv:List (Nat×Value)},bA w w3->FA 3 68 (.inRegion (opsOf (jk 52)) [0,1]::[.code .ret,.code (jk 7)]) [] .normal lv cF->Goes (G cF cs) w3 (Out 3 cs w fun v w'=>v=.bool true):=fun{w3 cF lv} f3 F3=>by
  refine(aey.go (bO [] [] []) (Q:=fun v w'=>v=.bool true) F3 rfl fun w' f1=>Bf).trans fun g4 w4 dh=>?_;obtain⟨eO,vv,rfl,f4,rfl,F4⟩:=dh;have Qu:FA 3 68 UR [] .normal [(20,.bool true)] eO:=F4.sub fun x hx=>by obtain rfl:=ah.1 hx;exact aj ..
  exact aez.out UP (bO [] [] []) Qu rfl trivial trivial (f3.trans f4) fun _ _ _ _=>rfl
 cases b with
 |true=>refine(an5.go σ lY (by rw[cr];rfl) trivial trivial).trans fun g3 w3 cv=>?_;obtain⟨I,B,cF,rfl,f3,F3,_⟩:=cv;exact live (jT.trans f3) F3
 |false=>
 obtain⟨avu,hout,UY⟩:=hb rfl;have hlen':F.lets.length≤1000000:=by omega
 have htr:∀x∈F.lets,x.tree.length≤999999:=fun x hx=>by have:=UY x hx;omega
 have Qm:F.lets.length≤4294967000:=by omega
 have Zw:∀x∈F.lets,x.tree.length≤4294967000:=fun x hx=>by have:=UY x hx;omega
 have Zx:F.outs.length≤4294967000:=by omega
 obtain⟨y,A',o',c',hs,hy,Gp,fW⟩:=hE.ex;obtain⟨τ,fS⟩:∃τ:Env,τ=bO [(81,E.length),(82,c'),(83,o')] [(64,X),(65,Y),(80,A')] [(8,ls),(9,os)]:=⟨_,rfl⟩;have DF:=bP hX f2;by_cases hbig:E.length>2147483647
 ·obtain rfl:y=false:=by
   cases y with
   |false=>rfl
   |true=>rw[hy rfl]at hbig;simp at hbig
  refine(aeA.go τ lY (by rw[fS,hs];rfl) ⟨by rw[fS];exact decide_eq_true (by show((E.length:Nat):Int)>2147483647;omega),trivial⟩ trivial).trans fun g3 w3 cv=>?_;obtain⟨I,B,cF,rfl,f3,F3,_⟩:=cv;exact live (jT.trans f3) F3
 have SI:E.length≤4294967000:=by omega
 have eE:(dO y 81).ev τ=(E.length:Int):=by
  rw[fS];cases y with
  |false=>rfl
  |true=>rw[hy rfl];rfl
 have es:∀I B,(cU y 80 83 81 82).ev (dc τ I B)=s:=fun I B=>by rw[fS,hs];cases y<;>rfl
 have es0:(cU y 80 83 81 82).ev τ=s:=by rw[fS,hs];cases y<;>rfl
 refine((aeB y).go τ lY (by show[some _,some _,some _,some _]=[some ((cU y 80 83 81 82).ev τ),some _,some _,some _];rw[es0,fS];rfl) ⟨by show decide ((dO y 81).ev τ>2147483647)=false;rw[eE];exact decide_eq_false (by omega),trivial⟩ ⟨by rw[fS];exact bG DF (i:=0) rfl,by rw[fS];exact bG DF (i:=1) rfl,trivial⟩).trans fun g3 w3 cv=>?_
 obtain⟨I3,B3,cF,rfl,f3,F3,_⟩:=cv;have qc:FA 3 68 (.inRegion (opsOf (jk 14)) [1,2,3]::[.code (jk 15)]) [] .normal [(2,s),(3,bK X),(4,bK Y),(21,.agg #[ls,os])] cF:=by
  have h1:FA 3 68 (.inRegion (opsOf (jk 14)) [1,2,3]::[.code (jk 15)]) [] .normal [(2,(cU y 80 83 81 82).ev (dc τ I3 B3)),(3,bK X),(4,bK Y),(21,.agg #[ls,os])] cF:=by rw[fS]at F3⊢;exact F3
  rw[es]at h1;exact h1
 have vV:=jT.trans f3;refine(an6.go (bO [] [] [(21,.agg #[ls,os])]) (Q:=fun v w'=>∃base ls' os',w3.heap.size≤base∧v=.agg #[ls',os']∧kC w' base ls' F.lets∧kD w' base os' F.outs) qc rfl fun w' f=>(BT (h'.keep (vV.trans f)) Qm Zw Zx).mono fun v w2 hd=>⟨hd.1,by obtain⟨_,ls',os',e,h1,h2⟩:=hd;exact⟨_,ls',os',f.size,e,h1,h2⟩⟩).trans fun g4 w4 dh=>?_
 obtain⟨eO,vv,rfl,f4,⟨base,ls',os',gb,rfl,VR,hwi⟩,F4⟩:=dh;have o_:=vV.trans f4;have Qu:FA 3 68 [.inRegion (opsOf (jk 14)) [2,3],.code (jk 15)] [] .normal [(2,s),(3,bK X),(4,bK Y),(22,.agg #[ls',os'])] eO:=F4.only rfl;obtain⟨κ,lH⟩:∃κ:Env,κ=bO [] [(64,X),(65,Y)] [(2,s),(24,.agg #[ls',os'])]:=⟨_,rfl⟩;refine(an7.go κ Qu (by rw[lH];rfl) trivial trivial).trans fun g5 w5 eg=>?_;obtain⟨I,B,gn,rfl,f5,F5,Oj,_⟩:=eg;rw[lH]at F5 Oj;obtain⟨V,eV⟩:∃V,B 100=V:=⟨_,rfl⟩;have hV0:(cy.obj 25 [eH,eH]).at Tryz.prog w5 V:=by rw[<-eV];exact Oj.1.2
 have gV:w4.heap.size≤V:=by rw[<-eV];exact Oj.1.1
 have F5':FA 3 68 (.inRegion (opsOf (jk 14)) [3]::[.code (jk 15)]) [] .normal [(2,s),(3,bK X),(4,bK Y),(7,bK V),(22,.agg #[ls',os'])] gn:=by rw[<-eV];exact F5
 have uk:=o_.trans f5;have avv:=VR.keep f5;have avw:=hwi.keep f5;have aoo:∀z∈[ls',os'],z.oneCell'=true:=by
  intro z hz;simp only[ai,aA,or_false]at hz;rcases hz with rfl|rfl
  ·obtain⟨_,_,_,rfl,_⟩:=VR;rfl
  ·obtain⟨_,_,rfl,_⟩:=hwi;rfl
 refine(fQ (B:=V) (T:=25) (el:=25) (sz:=2) (V:=.agg #[ls',os']) (cs':=[ls',os']) an8 (by kernel_rfl) (by
   obtain⟨_,_,_,rfl,_⟩:=VR;obtain⟨_,_,rfl,_⟩:=hwi;rfl) (by
   obtain⟨_,_,_,rfl,_⟩:=VR;obtain⟨_,_,rfl,_⟩:=hwi;rfl) aoo F5' rfl rfl hV0 rfl).trans fun g6 w6 dz=>?_
 obtain⟨dK,rfl,⟨kp6,hV⟩,F6⟩:=dz;have f46:bA w4 w6:=cw f5 (kp6.mono fun q hq=>by rw[hq];exact gV);have BW:=o_.trans f46;have aeE:=VR.keep f46;have aeF:=hwi.keep f46;have zC:=bP hX (f2.trans (f3.trans (f4.trans f46)));have hY6:=bP hY (f2.trans (f3.trans (f4.trans f46)));refine(an9.go (bO [] [(64,X),(65,Y),(66,V)] [(2,s)]) F6 rfl trivial trivial).trans fun g7 w7 mW=>?_;obtain⟨I,B,qX,rfl,f7,F7,_⟩:=mW;have Ul:=BW.trans f7;refine(an_.go (bO [] [] [(23,s)]) (Q:=fun v w'=>∃B,v=bS B 0 E.length (E.length+64)∧(cy.vec 43 (E.length+64) (kB E (E.length+64))).at Tryz.prog w' B) F7 rfl fun w' f=>(KL (hE.keep (Ul.trans f)) SI).mono fun v w2 hd=>⟨hd.1,by obtain⟨_,B,_,e,h⟩:=hd;exact⟨B,e,h⟩⟩).trans fun g8 w8 BH=>?_
 obtain⟨Np,vv,rfl,f8,⟨K,rfl,hK⟩,F8⟩:=BH;have Pm:=Ul.trans f8;have f68:=f7.trans f8;obtain⟨z,ez⟩:∃z,bS K 0 E.length (E.length+64)=z:=⟨_,rfl⟩;have hEz:∀{w':World},bA w8 w'->ei w' z E:=fun f=>by rw[<-ez];exact KT (bP hK f)
 rw[ez]at F8;have F8':FA 3 68 [.inRegion (opsOf (jk 30)) [2],.code (jk 31)] [] .normal [(2,s),(3,bK X),(4,bK Y),(7,bK V),(24,z)] Np:=F8.only rfl;obtain⟨π,oP⟩:∃π:Env,π=bO [(31,m.mul),(32,m.add),(33,m.cJ),(34,m.panics),(21,(jD F m E).1),(22,(jD F m E).2)] [(64,X),(65,Y),(66,V)] [(2,s),(8,ls),(9,os),(10,z),(11,ls'),(12,os'),(26,z)]:=⟨_,rfl⟩;have mI:∀{w':World},bA w6 w'->cq π w' [(eD 66 0,.bF 11),(eD 66 1,.bF 12)]:=fun f=>by rw[oP];exact⟨f.cell (bG hV (i:=0) rfl),f.cell (bG hV (i:=1) rfl),trivial⟩
 have mF:∀{w':World},bA w6 w'->cq π w' [(eD 64 0,.bF 8),(eD 64 1,.bF 9)]:=fun f=>by rw[oP];exact⟨f.cell (bG zC (i:=0) rfl),f.cell (bG zC (i:=1) rfl),trivial⟩
 have mY:∀{w':World},bA w6 w'->cq π w' ug:=fun f=>by rw[oP];exact⟨f.cell (bG hY6 (i:=0) rfl),f.cell (bG hY6 (i:=1) rfl),f.cell (bG hY6 (i:=2) rfl),f.cell (bG hY6 (i:=3) rfl),trivial⟩
 refine(an'.go π F8' (by rw[oP];rfl) trivial (cq.app (mI f68) (mY f68))).trans fun g9 w9 zA=>?_;obtain⟨I,B,E6,rfl,f9,F9,_⟩:=zA;rw[oP]at F9;have f69:=f68.trans f9;have f09:=BW.trans f69;have hin:∀{w':World},bA w6 w'->r_ w' (.agg #[ls',os']) F:=fun f=>KM rfl (aeE.keep f) (aeF.keep f);refine(aoa.go (bO [] [] [(26,.agg #[ls',os']),(27,dx m),(28,z)]) (Q:=fun v w'=>v=.tuple #[iV (jD F m E).1,iV (jD F m E).2]) F9 rfl fun w' f=>Be (hin (f69.trans f)) (hEz (f9.trans f)) SI hlen' htr).trans fun g10 w10 Pg=>?_;obtain⟨R_,vv,rfl,f10,rfl,F10⟩:=Pg;have f6A:=f69.trans f10;have aoq:FA 3 68 US [] .normal [(2,s),(3,bK X),(4,bK Y),(7,bK V),(8,z),(29,.tuple #[iV (jD F m E).1,iV (jD F m E).2])] R_:=F10.only rfl;refine(aob.go π aoq (by rw[oP];rfl) trivial (cq.app (mF f6A) (mY f6A))).trans fun g11 w11 X9=>?_;obtain⟨I,B,als,rfl,f11,F11,_⟩:=X9;rw[oP]at F11;have f6B:=f6A.trans f11;have f0B:=BW.trans f6B;refine(aoc.go (bO [] [] [(33,.agg #[ls,os]),(34,dx m),(35,s)]) (Q:=fun v w'=>v=.tuple #[iV (jD F m E).1,iV (jD F m E).2]) F11 rfl fun w' f=>LI (h'.keep (f0B.trans f)) (hE.keep (f0B.trans f)) SI hlen' htr).trans fun g12 w12 X_=>?_;obtain⟨ad9,vv,rfl,f12,rfl,F12⟩:=X_;have f6C:=f6B.trans f12;have aor:FA 3 68 UT [] .normal [(2,s),(3,bK X),(7,bK V),(8,z),(9,iV (jD F m E).1),(10,iV (jD F m E).2),(36,.tuple #[iV (jD F m E).1,iV (jD F m E).2])] ad9:=F12.only rfl;obtain⟨θ,Ch⟩:∃θ:Env,θ=bO [(21,(jD F m E).1),(22,(jD F m E).2)] [(64,X),(66,V)] [(2,s),(8,ls),(9,os),(10,z),(11,ls'),(12,os')]:=⟨_,rfl⟩;refine(aod.go θ aor (by rw[Ch];rfl) ⟨by rw[Ch];exact decide_eq_true rfl,by rw[Ch];exact decide_eq_true rfl,trivial⟩ ⟨by rw[Ch];exact f6C.cell (bG zC (i:=0) rfl),by rw[Ch];exact f6C.cell (bG zC (i:=1) rfl),by rw[Ch];exact f6C.cell (bG hV (i:=0) rfl),by rw[Ch];exact f6C.cell (bG hV (i:=1) rfl),trivial⟩).trans fun g13 w13 Pu=>?_;obtain⟨I,B,ad_,rfl,f13,Um,_⟩:=Pu;rw[Ch]at Um;have f6D:=f6C.trans f13;have f0D:=BW.trans f6D;refine(aoe.go (bO [] [] [(48,.agg #[ls',os']),(49,.agg #[ls,os])]) (Q:=fun v w'=>v=.bool true) Um rfl fun w' f=>GF (hin (f6D.trans f)) (h'.keep (f0D.trans f)) Qm Zw Zx).trans fun g14 w14 aot=>?_;obtain⟨aou,vv,rfl,f14,rfl,F14⟩:=aot;have f6E:=f6D.trans f14;have aov:FA 3 68 aeC [] .normal [(2,s),(7,bK V),(8,z),(47,.bool true),(50,.bool true)] aou:=F14.only rfl;refine(aof.go θ aov (by rw[Ch];rfl) trivial trivial).trans fun g15 w15 aow=>?_;obtain⟨I,B,avC,rfl,f15,F15,_⟩:=aow;rw[Ch]at F15;have f6F:=f6E.trans f15;have f8F:bA w8 w15:=f9.trans (f10.trans (f11.trans (f12.trans (f13.trans (f14.trans f15)))));refine(aog.go (bO [] [] [(53,z),(54,s)]) (Q:=fun v w'=>v=.bool true) F15 rfl fun w' f=>Gz (hEz (f8F.trans f)) (hE.keep ((BW.trans f6F).trans f)) SI).trans fun g16 w16 aox=>?_;obtain⟨aoy,vv,rfl,f16,rfl,F16⟩:=aox;have f6G:=f6F.trans f16;have aoA:FA 3 68 UU [] .normal [(7,bK V),(8,z),(52,.bool true),(55,.bool true)] aoy:=F16.only rfl;refine(aoh.go θ aoA (by rw[Ch];rfl) trivial ⟨by rw[Ch];exact f6G.cell (bG hV (i:=0) rfl),by rw[Ch];exact f6G.cell (bG hV (i:=1) rfl),trivial⟩).trans fun g17 w17 aoB=>?_;obtain⟨I,B,avE,rfl,f17,F17,_⟩:=aoB;rw[Ch]at F17;have f6H:=f6G.trans f17;refine(aoi.go (bO [] [] [(58,.agg #[ls',os'])]) (Q:=fun v w'=>v=.bool true) F17 rfl fun w' f=>zH (aeE.keep (f6H.trans f)) (aeF.keep (f6H.trans f)) Qm Zw Zx).trans fun g18 w18 aoC=>?_;obtain⟨aoD,vv,rfl,f18,rfl,F18⟩:=aoC;have aoE:FA 3 68 UW [] .normal [(8,z),(57,.bool true),(59,.bool true)] aoD:=F18.only rfl;refine(aoj.go θ aoE (by rw[Ch];rfl) trivial trivial).trans fun g19 w19 aoF=>?_;obtain⟨I,B,avH,rfl,f19,F19,_⟩:=aoF;rw[Ch]at F19;have f8J:bA w8 w19:=f8F.trans (f16.trans (f17.trans (f18.trans f19)));refine(aok.go (bO [] [] [(62,z)]) (Q:=fun v w'=>v=.bool true) F19 rfl fun w' f=>by rw[<-ez];exact zF (bP hK (f8J.trans f)) SI).trans fun g20 w20 aoG=>?_
 obtain⟨aoH,vv,rfl,f20,rfl,F20⟩:=aoG;have aoI:FA 3 68 UX [] .normal [(61,.bool true),(63,.bool true)] aoH:=F20.only rfl;refine(aol.go θ aoI (by rw[Ch];rfl) trivial trivial).trans fun g21 w21 aoJ=>?_;obtain⟨I,B,avJ,rfl,f21,F21,_⟩:=aoJ;rw[Ch]at F21;refine(aom.go (bO [] [] []) (Q:=fun v w'=>v=.bool true) F21 rfl fun w' f=>Bf).trans fun g22 w22 aoK=>?_;obtain⟨aoL,vv,rfl,f22,rfl,F22⟩:=aoK;have aoM:FA 3 68 [.inRegion (opsOf (jk 254)) [28,29],.code .ret] [] .normal [(65,.bool true),(66,.bool true)] aoL:=F22.sub fun x hx=>by
  simp only[ai,aA,or_false]at hx;rcases hx with rfl|rfl
  ·exact cN rfl
  ·exact cN rfl
 exact aon.out UP (bO [] [] []) aoM rfl trivial trivial (Pm.trans (f8J.trans (f20.trans (f21.trans f22)))) fun _ _ _ _=>rfl
end
end Go.Proofs.YtmobbajggkjpgaaGreat
namespace Go.Proofs.YtmobbajggkjpgaaGreat
open Go.ChangeShapes Go.WideShapes Go.ChangeAt Go.RowKit Go.Proofs.YtmobbajggkjpgaaGreat.SX
open _root_.List renaming getElem?_eq_getElem->aa,mem_cons_self->aj,length_map->aD,all_eq_true->aE,getElem?_map->aL,length_range->aP,getElem?_eq_none->aQ
open _root_.Option.some renaming inj->au
theorem kept{W W':World}{may:MemPlace->Prop}(h:bU (fun n=>W.heap.size≤n) W W'):W.keptBut W' may:=by
 refine⟨h.os,h.output,fun i hi=>?_⟩;have e:=h.heap i (Nat.not_le.2 hi);rw[e];split
 ·rename_i e1 e2;cases e1.symm.trans e2;exact⟨rfl,rfl,rfl,fun _ _=>rfl⟩
 ·rename_i e1 e2;cases e1.symm.trans e2;exact .inr ⟨rfl,rfl⟩
 ·rfl
theorem Tryz.uX:Tryz.prog.cellsOf 2=1:=by kernel_rfl
theorem Tryz.Cd:Tryz.prog.cellsOf 3=1:=by kernel_rfl
theorem Tryz.Zy:Tryz.prog.cellsOf 9=1:=by kernel_rfl
theorem Tryz.SJ:Tryz.prog.cellsOf 22=1:=by kernel_rfl
theorem Tryz.SK:Tryz.prog.cellsOf 23=1:=by kernel_rfl
theorem Tryz.SL:Tryz.prog.cellsOf 25=2:=by kernel_rfl
theorem Tryz.SM:Tryz.prog.cellsOf 27=4:=by kernel_rfl
theorem Tryz.Jx:Tryz.prog.cellsOf 41=1:=by kernel_rfl
theorem Tryz.Jy:Tryz.prog.cellsOf 43=2:=by kernel_rfl
theorem Tryz.SN:Tryz.prog.cellsOf 48=1:=by kernel_rfl
theorem Tryz.Jz:Tryz.prog.cellsOf 50=3:=by kernel_rfl
theorem Tryz.wM:Tryz.prog.cellsOf 77=4:=by kernel_rfl
theorem Tryz.SO:Tryz.prog.bytesOf 50=48:=by kernel_rfl
theorem Tryz.Zz:Tryz.prog.bytesOf 3=8:=by kernel_rfl
theorem Tryz.SP:Tryz.prog.cellTypes Tryz.prog.depth 25=some [22,23]:=by kernel_rfl
section
variable {H:Type}{enc:TypeId×Value->H}{W:World}
theorem two{l:List Value}(h:l.length=2):∃a b,l=[a,b]:=by
 match l,h with
 |[a,b],_=>exact⟨a,b,rfl⟩
theorem three{l:List Value}(h:l.length=3):∃a b c,l=[a,b,c]:=by
 match l,h with
 |[a,b,c],_=>exact⟨a,b,c,rfl⟩
theorem four{l:List Value}(h:l.length=4):∃a b c d,l=[a,b,c,d]:=by
 match l,h with
 |[a,b,c,d],_=>exact⟨a,b,c,d,rfl⟩
theorem y8{l r:List Nat}{n:Nat}(h:∀x∈l++r,x≤n):(∀x∈l,x≤n)∧∀x∈r,x≤n:=
 ⟨fun x hx=>h x (List.mem_append_left _ hx),fun x hx=>h x (List.mem_append_right _ hx)⟩
theorem LJ{n:Nat}{cs:List Value}{x:DataW H×List MemPlace}(h:DataW.trod enc Tryz.prog W 0 (fun _=>true) true n 77 cs=some x):
  ∃r:Nd,cs=[cY r.op,iV r.n,iV r.kids,iV r.cj]:=by
 obtain⟨xs,k,_,_,hl,hlen,hf⟩:=DataW.trod_struct Tryz.underlying77 h;rw[Tryz.wM]at hl;obtain⟨a,b,c,d,rfl⟩:=four hl;have hl4:xs.length=4:=hlen;have g0:DataW.trod enc Tryz.prog W 0 (fun _=>true) true k 41 [a]=some (xs[0]'(by omega)):=by have:=hf 0 _ rfl;rw[aa (by omega)]at this;simpa[Tryz.Jx] using this
 have g1:DataW.trod enc Tryz.prog W 0 (fun _=>true) true k 2 [b]=some (xs[1]'(by omega)):=by have:=hf 1 _ rfl;rw[aa (by omega)]at this;simpa[Tryz.uX] using this
 have g2:DataW.trod enc Tryz.prog W 0 (fun _=>true) true k 3 [c]=some (xs[2]'(by omega)):=by have:=hf 2 _ rfl;rw[aa (by omega)]at this;simpa[Tryz.Cd] using this
 have g3:DataW.trod enc Tryz.prog W 0 (fun _=>true) true k 3 [d]=some (xs[3]'(by omega)):=by have:=hf 3 _ rfl;rw[aa (by omega)]at this;simpa[Tryz.Cd] using this
 obtain⟨n0,e0,_⟩:=DataW.trod_int Tryz.underlying41 g0;obtain⟨n1,e1,_⟩:=DataW.trod_int Tryz.underlying2 g1;obtain⟨n2,e2,_⟩:=DataW.trod_int Tryz.underlying3 g2;obtain⟨n3,e3,_⟩:=DataW.trod_int Tryz.underlying3 g3;cases e0;cases e1;cases e2;cases e3;exact⟨⟨n0,n1,n2,n3⟩,rfl⟩
instance:Inhabited Nd:=⟨⟨0,0,0,0⟩⟩
theorem Hj{n:Nat}{v:Value}{x:DataW H×List MemPlace}(h:DataW.trod enc Tryz.prog W 0 (fun _=>true) true n 48 [v]=some x):∃l:List Nd,iu W v l:=by
 rcases Go.Deep.open_slice Tryz.underlying48 h with⟨hc,hx⟩|⟨a,len,cap,m,k,D,Pl,hc,_,hl,hm,KF,hx,hel⟩
 ·cases hc;exact⟨[],⟨.inl ⟨.inl ⟨rfl,rfl⟩⟩⟩⟩
 ·cases hc;cases hx;simp only[if_true]at KF;subst KF;by_cases h0:len=0
  ·subst h0;exact⟨[],⟨.inr ⟨rfl,some a,m,rfl⟩⟩⟩
  ·have hsp:a.spot=none:=by
    obtain⟨cs',h1,_⟩:=hel 0 (by omega);obtain⟨_,_,h3⟩:=World.cells?_some h1;have h4:=h3 0 (by rw[Tryz.wM];decide);obtain⟨_,hlen,_⟩:=World.cells?_some h1;rw[aa (by rw[hlen,Tryz.wM];decide)]at h4;simpa[Addr.add] using World.cell?_spot h4
   obtain⟨b,o,spot⟩:=a;dsimp only at hsp;subst hsp;obtain⟨R,hR⟩:=Go.Deep.choose_lt (n:=len) (p:=fun i (r:Nd)=>iI W b (o+i*4) r) fun i hi=>by
    obtain⟨cs',h1,h2⟩:=hel i (by omega);obtain⟨r,rfl⟩:=LJ h2;obtain⟨_,_,h3⟩:=World.cells?_some h1;rw[Tryz.wM]at h3;have cj:∀j v,j<4->[cY r.op,iV r.n,iV r.kids,iV r.cj][j]?=some v->W.cell? ⟨b,o+i*4+j,none⟩=some v:=fun j v hj hv=>by have h4:=(h3 j hj).trans hv;rwa[add_plain,add_plain]at h4
    exact⟨r,cj 0 _ (by decide) rfl,cj 1 _ (by decide) rfl,cj 2 _ (by decide) rfl,cj 3 _ (by decide) rfl⟩
   refine⟨(List.range len).map R,⟨.inl ⟨.inr ⟨b,o,m,?_,?_,fun k r hr=>?_⟩⟩⟩⟩
   ·rw[aD,aP];rfl
   ·rw[aD,aP];exact hl
   ·rw[aL]at hr;by_cases hk:k<len
    ·rw[List.getElem?_range hk]at hr;cases hr;exact hR k hk
    ·rw[aQ (by rw[aP];omega)]at hr;cases hr
theorem Qn{n:Nat}{cs:List Value}{x:DataW H×List MemPlace}(h:DataW.trod enc Tryz.prog W 0 (fun _=>true) true n 50 cs=some x):
  ∃(r:cx) (ts:Value),cs=[.string r.name,ts,iV r.cj]∧iu W ts r.tree:=by
 obtain⟨xs,k,_,_,hl,hlen,hf⟩:=DataW.trod_struct Tryz.underlying50 h;rw[Tryz.Jz]at hl;obtain⟨a,b,c,rfl⟩:=three hl;have hl4:xs.length=3:=hlen;have g0:DataW.trod enc Tryz.prog W 0 (fun _=>true) true k 9 [a]=some (xs[0]'(by omega)):=by have:=hf 0 _ rfl;rw[aa (by omega)]at this;simpa[Tryz.Zy] using this
 have g1:DataW.trod enc Tryz.prog W 0 (fun _=>true) true k 48 [b]=some (xs[1]'(by omega)):=by have:=hf 1 _ rfl;rw[aa (by omega)]at this;simpa[Tryz.SN] using this
 have g2:DataW.trod enc Tryz.prog W 0 (fun _=>true) true k 3 [c]=some (xs[2]'(by omega)):=by have:=hf 2 _ rfl;rw[aa (by omega)]at this;simpa[Tryz.Cd] using this
 obtain⟨s,e0,_⟩:=DataW.trod_string Tryz.underlying9 g0;obtain⟨l,hN⟩:=Hj g1;obtain⟨n2,e2,_⟩:=DataW.trod_int Tryz.underlying3 g2;cases e0;cases e2;exact⟨⟨s,l,n2⟩,b,rfl,hN⟩
instance:Inhabited cx:=⟨⟨⟨#[]⟩,[],0⟩⟩
theorem LK{n:Nat}{v:Value}{d:DataW H}{ps:List MemPlace}(h:DataW.trod enc Tryz.prog W 0 (fun _=>true) true n 22 [v]=some (d,ps))(hw:∀x∈d.weights Tryz.prog 22,x≤reachBytes)(hv:∀a len cap,v=.slice (some a) len cap->a.spot=none):
  ∃L:List cx,nN W v L∧L.length*48≤reachBytes:=by
 rcases Go.Deep.open_slice Tryz.underlying22 h with⟨hc,hx⟩|⟨a,len,cap,m,k,D,Pl,hc,_,hl,hm,KF,hx,hel⟩
 ·cases hc;exact⟨[],⟨true,0,0,0,rfl,fun _=>rfl,(fun h=>by cases h),fun k r hr=>by cases hr⟩,by simp⟩
 ·cases hc;cases hx;simp only[if_true]at KF;subst KF;obtain⟨b,o,spot⟩:=a;obtain rfl:spot=none:=hv _ _ _ rfl;have hw1:=hw ((((List.range len).map D).length+((List.range (m-len)).map fun j=>D (len+j)).length)*Tryz.prog.bytesOf 50) (by
   rw[DataW.weights,Tryz.underlying22];exact aj)
  obtain⟨R,hR⟩:=Go.Deep.choose_lt (n:=len) (p:=fun i (r:cx)=>og W b (o+i*3) r) fun i hi=>by
   obtain⟨cs',h1,h2⟩:=hel i (by omega);obtain⟨r,ts,rfl,hN⟩:=Qn h2;obtain⟨_,_,h3⟩:=World.cells?_some h1;rw[Tryz.Jz]at h3;have cj:∀j v,j<3->[.string r.name,ts,iV r.cj][j]?=some v->W.cell? ⟨b,o+i*3+j,none⟩=some v:=fun j v hj hv=>by have h4:=(h3 j hj).trans hv;rwa[add_plain,add_plain]at h4
   exact⟨r,ts,cj 0 _ (by decide) rfl,cj 1 _ (by decide) rfl,cj 2 _ (by decide) rfl,hN⟩
  refine⟨(List.range len).map R,⟨false,b,o,m,?_,(fun e=>by cases e),fun _=>?_,fun k r hr=>?_⟩,?_⟩
  ·rw[aD,aP];rfl
  ·rw[aD,aP];exact hl
  ·rw[aL]at hr;by_cases hk:k<len
   ·rw[List.getElem?_range hk]at hr;cases hr;exact hR k hk
   ·rw[aQ (by rw[aP];omega)]at hr;cases hr
  ·rw[aD,aP]at*;rw[Tryz.SO]at hw1;omega
theorem LL{n:Nat}{v:Value}{d:DataW H}{ps:List MemPlace}(h:DataW.trod enc Tryz.prog W 0 (fun _=>true) true n 23 [v]=some (d,ps))(hw:∀x∈d.weights Tryz.prog 23,x≤reachBytes)(hv:∀a len cap,v=.slice (some a) len cap->a.spot=none):
  ∃l:List Int,jq W v l∧l.length*8≤reachBytes:=by
 rcases Go.Deep.open_slice1 Tryz.underlying23 Tryz.Cd h with⟨hc,hx⟩|⟨a,len,cap,m,k,V,D,Pl,hc,_,hl,hm,KF,hx,hel⟩
 ·cases hc;exact⟨[],⟨true,0,0,0,rfl,fun _=>rfl,(fun h=>by cases h),fun k r hr=>by cases hr⟩,by simp⟩
 ·cases hc;cases hx;simp only[if_true]at KF;subst KF;obtain⟨b,o,spot⟩:=a;obtain rfl:spot=none:=hv _ _ _ rfl;have hw1:=hw ((((List.range len).map D).length+((List.range (m-len)).map fun j=>D (len+j)).length)*Tryz.prog.bytesOf 3) (by
   rw[DataW.weights,Tryz.underlying23];exact aj)
  obtain⟨R,hR⟩:=Go.Deep.choose_lt (n:=len) (p:=fun i (n:Int)=>W.cell? ⟨b,o+i,none⟩=some (iV n)) fun i hi=>by obtain⟨h1,h2⟩:=hel i (by omega);obtain⟨n,e,_,hw⟩:=DataW.trod_int Tryz.underlying3 h2;rw[add_plain,(List.cons.inj e).1]at h1;exact⟨n,h1⟩
  refine⟨(List.range len).map R,⟨false,b,o,m,?_,(fun e=>by cases e),fun _=>?_,fun k r hr=>?_⟩,?_⟩
  ·rw[aD,aP];rfl
  ·rw[aD,aP];exact hl
  ·rw[aL]at hr;by_cases hk:k<len
   ·rw[List.getElem?_range hk]at hr;cases hr;exact hR k hk
   ·rw[aQ (by rw[aP];omega)]at hr;cases hr
  ·rw[aD,aP]at*;rw[Tryz.Zz]at hw1;omega
theorem LM{v:Value}{d:DataW H}{ps:List MemPlace}{base:Nat}(h:DataW.Trod enc Tryz.prog W 0 (fun _=>true) true 25 v d ps)(hok:Value.okWide Tryz.prog W .any base 25 v)(hw:∀x∈d.weights Tryz.prog 25,x≤reachBytes):
  ∃F:iG,mK W v F∧F.lets.length+F.outs.length≤100000000000000:=by
 obtain⟨fuel,hf⟩:=h;obtain⟨cs,rfl,hsz,hrow⟩:∃cs,v=.agg cs∧cs.size=Tryz.prog.cellsOf 25∧Row.okWide Tryz.prog W .any base 25 cs:=by unfold Value.okWide at hok;simp only[Tryz.underlying25]at hok;exact hok
 have hf':DataW.trod enc Tryz.prog W 0 (fun _=>true) true fuel 25 cs.toList=some (d,ps):=hf;obtain⟨xs,n,_,hx,hl,hlen,ZA⟩:=DataW.trod_struct Tryz.underlying25 hf';rw[Tryz.SL]at hl;obtain⟨a,b,hcs⟩:=two hl;obtain rfl:cs=#[a,b]:=by rw[<-Array.toList_inj];exact hcs
 cases hx
 match xs,hlen with
 |[x0,x1],_=>
  have g0:DataW.trod enc Tryz.prog W 0 (fun _=>true) true n 22 [a]=some x0:=by have:=ZA 0 _ rfl;simpa[Tryz.SJ] using this
  have g1:DataW.trod enc Tryz.prog W 0 (fun _=>true) true n 23 [b]=some x1:=by have:=ZA 1 _ rfl;simpa[Tryz.SK] using this
  have hw':∀x∈x0.1.weights Tryz.prog 22++(x1.1.weights Tryz.prog 23++[]),x≤reachBytes:=fun x hx=>hw x (by rw[DataW.weights,Tryz.underlying25];exact hx)
  obtain⟨w0,w1⟩:=y8 hw';obtain⟨w1,_⟩:=y8 w1;have spot:∀i v u,#[a,b][i]?=some v->[22,23][i % 2]?=some u->(∃z,Tryz.prog.underlying u=some (.slice z))->∀a' len cap,v=.slice (some a') len cap->a'.spot=none:=fun i v u hi hu ⟨z,hz⟩ a' len cap hv=>by
   obtain⟨ts,h1,_,h3⟩:=hrow;obtain rfl:=au (Tryz.SP.symm.trans h1);obtain⟨u',hu',hok⟩:=h3 i v hi;have:u'=u:=by have h1:[22,23][i % 2]?=some u':=hu';rw[h1]at hu;exact au hu
   subst this hv;simp only[Cell.okWide,Cell.ok,hz]at hok;exact hok.2.2.2.1
  obtain⟨L,hL,hL1⟩:=LK (d:=x0.1) (ps:=x0.2) g0 w0 (spot 0 a 22 rfl rfl ⟨_,Tryz.underlying22⟩);obtain⟨O,hO,hO1⟩:=LL (d:=x1.1) (ps:=x1.2) g1 w1 (spot 1 b 23 rfl rfl ⟨_,Tryz.underlying23⟩);refine⟨⟨L,O⟩,⟨a,b,rfl,hL,hO⟩,?_⟩;have:reachBytes=140737488351232:=rfl;show L.length+O.length≤_;omega
theorem Hl{v:Value}{d:DataW H}{ps:List MemPlace}{base:Nat}(h:DataW.Trod enc Tryz.prog W 0 (fun _=>true) true 27 v d ps)(hok:Value.okWide Tryz.prog W .any base 27 v):∃m:cV,v=dx m:=by
 obtain⟨fuel,hf⟩:=h;obtain⟨cs,rfl,hsz,hrow⟩:∃cs,v=.agg cs∧cs.size=Tryz.prog.cellsOf 27∧Row.okWide Tryz.prog W .any base 27 cs:=by unfold Value.okWide at hok;simp only[Tryz.underlying27]at hok;exact hok
 have hf':DataW.trod enc Tryz.prog W 0 (fun _=>true) true fuel 27 cs.toList=some (d,ps):=hf;obtain⟨xs,n,_,hx,hl,hlen,ZA⟩:=DataW.trod_struct Tryz.underlying27 hf';rw[Tryz.SM]at hl;obtain⟨a,b,c,e,hcs⟩:=four hl;obtain rfl:cs=#[a,b,c,e]:=by rw[<-Array.toList_inj];exact hcs
 have hl4:xs.length=4:=hlen;have g:∀(i:Nat) (hi:i<4) (z:Value),[a,b,c,e][i]?=some z->∃n:Int,z=iV n:=fun i hi z hz=>by
  have JQ:DataW.trod enc Tryz.prog W 0 (fun _=>true) true n 2 [z]=some (xs[i]'(by omega)):=by
   rcases(by omega:i=0∨i=1∨i=2∨i=3)with rfl|rfl|rfl|rfl
   all_goals
    first
     |have:=ZA 0 _ rfl;rw[aa (by omega)]at this;cases hz;simpa[Tryz.uX] using this;done
     |have:=ZA 1 _ rfl;rw[aa (by omega)]at this;cases hz;simpa[Tryz.uX] using this;done
     |have:=ZA 2 _ rfl;rw[aa (by omega)]at this;cases hz;simpa[Tryz.uX] using this;done
     |have:=ZA 3 _ rfl;rw[aa (by omega)]at this;cases hz;simpa[Tryz.uX] using this;done
  obtain⟨n0,e0,_⟩:=DataW.trod_int Tryz.underlying2 JQ;cases e0;exact⟨n0,rfl⟩
 obtain⟨n0,rfl⟩:=g 0 (by decide) a rfl;obtain⟨n1,rfl⟩:=g 1 (by decide) b rfl;obtain⟨n2,rfl⟩:=g 2 (by decide) c rfl;obtain⟨n3,rfl⟩:=g 3 (by decide) e rfl;exact⟨⟨n0,n1,n2,n3⟩,rfl⟩
theorem LN{n:Nat}{cs:List Value}{x:DataW H×List MemPlace}(h:DataW.trod enc Tryz.prog W 0 (fun _=>true) true n 43 cs=some x):∃e:Int×Int,cs=[cY e.1,iV e.2]:=by
 obtain⟨xs,k,_,_,hl,hlen,hf⟩:=DataW.trod_struct Tryz.underlying43 h;rw[Tryz.Jy]at hl;obtain⟨a,b,rfl⟩:=two hl;have ZG:xs.length=2:=hlen;have g0:DataW.trod enc Tryz.prog W 0 (fun _=>true) true k 41 [a]=some (xs[0]'(by omega)):=by have:=hf 0 _ rfl;rw[aa (by omega)]at this;simpa[Tryz.Jx] using this
 have g1:DataW.trod enc Tryz.prog W 0 (fun _=>true) true k 2 [b]=some (xs[1]'(by omega)):=by have:=hf 1 _ rfl;rw[aa (by omega)]at this;simpa[Tryz.uX] using this
 obtain⟨n0,e0,_⟩:=DataW.trod_int Tryz.underlying41 g0;obtain⟨n1,e1,_⟩:=DataW.trod_int Tryz.underlying2 g1;cases e0;cases e1;exact⟨(n0,n1),rfl⟩
theorem LP{v:Value}{d:DataW H}{ps:List MemPlace}{base:Nat}(h:DataW.Trod enc Tryz.prog W 0 (fun _=>true) true 28 v d ps)(hok:Value.okWide Tryz.prog W .any base 28 v):∃E:List (Int×Int),ei W v E:=by
 have OU:Cell.okWide Tryz.prog W .any base 28 v:=by unfold Value.okWide at hok;simp only[Tryz.underlying28]at hok;exact hok
 have hv:∀a len cap,v=.slice (some a) len cap->a.spot=none:=fun a len cap e=>by subst e;simp only[Cell.okWide,Cell.ok,Tryz.underlying28]at OU;exact OU.2.2.2.1
 obtain⟨fuel,hf⟩:=h;have hcells:v.cells.toList=[v]:=by
  cases v with
  |agg cs=>simp only[Cell.okWide,Cell.ok,Tryz.underlying28]at OU
  |_=>rfl
 have hf':DataW.trod enc Tryz.prog W 0 (fun _=>true) true fuel 28 [v]=some (d,ps):=by rw[<-hcells];exact hf
 rcases Go.Deep.open_slice Tryz.underlying28 hf' with⟨hc,hx⟩|⟨a,len,cap,m,k,D,Pl,hc,_,hl,hm,KF,hx,hel⟩
 ·cases hc;exact⟨[],⟨true,0,0,0,rfl,fun _=>rfl,(fun h=>by cases h),fun k r hr=>by cases hr⟩⟩
 ·cases hc;cases hx;simp only[if_true]at KF;subst KF;obtain⟨b,o,spot⟩:=a;obtain rfl:spot=none:=hv _ _ _ rfl;obtain⟨R,hR⟩:=Go.Deep.choose_lt (n:=len) (p:=fun i (e:Int×Int)=>W.cell? ⟨b,o+i*2,none⟩=some (cY e.1)∧W.cell? ⟨b,o+i*2+1,none⟩=some (iV e.2)) fun i hi=>by
   obtain⟨cs',h1,h2⟩:=hel i (by omega);obtain⟨r,rfl⟩:=LN h2;obtain⟨_,_,h3⟩:=World.cells?_some h1;rw[Tryz.Jy]at h3;have cj:∀j v,j<2->[cY r.1,iV r.2][j]?=some v->W.cell? ⟨b,o+i*2+j,none⟩=some v:=fun j v hj hv=>by have h4:=(h3 j hj).trans hv;rwa[add_plain,add_plain]at h4
   exact⟨r,cj 0 _ (by decide) rfl,cj 1 _ (by decide) rfl⟩
  refine⟨(List.range len).map R,⟨false,b,o,m,?_,(fun e=>by cases e),fun _=>?_,fun k r hr=>?_⟩⟩
  ·rw[aD,aP];rfl
  ·rw[aD,aP];exact hl
  ·rw[aL]at hr;by_cases hk:k<len
   ·rw[List.getElem?_range hk]at hr;cases hr;exact hR k hk
   ·rw[aQ (by rw[aP];omega)]at hr;cases hr
end
theorem laidOut:laidOutB Tryz.prog=true:=by kernel_rfl
theorem uY(os:Os)(started:os.Started)(H:Type)(enc:TypeId×Value->H):
  ReturnsInHanded {} Tryz.checked os 3 .any (Rows.graphFitsSpec.pre6 enc Tryz.prog Tryz.f3 Rows.graphFitsRow.domain false) (Rows.graphFitsSpec.post enc Tryz.prog Tryz.f3 false true false false):=by
 refine returnsInHanded_of_change_sized (C:=Tryz.checked) Tryz.own started (by kernel_rfl) Tryz.func3
  (ChangeSpec.witness6 (enc:=enc) (C:=Tryz.checked) false ⟨#[],#[.agg #[.slice none 0 0,.slice none 0 0],.agg #[.int .i64 0,.int .i64 0,.int .i64 0,.int .i64 0],.slice none 0 0],[]⟩ 8 (by kernel_rfl) (by kernel_rfl) (by kernel_rfl) (by kernel_rfl)) ?_
 intro W base args ds gs before aeH hW _ Cg _;have hval:∀(j:Nat) t v,Tryz.f3.params[j]?=some t->args[j]?=some v->Value.okWide Tryz.prog W .any base t v:=aeH;have hW':=hW;obtain⟨p,q,hA0,hV,rfl,_,_⟩:=hW;have hA:DataW.TrodAll enc Tryz.prog W 0 (fun _=>true) true Tryz.f3.params.toList args.toList ds p:=hA0;rw[Tryz.params3]at hA hval;obtain⟨v0,v1,v2,d0,d1,d2,p0,p1,p2,rfl,rfl,rfl,h0,h1,h2⟩:=trodAll_three hA;obtain⟨rfl,rfl⟩:=trodVars_none hV;have aoN:∀x∈d0.weights Tryz.prog 25,x≤reachBytes:=fun x hx=>by
  have h1:=aE.1 Cg x (by show x∈DataW.weightsEach Tryz.prog (Tryz.f3.params.toList++_) _;rw[Tryz.params3];exact List.mem_append_left _ hx)
  exact of_decide_eq_true h1
 obtain⟨F,hF,hlen⟩:=LM h0 (hval 0 25 v0 rfl rfl) aoN;obtain⟨m,rfl⟩:=Hl h1 (hval 1 27 v1 rfl rfl);obtain⟨E,hE⟩:=LP h2 (hval 2 28 v2 rfl rfl);have hC:Calls Tryz.prog 3 #[v0,dx m,v2] W fun e W'=>∃v,e=.returned v∧bA W W'∧v=.bool true:=E3 hF hE hlen;refine hC.mono fun e' W' ⟨v,he,hw,hv⟩=>?_;subst he;subst hv;have hlt:∀x∈(p0++p1++p2)++[],x.block<W.heap.size:=fun x hx=>hW'.lt x (by simpa using hx);have stay:∀(x:MemPlace),x.block<W.heap.size->(match x with|.cell b o=>W'.cell? ⟨b,o,none⟩=W.cell? ⟨b,o,none⟩|.map b=>W'.heap[b]?=W.heap[b]?):=fun x hb=>by
  have e:=hw.heap _ (Nat.not_le.2 hb);cases x with
  |cell b o=>show W'.cell? _=W.cell? _;simp only[World.cell?];rw[show W'.heap[b]?=W.heap[b]? from e]
  |map b=>exact e
 have t0:=WideElems.Trod_stays (sp':=fun b=>decide (b<W.heap.size)) laidOut (by kernel_rfl) (of_decide_eq_true (by kernel_rfl)) h0 (W':=W') (fun x hx=>stay x (hlt x (by simp[hx]))) (fun x hx=>decide_eq_true (hlt x (by simp[hx])));have t1:=WideElems.Trod_stays (sp':=fun b=>decide (b<W.heap.size)) laidOut (by kernel_rfl) (of_decide_eq_true (by kernel_rfl)) h1 (W':=W') (fun x hx=>stay x (hlt x (by simp[hx]))) (fun x hx=>decide_eq_true (hlt x (by simp[hx])));have t2:=WideElems.Trod_stays (sp':=fun b=>decide (b<W.heap.size)) laidOut (by kernel_rfl) (of_decide_eq_true (by kernel_rfl)) h2 (W':=W') (fun x hx=>stay x (hlt x (by simp[hx]))) (fun x hx=>decide_eq_true (hlt x (by simp[hx])));exact⟨_,rfl,_,_,_,[],_,[],hW',trodAll_mk1 (shut_bool Tryz.underlying4 true),trodAll_mk3 t0 t1 t2,rfl,kept hw,fun h=>by cases h⟩
theorem graphFits_holds:Rows.GraphFitsSaid:=
 OpenClaim.holds_of_wide 3 Tryz.f3 rfl rfl rfl rfl rfl rfl rfl ⟨rfl,rfl,rfl,rfl,rfl⟩ rfl rfl rfl rfl rfl (by kernel_rfl) Tryz.func3 (by kernel_rfl)
  (of_decide_eq_true (by kernel_rfl)) (by unfold Func.isWrapper;first|(rw[if_pos (by decide+kernel)];kernel_rfl)|(rw[if_neg (by decide+kernel)];exact⟨rfl,rfl⟩))
  (fun os started H enc _=>uY os started H enc)
end Go.Proofs.YtmobbajggkjpgaaGreat

/-
  A symbolic run of the model, proved sound, and the walk of the code: a text of its parts. Conditions: none.
-/
import Derived.Test.YtmobbajggkjpgaaGreatLD
set_option linter.unusedSectionVars false
set_option maxRecDepth 100000
set_option linter.unusedVariables false
set_option linter.unusedSimpArgs false
namespace Go.Proofs.YtmobbajggkjpgaaGreat
open Go.Proofs.YtmobbajggkjpgaaGreat.SX Go.Conc
open _root_.List renaming mem_cons_of_mem->aa,getElem?_eq_getElem->af,mem_singleton->ah,mem_cons_self->ai,mem_cons->aj,length_append->ak,getElem?_eq_some_iff->aq,mem_of_getElem?->ay,not_mem_nil->az,length_cons->aC,length_map->aE,drop_eq_getElem_cons->aJ,getElem?_map->aL,length->aP,append_nil->aQ,mem_append->aR,drop_of_length_le->aS,drop_eq_nil_iff->aU,append_assoc->aY,length_nil->aZ,getD_eq_getElem?_getD->bg,length_pos_iff->bp,length_drop->br,eq_nil_of_length_eq_zero->bw
open _root_.Bool renaming false_eq_true->aF
open _root_.Option.some renaming inj->au
open _root_.Option renaming map_some->av,map_none->aI
open _root_.Nat renaming le_refl->ax,le_trans->aA,zero_add->aG
noncomputable def j0(l:Nat):Code:=pc (bD Tryz.f67) (pd l)
theorem K_:bP Tryz.prog 67 [.bC 0,.bC 1] .normal=.ok ⟨67,135,c8 67 [.bC 0,.bC 1],[.code (bD Tryz.f67)],[],.run,.normal⟩:=by kernel_rfl
theorem Gh:sP 67 135 4 5:=fun st=>by kernel_rfl
theorem gr0:Pc 67 135 [.code (bD Tryz.f67)] [(0,cj)] [] [] [] 18 [] [4,5] [.code .ret,.code (j0 7)] [yB,cj] []:={}
theorem gr1:Pc 67 135 [.code (bD Tryz.f67)] [(0,sA 50 53 51 52)] [((.cmp .eql (.tn (v 51)) (.lit 0)),true)] [] [] 18 [] [4,5] [.code .ret,.code (j0 7)] [yB,cj] []:={}
abbrev qs:List (BE×Bool):=[((.cmp .eql (.tn (v 51)) (.lit 0)),false),((.cmp .lss (.lit 0) (.tn (v 51))),true)]
theorem acp:Pc 67 135 [.code (bD Tryz.f67)] [(0,sA 50 53 51 52),(1,.bC 1)] qs [(⟨(.dyn 50),(v 53)⟩,i8 (.lit 1)),(⟨(.dyn 50),(.plus (.tn (v 53)) (.lit 1))⟩,i64 (v 2)),(⟨(.dyn 50),(.plus (.tn (v 53)) (.lit 2))⟩,i64 (v 3)),(⟨(.dyn 50),(.plus (.tn (v 53)) (.lit 3))⟩,i64 (v 4))] [] 46 [100] [0,1,6,7,8,9] [.code (j0 63)] [sA 50 53 51 52,.bC 1,bz 100,i64 (.lit 0),i64 (.lit 0),FB] [(100,.cells [i8 (.lit 1),i64 (v 2),i64 (v 3),i64 (v 4)] 77)]:={}
theorem acr:Pc 67 135 [.code (bD Tryz.f67)] [(0,sA 50 53 51 52),(1,.bC 1)] qs [(⟨(.dyn 50),(v 53)⟩,i8 (.lit 2)),(⟨(.dyn 50),(.plus (.tn (v 53)) (.lit 1))⟩,i64 (v 2)),(⟨(.dyn 50),(.plus (.tn (v 53)) (.lit 2))⟩,i64 (v 3)),(⟨(.dyn 50),(.plus (.tn (v 53)) (.lit 3))⟩,i64 (v 4))] [] 49 [100] [0,1,6,7,8,9] [.code (j0 63)] [sA 50 53 51 52,.bC 1,bz 100,i64 (.lit 0),i64 (.lit 0),FB] [(100,.cells [i8 (.lit 2),i64 (v 2),i64 (v 3),i64 (v 4)] 77)]:={}
theorem acs:Pc 67 135 [.code (bD Tryz.f67)] [(0,sA 50 53 51 52),(1,.bC 1)] qs [(⟨(.dyn 50),(v 53)⟩,i8 (.lit 3)),(⟨(.dyn 50),(.plus (.tn (v 53)) (.lit 1))⟩,i64 (v 2)),(⟨(.dyn 50),(.plus (.tn (v 53)) (.lit 2))⟩,i64 (v 3)),(⟨(.dyn 50),(.plus (.tn (v 53)) (.lit 3))⟩,i64 (v 4))] [] 61 [100] [0,1,6,7,8,9] [.code (j0 63)] [sA 50 53 51 52,.bC 1,bz 100,i64 (.lit 1),i64 (.lit 1),FB] [(100,.cells [i8 (.lit 3),i64 (v 2),i64 (v 3),i64 (v 4)] 77)]:={}
theorem WZ:Pc 67 135 [.code (bD Tryz.f67)] [(0,sA 50 53 51 52),(1,.bC 1)] qs [(⟨(.dyn 50),(v 53)⟩,i8 (.lit 13)),(⟨(.dyn 50),(.plus (.tn (v 53)) (.lit 1))⟩,i64 (v 2)),(⟨(.dyn 50),(.plus (.tn (v 53)) (.lit 2))⟩,i64 (v 3)),(⟨(.dyn 50),(.plus (.tn (v 53)) (.lit 3))⟩,i64 (v 4))] [] 67 [100] [0,1,6,7,8,9] [.code (j0 63)] [sA 50 53 51 52,.bC 1,bz 100,i64 (.lit 1),i64 (.lit 1),FB] [(100,.cells [i8 (.lit 13),i64 (v 2),i64 (v 3),i64 (v 4)] 77)]:={}
theorem W1:Pc 67 135 [.code (bD Tryz.f67)] [(0,sA 50 53 51 52),(1,.bC 1)] qs [(⟨(.dyn 50),(v 53)⟩,i8 (.lit 14)),(⟨(.dyn 50),(.plus (.tn (v 53)) (.lit 1))⟩,i64 (v 2)),(⟨(.dyn 50),(.plus (.tn (v 53)) (.lit 2))⟩,i64 (v 3)),(⟨(.dyn 50),(.plus (.tn (v 53)) (.lit 3))⟩,i64 (v 4))] [] 73 [100] [0,1,6,7,8,9] [.code (j0 63)] [sA 50 53 51 52,.bC 1,bz 100,i64 (.lit 1),i64 (.lit 1),FB] [(100,.cells [i8 (.lit 14),i64 (v 2),i64 (v 3),i64 (v 4)] 77)]:={}
theorem W3:Pc 67 135 [.code (bD Tryz.f67)] [(0,sA 50 53 51 52),(1,.bC 1)] qs [(⟨(.dyn 50),(v 53)⟩,i8 (.lit 15)),(⟨(.dyn 50),(.plus (.tn (v 53)) (.lit 1))⟩,i64 (v 2)),(⟨(.dyn 50),(.plus (.tn (v 53)) (.lit 2))⟩,i64 (v 3)),(⟨(.dyn 50),(.plus (.tn (v 53)) (.lit 3))⟩,i64 (v 4))] [] 79 [100] [0,1,6,7,8,9] [.code (j0 63)] [sA 50 53 51 52,.bC 1,bz 100,i64 (.lit 1),i64 (.lit 1),FB] [(100,.cells [i8 (.lit 15),i64 (v 2),i64 (v 3),i64 (v 4)] 77)]:={}
theorem W4:Pc 67 135 [.code (bD Tryz.f67)] [(0,sA 50 53 51 52),(1,.bC 1)] qs [(⟨(.dyn 50),(v 53)⟩,i8 (.lit 16)),(⟨(.dyn 50),(.plus (.tn (v 53)) (.lit 1))⟩,i64 (v 2)),(⟨(.dyn 50),(.plus (.tn (v 53)) (.lit 2))⟩,i64 (v 3)),(⟨(.dyn 50),(.plus (.tn (v 53)) (.lit 3))⟩,i64 (v 4))] [] 82 [100] [0,1,6,7,8,9] [.code (j0 63)] [sA 50 53 51 52,.bC 1,bz 100,i64 (.lit 1),i64 (.lit 1),FB] [(100,.cells [i8 (.lit 16),i64 (v 2),i64 (v 3),i64 (v 4)] 77)]:={}
theorem W5:Pc 67 135 [.code (bD Tryz.f67)] [(0,sA 50 53 51 52),(1,.bC 1)] qs [(⟨(.dyn 50),(v 53)⟩,i8 (.lit 18)),(⟨(.dyn 50),(.plus (.tn (v 53)) (.lit 1))⟩,i64 (v 2)),(⟨(.dyn 50),(.plus (.tn (v 53)) (.lit 2))⟩,i64 (v 3)),(⟨(.dyn 50),(.plus (.tn (v 53)) (.lit 3))⟩,i64 (v 4))] [] 89 [100] [0,1,6,7,8,9] [.code (j0 63)] [sA 50 53 51 52,.bC 1,bz 100,i64 (.lit 1),i64 (.lit 1),TB] [(100,.cells [i8 (.lit 18),i64 (v 2),i64 (v 3),i64 (v 4)] 77)]:={}
theorem acu:Pc 67 135 [.code (bD Tryz.f67)] [(0,sA 50 53 51 52),(1,.bC 1)] qs [(⟨(.dyn 50),(v 53)⟩,i8 (.lit 4)),(⟨(.dyn 50),(.plus (.tn (v 53)) (.lit 1))⟩,i64 (v 2)),(⟨(.dyn 50),(.plus (.tn (v 53)) (.lit 2))⟩,i64 (v 3)),(⟨(.dyn 50),(.plus (.tn (v 53)) (.lit 3))⟩,i64 (v 4))] [] 97 [100] [0,1,6,7,8,9] [.code (j0 63)] [sA 50 53 51 52,.bC 1,bz 100,i64 (.lit 2),i64 (.lit 2),FB] [(100,.cells [i8 (.lit 4),i64 (v 2),i64 (v 3),i64 (v 4)] 77)]:={}
theorem acv:Pc 67 135 [.code (bD Tryz.f67)] [(0,sA 50 53 51 52),(1,.bC 1)] qs [(⟨(.dyn 50),(v 53)⟩,i8 (.lit 5)),(⟨(.dyn 50),(.plus (.tn (v 53)) (.lit 1))⟩,i64 (v 2)),(⟨(.dyn 50),(.plus (.tn (v 53)) (.lit 2))⟩,i64 (v 3)),(⟨(.dyn 50),(.plus (.tn (v 53)) (.lit 3))⟩,i64 (v 4))] [] 103 [100] [0,1,6,7,8,9] [.code (j0 63)] [sA 50 53 51 52,.bC 1,bz 100,i64 (.lit 2),i64 (.lit 2),FB] [(100,.cells [i8 (.lit 5),i64 (v 2),i64 (v 3),i64 (v 4)] 77)]:={}
theorem acw:Pc 67 135 [.code (bD Tryz.f67)] [(0,sA 50 53 51 52),(1,.bC 1)] qs [(⟨(.dyn 50),(v 53)⟩,i8 (.lit 6)),(⟨(.dyn 50),(.plus (.tn (v 53)) (.lit 1))⟩,i64 (v 2)),(⟨(.dyn 50),(.plus (.tn (v 53)) (.lit 2))⟩,i64 (v 3)),(⟨(.dyn 50),(.plus (.tn (v 53)) (.lit 3))⟩,i64 (v 4))] [] 106 [100] [0,1,6,7,8,9] [.code (j0 63)] [sA 50 53 51 52,.bC 1,bz 100,i64 (.lit 2),i64 (.lit 2),FB] [(100,.cells [i8 (.lit 6),i64 (v 2),i64 (v 3),i64 (v 4)] 77)]:={}
theorem W6:Pc 67 135 [.code (bD Tryz.f67)] [(0,sA 50 53 51 52),(1,.bC 1)] qs [(⟨(.dyn 50),(v 53)⟩,i8 (.lit 12)),(⟨(.dyn 50),(.plus (.tn (v 53)) (.lit 1))⟩,i64 (v 2)),(⟨(.dyn 50),(.plus (.tn (v 53)) (.lit 2))⟩,i64 (v 3)),(⟨(.dyn 50),(.plus (.tn (v 53)) (.lit 3))⟩,i64 (v 4))] [] 112 [100] [0,1,6,7,8,9] [.code (j0 63)] [sA 50 53 51 52,.bC 1,bz 100,i64 (.lit 3),i64 (.lit 3),FB] [(100,.cells [i8 (.lit 12),i64 (v 2),i64 (v 3),i64 (v 4)] 77)]:={}
theorem W7:Pc 67 135 [.code (bD Tryz.f67)] [(0,sA 50 53 51 52),(1,.bC 1)] qs [(⟨(.dyn 50),(v 53)⟩,i8 (.lit 10)),(⟨(.dyn 50),(.plus (.tn (v 53)) (.lit 1))⟩,i64 (v 2)),(⟨(.dyn 50),(.plus (.tn (v 53)) (.lit 2))⟩,i64 (v 3)),(⟨(.dyn 50),(.plus (.tn (v 53)) (.lit 3))⟩,i64 (v 4))] [] 124 [100] [0,1,6,7,8,9] [.code (j0 63)] [sA 50 53 51 52,.bC 1,bz 100,i64 (.lit 1),i64 (.tn (v 51)),TB] [(100,.cells [i8 (.lit 10),i64 (v 2),i64 (v 3),i64 (v 4)] 77)]:={}
theorem W8:Pc 67 135 [.code (bD Tryz.f67)] [(0,sA 50 53 51 52),(1,.bC 1)] qs [(⟨(.dyn 50),(v 53)⟩,i8 (.lit 11)),(⟨(.dyn 50),(.plus (.tn (v 53)) (.lit 1))⟩,i64 (v 2)),(⟨(.dyn 50),(.plus (.tn (v 53)) (.lit 2))⟩,i64 (v 3)),(⟨(.dyn 50),(.plus (.tn (v 53)) (.lit 3))⟩,i64 (v 4))] [] 130 [100] [0,1,6,7,8,9] [.code (j0 63)] [sA 50 53 51 52,.bC 1,bz 100,i64 (.lit 1),i64 (.tn (v 51)),TB] [(100,.cells [i8 (.lit 11),i64 (v 2),i64 (v 3),i64 (v 4)] 77)]:={}
theorem W9:Pc 67 135 [.code (bD Tryz.f67)] [(0,sA 50 53 51 52),(1,.bC 1)] qs [(⟨(.dyn 50),(v 53)⟩,i8 (.lit 17)),(⟨(.dyn 50),(.plus (.tn (v 53)) (.lit 1))⟩,i64 (v 2)),(⟨(.dyn 50),(.plus (.tn (v 53)) (.lit 2))⟩,i64 (v 3)),(⟨(.dyn 50),(.plus (.tn (v 53)) (.lit 3))⟩,i64 (v 4))] [] 133 [100] [0,1,6,7,8,9] [.code (j0 63)] [sA 50 53 51 52,.bC 1,bz 100,i64 (.lit 1),i64 (.tn (v 51)),TB] [(100,.cells [i8 (.lit 17),i64 (v 2),i64 (v 3),i64 (v 4)] 77)]:={}
theorem acy:Pc 67 135 [.code (bD Tryz.f67)] [(0,sA 50 53 51 52),(1,.bC 1)] [((.cmp .eql (.tn (v 51)) (.lit 0)),false),((.cmp .lss (.lit 0) (.tn (v 51))),true),((.cmp .eql (v 1) (.lit 1)),false),((.cmp .eql (v 1) (.lit 2)),false),((.cmp .eql (v 1) (.lit 3)),false),((.cmp .eql (v 1) (.lit 13)),false),((.cmp .eql (v 1) (.lit 14)),false),((.cmp .eql (v 1) (.lit 15)),false),((.cmp .eql (v 1) (.lit 16)),false),((.cmp .eql (v 1) (.lit 18)),false),((.cmp .eql (v 1) (.lit 4)),false),((.cmp .eql (v 1) (.lit 5)),false),((.cmp .eql (v 1) (.lit 6)),false),((.cmp .eql (v 1) (.lit 12)),false),((.cmp .eql (v 1) (.lit 10)),false),((.cmp .eql (v 1) (.lit 11)),false),((.cmp .eql (v 1) (.lit 17)),false)] [(⟨(.dyn 50),(v 53)⟩,i8 (v 1)),(⟨(.dyn 50),(.plus (.tn (v 53)) (.lit 1))⟩,i64 (v 2)),(⟨(.dyn 50),(.plus (.tn (v 53)) (.lit 2))⟩,i64 (v 3)),(⟨(.dyn 50),(.plus (.tn (v 53)) (.lit 3))⟩,i64 (v 4))] [] 130 [100] [4,5] [.code .ret,.inBlock 0,.code (j0 63)] [yB,cj] [(100,.cells [i8 (v 1),i64 (v 2),i64 (v 3),i64 (v 4)] 77)]:={}
noncomputable abbrev yC:List (AA×AV):=[(eD 64 0,i8 (v 1)),(eD 64 1,i64 (v 2)),(eD 64 2,i64 (v 3)),(eD 64 3,i64 (v 4))]
theorem grB(a b c d:Bool):Pc 67 135 [.code (j0 63)] [(0,sA 50 53 51 52),(1,.bC 1),(6,bz 64),(7,i64 (v 5)),(8,i64 (v 6)),(9,.bC 9)] [((.cmp .eql (v 2) (.lit 0)),a),((.cmp .eql (v 1) (.lit 2)),b),((.cmp .eql (v 1) (.lit 1)),c),((.cmp .gtr (v 2) (.lit 0)),d)] yC [] 22 [] [0,1,6,7,8,9,10] [.code (j0 127)] [sA 50 53 51 52,.bC 1,bz 64,i64 (v 5),i64 (v 6),.bC 9,.bool (.lit (a||b||c&&d))] []:=⟨fun st=>by cases a<;>cases b<;>cases c<;>cases d<;>kernel_rfl,fun st=>by kernel_rfl,by cases a<;>cases b<;>cases c<;>cases d<;>kernel_rfl,of_decide_eq_true (by kernel_rfl)⟩
noncomputable abbrev Gi:List Item:=[.code (j0 509),.code (j0 255)]
theorem grG(h z e f g i j:Bool):Pc 67 135 [.code (j0 127)] [(0,sA 50 53 51 52),(1,.bool (.lit h)),(6,bz 64),(7,i64 (v 5)),(8,i64 (v 6)),(9,.bC 9),(10,.bool (.lit z))] [((.cmp .lss (v 3) (v 5)),e),((.cmp .gtr (v 3) (v 6)),f),((.cmp .lss (v 4) (.lit 0)),g),((.cmp .eql (v 1) (.lit 17)),i),((.cmp .eql (v 1) (.lit 18)),j)] yC [] 37 [] [0,1,6,9,94] Gi [sA 50 53 51 52,.bool (.lit h),bz 64,.bC 9,.bool (.lit (e||f||g||!z||!h&&(i||j)))] []:=⟨fun st=>by cases h<;>cases z<;>cases e<;>cases f<;>cases g<;>cases i<;>cases j<;>kernel_rfl,fun st=>by cases h<;>cases z<;>kernel_rfl,by cases e<;>cases f<;>cases g<;>cases i<;>cases j<;>kernel_rfl,of_decide_eq_true (by kernel_rfl)⟩
theorem grX:Pc 67 135 Gi [(94,TB)] [] [] [] 6 [] [4,5] [.code .ret,.code (j0 255)] [yB,cj] []:={}
theorem grY:Pc 67 135 Gi [(0,sA 50 53 51 52),(6,bz 64),(9,.bC 9),(94,FB)] [] yC [] 12 [100] [0,6,9,11,98] [.inRegion (opsOf (j0 1022)) [1,2],.code (j0 1023)] [sA 50 53 51 52,bz 64,.bC 9,bz 100,sA 50 53 51 52] [(100,.cells [i8 (v 1),i64 (v 2),i64 (v 3),i64 (v 4),.str ⟨#[]⟩,cj] 129)]:={}
theorem grZ:jO 135 (opsOf (j0 1022)) 1 [] (.slice 48 (.tmp 98) (some (.const (.int .i64 1))) none none) 48 (some 99):={}
noncomputable abbrev uH:List Item:=[.code (j0 16372),.inLoop (j0 16372),.inBlock 1,.code (j0 2047)]
theorem grH:Pc 67 135 [.inRegion (opsOf (j0 1022)) [2],.code (j0 1023)] [(6,bz 64),(9,.bC 9),(11,bz 63),(99,.bC 8)] [] [(eD 64 2,i64 (v 3))] [] 11 [] [0,9,11,101,102] uH [.bC 8,.bC 9,bz 63,i64 (v 3),i64 (.lit 0)] []:={}
theorem grL:Pc 67 135 uH [(0,.bC 8),(9,.bC 9),(11,bz 63),(101,i64 (v 3)),(102,i64 (v 7))] [((.cmp .lss (v 7) (v 3)),true)] [] [] 17 [] [0,9,11,101,102,105] [.inRegion (opsOf (j0 2095716)) [1,2,3,4,5,6],.code (j0 2095717),.code (j0 1047859),.inBlock 2,.code (j0 130983),.inLoop (j0 16372),.inBlock 1,.code (j0 2047)] [.bC 8,.bC 9,bz 63,i64 (v 3),i64 (v 7),.bC 8] []:={}
theorem grM:di 135 (opsOf (j0 2095716)) 1 [(105,.bC 105)] 67 [.bC 105,FB] 106:={}
noncomputable abbrev RH:List Item:=[.inRegion (opsOf (j0 2095716)) [2,3,4,5,6],.code (j0 2095717),.code (j0 1047859),.inBlock 2,.code (j0 130983),.inLoop (j0 16372),.inBlock 1,.code (j0 2047)]
noncomputable abbrev RI:List Item:=[.code .ret,.code (j0 1047859),.inBlock 2,.code (j0 130983),.inLoop (j0 16372),.inBlock 1,.code (j0 2047)]
theorem Oe:Pc 67 135 RH [(9,TB),(11,bz 63),(101,i64 (v 3)),(102,i64 (v 7)),(106,.tuple [yB,.bC 8])] [] [] [] 28 [] [4,5] RI [yB,cj] []:={}
theorem La:Pc 67 135 RH [(9,FB),(11,bz 63),(101,i64 (v 3)),(102,i64 (v 7)),(106,.tuple [yB,.bC 8])] [] [] [] 28 [] [4,5] RI [yB,cj] []:={}
theorem grO:Pc 67 135 RH [(9,TB),(11,bz 63),(101,i64 (v 3)),(102,i64 (v 7)),(106,.tuple [bz 62,.bC 8])] [((.cmp .neq (v 1) (.lit 2)),true)] [(eD 62 0,i8 (v 1))] [] 28 [] [4,5] RI [yB,cj] []:={}
theorem acz:Pc 67 135 RH [(9,TB),(11,bz 63),(101,i64 (v 3)),(102,i64 (v 7)),(106,.tuple [bz 62,.bC 8])] [((.cmp .neq (v 1) (.lit 2)),false)] [(eD 62 0,i8 (v 1))] [(63,.cells [i8 (v 21),i64 (v 22),i64 (v 3),i64 (v 24),.str ⟨#[]⟩,cj] 129)] 43 [101,63] [0,9,11,101,102] uH [.bC 8,TB,bz 63,i64 (v 3),i64 (.op .add .i64 (v 7) (.lit 1))] [(101,.row [bz 62] 105 (v 101)),(63,.cells [i8 (v 21),i64 (v 22),i64 (v 3),i64 (v 24),.str ⟨#[]⟩,.slice (some (eD 101 0)) (.lit 1) (v 101)] 129)]:={}
theorem acA:Pc 67 135 RH [(9,FB),(11,bz 63),(101,i64 (v 3)),(102,i64 (v 7)),(106,.tuple [bz 62,.bC 8])] [] [] [(63,.cells [i8 (v 21),i64 (v 22),i64 (v 3),i64 (v 24),.str ⟨#[]⟩,cj] 129)] 43 [101,63] [0,9,11,101,102] uH [.bC 8,FB,bz 63,i64 (v 3),i64 (.op .add .i64 (v 7) (.lit 1))] [(101,.row [bz 62] 105 (v 101)),(63,.cells [i8 (v 21),i64 (v 22),i64 (v 3),i64 (v 24),.str ⟨#[]⟩,.slice (some (eD 101 0)) (.lit 1) (v 101)] 129)]:={}
theorem acB:Pc 67 135 RH [(9,TB),(11,bz 63),(101,i64 (v 3)),(102,i64 (v 7)),(106,.tuple [bz 62,.bC 8])] [((.cmp .leq (.plus (.tn (v 8)) (.lit 1)) (.lit 1048576)),true),((.cmp .neq (v 1) (.lit 2)),false)] [(eD 62 0,i8 (v 1))] [(52,.pre false 65 (v 8) [] [] [] 105 (v 57)),(63,.cells [i8 (v 21),i64 (v 22),i64 (v 3),i64 (v 24),.str ⟨#[]⟩,.slice (some (eD 52 0)) (v 8) (v 57)] 129)] 43 [101,63] [0,9,11,101,102] uH [.bC 8,TB,bz 63,i64 (v 3),i64 (.op .add .i64 (v 7) (.lit 1))] [(101,.pre false 65 (v 8) [] [] [bz 62] 105 (v 101)),(63,.cells [i8 (v 21),i64 (v 22),i64 (v 3),i64 (v 24),.str ⟨#[]⟩,.slice (some (eD 101 0)) (.plus (.tn (v 8)) (.lit 1)) (v 101)] 129)]:={}
abbrev Lb:List (BE×Bool):=[((.cmp .leq (.plus (.tn (v 8)) (.lit 1)) (.lit 1048576)),true)]
theorem acC:Pc 67 135 RH [(9,FB),(11,bz 63),(101,i64 (v 3)),(102,i64 (v 7)),(106,.tuple [bz 62,.bC 8])] Lb [] [(52,.pre false 65 (v 8) [] [] [] 105 (v 57)),(63,.cells [i8 (v 21),i64 (v 22),i64 (v 3),i64 (v 24),.str ⟨#[]⟩,.slice (some (eD 52 0)) (v 8) (v 57)] 129)] 43 [101,63] [0,9,11,101,102] uH [.bC 8,FB,bz 63,i64 (v 3),i64 (.op .add .i64 (v 7) (.lit 1))] [(101,.pre false 65 (v 8) [] [] [bz 62] 105 (v 101)),(63,.cells [i8 (v 21),i64 (v 22),i64 (v 3),i64 (v 24),.str ⟨#[]⟩,.slice (some (eD 101 0)) (.plus (.tn (v 8)) (.lit 1)) (v 101)] 129)]:={}
theorem grE:Pc 67 135 uH [(0,.bC 8),(9,.bC 9),(11,bz 63),(101,i64 (v 3)),(102,i64 (v 7))] [((.cmp .lss (v 7) (v 3)),false)] [] [] 14 [] [4,5] [.code .ret] [bz 63,.bC 8] []:={}
structure jF(w:World)(A o:Nat)(n:Nd):Prop where
 c0:w.cell? ⟨A,o,none⟩=some (cY n.op)
 c1:w.cell? ⟨A,o+1,none⟩=some (iV n.n)
 c2:w.cell? ⟨A,o+2,none⟩=some (iV n.kids)
 c3:w.cell? ⟨A,o+3,none⟩=some (iV n.bY)
structure cP(w:World)(s:Value)(l:List Nd):Prop where
 ex:(s=eS∧l=[])∨∃A o c,s=bU A o l.length c∧l.length≤c∧∀i n,l[i]?=some n->jF w A (o+i*4) n
theorem jF.keep{w w':World}{A o:Nat}{n:Nd}(h:jF w A o n)(f:bA w w'):jF w' A o n:=⟨f.cell h.c0,f.cell h.c1,f.cell h.c2,f.cell h.c3⟩
theorem cP.keep{w w':World}{s:Value}{l:List Nd}(h:cP w s l)(f:bA w w'):cP w' s l:=by
 rcases h.ex with h|⟨A,o,c,h1,h2,h3⟩
 ·exact⟨.inl h⟩
 ·exact⟨.inr ⟨A,o,c,h1,h2,fun i n hi=>(h3 i n hi).keep f⟩⟩
def jz(op:Int)(len:Nat):Option (Int×Int×Bool):=
 if op=1∨op=2 then some (0,0,false)
 else if op=3∨op=13∨op=14∨op=15∨op=16 then some (1,1,false)
 else if op=18 then some (1,1,true)
 else if op=4∨op=5∨op=6 then some (2,2,false)
 else if op=12 then some (3,3,false)
 else if op=10∨op=11∨op=17 then some (1,len,true)
 else none
def pN(n:Nd)(root:Bool)(lo hi:Int):Bool:=
 decide (n.kids<lo)||decide (n.kids>hi)||decide (n.bY<0)||!(decide (n.n=0)||decide (n.op=2)||decide (n.op=1)&&decide (n.n>0))||!root&&(decide (n.op=17)||decide (n.op=18))
def fH(g:List Nd->Option (T×List Nd))(names:Bool):Nat->List Nd->Option (List T×List Nd)
 |0,l=>some ([],l)
 |k+1,l=>match g l with
  |none=>none
  |some (t,r)=>if names&&decide (t.n.op≠2)then none else match fH g names k r with
   |none=>none
   |some (ts,r')=>some (t::ts,r')
def dQ:Nat->List Nd->Bool->Option (T×List Nd)
 |0,_,_=>none
 |_+1,[],_=>none
 |f+1,n::l,root=>match jz n.op (l.length+1)with
  |none=>none
  |some (lo,hi,names)=>if pN n root lo hi then none else match fH (fun r=>dQ f r false) names n.kids.toNat l with
   |none=>none
   |some (ts,r)=>some (.nd n ts,r)
theorem sV{g:List Nd->Option (T×List Nd)}{names:Bool}(hg:∀l t r,g l=some (t,r)->r.length≤l.length):∀(k:Nat) (l:List Nd) (ts:List T) (r:List Nd),fH g names k l=some (ts,r)->r.length≤l.length
 |0,l,ts,r,h=>by cases h;exact ax _
 |k+1,l,ts,r,h=>by
  unfold fH at h;split at h
  ·cases h
  ·rename_i t r' e;split at h
   ·cases h
   ·split at h
    ·cases h
    ·rename_i ts' r'' e2;cases h;exact aA (sV hg k _ _ _ e2) (hg _ _ _ e)
theorem xj:∀(f:Nat) (l:List Nd) (root:Bool) (t:T) (r:List Nd),dQ f l root=some (t,r)->r.length≤l.length
 |0,l,root,t,r,h=>by cases h
 |f+1,[],root,t,r,h=>by cases h
 |f+1,n::l,root,t,r,h=>by
  unfold dQ at h;split at h
  ·cases h
  ·split at h
   ·cases h
   ·split at h
    ·cases h
    ·rename_i ts r' e;cases h;have:=sV (fun l t r h=>xj f l false t r h) _ _ _ _ e;simp only[aC];omega
theorem W_:under? Tryz.prog 48=.ok (.slice 77):=by kernel_rfl
theorem Xa:sizeOf? Tryz.prog 77=.ok 4:=by kernel_rfl
theorem Of{t elem size:Nat}(hU:under? Tryz.prog t=.ok (.slice elem))(hS:sizeOf? Tryz.prog elem=.ok size){off n c k:Nat}(h:k≤n)(hn:n≤c):sliceOp? Tryz.prog t (.slice (some ⟨.dyn 50,.lit (Int.ofNat off)⟩) (.lit (Int.ofNat n)) (.lit (Int.ofNat c))) (some (.int .i64 (.lit (Int.ofNat k)))) none none=.ok (.slice (if c=k then some ⟨.dyn 50,.lit (Int.ofNat off)⟩else some ⟨.dyn 50,.lit (Int.ofNat (off+k*size))⟩) (.lit (Int.ofNat (n-k))) (.lit (Int.ofNat (c-k)))):=by unfold sliceOp?;rw[hU];simp only[bind,Except.bind,litNat?,bounds?,bound?,high?,hS,pure,Except.pure];simp[h,hn,AA.add,yd]
section
variable {w:World}{cs:List Frame}{fr:Frame}
theorem Gj{E:Value->World->Prop}{t elem size:Nat}(hU:under? Tryz.prog t=.ok (.slice elem))(hS:sizeOf? Tryz.prog elem=.ok size){A off n c k:Nat}(h:k≤n)(hn:n≤c){Q:Value->World->Prop}(hq:∀o',(n=k∨o'=off+k*size)->Q (bU A o' (n-k) (c-k)) w):
  wq Tryz.prog (fun _=>True) E (Instr.sliceAt t (bU A off n c) (some (iV k)) none none) Q w:=by
 let K:Ctx:=⟨Tryz.prog,{},fun _=>True,fun _=>True,True,fun _ _=>False⟩;let ρ:Env:=bL [] [(50,A)] [];refine kr (K:=K) (ρ:=ρ) (w:=w) (Of (off:=off) (k:=k) hU hS h hn) (Q:=Q) ?_;by_cases hc:c=k
 ·rw[if_pos hc];exact hq off (.inl (by omega))
 ·rw[if_neg hc];exact hq (off+k*size) (.inr rfl)
end
abbrev Xb:AV:=sA 50 53 51 52
noncomputable abbrev Xc(op:AV):List (AA×AV):=[(⟨(.dyn 50),(v 53)⟩,op),(⟨(.dyn 50),(.plus (.tn (v 53)) (.lit 1))⟩,i64 (v 2)),(⟨(.dyn 50),(.plus (.tn (v 53)) (.lit 2))⟩,i64 (v 3)),(⟨(.dyn 50),(.plus (.tn (v 53)) (.lit 3))⟩,i64 (v 4))]
noncomputable abbrev Og(op:AV):List (AA×AV):=[(eD 64 0,op),(eD 64 1,i64 (v 2)),(eD 64 2,i64 (v 3)),(eD 64 3,i64 (v 4))]
abbrev acD:List (BE×Bool):=qs
def oL:Value:=.tuple #[.pointer none,eS]
section
variable {w:World}{cs:List Frame}{fr:Frame}{nd:Nd}{A o N c:Nat}{root:Bool}
noncomputable def Iv(nd:Nd)(A o N c:Nat)(root:Bool):Env:=bL [(51,N),(52,c),(53,o),(1,nd.op),(2,nd.n),(3,nd.kids),(4,nd.bY)] [(50,A)] [(1,.bool root)]
def P0(nd:Nd)(A o N c:Nat)(root:Bool)(w:World)(cs:List Frame)(r:Option (Int×Int×Bool))(g':Goroutine)(w':World):Prop:=match r with
 |none=>∃fr',g'=G fr' cs∧bA w w'∧cV 67 fr' w' oL
 |some (lo,hi,nm)=>∃fr' X,g'=G fr' cs∧bA w w'∧jF w' X 0 nd∧FA 67 135 [.code (j0 63)] [] .normal [(0,bU A o N c),(1,.bool root),(6,bI X),(7,iV lo),(8,iV hi),(9,.bool nm)] fr'
theorem jG{n:Nat}{ks:List Nat}{lo hi:IE}{nm:Bool}{k LO HI:Int}(P:Pc 67 135 [.code (bD Tryz.f67)] [(0,Xb),(1,.bC 1)] acD (Xc (i8 (.lit k))) [] n ks [0,1,6,7,8,9] [.code (j0 63)] [Xb,.bC 1,bz 100,i64 lo,i64 hi,.bool (.lit nm)] [(100,.cells [i8 (.lit k),i64 (v 2),i64 (v 3),i64 (v 4)] 77)])
 (hk:nd.op=k)(hN:0<N)(h:jF w A o nd)(hlo:∀I B,lo.ev (cQ (Iv nd A o N c root) I B)=LO)(hhi:∀I B,hi.ev (cQ (Iv nd A o N c root) I B)=HI)(hf:FA 67 135 [.code (bD Tryz.f67)] [] .normal [(0,bU A o N c),(1,.bool root)] fr){r:Option (Int×Int×Bool)}(hr:r=some (LO,HI,nm)):
  Goes (G fr cs) w (P0 nd A o N c root w cs r):=by
 subst hr hk;refine(P.go (Iv nd A o N c root) hf rfl ⟨decide_eq_false (by show ¬(((N:Nat):Int)=0);omega),decide_eq_true (by show(0:Int)<((N:Nat):Int);omega),trivial⟩ ⟨h.c0,h.c1,h.c2,h.c3,trivial⟩).mono fun g1 w1 hd=>?_;obtain⟨I,B,bT,rfl,f1,F1,bl,_⟩:=hd;have hX:=bl.1.2;refine⟨bT,B 100,rfl,f1,⟨bE hX (i:=0) rfl,bE hX (i:=1) rfl,bE hX (i:=2) rfl,bE hX (i:=3) rfl⟩,?_⟩;rw[<-hlo I B,<-hhi I B];exact F1
theorem Xd(hN:0<N)(h:jF w A o nd)(hf:FA 67 135 [.code (bD Tryz.f67)] [] .normal [(0,bU A o N c),(1,.bool root)] fr):Goes (G fr cs) w (P0 nd A o N c root w cs (jz nd.op N)):=by
 have no:∀{n:Int},nd.op≠n->(decide (nd.op=n))=false:=fun h=>decide_eq_false h;have L0:∀{x:Int} (I:Nat->Int) (B:Nat->Nat),(IE.lit x).ev (cQ (Iv nd A o N c root) I B)=x:=fun _ _=>rfl;have L1:∀(I:Nat->Int) (B:Nat->Nat),(IE.tn (v 51)).ev (cQ (Iv nd A o N c root) I B)=(N:Int):=fun _ _=>rfl;by_cases e1:nd.op=1
 ·exact jG acp e1 hN h L0 L0 hf (by rw[e1];rfl)
 by_cases e2:nd.op=2
 ·exact jG acr e2 hN h L0 L0 hf (by rw[e2];rfl)
 by_cases e3:nd.op=3
 ·exact jG acs e3 hN h L0 L0 hf (by rw[e3];rfl)
 by_cases Aq:nd.op=13
 ·exact jG WZ Aq hN h L0 L0 hf (by rw[Aq];rfl)
 by_cases Lc:nd.op=14
 ·exact jG W1 Lc hN h L0 L0 hf (by rw[Lc];rfl)
 by_cases Ld:nd.op=15
 ·exact jG W3 Ld hN h L0 L0 hf (by rw[Ld];rfl)
 by_cases Xe:nd.op=16
 ·exact jG W4 Xe hN h L0 L0 hf (by rw[Xe];rfl)
 by_cases e18:nd.op=18
 ·exact jG W5 e18 hN h L0 L0 hf (by rw[e18];rfl)
 by_cases e4:nd.op=4
 ·exact jG acu e4 hN h L0 L0 hf (by rw[e4];rfl)
 by_cases e5:nd.op=5
 ·exact jG acv e5 hN h L0 L0 hf (by rw[e5];rfl)
 by_cases e6:nd.op=6
 ·exact jG acw e6 hN h L0 L0 hf (by rw[e6];rfl)
 by_cases Ar:nd.op=12
 ·exact jG W6 Ar hN h L0 L0 hf (by rw[Ar];rfl)
 by_cases pO:nd.op=10
 ·exact jG W7 pO hN h L0 L1 hf (by rw[pO];rfl)
 by_cases yD:nd.op=11
 ·exact jG W8 yD hN h L0 L1 hf (by rw[yD];rfl)
 by_cases e17:nd.op=17
 ·exact jG W9 e17 hN h L0 L1 hf (by rw[e17];rfl)
 have er:jz nd.op N=none:=by simp[jz, *]
 rw[er];refine(acy.go (Iv nd A o N c root) hf rfl ⟨decide_eq_false (by show ¬(((N:Nat):Int)=0);omega),decide_eq_true (by show(0:Int)<((N:Nat):Int);omega),no e1,no e2,no e3,no Aq,no Lc,no Ld,no Xe,no e18,no e4,no e5,no e6,no Ar,no pO,no yD,no e17,trivial⟩ ⟨h.c0,h.c1,h.c2,h.c3,trivial⟩).trans fun g1 w1 hd=>?_;obtain⟨I,B,bT,rfl,f1,F1,_⟩:=hd;refine(iN Gh F1 rfl rfl).mono fun g6 w6 dj=>?_;obtain⟨dJ,rfl,rfl,hL⟩:=dj;exact⟨dJ,rfl,f1,hL⟩
noncomputable abbrev Xf:List Item:=uH
theorem RJ{X:Nat}{lo hi:Int}{nm:Bool}(hN:0<N)(hNc:N≤c)(hX:jF w X 0 nd)(hf:FA 67 135 [.code (j0 63)] [] .normal [(0,bU A o N c),(1,.bool root),(6,bI X),(7,iV lo),(8,iV hi),(9,.bool nm)] fr):
  Goes (G fr cs) w fun g' w'=>(pN nd root lo hi=true∧∃fr',g'=G fr' cs∧bA w w'∧cV 67 fr' w' oL)∨(pN nd root lo hi=false∧∃fr' P o',g'=G fr' cs∧bA w w'∧w.heap.size≤P∧(cu.obj 129 [cY nd.op,iV nd.n,iV nd.kids,iV nd.bY,.string ⟨#[]⟩,eS]).at Tryz.prog w' P∧(N=1∨o'=o+4)∧FA 67 135 Xf [] .normal [(0,bU A o' (N-1) (c-1)),(9,.bool nm),(11,bI P),(101,iV nd.kids),(102,iV 0)] fr'):=by
 obtain⟨ρ,hρ⟩:∃ρ:Env,ρ=bL [(51,N),(52,c),(53,o),(1,nd.op),(2,nd.n),(3,nd.kids),(4,nd.bY),(5,lo),(6,hi)] [(50,A),(64,X)] [(1,.bool root),(9,.bool nm)]:=⟨_,rfl⟩;have hm:∀{w':World},bA w w'->cw ρ w' (Og (i8 (v 1))):=fun f=>by rw[hρ];exact⟨f.cell hX.c0,f.cell hX.c1,f.cell hX.c2,f.cell hX.c3,trivial⟩
 refine((grB (decide (nd.n=0)) (decide (nd.op=2)) (decide (nd.op=1)) (decide (nd.n>0))).go ρ hf (by rw[hρ];rfl) ⟨by rw[hρ];rfl,by rw[hρ];rfl,by rw[hρ];rfl,by rw[hρ];rfl,trivial⟩ (hm (bA.refl w))).trans fun g1 w1 hd=>?_;obtain⟨I,B,bT,rfl,f1,F1,_⟩:=hd;rw[hρ]at F1;refine((grG root (decide (nd.n=0)||decide (nd.op=2)||decide (nd.op=1)&&decide (nd.n>0)) (decide (nd.kids<lo)) (decide (nd.kids>hi)) (decide (nd.bY<0)) (decide (nd.op=17)) (decide (nd.op=18))).go ρ F1 (by rw[hρ];rfl) ⟨by rw[hρ];rfl,by rw[hρ];rfl,by rw[hρ];rfl,by rw[hρ];rfl,by rw[hρ];rfl,trivial⟩ (hm f1)).trans fun g2 w2 bX=>?_;obtain⟨I,B,cB,rfl,f2,F2,_⟩:=bX;rw[hρ]at F2;have lg:FA 67 135 Gi [] .normal [(0,bU A o N c),(1,.bool root),(6,bI X),(9,.bool nm),(94,.bool (pN nd root lo hi))] cB:=F2;cases hb:pN nd root lo hi with
 |true=>rw[hb]at lg;refine(grX.go ρ lg (by rw[hρ];rfl) trivial trivial).trans fun g3 w3 cn=>?_;obtain⟨I,B,cC,rfl,f3,F3,_⟩:=cn;refine(iN Gh F3 rfl rfl).mono fun g6 w6 dj=>?_;obtain⟨dJ,rfl,rfl,hL⟩:=dj;exact .inl ⟨rfl,dJ,rfl,f1.trans (f2.trans f3),hL⟩
 |false=>
  rw[hb]at lg;have f12:=f1.trans f2;refine(grY.go ρ lg (by rw[hρ];rfl) trivial (hm f12)).trans fun g3 w3 cn=>?_;obtain⟨I,B,cC,rfl,f3,F3,bl,_⟩:=cn;rw[hρ]at F3 bl;refine(grZ.go (R:=fun x w'=>(∃o',(N=1∨o'=o+4)∧x=bU A o' (N-1) (c-1))∧w'=w3) (bL [] [] []) F3 (by decide) rfl fun tm ie x' e1 e2=>?_).trans fun g4 w4 c9=>?_
  ·unfold execOp;simp only[e1,bF,av,aI];rw[ie 98 (bU A o N c) rfl];exact Gj W_ Xa (k:=1) hN hNc fun o' ho'=>⟨_,rfl,⟨o',ho',rfl⟩,rfl⟩
  obtain⟨eg,x,rfl,⟨⟨o',ho',rfl⟩,rfl⟩,F4⟩:=c9;have gP:w.heap.size≤B 100:=aA f12.size bl.1.1;have hP:(cu.obj 129 [cY nd.op,iV nd.n,iV nd.kids,iV nd.bY,.string ⟨#[]⟩,eS]).at Tryz.prog w4 (B 100):=bl.1.2;refine(grH.go (bL [(3,nd.kids)] [(63,B 100),(64,X)] [(9,.bool nm),(8,bU A o' (N-1) (c-1))]) F4 rfl trivial ⟨(f12.trans f3).cell hX.c2,trivial⟩).mono fun g5 w5 d_=>?_;obtain⟨I,B',gh,rfl,f5,F5,_⟩:=d_;exact .inr ⟨rfl,gh,B 100,o',rfl,f12.trans (f3.trans f5),gP,bM hP f5,ho',F5⟩
end
theorem Le(inf:TypeInfo)(hi:Tryz.prog.info? 105=some inf):inf.size=1:=by
 have e2:(Tryz.prog.info? 105).map (fun x=>x.size)=some 1:=by kernel_rfl
 rw[hi]at e2;exact au e2
theorem lO{a o n c a' o' n' c':Nat}(h:bU a o n c=bU a' o' n' c'):a=a':=congrArg (fun v=>match v with|.slice (some x) _ _=>x.block|_=>0) h
def uc(w:World)(base P:Nat)(sl:Value)(ps:List Nat):Prop:=(sl=eS∧ps=[])∨∃Bk c,sl=bU Bk 0 ps.length c∧base≤Bk∧Bk≠P∧ps≠[]∧(cu.vec 105 c (ps.map bI)).at Tryz.prog w Bk
def Lf(base P:Nat)(sl:Value)(x:Nat):Prop:=base≤x∧x≠P∧∀Bk n c,sl=bU Bk 0 n c->x≠Bk
theorem uc.keep{w w':World}{base P:Nat}{sl:Value}{ps:List Nat}(h:uc w base P sl ps)(f:bA w w'):uc w' base P sl ps:=by
 rcases h with h|⟨Bk,c,h1,h2,h3,h4,h5⟩
 ·exact .inl h
 ·exact .inr ⟨Bk,c,h1,h2,h3,h4,bM h5 f⟩
abbrev zq(nd:Nd)(sl:Value):cu:=.obj 129 [cY nd.op,iV nd.n,iV nd.kids,iV nd.bY,.string ⟨#[]⟩,sl]
noncomputable abbrev GrT(l:List Nat):List Item:=.inRegion (opsOf (j0 2095716)) l::[.code (j0 2095717),.code (j0 1047859),.inBlock 2,.code (j0 130983),.inLoop (j0 16372),.inBlock 1,.code (j0 2047)]
noncomputable def VI(nd:Nd)(i n c P p Bk op:Int)(s xs:Value):Env:=bL [(1,op),(21,nd.op),(22,nd.n),(3,nd.kids),(24,nd.bY),(7,i),(8,n),(57,c)] [(63,P.toNat),(62,p.toNat),(52,Bk.toNat)] [(8,s),(65,xs)]
noncomputable abbrev As:List (Nat×bO):=[(63,.cells [i8 (v 21),i64 (v 22),i64 (v 3),i64 (v 24),.str ⟨#[]⟩,cj] 129)]
noncomputable abbrev ud:List (Nat×bO):=[(52,.pre false 65 (v 8) [] [] [] 105 (v 57)),(63,.cells [i8 (v 21),i64 (v 22),i64 (v 3),i64 (v 24),.str ⟨#[]⟩,.slice (some (eD 52 0)) (v 8) (v 57)] 129)]
noncomputable abbrev Au:List (Nat×bO):=[(101,.row [bz 62] 105 (v 101)),(63,.cells [i8 (v 21),i64 (v 22),i64 (v 3),i64 (v 24),.str ⟨#[]⟩,.slice (some (eD 101 0)) (.lit 1) (v 101)] 129)]
noncomputable abbrev Av:List (Nat×bO):=[(101,.pre false 65 (v 8) [] [] [bz 62] 105 (v 101)),(63,.cells [i8 (v 21),i64 (v 22),i64 (v 3),i64 (v 24),.str ⟨#[]⟩,.slice (some (eD 101 0)) (.plus (.tn (v 8)) (.lit 1)) (v 101)] 129)]
section
variable {w w0:World}{cs:List Frame}{fr:Frame}{nd:Nd}{base P p i:Nat}{nm:Bool}{s sl:Value}{ps:List Nat}{ts:List T}{t:T}
theorem Oh(VJ:base≤P)(hb:base≤w.heap.size)(hP:(zq nd sl).at Tryz.prog w P)(hk:uc w base P sl ps)(ht:dK w (Lf base P sl) ps ts)(P1:fQ w (Lf base P sl) p t)(hop:nm=true->t.n.op=2)(hlen:ps.length≤1000000)(hi:i≤1000000)
 (hf:FA 67 135 (GrT [2,3,4,5,6]) [] .normal [(9,.bool nm),(11,bI P),(101,iV nd.kids),(102,iV i),(106,.tuple #[bI p,s])] fr):
  Goes (G fr cs) w fun g' w'=>∃fr' sl',g'=G fr' cs∧bS (fun x=>base≤x) w w'∧(zq nd sl').at Tryz.prog w' P∧uc w' base P sl' (ps++[p])∧dK w' (Lf base P sl') (ps++[p]) (ts++[t])∧FA 67 135 Xf [] .normal [(0,s),(9,.bool nm),(11,bI P),(101,iV nd.kids),(102,iV ((i+1:Nat):Int))] fr':=by
 obtain⟨hpU,Oi⟩:Lf base P sl p∧w.cell? ⟨p,0,none⟩=some (cY t.n.op):=by
  cases P1 with
  |mk b n ks ps s u c0=>exact⟨u,c0⟩
 rcases hk with⟨rfl,rfl⟩|⟨Bk,c,rfl,hBk,hBP,hne,hv⟩
 ·obtain⟨ρ,hρ⟩:∃ρ:Env,ρ=VI nd i 0 0 P p 0 t.n.op s undef:=⟨_,rfl⟩;have hgo:Goes (G fr cs) w fun g' w'=>∃I B fr',g'=G fr' cs∧bS (lF ρ w As) w w'∧FA 67 135 Xf [] .normal [(0,s),(9,.bool nm),(11,bI P),(101,iV nd.kids),(102,iV (iF .add .i64 i 1))] fr'∧wZ (cQ ρ I B) (lF ρ w As) w' Au∧∀x∈Au,∀y∈Au,(cQ ρ I B).b x.1=(cQ ρ I B).b y.1->x.1=y.1:=by
   subst hρ;cases nm with
   |true=>exact acz.B6 (VI nd i 0 0 P p 0 t.n.op s undef) hf rfl ⟨by show(!decide (t.n.op=2))=false;rw[hop rfl];rfl,trivial⟩ ⟨Oi,trivial⟩ (fun q hq x hx=>by obtain rfl:=ah.1 hq;obtain rfl:=ah.1 hx;exact fun e=>hpU.2.1 e.symm) ⟨⟨_,hP,rfl,rfl⟩,trivial⟩ ei
   |false=>exact acA.B6 (VI nd i 0 0 P p 0 t.n.op s undef) hf rfl trivial trivial (nofun) ⟨⟨_,hP,rfl,rfl⟩,trivial⟩ ei
  refine hgo.mono fun g' w' hd=>?_;obtain⟨I,B,fr',rfl,kp,F,bl,inj⟩:=hd;have Xg:(cQ ρ I B).b 63=P:=by rw[hρ];rfl
  have Xh:ρ.b 63=P:=by rw[hρ];rfl
  have own:∀x,lF ρ w As x->w.heap.size≤x∨x=P:=fun x hx=>by
   rcases hx with h|⟨y,hy,e⟩
   ·exact .inl h
   ·obtain rfl:=ah.1 hy;exact .inr (e.symm.trans Xh)
  obtain⟨⟨o1,v1⟩,⟨o2,v2⟩,_⟩:=bl;have hB:(cu.vec 105 (I 101).toNat [bI p]).at Tryz.prog w' (B 101):=by rw[hρ]at v1;exact v1
  have Xi:(zq nd (bU (B 101) 0 1 (I 101).toNat)).at Tryz.prog w' P:=by rw[Xg]at v2;rw[hρ]at v2;exact v2
  have hne:B 101≠P:=fun e=>by have:=inj _ (ai ..) _ (aa _ (ah.2 rfl)) (by rw[Xg];exact e);cases this
  have P4:w.heap.size≤B 101:=by
   rcases own _ o1 with h|h
   ·exact h
   ·exact(hne h).elim
  refine⟨fr',_,rfl,kp.mono fun x hx=>?_,Xi,.inr ⟨B 101,(I 101).toNat,rfl,aA hb P4,hne,by simp,hB⟩,?_,by rw[<-inc (i:=i) (by omega)];exact F⟩
  ·rcases own x hx with h|rfl
   ·exact aA hb h
   ·exact VJ
  ·have hU:∀x,Lf base P eS x->x<w.heap.size->¬lF ρ w As x∧Lf base P (bU (B 101) 0 1 (I 101).toNat) x:=fun x hx hlt=>⟨fun hh=>by
    rcases own x hh with h|h
    ·omega
    ·exact hx.2.1 h,hx.1,hx.2.1,fun Bk n c e=>by
    have:B 101=Bk:=lO e;omega⟩
   exact(ht.eH kp hU).snoc (P1.eH kp hU)
 ·obtain⟨ρ,hρ⟩:∃ρ:Env,ρ=VI nd i ps.length c P p Bk t.n.op s (.agg (ps.map bI).toArray):=⟨_,rfl⟩;have P5:ρ.b 52=Bk:=by rw[hρ];rfl
  have Xh:ρ.b 63=P:=by rw[hρ];rfl
  have hO:El ρ w ud:=by refine⟨⟨.vec 105 c (ps.map bI),by rw[P5];exact hv,rfl,by rw[hρ];rfl,fun inf vU=>?_,(nofun),by rw[hρ];rfl⟩,⟨zq nd (bU Bk 0 ps.length c),by rw[Xh];exact hP,rfl,by rw[hρ];rfl⟩,trivial⟩;rw[Le inf vU,aE,hρ];show ps.length=((ps.length:Nat):Int).toNat*1;omega
  have iD:(ud.map fun p=>ρ.b p.1).Nodup:=by show[ρ.b 52,ρ.b 63].Nodup;rw[P5,Xh];exact List.nodup_cons.2 ⟨fun h=>hBP (ah.1 h),ei⟩
  have hap:(BE.cmp .leq (.plus (.tn (v 8)) (.lit 1)) (.lit 1048576)).ev ρ=true:=by rw[hρ];show decide ((((ps.length:Int).toNat:Nat):Int)+1≤1048576)=true;exact decide_eq_true (by omega)
  have hgo:Goes (G fr cs) w fun g' w'=>∃I B fr',g'=G fr' cs∧bS (lF ρ w ud) w w'∧FA 67 135 Xf [] .normal [(0,s),(9,.bool nm),(11,bI P),(101,iV nd.kids),(102,iV (iF .add .i64 i 1))] fr'∧wZ (cQ ρ I B) (lF ρ w ud) w' Av∧∀x∈Av,∀y∈Av,(cQ ρ I B).b x.1=(cQ ρ I B).b y.1->x.1=y.1:=by
   subst hρ;cases nm with
   |true=>exact acB.B6 (VI nd i ps.length c P p Bk t.n.op s (.agg (ps.map bI).toArray)) hf rfl ⟨hap,by show(!decide (t.n.op=2))=false;rw[hop rfl];rfl,trivial⟩ ⟨Oi,trivial⟩ (fun q hq x hx=>by
     obtain rfl:=ah.1 hq;have hx':x.1=52∨x.1=63:=by
      simp only[aj,az,or_false]at hx;rcases hx with rfl|rfl
      ·exact .inl rfl
      ·exact .inr rfl
     rcases hx' with h|h<;>rw[h]
     ·exact fun e=>hpU.2.2 Bk _ _ rfl e.symm
     ·exact fun e=>hpU.2.1 e.symm) hO iD
   |false=>exact acC.B6 (VI nd i ps.length c P p Bk t.n.op s (.agg (ps.map bI).toArray)) hf rfl ⟨hap,trivial⟩ trivial (nofun) hO iD
  refine hgo.mono fun g' w' hd=>?_;obtain⟨I,B,fr',rfl,kp,F,bl,inj⟩:=hd;have Xg:(cQ ρ I B).b 63=P:=by rw[hρ];rfl
  have own:∀x,lF ρ w ud x->w.heap.size≤x∨x=P∨x=Bk:=fun x hx=>by
   rcases hx with h|⟨y,hy,e⟩
   ·exact .inl h
   ·simp only[aj,az,or_false]at hy;rcases hy with rfl|rfl
    ·exact .inr (.inr (e.symm.trans P5))
    ·exact .inr (.inl (e.symm.trans Xh))
  obtain⟨⟨o1,v1⟩,⟨o2,v2⟩,_⟩:=bl;have hB:(cu.vec 105 (I 101).toNat ((ps++[p]).map bI)).at Tryz.prog w' (B 101):=by rw[hρ]at v1;rw[List.map_append];exact v1
  have hn:((((ps.length:Int).toNat:Nat):Int)+1).toNat=(ps++[p]).length:=by rw[ak,List.length_singleton];omega
  have Xi:(zq nd (bU (B 101) 0 (ps++[p]).length (I 101).toNat)).at Tryz.prog w' P:=by rw[Xg]at v2;rw[hρ]at v2;rw[<-hn];exact v2
  have hne:B 101≠P:=fun e=>by have:=inj _ (ai ..) _ (aa _ (ah.2 rfl)) (by rw[Xg];exact e);cases this
  have P4:w.heap.size≤B 101∨B 101=Bk:=by
   rcases own _ o1 with h|h|h
   ·exact .inl h
   ·exact(hne h).elim
   ·exact .inr h
  refine⟨fr',_,rfl,kp.mono fun x hx=>?_,Xi,.inr ⟨B 101,(I 101).toNat,rfl,?_,hne,by simp,hB⟩,?_,by rw[<-inc (i:=i) (by omega)];exact F⟩
  ·rcases own x hx with h|rfl|rfl
   ·exact aA hb h
   ·exact VJ
   ·exact hBk
  ·rcases P4 with h|h
   ·exact aA hb h
   ·rw[h];exact hBk
  ·have hU:∀x,Lf base P (bU Bk 0 ps.length c) x->x<w.heap.size->¬lF ρ w ud x∧Lf base P (bU (B 101) 0 (ps++[p]).length (I 101).toNat) x:=fun x hx hlt=>⟨fun hh=>by
    rcases own x hh with h|h|h
    ·omega
    ·exact hx.2.1 h
    ·exact hx.2.2 Bk _ _ rfl h,hx.1,hx.2.1,fun Bk' n' c' e=>by
    have:B 101=Bk':=lO e;subst this;rcases P4 with h|h
    ·omega
    ·rw[h];exact hx.2.2 Bk _ _ rfl⟩
   exact(ht.eH kp hU).snoc (P1.eH kp hU)
end
theorem xk{op:Int}{len:Nat}{lo hi:Int}{nm:Bool}(e:jz op len=some (lo,hi,nm)):0≤lo∧(hi≤3∨hi=len):=by
 unfold jz at e
 repeat' split at e
 all_goals cases e
 all_goals exact⟨by omega,by omega⟩
def uI(base:Nat)(s:Value)(l:List Nd)(w':World)(v:Value)(r:Option (T×List Nd)):Prop:=match r with
 |none=>v=oL
 |some (t,rest)=>∃p s',v=.tuple #[bI p,s']∧fQ w' (fun x=>base≤x) p t∧∀W,cP W s l->cP W s' rest
def Aw(base P:Nat)(nd:Nd)(s:Value)(l:List Nd)(ts:List T)(w':World)(v:Value)(r:Option (List T×List Nd)):Prop:=match r with
 |none=>v=oL
 |some (ts',rest)=>∃s',v=.tuple #[bI P,s']∧fQ w' (fun x=>base≤x) P (.nd nd (ts++ts'))∧∀W,cP W s l->cP W s' rest
theorem cq{w0 w w':World}(h:bA w0 w)(k:bS (fun x=>w0.heap.size≤x) w w'):bA w0 w':=bS.trans h k
section
variable {w w0:World}{cs:List Frame}{fr:Frame}
theorem xl{k:List Item}{w0 w:World}{P:Value->Prop}(fw:bA w0 w)(hf:FA 67 135 (.code .ret::k) [] .normal [(4,.pointer none),(5,eS)] fr)(hP:P oL):Goes (G fr cs) w fun g' w'=>∃fr' v,g'=G fr' cs∧bA w0 w'∧cV 67 fr' w' v∧P v:=by refine(iN Gh hf rfl rfl).mono fun g6 w6 dj=>?_;obtain⟨dJ,rfl,rfl,hL⟩:=dj;exact⟨dJ,_,rfl,fw,hL,hP⟩
theorem Gk{f:Nat}{names:Bool}(IH:∀{w:World} {s:Value} {l:List Nd},cP w s l->l.length<f->l.length≤1000000->dS 67 #[s,.bool false] w fun v w'=>bA w w'∧uI w.heap.size s l w' v (dQ f l false)){P:Nat}{nd:Nd}(VJ:w0.heap.size≤P)(hkb:nd.kids≤1000000):
  ∀(m i:Nat) {w:World} {cs:List Frame} {fr:Frame} {s sl:Value} {l:List Nd} {ps:List Nat} {ts:List T},(i:Int)+m=nd.kids->l.length<f->l.length≤1000000->bA w0 w->cP w0 s l->(zq nd sl).at Tryz.prog w P->uc w w0.heap.size P sl ps->dK w (Lf w0.heap.size P sl) ps ts->ps.length=i->
   FA 67 135 Xf [] .normal [(0,s),(9,.bool names),(11,bI P),(101,iV nd.kids),(102,iV i)] fr->
   Goes (G fr cs) w fun g' w'=>∃fr' v,g'=G fr' cs∧bA w0 w'∧cV 67 fr' w' v∧Aw w0.heap.size P nd s l ts w' v (fH (fun r=>dQ f r false) names m l)
 |0,i,w,cs,fr,s,sl,l,ps,ts,hi,hlf,hl,fw,hn,hP,hk,ht,hpi,hf=>by
  refine(grE.go (bL [(3,nd.kids),(7,i)] [(63,P)] [(8,s),(9,.bool names)]) hf rfl ⟨decide_eq_false (by show ¬((i:Int)<nd.kids);omega),trivial⟩ trivial).trans fun g1 w1 hd=>?_;obtain⟨I,B,bT,rfl,f1,F1,_⟩:=hd;refine(iN Gh F1 rfl rfl).mono fun g6 w6 dj=>?_;obtain⟨dJ,rfl,rfl,hL⟩:=dj;refine⟨dJ,_,rfl,fw.trans f1,hL,s,rfl,?_,fun W h=>h⟩;rw[aQ];have Xj:=bM hP f1;have hs:xd w6 (fun x=>w0.heap.size≤x) sl ps:=by
   rcases hk.keep f1 with⟨h1,h2⟩|⟨Bk,c,h1,h2,h3,h4,h5⟩
   ·exact⟨.inl ⟨h1,h2⟩⟩
   ·refine⟨.inr ⟨Bk,0,c,h2,cu.jW h5,h1,?_,fun j p hj=>?_⟩⟩
    ·obtain⟨arr,rest,inf,e1,e2,e3,e4⟩:=h5;have:=congrArg aP e3;rw[Le inf e2]at e4;rw[ak,aE]at this;have:arr.size=arr.toList.length:=rfl;omega
    ·rw[aG];refine cu.cR h5 ?_;show(ps.map bI)[j]?=some (bI p);rw[aL,hj];rfl
  exact .mk P nd ts ps sl VJ (bE Xj (i:=0) rfl) (bE Xj (i:=1) rfl) (bE Xj (i:=2) rfl) (bE Xj (i:=3) rfl) (bE Xj (i:=5) rfl) hs (ht.eH f1 fun x u lt=>⟨fun hh=>by omega,u.1⟩)
 |m+1,i,w,cs,fr,s,sl,l,ps,ts,hi,hlf,hl,fw,hn,hP,hk,ht,hpi,hf=>by
  refine(grL.go (bL [(3,nd.kids),(7,i)] [(63,P)] [(8,s),(9,.bool names)]) hf rfl ⟨decide_eq_true (by show((i:Int)<nd.kids);omega),trivial⟩ trivial).trans fun g1 w1 hd=>?_;obtain⟨I,B,bT,rfl,f1,F1,_⟩:=hd;have Cg:=fw.trans f1;refine(grM.go (bL [] [] [(105,s)]) (Q:=fun v w'=>uI w1.heap.size s l w' v (dQ f l false)) F1 rfl fun w' f2=>(IH (hn.keep (Cg.trans f2)) hlf hl).mono fun v w3 O=>⟨O.1,?_⟩).trans fun g2 w2 bX=>?_
  ·unfold uI at O⊢;cases e:dQ f l false with
   |none=>rw[e]at O;exact O.2
   |some x=>rw[e]at O;obtain⟨_,p,s',h1,h2,h3⟩:=O;exact⟨p,s',h1,h2.eH (bA.refl _) fun x u lt=>⟨fun hh=>by omega,aA f2.size u⟩,h3⟩
  obtain⟨cB,vv,rfl,f2,hO,F2⟩:=bX;have Xk:=Cg.trans f2;unfold fH;unfold uI at hO;cases e:dQ f l false with
  |none=>
   rw[e]at hO;have hO:vv=oL:=hO;subst hO;cases names with
   |true=>refine(Oe.go (bL [(3,nd.kids),(7,i)] [(63,P)] [(8,eS)]) F2 rfl trivial trivial).trans fun g3 w3 cn=>?_;obtain⟨I,B,cC,rfl,f3,F3,_⟩:=cn;refine(xl (P:=fun v=>v=oL) (Xk.trans f3) F3 rfl).mono fun g4 w4 c9=>?_;obtain⟨eg,v,h1,h2,h3,h4⟩:=c9;exact⟨eg,v,h1,h2,h3,h4⟩
   |false=>refine(La.go (bL [(3,nd.kids),(7,i)] [(63,P)] [(8,eS)]) F2 rfl trivial trivial).trans fun g3 w3 cn=>?_;obtain⟨I,B,cC,rfl,f3,F3,_⟩:=cn;refine(xl (P:=fun v=>v=oL) (Xk.trans f3) F3 rfl).mono fun g4 w4 c9=>?_;obtain⟨eg,v,h1,h2,h3,h4⟩:=c9;exact⟨eg,v,h1,h2,h3,h4⟩
  |some x=>
   obtain⟨t,r⟩:=x;rw[e]at hO;obtain⟨p,s',rfl,P1,pP⟩:=hO;have hlen:=xj _ _ _ _ _ e;by_cases Lg:(names&&decide (t.n.op≠2))=true
   ·have RL:names=true:=by
     cases names with
     |true=>rfl
     |false=>cases Lg
    subst RL;have hop:t.n.op≠2:=by simpa using Lg
    have Oi:w2.cell? ⟨p,0,none⟩=some (cY t.n.op):=by
     cases P1 with
     |mk b n ks ps s u c0=>exact c0
    refine(grO.go (bL [(1,t.n.op),(3,nd.kids),(7,i)] [(63,P),(62,p)] [(8,s')]) F2 rfl ⟨by show(!decide (t.n.op=2))=true;rw[decide_eq_false hop];rfl,trivial⟩ ⟨Oi,trivial⟩).trans fun g3 w3 cn=>?_;obtain⟨I,B,cC,rfl,f3,F3,_⟩:=cn;refine(xl (P:=fun v=>v=oL) (Xk.trans f3) F3 rfl).mono fun g4 w4 c9=>?_;obtain⟨eg,v,h1,h2,h3,h4⟩:=c9;refine⟨eg,v,h1,h2,h3,?_⟩;dsimp only;rw[if_pos Lg];exact h4
   ·have hop:names=true->t.n.op=2:=fun h=>by
     subst h;simpa using Lg
    dsimp only;rw[if_neg Lg];have hPk:=bM hP (f1.trans f2);have hkk:=hk.keep (f1.trans f2);have RM:=ht.keep (f1.trans f2);have am_:P<w1.heap.size:=cu.jW (bM hP f1);have hoff:∀x,w1.heap.size≤x->Lf w0.heap.size P sl x:=fun x hx=>⟨aA Cg.size hx,by omega,fun Bk n c e'=>by
     rcases hk.keep f1 with⟨h1,h2⟩|⟨Bk',c',h1,h2,h3,h4,h5⟩
     ·rw[h1]at e';cases e'
     ·have:=cu.jW h5;have:Bk'=Bk:=lO (h1.symm.trans e');omega⟩
    have acI:fQ w2 (Lf w0.heap.size P sl) p t:=P1.eH (bA.refl _) fun x u lt=>⟨fun hh=>by omega,hoff x u⟩;refine(Oh (s:=s') (i:=i) VJ (aA Xk.size (ax _)) hPk hkk RM acI hop (by omega) (by omega) (F2.only rfl)).trans fun g3 w3 cn=>?_;obtain⟨cC,sl',rfl,VK,hP3,hk3,ht3,F3⟩:=cn;have fw3:=cq Xk VK;refine(Gk IH VJ hkb m (i+1) (by omega) (by omega) (by omega) fw3 (pP _ hn) hP3 hk3 ht3 (by rw[ak,List.length_singleton,hpi]) F3).mono fun g4 w4 c9=>?_;obtain⟨eg,v,h1,h2,h3,h4⟩:=c9;refine⟨eg,v,h1,h2,h3,?_⟩;unfold Aw at h4⊢;cases e2:fH (fun r=>dQ f r false) names m r with
    |none=>rw[e2]at h4;exact h4
    |some y=>obtain⟨ts',r'⟩:=y;rw[e2]at h4;obtain⟨s'',g1,g2,g3⟩:=h4;refine⟨s'',g1,?_,fun W h=>g3 W (pP W h)⟩;rw[aY]at g2;exact g2
theorem zu:∀(f:Nat) {w:World} {s:Value} {l:List Nd} {root:Bool},cP w s l->l.length<f->l.length≤1000000->dS 67 #[s,.bool root] w fun v w'=>bA w w'∧uI w.heap.size s l w' v (dQ f l root)
 |0,w,s,l,root,h,hlt,hl=>by omega
 |f+1,w,s,[],root,h,hlt,hl=>by
  refine cF fun cs=>?_;rcases h.ex with⟨rfl,_⟩|⟨A,o,c,rfl,_,_⟩
  ·refine(gr0.go (bL [] [] []) (dV K_ rfl eS (.bool root)) rfl trivial trivial).trans fun g3 w3 cn=>?_;obtain⟨I,B,cC,rfl,f3,F3,_⟩:=cn;refine(xl (P:=fun v=>v=oL) f3 F3 rfl).mono fun g4 w4 c9=>?_;obtain⟨eg,v,h1,h2,h3,h4⟩:=c9;exact⟨eg,v,h1,h3,h2,h4⟩
  ·refine(gr1.go (bL [(51,0),(52,c),(53,o)] [(50,A)] []) (dV K_ rfl (bU A o 0 c) (.bool root)) rfl ⟨rfl,trivial⟩ trivial).trans fun g3 w3 cn=>?_;obtain⟨I,B,cC,rfl,f3,F3,_⟩:=cn;refine(xl (P:=fun v=>v=oL) f3 F3 rfl).mono fun g4 w4 c9=>?_;obtain⟨eg,v,h1,h2,h3,h4⟩:=c9;exact⟨eg,v,h1,h3,h2,h4⟩
 |f+1,w,s,nd::l,root,h,hlt,hl=>by
  rcases h.ex with⟨_,e⟩|⟨A,o,c,rfl,hc,cL⟩
  ·cases e
  refine cF fun cs=>?_;have iD:jF w A o nd:=by have:=cL 0 nd rfl;simpa using this
  have hN:0<(nd::l).length:=by simp
  refine(Xd (c:=c) hN iD (dV K_ rfl (bU A o (nd::l).length c) (.bool root))).trans fun g1 w1 hd=>?_;unfold dQ;rw[show(nd::l).length=l.length+1 from rfl]at hd;cases e:jz nd.op (l.length+1)with
  |none=>rw[e]at hd;obtain⟨bT,rfl,f1,hL⟩:=hd;exact .here ⟨bT,_,rfl,hL,f1,rfl⟩
  |some x=>
   obtain⟨lo,hi,names⟩:=x;rw[e]at hd;obtain⟨bT,X,rfl,f1,hX,F1⟩:=hd;refine(RJ hN hc hX F1).trans fun g2 w2 bX=>?_;dsimp only;rcases bX with⟨hb,cB,rfl,f2,hL⟩|⟨hb,cB,P,o',rfl,f2,gP,hP,ho',F2⟩
   ·rw[if_pos hb];exact .here ⟨cB,_,rfl,hL,f1.trans f2,rfl⟩
   ·rw[if_neg (by rw[hb];decide)];have hk:0≤nd.kids∧nd.kids≤1000000:=by
     have yb:¬(nd.kids<lo)∧¬(nd.kids>hi):=by simp only[pN,Bool.or_eq_false_iff,decide_eq_false_iff_not]at hb;exact⟨hb.1.1.1.1,hb.1.1.1.2⟩
     have hlh:=xk e;simp only[aC]at hl;omega
    have f12:=f1.trans f2;have pP:∀W,cP W (bU A o (nd::l).length c) (nd::l)->cP W (bU A o' ((nd::l).length-1) (c-1)) l:=fun W hW=>by
     rcases hW.ex with⟨e',_⟩|⟨A',o2,c',e',Q3,jE⟩
     ·cases e'
     ·obtain⟨rfl,rfl,rfl⟩:A'=A∧o2=o∧c'=c:=by
       refine⟨(lO e').symm,?_,?_⟩
       ·exact(congrArg (fun v=>match v with|.slice (some x) _ _=>x.off|_=>0) e').symm
       ·exact(congrArg (fun v=>match v with|.slice (some x) _ c=>c|_=>0) e').symm
      refine⟨.inr ⟨A',o',c'-1,rfl,by simp only[aC]at Q3;omega,fun i n hi=>?_⟩⟩;have:=jE (i+1) n hi;rcases ho' with h1|rfl
      ·simp only[aC]at h1;have:l=[]:=bw (by omega);subst this;cases hi
      ·rw[show o2+4+i*4=o2+(i+1)*4 by omega];exact this
    refine(Gk (f:=f) (names:=names) (fun h1 h2 h3=>zu f h1 h2 h3) (w0:=w) (P:=P) (nd:=nd) (aA f1.size gP) hk.2 nd.kids.toNat 0 (by omega) (by simp only[aC]at hlt;omega) (by simp only[aC]at hl;omega) f12 (pP w h) hP (.inl ⟨rfl,rfl⟩) .nil rfl F2).mono fun g4 w4 c9=>?_;obtain⟨eg,v,h1,h2,h3,h4⟩:=c9;refine⟨eg,v,h1,h3,h2,?_⟩;unfold Aw at h4;cases e2:fH (fun r=>dQ f r false) names nd.kids.toNat l with
    |none=>rw[e2]at h4;exact h4
    |some y=>obtain⟨ts',r'⟩:=y;rw[e2]at h4;obtain⟨s'',g1,g2,g3⟩:=h4;exact⟨P,s'',g1,g2,fun W hW=>g3 W (pP W hW)⟩
end
noncomputable def m7(l:Nat):Code:=pc (bD Tryz.f44) (pd l)
theorem Xl:bP Tryz.prog 44 [.bC 0,.bC 1,.bC 2] .normal=.ok ⟨44,87,c8 44 [.bC 0,.bC 1,.bC 2],[.code (bD Tryz.f44)],[],.run,.normal⟩:=by kernel_rfl
theorem Xm:dP 44 87 6:=fun st=>by kernel_rfl
noncomputable abbrev Gl:List Item:=[.code .ret,.inBlock 0,.code (m7 7)]
theorem so1:Pc 44 87 [.code (bD Tryz.f44)] [(0,.agg [ss 1,sA 50 53 51 52,i64 (v 4)]),(1,i64 (v 7)),(2,.bC 2)] [((.cmp .geq (v 7) (.lit 4096)),true)] [] [] 18 [] [6] Gl [i64 (.lit 34)] []:={}
theorem acK:Pc 44 87 [.code (bD Tryz.f44)] [(0,.agg [ss 1,cj,i64 (v 4)]),(1,i64 (v 7)),(2,.bC 2)] [((.cmp .geq (v 7) (.lit 4096)),true)] [] [] 18 [] [6] Gl [i64 (.lit 34)] []:={}
noncomputable abbrev Xn:List Item:=[.inRegion (opsOf (m7 102)) [2,3,4,5,6,7,8,9,10],.code (m7 103),.inBlock 0,.code (m7 7)]
theorem acL:Pc 44 87 [.code (bD Tryz.f44)] [(0,.agg [ss 1,cj,i64 (v 4)]),(1,i64 (v 7)),(2,.bC 2)] [((.cmp .geq (v 7) (.lit 4096)),false)] [] [] 18 [100] [1,2,3,20] Xn [i64 (v 7),.bC 2,bz 100,ss 1] [(100,.cells [ss 1,cj,i64 (v 4)] 50)]:={}
theorem so2:Pc 44 87 [.code (bD Tryz.f44)] [(0,.agg [ss 1,sA 50 53 51 52,i64 (v 4)]),(1,i64 (v 7)),(2,.bC 2)] [((.cmp .geq (v 7) (.lit 4096)),false)] [] [] 18 [100] [1,2,3,20] Xn [i64 (v 7),.bC 2,bz 100,ss 1] [(100,.cells [ss 1,sA 50 53 51 52,i64 (v 4)] 50)]:={}
theorem so3:di 87 (opsOf (m7 102)) 2 [(20,.bC 20)] 66 [.bC 20] 21:={}
noncomputable abbrev Xo:List Item:=[.inRegion (opsOf (m7 102)) [3,4,5,6,7,8,9,10],.code (m7 103),.inBlock 0,.code (m7 7)]
noncomputable abbrev sW:List (AA×AV):=[(eD 64 0,ss 1),(eD 64 1,.bC 8),(eD 64 2,i64 (v 4))]
theorem so4:Pc 44 87 Xo [(1,i64 (v 7)),(2,.bC 2),(3,bz 64),(21,FB)] [] sW [] 14 [] [6] Gl [i64 (.lit 43)] []:={}
theorem so5:Pc 44 87 Xo [(1,i64 (v 7)),(2,.bC 2),(3,bz 64),(21,TB)] [] sW [] 5 [] [1,2,3,23,24,26] [.inRegion (opsOf (m7 102)) [8,9,10],.code (m7 103),.inBlock 0,.code (m7 7)] [i64 (v 7),.bC 2,bz 64,FB,.bC 2,ss 1] []:={}
theorem so6:jO 87 (opsOf (m7 102)) 8 [(23,FB)] (.lookup 83 (.tmp 24) (.tmp 26) false) 4 (some 27):={}
noncomputable abbrev Xp:List Item:=[.inRegion (opsOf (m7 102)) [9,10],.code (m7 103),.inBlock 0,.code (m7 7)]
theorem so7:Pc 44 87 Xp [(1,i64 (v 7)),(2,.bC 2),(3,bz 64),(23,FB),(27,TB)] [] sW [] 8 [] [6] Gl [i64 (.lit 43)] []:={}
theorem so8:Pc 44 87 Xp [(1,i64 (v 7)),(2,.bC 2),(3,bz 64),(23,FB),(27,FB)] [] sW [] 10 [] [1,3,31] [.inRegion (opsOf (m7 14)) [2,3,4,5,6,7],.code (m7 15)] [i64 (v 7),bz 64,.bC 8] []:={}
theorem so9:di 87 (opsOf (m7 14)) 2 [(31,.bC 31)] 67 [.bC 31,TB] 32:={}
noncomputable abbrev zw:List Item:=[.inRegion (opsOf (m7 14)) [3,4,5,6,7],.code (m7 15)]
noncomputable abbrev Gm:List Item:=[.code .ret,.code (m7 31)]
theorem soA:Pc 44 87 zw [(1,i64 (v 7)),(3,bz 64),(32,.tuple [yB,cj])] [] sW [] 27 [] [6] Gm [i64 (.lit 1)] []:={}
theorem soB:Pc 44 87 zw [(1,i64 (v 7)),(3,bz 64),(32,.tuple [bz 62,sA 55 56 57 58])] [((.cmp .gtr (.tn (v 57)) (.lit 0)),true)] sW [] 27 [] [6] Gm [i64 (.lit 1)] []:={}
theorem acM:Pc 44 87 zw [(1,i64 (v 7)),(3,bz 64),(32,.tuple [bz 62,sA 55 56 57 58])] [((.cmp .gtr (.tn (v 57)) (.lit 0)),false),((.cmp .lss (v 4) (.lit 0)),true)] sW [] 27 [] [6] Gm [i64 (.lit 1)] []:={}
noncomputable abbrev Lh:List (AA×AV):=[(eD 64 0,ss 1),(eD 64 1,sA 50 53 51 52),(eD 64 2,i64 (v 4))]
noncomputable abbrev xm:List Item:=[.code (m7 500),.inLoop (m7 500),.inBlock 1,.code (m7 63)]
theorem acN:Pc 44 87 zw [(1,i64 (v 7)),(3,bz 64),(32,.tuple [bz 62,sA 55 56 57 58])] [((.cmp .gtr (.tn (v 57)) (.lit 0)),false),((.cmp .lss (v 4) (.lit 0)),false)] Lh [] 34 [] [1,3,7,48,49,50] xm [i64 (v 7),bz 64,bz 62,sA 50 53 51 52,i64 (.tn (v 51)),i64 (.lit 0)] []:={}
noncomputable abbrev Ch:List (AA×AV):=[(eB 50 53 10 4,i8 (v 11)),(eA 50 53 10 4 1,i64 (v 12)),(eA 50 53 10 4 2,i64 (v 13)),(eA 50 53 10 4 3,i64 (v 14))]
theorem soE:Pc 44 87 xm [(1,i64 (v 7)),(3,bz 64),(7,bz 62),(48,sA 50 53 51 52),(49,i64 (.tn (v 51))),(50,i64 (v 10))] (fN 10 51++[((.cmp .gtr (v 13) (.lit 16)),true)]) Ch [] 27 [] [6] [.code .ret,.inBlock 2,.code (m7 4007),.inLoop (m7 500),.inBlock 1,.code (m7 63)] [i64 (.lit 44)] []:={}
theorem soF:Pc 44 87 xm [(1,i64 (v 7)),(3,bz 64),(7,bz 62),(48,sA 50 53 51 52),(49,i64 (.tn (v 51))),(50,i64 (v 10))] (fN 10 51++[((.cmp .gtr (v 13) (.lit 16)),false)]) Ch [] 30 [] [1,3,7,48,49,50] xm [i64 (v 7),bz 64,bz 62,sA 50 53 51 52,i64 (.tn (v 51)),i64 (.op .add .i64 (v 10) (.lit 1))] []:={}
noncomputable abbrev sX:List Item:=[.code (m7 1012),.inLoop (m7 1012),.inBlock 3,.code (m7 127)]
theorem soG:Pc 44 87 xm [(1,i64 (v 7)),(3,bz 64),(7,bz 62),(48,sA 50 53 51 52),(49,i64 (.tn (v 51))),(50,i64 (v 10))] Ce Lh [] 17 [] [1,3,7,59,60,61] sX [i64 (v 7),bz 64,bz 62,sA 50 53 51 52,i64 (.tn (v 51)),i64 (.lit 0)] []:={}
theorem soH:Pc 44 87 sX [(1,i64 (v 7)),(3,bz 64),(7,bz 62),(59,sA 50 53 51 52),(60,i64 (.tn (v 51))),(61,i64 (v 10))] (fN 10 51++[((.cmp .eql (v 11) (.lit 2)),false)]) Ch [] 41 [] [1,3,7,59,60,61] sX [i64 (v 7),bz 64,bz 62,sA 50 53 51 52,i64 (.tn (v 51)),i64 (.op .add .i64 (v 10) (.lit 1))] []:={}
noncomputable abbrev Xq:List Item:=[.code .ret,.inBlock 4,.code (m7 8103),.inLoop (m7 1012),.inBlock 3,.code (m7 127)]
theorem soI:Pc 44 87 sX [(1,i64 (v 7)),(3,bz 64),(7,bz 62),(59,sA 50 53 51 52),(60,i64 (.tn (v 51))),(61,i64 (v 10))] (fN 10 51++[((.cmp .eql (v 11) (.lit 2)),true),((.cmp .lss (v 12) (.lit 0)),true)]) Ch [] 38 [] [6] Xq [i64 (.lit 43)] []:={}
theorem soJ:Pc 44 87 sX [(1,i64 (v 7)),(3,bz 64),(7,bz 62),(59,sA 50 53 51 52),(60,i64 (.tn (v 51))),(61,i64 (v 10))] (fN 10 51++[((.cmp .eql (v 11) (.lit 2)),true),((.cmp .lss (v 12) (.lit 0)),false),((.cmp .geq (v 12) (v 7)),true)]) Ch [] 38 [] [6] Xq [i64 (.lit 43)] []:={}
theorem soK:Pc 44 87 sX [(1,i64 (v 7)),(3,bz 64),(7,bz 62),(59,sA 50 53 51 52),(60,i64 (.tn (v 51))),(61,i64 (v 10))] (fN 10 51++[((.cmp .eql (v 11) (.lit 2)),true),((.cmp .lss (v 12) (.lit 0)),false),((.cmp .geq (v 12) (v 7)),false)]) Ch [] 41 [] [1,3,7,59,60,61] sX [i64 (v 7),bz 64,bz 62,sA 50 53 51 52,i64 (.tn (v 51)),i64 (.op .add .i64 (v 10) (.lit 1))] []:={}
theorem soL:Pc 44 87 sX [(1,i64 (v 7)),(3,bz 64),(7,bz 62),(59,sA 50 53 51 52),(60,i64 (.tn (v 51))),(61,i64 (v 10))] Ce [] [] 11 [] [81] [.inRegion (opsOf (m7 508)) [1,2,3,4,5,6],.code (m7 509),.code (m7 255)] [bz 62] []:={}
theorem soM:di 87 (opsOf (m7 508)) 1 [(81,.bC 81)] 68 [.bC 81,i64 (.lit 0)] 82:={}
noncomputable abbrev Xr:List Item:=[.inRegion (opsOf (m7 508)) [2,3,4,5,6],.code (m7 509),.code (m7 255)]
theorem Oj:Pc 44 87 Xr [(82,.tuple [i64 (v 5),i64 (v 6)])] [((.cmp .gtr (v 5) (.lit 64)),true)] [] [] 16 [] [6] [.code .ret,.code (m7 255)] [i64 (.lit 42)] []:={}
theorem Li:Pc 44 87 Xr [(82,.tuple [i64 (v 5),i64 (v 6)])] [((.cmp .gtr (v 5) (.lit 64)),false)] [] [] 17 [] [6] [.code .ret] [i64 (.lit 0)] []:={}
theorem acO:Pc 44 87 zw [(1,i64 (v 7)),(3,bz 64),(32,.tuple [bz 62,cj])] [((.cmp .lss (v 4) (.lit 0)),true)] sW [] 27 [] [6] Gm [i64 (.lit 1)] []:={}
theorem acP:Pc 44 87 zw [(1,i64 (v 7)),(3,bz 64),(32,.tuple [bz 62,cj])] [((.cmp .lss (v 4) (.lit 0)),false)] Lh [] 34 [] [1,3,7,48,49,50] xm [i64 (v 7),bz 64,bz 62,sA 50 53 51 52,i64 (.tn (v 51)),i64 (.lit 0)] []:={}
theorem nw{g:List Nd->Option (T×List Nd)}{names:Bool}(hg:∀l t r,g l=some (t,r)->l=flat t++r):∀(k:Nat) (l:List Nd) (ts:List T) (r:List Nd),fH g names k l=some (ts,r)->l=bW ts++r
 |0,l,ts,r,h=>by cases h;rfl
 |k+1,l,ts,r,h=>by
  unfold fH at h;split at h
  ·cases h
  ·rename_i t r' e;split at h
   ·cases h
   ·split at h
    ·cases h
    ·rename_i ts' r'' e2;cases h;rw[hg _ _ _ e,nw hg k _ _ _ e2,bW,aY]
theorem g_:∀(f:Nat) (l:List Nd) (root:Bool) (t:T) (r:List Nd),dQ f l root=some (t,r)->l=flat t++r
 |0,l,root,t,r,h=>by cases h
 |f+1,[],root,t,r,h=>by cases h
 |f+1,n::l,root,t,r,h=>by
  unfold dQ at h;split at h
  ·cases h
  ·split at h
   ·cases h
   ·split at h
    ·cases h
    ·rename_i ts r' e;cases h;have:=nw (fun l t r h=>g_ f l false t r h) _ _ _ _ e;rw[flat,this];simp
noncomputable def cG(z:Bool)(b o n c:Nat):AV:=Bool.rec (.slice (some ⟨.dyn b,v o⟩) (v n) (v c)) cj z
noncomputable def dL(z:Bool)(n:Nat):IE:=Bool.rec (.tn (v n)) (.lit 0) z
def ew(z:Bool)(A o n c:Nat):Value:=match z with
 |false=>bU A o n c
 |true=>eS
structure cH where
 name:ByteArray
 tree:List Nd
 bY:Int
def fy(x:cH)(s:Value):Value:=.agg #[.string x.name,s,iV x.bY]
def eZ(x:cH)(i:Nat)(names:List (ByteArray×Bool)):Int:=
 if(i:Int)≥4096 then 34
 else if gq x.name=false∨(eT x.name names).getD false=true then 43
 else match dQ (x.tree.length+1) x.tree true with
  |none=>1
  |some (t,rest)=>
   if 0<rest.length∨x.bY<0 then 1
   else if x.tree.any (fun n=>decide (n.kids>16))then 44
   else if x.tree.any (fun n=>decide (n.op=2)&&(decide (n.n<0)||decide (n.n≥i)))then 43
   else if(cy t 0).1>64 then 42 else 0
section
variable {w w0:World}{cs:List Frame}{fr:Frame}
theorem xo{k:List Item}{n:Int}(fw:bA w0 w)(hf:FA 44 87 (.code .ret::k) [] .normal [(6,iV n)] fr):Goes (G fr cs) w fun g' w'=>∃fr',g'=G fr' cs∧bA w0 w'∧cV 44 fr' w' (iV n):=by refine(leave1 Xm hf rfl).mono fun g6 w6 dj=>?_;obtain⟨dJ,rfl,rfl,hL⟩:=dj;exact⟨dJ,rfl,fw,hL⟩
noncomputable abbrev P6:List (AA×AV):=Ch
noncomputable abbrev Xs:List Item:=sX
noncomputable abbrev Xt:List Item:=xm
theorem Lj{x:cH}{A o c X p idx:Nat}{t:T}{U:Nat->Prop}{rest:List Nd}(cL:∀i n,x.tree[i]?=some n->jF w0 A (o+i*4) n)(hl:x.tree.length≤1000000)(ht:fQ w0 U p t)(hfl:x.tree=flat t++rest):
  ∀(m j:Nat) {w:World} {cs:List Frame} {fr:Frame},j+m=x.tree.length->bA w0 w->FA 44 87 Xs [] .normal [(1,iV idx),(3,bI X),(7,bI p),(59,bU A o x.tree.length c),(60,iV x.tree.length),(61,iV j)] fr->
  Goes (G fr cs) w fun g' w'=>∃fr',g'=G fr' cs∧bA w0 w'∧cV 44 fr' w' (iV (if(x.tree.drop j).any (fun n=>decide (n.op=2)&&(decide (n.n<0)||decide (n.n≥idx)))then 43 else if(cy t 0).1>64 then 42 else 0))
 |0,j,w,cs,fr,hj,fw,hf=>by
  have ht':=ht.keep fw;refine(soL.go (bL [(7,idx),(51,x.tree.length),(52,c),(53,o),(10,j)] [(50,A),(64,X),(62,p)] []) hf rfl ⟨decide_eq_false (by show ¬((j:Int)<((x.tree.length:Nat):Int));omega),trivial⟩ trivial).trans fun g1 w1 hd=>?_;obtain⟨I,B,bT,rfl,f1,F1,_⟩:=hd;refine(soM.go (bL [] [] [(81,bI p)]) (Q:=fun v w'=>v=.tuple #[iV (cy t 0).1,iV (cy t 0).2]) F1 rfl fun w' f2=>Cf t (ht'.keep (f1.trans f2)) (by have:=congrArg aP hfl;rw[ak]at this;omega)).trans fun g2 w2 bX=>?_
  obtain⟨cB,vv,rfl,f2,rfl,F2⟩:=bX;rw[aS (by omega)];by_cases h:(cy t 0).1>64
  ·refine(Oj.go (bL [(5,(cy t 0).1),(6,(cy t 0).2)] [] []) F2 rfl ⟨decide_eq_true h,trivial⟩ trivial).trans fun g3 w3 cn=>?_;obtain⟨I,B,cC,rfl,f3,F3,_⟩:=cn;simp only[List.any_nil,aF,if_false,if_pos h];exact xo (fw.trans (f1.trans (f2.trans f3))) F3
  ·refine(Li.go (bL [(5,(cy t 0).1),(6,(cy t 0).2)] [] []) F2 rfl ⟨decide_eq_false h,trivial⟩ trivial).trans fun g3 w3 cn=>?_;obtain⟨I,B,cC,rfl,f3,F3,_⟩:=cn;simp only[List.any_nil,aF,if_false,if_neg h];exact xo (fw.trans (f1.trans (f2.trans f3))) F3
 |m+1,j,w,cs,fr,hj,fw,hf=>by
  have hlt:j<x.tree.length:=by omega
  obtain⟨n,hn⟩:∃n,x.tree[j]?=some n:=⟨_,af hlt⟩;have iD:=(cL j n hn).keep fw;have eJ:x.tree.drop j=n::x.tree.drop (j+1):=by rw[aJ hlt];congr 1;exact au ((af hlt).symm.trans hn)
  obtain⟨ρ,hρ⟩:∃ρ:Env,ρ=bL [(7,idx),(51,x.tree.length),(52,c),(53,o),(10,j),(11,n.op),(12,n.n),(13,n.kids),(14,n.bY)] [(50,A),(64,X),(62,p)] []:=⟨_,rfl⟩;have mm:cw ρ w P6:=by rw[hρ];exact⟨iD.c0,iD.c1,iD.c2,iD.c3,trivial⟩
  have bb:=cg (ρ:=ρ) (i:=10) (n:=51) (I:=j) (N:=x.tree.length) (by rw[hρ];rfl) (by rw[hρ];rfl) hlt;rw[eJ,List.any_cons];have next:∀{w1:World} {bT:Frame},(decide (n.op=2)&&(decide (n.n<0)||decide (n.n≥idx)))=false->bA w w1->FA 44 87 Xs [] .normal [(1,iV idx),(3,bI X),(7,bI p),(59,bU A o x.tree.length c),(60,iV x.tree.length),(61,iV (iF .add .i64 j 1))] bT->Goes (G bT cs) w1 fun g' w'=>∃fr',g'=G fr' cs∧bA w0 w'∧cV 44 fr' w' (iV (if(decide (n.op=2)&&(decide (n.n<0)||decide (n.n≥idx))||(x.tree.drop (j+1)).any (fun n=>decide (n.op=2)&&(decide (n.n<0)||decide (n.n≥idx))))then 43 else if(cy t 0).1>64 then 42 else 0)):=fun{w1 bT} he f1 F1=>by rw[he,Bool.false_or];rw[inc (by omega)]at F1;exact Lj cL hl ht hfl m (j+1) (by omega) (fw.trans f1) F1
  have bad:∀{w1:World} {bT:Frame} {k:List Item},(decide (n.op=2)&&(decide (n.n<0)||decide (n.n≥idx)))=true->bA w w1->FA 44 87 (.code .ret::k) [] .normal [(6,iV 43)] bT->Goes (G bT cs) w1 fun g' w'=>∃fr',g'=G fr' cs∧bA w0 w'∧cV 44 fr' w' (iV (if(decide (n.op=2)&&(decide (n.n<0)||decide (n.n≥idx))||(x.tree.drop (j+1)).any (fun n=>decide (n.op=2)&&(decide (n.n<0)||decide (n.n≥idx))))then 43 else if(cy t 0).1>64 then 42 else 0)):=fun{w1 bT k} he f1 F1=>by rw[he,Bool.true_or,if_pos rfl];exact xo (fw.trans f1) F1
  by_cases h2:n.op=2
  ·by_cases h0:n.n<0
   ·refine(soI.go ρ hf (by rw[hρ];rfl) (cr.app bb ⟨by rw[hρ];exact decide_eq_true h2,by rw[hρ];exact decide_eq_true h0,trivial⟩) mm).trans fun g1 w1 hd=>?_;obtain⟨I,B,bT,rfl,f1,F1,_⟩:=hd;exact bad (by simp[h2,h0]) f1 F1
   ·by_cases h1:n.n≥idx
    ·refine(soJ.go ρ hf (by rw[hρ];rfl) (cr.app bb ⟨by rw[hρ];exact decide_eq_true h2,by rw[hρ];exact decide_eq_false h0,by rw[hρ];exact decide_eq_true h1,trivial⟩) mm).trans fun g1 w1 hd=>?_;obtain⟨I,B,bT,rfl,f1,F1,_⟩:=hd;exact bad (by simp[h2,h0];omega) f1 F1
    ·refine(soK.go ρ hf (by rw[hρ];rfl) (cr.app bb ⟨by rw[hρ];exact decide_eq_true h2,by rw[hρ];exact decide_eq_false h0,by rw[hρ];exact decide_eq_false h1,trivial⟩) mm).trans fun g1 w1 hd=>?_;obtain⟨I,B,bT,rfl,f1,F1,_⟩:=hd;rw[hρ]at F1;exact next (by simp[h2];omega) f1 F1
  ·refine(soH.go ρ hf (by rw[hρ];rfl) (cr.app bb ⟨by rw[hρ];exact decide_eq_false h2,trivial⟩) mm).trans fun g1 w1 hd=>?_;obtain⟨I,B,bT,rfl,f1,F1,_⟩:=hd;rw[hρ]at F1;exact next (by simp[h2]) f1 F1
theorem Lk{x:cH}{A o c X p idx:Nat}{t:T}{U:Nat->Prop}{rest:List Nd}(hX:w0.cell? ⟨X,0,none⟩=some (.string x.name)∧w0.cell? ⟨X,1,none⟩=some (bU A o x.tree.length c)∧w0.cell? ⟨X,2,none⟩=some (iV x.bY))(cL:∀i n,x.tree[i]?=some n->jF w0 A (o+i*4) n)(hl:x.tree.length≤1000000)(ht:fQ w0 U p t)(hfl:x.tree=flat t++rest):
  ∀(m j:Nat) {w:World} {cs:List Frame} {fr:Frame},j+m=x.tree.length->bA w0 w->FA 44 87 Xt [] .normal [(1,iV idx),(3,bI X),(7,bI p),(48,bU A o x.tree.length c),(49,iV x.tree.length),(50,iV j)] fr->
  Goes (G fr cs) w fun g' w'=>∃fr',g'=G fr' cs∧bA w0 w'∧cV 44 fr' w' (iV (if(x.tree.drop j).any (fun n=>decide (n.kids>16))then 44 else if x.tree.any (fun n=>decide (n.op=2)&&(decide (n.n<0)||decide (n.n≥idx)))then 43 else if(cy t 0).1>64 then 42 else 0))
 |0,j,w,cs,fr,hj,fw,hf=>by refine(soG.go (Go.Proofs.YtmobbajggkjpgaaGreat.SX.jn [(7,idx),(51,x.tree.length),(52,c),(53,o),(10,j),(4,x.bY)] [(50,A),(64,X),(62,p)] [] [(1,x.name)]) hf rfl ⟨decide_eq_false (by show ¬((j:Int)<((x.tree.length:Nat):Int));omega),trivial⟩ ⟨fw.cell hX.1,fw.cell hX.2.1,fw.cell hX.2.2,trivial⟩).trans fun g1 w1 hd=>?_;obtain⟨I,B,bT,rfl,f1,F1,_⟩:=hd;rw[aS (by omega)];simp only[List.any_nil,aF,if_false];exact Lj cL hl ht hfl x.tree.length 0 (aG _) (fw.trans f1) F1
 |m+1,j,w,cs,fr,hj,fw,hf=>by
  have hlt:j<x.tree.length:=by omega
  obtain⟨n,hn⟩:∃n,x.tree[j]?=some n:=⟨_,af hlt⟩;have iD:=(cL j n hn).keep fw;have eJ:x.tree.drop j=n::x.tree.drop (j+1):=by rw[aJ hlt];congr 1;exact au ((af hlt).symm.trans hn)
  obtain⟨ρ,hρ⟩:∃ρ:Env,ρ=bL [(7,idx),(51,x.tree.length),(52,c),(53,o),(10,j),(11,n.op),(12,n.n),(13,n.kids),(14,n.bY)] [(50,A),(64,X),(62,p)] []:=⟨_,rfl⟩;have mm:cw ρ w P6:=by rw[hρ];exact⟨iD.c0,iD.c1,iD.c2,iD.c3,trivial⟩
  have bb:=cg (ρ:=ρ) (i:=10) (n:=51) (I:=j) (N:=x.tree.length) (by rw[hρ];rfl) (by rw[hρ];rfl) hlt;rw[eJ,List.any_cons];by_cases h:n.kids>16
  ·refine(soE.go ρ hf (by rw[hρ];rfl) (cr.app bb ⟨by rw[hρ];exact decide_eq_true h,trivial⟩) mm).trans fun g1 w1 hd=>?_;obtain⟨I,B,bT,rfl,f1,F1,_⟩:=hd;rw[decide_eq_true h,Bool.true_or,if_pos rfl];exact xo (fw.trans f1) F1
  ·refine(soF.go ρ hf (by rw[hρ];rfl) (cr.app bb ⟨by rw[hρ];exact decide_eq_false h,trivial⟩) mm).trans fun g1 w1 hd=>?_;obtain⟨I,B,bT,rfl,f1,F1,_⟩:=hd;rw[hρ]at F1;rw[decide_eq_false h,Bool.false_or];refine Lk hX cL hl ht hfl m (j+1) (by omega) (fw.trans f1) ?_;rw[<-inc (by omega)];exact F1
theorem Iw{x:cH}{s:Value}{idx M:Nat}{names:List (ByteArray×Bool)}(hs:cP w s x.tree)(hl:x.tree.length≤999999)(hM:jb w M names):dS 44 #[fy x s,iV idx,.map (some M)] w fun v w'=>bA w w'∧v=iV (eZ x idx names):=by
 refine cF fun cs=>?_;obtain⟨z,A,o,c,hsz,hz,cL⟩:∃(z:Bool) (A o c:Nat),s=(match z with|true=>eS|false=>bU A o x.tree.length c)∧(z=true->x.tree=[])∧(∀i n,x.tree[i]?=some n->jF w A (o+i*4) n):=by
  rcases hs.ex with⟨h1,h2⟩|⟨A,o,c,h1,h2,h3⟩
  ·exact⟨true,0,0,0,h1,fun _=>h2,fun i n hi=>by rw[h2]at hi;cases hi⟩
  ·exact⟨false,A,o,c,h1,(fun h=>by cases h),h3⟩
 have E:=w_ Xl rfl (fy x s) (iV idx) (.map (some M));have done:∀{w1:World} {bT:Frame} {k:List Item} {n:Int},bA w w1->FA 44 87 (.code .ret::k) [] .normal [(6,iV n)] bT->eZ x idx names=n->Goes (G bT cs) w1 fun g' w'=>∃fr' v,g'=G fr' cs∧cV 44 fr' w' v∧bA w w'∧v=iV (eZ x idx names):=fun f1 F1 he=>by refine(xo f1 F1).mono fun g2 w2 bX=>?_;obtain⟨cB,rfl,f2,hL⟩:=bX;exact⟨cB,_,rfl,hL,f2,by rw[he]⟩
 obtain⟨ρ,hρ⟩:∃ρ:Env,ρ=Go.Proofs.YtmobbajggkjpgaaGreat.SX.jn [(7,idx),(51,x.tree.length),(52,c),(53,o),(4,x.bY)] [(50,A)] [(2,.map (some M))] [(1,x.name)]:=⟨_,rfl⟩;by_cases h4:(idx:Int)≥4096
 ·have he:eZ x idx names=34:=by unfold eZ;rw[if_pos h4]
  cases z with
  |false=>refine(so1.go ρ E (by rw[hsz,hρ];rfl) ⟨by rw[hρ];exact decide_eq_true h4,trivial⟩ trivial).trans fun g1 w1 hd=>?_;obtain⟨I,B,bT,rfl,f1,F1,_⟩:=hd;exact done f1 F1 he
  |true=>refine(acK.go ρ E (by rw[hsz,hρ];rfl) ⟨by rw[hρ];exact decide_eq_true h4,trivial⟩ trivial).trans fun g1 w1 hd=>?_;obtain⟨I,B,bT,rfl,f1,F1,_⟩:=hd;exact done f1 F1 he
 have acQ:Goes (G (Frame.enter Tryz.prog 44 #[fy x s,iV idx,.map (some M)] .normal) cs) w fun g' w'=>∃fr' X,g'=G fr' cs∧bA w w'∧(w'.cell? ⟨X,0,none⟩=some (.string x.name)∧w'.cell? ⟨X,1,none⟩=some s∧w'.cell? ⟨X,2,none⟩=some (iV x.bY))∧FA 44 87 (.inRegion (opsOf (m7 102)) [2,3,4,5,6,7,8,9,10]::[.code (m7 103),.inBlock 0,.code (m7 7)]) [] .normal [(1,iV idx),(2,.map (some M)),(3,bI X),(20,.string x.name)] fr':=by
  cases z with
  |false=>refine(so2.go ρ E (by rw[hsz,hρ];rfl) ⟨by rw[hρ];exact decide_eq_false h4,trivial⟩ trivial).mono fun g1 w1 hd=>?_;obtain⟨I,B,bT,rfl,f1,F1,bl,_⟩:=hd;rw[hρ]at F1 bl;have hX:=bl.1.2;exact⟨bT,B 100,rfl,f1,⟨bE hX (i:=0) rfl,by rw[hsz];exact bE hX (i:=1) rfl,bE hX (i:=2) rfl⟩,F1⟩
  |true=>refine(acL.go ρ E (by rw[hsz,hρ];rfl) ⟨by rw[hρ];exact decide_eq_false h4,trivial⟩ trivial).mono fun g1 w1 hd=>?_;obtain⟨I,B,bT,rfl,f1,F1,bl,_⟩:=hd;rw[hρ]at F1 bl;have hX:=bl.1.2;exact⟨bT,B 100,rfl,f1,⟨bE hX (i:=0) rfl,by rw[hsz];exact bE hX (i:=1) rfl,bE hX (i:=2) rfl⟩,F1⟩
 refine acQ.trans fun g1 w1 hd=>?_;obtain⟨bT,X,rfl,f1,hX,F1⟩:=hd;obtain⟨σ,bZ⟩:∃σ:Env,σ=Go.Proofs.YtmobbajggkjpgaaGreat.SX.jn [(7,idx),(51,x.tree.length),(52,c),(53,o),(4,x.bY)] [(50,A),(64,X)] [(2,.map (some M)),(8,s)] [(1,x.name)]:=⟨_,rfl⟩;have mo:∀{w':World},bA w1 w'->cw σ w' sW:=fun f=>by rw[bZ];exact⟨f.cell hX.1,f.cell hX.2.1,f.cell hX.2.2,trivial⟩
 refine(so3.go (bL [] [] [(20,.string x.name)]) (Q:=fun v w'=>v=.bool (gq x.name)) F1 rfl fun w' f2=>Ep).trans fun g2 w2 bX=>?_;obtain⟨cB,vv,rfl,f2,rfl,F2⟩:=bX;cases hn:gq x.name with
 |false=>rw[hn]at F2;refine(so4.go σ F2 (by rw[bZ];rfl) trivial (mo f2)).trans fun g3 w3 cn=>?_;obtain⟨I,B,cC,rfl,f3,F3,_⟩:=cn;exact done (n:=43) (f1.trans (f2.trans f3)) F3 (by unfold eZ;rw[if_neg h4,if_pos (.inl hn)])
 |true=>
 rw[hn]at F2;refine(so5.go σ F2 (by rw[bZ];rfl) trivial (mo f2)).trans fun g3 w3 cn=>?_;obtain⟨I,B,cC,rfl,f3,F3,_⟩:=cn;rw[bZ]at F3;have f13:=f1.trans (f2.trans f3);have VL:jb w3 M names:=bM (k:=.map _) hM f13;refine(so6.go (R:=fun v w'=>v=xb false (eT x.name names)∧w'=w3) (bL [] [] []) F3 (by decide) rfl fun tm ie x' e1 e2=>?_).trans fun g4 w4 c9=>?_
 ·unfold execOp;simp only[e1,bF];rw[ie 24 (.map (some M)) rfl,ie 26 (.string x.name) rfl];exact uG VL ⟨_,rfl,rfl,rfl⟩
 obtain⟨eg,vv,rfl,⟨rfl,rfl⟩,F4⟩:=c9;cases hf:(eT x.name names).getD false with
 |true=>rw[show xb false (eT x.name names)=.bool true from by unfold xb;rw[hf];rfl]at F4;refine(so7.go σ F4 (by rw[bZ];rfl) trivial (mo (f2.trans f3))).trans fun g5 w5 d_=>?_;obtain⟨I,B,gh,rfl,f5,F5,_⟩:=d_;exact done (n:=43) (f13.trans f5) F5 (by unfold eZ;rw[if_neg h4,if_pos (.inr hf)])
 |false=>
 rw[show xb false (eT x.name names)=.bool false from by unfold xb;rw[hf];rfl]at F4;have hnn:¬(gq x.name=false∨(eT x.name names).getD false=true):=by rw[hn,hf];simp
 refine(so8.go σ F4 (by rw[bZ];rfl) trivial (mo (f2.trans f3))).trans fun g5 w5 d_=>?_;obtain⟨I,B,gh,rfl,f5,F5,_⟩:=d_;rw[bZ]at F5;have f15:=f13.trans f5;have hs5:=hs.keep f15;refine(so9.go (bL [] [] [(31,s)]) (Q:=fun v w'=>uI w5.heap.size s x.tree w' v (dQ (x.tree.length+1) x.tree true)) F5 rfl fun w' f6=>(zu (root:=true) (x.tree.length+1) (hs5.keep f6) (by omega) (by omega)).mono fun v w6 O=>⟨O.1,?_⟩).trans fun g6 w6 dj=>?_
 ·unfold uI at O⊢;cases e:dQ (x.tree.length+1) x.tree true with
  |none=>rw[e]at O;exact O.2
  |some y=>rw[e]at O;obtain⟨_,p,s',h1,h2,h3⟩:=O;exact⟨p,s',h1,h2.eH (bA.refl _) fun x u lt=>⟨fun hh=>by omega,aA f6.size u⟩,h3⟩
 obtain⟨dJ,vv,rfl,f6,hO,F6⟩:=dj;have f26:=f2.trans (f3.trans (f5.trans f6));unfold uI at hO;cases e:dQ (x.tree.length+1) x.tree true with
 |none=>rw[e]at hO;have hO:vv=oL:=hO;subst hO;refine(soA.go σ F6 (by rw[bZ];rfl) trivial (mo f26)).trans fun g7 w7 lG=>?_;obtain⟨I,B,qj,rfl,f7,F7,_⟩:=lG;exact done (n:=1) (f15.trans (f6.trans f7)) F7 (by unfold eZ;rw[if_neg h4,if_neg hnn,e])
 |some y=>
 obtain⟨t,rest⟩:=y;rw[e]at hO;obtain⟨p,s',rfl,P1,pP⟩:=hO;have hfl:=g_ _ _ _ _ _ e;have hr6:=pP w hs;obtain rfl:z=false:=by
  cases z with
  |false=>rfl
  |true=>rw[hz rfl]at e;cases e
 have yE:w6.cell? ⟨X,0,none⟩=some (.string x.name)∧w6.cell? ⟨X,1,none⟩=some (bU A o x.tree.length c)∧w6.cell? ⟨X,2,none⟩=some (iV x.bY):=⟨f26.cell hX.1,by rw[<-show s=bU A o x.tree.length c from hsz];exact f26.cell hX.2.1,f26.cell hX.2.2⟩;have acS:∀i n,x.tree[i]?=some n->jF w6 A (o+i*4) n:=fun i n hi=>(cL i n hi).keep (f15.trans f6);have go1:∀{w7:World} {qj:Frame},bA w6 w7->¬(0<rest.length∨x.bY<0)->FA 44 87 Xt [] .normal [(1,iV idx),(3,bI X),(7,bI p),(48,bU A o x.tree.length c),(49,iV x.tree.length),(50,iV 0)] qj->Goes (G qj cs) w7 fun g' w'=>∃fr' v,g'=G fr' cs∧cV 44 fr' w' v∧bA w w'∧v=iV (eZ x idx names):=fun f7 hno F7=>by refine(Lk (rest:=rest) yE acS (by omega) P1 hfl x.tree.length 0 (aG _) f7 F7).mono fun g8 w8 xg=>?_;obtain⟨Iu,rfl,f8,hL⟩:=xg;refine⟨Iu,_,rfl,hL,(f15.trans f6).trans f8,?_⟩;unfold eZ;rw[if_neg h4,if_neg hnn,e];dsimp only;rw[if_neg hno,List.drop_zero]
 have RN:∀{w7:World} {qj:Frame} {k:List Item},bA w6 w7->(0<rest.length∨x.bY<0)->FA 44 87 (.code .ret::k) [] .normal [(6,iV 1)] qj->Goes (G qj cs) w7 fun g' w'=>∃fr' v,g'=G fr' cs∧cV 44 fr' w' v∧bA w w'∧v=iV (eZ x idx names):=fun f7 hyes F7=>done (n:=1) ((f15.trans f6).trans f7) F7 (by unfold eZ;rw[if_neg h4,if_neg hnn,e];dsimp only;rw[if_pos hyes])
 rcases hr6.ex with⟨rfl,rfl⟩|⟨A',o',c',rfl,Q3,_⟩
 ·by_cases ha:x.bY<0
  ·refine(acO.go (Go.Proofs.YtmobbajggkjpgaaGreat.SX.jn [(7,idx),(4,x.bY)] [(64,X),(62,p)] [(8,bU A o x.tree.length c)] [(1,x.name)]) F6 rfl ⟨decide_eq_true ha,trivial⟩ ⟨yE.1,yE.2.1,yE.2.2,trivial⟩).trans fun g7 w7 lG=>?_;obtain⟨I,B,qj,rfl,f7,F7,_⟩:=lG;exact RN f7 (.inr ha) F7
  ·refine(acP.go (Go.Proofs.YtmobbajggkjpgaaGreat.SX.jn [(7,idx),(51,x.tree.length),(52,c),(53,o),(4,x.bY)] [(50,A),(64,X),(62,p)] [] [(1,x.name)]) F6 rfl ⟨decide_eq_false ha,trivial⟩ ⟨yE.1,yE.2.1,yE.2.2,trivial⟩).trans fun g7 w7 lG=>?_;obtain⟨I,B,qj,rfl,f7,F7,_⟩:=lG;exact go1 f7 (by simp;omega) F7
 ·by_cases hr:((rest.length:Nat):Int)>0
  ·refine(soB.go (Go.Proofs.YtmobbajggkjpgaaGreat.SX.jn [(7,idx),(4,x.bY),(56,o'),(57,rest.length),(58,c')] [(64,X),(62,p),(55,A')] [(8,bU A o x.tree.length c)] [(1,x.name)]) F6 rfl ⟨decide_eq_true hr,trivial⟩ ⟨yE.1,yE.2.1,yE.2.2,trivial⟩).trans fun g7 w7 lG=>?_;obtain⟨I,B,qj,rfl,f7,F7,_⟩:=lG;exact RN f7 (.inl (by omega)) F7
  ·by_cases ha:x.bY<0
   ·refine(acM.go (Go.Proofs.YtmobbajggkjpgaaGreat.SX.jn [(7,idx),(4,x.bY),(56,o'),(57,rest.length),(58,c')] [(64,X),(62,p),(55,A')] [(8,bU A o x.tree.length c)] [(1,x.name)]) F6 rfl ⟨decide_eq_false hr,decide_eq_true ha,trivial⟩ ⟨yE.1,yE.2.1,yE.2.2,trivial⟩).trans fun g7 w7 lG=>?_;obtain⟨I,B,qj,rfl,f7,F7,_⟩:=lG;exact RN f7 (.inr ha) F7
   ·refine(acN.go (Go.Proofs.YtmobbajggkjpgaaGreat.SX.jn [(7,idx),(51,x.tree.length),(52,c),(53,o),(4,x.bY),(56,o'),(57,rest.length),(58,c')] [(50,A),(64,X),(62,p),(55,A')] [] [(1,x.name)]) F6 rfl ⟨decide_eq_false hr,decide_eq_false ha,trivial⟩ ⟨yE.1,yE.2.1,yE.2.2,trivial⟩).trans fun g7 w7 lG=>?_;obtain⟨I,B,qj,rfl,f7,F7,_⟩:=lG;exact go1 f7 (by omega) F7
end
noncomputable def mN(l:Nat):Code:=pc (bD Tryz.f26) (pd l)
theorem Xu:bP Tryz.prog 26 [.bC 0] .normal=.ok ⟨26,61,c8 26 [.bC 0],[.code (bD Tryz.f26)],[],.run,.normal⟩:=by kernel_rfl
theorem Xv:sP 26 61 2 3:=fun st=>by kernel_rfl
noncomputable abbrev Ci:List Item:=[.code (mN 116),.inLoop (mN 116),.inBlock 0,.code (mN 15)]
theorem ck1(z y:Bool):Pc 26 61 [.code (bD Tryz.f26)] [(0,.agg [cG z 50 53 51 52,cG y 60 66 67 68])] [] [] [] 21 [101,100] [1,4,12,13,14] Ci [bz 100,.map (some (.dyn 101)),cG z 50 53 51 52,i64 (dL z 51),i64 (.lit 0)] [(101,.map []),(100,.cells [cG z 50 53 51 52,cG y 60 66 67 68] 25)]:=by cases z<;>cases y<;>exact{}
theorem ck2(y:Bool):Pc 26 61 Ci [(1,bz 64),(4,.bC 4),(12,sA 50 53 51 52),(13,i64 (.tn (v 51))),(14,i64 (v 10))] (fN 10 51) [(eB 50 53 10 3,ss 1),(eA 50 53 10 3 1,cG y 70 73 71 72),(eA 50 53 10 3 2,i64 (v 4))] [] 24 [100] [1,4,5,6,12,13,14,19,20,21] [.inRegion (opsOf (mN 14948)) [3,4],.code (mN 14949),.code (mN 7475),.inBlock 1,.code (mN 935),.inLoop (mN 116),.inBlock 0,.code (mN 15)] [bz 64,.bC 4,i64 (v 10),bz 100,sA 50 53 51 52,i64 (.tn (v 51)),i64 (v 10),.agg [ss 1,cG y 70 73 71 72,i64 (v 4)],i64 (v 10),.bC 4] [(100,.cells [ss 1,cG y 70 73 71 72,i64 (v 4)] 50)]:=by cases y<;>exact{}
theorem ck3:di 61 (opsOf (mN 14948)) 3 [(19,.bC 19),(20,.bC 20),(21,.bC 21)] 44 [.bC 19,.bC 20,.bC 21] 22:={}
noncomputable abbrev Xw:List Item:=[.inRegion (opsOf (mN 14948)) [4],.code (mN 14949),.code (mN 7475),.inBlock 1,.code (mN 935),.inLoop (mN 116),.inBlock 0,.code (mN 15)]
abbrev Gn:List (BE×Bool):=[((.cmp .neq (v 5) (.lit 0)),true)]
theorem ck4:Pc 26 61 Xw [(1,bz 64),(4,.bC 4),(5,i64 (v 10)),(6,bz 65),(12,sA 50 53 51 52),(13,i64 (.tn (v 51))),(14,i64 (v 10)),(22,i64 (v 5))] Gn [] [] 15 [] [2,3] [.code .ret,.code (mN 7475),.inBlock 1,.code (mN 935),.inLoop (mN 116),.inBlock 0,.code (mN 15)] [i64 (v 5),i64 (v 10)] []:={}
theorem ck5:Pc 26 61 Xw [(1,bz 64),(4,.bC 4),(5,i64 (v 10)),(6,bz 65),(12,sA 50 53 51 52),(13,i64 (.tn (v 51))),(14,i64 (v 10)),(22,i64 (v 5))] [((.cmp .neq (v 5) (.lit 0)),false)] [(eD 65 0,ss 1)] [] 13 [] [1,4,12,13,14,27,29] [.inRegion (opsOf (mN 7475)) [3],.inBlock 1,.code (mN 935),.inLoop (mN 116),.inBlock 0,.code (mN 15)] [bz 64,.bC 4,sA 50 53 51 52,i64 (.tn (v 51)),i64 (v 10),.bC 4,ss 1] []:={}
theorem ck6:jO 61 (opsOf (mN 7475)) 3 [] (.mapUpdate 83 (.tmp 27) (.tmp 29) (.const (.bool true))) 0 none:={}
theorem ck7:Pc 26 61 [.inRegion (opsOf (mN 7475)) [],.inBlock 1,.code (mN 935),.inLoop (mN 116),.inBlock 0,.code (mN 15)] [(1,bz 64),(4,.bC 4),(12,sA 50 53 51 52),(13,i64 (.tn (v 51))),(14,i64 (v 10))] [] [] [] 7 [] [1,4,12,13,14] Ci [bz 64,.bC 4,sA 50 53 51 52,i64 (.tn (v 51)),i64 (.op .add .i64 (v 10) (.lit 1))] []:={}
noncomputable abbrev uJ:List Item:=[.code (mN 244),.inLoop (mN 244),.inBlock 2,.code (mN 31)]
theorem ck8(z y:Bool):Pc 26 61 Ci [(1,bz 64),(4,.bC 4),(12,cG z 50 53 51 52),(13,i64 (dL z 51)),(14,i64 (v 10))] [((.cmp .lss (v 10) (dL z 51)),false)] [(eD 64 1,cG y 60 66 67 68)] [] 17 [] [1,32,33,34] uJ [bz 64,cG y 60 66 67 68,i64 (dL y 67),i64 (.lit 0)] []:=by cases z<;>cases y<;>exact{}
abbrev Ll:List (BE×Bool):=[((.cmp .geq (v 10) (.lit 4096)),true)]
theorem ck9(z:Bool):Pc 26 61 uJ [(1,bz 64),(32,sA 60 66 67 68),(33,i64 (.tn (v 67))),(34,i64 (v 10))] (fN 10 67++Ll) [(eD 64 0,cG z 50 53 51 52),(eC 60 66 10,i64 (v 12))] [] 26 [] [2,3] [.code .ret,.code (mN 15667),.inBlock 3,.code (mN 1959),.inLoop (mN 244),.inBlock 2,.code (mN 31)] [i64 (.lit 34),i64 (.op .add .i64 (dL z 51) (v 10))] []:=by cases z<;>exact{}
noncomputable abbrev Xx:List Item:=[.code .ret,.inBlock 3,.code (mN 1959),.inLoop (mN 244),.inBlock 2,.code (mN 31)]
abbrev Xy:List (BE×Bool):=[((.cmp .geq (v 10) (.lit 4096)),false),((.cmp .lss (v 12) (.lit 0)),true)]
theorem ckA(z:Bool):Pc 26 61 uJ [(1,bz 64),(32,sA 60 66 67 68),(33,i64 (.tn (v 67))),(34,i64 (v 10))] (fN 10 67++Xy) [(eD 64 0,cG z 50 53 51 52),(eC 60 66 10,i64 (v 12))] [] 40 [] [2,3] Xx [i64 (.lit 43),i64 (.op .add .i64 (dL z 51) (v 10))] []:=by cases z<;>exact{}
theorem ckB(z:Bool):Pc 26 61 uJ [(1,bz 64),(32,sA 60 66 67 68),(33,i64 (.tn (v 67))),(34,i64 (v 10))] (fN 10 67++[((.cmp .geq (v 10) (.lit 4096)),false),((.cmp .lss (v 12) (.lit 0)),false),((.cmp .geq (v 12) (dL z 51)),true)]) [(eD 64 0,cG z 50 53 51 52),(eC 60 66 10,i64 (v 12))] [] 40 [] [2,3] Xx [i64 (.lit 43),i64 (.op .add .i64 (dL z 51) (v 10))] []:=by cases z<;>exact{}
theorem ckC(z:Bool):Pc 26 61 uJ [(1,bz 64),(32,sA 60 66 67 68),(33,i64 (.tn (v 67))),(34,i64 (v 10))] (fN 10 67++[((.cmp .geq (v 10) (.lit 4096)),false),((.cmp .lss (v 12) (.lit 0)),false),((.cmp .geq (v 12) (dL z 51)),false)]) [(eD 64 0,cG z 50 53 51 52),(eC 60 66 10,i64 (v 12))] [] 45 [] [1,32,33,34] uJ [bz 64,sA 60 66 67 68,i64 (.tn (v 67)),i64 (.op .add .i64 (v 10) (.lit 1))] []:=by cases z<;>exact{}
theorem ckD(y:Bool):Pc 26 61 uJ [(1,bz 64),(32,cG y 60 66 67 68),(33,i64 (dL y 67)),(34,i64 (v 10))] [((.cmp .lss (v 10) (dL y 67)),false)] [] [] 12 [] [2,3] [.code .ret] [i64 (.lit 0),i64 (.lit 0)] []:=by cases y<;>exact{}
structure gU where
 lets:List cH
 outs:List Int
structure pQ(w:World)(A o:Nat)(x:cH):Prop where
 ex:∃ts,w.cell? ⟨A,o,none⟩=some (.string x.name)∧w.cell? ⟨A,o+1,none⟩=some ts∧w.cell? ⟨A,o+2,none⟩=some (iV x.bY)∧cP w ts x.tree
structure rG(w:World)(s:Value)(L:List cH):Prop where
 ex:∃(z:Bool) (A o c:Nat),s=ew z A o L.length c∧(z=true->L=[])∧(z=false->L.length≤c)∧∀i x,L[i]?=some x->pQ w A (o+i*3) x
structure kB(w:World)(s:Value)(l:List Int):Prop where
 ex:∃(z:Bool) (A o c:Nat),s=ew z A o l.length c∧(z=true->l=[])∧(z=false->l.length≤c)∧∀i n,l[i]?=some n->w.cell? ⟨A,o+i,none⟩=some (iV n)
def oy(w:World)(x:Value)(F:gU):Prop:=∃ls os,x=.agg #[ls,os]∧rG w ls F.lets∧kB w os F.outs
theorem pQ.keep{w w':World}{A o:Nat}{x:cH}(h:pQ w A o x)(f:bA w w'):pQ w' A o x:=by obtain⟨ts,h1,h2,h3,h4⟩:=h.ex;exact⟨ts,f.cell h1,f.cell h2,f.cell h3,h4.keep f⟩
theorem rG.keep{w w':World}{s:Value}{L:List cH}(h:rG w s L)(f:bA w w'):rG w' s L:=by obtain⟨z,A,o,c,h1,h2,h3,h4⟩:=h.ex;exact⟨z,A,o,c,h1,h2,h3,fun i x hi=>(h4 i x hi).keep f⟩
theorem kB.keep{w w':World}{s:Value}{l:List Int}(h:kB w s l)(f:bA w w'):kB w' s l:=by obtain⟨z,A,o,c,h1,h2,h3,h4⟩:=h.ex;exact⟨z,A,o,c,h1,h2,h3,fun i x hi=>f.cell (h4 i x hi)⟩
def dN:List cH->Nat->List (ByteArray×Bool)->Option (Int×Nat)
 |[],_,_=>none
 |x::r,i,names=>if eZ x i names≠0 then some (eZ x i names,i)else dN r (i+1) (names++[(x.name,true)])
def dm(n:Nat):List Int->Nat->Int×Int
 |[],_=>(0,0)
 |o::r,i=>if(i:Int)≥4096 then(34,ek n i)else if o<0 then(43,ek n i)else if o≥n then(43,ek n i)else dm n r (i+1)
def ef(F:gU):Int×Int:=match dN F.lets 0 []with
 |some (e,i)=>(e,i)
 |none=>dm F.lets.length F.outs 0
theorem Er{s:ByteArray}:∀{names:List (ByteArray×Bool)},(∀p∈names,p.2=true)->(eT s names).getD false=false->eT s names=none:=fun{names} h hf=>by
 unfold eT at hf⊢;cases e:names.find? fun p=>s==p.1 with
 |none=>rfl
 |some p=>rw[e]at hf;have:=h p (List.mem_of_find?_eq_some e);simp[this]at hf
theorem Ix{x:cH}{i:Nat}{names:List (ByteArray×Bool)}(h:eZ x i names=0):(eT x.name names).getD false=false:=by
 unfold eZ at h;split at h
 ·cases h
 ·split at h
  ·cases h
  ·rename_i h2;cases e:(eT x.name names).getD false with
   |false=>rfl
   |true=>exact(h2 (.inr e)).elim
noncomputable abbrev Xz:List Item:=Ci
noncomputable abbrev XA:List Item:=uJ
section
variable {w w0:World}{cs:List Frame}{fr:Frame}{F:gU}{ls os:Value}{X M:Nat}
theorem Ax{k:List Item}{a b:Int}(fw:bA w0 w)(hf:FA 26 61 (.code .ret::k) [] .normal [(2,iV a),(3,iV b)] fr):Goes (G fr cs) w fun g' w'=>∃fr',g'=G fr' cs∧bA w0 w'∧cV 26 fr' w' (.tuple #[iV a,iV b]):=by refine(iN Xv hf rfl rfl).mono fun g6 w6 dj=>?_;obtain⟨dJ,rfl,rfl,hL⟩:=dj;exact⟨dJ,rfl,fw,hL⟩
theorem Gp{z:Bool}{A o c A' o' c' N:Nat}(hN:z=true->N=0)(h0:w0.cell? ⟨X,0,none⟩=some (ew z A o N c)){outs:List Int}(cL:∀i n,outs[i]?=some n->w0.cell? ⟨A',o'+i,none⟩=some (iV n)):
  ∀(r:List Int) (i:Nat) {w:World} {cs:List Frame} {fr:Frame},outs.drop i=r->bA w0 w->i≤5000->FA 26 61 XA [] .normal [(1,bI X),(32,bU A' o' outs.length c'),(33,iV outs.length),(34,iV i)] fr->
  Goes (G fr cs) w fun g' w'=>∃fr',g'=G fr' cs∧bA w0 w'∧cV 26 fr' w' (.tuple #[iV (dm N r i).1,iV (dm N r i).2])
 |[],i,w,cs,fr,hr,fw,hi,hf=>by have hlen:outs.length≤i:=aU.1 hr;refine((ckD false).go (bL [(67,outs.length),(68,c'),(66,o'),(10,i)] [(60,A'),(64,X)] []) hf rfl ⟨decide_eq_false (by show ¬((i:Int)<((outs.length:Nat):Int));omega),trivial⟩ trivial).trans fun g1 w1 hd=>?_;obtain⟨I,B,bT,rfl,f1,F1,_⟩:=hd;exact Ax (fw.trans f1) F1
 |n::r,i,w,cs,fr,hr,fw,hi,hf=>by
  obtain⟨hn,vl,hlt⟩:=dG hr;obtain⟨ρ,hρ⟩:∃ρ:Env,ρ=bL [(67,outs.length),(68,c'),(66,o'),(10,i),(12,n),(51,N),(52,c),(53,o)] [(60,A'),(64,X),(50,A)] []:=⟨_,rfl⟩;have mm:cw ρ w [(eD 64 0,cG z 50 53 51 52),(eC 60 66 10,i64 (v 12))]:=by rw[hρ];refine⟨(fw.cell h0).trans ?_,fw.cell (cL i n hn),trivial⟩;cases z<;>rfl
  have bb:=cg (ρ:=ρ) (i:=10) (n:=67) (I:=i) (N:=outs.length) (by rw[hρ];rfl) (by rw[hρ];rfl) hlt;have eN:(dL z 51).ev ρ=(N:Int):=by
   rw[hρ];cases z with
   |false=>rfl
   |true=>rw[hN rfl];rfl
  have bad:∀{k:List Item} {w1:World} {bT:Frame} {e:Int} {I:Nat->Int} {B:Nat->Nat},bA w w1->FA 26 61 (.code .ret::k) [] .normal [(2,iV e),(3,iV (iF .add .i64 ((dL z 51).ev (cQ ρ I B)) ((cQ ρ I B).i 10)))] bT->dm N (n::r) i=(e,ek N i)->Goes (G bT cs) w1 fun g' w'=>∃fr',g'=G fr' cs∧bA w0 w'∧cV 26 fr' w' (.tuple #[iV (dm N (n::r) i).1,iV (dm N (n::r) i).2]):=fun{k w1 bT e I B} f1 F1 he=>by
   rw[he];have e1:(dL z 51).ev (cQ ρ I B)=(N:Int):=by
    rw[hρ];cases z with
    |false=>rfl
    |true=>rw[hN rfl];rfl
   rw[e1]at F1;subst hρ;exact Ax (fw.trans f1) F1
  by_cases h1:(i:Int)≥4096
  ·refine((ck9 z).go ρ hf (by rw[hρ];rfl) (cr.app bb ⟨by rw[hρ];exact decide_eq_true h1,trivial⟩) mm).trans fun g1 w1 hd=>?_;obtain⟨I,B,bT,rfl,f1,F1,_⟩:=hd;exact bad (I:=I) (B:=B) (e:=34) f1 F1 (by unfold dm;rw[if_pos h1])
  by_cases h2:n<0
  ·refine((ckA z).go ρ hf (by rw[hρ];rfl) (cr.app bb ⟨by rw[hρ];exact decide_eq_false h1,by rw[hρ];exact decide_eq_true h2,trivial⟩) mm).trans fun g1 w1 hd=>?_;obtain⟨I,B,bT,rfl,f1,F1,_⟩:=hd;exact bad (I:=I) (B:=B) (e:=43) f1 F1 (by unfold dm;rw[if_neg h1,if_pos h2])
  by_cases h3:n≥N
  ·refine((ckB z).go ρ hf (by rw[hρ];rfl) (cr.app bb ⟨by rw[hρ];exact decide_eq_false h1,by rw[hρ];exact decide_eq_false h2,by show decide (ρ.i 12≥(dL z 51).ev ρ)=true;rw[eN,hρ];exact decide_eq_true h3,trivial⟩) mm).trans fun g1 w1 hd=>?_;obtain⟨I,B,bT,rfl,f1,F1,_⟩:=hd;exact bad (I:=I) (B:=B) (e:=43) f1 F1 (by unfold dm;rw[if_neg h1,if_neg h2,if_pos h3])
  refine((ckC z).go ρ hf (by rw[hρ];rfl) (cr.app bb ⟨by rw[hρ];exact decide_eq_false h1,by rw[hρ];exact decide_eq_false h2,by show decide (ρ.i 12≥(dL z 51).ev ρ)=false;rw[eN,hρ];exact decide_eq_false h3,trivial⟩) mm).trans fun g1 w1 hd=>?_;obtain⟨I,B,bT,rfl,f1,F1,_⟩:=hd;rw[hρ]at F1;unfold dm;rw[if_neg h1,if_neg h2,if_neg h3];refine Gp (c':=c') hN h0 cL r (i+1) vl (fw.trans f1) (by omega) ?_;rw[<-inc (i:=i) (by omega)];exact F1
theorem Gq{z:Bool}{A o c:Nat}{L:List cH}(hz:z=true->L=[])(hx:w0.heap.size≤M)(h0:w0.heap.size≤X)(hXM:X≠M)(hos:kB w0 os F.outs)(hL:F.lets=L)(cL:∀i x,L[i]?=some x->pQ w0 A (o+i*3) x)(hlen:L.length≤1000000)(ji:∀x∈L,x.tree.length≤999999):
  ∀(r:List cH) (i:Nat) {names:List (ByteArray×Bool)} {w:World} {cs:List Frame} {fr:Frame},L.drop i=r->bA w0 w->(cu.obj 25 [ew z A o L.length c,os]).at Tryz.prog w X->jb w M names->(∀p∈names,p.2=true)->FA 26 61 Xz [] .normal [(1,bI X),(4,.map (some M)),(12,ew z A o L.length c),(13,iV L.length),(14,iV i)] fr->
  Goes (G fr cs) w fun g' w'=>∃fr',g'=G fr' cs∧bA w0 w'∧cV 26 fr' w' (match dN r i names with
   |some (e,j)=>.tuple #[iV e,iV j]
   |none=>.tuple #[iV (dm L.length F.outs 0).1,iV (dm L.length F.outs 0).2])
 |[],i,names,w,cs,fr,hr,fw,hX,hM,hn,hf=>by
  have Es:L.length≤i:=aU.1 hr;obtain⟨y,A',o',c',rfl,hy,Dl,rH⟩:=hos.ex;have hN:z=true->L.length=0:=fun h=>by rw[hz h];rfl
  have hgo:Goes (G fr cs) w fun g' w'=>∃fr',g'=G fr' cs∧bA w w'∧FA 26 61 XA [] .normal [(1,bI X),(32,ew y A' o' F.outs.length c'),(33,iV F.outs.length),(34,iV 0)] fr':=by
   refine((ck8 z y).go (bL [(51,L.length),(52,c),(53,o),(10,i),(67,F.outs.length),(68,c'),(66,o')] [(50,A),(64,X),(60,A')] [(4,.map (some M))]) hf (by
    cases z with
    |false=>rfl
    |true=>rw[hz rfl];rfl) ⟨?_,trivial⟩ ⟨?_,trivial⟩).mono fun g1 w1 hd=>?_
   ·cases z with
    |false=>exact decide_eq_false (by show ¬((i:Int)<((L.length:Nat):Int));omega)
    |true=>exact decide_eq_false (by show ¬((i:Int)<0);omega)
   ·have:=bE hX (i:=1) rfl;refine Eq.trans this ?_;cases y<;>rfl
   ·obtain⟨I,B,bT,rfl,f1,F1,_⟩:=hd;refine⟨bT,rfl,f1,?_⟩;cases y with
    |false=>exact F1
    |true=>rw[hy rfl];exact F1
  refine hgo.trans fun g1 w1 hd=>?_;obtain⟨bT,rfl,f1,F1⟩:=hd;have Cg:=fw.trans f1;unfold dN;dsimp only;cases y with
  |true=>have ho:F.outs=[]:=hy rfl;rw[ho]at F1⊢;refine((ckD true).go (bL [(10,0)] [(64,X)] []) F1 rfl ⟨rfl,trivial⟩ trivial).trans fun g2 w2 bX=>?_;obtain⟨I,B,cB,rfl,f2,F2,_⟩:=bX;exact Ax (Cg.trans f2) F2
  |false=>have hc0:w1.cell? ⟨X,0,none⟩=some (ew z A o L.length c):=f1.cell (bE hX (i:=0) rfl);have hye:∀i n,F.outs[i]?=some n->w1.cell? ⟨A',o'+i,none⟩=some (iV n):=fun i n hi=>Cg.cell (rH i n hi);refine(Gp (w0:=w1) (c':=c') hN hc0 hye F.outs 0 rfl (bA.refl w1) (by omega) F1).mono fun g2 w2 bX=>?_;obtain⟨cB,rfl,f2,hL⟩:=bX;exact⟨cB,rfl,Cg.trans f2,hL⟩
 |x::r,i,names,w,cs,fr,hr,fw,hX,hM,hn,hf=>by
  obtain⟨hx',vl,hlt⟩:=dG hr;obtain rfl:z=false:=by
   cases z with
   |false=>rfl
   |true=>rw[hz rfl]at hlt;simp at hlt
  obtain⟨ts,a0,a1,a2,a3⟩:=((cL i x hx').keep fw).ex;have Ok:x.tree.length≤999999:=ji x (ay hx');obtain⟨y,A',o',c',hts,hy⟩:∃(y:Bool) (A' o' c':Nat),ts=ew y A' o' x.tree.length c'∧True:=by
   rcases a3.ex with⟨h1,h2⟩|⟨A',o',c',h1,h2,h3⟩
   ·exact⟨true,0,0,0,h1,trivial⟩
   ·exact⟨false,A',o',c',h1,trivial⟩
  obtain⟨ρ,hρ⟩:∃ρ:Env,ρ=Go.Proofs.YtmobbajggkjpgaaGreat.SX.jn [(51,L.length),(52,c),(53,o),(10,i),(71,x.tree.length),(72,c'),(73,o'),(4,x.bY)] [(50,A),(64,X),(70,A')] [(4,.map (some M))] [(1,x.name)]:=⟨_,rfl⟩;have e70:(cG y 70 73 71 72).ev ρ=ts:=by rw[hts,hρ];cases y<;>rfl
  refine((ck2 y).go ρ hf (by rw[hρ];rfl) (cg (ρ:=ρ) (i:=10) (n:=51) (I:=i) (N:=L.length) (by rw[hρ];rfl) (by rw[hρ];rfl) hlt) ⟨by rw[hρ];exact a0,by rw[e70,hρ];exact a1,by rw[hρ];exact a2,trivial⟩).trans fun g1 w1 hd=>?_;obtain⟨I,B,bT,rfl,f1,F1,bl,_⟩:=hd;have XB:(cG y 70 73 71 72).ev (cQ ρ I B)=ts:=by rw[hts,hρ];cases y<;>rfl
  have hb:(cu.obj 50 [.string x.name,ts,iV x.bY]).at Tryz.prog w1 (B 100):=by have:=bl.1.2;rw[<-XB];rw[hρ]at this⊢;exact this
  have fI:FA 26 61 (.inRegion (opsOf (mN 14948)) [3,4]::[.code (mN 14949),.code (mN 7475),.inBlock 1,.code (mN 935),.inLoop (mN 116),.inBlock 0,.code (mN 15)]) [] .normal [(1,bI X),(4,.map (some M)),(5,iV i),(6,bI (B 100)),(12,bU A o L.length c),(13,iV L.length),(14,iV i),(19,fy x ts),(20,iV i),(21,.map (some M))] bT:=by
   have e0:fy x ts=.agg #[.string x.name,(cG y 70 73 71 72).ev (cQ ρ I B),iV x.bY]:=by rw[XB];rfl
   rw[e0];rw[hρ]at F1⊢;exact F1
  have hM1:jb w1 M names:=bM (k:=.map _) hM f1;refine(ck3.go (bL [] [] [(19,fy x ts),(20,iV i),(21,.map (some M))]) (Q:=fun v w'=>v=iV (eZ x i names)) fI rfl fun w' f2=>Iw ((a3.keep (f1.trans f2))) Ok (bM (k:=.map _) hM1 f2)).trans fun g2 w2 bX=>?_;obtain⟨cB,vv,rfl,f2,rfl,F2⟩:=bX;have f12:=f1.trans f2;obtain⟨σ,bZ⟩:∃σ:Env,σ=Go.Proofs.YtmobbajggkjpgaaGreat.SX.jn [(51,L.length),(52,c),(53,o),(10,i),(5,eZ x i names)] [(50,A),(64,X),(65,B 100)] [(4,.map (some M))] [(1,x.name)]:=⟨_,rfl⟩;by_cases he:eZ x i names=0
  ·refine(ck5.go σ F2 (by rw[bZ];rfl) ⟨by rw[bZ];show(!decide (eZ x i names=0))=false;rw[decide_eq_true he];rfl,trivial⟩ ⟨by rw[bZ];exact f2.cell (bE hb (i:=0) rfl),trivial⟩).trans fun g3 w3 cn=>?_;obtain⟨I,B',cC,rfl,f3,F3,_⟩:=cn;rw[bZ]at F3;have f13:=f12.trans f3;have VL:jb w3 M names:=bM (k:=.map _) hM f13;have oM:=Er hn (Ix he);refine(ck6.go0 (R:=fun w'=>jb w' M (names++[(x.name,true)])∧bS (fun n=>n=M) w3 w') (bL [] [] []) F3 rfl fun tm ie x' e1 e2=>?_).trans fun g4 w4 c9=>?_
   ·unfold execOp;simp only[e1,bF];rw[ie 27 (.map (some M)) rfl,ie 29 (.string x.name) rfl];exact Em VL oM fun w' h1 h2=>⟨rfl,h1,h2⟩
   obtain⟨eg,rfl,⟨hM4,kp4⟩,F4⟩:=c9;have fw4:bA w0 w4:=cq (fw.trans f13) (kp4.mono fun n hn=>by rw[hn];exact hx);have hX4:(cu.obj 25 [ew false A o L.length c,os]).at Tryz.prog w4 X:=cu.qh (bM hX f13) kp4 fun h=>hXM h;refine(ck7.go (bL [(51,L.length),(52,c),(53,o),(10,i)] [(50,A),(64,X)] [(4,.map (some M))]) F4 rfl trivial trivial).trans fun g5 w5 d_=>?_;obtain⟨I,B',gh,rfl,f5,F5,_⟩:=d_;have ec:dN (x::r) i names=dN r (i+1) (names++[(x.name,true)]):=by
    conv=>lhs;unfold dN
    rw[if_neg (by rw[he];decide)]
   rw[ec];refine Gq hz hx h0 hXM hos hL cL hlen ji r (i+1) vl (fw4.trans f5) (bM hX4 f5) (bM (k:=.map _) hM4 f5) (fun p hp=>?_) ?_
   ·rcases aR.1 hp with hp|hp
    ·exact hn p hp
    ·obtain rfl:=ah.1 hp;rfl
   ·rw[<-inc (i:=i) (by omega)];exact F5
  ·refine(ck4.go σ F2 (by rw[bZ];rfl) ⟨by rw[bZ];show(!decide (eZ x i names=0))=true;rw[decide_eq_false he];rfl,trivial⟩ trivial).trans fun g3 w3 cn=>?_;obtain⟨I,B',cC,rfl,f3,F3,_⟩:=cn;rw[bZ]at F3;unfold dN;rw[if_pos he];exact Ax (fw.trans (f12.trans f3)) F3
theorem lP{x:Value}(h:oy w x F)(hlen:F.lets.length≤1000000)(ji:∀x∈F.lets,x.tree.length≤999999):dS 26 #[x] w fun v w'=>bA w w'∧v=.tuple #[iV (ef F).1,iV (ef F).2]:=by
 obtain⟨ls,os,rfl,hl,ho⟩:=h;obtain⟨z,A,o,c,hls,hz,oU,cL⟩:=hl.ex;obtain⟨y,A',o',c',hos,hy,Dl,rH⟩:=ho.ex;refine cF fun cs=>?_;have E:=cz Xu rfl (.agg #[ls,os]);obtain⟨ρ,hρ⟩:∃ρ:Env,ρ=bL [(51,F.lets.length),(52,c),(53,o),(67,F.outs.length),(68,c'),(66,o')] [(50,A),(60,A')] []:=⟨_,rfl⟩;refine((ck1 z y).go ρ E (by rw[hls,hos,hρ];cases z<;>cases y<;>rfl) trivial trivial).trans fun g1 w1 hd=>?_;obtain⟨I,B,bT,rfl,f1,F1,bl,inj⟩:=hd;have hM:jb w1 (B 101) []:=bl.1.2;have hX:(cu.obj 25 [ew z A o F.lets.length c,os]).at Tryz.prog w1 (B 100):=by
  have:=bl.2.1.2;have e1:(cG z 50 53 51 52).ev (cQ ρ I B)=ew z A o F.lets.length c:=by rw[hρ];cases z<;>rfl
  have e2:(cG y 60 66 67 68).ev (cQ ρ I B)=os:=by rw[hos,hρ];cases y<;>rfl
  rw[<-e1,<-e2];rw[hρ]at this⊢;exact this
 have hXM:B 100≠B 101:=fun e=>by have:=inj _ (aa _ (ah.2 rfl)) _ (ai ..) (by rw[hρ];exact e);cases this
 have fI:FA 26 61 Xz [] .normal [(1,bI (B 100)),(4,.map (some (B 101))),(12,ew z A o F.lets.length c),(13,iV F.lets.length),(14,iV 0)] bT:=by
  rw[hρ]at F1;cases z with
  |false=>exact F1
  |true=>rw[hz rfl];exact F1
 refine(Gq (w0:=w) (M:=B 101) (X:=B 100) (names:=[]) hz bl.1.1 bl.2.1.1 hXM ho rfl cL hlen ji F.lets 0 rfl f1 hX hM (nofun) fI).mono fun g2 w2 bX=>?_;obtain⟨cB,rfl,f2,hL⟩:=bX;refine⟨cB,_,rfl,hL,f2,?_⟩;unfold ef;cases dN F.lets 0 []with
 |none=>rfl
 |some p=>rfl
end
noncomputable def q22(l:Nat):Code:=pc (bD Tryz.f36) (pd l)
theorem XC:bP Tryz.prog 36 [.bC 0] .normal=.ok ⟨36,8,c8 36 [.bC 0],[.code (bD Tryz.f36)],[],.run,.normal⟩:=by kernel_rfl
theorem XD:dP 36 8 2:=fun st=>by kernel_rfl
noncomputable def q47(l:Nat):Code:=pc (bD Tryz.f81) (pd l)
theorem XF:bP Tryz.prog 81 [.bC 0,.bC 1] .normal=.ok ⟨81,22,c8 81 [.bC 0,.bC 1],[.code (bD Tryz.f81)],[],.run,.normal⟩:=by kernel_rfl
theorem XG:dP 81 22 4:=fun st=>by kernel_rfl
noncomputable def Dm(l:Nat):Code:=pc (bD Tryz.f58) (pd l)
theorem XH:bP Tryz.prog 58 [.bC 0,.bC 1] .normal=.ok ⟨58,28,c8 58 [.bC 0,.bC 1],[.code (bD Tryz.f58)],[],.run,.normal⟩:=by kernel_rfl
theorem XI:dP 58 28 4:=fun st=>by kernel_rfl
noncomputable def q48(l:Nat):Code:=pc (bD Tryz.f82) (pd l)
theorem XJ:bP Tryz.prog 82 [.bC 0,.bC 1] .normal=.ok ⟨82,41,c8 82 [.bC 0,.bC 1],[.code (bD Tryz.f82)],[],.run,.normal⟩:=by kernel_rfl
theorem xp:dP 82 41 4:=fun st=>by kernel_rfl
noncomputable def q91(l:Nat):Code:=pc (bD Tryz.f127) (pd l)
theorem XK:bP Tryz.prog 127 [.bC 0] .normal=.ok ⟨127,5,c8 127 [.bC 0],[.code (bD Tryz.f127)],[],.run,.normal⟩:=by kernel_rfl
noncomputable def q92(l:Nat):Code:=pc (bD Tryz.f128) (pd l)
theorem XL:bP Tryz.prog 128 [.bC 0] .normal=.ok ⟨128,4,c8 128 [.bC 0],[.code (bD Tryz.f128)],[],.run,.normal⟩:=by kernel_rfl
theorem rt1:Pc 36 8 [.code (bD Tryz.f36)] [(0,.agg [ss 1,sA 50 53 51 52,i64 (v 4)])] [((.cmp .lss (.lit 0) (.tn (v 51))),true)] [(⟨(.dyn 50),(v 53)⟩,i8 (v 1))] [] 14 [] [2] [.code .ret] [i8 (v 1)] []:={}
noncomputable abbrev Cj:List Item:=[.code (q47 52),.inLoop (q47 52),.inBlock 0,.code (q47 7)]
theorem sk1:Pc 81 22 [.code (bD Tryz.f81)] [(0,bz 61),(1,i64 (v 10))] [] [] [] 11 [] [0,1,5] Cj [bz 61,i64 (v 10),i64 (.lit 1)] []:={}
noncomputable abbrev P7:List (AA×AV):=[(eD 61 0,sA 50 53 51 52),(eA 50 53 10 4 2,i64 (v 13))]
theorem sk2:Pc 81 22 Cj [(0,bz 61),(1,i64 (v 10)),(5,i64 (v 8))] (fN 10 51++[((.cmp .gtr (v 8) (.lit 0)),true)]) P7 [] 31 [] [0,1,5] Cj [bz 61,i64 (.op .add .i64 (v 10) (.lit 1)),i64 (.op .add .i64 (v 8) (.op .sub .i64 (v 13) (.lit 1)))] []:={}
theorem sk3:Pc 81 22 Cj [(0,bz 61),(1,i64 (v 10)),(5,i64 (v 8))] [((.cmp .gtr (v 8) (.lit 0)),false)] [] [] 13 [] [4] [.code .ret] [i64 (v 10)] []:={}
noncomputable abbrev zx:List Item:=[.code (Dm 244),.inLoop (Dm 244),.inBlock 0,.code (Dm 31)]
theorem kd1:Pc 58 28 [.code (bD Tryz.f58)] [(0,bz 61),(1,i64 (v 10))] (fN 10 51) P7 [] 29 [] [0,5,6,16,17] zx [bz 61,cj,i64 (.op .add .i64 (v 10) (.lit 1)),i64 (v 13),i64 (.lit 0)] []:={}
noncomputable abbrev XM:List Item:=[.inRegion (opsOf (Dm 7833)) [2,3],.inBlock 1,.code (Dm 1959),.inLoop (Dm 244),.inBlock 0,.code (Dm 31)]
theorem acW:Pc 58 28 zx [(0,bz 61),(5,cj),(6,i64 (v 11)),(16,i64 (v 13)),(17,i64 (v 9))] [((.cmp .lss (v 9) (v 13)),true)] [] [] 20 [101] [0,5,6,16,17,23,24] XM [bz 61,.slice (some (eD 101 0)) (.lit 1) (v 101),i64 (v 11),i64 (v 13),i64 (v 9),bz 61,i64 (v 11)] [(101,.row [i64 (v 11)] 3 (v 101))]:={}
abbrev XN:List (BE×Bool):=[((.cmp .lss (v 9) (v 13)),true),((.cmp .leq (.plus (.tn (v 8)) (.lit 1)) (.lit 1048576)),true)]
theorem kd2:Pc 58 28 zx [(0,bz 61),(5,.slice (some (eD 52 0)) (v 8) (v 57)),(6,i64 (v 11)),(16,i64 (v 13)),(17,i64 (v 9))] XN [] [(52,.pre false 65 (v 8) [] [] [] 3 (v 57))] 20 [101] [0,5,6,16,17,23,24] XM [bz 61,.slice (some (eD 101 0)) (.plus (.tn (v 8)) (.lit 1)) (v 101),i64 (v 11),i64 (v 13),i64 (v 9),bz 61,i64 (v 11)] [(101,.pre false 65 (v 8) [] [] [i64 (v 11)] 3 (v 101))]:={}
theorem kd3:di 28 (opsOf (Dm 7833)) 2 [(23,.bC 23),(24,.bC 24)] 81 [.bC 23,.bC 24] 25:={}
theorem kd4:Pc 58 28 [.inRegion (opsOf (Dm 7833)) [3],.inBlock 1,.code (Dm 1959),.inLoop (Dm 244),.inBlock 0,.code (Dm 31)] [(0,bz 61),(5,.bC 5),(16,i64 (v 13)),(17,i64 (v 9)),(25,i64 (v 12))] [] [] [] 8 [] [0,5,6,16,17] zx [bz 61,.bC 5,i64 (v 12),i64 (v 13),i64 (.op .add .i64 (v 9) (.lit 1))] []:={}
theorem kd5:Pc 58 28 zx [(0,bz 61),(5,.bC 5),(6,i64 (v 11)),(16,i64 (v 13)),(17,i64 (v 9))] [((.cmp .lss (v 9) (v 13)),false)] [] [] 12 [] [4] [.code .ret] [.bC 5] []:={}
noncomputable abbrev Lm:List Item:=[.code .ret,.inBlock 0,.code (q48 7)]
theorem bd1:Pc 82 41 [.code (bD Tryz.f82)] [(0,.agg [i64 (v 1),i64 (v 2),i64 (v 3),i64 (v 4)]),(1,i64 (v 5))] [((.cmp .gtr (v 4) (.lit 0)),true),((.cmp .eql (v 4) (.lit 0)),false),((.cmp .eql (.op .rem .i64 (v 5) (v 4)) (.lit 0)),true)] [] [] 29 [] [4] Lm [.iface 100 (.agg [i8 (.lit 3),i64 (v 5)])] []:={}
theorem bd2:Pc 82 41 [.code (bD Tryz.f82)] [(0,.agg [i64 (v 1),i64 (v 2),i64 (v 3),i64 (v 4)]),(1,i64 (v 5))] [((.cmp .gtr (v 4) (.lit 0)),true),((.cmp .eql (v 4) (.lit 0)),false),((.cmp .eql (.op .rem .i64 (v 5) (v 4)) (.lit 0)),false),((.cmp .gtr (v 3) (.lit 0)),true),((.cmp .eql (v 3) (.lit 0)),false),((.cmp .eql (.op .rem .i64 (v 5) (v 3)) (.lit 0)),true)] [] [] 44 [] [4] Lm [.iface 100 (.agg [i8 (.lit 2),i64 (v 5)])] []:={}
theorem bd3:Pc 82 41 [.code (bD Tryz.f82)] [(0,.agg [i64 (v 1),i64 (v 2),i64 (v 3),i64 (v 4)]),(1,i64 (v 5))] [((.cmp .gtr (v 4) (.lit 0)),true),((.cmp .eql (v 4) (.lit 0)),false),((.cmp .eql (.op .rem .i64 (v 5) (v 4)) (.lit 0)),false),((.cmp .gtr (v 3) (.lit 0)),true),((.cmp .eql (v 3) (.lit 0)),false),((.cmp .eql (.op .rem .i64 (v 5) (v 3)) (.lit 0)),false)] [] [] 51 [] [4] [.code .ret] [.iface 97 (i64 (.op .add .i64 (.op .mul .i64 (v 5) (v 1)) (v 2)))] []:={}
theorem bd4:Pc 82 41 [.code (bD Tryz.f82)] [(0,.agg [i64 (v 1),i64 (v 2),i64 (v 3),i64 (v 4)]),(1,i64 (v 5))] [((.cmp .gtr (v 4) (.lit 0)),true),((.cmp .eql (v 4) (.lit 0)),false),((.cmp .eql (.op .rem .i64 (v 5) (v 4)) (.lit 0)),false),((.cmp .gtr (v 3) (.lit 0)),false)] [] [] 51 [] [4] [.code .ret] [.iface 97 (i64 (.op .add .i64 (.op .mul .i64 (v 5) (v 1)) (v 2)))] []:={}
theorem bd5:Pc 82 41 [.code (bD Tryz.f82)] [(0,.agg [i64 (v 1),i64 (v 2),i64 (v 3),i64 (v 4)]),(1,i64 (v 5))] [((.cmp .gtr (v 4) (.lit 0)),false),((.cmp .gtr (v 3) (.lit 0)),true),((.cmp .eql (v 3) (.lit 0)),false),((.cmp .eql (.op .rem .i64 (v 5) (v 3)) (.lit 0)),true)] [] [] 44 [] [4] Lm [.iface 100 (.agg [i8 (.lit 2),i64 (v 5)])] []:={}
theorem bd6:Pc 82 41 [.code (bD Tryz.f82)] [(0,.agg [i64 (v 1),i64 (v 2),i64 (v 3),i64 (v 4)]),(1,i64 (v 5))] [((.cmp .gtr (v 4) (.lit 0)),false),((.cmp .gtr (v 3) (.lit 0)),true),((.cmp .eql (v 3) (.lit 0)),false),((.cmp .eql (.op .rem .i64 (v 5) (v 3)) (.lit 0)),false)] [] [] 51 [] [4] [.code .ret] [.iface 97 (i64 (.op .add .i64 (.op .mul .i64 (v 5) (v 1)) (v 2)))] []:={}
theorem bd7:Pc 82 41 [.code (bD Tryz.f82)] [(0,.agg [i64 (v 1),i64 (v 2),i64 (v 3),i64 (v 4)]),(1,i64 (v 5))] [((.cmp .gtr (v 4) (.lit 0)),false),((.cmp .gtr (v 3) (.lit 0)),false)] [] [] 51 [] [4] [.code .ret] [.iface 97 (i64 (.op .add .i64 (.op .mul .i64 (v 5) (v 1)) (v 2)))] []:={}
theorem e91:Pc 127 5 [.code (bD Tryz.f127)] [(0,i64 (v 1))] [] [] [] 10 [100] [2] [.code .ret] [bz 100] [(100,.cells [i8 (.lit 1),i64 (v 1)] 43)]:={}
theorem e92:Pc 128 4 [.code (bD Tryz.f128)] [(0,.agg [i8 (v 1),i64 (v 2)])] [] [] [] 10 [101,100] [2] [.code .ret] [bz 101] [(101,.cells [i8 (v 1),i64 (v 2)] 43),(100,.cells [i8 (v 1),i64 (v 2)] 100)]:={}
section
mutual
def ue:T->Prop
 |.nd n ks=>n.kids=ks.length∧oS ks
def oS:List T->Prop
 |[]=>True
 |t::r=>ue t∧oS r
end
theorem oS.app:∀{a b:List T},oS a->oS b->oS (a++b)
 |[],b,_,h=>h
 |t::a,b,h,h'=>⟨h.1,oS.app h.2 h'⟩
theorem jd:∀(a b:List T),bW (a++b)=bW a++bW b
 |[],b=>rfl
 |t::a,b=>by show flat t++bW (a++b)=flat t++bW a++bW b;rw[jd a b,aY]
def ga(e:Int×Int):Value:=if e.1=1 then .iface 97 (iV e.2)else .iface 100 (.agg #[cY e.1,iV e.2])
def dh(e:Int×Int):Value:=.agg #[cY e.1,iV e.2]
structure cU where
 mul:Int
 add:Int
 cA:Int
 panics:Int
def c_(m:cU):Value:=.agg #[iV m.mul,iV m.add,iV m.cA,iV m.panics]
def Ck(a b:Int):Int:=iF .rem .i64 a b
def eF(m:cU)(k:Int):Int×Int:=
 if m.panics>0∧Ck k m.panics=0 then(3,k)
 else if m.cA>0∧Ck k m.cA=0 then(2,k)
 else(1,iF .add .i64 (iF .mul .i64 k m.mul) m.add)
structure mu(w:World)(b:Nat)(tree:List Nd)(A o c:Nat)(es:Value)(m:cU):Prop where
 c0:w.cell? ⟨b,0,none⟩=some (bU A o tree.length c)
 c1:w.cell? ⟨b,1,none⟩=some es
 c2:w.cell? ⟨b,2,none⟩=some (iV m.mul)
 c3:w.cell? ⟨b,3,none⟩=some (iV m.add)
 c4:w.cell? ⟨b,4,none⟩=some (iV m.cA)
 c5:w.cell? ⟨b,5,none⟩=some (iV m.panics)
 el:∀i n,tree[i]?=some n->jF w A (o+i*4) n
theorem mu.keep{w w':World}{b:Nat}{tree:List Nd}{A o c:Nat}{es:Value}{m:cU}(h:mu w b tree A o c es m)(f:bA w w'):mu w' b tree A o c es m:=
 ⟨f.cell h.c0,f.cell h.c1,f.cell h.c2,f.cell h.c3,f.cell h.c4,f.cell h.c5,fun i n hi=>(h.el i n hi).keep f⟩
section
variable {w w0:World}{cs:List Frame}{fr:Frame}
theorem Ln{x:cH}{A o c:Nat}{n:Nd}(h:jF w A o n)(hl:0<x.tree.length):dS 36 #[fy x (bU A o x.tree.length c)] w fun v w'=>bA w w'∧v=cY n.op:=
 (rt1.jy XD (Go.Proofs.YtmobbajggkjpgaaGreat.SX.jn [(51,x.tree.length),(52,c),(53,o),(4,x.bY),(1,n.op)] [(50,A)] [] [(1,x.name)]) (cz XC rfl (fy x (bU A o x.tree.length c))) rfl ⟨decide_eq_true (by show(0:Int)<((x.tree.length:Nat):Int);omega),trivial⟩ ⟨h.c0,trivial⟩).mono fun v w' ⟨f,I,B,e,_⟩=>⟨f,e⟩
theorem Iy{m:cU}{k:Int}:dS 82 #[c_ m,iV k] w fun v w'=>bA w w'∧v=ga (eF m k):=by
 have E:=dV XJ rfl (c_ m) (iV k);obtain⟨ρ,hρ⟩:∃ρ:Env,ρ=bL [(1,m.mul),(2,m.add),(3,m.cA),(4,m.panics),(5,k)] [] []:=⟨_,rfl⟩;have ne:∀{x:Int},x>0->decide (x=0)=false:=fun h=>decide_eq_false (by omega);have t:=fun{p:Prop} [Decidable p] (h:p)=>decide_eq_true h;have out:∀{x:Value} {e:Int×Int},eF m k=e->x=ga e->x=ga (eF m k):=fun h1 h2=>by rw[h1];exact h2
 by_cases h4:m.panics>0
 ·by_cases r4:Ck k m.panics=0
  ·subst hρ;exact(bd1.jy xp (bL [(1,m.mul),(2,m.add),(3,m.cA),(4,m.panics),(5,k)] [] []) E rfl ⟨decide_eq_true h4,ne h4,decide_eq_true r4,trivial⟩ trivial).mono fun v w' ⟨f,I,B,e,_⟩=>⟨f,out (e:=(3,k)) (by unfold eF;rw[if_pos ⟨h4,r4⟩]) e⟩
  ·by_cases h3:m.cA>0
   ·by_cases r3:Ck k m.cA=0
    ·exact(bd2.jy xp (bL [(1,m.mul),(2,m.add),(3,m.cA),(4,m.panics),(5,k)] [] []) E rfl ⟨decide_eq_true h4,ne h4,decide_eq_false r4,decide_eq_true h3,ne h3,decide_eq_true r3,trivial⟩ trivial).mono fun v w' ⟨f,I,B,e,_⟩=>⟨f,out (e:=(2,k)) (by unfold eF;rw[if_neg fun h=>r4 h.2,if_pos ⟨h3,r3⟩]) e⟩
    ·exact(bd3.jy xp (bL [(1,m.mul),(2,m.add),(3,m.cA),(4,m.panics),(5,k)] [] []) E rfl ⟨decide_eq_true h4,ne h4,decide_eq_false r4,decide_eq_true h3,ne h3,decide_eq_false r3,trivial⟩ trivial).mono fun v w' ⟨f,I,B,e,_⟩=>⟨f,out (e:=(1,iF .add .i64 (iF .mul .i64 k m.mul) m.add)) (by unfold eF;rw[if_neg fun h=>r4 h.2,if_neg fun h=>r3 h.2]) e⟩
   ·exact(bd4.jy xp (bL [(1,m.mul),(2,m.add),(3,m.cA),(4,m.panics),(5,k)] [] []) E rfl ⟨decide_eq_true h4,ne h4,decide_eq_false r4,decide_eq_false h3,trivial⟩ trivial).mono fun v w' ⟨f,I,B,e,_⟩=>⟨f,out (e:=(1,iF .add .i64 (iF .mul .i64 k m.mul) m.add)) (by unfold eF;rw[if_neg fun h=>r4 h.2,if_neg fun h=>h3 h.1]) e⟩
 ·by_cases h3:m.cA>0
  ·by_cases r3:Ck k m.cA=0
   ·exact(bd5.jy xp (bL [(1,m.mul),(2,m.add),(3,m.cA),(4,m.panics),(5,k)] [] []) E rfl ⟨decide_eq_false h4,decide_eq_true h3,ne h3,decide_eq_true r3,trivial⟩ trivial).mono fun v w' ⟨f,I,B,e,_⟩=>⟨f,out (e:=(2,k)) (by unfold eF;rw[if_neg fun h=>h4 h.1,if_pos ⟨h3,r3⟩]) e⟩
   ·exact(bd6.jy xp (bL [(1,m.mul),(2,m.add),(3,m.cA),(4,m.panics),(5,k)] [] []) E rfl ⟨decide_eq_false h4,decide_eq_true h3,ne h3,decide_eq_false r3,trivial⟩ trivial).mono fun v w' ⟨f,I,B,e,_⟩=>⟨f,out (e:=(1,iF .add .i64 (iF .mul .i64 k m.mul) m.add)) (by unfold eF;rw[if_neg fun h=>h4 h.1,if_neg fun h=>r3 h.2]) e⟩
  ·exact(bd7.jy xp (bL [(1,m.mul),(2,m.add),(3,m.cA),(4,m.panics),(5,k)] [] []) E rfl ⟨decide_eq_false h4,decide_eq_false h3,trivial⟩ trivial).mono fun v w' ⟨f,I,B,e,_⟩=>⟨f,out (e:=(1,iF .add .i64 (iF .mul .i64 k m.mul) m.add)) (by unfold eF;rw[if_neg fun h=>h4 h.1,if_neg fun h=>h3 h.1]) e⟩
theorem uf{f nt d:Nat}{lv:List (Nat×Value)}{k:List Item}{R:Nat}{a b:Value}(he:∀st,results? Tryz.prog (OO [] [(⟨.dyn 62,.lit 0⟩,.bC 40),(⟨.dyn 62,.lit 1⟩,.bC 41)]) hN f (dz nt st [(d,bz 62)])=.ok (.agg [.bC 40,.bC 41]))(hf:FA f nt (.code .ret::k) [] .normal lv fr)(hd:fP d lv=some (bI R))(h0:w.cell? ⟨R,0,none⟩=some a)(h1:w.cell? ⟨R,1,none⟩=some b):
  Goes (G fr cs) w fun g' w'=>∃fr',g'=G fr' cs∧w'=w∧cV f fr' w' (.agg #[a,b]):=
 kV (ρ:=bL [] [(62,R)] [(40,a),(41,b)]) (lA:=[(d,bz 62)]) (bs:=[]) (mem:=[(⟨.dyn 62,.lit 0⟩,.bC 40),(⟨.dyn 62,.lit 1⟩,.bC 41)]) hf (a:=.agg [.bC 40,.bC 41]) (fun p hp=>by
  obtain rfl:=ah.1 hp;exact cD hd) he (nofun) (fun q hq=>by
  simp only[aj,az,or_false]at hq;rcases hq with rfl|rfl
  ·exact h0
  ·exact h1)
theorem Gr{e:Int×Int}:∃t p,ga e=.iface t p∧(t=97∨t=100)∧∀w,dS (if t=97 then 127 else 128) #[p] w fun v w'=>bA w w'∧v=dh e:=by
 unfold ga;by_cases h:e.1=1
 ·rw[if_pos h];refine⟨97,_,rfl,.inl rfl,fun w=>?_⟩;rw[if_pos rfl];refine cF fun cs=>?_;refine(e91.go (bL [(1,e.2)] [] []) (cz XK rfl (iV e.2)) rfl trivial trivial).trans fun g1 w1 hd=>?_;obtain⟨I,B,bT,rfl,f1,F1,bl,_⟩:=hd;refine(uf (d:=2) (fun st=>by kernel_rfl) F1 rfl (bE bl.1.2 (i:=0) rfl) (bE bl.1.2 (i:=1) rfl)).mono fun g2 w2 bX=>?_;obtain⟨cB,rfl,rfl,hL⟩:=bX;refine⟨cB,_,rfl,hL,f1,?_⟩;unfold dh;rw[h];rfl
 ·rw[if_neg h];refine⟨100,_,rfl,.inr rfl,fun w=>?_⟩;rw[if_neg (by decide)];refine cF fun cs=>?_;refine(e92.go (bL [(1,e.1),(2,e.2)] [] []) (cz XL rfl (dh e)) rfl trivial trivial).trans fun g1 w1 hd=>?_;obtain⟨I,B,bT,rfl,f1,F1,bl,_⟩:=hd;have hb:(cu.obj 43 [cY e.1,iV e.2]).at Tryz.prog w1 (B 101):=bl.1.2;refine(uf (d:=2) (fun st=>by kernel_rfl) F1 rfl (bE hb (i:=0) rfl) (bE hb (i:=1) rfl)).mono fun g2 w2 bX=>?_;obtain⟨cB,rfl,rfl,hL⟩:=bX;exact⟨cB,_,rfl,hL,f1,rfl⟩
theorem sY(t:T):0<(flat t).length:=by cases t;simp[flat]
theorem zy{b:Nat}{tree:List Nd}{A o c:Nat}{es:Value}{m:cU}(hw:mu w0 b tree A o c es m)(hl:tree.length≤1000000):
  ∀(n:Nat) (ts:List T) (bY:Nat) {rest:List Nd} {w:World} {cs:List Frame} {fr:Frame},(bW ts).length=n->oS ts->tree.drop bY=bW ts++rest->bA w0 w->FA 81 22 Cj [] .normal [(0,bI b),(1,iV bY),(5,iV ts.length)] fr->
  Goes (G fr cs) w fun g' w'=>∃fr',g'=G fr' cs∧bA w0 w'∧cV 81 fr' w' (iV ((bY+(bW ts).length:Nat):Int))
 |n,[],bY,rest,w,cs,fr,hn,hwf,Od,fw,hf=>by refine(sk3.go (bL [(10,bY),(8,0)] [(61,b)] []) hf rfl ⟨rfl,trivial⟩ trivial).trans fun g1 w1 hd=>?_;obtain⟨I,B,bT,rfl,f1,F1,_⟩:=hd;refine(leave1 XG F1 rfl).mono fun g2 w2 bX=>?_;obtain⟨cB,rfl,rfl,hL⟩:=bX;exact⟨cB,rfl,fw.trans f1,hL⟩
 |0,t::ts,bY,rest,w,cs,fr,hn,hwf,Od,fw,hf=>by have:=sY t;simp only[bW,ak]at hn;omega
 |n+1,.nd x ks::ts,bY,rest,w,cs,fr,hn,hwf,Od,fw,hf=>by
  have oJ:tree.drop bY=x::(bW (ks++ts)++rest):=by rw[Od,jd];simp[bW,flat]
  obtain⟨hx,bX,hlt⟩:=dG oJ;have iD:=(hw.el bY x hx).keep fw;have hk:x.kids=ks.length:=hwf.1.1;have XO:(bW (ks++ts)).length=n:=by rw[jd,ak];simp only[bW,flat,ak,aC]at hn;omega
  have hfl:=fX (ks++ts);have jD:(bW (ks++ts)).length≤1000000:=by have:=congrArg aP bX;rw[ak,br]at this;omega
  refine(sk2.go (bL [(10,bY),(8,(aP (T.nd x ks::ts):Nat)),(51,tree.length),(52,c),(53,o),(13,x.kids)] [(61,b),(50,A)] []) hf rfl (cr.app (cg (i:=10) (n:=51) (I:=bY) (N:=tree.length) rfl rfl hlt) ⟨decide_eq_true (by show((aP (T.nd x ks::ts):Nat):Int)>0;simp only[aC];omega),trivial⟩) ⟨fw.cell hw.c0,iD.c2,trivial⟩).trans fun g1 w1 hd=>?_;obtain⟨I,B,bT,rfl,f1,F1,_⟩:=hd;have e1:iF .add .i64 ((aP (T.nd x ks::ts):Nat):Int) (iF .sub .i64 x.kids 1)=(((ks++ts).length:Nat):Int):=by rw[ak]at hfl⊢;show IntKind.wrap .i64 (_+IntKind.wrap .i64 (x.kids-1))=_;rw[iM (x:=x.kids-1) (by omega),iM (by simp only[aC];omega)];simp only[aC];omega
  have e2:bY+(bW (.nd x ks::ts)).length=bY+1+(bW (ks++ts)).length:=by rw[hn,XO];omega
  rw[e2];refine zy hw hl n (ks++ts) (bY+1) XO (oS.app hwf.1.2 hwf.2) bX (fw.trans f1) ?_;rw[<-e1,<-inc (i:=bY) (by omega)];exact F1
theorem Lq{b:Nat}{tree:List Nd}{A o c:Nat}{es:Value}{m:cU}{t:T}{bY:Nat}{rest:List Nd}(hw:mu w b tree A o c es m)(hl:tree.length≤1000000)(ht:ue t)(hd:tree.drop bY=flat t++rest):dS 81 #[bI b,iV bY] w fun v w'=>bA w w'∧v=iV ((bY+(flat t).length:Nat):Int):=by refine cF fun cs=>?_;refine(sk1.go (bL [(10,bY)] [(61,b)] []) (dV XF rfl (bI b) (iV bY)) rfl trivial trivial).trans fun g1 w1 oJ=>?_;obtain⟨I,B,bT,rfl,f1,F1,_⟩:=oJ;refine(zy hw hl (bW [t]).length [t] bY (rest:=rest) rfl ⟨ht,trivial⟩ (by rw[hd];simp[bW]) f1 F1).mono fun g2 w2 bX=>?_;obtain⟨cB,rfl,f2,hL⟩:=bX;refine⟨cB,_,rfl,hL,f2,?_⟩;simp[bW]
end
end
def fU:Nat->List T->List Nat
 |_,[]=>[]
 |k,t::ts=>k::fU (k+(flat t).length) ts
theorem fR:∀(ts:List T) (k:Nat),(fU k ts).length=ts.length
 |[],_=>rfl
 |t::ts,k=>by simp[fU,fR ts]
def fS(w:World)(base:Nat)(s:Value)(l:List Int):Prop:=(s=eS∧l=[])∨(l≠[]∧∃B c,s=bU B 0 l.length c∧base≤B∧(cu.vec 3 c (l.map iV)).at Tryz.prog w B)
theorem fS.keep{w w':World}{base:Nat}{s:Value}{l:List Int}(h:fS w base s l)(f:bA w w'):fS w' base s l:=by
 rcases h with h|⟨h1,B,c,h2,h3,h4⟩
 ·exact .inl h
 ·exact .inr ⟨h1,B,c,h2,h3,bM h4 f⟩
theorem Gs(inf:TypeInfo)(hi:Tryz.prog.info? 3=some inf):inf.size=1:=by
 have e2:(Tryz.prog.info? 3).map (fun x=>x.size)=some 1:=by kernel_rfl
 rw[hi]at e2;exact au e2
theorem Gt{w:World}{B c:Nat}{xs:List Value}(h:(cu.vec 3 c xs).at Tryz.prog w B):xs.length≤c:=by obtain⟨arr,rest,inf,e1,e2,e3,e4⟩:=h;have:=congrArg aP e3;rw[Gs inf e2]at e4;rw[ak]at this;have:arr.size=arr.toList.length:=rfl;omega
noncomputable abbrev KdH:List Item:=zx
noncomputable abbrev KdT(l:List Nat):List Item:=.inRegion (opsOf (Dm 15667)) l::[.inBlock 1,.code (Dm 1959),.inLoop (Dm 244),.inBlock 0,.code (Dm 31)]
section
variable {w w0:World}{cs:List Frame}{fr:Frame}{b base i k:Nat}{kids:Int}{s:Value}{l:List Int}
theorem Ol(hb:base≤w.heap.size)(hs:fS w base s l)(hl:l.length≤1000000)(hi:(i:Int)<kids)(hf:FA 58 28 KdH [] .normal [(0,bI b),(5,s),(6,iV k),(16,iV kids),(17,iV i)] fr):
  Goes (G fr cs) w fun g' w'=>∃fr' s',g'=G fr' cs∧bS (fun x=>base≤x) w w'∧fS w' base s' (l++[(k:Int)])∧FA 58 28 (KdT [2,3]) [] .normal [(0,bI b),(5,s'),(6,iV k),(16,iV kids),(17,iV i),(23,bI b),(24,iV k)] fr':=by
 rcases hs with⟨rfl,rfl⟩|⟨hne,B0,c,rfl,P4,hv⟩
 ·refine(acW.go (bL [(11,k),(13,kids),(9,i)] [(61,b)] []) hf rfl ⟨decide_eq_true hi,trivial⟩ trivial).mono fun g1 w1 hd=>?_;obtain⟨I,B,bT,rfl,f1,F1,bl,_⟩:=hd;exact⟨bT,_,rfl,f1.mono fun x hx=>aA hb hx,.inr ⟨by simp,B 101,(I 101).toNat,rfl,aA hb bl.1.1,bl.1.2⟩,F1⟩
 ·obtain⟨ρ,hρ⟩:∃ρ:Env,ρ=bL [(11,k),(13,kids),(9,i),(8,l.length),(57,c)] [(61,b),(52,B0)] [(65,.agg (l.map iV).toArray)]:=⟨_,rfl⟩;have P5:ρ.b 52=B0:=by rw[hρ];rfl
  refine(kd2.B6 ρ hf (by rw[hρ];rfl) ⟨by rw[hρ];exact decide_eq_true hi,by rw[hρ];show decide ((((l.length:Int).toNat:Nat):Int)+1≤1048576)=true;exact decide_eq_true (by omega),trivial⟩ trivial (nofun) ⟨⟨.vec 3 c (l.map iV),by rw[P5];exact hv,rfl,by rw[hρ];rfl,fun inf vU=>?_,(nofun),by rw[hρ];rfl⟩,trivial⟩ ei).mono fun g1 w1 hd=>?_
  ·rw[Gs inf vU,aE,hρ];show l.length=((l.length:Nat):Int).toNat*1;omega
  obtain⟨I,B,bT,rfl,kp,F1,bl,_⟩:=hd;have own:∀x,lF ρ w [(52,.pre false 65 (v 8) [] [] [] 3 (v 57))] x->base≤x:=fun x hx=>by
   rcases hx with h|⟨y,hy,e⟩
   ·exact aA hb h
   ·obtain rfl:=ah.1 hy;have e:ρ.b 52=x:=e;omega
  have hB:(cu.vec 3 (I 101).toNat ((l++[(k:Int)]).map iV)).at Tryz.prog w1 (B 101):=by have:=bl.1.2;rw[hρ]at this;rw[List.map_append];exact this
  have hn:((((l.length:Int).toNat:Nat):Int)+1).toNat=(l++[(k:Int)]).length:=by rw[ak,List.length_singleton];omega
  refine⟨bT,bU (B 101) 0 (l++[(k:Int)]).length (I 101).toNat,rfl,kp.mono own,.inr ⟨by simp,B 101,(I 101).toNat,rfl,own _ bl.1.1,hB⟩,?_⟩;rw[<-hn];rw[hρ]at F1;exact F1
theorem Gu{tree:List Nd}{A o c:Nat}{es:Value}{m:cU}(hw:mu w0 b tree A o c es m)(hl:tree.length≤1000000)(hk:kids≤1000000):
  ∀(ts:List T) (i k:Nat) {rest:List Nd} {l:List Int} {s:Value} {w:World} {cs:List Frame} {fr:Frame},(i:Int)+ts.length=kids->l.length=i->oS ts->tree.drop k=bW ts++rest->bA w0 w->fS w w0.heap.size s l->FA 58 28 KdH [] .normal [(0,bI b),(5,s),(6,iV k),(16,iV kids),(17,iV i)] fr->
  Goes (G fr cs) w fun g' w'=>∃fr' s',g'=G fr' cs∧bA w0 w'∧fS w' w0.heap.size s' (l++(fU k ts).map Int.ofNat)∧cV 58 fr' w' s'
 |[],i,k,rest,l,s,w,cs,fr,hi,Es,hwf,hd,fw,hs,hf=>by refine(kd5.go (bL [(11,k),(13,kids),(9,i)] [(61,b)] [(5,s)]) hf rfl ⟨decide_eq_false (by show ¬((i:Int)<kids);simp only[aZ]at hi;omega),trivial⟩ trivial).trans fun g1 w1 hd=>?_;obtain⟨I,B,bT,rfl,f1,F1,_⟩:=hd;refine(leave1 XI F1 rfl).mono fun g2 w2 bX=>?_;obtain⟨cB,rfl,rfl,hL⟩:=bX;refine⟨cB,s,rfl,fw.trans f1,?_,hL⟩;simp only[fU,List.map_nil,aQ];exact hs.keep f1
 |t::ts,i,k,rest,l,s,w,cs,fr,hi,Es,hwf,hd,fw,hs,hf=>by
  simp only[aC]at hi;refine(Ol fw.size hs (by omega) (by omega) hf).trans fun g1 w1 oJ=>?_;obtain⟨bT,s1,rfl,kp,hs1,F1⟩:=oJ;have Cg:=cq fw kp;have hd':tree.drop k=flat t++(bW ts++rest):=by rw[hd];simp[bW]
  refine(kd3.go (bL [] [] [(23,bI b),(24,iV k)]) (Q:=fun v w'=>v=iV ((k+(flat t).length:Nat):Int)) F1 rfl fun w' f2=>Lq (hw.keep (Cg.trans f2)) hl hwf.1 hd').trans fun g2 w2 bX=>?_;obtain⟨cB,vv,rfl,f2,rfl,F2⟩:=bX;refine(kd4.go (bL [(13,kids),(9,i),(12,(k+(flat t).length:Nat))] [(61,b)] [(5,s1)]) F2 rfl trivial trivial).trans fun g3 w3 cn=>?_;obtain⟨I,B,cC,rfl,f3,F3,_⟩:=cn;have Et:tree.drop (k+(flat t).length)=bW ts++rest:=by rw[<-List.drop_drop,hd',List.drop_left]
  have:=Gu hw hl hk ts (i+1) (k+(flat t).length) (rest:=rest) (l:=l++[(k:Int)]) (s:=s1) (w:=w3) (cs:=cs) (fr:=cC) (by omega) (by rw[ak,List.length_singleton,Es]) hwf.2 Et (Cg.trans (f2.trans f3)) (hs1.keep (f2.trans f3)) (by rw[<-inc (i:=i) (by omega)];exact F3)
  refine this.mono fun g4 w4 c9=>?_;obtain⟨eg,s',h1,h2,h3,h4⟩:=c9;refine⟨eg,s',h1,h2,?_,h4⟩;rw[aY]at h3;exact h3
theorem Lr{tree:List Nd}{A o c bY:Nat}{es:Value}{m:cU}{n:Nd}{ks:List T}{rest:List Nd}(hw:mu w b tree A o c es m)(hl:tree.length≤1000000)(ht:ue (.nd n ks))(hd:tree.drop bY=flat (.nd n ks)++rest):dS 58 #[bI b,iV bY] w fun v w'=>bA w w'∧fS w' w.heap.size v ((fU (bY+1) ks).map Int.ofNat):=by
 refine cF fun cs=>?_;have oJ:tree.drop bY=n::(bW ks++rest):=by rw[hd];simp[flat]
 obtain⟨hx,bX,hlt⟩:=dG oJ;have iD:=hw.el bY n hx;have hfl:=fX ks;have hle:(bW ks).length≤tree.length:=by have:=congrArg aP bX;rw[ak,br]at this;omega
 have hk:n.kids=ks.length:=ht.1;refine(kd1.go (bL [(10,bY),(51,tree.length),(52,c),(53,o),(13,n.kids)] [(61,b),(50,A)] []) (dV XH rfl (bI b) (iV bY)) rfl (cg (i:=10) (n:=51) (I:=bY) (N:=tree.length) rfl rfl hlt) ⟨hw.c0,iD.c2,trivial⟩).trans fun g1 w1 oJ=>?_;obtain⟨I,B,bT,rfl,f1,F1,_⟩:=oJ;refine(Gu (hw) hl (kids:=n.kids) (by omega) ks 0 (bY+1) (rest:=rest) (l:=[]) (s:=eS) (by omega) rfl ht.2 bX f1 (.inl ⟨rfl,rfl⟩) (by rw[<-inc (i:=bY) (by omega)];exact F1)).mono fun g2 w2 bX=>?_
 obtain⟨cB,s',rfl,f2,h3,h4⟩:=bX;exact⟨cB,s',rfl,h4,f2,h3⟩
end
noncomputable def lQ(l:Nat):Code:=pc (bD Tryz.f37) (pd l)
theorem XP:bP Tryz.prog 37 [.bC 0,.bC 1] .normal=.ok ⟨37,83,c8 37 [.bC 0,.bC 1],[.code (bD Tryz.f37)],[],.run,.normal⟩:=by kernel_rfl
theorem Ls:dP 37 83 4:=fun st=>by kernel_rfl
noncomputable def j6(l:Nat):Code:=pc (bD Tryz.f60) (pd l)
theorem XQ:bP Tryz.prog 60 [.bC 0,.bC 1,.bC 2,.bC 3] .normal=.ok ⟨60,98,c8 60 [.bC 0,.bC 1,.bC 2,.bC 3],[.code (bD Tryz.f60)],[],.run,.normal⟩:=by kernel_rfl
theorem Lt:dP 60 98 8:=fun st=>by kernel_rfl
theorem nd1:Pc 37 83 [.code (bD Tryz.f37)] [(0,bz 61),(1,i64 (v 10))] (fN 10 51) [(eD 61 0,sA 50 53 51 52),(eB 50 53 10 4,i8 (v 1)),(eA 50 53 10 4 1,i64 (v 2)),(eA 50 53 10 4 2,i64 (v 3)),(eA 50 53 10 4 3,i64 (v 4))] [] 20 [100] [0,5,20,21] [.inRegion (opsOf (lQ 14)) [2,3],.code (lQ 15)] [bz 61,bz 100,bz 61,i64 (v 10)] [(100,.cells [i8 (v 1),i64 (v 2),i64 (v 3),i64 (v 4)] 77)]:={}
theorem nd2:di 83 (opsOf (lQ 14)) 2 [(20,.bC 20),(21,.bC 21)] 58 [.bC 20,.bC 21] 22:={}
noncomputable abbrev Cm:List Item:=[.inRegion (opsOf (lQ 14)) [3],.code (lQ 15)]
noncomputable abbrev Gv:List Item:=[.code .ret,.inBlock 0,.code (lQ 31)]
theorem nd3:Pc 37 83 Cm [(0,bz 61),(5,bz 64),(22,.bC 22)] [((.cmp .eql (v 1) (.lit 1)),true)] yC [] 22 [] [4] Gv [.iface 97 (i64 (v 2))] []:={}
noncomputable abbrev XR:List (AA×AV):=[(eD 64 0,i8 (v 1)),(eD 64 1,i64 (v 2)),(eD 64 2,i64 (v 3)),(eD 64 3,i64 (v 4)),(eD 61 1,sA 70 73 71 72),(eB 70 73 2 2,i8 (v 15)),(eA 70 73 2 2 1,i64 (v 16))]
theorem Om:Pc 37 83 Cm [(0,bz 61),(5,bz 64),(22,.bC 22)] (((.cmp .eql (v 1) (.lit 1)),false)::((.cmp .eql (v 1) (.lit 2)),true)::((.cmp .eql (v 15) (.lit 1)),true)::fN 2 71) XR [] 23 [] [4] Gv [.iface 97 (i64 (v 16))] []:={}
theorem Lu:Pc 37 83 Cm [(0,bz 61),(5,bz 64),(22,.bC 22)] (((.cmp .eql (v 1) (.lit 1)),false)::((.cmp .eql (v 1) (.lit 2)),true)::((.cmp .eql (v 15) (.lit 1)),false)::fN 2 71) XR [] 23 [] [4] Gv [.iface 100 (.agg [i8 (v 15),i64 (v 16)])] []:={}
abbrev XS:List (BE×Bool):=[((.cmp .eql (v 1) (.lit 1)),false),((.cmp .eql (v 1) (.lit 2)),false),((.cmp .eql (v 1) (.lit 11)),true)]
noncomputable abbrev Lv:List Item:=[.code (lQ 125924),.inLoop (lQ 125924),.inBlock 1,.code (lQ 15741),.inBlock 0,.code (lQ 31)]
theorem nd5:Pc 37 83 Cm [(0,bz 61),(5,bz 64),(22,sA 80 83 81 82)] XS yC [] 36 [] [0,6,43,44,45] Lv [bz 61,sA 80 83 81 82,sA 80 83 81 82,i64 (.tn (v 81)),i64 (.lit 0)] []:={}
theorem nd6:Pc 37 83 Lv [(0,bz 61),(6,sA 80 83 81 82),(43,sA 80 83 81 82),(44,i64 (.tn (v 81))),(45,i64 (v 10))] (fN 10 81) [(eC 80 83 10,i64 (v 12))] [] 19 [] [0,6,43,44,45,50,51] [.inRegion (opsOf (lQ 8059186)) [2,3,4,5,6,7,8],.code (lQ 8059187),.inBlock 2,.code (lQ 1007399),.inLoop (lQ 125924),.inBlock 1,.code (lQ 15741),.inBlock 0,.code (lQ 31)] [bz 61,sA 80 83 81 82,sA 80 83 81 82,i64 (.tn (v 81)),i64 (v 10),bz 61,i64 (v 12)] []:={}
theorem nd7:di 83 (opsOf (lQ 8059186)) 2 [(50,.bC 50),(51,.bC 51)] 37 [.bC 50,.bC 51] 52:={}
noncomputable abbrev kz5:List Item:=[.inRegion (opsOf (lQ 8059186)) [3,4,5,6,7,8],.code (lQ 8059187),.inBlock 2,.code (lQ 1007399),.inLoop (lQ 125924),.inBlock 1,.code (lQ 15741),.inBlock 0,.code (lQ 31)]
theorem nd8:Pc 37 83 kz5 [(0,bz 61),(6,sA 80 83 81 82),(43,sA 80 83 81 82),(44,i64 (.tn (v 81))),(45,i64 (v 10)),(52,.iface 97 (i64 (v 6)))] [] [] [] 18 [] [4] [.code .ret,.inBlock 2,.code (lQ 1007399),.inLoop (lQ 125924),.inBlock 1,.code (lQ 15741),.inBlock 0,.code (lQ 31)] [.iface 97 (i64 (v 6))] []:={}
theorem nd9:Pc 37 83 kz5 [(0,bz 61),(6,sA 80 83 81 82),(43,sA 80 83 81 82),(44,i64 (.tn (v 81))),(45,i64 (v 10)),(52,.iface 100 (.agg [i8 (v 5),i64 (v 6)]))] [] [] [] 19 [] [0,6,43,44,45] Lv [bz 61,sA 80 83 81 82,sA 80 83 81 82,i64 (.tn (v 81)),i64 (.op .add .i64 (v 10) (.lit 1))] []:={}
theorem ndA:Pc 37 83 Lv [(0,bz 61),(6,sA 80 83 81 82),(43,sA 80 83 81 82),(44,i64 (.tn (v 81))),(45,i64 (v 10))] [((.cmp .lss (v 10) (.tn (v 81))),false),((.cmp .lss (.lit 0) (.tn (v 81))),true)] [(⟨(.dyn 80),(v 83)⟩,i64 (v 12))] [] 13 [] [60,63] [.inRegion (opsOf (lQ 31482)) [4,5],.code .ret,.inBlock 0,.code (lQ 31)] [bz 61,i64 (v 12)] []:={}
theorem ndB:di 83 (opsOf (lQ 31482)) 4 [(60,.bC 60),(63,.bC 63)] 37 [.bC 60,.bC 63] 64:={}
theorem ndC:Pc 37 83 [.inRegion (opsOf (lQ 31482)) [5],.code .ret,.inBlock 0,.code (lQ 31)] [(64,.bC 64)] [] [] [] 2 [] [4] Gv [.bC 64] []:={}
theorem ndD:Pc 37 83 Cm [(0,bz 61),(5,bz 64),(22,sA 80 83 81 82)] [((.cmp .eql (v 1) (.lit 1)),false),((.cmp .eql (v 1) (.lit 2)),false),((.cmp .eql (v 1) (.lit 11)),false),((.cmp .lss (.lit 0) (.tn (v 81))),true)] [(eD 64 0,i8 (v 1)),(eD 64 1,i64 (v 2)),(eD 64 2,i64 (v 3)),(eD 64 3,i64 (v 4)),(⟨(.dyn 80),(v 83)⟩,i64 (v 12))] [] 36 [] [0,5,6,65,68] [.inRegion (opsOf (lQ 124)) [4],.code (lQ 125),.code (lQ 63)] [bz 61,bz 64,sA 80 83 81 82,bz 61,i64 (v 12)] []:={}
theorem ndE:di 83 (opsOf (lQ 124)) 4 [(65,.bC 65),(68,.bC 68)] 37 [.bC 65,.bC 68] 69:={}
noncomputable abbrev P8:List Item:=[.inRegion (opsOf (lQ 124)) [],.code (lQ 125),.code (lQ 63)]
theorem ndF:Pc 37 83 P8 [(0,bz 61),(5,bz 64),(6,sA 80 83 81 82),(69,.iface 100 (.agg [i8 (v 5),i64 (v 6)]))] [] [] [] 20 [] [4] [.code .ret,.inBlock 3,.code (lQ 63)] [.iface 100 (.agg [i8 (v 5),i64 (v 6)])] []:={}
theorem ndG:Pc 37 83 P8 [(0,bz 61),(5,bz 64),(6,sA 80 83 81 82),(69,.iface 97 (i64 (v 6)))] [] yC [] 26 [] [78,79,80,81] [.inRegion (opsOf (lQ 16058)) [4,5],.code .ret,.inBlock 3,.code (lQ 63)] [bz 61,.agg [i8 (v 1),i64 (v 2),i64 (v 3),i64 (v 4)],sA 80 83 81 82,i64 (v 6)] []:={}
theorem ndH:di 83 (opsOf (lQ 16058)) 4 [(78,.bC 78),(79,.bC 79),(80,.bC 80),(81,.bC 81)] 60 [.bC 78,.bC 79,.bC 80,.bC 81] 82:={}
theorem ndI:Pc 37 83 [.inRegion (opsOf (lQ 16058)) [5],.code .ret,.inBlock 3,.code (lQ 63)] [(82,.bC 82)] [] [] [] 2 [] [4] [.code .ret,.inBlock 3,.code (lQ 63)] [.bC 82] []:={}
theorem wi1:Pc 60 98 [.code (bD Tryz.f60)] [(0,bz 61),(1,.agg [i8 (v 1),i64 (v 2),i64 (v 3),i64 (v 4)]),(2,sA 80 83 81 82),(3,i64 (v 5))] [((.cmp .eql (v 1) (.lit 12)),true),((.cmp .neq (v 5) (.lit 0)),true),((.cmp .lss (.lit 1) (.tn (v 81))),true)] [(⟨(.dyn 80),(.plus (.tn (v 83)) (.lit 1))⟩,i64 (v 12))] [] 31 [] [20,23] [.inRegion (opsOf (j6 1700)) [4,5],.code .ret,.code (j6 213),.inBlock 0,.code (j6 7)] [bz 61,i64 (v 12)] []:={}
theorem wi2:di 98 (opsOf (j6 1700)) 4 [(20,.bC 20),(23,.bC 23)] 37 [.bC 20,.bC 23] 24:={}
theorem wi3:Pc 60 98 [.inRegion (opsOf (j6 1700)) [5],.code .ret,.code (j6 213),.inBlock 0,.code (j6 7)] [(24,.bC 24)] [] [] [] 2 [] [8] [.code .ret,.code (j6 213),.inBlock 0,.code (j6 7)] [.bC 24] []:={}
theorem wi4:Pc 60 98 [.code (bD Tryz.f60)] [(0,bz 61),(1,.agg [i8 (v 1),i64 (v 2),i64 (v 3),i64 (v 4)]),(2,sA 80 83 81 82),(3,i64 (v 5))] [((.cmp .eql (v 1) (.lit 12)),true),((.cmp .neq (v 5) (.lit 0)),false),((.cmp .lss (.lit 2) (.tn (v 81))),true)] [(⟨(.dyn 80),(.plus (.tn (v 83)) (.lit 2))⟩,i64 (v 12))] [] 32 [] [25,28] [.inRegion (opsOf (j6 426)) [4,5],.code .ret,.inBlock 0,.code (j6 7)] [bz 61,i64 (v 12)] []:={}
theorem wi5:di 98 (opsOf (j6 426)) 4 [(25,.bC 25),(28,.bC 28)] 37 [.bC 25,.bC 28] 29:={}
noncomputable abbrev zz:List Item:=[.code .ret,.inBlock 0,.code (j6 7)]
theorem wi6:Pc 60 98 [.inRegion (opsOf (j6 426)) [5],.code .ret,.inBlock 0,.code (j6 7)] [(29,.bC 29)] [] [] [] 2 [] [8] zz [.bC 29] []:={}
theorem wi7:Pc 60 98 [.code (bD Tryz.f60)] [(0,bz 61),(1,.agg [i8 (v 1),i64 (v 2),i64 (v 3),i64 (v 4)]),(2,sA 80 83 81 82),(3,i64 (v 5))] [((.cmp .eql (v 1) (.lit 12)),false),((.cmp .eql (v 1) (.lit 3)),true)] [] [] 31 [] [8] zz [.iface 97 (i64 (.op .sub .i64 (.lit 0) (v 5)))] []:={}
theorem wi8:Pc 60 98 [.code (bD Tryz.f60)] [(0,bz 61),(1,.agg [i8 (v 1),i64 (v 2),i64 (v 3),i64 (v 4)]),(2,sA 80 83 81 82),(3,i64 (v 5))] [((.cmp .eql (v 1) (.lit 12)),false),((.cmp .eql (v 1) (.lit 3)),false),((.cmp .eql (v 1) (.lit 13)),true)] [] [] 37 [] [8] zz [.iface 100 (.agg [i8 (.lit 2),i64 (v 5)])] []:={}
theorem wi9:Pc 60 98 [.code (bD Tryz.f60)] [(0,bz 61),(1,.agg [i8 (v 1),i64 (v 2),i64 (v 3),i64 (v 4)]),(2,sA 80 83 81 82),(3,i64 (v 5))] [((.cmp .eql (v 1) (.lit 12)),false),((.cmp .eql (v 1) (.lit 3)),false),((.cmp .eql (v 1) (.lit 13)),false),((.cmp .eql (v 1) (.lit 14)),true)] [] [] 43 [] [8] zz [.iface 100 (.agg [i8 (.lit 3),i64 (v 5)])] []:={}
theorem wiA:Pc 60 98 [.code (bD Tryz.f60)] [(0,bz 61),(1,.agg [i8 (v 1),i64 (v 2),i64 (v 3),i64 (v 4)]),(2,sA 80 83 81 82),(3,i64 (v 5))] [((.cmp .eql (v 1) (.lit 12)),false),((.cmp .eql (v 1) (.lit 3)),false),((.cmp .eql (v 1) (.lit 13)),false),((.cmp .eql (v 1) (.lit 14)),false),((.cmp .eql (v 1) (.lit 15)),true)] [(eD 61 2,i64 (v 21)),(eD 61 3,i64 (v 22)),(eD 61 4,i64 (v 23)),(eD 61 5,i64 (v 24))] [] 49 [] [50,51] [.inRegion (opsOf (j6 55292)) [5,6],.code .ret,.inBlock 0,.code (j6 7)] [.agg [i64 (v 21),i64 (v 22),i64 (v 23),i64 (v 24)],i64 (v 5)] []:={}
theorem wiB:di 98 (opsOf (j6 55292)) 5 [(50,.bC 50),(51,.bC 51)] 82 [.bC 50,.bC 51] 52:={}
theorem wiC:Pc 60 98 [.inRegion (opsOf (j6 55292)) [6],.code .ret,.inBlock 0,.code (j6 7)] [(52,.bC 52)] [] [] [] 2 [] [8] zz [.bC 52] []:={}
theorem wiD:Pc 60 98 [.code (bD Tryz.f60)] [(0,bz 61),(1,.agg [i8 (v 1),i64 (v 2),i64 (v 3),i64 (v 4)]),(2,sA 80 83 81 82),(3,i64 (v 5))] [((.cmp .eql (v 1) (.lit 12)),false),((.cmp .eql (v 1) (.lit 3)),false),((.cmp .eql (v 1) (.lit 13)),false),((.cmp .eql (v 1) (.lit 14)),false),((.cmp .eql (v 1) (.lit 15)),false),((.cmp .eql (v 1) (.lit 16)),true)] [] [] 54 [] [8] zz [.iface 97 (i64 (v 5))] []:={}
theorem wiE:Pc 60 98 [.code (bD Tryz.f60)] [(0,bz 61),(1,.agg [i8 (v 1),i64 (v 2),i64 (v 3),i64 (v 4)]),(2,sA 80 83 81 82),(3,i64 (v 5))] [((.cmp .eql (v 1) (.lit 12)),false),((.cmp .eql (v 1) (.lit 3)),false),((.cmp .eql (v 1) (.lit 13)),false),((.cmp .eql (v 1) (.lit 14)),false),((.cmp .eql (v 1) (.lit 15)),false),((.cmp .eql (v 1) (.lit 16)),false)] [] [] 59 [100] [0,3,5,9,58] [.inRegion (opsOf (j6 60)) [1,2,3],.code (j6 61),.code (j6 31)] [bz 61,i64 (v 5),bz 100,i64 (v 5),sA 80 83 81 82] [(100,.cells [i8 (v 1),i64 (v 2),i64 (v 3),i64 (v 4)] 77)]:={}
theorem wiF:jO 98 (opsOf (j6 60)) 1 [] (.slice 23 (.tmp 58) (some (.const (.int .i64 1))) none none) 23 (some 59):={}
noncomputable abbrev uK:List Item:=[.code (j6 244),.inLoop (j6 244),.inBlock 1,.code (j6 31)]
theorem wiG:Pc 60 98 [.inRegion (opsOf (j6 60)) [2,3],.code (j6 61),.code (j6 31)] [(0,bz 61),(3,i64 (v 5)),(5,bz 64),(9,i64 (v 7)),(59,sA 80 83 81 82)] [] [] [] 5 [] [0,3,5,9,59,60,61] uK [bz 61,i64 (v 5),bz 64,i64 (v 7),sA 80 83 81 82,i64 (.tn (v 81)),i64 (.lit 0)] []:={}
theorem wiH:Pc 60 98 uK [(0,bz 61),(3,i64 (v 5)),(5,bz 64),(9,i64 (v 7)),(59,sA 80 83 81 82),(60,i64 (.tn (v 81))),(61,i64 (v 10))] (fN 10 81) [(eC 80 83 10,i64 (v 12))] [] 19 [] [0,3,5,9,11,59,60,61,66,67] [.inRegion (opsOf (j6 15666)) [2,3,4,5,6,7,8],.code (j6 15667),.inBlock 2,.code (j6 1959),.inLoop (j6 244),.inBlock 1,.code (j6 31)] [bz 61,i64 (v 5),bz 64,i64 (v 7),i64 (v 12),sA 80 83 81 82,i64 (.tn (v 81)),i64 (v 10),bz 61,i64 (v 12)] []:={}
theorem wiI:di 98 (opsOf (j6 15666)) 2 [(66,.bC 66),(67,.bC 67)] 37 [.bC 66,.bC 67] 68:={}
noncomputable abbrev Lx:List Item:=[.inRegion (opsOf (j6 15666)) [3,4,5,6,7,8],.code (j6 15667),.inBlock 2,.code (j6 1959),.inLoop (j6 244),.inBlock 1,.code (j6 31)]
theorem wiJ:Pc 60 98 Lx [(0,bz 61),(3,i64 (v 5)),(5,bz 64),(9,i64 (v 7)),(59,sA 80 83 81 82),(60,i64 (.tn (v 81))),(61,i64 (v 10)),(11,i64 (v 12)),(68,.iface 100 (.agg [i8 (v 8),i64 (v 6)]))] [] [] [] 18 [] [74,75] [.inRegion (opsOf (j6 250676)) [2,3],.code .ret,.code (j6 31335),.inBlock 2,.code (j6 1959),.inLoop (j6 244),.inBlock 1,.code (j6 31)] [bz 61,i64 (v 12)] []:={}
theorem wiK:di 98 (opsOf (j6 250676)) 2 [(74,.bC 74),(75,.bC 75)] 37 [.bC 74,.bC 75] 76:={}
theorem wiL:Pc 60 98 [.inRegion (opsOf (j6 250676)) [3],.code .ret,.code (j6 31335),.inBlock 2,.code (j6 1959),.inLoop (j6 244),.inBlock 1,.code (j6 31)] [(76,.bC 76)] [] [] [] 2 [] [8] [.code .ret,.code (j6 31335),.inBlock 2,.code (j6 1959),.inLoop (j6 244),.inBlock 1,.code (j6 31)] [.bC 76] []:={}
theorem acY:Pc 60 98 Lx [(0,bz 61),(3,i64 (v 5)),(5,bz 64),(9,i64 (v 7)),(59,sA 80 83 81 82),(60,i64 (.tn (v 81))),(61,i64 (v 10)),(11,i64 (v 12)),(68,.iface 97 (i64 (v 6)))] K5 [(eD 64 0,i8 (v 1))] [] 45 [] [0,3,5,9,59,60,61] uK [bz 61,i64 (v 5),bz 64,i64 (.op .add .i64 (v 5) (v 6)),sA 80 83 81 82,i64 (.tn (v 81)),i64 (.op .add .i64 (v 10) (.lit 1))] []:={}
theorem acZ:Pc 60 98 Lx [(0,bz 61),(3,i64 (v 5)),(5,bz 64),(9,i64 (v 7)),(59,sA 80 83 81 82),(60,i64 (.tn (v 81))),(61,i64 (v 10)),(11,i64 (v 12)),(68,.iface 97 (i64 (v 6)))] RB [(eD 64 0,i8 (v 1))] [] 51 [] [0,3,5,9,59,60,61] uK [bz 61,i64 (v 5),bz 64,i64 (.op .sub .i64 (v 5) (v 6)),sA 80 83 81 82,i64 (.tn (v 81)),i64 (.op .add .i64 (v 10) (.lit 1))] []:={}
theorem ac0:Pc 60 98 Lx [(0,bz 61),(3,i64 (v 5)),(5,bz 64),(9,i64 (v 7)),(59,sA 80 83 81 82),(60,i64 (.tn (v 81))),(61,i64 (v 10)),(11,i64 (v 12)),(68,.iface 97 (i64 (v 6)))] RD [(eD 64 0,i8 (v 1))] [] 57 [] [0,3,5,9,59,60,61] uK [bz 61,i64 (v 5),bz 64,i64 (.op .mul .i64 (v 5) (v 6)),sA 80 83 81 82,i64 (.tn (v 81)),i64 (.op .add .i64 (v 10) (.lit 1))] []:={}
theorem ac1:Pc 60 98 Lx [(0,bz 61),(3,i64 (v 5)),(5,bz 64),(9,i64 (v 7)),(59,sA 80 83 81 82),(60,i64 (.tn (v 81))),(61,i64 (v 10)),(11,i64 (v 12)),(68,.iface 97 (i64 (v 6)))] [((.cmp .eql (v 1) (.lit 4)),false),((.cmp .eql (v 1) (.lit 5)),false),((.cmp .eql (v 1) (.lit 6)),false)] [(eD 64 0,i8 (v 1))] [] 52 [] [0,3,5,9,59,60,61] uK [bz 61,i64 (v 5),bz 64,i64 (v 6),sA 80 83 81 82,i64 (.tn (v 81)),i64 (.op .add .i64 (v 10) (.lit 1))] []:={}
theorem wiN:Pc 60 98 uK [(0,bz 61),(3,i64 (v 5)),(5,bz 64),(9,i64 (v 7)),(59,sA 80 83 81 82),(60,i64 (.tn (v 81))),(61,i64 (v 10))] [((.cmp .lss (v 10) (.tn (v 81))),false)] [] [] 13 [] [8] [.code .ret] [.iface 97 (i64 (v 7))] []:={}
def k7(op x y:Int):Int:=if op=4 then iF .add .i64 x y else if op=5 then iF .sub .i64 x y else if op=6 then iF .mul .i64 x y else y
def oN(op x:Int):Int->List (Int×Int)->Int×Int
 |acc,[]=>(1,acc)
 |acc,e::r=>if e.1=1 then oN op x (k7 op x e.2) r else e
def lp(op x:Int)(m:cU)(vs:List (Int×Int)):Int×Int:=
 if op=12 then(if x≠0 then vs.getD 1 (0,0)else vs.getD 2 (0,0))
 else if op=3 then(1,iF .sub .i64 0 x)
 else if op=13 then(2,x)
 else if op=14 then(3,x)
 else if op=15 then eF m x
 else if op=16 then(1,x)
 else oN op x x (vs.drop 1)
def qH(op n:Int)(E:List (Int×Int))(m:cU)(vs:List (Int×Int)):Int×Int:=
 if op=1 then(1,n)
 else if op=2 then E.getD n.toNat (0,0)
 else if op=11 then(vs.find? fun e=>decide (e.1=1)).getD (vs.headD (0,0))
 else if(vs.headD (0,0)).1=1 then lp op (vs.headD (0,0)).2 m vs else vs.headD (0,0)
mutual
def lS(E:List (Int×Int))(m:cU):T->Int×Int
 |.nd n ks=>qH n.op n.n E m (rO E m ks)
def rO(E:List (Int×Int))(m:cU):List T->List (Int×Int)
 |[]=>[]
 |t::ts=>lS E m t::rO E m ts
end
theorem vm(E:List (Int×Int))(m:cU):∀ts:List T,rO E m ts=ts.map (lS E m)
 |[]=>rfl
 |t::ts=>by rw[rO,vm E m ts];rfl
mutual
def m8(N:Nat):T->Prop
 |.nd n ks=>(n.op=2->0≤n.n∧n.n<N)∧(n.op≠1->n.op≠2->ks≠[])∧(n.op=12->ks.length=3)∧lq N ks
def lq(N:Nat):List T->Prop
 |[]=>True
 |t::ts=>m8 N t∧lq N ts
end
theorem oS.mem:∀{ts:List T},oS ts->∀t∈ts,ue t
 |t'::ts,h,t,ht=>by
  rcases aj.1 ht with rfl|ht
  ·exact h.1
  ·exact oS.mem (ts:=ts) h.2 t ht
theorem lq.mem{N:Nat}:∀{ts:List T},lq N ts->∀t∈ts,m8 N t
 |t'::ts,h,t,ht=>by
  rcases aj.1 ht with rfl|ht
  ·exact h.1
  ·exact lq.mem (ts:=ts) h.2 t ht
theorem kW{e:Int×Int}(h:e.1=1):ga e=.iface 97 (iV e.2):=by unfold ga;rw[if_pos h]
theorem mw{e:Int×Int}(h:e.1≠1):ga e=.iface 100 (.agg #[cY e.1,iV e.2]):=by unfold ga;rw[if_neg h]
def ndV(n:Nd):Value:=.agg #[cY n.op,iV n.n,iV n.kids,iV n.bY]
structure XT(w:World)(b:Nat)(m:cU):Prop where
 c2:w.cell? ⟨b,2,none⟩=some (iV m.mul)
 c3:w.cell? ⟨b,3,none⟩=some (iV m.add)
 c4:w.cell? ⟨b,4,none⟩=some (iV m.cA)
 c5:w.cell? ⟨b,5,none⟩=some (iV m.panics)
theorem XU:under? Tryz.prog 23=.ok (.slice 3):=by kernel_rfl
theorem XV:sizeOf? Tryz.prog 3=.ok 1:=by kernel_rfl
def Gw(w0:World)(b:Nat)(js:List Nat)(vs:List (Int×Int)):Prop:=∀(i j:Nat) (e:Int×Int),js[i]?=some j->vs[i]?=some e->∀w',bA w0 w'->dS 37 #[bI b,iV j] w' fun v w2=>bA w' w2∧v=ga e
noncomputable abbrev WiH:List Item:=uK
section
variable {w w0:World}{cs:List Frame}{fr:Frame}
theorem both{js:List Nat}{vs:List (Int×Int)}(hl:js.length=vs.length){i:Nat}(h:i<vs.length):∃j e,js[i]?=some j∧vs[i]?=some e:=⟨_,_,af (hl▸h),af h⟩
theorem Gx{b X K o' c:Nat}{op x:Int}{js:List Nat}{vs:List (Int×Int)}(hl:js.length=vs.length)(jD:js.length≤1000000)(hX:w0.cell? ⟨X,0,none⟩=some (cY op))(hc:∀i j:Nat,js[i+1]?=some j->w0.cell? ⟨K,o'+i,none⟩=some (iV j))(hk:Gw w0 b js vs):
  ∀(m i:Nat) (acc:Int) {w:World} {cs:List Frame} {fr:Frame},i+m+1=vs.length->bA w0 w->FA 60 98 WiH [] .normal [(0,bI b),(3,iV x),(5,bI X),(9,iV acc),(59,bU K o' (js.length-1) c),(60,iV ((js.length-1:Nat):Int)),(61,iV i)] fr->
  Goes (G fr cs) w fun g' w'=>∃fr',g'=G fr' cs∧bA w0 w'∧cV 60 fr' w' (ga (oN op x acc (vs.drop (i+1))))
 |0,i,acc,w,cs,fr,hi,fw,hf=>by refine(wiN.go (bL [(5,x),(7,acc),(83,o'),(81,(js.length-1:Nat)),(82,c),(10,i)] [(61,b),(64,X),(80,K)] []) hf rfl ⟨decide_eq_false (by show ¬((i:Int)<((js.length-1:Nat):Int));omega),trivial⟩ trivial).trans fun g1 w1 hd=>?_;obtain⟨I,B,bT,rfl,f1,F1,_⟩:=hd;refine(leave1 Lt F1 rfl).mono fun g2 w2 bX=>?_;obtain⟨cB,rfl,rfl,hL⟩:=bX;rw[aS (by omega)];exact⟨cB,rfl,fw.trans f1,hL⟩
 |m+1,i,acc,w,cs,fr,hi,fw,hf=>by
  obtain⟨j,e,hj,he⟩:=both hl (i:=i+1) (by omega);refine(wiH.go (bL [(5,x),(7,acc),(83,o'),(81,(js.length-1:Nat)),(82,c),(10,i),(12,j)] [(61,b),(64,X),(80,K)] []) hf rfl (cg (i:=10) (n:=81) (I:=i) (N:=js.length-1) rfl rfl (by omega)) ⟨fw.cell (hc i j hj),trivial⟩).trans fun g1 w1 hd=>?_;obtain⟨I,B,bT,rfl,f1,F1,_⟩:=hd;refine(wiI.go (bL [] [] [(66,bI b),(67,iV j)]) (Q:=fun v w'=>v=ga e) F1 rfl fun w' f2=>hk (i+1) j e hj he w' (fw.trans (f1.trans f2))).trans fun g2 w2 bX=>?_;obtain⟨cB,vv,rfl,f2,rfl,F2⟩:=bX;have Eu:=fw.trans (f1.trans f2);have eJ:vs.drop (i+1)=e::vs.drop (i+1+1):=by
   have hlt:i+1<vs.length:=by omega
   rw[aJ hlt];congr 1;exact au ((af hlt).symm.trans he)
  rw[eJ];by_cases h1:e.1=1
  ·rw[kW h1]at F2;have next:∀{w3:World} {cC:Frame} {y:Int},y=k7 op x e.2->bA w2 w3->FA 60 98 WiH [] .normal [(0,bI b),(3,iV x),(5,bI X),(9,iV y),(59,bU K o' (js.length-1) c),(60,iV ((js.length-1:Nat):Int)),(61,iV (iF .add .i64 i 1))] cC->Goes (G cC cs) w3 fun g' w'=>∃fr',g'=G fr' cs∧bA w0 w'∧cV 60 fr' w' (ga (oN op x acc (e::vs.drop (i+1+1)))):=fun{w3 cC y} hy f3 F3=>by
    subst hy;rw[inc (by omega)]at F3;unfold oN;rw[if_pos h1];exact Gx hl jD hX hc hk m (i+1) (k7 op x e.2) (by omega) (Eu.trans f3) F3
   obtain⟨ρ,hρ⟩:∃ρ:Env,ρ=bL [(5,x),(7,acc),(83,o'),(81,(js.length-1:Nat)),(82,c),(10,i),(12,j),(6,e.2),(1,op)] [(61,b),(64,X),(80,K)] []:=⟨_,rfl⟩;have mm:cw ρ w2 [(eD 64 0,i8 (v 1))]:=by rw[hρ];exact⟨Eu.cell hX,trivial⟩
   by_cases h4:op=4
   ·refine(acY.go ρ F2 (by rw[hρ];rfl) ⟨by rw[hρ];exact decide_eq_true h4,trivial⟩ mm).trans fun g3 w3 cn=>?_;obtain⟨I,B,cC,rfl,f3,F3,_⟩:=cn;rw[hρ]at F3;exact next (by unfold k7;rw[if_pos h4];rfl) f3 F3
   by_cases h5:op=5
   ·refine(acZ.go ρ F2 (by rw[hρ];rfl) ⟨by rw[hρ];exact decide_eq_false h4,by rw[hρ];exact decide_eq_true h5,trivial⟩ mm).trans fun g3 w3 cn=>?_;obtain⟨I,B,cC,rfl,f3,F3,_⟩:=cn;rw[hρ]at F3;exact next (by unfold k7;rw[if_neg h4,if_pos h5];rfl) f3 F3
   by_cases h6:op=6
   ·refine(ac0.go ρ F2 (by rw[hρ];rfl) ⟨by rw[hρ];exact decide_eq_false h4,by rw[hρ];exact decide_eq_false h5,by rw[hρ];exact decide_eq_true h6,trivial⟩ mm).trans fun g3 w3 cn=>?_;obtain⟨I,B,cC,rfl,f3,F3,_⟩:=cn;rw[hρ]at F3;exact next (by unfold k7;rw[if_neg h4,if_neg h5,if_pos h6];rfl) f3 F3
   ·refine(ac1.go ρ F2 (by rw[hρ];rfl) ⟨by rw[hρ];exact decide_eq_false h4,by rw[hρ];exact decide_eq_false h5,by rw[hρ];exact decide_eq_false h6,trivial⟩ mm).trans fun g3 w3 cn=>?_;obtain⟨I,B,cC,rfl,f3,F3,_⟩:=cn;rw[hρ]at F3;exact next (y:=e.2) (by unfold k7;rw[if_neg h4,if_neg h5,if_neg h6]) f3 F3
  ·rw[mw h1]at F2;refine(wiJ.go (bL [(5,x),(8,e.1),(7,acc),(83,o'),(81,(js.length-1:Nat)),(82,c),(10,i),(12,j),(6,e.2)] [(61,b),(64,X),(80,K)] []) F2 rfl trivial trivial).trans fun g3 w3 cn=>?_;obtain⟨I,B,cC,rfl,f3,F3,_⟩:=cn;refine(wiK.go (bL [] [] [(74,bI b),(75,iV j)]) (Q:=fun v w'=>v=ga e) F3 rfl fun w' f4=>hk (i+1) j e hj he w' (Eu.trans (f3.trans f4))).trans fun g4 w4 c9=>?_;obtain⟨eg,vv,rfl,f4,rfl,F4⟩:=c9;refine(wiL.go (bL [] [] [(76,ga e)]) F4 rfl trivial trivial).trans fun g5 w5 d_=>?_;obtain⟨I,B,gh,rfl,f5,F5,_⟩:=d_;refine(leave1 Lt F5 rfl).mono fun g6 w6 dj=>?_;obtain⟨dJ,rfl,rfl,hL⟩:=dj;unfold oN;rw[if_neg h1];exact⟨dJ,rfl,Eu.trans (f3.trans (f4.trans f5)),hL⟩
theorem Ly{b K c:Nat}{m:cU}{n:Nd}{x:Int}{js:List Nat}{vs:List (Int×Int)}(hl:js.length=vs.length)(jD:js.length≤1000000)(hne:vs≠[])(hcap:js.length≤c)(hc:∀i j:Nat,js[i]?=some j->w.cell? ⟨K,0+i,none⟩=some (iV j))(hm:XT w b m)(hk:Gw w b js vs)(h12:n.op=12->vs.length=3):
  dS 60 #[bI b,ndV n,bU K 0 js.length c,iV x] w fun v w'=>bA w w'∧v=ga (lp n.op x m vs):=by
 have E:=pM XQ rfl (bI b) (ndV n) (bU K 0 js.length c) (iV x);have hpos:0<vs.length:=bp.2 hne;refine cF fun cs=>?_;obtain⟨ρ,hρ⟩:∃ρ:Int->Env,ρ=fun j=>bL [(1,n.op),(2,n.n),(3,n.kids),(4,n.bY),(5,x),(83,(0:Nat)),(81,js.length),(82,c),(12,j),(21,m.mul),(22,m.add),(23,m.cA),(24,m.panics)] [(61,b),(80,K)] []:=⟨_,rfl⟩;have fin:∀{k:List Item} {w1:World} {bT:Frame} {v:Value},v=ga (lp n.op x m vs)->bA w w1->FA 60 98 (.code .ret::k) [] .normal [(8,v)] bT->Goes (G bT cs) w1 fun g' w'=>∃fr' v,g'=G fr' cs∧cV 60 fr' w' v∧bA w w'∧v=ga (lp n.op x m vs):=fun{k w1 bT v} hv f1 F1=>by refine(leave1 Lt F1 rfl).mono fun g2 w2 bX=>?_;obtain⟨cB,rfl,rfl,hL⟩:=bX;exact⟨cB,_,rfl,hL,f1,hv⟩
 by_cases h:n.op=12
 ·have h3:=h12 h;by_cases hx:x≠0
  ·obtain⟨j,e,hj,he⟩:=both hl (i:=1) (by omega);refine(wi1.go (ρ j) E (by rw[hρ];rfl) ⟨by rw[hρ];exact decide_eq_true h,by rw[hρ];show(!decide (x=0))=true;rw[decide_eq_false hx];rfl,by rw[hρ];exact decide_eq_true (by show(1:Int)<((js.length:Nat):Int);omega),trivial⟩ ⟨by rw[hρ];exact hc 1 j hj,trivial⟩).trans fun g1 w1 hd=>?_;obtain⟨I,B,bT,rfl,f1,F1,_⟩:=hd;rw[hρ]at F1;refine(wi2.go (bL [] [] [(20,bI b),(23,iV j)]) (Q:=fun v w'=>v=ga e) F1 rfl fun w' f2=>hk 1 j e hj he w' (f1.trans f2)).trans fun g2 w2 bX=>?_;obtain⟨cB,vv,rfl,f2,rfl,F2⟩:=bX;refine(wi3.go (bL [] [] [(24,ga e)]) F2 rfl trivial trivial).trans fun g5 w5 d_=>?_;obtain⟨I,B,gh,rfl,f5,F5,_⟩:=d_;refine fin ?_ (f1.trans (f2.trans f5)) F5;unfold lp;rw[if_pos h,if_pos hx,bg,he];rfl
  ·obtain⟨j,e,hj,he⟩:=both hl (i:=2) (by omega);refine(wi4.go (ρ j) E (by rw[hρ];rfl) ⟨by rw[hρ];exact decide_eq_true h,by rw[hρ];show(!decide (x=0))=false;rw[decide_eq_true (Classical.not_not.1 hx)];rfl,by rw[hρ];exact decide_eq_true (by show(2:Int)<((js.length:Nat):Int);omega),trivial⟩ ⟨by rw[hρ];exact hc 2 j hj,trivial⟩).trans fun g1 w1 hd=>?_;obtain⟨I,B,bT,rfl,f1,F1,_⟩:=hd;rw[hρ]at F1;refine(wi5.go (bL [] [] [(25,bI b),(28,iV j)]) (Q:=fun v w'=>v=ga e) F1 rfl fun w' f2=>hk 2 j e hj he w' (f1.trans f2)).trans fun g2 w2 bX=>?_;obtain⟨cB,vv,rfl,f2,rfl,F2⟩:=bX;refine(wi6.go (bL [] [] [(29,ga e)]) F2 rfl trivial trivial).trans fun g5 w5 d_=>?_;obtain⟨I,B,gh,rfl,f5,F5,_⟩:=d_;refine fin ?_ (f1.trans (f2.trans f5)) F5;unfold lp;rw[if_pos h,if_neg hx,bg,he];rfl
 have no:∀{a b:Int},a≠b->decide (a=b)=false:=fun h=>decide_eq_false h;by_cases h3:n.op=3
 ·refine(wi7.go (ρ 0) E (by rw[hρ];rfl) ⟨by rw[hρ];exact no h,by rw[hρ];exact decide_eq_true h3,trivial⟩ trivial).trans fun g1 w1 hd=>?_;obtain⟨I,B,bT,rfl,f1,F1,_⟩:=hd;rw[hρ]at F1;refine fin ?_ f1 F1;unfold lp;rw[if_neg h,if_pos h3,kW rfl];rfl
 by_cases Ew:n.op=13
 ·refine(wi8.go (ρ 0) E (by rw[hρ];rfl) ⟨by rw[hρ];exact no h,by rw[hρ];exact no h3,by rw[hρ];exact decide_eq_true Ew,trivial⟩ trivial).trans fun g1 w1 hd=>?_;obtain⟨I,B,bT,rfl,f1,F1,_⟩:=hd;rw[hρ]at F1;refine fin ?_ f1 F1;unfold lp;rw[if_neg h,if_neg h3,if_pos Ew,mw (by show(2:Int)≠1;decide)];rfl
 by_cases Iz:n.op=14
 ·refine(wi9.go (ρ 0) E (by rw[hρ];rfl) ⟨by rw[hρ];exact no h,by rw[hρ];exact no h3,by rw[hρ];exact no Ew,by rw[hρ];exact decide_eq_true Iz,trivial⟩ trivial).trans fun g1 w1 hd=>?_;obtain⟨I,B,bT,rfl,f1,F1,_⟩:=hd;rw[hρ]at F1;refine fin ?_ f1 F1;unfold lp;rw[if_neg h,if_neg h3,if_neg Ew,if_pos Iz,mw (by show(3:Int)≠1;decide)];rfl
 by_cases Lz:n.op=15
 ·refine(wiA.go (ρ 0) E (by rw[hρ];rfl) ⟨by rw[hρ];exact no h,by rw[hρ];exact no h3,by rw[hρ];exact no Ew,by rw[hρ];exact no Iz,by rw[hρ];exact decide_eq_true Lz,trivial⟩ ⟨by rw[hρ];exact hm.c2,by rw[hρ];exact hm.c3,by rw[hρ];exact hm.c4,by rw[hρ];exact hm.c5,trivial⟩).trans fun g1 w1 hd=>?_;obtain⟨I,B,bT,rfl,f1,F1,_⟩:=hd;rw[hρ]at F1;refine(wiB.go (bL [] [] [(50,c_ m),(51,iV x)]) (Q:=fun v w'=>v=ga (eF m x)) F1 rfl fun w' f2=>Iy).trans fun g2 w2 bX=>?_;obtain⟨cB,vv,rfl,f2,rfl,F2⟩:=bX;refine(wiC.go (bL [] [] [(52,ga (eF m x))]) F2 rfl trivial trivial).trans fun g5 w5 d_=>?_;obtain⟨I,B,gh,rfl,f5,F5,_⟩:=d_;refine fin ?_ (f1.trans (f2.trans f5)) F5;unfold lp;rw[if_neg h,if_neg h3,if_neg Ew,if_neg Iz,if_pos Lz];rfl
 by_cases On:n.op=16
 ·refine(wiD.go (ρ 0) E (by rw[hρ];rfl) ⟨by rw[hρ];exact no h,by rw[hρ];exact no h3,by rw[hρ];exact no Ew,by rw[hρ];exact no Iz,by rw[hρ];exact no Lz,by rw[hρ];exact decide_eq_true On,trivial⟩ trivial).trans fun g1 w1 hd=>?_;obtain⟨I,B,bT,rfl,f1,F1,_⟩:=hd;rw[hρ]at F1;refine fin ?_ f1 F1;unfold lp;rw[if_neg h,if_neg h3,if_neg Ew,if_neg Iz,if_neg Lz,if_pos On,kW rfl];rfl
 ·refine(wiE.go (ρ 0) E (by rw[hρ];rfl) ⟨by rw[hρ];exact no h,by rw[hρ];exact no h3,by rw[hρ];exact no Ew,by rw[hρ];exact no Iz,by rw[hρ];exact no Lz,by rw[hρ];exact no On,trivial⟩ trivial).trans fun g1 w1 hd=>?_;obtain⟨I,B,bT,rfl,f1,F1,bl,_⟩:=hd;rw[hρ]at F1 bl;have hX:(cu.obj 77 [cY n.op,iV n.n,iV n.kids,iV n.bY]).at Tryz.prog w1 (B 100):=bl.1.2;refine(wiF.go (R:=fun y w'=>(∃o',(js.length=1∨o'=0+1*1)∧y=bU K o' (js.length-1) (c-1))∧w'=w1) (bL [] [] []) F1 (by decide) rfl fun tm ie x' e1 e2=>?_).trans fun g4 w4 c9=>?_
  ·unfold execOp;simp only[e1,bF,av,aI];rw[ie 58 (bU K 0 js.length c) rfl];exact Gj XU XV (k:=1) (by omega) hcap fun o' ho'=>⟨_,rfl,⟨o',ho',rfl⟩,rfl⟩
  obtain⟨eg,y,rfl,⟨⟨o',ho',rfl⟩,rfl⟩,F4⟩:=c9;refine(wiG.go (bL [(5,x),(7,x),(83,o'),(81,(js.length-1:Nat)),(82,(c-1:Nat))] [(61,b),(64,B 100),(80,K)] []) F4 rfl trivial trivial).trans fun g5 w5 d_=>?_;obtain⟨I,B',gh,rfl,f5,F5,_⟩:=d_;have ff:=f1.trans f5;refine(Gx (w0:=w5) hl jD (op:=n.op) (x:=x) ((f5.cell (bE hX (i:=0) rfl))) (o':=o') (fun i j hj=>?_) (fun i j e hj he w' f'=>hk i j e hj he w' (ff.trans f')) (vs.length-1) 0 x (by omega) (bA.refl _) F5).mono fun g6 w6 dj=>?_
  ·rcases ho' with h1|rfl
   ·have:=(aq.1 hj).1;omega
   ·have:=hc (i+1) j hj;rw[show 0+1*1+i=0+(i+1) by omega];exact ff.cell this
  ·obtain⟨dJ,rfl,f6,hL⟩:=dj;refine⟨dJ,_,rfl,hL,ff.trans f6,?_⟩;unfold lp;rw[if_neg h,if_neg h3,if_neg Ew,if_neg Iz,if_neg Lz,if_neg On]
end
end Go.Proofs.YtmobbajggkjpgaaGreat

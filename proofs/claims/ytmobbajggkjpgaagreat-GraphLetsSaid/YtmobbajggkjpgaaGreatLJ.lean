/-
  A symbolic run of the model, proved sound, and the walk of the code: a text of its parts. Conditions: none.
-/
import Derived.Test.YtmobbajggkjpgaaGreatLI
set_option linter.unusedSectionVars false
set_option maxRecDepth 100000
set_option linter.unusedVariables false
set_option linter.unusedSimpArgs false
namespace Go.Proofs.YtmobbajggkjpgaaGreat
open Go.Proofs.YtmobbajggkjpgaaGreat.SX Go.Conc
open _root_.List renaming mem_cons_of_mem->aa,getElem?_eq_getElem->af,mem_singleton->ah,mem_cons_self->ai,mem_cons->aj,length_append->ak,getElem?_eq_some_iff->aq,mem_of_getElem?->ay,not_mem_nil->az,length_map->aE,drop_eq_getElem_cons->aJ,map_cons->aK,getElem?_map->aL,length->aP,append_nil->aQ,mem_append->aR,drop_of_length_le->aS,length_nil->aZ,getD_eq_getElem?_getD->bg,pairwise_singleton->bh,length_eq_zero_iff->bk,length_pos_iff->bp,length_drop->br
open _root_.Bool renaming and_eq_true->an
open _root_.Option.some renaming inj->au
open _root_.Nat renaming le_refl->ax,le_trans->aA,zero_add->aG
open _root_.Int renaming toNat_natCast->bx
noncomputable def Uf(l:Nat):Code:=pc (bD Tryz.f83) (pd l)
theorem Ug:bP Tryz.prog 83 [.bC 0,.bC 1] .normal=.ok ⟨83,37,c8 83 [.bC 0,.bC 1],[.code (bD Tryz.f83)],[],.run,.normal⟩:=by kernel_rfl
theorem aih:Pc 83 37 [.code (bD Tryz.f83)] ([(0,.agg [i64 (v 31),i64 (v 32),i64 (v 33),i64 (v 34)]),(1,i64 (v 5))]) [((.cmp .gtr (v 34) (.lit 0)),true),((.cmp .eql (v 34) (.lit 0)),false),((.cmp .eql (.op .rem .i64 (v 5) (v 34)) (.lit 0)),true)] [] [] 26 [101] [4] [.code .ret,.code (Uf 7)] [bz 101] [(101,.cells [i8 (.lit 3),i64 (v 5)] 43)]:={}
theorem aii:Pc 83 37 [.code (bD Tryz.f83)] ([(0,.agg [i64 (v 31),i64 (v 32),i64 (v 33),i64 (v 34)]),(1,i64 (v 5))]) [((.cmp .gtr (v 34) (.lit 0)),true),((.cmp .eql (v 34) (.lit 0)),false),((.cmp .eql (.op .rem .i64 (v 5) (v 34)) (.lit 0)),false),((.cmp .gtr (v 33) (.lit 0)),true),((.cmp .eql (v 33) (.lit 0)),false),((.cmp .eql (.op .rem .i64 (v 5) (v 33)) (.lit 0)),true)] [] [] 42 [101] [4] [.code .ret,.code (Uf 15)] [bz 101] [(101,.cells [i8 (.lit 2),i64 (v 5)] 43)]:={}
theorem aij:Pc 83 37 [.code (bD Tryz.f83)] ([(0,.agg [i64 (v 31),i64 (v 32),i64 (v 33),i64 (v 34)]),(1,i64 (v 5))]) [((.cmp .gtr (v 34) (.lit 0)),true),((.cmp .eql (v 34) (.lit 0)),false),((.cmp .eql (.op .rem .i64 (v 5) (v 34)) (.lit 0)),false),((.cmp .gtr (v 33) (.lit 0)),true),((.cmp .eql (v 33) (.lit 0)),false),((.cmp .eql (.op .rem .i64 (v 5) (v 33)) (.lit 0)),false)] [] [] 49 [101] [4] [.code .ret] [bz 101] [(101,.cells [i8 (.lit 1),i64 (.op .add .i64 (.op .mul .i64 (v 5) (v 31)) (v 32))] 43)]:={}
theorem aik:Pc 83 37 [.code (bD Tryz.f83)] ([(0,.agg [i64 (v 31),i64 (v 32),i64 (v 33),i64 (v 34)]),(1,i64 (v 5))]) [((.cmp .gtr (v 34) (.lit 0)),true),((.cmp .eql (v 34) (.lit 0)),false),((.cmp .eql (.op .rem .i64 (v 5) (v 34)) (.lit 0)),false),((.cmp .gtr (v 33) (.lit 0)),false)] [] [] 49 [101] [4] [.code .ret] [bz 101] [(101,.cells [i8 (.lit 1),i64 (.op .add .i64 (.op .mul .i64 (v 5) (v 31)) (v 32))] 43)]:={}
theorem ail:Pc 83 37 [.code (bD Tryz.f83)] ([(0,.agg [i64 (v 31),i64 (v 32),i64 (v 33),i64 (v 34)]),(1,i64 (v 5))]) [((.cmp .gtr (v 34) (.lit 0)),false),((.cmp .gtr (v 33) (.lit 0)),true),((.cmp .eql (v 33) (.lit 0)),false),((.cmp .eql (.op .rem .i64 (v 5) (v 33)) (.lit 0)),true)] [] [] 42 [101] [4] [.code .ret,.code (Uf 15)] [bz 101] [(101,.cells [i8 (.lit 2),i64 (v 5)] 43)]:={}
theorem aim:Pc 83 37 [.code (bD Tryz.f83)] ([(0,.agg [i64 (v 31),i64 (v 32),i64 (v 33),i64 (v 34)]),(1,i64 (v 5))]) [((.cmp .gtr (v 34) (.lit 0)),false),((.cmp .gtr (v 33) (.lit 0)),true),((.cmp .eql (v 33) (.lit 0)),false),((.cmp .eql (.op .rem .i64 (v 5) (v 33)) (.lit 0)),false)] [] [] 49 [101] [4] [.code .ret] [bz 101] [(101,.cells [i8 (.lit 1),i64 (.op .add .i64 (.op .mul .i64 (v 5) (v 31)) (v 32))] 43)]:={}
theorem ain:Pc 83 37 [.code (bD Tryz.f83)] ([(0,.agg [i64 (v 31),i64 (v 32),i64 (v 33),i64 (v 34)]),(1,i64 (v 5))]) [((.cmp .gtr (v 34) (.lit 0)),false),((.cmp .gtr (v 33) (.lit 0)),false)] [] [] 49 [101] [4] [.code .ret] [bz 101] [(101,.cells [i8 (.lit 1),i64 (.op .add .i64 (.op .mul .i64 (v 5) (v 31)) (v 32))] 43)]:={}
noncomputable def cO(l:Nat):Code:=pc (bD Tryz.f61) (pd l)
theorem Uh:bP Tryz.prog 61 [.bC 0,.bC 1,.bC 2,.bC 3] .normal=.ok ⟨61,167,c8 61 [.bC 0,.bC 1,.bC 2,.bC 3],[.code (bD Tryz.f61)],[],.run,.normal⟩:=by kernel_rfl
theorem aio:Pc 61 167 [.code (bD Tryz.f61)] ([(0,sA 50 53 51 52),(1,i64 (v 10)),(2,.agg [i64 (v 31),i64 (v 32),i64 (v 33),i64 (v 34)]),(3,.bC 3)]) (fN 10 51) Tx [] 18 [102,101,100] [0,3,6,8,9,20,21] [.inRegion (opsOf (cO 14)) [2,3],.code (cO 15)] [sA 50 53 51 52,.bC 3,bz 100,bz 101,bz 102,sA 50 53 51 52,i64 (v 10)] [(102,.cells [i8 (v 1),i64 (v 2),i64 (v 3),i64 (v 4)] 77),(101,.cells [i8 (.lit 0),i64 (.lit 0)] 43),(100,.cells [i64 (v 31),i64 (v 32),i64 (v 33),i64 (v 34)] 27)]:={}
theorem aip:di 167 (opsOf (cO 14)) 2 [(20,.bC 20),(21,.bC 21)] 75 [.bC 20,.bC 21] 22:={}
noncomputable abbrev G5:List Item:=[.inRegion (opsOf (cO 14)) [3],.code (cO 15)]
noncomputable abbrev G6:List (AA×AV):=[(eD 64 0,i8 (v 1)),(eD 64 1,i64 (v 2))]
noncomputable abbrev MU:List Item:=[.code .ret,.inBlock 0,.code (cO 31)]
theorem aiq:Pc 61 167 G5 ([(0,.bC 0),(3,.bC 3),(6,bz 65),(8,bz 68),(9,bz 64),(22,.bC 22)]) [((.cmp .eql (v 1) (.lit 1)),true)] G6 [(68,.cells [i8 (.lit 0),i64 (.lit 0)] 43)] 22 [68] [8] MU [bz 68] [(68,.cells [i8 (.lit 1),i64 (v 2)] 43)]:={}
theorem air:Pc 61 167 G5 ([(0,.bC 0),(3,sA 70 73 71 72),(6,bz 65),(8,bz 68),(9,bz 64),(22,.bC 22)]) (((.cmp .eql (v 1) (.lit 1)),false)::((.cmp .eql (v 1) (.lit 2)),true)::fN 2 71) [(eD 64 0,i8 (v 1)),(eD 64 1,i64 (v 2)),(eB 70 73 2 2,i8 (v 15)),(eA 70 73 2 2 1,i64 (v 16))] [(68,.cells [i8 (.lit 0),i64 (.lit 0)] 43)] 30 [68] [8] MU [bz 68] [(68,.cells [i8 (v 15),i64 (v 16)] 43)]:={}
noncomputable abbrev MV:List Item:=[.code (cO 125924),.inLoop (cO 125924),.inBlock 1,.code (cO 15741),.inBlock 0,.code (cO 31)]
theorem ais:Pc 61 167 G5 ([(0,.bC 0),(3,.bC 3),(6,bz 65),(8,bz 68),(9,bz 64),(22,.bC 22)]) XS G6 [] 34 [] [0,3,6,8,10,11] MV [.bC 0,.bC 3,bz 65,bz 68,.bC 22,i64 (.lit 0)] []:={}
theorem ait:Pc 61 167 G5 ([(0,.bC 0),(3,.bC 3),(6,bz 65),(8,bz 68),(9,bz 64),(22,.bC 22)]) [((.cmp .eql (v 1) (.lit 1)),false),((.cmp .eql (v 1) (.lit 2)),false),((.cmp .eql (v 1) (.lit 11)),false)] G6 [] 30 [] [0,3,6,8,9,10] [.code (cO 62),.code (cO 63)] [.bC 0,.bC 3,bz 65,bz 68,bz 64,.bC 22] []:={}
theorem aiu:Pc 61 167 MV ([(0,.bC 0),(3,.bC 3),(6,bz 65),(8,bz 68),(10,sA 80 83 81 82),(11,i64 (v 15))]) (fN 15 81) [] [] 13 [] [0,3,6,8,10,11] [.code (cO 2014792),.code (cO 2014793),.inBlock 2,.code (cO 503699),.inLoop (cO 125924),.inBlock 1,.code (cO 15741),.inBlock 0,.code (cO 31)] [.bC 0,.bC 3,bz 65,bz 68,sA 80 83 81 82,i64 (v 15)] []:={}
noncomputable abbrev kz8:List Item:=[.inRegion (opsOf (cO 2014792)) [],.code (cO 2014793),.inBlock 2,.code (cO 503699),.inLoop (cO 125924),.inBlock 1,.code (cO 15741),.inBlock 0,.code (cO 31)]
noncomputable abbrev MW:List (AA×AV):=[(eD 66 0,i8 (v 21)),(eD 66 1,i64 (v 22))]
theorem aiv:Pc 61 167 kz8 ([(0,.bC 0),(3,.bC 3),(6,bz 65),(8,bz 68),(10,sA 80 83 81 82),(11,i64 (v 15)),(12,bz 66)]) [((.cmp .eql (v 21) (.lit 1)),true)] MW [(68,.cells [i8 (.lit 0),i64 (.lit 0)] 43)] 13 [68] [8] [.code .ret,.inBlock 2,.code (cO 503699),.inLoop (cO 125924),.inBlock 1,.code (cO 15741),.inBlock 0,.code (cO 31)] [bz 68] [(68,.cells [i8 (v 21),i64 (v 22)] 43)]:={}
theorem aiw:Pc 61 167 kz8 ([(0,.bC 0),(3,.bC 3),(6,bz 65),(8,bz 68),(10,sA 80 83 81 82),(11,i64 (v 15)),(12,bz 66)]) [((.cmp .eql (v 21) (.lit 1)),false)] MW [] 16 [] [0,3,6,8,10,11] MV [.bC 0,.bC 3,bz 65,bz 68,sA 80 83 81 82,i64 (.op .add .i64 (v 15) (.lit 1))] []:={}
theorem aix:Pc 61 167 MV ([(0,.bC 0),(3,.bC 3),(6,bz 65),(8,bz 68),(10,sA 80 83 81 82),(11,i64 (v 15))]) MD [] [] 11 [] [0,3,6,8,10] [.code (cO 31482),.code .ret,.inBlock 0,.code (cO 31)] [.bC 0,.bC 3,bz 65,bz 68,sA 80 83 81 82] []:={}
theorem aiy:Pc 61 167 [.inRegion (opsOf (cO 31482)) [],.code .ret,.inBlock 0,.code (cO 31)] ([(0,.bC 0),(3,.bC 3),(6,bz 65),(8,bz 68),(10,sA 80 83 81 82)]) [] [] [] 1 [] [8] MU [bz 68] []:={}
noncomputable abbrev tF:List Item:=[.inRegion (opsOf (cO 62)) [],.code (cO 63)]
theorem aiz:Pc 61 167 tF ([(0,.bC 0),(3,.bC 3),(6,bz 65),(8,bz 68),(10,sA 80 83 81 82),(9,bz 64),(13,bz 67)]) [((.cmp .neq (v 21) (.lit 1)),true)] [(eD 67 0,i8 (v 21)),(eD 67 1,i64 (v 22))] [(68,.cells [i8 (.lit 0),i64 (.lit 0)] 43)] 14 [68] [8] [.code .ret,.code (cO 127)] [bz 68] [(68,.cells [i8 (v 21),i64 (v 22)] 43)]:={}
noncomputable abbrev tG:List (AA×AV):=[(eD 67 0,i8 (v 21)),(eD 67 1,i64 (v 22)),(eD 64 0,i8 (v 1))]
theorem aiA:Pc 61 167 tF ([(0,.bC 0),(3,.bC 3),(6,bz 65),(8,bz 68),(10,sA 80 83 81 82),(9,bz 64),(13,bz 67)]) [((.cmp .neq (v 21) (.lit 1)),false),((.cmp .eql (v 1) (.lit 12)),true),((.cmp .neq (v 22) (.lit 0)),true)] tG [] 32 [] [0,3,6,8,10] [.code (cO 65188),.code .ret,.code (cO 8149),.inBlock 3,.code (cO 255)] [.bC 0,.bC 3,bz 65,bz 68,sA 80 83 81 82] []:={}
theorem aiB:Pc 61 167 tF ([(0,.bC 0),(3,.bC 3),(6,bz 65),(8,bz 68),(10,sA 80 83 81 82),(9,bz 64),(13,bz 67)]) [((.cmp .neq (v 21) (.lit 1)),false),((.cmp .eql (v 1) (.lit 12)),true),((.cmp .neq (v 22) (.lit 0)),false)] tG [] 33 [] [0,3,6,8,10] [.code (cO 16298),.code .ret,.inBlock 3,.code (cO 255)] [.bC 0,.bC 3,bz 65,bz 68,sA 80 83 81 82] []:={}
theorem aiC:Pc 61 167 [.inRegion (opsOf (cO 65188)) [],.code .ret,.code (cO 8149),.inBlock 3,.code (cO 255)] ([(0,.bC 0),(3,.bC 3),(6,bz 65),(8,bz 68),(10,sA 80 83 81 82)]) [] [] [] 1 [] [8] [.code .ret,.code (cO 8149),.inBlock 3,.code (cO 255)] [bz 68] []:={}
noncomputable abbrev zU:List Item:=[.code .ret,.inBlock 3,.code (cO 255)]
theorem aiD:Pc 61 167 [.inRegion (opsOf (cO 16298)) [],.code .ret,.inBlock 3,.code (cO 255)] ([(0,.bC 0),(3,.bC 3),(6,bz 65),(8,bz 68),(10,sA 80 83 81 82)]) [] [] [] 1 [] [8] zU [bz 68] []:={}
theorem aiE:Pc 61 167 tF ([(0,.bC 0),(3,.bC 3),(6,bz 65),(8,bz 68),(10,sA 80 83 81 82),(9,bz 64),(13,bz 67)]) [((.cmp .neq (v 21) (.lit 1)),false),((.cmp .eql (v 1) (.lit 12)),false),((.cmp .eql (v 1) (.lit 3)),true)] tG [(68,.cells [i8 (.lit 0),i64 (.lit 0)] 43)] 37 [68] [8] zU [bz 68] [(68,.cells [i8 (.lit 1),i64 (.op .sub .i64 (.lit 0) (v 22))] 43)]:={}
theorem aiF:Pc 61 167 tF ([(0,.bC 0),(3,.bC 3),(6,bz 65),(8,bz 68),(10,sA 80 83 81 82),(9,bz 64),(13,bz 67)]) [((.cmp .neq (v 21) (.lit 1)),false),((.cmp .eql (v 1) (.lit 12)),false),((.cmp .eql (v 1) (.lit 3)),false),((.cmp .eql (v 1) (.lit 13)),true)] tG [(68,.cells [i8 (.lit 0),i64 (.lit 0)] 43)] 42 [68] [8] zU [bz 68] [(68,.cells [i8 (.lit 2),i64 (v 22)] 43)]:={}
theorem aiG:Pc 61 167 tF ([(0,.bC 0),(3,.bC 3),(6,bz 65),(8,bz 68),(10,sA 80 83 81 82),(9,bz 64),(13,bz 67)]) [((.cmp .neq (v 21) (.lit 1)),false),((.cmp .eql (v 1) (.lit 12)),false),((.cmp .eql (v 1) (.lit 3)),false),((.cmp .eql (v 1) (.lit 13)),false),((.cmp .eql (v 1) (.lit 14)),true)] tG [(68,.cells [i8 (.lit 0),i64 (.lit 0)] 43)] 48 [68] [8] zU [bz 68] [(68,.cells [i8 (.lit 3),i64 (v 22)] 43)]:={}
theorem aiH:Pc 61 167 tF ([(0,.bC 0),(3,.bC 3),(6,bz 65),(8,bz 68),(10,sA 80 83 81 82),(9,bz 64),(13,bz 67)]) [((.cmp .neq (v 21) (.lit 1)),false),((.cmp .eql (v 1) (.lit 12)),false),((.cmp .eql (v 1) (.lit 3)),false),((.cmp .eql (v 1) (.lit 13)),false),((.cmp .eql (v 1) (.lit 14)),false),((.cmp .eql (v 1) (.lit 15)),true)] [(eD 67 0,i8 (v 21)),(eD 67 1,i64 (v 22)),(eD 64 0,i8 (v 1)),(eD 65 0,i64 (v 31)),(eD 65 1,i64 (v 32)),(eD 65 2,i64 (v 33)),(eD 65 3,i64 (v 34))] [] 52 [] [8,114,116] [.inRegion (opsOf (cO 2086908)) [3,4],.code .ret,.inBlock 3,.code (cO 255)] [bz 68,.agg [i64 (v 31),i64 (v 32),i64 (v 33),i64 (v 34)],i64 (v 22)] []:={}
theorem aiI:di 167 (opsOf (cO 2086908)) 3 [(114,.bC 114),(116,.bC 116)] 83 [.bC 114,.bC 116] 117:={}
theorem aiJ:jO 167 (opsOf (cO 2086908)) 4 [] (.store 43 (.tmp 8) (.tmp 117)) 0 none:={}
theorem aiK:Pc 61 167 [.inRegion (opsOf (cO 2086908)) [],.code .ret,.inBlock 3,.code (cO 255)] ([(8,bz 68)]) [] [] [] 1 [] [8] zU [bz 68] []:={}
theorem aiL:Pc 61 167 tF ([(0,.bC 0),(3,.bC 3),(6,bz 65),(8,bz 68),(10,sA 80 83 81 82),(9,bz 64),(13,bz 67)]) [((.cmp .neq (v 21) (.lit 1)),false),((.cmp .eql (v 1) (.lit 12)),false),((.cmp .eql (v 1) (.lit 3)),false),((.cmp .eql (v 1) (.lit 13)),false),((.cmp .eql (v 1) (.lit 14)),false),((.cmp .eql (v 1) (.lit 15)),false),((.cmp .eql (v 1) (.lit 16)),true)] tG [(68,.cells [i8 (.lit 0),i64 (.lit 0)] 43)] 58 [68] [8] zU [bz 68] [(68,.cells [i8 (v 21),i64 (v 22)] 43)]:={}
noncomputable abbrev uV:List Item:=[.code (cO 8180),.inLoop (cO 8180),.inBlock 4,.code (cO 1023)]
theorem aiM:Pc 61 167 tF ([(0,.bC 0),(3,.bC 3),(6,bz 65),(8,bz 68),(10,sA 80 83 81 82),(9,bz 64),(13,bz 67)]) [((.cmp .neq (v 21) (.lit 1)),false),((.cmp .eql (v 1) (.lit 12)),false),((.cmp .eql (v 1) (.lit 3)),false),((.cmp .eql (v 1) (.lit 13)),false),((.cmp .eql (v 1) (.lit 14)),false),((.cmp .eql (v 1) (.lit 15)),false),((.cmp .eql (v 1) (.lit 16)),false)] tG [] 68 [100] [0,3,6,8,9,10,13,14,15] uV [.bC 0,.bC 3,bz 65,bz 68,bz 64,sA 80 83 81 82,bz 67,bz 100,i64 (.lit 1)] [(100,.cells [i8 (v 21),i64 (v 22)] 43)]:={}
theorem aiN:Pc 61 167 uV ([(0,.bC 0),(3,.bC 3),(6,bz 65),(8,bz 68),(9,bz 64),(10,sA 80 83 81 82),(13,bz 67),(14,bz 69),(15,i64 (v 15))]) (fN 15 81) [] [] 13 [] [0,3,6,8,9,10,13,14,15] [.code (cO 130888),.code (cO 130889),.inBlock 5,.code (cO 32723),.inLoop (cO 8180),.inBlock 4,.code (cO 1023)] [.bC 0,.bC 3,bz 65,bz 68,bz 64,sA 80 83 81 82,bz 67,bz 69,i64 (v 15)] []:={}
noncomputable abbrev aay:List Item:=[.inRegion (opsOf (cO 130888)) [],.code (cO 130889),.inBlock 5,.code (cO 32723),.inLoop (cO 8180),.inBlock 4,.code (cO 1023)]
noncomputable abbrev MX:List (AA×AV):=[(eD 69 0,i8 (v 23)),(eD 69 1,i64 (v 24))]
theorem aiO:Pc 61 167 aay ([(0,.bC 0),(3,.bC 3),(6,bz 65),(8,bz 68),(9,bz 64),(10,sA 80 83 81 82),(13,bz 67),(14,bz 69),(15,i64 (v 15))]) [((.cmp .neq (v 23) (.lit 1)),true)] MX [(68,.cells [i8 (.lit 0),i64 (.lit 0)] 43)] 13 [68] [8] [.code .ret,.inBlock 5,.code (cO 32723),.inLoop (cO 8180),.inBlock 4,.code (cO 1023)] [bz 68] [(68,.cells [i8 (v 23),i64 (v 24)] 43)]:={}
theorem aiP:Pc 61 167 aay ([(0,.bC 0),(3,.bC 3),(6,bz 65),(8,bz 68),(9,bz 64),(10,sA 80 83 81 82),(13,bz 67),(14,bz 69),(15,i64 (v 15))]) [((.cmp .neq (v 23) (.lit 1)),false)] MX [] 16 [] [0,3,6,8,9,10,13,14,15] uV [.bC 0,.bC 3,bz 65,bz 68,bz 64,sA 80 83 81 82,bz 67,bz 69,i64 (.op .add .i64 (v 15) (.lit 1))] []:={}
noncomputable abbrev xX:List (AA×AV):=[(eD 64 0,i8 (v 1)),(eD 67 0,i8 (v 21)),(eD 67 1,i64 (v 22))]
theorem aiQ:Pc 61 167 uV ([(0,.bC 0),(3,.bC 3),(6,bz 65),(8,bz 68),(9,bz 64),(10,sA 80 83 81 82),(13,bz 67),(14,bz 69),(15,i64 (v 15))]) [((.cmp .lss (v 15) (.tn (v 81))),false),((.cmp .eql (v 1) (.lit 4)),true)] xX [(68,.cells [i8 (.lit 0),i64 (.lit 0)] 43),(69,.cells [i8 (v 23),i64 (v 24)] 43)] 38 [68] [8] [.code .ret] [bz 68] [(68,.cells [i8 (v 23),i64 (.op .add .i64 (v 22) (v 24))] 43)]:={}
theorem aiR:Pc 61 167 uV ([(0,.bC 0),(3,.bC 3),(6,bz 65),(8,bz 68),(9,bz 64),(10,sA 80 83 81 82),(13,bz 67),(14,bz 69),(15,i64 (v 15))]) [((.cmp .lss (v 15) (.tn (v 81))),false),((.cmp .eql (v 1) (.lit 4)),false),((.cmp .eql (v 1) (.lit 5)),true)] xX [(68,.cells [i8 (.lit 0),i64 (.lit 0)] 43),(69,.cells [i8 (v 23),i64 (v 24)] 43)] 44 [68] [8] [.code .ret] [bz 68] [(68,.cells [i8 (v 23),i64 (.op .sub .i64 (v 22) (v 24))] 43)]:={}
theorem aiS:Pc 61 167 uV ([(0,.bC 0),(3,.bC 3),(6,bz 65),(8,bz 68),(9,bz 64),(10,sA 80 83 81 82),(13,bz 67),(14,bz 69),(15,i64 (v 15))]) [((.cmp .lss (v 15) (.tn (v 81))),false),((.cmp .eql (v 1) (.lit 4)),false),((.cmp .eql (v 1) (.lit 5)),false),((.cmp .eql (v 1) (.lit 6)),true)] xX [(68,.cells [i8 (.lit 0),i64 (.lit 0)] 43),(69,.cells [i8 (v 23),i64 (v 24)] 43)] 50 [68] [8] [.code .ret] [bz 68] [(68,.cells [i8 (v 23),i64 (.op .mul .i64 (v 22) (v 24))] 43)]:={}
theorem aiT:Pc 61 167 uV ([(0,.bC 0),(3,.bC 3),(6,bz 65),(8,bz 68),(9,bz 64),(10,sA 80 83 81 82),(13,bz 67),(14,bz 69),(15,i64 (v 15))]) [((.cmp .lss (v 15) (.tn (v 81))),false),((.cmp .eql (v 1) (.lit 4)),false),((.cmp .eql (v 1) (.lit 5)),false),((.cmp .eql (v 1) (.lit 6)),false)] xX [(68,.cells [i8 (.lit 0),i64 (.lit 0)] 43),(69,.cells [i8 (v 23),i64 (v 24)] 43)] 42 [68] [8] [.code .ret] [bz 68] [(68,.cells [i8 (v 23),i64 (v 24)] 43)]:={}
noncomputable def Pm(l:Nat):Code:=pc (bD Tryz.f40) (pd l)
theorem Ui:bP Tryz.prog 40 [.bC 0,.bC 1,.bC 2] .normal=.ok ⟨40,12,c8 40 [.bC 0,.bC 1,.bC 2],[.code (bD Tryz.f40)],[],.run,.normal⟩:=by kernel_rfl
theorem aiU:Pc 40 12 [.code (bD Tryz.f40)] ([(0,.agg [ss 1,.bC 7,i64 (v 4)]),(1,.agg [i64 (v 31),i64 (v 32),i64 (v 33),i64 (v 34)]),(2,.bC 2)]) [] [] [] 12 [102] [6,8,9,10] [.inRegion (opsOf (Pm 6)) [4,5],.code .ret] [bz 102,.bC 7,.agg [i64 (v 31),i64 (v 32),i64 (v 33),i64 (v 34)],.bC 2] [(102,.cells [i8 (.lit 0),i64 (.lit 0)] 43)]:={}
theorem aiV:di 12 (opsOf (Pm 6)) 4 [(8,.bC 8),(9,.bC 9),(10,.bC 10)] 61 [.bC 8,i64 (.lit 0),.bC 9,.bC 10] 11:={}
theorem aiW:jO 12 (opsOf (Pm 6)) 5 [] (.store 43 (.tmp 6) (.tmp 11)) 0 none:={}
theorem aiX:Pc 40 12 [.inRegion (opsOf (Pm 6)) [],.code .ret] ([(6,bz 68)]) [] [] [] 1 [] [6] [.code .ret] [bz 68] []:={}
section
variable {w:World}{cs:List Frame}{fr:Frame}{fn nt i d:Nat}{ops:Array Oper}{l:List Nat}{k:List Item}{lv:List (Nat×Value)}
theorem zV{ty:TypeId}(O:jO nt ops i [] (.alloc 43) ty (some d))(hf:FA fn nt (.inRegion ops (i::l)::k) [] .normal lv fr)(hdn:d<nt):
  Goes (G fr cs) w fun g' w'=>∃fr' v,g'=G fr' cs∧(bA w w'∧v=bI w.heap.size∧(cu.obj 43 [cY 0,iV 0]).at Tryz.prog w' w.heap.size)∧FA fn nt (.inRegion ops l::k) [] .normal (fL d v lv) fr':=by
 refine O.go (R:=fun v w'=>bA w w'∧v=bI w.heap.size∧(cu.obj 43 [cY 0,iV 0]).at Tryz.prog w' w.heap.size) (bL [] [] []) hf hdn rfl fun tm ie x e1 e2=>?_;obtain⟨zv,hzv,oU⟩:∃z,zero? Tryz.prog 43=.ok z∧z.cells?=.ok [i8 (.lit 0),i64 (.lit 0)]:=by
  have:=OF.zero;cases e:zero? Tryz.prog 43 with
  |error x=>rw[e]at this;cases this
  |ok i=>rw[e]at this;have h2:some i.cells?=some (.ok [i8 (.lit 0),i64 (.lit 0)]):=this;exact⟨i,rfl,au h2⟩
 unfold execOp;simp only[e1,bF,Instr.alloc,dX (ρ:=bL [] [] []) hzv];refine lD (K:=KZ 0) (gN oU (bL [] [] [])) ?_;refine⟨_,rfl,⟨fun n hn=>?_,by simp,rfl,rfl,rfl⟩,rfl,⟨(AV.evs (bL [] [] []) [i8 (.lit 0),i64 (.lit 0)]).toArray,by simp,rfl⟩⟩;show(w.heap.push _)[n]?=w.heap[n]?;rw[Array.getElem?_push];have hn:¬w.heap.size≤n:=hn;have:n≠w.heap.size:=fun e=>hn (by omega);simp[this]
end
theorem Jn{α:Type}{lv:List α}{a b c d:α}(h:a∈lv)(h2:b∈lv)(h3:c∈lv)(h4:d∈lv):∀q∈[a,b,c,d],q∈lv:=List.forall_mem_cons.2 ⟨h,Zp h2 h3 h4⟩
noncomputable abbrev mK:Array Oper:=opsOf (cO 2014792)
theorem Uj:dD 167 mK 0 [] [] [(0,.bC 0)] (.bC 0) 45:={}
theorem Uk:dD 167 mK 1 [] [] [(10,sA 80 83 81 82)] (sA 80 83 81 82) 46:={}
theorem Ul:dD 167 mK 2 [] [] [(11,i64 (v 15))] (i64 (v 15)) 47:={}
abbrev aaz:List (BE×Bool):=[((.cmp .lss (v 15) (.tn (v 81))),true),((.cmp .leq (.lit 0) (v 15)),true)]
theorem Um:dD 167 mK 3 aaz [] [(46,sA 80 83 81 82),(47,i64 (v 15))] (.ptr (some (eC 80 83 15))) 48:={}
theorem Un:dD 167 mK 4 [] C0 [(48,.ptr (some (eC 80 83 15)))] (i64 (v 16)) 49:={}
noncomputable abbrev AO:List (AA×AV):=[(eD 65 0,i64 (v 31)),(eD 65 1,i64 (v 32)),(eD 65 2,i64 (v 33)),(eD 65 3,i64 (v 34))]
theorem Uo:dD 167 mK 5 [] AO [(6,bz 65)] (.agg [i64 (v 31),i64 (v 32),i64 (v 33),i64 (v 34)]) 50:={}
theorem Up:dD 167 mK 6 [] [] [(3,.bC 3)] (.bC 3) 51:={}
theorem Uq:di 167 mK 7 [(45,.bC 0),(49,i64 (v 16)),(50,.agg [i64 (v 31),i64 (v 32),i64 (v 33),i64 (v 34)]),(51,.bC 3)] 61 [.bC 0,i64 (v 16),.agg [i64 (v 31),i64 (v 32),i64 (v 33),i64 (v 34)],.bC 3] 52:={}
theorem Ur:jO 167 mK 8 [] (.alloc 43) 0 (some 12):={}
theorem Ut:jO 167 mK 9 [] (.store 43 (.tmp 12) (.tmp 52)) 0 none:={}
def G7(i:Nat):Nat:=match i with
 |0=>45|1=>46|2=>47|3=>48|4=>49|5=>50|6=>51|7=>52|8=>12|_=>9999
noncomputable abbrev uW:List (Nat×AV):=[(0,.bC 0),(3,.bC 3),(6,bz 65),(8,bz 68),(10,sA 80 83 81 82),(11,i64 (v 15))]
noncomputable abbrev aaA:List (AA×AV):=[(eC 80 83 15,i64 (v 16)),(eD 65 0,i64 (v 31)),(eD 65 1,i64 (v 32)),(eD 65 2,i64 (v 33)),(eD 65 3,i64 (v 34))]
noncomputable abbrev MY:List (AA×AV):=aaA
noncomputable abbrev MZ:List (BE×Bool):=(fN 15 81)
noncomputable def xY(ρ:Env)(base i:Nat)(u:Value)(w:World):Prop:=match i with
 |0=>u=(.bC 0:AV).ev ρ
 |1=>u=(sA 80 83 81 82:AV).ev ρ
 |2=>u=(i64 (v 15):AV).ev ρ
 |3=>u=(.ptr (some (eC 80 83 15)):AV).ev ρ
 |4=>u=(i64 (v 16):AV).ev ρ
 |5=>u=(.agg [i64 (v 31),i64 (v 32),i64 (v 33),i64 (v 34)]:AV).ev ρ
 |6=>u=(.bC 3:AV).ev ρ
 |7=>u=(.agg [i8 (v 21),i64 (v 22)]:AV).ev ρ
 |8=>∃b,u=bI b∧base≤b∧(cu.obj 43 [cY 0,iV 0]).at Tryz.prog w b
 |_=>True
theorem Fa{ρ:Env}{base:Nat}(i:Nat)(u:Value)(w w':World)(h:xY ρ base i u w)(f:bA w w'):xY ρ base i u w':=by
 unfold xY at h⊢;split at h
 all_goals first|exact h|(obtain⟨b,h1,h2,h3⟩:=h;exact⟨b,h1,h2,bM h3 f⟩)
section
variable {w w0:World}{cs:List Frame}{fr:Frame}
theorem Jo{ρ:Env}{base:Nat}{k:List Item}(pk:∀w',bA w0 w'->dS 61 #[ρ.v 0,iV (ρ.i 16),.agg #[iV (ρ.i 31),iV (ρ.i 32),iV (ρ.i 33),iV (ρ.i 34)],ρ.v 3] w' fun u w2=>bA w' w2∧u=.agg #[cY (ρ.i 21),iV (ρ.i 22)])(hb0:base≤w0.heap.size)(iA:cr ρ MZ)(hmem:cw ρ w0 MY):
  ∀i,i<10->(!(Nat.beq i 9))=true->∀(l:List Nat) (w:World) (fr:Frame) (lv:List (Nat×Value)),bA w0 w->FA 61 167 (.inRegion mK (i::l)::k) [] .normal lv fr->(∀x∈told ρ uW,x∈lv)->(∀p∈ja mK i,∃v,(G7 p,v)∈lv∧xY ρ base p v w)->
   Goes (G fr cs) w fun g' w'=>∃fr' v,g'=G fr' cs∧bA w w'∧xY ρ base i v w'∧FA 61 167 (.inRegion mK l::k) [] .normal (fL (G7 i) v lv) fr':=by
 intro j hi he l w fr lv f hf hb hp;have bm:∀{j:Nat} {q:Nat×Value},(told ρ uW)[j]?=some q->q∈lv:=fun h=>hb _ (ay h);rcases(by omega:j=0∨j=1∨j=2∨j=3∨j=4∨j=5∨j=6∨j=7∨j=8∨j=9)with rfl|rfl|rfl|rfl|rfl|rfl|rfl|rfl|rfl|rfl
 ·exact Uj.dc ρ hf (by decide) (cT (bm (j:=0) rfl)) trivial trivial rfl
 ·exact Uk.dc ρ hf (by decide) (cT (bm (j:=4) rfl)) trivial trivial rfl
 ·exact Ul.dc ρ hf (by decide) (cT (bm (j:=5) rfl)) trivial trivial rfl
 ·obtain⟨v1,q1,e1⟩:=hp 1 (dy (by kernel_rfl));have e1:v1=(sA 80 83 81 82:AV).ev ρ:=e1;subst e1;obtain⟨v2,q2,e2⟩:=hp 2 (dy (by kernel_rfl));have e2:v2=(i64 (v 15):AV).ev ρ:=e2;subst e2;exact Um.dc ρ hf (by decide) (kX q1 q2) ⟨iA.1,iA.2.1,trivial⟩ trivial rfl
 ·obtain⟨v3,q3,e3⟩:=hp 3 (dy (by kernel_rfl));have e3:v3=(.ptr (some (eC 80 83 15)):AV).ev ρ:=e3;subst e3;exact Un.dc ρ hf (by decide) (cT q3) trivial ⟨f.cell hmem.1,trivial⟩ rfl
 ·exact Uo.dc ρ hf (by decide) (cT (bm (j:=2) rfl)) trivial ⟨f.cell hmem.2.1,f.cell hmem.2.2.1,f.cell hmem.2.2.2.1,f.cell hmem.2.2.2.2.1,trivial⟩ rfl
 ·exact Up.dc ρ hf (by decide) (cT (bm (j:=1) rfl)) trivial trivial rfl
 ·obtain⟨v0,q0,e0⟩:=hp 0 (dy (by kernel_rfl));have e0:v0=(.bC 0:AV).ev ρ:=e0;subst e0;obtain⟨v4,q4,e4⟩:=hp 4 (dy (by kernel_rfl));have e4:v4=(i64 (v 16):AV).ev ρ:=e4;subst e4;obtain⟨v5,q5,e5⟩:=hp 5 (dy (by kernel_rfl));have e5:v5=(.agg [i64 (v 31),i64 (v 32),i64 (v 33),i64 (v 34)]:AV).ev ρ:=e5;subst e5;obtain⟨v6,q6,e6⟩:=hp 6 (dy (by kernel_rfl));have e6:v6=(.bC 3:AV).ev ρ:=e6;subst e6;exact Uq.dc ρ (Q:=fun u w'=>u=(.agg [i8 (v 21),i64 (v 22)]:AV).ev ρ) hf (Jn q0 q4 q5 q6) (fun w' f1=>pk w' (f.trans f1))
 ·refine(zV Ur hf (by decide)).mono fun g' w' hd=>?_;obtain⟨fr',u,rfl,⟨f1,rfl,yb⟩,F1⟩:=hd;exact⟨fr',_,rfl,f1,⟨_,rfl,aA hb0 f.size,yb⟩,F1⟩
 ·exact absurd he (by decide)
theorem M0{ρ:Env}{base:Nat}{k:List Item}{lv:List (Nat×Value)}(pk:∀w',bA w w'->dS 61 #[ρ.v 0,iV (ρ.i 16),.agg #[iV (ρ.i 31),iV (ρ.i 32),iV (ρ.i 33),iV (ρ.i 34)],ρ.v 3] w' fun u w2=>bA w' w2∧u=.agg #[cY (ρ.i 21),iV (ρ.i 22)])(hb0:base≤w.heap.size)(iA:cr ρ MZ)(hmem:cw ρ w MY)(hl:fT lv (told ρ uW))(hf:FA 61 167 (.code (cO 2014792)::k) [] .normal lv fr):
  Goes (G fr cs) w fun g' w'=>∃fr' i_,g'=G fr' cs∧bA w w'∧FA 61 167 (.inRegion mK [9]::k) [] .normal i_ fr'∧(∀x∈told ρ uW,x∈i_)∧∀i,i<10->(!(Nat.beq i 9))=true->∃v,(G7 i,v)∈i_∧xY ρ base i v w':=by
 obtain⟨id,hid⟩:=gI (c:=cO 2014792) (by kernel_rfl);have hf:=hf.only hl;rw[hid]at hf;refine(gH hf).trans fun g1 w1 hd=>?_;obtain⟨ls,bT,rfl,f1,hs,F1⟩:=hd;refine(ij (b:=told ρ uW) (nm:=G7) (val:=xY ρ base) (early:=fun i=>!(Nat.beq i 9)) (late:=[9]) (n:=10) (w0:=w) (by kernel_rfl) (by kernel_rfl) (by kernel_rfl) (by kernel_rfl) (by kernel_rfl) (by kernel_rfl) (by kernel_rfl) (bh _ _) Fa (Jo pk hb0 iA hmem) ls [] f1 (fun i hi=>by cases hi) hs ⟨_,F1,fun x hx=>hx,fun i hi=>by cases hi⟩).mono fun g2 w2 bX=>?_;obtain⟨cB,lv,h1,h2,h3,h4,h5⟩:=bX;exact⟨cB,lv,h1,h2,h3,h4,h5⟩
end
noncomputable abbrev n9:Array Oper:=opsOf (cO 31482)
theorem Uu:dD 167 n9 0 [] [] [(0,.bC 0)] (.bC 0) 57:={}
theorem Uv:dD 167 n9 1 [] [] [(10,sA 80 83 81 82)] (sA 80 83 81 82) 58:={}
theorem Uw:dD 167 n9 2 MH [] [(58,sA 80 83 81 82)] (.ptr (some ⟨(.dyn 80),(v 83)⟩)) 59:={}
theorem Ux:dD 167 n9 3 [] [(⟨(.dyn 80),(v 83)⟩,i64 (v 16))] [(59,.ptr (some ⟨(.dyn 80),(v 83)⟩))] (i64 (v 16)) 60:={}
theorem Uy:dD 167 n9 4 [] AO [(6,bz 65)] (.agg [i64 (v 31),i64 (v 32),i64 (v 33),i64 (v 34)]) 61:={}
theorem Uz:dD 167 n9 5 [] [] [(3,.bC 3)] (.bC 3) 62:={}
theorem UA:di 167 n9 6 [(57,.bC 0),(60,i64 (v 16)),(61,.agg [i64 (v 31),i64 (v 32),i64 (v 33),i64 (v 34)]),(62,.bC 3)] 61 [.bC 0,i64 (v 16),.agg [i64 (v 31),i64 (v 32),i64 (v 33),i64 (v 34)],.bC 3] 63:={}
theorem UB:jO 167 n9 7 [] (.store 43 (.tmp 8) (.tmp 63)) 0 none:={}
def G8(i:Nat):Nat:=match i with
 |0=>57|1=>58|2=>59|3=>60|4=>61|5=>62|6=>63|_=>9999
noncomputable abbrev uX:List (Nat×AV):=[(0,.bC 0),(3,.bC 3),(6,bz 65),(8,bz 68),(10,sA 80 83 81 82)]
noncomputable abbrev M6:List (AA×AV):=[(⟨(.dyn 80),(.plus (.tn (v 83)) (.lit 0))⟩,i64 (v 16)),(⟨(.dyn 80),(v 83)⟩,i64 (v 16)),(eD 65 0,i64 (v 31)),(eD 65 1,i64 (v 32)),(eD 65 2,i64 (v 33)),(eD 65 3,i64 (v 34))]
noncomputable abbrev M7:List (BE×Bool):=ME
noncomputable def xZ(ρ:Env)(i:Nat)(u:Value)(w:World):Prop:=match i with
 |0=>u=(.bC 0:AV).ev ρ
 |1=>u=(sA 80 83 81 82:AV).ev ρ
 |2=>u=(.ptr (some ⟨(.dyn 80),(v 83)⟩):AV).ev ρ
 |3=>u=(i64 (v 16):AV).ev ρ
 |4=>u=(.agg [i64 (v 31),i64 (v 32),i64 (v 33),i64 (v 34)]:AV).ev ρ
 |5=>u=(.bC 3:AV).ev ρ
 |6=>u=(.agg [i8 (v 21),i64 (v 22)]:AV).ev ρ
 |_=>True
theorem Fb{ρ:Env}(i:Nat)(u:Value)(w w':World)(h:xZ ρ i u w)(f:bA w w'):xZ ρ i u w':=by
 unfold xZ at h⊢;split at h
 all_goals first|exact h
section
variable {w w0:World}{cs:List Frame}{fr:Frame}
theorem Jp{ρ:Env}{k:List Item}(pk:∀w',bA w0 w'->dS 61 #[ρ.v 0,iV (ρ.i 16),.agg #[iV (ρ.i 31),iV (ρ.i 32),iV (ρ.i 33),iV (ρ.i 34)],ρ.v 3] w' fun u w2=>bA w' w2∧u=.agg #[cY (ρ.i 21),iV (ρ.i 22)])(iA:cr ρ M7)(hmem:cw ρ w0 M6):
  ∀i,i<8->(!(Nat.beq i 7))=true->∀(l:List Nat) (w:World) (fr:Frame) (lv:List (Nat×Value)),bA w0 w->FA 61 167 (.inRegion n9 (i::l)::k) [] .normal lv fr->(∀x∈told ρ uX,x∈lv)->(∀p∈ja n9 i,∃v,(G8 p,v)∈lv∧xZ ρ p v w)->
   Goes (G fr cs) w fun g' w'=>∃fr' v,g'=G fr' cs∧bA w w'∧xZ ρ i v w'∧FA 61 167 (.inRegion n9 l::k) [] .normal (fL (G8 i) v lv) fr':=by
 intro j hi he l w fr lv f hf hb hp;have bm:∀{j:Nat} {q:Nat×Value},(told ρ uX)[j]?=some q->q∈lv:=fun h=>hb _ (ay h);rcases(by omega:j=0∨j=1∨j=2∨j=3∨j=4∨j=5∨j=6∨j=7)with rfl|rfl|rfl|rfl|rfl|rfl|rfl|rfl
 ·exact Uu.dc ρ hf (by decide) (cT (bm (j:=0) rfl)) trivial trivial rfl
 ·exact Uv.dc ρ hf (by decide) (cT (bm (j:=4) rfl)) trivial trivial rfl
 ·obtain⟨v1,q1,e1⟩:=hp 1 (dy (by kernel_rfl));have e1:v1=(sA 80 83 81 82:AV).ev ρ:=e1;subst e1;exact Uw.dc ρ hf (by decide) (cT q1) ⟨iA.1,trivial⟩ trivial rfl
 ·obtain⟨v2,q2,e2⟩:=hp 2 (dy (by kernel_rfl));have e2:v2=(.ptr (some ⟨(.dyn 80),(v 83)⟩):AV).ev ρ:=e2;subst e2;exact Ux.dc ρ hf (by decide) (cT q2) trivial ⟨f.cell hmem.2.1,trivial⟩ rfl
 ·exact Uy.dc ρ hf (by decide) (cT (bm (j:=2) rfl)) trivial ⟨f.cell hmem.2.2.1,f.cell hmem.2.2.2.1,f.cell hmem.2.2.2.2.1,f.cell hmem.2.2.2.2.2.1,trivial⟩ rfl
 ·exact Uz.dc ρ hf (by decide) (cT (bm (j:=1) rfl)) trivial trivial rfl
 ·obtain⟨v0,q0,e0⟩:=hp 0 (dy (by kernel_rfl));have e0:v0=(.bC 0:AV).ev ρ:=e0;subst e0;obtain⟨v3,q3,e3⟩:=hp 3 (dy (by kernel_rfl));have e3:v3=(i64 (v 16):AV).ev ρ:=e3;subst e3;obtain⟨v4,q4,e4⟩:=hp 4 (dy (by kernel_rfl));have e4:v4=(.agg [i64 (v 31),i64 (v 32),i64 (v 33),i64 (v 34)]:AV).ev ρ:=e4;subst e4;obtain⟨v5,q5,e5⟩:=hp 5 (dy (by kernel_rfl));have e5:v5=(.bC 3:AV).ev ρ:=e5;subst e5;exact UA.dc ρ (Q:=fun u w'=>u=(.agg [i8 (v 21),i64 (v 22)]:AV).ev ρ) hf (Jn q0 q3 q4 q5) (fun w' f1=>pk w' (f.trans f1))
 ·exact absurd he (by decide)
theorem M8{ρ:Env}{k:List Item}{lv:List (Nat×Value)}(pk:∀w',bA w w'->dS 61 #[ρ.v 0,iV (ρ.i 16),.agg #[iV (ρ.i 31),iV (ρ.i 32),iV (ρ.i 33),iV (ρ.i 34)],ρ.v 3] w' fun u w2=>bA w' w2∧u=.agg #[cY (ρ.i 21),iV (ρ.i 22)])(iA:cr ρ M7)(hmem:cw ρ w M6)(hl:fT lv (told ρ uX))(hf:FA 61 167 (.code (cO 31482)::k) [] .normal lv fr):
  Goes (G fr cs) w fun g' w'=>∃fr' i_,g'=G fr' cs∧bA w w'∧FA 61 167 (.inRegion n9 [7]::k) [] .normal i_ fr'∧(∀x∈told ρ uX,x∈i_)∧∀i,i<8->(!(Nat.beq i 7))=true->∃v,(G8 i,v)∈i_∧xZ ρ i v w':=by
 obtain⟨id,hid⟩:=gI (c:=cO 31482) (by kernel_rfl);have hf:=hf.only hl;rw[hid]at hf;refine(gH hf).trans fun g1 w1 hd=>?_;obtain⟨ls,bT,rfl,f1,hs,F1⟩:=hd;refine(ij (b:=told ρ uX) (nm:=G8) (val:=xZ ρ) (early:=fun i=>!(Nat.beq i 7)) (late:=[7]) (n:=8) (w0:=w) (by kernel_rfl) (by kernel_rfl) (by kernel_rfl) (by kernel_rfl) (by kernel_rfl) (by kernel_rfl) (by kernel_rfl) (bh _ _) Fb (Jp pk iA hmem) ls [] f1 (fun i hi=>by cases hi) hs ⟨_,F1,fun x hx=>hx,fun i hi=>by cases hi⟩).mono fun g2 w2 bX=>?_;obtain⟨cB,lv,h1,h2,h3,h4,h5⟩:=bX;exact⟨cB,lv,h1,h2,h3,h4,h5⟩
end
noncomputable abbrev ni:Array Oper:=opsOf (cO 62)
theorem UC:dD 167 ni 0 [] [] [(0,.bC 0)] (.bC 0) 64:={}
theorem UD:dD 167 ni 1 [] [] [(10,sA 80 83 81 82)] (sA 80 83 81 82) 65:={}
theorem UE:dD 167 ni 2 MH [] [(65,sA 80 83 81 82)] (.ptr (some ⟨(.dyn 80),(v 83)⟩)) 66:={}
theorem UF:dD 167 ni 3 [] [(⟨(.dyn 80),(v 83)⟩,i64 (v 16))] [(66,.ptr (some ⟨(.dyn 80),(v 83)⟩))] (i64 (v 16)) 67:={}
theorem UG:dD 167 ni 4 [] AO [(6,bz 65)] (.agg [i64 (v 31),i64 (v 32),i64 (v 33),i64 (v 34)]) 68:={}
theorem UH:dD 167 ni 5 [] [] [(3,.bC 3)] (.bC 3) 69:={}
theorem UI:di 167 ni 6 [(64,.bC 0),(67,i64 (v 16)),(68,.agg [i64 (v 31),i64 (v 32),i64 (v 33),i64 (v 34)]),(69,.bC 3)] 61 [.bC 0,i64 (v 16),.agg [i64 (v 31),i64 (v 32),i64 (v 33),i64 (v 34)],.bC 3] 70:={}
theorem UJ:jO 167 ni 7 [] (.alloc 43) 0 (some 13):={}
theorem UK:jO 167 ni 8 [] (.store 43 (.tmp 13) (.tmp 70)) 0 none:={}
def G9(i:Nat):Nat:=match i with
 |0=>64|1=>65|2=>66|3=>67|4=>68|5=>69|6=>70|7=>13|_=>9999
noncomputable abbrev uY:List (Nat×AV):=[(0,.bC 0),(3,.bC 3),(6,bz 65),(8,bz 68),(10,sA 80 83 81 82),(9,bz 64)]
noncomputable abbrev M9:List (AA×AV):=[(⟨(.dyn 80),(.plus (.tn (v 83)) (.lit 0))⟩,i64 (v 16)),(⟨(.dyn 80),(v 83)⟩,i64 (v 16)),(eD 65 0,i64 (v 31)),(eD 65 1,i64 (v 32)),(eD 65 2,i64 (v 33)),(eD 65 3,i64 (v 34))]
noncomputable abbrev M_:List (BE×Bool):=ME
noncomputable def x4(ρ:Env)(base i:Nat)(u:Value)(w:World):Prop:=match i with
 |0=>u=(.bC 0:AV).ev ρ
 |1=>u=(sA 80 83 81 82:AV).ev ρ
 |2=>u=(.ptr (some ⟨(.dyn 80),(v 83)⟩):AV).ev ρ
 |3=>u=(i64 (v 16):AV).ev ρ
 |4=>u=(.agg [i64 (v 31),i64 (v 32),i64 (v 33),i64 (v 34)]:AV).ev ρ
 |5=>u=(.bC 3:AV).ev ρ
 |6=>u=(.agg [i8 (v 21),i64 (v 22)]:AV).ev ρ
 |7=>∃b,u=bI b∧base≤b∧(cu.obj 43 [cY 0,iV 0]).at Tryz.prog w b
 |_=>True
theorem Fc{ρ:Env}{base:Nat}(i:Nat)(u:Value)(w w':World)(h:x4 ρ base i u w)(f:bA w w'):x4 ρ base i u w':=by
 unfold x4 at h⊢;split at h
 all_goals first|exact h|(obtain⟨b,h1,h2,h3⟩:=h;exact⟨b,h1,h2,bM h3 f⟩)
section
variable {w w0:World}{cs:List Frame}{fr:Frame}
theorem Jq{ρ:Env}{base:Nat}{k:List Item}(pk:∀w',bA w0 w'->dS 61 #[ρ.v 0,iV (ρ.i 16),.agg #[iV (ρ.i 31),iV (ρ.i 32),iV (ρ.i 33),iV (ρ.i 34)],ρ.v 3] w' fun u w2=>bA w' w2∧u=.agg #[cY (ρ.i 21),iV (ρ.i 22)])(hb0:base≤w0.heap.size)(iA:cr ρ M_)(hmem:cw ρ w0 M9):
  ∀i,i<9->(!(Nat.beq i 8))=true->∀(l:List Nat) (w:World) (fr:Frame) (lv:List (Nat×Value)),bA w0 w->FA 61 167 (.inRegion ni (i::l)::k) [] .normal lv fr->(∀x∈told ρ uY,x∈lv)->(∀p∈ja ni i,∃v,(G9 p,v)∈lv∧x4 ρ base p v w)->
   Goes (G fr cs) w fun g' w'=>∃fr' v,g'=G fr' cs∧bA w w'∧x4 ρ base i v w'∧FA 61 167 (.inRegion ni l::k) [] .normal (fL (G9 i) v lv) fr':=by
 intro j hi he l w fr lv f hf hb hp;have bm:∀{j:Nat} {q:Nat×Value},(told ρ uY)[j]?=some q->q∈lv:=fun h=>hb _ (ay h);rcases(by omega:j=0∨j=1∨j=2∨j=3∨j=4∨j=5∨j=6∨j=7∨j=8)with rfl|rfl|rfl|rfl|rfl|rfl|rfl|rfl|rfl
 ·exact UC.dc ρ hf (by decide) (cT (bm (j:=0) rfl)) trivial trivial rfl
 ·exact UD.dc ρ hf (by decide) (cT (bm (j:=4) rfl)) trivial trivial rfl
 ·obtain⟨v1,q1,e1⟩:=hp 1 (dy (by kernel_rfl));have e1:v1=(sA 80 83 81 82:AV).ev ρ:=e1;subst e1;exact UE.dc ρ hf (by decide) (cT q1) ⟨iA.1,trivial⟩ trivial rfl
 ·obtain⟨v2,q2,e2⟩:=hp 2 (dy (by kernel_rfl));have e2:v2=(.ptr (some ⟨(.dyn 80),(v 83)⟩):AV).ev ρ:=e2;subst e2;exact UF.dc ρ hf (by decide) (cT q2) trivial ⟨f.cell hmem.2.1,trivial⟩ rfl
 ·exact UG.dc ρ hf (by decide) (cT (bm (j:=2) rfl)) trivial ⟨f.cell hmem.2.2.1,f.cell hmem.2.2.2.1,f.cell hmem.2.2.2.2.1,f.cell hmem.2.2.2.2.2.1,trivial⟩ rfl
 ·exact UH.dc ρ hf (by decide) (cT (bm (j:=1) rfl)) trivial trivial rfl
 ·obtain⟨v0,q0,e0⟩:=hp 0 (dy (by kernel_rfl));have e0:v0=(.bC 0:AV).ev ρ:=e0;subst e0;obtain⟨v3,q3,e3⟩:=hp 3 (dy (by kernel_rfl));have e3:v3=(i64 (v 16):AV).ev ρ:=e3;subst e3;obtain⟨v4,q4,e4⟩:=hp 4 (dy (by kernel_rfl));have e4:v4=(.agg [i64 (v 31),i64 (v 32),i64 (v 33),i64 (v 34)]:AV).ev ρ:=e4;subst e4;obtain⟨v5,q5,e5⟩:=hp 5 (dy (by kernel_rfl));have e5:v5=(.bC 3:AV).ev ρ:=e5;subst e5;exact UI.dc ρ (Q:=fun u w'=>u=(.agg [i8 (v 21),i64 (v 22)]:AV).ev ρ) hf (Jn q0 q3 q4 q5) (fun w' f1=>pk w' (f.trans f1))
 ·refine(zV UJ hf (by decide)).mono fun g' w' hd=>?_;obtain⟨fr',u,rfl,⟨f1,rfl,yb⟩,F1⟩:=hd;exact⟨fr',_,rfl,f1,⟨_,rfl,aA hb0 f.size,yb⟩,F1⟩
 ·exact absurd he (by decide)
theorem Na{ρ:Env}{base:Nat}{k:List Item}{lv:List (Nat×Value)}(pk:∀w',bA w w'->dS 61 #[ρ.v 0,iV (ρ.i 16),.agg #[iV (ρ.i 31),iV (ρ.i 32),iV (ρ.i 33),iV (ρ.i 34)],ρ.v 3] w' fun u w2=>bA w' w2∧u=.agg #[cY (ρ.i 21),iV (ρ.i 22)])(hb0:base≤w.heap.size)(iA:cr ρ M_)(hmem:cw ρ w M9)(hl:fT lv (told ρ uY))(hf:FA 61 167 (.code (cO 62)::k) [] .normal lv fr):
  Goes (G fr cs) w fun g' w'=>∃fr' i_,g'=G fr' cs∧bA w w'∧FA 61 167 (.inRegion ni [8]::k) [] .normal i_ fr'∧(∀x∈told ρ uY,x∈i_)∧∀i,i<9->(!(Nat.beq i 8))=true->∃v,(G9 i,v)∈i_∧x4 ρ base i v w':=by
 obtain⟨id,hid⟩:=gI (c:=cO 62) (by kernel_rfl);have hf:=hf.only hl;rw[hid]at hf;refine(gH hf).trans fun g1 w1 hd=>?_;obtain⟨ls,bT,rfl,f1,hs,F1⟩:=hd;refine(ij (b:=told ρ uY) (nm:=G9) (val:=x4 ρ base) (early:=fun i=>!(Nat.beq i 8)) (late:=[8]) (n:=9) (w0:=w) (by kernel_rfl) (by kernel_rfl) (by kernel_rfl) (by kernel_rfl) (by kernel_rfl) (by kernel_rfl) (by kernel_rfl) (bh _ _) Fc (Jq pk hb0 iA hmem) ls [] f1 (fun i hi=>by cases hi) hs ⟨_,F1,fun x hx=>hx,fun i hi=>by cases hi⟩).mono fun g2 w2 bX=>?_;obtain⟨cB,lv,h1,h2,h3,h4,h5⟩:=bX;exact⟨cB,lv,h1,h2,h3,h4,h5⟩
end
noncomputable abbrev n_:Array Oper:=opsOf (cO 65188)
theorem UL:dD 167 n_ 0 [] [] [(0,.bC 0)] (.bC 0) 82:={}
theorem UM:dD 167 n_ 1 [] [] [(10,sA 80 83 81 82)] (sA 80 83 81 82) 83:={}
theorem UN:dD 167 n_ 2 [((.cmp .lss (.lit 1) (.tn (v 81))),true)] [] [(83,sA 80 83 81 82)] (.ptr (some ⟨(.dyn 80),(.plus (.tn (v 83)) (.lit 1))⟩)) 84:={}
theorem UO:dD 167 n_ 3 [] [(⟨(.dyn 80),(.plus (.tn (v 83)) (.lit 1))⟩,i64 (v 16))] [(84,.ptr (some ⟨(.dyn 80),(.plus (.tn (v 83)) (.lit 1))⟩))] (i64 (v 16)) 85:={}
theorem UP:dD 167 n_ 4 [] AO [(6,bz 65)] (.agg [i64 (v 31),i64 (v 32),i64 (v 33),i64 (v 34)]) 86:={}
theorem UQ:dD 167 n_ 5 [] [] [(3,.bC 3)] (.bC 3) 87:={}
theorem UR:di 167 n_ 6 [(82,.bC 0),(85,i64 (v 16)),(86,.agg [i64 (v 31),i64 (v 32),i64 (v 33),i64 (v 34)]),(87,.bC 3)] 61 [.bC 0,i64 (v 16),.agg [i64 (v 31),i64 (v 32),i64 (v 33),i64 (v 34)],.bC 3] 88:={}
theorem US:jO 167 n_ 7 [] (.store 43 (.tmp 8) (.tmp 88)) 0 none:={}
def G_(i:Nat):Nat:=match i with
 |0=>82|1=>83|2=>84|3=>85|4=>86|5=>87|6=>88|_=>9999
noncomputable abbrev uZ:List (Nat×AV):=[(0,.bC 0),(3,.bC 3),(6,bz 65),(8,bz 68),(10,sA 80 83 81 82)]
noncomputable abbrev Nb:List (AA×AV):=[(⟨(.dyn 80),(.plus (.tn (v 83)) (.lit 1))⟩,i64 (v 16)),(eD 65 0,i64 (v 31)),(eD 65 1,i64 (v 32)),(eD 65 2,i64 (v 33)),(eD 65 3,i64 (v 34))]
noncomputable abbrev Nc:List (BE×Bool):=O1
noncomputable def x5(ρ:Env)(i:Nat)(u:Value)(w:World):Prop:=match i with
 |0=>u=(.bC 0:AV).ev ρ
 |1=>u=(sA 80 83 81 82:AV).ev ρ
 |2=>u=(.ptr (some ⟨(.dyn 80),(.plus (.tn (v 83)) (.lit 1))⟩):AV).ev ρ
 |3=>u=(i64 (v 16):AV).ev ρ
 |4=>u=(.agg [i64 (v 31),i64 (v 32),i64 (v 33),i64 (v 34)]:AV).ev ρ
 |5=>u=(.bC 3:AV).ev ρ
 |6=>u=(.agg [i8 (v 21),i64 (v 22)]:AV).ev ρ
 |_=>True
theorem Fe{ρ:Env}(i:Nat)(u:Value)(w w':World)(h:x5 ρ i u w)(f:bA w w'):x5 ρ i u w':=by
 unfold x5 at h⊢;split at h
 all_goals first|exact h
section
variable {w w0:World}{cs:List Frame}{fr:Frame}
theorem Jr{ρ:Env}{k:List Item}(pk:∀w',bA w0 w'->dS 61 #[ρ.v 0,iV (ρ.i 16),.agg #[iV (ρ.i 31),iV (ρ.i 32),iV (ρ.i 33),iV (ρ.i 34)],ρ.v 3] w' fun u w2=>bA w' w2∧u=.agg #[cY (ρ.i 21),iV (ρ.i 22)])(iA:cr ρ Nc)(hmem:cw ρ w0 Nb):
  ∀i,i<8->(!(Nat.beq i 7))=true->∀(l:List Nat) (w:World) (fr:Frame) (lv:List (Nat×Value)),bA w0 w->FA 61 167 (.inRegion n_ (i::l)::k) [] .normal lv fr->(∀x∈told ρ uZ,x∈lv)->(∀p∈ja n_ i,∃v,(G_ p,v)∈lv∧x5 ρ p v w)->
   Goes (G fr cs) w fun g' w'=>∃fr' v,g'=G fr' cs∧bA w w'∧x5 ρ i v w'∧FA 61 167 (.inRegion n_ l::k) [] .normal (fL (G_ i) v lv) fr':=by
 intro j hi he l w fr lv f hf hb hp;have bm:∀{j:Nat} {q:Nat×Value},(told ρ uZ)[j]?=some q->q∈lv:=fun h=>hb _ (ay h);rcases(by omega:j=0∨j=1∨j=2∨j=3∨j=4∨j=5∨j=6∨j=7)with rfl|rfl|rfl|rfl|rfl|rfl|rfl|rfl
 ·exact UL.dc ρ hf (by decide) (cT (bm (j:=0) rfl)) trivial trivial rfl
 ·exact UM.dc ρ hf (by decide) (cT (bm (j:=4) rfl)) trivial trivial rfl
 ·obtain⟨v1,q1,e1⟩:=hp 1 (dy (by kernel_rfl));have e1:v1=(sA 80 83 81 82:AV).ev ρ:=e1;subst e1;exact UN.dc ρ hf (by decide) (cT q1) ⟨iA.1,trivial⟩ trivial rfl
 ·obtain⟨v2,q2,e2⟩:=hp 2 (dy (by kernel_rfl));have e2:v2=(.ptr (some ⟨(.dyn 80),(.plus (.tn (v 83)) (.lit 1))⟩):AV).ev ρ:=e2;subst e2;exact UO.dc ρ hf (by decide) (cT q2) trivial ⟨f.cell hmem.1,trivial⟩ rfl
 ·exact UP.dc ρ hf (by decide) (cT (bm (j:=2) rfl)) trivial ⟨f.cell hmem.2.1,f.cell hmem.2.2.1,f.cell hmem.2.2.2.1,f.cell hmem.2.2.2.2.1,trivial⟩ rfl
 ·exact UQ.dc ρ hf (by decide) (cT (bm (j:=1) rfl)) trivial trivial rfl
 ·obtain⟨v0,q0,e0⟩:=hp 0 (dy (by kernel_rfl));have e0:v0=(.bC 0:AV).ev ρ:=e0;subst e0;obtain⟨v3,q3,e3⟩:=hp 3 (dy (by kernel_rfl));have e3:v3=(i64 (v 16):AV).ev ρ:=e3;subst e3;obtain⟨v4,q4,e4⟩:=hp 4 (dy (by kernel_rfl));have e4:v4=(.agg [i64 (v 31),i64 (v 32),i64 (v 33),i64 (v 34)]:AV).ev ρ:=e4;subst e4;obtain⟨v5,q5,e5⟩:=hp 5 (dy (by kernel_rfl));have e5:v5=(.bC 3:AV).ev ρ:=e5;subst e5;exact UR.dc ρ (Q:=fun u w'=>u=(.agg [i8 (v 21),i64 (v 22)]:AV).ev ρ) hf (Jn q0 q3 q4 q5) (fun w' f1=>pk w' (f.trans f1))
 ·exact absurd he (by decide)
theorem Nf{ρ:Env}{k:List Item}{lv:List (Nat×Value)}(pk:∀w',bA w w'->dS 61 #[ρ.v 0,iV (ρ.i 16),.agg #[iV (ρ.i 31),iV (ρ.i 32),iV (ρ.i 33),iV (ρ.i 34)],ρ.v 3] w' fun u w2=>bA w' w2∧u=.agg #[cY (ρ.i 21),iV (ρ.i 22)])(iA:cr ρ Nc)(hmem:cw ρ w Nb)(hl:fT lv (told ρ uZ))(hf:FA 61 167 (.code (cO 65188)::k) [] .normal lv fr):
  Goes (G fr cs) w fun g' w'=>∃fr' i_,g'=G fr' cs∧bA w w'∧FA 61 167 (.inRegion n_ [7]::k) [] .normal i_ fr'∧(∀x∈told ρ uZ,x∈i_)∧∀i,i<8->(!(Nat.beq i 7))=true->∃v,(G_ i,v)∈i_∧x5 ρ i v w':=by
 obtain⟨id,hid⟩:=gI (c:=cO 65188) (by kernel_rfl);have hf:=hf.only hl;rw[hid]at hf;refine(gH hf).trans fun g1 w1 hd=>?_;obtain⟨ls,bT,rfl,f1,hs,F1⟩:=hd;refine(ij (b:=told ρ uZ) (nm:=G_) (val:=x5 ρ) (early:=fun i=>!(Nat.beq i 7)) (late:=[7]) (n:=8) (w0:=w) (by kernel_rfl) (by kernel_rfl) (by kernel_rfl) (by kernel_rfl) (by kernel_rfl) (by kernel_rfl) (by kernel_rfl) (bh _ _) Fe (Jr pk iA hmem) ls [] f1 (fun i hi=>by cases hi) hs ⟨_,F1,fun x hx=>hx,fun i hi=>by cases hi⟩).mono fun g2 w2 bX=>?_;obtain⟨cB,lv,h1,h2,h3,h4,h5⟩:=bX;exact⟨cB,lv,h1,h2,h3,h4,h5⟩
end
noncomputable abbrev oc:Array Oper:=opsOf (cO 16298)
theorem UT:dD 167 oc 0 [] [] [(0,.bC 0)] (.bC 0) 89:={}
theorem UU:dD 167 oc 1 [] [] [(10,sA 80 83 81 82)] (sA 80 83 81 82) 90:={}
theorem UW:dD 167 oc 2 [((.cmp .lss (.lit 2) (.tn (v 81))),true)] [] [(90,sA 80 83 81 82)] (.ptr (some ⟨(.dyn 80),(.plus (.tn (v 83)) (.lit 2))⟩)) 91:={}
theorem UX:dD 167 oc 3 [] [(⟨(.dyn 80),(.plus (.tn (v 83)) (.lit 2))⟩,i64 (v 16))] [(91,.ptr (some ⟨(.dyn 80),(.plus (.tn (v 83)) (.lit 2))⟩))] (i64 (v 16)) 92:={}
theorem UY:dD 167 oc 4 [] AO [(6,bz 65)] (.agg [i64 (v 31),i64 (v 32),i64 (v 33),i64 (v 34)]) 93:={}
theorem UZ:dD 167 oc 5 [] [] [(3,.bC 3)] (.bC 3) 94:={}
theorem U1:di 167 oc 6 [(89,.bC 0),(92,i64 (v 16)),(93,.agg [i64 (v 31),i64 (v 32),i64 (v 33),i64 (v 34)]),(94,.bC 3)] 61 [.bC 0,i64 (v 16),.agg [i64 (v 31),i64 (v 32),i64 (v 33),i64 (v 34)],.bC 3] 95:={}
theorem U2:jO 167 oc 7 [] (.store 43 (.tmp 8) (.tmp 95)) 0 none:={}
def He(i:Nat):Nat:=match i with
 |0=>89|1=>90|2=>91|3=>92|4=>93|5=>94|6=>95|_=>9999
noncomputable abbrev u0:List (Nat×AV):=[(0,.bC 0),(3,.bC 3),(6,bz 65),(8,bz 68),(10,sA 80 83 81 82)]
noncomputable abbrev Ng:List (AA×AV):=[(⟨(.dyn 80),(.plus (.tn (v 83)) (.lit 2))⟩,i64 (v 16)),(eD 65 0,i64 (v 31)),(eD 65 1,i64 (v 32)),(eD 65 2,i64 (v 33)),(eD 65 3,i64 (v 34))]
noncomputable abbrev Nh:List (BE×Bool):=[((.cmp .lss (.lit 2) (.tn (v 81))),true),((.cmp .geq (.lit 2) (.tn (v 81))),false)]
noncomputable def x6(ρ:Env)(i:Nat)(u:Value)(w:World):Prop:=match i with
 |0=>u=(.bC 0:AV).ev ρ
 |1=>u=(sA 80 83 81 82:AV).ev ρ
 |2=>u=(.ptr (some ⟨(.dyn 80),(.plus (.tn (v 83)) (.lit 2))⟩):AV).ev ρ
 |3=>u=(i64 (v 16):AV).ev ρ
 |4=>u=(.agg [i64 (v 31),i64 (v 32),i64 (v 33),i64 (v 34)]:AV).ev ρ
 |5=>u=(.bC 3:AV).ev ρ
 |6=>u=(.agg [i8 (v 21),i64 (v 22)]:AV).ev ρ
 |_=>True
theorem Ff{ρ:Env}(i:Nat)(u:Value)(w w':World)(h:x6 ρ i u w)(f:bA w w'):x6 ρ i u w':=by
 unfold x6 at h⊢;split at h
 all_goals first|exact h
section
variable {w w0:World}{cs:List Frame}{fr:Frame}
theorem Js{ρ:Env}{k:List Item}(pk:∀w',bA w0 w'->dS 61 #[ρ.v 0,iV (ρ.i 16),.agg #[iV (ρ.i 31),iV (ρ.i 32),iV (ρ.i 33),iV (ρ.i 34)],ρ.v 3] w' fun u w2=>bA w' w2∧u=.agg #[cY (ρ.i 21),iV (ρ.i 22)])(iA:cr ρ Nh)(hmem:cw ρ w0 Ng):
  ∀i,i<8->(!(Nat.beq i 7))=true->∀(l:List Nat) (w:World) (fr:Frame) (lv:List (Nat×Value)),bA w0 w->FA 61 167 (.inRegion oc (i::l)::k) [] .normal lv fr->(∀x∈told ρ u0,x∈lv)->(∀p∈ja oc i,∃v,(He p,v)∈lv∧x6 ρ p v w)->
   Goes (G fr cs) w fun g' w'=>∃fr' v,g'=G fr' cs∧bA w w'∧x6 ρ i v w'∧FA 61 167 (.inRegion oc l::k) [] .normal (fL (He i) v lv) fr':=by
 intro j hi he l w fr lv f hf hb hp;have bm:∀{j:Nat} {q:Nat×Value},(told ρ u0)[j]?=some q->q∈lv:=fun h=>hb _ (ay h);rcases(by omega:j=0∨j=1∨j=2∨j=3∨j=4∨j=5∨j=6∨j=7)with rfl|rfl|rfl|rfl|rfl|rfl|rfl|rfl
 ·exact UT.dc ρ hf (by decide) (cT (bm (j:=0) rfl)) trivial trivial rfl
 ·exact UU.dc ρ hf (by decide) (cT (bm (j:=4) rfl)) trivial trivial rfl
 ·obtain⟨v1,q1,e1⟩:=hp 1 (dy (by kernel_rfl));have e1:v1=(sA 80 83 81 82:AV).ev ρ:=e1;subst e1;exact UW.dc ρ hf (by decide) (cT q1) ⟨iA.1,trivial⟩ trivial rfl
 ·obtain⟨v2,q2,e2⟩:=hp 2 (dy (by kernel_rfl));have e2:v2=(.ptr (some ⟨(.dyn 80),(.plus (.tn (v 83)) (.lit 2))⟩):AV).ev ρ:=e2;subst e2;exact UX.dc ρ hf (by decide) (cT q2) trivial ⟨f.cell hmem.1,trivial⟩ rfl
 ·exact UY.dc ρ hf (by decide) (cT (bm (j:=2) rfl)) trivial ⟨f.cell hmem.2.1,f.cell hmem.2.2.1,f.cell hmem.2.2.2.1,f.cell hmem.2.2.2.2.1,trivial⟩ rfl
 ·exact UZ.dc ρ hf (by decide) (cT (bm (j:=1) rfl)) trivial trivial rfl
 ·obtain⟨v0,q0,e0⟩:=hp 0 (dy (by kernel_rfl));have e0:v0=(.bC 0:AV).ev ρ:=e0;subst e0;obtain⟨v3,q3,e3⟩:=hp 3 (dy (by kernel_rfl));have e3:v3=(i64 (v 16):AV).ev ρ:=e3;subst e3;obtain⟨v4,q4,e4⟩:=hp 4 (dy (by kernel_rfl));have e4:v4=(.agg [i64 (v 31),i64 (v 32),i64 (v 33),i64 (v 34)]:AV).ev ρ:=e4;subst e4;obtain⟨v5,q5,e5⟩:=hp 5 (dy (by kernel_rfl));have e5:v5=(.bC 3:AV).ev ρ:=e5;subst e5;exact U1.dc ρ (Q:=fun u w'=>u=(.agg [i8 (v 21),i64 (v 22)]:AV).ev ρ) hf (Jn q0 q3 q4 q5) (fun w' f1=>pk w' (f.trans f1))
 ·exact absurd he (by decide)
theorem Ni{ρ:Env}{k:List Item}{lv:List (Nat×Value)}(pk:∀w',bA w w'->dS 61 #[ρ.v 0,iV (ρ.i 16),.agg #[iV (ρ.i 31),iV (ρ.i 32),iV (ρ.i 33),iV (ρ.i 34)],ρ.v 3] w' fun u w2=>bA w' w2∧u=.agg #[cY (ρ.i 21),iV (ρ.i 22)])(iA:cr ρ Nh)(hmem:cw ρ w Ng)(hl:fT lv (told ρ u0))(hf:FA 61 167 (.code (cO 16298)::k) [] .normal lv fr):
  Goes (G fr cs) w fun g' w'=>∃fr' i_,g'=G fr' cs∧bA w w'∧FA 61 167 (.inRegion oc [7]::k) [] .normal i_ fr'∧(∀x∈told ρ u0,x∈i_)∧∀i,i<8->(!(Nat.beq i 7))=true->∃v,(He i,v)∈i_∧x6 ρ i v w':=by
 obtain⟨id,hid⟩:=gI (c:=cO 16298) (by kernel_rfl);have hf:=hf.only hl;rw[hid]at hf;refine(gH hf).trans fun g1 w1 hd=>?_;obtain⟨ls,bT,rfl,f1,hs,F1⟩:=hd;refine(ij (b:=told ρ u0) (nm:=He) (val:=x6 ρ) (early:=fun i=>!(Nat.beq i 7)) (late:=[7]) (n:=8) (w0:=w) (by kernel_rfl) (by kernel_rfl) (by kernel_rfl) (by kernel_rfl) (by kernel_rfl) (by kernel_rfl) (by kernel_rfl) (bh _ _) Ff (Js pk iA hmem) ls [] f1 (fun i hi=>by cases hi) hs ⟨_,F1,fun x hx=>hx,fun i hi=>by cases hi⟩).mono fun g2 w2 bX=>?_;obtain⟨cB,lv,h1,h2,h3,h4,h5⟩:=bX;exact⟨cB,lv,h1,h2,h3,h4,h5⟩
end
noncomputable abbrev nj:Array Oper:=opsOf (cO 130888)
theorem U3:dD 167 nj 0 [] [] [(0,.bC 0)] (.bC 0) 128:={}
theorem U4:dD 167 nj 1 [] [] [(10,sA 80 83 81 82)] (sA 80 83 81 82) 129:={}
theorem U5:dD 167 nj 2 [] [] [(15,i64 (v 15))] (i64 (v 15)) 130:={}
theorem U6:dD 167 nj 3 aaz [] [(129,sA 80 83 81 82),(130,i64 (v 15))] (.ptr (some (eC 80 83 15))) 131:={}
theorem U7:dD 167 nj 4 [] C0 [(131,.ptr (some (eC 80 83 15)))] (i64 (v 16)) 132:={}
theorem U8:dD 167 nj 5 [] AO [(6,bz 65)] (.agg [i64 (v 31),i64 (v 32),i64 (v 33),i64 (v 34)]) 133:={}
theorem U9:dD 167 nj 6 [] [] [(3,.bC 3)] (.bC 3) 134:={}
theorem U_:di 167 nj 7 [(128,.bC 0),(132,i64 (v 16)),(133,.agg [i64 (v 31),i64 (v 32),i64 (v 33),i64 (v 34)]),(134,.bC 3)] 61 [.bC 0,i64 (v 16),.agg [i64 (v 31),i64 (v 32),i64 (v 33),i64 (v 34)],.bC 3] 135:={}
theorem Va:jO 167 nj 8 [] (.store 43 (.tmp 14) (.tmp 135)) 0 none:={}
def Hf(i:Nat):Nat:=match i with
 |0=>128|1=>129|2=>130|3=>131|4=>132|5=>133|6=>134|7=>135|_=>9999
noncomputable abbrev u5:List (Nat×AV):=[(0,.bC 0),(3,.bC 3),(6,bz 65),(8,bz 68),(9,bz 64),(10,sA 80 83 81 82),(13,bz 67),(14,bz 69),(15,i64 (v 15))]
noncomputable abbrev Nj:List (AA×AV):=aaA
noncomputable abbrev Nk:List (BE×Bool):=(fN 15 81)
noncomputable def x7(ρ:Env)(i:Nat)(u:Value)(w:World):Prop:=match i with
 |0=>u=(.bC 0:AV).ev ρ
 |1=>u=(sA 80 83 81 82:AV).ev ρ
 |2=>u=(i64 (v 15):AV).ev ρ
 |3=>u=(.ptr (some (eC 80 83 15)):AV).ev ρ
 |4=>u=(i64 (v 16):AV).ev ρ
 |5=>u=(.agg [i64 (v 31),i64 (v 32),i64 (v 33),i64 (v 34)]:AV).ev ρ
 |6=>u=(.bC 3:AV).ev ρ
 |7=>u=(.agg [i8 (v 21),i64 (v 22)]:AV).ev ρ
 |_=>True
theorem Fg{ρ:Env}(i:Nat)(u:Value)(w w':World)(h:x7 ρ i u w)(f:bA w w'):x7 ρ i u w':=by
 unfold x7 at h⊢;split at h
 all_goals first|exact h
section
variable {w w0:World}{cs:List Frame}{fr:Frame}
theorem Jt{ρ:Env}{k:List Item}(pk:∀w',bA w0 w'->dS 61 #[ρ.v 0,iV (ρ.i 16),.agg #[iV (ρ.i 31),iV (ρ.i 32),iV (ρ.i 33),iV (ρ.i 34)],ρ.v 3] w' fun u w2=>bA w' w2∧u=.agg #[cY (ρ.i 21),iV (ρ.i 22)])(iA:cr ρ Nk)(hmem:cw ρ w0 Nj):
  ∀i,i<9->(!(Nat.beq i 8))=true->∀(l:List Nat) (w:World) (fr:Frame) (lv:List (Nat×Value)),bA w0 w->FA 61 167 (.inRegion nj (i::l)::k) [] .normal lv fr->(∀x∈told ρ u5,x∈lv)->(∀p∈ja nj i,∃v,(Hf p,v)∈lv∧x7 ρ p v w)->
   Goes (G fr cs) w fun g' w'=>∃fr' v,g'=G fr' cs∧bA w w'∧x7 ρ i v w'∧FA 61 167 (.inRegion nj l::k) [] .normal (fL (Hf i) v lv) fr':=by
 intro j hi he l w fr lv f hf hb hp;have bm:∀{j:Nat} {q:Nat×Value},(told ρ u5)[j]?=some q->q∈lv:=fun h=>hb _ (ay h);rcases(by omega:j=0∨j=1∨j=2∨j=3∨j=4∨j=5∨j=6∨j=7∨j=8)with rfl|rfl|rfl|rfl|rfl|rfl|rfl|rfl|rfl
 ·exact U3.dc ρ hf (by decide) (cT (bm (j:=0) rfl)) trivial trivial rfl
 ·exact U4.dc ρ hf (by decide) (cT (bm (j:=5) rfl)) trivial trivial rfl
 ·exact U5.dc ρ hf (by decide) (cT (bm (j:=8) rfl)) trivial trivial rfl
 ·obtain⟨v1,q1,e1⟩:=hp 1 (dy (by kernel_rfl));have e1:v1=(sA 80 83 81 82:AV).ev ρ:=e1;subst e1;obtain⟨v2,q2,e2⟩:=hp 2 (dy (by kernel_rfl));have e2:v2=(i64 (v 15):AV).ev ρ:=e2;subst e2;exact U6.dc ρ hf (by decide) (kX q1 q2) ⟨iA.1,iA.2.1,trivial⟩ trivial rfl
 ·obtain⟨v3,q3,e3⟩:=hp 3 (dy (by kernel_rfl));have e3:v3=(.ptr (some (eC 80 83 15)):AV).ev ρ:=e3;subst e3;exact U7.dc ρ hf (by decide) (cT q3) trivial ⟨f.cell hmem.1,trivial⟩ rfl
 ·exact U8.dc ρ hf (by decide) (cT (bm (j:=2) rfl)) trivial ⟨f.cell hmem.2.1,f.cell hmem.2.2.1,f.cell hmem.2.2.2.1,f.cell hmem.2.2.2.2.1,trivial⟩ rfl
 ·exact U9.dc ρ hf (by decide) (cT (bm (j:=1) rfl)) trivial trivial rfl
 ·obtain⟨v0,q0,e0⟩:=hp 0 (dy (by kernel_rfl));have e0:v0=(.bC 0:AV).ev ρ:=e0;subst e0;obtain⟨v4,q4,e4⟩:=hp 4 (dy (by kernel_rfl));have e4:v4=(i64 (v 16):AV).ev ρ:=e4;subst e4;obtain⟨v5,q5,e5⟩:=hp 5 (dy (by kernel_rfl));have e5:v5=(.agg [i64 (v 31),i64 (v 32),i64 (v 33),i64 (v 34)]:AV).ev ρ:=e5;subst e5;obtain⟨v6,q6,e6⟩:=hp 6 (dy (by kernel_rfl));have e6:v6=(.bC 3:AV).ev ρ:=e6;subst e6;exact U_.dc ρ (Q:=fun u w'=>u=(.agg [i8 (v 21),i64 (v 22)]:AV).ev ρ) hf (Jn q0 q4 q5 q6) (fun w' f1=>pk w' (f.trans f1))
 ·exact absurd he (by decide)
theorem Nl{ρ:Env}{k:List Item}{lv:List (Nat×Value)}(pk:∀w',bA w w'->dS 61 #[ρ.v 0,iV (ρ.i 16),.agg #[iV (ρ.i 31),iV (ρ.i 32),iV (ρ.i 33),iV (ρ.i 34)],ρ.v 3] w' fun u w2=>bA w' w2∧u=.agg #[cY (ρ.i 21),iV (ρ.i 22)])(iA:cr ρ Nk)(hmem:cw ρ w Nj)(hl:fT lv (told ρ u5))(hf:FA 61 167 (.code (cO 130888)::k) [] .normal lv fr):
  Goes (G fr cs) w fun g' w'=>∃fr' i_,g'=G fr' cs∧bA w w'∧FA 61 167 (.inRegion nj [8]::k) [] .normal i_ fr'∧(∀x∈told ρ u5,x∈i_)∧∀i,i<9->(!(Nat.beq i 8))=true->∃v,(Hf i,v)∈i_∧x7 ρ i v w':=by
 obtain⟨id,hid⟩:=gI (c:=cO 130888) (by kernel_rfl);have hf:=hf.only hl;rw[hid]at hf;refine(gH hf).trans fun g1 w1 hd=>?_;obtain⟨ls,bT,rfl,f1,hs,F1⟩:=hd;refine(ij (b:=told ρ u5) (nm:=Hf) (val:=x7 ρ) (early:=fun i=>!(Nat.beq i 8)) (late:=[8]) (n:=9) (w0:=w) (by kernel_rfl) (by kernel_rfl) (by kernel_rfl) (by kernel_rfl) (by kernel_rfl) (by kernel_rfl) (by kernel_rfl) (bh _ _) Fg (Jt pk iA hmem) ls [] f1 (fun i hi=>by cases hi) hs ⟨_,F1,fun x hx=>hx,fun i hi=>by cases hi⟩).mono fun g2 w2 bX=>?_;obtain⟨cB,lv,h1,h2,h3,h4,h5⟩:=bX;exact⟨cB,lv,h1,h2,h3,h4,h5⟩
end
noncomputable abbrev CmA:List Item:=MV
noncomputable abbrev CmB:List Item:=uV
theorem AP{e:Int×Int}:∀x∈[cY e.1,iV e.2],x.oneCell'=true:=by intro y hy;simp only[aj,az,or_false]at hy;rcases hy with rfl|rfl<;>rfl
def od(ρ:Env)(R:Nat):List (AA×AV)->Prop
 |[]=>True
 |p::r=>R≠(p.1.ev ρ).block∧od ρ R r
theorem od.mem{ρ:Env}{R:Nat}:∀{l:List (AA×AV)},od ρ R l->∀p∈l,R≠(p.1.ev ρ).block
 |q::r,h,p,hp=>by
  rcases aj.1 hp with rfl|hp
  ·exact h.1
  ·exact od.mem h.2 p hp
def Ju(f nt d:Nat):Prop:=∀st,results? Tryz.prog (OO [] [(⟨.dyn 62,.lit 0⟩,.bC 40),(⟨.dyn 62,.lit 1⟩,.bC 41)]) hN f (dz nt st [(d,bz 62)])=.ok (.agg [.bC 40,.bC 41])
theorem Vb:Ju 83 37 4:=fun st=>by kernel_rfl
theorem iQ:Ju 61 167 8:=fun st=>by kernel_rfl
theorem Vc:Ju 40 12 6:=fun st=>by kernel_rfl
section
variable {w w0:World}{cs:List Frame}{fr:Frame}
theorem pX{f nt d R:Nat}{lv:List (Nat×Value)}{k:List Item}{x y V:Value}(he:Ju f nt d)(hf:FA f nt (.code .ret::k) [] .normal lv fr)(hd:fP d lv=some (bI R))(hR:(cu.obj 43 [x,y]).at Tryz.prog w R)(fw:bA w0 w)(hV:Value.agg #[x,y]=V):Goes (G fr cs) w (Out f cs w0 fun v _=>v=V):=
 (uf he hf hd (bE hR (i:=0) rfl) (bE hR (i:=1) rfl)).mono fun g2 w2 bX=>by obtain⟨cB,rfl,rfl,hL⟩:=bX;exact⟨cB,_,rfl,hL,fw,hV⟩
theorem Pc.AQ{f nt d n:Nat}{todo k:List Item}{lA:List (Nat×AV)}{lv:List (Nat×Value)}{bs:List (BE×Bool)}{mem:List (AA×AV)}{a b:AV}(P:Pc f nt todo lA bs mem [(68,.cells [i8 (.lit 0),i64 (.lit 0)] 43)] n [68] [d] (.code .ret::k) [bz 68] [(68,.cells [a,b] 43)])(he:Ju f nt d)(ρ:Env){R:Nat}{V:Value}(hf:FA f nt todo [] .normal lv fr)(hl:fT lv (told ρ lA))(hb:cr ρ bs)(hm:cw ρ w mem)(eR:ρ.b 68=R)(hne:od ρ R mem)(hR:(cu.obj 43 [cY 0,iV 0]).at Tryz.prog w R)(fw:bA w0 w)(gR:w0.heap.size≤R)(hV:∀I B,Value.agg #[a.ev (cQ ρ I B),b.ev (cQ ρ I B)]=V):Goes (G fr cs) w (Out f cs w0 fun v _=>v=V):=by
 refine(P.B6 ρ hf hl hb hm (fun p hp x hx=>by obtain rfl:=ah.1 hx;show ρ.b 68≠_;rw[eR];exact hne.mem p hp) ⟨⟨.obj 43 [cY 0,iV 0],by rw[eR];exact hR,rfl,rfl⟩,trivial⟩ ei).trans fun g1 w1 hd=>?_
 obtain⟨I,B,bT,rfl,kp,F1,bl,_⟩:=hd;have yb:(cu.obj 43 [a.ev (cQ ρ I B),b.ev (cQ ρ I B)]).at Tryz.prog w1 R:=by have:=bl.1.2;rw[<-eR];exact this
 have fI:FA f nt (.code .ret::k) [] .normal [(d,bI R)] bT:=by rw[<-eR];exact F1
 refine pX he fI (by unfold fP;rw[Nat.beq_refl];rfl) yb (cq fw (kp.mono fun x hx=>?_)) (hV I B);rcases hx with h|⟨p,hp,e⟩
 ·exact aA fw.size h
 ·obtain rfl:=ah.1 hp;have e:ρ.b 68=x:=e;omega
theorem Pc.Hg{f nt d n:Nat}{todo k:List Item}{lA:List (Nat×AV)}{lv:List (Nat×Value)}{bs:List (BE×Bool)}{mem:List (AA×AV)}{a b:AV}(P:Pc f nt todo lA bs mem [(68,.cells [i8 (.lit 0),i64 (.lit 0)] 43),(69,.cells [i8 (v 23),i64 (v 24)] 43)] n [68] [d] (.code .ret::k) [bz 68] [(68,.cells [a,b] 43)])(he:Ju f nt d)(ρ:Env){R L:Nat}{V:Value}(hf:FA f nt todo [] .normal lv fr)(hl:fT lv (told ρ lA))(hb:cr ρ bs)(hm:cw ρ w mem)(eR:ρ.b 68=R)(eL:ρ.b 69=L)(hne:od ρ R mem)(aiY:od ρ L mem)(Pn:R≠L)(hR:(cu.obj 43 [cY 0,iV 0]).at Tryz.prog w R)(hL:(cu.obj 43 [cY (ρ.i 23),iV (ρ.i 24)]).at Tryz.prog w L)(fw:bA w0 w)(gR:w0.heap.size≤R)(gL:w0.heap.size≤L)(hV:∀I B,Value.agg #[a.ev (cQ ρ I B),b.ev (cQ ρ I B)]=V):Goes (G fr cs) w (Out f cs w0 fun v _=>v=V):=by
 refine(P.B6 ρ hf hl hb hm (fun p hp x hx=>by
  simp only[aj,az,or_false]at hx;rcases hx with rfl|rfl
  ·show ρ.b 68≠_;rw[eR];exact hne.mem p hp
  ·show ρ.b 69≠_;rw[eL];exact aiY.mem p hp) ⟨⟨.obj 43 [cY 0,iV 0],by rw[eR];exact hR,rfl,rfl⟩,⟨.obj 43 [cY (ρ.i 23),iV (ρ.i 24)],by rw[eL];exact hL,rfl,rfl⟩,trivial⟩ (by
  show[ρ.b 68,ρ.b 69].Nodup;rw[eR,eL];exact List.nodup_cons.2 ⟨fun h=>Pn (ah.1 h),ei⟩)).trans fun g1 w1 hd=>?_
 obtain⟨I,B,bT,rfl,kp,F1,bl,_⟩:=hd;have yb:(cu.obj 43 [a.ev (cQ ρ I B),b.ev (cQ ρ I B)]).at Tryz.prog w1 R:=by have:=bl.1.2;rw[<-eR];exact this
 have fI:FA f nt (.code .ret::k) [] .normal [(d,bI R)] bT:=by rw[<-eR];exact F1
 refine pX he fI (by unfold fP;rw[Nat.beq_refl];rfl) yb (cq fw (kp.mono fun x hx=>?_)) (hV I B);rcases hx with h|⟨p,hp,e⟩
 ·exact aA fw.size h
 ·simp only[aj,az,or_false]at hp;rcases hp with rfl|rfl
  ·have e:ρ.b 68=x:=e;omega
  ·have e:ρ.b 69=x:=e;omega
theorem Jv{m:cU}{k:Int}:dS 83 #[c_ m,iV k] w fun v w'=>bA w w'∧v=dh (eF m k):=by
 refine Goes.jy fun cs=>?_;have E:=dV Ug rfl (c_ m) (iV k);have ne:∀{x:Int},x>0->decide (x=0)=false:=fun h=>decide_eq_false (by omega);have go:∀{n:Nat} {bs:List (BE×Bool)} {kk:List Item} {a b:AV} (P:Pc 83 37 [.code (bD Tryz.f83)] [(0,.agg [i64 (v 31),i64 (v 32),i64 (v 33),i64 (v 34)]),(1,i64 (v 5))] bs [] [] n [101] [4] (.code .ret::kk) [bz 101] [(101,.cells [a,b] 43)]) (ρ:Env),fT [(0,c_ m),(1,iV k)] (told ρ [(0,.agg [i64 (v 31),i64 (v 32),i64 (v 33),i64 (v 34)]),(1,i64 (v 5))])->cr ρ bs->∀{e:Int×Int},(∀I B,Value.agg #[a.ev (cQ ρ I B),b.ev (cQ ρ I B)]=dh e)->eF m k=e->Goes (G (Frame.enter Tryz.prog 83 #[c_ m,iV k] .normal) cs) w (Out 83 cs w fun v w'=>v=dh (eF m k)):=fun{n bs kk a b} P ρ hl hb {e} hV he=>by refine(P.go ρ E hl hb trivial).trans fun g1 w1 hd=>?_;obtain⟨I,B,bT,rfl,f1,F1,bl,_⟩:=hd;exact pX (R:=B 101) Vb F1 rfl bl.1.2 f1 (by rw[he];exact hV I B)
 obtain⟨ρ,hρ⟩:∃ρ:Env,ρ=bL [(31,m.mul),(32,m.add),(33,m.cA),(34,m.panics),(5,k)] [] []:=⟨_,rfl⟩;have T:fT [(0,c_ m),(1,iV k)] (told ρ [(0,.agg [i64 (v 31),i64 (v 32),i64 (v 33),i64 (v 34)]),(1,i64 (v 5))]):=by rw[hρ];rfl
 by_cases h4:m.panics>0
 ·by_cases r4:Ck k m.panics=0
  ·exact go aih ρ T ⟨by rw[hρ];exact decide_eq_true h4,by rw[hρ];exact ne h4,by rw[hρ];exact decide_eq_true r4,trivial⟩ (e:=(3,k)) (fun _ _=>by rw[hρ];rfl) (by unfold eF;rw[if_pos ⟨h4,r4⟩])
  ·by_cases h3:m.cA>0
   ·by_cases r3:Ck k m.cA=0
    ·exact go aii ρ T ⟨by rw[hρ];exact decide_eq_true h4,by rw[hρ];exact ne h4,by rw[hρ];exact decide_eq_false r4,by rw[hρ];exact decide_eq_true h3,by rw[hρ];exact ne h3,by rw[hρ];exact decide_eq_true r3,trivial⟩ (e:=(2,k)) (fun _ _=>by rw[hρ];rfl) (by unfold eF;rw[if_neg fun h=>r4 h.2,if_pos ⟨h3,r3⟩])
    ·exact go aij ρ T ⟨by rw[hρ];exact decide_eq_true h4,by rw[hρ];exact ne h4,by rw[hρ];exact decide_eq_false r4,by rw[hρ];exact decide_eq_true h3,by rw[hρ];exact ne h3,by rw[hρ];exact decide_eq_false r3,trivial⟩ (e:=(1,iF .add .i64 (iF .mul .i64 k m.mul) m.add)) (fun _ _=>by rw[hρ];rfl) (by unfold eF;rw[if_neg fun h=>r4 h.2,if_neg fun h=>r3 h.2])
   ·exact go aik ρ T ⟨by rw[hρ];exact decide_eq_true h4,by rw[hρ];exact ne h4,by rw[hρ];exact decide_eq_false r4,by rw[hρ];exact decide_eq_false h3,trivial⟩ (e:=(1,iF .add .i64 (iF .mul .i64 k m.mul) m.add)) (fun _ _=>by rw[hρ];rfl) (by unfold eF;rw[if_neg fun h=>r4 h.2,if_neg fun h=>h3 h.1])
 ·by_cases h3:m.cA>0
  ·by_cases r3:Ck k m.cA=0
   ·exact go ail ρ T ⟨by rw[hρ];exact decide_eq_false h4,by rw[hρ];exact decide_eq_true h3,by rw[hρ];exact ne h3,by rw[hρ];exact decide_eq_true r3,trivial⟩ (e:=(2,k)) (fun _ _=>by rw[hρ];rfl) (by unfold eF;rw[if_neg fun h=>h4 h.1,if_pos ⟨h3,r3⟩])
   ·exact go aim ρ T ⟨by rw[hρ];exact decide_eq_false h4,by rw[hρ];exact decide_eq_true h3,by rw[hρ];exact ne h3,by rw[hρ];exact decide_eq_false r3,trivial⟩ (e:=(1,iF .add .i64 (iF .mul .i64 k m.mul) m.add)) (fun _ _=>by rw[hρ];rfl) (by unfold eF;rw[if_neg fun h=>h4 h.1,if_neg fun h=>r3 h.2])
  ·exact go ain ρ T ⟨by rw[hρ];exact decide_eq_false h4,by rw[hρ];exact decide_eq_false h3,trivial⟩ (e:=(1,iF .add .i64 (iF .mul .i64 k m.mul) m.add)) (fun _ _=>by rw[hρ];rfl) (by unfold eF;rw[if_neg fun h=>h4 h.1,if_neg fun h=>h3 h.1])
theorem Po{ρ:Env}{k:List Item}{lv:List (Nat×Value)}{e:Int×Int}(Db:ρ.i 21=e.1)(Dc:ρ.i 22=e.2)(pk:∀w',bA w w'->dS 61 #[ρ.v 0,iV (ρ.i 16),.agg #[iV (ρ.i 31),iV (ρ.i 32),iV (ρ.i 33),iV (ρ.i 34)],ρ.v 3] w' fun u w2=>bA w' w2∧u=dh e)(iA:cr ρ MZ)(hmem:cw ρ w MY)(hl:fT lv (told ρ uW))(hf:FA 61 167 (.code (cO 2014792)::k) [] .normal lv fr):
  Goes (G fr cs) w fun g' w'=>∃fr' b,g'=G fr' cs∧bA w w'∧w.heap.size≤b∧(cu.obj 43 [cY e.1,iV e.2]).at Tryz.prog w' b∧FA 61 167 (.inRegion mK []::k) [] .normal (told ρ uW++[(12,bI b)]) fr':=by
 refine(M0 (ρ:=ρ) (base:=w.heap.size) (by rw[Db,Dc];exact pk) (ax _) iA hmem hl hf).trans fun g2 w2 bX=>?_;obtain⟨cB,zD,rfl,f2,F2,oQ,kL⟩:=bX;have key:∃b,(12,bI b)∈zD∧(52,dh e)∈zD∧w.heap.size≤b∧(cu.obj 43 [cY 0,iV 0]).at Tryz.prog w2 b:=by
  obtain⟨u,q,eu⟩:=kL 7 (by decide) rfl;have eu:u=dh e:=by have:u=(.agg [i8 (v 21),i64 (v 22)]:AV).ev ρ:=eu;rw[this];show Value.agg #[cY (ρ.i 21),iV (ρ.i 22)]=_;rw[Db,Dc];rfl
  rw[eu]at q;obtain⟨u2,q2,b,rfl,KJ,hB⟩:=kL 8 (by decide) rfl;exact⟨b,q2,q,KJ,hB⟩
 obtain⟨b,q2,q,KJ,hB⟩:=key;have lg:=F2.sub (i_:=(12,bI b)::(52,dh e)::told ρ uW) fun x hx=>by
  rcases aj.1 hx with rfl|hx
  ·exact q2
  ·rcases aj.1 hx with rfl|hx
   ·exact q
   ·exact oQ x hx
 refine(e_ (B:=b) (T:=43) (el:=43) (sz:=2) (V:=dh e) (cs':=[cY e.1,iV e.2]) Ut (by kernel_rfl) rfl rfl AP lg rfl rfl hB rfl).mono fun g3 w3 cn=>?_;obtain⟨cC,rfl,⟨kp,IL⟩,F3⟩:=cn;refine⟨cC,b,rfl,cq f2 (kp.mono fun x hx=>by rw[hx];exact KJ),KJ,IL,F3.sub fun x hx=>?_⟩;rcases aR.1 hx with hx|hx
 ·exact aa _ (aa _ hx)
 ·obtain rfl:=ah.1 hx;exact ai ..
theorem Pp{ρ:Env}{k:List Item}{lv:List (Nat×Value)}{e:Int×Int}{P:Nat}{x y:Value}(Db:ρ.i 21=e.1)(Dc:ρ.i 22=e.2)(hP:ρ.b 68=P)(hB:(cu.obj 43 [x,y]).at Tryz.prog w P)(pk:∀w',bA w w'->dS 61 #[ρ.v 0,iV (ρ.i 16),.agg #[iV (ρ.i 31),iV (ρ.i 32),iV (ρ.i 33),iV (ρ.i 34)],ρ.v 3] w' fun u w2=>bA w' w2∧u=dh e)(iA:cr ρ M7)(hmem:cw ρ w M6)(hl:fT lv (told ρ uX))(hf:FA 61 167 (.code (cO 31482)::k) [] .normal lv fr):
  Goes (G fr cs) w fun g' w'=>∃fr',g'=G fr' cs∧bS (fun b=>w.heap.size≤b∨b=P) w w'∧(cu.obj 43 [cY e.1,iV e.2]).at Tryz.prog w' P∧FA 61 167 (.inRegion n9 []::k) [] .normal (told ρ uX) fr':=by
 refine(M8 (ρ:=ρ) (by rw[Db,Dc];exact pk) iA hmem hl hf).trans fun g2 w2 bX=>?_;obtain⟨cB,zD,rfl,f2,F2,oQ,kL⟩:=bX;have key:(63,dh e)∈zD:=by
  obtain⟨u,q,eu⟩:=kL 6 (by decide) rfl;have eu:u=dh e:=by have:u=(.agg [i8 (v 21),i64 (v 22)]:AV).ev ρ:=eu;rw[this];show Value.agg #[cY (ρ.i 21),iV (ρ.i 22)]=_;rw[Db,Dc];rfl
  rw[eu]at q;exact q
 have lg:=F2.sub (i_:=(63,dh e)::told ρ uX) fun x hx=>by
  rcases aj.1 hx with rfl|hx
  ·exact key
  ·exact oQ x hx
 refine(e_ (B:=P) (T:=43) (el:=43) (sz:=2) (V:=dh e) (cs':=[cY e.1,iV e.2]) UB (by kernel_rfl) rfl rfl AP lg (by rw[<-hP];rfl) rfl (bM hB f2) rfl).mono fun g3 w3 cn=>?_;obtain⟨cC,rfl,⟨kp,IL⟩,F3⟩:=cn;refine⟨cC,rfl,bS.trans (f2.mono fun x hx=>.inl hx) (kp.mono fun x hx=>.inr hx),IL,F3.sub fun x hx=>aa _ hx⟩
theorem Pq{ρ:Env}{k:List Item}{lv:List (Nat×Value)}{e:Int×Int}(Db:ρ.i 21=e.1)(Dc:ρ.i 22=e.2)(pk:∀w',bA w w'->dS 61 #[ρ.v 0,iV (ρ.i 16),.agg #[iV (ρ.i 31),iV (ρ.i 32),iV (ρ.i 33),iV (ρ.i 34)],ρ.v 3] w' fun u w2=>bA w' w2∧u=dh e)(iA:cr ρ M_)(hmem:cw ρ w M9)(hl:fT lv (told ρ uY))(hf:FA 61 167 (.code (cO 62)::k) [] .normal lv fr):
  Goes (G fr cs) w fun g' w'=>∃fr' b,g'=G fr' cs∧bA w w'∧w.heap.size≤b∧(cu.obj 43 [cY e.1,iV e.2]).at Tryz.prog w' b∧FA 61 167 (.inRegion ni []::k) [] .normal (told ρ uY++[(13,bI b)]) fr':=by
 refine(Na (ρ:=ρ) (base:=w.heap.size) (by rw[Db,Dc];exact pk) (ax _) iA hmem hl hf).trans fun g2 w2 bX=>?_;obtain⟨cB,zD,rfl,f2,F2,oQ,kL⟩:=bX;have key:∃b,(13,bI b)∈zD∧(70,dh e)∈zD∧w.heap.size≤b∧(cu.obj 43 [cY 0,iV 0]).at Tryz.prog w2 b:=by
  obtain⟨u,q,eu⟩:=kL 6 (by decide) rfl;have eu:u=dh e:=by have:u=(.agg [i8 (v 21),i64 (v 22)]:AV).ev ρ:=eu;rw[this];show Value.agg #[cY (ρ.i 21),iV (ρ.i 22)]=_;rw[Db,Dc];rfl
  rw[eu]at q;obtain⟨u2,q2,b,rfl,KJ,hB⟩:=kL 7 (by decide) rfl;exact⟨b,q2,q,KJ,hB⟩
 obtain⟨b,q2,q,KJ,hB⟩:=key;have lg:=F2.sub (i_:=(13,bI b)::(70,dh e)::told ρ uY) fun x hx=>by
  rcases aj.1 hx with rfl|hx
  ·exact q2
  ·rcases aj.1 hx with rfl|hx
   ·exact q
   ·exact oQ x hx
 refine(e_ (B:=b) (T:=43) (el:=43) (sz:=2) (V:=dh e) (cs':=[cY e.1,iV e.2]) UK (by kernel_rfl) rfl rfl AP lg rfl rfl hB rfl).mono fun g3 w3 cn=>?_;obtain⟨cC,rfl,⟨kp,IL⟩,F3⟩:=cn;refine⟨cC,b,rfl,cq f2 (kp.mono fun x hx=>by rw[hx];exact KJ),KJ,IL,F3.sub fun x hx=>?_⟩;rcases aR.1 hx with hx|hx
 ·exact aa _ (aa _ hx)
 ·obtain rfl:=ah.1 hx;exact ai ..
theorem Pr{ρ:Env}{k:List Item}{lv:List (Nat×Value)}{e:Int×Int}{P:Nat}{x y:Value}(Db:ρ.i 21=e.1)(Dc:ρ.i 22=e.2)(hP:ρ.b 68=P)(hB:(cu.obj 43 [x,y]).at Tryz.prog w P)(pk:∀w',bA w w'->dS 61 #[ρ.v 0,iV (ρ.i 16),.agg #[iV (ρ.i 31),iV (ρ.i 32),iV (ρ.i 33),iV (ρ.i 34)],ρ.v 3] w' fun u w2=>bA w' w2∧u=dh e)(iA:cr ρ Nc)(hmem:cw ρ w Nb)(hl:fT lv (told ρ uZ))(hf:FA 61 167 (.code (cO 65188)::k) [] .normal lv fr):
  Goes (G fr cs) w fun g' w'=>∃fr',g'=G fr' cs∧bS (fun b=>w.heap.size≤b∨b=P) w w'∧(cu.obj 43 [cY e.1,iV e.2]).at Tryz.prog w' P∧FA 61 167 (.inRegion n_ []::k) [] .normal (told ρ uZ) fr':=by
 refine(Nf (ρ:=ρ) (by rw[Db,Dc];exact pk) iA hmem hl hf).trans fun g2 w2 bX=>?_;obtain⟨cB,zD,rfl,f2,F2,oQ,kL⟩:=bX;have key:(88,dh e)∈zD:=by
  obtain⟨u,q,eu⟩:=kL 6 (by decide) rfl;have eu:u=dh e:=by have:u=(.agg [i8 (v 21),i64 (v 22)]:AV).ev ρ:=eu;rw[this];show Value.agg #[cY (ρ.i 21),iV (ρ.i 22)]=_;rw[Db,Dc];rfl
  rw[eu]at q;exact q
 have lg:=F2.sub (i_:=(88,dh e)::told ρ uZ) fun x hx=>by
  rcases aj.1 hx with rfl|hx
  ·exact key
  ·exact oQ x hx
 refine(e_ (B:=P) (T:=43) (el:=43) (sz:=2) (V:=dh e) (cs':=[cY e.1,iV e.2]) US (by kernel_rfl) rfl rfl AP lg (by rw[<-hP];rfl) rfl (bM hB f2) rfl).mono fun g3 w3 cn=>?_;obtain⟨cC,rfl,⟨kp,IL⟩,F3⟩:=cn;refine⟨cC,rfl,bS.trans (f2.mono fun x hx=>.inl hx) (kp.mono fun x hx=>.inr hx),IL,F3.sub fun x hx=>aa _ hx⟩
theorem Pt{ρ:Env}{k:List Item}{lv:List (Nat×Value)}{e:Int×Int}{P:Nat}{x y:Value}(Db:ρ.i 21=e.1)(Dc:ρ.i 22=e.2)(hP:ρ.b 68=P)(hB:(cu.obj 43 [x,y]).at Tryz.prog w P)(pk:∀w',bA w w'->dS 61 #[ρ.v 0,iV (ρ.i 16),.agg #[iV (ρ.i 31),iV (ρ.i 32),iV (ρ.i 33),iV (ρ.i 34)],ρ.v 3] w' fun u w2=>bA w' w2∧u=dh e)(iA:cr ρ Nh)(hmem:cw ρ w Ng)(hl:fT lv (told ρ u0))(hf:FA 61 167 (.code (cO 16298)::k) [] .normal lv fr):
  Goes (G fr cs) w fun g' w'=>∃fr',g'=G fr' cs∧bS (fun b=>w.heap.size≤b∨b=P) w w'∧(cu.obj 43 [cY e.1,iV e.2]).at Tryz.prog w' P∧FA 61 167 (.inRegion oc []::k) [] .normal (told ρ u0) fr':=by
 refine(Ni (ρ:=ρ) (by rw[Db,Dc];exact pk) iA hmem hl hf).trans fun g2 w2 bX=>?_;obtain⟨cB,zD,rfl,f2,F2,oQ,kL⟩:=bX;have key:(95,dh e)∈zD:=by
  obtain⟨u,q,eu⟩:=kL 6 (by decide) rfl;have eu:u=dh e:=by have:u=(.agg [i8 (v 21),i64 (v 22)]:AV).ev ρ:=eu;rw[this];show Value.agg #[cY (ρ.i 21),iV (ρ.i 22)]=_;rw[Db,Dc];rfl
  rw[eu]at q;exact q
 have lg:=F2.sub (i_:=(95,dh e)::told ρ u0) fun x hx=>by
  rcases aj.1 hx with rfl|hx
  ·exact key
  ·exact oQ x hx
 refine(e_ (B:=P) (T:=43) (el:=43) (sz:=2) (V:=dh e) (cs':=[cY e.1,iV e.2]) U2 (by kernel_rfl) rfl rfl AP lg (by rw[<-hP];rfl) rfl (bM hB f2) rfl).mono fun g3 w3 cn=>?_;obtain⟨cC,rfl,⟨kp,IL⟩,F3⟩:=cn;refine⟨cC,rfl,bS.trans (f2.mono fun x hx=>.inl hx) (kp.mono fun x hx=>.inr hx),IL,F3.sub fun x hx=>aa _ hx⟩
theorem Pu{ρ:Env}{k:List Item}{lv:List (Nat×Value)}{e:Int×Int}{P:Nat}{x y:Value}(Db:ρ.i 21=e.1)(Dc:ρ.i 22=e.2)(hP:ρ.b 69=P)(hB:(cu.obj 43 [x,y]).at Tryz.prog w P)(pk:∀w',bA w w'->dS 61 #[ρ.v 0,iV (ρ.i 16),.agg #[iV (ρ.i 31),iV (ρ.i 32),iV (ρ.i 33),iV (ρ.i 34)],ρ.v 3] w' fun u w2=>bA w' w2∧u=dh e)(iA:cr ρ Nk)(hmem:cw ρ w Nj)(hl:fT lv (told ρ u5))(hf:FA 61 167 (.code (cO 130888)::k) [] .normal lv fr):
  Goes (G fr cs) w fun g' w'=>∃fr',g'=G fr' cs∧bS (fun b=>w.heap.size≤b∨b=P) w w'∧(cu.obj 43 [cY e.1,iV e.2]).at Tryz.prog w' P∧FA 61 167 (.inRegion nj []::k) [] .normal (told ρ u5) fr':=by
 refine(Nl (ρ:=ρ) (by rw[Db,Dc];exact pk) iA hmem hl hf).trans fun g2 w2 bX=>?_;obtain⟨cB,zD,rfl,f2,F2,oQ,kL⟩:=bX;have key:(135,dh e)∈zD:=by
  obtain⟨u,q,eu⟩:=kL 7 (by decide) rfl;have eu:u=dh e:=by have:u=(.agg [i8 (v 21),i64 (v 22)]:AV).ev ρ:=eu;rw[this];show Value.agg #[cY (ρ.i 21),iV (ρ.i 22)]=_;rw[Db,Dc];rfl
  rw[eu]at q;exact q
 have lg:=F2.sub (i_:=(135,dh e)::told ρ u5) fun x hx=>by
  rcases aj.1 hx with rfl|hx
  ·exact key
  ·exact oQ x hx
 refine(e_ (B:=P) (T:=43) (el:=43) (sz:=2) (V:=dh e) (cs':=[cY e.1,iV e.2]) Va (by kernel_rfl) rfl rfl AP lg (by rw[<-hP];rfl) rfl (bM hB f2) rfl).mono fun g3 w3 cn=>?_;obtain⟨cC,rfl,⟨kp,IL⟩,F3⟩:=cn;refine⟨cC,rfl,bS.trans (f2.mono fun x hx=>.inl hx) (kp.mono fun x hx=>.inr hx),IL,F3.sub fun x hx=>aa _ hx⟩
end
noncomputable def Pv(m:cU)(N c' i j:Nat)(op n:Int)(e l:Int×Int)(X Y R K O L:Nat)(s es:Value):Env:=bL [(81,N),(82,c'),(83,(0:Nat)),(15,i),(16,j),(1,op),(2,n),(21,e.1),(22,e.2),(23,l.1),(24,l.2),(31,m.mul),(32,m.add),(33,m.cA),(34,m.panics)] [(65,Y),(68,R),(64,X),(80,K),(66,O),(67,O),(69,L)] [(0,s),(3,es)]
def Nm(w0:World)(s es:Value)(m:cU)(js:List Nat)(vs:List (Int×Int)):Prop:=∀(i j:Nat) (e:Int×Int),js[i]?=some j->vs[i]?=some e->∀w',bA w0 w'->dS 61 #[s,iV j,c_ m,es] w' fun v w2=>bA w' w2∧v=dh e
structure QB(w:World)(m:cU)(op n:Int)(X Y R K c':Nat)(js:List Nat):Prop where
 x0:w.cell? ⟨X,0,none⟩=some (cY op)
 x1:w.cell? ⟨X,1,none⟩=some (iV n)
 y:(cu.obj 27 [iV m.mul,iV m.add,iV m.cA,iV m.panics]).at Tryz.prog w Y
 r:(cu.obj 43 [cY 0,iV 0]).at Tryz.prog w R
 k:∀i j:Nat,js[i]?=some j->w.cell? ⟨K,0+i,none⟩=some (iV j)
 rx:R≠X
 ry:R≠Y
theorem QB.keep{w w':World}{m:cU}{op n:Int}{X Y R K c':Nat}{js:List Nat}(h:QB w m op n X Y R K c' js)(f:bA w w'):QB w' m op n X Y R K c' js:=
 ⟨f.cell h.x0,f.cell h.x1,bM h.y f,bM h.r f,fun i j hj=>f.cell (h.k i j hj),h.rx,h.ry⟩
def qM(op x:Int):Int->List (Int×Int)->Int×Int
 |acc,[]=>(1,k7 op x acc)
 |acc,e::r=>if e.1=1 then qM op x e.2 r else e
theorem u6{op x:Int}(h:op≠4∧op≠5∧op≠6):∀(r:List (Int×Int)) (acc:Int),qM op x acc r=oN op x acc r
 |[],acc=>by unfold qM oN k7;rw[if_neg h.1,if_neg h.2.1,if_neg h.2.2]
 |e::r,acc=>by
  unfold qM oN;have:k7 op x e.2=e.2:=by unfold k7;rw[if_neg h.1,if_neg h.2.1,if_neg h.2.2]
  rw[this,u6 h r]
theorem Jw{op x:Int}(l:Int×Int)(acc:Int):qM op x acc [l]=oN op x acc [l]:=by simp only[qM,oN]
section
variable {w w0 w1:World}{cs:List Frame}{fr:Frame}
theorem QB.Vd{m:cU}{op n:Int}{X Y R K c':Nat}{js:List Nat}(h:QB w m op n X Y R K c' js){ρ:Env}(hb:ρ.b 65=Y)(h31:ρ.i 31=m.mul)(h32:ρ.i 32=m.add)(h33:ρ.i 33=m.cA)(h34:ρ.i 34=m.panics):cw ρ w AO:=by
 refine⟨?_,?_,?_,?_,trivial⟩
 ·show w.cell? ⟨ρ.b 65,0,none⟩=some (iV (ρ.i 31));rw[hb,h31];exact bE h.y (i:=0) rfl
 ·show w.cell? ⟨ρ.b 65,1,none⟩=some (iV (ρ.i 32));rw[hb,h32];exact bE h.y (i:=1) rfl
 ·show w.cell? ⟨ρ.b 65,2,none⟩=some (iV (ρ.i 33));rw[hb,h33];exact bE h.y (i:=2) rfl
 ·show w.cell? ⟨ρ.b 65,3,none⟩=some (iV (ρ.i 34));rw[hb,h34];exact bE h.y (i:=3) rfl
theorem Dd{s es:Value}{m:cU}{op n:Int}{X Y R K c':Nat}{js:List Nat}{vs:List (Int×Int)}(M:QB w1 m op n X Y R K c' js)(JK:bA w0 w1)(gR:w0.heap.size≤R)(hl:js.length=vs.length)(jD:js.length≤1000000)(hne:vs≠[])(hk:Nm w1 s es m js vs):
  ∀(q i:Nat) {w:World} {fr:Frame},i+q=vs.length->bA w1 w->FA 61 167 CmA [] .normal [(0,s),(3,es),(6,bI Y),(8,bI R),(10,bU K 0 js.length c'),(11,iV i)] fr->
  Goes (G fr cs) w (Out 61 cs w0 fun v _=>v=dh (((vs.drop i).find? fun e=>decide (e.1=1)).getD (vs.headD (0,0))))
 |0,i,w,fr,hi,fw,hf=>by
  obtain⟨j,e,hj,he⟩:=both hl (i:=0) (bp.2 hne);have hlen:0<js.length:=by have:=bp.2 hne;omega
  obtain⟨ρ,hρ⟩:∃ρ:Env,ρ=Pv m js.length c' i j op n e (0,0) X Y R K 0 0 s es:=⟨_,rfl⟩;refine(aix.go ρ hf (by rw[hρ];rfl) ⟨by rw[hρ];exact decide_eq_false (by show ¬((i:Int)<((js.length:Nat):Int));omega),trivial⟩ trivial).trans fun g1 w1' hd=>?_;obtain⟨I,B,bT,rfl,f1,F1,_⟩:=hd;rw[hρ]at F1;have M1:=M.keep (fw.trans f1);refine(Pp (ρ:=ρ) (e:=e) (P:=R) (by rw[hρ];rfl) (by rw[hρ];rfl) (by rw[hρ];rfl) M1.r (fun w' f=>by rw[hρ];exact hk 0 j e hj he w' ((fw.trans f1).trans f)) (by rw[hρ];exact⟨decide_eq_true (by show(0:Int)<((js.length:Nat):Int);omega),decide_eq_false (by show ¬((0:Int)≥((js.length:Nat):Int));omega),trivial⟩) (cw.app (l:=[(⟨(.dyn 80),(.plus (.tn (v 83)) (.lit 0))⟩,i64 (v 16)),(⟨(.dyn 80),(v 83)⟩,i64 (v 16))]) (by rw[hρ];exact⟨M1.k 0 j hj,M1.k 0 j hj,trivial⟩) (M1.Vd (by rw[hρ];rfl) (by rw[hρ];rfl) (by rw[hρ];rfl) (by rw[hρ];rfl) (by rw[hρ];rfl))) (by rw[hρ];rfl) F1).trans fun g2 w2 bX=>?_;obtain⟨cB,rfl,KA,De,F2⟩:=bX;rw[hρ]at F2;refine(aiy.go ρ F2 (by rw[hρ];rfl) trivial trivial).trans fun g3 w3 cn=>?_;obtain⟨I,B,cC,rfl,f3,F3,_⟩:=cn;rw[hρ]at F3;have mB:bA w0 w2:=cq (JK.trans (fw.trans f1)) (KA.mono fun x hx=>by
   rcases hx with h|h
   ·exact aA (JK.trans (fw.trans f1)).size h
   ·rw[h];exact gR)
  refine pX iQ F3 rfl (bM De f3) (mB.trans f3) ?_;rw[aS (by omega)];have:vs.headD (0,0)=e:=by
   cases vs with
   |nil=>cases he
   |cons a l=>exact au he
  rw[List.find?_nil,Option.getD_none,this];rfl
 |q+1,i,w,fr,hi,fw,hf=>by
  have hlt:i<vs.length:=by omega
  obtain⟨j,e,hj,he⟩:=both hl (i:=i) hlt;obtain⟨ρ,hρ⟩:∃ρ:Env,ρ=Pv m js.length c' i j op n e (0,0) X Y R K 0 0 s es:=⟨_,rfl⟩;have bb:=cg (ρ:=ρ) (i:=15) (n:=81) (I:=i) (N:=js.length) (by rw[hρ];rfl) (by rw[hρ];rfl) (by omega);refine(aiu.go ρ hf (by rw[hρ];rfl) bb trivial).trans fun g1 w1' hd=>?_;obtain⟨I,B,bT,rfl,f1,F1,_⟩:=hd;rw[hρ]at F1;have M1:=M.keep (fw.trans f1);refine(Po (ρ:=ρ) (e:=e) (by rw[hρ];rfl) (by rw[hρ];rfl) (fun w' f=>by rw[hρ];exact hk i j e hj he w' ((fw.trans f1).trans f)) bb (cw.app (l:=C0) (by rw[hρ];exact⟨M1.k i j hj,trivial⟩) (M1.Vd (by rw[hρ];rfl) (by rw[hρ];rfl) (by rw[hρ];rfl) (by rw[hρ];rfl) (by rw[hρ];rfl))) (by rw[hρ];rfl) F1).trans fun g2 w2 bX=>?_;obtain⟨cB,O,rfl,f2,gO,hO,F2⟩:=bX;rw[hρ]at F2;have f12:=fw.trans (f1.trans f2);have JL:R≠O:=by have:=cu.jW M1.r;omega
  obtain⟨σ,bZ⟩:∃σ:Env,σ=Pv m js.length c' i j op n e (0,0) X Y R K O 0 s es:=⟨_,rfl⟩;have mm:cw σ w2 MW:=by rw[bZ];exact⟨bE hO (i:=0) rfl,bE hO (i:=1) rfl,trivial⟩
  have eJ:vs.drop i=e::vs.drop (i+1):=by rw[aJ hlt];congr 1;exact au ((af hlt).symm.trans he)
  rw[eJ,List.find?_cons];by_cases h1:e.1=1
  ·rw[decide_eq_true h1];exact aiv.AQ iQ σ F2 (by rw[bZ];rfl) ⟨by rw[bZ];exact decide_eq_true h1,trivial⟩ mm (by rw[bZ];rfl) ⟨by rw[bZ];exact JL,by rw[bZ];exact JL,trivial⟩ (M.keep f12).r (JK.trans f12) gR fun _ _=>by rw[bZ];rfl
  ·rw[decide_eq_false h1];refine(aiw.go σ F2 (by rw[bZ];rfl) ⟨by rw[bZ];exact decide_eq_false h1,trivial⟩ mm).trans fun g3 w3 cn=>?_;obtain⟨I,B,cC,rfl,f3,F3,_⟩:=cn;rw[bZ]at F3;refine Dd (c':=c') M JK gR hl jD hne hk q (i+1) (by omega) (f12.trans f3) ?_;rw[<-inc (i:=i) (by omega)];exact F3
theorem Df{s es:Value}{m:cU}{op n x:Int}{X Y R K c' O L:Nat}{js:List Nat}{vs:List (Int×Int)}(M:QB w1 m op n X Y R K c' js)(JK:bA w0 w1)(gR:w0.heap.size≤R)(hO:(cu.obj 43 [cY 1,iV x]).at Tryz.prog w1 O)(JL:R≠O)(gL:w1.heap.size≤L)(hl:js.length=vs.length)(jD:js.length≤1000000)(hk:Nm w1 s es m js vs):
  ∀(q i:Nat) {acc:Int} {w:World} {fr:Frame},i+q=vs.length->bA w1 w->(cu.obj 43 [cY 1,iV acc]).at Tryz.prog w L->FA 61 167 CmB [] .normal [(0,s),(3,es),(6,bI Y),(8,bI R),(9,bI X),(10,bU K 0 js.length c'),(13,bI O),(14,bI L),(15,iV i)] fr->
  Goes (G fr cs) w (Out 61 cs w0 fun v _=>v=dh (qM op x acc (vs.drop i)))
 |0,i,acc,w,fr,hi,fw,hL,hf=>by
  have M1:=M.keep fw;have hO1:=bM hO fw;have Pn:R≠L:=by have:=cu.jW M.r;omega
  have hXL:L≠X:=by have:X<w1.heap.size:=k6 M.x0;omega
  have hOL:L≠O:=by have:=cu.jW hO;omega
  obtain⟨ρ,hρ⟩:∃ρ:Env,ρ=Pv m js.length c' i 0 op n (1,x) (1,acc) X Y R K O L s es:=⟨_,rfl⟩;have b0:(BE.cmp .lss (v 15) (.tn (v 81))).ev ρ=false:=by rw[hρ];exact decide_eq_false (by show ¬((i:Int)<((js.length:Nat):Int));omega)
  have mm:cw ρ w xX:=by rw[hρ];exact⟨M1.x0,bE hO1 (i:=0) rfl,bE hO1 (i:=1) rfl,trivial⟩
  have nR:od ρ R xX:=by rw[hρ];exact⟨M.rx,JL,JL,trivial⟩
  have nL:od ρ L xX:=by rw[hρ];exact⟨hXL,hOL,hOL,trivial⟩
  have hL':(cu.obj 43 [cY (ρ.i 23),iV (ρ.i 24)]).at Tryz.prog w L:=by rw[hρ];exact hL
  have gL0:w0.heap.size≤L:=aA JK.size gL;rw[aS (by omega)];unfold qM k7;by_cases h4:op=4
  ·rw[if_pos h4];exact aiQ.Hg iQ ρ hf (by rw[hρ];rfl) ⟨b0,by rw[hρ];exact decide_eq_true h4,trivial⟩ mm (by rw[hρ];rfl) (by rw[hρ];rfl) nR nL Pn M1.r hL' (JK.trans fw) gR gL0 fun _ _=>by rw[hρ];rfl
  rw[if_neg h4];by_cases h5:op=5
  ·rw[if_pos h5];exact aiR.Hg iQ ρ hf (by rw[hρ];rfl) ⟨b0,by rw[hρ];exact decide_eq_false h4,by rw[hρ];exact decide_eq_true h5,trivial⟩ mm (by rw[hρ];rfl) (by rw[hρ];rfl) nR nL Pn M1.r hL' (JK.trans fw) gR gL0 fun _ _=>by rw[hρ];rfl
  rw[if_neg h5];by_cases h6:op=6
  ·rw[if_pos h6];exact aiS.Hg iQ ρ hf (by rw[hρ];rfl) ⟨b0,by rw[hρ];exact decide_eq_false h4,by rw[hρ];exact decide_eq_false h5,by rw[hρ];exact decide_eq_true h6,trivial⟩ mm (by rw[hρ];rfl) (by rw[hρ];rfl) nR nL Pn M1.r hL' (JK.trans fw) gR gL0 fun _ _=>by rw[hρ];rfl
  rw[if_neg h6];exact aiT.Hg iQ ρ hf (by rw[hρ];rfl) ⟨b0,by rw[hρ];exact decide_eq_false h4,by rw[hρ];exact decide_eq_false h5,by rw[hρ];exact decide_eq_false h6,trivial⟩ mm (by rw[hρ];rfl) (by rw[hρ];rfl) nR nL Pn M1.r hL' (JK.trans fw) gR gL0 fun _ _=>by rw[hρ];rfl
 |q+1,i,acc,w,fr,hi,fw,hL,hf=>by
  have hlt:i<vs.length:=by omega
  obtain⟨j,e,hj,he⟩:=both hl (i:=i) hlt;have Pn:R≠L:=by have:=cu.jW M.r;omega
  obtain⟨ρ,hρ⟩:∃ρ:Env,ρ=Pv m js.length c' i j op n e e X Y R K O L s es:=⟨_,rfl⟩;have bb:=cg (ρ:=ρ) (i:=15) (n:=81) (I:=i) (N:=js.length) (by rw[hρ];rfl) (by rw[hρ];rfl) (by omega);refine(aiN.go ρ hf (by rw[hρ];rfl) bb trivial).trans fun g1 w1' hd=>?_;obtain⟨I,B,bT,rfl,f1,F1,_⟩:=hd;rw[hρ]at F1;have M1:=M.keep (fw.trans f1);refine(Pu (ρ:=ρ) (e:=e) (P:=L) (by rw[hρ];rfl) (by rw[hρ];rfl) (by rw[hρ];rfl) (bM hL f1) (fun w' f=>by rw[hρ];exact hk i j e hj he w' ((fw.trans f1).trans f)) bb (cw.app (l:=C0) (by rw[hρ];exact⟨M1.k i j hj,trivial⟩) (M1.Vd (by rw[hρ];rfl) (by rw[hρ];rfl) (by rw[hρ];rfl) (by rw[hρ];rfl) (by rw[hρ];rfl))) (by rw[hρ];rfl) F1).trans fun g2 w2 bX=>?_;obtain⟨cB,rfl,KA,hL2,F2⟩:=bX;rw[hρ]at F2;have f12:bA w1 w2:=cq (fw.trans f1) (KA.mono fun y hy=>by
   rcases hy with h|h
   ·exact aA (fw.trans f1).size h
   ·rw[h];exact gL)
  have mm:cw ρ w2 MX:=by rw[hρ];exact⟨bE hL2 (i:=0) rfl,bE hL2 (i:=1) rfl,trivial⟩
  have eJ:vs.drop i=e::vs.drop (i+1):=by rw[aJ hlt];congr 1;exact au ((af hlt).symm.trans he)
  rw[eJ];unfold qM;by_cases h1:e.1=1
  ·rw[if_pos h1];refine(aiP.go ρ F2 (by rw[hρ];rfl) ⟨by rw[hρ];show(!decide (e.1=1))=false;rw[decide_eq_true h1];rfl,trivial⟩ mm).trans fun g3 w3 cn=>?_;obtain⟨I,B,cC,rfl,f3,F3,_⟩:=cn;rw[hρ]at F3;refine Df (c':=c') M JK gR hO JL gL hl jD hk q (i+1) (by omega) (f12.trans f3) (by rw[<-h1];exact bM hL2 f3) ?_;rw[<-inc (i:=i) (by omega)];exact F3
  ·rw[if_neg h1];exact aiO.AQ iQ ρ F2 (by rw[hρ];rfl) ⟨by rw[hρ];show(!decide (e.1=1))=true;rw[decide_eq_false h1];rfl,trivial⟩ mm (by rw[hρ];rfl) ⟨by rw[hρ];exact Pn,by rw[hρ];exact Pn,trivial⟩ (M.keep f12).r (JK.trans f12) gR fun _ _=>by rw[hρ];rfl
def AS(t:T):Prop:=∀{w:World} {s es:Value} {tree:List Nd} {E:List (Int×Int)} {m:cU} {bY:Nat} {rest:List Nd},cP w s tree->tree.length≤1000000->dY w es E->ue t->JJ t->m8 E.length t->tree.drop bY=flat t++rest->dS 61 #[s,iV bY,c_ m,es] w fun v w'=>bA w w'∧v=dh (lS E m t)
theorem Nn{n:Nd}{ks:List T}(ih:∀k∈ks,AS k):AS (.nd n ks):=by
 intro w s es tree E m bY rest h hl hE hw hok hn hd;have hx:tree[bY]?=some n:=kF hd;have MM:=(aq.1 hx).1;have oJ:tree.drop (bY+1)=bW ks++rest:=by
  have:tree.drop bY=n::(bW ks++rest):=by rw[hd];simp[flat]
  exact(dG this).2.1
 have Td:=fX ks;have ahs:(bW ks).length≤1000000:=by have:=congrArg aP oJ;rw[ak,br]at this;omega
 obtain⟨nE,nK,n3,nL⟩:=hn;rcases h.ex with⟨_,e⟩|⟨A,o,c,hs,hc,cL⟩
 ·rw[e]at hx;cases hx
 have iD:=cL bY n hx;refine Goes.jy fun cs=>?_;obtain⟨ρ,hρ⟩:∃ρ:Env,ρ=bL [(51,tree.length),(52,c),(53,o),(10,bY),(1,n.op),(2,n.n),(3,n.kids),(4,n.bY),(31,m.mul),(32,m.add),(33,m.cA),(34,m.panics)] [(50,A)] [(3,es)]:=⟨_,rfl⟩;refine(aio.go ρ (pM Uh rfl s (iV bY) (c_ m) es) (by rw[hs,hρ];rfl) (cg (i:=10) (n:=51) (I:=bY) (N:=tree.length) (by rw[hρ];rfl) (by rw[hρ];rfl) MM) ⟨by rw[hρ];exact iD.c0,by rw[hρ];exact iD.c1,by rw[hρ];exact iD.c2,by rw[hρ];exact iD.c3,trivial⟩).trans fun g1 w1 MN=>?_;obtain⟨I,B,bT,rfl,f1,F1,bl,inj⟩:=MN;rw[hρ]at F1 bl inj;obtain⟨X,eX⟩:∃X,B 102=X:=⟨_,rfl⟩;obtain⟨R,eR⟩:∃R,B 101=R:=⟨_,rfl⟩;obtain⟨Y,eY⟩:∃Y,B 100=Y:=⟨_,rfl⟩;have hX:(cu.obj 77 [cY n.op,iV n.n,iV n.kids,iV n.bY]).at Tryz.prog w1 X:=by rw[<-eX];exact bl.1.2
 have hR:(cu.obj 43 [cY 0,iV 0]).at Tryz.prog w1 R:=by rw[<-eR];exact bl.2.1.2
 have hY:(cu.obj 27 [iV m.mul,iV m.add,iV m.cA,iV m.panics]).at Tryz.prog w1 Y:=by rw[<-eY];exact bl.2.2.1.2
 have gR:w.heap.size≤R:=by rw[<-eR];exact bl.2.1.1
 have NA:R≠X:=fun e=>by have:=inj _ (aa _ (ai ..)) _ (ai ..) (by rw[<-eR,<-eX]at e;exact e);cases this
 have hRY:R≠Y:=fun e=>by have:=inj _ (aa _ (ai ..)) _ (aa _ (aa _ (ai ..))) (by rw[<-eR,<-eY]at e;exact e);cases this
 have fI:FA 61 167 (.inRegion (opsOf (cO 14)) [2,3]::[.code (cO 15)]) [] .normal [(0,s),(3,es),(6,bI Y),(8,bI R),(9,bI X),(20,s),(21,iV bY)] bT:=by rw[<-eX,<-eR,<-eY,hs];exact F1
 refine(aip.go (bL [] [] [(20,s),(21,iV bY)]) (Q:=fun v w'=>∃w1,bA w1 w'∧fS w' w1.heap.size v ((fU (bY+1) ks).map Int.ofNat)) fI rfl fun w' f=>(qn (h.keep (f1.trans f)) hl hw hd).mono fun v w2 hd=>⟨hd.1,w',hd.1,hd.2⟩).trans fun g2 w2 bX=>?_;obtain⟨cB,sk,rfl,f2,⟨wk,fk,T4⟩,F2⟩:=bX;have mB:=f1.trans f2;have C5:=f2.cell (bE hX (i:=0) rfl);have Pk:=f2.cell (bE hX (i:=1) rfl);have De:=bM hR f2;have lg:FA 61 167 (.inRegion (opsOf (cO 14)) [3]::[.code (cO 15)]) [] .normal [(0,s),(3,es),(6,bI Y),(8,bI R),(9,bI X),(22,sk)] cB:=F2.only rfl;have no:∀{a b:Int},a≠b->decide (a=b)=false:=fun h=>decide_eq_false h;obtain⟨σ,bZ⟩:∃σ:Env,σ=bL [(1,n.op),(2,n.n)] [(65,Y),(68,R),(64,X)] [(0,s),(3,es),(22,sk)]:=⟨_,rfl⟩;have mX:cw σ w2 G6:=by rw[bZ];exact⟨C5,Pk,trivial⟩
 by_cases h1:n.op=1
 ·refine aiq.AQ iQ σ lg (by rw[bZ];rfl) ⟨by rw[bZ];exact decide_eq_true h1,trivial⟩ mX (by rw[bZ];rfl) ⟨by rw[bZ];exact NA,by rw[bZ];exact NA,trivial⟩ De mB gR fun _ _=>?_;rw[bZ];unfold lS qH;rw[if_pos h1];rfl
 by_cases h2:n.op=2
 ·obtain⟨hn0,J7⟩:=nE h2;obtain⟨z,A',o',c',he,hz,oU,jE⟩:=(hE.keep mB).ex;cases z with
  |true=>rw[hz rfl]at J7;simp only[aZ]at J7;omega
  |false=>
   obtain⟨N,hN⟩:∃N:Nat,n.n=N:=⟨n.n.toNat,by omega⟩;have Cn:N<E.length:=by omega
   obtain⟨e,hee⟩:∃e,E[N]?=some e:=⟨_,af Cn⟩;obtain⟨ec,ec'⟩:=jE N e hee;have arp:A'<w.heap.size:=by
    obtain⟨z,A2,o2,c2,QC,HJ,arq,ai2⟩:=hE.ex;cases z with
    |true=>rw[HJ rfl]at Cn;simp at Cn
    |false=>have:A2=A':=lO (QC.symm.trans he);rw[<-this];exact k6 (ai2 N e hee).1
   have hRA:R≠A':=by omega
   obtain⟨τ,fz⟩:∃τ:Env,τ=bL [(1,n.op),(2,N),(15,e.1),(16,e.2),(71,E.length),(72,c'),(73,o')] [(65,Y),(68,R),(64,X),(70,A')] [(0,s),(22,sk)]:=⟨_,rfl⟩;refine air.AQ iQ τ lg (by rw[fz,he];rfl) ⟨by rw[fz];exact no h1,by rw[fz];exact decide_eq_true h2,cg (i:=2) (n:=71) (I:=N) (N:=E.length) (by rw[fz];rfl) (by rw[fz];rfl) Cn⟩ ⟨by rw[fz];exact C5,by rw[fz];rw[hN]at Pk;exact Pk,by rw[fz];exact ec,by rw[fz];exact ec',trivial⟩ (by rw[fz];rfl) ⟨by rw[fz];exact NA,by rw[fz];exact NA,by rw[fz];exact hRA,by rw[fz];exact hRA,trivial⟩ De mB gR fun _ _=>?_;rw[fz];unfold lS qH;rw[if_neg h1,if_pos h2,hN,show((N:Int)).toNat=N by omega,bg,hee];rfl
 have hks:ks≠[]:=nK h1 h2;have hvs:rO E m ks≠[]:=fun h=>hks (by have:=lH E m ks;rw[h]at this;exact bk.1 this.symm)
 rcases T4 with⟨rfl,pz⟩|⟨hne,K,c',rfl,hK,hv⟩
 ·have:=congrArg aP pz;rw[aE,fR]at this;exact(hks (bk.1 this)).elim
 have hjl:(fU (bY+1) ks).length=(rO E m ks).length:=by rw[fR,lH]
 obtain⟨js,BN⟩:∃js,js=fU (bY+1) ks:=⟨_,rfl⟩;rw[<-BN]at hv hjl lg bZ;rw[aE]at lg bZ;have jD:js.length≤1000000:=by rw[BN,fR];omega
 have M:QB w2 m n.op n.n X Y R K c' js:=⟨C5,Pk,bM hY f2,De,fun i j hj=>by rw[aG];refine cu.cR hv ?_;show((js.map Int.ofNat).map iV)[i]?=_;rw[aL,aL,hj];rfl,NA,hRY⟩
 have hkE:∀{w3:World},bA w2 w3->Nm w3 s es m js (rO E m ks):=fun{w3} f i j e hj he w' f'=>by
  have hi:i<ks.length:=by have:=(aq.1 he).1;rwa[lH]at this
  have RM:ks[i]?=some ks[i]:=af hi;have hmem:ks[i]∈ks:=List.getElem_mem hi;obtain⟨rest',hr⟩:=mz oJ (BN▸hj) RM;have fa:=mB.trans (f.trans f');have he':e=lS E m ks[i]:=by rw[vm,aL,RM]at he;exact(au he).symm
  rw[he'];exact ih ks[i] hmem (h.keep fa) hl (hE.keep fa) (oS.mem hw.2 _ hmem) (hok.kid _ hmem) (lq.mem nL _ hmem) hr
 by_cases h11:n.op=11
 ·refine(ais.go σ lg (by rw[bZ];rfl) ⟨by rw[bZ];exact no h1,by rw[bZ];exact no h2,by rw[bZ];exact decide_eq_true h11,trivial⟩ mX).trans fun g3 w3 cn=>?_;obtain⟨I,B,cC,rfl,f3,F3,_⟩:=cn;rw[bZ]at F3;have yD:lS E m (.nd n ks)=(((rO E m ks).drop 0).find? fun e=>decide (e.1=1)).getD ((rO E m ks).headD (0,0)):=by
   unfold lS qH;rw[if_neg h1,if_neg h2,if_pos h11];rfl
  rw[yD];exact Dd (c':=c') (M.keep f3) (mB.trans f3) gR hjl jD hvs (hkE f3) (rO E m ks).length 0 (by omega) (bA.refl _) F3
 refine(ait.go σ lg (by rw[bZ];rfl) ⟨by rw[bZ];exact no h1,by rw[bZ];exact no h2,by rw[bZ];exact no h11,trivial⟩ mX).trans fun g3 w3 cn=>?_;obtain⟨I,B,cC,rfl,f3,F3,_⟩:=cn;rw[bZ]at F3;have M3:=M.keep f3;obtain⟨j,e,hj,he⟩:=both hjl (i:=0) (bp.2 hvs);have hlen:0<js.length:=by have:=bp.2 hvs;omega
 have hhd:(rO E m ks).headD (0,0)=e:=by
  generalize rO E m ks=vs at he;cases vs with
  |nil=>cases he
  |cons a l=>exact au he
 obtain⟨τ,fz⟩:∃τ:Env,τ=Pv m js.length c' 0 j n.op n.n e (0,0) X Y R K 0 0 s es:=⟨_,rfl⟩;refine(Pq (ρ:=τ) (e:=e) (by rw[fz];rfl) (by rw[fz];rfl) (fun w' f=>by rw[fz];exact hkE f3 0 j e hj he w' f) (by rw[fz];exact⟨decide_eq_true (by show(0:Int)<((js.length:Nat):Int);omega),decide_eq_false (by show ¬((0:Int)≥((js.length:Nat):Int));omega),trivial⟩) (cw.app (l:=[(⟨(.dyn 80),(.plus (.tn (v 83)) (.lit 0))⟩,i64 (v 16)),(⟨(.dyn 80),(v 83)⟩,i64 (v 16))]) (by rw[fz];exact⟨M3.k 0 j hj,M3.k 0 j hj,trivial⟩) (M3.Vd (by rw[fz];rfl) (by rw[fz];rfl) (by rw[fz];rfl) (by rw[fz];rfl) (by rw[fz];rfl))) (by rw[fz];rfl) F3).trans fun g4 w4 c9=>?_;obtain⟨eg,O,rfl,f4,gO,hO,F4⟩:=c9;rw[fz]at F4;have M4:=M3.keep f4;have oO:=mB.trans (f3.trans f4);have JL:R≠O:=by have:=cu.jW M3.r;omega
 have ev:lS E m (.nd n ks)=if e.1=1 then lp n.op e.2 m (rO E m ks)else e:=by unfold lS qH;rw[if_neg h1,if_neg h2,if_neg h11,hhd]
 rw[ev];obtain⟨κ,gv⟩:∃κ:Env,κ=Pv m js.length c' 0 j n.op n.n e (0,0) X Y R K O 0 s es:=⟨_,rfl⟩;have mO:cw κ w4 [(eD 67 0,i8 (v 21)),(eD 67 1,i64 (v 22))]:=by rw[gv];exact⟨bE hO (i:=0) rfl,bE hO (i:=1) rfl,trivial⟩
 by_cases Ve:e.1=1
 ·rw[if_pos Ve];have QD:(BE.cmp .neq (v 21) (.lit 1)).ev κ=false:=by rw[gv];show(!decide (e.1=1))=false;rw[decide_eq_true Ve];rfl
  have QE:cw κ w4 tG:=⟨mO.1,mO.2.1,by rw[gv];exact M4.x0,trivial⟩;have nOX:od κ R tG:=by rw[gv];exact⟨JL,JL,NA,trivial⟩
  have Pw:κ.b 68=R:=by rw[gv];rfl
  unfold lp;by_cases VS:n.op=12
  ·rw[if_pos VS];have h3:=n3 VS;have hl3:(rO E m ks).length=3:=by rw[lH];exact h3
   have pick:∀{w5:World} {gh:Frame} {k:List Item} {i:Nat},i<3->bA w4 w5->(∀{j:Nat} {e2:Int×Int},js[i]?=some j->(rO E m ks)[i]?=some e2->Goes (G gh cs) w5 (Out 61 cs w fun v _=>v=dh e2))->Goes (G gh cs) w5 (Out 61 cs w fun v _=>v=dh ((rO E m ks).getD i (0,0))):=fun{w5 gh k i} hi f5 go=>by obtain⟨j,e2,hj2,QC⟩:=both hjl (i:=i) (by omega);rw[bg,QC];exact go hj2 QC
   by_cases R4:e.2=0
   ·rw[if_neg (fun h=>h R4)];refine(aiB.go κ F4 (by rw[gv];rfl) ⟨QD,by rw[gv];exact decide_eq_true VS,by rw[gv];show(!decide (e.2=0))=false;rw[decide_eq_true R4];rfl,trivial⟩ QE).trans fun g5 w5 d_=>?_;obtain⟨I,B,gh,rfl,f5,F5,_⟩:=d_;rw[gv]at F5;refine pick (k:=[]) (i:=2) (by decide) f5 fun{j2 e2} hj2 QC=>?_;obtain⟨π,kM⟩:∃π:Env,π=Pv m js.length c' 0 j2 n.op n.n e2 (0,0) X Y R K O 0 s es:=⟨_,rfl⟩;have M5:=M4.keep f5;refine(Pt (ρ:=π) (e:=e2) (P:=R) (by rw[kM];rfl) (by rw[kM];rfl) (by rw[kM];rfl) M5.r (fun w' f=>by rw[kM];exact hkE (f3.trans (f4.trans f5)) 2 j2 e2 hj2 QC w' f) (by rw[kM];exact⟨decide_eq_true (by show(2:Int)<((js.length:Nat):Int);omega),decide_eq_false (by show ¬((2:Int)≥((js.length:Nat):Int));omega),trivial⟩) (cw.app (l:=[(⟨(.dyn 80),(.plus (.tn (v 83)) (.lit 2))⟩,i64 (v 16))]) (by rw[kM];exact⟨M5.k 2 j2 hj2,trivial⟩) (M5.Vd (by rw[kM];rfl) (by rw[kM];rfl) (by rw[kM];rfl) (by rw[kM];rfl) (by rw[kM];rfl))) (by rw[kM];rfl) F5).trans fun g6 w6 dj=>?_;obtain⟨dJ,rfl,kp6,hR6,F6⟩:=dj;rw[kM]at F6;refine(aiD.go π F6 (by rw[kM];rfl) trivial trivial).trans fun g7 w7 lG=>?_;obtain⟨I,B,qj,rfl,f7,F7,_⟩:=lG;rw[kM]at F7;have G3:=oO.trans f5;exact pX iQ F7 rfl (bM hR6 f7) ((cq G3 (kp6.mono fun x hx=>by
     rcases hx with h|h
     ·exact aA G3.size h
     ·rw[h];exact gR)).trans f7) rfl
   ·rw[if_pos R4];refine(aiA.go κ F4 (by rw[gv];rfl) ⟨QD,by rw[gv];exact decide_eq_true VS,by rw[gv];show(!decide (e.2=0))=true;rw[decide_eq_false R4];rfl,trivial⟩ QE).trans fun g5 w5 d_=>?_;obtain⟨I,B,gh,rfl,f5,F5,_⟩:=d_;rw[gv]at F5;refine pick (k:=[]) (i:=1) (by decide) f5 fun{j2 e2} hj2 QC=>?_;obtain⟨π,kM⟩:∃π:Env,π=Pv m js.length c' 0 j2 n.op n.n e2 (0,0) X Y R K O 0 s es:=⟨_,rfl⟩;have M5:=M4.keep f5;refine(Pr (ρ:=π) (e:=e2) (P:=R) (by rw[kM];rfl) (by rw[kM];rfl) (by rw[kM];rfl) M5.r (fun w' f=>by rw[kM];exact hkE (f3.trans (f4.trans f5)) 1 j2 e2 hj2 QC w' f) (by rw[kM];exact⟨decide_eq_true (by show(1:Int)<((js.length:Nat):Int);omega),decide_eq_false (by show ¬((1:Int)≥((js.length:Nat):Int));omega),trivial⟩) (cw.app (l:=[(⟨(.dyn 80),(.plus (.tn (v 83)) (.lit 1))⟩,i64 (v 16))]) (by rw[kM];exact⟨M5.k 1 j2 hj2,trivial⟩) (M5.Vd (by rw[kM];rfl) (by rw[kM];rfl) (by rw[kM];rfl) (by rw[kM];rfl) (by rw[kM];rfl))) (by rw[kM];rfl) F5).trans fun g6 w6 dj=>?_;obtain⟨dJ,rfl,kp6,hR6,F6⟩:=dj;rw[kM]at F6;refine(aiC.go π F6 (by rw[kM];rfl) trivial trivial).trans fun g7 w7 lG=>?_;obtain⟨I,B,qj,rfl,f7,F7,_⟩:=lG;rw[kM]at F7;have G3:=oO.trans f5;exact pX iQ F7 rfl (bM hR6 f7) ((cq G3 (kp6.mono fun x hx=>by
     rcases hx with h|h
     ·exact aA G3.size h
     ·rw[h];exact gR)).trans f7) rfl
  rw[if_neg VS];have VT:(BE.cmp .eql (v 1) (.lit 12)).ev κ=false:=by rw[gv];exact no VS
  by_cases c3:n.op=3
  ·rw[if_pos c3];exact aiE.AQ iQ κ F4 (by rw[gv];rfl) ⟨QD,VT,by rw[gv];exact decide_eq_true c3,trivial⟩ QE Pw nOX M4.r oO gR fun _ _=>by rw[gv];rfl
  rw[if_neg c3];have n3':(BE.cmp .eql (v 1) (.lit 3)).ev κ=false:=by rw[gv];exact no c3
  by_cases c13:n.op=13
  ·rw[if_pos c13];exact aiF.AQ iQ κ F4 (by rw[gv];rfl) ⟨QD,VT,n3',by rw[gv];exact decide_eq_true c13,trivial⟩ QE Pw nOX M4.r oO gR fun _ _=>by rw[gv];rfl
  rw[if_neg c13];have n13:(BE.cmp .eql (v 1) (.lit 13)).ev κ=false:=by rw[gv];exact no c13
  by_cases c14:n.op=14
  ·rw[if_pos c14];exact aiG.AQ iQ κ F4 (by rw[gv];rfl) ⟨QD,VT,n3',n13,by rw[gv];exact decide_eq_true c14,trivial⟩ QE Pw nOX M4.r oO gR fun _ _=>by rw[gv];rfl
  rw[if_neg c14];have n14:(BE.cmp .eql (v 1) (.lit 14)).ev κ=false:=by rw[gv];exact no c14
  by_cases c15:n.op=15
  ·rw[if_pos c15];refine(aiH.go κ F4 (by rw[gv];rfl) ⟨QD,VT,n3',n13,n14,by rw[gv];exact decide_eq_true c15,trivial⟩ (cw.app QE (M4.Vd (by rw[gv];rfl) (by rw[gv];rfl) (by rw[gv];rfl) (by rw[gv];rfl) (by rw[gv];rfl)))).trans fun g5 w5 d_=>?_;obtain⟨I,B,gh,rfl,f5,F5,_⟩:=d_;rw[gv]at F5;refine(aiI.go (bL [] [] [(114,c_ m),(116,iV e.2)]) (Q:=fun v w'=>v=dh (eF m e.2)) F5 rfl fun w' f=>Jv).trans fun g6 w6 dj=>?_;obtain⟨dJ,v6,rfl,f6,rfl,F6⟩:=dj;have G4:=oO.trans (f5.trans f6);refine(e_ (B:=R) (T:=43) (el:=43) (sz:=2) (V:=dh (eF m e.2)) (cs':=[cY (eF m e.2).1,iV (eF m e.2).2]) aiJ (by kernel_rfl) rfl rfl AP F6 rfl rfl (M4.keep (f5.trans f6)).r rfl).trans fun g7 w7 lG=>?_;obtain⟨qj,rfl,⟨kp7,hR7⟩,F7⟩:=lG;refine(aiK.go (bL [] [(68,R)] []) F7 rfl trivial trivial).trans fun g8 w8 xg=>?_;obtain⟨I,B,Iu,rfl,f8,F8,_⟩:=xg;exact pX iQ F8 rfl (bM hR7 f8) ((cq G4 (kp7.mono fun x hx=>by rw[hx];exact gR)).trans f8) rfl
  rw[if_neg c15];have n15:(BE.cmp .eql (v 1) (.lit 15)).ev κ=false:=by rw[gv];exact no c15
  by_cases c16:n.op=16
  ·rw[if_pos c16];refine aiL.AQ iQ κ F4 (by rw[gv];rfl) ⟨QD,VT,n3',n13,n14,n15,by rw[gv];exact decide_eq_true c16,trivial⟩ QE Pw nOX M4.r oO gR fun _ _=>?_;rw[gv];show Value.agg #[cY e.1,iV e.2]=_;rw[Ve];rfl
  rw[if_neg c16];refine(aiM.go κ F4 (by rw[gv];rfl) ⟨QD,VT,n3',n13,n14,n15,by rw[gv];exact no c16,trivial⟩ QE).trans fun g5 w5 d_=>?_;obtain⟨I,B,gh,rfl,f5,F5,AZ,_⟩:=d_;rw[gv]at F5 AZ;have hLb:(cu.obj 43 [cY 1,iV e.2]).at Tryz.prog w5 (B 100):=by rw[<-Ve];exact AZ.1.2
  have hO':(cu.obj 43 [cY 1,iV e.2]).at Tryz.prog w4 O:=by rw[<-Ve];exact hO
  have hlast:qM n.op e.2 e.2 ((rO E m ks).drop 1)=oN n.op e.2 e.2 ((rO E m ks).drop 1):=by
   by_cases c:n.op≠4∧n.op≠5∧n.op≠6
   ·exact u6 c _ _
   ·have hop:bQ n.op=2:=by
     rcases(by omega:n.op=4∨n.op=5∨n.op=6)with h|h|h<;>rw[h]<;>rfl
    have hk2:=(nZ (hok (.nd n ks) (by rw[kE];exact ai ..))).2 (by rw[show(T.nd n ks).n=n from rfl,hop];decide);have hk2:n.kids=bQ n.op:=hk2;have hkk:n.kids=ks.length:=hw.1;have VB:(rO E m ks).length=2:=by rw[lH];omega
    match hvv:rO E m ks,VB with
    |[a,b],_=>exact Jw b _
  rw[<-hlast];exact Df (w1:=w4) (c':=c') M4 oO gR hO' JL AZ.1.1 hjl jD (hkE (f3.trans f4)) ((rO E m ks).length-1) 1 (by have:=bp.2 hvs;omega) f5 hLb F5
 ·rw[if_neg Ve];exact aiz.AQ iQ κ F4 (by rw[gv];rfl) ⟨by rw[gv];show(!decide (e.1=1))=true;rw[decide_eq_false Ve];rfl,trivial⟩ mO (by rw[gv];rfl) ⟨by rw[gv];exact JL,by rw[gv];exact JL,trivial⟩ M4.r oO gR fun _ _=>by rw[gv];rfl
end
mutual
theorem zW:∀t:T,AS t
 |.nd n ks=>Nn (x8 ks)
theorem x8:∀ks:List T,∀k∈ks,AS k
 |[],k,h=>by cases h
 |k'::ks,k,h=>by
  rcases aj.1 h with e|h
  ·rw[e];exact zW k'
  ·exact x8 ks k h
end
theorem Fh{w:World}{x:cH}{ts es:Value}{E:List (Int×Int)}{m:cU}{t:T}(h:cP w ts x.tree)(hl:x.tree.length≤1000000)(hE:dY w es E)(hw:ue t)(hok:JJ t)(hn:m8 E.length t)(hfl:x.tree=flat t):dS 40 #[fy x ts,c_ m,es] w fun v w'=>bA w w'∧v=dh (lS E m t):=by refine Goes.jy fun cs=>?_;obtain⟨ρ,hρ⟩:∃ρ:Env,ρ=Go.Proofs.YtmobbajggkjpgaaGreat.SX.jn [(4,x.bY),(31,m.mul),(32,m.add),(33,m.cA),(34,m.panics)] [] [(7,ts),(2,es)] [(1,x.name)]:=⟨_,rfl⟩;refine(aiU.go ρ (w_ Ui rfl (fy x ts) (c_ m) es) (by rw[hρ];rfl) trivial trivial).trans fun g1 w1 hd=>?_;obtain⟨I,B,bT,rfl,f1,F1,bl,_⟩:=hd;rw[hρ]at F1;have hR:(cu.obj 43 [cY 0,iV 0]).at Tryz.prog w1 (B 102):=bl.1.2;have gR:w.heap.size≤B 102:=bl.1.1;refine(aiV.go (bL [] [] [(8,ts),(9,c_ m),(10,es)]) (Q:=fun v w'=>v=dh (lS E m t)) F1 rfl fun w' f=>zW t (bY:=0) (rest:=[]) (h.keep (f1.trans f)) hl (hE.keep (f1.trans f)) hw hok hn (by rw[List.drop_zero,aQ];exact hfl)).trans fun g2 w2 bX=>?_;obtain⟨cB,v,rfl,f2,rfl,F2⟩:=bX;refine(e_ (B:=B 102) (T:=43) (el:=43) (sz:=2) (V:=dh (lS E m t)) (cs':=[cY (lS E m t).1,iV (lS E m t).2]) aiW (by kernel_rfl) rfl rfl AP F2 rfl rfl (bM hR f2) rfl).trans fun g3 w3 cn=>?_;obtain⟨cC,rfl,⟨VK,VP⟩,F3⟩:=cn;refine(aiX.go (bL [] [(68,B 102)] []) F3 rfl trivial trivial).trans fun g4 w4 c9=>?_;obtain⟨I4,B4,eg,rfl,f4,F4,_⟩:=c9;exact pX Vc F4 rfl (bM VP f4) ((cq (f1.trans f2) (VK.mono fun x hx=>by rw[hx];exact gR)).trans f4) rfl
noncomputable def gu(l:Nat):Code:=pc (bD Tryz.f17) (pd l)
theorem Vf:bP Tryz.prog 17 [.bC 0,.bC 1,.bC 2,.bC 3] .normal=.ok ⟨17,66,c8 17 [.bC 0,.bC 1,.bC 2,.bC 3],[.code (bD Tryz.f17)],[],.run,.normal⟩:=by kernel_rfl
theorem ai5:Pc 17 66 [.code (bD Tryz.f17)] ([(0,.agg [.bC 8,.bC 9]),(1,i64 (v 10)),(2,.agg [i64 (v 31),i64 (v 32),i64 (v 33),i64 (v 34)]),(3,.bC 3)]) [] [] [] 10 [102,101,100] [1,3,4,6,8,13] [.inRegion (opsOf (gu 6)) [1,2,3,4,5,6],.code (gu 7)] [i64 (v 10),.bC 3,bz 100,bz 101,bz 102,.agg [.bC 8,.bC 9]] [(102,.cells [i8 (.lit 0),i64 (.lit 0)] 43),(101,.cells [i64 (v 31),i64 (v 32),i64 (v 33),i64 (v 34)] 27),(100,.cells [.bC 8,.bC 9] 25)]:={}
theorem ai6:di 66 (opsOf (gu 6)) 1 [(13,.bC 13)] 29 [.bC 13] 14:={}
noncomputable abbrev zX:List Item:=[.inRegion (opsOf (gu 6)) [2,3,4,5,6],.code (gu 7)]
theorem ai7:Pc 17 66 zX ([(1,i64 (v 10)),(3,.bC 3),(4,bz 64),(6,bz 65),(8,bz 68),(14,.tuple [i64 (v 5),i64 (v 6)])]) Gn [] [(68,.cells [i8 (.lit 0),i64 (.lit 0)] 43)] 20 [68] [8,9] [.code .ret,.code (gu 15)] [bz 68,i64 (v 5)] [(68,.cells [i8 (.lit 0),i64 (.lit 0)] 43)]:={}
abbrev aaE:List (BE×Bool):=[((.cmp .neq (v 5) (.lit 0)),false),((.cmp .lss (v 10) (.lit 0)),true)]
noncomputable abbrev Hh:List Item:=[.code .ret,.code (gu 31)]
theorem aaF:Pc 17 66 zX ([(1,i64 (v 10)),(3,.bC 3),(4,bz 64),(6,bz 65),(8,bz 68),(14,.tuple [i64 (v 5),i64 (v 6)])]) aaE [] [(68,.cells [i8 (.lit 0),i64 (.lit 0)] 43)] 46 [68] [8,9] Hh [bz 68,i64 (.lit 1)] [(68,.cells [i8 (.lit 0),i64 (.lit 0)] 43)]:={}
theorem aaG(z:Bool):Pc 17 66 zX ([(1,i64 (v 10)),(3,.bC 3),(4,bz 64),(6,bz 65),(8,bz 68),(14,.tuple [i64 (v 5),i64 (v 6)])]) [((.cmp .neq (v 5) (.lit 0)),false),((.cmp .lss (v 10) (.lit 0)),false),((.cmp .geq (v 10) (dL z 51)),true)] [(eD 64 0,cG z 50 53 51 52)] [(68,.cells [i8 (.lit 0),i64 (.lit 0)] 43)] 46 [68] [8,9] Hh [bz 68,i64 (.lit 1)] [(68,.cells [i8 (.lit 0),i64 (.lit 0)] 43)]:=by cases z<;>exact{}
theorem aaH(z:Bool):Pc 17 66 zX ([(1,i64 (v 10)),(3,cG z 80 83 81 82),(4,bz 64),(6,bz 65),(8,bz 68),(14,.tuple [i64 (v 5),i64 (v 6)])]) [((.cmp .neq (v 5) (.lit 0)),false),((.cmp .lss (v 10) (.lit 0)),false),((.cmp .geq (v 10) (.tn (v 51))),false),((.cmp .lss (dL z 81) (v 10)),true)] qI [(68,.cells [i8 (.lit 0),i64 (.lit 0)] 43)] 46 [68] [8,9] Hh [bz 68,i64 (.lit 1)] [(68,.cells [i8 (.lit 0),i64 (.lit 0)] 43)]:=by cases z<;>exact{}
theorem aaI(z:Bool):Pc 17 66 zX ([(1,i64 (v 10)),(3,cG z 80 83 81 82),(4,bz 64),(6,bz 65),(8,bz 68),(14,.tuple [i64 (v 5),i64 (v 6)])]) [((.cmp .neq (v 5) (.lit 0)),false),((.cmp .lss (v 10) (.lit 0)),false),((.cmp .geq (v 10) (.tn (v 51))),false),((.cmp .lss (dL z 81) (v 10)),false)] qI [] 35 [] [1,3,4,6,8,36,37,38] [.inRegion (opsOf (gu 60)) [18,19,20],.code (gu 61),.code (gu 31)] [i64 (v 10),cG z 80 83 81 82,bz 64,bz 65,bz 68,FB,cG z 80 83 81 82,i64 (v 10)] []:=by cases z<;>exact{}
theorem ai8:di 66 (opsOf (gu 60)) 18 [(36,FB),(37,.bC 37),(38,.bC 38)] 30 [.bC 37,.bC 38] 39:={}
noncomputable abbrev QF:List Item:=[.inRegion (opsOf (gu 60)) [19,20],.code (gu 61),.code (gu 31)]
theorem ai9:Pc 17 66 QF ([(1,i64 (v 10)),(3,.bC 3),(4,bz 64),(6,bz 65),(8,bz 68),(36,FB),(39,FB)]) [] [] [(68,.cells [i8 (.lit 0),i64 (.lit 0)] 43)] 10 [68] [8,9] Hh [bz 68,i64 (.lit 1)] [(68,.cells [i8 (.lit 0),i64 (.lit 0)] 43)]:={}
theorem ai_:Pc 17 66 QF ([(1,i64 (v 10)),(3,.bC 3),(4,bz 64),(6,bz 65),(8,bz 68),(36,FB),(39,TB)]) (fN 10 51) Ph [] 13 [] [1,3,4,6,8,47] [.inRegion (opsOf (gu 124)) [5,6,7,8,9,10,11,12,13],.code (gu 125),.code (gu 63)] [i64 (v 10),.bC 3,bz 64,bz 65,bz 68,.agg [ss 1,.bC 7,i64 (v 9)]] []:={}
theorem ai':di 66 (opsOf (gu 124)) 5 [(47,.bC 47)] 38 [.bC 47] 48:={}
noncomputable abbrev aaJ:List Item:=[.inRegion (opsOf (gu 124)) [6,7,8,9,10,11,12,13],.code (gu 125),.code (gu 63)]
theorem aja:Pc 17 66 aaJ ([(1,i64 (v 10)),(3,.bC 3),(4,bz 64),(6,bz 65),(8,bz 68),(48,TB)]) [] [] [(68,.cells [i8 (.lit 0),i64 (.lit 0)] 43)] 16 [68] [8,9] [.code .ret,.code (gu 63)] [bz 68,i64 (.lit 11)] [(68,.cells [i8 (.lit 0),i64 (.lit 0)] 43)]:={}
theorem ajb:Pc 17 66 aaJ ([(1,i64 (v 10)),(3,.bC 3),(4,bz 64),(6,bz 65),(8,bz 68),(48,FB)]) (fN 10 51) Ph [] 6 [] [1,3,4,6,8,49,54] [.inRegion (opsOf (gu 124)) [12,13],.code (gu 125),.code (gu 63)] [i64 (v 10),.bC 3,bz 64,bz 65,bz 68,FB,.agg [ss 1,.bC 7,i64 (v 9)]] []:={}
theorem ajc:di 66 (opsOf (gu 124)) 12 [(49,FB),(54,.bC 54)] 39 [.bC 54] 55:={}
noncomputable abbrev QG:List Item:=[.inRegion (opsOf (gu 124)) [13],.code (gu 125),.code (gu 63)]
theorem ajd:Pc 17 66 QG ([(1,i64 (v 10)),(3,.bC 3),(4,bz 64),(6,bz 65),(8,bz 68),(49,FB),(55,TB)]) [] [] [(68,.cells [i8 (.lit 0),i64 (.lit 0)] 43)] 9 [68] [8,9] [.code .ret,.code (gu 63)] [bz 68,i64 (.lit 11)] [(68,.cells [i8 (.lit 0),i64 (.lit 0)] 43)]:={}
theorem aje:Pc 17 66 QG ([(1,i64 (v 10)),(3,.bC 3),(4,bz 64),(6,bz 65),(8,bz 68),(49,FB),(55,FB)]) [] [] [] 5 [] [1,3,4,6,8] [.code (gu 126),.code .ret] [i64 (v 10),.bC 3,bz 64,bz 65,bz 68] []:={}
theorem ajf:Pc 17 66 [.inRegion (opsOf (gu 126)) [9],.code .ret] ([(8,bz 68)]) [] [] [] 2 [] [8,9] [.code .ret] [bz 68,i64 (.lit 0)] []:={}
noncomputable def gf(l:Nat):Code:=pc (bD Tryz.f16) (pd l)
theorem Vg:bP Tryz.prog 16 [.bC 0,.bC 1,.bC 2,.bC 3] .normal=.ok ⟨16,68,c8 16 [.bC 0,.bC 1,.bC 2,.bC 3],[.code (bD Tryz.f16)],[],.run,.normal⟩:=by kernel_rfl
theorem ajg:Pc 16 68 [.code (bD Tryz.f16)] ([(0,.agg [.bC 8,.bC 9]),(1,i64 (v 10)),(2,.agg [i64 (v 31),i64 (v 32),i64 (v 33),i64 (v 34)]),(3,.bC 3)]) [] [] [] 11 [102,101,100] [1,3,4,6,8,15] [.inRegion (opsOf (gf 12)) [1,2,3,4,5,6],.code (gf 13),.code (gf 7)] [i64 (v 10),.bC 3,bz 100,bz 101,bz 102,.agg [.bC 8,.bC 9]] [(102,.cells [i8 (.lit 0),i64 (.lit 0)] 43),(101,.cells [i64 (v 31),i64 (v 32),i64 (v 33),i64 (v 34)] 27),(100,.cells [.bC 8,.bC 9] 25)]:={}
theorem ajh:di 68 (opsOf (gf 12)) 1 [(15,.bC 15)] 26 [.bC 15] 16:={}
noncomputable abbrev Jx:List Item:=[.inRegion (opsOf (gf 12)) [2,3,4,5,6],.code (gf 13),.code (gf 7)]
theorem aji:Pc 16 68 Jx ([(1,i64 (v 10)),(3,.bC 3),(4,bz 64),(6,bz 65),(8,bz 68),(16,.tuple [i64 (v 5),i64 (v 6)])]) Gn [] [(68,.cells [i8 (.lit 0),i64 (.lit 0)] 43)] 19 [68] [8,9] [.code .ret,.code (gf 7)] [bz 68,i64 (v 5)] [(68,.cells [i8 (.lit 0),i64 (.lit 0)] 43)]:={}
noncomputable abbrev Hi:List Item:=[.code .ret,.code (gf 15)]
theorem aaK:Pc 16 68 Jx ([(1,i64 (v 10)),(3,.bC 3),(4,bz 64),(6,bz 65),(8,bz 68),(16,.tuple [i64 (v 5),i64 (v 6)])]) aaE [] [(68,.cells [i8 (.lit 0),i64 (.lit 0)] 43)] 45 [68] [8,9] Hi [bz 68,i64 (.lit 1)] [(68,.cells [i8 (.lit 0),i64 (.lit 0)] 43)]:={}
theorem aaL(z:Bool):Pc 16 68 Jx ([(1,i64 (v 10)),(3,.bC 3),(4,bz 64),(6,bz 65),(8,bz 68),(16,.tuple [i64 (v 5),i64 (v 6)])]) [((.cmp .neq (v 5) (.lit 0)),false),((.cmp .lss (v 10) (.lit 0)),false),((.cmp .geq (v 10) (dL z 51)),true)] [(eD 64 0,cG z 50 53 51 52)] [(68,.cells [i8 (.lit 0),i64 (.lit 0)] 43)] 45 [68] [8,9] Hi [bz 68,i64 (.lit 1)] [(68,.cells [i8 (.lit 0),i64 (.lit 0)] 43)]:=by cases z<;>exact{}
theorem aaM(z:Bool):Pc 16 68 Jx ([(1,i64 (v 10)),(3,cG z 80 83 81 82),(4,bz 64),(6,bz 65),(8,bz 68),(16,.tuple [i64 (v 5),i64 (v 6)])]) [((.cmp .neq (v 5) (.lit 0)),false),((.cmp .lss (v 10) (.lit 0)),false),((.cmp .geq (v 10) (.tn (v 51))),false),((.cmp .lss (dL z 81) (v 10)),true)] qI [(68,.cells [i8 (.lit 0),i64 (.lit 0)] 43)] 45 [68] [8,9] Hi [bz 68,i64 (.lit 1)] [(68,.cells [i8 (.lit 0),i64 (.lit 0)] 43)]:=by cases z<;>exact{}
theorem aaN(z:Bool):Pc 16 68 Jx ([(1,i64 (v 10)),(3,cG z 80 83 81 82),(4,bz 64),(6,bz 65),(8,bz 68),(16,.tuple [i64 (v 5),i64 (v 6)])]) [((.cmp .neq (v 5) (.lit 0)),false),((.cmp .lss (v 10) (.lit 0)),false),((.cmp .geq (v 10) (.tn (v 51))),false),((.cmp .lss (dL z 81) (v 10)),false)] qI [] 34 [] [1,3,4,6,8,38,39,40] [.inRegion (opsOf (gf 28)) [18,19,20],.code (gf 29),.code (gf 15)] [i64 (v 10),cG z 80 83 81 82,bz 64,bz 65,bz 68,FB,cG z 80 83 81 82,i64 (v 10)] []:=by cases z<;>exact{}
theorem ajj:di 68 (opsOf (gf 28)) 18 [(38,FB),(39,.bC 39),(40,.bC 40)] 27 [.bC 39,.bC 40] 41:={}
noncomputable abbrev QH:List Item:=[.inRegion (opsOf (gf 28)) [19,20],.code (gf 29),.code (gf 15)]
theorem ajk:Pc 16 68 QH ([(1,i64 (v 10)),(3,.bC 3),(4,bz 64),(6,bz 65),(8,bz 68),(38,FB),(41,FB)]) [] [] [(68,.cells [i8 (.lit 0),i64 (.lit 0)] 43)] 10 [68] [8,9] Hi [bz 68,i64 (.lit 1)] [(68,.cells [i8 (.lit 0),i64 (.lit 0)] 43)]:={}
theorem ajl:Pc 16 68 QH ([(1,i64 (v 10)),(3,.bC 3),(4,bz 64),(6,bz 65),(8,bz 68),(38,FB),(41,TB)]) (fN 10 51) [(eD 64 0,sA 50 53 51 52),(eB 50 53 10 3,ss 1),(eA 50 53 10 3 1,sA 70 73 71 72),(eA 50 53 10 3 2,i64 (v 9))] [] 19 [100] [1,3,4,6,8,12,50] [.inRegion (opsOf (gf 124)) [1,2,3,4,5,6,7],.code (gf 125),.code (gf 63)] [i64 (v 10),.bC 3,bz 64,bz 65,bz 68,bz 100,.agg [ss 1,sA 70 73 71 72,i64 (v 9)]] [(100,.cells [ss 1,sA 70 73 71 72,i64 (v 9)] 50)]:={}
theorem ajm:di 68 (opsOf (gf 124)) 1 [(50,.bC 50)] 36 [.bC 50] 51:={}
noncomputable abbrev aaO:List Item:=[.inRegion (opsOf (gf 124)) [2,3,4,5,6,7],.code (gf 125),.code (gf 63)]
theorem ajn:Pc 16 68 aaO ([(1,i64 (v 10)),(3,.bC 3),(4,bz 64),(6,bz 65),(8,bz 68),(12,bz 66),(51,i8 (v 1))]) [((.cmp .eql (v 1) (.lit 17)),true)] [] [(68,.cells [i8 (.lit 0),i64 (.lit 0)] 43)] 14 [68] [8,9] [.code .ret,.code (gf 63)] [bz 68,i64 (.lit 11)] [(68,.cells [i8 (.lit 0),i64 (.lit 0)] 43)]:={}
theorem ajo:Pc 16 68 aaO ([(1,i64 (v 10)),(3,.bC 3),(4,bz 64),(6,bz 65),(8,bz 68),(12,bz 66),(51,i8 (v 1))]) LA [(eD 66 0,ss 1),(eD 66 1,sA 70 73 71 72),(eD 66 2,i64 (v 9))] [] 3 [] [1,3,4,6,8,12,53,54] [.inRegion (opsOf (gf 124)) [5,6,7],.code (gf 125),.code (gf 63)] [i64 (v 10),.bC 3,bz 64,bz 65,bz 68,bz 66,FB,.agg [ss 1,sA 70 73 71 72,i64 (v 9)]] []:={}
theorem ajp:di 68 (opsOf (gf 124)) 5 [(53,FB),(54,.bC 54)] 36 [.bC 54] 55:={}
theorem ajq:Pc 16 68 [.inRegion (opsOf (gf 124)) [6,7],.code (gf 125),.code (gf 63)] ([(1,i64 (v 10)),(3,.bC 3),(4,bz 64),(6,bz 65),(8,bz 68),(12,bz 66),(53,FB),(55,i8 (v 1))]) [((.cmp .eql (v 1) (.lit 18)),true)] [] [(68,.cells [i8 (.lit 0),i64 (.lit 0)] 43)] 10 [68] [8,9] [.code .ret,.code (gf 63)] [bz 68,i64 (.lit 11)] [(68,.cells [i8 (.lit 0),i64 (.lit 0)] 43)]:={}
noncomputable abbrev oe:Array Oper:=opsOf (gu 126)
theorem Vh:dD 66 oe 0 [] [] [(4,bz 64)] (bz 64) 58:={}
theorem Vi:dD 66 oe 1 [] qI [(58,bz 64)] (sA 50 53 51 52) 59:={}
theorem Vj:dD 66 oe 2 [] [] [(1,i64 (v 10))] (i64 (v 10)) 60:={}
theorem Vk:dD 66 oe 3 OM [] [(59,sA 50 53 51 52),(60,i64 (v 10))] (.ptr (some (eB 50 53 10 3))) 61:={}
theorem Vl:dD 66 oe 4 [] Sn [(61,.ptr (some (eB 50 53 10 3)))] (.agg [ss 1,.bC 7,i64 (v 9)]) 62:={}
theorem Vm:dD 66 oe 5 [] AO [(6,bz 65)] (.agg [i64 (v 31),i64 (v 32),i64 (v 33),i64 (v 34)]) 63:={}
theorem Vn:dD 66 oe 6 [] [] [(3,.bC 3)] (.bC 3) 64:={}
theorem Vo:di 66 oe 7 [(62,.agg [ss 1,.bC 7,i64 (v 9)]),(63,.agg [i64 (v 31),i64 (v 32),i64 (v 33),i64 (v 34)]),(64,.bC 3)] 40 [.agg [ss 1,.bC 7,i64 (v 9)],.agg [i64 (v 31),i64 (v 32),i64 (v 33),i64 (v 34)],.bC 3] 65:={}
theorem Vp:jO 66 oe 8 [] (.store 43 (.tmp 8) (.tmp 65)) 0 none:={}
def Hj(i:Nat):Nat:=match i with
 |0=>58|1=>59|2=>60|3=>61|4=>62|5=>63|6=>64|7=>65|8=>9999|_=>9
noncomputable abbrev Dg:List (Nat×AV):=[(1,i64 (v 10)),(3,.bC 3),(4,bz 64),(6,bz 65),(8,bz 68)]
noncomputable abbrev QI:List (AA×AV):=[(eD 64 0,sA 50 53 51 52),(eB 50 53 10 3,ss 1),(eA 50 53 10 3 1,.bC 7),(eA 50 53 10 3 2,i64 (v 9)),(eD 65 0,i64 (v 31)),(eD 65 1,i64 (v 32)),(eD 65 2,i64 (v 33)),(eD 65 3,i64 (v 34))]
noncomputable abbrev QJ:List (BE×Bool):=(fN 10 51)
noncomputable def x9(ρ:Env)(i:Nat)(u:Value)(w:World):Prop:=match i with
 |0=>u=(bz 64:AV).ev ρ
 |1=>u=(sA 50 53 51 52:AV).ev ρ
 |2=>u=(i64 (v 10):AV).ev ρ
 |3=>u=(.ptr (some (eB 50 53 10 3)):AV).ev ρ
 |4=>u=(.agg [ss 1,.bC 7,i64 (v 9)]:AV).ev ρ
 |5=>u=(.agg [i64 (v 31),i64 (v 32),i64 (v 33),i64 (v 34)]:AV).ev ρ
 |6=>u=(.bC 3:AV).ev ρ
 |7=>u=(.bC 65:AV).ev ρ
 |8=>True
 |_=>u=(i64 (.lit 0):AV).ev ρ
theorem Fi{ρ:Env}(i:Nat)(u:Value)(w w':World)(h:x9 ρ i u w)(f:bA w w'):x9 ρ i u w':=by
 unfold x9 at h⊢;split at h
 all_goals first|exact h
section
variable {w w0:World}{cs:List Frame}{fr:Frame}
theorem Jy{ρ:Env}{k:List Item}(pk:∀w',bA w0 w'->dS 40 #[.agg #[.string (ρ.s 1),ρ.v 7,iV (ρ.i 9)],.agg #[iV (ρ.i 31),iV (ρ.i 32),iV (ρ.i 33),iV (ρ.i 34)],ρ.v 3] w' fun u w2=>bA w' w2∧u=ρ.v 65)(iA:cr ρ QJ)(hmem:cw ρ w0 QI):
  ∀i,i<10->(Nat.blt i 8)=true->∀(l:List Nat) (w:World) (fr:Frame) (lv:List (Nat×Value)),bA w0 w->FA 17 66 (.inRegion oe (i::l)::k) [] .normal lv fr->(∀x∈told ρ Dg,x∈lv)->(∀p∈ja oe i,∃v,(Hj p,v)∈lv∧x9 ρ p v w)->
   Goes (G fr cs) w fun g' w'=>∃fr' v,g'=G fr' cs∧bA w w'∧x9 ρ i v w'∧FA 17 66 (.inRegion oe l::k) [] .normal (fL (Hj i) v lv) fr':=by
 intro j hi he l w fr lv f hf hb hp;have bm:∀{j:Nat} {q:Nat×Value},(told ρ Dg)[j]?=some q->q∈lv:=fun h=>hb _ (ay h);rcases(by omega:j=0∨j=1∨j=2∨j=3∨j=4∨j=5∨j=6∨j=7∨j=8∨j=9)with rfl|rfl|rfl|rfl|rfl|rfl|rfl|rfl|rfl|rfl
 ·exact Vh.dc ρ hf (by decide) (cT (bm (j:=2) rfl)) trivial trivial rfl
 ·obtain⟨v0,q0,e0⟩:=hp 0 (dy (by kernel_rfl));have e0:v0=(bz 64:AV).ev ρ:=e0;subst e0;exact Vi.dc ρ hf (by decide) (cT q0) trivial ⟨f.cell hmem.1,trivial⟩ rfl
 ·exact Vj.dc ρ hf (by decide) (cT (bm (j:=0) rfl)) trivial trivial rfl
 ·obtain⟨v1,q1,e1⟩:=hp 1 (dy (by kernel_rfl));have e1:v1=(sA 50 53 51 52:AV).ev ρ:=e1;subst e1;obtain⟨v2,q2,e2⟩:=hp 2 (dy (by kernel_rfl));have e2:v2=(i64 (v 10):AV).ev ρ:=e2;subst e2;exact Vk.dc ρ hf (by decide) (kX q1 q2) ⟨iA.1,iA.2.1,trivial⟩ trivial rfl
 ·obtain⟨v3,q3,e3⟩:=hp 3 (dy (by kernel_rfl));have e3:v3=(.ptr (some (eB 50 53 10 3)):AV).ev ρ:=e3;subst e3;exact Vl.dc ρ hf (by decide) (cT q3) trivial ⟨f.cell hmem.2.1,f.cell hmem.2.2.1,f.cell hmem.2.2.2.1,trivial⟩ rfl
 ·exact Vm.dc ρ hf (by decide) (cT (bm (j:=3) rfl)) trivial ⟨f.cell hmem.2.2.2.2.1,f.cell hmem.2.2.2.2.2.1,f.cell hmem.2.2.2.2.2.2.1,f.cell hmem.2.2.2.2.2.2.2.1,trivial⟩ rfl
 ·exact Vn.dc ρ hf (by decide) (cT (bm (j:=1) rfl)) trivial trivial rfl
 ·obtain⟨v4,q4,e4⟩:=hp 4 (dy (by kernel_rfl));have e4:v4=(.agg [ss 1,.bC 7,i64 (v 9)]:AV).ev ρ:=e4;subst e4;obtain⟨v5,q5,e5⟩:=hp 5 (dy (by kernel_rfl));have e5:v5=(.agg [i64 (v 31),i64 (v 32),i64 (v 33),i64 (v 34)]:AV).ev ρ:=e5;subst e5;obtain⟨v6,q6,e6⟩:=hp 6 (dy (by kernel_rfl));have e6:v6=(.bC 3:AV).ev ρ:=e6;subst e6;exact Vo.dc ρ (Q:=fun u w'=>u=(.bC 65:AV).ev ρ) hf (Zp q4 q5 q6) (fun w' f1=>pk w' (f.trans f1))
 ·exact absurd he (by decide)
 ·exact absurd he (by decide)
theorem No{ρ:Env}{k:List Item}{lv:List (Nat×Value)}(pk:∀w',bA w w'->dS 40 #[.agg #[.string (ρ.s 1),ρ.v 7,iV (ρ.i 9)],.agg #[iV (ρ.i 31),iV (ρ.i 32),iV (ρ.i 33),iV (ρ.i 34)],ρ.v 3] w' fun u w2=>bA w' w2∧u=ρ.v 65)(iA:cr ρ QJ)(hmem:cw ρ w QI)(hl:fT lv (told ρ Dg))(hf:FA 17 66 (.code (gu 126)::k) [] .normal lv fr):
  Goes (G fr cs) w fun g' w'=>∃fr' i_,g'=G fr' cs∧bA w w'∧FA 17 66 (.inRegion oe [8,9]::k) [] .normal i_ fr'∧(∀x∈told ρ Dg,x∈i_)∧∀i,i<10->(Nat.blt i 8)=true->∃v,(Hj i,v)∈i_∧x9 ρ i v w':=by
 obtain⟨id,hid⟩:=gI (c:=gu 126) (by kernel_rfl);have hf:=hf.only hl;rw[hid]at hf;refine(gH hf).trans fun g1 w1 hd=>?_;obtain⟨ls,bT,rfl,f1,hs,F1⟩:=hd;refine(ij (b:=told ρ Dg) (nm:=Hj) (val:=x9 ρ) (early:=fun i=>Nat.blt i 8) (late:=[8,9]) (n:=10) (w0:=w) (by kernel_rfl) (by kernel_rfl) (by kernel_rfl) (by kernel_rfl) (by kernel_rfl) (by kernel_rfl) (by kernel_rfl) (List.Pairwise.cons (fun b hb=>by obtain rfl:=ah.1 hb;exact⟨by decide,dy (by kernel_rfl)⟩) (bh _ _)) Fi (Jy pk iA hmem) ls [] f1 (fun i hi=>by cases hi) hs ⟨_,F1,fun x hx=>hx,fun i hi=>by cases hi⟩).mono fun g2 w2 bX=>?_;obtain⟨cB,lv,h1,h2,h3,h4,h5⟩:=bX;exact⟨cB,lv,h1,h2,h3,h4,h5⟩
end
def k9(F:gU)(n:Int)(m:cU)(E:List (Int×Int)):(Int×Int)×Int:=
 if(ef F).1≠0 then((0,0),(ef F).1)
 else if n<0∨n≥F.lets.length∨(E.length:Int)<n∨(E.take n.toNat).any jH=true then((0,0),1)
 else match F.lets[n.toNat]? with
  |none=>((0,0),1)
  |some x=>if dM x=true then((0,0),11)else match k8 x with
   |some t=>(lS E m t,0)
   |none=>((0,0),0)
theorem Jz{x:cH}{t:T}(h:k8 x=some t):JJ t:=by
 unfold k8 at h;cases e:dQ (x.tree.length+1) x.tree true with
 |none=>rw[e]at h;cases h
 |some p=>
  rw[e]at h;obtain⟨t',r⟩:=p;obtain rfl:t'=t:=au h;have hs:=mH _ _ _ _ _ e;refine vp _ 0 ?_;cases t' with
  |nd n ks=>rw[vo,an];exact hs
theorem ig.at{w:World}{s:Value}{l:List Nd}(h:ig w s l)(hne:l≠[]):cP w s l:=by
 rcases h.ex with h|⟨e,_⟩
 ·exact h
 ·exact(hne e).elim
def Px(f nt:Nat):Prop:=∀st,results? Tryz.prog (OO [] [(⟨.dyn 62,.lit 0⟩,.bC 40),(⟨.dyn 62,.lit 1⟩,.bC 41)]) hN f (dz nt st [(8,bz 62),(9,.bC 42)])=.ok (.tuple [.agg [.bC 40,.bC 41],.bC 42])
theorem pY:Px 17 66:=fun st=>by kernel_rfl
theorem rM:Px 16 68:=fun st=>by kernel_rfl
section
variable {w w0:World}{cs:List Frame}{fr:Frame}
theorem Hl{f nt R:Nat}{lv:List (Nat×Value)}{k:List Item}{x y z V:Value}(he:Px f nt)(hf:FA f nt (.code .ret::k) [] .normal lv fr)(hd:fP 8 lv=some (bI R))(bX:fP 9 lv=some z)(hR:(cu.obj 43 [x,y]).at Tryz.prog w R)(fw:bA w0 w)(hV:Value.tuple #[.agg #[x,y],z]=V):Goes (G fr cs) w (Out f cs w0 fun v _=>v=V):=by
 refine(kV (ρ:=bL [] [(62,R)] [(40,x),(41,y),(42,z)]) (lA:=[(8,bz 62),(9,.bC 42)]) (bs:=[]) (mem:=[(⟨.dyn 62,.lit 0⟩,.bC 40),(⟨.dyn 62,.lit 1⟩,.bC 41)]) hf (a:=.tuple [.agg [.bC 40,.bC 41],.bC 42]) (fun p hp=>by
  simp only[told,aK,List.map_nil,aj,az,or_false]at hp;rcases hp with rfl|rfl
  ·exact cD hd
  ·exact cD bX) he (nofun) (fun q hq=>by
  simp only[aj,az,or_false]at hq;rcases hq with rfl|rfl
  ·exact bE hR (i:=0) rfl
  ·exact bE hR (i:=1) rfl)).mono fun g2 w2 bX=>?_
 obtain⟨cB,rfl,rfl,hL⟩:=bX;exact⟨cB,_,rfl,hL,fw,hV⟩
theorem Pc.nk{f nt n:Nat}{todo k:List Item}{lA:List (Nat×AV)}{lv:List (Nat×Value)}{bs:List (BE×Bool)}{mem:List (AA×AV)}{a b r:AV}(P:Pc f nt todo lA bs mem [(68,.cells [i8 (.lit 0),i64 (.lit 0)] 43)] n [68] [8,9] (.code .ret::k) [bz 68,r] [(68,.cells [a,b] 43)])(he:Px f nt)(ρ:Env){R:Nat}{V:Value}(hf:FA f nt todo [] .normal lv fr)(hl:fT lv (told ρ lA))(hb:cr ρ bs)(hm:cw ρ w mem)(eR:ρ.b 68=R)(hne:od ρ R mem)(hR:(cu.obj 43 [cY 0,iV 0]).at Tryz.prog w R)(fw:bA w0 w)(gR:w0.heap.size≤R)(hV:∀I B,Value.tuple #[.agg #[a.ev (cQ ρ I B),b.ev (cQ ρ I B)],r.ev (cQ ρ I B)]=V):Goes (G fr cs) w (Out f cs w0 fun v _=>v=V):=by
 refine(P.B6 ρ hf hl hb hm (fun p hp x hx=>by obtain rfl:=ah.1 hx;show ρ.b 68≠_;rw[eR];exact hne.mem p hp) ⟨⟨.obj 43 [cY 0,iV 0],by rw[eR];exact hR,rfl,rfl⟩,trivial⟩ ei).trans fun g1 w1 hd=>?_
 obtain⟨I,B,bT,rfl,kp,F1,bl,_⟩:=hd;have yb:(cu.obj 43 [a.ev (cQ ρ I B),b.ev (cQ ρ I B)]).at Tryz.prog w1 R:=by have:=bl.1.2;rw[<-eR];exact this
 have fI:FA f nt (.code .ret::k) [] .normal [(8,bI R),(9,r.ev (cQ ρ I B))] bT:=by rw[<-eR];exact F1
 refine Hl he fI rfl rfl yb (cq fw (kp.mono fun x hx=>?_)) (hV I B);rcases hx with h|⟨p,hp,e⟩
 ·exact aA fw.size h
 ·obtain rfl:=ah.1 hp;have e:ρ.b 68=x:=e;omega
theorem Np{x s:Value}{F:gU}{E:List (Int×Int)}{n:Int}{m:cU}(h:mC w x F)(hE:dY w s E)(JH:E.length≤4294967000)(hlen:F.lets.length≤1000000)(ji:∀x∈F.lets,x.tree.length≤999999):dS 17 #[x,iV n,c_ m,s] w fun v w'=>bA w w'∧v=.tuple #[dh (k9 F n m E).1,iV (k9 F n m E).2]:=by
 obtain⟨ls,os,rfl,hl,ho⟩:=h;obtain⟨z,A,o,c,hls,hz,oU,cL⟩:=hl.ex;obtain⟨y,A',o',c',hs,hy,Dl,rH⟩:=hE.ex;refine Goes.jy fun cs=>?_;obtain⟨ρ,hρ⟩:∃ρ:Env,ρ=bL [(10,n),(31,m.mul),(32,m.add),(33,m.cA),(34,m.panics)] [] [(8,ls),(9,os),(3,s)]:=⟨_,rfl⟩;refine(ai5.go ρ (pM Vf rfl (.agg #[ls,os]) (iV n) (c_ m) s) (by rw[hρ];rfl) trivial trivial).trans fun g1 w1 hd=>?_;obtain⟨I,B,bT,rfl,f1,F1,bl,inj⟩:=hd;rw[hρ]at F1 bl inj;obtain⟨R,eR⟩:∃R,B 102=R:=⟨_,rfl⟩;obtain⟨Y,eY⟩:∃Y,B 101=Y:=⟨_,rfl⟩;obtain⟨X,eX⟩:∃X,B 100=X:=⟨_,rfl⟩;have hR:(cu.obj 43 [cY 0,iV 0]).at Tryz.prog w1 R:=by rw[<-eR];exact bl.1.2
 have hY:(cu.obj 27 [iV m.mul,iV m.add,iV m.cA,iV m.panics]).at Tryz.prog w1 Y:=by rw[<-eY];exact bl.2.1.2
 have hX:(cu.obj 25 [ls,os]).at Tryz.prog w1 X:=by rw[<-eX];exact bl.2.2.1.2
 have gR:w.heap.size≤R:=by rw[<-eR];exact bl.1.1
 have NA:R≠X:=fun e=>by have:=inj _ (ai ..) _ (aa _ (aa _ (ai ..))) (by rw[<-eR,<-eX]at e;exact e);cases this
 have hRY:R≠Y:=fun e=>by have:=inj _ (ai ..) _ (aa _ (ai ..)) (by rw[<-eR,<-eY]at e;exact e);cases this
 have fI:FA 17 66 (.inRegion (opsOf (gu 6)) [1,2,3,4,5,6]::[.code (gu 7)]) [] .normal [(1,iV n),(3,s),(4,bI X),(6,bI Y),(8,bI R),(13,.agg #[ls,os])] bT:=by rw[<-eX,<-eR,<-eY];exact F1
 refine(ai6.go (bL [] [] [(13,.agg #[ls,os])]) (Q:=fun v w'=>v=.tuple #[iV (ef F).1,iV (ef F).2]) fI rfl fun w' f=>E_ ⟨ls,os,rfl,hl.keep (f1.trans f),ho.keep (f1.trans f)⟩ hlen ji).trans fun g2 w2 bX=>?_;obtain⟨cB,v,rfl,f2,rfl,F2⟩:=bX;have mB:=f1.trans f2;have De:=bM hR f2;have lg:FA 17 66 zX [] .normal [(1,iV n),(3,s),(4,bI X),(6,bI Y),(8,bI R),(14,.tuple #[iV (ef F).1,iV (ef F).2])] cB:=F2.only rfl;obtain⟨σ,bZ⟩:∃σ:Env,σ=bL [(10,n),(5,(ef F).1),(6,(ef F).2),(51,F.lets.length),(52,c),(53,o),(81,E.length),(82,c'),(83,o'),(31,m.mul),(32,m.add),(33,m.cA),(34,m.panics)] [(64,X),(65,Y),(68,R),(50,A),(80,A')] [(3,s)]:=⟨_,rfl⟩;have Py:σ.b 68=R:=by rw[bZ];rfl
 unfold k9;by_cases h0:(ef F).1=0
 ·have n0:(BE.cmp .neq (v 5) (.lit 0)).ev σ=false:=by rw[bZ];show(!decide ((ef F).1=0))=false;rw[decide_eq_true h0];rfl
  rw[if_neg (fun h=>h h0)];by_cases c1:n<0
  ·rw[if_pos (.inl c1)];exact aaF.nk pY σ lg (by rw[bZ];rfl) ⟨n0,by rw[bZ];exact decide_eq_true c1,trivial⟩ trivial Py trivial De mB gR fun _ _=>by rw[bZ];rfl
  have n1:(BE.cmp .lss (v 10) (.lit 0)).ev σ=false:=by rw[bZ];exact decide_eq_false c1
  have C5:=f2.cell (bE hX (i:=0) rfl);have eN:(dL z 51).ev σ=(F.lets.length:Int):=by
   rw[bZ];cases z with
   |false=>rfl
   |true=>rw[hz rfl];rfl
  have mX:cw σ w2 [(eD 64 0,cG z 50 53 51 52)]:=by rw[bZ];refine⟨C5.trans ?_,trivial⟩;rw[hls];cases z<;>rfl
  have nX:od σ R [(eD 64 0,cG z 50 53 51 52)]:=by rw[bZ];exact⟨NA,trivial⟩
  by_cases c2:n≥F.lets.length
  ·rw[if_pos (.inr (.inl c2))];exact(aaG z).nk pY σ lg (by rw[bZ];rfl) ⟨n0,n1,by show decide (σ.i 10≥(dL z 51).ev σ)=true;rw[eN,bZ];exact decide_eq_true c2,trivial⟩ mX Py nX De mB gR fun _ _=>by rw[bZ];rfl
  obtain⟨i,hi⟩:∃i:Nat,n=i:=⟨n.toNat,by omega⟩;subst hi;have hil:i<F.lets.length:=by omega
  obtain rfl:z=false:=by
   cases z with
   |false=>rfl
   |true=>rw[hz rfl]at hil;simp at hil
  have n2:(BE.cmp .geq (v 10) (.tn (v 51))).ev σ=false:=by rw[bZ];exact decide_eq_false c2
  have eE:(dL y 81).ev σ=(E.length:Int):=by
   rw[bZ];cases y with
   |false=>rfl
   |true=>rw[hy rfl];rfl
  have es:∀I B,(cG y 80 83 81 82).ev (cQ σ I B)=s:=fun I B=>by rw[bZ,hs];cases y<;>rfl
  have Qf:(cG y 80 83 81 82).ev σ=s:=by rw[bZ,hs];cases y<;>rfl
  have T3:fT [(1,iV (i:Int)),(3,s),(4,bI X),(6,bI Y),(8,bI R),(14,.tuple #[iV (ef F).1,iV (ef F).2])] (told σ [(1,i64 (v 10)),(3,cG y 80 83 81 82),(4,bz 64),(6,bz 65),(8,bz 68),(14,.tuple [i64 (v 5),i64 (v 6)])]):=by show[some _,some _,some _,some _,some _,some _]=[some _,some ((cG y 80 83 81 82).ev σ),some _,some _,some _,some _];rw[Qf,bZ];rfl
  by_cases c3:(E.length:Int)<i
  ·rw[if_pos (.inr (.inr (.inl c3)))];exact(aaH y).nk pY σ lg T3 ⟨n0,n1,n2,by show decide ((dL y 81).ev σ<σ.i 10)=true;rw[eE,bZ];exact decide_eq_true c3,trivial⟩ mX Py nX De mB gR fun _ _=>by rw[bZ];rfl
  refine((aaI y).go σ lg T3 ⟨n0,n1,n2,by show decide ((dL y 81).ev σ<σ.i 10)=false;rw[eE,bZ];exact decide_eq_false c3,trivial⟩ mX).trans fun g3 w3 cn=>?_;obtain⟨I3,B3,cC,rfl,f3,F3,_⟩:=cn;have oT:FA 17 66 (.inRegion (opsOf (gu 60)) [18,19,20]::[.code (gu 61),.code (gu 31)]) [] .normal [(1,iV (i:Int)),(3,s),(4,bI X),(6,bI Y),(8,bI R),(36,.bool false),(37,s),(38,iV (i:Int))] cC:=by
   have h1:FA 17 66 (.inRegion (opsOf (gu 60)) [18,19,20]::[.code (gu 61),.code (gu 31)]) [] .normal [(1,iV (i:Int)),(3,(cG y 80 83 81 82).ev (cQ σ I3 B3)),(4,bI X),(6,bI Y),(8,bI R),(36,.bool false),(37,(cG y 80 83 81 82).ev (cQ σ I3 B3)),(38,iV (i:Int))] cC:=by rw[bZ]at F3⊢;exact F3
   rw[es]at h1;exact h1
  have Ay:=mB.trans f3;refine(ai8.go (bL [] [] [(37,s),(38,iV (i:Int))]) (Q:=fun v w'=>v=.bool (!(E.take i).any jH)) oT rfl fun w' f=>Ja (hE.keep (Ay.trans f)) (by omega) JH).trans fun g4 w4 c9=>?_;obtain⟨eg,v,rfl,f4,rfl,F4⟩:=c9;have oO:=Ay.trans f4;have f24:=f3.trans f4;have JI:=bM De f24;obtain⟨τ,fz⟩:∃τ:Env,τ=bL [(10,i)] [(64,X),(65,Y),(68,R)] [(3,s)]:=⟨_,rfl⟩;cases hb:(E.take i).any jH with
  |true=>rw[hb]at F4;rw[if_pos (.inr (.inr (.inr (by rw[bx];exact hb))))];exact ai9.nk pY τ F4 (by rw[fz];rfl) trivial trivial (by rw[fz];rfl) trivial JI oO gR fun _ _=>by rw[fz];rfl
  |false=>
  rw[hb]at F4;rw[if_neg (by rw[bx,hb];simp;omega),bx];obtain⟨x,hx⟩:∃x,F.lets[i]?=some x:=⟨_,af hil⟩;obtain⟨t,hg⟩:=nV h0 i x hx;rw[hx];dsimp only;rw[hg.tr];dsimp only;have hne:=qk hg;have Ok:=ji x (ay hx);have Vq:w4.cell? ⟨X,0,none⟩=some (bU A o F.lets.length c):=by rw[<-show ls=bU A o F.lets.length c from hls];exact f24.cell C5
  obtain⟨ts,a0,a1,a2,a3⟩:=(cL i x hx).ex;have iD:=a3.at hne;obtain⟨κ,gv⟩:∃κ:Env,κ=Go.Proofs.YtmobbajggkjpgaaGreat.SX.jn [(10,i),(51,F.lets.length),(52,c),(53,o),(9,x.bY),(31,m.mul),(32,m.add),(33,m.cA),(34,m.panics)] [(64,X),(65,Y),(68,R),(50,A)] [(3,s),(7,ts),(65,dh (lS E m t))] [(1,x.name)]:=⟨_,rfl⟩;have bb:=cg (ρ:=κ) (i:=10) (n:=51) (I:=i) (N:=F.lets.length) (by rw[gv];rfl) (by rw[gv];rfl) hil;have mL:∀{w':World},bA w4 w'->cw κ w' Ph:=fun f=>by rw[gv];exact⟨f.cell Vq,(oO.trans f).cell a0,(oO.trans f).cell a1,(oO.trans f).cell a2,trivial⟩
  have aaP:κ.b 68=R:=by rw[gv];rfl
  refine(ai_.go κ F4 (by rw[gv];rfl) bb (mL (bA.refl _))).trans fun g5 w5 d_=>?_;obtain⟨I,B,gh,rfl,f5,F5,_⟩:=d_;rw[gv]at F5;refine(ai'.go (bL [] [] [(47,fy x ts)]) (Q:=fun v w'=>v=.bool (decide (dF x=17))) F5 rfl fun w' f=>Mt (iD.keep (oO.trans (f5.trans f))) hne).trans fun g6 w6 dj=>?_;obtain⟨dJ,v,rfl,f6,rfl,F6⟩:=dj;have f46:=f5.trans f6;unfold dM;by_cases hr:dF x=17
  ·rw[decide_eq_true hr]at F6⊢;rw[Bool.true_or,if_pos rfl];exact aja.nk pY κ F6 (by rw[gv];rfl) trivial trivial aaP trivial (bM JI f46) (oO.trans f46) gR fun _ _=>by rw[gv];rfl
  rw[decide_eq_false hr]at F6⊢;refine(ajb.go κ F6 (by rw[gv];rfl) bb (mL f46)).trans fun g7 w7 lG=>?_;obtain⟨I,B,qj,rfl,f7,F7,_⟩:=lG;rw[gv]at F7;have f47:=f46.trans f7;refine(ajc.go (bL [] [] [(54,fy x ts)]) (Q:=fun v w'=>v=.bool (decide (dF x=18))) F7 rfl fun w' f=>ER (iD.keep (oO.trans (f47.trans f))) hne).trans fun g8 w8 xg=>?_;obtain⟨Iu,v,rfl,f8,rfl,F8⟩:=xg;have f48:=f47.trans f8;by_cases hc:dF x=18
  ·rw[decide_eq_true hc]at F8⊢;rw[Bool.false_or,if_pos rfl];exact ajd.nk pY κ F8 (by rw[gv];rfl) trivial trivial aaP trivial (bM JI f48) (oO.trans f48) gR fun _ _=>by rw[gv];rfl
  rw[decide_eq_false hc]at F8⊢;rw[Bool.false_or,if_neg (by decide)];refine(aje.go κ F8 (by rw[gv];rfl) trivial trivial).trans fun g9 w9 xh=>?_;obtain⟨I,B,AY,rfl,f9,F9,_⟩:=xh;rw[gv]at F9;have f49:=f48.trans f9;have Qz:=oO.trans f49;have hY9:=bM hY (f2.trans (f24.trans f49));refine(No (ρ:=κ) (fun w' f=>by rw[gv];exact Fh (iD.keep (Qz.trans f)) (by omega) (hE.keep (Qz.trans f)) hg.wf (Jz hg.tr) (hg.nd.mono (by omega)) hg.fl) bb (cw.app (mL f49) (by rw[gv];exact⟨bE hY9 (i:=0) rfl,bE hY9 (i:=1) rfl,bE hY9 (i:=2) rfl,bE hY9 (i:=3) rfl,trivial⟩)) (by rw[gv];rfl) F9).trans fun gA wA Ys=>?_;obtain⟨frA,lvA,rfl,fA,Yt,hbA,hvA⟩:=Ys;obtain⟨u,q,eu⟩:=hvA 7 (by decide) rfl;have eu:u=dh (lS E m t):=by have:u=(.bC 65:AV).ev κ:=eu;rw[this,gv];rfl
  rw[eu]at q;have FA2:=Yt.sub (i_:=[(8,bI R),(65,dh (lS E m t))]) fun p hp=>by
   simp only[aj,az,or_false]at hp;rcases hp with rfl|rfl
   ·refine hbA _ ?_;rw[gv];exact cD (k:=8) rfl
   ·exact q
  have f0A:=Qz.trans fA;refine(e_ (B:=R) (T:=43) (el:=43) (sz:=2) (V:=dh (lS E m t)) (cs':=[cY (lS E m t).1,iV (lS E m t).2]) Vp (by kernel_rfl) rfl rfl AP FA2 rfl rfl (bM JI (f49.trans fA)) rfl).trans fun gB wB Yu=>?_;obtain⟨frB,rfl,⟨kpB,hRB⟩,FB⟩:=Yu;refine(ajf.go (bL [] [(68,R)] []) FB rfl trivial trivial).trans fun gC wC Yv=>?_;obtain⟨I,B,frC,rfl,fC,FC,_⟩:=Yv;exact Hl pY FC rfl rfl (bM hRB fC) ((cq f0A (kpB.mono fun y hy=>by rw[hy];exact gR)).trans fC) rfl
 ·rw[if_pos h0];refine ai7.nk pY σ lg (by rw[bZ];rfl) ⟨by rw[bZ];show(!decide ((ef F).1=0))=true;rw[decide_eq_false h0];rfl,trivial⟩ trivial Py trivial De mB gR fun _ _=>?_;rw[bZ];rfl
theorem Nq{x s:Value}{F:gU}{E:List (Int×Int)}{n:Int}{m:cU}(h:oy w x F)(hE:dY w s E)(JH:E.length≤4294967000)(hlen:F.lets.length≤1000000)(ji:∀x∈F.lets,x.tree.length≤999999):dS 16 #[x,iV n,c_ m,s] w fun v w'=>bA w w'∧v=.tuple #[dh (k9 F n m E).1,iV (k9 F n m E).2]:=by
 by_cases QK:(ef F).1=0∧∃(i:Nat) (y:cH),n=i∧F.lets[i]?=some y∧dM y=false∧i≤E.length∧(E.take i).any jH=false
 ·obtain⟨h0,i,y,rfl,hi,RX,hiE,hok⟩:=QK;obtain⟨t,hg⟩:=nV h0 i y hi;refine(OE h hE h0 hi hg RX hiE hok JH hlen ji).mono fun v w' hd=>⟨hd.1,?_⟩;rw[hd.2];have hil:=(aq.1 hi).1;unfold k9;rw[if_neg (fun h=>h h0),if_neg (by rw[bx,hok];simp;omega),bx,hi];dsimp only;rw[if_neg (by rw[RX];decide),hg.tr]
 obtain⟨ls,os,rfl,hl,ho⟩:=h;obtain⟨z,A,o,c,hls,hz,oU,cL⟩:=hl.ex;obtain⟨y,A',o',c',hs,hy,Dl,rH⟩:=hE.ex;refine Goes.jy fun cs=>?_;obtain⟨ρ,hρ⟩:∃ρ:Env,ρ=bL [(10,n),(31,m.mul),(32,m.add),(33,m.cA),(34,m.panics)] [] [(8,ls),(9,os),(3,s)]:=⟨_,rfl⟩;refine(ajg.go ρ (pM Vg rfl (.agg #[ls,os]) (iV n) (c_ m) s) (by rw[hρ];rfl) trivial trivial).trans fun g1 w1 hd=>?_;obtain⟨I,B,bT,rfl,f1,F1,bl,inj⟩:=hd;rw[hρ]at F1 bl inj;obtain⟨R,eR⟩:∃R,B 102=R:=⟨_,rfl⟩;obtain⟨Y,eY⟩:∃Y,B 101=Y:=⟨_,rfl⟩;obtain⟨X,eX⟩:∃X,B 100=X:=⟨_,rfl⟩;have hR:(cu.obj 43 [cY 0,iV 0]).at Tryz.prog w1 R:=by rw[<-eR];exact bl.1.2
 have hY:(cu.obj 27 [iV m.mul,iV m.add,iV m.cA,iV m.panics]).at Tryz.prog w1 Y:=by rw[<-eY];exact bl.2.1.2
 have hX:(cu.obj 25 [ls,os]).at Tryz.prog w1 X:=by rw[<-eX];exact bl.2.2.1.2
 have gR:w.heap.size≤R:=by rw[<-eR];exact bl.1.1
 have NA:R≠X:=fun e=>by have:=inj _ (ai ..) _ (aa _ (aa _ (ai ..))) (by rw[<-eR,<-eX]at e;exact e);cases this
 have hRY:R≠Y:=fun e=>by have:=inj _ (ai ..) _ (aa _ (ai ..)) (by rw[<-eR,<-eY]at e;exact e);cases this
 have fI:FA 16 68 (.inRegion (opsOf (gf 12)) [1,2,3,4,5,6]::[.code (gf 13),.code (gf 7)]) [] .normal [(1,iV n),(3,s),(4,bI X),(6,bI Y),(8,bI R),(15,.agg #[ls,os])] bT:=by rw[<-eX,<-eR,<-eY];exact F1
 refine(ajh.go (bL [] [] [(15,.agg #[ls,os])]) (Q:=fun v w'=>v=.tuple #[iV (ef F).1,iV (ef F).2]) fI rfl fun w' f=>lP ⟨ls,os,rfl,hl.keep (f1.trans f),ho.keep (f1.trans f)⟩ hlen ji).trans fun g2 w2 bX=>?_;obtain⟨cB,v,rfl,f2,rfl,F2⟩:=bX;have mB:=f1.trans f2;have De:=bM hR f2;have lg:FA 16 68 Jx [] .normal [(1,iV n),(3,s),(4,bI X),(6,bI Y),(8,bI R),(16,.tuple #[iV (ef F).1,iV (ef F).2])] cB:=F2.only rfl;obtain⟨σ,bZ⟩:∃σ:Env,σ=bL [(10,n),(5,(ef F).1),(6,(ef F).2),(51,F.lets.length),(52,c),(53,o),(81,E.length),(82,c'),(83,o'),(31,m.mul),(32,m.add),(33,m.cA),(34,m.panics)] [(64,X),(65,Y),(68,R),(50,A),(80,A')] [(3,s)]:=⟨_,rfl⟩;have Py:σ.b 68=R:=by rw[bZ];rfl
 unfold k9;by_cases h0:(ef F).1=0
 ·have n0:(BE.cmp .neq (v 5) (.lit 0)).ev σ=false:=by rw[bZ];show(!decide ((ef F).1=0))=false;rw[decide_eq_true h0];rfl
  rw[if_neg (fun h=>h h0)];by_cases c1:n<0
  ·rw[if_pos (.inl c1)];exact aaK.nk rM σ lg (by rw[bZ];rfl) ⟨n0,by rw[bZ];exact decide_eq_true c1,trivial⟩ trivial Py trivial De mB gR fun _ _=>by rw[bZ];rfl
  have n1:(BE.cmp .lss (v 10) (.lit 0)).ev σ=false:=by rw[bZ];exact decide_eq_false c1
  have C5:=f2.cell (bE hX (i:=0) rfl);have eN:(dL z 51).ev σ=(F.lets.length:Int):=by
   rw[bZ];cases z with
   |false=>rfl
   |true=>rw[hz rfl];rfl
  have mX:cw σ w2 [(eD 64 0,cG z 50 53 51 52)]:=by rw[bZ];refine⟨C5.trans ?_,trivial⟩;rw[hls];cases z<;>rfl
  have nX:od σ R [(eD 64 0,cG z 50 53 51 52)]:=by rw[bZ];exact⟨NA,trivial⟩
  by_cases c2:n≥F.lets.length
  ·rw[if_pos (.inr (.inl c2))];exact(aaL z).nk rM σ lg (by rw[bZ];rfl) ⟨n0,n1,by show decide (σ.i 10≥(dL z 51).ev σ)=true;rw[eN,bZ];exact decide_eq_true c2,trivial⟩ mX Py nX De mB gR fun _ _=>by rw[bZ];rfl
  obtain⟨i,hi⟩:∃i:Nat,n=i:=⟨n.toNat,by omega⟩;subst hi;have hil:i<F.lets.length:=by omega
  obtain rfl:z=false:=by
   cases z with
   |false=>rfl
   |true=>rw[hz rfl]at hil;simp at hil
  have n2:(BE.cmp .geq (v 10) (.tn (v 51))).ev σ=false:=by rw[bZ];exact decide_eq_false c2
  have eE:(dL y 81).ev σ=(E.length:Int):=by
   rw[bZ];cases y with
   |false=>rfl
   |true=>rw[hy rfl];rfl
  have es:∀I B,(cG y 80 83 81 82).ev (cQ σ I B)=s:=fun I B=>by rw[bZ,hs];cases y<;>rfl
  have Qf:(cG y 80 83 81 82).ev σ=s:=by rw[bZ,hs];cases y<;>rfl
  have T3:fT [(1,iV (i:Int)),(3,s),(4,bI X),(6,bI Y),(8,bI R),(16,.tuple #[iV (ef F).1,iV (ef F).2])] (told σ [(1,i64 (v 10)),(3,cG y 80 83 81 82),(4,bz 64),(6,bz 65),(8,bz 68),(16,.tuple [i64 (v 5),i64 (v 6)])]):=by show[some _,some _,some _,some _,some _,some _]=[some _,some ((cG y 80 83 81 82).ev σ),some _,some _,some _,some _];rw[Qf,bZ];rfl
  by_cases c3:(E.length:Int)<i
  ·rw[if_pos (.inr (.inr (.inl c3)))];exact(aaM y).nk rM σ lg T3 ⟨n0,n1,n2,by show decide ((dL y 81).ev σ<σ.i 10)=true;rw[eE,bZ];exact decide_eq_true c3,trivial⟩ mX Py nX De mB gR fun _ _=>by rw[bZ];rfl
  refine((aaN y).go σ lg T3 ⟨n0,n1,n2,by show decide ((dL y 81).ev σ<σ.i 10)=false;rw[eE,bZ];exact decide_eq_false c3,trivial⟩ mX).trans fun g3 w3 cn=>?_;obtain⟨I3,B3,cC,rfl,f3,F3,_⟩:=cn;have oT:FA 16 68 (.inRegion (opsOf (gf 28)) [18,19,20]::[.code (gf 29),.code (gf 15)]) [] .normal [(1,iV (i:Int)),(3,s),(4,bI X),(6,bI Y),(8,bI R),(38,.bool false),(39,s),(40,iV (i:Int))] cC:=by
   have h1:FA 16 68 (.inRegion (opsOf (gf 28)) [18,19,20]::[.code (gf 29),.code (gf 15)]) [] .normal [(1,iV (i:Int)),(3,(cG y 80 83 81 82).ev (cQ σ I3 B3)),(4,bI X),(6,bI Y),(8,bI R),(38,.bool false),(39,(cG y 80 83 81 82).ev (cQ σ I3 B3)),(40,iV (i:Int))] cC:=by rw[bZ]at F3⊢;exact F3
   rw[es]at h1;exact h1
  have Ay:=mB.trans f3;refine(ajj.go (bL [] [] [(39,s),(40,iV (i:Int))]) (Q:=fun v w'=>v=.bool (!(E.take i).any jH)) oT rfl fun w' f=>(Az (hE.keep (Ay.trans f)) (by omega) JH)).trans fun g4 w4 c9=>?_;obtain⟨eg,v,rfl,f4,rfl,F4⟩:=c9;have oO:=Ay.trans f4;have f24:=f3.trans f4;have JI:=bM De f24;obtain⟨τ,fz⟩:∃τ:Env,τ=bL [(10,i)] [(64,X),(65,Y),(68,R)] [(3,s)]:=⟨_,rfl⟩;cases hb:(E.take i).any jH with
  |true=>rw[hb]at F4;rw[if_pos (.inr (.inr (.inr (by rw[bx];exact hb))))];exact ajk.nk rM τ F4 (by rw[fz];rfl) trivial trivial (by rw[fz];rfl) trivial JI oO gR fun _ _=>by rw[fz];rfl
  |false=>
  rw[hb]at F4;rw[if_neg (by rw[bx,hb];simp;omega),bx];obtain⟨x,hx⟩:∃x,F.lets[i]?=some x:=⟨_,af hil⟩;obtain⟨t,hg⟩:=nV h0 i x hx;rw[hx];dsimp only;rw[hg.tr];dsimp only;have hne:=qk hg;have Ok:=ji x (ay hx);have Vq:w4.cell? ⟨X,0,none⟩=some (bU A o F.lets.length c):=by rw[<-show ls=bU A o F.lets.length c from hls];exact f24.cell C5
  have Ho:dM x=true:=by
   cases hw:dM x with
   |true=>rfl
   |false=>exact(QK ⟨h0,i,x,rfl,hx,hw,by omega,hb⟩).elim
  rw[if_pos Ho];obtain⟨At,ot,ct,c0,c1',c2',RP,iD⟩:=lT (cL i x hx) hne;obtain⟨κ,gv⟩:∃κ:Env,κ=Go.Proofs.YtmobbajggkjpgaaGreat.SX.jn [(10,i),(51,F.lets.length),(52,c),(53,o),(9,x.bY),(71,x.tree.length),(72,ct),(73,ot),(1,dF x)] [(64,X),(65,Y),(68,R),(50,A),(70,At)] [(3,s)] [(1,x.name)]:=⟨_,rfl⟩;refine(ajl.go κ F4 (by rw[gv];rfl) (cg (ρ:=κ) (i:=10) (n:=51) (I:=i) (N:=F.lets.length) (by rw[gv];rfl) (by rw[gv];rfl) hil) ⟨by rw[gv];exact Vq,by rw[gv];exact oO.cell c0,by rw[gv];exact oO.cell c1',by rw[gv];exact oO.cell c2',trivial⟩).trans fun g5 w5 d_=>?_;obtain⟨I,B,gh,rfl,f5,F5,AZ,_⟩:=d_;rw[gv]at F5 AZ;obtain⟨V,eV⟩:∃V,B 100=V:=⟨_,rfl⟩;have hV:(cu.obj 50 [.string x.name,bU At ot x.tree.length ct,iV x.bY]).at Tryz.prog w5 V:=by rw[<-eV];exact AZ.1.2
  have gV:w4.heap.size≤V:=by rw[<-eV];exact AZ.1.1
  have OD:FA 16 68 (.inRegion (opsOf (gf 124)) [1,2,3,4,5,6,7]::[.code (gf 125),.code (gf 63)]) [] .normal [(1,iV (i:Int)),(3,s),(4,bI X),(6,bI Y),(8,bI R),(12,bI V),(50,fy x (bU At ot x.tree.length ct))] gh:=by rw[<-eV];exact F5
  have G3:=oO.trans f5;refine(ajm.go (bL [] [] [(50,fy x (bU At ot x.tree.length ct))]) (Q:=fun v w'=>v=cY (dF x)) OD rfl fun w' f=>mA hne fun i n hi=>(iD i n hi).keep (G3.trans f)).trans fun g6 w6 dj=>?_;obtain⟨dJ,v,rfl,f6,rfl,F6⟩:=dj;have f46:=f5.trans f6;have hRV:R≠V:=by have:=cu.jW JI;omega
  obtain⟨π,kM⟩:∃π:Env,π=Go.Proofs.YtmobbajggkjpgaaGreat.SX.jn [(10,i),(9,x.bY),(71,x.tree.length),(72,ct),(73,ot),(1,dF x)] [(64,X),(65,Y),(66,V),(68,R),(70,At)] [(3,s)] [(1,x.name)]:=⟨_,rfl⟩;by_cases hr:dF x=17
  ·exact ajn.nk rM π F6 (by rw[kM];rfl) ⟨by rw[kM];exact decide_eq_true hr,trivial⟩ trivial (by rw[kM];rfl) trivial (bM JI f46) (oO.trans f46) gR fun _ _=>by rw[kM];rfl
  refine(ajo.go π F6 (by rw[kM];rfl) ⟨by rw[kM];exact decide_eq_false hr,trivial⟩ ⟨by rw[kM];exact f6.cell (bE hV (i:=0) rfl),by rw[kM];exact f6.cell (bE hV (i:=1) rfl),by rw[kM];exact f6.cell (bE hV (i:=2) rfl),trivial⟩).trans fun g7 w7 lG=>?_;obtain⟨I,B,qj,rfl,f7,F7,_⟩:=lG;rw[kM]at F7;have f47:=f46.trans f7;refine(ajp.go (bL [] [] [(54,fy x (bU At ot x.tree.length ct))]) (Q:=fun v w'=>v=cY (dF x)) F7 rfl fun w' f=>mA hne fun i n hi=>(iD i n hi).keep (oO.trans (f47.trans f))).trans fun g8 w8 xg=>?_;obtain⟨Iu,v,rfl,f8,rfl,F8⟩:=xg;have f48:=f47.trans f8;have hc:dF x=18:=by unfold dM at Ho;rw[decide_eq_false hr,Bool.false_or]at Ho;exact of_decide_eq_true Ho
  exact ajq.nk rM π F8 (by rw[kM];rfl) ⟨by rw[kM];exact decide_eq_true hc,trivial⟩ trivial (by rw[kM];rfl) trivial (bM JI f48) (oO.trans f48) gR fun _ _=>by rw[kM];rfl
 ·rw[if_pos h0];refine aji.nk rM σ lg (by rw[bZ];rfl) ⟨by rw[bZ];show(!decide ((ef F).1=0))=true;rw[decide_eq_false h0];rfl,trivial⟩ trivial Py trivial De mB gR fun _ _=>?_;rw[bZ];rfl
end
noncomputable def iR(l:Nat):Code:=pc (bD Tryz.f4) (pd l)
theorem aaQ:bP Tryz.prog 4 [.bC 0,.bC 1,.bC 2,.bC 3] .normal=.ok ⟨4,72,c8 4 [.bC 0,.bC 1,.bC 2,.bC 3],[.code (bD Tryz.f4)],[],.run,.normal⟩:=by kernel_rfl
theorem QL:dP 4 72 8:=fun st=>by kernel_rfl
theorem ajr:Pc 4 72 [.code (bD Tryz.f4)] ([(0,.agg [.bC 8,.bC 9]),(1,i64 (v 10)),(2,.agg [i64 (v 31),i64 (v 32),i64 (v 33),i64 (v 34)]),(3,.bC 3)]) [] [] [] 10 [101,100] [1,3,4,6,15] [.inRegion (opsOf (iR 12)) [1,2,3,4,5,6],.code (iR 13),.code (iR 7)] [i64 (v 10),.bC 3,bz 100,bz 101,.agg [.bC 8,.bC 9]] [(101,.cells [i64 (v 31),i64 (v 32),i64 (v 33),i64 (v 34)] 27),(100,.cells [.bC 8,.bC 9] 25)]:={}
theorem ajs:di 72 (opsOf (iR 12)) 1 [(15,.bC 15)] 5 [.bC 15] 16:={}
noncomputable abbrev Pz:List Item:=[.inRegion (opsOf (iR 12)) [2,3,4,5,6],.code (iR 13),.code (iR 7)]
noncomputable abbrev QM:List Item:=[.inRegion (opsOf (iR 52)) [0,1],.code .ret,.code (iR 7)]
theorem ajt:Pc 4 72 Pz ([(1,i64 (v 10)),(3,.bC 3),(4,bz 64),(6,bz 65),(16,TB)]) [] [] [] 9 [] [4] QM [bz 64] []:={}
theorem aaR:di 72 (opsOf (iR 52)) 0 [] 7 [] 22:={}
noncomputable abbrev QN:List Item:=[.inRegion (opsOf (iR 52)) [1],.code .ret,.code (iR 7)]
theorem aaS:Pc 4 72 QN ([(22,TB)]) [] [] [] 2 [] [8] [.code .ret,.code (iR 7)] [TB] []:={}
theorem aaT:Pc 4 72 Pz ([(1,i64 (v 10)),(3,sA 80 83 81 82),(4,bz 64),(6,bz 65),(16,FB)]) [((.cmp .gtr (.tn (v 81)) (.lit 2147483647)),true)] [] [] 21 [] [4] QM [bz 64] []:={}
theorem aaU(z:Bool):Pc 4 72 Pz ([(1,i64 (v 10)),(3,cG z 80 83 81 82),(4,bz 64),(6,bz 65),(16,FB)]) [((.cmp .gtr (dL z 81) (.lit 2147483647)),false)] [(eD 64 0,.bC 8),(eD 64 1,.bC 9)] [] 23 [] [1,3,4,6,23] [.inRegion (opsOf (iR 14)) [1,2,3],.code (iR 15)] [i64 (v 10),cG z 80 83 81 82,bz 64,bz 65,.agg [.bC 8,.bC 9]] []:=by cases z<;>exact{}
theorem aju:di 72 (opsOf (iR 14)) 1 [(23,.bC 23)] 8 [.bC 23] 24:={}
theorem ajv:Pc 4 72 [.inRegion (opsOf (iR 14)) [2,3],.code (iR 15)] ([(1,i64 (v 10)),(3,.bC 3),(4,bz 64),(6,bz 65),(24,.bC 24)]) [] [] [] 1 [100] [1,3,4,6,9,24] [.inRegion (opsOf (iR 14)) [3],.code (iR 15)] [i64 (v 10),.bC 3,bz 64,bz 65,bz 100,.bC 24] [(100,.cells [cj,cj] 25)]:={}
theorem ajw:jO 72 (opsOf (iR 14)) 3 [] (.store 25 (.tmp 9) (.tmp 24)) 0 none:={}
theorem ajx:Pc 4 72 [.inRegion (opsOf (iR 14)) [],.code (iR 15)] ([(1,i64 (v 10)),(3,.bC 3),(4,bz 64),(6,bz 65),(9,bz 66)]) [] [] [] 4 [] [1,3,4,6,9,25] [.inRegion (opsOf (iR 30)) [1,2],.code (iR 31)] [i64 (v 10),.bC 3,bz 64,bz 65,bz 66,.bC 3] []:={}
theorem ajy:di 72 (opsOf (iR 30)) 1 [(25,.bC 25)] 9 [.bC 25] 26:={}
theorem ajz:Pc 4 72 [.inRegion (opsOf (iR 30)) [2],.code (iR 31)] ([(1,i64 (v 10)),(3,.bC 3),(4,bz 64),(6,bz 65),(9,bz 66),(26,.bC 26)]) [] [(eD 66 0,.bC 11),(eD 66 1,.bC 12),(eD 65 0,i64 (v 31)),(eD 65 1,i64 (v 32)),(eD 65 2,i64 (v 33)),(eD 65 3,i64 (v 34))] [] 8 [] [1,3,4,6,9,10,28,29,30,31] [.inRegion (opsOf (iR 62)) [4,5,6,7,8,9,10],.code (iR 63)] [i64 (v 10),.bC 3,bz 64,bz 65,bz 66,.bC 26,.agg [.bC 11,.bC 12],i64 (v 10),.agg [i64 (v 31),i64 (v 32),i64 (v 33),i64 (v 34)],.bC 26] []:={}
theorem ajA:di 72 (opsOf (iR 62)) 4 [(28,.bC 28),(29,.bC 29),(30,.bC 30),(31,.bC 31)] 16 [.bC 28,.bC 29,.bC 30,.bC 31] 32:={}
noncomputable abbrev QO:List Item:=[.inRegion (opsOf (iR 62)) [5,6,7,8,9,10],.code (iR 63)]
theorem ajB:Pc 4 72 QO ([(1,i64 (v 10)),(3,.bC 3),(4,bz 64),(6,bz 65),(9,bz 66),(10,.bC 10),(32,.tuple [.agg [i8 (v 21),i64 (v 22)],i64 (v 23)])]) [] [(eD 64 0,.bC 8),(eD 64 1,.bC 9),(eD 65 0,i64 (v 31)),(eD 65 1,i64 (v 32)),(eD 65 2,i64 (v 33)),(eD 65 3,i64 (v 34))] [] 13 [100] [3,4,9,10,11,12,36,37,38,39] [.inRegion (opsOf (iR 126)) [4,5,6,7,8,9,10],.code (iR 127)] [.bC 3,bz 64,bz 66,.bC 10,bz 100,i64 (v 23),.agg [.bC 8,.bC 9],i64 (v 10),.agg [i64 (v 31),i64 (v 32),i64 (v 33),i64 (v 34)],.bC 3] [(100,.cells [i8 (v 21),i64 (v 22)] 43)]:={}
theorem ajC:di 72 (opsOf (iR 126)) 4 [(36,.bC 36),(37,.bC 37),(38,.bC 38),(39,.bC 39)] 17 [.bC 36,.bC 37,.bC 38,.bC 39] 40:={}
noncomputable abbrev QS:List Item:=[.inRegion (opsOf (iR 126)) [5,6,7,8,9,10],.code (iR 127)]
theorem ajD:Pc 4 72 QS ([(3,.bC 3),(4,bz 64),(9,bz 66),(10,.bC 10),(11,bz 67),(12,i64 (v 23)),(40,.tuple [.agg [i8 (v 21),i64 (v 22)],i64 (v 23)])]) [((.cmp .eql (v 21) (v 21)),true),((.cmp .eql (v 22) (v 22)),true),((.cmp .eql (v 23) (v 23)),true)] [(eD 67 0,i8 (v 21)),(eD 67 1,i64 (v 22)),(eD 64 0,.bC 8),(eD 64 1,.bC 9),(eD 66 0,.bC 11),(eD 66 1,.bC 12)] [] 20 [] [3,9,10,51,52,53] [.inRegion (opsOf (iR 254)) [11,12,13,14,15,16,17,18,19,20,21,22,23,24,25,26,27,28,29],.code .ret] [.bC 3,bz 66,.bC 10,TB,.agg [.bC 11,.bC 12],.agg [.bC 8,.bC 9]] []:={}
theorem ajE:di 72 (opsOf (iR 254)) 11 [(51,TB),(52,.bC 52),(53,.bC 53)] 12 [.bC 52,.bC 53] 54:={}
noncomputable abbrev aaV:List Item:=[.inRegion (opsOf (iR 254)) [12,13,14,15,16,17,18,19,20,21,22,23,24,25,26,27,28,29],.code .ret]
theorem ajF:Pc 4 72 aaV ([(3,.bC 3),(9,bz 66),(10,.bC 10),(51,TB),(54,TB)]) [] [] [] 4 [] [9,10,56,57,58] [.inRegion (opsOf (iR 254)) [16,17,18,19,20,21,22,23,24,25,26,27,28,29],.code .ret] [bz 66,.bC 10,TB,.bC 10,.bC 3] []:={}
theorem ajG:di 72 (opsOf (iR 254)) 16 [(56,TB),(57,.bC 57),(58,.bC 58)] 13 [.bC 57,.bC 58] 59:={}
noncomputable abbrev aaW:List Item:=[.inRegion (opsOf (iR 254)) [17,18,19,20,21,22,23,24,25,26,27,28,29],.code .ret]
theorem ajH:Pc 4 72 aaW ([(9,bz 66),(10,.bC 10),(56,TB),(59,TB)]) [] [(eD 66 0,.bC 11),(eD 66 1,.bC 12)] [] 3 [] [10,61,62] [.inRegion (opsOf (iR 254)) [20,21,22,23,24,25,26,27,28,29],.code .ret] [.bC 10,TB,.agg [.bC 11,.bC 12]] []:={}
theorem ajI:di 72 (opsOf (iR 254)) 20 [(61,TB),(62,.bC 62)] 14 [.bC 62] 63:={}
noncomputable abbrev aaX:List Item:=[.inRegion (opsOf (iR 254)) [21,22,23,24,25,26,27,28,29],.code .ret]
theorem ajJ:Pc 4 72 aaX ([(10,.bC 10),(61,TB),(63,TB)]) [] [] [] 3 [] [65,66] [.inRegion (opsOf (iR 254)) [24,25,26,27,28,29],.code .ret] [TB,.bC 10] []:={}
theorem ajK:di 72 (opsOf (iR 254)) 24 [(65,TB),(66,.bC 66)] 15 [.bC 66] 67:={}
noncomputable abbrev QT:List Item:=[.inRegion (opsOf (iR 254)) [25,26,27,28,29],.code .ret]
theorem ajL:Pc 4 72 QT ([(65,TB),(67,TB)]) [] [] [] 2 [] [69] [.inRegion (opsOf (iR 254)) [27,28,29],.code .ret] [TB] []:={}
theorem ajM:di 72 (opsOf (iR 254)) 27 [(69,TB)] 7 [] 70:={}
theorem ajN:Pc 4 72 [.inRegion (opsOf (iR 254)) [28,29],.code .ret] ([(69,TB),(70,TB)]) [] [] [] 3 [] [8] [.code .ret] [TB] []:={}
end Go.Proofs.YtmobbajggkjpgaaGreat

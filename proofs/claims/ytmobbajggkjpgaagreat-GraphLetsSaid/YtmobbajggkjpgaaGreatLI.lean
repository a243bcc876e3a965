/-
  A symbolic run of the model, proved sound, and the walk of the code: a text of its parts. Conditions: none.
-/
import Derived.Test.YtmobbajggkjpgaaGreatLH
set_option linter.unusedSectionVars false
set_option maxRecDepth 100000
set_option linter.unusedVariables false
set_option linter.unusedSimpArgs false
namespace Go.Proofs.YtmobbajggkjpgaaGreat
open Go.Proofs.YtmobbajggkjpgaaGreat.SX Go.Conc
open _root_.List renaming getElem?_eq_getElem->af,mem_singleton->ah,mem_cons_self->ai,mem_cons->aj,length_append->ak,getElem?_eq_some_iff->aq,mem_of_getElem?->ay,not_mem_nil->az,length_cons->aC,length_map->aE,map_cons->aK,getElem?_map->aL,length->aP,append_nil->aQ,drop_of_length_le->aS,drop_eq_nil_iff->aU,length_nil->aZ,length_eq_zero_iff->bk,length_pos_iff->bp,length_drop->br
open _root_.Bool renaming and_eq_true->an
open _root_.Nat renaming le_refl->ax,le_trans->aA,zero_add->aG
noncomputable def Jh(l:Nat):Code:=pc (bD Tryz.f91) (pd l)
theorem Tz:bP Tryz.prog 91 [.bC 0,.bC 1,.bC 2,.bC 3] .normal=.ok ⟨91,23,c8 91 [.bC 0,.bC 1,.bC 2,.bC 3],[.code (bD Tryz.f91)],[],.run,.normal⟩:=by kernel_rfl
theorem TA:dP 91 23 8:=fun st=>by kernel_rfl
theorem aha:Pc 91 23 [.code (bD Tryz.f91)] ([(0,sA 50 53 51 52),(1,i64 (v 10)),(2,i64 (v 11)),(3,i64 (v 12))]) [] [] [] 5 [] [0,1,2,3] [.code (Jh 6),.code .ret] [sA 50 53 51 52,i64 (v 10),i64 (v 11),i64 (v 12)] []:={}
theorem ahb:Pc 91 23 [.inRegion (opsOf (Jh 6)) [],.code .ret] ([(8,.bC 8)]) [] [] [] 1 [] [8] [.code .ret] [.bC 8] []:={}
noncomputable def jv(l:Nat):Code:=pc (bD Tryz.f77) (pd l)
theorem TC:bP Tryz.prog 77 [.bC 0,.bC 1,.bC 2] .normal=.ok ⟨77,59,c8 77 [.bC 0,.bC 1,.bC 2],[.code (bD Tryz.f77)],[],.run,.normal⟩:=by kernel_rfl
theorem TD:sP 77 59 6 7:=fun st=>by kernel_rfl
theorem ahc:Pc 77 59 [.code (bD Tryz.f77)] ([(0,.bC 0),(1,i64 (v 10)),(2,i64 (v 11))]) [] [] [] 9 [] [0,1,2,11,12] [.inRegion (opsOf (jv 6)) [2,3],.code (jv 7)] [.bC 0,i64 (v 10),i64 (v 11),.bC 0,i64 (v 10)] []:={}
theorem ahd:di 59 (opsOf (jv 6)) 2 [(11,.bC 11),(12,.bC 12)] 75 [.bC 11,.bC 12] 13:={}
theorem ahe:Pc 77 59 [.inRegion (opsOf (jv 6)) [3],.code (jv 7)] ([(0,.bC 0),(1,i64 (v 10)),(2,i64 (v 11)),(13,.bC 13)]) [] [] [] 13 [] [0,1,2,8,9,10] [.code (jv 124),.code (jv 125),.code (jv 63)] [.bC 0,i64 (v 10),i64 (v 11),.bC 13,i64 (v 11),i64 (.lit 0)] []:={}
abbrev ME:List (BE×Bool):=[((.cmp .lss (.lit 0) (.tn (v 81))),true),((.cmp .geq (.lit 0) (.tn (v 81))),false)]
noncomputable abbrev Qs:List Item:=[.inRegion (opsOf (jv 124)) [],.code (jv 125),.code (jv 63)]
theorem ahf:Pc 77 59 Qs ([(0,.bC 0),(1,i64 (v 10)),(2,i64 (v 11)),(8,sA 80 83 81 82),(9,i64 (v 14)),(10,i64 (.lit 0)),(29,TB)]) ME [(⟨(.dyn 80),(.plus (.tn (v 83)) (.lit 0))⟩,i64 (v 12)),(⟨(.dyn 80),(v 83)⟩,i64 (v 12))] [] 8 [] [0,1,2,8,31,34,35] [.inRegion (opsOf (jv 250)) [5,6,7,8,9,10],.code (jv 63)] [.bC 0,i64 (v 10),i64 (v 11),sA 80 83 81 82,.bC 0,i64 (v 12),i64 (v 11)] []:={}
theorem ahg:di 59 (opsOf (jv 250)) 5 [(31,.bC 31),(34,.bC 34),(35,.bC 35)] 77 [.bC 31,.bC 34,.bC 35] 36:={}
theorem ahh:Pc 77 59 Qs ([(0,.bC 0),(1,i64 (v 10)),(2,i64 (v 11)),(8,sA 80 83 81 82),(9,i64 (v 14)),(10,i64 (.lit 0)),(29,FB)]) ME [(⟨(.dyn 80),(.plus (.tn (v 83)) (.lit 0))⟩,i64 (v 12)),(⟨(.dyn 80),(v 83)⟩,i64 (v 12))] [] 9 [] [0,1,2,8,10,39,40,43,44] [.inRegion (opsOf (jv 251)) [6,7],.code (jv 63)] [.bC 0,i64 (v 10),i64 (v 11),sA 80 83 81 82,i64 (.lit 0),.bC 0,i64 (v 10),i64 (v 12),i64 (v 11)] []:={}
theorem ahi:di 59 (opsOf (jv 251)) 6 [(39,.bC 39),(40,.bC 40),(43,.bC 43),(44,.bC 44)] 78 [.bC 39,.bC 40,i64 (.lit 0),.bC 43,.bC 44] 45:={}
abbrev O1:List (BE×Bool):=[((.cmp .lss (.lit 1) (.tn (v 81))),true),((.cmp .geq (.lit 1) (.tn (v 81))),false)]
noncomputable abbrev Qt:List Item:=[.inRegion (opsOf (jv 126)) [9,10,11,12,13,14],.code .ret]
theorem ahj:Pc 77 59 [.inRegion (opsOf (jv 250)) [6,7,8,9,10],.code (jv 63)] ([(0,.bC 0),(1,i64 (v 10)),(2,i64 (v 11)),(8,sA 80 83 81 82),(36,.tuple [i64 (v 14),i64 (v 15)])]) O1 [(⟨(.dyn 80),(.plus (.tn (v 83)) (.lit 1))⟩,i64 (v 13))] [] 17 [] [10,46,47,48,51,54] Qt [i64 (v 15),i64 (v 14),.bC 0,i64 (v 10),i64 (v 13),i64 (.op .add .i64 (v 11) (v 15))] []:={}
theorem ahk:Pc 77 59 [.inRegion (opsOf (jv 251)) [7],.code (jv 63)] ([(0,.bC 0),(1,i64 (v 10)),(2,i64 (v 11)),(8,sA 80 83 81 82),(10,i64 (.lit 0)),(45,i64 (v 14))]) O1 [(⟨(.dyn 80),(.plus (.tn (v 83)) (.lit 1))⟩,i64 (v 13))] [] 13 [] [10,46,47,48,51,54] Qt [i64 (.lit 0),i64 (v 14),.bC 0,i64 (v 10),i64 (v 13),i64 (.op .add .i64 (v 11) (.lit 0))] []:={}
theorem ahl:di 59 (opsOf (jv 126)) 9 [(47,.bC 47),(48,.bC 48),(51,.bC 51),(54,.bC 54)] 78 [.bC 47,.bC 48,i64 (.lit 1),.bC 51,.bC 54] 55:={}
theorem ahm:jO 59 (opsOf (jv 126)) 10 [] (.call {callee:=.builtin .max,args:=#[.tmp 46,.tmp 55],argTypes:=#[3,3]}) 3 (some 56):={}
theorem ahn:Pc 77 59 [.inRegion (opsOf (jv 126)) [11,12,13,14],.code .ret] ([(10,i64 (v 15)),(56,i64 (v 16))]) [] [] [] 5 [] [6,7] [.code .ret] [i64 (v 16),i64 (.op .add .i64 (v 15) (.lit 1))] []:={}
section
variable {w w0:World}{cs:List Frame}{fr:Frame}
theorem O2{Ev:Event->Prop}{E:Value->World->Prop}{a b:Int}{ts:Array TypeId}{ty:TypeId}{Q:Value->World->Prop}(hq:Q (iV (if b<a then b else a)) w):wq Tryz.prog Ev E (Builtin.min_ ts ty #[iV a,iV b]) Q w:=by simp only[Builtin.min_,iV,List.foldlM_cons,List.foldlM_nil,Builtin.min2,bF,bG];exact hq
theorem O3{Ev:Event->Prop}{E:Value->World->Prop}{a b:Int}{ts:Array TypeId}{ty:TypeId}{Q:Value->World->Prop}(hq:Q (iV (max2 a b)) w):wq Tryz.prog Ev E (Builtin.max_ ts ty #[iV a,iV b]) Q w:=by simp only[Builtin.max_,iV,List.foldlM_cons,List.foldlM_nil,Builtin.max2,bF,bG];exact hq
theorem E3{i d fn nt a b:Nat}{ops:Array Oper}{ts:Array TypeId}{ty:TypeId}{l:List Nat}{k:List Item}{lv:List (Nat×Value)}{x y:Int}(o:jO nt ops i [] (.call {callee:=.builtin .max,args:=#[.tmp a,.tmp b],argTypes:=ts}) ty (some d))(hf:FA fn nt (.inRegion ops (i::l)::k) [] .normal lv fr)(hdn:d<nt)(hx:fP a lv=some (iV x))(hy:fP b lv=some (iV y)):
  Goes (G fr cs) w fun g' w'=>∃fr',g'=G fr' cs∧w'=w∧FA fn nt (.inRegion ops l::k) [] .normal (fL d (iV (max2 x y)) lv) fr':=by
 refine(o.go (R:=fun v w'=>v=iV (max2 x y)∧w'=w) (bL [] [] []) hf hdn rfl fun tm ie x' e1 e2=>?_).mono fun g' w' hd=>?_
 ·unfold execOp;simp only[e1,resolve,bF,bG,invoke,builtin];rw[show Array.map (⟨tm,[]⟩:Act).eval #[Operand.tmp a,Operand.tmp b]=#[(⟨tm,[]⟩:Act).eval (.tmp a),(⟨tm,[]⟩:Act).eval (.tmp b)]from by simp];rw[ie a _ hx,ie b _ hy];exact O3 ⟨_,rfl,rfl,rfl⟩
 ·obtain⟨fr',v,rfl,⟨rfl,rfl⟩,F⟩:=hd;exact⟨fr',rfl,rfl,F⟩
theorem MF{i d fn nt a:Nat}{c:Int}{ops:Array Oper}{ts:Array TypeId}{ty:TypeId}{l:List Nat}{k:List Item}{lv:List (Nat×Value)}{x:Int}(o:jO nt ops i [] (.call {callee:=.builtin .min,args:=#[.tmp a,.const (.int .i64 c)],argTypes:=ts}) ty (some d))(hf:FA fn nt (.inRegion ops (i::l)::k) [] .normal lv fr)(hdn:d<nt)(hx:fP a lv=some (iV x)):
  Goes (G fr cs) w fun g' w'=>∃fr',g'=G fr' cs∧w'=w∧FA fn nt (.inRegion ops l::k) [] .normal (fL d (iV (if c<x then c else x)) lv) fr':=by
 refine(o.go (R:=fun v w'=>v=iV (if c<x then c else x)∧w'=w) (bL [] [] []) hf hdn rfl fun tm ie x' e1 e2=>?_).mono fun g' w' hd=>?_
 ·unfold execOp;simp only[e1,resolve,bF,bG,invoke,builtin];rw[show Array.map (⟨tm,[]⟩:Act).eval #[Operand.tmp a,Operand.const (.int .i64 c)]=#[(⟨tm,[]⟩:Act).eval (.tmp a),(⟨tm,[]⟩:Act).eval (.const (.int .i64 c))]from by simp];rw[ie a _ hx];exact O2 ⟨_,rfl,rfl,rfl⟩
 ·obtain⟨fr',v,rfl,⟨rfl,rfl⟩,F⟩:=hd;exact⟨fr',rfl,rfl,F⟩
theorem E4{op:Int}{i:Nat}(hr:ck op=3->i=0)(hi:i≤1000000):dS 103 #[cY op,iV i] w fun v w'=>bA w w'∧v=iV (ee op i):=by
 refine Goes.jy fun cs=>?_;refine(agC.go (bL [(1,op),(10,i)] [] []) (dV OZ rfl (cY op) (iV i)) rfl trivial trivial).trans fun g1 w1 hd=>?_;obtain⟨I,B,bT,rfl,f1,F1,_⟩:=hd;refine(agD.go (bL [] [] [(5,cY op)]) (Q:=fun v w'=>v=iV (ck op)) F1 rfl fun w' f=>n5).trans fun g2 w2 bX=>?_;obtain⟨cB,v,rfl,f2,rfl,F2⟩:=bX;have f12:=f1.trans f2;have hk:=xe op;have em:(if(1:Int)<(i:Int)then 1 else(i:Int))=if i>0 then 1 else 0:=by
  by_cases h:i>0
  ·rw[if_pos h];split<;>omega
  ·rw[if_neg h,if_neg (by omega)];omega
 unfold ee;by_cases h1:ck op=1
 ·rw[h1]at F2⊢;refine(agE.go (bL [(10,i)] [] []) F2 rfl trivial trivial).trans fun g3 w3 cn=>?_;obtain⟨I,B,cC,rfl,f3,F3,_⟩:=cn;refine(MF (x:=(i:Int)) agF F3 (by decide) rfl).trans fun g4 w4 c9=>?_;obtain⟨eg,rfl,rfl,F4⟩:=c9;rw[em]at F4;refine agG.out vr (bL [(11,(if i>0 then 1 else 0:Int))] [] []) F4 rfl trivial trivial (f12.trans f3) fun _ _ _ _=>?_;show iV (iF .add .i64 1 (if i>0 then 1 else 0:Int))=_;by_cases h:i>0
  ·simp only[if_pos h];rfl
  ·simp only[if_neg h];rfl
 by_cases h2:ck op=2
 ·rw[h2]at F2⊢;refine(agH.go (bL [(10,i)] [] []) F2 rfl trivial trivial).trans fun g3 w3 cn=>?_;obtain⟨I,B,cC,rfl,f3,F3,_⟩:=cn;refine(MF (x:=(i:Int)) agI F3 (by decide) rfl).trans fun g4 w4 c9=>?_;obtain⟨eg,rfl,rfl,F4⟩:=c9;rw[em]at F4;refine agJ.out vr (bL [(11,(if i>0 then 1 else 0:Int))] [] []) F4 rfl trivial trivial (f12.trans f3) fun _ _ _ _=>?_;show iV (iF .add .i64 2 (if i>0 then 1 else 0:Int))=_;by_cases h:i>0
  ·simp only[if_pos h];rfl
  ·simp only[if_neg h];rfl
 by_cases h3:ck op=3
 ·have:=hr h3;subst this;rw[h3]at F2⊢;exact agK.out vr (bL [] [] []) F2 rfl trivial trivial f12 fun _ _ _ _=>rfl
 ·have h4:ck op=4:=by omega
  rw[h4]at F2⊢;exact agL.out vr (bL [] [] []) F2 rfl trivial trivial f12 fun _ _ _ _=>rfl
end
noncomputable abbrev jY:Array Oper:=opsOf (Jh 6)
theorem TE:dD 23 jY 0 [] [] [(0,sA 50 53 51 52)] (sA 50 53 51 52) 9:={}
theorem TF:dD 23 jY 1 [] [] [(3,i64 (v 12))] (i64 (v 12)) 10:={}
abbrev ZV:List (BE×Bool):=[((.cmp .lss (v 12) (.tn (v 51))),true),((.cmp .leq (.lit 0) (v 12)),true)]
theorem TG:dD 23 jY 2 ZV [] [(9,sA 50 53 51 52),(10,i64 (v 12))] (.ptr (some (eB 50 53 12 4))) 11:={}
theorem TH:dD 23 jY 3 [] [] [(11,.ptr (some (eB 50 53 12 4)))] (.ptr (some (eB 50 53 12 4))) 12:={}
theorem TI:dD 23 jY 4 [] [(eB 50 53 12 4,i8 (v 2))] [(12,.ptr (some (eB 50 53 12 4)))] (i8 (v 2)) 13:={}
theorem TJ:di 23 jY 5 [(13,i8 (v 2))] 76 [i8 (v 2)] 14:={}
theorem TK:dD 23 jY 6 [] [] [(0,sA 50 53 51 52)] (sA 50 53 51 52) 15:={}
theorem TL:dD 23 jY 7 [] [] [(1,i64 (v 10))] (i64 (v 10)) 16:={}
theorem TM:dD 23 jY 8 OM [] [(15,sA 50 53 51 52),(16,i64 (v 10))] (.ptr (some (eB 50 53 10 4))) 17:={}
theorem TN:dD 23 jY 9 [] [] [(17,.ptr (some (eB 50 53 10 4)))] (.ptr (some (eB 50 53 10 4))) 18:={}
theorem O4:dD 23 jY 10 [] [(eB 50 53 10 4,i8 (v 1))] [(18,.ptr (some (eB 50 53 10 4)))] (i8 (v 1)) 19:={}
theorem O5:dD 23 jY 11 [] [] [(2,i64 (v 11))] (i64 (v 11)) 20:={}
theorem O6:di 23 jY 12 [(19,i8 (v 1)),(20,i64 (v 11))] 103 [i8 (v 1),i64 (v 11)] 21:={}
theorem O7:dD 23 jY 13 [] [] [(14,i64 (v 21)),(21,i64 (v 22))] (.bool (.cmp .lss (v 21) (v 22))) 22:={}
theorem O8:dD 23 jY 14 [] [] [(22,.bool (.cmp .lss (v 21) (v 22)))] (.bool (.cmp .lss (v 21) (v 22))) 8:={}
def GX(i:Nat):Nat:=match i with
 |0=>9|1=>10|2=>11|3=>12|4=>13|5=>14|6=>15|7=>16|8=>17|9=>18|10=>19|11=>20|12=>21|13=>22|_=>8
noncomputable abbrev zR:List (Nat×AV):=[(0,sA 50 53 51 52),(1,i64 (v 10)),(2,i64 (v 11)),(3,i64 (v 12))]
noncomputable abbrev Qu:List (AA×AV):=[(eB 50 53 10 4,i8 (v 1)),(eB 50 53 12 4,i8 (v 2))]
noncomputable abbrev Qv:List (BE×Bool):=[((.cmp .lss (v 10) (.tn (v 51))),true),((.cmp .leq (.lit 0) (v 10)),true),((.cmp .lss (v 10) (.lit 0)),false),((.cmp .geq (v 10) (.tn (v 51))),false),((.cmp .lss (v 12) (.tn (v 51))),true),((.cmp .leq (.lit 0) (v 12)),true),((.cmp .lss (v 12) (.lit 0)),false),((.cmp .geq (v 12) (.tn (v 51))),false)]
noncomputable def xT(ρ:Env)(i:Nat)(u:Value)(w:World):Prop:=match i with
 |0=>u=(sA 50 53 51 52:AV).ev ρ
 |1=>u=(i64 (v 12):AV).ev ρ
 |2=>u=(.ptr (some (eB 50 53 12 4)):AV).ev ρ
 |3=>u=(.ptr (some (eB 50 53 12 4)):AV).ev ρ
 |4=>u=(i8 (v 2):AV).ev ρ
 |5=>u=(i64 (v 21):AV).ev ρ
 |6=>u=(sA 50 53 51 52:AV).ev ρ
 |7=>u=(i64 (v 10):AV).ev ρ
 |8=>u=(.ptr (some (eB 50 53 10 4)):AV).ev ρ
 |9=>u=(.ptr (some (eB 50 53 10 4)):AV).ev ρ
 |10=>u=(i8 (v 1):AV).ev ρ
 |11=>u=(i64 (v 11):AV).ev ρ
 |12=>u=(i64 (v 22):AV).ev ρ
 |13=>u=(.bool (.cmp .lss (v 21) (v 22)):AV).ev ρ
 |_=>u=(.bool (.cmp .lss (v 21) (v 22)):AV).ev ρ
theorem E5{ρ:Env}(i:Nat)(u:Value)(w w':World)(h:xT ρ i u w)(f:bA w w'):xT ρ i u w':=by
 unfold xT at h⊢;split at h
 all_goals first|exact h
section
variable {w w0:World}{cs:List Frame}{fr:Frame}
theorem Ji{ρ:Env}{i:Nat}{k:List Item}(p11:ρ.i 11=(i:Int))(TO:ρ.i 21=ck (ρ.i 2))(TP:ρ.i 22=ee (ρ.i 1) i)(pr:ck (ρ.i 1)=3->i=0)(pi:i≤1000000)(iA:cr ρ Qv)(hmem:cw ρ w0 Qu):
  ∀i,i<15->(true)=true->∀(l:List Nat) (w:World) (fr:Frame) (lv:List (Nat×Value)),bA w0 w->FA 91 23 (.inRegion jY (i::l)::k) [] .normal lv fr->(∀x∈told ρ zR,x∈lv)->(∀p∈ja jY i,∃v,(GX p,v)∈lv∧xT ρ p v w)->
   Goes (G fr cs) w fun g' w'=>∃fr' v,g'=G fr' cs∧bA w w'∧xT ρ i v w'∧FA 91 23 (.inRegion jY l::k) [] .normal (fL (GX i) v lv) fr':=by
 intro j hi he l w fr lv f hf hb hp;have bm:∀{j:Nat} {q:Nat×Value},(told ρ zR)[j]?=some q->q∈lv:=fun h=>hb _ (ay h);rcases(by omega:j=0∨j=1∨j=2∨j=3∨j=4∨j=5∨j=6∨j=7∨j=8∨j=9∨j=10∨j=11∨j=12∨j=13∨j=14)with rfl|rfl|rfl|rfl|rfl|rfl|rfl|rfl|rfl|rfl|rfl|rfl|rfl|rfl|rfl
 ·exact TE.dc ρ hf (by decide) (cT (bm (j:=0) rfl)) trivial trivial rfl
 ·exact TF.dc ρ hf (by decide) (cT (bm (j:=3) rfl)) trivial trivial rfl
 ·obtain⟨v0,q0,e0⟩:=hp 0 (dy (by kernel_rfl));have e0:v0=(sA 50 53 51 52:AV).ev ρ:=e0;subst e0;obtain⟨v1,q1,e1⟩:=hp 1 (dy (by kernel_rfl));have e1:v1=(i64 (v 12):AV).ev ρ:=e1;subst e1;exact TG.dc ρ hf (by decide) (kX q0 q1) ⟨iA.2.2.2.2.1,iA.2.2.2.2.2.1,trivial⟩ trivial rfl
 ·obtain⟨v2,q2,e2⟩:=hp 2 (dy (by kernel_rfl));have e2:v2=(.ptr (some (eB 50 53 12 4)):AV).ev ρ:=e2;subst e2;exact TH.dc ρ hf (by decide) (cT q2) trivial trivial rfl
 ·obtain⟨v3,q3,e3⟩:=hp 3 (dy (by kernel_rfl));have e3:v3=(.ptr (some (eB 50 53 12 4)):AV).ev ρ:=e3;subst e3;exact TI.dc ρ hf (by decide) (cT q3) trivial ⟨f.cell hmem.2.1,trivial⟩ rfl
 ·obtain⟨v4,q4,e4⟩:=hp 4 (dy (by kernel_rfl));have e4:v4=(i8 (v 2):AV).ev ρ:=e4;subst e4;exact TJ.dc ρ (Q:=fun u w'=>u=(i64 (v 21)).ev ρ) hf (cT q4) (fun w' f1=>by show dS 76 #[cY (ρ.i 2)] w' _;refine n5.mono fun u w2 hd=>⟨hd.1,?_⟩;rw[hd.2,<-TO];rfl)
 ·exact TK.dc ρ hf (by decide) (cT (bm (j:=0) rfl)) trivial trivial rfl
 ·exact TL.dc ρ hf (by decide) (cT (bm (j:=1) rfl)) trivial trivial rfl
 ·obtain⟨v6,q6,e6⟩:=hp 6 (dy (by kernel_rfl));have e6:v6=(sA 50 53 51 52:AV).ev ρ:=e6;subst e6;obtain⟨v7,q7,e7⟩:=hp 7 (dy (by kernel_rfl));have e7:v7=(i64 (v 10):AV).ev ρ:=e7;subst e7;exact TM.dc ρ hf (by decide) (kX q6 q7) ⟨iA.1,iA.2.1,trivial⟩ trivial rfl
 ·obtain⟨v8,q8,e8⟩:=hp 8 (dy (by kernel_rfl));have e8:v8=(.ptr (some (eB 50 53 10 4)):AV).ev ρ:=e8;subst e8;exact TN.dc ρ hf (by decide) (cT q8) trivial trivial rfl
 ·obtain⟨v9,q9,e9⟩:=hp 9 (dy (by kernel_rfl));have e9:v9=(.ptr (some (eB 50 53 10 4)):AV).ev ρ:=e9;subst e9;exact O4.dc ρ hf (by decide) (cT q9) trivial ⟨f.cell hmem.1,trivial⟩ rfl
 ·exact O5.dc ρ hf (by decide) (cT (bm (j:=2) rfl)) trivial trivial rfl
 ·obtain⟨v10,Ez,pO⟩:=hp 10 (dy (by kernel_rfl));have pO:v10=(i8 (v 1):AV).ev ρ:=pO;subst pO;obtain⟨v11,kK,yD⟩:=hp 11 (dy (by kernel_rfl));have yD:v11=(i64 (v 11):AV).ev ρ:=yD;subst yD;exact O6.dc ρ (Q:=fun u w'=>u=(i64 (v 22)).ev ρ) hf (kX Ez kK) (fun w' f1=>by show dS 103 #[cY (ρ.i 1),iV (ρ.i 11)] w' _;rw[p11];refine(E4 pr pi).mono fun u w2 hd=>⟨hd.1,?_⟩;rw[hd.2,<-TP];rfl)
 ·obtain⟨v5,q5,e5⟩:=hp 5 (dy (by kernel_rfl));have e5:v5=(i64 (v 21):AV).ev ρ:=e5;subst e5;obtain⟨R1,rI,Ar⟩:=hp 12 (dy (by kernel_rfl));have Ar:R1=(i64 (v 22):AV).ev ρ:=Ar;subst Ar;exact O7.dc ρ hf (by decide) (kX q5 rI) trivial trivial rfl
 ·obtain⟨R3,yG,Aq⟩:=hp 13 (dy (by kernel_rfl));have Aq:R3=(.bool (.cmp .lss (v 21) (v 22)):AV).ev ρ:=Aq;subst Aq;exact O8.dc ρ hf (by decide) (cT yG) trivial trivial rfl
theorem MG{ρ:Env}{i:Nat}{k:List Item}{lv:List (Nat×Value)}(p11:ρ.i 11=(i:Int))(TO:ρ.i 21=ck (ρ.i 2))(TP:ρ.i 22=ee (ρ.i 1) i)(pr:ck (ρ.i 1)=3->i=0)(pi:i≤1000000)(iA:cr ρ Qv)(hmem:cw ρ w Qu)(hl:fT lv (told ρ zR))(hf:FA 91 23 (.code (Jh 6)::k) [] .normal lv fr):
  Goes (G fr cs) w fun g' w'=>∃fr' i_,g'=G fr' cs∧bA w w'∧FA 91 23 (.inRegion jY []::k) [] .normal i_ fr'∧(∀x∈told ρ zR,x∈i_)∧∀i,i<15->(true)=true->∃v,(GX i,v)∈i_∧xT ρ i v w':=by
 obtain⟨id,hid⟩:=gI (c:=Jh 6) (by kernel_rfl);have hf:=hf.only hl;rw[hid]at hf;refine(gH hf).trans fun g1 w1 hd=>?_;obtain⟨ls,bT,rfl,f1,hs,F1⟩:=hd;refine(ij (b:=told ρ zR) (nm:=GX) (val:=xT ρ) (early:=fun _=>true) (late:=[]) (n:=15) (w0:=w) (by kernel_rfl) (by kernel_rfl) (by kernel_rfl) (by kernel_rfl) (by kernel_rfl) (by kernel_rfl) (by kernel_rfl) List.Pairwise.nil E5 (Ji p11 TO TP pr pi iA hmem) ls [] f1 (fun i hi=>by cases hi) hs ⟨_,F1,fun x hx=>hx,fun i hi=>by cases hi⟩).mono fun g2 w2 bX=>?_;obtain⟨cB,lv,h1,h2,h3,h4,h5⟩:=bX;exact⟨cB,lv,h1,h2,h3,h4,h5⟩
end
noncomputable abbrev jZ:Array Oper:=opsOf (jv 124)
theorem TQ:dD 59 jZ 0 [] [] [(0,sA 50 53 51 52)] (sA 50 53 51 52) 15:={}
theorem TR:dD 59 jZ 1 [] [] [(8,sA 80 83 81 82)] (sA 80 83 81 82) 16:={}
abbrev MH:List (BE×Bool):=[((.cmp .lss (.lit 0) (.tn (v 81))),true)]
theorem TS:dD 59 jZ 2 MH [] [(16,sA 80 83 81 82)] (.ptr (some ⟨(.dyn 80),(v 83)⟩)) 17:={}
theorem TU:dD 59 jZ 3 [] [(⟨(.dyn 80),(v 83)⟩,i64 (v 12))] [(17,.ptr (some ⟨(.dyn 80),(v 83)⟩))] (i64 (v 12)) 18:={}
theorem TV:dD 59 jZ 4 ZV [] [(15,sA 50 53 51 52),(18,i64 (v 12))] (.ptr (some (eB 50 53 12 4))) 19:={}
theorem TW:dD 59 jZ 5 [] [] [(19,.ptr (some (eB 50 53 12 4)))] (.ptr (some (eB 50 53 12 4))) 20:={}
theorem TX:dD 59 jZ 6 [] [(eB 50 53 12 4,i8 (v 2))] [(20,.ptr (some (eB 50 53 12 4)))] (i8 (v 2)) 21:={}
theorem TY:di 59 jZ 7 [(21,i8 (v 2))] 76 [i8 (v 2)] 22:={}
theorem TZ:dD 59 jZ 8 [] [] [(0,sA 50 53 51 52)] (sA 50 53 51 52) 23:={}
theorem T0:dD 59 jZ 9 [] [] [(1,i64 (v 10))] (i64 (v 10)) 24:={}
theorem O9:dD 59 jZ 10 OM [] [(23,sA 50 53 51 52),(24,i64 (v 10))] (.ptr (some (eB 50 53 10 4))) 25:={}
theorem O_:dD 59 jZ 11 [] [] [(25,.ptr (some (eB 50 53 10 4)))] (.ptr (some (eB 50 53 10 4))) 26:={}
theorem Pa:dD 59 jZ 12 [] [(eB 50 53 10 4,i8 (v 1))] [(26,.ptr (some (eB 50 53 10 4)))] (i8 (v 1)) 27:={}
theorem Pb:di 59 jZ 13 [(27,i8 (v 1))] 76 [i8 (v 1)] 28:={}
theorem Pd:dD 59 jZ 14 [] [] [(22,i64 (v 21)),(28,i64 (v 22))] (.bool (.cmp .eql (v 21) (v 22))) 29:={}
def GY(i:Nat):Nat:=match i with
 |0=>15|1=>16|2=>17|3=>18|4=>19|5=>20|6=>21|7=>22|8=>23|9=>24|10=>25|11=>26|12=>27|13=>28|_=>29
noncomputable abbrev xU:List (Nat×AV):=[(0,sA 50 53 51 52),(1,i64 (v 10)),(8,sA 80 83 81 82),(2,i64 (v 11)),(9,i64 (v 11)),(10,i64 (.lit 0))]
noncomputable abbrev Qw:List (AA×AV):=[(⟨(.dyn 80),(.plus (.tn (v 83)) (.lit 0))⟩,i64 (v 12)),(⟨(.dyn 80),(v 83)⟩,i64 (v 12)),(eB 50 53 10 4,i8 (v 1)),(eB 50 53 12 4,i8 (v 2))]
noncomputable abbrev Qx:List (BE×Bool):=[((.cmp .lss (.lit 0) (.tn (v 81))),true),((.cmp .geq (.lit 0) (.tn (v 81))),false),((.cmp .lss (v 10) (.tn (v 51))),true),((.cmp .leq (.lit 0) (v 10)),true),((.cmp .lss (v 10) (.lit 0)),false),((.cmp .geq (v 10) (.tn (v 51))),false),((.cmp .lss (v 12) (.tn (v 51))),true),((.cmp .leq (.lit 0) (v 12)),true),((.cmp .lss (v 12) (.lit 0)),false),((.cmp .geq (v 12) (.tn (v 51))),false)]
noncomputable def xV(ρ:Env)(i:Nat)(u:Value)(w:World):Prop:=match i with
 |0=>u=(sA 50 53 51 52:AV).ev ρ
 |1=>u=(sA 80 83 81 82:AV).ev ρ
 |2=>u=(.ptr (some ⟨(.dyn 80),(v 83)⟩):AV).ev ρ
 |3=>u=(i64 (v 12):AV).ev ρ
 |4=>u=(.ptr (some (eB 50 53 12 4)):AV).ev ρ
 |5=>u=(.ptr (some (eB 50 53 12 4)):AV).ev ρ
 |6=>u=(i8 (v 2):AV).ev ρ
 |7=>u=(i64 (v 21):AV).ev ρ
 |8=>u=(sA 50 53 51 52:AV).ev ρ
 |9=>u=(i64 (v 10):AV).ev ρ
 |10=>u=(.ptr (some (eB 50 53 10 4)):AV).ev ρ
 |11=>u=(.ptr (some (eB 50 53 10 4)):AV).ev ρ
 |12=>u=(i8 (v 1):AV).ev ρ
 |13=>u=(i64 (v 22):AV).ev ρ
 |_=>u=(.bool (.cmp .eql (v 21) (v 22)):AV).ev ρ
theorem E6{ρ:Env}(i:Nat)(u:Value)(w w':World)(h:xV ρ i u w)(f:bA w w'):xV ρ i u w':=by
 unfold xV at h⊢;split at h
 all_goals first|exact h
section
variable {w w0:World}{cs:List Frame}{fr:Frame}
theorem Jj{ρ:Env}{k:List Item}(TO:ρ.i 21=ck (ρ.i 2))(TP:ρ.i 22=ck (ρ.i 1))(iA:cr ρ Qx)(hmem:cw ρ w0 Qw):
  ∀i,i<15->(true)=true->∀(l:List Nat) (w:World) (fr:Frame) (lv:List (Nat×Value)),bA w0 w->FA 77 59 (.inRegion jZ (i::l)::k) [] .normal lv fr->(∀x∈told ρ xU,x∈lv)->(∀p∈ja jZ i,∃v,(GY p,v)∈lv∧xV ρ p v w)->
   Goes (G fr cs) w fun g' w'=>∃fr' v,g'=G fr' cs∧bA w w'∧xV ρ i v w'∧FA 77 59 (.inRegion jZ l::k) [] .normal (fL (GY i) v lv) fr':=by
 intro j hi he l w fr lv f hf hb hp;have bm:∀{j:Nat} {q:Nat×Value},(told ρ xU)[j]?=some q->q∈lv:=fun h=>hb _ (ay h);rcases(by omega:j=0∨j=1∨j=2∨j=3∨j=4∨j=5∨j=6∨j=7∨j=8∨j=9∨j=10∨j=11∨j=12∨j=13∨j=14)with rfl|rfl|rfl|rfl|rfl|rfl|rfl|rfl|rfl|rfl|rfl|rfl|rfl|rfl|rfl
 ·exact TQ.dc ρ hf (by decide) (cT (bm (j:=0) rfl)) trivial trivial rfl
 ·exact TR.dc ρ hf (by decide) (cT (bm (j:=2) rfl)) trivial trivial rfl
 ·obtain⟨v1,q1,e1⟩:=hp 1 (dy (by kernel_rfl));have e1:v1=(sA 80 83 81 82:AV).ev ρ:=e1;subst e1;exact TS.dc ρ hf (by decide) (cT q1) ⟨iA.1,trivial⟩ trivial rfl
 ·obtain⟨v2,q2,e2⟩:=hp 2 (dy (by kernel_rfl));have e2:v2=(.ptr (some ⟨(.dyn 80),(v 83)⟩):AV).ev ρ:=e2;subst e2;exact TU.dc ρ hf (by decide) (cT q2) trivial ⟨f.cell hmem.2.1,trivial⟩ rfl
 ·obtain⟨v0,q0,e0⟩:=hp 0 (dy (by kernel_rfl));have e0:v0=(sA 50 53 51 52:AV).ev ρ:=e0;subst e0;obtain⟨v3,q3,e3⟩:=hp 3 (dy (by kernel_rfl));have e3:v3=(i64 (v 12):AV).ev ρ:=e3;subst e3;exact TV.dc ρ hf (by decide) (kX q0 q3) ⟨iA.2.2.2.2.2.2.1,iA.2.2.2.2.2.2.2.1,trivial⟩ trivial rfl
 ·obtain⟨v4,q4,e4⟩:=hp 4 (dy (by kernel_rfl));have e4:v4=(.ptr (some (eB 50 53 12 4)):AV).ev ρ:=e4;subst e4;exact TW.dc ρ hf (by decide) (cT q4) trivial trivial rfl
 ·obtain⟨v5,q5,e5⟩:=hp 5 (dy (by kernel_rfl));have e5:v5=(.ptr (some (eB 50 53 12 4)):AV).ev ρ:=e5;subst e5;exact TX.dc ρ hf (by decide) (cT q5) trivial ⟨f.cell hmem.2.2.2.1,trivial⟩ rfl
 ·obtain⟨v6,q6,e6⟩:=hp 6 (dy (by kernel_rfl));have e6:v6=(i8 (v 2):AV).ev ρ:=e6;subst e6;exact TY.dc ρ (Q:=fun u w'=>u=(i64 (v 21)).ev ρ) hf (cT q6) (fun w' f1=>by show dS 76 #[cY (ρ.i 2)] w' _;refine n5.mono fun u w2 hd=>⟨hd.1,?_⟩;rw[hd.2,<-TO];rfl)
 ·exact TZ.dc ρ hf (by decide) (cT (bm (j:=0) rfl)) trivial trivial rfl
 ·exact T0.dc ρ hf (by decide) (cT (bm (j:=1) rfl)) trivial trivial rfl
 ·obtain⟨v8,q8,e8⟩:=hp 8 (dy (by kernel_rfl));have e8:v8=(sA 50 53 51 52:AV).ev ρ:=e8;subst e8;obtain⟨v9,q9,e9⟩:=hp 9 (dy (by kernel_rfl));have e9:v9=(i64 (v 10):AV).ev ρ:=e9;subst e9;exact O9.dc ρ hf (by decide) (kX q8 q9) ⟨iA.2.2.1,iA.2.2.2.1,trivial⟩ trivial rfl
 ·obtain⟨v10,Ez,pO⟩:=hp 10 (dy (by kernel_rfl));have pO:v10=(.ptr (some (eB 50 53 10 4)):AV).ev ρ:=pO;subst pO;exact O_.dc ρ hf (by decide) (cT Ez) trivial trivial rfl
 ·obtain⟨v11,kK,yD⟩:=hp 11 (dy (by kernel_rfl));have yD:v11=(.ptr (some (eB 50 53 10 4)):AV).ev ρ:=yD;subst yD;exact Pa.dc ρ hf (by decide) (cT kK) trivial ⟨f.cell hmem.2.2.1,trivial⟩ rfl
 ·obtain⟨R1,rI,Ar⟩:=hp 12 (dy (by kernel_rfl));have Ar:R1=(i8 (v 1):AV).ev ρ:=Ar;subst Ar;exact Pb.dc ρ (Q:=fun u w'=>u=(i64 (v 22)).ev ρ) hf (cT rI) (fun w' f1=>by show dS 76 #[cY (ρ.i 1)] w' _;refine n5.mono fun u w2 hd=>⟨hd.1,?_⟩;rw[hd.2,<-TP];rfl)
 ·obtain⟨v7,q7,e7⟩:=hp 7 (dy (by kernel_rfl));have e7:v7=(i64 (v 21):AV).ev ρ:=e7;subst e7;obtain⟨R3,yG,Aq⟩:=hp 13 (dy (by kernel_rfl));have Aq:R3=(i64 (v 22):AV).ev ρ:=Aq;subst Aq;exact Pd.dc ρ hf (by decide) (kX q7 yG) trivial trivial rfl
theorem MI{ρ:Env}{k:List Item}{lv:List (Nat×Value)}(TO:ρ.i 21=ck (ρ.i 2))(TP:ρ.i 22=ck (ρ.i 1))(iA:cr ρ Qx)(hmem:cw ρ w Qw)(hl:fT lv (told ρ xU))(hf:FA 77 59 (.code (jv 124)::k) [] .normal lv fr):
  Goes (G fr cs) w fun g' w'=>∃fr' i_,g'=G fr' cs∧bA w w'∧FA 77 59 (.inRegion jZ []::k) [] .normal i_ fr'∧(∀x∈told ρ xU,x∈i_)∧∀i,i<15->(true)=true->∃v,(GY i,v)∈i_∧xV ρ i v w':=by
 obtain⟨id,hid⟩:=gI (c:=jv 124) (by kernel_rfl);have hf:=hf.only hl;rw[hid]at hf;refine(gH hf).trans fun g1 w1 hd=>?_;obtain⟨ls,bT,rfl,f1,hs,F1⟩:=hd;refine(ij (b:=told ρ xU) (nm:=GY) (val:=xV ρ) (early:=fun _=>true) (late:=[]) (n:=15) (w0:=w) (by kernel_rfl) (by kernel_rfl) (by kernel_rfl) (by kernel_rfl) (by kernel_rfl) (by kernel_rfl) (by kernel_rfl) List.Pairwise.nil E6 (Jj TO TP iA hmem) ls [] f1 (fun i hi=>by cases hi) hs ⟨_,F1,fun x hx=>hx,fun i hi=>by cases hi⟩).mono fun g2 w2 bX=>?_;obtain⟨cB,lv,h1,h2,h3,h4,h5⟩:=bX;exact⟨cB,lv,h1,h2,h3,h4,h5⟩
end
noncomputable abbrev OpH:List Item:=uS
theorem T1{f nt:Nat}{t:TT}{body:Code}(h:bP Tryz.prog f [.bC 0,.bC 1,.bC 2,.bC 3,.bC 4] .normal=.ok ⟨f,nt,t,[.code body],[],.run,.normal⟩)(hs:kA (⟨f,nt,t,[.code body],[],.run,.normal⟩:bR) [0,1,2,3,4]=⟨f,nt,[.code body],[],.run,.normal,[],[],[.bC 0,.bC 1,.bC 2,.bC 3,.bC 4]⟩)(x y z u r:Value):
  FA f nt [.code body] [] .normal [(0,x),(1,y),(2,z),(3,u),(4,r)] (Frame.enter Tryz.prog f #[x,y,z,u,r] .normal):=by
 let ρ:Env:=bL [] [] [(0,x),(1,y),(2,z),(3,u),(4,r)];exact Dk.of (live:=[0,1,2,3,4]) (vals:=[.bC 0,.bC 1,.bC 2,.bC 3,.bC 4]) (dA:=[]) (gS (U:=fun _=>True) h (.inl rfl) ⟨trivial,trivial,trivial,trivial,trivial,trivial⟩ (ρ:=ρ)).1 hs (.inl rfl)
theorem kF{tree:List Nd}{bY:Nat}{t:T}{rest:List Nd}(h:tree.drop bY=flat t++rest):tree[bY]?=some t.n:=by
 cases t with
 |nd n ks=>rw[flat,List.cons_append]at h;exact(dG h).1
section
variable {w w0:World}{cs:List Frame}{fr:Frame}
theorem AK{s:Value}{tree:List Nd}{bY place i:Nat}{n m:Nd}(h:cP w s tree)(hn:tree[bY]?=some n)(hm:tree[place]?=some m)(hr:ck n.op=3->i=0)(hi:i≤1000000):dS 91 #[s,iV bY,iV i,iV place] w fun v w'=>bA w w'∧v=.bool (decide (ck m.op<ee n.op i)):=by
 rcases h.ex with⟨_,rfl⟩|⟨A,o,c,rfl,hc,cL⟩
 ·cases hn
 refine Goes.jy fun cs=>?_;have l1:=(aq.1 hn).1;have l2:=(aq.1 hm).1;obtain⟨ρ,hρ⟩:∃ρ:Env,ρ=bL [(51,tree.length),(52,c),(53,o),(10,bY),(11,i),(12,place),(1,n.op),(2,m.op),(21,ck m.op),(22,ee n.op i)] [(50,A)] []:=⟨_,rfl⟩;refine(aha.go ρ (pM Tz rfl (bU A o tree.length c) (iV bY) (iV i) (iV place)) (by rw[hρ];rfl) trivial trivial).trans fun g1 w1 hd=>?_;obtain⟨I,B,bT,rfl,f1,F1,_⟩:=hd;have fI:FA 91 23 [.code (Jh 6),.code .ret] [] .normal (told ρ zR) bT:=by rw[hρ]at F1⊢;exact F1
 refine(MG (ρ:=ρ) (i:=i) (by rw[hρ];rfl) (by rw[hρ];rfl) (by rw[hρ];rfl) (by rw[hρ];exact hr) hi (cr.app (cg (i:=10) (n:=51) (I:=bY) (N:=tree.length) (by rw[hρ];rfl) (by rw[hρ];rfl) l1) (cg (i:=12) (n:=51) (I:=place) (N:=tree.length) (by rw[hρ];rfl) (by rw[hρ];rfl) l2)) ⟨by rw[hρ];exact f1.cell (cL bY n hn).c0,by rw[hρ];exact f1.cell (cL place m hm).c0,trivial⟩ rfl fI).trans fun g2 w2 bX=>?_;obtain⟨cB,zD,rfl,f2,F2,oQ,kL⟩:=bX;obtain⟨u,q,eu⟩:=kL 14 (by decide) rfl;have eu:u=(.bool (.cmp .lss (v 21) (v 22)):AV).ev ρ:=eu;subst eu;have lg:=F2.sub (i_:=[(8,(.bool (.cmp .lss (v 21) (v 22)):AV).ev ρ)]) fun x hx=>by obtain rfl:=ah.1 hx;exact q
 refine ahb.out TA (bL [] [] [(8,(.bool (.cmp .lss (v 21) (v 22)):AV).ev ρ)]) lg rfl trivial trivial (f1.trans f2) fun _ _ _ _=>?_;rw[hρ];rfl
def yL(op:Int)(i:Nat)(k:T)(d:Int):Int:=if decide (ck k.n.op<ee op i)=true then ek d 1 else d
def oD(op:Int)(i:Nat)(k:T)(d:Int):Int:=max2 (yL op i k d) (cy k (yL op i k d)).1
def xW(t:T):Prop:=∀{w:World} {s:Value} {tree:List Nd} {bY:Nat} {d:Int} {rest:List Nd},cP w s tree->tree.length≤1000000->ue t->JJ t->0≤d->d+2*(flat t).length≤100000000->tree.drop bY=flat t++rest->dS 53 #[s,iV bY,iV d] w fun v w'=>bA w w'∧v=iV (cy t d).1
def MJ(t:T):Prop:=ck t.n.op<3->∀{w:World} {s:Value} {tree:List Nd} {bY:Nat} {d:Int} {rest:List Nd},cP w s tree->tree.length≤1000000->ue t->JJ t->0≤d->d+2*(flat t).length≤100000000->tree.drop bY=flat t++rest->dS 77 #[s,iV bY,iV d] w fun v w'=>bA w w'∧v=.tuple #[iV (cy t d).1,iV (cy t d).2]
theorem MK{op:Int}{i:Nat}{k:T}{d:Int}(h0:0≤d)(hb:d≤100000000):d≤yL op i k d∧yL op i k d≤d+1:=by
 unfold yL;split
 ·rw[vq (by omega)];omega
 ·omega
theorem um{k:T}(ih:xW k){s:Value}{tree:List Nd}{bY place i:Nat}{n:Nd}{d:Int}{rest:List Nd}(h:cP w s tree)(hl:tree.length≤1000000)(hn:tree[bY]?=some n)(hr:ck n.op=3->i=0)(hi:i≤1000000)(hw:ue k)(hk:JJ k)(h0:0≤d)(hb:d+1+2*(flat k).length≤100000000)(hd:tree.drop place=flat k++rest):
  dS 78 #[s,iV bY,iV i,iV place,iV d] w fun v w'=>bA w w'∧v=iV (oD n.op i k d):=by
 refine Goes.jy fun cs=>?_;obtain⟨ρ,hρ⟩:∃ρ:Env,ρ=bL [(10,bY),(11,i),(12,place),(13,d)] [] [(0,s)]:=⟨_,rfl⟩;refine(agM.go ρ (T1 Tu rfl s (iV bY) (iV i) (iV place) (iV d)) (by rw[hρ];rfl) trivial trivial).trans fun g1 w1 oJ=>?_;obtain⟨I,B,bT,rfl,f1,F1,_⟩:=oJ;rw[hρ]at F1;refine(agN.go (bL [] [] [(11,s),(12,iV bY),(13,iV i),(14,iV place)]) (Q:=fun v w'=>v=.bool (decide (ck k.n.op<ee n.op i))) F1 rfl fun w' f=>AK (h.keep (f1.trans f)) hn (kF hd) hr hi).trans fun g2 w2 bX=>?_;obtain⟨cB,v,rfl,f2,rfl,F2⟩:=bX;have f12:=f1.trans f2;have ha:=MK (op:=n.op) (i:=i) (k:=k) h0 (by omega);have go:∀{w3:World} {cC:Frame} {a:Int},a=yL n.op i k d->bA w w3->FA 78 24 (.inRegion (opsOf (uk 14)) [4,5,6]::[.code .ret]) [] .normal [(18,iV a),(19,s),(20,iV place),(21,iV a)] cC->Goes (G cC cs) w3 (Out 78 cs w fun v w'=>v=iV (oD n.op i k d)):=fun{w3 cC a} e f3 F3=>by refine(agQ.go (bL [] [] [(19,s),(20,iV place),(21,iV a)]) (Q:=fun v w'=>v=iV (cy k a).1) F3 rfl fun w' f=>ih (h.keep (f3.trans f)) hl hw hk (by omega) (by omega) hd).trans fun g4 w4 c9=>?_;obtain⟨eg,v,rfl,f4,rfl,F4⟩:=c9;refine(E3 (x:=a) (y:=(cy k a).1) agR F4 (by decide) rfl rfl).trans fun g5 w5 d_=>?_;obtain⟨gh,rfl,rfl,F5⟩:=d_;refine agS.out Tv (bL [] [] [(23,iV (max2 a (cy k a).1))]) F5 rfl trivial trivial (f3.trans f4) fun _ _ _ _=>?_;rw[e];rfl
 cases e:decide (ck k.n.op<ee n.op i)with
 |true=>rw[e]at F2;refine(agO.go ρ F2 (by rw[hρ];rfl) trivial trivial).trans fun g3 w3 cn=>?_;obtain⟨I,B,cC,rfl,f3,F3,_⟩:=cn;rw[hρ]at F3;exact go (a:=ek d 1) (by unfold yL;rw[if_pos e]) (f12.trans f3) F3
 |false=>rw[e]at F2;refine(agP.go ρ F2 (by rw[hρ];rfl) trivial trivial).trans fun g3 w3 cn=>?_;obtain⟨I,B,cC,rfl,f3,F3,_⟩:=cn;rw[hρ]at F3;exact go (a:=d) (by unfold yL;rw[if_neg (by rw[e];decide)]) (f12.trans f3) F3
theorem GZ{op:Int}(h:ck op<3):bQ op=2:=by
 unfold ck at h
 repeat' (split at h)
 all_goals first
  |(rename_i e;subst e;rfl)
  |omega
theorem T2{n:Nd}{a b:T}{d:Int}(hr:ck n.op<3)(h0:0≤d)(hb:d≤100000000){m0 k0:Int}(hm:m0=if ck a.n.op=ck n.op then(cy a d).1 else oD n.op 0 a d)(hk:k0=if ck a.n.op=ck n.op then(cy a d).2 else 0):
  cy (.nd n [a,b]) d=(max2 m0 (oD n.op 1 b (ek d k0)),ek k0 1):=by
 have hA:=MK (op:=n.op) (i:=0) (k:=a) h0 hb;have hw0:ee n.op 0=ck n.op:=by unfold ee;rw[if_pos (by omega),if_neg (by omega)]
 rw[cy,if_neg (by omega)];rw[eU,eU,eU];dsimp only;rw[if_neg (by omega:¬(ck n.op<3∧(0:Nat)=1)),if_pos (⟨hr,rfl⟩:ck n.op<3∧0+1=1),if_neg (by omega:¬(0+1=0∧ck n.op<3∧ck b.n.op=ck n.op))];show(max2 (max2 (max2 (max2 d (cy a (yL n.op 0 a d)).1) (yL n.op 0 a d)) (cy b (yL n.op 1 b (ek d (if 0=0∧ck n.op<3∧ck a.n.op=ck n.op then(cy a (yL n.op 0 a d)).2 else 0)))).1) (yL n.op 1 b (ek d (if 0=0∧ck n.op<3∧ck a.n.op=ck n.op then(cy a (yL n.op 0 a d)).2 else 0))),ek (if 0=0∧ck n.op<3∧ck a.n.op=ck n.op then(cy a (yL n.op 0 a d)).2 else 0) 1)=_;by_cases e:ck a.n.op=ck n.op
 ·have ea:yL n.op 0 a d=d:=by
   unfold yL;rw[hw0,decide_eq_false (by omega)];rfl
  rw[if_pos e]at hm hk;rw[if_pos ⟨rfl,hr,e⟩,ea,<-hk];have hge:=Mv (t:=a) (d:=d) (by omega);have e1:max2 (max2 d (cy a d).1) d=m0:=by rw[m_,m_,hm];omega
  rw[e1];congr 1;unfold oD;simp only[m_];omega
 ·rw[if_neg e]at hm hk;rw[if_neg (fun h=>e h.2.2),<-hk];have e1:max2 (max2 d (cy a (yL n.op 0 a d)).1) (yL n.op 0 a d)=m0:=by
   rw[hm];unfold oD;simp only[m_];omega
  rw[e1];congr 1;unfold oD;simp only[m_];omega
theorem ML{n:Nd}{ks:List T}(ih:∀k∈ks,xW k∧MJ k):MJ (.nd n ks):=by
 intro hr w s tree bY d rest h hl hw hok h0 hb hd;have hr:ck n.op<3:=hr;have hkn:=(nZ (hok (.nd n ks) (by rw[kE];exact ai ..))).2 (by rw[show(T.nd n ks).n=n from rfl,GZ hr];decide);have hkn:n.kids=bQ n.op:=hkn;rw[GZ hr]at hkn;have hlen:ks.length=2:=by have:n.kids=ks.length:=hw.1;omega
 obtain⟨a,b,rfl⟩:∃a b,ks=[a,b]:=by
  match ks,hlen with
  |[a,b],_=>exact⟨a,b,rfl⟩
 obtain⟨vJ,ahp⟩:=ih a (by simp);obtain⟨ya,_⟩:=ih b (by simp);have hwa:ue a:=hw.2.1;have hwb:ue b:=hw.2.2.1;have hoa:=hok.kid a (by simp);have hob:=hok.kid b (by simp);have hn:tree[bY]?=some n:=kF hd;have MM:=(aq.1 hn).1;have oJ:tree.drop (bY+1)=flat a++(flat b++rest):=by
  have:tree.drop bY=n::(flat a++(flat b++rest)):=by rw[hd];simp[flat,bW]
  exact(dG this).2.1
 have bX:tree.drop (bY+1+(flat a).length)=flat b++rest:=by rw[<-List.drop_drop,oJ,List.drop_left]
 have hfl:(flat (.nd n [a,b])).length=1+(flat a).length+(flat b).length:=by simp only[flat,bW,aC,ak,aZ];omega
 rw[hfl]at hb;have hna:=kF oJ;have hla:=(aq.1 hna).1;have ahq:(flat a).length≤1000000:=by have:=congrArg aP oJ;rw[ak,br]at this;omega
 rcases h.ex with⟨_,e⟩|⟨A,o,c,hs,hc,cL⟩
 ·rw[e]at hn;cases hn
 refine cF fun cs=>?_;refine(ahc.go (bL [(10,bY),(11,d)] [] [(0,s)]) (w_ TC rfl s (iV bY) (iV d)) rfl trivial trivial).trans fun g1 w1 MN=>?_;obtain⟨I,B,bT,rfl,f1,F1,_⟩:=MN;refine(ahd.go (bL [] [] [(11,s),(12,iV bY)]) (Q:=fun v w'=>∃w1,bA w1 w'∧fS w' w1.heap.size v ((fU (bY+1) [a,b]).map Int.ofNat)) F1 rfl fun w' f=>(qn (h.keep (f1.trans f)) hl hw hd).mono fun v w2 hd=>⟨hd.1,w',hd.1,hd.2⟩).trans fun g2 w2 Et=>?_;obtain⟨cB,sk,rfl,f2,⟨wk,fk,T4⟩,F2⟩:=Et;have f12:=f1.trans f2;rcases T4 with⟨_,e⟩|⟨_,K,c',rfl,hK,hv⟩
 ·simp[fU]at e
 have k0:w2.cell? ⟨K,0,none⟩=some (iV (bY+1:Nat)):=cu.cR hv (n:=0) rfl;have k1:w2.cell? ⟨K,1,none⟩=some (iV (bY+1+(flat a).length:Nat)):=cu.cR hv (n:=1) rfl;refine(ahe.go (bL [(10,bY),(11,d)] [] [(0,s),(13,bU K 0 2 c')]) F2 rfl trivial trivial).trans fun g3 w3 cn=>?_;obtain⟨I,B,cC,rfl,f3,F3,_⟩:=cn;have f13:=f12.trans f3;obtain⟨ρ,hρ⟩:∃ρ:Env,ρ=bL [(51,tree.length),(52,c),(53,o),(81,(2:Nat)),(82,c'),(83,(0:Nat)),(10,bY),(11,d),(12,(bY+1:Nat)),(13,(bY+1+(flat a).length:Nat)),(14,d),(1,n.op),(2,a.n.op),(21,ck a.n.op),(22,ck n.op)] [(50,A),(80,K)] [(0,s)]:=⟨_,rfl⟩;have oT:FA 77 59 (.code (jv 124)::[.code (jv 125),.code (jv 63)]) [] .normal (told ρ xU) cC:=by
  rw[hs]at F3;rw[hρ];exact F3.sub fun x hx=>by
   simp only[told,xU,aK,List.map_nil,aj,az,or_false]at hx;rcases hx with rfl|rfl|rfl|rfl|rfl|rfl
   ·exact cD rfl
   ·exact cD rfl
   ·exact cD rfl
   ·exact cD rfl
   ·exact cD rfl
   ·exact cD rfl
 have b0:cr ρ ME:=by rw[hρ];exact⟨rfl,rfl,trivial⟩
 have b1:cr ρ O1:=by rw[hρ];exact⟨rfl,rfl,trivial⟩
 have m0:∀{w':World},bA w2 w'->cw ρ w' [(⟨(.dyn 80),(.plus (.tn (v 83)) (.lit 0))⟩,i64 (v 12)),(⟨(.dyn 80),(v 83)⟩,i64 (v 12))]:=fun f=>by rw[hρ];exact⟨f.cell k0,f.cell k0,trivial⟩
 have m1:∀{w':World},bA w2 w'->cw ρ w' [(⟨(.dyn 80),(.plus (.tn (v 83)) (.lit 1))⟩,i64 (v 13))]:=fun f=>by rw[hρ];exact⟨f.cell k1,trivial⟩
 refine(MI (ρ:=ρ) (by rw[hρ];rfl) (by rw[hρ];rfl) (cr.app b0 (cr.app (cg (i:=10) (n:=51) (I:=bY) (N:=tree.length) (by rw[hρ];rfl) (by rw[hρ];rfl) MM) (cg (i:=12) (n:=51) (I:=bY+1) (N:=tree.length) (by rw[hρ];rfl) (by rw[hρ];rfl) hla))) (cw.app (m0 f3) ⟨by rw[hρ];exact f13.cell (cL bY n hn).c0,by rw[hρ];exact f13.cell (cL (bY+1) _ hna).c0,trivial⟩) rfl oT).trans fun g4 w4 c9=>?_;obtain⟨eg,lv4,rfl,f4,F4,T5,Ct⟩:=c9;obtain⟨u,q,eu⟩:=Ct 14 (by decide) rfl;have eu:u=(.bool (.cmp .eql (v 21) (v 22)):AV).ev ρ:=eu;have eu:u=.bool (decide (ck a.n.op=ck n.op)):=by rw[eu,hρ];rfl
 subst eu;have Nz:=F4.sub (i_:=[(0,s),(1,iV bY),(2,iV d),(8,bU K 0 2 c'),(9,iV d),(10,iV 0),(29,.bool (decide (ck a.n.op=ck n.op)))]) fun x hx=>by
  simp only[aj,az,or_false]at hx;rw[hρ]at T5;rcases hx with rfl|rfl|rfl|rfl|rfl|rfl|rfl
  ·rw[hs];exact T5 _ (cD (k:=0) rfl)
  ·exact T5 _ (cD (k:=1) rfl)
  ·exact T5 _ (cD (k:=2) rfl)
  ·exact T5 _ (cD (k:=8) rfl)
  ·exact T5 _ (cD (k:=9) rfl)
  ·exact T5 _ (cD (k:=10) rfl)
  ·exact q
 have f14:=f13.trans f4;have f24:=f3.trans f4;have yZ:∀{w6:World} {dJ:Frame} {mm kk:Int},mm=(if ck a.n.op=ck n.op then(cy a d).1 else oD n.op 0 a d)->kk=(if ck a.n.op=ck n.op then(cy a d).2 else 0)->bA w w6->FA 77 59 (.inRegion (opsOf (jv 126)) [9,10,11,12,13,14]::[.code .ret]) [] .normal [(10,iV kk),(46,iV mm),(47,s),(48,iV bY),(51,iV (bY+1+(flat a).length:Nat)),(54,iV (ek d kk))] dJ->
   Goes (G dJ cs) w6 fun g' w'=>∃fr' v,g'=G fr' cs∧cV 77 fr' w' v∧bA w w'∧v=.tuple #[iV (cy (.nd n [a,b]) d).1,iV (cy (.nd n [a,b]) d).2]:=fun{w6 dJ mm kk} hm hk f6 F6=>by
  have hkk:0≤kk∧kk≤(flat a).length:=by
   rw[hk];split
   ·have:=uQ a d ahq;omega
   ·omega
  have hwd:ek d kk=d+kk:=vq (by omega);refine(ahl.go (bL [] [] [(47,s),(48,iV bY),(51,iV (bY+1+(flat a).length:Nat)),(54,iV (ek d kk))]) (Q:=fun v w'=>v=iV (oD n.op 1 b (ek d kk))) F6 rfl fun w' f=>um ya (i:=1) (h.keep (f6.trans f)) hl hn (fun h=>by omega) (by decide) hwb hob (by omega) (by omega) bX).trans fun g7 w7 lG=>?_;obtain⟨qj,v,rfl,f7,rfl,F7⟩:=lG;refine(E3 (x:=mm) (y:=oD n.op 1 b (ek d kk)) ahm F7 (by decide) rfl rfl).trans fun g8 w8 xg=>?_;obtain⟨Iu,rfl,rfl,F8⟩:=xg;refine(ahn.go (bL [(15,kk),(16,max2 mm (oD n.op 1 b (ek d kk)))] [] []) F8 rfl trivial trivial).trans fun g9 w9 xh=>?_;obtain⟨I,B,AY,rfl,f9,F9,_⟩:=xh;refine(iN TD F9 rfl rfl).mono fun g10 w10 MO=>?_;obtain⟨Pe,rfl,rfl,hL⟩:=MO;refine⟨Pe,_,rfl,hL,f6.trans (f7.trans f9),?_⟩;rw[T2 (n:=n) (a:=a) (b:=b) (show ck n.op<3 from hr) h0 (by omega) hm hk];rfl
 have zm:∀{x y:Int},ek x 0=x->True:=fun _=>trivial;by_cases e:ck a.n.op=ck n.op
 ·rw[decide_eq_true e]at Nz;refine(ahf.go ρ Nz (by rw[hρ];rfl) b0 (m0 f24)).trans fun g5 w5 d_=>?_;obtain⟨I,B,gh,rfl,f5,F5,_⟩:=d_;rw[hρ]at F5;refine(ahg.go (bL [] [] [(31,s),(34,iV (bY+1:Nat)),(35,iV d)]) (Q:=fun v w'=>v=.tuple #[iV (cy a d).1,iV (cy a d).2]) F5 rfl fun w' f=>ahp (by omega) (h.keep ((f14.trans f5).trans f)) hl hwa hoa h0 (by omega) oJ).trans fun g6 w6 dj=>?_;obtain⟨dJ,v,rfl,f6,rfl,F6⟩:=dj;obtain⟨σ,bZ⟩:∃σ:Env,σ=bL [(81,(2:Nat)),(82,c'),(83,(0:Nat)),(10,bY),(11,d),(13,(bY+1+(flat a).length:Nat)),(14,(cy a d).1),(15,(cy a d).2)] [(80,K)] [(0,s)]:=⟨_,rfl⟩;refine(ahj.go σ F6 (by rw[bZ];rfl) (by rw[bZ];exact⟨rfl,rfl,trivial⟩) ⟨by rw[bZ];exact(f24.trans (f5.trans f6)).cell k1,trivial⟩).trans fun g7 w7 lG=>?_;obtain⟨I,B,qj,rfl,f7,F7,_⟩:=lG;rw[bZ]at F7;exact yZ (mm:=(cy a d).1) (kk:=(cy a d).2) (by rw[if_pos e]) (by rw[if_pos e]) (f14.trans (f5.trans (f6.trans f7))) F7
 ·rw[decide_eq_false e]at Nz;refine(ahh.go ρ Nz (by rw[hρ];rfl) b0 (m0 f24)).trans fun g5 w5 d_=>?_;obtain⟨I,B,gh,rfl,f5,F5,_⟩:=d_;rw[hρ]at F5;refine(ahi.go (bL [] [] [(39,s),(40,iV bY),(43,iV (bY+1:Nat)),(44,iV d)]) (Q:=fun v w'=>v=iV (oD n.op 0 a d)) F5 rfl fun w' f=>um vJ (i:=0) (h.keep ((f14.trans f5).trans f)) hl hn (fun _=>rfl) (by decide) hwa hoa h0 (by omega) oJ).trans fun g6 w6 dj=>?_;obtain⟨dJ,v,rfl,f6,rfl,F6⟩:=dj;obtain⟨σ,bZ⟩:∃σ:Env,σ=bL [(81,(2:Nat)),(82,c'),(83,(0:Nat)),(10,bY),(11,d),(13,(bY+1+(flat a).length:Nat)),(14,oD n.op 0 a d)] [(80,K)] [(0,s)]:=⟨_,rfl⟩;refine(ahk.go σ F6 (by rw[bZ];rfl) (by rw[bZ];exact⟨rfl,rfl,trivial⟩) ⟨by rw[bZ];exact(f24.trans (f5.trans f6)).cell k1,trivial⟩).trans fun g7 w7 lG=>?_;obtain⟨I,B,qj,rfl,f7,F7,_⟩:=lG;rw[bZ]at F7;exact yZ (mm:=oD n.op 0 a d) (kk:=0) (by rw[if_neg e]) (by rw[if_neg e]) (f14.trans (f5.trans (f6.trans f7))) F7
theorem E7{op d:Int}{i:Nat}{k:T}{ks:List T}{most:Int}(hr:¬ck op<3):eU op d i (k::ks) most 0=eU op d (i+1) ks (max2 most (oD op i k d)) 0:=by rw[eU];rw[if_neg (show ¬(ck op<3∧i=1)from fun h=>hr h.1),if_neg (show ¬(i=0∧ck op<3∧ck k.n.op=ck op)from fun h=>hr h.2.1)];congr 1;unfold oD;show max2 (max2 most (cy k (yL op i k d)).1) (yL op i k d)=_;simp only[m_];omega
theorem G0{n:Nd}{tree:List Nd}{s:Value}{bY K c':Nat}{d:Int}{all:List T}{js:List Nat}(h:cP w0 s tree)(hl:tree.length≤1000000)(hn:tree[bY]?=some n)(hr:¬ck n.op<3)(h3:ck n.op=3->all.length≤1)(h0:0≤d)(hlen:js.length=all.length)(jD:all.length≤1000000)(hc:∀i j:Nat,js[i]?=some j->w0.cell? ⟨K,0+i,none⟩=some (iV j))(hj:∀(i j:Nat) (k:T),js[i]?=some j->all[i]?=some k->xW k∧ue k∧JJ k∧d+1+2*(flat k).length≤100000000∧∃rest,tree.drop j=flat k++rest):
  ∀(r:List T) (i:Nat) {most:Int} {w:World} {fr:Frame},all.drop i=r->i≤all.length->bA w0 w->FA 53 66 OpH [] .normal [(0,s),(1,iV bY),(2,iV d),(8,bU K 0 js.length c'),(12,iV most),(13,iV i)] fr->
  Goes (G fr cs) w (Out 53 cs w0 fun v w'=>v=iV (eU n.op d i r most 0).1)
 |[],i,most,w,fr,hr',hi,fw,hf=>by have Es:all.length≤i:=aU.1 hr';obtain⟨ρ,hρ⟩:∃ρ:Env,ρ=bL [(81,js.length),(82,c'),(83,(0:Nat)),(10,bY),(11,d),(14,most),(15,i)] [(80,K)] [(0,s)]:=⟨_,rfl⟩;refine ag8.out EW ρ hf (by rw[hρ];rfl) ⟨by rw[hρ];exact decide_eq_false (by show ¬((i:Int)<((js.length:Nat):Int));omega),trivial⟩ trivial fw fun _ _ _ _=>?_;rw[hρ,eU];rfl
 |k::r,i,most,w,fr,hr',hi,fw,hf=>by obtain⟨hk,vl,hlt⟩:=dG hr';obtain⟨j,ZW⟩:∃j,js[i]?=some j:=⟨_,af (by omega)⟩;obtain⟨o1,o2,o3,o4,rest,o5⟩:=hj i j k ZW hk;obtain⟨ρ,hρ⟩:∃ρ:Env,ρ=bL [(81,js.length),(82,c'),(83,(0:Nat)),(10,bY),(11,d),(14,most),(15,i),(16,j)] [(80,K)] [(0,s)]:=⟨_,rfl⟩;refine(ag4.go ρ hf (by rw[hρ];rfl) (cg (i:=15) (n:=81) (I:=i) (N:=js.length) (by rw[hρ];rfl) (by rw[hρ];rfl) (by omega)) ⟨by rw[hρ];exact fw.cell (hc i j ZW),trivial⟩).trans fun g1 w1 hd=>?_;obtain⟨I,B,bT,rfl,f1,F1,_⟩:=hd;rw[hρ]at F1;refine(ag5.go (bL [] [] [(55,s),(56,iV bY),(57,iV i),(61,iV j),(62,iV d)]) (Q:=fun v w'=>v=iV (oD n.op i k d)) F1 rfl fun w' f=>um o1 (h.keep ((fw.trans f1).trans f)) hl hn (fun e=>by have:=h3 e;omega) (by omega) o2 o3 h0 o4 o5).trans fun g2 w2 bX=>?_;obtain⟨cB,v,rfl,f2,rfl,F2⟩:=bX;refine(E3 (x:=most) (y:=oD n.op i k d) ag6 F2 (by decide) rfl rfl).trans fun g3 w3 cn=>?_;obtain⟨cC,rfl,rfl,F3⟩:=cn;refine(ag7.go (bL [(10,bY),(11,d),(15,i)] [] [(0,s),(8,bU K 0 js.length c'),(12,iV (max2 most (oD n.op i k d)))]) F3 rfl trivial trivial).trans fun g4 w4 c9=>?_;obtain⟨I,B,eg,rfl,f4,F4,_⟩:=c9;rw[E7 hr];refine G0 (c':=c') h hl hn hr h3 h0 hlen jD hc hj r (i+1) vl (by omega) (fw.trans (f1.trans (f2.trans f4))) ?_;rw[<-inc (i:=i) (by omega)];exact F4
theorem Pf{n:Nd}{ks:List T}(ih:∀k∈ks,xW k∧MJ k):xW (.nd n ks):=by
 intro w s tree bY d rest h hl hw hok h0 hb hd;have hn:tree[bY]?=some n:=kF hd;have MM:=(aq.1 hn).1;have oJ:tree.drop (bY+1)=bW ks++rest:=by
  have:tree.drop bY=n::(bW ks++rest):=by rw[hd];simp[flat]
  exact(dG this).2.1
 have hfl:(flat (.nd n ks)).length=1+(bW ks).length:=by rw[flat,aC];omega
 rw[hfl]at hb;have Td:=fX ks;have ahs:(bW ks).length≤1000000:=by have:=congrArg aP oJ;rw[ak,br]at this;omega
 rcases h.ex with⟨_,e⟩|⟨A,o,c,hs,hc,cL⟩
 ·rw[e]at hn;cases hn
 have iD:=cL bY n hn;refine Goes.jy fun cs=>?_;obtain⟨ρ,hρ⟩:∃ρ:Env,ρ=bL [(51,tree.length),(52,c),(53,o),(10,bY),(11,d),(1,n.op),(2,n.n),(3,n.kids),(4,n.bY)] [(50,A)] []:=⟨_,rfl⟩;refine(agT.go ρ (w_ Tw rfl s (iV bY) (iV d)) (by rw[hs,hρ];rfl) (cg (i:=10) (n:=51) (I:=bY) (N:=tree.length) (by rw[hρ];rfl) (by rw[hρ];rfl) MM) ⟨by rw[hρ];exact iD.c0,by rw[hρ];exact iD.c1,by rw[hρ];exact iD.c2,by rw[hρ];exact iD.c3,trivial⟩).trans fun g1 w1 MN=>?_;obtain⟨I,B,bT,rfl,f1,F1,bl,_⟩:=MN;rw[hρ]at F1 bl;obtain⟨X,eX⟩:∃X,B 100=X:=⟨_,rfl⟩;have C5:w1.cell? ⟨X,0,none⟩=some (cY n.op):=by rw[<-eX];exact bE bl.1.2 (i:=0) rfl
 have fI:FA 53 66 (.inRegion (opsOf (iE 14)) [2,3]::[.code (iE 15)]) [] .normal [(0,s),(1,iV bY),(2,iV d),(7,bI X),(18,s),(19,iV bY)] bT:=by rw[<-eX,hs];exact F1
 refine(agU.go (bL [] [] [(18,s),(19,iV bY)]) (Q:=fun v w'=>∃w1,bA w1 w'∧fS w' w1.heap.size v ((fU (bY+1) ks).map Int.ofNat)) fI rfl fun w' f=>(qn (h.keep (f1.trans f)) hl hw hd).mono fun v w2 hd=>⟨hd.1,w',hd.1,hd.2⟩).trans fun g2 w2 Et=>?_;obtain⟨cB,sk,rfl,f2,⟨wk,fk,T4⟩,F2⟩:=Et;refine(agV.go (bL [(10,bY),(11,d),(1,n.op)] [(64,X)] [(0,s),(20,sk)]) F2 rfl trivial ⟨f2.cell C5,trivial⟩).trans fun g3 w3 cn=>?_;obtain⟨I,B,cC,rfl,f3,F3,_⟩:=cn;refine(agW.go (bL [] [] [(22,cY n.op)]) (Q:=fun v w'=>v=iV (ck n.op)) F3 rfl fun w' f=>n5).trans fun g4 w4 c9=>?_;obtain⟨eg,v,rfl,f4,rfl,F4⟩:=c9;have f14:=f1.trans (f2.trans (f3.trans f4));have hk4:=xe n.op;have row:∀{w5:World} {gh:Frame},ck n.op<3->bA w w5->FA 53 66 (.inRegion (opsOf (iE 500)) [3,4,5,6,7,8]::[.code (iE 501),.code (iE 63)]) [] .normal [(31,s),(32,iV bY),(33,iV d)] gh->Goes (G gh cs) w5 (Out 53 cs w fun v w'=>v=iV (cy (.nd n ks) d).1):=fun{w5 gh} hr f5 F5=>by refine(agZ.go (bL [] [] [(31,s),(32,iV bY),(33,iV d)]) (Q:=fun v w'=>v=.tuple #[iV (cy (.nd n ks) d).1,iV (cy (.nd n ks) d).2]) F5 rfl fun w' f=>ML ih hr (h.keep (f5.trans f)) hl hw hok h0 (by rw[hfl];exact hb) hd).trans fun g6 w6 dj=>?_;obtain⟨dJ,v,rfl,f6,rfl,F6⟩:=dj;exact ag0.out EW (bL [(12,(cy (.nd n ks) d).1),(13,(cy (.nd n ks) d).2)] [] []) F6 rfl trivial trivial (f5.trans f6) fun _ _ _ _=>rfl
 by_cases h1:ck n.op=1
 ·rw[h1]at F4;refine(agX.go (bL [(10,bY),(11,d)] [] [(0,s),(8,sk)]) F4 rfl trivial trivial).trans fun g5 w5 d_=>?_;obtain⟨I,B,gh,rfl,f5,F5,_⟩:=d_;exact row (by omega) (f14.trans f5) F5
 by_cases h2:ck n.op=2
 ·rw[h2]at F4;refine(agY.go (bL [(10,bY),(11,d)] [] [(0,s),(8,sk)]) F4 rfl trivial trivial).trans fun g5 w5 d_=>?_;obtain⟨I,B,gh,rfl,f5,F5,_⟩:=d_;exact row (by omega) (f14.trans f5) F5
 have hr:¬ck n.op<3:=by omega
 have h3:ck n.op=3->ks.length=1:=fun e=>by
  have hop:n.op=3:=by
   unfold ck at e
   repeat' (split at e)
   all_goals first
    |(exfalso;omega)
    |assumption
  have:=(nZ (hok (.nd n ks) (by rw[kE];exact ai ..))).2 (by rw[show(T.nd n ks).n=n from rfl,hop];decide);have:n.kids=bQ n.op:=this;rw[hop]at this;have hk:n.kids=ks.length:=hw.1;rw[this]at hk;have:bQ 3=1:=rfl;omega
 have eo:(cy (.nd n ks) d).1=(eU n.op (if ks≠[]then ek d 1 else d) 0 ks (if ks≠[]then ek d 1 else d) 0).1:=by
  rw[cy];dsimp only;by_cases hk:ks≠[]
  ·rw[if_pos ⟨by omega,hk⟩,if_pos hk]
  ·rw[if_neg (fun h=>hk h.2),if_neg hk]
 rw[eo];rcases T4 with⟨rfl,pz⟩|⟨hne,K,c',rfl,hK,hv⟩
 ·have hks:ks=[]:=by
   have:=congrArg aP pz;rw[aE,fR]at this;exact bk.1 this
  have h4:ck n.op=4:=by have:=h3;rw[hks]at this;simp only[aZ]at this;omega
  rw[h4]at F4;refine(ag3.go (bL [(10,bY),(11,d)] [] [(0,s)]) F4 rfl trivial trivial).trans fun g5 w5 d_=>?_;obtain⟨I,B,gh,rfl,f5,F5,_⟩:=d_;refine ag9.out EW (bL [(10,bY),(11,d),(14,d)] [] [(0,s)]) F5 rfl trivial trivial (f14.trans f5) fun _ _ _ _=>?_;rw[hks,if_neg (by simp),eU];rfl
 ·have hks:ks≠[]:=fun e=>hne (by rw[e];rfl);rw[if_pos hks];have hwd:ek d 1=d+1:=vq (by omega);obtain⟨js,BN⟩:∃js,js=fU (bY+1) ks:=⟨_,rfl⟩;have hjl:js.length=ks.length:=by rw[BN,fR]
  rw[<-BN]at hv F4;rw[aE]at F4;have hcell:∀{w5:World},bA w4 w5->∀i j:Nat,js[i]?=some j->w5.cell? ⟨K,0+i,none⟩=some (iV j):=fun{w5} f i j hj=>by rw[aG];refine f.cell ((f3.trans f4).cell (cu.cR hv ?_));show((js.map Int.ofNat).map iV)[i]?=_;rw[aL,aL,hj];rfl
  have go:∀{w5:World} {gh:Frame},bA w4 w5->FA 53 66 OpH [] .normal [(0,s),(1,iV bY),(2,iV (ek d 1)),(8,bU K 0 js.length c'),(12,iV (ek d 1)),(13,iV (0:Nat))] gh->Goes (G gh cs) w5 (Out 53 cs w fun v w'=>v=iV (eU n.op (ek d 1) 0 ks (ek d 1) 0).1):=fun{w5 gh} f5 F5=>by
   refine(G0 (w0:=w5) (c':=c') (all:=ks) (js:=js) (h.keep (f14.trans f5)) hl hn hr (fun e=>by rw[h3 e];exact ax _) (by omega) hjl (by omega) (hcell f5) (fun i j k hj hk=>?_) ks 0 rfl (by omega) (bA.refl _) F5).mono fun g6 w6 dj=>?_
   ·have hm:=ay hk;have aq_:(flat k).length≤(bW ks).length:=by
     have:∀l:List T,k∈l->(flat k).length≤(bW l).length:=fun l=>by
      induction l with
      |nil=>intro h;cases h
      |cons a l ih=>
       intro h;rw[bW,ak];rcases aj.1 h with rfl|h
       ·omega
       ·have:=ih h;omega
     exact this ks hm
    exact⟨(ih k hm).1,oS.mem hw.2 k hm,hok.kid k hm,by rw[hwd];omega,mz oJ (BN▸hj) hk⟩
   ·obtain⟨dJ,v,h1,h2,h3,h4⟩:=dj;exact⟨dJ,v,h1,h2,f14.trans (f5.trans h3),h4⟩
  by_cases h33:ck n.op=3
  ·rw[h33]at F4;refine(ag1.go (bL [(10,bY),(11,d)] [] [(0,s),(8,bU K 0 js.length c')]) F4 rfl trivial trivial).trans fun g5 w5 d_=>?_;obtain⟨I,B,gh,rfl,f5,F5,_⟩:=d_;exact go f5 F5
  ·have h4:ck n.op=4:=by omega
   rw[h4]at F4;obtain⟨σ,bZ⟩:∃σ:Env,σ=bL [(10,bY),(11,d),(81,js.length),(82,c'),(83,(0:Nat))] [(80,K)] [(0,s)]:=⟨_,rfl⟩;refine(ag2.go σ F4 (by rw[bZ];rfl) ⟨by rw[bZ];exact decide_eq_true (by have:=bp.2 hks;show((js.length:Nat):Int)>0;omega),trivial⟩ trivial).trans fun g5 w5 d_=>?_
   obtain⟨I,B,gh,rfl,f5,F5,_⟩:=d_;rw[bZ]at F5;exact go f5 F5
end
mutual
theorem C6:∀t:T,xW t∧MJ t
 |.nd n ks=>⟨Pf (uo ks),ML (uo ks)⟩
theorem uo:∀ks:List T,∀k∈ks,xW k∧MJ k
 |[],k,h=>by cases h
 |k'::ks,k,h=>by
  rcases aj.1 h with e|h
  ·rw[e];exact C6 k'
  ·exact uo ks k h
end
noncomputable def de(l:Nat):Code:=pc (bD Tryz.f51) (pd l)
theorem MP:bP Tryz.prog 51 [.bC 0] .normal=.ok ⟨51,114,c8 51 [.bC 0],[.code (bD Tryz.f51)],[],.run,.normal⟩:=by kernel_rfl
theorem oE:dP 51 114 2:=fun st=>by kernel_rfl
theorem ZX:Pc 51 114 [.code (bD Tryz.f51)] ([(0,.bC 0)]) [] [] [] 8 [] [0,8] [.inRegion (opsOf (de 12)) [1,2,3,4],.code (de 13),.code (de 7)] [.bC 0,.bC 0] []:={}
theorem Qy:di 114 (opsOf (de 12)) 1 [(8,.bC 8)] 74 [.bC 8,i64 (.lit 0)] 9:={}
noncomputable abbrev MQ:List Item:=[.inRegion (opsOf (de 12)) [2,3,4],.code (de 13),.code (de 7)]
theorem ZY(z:Bool):Pc 51 114 MQ ([(0,cG z 50 53 51 52),(9,i64 (v 20))]) [((.cmp .neq (v 20) (dL z 51)),true)] [] [] 9 [] [2] [.code .ret,.code (de 7)] [FB] []:=by cases z<;>exact{}
noncomputable abbrev zS:List Item:=[.code (de 116),.inLoop (de 116),.inBlock 0,.code (de 15)]
theorem ahu:Pc 51 114 MQ ([(0,sA 50 53 51 52),(9,i64 (v 20))]) [((.cmp .neq (v 20) (.tn (v 51))),false)] [] [] 13 [] [0,3] zS [sA 50 53 51 52,i64 (.lit 0)] []:={}
theorem ahv:Pc 51 114 zS ([(0,sA 50 53 51 52),(3,i64 (v 10))]) (fN 10 51) Tx [] 25 [100] [0,3,4,24] [.inRegion (opsOf (de 3730)) [2,3],.code (de 3731),.inBlock 1,.code (de 467),.inLoop (de 116),.inBlock 0,.code (de 15)] [sA 50 53 51 52,i64 (v 10),bz 100,i8 (v 1)] [(100,.cells [i8 (v 1),i64 (v 2),i64 (v 3),i64 (v 4)] 77)]:={}
theorem ahw:di 114 (opsOf (de 3730)) 2 [(24,.bC 24)] 52 [.bC 24] 25:={}
noncomputable abbrev T6:List Item:=[.code (de 14925),.code (de 7463),.inBlock 1,.code (de 467),.inLoop (de 116),.inBlock 0,.code (de 15)]
theorem ahx(a b c d e f:Bool):Pc 51 114 [.inRegion (opsOf (de 3730)) [3],.code (de 3731),.inBlock 1,.code (de 467),.inLoop (de 116),.inBlock 0,.code (de 15)] ([(0,sA 50 53 51 52),(3,i64 (v 10)),(4,bz 64),(25,i64 (v 20))]) [((.cmp .eql (v 20) (.lit (-2))),a),((.cmp .geq (v 20) (.lit 0)),b),((.cmp .neq (v 3) (v 20)),c),((.cmp .eql (v 20) (.lit (-1))),d),((.cmp .lss (v 3) (.lit 1)),e),((.cmp .lss (v 4) (.lit 0)),f)] yC [] 32 [] [0,3,4,5,51] T6 [sA 50 53 51 52,i64 (v 10),bz 64,i64 (v 20),.bool (.lit (a||b&&c||d&&e||f))] []:=by cases a<;>cases b<;>cases c<;>cases d<;>cases e<;>cases f<;>exact{}
theorem ZZ:Pc 51 114 T6 ([(0,sA 50 53 51 52),(3,i64 (v 10)),(4,bz 64),(5,i64 (v 20)),(51,TB)]) [] [] [] 5 [] [2] [.code .ret,.code (de 7463),.inBlock 1,.code (de 467),.inLoop (de 116),.inBlock 0,.code (de 15)] [FB] []:={}
noncomputable abbrev T7:List Item:=[.code (de 29853),.code (de 14927),.inBlock 1,.code (de 467),.inLoop (de 116),.inBlock 0,.code (de 15)]
theorem ahy(a b c d e:Bool):Pc 51 114 T6 ([(0,sA 50 53 51 52),(3,i64 (v 10)),(4,bz 64),(5,i64 (v 20)),(51,FB)]) [((.cmp .eql (v 1) (.lit 1)),a),((.cmp .lss (v 2) (.lit 0)),b),((.cmp .neq (v 1) (.lit 1)),c),((.cmp .neq (v 1) (.lit 2)),d),((.cmp .neq (v 2) (.lit 0)),e)] yC [] 29 [] [0,3,4,5,74] T7 [sA 50 53 51 52,i64 (v 10),bz 64,i64 (v 20),.bool (.lit (a&&b||c&&d&&e))] []:=by cases a<;>cases b<;>cases c<;>cases d<;>cases e<;>exact{}
theorem Z0:Pc 51 114 T7 ([(0,sA 50 53 51 52),(3,i64 (v 10)),(4,bz 64),(5,i64 (v 20)),(74,TB)]) [] [] [] 5 [] [2] [.code .ret,.code (de 14927),.inBlock 1,.code (de 467),.inLoop (de 116),.inBlock 0,.code (de 15)] [FB] []:={}
noncomputable abbrev T8:List Item:=[.code (de 59709),.code (de 29855),.inBlock 1,.code (de 467),.inLoop (de 116),.inBlock 0,.code (de 15)]
theorem ahz(a b c:Bool):Pc 51 114 T7 ([(0,sA 50 53 51 52),(3,i64 (v 10)),(4,bz 64),(5,i64 (v 20)),(74,FB)]) [((.cmp .eql (v 1) (.lit 17)),a),((.cmp .eql (v 1) (.lit 18)),b),((.cmp .gtr (v 10) (.lit 0)),c)] yC [] 18 [] [0,3,4,5,86] T8 [sA 50 53 51 52,i64 (v 10),bz 64,i64 (v 20),.bool (.lit ((a||b)&&c))] []:=by cases a<;>cases b<;>cases c<;>exact{}
theorem Z1:Pc 51 114 T8 ([(0,sA 50 53 51 52),(3,i64 (v 10)),(4,bz 64),(5,i64 (v 20)),(86,TB)]) [] [] [] 5 [] [2] [.code .ret,.code (de 29855),.inBlock 1,.code (de 467),.inLoop (de 116),.inBlock 0,.code (de 15)] [FB] []:={}
theorem Z2:Pc 51 114 T8 ([(0,sA 50 53 51 52),(3,i64 (v 10)),(4,bz 64),(5,i64 (v 20)),(86,FB)]) [] [] [] 6 [] [0,3,4,5,87,88] [.inRegion (opsOf (de 59710)) [2,3],.code (de 59711),.inBlock 1,.code (de 467),.inLoop (de 116),.inBlock 0,.code (de 15)] [sA 50 53 51 52,i64 (v 10),bz 64,i64 (v 20),sA 50 53 51 52,i64 (v 10)] []:={}
theorem ahA:di 114 (opsOf (de 59710)) 2 [(87,.bC 87),(88,.bC 88)] 75 [.bC 87,.bC 88] 89:={}
noncomputable abbrev ve:List Item:=[.code (de 477692),.inLoop (de 477692),.inBlock 2,.inBlock 1,.code (de 467),.inLoop (de 116),.inBlock 0,.code (de 15)]
theorem ahB:Pc 51 114 [.inRegion (opsOf (de 59710)) [3],.code (de 59711),.inBlock 1,.code (de 467),.inLoop (de 116),.inBlock 0,.code (de 15)] ([(0,sA 50 53 51 52),(3,i64 (v 10)),(4,bz 64),(5,i64 (v 20)),(89,.bC 89)]) [] [] [] 8 [] [0,3,4,5,6,7] ve [sA 50 53 51 52,i64 (v 10),bz 64,i64 (v 20),.bC 89,i64 (.lit 0)] []:={}
noncomputable abbrev Z3:List Item:=[.code .ret,.inBlock 3,.code (de 1910771),.inLoop (de 477692),.inBlock 2,.inBlock 1,.code (de 467),.inLoop (de 116),.inBlock 0,.code (de 15)]
noncomputable abbrev Jk:List (AA×AV):=[(eD 64 0,i8 (v 1)),(eC 80 83 15,i64 (v 16)),(eB 50 53 16 4,i8 (v 21))]
theorem Z4:Pc 51 114 ve ([(0,sA 50 53 51 52),(3,i64 (v 10)),(4,bz 64),(5,i64 (v 20)),(6,sA 80 83 81 82),(7,i64 (v 15))]) [((.cmp .lss (v 15) (.tn (v 81))),true),((.cmp .leq (.lit 0) (v 15)),true),((.cmp .lss (v 15) (.lit 0)),false),((.cmp .geq (v 15) (.tn (v 81))),false),((.cmp .lss (v 16) (.tn (v 51))),true),((.cmp .leq (.lit 0) (v 16)),true),((.cmp .lss (v 16) (.lit 0)),false),((.cmp .geq (v 16) (.tn (v 51))),false),((.cmp .eql (v 20) (.lit (-1))),true),((.cmp .neq (v 21) (.lit 2)),true)] Jk [] 38 [] [2] Z3 [FB] []:={}
theorem Z5:Pc 51 114 ve ([(0,sA 50 53 51 52),(3,i64 (v 10)),(4,bz 64),(5,i64 (v 20)),(6,sA 80 83 81 82),(7,i64 (v 15))]) [((.cmp .lss (v 15) (.tn (v 81))),true),((.cmp .leq (.lit 0) (v 15)),true),((.cmp .lss (v 15) (.lit 0)),false),((.cmp .geq (v 15) (.tn (v 81))),false),((.cmp .lss (v 16) (.tn (v 51))),true),((.cmp .leq (.lit 0) (v 16)),true),((.cmp .lss (v 16) (.lit 0)),false),((.cmp .geq (v 16) (.tn (v 51))),false),((.cmp .eql (v 20) (.lit (-1))),true),((.cmp .neq (v 21) (.lit 2)),false)] Jk [] 42 [] [0,3,4,5,6,7] ve [sA 50 53 51 52,i64 (v 10),bz 64,i64 (v 20),sA 80 83 81 82,i64 (.op .add .i64 (v 15) (.lit 1))] []:={}
theorem Z6:Pc 51 114 ve ([(0,sA 50 53 51 52),(3,i64 (v 10)),(4,bz 64),(5,i64 (v 20)),(6,sA 80 83 81 82),(7,i64 (v 15))]) [((.cmp .lss (v 15) (.tn (v 81))),true),((.cmp .leq (.lit 0) (v 15)),true),((.cmp .lss (v 15) (.lit 0)),false),((.cmp .geq (v 15) (.tn (v 81))),false),((.cmp .lss (v 16) (.tn (v 51))),true),((.cmp .leq (.lit 0) (v 16)),true),((.cmp .lss (v 16) (.lit 0)),false),((.cmp .geq (v 16) (.tn (v 51))),false),((.cmp .eql (v 20) (.lit (-1))),false),((.cmp .eql (v 1) (.lit 18)),true),((.cmp .neq (v 21) (.lit 2)),true)] Jk [] 38 [] [2] Z3 [FB] []:={}
theorem Z7:Pc 51 114 ve ([(0,sA 50 53 51 52),(3,i64 (v 10)),(4,bz 64),(5,i64 (v 20)),(6,sA 80 83 81 82),(7,i64 (v 15))]) [((.cmp .lss (v 15) (.tn (v 81))),true),((.cmp .leq (.lit 0) (v 15)),true),((.cmp .lss (v 15) (.lit 0)),false),((.cmp .geq (v 15) (.tn (v 81))),false),((.cmp .lss (v 16) (.tn (v 51))),true),((.cmp .leq (.lit 0) (v 16)),true),((.cmp .lss (v 16) (.lit 0)),false),((.cmp .geq (v 16) (.tn (v 51))),false),((.cmp .eql (v 20) (.lit (-1))),false),((.cmp .eql (v 1) (.lit 18)),true),((.cmp .neq (v 21) (.lit 2)),false)] Jk [] 42 [] [0,3,4,5,6,7] ve [sA 50 53 51 52,i64 (v 10),bz 64,i64 (v 20),sA 80 83 81 82,i64 (.op .add .i64 (v 15) (.lit 1))] []:={}
theorem Z8:Pc 51 114 ve ([(0,sA 50 53 51 52),(3,i64 (v 10)),(4,bz 64),(5,i64 (v 20)),(6,sA 80 83 81 82),(7,i64 (v 15))]) [((.cmp .lss (v 15) (.tn (v 81))),true),((.cmp .leq (.lit 0) (v 15)),true),((.cmp .lss (v 15) (.lit 0)),false),((.cmp .geq (v 15) (.tn (v 81))),false),((.cmp .lss (v 16) (.tn (v 51))),true),((.cmp .leq (.lit 0) (v 16)),true),((.cmp .lss (v 16) (.lit 0)),false),((.cmp .geq (v 16) (.tn (v 51))),false),((.cmp .eql (v 20) (.lit (-1))),false),((.cmp .eql (v 1) (.lit 18)),false)] Jk [] 42 [] [0,3,4,5,6,7] ve [sA 50 53 51 52,i64 (v 10),bz 64,i64 (v 20),sA 80 83 81 82,i64 (.op .add .i64 (v 15) (.lit 1))] []:={}
theorem ahC:Pc 51 114 ve ([(0,sA 50 53 51 52),(3,i64 (v 10)),(4,bz 64),(5,i64 (v 20)),(6,sA 80 83 81 82),(7,i64 (v 15))]) MD [] [] 17 [] [0,3] zS [sA 50 53 51 52,i64 (.op .add .i64 (v 10) (.lit 1))] []:={}
theorem Z9:Pc 51 114 ve ([(0,sA 50 53 51 52),(3,i64 (v 10)),(4,bz 64),(5,i64 (v 20)),(6,cj),(7,i64 (.lit 0))]) [] [] [] 17 [] [0,3] zS [sA 50 53 51 52,i64 (.op .add .i64 (v 10) (.lit 1))] []:={}
theorem ahD:Pc 51 114 zS ([(0,sA 50 53 51 52),(3,i64 (v 10))]) Ce [] [] 14 [] [2] [.code .ret] [TB] []:={}
noncomputable abbrev Z_:List Item:=zS
noncomputable abbrev ShK:List Item:=ve
section
variable {w w0:World}{cs:List Frame}{fr:Frame}
theorem G1{A o c X K c' i:Nat}{tree:List Nd}{n:Nd}{js:List Nat}{ops:List Int}(cL:∀i n,tree[i]?=some n->jF w0 A (o+i*4) n)(hX:w0.cell? ⟨X,0,none⟩=some (cY n.op))(hi:i≤1000000)(hlen:js.length=ops.length)(jD:js.length≤1000000)(hc:∀i j:Nat,js[i]?=some j->w0.cell? ⟨K,0+i,none⟩=some (iV j))(hj:∀(k j:Nat) (p:Int),js[k]?=some j->ops[k]?=some p->∃m,tree[j]?=some m∧m.op=p):
  ∀(r:List Int) (k:Nat) {w:World} {fr:Frame},ops.drop k=r->k≤ops.length->bA w0 w->FA 51 114 ShK [] .normal [(0,bU A o tree.length c),(3,iV i),(4,bI X),(5,iV (bQ n.op)),(6,bU K 0 js.length c'),(7,iV k)] fr->
  Goes (G fr cs) w fun g' w'=>∃fr',g'=G fr' cs∧bA w0 w'∧(((decide (bQ n.op=-1)||decide (n.op=18))&&!(r.all fun p=>decide (p=2)))=true∧cV 51 fr' w' (.bool false)∨((decide (bQ n.op=-1)||decide (n.op=18))&&!(r.all fun p=>decide (p=2)))=false∧FA 51 114 Z_ [] .normal [(0,bU A o tree.length c),(3,iV (i+1:Nat))] fr')
 |[],k,w,fr,hr,hk,fw,hf=>by have Es:ops.length≤k:=aU.1 hr;obtain⟨ρ,hρ⟩:∃ρ:Env,ρ=bL [(51,tree.length),(52,c),(53,o),(10,i),(20,bQ n.op),(81,js.length),(82,c'),(83,(0:Nat)),(15,k)] [(50,A),(64,X),(80,K)] []:=⟨_,rfl⟩;refine(ahC.go ρ hf (by rw[hρ];rfl) ⟨by rw[hρ];exact decide_eq_false (by show ¬((k:Int)<((js.length:Nat):Int));omega),trivial⟩ trivial).mono fun g1 w1 hd=>?_;obtain⟨I,B,bT,rfl,f1,F1,_⟩:=hd;rw[hρ]at F1;refine⟨bT,rfl,fw.trans f1,.inr ⟨by simp,?_⟩⟩;rw[<-inc (i:=i) (by omega)];exact F1
 |p::r,k,w,fr,hr,hk,fw,hf=>by
  obtain⟨hp,vl,hlt⟩:=dG hr;obtain⟨j,ZW⟩:∃j,js[k]?=some j:=⟨_,af (by omega)⟩;obtain⟨m,hm,hmp⟩:=hj k j p ZW hp;have hlj:=(aq.1 hm).1;obtain⟨ρ,hρ⟩:∃ρ:Env,ρ=bL [(51,tree.length),(52,c),(53,o),(10,i),(20,bQ n.op),(81,js.length),(82,c'),(83,(0:Nat)),(15,k),(16,j),(1,n.op),(21,p)] [(50,A),(64,X),(80,K)] []:=⟨_,rfl⟩;have bb:=cr.app (cg (ρ:=ρ) (i:=15) (n:=81) (I:=k) (N:=js.length) (by rw[hρ];rfl) (by rw[hρ];rfl) (by omega)) (cg (ρ:=ρ) (i:=16) (n:=51) (I:=j) (N:=tree.length) (by rw[hρ];rfl) (by rw[hρ];rfl) hlj);have mm:cw ρ w Jk:=by rw[hρ];refine⟨fw.cell hX,fw.cell (hc k j ZW),?_,trivial⟩;rw[<-hmp];exact fw.cell (cL j m hm).c0
  have next:∀{w1:World} {bT:Frame},((decide (bQ n.op=-1)||decide (n.op=18))&&!(decide (p=2)))=false->bA w w1->FA 51 114 ShK [] .normal [(0,bU A o tree.length c),(3,iV i),(4,bI X),(5,iV (bQ n.op)),(6,bU K 0 js.length c'),(7,iV (iF .add .i64 k 1))] bT->
    Goes (G bT cs) w1 fun g' w'=>∃fr',g'=G fr' cs∧bA w0 w'∧(((decide (bQ n.op=-1)||decide (n.op=18))&&!((p::r).all fun p=>decide (p=2)))=true∧cV 51 fr' w' (.bool false)∨((decide (bQ n.op=-1)||decide (n.op=18))&&!((p::r).all fun p=>decide (p=2)))=false∧FA 51 114 Z_ [] .normal [(0,bU A o tree.length c),(3,iV (i+1:Nat))] fr'):=fun{w1 bT} hb f1 F1=>by
   have e:((decide (bQ n.op=-1)||decide (n.op=18))&&!((p::r).all fun p=>decide (p=2)))=((decide (bQ n.op=-1)||decide (n.op=18))&&!(r.all fun p=>decide (p=2))):=by
    rw[List.all_cons];generalize(decide (bQ n.op=-1)||decide (n.op=18))=x at hb⊢;generalize decide (p=2)=y at hb⊢;cases x
    ·rfl
    ·cases y
     ·cases hb
     ·rfl
   rw[e];refine G1 (c':=c') cL hX hi hlen jD hc hj r (k+1) vl (by omega) (fw.trans f1) ?_;rw[<-inc (i:=k) (by omega)];exact F1
  have bad:∀{g1:Goroutine} {w1:World},((decide (bQ n.op=-1)||decide (n.op=18))&&!(decide (p=2)))=true->Out 51 cs w0 (fun v _=>v=.bool false) g1 w1->∃fr',g1=G fr' cs∧bA w0 w1∧(((decide (bQ n.op=-1)||decide (n.op=18))&&!((p::r).all fun p=>decide (p=2)))=true∧cV 51 fr' w1 (.bool false)∨((decide (bQ n.op=-1)||decide (n.op=18))&&!((p::r).all fun p=>decide (p=2)))=false∧FA 51 114 Z_ [] .normal [(0,bU A o tree.length c),(3,iV (i+1:Nat))] fr'):=fun{g1 w1} hb hO=>by
   obtain⟨bT,v,rfl,hL,f1,rfl⟩:=hO;refine⟨bT,rfl,f1,.inl ⟨?_,hL⟩⟩;rw[List.all_cons];generalize(decide (bQ n.op=-1)||decide (n.op=18))=x at hb⊢;generalize decide (p=2)=y at hb⊢;cases x
   ·cases hb
   ·cases y
    ·rfl
    ·cases hb
  by_cases h1:bQ n.op=-1
  ·by_cases h2:p=2
   ·refine(Z5.go ρ hf (by rw[hρ];rfl) (cr.app bb ⟨by rw[hρ];exact decide_eq_true h1,by rw[hρ];show(!decide (p=2))=false;rw[decide_eq_true h2];rfl,trivial⟩) mm).trans fun g1 w1 hd=>?_;obtain⟨I,B,bT,rfl,f1,F1,_⟩:=hd;rw[hρ]at F1;exact next (by rw[decide_eq_true h2];simp) f1 F1
   ·exact(Z4.out (Q:=fun v _=>v=.bool false) oE ρ hf (by rw[hρ];rfl) (cr.app bb ⟨by rw[hρ];exact decide_eq_true h1,by rw[hρ];show(!decide (p=2))=true;rw[decide_eq_false h2];rfl,trivial⟩) mm fw fun _ _ _ _=>rfl).mono fun g1 w1 hO=>bad (by rw[decide_eq_true h1,decide_eq_false h2];rfl) hO
  ·by_cases h3:n.op=18
   ·by_cases h2:p=2
    ·refine(Z7.go ρ hf (by rw[hρ];rfl) (cr.app bb ⟨by rw[hρ];exact decide_eq_false h1,by rw[hρ];exact decide_eq_true h3,by rw[hρ];show(!decide (p=2))=false;rw[decide_eq_true h2];rfl,trivial⟩) mm).trans fun g1 w1 hd=>?_;obtain⟨I,B,bT,rfl,f1,F1,_⟩:=hd;rw[hρ]at F1;exact next (by rw[decide_eq_true h2];simp) f1 F1
    ·exact(Z6.out (Q:=fun v _=>v=.bool false) oE ρ hf (by rw[hρ];rfl) (cr.app bb ⟨by rw[hρ];exact decide_eq_false h1,by rw[hρ];exact decide_eq_true h3,by rw[hρ];show(!decide (p=2))=true;rw[decide_eq_false h2];rfl,trivial⟩) mm fw fun _ _ _ _=>rfl).mono fun g1 w1 hO=>bad (by rw[decide_eq_true h3,decide_eq_false h2];simp) hO
   ·refine(Z8.go ρ hf (by rw[hρ];rfl) (cr.app bb ⟨by rw[hρ];exact decide_eq_false h1,by rw[hρ];exact decide_eq_false h3,trivial⟩) mm).trans fun g1 w1 hd=>?_;obtain⟨I,B,bT,rfl,f1,F1,_⟩:=hd;rw[hρ]at F1;exact next (by rw[decide_eq_false h1,decide_eq_false h3];rfl) f1 F1
theorem G2{A o c:Nat}{t:T}{tree:List Nd}(hw:ue t)(ji:tree=flat t)(cL:∀i n,tree[i]?=some n->jF w0 A (o+i*4) n)(ZU:tree.length≤c)(hl:tree.length≤1000000):
  ∀(r:List T) (i:Nat) {w:World} {fr:Frame},(kE t).drop i=r->i≤tree.length->bA w0 w->FA 51 114 Z_ [] .normal [(0,bU A o tree.length c),(3,iV i)] fr->
  Goes (G fr cs) w (Out 51 cs w0 fun v w'=>v=.bool (tB i r))
 |[],i,w,fr,hr,hi,fw,hf=>by have Es:(kE t).length≤i:=aU.1 hr;rw[tD,<-ji]at Es;obtain⟨ρ,hρ⟩:∃ρ:Env,ρ=bL [(51,tree.length),(52,c),(53,o),(10,i)] [(50,A)] []:=⟨_,rfl⟩;exact ahD.out oE ρ hf (by rw[hρ];rfl) ⟨by rw[hρ];exact decide_eq_false (by show ¬((i:Int)<((tree.length:Nat):Int));omega),trivial⟩ trivial fw fun _ _ _ _=>rfl
 |s'::r,i,w,fr,hr,hi,fw,hf=>by
  obtain⟨hs,vl,hlt⟩:=dG hr;rw[tD,<-ji]at hlt;obtain⟨rest,hdr⟩:=CS t [] hs;rw[aQ,<-ji]at hdr;have hws:=GO t hw s' (ay hs);obtain⟨n,ks,rfl⟩:∃n ks,s'=.nd n ks:=by cases s' with|nd n ks=>exact⟨n,ks,rfl⟩
  have hn:tree[i]?=some n:=kF hdr;have iD:=(cL i n hn).keep fw;obtain⟨ρ,hρ⟩:∃ρ:Env,ρ=bL [(51,tree.length),(52,c),(53,o),(10,i),(1,n.op),(2,n.n),(3,n.kids),(4,n.bY)] [(50,A)] []:=⟨_,rfl⟩;refine(ahv.go ρ hf (by rw[hρ];rfl) (cg (i:=10) (n:=51) (I:=i) (N:=tree.length) (by rw[hρ];rfl) (by rw[hρ];rfl) hlt) ⟨by rw[hρ];exact iD.c0,by rw[hρ];exact iD.c1,by rw[hρ];exact iD.c2,by rw[hρ];exact iD.c3,trivial⟩).trans fun g1 w1 hd=>?_;obtain⟨I,B,bT,rfl,f1,F1,bl,_⟩:=hd;rw[hρ]at F1 bl;obtain⟨X,eX⟩:∃X,B 100=X:=⟨_,rfl⟩;have hX:(cu.obj 77 [cY n.op,iV n.n,iV n.kids,iV n.bY]).at Tryz.prog w1 X:=by rw[<-eX];exact bl.1.2
  have fI:FA 51 114 (.inRegion (opsOf (de 3730)) [2,3]::[.code (de 3731),.inBlock 1,.code (de 467),.inLoop (de 116),.inBlock 0,.code (de 15)]) [] .normal [(0,bU A o tree.length c),(3,iV i),(4,bI X),(24,cY n.op)] bT:=by rw[<-eX];exact F1
  refine(ahw.go (bL [] [] [(24,cY n.op)]) (Q:=fun v w'=>v=iV (bQ n.op)) fI rfl fun w' f=>zQ).trans fun g2 w2 bX=>?_;obtain⟨cB,v,rfl,f2,rfl,F2⟩:=bX;obtain⟨σ,bZ⟩:∃σ:Env,σ=bL [(51,tree.length),(52,c),(53,o),(10,i),(1,n.op),(2,n.n),(3,n.kids),(4,n.bY),(20,bQ n.op)] [(50,A),(64,X)] []:=⟨_,rfl⟩;have hm:∀{w':World},bA w1 w'->cw σ w' yC:=fun f=>by rw[bZ];exact⟨f.cell (bE hX (i:=0) rfl),f.cell (bE hX (i:=1) rfl),f.cell (bE hX (i:=2) rfl),f.cell (bE hX (i:=3) rfl),trivial⟩
  refine((ahx (decide (bQ n.op=-2)) (decide (bQ n.op≥0)) (!decide (n.kids=bQ n.op)) (decide (bQ n.op=-1)) (decide (n.kids<1)) (decide (n.bY<0))).go σ F2 (by rw[bZ];rfl) ⟨by rw[bZ];rfl,by rw[bZ];rfl,by rw[bZ];rfl,by rw[bZ];rfl,by rw[bZ];rfl,by rw[bZ];rfl,trivial⟩ (hm f2)).trans fun g3 w3 cn=>?_;obtain⟨I,B,cC,rfl,f3,F3,_⟩:=cn;rw[bZ]at F3;have Ay:=fw.trans (f1.trans (f2.trans f3));have f13:=f2.trans f3;have hI:tB i (.nd n ks::r)=(mP (decide (i=0)) (.nd n ks)&&tB (i+1) r):=rfl;rw[hI];have hB:mP (decide (i=0)) (.nd n ks)=(!(decide (bQ n.op=-2)||decide (bQ n.op≥0)&&(!decide (n.kids=bQ n.op))||decide (bQ n.op=-1)&&decide (n.kids<1)||decide (n.bY<0))&&(!(decide (n.op=1)&&decide (n.n<0)||(!decide (n.op=1))&&(!decide (n.op=2))&&(!decide (n.n=0)))&&(!((decide (n.op=17)||decide (n.op=18))&&decide ((i:Int)>0))&&!((decide (bQ n.op=-1)||decide (n.op=18))&&!((ks.map fun k=>k.n.op).all fun p=>decide (p=2)))))):=by
   unfold mP vb;show(((!(_||(_||_)||_))&&_)&&_&&_)=_;have e0:decide ((i:Int)>0)=!decide (i=0):=by
    by_cases h:i=0
    ·rw[decide_eq_true h,decide_eq_false (by omega)];rfl
    ·rw[decide_eq_false h,decide_eq_true (by omega)];rfl
   rw[e0,List.all_map];show _=(_&&(_&&(_&&!(_&&!(ks.all fun k=>decide (k.n.op=2))))));rw[show(T.nd n ks).n=n from rfl,show(T.nd n ks).ks=ks from rfl];generalize decide (bQ n.op=-2)=a1;generalize(decide (bQ n.op≥0)&&!decide (n.kids=bQ n.op))=a2;generalize(decide (bQ n.op=-1)&&decide (n.kids<1))=a3;generalize decide (n.bY<0)=a4;generalize(decide (n.op=1)&&decide (n.n<0)||(!decide (n.op=1))&&(!decide (n.op=2))&&(!decide (n.n=0)))=a5;generalize(ks.all fun k=>decide (k.n.op=2))=a6;generalize decide (i=0)=a7;generalize(decide (bQ n.op=-1)||decide (n.op=18))=a8;generalize(decide (n.op=17)||decide (n.op=18))=a9;cases a1<;>cases a2<;>cases a3<;>cases a4<;>cases a5<;>cases a6<;>cases a7<;>cases a8<;>cases a9<;>rfl
  rw[hB];cases e6:(decide (bQ n.op=-2)||decide (bQ n.op≥0)&&(!decide (n.kids=bQ n.op))||decide (bQ n.op=-1)&&decide (n.kids<1)||decide (n.bY<0))with
  |true=>rw[e6]at F3;exact ZZ.out oE σ F3 (by rw[bZ];rfl) trivial trivial Ay fun _ _ _ _=>rfl
  |false=>
  rw[e6]at F3;refine((ahy (decide (n.op=1)) (decide (n.n<0)) (!decide (n.op=1)) (!decide (n.op=2)) (!decide (n.n=0))).go σ F3 (by rw[bZ];rfl) ⟨by rw[bZ];rfl,by rw[bZ];rfl,by rw[bZ];rfl,by rw[bZ];rfl,by rw[bZ];rfl,trivial⟩ (hm f13)).trans fun g4 w4 c9=>?_;obtain⟨I,B,eg,rfl,f4,F4,_⟩:=c9;rw[bZ]at F4;have f14:=f13.trans f4;cases e7:(decide (n.op=1)&&decide (n.n<0)||(!decide (n.op=1))&&(!decide (n.op=2))&&(!decide (n.n=0)))with
  |true=>rw[e7]at F4;exact Z0.out oE σ F4 (by rw[bZ];rfl) trivial trivial (Ay.trans f4) fun _ _ _ _=>rfl
  |false=>
  rw[e7]at F4;refine((ahz (decide (n.op=17)) (decide (n.op=18)) (decide ((i:Int)>0))).go σ F4 (by rw[bZ];rfl) ⟨by rw[bZ];rfl,by rw[bZ];rfl,by rw[bZ];rfl,trivial⟩ (hm f14)).trans fun g5 w5 d_=>?_;obtain⟨I,B,gh,rfl,f5,F5,_⟩:=d_;rw[bZ]at F5;have f15:=f14.trans f5;have G3:=Ay.trans (f4.trans f5);cases e8:((decide (n.op=17)||decide (n.op=18))&&decide ((i:Int)>0))with
  |true=>rw[e8]at F5;exact Z1.out oE σ F5 (by rw[bZ];rfl) trivial trivial G3 fun _ _ _ _=>rfl
  |false=>
  rw[e8]at F5;refine(Z2.go σ F5 (by rw[bZ];rfl) trivial trivial).trans fun g6 w6 dj=>?_;obtain⟨I,B,dJ,rfl,f6,F6,_⟩:=dj;rw[bZ]at F6;have G4:=G3.trans f6;refine(ahA.go (bL [] [] [(87,bU A o tree.length c),(88,iV i)]) (Q:=fun v w'=>∃w1,bA w1 w'∧fS w' w1.heap.size v ((fU (i+1) ks).map Int.ofNat)) F6 rfl fun w' f=>(qn (s:=bU A o tree.length c) (tree:=tree) ⟨.inr ⟨A,o,c,rfl,ZU,fun i n hi=>(cL i n hi).keep (G4.trans f)⟩⟩ hl hws hdr).mono fun v w2 hd=>⟨hd.1,w',hd.1,hd.2⟩).trans fun g7 w7 lG=>?_;obtain⟨qj,sk,rfl,f7,⟨wk,fk,T4⟩,F7⟩:=lG;refine(ahB.go (bL [(51,tree.length),(52,c),(53,o),(10,i),(20,bQ n.op)] [(50,A),(64,X)] [(89,sk)]) F7 rfl trivial trivial).trans fun g8 w8 xg=>?_;obtain⟨I,B,Iu,rfl,f8,F8,_⟩:=xg;have Pg:=G4.trans (f7.trans f8);have next:∀{w9:World} {AY:Frame},bA w0 w9->FA 51 114 Z_ [] .normal [(0,bU A o tree.length c),(3,iV (i+1:Nat))] AY->Goes (G AY cs) w9 (Out 51 cs w0 fun v w'=>v=.bool (tB (i+1) r)):=fun{w9 AY} f9 F9=>G2 hw ji cL ZU hl r (i+1) vl (by omega) f9 F9;rcases T4 with⟨rfl,pz⟩|⟨hne,K,c',rfl,hK,hv⟩
  ·have hks:ks=[]:=by
    have:=congrArg aP pz;rw[aE,fR]at this;exact bk.1 this
   refine(Z9.go (bL [(51,tree.length),(52,c),(53,o),(10,i),(20,bQ n.op)] [(50,A),(64,X)] []) F8 rfl trivial trivial).trans fun g9 w9 xh=>?_;obtain⟨I,B,AY,rfl,f9,F9,_⟩:=xh;refine(next (Pg.trans f9) (by rw[<-inc (i:=i) (by omega)];exact F9)).mono fun g' w' hO=>?_;obtain⟨fr',v,h1,h2,h3,h4⟩:=hO;refine⟨fr',v,h1,h2,h3,?_⟩;rw[h4,hks];simp
  ·obtain⟨js,BN⟩:∃js,js=fU (i+1) ks:=⟨_,rfl⟩;have hjl:js.length=ks.length:=by rw[BN,fR]
   rw[<-BN]at hv F8;rw[aE]at F8;have aaa:tree.drop (i+1)=bW ks++rest:=by
    have:tree.drop i=n::(bW ks++rest):=by rw[hdr];simp[flat]
    exact(dG this).2.1
   have Td:=fX ks;have hle:(bW ks).length≤tree.length:=by have:=congrArg aP aaa;rw[ak,br]at this;omega
   refine(G1 (w0:=w8) (c':=c') (K:=K) (X:=X) (n:=n) (js:=js) (ops:=ks.map fun k=>k.n.op) (fun i n hi=>(cL i n hi).keep Pg) ((f15.trans (f6.trans (f7.trans f8))).cell (bE hX (i:=0) rfl)) (by omega) (by rw[aE,hjl]) (by omega) (fun a b hab=>?_) (fun a b p ha hp=>?_) (ks.map fun k=>k.n.op) 0 rfl (by omega) (bA.refl _) F8).trans fun g9 w9 xh=>?_
   ·rw[aG];refine f8.cell (cu.cR hv ?_);show((js.map Int.ofNat).map iV)[a]?=_;rw[aL,aL,hab];rfl
   ·rw[aL]at hp;obtain⟨k,hk,rfl⟩:=Option.map_eq_some_iff.1 hp;obtain⟨rest',hr'⟩:=mz aaa (BN▸ha) hk;exact⟨k.n,kF hr',rfl⟩
   ·obtain⟨AY,rfl,f9,⟨hb,hL⟩|⟨hb,F9⟩⟩:=xh
    ·refine .here ⟨AY,_,rfl,hL,Pg.trans f9,?_⟩;rw[hb];rfl
    ·refine(next (Pg.trans f9) F9).mono fun g' w' hO=>?_;obtain⟨fr',v,h1,h2,h3,h4⟩:=hO;refine⟨fr',v,h1,h2,h3,?_⟩;rw[h4,hb];rfl
theorem C7{s:Value}{tree:List Nd}(h:cP w s tree)(hl:tree.length≤1000000):dS 51 #[s] w fun v w'=>bA w w'∧v=.bool (iq tree):=by
 refine Goes.jy fun cs=>?_;refine(ZX.go (bL [] [] [(0,s)]) (cz MP rfl s) rfl trivial trivial).trans fun g1 w1 hd=>?_;obtain⟨I,B,bT,rfl,f1,F1,_⟩:=hd;refine(Qy.go (bL [] [] [(8,s)]) (Q:=fun v w'=>v=iV (qu tree 0 1)) F1 rfl fun w' f=>uT (i:=0) (h.keep (f1.trans f)) hl (Nat.zero_le _)).trans fun g2 w2 bX=>?_;obtain⟨cB,v,rfl,f2,rfl,F2⟩:=bX;have f12:=f1.trans f2;rcases h.ex with⟨rfl,rfl⟩|⟨A,o,c,rfl,hc,cL⟩
 ·exact(ZY true).out oE (bL [(20,-1)] [] []) F2 rfl ⟨rfl,trivial⟩ trivial f12 fun _ _ _ _=>rfl
 ·obtain⟨ρ,hρ⟩:∃ρ:Env,ρ=bL [(51,tree.length),(52,c),(53,o),(20,qu tree 0 1)] [(50,A)] []:=⟨_,rfl⟩;have hbe:qu tree 0 1=tree.length↔pW tree.length 1 tree=some []:=by
   unfold qu;rw[List.drop_zero];cases e:pW tree.length 1 tree with
   |none=>simp
   |some r=>
    dsimp only;constructor
    ·intro h;have:r.length=0:=by omega
     rw[bk.1 this]
    ·intro h;cases h;simp
  by_cases hb:pW tree.length 1 tree=some []
  ·obtain⟨t,hw,ht⟩:=CR hb;refine(ahu.go ρ F2 (by rw[hρ];rfl) ⟨by rw[hρ];show(!decide (qu tree 0 1=((tree.length:Nat):Int)))=false;rw[decide_eq_true (hbe.2 hb)];rfl,trivial⟩ trivial).trans fun g3 w3 cn=>?_;obtain⟨I,B,cC,rfl,f3,F3,_⟩:=cn;rw[hρ]at F3;rw[show iq tree=tB 0 (kE t) by rw[ht];exact Jb hw];exact G2 hw ht cL hc hl (kE t) 0 rfl (by omega) (f12.trans f3) F3
  ·rw[ES hb];exact(ZY false).out oE ρ F2 (by rw[hρ];rfl) ⟨by rw[hρ];show(!decide (qu tree 0 1=((tree.length:Nat):Int)))=true;rw[decide_eq_false fun h=>hb (hbe.1 h)];rfl,trivial⟩ trivial f12 fun _ _ _ _=>rfl
end
noncomputable def cm(l:Nat):Code:=pc (bD Tryz.f29) (pd l)
theorem T9:bP Tryz.prog 29 [.bC 0] .normal=.ok ⟨29,147,c8 29 [.bC 0],[.code (bD Tryz.f29)],[],.run,.normal⟩:=by kernel_rfl
theorem E8:sP 29 147 2 3:=fun st=>by kernel_rfl
noncomputable abbrev C8:List Item:=[.code (cm 52),.inLoop (cm 52),.inBlock 0,.code (cm 7)]
theorem ahE(z:Bool):Pc 29 147 [.code (bD Tryz.f29)] ([(0,.agg [cG z 50 53 51 52,.bC 9])]) [] [] [] 13 [100] [1,4] C8 [bz 100,i64 (.lit 0)] [(100,.cells [cG z 50 53 51 52,.bC 9] 25)]:=by cases z<;>exact{}
noncomputable abbrev Ph:List (AA×AV):=[(eD 64 0,sA 50 53 51 52),(eB 50 53 10 3,ss 1),(eA 50 53 10 3 1,.bC 7),(eA 50 53 10 3 2,i64 (v 9))]
theorem ahF:Pc 29 147 C8 ([(1,bz 64),(4,i64 (v 10))]) (fN 10 51) Ph [] 21 [100] [1,4,5,20] [.inRegion (opsOf (cm 840)) [6],.code (cm 841),.inBlock 1,.code (cm 211),.inLoop (cm 52),.inBlock 0,.code (cm 7)] [bz 64,i64 (v 10),bz 100,.agg [ss 1,.bC 7,i64 (v 9)]] [(100,.cells [.str ⟨#[]⟩,cj,i64 (.lit 0)] 50)]:={}
theorem aab:jO 147 (opsOf (cm 840)) 6 [] (.store 50 (.tmp 5) (.tmp 20)) 0 none:={}
noncomputable abbrev aac:List Item:=[.inRegion (opsOf (cm 840)) [],.code (cm 841),.inBlock 1,.code (cm 211),.inLoop (cm 52),.inBlock 0,.code (cm 7)]
theorem ahG:Pc 29 147 aac ([(1,bz 64),(4,i64 (v 10)),(5,bz 65)]) Ll [] [] 14 [] [2,3] [.code .ret,.code (cm 1683),.inBlock 1,.code (cm 211),.inLoop (cm 52),.inBlock 0,.code (cm 7)] [i64 (.lit 34),i64 (v 10)] []:={}
theorem aad:Pc 29 147 aac ([(1,bz 64),(4,i64 (v 10)),(5,bz 65)]) [((.cmp .geq (v 10) (.lit 4096)),false)] [(eD 65 0,ss 1)] [] 14 [] [1,4,5,25] [.inRegion (opsOf (cm 6732)) [2,3,4,5,6,7,8,9,10,11],.code (cm 6733),.code (cm 3367),.inBlock 1,.code (cm 211),.inLoop (cm 52),.inBlock 0,.code (cm 7)] [bz 64,i64 (v 10),bz 65,ss 1] []:={}
theorem ahH:di 147 (opsOf (cm 6732)) 2 [(25,.bC 25)] 49 [.bC 25] 26:={}
noncomputable abbrev kz7:List Item:=[.inRegion (opsOf (cm 6732)) [3,4,5,6,7,8,9,10,11],.code (cm 6733),.code (cm 3367),.inBlock 1,.code (cm 211),.inLoop (cm 52),.inBlock 0,.code (cm 7)]
noncomputable abbrev aae:List Item:=[.code .ret,.code (cm 3367),.inBlock 1,.code (cm 211),.inLoop (cm 52),.inBlock 0,.code (cm 7)]
theorem ahI:Pc 29 147 kz7 ([(1,bz 64),(4,i64 (v 10)),(5,bz 65),(26,FB)]) [] [] [] 17 [] [2,3] aae [i64 (.lit 43),i64 (v 10)] []:={}
theorem ahJ:Pc 29 147 kz7 ([(1,bz 64),(4,i64 (v 10)),(5,bz 65),(26,TB)]) [] [(eD 64 0,.bC 8),(eD 64 1,.bC 9),(eD 65 0,ss 1)] [] 5 [] [1,4,5,28,29,31] [.inRegion (opsOf (cm 6732)) [8,9,10,11],.code (cm 6733),.code (cm 3367),.inBlock 1,.code (cm 211),.inLoop (cm 52),.inBlock 0,.code (cm 7)] [bz 64,i64 (v 10),bz 65,FB,.agg [.bC 8,.bC 9],ss 1] []:={}
theorem ahK:di 147 (opsOf (cm 6732)) 8 [(28,FB),(29,.bC 29),(31,.bC 31)] 50 [.bC 29,.bC 31] 32:={}
noncomputable abbrev T_:List Item:=[.inRegion (opsOf (cm 6732)) [9,10,11],.code (cm 6733),.code (cm 3367),.inBlock 1,.code (cm 211),.inLoop (cm 52),.inBlock 0,.code (cm 7)]
theorem ahL:Pc 29 147 T_ ([(1,bz 64),(4,i64 (v 10)),(5,bz 65),(28,FB),(32,i64 (v 20))]) [((.cmp .lss (v 20) (v 10)),true)] [] [] 11 [] [2,3] aae [i64 (.lit 43),i64 (v 10)] []:={}
noncomputable abbrev aaf:List Item:=[.code .ret,.code (cm 6735),.inBlock 1,.code (cm 211),.inLoop (cm 52),.inBlock 0,.code (cm 7)]
theorem ahM:Pc 29 147 T_ ([(1,bz 64),(4,i64 (v 10)),(5,bz 65),(28,FB),(32,i64 (v 20))]) [((.cmp .lss (v 20) (v 10)),false),((.cmp .lss (v 9) (.lit 0)),true)] [(eD 65 2,i64 (v 9))] [] 26 [] [2,3] aaf [i64 (.lit 1),i64 (v 10)] []:={}
theorem ahN:Pc 29 147 T_ ([(1,bz 64),(4,i64 (v 10)),(5,bz 65),(28,FB),(32,i64 (v 20))]) [((.cmp .lss (v 20) (v 10)),false),((.cmp .lss (v 9) (.lit 0)),false)] [(eD 65 1,.bC 7),(eD 65 2,i64 (v 9))] [] 15 [] [1,4,5,40,42] [.inRegion (opsOf (cm 13468)) [6,7,8],.code (cm 13469),.code (cm 6735),.inBlock 1,.code (cm 211),.inLoop (cm 52),.inBlock 0,.code (cm 7)] [bz 64,i64 (v 10),bz 65,FB,.bC 7] []:={}
theorem ahO:di 147 (opsOf (cm 13468)) 6 [(40,FB),(42,.bC 42)] 51 [.bC 42] 43:={}
noncomputable abbrev aag:List Item:=[.inRegion (opsOf (cm 13468)) [7,8],.code (cm 13469),.code (cm 6735),.inBlock 1,.code (cm 211),.inLoop (cm 52),.inBlock 0,.code (cm 7)]
theorem ahP:Pc 29 147 aag ([(1,bz 64),(4,i64 (v 10)),(5,bz 65),(40,FB),(43,FB)]) [] [] [] 10 [] [2,3] aaf [i64 (.lit 1),i64 (v 10)] []:={}
noncomputable abbrev Jl:List Item:=[.code (cm 107764),.inLoop (cm 107764),.inBlock 2,.code (cm 13471),.inBlock 1,.code (cm 211),.inLoop (cm 52),.inBlock 0,.code (cm 7)]
theorem ahQ:Pc 29 147 aag ([(1,bz 64),(4,i64 (v 10)),(5,bz 65),(40,FB),(43,TB)]) [] [] [] 12 [] [1,4,5,6] Jl [bz 64,i64 (v 10),bz 65,i64 (.lit 0)] []:={}
theorem ahR:Pc 29 147 Jl ([(1,bz 64),(4,i64 (v 10)),(5,bz 65),(6,i64 (v 15))]) (fN 15 51) [(eD 65 1,sA 50 53 51 52),(eB 50 53 15 4,i8 (v 1))] [] 21 [] [1,4,5,6,59] [.inRegion (opsOf (cm 1724232)) [6,7,8,9,10,11,12,13,14,15,16],.code (cm 1724233),.inBlock 3,.code (cm 431059),.inLoop (cm 107764),.inBlock 2,.code (cm 13471),.inBlock 1,.code (cm 211),.inLoop (cm 52),.inBlock 0,.code (cm 7)] [bz 64,i64 (v 10),bz 65,i64 (v 15),i8 (v 1)] []:={}
theorem ahS:di 147 (opsOf (cm 1724232)) 6 [(59,.bC 59)] 52 [.bC 59] 60:={}
noncomputable abbrev kz4:List Item:=[.inRegion (opsOf (cm 1724232)) [7,8,9,10,11,12,13,14,15,16],.code (cm 1724233),.inBlock 3,.code (cm 431059),.inLoop (cm 107764),.inBlock 2,.code (cm 13471),.inBlock 1,.code (cm 211),.inLoop (cm 52),.inBlock 0,.code (cm 7)]
theorem ahU:Pc 29 147 kz4 ([(1,bz 64),(4,i64 (v 10)),(5,bz 65),(6,i64 (v 15)),(60,i64 (v 20))]) [((.cmp .eql (v 20) (.lit (-1))),false)] [] [] 20 [] [1,4,5,6] Jl [bz 64,i64 (v 10),bz 65,i64 (.op .add .i64 (v 15) (.lit 1))] []:={}
noncomputable abbrev MR:List (AA×AV):=[(eD 65 1,sA 50 53 51 52),(eA 50 53 15 4 2,i64 (v 3))]
theorem ahV:Pc 29 147 kz4 ([(1,bz 64),(4,i64 (v 10)),(5,bz 65),(6,i64 (v 15)),(60,i64 (v 20))]) (fN 15 51++[((.cmp .eql (v 20) (.lit (-1))),true),((.cmp .gtr (v 3) (.lit 16)),false)]) MR [] 20 [] [1,4,5,6] Jl [bz 64,i64 (v 10),bz 65,i64 (.op .add .i64 (v 15) (.lit 1))] []:={}
theorem ahW:Pc 29 147 kz4 ([(1,bz 64),(4,i64 (v 10)),(5,bz 65),(6,i64 (v 15)),(60,i64 (v 20))]) (fN 15 51++[((.cmp .eql (v 20) (.lit (-1))),true),((.cmp .gtr (v 3) (.lit 16)),true)]) MR [] 18 [] [2,3] [.code .ret,.inBlock 3,.code (cm 431059),.inLoop (cm 107764),.inBlock 2,.code (cm 13471),.inBlock 1,.code (cm 211),.inLoop (cm 52),.inBlock 0,.code (cm 7)] [i64 (.lit 44),i64 (v 10)] []:={}
noncomputable abbrev AL:List Item:=[.code (cm 215540),.inLoop (cm 215540),.inBlock 4,.code (cm 26943),.inBlock 1,.code (cm 211),.inLoop (cm 52),.inBlock 0,.code (cm 7)]
theorem ahX:Pc 29 147 Jl ([(1,bz 64),(4,i64 (v 10)),(5,bz 65),(6,i64 (v 15))]) LN [(eD 65 1,sA 50 53 51 52)] [] 18 [] [1,4,5,7] AL [bz 64,i64 (v 10),bz 65,i64 (.lit 0)] []:={}
noncomputable abbrev MS:List (AA×AV):=[(eD 65 1,sA 50 53 51 52),(eB 50 53 15 4,i8 (v 1)),(eA 50 53 15 4 1,i64 (v 2))]
theorem ahY:Pc 29 147 AL ([(1,bz 64),(4,i64 (v 10)),(5,bz 65),(7,i64 (v 15))]) (fN 15 51++[((.cmp .eql (v 1) (.lit 2)),false)]) MS [] 51 [] [1,4,5,7] AL [bz 64,i64 (v 10),bz 65,i64 (.op .add .i64 (v 15) (.lit 1))] []:={}
noncomputable abbrev kz6:List Item:=[.code .ret,.inBlock 5,.code (cm 862163),.inLoop (cm 215540),.inBlock 4,.code (cm 26943),.inBlock 1,.code (cm 211),.inLoop (cm 52),.inBlock 0,.code (cm 7)]
theorem ahZ:Pc 29 147 AL ([(1,bz 64),(4,i64 (v 10)),(5,bz 65),(7,i64 (v 15))]) (fN 15 51++[((.cmp .eql (v 1) (.lit 2)),true),((.cmp .lss (v 2) (.lit 0)),true)]) MS [] 49 [] [2,3] kz6 [i64 (.lit 43),i64 (v 10)] []:={}
theorem ah0:Pc 29 147 AL ([(1,bz 64),(4,i64 (v 10)),(5,bz 65),(7,i64 (v 15))]) (fN 15 51++[((.cmp .eql (v 1) (.lit 2)),true),((.cmp .lss (v 2) (.lit 0)),false),((.cmp .geq (v 2) (v 10)),true)]) MS [] 49 [] [2,3] kz6 [i64 (.lit 43),i64 (v 10)] []:={}
theorem ah1:Pc 29 147 AL ([(1,bz 64),(4,i64 (v 10)),(5,bz 65),(7,i64 (v 15))]) (fN 15 51++[((.cmp .eql (v 1) (.lit 2)),true),((.cmp .lss (v 2) (.lit 0)),false),((.cmp .geq (v 2) (v 10)),false)]) MS [] 51 [] [1,4,5,7] AL [bz 64,i64 (v 10),bz 65,i64 (.op .add .i64 (v 15) (.lit 1))] []:={}
theorem ah2:Pc 29 147 AL ([(1,bz 64),(4,i64 (v 10)),(5,bz 65),(7,i64 (v 15))]) LN [(eD 65 1,sA 50 53 51 52)] [] 15 [] [1,4,107] [.inRegion (opsOf (cm 53886)) [2,3],.code (cm 53887),.inBlock 1,.code (cm 211),.inLoop (cm 52),.inBlock 0,.code (cm 7)] [bz 64,i64 (v 10),sA 50 53 51 52] []:={}
theorem ah3:di 147 (opsOf (cm 53886)) 2 [(107,.bC 107)] 53 [.bC 107,i64 (.lit 0),i64 (.lit 0)] 108:={}
noncomputable abbrev aah:List Item:=[.inRegion (opsOf (cm 53886)) [3],.code (cm 53887),.inBlock 1,.code (cm 211),.inLoop (cm 52),.inBlock 0,.code (cm 7)]
theorem ah4:Pc 29 147 aah ([(1,bz 64),(4,i64 (v 10)),(108,i64 (v 20))]) [((.cmp .gtr (v 20) (.lit 64)),true)] [] [] 9 [] [2,3] [.code .ret,.inBlock 1,.code (cm 211),.inLoop (cm 52),.inBlock 0,.code (cm 7)] [i64 (.lit 42),i64 (v 10)] []:={}
theorem ah5:Pc 29 147 aah ([(1,bz 64),(4,i64 (v 10)),(108,i64 (v 20))]) [((.cmp .gtr (v 20) (.lit 64)),false)] [] [] 11 [] [1,4] C8 [bz 64,i64 (.op .add .i64 (v 10) (.lit 1))] []:={}
noncomputable abbrev uU:List Item:=[.code (cm 116),.inLoop (cm 116),.inBlock 6,.code (cm 15)]
theorem ah6(z:Bool):Pc 29 147 C8 ([(1,bz 64),(4,i64 (v 10))]) [((.cmp .lss (v 10) (dL z 51)),false)] [(eD 64 0,cG z 50 53 51 52)] [] 18 [] [1,8] uU [bz 64,i64 (.lit 0)] []:=by cases z<;>exact{}
theorem ah7(z:Bool):Pc 29 147 uU ([(1,bz 64),(8,i64 (v 10))]) (fN 10 67++Ll) [(eD 64 0,cG z 50 53 51 52),(eD 64 1,sA 60 66 67 68),(eC 60 66 10,i64 (v 12))] [] 22 [] [2,3] [.code .ret,.code (cm 1865),.inBlock 7,.code (cm 467),.inLoop (cm 116),.inBlock 6,.code (cm 15)] [i64 (.lit 34),i64 (.op .add .i64 (dL z 51) (v 10))] []:=by cases z<;>exact{}
noncomputable abbrev aai:List Item:=[.code .ret,.inBlock 7,.code (cm 467),.inLoop (cm 116),.inBlock 6,.code (cm 15)]
theorem ah8(z:Bool):Pc 29 147 uU ([(1,bz 64),(8,i64 (v 10))]) (fN 10 67++Xy) [(eD 64 0,cG z 50 53 51 52),(eD 64 1,sA 60 66 67 68),(eC 60 66 10,i64 (v 12))] [] 26 [] [2,3] aai [i64 (.lit 43),i64 (.op .add .i64 (dL z 51) (v 10))] []:=by cases z<;>exact{}
theorem ah9(z:Bool):Pc 29 147 uU ([(1,bz 64),(8,i64 (v 10))]) (fN 10 67++[((.cmp .geq (v 10) (.lit 4096)),false),((.cmp .lss (v 12) (.lit 0)),false),((.cmp .geq (v 12) (dL z 51)),true)]) [(eD 64 0,cG z 50 53 51 52),(eD 64 1,sA 60 66 67 68),(eC 60 66 10,i64 (v 12))] [] 26 [] [2,3] aai [i64 (.lit 43),i64 (.op .add .i64 (dL z 51) (v 10))] []:=by cases z<;>exact{}
theorem ah_(z:Bool):Pc 29 147 uU ([(1,bz 64),(8,i64 (v 10))]) (fN 10 67++[((.cmp .geq (v 10) (.lit 4096)),false),((.cmp .lss (v 12) (.lit 0)),false),((.cmp .geq (v 12) (dL z 51)),false)]) [(eD 64 0,cG z 50 53 51 52),(eD 64 1,sA 60 66 67 68),(eC 60 66 10,i64 (v 12))] [] 32 [] [1,8] uU [bz 64,i64 (.op .add .i64 (v 10) (.lit 1))] []:=by cases z<;>exact{}
theorem aaj(z:Bool):Pc 29 147 uU ([(1,bz 64),(8,i64 (v 10))]) [((.cmp .lss (v 10) (dL z 67)),false)] [(eD 64 1,cG z 60 66 67 68)] [] 16 [] [2,3] [.code .ret] [i64 (.lit 0),i64 (.lit 0)] []:=by cases z<;>exact{}
theorem aak(a:Option Addr)(c:Nat):Pc 74 45 [.code (bD Tryz.f74)] ([(0,.raw (.slice a 0 c)),(1,i64 (.lit 0))]) [] [] [] 11 [] [0,1,5] qL [.raw (.slice a 0 c),i64 (.lit 0),i64 (.lit 1)] []:={}
theorem aal(a:Option Addr)(c:Nat):Pc 74 45 qL ([(0,.raw (.slice a 0 c)),(1,i64 (.lit 0)),(5,i64 (.lit 1))]) [] [] [] 44 [] [4] OY [i64 (.lit (-1))] []:={}
theorem aam(a:Option Addr)(c:Nat):Pc 51 114 MQ ([(0,.raw (.slice a 0 c)),(9,i64 (.lit (-1)))]) [] [] [] 9 [] [2] [.code .ret,.code (de 7)] [FB] []:={}
noncomputable abbrev ah':List Item:=C8
noncomputable abbrev aan:List Item:=Jl
noncomputable abbrev Pj:List Item:=AL
noncomputable abbrev aia:List Item:=uU
theorem AM{l:List Nd}(h:iq l=true):∃t,dQ (l.length+1) l true=some (t,[])∧l=flat t∧ue t∧JJ t:=by
 unfold iq at h;split at h
 ·rename_i t e;have hfl:=g_ _ _ _ _ _ e;rw[aQ]at hfl;refine⟨t,e,hfl,(jM _ _ _ _ _ e).1,vp _ 0 ?_⟩;have hs:=mH _ _ _ _ _ e;cases t with
  |nd n ks=>rw[vo,an];exact hs
 ·cases h
section
variable {w w0:World}{cs:List Frame}{fr:Frame}{fn nt i:Nat}{ops:Array Oper}{l:List Nat}{k:List Item}{lv:List (Nat×Value)}
theorem e_{B p q T el sz:Nat}{V:Value}{old cs':List Value}(O:jO nt ops i [] (.store T (.tmp p) (.tmp q)) 0 none)(hS:sizeOf? Tryz.prog T=.ok sz)(hV:V.cells.toList=cs')(hV2:V.cells.size=sz)(hO:∀x∈cs',x.oneCell'=true)(hf:FA fn nt (.inRegion ops (i::l)::k) [] .normal lv fr)(hp:fP p lv=some (bI B))(hq:fP q lv=some V)(hB:(cu.obj el old).at Tryz.prog w B)(h1:old.length=cs'.length):
  Goes (G fr cs) w fun g' w'=>∃fr',g'=G fr' cs∧(bS (fun b=>b=B) w w'∧(cu.obj el cs').at Tryz.prog w' B)∧FA fn nt (.inRegion ops l::k) [] .normal lv fr':=by
 obtain⟨arr,g1,g3⟩:=hB;refine O.go0 (R:=fun w'=>bS (fun b=>b=B) w w'∧(cu.obj el cs').at Tryz.prog w' B) (bL [] [] []) hf rfl fun tm ie x e1 e2=>?_;unfold execOp;simp only[e1,bF,Instr.storeAt];rw[ie p _ hp,ie q _ hq];simp only[bI,Instr.sureAddr,bG,storeVar,bF,c6 (n:=sz) hS];rw[if_neg (fun h=>h hV2)];rw[hV];refine EE cs' 0 (P:=[]) (rest:=old) g1 (by rw[g3];rfl) rfl (by omega) hO fun w' gn kp AW h2 h3=>?_;refine⟨trivial,kp,gn,AW,?_⟩;rw[h2,List.nil_append,aS (by omega),aQ]
end
section
variable {w w0:World}{cs:List Frame}{fr:Frame}
theorem E9{s:Value}{tree:List Nd}(h:ig w s tree)(hl:tree.length≤1000000):dS 51 #[s] w fun v w'=>bA w w'∧v=.bool (iq tree):=by
 rcases h.ex with h|⟨rfl,a,c,rfl⟩
 ·exact C7 h hl
 refine Goes.jy fun cs=>?_;refine(ZX.go (bL [] [] [(0,.slice a 0 c)]) (cz MP rfl (.slice a 0 c)) rfl trivial trivial).trans fun g1 w1 hd=>?_;obtain⟨I,B,bT,rfl,f1,F1,_⟩:=hd;refine(Qy.go (bL [] [] [(8,.slice a 0 c)]) (Q:=fun v w'=>v=iV (-1)) F1 rfl fun w' f=>?_).trans fun g2 w2 bX=>?_
 ·refine Goes.jy fun cs=>?_;refine((aak a c).go (bL [] [] []) (dV EV rfl (.slice a 0 c) (iV 0)) rfl trivial trivial).trans fun g3 w3 cn=>?_;obtain⟨I,B,cC,rfl,f3,F3,_⟩:=cn;exact(aal a c).out uj (bL [] [] []) F3 rfl trivial trivial f3 fun _ _ _ _=>rfl
 obtain⟨cB,v,rfl,f2,rfl,F2⟩:=bX;exact(aam a c).out oE (bL [] [] []) F2 rfl trivial trivial (f1.trans f2) fun _ _ _ _=>rfl
theorem vt{k:List Item}{a b:Int}{P:Value->World->Prop}(fw:bA w0 w)(hf:FA 29 147 (.code .ret::k) [] .normal [(2,iV a),(3,iV b)] fr)(hP:∀w',P (.tuple #[iV a,iV b]) w'):Goes (G fr cs) w (Out 29 cs w0 P):=by refine(iN E8 hf rfl rfl).mono fun g6 w6 dj=>?_;obtain⟨dJ,rfl,rfl,hL⟩:=dj;exact⟨dJ,_,rfl,hL,fw,hP _⟩
theorem C9{z:Bool}{A o c A' o' c' N X:Nat}(hN:z=true->N=0)(h0:w0.cell? ⟨X,0,none⟩=some (ew z A o N c)){outs:List Int}(h1:w0.cell? ⟨X,1,none⟩=some (bU A' o' outs.length c'))(cL:∀i n,outs[i]?=some n->w0.cell? ⟨A',o'+i,none⟩=some (iV n)):
  ∀(r:List Int) (i:Nat) {w:World} {cs:List Frame} {fr:Frame},outs.drop i=r->bA w0 w->i≤5000->FA 29 147 aia [] .normal [(1,bI X),(8,iV i)] fr->
  Goes (G fr cs) w (Out 29 cs w0 fun v _=>v=.tuple #[iV (dm N r i).1,iV (dm N r i).2])
 |[],i,w,cs,fr,hr,fw,hi,hf=>by have hlen:outs.length≤i:=aU.1 hr;obtain⟨ρ,hρ⟩:∃ρ:Env,ρ=bL [(67,outs.length),(68,c'),(66,o'),(10,i)] [(60,A'),(64,X)] []:=⟨_,rfl⟩;refine((aaj false).go ρ hf (by rw[hρ];rfl) ⟨by rw[hρ];exact decide_eq_false (by show ¬((i:Int)<((outs.length:Nat):Int));omega),trivial⟩ ⟨by rw[hρ];exact fw.cell h1,trivial⟩).trans fun g1 w1 hd=>?_;obtain⟨I,B,bT,rfl,f1,F1,_⟩:=hd;exact vt (fw.trans f1) F1 fun _=>rfl
 |n::r,i,w,cs,fr,hr,fw,hi,hf=>by
  obtain⟨hn,vl,hlt⟩:=dG hr;obtain⟨ρ,hρ⟩:∃ρ:Env,ρ=bL [(67,outs.length),(68,c'),(66,o'),(10,i),(12,n),(51,N),(52,c),(53,o)] [(60,A'),(64,X),(50,A)] []:=⟨_,rfl⟩;have mm:cw ρ w [(eD 64 0,cG z 50 53 51 52),(eD 64 1,sA 60 66 67 68),(eC 60 66 10,i64 (v 12))]:=by rw[hρ];refine⟨(fw.cell h0).trans ?_,fw.cell h1,fw.cell (cL i n hn),trivial⟩;cases z<;>rfl
  have bb:=cg (ρ:=ρ) (i:=10) (n:=67) (I:=i) (N:=outs.length) (by rw[hρ];rfl) (by rw[hρ];rfl) hlt;have eN:(dL z 51).ev ρ=(N:Int):=by
   rw[hρ];cases z with
   |false=>rfl
   |true=>rw[hN rfl];rfl
  have bad:∀{k:List Item} {w1:World} {bT:Frame} {e:Int} {I:Nat->Int} {B:Nat->Nat},bA w w1->FA 29 147 (.code .ret::k) [] .normal [(2,iV e),(3,iV (iF .add .i64 ((dL z 51).ev (cQ ρ I B)) ((cQ ρ I B).i 10)))] bT->dm N (n::r) i=(e,iF .add .i64 N i)->Goes (G bT cs) w1 (Out 29 cs w0 fun v _=>v=.tuple #[iV (dm N (n::r) i).1,iV (dm N (n::r) i).2]):=fun{k w1 bT e I B} f1 F1 he=>by
   rw[he];have e1:(dL z 51).ev (cQ ρ I B)=(N:Int):=by
    rw[hρ];cases z with
    |false=>rfl
    |true=>rw[hN rfl];rfl
   rw[e1]at F1;subst hρ;exact vt (fw.trans f1) F1 fun _=>rfl
  by_cases h1:(i:Int)≥4096
  ·refine((ah7 z).go ρ hf (by rw[hρ];rfl) (cr.app bb ⟨by rw[hρ];exact decide_eq_true h1,trivial⟩) mm).trans fun g1 w1 hd=>?_;obtain⟨I,B,bT,rfl,f1,F1,_⟩:=hd;exact bad (I:=I) (B:=B) (e:=34) f1 F1 (by unfold dm;rw[if_pos h1];rfl)
  by_cases h2:n<0
  ·refine((ah8 z).go ρ hf (by rw[hρ];rfl) (cr.app bb ⟨by rw[hρ];exact decide_eq_false h1,by rw[hρ];exact decide_eq_true h2,trivial⟩) mm).trans fun g1 w1 hd=>?_;obtain⟨I,B,bT,rfl,f1,F1,_⟩:=hd;exact bad (I:=I) (B:=B) (e:=43) f1 F1 (by unfold dm;rw[if_neg h1,if_pos h2];rfl)
  by_cases h3:n≥N
  ·refine((ah9 z).go ρ hf (by rw[hρ];rfl) (cr.app bb ⟨by rw[hρ];exact decide_eq_false h1,by rw[hρ];exact decide_eq_false h2,by show decide (ρ.i 12≥(dL z 51).ev ρ)=true;rw[eN,hρ];exact decide_eq_true h3,trivial⟩) mm).trans fun g1 w1 hd=>?_;obtain⟨I,B,bT,rfl,f1,F1,_⟩:=hd;exact bad (I:=I) (B:=B) (e:=43) f1 F1 (by unfold dm;rw[if_neg h1,if_neg h2,if_pos h3];rfl)
  refine((ah_ z).go ρ hf (by rw[hρ];rfl) (cr.app bb ⟨by rw[hρ];exact decide_eq_false h1,by rw[hρ];exact decide_eq_false h2,by show decide (ρ.i 12≥(dL z 51).ev ρ)=false;rw[eN,hρ];exact decide_eq_false h3,trivial⟩) mm).trans fun g1 w1 hd=>?_;obtain⟨I,B,bT,rfl,f1,F1,_⟩:=hd;rw[hρ]at F1;unfold dm;rw[if_neg h1,if_neg h2,if_neg h3];refine C9 hN h0 (by assumption) cL r (i+1) vl (fw.trans f1) (by omega) ?_;rw[<-inc (i:=i) (by omega)];exact F1
theorem C_{X V A o c i:Nat}{tree:List Nd}(hV:w0.cell? ⟨V,1,none⟩=some (bU A o tree.length c))(cL:∀i n,tree[i]?=some n->jF w0 A (o+i*4) n)(hl:tree.length≤1000000):
  ∀(r:List Nd) (j:Nat) {w:World} {fr:Frame},tree.drop j=r->j≤tree.length->bA w0 w->FA 29 147 aan [] .normal [(1,bI X),(4,iV i),(5,bI V),(6,iV j)] fr->
  Goes (G fr cs) w fun g' w'=>∃fr',g'=G fr' cs∧bA w0 w'∧(r.any (fun n=>decide (bQ n.op=-1)&&decide (n.kids>16))=true∧cV 29 fr' w' (.tuple #[iV 44,iV i])∨r.any (fun n=>decide (bQ n.op=-1)&&decide (n.kids>16))=false∧FA 29 147 Pj [] .normal [(1,bI X),(4,iV i),(5,bI V),(7,iV (0:Nat))] fr')
 |[],j,w,fr,hr,hj,fw,hf=>by have Es:tree.length≤j:=aU.1 hr;obtain⟨ρ,hρ⟩:∃ρ:Env,ρ=bL [(51,tree.length),(52,c),(53,o),(10,i),(15,j)] [(50,A),(64,X),(65,V)] []:=⟨_,rfl⟩;refine(ahX.go ρ hf (by rw[hρ];rfl) ⟨by rw[hρ];exact decide_eq_false (by show ¬((j:Int)<((tree.length:Nat):Int));omega),trivial⟩ ⟨by rw[hρ];exact fw.cell hV,trivial⟩).mono fun g1 w1 hd=>?_;obtain⟨I,B,bT,rfl,f1,F1,_⟩:=hd;rw[hρ]at F1;exact⟨bT,rfl,fw.trans f1,.inr ⟨rfl,F1⟩⟩
 |n::r,j,w,fr,hr,hj,fw,hf=>by
  obtain⟨hn,vl,hlt⟩:=dG hr;have iD:=(cL j n hn).keep fw;obtain⟨ρ,hρ⟩:∃ρ:Env,ρ=bL [(51,tree.length),(52,c),(53,o),(10,i),(15,j),(1,n.op),(3,n.kids),(20,bQ n.op)] [(50,A),(64,X),(65,V)] []:=⟨_,rfl⟩;have bb:=cg (ρ:=ρ) (i:=15) (n:=51) (I:=j) (N:=tree.length) (by rw[hρ];rfl) (by rw[hρ];rfl) hlt;refine(ahR.go ρ hf (by rw[hρ];rfl) bb ⟨by rw[hρ];exact fw.cell hV,by rw[hρ];exact iD.c0,trivial⟩).trans fun g1 w1 hd=>?_;obtain⟨I,B,bT,rfl,f1,F1,_⟩:=hd;rw[hρ]at F1;refine(ahS.go (bL [] [] [(59,cY n.op)]) (Q:=fun v w'=>v=iV (bQ n.op)) F1 rfl fun w' f=>zQ).trans fun g2 w2 bX=>?_;obtain⟨cB,v,rfl,f2,rfl,F2⟩:=bX;have mB:=fw.trans (f1.trans f2);have mm:cw ρ w2 MR:=by rw[hρ];exact⟨mB.cell hV,(f1.trans f2).cell iD.c2,trivial⟩
  have next:∀{w3:World} {cC:Frame},(decide (bQ n.op=-1)&&decide (n.kids>16))=false->bA w0 w3->FA 29 147 aan [] .normal [(1,bI X),(4,iV i),(5,bI V),(6,iV (iF .add .i64 j 1))] cC->Goes (G cC cs) w3 fun g' w'=>∃fr',g'=G fr' cs∧bA w0 w'∧((n::r).any (fun n=>decide (bQ n.op=-1)&&decide (n.kids>16))=true∧cV 29 fr' w' (.tuple #[iV 44,iV i])∨(n::r).any (fun n=>decide (bQ n.op=-1)&&decide (n.kids>16))=false∧FA 29 147 Pj [] .normal [(1,bI X),(4,iV i),(5,bI V),(7,iV (0:Nat))] fr'):=fun{w3 cC} hb f3 F3=>by rw[List.any_cons,hb,Bool.false_or];refine C_ hV cL hl r (j+1) vl (by omega) f3 ?_;rw[<-inc (i:=j) (by omega)];exact F3
  by_cases h1:bQ n.op=-1
  ·by_cases h2:n.kids>16
   ·refine(ahW.go ρ F2 (by rw[hρ];rfl) (cr.app bb ⟨by rw[hρ];exact decide_eq_true h1,by rw[hρ];exact decide_eq_true h2,trivial⟩) mm).trans fun g3 w3 cn=>?_;obtain⟨I,B,cC,rfl,f3,F3,_⟩:=cn;rw[hρ]at F3;refine(iN E8 F3 rfl rfl).mono fun g6 w6 dj=>?_;obtain⟨dJ,rfl,rfl,hL⟩:=dj;exact⟨dJ,rfl,mB.trans f3,.inl ⟨by rw[List.any_cons,decide_eq_true h1,decide_eq_true h2];rfl,hL⟩⟩
   ·refine(ahV.go ρ F2 (by rw[hρ];rfl) (cr.app bb ⟨by rw[hρ];exact decide_eq_true h1,by rw[hρ];exact decide_eq_false h2,trivial⟩) mm).trans fun g3 w3 cn=>?_;obtain⟨I,B,cC,rfl,f3,F3,_⟩:=cn;rw[hρ]at F3;exact next (by rw[decide_eq_false h2,Bool.and_false]) (mB.trans f3) F3
  ·refine(ahU.go ρ F2 (by rw[hρ];rfl) ⟨by rw[hρ];exact decide_eq_false h1,trivial⟩ trivial).trans fun g3 w3 cn=>?_;obtain⟨I,B,cC,rfl,f3,F3,_⟩:=cn;rw[hρ]at F3;exact next (by rw[decide_eq_false h1,Bool.false_and]) (mB.trans f3) F3
noncomputable abbrev Ua:List Item:=[.code (cm 53887),.inBlock 1,.code (cm 211),.inLoop (cm 52),.inBlock 0,.code (cm 7)]
theorem zT{X V A o c i:Nat}{tree:List Nd}(hV:w0.cell? ⟨V,1,none⟩=some (bU A o tree.length c))(cL:∀i n,tree[i]?=some n->jF w0 A (o+i*4) n)(hl:tree.length≤1000000):
  ∀(r:List Nd) (j:Nat) {w:World} {fr:Frame},tree.drop j=r->j≤tree.length->bA w0 w->FA 29 147 Pj [] .normal [(1,bI X),(4,iV i),(5,bI V),(7,iV j)] fr->
  Goes (G fr cs) w fun g' w'=>∃fr',g'=G fr' cs∧bA w0 w'∧(r.any (fun n=>decide (n.op=2)&&(decide (n.n<0)||decide (n.n≥i)))=true∧cV 29 fr' w' (.tuple #[iV 43,iV i])∨r.any (fun n=>decide (n.op=2)&&(decide (n.n<0)||decide (n.n≥i)))=false∧FA 29 147 (.inRegion (opsOf (cm 53886)) [2,3]::Ua) [] .normal [(1,bI X),(4,iV i),(107,bU A o tree.length c)] fr')
 |[],j,w,fr,hr,hj,fw,hf=>by have Es:tree.length≤j:=aU.1 hr;obtain⟨ρ,hρ⟩:∃ρ:Env,ρ=bL [(51,tree.length),(52,c),(53,o),(10,i),(15,j)] [(50,A),(64,X),(65,V)] []:=⟨_,rfl⟩;refine(ah2.go ρ hf (by rw[hρ];rfl) ⟨by rw[hρ];exact decide_eq_false (by show ¬((j:Int)<((tree.length:Nat):Int));omega),trivial⟩ ⟨by rw[hρ];exact fw.cell hV,trivial⟩).mono fun g1 w1 hd=>?_;obtain⟨I,B,bT,rfl,f1,F1,_⟩:=hd;rw[hρ]at F1;exact⟨bT,rfl,fw.trans f1,.inr ⟨rfl,F1⟩⟩
 |n::r,j,w,fr,hr,hj,fw,hf=>by
  obtain⟨hn,vl,hlt⟩:=dG hr;have iD:=(cL j n hn).keep fw;obtain⟨ρ,hρ⟩:∃ρ:Env,ρ=bL [(51,tree.length),(52,c),(53,o),(10,i),(15,j),(1,n.op),(2,n.n)] [(50,A),(64,X),(65,V)] []:=⟨_,rfl⟩;have bb:=cg (ρ:=ρ) (i:=15) (n:=51) (I:=j) (N:=tree.length) (by rw[hρ];rfl) (by rw[hρ];rfl) hlt;have mm:cw ρ w MS:=by rw[hρ];exact⟨fw.cell hV,iD.c0,iD.c1,trivial⟩
  have next:∀{w3:World} {cC:Frame},(decide (n.op=2)&&(decide (n.n<0)||decide (n.n≥i)))=false->bA w w3->FA 29 147 Pj [] .normal [(1,bI X),(4,iV i),(5,bI V),(7,iV (iF .add .i64 j 1))] cC->Goes (G cC cs) w3 fun g' w'=>∃fr',g'=G fr' cs∧bA w0 w'∧((n::r).any (fun n=>decide (n.op=2)&&(decide (n.n<0)||decide (n.n≥i)))=true∧cV 29 fr' w' (.tuple #[iV 43,iV i])∨(n::r).any (fun n=>decide (n.op=2)&&(decide (n.n<0)||decide (n.n≥i)))=false∧FA 29 147 (.inRegion (opsOf (cm 53886)) [2,3]::Ua) [] .normal [(1,bI X),(4,iV i),(107,bU A o tree.length c)] fr'):=fun{w3 cC} hb f3 F3=>by rw[List.any_cons,hb,Bool.false_or];refine zT hV cL hl r (j+1) vl (by omega) (fw.trans f3) ?_;rw[<-inc (i:=j) (by omega)];exact F3
  have bad:∀{k:List Item} {w3:World} {cC:Frame},(decide (n.op=2)&&(decide (n.n<0)||decide (n.n≥i)))=true->bA w w3->FA 29 147 (.code .ret::k) [] .normal [(2,iV 43),(3,iV i)] cC->Goes (G cC cs) w3 fun g' w'=>∃fr',g'=G fr' cs∧bA w0 w'∧((n::r).any (fun n=>decide (n.op=2)&&(decide (n.n<0)||decide (n.n≥i)))=true∧cV 29 fr' w' (.tuple #[iV 43,iV i])∨(n::r).any (fun n=>decide (n.op=2)&&(decide (n.n<0)||decide (n.n≥i)))=false∧FA 29 147 (.inRegion (opsOf (cm 53886)) [2,3]::Ua) [] .normal [(1,bI X),(4,iV i),(107,bU A o tree.length c)] fr'):=fun{k w3 cC} hb f3 F3=>by refine(iN E8 F3 rfl rfl).mono fun g6 w6 dj=>?_;obtain⟨dJ,rfl,rfl,hL⟩:=dj;exact⟨dJ,rfl,fw.trans f3,.inl ⟨by rw[List.any_cons,hb];rfl,hL⟩⟩
  by_cases h1:n.op=2
  ·by_cases h2:n.n<0
   ·refine(ahZ.go ρ hf (by rw[hρ];rfl) (cr.app bb ⟨by rw[hρ];exact decide_eq_true h1,by rw[hρ];exact decide_eq_true h2,trivial⟩) mm).trans fun g3 w3 cn=>?_;obtain⟨I,B,cC,rfl,f3,F3,_⟩:=cn;rw[hρ]at F3;exact bad (by rw[decide_eq_true h1,decide_eq_true h2];rfl) f3 F3
   ·by_cases h3:n.n≥i
    ·refine(ah0.go ρ hf (by rw[hρ];rfl) (cr.app bb ⟨by rw[hρ];exact decide_eq_true h1,by rw[hρ];exact decide_eq_false h2,by rw[hρ];exact decide_eq_true h3,trivial⟩) mm).trans fun g3 w3 cn=>?_;obtain⟨I,B,cC,rfl,f3,F3,_⟩:=cn;rw[hρ]at F3;exact bad (by rw[decide_eq_true h1,decide_eq_true h3,Bool.or_true];rfl) f3 F3
    ·refine(ah1.go ρ hf (by rw[hρ];rfl) (cr.app bb ⟨by rw[hρ];exact decide_eq_true h1,by rw[hρ];exact decide_eq_false h2,by rw[hρ];exact decide_eq_false h3,trivial⟩) mm).trans fun g3 w3 cn=>?_;obtain⟨I,B,cC,rfl,f3,F3,_⟩:=cn;rw[hρ]at F3;exact next (by rw[decide_eq_false h2,decide_eq_false h3,Bool.or_false,Bool.and_false]) f3 F3
  ·refine(ahY.go ρ hf (by rw[hρ];rfl) (cr.app bb ⟨by rw[hρ];exact decide_eq_false h1,trivial⟩) mm).trans fun g3 w3 cn=>?_;obtain⟨I,B,cC,rfl,f3,F3,_⟩:=cn;rw[hρ]at F3;exact next (by rw[decide_eq_false h1,Bool.false_and]) f3 F3
theorem Da{F:gU}{ls os:Value}{X:Nat}{z:Bool}{A o c:Nat}{L:List cH}(hz:z=true->L=[])(C5:w0.cell? ⟨X,0,none⟩=some (ew z A o L.length c))(Pk:w0.cell? ⟨X,1,none⟩=some os)(hls:nA w0 (ew z A o L.length c) L)(hos:kB w0 os F.outs)(hL:F.lets=L)(cL:∀i x,L[i]?=some x->pS w0 A (o+i*3) x)(hlen:L.length≤1000000)(ji:∀x∈L,x.tree.length≤999999):
  ∀(r:List cH) (i:Nat) {w:World} {cs:List Frame} {fr:Frame},L.drop i=r->i≤L.length->bA w0 w->FA 29 147 ah' [] .normal [(1,bI X),(4,iV i)] fr->
  Goes (G fr cs) w (Out 29 cs w0 fun v _=>v=match dN r i (jX L i)with
   |some (e,j)=>.tuple #[iV e,iV j]
   |none=>.tuple #[iV (dm L.length F.outs 0).1,iV (dm L.length F.outs 0).2])
 |[],i,w,cs,fr,hr,hi,fw,hf=>by
  have Es:L.length≤i:=aU.1 hr;obtain⟨y,A',o',c',rfl,hy,Dl,rH⟩:=hos.ex;have hN:z=true->L.length=0:=fun h=>by rw[hz h];rfl
  obtain⟨ρ,hρ⟩:∃ρ:Env,ρ=bL [(51,L.length),(52,c),(53,o),(10,i)] [(50,A),(64,X)] []:=⟨_,rfl⟩;have eN:(dL z 51).ev ρ=(L.length:Int):=by
   rw[hρ];cases z with
   |false=>rfl
   |true=>rw[hN rfl];rfl
  refine((ah6 z).go ρ hf (by rw[hρ];rfl) ⟨by show decide (ρ.i 10<(dL z 51).ev ρ)=false;rw[eN,hρ];exact decide_eq_false (by show ¬((i:Int)<(L.length:Int));omega),trivial⟩ ⟨by rw[hρ];refine(fw.cell C5).trans ?_;cases z<;>rfl,trivial⟩).trans fun g1 w1 hd=>?_;obtain⟨I,B,bT,rfl,f1,F1,_⟩:=hd;rw[hρ]at F1;have Cg:=fw.trans f1;unfold dN;dsimp only;cases y with
  |true=>have ho:F.outs=[]:=hy rfl;rw[ho];refine((aaj true).go (bL [(10,0)] [(64,X)] []) F1 rfl ⟨rfl,trivial⟩ ⟨Cg.cell Pk,trivial⟩).trans fun g2 w2 bX=>?_;obtain⟨I,B,cB,rfl,f2,F2,_⟩:=bX;exact vt (Cg.trans f2) F2 fun _=>rfl
  |false=>exact C9 hN C5 Pk rH F.outs 0 rfl Cg (by omega) F1
 |x::r,i,w,cs,fr,hr,hi,fw,hf=>by
  obtain⟨hx,vl,hlt⟩:=dG hr;have arb:ls=ls:=rfl;obtain rfl:z=false:=by
   cases z with
   |false=>rfl
   |true=>rw[hz rfl]at hlt;simp at hlt
  obtain⟨ts,a0,a1,a2,a3⟩:=(cL i x hx).ex;have Ok:x.tree.length≤999999:=ji x (ay hx);have Jm:=Mw hx;obtain⟨dup,ed⟩:∃dup,(eT x.name (jX L i)).getD false=dup:=⟨_,rfl⟩;have hrs:=Jc (x:=x) (i:=i) (names:=jX L i);rw[ed]at Jm hrs;have bad:∀{k:List Item} {w1:World} {bT:Frame} {e:Int},tE x i dup=e->e≠0->bA w0 w1->FA 29 147 (.code .ret::k) [] .normal [(2,iV e),(3,iV i)] bT->Goes (G bT cs) w1 (Out 29 cs w0 fun v _=>v=match dN (x::r) i (jX L i)with
   |some (e,j)=>.tuple #[iV e,iV j]
   |none=>.tuple #[iV (dm L.length F.outs 0).1,iV (dm L.length F.outs 0).2]):=fun{k w1 bT e} he h0 f1 F1=>by
   refine vt f1 F1 fun _=>?_;unfold dN;rw[if_pos (by rw[<-hrs,he];exact h0),<-hrs,he]
  have aao:∀{g:Goroutine} {w1:World} {bT:Frame} {e:Int},tE x i dup=e->e≠0->bA w0 w1->g=G bT cs->cV 29 bT w1 (.tuple #[iV e,iV i])->Out 29 cs w0 (fun v _=>v=match dN (x::r) i (jX L i)with
   |some (e,j)=>.tuple #[iV e,iV j]
   |none=>.tuple #[iV (dm L.length F.outs 0).1,iV (dm L.length F.outs 0).2]) g w1:=fun{g w1 bT e} he h0 f1 hg hL=>by
   refine⟨bT,_,hg,hL,f1,?_⟩;unfold dN;rw[if_pos (by rw[<-hrs,he];exact h0),<-hrs,he]
  obtain⟨ρ,hρ⟩:∃ρ:Env,ρ=Go.Proofs.YtmobbajggkjpgaaGreat.SX.jn [(51,L.length),(52,c),(53,o),(10,i),(9,x.bY)] [(50,A),(64,X)] [(7,ts)] [(1,x.name)]:=⟨_,rfl⟩;refine(ahF.go ρ hf (by rw[hρ];rfl) (cg (i:=10) (n:=51) (I:=i) (N:=L.length) (by rw[hρ];rfl) (by rw[hρ];rfl) hlt) ⟨by rw[hρ];exact fw.cell C5,by rw[hρ];exact fw.cell a0,by rw[hρ];exact fw.cell a1,by rw[hρ];exact fw.cell a2,trivial⟩).trans fun g1 w1 hd=>?_;obtain⟨I,B,bT,rfl,f1,F1,bl,_⟩:=hd;rw[hρ]at F1 bl;obtain⟨V,eV⟩:∃V,B 100=V:=⟨_,rfl⟩;have hV0:(cu.obj 50 [.string ⟨#[]⟩,eS,iV 0]).at Tryz.prog w1 V:=by rw[<-eV];exact bl.1.2
  have gV:w.heap.size≤V:=by rw[<-eV];exact bl.1.1
  have fI:FA 29 147 (.inRegion (opsOf (cm 840)) [6]::[.code (cm 841),.inBlock 1,.code (cm 211),.inLoop (cm 52),.inBlock 0,.code (cm 7)]) [] .normal [(1,bI X),(4,iV i),(5,bI V),(20,fy x ts)] bT:=by rw[<-eV];exact F1
  refine(e_ (B:=V) (T:=50) (el:=50) (sz:=3) (V:=fy x ts) (cs':=[.string x.name,ts,iV x.bY]) aab (by kernel_rfl) rfl rfl (by
   intro y hy;simp only[aj,az,or_false]at hy;rcases hy with rfl|rfl|rfl
   ·rfl
   ·rcases a3.ex with h|⟨_,a,c,rfl⟩
    ·rcases h.ex with⟨rfl,_⟩|⟨A,o,c,rfl,_⟩<;>rfl
    ·rfl
   ·rfl) fI rfl rfl hV0 rfl).trans fun g2 w2 bX=>?_
  obtain⟨cB,rfl,⟨KA,hV⟩,F2⟩:=bX;have mB:bA w0 w2:=cq (fw.trans f1) (KA.mono fun b hb=>by rw[hb];exact aA fw.size gV);have aap:=bE hV (i:=0) rfl;have Ub:=bE hV (i:=1) rfl;have aaq:=bE hV (i:=2) rfl;obtain⟨σ,bZ⟩:∃σ:Env,σ=Go.Proofs.YtmobbajggkjpgaaGreat.SX.jn [(51,L.length),(52,c),(53,o),(10,i),(9,x.bY),(20,xP L x.name)] [(50,A),(64,X),(65,V)] [(7,ts),(8,bU A o L.length c),(9,os)] [(1,x.name)]:=⟨_,rfl⟩;by_cases h1:(i:Int)≥4096
  ·refine(ahG.go σ F2 (by rw[bZ];rfl) ⟨by rw[bZ];exact decide_eq_true h1,trivial⟩ trivial).trans fun g3 w3 cn=>?_;obtain⟨I,B,cC,rfl,f3,F3,_⟩:=cn;rw[bZ]at F3;exact bad (e:=34) (by unfold tE;rw[if_pos h1]) (by decide) (mB.trans f3) F3
  refine(aad.go σ F2 (by rw[bZ];rfl) ⟨by rw[bZ];exact decide_eq_false h1,trivial⟩ ⟨by rw[bZ];exact aap,trivial⟩).trans fun g3 w3 cn=>?_;obtain⟨I,B,cC,rfl,f3,F3,_⟩:=cn;rw[bZ]at F3;refine(ahH.go (bL [] [] [(25,.string x.name)]) (Q:=fun v w'=>v=.bool (gq x.name)) F3 rfl fun w' f=>Jf).trans fun g4 w4 c9=>?_;obtain⟨eg,v,rfl,f4,rfl,F4⟩:=c9;have f24:=f3.trans f4;have oO:=mB.trans f24;cases en:gq x.name with
  |false=>rw[en]at F4;refine(ahI.go σ F4 (by rw[bZ];rfl) trivial trivial).trans fun g5 w5 d_=>?_;obtain⟨I,B,gh,rfl,f5,F5,_⟩:=d_;rw[bZ]at F5;exact bad (e:=43) (by unfold tE;rw[if_neg h1,if_pos (.inl en)]) (by decide) (oO.trans f5) F5
  |true=>
  rw[en]at F4;refine(ahJ.go σ F4 (by rw[bZ];rfl) trivial ⟨by rw[bZ];exact oO.cell C5,by rw[bZ];exact oO.cell Pk,by rw[bZ];exact f24.cell aap,trivial⟩).trans fun g5 w5 d_=>?_;obtain⟨I,B,gh,rfl,f5,F5,_⟩:=d_;rw[bZ]at F5;have G3:=oO.trans f5;refine(ahK.go (bL [] [] [(29,.agg #[bU A o L.length c,os]),(31,.string x.name)]) (Q:=fun v w'=>v=iV (xP L x.name)) F5 rfl fun w' f=>Jg (hls.keep (G3.trans f)) hlen).trans fun g6 w6 dj=>?_;obtain⟨dJ,v,rfl,f6,rfl,F6⟩:=dj;have f26:=f24.trans (f5.trans f6);have G4:=G3.trans f6;cases Kn:dup with
  |true=>rw[Kn]at Jm;refine(ahL.go σ F6 (by rw[bZ];rfl) ⟨by rw[bZ];exact Jm,trivial⟩ trivial).trans fun g7 w7 lG=>?_;obtain⟨I,B,qj,rfl,f7,F7,_⟩:=lG;rw[bZ]at F7;exact bad (e:=43) (by unfold tE;rw[if_neg h1,if_pos (.inr Kn)]) (by decide) (G4.trans f7) F7
  |false=>
  rw[Kn]at Jm;have VR:¬(gq x.name=false∨dup=true):=by rw[en,Kn];simp
  by_cases h2:x.bY<0
  ·refine(ahM.go σ F6 (by rw[bZ];rfl) ⟨by rw[bZ];exact Jm,by rw[bZ];exact decide_eq_true h2,trivial⟩ ⟨by rw[bZ];exact f26.cell aaq,trivial⟩).trans fun g7 w7 lG=>?_;obtain⟨I,B,qj,rfl,f7,F7,_⟩:=lG;rw[bZ]at F7;exact bad (e:=1) (by unfold tE;rw[if_neg h1,if_neg VR,if_pos (.inl h2)]) (by decide) (G4.trans f7) F7
  refine(ahN.go σ F6 (by rw[bZ];rfl) ⟨by rw[bZ];exact Jm,by rw[bZ];exact decide_eq_false h2,trivial⟩ ⟨by rw[bZ];exact f26.cell Ub,by rw[bZ];exact f26.cell aaq,trivial⟩).trans fun g7 w7 lG=>?_;obtain⟨I,B,qj,rfl,f7,F7,_⟩:=lG;rw[bZ]at F7;have f07:=G4.trans f7;refine(ahO.go (bL [] [] [(42,ts)]) (Q:=fun v w'=>v=.bool (iq x.tree)) F7 rfl fun w' f=>E9 (a3.keep (f07.trans f)) (by omega)).trans fun g8 w8 xg=>?_;obtain⟨Iu,v,rfl,f8,rfl,F8⟩:=xg;have Pg:=f07.trans f8;have f28:=f26.trans (f7.trans f8);cases hsh:iq x.tree with
  |false=>rw[hsh]at F8;refine(ahP.go σ F8 (by rw[bZ];rfl) trivial trivial).trans fun g9 w9 xh=>?_;obtain⟨I,B,AY,rfl,f9,F9,_⟩:=xh;rw[bZ]at F9;exact bad (e:=1) (by unfold tE;rw[if_neg h1,if_neg VR,if_pos (.inr hsh)]) (by decide) (Pg.trans f9) F9
  |true=>
  rw[hsh]at F8;obtain⟨t,hgt,hfl,AX,aic⟩:=AM hsh;have n1:¬(x.bY<0∨iq x.tree=false):=by rw[hsh];simpa using h2
  obtain⟨At,ot,ct,rfl,RP,Uc⟩:∃At ot ct,ts=bU At ot x.tree.length ct∧x.tree.length≤ct∧∀i n,x.tree[i]?=some n->jF w0 At (ot+i*4) n:=by
   have hpos:=sY t;rcases a3.ex with h|⟨e,_⟩
   ·rcases h.ex with⟨_,e⟩|⟨A1,o1,c1,e1,e2,e3⟩
    ·rw[<-hfl,e]at hpos;simp at hpos
    ·exact⟨A1,o1,c1,e1,e2,e3⟩
   ·rw[<-hfl,e]at hpos;simp at hpos
  refine(ahQ.go σ F8 (by rw[bZ];rfl) trivial trivial).trans fun g9 w9 xh=>?_;obtain⟨I,B,AY,rfl,f9,F9,_⟩:=xh;rw[bZ]at F9;have Qz:=Pg.trans f9;have f29:=f28.trans f9;refine(C_ (w0:=w9) (X:=X) (i:=i) (f29.cell Ub) (fun i n hi=>(Uc i n hi).keep Qz) (by omega) x.tree 0 rfl (by omega) (bA.refl _) F9).trans fun g10 w10 MO=>?_;obtain⟨Pe,rfl,f10,⟨hb,hL'⟩|⟨hb,F10⟩⟩:=MO
  ·exact .here (aao (e:=44) (by unfold tE;rw[if_neg h1,if_neg VR,if_neg n1,if_pos hb]) (by decide) (Qz.trans f10) rfl hL')
  have n44:¬(x.tree.any (fun n=>decide (bQ n.op=-1)&&decide (n.kids>16))=true):=by rw[hb];decide
  have f0A:=Qz.trans f10;have f2A:=f29.trans f10;refine(zT (w0:=w10) (X:=X) (i:=i) (f2A.cell Ub) (fun i n hi=>(Uc i n hi).keep f0A) (by omega) x.tree 0 rfl (by omega) (bA.refl _) F10).trans fun g11 w11 Ud=>?_;obtain⟨aat,rfl,f11,⟨oQ,hL'⟩|⟨oQ,F11⟩⟩:=Ud
  ·exact .here (aao (e:=43) (by unfold tE;rw[if_neg h1,if_neg VR,if_neg n1,if_neg n44,if_pos oQ]) (by decide) (f0A.trans f11) rfl hL')
  have aau:¬(x.tree.any (fun n=>decide (n.op=2)&&(decide (n.n<0)||decide (n.n≥i)))=true):=by rw[oQ];decide
  have f0B:=f0A.trans f11;refine(ah3.go (bL [] [] [(107,bU At ot x.tree.length ct)]) (Q:=fun v w'=>v=iV (cy t 0).1) F11 rfl fun w' f=>(C6 t).1 (d:=0) (bY:=0) (rest:=[]) (tree:=x.tree) ⟨.inr ⟨At,ot,ct,rfl,RP,fun i n hi=>(Uc i n hi).keep (f0B.trans f)⟩⟩ (by omega) AX aic (by omega) (by rw[<-hfl];omega) (by rw[List.drop_zero,aQ];exact hfl)).trans fun g12 w12 Ue=>?_;obtain⟨aaw,v,rfl,f12,rfl,F12⟩:=Ue;have f0C:=f0B.trans f12;have e42:(((k8 x).map fun t=>(cy t 0).1).getD 0)=(cy t 0).1:=by unfold k8;rw[hgt];rfl
  obtain⟨τ,fz⟩:∃τ:Env,τ=bL [(10,i),(20,(cy t 0).1)] [(64,X)] []:=⟨_,rfl⟩;by_cases h5:(cy t 0).1>64
  ·refine(ah4.go τ F12 (by rw[fz];rfl) ⟨by rw[fz];exact decide_eq_true h5,trivial⟩ trivial).trans fun g13 w13 MT=>?_;obtain⟨I,B,aax,rfl,f13,QA,_⟩:=MT;rw[fz]at QA;exact bad (e:=42) (by unfold tE;rw[if_neg h1,if_neg VR,if_neg n1,if_neg n44,if_neg aau,e42,if_pos h5]) (by decide) (f0C.trans f13) QA
  refine(ah5.go τ F12 (by rw[fz];rfl) ⟨by rw[fz];exact decide_eq_false h5,trivial⟩ trivial).trans fun g13 w13 MT=>?_;obtain⟨I,B,aax,rfl,f13,QA,_⟩:=MT;rw[fz]at QA;have aif:tE x i dup=0:=by unfold tE;rw[if_neg h1,if_neg VR,if_neg n1,if_neg n44,if_neg aau,e42,if_neg h5]
  have ec:dN (x::r) i (jX L i)=dN r (i+1) (jX L (i+1)):=by
   conv=>lhs;unfold dN
   rw[if_neg (by rw[<-hrs,aif];decide)];congr 1;unfold jX;rw[List.take_add_one,hx,List.map_append];rfl
  rw[ec];refine Da (ls:=ls) hz C5 Pk hls hos hL cL hlen ji r (i+1) vl (by omega) (f0C.trans f13) ?_;rw[<-inc (i:=i) (by omega)];exact QA
theorem E_{x:Value}{F:gU}(h:mC w x F)(hlen:F.lets.length≤1000000)(ji:∀x∈F.lets,x.tree.length≤999999):dS 29 #[x] w fun v w'=>bA w w'∧v=.tuple #[iV (ef F).1,iV (ef F).2]:=by
 obtain⟨ls,os,rfl,hl,ho⟩:=h;obtain⟨z,A,o,c,hls,hz,oU,cL⟩:=hl.ex;refine Goes.jy fun cs=>?_;obtain⟨ρ,hρ⟩:∃ρ:Env,ρ=bL [(51,F.lets.length),(52,c),(53,o)] [(50,A)] [(9,os)]:=⟨_,rfl⟩;refine((ahE z).go ρ (cz T9 rfl (.agg #[ls,os])) (by rw[hρ,hls];cases z<;>rfl) trivial trivial).trans fun g1 w1 hd=>?_;obtain⟨I,B,bT,rfl,f1,F1,bl,_⟩:=hd;have hX:(cu.obj 25 [ew z A o F.lets.length c,os]).at Tryz.prog w1 (B 100):=by have:=bl.1.2;rw[hρ]at this;cases z<;>exact this
 refine(Da (w0:=w1) (ls:=ls) (X:=B 100) (F:=F) hz (bE hX (i:=0) rfl) (bE hX (i:=1) rfl) (by rw[<-hls];exact hl.keep f1) (ho.keep f1) rfl (fun i x hi=>(cL i x hi).keep f1) hlen ji F.lets 0 rfl (by omega) (bA.refl _) (by rw[hρ]at F1;exact F1)).mono fun g2 w2 bX=>?_;obtain⟨cB,v,rfl,hL,f2,rfl⟩:=bX;refine⟨cB,_,rfl,hL,f1.trans f2,?_⟩;unfold ef;rw[show jX F.lets 0=[]from rfl];cases dN F.lets 0 []with
 |none=>rfl
 |some p=>rfl
end
end Go.Proofs.YtmobbajggkjpgaaGreat

/-
  GraphAhead: whatever the flow, the maker and the number: levels, needs and the first lets under other names: the law answers true; the arguments read as they did. Conditions: none.. Conditions: none.
-/
import Derived.Test.YtmobbajggkjpgaaHG
import GoSem.Step
import Derived.Orders
import Derived.Conc.Own5
import Derived.Laws.Sem
import Derived.Conc.Events
import Derived.Laws.StructEq
import Derived.Laws.Append
import Derived.IntWalk
import Derived.Conc.Own4
import Derived.AtR
import Derived.Calls
import Derived.Test.YtmobbajggkjpgaaRows
import Derived.ChangeSame
import Derived.ChangeVars
import Derived.JoinedOf
import Derived.RowKit
import Derived.RowKitTokens
import Derived.LaidLaws
import Derived.LaidHandle
import Derived.Stop.Joined
import Derived.Conc.Token
import Derived.Conc.TokenWalk
import Derived.Conc.Beside
import Derived.Ground.NamesProg
import Derived.Ground.Names2Prog
import Derived.Shelf.Sort.Plain
import Derived.Shelf.Slices.In.SortNone
import Derived.Shelf.Slices.CompactI
import Derived.Shelf.Slices.Turned
import Derived.ProofKit
import Derived.SizedLaws
import Derived.ChangeSlices
import Derived.Deep.Slices
import Derived.WideKeyArgs
import Derived.Carry
set_option linter.unusedSectionVars false
set_option maxRecDepth 100000
set_option linter.unusedVariables false
set_option linter.unusedSimpArgs false
namespace Go.Proofs.Ytmobbajggkjpgaa
open Go.Proofs.Ytmobbajggkjpgaa.SX Go.Conc
section
variable {w:World}{cs:List Frame}{fr:Frame}{fn nt i d:Nat}{ops:Array Oper}{l:List Nat}{k:List Item}{lv:List (Nat×Value)}{lA:List (Nat×AV)}
theorem mem1{α:Type}{lv:List α}{a:α}(h:a∈lv):∀q∈[a],q∈lv:=List.forall_mem_singleton.2 h
theorem mem2{α:Type}{lv:List α}{a b:α}(h:a∈lv)(h2:b∈lv):∀q∈[a,b],q∈lv:=List.forall_mem_cons.2 ⟨h,mem1 h2⟩
theorem mem3{α:Type}{lv:List α}{a b c:α}(h:a∈lv)(h2:b∈lv)(h3:c∈lv):∀q∈[a,b,c],q∈lv:=List.forall_mem_cons.2 ⟨h,mem2 h2 h3⟩
theorem OpS.goM(o:OpS nt ops i lA d)(ρ:Env)(hf:FA fn nt (.inRegion ops (i::l)::k) [] .normal lv fr)(hdn:d<nt)(hl:∀p∈told ρ lA,p∈lv):
  Goes (G fr cs) w fun g' w'=>∃fr' v,g'=G fr' cs∧Fresh w w'∧True∧FA fn nt (.inRegion ops l::k) [] .normal (lvPut d v lv) fr':=
 (op_skip (ρ:=ρ) (bs:=[]) (mem:=[]) hf hl o.want o.low (nofun) (nofun) o.dst hdn).mono fun g' w' hd=>by
  obtain⟨fr',h1,h2,h3⟩:=hd
  exact⟨fr',_,h1,h2,trivial,h3⟩
end
noncomputable abbrev rxD:Array Oper:=opsOf (q4 [1,1,1,1,1,1,0,1,0,0,1,0,0,1,1,0,1,0,0,1,0,0,1,0,0])
theorem rx_0:OpV 204 rxD 0 [] [] [(15,i64 (v 15))] (i64 (v 15)) 81:=⟨fun st=>by kernel_rfl,fun st=>by kernel_rfl,fun st=>by kernel_rfl,by kernel_rfl,rfl⟩
theorem rx_1:OpV 204 rxD 1 [((.cmp .lss (v 15) (.lit 0)),false)] [] [(81,i64 (v 15))] (FB) 82:=⟨fun st=>by kernel_rfl,fun st=>by kernel_rfl,fun st=>by kernel_rfl,by kernel_rfl,rfl⟩
theorem rx_2:OpV 204 rxD 2 [] [] [(82,FB)] (FB) 83:=⟨fun st=>by kernel_rfl,fun st=>by kernel_rfl,fun st=>by kernel_rfl,by kernel_rfl,rfl⟩
theorem rx_3:OpV 204 rxD 3 [] [] [(83,FB),(15,i64 (v 15))] (i64 (v 15)) 84:=⟨fun st=>by kernel_rfl,fun st=>by kernel_rfl,fun st=>by kernel_rfl,by kernel_rfl,rfl⟩
theorem rx_4:OpV 204 rxD 4 [] [] [(83,FB),(11,i64 (v 10))] (i64 (v 10)) 85:=⟨fun st=>by kernel_rfl,fun st=>by kernel_rfl,fun st=>by kernel_rfl,by kernel_rfl,rfl⟩
theorem rx_5:OpV 204 rxD 5 [((.cmp .geq (v 15) (v 10)),false)] [] [(83,FB),(84,i64 (v 15)),(85,i64 (v 10))] (FB) 86:=⟨fun st=>by kernel_rfl,fun st=>by kernel_rfl,fun st=>by kernel_rfl,by kernel_rfl,rfl⟩
theorem rx_6:OpV 204 rxD 6 [] [] [(83,FB),(86,FB)] (FB) 87:=⟨fun st=>by kernel_rfl,fun st=>by kernel_rfl,fun st=>by kernel_rfl,by kernel_rfl,rfl⟩
theorem rx_7:OpV 204 rxD 7 [] [] [(87,FB)] (FB) 88:=⟨fun st=>by kernel_rfl,fun st=>by kernel_rfl,fun st=>by kernel_rfl,by kernel_rfl,rfl⟩
theorem rx_8:OpV 204 rxD 8 [] [] [(88,FB),(14,i64 (v 14))] (i64 (v 14)) 89:=⟨fun st=>by kernel_rfl,fun st=>by kernel_rfl,fun st=>by kernel_rfl,by kernel_rfl,rfl⟩
theorem rx_9:OpV 204 rxD 9 [((.cmp .gtr (v 14) (.lit 0)),false)] [] [(88,FB),(89,i64 (v 14))] (FB) 90:=⟨fun st=>by kernel_rfl,fun st=>by kernel_rfl,fun st=>by kernel_rfl,by kernel_rfl,rfl⟩
theorem rx_10:OpV 204 rxD 10 [] [] [(88,FB),(90,FB)] (FB) 91:=⟨fun st=>by kernel_rfl,fun st=>by kernel_rfl,fun st=>by kernel_rfl,by kernel_rfl,rfl⟩
theorem rx_11:OpS 204 rxD 11 [(91,FB)] 92:=⟨fun st=>by kernel_rfl,fun st=>by kernel_rfl,by kernel_rfl⟩
theorem rx_12:OpS 204 rxD 12 [(91,FB)] 93:=⟨fun st=>by kernel_rfl,fun st=>by kernel_rfl,by kernel_rfl⟩
theorem rx_13:OpS 204 rxD 13 [(91,FB)] 94:=⟨fun st=>by kernel_rfl,fun st=>by kernel_rfl,by kernel_rfl⟩
theorem rx_14:OpS 204 rxD 14 [(91,FB)] 95:=⟨fun st=>by kernel_rfl,fun st=>by kernel_rfl,by kernel_rfl⟩
theorem rx_15:OpS 204 rxD 15 [(91,FB)] 96:=⟨fun st=>by kernel_rfl,fun st=>by kernel_rfl,by kernel_rfl⟩
theorem rx_16:OpS 204 rxD 16 [(91,FB)] 97:=⟨fun st=>by kernel_rfl,fun st=>by kernel_rfl,by kernel_rfl⟩
theorem rx_17:OpS 204 rxD 17 [(91,FB)] 98:=⟨fun st=>by kernel_rfl,fun st=>by kernel_rfl,by kernel_rfl⟩
theorem rx_18:OpV 204 rxD 18 [] [] [(88,FB),(91,FB)] (FB) 99:=⟨fun st=>by kernel_rfl,fun st=>by kernel_rfl,fun st=>by kernel_rfl,by kernel_rfl,rfl⟩
theorem rx_19:OpV 204 rxD 19 [] [] [(88,FB),(99,FB)] (FB) 100:=⟨fun st=>by kernel_rfl,fun st=>by kernel_rfl,fun st=>by kernel_rfl,by kernel_rfl,rfl⟩
theorem rx_20:OpV 204 rxD 20 [] [] [(100,FB)] (FB) 101:=⟨fun st=>by kernel_rfl,fun st=>by kernel_rfl,fun st=>by kernel_rfl,by kernel_rfl,rfl⟩
theorem rx_21:OpV 204 rxD 21 [] [] [(101,FB),(9,.slice (some ⟨(.dyn 80),(v 83)⟩) (v 81) (v 82))] (.slice (some ⟨(.dyn 80),(v 83)⟩) (v 81) (v 82)) 102:=⟨fun st=>by kernel_rfl,fun st=>by kernel_rfl,fun st=>by kernel_rfl,by kernel_rfl,rfl⟩
theorem rx_22:OpV 204 rxD 22 [] [] [(101,FB),(15,i64 (v 15))] (i64 (v 15)) 103:=⟨fun st=>by kernel_rfl,fun st=>by kernel_rfl,fun st=>by kernel_rfl,by kernel_rfl,rfl⟩
theorem rx_23:OpV 204 rxD 23 [((.cmp .lss (v 15) (.tn (v 81))),true),((.cmp .leq (.lit 0) (v 15)),true)] [] [(101,FB),(102,.slice (some ⟨(.dyn 80),(v 83)⟩) (v 81) (v 82)),(103,i64 (v 15))] (.ptr (some ⟨(.dyn 80),(.plus (.tn (v 83)) (.tn (v 15)))⟩)) 104:=⟨fun st=>by kernel_rfl,fun st=>by kernel_rfl,fun st=>by kernel_rfl,by kernel_rfl,rfl⟩
theorem rx_24:OpV 204 rxD 24 [] [(⟨(.dyn 80),(.plus (.tn (v 83)) (.tn (v 15)))⟩,i64 (v 16))] [(101,FB),(104,.ptr (some ⟨(.dyn 80),(.plus (.tn (v 83)) (.tn (v 15)))⟩))] (i64 (v 16)) 105:=⟨fun st=>by kernel_rfl,fun st=>by kernel_rfl,fun st=>by kernel_rfl,by kernel_rfl,rfl⟩
theorem rx_25:OpV 204 rxD 25 [] [] [(101,FB),(9,.slice (some ⟨(.dyn 80),(v 83)⟩) (v 81) (v 82))] (.slice (some ⟨(.dyn 80),(v 83)⟩) (v 81) (v 82)) 106:=⟨fun st=>by kernel_rfl,fun st=>by kernel_rfl,fun st=>by kernel_rfl,by kernel_rfl,rfl⟩
theorem rx_26:OpV 204 rxD 26 [] [] [(101,FB),(11,i64 (v 10))] (i64 (v 10)) 107:=⟨fun st=>by kernel_rfl,fun st=>by kernel_rfl,fun st=>by kernel_rfl,by kernel_rfl,rfl⟩
theorem rx_27:OpV 204 rxD 27 [((.cmp .lss (v 10) (.tn (v 81))),true),((.cmp .leq (.lit 0) (v 10)),true)] [] [(101,FB),(106,.slice (some ⟨(.dyn 80),(v 83)⟩) (v 81) (v 82)),(107,i64 (v 10))] (.ptr (some ⟨(.dyn 80),(.plus (.tn (v 83)) (.tn (v 10)))⟩)) 108:=⟨fun st=>by kernel_rfl,fun st=>by kernel_rfl,fun st=>by kernel_rfl,by kernel_rfl,rfl⟩
theorem rx_28:OpV 204 rxD 28 [] [(⟨(.dyn 80),(.plus (.tn (v 83)) (.tn (v 10)))⟩,i64 (v 11))] [(101,FB),(108,.ptr (some ⟨(.dyn 80),(.plus (.tn (v 83)) (.tn (v 10)))⟩))] (i64 (v 11)) 109:=⟨fun st=>by kernel_rfl,fun st=>by kernel_rfl,fun st=>by kernel_rfl,by kernel_rfl,rfl⟩
theorem rx_29:OpV 204 rxD 29 [((.cmp .geq (v 16) (v 11)),false)] [] [(101,FB),(105,i64 (v 16)),(109,i64 (v 11))] (FB) 110:=⟨fun st=>by kernel_rfl,fun st=>by kernel_rfl,fun st=>by kernel_rfl,by kernel_rfl,rfl⟩
theorem rx_30:OpV 204 rxD 30 [] [] [(101,FB),(110,FB)] (FB) 111:=⟨fun st=>by kernel_rfl,fun st=>by kernel_rfl,fun st=>by kernel_rfl,by kernel_rfl,rfl⟩
theorem rx_31:OpV 204 rxD 31 [] [] [(111,FB)] (FB) 112:=⟨fun st=>by kernel_rfl,fun st=>by kernel_rfl,fun st=>by kernel_rfl,by kernel_rfl,rfl⟩
theorem rx_32:OpV 204 rxD 32 [] [(⟨(.dyn 64),(.lit 0)⟩,.opq 8),(⟨(.dyn 64),(.lit 1)⟩,.opq 9)] [(112,FB),(3,ptr0 64)] (.agg [.opq 8,.opq 9]) 113:=⟨fun st=>by kernel_rfl,fun st=>by kernel_rfl,fun st=>by kernel_rfl,by kernel_rfl,rfl⟩
theorem rx_33:OpC 204 rxD 33 [(112,FB),(113,.agg [.opq 8,.opq 9])] 8 [.agg [.opq 8,.opq 9]] 114:=⟨fun st=>by kernel_rfl,fun st=>by kernel_rfl,fun st=>by kernel_rfl,by kernel_rfl,by decide,rfl⟩
theorem rx_34:OpV 204 rxD 34 [] [] [(112,FB),(15,i64 (v 15))] (i64 (v 15)) 115:=⟨fun st=>by kernel_rfl,fun st=>by kernel_rfl,fun st=>by kernel_rfl,by kernel_rfl,rfl⟩
theorem rx_35:OpC 204 rxD 35 [(112,FB),(114,.opq 33),(115,i64 (v 15))] 15 [.opq 33,i64 (v 15)] 116:=⟨fun st=>by kernel_rfl,fun st=>by kernel_rfl,fun st=>by kernel_rfl,by kernel_rfl,by decide,rfl⟩
theorem rx_36:OpV 204 rxD 36 [] [] [(112,FB),(11,i64 (v 10))] (i64 (v 10)) 117:=⟨fun st=>by kernel_rfl,fun st=>by kernel_rfl,fun st=>by kernel_rfl,by kernel_rfl,rfl⟩
theorem rx_37:OpC 204 rxD 37 [(112,FB),(116,.opq 35),(117,i64 (v 10))] 14 [.opq 35,i64 (v 10)] 118:=⟨fun st=>by kernel_rfl,fun st=>by kernel_rfl,fun st=>by kernel_rfl,by kernel_rfl,by decide,rfl⟩
theorem rx_38:OpV 204 rxD 38 [] [] [(112,FB),(118,TB)] (FB) 119:=⟨fun st=>by kernel_rfl,fun st=>by kernel_rfl,fun st=>by kernel_rfl,by kernel_rfl,rfl⟩
theorem rx_39:OpV 204 rxD 39 [] [] [(112,FB),(119,FB)] (FB) 120:=⟨fun st=>by kernel_rfl,fun st=>by kernel_rfl,fun st=>by kernel_rfl,by kernel_rfl,rfl⟩
def rxN(i:Nat):Nat:=match i with
 |0=>81|1=>82|2=>83|3=>84|4=>85|5=>86|6=>87|7=>88|8=>89|9=>90|10=>91|11=>92|12=>93|13=>94|14=>95|15=>96|16=>97|17=>98|18=>99|19=>100|20=>101|21=>102|22=>103|23=>104|24=>105|25=>106|26=>107|27=>108|28=>109|29=>110|30=>111|31=>112|32=>113|33=>114|34=>115|35=>116|36=>117|37=>118|38=>119|_=>120
noncomputable abbrev rxB:List (Nat×AV):=[(2,i64 (v 30)),(3,ptr0 64),(4,ptr0 65),(7,.opq 7),(8,i64 (v 5)),(9,.slice (some ⟨(.dyn 80),(v 83)⟩) (v 81) (v 82)),(11,i64 (v 10)),(12,.slice (some ⟨(.dyn 70),(v 73)⟩) (v 71) (v 72)),(13,.opq 13),(14,i64 (v 14)),(15,i64 (v 15))]
noncomputable abbrev rxM:List (AA×AV):=[(⟨(.dyn 64),(.lit 0)⟩,.opq 8),(⟨(.dyn 64),(.lit 1)⟩,.opq 9),(⟨(.dyn 80),(.plus (.tn (v 83)) (.tn (v 15)))⟩,i64 (v 16)),(⟨(.dyn 80),(.plus (.tn (v 83)) (.tn (v 10)))⟩,i64 (v 11))]
noncomputable abbrev rxS:List (BE×Bool):=[((.cmp .lss (v 10) (.tn (v 81))),true),((.cmp .leq (.lit 0) (v 10)),true),((.cmp .lss (v 10) (.lit 0)),false),((.cmp .geq (v 10) (.tn (v 81))),false),((.cmp .lss (v 15) (.tn (v 81))),true),((.cmp .leq (.lit 0) (v 15)),true),((.cmp .lss (v 15) (.lit 0)),false),((.cmp .geq (v 15) (.tn (v 81))),false),((.cmp .geq (v 15) (v 10)),false),((.cmp .geq (v 16) (v 11)),false),((.cmp .gtr (v 14) (.lit 0)),false)]
noncomputable def rxV(ρ:Env)(F:FlowD)(i:Nat)(u:Value)(w:World):Prop:=match i with
 |0=>u=(i64 (v 15):AV).ev ρ
 |1=>u=(FB:AV).ev ρ
 |2=>u=(FB:AV).ev ρ
 |3=>u=(i64 (v 15):AV).ev ρ
 |4=>u=(i64 (v 10):AV).ev ρ
 |5=>u=(FB:AV).ev ρ
 |6=>u=(FB:AV).ev ρ
 |7=>u=(FB:AV).ev ρ
 |8=>u=(i64 (v 14):AV).ev ρ
 |9=>u=(FB:AV).ev ρ
 |10=>u=(FB:AV).ev ρ
 |11=>True
 |12=>True
 |13=>True
 |14=>True
 |15=>True
 |16=>True
 |17=>True
 |18=>u=(FB:AV).ev ρ
 |19=>u=(FB:AV).ev ρ
 |20=>u=(FB:AV).ev ρ
 |21=>u=(.slice (some ⟨(.dyn 80),(v 83)⟩) (v 81) (v 82):AV).ev ρ
 |22=>u=(i64 (v 15):AV).ev ρ
 |23=>u=(.ptr (some ⟨(.dyn 80),(.plus (.tn (v 83)) (.tn (v 15)))⟩):AV).ev ρ
 |24=>u=(i64 (v 16):AV).ev ρ
 |25=>u=(.slice (some ⟨(.dyn 80),(v 83)⟩) (v 81) (v 82):AV).ev ρ
 |26=>u=(i64 (v 10):AV).ev ρ
 |27=>u=(.ptr (some ⟨(.dyn 80),(.plus (.tn (v 83)) (.tn (v 10)))⟩):AV).ev ρ
 |28=>u=(i64 (v 11):AV).ev ρ
 |29=>u=(FB:AV).ev ρ
 |30=>u=(FB:AV).ev ρ
 |31=>u=(FB:AV).ev ρ
 |32=>u=(.agg [.opq 8,.opq 9]:AV).ev ρ
 |33=>FlowAt w u F
 |34=>u=(i64 (v 15):AV).ev ρ
 |35=>∃U,IntsAt w u U∧U.length≤1000000∧ρ.i 10∈U
 |36=>u=(i64 (v 10):AV).ev ρ
 |37=>u=(TB).ev ρ
 |38=>u=(FB:AV).ev ρ
 |_=>u=(FB:AV).ev ρ
theorem rxV_keep{ρ:Env}{F:FlowD}(i:Nat)(u:Value)(w w':World)(h:rxV ρ F i u w)(f:Fresh w w'):rxV ρ F i u w':=by
 unfold rxV at h⊢
 split at h
 all_goals first|exact h|exact(let⟨U,h1,h2⟩:=h;⟨U,h1.keep f,h2⟩)|exact FlowAt.keep h f
section
variable {w w0:World}{cs:List Frame}{fr:Frame}
theorem rx_step{ρ:Env}{F:FlowD}{x i:Nat}{y:LetD}{k:List Item}(hF:FlowIn w0 (.agg #[ρ.v 8,ρ.v 9]) F)(hlen:F.lets.length≤1000000)(htr:∀x∈F.lets,x.tree.length≤999999)(hol:F.outs.length≤4294967296)(h0:(chkF F).1=0)(hne:∀(i:Nat) (x:LetD),F.lets[i]?=some x->x.tree≠[])(hx:x<F.lets.length)(ex:ρ.i 15=x)(hy:F.lets[i]?=some y)(ei:ρ.i 10=i)(hn:(x:Int)∈needsF y)(hbs:AllB ρ rxS)(hmem:AllM ρ w0 rxM):
  ∀i,i<40->(true)=true->∀(l:List Nat) (w:World) (fr:Frame) (lv:List (Nat×Value)),Fresh w0 w->FA 4 204 (.inRegion rxD (i::l)::k) [] .normal lv fr->(∀x∈told ρ rxB,x∈lv)->(∀p∈preN rxD i,∃v,(rxN p,v)∈lv∧rxV ρ F p v w)->
   Goes (G fr cs) w fun g' w'=>∃fr' v,g'=G fr' cs∧Fresh w w'∧rxV ρ F i v w'∧FA 4 204 (.inRegion rxD l::k) [] .normal (lvPut (rxN i) v lv) fr':=by
 intro i hi he l w fr lv f hf hb hp
 have bm:∀{j:Nat} {q:Nat×Value},(told ρ rxB)[j]?=some q->q∈lv:=fun h=>hb _ (List.mem_of_getElem? h)
 rcases(by omega:i=0∨i=1∨i=2∨i=3∨i=4∨i=5∨i=6∨i=7∨i=8∨i=9∨i=10∨i=11∨i=12∨i=13∨i=14∨i=15∨i=16∨i=17∨i=18∨i=19∨i=20∨i=21∨i=22∨i=23∨i=24∨i=25∨i=26∨i=27∨i=28∨i=29∨i=30∨i=31∨i=32∨i=33∨i=34∨i=35∨i=36∨i=37∨i=38∨i=39)with rfl|rfl|rfl|rfl|rfl|rfl|rfl|rfl|rfl|rfl|rfl|rfl|rfl|rfl|rfl|rfl|rfl|rfl|rfl|rfl|rfl|rfl|rfl|rfl|rfl|rfl|rfl|rfl|rfl|rfl|rfl|rfl|rfl|rfl|rfl|rfl|rfl|rfl|rfl|rfl
 ·exact rx_0.goM ρ hf (by decide) (mem1 (bm (j:=10) rfl)) trivial trivial rfl
 ·obtain⟨v0,q0,e0⟩:=hp 0 (pin (by kernel_rfl))
  have e0:v0=(i64 (v 15):AV).ev ρ:=e0
  subst e0
  exact rx_1.goM ρ hf (by decide) (mem1 q0) ⟨hbs.2.2.2.2.2.2.1,trivial⟩ trivial rfl
 ·obtain⟨v1,q1,e1⟩:=hp 1 (pin (by kernel_rfl))
  have e1:v1=(FB:AV).ev ρ:=e1
  subst e1
  exact rx_2.goM ρ hf (by decide) (mem1 q1) trivial trivial rfl
 ·obtain⟨v2,q2,e2⟩:=hp 2 (pin (by kernel_rfl))
  have e2:v2=(FB:AV).ev ρ:=e2
  subst e2
  exact rx_3.goM ρ hf (by decide) (mem2 q2 (bm (j:=10) rfl)) trivial trivial rfl
 ·obtain⟨v2,q2,e2⟩:=hp 2 (pin (by kernel_rfl))
  have e2:v2=(FB:AV).ev ρ:=e2
  subst e2
  exact rx_4.goM ρ hf (by decide) (mem2 q2 (bm (j:=6) rfl)) trivial trivial rfl
 ·obtain⟨v2,q2,e2⟩:=hp 2 (pin (by kernel_rfl))
  have e2:v2=(FB:AV).ev ρ:=e2
  subst e2
  obtain⟨v3,q3,e3⟩:=hp 3 (pin (by kernel_rfl))
  have e3:v3=(i64 (v 15):AV).ev ρ:=e3
  subst e3
  obtain⟨v4,q4,e4⟩:=hp 4 (pin (by kernel_rfl))
  have e4:v4=(i64 (v 10):AV).ev ρ:=e4
  subst e4
  exact rx_5.goM ρ hf (by decide) (mem3 q2 q3 q4) ⟨hbs.2.2.2.2.2.2.2.2.1,trivial⟩ trivial rfl
 ·obtain⟨v2,q2,e2⟩:=hp 2 (pin (by kernel_rfl))
  have e2:v2=(FB:AV).ev ρ:=e2
  subst e2
  obtain⟨v5,q5,e5⟩:=hp 5 (pin (by kernel_rfl))
  have e5:v5=(FB:AV).ev ρ:=e5
  subst e5
  exact rx_6.goM ρ hf (by decide) (mem2 q2 q5) trivial trivial rfl
 ·obtain⟨v6,q6,e6⟩:=hp 6 (pin (by kernel_rfl))
  have e6:v6=(FB:AV).ev ρ:=e6
  subst e6
  exact rx_7.goM ρ hf (by decide) (mem1 q6) trivial trivial rfl
 ·obtain⟨v7,q7,e7⟩:=hp 7 (pin (by kernel_rfl))
  have e7:v7=(FB:AV).ev ρ:=e7
  subst e7
  exact rx_8.goM ρ hf (by decide) (mem2 q7 (bm (j:=9) rfl)) trivial trivial rfl
 ·obtain⟨v7,q7,e7⟩:=hp 7 (pin (by kernel_rfl))
  have e7:v7=(FB:AV).ev ρ:=e7
  subst e7
  obtain⟨v8,q8,e8⟩:=hp 8 (pin (by kernel_rfl))
  have e8:v8=(i64 (v 14):AV).ev ρ:=e8
  subst e8
  exact rx_9.goM ρ hf (by decide) (mem2 q7 q8) ⟨hbs.2.2.2.2.2.2.2.2.2.2.1,trivial⟩ trivial rfl
 ·obtain⟨v7,q7,e7⟩:=hp 7 (pin (by kernel_rfl))
  have e7:v7=(FB:AV).ev ρ:=e7
  subst e7
  obtain⟨v9,q9,e9⟩:=hp 9 (pin (by kernel_rfl))
  have e9:v9=(FB:AV).ev ρ:=e9
  subst e9
  exact rx_10.goM ρ hf (by decide) (mem2 q7 q9) trivial trivial rfl
 ·obtain⟨v10,q10,e10⟩:=hp 10 (pin (by kernel_rfl))
  have e10:v10=(FB:AV).ev ρ:=e10
  subst e10
  exact rx_11.goM ρ hf (by decide) (mem1 q10)
 ·obtain⟨v10,q10,e10⟩:=hp 10 (pin (by kernel_rfl))
  have e10:v10=(FB:AV).ev ρ:=e10
  subst e10
  exact rx_12.goM ρ hf (by decide) (mem1 q10)
 ·obtain⟨v10,q10,e10⟩:=hp 10 (pin (by kernel_rfl))
  have e10:v10=(FB:AV).ev ρ:=e10
  subst e10
  exact rx_13.goM ρ hf (by decide) (mem1 q10)
 ·obtain⟨v10,q10,e10⟩:=hp 10 (pin (by kernel_rfl))
  have e10:v10=(FB:AV).ev ρ:=e10
  subst e10
  exact rx_14.goM ρ hf (by decide) (mem1 q10)
 ·obtain⟨v10,q10,e10⟩:=hp 10 (pin (by kernel_rfl))
  have e10:v10=(FB:AV).ev ρ:=e10
  subst e10
  exact rx_15.goM ρ hf (by decide) (mem1 q10)
 ·obtain⟨v10,q10,e10⟩:=hp 10 (pin (by kernel_rfl))
  have e10:v10=(FB:AV).ev ρ:=e10
  subst e10
  exact rx_16.goM ρ hf (by decide) (mem1 q10)
 ·obtain⟨v10,q10,e10⟩:=hp 10 (pin (by kernel_rfl))
  have e10:v10=(FB:AV).ev ρ:=e10
  subst e10
  exact rx_17.goM ρ hf (by decide) (mem1 q10)
 ·obtain⟨v7,q7,e7⟩:=hp 7 (pin (by kernel_rfl))
  have e7:v7=(FB:AV).ev ρ:=e7
  subst e7
  obtain⟨v10,q10,e10⟩:=hp 10 (pin (by kernel_rfl))
  have e10:v10=(FB:AV).ev ρ:=e10
  subst e10
  exact rx_18.goM ρ hf (by decide) (mem2 q7 q10) trivial trivial rfl
 ·obtain⟨v7,q7,e7⟩:=hp 7 (pin (by kernel_rfl))
  have e7:v7=(FB:AV).ev ρ:=e7
  subst e7
  obtain⟨v18,q18,e18⟩:=hp 18 (pin (by kernel_rfl))
  have e18:v18=(FB:AV).ev ρ:=e18
  subst e18
  exact rx_19.goM ρ hf (by decide) (mem2 q7 q18) trivial trivial rfl
 ·obtain⟨v19,q19,e19⟩:=hp 19 (pin (by kernel_rfl))
  have e19:v19=(FB:AV).ev ρ:=e19
  subst e19
  exact rx_20.goM ρ hf (by decide) (mem1 q19) trivial trivial rfl
 ·obtain⟨v20,q20,e20⟩:=hp 20 (pin (by kernel_rfl))
  have e20:v20=(FB:AV).ev ρ:=e20
  subst e20
  exact rx_21.goM ρ hf (by decide) (mem2 q20 (bm (j:=5) rfl)) trivial trivial rfl
 ·obtain⟨v20,q20,e20⟩:=hp 20 (pin (by kernel_rfl))
  have e20:v20=(FB:AV).ev ρ:=e20
  subst e20
  exact rx_22.goM ρ hf (by decide) (mem2 q20 (bm (j:=10) rfl)) trivial trivial rfl
 ·obtain⟨v20,q20,e20⟩:=hp 20 (pin (by kernel_rfl))
  have e20:v20=(FB:AV).ev ρ:=e20
  subst e20
  obtain⟨v21,q21,e21⟩:=hp 21 (pin (by kernel_rfl))
  have e21:v21=(.slice (some ⟨(.dyn 80),(v 83)⟩) (v 81) (v 82):AV).ev ρ:=e21
  subst e21
  obtain⟨v22,q22,e22⟩:=hp 22 (pin (by kernel_rfl))
  have e22:v22=(i64 (v 15):AV).ev ρ:=e22
  subst e22
  exact rx_23.goM ρ hf (by decide) (mem3 q20 q21 q22) ⟨hbs.2.2.2.2.1,hbs.2.2.2.2.2.1,trivial⟩ trivial rfl
 ·obtain⟨v20,q20,e20⟩:=hp 20 (pin (by kernel_rfl))
  have e20:v20=(FB:AV).ev ρ:=e20
  subst e20
  obtain⟨v23,q23,e23⟩:=hp 23 (pin (by kernel_rfl))
  have e23:v23=(.ptr (some ⟨(.dyn 80),(.plus (.tn (v 83)) (.tn (v 15)))⟩):AV).ev ρ:=e23
  subst e23
  exact rx_24.goM ρ hf (by decide) (mem2 q20 q23) trivial ⟨f.cell hmem.2.2.1,trivial⟩ rfl
 ·obtain⟨v20,q20,e20⟩:=hp 20 (pin (by kernel_rfl))
  have e20:v20=(FB:AV).ev ρ:=e20
  subst e20
  exact rx_25.goM ρ hf (by decide) (mem2 q20 (bm (j:=5) rfl)) trivial trivial rfl
 ·obtain⟨v20,q20,e20⟩:=hp 20 (pin (by kernel_rfl))
  have e20:v20=(FB:AV).ev ρ:=e20
  subst e20
  exact rx_26.goM ρ hf (by decide) (mem2 q20 (bm (j:=6) rfl)) trivial trivial rfl
 ·obtain⟨v20,q20,e20⟩:=hp 20 (pin (by kernel_rfl))
  have e20:v20=(FB:AV).ev ρ:=e20
  subst e20
  obtain⟨v25,q25,e25⟩:=hp 25 (pin (by kernel_rfl))
  have e25:v25=(.slice (some ⟨(.dyn 80),(v 83)⟩) (v 81) (v 82):AV).ev ρ:=e25
  subst e25
  obtain⟨v26,q26,e26⟩:=hp 26 (pin (by kernel_rfl))
  have e26:v26=(i64 (v 10):AV).ev ρ:=e26
  subst e26
  exact rx_27.goM ρ hf (by decide) (mem3 q20 q25 q26) ⟨hbs.1,hbs.2.1,trivial⟩ trivial rfl
 ·obtain⟨v20,q20,e20⟩:=hp 20 (pin (by kernel_rfl))
  have e20:v20=(FB:AV).ev ρ:=e20
  subst e20
  obtain⟨v27,q27,e27⟩:=hp 27 (pin (by kernel_rfl))
  have e27:v27=(.ptr (some ⟨(.dyn 80),(.plus (.tn (v 83)) (.tn (v 10)))⟩):AV).ev ρ:=e27
  subst e27
  exact rx_28.goM ρ hf (by decide) (mem2 q20 q27) trivial ⟨f.cell hmem.2.2.2.1,trivial⟩ rfl
 ·obtain⟨v20,q20,e20⟩:=hp 20 (pin (by kernel_rfl))
  have e20:v20=(FB:AV).ev ρ:=e20
  subst e20
  obtain⟨v24,q24,e24⟩:=hp 24 (pin (by kernel_rfl))
  have e24:v24=(i64 (v 16):AV).ev ρ:=e24
  subst e24
  obtain⟨v28,q28,e28⟩:=hp 28 (pin (by kernel_rfl))
  have e28:v28=(i64 (v 11):AV).ev ρ:=e28
  subst e28
  exact rx_29.goM ρ hf (by decide) (mem3 q20 q24 q28) ⟨hbs.2.2.2.2.2.2.2.2.2.1,trivial⟩ trivial rfl
 ·obtain⟨v20,q20,e20⟩:=hp 20 (pin (by kernel_rfl))
  have e20:v20=(FB:AV).ev ρ:=e20
  subst e20
  obtain⟨v29,q29,e29⟩:=hp 29 (pin (by kernel_rfl))
  have e29:v29=(FB:AV).ev ρ:=e29
  subst e29
  exact rx_30.goM ρ hf (by decide) (mem2 q20 q29) trivial trivial rfl
 ·obtain⟨v30,q30,e30⟩:=hp 30 (pin (by kernel_rfl))
  have e30:v30=(FB:AV).ev ρ:=e30
  subst e30
  exact rx_31.goM ρ hf (by decide) (mem1 q30) trivial trivial rfl
 ·obtain⟨v31,q31,e31⟩:=hp 31 (pin (by kernel_rfl))
  have e31:v31=(FB:AV).ev ρ:=e31
  subst e31
  exact rx_32.goM ρ hf (by decide) (mem2 q31 (bm (j:=1) rfl)) trivial ⟨f.cell hmem.1,f.cell hmem.2.1,trivial⟩ rfl
 ·obtain⟨v31,q31,e31⟩:=hp 31 (pin (by kernel_rfl))
  have e31:v31=(FB:AV).ev ρ:=e31
  subst e31
  obtain⟨v32,q32,e32⟩:=hp 32 (pin (by kernel_rfl))
  have e32:v32=(.agg [.opq 8,.opq 9]:AV).ev ρ:=e32
  subst e32
  exact rx_33.goM ρ (Q:=fun v w'=>FlowAt w' v F) hf (mem2 q31 q32) (fun w' f1=>copyFlow_all (hF.keep (f.trans f1)) hlen htr hol)
 ·obtain⟨v31,q31,e31⟩:=hp 31 (pin (by kernel_rfl))
  have e31:v31=(FB:AV).ev ρ:=e31
  subst e31
  exact rx_34.goM ρ hf (by decide) (mem2 q31 (bm (j:=10) rfl)) trivial trivial rfl
 ·obtain⟨v31,q31,e31⟩:=hp 31 (pin (by kernel_rfl))
  have e31:v31=(FB:AV).ev ρ:=e31
  subst e31
  obtain⟨v33,q33,e33⟩:=hp 33 (pin (by kernel_rfl))
  have e33:FlowAt w v33 F:=e33
  obtain⟨v34,q34,e34⟩:=hp 34 (pin (by kernel_rfl))
  have e34:v34=(i64 (v 15):AV).ev ρ:=e34
  subst e34
  refine rx_35.goM (mkE [(15,ρ.i 15)] [] [(33,v33)]) (Q:=fun v w'=>∃U,IntsAt w' v U∧U.length≤1000000∧ρ.i 10∈U) hf (mem3 q31 q33 q34) (fun w' f1=>?_)
  show Ans 15 #[v33,iV (ρ.i 15)] w' _
  rw[ex]
  exact(Users_all (e33.keep f1) hlen htr h0 hne hx).mono fun v w2 hd=>⟨hd.1,let⟨U,h1,h2,h3⟩:=hd.2;⟨U,h1,by omega,by rw[ei];exact h3 _ _ hy hn⟩⟩
 ·obtain⟨v31,q31,e31⟩:=hp 31 (pin (by kernel_rfl))
  have e31:v31=(FB:AV).ev ρ:=e31
  subst e31
  exact rx_36.goM ρ hf (by decide) (mem2 q31 (bm (j:=6) rfl)) trivial trivial rfl
 ·obtain⟨v31,q31,e31⟩:=hp 31 (pin (by kernel_rfl))
  have e31:v31=(FB:AV).ev ρ:=e31
  subst e31
  obtain⟨v35,q35,e35⟩:=hp 35 (pin (by kernel_rfl))
  have e35:∃U,IntsAt w v35 U∧U.length≤1000000∧ρ.i 10∈U:=e35
  obtain⟨v36,q36,e36⟩:=hp 36 (pin (by kernel_rfl))
  have e36:v36=(i64 (v 10):AV).ev ρ:=e36
  subst e36
  obtain⟨U,u1,u2,u3⟩:=e35
  exact rx_37.goM (mkE [(10,ρ.i 10)] [] [(35,v35)]) (Q:=fun v w'=>v=(TB).ev ρ) hf (mem3 q31 q35 q36) (fun w' f1=>hasInt_all (u1.keep f1) u2 u3)
 ·obtain⟨v31,q31,e31⟩:=hp 31 (pin (by kernel_rfl))
  have e31:v31=(FB:AV).ev ρ:=e31
  subst e31
  obtain⟨v37,q37,e37⟩:=hp 37 (pin (by kernel_rfl))
  have e37:v37=(TB).ev ρ:=e37
  subst e37
  exact rx_38.goM ρ hf (by decide) (mem2 q31 q37) trivial trivial rfl
 ·obtain⟨v31,q31,e31⟩:=hp 31 (pin (by kernel_rfl))
  have e31:v31=(FB:AV).ev ρ:=e31
  subst e31
  obtain⟨v38,q38,e38⟩:=hp 38 (pin (by kernel_rfl))
  have e38:v38=(FB:AV).ev ρ:=e38
  subst e38
  exact rx_39.goM ρ hf (by decide) (mem2 q31 q38) trivial trivial rfl
theorem rx_all{ρ:Env}{F:FlowD}{x i:Nat}{y:LetD}{k:List Item}{lv:List (Nat×Value)}(hF:FlowIn w (.agg #[ρ.v 8,ρ.v 9]) F)(hlen:F.lets.length≤1000000)(htr:∀x∈F.lets,x.tree.length≤999999)(hol:F.outs.length≤4294967296)(h0:(chkF F).1=0)(hne:∀(i:Nat) (x:LetD),F.lets[i]?=some x->x.tree≠[])(hx:x<F.lets.length)(ex:ρ.i 15=x)(hy:F.lets[i]?=some y)(ei:ρ.i 10=i)(hn:(x:Int)∈needsF y)(hbs:AllB ρ rxS)(hmem:AllM ρ w rxM)(hl:Tell lv (told ρ rxB))(hf:FA 4 204 (.code (q4 [1,1,1,1,1,1,0,1,0,0,1,0,0,1,1,0,1,0,0,1,0,0,1,0,0])::k) [] .normal lv fr):
  Goes (G fr cs) w fun g' w'=>∃fr' lv',g'=G fr' cs∧Fresh w w'∧FA 4 204 (.inRegion rxD []::k) [] .normal lv' fr'∧(∀x∈told ρ rxB,x∈lv')∧∀i,i<40->(true)=true->∃v,(rxN i,v)∈lv'∧rxV ρ F i v w':=by
 obtain⟨id,hid⟩:=draw_is (c:=q4 [1,1,1,1,1,1,0,1,0,0,1,0,0,1,1,0,1,0,0,1,0,0,1,0,0]) (by kernel_rfl)
 have hf:=hf.only hl
 rw[hid]at hf
 refine(draw_in hf).trans fun g1 w1 hd=>?_
 obtain⟨ls,fr1,rfl,f1,hs,F1⟩:=hd
 refine(draw_up (b:=told ρ rxB) (nm:=rxN) (val:=rxV ρ F) (early:=fun _=>true) (late:=[]) (n:=40) (w0:=w) (by kernel_rfl) (by kernel_rfl) (by kernel_rfl) (by kernel_rfl) (by kernel_rfl) (by kernel_rfl) (by kernel_rfl) List.Pairwise.nil rxV_keep (rx_step hF hlen htr hol h0 hne hx ex hy ei hn hbs hmem) ls [] f1 (fun i hi=>by cases hi) hs ⟨_,F1,fun x hx=>hx,fun i hi=>by cases hi⟩).mono fun g2 w2 hd2=>?_
 obtain⟨fr2,lv,h1,h2,h3,h4,h5⟩:=hd2
 exact⟨fr2,lv,h1,h2,h3,h4,h5⟩
end
theorem ry_9:OpV 204 rxD 9 [((.cmp .gtr (v 14) (.lit 0)),true)] [] [(88,FB),(89,i64 (v 14))] (TB) 90:=⟨fun st=>by kernel_rfl,fun st=>by kernel_rfl,fun st=>by kernel_rfl,by kernel_rfl,rfl⟩
theorem ry_10:OpV 204 rxD 10 [] [] [(88,FB),(90,TB)] (TB) 91:=⟨fun st=>by kernel_rfl,fun st=>by kernel_rfl,fun st=>by kernel_rfl,by kernel_rfl,rfl⟩
theorem ry_11:OpV 204 rxD 11 [] [] [(91,TB),(15,i64 (v 15))] (i64 (v 15)) 92:=⟨fun st=>by kernel_rfl,fun st=>by kernel_rfl,fun st=>by kernel_rfl,by kernel_rfl,rfl⟩
theorem ry_12:OpV 204 rxD 12 [] [] [(91,TB),(12,.slice (some ⟨(.dyn 70),(v 73)⟩) (v 71) (v 72))] (.slice (some ⟨(.dyn 70),(v 73)⟩) (v 71) (v 72)) 93:=⟨fun st=>by kernel_rfl,fun st=>by kernel_rfl,fun st=>by kernel_rfl,by kernel_rfl,rfl⟩
theorem ry_13:OpV 204 rxD 13 [] [] [(91,TB),(14,i64 (v 14))] (i64 (v 14)) 94:=⟨fun st=>by kernel_rfl,fun st=>by kernel_rfl,fun st=>by kernel_rfl,by kernel_rfl,rfl⟩
theorem ry_14:OpV 204 rxD 14 [] [] [(91,TB),(94,i64 (v 14))] (i64 (.op .sub .i64 (v 14) (.lit 1))) 95:=⟨fun st=>by kernel_rfl,fun st=>by kernel_rfl,fun st=>by kernel_rfl,by kernel_rfl,rfl⟩
theorem ry_15:OpV 204 rxD 15 [((.cmp .lss (.op .sub .i64 (v 14) (.lit 1)) (.tn (v 71))),true),((.cmp .leq (.lit 0) (.op .sub .i64 (v 14) (.lit 1))),true)] [] [(91,TB),(93,.slice (some ⟨(.dyn 70),(v 73)⟩) (v 71) (v 72)),(95,i64 (.op .sub .i64 (v 14) (.lit 1)))] (.ptr (some ⟨(.dyn 70),(.plus (.tn (v 73)) (.tn (.op .sub .i64 (v 14) (.lit 1))))⟩)) 96:=⟨fun st=>by kernel_rfl,fun st=>by kernel_rfl,fun st=>by kernel_rfl,by kernel_rfl,rfl⟩
theorem ry_16:OpV 204 rxD 16 [] [(⟨(.dyn 70),(.plus (.tn (v 73)) (.tn (.op .sub .i64 (v 14) (.lit 1))))⟩,i64 (v 17))] [(91,TB),(96,.ptr (some ⟨(.dyn 70),(.plus (.tn (v 73)) (.tn (.op .sub .i64 (v 14) (.lit 1))))⟩))] (i64 (v 17)) 97:=⟨fun st=>by kernel_rfl,fun st=>by kernel_rfl,fun st=>by kernel_rfl,by kernel_rfl,rfl⟩
theorem ry_17:OpV 204 rxD 17 [((.cmp .leq (v 15) (v 17)),false)] [] [(91,TB),(92,i64 (v 15)),(97,i64 (v 17))] (FB) 98:=⟨fun st=>by kernel_rfl,fun st=>by kernel_rfl,fun st=>by kernel_rfl,by kernel_rfl,rfl⟩
theorem ry_18:OpV 204 rxD 18 [] [] [(88,FB),(91,TB),(98,FB)] (FB) 99:=⟨fun st=>by kernel_rfl,fun st=>by kernel_rfl,fun st=>by kernel_rfl,by kernel_rfl,rfl⟩
def ryN(i:Nat):Nat:=match i with
 |0=>81|1=>82|2=>83|3=>84|4=>85|5=>86|6=>87|7=>88|8=>89|9=>90|10=>91|11=>92|12=>93|13=>94|14=>95|15=>96|16=>97|17=>98|18=>99|19=>100|20=>101|21=>102|22=>103|23=>104|24=>105|25=>106|26=>107|27=>108|28=>109|29=>110|30=>111|31=>112|32=>113|33=>114|34=>115|35=>116|36=>117|37=>118|38=>119|_=>120
noncomputable abbrev ryB:List (Nat×AV):=[(2,i64 (v 30)),(3,ptr0 64),(4,ptr0 65),(7,.opq 7),(8,i64 (v 5)),(9,.slice (some ⟨(.dyn 80),(v 83)⟩) (v 81) (v 82)),(11,i64 (v 10)),(12,.slice (some ⟨(.dyn 70),(v 73)⟩) (v 71) (v 72)),(13,.opq 13),(14,i64 (v 14)),(15,i64 (v 15))]
noncomputable abbrev ryM:List (AA×AV):=[(⟨(.dyn 64),(.lit 0)⟩,.opq 8),(⟨(.dyn 64),(.lit 1)⟩,.opq 9),(⟨(.dyn 80),(.plus (.tn (v 83)) (.tn (v 15)))⟩,i64 (v 16)),(⟨(.dyn 80),(.plus (.tn (v 83)) (.tn (v 10)))⟩,i64 (v 11)),(⟨(.dyn 70),(.plus (.tn (v 73)) (.tn (.op .sub .i64 (v 14) (.lit 1))))⟩,i64 (v 17))]
noncomputable abbrev ryS:List (BE×Bool):=[((.cmp .lss (v 10) (.tn (v 81))),true),((.cmp .leq (.lit 0) (v 10)),true),((.cmp .lss (v 10) (.lit 0)),false),((.cmp .geq (v 10) (.tn (v 81))),false),((.cmp .lss (v 15) (.tn (v 81))),true),((.cmp .leq (.lit 0) (v 15)),true),((.cmp .lss (v 15) (.lit 0)),false),((.cmp .geq (v 15) (.tn (v 81))),false),((.cmp .geq (v 15) (v 10)),false),((.cmp .geq (v 16) (v 11)),false),((.cmp .gtr (v 14) (.lit 0)),true),((.cmp .lss (.op .sub .i64 (v 14) (.lit 1)) (.tn (v 71))),true),((.cmp .leq (.lit 0) (.op .sub .i64 (v 14) (.lit 1))),true),((.cmp .lss (.op .sub .i64 (v 14) (.lit 1)) (.lit 0)),false),((.cmp .geq (.op .sub .i64 (v 14) (.lit 1)) (.tn (v 71))),false),((.cmp .leq (v 15) (v 17)),false)]
noncomputable def ryV(ρ:Env)(F:FlowD)(i:Nat)(u:Value)(w:World):Prop:=match i with
 |0=>u=(i64 (v 15):AV).ev ρ
 |1=>u=(FB:AV).ev ρ
 |2=>u=(FB:AV).ev ρ
 |3=>u=(i64 (v 15):AV).ev ρ
 |4=>u=(i64 (v 10):AV).ev ρ
 |5=>u=(FB:AV).ev ρ
 |6=>u=(FB:AV).ev ρ
 |7=>u=(FB:AV).ev ρ
 |8=>u=(i64 (v 14):AV).ev ρ
 |9=>u=(TB:AV).ev ρ
 |10=>u=(TB:AV).ev ρ
 |11=>u=(i64 (v 15):AV).ev ρ
 |12=>u=(.slice (some ⟨(.dyn 70),(v 73)⟩) (v 71) (v 72):AV).ev ρ
 |13=>u=(i64 (v 14):AV).ev ρ
 |14=>u=(i64 (.op .sub .i64 (v 14) (.lit 1)):AV).ev ρ
 |15=>u=(.ptr (some ⟨(.dyn 70),(.plus (.tn (v 73)) (.tn (.op .sub .i64 (v 14) (.lit 1))))⟩):AV).ev ρ
 |16=>u=(i64 (v 17):AV).ev ρ
 |17=>u=(FB:AV).ev ρ
 |18=>u=(FB:AV).ev ρ
 |19=>u=(FB:AV).ev ρ
 |20=>u=(FB:AV).ev ρ
 |21=>u=(.slice (some ⟨(.dyn 80),(v 83)⟩) (v 81) (v 82):AV).ev ρ
 |22=>u=(i64 (v 15):AV).ev ρ
 |23=>u=(.ptr (some ⟨(.dyn 80),(.plus (.tn (v 83)) (.tn (v 15)))⟩):AV).ev ρ
 |24=>u=(i64 (v 16):AV).ev ρ
 |25=>u=(.slice (some ⟨(.dyn 80),(v 83)⟩) (v 81) (v 82):AV).ev ρ
 |26=>u=(i64 (v 10):AV).ev ρ
 |27=>u=(.ptr (some ⟨(.dyn 80),(.plus (.tn (v 83)) (.tn (v 10)))⟩):AV).ev ρ
 |28=>u=(i64 (v 11):AV).ev ρ
 |29=>u=(FB:AV).ev ρ
 |30=>u=(FB:AV).ev ρ
 |31=>u=(FB:AV).ev ρ
 |32=>u=(.agg [.opq 8,.opq 9]:AV).ev ρ
 |33=>FlowAt w u F
 |34=>u=(i64 (v 15):AV).ev ρ
 |35=>∃U,IntsAt w u U∧U.length≤1000000∧ρ.i 10∈U
 |36=>u=(i64 (v 10):AV).ev ρ
 |37=>u=(TB).ev ρ
 |38=>u=(FB:AV).ev ρ
 |_=>u=(FB:AV).ev ρ
theorem ryV_keep{ρ:Env}{F:FlowD}(i:Nat)(u:Value)(w w':World)(h:ryV ρ F i u w)(f:Fresh w w'):ryV ρ F i u w':=by
 unfold ryV at h⊢
 split at h
 all_goals first|exact h|exact(let⟨U,h1,h2⟩:=h;⟨U,h1.keep f,h2⟩)|exact FlowAt.keep h f
section
variable {w w0:World}{cs:List Frame}{fr:Frame}
theorem ry_step{ρ:Env}{F:FlowD}{x i:Nat}{y:LetD}{k:List Item}(hF:FlowIn w0 (.agg #[ρ.v 8,ρ.v 9]) F)(hlen:F.lets.length≤1000000)(htr:∀x∈F.lets,x.tree.length≤999999)(hol:F.outs.length≤4294967296)(h0:(chkF F).1=0)(hne:∀(i:Nat) (x:LetD),F.lets[i]?=some x->x.tree≠[])(hx:x<F.lets.length)(ex:ρ.i 15=x)(hy:F.lets[i]?=some y)(ei:ρ.i 10=i)(hn:(x:Int)∈needsF y)(hbs:AllB ρ ryS)(hmem:AllM ρ w0 ryM):
  ∀i,i<40->(true)=true->∀(l:List Nat) (w:World) (fr:Frame) (lv:List (Nat×Value)),Fresh w0 w->FA 4 204 (.inRegion rxD (i::l)::k) [] .normal lv fr->(∀x∈told ρ ryB,x∈lv)->(∀p∈preN rxD i,∃v,(ryN p,v)∈lv∧ryV ρ F p v w)->
   Goes (G fr cs) w fun g' w'=>∃fr' v,g'=G fr' cs∧Fresh w w'∧ryV ρ F i v w'∧FA 4 204 (.inRegion rxD l::k) [] .normal (lvPut (ryN i) v lv) fr':=by
 intro i hi he l w fr lv f hf hb hp
 have bm:∀{j:Nat} {q:Nat×Value},(told ρ ryB)[j]?=some q->q∈lv:=fun h=>hb _ (List.mem_of_getElem? h)
 rcases(by omega:i=0∨i=1∨i=2∨i=3∨i=4∨i=5∨i=6∨i=7∨i=8∨i=9∨i=10∨i=11∨i=12∨i=13∨i=14∨i=15∨i=16∨i=17∨i=18∨i=19∨i=20∨i=21∨i=22∨i=23∨i=24∨i=25∨i=26∨i=27∨i=28∨i=29∨i=30∨i=31∨i=32∨i=33∨i=34∨i=35∨i=36∨i=37∨i=38∨i=39)with rfl|rfl|rfl|rfl|rfl|rfl|rfl|rfl|rfl|rfl|rfl|rfl|rfl|rfl|rfl|rfl|rfl|rfl|rfl|rfl|rfl|rfl|rfl|rfl|rfl|rfl|rfl|rfl|rfl|rfl|rfl|rfl|rfl|rfl|rfl|rfl|rfl|rfl|rfl|rfl
 ·exact rx_0.goM ρ hf (by decide) (mem1 (bm (j:=10) rfl)) trivial trivial rfl
 ·obtain⟨v0,q0,e0⟩:=hp 0 (pin (by kernel_rfl))
  have e0:v0=(i64 (v 15):AV).ev ρ:=e0
  subst e0
  exact rx_1.goM ρ hf (by decide) (mem1 q0) ⟨hbs.2.2.2.2.2.2.1,trivial⟩ trivial rfl
 ·obtain⟨v1,q1,e1⟩:=hp 1 (pin (by kernel_rfl))
  have e1:v1=(FB:AV).ev ρ:=e1
  subst e1
  exact rx_2.goM ρ hf (by decide) (mem1 q1) trivial trivial rfl
 ·obtain⟨v2,q2,e2⟩:=hp 2 (pin (by kernel_rfl))
  have e2:v2=(FB:AV).ev ρ:=e2
  subst e2
  exact rx_3.goM ρ hf (by decide) (mem2 q2 (bm (j:=10) rfl)) trivial trivial rfl
 ·obtain⟨v2,q2,e2⟩:=hp 2 (pin (by kernel_rfl))
  have e2:v2=(FB:AV).ev ρ:=e2
  subst e2
  exact rx_4.goM ρ hf (by decide) (mem2 q2 (bm (j:=6) rfl)) trivial trivial rfl
 ·obtain⟨v2,q2,e2⟩:=hp 2 (pin (by kernel_rfl))
  have e2:v2=(FB:AV).ev ρ:=e2
  subst e2
  obtain⟨v3,q3,e3⟩:=hp 3 (pin (by kernel_rfl))
  have e3:v3=(i64 (v 15):AV).ev ρ:=e3
  subst e3
  obtain⟨v4,q4,e4⟩:=hp 4 (pin (by kernel_rfl))
  have e4:v4=(i64 (v 10):AV).ev ρ:=e4
  subst e4
  exact rx_5.goM ρ hf (by decide) (mem3 q2 q3 q4) ⟨hbs.2.2.2.2.2.2.2.2.1,trivial⟩ trivial rfl
 ·obtain⟨v2,q2,e2⟩:=hp 2 (pin (by kernel_rfl))
  have e2:v2=(FB:AV).ev ρ:=e2
  subst e2
  obtain⟨v5,q5,e5⟩:=hp 5 (pin (by kernel_rfl))
  have e5:v5=(FB:AV).ev ρ:=e5
  subst e5
  exact rx_6.goM ρ hf (by decide) (mem2 q2 q5) trivial trivial rfl
 ·obtain⟨v6,q6,e6⟩:=hp 6 (pin (by kernel_rfl))
  have e6:v6=(FB:AV).ev ρ:=e6
  subst e6
  exact rx_7.goM ρ hf (by decide) (mem1 q6) trivial trivial rfl
 ·obtain⟨v7,q7,e7⟩:=hp 7 (pin (by kernel_rfl))
  have e7:v7=(FB:AV).ev ρ:=e7
  subst e7
  exact rx_8.goM ρ hf (by decide) (mem2 q7 (bm (j:=9) rfl)) trivial trivial rfl
 ·obtain⟨v7,q7,e7⟩:=hp 7 (pin (by kernel_rfl))
  have e7:v7=(FB:AV).ev ρ:=e7
  subst e7
  obtain⟨v8,q8,e8⟩:=hp 8 (pin (by kernel_rfl))
  have e8:v8=(i64 (v 14):AV).ev ρ:=e8
  subst e8
  exact ry_9.goM ρ hf (by decide) (mem2 q7 q8) ⟨hbs.2.2.2.2.2.2.2.2.2.2.1,trivial⟩ trivial rfl
 ·obtain⟨v7,q7,e7⟩:=hp 7 (pin (by kernel_rfl))
  have e7:v7=(FB:AV).ev ρ:=e7
  subst e7
  obtain⟨v9,q9,e9⟩:=hp 9 (pin (by kernel_rfl))
  have e9:v9=(TB:AV).ev ρ:=e9
  subst e9
  exact ry_10.goM ρ hf (by decide) (mem2 q7 q9) trivial trivial rfl
 ·obtain⟨v10,q10,e10⟩:=hp 10 (pin (by kernel_rfl))
  have e10:v10=(TB:AV).ev ρ:=e10
  subst e10
  exact ry_11.goM ρ hf (by decide) (mem2 q10 (bm (j:=10) rfl)) trivial trivial rfl
 ·obtain⟨v10,q10,e10⟩:=hp 10 (pin (by kernel_rfl))
  have e10:v10=(TB:AV).ev ρ:=e10
  subst e10
  exact ry_12.goM ρ hf (by decide) (mem2 q10 (bm (j:=7) rfl)) trivial trivial rfl
 ·obtain⟨v10,q10,e10⟩:=hp 10 (pin (by kernel_rfl))
  have e10:v10=(TB:AV).ev ρ:=e10
  subst e10
  exact ry_13.goM ρ hf (by decide) (mem2 q10 (bm (j:=9) rfl)) trivial trivial rfl
 ·obtain⟨v10,q10,e10⟩:=hp 10 (pin (by kernel_rfl))
  have e10:v10=(TB:AV).ev ρ:=e10
  subst e10
  obtain⟨v13,q13,e13⟩:=hp 13 (pin (by kernel_rfl))
  have e13:v13=(i64 (v 14):AV).ev ρ:=e13
  subst e13
  exact ry_14.goM ρ hf (by decide) (mem2 q10 q13) trivial trivial rfl
 ·obtain⟨v10,q10,e10⟩:=hp 10 (pin (by kernel_rfl))
  have e10:v10=(TB:AV).ev ρ:=e10
  subst e10
  obtain⟨v12,q12,e12⟩:=hp 12 (pin (by kernel_rfl))
  have e12:v12=(.slice (some ⟨(.dyn 70),(v 73)⟩) (v 71) (v 72):AV).ev ρ:=e12
  subst e12
  obtain⟨v14,q14,e14⟩:=hp 14 (pin (by kernel_rfl))
  have e14:v14=(i64 (.op .sub .i64 (v 14) (.lit 1)):AV).ev ρ:=e14
  subst e14
  exact ry_15.goM ρ hf (by decide) (mem3 q10 q12 q14) ⟨hbs.2.2.2.2.2.2.2.2.2.2.2.1,hbs.2.2.2.2.2.2.2.2.2.2.2.2.1,trivial⟩ trivial rfl
 ·obtain⟨v10,q10,e10⟩:=hp 10 (pin (by kernel_rfl))
  have e10:v10=(TB:AV).ev ρ:=e10
  subst e10
  obtain⟨v15,q15,e15⟩:=hp 15 (pin (by kernel_rfl))
  have e15:v15=(.ptr (some ⟨(.dyn 70),(.plus (.tn (v 73)) (.tn (.op .sub .i64 (v 14) (.lit 1))))⟩):AV).ev ρ:=e15
  subst e15
  exact ry_16.goM ρ hf (by decide) (mem2 q10 q15) trivial ⟨f.cell hmem.2.2.2.2.1,trivial⟩ rfl
 ·obtain⟨v10,q10,e10⟩:=hp 10 (pin (by kernel_rfl))
  have e10:v10=(TB:AV).ev ρ:=e10
  subst e10
  obtain⟨v11,q11,e11⟩:=hp 11 (pin (by kernel_rfl))
  have e11:v11=(i64 (v 15):AV).ev ρ:=e11
  subst e11
  obtain⟨v16,q16,e16⟩:=hp 16 (pin (by kernel_rfl))
  have e16:v16=(i64 (v 17):AV).ev ρ:=e16
  subst e16
  exact ry_17.goM ρ hf (by decide) (mem3 q10 q11 q16) ⟨hbs.2.2.2.2.2.2.2.2.2.2.2.2.2.2.2.1,trivial⟩ trivial rfl
 ·obtain⟨v7,q7,e7⟩:=hp 7 (pin (by kernel_rfl))
  have e7:v7=(FB:AV).ev ρ:=e7
  subst e7
  obtain⟨v10,q10,e10⟩:=hp 10 (pin (by kernel_rfl))
  have e10:v10=(TB:AV).ev ρ:=e10
  subst e10
  obtain⟨v17,q17,e17⟩:=hp 17 (pin (by kernel_rfl))
  have e17:v17=(FB:AV).ev ρ:=e17
  subst e17
  exact ry_18.goM ρ hf (by decide) (mem3 q7 q10 q17) trivial trivial rfl
 ·obtain⟨v7,q7,e7⟩:=hp 7 (pin (by kernel_rfl))
  have e7:v7=(FB:AV).ev ρ:=e7
  subst e7
  obtain⟨v18,q18,e18⟩:=hp 18 (pin (by kernel_rfl))
  have e18:v18=(FB:AV).ev ρ:=e18
  subst e18
  exact rx_19.goM ρ hf (by decide) (mem2 q7 q18) trivial trivial rfl
 ·obtain⟨v19,q19,e19⟩:=hp 19 (pin (by kernel_rfl))
  have e19:v19=(FB:AV).ev ρ:=e19
  subst e19
  exact rx_20.goM ρ hf (by decide) (mem1 q19) trivial trivial rfl
 ·obtain⟨v20,q20,e20⟩:=hp 20 (pin (by kernel_rfl))
  have e20:v20=(FB:AV).ev ρ:=e20
  subst e20
  exact rx_21.goM ρ hf (by decide) (mem2 q20 (bm (j:=5) rfl)) trivial trivial rfl
 ·obtain⟨v20,q20,e20⟩:=hp 20 (pin (by kernel_rfl))
  have e20:v20=(FB:AV).ev ρ:=e20
  subst e20
  exact rx_22.goM ρ hf (by decide) (mem2 q20 (bm (j:=10) rfl)) trivial trivial rfl
 ·obtain⟨v20,q20,e20⟩:=hp 20 (pin (by kernel_rfl))
  have e20:v20=(FB:AV).ev ρ:=e20
  subst e20
  obtain⟨v21,q21,e21⟩:=hp 21 (pin (by kernel_rfl))
  have e21:v21=(.slice (some ⟨(.dyn 80),(v 83)⟩) (v 81) (v 82):AV).ev ρ:=e21
  subst e21
  obtain⟨v22,q22,e22⟩:=hp 22 (pin (by kernel_rfl))
  have e22:v22=(i64 (v 15):AV).ev ρ:=e22
  subst e22
  exact rx_23.goM ρ hf (by decide) (mem3 q20 q21 q22) ⟨hbs.2.2.2.2.1,hbs.2.2.2.2.2.1,trivial⟩ trivial rfl
 ·obtain⟨v20,q20,e20⟩:=hp 20 (pin (by kernel_rfl))
  have e20:v20=(FB:AV).ev ρ:=e20
  subst e20
  obtain⟨v23,q23,e23⟩:=hp 23 (pin (by kernel_rfl))
  have e23:v23=(.ptr (some ⟨(.dyn 80),(.plus (.tn (v 83)) (.tn (v 15)))⟩):AV).ev ρ:=e23
  subst e23
  exact rx_24.goM ρ hf (by decide) (mem2 q20 q23) trivial ⟨f.cell hmem.2.2.1,trivial⟩ rfl
 ·obtain⟨v20,q20,e20⟩:=hp 20 (pin (by kernel_rfl))
  have e20:v20=(FB:AV).ev ρ:=e20
  subst e20
  exact rx_25.goM ρ hf (by decide) (mem2 q20 (bm (j:=5) rfl)) trivial trivial rfl
 ·obtain⟨v20,q20,e20⟩:=hp 20 (pin (by kernel_rfl))
  have e20:v20=(FB:AV).ev ρ:=e20
  subst e20
  exact rx_26.goM ρ hf (by decide) (mem2 q20 (bm (j:=6) rfl)) trivial trivial rfl
 ·obtain⟨v20,q20,e20⟩:=hp 20 (pin (by kernel_rfl))
  have e20:v20=(FB:AV).ev ρ:=e20
  subst e20
  obtain⟨v25,q25,e25⟩:=hp 25 (pin (by kernel_rfl))
  have e25:v25=(.slice (some ⟨(.dyn 80),(v 83)⟩) (v 81) (v 82):AV).ev ρ:=e25
  subst e25
  obtain⟨v26,q26,e26⟩:=hp 26 (pin (by kernel_rfl))
  have e26:v26=(i64 (v 10):AV).ev ρ:=e26
  subst e26
  exact rx_27.goM ρ hf (by decide) (mem3 q20 q25 q26) ⟨hbs.1,hbs.2.1,trivial⟩ trivial rfl
 ·obtain⟨v20,q20,e20⟩:=hp 20 (pin (by kernel_rfl))
  have e20:v20=(FB:AV).ev ρ:=e20
  subst e20
  obtain⟨v27,q27,e27⟩:=hp 27 (pin (by kernel_rfl))
  have e27:v27=(.ptr (some ⟨(.dyn 80),(.plus (.tn (v 83)) (.tn (v 10)))⟩):AV).ev ρ:=e27
  subst e27
  exact rx_28.goM ρ hf (by decide) (mem2 q20 q27) trivial ⟨f.cell hmem.2.2.2.1,trivial⟩ rfl
 ·obtain⟨v20,q20,e20⟩:=hp 20 (pin (by kernel_rfl))
  have e20:v20=(FB:AV).ev ρ:=e20
  subst e20
  obtain⟨v24,q24,e24⟩:=hp 24 (pin (by kernel_rfl))
  have e24:v24=(i64 (v 16):AV).ev ρ:=e24
  subst e24
  obtain⟨v28,q28,e28⟩:=hp 28 (pin (by kernel_rfl))
  have e28:v28=(i64 (v 11):AV).ev ρ:=e28
  subst e28
  exact rx_29.goM ρ hf (by decide) (mem3 q20 q24 q28) ⟨hbs.2.2.2.2.2.2.2.2.2.1,trivial⟩ trivial rfl
 ·obtain⟨v20,q20,e20⟩:=hp 20 (pin (by kernel_rfl))
  have e20:v20=(FB:AV).ev ρ:=e20
  subst e20
  obtain⟨v29,q29,e29⟩:=hp 29 (pin (by kernel_rfl))
  have e29:v29=(FB:AV).ev ρ:=e29
  subst e29
  exact rx_30.goM ρ hf (by decide) (mem2 q20 q29) trivial trivial rfl
 ·obtain⟨v30,q30,e30⟩:=hp 30 (pin (by kernel_rfl))
  have e30:v30=(FB:AV).ev ρ:=e30
  subst e30
  exact rx_31.goM ρ hf (by decide) (mem1 q30) trivial trivial rfl
 ·obtain⟨v31,q31,e31⟩:=hp 31 (pin (by kernel_rfl))
  have e31:v31=(FB:AV).ev ρ:=e31
  subst e31
  exact rx_32.goM ρ hf (by decide) (mem2 q31 (bm (j:=1) rfl)) trivial ⟨f.cell hmem.1,f.cell hmem.2.1,trivial⟩ rfl
 ·obtain⟨v31,q31,e31⟩:=hp 31 (pin (by kernel_rfl))
  have e31:v31=(FB:AV).ev ρ:=e31
  subst e31
  obtain⟨v32,q32,e32⟩:=hp 32 (pin (by kernel_rfl))
  have e32:v32=(.agg [.opq 8,.opq 9]:AV).ev ρ:=e32
  subst e32
  exact rx_33.goM ρ (Q:=fun v w'=>FlowAt w' v F) hf (mem2 q31 q32) (fun w' f1=>copyFlow_all (hF.keep (f.trans f1)) hlen htr hol)
 ·obtain⟨v31,q31,e31⟩:=hp 31 (pin (by kernel_rfl))
  have e31:v31=(FB:AV).ev ρ:=e31
  subst e31
  exact rx_34.goM ρ hf (by decide) (mem2 q31 (bm (j:=10) rfl)) trivial trivial rfl
 ·obtain⟨v31,q31,e31⟩:=hp 31 (pin (by kernel_rfl))
  have e31:v31=(FB:AV).ev ρ:=e31
  subst e31
  obtain⟨v33,q33,e33⟩:=hp 33 (pin (by kernel_rfl))
  have e33:FlowAt w v33 F:=e33
  obtain⟨v34,q34,e34⟩:=hp 34 (pin (by kernel_rfl))
  have e34:v34=(i64 (v 15):AV).ev ρ:=e34
  subst e34
  refine rx_35.goM (mkE [(15,ρ.i 15)] [] [(33,v33)]) (Q:=fun v w'=>∃U,IntsAt w' v U∧U.length≤1000000∧ρ.i 10∈U) hf (mem3 q31 q33 q34) (fun w' f1=>?_)
  show Ans 15 #[v33,iV (ρ.i 15)] w' _
  rw[ex]
  exact(Users_all (e33.keep f1) hlen htr h0 hne hx).mono fun v w2 hd=>⟨hd.1,let⟨U,h1,h2,h3⟩:=hd.2;⟨U,h1,by omega,by rw[ei];exact h3 _ _ hy hn⟩⟩
 ·obtain⟨v31,q31,e31⟩:=hp 31 (pin (by kernel_rfl))
  have e31:v31=(FB:AV).ev ρ:=e31
  subst e31
  exact rx_36.goM ρ hf (by decide) (mem2 q31 (bm (j:=6) rfl)) trivial trivial rfl
 ·obtain⟨v31,q31,e31⟩:=hp 31 (pin (by kernel_rfl))
  have e31:v31=(FB:AV).ev ρ:=e31
  subst e31
  obtain⟨v35,q35,e35⟩:=hp 35 (pin (by kernel_rfl))
  have e35:∃U,IntsAt w v35 U∧U.length≤1000000∧ρ.i 10∈U:=e35
  obtain⟨v36,q36,e36⟩:=hp 36 (pin (by kernel_rfl))
  have e36:v36=(i64 (v 10):AV).ev ρ:=e36
  subst e36
  obtain⟨U,u1,u2,u3⟩:=e35
  exact rx_37.goM (mkE [(10,ρ.i 10)] [] [(35,v35)]) (Q:=fun v w'=>v=(TB).ev ρ) hf (mem3 q31 q35 q36) (fun w' f1=>hasInt_all (u1.keep f1) u2 u3)
 ·obtain⟨v31,q31,e31⟩:=hp 31 (pin (by kernel_rfl))
  have e31:v31=(FB:AV).ev ρ:=e31
  subst e31
  obtain⟨v37,q37,e37⟩:=hp 37 (pin (by kernel_rfl))
  have e37:v37=(TB).ev ρ:=e37
  subst e37
  exact rx_38.goM ρ hf (by decide) (mem2 q31 q37) trivial trivial rfl
 ·obtain⟨v31,q31,e31⟩:=hp 31 (pin (by kernel_rfl))
  have e31:v31=(FB:AV).ev ρ:=e31
  subst e31
  obtain⟨v38,q38,e38⟩:=hp 38 (pin (by kernel_rfl))
  have e38:v38=(FB:AV).ev ρ:=e38
  subst e38
  exact rx_39.goM ρ hf (by decide) (mem2 q31 q38) trivial trivial rfl
theorem ry_all{ρ:Env}{F:FlowD}{x i:Nat}{y:LetD}{k:List Item}{lv:List (Nat×Value)}(hF:FlowIn w (.agg #[ρ.v 8,ρ.v 9]) F)(hlen:F.lets.length≤1000000)(htr:∀x∈F.lets,x.tree.length≤999999)(hol:F.outs.length≤4294967296)(h0:(chkF F).1=0)(hne:∀(i:Nat) (x:LetD),F.lets[i]?=some x->x.tree≠[])(hx:x<F.lets.length)(ex:ρ.i 15=x)(hy:F.lets[i]?=some y)(ei:ρ.i 10=i)(hn:(x:Int)∈needsF y)(hbs:AllB ρ ryS)(hmem:AllM ρ w ryM)(hl:Tell lv (told ρ ryB))(hf:FA 4 204 (.code (q4 [1,1,1,1,1,1,0,1,0,0,1,0,0,1,1,0,1,0,0,1,0,0,1,0,0])::k) [] .normal lv fr):
  Goes (G fr cs) w fun g' w'=>∃fr' lv',g'=G fr' cs∧Fresh w w'∧FA 4 204 (.inRegion rxD []::k) [] .normal lv' fr'∧(∀x∈told ρ ryB,x∈lv')∧∀i,i<40->(true)=true->∃v,(ryN i,v)∈lv'∧ryV ρ F i v w':=by
 obtain⟨id,hid⟩:=draw_is (c:=q4 [1,1,1,1,1,1,0,1,0,0,1,0,0,1,1,0,1,0,0,1,0,0,1,0,0]) (by kernel_rfl)
 have hf:=hf.only hl
 rw[hid]at hf
 refine(draw_in hf).trans fun g1 w1 hd=>?_
 obtain⟨ls,fr1,rfl,f1,hs,F1⟩:=hd
 refine(draw_up (b:=told ρ ryB) (nm:=ryN) (val:=ryV ρ F) (early:=fun _=>true) (late:=[]) (n:=40) (w0:=w) (by kernel_rfl) (by kernel_rfl) (by kernel_rfl) (by kernel_rfl) (by kernel_rfl) (by kernel_rfl) (by kernel_rfl) List.Pairwise.nil ryV_keep (ry_step hF hlen htr hol h0 hne hx ex hy ei hn hbs hmem) ls [] f1 (fun i hi=>by cases hi) hs ⟨_,F1,fun x hx=>hx,fun i hi=>by cases hi⟩).mono fun g2 w2 hd2=>?_
 obtain⟨fr2,lv,h1,h2,h3,h4,h5⟩:=hd2
 exact⟨fr2,lv,h1,h2,h3,h4,h5⟩
end
noncomputable abbrev rzD:Array Oper:=opsOf (q4 [1,1,1,1,1,1,0,1,0,0,1,0,0,1,1,0,1,0,0,1,0,0,1,1])
theorem rz_0:OpV 204 rzD 0 [] [] [(13,TB)] (TB) 121:=⟨fun st=>by kernel_rfl,fun st=>by kernel_rfl,fun st=>by kernel_rfl,by kernel_rfl,rfl⟩
theorem rz_1:OpV 204 rzD 1 [] [] [(121,TB)] (TB) 122:=⟨fun st=>by kernel_rfl,fun st=>by kernel_rfl,fun st=>by kernel_rfl,by kernel_rfl,rfl⟩
theorem rz_2:OpS 204 rzD 2 [(122,TB)] 123:=⟨fun st=>by kernel_rfl,fun st=>by kernel_rfl,by kernel_rfl⟩
theorem rz_3:OpS 204 rzD 3 [(122,TB)] 124:=⟨fun st=>by kernel_rfl,fun st=>by kernel_rfl,by kernel_rfl⟩
theorem rz_4:OpS 204 rzD 4 [(122,TB)] 125:=⟨fun st=>by kernel_rfl,fun st=>by kernel_rfl,by kernel_rfl⟩
theorem rz_5:OpS 204 rzD 5 [(122,TB)] 126:=⟨fun st=>by kernel_rfl,fun st=>by kernel_rfl,by kernel_rfl⟩
theorem rz_6:OpS 204 rzD 6 [(122,TB)] 127:=⟨fun st=>by kernel_rfl,fun st=>by kernel_rfl,by kernel_rfl⟩
theorem rz_7:OpS 204 rzD 7 [(122,TB)] 128:=⟨fun st=>by kernel_rfl,fun st=>by kernel_rfl,by kernel_rfl⟩
theorem rz_8:OpS 204 rzD 8 [(122,TB)] 129:=⟨fun st=>by kernel_rfl,fun st=>by kernel_rfl,by kernel_rfl⟩
theorem rz_9:OpS 204 rzD 9 [(122,TB)] 130:=⟨fun st=>by kernel_rfl,fun st=>by kernel_rfl,by kernel_rfl⟩
theorem rz_10:OpS 204 rzD 10 [(122,TB)] 131:=⟨fun st=>by kernel_rfl,fun st=>by kernel_rfl,by kernel_rfl⟩
theorem rz_11:OpS 204 rzD 11 [(122,TB)] 132:=⟨fun st=>by kernel_rfl,fun st=>by kernel_rfl,by kernel_rfl⟩
theorem rz_12:OpV 204 rzD 12 [] [] [(122,TB)] (TB) 133:=⟨fun st=>by kernel_rfl,fun st=>by kernel_rfl,fun st=>by kernel_rfl,by kernel_rfl,rfl⟩
theorem rz_13:OpV 204 rzD 13 [] [] [(133,TB)] (TB) 13:=⟨fun st=>by kernel_rfl,fun st=>by kernel_rfl,fun st=>by kernel_rfl,by kernel_rfl,rfl⟩
def rzN(i:Nat):Nat:=match i with
 |0=>121|1=>122|2=>123|3=>124|4=>125|5=>126|6=>127|7=>128|8=>129|9=>130|10=>131|11=>132|12=>133|_=>9999
noncomputable abbrev rzB:List (Nat×AV):=[(2,i64 (v 30)),(3,ptr0 64),(4,ptr0 65),(7,.opq 7),(8,i64 (v 5)),(9,.slice (some ⟨(.dyn 80),(v 83)⟩) (v 81) (v 82)),(11,i64 (v 10)),(12,.slice (some ⟨(.dyn 70),(v 73)⟩) (v 71) (v 72)),(13,TB),(14,i64 (v 14)),(15,i64 (v 15))]
noncomputable abbrev rzM:List (AA×AV):=[(⟨(.dyn 80),(.plus (.tn (v 83)) (.tn (v 15)))⟩,i64 (v 16)),(⟨(.dyn 80),(.plus (.tn (v 83)) (.tn (v 10)))⟩,i64 (v 11))]
noncomputable abbrev rzS:List (BE×Bool):=[((.cmp .lss (v 10) (.tn (v 81))),true),((.cmp .leq (.lit 0) (v 10)),true),((.cmp .lss (v 10) (.lit 0)),false),((.cmp .geq (v 10) (.tn (v 81))),false),((.cmp .lss (v 15) (.tn (v 81))),true),((.cmp .leq (.lit 0) (v 15)),true),((.cmp .lss (v 15) (.lit 0)),false),((.cmp .geq (v 15) (.tn (v 81))),false)]
noncomputable def rzV(ρ:Env)(i:Nat)(u:Value)(w:World):Prop:=match i with
 |0=>u=(TB:AV).ev ρ
 |1=>u=(TB:AV).ev ρ
 |2=>True
 |3=>True
 |4=>True
 |5=>True
 |6=>True
 |7=>True
 |8=>True
 |9=>True
 |10=>True
 |11=>True
 |12=>u=(TB:AV).ev ρ
 |_=>u=(TB:AV).ev ρ
theorem rzV_keep{ρ:Env}(i:Nat)(u:Value)(w w':World)(h:rzV ρ i u w)(f:Fresh w w'):rzV ρ i u w':=by
 unfold rzV at h⊢
 split at h
 all_goals first|exact h
section
variable {w w0:World}{cs:List Frame}{fr:Frame}
theorem rz_step{ρ:Env}{k:List Item}(hbs:AllB ρ rzS)(hmem:AllM ρ w0 rzM):
  ∀i,i<14->(!(Nat.beq i 13))=true->∀(l:List Nat) (w:World) (fr:Frame) (lv:List (Nat×Value)),Fresh w0 w->FA 4 204 (.inRegion rzD (i::l)::k) [] .normal lv fr->(∀x∈told ρ rzB,x∈lv)->(∀p∈preN rzD i,∃v,(rzN p,v)∈lv∧rzV ρ p v w)->
   Goes (G fr cs) w fun g' w'=>∃fr' v,g'=G fr' cs∧Fresh w w'∧rzV ρ i v w'∧FA 4 204 (.inRegion rzD l::k) [] .normal (lvPut (rzN i) v lv) fr':=by
 intro i hi he l w fr lv f hf hb hp
 have bm:∀{j:Nat} {q:Nat×Value},(told ρ rzB)[j]?=some q->q∈lv:=fun h=>hb _ (List.mem_of_getElem? h)
 rcases(by omega:i=0∨i=1∨i=2∨i=3∨i=4∨i=5∨i=6∨i=7∨i=8∨i=9∨i=10∨i=11∨i=12∨i=13)with rfl|rfl|rfl|rfl|rfl|rfl|rfl|rfl|rfl|rfl|rfl|rfl|rfl|rfl
 ·exact rz_0.goM ρ hf (by decide) (mem1 (bm (j:=8) rfl)) trivial trivial rfl
 ·obtain⟨v0,q0,e0⟩:=hp 0 (pin (by kernel_rfl))
  have e0:v0=(TB:AV).ev ρ:=e0
  subst e0
  exact rz_1.goM ρ hf (by decide) (mem1 q0) trivial trivial rfl
 ·obtain⟨v1,q1,e1⟩:=hp 1 (pin (by kernel_rfl))
  have e1:v1=(TB:AV).ev ρ:=e1
  subst e1
  exact rz_2.goM ρ hf (by decide) (mem1 q1)
 ·obtain⟨v1,q1,e1⟩:=hp 1 (pin (by kernel_rfl))
  have e1:v1=(TB:AV).ev ρ:=e1
  subst e1
  exact rz_3.goM ρ hf (by decide) (mem1 q1)
 ·obtain⟨v1,q1,e1⟩:=hp 1 (pin (by kernel_rfl))
  have e1:v1=(TB:AV).ev ρ:=e1
  subst e1
  exact rz_4.goM ρ hf (by decide) (mem1 q1)
 ·obtain⟨v1,q1,e1⟩:=hp 1 (pin (by kernel_rfl))
  have e1:v1=(TB:AV).ev ρ:=e1
  subst e1
  exact rz_5.goM ρ hf (by decide) (mem1 q1)
 ·obtain⟨v1,q1,e1⟩:=hp 1 (pin (by kernel_rfl))
  have e1:v1=(TB:AV).ev ρ:=e1
  subst e1
  exact rz_6.goM ρ hf (by decide) (mem1 q1)
 ·obtain⟨v1,q1,e1⟩:=hp 1 (pin (by kernel_rfl))
  have e1:v1=(TB:AV).ev ρ:=e1
  subst e1
  exact rz_7.goM ρ hf (by decide) (mem1 q1)
 ·obtain⟨v1,q1,e1⟩:=hp 1 (pin (by kernel_rfl))
  have e1:v1=(TB:AV).ev ρ:=e1
  subst e1
  exact rz_8.goM ρ hf (by decide) (mem1 q1)
 ·obtain⟨v1,q1,e1⟩:=hp 1 (pin (by kernel_rfl))
  have e1:v1=(TB:AV).ev ρ:=e1
  subst e1
  exact rz_9.goM ρ hf (by decide) (mem1 q1)
 ·obtain⟨v1,q1,e1⟩:=hp 1 (pin (by kernel_rfl))
  have e1:v1=(TB:AV).ev ρ:=e1
  subst e1
  exact rz_10.goM ρ hf (by decide) (mem1 q1)
 ·obtain⟨v1,q1,e1⟩:=hp 1 (pin (by kernel_rfl))
  have e1:v1=(TB:AV).ev ρ:=e1
  subst e1
  exact rz_11.goM ρ hf (by decide) (mem1 q1)
 ·obtain⟨v1,q1,e1⟩:=hp 1 (pin (by kernel_rfl))
  have e1:v1=(TB:AV).ev ρ:=e1
  subst e1
  exact rz_12.goM ρ hf (by decide) (mem1 q1) trivial trivial rfl
 ·exact absurd he (by decide)
theorem rz_all{ρ:Env}{k:List Item}{lv:List (Nat×Value)}(hbs:AllB ρ rzS)(hmem:AllM ρ w rzM)(hl:Tell lv (told ρ rzB))(hf:FA 4 204 (.code (q4 [1,1,1,1,1,1,0,1,0,0,1,0,0,1,1,0,1,0,0,1,0,0,1,1])::k) [] .normal lv fr):
  Goes (G fr cs) w fun g' w'=>∃fr' lv',g'=G fr' cs∧Fresh w w'∧FA 4 204 (.inRegion rzD [13]::k) [] .normal lv' fr'∧(∀x∈told ρ rzB,x∈lv')∧∀i,i<14->(!(Nat.beq i 13))=true->∃v,(rzN i,v)∈lv'∧rzV ρ i v w':=by
 obtain⟨id,hid⟩:=draw_is (c:=q4 [1,1,1,1,1,1,0,1,0,0,1,0,0,1,1,0,1,0,0,1,0,0,1,1]) (by kernel_rfl)
 have hf:=hf.only hl
 rw[hid]at hf
 refine(draw_in hf).trans fun g1 w1 hd=>?_
 obtain⟨ls,fr1,rfl,f1,hs,F1⟩:=hd
 refine(draw_up (b:=told ρ rzB) (nm:=rzN) (val:=rzV ρ) (early:=fun i=>!(Nat.beq i 13)) (late:=[13]) (n:=14) (w0:=w) (by kernel_rfl) (by kernel_rfl) (by kernel_rfl) (by kernel_rfl) (by kernel_rfl) (by kernel_rfl) (by kernel_rfl) (List.pairwise_singleton _ _) rzV_keep (rz_step hbs hmem) ls [] f1 (fun i hi=>by cases hi) hs ⟨_,F1,fun x hx=>hx,fun i hi=>by cases hi⟩).mono fun g2 w2 hd2=>?_
 obtain⟨fr2,lv,h1,h2,h3,h4,h5⟩:=hd2
 exact⟨fr2,lv,h1,h2,h3,h4,h5⟩
end
theorem rw_0:OpV 204 rzD 0 [] [] [(13,FB)] (FB) 121:=⟨fun st=>by kernel_rfl,fun st=>by kernel_rfl,fun st=>by kernel_rfl,by kernel_rfl,rfl⟩
theorem rw_1:OpV 204 rzD 1 [] [] [(121,FB)] (FB) 122:=⟨fun st=>by kernel_rfl,fun st=>by kernel_rfl,fun st=>by kernel_rfl,by kernel_rfl,rfl⟩
theorem rw_2:OpV 204 rzD 2 [] [] [(122,FB),(9,.slice (some ⟨(.dyn 80),(v 83)⟩) (v 81) (v 82))] (.slice (some ⟨(.dyn 80),(v 83)⟩) (v 81) (v 82)) 123:=⟨fun st=>by kernel_rfl,fun st=>by kernel_rfl,fun st=>by kernel_rfl,by kernel_rfl,rfl⟩
theorem rw_3:OpV 204 rzD 3 [] [] [(122,FB),(15,i64 (v 15))] (i64 (v 15)) 124:=⟨fun st=>by kernel_rfl,fun st=>by kernel_rfl,fun st=>by kernel_rfl,by kernel_rfl,rfl⟩
theorem rw_4:OpV 204 rzD 4 [((.cmp .lss (v 15) (.tn (v 81))),true),((.cmp .leq (.lit 0) (v 15)),true)] [] [(122,FB),(123,.slice (some ⟨(.dyn 80),(v 83)⟩) (v 81) (v 82)),(124,i64 (v 15))] (.ptr (some ⟨(.dyn 80),(.plus (.tn (v 83)) (.tn (v 15)))⟩)) 125:=⟨fun st=>by kernel_rfl,fun st=>by kernel_rfl,fun st=>by kernel_rfl,by kernel_rfl,rfl⟩
theorem rw_5:OpV 204 rzD 5 [] [(⟨(.dyn 80),(.plus (.tn (v 83)) (.tn (v 15)))⟩,i64 (v 16))] [(122,FB),(125,.ptr (some ⟨(.dyn 80),(.plus (.tn (v 83)) (.tn (v 15)))⟩))] (i64 (v 16)) 126:=⟨fun st=>by kernel_rfl,fun st=>by kernel_rfl,fun st=>by kernel_rfl,by kernel_rfl,rfl⟩
theorem rw_6:OpV 204 rzD 6 [] [] [(122,FB),(9,.slice (some ⟨(.dyn 80),(v 83)⟩) (v 81) (v 82))] (.slice (some ⟨(.dyn 80),(v 83)⟩) (v 81) (v 82)) 127:=⟨fun st=>by kernel_rfl,fun st=>by kernel_rfl,fun st=>by kernel_rfl,by kernel_rfl,rfl⟩
theorem rw_7:OpV 204 rzD 7 [] [] [(122,FB),(11,i64 (v 10))] (i64 (v 10)) 128:=⟨fun st=>by kernel_rfl,fun st=>by kernel_rfl,fun st=>by kernel_rfl,by kernel_rfl,rfl⟩
theorem rw_8:OpV 204 rzD 8 [((.cmp .lss (v 10) (.tn (v 81))),true),((.cmp .leq (.lit 0) (v 10)),true)] [] [(122,FB),(127,.slice (some ⟨(.dyn 80),(v 83)⟩) (v 81) (v 82)),(128,i64 (v 10))] (.ptr (some ⟨(.dyn 80),(.plus (.tn (v 83)) (.tn (v 10)))⟩)) 129:=⟨fun st=>by kernel_rfl,fun st=>by kernel_rfl,fun st=>by kernel_rfl,by kernel_rfl,rfl⟩
theorem rw_9:OpV 204 rzD 9 [] [(⟨(.dyn 80),(.plus (.tn (v 83)) (.tn (v 10)))⟩,i64 (v 11))] [(122,FB),(129,.ptr (some ⟨(.dyn 80),(.plus (.tn (v 83)) (.tn (v 10)))⟩))] (i64 (v 11)) 130:=⟨fun st=>by kernel_rfl,fun st=>by kernel_rfl,fun st=>by kernel_rfl,by kernel_rfl,rfl⟩
theorem rw_10:OpV 204 rzD 10 [] [] [(122,FB),(130,i64 (v 11))] (i64 (.op .sub .i64 (v 11) (.lit 1))) 131:=⟨fun st=>by kernel_rfl,fun st=>by kernel_rfl,fun st=>by kernel_rfl,by kernel_rfl,rfl⟩
theorem rw_11:OpV 204 rzD 11 [] [] [(122,FB),(126,i64 (v 16)),(131,i64 (.op .sub .i64 (v 11) (.lit 1)))] (.bool (.cmp .eql (v 16) (.op .sub .i64 (v 11) (.lit 1)))) 132:=⟨fun st=>by kernel_rfl,fun st=>by kernel_rfl,fun st=>by kernel_rfl,by kernel_rfl,rfl⟩
theorem rw_12:OpV 204 rzD 12 [] [] [(122,FB),(132,.bool (.cmp .eql (v 16) (.op .sub .i64 (v 11) (.lit 1))))] (.bool (.cmp .eql (v 16) (.op .sub .i64 (v 11) (.lit 1)))) 133:=⟨fun st=>by kernel_rfl,fun st=>by kernel_rfl,fun st=>by kernel_rfl,by kernel_rfl,rfl⟩
theorem rw_13:OpV 204 rzD 13 [] [] [(133,.bool (.cmp .eql (v 16) (.op .sub .i64 (v 11) (.lit 1))))] (.bool (.cmp .eql (v 16) (.op .sub .i64 (v 11) (.lit 1)))) 13:=⟨fun st=>by kernel_rfl,fun st=>by kernel_rfl,fun st=>by kernel_rfl,by kernel_rfl,rfl⟩
def rwN(i:Nat):Nat:=match i with
 |0=>121|1=>122|2=>123|3=>124|4=>125|5=>126|6=>127|7=>128|8=>129|9=>130|10=>131|11=>132|12=>133|_=>9999
noncomputable abbrev rwB:List (Nat×AV):=[(2,i64 (v 30)),(3,ptr0 64),(4,ptr0 65),(7,.opq 7),(8,i64 (v 5)),(9,.slice (some ⟨(.dyn 80),(v 83)⟩) (v 81) (v 82)),(11,i64 (v 10)),(12,.slice (some ⟨(.dyn 70),(v 73)⟩) (v 71) (v 72)),(13,FB),(14,i64 (v 14)),(15,i64 (v 15))]
noncomputable abbrev rwM:List (AA×AV):=[(⟨(.dyn 80),(.plus (.tn (v 83)) (.tn (v 15)))⟩,i64 (v 16)),(⟨(.dyn 80),(.plus (.tn (v 83)) (.tn (v 10)))⟩,i64 (v 11))]
noncomputable abbrev rwS:List (BE×Bool):=[((.cmp .lss (v 10) (.tn (v 81))),true),((.cmp .leq (.lit 0) (v 10)),true),((.cmp .lss (v 10) (.lit 0)),false),((.cmp .geq (v 10) (.tn (v 81))),false),((.cmp .lss (v 15) (.tn (v 81))),true),((.cmp .leq (.lit 0) (v 15)),true),((.cmp .lss (v 15) (.lit 0)),false),((.cmp .geq (v 15) (.tn (v 81))),false)]
noncomputable def rwV(ρ:Env)(i:Nat)(u:Value)(w:World):Prop:=match i with
 |0=>u=(FB:AV).ev ρ
 |1=>u=(FB:AV).ev ρ
 |2=>u=(.slice (some ⟨(.dyn 80),(v 83)⟩) (v 81) (v 82):AV).ev ρ
 |3=>u=(i64 (v 15):AV).ev ρ
 |4=>u=(.ptr (some ⟨(.dyn 80),(.plus (.tn (v 83)) (.tn (v 15)))⟩):AV).ev ρ
 |5=>u=(i64 (v 16):AV).ev ρ
 |6=>u=(.slice (some ⟨(.dyn 80),(v 83)⟩) (v 81) (v 82):AV).ev ρ
 |7=>u=(i64 (v 10):AV).ev ρ
 |8=>u=(.ptr (some ⟨(.dyn 80),(.plus (.tn (v 83)) (.tn (v 10)))⟩):AV).ev ρ
 |9=>u=(i64 (v 11):AV).ev ρ
 |10=>u=(i64 (.op .sub .i64 (v 11) (.lit 1)):AV).ev ρ
 |11=>u=(.bool (.cmp .eql (v 16) (.op .sub .i64 (v 11) (.lit 1))):AV).ev ρ
 |12=>u=(.bool (.cmp .eql (v 16) (.op .sub .i64 (v 11) (.lit 1))):AV).ev ρ
 |_=>u=(.bool (.cmp .eql (v 16) (.op .sub .i64 (v 11) (.lit 1))):AV).ev ρ
theorem rwV_keep{ρ:Env}(i:Nat)(u:Value)(w w':World)(h:rwV ρ i u w)(f:Fresh w w'):rwV ρ i u w':=by
 unfold rwV at h⊢
 split at h
 all_goals first|exact h
section
variable {w w0:World}{cs:List Frame}{fr:Frame}
theorem rw_step{ρ:Env}{k:List Item}(hbs:AllB ρ rwS)(hmem:AllM ρ w0 rwM):
  ∀i,i<14->(!(Nat.beq i 13))=true->∀(l:List Nat) (w:World) (fr:Frame) (lv:List (Nat×Value)),Fresh w0 w->FA 4 204 (.inRegion rzD (i::l)::k) [] .normal lv fr->(∀x∈told ρ rwB,x∈lv)->(∀p∈preN rzD i,∃v,(rwN p,v)∈lv∧rwV ρ p v w)->
   Goes (G fr cs) w fun g' w'=>∃fr' v,g'=G fr' cs∧Fresh w w'∧rwV ρ i v w'∧FA 4 204 (.inRegion rzD l::k) [] .normal (lvPut (rwN i) v lv) fr':=by
 intro i hi he l w fr lv f hf hb hp
 have bm:∀{j:Nat} {q:Nat×Value},(told ρ rwB)[j]?=some q->q∈lv:=fun h=>hb _ (List.mem_of_getElem? h)
 rcases(by omega:i=0∨i=1∨i=2∨i=3∨i=4∨i=5∨i=6∨i=7∨i=8∨i=9∨i=10∨i=11∨i=12∨i=13)with rfl|rfl|rfl|rfl|rfl|rfl|rfl|rfl|rfl|rfl|rfl|rfl|rfl|rfl
 ·exact rw_0.goM ρ hf (by decide) (mem1 (bm (j:=8) rfl)) trivial trivial rfl
 ·obtain⟨v0,q0,e0⟩:=hp 0 (pin (by kernel_rfl))
  have e0:v0=(FB:AV).ev ρ:=e0
  subst e0
  exact rw_1.goM ρ hf (by decide) (mem1 q0) trivial trivial rfl
 ·obtain⟨v1,q1,e1⟩:=hp 1 (pin (by kernel_rfl))
  have e1:v1=(FB:AV).ev ρ:=e1
  subst e1
  exact rw_2.goM ρ hf (by decide) (mem2 q1 (bm (j:=5) rfl)) trivial trivial rfl
 ·obtain⟨v1,q1,e1⟩:=hp 1 (pin (by kernel_rfl))
  have e1:v1=(FB:AV).ev ρ:=e1
  subst e1
  exact rw_3.goM ρ hf (by decide) (mem2 q1 (bm (j:=10) rfl)) trivial trivial rfl
 ·obtain⟨v1,q1,e1⟩:=hp 1 (pin (by kernel_rfl))
  have e1:v1=(FB:AV).ev ρ:=e1
  subst e1
  obtain⟨v2,q2,e2⟩:=hp 2 (pin (by kernel_rfl))
  have e2:v2=(.slice (some ⟨(.dyn 80),(v 83)⟩) (v 81) (v 82):AV).ev ρ:=e2
  subst e2
  obtain⟨v3,q3,e3⟩:=hp 3 (pin (by kernel_rfl))
  have e3:v3=(i64 (v 15):AV).ev ρ:=e3
  subst e3
  exact rw_4.goM ρ hf (by decide) (mem3 q1 q2 q3) ⟨hbs.2.2.2.2.1,hbs.2.2.2.2.2.1,trivial⟩ trivial rfl
 ·obtain⟨v1,q1,e1⟩:=hp 1 (pin (by kernel_rfl))
  have e1:v1=(FB:AV).ev ρ:=e1
  subst e1
  obtain⟨v4,q4,e4⟩:=hp 4 (pin (by kernel_rfl))
  have e4:v4=(.ptr (some ⟨(.dyn 80),(.plus (.tn (v 83)) (.tn (v 15)))⟩):AV).ev ρ:=e4
  subst e4
  exact rw_5.goM ρ hf (by decide) (mem2 q1 q4) trivial ⟨f.cell hmem.1,trivial⟩ rfl
 ·obtain⟨v1,q1,e1⟩:=hp 1 (pin (by kernel_rfl))
  have e1:v1=(FB:AV).ev ρ:=e1
  subst e1
  exact rw_6.goM ρ hf (by decide) (mem2 q1 (bm (j:=5) rfl)) trivial trivial rfl
 ·obtain⟨v1,q1,e1⟩:=hp 1 (pin (by kernel_rfl))
  have e1:v1=(FB:AV).ev ρ:=e1
  subst e1
  exact rw_7.goM ρ hf (by decide) (mem2 q1 (bm (j:=6) rfl)) trivial trivial rfl
 ·obtain⟨v1,q1,e1⟩:=hp 1 (pin (by kernel_rfl))
  have e1:v1=(FB:AV).ev ρ:=e1
  subst e1
  obtain⟨v6,q6,e6⟩:=hp 6 (pin (by kernel_rfl))
  have e6:v6=(.slice (some ⟨(.dyn 80),(v 83)⟩) (v 81) (v 82):AV).ev ρ:=e6
  subst e6
  obtain⟨v7,q7,e7⟩:=hp 7 (pin (by kernel_rfl))
  have e7:v7=(i64 (v 10):AV).ev ρ:=e7
  subst e7
  exact rw_8.goM ρ hf (by decide) (mem3 q1 q6 q7) ⟨hbs.1,hbs.2.1,trivial⟩ trivial rfl
 ·obtain⟨v1,q1,e1⟩:=hp 1 (pin (by kernel_rfl))
  have e1:v1=(FB:AV).ev ρ:=e1
  subst e1
  obtain⟨v8,q8,e8⟩:=hp 8 (pin (by kernel_rfl))
  have e8:v8=(.ptr (some ⟨(.dyn 80),(.plus (.tn (v 83)) (.tn (v 10)))⟩):AV).ev ρ:=e8
  subst e8
  exact rw_9.goM ρ hf (by decide) (mem2 q1 q8) trivial ⟨f.cell hmem.2.1,trivial⟩ rfl
 ·obtain⟨v1,q1,e1⟩:=hp 1 (pin (by kernel_rfl))
  have e1:v1=(FB:AV).ev ρ:=e1
  subst e1
  obtain⟨v9,q9,e9⟩:=hp 9 (pin (by kernel_rfl))
  have e9:v9=(i64 (v 11):AV).ev ρ:=e9
  subst e9
  exact rw_10.goM ρ hf (by decide) (mem2 q1 q9) trivial trivial rfl
 ·obtain⟨v1,q1,e1⟩:=hp 1 (pin (by kernel_rfl))
  have e1:v1=(FB:AV).ev ρ:=e1
  subst e1
  obtain⟨v5,q5,e5⟩:=hp 5 (pin (by kernel_rfl))
  have e5:v5=(i64 (v 16):AV).ev ρ:=e5
  subst e5
  obtain⟨v10,q10,e10⟩:=hp 10 (pin (by kernel_rfl))
  have e10:v10=(i64 (.op .sub .i64 (v 11) (.lit 1)):AV).ev ρ:=e10
  subst e10
  exact rw_11.goM ρ hf (by decide) (mem3 q1 q5 q10) trivial trivial rfl
 ·obtain⟨v1,q1,e1⟩:=hp 1 (pin (by kernel_rfl))
  have e1:v1=(FB:AV).ev ρ:=e1
  subst e1
  obtain⟨v11,q11,e11⟩:=hp 11 (pin (by kernel_rfl))
  have e11:v11=(.bool (.cmp .eql (v 16) (.op .sub .i64 (v 11) (.lit 1))):AV).ev ρ:=e11
  subst e11
  exact rw_12.goM ρ hf (by decide) (mem2 q1 q11) trivial trivial rfl
 ·exact absurd he (by decide)
theorem rw_all{ρ:Env}{k:List Item}{lv:List (Nat×Value)}(hbs:AllB ρ rwS)(hmem:AllM ρ w rwM)(hl:Tell lv (told ρ rwB))(hf:FA 4 204 (.code (q4 [1,1,1,1,1,1,0,1,0,0,1,0,0,1,1,0,1,0,0,1,0,0,1,1])::k) [] .normal lv fr):
  Goes (G fr cs) w fun g' w'=>∃fr' lv',g'=G fr' cs∧Fresh w w'∧FA 4 204 (.inRegion rzD [13]::k) [] .normal lv' fr'∧(∀x∈told ρ rwB,x∈lv')∧∀i,i<14->(!(Nat.beq i 13))=true->∃v,(rwN i,v)∈lv'∧rwV ρ i v w':=by
 obtain⟨id,hid⟩:=draw_is (c:=q4 [1,1,1,1,1,1,0,1,0,0,1,0,0,1,1,0,1,0,0,1,0,0,1,1]) (by kernel_rfl)
 have hf:=hf.only hl
 rw[hid]at hf
 refine(draw_in hf).trans fun g1 w1 hd=>?_
 obtain⟨ls,fr1,rfl,f1,hs,F1⟩:=hd
 refine(draw_up (b:=told ρ rwB) (nm:=rwN) (val:=rwV ρ) (early:=fun i=>!(Nat.beq i 13)) (late:=[13]) (n:=14) (w0:=w) (by kernel_rfl) (by kernel_rfl) (by kernel_rfl) (by kernel_rfl) (by kernel_rfl) (by kernel_rfl) (by kernel_rfl) (List.pairwise_singleton _ _) rwV_keep (rw_step hbs hmem) ls [] f1 (fun i hi=>by cases hi) hs ⟨_,F1,fun x hx=>hx,fun i hi=>by cases hi⟩).mono fun g2 w2 hd2=>?_
 obtain⟨fr2,lv,h1,h2,h3,h4,h5⟩:=hd2
 exact⟨fr2,lv,h1,h2,h3,h4,h5⟩
end
noncomputable abbrev dr1:Array Oper:=opsOf (q4 [1,1,0])
def nr1(i:Nat):Nat:=match i with
 |0=>24|1=>25|2=>26|3=>27|4=>23|5=>28|6=>29|7=>7|_=>8
def vr1(x:Value)(F:FlowD)(m:MakerD)(i:Nat)(v:Value)(w:World):Prop:=match i with
 |0=>v=x
 |1=>FlowAt w v F
 |2=>v=makerV m
 |3=>∃s,v=.tuple #[s,iV (plainF F m).1]∧PE F m s w
 |4=>∃s,v=.tuple #[s,iV (plainF F m).1]∧PE F m s w
 |5=>PE F m v w
 |6=>v=iV (plainF F m).1
 |7=>PE F m v w
 |_=>v=iV (plainF F m).1
theorem vr1_keep{x:Value}{F:FlowD}{m:MakerD}(i:Nat)(v:Value)(w w':World)(h:vr1 x F m i v w)(f:Fresh w w'):vr1 x F m i v w':=by
 unfold vr1 at h⊢
 split at h
 all_goals first|exact h|exact FlowAt.keep h f|exact PE.keep h f|exact(let⟨s,h1,h2⟩:=h;⟨s,h1,h2.keep f⟩)
section
variable {w w0:World}{cs:List Frame}{fr:Frame}
theorem r1_step{X Y i0 e0:Nat}{ls os a:Value}{F:FlowD}{m:MakerD}{k:List Item}(hX:(Blk.obj 25 [ls,os]).at Try.prog w0 X)(hY:(Blk.obj 27 [iV m.mul,iV m.add,iV m.fails,iV m.panics]).at Try.prog w0 Y)(hF:FlowIn w0 (.agg #[ls,os]) F)(hlen:F.lets.length≤1000000)(htr:∀x∈F.lets,x.tree.length≤999999)(hol:F.outs.length≤4294967296):
  ∀i,i<9->true=true->∀(l:List Nat) (w:World) (fr:Frame) (lv:List (Nat×Value)),Fresh w0 w->FA 4 204 (.inRegion dr1 (i::l)::k) [] .normal lv fr->(∀x∈[(2,a),(3,ptrV X),(4,ptrV Y)],x∈lv)->(∀p∈preN dr1 i,∃v,(nr1 p,v)∈lv∧vr1 (.agg #[ls,os]) F m p v w)->
   Goes (G fr cs) w fun g' w'=>∃fr' v,g'=G fr' cs∧Fresh w w'∧vr1 (.agg #[ls,os]) F m i v w'∧FA 4 204 (.inRegion dr1 l::k) [] .normal (lvPut (nr1 i) v lv) fr':=by
 intro i hi _ l w fr lv f hf hb hp
 have b4:((3,ptrV X):Nat×Value)∈lv:=hb _ (List.mem_cons_of_mem _ (List.mem_cons_self ..))
 have b5:((4,ptrV Y):Nat×Value)∈lv:=hb _ (List.mem_cons_of_mem _ (List.mem_cons_of_mem _ (List.mem_cons_self ..)))
 have one:∀{q:Nat×Value} {k:Nat} {v:Value},(k,v)∈lv->q∈[(k,v)]->q∈lv:=fun h hq=>by
  obtain rfl:=List.mem_singleton.1 hq
  exact h
 rcases(by omega:i=0∨i=1∨i=2∨i=3∨i=4∨i=5∨i=6∨i=7∨i=8)with rfl|rfl|rfl|rfl|rfl|rfl|rfl|rfl|rfl
 ·exact r1_0.goM (mkE [] [(64,X)] [(8,ls),(9,os)]) hf (by decide) (fun q hq=>one b4 hq) trivial ⟨f.cell (blk_cell hX (i:=0) rfl),f.cell (blk_cell hX (i:=1) rfl),trivial⟩ rfl
 ·obtain⟨v0,q0,e0⟩:=hp 0 (pin (by kernel_rfl))
  have e0:v0=.agg #[ls,os]:=e0
  subst e0
  exact r1_1.goM (mkE [] [] [(8,ls),(9,os)]) (Q:=fun v w'=>FlowAt w' v F) hf (fun q hq=>one q0 hq) fun w' f1=>copyFlow_all (hF.keep (f.trans f1)) hlen htr hol
 ·exact r1_2.goM (mkE [(21,m.mul),(22,m.add),(23,m.fails),(24,m.panics)] [(65,Y)] []) hf (by decide) (fun q hq=>one b5 hq) trivial ⟨f.cell (blk_cell hY (i:=0) rfl),f.cell (blk_cell hY (i:=1) rfl),f.cell (blk_cell hY (i:=2) rfl),f.cell (blk_cell hY (i:=3) rfl),trivial⟩ rfl
 ·obtain⟨v1,q1,e1⟩:=hp 1 (pin (by kernel_rfl))
  have e1:FlowAt w v1 F:=e1
  obtain⟨v2,q2,e2⟩:=hp 2 (pin (by kernel_rfl))
  have e2:v2=makerV m:=e2
  subst e2
  exact r1_3.goM (mkE [(21,m.mul),(22,m.add),(23,m.fails),(24,m.panics)] [] [(25,v1)]) (Q:=fun v w'=>∃s,v=.tuple #[s,iV (plainF F m).1]∧PE F m s w') hf (fun q hq=>by
   simp only[told,List.map_cons,List.map_nil,List.mem_cons,List.not_mem_nil,or_false]at hq
   rcases hq with rfl|rfl
   ·exact q1
   ·exact q2) fun w' f1=>(plain_all (e1.keep f1) hlen htr).mono fun v w2 hd=>⟨hd.1,by
    obtain⟨s,h1,h2⟩:=hd.2
    exact⟨s,h1,h2.at,fun h=>by
     rcases h2 with h2|h2
     ·exact h2.1
     ·exact(h2.1 h).elim⟩⟩
 ·obtain⟨v3',q3,s,rfl,hs⟩:=hp 3 (pin (by kernel_rfl))
  refine(r1_4.goM (mkE [(2,(plainF F m).1)] [] [(1,s)]) hf (by decide) (fun q hq=>one q3 hq) trivial trivial (v:=.tuple #[s,iV (plainF F m).1]) rfl).mono fun g' w' hd=>?_
  obtain⟨fr',v',k1,k2,rfl,k3⟩:=hd
  exact⟨fr',_,k1,k2,⟨s,rfl,hs.keep k2⟩,k3⟩
 ·obtain⟨v4,q4,s,rfl,hs⟩:=hp 4 (pin (by kernel_rfl))
  refine(r1_5.goM (mkE [(2,(plainF F m).1)] [] [(1,s)]) hf (by decide) (fun q hq=>one q4 hq) trivial trivial (v:=s) rfl).mono fun g' w' hd=>?_
  obtain⟨fr',v',k1,k2,rfl,k3⟩:=hd
  exact⟨fr',_,k1,k2,hs.keep k2,k3⟩
 ·obtain⟨v4,q4,s,rfl,hs⟩:=hp 4 (pin (by kernel_rfl))
  exact r1_6.goM (mkE [(2,(plainF F m).1)] [] [(1,s)]) hf (by decide) (fun q hq=>one q4 hq) trivial trivial rfl
 ·obtain⟨v5,q5,e5⟩:=hp 5 (pin (by kernel_rfl))
  have e5:PE F m v5 w:=e5
  refine(r1_7.goM (mkE [] [] [(1,v5)]) hf (by decide) (fun q hq=>one q5 hq) trivial trivial (v:=v5) rfl).mono fun g' w' hd=>?_
  obtain⟨fr',v',k1,k2,rfl,k3⟩:=hd
  exact⟨fr',_,k1,k2,e5.keep k2,k3⟩
 ·obtain⟨v6,q6,e6⟩:=hp 6 (pin (by kernel_rfl))
  have e6:v6=iV (plainF F m).1:=e6
  subst e6
  exact r1_8.goM (mkE [(2,(plainF F m).1)] [] []) hf (by decide) (fun q hq=>one q6 hq) trivial trivial rfl
theorem r1_all{X Y:Nat}{ls os a:Value}{F:FlowD}{m:MakerD}{k:List Item}(hX:(Blk.obj 25 [ls,os]).at Try.prog w X)(hY:(Blk.obj 27 [iV m.mul,iV m.add,iV m.fails,iV m.panics]).at Try.prog w Y)(hF:FlowIn w (.agg #[ls,os]) F)(hlen:F.lets.length≤1000000)(htr:∀x∈F.lets,x.tree.length≤999999)(hol:F.outs.length≤4294967296)(hf:FA 4 204 (.code (q4 [1,1,0])::k) [] .normal [(2,a),(3,ptrV X),(4,ptrV Y)] fr):
  Goes (G fr cs) w fun g' w'=>∃fr' s,g'=G fr' cs∧Fresh w w'∧PE F m s w'∧FA 4 204 (.inRegion dr1 []::k) [] .normal [(2,a),(3,ptrV X),(4,ptrV Y),(7,s),(8,iV (plainF F m).1)] fr':=by
 obtain⟨id,hid⟩:=draw_is (c:=q4 [1,1,0]) (by kernel_rfl)
 rw[hid]at hf
 refine(draw_in hf).trans fun g1 w1 hd=>?_
 obtain⟨ls',fr1,rfl,f1,hs,F1⟩:=hd
 refine(draw_up (b:=[(2,a),(3,ptrV X),(4,ptrV Y)]) (nm:=nr1) (val:=vr1 (.agg #[ls,os]) F m) (early:=fun _=>true) (late:=[]) (n:=9) (w0:=w) (by kernel_rfl) (by kernel_rfl) (by kernel_rfl) (by kernel_rfl) (by kernel_rfl) (by kernel_rfl) (by kernel_rfl) List.Pairwise.nil vr1_keep (r1_step (i0:=0) (e0:=0) hX hY hF hlen htr hol) ls' [] f1 (fun i hi=>by cases hi) hs ⟨_,F1,fun x hx=>hx,fun i hi=>by cases hi⟩).mono fun g2 w2 hd2=>?_
 obtain⟨fr2,lv,rfl,f2,F2,hb,hv⟩:=hd2
 obtain⟨s,q7,e7⟩:=hv 7 (by decide) rfl
 obtain⟨v8,q8,e8⟩:=hv 8 (by decide) rfl
 have e8:v8=iV (plainF F m).1:=e8
 subst e8
 refine⟨fr2,s,rfl,f2,e7,F2.sub (fun x hx=>?_)⟩
 simp only[List.mem_cons,List.not_mem_nil,or_false]at hx hb
 rcases hx with rfl|rfl|rfl|rfl|rfl
 ·exact hb _ (.inl rfl)
 ·exact hb _ (.inr (.inl rfl))
 ·exact hb _ (.inr (.inr rfl))
 ·exact q7
 ·exact q8
end
def namesUp(L:List LetD)(k:Nat):List (ByteArray×Bool):=(L.take k).map fun y=>(y.name,true)
theorem chkLets_sound:∀(L:List LetD) (k:Nat) (names:List (ByteArray×Bool)),chkLets L k names=none->∀j x,L[j]?=some x->soundF x (k+j) (names++namesUp L j)=0
 |[],k,names,h,j,x,hj=>by cases hj
 |y::L,k,names,h,j,x,hj=>by
  unfold chkLets at h
  split at h
  ·cases h
  ·rename_i hs
   have hs:soundF y k names=0:=by simpa using hs
   cases j with
   |zero=>
    obtain rfl:y=x:=Option.some.inj hj
    simpa[namesUp] using hs
   |succ j=>
    have:=chkLets_sound L (k+1) _ h j x hj
    rw[show k+1+j=k+(j+1) by omega,List.append_assoc]at this
    exact this
theorem chkLets_none:∀(L:List LetD) (k:Nat) (names:List (ByteArray×Bool)),(∀j x,L[j]?=some x->soundF x (k+j) (names++namesUp L j)=0)->chkLets L k names=none
 |[],k,names,h=>rfl
 |y::L,k,names,h=>by
  have h0:soundF y k names=0:=by
   have:=h 0 y rfl
   simpa[namesUp] using this
  unfold chkLets
  rw[if_neg (fun x=>x h0)]
  refine chkLets_none L (k+1) _ fun j x hj=>?_
  have:=h (j+1) x hj
  rw[show k+(j+1)=k+1+j by omega]at this
  rw[List.append_assoc]
  exact this
theorem chkF_lets{F:FlowD}(h:(chkF F).1=0):chkLets F.lets 0 []=none:=by
 unfold chkF at h
 cases e:chkLets F.lets 0 []with
 |none=>rfl
 |some p=>
  rw[e]at h
  exact(chkLets_ne _ _ _ p.1 p.2 e h).elim
theorem chkF_sound{F:FlowD}(h:(chkF F).1=0){i:Nat}{x:LetD}(hi:F.lets[i]?=some x):soundF x i (namesUp F.lets i)=0:=by
 have:=chkLets_sound F.lets 0 [] (chkF_lets h) i x hi
 rwa[Nat.zero_add,List.nil_append]at this
theorem sound_name{x:LetD}{i:Nat}{names names':List (ByteArray×Bool)}{s:ByteArray}(h:soundF x i names=0)(h1:nameOk s=true)(h2:findT s names'=none):i<4096∧(∀m∈namesOf x.tree,0≤m∧m<i)∧soundF {x with name:=s} i names'=0:=by
 unfold soundF at h⊢
 split at h
 ·cases h
 rename_i hi
 split at h
 ·cases h
 split at h
 ·cases h
 rename_i t rest e
 split at h
 ·cases h
 rename_i c1
 split at h
 ·cases h
 rename_i c2
 split at h
 ·cases h
 rename_i c3
 refine⟨by omega,fun m hm=>?_,?_⟩
 ·unfold namesOf at hm
  obtain⟨n,hn,rfl⟩:=List.mem_map.1 hm
  obtain⟨hn,h2⟩:=List.mem_filter.1 hn
  have:=c3
  simp only[List.any_eq_true,Bool.and_eq_true,Bool.or_eq_true,decide_eq_true_eq,not_exists,not_and,not_or]at this
  have:=this n hn (by simpa using h2)
  omega
 ·rw[if_neg hi,if_neg (by rw[h1,h2];simp)]
  show(match grownF (x.tree.length+1) x.tree true with|none=>(1:Int)|some (t,rest)=>_)=0
  rw[e]
  show(if 0<rest.length∨x.at'<0 then(1:Int)else _)=0
  rw[if_neg c1,if_neg c2,if_neg c3]
  exact h
theorem needs_in{F:FlowD}(h:(chkF F).1=0){i:Nat}{x:LetD}(hi:F.lets[i]?=some x):∀m∈needsF x,0≤m∧m<i:=fun m hm=>
 (sound_name (s:=⟨#[113,95,97,97]⟩) (names':=[]) (chkF_sound h hi) (by kernel_rfl) rfl).2.1 m (needs_mem hm)
theorem flow_ne{F:FlowD}(h:(chkF F).1=0){i:Nat}{x:LetD}(hi:F.lets[i]?=some x):x.tree≠[]:=by
 obtain⟨t,ht⟩:=chkF_good h i x hi
 rw[ht.fl]
 cases t with
 |nd n ks=>
  unfold flat
  simp
theorem levL_spec:∀(L:List LetD) (V:List Int),∃R,levL L V=V++R∧R.length=L.length∧∀i x,L[i]?=some x->R[i]?=some (levStep (V++R.take i) x)
 |[],V=>⟨[],by simp[levL],rfl,fun i x hi=>by cases hi⟩
 |y::L,V=>by
  obtain⟨R,h1,h2,h3⟩:=levL_spec L (V++[levStep V y])
  refine⟨levStep V y::R,by rw[levL,h1,List.append_assoc];rfl,by simp[h2],fun i x hi=>?_⟩
  cases i with
  |zero=>
   obtain rfl:y=x:=Option.some.inj hi
   simp
  |succ i=>
   have:=h3 i x hi
   rw[List.append_assoc]at this
   exact this
theorem levL_at{L:List LetD}:(levL L []).length=L.length∧∀i x,L[i]?=some x->(levL L [])[i]?=some (levStep ((levL L []).take i) x):=by
 obtain⟨R,h1,h2,h3⟩:=levL_spec L []
 rw[List.nil_append]at h1
 rw[h1]
 exact⟨h2,fun i x hi=>by simpa using h3 i x hi⟩
theorem lev_max{g:Int->Int}:∀(S:List Int) (m:Int),m≤S.foldl (fun m k=>max m (g k+1)) m∧(∀k∈S,g k+1≤S.foldl (fun m k=>max m (g k+1)) m)∧(S.foldl (fun m k=>max m (g k+1)) m=m∨∃k∈S,S.foldl (fun m k=>max m (g k+1)) m=g k+1)
 |[],m=>⟨Int.le_refl _,fun k hk=>(by cases hk),.inl rfl⟩
 |a::S,m=>by
  obtain⟨h1,h2,h3⟩:=lev_max (g:=g) S (max m (g a+1))
  rw[List.foldl_cons]
  refine⟨by omega,fun k hk=>?_,?_⟩
  ·rcases List.mem_cons.1 hk with rfl|hk
   ·omega
   ·exact h2 k hk
  ·rcases h3 with h3|⟨k,hk,h3⟩
   ·by_cases hm:m≤g a+1
    ·exact .inr ⟨a,List.mem_cons_self ..,by omega⟩
    ·exact .inl (by omega)
   ·exact .inr ⟨k,List.mem_cons_of_mem _ hk,h3⟩
theorem foldl_same{f g:Int->Int}:∀{S:List Int} {m:Int},(∀k∈S,f k=g k)->S.foldl (fun m k=>max m (f k+1)) m=S.foldl (fun m k=>max m (g k+1)) m
 |[],m,h=>rfl
 |a::S,m,h=>by
  rw[List.foldl_cons,List.foldl_cons,h a (List.mem_cons_self ..)]
  exact foldl_same fun k hk=>h k (List.mem_cons_of_mem _ hk)
structure LevOk(F:FlowD)(V:List Int):Prop where
 len:V.length=F.lets.length
 rng:∀(i:Nat) (a:Int),V[i]?=some a->0≤a∧a≤i+1
 zero:∀(i:Nat) (x:LetD) (a:Int),F.lets[i]?=some x->V[i]?=some a->(a=0↔needsF x=[])
 lt:∀(i:Nat) (x:LetD) (a m:Int),F.lets[i]?=some x->V[i]?=some a->m∈needsF x->0≤m∧m<i∧∃b,V[m.toNat]?=some b∧b<a
 one:∀(i:Nat) (x:LetD) (a:Int),F.lets[i]?=some x->V[i]?=some a->needsF x≠[]->∃m∈needsF x,∃b,V[m.toNat]?=some b∧b=a-1
theorem lev_ok{F:FlowD}(h:(chkF F).1=0):LevOk F (levL F.lets []):=by
 obtain⟨hl,hat⟩:=levL_at (L:=F.lets)
 obtain⟨V,hV⟩:∃V,levL F.lets []=V:=⟨_,rfl⟩
 rw[hV]at hl hat⊢
 have rng:∀(i:Nat) (a:Int),V[i]?=some a->0≤a∧a≤i+1:=by
  intro i
  induction i using Nat.strongRecOn with
  |_ i ih=>
   intro a ha
   have hi:i<F.lets.length:=by
    have:=(List.getElem?_eq_some_iff.1 ha).1
    omega
   have e:=hat i _ (List.getElem?_eq_getElem hi)
   rw[ha]at e
   have e:=Option.some.inj e
   rw[e]
   unfold levStep
   refine⟨levStep_ge (Int.le_refl _),levStep_le (fun v hv=>?_) (by omega) (by omega)⟩
   obtain⟨j,hj⟩:=List.getElem?_of_mem hv
   rw[List.getElem?_take]at hj
   split at hj
   ·rename_i hji
    have:=(ih j hji v hj).2
    omega
   ·cases hj
 have ge:∀k,0≤V.getD k 0:=fun k=>by
  rw[List.getD_eq_getElem?_getD]
  cases e:V[k]? with
  |none=>exact Int.le_refl _
  |some v=>exact(rng k v e).1
 have val:∀(i:Nat) (x:LetD) (a:Int),F.lets[i]?=some x->V[i]?=some a->a=(needsF x).foldl (fun m k=>max m (V.getD k.toNat 0+1)) 0:=fun i x a hx ha=>by
  have e:=hat i x hx
  rw[ha]at e
  rw[Option.some.inj e]
  unfold levStep
  refine foldl_same fun k hk=>?_
  obtain⟨h1,h2⟩:=needs_in h hx k hk
  rw[List.getD_eq_getElem?_getD,List.getD_eq_getElem?_getD,List.getElem?_take,if_pos (by omega)]
 have at':∀(i:Nat) (x:LetD) (m:Int),F.lets[i]?=some x->m∈needsF x->0≤m∧m<i∧V[m.toNat]?=some (V.getD m.toNat 0):=fun i x m hx hm=>by
  obtain⟨h1,h2⟩:=needs_in h hx m hm
  have:=(List.getElem?_eq_some_iff.1 hx).1
  have hlt:m.toNat<V.length:=by omega
  refine⟨h1,h2,?_⟩
  rw[List.getD_eq_getElem?_getD,List.getElem?_eq_getElem hlt]
  rfl
 refine⟨hl,rng,fun i x a hx ha=>?_,fun i x a m hx ha hm=>?_,fun i x a hx ha hne=>?_⟩
 ·have hv:=val i x a hx ha
  obtain⟨h1,h2,h3⟩:=lev_max (g:=fun k=>V.getD k.toNat 0) (needsF x) 0
  constructor
  ·intro h0
   cases e:needsF x with
   |nil=>rfl
   |cons k S=>
    have:=h2 k (by rw[e];exact List.mem_cons_self ..)
    have:=ge k.toNat
    omega
  ·intro h0
   rw[hv,h0]
   rfl
 ·have hv:=val i x a hx ha
  obtain⟨h1,h2,h3⟩:=lev_max (g:=fun k=>V.getD k.toNat 0) (needsF x) 0
  obtain⟨g1,g2,g3⟩:=at' i x m hx hm
  have:=h2 m hm
  exact⟨g1,g2,_,g3,by omega⟩
 ·have hv:=val i x a hx ha
  obtain⟨h1,h2,h3⟩:=lev_max (g:=fun k=>V.getD k.toNat 0) (needsF x) 0
  rcases h3 with h3|⟨k,hk,h3⟩
  ·obtain⟨k,S,e⟩:=List.exists_cons_of_ne_nil hne
   have:=h2 k (by rw[e];exact List.mem_cons_self ..)
   have:=ge k.toNat
   omega
  ·obtain⟨g1,g2,g3⟩:=at' i x k hx hk
   exact⟨k,hk,_,g3,by omega⟩
def nameOf(i:Nat):ByteArray:=⟨#[UInt8.ofNat (113+i % 9),95,UInt8.ofNat (97+i / 9 % 26),UInt8.ofNat (97+i / 234 % 26)]⟩
theorem byte0(a b c d:UInt8):byteAt ⟨#[a,b,c,d]⟩ 0=a.toNat:=rfl
theorem byte2(a b c d:UInt8):byteAt ⟨#[a,b,c,d]⟩ 2=c.toNat:=rfl
theorem byte3(a b c d:UInt8):byteAt ⟨#[a,b,c,d]⟩ 3=d.toNat:=rfl
theorem u8n{n:Nat}(h:n<256):(UInt8.ofNat n).toNat=n:=by
 rw[UInt8.toNat_ofNat']
 exact Nat.mod_eq_of_lt h
theorem name_inj{i j:Nat}(hi:i<4096)(hj:j<4096)(h:nameOf i=nameOf j):i=j:=by
 have h0:=congrArg (fun s=>byteAt s 0) h
 have h2:=congrArg (fun s=>byteAt s 2) h
 have h3:=congrArg (fun s=>byteAt s 3) h
 simp only[nameOf,byte0,byte2,byte3]at h0 h2 h3
 rw[u8n (by omega),u8n (by omega)]at h0 h2 h3
 omega
theorem inside_low{n:Nat}(h1:97≤n)(h2:n≤122):insideB n=true:=by
 unfold insideB
 rw[decide_eq_true (show(n:Int)≥97 by omega),decide_eq_true (show(n:Int)≤122 by omega)]
 rfl
theorem find_none{s:ByteArray}:∀{names:List (ByteArray×Bool)},(∀p∈names,s≠p.1)->findT s names=none:=fun{names} h=>by
 unfold findT
 have:names.find? (fun p=>s==p.1)=none:=List.find?_eq_none.2 fun p hp=>by
  exact fun e=>h p hp (ByteArray.ext (eq_of_beq (show(s.data==p.1.data)=true from e)))
 rw[this]
 rfl
theorem name_ok(i:Nat):nameOk (nameOf i)=true:=by
 have hf:findT (nameOf i) wordL=none:=find_none fun p hp e=>by
  have h1:byteAt p.1 1=95:=by
   rw[<-e]
   rfl
  have h2:wordL.all (fun p=>!decide (byteAt p.1 1=95))=true:=by kernel_rfl
  have:=List.all_eq_true.1 h2 p hp
  rw[decide_eq_true h1]at this
  cases this
 have hs:(nameOf i).size=4:=rfl
 unfold nameOk
 rw[hf,hs]
 have b0:byteAt (nameOf i) 0=113+i % 9:=(byte0 ..).trans (u8n (by omega))
 have b2:byteAt (nameOf i) 2=97+i / 9 % 26:=(byte2 ..).trans (u8n (by omega))
 have b3:byteAt (nameOf i) 3=97+i / 234 % 26:=(byte3 ..).trans (u8n (by omega))
 simp only[Bool.and_eq_true,decide_eq_true_eq,List.all_eq_true,List.mem_range]
 refine⟨⟨⟨⟨⟨by decide,by decide⟩,by rw[b0];omega⟩,by rw[b0];omega⟩,fun q hq=>?_⟩,rfl⟩
 rcases(by omega:q=0∨q=1∨q=2∨q=3)with rfl|rfl|rfl|rfl
 ·rw[b0];exact inside_low (by omega) (by omega)
 ·rfl
 ·rw[b2];exact inside_low (by omega) (by omega)
 ·rw[b3];exact inside_low (by omega) (by omega)
def nameTo(k:Nat)(L:List LetD):List LetD:=L.mapIdx fun i x=>if i<k then{x with name:=nameOf i}else x
theorem nameTo_get{k:Nat}{L:List LetD}{i:Nat}:(nameTo k L)[i]?=(L[i]?).map fun x=>if i<k then{x with name:=nameOf i}else x:=by
 unfold nameTo
 rw[List.getElem?_mapIdx]
theorem nameTo_len{k:Nat}{L:List LetD}:(nameTo k L).length=L.length:=by
 unfold nameTo
 rw[List.length_mapIdx]
theorem nameTo_zero{L:List LetD}:nameTo 0 L=L:=by
 refine List.ext_getElem? fun i=>?_
 rw[nameTo_get]
 cases L[i]?<;>simp
theorem nameTo_succ{k:Nat}{L:List LetD}{x:LetD}(hx:(nameTo k L)[k]?=some x):(nameTo k L).set k {x with name:=nameOf k}=nameTo (k+1) L:=by
 refine List.ext_getElem? fun i=>?_
 have hk:=(List.getElem?_eq_some_iff.1 hx).1
 rw[nameTo_get]at hx
 rw[List.getElem?_set,nameTo_get,nameTo_get]
 by_cases h:k=i
 ·subst h
  rw[if_pos rfl,if_pos hk]
  cases e:L[k]? with
  |none=>rw[e]at hx;cases hx
  |some y=>
   rw[e]at hx
   have hx:(if k<k then{y with name:=nameOf k}else y)=x:=Option.some.inj hx
   rw[if_neg (Nat.lt_irrefl _)]at hx
   subst hx
   simp
 ·rw[if_neg h]
  cases L[i]? with
  |none=>rfl
  |some y=>
   simp only[Option.map_some]
   by_cases h1:i<k
   ·rw[if_pos h1,if_pos (by omega)]
   ·rw[if_neg h1,if_neg (by omega)]
theorem plainEnds_same{m:MakerD}:∀{L L':List LetD} {E:List (Int×Int)},L.length=L'.length->(∀(i:Nat) (x y:LetD),L[i]?=some x->L'[i]?=some y->x.tree=y.tree)->plainEnds m L E=plainEnds m L' E
 |[],[],E,hl,h=>rfl
 |x::L,y::L',E,hl,h=>by
  have e:endOf m E x=endOf m E y:=by
   unfold endOf treeOf
   rw[h 0 x y rfl rfl]
  rw[plainEnds,plainEnds,e]
  exact plainEnds_same (by simpa using hl) fun i a b ha hb=>h (i+1) a b ha hb
theorem plain_other{F:FlowD}{m:MakerD}{n:Nat}(h:(plainF F m).1=0)(hn:n≤F.lets.length):(chkF F).1=0∧plainF ⟨nameTo n (F.lets.take n),[]⟩ m=(0,(plainF F m).2.take n):=by
 have h0:(chkF F).1=0:=by
  unfold plainF at h
  split at h
  ·exact h
  ·rename_i h1
   simpa using h1
 have hw:F.lets.any wildLet=false:=by
  unfold plainF at h
  rw[if_neg (fun x=>x h0)]at h
  split at h
  ·cases h
  ·rename_i h1
   simpa using h1
 have ln:(nameTo n (F.lets.take n)).length=n:=by rw[nameTo_len,List.length_take];omega
 have get:∀(i:Nat) (x:LetD),(nameTo n (F.lets.take n))[i]?=some x->∃y,i<n∧F.lets[i]?=some y∧x={y with name:=nameOf i}:=fun i x hx=>by
  have hi:=(List.getElem?_eq_some_iff.1 hx).1
  rw[ln]at hi
  rw[nameTo_get,List.getElem?_take,if_pos hi]at hx
  cases e:F.lets[i]? with
  |none=>rw[e]at hx;cases hx
  |some y=>
   rw[e]at hx
   have hx:(if i<n then{y with name:=nameOf i}else y)=x:=Option.some.inj hx
   rw[if_pos hi]at hx
   exact⟨y,hi,rfl,hx.symm⟩
 have small:∀(i:Nat),i<n->i<4096:=fun i hi=>by
  have hl:i<F.lets.length:=by omega
  exact(sound_name (s:=⟨#[113,95,97,97]⟩) (names':=[]) (chkF_sound h0 (List.getElem?_eq_getElem hl)) (by kernel_rfl) rfl).1
 have c0:(chkF ⟨nameTo n (F.lets.take n),[]⟩)=(0,0):=by
  unfold chkF
  have:chkLets (nameTo n (F.lets.take n)) 0 []=none:=chkLets_none _ 0 [] fun j x hx=>by
   rw[Nat.zero_add,List.nil_append]
   obtain⟨y,hj,hy,rfl⟩:=get j x hx
   refine(sound_name (chkF_sound h0 hy) (name_ok j) (find_none fun p hp=>?_)).2.2
   unfold namesUp at hp
   obtain⟨u,hu,rfl⟩:=List.mem_map.1 hp
   obtain⟨q,hq⟩:=List.getElem?_of_mem hu
   rw[List.getElem?_take]at hq
   split at hq
   ·rename_i hqj
    obtain⟨y',hq',hy',rfl⟩:=get q u hq
    intro e
    have:=name_inj (small j hj) (small q hq') e
    omega
   ·cases hq
  rw[show(⟨nameTo n (F.lets.take n),[]⟩:FlowD).lets=nameTo n (F.lets.take n)from rfl,this]
  rfl
 have w0:(nameTo n (F.lets.take n)).any wildLet=false:=by
  rw[List.any_eq_false]
  intro x hx
  obtain⟨i,hi⟩:=List.getElem?_of_mem hx
  obtain⟨y,hj,hy,rfl⟩:=get i x hi
  rw[List.any_eq_false]at hw
  exact hw y (List.mem_of_getElem? hy)
 refine⟨h0,?_⟩
 have e2:(plainF F m).2=plainEnds m F.lets []:=by
  unfold plainF
  rw[if_neg (fun x=>x h0),if_neg (by rw[hw];simp)]
 rw[e2]
 unfold plainF
 rw[c0,if_neg (fun x=>x rfl)]
 show(if(nameTo n (F.lets.take n)).any wildLet=true then _ else _)=_
 rw[if_neg (by rw[w0];simp)]
 show((0:Int),plainEnds m (nameTo n (F.lets.take n)) [])=_
 have e3:plainEnds m (nameTo n (F.lets.take n)) []=plainEnds m (F.lets.take n) []:=plainEnds_same (by rw[ln,List.length_take];omega) fun i x y hx hy=>by
  obtain⟨y',hj,hy',rfl⟩:=get i x hx
  rw[List.getElem?_take,if_pos hj,hy']at hy
  obtain rfl:=Option.some.inj hy
  rfl
 obtain⟨R,g1,g2,g3⟩:=plainEnds_spec m (F.lets.drop n) (plainEnds m (F.lets.take n) [])
 have e4:plainEnds m F.lets []=plainEnds m (F.lets.drop n) (plainEnds m (F.lets.take n) []):=by
  have:∀(A B:List LetD) (E:List (Int×Int)),plainEnds m (A++B) E=plainEnds m B (plainEnds m A E):=by
   intro A
   induction A with
   |nil=>intro B E;rfl
   |cons a A ih=>intro B E;exact ih B _
  rw[<-this,List.take_append_drop]
 have hl:=(plain_at (m:=m) (L:=F.lets.take n)).1
 rw[List.length_take,Nat.min_eq_left hn]at hl
 rw[e3,e4,g1]
 generalize plainEnds m (F.lets.take n) []=E at hl
 rw[List.take_append_of_le_length (by omega),List.take_of_length_le (by omega)]
noncomputable abbrev OH:List Item:=[.code (q4 [1,1,1,1,1,1,0,1,0,0]),.inLoop (q4 [1,1,1,1,1,1,0,1,0,0]),.inBlock 0,.code (q4 [1,1,1,1,1,1,1])]
noncomputable abbrev IH:List Item:=[.code (q4 [1,1,1,1,1,1,0,1,0,0,1,0,0,1,1,0,1,0,0]),.inLoop (q4 [1,1,1,1,1,1,0,1,0,0,1,0,0,1,1,0,1,0,0]),.inBlock 2,.code (q4 [1,1,1,1,1,1,0,1,0,0,1,0,0,1,1,1]),.inBlock 1,.code (q4 [1,1,1,1,1,1,0,1,0,0,1,1]),.inLoop (q4 [1,1,1,1,1,1,0,1,0,0]),.inBlock 0,.code (q4 [1,1,1,1,1,1,1])]
theorem dec1{a:Int}(h0:0≤a)(h1:a≤1000000000000):iop .sub .i64 a 1=a-1:=by
 show IntKind.wrap .i64 (a-1)=_
 rw[I64_wrap (by omega)]
structure AhW(w:World)(X:Nat)(ls os:Value)(F:FlowD)(A o:Nat)(V:List Int):Prop where
 flow:(Blk.obj 25 [ls,os]).at Try.prog w X
 fin:FlowIn w (.agg #[ls,os]) F
 lev:∀(i:Nat) (a:Int),V[i]?=some a->w.cell? ⟨A,o+i,none⟩=some (iV a)
theorem AhW.keep{w w':World}{X:Nat}{ls os:Value}{F:FlowD}{A o:Nat}{V:List Int}(h:AhW w X ls os F A o V)(f:Fresh w w'):AhW w' X ls os F A o V:=⟨blk_keep h.flow f,h.fin.keep f,fun i a e=>f.cell (h.lev i a e)⟩
structure AhF(F:FlowD)(V:List Int):Prop where
 hlen:F.lets.length≤1000000
 htr:∀x∈F.lets,x.tree.length≤999999
 hol:F.outs.length≤4294967296
 h0:(chkF F).1=0
 ok:LevOk F V
def belowB(V:List Int)(a:Int)(S:List Int):Bool:=S.any fun m=>decide (V.getD m.toNat 0=a-1)
section
variable {w:World}{cs:List Frame}{fr:Frame}{n e:Int}{X Y A o c D p cN i k:Nat}{s ls os:Value}{F:FlowD}{V:List Int}{y:LetD}{a:Int}
theorem ai_step{x:Int}{b:Bool}(H:AhW w X ls os F A o V)(HF:AhF F V)(hy:F.lets[i]?=some y)(ha:V[i]?=some a)(hN:∀(j:Nat) (m:Int),(needsF y)[j]?=some m->w.cell? ⟨D,p+j,none⟩=some (iV m))(hk:(needsF y)[k]?=some x)
 (hf:FA 4 204 IH [] .normal [(2,iV n),(3,ptrV X),(4,ptrV Y),(7,s),(8,iV e),(9,slV A o V.length c),(11,iV i),(12,slV D p (needsF y).length cN),(13,.bool b),(14,iV k)] fr):
  Goes (G fr cs) w fun g' w'=>∃fr',g'=G fr' cs∧Fresh w w'∧FA 4 204 IH [] .normal [(2,iV n),(3,ptrV X),(4,ptrV Y),(7,s),(8,iV e),(9,slV A o V.length c),(11,iV i),(12,slV D p (needsF y).length cN),(13,.bool (b||decide (V.getD x.toNat 0=a-1))),(14,iV (k+1:Nat))] fr':=by
 obtain⟨h0x,hxi,bv,hbv,hlt⟩:=HF.ok.lt i y a x hy ha (List.mem_of_getElem? hk)
 obtain⟨xn,rfl⟩:∃xn:Nat,x=xn:=⟨x.toNat,by omega⟩
 rw[Int.toNat_natCast]at hbv
 have hkl:=(List.getElem?_eq_some_iff.1 hk).1
 have hil:=(List.getElem?_eq_some_iff.1 hy).1
 have hVl:=HF.ok.len
 have hlen:=HF.hlen
 have hnl:(needsF y).length≤999999:=Nat.le_trans (needs_len y) (HF.htr y (List.mem_of_getElem? hy))
 have hxl:xn<F.lets.length:=by omega
 have ra:=HF.ok.rng i a ha
 have rb:=HF.ok.rng xn bv hbv
 have ra:0≤a∧a≤1000001:=by omega
 have hgd:V.getD xn 0=bv:=by rw[List.getD_eq_getElem?_getD,hbv];rfl
 rw[Int.toNat_natCast,hgd]
 obtain⟨pv,hpv⟩:∃pv:Int,pv=((needsF y)[k-1]?).getD 0:=⟨_,rfl⟩
 obtain⟨ρ,hρ⟩:∃ρ:Env,ρ=mkE [(30,n),(5,e),(81,V.length),(82,c),(83,o),(10,i),(71,(needsF y).length),(72,cN),(73,p),(14,k),(15,(xn:Int)),(16,bv),(11,a),(17,pv)] [(64,X),(65,Y),(80,A),(70,D)] [(7,s),(13,.bool b),(8,ls),(9,os)]:=⟨_,rfl⟩
 refine(bawI.go ρ hf (by rw[hρ];rfl) (ltB_ok (i:=14) (n:=71) (I:=k) (N:=(needsF y).length) (by rw[hρ];rfl) (by rw[hρ];rfl) hkl) ⟨by rw[hρ];exact hN k _ hk,trivial⟩).trans fun g1 w1 hd=>?_
 obtain⟨I,B,fr1,rfl,f1,F1,_⟩:=hd
 have H1:=H.keep f1
 have b10:=ltB_ok (ρ:=ρ) (i:=10) (n:=81) (I:=i) (N:=V.length) (by rw[hρ];rfl) (by rw[hρ];rfl) (by omega)
 have b15:=ltB_ok (ρ:=ρ) (i:=15) (n:=81) (I:=xn) (N:=V.length) (by rw[hρ];rfl) (by rw[hρ];rfl) (by omega)
 have bA:(BE.cmp .geq (v 15) (v 10)).ev ρ=false:=by rw[hρ];exact decide_eq_false (by show ¬((xn:Int)≥(i:Int));omega)
 have bB:(BE.cmp .geq (v 16) (v 11)).ev ρ=false:=by rw[hρ];exact decide_eq_false (by show ¬(bv≥a);omega)
 have m0:w1.cell? ((⟨(.dyn 64),(.lit 0)⟩:AA).ev ρ)=some ((AV.opq 8).ev ρ):=by rw[hρ];exact blk_cell H1.flow (i:=0) rfl
 have m1:w1.cell? ((⟨(.dyn 64),(.lit 1)⟩:AA).ev ρ)=some ((AV.opq 9).ev ρ):=by rw[hρ];exact blk_cell H1.flow (i:=1) rfl
 have m2:w1.cell? ((⟨(.dyn 80),(.plus (.tn (v 83)) (.tn (v 15)))⟩:AA).ev ρ)=some ((i64 (v 16)).ev ρ):=by rw[hρ];exact H1.lev xn bv hbv
 have m3:w1.cell? ((⟨(.dyn 80),(.plus (.tn (v 83)) (.tn (v 10)))⟩:AA).ev ρ)=some ((i64 (v 11)).ev ρ):=by rw[hρ];exact H1.lev i a ha
 have eF:FlowIn w1 (.agg #[ρ.v 8,ρ.v 9]) F:=by rw[hρ];exact H1.fin
 have next:∀{g2:Goroutine} {w2:World},(∃fr' lv',g2=G fr' cs∧Fresh w1 w2∧FA 4 204 (.inRegion rxD []::[.code (q4 [1,1,1,1,1,1,0,1,0,0,1,0,0,1,1,0,1,0,0,1,0,0,1,0,1]),.code (q4 [1,1,1,1,1,1,0,1,0,0,1,0,0,1,1,0,1,0,0,1,0,0,1,1]),.inBlock 3,.code (q4 [1,1,1,1,1,1,0,1,0,0,1,0,0,1,1,0,1,0,0,1,1]),.inLoop (q4 [1,1,1,1,1,1,0,1,0,0,1,0,0,1,1,0,1,0,0]),.inBlock 2,.code (q4 [1,1,1,1,1,1,0,1,0,0,1,0,0,1,1,1]),.inBlock 1,.code (q4 [1,1,1,1,1,1,0,1,0,0,1,1]),.inLoop (q4 [1,1,1,1,1,1,0,1,0,0]),.inBlock 0,.code (q4 [1,1,1,1,1,1,1])]) [] .normal lv' fr'∧(∀x∈told ρ rxB,x∈lv')∧(120,(FB:AV).ev ρ)∈lv')->
   Goes g2 w2 fun g' w'=>∃fr',g'=G fr' cs∧Fresh w w'∧FA 4 204 IH [] .normal [(2,iV n),(3,ptrV X),(4,ptrV Y),(7,s),(8,iV e),(9,slV A o V.length c),(11,iV i),(12,slV D p (needsF y).length cN),(13,.bool (b||decide (bv=a-1))),(14,iV (k+1:Nat))] fr':=fun{g2 w2} hd2=>by
  obtain⟨fr2,lv2,rfl,f2,F2,hb2,q2⟩:=hd2
  have f12:=f1.trans f2
  have F2':=F2.sub (lv':=told ρ rxB++[(120,(FB:AV).ev ρ)]) fun x hx=>by
   rcases List.mem_append.1 hx with h|h
   ·exact hb2 x h
   ·obtain rfl:=List.mem_singleton.1 h
    exact q2
  refine(awK.go ρ F2' (by rw[hρ];rfl) trivial trivial).trans fun g3 w3 hd3=>?_
  obtain⟨I3,B3,fr3,rfl,f3,F3,_⟩:=hd3
  have f13:=f12.trans f3
  have H3:=H.keep f13
  have fin:∀{g4:Goroutine} {w4:World} {b':Bool},(b'=(b||decide (bv=a-1)))->(∃fr' v',g4=G fr' cs∧Fresh w w4∧v'=.bool b'∧∃lv,(∀x∈told ρ rwB,x.1≠13->x∈lv)∧FA 4 204 (.inRegion rzD []::[.inBlock 3,.code (q4 [1,1,1,1,1,1,0,1,0,0,1,0,0,1,1,0,1,0,0,1,1]),.inLoop (q4 [1,1,1,1,1,1,0,1,0,0,1,0,0,1,1,0,1,0,0]),.inBlock 2,.code (q4 [1,1,1,1,1,1,0,1,0,0,1,0,0,1,1,1]),.inBlock 1,.code (q4 [1,1,1,1,1,1,0,1,0,0,1,1]),.inLoop (q4 [1,1,1,1,1,1,0,1,0,0]),.inBlock 0,.code (q4 [1,1,1,1,1,1,1])]) [] .normal (lvPut 13 v' lv) fr')->
    Goes g4 w4 fun g' w'=>∃fr',g'=G fr' cs∧Fresh w w'∧FA 4 204 IH [] .normal [(2,iV n),(3,ptrV X),(4,ptrV Y),(7,s),(8,iV e),(9,slV A o V.length c),(11,iV i),(12,slV D p (needsF y).length cN),(13,.bool (b||decide (bv=a-1))),(14,iV (k+1:Nat))] fr':=fun{g4 w4 b'} eb hd4=>by
   obtain⟨fr4,v4,rfl,f4,rfl,lv,hlv,F4⟩:=hd4
   have F4':FA 4 204 _ [] .normal ((13,.bool b')::(told ρ rwB).filter fun x=>!(Nat.beq x.1 13)) fr4:=F4.sub fun x hx=>by
    rcases List.mem_cons.1 hx with rfl|hx
    ·exact List.mem_cons_self ..
    ·obtain⟨h1,h2⟩:=List.mem_filter.1 hx
     have:x.1≠13:=fun e=>by rw[e]at h2;cases h2
     exact List.mem_cons_of_mem _ (List.mem_filter.2 ⟨hlv x h1 this,by simpa using this⟩)
   subst eb
   rw[hρ]at F4'
   refine(awM.go (mkE [(30,n),(5,e),(81,V.length),(82,c),(83,o),(10,i),(71,(needsF y).length),(72,cN),(73,p),(14,k)] [(64,X),(65,Y),(80,A),(70,D)] [(7,s),(13,.bool (b||decide (bv=a-1)))]) F4' rfl trivial trivial).mono fun g5 w5 hd5=>?_
   obtain⟨I5,B5,fr5,rfl,f5,F5,_⟩:=hd5
   refine⟨fr5,rfl,f4.trans f5,?_⟩
   rw[<-inc (i:=k) (by omega)]
   exact F5
  have M2:w3.cell? ((⟨(.dyn 80),(.plus (.tn (v 83)) (.tn (v 15)))⟩:AA).ev ρ)=some ((i64 (v 16)).ev ρ):=by rw[hρ];exact H3.lev xn bv hbv
  have M3:w3.cell? ((⟨(.dyn 80),(.plus (.tn (v 83)) (.tn (v 10)))⟩:AA).ev ρ)=some ((i64 (v 11)).ev ρ):=by rw[hρ];exact H3.lev i a ha
  rw[hρ]at F3
  cases b with
  |true=>
   refine(rz_all (ρ:=ρ) (AllB.app b10 b15) ⟨M2,M3,trivial⟩ (by rw[hρ];rfl) F3).trans fun g4 w4 hd4=>?_
   obtain⟨fr4,lv4,rfl,f4,F4,hb4,hv4⟩:=hd4
   obtain⟨u,q,eu⟩:=hv4 12 (by decide) rfl
   have eu:u=(TB:AV).ev ρ:=eu
   subst eu
   refine(rz_13.goM ρ F4 (by decide) (fun x hx=>by obtain rfl:=List.mem_singleton.1 hx;exact q) trivial trivial (v:=.bool true) rfl).trans fun g5 w5 hd5=>?_
   obtain⟨fr5,v5,rfl,f5,rfl,F5⟩:=hd5
   exact fin (b':=true) (by simp) ⟨fr5,_,rfl,f13.trans (f4.trans f5),rfl,lv4,fun x hx hne=>hb4 x (by
    simp only[told,List.map_cons,List.map_nil,List.mem_cons,List.not_mem_nil,or_false]at hx⊢
    rcases hx with rfl|rfl|rfl|rfl|rfl|rfl|rfl|rfl|rfl|rfl|rfl<;>first|exact absurd rfl hne|simp),F5⟩
  |false=>
   refine(rw_all (ρ:=ρ) (AllB.app b10 b15) ⟨M2,M3,trivial⟩ (by rw[hρ];rfl) F3).trans fun g4 w4 hd4=>?_
   obtain⟨fr4,lv4,rfl,f4,F4,hb4,hv4⟩:=hd4
   obtain⟨u,q,eu⟩:=hv4 12 (by decide) rfl
   have eu:u=(AV.bool (.cmp .eql (v 16) (.op .sub .i64 (v 11) (.lit 1)))).ev ρ:=eu
   subst eu
   refine(rw_13.goM ρ F4 (by decide) (fun x hx=>by obtain rfl:=List.mem_singleton.1 hx;exact q) trivial trivial (v:=.bool (decide (bv=a-1))) (by
    rw[hρ]
    show Value.bool (decide (bv=iop .sub .i64 a 1))=_
    rw[dec1 ra.1 (by omega)])).trans fun g5 w5 hd5=>?_
   obtain⟨fr5,v5,rfl,f5,rfl,F5⟩:=hd5
   exact fin (b':=decide (bv=a-1)) (by simp) ⟨fr5,_,rfl,f13.trans (f4.trans f5),rfl,lv4,fun x hx hne=>hb4 x hx,F5⟩
 rw[hρ]at F1
 by_cases hk0:k=0
 ·have bC:(BE.cmp .gtr (v 14) (.lit 0)).ev ρ=false:=by rw[hρ];exact decide_eq_false (by show ¬((k:Int)>0);omega)
  refine(rx_all (ρ:=ρ) eF HF.hlen HF.htr HF.hol HF.h0 (fun i x hx=>flow_ne HF.h0 hx) hxl (by rw[hρ];rfl) hy (by rw[hρ];rfl) (List.mem_of_getElem? hk) (AllB.app b10 (AllB.app b15 ⟨bA,bB,bC,trivial⟩)) ⟨m0,m1,m2,m3,trivial⟩ (by rw[hρ];rfl) F1).trans fun g2 w2 hd2=>next ?_
  obtain⟨fr2,lv2,h1,h2,h3,h4,h5⟩:=hd2
  obtain⟨u,q,eu⟩:=h5 39 (by decide) rfl
  have eu:u=(FB:AV).ev ρ:=eu
  subst eu
  exact⟨fr2,lv2,h1,h2,h3,h4,q⟩
 ·have ek:iop .sub .i64 (k:Int) 1=((k-1:Nat):Int):=by
   rw[dec1 (by omega) (by omega)]
   omega
  have hk1:k-1<(needsF y).length:=by omega
  have hp1:(needsF y)[k-1]?=some pv:=by rw[hpv,List.getElem?_eq_getElem hk1];rfl
  have hplt:pv<(xn:Int):=by
   have:=List.pairwise_iff_getElem.1 (needs_lt y) (k-1) k hk1 hkl (by omega)
   rw[List.getElem?_eq_getElem hk1]at hp1
   rw[List.getElem?_eq_getElem hkl]at hk
   rw[Option.some.inj hp1,Option.some.inj hk]at this
   exact this
  have bC:(BE.cmp .gtr (v 14) (.lit 0)).ev ρ=true:=by rw[hρ];exact decide_eq_true (by show(k:Int)>0;omega)
  have bD:(BE.cmp .leq (v 15) (v 17)).ev ρ=false:=by rw[hρ];exact decide_eq_false (by show ¬((xn:Int)≤pv);omega)
  have d1:(BE.cmp .lss (.op .sub .i64 (v 14) (.lit 1)) (.tn (v 71))).ev ρ=true:=by
   rw[hρ]
   show decide (iop .sub .i64 (k:Int) 1<(((needsF y).length:Nat):Int))=true
   rw[ek];exact decide_eq_true (by omega)
  have d2:(BE.cmp .leq (.lit 0) (.op .sub .i64 (v 14) (.lit 1))).ev ρ=true:=by
   rw[hρ]
   show decide (0≤iop .sub .i64 (k:Int) 1)=true
   rw[ek];exact decide_eq_true (by omega)
  have d3:(BE.cmp .lss (.op .sub .i64 (v 14) (.lit 1)) (.lit 0)).ev ρ=false:=by
   rw[hρ]
   show decide (iop .sub .i64 (k:Int) 1<0)=false
   rw[ek];exact decide_eq_false (by omega)
  have d4:(BE.cmp .geq (.op .sub .i64 (v 14) (.lit 1)) (.tn (v 71))).ev ρ=false:=by
   rw[hρ]
   show decide (iop .sub .i64 (k:Int) 1≥(((needsF y).length:Nat):Int))=false
   rw[ek];exact decide_eq_false (by omega)
  have m4:w1.cell? ((⟨(.dyn 70),(.plus (.tn (v 73)) (.tn (.op .sub .i64 (v 14) (.lit 1))))⟩:AA).ev ρ)=some ((i64 (v 17)).ev ρ):=by
   rw[hρ]
   show w1.cell? ⟨D,p+(iop .sub .i64 (k:Int) 1).toNat,none⟩=some (iV pv)
   rw[ek,Int.toNat_natCast]
   exact f1.cell (hN _ _ hp1)
  refine(ry_all (ρ:=ρ) eF HF.hlen HF.htr HF.hol HF.h0 (fun i x hx=>flow_ne HF.h0 hx) hxl (by rw[hρ];rfl) hy (by rw[hρ];rfl) (List.mem_of_getElem? hk) (AllB.app b10 (AllB.app b15 ⟨bA,bB,bC,d1,d2,d3,d4,bD,trivial⟩)) ⟨m0,m1,m2,m3,m4,trivial⟩ (by rw[hρ];rfl) F1).trans fun g2 w2 hd2=>next ?_
  obtain⟨fr2,lv2,h1,h2,h3,h4,h5⟩:=hd2
  obtain⟨u,q,eu⟩:=h5 39 (by decide) rfl
  have eu:u=(FB:AV).ev ρ:=eu
  subst eu
  exact⟨fr2,lv2,h1,h2,h3,h4,q⟩
end
def bAt(V:List Int)(a:Int)(S:List Int)(k:Nat):Bool:=decide (S=[])||belowB V a (S.take k)
theorem bAt_succ{V:List Int}{a x:Int}{S:List Int}{k:Nat}(h:S[k]?=some x):(bAt V a S k||decide (V.getD x.toNat 0=a-1))=bAt V a S (k+1):=by
 unfold bAt belowB
 rw[List.take_add_one,h,Option.toList_some,List.any_append]
 simp[Bool.or_assoc]
theorem bAt_end{F:FlowD}{V:List Int}{i:Nat}{y:LetD}{a:Int}(ok:LevOk F V)(hy:F.lets[i]?=some y)(ha:V[i]?=some a):bAt V a (needsF y) (needsF y).length=true:=by
 unfold bAt belowB
 by_cases h:needsF y=[]
 ·rw[decide_eq_true h];rfl
 ·obtain⟨m,hm,b,hb,e⟩:=ok.one i y a hy ha h
  rw[List.take_length,Bool.or_eq_true]
  refine .inr (List.any_eq_true.2 ⟨m,hm,decide_eq_true ?_⟩)
  rw[List.getD_eq_getElem?_getD,hb]
  exact e
section
variable {n e:Int}{X Y A o c:Nat}{s ls os:Value}{F:FlowD}{V:List Int}
theorem ai_loop{D p cN i:Nat}{y:LetD}{a:Int}{zn:Bool}(HF:AhF F V)(hy:F.lets[i]?=some y)(ha:V[i]?=some a)(hzn:zn=true->needsF y=[]):
  ∀(m k:Nat) {w:World} {cs:List Frame} {fr:Frame},k+m=(needsF y).length->AhW w X ls os F A o V->(∀(j:Nat) (m:Int),(needsF y)[j]?=some m->w.cell? ⟨D,p+j,none⟩=some (iV m))->FA 4 204 IH [] .normal [(2,iV n),(3,ptrV X),(4,ptrV Y),(7,s),(8,iV e),(9,slV A o V.length c),(11,iV i),(12,hdV zn D p (needsF y).length cN),(13,.bool (bAt V a (needsF y) k)),(14,iV k)] fr->
  Goes (G fr cs) w fun g' w'=>∃fr',g'=G fr' cs∧Fresh w w'∧FA 4 204 OH [] .normal [(2,iV n),(3,ptrV X),(4,ptrV Y),(7,s),(8,iV e),(9,slV A o V.length c),(11,iV (i+1:Nat))] fr'
 |0,k,w,cs,fr,hk,H,hN,hf=>by
  obtain rfl:k=(needsF y).length:=by omega
  rw[bAt_end HF.ok hy ha]at hf
  have hil:=(List.getElem?_eq_some_iff.1 hy).1
  have:=HF.hlen
  obtain⟨ρ,hρ⟩:∃ρ:Env,ρ=mkE [(30,n),(5,e),(81,V.length),(82,c),(83,o),(10,i),(71,(needsF y).length),(72,cN),(73,p),(14,(needsF y).length)] [(64,X),(65,Y),(80,A),(70,D)] [(7,s)]:=⟨_,rfl⟩
  refine((awO zn).go ρ hf (by rw[hρ];cases zn<;>rfl) ⟨by
   rw[hρ]
   cases zn with
   |false=>exact decide_eq_false (by show ¬(((needsF y).length:Int)<(((needsF y).length:Nat):Int));omega)
   |true=>exact decide_eq_false (by show ¬(((needsF y).length:Int)<0);omega),trivial⟩ trivial).mono fun g1 w1 hd=>?_
  obtain⟨I,B,fr1,rfl,f1,F1,_⟩:=hd
  refine⟨fr1,rfl,f1,?_⟩
  rw[hρ]at F1
  rw[<-inc (i:=i) (by omega)]
  exact F1
 |m+1,k,w,cs,fr,hk,H,hN,hf=>by
  have hlt:k<(needsF y).length:=by omega
  cases zn with
  |true=>
   rw[hzn rfl]at hlt
   simp at hlt
  |false=>
  obtain⟨x,hx⟩:∃x,(needsF y)[k]?=some x:=⟨_,List.getElem?_eq_getElem hlt⟩
  refine(ai_step H HF hy ha hN hx hf).trans fun g1 w1 hd=>?_
  obtain⟨fr1,rfl,f1,F1⟩:=hd
  rw[bAt_succ hx]at F1
  refine(ai_loop HF hy ha hzn m (k+1) (by omega) (H.keep f1) (fun j m hj=>f1.cell (hN j m hj)) F1).mono fun g2 w2 hd2=>?_
  obtain⟨fr2,rfl,f2,F2⟩:=hd2
  exact⟨fr2,rfl,f1.trans f2,F2⟩
variable {w:World}{cs:List Frame}{fr:Frame}
theorem ao_step{i:Nat}{y:LetD}(H:AhW w X ls os F A o V)(HF:AhF F V)(hy:F.lets[i]?=some y)(hf:FA 4 204 OH [] .normal [(2,iV n),(3,ptrV X),(4,ptrV Y),(7,s),(8,iV e),(9,slV A o V.length c),(11,iV i)] fr):
  Goes (G fr cs) w fun g' w'=>∃fr',g'=G fr' cs∧Fresh w w'∧FA 4 204 OH [] .normal [(2,iV n),(3,ptrV X),(4,ptrV Y),(7,s),(8,iV e),(9,slV A o V.length c),(11,iV (i+1:Nat))] fr':=by
 have hil:=(List.getElem?_eq_some_iff.1 hy).1
 have hVl:=HF.ok.len
 obtain⟨a,ha⟩:∃a,V[i]?=some a:=⟨_,List.getElem?_eq_getElem (by omega)⟩
 obtain⟨ls',os',eq,hl,ho⟩:=H.fin
 obtain⟨rfl,rfl⟩:ls=ls'∧os=os':=by simpa using eq
 obtain⟨z,A',o',c',hls,hz,hzc,hel⟩:=hl.ex
 cases z with
 |true=>
  rw[hz rfl]at hil
  simp at hil
 |false=>
 obtain⟨ρ,hρ⟩:∃ρ:Env,ρ=mkE [(30,n),(5,e),(81,V.length),(82,c),(83,o),(10,i),(51,F.lets.length),(52,c'),(53,o')] [(64,X),(65,Y),(80,A),(50,A')] [(7,s),(9,os)]:=⟨_,rfl⟩
 refine(bawC.go ρ hf (by rw[hρ];rfl) ⟨by rw[hρ];exact decide_eq_true (by show(i:Int)<((F.lets.length:Nat):Int);omega),trivial⟩ ⟨by
  rw[hρ]
  refine(blk_cell H.flow (i:=0) rfl).trans ?_
  rw[hls];rfl,by rw[hρ];exact blk_cell H.flow (i:=1) rfl,trivial⟩).trans fun g1 w1 hd=>?_
 obtain⟨I,B,fr1,rfl,f1,F1,_⟩:=hd
 have F1':FA 4 204 [.inRegion (opsOf (q4 [1,1,1,1,1,1,0,1,0,0,1,0,0,0])) [1,2,3,4],.code (q4 [1,1,1,1,1,1,0,1,0,0,1,0,0,1]),.inBlock 1,.code (q4 [1,1,1,1,1,1,0,1,0,0,1,1]),.inLoop (q4 [1,1,1,1,1,1,0,1,0,0]),.inBlock 0,.code (q4 [1,1,1,1,1,1,1])] [] .normal [(2,iV n),(3,ptrV X),(4,ptrV Y),(7,s),(8,iV e),(9,slV A o V.length c),(11,iV i),(57,.agg #[ls,os])] fr1:=by
  rw[hρ]at F1
  rw[hls]
  exact F1
 refine(bawD.go (mkE [] [] [(57,.agg #[ls,os])]) (Q:=fun v w'=>FlowAt w' v F) F1' rfl fun w' f=>copyFlow_all (H.fin.keep (f1.trans f)) HF.hlen HF.htr HF.hol).trans fun g2 w2 hd2=>?_
 obtain⟨fr2,v2,rfl,f2,e2,F2⟩:=hd2
 refine(bawE.go (mkE [(30,n),(5,e),(81,V.length),(82,c),(83,o),(10,i)] [(64,X),(65,Y),(80,A)] [(7,s),(58,v2)]) F2 rfl trivial trivial).trans fun g3 w3 hd3=>?_
 obtain⟨I3,B3,fr3,rfl,f3,F3,_⟩:=hd3
 refine(bawF.go (mkE [] [] [(58,v2),(59,iV i)]) (Q:=fun v w'=>IntsAt w' v (needsF y)) F3 rfl fun w' f=>NeedsG_all (e2.keep (f3.trans f)) HF.hlen HF.htr HF.h0 hy (flow_ne HF.h0 hy)).trans fun g4 w4 hd4=>?_
 obtain⟨fr4,v4,rfl,f4,e4,F4⟩:=hd4
 obtain⟨zn,D,p,cN,rfl,hzn,_,hN⟩:=e4.ex
 have f14:=f1.trans (f2.trans (f3.trans f4))
 have H4:=H.keep f14
 have fin:∀{g5:Goroutine} {w5:World},(∃fr',g5=G fr' cs∧Fresh w4 w5∧FA 4 204 IH [] .normal [(2,iV n),(3,ptrV X),(4,ptrV Y),(7,s),(8,iV e),(9,slV A o V.length c),(11,iV i),(12,hdV zn D p (needsF y).length cN),(13,.bool (bAt V a (needsF y) 0)),(14,iV (0:Nat))] fr')->
   Goes g5 w5 fun g' w'=>∃fr',g'=G fr' cs∧Fresh w w'∧FA 4 204 OH [] .normal [(2,iV n),(3,ptrV X),(4,ptrV Y),(7,s),(8,iV e),(9,slV A o V.length c),(11,iV (i+1:Nat))] fr':=fun{g5 w5} hd5=>by
  obtain⟨fr5,rfl,f5,F5⟩:=hd5
  refine(ai_loop HF hy ha hzn (needsF y).length 0 (by omega) (H4.keep f5) (fun j m hj=>f5.cell (hN j m hj)) F5).mono fun g6 w6 hd6=>?_
  obtain⟨fr6,rfl,f6,F6⟩:=hd6
  exact⟨fr6,rfl,f14.trans (f5.trans f6),F6⟩
 obtain⟨σ,hσ⟩:∃σ:Env,σ=mkE [(30,n),(5,e),(81,V.length),(82,c),(83,o),(10,i),(11,a),(71,(needsF y).length),(72,cN),(73,p)] [(64,X),(65,Y),(80,A),(70,D)] [(7,s)]:=⟨_,rfl⟩
 have b10:=ltB_ok (ρ:=σ) (i:=10) (n:=81) (I:=i) (N:=V.length) (by rw[hσ];rfl) (by rw[hσ];rfl) (by omega)
 have mL:w4.cell? ((⟨(.dyn 80),(.plus (.tn (v 83)) (.tn (v 10)))⟩:AA).ev σ)=some ((i64 (v 11)).ev σ):=by rw[hσ];exact H4.lev i a ha
 have hz0:=HF.ok.zero i y a hy ha
 by_cases hne:needsF y=[]
 ·refine((bawG zn).go σ F4 (by rw[hσ];cases zn<;>rfl) (AllB.app b10 ⟨by rw[hσ];exact decide_eq_true (hz0.2 hne),by
   rw[hσ,hne]
   cases zn with
   |false=>exact decide_eq_true (by show((([]:List Int).length:Nat):Int)=0;rfl)
   |true=>exact decide_eq_true (by show(0:Int)=0;rfl),trivial⟩) ⟨mL,trivial⟩).trans fun g5 w5 hd5=>fin ?_
  obtain⟨I5,B5,fr5,rfl,f5,F5,_⟩:=hd5
  refine⟨fr5,rfl,f5,?_⟩
  have:bAt V a (needsF y) 0=true:=by unfold bAt;rw[decide_eq_true hne];rfl
  rw[this]
  rw[hσ]at F5
  cases zn<;>exact F5
 ·cases zn with
  |true=>exact(hne (hzn rfl)).elim
  |false=>
  refine(bawH.go σ F4 (by rw[hσ];rfl) (AllB.app b10 ⟨by rw[hσ];exact decide_eq_false (fun h=>hne (hz0.1 h)),trivial⟩) ⟨mL,trivial⟩).trans fun g5 w5 hd5=>fin ?_
  obtain⟨I5,B5,fr5,rfl,f5,F5,_⟩:=hd5
  refine⟨fr5,rfl,f5,?_⟩
  have:bAt V a (needsF y) 0=false:=by unfold bAt;rw[decide_eq_false hne];rfl
  rw[this]
  rw[hσ]at F5
  exact F5
theorem ao_loop(HF:AhF F V):∀(m i:Nat) {w:World} {cs:List Frame} {fr:Frame},i+m=F.lets.length->AhW w X ls os F A o V->FA 4 204 OH [] .normal [(2,iV n),(3,ptrV X),(4,ptrV Y),(7,s),(8,iV e),(9,slV A o V.length c),(11,iV i)] fr->
  Goes (G fr cs) w fun g' w'=>∃fr',g'=G fr' cs∧Fresh w w'∧FA 4 204 OH [] .normal [(2,iV n),(3,ptrV X),(4,ptrV Y),(7,s),(8,iV e),(11,iV F.lets.length)] fr'
 |0,i,w,cs,fr,hi,H,hf=>by
  obtain rfl:i=F.lets.length:=by omega
  exact Goes.here ⟨fr,rfl,Fresh.refl _,hf.only rfl⟩
 |m+1,i,w,cs,fr,hi,H,hf=>by
  refine(ao_step H HF (List.getElem?_eq_getElem (show i<F.lets.length by omega)) hf).trans fun g1 w1 hd=>?_
  obtain⟨fr1,rfl,f1,F1⟩:=hd
  refine(ao_loop HF m (i+1) (by omega) (H.keep f1) F1).mono fun g2 w2 hd2=>?_
  obtain⟨fr2,rfl,f2,F2⟩:=hd2
  exact⟨fr2,rfl,f1.trans f2,F2⟩
end
theorem enc_low{n:Nat}(h:n<128):Utf8.encode (n:Int)=⟨#[UInt8.ofNat n]⟩:=by
 unfold Utf8.encode
 have hv:Utf8.valid (n:Int)=true:=by
  unfold Utf8.valid
  simp
  omega
 rw[if_pos hv]
 show(if((n:Int).toNat)<0x80 then _ else _)=_
 rw[Int.toNat_natCast,if_pos (by omega)]
theorem ba_app(a b:List UInt8):(⟨a.toArray⟩:ByteArray)++⟨b.toArray⟩=⟨(a++b).toArray⟩:=by
 apply ByteArray.ext
 show((⟨a.toArray⟩:ByteArray)++⟨b.toArray⟩).data=_
 rw[ByteArray.data_append]
 simp
theorem i32U:Try.prog.underlying 21=some (.int .i32):=by kernel_rfl
section
variable {w:World}{cs:List Frame}{fr:Frame}{fn nt i:Nat}{ops:Array Oper}{l:List Nat}{k:List Item}{lv:List (Nat×Value)}
theorem op_rune{p d:Nat}{n:Int}(O:OpW nt ops i [] (.convert 21 9 (.tmp p)) 9 (some d))(hf:FA fn nt (.inRegion ops (i::l)::k) [] .normal lv fr)(hdn:d<nt)(hp:lookV p lv=some (.int .i32 n)):
  Goes (G fr cs) w fun g' w'=>∃fr',g'=G fr' cs∧w'=w∧FA fn nt (.inRegion ops l::k) [] .normal (lvPut d (.string (Utf8.encode n)) lv) fr':=by
 refine(O.go (R:=fun v w'=>v=.string (Utf8.encode n)∧w'=w) (mkE [] [] []) hf hdn rfl fun tm htm x e1 e2=>?_).mono fun g' w' hd=>?_
 ·unfold execOp
  simp only[e1,wq_bind]
  rw[htm p _ hp]
  simp only[convert,wq_bind,wq_underlying i32U,wq_underlying strU,Conv.intToString,wq_pure]
  exact⟨_,rfl,rfl,trivial⟩
 ·obtain⟨fr',v,rfl,⟨rfl,rfl⟩,F⟩:=hd
  exact⟨fr',rfl,rfl,F⟩
theorem op_cat{p d:Nat}{y:Operand}{a b:ByteArray}(O:OpW nt ops i [] (.binOp .add 9 (.tmp p) y 9) 9 (some d))(hf:FA fn nt (.inRegion ops (i::l)::k) [] .normal lv fr)(hdn:d<nt)(hp:lookV p lv=some (.string a))(hy:∀tm:Array Value,(∀n x,lookV n lv=some x->(⟨tm,[]⟩:Act).eval (.tmp n)=x)->(⟨tm,[]⟩:Act).eval y=.string b)(hs:a.size+b.size≤1000000):
  Goes (G fr cs) w fun g' w'=>∃fr',g'=G fr' cs∧w'=w∧FA fn nt (.inRegion ops l::k) [] .normal (lvPut d (.string (a++b)) lv) fr':=by
 refine(O.go (R:=fun v w'=>v=.string (a++b)∧w'=w) (mkE [] [] []) hf hdn rfl fun tm htm x e1 e2=>?_).mono fun g' w' hd=>?_
 ·unfold execOp
  simp only[e1,wq_bind]
  rw[htm p _ hp,hy tm htm]
  simp only[eqGuard,binOp,Op.stringOp]
  rw[if_neg (show ¬(((a.size+b.size:Nat):Int)>IntKind.i64.max) by
   show ¬(((a.size+b.size:Nat):Int)>9223372036854775807)
   omega)]
  exact⟨_,rfl,rfl,rfl⟩
 ·obtain⟨fr',v,rfl,⟨rfl,rfl⟩,F⟩:=hd
  exact⟨fr',rfl,rfl,F⟩
end
theorem letCells_set:∀{l:List (LetD×Value)} {n:Nat} {p:LetD×Value} {s:ByteArray},l[n]?=some p->(l.flatMap letCells).set (n*3) (.string s)=(l.set n ({p.1 with name:=s},p.2)).flatMap letCells
 |a::l,0,p,s,h=>by
  obtain rfl:a=p:=Option.some.inj h
  rfl
 |a::l,n+1,p,s,h=>by
  have ih:=letCells_set (l:=l) (n:=n) (p:=p) (s:=s) h
  rw[List.set_cons_succ,List.flatMap_cons,List.flatMap_cons,<-ih,show(n+1)*3=n*3+1+1+1 by omega]
  rfl
theorem strS:sizeOf? Try.prog 9=.ok 1:=by kernel_rfl
section
variable {w:World}{cs:List Frame}{fr:Frame}{fn nt i:Nat}{ops:Array Oper}{l:List Nat}{k:List Item}{lv:List (Nat×Value)}
theorem op_storeName{B n c p q:Nat}{s:ByteArray}{L:List (LetD×Value)}{x:LetD×Value}(O:OpW nt ops i [] (.store 9 (.tmp p) (.tmp q)) 0 none)(hf:FA fn nt (.inRegion ops (i::l)::k) [] .normal lv fr)(hp:lookV p lv=some (.pointer (some ⟨B,n*3,none⟩)))(hq:lookV q lv=some (.string s))(hB:(Blk.vec 51 c (L.flatMap letCells)).at Try.prog w B)(hx:L[n]?=some x):
  Goes (G fr cs) w fun g' w'=>∃fr',g'=G fr' cs∧(Keeps (fun b=>b=B) w w'∧(Blk.vec 51 c ((L.set n ({x.1 with name:=s},x.2)).flatMap letCells)).at Try.prog w' B)∧FA fn nt (.inRegion ops l::k) [] .normal lv fr':=by
 obtain⟨arr,rest,inf,g1,g2,g3,g4⟩:=hB
 have hl:=letCells_len L
 have hn:=(List.getElem?_eq_some_iff.1 hx).1
 have hsz:n*3<arr.size:=by
  have:=congrArg List.length g3
  rw[List.length_append]at this
  have:arr.size=arr.toList.length:=rfl
  omega
 refine O.go0 (R:=fun w'=>Keeps (fun b=>b=B) w w'∧(Blk.vec 51 c ((L.set n ({x.1 with name:=s},x.2)).flatMap letCells)).at Try.prog w' B) (mkE [] [] []) hf rfl fun tm htm x e1 e2=>?_
 unfold execOp
 simp only[e1,wq_bind,Instr.storeAt]
 rw[htm p _ hp,htm q _ hq]
 simp only[Instr.sureAddr,wq_pure,storeVar,wq_bind,wq_sizeOf (n:=1) strS]
 rw[if_neg (fun h=>h rfl)]
 show wq _ _ _ (storeCells ⟨B,n*3,none⟩ [.string s] 0) _ w
 simp only[storeCells,wq_bind]
 have a0:(⟨B,n*3,none⟩:Addr).add 0=⟨B,n*3,none⟩:=by simp[Addr.add]
 rw[wq_store,a0]
 refine⟨rfl,⟨_,(cell?_of g1).trans (Array.getElem?_eq_getElem hsz)⟩,frozen?_of g1,trivial,?_⟩
 simp only[wq_pure]
 have hb1:(w.setCell ⟨B,n*3,none⟩ (.string s)).heap[B]?=some (.cells (arr.setIfInBounds (n*3) (.string s)) 51 (0,0)):=by rw[heap_setCell,if_pos rfl,g1];rfl
 refine⟨trivial,⟨fun m hm=>?_,by rw[size_setCell];exact Nat.le_refl _,rfl,rfl,rfl⟩,_,rest,inf,hb1,g2,?_,?_⟩
 ·rw[heap_setCell,if_neg (fun x=>hm x)]
 ·rw[Array.toList_setIfInBounds,g3,List.set_append_left _ _ (by omega),letCells_set hx]
 ·simp only[Array.size_setIfInBounds]
  exact g4
end
theorem i32_low{n:Nat}(h:n<1000):IntKind.wrap .i32 (n:Int)=n:=by
 unfold IntKind.wrap
 have:(n:Int) % (2 ^ IntKind.i32.bits:Int)=n:=Int.emod_eq_of_lt (by omega) (by show(n:Int)<4294967296;omega)
 simp only[this]
 show(if(true&&decide ((n:Int)≥2147483648))=true then _ else _)=_
 rw[decide_eq_false (by omega)]
 rfl
theorem rune_q{i:Nat}(h:i<1000000):IntKind.wrap .i32 (iop .add .i64 113 (iop .rem .i64 (i:Int) 9))=((113+i % 9:Nat):Int):=by
 have e1:iop .rem .i64 (i:Int) 9=((i % 9:Nat):Int):=by
  show(i:Int).tmod 9=_
  rw[Int.tmod_eq_emod_of_nonneg (by omega)]
  omega
 have e2:iop .add .i64 113 ((i % 9:Nat):Int)=((113+i % 9:Nat):Int):=by
  show IntKind.wrap .i64 (113+((i % 9:Nat):Int))=_
  rw[I64_wrap (by omega)]
  omega
 rw[e1,e2,i32_low (by omega)]
theorem rune_a{i:Nat}(h:i<1000000):IntKind.wrap .i32 (iop .add .i64 97 (iop .rem .i64 (iop .quo .i64 (i:Int) 9) 26))=((97+i / 9 % 26:Nat):Int):=by
 have e0:iop .quo .i64 (i:Int) 9=((i / 9:Nat):Int):=by
  show IntKind.wrap .i64 ((i:Int).tdiv 9)=_
  rw[Int.tdiv_eq_ediv_of_nonneg (by omega),I64_wrap (by omega)]
  omega
 have e1:iop .rem .i64 ((i / 9:Nat):Int) 26=((i / 9 % 26:Nat):Int):=by
  show((i / 9:Nat):Int).tmod 26=_
  rw[Int.tmod_eq_emod_of_nonneg (by omega)]
  omega
 have e2:iop .add .i64 97 ((i / 9 % 26:Nat):Int)=((97+i / 9 % 26:Nat):Int):=by
  show IntKind.wrap .i64 (97+((i / 9 % 26:Nat):Int))=_
  rw[I64_wrap (by omega)]
  omega
 rw[e0,e1,e2,i32_low (by omega)]
theorem rune_b{i:Nat}(h:i<1000000):IntKind.wrap .i32 (iop .add .i64 97 (iop .rem .i64 (iop .quo .i64 (i:Int) 234) 26))=((97+i / 234 % 26:Nat):Int):=by
 have e0:iop .quo .i64 (i:Int) 234=((i / 234:Nat):Int):=by
  show IntKind.wrap .i64 ((i:Int).tdiv 234)=_
  rw[Int.tdiv_eq_ediv_of_nonneg (by omega),I64_wrap (by omega)]
  omega
 have e1:iop .rem .i64 ((i / 234:Nat):Int) 26=((i / 234 % 26:Nat):Int):=by
  show((i / 234:Nat):Int).tmod 26=_
  rw[Int.tmod_eq_emod_of_nonneg (by omega)]
  omega
 have e2:iop .add .i64 97 ((i / 234 % 26:Nat):Int)=((97+i / 234 % 26:Nat):Int):=by
  show IntKind.wrap .i64 (97+((i / 234 % 26:Nat):Int))=_
  rw[I64_wrap (by omega)]
  omega
 rw[e0,e1,e2,i32_low (by omega)]
noncomputable abbrev NH:List Item:=[.code (q4 [1,1,1,1,1,1,1,1,1,0,1,0,0]),.inLoop (q4 [1,1,1,1,1,1,1,1,1,0,1,0,0]),.inBlock 4,.code (q4 [1,1,1,1,1,1,1,1,1,1])]
noncomputable abbrev NB(l:List Nat):List Item:=[.inRegion (opsOf (q4 [1,1,1,1,1,1,1,1,1,0,1,0,0,1,0,0])) l,.inBlock 5,.code (q4 [1,1,1,1,1,1,1,1,1,0,1,0,0,1,1]),.inLoop (q4 [1,1,1,1,1,1,1,1,1,0,1,0,0]),.inBlock 4,.code (q4 [1,1,1,1,1,1,1,1,1,1])]
def ch(n:Nat):UInt8:=UInt8.ofNat n
section
variable {w w0:World}{cs:List Frame}{fr:Frame}{n:Int}{X Y Z B N c i:Nat}{s:Value}{l:List (LetD×Value)}{p:LetD×Value}
theorem nl_step(hvec:(Blk.vec 51 c (l.flatMap letCells)).at Try.prog w B)(hZ:(Blk.obj 25 [slV B 0 N c,nilV]).at Try.prog w Z)(hi:i<N)(hN:N≤1000000)(hn:n=N)(hp:l[i]?=some p)
 (hf:FA 4 204 NH [] .normal [(2,iV n),(3,ptrV X),(4,ptrV Y),(7,s),(16,ptrV Z),(17,iV i)] fr):
  Goes (G fr cs) w fun g' w'=>∃fr',g'=G fr' cs∧(∃wa wb,Fresh w wa∧Keeps (fun b=>b=B) wa wb∧(Blk.vec 51 c ((l.set i ({p.1 with name:=nameOf i},p.2)).flatMap letCells)).at Try.prog wb B∧Fresh wb w')∧FA 4 204 NH [] .normal [(2,iV n),(3,ptrV X),(4,ptrV Y),(7,s),(16,ptrV Z),(17,iV (i+1:Nat))] fr':=by
 obtain⟨ρ,hρ⟩:∃ρ:Env,ρ=mkE [(30,n),(10,i),(61,N),(62,c),(63,0)] [(64,X),(65,Y),(66,Z),(60,B)] [(7,s)]:=⟨_,rfl⟩
 refine(bxA.go ρ hf (by rw[hρ];rfl) ⟨by rw[hρ];exact decide_eq_true (by show(i:Int)<n;omega),trivial⟩ ⟨by rw[hρ];exact blk_cell hZ (i:=0) rfl,trivial⟩).trans fun g1 w1 hd=>?_
 obtain⟨I1,B1,fr1,rfl,f1,F1,_⟩:=hd
 have F1':FA 4 204 (NB [7,8,9,10,11,12,13,14,15,16,17,18,19,20,21,22,23,24,25]) [] .normal [(2,iV n),(3,ptrV X),(4,ptrV Y),(7,s),(16,ptrV Z),(17,iV i),(162,slV B 0 N c),(163,iV i),(167,.int .i32 ((113+i % 9:Nat):Int))] fr1:=by
  rw[<-rune_q (by omega)]
  rw[hρ]at F1
  exact F1
 refine(op_rune bxA2 F1' (by decide) rfl).trans fun g2 w2 hd2=>?_
 obtain⟨fr2,rfl,rfl,F2⟩:=hd2
 rw[enc_low (by omega)]at F2
 refine(op_cat bxA3 F2 (by decide) (a:=⟨#[UInt8.ofNat (113+i % 9)]⟩) (b:=⟨#[95]⟩) rfl (fun tm htm=>rfl) (show(1:Nat)+1≤1000000 by decide)).trans fun g3 w3 hd3=>?_
 obtain⟨fr3,rfl,rfl,F3⟩:=hd3
 have e1:(⟨#[UInt8.ofNat (113+i % 9)]⟩:ByteArray)++⟨#[95]⟩=⟨#[UInt8.ofNat (113+i % 9),95]⟩:=ba_app [_] [_]
 rw[e1]at F3
 refine(bxB.go (mkE [(30,n),(10,i),(61,N),(62,c),(63,0)] [(64,X),(65,Y),(66,Z),(60,B)] [(7,s),(169,.string ⟨#[UInt8.ofNat (113+i % 9),95]⟩)]) F3 rfl trivial trivial).trans fun g4 w4 hd4=>?_
 obtain⟨I4,B4,fr4,rfl,f4,F4,_⟩:=hd4
 have F4':FA 4 204 (NB [14,15,16,17,18,19,20,21,22,23,24,25]) [] .normal [(2,iV n),(3,ptrV X),(4,ptrV Y),(7,s),(16,ptrV Z),(17,iV i),(162,slV B 0 N c),(163,iV i),(169,.string ⟨#[UInt8.ofNat (113+i % 9),95]⟩),(174,.int .i32 ((97+i / 9 % 26:Nat):Int))] fr4:=by
  rw[<-rune_a (by omega)]
  exact F4
 refine(op_rune bxB2 F4' (by decide) rfl).trans fun g5 w5 hd5=>?_
 obtain⟨fr5,rfl,rfl,F5⟩:=hd5
 rw[enc_low (by omega)]at F5
 refine(op_cat bxB3 F5 (by decide) (a:=⟨#[UInt8.ofNat (113+i % 9),95]⟩) (b:=⟨#[UInt8.ofNat (97+i / 9 % 26)]⟩) rfl (fun tm htm=>htm 175 _ rfl) (show(2:Nat)+1≤1000000 by decide)).trans fun g6 w6 hd6=>?_
 obtain⟨fr6,rfl,rfl,F6⟩:=hd6
 have e2:(⟨#[UInt8.ofNat (113+i % 9),95]⟩:ByteArray)++⟨#[UInt8.ofNat (97+i / 9 % 26)]⟩=⟨#[UInt8.ofNat (113+i % 9),95,UInt8.ofNat (97+i / 9 % 26)]⟩:=ba_app [_,_] [_]
 rw[e2]at F6
 refine(bxC.go (mkE [(30,n),(10,i),(61,N),(62,c),(63,0)] [(64,X),(65,Y),(66,Z),(60,B)] [(7,s),(176,.string ⟨#[UInt8.ofNat (113+i % 9),95,UInt8.ofNat (97+i / 9 % 26)]⟩)]) F6 rfl trivial trivial).trans fun g7 w7 hd7=>?_
 obtain⟨I7,B7,fr7,rfl,f7,F7,_⟩:=hd7
 have F7':FA 4 204 (NB [21,22,23,24,25]) [] .normal [(2,iV n),(3,ptrV X),(4,ptrV Y),(7,s),(16,ptrV Z),(17,iV i),(162,slV B 0 N c),(163,iV i),(176,.string ⟨#[UInt8.ofNat (113+i % 9),95,UInt8.ofNat (97+i / 9 % 26)]⟩),(181,.int .i32 ((97+i / 234 % 26:Nat):Int))] fr7:=by
  rw[<-rune_b (by omega)]
  exact F7
 refine(op_rune bxC2 F7' (by decide) rfl).trans fun g8 w8 hd8=>?_
 obtain⟨fr8,rfl,rfl,F8⟩:=hd8
 rw[enc_low (by omega)]at F8
 refine(op_cat bxC3 F8 (by decide) (a:=⟨#[UInt8.ofNat (113+i % 9),95,UInt8.ofNat (97+i / 9 % 26)]⟩) (b:=⟨#[UInt8.ofNat (97+i / 234 % 26)]⟩) rfl (fun tm htm=>htm 182 _ rfl) (show(3:Nat)+1≤1000000 by decide)).trans fun g9 w9 hd9=>?_
 obtain⟨fr9,rfl,rfl,F9⟩:=hd9
 have e3:(⟨#[UInt8.ofNat (113+i % 9),95,UInt8.ofNat (97+i / 9 % 26)]⟩:ByteArray)++⟨#[UInt8.ofNat (97+i / 234 % 26)]⟩=nameOf i:=ba_app [_,_,_] [_]
 rw[e3]at F9
 obtain⟨σ,hσ⟩:∃σ:Env,σ=mkE [(30,n),(10,i),(61,N),(62,c),(63,0)] [(64,X),(65,Y),(66,Z),(60,B)] [(7,s),(183,.string (nameOf i))]:=⟨_,rfl⟩
 refine(bxD.go σ F9 (by rw[hσ];rfl) (ltB_ok (i:=10) (n:=61) (I:=i) (N:=N) (by rw[hσ];rfl) (by rw[hσ];rfl) hi) trivial).trans fun ga wa hda=>?_
 obtain⟨Ia,Ba,fra,rfl,fa,Fa,_⟩:=hda
 have Fa':FA 4 204 (NB [25]) [] .normal [(2,iV n),(3,ptrV X),(4,ptrV Y),(7,s),(16,ptrV Z),(17,iV i),(183,.string (nameOf i)),(185,.pointer (some ⟨B,i*3,none⟩))] fra:=by
  rw[hσ]at Fa
  rw[show i*3=0+i*3 by omega]
  exact Fa
 have f0a:Fresh w wa:=f1.trans (f4.trans (f7.trans fa))
 refine(op_storeName bxE Fa' rfl rfl (blk_keep hvec f0a) hp).trans fun gb wb hdb=>?_
 obtain⟨frb,rfl,⟨kp,hv⟩,Fb⟩:=hdb
 refine(bxF.go (mkE [(30,n),(10,i)] [(64,X),(65,Y),(66,Z)] [(7,s)]) Fb rfl trivial trivial).mono fun gc wc hdc=>?_
 obtain⟨Ic,Bc,frc,rfl,fc,Fc,_⟩:=hdc
 refine⟨frc,rfl,⟨wa,wb,f0a,kp,hv,fc⟩,?_⟩
 rw[<-inc (i:=i) (by omega)]
 exact Fc
structure NlAt(w0 w:World)(Z B c N:Nat)(l:List (LetD×Value)):Prop where
 fw:Fresh w0 w
 vec:(Blk.vec 51 c (l.flatMap letCells)).at Try.prog w B
 obj:(Blk.obj 25 [slV B 0 N c,nilV]).at Try.prog w Z
 ne:Z≠B
 hB:w0.heap.size≤B
 nodes:∀p∈l,NodesU w (OffS w0.heap.size (slV B 0 N c)) p.2 p.1.tree
theorem NlAt.lets(H:NlAt w0 w Z B c N l)(hl:l.length=N):LetsAt w (slV B 0 N c) (l.map (·.1)):=by
 subst hl
 exact vec_lets H.vec fun p hp=>(H.nodes p hp).at
theorem nl_loop{L:List LetD}(hLN:L.length=N)(hN:N≤1000000)(hn:n=N):∀(m i:Nat) {l:List (LetD×Value)} {w:World} {cs:List Frame} {fr:Frame},i+m=N->NlAt w0 w Z B c N l->l.map (·.1)=nameTo i L->FA 4 204 NH [] .normal [(2,iV n),(3,ptrV X),(4,ptrV Y),(7,s),(16,ptrV Z),(17,iV i)] fr->
  Goes (G fr cs) w fun g' w'=>∃fr',g'=G fr' cs∧(Fresh w0 w'∧(Blk.obj 25 [slV B 0 N c,nilV]).at Try.prog w' Z∧LetsAt w' (slV B 0 N c) (nameTo N L))∧FA 4 204 NH [] .normal [(2,iV n),(3,ptrV X),(4,ptrV Y),(7,s),(16,ptrV Z),(17,iV N)] fr'
 |0,i,l,w,cs,fr,hi,H,hm,hf=>by
  obtain rfl:i=N:=by omega
  have hl:l.length=i:=by rw[<-List.length_map (f:=(·.1)),hm,nameTo_len,hLN]
  have:=H.lets hl
  rw[hm]at this
  exact Goes.here ⟨fr,rfl,⟨H.fw,H.obj,this⟩,hf⟩
 |m+1,i,l,w,cs,fr,hi,H,hm,hf=>by
  have hl:l.length=N:=by rw[<-List.length_map (f:=(·.1)),hm,nameTo_len,hLN]
  obtain⟨p,hp⟩:∃p,l[i]?=some p:=⟨_,List.getElem?_eq_getElem (by omega)⟩
  refine(nl_step H.vec H.obj (by omega) hN hn hp hf).trans fun g1 w1 hd=>?_
  obtain⟨fr1,rfl,⟨wa,wb,fa,kp,hv,fb⟩,F1⟩:=hd
  have hx:(nameTo i L)[i]?=some p.1:=by rw[<-hm,List.getElem?_map,hp];rfl
  have hBs:B<w.heap.size:=Blk.at_lt H.vec
  refine nl_loop hLN hN hn m (i+1) (l:=l.set i ({p.1 with name:=nameOf i},p.2)) (by omega) ⟨fresh_keeps (H.fw.trans fa) (kp.mono fun b hb=>by rw[hb];exact H.hB) |>.trans fb,blk_keep hv fb,blk_keep (Blk.at_keep (blk_keep H.obj fa) kp H.ne) fb,H.ne,H.hB,fun q hq=>?_⟩ (by rw[<-nameTo_succ hx,<-hm,List.map_set]) F1
  have ku:∀q∈l,NodesU w1 (OffS w0.heap.size (slV B 0 N c)) q.2 q.1.tree:=fun q hq=>(((H.nodes q hq).keep fa).keepBut kp fun x hU _=>⟨hU.2 B N c rfl,hU⟩).keep fb
  rcases List.mem_or_eq_of_mem_set hq with h|rfl
  ·exact ku q h
  ·exact ku p (List.mem_of_getElem? hp)
end
theorem letU:under? Try.prog 22=.ok (.slice 51):=by kernel_rfl
theorem letS:sizeOf? Try.prog 51=.ok 3:=by kernel_rfl
noncomputable abbrev AOut:List Item:=[.inRegion (opsOf (q4 [1,1,1,1,1,1,1,0,1,0,0])) [0,1],.code .ret,.code (q4 [1,1,1,1,1,1,1,1])]
section
variable {w w0:World}{cs:List Frame}{fr:Frame}{n e:Int}{X Y Z N:Nat}{s ls os u:Value}{F:FlowD}{m:MakerD}
theorem ah_out(hf:FA 4 204 AOut [] .normal [] fr):Goes (G fr cs) w fun g' w'=>∃fr',g'=G fr' cs∧Fresh w w'∧Leav 4 fr' w' (.bool true):=by
 refine(awQ.go (mkE [] [] []) (Q:=fun v w'=>v=.bool true) hf rfl fun w' f1=>lives_all).trans fun g1 w1 hd=>?_
 obtain⟨fr1,vv,rfl,f1,rfl,F1⟩:=hd
 refine(bawR.go (mkE [] [] [(149,.bool true)]) F1 rfl trivial trivial).trans fun g2 w2 hd2=>?_
 obtain⟨I,B,fr2,rfl,f2,F2,_⟩:=hd2
 refine(leave1 ret4 F2 rfl).mono fun g6 w6 hd6=>?_
 obtain⟨fr6,rfl,rfl,hL⟩:=hd6
 exact⟨fr6,rfl,f1.trans f2,hL⟩
theorem ah_fin(hY:(Blk.obj 27 [iV m.mul,iV m.add,iV m.fails,iV m.panics]).at Try.prog w Y)(hZ:(Blk.obj 25 [u,nilV]).at Try.prog w Z)(hu:LetsAt w u (nameTo N (F.lets.take N)))(hE:EndsAt w s (plainF F m).2)(h0:(plainF F m).1=0)(hN:N≤F.lets.length)(hlen:F.lets.length≤1000000)(htr:∀x∈F.lets,x.tree.length≤999999)(hn:n=N)
 (hf:FA 4 204 NH [] .normal [(2,iV n),(3,ptrV X),(4,ptrV Y),(7,s),(16,ptrV Z),(17,iV N)] fr):
  Goes (G fr cs) w fun g' w'=>∃fr',g'=G fr' cs∧Fresh w w'∧Leav 4 fr' w' (.bool true):=by
 obtain⟨hc,ho⟩:=plain_other (m:=m) h0 hN
 have hEl:(plainF F m).2.length=F.lets.length:=by
  have:(plainF F m).2=plainEnds m F.lets []:=by
   unfold plainF at h0⊢
   rw[if_neg (fun x=>x hc)]at h0⊢
   split at h0
   ·cases h0
   ·rename_i hh
    rw[if_neg hh]
  rw[this]
  exact plain_at.1
 have hfl:FlowAt w (.agg #[u,nilV]) ⟨nameTo N (F.lets.take N),[]⟩:=⟨u,nilV,rfl,hu,⟨true,0,0,0,rfl,fun _=>rfl,(fun h=>by cases h),fun i n h=>by cases h⟩⟩
 have hl1:(nameTo N (F.lets.take N)).length≤1000000:=by rw[nameTo_len,List.length_take];omega
 have ht1:∀x∈nameTo N (F.lets.take N),x.tree.length≤999999:=fun x hx=>by
  obtain⟨i,hi⟩:=List.getElem?_of_mem hx
  rw[nameTo_get]at hi
  cases e:(F.lets.take N)[i]? with
  |none=>rw[e]at hi;cases hi
  |some y=>
   rw[e]at hi
   have hi:(if i<N then{y with name:=nameOf i}else y)=x:=Option.some.inj hi
   have hy:y.tree.length≤999999:=htr y (List.mem_of_mem_take (List.mem_of_getElem? e))
   rw[<-hi]
   split<;>exact hy
 obtain⟨ρ,hρ⟩:∃ρ:Env,ρ=mkE [(30,n),(10,N),(21,m.mul),(22,m.add),(23,m.fails),(24,m.panics)] [(64,X),(65,Y),(66,Z)] [(7,s),(60,u)]:=⟨_,rfl⟩
 refine(bxG.go ρ hf (by rw[hρ];rfl) ⟨by rw[hρ];exact decide_eq_false (by show ¬((N:Int)<n);omega),trivial⟩ ⟨by rw[hρ];exact blk_cell hZ (i:=0) rfl,by rw[hρ];exact blk_cell hZ (i:=1) rfl,by rw[hρ];exact blk_cell hY (i:=0) rfl,by rw[hρ];exact blk_cell hY (i:=1) rfl,by rw[hρ];exact blk_cell hY (i:=2) rfl,by rw[hρ];exact blk_cell hY (i:=3) rfl,trivial⟩).trans fun g1 w1 hd=>?_
 obtain⟨I1,B1,fr1,rfl,f1,F1,_⟩:=hd
 rw[hρ]at F1
 refine(bxH.go (mkE [] [] [(187,.agg #[u,nilV]),(188,makerV m)]) (Q:=fun v w'=>∃s2,v=.tuple #[s2,iV 0]∧EndsAt w' s2 ((plainF F m).2.take N)) F1 rfl fun w' f=>(plain_all (m:=m) (hfl.keep (f1.trans f)) hl1 ht1).mono fun v w2 hd=>⟨hd.1,by
  obtain⟨s2,h1,h2⟩:=hd.2
  rw[ho]at h1 h2
  exact⟨s2,h1,h2.at⟩⟩).trans fun g2 w2 hd2=>?_
 obtain⟨fr2,vv,rfl,f2,⟨s2,rfl,hs2⟩,F2⟩:=hd2
 refine(bxI.go (mkE [(30,n)] [] [(7,s),(18,s2)]) F2 rfl trivial trivial).trans fun g3 w3 hd3=>?_
 obtain⟨I3,B3,fr3,rfl,f3,F3,_⟩:=hd3
 have f03:=f1.trans (f2.trans f3)
 obtain⟨z,A,o,c,hs,hz,hzc,hel⟩:=hE.ex
 refine(bxJ.go (R:=fun y w'=>y=hdV z A o N c∧w'=w3) (mkE [] [] []) F3 (by decide) rfl fun tm htm x' e1 e2=>?_).trans fun g4 w4 hd4=>?_
 ·unfold execOp
  simp only[e1,wq_bind,Option.map_some,Option.map_none]
  rw[htm 196 s rfl,htm 197 (iV n) rfl,hs,hn]
  exact wq_take endU endS (by rw[hEl];exact hN) (fun h=>by rw[hz h];rfl) hzc ⟨_,rfl,rfl,rfl⟩
 obtain⟨fr4,y,rfl,⟨rfl,rfl⟩,F4⟩:=hd4
 have hT:EndsAt w4 (hdV z A o N c) ((plainF F m).2.take N):=EndsAt.take hs hz hzc (fun i e he=>⟨f03.cell (hel i e he).1,f03.cell (hel i e he).2⟩) (by rw[hEl];exact hN)
 refine(bxL.go (mkE [] [] [(195,s2),(198,hdV z A o N c)]) (Q:=fun v w'=>v=.bool true) F4 rfl fun w' f=>eqEnds_all (hs2.keep (f3.trans f)) (hT.keep f) (by rw[List.length_take];omega)).trans fun g5 w5 hd5=>?_
 obtain⟨fr5,vv,rfl,f5,rfl,F5⟩:=hd5
 refine(bxM.go (mkE [] [] []) F5 rfl trivial trivial).trans fun g6 w6 hd6=>?_
 obtain⟨I6,B6,fr6,rfl,f6,F6,_⟩:=hd6
 refine(bxN.go (mkE [] [] []) (Q:=fun v w'=>v=.bool true) F6 rfl fun w' f1=>lives_all).trans fun g7 w7 hd7=>?_
 obtain⟨fr7,vv,rfl,f7,rfl,F7⟩:=hd7
 refine(bxO.go (mkE [] [] [(202,.bool true)]) F7 rfl trivial trivial).trans fun g8 w8 hd8=>?_
 obtain⟨I8,B8,fr8,rfl,f8,F8,_⟩:=hd8
 refine(leave1 ret4 F8 rfl).mono fun g9 w9 hd9=>?_
 obtain⟨fr9,rfl,rfl,hL⟩:=hd9
 exact⟨fr9,rfl,f03.trans (f5.trans (f6.trans (f7.trans f8))),hL⟩
theorem LetsIn.take{L:List LetD}{z:Bool}{A o c k:Nat}(hz:z=true->L=[])(hzc:z=false->L.length≤c)(hel:∀i x,L[i]?=some x->LetIn w A (o+i*3) x)(hk:k≤L.length):LetsIn w (hdV z A o k c) (L.take k):=
 ⟨z,A,o,c,by rw[List.length_take,Nat.min_eq_left hk],fun h=>by rw[hz h,List.take_nil],fun h=>by
  rw[List.length_take,Nat.min_eq_left hk]
  exact Nat.le_trans hk (hzc h),fun i x hx=>hel i x (by
  rw[List.getElem?_take]at hx
  split at hx
  ·exact hx
  ·cases hx)⟩
theorem ah_tail(hX:(Blk.obj 25 [ls,os]).at Try.prog w X)(hY:(Blk.obj 27 [iV m.mul,iV m.add,iV m.fails,iV m.panics]).at Try.prog w Y)(hF:FlowIn w (.agg #[ls,os]) F)(hE:EndsAt w s (plainF F m).2)(he:e=(plainF F m).1)(hlen:F.lets.length≤1000000)(htr:∀x∈F.lets,x.tree.length≤999999)
 (hf:FA 4 204 OH [] .normal [(2,iV n),(3,ptrV X),(4,ptrV Y),(7,s),(8,iV e),(11,iV F.lets.length)] fr):
  Goes (G fr cs) w fun g' w'=>∃fr',g'=G fr' cs∧Fresh w w'∧Leav 4 fr' w' (.bool true):=by
 obtain⟨ls',os',eq,hl,_⟩:=hF
 obtain⟨rfl,rfl⟩:ls=ls'∧os=os':=by simpa using eq
 obtain⟨z,A,o,c,hls,hz,hzc,hel⟩:=hl.ex
 have out:∀{w1:World} {fr1:Frame},Fresh w w1->FA 4 204 AOut [] .normal [] fr1->Goes (G fr1 cs) w1 fun g' w'=>∃fr',g'=G fr' cs∧Fresh w w'∧Leav 4 fr' w' (.bool true):=fun f1 F1=>(ah_out F1).mono fun g2 w2 hd2=>by
  obtain⟨fr2,h1,h2,h3⟩:=hd2
  exact⟨fr2,h1,f1.trans h2,h3⟩
 obtain⟨ρ,hρ⟩:∃ρ:Env,ρ=mkE [(30,n),(5,e),(10,F.lets.length),(51,F.lets.length),(52,c),(53,o)] [(64,X),(65,Y),(50,A)] [(7,s)]:=⟨_,rfl⟩
 have ez:(slZ z 50 53 51 52).ev ρ=ls:=by rw[hρ,hls];cases z<;>rfl
 have en:(IE.ev ρ (lnZ z 51))=F.lets.length:=by
  rw[hρ]
  cases z with
  |false=>rfl
  |true=>rw[hz rfl];rfl
 have b0:(BE.cmp .lss (v 10) (lnZ z 51)).ev ρ=false:=by
  show decide (ρ.i 10<IE.ev ρ (lnZ z 51))=false
  rw[en,hρ]
  exact decide_eq_false (by show ¬((F.lets.length:Int)<(F.lets.length:Int));omega)
 have m0:w.cell? ((⟨(.dyn 64),(.lit 0)⟩:AA).ev ρ)=some ((slZ z 50 53 51 52).ev ρ):=by
  rw[ez,hρ]
  exact blk_cell hX (i:=0) rfl
 by_cases h0:e=0
 ·have be:(BE.cmp .neq (v 5) (.lit 0)).ev ρ=false:=by
   rw[hρ]
   show(!decide (e=0))=false
   rw[decide_eq_true h0];rfl
  by_cases hn0:n<0
  ·refine((bawS z).go ρ hf (by rw[hρ];rfl) ⟨b0,be,by rw[hρ];exact decide_eq_true hn0,trivial⟩ ⟨m0,trivial⟩).trans fun g1 w1 hd=>?_
   obtain⟨I,B,fr1,rfl,f1,F1,_⟩:=hd
   exact out f1 F1
  have bn:(BE.cmp .lss (v 30) (.lit 0)).ev ρ=false:=by rw[hρ];exact decide_eq_false hn0
  by_cases hn1:n>F.lets.length
  ·refine((bawT z).go ρ hf (by rw[hρ];rfl) ⟨b0,be,bn,by
    show decide (ρ.i 30>IE.ev ρ (lnZ z 51))=true
    rw[en,hρ]
    exact decide_eq_true hn1,trivial⟩ ⟨m0,trivial⟩).trans fun g1 w1 hd=>?_
   obtain⟨I,B,fr1,rfl,f1,F1,_⟩:=hd
   exact out f1 F1
  obtain⟨N,hN⟩:∃N:Nat,n=N:=⟨n.toNat,by omega⟩
  have hNl:N≤F.lets.length:=by omega
  refine((bawU z).go ρ hf (by rw[hρ];rfl) ⟨b0,be,bn,by
   show decide (ρ.i 30>IE.ev ρ (lnZ z 51))=false
   rw[en,hρ]
   exact decide_eq_false hn1,trivial⟩ ⟨m0,trivial⟩).trans fun g1 w1 hd=>?_
  obtain⟨I,B,fr1,rfl,f1,F1,_⟩:=hd
  have F1':FA 4 204 [.inRegion (opsOf (q4 [1,1,1,1,1,1,1,1,0])) [3,4,5,6,7],.code (q4 [1,1,1,1,1,1,1,1,1])] [] .normal [(2,iV n),(3,ptrV X),(4,ptrV Y),(7,s),(151,ls),(152,iV n)] fr1:=by
   rw[hρ]at F1
   rw[hls]
   cases z<;>exact F1
  refine(bawV.go (R:=fun y w'=>y=hdV z A o N c∧w'=w1) (mkE [] [] []) F1' (by decide) rfl fun tm htm x' e1 e2=>?_).trans fun g2 w2 hd2=>?_
  ·unfold execOp
   simp only[e1,wq_bind,Option.map_some,Option.map_none]
   rw[htm 151 ls rfl,htm 152 (iV n) rfl,hls,hN]
   exact wq_take letU letS hNl (fun h=>by rw[hz h];rfl) hzc ⟨_,rfl,rfl,rfl⟩
  obtain⟨fr2,y,rfl,⟨rfl,rfl⟩,F2⟩:=hd2
  have hT:LetsIn w2 (hdV z A o N c) (F.lets.take N):=LetsIn.take hz hzc (fun i x hx=>(hel i x hx).keep f1) hNl
  have lt:(F.lets.take N).length=N:=by rw[List.length_take];omega
  refine(bawX.go (mkE [] [] [(153,hdV z A o N c)]) (Q:=fun v w'=>∃wk,Fresh w2 wk∧Fresh wk w'∧∃l,l.map (·.1)=F.lets.take N∧LetsNew w' wk.heap.size v l∧∀p∈l,NodesU w' (OffS wk.heap.size v) p.2 p.1.tree) F2 rfl fun w' f=>(copyLetsU_all (hT.keep f) (by rw[lt];omega) (fun x hx=>htr x (List.mem_of_mem_take hx))).mono fun v w2 hd=>⟨hd.1,w',f,hd⟩).trans fun g3 w3 hd3=>?_
  obtain⟨fr3,u,rfl,f3,⟨wk,fk,fk3,l,hml,hnew,hnod⟩,F3⟩:=hd3
  have f13:=f1.trans f3
  have hll:l.length=N:=by rw[<-List.length_map (f:=(·.1)),hml,lt]
  have fin:∀{w4:World} {fr4:Frame} {Z:Nat} {u:Value},Fresh w w4->(Blk.obj 25 [u,nilV]).at Try.prog w4 Z->LetsAt w4 u (nameTo N (F.lets.take N))->FA 4 204 NH [] .normal [(2,iV n),(3,ptrV X),(4,ptrV Y),(7,s),(16,ptrV Z),(17,iV N)] fr4->Goes (G fr4 cs) w4 fun g' w'=>∃fr',g'=G fr' cs∧Fresh w w'∧Leav 4 fr' w' (.bool true):=fun{w4 fr4 Z u} f4 hZ hu F4=>
   (ah_fin (m:=m) (blk_keep hY f4) hZ hu (hE.keep f4) (by rw[<-he];exact h0) hNl hlen htr hN F4).mono fun g5 w5 hd5=>by
    obtain⟨fr5,h1,h2,h3⟩:=hd5
    exact⟨fr5,h1,f4.trans h2,h3⟩
  rcases hnew with⟨rfl,rfl⟩|⟨hne,B0,c0,rfl,hB0,hvec⟩
  ·obtain rfl:0=N:=hll
   refine(bawYn.go (mkE [(30,n)] [(64,X),(65,Y)] [(7,s)]) F3 rfl trivial trivial).trans fun g4 w4 hd4=>?_
   obtain⟨I4,B4,fr4,rfl,f4,F4,bl,_⟩:=hd4
   have e0:F.lets.take 0=[]:=rfl
   exact fin (f13.trans f4) bl.1.2 (by
    rw[e0]
    exact⟨true,0,0,0,rfl,fun _=>rfl,(fun h=>by cases h),fun i x h=>by cases h⟩) F4
  ·refine(bawY.go (mkE [(30,n),(61,N),(62,c0),(63,0)] [(64,X),(65,Y),(60,B0)] [(7,s)]) F3 (by rw[hll];rfl) trivial trivial).trans fun g4 w4 hd4=>?_
   obtain⟨I4,B4,fr4,rfl,f4,F4,bl,_⟩:=hd4
   obtain⟨Z,eZ⟩:∃Z,B4 100=Z:=⟨_,rfl⟩
   have hZ:(Blk.obj 25 [slV B0 0 N c0,nilV]).at Try.prog w4 Z:=by rw[<-eZ];exact bl.1.2
   have hZw:w3.heap.size≤Z:=by rw[<-eZ];exact bl.1.1
   have F4':FA 4 204 NH [] .normal [(2,iV n),(3,ptrV X),(4,ptrV Y),(7,s),(16,ptrV Z),(17,iV (0:Nat))] fr4:=by rw[<-eZ];exact F4
   have hBl:=Blk.at_lt hvec
   have H:NlAt wk w4 Z B0 c0 N l:=⟨fk3.trans f4,blk_keep hvec f4,hZ,by omega,hB0,fun p hp=>by
    have:=(hnod p hp).keep f4
    rw[hll]at this
    exact this⟩
   refine(nl_loop (w0:=wk) (L:=F.lets.take N) lt (by omega) hN N 0 (by omega) H (by rw[nameTo_zero];exact hml) F4').trans fun g5 w5 hd5=>?_
   obtain⟨fr5,rfl,⟨f5,hZ5,hu5⟩,F5⟩:=hd5
   exact fin (f1.trans (fk.trans f5)) hZ5 hu5 F5
 ·refine((awP z).go ρ hf (by rw[hρ];rfl) ⟨b0,by
   rw[hρ]
   show(!decide (e=0))=true
   rw[decide_eq_false h0];rfl,trivial⟩ ⟨m0,trivial⟩).trans fun g1 w1 hd=>?_
  obtain⟨I,B,fr1,rfl,f1,F1,_⟩:=hd
  exact out f1 F1
end
section
variable {w:World}{m:MakerD}
theorem ahead_all{x:Value}{n:Int}{F:FlowD}(h:FlowIn w x F)(hlen:F.lets.length+F.outs.length≤100000000000000):Ans 4 #[x,makerV m,iV n] w fun v w'=>Fresh w w'∧v=.bool true:=by
 have h':=h
 obtain⟨ls,os,rfl,hl,ho⟩:=h
 refine ans_of fun cs=>?_
 refine(baw1.go (mkE [(21,m.mul),(22,m.add),(23,m.fails),(24,m.panics),(30,n)] [] [(8,ls),(9,os)]) (enter3 ent4 rfl (.agg #[ls,os]) (makerV m) (iV n)) rfl trivial trivial).trans fun g1 w1 hd=>?_
 obtain⟨I,B,fr1,rfl,f1,F1,bl,_⟩:=hd
 obtain⟨X,eX⟩:∃X,B 100=X:=⟨_,rfl⟩
 obtain⟨Y,eY⟩:∃Y,B 101=Y:=⟨_,rfl⟩
 have hX:(Blk.obj 25 [ls,os]).at Try.prog w1 X:=by rw[<-eX];exact bl.2.1.2
 have hY:(Blk.obj 27 [iV m.mul,iV m.add,iV m.fails,iV m.panics]).at Try.prog w1 Y:=by rw[<-eY];exact bl.1.2
 have F1':FA 4 204 (.inRegion (opsOf (q4 [1,0,0])) [1]::[.code (q4 [1,0,1]),.code (q4 [1,1])]) [] .normal [(2,iV n),(3,ptrV X),(4,ptrV Y),(20,.agg #[ls,os])] fr1:=by rw[<-eX,<-eY];exact F1
 refine(baw2.go (mkE [] [] [(20,.agg #[ls,os])]) (Q:=fun v w'=>∃b,v=.bool b∧(b=false->F.lets.length≤256∧F.outs.length≤2147483647∧∀x∈F.lets,x.tree.length≤1024)) F1' rfl fun w' f2=>wide_all (h'.keep (f1.trans f2)) hlen).trans fun g2 w2 hd2=>?_
 obtain⟨fr2,vv,rfl,f2,⟨b,rfl,hb⟩,F2⟩:=hd2
 have f02:=f1.trans f2
 cases b with
 |true=>
  refine(baw3.go (mkE [] [] []) F2 rfl trivial trivial).trans fun g3 w3 hd3=>?_
  obtain⟨I,B3,fr3,rfl,f3,F3,_⟩:=hd3
  refine(baw4.go (mkE [] [] []) (Q:=fun v w'=>v=.bool true) F3 rfl fun w' f1=>lives_all).trans fun g4 w4 hd4=>?_
  obtain⟨fr4,vv,rfl,f4,rfl,F4⟩:=hd4
  refine(baw5.go (mkE [] [] [(22,.bool true)]) F4 rfl trivial trivial).trans fun g5 w5 hd5=>?_
  obtain⟨I,B5,fr5,rfl,f5,F5,_⟩:=hd5
  refine(leave1 ret4 F5 rfl).mono fun ga wa hda=>?_
  obtain⟨fra,rfl,rfl,hL⟩:=hda
  exact⟨fra,_,rfl,hL,f02.trans (f3.trans (f4.trans f5)),rfl⟩
 |false=>
  obtain⟨h256,hout,htree⟩:=hb rfl
  have hlen':F.lets.length≤1000000:=by omega
  have htr:∀x∈F.lets,x.tree.length≤999999:=fun x hx=>by
   have:=htree x hx
   omega
  refine(baw6.go (mkE [(30,n)] [(64,X),(65,Y)] []) F2 rfl trivial trivial).trans fun g3 w3 hd3=>?_
  obtain⟨I,B3,fr3,rfl,f3,F3,_⟩:=hd3
  have f13:=f2.trans f3
  refine(r1_all (m:=m) (a:=iV n) (blk_keep hX f13) (blk_keep hY f13) (h'.keep (f1.trans f13)) hlen' htr (by omega) F3).trans fun g4 w4 hd4=>?_
  obtain⟨fr4,s,rfl,f4,⟨hE,hEn⟩,F4⟩:=hd4
  have f14:=f13.trans f4
  have hX4:=blk_keep hX f14
  refine(baw7.go (mkE [(30,n),(5,(plainF F m).1)] [(64,X),(65,Y)] [(7,s),(8,ls),(9,os)]) F4 rfl trivial ⟨blk_cell hX4 (i:=0) rfl,blk_cell hX4 (i:=1) rfl,trivial⟩).trans fun g5 w5 hd5=>?_
  obtain⟨I5,B5,fr5,rfl,f5,F5,_⟩:=hd5
  refine(baw8.go (mkE [] [] [(31,.agg #[ls,os])]) (Q:=fun v w'=>FlowAt w' v F) F5 rfl fun w' f=>copyFlow_all (h'.keep (f1.trans (f14.trans (f5.trans f)))) hlen' htr (by omega)).trans fun g6 w6 hd6=>?_
  obtain⟨fr6,v6,rfl,f6,e6,F6⟩:=hd6
  refine(baw9.go (mkE [] [] [(32,v6)]) (Q:=fun v w'=>∃t,v=.tuple #[t,iV (chkF F).1]∧IntsAt w' t (if(chkF F).1=0 then levL F.lets []else[])) F6 rfl fun w' f=>(LevelsG_all (e6.keep f) hlen' htr (fun h0 i x hx=>flow_ne h0 hx) (fun h0 i x hx m hm=>by
   obtain⟨g1,g2⟩:=needs_in h0 hx m hm
   exact⟨g1,by omega⟩)).mono fun v w2 hd=>⟨hd.1,by
    obtain⟨t,h1,h2⟩:=hd.2
    exact⟨t,h1,h2.at'⟩⟩).trans fun g7 w7 hd7=>?_
  obtain⟨fr7,vv,rfl,f7,⟨t,rfl,ht⟩,F7⟩:=hd7
  have f17:Fresh w1 w7:=f14.trans (f5.trans (f6.trans f7))
  by_cases h0:(chkF F).1=0
  ·rw[if_pos h0]at ht
   have ok:=lev_ok h0
   obtain⟨V,eV⟩:∃V,levL F.lets []=V:=⟨_,rfl⟩
   rw[eV]at ht ok
   have hVl:=ok.len
   obtain⟨y,A,o,c,hts,hy,hyc,hel⟩:=ht.ex
   obtain⟨z,A',o',c',hls,hz,hzc,_⟩:=hl.ex
   obtain⟨ρ,hρ⟩:∃ρ:Env,ρ=mkE [(30,n),(5,(plainF F m).1),(6,(chkF F).1),(81,V.length),(82,c),(83,o),(51,F.lets.length),(52,c'),(53,o')] [(64,X),(65,Y),(80,A),(50,A')] [(7,s)]:=⟨_,rfl⟩
   have ez:(slZ z 50 53 51 52).ev ρ=ls:=by rw[hρ,hls];cases z<;>rfl
   have ey:(AV.tuple [slZ y 80 83 81 82,i64 (v 6)]).ev ρ=.tuple #[t,iV (chkF F).1]:=by rw[hρ,hts];cases y<;>rfl
   have nz:(lnZ z 51).ev ρ=(F.lets.length:Int):=by
    rw[hρ]
    cases z with
    |false=>rfl
    |true=>rw[hz rfl];rfl
   have ny:(lnZ y 81).ev ρ=(V.length:Int):=by
    rw[hρ]
    cases y with
    |false=>rfl
    |true=>rw[hy rfl];rfl
   refine((bawB z y).go ρ F7 (by
    show[some _,some _,some _,some _,some _,some _]=[some _,some _,some _,some _,some _,some ((AV.tuple [slZ y 80 83 81 82,i64 (v 6)]).ev ρ)]
    rw[ey,hρ];rfl) ⟨by
     rw[hρ]
     show(!decide ((chkF F).1=0))=false
     rw[decide_eq_true h0];rfl,by
     show(!decide ((lnZ y 81).ev ρ=(lnZ z 51).ev ρ))=false
     rw[ny,nz,decide_eq_true (by omega)]
     rfl,trivial⟩ ⟨by rw[ez,hρ];exact blk_cell (blk_keep hX f17) (i:=0) rfl,trivial⟩).trans fun g8 w8 hd8=>?_
   obtain⟨I8,B8,fr8,rfl,f8,F8,_⟩:=hd8
   have f18:=f17.trans f8
   rw[hρ]at F8
   have fin:∀{w9:World} {fr9:Frame},Fresh w8 w9->FA 4 204 OH [] .normal [(2,iV n),(3,ptrV X),(4,ptrV Y),(7,s),(8,iV (plainF F m).1),(11,iV F.lets.length)] fr9->Goes (G fr9 cs) w9 fun g' w'=>∃fr' v,g'=G fr' cs∧Leav 4 fr' w' v∧Fresh w w'∧v=.bool true:=fun{w9 fr9} f9 F9=>by
    have f19:=f18.trans f9
    refine(ah_tail (m:=m) (blk_keep hX f19) (blk_keep hY f19) (h'.keep (f1.trans f19)) (hE.keep (f5.trans (f6.trans (f7.trans (f8.trans f9))))) rfl hlen' htr F9).mono fun ga wa hda=>?_
    obtain⟨fra,rfl,fa,hL⟩:=hda
    exact⟨fra,_,rfl,hL,f1.trans (f19.trans fa),rfl⟩
   cases y with
   |true=>
    have hV0:F.lets.length=0:=by rw[<-hVl,hy rfl];rfl
    refine fin (Fresh.refl _) ?_
    rw[hV0]
    exact F8.only rfl
   |false=>
    have H8:AhW w8 X ls os F A o V:=⟨blk_keep hX f18,h'.keep (f1.trans f18),fun i a e=>f8.cell (hel i a e)⟩
    refine(ao_loop ⟨hlen',htr,by omega,h0,ok⟩ F.lets.length 0 (by omega) H8 F8).trans fun g9 w9 hd9=>?_
    obtain⟨fr9,rfl,f9,F9⟩:=hd9
    exact fin f9 F9
  ·have hpe:(plainF F m).1=(chkF F).1:=by
    unfold plainF
    rw[if_pos h0]
   refine(bawA.go (mkE [(30,n),(5,(plainF F m).1),(6,(chkF F).1)] [(64,X),(65,Y)] [(7,s),(1,t)]) F7 rfl ⟨by
    show(!decide ((chkF F).1=0))=true
    rw[decide_eq_false h0];rfl,decide_eq_true hpe,trivial⟩ trivial).trans fun g8 w8 hd8=>?_
   obtain⟨I8,B8,fr8,rfl,f8,F8,_⟩:=hd8
   refine(bawA2.go (mkE [] [] []) (Q:=fun v w'=>v=.bool true) F8 rfl fun w' f1=>lives_all).trans fun g9 w9 hd9=>?_
   obtain⟨fr9,vv,rfl,f9,rfl,F9⟩:=hd9
   refine(bawA3.go (mkE [] [] []) F9 rfl trivial trivial).trans fun ga wa hda=>?_
   obtain⟨Ia,Ba,fra,rfl,fa,Fa,_⟩:=hda
   refine(leave1 ret4 Fa rfl).mono fun gb wb hdb=>?_
   obtain⟨frb,rfl,rfl,hL⟩:=hdb
   exact⟨frb,_,rfl,hL,f1.trans (f17.trans (f8.trans (f9.trans fa))),rfl⟩
end
end Go.Proofs.Ytmobbajggkjpgaa
namespace Go.Proofs.Ytmobbajggkjpgaa
open Go.ChangeShapes Go.WideShapes Go.ChangeAt Go.RowKit Go.Proofs.Ytmobbajggkjpgaa.SX
theorem kept{W W':World}{may:MemPlace->Prop}(h:Keeps (fun n=>W.heap.size≤n) W W'):W.keptBut W' may:=by
 refine⟨h.os,h.output,fun i hi=>?_⟩
 have e:=h.heap i (Nat.not_le.2 hi)
 rw[e]
 split
 ·rename_i e1 e2
  cases e1.symm.trans e2
  exact⟨rfl,rfl,rfl,fun _ _=>rfl⟩
 ·rename_i e1 e2
  cases e1.symm.trans e2
  exact .inr ⟨rfl,rfl⟩
 ·rfl
theorem Try.cells2:Try.prog.cellsOf 2=1:=by kernel_rfl
theorem Try.cells3:Try.prog.cellsOf 3=1:=by kernel_rfl
theorem Try.cells9:Try.prog.cellsOf 9=1:=by kernel_rfl
theorem Try.cells22:Try.prog.cellsOf 22=1:=by kernel_rfl
theorem Try.cells23:Try.prog.cellsOf 23=1:=by kernel_rfl
theorem Try.cells25:Try.prog.cellsOf 25=2:=by kernel_rfl
theorem Try.cells27:Try.prog.cellsOf 27=4:=by kernel_rfl
theorem Try.cells28:Try.prog.cellsOf 28=1:=by kernel_rfl
theorem Try.cells49:Try.prog.cellsOf 49=1:=by kernel_rfl
theorem Try.cells51:Try.prog.cellsOf 51=3:=by kernel_rfl
theorem Try.cells75:Try.prog.cellsOf 75=4:=by kernel_rfl
theorem Try.bytes51:Try.prog.bytesOf 51=48:=by kernel_rfl
theorem Try.bytes3:Try.prog.bytesOf 3=8:=by kernel_rfl
theorem Try.types25:Try.prog.cellTypes Try.prog.depth 25=some [22,23]:=by kernel_rfl
section
variable {H:Type}{enc:TypeId×Value->H}{W:World}
theorem two{l:List Value}(h:l.length=2):∃a b,l=[a,b]:=by
 match l,h with
 |[a,b],_=>exact⟨a,b,rfl⟩
theorem three{l:List Value}(h:l.length=3):∃a b c,l=[a,b,c]:=by
 match l,h with
 |[a,b,c],_=>exact⟨a,b,c,rfl⟩
theorem four{l:List Value}(h:l.length=4):∃a b c d,l=[a,b,c,d]:=by
 match l,h with
 |[a,b,c,d],_=>exact⟨a,b,c,d,rfl⟩
theorem weigh_step{l r:List Nat}{n:Nat}(h:∀x∈l++r,x≤n):(∀x∈l,x≤n)∧∀x∈r,x≤n:=
 ⟨fun x hx=>h x (List.mem_append_left _ hx),fun x hx=>h x (List.mem_append_right _ hx)⟩
theorem open_node{n:Nat}{cs:List Value}{x:DataW H×List MemPlace}(h:DataW.trod enc Try.prog W 0 (fun _=>true) true n 75 cs=some x):
  ∃r:Nd,cs=[i8V r.op,iV r.n,iV r.kids,iV r.at']:=by
 obtain⟨xs,k,_,_,hl,hlen,hf⟩:=DataW.trod_struct Try.underlying75 h
 rw[Try.cells75]at hl
 obtain⟨a,b,c,d,rfl⟩:=four hl
 have hl4:xs.length=4:=hlen
 have g0:DataW.trod enc Try.prog W 0 (fun _=>true) true k 28 [a]=some (xs[0]'(by omega)):=by
  have:=hf 0 _ rfl
  rw[List.getElem?_eq_getElem (by omega)]at this
  simpa[Try.cells28] using this
 have g1:DataW.trod enc Try.prog W 0 (fun _=>true) true k 2 [b]=some (xs[1]'(by omega)):=by
  have:=hf 1 _ rfl
  rw[List.getElem?_eq_getElem (by omega)]at this
  simpa[Try.cells2] using this
 have g2:DataW.trod enc Try.prog W 0 (fun _=>true) true k 3 [c]=some (xs[2]'(by omega)):=by
  have:=hf 2 _ rfl
  rw[List.getElem?_eq_getElem (by omega)]at this
  simpa[Try.cells3] using this
 have g3:DataW.trod enc Try.prog W 0 (fun _=>true) true k 3 [d]=some (xs[3]'(by omega)):=by
  have:=hf 3 _ rfl
  rw[List.getElem?_eq_getElem (by omega)]at this
  simpa[Try.cells3] using this
 obtain⟨n0,e0,_⟩:=DataW.trod_int Try.underlying28 g0
 obtain⟨n1,e1,_⟩:=DataW.trod_int Try.underlying2 g1
 obtain⟨n2,e2,_⟩:=DataW.trod_int Try.underlying3 g2
 obtain⟨n3,e3,_⟩:=DataW.trod_int Try.underlying3 g3
 cases e0
 cases e1
 cases e2
 cases e3
 exact⟨⟨n0,n1,n2,n3⟩,rfl⟩
instance:Inhabited Nd:=⟨⟨0,0,0,0⟩⟩
theorem open_nodes{n:Nat}{v:Value}{x:DataW H×List MemPlace}(h:DataW.trod enc Try.prog W 0 (fun _=>true) true n 49 [v]=some x):∃l:List Nd,NodesIn W v l:=by
 rcases Go.Deep.open_slice Try.underlying49 h with⟨hc,hx⟩|⟨a,len,cap,m,k,D,Pl,hc,_,hl,hm,hmm,hx,hel⟩
 ·cases hc
  exact⟨[],⟨.inl ⟨.inl ⟨rfl,rfl⟩⟩⟩⟩
 ·cases hc
  cases hx
  simp only[if_true]at hmm
  subst hmm
  by_cases h0:len=0
  ·subst h0
   exact⟨[],⟨.inr ⟨rfl,some a,m,rfl⟩⟩⟩
  ·have hsp:a.spot=none:=by
    obtain⟨cs',h1,_⟩:=hel 0 (by omega)
    obtain⟨_,_,h3⟩:=World.cells?_some h1
    have h4:=h3 0 (by rw[Try.cells75];decide)
    obtain⟨_,hlen,_⟩:=World.cells?_some h1
    rw[List.getElem?_eq_getElem (by rw[hlen,Try.cells75];decide)]at h4
    simpa[Addr.add] using World.cell?_spot h4
   obtain⟨b,o,spot⟩:=a
   dsimp only at hsp
   subst hsp
   obtain⟨R,hR⟩:=Go.Deep.choose_lt (n:=len) (p:=fun i (r:Nd)=>NdAt W b (o+i*4) r) fun i hi=>by
    obtain⟨cs',h1,h2⟩:=hel i (by omega)
    obtain⟨r,rfl⟩:=open_node h2
    obtain⟨_,_,h3⟩:=World.cells?_some h1
    rw[Try.cells75]at h3
    have at':∀j v,j<4->[i8V r.op,iV r.n,iV r.kids,iV r.at'][j]?=some v->W.cell? ⟨b,o+i*4+j,none⟩=some v:=fun j v hj hv=>by
     have h4:=(h3 j hj).trans hv
     rwa[add_plain,add_plain]at h4
    exact⟨r,at' 0 _ (by decide) rfl,at' 1 _ (by decide) rfl,at' 2 _ (by decide) rfl,at' 3 _ (by decide) rfl⟩
   refine⟨(List.range len).map R,⟨.inl ⟨.inr ⟨b,o,m,?_,?_,fun k r hr=>?_⟩⟩⟩⟩
   ·rw[List.length_map,List.length_range];rfl
   ·rw[List.length_map,List.length_range];exact hl
   ·rw[List.getElem?_map]at hr
    by_cases hk:k<len
    ·rw[List.getElem?_range hk]at hr
     cases hr
     exact hR k hk
    ·rw[List.getElem?_eq_none (by rw[List.length_range];omega)]at hr
     cases hr
theorem open_let{n:Nat}{cs:List Value}{x:DataW H×List MemPlace}(h:DataW.trod enc Try.prog W 0 (fun _=>true) true n 51 cs=some x):
  ∃(r:LetD) (ts:Value),cs=[.string r.name,ts,iV r.at']∧NodesIn W ts r.tree:=by
 obtain⟨xs,k,_,_,hl,hlen,hf⟩:=DataW.trod_struct Try.underlying51 h
 rw[Try.cells51]at hl
 obtain⟨a,b,c,rfl⟩:=three hl
 have hl4:xs.length=3:=hlen
 have g0:DataW.trod enc Try.prog W 0 (fun _=>true) true k 9 [a]=some (xs[0]'(by omega)):=by
  have:=hf 0 _ rfl
  rw[List.getElem?_eq_getElem (by omega)]at this
  simpa[Try.cells9] using this
 have g1:DataW.trod enc Try.prog W 0 (fun _=>true) true k 49 [b]=some (xs[1]'(by omega)):=by
  have:=hf 1 _ rfl
  rw[List.getElem?_eq_getElem (by omega)]at this
  simpa[Try.cells49] using this
 have g2:DataW.trod enc Try.prog W 0 (fun _=>true) true k 3 [c]=some (xs[2]'(by omega)):=by
  have:=hf 2 _ rfl
  rw[List.getElem?_eq_getElem (by omega)]at this
  simpa[Try.cells3] using this
 obtain⟨s,e0,_⟩:=DataW.trod_string Try.underlying9 g0
 obtain⟨l,hN⟩:=open_nodes g1
 obtain⟨n2,e2,_⟩:=DataW.trod_int Try.underlying3 g2
 cases e0
 cases e2
 exact⟨⟨s,l,n2⟩,b,rfl,hN⟩
instance:Inhabited LetD:=⟨⟨⟨#[]⟩,[],0⟩⟩
theorem open_lets{n:Nat}{v:Value}{d:DataW H}{ps:List MemPlace}(h:DataW.trod enc Try.prog W 0 (fun _=>true) true n 22 [v]=some (d,ps))(hw:∀x∈d.weights Try.prog 22,x≤reachBytes)(hv:∀a len cap,v=.slice (some a) len cap->a.spot=none):
  ∃L:List LetD,LetsIn W v L∧L.length*48≤reachBytes:=by
 rcases Go.Deep.open_slice Try.underlying22 h with⟨hc,hx⟩|⟨a,len,cap,m,k,D,Pl,hc,_,hl,hm,hmm,hx,hel⟩
 ·cases hc
  exact⟨[],⟨true,0,0,0,rfl,fun _=>rfl,(fun h=>by cases h),fun k r hr=>by cases hr⟩,by simp⟩
 ·cases hc
  cases hx
  simp only[if_true]at hmm
  subst hmm
  obtain⟨b,o,spot⟩:=a
  obtain rfl:spot=none:=hv _ _ _ rfl
  have hw1:=hw ((((List.range len).map D).length+((List.range (m-len)).map fun j=>D (len+j)).length)*Try.prog.bytesOf 51) (by
   rw[DataW.weights,Try.underlying22]
   exact List.mem_cons_self)
  obtain⟨R,hR⟩:=Go.Deep.choose_lt (n:=len) (p:=fun i (r:LetD)=>LetIn W b (o+i*3) r) fun i hi=>by
   obtain⟨cs',h1,h2⟩:=hel i (by omega)
   obtain⟨r,ts,rfl,hN⟩:=open_let h2
   obtain⟨_,_,h3⟩:=World.cells?_some h1
   rw[Try.cells51]at h3
   have at':∀j v,j<3->[.string r.name,ts,iV r.at'][j]?=some v->W.cell? ⟨b,o+i*3+j,none⟩=some v:=fun j v hj hv=>by
    have h4:=(h3 j hj).trans hv
    rwa[add_plain,add_plain]at h4
   exact⟨r,ts,at' 0 _ (by decide) rfl,at' 1 _ (by decide) rfl,at' 2 _ (by decide) rfl,hN⟩
  refine⟨(List.range len).map R,⟨false,b,o,m,?_,(fun e=>by cases e),fun _=>?_,fun k r hr=>?_⟩,?_⟩
  ·rw[List.length_map,List.length_range];rfl
  ·rw[List.length_map,List.length_range];exact hl
  ·rw[List.getElem?_map]at hr
   by_cases hk:k<len
   ·rw[List.getElem?_range hk]at hr
    cases hr
    exact hR k hk
   ·rw[List.getElem?_eq_none (by rw[List.length_range];omega)]at hr
    cases hr
  ·rw[List.length_map,List.length_range]at*
   rw[Try.bytes51]at hw1
   omega
theorem open_outs{n:Nat}{v:Value}{d:DataW H}{ps:List MemPlace}(h:DataW.trod enc Try.prog W 0 (fun _=>true) true n 23 [v]=some (d,ps))(hw:∀x∈d.weights Try.prog 23,x≤reachBytes)(hv:∀a len cap,v=.slice (some a) len cap->a.spot=none):
  ∃l:List Int,IntsAt W v l∧l.length*8≤reachBytes:=by
 rcases Go.Deep.open_slice1 Try.underlying23 Try.cells3 h with⟨hc,hx⟩|⟨a,len,cap,m,k,V,D,Pl,hc,_,hl,hm,hmm,hx,hel⟩
 ·cases hc
  exact⟨[],⟨true,0,0,0,rfl,fun _=>rfl,(fun h=>by cases h),fun k r hr=>by cases hr⟩,by simp⟩
 ·cases hc
  cases hx
  simp only[if_true]at hmm
  subst hmm
  obtain⟨b,o,spot⟩:=a
  obtain rfl:spot=none:=hv _ _ _ rfl
  have hw1:=hw ((((List.range len).map D).length+((List.range (m-len)).map fun j=>D (len+j)).length)*Try.prog.bytesOf 3) (by
   rw[DataW.weights,Try.underlying23]
   exact List.mem_cons_self)
  obtain⟨R,hR⟩:=Go.Deep.choose_lt (n:=len) (p:=fun i (n:Int)=>W.cell? ⟨b,o+i,none⟩=some (iV n)) fun i hi=>by
   obtain⟨h1,h2⟩:=hel i (by omega)
   obtain⟨n,e,_,hw⟩:=DataW.trod_int Try.underlying3 h2
   rw[add_plain,(List.cons.inj e).1]at h1
   exact⟨n,h1⟩
  refine⟨(List.range len).map R,⟨false,b,o,m,?_,(fun e=>by cases e),fun _=>?_,fun k r hr=>?_⟩,?_⟩
  ·rw[List.length_map,List.length_range];rfl
  ·rw[List.length_map,List.length_range];exact hl
  ·rw[List.getElem?_map]at hr
   by_cases hk:k<len
   ·rw[List.getElem?_range hk]at hr
    cases hr
    exact hR k hk
   ·rw[List.getElem?_eq_none (by rw[List.length_range];omega)]at hr
    cases hr
  ·rw[List.length_map,List.length_range]at*
   rw[Try.bytes3]at hw1
   omega
theorem open_flow{v:Value}{d:DataW H}{ps:List MemPlace}{base:Nat}(h:DataW.Trod enc Try.prog W 0 (fun _=>true) true 25 v d ps)(hok:Value.okWide Try.prog W .any base 25 v)(hw:∀x∈d.weights Try.prog 25,x≤reachBytes):
  ∃F:FlowD,FlowIn W v F∧F.lets.length+F.outs.length≤100000000000000:=by
 obtain⟨fuel,hf⟩:=h
 obtain⟨cs,rfl,hsz,hrow⟩:∃cs,v=.agg cs∧cs.size=Try.prog.cellsOf 25∧Row.okWide Try.prog W .any base 25 cs:=by
  unfold Value.okWide at hok
  simp only[Try.underlying25]at hok
  exact hok
 have hf':DataW.trod enc Try.prog W 0 (fun _=>true) true fuel 25 cs.toList=some (d,ps):=hf
 obtain⟨xs,n,_,hx,hl,hlen,hfd⟩:=DataW.trod_struct Try.underlying25 hf'
 rw[Try.cells25]at hl
 obtain⟨a,b,hcs⟩:=two hl
 obtain rfl:cs=#[a,b]:=by
  rw[<-Array.toList_inj]
  exact hcs
 cases hx
 match xs,hlen with
 |[x0,x1],_=>
  have g0:DataW.trod enc Try.prog W 0 (fun _=>true) true n 22 [a]=some x0:=by
   have:=hfd 0 _ rfl
   simpa[Try.cells22] using this
  have g1:DataW.trod enc Try.prog W 0 (fun _=>true) true n 23 [b]=some x1:=by
   have:=hfd 1 _ rfl
   simpa[Try.cells23] using this
  have hw':∀x∈x0.1.weights Try.prog 22++(x1.1.weights Try.prog 23++[]),x≤reachBytes:=fun x hx=>hw x (by
   rw[DataW.weights,Try.underlying25]
   exact hx)
  obtain⟨w0,w1⟩:=weigh_step hw'
  obtain⟨w1,_⟩:=weigh_step w1
  have spot:∀i v u,#[a,b][i]?=some v->[22,23][i % 2]?=some u->(∃z,Try.prog.underlying u=some (.slice z))->∀a' len cap,v=.slice (some a') len cap->a'.spot=none:=fun i v u hi hu ⟨z,hz⟩ a' len cap hv=>by
   obtain⟨ts,h1,_,h3⟩:=hrow
   obtain rfl:=Option.some.inj (Try.types25.symm.trans h1)
   obtain⟨u',hu',hok⟩:=h3 i v hi
   have:u'=u:=by
    have h1:[22,23][i % 2]?=some u':=hu'
    rw[h1]at hu
    exact Option.some.inj hu
   subst this hv
   simp only[Cell.okWide,Cell.ok,hz]at hok
   exact hok.2.2.2.1
  obtain⟨L,hL,hL1⟩:=open_lets (d:=x0.1) (ps:=x0.2) g0 w0 (spot 0 a 22 rfl rfl ⟨_,Try.underlying22⟩)
  obtain⟨O,hO,hO1⟩:=open_outs (d:=x1.1) (ps:=x1.2) g1 w1 (spot 1 b 23 rfl rfl ⟨_,Try.underlying23⟩)
  refine⟨⟨L,O⟩,⟨a,b,rfl,hL,hO⟩,?_⟩
  have:reachBytes=140737488351232:=rfl
  show L.length+O.length≤_
  omega
theorem open_maker{v:Value}{d:DataW H}{ps:List MemPlace}{base:Nat}(h:DataW.Trod enc Try.prog W 0 (fun _=>true) true 27 v d ps)(hok:Value.okWide Try.prog W .any base 27 v):∃m:MakerD,v=makerV m:=by
 obtain⟨fuel,hf⟩:=h
 obtain⟨cs,rfl,hsz,hrow⟩:∃cs,v=.agg cs∧cs.size=Try.prog.cellsOf 27∧Row.okWide Try.prog W .any base 27 cs:=by
  unfold Value.okWide at hok
  simp only[Try.underlying27]at hok
  exact hok
 have hf':DataW.trod enc Try.prog W 0 (fun _=>true) true fuel 27 cs.toList=some (d,ps):=hf
 obtain⟨xs,n,_,hx,hl,hlen,hfd⟩:=DataW.trod_struct Try.underlying27 hf'
 rw[Try.cells27]at hl
 obtain⟨a,b,c,e,hcs⟩:=four hl
 obtain rfl:cs=#[a,b,c,e]:=by
  rw[<-Array.toList_inj]
  exact hcs
 have hl4:xs.length=4:=hlen
 have g:∀(i:Nat) (hi:i<4) (z:Value),[a,b,c,e][i]?=some z->∃n:Int,z=iV n:=fun i hi z hz=>by
  have hz2:DataW.trod enc Try.prog W 0 (fun _=>true) true n 2 [z]=some (xs[i]'(by omega)):=by
   rcases(by omega:i=0∨i=1∨i=2∨i=3)with rfl|rfl|rfl|rfl
   all_goals
    first
     |have:=hfd 0 _ rfl;rw[List.getElem?_eq_getElem (by omega)]at this;cases hz;simpa[Try.cells2] using this;done
     |have:=hfd 1 _ rfl;rw[List.getElem?_eq_getElem (by omega)]at this;cases hz;simpa[Try.cells2] using this;done
     |have:=hfd 2 _ rfl;rw[List.getElem?_eq_getElem (by omega)]at this;cases hz;simpa[Try.cells2] using this;done
     |have:=hfd 3 _ rfl;rw[List.getElem?_eq_getElem (by omega)]at this;cases hz;simpa[Try.cells2] using this;done
  obtain⟨n0,e0,_⟩:=DataW.trod_int Try.underlying2 hz2
  cases e0
  exact⟨n0,rfl⟩
 obtain⟨n0,rfl⟩:=g 0 (by decide) a rfl
 obtain⟨n1,rfl⟩:=g 1 (by decide) b rfl
 obtain⟨n2,rfl⟩:=g 2 (by decide) c rfl
 obtain⟨n3,rfl⟩:=g 3 (by decide) e rfl
 exact⟨⟨n0,n1,n2,n3⟩,rfl⟩
end
theorem laidOut:laidOutB Try.prog=true:=by kernel_rfl
theorem graphAhead_lifted(os:Os)(started:os.Started)(H:Type)(enc:TypeId×Value->H):
  ReturnsInHanded {} Try.checked os 4 .any (Rows.graphAheadSpec.pre6 enc Try.prog Try.f4 Rows.graphAheadRow.domain false) (Rows.graphAheadSpec.post enc Try.prog Try.f4 false true false false):=by
 refine returnsInHanded_of_change_sized (C:=Try.checked) Try.own started (by kernel_rfl) Try.func4
  (ChangeSpec.witness6 (enc:=enc) (C:=Try.checked) false ⟨#[],#[.agg #[.slice none 0 0,.slice none 0 0],.agg #[.int .i64 0,.int .i64 0,.int .i64 0,.int .i64 0],.int .i64 0],[]⟩ 8 (by kernel_rfl) (by kernel_rfl) (by kernel_rfl) (by kernel_rfl)) ?_
 intro W base args ds gs before hval0 hW _ hwt _
 have hval:∀(j:Nat) t v,Try.f4.params[j]?=some t->args[j]?=some v->Value.okWide Try.prog W .any base t v:=hval0
 have hW':=hW
 obtain⟨p,q,hA0,hV,rfl,_,_⟩:=hW
 have hA:DataW.TrodAll enc Try.prog W 0 (fun _=>true) true Try.f4.params.toList args.toList ds p:=hA0
 rw[Try.params4]at hA hval
 obtain⟨v0,v1,v2,d0,d1,d2,p0,p1,p2,rfl,rfl,rfl,h0,h1,h2⟩:=trodAll_three hA
 obtain⟨rfl,rfl⟩:=trodVars_none hV
 have hwt':∀x∈d0.weights Try.prog 25,x≤reachBytes:=fun x hx=>by
  have h1:=List.all_eq_true.1 hwt x (by
   show x∈DataW.weightsEach Try.prog (Try.f4.params.toList++_) _
   rw[Try.params4]
   exact List.mem_append_left _ hx)
  exact of_decide_eq_true h1
 obtain⟨F,hF,hlen⟩:=open_flow h0 (hval 0 25 v0 rfl rfl) hwt'
 obtain⟨m,rfl⟩:=open_maker h1 (hval 1 27 v1 rfl rfl)
 obtain⟨n,rfl,rfl,rfl,wn⟩:=open_int Try.underlying3 (hval 2 3 v2 rfl rfl) h2
 have hC:Calls Try.prog 4 #[v0,makerV m,iV n] W fun e W'=>∃v,e=.returned v∧Fresh W W'∧v=.bool true:=ahead_all hF hlen
 refine hC.mono fun e' W' ⟨v,he,hw,hv⟩=>?_
 subst he
 subst hv
 have hlt:∀x∈(p0++p1++[])++[],x.block<W.heap.size:=fun x hx=>hW'.lt x (by simpa using hx)
 have stay:∀x:MemPlace,x.block<W.heap.size->(match x with|.cell b o=>W'.cell? ⟨b,o,none⟩=W.cell? ⟨b,o,none⟩|.map b=>W'.heap[b]?=W.heap[b]?):=fun x hb=>by
  have e:=hw.heap _ (Nat.not_le.2 hb)
  cases x with
  |cell b o=>
   show W'.cell? _=W.cell? _
   simp only[World.cell?]
   rw[show W'.heap[b]?=W.heap[b]? from e]
  |map b=>exact e
 have t0:=WideElems.Trod_stays (sp':=fun b=>decide (b<W.heap.size)) laidOut (by kernel_rfl) (of_decide_eq_true (by kernel_rfl)) h0 (W':=W') (fun x hx=>by
  have hb:=hlt x (by simp[hx])
  have e:=hw.heap _ (Nat.not_le.2 hb)
  cases x with
  |cell b o=>
   show W'.cell? _=W.cell? _
   simp only[World.cell?]
   rw[show W'.heap[b]?=W.heap[b]? from e]
  |map b=>exact e) (fun x hx=>decide_eq_true (hlt x (by simp[hx])))
 have t1:=WideElems.Trod_stays (sp':=fun b=>decide (b<W.heap.size)) laidOut (by kernel_rfl) (of_decide_eq_true (by kernel_rfl)) h1 (W':=W') (fun x hx=>by
  have hb:=hlt x (by simp[hx])
  have e:=hw.heap _ (Nat.not_le.2 hb)
  cases x with
  |cell b o=>
   show W'.cell? _=W.cell? _
   simp only[World.cell?]
   rw[show W'.heap[b]?=W.heap[b]? from e]
  |map b=>exact e) (fun x hx=>decide_eq_true (hlt x (by simp[hx])))
 exact⟨_,rfl,_,_,_,[],_,[],hW',trodAll_mk1 (shut_bool Try.underlying4 true),trodAll_mk3 t0 t1 (shut_int Try.underlying3 wn),rfl,kept hw,fun h=>by cases h⟩
theorem graphAhead_holds:Rows.GraphAheadSaid:=
 OpenClaim.holds_of_wide 4 Try.f4 rfl rfl rfl rfl rfl rfl rfl ⟨rfl,rfl,rfl,rfl,rfl⟩ rfl rfl rfl rfl rfl (by kernel_rfl) Try.func4 (by kernel_rfl)
  (of_decide_eq_true (by kernel_rfl)) (by unfold Func.isWrapper;first|(rw[if_pos (by decide+kernel)];kernel_rfl)|(rw[if_neg (by decide+kernel)];exact⟨rfl,rfl⟩))
  (fun os started H enc _=>graphAhead_lifted os started H enc)
end Go.Proofs.Ytmobbajggkjpgaa

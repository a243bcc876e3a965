/-
  StealNone: the list of deques: the records as it grows. Conditions: none.
-/
import Derived.Test.YtcpiafgkmakdiaaSxSNone
import Derived.Test.YtcpiafgkmakdiaaSxFrz
import Derived.Test.YtcpiafgkmakdiaaSxMarks
set_option maxRecDepth 100000
set_option linter.unusedVariables false
namespace Go.Proofs.Ytcpiafgkmakdiaa
open Go.Proofs.Ytcpiafgkmakdiaa.SX Go.Proofs.Ytcpiafgkmakdiaa.SX.Short

noncomputable def snRow (h : Bool) (j : Nat) : Nat := match h with
  | true => 105 + 3 * j
  | false => 104 + 2 * j
noncomputable def snTmp (h : Bool) (j : Nat) : Nat := match h with
  | true => 104 + 3 * j
  | false => 103 + 2 * j
noncomputable def snEl (h : Bool) (j : Nat) : AV := match h with
  | true => .ptr (some ⟨.dyn (103 + 3 * j), .lit (.ofNat 0)⟩)
  | false => .ptr none
noncomputable def snSl (h : Bool) : Nat → AV
  | 0 => .slice none (.lit (.ofNat 0)) (.lit (.ofNat 0))
  | j + 1 => .slice (some ⟨.dyn (snRow h j), .lit (.ofNat 0)⟩) (.lit (.ofNat (j + 1))) (.var (snRow h j))
noncomputable def snDq : ABlk := .cells [(.ptr none), (.ptr none), (.slice none (.lit (.ofNat 0)) (.lit (.ofNat 0)))] 66
noncomputable def snDqs (h : Bool) : Nat → List (Nat × ABlk)
  | 0 => []
  | j + 1 => match h with
    | true => (103 + 3 * j, snDq) :: snDqs h j
    | false => []
noncomputable def snBase (h : Bool) (j : Nat) : List (Nat × ABlk) := [(102, .cells [snSl h j] 62), (101, .cells [(.int .i64 (.var 4))] 3), (100, .cells [(.int .i64 (.var 2))] 3)]
/-- Memory behind j rounds. -/
noncomputable def snHp (h : Bool) : Nat → List (Nat × ABlk)
  | 0 => snBase h 0
  | j + 1 => (snRow h j, .row ((List.range (j + 1)).map (snEl h)) 63 (.var (snRow h j))) :: (snDqs h (j + 1) ++ snBase h (j + 1))
noncomputable def snNb (h : Bool) : Nat → Nat
  | 0 => 103
  | j + 1 => snRow h j + 1
noncomputable def snLim : Nat := 5192296858534827628530496329220096
noncomputable def snB (h : Bool) : AV := .bool (.lit h)
/-- The temporaries behind round j. -/
noncomputable def snTT (h : Bool) (j i : Nat) (b : AV) : TT := match h with
  | true => (N (.opq 200) (N (.int .i64 (.var 4)) (N (A 101 0) (N Z (N1 (I (j + 1))) (N1 (.opq 222))) (N (A 102 0) (N1 (I i)) (N Z L (N1 (snSl true j))))) (N Z (N (snEl true j) (N1 b) (N (.opq 220) L (N1 (.slice (some ⟨(.dyn (snTmp true j)), (.lit (.ofNat 0))⟩) (.lit (.ofNat 1)) (.lit (.ofNat 1)))))) (N F (N1 (.opq 224)) (N Z L (N1 (.agg [(.ptr none), (.ptr none), (.slice none (.lit (.ofNat 0)) (.lit (.ofNat 0)))])))))) (N (.int .i64 (.var 2)) (N (A 100 0) (N Z (N1 (I j)) (N (.opq 221) L (N1 (snSl true (j + 1))))) (N (.int .i64 (.var 3)) (N1 (.opq 225)) (N Z L (N1 (snEl true j))))) (N T (N (I (j + 1)) (N1 (.int .i64 (.var 3))) (N (.opq 219) L (N1 (snEl true j)))) (N Z (N1 (.opq 223)) (N Z L (N1 T))))))
  | false => (N (.opq 200) (N (.int .i64 (.var 4)) (N (A 101 0) (N Z (N1 (I (j + 1))) (N1 (.opq 222))) (N (A 102 0) (N1 (I i)) (N Z L (N1 (snSl false j))))) (N Z (N (.ptr none) (N1 b) (N (.opq 220) L (N1 (.slice (some ⟨(.dyn (snTmp false j)), (.lit (.ofNat 0))⟩) (.lit (.ofNat 1)) (.lit (.ofNat 1)))))) (N F (N1 (.opq 224)) L))) (N (.int .i64 (.var 2)) (N (A 100 0) (N Z (N1 (I j)) (N (.opq 221) L (N1 (snSl false (j + 1))))) (N (.int .i64 (.var 3)) (N1 (.opq 225)) L)) (N F (N (I (j + 1)) (N1 (.int .i64 (.var 3))) (N (.opq 219) L (N1 (.ptr none)))) (N Z (N1 (.opq 223)) (N Z L (N1 F))))))
noncomputable def snT0 (h : Bool) : TT := (N (.opq 200) (N (.int .i64 (.var 4)) (N (A 101 0) (N Z L (N1 (.opq 222))) (N1 (A 102 0))) (N Z (N Z L (N1 (.opq 220))) (N F (N1 (.opq 224)) L))) (N (.int .i64 (.var 2)) (N (A 100 0) (N Z L (N1 (.opq 221))) (N (.int .i64 (.var 3)) (N1 (.opq 225)) L)) (N (snB h) (N (I 0) L (N1 (.opq 219))) (N Z (N1 (.opq 223)) L))))
noncomputable def snTodo : List Item := [.code (pc (bodyOf Try.f5) [1,1,1,1,0,1,0,0,0,0]), .code (pc (bodyOf Try.f5) [1,1,1,1,0,1,0,0,0,1]), .code (pc (bodyOf Try.f5) [1,1,1,1,0,1,0,0,1]), .inLoop (pc (bodyOf Try.f5) [1,1,1,1,0,1,0,0]), .inBlock 0, .code (pc (bodyOf Try.f5) [1,1,1,1,1])]
/-- Where the loop's test begins, behind j rounds. -/
noncomputable def snCf (h : Bool) : Nat → ACfg
  | 0 => ⟨⟨5, 74, snT0 h, snTodo, [], .run, .normal⟩, [], ⟨snHp h 0, snNb h 0, snLim⟩⟩
  | j + 1 => ⟨⟨5, 74, snTT h j j T, snTodo, [], .run, .normal⟩, [], ⟨snHp h (j + 1), snNb h (j + 1), snLim⟩⟩
/-- Behind the loop, of j + 1 rounds. -/
noncomputable def snX (h : Bool) (j : Nat) : ACfg := ⟨⟨5, 74, snTT h j (j + 1) F, [.code (pc (bodyOf Try.f5) [1,1,1,1,1])], [], .run, .normal⟩, [], ⟨snHp h (j + 1), snNb h (j + 1), snLim⟩⟩
noncomputable def snSt (c : ACfg) : CSt := ⟨0, c, [], 1, 0⟩
noncomputable def snPer (h : Bool) : Nat := match h with
  | true => 40
  | false => 36
noncomputable def ltB (j : Nat) (b : Bool) : List (BE × Bool) := [(.cmp .lss (.lit (.ofNat j)) v3, b)]
/-- A round of the loop. -/
def Grow (h : Bool) (j : Nat) : Prop := mchunk? Try.prog (OB (ltB j true) []) (EX (ltB j true) []) noSums 40000 (snPer h) (keys (snHp h (j + 1))) (snSt (snCf h j)) = .ok (snSt (snCf h (j + 1)))
def Leave (h : Bool) (j : Nat) : Prop := mchunk? Try.prog (OB (ltB (j + 1) false) []) (EX (ltB (j + 1) false) []) noSums 40000 7 (keys (snHp h (j + 1))) (snSt (snCf h (j + 1))) = .ok (snSt (snX h j))

/-! ### Memory made old -/
noncomputable def TT.veil (keep : Nat → Bool) : TT → (Nat → Nat) → TT
  | .leaf, _ => .leaf
  | .node v l r, φ => .node (match isUndef v || keep (φ 0) with
      | true => v
      | false => .opq (2000 + φ 0)) (TT.veil keep l fun m => φ (2 * m + 2)) (TT.veil keep r fun m => φ (2 * m + 1))
noncomputable def snKeep (n : Nat) : Bool := [1, 2, 3, 5, 6, 8, 10].contains n
noncomputable def snDT (h : Bool) : TT := TT.veil snKeep (snTT h 0 1 F) id
noncomputable def snOld (h : Bool) : ACfg := ⟨⟨5, 74, snDT h, [.code (pc (bodyOf Try.f5) [1,1,1,1,1])], [], .run, .normal⟩, [], ⟨[], 1000, snLim⟩⟩
noncomputable def mostB (t : Bool) : List (BE × Bool) := [(.cmp .lss (.var 4) (.lit 1), t)]
noncomputable def memS (h : Bool) : List (AA × AV) := [(⟨.dyn 102, .lit 0⟩, .slice (some ⟨.dyn 1, .lit 0⟩) v3 (.var 6)), (⟨.dyn 100, .lit 0⟩, .int .i64 v2), (⟨.dyn 101, .lit 0⟩, .int .i64 (.var 4))] ++ fam h
noncomputable def O3 (h t : Bool) : Orc := { bs := (.cmp .lss v3 (.lit 1), false) :: mostB t, is := [(.tn v3, v3)], mem := memS h, fns := fns, ext := ext, sums := [18, 46, 43], offs := offs }
noncomputable def snNames (h : Bool) (j : Nat) : List (Nat × Nat) := match h with
  | true => (List.range 70).map fun k => (400 + k, 103 + 3 * (k % (j + 1)))
  | false => []
noncomputable def snS (h : Bool) (j : Nat) : Sub := { is := [(3, .lit (.ofNat (j + 1))), (6, .var (snRow h j))], bs := (1, snRow h j) :: snNames h j, vs := ((List.range 40).filter fun k => !snKeep k).map fun k => (2000 + k, (snTT h j (j + 1) F).get k) }
/-- What is known when the loop has ended behind j + 1 rounds. -/
noncomputable def clsB (j : Nat) (t : Bool) : List (BE × Bool) := mostB t ++ (ltB (j + 1) false ++ (List.range (j + 1)).flatMap fun k => ltB k true)
def Old (h t : Bool) (j : Nat) : Prop := IsFrz (OB (clsB j t) []) (O3 h t) (snS h j) 1000 (snX h j) (snOld h)
end Go.Proofs.Ytcpiafgkmakdiaa

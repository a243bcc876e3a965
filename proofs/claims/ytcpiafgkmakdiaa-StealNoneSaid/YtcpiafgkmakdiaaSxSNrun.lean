/-
  steal.One over deques of which none has anything: its run, piece by piece. Conditions: none.
-/
import Derived.Test.YtcpiafgkmakdiaaSxSNdata
set_option maxRecDepth 100000
set_option linter.unusedVariables false
namespace Go.Proofs.Ytcpiafgkmakdiaa
open Go.Proofs.Ytcpiafgkmakdiaa.SX

noncomputable section
def v2 : IE := .var 2
def v3 : IE := .var 3
def elemE (j : Nat) : AA := ⟨.dyn 1, .tn (.op .rem .i64 (.lit (.ofNat j)) v3)⟩
def dqP (n : Nat) : AV := .ptr (some ⟨.dyn n, .lit 0⟩)
/-- What the array's elements are: deques without a top, or none. -/
def fam (h : Bool) : List (AA × AV) :=
  match h with
  | true => (List.range 70).map (fun j => (elemE j, dqP (400 + j))) ++ (List.range 70).map fun j => (⟨.dyn (400 + j), .lit 0⟩, .ptr none)
  | false => (List.range 70).map fun j => (elemE j, .ptr none)
def OO (h : Bool) (bs : List (BE × Bool)) (mem : List (AA × AV)) : Orc := { bs := bs, is := [(.tn v3, v3)], mem := mem ++ fam h, fns := fns, ext := ext, offs := offs }
def EO (O : Orc) : Ext := ext? Try.prog O tabC
def CO (O : Orc) : FuncId → List AV → AH → M (AE × AH) := fun g args h => match noSums g args h with
  | some r => r
  | none => match enterA Try.prog g args .normal with
    | .ok fr => run? Try.prog O (EO O) noSums 4000 ⟨fr, [], h⟩
    | .error e => .error e
def inB : List (BE × Bool) := [(.cmp .lss v3 (.lit 1), false), (.cmp .gtr v3 (.lit 64), false), (.cmp .lss v2 (.lit 0), false), (.cmp .geq v2 v3, false)]
/-- Nothing to go round. -/
def outB : Nat → List (BE × Bool)
  | 0 => [(.cmp .lss v3 (.lit 1), true)]
  | 1 => [(.cmp .lss v3 (.lit 1), false), (.cmp .gtr v3 (.lit 64), true)]
  | 2 => [(.cmp .lss v3 (.lit 1), false), (.cmp .gtr v3 (.lit 64), false), (.cmp .lss v2 (.lit 0), true)]
  | _ => [(.cmp .lss v3 (.lit 1), false), (.cmp .gtr v3 (.lit 64), false), (.cmp .lss v2 (.lit 0), false), (.cmp .geq v2 v3, true)]
def snArgs : List AV := [.ptr (some ⟨.dyn 9, .lit 0⟩), .slice (some ⟨.dyn 1, .lit 0⟩) v3 (.var 6), .int .i64 v2]
def h1 : AH := ⟨[], 600, 607⟩
def snRes : AV := .tuple [.int .i64 (.lit 0), .int .i64 (.lit (-1)), .bool (.lit false)]
def retB (x : M (AE × AH)) (v : AV) : Bool :=
  match x with
  | .ok (.returned u, _) => u.eqb v
  | _ => false
/-- The place of round i. -/
def placeE (i : IE) : IE := .op .rem .i64 (.op .add .i64 v2 i) v3
def lapB (i : IE) : List (BE × Bool) := [(.cmp .lss i v3, true), (.cmp .eql v3 (.lit 0), false), (.cmp .leq (.lit 0) (placeE i), true), (.cmp .lss (placeE i) (.tn v3), true)]
def lapM (h : Bool) (i : IE) : List (AA × AV) :=
  match h with
  | true => [(⟨.dyn 1, .tn (placeE i)⟩, dqP 702), (⟨.dyn 702, .lit 0⟩, .ptr none)]
  | false => [(⟨.dyn 1, .tn (placeE i)⟩, .ptr none)]
def snAsg : Code := match snLoop with
  | .rangeFunc _ _ a _ => a
  | _ => .skip
def snBody : Code := match snLoop with
  | .rangeFunc _ _ _ b => b
  | _ => .skip
def RD (O : Orc) : List AV → AH → M (Option Code × AH) := round? Try.prog O (EO O) (CO O) 4000 18 36 snT #[16] snAsg snBody
def s1 : Sub := { is := [(700, .lit 1), (701, .lit 2)] }
def s2 : Sub := { is := [(700, .var 701), (701, .op .add .i64 (.var 701) (.lit 1))] }
def renD (s : Sub) : ACfg := ⟨snD.cur.ren s, [], ⟨renH s snD.h.hp, 607, 607⟩⟩
end

theorem snE : enterA Try.prog 18 snArgs .normal = .ok snFr := by kernel_rfl
theorem snOut0 (h : Bool) : retB (rfCall? Try.prog (OO h (outB 0) []) (EO (OO h (outB 0) [])) (CO (OO h (outB 0) [])) 4000 7777 18 snArgs h1) snRes = true := by cases h <;> kernel_rfl
theorem snOut1 (h : Bool) : retB (rfCall? Try.prog (OO h (outB 1) []) (EO (OO h (outB 1) [])) (CO (OO h (outB 1) [])) 4000 7777 18 snArgs h1) snRes = true := by cases h <;> kernel_rfl
theorem snOut2 (h : Bool) : retB (rfCall? Try.prog (OO h (outB 2) []) (EO (OO h (outB 2) [])) (CO (OO h (outB 2) [])) 4000 7777 18 snArgs h1) snRes = true := by cases h <;> kernel_rfl
theorem snOut3 (h : Bool) : retB (rfCall? Try.prog (OO h (outB 3) []) (EO (OO h (outB 3) [])) (CO (OO h (outB 3) [])) 4000 7777 18 snArgs h1) snRes = true := by cases h <;> kernel_rfl

theorem snUp (h : Bool) : upTo? Try.prog (OO h inB []) (EO (OO h inB [])) (CO (OO h inB [])) atRF 4000 ⟨snFr, [], h1⟩ = .ok ⟨⟨18, 36, snT, .code (.rangeFunc (.tmp 15) #[16] snAsg snBody) :: snK, [], .run, .normal⟩, [], snH⟩ := by cases h <;> kernel_rfl
theorem snG : evalA snT (.tmp 15) = .func (.func 61) [] [.ptr (some ⟨.dyn 605, .lit 0⟩), .ptr (some ⟨.dyn 606, .lit 0⟩)] := by kernel_rfl
theorem snC (h : Bool) : ((OO h inB []).fns.contains 61 && (snT.noq 7777 && (AV.noqs 7777 [.ptr (some ⟨.dyn 605, .lit 0⟩), .ptr (some ⟨.dyn 606, .lit 0⟩)] && hpNoq 7777 snH.hp))) = true := by cases h <;> kernel_rfl
theorem snE2 : enterA Try.prog 61 (.opq 7777 :: [.ptr (some ⟨.dyn 605, .lit 0⟩), .ptr (some ⟨.dyn 606, .lit 0⟩)]) .normal = .ok snR := by kernel_rfl
theorem snNoq (h : Bool) (bs : List (BE × Bool)) : (OO h bs []).noq 7777 = true := by cases h <;> kernel_rfl
theorem snTail (h : Bool) : retB (tail? Try.prog (OO h inB []) (EO (OO h inB [])) (CO (OO h inB [])) 4000 7777 18 36 snT snK none snH) snRes = true := by cases h <;> kernel_rfl
theorem snFirst (h : Bool) : iterUp? Try.prog (OO h inB []) (EO (OO h inB [])) (CO (OO h inB [])) (RD (OO h inB [])) 7777 (atTest 22) 4000 ⟨snR, [], snH⟩ = .ok snF := by cases h <;> kernel_rfl
def i1 : IE := .lit 1
def i2 : IE := .var 701
theorem snLap1 (h : Bool) : lap? Try.prog (OO h (lapB i1) (lapM h i1)) (EO (OO h (lapB i1) (lapM h i1))) (CO (OO h (lapB i1) (lapM h i1))) (RD (OO h (lapB i1) (lapM h i1))) 7777 22 4000 snKs snF = .ok (renD s1) := by cases h <;> kernel_rfl
theorem snLap2 (h : Bool) : lap? Try.prog (OO h (lapB i2) (lapM h i2)) (EO (OO h (lapB i2) (lapM h i2))) (CO (OO h (lapB i2) (lapM h i2))) (RD (OO h (lapB i2) (lapM h i2))) 7777 22 4000 snKs snD = .ok (renD s2) := by cases h <;> kernel_rfl
noncomputable def endB (i : IE) : List (BE × Bool) := [(.cmp .lss i v3, false)]
theorem snEnd1 (h : Bool) : iter? Try.prog (OO h (endB i1) []) (EO (OO h (endB i1) [])) (CO (OO h (endB i1) [])) (RD (OO h (endB i1) [])) 7777 4000 none snF = .ok (none, snH) := by cases h <;> kernel_rfl
theorem snEnd2 (h : Bool) : iter? Try.prog (OO h (endB i2) []) (EO (OO h (endB i2) [])) (CO (OO h (endB i2) [])) (RD (OO h (endB i2) [])) 7777 4000 none snD = .ok (none, snH) := by cases h <;> kernel_rfl
theorem snRen1 : IsRen s1 (renD s1) snD := ⟨by kernel_rfl, rfl, rfl, rfl⟩
theorem snRen2 : IsRen s2 (renD s2) snD := ⟨by kernel_rfl, rfl, rfl, rfl⟩
theorem snLowR : cfgLow 610 ⟨snR, [], snH⟩ = true := by kernel_rfl
theorem snLowF : cfgLow 610 snF = true := by kernel_rfl
theorem snLowD : cfgLow 702 snD = true := by kernel_rfl
theorem snLowT : snT.low 610 = true := by kernel_rfl
theorem lowIn (h : Bool) : (OO h inB []).low 610 = true := by cases h <;> kernel_rfl
theorem lowN (h : Bool) : (OO h [] []).low 610 = true := by cases h <;> kernel_rfl
theorem lowL1 (h : Bool) : (OO h (lapB i1) (lapM h i1)).low 703 = true := by cases h <;> kernel_rfl
theorem lowL2 (h : Bool) : (OO h (lapB i2) (lapM h i2)).low 703 = true := by cases h <;> kernel_rfl
theorem lowE1 (h : Bool) : (OO h (endB i1) []).low 703 = true := by cases h <;> kernel_rfl
theorem lowE2 (h : Bool) : (OO h (endB i2) []).low 703 = true := by cases h <;> kernel_rfl
end Go.Proofs.Ytcpiafgkmakdiaa

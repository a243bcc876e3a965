/-
  treadlelaw23.StealOrder up to the bag's check of its lists of numbers: both lists hold what they should. Conditions: none.
-/
import Derived.Test.YtcpiafgkmakdiaaDoorSxOAp5
import Derived.Test.YtcpiafgkmakdiaaDoorSxParts
set_option maxRecDepth 100000
set_option linter.unusedVariables false
set_option linter.unusedSimpArgs false
namespace Go.Proofs.YtcpiafgkmakdiaaDoor
open Go.Proofs.YtcpiafgkmakdiaaDoor.SX Go.Conc

noncomputable def O4 (bs : List (BE × Bool)) (mem : List (AA × AV)) (ss : List FuncId) : Orc := { bs := bs, mem := mem, fns := fns, ext := ext, sums := ss }
noncomputable abbrev X4 (O : Orc) : Ext := ext? Tryd.prog O tab
noncomputable abbrev S4 (O : Orc) (ss : List FuncId) : Sums := rfSum Tryd.prog O (X4 O) noSums 40000 7777 ss

noncomputable def odI (w i : Nat) : IE := .op .rem .i64 (.op .add .i64 (v 2) (.lit (.ofNat (i + 1)))) (.lit (.ofNat w))
noncomputable def roI (w i : Nat) : IE := .op .rem .i64 (.op .add .i64 (.op .add .i64 (v 2) (.lit 1)) (.lit (.ofNat i))) (.lit (.ofNat w))
noncomputable def nilA : AV := .slice none (.lit 0) (.lit 0)
noncomputable def inF (a b : AV) : AFrame := match enterA Tryd.prog 3 [a, b] .normal with
  | .ok fr => fr
  | .error _ => ⟨0, 0, .leaf, [], [], .run, .normal⟩
noncomputable def todo8 : List Item := [.inRegion (opsOf (pc (bodyOf Tryd.f8) [1,1,1,0,0])) [1, 2], .code (pc (bodyOf Tryd.f8) [1,1,1,0,1]), .code (pc (bodyOf Tryd.f8) [1,1,1,1])]
noncomputable def todo3 : List Item := [.inRegion (opsOf (pc (bodyOf Tryd.f3) [1,1,1,1,1,1,1,1,0])) [1, 2, 3, 4, 5], .code .ret]
noncomputable def lives (f : FuncId) : List Nat := Bool.rec [] [0, 3] (Nat.beq f 8)
noncomputable def bagC (k : Nat) : List AV := nilA :: .slice (some ⟨.dyn k, .lit 0⟩) (.lit 2) (.var k) :: List.replicate 12 nilA
/-- What is seen at the check's entry: the bag's number, its row's, what lies there. -/
noncomputable def inV (g : Nat) (hp : List (Nat × ABlk)) : Seen := ⟨12, 183, [.code (bodyOf Tryd.f12)], [], .run, .normal, [], hp, [ptr0 g]⟩
noncomputable def inC (g : Nat) : List Seen := [⟨8, 47, todo8, [], .run, .normal, [], [], [ptr0 g, TB]⟩, ⟨3, 41, todo3, [], .run, .normal, [], [], []⟩]
noncomputable def runIn (bs : List (BE × Bool)) (n : Nat) (ks : List Nat) (a b : AV) : Option (Seen × List Seen) := seeF (chunkTo? Tryd.prog (O4 bs [] [4]) (X4 (O4 bs [] [4])) (S4 (O4 bs [] [4]) [4]) 40000 n ks ⟨inF a b, [], ⟨[], 100, 100000⟩⟩) [0] lives

/-! ### Rings of two or more -/
noncomputable def inB (w : Nat) : List (BE × Bool) := [(.cmp .lss (v 2) (.lit 0), false), (.cmp .geq (v 2) (.lit (.ofNat w)), false)] ++ (List.range (w - 1)).map fun i => (.cmp .neq (odI w i) (roI w i), false)
noncomputable def inH (w : Nat) : List (Nat × ABlk) := [(6 * w + 104, .row [slc (2 * w + 100) (.lit (.ofNat (w - 1))) (v (2 * w + 100)), slc (4 * w + 101) (.lit (.ofNat (w - 1))) (v (4 * w + 101))] 22 (v (6 * w + 104))), (6 * w + 100, .cells (bagC (6 * w + 104)) 41),
  (4 * w + 101, .row ((List.range (w - 1)).map fun i => i64 (odI w i)) 3 (v (4 * w + 101))), (2 * w + 100, .row ((List.range (w - 1)).map fun i => i64 (odI w i)) 3 (v (2 * w + 100)))]
def InOk (w : Nat) : Prop := runIn (inB w) (259 + 77 * w) [6 * w + 104, 6 * w + 100, 4 * w + 101, 2 * w + 100] (i64 (.lit (.ofNat w))) (i64 (v 2)) = some (inV (6 * w + 100) (inH w), inC (6 * w + 100))

/-! ### No list -/
noncomputable def noH : List (Nat × ABlk) := [(110, .row [nilA, nilA] 22 (v 110)), (109, .cells [nilA] 22), (107, .cells [nilA] 22), (106, .cells (bagC 110) 41)]
noncomputable def noB (j : Nat) : List (BE × Bool) := match j with
  | 0 => [(.cmp .lss (v 1) (.lit 1), true)]
  | 1 => [(.cmp .lss (v 1) (.lit 1), false), (.cmp .gtr (v 1) (.lit 64), true)]
  | 2 => [(.cmp .lss (v 1) (.lit 1), false), (.cmp .gtr (v 1) (.lit 64), false), (.cmp .lss (v 2) (.lit 0), true)]
  | 3 => [(.cmp .lss (v 1) (.lit 1), false), (.cmp .gtr (v 1) (.lit 64), false), (.cmp .lss (v 2) (.lit 0), false), (.cmp .geq (v 2) (v 1), true)]
  | _ => [(.cmp .lss (v 2) (.lit 0), false), (.cmp .geq (v 2) (.lit 1), false)]
def NoOk (j : Nat) : Prop := runIn (noB j) (match j with | 4 => 336 | _ => 313) [110, 109, 107, 106] (i64 (match j with | 4 => .lit 1 | _ => v 1)) (i64 (v 2)) = some (inV 106 noH, inC 106)
theorem no0 : NoOk 0 := by unfold NoOk; kernel_rfl
theorem no1 : NoOk 1 := by unfold NoOk; kernel_rfl
theorem no2 : NoOk 2 := by unfold NoOk; kernel_rfl
theorem no3 : NoOk 3 := by unfold NoOk; kernel_rfl
theorem no4 : NoOk 4 := by unfold NoOk; kernel_rfl
theorem in2 : InOk 2 := by unfold InOk; kernel_rfl

/-! ### Behind it -/
noncomputable def fr8 (st : Nat → Value) : AFrame := ⟨8, 47, tmpsOf 47 st [(0, ptr0 11), (3, TB)], todo8, [], .run, .normal⟩
noncomputable def fr3 (st : Nat → Value) : AFrame := ⟨3, 41, tmpsOf 41 st [], todo3, [], .run, .normal⟩
noncomputable def outM : List (AA × AV) := [(⟨.dyn 11, .lit 0⟩, nilA), (⟨.dyn 11, .lit 2⟩, nilA), (⟨.dyn 11, .lit 3⟩, nilA), (⟨.dyn 11, .lit 4⟩, nilA), (⟨.dyn 11, .lit 5⟩, nilA), (⟨.dyn 11, .lit 6⟩, nilA), (⟨.dyn 11, .lit 7⟩, nilA), (⟨.dyn 11, .lit 8⟩, nilA), (⟨.dyn 11, .lit 9⟩, nilA), (⟨.dyn 11, .lit 10⟩, nilA), (⟨.dyn 11, .lit 11⟩, nilA), (⟨.dyn 11, .lit 12⟩, nilA), (⟨.dyn 11, .lit 13⟩, nilA)]
theorem out_run (st s8 s3 : Nat → Value) : isT (run? Tryd.prog (O4 [] outM [4, 27]) (X4 (O4 [] outM [4, 27])) (S4 (O4 [] outM [4, 27]) [4, 27]) 40000 ⟨apFin st, [fr8 s8, fr3 s3], ⟨[], 100, 100000⟩⟩) = true := by kernel_rfl
end Go.Proofs.YtcpiafgkmakdiaaDoor

/-
  memo.New's runs, as closed data: up to where its loop comes round, once round, the end. Conditions: none.
-/
import Derived.Test.YtbnmlanhjpdalaaGreatDoorSxMCtx
import Derived.Test.YtbnmlanhjpdalaaGreatDoorSxMPlaw
set_option maxRecDepth 100000
namespace Go.Proofs.YtbnmlanhjpdalaaGreatDoor
open Go.Proofs.YtbnmlanhjpdalaaGreatDoor.SX

noncomputable def isOk {α : Type} : M α → Bool
  | .ok _ => true
  | .error _ => false
noncomputable def frOf (r : M AFrame) : AFrame :=
  match r with
  | .ok fr => fr
  | .error _ => ⟨0, 0, .leaf, [], [], .run, .normal⟩
noncomputable def cfOf (r : M ACfg) : ACfg :=
  match r with
  | .ok c => c
  | .error _ => ⟨⟨0, 0, .leaf, [], [], .run, .normal⟩, [], h0⟩
theorem frOf_ok {r : M AFrame} (h : isOk r = true) : r = .ok (frOf r) := by
  cases r with
  | ok c => rfl
  | error e => cases h
theorem cfOf_ok {r : M ACfg} (h : isOk r = true) : r = .ok (cfOf r) := by
  cases r with
  | ok c => rfl
  | error e => cases h

noncomputable def mnO (bs : List (BE × Bool)) : Orc := { bs := bs, fns := fns, ext := ext }
noncomputable def mnX (bs : List (BE × Bool)) : Ext := ext? Tryz.prog (mnO bs) tabC
def v2 : IE := .var 2
def v3 : IE := .var 3
noncomputable def mnBsA : List (BE × Bool) := [(.cmp .geq v2 (.lit 1), true), (.cmp .leq v2 (.lit 4096), true), (.cmp .lss v2 (.lit 0), false), (.cmp .gtr v2 (.lit 1048576), false), (.cmp .neq onesE (.lit 1), false), (.cmp .lss (.lit 0) (.tn v2), true), (.cmp .lss (.plus (.tn (.lit 0)) (.lit 1)) (.times (.tn v2) (.lit 2)), true)]
noncomputable def mnBsB : List (BE × Bool) := [(.cmp .lss v3 (.tn v2), true), (.cmp .leq (.lit 0) v3, true), (.cmp .lss (.plus (.tn (.times (.tn v3) (.lit 2))) (.lit 1)) (.times (.tn v2) (.lit 2)), true)]
noncomputable def mnBsC : List (BE × Bool) := [(.cmp .lss v3 (.tn v2), false)]
noncomputable def mnFr : AFrame := frOf (enterA Tryz.prog 7 [.int .i64 v2] .normal)
noncomputable def mnRA : M ACfg := chunkTo? Tryz.prog (mnO mnBsA) (mnX mnBsA) noSums 40000 156 [101, 100] ⟨mnFr, [], h0⟩
noncomputable def mnC1 : ACfg := cfOf mnRA
def mnStale : List Nat := [4, 5, 6, 7, 8, 9, 10, 11, 12, 13, 14, 15, 18, 19, 20, 21, 22, 23, 24, 25, 26, 27, 28, 29]
noncomputable def mnVs (t : TT) : List (Nat × AV) := mnStale.map fun k => (50 + k, t.get k)
noncomputable def mnGen (c : ACfg) : ACfg :=
  match c with
  | ⟨⟨fn, nt, tmps, todo, defers, mode, kind⟩, callers, ⟨hp, _, lim⟩⟩ => ⟨⟨fn, nt, TT.set (.int .i64 v3) 16 (mnStale.foldl (fun t k => TT.set (.opq (50 + k)) 16 t k) tmps) 17, todo, defers, mode, kind⟩, callers, ⟨hp, 102, lim⟩⟩
noncomputable def mnD : ACfg := mnGen mnC1
noncomputable def mnSA : Sub := { is := [(3, .lit 1)], vs := mnVs mnC1.cur.tmps }
noncomputable def mnRB : M ACfg := chunkTo? Tryz.prog (mnO mnBsB) (mnX mnBsB) noSums 40000 21 [101, 100] mnD
noncomputable def mnC2 : ACfg := cfOf mnRB
noncomputable def mnSB : Sub := { is := [(3, .op .add .i64 v3 (.lit 1))], vs := mnVs mnC2.cur.tmps }
noncomputable def mnRC : M (ACfg ⊕ (AE × AH)) := steps? Tryz.prog (mnO mnBsC) (mnX mnBsC) noSums 40000 1000 mnD
noncomputable def mnEnd : M (ACfg ⊕ (AE × AH)) → Bool
  | .ok (.inr (.returned (.ptr (some ⟨.dyn 101, .lit (.ofNat 0)⟩)), h)) => match findB 101 h.hp with
    | some (.cells cs e) => Nat.beq cs.length 1 && Nat.beq e 28
    | _ => false
  | _ => false

theorem mnE : isOk (enterA Tryz.prog 7 [.int .i64 v2] .normal) = true := by kernel_rfl
theorem mnA : isOk mnRA = true := by kernel_rfl
theorem mnB : isOk mnRB = true := by kernel_rfl
theorem mnC : mnEnd mnRC = true := by kernel_rfl
theorem mnRenA : IsRen mnSA mnC1 mnD := ⟨by kernel_rfl, by kernel_rfl, by kernel_rfl, by kernel_rfl⟩
theorem mnRenB : IsRen mnSB mnC2 mnD := ⟨by kernel_rfl, by kernel_rfl, by kernel_rfl, by kernel_rfl⟩
theorem mnLow0 : cfgLow 100 ⟨mnFr, [], h0⟩ = true := by kernel_rfl
theorem mnLow : cfgLow 102 mnD = true := by kernel_rfl
end Go.Proofs.YtbnmlanhjpdalaaGreatDoor

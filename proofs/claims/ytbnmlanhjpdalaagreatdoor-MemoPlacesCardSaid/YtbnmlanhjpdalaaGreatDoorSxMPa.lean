/-
  MemoPlaces: what is known of the key and the size, in classes; its first part, up to where it forgets the size. Conditions: none.
-/
import Derived.Test.YtbnmlanhjpdalaaGreatDoorSxMNewOk
set_option maxRecDepth 100000
set_option linter.unusedVariables false
namespace Go.Proofs.YtbnmlanhjpdalaaGreatDoor
open Go.Proofs.YtbnmlanhjpdalaaGreatDoor.SX Go.Conc

def v1 : IE := .var 1
def topK : IE := .lit 9223372036854775807
/-- The key: below 0 · within · the last one. -/
noncomputable def kb : Nat → List (BE × Bool)
  | 0 => [(.cmp .lss v1 (.lit 0), true), (.cmp .geq v1 (.lit 0), false)]
  | 1 => [(.cmp .lss v1 (.lit 0), false), (.cmp .geq v1 (.lit 0), true), (.cmp .eql v1 topK, false), (.cmp .lss v1 topK, true)]
  | _ => [(.cmp .lss v1 (.lit 0), false), (.cmp .geq v1 (.lit 0), true), (.cmp .eql v1 topK, true), (.cmp .lss v1 topK, false)]
noncomputable def noPow : List (BE × Bool) := (List.range 13).map fun t => (.cmp .eql v2 (.lit (.ofNat (2 ^ t))), false)
/-- The size: a power of two · below 1 · beyond · no power. -/
noncomputable def szb (t : Nat) : List (BE × Bool) :=
  match Nat.ble t 12 with
  | true => [(.cmp .neq (progE t) (refE t), false)]
  | false => noPow ++ (match t with
    | 13 => [(.cmp .geq v2 (.lit 1), false)]
    | 14 => [(.cmp .geq v2 (.lit 1), true), (.cmp .leq v2 (.lit 4096), false)]
    | _ => [(.cmp .geq v2 (.lit 1), true), (.cmp .leq v2 (.lit 4096), true), (.cmp .eql onesE (.lit 1), false), (.cmp .neq onesE (.lit 1), true)])
noncomputable def szv (t : Nat) : IE :=
  match Nat.ble t 12 with
  | true => .lit (.ofNat (2 ^ t))
  | false => v2
noncomputable def szs (t : Nat) : Sums :=
  match Nat.ble 2 t && Nat.ble t 12 with
  | true => mnSum (2 ^ t)
  | false => noSums
def mpN (c t : Nat) : Nat :=
  match Nat.ble t 12, c with
  | true, 0 => 103 + 25 * t
  | true, _ => 327 + 83 * t
  | false, 0 => 419
  | false, _ => match t with
    | 15 => 872
    | _ => 791
noncomputable def isM : List (IE × IE) := [(progE 0, .lit 0)]
noncomputable def mpFr (t : Nat) : AFrame := frOf (enterA Tryz.prog 3 [.int .i64 v1, .int .i64 (szv t)] .normal)
noncomputable def mpR (c t : Nat) : M CSt := cchunk? Tryz.prog (OM [7] (kb c ++ szb t) isM) (EX [7] (kb c ++ szb t) isM) (szs t) 40000 (mpN c t) [] ⟨0, ⟨mpFr t, [], h0⟩, [], 1, 0⟩
noncomputable def csOfM (r : M CSt) : ACfg :=
  match r with
  | .ok ⟨_, c, _, _, _⟩ => c
  | .error _ => ⟨⟨0, 0, .leaf, [], [], .run, .normal⟩, [], h0⟩
noncomputable def csOk (r : M CSt) : Bool :=
  match r with
  | .ok ⟨0, _, [], 1, 0⟩ => true
  | _ => false
theorem csOk_ok {r : M CSt} (h : csOk r = true) : r = .ok ⟨0, csOfM r, [], 1, 0⟩ := by
  unfold csOk at h
  split at h
  · rfl
  · cases h
noncomputable def mpC (c t : Nat) : ACfg := csOfM (mpR c t)
def mpStale : List Nat := [1, 22, 23, 24, 25, 26, 27, 28, 29, 30, 31, 32, 33, 34, 35, 36]
noncomputable def mpS (c : ACfg) : Sub := { vs := mpStale.map fun k => (200 + k, c.cur.tmps.get k) }
noncomputable def mpD : ACfg :=
  match mpC 0 2 with
  | ⟨⟨fn, nt, tmps, todo, defers, mode, kind⟩, callers, _⟩ => ⟨⟨fn, nt, mpStale.foldl (fun t k => TT.set (.opq (200 + k)) 16 t k) tmps, todo, defers, mode, kind⟩, callers, h0⟩
theorem mpLow : cfgLow 100 mpD = true := by kernel_rfl
noncomputable def mpZ (c : Nat) : Bool := clast? Tryz.prog (OM [] (kb c) isM) (EX [] (kb c) isM) noSums 40000 12000 ⟨0, mpD, [], 1, 0⟩
theorem mpE (t : Nat) (h : isOk (enterA Tryz.prog 3 [.int .i64 v1, .int .i64 (szv t)] .normal) = true) : enterA Tryz.prog 3 [.int .i64 v1, .int .i64 (szv t)] .normal = .ok (mpFr t) := frOf_ok h

/-- A first part is done: it ends, and its end is the second part's start under other names. -/
def First (c t : Nat) : Prop := csOk (mpR c t) = true ∧ IsRen (mpS (mpC c t)) (mpC c t) mpD
end Go.Proofs.YtbnmlanhjpdalaaGreatDoor

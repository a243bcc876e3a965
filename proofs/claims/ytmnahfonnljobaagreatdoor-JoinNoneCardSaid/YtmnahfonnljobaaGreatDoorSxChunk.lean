/-
  Long runs in pieces: so many steps, blocks that are needed no more dropped.
-/
import Derived.Test.YtmnahfonnljobaaGreatDoorSxDefs
namespace Go.Proofs.YtmnahfonnljobaaGreatDoor.SX
noncomputable section

/-- At most so many steps; f: the fuel of calls within regions. -/
def steps? (P : Program) (O : Orc) (ext : Ext) (sum : Sums) (f : Nat) (n : Nat) : ACfg → M (ACfg ⊕ (AE × AH)) :=
  Nat.rec (fun c => .ok (.inl c)) (fun _ ih c =>
    match step? P O ext (fun g args h => match sum g args h with
      | some r => r
      | none => match enterA P g args .normal with
        | .ok fr => run? P O ext sum f ⟨fr, [], h⟩
        | .error e => .error e) c with
    | .ok (.inl c) => ih c
    | .ok (.inr r) => .ok (.inr r)
    | .error e => .error e) n

/-- Only the blocks of these numbers (in the list's order). -/
def sieve (l : List (Nat × ABlk)) : List Nat → List (Nat × ABlk) :=
  List.rec (fun _ => []) (fun p _ ih ks => List.rec [] (fun k ks' _ => Bool.rec (ih ks) (p :: ih ks') (Nat.beq p.1 k)) ks) l

/-- So many steps, then only these blocks. -/
def chunk? (P : Program) (O : Orc) (ext : Ext) (sum : Sums) (f n : Nat) (ks : List Nat) (c : ACfg) : M ACfg :=
  match steps? P O ext sum f n c with
  | .ok (.inl ⟨cur, callers, ⟨hp, nb, lim⟩⟩) => .ok ⟨cur, callers, ⟨sieve hp ks, nb, lim⟩⟩
  | .ok (.inr _) => .error "chunk it ends"
  | .error e => .error e

/-- It ends with that truth value. -/
def lastB? (P : Program) (O : Orc) (ext : Ext) (sum : Sums) (f n : Nat) (c : ACfg) : Bool :=
  match steps? P O ext sum f n c with
  | .ok (.inr (.returned (.bool (.lit b)), _)) => b
  | _ => false

/-- The summary of a call without arguments that answers true. -/
def truth (f : FuncId) : Sums := fun g args h => match args with
  | [] => Bool.rec none (some (.ok (.returned (.bool (.lit true)), h))) (Nat.beq g f)
  | _ => none

/-- The summary of a call with just these arguments: it returns just that, and leaves memory. -/
def ansSum (f : FuncId) (as : List AV) (v : AV) : Sums := fun g args h => Bool.rec none (Bool.rec none (some (.ok (.returned v, h))) (AV.eqbs args as)) (Nat.beq g f)
def orSum (s1 s2 : Sums) : Sums := fun g args h => match s1 g args h with
  | some r => some r
  | none => s2 g args h

namespace Short
/-- Short words for printed states. -/
def I (n : Nat) : AV := .int .i64 (.lit (.ofNat n))
def A (i n : Nat) : AV := .ptr (some ⟨.dyn i, .lit (.ofNat n)⟩)
def T : AV := .bool (.lit true)
def F : AV := .bool (.lit false)
def Z : AV := undefA
def L : TT := .leaf
def N (v : AV) (l r : TT) : TT := .node v l r
def N1 (v : AV) : TT := .node v .leaf .leaf
end Short

/-- A piece of a code. -/
def pc (c : Code) (p : List Nat) : Code :=
  match p with
  | [] => c
  | i :: p => match c with
    | .seq a b => match i with
      | 0 => pc a p
      | _ => pc b p
    | .cond _ a b => match i with
      | 0 => pc a p
      | _ => pc b p
    | .block _ b => pc b p
    | .loop b => pc b p
    | .scope b => pc b p
    | c => c

def opsOf (c : Code) : Array Oper :=
  match c with
  | .region _ ops _ => ops
  | _ => #[]

def bodyOf (f : Func) : Code :=
  match f.body with
  | some c => c
  | none => .skip

end
end Go.Proofs.YtmnahfonnljobaaGreatDoor.SX

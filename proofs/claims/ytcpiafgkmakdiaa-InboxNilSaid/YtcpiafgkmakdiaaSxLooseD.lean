/-
  A goroutine that does not hold, as closed data: its way to a receive; its leaving.
-/
import Derived.Test.YtcpiafgkmakdiaaSxChunk
set_option linter.unusedVariables false
namespace Go.Proofs.Ytcpiafgkmakdiaa.SX
noncomputable section
/-- The operations that are let in. -/
def looseOp (o : Oper) : Bool :=
  match o.op with
  | .move _ | .assign _ | .load _ _ | .fieldAddr _ _ _ | .nilCheck (.tmp _) | .makeFunc _ _ _ | .defer _ => true
  | _ => false

def e0 : AH := ⟨[], 0, 0⟩

def nilOk (t : TT) (o : Oper) : Bool :=
  match o.op with
  | .nilCheck (.tmp n) => match t.get n with
    | .ptr (some _) => true
    | _ => false
  | _ => true

/-- A step of a loose goroutine. -/
def lstep? (P : Program) (O : Orc) (ext : Ext) (c : ACfg) : M ACfg :=
  match c with
  | ⟨⟨fn, nt, tmps, todo, defers, mode, kind⟩, callers, h⟩ => match mode with
    | .run => match todo with
      | .inRegion ops is :: k => match is with
        | [] => .ok ⟨⟨fn, nt, tmps, k, defers, .run, kind⟩, callers, h⟩
        | i :: rest => match ops[i]? with
          | none => .error "loose no operation"
          | some o => match o.guard, looseOp o && nilOk tmps o with
            | none, true => match op? P O ext e0 (evalA tmps) o with
              | .ok (.value v, _) => .ok ⟨⟨fn, nt, putA nt tmps o.dst v, .inRegion ops rest :: k, defers, .run, kind⟩, callers, h⟩
              | .ok (.defer d, _) => .ok ⟨⟨fn, nt, putA nt tmps o.dst undefA, .inRegion ops rest :: k, d :: defers, .run, kind⟩, callers, h⟩
              | .ok _ => .error "loose this yield"
              | .error e => .error e
            | _, _ => .error "loose this operation"
      | .inBlock _ :: k => .ok ⟨⟨fn, nt, tmps, k, defers, .run, kind⟩, callers, h⟩
      | .inScope _ :: k => .ok ⟨⟨fn, nt, tmps, k, defers, .run, kind⟩, callers, h⟩
      | .code c :: k => match c with
        | .skip => .ok ⟨⟨fn, nt, tmps, k, defers, .run, kind⟩, callers, h⟩
        | .seq a b => .ok ⟨⟨fn, nt, tmps, .code a :: .code b :: k, defers, .run, kind⟩, callers, h⟩
        | .block id body => .ok ⟨⟨fn, nt, tmps, .code body :: .inBlock id :: k, defers, .run, kind⟩, callers, h⟩
        | .scope body => .ok ⟨⟨fn, nt, tmps, .code body :: .inScope body :: k, defers, .run, kind⟩, callers, h⟩
        | .region _ ops false => .ok ⟨⟨fn, nt, tmps, .inRegion ops (List.range ops.size) :: k, defers, .run, kind⟩, callers, h⟩
        | _ => .error "loose this code"
      | _ => .error "loose this item"
    | _ => .error "loose this mode"

def lrun? (P : Program) (O : Orc) (ext : Ext) (n : Nat) : ACfg → M ACfg :=
  Nat.rec (fun c => .ok c) (fun _ ih c => match lstep? P O ext c with
    | .ok c => ih c
    | .error e => .error e) n
/-- The receive at which a frame stands: its channel, the element's zero value, its shape. -/
def recvAt? (P : Program) (c : ACfg) : Option (BR × Value × Bool) :=
  match c with
  | ⟨⟨_, _, tmps, .inRegion ops (i :: _) :: _, _, .run, _⟩, _, _⟩ => match ops[i]? with
    | none => none
    | some o => match o.guard, o.op with
      | none, .recv t x ok => match evalA tmps x, P.underlying t with
        | .chan (some r), some (.chan _ elem) => match pureRun P (zeroValue elem) with
          | some z => some (r, z, ok)
          | none => none
        | _, _ => none
      | _, _ => none
  | _ => none

/-- It leaves: no look at memory, no word; its function's frame is the lowest, a deferred call's. -/
def leave1? (P : Program) (O : Orc) (ext : Ext) (ih : ACfg → Bool) (c : ACfg) : Bool :=
  match c with
  | ⟨⟨fn, nt, tmps, todo, defers, mode, kind⟩, callers, h⟩ => match mode with
    | .run => match todo with
      | [] => ih ⟨⟨fn, nt, tmps, [], defers, .returning, kind⟩, callers, h⟩
      | .code .ret :: k => ih ⟨⟨fn, nt, tmps, .code .ret :: k, defers, .returning, kind⟩, callers, h⟩
      | _ => match lstep? P O ext c with
        | .ok c => ih c
        | .error _ => false
    | .returning => match defers, kind, P.funcs[fn]? with
      | [], .deferred, some f => match f.results.toList, callers with
        | [], [] => true
        | [], caller :: rest => ih ⟨backTo caller, rest, h⟩
        | _, _ => false
      | _, _, _ => false
    | _ => false
def leave? (P : Program) (O : Orc) (ext : Ext) (n : Nat) : ACfg → Bool := Nat.rec (fun _ => false) (fun _ ih c => leave1? P O ext ih c) n
end
end Go.Proofs.Ytcpiafgkmakdiaa.SX

/-
  The entries without a body that look at memory, over abstract values.
-/
import Derived.Test.YtcpiafgkmakdiaaSxDefs
namespace Go.Proofs.Ytcpiafgkmakdiaa.SX
noncomputable section

inductive XE where
  | ld (k : IntKind) | st | sw (k : IntKind) | cas (k : IntKind) | add (k : IntKind)
  | acquire | release | releaseMerge | quiet
  | typeOf | valueOf | vIsNil | vElem | vSet | vType

def kind? (P : Program) (t : TypeId) : M Nat :=
  match pureRun P (Extern.Rtype.kind t) with
  | some k => .ok k
  | none => .error "kind"

def mkV? (P : Program) (t : TypeId) (a : AA) (flags : Nat) : M AV := do
  pure (.agg [.ptr (some ⟨.glob P.globals.size, .lit (.ofNat t)⟩), .ptr (some a), .int .u64 (.lit (.ofNat ((← kind? P t) + 128 + flags)))])

def partsV? (P : Program) (x : AV) : M (TypeId × AA × Nat) :=
  match x with
  | .agg [h, .ptr (some a), .int .u64 (.lit (.ofNat f))] => match handle? P h with
    | some t => if f = 0 || P.packed t then .error "Value nought" else .ok (t, a, f)
    | none => .error "Value handle"
  | _ => .error "Value"

def pureB (P : Program) (s : Sem Bool) : M Bool :=
  match pureRun P s with
  | some b => .ok b
  | none => .error "pureB"

def elemT? (P : Program) (t : TypeId) : M TypeId :=
  match pureRun P (Extern.Rtype.elem? t) with
  | some (some e) => .ok e
  | _ => .error "elem"

def unpackV? (P : Program) (h : AH) (x : AV) : M (AV × AH) := do
  match x with
  | .iface t v => do
    let cs ← v.cells?
    let (x, h) ← alloc? h (.cells cs t)
    match x with
    | .ptr (some a) => do
      let r ← mkV? P t a 0
      pure (r, h)
    | _ => .error "unpack"
  | .nilIface => pure (.agg [.ptr none, .ptr none, .int .u64 (.lit 0)], h)
  | _ => .error "unpack"

def ldInt (O : Orc) (h : AH) (a : AA) (k : IntKind) : M IE := do
  match ← load1 O h a with
  | .int k' e => if k = k' then pure e else .error "atomic"
  | _ => .error "atomic"

def isNil? : AV → M Bool
  | .chan none | .nilFunc | .nilIface | .map none | .ptr none | .slice none _ _ => .ok true
  | .chan (some _) | .func .. | .iface .. | .map (some _) | .ptr (some _) | .slice (some _) _ _ => .ok false
  | _ => .error "IsNil"

def xIsNil? (P : Program) (O : Orc) (h : AH) (x : AV) : M (AV × AH) := do
  let (t, a, fl) ← partsV? P x
  if [18, 19, 20, 21, 22, 23, 26].contains (fl % 32) then do
    let v ← loadVar? P O h t a
    let b ← isNil? v
    pure (.bool (.lit b), h)
  else .error "IsNil kind"

def xElem? (P : Program) (O : Orc) (h : AH) (x : AV) : M (AV × AH) := do
  let (t, a, fl) ← partsV? P x
  let v ← loadVar? P O h t a
  if fl % 32 = 22 then do
    let e ← elemT? P t
    match v with
    | .ptr none => pure (.agg [.ptr none, .ptr none, .int .u64 (.lit 0)], h)
    | .ptr (some p) => do
      pure (← mkV? P e p 256, h)
    | _ => .error "Elem"
  else if fl % 32 = 20 then do
    let _ ← (match pureRun P (Extern.Rtype.elem? t) with | some e => .ok e | none => .error "Elem" : M (Option TypeId))
    unpackV? P h v
  else .error "Elem kind"

def setVal? (P : Program) (dst src : TypeId) (val : AV) : M AV :=
  match pureB P (Extern.Rtype.directlyAssignable dst src) with
  | .error e => .error e
  | .ok true => .ok val
  | .ok false => match pureB P (implementsA dst src) with
    | .ok true => match kind? P src with
      | .ok k => if k = 20 then (match val with
          | .iface t v => .ok (.iface t v)
          | _ => .error "Set nil") else .ok (.iface src val)
      | .error e => .error e
    | .ok false => .error "Set type"
    | .error e => .error e

def xSet? (P : Program) (O : Orc) (h : AH) (v x : AV) : M (AV × AH) := do
  let (dst, a, fl) ← partsV? P v
  let (src, b, _) ← partsV? P x
  if fl / 256 % 2 = 0 then .error "Set" else
  let val ← loadVar? P O h src b
  let val ← setVal? P dst src val
  let h ← storeVar? P h dst a val
  pure (undefA, h)

def ext? (P : Program) (O : Orc) (tab : List (FuncId × XE)) : Ext := fun h f args =>
  match look (fun a b => a == b) f tab with
  | none => .error "no entry"
  | some x => match x, args with
    | .ld k, [.ptr (some a)] => do
      let e ← ldInt O h a k
      pure (.int k e, h)
    | .st, [.ptr (some a), v] => do
      let h ← store1 h a v
      pure (undefA, h)
    | .sw k, [.ptr (some a), v] => do
      let e ← ldInt O h a k
      let h ← store1 h a v
      pure (.int k e, h)
    | .cas k, [.ptr (some a), .int _ old, v] => do
      let e ← ldInt O h a k
      let b ← O.dec (.cmp .eql e old)
      let h2 ← store1 h a v
      pure (.bool (.lit b), if b then h2 else h)
    | .add k, [.ptr (some a), .int _ d] => do
      let e ← ldInt O h a k
      let h ← store1 h a (.int k (O.int (.op .add k e d)))
      pure (.int k (O.int (.op .add k e d)), h)
    | .acquire, [.ptr (some _)] => pure (undefA, h)
    | .release, [.ptr (some _)] => pure (undefA, h)
    | .releaseMerge, [.ptr (some _)] => pure (undefA, h)
    | .quiet, _ => pure (undefA, h)
    | .typeOf, [.iface t _] => match pureRun P (Extern.ReflectliteType.toType t) with
      | some v => pure (ofValue v, h)
      | none => .error "toType"
    | .typeOf, [.nilIface] => pure (.nilIface, h)
    | .valueOf, [x] => unpackV? P h x
    | .vType, [x] => do
      let (t, _, _) ← partsV? P x
      match pureRun P (Extern.ReflectliteType.toType t) with
      | some v => pure (ofValue v, h)
      | none => .error "toType"
    | .vIsNil, [x] => xIsNil? P O h x
    | .vElem, [x] => xElem? P O h x
    | .vSet, [v, x] => xSet? P O h v x
    | _, _ => .error "entry arguments"


end
end Go.Proofs.Ytcpiafgkmakdiaa.SX

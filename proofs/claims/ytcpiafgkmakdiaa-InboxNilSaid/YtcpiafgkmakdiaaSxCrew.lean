/-
  Several goroutines, of which one holds: the others sit at a receive on a channel of their own, are on their way there, or leave. As closed data.
-/
import Derived.Test.YtcpiafgkmakdiaaSxLooseD
set_option linter.unusedVariables false
namespace Go.Proofs.Ytcpiafgkmakdiaa.SX
noncomputable section

/-- One that waits: its number; its record at the receive; the channel's block; the element's zero value; the receive's shape; what it read on its way. -/
structure ASeat where
  id : Nat
  cfg : ACfg
  ch : Nat
  z : Value
  ok : Bool
  stills : List (AA × AV)

/-- Who holds; its record, all memory; who waits; the next number; how often the holder is deaf. -/
structure CSt where
  h : Nat
  c : ACfg
  seats : List ASeat
  next : Nat
  deaf : Nat := 0

/-- The places of block i among these. -/
def offsAt (i : Nat) : List (AA × AV) → List Nat
  | [] => []
  | p :: l => match p.1 with
    | ⟨.dyn j, .lit (.ofNat n)⟩ => match Nat.beq i j with
      | true => n :: offsAt i l
      | false => offsAt i l
    | _ => offsAt i l
def offsOf (i : Nat) : List ASeat → List Nat
  | [] => []
  | s :: l => offsAt i s.stills ++ offsOf i l
def ABlk.lend (b : ABlk) (ls : List Nat) : ABlk :=
  match b with
  | .cells cs e => match ls with
    | [] => .cells cs e
    | _ => .lent cs e ls
  | .lent cs e _ => match ls with
    | [] => .cells cs e
    | _ => .lent cs e ls
  | b => b
/-- Memory, each block labelled with what is read of it by those who wait. -/
def relabel (ss : List ASeat) : List (Nat × ABlk) → List (Nat × ABlk)
  | [] => []
  | p :: l => (p.1, p.2.lend (offsOf p.1 ss)) :: relabel ss l

def ABlk.lendable : ABlk → Bool
  | .cells _ _ => true
  | .lent _ _ _ => true
  | _ => false
def isChanAt (hp : List (Nat × ABlk)) (i : Nat) : Bool :=
  match findB i hp with
  | some b => b.isChan
  | none => false
def stillAt (hp : List (Nat × ABlk)) (p : AA × AV) : Bool :=
  match p.1 with
  | ⟨.dyn i, .lit (.ofNat n)⟩ => match findB i hp with
    | some b => b.lendable
    | none => false
  | _ => false
def stillsAt (hp : List (Nat × ABlk)) : List (AA × AV) → Bool
  | [] => true
  | p :: l => match stillAt hp p with
    | true => stillsAt hp l
    | false => false
/-- All that those who wait lean on lies in memory. -/
def seatsOk (hp : List (Nat × ABlk)) : List ASeat → Bool
  | [] => true
  | s :: l => match isChanAt hp s.ch, stillsAt hp s.stills with
    | true, true => seatsOk hp l
    | _, _ => false
/-- Nobody sits at that channel, nobody has that number. -/
def apartOf (i ch : Nat) : List ASeat → Bool
  | [] => true
  | s :: l => match Nat.beq s.ch ch, Nat.beq s.id i with
    | false, false => apartOf i ch l
    | _, _ => false

/-- The cell that the next operation loads. -/
def wants? (c : ACfg) (hp : List (Nat × ABlk)) : Option (AA × AV) :=
  match c with
  | ⟨⟨_, _, tmps, .inRegion ops (i :: _) :: _, _, _, _⟩, _, _⟩ => match ops[i]? with
    | some o => match o.op with
      | .load _ x => match evalA tmps x with
        | .ptr (some ⟨.dyn j, .lit (.ofNat n)⟩) => match findB j hp with
          | some b => match b.cs[n]? with
            | some v => some (⟨.dyn j, .lit (.ofNat n)⟩, v)
            | none => none
          | none => none
        | _ => none
      | _ => none
    | none => none
  | _ => none

def noExt : Ext := fun _ _ _ => .error "no entry"
def Orc.knows (O : Orc) (l : List (AA × AV)) : Orc := { O with mem := l ++ O.mem }
def Orc.bare (O : Orc) : Orc := { O with bs := [], is := [], mem := [] }

/-- The way to the receive: what is read, how many steps, where it ends. -/
def wayOf (P : Program) (O : Orc) (hp : List (Nat × ABlk)) : Nat → Nat → List (AA × AV) → ACfg → M (List (AA × AV) × Nat × ACfg)
  | 0, _, _, _ => .error "way fuel"
  | f + 1, n, st, c => match recvAt? P c with
    | some _ => .ok (st, n, c)
    | none =>
      let st := match wants? c hp with
        | some p => p :: st
        | none => st
      match lstep? P (O.knows st) noExt c with
      | .ok c => wayOf P O hp f (n + 1) st c
      | .error e => .error e

/-- These cells hold these values. -/
def reads1 (hp : List (Nat × ABlk)) (p : AA × AV) : Bool :=
  match p.1 with
  | ⟨.dyn i, .lit (.ofNat n)⟩ => match findB i hp with
    | some b => match b.cs[n]? with
      | some v => b.lendable && AV.eqb v p.2
      | none => false
    | none => false
  | _ => false
def readsAll (hp : List (Nat × ABlk)) : List (AA × AV) → Bool
  | [] => true
  | p :: l => match reads1 hp p with
    | true => readsAll hp l
    | false => false

/-- A seat for a record on its way. -/
def seat? (P : Program) (O : Orc) (hp : List (Nat × ABlk)) (i : Nat) (c : ACfg) : M (Nat × ASeat) :=
  match wayOf P O hp 400 0 [] c with
  | .error e => .error e
  | .ok (st, n, _) => match lrun? P (O.knows st) noExt n c with
    | .error e => .error e
    | .ok c' => match recvAt? P c' with
      | some (.dyn ch, z, ok) => .ok (n, ⟨i, c', ch, z, ok, st⟩)
      | _ => .error "seat no receive"

/-- The operation that comes next. -/
def opAt (c : ACfg) : Option Oper :=
  match c with
  | ⟨⟨_, _, _, .inRegion ops (i :: _) :: _, _, .run, _⟩, _, _⟩ => match ops[i]? with
    | some o => match o.guard with
      | none => some o
      | some _ => none
    | none => none
  | _ => none

def takes (ch : Nat) : List ASeat → Option (ASeat × List ASeat)
  | [] => none
  | s :: l => match Nat.beq s.ch ch with
    | true => some (s, l)
    | false => match takes ch l with
      | some (t, r) => some (t, s :: r)
      | none => none

def recvdA (ok : Bool) (v : AV) : AV :=
  match ok with
  | true => .tuple [v, .bool (.lit true)]
  | false => v

/-- The holder's send. -/
def give? (P : Program) (O : Orc) (x y : Operand) (st : CSt) : M CSt :=
  match st with
  | ⟨h, ⟨cur, callers, ⟨hp, nb, lim⟩⟩, seats, next, deaf⟩ => match deaf, evalA cur.tmps x with
    | 0, .chan (some (.dyn ch)) => match takes ch seats with
      | none => .error "send nobody sits there"
      | some (s, rest) => match finishA s.cfg.cur (recvdA s.ok (evalA cur.tmps y)), finishA cur undefA with
        | .ok tk, .ok gv =>
          match (match Nat.beq h 0 with | true => false | false => leave? P O.bare noExt 400 ⟨gv, callers, e0⟩) with
          | true => match seatsOk hp seats with
            | true => .ok ⟨s.id, ⟨tk, s.cfg.callers, ⟨relabel rest hp, nb, lim⟩⟩, rest, next, 0⟩
            | false => .error "send seats"
          | false => match seat? P O hp h ⟨gv, callers, e0⟩ with
            | .error e => .error e
            | .ok (_, s') => match seatsOk hp seats, isChanAt hp s'.ch, readsAll hp s'.stills, apartOf h s'.ch seats with
              | true, true, true, true => .ok ⟨s.id, ⟨tk, s.cfg.callers, ⟨relabel (s' :: rest) hp, nb, lim⟩⟩, s' :: rest, next, 0⟩
              | _, _, _, _ => .error "send the givers seat"
        | _, _ => .error "send finish"
    | _, _ => .error "send no channel"

/-- The holder's go statement. -/
def hire? (P : Program) (O : Orc) (call : Call) (type : TypeId) (st : CSt) : M CSt :=
  match st with
  | ⟨h, ⟨cur, callers, ⟨hp, nb, lim⟩⟩, seats, next, deaf⟩ => match deaf, resolve? (evalA cur.tmps) call type with
    | 0, .ok ⟨.fn (.func f) cap, args⟩ => match O.fns.contains f, enterA P f (args ++ cap) .deferred, finishA cur undefA with
      | true, .ok fr, .ok gv => match seat? P O hp next ⟨fr, [], e0⟩ with
        | .error e => .error e
        | .ok (_, s') => match seatsOk hp seats, isChanAt hp s'.ch, readsAll hp s'.stills, apartOf next s'.ch seats with
          | true, true, true, true => .ok ⟨h, ⟨gv, callers, ⟨relabel (s' :: seats) hp, nb, lim⟩⟩, s' :: seats, next + 1, 0⟩
          | _, _, _, _ => .error "go the childs seat"
      | _, _, _ => .error "go enter"
    | _, .ok _ => .error "go no function"
    | _, .error e => .error e

/-- Does the call deafen, or let one hear again? -/
def markOf? (O : Orc) (t : TT) (c : Call) : Option Bool :=
  match c.callee with
  | .value x => match c.args.toList with
    | [] => match evalA t x with
      | .func (.func f) [] [] => look (fun a b => Nat.beq a b) f O.offs
      | _ => none
    | _ => none
  | _ => none
def deafer (dis : Bool) (n : Nat) : Nat :=
  match dis with
  | true => n + 1
  | false => n - 1

/-- A function with just one result, that lies in a temporary. -/
def oneTmp (P : Program) (f : FuncId) : Bool :=
  match P.funcs[f]? with
  | some fn => match fn.results.toList with
    | [.tmp _] => (P.inits.idxOf? f).isNone
    | _ => false
  | none => false

/-- A step of the crew; its end: goroutine 0's function returns that, and nobody waits. -/
def crew1? (P : Program) (O : Orc) (ext : Ext) (sum : Sums) (f : Nat) (st : CSt) : M (CSt ⊕ AV) :=
  let walk : M (CSt ⊕ AV) := match step? P O ext (fun g args h => match sum g args h with
      | some r => r
      | none => match enterA P g args .normal with
        | .ok fr => run? P O ext sum f ⟨fr, [], h⟩
        | .error e => .error e) st.c with
    | .ok (.inl c) => .ok (.inl { st with c })
    | .ok (.inr (.returned v, _)) => match Nat.beq st.h 0, st.seats, st.c.callers, oneTmp P st.c.cur.fn, st.deaf with
      | true, [], [], true, 0 => .ok (.inr v)
      | _, _, _, _, _ => .error "the end somebody waits"
    | .ok (.inr _) => .error "the end a panic"
    | .error e => .error e
  match opAt st.c with
  | some o => match o.op with
    | .send x y => match give? P O x y st with
      | .ok s => .ok (.inl s)
      | .error e => .error e
    | .go c => match hire? P O c o.type st with
      | .ok s => .ok (.inl s)
      | .error e => .error e
    | .call c => match markOf? O st.c.cur.tmps c with
      | some dis => match finishA st.c.cur undefA with
        | .ok fr => .ok (.inl { st with c := ⟨fr, st.c.callers, st.c.h⟩, deaf := deafer dis st.deaf })
        | .error e => .error e
      | none => walk
    | _ => walk
  | none => walk

def crew? (P : Program) (O : Orc) (ext : Ext) (sum : Sums) (f n : Nat) : CSt → M (CSt ⊕ AV) :=
  Nat.rec (fun c => .ok (.inl c)) (fun _ ih c => match crew1? P O ext sum f c with
    | .ok (.inl c) => ih c
    | .ok (.inr r) => .ok (.inr r)
    | .error e => .error e) n

/-- So many steps, then only these blocks (none that somebody leans on is dropped). -/
def cchunk? (P : Program) (O : Orc) (ext : Ext) (sum : Sums) (f n : Nat) (ks : List Nat) (st : CSt) : M CSt :=
  match crew? P O ext sum f n st with
  | .ok (.inl ⟨h, ⟨cur, callers, ⟨hp, nb, lim⟩⟩, seats, next, deaf⟩) => .ok ⟨h, ⟨cur, callers, ⟨sieve hp ks, nb, lim⟩⟩, seats, next, deaf⟩
  | .ok (.inr _) => .error "chunk it ends"
  | .error e => .error e

def clast? (P : Program) (O : Orc) (ext : Ext) (sum : Sums) (f n : Nat) (st : CSt) : Bool :=
  match crew? P O ext sum f n st with
  | .ok (.inr (.bool (.lit b))) => b
  | _ => false
end
end Go.Proofs.Ytcpiafgkmakdiaa.SX

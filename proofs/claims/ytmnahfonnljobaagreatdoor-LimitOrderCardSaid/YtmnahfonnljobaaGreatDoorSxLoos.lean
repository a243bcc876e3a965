/-
  A goroutine that does not hold, as closed data: its way to a receive; its leaving.
-/
import Derived.Test.YtmnahfonnljobaaGreatDoorSxBase
import Derived.Test.YtmnahfonnljobaaGreatDoorSxStep
import Derived.Test.YtmnahfonnljobaaGreatDoorSxToks
import Derived.Conc.TokenWalk
set_option linter.unusedVariables false
namespace Go.Proofs.YtmnahfonnljobaaGreatDoor.SX
noncomputable section
/-- The operations that are let in. -/
def looseOp (o : Oper) : Bool :=
  match o.op with
  | .move _ | .assign _ | .load _ _ | .fieldAddr _ _ _ | .nilCheck (.tmp _) | .makeFunc _ _ _ | .defer _ => true
  | _ => false

def e0 : AH := ⟨[], 0, 0⟩

def nilOk (t : TT) (o : Oper) : Bool :=
  match o.op with
  | .nilCheck (.tmp n) => match t.get n with
    | .ptr (some _) => true
    | _ => false
  | _ => true

/-- A step of a loose goroutine. -/
def lstep? (P : Program) (O : Orc) (ext : Ext) (c : ACfg) : M ACfg :=
  match c with
  | ⟨⟨fn, nt, tmps, todo, defers, mode, kind⟩, callers, h⟩ => match mode with
    | .run => match tagged kind with
     | true => .error "loose marked"
     | false => match todo with
      | .inRegion ops is :: k => match is with
        | [] => .ok ⟨⟨fn, nt, tmps, k, defers, .run, kind⟩, callers, h⟩
        | i :: rest => match ops[i]? with
          | none => .error "loose no operation"
          | some o => match o.guard, looseOp o && nilOk tmps o with
            | none, true => match op? P O ext e0 (evalA tmps) o with
              | .ok (.value v, _) => .ok ⟨⟨fn, nt, putA nt tmps o.dst v, .inRegion ops rest :: k, defers, .run, kind⟩, callers, h⟩
              | .ok (.defer d, _) => .ok ⟨⟨fn, nt, putA nt tmps o.dst undefA, .inRegion ops rest :: k, d :: defers, .run, kind⟩, callers, h⟩
              | .ok _ => .error "loose this yield"
              | .error e => .error e
            | _, _ => .error "loose this operation"
      | .inBlock _ :: k => .ok ⟨⟨fn, nt, tmps, k, defers, .run, kind⟩, callers, h⟩
      | .inScope _ :: k => .ok ⟨⟨fn, nt, tmps, k, defers, .run, kind⟩, callers, h⟩
      | .code c :: k => match c with
        | .skip => .ok ⟨⟨fn, nt, tmps, k, defers, .run, kind⟩, callers, h⟩
        | .seq a b => .ok ⟨⟨fn, nt, tmps, .code a :: .code b :: k, defers, .run, kind⟩, callers, h⟩
        | .block id body => .ok ⟨⟨fn, nt, tmps, .code body :: .inBlock id :: k, defers, .run, kind⟩, callers, h⟩
        | .scope body => .ok ⟨⟨fn, nt, tmps, .code body :: .inScope body :: k, defers, .run, kind⟩, callers, h⟩
        | .region _ ops false => .ok ⟨⟨fn, nt, tmps, .inRegion ops (List.range ops.size) :: k, defers, .run, kind⟩, callers, h⟩
        | _ => .error "loose this code"
      | _ => .error "loose this item"
    | _ => .error "loose this mode"

def lrun? (P : Program) (O : Orc) (ext : Ext) (n : Nat) : ACfg → M ACfg :=
  Nat.rec (fun c => .ok c) (fun _ ih c => match lstep? P O ext c with
    | .ok c => ih c
    | .error e => .error e) n
/-- The receive at which a frame stands: its channel, the element's zero value, its shape. -/
def recvAt? (P : Program) (c : ACfg) : Option (BR × Value × Bool) :=
  match c with
  | ⟨⟨_, _, tmps, .inRegion ops (i :: _) :: _, _, .run, kind⟩, _, _⟩ => match tagged kind with
   | true => none
   | false => match ops[i]? with
    | none => none
    | some o => match o.guard, o.op with
      | none, .recv t x ok => match evalA tmps x, P.underlying t with
        | .chan (some r), some (.chan _ elem) => match pureRun P (zeroValue elem) with
          | some z => some (r, z, ok)
          | none => none
        | _, _ => none
      | _, _ => none
  | _ => none

/-- It leaves: no look at memory, no word; its function's frame is the lowest, a deferred call's. -/
def leave1? (P : Program) (O : Orc) (ext : Ext) (ih : ACfg → Bool) (c : ACfg) : Bool :=
  match c with
  | ⟨⟨fn, nt, tmps, todo, defers, mode, kind⟩, callers, h⟩ => match mode with
    | .run => match tagged kind with
     | true => false
     | false => match todo with
      | [] => ih ⟨⟨fn, nt, tmps, [], defers, .returning, kind⟩, callers, h⟩
      | .code .ret :: k => ih ⟨⟨fn, nt, tmps, .code .ret :: k, defers, .returning, kind⟩, callers, h⟩
      | _ => match lstep? P O ext c with
        | .ok c => ih c
        | .error _ => false
    | .returning => match defers, kind, P.funcs[fn]? with
      | [], .deferred, some f => match f.results.toList, callers with
        | [], [] => true
        | [], caller :: rest => ih ⟨backTo caller, rest, h⟩
        | _, _ => false
      | _, _, _ => false
    | _ => false
def leave? (P : Program) (O : Orc) (ext : Ext) (n : Nat) : ACfg → Bool := Nat.rec (fun _ => false) (fun _ ih c => leave1? P O ext ih c) n
end
end Go.Proofs.YtmnahfonnljobaaGreatDoor.SX
/-
  Steps of a goroutine that does not hold: they leave the world as it is, and read places alone that are known beforehand.
-/
set_option linter.unusedSectionVars false
set_option linter.unusedVariables false
set_option linter.unusedSimpArgs false
namespace Go.Proofs.YtmnahfonnljobaaGreatDoor.SX
open Go.Conc

/-- Pieces of code that look, and do nothing else. -/
def Looks {α : Type} : Sem α → Prop
  | .pure _ => True
  | .load m _ k => m = .plain ∧ ∀ v, Looks (k v)
  | .program k => ∀ P, Looks (k P)
  | .shape _ k => ∀ s, Looks (k s)
  | .getObj _ k => ∀ o, Looks (k o)
  | .halt _ => True
  | _ => False

theorem looks_bind' {α β : Type} (x : Sem α) (f : α → Sem β) (hf : ∀ a, Looks (f a)) : Looks x → Looks (x.bind f) := by
  induction x with
  | pure a => intro _; exact hf a
  | load m a k ih => intro h; exact ⟨h.1, fun v => ih v (h.2 v)⟩
  | program k ih => intro h; exact fun P => ih P (h P)
  | shape r k ih => intro h; exact fun s => ih s (h s)
  | getObj r k ih => intro h; exact fun s => ih s (h s)
  | halt x => intro _; exact trivial
  | _ => intro h; exact h.elim

theorem looks_bind {α β : Type} {x : Sem α} {f : α → Sem β} (h : Looks x) (hf : ∀ a, Looks (f a)) : Looks (x >>= f) := looks_bind' x f hf h
theorem looks_pure {α : Type} (a : α) : Looks (pure a : Sem α) := trivial

theorem wq_looks {α : Type} {P : Program} {Ev : Event → Prop} {E : Value → World → Prop} {w : World} (hE : ∀ r b c, r < w.heap.size → ¬ Ev ⟨.obj r, b, c⟩) (m : Sem α) : Looks m → ∀ {Q : α → World → Prop}, wq P Ev E m Q w →
    wq P (fun e => ∃ a v, e = ⟨.cell a, false, false⟩ ∧ w.cell? a = some v ∧ Ev e) E m (fun a w' => w' = w ∧ Q a w') w := by
  induction m with
  | pure a => intro _ Q h; exact ⟨rfl, h⟩
  | load m a k ih =>
    intro hl Q h
    obtain ⟨rfl, hk⟩ := hl
    obtain ⟨v, hc, he, hw⟩ := h
    exact ⟨v, hc, ⟨a, v, rfl, hc, he⟩, ih v (hk v) hw⟩
  | program k ih => intro hl Q h; exact ih P (hl P) h
  | shape r k ih => intro hl Q h; exact ih _ (hl _) h
  | getObj r k ih => intro hl Q h; obtain ⟨o, h1, h2, h3, h4⟩ := h; exact absurd h3 (hE _ _ _ (heap_lt h1))
  | halt x =>
    intro _ Q h
    cases x with
    | panic v => exact h
    | _ => exact h
  | _ => intro hl; exact hl.elim

theorem looks_loadCells (a : Addr) : ∀ (n j : Nat) (acc : Array Value), Looks (loadCellsFrom a j n acc) := by
  intro n
  induction n with
  | zero => intro j acc; exact trivial
  | succ n ih => intro j acc; exact ⟨rfl, fun v => ih (j + 1) _⟩

theorem looks_stuck {α : Type} (s : String) : Looks (stuck s : Sem α) := trivial

theorem looks_byteOf (a : Addr) : Looks (byteOf a) := by
  unfold byteOf noView
  repeat' first
    | exact trivial
    | exact fun _ => trivial
    | refine looks_bind ?_ fun _ => ?_
    | split
    | dsimp only

theorem looks_op {ρ : Operand → Value} {o : Oper} (h : looseOp o = true) (hn : ∀ t, o.op = .nilCheck (.tmp t) → ∃ a, ρ (.tmp t) = .pointer (some a)) : Looks (execOp ρ o) := by
  unfold looseOp at h
  unfold execOp
  split at h
  · rename_i x e; rw [e]; exact trivial
  · rename_i x e; rw [e]; exact trivial
  · rename_i t x e
    rw [e]
    refine looks_bind ?_ fun _ => trivial
    unfold Instr.loadAt Instr.sureAddr loadVar isAgg underlying sizeOf typeInfo loadCells
    repeat' first
      | exact trivial
      | exact fun _ => trivial
      | exact ⟨rfl, fun _ => trivial⟩
      | exact looks_loadCells _ _ _ _
      | refine looks_bind ?_ fun _ => ?_
      | split
  · rename_i t x f e
    rw [e]
    refine looks_bind ?_ fun _ => trivial
    unfold Instr.fieldAt underlying Instr.sureAddr fieldPlace sizeOf typeInfo partAt
    repeat' first
      | exact trivial
      | exact fun _ => trivial
      | exact looks_byteOf _
      | refine looks_bind ?_ fun _ => ?_
      | split
  · rename_i t e
    obtain ⟨a, ha⟩ := hn t e
    rw [e]
    simp only [ha]
    exact trivial
  · rename_i f x y e
    rw [e]
    refine looks_bind ?_ fun _ => trivial
    exact trivial
  · rename_i c e
    rw [e]
    refine looks_bind ?_ fun _ => trivial
    unfold resolve Deferred.ofValue
    repeat' first
      | exact trivial
      | split
      | dsimp only
  · cases h

/-! ### Frames beside a world -/
/-- A configuration and a goroutine. -/
def LGam (P : Program) (ρ : Env) (c : ACfg) (cs : List Frame) (g : Goroutine) : Prop := ∃ fr frs, FrRel P ρ c.cur fr ∧ FrRels P ρ c.callers frs ∧ g = G fr (frs ++ cs)

/-- What is known of the world beforehand. -/
structure Known (O : Orc) (ρ : Env) (w : World) : Prop where
  bs : ∀ p ∈ O.bs, p.1.ev ρ = p.2
  is : ∀ p ∈ O.is, p.1.ev ρ = p.2.ev ρ
  mem : ∀ p ∈ O.mem, w.cell? (p.1.ev ρ) = some (p.2.ev ρ)

/-- The reads of known places. -/
def Reads (O : Orc) (ρ : Env) (e : Event) : Prop := ∃ p ∈ O.mem, e = ⟨.cell (p.1.ev ρ), false, false⟩

def EvL (O : Orc) (ρ : Env) (w : World) (e : Event) : Prop := (∃ m, e.loc = .mark m) ∨ (∃ a, e.loc = .cell a ∧ (w.heap.size ≤ a.block ∨ ∃ p ∈ O.mem, a = p.1.ev ρ)) ∨ ∃ r, e.loc = .obj r ∧ w.heap.size ≤ r
def KL (P : Program) (O : Orc) (ρ : Env) (w : World) : Ctx := ⟨P, O, fun n => w.heap.size ≤ n, EvL O ρ w, True, fun _ _ => False⟩

theorem KL_good (P : Program) (O : Orc) (ρ : Env) (w : World) : (KL P O ρ w).Good :=
  ⟨fun a _ h => .inr (.inl ⟨a, rfl, .inl h⟩), fun a _ h _ => .inr (.inl ⟨a, rfl, .inl h⟩), fun _ _ _ h => h.elim, fun m _ => .inl ⟨m, rfl⟩, .inl ⟨_, rfl⟩, fun _ m => .inl ⟨m, rfl⟩, fun r _ _ h => .inr (.inr ⟨r, rfl, h⟩)⟩

theorem cell_lt {w : World} {a : Addr} {v : Value} (hc : w.cell? a = some v) : a.block < w.heap.size := by
  rcases Nat.lt_or_ge a.block w.heap.size with h' | h'
  · exact h'
  · simp [World.cell?, Array.getElem?_eq_none h'] at hc

theorem KL_rel {P : Program} {O : Orc} {ρ : Env} {w : World} (k : Known O ρ w) : Rel (KL P O ρ w) ρ e0 w :=
  ⟨(fun i b hb => by cases hb), (fun i b hb => by cases hb), (fun i j b c hb => by cases hb), k.bs, k.is, fun p hp => ⟨fun h => absurd (cell_lt (k.mem p hp)) (Nat.not_lt.2 h), k.mem p hp, fun s => .inr (.inl ⟨_, rfl, .inr ⟨p, hp, rfl⟩⟩)⟩, (fun n hn => hn), (fun _ _ _ _ h => h.elim), fun _ _ h => h.elim⟩

theorem KL_ids {P : Program} {O : Orc} {ρ : Env} {w : World} {U : Nat → Prop} (h : O.In U) : Ids (KL P O ρ w) U e0 :=
  ⟨(fun i b hb => by cases hb), (fun i hi => by cases hi), List.nodup_nil, (fun n _ h => by cases h), h⟩

/-- What is asked of the program and the entries, whatever is known. -/
structure Sound (P : Program) (O : Orc) (ext : Ext) : Prop where
  facts : ∀ own Ev lock still, (⟨P, O, own, Ev, lock, still⟩ : Ctx).Facts
  ext : ∀ own Ev still, (⟨P, O, own, Ev, True, still⟩ : Ctx).Good → ExtOk ⟨P, O, own, Ev, True, still⟩ ext

section
variable {P : Program} {main : Bool} {O : Orc} {ext : Ext} {U : Nat → Prop} {ρ : Env}

theorem seen_sub {fn : FuncId} {a : Act} {o : Oper} {w : World} {Q : Event → Prop} (h : ∀ e ∈ (execOp a.eval o).events P w #[], Q e) : ∀ e ∈ listed P fn a o w, Q e := fun e he => h e (mem_listed he)

/-- One operation of a loose goroutine. -/
theorem loose_op (S : Sound P O ext) (hO : O.In U) {o : Oper} {n : AN} {h' : AH} {nt : Nat} {t : TT} {tm : Array Value} {ds : List Deferred} (T : TmpR ρ nt t tm) (ht : t.In U) (hl : looseOp o = true) (hn : nilOk t o = true) (he : op? P O ext e0 (evalA t) o = .ok (n, h')) {w : World} (k : Known O ρ w) :
    (∃ nx, (execOp (⟨tm, ds⟩ : Act).eval o).run P w = .ok nx w ∧ ∃ ρ', Agree U ρ ρ' ∧ n.is ρ' nx) ∧ (∀ e ∈ (execOp (⟨tm, ds⟩ : Act).eval o).events P w #[], Reads O ρ e) ∧ n.In U := by
  have N := op?_ok (K := KL P O ρ w) (KL_good P O ρ w) (S.facts _ _ _ _) (S.ext _ _ _ (KL_good P O ρ w)) (KL_rel k) (KL_ids hO) (evalA_in ht) he
  have hev : (⟨tm, ds⟩ : Act).eval = fun x => (evalA t x).ev ρ := funext fun x => evalA_ev T _ x
  have hlk : Looks (execOp (fun x => (evalA t x).ev ρ) o) := looks_op hl fun m hm => by
    unfold nilOk at hn
    rw [hm] at hn
    dsimp only at hn
    split at hn
    · rename_i a ha
      exact ⟨_, by show (t.get m).ev ρ = _; rw [ha]; rfl⟩
    · cases hn
  have hp : ∀ v, n ≠ .panic v := by
    intro v hv
    subst hv
    unfold op? at he
    unfold looseOp at hl
    generalize o.op = op at hl he
    cases op <;> simp at hl <;> dsimp only at he
    case defer c => split at he <;> cases he
    all_goals first
      | cases he
      | ((repeat' split at he) <;> first | cases he | (unfold valOp at he; split at he <;> cases he))
      | (unfold valOp at he; split at he <;> cases he)
  have W := wq_looks (w := w) (fun r b c hlt hx => by
    rcases hx with ⟨m, hm⟩ | ⟨a, ha, _⟩ | ⟨r', hr, hle⟩
    · cases hm
    · cases ha
    · cases hr
      exact absurd hlt (Nat.not_lt.2 hle)) _ hlk (N.run (E := fun _ _ => False) (Q := fun nx w' => After (KL P O ρ w) U ρ w h' (fun ρ' => n.is ρ' nx) w') (fun nx w' x => x) (fun v hv _ => absurd hv (hp v)))
  obtain ⟨run, evs⟩ := wq_run W
  rw [← hev] at run evs
  have hh : h' = e0 := by
    cases hq : quietOp o with
    | true => exact quiet_same hq he
    | false =>
      unfold looseOp at hl
      unfold quietOp at hq
      unfold op? at he
      generalize o.op = op at hl hq he
      cases op <;> simp at hl <;> simp at hq
      dsimp only at he
      split at he <;> cases he
      rfl
  subst hh
  refine ⟨?_, fun e hx => ?_, ?_⟩
  · have run' : ((execOp (⟨tm, ds⟩ : Act).eval o).run P w).goes (fun a w' => w' = w ∧ After (KL P O ρ w) U ρ w e0 (fun ρ' => n.is ρ' a) w') (fun _ _ => False) := run
    clear run
    generalize hr : (execOp (⟨tm, ds⟩ : Act).eval o).run P w = r at run'
    cases r with
    | ok nx w' =>
      obtain ⟨rfl, ρ', A, _, _, hi⟩ := run'
      exact ⟨nx, rfl, ρ', A, hi⟩
    | halt x w' => cases x <;> exact run'.elim
  · obtain ⟨a, v, rfl, hc, hv⟩ := evs e hx
    rcases hv with ⟨m, hm⟩ | ⟨a', ha, hv⟩ | ⟨r', hr, _⟩
    · cases hm
    · cases ha
      rcases hv with hv | ⟨p, hp, rfl⟩
      · exact absurd (cell_lt hc) (Nat.not_lt.2 hv)
      · exact ⟨p, hp, rfl⟩
    · cases hr
  · have hm := N.mem
    have hs : ∀ m, plus U e0.nb e0.nb m → U m := plus_none
    cases n with
    | value v => exact AV.In.mono hs _ hm
    | skip => trivial
    | enter f args => exact AV.Ins.mono hs _ hm
    | defer d => exact AD.In.mono hs hm
    | recover => trivial
    | panic v => exact AV.In.mono hs _ hm
end
end Go.Proofs.YtmnahfonnljobaaGreatDoor.SX
/-
  The way of a loose goroutine to its seat.
-/
set_option linter.unusedSectionVars false
set_option linter.unusedVariables false
set_option linter.unusedSimpArgs false
namespace Go.Proofs.YtmnahfonnljobaaGreatDoor.SX
open Go.Conc

/-- Numbers in use, of the frames alone. -/
structure LIds (U : Nat → Prop) (c : ACfg) : Prop where
  cur : c.cur.In U
  callers : ∀ fr ∈ c.callers, fr.In U

section
variable {P : Program} {main : Bool} {O : Orc} {ext : Ext} {U : Nat → Prop} {ρ : Env} {cs : List Frame}
variable {fn : FuncId} {nt : Nat} {tmps : TT} {todo todo' : List Item} {defers : List AD} {kind : CallKind} {callers : List AFrame} {h : AH}

theorem lg_gen {g : Goroutine} : LGam P ρ ⟨⟨fn, nt, tmps, todo, defers, .run, kind⟩, callers, h⟩ cs g ↔
    ∃ tm frs, TmpR ρ nt tmps tm ∧ (plainK kind ∨ kind = .wrapped) ∧ (∃ f, P.funcs[fn]? = some f) ∧ FrRels P ρ callers frs ∧ g = G ((bB ρ fn kind).atR (aB ρ kind tm defers) todo) (frs ++ cs) := by
  constructor
  · rintro ⟨fr, frs, ⟨tm, td, i, rfl⟩, hc, rfl⟩
    have : td = todo := i.todo rfl
    subst this
    exact ⟨tm, frs, i.tmps, i.kind, i.fn, hc, rfl⟩
  · rintro ⟨tm, frs, h1, h2, h3, hc, rfl⟩
    exact ⟨_, frs, ⟨tm, todo, ⟨h1, h2, fun _ => rfl, h3⟩, rfl⟩, hc, rfl⟩
theorem lg_run (ht : tagged kind = false) {g : Goroutine} : LGam P ρ ⟨⟨fn, nt, tmps, todo, defers, .run, kind⟩, callers, h⟩ cs g ↔
    ∃ tm frs, TmpR ρ nt tmps tm ∧ (kind = .normal ∨ kind = .deferred) ∧ (∃ f, P.funcs[fn]? = some f) ∧ FrRels P ρ callers frs ∧ g = G ((mkF fn kind).at ⟨tm, defers.map (AD.ev ρ)⟩ todo) (frs ++ cs) := by
  rw [lg_gen]
  constructor
  · rintro ⟨tm, frs, h1, h2, h3, hc, rfl⟩
    have hp := plain_of h2 ht
    exact ⟨tm, frs, h1, hp, h3, hc, by rw [plain_at hp]⟩
  · rintro ⟨tm, frs, h1, h2, h3, hc, rfl⟩
    exact ⟨tm, frs, h1, .inl h2, h3, hc, by rw [plain_at h2]⟩

/-- What a loose step is: one record behind it, in whatever world that is known so. -/
def LPost (P : Program) (main : Bool) (O : Orc) (U : Nat → Prop) (ρ : Env) (cs : List Frame) (c' : ACfg) (g : Goroutine) : Prop :=
  g.status = .running ∧ ∃ g', LIds U c' ∧ LGam P ρ c' cs g' ∧ ∀ w, Known O ρ w → ∃ es, stepG P main g w = .go g' w es ∧ ∀ e ∈ es, Reads O ρ e

theorem lpost_to (ht : tagged kind = false) {g : Goroutine} (I : LIds U ⟨⟨fn, nt, tmps, todo, defers, .run, kind⟩, callers, h⟩) (Γ : LGam P ρ ⟨⟨fn, nt, tmps, todo, defers, .run, kind⟩, callers, h⟩ cs g)
    (hs : ∀ w tm cs', stepG P main (G ((mkF fn kind).at ⟨tm, defers.map (AD.ev ρ)⟩ todo) cs') w = .go (G ((mkF fn kind).at ⟨tm, defers.map (AD.ev ρ)⟩ todo') cs') w #[]) :
    LPost P main O U ρ cs ⟨⟨fn, nt, tmps, todo', defers, .run, kind⟩, callers, h⟩ g := by
  obtain ⟨tm, frs, h1, h2, h3, hc, rfl⟩ := (lg_run ht).1 Γ
  exact ⟨rfl, _, ⟨⟨I.cur.tmps, I.cur.defers, trivial⟩, I.callers⟩, (lg_run ht).2 ⟨tm, frs, h1, h2, h3, hc, rfl⟩, fun w _ => ⟨#[], hs w tm _, (by simp)⟩⟩

theorem lstep_ok (S : Sound P O ext) (hO : O.In U) {c c' : ACfg} (he : lstep? P O ext c = .ok c') (I : LIds U c) {g : Goroutine} (Γ : LGam P ρ c cs g) {w₀ : World} (k₀ : Known O ρ w₀) : LPost P main O U ρ cs c' g := by
  obtain ⟨⟨fn, nt, tmps, todo, defers, mode, kind⟩, callers, h⟩ := c
  unfold lstep? at he
  dsimp only at he
  split at he
  · split at he
    · cases he
    rename_i ht
    split at he
    · rename_i ops is kk
      split at he
      · cases he; exact lpost_to ht I Γ fun _ _ _ => stepG_region_end
      · rename_i i rest
        split at he
        · cases he
        · rename_i o ho
          split at he
          · rename_i hg hl
            rw [Bool.and_eq_true] at hl
            obtain ⟨tm, frs, h1, h2, h3, hc, rfl⟩ := (lg_run ht).1 Γ
            have hw : Region.wanted o (yielded ops tm) = true := by unfold Region.wanted; rw [hg]
            have hke : (mkF fn kind).kind ≠ .early := by rcases h2 with rfl | rfl <;> simp [mkF]
            split at he
            · rename_i v h' hop
              cases he
              have hv : v.In U := (loose_op (ds := defers.map (AD.ev ρ)) S hO h1 I.cur.tmps hl.1 hl.2 hop k₀).2.2
              obtain ⟨tm', e, h1'⟩ := put_tmps (v := v) h1 (defers.map (AD.ev ρ)) o.dst
              refine ⟨rfl, _, ⟨⟨putA_in I.cur.tmps hv h1.le, I.cur.defers, trivial⟩, I.callers⟩, (lg_run ht).2 ⟨tm', frs, h1', h2, h3, hc, rfl⟩, fun w k => ?_⟩
              obtain ⟨⟨nx, hr, ρ', A, hi⟩, hes, _⟩ := loose_op (ds := defers.map (AD.ev ρ)) S hO h1 I.cur.tmps hl.1 hl.2 hop k
              have hi' : nx = .value (v.ev ρ') := hi
              rw [AV.ev_agree A v hv] at hi'
              subst hi'
              rw [← e]
              exact ⟨_, stepG_value ho hw hke hr, fun e he => hes e (mem_listed he)⟩
            · rename_i d h' hop
              cases he
              have hv : d.In U := (loose_op (ds := defers.map (AD.ev ρ)) S hO h1 I.cur.tmps hl.1 hl.2 hop k₀).2.2
              obtain ⟨tm', e, h1'⟩ := put_tmps (v := undefA) h1 ((d :: defers).map (AD.ev ρ)) o.dst
              refine ⟨rfl, _, ⟨⟨putA_in I.cur.tmps (by simp [undefA, AV.In, AV.Ins]) h1.le, ?_, trivial⟩, I.callers⟩, (lg_run ht).2 ⟨tm', frs, h1', h2, h3, hc, rfl⟩, fun w k => ?_⟩
              · intro x hx
                rcases List.mem_cons.1 hx with rfl | hx
                · exact hv
                · exact I.cur.defers x hx
              · obtain ⟨⟨nx, hr, ρ', A, hi⟩, hes, _⟩ := loose_op (ds := defers.map (AD.ev ρ)) S hO h1 I.cur.tmps hl.1 hl.2 hop k
                have hi' : nx = .defer (d.ev ρ') := hi
                rw [AD.ev_agree A hv] at hi'
                subst hi'
                rw [← e]
                exact ⟨_, stepG_defer ho hw hke hr, fun e he => hes e (mem_listed he)⟩
            · cases he
            · cases he
          · cases he
    · cases he; exact lpost_to ht I Γ fun _ _ _ => stepG_inBlock
    · cases he; exact lpost_to ht I Γ fun _ _ _ => stepG_inScope
    · split at he
      · cases he; exact lpost_to ht I Γ fun _ _ _ => stepG_skip
      · cases he; exact lpost_to ht I Γ fun _ _ _ => stepG_seq
      · cases he; exact lpost_to ht I Γ fun _ _ _ => stepG_block
      · cases he; exact lpost_to ht I Γ fun _ _ _ => stepG_scope
      · cases he; exact lpost_to ht I Γ fun _ _ _ => stepG_region
      · cases he
    · cases he
  · cases he

/-- The places that are known. -/
def stillOf (O : Orc) (ρ : Env) (l : Loc) : Prop := ∃ p ∈ O.mem, l = .cell (p.1.ev ρ)

theorem reads_evC {B : Nat} (hB : ∀ p ∈ O.mem, (p.1.ev ρ).block < B) {e : Event} (h : Reads O ρ e) : EvC (stillOf O ρ) B e := by
  obtain ⟨p, hp, rfl⟩ := h
  exact ⟨_, rfl, ⟨p, hp, rfl⟩, hB p hp⟩

theorem lrun_goes (S : Sound P O ext) (hO : O.In U) {B : Nat} (hB : ∀ p ∈ O.mem, (p.1.ev ρ).block < B) : ∀ {n : Nat} {c c' : ACfg}, lrun? P O ext n c = .ok c' → LIds U c → ∀ {g : Goroutine} {w : World}, LGam P ρ c cs g → ∀ {w₀ : World}, Known O ρ w₀ →
    Goes P main (RK (Known O ρ)) (DS (stillOf O ρ) B) (fun g _ => LIds U c' ∧ LGam P ρ c' cs g) n g w := by
  intro n
  induction n with
  | zero =>
    intro c c' he I g w Γ w₀ k₀
    have : (Except.ok c : M ACfg) = .ok c' := he
    cases this
    exact fun w₁ _ => ⟨I, Γ⟩
  | succ n ih =>
    intro c c' he I g w Γ w₀ k₀
    have he' : (match lstep? P O ext c with
      | .ok c => lrun? P O ext n c
      | .error e => .error e) = .ok c' := he
    split at he'
    · rename_i c1 hs
      obtain ⟨hrun, g', I', Γ', hst⟩ := lstep_ok (main := main) S hO hs I Γ k₀
      refine .inr ⟨hrun, fun w₁ k => ?_⟩
      obtain ⟨es, hst, hes⟩ := hst w₁ k
      rw [hst]
      exact ⟨⟨rfl, fun e he => reads_evC hB (hes e he)⟩, ih he' I' Γ' k₀⟩
    · cases he'
end
end Go.Proofs.YtmnahfonnljobaaGreatDoor.SX
/-
  A loose goroutine at its seat; its leaving.
-/
set_option linter.unusedSectionVars false
set_option linter.unusedVariables false
set_option linter.unusedSimpArgs false
namespace Go.Proofs.YtmnahfonnljobaaGreatDoor.SX
open Go.Conc

theorem runT_pureRun {α β : Type} {P : Program} (m : Sem α) (f : α → Sem β) : ∀ {v : α}, pureRun P m = some v → ∀ (w : World) (es : Array Event), (m.bind f).runT P w es = (f v).runT P w es := by
  induction m with
  | pure a => intro v h w es; simp only [pureRun] at h; cases h; rfl
  | program k ih => intro v h w es; simp only [pureRun] at h; exact ih P h w es
  | _ => intro v h; simp [pureRun] at h

theorem recv_runT {P : Program} {f : Operand → Value} {o : Oper} {t : TypeId} {x : Operand} {ok : Bool} {d : ChanDir} {elem : TypeId} {z : Value} (hop : o.op = .recv t x ok) (hu : P.underlying t = some (.chan d elem)) (hz : pureRun P (zeroValue elem) = some z) (w : World) (es : Array Event) :
    (execOp f o).runT P w es = (.ok (.comm #[{ chan := f x, send := none, zero := z }] true (.recv ok)) w, es) := by
  unfold execOp
  rw [hop]
  have h1 : pureRun P (underlying t) = some (.chan d elem) := by
    show pureRun P (match P.underlying t with | some d => pure d | none => stuck "no such type") = _
    rw [hu]; rfl
  show ((underlying t).bind _).runT P w es = _
  rw [runT_pureRun _ _ h1]
  show ((zeroValue elem).bind _).runT P w es = _
  rw [runT_pureRun _ _ hz]
  rfl

section
variable {P : Program} {main : Bool} {O : Orc} {ext : Ext} {U : Nat → Prop} {ρ : Env} {cs : List Frame}

theorem atIn_recv {c : ACfg} {r : BR} {z : Value} {ok : Bool} (he : recvAt? P c = some (r, z, ok)) {g : Goroutine} (Γ : LGam P ρ c cs g) {K : World → Prop} {Still : Loc → Prop} {B : Nat} {home : Goroutine → Prop} (hh : home g) :
    AtIn P main K Still B (Conc.Seat.one (r.ev ρ) z ok home) g g := by
  obtain ⟨⟨fn, nt, tmps, todo, defers, mode, kind⟩, callers, h⟩ := c
  unfold recvAt? at he
  split at he
  · rename_i fn' nt' tmps' ops i rest k defers' kind' callers' h' hc
    cases hc
    split at he
    · cases he
    rename_i ht
    split at he
    · cases he
    · rename_i o ho
      split at he
      · rename_i t x ok' hg hop
        split at he
        · rename_i r' d elem hx hu
          split at he
          · rename_i z' hz
            cases he
            obtain ⟨tm, frs, h1, h2, h3, hc, rfl⟩ := (lg_run ht).1 Γ
            have hw : Region.wanted o (yielded ops tm) = true := by unfold Region.wanted; rw [hg]
            have hke : (mkF fn kind).kind ≠ .early := by rcases h2 with rfl | rfl <;> simp [mkF]
            have hex : (⟨tm, defers.map (AD.ev ρ)⟩ : Act).eval x = .chan (some (r.ev ρ)) := by rw [evalA_ev h1, hx]; rfl
            have hR := fun w es => recv_runT (f := (⟨tm, defers.map (AD.ev ρ)⟩ : Act).eval) hop hu hz w es
            refine atIn_of ho hw hke (fun w => ?_) (fun w => ?_) hh
            · have := congrArg Prod.fst (hR w #[])
              rw [Sem.runT_fst] at this
              rw [this, hex]; rfl
            · exact congrArg Prod.snd (hR w #[])
          · cases he
        · cases he
      · cases he
  · cases he

theorem goes_weaken {R : World → World → Prop} {D : World → World → Array Event → Prop} {A B : Goroutine → World → Prop} (h : ∀ g w, A g w → B g w) : ∀ {n : Nat} {g : Goroutine} {w : World}, Goes P main R D A n g w → Goes P main R D B n g w := by
  intro n
  induction n with
  | zero => intro g w x; exact fun w₁ hr => h _ _ (x w₁ hr)
  | succ n ih =>
    intro g w x
    rcases x with x | ⟨hs, x⟩
    · exact .inl fun w₁ hr => h _ _ (x w₁ hr)
    · exact .inr ⟨hs, fun w₁ hr => goes_mono (x w₁ hr) fun g' w' es ⟨a, b⟩ => ⟨a, ih b⟩⟩

/-- On the way to its seat. -/
theorem sits_of (S : Sound P O ext) (hO : O.In U) {B : Nat} (hB : ∀ p ∈ O.mem, (p.1.ev ρ).block < B) {n : Nat} {c c' : ACfg} (he : lrun? P O ext n c = .ok c') {r : BR} {z : Value} {ok : Bool} (hr : recvAt? P c' = some (r, z, ok)) (I : LIds U c) {g : Goroutine} (Γ : LGam P ρ c cs g) {w₀ : World} (k₀ : Known O ρ w₀) :
    Sits P main (Known O ρ) (stillOf O ρ) B (Conc.Seat.one (r.ev ρ) z ok (fun g => LIds U c' ∧ LGam P ρ c' cs g)) (n + 1) g := by
  have G := lrun_goes (main := main) S hO hB he I (w := w₀) Γ k₀
  refine .inl ⟨n, w₀, rfl, ?_⟩
  exact goes_weaken (fun g w ⟨I', Γ'⟩ => ⟨g, atIn_recv hr Γ' ⟨I', Γ'⟩⟩) G

/-- Served: what it yields goes to its place. -/
theorem served_ok {c : ACfg} {g : Goroutine} (Γ : LGam P ρ c cs g) (I : LIds U c) {v : AV} (hv : v.In U) {fr : AFrame} (hf : finishA c.cur v = .ok fr) (h : AH) : LIds U ⟨fr, c.callers, h⟩ ∧ LGam P ρ ⟨fr, c.callers, h⟩ cs (Conc.served g (v.ev ρ)) := by
  obtain ⟨⟨fn, nt, tmps, todo, defers, mode, kind⟩, callers, h0⟩ := c
  obtain ⟨fn', nt', tmps', ops, i, rest, k, defers', kind', e1, rfl⟩ := finishA_ok hf
  cases e1
  obtain ⟨tm, frs, h1, h2, h3, hc, rfl⟩ := lg_gen.1 Γ
  obtain ⟨tm', e, h1'⟩ := put_tmps (v := v) h1 (dB ρ kind (defers.map (AD.ev ρ))) ((ops[i]?).bind (·.dst))
  refine ⟨⟨⟨putA_in I.cur.tmps hv h1.le, I.cur.defers, trivial⟩, I.callers⟩, lg_gen.2 ⟨tm', frs, h1', h2, h3, hc, ?_⟩⟩
  show { G ((bB ρ fn kind).atR (aB ρ kind tm defers) (.inRegion ops (i :: rest) :: k)) (frs ++ cs) with frame := ((bB ρ fn kind).atR (aB ρ kind tm defers) (.inRegion ops (i :: rest) :: k)).finish (v.ev ρ), status := .running, offers := none } = _
  have e2 : (aB ρ kind tm defers).put ((ops[i]?).bind (·.dst)) (v.ev ρ) = ⟨tm', dB ρ kind (defers.map (AD.ev ρ))⟩ := e
  rw [Frame.finish_atR, e2]
  rfl

/-- The frame below a goroutine's function. -/
def baseF (P : Program) : Frame := { (default : Frame) with fn := P.funcs.size, defers := [], mode := .panicking [goexitEntry] }

theorem stepG_base (w : World) : stepG P main (G (baseF P) []) w = .go { frame := baseF P, callers := [], status := .finished, dying := none } w #[] := by
  simp [G, stepG, unwind, baseF, Frame.catches, goexitEntry]
  rfl

theorem leave_quits (hO : O.mem = []) (hb : O.bs = []) (hi : O.is = []) (S : Sound P O ext) (hU : O.In U) : ∀ {n : Nat} {c : ACfg}, leave? P O ext n c = true → LIds U c → ∀ {g : Goroutine}, LGam P ρ c [baseF P] g → ∃ m, QuitsD P m 0 g := by
  have kn : ∀ w, Known O ρ w := fun w => ⟨(fun p hp => by rw [hb] at hp; cases hp), (fun p hp => by rw [hi] at hp; cases hp), (fun p hp => by rw [hO] at hp; cases hp)⟩
  intro n
  induction n with
  | zero => intro c he; cases he
  | succ n ih =>
    intro c he I g Γ
    obtain ⟨⟨fn, nt, tmps, todo, defers, mode, kind⟩, callers, h⟩ := c
    have he' : leave1? P O ext (leave? P O ext n) ⟨⟨fn, nt, tmps, todo, defers, mode, kind⟩, callers, h⟩ = true := he
    clear he
    unfold leave1? at he'
    dsimp only at he'
    split at he'
    · split at he'
      · cases he'
      rename_i ht
      have ret : ∀ {todo' : List Item}, leave? P O ext n ⟨⟨fn, nt, tmps, todo', defers, .returning, kind⟩, callers, h⟩ = true → (∀ w tm cs', stepG P false (G ((mkF fn kind).at ⟨tm, defers.map (AD.ev ρ)⟩ todo) cs') w = .go (G { (mkF fn kind).at ⟨tm, defers.map (AD.ev ρ)⟩ todo with mode := .returning } cs') w #[]) → ∃ m, QuitsD P m 0 g := by
        intro todo' hl hs
        obtain ⟨tm, frs, h1, h2, h3, hc, rfl⟩ := (lg_run ht).1 Γ
        obtain ⟨m, hm⟩ := ih hl ⟨⟨I.cur.tmps, I.cur.defers, trivial⟩, I.callers⟩ (g := G { (mkF fn kind).at ⟨tm, defers.map (AD.ev ρ)⟩ todo with mode := .returning } (frs ++ [baseF P])) ⟨_, frs, ⟨tm, todo, ⟨h1, .inl h2, (fun x => by cases x), h3⟩, by rw [← plain_at h2]; rfl⟩, hc, rfl⟩
        exact ⟨m + 1, .ctl rfl (fun w => hs w tm _) hm⟩
      split at he'
      · exact ret he' fun _ _ _ => stepG_end
      · exact ret he' fun _ _ _ => stepG_ret'
      · split at he'
        · rename_i c1 hs
          obtain ⟨hrun, g', I', Γ', hst⟩ := lstep_ok (main := false) S hU hs I Γ (kn default)
          obtain ⟨m, hm⟩ := ih he' I' Γ'
          refine ⟨m + 1, .ctl hrun (fun w => ?_) hm⟩
          obtain ⟨es, e1, e2⟩ := hst w (kn w)
          have : es = #[] := by
            rcases Nat.eq_zero_or_pos es.size with h0 | h0
            · exact Array.eq_empty_of_size_eq_zero h0
            · obtain ⟨p, hp, _⟩ := e2 _ (Array.getElem_mem h0)
              rw [hO] at hp; cases hp
          rw [e1, this]
        · cases he'
    · split at he'
      · rename_i f hf
        obtain ⟨fr, frs, ⟨tm, td, is, rfl⟩, hc, rfl⟩ := Γ
        split at he'
        · rename_i hres
          cases frs with
          | cons a b => exact absurd hc (by simp [FrRels])
          | nil =>
            have hr : f.results = #[] := by apply Array.toList_inj.1; exact hres
            refine ⟨1 + 1, .ctl rfl (fun w => ?_) (.ctl rfl (fun w => stepG_base w) (show QuitsD P 0 0 _ from ⟨rfl, rfl⟩))⟩
            have := stepG_back (main := false) (P := P) (cs := []) (caller := baseF P) (fr := frameOf ρ ⟨fn, nt, tmps, todo, [], .returning, .deferred⟩ tm td) (w := w) rfl rfl rfl hf (results_none hr _ P w)
            rw [events_results_none hr, seen_none] at this
            exact this
        · rename_i caller rest hres
          cases frs with
          | nil => exact absurd hc (by simp [FrRels])
          | cons c1 frs =>
            obtain ⟨hc1, hc⟩ := hc
            have hr : f.results = #[] := by apply Array.toList_inj.1; exact hres
            obtain ⟨m, hm⟩ := ih he' ⟨backTo_in (I.callers _ (List.mem_cons_self ..)), fun fr hf => I.callers fr (List.mem_cons_of_mem _ hf)⟩ (g := _) ⟨_, frs, back_ok hc1, hc, rfl⟩
            refine ⟨m + 1, .ctl rfl (fun w => ?_) hm⟩
            have := stepG_back (main := false) (P := P) (cs := frs ++ [baseF P]) (caller := c1) (fr := frameOf ρ ⟨fn, nt, tmps, todo, [], .returning, .deferred⟩ tm td) (w := w) rfl rfl rfl hf (results_none hr _ P w)
            rw [events_results_none hr, seen_none] at this
            exact this
        · cases he'
      · cases he'
    · cases he'
end
end Go.Proofs.YtmnahfonnljobaaGreatDoor.SX

/-
  A call of a function that ranges over a function, run in full: as closed data.
-/
import Derived.Test.YtmnahfonnljobaaGreatDoorSxBase
import Derived.Test.YtmnahfonnljobaaGreatDoorSxStep
import Derived.Test.YtmnahfonnljobaaGreatDoorSxRuns
set_option linter.unusedVariables false
namespace Go.Proofs.YtmnahfonnljobaaGreatDoor.SX
noncomputable section

/-! ### Values that do not name the veiled value y -/
mutual
def AV.noq (y : Nat) : AV → Bool
  | .opq i => !(Nat.beq i y)
  | .func _ x z => AV.noqs y x && AV.noqs y z
  | .iface _ v => v.noq y
  | .agg x => AV.noqs y x
  | .tuple x => AV.noqs y x
  | .bool _ => true
  | .int _ _ => true
  | .str _ => true
  | .ptr _ => true
  | .slice _ _ _ => true
  | .map _ => true
  | .chan _ => true
  | .nilFunc => true
  | .nilIface => true
  | .raw _ => true
def AV.noqs (y : Nat) : List AV → Bool
  | [] => true
  | a :: l => a.noq y && AV.noqs y l
end
def TT.noq (y : Nat) : TT → Bool
  | .leaf => true
  | .node v l r => v.noq y && l.noq y && r.noq y
def ABlk.noq (y : Nat) : ABlk → Bool
  | .cells cs _ => AV.noqs y cs
  | .row cs _ _ => AV.noqs y cs
  | .lent cs _ _ => AV.noqs y cs
  | .map es => es.all fun p => p.1.noq y && p.2.noq y
  | .chan => true
  | .vmap _ _ _ _ => false
  | .pre _ s _ fs ws cs _ _ => !(Nat.beq s y) && fs.all (fun p => p.2.noq y) && ws.all (fun p => p.2.noq y) && AV.noqs y cs
def hpNoq (y : Nat) : List (Nat × ABlk) → Bool
  | [] => true
  | p :: l => p.2.noq y && hpNoq y l
def Orc.noq (y : Nat) (O : Orc) : Bool := O.mem.all fun p => p.2.noq y

/-! ### Where a run stops -/
def atRF (c : ACfg) : Bool :=
  match c with
  | ⟨⟨_, _, _, .code (.rangeFunc _ _ _ _) :: _, [], .run, .normal⟩, [], _⟩ => true
  | _ => false
def atBegin (c : ACfg) : Bool :=
  match c with
  | ⟨⟨_, _, _, .beginRound :: _, _, .run, .wrapped⟩, [], _⟩ => true
  | _ => false
/-- A frame at its end, or at a jump out of it: the jump. -/
def jumpOf (todo : List Item) : Option (Option Code) :=
  match todo with
  | [] => some none
  | .code .ret :: _ => some (some .ret)
  | .code (.exit id) :: k => match exitTo id k with
    | none => some (some (.exit id))
    | some _ => none
  | _ => none
def atLeave (c : ACfg) : Bool :=
  match c with
  | ⟨⟨_, _, _, todo, _, .run, .wrapped⟩, [], _⟩ => (jumpOf todo).isSome
  | _ => false
def atTail (c : ACfg) : Bool :=
  match c with
  | ⟨⟨_, _, _, [], [], .run, .wrapped⟩, [], _⟩ => true
  | ⟨⟨_, _, _, .code .ret :: _, [], .run, .wrapped⟩, [], _⟩ => true
  | _ => false
/-- The frame stands at a call of the veiled value y: the arguments. -/
def yieldAt (y : Nat) (c : ACfg) : Option (List AV) :=
  match c with
  | ⟨⟨_, _, tmps, .inRegion ops (i :: _) :: _, _, .run, .normal⟩, [], _⟩ => match ops[i]? with
    | some o => match o.guard, o.op with
      | none, .call cl => match cl.callee with
        | .value x => match evalA tmps x with
          | .opq z => match Nat.beq z y with
            | true => some (cl.args.toList.map (evalA tmps))
            | false => none
          | _ => none
        | _ => none
      | _, _ => none
    | none => none
  | _ => none

def upTo? (P : Program) (O : Orc) (ext : Ext) (call : FuncId → List AV → AH → M (AE × AH)) (stop : ACfg → Bool) (n : Nat) : ACfg → M ACfg :=
  Nat.rec (fun _ => .error "range fuel") (fun _ ih c => match stop c with
    | true => .ok c
    | false => match step? P O ext call c with
      | .ok (.inl c) => ih c
      | .ok (.inr _) => .error "range it ends"
      | .error e => .error e) n

/-- The round's temporaries. -/
def setAll (nt : Nat) (t : TT) : List (Tmp × AV) → TT
  | [] => t
  | p :: l => setAll nt (putA nt t (some p.1) p.2) l

/-- A round: the jump by which it leaves, memory behind it. -/
def round? (P : Program) (O : Orc) (ext : Ext) (call : FuncId → List AV → AH → M (AE × AH)) (n : Nat) (fn : FuncId) (nt : Nat) (tmps : TT) (ps : Array Tmp) (asg body : Code) (args : List AV) (h : AH) : M (Option Code × AH) :=
  match Nat.beq args.length ps.size with
  | false => .error "range arguments"
  | true => match upTo? P O ext call atBegin n ⟨⟨fn, nt, setAll nt tmps (ps.toList.zip args), [.code asg, .beginRound, .code body], [], .run, .wrapped⟩, [], h⟩ with
    | .error e => .error e
    | .ok ⟨⟨fn', nt', t', todo, ds, _, _⟩, _, h'⟩ => match todo with
      | _ :: k => match upTo? P O ext call atLeave n ⟨⟨fn', nt', t', k, ds, .run, .wrapped⟩, [], h'⟩ with
        | .error e => .error e
        | .ok c2 => match jumpOf c2.cur.todo with
          | some j => .ok (j, c2.h)
          | none => .error "range jump"
      | [] => .error "range begin"

def isNone? (j : Option Code) : Bool :=
  match j with
  | none => true
  | some _ => false

/-- The iterator, round by round: how it was left, memory behind it. -/
def iter? (P : Program) (O : Orc) (ext : Ext) (call : FuncId → List AV → AH → M (AE × AH)) (rnd : List AV → AH → M (Option Code × AH)) (y : Nat) (n : Nat) : Option Code → ACfg → M (Option Code × AH) :=
  Nat.rec (fun _ _ => .error "range fuel") (fun _ ih j c => match yieldAt y c with
    | some args => match j with
      | some _ => .error "range it goes on"
      | none => match rnd args c.h with
        | .error e => .error e
        | .ok (j', h') => match finishA c.cur (.bool (.lit (isNone? j'))) with
          | .ok fr => ih j' ⟨fr, [], h'⟩
          | .error e => .error e
    | none => match step? P O ext call c with
      | .ok (.inl c) => ih j c
      | .ok (.inr (.returned _, h)) => .ok (j, h)
      | .ok (.inr _) => .error "range a panic"
      | .error e => .error e) n

def jumpItems (j : Option Code) : List Item :=
  match j with
  | none => []
  | some c => [.code c]

/-- Behind the loop, up to the return. -/
def tail? (P : Program) (O : Orc) (ext : Ext) (call : FuncId → List AV → AH → M (AE × AH)) (n y : Nat) (fn : FuncId) (nt : Nat) (tmps : TT) (k : List Item) (j : Option Code) (h : AH) : M (AE × AH) :=
  match upTo? P O ext call atTail n ⟨⟨fn, nt, tmps, jumpItems j ++ k, [], .run, .wrapped⟩, [], h⟩ with
  | .error e => .error e
  | .ok c => match results? P O c.h c.cur.fn c.cur.tmps with
    | .error e => .error e
    | .ok v => match v.noq y && hpNoq y c.h.hp with
      | true => .ok (.returned v, c.h)
      | false => .error "range veiled"

/-- The call. -/
def rfCall? (P : Program) (O : Orc) (ext : Ext) (call : FuncId → List AV → AH → M (AE × AH)) (n y : Nat) (f : FuncId) (args : List AV) (h : AH) : M (AE × AH) :=
  match enterA P f args .normal with
  | .error e => .error e
  | .ok fr => match upTo? P O ext call atRF n ⟨fr, [], h⟩ with
    | .error e => .error e
    | .ok ⟨⟨fn, nt, tmps, todo, _, _, _⟩, _, h1⟩ => match todo with
      | .code (.rangeFunc g ps asg body) :: k => match evalA tmps g with
        | .func (.func gf) [] caps => match O.fns.contains gf && (tmps.noq y && (AV.noqs y caps && hpNoq y h1.hp)) with
          | false => .error "range the iterator"
          | true => match enterA P gf (.opq y :: caps) .normal with
            | .error e => .error e
            | .ok rfr => match iter? P O ext call (round? P O ext call n fn nt tmps ps asg body) y n none ⟨rfr, [], h1⟩ with
              | .error e => .error e
              | .ok (j, h2) => tail? P O ext call n y fn nt tmps k j h2
        | _ => .error "range no function"
      | _ => .error "range no loop"

/-- As summaries: of these functions. -/
def rfSum (P : Program) (O : Orc) (ext : Ext) (sum : Sums) (n y : Nat) (fs : List FuncId) : Sums := fun g args h =>
  match fs.contains g with
  | true => some (rfCall? P O ext (fun g args h => match sum g args h with
      | some r => r
      | none => match enterA P g args .normal with
        | .ok fr => run? P O ext sum n ⟨fr, [], h⟩
        | .error e => .error e) n y g args h)
  | false => none
end
end Go.Proofs.YtmnahfonnljobaaGreatDoor.SX
/-
  The steps of a range over a function: the loop is entered, a round begins, it goes, it leaves, the loop ends, what was deferred is taken.
-/
set_option linter.unusedSectionVars false
set_option linter.unusedVariables false
set_option linter.unusedSimpArgs false
namespace Go.Proofs.YtmnahfonnljobaaGreatDoor.SX
open Go.Conc

section
variable {P : Program} {main : Bool} {b : Frame} {a : Act} {k : List Item} {cs : List Frame} {w : World}

theorem run_eq {α : Type} (s : Sem α) {r : Result α} {es : Array Event} (h : s.runT P w #[] = (r, es)) : s.run P w = r ∧ s.events P w #[] = es := by
  refine ⟨?_, congrArg Prod.snd h⟩
  have := congrArg Prod.fst h
  rwa [Sem.runT_fst] at this

theorem quietE {α : Type} {s : Sem α} {v : α} {w : World} (h : wq P (fun _ => False) (fun _ _ => False) s (fun x w' => x = v ∧ w' = w) w) : s.runT P w #[] = (.ok v w, #[]) := by
  obtain ⟨h1, h2⟩ := wq_run h
  have e1 : s.run P w = .ok v w := by
    generalize s.run P w = r at h1
    cases r with
    | ok x w' => obtain ⟨rfl, rfl⟩ := h1; rfl
    | halt x w' => cases x <;> exact h1.elim
  have e2 : s.events P w #[] = #[] := by
    rcases Nat.eq_zero_or_pos (s.events P w #[]).size with h0 | h0
    · exact Array.eq_empty_of_size_eq_zero h0
    · exact (h2 _ (Array.getElem_mem h0)).elim
  have e3 : (s.runT P w #[]).1 = .ok v w := by rw [Sem.runT_fst]; exact e1
  exact Prod.ext e3 e2

theorem runT_get {α : Type} {r : Nat} {o : Obj} {f : Obj → Sem α} {es : Array Event} (h : w.heap[r]? = some o) (hc : ∀ c e fr, o ≠ .cells c e fr) : (Sem.getObj r f).runT P w es = (f o).runT P w (es.push ⟨.obj r, false, o.isChan⟩) := by
  simp only [Sem.runT, h]
theorem runT_set {α : Type} {r : Nat} {o o' : Obj} {f : Sem α} {es : Array Event} (h : w.heap[r]? = some o') (hc : ∀ c e fr, o' ≠ .cells c e fr) : (Sem.setObj r o f).runT P w es = f.runT P { w with heap := w.heap.setIfInBounds r o } (es.push ⟨.obj r, true, o.isChan⟩) := by
  simp only [Sem.runT, h]
theorem lp_nc (r : Loop) : ∀ c e fr, Obj.loop r ≠ .cells c e fr := fun _ _ _ h => by cases h
theorem df_nc (d : Option (List Deferred)) : ∀ c e fr, Obj.deferred d ≠ .cells c e fr := fun _ _ _ h => by cases h

/-- The loop, as it is laid. -/
def loop0 (b : Frame) (a : Act) (ps : Array Tmp) (asg body : Code) (D : Nat) : Loop := { state := .ready, pending := none, fn := b.fn, tmps := a.tmps, params := ps, assign := asg, body := body, defers := D }
/-- The world behind it. -/
def loopW (w : World) (b : Frame) (a : Act) (ps : Array Tmp) (asg body : Code) : World := { w with heap := (w.heap.push (.deferred (some []))).push (.loop (loop0 b a ps asg body w.heap.size)) }
def yieldV (l : Nat) : Value := .func (.yield l) #[] #[]

theorem enterLoop_runT (w : World) (ps : Array Tmp) (asg body : Code) : (Instr.enterLoop b.fn a.tmps ps asg body none).runT P w #[] = (.ok (w.heap.size + 1, [{ target := .collected w.heap.size, args := #[] }]) (loopW w b a ps asg body), #[]) := by
  show (Result.ok ((w.heap.push (.deferred (some []))).size, [({ target := .collected w.heap.size, args := #[] } : Deferred)]) (loopW w b a ps asg body), (#[] : Array Event)) = _
  rw [Array.size_push]

theorem stF_range {f : Operand} {ps : Array Tmp} {asg body : Code} {gf : FuncId} {cap : Array Value} (hb : b.roundOf = none) (hk : b.kind = .normal) (hg : a.eval f = .func (.func gf) #[] cap) (hfn : fnOk P gf = true) :
    stepG P main (G (b.atR a (.code (.rangeFunc f ps asg body) :: k)) cs) w = .go (G (Frame.enter P gf (#[yieldV (w.heap.size + 1)] ++ cap) .normal)
      (b.atR { a with defers := { target := .collected w.heap.size, args := #[] } :: a.defers } (.inRangeFunc (w.heap.size + 1) :: k) :: cs)) (loopW w b a ps asg body) #[] := by
  have h1 := enterLoop_runT (P := P) (b := b) (a := a) w ps asg body
  have hev : ∀ t, (b.atR { a with defers := { target := .collected w.heap.size, args := #[] } :: a.defers } t).eval f = .func (.func gf) #[] cap := fun t => by
    rw [congrFun (Frame.eval_atR _ _ _) f]; exact hg
  have h2 : (do let d ← resolve (b.atR { a with defers := { target := .collected w.heap.size, args := #[] } :: a.defers } (.inRangeFunc (w.heap.size + 1) :: k)).eval { callee := .value f, args := #[.const (.func (.yield (w.heap.size + 1)) #[] #[])], argTypes := #[] } 0; invoke d.target d.args : Sem Go.Next).runT P (loopW w b a ps asg body) #[] =
      (.ok (.enter gf (#[yieldV (w.heap.size + 1)] ++ cap)) (loopW w b a ps asg body), #[]) := by
    refine quietE ?_
    rw [wq_bind]
    unfold resolve
    dsimp only
    rw [hev]
    show wq P _ _ (callFunc gf _) _ _
    refine wq_enter (K := ⟨P, {}, fun _ => True, fun _ => False, False, fun _ _ => False⟩) hfn ⟨?_, rfl⟩
    simp [yieldV, Frame.eval]
  have hk' : (b.kind == CallKind.early) = false := by rw [hk]; rfl
  have h3 : stepG P main (G (b.atR a (.code (.rangeFunc f ps asg body) :: k)) cs) w = GStep.after (seen P b.fn #[]) (stepG.apply P true (b.atR { a with defers := { target := .collected w.heap.size, args := #[] } :: a.defers } (.inRangeFunc (w.heap.size + 1) :: k)) cs none
      (do let d ← resolve (b.atR { a with defers := { target := .collected w.heap.size, args := #[] } :: a.defers } (.inRangeFunc (w.heap.size + 1) :: k)).eval { callee := .value f, args := #[.const (.func (.yield (w.heap.size + 1)) #[] #[])], argTypes := #[] } 0; invoke d.target d.args) (loopW w b a ps asg body)) := by
    simp only [G, stepG, stepG.exec, Frame.atR, hb]
    rw [h1]
    rfl
  rw [h3, seen_none]
  unfold stepG.apply
  rw [if_pos rfl, h2]
  simp [GStep.after, Frame.atR, hk', G, seen_none]

/-- A call of the loop's own function: the round's frame. -/
def roundTmps (r : Loop) (args : Array Value) : Array Value := (r.params.zip args).foldl (fun tmps (t, a) => tmps.setIfInBounds t a) r.tmps

theorem stF_yield {ops : Array Oper} {i : Nat} {rest : List Nat} {o : Oper} {cl : Call} {x : Operand} {l : Nat} {r : Loop} (hb : b.roundOf = none) (hk : b.kind = .normal) (ho : ops[i]? = some o) (hg : o.guard = none) (hop : o.op = .call cl) (hcl : cl.callee = .value x)
    (hx : a.eval x = yieldV l) (hl : w.heap[l]? = some (.loop r)) (hn : cl.args.size = r.params.size) :
    stepG P main (G (b.atR a (.inRegion ops (i :: rest) :: k)) cs) w = .go (G (Frame.round l r.fn (roundTmps r (cl.args.map a.eval)) r.assign r.body .normal) (b.atR a (.inRegion ops (i :: rest) :: k) :: cs)) w (seen P b.fn #[⟨.obj l, false, false⟩]) := by
  have hw : Region.wanted o (yielded ops a.tmps) = true := by unfold Region.wanted; rw [hg]
  have hk' : (b.kind == CallKind.early) = false := by rw [hk]; rfl
  have h2 : (execOp a.eval o).runT P w #[] = (.ok (.round l r.fn (roundTmps r (cl.args.map a.eval)) r.assign r.body) w, #[⟨.obj l, false, false⟩]) := by
    unfold execOp
    rw [hop]
    dsimp only
    unfold resolve
    rw [hcl]
    dsimp only
    rw [hx]
    have hs : (cl.args.map a.eval).size = r.params.size := by simpa using hn
    show (Instr.yield l (#[] ++ cl.args.map a.eval)).runT P w #[] = _
    rw [Array.empty_append]
    show (Sem.getObj l fun o => _).runT P w #[] = _
    rw [runT_get hl (lp_nc r)]
    show (if (cl.args.map a.eval).size ≠ r.params.size then _ else _ : Sem Go.Next).runT P w _ = _
    rw [if_neg (by rw [hs]; simp)]
    rfl
  obtain ⟨h3, h4⟩ := run_eq _ h2
  rw [stR_oper (.inl hb) ho hw]
  unfold stepG.apply
  rw [if_pos rfl, h2]
  simp [GStep.after, Frame.atR, hk', G]

theorem stF_begin {l : Nat} {r : Loop} (hb : b.roundOf = some l) (hk : b.kind = .normal) (hl : w.heap[l]? = some (.loop r)) (hr : r.state = .ready) :
    stepG P main (G (b.atR a (.beginRound :: k)) cs) w = .go (G (b.atR a k) cs) { w with heap := w.heap.setIfInBounds l (.loop { r with state := .busy }) } (seen P b.fn #[⟨.obj l, false, false⟩, ⟨.obj l, true, false⟩]) := by
  have hk' : (b.kind == CallKind.early) = false := by rw [hk]; rfl
  have h2 : (do b.roundOf.elim (stuck "beginRound: no round") Instr.beginRound; pure .skip : Sem Go.Next).runT P w #[] = (.ok .skip { w with heap := w.heap.setIfInBounds l (.loop { r with state := .busy }) }, #[⟨.obj l, false, false⟩, ⟨.obj l, true, false⟩]) := by
    rw [hb]
    show (Sem.getObj l fun o => _).runT P w #[] = _
    rw [runT_get hl (lp_nc r)]
    show (Sem.setObj l (.loop { r with state := .busy }) _).runT P w _ = _
    rw [runT_set hl (lp_nc r)]
    show ((match r.state with
      | .ready => pure ()
      | .done => runtimePanic (.error "range function continued iteration after function for loop body returned false")
      | .busy => runtimePanic (.error "range function continued iteration after loop body panic")
      | .exhausted => runtimePanic (.error "range function continued iteration after whole loop exit") : Sem Unit).bind fun _ => Sem.pure Go.Next.skip).runT P _ _ = _
    rw [hr]
    rfl
  have h3 : stepG P main (G (b.atR a (.beginRound :: k)) cs) w = stepG.apply P true (b.atR a (.beginRound :: k)) cs none (do b.roundOf.elim (stuck "beginRound: no round") Instr.beginRound; pure .skip) w := by
    simp only [G, stepG, stepG.exec, Frame.atR]
  rw [h3]
  unfold stepG.apply
  rw [if_pos rfl, h2]
  simp [GStep.after, Frame.atR, Frame.finish, hk', G]

/-- A round leaves, by a jump or at its end. -/
theorem stF_leave {l : Nat} {r : Loop} {todo : List Item} {j : Option Code} (hj : jumpOf todo = some j) (hb : b.roundOf = some l) (hk : b.kind = .normal) (hl : w.heap[l]? = some (.loop r)) {c : Frame} :
    stepG P main (G (b.atR a todo) (c :: cs)) w = .go (G (c.finish (.bool j.isNone)) cs) { w with heap := w.heap.setIfInBounds l (.loop { r with state := if j.isNone then .ready else .done, pending := j }) } (seen P b.fn #[⟨.obj l, false, false⟩, ⟨.obj l, true, false⟩]) := by
  have h2 : (Instr.endRound l j).runT P w #[] = (.ok (.bool j.isNone) { w with heap := w.heap.setIfInBounds l (.loop { r with state := if j.isNone then .ready else .done, pending := j }) }, #[⟨.obj l, false, false⟩, ⟨.obj l, true, false⟩]) := by
    show (Sem.getObj l fun o => _).runT P w #[] = _
    rw [runT_get hl (lp_nc r)]
    show (Sem.setObj l _ _).runT P w _ = _
    rw [runT_set hl (lp_nc r)]
    rfl
  unfold jumpOf at hj
  split at hj
  · cases hj
    simp only [G, stepG, stepG.exec, Frame.atR, hb]
    rw [h2]
    simp [GStep.after, doReturn, hk]
  · cases hj
    simp only [G, stepG, stepG.exec, Frame.atR, hb]
    rw [h2]
    simp [GStep.after, doReturn, hk]
  · rename_i id k'
    split at hj
    · rename_i he
      cases hj
      simp only [G, stepG, stepG.exec, Frame.atR, hb, he, Option.elim]
      rw [h2]
      simp [GStep.after, doReturn, hk]
    · cases hj
  · cases hj

theorem stF_end {l : Nat} {r : Loop} (hl : w.heap[l]? = some (.loop r)) (hr : r.state ≠ .busy) :
    stepG P main (G (b.atR a (.endRangeFunc l :: k)) cs) w = .go (G (b.atR a ((r.pending.map Item.code).toList ++ k)) cs) { w with heap := w.heap.setIfInBounds l (.loop { r with state := .exhausted }) } (seen P b.fn #[⟨.obj l, false, false⟩, ⟨.obj l, true, false⟩]) := by
  have hr' : (r.state == LoopState.busy) = false := by
    cases hs : r.state <;> first | rfl | exact absurd hs hr
  have h2 : (Instr.endLoop l).runT P w #[] = (.ok r.pending { w with heap := w.heap.setIfInBounds l (.loop { r with state := .exhausted }) }, #[⟨.obj l, false, false⟩, ⟨.obj l, true, false⟩]) := by
    show (Sem.getObj l fun o => _).runT P w #[] = _
    rw [runT_get hl (lp_nc r)]
    show (if r.state == .busy then _ else _ : Sem (Option Code)).runT P w _ = _
    rw [if_neg (by rw [hr']; simp)]
    show (Sem.setObj l _ _).runT P w _ = _
    rw [runT_set hl (lp_nc r)]
    rfl
  simp only [G, stepG, stepG.exec, Frame.atR]
  rw [h2]
  simp [GStep.after]

theorem stF_take {fr : Frame} {D : Nat} {args : Array Value} {Ds : List Deferred} (hm : fr.mode = .returning) (hd : fr.defers = { target := .collected D, args := args } :: Ds) (hD : w.heap[D]? = some (.deferred (some []))) :
    stepG P main (G fr cs) w = .go (G { fr with defers := Ds } cs) { w with heap := w.heap.setIfInBounds D (.deferred none) } (seen P fr.fn #[⟨.obj D, false, false⟩, ⟨.obj D, true, false⟩]) := by
  have h2 : (Instr.takeDeferred D).runT P w #[] = (.ok [] { w with heap := w.heap.setIfInBounds D (.deferred none) }, #[⟨.obj D, false, false⟩, ⟨.obj D, true, false⟩]) := by
    show (Sem.getObj D fun o => _).runT P w #[] = _
    rw [runT_get hD (df_nc _)]
    show (Sem.setObj D _ _).runT P w _ = _
    rw [runT_set hD (df_nc _)]
    rfl
  obtain ⟨fn, tmps, todo, defers, mode, kind, ro⟩ := fr
  dsimp only at hm hd
  subst hm hd
  simp only [G, stepG, unwind]
  rw [h2]
  simp [GStep.after]
end
end Go.Proofs.YtmnahfonnljobaaGreatDoor.SX
/-
  A call of a function that ranges over a function, run in full: sound.
-/
set_option linter.unusedSectionVars false
set_option linter.unusedVariables false
set_option linter.unusedSimpArgs false
namespace Go.Proofs.YtmnahfonnljobaaGreatDoor.SX
open Go.Conc

/-! ### Other veiled values, another mark -/
def Env.set (ρ : Env) (y : Nat) (v : Value) (bt : Option Nat × List Deferred) : Env := { ρ with v := fun n => if n = y then v else ρ.v n, bt := bt }

section
variable {ρ : Env} {y : Nat} {v : Value} {bt : Option Nat × List Deferred}
theorem IE.ev_set : ∀ (e : IE), e.ev (ρ.set y v bt) = e.ev ρ := by
  intro e
  induction e with
  | lit n => rfl
  | var i => rfl
  | op o k a b iha ihb => simp only [IE.ev, iha, ihb]
  | conv k a ih => simp only [IE.ev, ih]
  | plus a b iha ihb => simp only [IE.ev, iha, ihb]
  | times a b iha ihb => simp only [IE.ev, iha, ihb]
  | tn a ih => simp only [IE.ev, ih]
theorem BE.ev_set (e : BE) : e.ev (ρ.set y v bt) = e.ev ρ := by
  cases e <;> simp only [BE.ev, IE.ev_set] <;> rfl
theorem BR.ev_set (e : BR) : e.ev (ρ.set y v bt) = e.ev ρ := by cases e <;> rfl
theorem AA.ev_set (a : AA) : a.ev (ρ.set y v bt) = a.ev ρ := by simp only [AA.ev, BR.ev_set, IE.ev_set]
theorem opt_set {α β : Type} {g h : α → β} (e : ∀ a, g a = h a) (o : Option α) : o.map g = o.map h := by cases o <;> simp [e]
mutual
theorem AV.ev_set : ∀ (a : AV), (v = ρ.v y ∨ a.noq y = true) → a.ev (ρ.set y v bt) = a.ev ρ
  | .bool b, _ => by simp only [AV.ev, BE.ev_set]
  | .int k e, _ => by simp only [AV.ev, IE.ev_set]
  | .str t, _ => rfl
  | .ptr a, _ => by simp only [AV.ev]; rw [opt_set AA.ev_set]
  | .slice a l c, _ => by simp only [AV.ev, IE.ev_set]; rw [opt_set AA.ev_set]
  | .map r, _ => by simp only [AV.ev]; rw [opt_set BR.ev_set]
  | .chan r, _ => by simp only [AV.ev]; rw [opt_set BR.ev_set]
  | .func f x z, h => by
    have h1 : v = ρ.v y ∨ AV.noqs y x = true := h.imp id fun h => by simp only [AV.noq, Bool.and_eq_true] at h; exact h.1
    have h2 : v = ρ.v y ∨ AV.noqs y z = true := h.imp id fun h => by simp only [AV.noq, Bool.and_eq_true] at h; exact h.2
    simp only [AV.ev, AV.evs_set x h1, AV.evs_set z h2]
  | .nilFunc, _ => rfl
  | .iface t a, h => by simp only [AV.ev, AV.ev_set a (h.imp id fun h => by simp only [AV.noq] at h; exact h)]
  | .nilIface, _ => rfl
  | .agg x, h => by simp only [AV.ev, AV.evs_set x (h.imp id fun h => by simp only [AV.noq] at h; exact h)]
  | .tuple x, h => by simp only [AV.ev, AV.evs_set x (h.imp id fun h => by simp only [AV.noq] at h; exact h)]
  | .opq i, h => by
    simp only [AV.ev]
    show (if i = y then v else ρ.v i) = ρ.v i
    split
    · rename_i e
      rcases h with h | h
      · rw [h, e]
      · simp only [AV.noq, Bool.not_eq_true'] at h
        rw [e] at h
        simp at h
    · rfl
  | .raw u, _ => rfl
theorem AV.evs_set : ∀ (l : List AV), (v = ρ.v y ∨ AV.noqs y l = true) → AV.evs (ρ.set y v bt) l = AV.evs ρ l
  | [], _ => rfl
  | a :: l, h => by
    have h1 : v = ρ.v y ∨ a.noq y = true := h.imp id fun h => by simp only [AV.noqs, Bool.and_eq_true] at h; exact h.1
    have h2 : v = ρ.v y ∨ AV.noqs y l = true := h.imp id fun h => by simp only [AV.noqs, Bool.and_eq_true] at h; exact h.2
    simp only [AV.evs, AV.ev_set a h1, AV.evs_set l h2]
end

theorem TT.get_noq : ∀ {t : TT}, t.noq y = true → ∀ n, (t.get n).noq y = true := by
  intro t
  induction t with
  | leaf => intro _ n; rfl
  | node a l r ihl ihr =>
    intro h n
    simp only [TT.noq, Bool.and_eq_true] at h
    cases n with
    | zero => exact h.1.1
    | succ m =>
      rw [TT.get_node_succ]
      split
      · exact ihr h.2 _
      · exact ihl h.1.2 _
theorem TmpR.set {nt : Nat} {t : TT} {tm : Array Value} (h : TmpR ρ nt t tm) (hn : v = ρ.v y ∨ t.noq y = true) : TmpR (ρ.set y v bt) nt t tm :=
  ⟨h.size, h.le, fun n hl => by rw [h.get n hl, AV.ev_set _ (hn.imp id fun hn => TT.get_noq hn n)], h.out⟩

theorem is_set {P : Program} {b : ABlk} {o : Obj} (hb : v = ρ.v y ∨ b.noq y = true) (h : b.is P ρ o) : b.is P (ρ.set y v bt) o := by
  rcases h with ⟨arr, e, hf⟩ | h
  · refine .inl ⟨arr, e, ?_⟩
    cases b with
    | cells cs e => simp only [ABlk.fits] at hf ⊢; rw [AV.evs_set cs hb]; exact hf
    | lent cs e l => simp only [ABlk.fits] at hf ⊢; rw [AV.evs_set cs hb]; exact hf
    | row cs e c => simp only [ABlk.fits] at hf ⊢; rw [AV.evs_set cs hb, IE.ev_set]; exact hf
    | map es => exact hf.elim
    | chan => exact hf.elim
    | vmap s n fs ws => exact hf.elim
    | pre lk s n fs ws cs e c =>
      obtain ⟨pre, rest, i, h1, h2, h3⟩ := hf
      have hb' : v = ρ.v y ∨ (s ≠ y ∧ (∀ p ∈ fs, p.2.noq y = true) ∧ (∀ p ∈ ws, p.2.noq y = true) ∧ AV.noqs y cs = true) := hb.imp id fun hb => by
        simp only [ABlk.noq, Bool.and_eq_true] at hb
        obtain ⟨⟨⟨b1, b2⟩, b3⟩, b4⟩ := hb
        exact ⟨fun e => by subst e; simp at b1, fun p hp => List.all_eq_true.1 b2 p hp, fun p hp => List.all_eq_true.1 b3 p hp, b4⟩
      refine ⟨pre, rest, i, ⟨?_, h1.info, by rw [IE.ev_set]; exact h1.size, fun p hp => by rw [IE.ev_set, AV.ev_set _ (hb'.imp id fun h => h.2.1 p hp)]; exact h1.fs p hp, fun p hp => by rw [IE.ev_set]; exact h1.ws p hp⟩, ?_, by rw [IE.ev_set]; exact h3⟩
      · rw [← h1.val]
        show (if s = y then v else ρ.v s) = ρ.v s
        split
        · rename_i e
          subst e
          rcases hb' with h | h
          · exact h
          · exact absurd rfl h.1
        · rfl
      · rw [AV.evs_set cs (hb'.imp id fun h => h.2.2.2), h2]
        congr 1
        have : ∀ {l : List (IE × AV)}, (v = ρ.v y ∨ ∀ p ∈ l, p.2.noq y = true) → wrote (ρ.set y v bt) pre.toList l = wrote ρ pre.toList l := by
          intro l
          induction l with
          | nil => intro _; rfl
          | cons p l ih =>
            intro hl
            show (wrote _ _ l).set _ _ = (wrote _ _ l).set _ _
            rw [ih (hl.imp id fun h q hq => h q (List.mem_cons_of_mem _ hq)), IE.ev_set, AV.ev_set _ (hl.imp id fun h => h p (List.mem_cons_self ..))]
        exact (this (hb'.imp id fun h => h.2.2.1)).symm
  · refine .inr ?_
    cases b with
    | map es =>
      obtain ⟨arr, clk, h1, h2⟩ := h
      refine ⟨arr, clk, h1, h2.trans (List.map_congr_left fun p hp => ?_)⟩
      have hx : v = ρ.v y ∨ (p.1.noq y = true ∧ p.2.noq y = true) := hb.imp id fun hb => by
        have := List.all_eq_true.1 hb p hp
        simpa using this
      rw [AV.ev_set p.1 (hx.imp id And.left), AV.ev_set p.2 (hx.imp id And.right)]
    | chan => exact h
    | vmap s n fs ws =>
      rcases hb with hv | hb
      rotate_left
      · cases hb
      have hs : (ρ.set y v bt).v = ρ.v := by
        funext k
        show (if k = y then v else ρ.v k) = ρ.v k
        split
        · rename_i e; rw [e]; exact hv
        · rfl
      obtain ⟨arr, clk, E, h1, h2, h3, h4, h5⟩ := h
      refine ⟨arr, clk, E, h1, by rw [hs]; exact h2, by rw [IE.ev_set]; exact h3, h4.trans ?_, fun p hp => ?_⟩
      · congr 1
        refine List.map_congr_left fun p hp => ?_
        rw [AV.ev_set p.1 (.inl hv), AV.ev_set p.2 (.inl hv)]
      · have hK := h5 p hp
        obtain ⟨a, r⟩ := p
        unfold KeyIs at hK ⊢
        have ea : a.ev (ρ.set y v bt) = a.ev ρ := AA.ev_set a
        cases r with
        | none =>
          rw [ea]
          exact hK
        | some u =>
          dsimp only at hK ⊢
          rw [ea, AV.ev_set u (.inl hv)]
          exact hK
    | _ => exact h.elim
theorem hpNoq_find : ∀ {l : List (Nat × ABlk)}, hpNoq y l = true → ∀ {i : Nat} {b : ABlk}, findB i l = some b → b.noq y = true
  | [], _, i, b, h => by cases h
  | p :: l, hn, i, b, h => by
    simp only [hpNoq, Bool.and_eq_true] at hn
    rw [find_cons] at h
    cases e : Nat.beq i p.1 with
    | true => rw [e] at h; have h' : some p.2 = some b := h; cases h'; exact hn.1
    | false => rw [e] at h; exact hpNoq_find hn.2 h

theorem lentAt_set {P : Program} {b : ABlk} {n : Nat} (h : b.lentAt P ρ n) : b.lentAt P (ρ.set y v bt) n := by
  cases b with
  | pre lk s m fs ws cs e c => simp only [ABlk.lentAt, IE.ev_set]; exact h
  | _ => exact h
theorem Rel.set {K : Ctx} {h : AH} {w : World} (R : Rel K ρ h w) (hn : v = ρ.v y ∨ (hpNoq y h.hp = true ∧ K.O.noq y = true)) : Rel K (ρ.set y v bt) h w :=
  ⟨fun i b hb => by
      obtain ⟨o, h1, h2⟩ := R.blk i b hb
      exact ⟨o, h1, is_set (hn.imp id fun hn => hpNoq_find hn.1 hb) h2⟩, R.own', R.inj, fun p hp => by rw [BE.ev_set]; exact R.bs p hp, fun p hp => by rw [IE.ev_set, IE.ev_set]; exact R.is p hp, fun p hp => by
      rw [AA.ev_set, AV.ev_set p.2 (hn.imp id fun hn => List.all_eq_true.1 hn.2 p hp)]; exact R.mem p hp, R.room, fun i b hb n hs => lentAt_set (R.lent i b hb n hs), R.low⟩
end

/-! ### The context without the loop's two objects -/
def Ctx.less (K : Ctx) (D l : Nat) : Ctx := { K with own := fun n => K.own n ∧ n ≠ D ∧ n ≠ l }

section
variable {K : Ctx} {D l : Nat}
theorem less_good (Gd : K.Good) : (K.less D l).Good := ⟨fun a s h => Gd.rd a s h.1, fun a s h => Gd.wr a s h.1, Gd.noWr, Gd.ext, Gd.noRoom, Gd.lock, fun r wr s h => Gd.obj r wr s h.1⟩
theorem less_keeps {w w' : World} (h : Keeps (K.less D l).own w w') : Keeps K.own w w' := h.mono fun n hn => hn.1
theorem less_dk (w w' : World) (es : Array Event) (h : DK (K.less D l) w w' es) : DK K w w' es := ⟨less_keeps h.1, h.2⟩
theorem less_D {w w' : World} (h : Keeps (K.less D l).own w w') : w'.heap[D]? = w.heap[D]? := h.heap D fun x => x.2.1 rfl
theorem less_l {w w' : World} (h : Keeps (K.less D l).own w w') : w'.heap[l]? = w.heap[l]? := h.heap l fun x => x.2.2 rfl

/-- The loop's two objects. -/
structure Lp (w : World) (D l : Nat) (r : Loop) : Prop where
  loop : w.heap[l]? = some (.loop r)
  dfr : w.heap[D]? = some (.deferred (some []))
theorem Lp.kept {w w' : World} {r : Loop} (h : Lp w D l r) (k : Keeps (K.less D l).own w w') : Lp w' D l r := ⟨by rw [less_l k]; exact h.loop, by rw [less_D k]; exact h.dfr⟩
theorem Lp.drawn {w : World} {r : Loop} (h : Lp w D l r) (d : Nat) : Lp (drawnAt w d) D l r := ⟨h.1, h.2⟩

/-- No block's object. -/
def oddObj : Obj → Prop
  | .loop _ => True
  | .deferred _ => True
  | _ => False
theorem odd_is {P : Program} {ρ : Env} {b : ABlk} {o : Obj} (ho : oddObj o) (h : b.is P ρ o) : False := by
  rcases h with ⟨arr, e, _⟩ | h
  · subst e; exact ho
  · cases b with
    | map es => obtain ⟨_, _, e, _⟩ := h; subst e; exact ho
    | chan => obtain ⟨_, e⟩ := h; subst e; exact ho
    | vmap s n fs ws => obtain ⟨_, _, _, e, _⟩ := h; subst e; exact ho
    | _ => exact h.elim
theorem odd_cell {w : World} {b n : Nat} {sp : Option Nat} {o : Obj} (ho : oddObj o) (hb : w.heap[b]? = some o) {v : Value} (h : w.cell? ⟨b, n, none⟩ = some v) : False := by
  simp only [World.cell?, hb] at h
  cases o <;> first | exact ho.elim | cases h

def setW (w : World) (r : Nat) (o : Obj) : World := { w with heap := w.heap.setIfInBounds r o }
theorem setW_ne {w : World} {r n : Nat} {o : Obj} (h : n ≠ r) : (setW w r o).heap[n]? = w.heap[n]? := by
  simp only [setW]; rw [Array.getElem?_setIfInBounds_ne fun e => h e.symm]
theorem setW_eq {w : World} {r : Nat} {o o' : Obj} (h : w.heap[r]? = some o') : (setW w r o).heap[r]? = some o := by
  have := heap_lt h
  simp only [setW]; rw [Array.getElem?_setIfInBounds_self_of_lt this]
theorem setW_cell {w : World} {r : Nat} {o o' : Obj} (h : w.heap[r]? = some o') (ho : oddObj o') {a : Addr} {v : Value} (hs : a.spot = none) (hc : w.cell? a = some v) : (setW w r o).cell? a = some v := by
  obtain ⟨b, n, s⟩ := a
  dsimp only at hs
  subst hs
  have hne : b ≠ r := fun e => odd_cell (sp := none) ho (e ▸ h) hc
  simp only [World.cell?] at hc ⊢
  rw [setW_ne hne]; exact hc

theorem Rel.setW {ρ : Env} {h : AH} {w : World} (R : Rel K ρ h w) {r : Nat} {o o' : Obj} (hr : w.heap[r]? = some o') (ho : oddObj o') : Rel K ρ h (setW w r o) := by
  have hne : ∀ i b, findB i h.hp = some b → ρ.b i ≠ r := fun i b hb e => by
    obtain ⟨o2, h1, h2⟩ := R.blk i b hb
    rw [e, hr] at h1
    cases h1
    exact odd_is ho h2
  have hsz : (SX.setW w r o).heap.size = w.heap.size := by simp [SX.setW]
  refine ⟨fun i b hb => ?_, R.own', R.inj, R.bs, R.is, fun p hp => ?_, fun n hn => R.room n (by rw [hsz] at hn; exact hn), R.lent, fun b n hs => by rw [hsz]; exact R.low b n hs⟩
  · obtain ⟨o2, h1, h2⟩ := R.blk i b hb
    exact ⟨o2, by rw [setW_ne (hne i b hb)]; exact h1, h2⟩
  · obtain ⟨m1, m2, m3⟩ := R.mem p hp
    exact ⟨m1, setW_cell hr ho rfl m2, m3⟩
theorem keeps_setW {w : World} {r : Nat} {o : Obj} (hr : K.own r) : Keeps K.own w (setW w r o) :=
  ⟨fun n hn => setW_ne fun e => hn (e ▸ hr), by simp [setW], rfl, rfl, rfl⟩
theorem stays_setW {S : Nat → Nat → Prop} {w : World} {r : Nat} {o o' : Obj} (h : w.heap[r]? = some o') (ho : oddObj o') : Stays S w (setW w r o) := fun b n v _ hc => setW_cell h ho rfl hc

/-- A step that turns one of them. -/
theorem dk_setW (Gd : K.Good) {w : World} {r fn : Nat} {P : Program} {o o' : Obj} (hr : K.own r) (h : w.heap[r]? = some o') (ho : oddObj o') : DK K w (setW w r o) (seen P fn #[⟨.obj r, false, false⟩, ⟨.obj r, true, false⟩]) := by
  refine ⟨keeps_setW hr, fun e he => ?_, stays_setW h ho⟩
  have := mem_seen he
  simp only [List.mem_toArray, List.mem_cons, List.not_mem_nil, or_false] at this
  rcases this with rfl | rfl
  · exact Gd.obj r false false hr
  · exact Gd.obj r true false hr
end

section
variable {K : Ctx} {main : Bool} {ext : Ext} {call : FuncId → List AV → AH → M (AE × AH)}

theorem upTo_ok (Gd : K.Good) (F : K.Facts) (X : ExtOk K ext) (C : CallOk K main call) {stop : ACfg → Bool} : ∀ {n : Nat} {c c' : ACfg}, upTo? K.P K.O ext call stop n c = .ok c' →
    stop c' = true ∧ bot c'.cur.fn c'.callers = bot c.cur.fn c.callers ∧ ∃ N, Leads K main c c' N := by
  intro n
  induction n with
  | zero => intro c c' he; cases he
  | succ n ih =>
    intro c c' he
    have he' : (match stop c with
      | true => .ok c
      | false => match step? K.P K.O ext call c with
        | .ok (.inl c) => upTo? K.P K.O ext call stop n c
        | .ok (.inr _) => .error "range it ends"
        | .error e => .error e : M ACfg) = .ok c' := he
    split at he'
    · rename_i hs
      cases he'
      exact ⟨hs, rfl, 0, fun U ρ cs g w I Γ => Walk.stop ⟨ρ, Agree.refl _ _, Keeps.refl _ _, Grows.refl I.ids, I.congr (plus_same U _), Γ⟩⟩
    · split at he'
      · rename_i c1 hs
        obtain ⟨N, L⟩ := step_ok Gd F X C hs
        obtain ⟨h1, h2, M, L2⟩ := ih he'
        exact ⟨h1, h2.trans (step_bot hs), N + M, L.trans L2⟩
      · cases he'
      · cases he'

/-! ### A round's temporaries -/
theorem setAll_ok {ρ : Env} {nt : Nat} : ∀ {l : List (Tmp × AV)} {t : TT} {tm : Array Value}, TmpR ρ nt t tm → TmpR ρ nt (setAll nt t l) (l.foldl (fun m p => m.setIfInBounds p.1 (p.2.ev ρ)) tm)
  | [], t, tm, h => h
  | p :: l, t, tm, h => by
    obtain ⟨tm', e, h1⟩ := put_tmps h [] (some p.1) p.2
    have e2 : tm.setIfInBounds p.1 (p.2.ev ρ) = tm' := congrArg Act.tmps e
    show TmpR ρ nt (setAll nt (putA nt t (some p.1) p.2) l) (l.foldl _ (tm.setIfInBounds p.1 (p.2.ev ρ)))
    rw [e2]
    exact setAll_ok h1
theorem setAll_in {U : Nat → Prop} {nt : Nat} (hnt : nt ≤ 60000) : ∀ {l : List (Tmp × AV)} {t : TT}, t.In U → (∀ p ∈ l, p.2.In U) → (setAll nt t l).In U
  | [], t, h, _ => h
  | p :: l, t, h, hl => by
    show (setAll nt (putA nt t (some p.1) p.2) l).In U
    exact setAll_in hnt (putA_in h (hl p (List.mem_cons_self ..)) hnt) fun q hq => hl q (List.mem_cons_of_mem _ hq)
theorem zip_fold {ρ : Env} : ∀ (ps : List Tmp) (args : List AV) (tm : Array Value), (ps.zip (AV.evs ρ args)).foldl (fun m p => m.setIfInBounds p.1 p.2) tm = (ps.zip args).foldl (fun m p => m.setIfInBounds p.1 (p.2.ev ρ)) tm
  | [], _, _ => rfl
  | _ :: _, [], _ => rfl
  | p :: ps, a :: args, tm => by
    show (ps.zip (AV.evs ρ args)).foldl _ (tm.setIfInBounds p (a.ev ρ)) = (ps.zip args).foldl _ (tm.setIfInBounds p (a.ev ρ))
    exact zip_fold ps args _
theorem roundTmps_eq {ρ : Env} (r : Loop) (args : List AV) : roundTmps r (AV.evs ρ args).toArray = (r.params.toList.zip args).foldl (fun m p => m.setIfInBounds p.1 (p.2.ev ρ)) r.tmps := by
  rw [← zip_fold]
  unfold roundTmps
  rw [← Array.foldl_toList, Array.toList_zip]

/-- How the loop stands behind a round. -/
def stL (r : Loop) (j : Option Code) : Loop := { r with state := if j.isNone then .ready else .done, pending := j }

variable {D l : Nat} {cs : List Frame}

structure Hyp (K : Ctx) (main : Bool) (ext : Ext) (call : FuncId → List AV → AH → M (AE × AH)) (D l : Nat) : Prop where
  gd : K.Good
  facts : K.Facts
  ext : ExtOk (K.less D l) ext
  call : CallOk (K.less D l) main call
  hD : K.own D
  hl : K.own l
  ne : D ≠ l

theorem round_ok (H : Hyp K main ext call D l) {n nt : Nat} {fn : FuncId} {tmps : TT} {ps : Array Tmp} {asg body : Code} {args : List AV} {h h' : AH} {j : Option Code} (he : round? K.P K.O ext call n fn nt tmps ps asg body args h = .ok (j, h'))
    {U : Nat → Prop} {ρ : Env} {w : World} {tm : Array Value} {cF : Frame} {r : Loop} (I : Ids (K.less D l) U h) (ht : tmps.In U) (ha : AV.Ins U args) (R : Rel (K.less D l) ρ h w) (T : TmpR ρ nt tmps tm) (hf : ∃ f, K.P.funcs[fn]? = some f)
    (L : Lp w D l r) (hr : r.state = .ready) (e1 : r.fn = fn) (e2 : r.tmps = tm) (e3 : r.params = ps) (e4 : r.assign = asg) (e5 : r.body = body) (hbt : ρ.bt = (some l, [])) :
    Walk K.P main (DK K) (fun g' w' => ∃ ρ', Agree U ρ ρ' ∧ Keeps K.own w w' ∧ Grows (K.less D l) U h h' ∧ Rel (K.less D l) ρ' h' w' ∧ Lp w' D l (stL r j) ∧ g' = G (cF.finish (.bool j.isNone)) cs) 0
      (G (Frame.round l r.fn (roundTmps r (AV.evs ρ args).toArray) r.assign r.body .normal) (cF :: cs)) w := by
  have Gd' := less_good (D := D) (l := l) H.gd
  have F' : (K.less D l).Facts := ⟨H.facts.fns, H.facts.ext, H.facts.mixed⟩
  unfold round? at he
  split at he
  · cases he
  rename_i hlen
  split at he
  · cases he
  rename_i fn1 nt1 t1 todo1 ds1 mode1 kind1 callers1 h1 hu1
  split at he
  rotate_left
  · cases he
  rename_i it k1
  split at he
  · cases he
  rename_i c2 hu2
  split at he
  rotate_left
  · cases he
  rename_i j' hj
  cases he
  obtain ⟨s1, b1, N1, L1⟩ := upTo_ok (K := K.less D l) (main := main) Gd' F' H.ext H.call hu1
  obtain ⟨s2, b2, N2, L2⟩ := upTo_ok (K := K.less D l) (main := main) Gd' F' H.ext H.call hu2
  unfold atBegin at s1
  split at s1
  rotate_left
  · cases s1
  rename_i fn2 nt2 t2 k2 ds2 h2 hc1
  replace hc1 := hc1.symm
  simp only [ACfg.mk.injEq, AFrame.mk.injEq, List.cons.injEq] at hc1
  obtain ⟨⟨e21, e22, e23, ⟨e24, e25⟩, e26, e27, e28⟩, e29, e30⟩ := hc1
  subst e21 e22 e23 e24 e25 e26 e27 e28 e29 e30
  have T1 : TmpR ρ nt (setAll nt tmps (ps.toList.zip args)) (roundTmps r (AV.evs ρ args).toArray) := by
    rw [roundTmps_eq, e3, e2]; exact setAll_ok T
  have I1 : CIds (K.less D l) U ⟨⟨fn, nt, setAll nt tmps (ps.toList.zip args), [.code asg, .beginRound, .code body], [], .run, .wrapped⟩, [], h⟩ :=
    ⟨⟨setAll_in T.le ht fun p hp => Ins_iff.1 ha _ (List.of_mem_zip hp).2, (fun d hd => by cases hd), trivial⟩, (fun _ x => by cases x), I⟩
  have Γ1 : Gam (K.less D l) ρ ⟨⟨fn, nt, setAll nt tmps (ps.toList.zip args), [.code asg, .beginRound, .code body], [], .run, .wrapped⟩, [], h⟩ (cF :: cs) (G (Frame.round l r.fn (roundTmps r (AV.evs ρ args).toArray) r.assign r.body .normal) (cF :: cs)) w :=
    gam_run.2 ⟨R, _, [], T1, .inr rfl, hf, trivial, by
      rw [e1, e4, e5]
      show _ = G ((bB ρ fn .wrapped).atR (aB ρ .wrapped _ []) _) _
      unfold bB aB dB
      rw [hbt]
      rfl⟩
  refine (Walk.trans (m := 0) (fun g1 w1 nx => ?_) ((L1 U ρ (cF :: cs) _ w I1 Γ1).lax less_dk)).any
  obtain ⟨ρ1, A1, kp1, gr1, I2, Γ2⟩ := nx
  have Lw1 := L.kept kp1
  obtain ⟨R2, tm2, frs, T2, _, hf2, hcs, rfl⟩ := gam_run.1 Γ2
  cases frs with
  | cons a b => exact absurd hcs (by simp [FrRels])
  | nil =>
  have hbt1 : ρ1.bt = (some l, []) := by rw [A1.bt]; exact hbt
  have hro : (bB ρ1 fn2 .wrapped).roundOf = some l := by
    show ρ1.bt.1 = _
    rw [hbt1]
  have step1 : Walk K.P main (DK K) (fun g' w' => ∃ d, w' = setW (drawnAt w1 d) l (.loop { r with state := .busy }) ∧ g' = G ((bB ρ1 fn2 .wrapped).atR (aB ρ1 .wrapped tm2 ds2) k2) (cF :: cs)) 0 (G ((bB ρ1 fn2 .wrapped).atR (aB ρ1 .wrapped tm2 ds2) (.beginRound :: k2)) ([] ++ cF :: cs)) w1 := by
    refine (Walk.one rfl fun d => ?_).any
    rw [List.nil_append, stF_begin (w := drawnAt w1 d) hro rfl Lw1.loop hr]
    exact ⟨dk_setW H.gd H.hl Lw1.loop trivial, d, rfl, rfl⟩
  refine (Walk.trans (m := 0) (fun g2 w2 hx => ?_) step1).any
  obtain ⟨d, rfl, rfl⟩ := hx
  have R3 : Rel (K.less D l) ρ1 h2 (setW (drawnAt w1 d) l (.loop { r with state := .busy })) := (R2.drawn d).setW Lw1.loop trivial
  have L3 : Lp (setW (drawnAt w1 d) l (.loop { r with state := .busy })) D l { r with state := .busy } := ⟨setW_eq Lw1.loop, by rw [setW_ne H.ne]; exact Lw1.dfr⟩
  have I3 : CIds (K.less D l) (plus U h.nb h2.nb) ⟨⟨fn2, nt2, t2, k2, ds2, .run, .wrapped⟩, [], h2⟩ := ⟨⟨I2.cur.tmps, I2.cur.defers, trivial⟩, (fun _ x => by cases x), I2.ids⟩
  have Γ3 : Gam (K.less D l) ρ1 ⟨⟨fn2, nt2, t2, k2, ds2, .run, .wrapped⟩, [], h2⟩ (cF :: cs) (G ((bB ρ1 fn2 .wrapped).atR (aB ρ1 .wrapped tm2 ds2) k2) (cF :: cs)) (setW (drawnAt w1 d) l (.loop { r with state := .busy })) :=
    gam_run.2 ⟨R3, tm2, [], T2, .inr rfl, hf2, trivial, rfl⟩
  refine (Walk.trans (m := 0) (fun g3 w3 nx => ?_) ((L2 _ ρ1 (cF :: cs) _ _ I3 Γ3).lax less_dk)).any
  obtain ⟨ρ2, A2, kp2, gr2, I4, Γ4⟩ := nx
  have Lw3 := L3.kept kp2
  obtain ⟨⟨fn4, nt4, t4, todo4, ds4, mode4, kind4⟩, callers4, h4⟩ := c2
  have s2' := s2
  unfold atLeave at s2'
  split at s2'
  rotate_left
  · cases s2'
  rename_i hc4
  simp only [ACfg.mk.injEq, AFrame.mk.injEq] at hc4
  obtain ⟨⟨rfl, rfl, rfl, rfl, rfl, rfl, rfl⟩, rfl, rfl⟩ := hc4
  dsimp only at hj
  obtain ⟨R4, tm4, frs, T4, _, hf4, hcs4, rfl⟩ := gam_run.1 Γ4
  cases frs with
  | cons a b => exact absurd hcs4 (by simp [FrRels])
  | nil =>
  have hro2 : (bB ρ2 fn4 .wrapped).roundOf = some l := by
    show ρ2.bt.1 = _
    rw [A2.bt, hbt1]
  have step2 : Walk K.P main (DK K) (fun g' w' => ∃ d, w' = setW (drawnAt w3 d) l (.loop (stL r j)) ∧ g' = G (cF.finish (.bool j.isNone)) cs) 0 (G ((bB ρ2 fn4 .wrapped).atR (aB ρ2 .wrapped tm4 ds4) todo4) ([] ++ cF :: cs)) w3 := by
    refine (Walk.one rfl fun d => ?_).any
    rw [List.nil_append, stF_leave (w := drawnAt w3 d) hj hro2 rfl Lw3.loop]
    exact ⟨dk_setW H.gd H.hl Lw3.loop trivial, d, rfl, rfl⟩
  refine Walk.weaken (fun g5 w5 hx => ?_) step2
  obtain ⟨d', rfl, rfl⟩ := hx
  refine ⟨ρ2, A1.trans A2 plus_sub, ?_, gr1.trans gr2, (R4.drawn d').setW Lw3.loop trivial, ⟨setW_eq Lw3.loop, by rw [setW_ne H.ne]; exact Lw3.dfr⟩, rfl⟩
  exact (((less_keeps kp1).trans ((keeps_drawn _ w1 d).trans (keeps_setW H.hl))).trans (less_keeps kp2)).trans ((keeps_drawn _ w3 d').trans (keeps_setW H.hl))

theorem yieldAt_ok {y : Nat} {c : ACfg} {args : List AV} (he : yieldAt y c = some args) : ∃ fn nt t ops i rest k ds h o cl x, c = ⟨⟨fn, nt, t, .inRegion ops (i :: rest) :: k, ds, .run, .normal⟩, [], h⟩ ∧ ops[i]? = some o ∧ o.guard = none ∧ o.op = .call cl ∧ cl.callee = .value x ∧
    evalA t x = .opq y ∧ args = cl.args.toList.map (evalA t) := by
  unfold yieldAt at he
  split at he
  rotate_left
  · cases he
  rename_i fn nt t ops i rest k ds h
  split at he
  rotate_left
  · cases he
  rename_i o ho
  split at he
  rotate_left
  · cases he
  rename_i cl hg hop
  split at he
  rotate_left
  · cases he
  rename_i x hcl
  split at he
  rotate_left
  · cases he
  rename_i z hz
  cases e : Nat.beq z y with
  | false => rw [e] at he; cases he
  | true =>
    rw [e] at he
    have he' : some (cl.args.toList.map (evalA t)) = some args := he
    cases he'
    have := Nat.eq_of_beq_eq_true e
    subst this
    exact ⟨_, _, _, _, _, _, _, _, _, _, _, _, rfl, ho, hg, hop, hcl, hz, rfl⟩

theorem evs_args {ρ : Env} {nt : Nat} {t : TT} {tm : Array Value} (T : TmpR ρ nt t tm) (ds : List Deferred) (xs : Array Operand) : xs.map (Act.eval ⟨tm, ds⟩) = (AV.evs ρ (xs.toList.map (evalA t))).toArray := by
  apply Array.toList_inj.1
  rw [Array.toList_map, evs_map, List.map_map]
  exact List.map_congr_left fun x _ => evalA_ev T ds x

theorem isNone?_eq (j : Option Code) : isNone? j = j.isNone := by cases j <;> rfl

theorem round_len {P : Program} {O : Orc} {ext : Ext} {call : FuncId → List AV → AH → M (AE × AH)} {n : Nat} {fn : FuncId} {nt : Nat} {tmps : TT} {ps : Array Tmp} {asg body : Code} {args : List AV} {h : AH} {r : Option Code × AH}
    (he : round? P O ext call n fn nt tmps ps asg body args h = .ok r) : args.length = ps.size := by
  unfold round? at he
  split at he
  · cases he
  rename_i hb
  exact Nat.eq_of_beq_eq_true hb

theorem iter_ok (H : Hyp K main ext call D l) {m nt : Nat} {fn : FuncId} {tmps : TT} {ps : Array Tmp} {asg body : Code} {y : Nat} {F1 : Frame} {r0 : Loop} {tm : Array Value} (e1 : r0.fn = fn) (e2 : r0.tmps = tm) (e3 : r0.params = ps) (e4 : r0.assign = asg) (e5 : r0.body = body) (hf : ∃ f, K.P.funcs[fn]? = some f) :
    ∀ {n : Nat} {j jr : Option Code} {c : ACfg} {hr : AH}, iter? K.P K.O ext call (round? K.P K.O ext call m fn nt tmps ps asg body) y n j c = .ok (jr, hr) →
    ∀ {U : Nat → Prop} {ρ : Env} {w : World} {g : Goroutine}, CIds (K.less D l) U c → tmps.In U → Gam (K.less D l) ρ c (F1 :: cs) g w → TmpR ρ nt tmps tm → ρ.v y = yieldV l → ρ.bt = (some l, []) → Lp w D l (stL r0 j) →
    Walk K.P main (DK K) (fun g' w' => ∃ ρ' v, Agree U ρ ρ' ∧ Keeps K.own w w' ∧ Grows (K.less D l) U c.h hr ∧ Rel (K.less D l) ρ' hr w' ∧ Lp w' D l (stL r0 jr) ∧ g' = G (F1.finish v) cs) 0 g w := by
  have Gd' := less_good (D := D) (l := l) H.gd
  have F' : (K.less D l).Facts := ⟨H.facts.fns, H.facts.ext, H.facts.mixed⟩
  intro n
  induction n with
  | zero => intro j jr c hr he; cases he
  | succ n ih =>
    intro j jr c hr he U ρ w g I ht Γ T hy hbt
    have he' : (match yieldAt y c with
      | some args => match (generalizing := false) j with
        | some _ => .error "range it goes on"
        | none => match round? K.P K.O ext call m fn nt tmps ps asg body args c.h with
          | .error e => .error e
          | .ok (j', h') => match finishA c.cur (.bool (.lit (isNone? j'))) with
            | .ok fr => iter? K.P K.O ext call (round? K.P K.O ext call m fn nt tmps ps asg body) y n j' ⟨fr, [], h'⟩
            | .error e => .error e
      | none => match step? K.P K.O ext call c with
        | .ok (.inl c) => iter? K.P K.O ext call (round? K.P K.O ext call m fn nt tmps ps asg body) y n j c
        | .ok (.inr (.returned _, h)) => .ok (j, h)
        | .ok (.inr _) => .error "range a panic"
        | .error e => .error e : M (Option Code × AH)) = .ok (jr, hr) := he
    intro L
    split at he'
    · rename_i args hya
      split at he'
      · cases he'
      split at he'
      · cases he'
      rename_i j' h' hrd
      split at he'
      rotate_left
      · cases he'
      rename_i fr hfin
      obtain ⟨fnI, ntI, tI, ops, i, rest, k, ds, h, o, cl, x, rfl, ho, hg, hop, hcl, hx, rfl⟩ := yieldAt_ok hya
      have hlen := round_len hrd
      obtain ⟨R, tmI, frs, TI, hkI, hfI, hcs, rfl⟩ := gam_run.1 Γ
      cases frs with
      | cons a b => exact absurd hcs (by simp [FrRels])
      | nil =>
      have hp : bB ρ fnI .normal = mkF fnI .normal := rfl
      have hev : ∀ z, (aB ρ .normal tmI ds).eval z = (evalA tI z).ev ρ := fun z => evalA_ev TI _ z
      have hxv : (aB ρ .normal tmI ds).eval x = yieldV l := by
        rw [hev, hx]
        simp only [AV.ev]
        exact hy
      have hargs : cl.args.map (aB ρ .normal tmI ds).eval = (AV.evs ρ (cl.args.toList.map (evalA tI))).toArray := evs_args TI _ _
      have hsz : cl.args.size = (stL r0 none).params.size := by
        show _ = r0.params.size
        rw [e3, ← hlen]; simp
      have step1 : Walk K.P main (DK K) (fun g' w' => (∃ d, w' = drawnAt w d) ∧ g' = G (Frame.round l (stL r0 none).fn (roundTmps (stL r0 none) (AV.evs ρ (cl.args.toList.map (evalA tI))).toArray) (stL r0 none).assign (stL r0 none).body .normal) ((bB ρ fnI .normal).atR (aB ρ .normal tmI ds) (.inRegion ops (i :: rest) :: k) :: F1 :: cs)) 0
          (G ((bB ρ fnI .normal).atR (aB ρ .normal tmI ds) (.inRegion ops (i :: rest) :: k)) ([] ++ F1 :: cs)) w := by
        refine (Walk.one rfl fun d => ?_).any
        rw [List.nil_append, stF_yield (w := drawnAt w d) rfl rfl ho hg hop hcl hxv L.loop hsz, hargs]
        refine ⟨⟨Keeps.refl _ _, fun e he => ?_, fun _ _ _ _ x => x⟩, ⟨d, rfl⟩, rfl⟩
        have := mem_seen he
        simp only [List.mem_toArray, List.mem_cons, List.not_mem_nil, or_false] at this
        rw [this]
        exact H.gd.obj l false false H.hl
      refine (Walk.trans (m := 0) (fun g1 w1 hx1 => ?_) step1).any
      obtain ⟨⟨d, rfl⟩, rfl⟩ := hx1
      have ha : AV.Ins U (cl.args.toList.map (evalA tI)) := Ins_iff.2 fun a hm => by
        obtain ⟨z, _, rfl⟩ := List.mem_map.1 hm
        exact evalA_in I.cur.tmps z
      have W1 := round_ok (cs := F1 :: cs) (cF := (bB ρ fnI .normal).atR (aB ρ .normal tmI ds) (.inRegion ops (i :: rest) :: k)) H hrd I.ids ht ha (R.drawn d) T hf (L.drawn d) rfl e1 e2 e3 e4 e5 hbt
      refine (Walk.trans (m := 0) (fun g2 w2 hx2 => ?_) W1).any
      obtain ⟨ρ2, A2, kp2, gr2, R2, L2, rfl⟩ := hx2
      obtain ⟨fn', nt', t', ops', i', rest', k', ds', kind', eq1, rfl⟩ := finishA_ok hfin
      simp only [AFrame.mk.injEq, List.cons.injEq, Item.inRegion.injEq] at eq1
      obtain ⟨rfl, rfl, rfl, ⟨⟨rfl, rfl, rfl⟩, rfl⟩, rfl, _, rfl⟩ := eq1
      have haB : aB ρ2 .normal tmI ds = aB ρ .normal tmI ds := aB_agree A2 .normal tmI I.cur.defers
      obtain ⟨tm', e, h1'⟩ := put_tmps (v := .bool (.lit (isNone? j'))) (TI.agree A2 I.cur.tmps) (dB ρ2 .normal (ds.map (AD.ev ρ2))) ((ops[i]?).bind (·.dst))
      have Γ2 : Gam (K.less D l) ρ2 ⟨⟨fnI, ntI, putA ntI tI ((ops[i]?).bind (·.dst)) (.bool (.lit (isNone? j'))), .inRegion ops rest :: k, ds, .run, .normal⟩, [], h'⟩ (F1 :: cs) (G (((bB ρ fnI .normal).atR (aB ρ .normal tmI ds) (.inRegion ops (i :: rest) :: k)).finish (.bool j'.isNone)) (F1 :: cs)) w2 :=
        gam_run.2 ⟨R2, tm', [], h1', .inl (.inl rfl), hfI, trivial, by
          have e2 : (aB ρ2 .normal tmI ds).put ((ops[i]?).bind (·.dst)) (.bool (isNone? j')) = ⟨tm', dB ρ2 .normal (ds.map (AD.ev ρ2))⟩ := e
          rw [Frame.finish_atR, ← haB, ← isNone?_eq, e2]
          rfl⟩
      have I2 : CIds (K.less D l) (plus U h.nb h'.nb) ⟨⟨fnI, ntI, putA ntI tI ((ops[i]?).bind (·.dst)) (.bool (.lit (isNone? j'))), .inRegion ops rest :: k, ds, .run, .normal⟩, [], h'⟩ :=
        ⟨⟨putA_in (TT.In.mono plus_sub I.cur.tmps) trivial TI.le, fun d hd => (I.cur.defers d hd).mono plus_sub, trivial⟩, (fun _ x => by cases x), gr2.ids⟩
      have W := ih he' I2 (TT.In.mono plus_sub ht) Γ2 (T.agree A2 ht) (by rw [A2.v]; exact hy) (by rw [A2.bt]; exact hbt) L2
      refine W.weaken fun g3 w3 hx3 => ?_
      obtain ⟨ρ3, v, A3, kp3, gr3, R3, L3, e3⟩ := hx3
      exact ⟨ρ3, v, A2.trans A3 plus_sub, ((keeps_drawn _ w d).trans kp2).trans kp3, gr2.trans gr3, R3, L3, e3⟩
    · split at he'
      · rename_i c1 hs
        obtain ⟨N, L1⟩ := step_ok Gd' F' H.ext H.call hs
        refine (Walk.trans (m := 0) (fun g1 w1 nx => ?_) ((L1 U ρ (F1 :: cs) _ w I Γ).lax less_dk)).any
        obtain ⟨ρ1, A1, kp1, gr1, I1, Γ1⟩ := nx
        have W := ih he' I1 (TT.In.mono plus_sub ht) Γ1 (T.agree A1 ht) (by rw [A1.v]; exact hy) (by rw [A1.bt]; exact hbt) (L.kept kp1)
        refine W.weaken fun g2 w2 hx => ?_
        obtain ⟨ρ2, v, A2, kp2, gr2, R2, L2, e⟩ := hx
        exact ⟨ρ2, v, A1.trans A2 plus_sub, (less_keeps kp1).trans kp2, gr1.trans gr2, R2, L2, e⟩
      · rename_i v h2 hs
        cases he'
        obtain ⟨N, E⟩ := step_ok Gd' F' H.ext H.call hs
        refine (Walk.trans (m := 0) (fun g1 w1 hd => ?_) ((E U ρ (F1 :: cs) _ w I Γ).lax less_dk)).any
        obtain ⟨ρ1, A1, kp1, gr1, hin, R1, ends⟩ := hd
        refine (Walk.weaken (fun g2 w2 hx => ?_) ((leave_step ends).lax less_dk)).any
        obtain ⟨⟨d, rfl⟩, rfl⟩ := hx
        exact ⟨ρ1, v.ev ρ1, A1, (less_keeps kp1).trans (keeps_drawn _ w1 d), gr1, R1.drawn d, (L.kept kp1).drawn d, rfl⟩
      · cases he'
      · cases he'

theorem Ids.less {U : Nat → Prop} {h : AH} (I : Ids K U h) : Ids (K.less D l) U h := ⟨I.hp, I.keys, I.nodup, I.fresh, I.orc⟩
theorem Ids.unless {U : Nat → Prop} {h : AH} (I : Ids (K.less D l) U h) : Ids K U h := ⟨I.hp, I.keys, I.nodup, I.fresh, I.orc⟩
theorem Grows.unless {U : Nat → Prop} {h h' : AH} (g : Grows (K.less D l) U h h') : Grows K U h h' := ⟨g.nb, g.lim, g.ids.unless⟩

/-- Into the loop: memory without its two objects. -/
theorem Rel.less {ρ : Env} {h : AH} {w w' : World} (R : Rel K ρ h w) (R' : Rel K ρ h w') (hD : w.heap.size ≤ D) (hl : w.heap.size ≤ l) (hD' : D < w'.heap.size) (hl' : l < w'.heap.size) : Rel (K.less D l) ρ h w' := by
  have hne : ∀ i b, findB i h.hp = some b → ρ.b i ≠ D ∧ ρ.b i ≠ l := fun i b hb => by
    obtain ⟨o, h1, _⟩ := R.blk i b hb
    have := heap_lt h1
    omega
  exact ⟨R'.blk, fun i b hb => (R'.own' i b hb).imp (fun x => ⟨x, hne i b hb⟩) id, R'.inj, R'.bs, R'.is, fun p hp => ⟨fun x => (R'.mem p hp).1 x.1, (R'.mem p hp).2⟩, fun n hn => ⟨R'.room n hn, by omega, by omega⟩, R'.lent, R'.low⟩

/-- Out of it. -/
theorem Rel.unless {U : Nat → Prop} {ρ ρ' : Env} {h h' : AH} {w w' : World} (R : Rel K ρ h w) (R' : Rel (K.less D l) ρ' h' w') (hO : K.O.In U) (hb : ∀ n, U n → ρ'.b n = ρ.b n) (hp : ρ'.p = ρ.p) (hi : ∀ n, U n → ρ'.i n = ρ.i n) (hs : w.heap.size ≤ w'.heap.size) : Rel K ρ' h' w' := by
  have hev : ∀ a : AA, a.In U → (a.ev ρ').block = (a.ev ρ).block := fun a ha => by
    have A : Agree U ρ { ρ' with v := ρ.v, bt := ρ.bt } := ⟨hp, rfl, rfl, hi, hb⟩
    have e1 := AA.ev_agree A ha
    have e2 : a.ev { ρ' with v := ρ.v, bt := ρ.bt } = a.ev ρ' := by
      obtain ⟨b, o⟩ := a
      have h1 : ∀ b : BR, b.ev { ρ' with v := ρ.v, bt := ρ.bt } = b.ev ρ' := fun b => by cases b <;> rfl
      have h2 : ∀ e : IE, e.ev { ρ' with v := ρ.v, bt := ρ.bt } = e.ev ρ' := fun e => by
        induction e with
        | lit n => rfl
        | var i => rfl
        | op o k a b iha ihb => simp only [IE.ev, iha, ihb]
        | conv k a ih => simp only [IE.ev, ih]
        | plus a b iha ihb => simp only [IE.ev, iha, ihb]
        | times a b iha ihb => simp only [IE.ev, iha, ihb]
        | tn a ih => simp only [IE.ev, ih]
      simp only [AA.ev, h1, h2]
    rw [← e2, e1]
  exact ⟨R'.blk, fun i b hb => (R'.own' i b hb).imp (fun x => x.1) id, R'.inj, R'.bs, R'.is, fun p hp' => ⟨by
    rw [hev p.1 (hO.mem p hp').1]; exact (R.mem p hp').1, (R'.mem p hp').2⟩, fun n hn => R.room n (Nat.le_trans hs hn), R'.lent, R'.low⟩

theorem jump_items (j : Option Code) : jumpItems j = (j.map Item.code).toList := by cases j <;> rfl

theorem Env.set_set (ρ : Env) (y : Nat) (v v' : Value) (b b' : Option Nat × List Deferred) : (ρ.set y v b).set y v' b' = ρ.set y v' b' := by
  simp only [Env.set]
  congr 1
  funext n
  by_cases h : n = y
  · simp [h]
  · simp [h]

theorem loopW_keeps {ρ : Env} {h : AH} {w : World} (R : Rel K ρ h w) (b : Frame) (a : Act) (ps : Array Tmp) (asg body : Code) : Rel K ρ h (loopW w b a ps asg body) ∧ Keeps K.own w (loopW w b a ps asg body) := by
  obtain ⟨R1, k1⟩ := R.push (.deferred (some []))
  obtain ⟨R2, k2⟩ := R1.push (.loop (loop0 b a ps asg body w.heap.size))
  exact ⟨R2, k1.trans k2⟩
theorem loopW_size (w : World) (b : Frame) (a : Act) (ps : Array Tmp) (asg body : Code) : (loopW w b a ps asg body).heap.size = w.heap.size + 2 := by simp [loopW]
theorem loopW_stays {S : Nat → Nat → Prop} (w : World) (b : Frame) (a : Act) (ps : Array Tmp) (asg body : Code) : Stays S w (loopW w b a ps asg body) := fun x n v _ hc => by
  have hlt : x < w.heap.size := by
    rcases Nat.lt_or_ge x w.heap.size with h' | h'
    · exact h'
    · simp [World.cell?, Array.getElem?_eq_none h'] at hc
  simp only [World.cell?, loopW] at hc ⊢
  rw [Array.getElem?_push_lt (by simp; omega), ← Array.getElem?_eq_getElem, Array.getElem?_push_lt hlt]
  rw [Array.getElem?_eq_getElem hlt] at hc
  exact hc
theorem loopW_lp (w : World) (b : Frame) (a : Act) (ps : Array Tmp) (asg body : Code) : Lp (loopW w b a ps asg body) w.heap.size (w.heap.size + 1) (loop0 b a ps asg body w.heap.size) := by
  refine ⟨?_, ?_⟩
  · show ((w.heap.push _).push _)[w.heap.size + 1]? = _
    have : w.heap.size + 1 = (w.heap.push (.deferred (some []))).size := by simp
    rw [this, Array.getElem?_push_size]
  · show ((w.heap.push _).push _)[w.heap.size]? = _
    rw [Array.getElem?_push_lt (by simp)]
    simp

theorem rf_ok (Gd : K.Good) (F : K.Facts) (X : ExtOk K ext) (X' : ∀ D l, ExtOk (K.less D l) ext) (C : CallOk K main call) (C' : ∀ D l, CallOk (K.less D l) main call) {n y : Nat} {f : FuncId} {args : List AV} {h : AH} {r : AE × AH} (hO : K.O.noq y = true)
    (he : rfCall? K.P K.O ext call n y f args h = .ok r) : ∃ fr N, enterA K.P f args .normal = .ok fr ∧ Ends K main ⟨fr, [], h⟩ r N := by
  unfold rfCall? at he
  split at he
  · cases he
  rename_i fr hen
  refine ⟨fr, 0, hen, ?_⟩
  split at he
  · cases he
  rename_i fn nt tmps todo ds0 mode0 kind0 callers0 h1 hu
  split at he
  rotate_left
  · cases he
  rename_i g ps asg body k
  split at he
  rotate_left
  · cases he
  rename_i gf caps hg
  split at he
  · cases he
  rename_i hc
  simp only [Bool.and_eq_true] at hc
  obtain ⟨hc1, hc2, hc3, hc4⟩ := hc
  split at he
  · cases he
  rename_i rfr hen2
  split at he
  · cases he
  rename_i j h2 hit
  obtain ⟨s1, b1, N1, L1⟩ := upTo_ok (main := main) Gd F X C hu
  unfold atRF at s1
  split at s1
  rotate_left
  · cases s1
  rename_i fnx ntx tx gx psx asgx bodyx kx hx hceq
  simp only [ACfg.mk.injEq, AFrame.mk.injEq, List.cons.injEq, Item.code.injEq, Code.rangeFunc.injEq] at hceq
  obtain ⟨⟨rfl, rfl, rfl, ⟨⟨rfl, rfl, rfl, rfl⟩, rfl⟩, rfl, rfl, rfl⟩, rfl, rfl⟩ := hceq
  unfold tail? at he
  split at he
  · cases he
  rename_i c5 hu5
  split at he
  · cases he
  rename_i v hres
  split at he
  rotate_left
  · cases he
  rename_i hnq
  cases he
  simp only [Bool.and_eq_true] at hnq
  intro U ρ cs g0 w I Γ
  refine (Walk.trans (m := 0) (fun g1 w1 nx => ?_) (L1 U ρ cs g0 w I Γ)).any
  obtain ⟨ρ1, A1, kp1, gr1, I1, Γ1⟩ := nx
  obtain ⟨R1, tm1, frs, T1, _, hf1, hcs, rfl⟩ := gam_run.1 Γ1
  cases frs with
  | cons a b => exact absurd hcs (by simp [FrRels])
  | nil =>
  have Dl : w1.heap.size ≠ w1.heap.size + 1 := by omega
  have H : Hyp K main ext call w1.heap.size (w1.heap.size + 1) := ⟨Gd, F, X' _ _, C' _ _, R1.room _ (Nat.le_refl _), R1.room _ (Nat.le_succ _), Dl⟩
  have hl : H = H := rfl
  generalize hlv : w1.heap.size + 1 = l at *
  generalize hDv : w1.heap.size = D at *
  have Gd' := less_good (D := D) (l := l) Gd
  have F' : (K.less D l).Facts := ⟨F.fns, F.ext, F.mixed⟩
  have hfn : fnOk K.P gf = true := List.all_eq_true.1 F.fns gf (by simpa using hc1)
  have hcap : (evalA tmps g).ev ρ1 = .func (.func gf) #[] (AV.evs ρ1 caps).toArray := by rw [hg]; simp only [AV.ev, AV.evs]
  have hev : Act.eval ⟨tm1, []⟩ g = .func (.func gf) #[] (AV.evs ρ1 caps).toArray := by rw [evalA_ev T1 [] g, hcap]
  have step1 : Walk K.P main (DK K) (fun g' w' => (∃ d, w' = loopW (drawnAt w1 d) (mkF fn .normal) ⟨tm1, []⟩ ps asg body) ∧ g' = G (Frame.enter K.P gf (#[yieldV l] ++ (AV.evs ρ1 caps).toArray) .normal) ((mkF fn .normal).atR ⟨tm1, [{ target := .collected D, args := #[] }]⟩ (.inRangeFunc l :: k) :: cs)) 0
      (G ((bB ρ1 fn .normal).atR (aB ρ1 .normal tm1 []) (.code (.rangeFunc g ps asg body) :: k)) ([] ++ cs)) w1 := by
    refine (Walk.one rfl fun d => ?_).any
    have e : stepG K.P main (G ((bB ρ1 fn .normal).atR (aB ρ1 .normal tm1 []) (.code (.rangeFunc g ps asg body) :: k)) ([] ++ cs)) (drawnAt w1 d) = .go (G (Frame.enter K.P gf (#[yieldV l] ++ (AV.evs ρ1 caps).toArray) .normal) ((mkF fn .normal).atR ⟨tm1, [{ target := .collected D, args := #[] }]⟩ (.inRangeFunc l :: k) :: cs)) (loopW (drawnAt w1 d) (mkF fn .normal) ⟨tm1, []⟩ ps asg body) #[] := by
      have := stF_range (P := K.P) (main := main) (b := mkF fn .normal) (a := ⟨tm1, []⟩) (k := k) (cs := cs) (w := drawnAt w1 d) (ps := ps) (asg := asg) (body := body) rfl rfl hev hfn
      rw [show (drawnAt w1 d).heap.size = D from hDv, hlv] at this
      exact this
    rw [e]
    exact ⟨⟨(loopW_keeps (R1.drawn d) _ _ _ _ _).2, (fun e he => by simp at he), loopW_stays _ _ _ _ _ _⟩, ⟨d, rfl⟩, rfl⟩
  refine (Walk.trans (m := 0) (fun g2 w2 hx => ?_) step1).any
  obtain ⟨⟨d, rfl⟩, rfl⟩ := hx
  have lk := loopW_keeps (R1.drawn d) (mkF fn .normal) ⟨tm1, []⟩ ps asg body
  have hsz := loopW_size (drawnAt w1 d) (mkF fn .normal) ⟨tm1, []⟩ ps asg body
  have hsz1 : (drawnAt w1 d).heap.size = D := hDv
  have L2 := loopW_lp (drawnAt w1 d) (mkF fn .normal) ⟨tm1, []⟩ ps asg body
  rw [hsz1, show D + 1 = l by omega] at L2
  generalize hw2 : loopW (drawnAt w1 d) (mkF fn .normal) ⟨tm1, []⟩ ps asg body = w2 at *
  have R2 : Rel (K.less D l) (ρ1.set y (yieldV l) (some l, [])) h1 w2 := ((R1.drawn d).less lk.1 (by omega) (by omega) (by omega) (by omega)).set (.inr ⟨hc4, hO⟩)
  have T2 : TmpR (ρ1.set y (yieldV l) (some l, [])) nt tmps tm1 := T1.set (.inr hc2)
  have hcin : AV.Ins (plus U h.nb h1.nb) caps := by
    have := evalA_in (U := plus U h.nb h1.nb) I1.cur.tmps g
    rw [hg] at this
    exact this.2
  obtain ⟨e1, e2, e3, e4, e5⟩ := enterA_ok hen2 (.inl rfl) (show AV.Ins (plus U h.nb h1.nb) (.opq y :: caps) from ⟨trivial, hcin⟩) (ρ := ρ1.set y (yieldV l) (some l, []))
  have hargs : (AV.evs (ρ1.set y (yieldV l) (some l, [])) (.opq y :: caps)).toArray = #[yieldV l] ++ (AV.evs ρ1 caps).toArray := by
    have h1 : (ρ1.set y (yieldV l) (some l, [])).v y = yieldV l := by simp [Env.set]
    simp only [AV.evs, AV.ev, h1, AV.evs_set caps (.inr hc3)]
    simp
  rw [hargs] at e1
  have W := iter_ok (cs := cs) (F1 := (mkF fn .normal).atR ⟨tm1, [{ target := .collected D, args := #[] }]⟩ (.inRangeFunc l :: k)) (r0 := loop0 (mkF fn .normal) ⟨tm1, []⟩ ps asg body D) H rfl rfl rfl rfl rfl hf1 hit
    (U := plus U h.nb h1.nb) (ρ := ρ1.set y (yieldV l) (some l, [])) (w := w2) ⟨e2, (fun _ x => by cases x), I1.ids.less⟩ I1.cur.tmps ⟨R2, _, [], e1, trivial, rfl⟩ T2 (by simp [Env.set]) rfl L2
  refine (Walk.trans (m := 0) (fun g3 w3 hx => ?_) W).any
  obtain ⟨ρ3, v3, A3, kp3, gr3, R3, L3, rfl⟩ := hx
  have step2 : Walk K.P main (DK K) (fun g' w' => (∃ d, w' = setW (drawnAt w3 d) l (.loop { stL (loop0 (mkF fn .normal) ⟨tm1, []⟩ ps asg body D) j with state := .exhausted })) ∧ g' = G ((mkF fn .normal).atR ⟨tm1, [{ target := .collected D, args := #[] }]⟩ (jumpItems j ++ k)) cs) 0
      (G (((mkF fn .normal).atR ⟨tm1, [{ target := .collected D, args := #[] }]⟩ (.inRangeFunc l :: k)).finish v3) cs) w3 := by
    refine (Walk.one rfl fun d => ?_).any
    have e : ((mkF fn .normal).atR ⟨tm1, [{ target := .collected D, args := #[] }]⟩ (.inRangeFunc l :: k)).finish v3 = (mkF fn .normal).atR ⟨tm1, [{ target := .collected D, args := #[] }]⟩ (.endRangeFunc l :: k) := rfl
    rw [e, stF_end (w := drawnAt w3 d) L3.loop (by cases j <;> (intro x; cases x))]
    refine ⟨dk_setW Gd H.hl L3.loop trivial, ⟨d, rfl⟩, ?_⟩
    rw [jump_items]
    rfl
  refine (Walk.trans (m := 0) (fun g4 w4 hx => ?_) step2).any
  obtain ⟨⟨d2, rfl⟩, rfl⟩ := hx
  have R4 : Rel (K.less D l) (ρ3.set y (ρ3.v y) (none, [{ target := .collected D, args := #[] }])) h2 (setW (drawnAt w3 d2) l (.loop { stL (loop0 (mkF fn .normal) ⟨tm1, []⟩ ps asg body D) j with state := .exhausted })) :=
    ((R3.drawn d2).setW L3.loop trivial).set (.inl rfl)
  have L4 : Lp (setW (drawnAt w3 d2) l (.loop { stL (loop0 (mkF fn .normal) ⟨tm1, []⟩ ps asg body D) j with state := .exhausted })) D l { stL (loop0 (mkF fn .normal) ⟨tm1, []⟩ ps asg body D) j with state := .exhausted } :=
    ⟨setW_eq L3.loop, by rw [setW_ne H.ne]; exact L3.dfr⟩
  have kp4 : Keeps K.own w3 (setW (drawnAt w3 d2) l (.loop { stL (loop0 (mkF fn .normal) ⟨tm1, []⟩ ps asg body D) j with state := .exhausted })) := (keeps_drawn _ w3 d2).trans (keeps_setW H.hl)
  generalize hw4 : setW (drawnAt w3 d2) l (.loop { stL (loop0 (mkF fn .normal) ⟨tm1, []⟩ ps asg body D) j with state := .exhausted }) = w4 at *
  have T4 : TmpR (ρ3.set y (ρ3.v y) (none, [{ target := .collected D, args := #[] }])) nt tmps tm1 := (T2.agree A3 I1.cur.tmps).set (.inl rfl)
  have I4 : CIds (K.less D l) (plus (plus U h.nb h1.nb) h1.nb h2.nb) ⟨⟨fn, nt, tmps, jumpItems j ++ k, [], .run, .wrapped⟩, [], h2⟩ := ⟨⟨TT.In.mono plus_sub I1.cur.tmps, (fun _ x => by cases x), trivial⟩, (fun _ x => by cases x), gr3.ids⟩
  have Γ4 : Gam (K.less D l) (ρ3.set y (ρ3.v y) (none, [{ target := .collected D, args := #[] }])) ⟨⟨fn, nt, tmps, jumpItems j ++ k, [], .run, .wrapped⟩, [], h2⟩ cs (G ((mkF fn .normal).atR ⟨tm1, [{ target := .collected D, args := #[] }]⟩ (jumpItems j ++ k)) cs) w4 :=
    gam_run.2 ⟨R4, tm1, [], T4, .inr rfl, hf1, trivial, rfl⟩
  obtain ⟨s5, b5, N5, L5⟩ := upTo_ok (K := K.less D l) (main := main) Gd' F' (X' D l) (C' D l) hu5
  refine (Walk.trans (m := 0) (fun g5 w5 nx => ?_) ((L5 _ _ cs _ _ I4 Γ4).lax less_dk)).any
  obtain ⟨ρ5, A5, kp5, gr5, I5, Γ5⟩ := nx
  have Lw5 := L4.kept kp5
  obtain ⟨⟨fn5, nt5, t5, todo5, ds5, mode5, kind5⟩, callers5, h5⟩ := c5
  have hb5 : ρ5.bt = (none, [{ target := .collected D, args := #[] }]) := A5.bt
  dsimp only at hres hnq
  obtain ⟨f', hf', hin, hrun⟩ := results?_ok Gd hres
  have tail : (callers5 = [] ∧ ds5 = [] ∧ mode5 = .run ∧ kind5 = .wrapped ∧ (todo5 = [] ∨ ∃ k5, todo5 = .code .ret :: k5)) := by
    unfold atTail at s5
    split at s5
    · rename_i e
      cases e
      exact ⟨rfl, rfl, rfl, rfl, .inl rfl⟩
    · rename_i e
      cases e
      exact ⟨rfl, rfl, rfl, rfl, .inr ⟨_, rfl⟩⟩
    · cases s5
  obtain ⟨rfl, rfl, rfl, rfl, htd⟩ := tail
  obtain ⟨R5, tm5, frs, T5, _, hf5, hcs5, rfl⟩ := gam_run.1 Γ5
  cases frs with
  | cons a b => exact absurd hcs5 (by simp [FrRels])
  | nil =>
  have hro : (bB ρ5 fn5 .wrapped).roundOf = none := by show ρ5.bt.1 = none; rw [hb5]
  have hdf : (aB ρ5 .wrapped tm5 []).defers = [{ target := .collected D, args := #[] }] := by show [] ++ ρ5.bt.2 = _; rw [hb5]; rfl
  have step3 : Walk K.P main (DK K) (fun g' w' => (∃ d, w' = drawnAt w5 d) ∧ g' = G { (bB ρ5 fn5 .wrapped).atR (aB ρ5 .wrapped tm5 []) todo5 with mode := .returning } cs) 0
      (G ((bB ρ5 fn5 .wrapped).atR (aB ρ5 .wrapped tm5 []) todo5) ([] ++ cs)) w5 := by
    refine (Walk.one rfl fun d => ?_).any
    have e : stepG K.P main (G ((bB ρ5 fn5 .wrapped).atR (aB ρ5 .wrapped tm5 []) todo5) ([] ++ cs)) (drawnAt w5 d) = .go (G { (bB ρ5 fn5 .wrapped).atR (aB ρ5 .wrapped tm5 []) todo5 with mode := .returning } cs) (drawnAt w5 d) #[] := by
      rcases htd with rfl | ⟨k5, rfl⟩
      · exact stR_end hro
      · exact stR_ret hro
    rw [e]
    exact ⟨⟨Keeps.refl _ _, (fun e he => by simp at he), fun _ _ _ _ x => x⟩, ⟨d, rfl⟩, rfl⟩
  refine (Walk.trans (m := 0) (fun g6 w6 hx => ?_) step3).any
  obtain ⟨⟨d6, rfl⟩, rfl⟩ := hx
  have Lw6 := Lw5.drawn d6
  have R6 := R5.drawn d6
  have kp6 : Keeps K.own w5 (drawnAt w5 d6) := keeps_drawn _ w5 d6
  generalize hw6 : drawnAt w5 d6 = w6 at *
  refine (Walk.one rfl fun d7 => ?_).any
  rw [stF_take (w := drawnAt w6 d7) rfl hdf (Lw6.drawn d7).dfr]
  refine ⟨dk_setW Gd H.hD (Lw6.drawn d7).dfr trivial, ?_⟩
  have R7 := (R6.drawn d7).setW (r := D) (o := .deferred none) (Lw6.drawn d7).dfr trivial
  have kp7 : Keeps K.own w6 (setW (drawnAt w6 d7) D (.deferred none)) := (keeps_drawn _ w6 d7).trans (keeps_setW H.hD)
  have kpA : Keeps K.own w1 (setW (drawnAt w6 d7) D (.deferred none)) := ((((((keeps_drawn _ w1 d).trans lk.2).trans kp3).trans kp4).trans (less_keeps kp5)).trans kp6).trans kp7
  have hsub : ∀ n, plus U h.nb h1.nb n → plus (plus (plus U h.nb h1.nb) h1.nb h2.nb) h2.nb h5.nb n := fun n hn => .inl (.inl hn)
  have hib : ∀ n, plus U h.nb h1.nb n → ρ5.i n = ρ1.i n ∧ ρ5.b n = ρ1.b n := fun n hn => ⟨(A5.i n (.inl hn)).trans (A3.i n hn), (A5.b n (.inl hn)).trans (A3.b n hn)⟩
  have hp5 : ρ5.p = ρ1.p := A5.p.trans A3.p
  have R8 : Rel K ρ5 h5 (setW (drawnAt w6 d7) D (.deferred none)) := R1.unless R7 I1.ids.orc (fun n hn => (hib n hn).2) hp5 (fun n hn => (hib n hn).1) kpA.size
  have hv5 : ∀ n, n ≠ y → ρ5.v n = ρ.v n := fun n hn => by
    have a5 : ρ5.v = (ρ3.set y (ρ3.v y) (none, [{ target := .collected D, args := #[] }])).v := A5.v
    have a3 : ρ3.v = (ρ1.set y (yieldV l) (some l, [])).v := A3.v
    rw [a5]
    simp only [Env.set, if_neg hn]
    rw [a3]
    simp only [Env.set, if_neg hn]
    rw [A1.v]
  have A8 : Agree U ρ (ρ5.set y (ρ.v y) ρ.bt) := by
    refine ⟨hp5.trans A1.p, ?_, rfl, fun n hn => ((hib n (.inl hn)).1).trans (A1.i n hn), fun n hn => ((hib n (.inl hn)).2).trans (A1.b n hn)⟩
    funext n
    show (if n = y then ρ.v y else ρ5.v n) = ρ.v n
    by_cases hn : n = y
    · rw [if_pos hn, hn]
    · rw [if_neg hn, hv5 n hn]
  have gr8 : Grows K U h h5 := gr1.trans (gr3.unless.trans gr5.unless)
  have hvin : v.In (plus U h.nb h5.nb) := AV.In.mono (fun n hn => by
    have := (plus_plus (U := plus U h.nb h1.nb) gr3.nb gr5.nb n).1 hn
    exact (plus_plus gr1.nb (Nat.le_trans gr3.nb gr5.nb) n).1 this) _ (hin I5.ids.unless I5.cur.tmps)
  have hve : v.ev (ρ5.set y (ρ.v y) ρ.bt) = v.ev ρ5 := AV.ev_set v (.inr hnq.1)
  refine ⟨ρ5.set y (ρ.v y) ρ.bt, A8, kp1.trans kpA, gr8, hvin, R8.set (.inr ⟨hnq.2, hO⟩), _, f', rfl, ?_, rfl, hf', rfl, rfl, fun d8 Q hq => ?_⟩
  · have h1 : fn5 = fn := b5
    have h2 : fn = fr.fn := b1
    show fn5 = fr.fn
    rw [h1, h2]
  · rw [hve] at hq
    exact hrun (R8.drawn d8) T5 hq
end

/-- As summaries, in every context. -/
theorem rfSum_ok {P : Program} {O : Orc} {ext : Ext} {sum : Sums} {n y : Nat} {fs : List FuncId} (hO : O.noq y = true) (facts : ∀ own Ev lock still, (⟨P, O, own, Ev, lock, still⟩ : Ctx).Facts) (hx : ∀ own Ev lock still, (⟨P, O, own, Ev, lock, still⟩ : Ctx).Good → ExtOk ⟨P, O, own, Ev, lock, still⟩ ext)
    (hs : ∀ own Ev lock still main, (⟨P, O, own, Ev, lock, still⟩ : Ctx).Good → SumOk ⟨P, O, own, Ev, lock, still⟩ main sum) :
    ∀ own Ev lock still main, (⟨P, O, own, Ev, lock, still⟩ : Ctx).Good → SumOk ⟨P, O, own, Ev, lock, still⟩ main (rfSum P O ext sum n y fs) := by
  intro own Ev lock still main Gd f args h r he
  unfold rfSum at he
  split at he
  rotate_left
  · cases he
  have he2 := Option.some.inj he
  have cOk : ∀ own', (⟨P, O, own', Ev, lock, still⟩ : Ctx).Good → CallOk ⟨P, O, own', Ev, lock, still⟩ main (fun g args h => match sum g args h with
      | some r => r
      | none => match enterA P g args .normal with
        | .ok fr => run? P O ext sum n ⟨fr, [], h⟩
        | .error e => .error e) := fun own' G' =>
    callOk_of (K := ⟨P, O, own', Ev, lock, still⟩) (main := main) (hs _ _ _ _ _ G') (k := run? P O ext sum n) (run_ok G' (facts _ _ _ _) (hx _ _ _ _ G') (hs _ _ _ _ _ G'))
  exact rf_ok (K := ⟨P, O, own, Ev, lock, still⟩) Gd (facts _ _ _ _) (hx _ _ _ _ Gd) (fun D l => hx _ _ _ _ (less_good Gd)) (cOk _ Gd) (fun D l => cOk _ (less_good Gd)) hO he2
end Go.Proofs.YtmnahfonnljobaaGreatDoor.SX

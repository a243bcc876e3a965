/-
  A run of one goroutine alone: a contract.
-/
import Derived.Test.YtcpiafgkmakdiaaSxStep5
import Derived.Calls
set_option linter.unusedSectionVars false
set_option linter.unusedVariables false
set_option linter.unusedSimpArgs false
namespace Go.Proofs.Ytcpiafgkmakdiaa.SX
open Go.Conc

def loneG (g : Goroutine) (w : World) : Machine := { world := w, gs := #[g], rest := { timers := #[], alone := none, slice := none } }

theorem move_loneG {P : Program} {g : Goroutine} {w : World} (h : g.status = .running) : move P (loneG g w) = .goroutine (loneG g w) 0 := by
  simp [move, ask, askOn, loneG, runnable_eq, due, ahead, Goroutine.canRun, h, List.range_succ, choose, pure, Sem.run, Question.forced]

theorem step_loneG {P : Program} {g g' : Goroutine} {w w' : World} {es : Array Event} (h : g.status = .running) (hs : stepG P true g w = .go g' w' es) : step P (loneG g w) = .next (loneG g' w') := by
  rw [step, stepT, move_loneG h]
  simp [runT, loneG, Array.swapAt!, hs]

theorem walk_steps {P : Program} {D : World → World → Array Event → Prop} {S : Goroutine → World → Prop} {n : Nat} {g : Goroutine} {w : World} (h : Walk P true D S n g w) : ∃ g' w', Steps P (loneG g w) (loneG g' w') ∧ S g' w' := by
  change WalkI P true D S g w at h
  induction h with
  | stop g w hs => exact ⟨g, w, .refl _ _, hs⟩
  | step g w g' w' es hr hs hd hw ih =>
    obtain ⟨g2, w2, h1, h2⟩ := ih w.drawn
    exact ⟨g2, w2, .head (step_loneG hr (hs w.drawn)) h1, h2⟩

/-- What a call comes to. -/
def Came (K : Ctx) (U : Nat → Prop) (ρ : Env) (w : World) (r : AE × AH) (e : Ending) (w' : World) : Prop :=
  ∃ ρ', Agree U ρ ρ' ∧ Keeps K.own w w' ∧ Rel K ρ' r.2 w' ∧ match r.1 with
    | .returned v => e = .returned (v.ev ρ')
    | .panicked chain => e = .panicked (chain.map fun x => { v := x.1.ev ρ', recovered := x.2 })

theorem calls_ok {K : Ctx} (Gd : K.Good) (F : K.Facts) {ext : Ext} (X : ExtOk K ext) {sum : Sums} (Z : SumOk K true sum) {n : Nat} {f : FuncId} {args : List AV} {h : AH} {r : AE × AH} (he : call? K.P K.O ext sum n f args h = .ok r)
    {U : Nat → Prop} {ρ : Env} {w : World} (I : Ids K U h) (ha : AV.Ins U args) (R : Rel K ρ h w) : Calls K.P f (AV.evs ρ args).toArray w (Came K U ρ w r) := by
  intro cs
  obtain ⟨fr, N, hen, E⟩ := call_ok (main := true) Gd F X Z he
  obtain ⟨e1, e2, e3, e4, e5⟩ := enterA_ok hen (.inl rfl) ha (ρ := ρ)
  have W := E U ρ cs (G (Frame.enter K.P f (AV.evs ρ args).toArray .normal) cs) w ⟨e2, fun _ x => by (simp at x), I⟩ ⟨R, _, [], e1, trivial, rfl⟩
  obtain ⟨g', w', st, ρ', A, kp, gr, hin, R', ends⟩ := walk_steps W
  obtain ⟨fr', fn', rfl, hfn, hd, hf, hm⟩ := ends
  have hb : fr'.fn = f := by rw [hfn]; exact e4
  cases hr : r.1 with
  | returned v =>
    rw [hr] at hm
    obtain ⟨m1, m2, m3⟩ := hm
    refine ⟨.returned (v.ev ρ'), w', fr', ⟨ρ', A, kp, R', by rw [hr]⟩, st, hb, m1, hd, m2, fn', hf, ?_⟩
    have := (wq_run (m3 w'.drawn (Q := fun x w2 => x = v.ev ρ' ∧ w2 = w') ⟨rfl, rfl⟩)).1
    have hw : drawnAt w' w'.drawn = w' := rfl
    rw [hw] at this
    generalize hrr : (results fn' fr'.tmps).run K.P w' = q at this
    cases q with
    | ok x w2 => obtain ⟨rfl, rfl⟩ := this; rfl
    | halt x w2 => cases x <;> exact this.elim
  | panicked chain =>
    rw [hr] at hm
    have hm' : fr'.mode = .panicking (chain.map fun x => { v := x.1.ev ρ', recovered := x.2 }) := hm
    exact ⟨.panicked (chain.map fun x => { v := x.1.ev ρ', recovered := x.2 }), w', fr', ⟨ρ', A, kp, R', by rw [hr]⟩, st, hb, hm', hd, fn', hf⟩

end Go.Proofs.Ytcpiafgkmakdiaa.SX

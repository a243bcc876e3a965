/-
  The steps of a frame that runs.
-/
import Derived.Test.YtcpiafgkmakdiaaSxStep1
set_option linter.unusedSectionVars false
set_option linter.unusedVariables false
set_option linter.unusedSimpArgs false
namespace Go.Proofs.Ytcpiafgkmakdiaa.SX
open Go.Conc

section
variable {K : Ctx} {main : Bool} {U : Nat → Prop} {ρ : Env} {cs : List Frame}
variable {fn : FuncId} {nt : Nat} {tmps : TT} {todo todo' : List Item} {defers : List AD} {kind : CallKind} {callers : List AFrame} {h : AH}
variable {ops : Array Oper} {i : Nat} {rest : List Nat} {k : List Item} {o : Oper}

theorem finishA_ok {fr : AFrame} {v : AV} {fr' : AFrame} (hf : finishA fr v = .ok fr') : ∃ fn nt tmps ops i rest k defers kind, fr = ⟨fn, nt, tmps, .inRegion ops (i :: rest) :: k, defers, .run, kind⟩ ∧
    fr' = ⟨fn, nt, putA nt tmps ((ops[i]?).bind (·.dst)) v, .inRegion ops rest :: k, defers, .run, kind⟩ := by
  unfold finishA at hf
  split at hf
  · cases hf; exact ⟨_, _, _, _, _, _, _, _, _, rfl, rfl⟩
  · cases hf

theorem undefA_in : undefA.In U := by simp [undefA, AV.In, AV.Ins]
theorem undefA_ev : undefA.ev ρ = undef := rfl

/-- A yield that goes to its place. -/
theorem next_put {w w' : World} {h' : AH} {ρ' : Env} {v : AV} {tm : Array Value} {frs : List Frame} {ds : List AD} {callers' : List AFrame} {dst : Option Tmp}
    (A : Agree U ρ ρ') (kp : Keeps K.own w w') (R : Rel K ρ' h' w') (gr : Grows K U h h') (hv : v.In (plus U h.nb h'.nb)) (ht : tmps.In U) (hd : ∀ d ∈ ds, d.In (plus U h.nb h'.nb)) (hcal : ∀ fr ∈ callers', fr.In (plus U h.nb h'.nb))
    (h1 : TmpR ρ' nt tmps tm) (h2 : kind = .normal ∨ kind = .deferred) (h3 : ∃ f, K.P.funcs[fn]? = some f) (hc : FrRels K.P ρ' callers' frs) :
    Next K U ρ cs w h ⟨⟨fn, nt, putA nt tmps dst v, .inRegion ops rest :: k, ds, .run, kind⟩, callers', h'⟩ (G ((mkF fn kind).at ((⟨tm, ds.map (AD.ev ρ')⟩ : Act).put dst (v.ev ρ')) (.inRegion ops rest :: k)) (frs ++ cs)) w' := by
  obtain ⟨tm', e, h1'⟩ := put_tmps (v := v) h1 (ds.map (AD.ev ρ')) dst
  refine ⟨ρ', A, kp, gr, ⟨⟨putA_in (TT.In.mono plus_sub ht) hv h1.le, hd, trivial⟩, hcal, gr.ids⟩, gam_run.2 ⟨R, tm', frs, h1', h2, h3, hc, ?_⟩⟩
  rw [← e]

def RecIs (P : Program) (U : Nat → Prop) (ρ : Env) (cs : List Frame) (fr : Frame) (frs : List Frame) : Option (AV × List AFrame) → Prop
  | some (v, callers') => v.In U ∧ (∀ fr ∈ callers', fr.In U) ∧ ∃ frs', tryRecover fr (frs ++ cs) = some (v.ev ρ, frs' ++ cs) ∧ FrRels P ρ callers' frs'
  | none => tryRecover fr (frs ++ cs) = none

theorem tryRecover_ok {P : Program} {fr : Frame} {frs : List Frame} {r : Option (AV × List AFrame)} (hk : fr.kind = kind) (hr : recoverA kind callers = .ok r) (hc : FrRels P ρ callers frs) (hcal : ∀ fr ∈ callers, fr.In U) :
    RecIs P U ρ cs fr frs r := by
  cases kind with
  | normal =>
    cases hr
    show tryRecover _ _ = none
    simp [tryRecover, hk]
  | deferred =>
    cases callers with
    | nil => cases hr
    | cons c tail =>
      obtain ⟨fn, nt, tmps, todo, defers, mode, kd⟩ := c
      cases frs with
      | nil => simp only [FrRels] at hc
      | cons f frs =>
        simp only [FrRels] at hc
        obtain ⟨⟨tm, td', is, rfl⟩, hc2⟩ := hc
        have other : r = none → (match mode.ev ρ with | .panicking ({ v, recovered := false, goexit := false } :: older) => False | _ => True) → RecIs P U ρ cs fr (frameOf ρ ⟨fn, nt, tmps, todo, defers, mode, kd⟩ tm td' :: frs) r := by
          intro h1 h2
          subst h1
          show tryRecover _ _ = none
          simp only [tryRecover, hk, List.cons_append]
          have : (frameOf ρ ⟨fn, nt, tmps, todo, defers, mode, kd⟩ tm td').mode = mode.ev ρ := rfl
          rw [this]
          revert h2
          generalize mode.ev ρ = m
          split
          · exact False.elim
          · rename_i hne
            intro _
            split
            · rename_i v older; exact absurd rfl (hne v older)
            · rfl
        cases mode with
        | run => cases hr; exact other rfl trivial
        | returning => cases hr; exact other rfl trivial
        | panicking chain =>
          cases chain with
          | nil => cases hr; exact other rfl trivial
          | cons x older =>
            obtain ⟨v, b'⟩ := x
            cases b' with
            | true => cases hr; exact other rfl trivial
            | false =>
              cases hr
              have hin := hcal _ (List.mem_cons_self ..)
              have hm : ∀ x ∈ (v, false) :: older, x.1.In U := hin.mode
              refine ⟨hm _ (List.mem_cons_self ..), ?_, { frameOf ρ ⟨fn, nt, tmps, todo, defers, .panicking ((v, true) :: older), kd⟩ tm td' with mode := (AMode.panicking ((v, true) :: older)).ev ρ } :: frs, ?_, ⟨tm, td', ⟨is.tmps, is.kind, (fun x => by cases x), is.fn⟩, rfl⟩, hc2⟩
              · intro fr hfr
                rcases List.mem_cons.1 hfr with rfl | hfr
                · refine ⟨hin.tmps, hin.defers, ?_⟩
                  intro x hx
                  rcases List.mem_cons.1 hx with rfl | hx
                  · exact hm (v, false) (List.mem_cons_self ..)
                  · exact hm x (List.mem_cons_of_mem _ hx)
                · exact hcal fr (List.mem_cons_of_mem _ hfr)
              · simp only [tryRecover, hk, List.cons_append, frameOf, AMode.ev, List.map_cons]
  | _ => cases hr

theorem upon_next {n : AN} {h' : AH} {c' : ACfg} {w w' : World} {g' : Goroutine} (hu : upon K.P ⟨fn, nt, tmps, .inRegion ops (i :: rest) :: k, defers, .run, kind⟩ callers n h' = .ok c') (ho : ops[i]? = some o)
    (I : CIds K U ⟨⟨fn, nt, tmps, .inRegion ops (i :: rest) :: k, defers, .run, kind⟩, callers, h⟩) (post : OpPost K U ρ cs w fn nt tmps defers kind callers h o.dst ops i rest k n h' g' w') : Next K U ρ cs w h c' g' w' := by
  obtain ⟨ρ', A, kp, R, gr, mem, tm, frs, h1, h2, h3, hc, ng⟩ := post
  have hd : ∀ d ∈ defers, d.In (plus U h.nb h'.nb) := fun d hd => (I.cur.defers d hd).mono plus_sub
  have hcal : ∀ fr ∈ callers, fr.In (plus U h.nb h'.nb) := fun fr hf => (I.callers fr hf).mono plus_sub
  cases n with
  | value v =>
    simp only [upon, finishA, ho] at hu
    cases hu
    have ng' : g' = _ := ng
    rw [ng']
    exact next_put A kp R gr mem I.cur.tmps hd hcal h1 h2 h3 hc
  | skip =>
    simp only [upon, finishA, ho] at hu
    cases hu
    have ng' : g' = _ := ng
    rw [ng']
    exact next_put (v := undefA) A kp R gr undefA_in I.cur.tmps hd hcal h1 h2 h3 hc
  | defer d =>
    simp only [upon, finishA, ho] at hu
    cases hu
    have ng' : g' = _ := ng
    rw [ng']
    refine next_put (v := undefA) (ds := d :: defers) A kp R gr undefA_in I.cur.tmps ?_ hcal h1 h2 h3 hc
    intro x hx
    rcases List.mem_cons.1 hx with rfl | hx
    · exact mem
    · exact hd x hx
  | enter f args =>
    simp only [upon] at hu
    split at hu
    · rename_i fr' he
      cases hu
      have ng' : g' = _ := ng
      rw [ng']
      obtain ⟨e1, e2, e3, e4, e5⟩ := enterA_ok he (.inl rfl) mem (ρ := ρ')
      refine ⟨ρ', A, kp, gr, ⟨e2, ?_, gr.ids⟩, R, _, (mkF fn kind).at ⟨tm, defers.map (AD.ev ρ')⟩ (.inRegion ops (i :: rest) :: k) :: frs, e1, ⟨⟨tm, _, ⟨h1, h2, fun _ => rfl, h3⟩, rfl⟩, hc⟩, rfl⟩
      intro fr hfr
      rcases List.mem_cons.1 hfr with rfl | hfr
      · exact I.cur.mono plus_sub
      · exact hcal fr hfr
    · cases hu
  | recover =>
    simp only [upon, finishA, ho] at hu
    have ng' : g' = _ := ng
    rw [ng']
    split at hu
    · cases hu
    · rename_i v callers' hr
      cases hu
      obtain ⟨t1, t2, frs', t3, t4⟩ := tryRecover_ok (cs := cs) (fr := (mkF fn kind).at ⟨tm, defers.map (AD.ev ρ')⟩ (.inRegion ops (i :: rest) :: k)) rfl hr hc hcal
      rw [t3]
      exact next_put A kp R gr t1 I.cur.tmps hd t2 h1 h2 h3 t4
    · rename_i hr
      cases hu
      have t3 := tryRecover_ok (cs := cs) (fr := (mkF fn kind).at ⟨tm, defers.map (AD.ev ρ')⟩ (.inRegion ops (i :: rest) :: k)) rfl hr hc hcal
      simp only [RecIs] at t3
      rw [t3]
      exact next_put (v := .nilIface) A kp R gr trivial I.cur.tmps hd hcal h1 h2 h3 hc
  | panic v =>
    simp only [upon, raiseA] at hu
    cases hu
    have ng' : g' = _ := ng
    rw [ng']
    refine ⟨ρ', A, kp, gr, ⟨⟨TT.In.mono plus_sub I.cur.tmps, hd, ?_⟩, hcal, gr.ids⟩, R, _, frs, ⟨tm, _, ⟨h1, h2, (fun x => by cases x), h3⟩, rfl⟩, hc, rfl⟩
    intro x hx
    simp only [List.mem_singleton] at hx
    subst hx
    exact mem
end

/-- What a sub-run is asked. -/
def CallOk (K : Ctx) (main : Bool) (call : FuncId → List AV → AH → M (AE × AH)) : Prop :=
  ∀ f args h r, call f args h = .ok r → ∃ fr N, enterA K.P f args .normal = .ok fr ∧ Ends K main ⟨fr, [], h⟩ r N

section
variable {K : Ctx} {main : Bool} {U : Nat → Prop} {ρ : Env} {cs : List Frame}
variable {fn : FuncId} {nt : Nat} {tmps : TT} {todo todo' : List Item} {defers : List AD} {kind : CallKind} {callers : List AFrame} {h : AH}
variable {ops : Array Oper} {i : Nat} {rest : List Nat} {k : List Item} {o : Oper}

/-- The step that hands back what a call has come to. -/
theorem leave_step {f : FuncId} {ρ : Env} {v : AV} {caller : Frame} {g : Goroutine} {w : World} (E : EndsAs K f ρ (.returned v) (caller :: cs) g w) : Walk K.P main (DK K) (fun g' w' => (∃ d, w' = drawnAt w d) ∧ g' = G (caller.finish (v.ev ρ)) cs) 1 g w := by
  obtain ⟨fr, fnn, rfl, _, hd, hf, hm, hk, hq⟩ := E
  refine Walk.one rfl fun d => ?_
  have hrun := wq_run (hq d (Q := fun x w' => x = v.ev ρ ∧ w' = drawnAt w d) ⟨rfl, rfl⟩)
  obtain ⟨hrun, hes⟩ := hrun
  generalize hr : (results fnn fr.tmps).run K.P (drawnAt w d) = r at hrun
  cases r with
  | ok x w' =>
    obtain ⟨rfl, rfl⟩ := hrun
    have : stepG K.P main (G fr (caller :: cs)) (drawnAt w d) = .go (G (caller.finish (v.ev ρ)) cs) (drawnAt w d) (seen K.P fr.fn ((results fnn fr.tmps).events K.P (drawnAt w d) #[])) := by
      simp [G, stepG, unwind, doReturn, hm, hd, hf, hr, hk, GStep.after]
    rw [this]
    exact ⟨⟨Keeps.refl _ _, fun e he => hes e (mem_seen he), fun _ _ _ _ x => x⟩, ⟨d, rfl⟩, rfl⟩
  | halt x w' => cases x <;> exact hrun.elim

theorem raise_step {f : FuncId} {ρ : Env} {chain : List (AV × Bool)} {caller : Frame} {g : Goroutine} {w : World} (E : EndsAs K f ρ (.panicked chain) (caller :: cs) g w) :
    Walk K.P main (DK K) (fun g' w' => (∃ d, w' = drawnAt w d) ∧ g' = G (caller.raise (chain.map fun x => { v := x.1.ev ρ, recovered := x.2 })) cs) 1 g w := by
  obtain ⟨fr, fnn, rfl, _, hd, hf, hm⟩ := E
  refine Walk.one rfl fun d => ?_
  have hm' : fr.mode = .panicking (chain.map fun x => { v := x.1.ev ρ, recovered := x.2 }) := hm
  have : stepG K.P main (G fr (caller :: cs)) (drawnAt w d) = .go (G (caller.raise (chain.map fun x => { v := x.1.ev ρ, recovered := x.2 })) cs) (drawnAt w d) #[] := by
    simp [G, stepG, unwind, hm', hd, hf, Frame.catches]
  rw [this]
  exact ⟨⟨Keeps.refl _ _, fun e he => (by simp at he), fun _ _ _ _ x => x⟩, ⟨d, rfl⟩, rfl⟩

/-- What one operation, in full, comes to. -/
def ARNext (K : Ctx) (U : Nat → Prop) (ρ : Env) (cs : List Frame) (w : World) (h0 : AH) (fn : FuncId) (nt : Nat) (todo : List Item) (defers : List AD) (kind : CallKind) (callers : List AFrame) : AR → Goroutine → World → Prop
  | .on t h, g', w' => Next K U ρ cs w h0 ⟨⟨fn, nt, t, todo, defers, .run, kind⟩, callers, h⟩ g' w'
  | .panic t chain h, g', w' => ∀ td, Next K U ρ cs w h0 ⟨⟨fn, nt, t, td, defers, .panicking chain, kind⟩, callers, h⟩ g' w'

theorem opFull_ok (Gd : K.Good) (F : K.Facts) {ext : Ext} (X : ExtOk K ext) {call : FuncId → List AV → AH → M (AE × AH)} (C : CallOk K main call) {r : AR} (he : opFull K.P K.O ext call nt ops i tmps h = .ok r) :
    ∃ N, ∀ {fn defers kind callers U ρ cs g w rest k}, CIds K U ⟨⟨fn, nt, tmps, .inRegion ops (i :: rest) :: k, defers, .run, kind⟩, callers, h⟩ → Gam K ρ ⟨⟨fn, nt, tmps, .inRegion ops (i :: rest) :: k, defers, .run, kind⟩, callers, h⟩ cs g w →
      Walk K.P main (DK K) (ARNext K U ρ cs w h fn nt (.inRegion ops rest :: k) defers kind callers r) N g w := by
  unfold opFull at he
  split at he
  · cases he
  · rename_i o ho
    split at he
    · cases he
    · rename_i hw
      cases he
      exact ⟨1, fun I Γ => leads_unwanted ho hw _ _ _ _ _ I Γ⟩
    · rename_i hw
      split at he
      · cases he
      · rename_i v h' hop
        cases he
        refine ⟨1, fun {fn defers kind callers U ρ cs g w rest k} I Γ => (op_step Gd F X ho hw hop I Γ).weaken fun g' w' post => upon_next (c' := ⟨⟨fn, nt, putA nt tmps o.dst v, .inRegion ops rest :: k, defers, .run, kind⟩, callers, h'⟩) ?_ ho I post⟩
        simp [upon, finishA, ho]
      · rename_i h' hop
        cases he
        refine ⟨1, fun {fn defers kind callers U ρ cs g w rest k} I Γ => (op_step Gd F X ho hw hop I Γ).weaken fun g' w' post => upon_next (c' := ⟨⟨fn, nt, putA nt tmps o.dst undefA, .inRegion ops rest :: k, defers, .run, kind⟩, callers, h'⟩) ?_ ho I post⟩
        simp [upon, finishA, ho]
      · rename_i f args h' hop
        split at he
        · rename_i v h'' hcall
          cases he
          obtain ⟨fr, N, hen, E⟩ := C _ _ _ _ hcall
          refine ⟨1 + (N + 1), fun {fn defers kind callers U ρ cs g w rest k} I Γ => Walk.trans (fun g' w' post => ?_) (op_step Gd F X ho hw hop I Γ)⟩
          obtain ⟨ρ', A, kp, R, gr, mem, tm, frs, h1, h2, h3, hc, ng⟩ := post
          have ng' : g' = _ := ng
          obtain ⟨e1, e2, e3, e4, e5⟩ := enterA_ok hen (.inl rfl) mem (ρ := ρ')
          refine Walk.trans (fun g2 w2 done => ?_) (E (plus U h.nb h'.nb) ρ' ((mkF fn kind).at ⟨tm, defers.map (AD.ev ρ')⟩ (.inRegion ops (i :: rest) :: k) :: (frs ++ cs)) g' w' ⟨e2, (fun _ x => by simp at x), gr.ids⟩ ⟨R, _, [], e1, trivial, ng'⟩)
          obtain ⟨ρ2, A2, kp2, gr2, hv, R2, ends⟩ := done
          refine (leave_step ends).weaken fun g3 w3 ⟨⟨d, hw3⟩, hg3⟩ => ?_
          subst hw3 hg3
          have gr02 := gr.trans gr2
          have A02 := A.trans A2 plus_sub
          have hds : defers.map (AD.ev ρ') = defers.map (AD.ev ρ2) := List.map_congr_left fun x hx => (AD.ev_agree A2 ((I.cur.defers x hx).mono plus_sub)).symm
          have hc2 := callers_agree A2 hc fun fr hf => (I.callers fr hf).mono plus_sub
          have hv' : v.In (plus U h.nb h''.nb) := AV.In.mono (fun n => (plus_plus gr.nb gr2.nb n).1) _ hv
          have := next_put (U := U) (ρ := ρ) (h := h) (cs := cs) (fn := fn) (kind := kind) (ops := ops) (rest := rest) (k := k) (dst := o.dst) (ds := defers) A02 ((kp.trans kp2).trans (keeps_drawn _ w2 d)) (R2.drawn d) gr02 hv' I.cur.tmps (fun x hx => (I.cur.defers x hx).mono plus_sub) (fun fr hf => (I.callers fr hf).mono plus_sub)
            (h1.agree A2 (TT.In.mono plus_sub I.cur.tmps)) h2 h3 hc2
          rw [Frame.finish_at, ho, hds]
          exact this
        · rename_i chain h'' hcall
          cases he
          obtain ⟨fr, N, hen, E⟩ := C _ _ _ _ hcall
          refine ⟨1 + (N + 1), fun {fn defers kind callers U ρ cs g w rest k} I Γ => Walk.trans (fun g' w' post => ?_) (op_step Gd F X ho hw hop I Γ)⟩
          obtain ⟨ρ', A, kp, R, gr, mem, tm, frs, h1, h2, h3, hc, ng⟩ := post
          have ng' : g' = _ := ng
          obtain ⟨e1, e2, e3, e4, e5⟩ := enterA_ok hen (.inl rfl) mem (ρ := ρ')
          refine Walk.trans (fun g2 w2 done => ?_) (E (plus U h.nb h'.nb) ρ' ((mkF fn kind).at ⟨tm, defers.map (AD.ev ρ')⟩ (.inRegion ops (i :: rest) :: k) :: (frs ++ cs)) g' w' ⟨e2, (fun _ x => by simp at x), gr.ids⟩ ⟨R, _, [], e1, trivial, ng'⟩)
          obtain ⟨ρ2, A2, kp2, gr2, hv, R2, ends⟩ := done
          refine (raise_step ends).weaken fun g3 w3 ⟨⟨d, hw3⟩, hg3⟩ => ?_
          subst hw3 hg3
          intro td
          have gr02 := gr.trans gr2
          have A02 := A.trans A2 plus_sub
          have hds : defers.map (AD.ev ρ') = defers.map (AD.ev ρ2) := List.map_congr_left fun x hx => (AD.ev_agree A2 ((I.cur.defers x hx).mono plus_sub)).symm
          have hc2 := callers_agree A2 hc fun fr hf => (I.callers fr hf).mono plus_sub
          have hv' : ∀ x ∈ chain, x.1.In (plus U h.nb h''.nb) := fun x hx => AV.In.mono (fun n => (plus_plus gr.nb gr2.nb n).1) _ (hv x hx)
          refine ⟨ρ2, A02, (kp.trans kp2).trans (keeps_drawn _ w2 d), gr02, ⟨⟨TT.In.mono plus_sub I.cur.tmps, fun x hx => (I.cur.defers x hx).mono plus_sub, hv'⟩, fun fr hf => (I.callers fr hf).mono plus_sub, gr02.ids⟩, R2.drawn d, _, frs,
            ⟨tm, .inRegion ops (i :: rest) :: k, ⟨h1.agree A2 (TT.In.mono plus_sub I.cur.tmps), h2, (fun x => by cases x), h3⟩, rfl⟩, hc2, ?_⟩
          rw [hds]; rfl
        · cases he
      · rename_i v h' hop
        cases he
        refine ⟨1, fun {fn defers kind callers U ρ cs g w rest k} I Γ => (op_step Gd F X ho hw hop I Γ).weaken fun g' w' post => ?_⟩
        intro td
        have := upon_next (c' := ⟨⟨fn, nt, tmps, .inRegion ops (i :: rest) :: k, defers, .panicking [(v, false)], kind⟩, callers, h'⟩) rfl ho I post
        obtain ⟨ρ', a1, a2, a3, a4, R, fr, frs, ⟨tm, td', is, rfl⟩, hc, rfl⟩ := this
        exact ⟨ρ', a1, a2, a3, ⟨⟨a4.cur.tmps, a4.cur.defers, a4.cur.mode⟩, a4.callers, a4.ids⟩, R, _, frs, ⟨tm, td', ⟨is.tmps, is.kind, (fun x => by cases x), is.fn⟩, rfl⟩, hc, rfl⟩
      · cases he
end
end Go.Proofs.Ytcpiafgkmakdiaa.SX

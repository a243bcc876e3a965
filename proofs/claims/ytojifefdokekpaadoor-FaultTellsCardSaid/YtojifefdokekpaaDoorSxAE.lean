/-
  A symbolic run of the model, proved sound, and its use on the given code: a text of its parts. Conditions: none.
-/
import Derived.Test.YtojifefdokekpaaDoorSxAD
set_option linter.unusedSectionVars false
set_option linter.unusedVariables false
set_option linter.unusedSimpArgs false
namespace Go.Proofs.YtojifefdokekpaaDoor.SX
open Go.Conc
section
variable {K : Ctx} {main : Bool} {U : Nat → Prop} {ρ : Env} {cs : List Frame}
variable {fn : FuncId} {nt : Nat} {tmps : TT} {todo todo' : List Item} {defers : List AD} {kind : CallKind} {callers : List AFrame} {h : AH}
variable {ops : Array Oper} {i : Nat} {rest : List Nat} {k : List Item} {o : Oper}
theorem finishA_ok {fr : AFrame} {v : AV} {fr' : AFrame} (hf : finishA fr v = .ok fr') : ∃ fn nt tmps ops i rest k defers kind, fr = ⟨fn, nt, tmps, .inRegion ops (i :: rest) :: k, defers, .run, kind⟩ ∧
    fr' = ⟨fn, nt, putA nt tmps ((ops[i]?).bind (·.dst)) v, .inRegion ops rest :: k, defers, .run, kind⟩ := by
  unfold finishA at hf
  split at hf
  · cases hf; exact ⟨_, _, _, _, _, _, _, _, _, rfl, rfl⟩
  · cases hf
theorem undefA_in : undefA.In U := by simp [undefA, AV.In, AV.Ins]
theorem tag_v {k : CallKind} {v : AV} : tagOk k (.value v) = true := by unfold tagOk; cases tagged k <;> rfl
theorem tag_s {k : CallKind} : tagOk k .skip = true := by unfold tagOk; cases tagged k <;> rfl
theorem tag_e {k : CallKind} {f : FuncId} {args : List AV} : tagOk k (.enter f args) = true := by unfold tagOk; cases tagged k <;> rfl
theorem tag_p {k : CallKind} {v : AV} : tagOk k (.panic v) = true := by unfold tagOk; cases tagged k <;> rfl
theorem aB_cons {ρ : Env} {k : CallKind} {tm : Array Value} {d : AD} {ds : List AD} : aB ρ k tm (d :: ds) = { aB ρ k tm ds with defers := d.ev ρ :: (aB ρ k tm ds).defers } := by
  unfold aB; rw [List.map_cons, dB_cons]
theorem next_put {w w' : World} {h' : AH} {ρ' : Env} {v : AV} {tm : Array Value} {frs : List Frame} {ds : List AD} {callers' : List AFrame} {dst : Option Tmp}
    (A : Agree U ρ ρ') (kp : Keeps K.own w w') (R : Rel K ρ' h' w') (gr : Grows K U h h') (hv : v.In (plus U h.nb h'.nb)) (ht : tmps.In U) (hd : ∀ d ∈ ds, d.In (plus U h.nb h'.nb)) (hcal : ∀ fr ∈ callers', fr.In (plus U h.nb h'.nb))
    (h1 : TmpR ρ' nt tmps tm) (h2 : plainK kind ∨ kind = .wrapped) (h3 : ∃ f, K.P.funcs[fn]? = some f) (hc : FrRels K.P ρ' callers' frs) :
    Next K U ρ cs w h ⟨⟨fn, nt, putA nt tmps dst v, .inRegion ops rest :: k, ds, .run, kind⟩, callers', h'⟩ (G ((bB ρ' fn kind).atR ((aB ρ' kind tm ds).put dst (v.ev ρ')) (.inRegion ops rest :: k)) (frs ++ cs)) w' := by
  obtain ⟨tm', e, h1'⟩ := put_tmps (v := v) h1 (dB ρ' kind (ds.map (AD.ev ρ'))) dst
  refine ⟨ρ', A, kp, gr, ⟨⟨putA_in (TT.In.mono plus_sub ht) hv h1.le, hd, trivial⟩, hcal, gr.ids⟩, gam_run.2 ⟨R, tm', frs, h1', h2, h3, hc, ?_⟩⟩
  show G ((bB ρ' fn kind).atR (Act.put ⟨tm, dB ρ' kind (ds.map (AD.ev ρ'))⟩ dst (v.ev ρ')) _) _ = _
  rw [e]; rfl
def RecIs (P : Program) (U : Nat → Prop) (ρ : Env) (cs : List Frame) (fr : Frame) (frs : List Frame) : Option (AV × List AFrame) → Prop
  | some (v, callers') => v.In U ∧ (∀ fr ∈ callers', fr.In U) ∧ ∃ frs', tryRecover fr (frs ++ cs) = some (v.ev ρ, frs' ++ cs) ∧ FrRels P ρ callers' frs'
  | none => tryRecover fr (frs ++ cs) = none
theorem tryRecover_ok {P : Program} {fr : Frame} {frs : List Frame} {r : Option (AV × List AFrame)} (hk : fr.kind = kind) (hr : recoverA kind callers = .ok r) (hc : FrRels P ρ callers frs) (hcal : ∀ fr ∈ callers, fr.In U) :
    RecIs P U ρ cs fr frs r := by
  cases kind with
  | normal =>
    cases hr
    show tryRecover _ _ = none
    simp [tryRecover, hk]
  | deferred =>
    cases callers with
    | nil => cases hr
    | cons c tail =>
      obtain ⟨fn, nt, tmps, todo, defers, mode, kd⟩ := c
      cases frs with
      | nil => simp only [FrRels] at hc
      | cons f frs =>
        simp only [FrRels] at hc
        obtain ⟨⟨tm, td', is, rfl⟩, hc2⟩ := hc
        have other : r = none → (match mode.ev ρ with | .panicking ({ v, recovered := false, goexit := false } :: older) => False | _ => True) → RecIs P U ρ cs fr (frameOf ρ ⟨fn, nt, tmps, todo, defers, mode, kd⟩ tm td' :: frs) r := by
          intro h1 h2
          subst h1
          show tryRecover _ _ = none
          simp only [tryRecover, hk, List.cons_append]
          have : (frameOf ρ ⟨fn, nt, tmps, todo, defers, mode, kd⟩ tm td').mode = mode.ev ρ := rfl
          rw [this]
          revert h2
          generalize mode.ev ρ = m
          split
          · exact False.elim
          · rename_i hne
            intro _
            split
            · rename_i v older; exact absurd rfl (hne v older)
            · rfl
        cases mode with
        | run => cases hr; exact other rfl trivial
        | returning => cases hr; exact other rfl trivial
        | panicking chain =>
          cases chain with
          | nil => cases hr; exact other rfl trivial
          | cons x older =>
            obtain ⟨v, b'⟩ := x
            cases b' with
            | true => cases hr; exact other rfl trivial
            | false =>
              cases hr
              have hin := hcal _ (List.mem_cons_self ..)
              have hm : ∀ x ∈ (v, false) :: older, x.1.In U := hin.mode
              refine ⟨hm _ (List.mem_cons_self ..), ?_, { frameOf ρ ⟨fn, nt, tmps, todo, defers, .panicking ((v, true) :: older), kd⟩ tm td' with mode := (AMode.panicking ((v, true) :: older)).ev ρ } :: frs, ?_, ⟨tm, td', ⟨is.tmps, is.kind, (fun x => by cases x), is.fn⟩, rfl⟩, hc2⟩
              · intro fr hfr
                rcases List.mem_cons.1 hfr with rfl | hfr
                · refine ⟨hin.tmps, hin.defers, ?_⟩
                  intro x hx
                  rcases List.mem_cons.1 hx with rfl | hx
                  · exact hm (v, false) (List.mem_cons_self ..)
                  · exact hm x (List.mem_cons_of_mem _ hx)
                · exact hcal fr (List.mem_cons_of_mem _ hfr)
              · simp only [tryRecover, hk, List.cons_append, frameOf, AMode.ev, List.map_cons]
  | _ => cases hr
theorem upon_next {n : AN} {h' : AH} {c' : ACfg} {w w' : World} {g' : Goroutine} (hu : upon K.P ⟨fn, nt, tmps, .inRegion ops (i :: rest) :: k, defers, .run, kind⟩ callers n h' = .ok c') (ho : ops[i]? = some o)
    (I : CIds K U ⟨⟨fn, nt, tmps, .inRegion ops (i :: rest) :: k, defers, .run, kind⟩, callers, h⟩) (post : OpPost K U ρ cs w fn nt tmps defers kind callers h o.dst ops i rest k n h' g' w') : Next K U ρ cs w h c' g' w' := by
  obtain ⟨ρ', A, kp, R, gr, mem, tm, frs, h1, h2, h3, hc, ng⟩ := post
  have hd : ∀ d ∈ defers, d.In (plus U h.nb h'.nb) := fun d hd => (I.cur.defers d hd).mono plus_sub
  have hcal : ∀ fr ∈ callers, fr.In (plus U h.nb h'.nb) := fun fr hf => (I.callers fr hf).mono plus_sub
  cases n with
  | value v =>
    simp only [upon, finishA, ho] at hu
    cases hu
    have ng' : g' = _ := ng
    rw [ng']
    exact next_put A kp R gr mem I.cur.tmps hd hcal h1 h2 h3 hc
  | skip =>
    simp only [upon, finishA, ho] at hu
    cases hu
    have ng' : g' = _ := ng
    rw [ng']
    exact next_put (v := undefA) A kp R gr undefA_in I.cur.tmps hd hcal h1 h2 h3 hc
  | defer d =>
    simp only [upon, finishA, ho] at hu
    cases hu
    have ng' : g' = _ := ng
    rw [ng']
    rw [← aB_cons]
    refine next_put (v := undefA) (ds := d :: defers) A kp R gr undefA_in I.cur.tmps ?_ hcal h1 h2 h3 hc
    intro x hx
    rcases List.mem_cons.1 hx with rfl | hx
    · exact mem
    · exact hd x hx
  | enter f args =>
    simp only [upon] at hu
    split at hu
    · rename_i fr' he
      cases hu
      have ng' : g' = _ := ng
      rw [ng']
      obtain ⟨e1, e2, e3, e4, e5⟩ := enterA_ok he (.inl rfl) mem (ρ := ρ')
      refine ⟨ρ', A, kp, gr, ⟨e2, ?_, gr.ids⟩, R, _, (bB ρ' fn kind).atR (aB ρ' kind tm defers) (.inRegion ops (i :: rest) :: k) :: frs, e1, ⟨⟨tm, _, ⟨h1, h2, fun _ => rfl, h3⟩, rfl⟩, hc⟩, rfl⟩
      intro fr hfr
      rcases List.mem_cons.1 hfr with rfl | hfr
      · exact I.cur.mono plus_sub
      · exact hcal fr hfr
    · cases hu
  | recover =>
    simp only [upon, finishA, ho] at hu
    have ng' : g' = _ := ng
    rw [ng']
    split at hu
    · cases hu
    · rename_i v callers' hr
      cases hu
      have hpk : plainK kind := by
        rcases h2 with h2 | rfl
        · exact h2
        · cases hr
      obtain ⟨t1, t2, frs', t3, t4⟩ := tryRecover_ok (cs := cs) (fr := (bB ρ' fn kind).atR (aB ρ' kind tm defers) (.inRegion ops (i :: rest) :: k)) (by rw [plain_bB hpk]; rfl) hr hc hcal
      rw [t3]
      exact next_put A kp R gr t1 I.cur.tmps hd t2 h1 h2 h3 t4
    · rename_i hr
      cases hu
      have hpk : plainK kind := by
        rcases h2 with h2 | rfl
        · exact h2
        · cases hr
      have t3 := tryRecover_ok (cs := cs) (fr := (bB ρ' fn kind).atR (aB ρ' kind tm defers) (.inRegion ops (i :: rest) :: k)) (by rw [plain_bB hpk]; rfl) hr hc hcal
      simp only [RecIs] at t3
      rw [t3]
      exact next_put (v := .nilIface) A kp R gr trivial I.cur.tmps hd hcal h1 h2 h3 hc
  | panic v =>
    simp only [upon, raiseA] at hu
    cases hu
    have ng' : g' = _ := ng
    rw [ng']
    refine ⟨ρ', A, kp, gr, ⟨⟨TT.In.mono plus_sub I.cur.tmps, hd, ?_⟩, hcal, gr.ids⟩, R, _, frs, ⟨tm, _, ⟨h1, h2, (fun x => by cases x), h3⟩, rfl⟩, hc, rfl⟩
    intro x hx
    simp only [List.mem_singleton] at hx
    subst hx
    exact mem
end
def CallOk (K : Ctx) (main : Bool) (call : FuncId → List AV → AH → M (AE × AH)) : Prop :=
  ∀ f args h r, call f args h = .ok r → ∃ fr N, enterA K.P f args .normal = .ok fr ∧ Ends K main ⟨fr, [], h⟩ r N
section
variable {K : Ctx} {main : Bool} {U : Nat → Prop} {ρ : Env} {cs : List Frame}
variable {fn : FuncId} {nt : Nat} {tmps : TT} {todo todo' : List Item} {defers : List AD} {kind : CallKind} {callers : List AFrame} {h : AH}
variable {ops : Array Oper} {i : Nat} {rest : List Nat} {k : List Item} {o : Oper}
theorem leave_step {f : FuncId} {ρ : Env} {v : AV} {caller : Frame} {g : Goroutine} {w : World} (E : EndsAs K f ρ (.returned v) (caller :: cs) g w) : Walk K.P main (DK K) (fun g' w' => (∃ d, w' = drawnAt w d) ∧ g' = G (caller.finish (v.ev ρ)) cs) 1 g w := by
  obtain ⟨fr, fnn, rfl, _, hd, hf, hm, hk, hq⟩ := E
  refine Walk.one rfl fun d => ?_
  have hrun := wq_run (hq d (Q := fun x w' => x = v.ev ρ ∧ w' = drawnAt w d) ⟨rfl, rfl⟩)
  obtain ⟨hrun, hes⟩ := hrun
  generalize hr : (results fnn fr.tmps).run K.P (drawnAt w d) = r at hrun
  cases r with
  | ok x w' =>
    obtain ⟨rfl, rfl⟩ := hrun
    have : stepG K.P main (G fr (caller :: cs)) (drawnAt w d) = .go (G (caller.finish (v.ev ρ)) cs) (drawnAt w d) (seen K.P fr.fn ((results fnn fr.tmps).events K.P (drawnAt w d) #[])) := by
      simp [G, stepG, unwind, doReturn, hm, hd, hf, hr, hk, GStep.after]
    rw [this]
    exact ⟨⟨Keeps.refl _ _, fun e he => hes e (mem_seen he), fun _ _ _ _ x => x⟩, ⟨d, rfl⟩, rfl⟩
  | halt x w' => cases x <;> exact hrun.elim
theorem raise_step {f : FuncId} {ρ : Env} {chain : List (AV × Bool)} {caller : Frame} {g : Goroutine} {w : World} (E : EndsAs K f ρ (.panicked chain) (caller :: cs) g w) :
    Walk K.P main (DK K) (fun g' w' => (∃ d, w' = drawnAt w d) ∧ g' = G (caller.raise (chain.map fun x => { v := x.1.ev ρ, recovered := x.2 })) cs) 1 g w := by
  obtain ⟨fr, fnn, rfl, _, hd, hf, hm⟩ := E
  refine Walk.one rfl fun d => ?_
  have hm' : fr.mode = .panicking (chain.map fun x => { v := x.1.ev ρ, recovered := x.2 }) := hm
  have : stepG K.P main (G fr (caller :: cs)) (drawnAt w d) = .go (G (caller.raise (chain.map fun x => { v := x.1.ev ρ, recovered := x.2 })) cs) (drawnAt w d) #[] := by
    simp [G, stepG, unwind, hm', hd, hf, Frame.catches]
  rw [this]
  exact ⟨⟨Keeps.refl _ _, fun e he => (by simp at he), fun _ _ _ _ x => x⟩, ⟨d, rfl⟩, rfl⟩
def ARNext (K : Ctx) (U : Nat → Prop) (ρ : Env) (cs : List Frame) (w : World) (h0 : AH) (fn : FuncId) (nt : Nat) (todo : List Item) (defers : List AD) (kind : CallKind) (callers : List AFrame) : AR → Goroutine → World → Prop
  | .on t h, g', w' => Next K U ρ cs w h0 ⟨⟨fn, nt, t, todo, defers, .run, kind⟩, callers, h⟩ g' w'
  | .panic t chain h, g', w' => ∀ td, Next K U ρ cs w h0 ⟨⟨fn, nt, t, td, defers, .panicking chain, kind⟩, callers, h⟩ g' w'
theorem opFull_ok (Gd : K.Good) (F : K.Facts) {ext : Ext} (X : ExtOk K ext) {call : FuncId → List AV → AH → M (AE × AH)} (C : CallOk K main call) {r : AR} (he : opFull K.P K.O ext call nt ops i tmps h = .ok r) :
    ∃ N, ∀ {fn defers kind callers U ρ cs g w rest k}, CIds K U ⟨⟨fn, nt, tmps, .inRegion ops (i :: rest) :: k, defers, .run, kind⟩, callers, h⟩ → Gam K ρ ⟨⟨fn, nt, tmps, .inRegion ops (i :: rest) :: k, defers, .run, kind⟩, callers, h⟩ cs g w →
      Walk K.P main (DK K) (ARNext K U ρ cs w h fn nt (.inRegion ops rest :: k) defers kind callers r) N g w := by
  unfold opFull at he
  split at he
  · cases he
  · rename_i o ho
    split at he
    · cases he
    · rename_i hw
      cases he
      exact ⟨1, fun I Γ => leads_unwanted ho hw _ _ _ _ _ I Γ⟩
    · rename_i hw
      split at he
      · cases he
      · rename_i v h' hop
        cases he
        refine ⟨1, fun {fn defers kind callers U ρ cs g w rest k} I Γ => (op_step Gd F X ho hw hop tag_v I Γ).weaken fun g' w' post => upon_next (c' := ⟨⟨fn, nt, putA nt tmps o.dst v, .inRegion ops rest :: k, defers, .run, kind⟩, callers, h'⟩) ?_ ho I post⟩
        simp [upon, finishA, ho]
      · rename_i h' hop
        cases he
        refine ⟨1, fun {fn defers kind callers U ρ cs g w rest k} I Γ => (op_step Gd F X ho hw hop tag_s I Γ).weaken fun g' w' post => upon_next (c' := ⟨⟨fn, nt, putA nt tmps o.dst undefA, .inRegion ops rest :: k, defers, .run, kind⟩, callers, h'⟩) ?_ ho I post⟩
        simp [upon, finishA, ho]
      · rename_i f args h' hop
        split at he
        · rename_i v h'' hcall
          cases he
          obtain ⟨fr, N, hen, E⟩ := C _ _ _ _ hcall
          refine ⟨1 + (N + 1), fun {fn defers kind callers U ρ cs g w rest k} I Γ => Walk.trans (fun g' w' post => ?_) (op_step Gd F X ho hw hop tag_e I Γ)⟩
          obtain ⟨ρ', A, kp, R, gr, mem, tm, frs, h1, h2, h3, hc, ng⟩ := post
          have ng' : g' = _ := ng
          obtain ⟨e1, e2, e3, e4, e5⟩ := enterA_ok hen (.inl rfl) mem (ρ := ρ')
          refine Walk.trans (fun g2 w2 done => ?_) (E (plus U h.nb h'.nb) ρ' ((bB ρ' fn kind).atR (aB ρ' kind tm defers) (.inRegion ops (i :: rest) :: k) :: (frs ++ cs)) g' w' ⟨e2, (fun _ x => by simp at x), gr.ids⟩ ⟨R, _, [], e1, trivial, ng'⟩)
          obtain ⟨ρ2, A2, kp2, gr2, hv, R2, ends⟩ := done
          refine (leave_step ends).weaken fun g3 w3 ⟨⟨d, hw3⟩, hg3⟩ => ?_
          subst hw3 hg3
          have gr02 := gr.trans gr2
          have A02 := A.trans A2 plus_sub
          have hd2 : ∀ d ∈ defers, d.In (plus U h.nb h'.nb) := fun x hx => (I.cur.defers x hx).mono plus_sub
          have hc2 := callers_agree A2 hc fun fr hf => (I.callers fr hf).mono plus_sub
          have hv' : v.In (plus U h.nb h''.nb) := AV.In.mono (fun n => (plus_plus gr.nb gr2.nb n).1) _ hv
          have := next_put (U := U) (ρ := ρ) (h := h) (cs := cs) (fn := fn) (kind := kind) (ops := ops) (rest := rest) (k := k) (dst := o.dst) (ds := defers) A02 ((kp.trans kp2).trans (keeps_drawn _ w2 d)) (R2.drawn d) gr02 hv' I.cur.tmps (fun x hx => (I.cur.defers x hx).mono plus_sub) (fun fr hf => (I.callers fr hf).mono plus_sub)
            (h1.agree A2 (TT.In.mono plus_sub I.cur.tmps)) h2 h3 hc2
          rw [finR _ _ ho, ← bB_agree A2 fn kind, ← aB_agree A2 kind tm hd2]
          exact this
        · rename_i chain h'' hcall
          cases he
          obtain ⟨fr, N, hen, E⟩ := C _ _ _ _ hcall
          refine ⟨1 + (N + 1), fun {fn defers kind callers U ρ cs g w rest k} I Γ => Walk.trans (fun g' w' post => ?_) (op_step Gd F X ho hw hop tag_e I Γ)⟩
          obtain ⟨ρ', A, kp, R, gr, mem, tm, frs, h1, h2, h3, hc, ng⟩ := post
          have ng' : g' = _ := ng
          obtain ⟨e1, e2, e3, e4, e5⟩ := enterA_ok hen (.inl rfl) mem (ρ := ρ')
          refine Walk.trans (fun g2 w2 done => ?_) (E (plus U h.nb h'.nb) ρ' ((bB ρ' fn kind).atR (aB ρ' kind tm defers) (.inRegion ops (i :: rest) :: k) :: (frs ++ cs)) g' w' ⟨e2, (fun _ x => by simp at x), gr.ids⟩ ⟨R, _, [], e1, trivial, ng'⟩)
          obtain ⟨ρ2, A2, kp2, gr2, hv, R2, ends⟩ := done
          refine (raise_step ends).weaken fun g3 w3 ⟨⟨d, hw3⟩, hg3⟩ => ?_
          subst hw3 hg3
          intro td
          have gr02 := gr.trans gr2
          have A02 := A.trans A2 plus_sub
          have hd2 : ∀ d ∈ defers, d.In (plus U h.nb h'.nb) := fun x hx => (I.cur.defers x hx).mono plus_sub
          have hc2 := callers_agree A2 hc fun fr hf => (I.callers fr hf).mono plus_sub
          have hv' : ∀ x ∈ chain, x.1.In (plus U h.nb h''.nb) := fun x hx => AV.In.mono (fun n => (plus_plus gr.nb gr2.nb n).1) _ (hv x hx)
          refine ⟨ρ2, A02, (kp.trans kp2).trans (keeps_drawn _ w2 d), gr02, ⟨⟨TT.In.mono plus_sub I.cur.tmps, fun x hx => (I.cur.defers x hx).mono plus_sub, hv'⟩, fun fr hf => (I.callers fr hf).mono plus_sub, gr02.ids⟩, R2.drawn d, _, frs,
            ⟨tm, .inRegion ops (i :: rest) :: k, ⟨h1.agree A2 (TT.In.mono plus_sub I.cur.tmps), h2, (fun x => by cases x), h3⟩, rfl⟩, hc2, ?_⟩
          rw [← bB_agree A2 fn kind, ← aB_agree A2 kind tm hd2]; rfl
        · cases he
      · rename_i v h' hop
        cases he
        refine ⟨1, fun {fn defers kind callers U ρ cs g w rest k} I Γ => (op_step Gd F X ho hw hop tag_p I Γ).weaken fun g' w' post => ?_⟩
        intro td
        have := upon_next (c' := ⟨⟨fn, nt, tmps, .inRegion ops (i :: rest) :: k, defers, .panicking [(v, false)], kind⟩, callers, h'⟩) rfl ho I post
        obtain ⟨ρ', a1, a2, a3, a4, R, fr, frs, ⟨tm, td', is, rfl⟩, hc, rfl⟩ := this
        exact ⟨ρ', a1, a2, a3, ⟨⟨a4.cur.tmps, a4.cur.defers, a4.cur.mode⟩, a4.callers, a4.ids⟩, R, _, frs, ⟨tm, td', ⟨is.tmps, is.kind, (fun x => by cases x), is.fn⟩, rfl⟩, hc, rfl⟩
      · cases he
end
end Go.Proofs.YtojifefdokekpaaDoor.SX
set_option linter.unusedSectionVars false
set_option linter.unusedVariables false
set_option linter.unusedSimpArgs false
namespace Go.Proofs.YtojifefdokekpaaDoor.SX
open Go.Conc
def Sched (ops : Array Oper) : List Nat → List Nat → Prop
  | s, [] => readyIn ops s = []
  | s, i :: l => i ∈ readyIn ops s ∧ Sched ops (i :: s) l
def openIn (ops : Array Oper) (s : List Nat) : List Nat := (List.range ops.size).filter fun i => !s.contains i
theorem openIn_cons {ops : Array Oper} {s : List Nat} {i : Nat} (hi : i ∈ openIn ops s) : (openIn ops (i :: s)).length < (openIn ops s).length := by
  have : openIn ops (i :: s) = (openIn ops s).filter fun j => !(j == i) := by
    unfold openIn
    rw [List.filter_filter]
    apply List.filter_congr
    intro j _
    by_cases hj : j = i <;> simp [List.contains_cons, hj]
  rw [this]
  exact List.length_filter_lt_length_iff_exists.2 ⟨i, hi, by simp⟩
theorem readyIn_sub {ops : Array Oper} {s : List Nat} {i : Nat} (h : i ∈ readyIn ops s) : i ∈ openIn ops s := by
  unfold readyIn at h
  obtain ⟨h1, h2⟩ := List.mem_filter.1 h
  exact List.mem_filter.2 ⟨h1, by simp only [Bool.and_eq_true] at h2; exact h2.1⟩
theorem readyIn_mem {ops : Array Oper} {s : List Nat} {i : Nat} (h : i ∈ readyIn ops s) : i < ops.size ∧ i ∉ s := by
  obtain ⟨h1, h2⟩ := List.mem_filter.1 (readyIn_sub h)
  exact ⟨List.mem_range.1 h1, by simpa using h2⟩
theorem go_sched (ops : Array Oper) : ∀ (fuel t : Nat) (listed : Array Bool) (acc s : List Nat), listed.size = ops.size → (∀ j, listed.getD j false = s.contains j) → (openIn ops s).length ≤ fuel →
    ∃ l, Region.linearise.go .any ops fuel t listed acc = acc.reverse ++ l ∧ Sched ops s l := by
  intro fuel
  induction fuel with
  | zero =>
    intro t listed acc s _ _ ho
    refine ⟨[], by simp [Region.linearise.go], ?_⟩
    show readyIn ops s = []
    apply List.eq_nil_iff_forall_not_mem.2
    intro i hi
    have := readyIn_sub hi
    rw [List.eq_nil_of_length_eq_zero (Nat.le_zero.1 ho)] at this
    cases this
  | succ fuel ih =>
    intro t listed acc s hsz hl ho
    have hrs : ((List.range ops.size).filter fun i => !listed.getD i true && ((ops[i]?).map (fun o => o.after.all fun e => !Region.binds .any e || listed.getD e.on false)).getD false) = readyIn ops s := by
      unfold readyIn
      apply List.filter_congr
      intro i hi
      have hi' : i < ops.size := List.mem_range.1 hi
      have h1 : listed.getD i true = listed.getD i false := by
        rw [Array.getD_eq_getD_getElem?, Array.getD_eq_getD_getElem?, Array.getElem?_eq_getElem (by rw [hsz]; exact hi')]; rfl
      rw [h1, hl i, Array.getElem?_eq_getElem hi']
      simp only [Option.map_some, Option.getD_some, boundIn]
      congr 1
      congr 1
      funext e
      rw [hl e.on]
    rw [Region.linearise.go]
    simp only [hrs]
    split
    · rename_i i hi
      have hmem : i ∈ readyIn ops s := List.mem_of_getElem? hi
      obtain ⟨hi1, hi2⟩ := readyIn_mem hmem
      have hl' : ∀ j, (listed.setIfInBounds i true).getD j false = (i :: s).contains j := fun j => by
        rw [Array.getD_eq_getD_getElem?, List.contains_cons]
        by_cases hj : j = i
        · subst hj; simp [hsz, hi1]
        · have : (j == i) = false := by simpa using hj
          rw [this, Bool.false_or, ← hl j, Array.getD_eq_getD_getElem?, Array.getElem?_setIfInBounds_ne (fun x => hj x.symm)]
      obtain ⟨l, e, hs⟩ := ih (t / (readyIn ops s).length) (listed.setIfInBounds i true) (i :: acc) (i :: s) (by simpa using hsz) hl' (by have := openIn_cons (readyIn_sub hmem); omega)
      exact ⟨i :: l, by rw [e]; simp, hmem, hs⟩
    · rename_i hn
      refine ⟨[], by simp, ?_⟩
      show readyIn ops s = []
      rcases Nat.eq_zero_or_pos (readyIn ops s).length with h0 | h0
      · exact List.eq_nil_of_length_eq_zero h0
      · rw [List.getElem?_eq_none_iff] at hn
        have := Nat.mod_lt t h0
        omega
theorem schedule_sched (ops : Array Oper) (t : Nat) : Sched ops [] (Region.schedule true ops t) := by
  obtain ⟨l, e, h⟩ := go_sched ops ops.size t (Array.replicate ops.size false) [] [] (by simp) (fun j => by
    rw [Array.getD_eq_getD_getElem?, Array.getElem?_replicate]; split <;> simp) (by
    unfold openIn; exact Nat.le_trans (List.length_filter_le _ _) (by simp))
  have : Region.schedule true ops t = l := by simp [Region.schedule, Region.linearise, e]
  rw [this]; exact h
theorem sameSet_mem {a b : List Nat} (h : sameSet a b = true) (i : Nat) : i ∈ a ↔ i ∈ b := by
  unfold sameSet at h
  simp only [Bool.and_eq_true, List.all_eq_true, List.contains_iff_mem] at h
  exact ⟨h.1 i, h.2 i⟩
theorem contains_congr {a b : List Nat} (h : ∀ i, i ∈ a ↔ i ∈ b) (i : Nat) : a.contains i = b.contains i := by
  have := h i
  by_cases hi : i ∈ a
  · simp [hi, this.1 hi]
  · have : i ∉ b := fun x => hi (this.2 x)
    simp [hi, this]
theorem readyIn_congr {ops : Array Oper} {a b : List Nat} (h : ∀ i, i ∈ a ↔ i ∈ b) : readyIn ops a = readyIn ops b := by
  unfold readyIn
  apply List.filter_congr
  intro i _
  rw [contains_congr h]
  congr 1
  split
  · unfold boundIn
    congr 1
    funext e
    rw [contains_congr h]
  · rfl
theorem Sched.congr {ops : Array Oper} : ∀ {l a b : List Nat}, (∀ i, i ∈ a ↔ i ∈ b) → Sched ops a l → Sched ops b l
  | [], a, b, h, hs => by
    have : readyIn ops a = [] := hs
    show readyIn ops b = []
    rw [← readyIn_congr h]; exact this
  | i :: l, a, b, h, hs => ⟨by rw [← readyIn_congr h]; exact hs.1, Sched.congr (fun j => by simp [h j]) hs.2⟩
def Us (U0 : Nat → Prop) (h0 : AH) (s : List Nat) : Nat → Prop := fun n => U0 n ∨ ∃ j ∈ s, h0.nb + j * stride h0 ≤ n ∧ n < h0.nb + (j + 1) * stride h0
theorem stride_lim (h0 : AH) {i : Nat} (hi : i < 65536) {n : Nat} (hn : n < h0.nb + (i + 1) * stride h0) (hn0 : h0.nb + i * stride h0 ≤ n) : n < h0.lim := by
  have h1 : (i + 1) * stride h0 ≤ 65536 * stride h0 := Nat.mul_le_mul_right _ hi
  have h2 : 65536 * stride h0 ≤ h0.lim - h0.nb := Nat.mul_div_le _ _
  omega
theorem ranges_apart {s i j n nb : Nat} (h1 : nb + i * s ≤ n) (h2 : n < nb + (i + 1) * s) (h3 : nb + j * s ≤ n) (h4 : n < nb + (j + 1) * s) : i = j := by
  rcases Nat.lt_trichotomy i j with h | h | h
  · have := Nat.mul_le_mul_right s (Nat.succ_le_of_lt h); simp only [Nat.succ_eq_add_one] at this; omega
  · exact h
  · have := Nat.mul_le_mul_right s (Nat.succ_le_of_lt h); simp only [Nat.succ_eq_add_one] at this; omega
theorem Us_fresh {K : Ctx} {U0 : Nat → Prop} {h0 : AH} {s : List Nat} {i : Nat} (I0 : Ids K U0 h0) (hi : i < 65536) (hs : i ∉ s) {n : Nat} (h1 : h0.nb + i * stride h0 ≤ n) (h2 : n < h0.nb + (i + 1) * stride h0) : ¬ Us U0 h0 s n := by
  rintro (x | ⟨j, hj, x1, x2⟩)
  · exact I0.fresh n (by omega) (stride_lim h0 hi h2 h1) x
  · have := ranges_apart h1 h2 x1 x2
    subst this
    exact hs hj
theorem Rel.hp {K : Ctx} {ρ : Env} {h h' : AH} {w : World} (R : Rel K ρ h w) (e : h'.hp = h.hp) : Rel K ρ h' w :=
  ⟨fun i b hb => R.blk i b (by rw [← e]; exact hb), fun i b hb => R.own' i b (by rw [← e]; exact hb), fun i j b c h1 h2 => R.inj i j b c (by rw [← e]; exact h1) (by rw [← e]; exact h2), R.bs, R.is, R.mem, R.room, fun i b hb => R.lent i b (by rw [← e]; exact hb), R.low⟩
theorem Gam.hp {K : Ctx} {ρ : Env} {cur : AFrame} {callers : List AFrame} {h h' : AH} {cs : List Frame} {g : Goroutine} {w : World} (Γ : Gam K ρ ⟨cur, callers, h⟩ cs g w) (e : h'.hp = h.hp) : Gam K ρ ⟨cur, callers, h'⟩ cs g w :=
  ⟨Rel.hp Γ.1 e, Γ.2⟩
theorem CIds.lax {K : Ctx} {U U' : Nat → Prop} {cur : AFrame} {callers : List AFrame} {h h' : AH} (I : CIds K U ⟨cur, callers, h⟩) (e : h'.hp = h.hp) (hs : ∀ n, U n → U' n) (fr : ∀ n, h'.nb ≤ n → n < h'.lim → ¬ U' n) : CIds K U' ⟨cur, callers, h'⟩ :=
  ⟨I.cur.mono hs, fun fr hf => (I.callers fr hf).mono hs, ⟨fun i b hb => ABlk.In.mono hs (I.ids.hp i b (by rw [← e]; exact hb)), fun i hi => hs i (I.ids.keys i (by show i ∈ Go.Proofs.YtojifefdokekpaaDoor.SX.keys h.hp; rw [← e]; exact hi)), (by show (Go.Proofs.YtojifefdokekpaaDoor.SX.keys h'.hp).Nodup; rw [e]; exact I.ids.nodup), fr, I.ids.orc.mono hs⟩⟩
section
variable {K : Ctx} {main : Bool} {nt : Nat} {ops : Array Oper}
theorem putLvl_ok {s : List Nat} {t : TT} {h : AH} : ∀ {L L' : Lvl}, putLvl s t h L = .ok L' → (∀ e ∈ L, e ∈ L') ∧ ∃ s' h', (s', t, h') ∈ L' ∧ sameSet s s' = true ∧ h'.hp = h.hp
  | [], L', he => by
    simp only [putLvl] at he
    cases he
    refine ⟨(fun e x => by cases x), s, h, List.mem_singleton.2 rfl, ?_, rfl⟩
    simp [sameSet]
  | (s', t', h') :: L, L', he => by
    simp only [putLvl] at he
    split at he
    · rename_i hs
      split at he
      · rename_i hq
        cases he
        simp only [Bool.and_eq_true] at hq
        obtain rfl := TT.eqb_eq hq.1
        exact ⟨fun e x => x, s', h', List.mem_cons_self .., hs, (hpEqb_eq hq.2).symm⟩
      · cases he
    · split at he
      · rename_i l hl
        cases he
        obtain ⟨a, s2, h2, b, c, d⟩ := putLvl_ok hl
        refine ⟨fun e x => ?_, s2, h2, List.mem_cons_of_mem _ b, c, d⟩
        rcases List.mem_cons.1 x with rfl | x
        · exact List.mem_cons_self ..
        · exact List.mem_cons_of_mem _ (a e x)
      · cases he
def Forks (K : Ctx) (U0 : Nat → Prop) (h0 : AH) (ρ : Env) (cs : List Frame) (w : World) (fn : FuncId) (nt : Nat) (ops : Array Oper) (l : List Nat) (k : List Item) (defers : List AD) (kind : CallKind) (callers : List AFrame) (s1 : List Nat) (L' : Lvl) (g' : Goroutine) (w' : World) : Prop :=
  ∃ s' t' h', (s', t', h') ∈ L' ∧ (∀ i, i ∈ s1 ↔ i ∈ s') ∧ ∃ ρ', Agree U0 ρ ρ' ∧ Keeps K.own w w' ∧ CIds K (Us U0 h0 s') ⟨⟨fn, nt, t', .inRegion ops l :: k, defers, .run, kind⟩, callers, bare h'⟩ ∧
    Gam K ρ' ⟨⟨fn, nt, t', .inRegion ops l :: k, defers, .run, kind⟩, callers, h'⟩ cs g' w'
theorem Forks.sub {U0 : Nat → Prop} {h0 : AH} {ρ : Env} {cs : List Frame} {w : World} {fn : FuncId} {l : List Nat} {k : List Item} {defers : List AD} {kind : CallKind} {callers : List AFrame} {s1 : List Nat} {L L' : Lvl} {g' : Goroutine} {w' : World}
    (hs : ∀ e ∈ L, e ∈ L') (F : Forks K U0 h0 ρ cs w fn nt ops l k defers kind callers s1 L g' w') : Forks K U0 h0 ρ cs w fn nt ops l k defers kind callers s1 L' g' w' := by
  obtain ⟨s', t', h', a, b⟩ := F
  exact ⟨s', t', h', hs _ a, b⟩
theorem stepOne_ok (Gd : K.Good) (F : K.Facts) {ext : Ext} (X : ExtOk K ext) {call : FuncId → List AV → AH → M (AE × AH)} (C : CallOk K main call) (hops : ops.size ≤ 65536) {h0 : AH} {s : List Nat} {t : TT} {h : AH} :
    ∀ {r : List Nat} {L L' : Lvl}, stepOne K.P K.O ext call nt ops h0 s t h r L = .ok L' → (∀ e ∈ L, e ∈ L') ∧
      ∃ N, ∀ i ∈ r, i < ops.size → i ∉ s → ∀ {fn defers kind callers U0 ρ cs g w l k}, Ids K U0 h0 → CIds K (Us U0 h0 s) ⟨⟨fn, nt, t, .inRegion ops (i :: l) :: k, defers, .run, kind⟩, callers, bare h⟩ →
        Gam K ρ ⟨⟨fn, nt, t, .inRegion ops (i :: l) :: k, defers, .run, kind⟩, callers, h⟩ cs g w → Walk K.P main (DK K) (Forks K U0 h0 ρ cs w fn nt ops l k defers kind callers (i :: s) L') N g w
  | [], L, L', he => by
    simp only [stepOne] at he
    cases he
    exact ⟨fun e x => x, 0, fun i x => by cases x⟩
  | i :: r, L, L', he => by
    simp only [stepOne] at he
    split at he
    · cases he
    · cases he
    · rename_i t' h' hop
      split at he
      · rename_i hlim
        split at he
        · rename_i L1 hput
          obtain ⟨a1, s', hh, a2, a3, a4⟩ := putLvl_ok hput
          obtain ⟨b1, N, b2⟩ := stepOne_ok Gd F X C hops he
          obtain ⟨M, hM⟩ := opFull_ok Gd F X C hop
          refine ⟨fun e x => b1 e (a1 e x), N + M, fun j hj hj1 hj2 {fn defers kind callers U0 ρ cs g w l k} I0 I Γ => ?_⟩
          rcases List.mem_cons.1 hj with rfl | hj
          · have I' : CIds K (Us U0 h0 s) ⟨⟨fn, nt, t, .inRegion ops (j :: l) :: k, defers, .run, kind⟩, callers, rangeFor h0 j h⟩ :=
              I.lax rfl (fun n x => x) fun n x1 x2 => Us_fresh I0 (by omega) hj2 x1 x2
            refine ((hM I' (Γ.hp rfl)).weaken fun g' w' nx => ?_).mono (Nat.le_add_left _ _)
            obtain ⟨ρ', c1, c2, c3, c4, c5⟩ := nx
            refine ⟨s', t', hh, b1 _ a2, sameSet_mem a3, ρ', c1.mono (fun n x => .inl x), c2, ?_, c5.hp a4⟩
            refine c4.lax a4 (fun n x => ?_) fun n x1 x2 => by simp [bare] at x2
            rcases x with (x | ⟨q, q1, q2⟩) | x
            · exact .inl x
            · exact .inr ⟨q, (sameSet_mem a3 q).1 (List.mem_cons_of_mem _ q1), q2⟩
            · have hl : h'.lim = (rangeFor h0 j h).lim := c3.lim
              refine .inr ⟨j, (sameSet_mem a3 j).1 (List.mem_cons_self ..), x.1, ?_⟩
              have hl2 : h'.lim = h0.nb + (j + 1) * stride h0 := hl
              have hx := x.2
              dsimp only at hx
              omega
          · exact (b2 j hj hj1 hj2 I0 I Γ).mono (Nat.le_add_right _ _)
        · cases he
      · cases he
theorem stepLvl_ok (Gd : K.Good) (F : K.Facts) {ext : Ext} (X : ExtOk K ext) {call : FuncId → List AV → AH → M (AE × AH)} (C : CallOk K main call) (hops : ops.size ≤ 65536) {h0 : AH} :
    ∀ {A L L' : Lvl}, stepLvl K.P K.O ext call nt ops h0 A L = .ok L' → (∀ e ∈ L, e ∈ L') ∧
      ∃ N, ∀ s t h, (s, t, h) ∈ A → readyIn ops s ≠ [] ∧ ∀ i ∈ readyIn ops s, ∀ {fn defers kind callers U0 ρ cs g w l k}, Ids K U0 h0 → CIds K (Us U0 h0 s) ⟨⟨fn, nt, t, .inRegion ops (i :: l) :: k, defers, .run, kind⟩, callers, bare h⟩ →
        Gam K ρ ⟨⟨fn, nt, t, .inRegion ops (i :: l) :: k, defers, .run, kind⟩, callers, h⟩ cs g w → Walk K.P main (DK K) (Forks K U0 h0 ρ cs w fn nt ops l k defers kind callers (i :: s) L') N g w
  | [], L, L', he => by
    simp only [stepLvl] at he
    cases he
    exact ⟨fun e x => x, 0, fun s t h x => by cases x⟩
  | (s, t, h) :: A, L, L', he => by
    simp only [stepLvl] at he
    split at he
    · cases he
    · rename_i hne
      split at he
      · rename_i L1 h1
        obtain ⟨a1, N, a2⟩ := stepOne_ok Gd F X C hops h1
        obtain ⟨b1, M, b2⟩ := stepLvl_ok Gd F X C hops he
        refine ⟨fun e x => b1 e (a1 e x), N + M, fun s' t' h' hm => ?_⟩
        rcases List.mem_cons.1 hm with hq | hm
        · cases hq
          refine ⟨fun x => hne (by simp [x]), fun i hi {fn defers kind callers U0 ρ cs g w l k} I0 I Γ => ?_⟩
          obtain ⟨x1, x2⟩ := readyIn_mem hi
          exact ((a2 i hi x1 x2 I0 I Γ).weaken fun g' w' f => f.sub b1).mono (Nat.le_add_right _ _)
        · obtain ⟨c1, c2⟩ := b2 s' t' h' hm
          exact ⟨c1, fun i hi {fn defers kind callers U0 ρ cs g w l k} I0 I Γ => (c2 i hi I0 I Γ).mono (Nat.le_add_left _ _)⟩
      · cases he
end
end Go.Proofs.YtojifefdokekpaaDoor.SX
set_option linter.unusedSectionVars false
set_option linter.unusedVariables false
set_option linter.unusedSimpArgs false
namespace Go.Proofs.YtojifefdokekpaaDoor.SX
open Go.Conc
theorem inM_testBit (m i : Nat) : inM m i = m.testBit i := by
  unfold inM bitOf
  have h : Nat.land m (Nat.pow 2 i) = m &&& 2 ^ i := rfl
  rw [h]
  cases hb : m.testBit i with
  | true =>
    have : m &&& 2 ^ i ≠ 0 := fun e => by
      have := congrArg (fun x => Nat.testBit x i) e
      simp [Nat.testBit_and, hb, Nat.testBit_two_pow_self] at this
    cases hq : Nat.beq (m &&& 2 ^ i) 0 with
    | true => exact absurd (Nat.eq_of_beq_eq_true hq) this
    | false => rfl
  | false =>
    have : m &&& 2 ^ i = 0 := by
      apply Nat.eq_of_testBit_eq
      intro j
      rw [Nat.testBit_and, Nat.zero_testBit]
      by_cases e : i = j
      · subst e; simp [hb]
      · simp [Nat.testBit_two_pow, e]
    rw [this]; rfl
theorem inM_add (m i j : Nat) : inM (addM m i) j = (inM m j || decide (i = j)) := by
  rw [inM_testBit, inM_testBit]
  have : addM m i = m ||| 2 ^ i := rfl
  rw [this, Nat.testBit_or, Nat.testBit_two_pow]
theorem inM_zero (i : Nat) : inM 0 i = false := by rw [inM_testBit]; simp
theorem land_sub {a m : Nat} (h : Nat.beq (Nat.land a m) a = true) {j : Nat} (hj : inM a j = true) : inM m j = true := by
  have e : a &&& m = a := Nat.eq_of_beq_eq_true h
  rw [inM_testBit] at hj ⊢
  have := congrArg (fun x => Nat.testBit x j) e
  simp only [Nat.testBit_and, hj, Bool.true_and] at this
  exact this
theorem sub_land {a m : Nat} (h : ∀ j, inM a j = true → inM m j = true) : Nat.beq (Nat.land a m) a = true := by
  have : a &&& m = a := by
    apply Nat.eq_of_testBit_eq
    intro j
    rw [Nat.testBit_and]
    have := h j
    rw [inM_testBit, inM_testBit] at this
    cases ha : a.testBit j with
    | false => rfl
    | true => rw [this ha]; rfl
  have h2 : Nat.land a m = a := this
  rw [h2]
  exact Nat.beq_refl a
theorem inM_pred {l : List Edge} {j : Nat} : inM (predMask l) j = true ↔ ∃ e ∈ l, Region.binds .any e = true ∧ e.on = j := by
  induction l with
  | nil => simp [predMask, inM_zero]
  | cons e l ih =>
    unfold predMask
    cases hb : Region.binds .any e with
    | true =>
      simp only [inM_add, Bool.or_eq_true, ih, decide_eq_true_eq, List.mem_cons]
      constructor
      · rintro (⟨x, hx, a, b⟩ | h)
        · exact ⟨x, .inr hx, a, b⟩
        · exact ⟨e, .inl rfl, hb, h⟩
      · rintro ⟨x, rfl | hx, a, b⟩
        · exact .inr b
        · exact .inl ⟨x, hx, a, b⟩
    | false =>
      simp only [ih, List.mem_cons]
      constructor
      · rintro ⟨x, hx, a, b⟩; exact ⟨x, .inr hx, a, b⟩
      · rintro ⟨x, rfl | hx, a, b⟩
        · rw [hb] at a; cases a
        · exact ⟨x, hx, a, b⟩
theorem mem_infosFrom {l : List Oper} : ∀ {n : Nat} {x : Info}, x ∈ infosFrom n l ↔ ∃ i o, l[i]? = some o ∧ x = (n + i, o, predMask o.after.toList, quietOp o) := by
  induction l with
  | nil => intro n x; simp [infosFrom]
  | cons o l ih =>
    intro n x
    simp only [infosFrom, List.mem_cons, ih]
    constructor
    · rintro (rfl | ⟨i, o', h, rfl⟩)
      · exact ⟨0, o, rfl, rfl⟩
      · exact ⟨i + 1, o', by simpa using h, by rw [show n + 1 + i = n + (i + 1) by omega]⟩
    · rintro ⟨i, o', h, rfl⟩
      cases i with
      | zero => simp at h; subst h; exact .inl rfl
      | succ i => exact .inr ⟨i, o', by simpa using h, by rw [show n + 1 + i = n + (i + 1) by omega]⟩
theorem mem_infos {ops : Array Oper} {x : Info} : x ∈ infosOf ops ↔ ∃ i o, ops[i]? = some o ∧ x = (i, o, predMask o.after.toList, quietOp o) := by
  unfold infosOf
  rw [mem_infosFrom]
  simp
def Cons (s : List Nat) (m : Nat) : Prop := ∀ i, inM m i = true ↔ i ∈ s
theorem Cons.add {s : List Nat} {m i : Nat} (h : Cons s m) : Cons (i :: s) (addM m i) := fun j => by
  rw [inM_add, Bool.or_eq_true, h j, decide_eq_true_eq, List.mem_cons]
  constructor
  · rintro (x | x)
    · exact .inr x
    · exact .inl x.symm
  · rintro (x | x)
    · exact .inr x.symm
    · exact .inl x
theorem cons_nil : Cons [] 0 := fun i => by simp [inM_zero]
theorem ready_iff {ops : Array Oper} {s : List Nat} {i : Nat} : i ∈ readyIn ops s ↔ i ∉ s ∧ ∃ o, ops[i]? = some o ∧ ∀ e ∈ o.after.toList, Region.binds .any e = true → e.on ∈ s := by
  unfold readyIn
  rw [List.mem_filter]
  constructor
  · rintro ⟨h1, h2⟩
    simp only [Bool.and_eq_true, Bool.not_eq_true', List.contains_eq_mem, decide_eq_false_iff_not] at h2
    refine ⟨h2.1, ?_⟩
    have h3 := h2.2
    split at h3
    · rename_i o ho
      refine ⟨o, ho, fun e he hb => ?_⟩
      unfold boundIn at h3
      rw [← Array.all_toList, List.all_eq_true] at h3
      have := h3 e he
      simpa [hb] using this
    · cases h3
  · rintro ⟨h1, o, ho, h2⟩
    refine ⟨List.mem_range.2 (Array.getElem?_eq_some_iff.1 ho).1, ?_⟩
    simp only [Bool.and_eq_true, Bool.not_eq_true', List.contains_eq_mem, decide_eq_false_iff_not]
    refine ⟨h1, ?_⟩
    rw [ho]
    show boundIn s o = true
    unfold boundIn
    rw [← Array.all_toList, List.all_eq_true]
    intro e he
    cases hb : Region.binds .any e with
    | false => rfl
    | true => simpa using h2 e he hb
theorem can_iff {ops : Array Oper} {s : List Nat} {m : Nat} (c : Cons s m) {i : Nat} {o : Oper} (ho : ops[i]? = some o) : canM m (i, o, predMask o.after.toList, quietOp o) = true ↔ i ∈ readyIn ops s := by
  rw [ready_iff]
  unfold canM
  simp only [Bool.and_eq_true, Bool.not_eq_true']
  constructor
  · rintro ⟨h1, h2⟩
    refine ⟨fun hi => ?_, o, ho, fun e he hb => (c _).1 (land_sub h2 (inM_pred.2 ⟨e, he, hb, rfl⟩))⟩
    rw [(c i).2 hi] at h1; cases h1
  · rintro ⟨h1, o', ho', h2⟩
    rw [ho] at ho'; cases ho'
    refine ⟨?_, sub_land fun j hj => ?_⟩
    · cases hq : inM m i with
      | false => rfl
      | true => exact absurd ((c i).1 hq) h1
    · obtain ⟨e, he, hb, rfl⟩ := inM_pred.1 hj
      exact (c _).2 (h2 e he hb)
theorem op?_congr {P : Program} {O : Orc} {ext : Ext} {h : AH} {f g : Operand → AV} {o : Oper} (e : ∀ x ∈ o.op.operands.toList, f x = g x) : op? P O ext h f o = op? P O ext h g o := by
  have hc : ∀ (c : Call), (∀ x ∈ c.operands.toList, f x = g x) → ∀ ty, resolve? f c ty = resolve? g c ty := by
    intro c hc ty
    have hargs : c.args.toList.map f = c.args.toList.map g := List.map_congr_left fun x hx => hc x (by
      unfold Call.operands
      simp only [Array.toList_append, List.mem_append]
      exact .inr hx)
    unfold resolve?
    rw [hargs]
    split
    · rfl
    · rename_i recv name hcal
      have : f recv = g recv := hc recv (by unfold Call.operands; rw [hcal]; simp)
      rw [this]
    · rename_i fx hcal
      have : f fx = g fx := hc fx (by unfold Call.operands; rw [hcal]; simp)
      rw [this]
  have hparts : ∀ (ps : Array (Nat × Operand)), (∀ x ∈ (ps.toList.map (·.2)), f x = g x) → ps.toList.map (fun (i, x) => (i, f x)) = ps.toList.map (fun (i, x) => (i, g x)) := fun ps hp =>
    List.map_congr_left fun x hx => by
      have : f x.2 = g x.2 := hp x.2 (List.mem_map.2 ⟨x, hx, rfl⟩)
      show (x.1, f x.2) = (x.1, g x.2)
      rw [this]
  unfold op?
  generalize hop : o.op = op at e
  cases op <;> simp only [Op.operands, List.mem_cons, List.not_mem_nil, or_false, forall_eq_or_imp, forall_eq, List.toList_toArray, Array.toList_append, List.mem_append] at e <;> dsimp only
  case pick c a b => rw [e.1, e.2.1, e.2.2]
  case build t ps => rw [hparts ps e]
  case buildSlice t n ps => rw [hparts ps e]
  case makeFunc fn fs cs =>
    rw [List.map_congr_left (f := f) (g := g) fun x hx => e x (.inl hx), List.map_congr_left (f := f) (g := g) fun x hx => e x (.inr hx)]
  case slice t x l hh mx =>
    have hx : f x = g x := e x (by simp)
    have ho : ∀ (y : Option Operand), (∀ z, y = some z → f z = g z) → (y.map fun x => normI O (f x)) = y.map fun x => normI O (g x) := fun y hy => by
      cases y with
      | none => rfl
      | some z => simp [hy z rfl]
    rw [hx, ho l fun z hz => e z (by subst hz; simp), ho hh fun z hz => e z (by subst hz; simp), ho mx fun z hz => e z (by subst hz; simp)]
  case makeMap t r =>
    have : r.map f = r.map g := by
      cases r with
      | none => rfl
      | some z => simp [e z (by simp)]
    rw [this]
  case call c => rw [hc c e]
  case defer c => rw [hc c e]
  case unOp u t x => cases u <;> dsimp only <;> simp only [e]
  all_goals first
    | rfl
    | (simp only [e]; done)
    | (simp only [e.1, e.2]; done)
theorem valOp_same {r : M AV} {h h' : AH} {n : AN} (he : valOp r h = .ok (n, h')) : h' = h := by
  unfold valOp at he
  split at he
  · cases he; rfl
  · cases he
theorem quiet_same {P : Program} {O : Orc} {ext : Ext} {h h' : AH} {f : Operand → AV} {o : Oper} {n : AN} (hq : quietOp o = true) (he : op? P O ext h f o = .ok (n, h')) : h' = h := by
  unfold quietOp at hq
  unfold op? at he
  generalize o.op = op at hq he
  cases op <;> simp at hq <;> dsimp only at he
  case unOp u t x =>
    cases u <;> dsimp only at he <;> (repeat' split at he) <;> first | (cases he; rfl) | cases he
  all_goals first
    | exact valOp_same he
    | (cases he; rfl)
    | ((repeat' split at he) <;> first | exact valOp_same he | (cases he; rfl) | cases he)
def Alike (ops : Array Oper) (o : Oper) (t t' : TT) : Prop := ∀ d ∈ o.looksAt ops, t'.get d = t.get d
theorem Alike.eval {ops : Array Oper} {o : Oper} {t t' : TT} (h : Alike ops o t t') : ∀ x ∈ o.op.operands.toList, evalA t' x = evalA t x := by
  intro x hx
  cases x with
  | tmp d => exact h d (List.mem_append_left _ (List.mem_filterMap.2 ⟨.tmp d, hx, rfl⟩))
  | _ => rfl
theorem Alike.wanted {O : Orc} {ops : Array Oper} {o : Oper} {t t' : TT} (h : Alike ops o t t') : wantedA O ops t' o = wantedA O ops t o := by
  unfold wantedA
  cases hg : o.guard with
  | none => rfl
  | some gw =>
    obtain ⟨j, want⟩ := gw
    dsimp only
    have : yieldedA O ops t' j = yieldedA O ops t j := by
      unfold yieldedA
      cases hd : (ops[j]?).bind (·.dst) with
      | none => rfl
      | some d =>
        dsimp only
        rw [h d (List.mem_append_right _ (by rw [hg]; simp [hd]))]
    rw [this]
theorem opFull_alike {P : Program} {O : Orc} {ext : Ext} {call : FuncId → List AV → AH → M (AE × AH)} {nt : Nat} {ops : Array Oper} {i : Nat} {o : Oper} {t t' t1 : TT} {h h1 : AH} (ho : ops[i]? = some o) (ha : Alike ops o t t')
    (he : opFull P O ext call nt ops i t h = .ok (.on t1 h1)) : ∃ v, t1 = putA nt t o.dst v ∧ opFull P O ext call nt ops i t' h = .ok (.on (putA nt t' o.dst v) h1) := by
  unfold opFull at he ⊢
  rw [ho] at he ⊢
  dsimp only at he ⊢
  rw [ha.wanted, op?_congr ha.eval]
  split at he
  · cases he
  · rename_i hw; cases he; exact ⟨_, rfl, rfl⟩
  · rename_i hw
    split at he
    · cases he
    · rename_i v h' hop; cases he; exact ⟨v, rfl, rfl⟩
    · rename_i h' hop; cases he; exact ⟨undefA, rfl, rfl⟩
    · rename_i f args h' hop
      split at he
      · rename_i v h'' hc; cases he; exact ⟨v, rfl, rfl⟩
      · cases he
      · cases he
    · cases he
    · cases he
theorem opFull_quiet {P : Program} {O : Orc} {ext : Ext} {call : FuncId → List AV → AH → M (AE × AH)} {nt : Nat} {ops : Array Oper} {i : Nat} {o : Oper} {t : TT} {h : AH} (ho : ops[i]? = some o) (hq : quietOp o = true) {v : AV}
    (he : wantedA O ops t o = .ok false ∧ v = undefA ∨ wantedA O ops t o = .ok true ∧ ∃ h', op? P O ext h (evalA t) o = .ok (.value v, h')) : opFull P O ext call nt ops i t h = .ok (.on (putA nt t o.dst v) h) := by
  unfold opFull
  rw [ho]
  dsimp only
  rcases he with ⟨hw, rfl⟩ | ⟨hw, h', hop⟩
  · rw [hw]
  · rw [hw]
    dsimp only
    have := quiet_same hq hop
    subst this
    rw [hop]
theorem putA_get {nt : Nat} (hnt : nt ≤ 60000) (t : TT) (dst : Option Tmp) (v : AV) (n : Nat) : (putA nt t dst v).get n = if dst = some n ∧ n < nt then v else t.get n := by
  unfold putA
  cases dst with
  | none => simp
  | some d =>
    dsimp only
    cases hb : Nat.ble (d + 1) nt with
    | true =>
      have hd : Nat.succ d ≤ nt := Nat.le_of_ble_eq_true hb
      have hb16 : Nat.succ d < 2 ^ 16 := Nat.lt_of_le_of_lt (Nat.le_trans hd hnt) (by decide)
      dsimp only
      rw [TT.get_set v 16 t d n hb16]
      by_cases e : n = d
      · subst e; rw [if_pos rfl, if_pos ⟨rfl, hd⟩]
      · rw [if_neg e, if_neg fun x => e (Option.some.inj x.1).symm]
    | false =>
      dsimp only
      rw [if_neg]
      rintro ⟨e, hn⟩
      obtain rfl := Option.some.inj e
      have h2 : Nat.ble (d + 1) nt = true := Nat.ble_eq_true_of_le (Nat.succ_le_of_lt hn)
      rw [h2] at hb; cases hb
def Pending (ops : Array Oper) (s r : List Nat) (n : Nat) : Prop := ∃ i o, i ∈ s ∧ i ∉ r ∧ ops[i]? = some o ∧ o.dst = some n
def Down (ops : Array Oper) (r : List Nat) : Prop := ∀ i ∈ r, ∀ o, ops[i]? = some o → ∀ e ∈ o.after.toList, Region.binds .any e = true → e.on ∈ r
theorem Down.cons {ops : Array Oper} {r : List Nat} (d : Down ops r) {i : Nat} (h : i ∈ readyIn ops r) : Down ops (i :: r) := by
  obtain ⟨_, o, ho, hp⟩ := ready_iff.1 h
  intro j hj oj hoj e he hb
  rcases List.mem_cons.1 hj with rfl | hj
  · rw [ho] at hoj; cases hoj
    exact List.mem_cons_of_mem _ (hp e he hb)
  · exact List.mem_cons_of_mem _ (d j hj oj hoj e he hb)
structure Near (ops : Array Oper) (nt : Nat) (s r : List Nat) (t tr : TT) : Prop where
  sub : ∀ i ∈ r, i ∈ s
  quiet : ∀ i ∈ s, i ∉ r → ∃ o, ops[i]? = some o ∧ quietOp o = true
  same : ∀ n, n < nt → ¬ Pending ops s r n → tr.get n = t.get n
  out : ∀ n, nt ≤ n → tr.get n = t.get n
  down : Down ops r
theorem inM_lor (a b j : Nat) : inM (Nat.lor a b) j = (inM a j || inM b j) := by
  rw [inM_testBit, inM_testBit, inM_testBit]
  exact Nat.testBit_or a b j
theorem doneM_ok {m i : Nat} : ∀ {l : List Info}, inM (doneM m l) i = true → ∃ x ∈ l, x.2.2.2 = false ∧ inM m x.1 = true ∧ inM x.2.2.1 i = true
  | [], h => by simp [doneM, inM_zero] at h
  | x :: l, h => by
    simp only [doneM] at h
    split at h
    · rename_i hb
      simp only [Bool.and_eq_true, Bool.not_eq_true'] at hb
      rw [inM_lor, Bool.or_eq_true] at h
      rcases h with h | h
      · exact ⟨x, List.mem_cons_self .., hb.1, hb.2, h⟩
      · obtain ⟨y, hy, z⟩ := doneM_ok h
        exact ⟨y, List.mem_cons_of_mem _ hy, z⟩
    · obtain ⟨y, hy, z⟩ := doneM_ok h
      exact ⟨y, List.mem_cons_of_mem _ hy, z⟩
theorem inM_rem {infos : List Info} {m i : Nat} (h1 : inM m i = true) (h2 : inM (doneM m infos) i = false) : inM (remM infos m) i = true := by
  unfold remM
  rw [inM_testBit] at h1 h2 ⊢
  show (m &&& (m ^^^ doneM m infos)).testBit i = true
  rw [Nat.testBit_and, Nat.testBit_xor, h1, h2]
  rfl
theorem Near.rem {ops : Array Oper} {nt : Nat} {s r : List Nat} {t tr : TT} (N : Near ops nt s r t tr) {m : Nat} (hc : Cons s m) {i : Nat} (hi : i ∈ s) (hr : i ∉ r) : inM (remM (infosOf ops) m) i = true := by
  refine inM_rem ((hc i).2 hi) ?_
  cases hd : inM (doneM m (infosOf ops)) i with
  | false => rfl
  | true =>
    obtain ⟨x, hx, h1, h2, h3⟩ := doneM_ok hd
    obtain ⟨j, o, ho, rfl⟩ := mem_infos.1 hx
    dsimp only at h1 h2 h3
    have hj : j ∈ s := (hc j).1 h2
    by_cases hjr : j ∈ r
    · obtain ⟨e, he, hb, rfl⟩ := inM_pred.1 h3
      exact absurd (N.down j hjr o ho e he hb) hr
    · obtain ⟨o', ho', hq⟩ := N.quiet j hj hjr
      rw [ho] at ho'; cases ho'
      rw [hq] at h1; cases h1
def Topo (ops : Array Oper) : List Nat → Prop
  | [] => True
  | i :: s => i ∈ readyIn ops s ∧ Topo ops s
theorem Topo.ready {ops : Array Oper} {r : List Nat} : ∀ {s : List Nat}, Topo ops s → (∃ i ∈ s, i ∉ r) → ∃ i ∈ s, i ∈ readyIn ops r
  | [], _, ⟨i, h, _⟩ => by cases h
  | a :: s, ⟨h1, h2⟩, hx => by
    by_cases hs : ∃ i ∈ s, i ∉ r
    · obtain ⟨i, hi, hr⟩ := Topo.ready h2 hs
      exact ⟨i, List.mem_cons_of_mem _ hi, hr⟩
    · have hall : ∀ i ∈ s, i ∈ r := fun i hi => Classical.byContradiction fun hn => hs ⟨i, hi, hn⟩
      obtain ⟨i, hi, hn⟩ := hx
      rcases List.mem_cons.1 hi with rfl | hi
      · obtain ⟨_, o, ho, hp⟩ := ready_iff.1 h1
        exact ⟨i, List.mem_cons_self .., ready_iff.2 ⟨hn, o, ho, fun e he hb => hall _ (hp e he hb)⟩⟩
      · exact absurd (hall i hi) hn
theorem Topo.lt {ops : Array Oper} : ∀ {s : List Nat}, Topo ops s → ∀ i ∈ s, i < ops.size
  | [], _, i, h => by cases h
  | a :: s, ⟨h1, h2⟩, i, h => by
    rcases List.mem_cons.1 h with rfl | h
    · exact (readyIn_mem h1).1
    · exact Topo.lt h2 i h
theorem regionOk_spec {ops : Array Oper} (h : regionOk ops (infosOf ops) = true) {i j d : Nat} {oi oj : Oper} (hi : ops[i]? = some oi) (hj : ops[j]? = some oj) (hq : quietOp oi = true) (hd : oi.dst = some d) (hl : d ∈ oj.looksAt ops) :
    ∃ e ∈ oj.after.toList, Region.binds .any e = true ∧ e.on = i := by
  unfold regionOk at h
  rw [List.all_eq_true] at h
  have h1 := h _ (mem_infos.2 ⟨i, oi, hi, rfl⟩)
  dsimp only at h1
  rw [hq, hd] at h1
  dsimp only at h1
  rw [List.all_eq_true] at h1
  have h2 := h1 _ (mem_infos.2 ⟨j, oj, hj, rfl⟩)
  dsimp only at h2
  have hc : (oj.looksAt ops).contains d = true := by simpa using hl
  rw [hc] at h2
  simp only [Bool.not_true, Bool.false_or] at h2
  exact inM_pred.1 h2
theorem Near.alike {ops : Array Oper} {nt : Nat} {s r : List Nat} {t tr : TT} (N : Near ops nt s r t tr) (hok : regionOk ops (infosOf ops) = true) {j : Nat} {oj : Oper} (hj : ops[j]? = some oj) (hr : j ∈ readyIn ops r) : Alike ops oj t tr := by
  intro d hd
  rcases Nat.lt_or_ge d nt with hlt | hge
  rotate_left
  · exact N.out d hge
  refine N.same d hlt fun ⟨i, oi, h1, h2, h3, h4⟩ => ?_
  obtain ⟨o, ho, hq⟩ := N.quiet i h1 h2
  rw [h3] at ho; cases ho
  obtain ⟨e, he, hb, rfl⟩ := regionOk_spec hok h3 hj hq h4 hd
  obtain ⟨_, o', ho', hp⟩ := ready_iff.1 hr
  rw [hj] at ho'; cases ho'
  exact h2 (hp e he hb)
theorem Near.drawn {ops : Array Oper} {nt : Nat} (hnt : nt ≤ 60000) {s r : List Nat} {t tr : TT} (N : Near ops nt s r t tr) {i : Nat} {o : Oper} (ho : ops[i]? = some o) (hi : i ∈ s) (hir : i ∈ readyIn ops r) {v : AV} (hv : ∀ d, o.dst = some d → d < nt → t.get d = v) :
    Near ops nt s (i :: r) t (putA nt tr o.dst v) := by
  refine ⟨fun j hj => ?_, fun j hj hn => N.quiet j hj fun x => hn (List.mem_cons_of_mem _ x), fun n hlt hn => ?_, fun n hge => ?_, ?_⟩
  · rcases List.mem_cons.1 hj with rfl | hj
    · exact hi
    · exact N.sub j hj
  · rw [putA_get hnt]
    split
    · rename_i hd; exact (hv n hd.1 hd.2).symm
    · rename_i hd
      refine N.same n hlt fun ⟨a, oa, h1, h2, h3, h4⟩ => ?_
      by_cases e : a = i
      · subst e
        rw [ho] at h3; cases h3
        exact hd ⟨h4, hlt⟩
      · exact hn ⟨a, oa, h1, (fun x => (List.mem_cons.1 x).elim e h2), h3, h4⟩
  · rw [putA_get hnt, if_neg fun x => absurd x.2 (Nat.not_lt.2 hge)]
    exact N.out n hge
  · exact N.down.cons hir
structure Soaked (ops : Array Oper) (nt : Nat) (s : List Nat) (t : TT) (s2 : List Nat) (m2 : Nat) (t2 : TT) : Prop where
  sub : ∀ i ∈ s, i ∈ s2
  quiet : ∀ i ∈ s2, i ∉ s → ∃ o, ops[i]? = some o ∧ quietOp o = true
  same : ∀ n, (¬ ∃ i o, i ∈ s2 ∧ i ∉ s ∧ ops[i]? = some o ∧ o.dst = some n ∧ n < nt) → t2.get n = t.get n
  cons : Cons s2 m2
  topo : Topo ops s2
theorem soakM_ok {P : Program} {O : Orc} {ext : Ext} {nt : Nat} (hnt : nt ≤ 60000) {ops : Array Oper} {h : AH} : ∀ {l : List Info}, (∀ x ∈ l, x ∈ infosOf ops) → ∀ {s : List Nat} {m : Nat} {t : TT} {s2 : List Nat} {m2 : Nat} {t2 : TT}, Cons s m → Topo ops s →
    soakM P O ext nt ops h l s m t = .ok (s2, m2, t2) → Soaked ops nt s t s2 m2 t2
  | [], _, s, m, t, s2, m2, t2, c, tp, he => by
    simp only [soakM] at he
    cases he
    exact ⟨fun i x => x, fun i x y => absurd x y, fun n _ => rfl, c, tp⟩
  | x :: l, hl, s, m, t, s2, m2, t2, c, tp, he => by
    have hl' : ∀ y ∈ l, y ∈ infosOf ops := fun y hy => hl y (List.mem_cons_of_mem _ hy)
    simp only [soakM] at he
    split at he
    · exact soakM_ok hnt hl' c tp he
    · rename_i hb
      rw [Bool.and_eq_true] at hb
      obtain ⟨i, o, ho, rfl⟩ := mem_infos.1 (hl x (List.mem_cons_self ..))
      dsimp only at hb he
      have hr := (can_iff c ho).1 hb.2
      have step : ∀ {v : AV} {s2 : List Nat} {m2 : Nat} {t2 : TT}, soakM P O ext nt ops h l (i :: s) (addM m i) (putA nt t o.dst v) = .ok (s2, m2, t2) → Soaked ops nt s t s2 m2 t2 := by
        intro v s2 m2 t2 he
        have S := soakM_ok hnt hl' (c.add (i := i)) (show Topo ops (i :: s) from ⟨hr, tp⟩) he
        refine ⟨fun j hj => S.sub j (List.mem_cons_of_mem _ hj), fun j hj hn => ?_, fun n hn => ?_, S.cons, S.topo⟩
        · by_cases e : j = i
          · subst e; exact ⟨o, ho, hb.1⟩
          · exact S.quiet j hj fun x => (List.mem_cons.1 x).elim e hn
        · rw [S.same n fun ⟨j, oj, h1, h2, h3, h4, h5⟩ => hn ⟨j, oj, h1, fun x => h2 (List.mem_cons_of_mem _ x), h3, h4, h5⟩, putA_get hnt]
          refine if_neg fun ⟨h4, h5⟩ => hn ⟨i, o, S.sub i (List.mem_cons_self ..), (readyIn_mem hr).2, ho, h4, h5⟩
      split at he
      · cases he
      · exact step he
      · split at he
        · exact step he
        · cases he
        · cases he
theorem Near.next {ops : Array Oper} {nt : Nat} (hnt : nt ≤ 60000) {s r : List Nat} {t tr : TT} (N : Near ops nt s r t tr) {j : Nat} {o : Oper} (ho : ops[j]? = some o) (hj : j ∉ s) (hjr : j ∈ readyIn ops r) {v : AV} {s2 : List Nat} {m2 : Nat} {t2 : TT}
    (S : Soaked ops nt (j :: s) (putA nt t o.dst v) s2 m2 t2) : Near ops nt s2 (j :: r) t2 (putA nt tr o.dst v) := by
  have hsub : ∀ i ∈ j :: r, i ∈ j :: s := fun i hi => by
    rcases List.mem_cons.1 hi with rfl | hi
    · exact List.mem_cons_self ..
    · exact List.mem_cons_of_mem _ (N.sub i hi)
  have same2 : ∀ n, (¬ ∃ i o, i ∈ s2 ∧ i ∉ j :: r ∧ ops[i]? = some o ∧ o.dst = some n ∧ n < nt) → t2.get n = (putA nt t o.dst v).get n := fun n hn =>
    S.same n fun ⟨i, oi, h1, h2, h3, h4, h5⟩ => hn ⟨i, oi, h1, fun x => h2 (hsub i x), h3, h4, h5⟩
  refine ⟨fun i hi => S.sub i (hsub i hi), fun i hi hn => ?_, fun n hlt hn => ?_, fun n hge => ?_, N.down.cons hjr⟩
  · by_cases e : i ∈ j :: s
    · rcases List.mem_cons.1 e with rfl | e
      · exact absurd (List.mem_cons_self ..) hn
      · exact N.quiet i e fun x => hn (List.mem_cons_of_mem _ x)
    · exact S.quiet i hi e
  · rw [same2 n fun ⟨i, oi, h1, h2, h3, h4, h5⟩ => hn ⟨i, oi, h1, h2, h3, h4⟩, putA_get hnt, putA_get hnt]
    split
    · rfl
    · refine N.same n hlt fun ⟨a, oa, h1, h2, h3, h4⟩ => hn ⟨a, oa, S.sub a (List.mem_cons_of_mem _ h1), (fun x => ?_), h3, h4⟩
      rcases List.mem_cons.1 x with rfl | x
      · exact hj h1
      · exact h2 x
  · rw [same2 n fun ⟨i, oi, h1, h2, h3, h4, h5⟩ => absurd h5 (Nat.not_lt.2 hge), putA_get hnt, putA_get hnt, if_neg fun x => absurd x.2 (Nat.not_lt.2 hge), if_neg fun x => absurd x.2 (Nat.not_lt.2 hge)]
    exact N.out n hge
theorem Near.begin {ops : Array Oper} {nt : Nat} {t : TT} {s2 : List Nat} {m2 : Nat} {t2 : TT} (S : Soaked ops nt [] t s2 m2 t2) : Near ops nt s2 [] t2 t :=
  ⟨(fun i hi => by cases hi), fun i hi hn => S.quiet i hi hn, fun n hlt hn => (S.same n fun ⟨i, oi, h1, h2, h3, h4, h5⟩ => hn ⟨i, oi, h1, h2, h3, h4⟩).symm, fun n hge => (S.same n fun ⟨i, oi, h1, h2, h3, h4, h5⟩ => absurd h5 (Nat.not_lt.2 hge)).symm, fun i hi => by cases hi⟩
theorem Near.over {ops : Array Oper} {nt : Nat} {s r : List Nat} {t tr : TT} (N : Near ops nt s r t tr) (tp : Topo ops s) (hr : readyIn ops r = []) : (∀ i ∈ s, i ∈ r) ∧ readyIn ops s = [] ∧ ∀ n, tr.get n = t.get n := by
  have hall : ∀ i ∈ s, i ∈ r := fun i hi => Classical.byContradiction fun hn => by
    obtain ⟨j, _, hj⟩ := tp.ready ⟨i, hi, hn⟩
    rw [hr] at hj; cases hj
  refine ⟨hall, ?_, fun n => ?_⟩
  · rw [readyIn_congr (b := r) fun i => ⟨hall i, N.sub i⟩]; exact hr
  · rcases Nat.lt_or_ge n nt with hlt | hge
    · exact N.same n hlt fun ⟨i, o, h1, h2, _⟩ => h2 (hall i h1)
    · exact N.out n hge
theorem holdsQ_ok {P : Program} {O : Orc} {ext : Ext} {nt : Nat} {ops : Array Oper} {m : Nat} {t : TT} {h : AH} : ∀ {l : List Info}, holdsQ P O ext nt ops m t h l = true → ∀ x ∈ l, x.2.2.2 = true → inM m x.1 = true →
    ∃ v, (wantedA O ops t x.2.1 = .ok false ∧ v = undefA ∨ wantedA O ops t x.2.1 = .ok true ∧ ∃ h', op? P O ext h (evalA t) x.2.1 = .ok (.value v, h')) ∧ ∀ d, x.2.1.dst = some d → d < nt → t.get d = v
  | [], _, x, hx, _, _ => by cases hx
  | y :: l, he, x, hx, hq, hm => by
    simp only [holdsQ, Bool.and_eq_true] at he
    have put : ∀ {v : AV}, dstIs nt t x.2.1.dst v = true → ∀ d, x.2.1.dst = some d → d < nt → t.get d = v := by
      intro v hd d hdd hlt
      unfold dstIs at hd
      rw [hdd] at hd
      dsimp only at hd
      have h2 : Nat.ble (d + 1) nt = true := Nat.ble_eq_true_of_le (Nat.succ_le_of_lt hlt)
      rw [h2] at hd
      exact AV.eqb_eq _ _ hd
    rcases List.mem_cons.1 hx with rfl | hx
    · have h1 := he.1
      rw [hq, hm] at h1
      simp only [Bool.and_self] at h1
      split at h1
      · cases h1
      · rename_i hw; exact ⟨_, .inl ⟨hw, rfl⟩, put h1⟩
      · rename_i hw
        split at h1
        · rename_i v h' hop; exact ⟨v, .inr ⟨hw, h', hop⟩, put h1⟩
        · cases h1
    · exact holdsQ_ok he.2 x hx hq hm
end Go.Proofs.YtojifefdokekpaaDoor.SX
set_option linter.unusedSectionVars false
set_option linter.unusedVariables false
set_option linter.unusedSimpArgs false
namespace Go.Proofs.YtojifefdokekpaaDoor.SX
open Go.Conc
section
variable {K : Ctx} {main : Bool} {nt : Nat} {ops : Array Oper}
theorem Next.before {U : Nat → Prop} {ρ ρ' : Env} {cs : List Frame} {w w' w'' : World} {h0 : AH} {c : ACfg} {g'' : Goroutine} (A : Agree U ρ ρ') (k : Keeps K.own w w') (n : Next K U ρ' cs w' h0 c g'' w'') : Next K U ρ cs w h0 c g'' w'' := by
  obtain ⟨ρ'', a1, a2, a3, a4, a5⟩ := n
  exact ⟨ρ'', A.trans a1 (fun _ x => x), k.trans a2, a3, a4, a5⟩
theorem Next.grow {U : Nat → Prop} {ρ ρ' : Env} {cs : List Frame} {w w' w'' : World} {h0 h1 : AH} {c : ACfg} {g'' : Goroutine} (A : Agree U ρ ρ') (k : Keeps K.own w w') (gr : Grows K U h0 h1)
    (n : Next K (plus U h0.nb h1.nb) ρ' cs w' h1 c g'' w'') : Next K U ρ cs w h0 c g'' w'' := by
  obtain ⟨ρ'', a1, a2, a3, a4, a5⟩ := n
  exact ⟨ρ'', A.trans a1 plus_sub, k.trans a2, gr.trans a3, a4.congr fun n => plus_plus gr.nb a3.nb n, a5⟩
theorem ARNext.before {U : Nat → Prop} {ρ ρ' : Env} {cs : List Frame} {w w' w'' : World} {h0 : AH} {fn : FuncId} {todo : List Item} {defers : List AD} {kind : CallKind} {callers : List AFrame} {r : AR} {g'' : Goroutine} (A : Agree U ρ ρ') (k : Keeps K.own w w')
    (n : ARNext K U ρ' cs w' h0 fn nt todo defers kind callers r g'' w'') : ARNext K U ρ cs w h0 fn nt todo defers kind callers r g'' w'' := by
  cases r with
  | on t h => exact Next.before A k n
  | panic t c h => exact fun td => Next.before A k (n td)
theorem ARNext.grow {U : Nat → Prop} {ρ ρ' : Env} {cs : List Frame} {w w' w'' : World} {h0 h1 : AH} {fn : FuncId} {todo : List Item} {defers : List AD} {kind : CallKind} {callers : List AFrame} {r : AR} {g'' : Goroutine} (A : Agree U ρ ρ') (k : Keeps K.own w w') (gr : Grows K U h0 h1)
    (n : ARNext K (plus U h0.nb h1.nb) ρ' cs w' h1 fn nt todo defers kind callers r g'' w'') : ARNext K U ρ cs w h0 fn nt todo defers kind callers r g'' w'' := by
  cases r with
  | on t h => exact Next.grow A k gr n
  | panic t c h => exact fun td => Next.grow A k gr (n td)
def LvIds (K : Ctx) (U0 : Nat → Prop) (s : List Nat) (cur : AFrame) (callers : List AFrame) (h : AH) : Option AH → Prop
  | none => CIds K U0 ⟨cur, callers, h⟩
  | some h0 => Ids K U0 h0 ∧ CIds K (Us U0 h0 s) ⟨cur, callers, bare h⟩
theorem runLvls_ok (Gd : K.Good) (F : K.Facts) {ext : Ext} (X : ExtOk K ext) {call : FuncId → List AV → AH → M (AE × AH)} (C : CallOk K main call) (hops : ops.size ≤ 65536) :
    ∀ {n : Nat} {fork : Option AH} {L : Lvl} {r : AR}, runLvls K.P K.O ext call nt ops n fork L = .ok r →
      ∃ N, ∀ s t h, (s, t, h) ∈ L → ∀ {fn defers kind callers U0 ρ cs g w l k}, (∀ j ∈ s, j < ops.size) → Sched ops s l →
        LvIds K U0 s ⟨fn, nt, t, .inRegion ops l :: k, defers, .run, kind⟩ callers h fork → Gam K ρ ⟨⟨fn, nt, t, .inRegion ops l :: k, defers, .run, kind⟩, callers, h⟩ cs g w →
        Walk K.P main (DK K) (ARNext K U0 ρ cs w (fork.getD h) fn nt k defers kind callers r) N g w := by
  intro n
  induction n with
  | zero => intro fork L r he; simp only [runLvls] at he; cases he
  | succ n ih =>
    intro fork L r he
    simp only [runLvls] at he
    split at he
    · rename_i s t h h0
      obtain ⟨N, hN⟩ := ih he
      refine ⟨N, fun s' t' h' hm {fn defers kind callers U0 ρ cs g w l k} hb hs I Γ => ?_⟩
      cases List.mem_singleton.1 hm
      obtain ⟨I0, I⟩ := I
      have hst : ops.size * stride h0 ≤ h0.lim - h0.nb := Nat.le_trans (Nat.mul_le_mul_right _ hops) (Nat.mul_div_le _ _)
      have hI : CIds K (plus U0 h0.nb (rangeBack h0 ops.size h).nb) ⟨⟨fn, nt, t, .inRegion ops l :: k, defers, .run, kind⟩, callers, rangeBack h0 ops.size h⟩ := by
        refine I.lax rfl (fun m x => ?_) fun m x1 x2 x3 => ?_
        · rcases x with x | ⟨j, j1, j2, j3⟩
          · exact .inl x
          · refine .inr ⟨by omega, Nat.lt_of_lt_of_le j3 (Nat.add_le_add_left (Nat.mul_le_mul_right _ (hb j j1)) _)⟩
        · have hx1 : h0.nb + ops.size * stride h0 ≤ m := x1
          rcases x3 with x | x
          · exact I0.fresh m (by omega) x2 x
          · have := x.2; exact absurd this (Nat.not_lt.2 x1)
      have gr : Grows K U0 h0 (rangeBack h0 ops.size h) := ⟨Nat.le_add_right _ _, rfl, hI.ids⟩
      have := hN s t _ (List.mem_singleton.2 rfl) hb hs hI (Γ.hp rfl)
      exact this.weaken fun g' w' x => ARNext.grow (Agree.refl _ _) (Keeps.refl _ _) gr x
    · rename_i s t h
      split at he
      · rename_i hr
        cases he
        refine ⟨1, fun s' t' h' hm {fn defers kind callers U0 ρ cs g w l k} hb hs I Γ => ?_⟩
        cases List.mem_singleton.1 hm
        cases l with
        | cons i l => have := hs.1; rw [hr] at this; cases this
        | nil => exact leads_to (fun ρ tm w cs R T b ds => stR_region_end) U0 ρ cs g w I Γ
      · rename_i i hr
        have front : ∀ {l}, Sched ops s l → ∃ l', l = i :: l' ∧ Sched ops (i :: s) l' := fun {l} hs => by
          cases l with
          | nil => have : readyIn ops s = [] := hs; rw [hr] at this; cases this
          | cons j l =>
            have := hs.1
            rw [hr] at this
            obtain rfl := List.mem_singleton.1 this
            exact ⟨l, rfl, hs.2⟩
        have hi : i < ops.size := (readyIn_mem (s := s) (by rw [hr]; exact List.mem_singleton.2 rfl)).1
        split at he
        · cases he
        · rename_i t' c h' hop
          cases he
          obtain ⟨N, hN⟩ := opFull_ok Gd F X C hop
          refine ⟨N, fun s' t' h' hm {fn defers kind callers U0 ρ cs g w l k} hb hs I Γ => ?_⟩
          cases List.mem_singleton.1 hm
          obtain ⟨l', rfl, hs'⟩ := front hs
          exact hN I Γ
        · rename_i t' h' hop
          obtain ⟨N, hN⟩ := opFull_ok Gd F X C hop
          obtain ⟨M, hM⟩ := ih he
          refine ⟨N + M, fun s' t2 h2 hm {fn defers kind callers U0 ρ cs g w l k} hb hs I Γ => ?_⟩
          cases List.mem_singleton.1 hm
          obtain ⟨l', rfl, hs'⟩ := front hs
          refine Walk.trans (fun g' w' nx => ?_) (hN I Γ)
          obtain ⟨ρ', a1, a2, a3, a4, a5⟩ := nx
          refine (hM (i :: s) t' h' (List.mem_singleton.2 rfl) ?_ hs' a4 a5).weaken fun g2 w2 x => ARNext.grow a1 a2 a3 x
          intro j hj
          rcases List.mem_cons.1 hj with rfl | hj
          · exact hi
          · exact hb j hj
      · rename_i hn1 hn2
        split at he
        · rename_i L' hst
          obtain ⟨_, N, hN⟩ := stepOne_ok Gd F X C hops hst
          obtain ⟨M, hM⟩ := ih he
          refine ⟨N + M, fun s' t2 h2 hm {fn defers kind callers U0 ρ cs g w l k} hb hs I Γ => ?_⟩
          cases List.mem_singleton.1 hm
          cases l with
          | nil => exact absurd hs hn1
          | cons i l =>
            obtain ⟨hi1, hi2⟩ := readyIn_mem hs.1
            have I' : CIds K U0 ⟨⟨fn, nt, t, .inRegion ops (i :: l) :: k, defers, .run, kind⟩, callers, h⟩ := I
            refine Walk.trans (fun g' w' fk => ?_) (hN i hs.1 hi1 hi2 I'.ids (I'.lax rfl (fun n x => .inl x) fun n x1 x2 => by simp [bare] at x2) Γ)
            obtain ⟨s', t', h', b1, b2, ρ', b3, b4, b5, b6⟩ := fk
            refine (hM s' t' h' b1 (fun j hj => ?_) (hs.2.congr b2) ⟨I'.ids, b5⟩ b6).weaken fun g2 w2 x => ARNext.before b3 b4 x
            rcases List.mem_cons.1 ((b2 j).2 hj) with rfl | hj
            · exact hi1
            · exact hb j hj
        · cases he
    · rename_i h0 hn
      split at he
      · rename_i L' hst
        obtain ⟨_, N, hN⟩ := stepLvl_ok Gd F X C hops hst
        obtain ⟨M, hM⟩ := ih he
        refine ⟨N + M, fun s' t2 h2 hm {fn defers kind callers U0 ρ cs g w l k} hb hs I Γ => ?_⟩
        obtain ⟨c1, c2⟩ := hN s' t2 h2 hm
        cases l with
        | nil => exact absurd hs c1
        | cons i l =>
          obtain ⟨hi1, hi2⟩ := readyIn_mem hs.1
          obtain ⟨I0, I⟩ := I
          refine Walk.trans (fun g' w' fk => ?_) (c2 i hs.1 I0 I Γ)
          obtain ⟨s', t', h', b1, b2, ρ', b3, b4, b5, b6⟩ := fk
          refine (hM s' t' h' b1 (fun j hj => ?_) (hs.2.congr b2) ⟨I0, b5⟩ b6).weaken fun g2 w2 x => ARNext.before b3 b4 x
          rcases List.mem_cons.1 ((b2 j).2 hj) with rfl | hj
          · exact hi1
          · exact hb j hj
      · cases he
    · cases he
theorem draw_step (F : K.Facts) {tmps : TT} {h : AH} {id : Nat} {fn : FuncId} {defers : List AD} {kind : CallKind} {callers : List AFrame} {ρ : Env} {cs : List Frame} {g : Goroutine} {w : World} {k : List Item}
    (Γ : Gam K ρ ⟨⟨fn, nt, tmps, .code (.region id ops true) :: k, defers, .run, kind⟩, callers, h⟩ cs g w) :
    Walk K.P main (DK K) (fun g' w' => ∃ t, Keeps K.own w w' ∧ Gam K ρ ⟨⟨fn, nt, tmps, .inRegion ops (Region.schedule true ops t) :: k, defers, .run, kind⟩, callers, h⟩ cs g' w') 1 g w := by
  refine Walk.one Γ.running fun d => ?_
  obtain ⟨R, tm, frs, h1, h2, h3, hc, rfl⟩ := gam_run.1 (Γ.drawn d)
  obtain ⟨d', t, e⟩ := stR_drawn (main := main) (ops := ops) (b := bB ρ fn kind) (a := aB ρ kind tm defers) (k := k) (cs := frs ++ cs) (w := drawnAt w d) (id := id) F.mixed
  rw [e]
  exact ⟨⟨⟨fun _ _ => rfl, Nat.le_refl _, rfl, rfl, rfl⟩, fun e he => (by simp at he), fun _ _ _ _ x => x⟩, t, ⟨fun _ _ => rfl, Nat.le_refl _, rfl, rfl, rfl⟩, gam_run.2 ⟨R.at rfl, tm, frs, h1, h2, h3, hc, rfl⟩⟩
theorem drawnOld_ok (Gd : K.Good) (F : K.Facts) {ext : Ext} (X : ExtOk K ext) {call : FuncId → List AV → AH → M (AE × AH)} (C : CallOk K main call) {tmps : TT} {h : AH} {r : AR} {id : Nat} (he : drawnOld K.P K.O ext call nt ops tmps h = .ok r) :
    ∃ N, ∀ {fn defers kind callers U ρ cs g w k}, CIds K U ⟨⟨fn, nt, tmps, .code (.region id ops true) :: k, defers, .run, kind⟩, callers, h⟩ → Gam K ρ ⟨⟨fn, nt, tmps, .code (.region id ops true) :: k, defers, .run, kind⟩, callers, h⟩ cs g w →
      Walk K.P main (DK K) (ARNext K U ρ cs w h fn nt k defers kind callers r) N g w := by
  unfold drawnOld at he
  split at he
  · rename_i hops
    obtain ⟨N, hN⟩ := runLvls_ok Gd F X C hops he
    refine ⟨1 + N, fun {fn defers kind callers U ρ cs g w k} I Γ => ?_⟩
    have hs := draw_step (main := main) F Γ
    refine Walk.trans (fun g' w' ⟨t, kp, Γ'⟩ => ?_) hs
    refine (hN [] tmps h (List.mem_singleton.2 rfl) (fun j hj => by cases hj) (schedule_sched ops t) (U0 := U) ⟨⟨I.cur.tmps, I.cur.defers, trivial⟩, I.callers, I.ids⟩ Γ').weaken fun g2 w2 x => ARNext.before (Agree.refl _ _) kp x
  · cases he
end
section
variable {K : Ctx} {main : Bool} {nt : Nat} {ops : Array Oper}
theorem gam_tt {ρ : Env} {fn : FuncId} {t t' : TT} {todo : List Item} {defers : List AD} {mode : AMode} {kind : CallKind} {callers : List AFrame} {h : AH} {cs : List Frame} {g : Goroutine} {w : World} (e : ∀ n, t'.get n = t.get n)
    (Γ : Gam K ρ ⟨⟨fn, nt, t', todo, defers, mode, kind⟩, callers, h⟩ cs g w) : Gam K ρ ⟨⟨fn, nt, t, todo, defers, mode, kind⟩, callers, h⟩ cs g w := by
  obtain ⟨R, fr, frs, ⟨tm, td, is, rfl⟩, hc, rfl⟩ := Γ
  exact ⟨R, _, frs, ⟨tm, td, ⟨⟨is.tmps.size, is.tmps.le, fun n hn => by rw [is.tmps.get n hn, e], fun n hn => by rw [← e]; exact is.tmps.out n hn⟩, is.kind, is.todo, is.fn⟩, rfl⟩, hc, rfl⟩
theorem cids_tt {U : Nat → Prop} {fn : FuncId} {t t' : TT} {todo : List Item} {defers : List AD} {mode : AMode} {kind : CallKind} {callers : List AFrame} {h : AH} (e : ∀ n, t'.get n = t.get n)
    (I : CIds K U ⟨⟨fn, nt, t', todo, defers, mode, kind⟩, callers, h⟩) : CIds K U ⟨⟨fn, nt, t, todo, defers, mode, kind⟩, callers, h⟩ :=
  ⟨⟨fun n => by have := I.cur.tmps n; rw [e] at this; exact this, I.cur.defers, I.cur.mode⟩, I.callers, I.ids⟩
theorem gam_nt {ρ : Env} {fn : FuncId} {t : TT} {todo : List Item} {defers : List AD} {mode : AMode} {kind : CallKind} {callers : List AFrame} {h : AH} {cs : List Frame} {g : Goroutine} {w : World} (Γ : Gam K ρ ⟨⟨fn, nt, t, todo, defers, mode, kind⟩, callers, h⟩ cs g w) : nt ≤ 60000 := by
  obtain ⟨R, fr, frs, ⟨tm, td, is, rfl⟩, hc, rfl⟩ := Γ
  exact is.tmps.le
def PendPost (K : Ctx) (nt : Nat) (ops : Array Oper) (U : Nat → Prop) (s : List Nat) (t : TT) (h : AH) (ρ : Env) (cs : List Frame) (w : World) (fn : FuncId) (k : List Item) (defers : List AD) (kind : CallKind) (callers : List AFrame) (g' : Goroutine) (w' : World) : Prop :=
  ∃ r' tr' l' ρ', Near ops nt s r' t tr' ∧ Sched ops r' l' ∧ Agree U ρ ρ' ∧ Keeps K.own w w' ∧ CIds K U ⟨⟨fn, nt, tr', .inRegion ops l' :: k, defers, .run, kind⟩, callers, bare h⟩ ∧ Gam K ρ' ⟨⟨fn, nt, tr', .inRegion ops l' :: k, defers, .run, kind⟩, callers, h⟩ cs g' w' ∧
    (l' = [] ∨ ∃ i l'', l' = i :: l'' ∧ i ∉ s)
theorem pend (Gd : K.Good) (F : K.Facts) {ext : Ext} (X : ExtOk K ext) {call : FuncId → List AV → AH → M (AE × AH)} (C : CallOk K main call) (hok : regionOk ops (infosOf ops) = true) {s : List Nat} {m : Nat} {t : TT} {h : AH} (hc : Cons s m)
    (hq : holdsQ K.P K.O ext nt ops (remM (infosOf ops) m) t (bare h) (infosOf ops) = true) {U : Nat → Prop} {cs : List Frame} {fn : FuncId} {k : List Item} {defers : List AD} {kind : CallKind} {callers : List AFrame} :
    ∀ {l r : List Nat} {tr : TT} {ρ : Env} {g : Goroutine} {w : World}, Near ops nt s r t tr → Sched ops r l → CIds K U ⟨⟨fn, nt, tr, .inRegion ops l :: k, defers, .run, kind⟩, callers, bare h⟩ →
      Gam K ρ ⟨⟨fn, nt, tr, .inRegion ops l :: k, defers, .run, kind⟩, callers, h⟩ cs g w → Walk K.P main (DK K) (PendPost K nt ops U s t h ρ cs w fn k defers kind callers) 0 g w
  | [], r, tr, ρ, g, w, N, sc, I, Γ => Walk.stop ⟨r, tr, [], ρ, N, sc, Agree.refl _ _, Keeps.refl _ _, I, Γ, .inl rfl⟩
  | i :: l, r, tr, ρ, g, w, N, sc, I, Γ => by
    by_cases hi : i ∈ s
    · obtain ⟨hir, hsc⟩ := sc
      obtain ⟨_, o, ho, _⟩ := ready_iff.1 hir
      obtain ⟨o', ho', hqo⟩ := N.quiet i hi (readyIn_mem hir).2
      rw [ho] at ho'; cases ho'
      obtain ⟨v, hv, hd⟩ := holdsQ_ok hq _ (mem_infos.2 ⟨i, o, ho, rfl⟩) hqo (N.rem hc hi (readyIn_mem hir).2)
      have al := N.alike hok ho hir
      have hop : opFull K.P K.O ext call nt ops i tr (bare h) = .ok (.on (putA nt tr o.dst v) (bare h)) := opFull_quiet ho hqo (by
        rcases hv with ⟨a, b⟩ | ⟨a, h', b⟩
        · exact .inl ⟨by rw [al.wanted]; exact a, b⟩
        · exact .inr ⟨by rw [al.wanted]; exact a, h', by rw [op?_congr al.eval]; exact b⟩)
      obtain ⟨M, hM⟩ := opFull_ok Gd F X C hop
      refine (Walk.trans (m := 0) (fun g' w' nx => ?_) (hM I (Γ.hp rfl))).any
      obtain ⟨ρ', a1, a2, a3, a4, a5⟩ := nx
      have I' := a4.congr (U' := U) fun n => (plus_same U _ n).symm
      refine (pend Gd F X C hok hc hq (N.drawn (gam_nt Γ) ho hi hir hd) hsc I' (a5.hp rfl)).weaken fun g2 w2 p => ?_
      obtain ⟨r', tr', l', ρ2, b1, b2, b3, b4, b5⟩ := p
      exact ⟨r', tr', l', ρ2, b1, b2, a1.trans b3 (fun _ x => x), a2.trans b4, b5⟩
    · exact Walk.stop ⟨r, tr, i :: l, ρ, N, sc, Agree.refl _ _, Keeps.refl _ _, I, Γ, .inr ⟨i, l, rfl, hi⟩⟩
def GoodM (ops : Array Oper) (L : LvlM) : Prop := ∀ e ∈ L, Cons e.1 e.2.1 ∧ Topo ops e.1
theorem putLvlM_ok {s : List Nat} {m : Nat} {t : TT} {h : AH} : ∀ {L L' : LvlM}, putLvlM s m t h L = .ok L' → (∀ e ∈ L, e ∈ L') ∧ (GoodM ops L → Cons s m → Topo ops s → GoodM ops L') ∧ ∃ s' h', (s', m, t, h') ∈ L' ∧ h'.hp = h.hp
  | [], L', he => by
    simp only [putLvlM] at he
    cases he
    refine ⟨(fun e x => by cases x), fun _ a b e he => ?_, s, h, List.mem_singleton.2 rfl, rfl⟩
    cases List.mem_singleton.1 he
    exact ⟨a, b⟩
  | (s', m', t', h') :: L, L', he => by
    simp only [putLvlM] at he
    split at he
    · rename_i hs
      obtain rfl := Nat.eq_of_beq_eq_true hs
      split at he
      · rename_i hq
        cases he
        simp only [Bool.and_eq_true] at hq
        obtain rfl := TT.eqb_eq hq.1
        exact ⟨fun e x => x, fun a _ _ => a, s', h', List.mem_cons_self .., (hpEqb_eq hq.2).symm⟩
      · cases he
    · split at he
      · rename_i l hl
        cases he
        obtain ⟨a, ag, s2, h2, b, c⟩ := putLvlM_ok (L := L) hl
        refine ⟨fun e x => ?_, fun g1 g2 g3 e x => ?_, s2, h2, List.mem_cons_of_mem _ b, c⟩
        · rcases List.mem_cons.1 x with rfl | x
          · exact List.mem_cons_self ..
          · exact List.mem_cons_of_mem _ (a e x)
        · rcases List.mem_cons.1 x with rfl | x
          · exact g1 _ (List.mem_cons_self ..)
          · exact ag (fun e he => g1 e (List.mem_cons_of_mem _ he)) g2 g3 e x
      · cases he
theorem oneM_ok {P : Program} {O : Orc} {ext : Ext} {call : FuncId → List AV → AH → M (AE × AH)} {infos : List Info} {s : List Nat} {m : Nat} {t : TT} {h : AH} {i : Nat} {s2 : List Nat} {m2 : Nat} {t2 : TT} {h1 : AH}
    (he : oneM P O ext call nt ops infos s m t h i = .ok (s2, m2, t2, h1)) : ∃ t1, opFull P O ext call nt ops i t h = .ok (.on t1 h1) ∧ soakM P O ext nt ops (bare h1) infos (i :: s) (addM m i) t1 = .ok (s2, m2, t2) := by
  unfold oneM at he
  split at he
  · cases he
  · cases he
  · rename_i t1 h1' hop
    split at he
    · cases he
    · rename_i hs
      cases he
      exact ⟨t1, hop, hs⟩
def MadeM (P : Program) (O : Orc) (ext : Ext) (call : FuncId → List AV → AH → M (AE × AH)) (nt : Nat) (ops : Array Oper) (h0 : AH) (s : List Nat) (m : Nat) (t : TT) (h : AH) (i : Nat) (L' : LvlM) : Prop :=
  ∃ t1 h1 s2 m2 t2 s' h', opFull P O ext call nt ops i t (rangeFor h0 i h) = .ok (.on t1 h1) ∧ h1.nb ≤ h1.lim ∧ soakM P O ext nt ops (bare h1) (infosOf ops) (i :: s) (addM m i) t1 = .ok (s2, m2, t2) ∧ (s', m2, t2, h') ∈ L' ∧ h'.hp = h1.hp
theorem stepOneM_ok {P : Program} {O : Orc} {ext : Ext} {call : FuncId → List AV → AH → M (AE × AH)} (hnt : nt ≤ 60000) {h0 : AH} {s : List Nat} {m : Nat} {t : TT} {h : AH} (hc : Cons s m) (tp : Topo ops s) :
    ∀ {js : List Info}, (∀ x ∈ js, x ∈ infosOf ops ∧ canM m x = true) → ∀ {L L' : LvlM}, stepOneM P O ext call nt ops (infosOf ops) h0 s m t h js L = .ok L' → (∀ e ∈ L, e ∈ L') ∧ (GoodM ops L → GoodM ops L') ∧ ∀ x ∈ js, MadeM P O ext call nt ops h0 s m t h x.1 L'
  | [], _, L, L', he => by
    simp only [stepOneM] at he
    cases he
    exact ⟨fun e x => x, fun g => g, fun x hx => by cases hx⟩
  | x :: js, hj, L, L', he => by
    simp only [stepOneM] at he
    split at he
    · cases he
    · rename_i s2 m2 t2 h1 hone
      split at he
      · rename_i hlim
        split at he
        · rename_i L1 hput
          obtain ⟨t1, hop, hso⟩ := oneM_ok hone
          obtain ⟨hx, hcan⟩ := hj x (List.mem_cons_self ..)
          obtain ⟨i, o, ho, rfl⟩ := mem_infos.1 hx
          have hr := (can_iff hc ho).1 hcan
          have S := soakM_ok hnt (fun _ x => x) (hc.add (i := i)) (show Topo ops (i :: s) from ⟨hr, tp⟩) hso
          obtain ⟨a1, a2, s', h', a3, a4⟩ := putLvlM_ok (ops := ops) hput
          obtain ⟨b1, b2, b3⟩ := stepOneM_ok hnt hc tp (fun y hy => hj y (List.mem_cons_of_mem _ hy)) he
          refine ⟨fun e x => b1 e (a1 e x), fun g => b2 (a2 g S.cons S.topo), fun y hy => ?_⟩
          rcases List.mem_cons.1 hy with rfl | hy
          · exact ⟨t1, h1, s2, m2, t2, s', h', hop, hlim, hso, b1 _ a3, a4⟩
          · exact b3 y hy
        · cases he
      · cases he
theorem stepLvlM_ok {P : Program} {O : Orc} {ext : Ext} {call : FuncId → List AV → AH → M (AE × AH)} (hnt : nt ≤ 60000) {h0 : AH} :
    ∀ {A : LvlM}, GoodM ops A → ∀ {L L' : LvlM}, stepLvlM P O ext call nt ops (infosOf ops) h0 A L = .ok L' → (∀ e ∈ L, e ∈ L') ∧ (GoodM ops L → GoodM ops L') ∧
      ∀ s m t h, (s, m, t, h) ∈ A → (infosOf ops).filter (canM m) ≠ [] ∧ ∀ x ∈ (infosOf ops).filter (canM m), MadeM P O ext call nt ops h0 s m t h x.1 L'
  | [], _, L, L', he => by
    simp only [stepLvlM] at he
    cases he
    exact ⟨fun e x => x, fun g => g, fun _ _ _ _ x => by cases x⟩
  | (s, m, t, h) :: A, gA, L, L', he => by
    simp only [stepLvlM] at he
    split at he
    · cases he
    · rename_i hne
      split at he
      · rename_i L1 h1
        obtain ⟨hc, tp⟩ := gA _ (List.mem_cons_self ..)
        obtain ⟨a1, a2, a3⟩ := stepOneM_ok hnt hc tp (fun x hx => by
          obtain ⟨p, q⟩ := List.mem_filter.1 hx
          exact ⟨p, q⟩) h1
        obtain ⟨b1, b2, b3⟩ := stepLvlM_ok hnt (fun e he => gA e (List.mem_cons_of_mem _ he)) he
        refine ⟨fun e x => b1 e (a1 e x), fun g => b2 (a2 g), fun s' m' t' h' hm => ?_⟩
        rcases List.mem_cons.1 hm with hq | hm
        · cases hq
          refine ⟨hne, fun x hx => ?_⟩
          obtain ⟨t1, h1, s2, m2, t2, s', h', c1, c2, c3, c4, c5⟩ := a3 x hx
          exact ⟨t1, h1, s2, m2, t2, s', h', c1, c2, c3, b1 _ c4, c5⟩
        · exact b3 s' m' t' h' hm
      · cases he
theorem Near.head {s r : List Nat} {m : Nat} {t tr : TT} (N : Near ops nt s r t tr) (hc : Cons s m) {i : Nat} (hi : i ∈ readyIn ops r) (hn : i ∉ s) : ∃ o, ops[i]? = some o ∧ i ∈ readyIn ops s ∧ (i, o, predMask o.after.toList, quietOp o) ∈ (infosOf ops).filter (canM m) := by
  obtain ⟨_, o, ho, hp⟩ := ready_iff.1 hi
  have hr : i ∈ readyIn ops s := ready_iff.2 ⟨hn, o, ho, fun e he hb => N.sub _ (hp e he hb)⟩
  exact ⟨o, ho, hr, List.mem_filter.2 ⟨mem_infos.2 ⟨i, o, ho, rfl⟩, (can_iff hc ho).2 hr⟩⟩
theorem fork_step (Gd : K.Good) (F : K.Facts) {ext : Ext} (X : ExtOk K ext) {call : FuncId → List AV → AH → M (AE × AH)} (C : CallOk K main call) (hops : ops.size ≤ 65536) (hok : regionOk ops (infosOf ops) = true) {h0 : AH} {s r : List Nat} {m : Nat} {t tr : TT} {h : AH} {i : Nat} {L' : LvlM}
    (hc : Cons s m) (tp : Topo ops s) (gL : GoodM ops L') (Md : MadeM K.P K.O ext call nt ops h0 s m t h i L') (N : Near ops nt s r t tr) (hi : i ∈ readyIn ops r) (hn : i ∉ s) {U0 : Nat → Prop} {ρ : Env} {cs : List Frame} {g : Goroutine} {w : World} {fn : FuncId} {l : List Nat} {k : List Item} {defers : List AD} {kind : CallKind} {callers : List AFrame}
    (I0 : Ids K U0 h0) (I : CIds K (Us U0 h0 s) ⟨⟨fn, nt, tr, .inRegion ops (i :: l) :: k, defers, .run, kind⟩, callers, bare h⟩) (Γ : Gam K ρ ⟨⟨fn, nt, tr, .inRegion ops (i :: l) :: k, defers, .run, kind⟩, callers, h⟩ cs g w) :
    Walk K.P main (DK K) (fun g' w' => ∃ s' m' t' h' tr' ρ', (s', m', t', h') ∈ L' ∧ Near ops nt s' (i :: r) t' tr' ∧ Agree U0 ρ ρ' ∧ Keeps K.own w w' ∧ CIds K (Us U0 h0 s') ⟨⟨fn, nt, tr', .inRegion ops l :: k, defers, .run, kind⟩, callers, bare h'⟩ ∧
      Gam K ρ' ⟨⟨fn, nt, tr', .inRegion ops l :: k, defers, .run, kind⟩, callers, h'⟩ cs g' w') 0 g w := by
  obtain ⟨t1, h1, s2, m2, t2, s', h', c1, c2, c3, c4, c5⟩ := Md
  obtain ⟨o, ho, hr, _⟩ := N.head hc hi hn
  have hnt := gam_nt Γ
  obtain ⟨v, rfl, hop⟩ := opFull_alike ho (N.alike hok ho hi) c1
  have S := soakM_ok hnt (fun _ x => x) (hc.add (i := i)) (show Topo ops (i :: s) from ⟨hr, tp⟩) c3
  have hi1 := (readyIn_mem hr).1
  obtain ⟨M, hM⟩ := opFull_ok Gd F X C hop
  have I' : CIds K (Us U0 h0 s) ⟨⟨fn, nt, tr, .inRegion ops (i :: l) :: k, defers, .run, kind⟩, callers, rangeFor h0 i h⟩ :=
    I.lax rfl (fun n x => x) fun n x1 x2 => Us_fresh I0 (by omega) hn x1 x2
  have mem : ∀ j, j ∈ s2 ↔ j ∈ s' := fun j => ((S.cons j).symm).trans ((gL _ c4).1 j)
  refine ((hM I' (Γ.hp rfl)).weaken fun g' w' nx => ?_).any
  obtain ⟨ρ', a1, a2, a3, a4, a5⟩ := nx
  have NN := N.next hnt ho hn hi S
  have NN' : Near ops nt s' (i :: r) t2 (putA nt tr o.dst v) := ⟨fun j hj => (mem j).1 (NN.sub j hj), fun j hj hx => NN.quiet j ((mem j).2 hj) hx, fun n hlt hx => NN.same n hlt fun ⟨j, oj, x1, x2⟩ => hx ⟨j, oj, (mem j).1 x1, x2⟩, NN.out, NN.down⟩
  refine ⟨s', m2, t2, h', _, ρ', c4, NN', a1.mono (fun n x => .inl x), a2, ?_, a5.hp c5⟩
  refine a4.lax c5 (fun n x => ?_) fun n x1 x2 => by simp [bare] at x2
  rcases x with (x | ⟨q, q1, q2⟩) | x
  · exact .inl x
  · exact .inr ⟨q, (mem q).1 (S.sub q (List.mem_cons_of_mem _ q1)), q2⟩
  · have hl : h1.lim = (rangeFor h0 i h).lim := a3.lim
    refine .inr ⟨i, (mem i).1 (S.sub i (List.mem_cons_self ..)), x.1, ?_⟩
    have hl2 : h1.lim = h0.nb + (i + 1) * stride h0 := hl
    have hx := x.2
    dsimp only at hx
    omega
theorem runLvlsM_ok (Gd : K.Good) (F : K.Facts) {ext : Ext} (X : ExtOk K ext) {call : FuncId → List AV → AH → M (AE × AH)} (C : CallOk K main call) (hops : ops.size ≤ 65536) (hok : regionOk ops (infosOf ops) = true) (hnt : nt ≤ 60000) :
    ∀ {n : Nat} {fork : Option AH} {L : LvlM} {R : AR}, runLvlsM K.P K.O ext call nt ops (infosOf ops) n fork L = .ok R → GoodM ops L →
      ∀ s m t h, (s, m, t, h) ∈ L → ∀ {fn defers kind callers U0 ρ cs g w l k r tr}, Near ops nt s r t tr → Sched ops r l →
        LvIds K U0 s ⟨fn, nt, tr, .inRegion ops l :: k, defers, .run, kind⟩ callers h fork → Gam K ρ ⟨⟨fn, nt, tr, .inRegion ops l :: k, defers, .run, kind⟩, callers, h⟩ cs g w →
        Walk K.P main (DK K) (ARNext K U0 ρ cs w (fork.getD h) fn nt k defers kind callers R) 0 g w := by
  intro n
  induction n with
  | zero => intro fork L R he; simp only [runLvlsM] at he; cases he
  | succ n ih =>
    intro fork L R he gL
    simp only [runLvlsM] at he
    split at he
    · cases he
    rename_i hset
    rw [List.all_eq_true] at hset
    have hold : ∀ s m t h, (s, m, t, h) ∈ L → holdsQ K.P K.O ext nt ops (remM (infosOf ops) m) t (bare h) (infosOf ops) = true := fun s m t h hm => by
      have := hset _ hm
      unfold settled at this
      rw [Bool.and_eq_true] at this
      exact this.2
    split at he
    · rename_i s m t h h0
      intro s' m' t' h' hm fn defers kind callers U0 ρ cs g w l k r tr N sc I Γ
      cases List.mem_singleton.1 hm
      obtain ⟨I0, I⟩ := I
      obtain ⟨hc, tp⟩ := gL _ (List.mem_singleton.2 rfl)
      have hst : ops.size * stride h0 ≤ h0.lim - h0.nb := Nat.le_trans (Nat.mul_le_mul_right _ hops) (Nat.mul_div_le _ _)
      have hI : CIds K (plus U0 h0.nb (rangeBack h0 ops.size h).nb) ⟨⟨fn, nt, tr, .inRegion ops l :: k, defers, .run, kind⟩, callers, rangeBack h0 ops.size h⟩ := by
        refine I.lax rfl (fun m x => ?_) fun m x1 x2 x3 => ?_
        · rcases x with x | ⟨j, j1, j2, j3⟩
          · exact .inl x
          · refine .inr ⟨by omega, Nat.lt_of_lt_of_le j3 (Nat.add_le_add_left (Nat.mul_le_mul_right _ (tp.lt j j1)) _)⟩
        · have hx1 : h0.nb + ops.size * stride h0 ≤ m := x1
          rcases x3 with x | x
          · exact I0.fresh m (by omega) x2 x
          · have := x.2; exact absurd this (Nat.not_lt.2 x1)
      have gr : Grows K U0 h0 (rangeBack h0 ops.size h) := ⟨Nat.le_add_right _ _, rfl, hI.ids⟩
      have := ih he (fun e he => by cases List.mem_singleton.1 he; exact ⟨hc, tp⟩) s m t _ (List.mem_singleton.2 rfl) N sc hI (Γ.hp rfl)
      exact this.weaken fun g' w' x => ARNext.grow (Agree.refl _ _) (Keeps.refl _ _) gr x
    · rename_i s m t h
      intro s' m' t' h' hm fn defers kind callers U0 ρ cs g w l k r tr N sc I Γ
      cases List.mem_singleton.1 hm
      obtain ⟨hc, tp⟩ := gL _ (List.mem_singleton.2 rfl)
      have I1 : CIds K U0 ⟨⟨fn, nt, tr, .inRegion ops l :: k, defers, .run, kind⟩, callers, h⟩ := I
      have Wp := pend Gd F X C hok hc (hold _ _ _ _ (List.mem_singleton.2 rfl)) N sc (I1.lax (h' := bare h) rfl (fun n x => x) fun n x1 x2 => by simp [bare] at x2) Γ
      refine (Walk.trans (m := 0) (fun g1 w1 p => ?_) Wp).any
      obtain ⟨r1, tr1, l1, ρ1, N1, sc1, A1, kp1, Ib, Γ1, hl1⟩ := p
      have J1 : CIds K U0 ⟨⟨fn, nt, tr1, .inRegion ops l1 :: k, defers, .run, kind⟩, callers, h⟩ := ⟨Ib.cur, Ib.callers, I1.ids⟩
      split at he
      · rename_i hr
        cases he
        rcases hl1 with rfl | ⟨i, l2, rfl, hi⟩
        · obtain ⟨_, _, e⟩ := N1.over tp sc1
          have L1 := leads_to (K := K) (main := main) (fn := fn) (nt := nt) (tmps := t) (todo := .inRegion ops [] :: k) (todo' := k) (defers := defers) (kind := kind) (callers := callers) (h := h) (fun ρ tm w cs R T b ds => stR_region_end)
          exact ((L1 U0 ρ1 cs g1 w1 (cids_tt e J1) (gam_tt e Γ1)).weaken fun g2 w2 x => ARNext.before A1 kp1 (r := .on t h) x).any
        · obtain ⟨o, _, _, hx⟩ := N1.head hc sc1.1 hi
          rw [hr] at hx; cases hx
      · rename_i x hr
        split at he
        · cases he
        · rename_i e hone
          obtain ⟨s2, m2, t2, h2⟩ := e
          obtain ⟨t1, hop, hso⟩ := oneM_ok hone
          rcases hl1 with rfl | ⟨i, l2, rfl, hi⟩
          · obtain ⟨_, e, _⟩ := N1.over tp sc1
            have hx : x ∈ (infosOf ops).filter (canM m) := by rw [hr]; exact List.mem_singleton.2 rfl
            obtain ⟨p, q⟩ := List.mem_filter.1 hx
            obtain ⟨i, o, ho, rfl⟩ := mem_infos.1 p
            have := (can_iff hc ho).1 q
            rw [e] at this; cases this
          · obtain ⟨o, ho, hrs, hx⟩ := N1.head hc sc1.1 hi
            rw [hr] at hx
            obtain rfl := List.mem_singleton.1 hx
            dsimp only at hop hso
            obtain ⟨v, rfl, hop'⟩ := opFull_alike ho (N1.alike hok ho sc1.1) hop
            have S := soakM_ok hnt (fun _ x => x) (hc.add (i := i)) (show Topo ops (i :: s) from ⟨hrs, tp⟩) hso
            obtain ⟨M, hM⟩ := opFull_ok Gd F X C hop'
            refine (Walk.trans (m := 0) (fun g2 w2 nx => ?_) (hM J1 Γ1)).any
            obtain ⟨ρ2, a1, a2, a3, a4, a5⟩ := nx
            refine (ih he (fun e he => by cases List.mem_singleton.1 he; exact ⟨S.cons, S.topo⟩) s2 m2 t2 h2 (List.mem_singleton.2 rfl) (N1.next hnt ho hi sc1.1 S) sc1.2 a4 a5).weaken fun g3 w3 y => ?_
            exact ARNext.before A1 kp1 (ARNext.grow a1 a2 a3 y)
      · rename_i hn1 hn2
        split at he
        · rename_i L' hst
          obtain ⟨_, g2, hmade⟩ := stepOneM_ok hnt hc tp (fun x hx => by
            obtain ⟨p, q⟩ := List.mem_filter.1 hx
            exact ⟨p, q⟩) hst
          have gL' : GoodM ops L' := g2 fun e he => by cases he
          rcases hl1 with rfl | ⟨i, l2, rfl, hi⟩
          · obtain ⟨_, e, _⟩ := N1.over tp sc1
            refine absurd (List.eq_nil_iff_forall_not_mem.2 fun x hx => ?_) hn1
            obtain ⟨p, q⟩ := List.mem_filter.1 hx
            obtain ⟨i, o, ho, rfl⟩ := mem_infos.1 p
            have := (can_iff hc ho).1 q
            rw [e] at this; cases this
          · obtain ⟨o, ho, hrs, hx⟩ := N1.head hc sc1.1 hi
            have Md := hmade _ hx
            refine (Walk.trans (m := 0) (fun g2 w2 nx => ?_) (fork_step Gd F X C hops hok hc tp gL' Md N1 sc1.1 hi J1.ids (Ib.lax rfl (fun n x => .inl x) fun n x1 x2 => by simp [bare] at x2) Γ1)).any
            obtain ⟨s3, m3, t3, h3, tr3, ρ3, b1, b2, b3, b4, b5, b6⟩ := nx
            refine (ih he gL' s3 m3 t3 h3 b1 b2 sc1.2 ⟨J1.ids, b5⟩ b6).weaken fun g3 w3 y => ?_
            exact ARNext.before A1 kp1 (ARNext.before b3 b4 y)
        · cases he
    · rename_i h0 hn
      split at he
      · rename_i L' hst
        obtain ⟨_, g2, hmade⟩ := stepLvlM_ok hnt gL hst
        have gL' : GoodM ops L' := g2 fun e he => by cases he
        intro s m t h hm fn defers kind callers U0 ρ cs g w l k r tr N sc I Γ
        obtain ⟨hc, tp⟩ := gL _ hm
        obtain ⟨hne, hmade⟩ := hmade s m t h hm
        obtain ⟨I0, I⟩ := I
        have Wp := pend Gd F X C hok hc (hold _ _ _ _ hm) N sc I Γ
        refine (Walk.trans (m := 0) (fun g1 w1 p => ?_) Wp).any
        obtain ⟨r1, tr1, l1, ρ1, N1, sc1, A1, kp1, Ib, Γ1, hl1⟩ := p
        rcases hl1 with rfl | ⟨i, l2, rfl, hi⟩
        · obtain ⟨_, e, _⟩ := N1.over tp sc1
          refine absurd (List.eq_nil_iff_forall_not_mem.2 fun x hx => ?_) hne
          obtain ⟨p, q⟩ := List.mem_filter.1 hx
          obtain ⟨i, o, ho, rfl⟩ := mem_infos.1 p
          have := (can_iff hc ho).1 q
          rw [e] at this; cases this
        · obtain ⟨o, ho, hrs, hx⟩ := N1.head hc sc1.1 hi
          have Md := hmade _ hx
          refine (Walk.trans (m := 0) (fun g2 w2 nx => ?_) (fork_step Gd F X C hops hok hc tp gL' Md N1 sc1.1 hi I0 Ib Γ1)).any
          obtain ⟨s3, m3, t3, h3, tr3, ρ3, b1, b2, b3, b4, b5, b6⟩ := nx
          refine (ih he gL' s3 m3 t3 h3 b1 b2 sc1.2 ⟨I0, b5⟩ b6).weaken fun g3 w3 y => ?_
          exact ARNext.before (A1.mono fun n x => .inl x) kp1 (ARNext.before b3 b4 y)
      · cases he
    · cases he
theorem drawn_ok (Gd : K.Good) (F : K.Facts) {ext : Ext} (X : ExtOk K ext) {call : FuncId → List AV → AH → M (AE × AH)} (C : CallOk K main call) {tmps : TT} {h : AH} {r : AR} {id : Nat} (he : drawn K.P K.O ext call nt ops tmps h = .ok r) :
    ∃ N, ∀ {fn defers kind callers U ρ cs g w k}, CIds K U ⟨⟨fn, nt, tmps, .code (.region id ops true) :: k, defers, .run, kind⟩, callers, h⟩ → Gam K ρ ⟨⟨fn, nt, tmps, .code (.region id ops true) :: k, defers, .run, kind⟩, callers, h⟩ cs g w →
      Walk K.P main (DK K) (ARNext K U ρ cs w h fn nt k defers kind callers r) N g w := by
  unfold drawn at he
  split at he
  · exact drawnOld_ok Gd F X C he
  · rename_i hb
    rw [Bool.and_eq_true] at hb
    have hops : ops.size ≤ 65536 := Nat.le_of_ble_eq_true hb.1
    split at he
    · rename_i r' hm
      cases he
      refine ⟨0, fun {fn defers kind callers U ρ cs g w k} I Γ => ?_⟩
      unfold drawnM at hm
      split at hm
      · cases hm
      · rename_i s m t hso
        have hnt := gam_nt Γ
        have S := soakM_ok hnt (fun _ x => x) cons_nil (show Topo ops [] from trivial) hso
        refine (Walk.trans (m := 0) (fun g' w' ⟨q, kp, Γ'⟩ => ?_) (draw_step (main := main) F Γ)).any
        refine (runLvlsM_ok Gd F X C hops hb.2 hnt hm (fun e he => by cases List.mem_singleton.1 he; exact ⟨S.cons, S.topo⟩) s m t h (List.mem_singleton.2 rfl) (Near.begin S) (schedule_sched ops q) (U0 := U) ⟨⟨I.cur.tmps, I.cur.defers, trivial⟩, I.callers, I.ids⟩ Γ').weaken fun g2 w2 x => ARNext.before (Agree.refl _ _) kp x
    · exact drawnOld_ok Gd F X C he
end
section
variable {K : Ctx} {main : Bool} {nt : Nat} {ops : Array Oper}
theorem belowM_sub {r : List Nat} (d : Down ops r) : ∀ {l : List Info}, (∀ x ∈ l, x ∈ infosOf ops) → ∀ {m : Nat}, (∀ i, inM m i = true → i ∈ r) → ∀ i, inM (belowM l m) i = true → i ∈ r
  | [], _, m, hm, i, hi => hm i hi
  | x :: l, hl, m, hm, i, hi => by
    have ih := belowM_sub d (l := l) (fun y hy => hl y (List.mem_cons_of_mem _ hy)) hm
    simp only [belowM] at hi
    split at hi
    · rename_i hx
      have h1 : inM (belowM l m) i = true ∨ inM x.2.2.1 i = true := by
        rw [inM_testBit] at hi ⊢
        rw [inM_testBit]
        have e : Nat.lor (belowM l m) x.2.2.1 = belowM l m ||| x.2.2.1 := rfl
        rw [e, Nat.testBit_or, Bool.or_eq_true] at hi
        exact hi
      rcases h1 with h1 | h1
      · exact ih i h1
      · obtain ⟨j, o, ho, rfl⟩ := mem_infos.1 (hl x (List.mem_cons_self ..))
        obtain ⟨e, he, hb, rfl⟩ := inM_pred.1 h1
        exact d j (ih j hx) o ho e he hb
    · exact ih i hi
theorem pend2 (Gd : K.Good) (F : K.Facts) {ext : Ext} (X : ExtOk K ext) {call : FuncId → List AV → AH → M (AE × AH)} (C : CallOk K main call) (hok : regionOk ops (infosOf ops) = true) {s : List Nat} {m : Nat} {t : TT} {h : AH} (hc : Cons s m)
    (hq : holdsQ K.P K.O ext nt ops m t (bare h) (infosOf ops) = true) {U : Nat → Prop} {cs : List Frame} {fn : FuncId} {k : List Item} {defers : List AD} {kind : CallKind} {callers : List AFrame} :
    ∀ {l r : List Nat} {tr : TT} {ρ : Env} {g : Goroutine} {w : World}, Near ops nt s r t tr → Sched ops r l → Down ops r → CIds K U ⟨⟨fn, nt, tr, .inRegion ops l :: k, defers, .run, kind⟩, callers, bare h⟩ →
      Gam K ρ ⟨⟨fn, nt, tr, .inRegion ops l :: k, defers, .run, kind⟩, callers, h⟩ cs g w → Walk K.P main (DK K) (fun g' w' => ∃ r' tr' l' ρ', Down ops r' ∧ Near ops nt s r' t tr' ∧ Sched ops r' l' ∧ Agree U ρ ρ' ∧ Keeps K.own w w' ∧ CIds K U ⟨⟨fn, nt, tr', .inRegion ops l' :: k, defers, .run, kind⟩, callers, bare h⟩ ∧ Gam K ρ' ⟨⟨fn, nt, tr', .inRegion ops l' :: k, defers, .run, kind⟩, callers, h⟩ cs g' w' ∧
    (l' = [] ∨ ∃ i l'', l' = i :: l'' ∧ i ∉ s)) 0 g w
  | [], r, tr, ρ, g, w, N, sc, dn, I, Γ => Walk.stop ⟨r, tr, [], ρ, dn, N, sc, Agree.refl _ _, Keeps.refl _ _, I, Γ, .inl rfl⟩
  | i :: l, r, tr, ρ, g, w, N, sc, dn, I, Γ => by
    by_cases hi : i ∈ s
    · obtain ⟨hir, hsc⟩ := sc
      obtain ⟨_, o, ho, _⟩ := ready_iff.1 hir
      obtain ⟨o', ho', hqo⟩ := N.quiet i hi (readyIn_mem hir).2
      rw [ho] at ho'; cases ho'
      obtain ⟨v, hv, hd⟩ := holdsQ_ok hq _ (mem_infos.2 ⟨i, o, ho, rfl⟩) hqo ((hc i).2 hi)
      have al := N.alike hok ho hir
      have hop : opFull K.P K.O ext call nt ops i tr (bare h) = .ok (.on (putA nt tr o.dst v) (bare h)) := opFull_quiet ho hqo (by
        rcases hv with ⟨a, b⟩ | ⟨a, h', b⟩
        · exact .inl ⟨by rw [al.wanted]; exact a, b⟩
        · exact .inr ⟨by rw [al.wanted]; exact a, h', by rw [op?_congr al.eval]; exact b⟩)
      obtain ⟨M, hM⟩ := opFull_ok Gd F X C hop
      refine (Walk.trans (m := 0) (fun g' w' nx => ?_) (hM I (Γ.hp rfl))).any
      obtain ⟨ρ', a1, a2, a3, a4, a5⟩ := nx
      have I' := a4.congr (U' := U) fun n => (plus_same U _ n).symm
      refine (pend2 Gd F X C hok hc hq (N.drawn (gam_nt Γ) ho hi hir hd) hsc (dn.cons hir) I' (a5.hp rfl)).weaken fun g2 w2 p => ?_
      obtain ⟨r', tr', l', ρ2, b0, b1, b2, b3, b4, b5⟩ := p
      exact ⟨r', tr', l', ρ2, b0, b1, b2, a1.trans b3 (fun _ x => x), a2.trans b4, b5⟩
    · exact Walk.stop ⟨r, tr, i :: l, ρ, dn, N, sc, Agree.refl _ _, Keeps.refl _ _, I, Γ, .inr ⟨i, l, rfl, hi⟩⟩
theorem tailOp_ok (Gd : K.Good) (F : K.Facts) {ext : Ext} (X : ExtOk K ext) {call : FuncId → List AV → AH → M (AE × AH)} (C : CallOk K main call) {tmps t : TT} {h : AH} {j : Nat} {id : Nat} (he : tailOp K.P K.O ext nt ops (infosOf ops) tmps h = some (j, t)) {fn : FuncId} {defers : List AD} {kind : CallKind} {callers : List AFrame} {k : List Item} :
    Leads K main ⟨⟨fn, nt, tmps, .code (.region id ops true) :: k, defers, .run, kind⟩, callers, h⟩ ⟨⟨fn, nt, t, .inRegion ops [j] :: k, defers, .run, kind⟩, callers, h⟩ 0 := by
  intro U ρ cs g w I Γ
  unfold tailOp at he
  split at he
  · rename_i x hx
    split at he
    · cases he
    · rename_i hb
      simp only [Bool.and_eq_true] at hb
      obtain ⟨_, hb1, hb2⟩ := hb
      split at he
      · cases he
      · rename_i s m t' hso
        split at he
        · rename_i hz
          simp only [Bool.and_eq_true] at hz
          obtain ⟨⟨z1, z2⟩, z3⟩ := hz
          cases he
          have hnt := gam_nt Γ
          have S := soakM_ok hnt (fun _ x => x) cons_nil (show Topo ops [] from trivial) hso
          have hxm : x ∈ infosOf ops := (List.mem_filter.1 (show x ∈ (infosOf ops).filter fun x => !x.2.2.2 by rw [hx]; exact List.mem_singleton.2 rfl)).1
          obtain ⟨j, oj, hoj, rfl⟩ := mem_infos.1 hxm
          dsimp only at z1 z2 ⊢
          have hjr : j ∈ readyIn ops s := (can_iff S.cons hoj).1 z1
          have hjs : j ∉ s := (readyIn_mem hjr).2
          rw [List.all_eq_true] at z2
          have cover : ∀ i, i < ops.size → i ≠ j → i ∈ s ∧ inM (belowM (infosOf ops) (predMask oj.after.toList)) i = true := by
            intro i hi hne
            have := z2 _ (mem_infos.2 ⟨i, ops[i], Array.getElem?_eq_getElem hi, rfl⟩)
            simp only [Bool.or_eq_true, Bool.and_eq_true] at this
            rcases this with h1 | ⟨h1, h2⟩
            · exact absurd (Nat.eq_of_beq_eq_true h1) hne
            · exact ⟨(S.cons i).1 h1, h2⟩
          refine (Walk.trans (m := 0) (fun g' w' ⟨q, kp, Γ'⟩ => ?_) (draw_step (main := main) F Γ)).any
          have I0 : CIds K U ⟨⟨fn, nt, tmps, .inRegion ops (Region.schedule true ops q) :: k, defers, .run, kind⟩, callers, bare h⟩ :=
            ⟨⟨I.cur.tmps, I.cur.defers, trivial⟩, I.callers, ⟨I.ids.hp, I.ids.keys, I.ids.nodup, fun n h1 h2 => (by simp [bare] at h2), I.ids.orc⟩⟩
          refine (pend2 Gd F X C hb2 S.cons z3 (Near.begin S) (schedule_sched ops q) (fun i hi => by cases hi) I0 Γ').weaken fun g2 w2 p => ?_
          obtain ⟨r', tr', l', ρ2, dn, N, sc, A2, kp2, I2, Γ2, hl⟩ := p
          rcases hl with rfl | ⟨i, l2, rfl, hi⟩
          · have := (N.over S.topo sc).2.1
            rw [this] at hjr; cases hjr
          · have hir := sc.1
            have hij : i = j := Classical.byContradiction fun hne => hi (cover i (readyIn_mem hir).1 hne).1
            subst hij
            have hpr : ∀ a, inM (predMask oj.after.toList) a = true → a ∈ r' := by
              intro a ha
              obtain ⟨e, he, hbb, rfl⟩ := inM_pred.1 ha
              obtain ⟨_, o', ho', hp⟩ := ready_iff.1 hir
              rw [hoj] at ho'; cases ho'
              exact hp e he hbb
            have hall : ∀ a, a < ops.size → a ≠ i → a ∈ r' := fun a ha hne => belowM_sub dn (fun _ x => x) hpr a (cover a ha hne).2
            have hl2 : l2 = [] := by
              cases l2 with
              | nil => rfl
              | cons b l3 =>
                have hb := readyIn_mem sc.2.1
                refine absurd (show b ∈ i :: r' from ?_) hb.2
                by_cases e : b = i
                · subst e; exact List.mem_cons_self ..
                · exact List.mem_cons_of_mem _ (hall b hb.1 e)
            subst hl2
            have same : ∀ n, tr'.get n = t.get n := fun n => by
              rcases Nat.lt_or_ge n nt with hlt | hge
              · refine N.same n hlt fun ⟨a, o, h1, h2, h3, h4⟩ => h2 (hall a (Array.getElem?_eq_some_iff.1 h3).1 fun e => hjs (e ▸ h1))
              · exact N.out n hge
            have I3 := cids_tt same I2
            exact ⟨ρ2, A2, kp.trans kp2, Grows.refl I.ids, CIds.congr (U := U) ⟨I3.cur, I3.callers, I.ids⟩ (plus_same U _), gam_tt same Γ2⟩
        · cases he
  · cases he
end
section
variable {K : Ctx} {main : Bool} {U : Nat → Prop} {ρ : Env} {cs : List Frame}
variable {fn : FuncId} {nt : Nat} {tmps : TT} {todo todo' : List Item} {defers : List AD} {kind : CallKind} {callers : List AFrame} {h : AH}
variable {k : List Item}
theorem exec_ok (Gd : K.Good) (F : K.Facts) {ext : Ext} (X : ExtOk K ext) {call : FuncId → List AV → AH → M (AE × AH)} (C : CallOk K main call) {c' : ACfg} (he : exec? K.P K.O ext call fn nt tmps todo defers kind callers h = .ok c') :
    ∃ N, Leads K main ⟨⟨fn, nt, tmps, todo, defers, .run, kind⟩, callers, h⟩ c' N := by
  unfold exec? at he
  split at he
  · split at he
    · cases he
    · rename_i ht
      cases he; exact ⟨1, leads_ret ht fun _ _ _ _ hb => stR_end hb⟩
  · rename_i ops is k
    split at he
    · cases he; exact ⟨1, leads_to fun _ _ _ _ _ _ _ _ => stR_region_end⟩
    · rename_i i rest
      split at he
      · cases he
      · rename_i o ho
        split at he
        · cases he
        · rename_i hw
          cases he
          exact ⟨1, leads_unwanted ho hw⟩
        · rename_i hw
          split at he
          · cases he
          · rename_i n h' hop
            split at he
            · cases he
            rename_i htag
            split at he
            · exact ⟨1, fun U ρ cs g w I Γ => (op_step Gd F X ho hw hop htag I Γ).weaken fun g' w' post => upon_next he ho I post⟩
            · split at he
              · rename_i t h'' hf
                cases he
                obtain ⟨N, hN⟩ := opFull_ok Gd F X C hf
                exact ⟨N, fun U ρ cs g w I Γ => hN I Γ⟩
              · rename_i t ch h'' hf
                cases he
                obtain ⟨N, hN⟩ := opFull_ok Gd F X C hf
                exact ⟨N, fun U ρ cs g w I Γ => (hN I Γ).weaken fun g' w' x => x _⟩
              · cases he
  · cases he; exact ⟨1, leads_to fun _ _ _ _ _ _ _ _ => stR_inBlock⟩
  · cases he; exact ⟨1, leads_to fun _ _ _ _ _ _ _ _ => stR_inScope⟩
  · cases he; exact ⟨1, leads_to fun _ _ _ _ _ _ _ _ => stR_inLoop⟩
  · rename_i c k
    split at he
    · split at he
      · cases he
      · rename_i ht
        cases he; exact ⟨1, leads_ret ht fun _ _ _ _ hb => stR_ret hb⟩
    · cases he; exact ⟨1, leads_to fun _ _ _ _ _ _ _ _ => stR_skip⟩
    · cases he; exact ⟨1, leads_to fun _ _ _ _ _ _ _ _ => stR_label⟩
    · cases he; exact ⟨1, leads_to fun _ _ _ _ _ _ _ _ => stR_seq⟩
    · rename_i x thn els
      split at he
      · rename_i b hx
        split at he
        · rename_i hb
          cases he
          refine ⟨1, leads_to fun ρ tm w cs R T b ds => ?_⟩
          have : Act.eval ⟨tm, ds⟩ x = .bool true := by rw [evalA_ev T, hx]; simp only [AV.ev, bool_lit R hb]
          exact stR_cond this
        · rename_i hb
          cases he
          refine ⟨1, leads_to fun ρ tm w cs R T b ds => ?_⟩
          have : Act.eval ⟨tm, ds⟩ x = .bool false := by rw [evalA_ev T, hx]; simp only [AV.ev, bool_lit R hb]
          exact stR_cond this
        · cases he
      · cases he
    · cases he; exact ⟨1, leads_to fun _ _ _ _ _ _ _ _ => stR_block⟩
    · cases he; exact ⟨1, leads_to fun _ _ _ _ _ _ _ _ => stR_loop⟩
    · cases he; exact ⟨1, leads_to fun _ _ _ _ _ _ _ _ => stR_scope⟩
    · split at he
      · rename_i hx
        cases he
        exact ⟨1, leads_to fun _ _ _ _ _ _ _ _ => stR_exit hx⟩
      · cases he
    · split at he
      · rename_i hx
        cases he
        exact ⟨1, leads_to fun _ _ _ _ _ _ _ _ => stR_goto hx⟩
      · cases he
    · rename_i id ops draw
      split at he
      · cases he; exact ⟨1, leads_to fun _ _ _ _ _ _ _ _ => stR_region⟩
      · split at he
        · rename_i j t hd
          cases he
          exact ⟨0, tailOp_ok Gd F X C hd⟩
        · split at he
          · rename_i t h' hd
            cases he
            obtain ⟨N, hN⟩ := drawn_ok Gd F X C (id := id) hd
            exact ⟨N, fun U ρ cs g w I Γ => hN I Γ⟩
          · rename_i t ch h' hd
            cases he
            obtain ⟨N, hN⟩ := drawn_ok Gd F X C (id := id) hd
            exact ⟨N, fun U ρ cs g w I Γ => (hN I Γ).weaken fun g' w' x => x k⟩
          · cases he
    · cases he
  · cases he
theorem resultsOf_ok (Gd : K.Good) {w : World} {tm : Array Value} (R : Rel K ρ h w) (T : TmpR ρ nt tmps tm) {E : Value → World → Prop} : ∀ {l : List ResultVar} {vs : List AV}, resultsOf K.P K.O h tmps l = .ok vs →
    ∀ {Q : List Value → World → Prop}, Q (AV.evs ρ vs) w → wq K.P K.Ev E (l.mapM fun | .tmp t => (pure (tm.getD t undef) : Sem Value) | .cell a t => do loadVar t (← asAddr (tm.getD a undef))) Q w
  | [], vs, he, Q, hq => by
    simp only [resultsOf] at he
    cases he
    simpa only [List.mapM_nil, wq_pure, AV.evs] using hq
  | r :: l, vs, he, Q, hq => by
    simp only [resultsOf] at he
    split at he
    · rename_i v hv
      split at he
      · rename_i vs' hvs
        cases he
        simp only [List.mapM_cons, wq_bind]
        have tail : wq K.P K.Ev E (l.mapM fun | .tmp t => (pure (tm.getD t undef) : Sem Value) | .cell a t => do loadVar t (← asAddr (tm.getD a undef))) (fun xs w => wq K.P K.Ev E (pure (v.ev ρ :: xs)) Q w) w :=
          resultsOf_ok Gd R T hvs (by rw [wq_pure]; exact hq)
        cases r with
        | tmp t =>
          simp only [resultOf] at hv
          cases hv
          simp only [wq_pure]
          rw [T.getD t]
          exact tail
        | cell a t =>
          simp only [resultOf] at hv
          split at hv
          · rename_i x hx
            simp only [wq_bind]
            rw [T.getD a, hx]
            simp only [AV.ev, Option.map_some, asAddr, wq_pure]
            exact wq_loadVar R Gd hv tail
          · cases hv
      · cases he
    · cases he
theorem resultsOf_in (I : Ids K U h) (ht : tmps.In U) : ∀ {l : List ResultVar} {vs : List AV}, resultsOf K.P K.O h tmps l = .ok vs → AV.Ins U vs
  | [], vs, he => by simp only [resultsOf] at he; cases he; trivial
  | r :: l, vs, he => by
    simp only [resultsOf] at he
    split at he
    · rename_i v hv
      split at he
      · rename_i vs' hvs
        cases he
        refine ⟨?_, resultsOf_in I ht hvs⟩
        cases r with
        | tmp t => simp only [resultOf] at hv; cases hv; exact ht t
        | cell a t =>
          simp only [resultOf] at hv
          split at hv
          · exact loadVar?_in I hv
          · cases hv
      · cases he
    · cases he
theorem results?_ok (Gd : K.Good) {v : AV} (he : results? K.P K.O h fn tmps = .ok v) : ∃ f, K.P.funcs[fn]? = some f ∧ (∀ {U}, Ids K U h → tmps.In U → v.In U) ∧
    ∀ {ρ : Env} {nt : Nat} {w : World} {tm : Array Value} {E : Value → World → Prop}, Rel K ρ h w → TmpR ρ nt tmps tm → ∀ {Q : Value → World → Prop}, Q (v.ev ρ) w → wq K.P K.Ev E (results f tm) Q w := by
  unfold results? at he
  split at he
  · rename_i f hf
    have run : ∀ {ρ : Env} {nt : Nat} {w : World} {tm : Array Value} {E : Value → World → Prop} {vs : List AV}, resultsOf K.P K.O h tmps f.results.toList = .ok vs → Rel K ρ h w → TmpR ρ nt tmps tm → ∀ {Q : Value → World → Prop},
        Q (if hs : (AV.evs ρ vs).toArray.size = 1 then (AV.evs ρ vs).toArray[0] else .tuple (AV.evs ρ vs).toArray) w → wq K.P K.Ev E (results f tm) Q w := by
      intro ρ nt w tm E vs hvs R T Q hq
      unfold results
      rw [Array.mapM_eq_mapM_toList]
      simp only [wq_bind, wq_map, wq_pure]
      exact resultsOf_ok Gd R T hvs hq
    split at he
    · rename_i v' hv
      cases he
      refine ⟨f, hf, fun I ht => (resultsOf_in I ht hv).1, fun {ρ nt w tm E} R T {Q} hq => run hv R T ?_⟩
      simpa [AV.evs] using hq
    · rename_i vs hne hv
      cases he
      refine ⟨f, hf, fun I ht => resultsOf_in I ht hv, fun {ρ nt w tm E} R T {Q} hq => run hv R T ?_⟩
      have : ¬ (AV.evs ρ vs).toArray.size = 1 := by
        simp only [List.size_toArray, evs_length]
        intro h1
        obtain ⟨x, rfl⟩ := List.length_eq_one_iff.1 h1
        exact hne x rfl
      rw [dif_neg this]
      exact hq
    · cases he
  · cases he
end
end Go.Proofs.YtojifefdokekpaaDoor.SX

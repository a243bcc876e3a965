/-
  Deferred calls, returns, panics; runs.
-/
import Derived.Test.YtcpiafgkmakdiaaSxStep4
set_option linter.unusedSectionVars false
set_option linter.unusedVariables false
set_option linter.unusedSimpArgs false
namespace Go.Proofs.Ytcpiafgkmakdiaa.SX
open Go.Conc

section
variable {P : Program} {main : Bool} {fr : Frame} {cs : List Frame} {w w' : World} {D : Deferred} {Ds : List Deferred}

theorem stepG_deferred (hm : fr.mode ≠ .run) (hd : fr.defers = D :: Ds) (ht : (∃ f c, D.target = .fn f c) ∨ ∃ b a t c, D.target = .builtin b a t c) :
    stepG P main (G fr cs) w = callDeferred P { fr with defers := Ds } cs none D w := by
  obtain ⟨fn, tmps, todo, defers, mode, kind, ro⟩ := fr
  obtain ⟨target, args⟩ := D
  dsimp only at hm hd ht
  subst hd
  have h1 : stepG P main (G ⟨fn, tmps, todo, ⟨target, args⟩ :: Ds, mode, kind, ro⟩ cs) w = unwind P main ⟨fn, tmps, todo, ⟨target, args⟩ :: Ds, mode, kind, ro⟩ cs none w := by
    cases mode with
    | run => exact absurd rfl hm
    | returning => rfl
    | panicking c => rfl
  rw [h1]
  rcases ht with ⟨f, c, rfl⟩ | ⟨b, a, t, c, rfl⟩ <;> rfl

theorem callDeferred_enter {f : FuncId} {args : Array Value} (hn : (∃ f c, D.target = .fn f c) ∨ ∃ b a t c, D.target = .builtin b a t c) (hr : (invoke D.target D.args).run P w = .ok (.enter f args) w') :
    callDeferred P fr cs none D w = .go (G (Frame.enter P f args .deferred) (fr :: cs)) w' (seen P fr.fn ((invoke D.target D.args).events P w #[])) := by
  rcases hn with ⟨f, c, hn⟩ | ⟨b, a, t, c, hn⟩ <;> (rw [hn] at hr; simp [callDeferred, hn, hr, GStep.after, G])

theorem callDeferred_value {v : Value} (hn : (∃ f c, D.target = .fn f c) ∨ ∃ b a t c, D.target = .builtin b a t c) (hr : (invoke D.target D.args).run P w = .ok (.value v) w') :
    callDeferred P fr cs none D w = .go (G fr cs) w' (seen P fr.fn ((invoke D.target D.args).events P w #[])) := by
  rcases hn with ⟨f, c, hn⟩ | ⟨b, a, t, c, hn⟩ <;> (rw [hn] at hr; simp [callDeferred, hn, hr, GStep.after, G])
end

section
variable {K : Ctx} {main : Bool} {U : Nat → Prop} {ρ : Env} {cs : List Frame}
variable {fn : FuncId} {nt : Nat} {tmps : TT} {todo : List Item} {mode : AMode} {kind : CallKind} {callers : List AFrame} {h : AH}

theorem AD.target_ev (ρ : Env) (d : AD) : (∃ f c, (d.ev ρ).target = .fn f c) ∨ ∃ b a t c, (d.ev ρ).target = .builtin b a t c := by
  obtain ⟨t, a⟩ := d
  cases t with
  | fn f c => exact .inl ⟨_, _, rfl⟩
  | builtin b a t c => exact .inr ⟨_, _, _, _, rfl⟩

theorem mode_ev_ne (ρ : Env) (hm : mode ≠ .run) : mode.ev ρ ≠ .run := by
  cases mode with
  | run => exact absurd rfl hm
  | returning => exact fun x => by cases x
  | panicking c => exact fun x => by cases x

theorem defer_ok (Gd : K.Good) (F : K.Facts) {ext : Ext} (X : ExtOk K ext) {d : AD} {ds : List AD} {c' : ACfg} (hm : mode ≠ .run) (he : defer? K.P K.O ext fn nt tmps todo d ds mode kind callers h = .ok c') :
    Leads K main ⟨⟨fn, nt, tmps, todo, d :: ds, mode, kind⟩, callers, h⟩ c' 1 := fun U ρ cs g w I Γ => Walk.one Γ.running fun dr => by
  obtain ⟨R, fr, frs, ⟨tm, td, is, rfl⟩, hc, rfl⟩ := Γ.drawn dr
  have hdin : d.In U := I.cur.defers d (List.mem_cons_self ..)
  have step := stepG_deferred (P := K.P) (main := main) (fr := frameOf ρ ⟨fn, nt, tmps, todo, d :: ds, mode, kind⟩ tm td) (cs := frs ++ cs) (w := drawnAt w dr) (D := d.ev ρ) (Ds := ds.map (AD.ev ρ)) (mode_ev_ne ρ hm) rfl (AD.target_ev ρ d)
  rw [step]
  have hfr : ({ frameOf ρ ⟨fn, nt, tmps, todo, d :: ds, mode, kind⟩ tm td with defers := ds.map (AD.ev ρ) } : Frame) = frameOf ρ ⟨fn, nt, tmps, todo, ds, mode, kind⟩ tm td := rfl
  rw [hfr]
  have hds : ∀ x ∈ ds, x.In U := fun x hx => I.cur.defers x (List.mem_cons_of_mem _ hx)
  have hin : (⟨fn, nt, tmps, todo, ds, mode, kind⟩ : AFrame).In U := ⟨I.cur.tmps, hds, I.cur.mode⟩
  have base : ∀ {ρ' : Env}, Agree U ρ ρ' → FrRel K.P ρ' ⟨fn, nt, tmps, todo, ds, mode, kind⟩ (frameOf ρ ⟨fn, nt, tmps, todo, ds, mode, kind⟩ tm td) := fun A =>
    FrRel.agree A ⟨tm, td, ⟨is.tmps, is.kind, (fun x => absurd x hm), is.fn⟩, rfl⟩ hin
  unfold defer? at he
  split at he
  · rename_i f args h' hi
    split at he
    · rename_i fr' hen
      cases he
      have N := invoke?_ok Gd F X R I.ids hdin hi
      obtain ⟨run, hes⟩ := wq_run (wq_keep Gd.noWr _ (N.run (E := fun _ _ => False) (Q := fun nx w' => After K U ρ (drawnAt w dr) h' (fun ρ' => AN.is ρ' (.enter f args) nx) w') (fun nx w' x => x) (fun v hn _ => by cases hn)))
      generalize hr : (invoke (d.target.ev ρ) (AV.evs ρ d.args).toArray).run K.P (drawnAt w dr) = r at run
      cases r with
      | halt x w' => cases x <;> exact run.elim
      | ok nx w' =>
        obtain ⟨⟨ρ', A, R', kp, is'⟩, hst⟩ := run
        have is2 : nx = .enter f (AV.evs ρ' args).toArray := is'
        subst is2
        rw [callDeferred_enter (AD.target_ev ρ d) hr]
        obtain ⟨e1, e2, e3, e4, e5⟩ := enterA_ok hen (.inr rfl) N.mem (ρ := ρ')
        refine ⟨⟨kp, fun e he => hes e (mem_seen he), hst⟩, ρ', A, (keeps_drawn _ _ _).trans kp, N.grows, ⟨e2, ?_, N.grows.ids⟩, R', _, frameOf ρ ⟨fn, nt, tmps, todo, ds, mode, kind⟩ tm td :: frs, e1, ⟨base A, callers_agree A hc I.callers⟩, rfl⟩
        intro fr hf
        rcases List.mem_cons.1 hf with rfl | hf
        · exact hin.mono plus_sub
        · exact (I.callers fr hf).mono plus_sub
    · cases he
  · rename_i v h' hi
    cases he
    have N := invoke?_ok Gd F X R I.ids hdin hi
    obtain ⟨run, hes⟩ := wq_run (wq_keep Gd.noWr _ (N.run (E := fun _ _ => False) (Q := fun nx w' => After K U ρ (drawnAt w dr) h' (fun ρ' => AN.is ρ' (.value v) nx) w') (fun nx w' x => x) (fun v hn _ => by cases hn)))
    generalize hr : (invoke (d.target.ev ρ) (AV.evs ρ d.args).toArray).run K.P (drawnAt w dr) = r at run
    cases r with
    | halt x w' => cases x <;> exact run.elim
    | ok nx w' =>
      obtain ⟨⟨ρ', A, R', kp, is'⟩, hst⟩ := run
      have is2 : nx = .value (v.ev ρ') := is'
      subst is2
      rw [callDeferred_value (AD.target_ev ρ d) hr]
      exact ⟨⟨kp, fun e he => hes e (mem_seen he), hst⟩, ρ', A, (keeps_drawn _ _ _).trans kp, N.grows, ⟨hin.mono plus_sub, fun fr hf => (I.callers fr hf).mono plus_sub, N.grows.ids⟩, R', _, frs, base A, callers_agree A hc I.callers, rfl⟩
  · cases he
  · cases he

theorem stepG_back {P : Program} {fr : Frame} {caller : Frame} {f : Func} {v : Value} {w : World} (hm : fr.mode = .returning) (hd : fr.defers = []) (hk : fr.kind = .deferred) (hf : P.funcs[fr.fn]? = some f) (hr : (results f fr.tmps).run P w = .ok v w) :
    stepG P main (G fr (caller :: cs)) w = .go (G (match caller.mode with
        | .panicking ({ recovered := true, .. } :: older) =>
          match older.dropWhile (!·.goexit) with
          | [] => { caller with mode := .returning }
          | rest => { caller with mode := .panicking rest }
        | _ => caller) cs) w (seen P fr.fn ((results f fr.tmps).events P w #[])) := by
  simp [G, stepG, unwind, doReturn, hm, hd, hf, hr, hk, GStep.after]
  rfl

theorem drop_plain (ρ : Env) : ∀ (l : List (AV × Bool)), (l.map fun x => ({ v := x.1.ev ρ, recovered := x.2 } : PanicEntry)).dropWhile (!·.goexit) = []
  | [] => rfl
  | y :: l => by simp only [List.map_cons, List.dropWhile_cons, Bool.not_false, if_true]; exact drop_plain ρ l

theorem back_ok {P : Program} {c : AFrame} {f : Frame} (hc : FrRel P ρ c f) : FrRel P ρ (backTo c) (match f.mode with
        | .panicking ({ recovered := true, .. } :: older) =>
          match older.dropWhile (!·.goexit) with
          | [] => { f with mode := .returning }
          | rest => { f with mode := .panicking rest }
        | _ => f) := by
  obtain ⟨tm, td, is, rfl⟩ := hc
  obtain ⟨fn, nt, tmps, todo, defers, mode, kind⟩ := c
  have hm : (frameOf ρ ⟨fn, nt, tmps, todo, defers, mode, kind⟩ tm td).mode = mode.ev ρ := rfl
  rw [hm]
  cases mode with
  | run => exact ⟨tm, td, is, rfl⟩
  | returning => exact ⟨tm, td, is, rfl⟩
  | panicking chain =>
    cases chain with
    | nil => exact ⟨tm, td, is, rfl⟩
    | cons x older =>
      obtain ⟨v, b⟩ := x
      cases b with
      | false => exact ⟨tm, td, is, rfl⟩
      | true =>
        simp only [AMode.ev, List.map_cons, drop_plain]
        exact ⟨tm, td, ⟨is.tmps, is.kind, (fun x => by cases x), is.fn⟩, rfl⟩

theorem backTo_in {c : AFrame} (hc : c.In U) : (backTo c).In U := by
  obtain ⟨fn, nt, tmps, todo, defers, mode, kind⟩ := c
  cases mode with
  | run => exact hc
  | returning => exact hc
  | panicking chain =>
    cases chain with
    | nil => exact hc
    | cons x older =>
      obtain ⟨v, b⟩ := x
      cases b with
      | false => exact hc
      | true => exact ⟨hc.tmps, hc.defers, trivial⟩

theorem raise_ok {P : Program} {c : AFrame} {f : Frame} {chain : List (AV × Bool)} (hc : FrRel P ρ c f) : FrRel P ρ (raiseA c chain) (f.raise (chain.map fun x => { v := x.1.ev ρ, recovered := x.2 })) := by
  obtain ⟨tm, td, is, rfl⟩ := hc
  obtain ⟨fn, nt, tmps, todo, defers, mode, kind⟩ := c
  cases mode with
  | run => exact ⟨tm, td, ⟨is.tmps, is.kind, (fun x => by cases x), is.fn⟩, rfl⟩
  | returning => exact ⟨tm, td, ⟨is.tmps, is.kind, (fun x => by cases x), is.fn⟩, rfl⟩
  | panicking older => exact ⟨tm, td, ⟨is.tmps, is.kind, (fun x => by cases x), is.fn⟩, by simp [raiseA, Frame.raise, frameOf, AMode.ev]⟩

theorem raiseA_in {c : AFrame} {chain : List (AV × Bool)} (hc : c.In U) (hx : ∀ x ∈ chain, x.1.In U) : (raiseA c chain).In U := by
  obtain ⟨fn, nt, tmps, todo, defers, mode, kind⟩ := c
  cases mode with
  | run => exact ⟨hc.tmps, hc.defers, hx⟩
  | returning => exact ⟨hc.tmps, hc.defers, hx⟩
  | panicking older =>
    refine ⟨hc.tmps, hc.defers, fun x hm => ?_⟩
    rcases List.mem_append.1 hm with hm | hm
    · exact hx x hm
    · exact hc.mode x hm

theorem keeps_same (own : Nat → Prop) {w w' : World} (h : ∃ d, w' = drawnAt w d) : Keeps own w w' := by
  obtain ⟨d, rfl⟩ := h; exact keeps_drawn _ _ _
theorem rel_same {w w' : World} (R : Rel K ρ h w) (e : ∃ d, w' = drawnAt w d) : Rel K ρ h w' := by
  obtain ⟨d, rfl⟩ := e; exact R.drawn _

def StepPost (K : Ctx) (main : Bool) (c : ACfg) : ACfg ⊕ (AE × AH) → Prop
  | .inl c' => ∃ N, Leads K main c c' N
  | .inr e => ∃ N, Ends K main c e N

theorem step_ok (Gd : K.Good) (F : K.Facts) {ext : Ext} (X : ExtOk K ext) {call : FuncId → List AV → AH → M (AE × AH)} (C : CallOk K main call) {c : ACfg} {r : ACfg ⊕ (AE × AH)} (he : step? K.P K.O ext call c = .ok r) : StepPost K main c r := by
  obtain ⟨⟨fn, nt, tmps, todo, defers, mode, kind⟩, callers, h⟩ := c
  unfold step? at he
  dsimp only at he
  split at he
  · split at he
    · rename_i c' hx
      cases he
      exact exec_ok Gd F X C hx
    · cases he
  · split at he
    · rename_i d ds
      split at he
      · rename_i c' hx
        cases he
        exact ⟨1, defer_ok Gd F X (by simp) hx⟩
      · cases he
    · split at he
      · cases he
      · rename_i v hv
        obtain ⟨f, hf, hin, hrun⟩ := results?_ok Gd hv
        have ends : ∀ {ρ : Env} {cs : List Frame} {w : World} {frs : List Frame} {tm : Array Value} {td : List Item}, kind = .normal → Rel K ρ h w → FrIs K.P ρ ⟨fn, nt, tmps, todo, [], .returning, kind⟩ tm td →
            EndsAs K fn ρ (.returned v) cs (G (frameOf ρ ⟨fn, nt, tmps, todo, [], .returning, kind⟩ tm td) cs) w := fun hk R is =>
          ⟨_, f, rfl, rfl, rfl, hf, rfl, hk, fun d {Q} hq => hrun (R.drawn d) is.tmps hq⟩
        split at he
        · split at he
          · cases he
            refine ⟨0, fun U ρ cs g w I Γ => ?_⟩
            obtain ⟨R, fr, frs, ⟨tm, td, is, rfl⟩, hc, rfl⟩ := Γ
            cases frs with
            | cons a b => exact absurd hc (by simp [FrRels])
            | nil =>
              exact Walk.stop ⟨ρ, Agree.refl _ _, Keeps.refl _ _, Grows.refl I.ids, AV.In.mono plus_sub _ (hin I.ids I.cur.tmps), R, ends (frs := []) rfl R is⟩
          · cases he
        · rename_i caller rest
          split at he
          · split at he
            · rename_i caller' hfin
              cases he
              obtain ⟨fn', nt', tmps', ops, i, rst, k, defers', kind', rfl, rfl⟩ := finishA_ok hfin
              refine ⟨1, fun U ρ cs g w I Γ => ?_⟩
              obtain ⟨R, fr, frs, ⟨tm, td, is, rfl⟩, hc, rfl⟩ := Γ
              cases frs with
              | nil => exact absurd hc (by simp [FrRels])
              | cons c1 frs =>
                obtain ⟨⟨tm1, td1, is1, rfl⟩, hc⟩ := hc
                have htd : td1 = .inRegion ops (i :: rst) :: k := is1.todo rfl
                subst htd
                have hcin := I.callers _ (List.mem_cons_self ..)
                refine (leave_step (ends (frs := []) rfl R is)).weaken fun g' w' ⟨hw, hg⟩ => ?_
                subst hg
                have := next_put (U := U) (ρ := ρ) (h := h) (cs := cs) (fn := fn') (kind := kind') (ops := ops) (rest := rst) (k := k) (dst := (ops[i]?).bind (·.dst)) (ds := defers') (Agree.refl U ρ) (keeps_same K.own hw) (rel_same R hw) (Grows.refl I.ids)
                  (AV.In.mono plus_sub _ (hin I.ids I.cur.tmps)) hcin.tmps (fun x hx => (hcin.defers x hx).mono plus_sub) (fun fr hf => (I.callers fr (List.mem_cons_of_mem _ hf)).mono plus_sub) is1.tmps is1.kind is1.fn hc
                have hb : frameOf ρ ⟨fn', nt', tmps', .inRegion ops (i :: rst) :: k, defers', .run, kind'⟩ tm1 (.inRegion ops (i :: rst) :: k) = (mkF fn' kind').at ⟨tm1, defers'.map (AD.ev ρ)⟩ (.inRegion ops (i :: rst) :: k) := rfl
                rw [hb, Frame.finish_at]
                exact this
            · cases he
          · cases he
            refine ⟨1, fun U ρ cs g w I Γ => Walk.one Γ.running fun d => ?_⟩
            obtain ⟨R, fr, frs, ⟨tm, td, is, rfl⟩, hc, rfl⟩ := Γ.drawn d
            cases frs with
            | nil => exact absurd hc (by simp [FrRels])
            | cons c1 frs =>
              obtain ⟨hc1, hc⟩ := hc
              obtain ⟨run, hes⟩ := wq_run (hrun (E := fun _ _ => False) R is.tmps (Q := fun x w' => x = v.ev ρ ∧ w' = drawnAt w d) ⟨rfl, rfl⟩)
              generalize hr : (results f tm).run K.P (drawnAt w d) = r at run
              cases r with
              | halt x w' => cases x <;> exact run.elim
              | ok x w' =>
                obtain ⟨rfl, rfl⟩ := run
                rw [List.cons_append, stepG_back (fr := frameOf ρ ⟨fn, nt, tmps, todo, [], .returning, .deferred⟩ tm td) rfl rfl rfl hf hr]
                refine ⟨⟨Keeps.refl _ _, fun e he => hes e (mem_seen he), fun _ _ _ _ x => x⟩, ρ, Agree.refl _ _, keeps_drawn _ _ _, Grows.refl I.ids, ?_, R, _, frs, back_ok hc1, hc, rfl⟩
                exact CIds.congr (U := U) ⟨backTo_in (I.callers _ (List.mem_cons_self ..)), fun fr hf => I.callers fr (List.mem_cons_of_mem _ hf), I.ids⟩ (plus_same U _)
          · cases he
  · rename_i chain
    split at he
    · rename_i d ds
      split at he
      · rename_i c' hx
        cases he
        exact ⟨1, defer_ok Gd F X (by simp) hx⟩
      · cases he
    · have ends : ∀ {ρ : Env} {cs : List Frame} {w : World} {tm : Array Value} {td : List Item}, FrIs K.P ρ ⟨fn, nt, tmps, todo, [], .panicking chain, kind⟩ tm td →
            EndsAs K fn ρ (.panicked chain) cs (G (frameOf ρ ⟨fn, nt, tmps, todo, [], .panicking chain, kind⟩ tm td) cs) w := fun is => by
        obtain ⟨f, hf⟩ := is.fn
        exact ⟨_, f, rfl, rfl, rfl, hf, rfl⟩
      split at he
      · cases he
        refine ⟨0, fun U ρ cs g w I Γ => ?_⟩
        obtain ⟨R, fr, frs, ⟨tm, td, is, rfl⟩, hc, rfl⟩ := Γ
        cases frs with
        | cons a b => exact absurd hc (by simp [FrRels])
        | nil => exact Walk.stop ⟨ρ, Agree.refl _ _, Keeps.refl _ _, Grows.refl I.ids, fun x hx => AV.In.mono plus_sub _ (I.cur.mode x hx), R, ends is⟩
      · rename_i caller rest
        cases he
        refine ⟨1, fun U ρ cs g w I Γ => ?_⟩
        obtain ⟨R, fr, frs, ⟨tm, td, is, rfl⟩, hc, rfl⟩ := Γ
        cases frs with
        | nil => exact absurd hc (by simp [FrRels])
        | cons c1 frs =>
          obtain ⟨hc1, hc⟩ := hc
          refine (raise_step (ends is)).weaken fun g' w' ⟨hw, hg⟩ => ?_
          subst hg
          refine ⟨ρ, Agree.refl _ _, keeps_same _ hw, Grows.refl I.ids, ?_, rel_same R hw, _, frs, raise_ok hc1, hc, rfl⟩
          exact CIds.congr (U := U) ⟨raiseA_in (I.callers _ (List.mem_cons_self ..)) I.cur.mode, fun fr hf => I.callers fr (List.mem_cons_of_mem _ hf), I.ids⟩ (plus_same U _)

/-! ### Runs -/
theorem finishA_fn {fr fr' : AFrame} {v : AV} (h : finishA fr v = .ok fr') : fr'.fn = fr.fn := by
  obtain ⟨fn, nt, tmps, ops, i, rest, k, defers, kind, rfl, rfl⟩ := finishA_ok h; rfl

theorem raiseA_fn {fr : AFrame} {vs : List (AV × Bool)} : (raiseA fr vs).fn = fr.fn := by
  obtain ⟨fn, nt, tmps, todo, defers, mode, kind⟩ := fr
  cases mode <;> rfl

theorem upon_bot {P : Program} {fr : AFrame} {callers : List AFrame} {n : AN} {h : AH} {c' : ACfg} (he : upon P fr callers n h = .ok c') : bot c'.cur.fn c'.callers = bot fr.fn callers := by
  obtain ⟨fn, nt, tmps, todo, defers, mode, kind⟩ := fr
  unfold upon at he
  split at he
  · split at he
    · rename_i hx; cases he; show bot _ callers = _; rw [finishA_fn hx]
    · cases he
  · split at he
    · rename_i hx; cases he; show bot _ callers = _; rw [finishA_fn hx]
    · cases he
  · split at he
    · cases he; rfl
    · cases he
  · dsimp only at he
    split at he
    · rename_i hx; cases he; show bot _ callers = _; rw [finishA_fn hx]
    · cases he
  · split at he
    · cases he
    · rename_i v callers' hr
      split at he
      · rename_i hx
        cases he
        show bot _ callers' = _
        rw [finishA_fn hx]
        unfold recoverA at hr
        split at hr
        · cases hr
        · split at hr
          · cases hr
          · split at hr
            · cases hr; rfl
            · cases hr
        · cases hr
      · cases he
    · split at he
      · rename_i hx; cases he; show bot _ callers = _; rw [finishA_fn hx]
      · cases he
  · cases he
    show bot (raiseA _ _).fn callers = _
    rw [raiseA_fn]

theorem exec_bot {P : Program} {O : Orc} {ext : Ext} {call : FuncId → List AV → AH → M (AE × AH)} {defers : List AD} {c' : ACfg} (he : exec? P O ext call fn nt tmps todo defers kind callers h = .ok c') : bot c'.cur.fn c'.callers = bot fn callers := by
  unfold exec? at he
  split at he
  · cases he; rfl
  · split at he
    · cases he; rfl
    · split at he
      · cases he
      · split at he
        · cases he
        · cases he; rfl
        · split at he
          · cases he
          · split at he
            · exact upon_bot he
            · split at he
              · cases he; rfl
              · cases he; rfl
              · cases he
  · cases he; rfl
  · cases he; rfl
  · cases he; rfl
  · split at he
    · cases he; rfl
    · cases he; rfl
    · cases he; rfl
    · cases he; rfl
    · split at he
      · split at he
        · cases he; rfl
        · cases he; rfl
        · cases he
      · cases he
    · cases he; rfl
    · cases he; rfl
    · cases he; rfl
    · split at he
      · cases he; rfl
      · cases he
    · split at he
      · cases he; rfl
      · cases he
    · split at he
      · cases he; rfl
      · split at he
        · cases he; rfl
        · cases he; rfl
        · cases he
    · cases he
  · cases he

theorem defer_bot {P : Program} {O : Orc} {ext : Ext} {d : AD} {ds : List AD} {c' : ACfg} (he : defer? P O ext fn nt tmps todo d ds mode kind callers h = .ok c') : bot c'.cur.fn c'.callers = bot fn callers := by
  unfold defer? at he
  split at he
  · split at he
    · cases he; rfl
    · cases he
  · cases he; rfl
  · cases he
  · cases he

theorem step_bot {P : Program} {O : Orc} {ext : Ext} {call : FuncId → List AV → AH → M (AE × AH)} {c c' : ACfg} (he : step? P O ext call c = .ok (.inl c')) : bot c'.cur.fn c'.callers = bot c.cur.fn c.callers := by
  obtain ⟨⟨fn, nt, tmps, todo, defers, mode, kind⟩, callers, h⟩ := c
  unfold step? at he
  dsimp only at he
  split at he
  · split at he
    · rename_i hx; cases he; exact exec_bot hx
    · cases he
  · split at he
    · split at he
      · rename_i hx; cases he; exact defer_bot hx
      · cases he
    · split at he
      · cases he
      · split at he
        · split at he <;> cases he
        · split at he
          · split at he
            · rename_i hx; cases he; simp only [bot, finishA_fn hx]
            · cases he
          · cases he
            show bot (backTo _).fn _ = bot _ _
            unfold backTo
            split <;> rfl
          · cases he
  · split at he
    · split at he
      · rename_i hx; cases he; exact defer_bot hx
      · cases he
    · split at he
      · cases he
      · cases he
        simp only [bot, raiseA_fn]

/-- The summaries are sound. -/
def SumOk (K : Ctx) (main : Bool) (sum : Sums) : Prop :=
  ∀ f args h r, sum f args h = some (.ok r) → ∃ fr N, enterA K.P f args .normal = .ok fr ∧ Ends K main ⟨fr, [], h⟩ r N

theorem noSums_ok : SumOk K main noSums := fun _ _ _ _ h => by cases h

theorem callOk_of {sum : Sums} (Z : SumOk K main sum) {k : ACfg → M (AE × AH)} (ih : ∀ {c r}, k c = .ok r → ∃ N, Ends K main c r N) :
    CallOk K main (fun f args h => match sum f args h with
      | some r => r
      | none => match enterA K.P f args .normal with
        | .ok fr => k ⟨fr, [], h⟩
        | .error e => .error e) := by
  intro f args h r hr
  dsimp only at hr
  split at hr
  · rename_i r' hs
    subst hr
    exact Z _ _ _ _ hs
  · split at hr
    · rename_i fr hen
      obtain ⟨N, E⟩ := ih hr
      exact ⟨fr, N, hen, E⟩
    · cases hr

theorem run_ok (Gd : K.Good) (F : K.Facts) {ext : Ext} (X : ExtOk K ext) {sum : Sums} (Z : SumOk K main sum) : ∀ {n : Nat} {c : ACfg} {r : AE × AH}, run? K.P K.O ext sum n c = .ok r → ∃ N, Ends K main c r N := by
  intro n
  induction n with
  | zero => intro c r he; cases he
  | succ n ih =>
    intro c r he
    have he' : (match step? K.P K.O ext (fun f args h => match sum f args h with
      | some r => r
      | none => match enterA K.P f args .normal with
        | .ok fr => run? K.P K.O ext sum n ⟨fr, [], h⟩
        | .error e => .error e) c with
      | .ok (.inl c) => run? K.P K.O ext sum n c
      | .ok (.inr r) => .ok r
      | .error e => .error e) = .ok r := he
    have C := callOk_of (K := K) (main := main) Z (k := run? K.P K.O ext sum n) ih
    split at he'
    · rename_i c' hs
      obtain ⟨N, L⟩ := step_ok Gd F X C hs
      obtain ⟨M, E⟩ := ih he'
      exact ⟨N + M, L.ends (step_bot hs) E⟩
    · rename_i r' hs
      cases he'
      exact step_ok Gd F X C hs
    · cases he'

theorem call_ok (Gd : K.Good) (F : K.Facts) {ext : Ext} (X : ExtOk K ext) {sum : Sums} (Z : SumOk K main sum) {n : Nat} {f : FuncId} {args : List AV} {h : AH} {r : AE × AH} (he : call? K.P K.O ext sum n f args h = .ok r) :
    ∃ fr N, enterA K.P f args .normal = .ok fr ∧ Ends K main ⟨fr, [], h⟩ r N := by
  unfold call? at he
  split at he
  · rename_i fr hen
    obtain ⟨N, E⟩ := run_ok Gd F X Z he
    exact ⟨fr, N, hen, E⟩
  · cases he
end
end Go.Proofs.Ytcpiafgkmakdiaa.SX

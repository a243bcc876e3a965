/-
  Where steps lead.
-/
import Derived.Test.YtcpiafgkmakdiaaSxFr
import Derived.Conc.Own5
set_option linter.unusedSectionVars false
set_option linter.unusedVariables false
set_option linter.unusedSimpArgs false
namespace Go.Proofs.Ytcpiafgkmakdiaa.SX
open Go.Conc

/-- Where a piece of the run leads: to a configuration. -/
def Next (K : Ctx) (U : Nat → Prop) (ρ : Env) (cs : List Frame) (w : World) (h0 : AH) (c : ACfg) (g' : Goroutine) (w' : World) : Prop :=
  ∃ ρ', Agree U ρ ρ' ∧ Keeps K.own w w' ∧ Grows K U h0 c.h ∧ CIds K (plus U h0.nb c.h.nb) c ∧ Gam K ρ' c cs g' w'

def Leads (K : Ctx) (main : Bool) (c c' : ACfg) (N : Nat) : Prop := ∀ U ρ cs g w, CIds K U c → Gam K ρ c cs g w → Walk K.P main (DK K) (Next K U ρ cs w c.h c') N g w

/-- The lowest frame's function. -/
def bot : FuncId → List AFrame → FuncId
  | f, [] => f
  | _, fr :: l => bot fr.fn l

/-- The frame at its end. -/
def EndsAs (K : Ctx) (f : FuncId) (ρ : Env) (e : AE) (cs : List Frame) (g : Goroutine) (w : World) : Prop :=
  ∃ fr fn, g = G fr cs ∧ fr.fn = f ∧ fr.defers = [] ∧ K.P.funcs[fr.fn]? = some fn ∧ match e with
    | .returned v => fr.mode = .returning ∧ fr.kind = .normal ∧ ∀ d, ∀ {Q : Value → World → Prop}, Q (v.ev ρ) (drawnAt w d) → wq K.P K.Ev (fun _ _ => False) (results fn fr.tmps) Q (drawnAt w d)
    | .panicked chain => fr.mode = (AMode.panicking chain).ev ρ

def AE.In (U : Nat → Prop) : AE → Prop
  | .returned v => v.In U
  | .panicked chain => ∀ x ∈ chain, x.1.In U

def Done (K : Ctx) (f : FuncId) (U : Nat → Prop) (ρ : Env) (cs : List Frame) (w : World) (h0 : AH) (r : AE × AH) (g' : Goroutine) (w' : World) : Prop :=
  ∃ ρ', Agree U ρ ρ' ∧ Keeps K.own w w' ∧ Grows K U h0 r.2 ∧ r.1.In (plus U h0.nb r.2.nb) ∧ Rel K ρ' r.2 w' ∧ EndsAs K f ρ' r.1 cs g' w'

def Ends (K : Ctx) (main : Bool) (c : ACfg) (r : AE × AH) (N : Nat) : Prop := ∀ U ρ cs g w, CIds K U c → Gam K ρ c cs g w → Walk K.P main (DK K) (Done K (bot c.cur.fn c.callers) U ρ cs w c.h r) N g w

section
variable {K : Ctx} {main : Bool} {U : Nat → Prop} {ρ : Env} {cs : List Frame}

theorem CIds.congr {U U' : Nat → Prop} {c : ACfg} (I : CIds K U c) (h : ∀ n, U n ↔ U' n) : CIds K U' c :=
  ⟨I.cur.mono fun n => (h n).1, fun fr hf => (I.callers fr hf).mono fun n => (h n).1, I.ids.congr h⟩
theorem plus_same (U : Nat → Prop) (a : Nat) (n : Nat) : U n ↔ plus U a a n := ⟨.inl, plus_none n⟩

theorem AE.In.mono {U U' : Nat → Prop} (hs : ∀ n, U n → U' n) {e : AE} (h : e.In U) : e.In U' := by
  cases e with
  | returned v => exact AV.In.mono hs _ h
  | panicked c => exact fun x hx => AV.In.mono hs _ (h x hx)

theorem Next.trans {w w' w'' : World} {h0 : AH} {c c' : ACfg} {g'' : Goroutine} {ρ' : Env} (A : Agree U ρ ρ') (k : Keeps K.own w w') (gr : Grows K U h0 c.h)
    (n : Next K (plus U h0.nb c.h.nb) ρ' cs w' c.h c' g'' w'') : Next K U ρ cs w h0 c' g'' w'' := by
  obtain ⟨ρ'', a1, a2, a3, a4, a5⟩ := n
  exact ⟨ρ'', A.trans a1 plus_sub, k.trans a2, gr.trans a3, a4.congr fun n => plus_plus gr.nb a3.nb n, a5⟩

theorem Done.trans {w w' w'' : World} {h0 : AH} {f : FuncId} {c : ACfg} {r : AE × AH} {g'' : Goroutine} {ρ' : Env} (A : Agree U ρ ρ') (k : Keeps K.own w w') (gr : Grows K U h0 c.h)
    (n : Done K f (plus U h0.nb c.h.nb) ρ' cs w' c.h r g'' w'') : Done K f U ρ cs w h0 r g'' w'' := by
  obtain ⟨ρ'', a1, a2, a3, a4, a5, a6⟩ := n
  exact ⟨ρ'', A.trans a1 plus_sub, k.trans a2, gr.trans a3, a4.mono fun n => (plus_plus gr.nb a3.nb n).1, a5, a6⟩

theorem Leads.trans {c c' c'' : ACfg} {N M : Nat} (l : Leads K main c c' N) (l' : Leads K main c' c'' M) : Leads K main c c'' (N + M) := fun U ρ cs g w I Γ =>
  Walk.trans (fun g' w' ⟨ρ', a1, a2, a3, a4, a5⟩ => (l' _ ρ' cs g' w' a4 a5).weaken fun _ _ n => Next.trans a1 a2 a3 n) (l U ρ cs g w I Γ)

theorem Leads.ends {c c' : ACfg} {r : AE × AH} {N M : Nat} (hb : bot c'.cur.fn c'.callers = bot c.cur.fn c.callers) (l : Leads K main c c' N) (l' : Ends K main c' r M) : Ends K main c r (N + M) := fun U ρ cs g w I Γ =>
  Walk.trans (fun g' w' ⟨ρ', a1, a2, a3, a4, a5⟩ => (l' _ ρ' cs g' w' a4 a5).weaken fun _ _ n => by rw [hb] at n; exact Done.trans a1 a2 a3 n) (l U ρ cs g w I Γ)

theorem keeps_drawn (own : Nat → Prop) (w : World) (d : Nat) : Keeps own w (drawnAt w d) := ⟨fun _ _ => rfl, Nat.le_refl _, rfl, rfl, rfl⟩
theorem Rel.drawn {h : AH} {w : World} (R : Rel K ρ h w) (d : Nat) : Rel K ρ h (drawnAt w d) := R.at rfl
theorem Gam.drawn {c : ACfg} {g : Goroutine} {w : World} (h : Gam K ρ c cs g w) (d : Nat) : Gam K ρ c cs g (drawnAt w d) := ⟨h.1.drawn d, h.2⟩
theorem Gam.running {c : ACfg} {g : Goroutine} {w : World} (h : Gam K ρ c cs g w) : g.status = .running := by
  obtain ⟨_, fr, frs, _, _, rfl⟩ := h; rfl

theorem leads_go {c c' : ACfg} (hh : c'.h = c.h) (hin : ∀ U, CIds K U c → CIds K U c') (hs : ∀ ρ cs g w, Gam K ρ c cs g w → ∃ g', stepG K.P main g w = .go g' w #[] ∧ Gam K ρ c' cs g' w) :
    Leads K main c c' 1 := fun U ρ cs g w I Γ => Walk.one Γ.running fun d => by
  obtain ⟨g', e, Γ'⟩ := hs ρ cs g _ (Γ.drawn d)
  rw [e]
  refine ⟨⟨Keeps.refl _ _, fun e he => (by simp at he), fun _ _ _ _ x => x⟩, ρ, Agree.refl _ _, keeps_drawn _ _ _, ?_, ?_, Γ'⟩
  · rw [hh]; exact Grows.refl I.ids
  · rw [hh]; exact (hin U I).congr (plus_same U _)

section frame
variable {fn : FuncId} {nt : Nat} {tmps : TT} {todo todo' : List Item} {defers : List AD} {kind : CallKind} {callers : List AFrame} {h : AH}

theorem gam_run {g : Goroutine} {w : World} : Gam K ρ ⟨⟨fn, nt, tmps, todo, defers, .run, kind⟩, callers, h⟩ cs g w ↔
    Rel K ρ h w ∧ ∃ tm frs, TmpR ρ nt tmps tm ∧ (kind = .normal ∨ kind = .deferred) ∧ (∃ f, K.P.funcs[fn]? = some f) ∧ FrRels K.P ρ callers frs ∧ g = G ((mkF fn kind).at ⟨tm, defers.map (AD.ev ρ)⟩ todo) (frs ++ cs) := by
  constructor
  · rintro ⟨R, fr, frs, ⟨tm, td, i, rfl⟩, hc, rfl⟩
    have : td = todo := i.todo rfl
    subst this
    exact ⟨R, tm, frs, i.tmps, i.kind, i.fn, hc, rfl⟩
  · rintro ⟨R, tm, frs, h1, h2, h3, hc, rfl⟩
    exact ⟨R, _, frs, ⟨tm, todo, ⟨h1, h2, fun _ => rfl, h3⟩, rfl⟩, hc, rfl⟩

theorem leads_to (hs : ∀ ρ tm w cs, Rel K ρ h w → TmpR ρ nt tmps tm → stepG K.P main (G ((mkF fn kind).at ⟨tm, defers.map (AD.ev ρ)⟩ todo) cs) w = .go (G ((mkF fn kind).at ⟨tm, defers.map (AD.ev ρ)⟩ todo') cs) w #[]) :
    Leads K main ⟨⟨fn, nt, tmps, todo, defers, .run, kind⟩, callers, h⟩ ⟨⟨fn, nt, tmps, todo', defers, .run, kind⟩, callers, h⟩ 1 :=
  leads_go rfl (fun U I => ⟨⟨I.cur.tmps, I.cur.defers, trivial⟩, I.callers, I.ids⟩) fun ρ cs g w Γ => by
    obtain ⟨R, tm, frs, h1, h2, h3, hc, rfl⟩ := gam_run.1 Γ
    exact ⟨_, hs ρ tm w _ R h1, gam_run.2 ⟨R, tm, frs, h1, h2, h3, hc, rfl⟩⟩

theorem leads_ret (hs : ∀ ρ tm w cs, stepG K.P main (G ((mkF fn kind).at ⟨tm, defers.map (AD.ev ρ)⟩ todo) cs) w = .go (G { (mkF fn kind).at ⟨tm, defers.map (AD.ev ρ)⟩ todo with mode := .returning } cs) w #[]) :
    Leads K main ⟨⟨fn, nt, tmps, todo, defers, .run, kind⟩, callers, h⟩ ⟨⟨fn, nt, tmps, todo', defers, .returning, kind⟩, callers, h⟩ 1 :=
  leads_go rfl (fun U I => ⟨⟨I.cur.tmps, I.cur.defers, trivial⟩, I.callers, I.ids⟩) fun ρ cs g w Γ => by
    obtain ⟨R, tm, frs, h1, h2, h3, hc, rfl⟩ := gam_run.1 Γ
    exact ⟨_, hs ρ tm w _, R, _, frs, ⟨tm, todo, ⟨h1, h2, (fun x => by cases x), h3⟩, rfl⟩, hc, rfl⟩

/-- An operation that is not wanted. -/
theorem leads_unwanted {ops : Array Oper} {i : Nat} {rest : List Nat} {k : List Item} {o : Oper} (ho : ops[i]? = some o) (hw : wantedA K.O ops tmps o = .ok false) :
    Leads K main ⟨⟨fn, nt, tmps, .inRegion ops (i :: rest) :: k, defers, .run, kind⟩, callers, h⟩ ⟨⟨fn, nt, putA nt tmps o.dst undefA, .inRegion ops rest :: k, defers, .run, kind⟩, callers, h⟩ 1 := fun U ρ cs g w I Γ => by
  have hnt : nt ≤ 60000 := by obtain ⟨R, tm, frs, h1, _⟩ := gam_run.1 Γ; exact h1.le
  have hin : ∀ U, CIds K U ⟨⟨fn, nt, tmps, .inRegion ops (i :: rest) :: k, defers, .run, kind⟩, callers, h⟩ → CIds K U ⟨⟨fn, nt, putA nt tmps o.dst undefA, .inRegion ops rest :: k, defers, .run, kind⟩, callers, h⟩ := fun U I =>
    ⟨⟨putA_in I.cur.tmps (by simp [undefA, AV.In, AV.Ins]) hnt, I.cur.defers, trivial⟩, I.callers, I.ids⟩
  have L : Leads K main ⟨⟨fn, nt, tmps, .inRegion ops (i :: rest) :: k, defers, .run, kind⟩, callers, h⟩ ⟨⟨fn, nt, putA nt tmps o.dst undefA, .inRegion ops rest :: k, defers, .run, kind⟩, callers, h⟩ 1 := by
    refine leads_go rfl hin ?_
    intro ρ cs g w Γ
    obtain ⟨R, tm, frs, h1, h2, h3, hc, rfl⟩ := gam_run.1 Γ
    obtain ⟨tm', e, h1'⟩ := put_tmps (v := undefA) h1 (defers.map (AD.ev ρ)) o.dst
    refine ⟨_, stepG_unwanted ho (wantedA_ok R h1 hw), gam_run.2 ⟨R, tm', frs, h1', h2, h3, hc, ?_⟩⟩
    rw [← e]; rfl
  exact L U ρ cs g w I Γ
end frame

/-! ### Operations -/
section op
variable {P : Program} {b : Frame} {a : Act} {k : List Item} {w : World} {ops : Array Oper} {i : Nat} {rest : List Nat} {o : Oper} {w' : World}

theorem stepG_defer {d : Deferred} (ho : ops[i]? = some o) (hw : Region.wanted o (yielded ops a.tmps) = true) (hk : b.kind ≠ .early) (hr : (execOp a.eval o).run P w = .ok (.defer d) w') :
    stepG P main (G (b.at a (.inRegion ops (i :: rest) :: k)) cs) w = .go (G (b.at (({ a with defers := d :: a.defers } : Act).put o.dst undef) (.inRegion ops rest :: k)) cs) w' (listed P b.fn a o w) := by
  have hfin : (b.at { a with defers := d :: a.defers } (.inRegion ops (i :: rest) :: k)).finish undef = b.at (({ a with defers := d :: a.defers } : Act).put o.dst undef) (.inRegion ops rest :: k) := by rw [Frame.finish_at, ho]; rfl
  have hk' : (b.kind == CallKind.early) = false := by simpa using hk
  rw [stepG_oper ho hw, ← hfin]
  simp [stepG.apply, hr, G, Frame.at, hk', GStep.after, listed]

theorem stepG_panic {v : Value} (ho : ops[i]? = some o) (hw : Region.wanted o (yielded ops a.tmps) = true) (hk : b.kind ≠ .early) (hr : (execOp a.eval o).run P w = .halt (.panic v) w') :
    stepG P main (G (b.at a (.inRegion ops (i :: rest) :: k)) cs) w = .go (G ((b.at a (.inRegion ops (i :: rest) :: k)).raise [{ v, recovered := false }]) cs) w' (listed P b.fn a o w) := by
  have hk' : (b.kind == CallKind.early) = false := by simpa using hk
  rw [stepG_oper ho hw]
  simp [stepG.apply, hr, G, Frame.at, hk', GStep.after, listed]

theorem stepG_recover (ho : ops[i]? = some o) (hw : Region.wanted o (yielded ops a.tmps) = true) (hk : b.kind ≠ .early) (hr : (execOp a.eval o).run P w = .ok .recover w') :
    stepG P main (G (b.at a (.inRegion ops (i :: rest) :: k)) cs) w = .go (match tryRecover (b.at a (.inRegion ops (i :: rest) :: k)) cs with
      | some (v, cs') => G (b.at (a.put o.dst v) (.inRegion ops rest :: k)) cs'
      | none => G (b.at (a.put o.dst .nilIface) (.inRegion ops rest :: k)) cs) w' (listed P b.fn a o w) := by
  have hfin : ∀ v, (b.at a (.inRegion ops (i :: rest) :: k)).finish v = b.at (a.put o.dst v) (.inRegion ops rest :: k) := fun v => by rw [Frame.finish_at, ho]; rfl
  have hk' : (b.kind == CallKind.early) = false := by simpa using hk
  rw [stepG_oper ho hw]
  simp only [← hfin]
  generalize hf : (b.at a (.inRegion ops (i :: rest) :: k)) = f
  have h1 : f.roundOf = none := by rw [← hf]; rfl
  have h2 : f.fn = b.fn := by rw [← hf]; rfl
  have h3 : f.kind = b.kind := by rw [← hf]; rfl
  cases hx : tryRecover f cs with
  | none => simp [stepG.apply, hr, G, h1, h2, h3, hx, hk', GStep.after, listed]
  | some x => simp [stepG.apply, hr, G, h1, h2, h3, hx, hk', GStep.after, listed]
end op

/-- The goroutine behind an operation. -/
def NextG (P : Program) (ρ : Env) (b : Frame) (a : Act) (dst : Option Tmp) (ops : Array Oper) (i : Nat) (rest : List Nat) (k : List Item) (cs : List Frame) : AN → Goroutine → Prop
  | .value v, g => g = G (b.at (a.put dst (v.ev ρ)) (.inRegion ops rest :: k)) cs
  | .skip, g => g = G (b.at (a.put dst undef) (.inRegion ops rest :: k)) cs
  | .enter f args, g => g = G (Frame.enter P f (AV.evs ρ args).toArray .normal) (b.at a (.inRegion ops (i :: rest) :: k) :: cs)
  | .defer d, g => g = G (b.at (({ a with defers := d.ev ρ :: a.defers } : Act).put dst undef) (.inRegion ops rest :: k)) cs
  | .recover, g => g = match tryRecover (b.at a (.inRegion ops (i :: rest) :: k)) cs with
      | some (v, cs') => G (b.at (a.put dst v) (.inRegion ops rest :: k)) cs'
      | none => G (b.at (a.put dst .nilIface) (.inRegion ops rest :: k)) cs
  | .panic v, g => g = G ((b.at a (.inRegion ops (i :: rest) :: k)).raise [{ v := v.ev ρ, recovered := false }]) cs

def OpPost (K : Ctx) (U : Nat → Prop) (ρ : Env) (cs : List Frame) (w : World) (fn : FuncId) (nt : Nat) (tmps : TT) (defers : List AD) (kind : CallKind) (callers : List AFrame) (h : AH) (dst : Option Tmp) (ops : Array Oper) (i : Nat) (rest : List Nat) (k : List Item)
    (n : AN) (h' : AH) (g' : Goroutine) (w' : World) : Prop :=
  ∃ ρ', Agree U ρ ρ' ∧ Keeps K.own w w' ∧ Rel K ρ' h' w' ∧ Grows K U h h' ∧ n.In (plus U h.nb h'.nb) ∧ ∃ tm frs, TmpR ρ' nt tmps tm ∧ (kind = .normal ∨ kind = .deferred) ∧ (∃ f, K.P.funcs[fn]? = some f) ∧ FrRels K.P ρ' callers frs ∧
    NextG K.P ρ' (mkF fn kind) ⟨tm, defers.map (AD.ev ρ')⟩ dst ops i rest k (frs ++ cs) n g'

theorem op_step (Gd : K.Good) (F : K.Facts) {ext : Ext} (X : ExtOk K ext) {fn : FuncId} {nt : Nat} {tmps : TT} {defers : List AD} {kind : CallKind} {callers : List AFrame} {h : AH} {ops : Array Oper} {i : Nat} {rest : List Nat} {k : List Item} {o : Oper} {n : AN} {h' : AH}
    (ho : ops[i]? = some o) (hw : wantedA K.O ops tmps o = .ok true) (he : op? K.P K.O ext h (evalA tmps) o = .ok (n, h')) {g : Goroutine} {w : World}
    (I : CIds K U ⟨⟨fn, nt, tmps, .inRegion ops (i :: rest) :: k, defers, .run, kind⟩, callers, h⟩) (Γ : Gam K ρ ⟨⟨fn, nt, tmps, .inRegion ops (i :: rest) :: k, defers, .run, kind⟩, callers, h⟩ cs g w) :
    Walk K.P main (DK K) (OpPost K U ρ cs w fn nt tmps defers kind callers h o.dst ops i rest k n h') 1 g w := Walk.one Γ.running fun d => by
  obtain ⟨R, tm, frs, h1, h2, h3, hc, rfl⟩ := gam_run.1 (Γ.drawn d)
  have N := op?_ok Gd F X R I.ids (evalA_in I.cur.tmps) he
  have hev : (⟨tm, defers.map (AD.ev ρ)⟩ : Act).eval = fun x => (evalA tmps x).ev ρ := funext fun x => evalA_ev h1 _ x
  have hwt := wantedA_ok R h1 hw
  have hke : (mkF fn kind).kind ≠ .early := by
    show kind ≠ .early
    rcases h2 with rfl | rfl <;> simp
  have run := wq_run (wq_keep Gd.noWr _ (N.run (E := fun v w' => ∃ v', n = .panic v' ∧ h' = h ∧ v = v'.ev ρ ∧ w' = drawnAt w d) (Q := fun nx w' => After K U ρ (drawnAt w d) h' (fun ρ' => n.is ρ' nx) w') (fun nx w' x => x) (fun v hn hh => ⟨v, hn, hh, rfl, rfl⟩)))
  rw [← hev] at run
  obtain ⟨run, hes⟩ := run
  have hes' : ∀ e ∈ listed K.P (mkF fn kind).fn ⟨tm, defers.map (AD.ev ρ)⟩ o (drawnAt w d), K.Ev e := fun e he => hes e (mem_listed he)
  have post : ∀ {ρ' : Env} {w' : World} {g' : Goroutine}, Agree U ρ ρ' → Rel K ρ' h' w' → Keeps K.own (drawnAt w d) w' →
      NextG K.P ρ' (mkF fn kind) ⟨tm, defers.map (AD.ev ρ')⟩ o.dst ops i rest k (frs ++ cs) n g' →
      OpPost K U ρ cs w fn nt tmps defers kind callers h o.dst ops i rest k n h' g' w' := fun A R' k x =>
    ⟨_, A, (keeps_drawn _ w d).trans k, R', N.grows, N.mem, tm, frs, h1.agree A I.cur.tmps, h2, h3, callers_agree A hc I.callers, x⟩
  have dev : ∀ {ρ' : Env}, Agree U ρ ρ' → defers.map (AD.ev ρ) = defers.map (AD.ev ρ') := fun A => List.map_congr_left fun d hd => (AD.ev_agree A (I.cur.defers d hd)).symm
  generalize hr : (execOp (⟨tm, defers.map (AD.ev ρ)⟩ : Act).eval o).run K.P (drawnAt w d) = r at run
  cases r with
  | ok nx w' =>
    obtain ⟨⟨ρ', A, R', kp, is⟩, hst⟩ := run
    cases n with
    | value v =>
      have is' : nx = .value (v.ev ρ') := is
      subst is'
      rw [stepG_value ho hwt hke hr]
      exact ⟨⟨kp, hes', hst⟩, post A R' kp (by rw [← dev A]; exact rfl)⟩
    | skip =>
      have is' : nx = .skip := is
      subst is'
      rw [stepG_none ho hwt hke hr]
      exact ⟨⟨kp, hes', hst⟩, post A R' kp (by rw [← dev A]; exact rfl)⟩
    | enter f args =>
      have is' : nx = .enter f (AV.evs ρ' args).toArray := is
      subst is'
      rw [stepG_enter ho hwt hke hr]
      exact ⟨⟨kp, hes', hst⟩, post A R' kp (by rw [← dev A]; exact rfl)⟩
    | defer x =>
      have is' : nx = .defer (x.ev ρ') := is
      subst is'
      rw [stepG_defer ho hwt hke hr]
      exact ⟨⟨kp, hes', hst⟩, post A R' kp (by rw [← dev A]; exact rfl)⟩
    | recover =>
      have is' : nx = .recover := is
      subst is'
      rw [stepG_recover ho hwt hke hr]
      exact ⟨⟨kp, hes', hst⟩, post A R' kp (by rw [← dev A]; exact rfl)⟩
    | panic v => exact is.elim
  | halt x w' =>
    cases x with
    | panic v =>
      obtain ⟨v', rfl, rfl, rfl, rfl⟩ := run
      rw [stepG_panic ho hwt hke hr]
      exact ⟨⟨Keeps.refl _ _, hes', fun _ _ _ _ x => x⟩, post (Agree.refl _ _) R (Keeps.refl _ _) rfl⟩
    | _ => exact run.elim

end
end Go.Proofs.Ytcpiafgkmakdiaa.SX

/-
  A run of one goroutine alone: a contract.
-/
import Derived.Test.YtmnahfonnljobaaGreatDoorSxStep
import Derived.Calls
import Derived.Test.YtmnahfonnljobaaGreatDoorSxOpsB
import Derived.Test.YtmnahfonnljobaaGreatDoorSxBase
set_option linter.unusedSectionVars false
set_option linter.unusedVariables false
set_option linter.unusedSimpArgs false
namespace Go.Proofs.YtmnahfonnljobaaGreatDoor.SX
open Go.Conc

def loneG (g : Goroutine) (w : World) : Machine := { world := w, gs := #[g], rest := { timers := #[], alone := none, slice := none } }

theorem move_loneG {P : Program} {g : Goroutine} {w : World} (h : g.status = .running) : move P (loneG g w) = .goroutine (loneG g w) 0 := by
  simp [move, ask, askOn, loneG, runnable_eq, due, ahead, Goroutine.canRun, h, List.range_succ, choose, pure, Sem.run, Question.forced]

theorem step_loneG {P : Program} {g g' : Goroutine} {w w' : World} {es : Array Event} (h : g.status = .running) (hs : stepG P true g w = .go g' w' es) : step P (loneG g w) = .next (loneG g' w') := by
  rw [step, stepT, move_loneG h]
  simp [runT, loneG, Array.swapAt!, hs]

theorem walk_steps {P : Program} {D : World → World → Array Event → Prop} {S : Goroutine → World → Prop} {n : Nat} {g : Goroutine} {w : World} (h : Walk P true D S n g w) : ∃ g' w', Steps P (loneG g w) (loneG g' w') ∧ S g' w' := by
  change WalkI P true D S 0 g w at h
  generalize (0 : Nat) = k at h
  induction h with
  | stop g w hs => exact ⟨g, w, .refl _ _, hs⟩
  | step n g w g' w' es hr hs hd hw ih =>
    obtain ⟨g2, w2, h1, h2⟩ := ih w.drawn
    exact ⟨g2, w2, .head (step_loneG hr (hs w.drawn)) h1, h2⟩
  | off n g w g' hr hs hw ih =>
    obtain ⟨g2, w2, h1, h2⟩ := ih w.drawn
    exact ⟨g2, w2, .head (step_loneG hr (hs w.drawn)) h1, h2⟩
  | on n g w g' hr hs hw ih =>
    obtain ⟨g2, w2, h1, h2⟩ := ih w.drawn
    exact ⟨g2, w2, .head (step_loneG hr (hs w.drawn)) h1, h2⟩

/-- What a call comes to. -/
def Came (K : Ctx) (U : Nat → Prop) (ρ : Env) (w : World) (r : AE × AH) (e : Ending) (w' : World) : Prop :=
  ∃ ρ', Agree U ρ ρ' ∧ Keeps K.own w w' ∧ Rel K ρ' r.2 w' ∧ match r.1 with
    | .returned v => e = .returned (v.ev ρ')
    | .panicked chain => e = .panicked (chain.map fun x => { v := x.1.ev ρ', recovered := x.2 })

theorem calls_ok {K : Ctx} (Gd : K.Good) (F : K.Facts) {ext : Ext} (X : ExtOk K ext) {sum : Sums} (Z : SumOk K true sum) {n : Nat} {f : FuncId} {args : List AV} {h : AH} {r : AE × AH} (he : call? K.P K.O ext sum n f args h = .ok r)
    {U : Nat → Prop} {ρ : Env} {w : World} (I : Ids K U h) (ha : AV.Ins U args) (R : Rel K ρ h w) : Calls K.P f (AV.evs ρ args).toArray w (Came K U ρ w r) := by
  intro cs
  obtain ⟨fr, N, hen, E⟩ := call_ok (main := true) Gd F X Z he
  obtain ⟨e1, e2, e3, e4, e5⟩ := enterA_ok hen (.inl rfl) ha (ρ := ρ)
  have W := E U ρ cs (G (Frame.enter K.P f (AV.evs ρ args).toArray .normal) cs) w ⟨e2, fun _ x => by (simp at x), I⟩ ⟨R, _, [], e1, trivial, rfl⟩
  obtain ⟨g', w', st, ρ', A, kp, gr, hin, R', ends⟩ := walk_steps W
  obtain ⟨fr', fn', rfl, hfn, hd, hf, hm⟩ := ends
  have hb : fr'.fn = f := by rw [hfn]; exact e4
  cases hr : r.1 with
  | returned v =>
    rw [hr] at hm
    obtain ⟨m1, m2, m3⟩ := hm
    refine ⟨.returned (v.ev ρ'), w', fr', ⟨ρ', A, kp, R', by rw [hr]⟩, st, hb, m1, hd, m2, fn', hf, ?_⟩
    have := (wq_run (m3 w'.drawn (Q := fun x w2 => x = v.ev ρ' ∧ w2 = w') ⟨rfl, rfl⟩)).1
    have hw : drawnAt w' w'.drawn = w' := rfl
    rw [hw] at this
    generalize hrr : (results fn' fr'.tmps).run K.P w' = q at this
    cases q with
    | ok x w2 => obtain ⟨rfl, rfl⟩ := this; rfl
    | halt x w2 => cases x <;> exact this.elim
  | panicked chain =>
    rw [hr] at hm
    have hm' : fr'.mode = .panicking (chain.map fun x => { v := x.1.ev ρ', recovered := x.2 }) := hm
    exact ⟨.panicked (chain.map fun x => { v := x.1.ev ρ', recovered := x.2 }), w', fr', ⟨ρ', A, kp, R', by rw [hr]⟩, st, hb, hm', hd, fn', hf⟩

end Go.Proofs.YtmnahfonnljobaaGreatDoor.SX
/-
  The entries that look at memory, sound: atomics, marks.
-/
set_option linter.unusedSectionVars false
set_option linter.unusedVariables false
set_option linter.unusedSimpArgs false
namespace Go.Proofs.YtmnahfonnljobaaGreatDoor.SX

def XE.sem : XE → (Array Value → Sem Value) → Prop
  | .ld k, e => e = Extern.Atomic.loadT (.int k)
  | .st, e => e = Extern.Atomic.storeT
  | .sw k, e => e = Extern.Atomic.swapT (.int k)
  | .cas k, e => e = Extern.Atomic.casT (.int k)
  | .add k, e => e = Extern.Atomic.update (Op.intArith .add) k true
  | .acquire, e => e = Extern.Race.marked .acquire
  | .release, e => e = Extern.Race.marked .release
  | .releaseMerge, e => e = Extern.Race.marked .releaseMerge
  | .quiet, e => ∃ m, e = fun _ => do mark m; pure Extern.Race.none_
  | .typeOf, e => e = Extern.ReflectliteType.typeOf
  | .valueOf, e => e = fun args => Extern.ReflectliteValue.unpack (args.getD 0 (.tuple #[]))
  | .vType, e => ∃ z, e = Extern.ReflectliteValue.methodAny z fun t _ _ _ => Extern.ReflectliteType.toType t
  | .vIsNil, e => ∃ z, e = Extern.ReflectliteValue.method z Extern.ReflectliteValue.isNil
  | .vElem, e => ∃ z, e = Extern.ReflectliteValue.method z Extern.ReflectliteValue.elem
  | .vSet, e => e = Extern.ReflectliteValue.set

section
variable {K : Ctx} {ρ : Env} {h : AH} {w : World} {U : Nat → Prop}

theorem ldInt_ok (R : Rel K ρ h w) (G : K.Good) {a : AA} {k : IntKind} {e : IE} (hl : ldInt K.O h a k = .ok e) : w.cell? (a.ev ρ) = some (.int k (e.ev ρ)) ∧ (∀ s, K.Ev ⟨.cell (a.ev ρ), false, s⟩) ∧ ∀ {U}, Ids K U h → e.In U := by
  unfold ldInt at hl
  rw [bind_ok] at hl
  obtain ⟨v, hv, hl⟩ := hl
  obtain ⟨h1, h2⟩ := load1_sound R G hv
  split at hl
  · split at hl
    · rename_i hk
      cases hl
      subst hk
      exact ⟨h1, h2, fun I => load1_in I hv⟩
    · cases hl
  · cases hl

theorem wq_read {E : Value → World → Prop} {a : Addr} {k : IntKind} {n : Int} (hc : w.cell? a = some (.int k n)) (he : ∀ s, K.Ev ⟨.cell a, false, s⟩) {Q : Value → World → Prop} (hq : Q (.int k n) w) : wq K.P K.Ev E (Extern.Atomic.read (.int k) a) Q w := by
  unfold Extern.Atomic.read
  simp only [wq_bind, wq_load]
  refine ⟨_, hc, he _, ?_⟩
  simp only [if_true, wq_pure]
  exact hq

theorem wq_swrite {E : Value → World → Prop} {a : AA} {v : AV} {h' : AH} (R : Rel K ρ h w) (G : K.Good) (hs : store1 h a v = .ok h') {Q : Unit → World → Prop} (hq : Q () (w.setCell (a.ev ρ) (v.ev ρ))) : wq K.P K.Ev E (store (a.ev ρ) (v.ev ρ) .atomic) Q w := by
  obtain ⟨s1, s2, s3, s4, _⟩ := store1_sound R G hs
  rw [wq_store]
  exact ⟨s1, s2, s3, s4 _, hq⟩

theorem store1_grows (I : Ids K U h) {a : AA} {v : AV} {h' : AH} (hs : store1 h a v = .ok h') (ha : a.In U) (hv : v.In U) (hn : h'.nb = h.nb) (hl : h'.lim = h.lim) : Grows K U h h' :=
  ⟨by rw [hn]; exact Nat.le_refl _, hl, by rw [hn]; exact (store1_ids I hs ha hv).congr (fun n => ⟨.inl, plus_none n⟩)⟩

theorem after_store (R : Rel K ρ h w) (G : K.Good) {a : AA} {v : AV} {h' : AH} (hs : store1 h a v = .ok h') {Q : Env → Prop} (hq : Q ρ) : After K U ρ w h' Q (w.setCell (a.ev ρ) (v.ev ρ)) := by
  obtain ⟨_, _, _, _, s5, s6, _⟩ := store1_sound R G hs
  exact ⟨ρ, Agree.refl _ _, s5, s6, hq⟩

theorem ld_ok (G : K.Good) (R : Rel K ρ h w) (I : Ids K U h) {a : AA} {k : IntKind} {e : IE} (hl : ldInt K.O h a k = .ok e) : HOk K U ρ h w (Extern.Atomic.loadT (.int k) (AV.evs ρ [.ptr (some a)]).toArray) (.int k e) h := by
  obtain ⟨h1, h2, h3⟩ := ldInt_ok R G hl
  refine HOk.pure R I (h3 I) fun {E Q} hq => ?_
  show wq K.P K.Ev E (do Extern.Atomic.read (.int k) (← asAddr (.pointer (some (a.ev ρ))))) Q w
  simp only [wq_bind, asAddr, wq_pure]
  exact wq_read h1 h2 hq

theorem st_ok (G : K.Good) (R : Rel K ρ h w) (I : Ids K U h) {a : AA} {v : AV} {h' : AH} (ha : a.In U) (hv : v.In U) (hs : store1 h a v = .ok h') : HOk K U ρ h w (Extern.Atomic.storeT (AV.evs ρ [.ptr (some a), v]).toArray) undefA h' := by
  obtain ⟨_, _, _, _, _, _, hn, hl⟩ := store1_sound R G hs
  refine ⟨by simp [undefA, AV.In, AV.Ins], store1_grows I hs ha hv hn hl, fun {E Q} hq => ?_⟩
  show wq K.P K.Ev E (do store (← asAddr (.pointer (some (a.ev ρ)))) (v.ev ρ) .atomic; pure Extern.Atomic.none_) Q w
  simp only [wq_bind, asAddr, wq_pure]
  exact wq_swrite R G hs (hq _ _ (after_store R G hs rfl))

theorem sw_ok (G : K.Good) (R : Rel K ρ h w) (I : Ids K U h) {a : AA} {v : AV} {k : IntKind} {e : IE} {h' : AH} (ha : a.In U) (hv : v.In U) (hl : ldInt K.O h a k = .ok e) (hs : store1 h a v = .ok h') :
    HOk K U ρ h w (Extern.Atomic.swapT (.int k) (AV.evs ρ [.ptr (some a), v]).toArray) (.int k e) h' := by
  obtain ⟨h1, h2, h3⟩ := ldInt_ok R G hl
  obtain ⟨_, _, _, _, _, _, hn, hl'⟩ := store1_sound R G hs
  refine ⟨IE.In.mono plus_sub (h3 I), store1_grows I hs ha hv hn hl', fun {E Q} hq => ?_⟩
  show wq K.P K.Ev E (do let a ← asAddr (.pointer (some (a.ev ρ))); let old ← Extern.Atomic.read (.int k) a; store a (v.ev ρ) .atomic; pure old) Q w
  simp only [wq_bind, asAddr, wq_pure]
  refine wq_read h1 h2 ?_
  exact wq_swrite R G hs (hq _ _ (after_store R G hs rfl))

theorem add_ok (G : K.Good) (R : Rel K ρ h w) (I : Ids K U h) {a : AA} {k k' : IntKind} {e d : IE} {h' : AH} (ha : a.In U) (hd : d.In U) (hl : ldInt K.O h a k = .ok e) (hs : store1 h a (.int k (K.O.int (.op .add k e d))) = .ok h')
    (hin : (K.O.int (.op .add k e d)).In U) :
    HOk K U ρ h w (Extern.Atomic.update (Op.intArith .add) k true (AV.evs ρ [.ptr (some a), .int k' d]).toArray) (.int k (K.O.int (.op .add k e d))) h' := by
  obtain ⟨h1, h2, h3⟩ := ldInt_ok R G hl
  obtain ⟨_, _, _, _, _, _, hn, hl'⟩ := store1_sound R G hs
  refine ⟨IE.In.mono plus_sub hin, store1_grows I hs ha hin hn hl', fun {E Q} hq => ?_⟩
  show wq K.P K.Ev E (do
    let a ← asAddr (.pointer (some (a.ev ρ)))
    let old ← Extern.Atomic.read (.int k) a
    let new ← Op.intArith .add k (← asInt old) (← asInt (.int k' (d.ev ρ)))
    store a new .atomic
    pure (if true then new else old)) Q w
  simp only [wq_bind, asAddr, wq_pure]
  refine wq_read h1 h2 ?_
  simp only [asInt, asIntOf, wq_pure, wq_bind]
  have hx : Op.intArith .add k (e.ev ρ) (d.ev ρ) = (pure ((AV.int k (K.O.int (.op .add k e d))).ev ρ) : Sem Value) := by
    simp only [AV.ev, int_ev R, IE.ev, iop]; rfl
  rw [hx]
  simp only [wq_pure, if_true]
  exact wq_swrite R G hs (hq _ _ (after_store R G hs rfl))

theorem store0_at {a : AA} {v : AV} {h' : AH} (hs : store0 h a v = .ok h') : ∃ i off b, a = ⟨.dyn i, off⟩ ∧ findB i h.hp = some b ∧ b.isMem = true := by
  obtain ⟨blk, off⟩ := a
  unfold store0 at hs
  dsimp only at hs
  split at hs
  · rename_i i n
    split at hs
    · rename_i b hb
      split at hs
      · rename_i hc
        simp only [Bool.and_eq_true, decide_eq_true_eq] at hc
        exact ⟨i, _, b, rfl, hb, isMem_lt hc.1.1⟩
      · cases hs
    · cases hs
  · cases hs

theorem store1_at {a : AA} {v : AV} {h' : AH} (hs : store1 h a v = .ok h') : ∃ i off b, a = ⟨.dyn i, off⟩ ∧ findB i h.hp = some b ∧ b.isMem = true := by
  unfold store1 at hs
  split at hs
  · rename_i h1 hh
    exact store0_at hh
  · split at hs
    · rename_i h1 hh
      obtain ⟨blk, off⟩ := a
      unfold preSet? at hh
      dsimp only at hh
      split at hh
      · rename_i i _
        split at hh
        · rename_i b hb
          split at hh
          · rename_i b' hb'
            exact ⟨i, off, b, rfl, hb, by cases b <;> first | rfl | cases hb'⟩
          · cases hh
        · cases hh
      · cases hh
    · cases hs

theorem cas_ok (G : K.Good) (R : Rel K ρ h w) (I : Ids K U h) {a : AA} {v : AV} {k k' : IntKind} {e old : IE} {h' : AH} {b : Bool} (ha : a.In U) (hv : v.In U) (hl : ldInt K.O h a k = .ok e) (hb : K.O.dec (.cmp .eql e old) = .ok b) (hs : store1 h a v = .ok h') :
    HOk K U ρ h w (Extern.Atomic.casT (.int k) (AV.evs ρ [.ptr (some a), .int k' old, v]).toArray) (.bool (.lit b)) (if b then h' else h) := by
  obtain ⟨h1, h2, h3⟩ := ldInt_ok R G hl
  obtain ⟨_, _, hfz, _, _, _, hn, hl'⟩ := store1_sound R G hs
  obtain ⟨i, off, blk, rfl, hblk, hmem⟩ := store1_at hs
  obtain ⟨arr, harr, _⟩ := R.arr hblk hmem
  have hd := dec_ev R hb
  refine ⟨trivial, ?_, fun {E Q} hq => ?_⟩
  · cases b
    · exact Grows.refl I
    · exact store1_grows I hs ha hv hn hl'
  · have hsh : (w.shape? (AA.ev ρ ⟨.dyn i, off⟩).block) = some (blk.elem, arr.size) := by
      show w.shape? (ρ.b i) = _
      simp [World.shape?, harr]
    have hcmp : (e.ev ρ == old.ev ρ) = b := by simpa [BE.ev, icmp] using hd
    show wq K.P K.Ev E (asAddr (.pointer (some (AA.ev ρ ⟨.dyn i, off⟩))) >>= _) Q w
    refine (wq_bind _ _).2 ?_
    show wq K.P K.Ev E (Extern.Atomic.touchesFrozen (AA.ev ρ ⟨.dyn i, off⟩) >>= _) Q w
    refine (wq_bind _ _).2 ?_
    simp only [wq_bind, wq_pure, Extern.Atomic.touchesFrozen, viewAt, wq_shape, hsh, Option.isSome_some, if_true, wq_frozen, hfz]
    show wq K.P K.Ev E (Extern.Atomic.read (.int k) (AA.ev ρ ⟨.dyn i, off⟩) >>= _) Q w
    refine (wq_bind _ _).2 (wq_read h1 h2 ?_)
    show wq K.P K.Ev E (pure (IE.ev ρ e == IE.ev ρ old) >>= _) Q w
    refine (wq_bind _ _).2 ?_
    rw [wq_pure, hcmp]
    cases b with
    | true =>
      simp only [if_true, wq_bind, wq_pure]
      exact wq_swrite R G hs (hq _ _ (after_store R G hs rfl))
    | false =>
      simp only [Bool.false_eq_true, if_false, wq_pure, wq_bind]
      exact hq _ _ (After.same R rfl)

theorem mark_ok (G : K.Good) (R : Rel K ρ h w) (I : Ids K U h) (m : Addr → Mark) (m1 : ∀ a, markOk (m a) = true) {a : AA} : HOk K U ρ h w (Extern.Race.marked m (AV.evs ρ [.ptr (some a)]).toArray) undefA h := by
  refine HOk.pure R I (by simp [undefA, AV.In, AV.Ins]) fun {E Q} hq => ?_
  show wq K.P K.Ev E (do mark (m (← (pure (a.ev ρ) : Sem Addr))); pure Extern.Race.none_) Q w
  simp only [wq_bind, wq_pure, wq_mark]
  exact ⟨G.ext _ (m1 _), hq⟩

theorem quiet_ok (G : K.Good) (L : K.lock) (R : Rel K ρ h w) (I : Ids K U h) (m : Mark) : HOk K U ρ h w (do mark m; pure Extern.Race.none_) undefA h := by
  refine HOk.pure R I (by simp [undefA, AV.In, AV.Ins]) fun {E Q} hq => ?_
  simp only [wq_bind, wq_pure, wq_mark]
  exact ⟨G.lock L _, hq⟩
end
end Go.Proofs.YtmnahfonnljobaaGreatDoor.SX
/-
  The entries that look at memory, sound: reflectlite; all together.
-/
set_option linter.unusedSectionVars false
set_option linter.unusedVariables false
set_option linter.unusedSimpArgs false
namespace Go.Proofs.YtmnahfonnljobaaGreatDoor.SX

section
variable {K : Ctx} {ρ : Env} {h : AH} {w : World} {U : Nat → Prop} {E : Value → World → Prop}

theorem kind?_ok {P : Program} {t : TypeId} {n : Nat} (hk : kind? P t = .ok n) : pureRun P (Extern.Rtype.kind t) = some n := by
  unfold kind? at hk
  split at hk
  · rename_i h; cases hk; exact h
  · cases hk

theorem wq_handle {t : TypeId} {Q : Value → World → Prop} (hq : Q (.pointer (some ⟨K.P.globals.size, t, none⟩)) w) : wq K.P K.Ev E (Extern.Rtype.handle t) Q w := by
  simp only [Extern.Rtype.handle, wq_bind, wq_program, wq_pure]
  exact hq

theorem wq_mk {t : TypeId} {a : AA} {fl : Nat} {r : AV} (hr : mkV? K.P t a fl = .ok r) {Q : Value → World → Prop} (hq : Q (r.ev ρ) w) : wq K.P K.Ev E (Extern.ReflectliteValue.mk t (a.ev ρ) fl) Q w := by
  unfold mkV? at hr
  rw [bind_ok] at hr
  obtain ⟨n, hn, hr⟩ := hr
  cases hr
  unfold Extern.ReflectliteValue.mk
  simp only [wq_bind]
  refine wq_handle (wq_pureRun (kind?_ok hn) ?_)
  rw [wq_pure]
  exact hq

theorem mkV?_in {P : Program} {t : TypeId} {a : AA} {fl : Nat} {r : AV} (hr : mkV? P t a fl = .ok r) (ha : a.In U) : r.In U := by
  unfold mkV? at hr
  rw [bind_ok] at hr
  obtain ⟨n, hn, hr⟩ := hr
  cases hr
  exact ⟨⟨trivial, trivial⟩, ha, trivial, trivial⟩

theorem handle?_ok {P : Program} {x : AV} {t : TypeId} (hx : handle? P x = some t) (ρ : Env) : handleType P (x.ev ρ) = some t := by
  unfold handle? at hx
  split at hx
  · split at hx
    · rename_i b o hb
      cases hx
      simp only [AV.ev, Option.map_some, AA.ev, BR.ev, IE.ev, handleType, hb, if_true]
      rfl
    · cases hx
  · cases hx

structure PartsIs (P : Program) (x : AV) (t : TypeId) (a : AA) (f : Nat) : Prop where
  ex : ∃ h, x = .agg [h, .ptr (some a), .int .u64 (.lit (.ofNat f))] ∧ handle? P h = some t
  pos : f ≠ 0
  pack : P.packed t = false

theorem partsV?_ok {P : Program} {x : AV} {t : TypeId} {a : AA} {f : Nat} (hp : partsV? P x = .ok (t, a, f)) : PartsIs P x t a f := by
  unfold partsV? at hp
  split at hp
  · split at hp
    · rename_i hh
      split at hp
      · cases hp
      · rename_i hc
        cases hp
        simp only [Bool.or_eq_true, decide_eq_true_eq, not_or, Bool.not_eq_true] at hc
        exact ⟨⟨_, rfl, hh⟩, hc.1, hc.2⟩
    · cases hp
  · cases hp

theorem PartsIs.in {x : AV} {t : TypeId} {a : AA} {f : Nat} (p : PartsIs K.P x t a f) (hx : x.In U) : a.In U := by
  obtain ⟨hh, rfl, _⟩ := p.ex
  exact hx.2.1

theorem wq_partsAny {x : AV} {t : TypeId} {a : AA} {f : Nat} (p : PartsIs K.P x t a f) {Q : Option (TypeId × Addr × Nat) → World → Prop} (hq : Q (some (t, a.ev ρ, f)) w) : wq K.P K.Ev E (Extern.ReflectliteValue.partsAny (x.ev ρ)) Q w := by
  obtain ⟨hh, rfl, ht⟩ := p.ex
  have hne : f ≠ 0 := p.pos
  obtain ⟨m, rfl⟩ : ∃ m, f = m + 1 := ⟨f - 1, by omega⟩
  show wq K.P K.Ev E (Extern.Rtype.ofHandle (hh.ev ρ) >>= fun t => pure (some (t, a.ev ρ, m + 1))) Q w
  simp only [wq_bind, Extern.Rtype.ofHandle, wq_program, handle?_ok ht, wq_pure]
  exact hq

theorem wq_noPack {s : String} {t : TypeId} (hp : K.P.packed t = false) {Q : Unit → World → Prop} (hq : Q () w) : wq K.P K.Ev E (Extern.Rtype.noPack s t) Q w := by
  unfold Extern.Rtype.noPack
  simp only [wq_bind, wq_program, hp, Bool.false_eq_true, if_false, wq_pure]
  exact hq

theorem wq_parts {x : AV} {t : TypeId} {a : AA} {f : Nat} (p : PartsIs K.P x t a f) {Q : Option (TypeId × Addr × Nat) → World → Prop} (hq : Q (some (t, a.ev ρ, f)) w) : wq K.P K.Ev E (Extern.ReflectliteValue.parts (x.ev ρ)) Q w := by
  unfold Extern.ReflectliteValue.parts
  rw [wq_bind]
  refine wq_partsAny p ?_
  simp only [wq_bind]
  refine wq_noPack p.pack ?_
  rw [wq_pure]
  exact hq

theorem wq_rmethod {z : Sem Value} {g : TypeId → Addr → Nat → Nat → Sem Value} {x : AV} {t : TypeId} {a : AA} {f : Nat} (p : PartsIs K.P x t a f) {Q : Value → World → Prop} (hq : wq K.P K.Ev E (g t (a.ev ρ) f (f % 32)) Q w) :
    wq K.P K.Ev E (Extern.ReflectliteValue.method z g (AV.evs ρ [x]).toArray) Q w := by
  show wq K.P K.Ev E (Extern.ReflectliteValue.parts (x.ev ρ) >>= _) Q w
  rw [wq_bind]
  exact wq_parts p hq

theorem wq_rmethodAny {z : Sem Value} {g : TypeId → Addr → Nat → Nat → Sem Value} {x : AV} {t : TypeId} {a : AA} {f : Nat} (p : PartsIs K.P x t a f) {Q : Value → World → Prop} (hq : wq K.P K.Ev E (g t (a.ev ρ) f (f % 32)) Q w) :
    wq K.P K.Ev E (Extern.ReflectliteValue.methodAny z g (AV.evs ρ [x]).toArray) Q w := by
  show wq K.P K.Ev E (Extern.ReflectliteValue.partsAny (x.ev ρ) >>= _) Q w
  rw [wq_bind]
  exact wq_partsAny p hq

theorem unpack_ok (G : K.Good) (R : Rel K ρ h w) (I : Ids K U h) {x r : AV} {h' : AH} (hx : x.In U) (hu : unpackV? K.P h x = .ok (r, h')) : HOk K U ρ h w (Extern.ReflectliteValue.unpack (x.ev ρ)) r h' := by
  unfold unpackV? at hu
  split at hu
  · rename_i t v
    rw [bind_ok] at hu
    obtain ⟨cs, hc, hu⟩ := hu
    rw [bind_ok] at hu
    obtain ⟨⟨y, h1⟩, ha, hu⟩ := hu
    dsimp only at hu
    split at hu
    · rename_i a
      rw [bind_ok] at hu
      obtain ⟨r', hr, hu⟩ := hu
      cases hu
      obtain ⟨_, g1, g2, g3⟩ := alloc?_sound R I ha (cells?_in hc hx)
      refine ⟨mkV?_in hr g1, g2, fun {E Q} hq => ?_⟩
      show wq K.P K.Ev E (newVar t (v.ev ρ) >>= fun b => Extern.ReflectliteValue.mk t b 0) Q w
      rw [wq_bind]
      refine wq_newVar_of (cells?_ev hc ρ) ?_
      obtain ⟨ρ', a1, a2, a3, a4⟩ := g3 (AV.evs ρ cs).toArray (by simp [ABlk.fits])
      have ha4 : a.ev ρ' = ⟨w.heap.size, 0, none⟩ := by simpa [AV.ev] using a4
      rw [← ha4]
      exact wq_mk hr (hq _ _ ⟨ρ', a1, a2, a3, rfl⟩)
    · cases hu
  · cases hu
    exact HOk.pure R I ⟨trivial, trivial, trivial, trivial⟩ fun {E Q} hq => hq
  · cases hu

theorem toType_ok (R : Rel K ρ h w) (I : Ids K U h) {t : TypeId} {v : Value} (hv : pureRun K.P (Extern.ReflectliteType.toType t) = some v) : HOk K U ρ h w (Extern.ReflectliteType.toType t) (ofValue v) h :=
  HOk.pure R I (ofValue_in v) fun {E Q} hq => wq_pureRun hv (by rw [ofValue_ev] at hq; exact hq)

theorem wq_isNil {v : AV} {b : Bool} (hb : isNil? v = .ok b) {Q : Value → World → Prop} (hq : Q (.bool b) w) :
    wq K.P K.Ev E (match v.ev ρ with
      | .chan none | .nilFunc | .nilIface | .map none | .pointer none | .slice none _ _ => (pure (.bool true) : Sem Value)
      | _ => pure (.bool false)) Q w := by
  unfold isNil? at hb
  split at hb <;> cases hb <;> exact hq

theorem xIsNil_ok (G : K.Good) (R : Rel K ρ h w) (I : Ids K U h) {z : Sem Value} {x r : AV} {h' : AH} (hx : x.In U) (he : xIsNil? K.P K.O h x = .ok (r, h')) : HOk K U ρ h w (Extern.ReflectliteValue.method z Extern.ReflectliteValue.isNil (AV.evs ρ [x]).toArray) r h' := by
  unfold xIsNil? at he
  rw [bind_ok] at he
  obtain ⟨⟨t, a, fl⟩, hp, he⟩ := he
  dsimp only at he
  split at he
  · rename_i hk
    rw [bind_ok] at he
    obtain ⟨v, hv, he⟩ := he
    rw [bind_ok] at he
    obtain ⟨b, hb, he⟩ := he
    cases he
    have p := partsV?_ok hp
    refine HOk.pure R I trivial fun {E Q} hq => wq_rmethod p ?_
    unfold Extern.ReflectliteValue.isNil
    simp only [hk, Bool.not_true, Bool.false_eq_true, if_false, wq_bind, wq_pure]
    exact wq_loadVar R G hv (wq_isNil hb hq)
  · cases he

theorem elemT?_ok {P : Program} {t e : TypeId} (he : elemT? P t = .ok e) : pureRun P (Extern.Rtype.elem? t) = some (some e) := by
  unfold elemT? at he
  split at he
  · rename_i h; cases he; exact h
  · cases he

theorem xElem_ok (G : K.Good) (R : Rel K ρ h w) (I : Ids K U h) {z : Sem Value} {x r : AV} {h' : AH} (hx : x.In U) (he : xElem? K.P K.O h x = .ok (r, h')) : HOk K U ρ h w (Extern.ReflectliteValue.method z Extern.ReflectliteValue.elem (AV.evs ρ [x]).toArray) r h' := by
  unfold xElem? at he
  rw [bind_ok] at he
  obtain ⟨⟨t, a, fl⟩, hp, he⟩ := he
  dsimp only at he
  have p := partsV?_ok hp
  rw [bind_ok] at he
  obtain ⟨v, hv, he⟩ := he
  have hvin := loadVar?_in I hv
  split at he
  · rename_i hk
    rw [bind_ok] at he
    obtain ⟨e, hel, he⟩ := he
    have hel' := elemT?_ok hel
    have front : ∀ {E : Value → World → Prop} {Q : Value → World → Prop}, wq K.P K.Ev E (match (22 : Nat), v.ev ρ, some e with
        | 20, i, _ => Extern.ReflectliteValue.unpack i
        | 22, .pointer none, _ => pure Extern.ReflectliteValue.zeroV
        | 22, .pointer (some p), some e => Extern.ReflectliteValue.mk e p Extern.ReflectliteValue.flagAddr
        | _, _, _ => Extern.ReflectliteValue.valueError "reflectlite.Value.Elem" 22) Q w → wq K.P K.Ev E (Extern.ReflectliteValue.method z Extern.ReflectliteValue.elem (AV.evs ρ [x]).toArray) Q w := by
      intro E Q hq
      refine wq_rmethod p ?_
      rw [hk]
      show wq K.P K.Ev E (loadVar t (a.ev ρ) >>= _) Q w
      rw [wq_bind]
      refine wq_loadVar R G hv ?_
      rw [wq_bind]
      exact wq_pureRun hel' hq
    split at he
    · cases he
      exact HOk.pure R I ⟨trivial, trivial, trivial, trivial⟩ fun {E Q} hq => front hq
    · rename_i q
      rw [bind_ok] at he
      obtain ⟨r', hr, he⟩ := he
      cases he
      exact HOk.pure R I (mkV?_in hr hvin) fun {E Q} hq => front (wq_mk hr hq)
    · cases he
  · split at he
    · rename_i hk
      rw [bind_ok] at he
      obtain ⟨e, hel, he⟩ := he
      have hel' : pureRun K.P (Extern.Rtype.elem? t) = some e := by
        split at hel
        · rename_i h; cases hel; exact h
        · cases hel
      have H := unpack_ok G R I hvin he
      refine ⟨H.mem, H.grows, fun {E Q} hq => ?_⟩
      refine wq_rmethod p ?_
      rw [hk]
      show wq K.P K.Ev E (loadVar t (a.ev ρ) >>= _) Q w
      rw [wq_bind]
      refine wq_loadVar R G hv ?_
      rw [wq_bind]
      refine wq_pureRun hel' ?_
      exact H.run hq
    · cases he

theorem pureB_ok {P : Program} {s : Sem Bool} {b : Bool} (h : pureB P s = .ok b) : pureRun P s = some b := by
  unfold pureB at h
  split at h
  · rename_i h'; cases h; exact h'
  · cases h

theorem xSet_ok (G : K.Good) (R : Rel K ρ h w) (I : Ids K U h) {v x r : AV} {h' : AH} (hv : v.In U) (hx : x.In U) (he : xSet? K.P K.O h v x = .ok (r, h')) : HOk K U ρ h w (Extern.ReflectliteValue.set (AV.evs ρ [v, x]).toArray) r h' := by
  unfold xSet? at he
  rw [bind_ok] at he
  obtain ⟨⟨dst, a, fl⟩, hp, he⟩ := he
  dsimp only at he
  have p := partsV?_ok hp
  rw [bind_ok] at he
  obtain ⟨⟨src, b, fl2⟩, hp2, he⟩ := he
  dsimp only at he
  have p2 := partsV?_ok hp2
  split at he
  · cases he
  · rename_i hfl
    rw [bind_ok] at he
    obtain ⟨val, hval, he⟩ := he
    rw [bind_ok] at he
    obtain ⟨val2, hval2, he⟩ := he
    rw [bind_ok] at he
    obtain ⟨h1, hst, he⟩ := he
    cases he
    have hvin := loadVar?_in I hval
    unfold setVal? at hval2
    have hv2in : val2.In U := by
      split at hval2
      · cases hval2
      · cases hval2; exact hvin
      · split at hval2
        · split at hval2
          · split at hval2
            · split at hval2
              · cases hval2; exact hvin
              · cases hval2
            · cases hval2; exact hvin
          · cases hval2
        · cases hval2
        · cases hval2
    have ids' := storeVar?_ids I hst (p.in hv) hv2in
    have fin : ∀ {E : Value → World → Prop} {Q : Value → World → Prop}, (∀ x w', After K U ρ w h' (fun ρ' => x = undefA.ev ρ') w' → Q x w') → wq K.P K.Ev E (storeVar dst (a.ev ρ) (val2.ev ρ)) (fun _ w => Q (.tuple #[]) w) w := fun hq =>
      wq_storeVar R G hst fun w' R' kp _ _ => hq _ _ ⟨ρ, Agree.refl _ _, R', kp, rfl⟩
    have nb : h'.nb = h.nb ∧ h'.lim = h.lim := by
      have := (wq_run (P := K.P) (Ev := K.Ev) (E := fun _ _ => False) (Q := fun _ _ => h'.nb = h.nb ∧ h'.lim = h.lim) (wq_storeVar (ρ := ρ) R G hst (Q := fun _ _ => h'.nb = h.nb ∧ h'.lim = h.lim) fun w' _ _ a b => ⟨a, b⟩)).1
      generalize (storeVar dst (a.ev ρ) (val2.ev ρ)).run K.P w = r at this
      cases r with
      | ok u w' => exact this
      | halt y w' => cases y <;> exact this.elim
    refine ⟨by simp [undefA, AV.In, AV.Ins], ⟨by rw [nb.1]; exact Nat.le_refl _, nb.2, by rw [nb.1]; exact ids'.congr (fun n => ⟨.inl, plus_none n⟩)⟩, fun {E Q} hq => ?_⟩
    show wq K.P K.Ev E (Extern.ReflectliteValue.parts (v.ev ρ) >>= _) Q w
    rw [wq_bind]
    refine wq_parts p ?_
    rw [wq_bind]
    refine wq_parts p2 ?_
    have hfl' : (fl / Extern.ReflectliteValue.flagAddr % 2 == 0) = false := by
      simpa [Extern.ReflectliteValue.flagAddr] using hfl
    simp only [hfl', Bool.false_eq_true, if_false, wq_bind]
    refine wq_loadVar R G hval ?_
    split at hval2
    · cases hval2
    · rename_i hda
      cases hval2
      refine wq_pureRun (pureB_ok hda) ?_
      simp only [if_true, wq_bind, wq_pure]
      exact fin hq
    · rename_i hda
      refine wq_pureRun (pureB_ok hda) ?_
      simp only [Bool.false_eq_true, if_false, wq_bind]
      split at hval2
      · rename_i him
        rw [implementsA_eq] at him
        refine wq_pureRun (pureB_ok him) ?_
        simp only [if_true, wq_bind]
        split at hval2
        · rename_i k hk
          refine wq_pureRun (kind?_ok hk) ?_
          split at hval2
          · rename_i h20
            subst h20
            simp only [beq_self_eq_true, if_true]
            split at hval2
            · cases hval2
              simp only [AV.ev, wq_bind, wq_pure]
              exact fin hq
            · cases hval2
          · rename_i h20
            have : (k == 20) = false := by simpa using h20
            cases hval2
            simp only [this, Bool.false_eq_true, if_false, wq_bind, wq_pure]
            exact fin hq
        · cases hval2
      · cases hval2
      · cases hval2

/-! ### All together -/
def TabFacts (P : Program) (tab : List (FuncId × XE)) : Prop := ∀ p ∈ tab, ∃ e, ExtFact P p.1 e ∧ p.2.sem e

theorem ext_ok (G : K.Good) {tab : List (FuncId × XE)} (L : K.lock ∨ ∀ p ∈ tab, p.2 ≠ .quiet) (T : TabFacts K.P tab) : ExtOk K (ext? K.P K.O tab) := by
  intro U ρ h w f args v h' R I ha he
  have lift : ∀ {e : Array Value → Sem Value}, ExtFact K.P f e → HOk K U ρ h w (e (AV.evs ρ args).toArray) v h' → NOk K U ρ h w (callFunc f (AV.evs ρ args).toArray) (.value v) h' := fun hf H =>
    ⟨H.mem, H.grows, fun hq _ => wq_extern G hf (H.run fun x w' ⟨ρ', a1, a2, a3, a4⟩ => hq _ _ ⟨ρ', a1, a2, a3, by rw [a4]; rfl⟩)⟩
  unfold ext? at he
  split at he
  · cases he
  · rename_i x hx
    obtain ⟨f', hm, hf'⟩ := look_some hx
    have : f = f' := by simpa using hf'
    subst this
    obtain ⟨e, hfact, hsem⟩ := T _ hm
    refine lift hfact ?_
    dsimp only at hsem
    split at he
    · -- ld
      have hs : e = _ := hsem
      subst hs
      rw [bind_ok] at he
      obtain ⟨n, hn, he⟩ := he
      cases he
      exact ld_ok G R I hn
    · have hs : e = _ := hsem
      subst hs
      rw [bind_ok] at he
      obtain ⟨n, hn, he⟩ := he
      cases he
      exact st_ok G R I ha.1 ha.2.1 hn
    · have hs : e = _ := hsem
      subst hs
      rw [bind_ok] at he
      obtain ⟨n, hn, he⟩ := he
      rw [bind_ok] at he
      obtain ⟨h1, hh, he⟩ := he
      cases he
      exact sw_ok G R I ha.1 ha.2.1 hn hh
    · have hs : e = _ := hsem
      subst hs
      rw [bind_ok] at he
      obtain ⟨n, hn, he⟩ := he
      rw [bind_ok] at he
      obtain ⟨b, hb, he⟩ := he
      rw [bind_ok] at he
      obtain ⟨h1, hh, he⟩ := he
      cases he
      exact cas_ok G R I ha.1 ha.2.2.1 hn hb hh
    · have hs : e = _ := hsem
      subst hs
      rw [bind_ok] at he
      obtain ⟨n, hn, he⟩ := he
      rw [bind_ok] at he
      obtain ⟨h1, hh, he⟩ := he
      cases he
      exact add_ok G R I ha.1 ha.2.1 hn hh (int_in I ⟨(ldInt_ok R G hn).2.2 I, ha.2.1⟩)
    · have hs : e = _ := hsem
      subst hs
      cases he
      exact mark_ok G R I _ (fun _ => rfl)
    · have hs : e = _ := hsem
      subst hs
      cases he
      exact mark_ok G R I _ (fun _ => rfl)
    · have hs : e = _ := hsem
      subst hs
      cases he
      exact mark_ok G R I _ (fun _ => rfl)
    · obtain ⟨m, rfl⟩ := hsem
      cases he
      exact quiet_ok G (L.resolve_right fun x => x _ hm rfl) R I m
    · have hs : e = _ := hsem
      subst hs
      split at he
      · rename_i t _ vv hv
        cases he
        exact toType_ok R I hv
      · cases he
    · have hs : e = _ := hsem
      subst hs
      cases he
      exact HOk.pure R I trivial fun {E Q} hq => hq
    · have hs : e = _ := hsem
      subst hs
      exact unpack_ok G R I ha.1 he
    · obtain ⟨z, rfl⟩ := hsem
      rw [bind_ok] at he
      obtain ⟨⟨t, a, fl⟩, hp, he⟩ := he
      dsimp only at he
      split at he
      · rename_i vv hv
        cases he
        have H := toType_ok R I hv (U := U)
        exact ⟨H.mem, H.grows, fun {E Q} hq => wq_rmethodAny (partsV?_ok hp) (H.run hq)⟩
      · cases he
    · obtain ⟨z, rfl⟩ := hsem
      exact xIsNil_ok G R I ha.1 he
    · obtain ⟨z, rfl⟩ := hsem
      exact xElem_ok G R I ha.1 he
    · have hs : e = _ := hsem
      subst hs
      exact xSet_ok G R I ha.1 ha.2.1 he
    · cases he
end
end Go.Proofs.YtmnahfonnljobaaGreatDoor.SX
/-
  Long runs in pieces, sound.
-/
set_option linter.unusedSectionVars false
set_option linter.unusedVariables false
namespace Go.Proofs.YtmnahfonnljobaaGreatDoor.SX
open Go.Conc

theorem sieve_nil (ks : List Nat) : sieve [] ks = [] := rfl
theorem sieve_nil' (p : Nat × ABlk) (l : List (Nat × ABlk)) : sieve (p :: l) [] = [] := rfl
theorem sieve_cons (p : Nat × ABlk) (l : List (Nat × ABlk)) (k : Nat) (ks : List Nat) : sieve (p :: l) (k :: ks) = Bool.rec (sieve l (k :: ks)) (p :: sieve l ks) (Nat.beq p.1 k) := rfl

theorem sieve_sub : ∀ (l : List (Nat × ABlk)) (ks : List Nat), (sieve l ks).Sublist l
  | [], ks => by rw [sieve_nil]; exact List.Sublist.refl _
  | p :: l, [] => by rw [sieve_nil']; exact List.nil_sublist _
  | p :: l, k :: ks => by
    rw [sieve_cons]
    cases Nat.beq p.1 k with
    | true => exact (sieve_sub l ks).cons_cons p
    | false => exact (sieve_sub l (k :: ks)).cons p

theorem find_cons (i : Nat) (p : Nat × ABlk) (l : List (Nat × ABlk)) : findB i (p :: l) = Bool.rec (findB i l) (some p.2) (Nat.beq i p.1) := rfl

theorem find_mem {i : Nat} {b : ABlk} : ∀ {l : List (Nat × ABlk)}, findB i l = some b → (i, b) ∈ l
  | [], h => by cases h
  | p :: l, h => by
    rw [find_cons] at h
    cases e : Nat.beq i p.1 with
    | true =>
      rw [e] at h
      have h' : some p.2 = some b := h
      have e2 := Nat.eq_of_beq_eq_true e
      cases h'
      rw [e2]
      exact List.mem_cons_self ..
    | false =>
      rw [e] at h
      exact List.mem_cons_of_mem _ (find_mem (l := l) h)

theorem mem_find {i : Nat} {b : ABlk} : ∀ {l : List (Nat × ABlk)}, (keys l).Nodup → (i, b) ∈ l → findB i l = some b
  | [], _, h => by cases h
  | p :: l, hn, h => by
    rw [find_cons]
    have hn' : (p.1 :: keys l).Nodup := hn
    rcases List.mem_cons.1 h with rfl | h
    · simp
    · cases e : Nat.beq i p.1 with
      | true =>
        have e2 := Nat.eq_of_beq_eq_true e
        have : i ∈ keys l := List.mem_map.2 ⟨(i, b), h, rfl⟩
        rw [e2] at this
        exact absurd this (List.nodup_cons.1 hn').1
      | false => exact mem_find (List.nodup_cons.1 hn').2 h

theorem keys_sub {l m : List (Nat × ABlk)} (h : l.Sublist m) : (keys l).Sublist (keys m) := h.map _

theorem sieve_find {l : List (Nat × ABlk)} {ks : List Nat} (hn : (keys l).Nodup) {i : Nat} {b : ABlk} (h : findB i (sieve l ks) = some b) : findB i l = some b :=
  mem_find hn ((sieve_sub l ks).mem (find_mem h))

section
variable {K : Ctx} {main : Bool} {U : Nat → Prop} {ρ : Env} {cs : List Frame}

theorem Rel.sieve {hp : List (Nat × ABlk)} {nb lim : Nat} {ks : List Nat} {w : World} (R : Rel K ρ ⟨hp, nb, lim⟩ w) (hn : (keys hp).Nodup) : Rel K ρ ⟨SX.sieve hp ks, nb, lim⟩ w :=
  ⟨fun i b h => R.blk i b (sieve_find hn h), fun i b h => R.own' i b (sieve_find hn h), fun i j b c h h' e => R.inj i j b c (sieve_find hn h) (sieve_find hn h') e, R.bs, R.is, R.mem, R.room, fun i b h => R.lent i b (sieve_find hn h), R.low⟩

theorem Ids.sieve {hp : List (Nat × ABlk)} {nb lim : Nat} {ks : List Nat} (I : Ids K U ⟨hp, nb, lim⟩) : Ids K U ⟨SX.sieve hp ks, nb, lim⟩ :=
  ⟨fun i b h => I.hp i b (sieve_find I.nodup h), fun i h => I.keys i ((keys_sub (sieve_sub hp ks)).mem h), (keys_sub (sieve_sub hp ks)).nodup I.nodup, I.fresh, I.orc⟩

theorem Next.sieve {w w' : World} {h0 : AH} {cur : AFrame} {callers : List AFrame} {hp : List (Nat × ABlk)} {nb lim : Nat} {ks : List Nat} {g' : Goroutine}
    (h : Next K U ρ cs w h0 ⟨cur, callers, ⟨hp, nb, lim⟩⟩ g' w') : Next K U ρ cs w h0 ⟨cur, callers, ⟨SX.sieve hp ks, nb, lim⟩⟩ g' w' := by
  obtain ⟨ρ', a1, a2, a3, a4, R, Γ⟩ := h
  exact ⟨ρ', a1, a2, ⟨a3.nb, a3.lim, a3.ids.sieve⟩, ⟨a4.cur, a4.callers, a4.ids.sieve⟩, R.sieve a4.ids.nodup, Γ⟩

theorem steps_ok (Gd : K.Good) (F : K.Facts) {ext : Ext} (X : ExtOk K ext) {sum : Sums} (Z : SumOk K main sum) {f : Nat} : ∀ {n : Nat} {c : ACfg} {r : ACfg ⊕ (AE × AH)}, steps? K.P K.O ext sum f n c = .ok r →
    match r with
    | .inl c' => bot c'.cur.fn c'.callers = bot c.cur.fn c.callers ∧ ∃ N, Leads K main c c' N
    | .inr r => ∃ N, Ends K main c r N := by
  intro n
  induction n with
  | zero =>
    intro c r he
    have : (Except.ok (.inl c) : M (ACfg ⊕ (AE × AH))) = .ok r := he
    cases this
    exact ⟨rfl, 0, fun U ρ cs g w I Γ => Walk.stop ⟨ρ, Agree.refl _ _, Keeps.refl _ _, Grows.refl I.ids, I.congr (plus_same U _), Γ⟩⟩
  | succ n ih =>
    intro c r he
    have he' : (match step? K.P K.O ext (fun g args h => match sum g args h with
      | some r => r
      | none => match enterA K.P g args .normal with
        | .ok fr => run? K.P K.O ext sum f ⟨fr, [], h⟩
        | .error e => .error e) c with
      | .ok (.inl c) => steps? K.P K.O ext sum f n c
      | .ok (.inr r) => .ok (.inr r)
      | .error e => .error e) = .ok r := he
    have C := callOk_of (K := K) (main := main) Z (k := run? K.P K.O ext sum f) (run_ok Gd F X Z)
    split at he'
    · rename_i c' hs
      obtain ⟨N, L⟩ := step_ok Gd F X C hs
      have hb := step_bot hs
      have h2 := ih he'
      cases r with
      | inl c2 =>
        obtain ⟨b2, M, L2⟩ := h2
        exact ⟨b2.trans hb, N + M, L.trans L2⟩
      | inr r2 =>
        obtain ⟨M, E⟩ := h2
        exact ⟨N + M, L.ends hb E⟩
    · rename_i r' hs
      cases he'
      exact step_ok Gd F X C hs
    · cases he'

theorem chunk_ok (Gd : K.Good) (F : K.Facts) {ext : Ext} (X : ExtOk K ext) {sum : Sums} (Z : SumOk K main sum) {f n : Nat} {ks : List Nat} {c c' : ACfg} (he : chunk? K.P K.O ext sum f n ks c = .ok c') :
    bot c'.cur.fn c'.callers = bot c.cur.fn c.callers ∧ ∃ N, Leads K main c c' N := by
  unfold chunk? at he
  split at he
  · rename_i cur callers hp nb lim hs
    cases he
    obtain ⟨b, N, L⟩ := steps_ok (main := main) Gd F X Z hs
    exact ⟨b, N, fun U ρ cs g w I Γ => (L U ρ cs g w I Γ).weaken fun _ _ h => h.sieve⟩
  · cases he
  · cases he

/-- Where a run comes to, piece by piece: it ends with 'true'. -/
inductive Runs (P : Program) (O : Orc) (ext : Ext) (sum : Sums) : ACfg → Prop where
  | last (f n : Nat) (c : ACfg) : lastB? P O ext sum f n c = true → Runs P O ext sum c
  | more (f n : Nat) (ks : List Nat) (c c' : ACfg) : chunk? P O ext sum f n ks c = .ok c' → Runs P O ext sum c' → Runs P O ext sum c

theorem lastB_ok {P : Program} {O : Orc} {ext : Ext} {sum : Sums} {f n : Nat} {c : ACfg} (h : lastB? P O ext sum f n c = true) : ∃ h', steps? P O ext sum f n c = .ok (.inr (.returned (.bool (.lit true)), h')) := by
  unfold lastB? at h
  split at h
  · rename_i b h' e
    cases h
    exact ⟨h', e⟩
  · cases h

theorem runs_ends (Gd : K.Good) (F : K.Facts) {ext : Ext} (X : ExtOk K ext) {sum : Sums} (Z : SumOk K main sum) {c : ACfg} (h : Runs K.P K.O ext sum c) : ∃ N h', Ends K main c (.returned (.bool (.lit true)), h') N := by
  induction h with
  | last f n c he =>
    obtain ⟨h', e⟩ := lastB_ok he
    obtain ⟨N, E⟩ := steps_ok (main := main) Gd F X Z e
    exact ⟨N, h', E⟩
  | more f n ks c c' he _ ih =>
    obtain ⟨M, h', E⟩ := ih
    obtain ⟨b, N, L⟩ := chunk_ok (main := main) Gd F X Z he
    exact ⟨N + M, h', L.ends b E⟩

/-- A call whose run comes piece by piece to 'true'. -/
theorem calls_runs (Gd : K.Good) (F : K.Facts) {ext : Ext} (X : ExtOk K ext) {sum : Sums} (Z : SumOk K true sum) {f : FuncId} {args : List AV} {h : AH} {fr : AFrame} (hen : enterA K.P f args .normal = .ok fr) (hr : Runs K.P K.O ext sum ⟨fr, [], h⟩)
    {w : World} (I : Ids K U h) (ha : AV.Ins U args) (R : Rel K ρ h w) : Calls K.P f (AV.evs ρ args).toArray w fun e w' => e = .returned (.bool true) ∧ Keeps K.own w w' := by
  intro cs
  obtain ⟨N, h', E⟩ := runs_ends (main := true) Gd F X Z hr
  obtain ⟨e1, e2, e3, e4, e5⟩ := enterA_ok hen (.inl rfl) ha (ρ := ρ)
  have W := E U ρ cs (G (Frame.enter K.P f (AV.evs ρ args).toArray .normal) cs) w ⟨e2, fun _ x => by (simp at x), I⟩ ⟨R, _, [], e1, trivial, rfl⟩
  obtain ⟨g', w', st, ρ', A, kp, gr, hin, R', ends⟩ := walk_steps W
  obtain ⟨fr', fn', rfl, hfn, hd, hf, m1, m2, m3⟩ := ends
  have hb : fr'.fn = f := by rw [hfn]; exact e4
  refine ⟨.returned (.bool true), w', fr', ⟨rfl, kp⟩, st, hb, m1, hd, m2, fn', hf, ?_⟩
  have := (wq_run (m3 w'.drawn (Q := fun x w2 => x = .bool true ∧ w2 = w') ⟨rfl, rfl⟩)).1
  have hw : drawnAt w' w'.drawn = w' := rfl
  rw [hw] at this
  generalize hrr : (results fn' fr'.tmps).run K.P w' = q at this
  cases q with
  | ok x w2 => obtain ⟨rfl, rfl⟩ := this; rfl
  | halt x w2 => cases x <;> exact this.elim

/-! ### A call with closed arguments, run aside -/
theorem Keeps.mono {o o' : Nat → Prop} {w w' : World} (h : Keeps o w w') (hs : ∀ n, o n → o' n) : Keeps o' w w' := ⟨fun n hn => h.heap n fun x => hn (hs n x), h.size, h.tape, h.os, h.output⟩

/-- The context of a run beside all that is there: it owns what is new alone. -/
def beside (K : Ctx) (O : Orc) (w : World) : Ctx := { K with O := O, own := fun n => w.heap.size ≤ n }

theorem aside_walk {O : Orc} {ext : Ext} {sum : Sums} {f : FuncId} {args : List AV} {fr : AFrame} {nb lim : Nat} {v : AV} {U' : Nat → Prop} {w : World} (hen : enterA K.P f args .normal = .ok fr)
    (he : ∃ N h', Ends (beside K O w) main ⟨fr, [], ⟨[], nb, lim⟩⟩ (.returned v, h') N) (ha : AV.Ins U' args) (ho : O.In U') (hf : ∀ n, nb ≤ n → n < lim → ¬ U' n) (hv : v.In (fun _ => False)) (hb : ∀ p ∈ O.bs, p.1.ev ρ = p.2) (hi : ∀ p ∈ O.is, p.1.ev ρ = p.2.ev ρ)
    (hm : ∀ p ∈ O.mem, p ∈ K.O.mem) {h : AH} {g : Goroutine} (I : CIds K U ⟨fr, [], h⟩) (Γ : Gam K ρ ⟨fr, [], h⟩ cs g w) : Walk K.P main (DK K) (Done K (bot fr.fn []) U ρ cs w h (.returned v, h)) 0 g w := by
  obtain ⟨R, Γ'⟩ := Γ
  have own : ∀ n, w.heap.size ≤ n → K.own n := R.room
  obtain ⟨N, h', E⟩ := he
  have hlt : ∀ {a : Addr} {v : Value}, w.cell? a = some v → a.block < w.heap.size := fun {a v} hc => by
    rcases Nat.lt_or_ge a.block w.heap.size with h' | h'
    · exact h'
    · simp [World.cell?, Array.getElem?_eq_none h'] at hc
  have R' : Rel (beside K O w) ρ ⟨[], nb, lim⟩ w := by
    refine ⟨(fun i b hb => by cases hb), (fun i b hb => by cases hb), (fun i j b c hb => by cases hb), hb, hi, fun p hp => ?_, (fun n hn => hn), (fun i b hb => by cases hb), R.low⟩
    obtain ⟨m1, m2, m3⟩ := R.mem p (hm p hp)
    exact ⟨fun hx => absurd (hlt m2) (Nat.not_lt.2 hx), m2, m3⟩
  obtain ⟨e1, e2, e3, e4, e5⟩ := enterA_ok hen (.inl rfl) ha (ρ := ρ)
  have I' : CIds (beside K O w) U' ⟨fr, [], ⟨[], nb, lim⟩⟩ :=
    ⟨e2, fun _ x => by (simp at x), fun i b hb => by (cases hb), fun i hi => by (cases hi), List.nodup_nil, hf, ho⟩
  have W := E U' ρ cs g w I' ⟨R', Γ'⟩
  have W2 := Walk.lax (D' := DK K) (fun w1 w2 es hd => ⟨hd.1.mono own, hd.2⟩) W
  refine (W2.weaken fun g' w' hd => ?_).any
  obtain ⟨ρ', A, kp, gr, hin, R2, ends⟩ := hd
  have keep : ∀ {n : Nat} {o : Obj}, w.heap[n]? = some o → w'.heap[n]? = some o := fun {n o} ho => by
    rw [kp.heap n (Nat.not_le.2 (heap_lt ho)), ho]
  refine ⟨ρ, Agree.refl _ _, kp.mono own, Grows.refl I.ids, AV.In.mono (fun _ x => x.elim) _ hv, ⟨fun i b hb => ?_, R.own', R.inj, R.bs, R.is, fun p hp => ?_, fun n hn => R.room n (Nat.le_trans kp.size hn), R.lent, fun b n hb => Nat.lt_of_lt_of_le (R.low b n hb) kp.size⟩, ?_⟩
  · obtain ⟨arr, h1, h2⟩ := R.blk i b hb
    exact ⟨arr, keep h1, h2⟩
  · obtain ⟨m1, m2, m3⟩ := R.mem p hp
    refine ⟨m1, ?_, m3⟩
    have hl := hlt m2
    simp only [World.cell?] at m2 ⊢
    rw [kp.heap _ (Nat.not_le.2 hl)]; exact m2
  · obtain ⟨fr', fn', rfl, hfn, hd, hf, m1, m2, m3⟩ := ends
    refine ⟨fr', fn', rfl, hfn, hd, hf, m1, m2, ?_⟩
    have e : v.ev ρ' = v.ev ρ := AV.ev_agree (A.mono fun _ x => x.elim) v hv
    rw [← e]
    exact m3

theorem beside_good (Gd : K.Good) {O : Orc} {h : AH} {w : World} (R : Rel K ρ h w) : (beside K O w).Good := ⟨fun a s ho => Gd.rd a s (R.room _ ho), fun a s ho => Gd.wr a s (R.room _ ho), Gd.noWr, Gd.ext, Gd.noRoom, Gd.lock, fun r wr s ho => Gd.obj r wr s (R.room _ ho)⟩

theorem aside_ok {O : Orc} {ext : Ext} {sum : Sums} {f : FuncId} {args : List AV} {fr : AFrame} {nb lim : Nat} (hen : enterA K.P f args .normal = .ok fr) (hr : Runs K.P O ext sum ⟨fr, [], ⟨[], nb, lim⟩⟩)
    (ha : AV.Ins (fun _ => False) args) (ho : O.In (fun _ => False)) (hb : O.bs = []) (hi : O.is = []) (hm : ∀ p ∈ O.mem, p ∈ K.O.mem) (Gd : K.Good) (F : ∀ w, (beside K O w).Facts) (X : ∀ w, (beside K O w).Good → ExtOk (beside K O w) ext) (Z : ∀ w, (beside K O w).Good → SumOk (beside K O w) main sum) (h : AH) :
    ∃ N, Ends K main ⟨fr, [], h⟩ (.returned (.bool (.lit true)), h) N :=
  ⟨0, fun U ρ cs g w I Γ => by
    have Gd' := beside_good (O := O) Gd Γ.1
    exact aside_walk (O := O) (ext := ext) (sum := sum) hen (runs_ends (main := main) (K := beside K O w) Gd' (F w) (X w Gd') (Z w Gd') hr) ha ho (fun _ _ _ x => x) trivial (fun p hp => by rw [hb] at hp; cases hp) (fun p hp => by rw [hi] at hp; cases hp) hm I Γ⟩

theorem ansSum_ok {f : FuncId} {as : List AV} {v : AV} {fr : AFrame} (hen : enterA K.P f as .normal = .ok fr) (he : ∀ h, ∃ N, Ends K main ⟨fr, [], h⟩ (.returned v, h) N) : SumOk K main (ansSum f as v) := by
  intro g args h r hs
  unfold ansSum at hs
  cases e : Nat.beq g f with
  | false => rw [e] at hs; cases hs
  | true =>
    rw [e] at hs
    obtain rfl := Nat.eq_of_beq_eq_true e
    cases e2 : AV.eqbs args as with
    | false => rw [e2] at hs; cases hs
    | true =>
      rw [e2] at hs
      obtain rfl := AV.eqbs_eq _ _ e2
      have hs' : some (Except.ok (.returned v, h) : M (AE × AH)) = some (.ok r) := hs
      cases hs'
      obtain ⟨N, E⟩ := he h
      exact ⟨fr, N, hen, E⟩

theorem orSum_ok {s1 s2 : Sums} (h1 : SumOk K main s1) (h2 : SumOk K main s2) : SumOk K main (orSum s1 s2) := by
  intro g args h r hs
  unfold orSum at hs
  split at hs
  · rename_i r' e
    cases hs
    exact h1 _ _ _ _ e
  · exact h2 _ _ _ _ hs

theorem truth_ok {f : FuncId} {fr : AFrame} (hen : enterA K.P f [] .normal = .ok fr) (he : ∀ h, ∃ N, Ends K main ⟨fr, [], h⟩ (.returned (.bool (.lit true)), h) N) : SumOk K main (truth f) := by
  intro g args h r hs
  unfold truth at hs
  split at hs
  · cases e : Nat.beq g f with
    | false => rw [e] at hs; cases hs
    | true =>
      rw [e] at hs
      obtain rfl := Nat.eq_of_beq_eq_true e
      have hs' : some (Except.ok (.returned (.bool (.lit true)), h) : M (AE × AH)) = some (.ok r) := hs
      cases hs'
      obtain ⟨N, E⟩ := he h
      exact ⟨fr, N, hen, E⟩
  · cases hs
end
end Go.Proofs.YtmnahfonnljobaaGreatDoor.SX

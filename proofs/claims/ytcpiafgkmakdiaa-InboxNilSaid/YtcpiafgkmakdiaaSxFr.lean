/-
  Frames; walks.
-/
import Derived.Test.YtcpiafgkmakdiaaSxOp10
import Derived.Conc.Own4
set_option linter.unusedSectionVars false
set_option linter.unusedVariables false
set_option linter.unusedSimpArgs false
namespace Go.Proofs.Ytcpiafgkmakdiaa.SX
open Go.Conc

/-! ### A walk of one goroutine: whatever is drawn between its steps -/
def drawnAt (w : World) (d : Nat) : World := { w with drawn := d }

/-- A piece of the run of one goroutine: whatever is drawn, it comes to S. -/
inductive WalkI (P : Program) (main : Bool) (D : World → World → Array Event → Prop) (S : Goroutine → World → Prop) : Goroutine → World → Prop where
  | stop (g : Goroutine) (w : World) : S g w → WalkI P main D S g w
  | step (g : Goroutine) (w : World) (g' : Nat → Goroutine) (w' : Nat → World) (es : Nat → Array Event) : g.status = .running → (∀ d, stepG P main g (drawnAt w d) = .go (g' d) (w' d) (es d)) →
      (∀ d, D (drawnAt w d) (w' d) (es d)) → (∀ d, WalkI P main D S (g' d) (w' d)) → WalkI P main D S g w

/-- The count is idle. -/
def Walk (P : Program) (main : Bool) (D : World → World → Array Event → Prop) (S : Goroutine → World → Prop) (_ : Nat) (g : Goroutine) (w : World) : Prop := WalkI P main D S g w

section
variable {P : Program} {main : Bool} {D : World → World → Array Event → Prop} {S T : Goroutine → World → Prop}

theorem Walk.stop {n : Nat} {g : Goroutine} {w : World} (h : S g w) : Walk P main D S n g w := WalkI.stop g w h

theorem goes_mono {s : GStep} {K K' : Goroutine → World → Array Event → Prop} (h : s.goes K) (hk : ∀ g w es, K g w es → K' g w es) : s.goes K' := by
  cases s <;> first | exact hk _ _ _ h | exact h

theorem goes_ex {s : GStep} {K : Goroutine → World → Array Event → Prop} (h : s.goes K) : ∃ g w es, s = .go g w es ∧ K g w es := by
  cases s with
  | go g w es => exact ⟨g, w, es, rfl, h⟩
  | _ => exact h.elim

theorem Walk.mono {n m : Nat} {g : Goroutine} {w : World} (_ : n ≤ m) (h : Walk P main D S n g w) : Walk P main D S m g w := h
theorem Walk.any {n m : Nat} {g : Goroutine} {w : World} (h : Walk P main D S n g w) : Walk P main D S m g w := h

theorem Walk.trans {n m : Nat} (hST : ∀ g w, S g w → Walk P main D T m g w) {g : Goroutine} {w : World} (h : Walk P main D S n g w) : Walk P main D T (n + m) g w := by
  change WalkI P main D S g w at h
  show WalkI P main D T g w
  induction h with
  | stop g w hs => exact hST g w hs
  | step g w g' w' es hr hs hd _ ih => exact WalkI.step g w g' w' es hr hs hd fun d => ih d

theorem Walk.weaken {n : Nat} (hST : ∀ g w, S g w → T g w) {g : Goroutine} {w : World} (h : Walk P main D S n g w) : Walk P main D T n g w :=
  (Walk.trans (m := 0) (fun g w hs => Walk.stop (hST g w hs)) h).any

theorem Walk.head {n m : Nat} {g : Goroutine} {w : World} (hs : g.status = .running) (h : ∀ d, (stepG P main g (drawnAt w d)).goes fun g' w' es => D (drawnAt w d) w' es ∧ Walk P main D S n g' w') : Walk P main D S m g w := by
  have h' : ∀ d, ∃ g' w' es, stepG P main g (drawnAt w d) = .go g' w' es ∧ D (drawnAt w d) w' es ∧ Walk P main D S n g' w' := fun d => goes_ex (h d)
  exact WalkI.step g w (fun d => (h' d).choose) (fun d => (h' d).choose_spec.choose) (fun d => (h' d).choose_spec.choose_spec.choose) hs (fun d => (h' d).choose_spec.choose_spec.choose_spec.1)
    (fun d => (h' d).choose_spec.choose_spec.choose_spec.2.1) (fun d => (h' d).choose_spec.choose_spec.choose_spec.2.2)

theorem Walk.one {g : Goroutine} {w : World} (hs : g.status = .running) (h : ∀ d, (stepG P main g (drawnAt w d)).goes fun g' w' es => D (drawnAt w d) w' es ∧ S g' w') : Walk P main D S 1 g w :=
  Walk.head (n := 0) hs fun d => goes_mono (h d) fun g' w' es ⟨a, b⟩ => ⟨a, Walk.stop b⟩

/-- A guarantee that is laxer. -/
theorem Walk.lax {D' : World → World → Array Event → Prop} {n : Nat} (hd : ∀ w w' es, D w w' es → D' w w' es) {g : Goroutine} {w : World} (h : Walk P main D S n g w) : Walk P main D' S n g w := by
  change WalkI P main D S g w at h
  show WalkI P main D' S g w
  induction h with
  | stop g w hs => exact WalkI.stop g w hs
  | step g w g' w' es hr hs hdd _ ih => exact WalkI.step g w g' w' es hr hs (fun d => hd _ _ _ (hdd d)) fun d => ih d
end

/-! ### Cells that nobody writes stay -/
def Stays (S : Nat → Nat → Prop) (w w' : World) : Prop := ∀ b n v, S b n → w.cell? ⟨b, n, none⟩ = some v → w'.cell? ⟨b, n, none⟩ = some v

theorem wq_keep {α : Type} {P : Program} {Ev : Event → Prop} {E : Value → World → Prop} {S : Nat → Nat → Prop} (hE : ∀ b n s, S b n → ¬ Ev ⟨.cell ⟨b, n, none⟩, true, s⟩) (m : Sem α) : ∀ {Q : α → World → Prop} {w : World}, wq P Ev E m Q w →
    wq P Ev E m (fun x w' => Q x w' ∧ Stays S w w') w := by
  have pre : ∀ {w w1 : World}, Stays S w w1 → ∀ {m : Sem α} {Q : α → World → Prop}, wq P Ev E m (fun x w' => Q x w' ∧ Stays S w1 w') w1 → wq P Ev E m (fun x w' => Q x w' ∧ Stays S w w') w1 := by
    intro w w1 hs m Q h
    exact wq_mono (fun _ _ x => x) (fun x w' ⟨a, b⟩ => ⟨a, fun b' n v x y => b b' n v x (hs b' n v x y)⟩) h
  induction m with
  | pure a => intro Q w h; exact ⟨h, fun _ _ _ _ x => x⟩
  | load m a k ih => intro Q w h; obtain ⟨v, h1, h2, h3⟩ := h; exact ⟨v, h1, h2, ih v h3⟩
  | store m a v k ih =>
    intro Q w h
    obtain ⟨h1, h2, h3, h4, h5⟩ := h
    refine ⟨h1, h2, h3, h4, pre ?_ (ih h5)⟩
    intro b n u hs hc
    simp only [World.cell?] at hc ⊢
    rw [heap_setCell]
    by_cases e : b = a.block
    · rw [if_pos e]
      cases ho : w.heap[b]? with
      | none => rw [ho] at hc; cases hc
      | some o =>
        rw [ho] at hc
        cases o with
        | cells c elem fr =>
          simp only [Option.map_some]
          simp only [Option.isSome_none, Bool.false_eq_true, if_false] at hc ⊢
          by_cases hsp : a.spot.isSome = true
          · rw [if_pos hsp]; exact hc
          · rw [if_neg hsp]
            by_cases en : a.off = n
            · exfalso
              have : a = ⟨b, n, none⟩ := by
                obtain ⟨ab, ao, asp⟩ := a
                simp only [Option.not_isSome_iff_eq_none] at hsp
                simp_all
              exact hE b n _ hs (this ▸ h4)
            · rw [Array.getElem?_setIfInBounds_ne en]; exact hc
        | _ => cases hc
    · rw [if_neg e]; exact hc
  | new o k ih =>
    intro Q w h
    refine (pre ?_ (ih _ h) : wq P Ev E (k w.heap.size) _ _)
    intro b n u hs hc
    simp only [World.cell?] at hc ⊢
    have hlt : b < w.heap.size := by
      rcases Nat.lt_or_ge b w.heap.size with h' | h'
      · exact h'
      · rw [Array.getElem?_eq_none h'] at hc; cases hc
    rw [Array.getElem?_push_lt hlt]
    rw [Array.getElem?_eq_getElem hlt] at hc
    exact hc
  | shape r k ih => intro Q w h; exact ih _ h
  | freeze a n k ih => intro Q w h; exact h.elim
  | frozen a k ih => intro Q w h; exact ih _ h
  | getObj r k ih => intro Q w h; obtain ⟨o, h1, h2, h3, h4⟩ := h; exact ⟨o, h1, h2, h3, ih o h4⟩
  | setObj r o k ih =>
    intro Q w h
    obtain ⟨⟨o', h1, h2⟩, h3, h4⟩ := h
    refine ⟨⟨o', h1, h2⟩, h3, pre ?_ (ih h4)⟩
    intro b n u hs hc
    simp only [World.cell?] at hc ⊢
    by_cases e : r = b
    · subst e
      rw [h1] at hc
      cases o' with
      | cells c el fr => exact absurd rfl (h2 _ _ _)
      | _ => cases hc
    · rw [Array.getElem?_setIfInBounds_ne e]; exact hc
  | choose q k ih =>
    intro Q w h
    simp only [wq] at h ⊢
    split
    · rename_i hf; rw [if_pos hf] at h; exact ih 0 h
    · rename_i hf; rw [if_neg hf] at h; exact fun n => pre (fun _ _ _ _ x => x) (ih _ (h n))
  | sys c k ih => intro Q w h; exact h.elim
  | program k ih => intro Q w h; exact ih P h
  | mark m k ih => intro Q w h; exact ⟨h.1, ih h.2⟩
  | halt x => intro Q w h; cases x <;> exact h

/-- The guarantee: what is not owned stays, every access is let. -/
def DK (K : Ctx) (w w' : World) (es : Array Event) : Prop := Keeps K.own w w' ∧ (∀ e ∈ es, K.Ev e) ∧ Stays K.still w w'

/-! ### Frames -/
structure TmpR (ρ : Env) (nt : Nat) (t : TT) (tmps : Array Value) : Prop where
  size : tmps.size = nt
  le : nt ≤ 60000
  get : ∀ n, n < nt → tmps[n]? = some ((t.get n).ev ρ)
  out : ∀ n, nt ≤ n → t.get n = undefA

def AMode.ev (ρ : Env) : AMode → FrameMode
  | .run => .run
  | .returning => .returning
  | .panicking chain => .panicking (chain.map fun x => { v := x.1.ev ρ, recovered := x.2 })

def mkF (fn : FuncId) (kind : CallKind) : Frame := { (default : Frame) with fn := fn, kind := kind }

def frameOf (ρ : Env) (fr : AFrame) (tmps : Array Value) (todo : List Item) : Frame := { (mkF fr.fn fr.kind).at ⟨tmps, fr.defers.map (AD.ev ρ)⟩ todo with mode := fr.mode.ev ρ }

/-- What is left to do counts while the frame runs alone. -/
structure FrIs (P : Program) (ρ : Env) (fr : AFrame) (tmps : Array Value) (todo : List Item) : Prop where
  tmps : TmpR ρ fr.nt fr.tmps tmps
  kind : fr.kind = .normal ∨ fr.kind = .deferred
  todo : fr.mode = .run → todo = fr.todo
  fn : ∃ fn, P.funcs[fr.fn]? = some fn

def FrRel (P : Program) (ρ : Env) (fr : AFrame) (g : Frame) : Prop := ∃ tmps todo, FrIs P ρ fr tmps todo ∧ g = frameOf ρ fr tmps todo

def FrRels (P : Program) (ρ : Env) : List AFrame → List Frame → Prop
  | [], [] => True
  | a :: l, b :: m => FrRel P ρ a b ∧ FrRels P ρ l m
  | _, _ => False

/-- A configuration and a goroutine in a world; 'cs': what lies below. -/
def Gam (K : Ctx) (ρ : Env) (c : ACfg) (cs : List Frame) (g : Goroutine) (w : World) : Prop :=
  Rel K ρ c.h w ∧ ∃ fr frs, FrRel K.P ρ c.cur fr ∧ FrRels K.P ρ c.callers frs ∧ g = G fr (frs ++ cs)

def AMode.In (U : Nat → Prop) : AMode → Prop
  | .panicking chain => ∀ x ∈ chain, x.1.In U
  | _ => True

structure AFrame.In (U : Nat → Prop) (fr : AFrame) : Prop where
  tmps : fr.tmps.In U
  defers : ∀ d ∈ fr.defers, d.In U
  mode : fr.mode.In U

structure CIds (K : Ctx) (U : Nat → Prop) (c : ACfg) : Prop where
  cur : c.cur.In U
  callers : ∀ fr ∈ c.callers, fr.In U
  ids : Ids K U c.h

theorem ATarget.In.mono {U U' : Nat → Prop} (hs : ∀ n, U n → U' n) {t : ATarget} (h : t.In U) : t.In U' := by
  cases t with
  | fn f c => exact AV.Ins.mono hs _ h
  | builtin b a t c => trivial
theorem AD.In.mono {U U' : Nat → Prop} (hs : ∀ n, U n → U' n) {d : AD} (h : d.In U) : d.In U' := ⟨ATarget.In.mono hs h.1, AV.Ins.mono hs _ h.2⟩
theorem AMode.In.mono {U U' : Nat → Prop} (hs : ∀ n, U n → U' n) {m : AMode} (h : m.In U) : m.In U' := by
  cases m with
  | panicking chain => exact fun x hx => AV.In.mono hs _ (h x hx)
  | _ => trivial
theorem AFrame.In.mono {U U' : Nat → Prop} (hs : ∀ n, U n → U' n) {fr : AFrame} (h : fr.In U) : fr.In U' :=
  ⟨TT.In.mono hs h.tmps, fun d hd => AD.In.mono hs (h.defers d hd), AMode.In.mono hs h.mode⟩

section
variable {U : Nat → Prop} {ρ ρ' : Env}
theorem AD.ev_agree (A : Agree U ρ ρ') {d : AD} (h : d.In U) : d.ev ρ' = d.ev ρ := by
  obtain ⟨t, a⟩ := d
  simp only [AD.ev]
  rw [AV.evs_agree A _ h.2]
  cases t with
  | fn f c => simp only [ATarget.ev]; rw [AV.evs_agree A _ h.1]
  | builtin b a t c => rfl
theorem AMode.ev_agree (A : Agree U ρ ρ') {m : AMode} (h : m.In U) : m.ev ρ' = m.ev ρ := by
  cases m with
  | panicking chain =>
    simp only [AMode.ev]
    congr 1
    exact List.map_congr_left fun x hx => by rw [AV.ev_agree A _ (h x hx)]
  | _ => rfl
theorem TmpR.agree (A : Agree U ρ ρ') {nt : Nat} {t : TT} {tmps : Array Value} (h : TmpR ρ nt t tmps) (hi : t.In U) : TmpR ρ' nt t tmps :=
  ⟨h.size, h.le, fun n hn => by rw [h.get n hn, AV.ev_agree A _ (hi n)], h.out⟩
theorem frameOf_agree (A : Agree U ρ ρ') {fr : AFrame} (hi : fr.In U) (tmps : Array Value) (todo : List Item) : frameOf ρ' fr tmps todo = frameOf ρ fr tmps todo := by
  unfold frameOf
  rw [AMode.ev_agree A hi.mode]
  have : fr.defers.map (AD.ev ρ') = fr.defers.map (AD.ev ρ) := List.map_congr_left fun d hd => AD.ev_agree A (hi.defers d hd)
  rw [this]
theorem FrRel.agree {P : Program} (A : Agree U ρ ρ') {fr : AFrame} {g : Frame} (h : FrRel P ρ fr g) (hi : fr.In U) : FrRel P ρ' fr g := by
  obtain ⟨tmps, todo, h1, h3⟩ := h
  exact ⟨tmps, todo, ⟨h1.tmps.agree A hi.tmps, h1.kind, h1.todo, h1.fn⟩, by rw [h3, frameOf_agree A hi]⟩
theorem callers_agree {P : Program} (A : Agree U ρ ρ') : ∀ {l : List AFrame} {frs : List Frame}, FrRels P ρ l frs → (∀ fr ∈ l, fr.In U) → FrRels P ρ' l frs
  | [], [], _, _ => trivial
  | _ :: _, _ :: _, h, hi => ⟨h.1.agree A (hi _ (by simp)), callers_agree A h.2 fun fr hf => hi fr (List.mem_cons_of_mem _ hf)⟩
end

section
variable {ρ : Env} {nt : Nat} {t : TT} {tmps : Array Value} {U : Nat → Prop}

theorem TmpR.getD (h : TmpR ρ nt t tmps) (n : Nat) : tmps.getD n undef = (t.get n).ev ρ := by
  rw [Array.getD_eq_getD_getElem?]
  rcases Nat.lt_or_ge n nt with hn | hn
  · rw [h.get n hn]; rfl
  · rw [h.out n hn, Array.getElem?_eq_none (by rw [h.size]; exact hn)]; rfl

theorem evalA_ev (h : TmpR ρ nt t tmps) (ds : List Deferred) (x : Operand) : Act.eval ⟨tmps, ds⟩ x = (evalA t x).ev ρ := by
  cases x with
  | tmp n => exact h.getD n
  | const v => exact (ofValue_ev ρ v).symm
  | global g => rfl
  | func f => rfl

theorem evalA_in (h : t.In U) (x : Operand) : (evalA t x).In U := by
  cases x with
  | tmp n => exact h n
  | const v => exact ofValue_in v
  | global g => exact ⟨trivial, trivial⟩
  | func f => exact ⟨trivial, trivial⟩

theorem put_tmps (h : TmpR ρ nt t tmps) (ds : List Deferred) (dst : Option Tmp) (v : AV) : ∃ tmps', (Act.put ⟨tmps, ds⟩ dst (v.ev ρ)) = ⟨tmps', ds⟩ ∧ TmpR ρ nt (putA nt t dst v) tmps' := by
  cases dst with
  | none => exact ⟨tmps, rfl, h⟩
  | some d =>
    refine ⟨tmps.setIfInBounds d (v.ev ρ), rfl, ?_⟩
    unfold putA
    dsimp only
    cases hb : Nat.ble (d + 1) nt with
    | true =>
      have hd : Nat.succ d ≤ nt := Nat.le_of_ble_eq_true hb
      have hb16 : Nat.succ d < 2 ^ 16 := Nat.lt_of_le_of_lt (Nat.le_trans hd h.le) (by decide)
      refine ⟨by simpa using h.size, h.le, fun n hn => ?_, fun n hn => ?_⟩
      · dsimp only at hn ⊢
        rw [TT.get_set v 16 t d n hb16]
        by_cases e : n = d
        · subst e; rw [if_pos rfl]; simp [h.size, hn]
        · rw [if_neg e, Array.getElem?_setIfInBounds_ne (fun x => e x.symm)]; exact h.get n hn
      · dsimp only
        rw [TT.get_set v 16 t d n hb16, if_neg (show ¬ n = d from fun e => by subst e; exact Nat.lt_irrefl _ (Nat.lt_of_lt_of_le hd hn))]; exact h.out n hn
    | false =>
      have hd : nt ≤ d := Nat.le_of_not_lt fun hlt => by
        have := Nat.ble_eq_true_of_le hlt
        have h2 : Nat.ble (d + 1) nt = true := this
        rw [h2] at hb; cases hb
      have : tmps.setIfInBounds d (v.ev ρ) = tmps := Array.setIfInBounds_eq_of_size_le (by rw [h.size]; exact hd)
      rw [this]; exact h
theorem putA_in {dst : Option Tmp} {v : AV} (h : t.In U) (hv : v.In U) (hnt : nt ≤ 60000) : (putA nt t dst v).In U := by
  cases dst with
  | none => exact h
  | some d =>
    unfold putA
    dsimp only
    cases hb : Nat.ble (d + 1) nt with
    | true =>
      have hd : Nat.succ d ≤ nt := Nat.le_of_ble_eq_true hb
      have hb16 : Nat.succ d < 2 ^ 16 := Nat.lt_of_le_of_lt (Nat.le_trans hd hnt) (by decide)
      intro n
      dsimp only
      rw [TT.get_set v 16 t d n hb16]
      split
      · exact hv
      · exact h n
    | false => exact h

theorem wantedA_ok {K : Ctx} {h : AH} {w : World} (R : Rel K ρ h w) (T : TmpR ρ nt t tmps) {ops : Array Oper} {o : Oper} {b : Bool} (he : wantedA K.O ops t o = .ok b) : Region.wanted o (yielded ops tmps) = b := by
  unfold wantedA at he
  unfold Region.wanted
  split at he
  · rename_i hg; rw [hg]; cases he; rfl
  · rename_i j want hg
    rw [hg]
    split at he
    · rename_i y hy
      cases he
      have : yielded ops tmps j = y := by
        unfold yieldedA at hy
        unfold yielded
        split at hy
        · cases hy
        · rename_i d hd
          rw [hd]
          simp only [Option.bind_some]
          rcases Nat.lt_or_ge d nt with hlt | hge
          · rw [T.get d hlt]
            split at hy
            · rename_i b' hb'
              split at hy
              · rename_i b2 hb2
                cases hy
                rw [hb']
                simp only [AV.ev, bool_lit R hb2]
              · cases hy
            · rename_i vs hvs
              cases hy
              rw [hvs]; rfl
            · cases hy
          · rw [Array.getElem?_eq_none (by rw [T.size]; exact hge)]
            rw [T.out d hge] at hy
            simp only [undefA] at hy
            cases hy; rfl
      show (yielded ops tmps j == some want) = _
      rw [this]
    · cases he

theorem fill_in : ∀ {l : List AV} {n : Nat} {t : TT}, n + l.length ≤ 60000 → AV.Ins U l → t.In U → (TT.fill l n t).In U := by
  intro l n t hle hl ht m
  rw [TT.get_fill l n t m hle]
  split
  · rename_i hm
    have : m - n < l.length := by omega
    rw [List.getD_eq_getElem?_getD, List.getElem?_eq_getElem this]
    exact Ins_iff.1 hl _ (List.getElem_mem this)
  · exact ht m
end

/-- The entry into a function. -/
theorem enterA_ok {P : Program} {ρ : Env} {U : Nat → Prop} {f : FuncId} {args : List AV} {kind : CallKind} {fr : AFrame} (he : enterA P f args kind = .ok fr) (hk : kind = .normal ∨ kind = .deferred) (ha : AV.Ins U args) :
    FrRel P ρ fr (Frame.enter P f (AV.evs ρ args).toArray kind) ∧ fr.In U ∧ fr.kind = kind ∧ fr.fn = f ∧ ∃ fn, P.funcs[f]? = some fn := by
  unfold enterA at he
  split at he
  · rename_i fn hf
    split at he
    · rename_i c hc
      split at he
      · rename_i hlen
        cases he
        refine ⟨⟨(AV.evs ρ args).toArray ++ Array.replicate (fn.ntmps - args.length) undef, [.code c], ⟨?_, hk, fun _ => rfl, fn, hf⟩, ?_⟩, ⟨?_, by simp, trivial⟩, rfl, rfl, fn, hf⟩
        · have hl : (AV.evs ρ args).length = args.length := evs_length ρ args
          refine ⟨by simp [hl]; omega, hlen.2, fun n hn => ?_, fun n hn => ?_⟩
          · dsimp only at hn ⊢
            rw [TT.get_fill args 0 .leaf n (by omega)]
            by_cases hlt : n < args.length
            · rw [if_pos ⟨Nat.zero_le _, by omega⟩, Array.getElem?_append_left (by simp [hl]; exact hlt)]
              rw [List.getElem?_toArray, evs_get]
              simp [List.getD_eq_getElem?_getD, List.getElem?_eq_getElem hlt]
            · rw [if_neg (by omega), Array.getElem?_append_right (by simp [hl]; omega)]
              rw [Array.getElem?_replicate, if_pos (by simp [hl]; omega)]
              rfl
          · dsimp only at hn ⊢
            rw [TT.get_fill args 0 .leaf n (by omega), if_neg (by omega)]
            rfl
        · unfold frameOf Frame.enter
          simp [mkF, Frame.at, AMode.ev, hf, hc, evs_length]
        · exact fill_in (by omega) ha (fun _ => trivial)
      · cases he
    · cases he
  · cases he

end Go.Proofs.Ytcpiafgkmakdiaa.SX

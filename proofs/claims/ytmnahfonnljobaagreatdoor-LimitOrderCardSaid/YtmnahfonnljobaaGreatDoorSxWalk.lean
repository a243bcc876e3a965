/-
  Frames; walks.
-/
import Derived.Test.YtmnahfonnljobaaGreatDoorSxOpsB
import Derived.Conc.Own4
import Derived.AtR
import Derived.Conc.Own5
set_option linter.unusedSectionVars false
set_option linter.unusedVariables false
set_option linter.unusedSimpArgs false
namespace Go.Proofs.YtmnahfonnljobaaGreatDoor.SX
open Go.Conc

/-! ### A walk of one goroutine: whatever is drawn between its steps -/
def drawnAt (w : World) (d : Nat) : World := { w with drawn := d }

/-- Marks that deafen (true), and such as let one hear again. -/
def markWay (dis : Bool) : Mark := match dis with
  | true => .disable
  | false => .enable

/-- A piece of the run of one goroutine: whatever is drawn, it comes to S; n: how often it has been deafened within. -/
inductive WalkI (P : Program) (main : Bool) (D : World → World → Array Event → Prop) (S : Goroutine → World → Prop) : Nat → Goroutine → World → Prop where
  | stop (g : Goroutine) (w : World) : S g w → WalkI P main D S 0 g w
  | step (n : Nat) (g : Goroutine) (w : World) (g' : Nat → Goroutine) (w' : Nat → World) (es : Nat → Array Event) : g.status = .running → (∀ d, stepG P main g (drawnAt w d) = .go (g' d) (w' d) (es d)) →
      (∀ d, D (drawnAt w d) (w' d) (es d)) → (∀ d, WalkI P main D S n (g' d) (w' d)) → WalkI P main D S n g w
  | off (n : Nat) (g : Goroutine) (w : World) (g' : Goroutine) : g.status = .running → (∀ d, stepG P main g (drawnAt w d) = .go g' (drawnAt w d) #[⟨.mark .disable, false, true⟩]) →
      (∀ d, WalkI P main D S (n + 1) g' (drawnAt w d)) → WalkI P main D S n g w
  | on (n : Nat) (g : Goroutine) (w : World) (g' : Goroutine) : g.status = .running → (∀ d, stepG P main g (drawnAt w d) = .go g' (drawnAt w d) #[⟨.mark .enable, false, true⟩]) →
      (∀ d, WalkI P main D S n g' (drawnAt w d)) → WalkI P main D S (n + 1) g w

/-- The count is idle. -/
def Walk (P : Program) (main : Bool) (D : World → World → Array Event → Prop) (S : Goroutine → World → Prop) (_ : Nat) (g : Goroutine) (w : World) : Prop := WalkI P main D S 0 g w

section
variable {P : Program} {main : Bool} {D : World → World → Array Event → Prop} {S T : Goroutine → World → Prop}

theorem Walk.stop {n : Nat} {g : Goroutine} {w : World} (h : S g w) : Walk P main D S n g w := WalkI.stop g w h

theorem goes_mono {s : GStep} {K K' : Goroutine → World → Array Event → Prop} (h : s.goes K) (hk : ∀ g w es, K g w es → K' g w es) : s.goes K' := by
  cases s <;> first | exact hk _ _ _ h | exact h

theorem goes_ex {s : GStep} {K : Goroutine → World → Array Event → Prop} (h : s.goes K) : ∃ g w es, s = .go g w es ∧ K g w es := by
  cases s with
  | go g w es => exact ⟨g, w, es, rfl, h⟩
  | _ => exact h.elim

theorem Walk.mono {n m : Nat} {g : Goroutine} {w : World} (_ : n ≤ m) (h : Walk P main D S n g w) : Walk P main D S m g w := h
theorem Walk.any {n m : Nat} {g : Goroutine} {w : World} (h : Walk P main D S n g w) : Walk P main D S m g w := h

theorem WalkI.trans (hST : ∀ g w, S g w → WalkI P main D T 0 g w) {n : Nat} {g : Goroutine} {w : World} (h : WalkI P main D S n g w) : WalkI P main D T n g w := by
  induction h with
  | stop g w hs => exact hST g w hs
  | step n g w g' w' es hr hs hd _ ih => exact WalkI.step n g w g' w' es hr hs hd fun d => ih d
  | off n g w g' hr hs _ ih => exact WalkI.off n g w g' hr hs fun d => ih d
  | on n g w g' hr hs _ ih => exact WalkI.on n g w g' hr hs fun d => ih d

theorem Walk.trans {n m : Nat} (hST : ∀ g w, S g w → Walk P main D T m g w) {g : Goroutine} {w : World} (h : Walk P main D S n g w) : Walk P main D T (n + m) g w := WalkI.trans hST h

theorem Walk.weaken {n : Nat} (hST : ∀ g w, S g w → T g w) {g : Goroutine} {w : World} (h : Walk P main D S n g w) : Walk P main D T n g w :=
  (Walk.trans (m := 0) (fun g w hs => Walk.stop (hST g w hs)) h).any

theorem Walk.head {n m : Nat} {g : Goroutine} {w : World} (hs : g.status = .running) (h : ∀ d, (stepG P main g (drawnAt w d)).goes fun g' w' es => D (drawnAt w d) w' es ∧ Walk P main D S n g' w') : Walk P main D S m g w := by
  have h' : ∀ d, ∃ g' w' es, stepG P main g (drawnAt w d) = .go g' w' es ∧ D (drawnAt w d) w' es ∧ Walk P main D S n g' w' := fun d => goes_ex (h d)
  exact WalkI.step 0 g w (fun d => (h' d).choose) (fun d => (h' d).choose_spec.choose) (fun d => (h' d).choose_spec.choose_spec.choose) hs (fun d => (h' d).choose_spec.choose_spec.choose_spec.1)
    (fun d => (h' d).choose_spec.choose_spec.choose_spec.2.1) (fun d => (h' d).choose_spec.choose_spec.choose_spec.2.2)

theorem Walk.one {g : Goroutine} {w : World} (hs : g.status = .running) (h : ∀ d, (stepG P main g (drawnAt w d)).goes fun g' w' es => D (drawnAt w d) w' es ∧ S g' w') : Walk P main D S 1 g w :=
  Walk.head (n := 0) hs fun d => goes_mono (h d) fun g' w' es ⟨a, b⟩ => ⟨a, Walk.stop b⟩

/-- A guarantee that is laxer. -/
theorem Walk.lax {D' : World → World → Array Event → Prop} {n : Nat} (hd : ∀ w w' es, D w w' es → D' w w' es) {g : Goroutine} {w : World} (h : Walk P main D S n g w) : Walk P main D' S n g w := by
  change WalkI P main D S 0 g w at h
  show WalkI P main D' S 0 g w
  generalize (0 : Nat) = k at h ⊢
  induction h with
  | stop g w hs => exact WalkI.stop g w hs
  | step n g w g' w' es hr hs hdd _ ih => exact WalkI.step n g w g' w' es hr hs (fun d => hd _ _ _ (hdd d)) fun d => ih d
  | off n g w g' hr hs _ ih => exact WalkI.off n g w g' hr hs fun d => ih d
  | on n g w g' hr hs _ ih => exact WalkI.on n g w g' hr hs fun d => ih d
end

/-! ### Cells that nobody writes stay -/
def Stays (S : Nat → Nat → Prop) (w w' : World) : Prop := ∀ b n v, S b n → w.cell? ⟨b, n, none⟩ = some v → w'.cell? ⟨b, n, none⟩ = some v

theorem wq_keep {α : Type} {P : Program} {Ev : Event → Prop} {E : Value → World → Prop} {S : Nat → Nat → Prop} (hE : ∀ b n s, S b n → ¬ Ev ⟨.cell ⟨b, n, none⟩, true, s⟩) (m : Sem α) : ∀ {Q : α → World → Prop} {w : World}, wq P Ev E m Q w →
    wq P Ev E m (fun x w' => Q x w' ∧ Stays S w w') w := by
  have pre : ∀ {w w1 : World}, Stays S w w1 → ∀ {m : Sem α} {Q : α → World → Prop}, wq P Ev E m (fun x w' => Q x w' ∧ Stays S w1 w') w1 → wq P Ev E m (fun x w' => Q x w' ∧ Stays S w w') w1 := by
    intro w w1 hs m Q h
    exact wq_mono (fun _ _ x => x) (fun x w' ⟨a, b⟩ => ⟨a, fun b' n v x y => b b' n v x (hs b' n v x y)⟩) h
  induction m with
  | pure a => intro Q w h; exact ⟨h, fun _ _ _ _ x => x⟩
  | load m a k ih => intro Q w h; obtain ⟨v, h1, h2, h3⟩ := h; exact ⟨v, h1, h2, ih v h3⟩
  | store m a v k ih =>
    intro Q w h
    obtain ⟨h1, h2, h3, h4, h5⟩ := h
    refine ⟨h1, h2, h3, h4, pre ?_ (ih h5)⟩
    intro b n u hs hc
    simp only [World.cell?] at hc ⊢
    rw [heap_setCell]
    by_cases e : b = a.block
    · rw [if_pos e]
      cases ho : w.heap[b]? with
      | none => rw [ho] at hc; cases hc
      | some o =>
        rw [ho] at hc
        cases o with
        | cells c elem fr =>
          simp only [Option.map_some]
          simp only [Option.isSome_none, Bool.false_eq_true, if_false] at hc ⊢
          by_cases hsp : a.spot.isSome = true
          · rw [if_pos hsp]; exact hc
          · rw [if_neg hsp]
            by_cases en : a.off = n
            · exfalso
              have : a = ⟨b, n, none⟩ := by
                obtain ⟨ab, ao, asp⟩ := a
                simp only [Option.not_isSome_iff_eq_none] at hsp
                simp_all
              exact hE b n _ hs (this ▸ h4)
            · rw [Array.getElem?_setIfInBounds_ne en]; exact hc
        | _ => cases hc
    · rw [if_neg e]; exact hc
  | new o k ih =>
    intro Q w h
    refine (pre ?_ (ih _ h) : wq P Ev E (k w.heap.size) _ _)
    intro b n u hs hc
    simp only [World.cell?] at hc ⊢
    have hlt : b < w.heap.size := by
      rcases Nat.lt_or_ge b w.heap.size with h' | h'
      · exact h'
      · rw [Array.getElem?_eq_none h'] at hc; cases hc
    rw [Array.getElem?_push_lt hlt]
    rw [Array.getElem?_eq_getElem hlt] at hc
    exact hc
  | shape r k ih => intro Q w h; exact ih _ h
  | freeze a n k ih => intro Q w h; exact h.elim
  | frozen a k ih => intro Q w h; exact ih _ h
  | getObj r k ih => intro Q w h; obtain ⟨o, h1, h2, h3, h4⟩ := h; exact ⟨o, h1, h2, h3, ih o h4⟩
  | setObj r o k ih =>
    intro Q w h
    obtain ⟨⟨o', h1, h2⟩, h3, h4⟩ := h
    refine ⟨⟨o', h1, h2⟩, h3, pre ?_ (ih h4)⟩
    intro b n u hs hc
    simp only [World.cell?] at hc ⊢
    by_cases e : r = b
    · subst e
      rw [h1] at hc
      cases o' with
      | cells c el fr => exact absurd rfl (h2 _ _ _)
      | _ => cases hc
    · rw [Array.getElem?_setIfInBounds_ne e]; exact hc
  | choose q k ih =>
    intro Q w h
    simp only [wq] at h ⊢
    split
    · rename_i hf; rw [if_pos hf] at h; exact ih 0 h
    · rename_i hf; rw [if_neg hf] at h; exact fun n => pre (fun _ _ _ _ x => x) (ih _ (h n))
  | sys c k ih => intro Q w h; exact h.elim
  | program k ih => intro Q w h; exact ih P h
  | mark m k ih => intro Q w h; exact ⟨h.1, ih h.2⟩
  | halt x => intro Q w h; cases x <;> exact h

/-- The guarantee: what is not owned stays, every access is let. -/
def DK (K : Ctx) (w w' : World) (es : Array Event) : Prop := Keeps K.own w w' ∧ (∀ e ∈ es, K.Ev e) ∧ Stays K.still w w'

/-! ### Frames -/
structure TmpR (ρ : Env) (nt : Nat) (t : TT) (tmps : Array Value) : Prop where
  size : tmps.size = nt
  le : nt ≤ 60000
  get : ∀ n, n < nt → tmps[n]? = some ((t.get n).ev ρ)
  out : ∀ n, nt ≤ n → t.get n = undefA

def AMode.ev (ρ : Env) : AMode → FrameMode
  | .run => .run
  | .returning => .returning
  | .panicking chain => .panicking (chain.map fun x => { v := x.1.ev ρ, recovered := x.2 })

def mkF (fn : FuncId) (kind : CallKind) : Frame := { (default : Frame) with fn := fn, kind := kind }

/-- The frame, but for what it does: a marked one has a loop, and what is deferred below. -/
def bB (ρ : Env) (fn : FuncId) (kind : CallKind) : Frame :=
  match kind with
  | .wrapped => { mkF fn .normal with roundOf := ρ.bt.1 }
  | k => mkF fn k
def dB (ρ : Env) (kind : CallKind) (ds : List Deferred) : List Deferred :=
  match kind with
  | .wrapped => ds ++ ρ.bt.2
  | _ => ds
def aB (ρ : Env) (kind : CallKind) (tm : Array Value) (ds : List AD) : Act := ⟨tm, dB ρ kind (ds.map (AD.ev ρ))⟩
def plainK (k : CallKind) : Prop := k = .normal ∨ k = .deferred
theorem plain_of {k : CallKind} (h : plainK k ∨ k = .wrapped) (ht : tagged k = false) : plainK k := by
  rcases h with h | rfl
  · exact h
  · cases ht
theorem plain_bB {k : CallKind} (h : plainK k) (ρ : Env) (fn : FuncId) : bB ρ fn k = mkF fn k := by rcases h with rfl | rfl <;> rfl
theorem plain_dB {k : CallKind} (h : plainK k) (ρ : Env) (ds : List Deferred) : dB ρ k ds = ds := by rcases h with rfl | rfl <;> rfl
theorem plain_aB {k : CallKind} (h : plainK k) (ρ : Env) (tm : Array Value) (ds : List AD) : aB ρ k tm ds = ⟨tm, ds.map (AD.ev ρ)⟩ := by unfold aB; rw [plain_dB h]
theorem plain_at {k : CallKind} (h : plainK k) (ρ : Env) (fn : FuncId) (tm : Array Value) (ds : List AD) (todo : List Item) : (bB ρ fn k).atR (aB ρ k tm ds) todo = (mkF fn k).at ⟨tm, ds.map (AD.ev ρ)⟩ todo := by
  rw [plain_bB h, plain_aB h]; rfl
theorem plain_round {k : CallKind} (h : plainK k) (ρ : Env) (fn : FuncId) : (bB ρ fn k).roundOf = none := by rw [plain_bB h]; rfl
theorem bB_kind {k : CallKind} (h : plainK k ∨ k = .wrapped) (ρ : Env) (fn : FuncId) : (bB ρ fn k).kind ≠ .early := by
  rcases h with (rfl | rfl) | rfl <;> simp [bB, mkF]
theorem bB_fn (ρ : Env) (fn : FuncId) (k : CallKind) : (bB ρ fn k).fn = fn := by cases k <;> rfl
theorem dB_cons (ρ : Env) (k : CallKind) (d : Deferred) (ds : List Deferred) : dB ρ k (d :: ds) = d :: dB ρ k ds := by cases k <;> rfl

def frameOf (ρ : Env) (fr : AFrame) (tmps : Array Value) (todo : List Item) : Frame := { (bB ρ fr.fn fr.kind).atR (aB ρ fr.kind tmps fr.defers) todo with mode := fr.mode.ev ρ }

/-- What is left to do counts while the frame runs alone. -/
structure FrIs (P : Program) (ρ : Env) (fr : AFrame) (tmps : Array Value) (todo : List Item) : Prop where
  tmps : TmpR ρ fr.nt fr.tmps tmps
  kind : plainK fr.kind ∨ fr.kind = .wrapped
  todo : fr.mode = .run → todo = fr.todo
  fn : ∃ fn, P.funcs[fr.fn]? = some fn

def FrRel (P : Program) (ρ : Env) (fr : AFrame) (g : Frame) : Prop := ∃ tmps todo, FrIs P ρ fr tmps todo ∧ g = frameOf ρ fr tmps todo

def FrRels (P : Program) (ρ : Env) : List AFrame → List Frame → Prop
  | [], [] => True
  | a :: l, b :: m => FrRel P ρ a b ∧ FrRels P ρ l m
  | _, _ => False

/-- A configuration and a goroutine in a world; 'cs': what lies below. -/
def Gam (K : Ctx) (ρ : Env) (c : ACfg) (cs : List Frame) (g : Goroutine) (w : World) : Prop :=
  Rel K ρ c.h w ∧ ∃ fr frs, FrRel K.P ρ c.cur fr ∧ FrRels K.P ρ c.callers frs ∧ g = G fr (frs ++ cs)

def AMode.In (U : Nat → Prop) : AMode → Prop
  | .panicking chain => ∀ x ∈ chain, x.1.In U
  | _ => True

structure AFrame.In (U : Nat → Prop) (fr : AFrame) : Prop where
  tmps : fr.tmps.In U
  defers : ∀ d ∈ fr.defers, d.In U
  mode : fr.mode.In U

structure CIds (K : Ctx) (U : Nat → Prop) (c : ACfg) : Prop where
  cur : c.cur.In U
  callers : ∀ fr ∈ c.callers, fr.In U
  ids : Ids K U c.h

theorem ATarget.In.mono {U U' : Nat → Prop} (hs : ∀ n, U n → U' n) {t : ATarget} (h : t.In U) : t.In U' := by
  cases t with
  | fn f c => exact AV.Ins.mono hs _ h
  | builtin b a t c => trivial
theorem AD.In.mono {U U' : Nat → Prop} (hs : ∀ n, U n → U' n) {d : AD} (h : d.In U) : d.In U' := ⟨ATarget.In.mono hs h.1, AV.Ins.mono hs _ h.2⟩
theorem AMode.In.mono {U U' : Nat → Prop} (hs : ∀ n, U n → U' n) {m : AMode} (h : m.In U) : m.In U' := by
  cases m with
  | panicking chain => exact fun x hx => AV.In.mono hs _ (h x hx)
  | _ => trivial
theorem AFrame.In.mono {U U' : Nat → Prop} (hs : ∀ n, U n → U' n) {fr : AFrame} (h : fr.In U) : fr.In U' :=
  ⟨TT.In.mono hs h.tmps, fun d hd => AD.In.mono hs (h.defers d hd), AMode.In.mono hs h.mode⟩

section
variable {U : Nat → Prop} {ρ ρ' : Env}
theorem AD.ev_agree (A : Agree U ρ ρ') {d : AD} (h : d.In U) : d.ev ρ' = d.ev ρ := by
  obtain ⟨t, a⟩ := d
  simp only [AD.ev]
  rw [AV.evs_agree A _ h.2]
  cases t with
  | fn f c => simp only [ATarget.ev]; rw [AV.evs_agree A _ h.1]
  | builtin b a t c => rfl
theorem AMode.ev_agree (A : Agree U ρ ρ') {m : AMode} (h : m.In U) : m.ev ρ' = m.ev ρ := by
  cases m with
  | panicking chain =>
    simp only [AMode.ev]
    congr 1
    exact List.map_congr_left fun x hx => by rw [AV.ev_agree A _ (h x hx)]
  | _ => rfl
theorem bB_agree (A : Agree U ρ ρ') (fn : FuncId) (k : CallKind) : bB ρ' fn k = bB ρ fn k := by
  unfold bB; rw [A.bt]
theorem aB_agree (A : Agree U ρ ρ') (k : CallKind) (tm : Array Value) {ds : List AD} (h : ∀ d ∈ ds, d.In U) : aB ρ' k tm ds = aB ρ k tm ds := by
  have : ds.map (AD.ev ρ') = ds.map (AD.ev ρ) := List.map_congr_left fun d hd => AD.ev_agree A (h d hd)
  unfold aB dB
  rw [this, A.bt]
theorem TmpR.agree (A : Agree U ρ ρ') {nt : Nat} {t : TT} {tmps : Array Value} (h : TmpR ρ nt t tmps) (hi : t.In U) : TmpR ρ' nt t tmps :=
  ⟨h.size, h.le, fun n hn => by rw [h.get n hn, AV.ev_agree A _ (hi n)], h.out⟩
theorem frameOf_agree (A : Agree U ρ ρ') {fr : AFrame} (hi : fr.In U) (tmps : Array Value) (todo : List Item) : frameOf ρ' fr tmps todo = frameOf ρ fr tmps todo := by
  unfold frameOf
  rw [AMode.ev_agree A hi.mode, aB_agree A fr.kind tmps hi.defers, bB_agree A]
theorem FrRel.agree {P : Program} (A : Agree U ρ ρ') {fr : AFrame} {g : Frame} (h : FrRel P ρ fr g) (hi : fr.In U) : FrRel P ρ' fr g := by
  obtain ⟨tmps, todo, h1, h3⟩ := h
  exact ⟨tmps, todo, ⟨h1.tmps.agree A hi.tmps, h1.kind, h1.todo, h1.fn⟩, by rw [h3, frameOf_agree A hi]⟩
theorem callers_agree {P : Program} (A : Agree U ρ ρ') : ∀ {l : List AFrame} {frs : List Frame}, FrRels P ρ l frs → (∀ fr ∈ l, fr.In U) → FrRels P ρ' l frs
  | [], [], _, _ => trivial
  | _ :: _, _ :: _, h, hi => ⟨h.1.agree A (hi _ (by simp)), callers_agree A h.2 fun fr hf => hi fr (List.mem_cons_of_mem _ hf)⟩
end

section
variable {ρ : Env} {nt : Nat} {t : TT} {tmps : Array Value} {U : Nat → Prop}

theorem TmpR.getD (h : TmpR ρ nt t tmps) (n : Nat) : tmps.getD n undef = (t.get n).ev ρ := by
  rw [Array.getD_eq_getD_getElem?]
  rcases Nat.lt_or_ge n nt with hn | hn
  · rw [h.get n hn]; rfl
  · rw [h.out n hn, Array.getElem?_eq_none (by rw [h.size]; exact hn)]; rfl

theorem evalA_ev (h : TmpR ρ nt t tmps) (ds : List Deferred) (x : Operand) : Act.eval ⟨tmps, ds⟩ x = (evalA t x).ev ρ := by
  cases x with
  | tmp n => exact h.getD n
  | const v => exact (ofValue_ev ρ v).symm
  | global g => rfl
  | func f => rfl

theorem evalA_in (h : t.In U) (x : Operand) : (evalA t x).In U := by
  cases x with
  | tmp n => exact h n
  | const v => exact ofValue_in v
  | global g => exact ⟨trivial, trivial⟩
  | func f => exact ⟨trivial, trivial⟩

theorem put_tmps (h : TmpR ρ nt t tmps) (ds : List Deferred) (dst : Option Tmp) (v : AV) : ∃ tmps', (Act.put ⟨tmps, ds⟩ dst (v.ev ρ)) = ⟨tmps', ds⟩ ∧ TmpR ρ nt (putA nt t dst v) tmps' := by
  cases dst with
  | none => exact ⟨tmps, rfl, h⟩
  | some d =>
    refine ⟨tmps.setIfInBounds d (v.ev ρ), rfl, ?_⟩
    unfold putA
    dsimp only
    cases hb : Nat.ble (d + 1) nt with
    | true =>
      have hd : Nat.succ d ≤ nt := Nat.le_of_ble_eq_true hb
      have hb16 : Nat.succ d < 2 ^ 16 := Nat.lt_of_le_of_lt (Nat.le_trans hd h.le) (by decide)
      refine ⟨by simpa using h.size, h.le, fun n hn => ?_, fun n hn => ?_⟩
      · dsimp only at hn ⊢
        rw [TT.get_set v 16 t d n hb16]
        by_cases e : n = d
        · subst e; rw [if_pos rfl]; simp [h.size, hn]
        · rw [if_neg e, Array.getElem?_setIfInBounds_ne (fun x => e x.symm)]; exact h.get n hn
      · dsimp only
        rw [TT.get_set v 16 t d n hb16, if_neg (show ¬ n = d from fun e => by subst e; exact Nat.lt_irrefl _ (Nat.lt_of_lt_of_le hd hn))]; exact h.out n hn
    | false =>
      have hd : nt ≤ d := Nat.le_of_not_lt fun hlt => by
        have := Nat.ble_eq_true_of_le hlt
        have h2 : Nat.ble (d + 1) nt = true := this
        rw [h2] at hb; cases hb
      have : tmps.setIfInBounds d (v.ev ρ) = tmps := Array.setIfInBounds_eq_of_size_le (by rw [h.size]; exact hd)
      rw [this]; exact h
theorem putA_in {dst : Option Tmp} {v : AV} (h : t.In U) (hv : v.In U) (hnt : nt ≤ 60000) : (putA nt t dst v).In U := by
  cases dst with
  | none => exact h
  | some d =>
    unfold putA
    dsimp only
    cases hb : Nat.ble (d + 1) nt with
    | true =>
      have hd : Nat.succ d ≤ nt := Nat.le_of_ble_eq_true hb
      have hb16 : Nat.succ d < 2 ^ 16 := Nat.lt_of_le_of_lt (Nat.le_trans hd hnt) (by decide)
      intro n
      dsimp only
      rw [TT.get_set v 16 t d n hb16]
      split
      · exact hv
      · exact h n
    | false => exact h

theorem wantedA_ok {K : Ctx} {h : AH} {w : World} (R : Rel K ρ h w) (T : TmpR ρ nt t tmps) {ops : Array Oper} {o : Oper} {b : Bool} (he : wantedA K.O ops t o = .ok b) : Region.wanted o (yielded ops tmps) = b := by
  unfold wantedA at he
  unfold Region.wanted
  split at he
  · rename_i hg; rw [hg]; cases he; rfl
  · rename_i j want hg
    rw [hg]
    split at he
    · rename_i y hy
      cases he
      have : yielded ops tmps j = y := by
        unfold yieldedA at hy
        unfold yielded
        split at hy
        · cases hy
        · rename_i d hd
          rw [hd]
          simp only [Option.bind_some]
          rcases Nat.lt_or_ge d nt with hlt | hge
          · rw [T.get d hlt]
            split at hy
            · rename_i b' hb'
              split at hy
              · rename_i b2 hb2
                cases hy
                rw [hb']
                simp only [AV.ev, bool_lit R hb2]
              · cases hy
            · rename_i vs hvs
              cases hy
              rw [hvs]; rfl
            · cases hy
          · rw [Array.getElem?_eq_none (by rw [T.size]; exact hge)]
            rw [T.out d hge] at hy
            simp only [undefA] at hy
            cases hy; rfl
      show (yielded ops tmps j == some want) = _
      rw [this]
    · cases he

theorem fill_in : ∀ {l : List AV} {n : Nat} {t : TT}, n + l.length ≤ 60000 → AV.Ins U l → t.In U → (TT.fill l n t).In U := by
  intro l n t hle hl ht m
  rw [TT.get_fill l n t m hle]
  split
  · rename_i hm
    have : m - n < l.length := by omega
    rw [List.getD_eq_getElem?_getD, List.getElem?_eq_getElem this]
    exact Ins_iff.1 hl _ (List.getElem_mem this)
  · exact ht m
end

/-- The entry into a function. -/
theorem enterA_ok {P : Program} {ρ : Env} {U : Nat → Prop} {f : FuncId} {args : List AV} {kind : CallKind} {fr : AFrame} (he : enterA P f args kind = .ok fr) (hk : kind = .normal ∨ kind = .deferred) (ha : AV.Ins U args) :
    FrRel P ρ fr (Frame.enter P f (AV.evs ρ args).toArray kind) ∧ fr.In U ∧ fr.kind = kind ∧ fr.fn = f ∧ ∃ fn, P.funcs[f]? = some fn := by
  unfold enterA at he
  split at he
  · rename_i fn hf
    split at he
    · rename_i c hc
      split at he
      · rename_i hlen
        cases he
        refine ⟨⟨(AV.evs ρ args).toArray ++ Array.replicate (fn.ntmps - args.length) undef, [.code c], ⟨?_, .inl hk, fun _ => rfl, fn, hf⟩, ?_⟩, ⟨?_, by simp, trivial⟩, rfl, rfl, fn, hf⟩
        · have hl : (AV.evs ρ args).length = args.length := evs_length ρ args
          refine ⟨by simp [hl]; omega, hlen.2, fun n hn => ?_, fun n hn => ?_⟩
          · dsimp only at hn ⊢
            rw [TT.get_fill args 0 .leaf n (by omega)]
            by_cases hlt : n < args.length
            · rw [if_pos ⟨Nat.zero_le _, by omega⟩, Array.getElem?_append_left (by simp [hl]; exact hlt)]
              rw [List.getElem?_toArray, evs_get]
              simp [List.getD_eq_getElem?_getD, List.getElem?_eq_getElem hlt]
            · rw [if_neg (by omega), Array.getElem?_append_right (by simp [hl]; omega)]
              rw [Array.getElem?_replicate, if_pos (by simp [hl]; omega)]
              rfl
          · dsimp only at hn ⊢
            rw [TT.get_fill args 0 .leaf n (by omega), if_neg (by omega)]
            rfl
        · unfold frameOf Frame.enter
          dsimp only
          rw [plain_at hk]
          simp [mkF, Frame.at, AMode.ev, hf, hc, evs_length]
        · exact fill_in (by omega) ha (fun _ => trivial)
      · cases he
    · cases he
  · cases he

end Go.Proofs.YtmnahfonnljobaaGreatDoor.SX
/-
  The steps of a frame that may be a round of a loop over a function.
-/
set_option linter.unusedSectionVars false
set_option linter.unusedVariables false
set_option linter.unusedSimpArgs false
namespace Go.Proofs.YtmnahfonnljobaaGreatDoor.SX
open Go.Conc

section
variable {P : Program} {main : Bool} {b : Frame} {a : Act} {k : List Item} {cs : List Frame} {w : World}

theorem stR_skip : stepG P main (G (b.atR a (.code .skip :: k)) cs) w = .go (G (b.atR a k) cs) w := by simp [G, stepG, stepG.exec, Frame.atR]
theorem stR_label {l : Nat} : stepG P main (G (b.atR a (.code (.label l) :: k)) cs) w = .go (G (b.atR a k) cs) w := by simp [G, stepG, stepG.exec, Frame.atR]
theorem stR_inBlock {id : Nat} : stepG P main (G (b.atR a (.inBlock id :: k)) cs) w = .go (G (b.atR a k) cs) w := by simp [G, stepG, stepG.exec, Frame.atR]
theorem stR_inScope {c : Code} : stepG P main (G (b.atR a (.inScope c :: k)) cs) w = .go (G (b.atR a k) cs) w := by simp [G, stepG, stepG.exec, Frame.atR]
theorem stR_seq {x y : Code} : stepG P main (G (b.atR a (.code (.seq x y) :: k)) cs) w = .go (G (b.atR a (.code x :: .code y :: k)) cs) w := by simp [G, stepG, stepG.exec, Frame.atR]
theorem stR_cond {c : Operand} {x y : Code} {t : Bool} (h : a.eval c = .bool t) : stepG P main (G (b.atR a (.code (.cond c x y) :: k)) cs) w = .go (G (b.atR a (.code (if t then x else y) :: k)) cs) w := by
  have h' : (b.atR a (.code (.cond c x y) :: k)).eval c = .bool t := by rw [Frame.eval_atR]; exact h
  simp only [Frame.atR] at h'
  simp [G, stepG, stepG.exec, Frame.atR, h']
theorem stR_block {id : Nat} {c : Code} : stepG P main (G (b.atR a (.code (.block id c) :: k)) cs) w = .go (G (b.atR a (.code c :: .inBlock id :: k)) cs) w := by simp [G, stepG, stepG.exec, Frame.atR]
theorem stR_loop {c : Code} : stepG P main (G (b.atR a (.code (.loop c) :: k)) cs) w = .go (G (b.atR a (.code c :: .inLoop c :: k)) cs) w := by simp [G, stepG, stepG.exec, Frame.atR]
theorem stR_inLoop {c : Code} : stepG P main (G (b.atR a (.inLoop c :: k)) cs) w = .go (G (b.atR a (.code c :: .inLoop c :: k)) cs) w := by simp [G, stepG, stepG.exec, Frame.atR]
theorem stR_scope {c : Code} : stepG P main (G (b.atR a (.code (.scope c) :: k)) cs) w = .go (G (b.atR a (.code c :: .inScope c :: k)) cs) w := by simp [G, stepG, stepG.exec, Frame.atR]
theorem stR_exit {id : Nat} {k' : List Item} (h : exitTo id k = some k') : stepG P main (G (b.atR a (.code (.exit id) :: k)) cs) w = .go (G (b.atR a k') cs) w := by simp [G, stepG, stepG.exec, Frame.atR, h]
theorem stR_goto {l : Nat} {k' : List Item} (h : gotoIn l k = some k') : stepG P main (G (b.atR a (.code (.goto l) :: k)) cs) w = .go (G (b.atR a k') cs) w := by simp [G, stepG, stepG.exec, Frame.atR, h]
theorem stR_region {id : Nat} {ops : Array Oper} : stepG P main (G (b.atR a (.code (.region id ops false) :: k)) cs) w = .go (G (b.atR a (.inRegion ops (List.range ops.size) :: k)) cs) w := by simp [G, stepG, stepG.exec, Frame.atR]
theorem stR_region_end {ops : Array Oper} : stepG P main (G (b.atR a (.inRegion ops [] :: k)) cs) w = .go (G (b.atR a k) cs) w := by simp [G, stepG, stepG.exec, Frame.atR]
theorem stR_end (hb : b.roundOf = none) : stepG P main (G (b.atR a []) cs) w = .go (G { b.atR a [] with mode := .returning } cs) w := by simp [G, stepG, stepG.exec, Frame.atR, hb]
theorem stR_ret (hb : b.roundOf = none) : stepG P main (G (b.atR a (.code .ret :: k)) cs) w = .go (G { b.atR a (.code .ret :: k) with mode := .returning } cs) w := by simp [G, stepG, stepG.exec, Frame.atR, hb]

theorem finR (b : Frame) (a : Act) {ops : Array Oper} {i : Nat} {rest : List Nat} {k : List Item} {o : Oper} (ho : ops[i]? = some o) (v : Value) : (b.atR a (.inRegion ops (i :: rest) :: k)).finish v = b.atR (a.put o.dst v) (.inRegion ops rest :: k) := by
  rw [Frame.finish_atR, ho]; rfl

variable {ops : Array Oper} {i : Nat} {rest : List Nat} {o : Oper} {w' : World}
theorem stR_unwanted (ho : ops[i]? = some o) (hw : Region.wanted o (yielded ops a.tmps) = false) :
    stepG P main (G (b.atR a (.inRegion ops (i :: rest) :: k)) cs) w = .go (G (b.atR (a.put o.dst undef) (.inRegion ops rest :: k)) cs) w #[] := by
  rw [← finR b a ho]
  simp [G, stepG, stepG.exec, Frame.atR, ho, hw]

/-- No round, or nothing that a round does its own way. -/
def FreeOp (b : Frame) (o : Oper) : Prop := b.roundOf = none ∨ ∀ c, o.op ≠ .defer c

theorem stR_oper (hf : FreeOp b o) (ho : ops[i]? = some o) (hw : Region.wanted o (yielded ops a.tmps) = true) :
    stepG P main (G (b.atR a (.inRegion ops (i :: rest) :: k)) cs) w = stepG.apply P true (b.atR a (.inRegion ops (i :: rest) :: k)) cs none (execOp a.eval o) w := by
  have he := Frame.eval_atR b a (.inRegion ops (i :: rest) :: k)
  have h1 : stepG P main (G (b.atR a (.inRegion ops (i :: rest) :: k)) cs) w = stepG.oper P true (b.atR a (.inRegion ops (i :: rest) :: k)) cs none w := by
    simp [G, stepG, stepG.exec, Frame.atR, ho, hw]
  rw [h1]
  have h2 : (b.atR a (.inRegion ops (i :: rest) :: k)).oper? = some o := by simp [Frame.oper?, Frame.atR, ho]
  have h3 : (b.atR a (.inRegion ops (i :: rest) :: k)).roundOf = b.roundOf := rfl
  unfold stepG.oper
  rw [h2]
  dsimp only
  rw [h3, he]
  rcases hf with h | h
  · rw [h]
  · split
    · rename_i l c _ hc; exact absurd hc (h c)
    · rfl

theorem stR_value {v : Value} (hf : FreeOp b o) (ho : ops[i]? = some o) (hw : Region.wanted o (yielded ops a.tmps) = true) (hk : b.kind ≠ .early) (hr : (execOp a.eval o).run P w = .ok (.value v) w') :
    stepG P main (G (b.atR a (.inRegion ops (i :: rest) :: k)) cs) w = .go (G (b.atR (a.put o.dst v) (.inRegion ops rest :: k)) cs) w' (listed P b.fn a o w) := by
  have hk' : (b.kind == CallKind.early) = false := by simpa using hk
  rw [stR_oper hf ho hw, ← finR b a ho]
  simp [stepG.apply, hr, G, Frame.atR, hk', GStep.after, listed]
theorem stR_none (hf : FreeOp b o) (ho : ops[i]? = some o) (hw : Region.wanted o (yielded ops a.tmps) = true) (hk : b.kind ≠ .early) (hr : (execOp a.eval o).run P w = .ok .skip w') :
    stepG P main (G (b.atR a (.inRegion ops (i :: rest) :: k)) cs) w = .go (G (b.atR (a.put o.dst undef) (.inRegion ops rest :: k)) cs) w' (listed P b.fn a o w) := by
  have hk' : (b.kind == CallKind.early) = false := by simpa using hk
  rw [stR_oper hf ho hw, ← finR b a ho]
  simp [stepG.apply, hr, G, Frame.atR, hk', GStep.after, listed]
theorem stR_enter {f : FuncId} {args : Array Value} (hf : FreeOp b o) (ho : ops[i]? = some o) (hw : Region.wanted o (yielded ops a.tmps) = true) (hk : b.kind ≠ .early) (hr : (execOp a.eval o).run P w = .ok (.enter f args) w') :
    stepG P main (G (b.atR a (.inRegion ops (i :: rest) :: k)) cs) w = .go (G (Frame.enter P f args .normal) (b.atR a (.inRegion ops (i :: rest) :: k) :: cs)) w' (listed P b.fn a o w) := by
  have hk' : (b.kind == CallKind.early) = false := by simpa using hk
  rw [stR_oper hf ho hw]
  simp [stepG.apply, hr, G, Frame.atR, hk', GStep.after, listed]
theorem stR_panic {v : Value} (hf : FreeOp b o) (ho : ops[i]? = some o) (hw : Region.wanted o (yielded ops a.tmps) = true) (hk : b.kind ≠ .early) (hr : (execOp a.eval o).run P w = .halt (.panic v) w') :
    stepG P main (G (b.atR a (.inRegion ops (i :: rest) :: k)) cs) w = .go (G ((b.atR a (.inRegion ops (i :: rest) :: k)).raise [{ v, recovered := false }]) cs) w' (listed P b.fn a o w) := by
  have hk' : (b.kind == CallKind.early) = false := by simpa using hk
  rw [stR_oper hf ho hw]
  simp [stepG.apply, hr, G, Frame.atR, hk', GStep.after, listed]
theorem stR_defer {d : Deferred} (hb : b.roundOf = none) (ho : ops[i]? = some o) (hw : Region.wanted o (yielded ops a.tmps) = true) (hk : b.kind ≠ .early) (hr : (execOp a.eval o).run P w = .ok (.defer d) w') :
    stepG P main (G (b.atR a (.inRegion ops (i :: rest) :: k)) cs) w = .go (G (b.atR (({ a with defers := d :: a.defers } : Act).put o.dst undef) (.inRegion ops rest :: k)) cs) w' (listed P b.fn a o w) := by
  have hfin := finR b { a with defers := d :: a.defers } (rest := rest) (k := k) ho undef
  have hk' : (b.kind == CallKind.early) = false := by simpa using hk
  rw [stR_oper (.inl hb) ho hw, ← hfin]
  simp [stepG.apply, hr, G, Frame.atR, hk', GStep.after, listed]
theorem stR_recover (hb : b.roundOf = none) (ho : ops[i]? = some o) (hw : Region.wanted o (yielded ops a.tmps) = true) (hk : b.kind ≠ .early) (hr : (execOp a.eval o).run P w = .ok .recover w') :
    stepG P main (G (b.atR a (.inRegion ops (i :: rest) :: k)) cs) w = .go (match tryRecover (b.atR a (.inRegion ops (i :: rest) :: k)) cs with
      | some (v, cs') => G (b.atR (a.put o.dst v) (.inRegion ops rest :: k)) cs'
      | none => G (b.atR (a.put o.dst .nilIface) (.inRegion ops rest :: k)) cs) w' (listed P b.fn a o w) := by
  have hfin : ∀ v, (b.atR a (.inRegion ops (i :: rest) :: k)).finish v = b.atR (a.put o.dst v) (.inRegion ops rest :: k) := finR b a ho
  have hk' : (b.kind == CallKind.early) = false := by simpa using hk
  rw [stR_oper (.inl hb) ho hw]
  simp only [← hfin]
  generalize hf : (b.atR a (.inRegion ops (i :: rest) :: k)) = f
  have h1 : f.roundOf = none := by rw [← hf]; exact hb
  have h2 : f.fn = b.fn := by rw [← hf]; rfl
  have h3 : f.kind = b.kind := by rw [← hf]; rfl
  cases hx : tryRecover f cs with
  | none => simp [stepG.apply, hr, G, h1, h2, h3, hx, hk', GStep.after, listed]
  | some x => simp [stepG.apply, hr, G, h1, h2, h3, hx, hk', GStep.after, listed]
theorem stR_drawn {id : Nat} (hm : P.follows .mixedOrders = true) :
    ∃ d t, stepG P main (G (b.atR a (.code (.region id ops true) :: k)) cs) w = .go (G (b.atR a (.inRegion ops (Region.schedule true ops t) :: k)) cs) (drawnAt w d) := by
  have hq : wq P (fun _ => True) (fun _ _ => False) (choose (.order b.fn id)) (fun t w' => ∃ d, w' = drawnAt w d) w := by
    rw [wq_choose]
    split
    · exact ⟨w.drawn, rfl⟩
    · exact fun n => ⟨w.drawn + 1, rfl⟩
  have := (wq_run hq).1
  generalize hr : (choose (.order b.fn id)).run P w = r at this
  cases r with
  | ok t w' =>
    obtain ⟨d, rfl⟩ := this
    exact ⟨d, t, by simp [G, stepG, stepG.exec, Frame.atR, hr, hm]⟩
  | halt x w' => cases x <;> exact this.elim
end
end Go.Proofs.YtmnahfonnljobaaGreatDoor.SX
/-
  Where steps lead.
-/
set_option linter.unusedSectionVars false
set_option linter.unusedVariables false
set_option linter.unusedSimpArgs false
namespace Go.Proofs.YtmnahfonnljobaaGreatDoor.SX
open Go.Conc

/-- Where a piece of the run leads: to a configuration. -/
def Next (K : Ctx) (U : Nat → Prop) (ρ : Env) (cs : List Frame) (w : World) (h0 : AH) (c : ACfg) (g' : Goroutine) (w' : World) : Prop :=
  ∃ ρ', Agree U ρ ρ' ∧ Keeps K.own w w' ∧ Grows K U h0 c.h ∧ CIds K (plus U h0.nb c.h.nb) c ∧ Gam K ρ' c cs g' w'

def Leads (K : Ctx) (main : Bool) (c c' : ACfg) (N : Nat) : Prop := ∀ U ρ cs g w, CIds K U c → Gam K ρ c cs g w → Walk K.P main (DK K) (Next K U ρ cs w c.h c') N g w

/-- The lowest frame's function. -/
def bot : FuncId → List AFrame → FuncId
  | f, [] => f
  | _, fr :: l => bot fr.fn l

/-- The frame at its end. -/
def EndsAs (K : Ctx) (f : FuncId) (ρ : Env) (e : AE) (cs : List Frame) (g : Goroutine) (w : World) : Prop :=
  ∃ fr fn, g = G fr cs ∧ fr.fn = f ∧ fr.defers = [] ∧ K.P.funcs[fr.fn]? = some fn ∧ match e with
    | .returned v => fr.mode = .returning ∧ fr.kind = .normal ∧ ∀ d, ∀ {Q : Value → World → Prop}, Q (v.ev ρ) (drawnAt w d) → wq K.P K.Ev (fun _ _ => False) (results fn fr.tmps) Q (drawnAt w d)
    | .panicked chain => fr.mode = (AMode.panicking chain).ev ρ

def AE.In (U : Nat → Prop) : AE → Prop
  | .returned v => v.In U
  | .panicked chain => ∀ x ∈ chain, x.1.In U

def Done (K : Ctx) (f : FuncId) (U : Nat → Prop) (ρ : Env) (cs : List Frame) (w : World) (h0 : AH) (r : AE × AH) (g' : Goroutine) (w' : World) : Prop :=
  ∃ ρ', Agree U ρ ρ' ∧ Keeps K.own w w' ∧ Grows K U h0 r.2 ∧ r.1.In (plus U h0.nb r.2.nb) ∧ Rel K ρ' r.2 w' ∧ EndsAs K f ρ' r.1 cs g' w'

def Ends (K : Ctx) (main : Bool) (c : ACfg) (r : AE × AH) (N : Nat) : Prop := ∀ U ρ cs g w, CIds K U c → Gam K ρ c cs g w → Walk K.P main (DK K) (Done K (bot c.cur.fn c.callers) U ρ cs w c.h r) N g w

section
variable {K : Ctx} {main : Bool} {U : Nat → Prop} {ρ : Env} {cs : List Frame}

theorem CIds.congr {U U' : Nat → Prop} {c : ACfg} (I : CIds K U c) (h : ∀ n, U n ↔ U' n) : CIds K U' c :=
  ⟨I.cur.mono fun n => (h n).1, fun fr hf => (I.callers fr hf).mono fun n => (h n).1, I.ids.congr h⟩
theorem plus_same (U : Nat → Prop) (a : Nat) (n : Nat) : U n ↔ plus U a a n := ⟨.inl, plus_none n⟩

theorem AE.In.mono {U U' : Nat → Prop} (hs : ∀ n, U n → U' n) {e : AE} (h : e.In U) : e.In U' := by
  cases e with
  | returned v => exact AV.In.mono hs _ h
  | panicked c => exact fun x hx => AV.In.mono hs _ (h x hx)

theorem Next.trans {w w' w'' : World} {h0 : AH} {c c' : ACfg} {g'' : Goroutine} {ρ' : Env} (A : Agree U ρ ρ') (k : Keeps K.own w w') (gr : Grows K U h0 c.h)
    (n : Next K (plus U h0.nb c.h.nb) ρ' cs w' c.h c' g'' w'') : Next K U ρ cs w h0 c' g'' w'' := by
  obtain ⟨ρ'', a1, a2, a3, a4, a5⟩ := n
  exact ⟨ρ'', A.trans a1 plus_sub, k.trans a2, gr.trans a3, a4.congr fun n => plus_plus gr.nb a3.nb n, a5⟩

theorem Done.trans {w w' w'' : World} {h0 : AH} {f : FuncId} {c : ACfg} {r : AE × AH} {g'' : Goroutine} {ρ' : Env} (A : Agree U ρ ρ') (k : Keeps K.own w w') (gr : Grows K U h0 c.h)
    (n : Done K f (plus U h0.nb c.h.nb) ρ' cs w' c.h r g'' w'') : Done K f U ρ cs w h0 r g'' w'' := by
  obtain ⟨ρ'', a1, a2, a3, a4, a5, a6⟩ := n
  exact ⟨ρ'', A.trans a1 plus_sub, k.trans a2, gr.trans a3, a4.mono fun n => (plus_plus gr.nb a3.nb n).1, a5, a6⟩

theorem Leads.trans {c c' c'' : ACfg} {N M : Nat} (l : Leads K main c c' N) (l' : Leads K main c' c'' M) : Leads K main c c'' (N + M) := fun U ρ cs g w I Γ =>
  Walk.trans (fun g' w' ⟨ρ', a1, a2, a3, a4, a5⟩ => (l' _ ρ' cs g' w' a4 a5).weaken fun _ _ n => Next.trans a1 a2 a3 n) (l U ρ cs g w I Γ)

theorem Leads.ends {c c' : ACfg} {r : AE × AH} {N M : Nat} (hb : bot c'.cur.fn c'.callers = bot c.cur.fn c.callers) (l : Leads K main c c' N) (l' : Ends K main c' r M) : Ends K main c r (N + M) := fun U ρ cs g w I Γ =>
  Walk.trans (fun g' w' ⟨ρ', a1, a2, a3, a4, a5⟩ => (l' _ ρ' cs g' w' a4 a5).weaken fun _ _ n => by rw [hb] at n; exact Done.trans a1 a2 a3 n) (l U ρ cs g w I Γ)

theorem keeps_drawn (own : Nat → Prop) (w : World) (d : Nat) : Keeps own w (drawnAt w d) := ⟨fun _ _ => rfl, Nat.le_refl _, rfl, rfl, rfl⟩
theorem Rel.drawn {h : AH} {w : World} (R : Rel K ρ h w) (d : Nat) : Rel K ρ h (drawnAt w d) := R.at rfl
theorem Gam.drawn {c : ACfg} {g : Goroutine} {w : World} (h : Gam K ρ c cs g w) (d : Nat) : Gam K ρ c cs g (drawnAt w d) := ⟨h.1.drawn d, h.2⟩
theorem Gam.running {c : ACfg} {g : Goroutine} {w : World} (h : Gam K ρ c cs g w) : g.status = .running := by
  obtain ⟨_, fr, frs, _, _, rfl⟩ := h; rfl

theorem leads_go {c c' : ACfg} (hh : c'.h = c.h) (hin : ∀ U, CIds K U c → CIds K U c') (hs : ∀ ρ cs g w, Gam K ρ c cs g w → ∃ g', stepG K.P main g w = .go g' w #[] ∧ Gam K ρ c' cs g' w) :
    Leads K main c c' 1 := fun U ρ cs g w I Γ => Walk.one Γ.running fun d => by
  obtain ⟨g', e, Γ'⟩ := hs ρ cs g _ (Γ.drawn d)
  rw [e]
  refine ⟨⟨Keeps.refl _ _, fun e he => (by simp at he), fun _ _ _ _ x => x⟩, ρ, Agree.refl _ _, keeps_drawn _ _ _, ?_, ?_, Γ'⟩
  · rw [hh]; exact Grows.refl I.ids
  · rw [hh]; exact (hin U I).congr (plus_same U _)

section frame
variable {fn : FuncId} {nt : Nat} {tmps : TT} {todo todo' : List Item} {defers : List AD} {kind : CallKind} {callers : List AFrame} {h : AH}

theorem gam_run {g : Goroutine} {w : World} : Gam K ρ ⟨⟨fn, nt, tmps, todo, defers, .run, kind⟩, callers, h⟩ cs g w ↔
    Rel K ρ h w ∧ ∃ tm frs, TmpR ρ nt tmps tm ∧ (plainK kind ∨ kind = .wrapped) ∧ (∃ f, K.P.funcs[fn]? = some f) ∧ FrRels K.P ρ callers frs ∧ g = G ((bB ρ fn kind).atR (aB ρ kind tm defers) todo) (frs ++ cs) := by
  constructor
  · rintro ⟨R, fr, frs, ⟨tm, td, i, rfl⟩, hc, rfl⟩
    have : td = todo := i.todo rfl
    subst this
    exact ⟨R, tm, frs, i.tmps, i.kind, i.fn, hc, rfl⟩
  · rintro ⟨R, tm, frs, h1, h2, h3, hc, rfl⟩
    exact ⟨R, _, frs, ⟨tm, todo, ⟨h1, h2, fun _ => rfl, h3⟩, rfl⟩, hc, rfl⟩

theorem leads_to (hs : ∀ ρ tm w cs, Rel K ρ h w → TmpR ρ nt tmps tm → ∀ (b : Frame) (ds : List Deferred), stepG K.P main (G (b.atR ⟨tm, ds⟩ todo) cs) w = .go (G (b.atR ⟨tm, ds⟩ todo') cs) w #[]) :
    Leads K main ⟨⟨fn, nt, tmps, todo, defers, .run, kind⟩, callers, h⟩ ⟨⟨fn, nt, tmps, todo', defers, .run, kind⟩, callers, h⟩ 1 :=
  leads_go rfl (fun U I => ⟨⟨I.cur.tmps, I.cur.defers, trivial⟩, I.callers, I.ids⟩) fun ρ cs g w Γ => by
    obtain ⟨R, tm, frs, h1, h2, h3, hc, rfl⟩ := gam_run.1 Γ
    exact ⟨_, hs ρ tm w _ R h1 _ _, gam_run.2 ⟨R, tm, frs, h1, h2, h3, hc, rfl⟩⟩

theorem leads_ret (ht : tagged kind = false) (hs : ∀ (b : Frame) (a : Act) w cs, b.roundOf = none → stepG K.P main (G (b.atR a todo) cs) w = .go (G { b.atR a todo with mode := .returning } cs) w #[]) :
    Leads K main ⟨⟨fn, nt, tmps, todo, defers, .run, kind⟩, callers, h⟩ ⟨⟨fn, nt, tmps, todo', defers, .returning, kind⟩, callers, h⟩ 1 :=
  leads_go rfl (fun U I => ⟨⟨I.cur.tmps, I.cur.defers, trivial⟩, I.callers, I.ids⟩) fun ρ cs g w Γ => by
    obtain ⟨R, tm, frs, h1, h2, h3, hc, rfl⟩ := gam_run.1 Γ
    exact ⟨_, hs _ _ w _ (plain_round (plain_of h2 ht) ρ fn), R, _, frs, ⟨tm, todo, ⟨h1, h2, (fun x => by cases x), h3⟩, rfl⟩, hc, rfl⟩

/-- An operation that is not wanted. -/
theorem leads_unwanted {ops : Array Oper} {i : Nat} {rest : List Nat} {k : List Item} {o : Oper} (ho : ops[i]? = some o) (hw : wantedA K.O ops tmps o = .ok false) :
    Leads K main ⟨⟨fn, nt, tmps, .inRegion ops (i :: rest) :: k, defers, .run, kind⟩, callers, h⟩ ⟨⟨fn, nt, putA nt tmps o.dst undefA, .inRegion ops rest :: k, defers, .run, kind⟩, callers, h⟩ 1 := fun U ρ cs g w I Γ => by
  have hnt : nt ≤ 60000 := by obtain ⟨R, tm, frs, h1, _⟩ := gam_run.1 Γ; exact h1.le
  have hin : ∀ U, CIds K U ⟨⟨fn, nt, tmps, .inRegion ops (i :: rest) :: k, defers, .run, kind⟩, callers, h⟩ → CIds K U ⟨⟨fn, nt, putA nt tmps o.dst undefA, .inRegion ops rest :: k, defers, .run, kind⟩, callers, h⟩ := fun U I =>
    ⟨⟨putA_in I.cur.tmps (by simp [undefA, AV.In, AV.Ins]) hnt, I.cur.defers, trivial⟩, I.callers, I.ids⟩
  have L : Leads K main ⟨⟨fn, nt, tmps, .inRegion ops (i :: rest) :: k, defers, .run, kind⟩, callers, h⟩ ⟨⟨fn, nt, putA nt tmps o.dst undefA, .inRegion ops rest :: k, defers, .run, kind⟩, callers, h⟩ 1 := by
    refine leads_go rfl hin ?_
    intro ρ cs g w Γ
    obtain ⟨R, tm, frs, h1, h2, h3, hc, rfl⟩ := gam_run.1 Γ
    obtain ⟨tm', e, h1'⟩ := put_tmps (v := undefA) h1 (dB ρ kind (defers.map (AD.ev ρ))) o.dst
    refine ⟨_, stR_unwanted ho (wantedA_ok R h1 hw), gam_run.2 ⟨R, tm', frs, h1', h2, h3, hc, ?_⟩⟩
    show G ((bB ρ fn kind).atR (Act.put ⟨tm, dB ρ kind (defers.map (AD.ev ρ))⟩ o.dst (undefA.ev ρ)) _) _ = _
    rw [e]; rfl
  exact L U ρ cs g w I Γ
end frame

/-! ### Operations -/
section op
variable {P : Program} {b : Frame} {a : Act} {k : List Item} {w : World} {ops : Array Oper} {i : Nat} {rest : List Nat} {o : Oper} {w' : World}

theorem stepG_defer {d : Deferred} (ho : ops[i]? = some o) (hw : Region.wanted o (yielded ops a.tmps) = true) (hk : b.kind ≠ .early) (hr : (execOp a.eval o).run P w = .ok (.defer d) w') :
    stepG P main (G (b.at a (.inRegion ops (i :: rest) :: k)) cs) w = .go (G (b.at (({ a with defers := d :: a.defers } : Act).put o.dst undef) (.inRegion ops rest :: k)) cs) w' (listed P b.fn a o w) := by
  have hfin : (b.at { a with defers := d :: a.defers } (.inRegion ops (i :: rest) :: k)).finish undef = b.at (({ a with defers := d :: a.defers } : Act).put o.dst undef) (.inRegion ops rest :: k) := by rw [Frame.finish_at, ho]; rfl
  have hk' : (b.kind == CallKind.early) = false := by simpa using hk
  rw [stepG_oper ho hw, ← hfin]
  simp [stepG.apply, hr, G, Frame.at, hk', GStep.after, listed]

theorem stepG_panic {v : Value} (ho : ops[i]? = some o) (hw : Region.wanted o (yielded ops a.tmps) = true) (hk : b.kind ≠ .early) (hr : (execOp a.eval o).run P w = .halt (.panic v) w') :
    stepG P main (G (b.at a (.inRegion ops (i :: rest) :: k)) cs) w = .go (G ((b.at a (.inRegion ops (i :: rest) :: k)).raise [{ v, recovered := false }]) cs) w' (listed P b.fn a o w) := by
  have hk' : (b.kind == CallKind.early) = false := by simpa using hk
  rw [stepG_oper ho hw]
  simp [stepG.apply, hr, G, Frame.at, hk', GStep.after, listed]

theorem stepG_recover (ho : ops[i]? = some o) (hw : Region.wanted o (yielded ops a.tmps) = true) (hk : b.kind ≠ .early) (hr : (execOp a.eval o).run P w = .ok .recover w') :
    stepG P main (G (b.at a (.inRegion ops (i :: rest) :: k)) cs) w = .go (match tryRecover (b.at a (.inRegion ops (i :: rest) :: k)) cs with
      | some (v, cs') => G (b.at (a.put o.dst v) (.inRegion ops rest :: k)) cs'
      | none => G (b.at (a.put o.dst .nilIface) (.inRegion ops rest :: k)) cs) w' (listed P b.fn a o w) := by
  have hfin : ∀ v, (b.at a (.inRegion ops (i :: rest) :: k)).finish v = b.at (a.put o.dst v) (.inRegion ops rest :: k) := fun v => by rw [Frame.finish_at, ho]; rfl
  have hk' : (b.kind == CallKind.early) = false := by simpa using hk
  rw [stepG_oper ho hw]
  simp only [← hfin]
  generalize hf : (b.at a (.inRegion ops (i :: rest) :: k)) = f
  have h1 : f.roundOf = none := by rw [← hf]; rfl
  have h2 : f.fn = b.fn := by rw [← hf]; rfl
  have h3 : f.kind = b.kind := by rw [← hf]; rfl
  cases hx : tryRecover f cs with
  | none => simp [stepG.apply, hr, G, h1, h2, h3, hx, hk', GStep.after, listed]
  | some x => simp [stepG.apply, hr, G, h1, h2, h3, hx, hk', GStep.after, listed]
end op

theorem op?_defer {P : Program} {O : Orc} {ext : Ext} {h h' : AH} {f : Operand → AV} {o : Oper} {n : AN} {c : Call} (he : op? P O ext h f o = .ok (n, h')) (hc : o.op = .defer c) : ∃ d, n = .defer d := by
  unfold op? at he
  rw [hc] at he
  dsimp only at he
  split at he
  · cases he; exact ⟨_, rfl⟩
  · cases he

/-- The goroutine behind an operation. -/
def NextG (P : Program) (ρ : Env) (b : Frame) (a : Act) (dst : Option Tmp) (ops : Array Oper) (i : Nat) (rest : List Nat) (k : List Item) (cs : List Frame) : AN → Goroutine → Prop
  | .value v, g => g = G (b.atR (a.put dst (v.ev ρ)) (.inRegion ops rest :: k)) cs
  | .skip, g => g = G (b.atR (a.put dst undef) (.inRegion ops rest :: k)) cs
  | .enter f args, g => g = G (Frame.enter P f (AV.evs ρ args).toArray .normal) (b.atR a (.inRegion ops (i :: rest) :: k) :: cs)
  | .defer d, g => g = G (b.atR (({ a with defers := d.ev ρ :: a.defers } : Act).put dst undef) (.inRegion ops rest :: k)) cs
  | .recover, g => g = match tryRecover (b.atR a (.inRegion ops (i :: rest) :: k)) cs with
      | some (v, cs') => G (b.atR (a.put dst v) (.inRegion ops rest :: k)) cs'
      | none => G (b.atR (a.put dst .nilIface) (.inRegion ops rest :: k)) cs
  | .panic v, g => g = G ((b.atR a (.inRegion ops (i :: rest) :: k)).raise [{ v := v.ev ρ, recovered := false }]) cs

def OpPost (K : Ctx) (U : Nat → Prop) (ρ : Env) (cs : List Frame) (w : World) (fn : FuncId) (nt : Nat) (tmps : TT) (defers : List AD) (kind : CallKind) (callers : List AFrame) (h : AH) (dst : Option Tmp) (ops : Array Oper) (i : Nat) (rest : List Nat) (k : List Item)
    (n : AN) (h' : AH) (g' : Goroutine) (w' : World) : Prop :=
  ∃ ρ', Agree U ρ ρ' ∧ Keeps K.own w w' ∧ Rel K ρ' h' w' ∧ Grows K U h h' ∧ n.In (plus U h.nb h'.nb) ∧ ∃ tm frs, TmpR ρ' nt tmps tm ∧ (plainK kind ∨ kind = .wrapped) ∧ (∃ f, K.P.funcs[fn]? = some f) ∧ FrRels K.P ρ' callers frs ∧
    NextG K.P ρ' (bB ρ' fn kind) (aB ρ' kind tm defers) dst ops i rest k (frs ++ cs) n g'

theorem op_step (Gd : K.Good) (F : K.Facts) {ext : Ext} (X : ExtOk K ext) {fn : FuncId} {nt : Nat} {tmps : TT} {defers : List AD} {kind : CallKind} {callers : List AFrame} {h : AH} {ops : Array Oper} {i : Nat} {rest : List Nat} {k : List Item} {o : Oper} {n : AN} {h' : AH}
    (ho : ops[i]? = some o) (hw : wantedA K.O ops tmps o = .ok true) (he : op? K.P K.O ext h (evalA tmps) o = .ok (n, h')) (htag : tagOk kind n = true) {g : Goroutine} {w : World}
    (I : CIds K U ⟨⟨fn, nt, tmps, .inRegion ops (i :: rest) :: k, defers, .run, kind⟩, callers, h⟩) (Γ : Gam K ρ ⟨⟨fn, nt, tmps, .inRegion ops (i :: rest) :: k, defers, .run, kind⟩, callers, h⟩ cs g w) :
    Walk K.P main (DK K) (OpPost K U ρ cs w fn nt tmps defers kind callers h o.dst ops i rest k n h') 1 g w := Walk.one Γ.running fun d => by
  obtain ⟨R, tm, frs, h1, h2, h3, hc, rfl⟩ := gam_run.1 (Γ.drawn d)
  have N := op?_ok Gd F X R I.ids (evalA_in I.cur.tmps) he
  have hev : (aB ρ kind tm defers).eval = fun x => (evalA tmps x).ev ρ := funext fun x => evalA_ev h1 _ x
  have hwt : Region.wanted o (yielded ops (aB ρ kind tm defers).tmps) = true := wantedA_ok R h1 hw
  have hke := bB_kind h2 ρ fn
  have hfree : FreeOp (bB ρ fn kind) o := by
    cases ht : tagged kind with
    | false => exact .inl (plain_round (plain_of h2 ht) ρ fn)
    | true =>
      refine .inr fun c hc => ?_
      obtain ⟨d, rfl⟩ := op?_defer he hc
      unfold tagOk at htag
      rw [ht] at htag
      cases htag
  have hround : tagged kind = false → (bB ρ fn kind).roundOf = none := fun ht => plain_round (plain_of h2 ht) ρ fn
  have htd : ∀ {d : AD}, n = .defer d → tagged kind = false := fun e => by
    subst e
    cases ht : tagged kind with
    | false => rfl
    | true => unfold tagOk at htag; rw [ht] at htag; cases htag
  have htr : n = .recover → tagged kind = false := fun e => by
    subst e
    cases ht : tagged kind with
    | false => rfl
    | true => unfold tagOk at htag; rw [ht] at htag; cases htag
  have run := wq_run (wq_keep Gd.noWr _ (N.run (E := fun v w' => ∃ v', n = .panic v' ∧ h' = h ∧ v = v'.ev ρ ∧ w' = drawnAt w d) (Q := fun nx w' => After K U ρ (drawnAt w d) h' (fun ρ' => n.is ρ' nx) w') (fun nx w' x => x) (fun v hn hh => ⟨v, hn, hh, rfl, rfl⟩)))
  rw [← hev] at run
  obtain ⟨run, hes⟩ := run
  have hes' : ∀ e ∈ listed K.P (bB ρ fn kind).fn (aB ρ kind tm defers) o (drawnAt w d), K.Ev e := fun e he => hes e (mem_listed he)
  have post : ∀ {ρ' : Env} {w' : World} {g' : Goroutine}, Agree U ρ ρ' → Rel K ρ' h' w' → Keeps K.own (drawnAt w d) w' →
      NextG K.P ρ' (bB ρ fn kind) (aB ρ kind tm defers) o.dst ops i rest k (frs ++ cs) n g' →
      OpPost K U ρ cs w fn nt tmps defers kind callers h o.dst ops i rest k n h' g' w' := fun A R' k x =>
    ⟨_, A, (keeps_drawn _ w d).trans k, R', N.grows, N.mem, tm, frs, h1.agree A I.cur.tmps, h2, h3, callers_agree A hc I.callers, by rw [bB_agree A, aB_agree A kind tm I.cur.defers]; exact x⟩
  generalize hr : (execOp (aB ρ kind tm defers).eval o).run K.P (drawnAt w d) = r at run
  cases r with
  | ok nx w' =>
    obtain ⟨⟨ρ', A, R', kp, is⟩, hst⟩ := run
    cases n with
    | value v =>
      have is' : nx = .value (v.ev ρ') := is
      subst is'
      rw [stR_value hfree ho hwt hke hr]
      exact ⟨⟨kp, hes', hst⟩, post A R' kp rfl⟩
    | skip =>
      have is' : nx = .skip := is
      subst is'
      rw [stR_none hfree ho hwt hke hr]
      exact ⟨⟨kp, hes', hst⟩, post A R' kp rfl⟩
    | enter f args =>
      have is' : nx = .enter f (AV.evs ρ' args).toArray := is
      subst is'
      rw [stR_enter hfree ho hwt hke hr]
      exact ⟨⟨kp, hes', hst⟩, post A R' kp rfl⟩
    | defer x =>
      have is' : nx = .defer (x.ev ρ') := is
      subst is'
      rw [stR_defer (hround (htd rfl)) ho hwt hke hr]
      exact ⟨⟨kp, hes', hst⟩, post A R' kp rfl⟩
    | recover =>
      have is' : nx = .recover := is
      subst is'
      rw [stR_recover (hround (htr rfl)) ho hwt hke hr]
      exact ⟨⟨kp, hes', hst⟩, post A R' kp rfl⟩
    | panic v => exact is.elim
  | halt x w' =>
    cases x with
    | panic v =>
      obtain ⟨v', rfl, rfl, rfl, rfl⟩ := run
      rw [stR_panic hfree ho hwt hke hr]
      exact ⟨⟨Keeps.refl _ _, hes', fun _ _ _ _ x => x⟩, post (Agree.refl _ _) R (Keeps.refl _ _) rfl⟩
    | _ => exact run.elim

end
end Go.Proofs.YtmnahfonnljobaaGreatDoor.SX
/-
  The steps of a frame that runs.
-/
set_option linter.unusedSectionVars false
set_option linter.unusedVariables false
set_option linter.unusedSimpArgs false
namespace Go.Proofs.YtmnahfonnljobaaGreatDoor.SX
open Go.Conc

section
variable {K : Ctx} {main : Bool} {U : Nat → Prop} {ρ : Env} {cs : List Frame}
variable {fn : FuncId} {nt : Nat} {tmps : TT} {todo todo' : List Item} {defers : List AD} {kind : CallKind} {callers : List AFrame} {h : AH}
variable {ops : Array Oper} {i : Nat} {rest : List Nat} {k : List Item} {o : Oper}

theorem finishA_ok {fr : AFrame} {v : AV} {fr' : AFrame} (hf : finishA fr v = .ok fr') : ∃ fn nt tmps ops i rest k defers kind, fr = ⟨fn, nt, tmps, .inRegion ops (i :: rest) :: k, defers, .run, kind⟩ ∧
    fr' = ⟨fn, nt, putA nt tmps ((ops[i]?).bind (·.dst)) v, .inRegion ops rest :: k, defers, .run, kind⟩ := by
  unfold finishA at hf
  split at hf
  · cases hf; exact ⟨_, _, _, _, _, _, _, _, _, rfl, rfl⟩
  · cases hf

theorem undefA_in : undefA.In U := by simp [undefA, AV.In, AV.Ins]
theorem undefA_ev : undefA.ev ρ = undef := rfl

theorem tag_v {k : CallKind} {v : AV} : tagOk k (.value v) = true := by unfold tagOk; cases tagged k <;> rfl
theorem tag_s {k : CallKind} : tagOk k .skip = true := by unfold tagOk; cases tagged k <;> rfl
theorem tag_e {k : CallKind} {f : FuncId} {args : List AV} : tagOk k (.enter f args) = true := by unfold tagOk; cases tagged k <;> rfl
theorem tag_p {k : CallKind} {v : AV} : tagOk k (.panic v) = true := by unfold tagOk; cases tagged k <;> rfl
theorem aB_cons {ρ : Env} {k : CallKind} {tm : Array Value} {d : AD} {ds : List AD} : aB ρ k tm (d :: ds) = { aB ρ k tm ds with defers := d.ev ρ :: (aB ρ k tm ds).defers } := by
  unfold aB; rw [List.map_cons, dB_cons]

/-- A yield that goes to its place. -/
theorem next_put {w w' : World} {h' : AH} {ρ' : Env} {v : AV} {tm : Array Value} {frs : List Frame} {ds : List AD} {callers' : List AFrame} {dst : Option Tmp}
    (A : Agree U ρ ρ') (kp : Keeps K.own w w') (R : Rel K ρ' h' w') (gr : Grows K U h h') (hv : v.In (plus U h.nb h'.nb)) (ht : tmps.In U) (hd : ∀ d ∈ ds, d.In (plus U h.nb h'.nb)) (hcal : ∀ fr ∈ callers', fr.In (plus U h.nb h'.nb))
    (h1 : TmpR ρ' nt tmps tm) (h2 : plainK kind ∨ kind = .wrapped) (h3 : ∃ f, K.P.funcs[fn]? = some f) (hc : FrRels K.P ρ' callers' frs) :
    Next K U ρ cs w h ⟨⟨fn, nt, putA nt tmps dst v, .inRegion ops rest :: k, ds, .run, kind⟩, callers', h'⟩ (G ((bB ρ' fn kind).atR ((aB ρ' kind tm ds).put dst (v.ev ρ')) (.inRegion ops rest :: k)) (frs ++ cs)) w' := by
  obtain ⟨tm', e, h1'⟩ := put_tmps (v := v) h1 (dB ρ' kind (ds.map (AD.ev ρ'))) dst
  refine ⟨ρ', A, kp, gr, ⟨⟨putA_in (TT.In.mono plus_sub ht) hv h1.le, hd, trivial⟩, hcal, gr.ids⟩, gam_run.2 ⟨R, tm', frs, h1', h2, h3, hc, ?_⟩⟩
  show G ((bB ρ' fn kind).atR (Act.put ⟨tm, dB ρ' kind (ds.map (AD.ev ρ'))⟩ dst (v.ev ρ')) _) _ = _
  rw [e]; rfl

def RecIs (P : Program) (U : Nat → Prop) (ρ : Env) (cs : List Frame) (fr : Frame) (frs : List Frame) : Option (AV × List AFrame) → Prop
  | some (v, callers') => v.In U ∧ (∀ fr ∈ callers', fr.In U) ∧ ∃ frs', tryRecover fr (frs ++ cs) = some (v.ev ρ, frs' ++ cs) ∧ FrRels P ρ callers' frs'
  | none => tryRecover fr (frs ++ cs) = none

theorem tryRecover_ok {P : Program} {fr : Frame} {frs : List Frame} {r : Option (AV × List AFrame)} (hk : fr.kind = kind) (hr : recoverA kind callers = .ok r) (hc : FrRels P ρ callers frs) (hcal : ∀ fr ∈ callers, fr.In U) :
    RecIs P U ρ cs fr frs r := by
  cases kind with
  | normal =>
    cases hr
    show tryRecover _ _ = none
    simp [tryRecover, hk]
  | deferred =>
    cases callers with
    | nil => cases hr
    | cons c tail =>
      obtain ⟨fn, nt, tmps, todo, defers, mode, kd⟩ := c
      cases frs with
      | nil => simp only [FrRels] at hc
      | cons f frs =>
        simp only [FrRels] at hc
        obtain ⟨⟨tm, td', is, rfl⟩, hc2⟩ := hc
        have other : r = none → (match mode.ev ρ with | .panicking ({ v, recovered := false, goexit := false } :: older) => False | _ => True) → RecIs P U ρ cs fr (frameOf ρ ⟨fn, nt, tmps, todo, defers, mode, kd⟩ tm td' :: frs) r := by
          intro h1 h2
          subst h1
          show tryRecover _ _ = none
          simp only [tryRecover, hk, List.cons_append]
          have : (frameOf ρ ⟨fn, nt, tmps, todo, defers, mode, kd⟩ tm td').mode = mode.ev ρ := rfl
          rw [this]
          revert h2
          generalize mode.ev ρ = m
          split
          · exact False.elim
          · rename_i hne
            intro _
            split
            · rename_i v older; exact absurd rfl (hne v older)
            · rfl
        cases mode with
        | run => cases hr; exact other rfl trivial
        | returning => cases hr; exact other rfl trivial
        | panicking chain =>
          cases chain with
          | nil => cases hr; exact other rfl trivial
          | cons x older =>
            obtain ⟨v, b'⟩ := x
            cases b' with
            | true => cases hr; exact other rfl trivial
            | false =>
              cases hr
              have hin := hcal _ (List.mem_cons_self ..)
              have hm : ∀ x ∈ (v, false) :: older, x.1.In U := hin.mode
              refine ⟨hm _ (List.mem_cons_self ..), ?_, { frameOf ρ ⟨fn, nt, tmps, todo, defers, .panicking ((v, true) :: older), kd⟩ tm td' with mode := (AMode.panicking ((v, true) :: older)).ev ρ } :: frs, ?_, ⟨tm, td', ⟨is.tmps, is.kind, (fun x => by cases x), is.fn⟩, rfl⟩, hc2⟩
              · intro fr hfr
                rcases List.mem_cons.1 hfr with rfl | hfr
                · refine ⟨hin.tmps, hin.defers, ?_⟩
                  intro x hx
                  rcases List.mem_cons.1 hx with rfl | hx
                  · exact hm (v, false) (List.mem_cons_self ..)
                  · exact hm x (List.mem_cons_of_mem _ hx)
                · exact hcal fr (List.mem_cons_of_mem _ hfr)
              · simp only [tryRecover, hk, List.cons_append, frameOf, AMode.ev, List.map_cons]
  | _ => cases hr

theorem upon_next {n : AN} {h' : AH} {c' : ACfg} {w w' : World} {g' : Goroutine} (hu : upon K.P ⟨fn, nt, tmps, .inRegion ops (i :: rest) :: k, defers, .run, kind⟩ callers n h' = .ok c') (ho : ops[i]? = some o)
    (I : CIds K U ⟨⟨fn, nt, tmps, .inRegion ops (i :: rest) :: k, defers, .run, kind⟩, callers, h⟩) (post : OpPost K U ρ cs w fn nt tmps defers kind callers h o.dst ops i rest k n h' g' w') : Next K U ρ cs w h c' g' w' := by
  obtain ⟨ρ', A, kp, R, gr, mem, tm, frs, h1, h2, h3, hc, ng⟩ := post
  have hd : ∀ d ∈ defers, d.In (plus U h.nb h'.nb) := fun d hd => (I.cur.defers d hd).mono plus_sub
  have hcal : ∀ fr ∈ callers, fr.In (plus U h.nb h'.nb) := fun fr hf => (I.callers fr hf).mono plus_sub
  cases n with
  | value v =>
    simp only [upon, finishA, ho] at hu
    cases hu
    have ng' : g' = _ := ng
    rw [ng']
    exact next_put A kp R gr mem I.cur.tmps hd hcal h1 h2 h3 hc
  | skip =>
    simp only [upon, finishA, ho] at hu
    cases hu
    have ng' : g' = _ := ng
    rw [ng']
    exact next_put (v := undefA) A kp R gr undefA_in I.cur.tmps hd hcal h1 h2 h3 hc
  | defer d =>
    simp only [upon, finishA, ho] at hu
    cases hu
    have ng' : g' = _ := ng
    rw [ng']
    rw [← aB_cons]
    refine next_put (v := undefA) (ds := d :: defers) A kp R gr undefA_in I.cur.tmps ?_ hcal h1 h2 h3 hc
    intro x hx
    rcases List.mem_cons.1 hx with rfl | hx
    · exact mem
    · exact hd x hx
  | enter f args =>
    simp only [upon] at hu
    split at hu
    · rename_i fr' he
      cases hu
      have ng' : g' = _ := ng
      rw [ng']
      obtain ⟨e1, e2, e3, e4, e5⟩ := enterA_ok he (.inl rfl) mem (ρ := ρ')
      refine ⟨ρ', A, kp, gr, ⟨e2, ?_, gr.ids⟩, R, _, (bB ρ' fn kind).atR (aB ρ' kind tm defers) (.inRegion ops (i :: rest) :: k) :: frs, e1, ⟨⟨tm, _, ⟨h1, h2, fun _ => rfl, h3⟩, rfl⟩, hc⟩, rfl⟩
      intro fr hfr
      rcases List.mem_cons.1 hfr with rfl | hfr
      · exact I.cur.mono plus_sub
      · exact hcal fr hfr
    · cases hu
  | recover =>
    simp only [upon, finishA, ho] at hu
    have ng' : g' = _ := ng
    rw [ng']
    split at hu
    · cases hu
    · rename_i v callers' hr
      cases hu
      have hpk : plainK kind := by
        rcases h2 with h2 | rfl
        · exact h2
        · cases hr
      obtain ⟨t1, t2, frs', t3, t4⟩ := tryRecover_ok (cs := cs) (fr := (bB ρ' fn kind).atR (aB ρ' kind tm defers) (.inRegion ops (i :: rest) :: k)) (by rw [plain_bB hpk]; rfl) hr hc hcal
      rw [t3]
      exact next_put A kp R gr t1 I.cur.tmps hd t2 h1 h2 h3 t4
    · rename_i hr
      cases hu
      have hpk : plainK kind := by
        rcases h2 with h2 | rfl
        · exact h2
        · cases hr
      have t3 := tryRecover_ok (cs := cs) (fr := (bB ρ' fn kind).atR (aB ρ' kind tm defers) (.inRegion ops (i :: rest) :: k)) (by rw [plain_bB hpk]; rfl) hr hc hcal
      simp only [RecIs] at t3
      rw [t3]
      exact next_put (v := .nilIface) A kp R gr trivial I.cur.tmps hd hcal h1 h2 h3 hc
  | panic v =>
    simp only [upon, raiseA] at hu
    cases hu
    have ng' : g' = _ := ng
    rw [ng']
    refine ⟨ρ', A, kp, gr, ⟨⟨TT.In.mono plus_sub I.cur.tmps, hd, ?_⟩, hcal, gr.ids⟩, R, _, frs, ⟨tm, _, ⟨h1, h2, (fun x => by cases x), h3⟩, rfl⟩, hc, rfl⟩
    intro x hx
    simp only [List.mem_singleton] at hx
    subst hx
    exact mem
end

/-- What a sub-run is asked. -/
def CallOk (K : Ctx) (main : Bool) (call : FuncId → List AV → AH → M (AE × AH)) : Prop :=
  ∀ f args h r, call f args h = .ok r → ∃ fr N, enterA K.P f args .normal = .ok fr ∧ Ends K main ⟨fr, [], h⟩ r N

section
variable {K : Ctx} {main : Bool} {U : Nat → Prop} {ρ : Env} {cs : List Frame}
variable {fn : FuncId} {nt : Nat} {tmps : TT} {todo todo' : List Item} {defers : List AD} {kind : CallKind} {callers : List AFrame} {h : AH}
variable {ops : Array Oper} {i : Nat} {rest : List Nat} {k : List Item} {o : Oper}

/-- The step that hands back what a call has come to. -/
theorem leave_step {f : FuncId} {ρ : Env} {v : AV} {caller : Frame} {g : Goroutine} {w : World} (E : EndsAs K f ρ (.returned v) (caller :: cs) g w) : Walk K.P main (DK K) (fun g' w' => (∃ d, w' = drawnAt w d) ∧ g' = G (caller.finish (v.ev ρ)) cs) 1 g w := by
  obtain ⟨fr, fnn, rfl, _, hd, hf, hm, hk, hq⟩ := E
  refine Walk.one rfl fun d => ?_
  have hrun := wq_run (hq d (Q := fun x w' => x = v.ev ρ ∧ w' = drawnAt w d) ⟨rfl, rfl⟩)
  obtain ⟨hrun, hes⟩ := hrun
  generalize hr : (results fnn fr.tmps).run K.P (drawnAt w d) = r at hrun
  cases r with
  | ok x w' =>
    obtain ⟨rfl, rfl⟩ := hrun
    have : stepG K.P main (G fr (caller :: cs)) (drawnAt w d) = .go (G (caller.finish (v.ev ρ)) cs) (drawnAt w d) (seen K.P fr.fn ((results fnn fr.tmps).events K.P (drawnAt w d) #[])) := by
      simp [G, stepG, unwind, doReturn, hm, hd, hf, hr, hk, GStep.after]
    rw [this]
    exact ⟨⟨Keeps.refl _ _, fun e he => hes e (mem_seen he), fun _ _ _ _ x => x⟩, ⟨d, rfl⟩, rfl⟩
  | halt x w' => cases x <;> exact hrun.elim

theorem raise_step {f : FuncId} {ρ : Env} {chain : List (AV × Bool)} {caller : Frame} {g : Goroutine} {w : World} (E : EndsAs K f ρ (.panicked chain) (caller :: cs) g w) :
    Walk K.P main (DK K) (fun g' w' => (∃ d, w' = drawnAt w d) ∧ g' = G (caller.raise (chain.map fun x => { v := x.1.ev ρ, recovered := x.2 })) cs) 1 g w := by
  obtain ⟨fr, fnn, rfl, _, hd, hf, hm⟩ := E
  refine Walk.one rfl fun d => ?_
  have hm' : fr.mode = .panicking (chain.map fun x => { v := x.1.ev ρ, recovered := x.2 }) := hm
  have : stepG K.P main (G fr (caller :: cs)) (drawnAt w d) = .go (G (caller.raise (chain.map fun x => { v := x.1.ev ρ, recovered := x.2 })) cs) (drawnAt w d) #[] := by
    simp [G, stepG, unwind, hm', hd, hf, Frame.catches]
  rw [this]
  exact ⟨⟨Keeps.refl _ _, fun e he => (by simp at he), fun _ _ _ _ x => x⟩, ⟨d, rfl⟩, rfl⟩

/-- What one operation, in full, comes to. -/
def ARNext (K : Ctx) (U : Nat → Prop) (ρ : Env) (cs : List Frame) (w : World) (h0 : AH) (fn : FuncId) (nt : Nat) (todo : List Item) (defers : List AD) (kind : CallKind) (callers : List AFrame) : AR → Goroutine → World → Prop
  | .on t h, g', w' => Next K U ρ cs w h0 ⟨⟨fn, nt, t, todo, defers, .run, kind⟩, callers, h⟩ g' w'
  | .panic t chain h, g', w' => ∀ td, Next K U ρ cs w h0 ⟨⟨fn, nt, t, td, defers, .panicking chain, kind⟩, callers, h⟩ g' w'

theorem opFull_ok (Gd : K.Good) (F : K.Facts) {ext : Ext} (X : ExtOk K ext) {call : FuncId → List AV → AH → M (AE × AH)} (C : CallOk K main call) {r : AR} (he : opFull K.P K.O ext call nt ops i tmps h = .ok r) :
    ∃ N, ∀ {fn defers kind callers U ρ cs g w rest k}, CIds K U ⟨⟨fn, nt, tmps, .inRegion ops (i :: rest) :: k, defers, .run, kind⟩, callers, h⟩ → Gam K ρ ⟨⟨fn, nt, tmps, .inRegion ops (i :: rest) :: k, defers, .run, kind⟩, callers, h⟩ cs g w →
      Walk K.P main (DK K) (ARNext K U ρ cs w h fn nt (.inRegion ops rest :: k) defers kind callers r) N g w := by
  unfold opFull at he
  split at he
  · cases he
  · rename_i o ho
    split at he
    · cases he
    · rename_i hw
      cases he
      exact ⟨1, fun I Γ => leads_unwanted ho hw _ _ _ _ _ I Γ⟩
    · rename_i hw
      split at he
      · cases he
      · rename_i v h' hop
        cases he
        refine ⟨1, fun {fn defers kind callers U ρ cs g w rest k} I Γ => (op_step Gd F X ho hw hop tag_v I Γ).weaken fun g' w' post => upon_next (c' := ⟨⟨fn, nt, putA nt tmps o.dst v, .inRegion ops rest :: k, defers, .run, kind⟩, callers, h'⟩) ?_ ho I post⟩
        simp [upon, finishA, ho]
      · rename_i h' hop
        cases he
        refine ⟨1, fun {fn defers kind callers U ρ cs g w rest k} I Γ => (op_step Gd F X ho hw hop tag_s I Γ).weaken fun g' w' post => upon_next (c' := ⟨⟨fn, nt, putA nt tmps o.dst undefA, .inRegion ops rest :: k, defers, .run, kind⟩, callers, h'⟩) ?_ ho I post⟩
        simp [upon, finishA, ho]
      · rename_i f args h' hop
        split at he
        · rename_i v h'' hcall
          cases he
          obtain ⟨fr, N, hen, E⟩ := C _ _ _ _ hcall
          refine ⟨1 + (N + 1), fun {fn defers kind callers U ρ cs g w rest k} I Γ => Walk.trans (fun g' w' post => ?_) (op_step Gd F X ho hw hop tag_e I Γ)⟩
          obtain ⟨ρ', A, kp, R, gr, mem, tm, frs, h1, h2, h3, hc, ng⟩ := post
          have ng' : g' = _ := ng
          obtain ⟨e1, e2, e3, e4, e5⟩ := enterA_ok hen (.inl rfl) mem (ρ := ρ')
          refine Walk.trans (fun g2 w2 done => ?_) (E (plus U h.nb h'.nb) ρ' ((bB ρ' fn kind).atR (aB ρ' kind tm defers) (.inRegion ops (i :: rest) :: k) :: (frs ++ cs)) g' w' ⟨e2, (fun _ x => by simp at x), gr.ids⟩ ⟨R, _, [], e1, trivial, ng'⟩)
          obtain ⟨ρ2, A2, kp2, gr2, hv, R2, ends⟩ := done
          refine (leave_step ends).weaken fun g3 w3 ⟨⟨d, hw3⟩, hg3⟩ => ?_
          subst hw3 hg3
          have gr02 := gr.trans gr2
          have A02 := A.trans A2 plus_sub
          have hd2 : ∀ d ∈ defers, d.In (plus U h.nb h'.nb) := fun x hx => (I.cur.defers x hx).mono plus_sub
          have hc2 := callers_agree A2 hc fun fr hf => (I.callers fr hf).mono plus_sub
          have hv' : v.In (plus U h.nb h''.nb) := AV.In.mono (fun n => (plus_plus gr.nb gr2.nb n).1) _ hv
          have := next_put (U := U) (ρ := ρ) (h := h) (cs := cs) (fn := fn) (kind := kind) (ops := ops) (rest := rest) (k := k) (dst := o.dst) (ds := defers) A02 ((kp.trans kp2).trans (keeps_drawn _ w2 d)) (R2.drawn d) gr02 hv' I.cur.tmps (fun x hx => (I.cur.defers x hx).mono plus_sub) (fun fr hf => (I.callers fr hf).mono plus_sub)
            (h1.agree A2 (TT.In.mono plus_sub I.cur.tmps)) h2 h3 hc2
          rw [finR _ _ ho, ← bB_agree A2 fn kind, ← aB_agree A2 kind tm hd2]
          exact this
        · rename_i chain h'' hcall
          cases he
          obtain ⟨fr, N, hen, E⟩ := C _ _ _ _ hcall
          refine ⟨1 + (N + 1), fun {fn defers kind callers U ρ cs g w rest k} I Γ => Walk.trans (fun g' w' post => ?_) (op_step Gd F X ho hw hop tag_e I Γ)⟩
          obtain ⟨ρ', A, kp, R, gr, mem, tm, frs, h1, h2, h3, hc, ng⟩ := post
          have ng' : g' = _ := ng
          obtain ⟨e1, e2, e3, e4, e5⟩ := enterA_ok hen (.inl rfl) mem (ρ := ρ')
          refine Walk.trans (fun g2 w2 done => ?_) (E (plus U h.nb h'.nb) ρ' ((bB ρ' fn kind).atR (aB ρ' kind tm defers) (.inRegion ops (i :: rest) :: k) :: (frs ++ cs)) g' w' ⟨e2, (fun _ x => by simp at x), gr.ids⟩ ⟨R, _, [], e1, trivial, ng'⟩)
          obtain ⟨ρ2, A2, kp2, gr2, hv, R2, ends⟩ := done
          refine (raise_step ends).weaken fun g3 w3 ⟨⟨d, hw3⟩, hg3⟩ => ?_
          subst hw3 hg3
          intro td
          have gr02 := gr.trans gr2
          have A02 := A.trans A2 plus_sub
          have hd2 : ∀ d ∈ defers, d.In (plus U h.nb h'.nb) := fun x hx => (I.cur.defers x hx).mono plus_sub
          have hc2 := callers_agree A2 hc fun fr hf => (I.callers fr hf).mono plus_sub
          have hv' : ∀ x ∈ chain, x.1.In (plus U h.nb h''.nb) := fun x hx => AV.In.mono (fun n => (plus_plus gr.nb gr2.nb n).1) _ (hv x hx)
          refine ⟨ρ2, A02, (kp.trans kp2).trans (keeps_drawn _ w2 d), gr02, ⟨⟨TT.In.mono plus_sub I.cur.tmps, fun x hx => (I.cur.defers x hx).mono plus_sub, hv'⟩, fun fr hf => (I.callers fr hf).mono plus_sub, gr02.ids⟩, R2.drawn d, _, frs,
            ⟨tm, .inRegion ops (i :: rest) :: k, ⟨h1.agree A2 (TT.In.mono plus_sub I.cur.tmps), h2, (fun x => by cases x), h3⟩, rfl⟩, hc2, ?_⟩
          rw [← bB_agree A2 fn kind, ← aB_agree A2 kind tm hd2]; rfl
        · cases he
      · rename_i v h' hop
        cases he
        refine ⟨1, fun {fn defers kind callers U ρ cs g w rest k} I Γ => (op_step Gd F X ho hw hop tag_p I Γ).weaken fun g' w' post => ?_⟩
        intro td
        have := upon_next (c' := ⟨⟨fn, nt, tmps, .inRegion ops (i :: rest) :: k, defers, .panicking [(v, false)], kind⟩, callers, h'⟩) rfl ho I post
        obtain ⟨ρ', a1, a2, a3, a4, R, fr, frs, ⟨tm, td', is, rfl⟩, hc, rfl⟩ := this
        exact ⟨ρ', a1, a2, a3, ⟨⟨a4.cur.tmps, a4.cur.defers, a4.cur.mode⟩, a4.callers, a4.ids⟩, R, _, frs, ⟨tm, td', ⟨is.tmps, is.kind, (fun x => by cases x), is.fn⟩, rfl⟩, hc, rfl⟩
      · cases he
end
end Go.Proofs.YtmnahfonnljobaaGreatDoor.SX
/-
  Regions whose order is drawn.
-/
set_option linter.unusedSectionVars false
set_option linter.unusedVariables false
set_option linter.unusedSimpArgs false
namespace Go.Proofs.YtmnahfonnljobaaGreatDoor.SX
open Go.Conc

/-! ### Schedules -/
def Sched (ops : Array Oper) : List Nat → List Nat → Prop
  | s, [] => readyIn ops s = []
  | s, i :: l => i ∈ readyIn ops s ∧ Sched ops (i :: s) l

def openIn (ops : Array Oper) (s : List Nat) : List Nat := (List.range ops.size).filter fun i => !s.contains i

theorem openIn_cons {ops : Array Oper} {s : List Nat} {i : Nat} (hi : i ∈ openIn ops s) : (openIn ops (i :: s)).length < (openIn ops s).length := by
  have : openIn ops (i :: s) = (openIn ops s).filter fun j => !(j == i) := by
    unfold openIn
    rw [List.filter_filter]
    apply List.filter_congr
    intro j _
    by_cases hj : j = i <;> simp [List.contains_cons, hj]
  rw [this]
  exact List.length_filter_lt_length_iff_exists.2 ⟨i, hi, by simp⟩

theorem readyIn_sub {ops : Array Oper} {s : List Nat} {i : Nat} (h : i ∈ readyIn ops s) : i ∈ openIn ops s := by
  unfold readyIn at h
  obtain ⟨h1, h2⟩ := List.mem_filter.1 h
  exact List.mem_filter.2 ⟨h1, by simp only [Bool.and_eq_true] at h2; exact h2.1⟩

theorem readyIn_mem {ops : Array Oper} {s : List Nat} {i : Nat} (h : i ∈ readyIn ops s) : i < ops.size ∧ i ∉ s := by
  obtain ⟨h1, h2⟩ := List.mem_filter.1 (readyIn_sub h)
  exact ⟨List.mem_range.1 h1, by simpa using h2⟩

theorem go_sched (ops : Array Oper) : ∀ (fuel t : Nat) (listed : Array Bool) (acc s : List Nat), listed.size = ops.size → (∀ j, listed.getD j false = s.contains j) → (openIn ops s).length ≤ fuel →
    ∃ l, Region.linearise.go .any ops fuel t listed acc = acc.reverse ++ l ∧ Sched ops s l := by
  intro fuel
  induction fuel with
  | zero =>
    intro t listed acc s _ _ ho
    refine ⟨[], by simp [Region.linearise.go], ?_⟩
    show readyIn ops s = []
    apply List.eq_nil_iff_forall_not_mem.2
    intro i hi
    have := readyIn_sub hi
    rw [List.eq_nil_of_length_eq_zero (Nat.le_zero.1 ho)] at this
    cases this
  | succ fuel ih =>
    intro t listed acc s hsz hl ho
    have hrs : ((List.range ops.size).filter fun i => !listed.getD i true && ((ops[i]?).map (fun o => o.after.all fun e => !Region.binds .any e || listed.getD e.on false)).getD false) = readyIn ops s := by
      unfold readyIn
      apply List.filter_congr
      intro i hi
      have hi' : i < ops.size := List.mem_range.1 hi
      have h1 : listed.getD i true = listed.getD i false := by
        rw [Array.getD_eq_getD_getElem?, Array.getD_eq_getD_getElem?, Array.getElem?_eq_getElem (by rw [hsz]; exact hi')]; rfl
      rw [h1, hl i, Array.getElem?_eq_getElem hi']
      simp only [Option.map_some, Option.getD_some, boundIn]
      congr 1
      congr 1
      funext e
      rw [hl e.on]
    rw [Region.linearise.go]
    simp only [hrs]
    split
    · rename_i i hi
      have hmem : i ∈ readyIn ops s := List.mem_of_getElem? hi
      obtain ⟨hi1, hi2⟩ := readyIn_mem hmem
      have hl' : ∀ j, (listed.setIfInBounds i true).getD j false = (i :: s).contains j := fun j => by
        rw [Array.getD_eq_getD_getElem?, List.contains_cons]
        by_cases hj : j = i
        · subst hj; simp [hsz, hi1]
        · have : (j == i) = false := by simpa using hj
          rw [this, Bool.false_or, ← hl j, Array.getD_eq_getD_getElem?, Array.getElem?_setIfInBounds_ne (fun x => hj x.symm)]
      obtain ⟨l, e, hs⟩ := ih (t / (readyIn ops s).length) (listed.setIfInBounds i true) (i :: acc) (i :: s) (by simpa using hsz) hl' (by have := openIn_cons (readyIn_sub hmem); omega)
      exact ⟨i :: l, by rw [e]; simp, hmem, hs⟩
    · rename_i hn
      refine ⟨[], by simp, ?_⟩
      show readyIn ops s = []
      rcases Nat.eq_zero_or_pos (readyIn ops s).length with h0 | h0
      · exact List.eq_nil_of_length_eq_zero h0
      · rw [List.getElem?_eq_none_iff] at hn
        have := Nat.mod_lt t h0
        omega

theorem schedule_sched (ops : Array Oper) (t : Nat) : Sched ops [] (Region.schedule true ops t) := by
  obtain ⟨l, e, h⟩ := go_sched ops ops.size t (Array.replicate ops.size false) [] [] (by simp) (fun j => by
    rw [Array.getD_eq_getD_getElem?, Array.getElem?_replicate]; split <;> simp) (by
    unfold openIn; exact Nat.le_trans (List.length_filter_le _ _) (by simp))
  have : Region.schedule true ops t = l := by simp [Region.schedule, Region.linearise, e]
  rw [this]; exact h

/-! ### Sets -/
theorem sameSet_mem {a b : List Nat} (h : sameSet a b = true) (i : Nat) : i ∈ a ↔ i ∈ b := by
  unfold sameSet at h
  simp only [Bool.and_eq_true, List.all_eq_true, List.contains_iff_mem] at h
  exact ⟨h.1 i, h.2 i⟩

theorem contains_congr {a b : List Nat} (h : ∀ i, i ∈ a ↔ i ∈ b) (i : Nat) : a.contains i = b.contains i := by
  have := h i
  by_cases hi : i ∈ a
  · simp [hi, this.1 hi]
  · have : i ∉ b := fun x => hi (this.2 x)
    simp [hi, this]

theorem readyIn_congr {ops : Array Oper} {a b : List Nat} (h : ∀ i, i ∈ a ↔ i ∈ b) : readyIn ops a = readyIn ops b := by
  unfold readyIn
  apply List.filter_congr
  intro i _
  rw [contains_congr h]
  congr 1
  split
  · unfold boundIn
    congr 1
    funext e
    rw [contains_congr h]
  · rfl

theorem Sched.congr {ops : Array Oper} : ∀ {l a b : List Nat}, (∀ i, i ∈ a ↔ i ∈ b) → Sched ops a l → Sched ops b l
  | [], a, b, h, hs => by
    have : readyIn ops a = [] := hs
    show readyIn ops b = []
    rw [← readyIn_congr h]; exact this
  | i :: l, a, b, h, hs => ⟨by rw [← readyIn_congr h]; exact hs.1, Sched.congr (fun j => by simp [h j]) hs.2⟩

/-! ### Numbers of a fork -/
def Us (U0 : Nat → Prop) (h0 : AH) (s : List Nat) : Nat → Prop := fun n => U0 n ∨ ∃ j ∈ s, h0.nb + j * stride h0 ≤ n ∧ n < h0.nb + (j + 1) * stride h0

theorem Us_congr {U0 : Nat → Prop} {h0 : AH} {a b : List Nat} (h : ∀ i, i ∈ a ↔ i ∈ b) (n : Nat) : Us U0 h0 a n → Us U0 h0 b n := by
  rintro (x | ⟨j, hj, x⟩)
  · exact .inl x
  · exact .inr ⟨j, (h j).1 hj, x⟩

theorem stride_lim (h0 : AH) {i : Nat} (hi : i < 65536) {n : Nat} (hn : n < h0.nb + (i + 1) * stride h0) (hn0 : h0.nb + i * stride h0 ≤ n) : n < h0.lim := by
  have h1 : (i + 1) * stride h0 ≤ 65536 * stride h0 := Nat.mul_le_mul_right _ hi
  have h2 : 65536 * stride h0 ≤ h0.lim - h0.nb := Nat.mul_div_le _ _
  omega

theorem ranges_apart {s i j n nb : Nat} (h1 : nb + i * s ≤ n) (h2 : n < nb + (i + 1) * s) (h3 : nb + j * s ≤ n) (h4 : n < nb + (j + 1) * s) : i = j := by
  rcases Nat.lt_trichotomy i j with h | h | h
  · have := Nat.mul_le_mul_right s (Nat.succ_le_of_lt h); simp only [Nat.succ_eq_add_one] at this; omega
  · exact h
  · have := Nat.mul_le_mul_right s (Nat.succ_le_of_lt h); simp only [Nat.succ_eq_add_one] at this; omega

theorem Us_fresh {K : Ctx} {U0 : Nat → Prop} {h0 : AH} {s : List Nat} {i : Nat} (I0 : Ids K U0 h0) (hi : i < 65536) (hs : i ∉ s) {n : Nat} (h1 : h0.nb + i * stride h0 ≤ n) (h2 : n < h0.nb + (i + 1) * stride h0) : ¬ Us U0 h0 s n := by
  rintro (x | ⟨j, hj, x1, x2⟩)
  · exact I0.fresh n (by omega) (stride_lim h0 hi h2 h1) x
  · have := ranges_apart h1 h2 x1 x2
    subst this
    exact hs hj

theorem Rel.hp {K : Ctx} {ρ : Env} {h h' : AH} {w : World} (R : Rel K ρ h w) (e : h'.hp = h.hp) : Rel K ρ h' w :=
  ⟨fun i b hb => R.blk i b (by rw [← e]; exact hb), fun i b hb => R.own' i b (by rw [← e]; exact hb), fun i j b c h1 h2 => R.inj i j b c (by rw [← e]; exact h1) (by rw [← e]; exact h2), R.bs, R.is, R.mem, R.room, fun i b hb => R.lent i b (by rw [← e]; exact hb), R.low⟩

theorem Gam.hp {K : Ctx} {ρ : Env} {cur : AFrame} {callers : List AFrame} {h h' : AH} {cs : List Frame} {g : Goroutine} {w : World} (Γ : Gam K ρ ⟨cur, callers, h⟩ cs g w) (e : h'.hp = h.hp) : Gam K ρ ⟨cur, callers, h'⟩ cs g w :=
  ⟨Rel.hp Γ.1 e, Γ.2⟩

theorem CIds.lax {K : Ctx} {U U' : Nat → Prop} {cur : AFrame} {callers : List AFrame} {h h' : AH} (I : CIds K U ⟨cur, callers, h⟩) (e : h'.hp = h.hp) (hs : ∀ n, U n → U' n) (fr : ∀ n, h'.nb ≤ n → n < h'.lim → ¬ U' n) : CIds K U' ⟨cur, callers, h'⟩ :=
  ⟨I.cur.mono hs, fun fr hf => (I.callers fr hf).mono hs, ⟨fun i b hb => ABlk.In.mono hs (I.ids.hp i b (by rw [← e]; exact hb)), fun i hi => hs i (I.ids.keys i (by show i ∈ Go.Proofs.YtmnahfonnljobaaGreatDoor.SX.keys h.hp; rw [← e]; exact hi)), (by show (Go.Proofs.YtmnahfonnljobaaGreatDoor.SX.keys h'.hp).Nodup; rw [e]; exact I.ids.nodup), fr, I.ids.orc.mono hs⟩⟩

section
variable {K : Ctx} {main : Bool} {nt : Nat} {ops : Array Oper}

theorem putLvl_ok {s : List Nat} {t : TT} {h : AH} : ∀ {L L' : Lvl}, putLvl s t h L = .ok L' → (∀ e ∈ L, e ∈ L') ∧ ∃ s' h', (s', t, h') ∈ L' ∧ sameSet s s' = true ∧ h'.hp = h.hp
  | [], L', he => by
    simp only [putLvl] at he
    cases he
    refine ⟨(fun e x => by cases x), s, h, List.mem_singleton.2 rfl, ?_, rfl⟩
    simp [sameSet]
  | (s', t', h') :: L, L', he => by
    simp only [putLvl] at he
    split at he
    · rename_i hs
      split at he
      · rename_i hq
        cases he
        simp only [Bool.and_eq_true] at hq
        obtain rfl := TT.eqb_eq hq.1
        exact ⟨fun e x => x, s', h', List.mem_cons_self .., hs, (hpEqb_eq hq.2).symm⟩
      · cases he
    · split at he
      · rename_i l hl
        cases he
        obtain ⟨a, s2, h2, b, c, d⟩ := putLvl_ok hl
        refine ⟨fun e x => ?_, s2, h2, List.mem_cons_of_mem _ b, c, d⟩
        rcases List.mem_cons.1 x with rfl | x
        · exact List.mem_cons_self ..
        · exact List.mem_cons_of_mem _ (a e x)
      · cases he

/-- From a state of a fork to a state of the next level. -/
def Forks (K : Ctx) (U0 : Nat → Prop) (h0 : AH) (ρ : Env) (cs : List Frame) (w : World) (fn : FuncId) (nt : Nat) (ops : Array Oper) (l : List Nat) (k : List Item) (defers : List AD) (kind : CallKind) (callers : List AFrame) (s1 : List Nat) (L' : Lvl) (g' : Goroutine) (w' : World) : Prop :=
  ∃ s' t' h', (s', t', h') ∈ L' ∧ (∀ i, i ∈ s1 ↔ i ∈ s') ∧ ∃ ρ', Agree U0 ρ ρ' ∧ Keeps K.own w w' ∧ CIds K (Us U0 h0 s') ⟨⟨fn, nt, t', .inRegion ops l :: k, defers, .run, kind⟩, callers, bare h'⟩ ∧
    Gam K ρ' ⟨⟨fn, nt, t', .inRegion ops l :: k, defers, .run, kind⟩, callers, h'⟩ cs g' w'

theorem Forks.sub {U0 : Nat → Prop} {h0 : AH} {ρ : Env} {cs : List Frame} {w : World} {fn : FuncId} {l : List Nat} {k : List Item} {defers : List AD} {kind : CallKind} {callers : List AFrame} {s1 : List Nat} {L L' : Lvl} {g' : Goroutine} {w' : World}
    (hs : ∀ e ∈ L, e ∈ L') (F : Forks K U0 h0 ρ cs w fn nt ops l k defers kind callers s1 L g' w') : Forks K U0 h0 ρ cs w fn nt ops l k defers kind callers s1 L' g' w' := by
  obtain ⟨s', t', h', a, b⟩ := F
  exact ⟨s', t', h', hs _ a, b⟩

theorem stepOne_ok (Gd : K.Good) (F : K.Facts) {ext : Ext} (X : ExtOk K ext) {call : FuncId → List AV → AH → M (AE × AH)} (C : CallOk K main call) (hops : ops.size ≤ 65536) {h0 : AH} {s : List Nat} {t : TT} {h : AH} :
    ∀ {r : List Nat} {L L' : Lvl}, stepOne K.P K.O ext call nt ops h0 s t h r L = .ok L' → (∀ e ∈ L, e ∈ L') ∧
      ∃ N, ∀ i ∈ r, i < ops.size → i ∉ s → ∀ {fn defers kind callers U0 ρ cs g w l k}, Ids K U0 h0 → CIds K (Us U0 h0 s) ⟨⟨fn, nt, t, .inRegion ops (i :: l) :: k, defers, .run, kind⟩, callers, bare h⟩ →
        Gam K ρ ⟨⟨fn, nt, t, .inRegion ops (i :: l) :: k, defers, .run, kind⟩, callers, h⟩ cs g w → Walk K.P main (DK K) (Forks K U0 h0 ρ cs w fn nt ops l k defers kind callers (i :: s) L') N g w
  | [], L, L', he => by
    simp only [stepOne] at he
    cases he
    exact ⟨fun e x => x, 0, fun i x => by cases x⟩
  | i :: r, L, L', he => by
    simp only [stepOne] at he
    split at he
    · cases he
    · cases he
    · rename_i t' h' hop
      split at he
      · rename_i hlim
        split at he
        · rename_i L1 hput
          obtain ⟨a1, s', hh, a2, a3, a4⟩ := putLvl_ok hput
          obtain ⟨b1, N, b2⟩ := stepOne_ok Gd F X C hops he
          obtain ⟨M, hM⟩ := opFull_ok Gd F X C hop
          refine ⟨fun e x => b1 e (a1 e x), N + M, fun j hj hj1 hj2 {fn defers kind callers U0 ρ cs g w l k} I0 I Γ => ?_⟩
          rcases List.mem_cons.1 hj with rfl | hj
          · have I' : CIds K (Us U0 h0 s) ⟨⟨fn, nt, t, .inRegion ops (j :: l) :: k, defers, .run, kind⟩, callers, rangeFor h0 j h⟩ :=
              I.lax rfl (fun n x => x) fun n x1 x2 => Us_fresh I0 (by omega) hj2 x1 x2
            refine ((hM I' (Γ.hp rfl)).weaken fun g' w' nx => ?_).mono (Nat.le_add_left _ _)
            obtain ⟨ρ', c1, c2, c3, c4, c5⟩ := nx
            refine ⟨s', t', hh, b1 _ a2, sameSet_mem a3, ρ', c1.mono (fun n x => .inl x), c2, ?_, c5.hp a4⟩
            refine c4.lax a4 (fun n x => ?_) fun n x1 x2 => by simp [bare] at x2
            rcases x with (x | ⟨q, q1, q2⟩) | x
            · exact .inl x
            · exact .inr ⟨q, (sameSet_mem a3 q).1 (List.mem_cons_of_mem _ q1), q2⟩
            · have hl : h'.lim = (rangeFor h0 j h).lim := c3.lim
              refine .inr ⟨j, (sameSet_mem a3 j).1 (List.mem_cons_self ..), x.1, ?_⟩
              have hl2 : h'.lim = h0.nb + (j + 1) * stride h0 := hl
              have hx := x.2
              dsimp only at hx
              omega
          · exact (b2 j hj hj1 hj2 I0 I Γ).mono (Nat.le_add_right _ _)
        · cases he
      · cases he

theorem stepLvl_ok (Gd : K.Good) (F : K.Facts) {ext : Ext} (X : ExtOk K ext) {call : FuncId → List AV → AH → M (AE × AH)} (C : CallOk K main call) (hops : ops.size ≤ 65536) {h0 : AH} :
    ∀ {A L L' : Lvl}, stepLvl K.P K.O ext call nt ops h0 A L = .ok L' → (∀ e ∈ L, e ∈ L') ∧
      ∃ N, ∀ s t h, (s, t, h) ∈ A → readyIn ops s ≠ [] ∧ ∀ i ∈ readyIn ops s, ∀ {fn defers kind callers U0 ρ cs g w l k}, Ids K U0 h0 → CIds K (Us U0 h0 s) ⟨⟨fn, nt, t, .inRegion ops (i :: l) :: k, defers, .run, kind⟩, callers, bare h⟩ →
        Gam K ρ ⟨⟨fn, nt, t, .inRegion ops (i :: l) :: k, defers, .run, kind⟩, callers, h⟩ cs g w → Walk K.P main (DK K) (Forks K U0 h0 ρ cs w fn nt ops l k defers kind callers (i :: s) L') N g w
  | [], L, L', he => by
    simp only [stepLvl] at he
    cases he
    exact ⟨fun e x => x, 0, fun s t h x => by cases x⟩
  | (s, t, h) :: A, L, L', he => by
    simp only [stepLvl] at he
    split at he
    · cases he
    · rename_i hne
      split at he
      · rename_i L1 h1
        obtain ⟨a1, N, a2⟩ := stepOne_ok Gd F X C hops h1
        obtain ⟨b1, M, b2⟩ := stepLvl_ok Gd F X C hops he
        refine ⟨fun e x => b1 e (a1 e x), N + M, fun s' t' h' hm => ?_⟩
        rcases List.mem_cons.1 hm with hq | hm
        · cases hq
          refine ⟨fun x => hne (by simp [x]), fun i hi {fn defers kind callers U0 ρ cs g w l k} I0 I Γ => ?_⟩
          obtain ⟨x1, x2⟩ := readyIn_mem hi
          exact ((a2 i hi x1 x2 I0 I Γ).weaken fun g' w' f => f.sub b1).mono (Nat.le_add_right _ _)
        · obtain ⟨c1, c2⟩ := b2 s' t' h' hm
          exact ⟨c1, fun i hi {fn defers kind callers U0 ρ cs g w l k} I0 I Γ => (c2 i hi I0 I Γ).mono (Nat.le_add_left _ _)⟩
      · cases he
end
end Go.Proofs.YtmnahfonnljobaaGreatDoor.SX

/-
  One goroutine holds, the others sit at a receive on a channel of their own, are on their way there, or leave: the machine's side.
-/
import Derived.Test.YtcpiafgkmakdiaaSxTok1
import Derived.Test.YtcpiafgkmakdiaaSxFr
set_option linter.unusedSectionVars false
set_option linter.unusedVariables false
set_option linter.unusedSimpArgs false
namespace Go.Proofs.Ytcpiafgkmakdiaa.SX.Tok
open Go.Conc
open Go.ConcN (sumTo upd sumTo_upd upd_ne upd_same)

/-- A seat: its channel; the places that are read on the way there; what is leaned on; what is known of whoever stands there. -/
structure Seat where
  c : Nat
  z : Value
  ok : Bool
  still : Loc → Prop
  keep : World → Prop
  B : Nat
  home : Goroutine → Prop

def Seat.base (s : Seat) : Conc.Seat := Conc.Seat.one s.c s.z s.ok s.home

/-- What it leans on stands, whatever the count of draws, whatever is done with channels. -/
structure Seat.Wf (s : Seat) : Prop where
  at' : ∀ w d, s.keep w → s.keep (w.at d)
  chan : ∀ w c cap buf cl a b tm cap' buf' cl' a' b' tm', w.heap[c]? = some (.chan cap buf cl a b tm) → s.keep w → s.keep (w.setChan c cap' buf' cl' a' b' tm')
  mem : ∀ l, s.still l → l.isMemory = true

def Rest (P : Program) (T : Trace) (i n : Nat) (g : Goroutine) : Option Seat → Prop
  | none => 0 < i ∧ QuitsD P n (Deaf T i) g
  | some s => Sits P (i == 0) s.keep s.still s.B s.base n g

def St (Inb : Nat → Option Seat) (g : Nat) (l : Loc) : Prop := ∃ s, Inb g = some s ∧ s.still l
/-- Who hears: whoever sits; whoever holds, unless it is deaf so many times. -/
def Mem (Inb : Nat → Option Seat) (h dd g : Nat) : Prop := (g = h ∧ dd = 0) ∨ ∃ s, Inb g = some s

/-- The frame; goroutine h's own record is spoken of apart. -/
structure Core (P : Program) (Inb : Nat → Option Seat) (h dd : Nat) (T : Trace) (gs : Array Goroutine) (w : World) (q : Nat → Nat) : Prop where
  idle : ∀ i g, i ≠ h → gs[i]? = some g → Rest P T i (q i) g (Inb i)
  chans : ∀ i s, Inb i = some s → ∃ k, w.heap[s.c]? = some (.chan 0 #[] false k k false)
  wf : ∀ i s, Inb i = some s → s.Wf
  inj : ∀ i i' s s', Inb i = some s → Inb i' = some s' → s.c = s'.c → i = i'
  above : ∀ j, gs.size ≤ j → Deaf T j = 0 ∧ Inb j = none
  free : Inb h = none
  past : Held (St Inb) (Mem Inb h dd) h T
  deaf : Deaf T h = dd
  keep : ∀ i s, Inb i = some s → s.keep w

section
variable {P : Program} {Inb : Nat → Option Seat} {h dd : Nat} {T : Trace} {gs : Array Goroutine} {w : World} {q : Nat → Nat}

theorem has_base {s : Seat} {c : Nat} : s.base.has c ↔ c = s.c := Conc.Seat.one_has
theorem wf_base (s : Seat) : s.base.Wf := Conc.Seat.one_wf _ _ _ _
theorem cases_base (s : Seat) : s.base.cases = #[rcase s.c s.z] := rfl

theorem Core.fixed (C : Core P Inb h dd T gs w q) {x : Nat} {y : Goroutine} (hx : x ≠ h) (hy : gs[x]? = some y) : y.again w = y := by
  have hr := C.idle x y hx hy
  cases e : Inb x with
  | none => rw [e] at hr; exact again_of_running hr.2.status w
  | some s =>
    rw [e] at hr
    exact Sits.again (C.keep x s e) hr (wf_base s) fun c hc => by
      obtain rfl := has_base.1 hc
      obtain ⟨k, hk⟩ := C.chans x s e
      exact ⟨_, _, _, _, _, hk⟩

theorem Core.noSend (C : Core P Inb h dd T gs w q) {x : Nat} {y : Goroutine} (hx : x ≠ h) (hy : gs[x]? = some y) (c : Nat) : offersAt y c true = [] := by
  have hr := C.idle x y hx hy
  cases e : Inb x with
  | none =>
    rw [e] at hr
    exact offersAt_of_not_blocked (fun hb => by rcases hr.2.status with z | z <;> rw [z] at hb <;> cases hb) c true
  | some s =>
    rw [e] at hr
    rcases hr with ⟨k, w₀, hq, hg⟩ | ⟨_, _, g₂, rfl, _⟩
    · have := (Sits.status (C.keep x s e) (.inl ⟨k, w₀, hq, hg⟩)).elim (·.1) (fun z => by omega)
      exact offersAt_of_not_blocked (fun hb => by rw [this] at hb; cases hb) c true
    · exact offersAt_parked_sends (fun cc hcc => by obtain ⟨c', z', rfl⟩ := (wf_base s).recvs cc hcc; rfl) _

theorem Core.noRecvAt (C : Core P Inb h dd T gs w q) {x : Nat} {y : Goroutine} (hx : x ≠ h) (hy : gs[x]? = some y) {c : Nat} (hc : ∀ s, Inb x = some s → s.c ≠ c) : offersAt y c false = [] := by
  have hr := C.idle x y hx hy
  cases e : Inb x with
  | none =>
    rw [e] at hr
    exact offersAt_of_not_blocked (fun hb => by rcases hr.2.status with z | z <;> rw [z] at hb <;> cases hb) c false
  | some s =>
    rw [e] at hr
    rcases hr with ⟨k, w₀, hq, hg⟩ | ⟨_, _, g₂, rfl, _⟩
    · have := (Sits.status (C.keep x s e) (.inl ⟨k, w₀, hq, hg⟩)).elim (·.1) (fun z => by omega)
      exact offersAt_of_not_blocked (fun hb => by rw [this] at hb; cases hb) c false
    · refine offersAt_parked_off (fun cc hcc ec => ?_) _
      rw [cases_base] at hcc
      obtain rfl : cc = rcase s.c s.z := by simpa using hcc
      simp only [rcase, Value.chan.injEq, Option.some.injEq] at ec
      exact hc s e ec

theorem Core.at (C : Core P Inb h dd T gs w q) (d : Nat) : Core P Inb h dd T gs (w.at d) q :=
  ⟨C.idle, C.chans, C.wf, C.inj, C.above, C.free, C.past, C.deaf, fun i s e => (C.wf i s e).at' w d (C.keep i s e)⟩

/-- One bystander's record is laid anew; the world stands. -/
theorem Core.put (C : Core P Inb h dd T gs w q) {i n' : Nat} {g' : Goroutine} {ops : Array MemOp} {gs' : Array Goroutine} (hih : i ≠ h) (hlt : i < gs.size) (hsz : gs'.size = gs.size) (hother : ∀ x, x ≠ i → gs'[x]? = gs[x]?) (hself : gs'[i]? = some g')
    (hops : ∀ op ∈ ops, op.g = i) (hidle : Rest P (T ++ ops) i n' g' (Inb i)) (hpast : Held (St Inb) (Mem Inb h dd) h (T ++ ops)) : Core P Inb h dd (T ++ ops) gs' w (upd q i n') := by
  refine ⟨fun x y hx hy => ?_, C.chans, C.wf, C.inj, fun j hj => ⟨?_, (C.above j (by omega)).2⟩, C.free, hpast, (Deaf_other T hih ops hops).trans C.deaf, C.keep⟩
  · by_cases e : x = i
    · subst e
      rw [hself] at hy
      obtain rfl := Option.some.inj hy
      rw [upd_same]; exact hidle
    · rw [hother x e] at hy
      rw [upd_ne q n' e]
      have hr := C.idle x y hx hy
      cases es : Inb x with
      | none => rw [es] at hr; exact ⟨hr.1, by rw [Deaf_other T (fun z => e z.symm) ops hops]; exact hr.2⟩
      | some s => rw [es] at hr; exact hr
  · rw [Deaf_other T (g' := i) (by omega) ops hops]
    exact (C.above j (by omega)).1

theorem evC_ops' {s : Seat} {i : Nat} {fn : FuncId} {pos : String} {es : Array Event} (he : ∀ e ∈ es, EvC s.still s.B e) :
    (∀ op ∈ MemOp.ofEvents i fn pos es, op.g = i) ∧ (∀ op ∈ MemOp.ofEvents i fn pos es, ∀ b, op.act.touch? = some b → b.write = false ∧ s.still b.loc) ∧ ∀ t : Trace, Deaf (t ++ MemOp.ofEvents i fn pos es) i = Deaf t i := by
  obtain ⟨a, b, _, d⟩ := evC_ops (i := i) (fn := fn) (pos := pos) he
  exact ⟨a, b, d⟩

/-- A bystander's step: a leaver slips; a seated one goes a step of its way, or comes to its receive and is parked. -/
theorem Core.by_step (C : Core P Inb h dd T gs w q) {i : Nat} {g : Goroutine} {sl : Option (Nat × Nat)} (hi : gs[i]? = some g) (hih : i ≠ h) (hrun : g.status = .running)
    (hsA : ∀ gx, gs[h]? = some gx → gx.again w = gx) (hsO : ∀ s g₂, Inb i = some s → AtIn P (i == 0) s.keep s.still s.B s.base g g₂ → ∀ gx, gs[h]? = some gx → offersAt gx s.c true = []) :
    ∃ (gs' : Array Goroutine) (ops : Array MemOp) (q' : Nat → Nat), runT P (crowd gs w sl) i = (.next (crowd gs' w sl), ops) ∧ gs'.size = gs.size ∧ gs'[h]? = gs[h]? ∧ (∀ x, x ≠ i → q' x = q x) ∧ (∀ s, Inb i = some s → q' i = 0 → ∃ g₂, AtIn P (i == 0) s.keep s.still s.B s.base g g₂) ∧
      Core P Inb h dd (T ++ ops) gs' w q' ∧ sumTo gs.size q' < sumTo gs.size q := by
  have hlt : i < gs.size := (Array.getElem?_eq_some_iff.1 hi).1
  have hfix : ∀ (a a' : Goroutine) (x : Nat) (y : Goroutine), gs[x]? = some y → woken P a a' w y = y := fun a a' x y hy => woken_of_again (by
    by_cases hx : x = h
    · subst hx; exact hsA y hy
    · exact C.fixed hx hy)
  have harr : ∀ (a' g' : Goroutine) (x : Nat), x ≠ i → ((gs.map (woken P g a' w)).setIfInBounds i g')[x]? = gs[x]? := by
    intro a' g' x hx
    rw [Array.getElem?_setIfInBounds_ne (fun e => hx e.symm), Array.getElem?_map]
    cases e : gs[x]? with
    | none => rfl
    | some y => simp [hfix g a' x y e]
  have hself : ∀ (a' g' : Goroutine), ((gs.map (woken P g a' w)).setIfInBounds i g')[i]? = some g' := fun a' g' => Array.getElem?_setIfInBounds_self_of_lt (by simpa using hlt)
  have hsum : ∀ k, q i = k + 1 → sumTo gs.size (upd q i k) < sumTo gs.size q := by
    intro k hqi
    have h2 : sumTo gs.size (upd q i k) + (k + 1) = sumTo gs.size q + k := by
      have := sumTo_upd q k id hlt
      simpa [hqi] using this
    omega
  have hid := C.idle i g hih hi
  cases e : Inb i with
  | none =>
    rw [e] at hid
    obtain ⟨hpos, hq⟩ := hid
    have hi0 : (i == 0) = false := by simp; omega
    cases hqi : q i with
    | zero => rw [hqi] at hq; rw [hq.1] at hrun; cases hrun
    | succ k =>
      rw [hqi] at hq
      rcases hq with ⟨hf, _⟩ | ⟨_, g', es, hm, hstp, hq'⟩
      · rw [hf] at hrun; cases hrun
      have hops : ∀ op ∈ MemOp.ofEvents i g.frame.fn g.frame.place es, op.g = i := fun op hop => by obtain ⟨e, _, rfl⟩ := Conc.mem_ofEvents hop; rfl
      refine ⟨_, _, upd q i k, runT_crowd_go (sl := sl) hi (by rw [hi0]; exact hstp w), by simp, harr _ _ h (Ne.symm hih), fun x hx => upd_ne q k hx, fun s hs _ => (by cases hs), ?_, hsum k hqi⟩
      refine C.put hih hlt (by simp) (harr _ _) (hself _ _) hops (by rw [e]; exact ⟨hpos, by rw [Deaf_own]; exact hq'⟩) ?_
      exact C.past.mute hops (fun op hop => by obtain ⟨e, he, rfl⟩ := Conc.mem_ofEvents hop; exact touch_mute (hm e he)) (fun hM => by
        rcases hM with z | ⟨s, z⟩
        · exact absurd z.1 hih
        · rw [e] at z; cases z)
  | some s =>
    rw [e] at hid
    have hkp := C.keep i s e
    obtain ⟨k, w₀, hqi, hg⟩ : ∃ k w₀, q i = k + 1 ∧ Goes P (i == 0) (RK s.keep) (DS s.still s.B) (fun g _ => ∃ g₂, AtIn P (i == 0) s.keep s.still s.B s.base g g₂) k g w₀ := by
      rcases hid with h | ⟨_, _, g₂, rfl, _⟩
      · exact h
      · cases hrun
    have hcase : (∃ g₂, AtIn P (i == 0) s.keep s.still s.B s.base g g₂) ∨ ∃ k' g' es, k = k' + 1 ∧ stepG P (i == 0) g w = .go g' w es ∧ (∀ e ∈ es, EvC s.still s.B e) ∧ Goes P (i == 0) (RK s.keep) (DS s.still s.B) (fun g _ => ∃ g₂, AtIn P (i == 0) s.keep s.still s.B s.base g g₂) k' g' w := by
      cases k with
      | zero => exact .inl (hg w hkp)
      | succ k' =>
        rcases hg with hstop | ⟨_, hstep⟩
        · exact .inl (hstop w hkp)
        · have hs := hstep w hkp
          cases hgo : stepG P (i == 0) g w with
          | go g' w' es =>
            rw [hgo, goes_go] at hs
            obtain ⟨⟨rfl, hes⟩, hG'⟩ := hs
            exact .inr ⟨k', g', es, rfl, rfl, hes, hG'⟩
          | _ => rw [hgo] at hs; exact hs.elim
    rcases hcase with ⟨g₂, hat⟩ | ⟨k', g', es, rfl, hgo, hes, hG'⟩
    · have hsO' := hsO s g₂ e hat
      obtain ⟨_, _, _, _, _, es, hes, hstp⟩ := id hat
      obtain ⟨hops, hr, hd⟩ := evC_ops' (s := s) (i := i) (fn := g.frame.fn) (pos := g.frame.place) hes
      have hw : ∀ cc ∈ s.base.cases, NoWays w (gs.setIfInBounds i ph) cc := by
        intro cc hcc
        rw [cases_base] at hcc
        obtain rfl : cc = rcase s.c s.z := by simpa using hcc
        obtain ⟨kk, hc⟩ := C.chans i s e
        refine ways_recv_none hc (partners_nil fun x y hy => ?_)
        rcases getElem?_stand gs i x y hy with ⟨_, rfl⟩ | ⟨hx, hy'⟩
        · exact offersAt_ph _ _
        · by_cases hS : x = h
          · subst hS; exact hsO' y hy'
          · exact C.noSend hS hy' _
      refine ⟨_, _, upd q i 0, crowd_waits (sl := sl) hi (hstp w hkp) hw, by simp, Array.getElem?_setIfInBounds_ne hih, fun x hx => upd_ne q 0 hx, fun s' hs' _ => (by obtain rfl := Option.some.inj hs'; exact ⟨g₂, hat⟩), ?_, ?_⟩
      · refine C.put hih hlt (by simp) (fun x hx => Array.getElem?_setIfInBounds_ne (fun z => hx z.symm)) (Array.getElem?_setIfInBounds_self_of_lt hlt) hops (by rw [e]; exact .inr ⟨rfl, g, g₂, rfl, hat⟩) ?_
        exact C.past.read hih hops (fun op hop b hb => ⟨(hr op hop b hb).1, s, e, (hr op hop b hb).2⟩) (hd T)
      · have h2 : sumTo gs.size (upd q i 0) + (k + 1) = sumTo gs.size q + 0 := by
          have := sumTo_upd q 0 id hlt
          simpa [hqi] using this
        omega
    · obtain ⟨hops, hr, hd⟩ := evC_ops' (s := s) (i := i) (fn := g.frame.fn) (pos := g.frame.place) hes
      refine ⟨_, _, upd q i (k' + 1), runT_crowd_go (sl := sl) hi hgo, by simp, harr _ _ h (Ne.symm hih), fun x hx => upd_ne q _ hx, fun s' _ h0 => (by rw [upd_same] at h0; omega), ?_, hsum _ hqi⟩
      refine C.put hih hlt (by simp) (harr _ _) (hself _ _) hops (by rw [e]; exact .inl ⟨k', w, rfl, hG'⟩) ?_
      exact C.past.read hih hops (fun op hop b hb => ⟨(hr op hop b hb).1, s, e, (hr op hop b hb).2⟩) (hd T)

/-- What a step of the holder's may list. -/
def EvH (Inb : Nat → Option Seat) (e : Event) : Prop := (∀ x, (MemAct.ofEvent e).touch? = some x → ∀ g, St Inb g x.loc → x.write = false) ∧ e.loc ≠ .mark .disable ∧ e.loc ≠ .mark .enable
/-- The holder's guarantee. -/
def DHold (Inb : Nat → Option Seat) (w w' : World) (es : Array Event) : Prop :=
  (∀ i s, Inb i = some s → s.keep w → s.keep w') ∧ (∀ i s, Inb i = some s → w'.heap[s.c]? = w.heap[s.c]?) ∧ ∀ e ∈ es, EvH Inb e

theorem evH_ops {i : Nat} {fn : FuncId} {pos : String} {es : Array Event} (he : ∀ e ∈ es, EvH Inb e) :
    (∀ op ∈ MemOp.ofEvents i fn pos es, op.g = i) ∧ (∀ op ∈ MemOp.ofEvents i fn pos es, ∀ b, op.act.touch? = some b → ∀ g, St Inb g b.loc → b.write = false) ∧ ∀ t : Trace, Deaf (t ++ MemOp.ofEvents i fn pos es) i = Deaf t i :=
  ⟨fun op hop => by obtain ⟨e, _, rfl⟩ := Conc.mem_ofEvents hop; rfl, fun op hop b hb => by obtain ⟨e, h, rfl⟩ := Conc.mem_ofEvents hop; exact (he e h).1 b hb,
    fun t => by rw [Deaf_own]; exact deafBehind_still (fun e h => ⟨(he e h).2.1, (he e h).2.2⟩) _⟩

theorem Core.deafs (C : Core P Inb h dd T gs w q) {ops : Array MemOp} (hops : ∀ op ∈ ops, op.g = h) (hd : Deaf (T ++ ops) h = Deaf T h) : ∀ x, Deaf (T ++ ops) x = Deaf T x := fun x => by
  by_cases e : x = h
  · subst e; exact hd
  · exact Deaf_other T (fun z => e z.symm) _ hops

/-- The holder's own step. -/
theorem Core.own (C : Core P Inb h dd T gs w q) {a a' : Goroutine} {w' : World} {es : Array Event} (ha : gs[h]? = some a) (hd : DHold Inb w w' es) :
    Core P Inb h dd (T ++ MemOp.ofEvents h a.frame.fn a.frame.place es) ((gs.map (woken P a a' w')).setIfInBounds h a') w' q ∧ ((gs.map (woken P a a' w')).setIfInBounds h a')[h]? = some a' := by
  have hlt : h < gs.size := (Array.getElem?_eq_some_iff.1 ha).1
  obtain ⟨hops, hs, hdf⟩ := evH_ops (i := h) (fn := a.frame.fn) (pos := a.frame.place) hd.2.2
  have hD := C.deafs hops (hdf T)
  have C' : Core P Inb h dd T gs w' q := ⟨C.idle, fun i s e => by obtain ⟨k, hk⟩ := C.chans i s e; exact ⟨k, by rw [hd.2.1 i s e]; exact hk⟩, C.wf, C.inj, C.above, C.free, C.past, C.deaf, fun i s e => hd.1 i s e (C.keep i s e)⟩
  refine ⟨⟨fun x y hx hy => ?_, C'.chans, C.wf, C.inj, fun j hj => ?_, C.free, C.past.own hops hs (fun _ => hdf T), (hdf T).trans C.deaf, C'.keep⟩, Array.getElem?_setIfInBounds_self_of_lt (by simpa using hlt)⟩
  · rw [Array.getElem?_setIfInBounds_ne (fun e => hx e.symm), Array.getElem?_map] at hy
    obtain ⟨y₀, hy₀, rfl⟩ := Option.map_eq_some_iff.1 hy
    rw [woken_of_again (C'.fixed hx hy₀)]
    have hi := C.idle x y₀ hx hy₀
    cases es' : Inb x with
    | none => rw [es'] at hi; exact ⟨hi.1, by rw [hD]; exact hi.2⟩
    | some s => rw [es'] at hi; exact hi
  · simp only [Array.size_setIfInBounds, Array.size_map] at hj
    rw [hD]; exact C.above j hj

theorem Core.awake (C : Core P Inb h dd T gs w q) {a : Goroutine} (ha : gs[h]? = some a) (hs : a.status = .running ∨ a.status = .blocked) : ∀ g ∈ gs, awake g := by
  intro g hg
  obtain ⟨i, hi, rfl⟩ := Array.mem_iff_getElem.1 hg
  by_cases e : i = h
  · subst e
    have : gs[i] = a := by simpa [Array.getElem?_eq_getElem hi] using ha
    rw [this]; exact awake_of (hs.elim .inl fun x => .inr (.inl x))
  · have hid := C.idle i _ e (Array.getElem?_eq_getElem hi)
    cases es : Inb i with
    | none => rw [es] at hid; exact awake_of (hid.2.status.elim .inl fun x => .inr (.inr x))
    | some s => rw [es] at hid; exact awake_of ((Sits.status (C.keep i s es) hid).elim (fun x => .inl x.1) fun x => .inr (.inl x.1))

/-- The holder, running, is picked in the end. -/
theorem picked {a : Goroutine} {sl : Option (Nat × Nat)} (ha : gs[h]? = some a) (hrun : a.status = .running) (C : Core P Inb h dd T gs w q) :
    ∃ (N : Nat) (gs' : Array Goroutine) (d d' : Nat) (sl' sl'' : Option (Nat × Nat)) (T' : Trace) (q' : Nat → Nat), runNT P N (crowd gs w sl) T = (.next (crowd gs' (w.at d) sl'), T') ∧
      stepT P (crowd gs' (w.at d) sl') = runT P (crowd gs' (w.at d') sl'') h ∧ gs'.size = gs.size ∧ gs'[h]? = some a ∧ Core P Inb h dd T' gs' (w.at d') q' := by
  obtain ⟨N, m', T', hr, gs', d, d', sl', sl'', q', rfl, hst, hsz, ha', C'⟩ := runs_until (P := P)
    (Inv := fun μ m t => ∃ gs₁ d sl₁ q₁, m = crowd gs₁ (w.at d) sl₁ ∧ gs₁.size = gs.size ∧ gs₁[h]? = some a ∧ Core P Inb h dd t gs₁ (w.at d) q₁ ∧ μ = sumTo gs₁.size q₁)
    (Done := fun m t => ∃ gs₁ d d' sl₁ sl₂ q₁, m = crowd gs₁ (w.at d) sl₁ ∧ stepT P (crowd gs₁ (w.at d) sl₁) = runT P (crowd gs₁ (w.at d') sl₂) h ∧ gs₁.size = gs.size ∧ gs₁[h]? = some a ∧ Core P Inb h dd t gs₁ (w.at d') q₁)
    (fun μ m t ⟨gs₁, d, sl₁, q₁, hm, hsz, ha₁, C₁, hμ⟩ => by
      subst hm
      obtain ⟨i, g, d', sl', hi, hg, hst⟩ := crowd_pick (P := P) (w := w.at d) (sl := sl₁) (C₁.awake ha₁ (.inl hrun)) ⟨h, a, ha₁, hrun⟩
      rw [at_at'] at hst
      have Cd : Core P Inb h dd t gs₁ (w.at d') q₁ := C₁.at d'
      by_cases e : i = h
      · subst e
        exact .inl ⟨gs₁, d, d', sl₁, sl', q₁, rfl, hst, hsz, ha₁, Cd⟩
      · obtain ⟨gs', ops, q', hrt, hsz', hsp, _, _, C', hlt⟩ := Cd.by_step (sl := sl') hi e hg
          (fun gx hgx => by rw [ha₁] at hgx; obtain rfl := Option.some.inj hgx; exact again_of_running (.inl hrun) _)
          (fun s g₂ _ _ gx hgx => by rw [ha₁] at hgx; obtain rfl := Option.some.inj hgx; exact offersAt_of_not_blocked (by rw [hrun]; simp) _ _)
        exact .inr ⟨_, _, sumTo gs'.size q', by rw [hst]; exact hrt, by rw [hsz']; omega, gs', d', sl', q', rfl, hsz'.trans hsz, by rw [hsp]; exact ha₁, C', rfl⟩)
    _ _ T ⟨gs, w.drawn, sl, q, rfl, rfl, ha, C, rfl⟩
  exact ⟨N, gs', d, d', sl', sl'', T', q', hr, hst, hsz, ha', C'⟩

/-- The holder's walk, on whatever tape. -/
theorem hold_walk {D : World → World → Array Event → Prop} {S : Goroutine → World → Prop} (hD : ∀ w w' es, D w w' es → DHold Inb w w' es) {a : Goroutine} (hG : WalkI P (h == 0) D S a w) :
    ∀ {gs : Array Goroutine} {T : Trace} {q : Nat → Nat} {sl : Option (Nat × Nat)}, gs[h]? = some a → Core P Inb h dd T gs w q →
      ∃ (N : Nat) (gs' : Array Goroutine) (a' : Goroutine) (w' : World) (sl' : Option (Nat × Nat)) (T' : Trace) (q' : Nat → Nat),
        runNT P N (crowd gs w sl) T = (.next (crowd gs' w' sl'), T') ∧ gs'.size = gs.size ∧ gs'[h]? = some a' ∧ S a' w' ∧ Core P Inb h dd T' gs' w' q' := by
  induction hG with
  | stop g w hs => intro gs T q sl ha C; exact ⟨0, gs, g, w, sl, T, q, rfl, rfl, ha, hs, C⟩
  | step g w g' w' es hr hs hd _ ih =>
    intro gs T q sl ha C
    obtain ⟨N, gs₁, d, d', sl₁, sl₂, T₁, q₁, hrn, hst, hsz, ha₁, C₁⟩ := picked (sl := sl) ha hr C
    have hgo := hs d'
    have hstep := runT_crowd_go (P := P) (sl := sl₂) ha₁ (show stepG P (h == 0) g (w.at d') = .go (g' d') (w' d') (es d') from hgo)
    obtain ⟨C₂, ha₂⟩ := C₁.own (a' := g' d') ha₁ (hD _ _ _ (hd d'))
    obtain ⟨M, gs₃, a₃, w₃, sl₃, T₃, q₃, hr3, hsz3, ha3, hS3, C3⟩ := ih d' (sl := sl₂) ha₂ C₂
    exact ⟨N + 1 + M, gs₃, a₃, w₃, sl₃, T₃, q₃, runNT_then (runNT_succ_of hrn (hst.trans hstep)) hr3, by rw [hsz3]; simpa using hsz, ha3, hS3, C3⟩

/-- The holder's step that lists marks alone, whatever becomes of its hearing. -/
theorem hold_turn {dd' : Nat} {a a' : Goroutine} {es : Array Event} {sl : Option (Nat × Nat)} (ha : gs[h]? = some a) (hrun : a.status = .running) (hgo : ∀ d, stepG P (h == 0) a (w.at d) = .go a' (w.at d) es) (hes : ∀ e ∈ es, (MemAct.ofEvent e).touch? = none) (hdd : deafBehind dd es = dd') (C : Core P Inb h dd T gs w q) :
    ∃ (N : Nat) (gs' : Array Goroutine) (d : Nat) (sl' : Option (Nat × Nat)) (T' : Trace) (q' : Nat → Nat), runNT P N (crowd gs w sl) T = (.next (crowd gs' (w.at d) sl'), T') ∧ gs'.size = gs.size ∧ gs'[h]? = some a' ∧ Core P Inb h dd' T' gs' (w.at d) q' := by
  obtain ⟨N, gs₁, d, d', sl₁, sl₂, T₁, q₁, hrn, hst, hsz, ha₁, C₁⟩ := picked (sl := sl) ha hrun C
  have hlt : h < gs₁.size := (Array.getElem?_eq_some_iff.1 ha₁).1
  have hstep := runT_crowd_go (P := P) (sl := sl₂) ha₁ (hgo d')
  have hops : ∀ op ∈ MemOp.ofEvents h a.frame.fn a.frame.place es, op.g = h := fun op hop => by obtain ⟨e, _, rfl⟩ := Conc.mem_ofEvents hop; rfl
  have hn : ∀ op ∈ MemOp.ofEvents h a.frame.fn a.frame.place es, op.act.touch? = none := fun op hop => by obtain ⟨e, he, rfl⟩ := Conc.mem_ofEvents hop; exact hes e he
  have hD : Deaf (T₁ ++ MemOp.ofEvents h a.frame.fn a.frame.place es) h = dd' := by rw [Deaf_own, C₁.deaf]; exact hdd
  have hO : ∀ x, x ≠ h → Deaf (T₁ ++ MemOp.ofEvents h a.frame.fn a.frame.place es) x = Deaf T₁ x := fun x hx => Deaf_other T₁ (fun z => hx z.symm) _ hops
  refine ⟨N + 1, _, d', sl₂, _, q₁, runNT_succ_of hrn (hst.trans hstep), by simp [hsz], Array.getElem?_setIfInBounds_self_of_lt (by simpa using hlt), ?_⟩
  refine ⟨fun x y hx hy => ?_, C₁.chans, C₁.wf, C₁.inj, fun j hj => ?_, C₁.free, C₁.past.turn hops hn (fun g hg hne => ?_) (fun hg => ?_), hD, C₁.keep⟩
  · rw [Array.getElem?_setIfInBounds_ne (fun e => hx e.symm), Array.getElem?_map] at hy
    obtain ⟨y₀, hy₀, rfl⟩ := Option.map_eq_some_iff.1 hy
    rw [woken_of_again (C₁.fixed hx hy₀)]
    have hi := C₁.idle x y₀ hx hy₀
    cases es' : Inb x with
    | none => rw [es'] at hi; exact ⟨hi.1, by rw [hO x hx]; exact hi.2⟩
    | some s => rw [es'] at hi; exact hi
  · simp only [Array.size_setIfInBounds, Array.size_map] at hj
    rw [hO j (by omega)]; exact C₁.above j hj
  · rcases hg with z | z
    · exact absurd z.1 hne
    · exact .inr z
  · rcases hg with z | ⟨s, z⟩
    · rw [hD]; exact z.2
    · rw [C₁.free] at z; cases z
end
end Go.Proofs.Ytcpiafgkmakdiaa.SX.Tok

/-
  The holder sends on a channel where another sits: that one holds from then on. The holder starts a goroutine that goes to a seat of its own.
-/
import Derived.Test.YtcpiafgkmakdiaaSxTok2
set_option linter.unusedSectionVars false
set_option linter.unusedVariables false
set_option linter.unusedSimpArgs false
namespace Go.Proofs.Ytcpiafgkmakdiaa.SX.Tok
open Go.Conc
open Go.ConcN (sumTo upd sumTo_upd upd_ne upd_same)

/-- The seats behind a send from h to j: h takes a seat, or none; j's is free. -/
def pass (Inb : Nat → Option Seat) (h j : Nat) (so : Option Seat) (x : Nat) : Option Seat := if x = j then none else if x = h then so else Inb x

theorem pass_j (Inb : Nat → Option Seat) (h j : Nat) (so : Option Seat) : pass Inb h j so j = none := by simp [pass]
theorem pass_h (Inb : Nat → Option Seat) {h j : Nat} (hjh : j ≠ h) (so : Option Seat) : pass Inb h j so h = so := by simp [pass, Ne.symm hjh]
theorem pass_ne (Inb : Nat → Option Seat) {h j x : Nat} (so : Option Seat) (hj : x ≠ j) (hh : x ≠ h) : pass Inb h j so x = Inb x := by simp [pass, hj, hh]

/-- What is asked of a new seat: its channel is there, open, empty; nobody else sits there; what it leans on stands. -/
structure Fresh (Inb : Nat → Option Seat) (w : World) (s : Seat) : Prop where
  wf : s.Wf
  keep : s.keep w
  chan : ∃ k, w.heap[s.c]? = some (.chan 0 #[] false k k false)
  apart : ∀ i s', Inb i = some s' → s'.c ≠ s.c

section
variable {P : Program} {Inb : Nat → Option Seat} {h : Nat} {T : Trace} {gs : Array Goroutine} {w : World} {q : Nat → Nat}

/-- The frame behind a meeting. -/
theorem Core.pass (C : Core P Inb h 0 T gs w q) {j : Nat} {s : Seat} (hjh : j ≠ h) (hjlt : j < gs.size) (hlth : h < gs.size) (hj : Inb j = some s) {k : Nat} (hc : w.heap[s.c]? = some (.chan 0 #[] false k k false)) {gs' : Array Goroutine} {T' : Trace} {H' : Goroutine} (hsz : gs'.size = gs.size)
    (hoth : ∀ x, x ≠ h → x ≠ j → gs'[x]? = gs[x]?) (hH : gs'[h]? = some H') (hDeaf : ∀ x, Deaf T' x = Deaf T x) {so : Option Seat} (hso : ∀ s', so = some s' → Fresh Inb w s') {nh : Nat} (hafter : Rest P T' h nh H' so)
    (hpast : Held (St (pass Inb h j so)) (Mem (pass Inb h j so) j 0) j T') : Core P (pass Inb h j so) j 0 T' gs' (w.setChan s.c 0 #[] false (k + 1) (k + 1) false) (upd q h nh) := by
  have inb : ∀ x s', Tok.pass Inb h j so x = some s' → x ≠ j ∧ ((x = h ∧ so = some s') ∨ (x ≠ h ∧ Inb x = some s')) := by
    intro x s' e
    unfold Tok.pass at e
    split at e
    · cases e
    · rename_i hx
      split at e
      · rename_i hxh; exact ⟨hx, .inl ⟨hxh, e⟩⟩
      · rename_i hxh; exact ⟨hx, .inr ⟨hxh, e⟩⟩
  have ne : ∀ x s', Tok.pass Inb h j so x = some s' → s.c ≠ s'.c := by
    intro x s' e
    obtain ⟨hx, ⟨_, e'⟩ | ⟨_, e'⟩⟩ := inb x s' e
    · exact (hso s' e').apart j s hj
    · exact fun ec => hx (C.inj x j s' s e' hj ec.symm)
  refine ⟨fun x y hx hy => ?_, fun x s' e => ?_, fun x s' e => ?_, fun x x' s₁ s₂ e₁ e₂ ec => ?_, fun x hx => ⟨by rw [hDeaf]; exact (C.above x (by omega)).1, ?_⟩, pass_j _ _ _ _, hpast, hpast.hears j (.inl ⟨rfl, rfl⟩), fun x s' e => ?_⟩
  · by_cases e : x = h
    · subst e
      rw [hH] at hy
      obtain rfl := Option.some.inj hy
      rw [upd_same, pass_h Inb hjh]; exact hafter
    · rw [hoth x e hx] at hy
      rw [upd_ne q nh e, pass_ne Inb so hx e]
      have hi := C.idle x y e hy
      cases es : Inb x with
      | none => rw [es] at hi; exact ⟨hi.1, by rw [hDeaf]; exact hi.2⟩
      | some s' => rw [es] at hi; exact hi
  · obtain ⟨k', hk'⟩ : ∃ k', w.heap[s'.c]? = some (.chan 0 #[] false k' k' false) := by
      obtain ⟨_, ⟨_, e'⟩ | ⟨_, e'⟩⟩ := inb x s' e
      · exact (hso s' e').chan
      · exact C.chans x s' e'
    exact ⟨k', by rw [heap_setChan_ne w _ _ _ _ _ _ (ne x s' e)]; exact hk'⟩
  · obtain ⟨_, ⟨_, e'⟩ | ⟨_, e'⟩⟩ := inb x s' e
    · exact (hso s' e').wf
    · exact C.wf x s' e'
  · obtain ⟨_, ⟨a1, b1⟩ | ⟨a1, b1⟩⟩ := inb x s₁ e₁ <;> obtain ⟨_, ⟨a2, b2⟩ | ⟨a2, b2⟩⟩ := inb x' s₂ e₂
    · rw [a1, a2]
    · exact absurd ec.symm ((hso s₁ b1).apart x' s₂ b2)
    · exact absurd ec ((hso s₂ b2).apart x s₁ b1)
    · exact C.inj x x' s₁ s₂ b1 b2 ec
  · rw [pass_ne Inb so (by omega) (by omega)]; exact (C.above x (by omega)).2
  · have hk : s'.keep w := by
      obtain ⟨_, ⟨_, e'⟩ | ⟨_, e'⟩⟩ := inb x s' e
      · exact (hso s' e').keep
      · exact C.keep x s' e'
    have hw : s'.Wf := by
      obtain ⟨_, ⟨_, e'⟩ | ⟨_, e'⟩⟩ := inb x s' e
      · exact (hso s' e').wf
      · exact C.wf x s' e'
    exact hw.chan _ _ _ _ _ _ _ _ _ _ _ _ _ _ hc hk

theorem Core.held_pass (C : Core P Inb h 0 T gs w q) {j : Nat} {s : Seat} (hjh : j ≠ h) (hj : Inb j = some s) {so : Option Seat} (hso : ∀ s', so = some s' → Fresh Inb w s') {t : Trace} (H : Held (St Inb) (Mem Inb h 0) h t) (fh : FuncId) (ph : String) (fj : FuncId) (pj : String) {c : Nat} (k cap : Nat) :
    Held (St (Tok.pass Inb h j so)) (Mem (Tok.pass Inb h j so) j 0) j (t ++ met h j fh ph fj pj c k cap) := by
  have H2 := H.give (St' := St (Tok.pass Inb h j so)) (j := j) (.inl ⟨rfl, rfl⟩) (.inr ⟨s, hj⟩) hjh
    (fun g l h1 h2 ⟨s', e, hs⟩ => ⟨s', by rw [pass_ne Inb so h2 h1] at e; exact e, hs⟩) (fun g l h1 h2 ⟨s', e, hs⟩ => ⟨s', by rw [pass_ne Inb so h2 h1]; exact e, hs⟩)
    (fun l ⟨s', e, _⟩ => by rw [pass_j] at e; cases e) (fun l ⟨s', e, hs⟩ => by rw [pass_h Inb hjh] at e; exact (hso s' e).wf.mem l hs) fh ph fj pj (c := c) k cap
  refine ⟨H2.clean, H2.known, H2.wrote, fun g hg => H2.hears g ?_⟩
  rcases hg with ⟨rfl, _⟩ | ⟨s', e⟩
  · exact .inr ⟨s, hj⟩
  · by_cases e1 : g = h
    · exact .inl ⟨e1, rfl⟩
    · by_cases e2 : g = j
      · subst e2; exact .inr ⟨s, hj⟩
      · rw [pass_ne Inb so e2 e1] at e; exact .inr ⟨s', e⟩

/-- Where goroutine j holds, Conc.served with v. -/
def Given (P : Program) (Inb' : Nat → Option Seat) (j : Nat) (s : Seat) (n : Nat) (w : World) (v : Value) (m : Machine) (t : Trace) : Prop :=
  ∃ (gs' : Array Goroutine) (g₂ : Goroutine) (d k : Nat) (sl' : Option (Nat × Nat)) (q' : Nat → Nat), m = crowd gs' ((w.at d).setChan s.c 0 #[] false (k + 1) (k + 1) false) sl' ∧ gs'.size = n ∧ gs'[j]? = some (Conc.served g₂ (recvd s.ok v true)) ∧ s.home g₂ ∧
    w.heap[s.c]? = some (.chan 0 #[] false k k false) ∧ Core P Inb' j 0 t gs' ((w.at d).setChan s.c 0 #[] false (k + 1) (k + 1) false) q'

/-- The holder's record is laid anew, the world standing; what the step listed is the holder's. -/
theorem Core.setH (C : Core P Inb h 0 T gs w q) (x : Goroutine) {fn : FuncId} {pos : String} {es : Array Event} (hes : ∀ e ∈ es, EvH Inb e) : Core P Inb h 0 (T ++ MemOp.ofEvents h fn pos es) (gs.setIfInBounds h x) w q := by
  obtain ⟨hops, hs, hdf⟩ := evH_ops (i := h) (fn := fn) (pos := pos) hes
  have hD := C.deafs hops (hdf T)
  refine ⟨fun y g hy hg => ?_, C.chans, C.wf, C.inj, fun j hj => ?_, C.free, C.past.own hops hs (fun _ => hdf T), (hdf T).trans C.deaf, C.keep⟩
  · rw [Array.getElem?_setIfInBounds_ne (fun e => hy e.symm)] at hg
    have hi := C.idle y g hy hg
    cases e : Inb y with
    | none => rw [e] at hi; exact ⟨hi.1, by rw [hD]; exact hi.2⟩
    | some s => rw [e] at hi; exact hi
  · simp only [Array.size_setIfInBounds] at hj
    rw [hD]; exact C.above j hj

/-- The holder stands at a send where j sits, or is on its way: on whatever tape j holds in the end, served. -/
theorem give {a a₂ : Goroutine} {j : Nat} {s : Seat} {v z' : Value} {es : Array Event} {sl : Option (Nat × Nat)} (hjh : j ≠ h) (hjlt : j < gs.size) (hj : Inb j = some s) (ha : gs[h]? = some a) (hrun : a.status = .running)
    (hsend : ∀ d, stepG P (h == 0) a (w.at d) = .comm a₂ #[scase s.c v z'] true .send (w.at d) es) (hes : ∀ e ∈ es, EvH Inb e) (C : Core P Inb h 0 T gs w q) {so : Option Seat} (hso : ∀ s', so = some s' → Fresh Inb w s') {nh : Nat} (hafter : ∀ T', Deaf T' h = 0 → Rest P T' h nh (Conc.served a₂ undef) so) :
    ∃ N m' T', runNT P N (crowd gs w sl) T = (.next m', T') ∧ Given P (Tok.pass Inb h j so) j s gs.size w v m' T' := by
  obtain ⟨k, hc⟩ := C.chans j s hj
  have hk : s.base.cases[0]? = some (rcase s.c s.z) := rfl
  have hu : ∀ (m : Nat) (cc : CommCase), m ≠ 0 → s.base.cases[m]? = some cc → cc.chan ≠ .chan (some s.c) := by
    intro m cc hm hcc
    rcases m with _ | m
    · exact absurd rfl hm
    · simp [cases_base] at hcc
  refine runs_until (P := P)
    (Inv := fun μ m t => Given P (Tok.pass Inb h j so) j s gs.size w v m t ∨ ∃ gs₁ d sl₁ q₁, ∃ pk : Bool, m = crowd gs₁ (w.at d) sl₁ ∧ gs₁.size = gs.size ∧ gs₁[h]? = some (if pk then parked a₂ #[scase s.c v z'] .send else a) ∧
      Core P Inb h 0 t gs₁ (w.at d) q₁ ∧ (pk = true → 0 < q₁ j) ∧ μ = sumTo gs₁.size q₁ + (if pk then 0 else 1))
    (fun μ m t hInv => ?_) _ _ T (.inr ⟨gs, w.drawn, sl, q, false, rfl, rfl, ha, C, by simp, rfl⟩)
  rcases hInv with hdone | ⟨gs₁, d, sl₁, q₁, pk, rfl, hsz, ha₁, C₁, hpk, hμ⟩
  · exact .inl hdone
  refine .inr ?_
  obtain ⟨gj, hgj⟩ : ∃ gj, gs₁[j]? = some gj := ⟨gs₁[j]'(by omega), Array.getElem?_eq_getElem (by omega)⟩
  have hlth : h < gs₁.size := (Array.getElem?_eq_some_iff.1 ha₁).1
  have hSj : Sits P (j == 0) s.keep s.still s.B s.base (q₁ j) gj := by have := C₁.idle j gj hjh hgj; rw [hj] at this; exact this
  have hsome : ∃ (i : Nat) (g : Goroutine), gs₁[i]? = some g ∧ g.status = .running := by
    cases pk with
    | false => exact ⟨h, a, ha₁, hrun⟩
    | true => exact ⟨j, gj, hgj, (Sits.status (C₁.keep j s hj) hSj).elim (·.1) (fun z => by have := hpk rfl; omega)⟩
  obtain ⟨i, g, d', sl', hi, hg, hst⟩ := crowd_pick (P := P) (w := w.at d) (sl := sl₁) (C₁.awake ha₁ (by cases pk <;> simp [hrun, parked])) hsome
  rw [at_at'] at hst
  have Cd : Core P Inb h 0 t gs₁ (w.at d') q₁ := C₁.at d'
  have hcd : (w.at d').heap[s.c]? = some (.chan 0 #[] false k k false) := hc
  have hsod : ∀ s', so = some s' → Fresh Inb (w.at d') s' := fun s' e => ⟨(hso s' e).wf, (hso s' e).wf.at' w d' (hso s' e).keep, (hso s' e).chan, (hso s' e).apart⟩
  -- behind either meeting
  have fin : ∀ (gs' : Array Goroutine) (ops₀ : Array MemOp) (g₂ : Goroutine), gs'.size = gs₁.size → (∀ x, x ≠ h → x ≠ j → gs'[x]? = gs₁[x]?) → gs'[h]? = some (Conc.served a₂ undef) → gs'[j]? = some (Conc.served g₂ (recvd s.ok v true)) → s.home g₂ →
      Held (St Inb) (Mem Inb h 0) h (t ++ ops₀) → (∀ x, Deaf (t ++ ops₀) x = Deaf t x) →
      Given P (Tok.pass Inb h j so) j s gs.size w v (crowd gs' ((w.at d').setChan s.c 0 #[] false (k + 1) (k + 1) false) sl') (t ++ (ops₀ ++ met h j a₂.frame.fn a₂.frame.place g₂.frame.fn g₂.frame.place s.c k 0)) := by
    intro gs' ops₀ g₂ hsz' hoth hH hJ hhome p1 hD0
    have hDeaf : ∀ x, Deaf (t ++ (ops₀ ++ met h j a₂.frame.fn a₂.frame.place g₂.frame.fn g₂.frame.place s.c k 0)) x = Deaf t x := fun x => by rw [← Array.append_assoc, Deaf_quiet (met_quiet _ _ _ _ _ _ _ _ _ x), hD0]
    have p2 := Cd.held_pass hjh hj hsod p1 a₂.frame.fn a₂.frame.place g₂.frame.fn g₂.frame.place (c := s.c) k 0
    rw [Array.append_assoc] at p2
    exact ⟨gs', g₂, d', k, sl', upd q₁ h nh, rfl, hsz'.trans hsz, hJ, hhome, hc, Cd.pass hjh (by omega) hlth hj hcd hsz' hoth hH hDeaf hsod (hafter _ (by rw [hDeaf]; exact C₁.past.hears h (.inl ⟨rfl, rfl⟩))) p2⟩
  have hμpos : 0 < μ := by
    cases pk with
    | false => simp at hμ; omega
    | true =>
      have h1 := hpk rfl
      have h2 : q₁ j ≤ sumTo gs₁.size q₁ := Go.ConcN.le_sumTo (f := q₁) (by omega)
      simp at hμ; omega
  have hcr : commResult s.base.cases s.base.shape 0 v true = recvd s.ok v true := commResult_one _ _ _ _ _ _
  by_cases e : i = h
  · subst e
    cases pk with
    | true => rw [ha₁] at hi; obtain rfl := Option.some.inj hi; cases hg
    | false =>
      obtain rfl : g = a := by rw [ha₁] at hi; exact (Option.some.inj hi).symm
      obtain ⟨hops, hs, hdf⟩ := evH_ops (i := i) (fn := g.frame.fn) (pos := g.frame.place) hes
      have hoff : ∀ (x : Nat) (y : Goroutine), x ≠ j → (gs₁.setIfInBounds i ph)[x]? = some y → offersAt y s.c false = [] := by
        intro x y hxj hy
        rcases getElem?_stand gs₁ i x y hy with ⟨_, rfl⟩ | ⟨hx, hy'⟩
        · exact offersAt_ph _ _
        · exact Cd.noRecvAt hx hy' fun s' hs' hc' => hxj (C₁.inj x j s' s hs' hj hc')
      rcases hSj with ⟨kk, w₀, hq, hG⟩ | ⟨hq0, g₀, g₂, rfl, hat⟩
      · -- j is on its way: the holder is parked at its send
        have hjr : gj.status = .running := (Sits.status (C₁.keep j s hj) (.inl ⟨kk, w₀, hq, hG⟩)).elim (·.1) (fun z => by omega)
        have hp : partners (gs₁.setIfInBounds i ph) s.c false = [] := partners_nil fun x y hy => by
          by_cases hxj : x = j
          · subst hxj
            rw [stand_get hjh hgj] at hy
            obtain rfl := Option.some.inj hy
            exact offersAt_of_not_blocked (by rw [hjr]; simp) _ _
          · exact hoff x y hxj hy
        have hw : ∀ cc ∈ #[scase s.c v z'], NoWays (w.at d') (gs₁.setIfInBounds i ph) cc := by
          intro cc hcc
          simp only [List.mem_toArray, List.mem_cons, List.not_mem_nil, or_false] at hcc
          subst hcc
          exact ways_send_none hcd (Nat.le_refl _) hp
        exact ⟨_, _, sumTo gs₁.size q₁ + 0, by rw [hst]; exact crowd_waits (sl := sl') hi (hsend d') hw, by simp at hμ; omega, .inr ⟨_, d', sl', q₁, true, rfl, by simpa using hsz, Array.getElem?_setIfInBounds_self_of_lt hlth, Cd.setH _ hes, fun _ => by omega, by simp⟩⟩
      · -- j is parked: the meeting
        have hp : partners (gs₁.setIfInBounds i ph) s.c false = [(j, 0)] := by
          rw [partners_one (stand_get hjh hgj) fun x y hxj hy => hoff x y hxj hy, offersAt_parked_at hk hu]
          rfl
        refine ⟨_, _, 0, by rw [hst]; exact crowd_send_meets_sel (sl := sl') hi (hsend d') hcd hjh hgj hk hp, hμpos, .inl ?_⟩
        exact fin _ _ g₂ (by simp) (fun x hx hxj => by rw [Array.getElem?_setIfInBounds_ne (fun z => hx z.symm), Array.getElem?_setIfInBounds_ne (fun z => hxj z.symm)]) (Array.getElem?_setIfInBounds_self_of_lt (by simpa using hlth))
          (by rw [Array.getElem?_setIfInBounds_ne (fun z => hjh z.symm), Array.getElem?_setIfInBounds_self_of_lt (by omega), finishComm_served]; exact congrArg (fun x => some (Conc.served g₂ x)) hcr) hat.2.2.2.2.1 (C₁.past.own hops hs fun _ => hdf t) (Cd.deafs hops (hdf t))
  · by_cases ej : i = j ∧ pk = true ∧ ∃ g₂, AtIn P (i == 0) s.keep s.still s.B s.base g g₂
    · -- j comes to its receive and meets the parked holder
      obtain ⟨rfl, rfl, g₂, hat⟩ := ej
      obtain ⟨_, _, _, _, hhome, esj, hesj, hstp⟩ := hat
      obtain ⟨hops, hr, hd⟩ := evC_ops' (s := s) (i := i) (fn := g.frame.fn) (pos := g.frame.place) hesj
      have hp : partners (gs₁.setIfInBounds i ph) s.c true = [(h, 0)] := by
        rw [partners_one (stand_get (Ne.symm hjh) ha₁) fun x y hxh hy => by
          rcases getElem?_stand gs₁ i x y hy with ⟨_, rfl⟩ | ⟨_, hy'⟩
          · exact offersAt_ph _ _
          · exact Cd.noSend hxh hy' _]
        simp [offersAt_parked_send]
      have ho : ∀ (m : Nat) (c' : CommCase), m ≠ 0 → s.base.cases[m]? = some c' → NoWays (w.at d') (gs₁.setIfInBounds i ph) c' := by
        intro m c' hm hc'
        rcases m with _ | m
        · exact absurd rfl hm
        · simp [cases_base] at hc'
      refine ⟨_, _, 0, by rw [hst]; exact crowd_sel_recv_meets (sl := sl') hi (hstp _ (Cd.keep i s hj)) hk ho hcd (Ne.symm hjh) ha₁ hp, hμpos, .inl ?_⟩
      exact fin _ _ g₂ (by simp) (fun x hx hxj => by rw [Array.getElem?_setIfInBounds_ne (fun z => hxj z.symm), Array.getElem?_setIfInBounds_ne (fun z => hx z.symm)])
        (by rw [Array.getElem?_setIfInBounds_ne hjh, Array.getElem?_setIfInBounds_self_of_lt hlth, finishComm_send]) (by rw [Array.getElem?_setIfInBounds_self_of_lt (by simp; omega), finishComm_served]; exact congrArg (fun x => some (Conc.served g₂ x)) hcr) hhome
        (C₁.past.read hjh hops (fun op hop b hb => ⟨(hr op hop b hb).1, s, hj, (hr op hop b hb).2⟩) (hd t))
        (fun x => by
          by_cases ex : x = i
          · subst ex; exact hd t
          · exact Deaf_other t (fun z => ex z.symm) _ hops)
    · -- a bystander's step
      obtain ⟨gs', ops, q', hrt, hsz', hsp, hqo, hq0, C', hlt⟩ := Cd.by_step (sl := sl') hi e hg
        (fun gx hgx => by
          rw [ha₁] at hgx; obtain rfl := Option.some.inj hgx
          cases pk with
          | false => exact again_of_running (.inl hrun) _
          | true => exact again_send_open hcd)
        (fun s' g₂ hs' hat gx hgx => by
          rw [ha₁] at hgx; obtain rfl := Option.some.inj hgx
          cases pk with
          | false => exact offersAt_of_not_blocked (by simp [hrun]) _ _
          | true =>
            simp only [if_true]
            rw [offersAt_parked_send, if_neg]
            intro ec
            have hij : i = j := C₁.inj i j s' s hs' hj ec.symm
            subst hij
            rw [hj] at hs'
            obtain rfl := Option.some.inj hs'
            exact ej ⟨rfl, rfl, g₂, hat⟩)
      refine ⟨_, _, sumTo gs'.size q' + (if pk then 0 else 1), by rw [hst]; exact hrt, by rw [hsz']; omega, .inr ⟨gs', d', sl', q', pk, rfl, hsz'.trans hsz, by rw [hsp]; exact ha₁, C', fun hp => ?_, rfl⟩⟩
      subst hp
      by_cases hij : j = i
      · subst hij
        rcases Nat.eq_zero_or_pos (q' j) with h0 | h0
        · obtain ⟨g₂, hat⟩ := hq0 s hj h0
          exact absurd ⟨rfl, rfl, g₂, hat⟩ ej
        · exact h0
      · rw [hqo j hij]; exact hpk rfl

/-- The holder stands at a go statement; the child goes to a seat of its own. -/
theorem hire {a a' child : Goroutine} {es : Array Event} {sl : Option (Nat × Nat)} (ha : gs[h]? = some a) (hrun : a.status = .running) (hgo : ∀ d, stepG P (h == 0) a (w.at d) = .spawn a' child (w.at d) es) (hes : ∀ e ∈ es, EvH Inb e) (C : Core P Inb h 0 T gs w q)
    (sn : Seat) (hsn : Fresh Inb w sn) {nc : Nat} (hchild : Sits P false sn.keep sn.still sn.B sn.base nc child) :
    ∃ (N : Nat) (gs' : Array Goroutine) (d : Nat) (sl' : Option (Nat × Nat)) (T' : Trace) (q' : Nat → Nat), runNT P N (crowd gs w sl) T = (.next (crowd gs' (w.at d) sl'), T') ∧ gs'.size = gs.size + 1 ∧ gs'[h]? = some a' ∧ Core P (upd Inb gs.size (some sn)) h 0 T' gs' (w.at d) q' := by
  obtain ⟨N, gs₁, d, d', sl₁, sl₂, T₁, q₁, hr, hst, hsz, ha₁, C₁⟩ := picked (sl := sl) ha hrun C
  have hlt : h < gs₁.size := (Array.getElem?_eq_some_iff.1 ha₁).1
  obtain ⟨hops, hs, hdf⟩ := evH_ops (i := h) (fn := a.frame.fn) (pos := a.frame.place) hes
  have hrt := runT_crowd_spawn (P := P) (sl := sl₂) ha₁ (hgo d')
  have hpush : ((MemOp.ofEvents h a.frame.fn a.frame.place es).push { g := h, fn := a.frame.fn, pos := a.frame.place, act := .go gs₁.size } |>.push { g := gs₁.size, fn := child.frame.fn, pos := a.frame.place, act := .start }) =
      MemOp.ofEvents h a.frame.fn a.frame.place es ++ #[{ g := h, fn := a.frame.fn, pos := a.frame.place, act := .go gs₁.size }, { g := gs₁.size, fn := child.frame.fn, pos := a.frame.place, act := .start }] := by
    apply Array.ext'; simp
  rw [hpush] at hrt
  have p1 := C₁.past.own hops hs fun _ => hdf T₁
  have hD1 := C₁.deafs hops (hdf T₁)
  have hnone : Inb gs₁.size = none := (C₁.above _ (Nat.le_refl _)).2
  have hup : ∀ x, x ≠ gs₁.size → upd Inb gs₁.size (some sn) x = Inb x := fun x hx => upd_ne Inb _ hx
  have p2 := p1.hire (c := gs₁.size) (St' := St (upd Inb gs₁.size (some sn))) (.inl ⟨rfl, rfl⟩) (by rw [hD1]; exact (C₁.above _ (Nat.le_refl _)).1) (by omega)
    (fun g l hg => ⟨fun ⟨s, e, x⟩ => ⟨s, by rw [hup g hg] at e; exact e, x⟩, fun ⟨s, e, x⟩ => ⟨s, by rw [hup g hg]; exact e, x⟩⟩)
    (fun l ⟨s, e, _⟩ => by rw [hnone] at e; cases e) (fun l ⟨s, e, x⟩ => by rw [upd_same] at e; obtain rfl := Option.some.inj e; exact hsn.wf.mem l x) a.frame.fn a.frame.place child.frame.fn
  rw [Array.append_assoc] at p2
  have hD2 : ∀ x, Deaf (T₁ ++ (MemOp.ofEvents h a.frame.fn a.frame.place es ++ #[{ g := h, fn := a.frame.fn, pos := a.frame.place, act := .go gs₁.size }, { g := gs₁.size, fn := child.frame.fn, pos := a.frame.place, act := .start }])) x = Deaf T₁ x := fun x => by
    rw [← Array.append_assoc, Deaf_quiet (fun op hop d => by
      simp only [List.mem_toArray, List.mem_cons, List.not_mem_nil, or_false] at hop
      rcases hop with rfl | rfl <;> rfl), hD1]
  refine ⟨N + 1, _, d', sl₂, _, upd q₁ gs₁.size nc, runNT_succ_of hr (hst.trans hrt), by simp [hsz], (by rw [Array.getElem?_push, if_neg (by simp; omega)]; exact Array.getElem?_setIfInBounds_self_of_lt hlt), ?_⟩
  rw [← hsz]
  refine ⟨fun x y hx hy => ?_, fun i s e => ?_, fun i s e => ?_, fun i i' s₁ s₂ e₁ e₂ ec => ?_, fun x hx => ?_, by rw [hup h (by omega)]; exact C₁.free, ⟨p2.clean, p2.known, p2.wrote, fun g hg => p2.hears g ?_⟩, (hD2 h).trans C₁.deaf, fun i s e => ?_⟩
  · by_cases ex : x = gs₁.size
    · subst ex
      rw [Array.getElem?_push, if_pos (by simp)] at hy
      obtain rfl := Option.some.inj hy
      rw [upd_same, upd_same]
      have : (gs₁.size == 0) = false := by rw [beq_eq_false_iff_ne]; omega
      show Sits P (gs₁.size == 0) sn.keep sn.still sn.B sn.base nc child
      rw [this]; exact hchild
    · have hxl : x < gs₁.size := by
        have := (Array.getElem?_eq_some_iff.1 hy).1
        simp at this; omega
      rw [Array.getElem?_push, if_neg (by simp; omega), Array.getElem?_setIfInBounds_ne (fun z => hx z.symm)] at hy
      rw [upd_ne q₁ nc ex, hup x ex]
      have hi := C₁.idle x y hx hy
      cases e : Inb x with
      | none => rw [e] at hi; exact ⟨hi.1, by rw [hD2]; exact hi.2⟩
      | some s => rw [e] at hi; exact hi
  · by_cases ei : i = gs₁.size
    · subst ei
      rw [upd_same] at e
      obtain rfl := Option.some.inj e
      exact hsn.chan
    · rw [hup i ei] at e
      exact C₁.chans i s e
  · by_cases ei : i = gs₁.size
    · subst ei
      rw [upd_same] at e
      obtain rfl := Option.some.inj e
      exact hsn.wf
    · rw [hup i ei] at e
      exact C₁.wf i s e
  · by_cases e1 : i = gs₁.size <;> by_cases e2 : i' = gs₁.size
    · rw [e1, e2]
    · subst e1
      rw [upd_same] at e₁; rw [hup i' e2] at e₂
      obtain rfl := Option.some.inj e₁
      exact absurd ec.symm (hsn.apart i' s₂ e₂)
    · subst e2
      rw [upd_same] at e₂; rw [hup i e1] at e₁
      obtain rfl := Option.some.inj e₂
      exact absurd ec (hsn.apart i s₁ e₁)
    · rw [hup i e1] at e₁; rw [hup i' e2] at e₂
      exact C₁.inj i i' s₁ s₂ e₁ e₂ ec
  · simp only [Array.size_push, Array.size_setIfInBounds] at hx
    exact ⟨by rw [hD2]; exact (C₁.above x (by omega)).1, by rw [hup x (by omega)]; exact (C₁.above x (by omega)).2⟩
  · rcases hg with ⟨rfl, _⟩ | ⟨s, e⟩
    · exact .inl (.inl ⟨rfl, rfl⟩)
    · by_cases eg : g = gs₁.size
      · exact .inr eg
      · rw [hup g eg] at e; exact .inl (.inr ⟨s, e⟩)
  · by_cases ei : i = gs₁.size
    · subst ei
      rw [upd_same] at e
      obtain rfl := Option.some.inj e
      exact hsn.wf.at' w d' hsn.keep
    · rw [hup i ei] at e
      exact C₁.keep i s e

/-- Goroutine 0 beside goroutines that only leave. -/
theorem begins {B : Nat} (hL : Leavers P T gs q) (hP : Past (fun _ => False) B T) : Core P (fun _ => none) 0 0 T gs w q :=
  ⟨fun i g hi hg => ⟨Nat.pos_of_ne_zero hi, hL.old i g (Nat.pos_of_ne_zero hi) hg⟩, fun _ _ e => (by cases e), fun _ _ e => (by cases e), fun _ _ _ _ e => (by cases e), fun j hj => ⟨hL.above j hj, rfl⟩, rfl,
    ⟨hP.clean, fun i a ha hm => (hP.known i a ha hm).imp id fun x => x.1.elim, fun _ _ _ _ _ hg => (by obtain ⟨s, e, _⟩ := hg; cases e), fun g hg => hg.elim (fun e => e.1 ▸ hP.hears) (fun x => (by obtain ⟨s, e⟩ := x; cases e))⟩, hP.hears, fun _ _ e => (by cases e)⟩

/-- Goroutine 0 holds and nobody has a seat: all others only leave, and all is known to it. -/
theorem over (C : Core P Inb 0 0 T gs w q) (hI : ∀ i, Inb i = none) : Leavers P T gs q ∧ ∃ B, Past (fun _ => False) B T := by
  obtain ⟨B, hB⟩ := low_some T
  refine ⟨⟨fun i g hi hg => by have := C.idle i g (by omega) hg; rw [hI i] at this; exact this.2, fun j hj => (C.above j hj).1⟩, B, C.past.over (.inl ⟨rfl, rfl⟩) (fun g l ⟨s, e, _⟩ => by rw [hI g] at e; cases e) hB⟩
end
end Go.Proofs.Ytcpiafgkmakdiaa.SX.Tok

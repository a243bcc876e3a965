/-
  The crew, sound: the frame between two moves; the holder's walk.
-/
import Derived.Test.YtcpiafgkmakdiaaSxCrew1
set_option linter.unusedSectionVars false
set_option linter.unusedVariables false
set_option linter.unusedSimpArgs false
namespace Go.Proofs.Ytcpiafgkmakdiaa.SX
open Go.Conc

/-- What lies below: goroutine 0's callers; another's base. -/
def csOf (P : Program) (cs : List Frame) (i : Nat) : List Frame := if i = 0 then cs else [baseF P]

structure CrewSound (P : Program) (O : Orc) (ext : Ext) (sum : Sums) : Prop where
  facts : ∀ own Ev lock still, (⟨P, O, own, Ev, lock, still⟩ : Ctx).Facts
  ext : ∀ own Ev lock still, (⟨P, O, own, Ev, lock, still⟩ : Ctx).Good → ExtOk ⟨P, O, own, Ev, lock, still⟩ ext
  offs : ∀ p ∈ O.offs, ExtFact P p.1 (fun _ => do mark (match p.2 with | true => .disable | false => .enable); pure Extern.Race.none_)
  sum : ∀ own Ev lock still main, (⟨P, O, own, Ev, lock, still⟩ : Ctx).Good → SumOk ⟨P, O, own, Ev, lock, still⟩ main sum

/-- The frame between two moves. -/
structure CFr (P : Program) (O : Orc) (base : Nat) (W0 : World) (cs : List Frame) (st : CSt) (gs : Array Goroutine) (w : World) (T : Trace) (q : Nat → Nat) (Inb : Nat → Option Tok.Seat) (U : Nat → Prop) (ρ : Env) (γ : Nat → Nat) (a : Goroutine) : Prop where
  core : Tok.Core P Inb (γ st.h) st.deaf T gs w q
  zero : γ 0 = 0
  inj : ∀ i j, i < st.next → j < st.next → γ i = γ j → i = j
  lt : ∀ i, i < st.next → γ i < gs.size
  hlt : st.h < st.next
  here : gs[γ st.h]? = some a
  ids : CIds (CK P O base st.seats ρ) U st.c
  gam : Gam (CK P O base st.seats ρ) ρ st.c (csOf P cs st.h) a w
  seats : ∀ s ∈ st.seats, s.id < st.next ∧ s.id ≠ st.h ∧ ∃ t, Inb (γ s.id) = some t ∧ SeatIs P O base U ρ (csOf P cs s.id) s t
  all : ∀ i t, Inb i = some t → ∃ s ∈ st.seats, i = γ s.id
  nodup : (st.seats.map ASeat.id).Nodup
  keeps : Keeps (fun n => base ≤ n) W0 w
  mem : ∀ p ∈ O.mem, (p.1.ev ρ).block < base

def CInv (P : Program) (O : Orc) (base : Nat) (W0 : World) (cs : List Frame) (st : CSt) (m : Machine) (T : Trace) : Prop :=
  ∃ gs w sl q Inb U ρ γ a, m = crowd gs w sl ∧ CFr P O base W0 cs st gs w T q Inb U ρ γ a

section
variable {P : Program} {O : Orc} {ext : Ext} {sum : Sums} {base : Nat} {W0 : World} {cs : List Frame} {st : CSt} {gs : Array Goroutine} {w : World} {T : Trace} {q : Nat → Nat} {Inb : Nat → Option Tok.Seat} {U : Nat → Prop} {ρ : Env} {γ : Nat → Nat} {a : Goroutine} {m : Machine}

theorem CFr.all' (F : CFr P O base W0 cs st gs w T q Inb U ρ γ a) : ∀ i t, Inb i = some t → ∃ s ∈ st.seats, ∃ cs, SeatIs P O base U ρ cs s t := by
  intro i t e
  obtain ⟨s, hs, rfl⟩ := F.all i t e
  obtain ⟨_, _, t', e', S⟩ := F.seats s hs
  rw [e'] at e
  cases e
  exact ⟨s, hs, _, S⟩

theorem CFr.orc (F : CFr P O base W0 cs st gs w T q Inb U ρ γ a) : O.In U := F.ids.ids.orc

/-- The holder's walk, up to whatever it comes to. -/
theorem CFr.go (F : CFr P O base W0 cs st gs w T q Inb U ρ γ a) {S : Goroutine → World → Prop} {N : Nat} (W : Walk P (γ st.h == 0) (DK (CK P O base st.seats ρ)) S N a w) (sl : Option (Nat × Nat)) :
    ∃ M gs' a' w' sl' T' q', runNT P M (crowd gs w sl) T = (.next (crowd gs' w' sl'), T') ∧ gs'.size = gs.size ∧ gs'[γ st.h]? = some a' ∧ S a' w' ∧ Tok.Core P Inb (γ st.h) st.deaf T' gs' w' q' :=
  Tok.hold_walk (DK_hold F.mem F.all') W F.here F.core

theorem Keeps.out {seats : List ASeat} {w' : World} (h : Keeps (CK P O base seats ρ).own w w') : Keeps (fun n => base ≤ n) w w' := h.mono fun n hn => hn.1

theorem crew_call (X : CrewSound P O ext sum) {seats : List ASeat} (hm : ∀ p ∈ O.mem, (p.1.ev ρ).block < base) {main : Bool} {f : Nat} {c : ACfg} {r : ACfg ⊕ (AE × AH)} (hs : step? P O ext (fun g args h => match sum g args h with
      | some r => r
      | none => match enterA P g args .normal with
        | .ok fr => run? P O ext sum f ⟨fr, [], h⟩
        | .error e => .error e) c = .ok r) : StepPost (CK P O base seats ρ) main c r := by
  have Gd := CK_good (P := P) (seats := seats) hm
  have F0 : (CK P O base seats ρ).Facts := X.facts (CK P O base seats ρ).own (CK P O base seats ρ).Ev (CK P O base seats ρ).lock (CK P O base seats ρ).still
  have X0 : ExtOk (CK P O base seats ρ) ext := X.ext (CK P O base seats ρ).own (CK P O base seats ρ).Ev (CK P O base seats ρ).lock (CK P O base seats ρ).still Gd
  have Z0 : SumOk (CK P O base seats ρ) main sum := X.sum (CK P O base seats ρ).own (CK P O base seats ρ).Ev (CK P O base seats ρ).lock (CK P O base seats ρ).still main Gd
  exact step_ok (K := CK P O base seats ρ) (main := main) Gd F0 X0 (callOk_of (K := CK P O base seats ρ) Z0 (k := run? P O ext sum f) (run_ok (K := CK P O base seats ρ) Gd F0 X0 Z0)) hs

theorem cinv_walk (X : CrewSound P O ext sum) {f : Nat} {c' : ACfg} (hs : step? P O ext (fun g args h => match sum g args h with
      | some r => r
      | none => match enterA P g args .normal with
        | .ok fr => run? P O ext sum f ⟨fr, [], h⟩
        | .error e => .error e) st.c = .ok (.inl c')) (I : CInv P O base W0 cs st m T) : ∃ N m' T', runNT P N m T = (.next m', T') ∧ CInv P O base W0 cs { st with c := c' } m' T' := by
  obtain ⟨gs, w, sl, q, Inb, U, ρ, γ, a, rfl, F⟩ := I
  obtain ⟨N, L⟩ := crew_call X (seats := st.seats) (main := γ st.h == 0) F.mem hs
  obtain ⟨M, gs', a', w', sl', T', q', hr, hsz, ha, ⟨ρ', A, kp, gr, hin, Γ⟩, C'⟩ := F.go (L U ρ (csOf P cs st.h) a w F.ids F.gam) sl
  have hO : O.In U := F.orc
  have hseat : ∀ s ∈ st.seats, U s.ch ∧ ∀ p ∈ s.stills, p.1.In U := fun s hs => by
    obtain ⟨_, _, t, _, S⟩ := F.seats s hs
    exact ⟨S.uch, fun p hp => (S.us p hp).1⟩
  have eK : CK P O base st.seats ρ' = CK P O base st.seats ρ := CK_agree A hseat hO
  refine ⟨M, _, T', hr, gs', w', sl', q', Inb, plus U st.c.h.nb c'.h.nb, ρ', γ, a', rfl, ?_⟩
  refine ⟨C', F.zero, F.inj, fun i hi => by rw [hsz]; exact F.lt i hi, F.hlt, ha, by rw [eK]; exact hin, by rw [eK]; exact Γ, fun s hs => ?_, F.all, F.nodup, F.keeps.trans kp.out, fun p hp => ?_⟩
  · obtain ⟨h1, h2, t, e, S⟩ := F.seats s hs
    exact ⟨h1, h2, t, e, S.agree A hO plus_sub⟩
  · rw [AA.ev_agree A (hO.mem p hp).1]; exact F.mem p hp
end

/-! ### A seat taken -/
section
variable {P : Program} {O : Orc} {base : Nat} {ρ : Env} {U : Nat → Prop} {cs : List Frame} {hp : List (Nat × ABlk)} {nb lim : Nat} {seats : List ASeat} {w : World}

theorem reads1_ok {p : AA × AV} (h : reads1 hp p = true) : ∃ i n b v, p.1 = ⟨.dyn i, .lit (.ofNat n)⟩ ∧ findB i hp = some b ∧ b.cs[n]? = some v ∧ b.lendable = true ∧ v = p.2 := by
  unfold reads1 at h
  split at h
  · rename_i i n e
    split at h
    · rename_i b hb
      split at h
      · rename_i v hv
        simp only [Bool.and_eq_true] at h
        exact ⟨i, n, b, v, e, hb, hv, h.1, AV.eqb_eq v p.2 h.2⟩
      · cases h
    · cases h
  · cases h
theorem readsAll_ok : ∀ {l : List (AA × AV)}, readsAll hp l = true → ∀ p ∈ l, reads1 hp p = true
  | q :: l, h, p, hpm => by
    unfold readsAll at h
    split at h
    · rename_i hq
      rcases List.mem_cons.1 hpm with e | hpm
      · subst e; exact hq
      · exact readsAll_ok h p hpm
    · cases h
theorem reads_stills {l : List (AA × AV)} (h : readsAll hp l = true) : stillsAt hp l = true := by
  induction l with
  | nil => rfl
  | cons p l ih =>
    have h1 := readsAll_ok h p (List.mem_cons_self ..)
    have h2 : readsAll hp l = true := by
      unfold readsAll at h
      split at h
      · exact h
      · cases h
    obtain ⟨i, n, b, v, e1, e2, e3, e4, e5⟩ := reads1_ok h1
    unfold stillsAt
    have : stillAt hp p = true := by
      unfold stillAt
      rw [e1]
      simp only [e2]
      exact e4
    rw [this]
    exact ih h2

theorem noExt_ok (K : Ctx) : ExtOk K noExt := by
  intro U ρ h w f args v h' _ _ _ he
  cases he

theorem knows_sound {ext : Ext} {sum : Sums} (X : CrewSound P O ext sum) (l : List (AA × AV)) : Sound P (O.knows l) noExt :=
  ⟨fun own Ev lock still => ⟨(X.facts own Ev lock still).fns, (X.facts own Ev lock still).ext, (X.facts own Ev lock still).mixed⟩, fun own Ev still _ => noExt_ok _⟩
theorem bare_sound {ext : Ext} {sum : Sums} (X : CrewSound P O ext sum) : Sound P O.bare noExt :=
  ⟨fun own Ev lock still => ⟨(X.facts own Ev lock still).fns, (X.facts own Ev lock still).ext, (X.facts own Ev lock still).mixed⟩, fun own Ev still _ => noExt_ok _⟩

/-- The seat that goes with closed data. -/
noncomputable def seatOf (P : Program) (O : Orc) (U : Nat → Prop) (ρ : Env) (cs : List Frame) (B : Nat) (s : ASeat) : Tok.Seat :=
  ⟨ρ.b s.ch, s.z, s.ok, stillOf (O.knows s.stills) ρ, Known (O.knows s.stills) ρ, B, fun g => LIds U s.cfg ∧ LGam P ρ s.cfg cs g⟩

theorem known_at {O' : Orc} {w : World} (k : Known O' ρ w) (d : Nat) : Known O' ρ (w.at d) := ⟨k.bs, k.is, k.mem⟩
theorem known_heap {O' : Orc} {w w' : World} (k : Known O' ρ w) (h : ∀ (n : Nat) o, w.heap[n]? = some o → (∀ k, o ≠ .chan 0 #[] false k k false) → w'.heap[n]? = some o) (hn : ∀ p ∈ O'.mem, ∀ o, w.heap[(p.1.ev ρ).block]? = some o → ∀ k, o ≠ .chan 0 #[] false k k false) : Known O' ρ w' := by
  refine ⟨k.bs, k.is, fun p hp => ?_⟩
  have m2 := k.mem p hp
  simp only [World.cell?] at m2 ⊢
  cases ho : w.heap[(p.1.ev ρ).block]? with
  | none => rw [ho] at m2; cases m2
  | some o =>
    rw [h _ _ ho (hn p hp o ho)]
    rw [ho] at m2
    exact m2

theorem seat_wf (B : Nat) (s : ASeat) : (seatOf P O U ρ cs B s).Wf := by
  refine ⟨fun w d k => known_at k d, fun w c cap buf cl a b tm cap' buf' cl' a' b' tm' hc k => ?_, fun l ⟨p, _, e⟩ => by rw [e]; rfl⟩
  have k' : Known (O.knows s.stills) ρ w := k
  refine ⟨k'.bs, k'.is, fun p hp => ?_⟩
  have m2 := k'.mem p hp
  by_cases e : c = (p.1.ev ρ).block
  · simp only [World.cell?] at m2
    rw [← e, hc] at m2
    cases m2
  · simp only [World.cell?] at m2 ⊢
    rw [heap_setChan_ne w _ _ _ _ _ _ e]
    exact m2

/-- What closed data say of a seat, in memory. -/
theorem seat_known (R : Rel (CK P O base seats ρ) ρ ⟨hp, nb, lim⟩ w) {l : List (AA × AV)} (h : readsAll hp l = true) : Known (O.knows l) ρ w := by
  refine ⟨R.bs, R.is, fun p hpm => ?_⟩
  rcases List.mem_append.1 hpm with h1 | h1
  · obtain ⟨i, n, b, v, e1, e2, e3, e4, e5⟩ := reads1_ok (readsAll_ok h p h1)
    obtain ⟨arr, ha, hf⟩ := R.arr e2 (isMem_get e3)
    rw [e1, ← e5]
    rw [show AA.ev ρ ⟨.dyn i, .lit (.ofNat n)⟩ = ⟨ρ.b i, n, none⟩ from rfl, cell?_of ha]
    exact fits_get hf e3
  · exact (R.mem p h1).2.1

theorem seat_in (I : Ids (CK P O base seats ρ) U ⟨hp, nb, lim⟩) {l : List (AA × AV)} (h : readsAll hp l = true) : ∀ p ∈ l, p.1.In U ∧ p.2.In U := by
  intro p hpm
  obtain ⟨i, n, b, v, e1, e2, e3, e4, e5⟩ := reads1_ok (readsAll_ok h p hpm)
  refine ⟨by rw [e1]; exact ⟨I.keys i (findB_key e2), trivial⟩, ?_⟩
  rw [← e5]
  have hb := I.hp i b e2
  have : AV.Ins U b.cs := by
    cases b with
    | cells cs e => exact hb
    | lent cs e l => exact hb
    | _ => cases e4
  exact Ins_iff.1 this _ (List.mem_of_getElem? e3)

theorem seat_is (R : Rel (CK P O base seats ρ) ρ ⟨hp, nb, lim⟩ w) (I : Ids (CK P O base seats ρ) U ⟨hp, nb, lim⟩) (B : Nat) {s : ASeat} (hr : readsAll hp s.stills = true) (hc : findB s.ch hp = some .chan) (hge : base ≤ ρ.b s.ch) :
    SeatIs P O base U ρ cs s (seatOf P O U ρ cs B s) := by
  refine ⟨rfl, hge, rfl, rfl, fun l ⟨p, hp, e⟩ => ⟨p, hp, e⟩, fun w' => ⟨fun k p hp => ?_, fun k => ⟨R.bs, R.is, fun p hp => k p hp⟩⟩, fun g h => h, I.keys _ (findB_key hc), seat_in I hr⟩
  have k' : Known (O.knows s.stills) ρ w' := k
  exact k'.mem p hp
end
end Go.Proofs.Ytcpiafgkmakdiaa.SX

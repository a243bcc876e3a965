/-
  The crew, sound: what the holder's context is; what waits against the closed data; the heap behind a change of seats.
-/
import Derived.Test.YtcpiafgkmakdiaaSxCrew
import Derived.Test.YtcpiafgkmakdiaaSxLoose3
import Derived.Test.YtcpiafgkmakdiaaSxChunkOk
set_option linter.unusedSectionVars false
set_option linter.unusedVariables false
set_option linter.unusedSimpArgs false
namespace Go.Proofs.Ytcpiafgkmakdiaa.SX
open Go.Conc

def seatCh (seats : List ASeat) (ρ : Env) (b : Nat) : Prop := ∃ s ∈ seats, b = ρ.b s.ch
def stillC (seats : List ASeat) (ρ : Env) (b n : Nat) : Prop := ∃ s ∈ seats, ∃ p ∈ s.stills, p.1.ev ρ = ⟨b, n, none⟩
def stillS (seats : List ASeat) (ρ : Env) (b n : Nat) : Prop := stillC seats ρ b n ∨ (n = 0 ∧ seatCh seats ρ b)
def keptA (O : Orc) (seats : List ASeat) (ρ : Env) (a : Addr) : Prop := stillS seats ρ a.block a.off ∨ ∃ p ∈ O.mem, p.1.ev ρ = a
/-- No write of such a place; no mark that deafens or touches. -/
def crewEv (N : Addr → Prop) (e : Event) : Prop := (∀ a s, e = ⟨.cell a, true, s⟩ → ¬ N a) ∧ ∀ m, e.loc = .mark m → markOk m = true
/-- The holder's context. -/
def CK (P : Program) (O : Orc) (base : Nat) (seats : List ASeat) (ρ : Env) : Ctx := ⟨P, O, fun n => base ≤ n ∧ ¬ seatCh seats ρ n, crewEv (keptA O seats ρ), False, stillS seats ρ⟩

section
variable {P : Program} {O : Orc} {base : Nat} {seats : List ASeat} {ρ ρ' : Env} {U U' : Nat → Prop} {cs : List Frame}

theorem ev_read (N : Addr → Prop) (a : Addr) (s : Bool) : crewEv N ⟨.cell a, false, s⟩ := ⟨fun a' s' e => by (cases e), fun m e => by (cases e)⟩
theorem ev_obj (N : Addr → Prop) (r : Nat) (wr s : Bool) : crewEv N ⟨.obj r, wr, s⟩ := ⟨fun a' s' e => by (cases e), fun m e => by (cases e)⟩
theorem ev_mark (N : Addr → Prop) {m : Mark} (h : markOk m = true) : crewEv N ⟨.mark m, false, true⟩ := ⟨fun a' s' e => by (cases e), fun m' e => by (cases e; exact h)⟩

theorem CK_good (hm : ∀ p ∈ O.mem, (p.1.ev ρ).block < base) : (CK P O base seats ρ).Good := by
  refine ⟨fun a s _ => ev_read _ a s, fun a s ho hn => ⟨fun a' s' e => ?_, fun m e => by (cases e)⟩, fun b n s hs he => he.1 ⟨b, n, none⟩ s rfl (.inl hs), fun m h => ev_mark _ h, ev_mark _ rfl, fun h => h.elim, fun r wr s _ => ev_obj _ r wr s⟩
  cases e
  rintro (h | ⟨p, hp, he⟩)
  · exact hn h
  · have := hm p hp
    rw [he] at this
    exact absurd ho.1 (Nat.not_le.2 this)

/-- What waits: the closed data and the seat. -/
structure SeatIs (P : Program) (O : Orc) (base : Nat) (U : Nat → Prop) (ρ : Env) (cs : List Frame) (s : ASeat) (t : Tok.Seat) : Prop where
  c : t.c = ρ.b s.ch
  ge : base ≤ ρ.b s.ch
  z : t.z = s.z
  ok : t.ok = s.ok
  still : ∀ l, t.still l → ∃ p ∈ s.stills ++ O.mem, l = .cell (p.1.ev ρ)
  keep : ∀ w, t.keep w ↔ ∀ p ∈ s.stills ++ O.mem, w.cell? (p.1.ev ρ) = some (p.2.ev ρ)
  home : ∀ g, t.home g → LIds U s.cfg ∧ LGam P ρ s.cfg cs g
  uch : U s.ch
  us : ∀ p ∈ s.stills, p.1.In U ∧ p.2.In U

theorem LGam.agree (A : Agree U ρ ρ') {c : ACfg} (I : LIds U c) {g : Goroutine} (Γ : LGam P ρ c cs g) : LGam P ρ' c cs g := by
  obtain ⟨fr, frs, h1, h2, h3⟩ := Γ
  exact ⟨fr, frs, h1.agree A I.cur, callers_agree A h2 I.callers, h3⟩

theorem SeatIs.agree {s : ASeat} {t : Tok.Seat} (h : SeatIs P O base U ρ cs s t) (A : Agree U ρ ρ') (hO : O.In U) (hs : ∀ n, U n → U' n) : SeatIs P O base U' ρ' cs s t := by
  have hb : ρ'.b s.ch = ρ.b s.ch := A.b _ h.uch
  have hin : ∀ p ∈ s.stills ++ O.mem, p.1.In U ∧ p.2.In U := fun p hp => (List.mem_append.1 hp).elim (h.us p) (hO.mem p)
  refine ⟨by rw [hb]; exact h.c, by rw [hb]; exact h.ge, h.z, h.ok, fun l hl => ?_, fun w => ?_, fun g hg => ?_, hs _ h.uch, fun p hp => ⟨AA.In.mono hs (h.us p hp).1, AV.In.mono hs _ (h.us p hp).2⟩⟩
  · obtain ⟨p, hp, e⟩ := h.still l hl
    exact ⟨p, hp, by rw [AA.ev_agree A (hin p hp).1]; exact e⟩
  · rw [h.keep]
    exact ⟨fun x p hp => by rw [AA.ev_agree A (hin p hp).1, AV.ev_agree A _ (hin p hp).2]; exact x p hp, fun x p hp => by have := x p hp; rwa [AA.ev_agree A (hin p hp).1, AV.ev_agree A _ (hin p hp).2] at this⟩
  · obtain ⟨I, Γ⟩ := h.home g hg
    exact ⟨⟨I.cur.mono hs, fun fr hf => (I.callers fr hf).mono hs⟩, Γ.agree A I⟩

theorem CK_agree (A : Agree U ρ ρ') (h1 : ∀ s ∈ seats, U s.ch ∧ ∀ p ∈ s.stills, p.1.In U) (hO : O.In U) : CK P O base seats ρ' = CK P O base seats ρ := by
  have e1 : seatCh seats ρ' = seatCh seats ρ := by
    funext b
    exact propext ⟨fun ⟨s, hs, e⟩ => ⟨s, hs, by rw [← A.b _ (h1 s hs).1]; exact e⟩, fun ⟨s, hs, e⟩ => ⟨s, hs, by rw [A.b _ (h1 s hs).1]; exact e⟩⟩
  have e2 : stillC seats ρ' = stillC seats ρ := by
    funext b n
    exact propext ⟨fun ⟨s, hs, p, hp, e⟩ => ⟨s, hs, p, hp, by rw [← AA.ev_agree A ((h1 s hs).2 p hp)]; exact e⟩, fun ⟨s, hs, p, hp, e⟩ => ⟨s, hs, p, hp, by rw [AA.ev_agree A ((h1 s hs).2 p hp)]; exact e⟩⟩
  have e3 : stillS seats ρ' = stillS seats ρ := by unfold stillS; rw [e1, e2]
  have e4 : keptA O seats ρ' = keptA O seats ρ := by
    funext a
    unfold keptA
    rw [e3]
    exact propext ⟨fun h => h.imp id fun ⟨p, hp, e⟩ => ⟨p, hp, by rw [← AA.ev_agree A (hO.mem p hp).1]; exact e⟩, fun h => h.imp id fun ⟨p, hp, e⟩ => ⟨p, hp, by rw [AA.ev_agree A (hO.mem p hp).1]; exact e⟩⟩
  unfold CK
  rw [e1, e3, e4]

theorem AA.ev_none (ρ : Env) (a : AA) : a.ev ρ = ⟨(a.ev ρ).block, (a.ev ρ).off, none⟩ := rfl

/-- The holder's guarantee, in the token's words. -/
theorem DK_hold {Inb : Nat → Option Tok.Seat} (hm : ∀ p ∈ O.mem, (p.1.ev ρ).block < base) (all : ∀ i t, Inb i = some t → ∃ s ∈ seats, ∃ cs, SeatIs P O base U ρ cs s t) :
    ∀ w w' es, DK (CK P O base seats ρ) w w' es → Tok.DHold Inb w w' es := by
  rintro w w' es ⟨hk, he, hst⟩
  refine ⟨fun i t e hkp => ?_, fun i t e => ?_, fun e hee => ?_⟩
  · obtain ⟨s, hs, cs, S⟩ := all i t e
    rw [S.keep] at hkp ⊢
    intro p hp
    rcases List.mem_append.1 hp with hp' | hp'
    · have := hkp p hp
      rw [AA.ev_none] at this ⊢
      exact hst _ _ _ (.inl ⟨s, hs, p, hp', AA.ev_none ρ p.1⟩) this
    · have := hkp p hp
      have hn : ¬ (CK P O base seats ρ).own (p.1.ev ρ).block := fun h => absurd h.1 (Nat.not_le.2 (hm p hp'))
      simp only [World.cell?] at this ⊢
      rw [hk.heap _ hn]; exact this
  · obtain ⟨s, hs, cs, S⟩ := all i t e
    exact hk.heap _ fun h => h.2 ⟨s, hs, S.c⟩
  · have hE : crewEv (keptA O seats ρ) e := he e hee
    refine ⟨fun x hx g hg => ?_, fun e1 => ?_, fun e1 => ?_⟩
    · obtain ⟨t, ht, hl⟩ := hg
      obtain ⟨s, hs, cs, S⟩ := all g t ht
      obtain ⟨p, hp, hp2⟩ := S.still _ hl
      have hN : keptA O seats ρ (p.1.ev ρ) := (List.mem_append.1 hp).elim (fun h => .inl (.inl ⟨s, hs, p, h, AA.ev_none ρ p.1⟩)) fun h => .inr ⟨p, h, rfl⟩
      obtain ⟨loc, wr, sy⟩ := e
      cases loc with
      | cell a =>
        have hx' : some (⟨.cell a, wr, if sy then .atomic else .plain⟩ : Touch) = some x := hx
        cases hx'
        have ea : a = p.1.ev ρ := by simpa using hp2
        cases wr with
        | false => rfl
        | true => exact absurd hN (ea ▸ hE.1 a sy rfl)
      | mark m =>
        have hmk := hE.2 m rfl
        cases m <;> first | (cases hmk; done) | cases hx
      | obj r =>
        cases wr <;> cases sy <;> (cases hx; try cases hp2)
      | output =>
        have hx' : some (⟨.output, wr, if sy then .atomic else .plain⟩ : Touch) = some x := hx
        cases hx'; cases hp2
      | goroutines =>
        have hx' : some (⟨.goroutines, wr, if sy then .atomic else .plain⟩ : Touch) = some x := hx
        cases hx'; cases hp2
    · have := hE.2 _ e1; cases this
    · have := hE.2 _ e1; cases this

/-! ### The heap behind a change of seats -/
theorem findB_relabel (ss : List ASeat) : ∀ (hp : List (Nat × ABlk)) (i : Nat), findB i (relabel ss hp) = (findB i hp).map fun b => b.lend (offsOf i ss)
  | [], i => rfl
  | p :: l, i => by
    show findB i ((p.1, p.2.lend (offsOf p.1 ss)) :: relabel ss l) = _
    rw [find_cons, find_cons, findB_relabel ss l i]
    cases e : Nat.beq i p.1 with
    | true =>
      have := Nat.eq_of_beq_eq_true e
      subst this
      rfl
    | false => rfl

theorem keys_relabel (ss : List ASeat) : ∀ (hp : List (Nat × ABlk)), keys (relabel ss hp) = keys hp
  | [] => rfl
  | p :: l => by show p.1 :: keys (relabel ss l) = p.1 :: keys l; rw [keys_relabel ss l]

theorem isChan_lend (b : ABlk) (ls : List Nat) : (b.lend ls).isChan = b.isChan := by cases b <;> first | rfl | (cases ls <;> rfl)
theorem lend_is {b : ABlk} {o : Obj} (h : b.is P ρ o) (ls : List Nat) : (b.lend ls).is P ρ o := by
  cases b with
  | cells cs e => cases ls <;> exact h
  | lent cs e l => cases ls <;> exact h
  | _ => exact h
theorem lend_in {b : ABlk} (h : b.In U) (ls : List Nat) : (b.lend ls).In U := by
  cases b with
  | cells cs e => cases ls <;> exact h
  | lent cs e l => cases ls <;> exact h
  | _ => exact h
theorem lend_isLent {b : ABlk} (hb : b.lendable = true) {ls : List Nat} {n : Nat} (h : n ∈ ls) : (b.lend ls).isLent n = true := by
  cases ls with
  | nil => cases h
  | cons a l =>
    cases b with
    | cells cs e => simpa [ABlk.lend, ABlk.isLent] using h
    | lent cs e l' => simpa [ABlk.lend, ABlk.isLent] using h
    | _ => cases hb

theorem offsAt_mem {i n : Nat} {v : AV} : ∀ {l : List (AA × AV)}, ((⟨.dyn i, .lit (.ofNat n)⟩ : AA), v) ∈ l → n ∈ offsAt i l
  | p :: l, h => by
    rcases List.mem_cons.1 h with h' | h'
    · subst h'
      unfold offsAt
      simp
    · have ih := offsAt_mem h'
      unfold offsAt
      split
      · split
        · exact List.mem_cons_of_mem _ ih
        · exact ih
      · exact ih
theorem offsOf_mem {i n : Nat} {v : AV} {s : ASeat} (hp : ((⟨.dyn i, .lit (.ofNat n)⟩ : AA), v) ∈ s.stills) : ∀ {ss : List ASeat}, s ∈ ss → n ∈ offsOf i ss
  | t :: l, h => by
    unfold offsOf
    rcases List.mem_cons.1 h with h' | h'
    · subst h'; exact List.mem_append.2 (.inl (offsAt_mem hp))
    · exact List.mem_append.2 (.inr (offsOf_mem hp h'))

theorem stillsAt_ok {hp : List (Nat × ABlk)} : ∀ {l : List (AA × AV)}, stillsAt hp l = true → ∀ p ∈ l, ∃ i n b, p.1 = ⟨.dyn i, .lit (.ofNat n)⟩ ∧ findB i hp = some b ∧ b.lendable = true
  | q :: l, h, p, hpm => by
    unfold stillsAt at h
    split at h
    · rename_i hq
      rcases List.mem_cons.1 hpm with e | hpm
      · subst e
        unfold stillAt at hq
        split at hq
        · rename_i i n e
          split at hq
          · rename_i b hb; exact ⟨i, n, b, e, hb, hq⟩
          · cases hq
        · cases hq
      · exact stillsAt_ok h p hpm
    · cases h
theorem isChanAt_ok {hp : List (Nat × ABlk)} {i : Nat} (h : isChanAt hp i = true) : findB i hp = some .chan := by
  unfold isChanAt at h
  split at h
  · rename_i b hb
    cases b <;> first | (cases h; done) | exact hb
  · cases h
theorem seatsOk_ok {hp : List (Nat × ABlk)} : ∀ {l : List ASeat}, seatsOk hp l = true → ∀ s ∈ l, findB s.ch hp = some .chan ∧ stillsAt hp s.stills = true
  | q :: l, h, s, hs => by
    unfold seatsOk at h
    split at h
    · rename_i h1 h2
      rcases List.mem_cons.1 hs with e | hs
      · subst e; exact ⟨isChanAt_ok h1, h2⟩
      · exact seatsOk_ok h s hs
    · cases h

theorem is_chan {o : Obj} {b : ABlk} (h : b.is P ρ o) {k : Nat} (ho : o = .chan 0 #[] false k k false) : b = .chan := by
  subst ho
  rcases h with ⟨arr, e, _⟩ | h
  · cases e
  · cases b with
    | map es => obtain ⟨_, _, e, _⟩ := h; cases e
    | chan => rfl
    | _ => exact h.elim

def chanObj (o : Option Obj) : Prop := ∃ k, o = some (.chan 0 #[] false k k false)

theorem rel_ge {hp : List (Nat × ABlk)} {nb lim : Nat} {w : World} (R : Rel (CK P O base seats ρ) ρ ⟨hp, nb, lim⟩ w) (hge : ∀ s ∈ seats, base ≤ ρ.b s.ch) (hok : seatsOk hp seats = true) {i : Nat} {b : ABlk} (hb : findB i hp = some b) : base ≤ ρ.b i := by
  rcases R.own' i b hb with h | ⟨hc, ⟨s, hs, p, hp', e⟩ | ⟨_, s, hs, e⟩⟩
  · exact h.1
  · obtain ⟨i', n, b2, e1, e2, e3⟩ := stillsAt_ok (seatsOk_ok hok s hs).2 p hp'
    rw [e1] at e
    have : ρ.b i' = ρ.b i := congrArg Addr.block e
    have := R.inj _ _ _ _ e2 hb this
    subst this
    rw [hb] at e2
    cases e2
    cases b <;> first | (cases hc; done) | cases e3
  · rw [e]; exact hge s hs

theorem seatsOk_mk {hp : List (Nat × ABlk)} : ∀ {l : List ASeat}, (∀ s ∈ l, findB s.ch hp = some .chan ∧ stillsAt hp s.stills = true) → seatsOk hp l = true
  | [], _ => rfl
  | q :: l, h => by
    obtain ⟨h1, h2⟩ := h q (List.mem_cons_self ..)
    unfold seatsOk
    have : isChanAt hp q.ch = true := by unfold isChanAt; rw [h1]; rfl
    rw [this, h2]
    exact seatsOk_mk fun s hs => h s (List.mem_cons_of_mem _ hs)

theorem rel_move {hp : List (Nat × ABlk)} {nb lim : Nat} {w w' : World} {seats' : List ASeat} (R : Rel (CK P O base seats ρ) ρ ⟨hp, nb, lim⟩ w) (hsz : w'.heap.size = w.heap.size)
    (hh : ∀ n : Nat, w'.heap[n]? = w.heap[n]? ∨ (chanObj w.heap[n]? ∧ chanObj w'.heap[n]?)) (hm : ∀ p ∈ O.mem, (p.1.ev ρ).block < base) (hge : ∀ s ∈ seats, base ≤ ρ.b s.ch) (hok : seatsOk hp seats = true) (hok' : seatsOk hp seats' = true) :
    Rel (CK P O base seats' ρ) ρ ⟨relabel seats' hp, nb, lim⟩ w' := by
  have fnd : ∀ {i : Nat} {b' : ABlk}, findB i (relabel seats' hp) = some b' → ∃ b, findB i hp = some b ∧ b' = b.lend (offsOf i seats') := by
    intro i b' h
    rw [findB_relabel] at h
    obtain ⟨b, h1, h2⟩ := Option.map_eq_some_iff.1 h
    exact ⟨b, h1, h2.symm⟩
  have ge : ∀ {i : Nat} {b : ABlk}, findB i hp = some b → base ≤ ρ.b i := fun hb => rel_ge R hge hok hb
  have keep : ∀ {n : Nat} {o : Obj}, w.heap[n]? = some o → (∀ k, o ≠ .chan 0 #[] false k k false) → w'.heap[n]? = some o := by
    intro n o ho hne
    rcases hh n with h | ⟨⟨k, h⟩, _⟩
    · rw [h, ho]
    · rw [h] at ho; cases ho; exact absurd rfl (hne k)
  refine ⟨fun i b' hb' => ?_, fun i b' hb' => ?_, fun i j b c hb hc e => ?_, R.bs, R.is, fun p hp => ?_, fun n hn => ?_, fun i b' hb' n hs => ?_, fun b n hs => ?_⟩
  · obtain ⟨b, hb, rfl⟩ := fnd hb'
    obtain ⟨o, ho, hi⟩ := R.blk i b hb
    rcases hh (ρ.b i) with h | ⟨⟨k, h⟩, k', h'⟩
    · exact ⟨o, by rw [h]; exact ho, lend_is hi _⟩
    · rw [h] at ho
      cases ho
      have := is_chan hi rfl
      subst this
      exact ⟨_, h', .inr ⟨k', rfl⟩⟩
  · obtain ⟨b, hb, rfl⟩ := fnd hb'
    rw [isChan_lend]
    by_cases hc : seatCh seats' ρ (ρ.b i)
    · right
      obtain ⟨s, hs, e⟩ := id hc
      have hs2 := (seatsOk_ok hok' s hs).1
      have := R.inj _ _ _ _ hb hs2 e
      subst this
      rw [hb] at hs2
      cases hs2
      exact ⟨rfl, .inr ⟨rfl, hc⟩⟩
    · exact .inl ⟨ge hb, hc⟩
  · obtain ⟨b1, hb1, _⟩ := fnd hb
    obtain ⟨c1, hc1, _⟩ := fnd hc
    exact R.inj i j b1 c1 hb1 hc1 e
  · obtain ⟨m1, m2, m3⟩ := R.mem p hp
    refine ⟨fun h => absurd h.1 (Nat.not_le.2 (hm p hp)), ?_, fun s => ev_read _ _ s⟩
    simp only [World.cell?] at m2 ⊢
    cases ho : w.heap[(p.1.ev ρ).block]? with
    | none => rw [ho] at m2; cases m2
    | some o =>
      rw [keep ho (fun k e => by rw [ho, e] at m2; cases m2)]
      rw [ho] at m2
      exact m2
  · rw [hsz] at hn
    refine ⟨(R.room n hn).1, fun ⟨s, hs, e⟩ => ?_⟩
    obtain ⟨o, ho, _⟩ := R.blk _ _ (seatsOk_ok hok' s hs).1
    have := heap_lt ho
    omega
  · obtain ⟨b, hb, rfl⟩ := fnd hb'
    rcases hs with ⟨s, hs, p, hp', e⟩ | ⟨rfl, s, hs, e⟩
    · obtain ⟨i', n', b2, e1, e2, e3⟩ := stillsAt_ok (seatsOk_ok hok' s hs).2 p hp'
      rw [e1] at e
      have h1 : ρ.b i' = ρ.b i := congrArg Addr.block e
      have h2 : n' = n := congrArg Addr.off e
      have := R.inj _ _ _ _ e2 hb h1
      subst this; subst h2
      rw [hb] at e2
      cases e2
      obtain ⟨pa, pv⟩ := p
      dsimp only at e1
      subst e1
      exact lend_isLent e3 (offsOf_mem hp' hs)
    · have hs2 := (seatsOk_ok hok' s hs).1
      have := R.inj _ _ _ _ hb hs2 e
      subst this
      rw [hb] at hs2
      cases hs2
      rfl
  · rw [hsz]
    rcases hs with ⟨s, hs, p, hp', e⟩ | ⟨rfl, s, hs, e⟩
    · obtain ⟨i', n', b2, e1, e2, e3⟩ := stillsAt_ok (seatsOk_ok hok' s hs).2 p hp'
      rw [e1] at e
      have h1 : ρ.b i' = b := congrArg Addr.block e
      obtain ⟨o, ho, _⟩ := R.blk _ _ e2
      rw [← h1]; exact heap_lt ho
    · obtain ⟨o, ho, _⟩ := R.blk _ _ (seatsOk_ok hok' s hs).1
      rw [e]; exact heap_lt ho

theorem ids_move {hp : List (Nat × ABlk)} {nb lim : Nat} {seats' : List ASeat} (I : Ids (CK P O base seats ρ) U ⟨hp, nb, lim⟩) : Ids (CK P O base seats' ρ) U ⟨relabel seats' hp, nb, lim⟩ := by
  refine ⟨fun i b' hb' => ?_, fun i hi => I.keys i (by rw [keys_relabel] at hi; exact hi), by rw [keys_relabel]; exact I.nodup, I.fresh, I.orc⟩
  rw [findB_relabel] at hb'
  obtain ⟨b, h1, rfl⟩ := Option.map_eq_some_iff.1 hb'
  exact lend_in (I.hp i b h1) _
end
end Go.Proofs.Ytcpiafgkmakdiaa.SX

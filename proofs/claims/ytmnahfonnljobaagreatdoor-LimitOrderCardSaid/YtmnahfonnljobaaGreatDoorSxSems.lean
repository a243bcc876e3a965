/-
  A crew of any size, one move at a time: who holds, who sits is a function; what each waits for is said by its seat.
-/
import Derived.Test.YtmnahfonnljobaaGreatDoorSxParts
import Derived.Test.YtmnahfonnljobaaGreatDoorSxCrews
set_option linter.unusedSectionVars false
set_option linter.unusedVariables false
set_option linter.unusedSimpArgs false
namespace Go.Proofs.YtmnahfonnljobaaGreatDoor.SX
open Go.Conc
open Go.ConcN (upd upd_ne upd_same)

/-! ### Seats -/
/-- What is asked of a seat: its channel is new; what it reads are cells; what is known of it hangs on these alone. -/
structure SeatOk (base : Nat) (s : Tok.Seat) : Prop where
  ge : base ≤ s.c
  cell : ∀ l, s.still l → ∃ b n, l = .cell ⟨b, n, none⟩
  stable : ∀ w w' : World, (∀ b n v, s.still (.cell ⟨b, n, none⟩) → w.cell? ⟨b, n, none⟩ = some v → w'.cell? ⟨b, n, none⟩ = some v) → s.keep w → s.keep w'
  held : ∀ w b n, s.keep w → s.still (.cell ⟨b, n, none⟩) → ∃ v, w.cell? ⟨b, n, none⟩ = some v
def chanOf (Inb : Nat → Option Tok.Seat) (b : Nat) : Prop := ∃ i t, Inb i = some t ∧ t.c = b
def stillI (Inb : Nat → Option Tok.Seat) (b n : Nat) : Prop := ∃ i t, Inb i = some t ∧ t.still (.cell ⟨b, n, none⟩)
/-- The holder's context. -/
def SK (P : Program) (base : Nat) (Inb : Nat → Option Tok.Seat) : Ctx := ⟨P, {}, fun n => base ≤ n ∧ ¬ chanOf Inb n, crewEv (fun a => stillI Inb a.block a.off), False, stillI Inb⟩
def ChanAt (w : World) (b : Nat) : Prop := ∃ k, w.heap[b]? = some (.chan 0 #[] false k k false)
theorem ChanAt.keep {w w' : World} {b : Nat} (h : ChanAt w b) {own : Nat → Prop} (kp : Keeps own w w') (hb : ¬ own b) : ChanAt w' b := by
  obtain ⟨k, hk⟩ := h
  exact ⟨k, by rw [kp.heap b hb]; exact hk⟩
theorem ChanAt.lt {w : World} {b : Nat} (h : ChanAt w b) : b < w.heap.size := by
  obtain ⟨k, hk⟩ := h
  exact heap_lt hk
theorem ChanAt.noCell {w : World} {b n : Nat} {v : Value} (h : ChanAt w b) (hc : w.cell? ⟨b, n, none⟩ = some v) : False := by
  obtain ⟨k, hk⟩ := h
  simp [World.cell?, hk] at hc

section
variable {P : Program} {base : Nat} {W0 : World} {Inb : Nat → Option Tok.Seat} {h N : Nat} {m : Machine} {T : Trace} {a : Goroutine} {w : World}

theorem SK_good : (SK P base Inb).Good :=
  ⟨fun a s _ => ev_read _ a s, fun a s ho hn => ⟨fun a' s' e => by cases e; exact hn, fun m e => by cases e⟩, fun b n s hs he => he.1 ⟨b, n, none⟩ s rfl hs, fun m h => ev_mark _ h, ev_mark _ rfl, fun h => h.elim, fun r wr s _ => ev_obj _ r wr s⟩

theorem SK_hold (all : ∀ i t, Inb i = some t → SeatOk base t) : ∀ w w' es, DK (SK P base Inb) w w' es → Tok.DHold Inb w w' es := by
  rintro w w' es ⟨hk, he, hst⟩
  refine ⟨fun i t e hkp => (all i t e).stable w w' (fun b n v hs hc => hst b n v ⟨i, t, e, hs⟩ hc) hkp, fun i t e => hk.heap _ fun h => h.2 ⟨i, t, e, rfl⟩, fun e hee => ?_⟩
  have hE : crewEv (fun a => stillI Inb a.block a.off) e := he e hee
  refine ⟨fun x hx g hg => ?_, fun e1 => ?_, fun e1 => ?_⟩
  · obtain ⟨t, ht, hl⟩ := hg
    obtain ⟨b, n, hp2⟩ := (all g t ht).cell _ hl
    rw [hp2] at hl
    have hN : stillI Inb b n := ⟨g, t, ht, hl⟩
    obtain ⟨loc, wr, sy⟩ := e
    cases loc with
    | cell a =>
      have hx' : some (⟨.cell a, wr, if sy then .atomic else .plain⟩ : Touch) = some x := hx
      cases hx'
      have ea : a = ⟨b, n, none⟩ := by simpa using hp2
      cases wr with
      | false => rfl
      | true => exact absurd hN (by have := hE.1 a sy rfl; rw [ea] at this; exact this)
    | mark m =>
      have hmk := hE.2 m rfl
      cases m <;> first | (cases hmk; done) | cases hx
    | obj r =>
      cases wr <;> cases sy <;> (cases hx; try cases hp2)
    | output =>
      have hx' : some (⟨.output, wr, if sy then .atomic else .plain⟩ : Touch) = some x := hx
      cases hx'; cases hp2
    | goroutines =>
      have hx' : some (⟨.goroutines, wr, if sy then .atomic else .plain⟩ : Touch) = some x := hx
      cases hx'; cases hp2
  · have := hE.2 _ e1; cases this
  · have := hE.2 _ e1; cases this

/-! ### Where a machine is -/
/-- Goroutine h of N holds, with that record, in that world; the others sit as told, or leave. -/
structure SAt (P : Program) (base : Nat) (W0 : World) (Inb : Nat → Option Tok.Seat) (h N : Nat) (m : Machine) (T : Trace) (a : Goroutine) (w : World) : Prop where
  ex : ∃ gs sl q, m = crowd gs w sl ∧ gs.size = N ∧ gs[h]? = some a ∧ Tok.Core P Inb h 0 T gs w q
  ok : ∀ i t, Inb i = some t → SeatOk base t
  keeps : Keeps (fun n => base ≤ n) W0 w
  size : base ≤ w.heap.size

theorem SAt.new (A : SAt P base W0 Inb h N m T a w) (n : Nat) (hn : w.heap.size ≤ n) : (SK P base Inb).own n := by
  obtain ⟨gs, sl, q, _, _, _, C⟩ := A.ex
  refine ⟨Nat.le_trans A.size hn, fun ⟨i, t, e, ec⟩ => ?_⟩
  obtain ⟨k, hk⟩ := C.chans i t e
  have := heap_lt hk
  omega
theorem SAt.low (A : SAt P base W0 Inb h N m T a w) (b n : Nat) (hs : (SK P base Inb).still b n) : b < w.heap.size := by
  obtain ⟨gs, sl, q, _, _, _, C⟩ := A.ex
  obtain ⟨i, t, e, hl⟩ := hs
  obtain ⟨v, hv⟩ := (A.ok i t e).held w b n (C.keep i t e) hl
  exact cellLt hv
theorem SAt.real (A : SAt P base W0 Inb h N m T a w) {b n : Nat} (hs : stillI Inb b n) : ∃ v, w.cell? ⟨b, n, none⟩ = some v := by
  obtain ⟨gs, sl, q, _, _, _, C⟩ := A.ex
  obtain ⟨i, t, e, hl⟩ := hs
  exact (A.ok i t e).held w b n (C.keep i t e) hl
theorem SAt.chan (A : SAt P base W0 Inb h N m T a w) {i : Nat} {t : Tok.Seat} (e : Inb i = some t) : ChanAt w t.c := by
  obtain ⟨gs, sl, q, _, _, _, C⟩ := A.ex
  exact C.chans i t e
theorem SAt.keep (A : SAt P base W0 Inb h N m T a w) {i : Nat} {t : Tok.Seat} (e : Inb i = some t) : t.keep w := by
  obtain ⟨gs, sl, q, _, _, _, C⟩ := A.ex
  exact C.keep i t e
theorem SAt.lt (A : SAt P base W0 Inb h N m T a w) {i : Nat} {t : Tok.Seat} (e : Inb i = some t) : i < N := by
  obtain ⟨gs, sl, q, _, hsz, _, C⟩ := A.ex
  rcases Nat.lt_or_ge i gs.size with hi | hi
  · omega
  · rw [(C.above i hi).2] at e; cases e
theorem SAt.hlt (A : SAt P base W0 Inb h N m T a w) : h < N := by
  obtain ⟨gs, sl, q, _, hsz, ha, C⟩ := A.ex
  have := (Array.getElem?_eq_some_iff.1 ha).1
  omega
theorem SAt.free (A : SAt P base W0 Inb h N m T a w) : Inb h = none := by
  obtain ⟨gs, sl, q, _, _, _, C⟩ := A.ex
  exact C.free
theorem SAt.inj (A : SAt P base W0 Inb h N m T a w) {i i' : Nat} {t t' : Tok.Seat} (e : Inb i = some t) (e' : Inb i' = some t') (ec : t.c = t'.c) : i = i' := by
  obtain ⟨gs, sl, q, _, _, _, C⟩ := A.ex
  exact C.inj i i' t t' e e' ec

/-! ### Moves -/
/-- It comes to that. -/
def Gets (P : Program) (m : Machine) (T : Trace) (Φ : Machine → Trace → Prop) : Prop := ∃ M m' T', runNT P M m T = (.next m', T') ∧ Φ m' T'
theorem Gets.refl {Φ : Machine → Trace → Prop} (h : Φ m T) : Gets P m T Φ := ⟨0, m, T, rfl, h⟩
theorem Gets.trans {Φ Ψ : Machine → Trace → Prop} (h : Gets P m T Φ) (k : ∀ m' T', Φ m' T' → Gets P m' T' Ψ) : Gets P m T Ψ := by
  obtain ⟨M, m1, T1, h1, hp⟩ := h
  obtain ⟨M2, m2, T2, h2, hq⟩ := k m1 T1 hp
  exact ⟨M + M2, m2, T2, runNT_then h1 h2, hq⟩
theorem Gets.mono {Φ Ψ : Machine → Trace → Prop} (h : Gets P m T Φ) (k : ∀ m' T', Φ m' T' → Ψ m' T') : Gets P m T Ψ := by
  obtain ⟨M, m1, T1, h1, hp⟩ := h
  exact ⟨M, m1, T1, h1, k m1 T1 hp⟩

/-- The holder's walk. -/
theorem SAt.walk (A : SAt P base W0 Inb h N m T a w) {S : Goroutine → World → Prop} {n : Nat} (W : Walk P (h == 0) (DK (SK P base Inb)) S n a w) (hS : ∀ a' w', S a' w' → Keeps (fun n => base ≤ n) w w') :
    Gets P m T fun m' T' => ∃ a' w', SAt P base W0 Inb h N m' T' a' w' ∧ S a' w' := by
  obtain ⟨gs, sl, q, rfl, hsz, ha, C⟩ := A.ex
  obtain ⟨M, gs', a', w', sl', T', q', hr, hsz', ha', hs, C'⟩ := Tok.hold_walk (SK_hold A.ok) W ha C
  have kp := hS a' w' hs
  exact ⟨M, _, T', hr, a', w', ⟨⟨gs', sl', q', rfl, hsz'.trans hsz, ha', C'⟩, A.ok, A.keeps.trans kp, Nat.le_trans A.size kp.size⟩, hs⟩
end

/-! ### A seat out of closed data -/
noncomputable def OL (fns : List FuncId) (ext : List (FuncId × (Array Value → Sem Value))) (l : List (AA × AV)) : Orc := { mem := l, fns := fns, ext := ext }
noncomputable def mkSeat (P : Program) (O : Orc) (U : Nat → Prop) (ρ : Env) (cs : List Frame) (B : Nat) (c : ACfg) (r : BR) (z : Value) (ok : Bool) : Tok.Seat :=
  ⟨r.ev ρ, z, ok, stillOf O ρ, Known O ρ, B, fun g => LIds U c ∧ LGam P ρ c cs g⟩

section
variable {P : Program} {base : Nat} {W0 : World} {Inb : Nat → Option Tok.Seat} {h N : Nat} {m : Machine} {T : Trace} {a : Goroutine} {w : World}
variable {O : Orc} {U : Nat → Prop} {ρ : Env} {cs : List Frame} {B : Nat} {c c' : ACfg} {r : BR} {z : Value} {ok : Bool}

theorem mkSeat_ok (hb : O.bs = []) (hi : O.is = []) (hge : base ≤ r.ev ρ) : SeatOk base (mkSeat P O U ρ cs B c r z ok) := by
  refine ⟨hge, fun l ⟨p, _, e⟩ => ⟨_, _, e.trans (congrArg Loc.cell (AA.ev_none ρ p.1))⟩, fun w w' hk k => ?_, fun w b n k ⟨p, hp, e⟩ => ?_⟩
  · have k' : Known O ρ w := k
    refine ⟨k'.bs, k'.is, fun p hp => ?_⟩
    have := k'.mem p hp
    rw [AA.ev_none] at this ⊢
    exact hk _ _ _ ⟨p, hp, congrArg Loc.cell (AA.ev_none ρ p.1).symm⟩ this
  · have k' : Known O ρ w := k
    have := k'.mem p hp
    have e' : (⟨b, n, none⟩ : Addr) = p.1.ev ρ := by simpa using e
    rw [← e'] at this
    exact ⟨_, this⟩
theorem mkSeat_wf : (mkSeat P O U ρ cs B c r z ok).Wf := by
  refine ⟨fun w d k => known_at k d, fun w c cap buf cl a b tm cap' buf' cl' a' b' tm' hc k => ?_, fun l ⟨p, _, e⟩ => by rw [e]; rfl⟩
  have k' : Known O ρ w := k
  refine ⟨k'.bs, k'.is, fun p hp => ?_⟩
  have m2 := k'.mem p hp
  by_cases e : c = (p.1.ev ρ).block
  · simp only [World.cell?] at m2
    rw [← e, hc] at m2
    cases m2
  · simp only [World.cell?] at m2 ⊢
    rw [heap_setChan_ne w _ _ _ _ _ _ e]
    exact m2
theorem mkSeat_fresh (k : Known O ρ w) (hc : ChanAt w (r.ev ρ)) (ha : ∀ i t, Inb i = some t → t.c ≠ r.ev ρ) : Tok.Fresh Inb w (mkSeat P O U ρ cs B c r z ok) := ⟨mkSeat_wf, k, hc, ha⟩

/-- On its way there. -/
theorem mkSeat_sits (S : Sound P O noExt) (hO : O.In U) {n : Nat} (he : lrun? P O noExt n c = .ok c') (hr : recvAt? P c' = some (r, z, ok)) (I : LIds U c) {g : Goroutine} (Γ : LGam P ρ c cs g) (k : Known O ρ w) (main : Bool) :
    Sits P main (mkSeat P O U ρ cs w.heap.size c' r z ok).keep (mkSeat P O U ρ cs w.heap.size c' r z ok).still w.heap.size (mkSeat P O U ρ cs w.heap.size c' r z ok).base (n + 1) g :=
  sits_of (main := main) S hO (fun p hp => cell_lt (k.mem p hp)) he hr I Γ k

/-! ### A send -/
/-- The send at which a frame stands: its channel, what is sent, the frame behind it. -/
noncomputable def sendAt? (cur : AFrame) : Option (BR × AV × AFrame) :=
  match opAt ⟨cur, [], e0⟩ with
  | some o => match o.op with
    | .send x y => match evalA cur.tmps x, finishA cur undefA with
      | .chan (some r), .ok gv => some (r, evalA cur.tmps y, gv)
      | _, _ => none
    | _ => none
  | none => none

theorem SAt.give (A : SAt P base W0 Inb h N m T a w) (Γ : LGam P ρ c cs a) (I : LIds U c) {y : AV} {gv : AFrame} (hs : sendAt? c.cur = some (r, y, gv)) {j : Nat} {t : Tok.Seat} (hj : Inb j = some t) (hc : t.c = r.ev ρ)
    {so : Option Tok.Seat} (hso : ∀ s', so = some s' → Tok.Fresh Inb w s' ∧ SeatOk base s') (hafter : ∀ g, LIds U ⟨gv, c.callers, e0⟩ → LGam P ρ ⟨gv, c.callers, e0⟩ cs g → ∃ nh, ∀ T', Deaf T' h = 0 → Tok.Rest P T' h nh g so) :
    Gets P m T fun m' T' => ∃ g₂ d k, SAt P base W0 (Tok.pass Inb h j so) j N m' T' (Conc.served g₂ (recvd t.ok (y.ev ρ) true)) ((w.at d).setChan t.c 0 #[] false (k + 1) (k + 1) false) ∧ t.home g₂ ∧ w.heap[t.c]? = some (.chan 0 #[] false k k false) := by
  obtain ⟨gs, sl, q, rfl, hsz, ha, C⟩ := A.ex
  obtain ⟨cur, callers, hh⟩ := c
  unfold sendAt? at hs
  dsimp only at hs
  split at hs
  rotate_left
  · cases hs
  rename_i o ho
  obtain ⟨fn, nt, tmps, ops, i, rst, k, defers, kind, callers', hh', e, hoi, hgd, htg⟩ := opAt_ok ho
  cases e
  split at hs
  rotate_left
  · cases hs
  rename_i x y' hop
  split at hs
  rotate_left
  · cases hs
  rename_i r' gv' hx hfg
  cases hs
  obtain ⟨tm, frs, h1, h2, h3, hcl, ea⟩ := (lg_run htg).1 Γ
  have hw : Region.wanted o (yielded ops tm) = true := by unfold Region.wanted; rw [hgd]
  have hke : (mkF fn kind).kind ≠ .early := by rcases h2 with rfl | rfl <;> simp [mkF]
  have hR : ∀ w es, (execOp (⟨tm, defers.map (AD.ev ρ)⟩ : Act).eval o).runT P w es = (.ok (.comm #[scase t.c ((evalA tmps y').ev ρ) (.tuple #[])] true .send) w, es) := by
    intro w es
    unfold execOp
    rw [hop]
    have e1 : (⟨tm, defers.map (AD.ev ρ)⟩ : Act).eval x = .chan (some t.c) := by rw [evalA_ev h1, hx, hc]; rfl
    have e2 : (⟨tm, defers.map (AD.ev ρ)⟩ : Act).eval y' = (evalA tmps y').ev ρ := evalA_ev h1 _ y'
    dsimp only
    rw [e1, e2]
    rfl
  have hsend : ∀ d, stepG P (h == 0) a (w.at d) = .comm a #[scase t.c ((evalA tmps y').ev ρ) (.tuple #[])] true .send (w.at d) #[] := by
    intro d
    have r1 : (execOp (⟨tm, defers.map (AD.ev ρ)⟩ : Act).eval o).run P (w.at d) = .ok (.comm #[scase t.c ((evalA tmps y').ev ρ) (.tuple #[])] true .send) (w.at d) := by
      have := congrArg Prod.fst (hR (w.at d) #[])
      rw [Sem.runT_fst] at this
      exact this
    rw [ea, stepG_comm hoi hw hke r1, listed_none (congrArg Prod.snd (hR (w.at d) #[]))]
  have hrun : a.status = .running := by rw [ea]; rfl
  have hjh : j ≠ h := fun e => by rw [e, C.free] at hj; cases hj
  have hjlt : j < gs.size := by have := A.lt hj; omega
  obtain ⟨ILg, Γg⟩ := served_ok Γ I (v := undefA) (by simp [undefA, AV.In, AV.Ins]) hfg e0
  obtain ⟨nh, hrest⟩ := hafter (Conc.served a undef) ILg Γg
  obtain ⟨M, m', T', hr, gs', g₂, d, k', sl', q', rfl, hsz', hJ, hhome, hch, C'⟩ := Tok.give (P := P) (j := j) (s := t) (sl := sl) hjh hjlt hj ha hrun hsend (by simp) C (fun s' e => (hso s' e).1) hrest
  refine ⟨M, _, T', hr, g₂, d, k', ⟨⟨gs', sl', q', rfl, hsz'.trans hsz, hJ, C'⟩, fun i t' e => ?_, A.keeps.trans ⟨fun n hn => ?_, ?_, rfl, rfl, rfl⟩, ?_⟩, hhome, hch⟩
  · unfold Tok.pass at e
    split at e
    · cases e
    · split at e
      · exact (hso t' e).2
      · exact A.ok i t' e
  · exact heap_setChan_ne (w.at d) _ _ _ _ _ _ (fun e => hn (by rw [← e]; exact (A.ok j t hj).ge))
  · rw [size_setChan]; exact Nat.le_refl _
  · rw [size_setChan]; exact A.size

/-! ### A go statement -/
noncomputable def goAt? (cur : AFrame) : Option (FuncId × List AV × List AV × AFrame) :=
  match opAt ⟨cur, [], e0⟩ with
  | some o => match o.op with
    | .go call => match resolve? (evalA cur.tmps) call o.type, finishA cur undefA with
      | .ok ⟨.fn (.func f) cap, args⟩, .ok gv => some (f, cap, args, gv)
      | _, _ => none
    | _ => none
  | none => none

theorem SAt.hire (A : SAt P base W0 Inb h N m T a w) (Γ : LGam P ρ c cs a) (I : LIds U c) {f : FuncId} {cap args : List AV} {gv : AFrame} (hg : goAt? c.cur = some (f, cap, args, gv)) (hfo : fnOk P f = true) {fr : AFrame} (hen : enterA P f (args ++ cap) .deferred = .ok fr)
    (S : Sound P O noExt) (hO : O.In U) (hob : O.bs = []) (hoi' : O.is = []) {n : Nat} (he : lrun? P O noExt n ⟨fr, [], e0⟩ = .ok c') (hr : recvAt? P c' = some (r, z, ok)) (k : Known O ρ w) (hch : ChanAt w (r.ev ρ)) (hap : ∀ i t, Inb i = some t → t.c ≠ r.ev ρ) (hge : base ≤ r.ev ρ) :
    Gets P m T fun m' T' => ∃ d a', SAt P base W0 (upd Inb N (some (mkSeat P O U ρ [baseF P] w.heap.size c' r z ok))) h (N + 1) m' T' a' (w.at d) ∧ LIds U ⟨gv, c.callers, e0⟩ ∧ LGam P ρ ⟨gv, c.callers, e0⟩ cs a' := by
  obtain ⟨gs, sl, q, rfl, hsz, ha, C⟩ := A.ex
  obtain ⟨cur, callers, hh⟩ := c
  unfold goAt? at hg
  dsimp only at hg
  split at hg
  rotate_left
  · cases hg
  rename_i o ho
  obtain ⟨fn, nt, tmps, ops, i, rst, kk, defers, kind, callers', hh', e, hoi, hgd, htg⟩ := opAt_ok ho
  cases e
  split at hg
  rotate_left
  · cases hg
  rename_i call hop
  split at hg
  rotate_left
  · cases hg
  rename_i f' cap' args' gv' hres hfg
  cases hg
  obtain ⟨tm, frs, h1, h2, h3, hcl, ea⟩ := (lg_run htg).1 Γ
  have hw : Region.wanted o (yielded ops tm) = true := by unfold Region.wanted; rw [hgd]
  have hke : (mkF fn kind).kind ≠ .early := by rcases h2 with rfl | rfl <;> simp [mkF]
  have hd : (⟨.fn (.func f) cap, args⟩ : AD).In U := resolve?_in hres (fun x => evalA_in I.cur.tmps x)
  have hins : AV.Ins U (args ++ cap) := Ins_iff.2 fun v hv => (List.mem_append.1 hv).elim (Ins_iff.1 hd.2 v) (Ins_iff.1 hd.1 v)
  have hev : (⟨tm, defers.map (AD.ev ρ)⟩ : Act).eval = fun x => (evalA tmps x).ev ρ := funext fun x => evalA_ev h1 _ x
  have hq : ∀ w : World, (execOp (⟨tm, defers.map (AD.ev ρ)⟩ : Act).eval o).run P w = .ok (.spawn ((⟨.fn (.func f) cap, args⟩ : AD).ev ρ)) w ∧ (execOp (⟨tm, defers.map (AD.ev ρ)⟩ : Act).eval o).events P w #[] = #[] := fun w => by
    refine quiet_run ?_
    rw [hev]
    unfold execOp
    rw [hop]
    show wq P _ _ (resolve (fun x => (evalA tmps x).ev ρ) call o.type >>= fun d => pure (Go.Next.spawn d)) _ w
    rw [wq_bind]
    exact wq_resolve (K := ⟨P, {}, fun _ => True, fun _ => False, False, fun _ _ => False⟩) hres ⟨rfl, rfl⟩
  have hgo : ∀ d, stepG P (h == 0) a (w.at d) = .spawn (G ((mkF fn kind).at ((⟨tm, defers.map (AD.ev ρ)⟩ : Act).put o.dst undef) (.inRegion ops rst :: kk)) (frs ++ cs)) (born P ((⟨.fn (.func f) cap, args⟩ : AD).ev ρ)) (w.at d) #[] := fun d => by
    rw [ea, stepG_spawn hoi hw hke (hq (w.at d)).1 rfl, listed_none (hq (w.at d)).2]
  have hrun : a.status = .running := by rw [ea]; rfl
  obtain ⟨en1, en2, en3, en4, en5⟩ := enterA_ok hen (.inr rfl) hins (ρ := ρ)
  have ILc : LIds U ⟨fr, [], e0⟩ := ⟨en2, fun _ x => by (simp at x)⟩
  have Γc : LGam P ρ ⟨fr, [], e0⟩ [baseF P] (G (Frame.enter P f (AV.evs ρ (args ++ cap)).toArray .deferred) [baseF P]) := ⟨_, [], en1, trivial, rfl⟩
  have hS := mkSeat_sits S hO he hr ILc Γc k false
  have eargs : (AV.evs ρ (args ++ cap)).toArray = (AV.evs ρ args).toArray ++ (AV.evs ρ cap).toArray := by simp [evs_append]
  rw [eargs] at hS
  have hS' := sits_born hfo hS
  obtain ⟨M, gs', d, sl', T', q', hr', hsz', ha', C'⟩ := Tok.hire (P := P) (sl := sl) ha hrun hgo (by simp) C (mkSeat P O U ρ [baseF P] w.heap.size c' r z ok) (mkSeat_fresh k hch hap) hS'
  obtain ⟨ILg, Γg⟩ := served_ok Γ I (v := undefA) (by simp [undefA, AV.In, AV.Ins]) hfg e0
  have eserved : Conc.served a (undefA.ev ρ) = G ((mkF fn kind).at ((⟨tm, defers.map (AD.ev ρ)⟩ : Act).put o.dst undef) (.inRegion ops rst :: kk)) (frs ++ cs) := by
    rw [ea]
    show { G ((mkF fn kind).at ⟨tm, defers.map (AD.ev ρ)⟩ (.inRegion ops (i :: rst) :: kk)) (frs ++ cs) with frame := ((mkF fn kind).at ⟨tm, defers.map (AD.ev ρ)⟩ (.inRegion ops (i :: rst) :: kk)).finish undef, status := .running, offers := none } = _
    rw [Frame.finish_at, hoi]
    rfl
  rw [eserved] at Γg
  subst hsz
  refine ⟨M, _, T', hr', d, _, ⟨⟨gs', sl', q', rfl, hsz', ha', C'⟩, fun i t' e => ?_, A.keeps.trans ⟨fun n hn => rfl, Nat.le_refl _, rfl, rfl, rfl⟩, A.size⟩, ILg, Γg⟩
  by_cases ei : i = gs.size
  · rw [ei, upd_same] at e
    cases e
    exact mkSeat_ok hob hoi' hge
  · rw [upd_ne Inb _ ei] at e
    exact A.ok i t' e
end
end Go.Proofs.YtmnahfonnljobaaGreatDoor.SX
/-
  Whole blocks as lists of values; pieces of runs told by their closed end; what a piece's context is at a move.
-/
set_option linter.unusedSectionVars false
set_option linter.unusedVariables false
set_option linter.unusedSimpArgs false
namespace Go.Proofs.YtmnahfonnljobaaGreatDoor.SX
open Go.Conc

/-! ### Blocks -/
/-- All cells of a block, and its elements' type. -/
def ObjAt (w : World) (b : Nat) (cs : List Value) (e : TypeId) : Prop := ∃ arr, w.heap[b]? = some (.cells arr e (0, 0)) ∧ arr.toList = cs
def Ty (w : World) (b : Nat) (e : TypeId) : Prop := ∃ arr f, w.heap[b]? = some (.cells arr e f)
section
variable {w w' : World} {b b' : Nat} {cs cs' : List Value} {e e' : TypeId} {own : Nat → Prop}
theorem ObjAt.keep (h : ObjAt w b cs e) (kp : Keeps own w w') (hb : ¬ own b) : ObjAt w' b cs e := by
  obtain ⟨arr, h1, h2⟩ := h
  exact ⟨arr, by rw [kp.heap b hb]; exact h1, h2⟩
theorem Ty.keep (h : Ty w b e) (kp : Keeps own w w') (hb : ¬ own b) : Ty w' b e := by
  obtain ⟨arr, f, h1⟩ := h
  exact ⟨arr, f, by rw [kp.heap b hb]; exact h1⟩
theorem ObjAt.ty (h : ObjAt w b cs e) : Ty w b e := by
  obtain ⟨arr, h1, _⟩ := h
  exact ⟨arr, _, h1⟩
theorem ObjAt.lt (h : ObjAt w b cs e) : b < w.heap.size := by
  obtain ⟨arr, h1, _⟩ := h
  exact heap_lt h1
theorem Ty.lt (h : Ty w b e) : b < w.heap.size := by
  obtain ⟨arr, f, h1⟩ := h
  exact heap_lt h1
theorem Ty.ne (h : Ty w b e) (h' : Ty w b' e') (hn : e ≠ e') : b ≠ b' := by
  rintro rfl
  obtain ⟨arr, f, h1⟩ := h
  obtain ⟨arr', f', h2⟩ := h'
  rw [h1] at h2
  cases h2
  exact hn rfl
theorem Ty.noChan (h : Ty w b e) (h' : ChanAt w b') : b ≠ b' := by
  rintro rfl
  obtain ⟨arr, f, h1⟩ := h
  obtain ⟨k, h2⟩ := h'
  rw [h1] at h2
  cases h2
theorem ObjAt.eqs (h : ObjAt w b cs e) (h' : ObjAt w b cs' e') : cs = cs' := by
  obtain ⟨arr, h1, h2⟩ := h
  obtain ⟨arr', h3, h4⟩ := h'
  rw [h1] at h3
  cases h3
  exact h2.symm.trans h4
theorem ObjAt.cell (h : ObjAt w b cs e) {n : Nat} {v : Value} (hn : cs[n]? = some v) : w.cell? ⟨b, n, none⟩ = some v := by
  obtain ⟨arr, h1, h2⟩ := h
  rw [cell?_of h1, ← Array.getElem?_toList, h2]
  exact hn
theorem VecAt.ty {P : Program} {xs : List Value} {c : Nat} (h : VecAt P w e b xs c) : Ty w b e := by
  obtain ⟨arr, rest, i, h1, _⟩ := h.ex
  exact ⟨arr, _, h1⟩
theorem ObjAt.is {P : Program} {ρ : Env} {l : List AV} (h : ObjAt w b (AV.evs ρ l) e) : ∃ o, w.heap[b]? = some o ∧ (ABlk.cells l e).is P ρ o := by
  obtain ⟨arr, h1, h2⟩ := h
  exact ⟨_, h1, .inl ⟨arr, rfl, h2⟩⟩
theorem ObjAt.isLent {P : Program} {ρ : Env} {l : List AV} {ls : List Nat} (h : ObjAt w b (AV.evs ρ l) e) : ∃ o, w.heap[b]? = some o ∧ (ABlk.lent l e ls).is P ρ o := by
  obtain ⟨arr, h1, h2⟩ := h
  exact ⟨_, h1, .inl ⟨arr, rfl, h2⟩⟩
theorem obj_of_cells {K : Ctx} {ρ : Env} {h : AH} (R : Rel K ρ h w) {k : Nat} {l : List AV} (hb : findB k h.hp = some (.cells l e)) : ObjAt w (ρ.b k) (AV.evs ρ l) e := by
  obtain ⟨arr, ha, hf⟩ := R.arr hb rfl
  exact ⟨arr, ha, hf⟩
theorem obj_of_lent {K : Ctx} {ρ : Env} {h : AH} (R : Rel K ρ h w) {k : Nat} {l : List AV} {ls : List Nat} (hb : findB k h.hp = some (.lent l e ls)) : ObjAt w (ρ.b k) (AV.evs ρ l) e := by
  obtain ⟨arr, ha, hf⟩ := R.arr hb rfl
  exact ⟨arr, ha, hf⟩
theorem chan_of {K : Ctx} {ρ : Env} {h : AH} (R : Rel K ρ h w) {k : Nat} (hb : findB k h.hp = some .chan) : ChanAt w (ρ.b k) := by
  obtain ⟨o, ho, hi⟩ := R.blk k _ hb
  rcases hi with ⟨arr, rfl, hf⟩ | ⟨n, rfl⟩
  · exact hf.elim
  · exact ⟨n, ho⟩
end

/-! ### A piece told by its closed end -/
theorem piece_cfg {K : Ctx} {main : Bool} (Gd : K.Good) {own : Nat → Prop} {still : Nat → Nat → Prop} (hown : ∀ n, own n → K.own n) {O : Orc} {ext : Ext} {sum : Sums} (F : (K.sub O own still).Facts) (X : ExtOk (K.sub O own still) ext) (Z : SumOk (K.sub O own still) main sum) {f n : Nat} {ks : List Nat} {c c' : ACfg}
    (hc : chunkTo? K.P O ext sum f n ks c = .ok c') {nb : Nat} (hl : cfgLow nb c = true) (hnb : c.h.nb = nb) (hO : O.low nb = true) {ρ : Env} {fr : Frame} {frs cs : List Frame} {w : World} (hf : FrRel K.P ρ c.cur fr) (hfs : FrRels K.P ρ c.callers frs) (R : Rel (K.sub O own still) ρ c.h w) :
    Walk K.P main (DK K) (fun g' w' => ∃ ρ' U', Agree (Below nb) ρ ρ' ∧ Keeps own w w' ∧ LIds U' c' ∧ LGam K.P ρ' c' cs g' ∧ Rel (K.sub O own still) ρ' c'.h w') 0 (G fr (frs ++ cs)) w := by
  obtain ⟨_, N, L⟩ := chunkTo_ok (K := K.sub O own still) (main := main) (sub_good Gd hown) F X Z hc
  have W := L (Below nb) ρ cs (G fr (frs ++ cs)) w (cfgLow_in (K := K.sub O own still) hl hnb hO) ⟨R, fr, frs, hf, hfs, rfl⟩
  refine (Walk.weaken (fun g' w' hd => ?_) (W.lax (sub_dk hown))).any
  obtain ⟨ρ', A, kp, gr, hin, R', hg⟩ := hd
  exact ⟨ρ', _, A, kp, ⟨hin.cur, hin.callers⟩, hg, R'⟩

/-- Closed data, in numbers below. -/
theorem low_ids {c : ACfg} {n : Nat} (h : cfgLow n c = true) : LIds (Below n) c := by
  have I := cfgLow_in (K := ⟨default, {}, fun _ => True, fun _ => True, True, fun _ _ => False⟩) (c := ⟨c.cur, c.callers, ⟨c.h.hp, n, n⟩⟩) (n := n) h rfl rfl
  exact ⟨I.cur, I.callers⟩
end Go.Proofs.YtmnahfonnljobaaGreatDoor.SX
/-
  A crew of any size: where nobody sits any more and the holder answers true, the run ends well; a crew's closed run as a way.
-/
set_option linter.unusedSectionVars false
set_option linter.unusedVariables false
set_option linter.unusedSimpArgs false
namespace Go.Proofs.YtmnahfonnljobaaGreatDoor.SX
open Go.Conc

section
variable {P : Program} {base : Nat} {W0 : World} {N : Nat} {m : Machine} {T : Trace} {a : Goroutine} {w : World}

/-- The end: one good run. -/
theorem SAt.finish {Inb : Nat → Option Tok.Seat} (hnone : ∀ i, Inb i = none) (A : SAt P base W0 Inb 0 N m T a w) {f : FuncId} (hE : ∃ ρ, EndsAs (SK P base Inb) f ρ (.returned (.bool (.lit true))) [] a w) (hone : oneTmp P f = true) :
    ∃ K last o w3 t3, runNT P (K + 1) m T = (.ended o w3, t3) ∧ runN P K m = .next last ∧ step P last = .ended o w3 ∧ Conc.Good P (fun v W' => v = .bool true ∧ Keeps (fun n => base ≤ n) W0 W') last o w3 t3 := by
  obtain ⟨gs, sl, q, rfl, hsz, ha, C⟩ := A.ex
  obtain ⟨ρ, fr', fn', rfl, hb, hd, hf, hmode, hkind, hq⟩ := hE
  obtain ⟨hL, B, hP⟩ := Tok.over C hnone
  have hAll : ∀ d, stepG P true (G fr' []) (w.at d) = .ended (.done (.bool true)) (w.at d) #[] := by
    intro d
    have hb' : fr'.fn = f := hb
    unfold oneTmp at hone
    have hf' : P.funcs[fr'.fn]? = some fn' := hf
    rw [← hb'] at hone
    rw [hf'] at hone
    dsimp only at hone
    split at hone
    · rename_i tt ht
      have hres : fn'.results = #[.tmp tt] := by apply Array.toList_inj.1; exact ht
      have hq' := hq d (Q := fun x w2 => x = .bool true ∧ w2 = drawnAt w d) ⟨rfl, rfl⟩
      rw [results_tmp hres] at hq'
      have hv : fr'.tmps.getD tt undef = .bool true := ((wq_pure _).1 hq').1
      have hi : P.inits.idxOf? fr'.fn = none := by simpa using hone
      simp [G, stepG, unwind, doReturn, hmode, hd, hf', results_tmp hres, hkind, GStep.after, hv, hi, seen_none]
    · cases hone
  have hgo : Goes P true AtRel (fun _ _ _ => False) (AtEnd P (fun _ => False) B (fun v W' => v = .bool true ∧ Keeps (fun n => base ≤ n) W0 W')) 0 (G fr' []) w := by
    intro w₁ hw
    obtain ⟨d, rfl⟩ := hw
    exact ⟨rfl, _, _, hAll d, (by simp), rfl, A.keeps.trans ⟨fun _ _ => rfl, Nat.le_refl _, rfl, rfl, rfl⟩⟩
  obtain ⟨K, last, o, w3, t3, b1, b2, b3, b4⟩ := beside_ends (D := fun _ _ _ => False) (fun _ _ _ h => h.elim) (sl := sl) ha hL hP hgo
  exact ⟨K, last, o, w3, t3, b1, b2, b3, b4⟩

/-- Behind a way. -/
theorem good_after {Q : Value → World → Prop} {Φ : Machine → Trace → Prop} (h : Gets P m T Φ) (k : ∀ m' T', Φ m' T' → ∃ K last o w3 t3, runNT P (K + 1) m' T' = (.ended o w3, t3) ∧ runN P K m' = .next last ∧ step P last = .ended o w3 ∧ Conc.Good P Q last o w3 t3) :
    ∃ K last o w3 t3, runNT P (K + 1) m T = (.ended o w3, t3) ∧ runN P K m = .next last ∧ step P last = .ended o w3 ∧ Conc.Good P Q last o w3 t3 := by
  obtain ⟨M, m', T', h12, hp⟩ := h
  obtain ⟨K, last, o, w3, t3, b1, b2, b3, b4⟩ := k m' T' hp
  refine ⟨M + K, last, o, w3, t3, ?_, ?_, b3, b4⟩
  · rw [show M + K + 1 = M + (K + 1) by omega, runNT_add, h12]
    exact b1
  · rw [runN_add]
    have : runN P M m = .next m' := by
      rw [← runNT_fst _ _ _ T]
      exact congrArg Prod.fst h12
    rw [this]
    exact b2

/-- One goroutine alone, at the beginning. -/
theorem SAt.start (P : Program) (a : Goroutine) (W : World) (C0 : Tok.Core P (fun _ => none) 0 0 #[] #[a] W (fun _ => 0)) : SAt P W.heap.size W (fun _ => none) 0 1 (crowd #[a] W none) #[] a W :=
  ⟨⟨_, none, _, rfl, rfl, rfl, C0⟩, fun i t e => (by cases e), Keeps.refl _ _, Nat.le_refl _⟩
end
end Go.Proofs.YtmnahfonnljobaaGreatDoor.SX
/-
  Memory by roles: who lies where, what it holds; what a piece owns changes, all else stays.
-/
set_option linter.unusedSectionVars false
set_option linter.unusedVariables false
set_option linter.unusedSimpArgs false
namespace Go.Proofs.YtmnahfonnljobaaGreatDoor.SX
open Go.Conc

/-! ### Maps -/
/-- A map's entries. -/
def MapIs (w : World) (b : Nat) (es : List (Value × Value)) : Prop := ∃ arr clk, w.heap[b]? = some (.map arr clk) ∧ arr.toList.map (fun e => (e.key, e.val)) = es
section
variable {w w' : World} {b b' : Nat} {es : List (Value × Value)} {own : Nat → Prop}
theorem MapIs.keep (h : MapIs w b es) (kp : Keeps own w w') (hb : ¬ own b) : MapIs w' b es := by
  obtain ⟨arr, clk, h1, h2⟩ := h
  exact ⟨arr, clk, by rw [kp.heap b hb]; exact h1, h2⟩
theorem MapIs.lt (h : MapIs w b es) : b < w.heap.size := by
  obtain ⟨arr, clk, h1, h2⟩ := h
  exact heap_lt h1
end

/-! ### What a block holds -/
inductive Blk where
  | obj (e : TypeId) (cs : List Value)
  | vec (e : TypeId) (cap : Nat) (xs : List Value)
  | map (es : List (Value × Value))
  | chan
def Blk.at (P : Program) (w : World) (b : Nat) : Blk → Prop
  | .obj e cs => ObjAt w b cs e
  | .vec e cap xs => VecAt P w e b xs cap
  | .map es => MapIs w b es
  | .chan => ChanAt w b
def Blk.cell : Blk → Nat → Option Value
  | .obj _ cs, n => cs[n]?
  | .vec _ _ xs, n => xs[n]?
  | _, _ => none
def Blk.isChan : Blk → Bool
  | .chan => true
  | _ => false
section
variable {P : Program} {w w' : World} {b : Nat} {k : Blk} {own : Nat → Prop}
theorem Blk.at_keep (h : k.at P w b) (kp : Keeps own w w') (hb : ¬ own b) : k.at P w' b := by
  cases k with
  | obj e cs => exact ObjAt.keep h kp hb
  | vec e cap xs => exact VecAt.keep h kp hb
  | map es => exact MapIs.keep h kp hb
  | chan => exact ChanAt.keep h kp hb
theorem Blk.at_lt (h : k.at P w b) : b < w.heap.size := by
  cases k with
  | obj e cs => exact ObjAt.lt h
  | vec e cap xs => exact VecAt.lt h
  | map es => exact MapIs.lt h
  | chan => exact ChanAt.lt h
theorem Blk.at_cell (h : k.at P w b) {n : Nat} {v : Value} (hn : k.cell n = some v) : w.cell? ⟨b, n, none⟩ = some v := by
  cases k with
  | obj e cs => exact ObjAt.cell h hn
  | vec e cap xs =>
    have := VecAt.arr h n v hn
    rwa [Nat.zero_add] at this
  | map es => cases hn
  | chan => cases hn
theorem Blk.noChan (h : k.at P w b) (hk : k.isChan = false) (hc : ChanAt w b) : False := by
  cases k with
  | obj e cs => exact (ObjAt.ty h).noChan hc rfl
  | vec e cap xs => exact (VecAt.ty h).noChan hc rfl
  | map es =>
    obtain ⟨arr, clk, h1, _⟩ := h
    obtain ⟨n, h2⟩ := hc
    rw [h1] at h2; cases h2
  | chan => cases hk
/-- A meeting changes a channel alone. -/
theorem Blk.at_set (h : k.at P w b) {d c n m : Nat} (hc : w.heap[c]? = some (.chan 0 #[] false n n false)) : k.at P ((w.at d).setChan c 0 #[] false m m false) b := by
  by_cases e : b = c
  · subst e
    cases hk : k.isChan with
    | false => exact (Blk.noChan h hk ⟨n, hc⟩).elim
    | true =>
      cases k with
      | chan => exact ⟨m, heap_setChan_self (w.at d) (c := b) hc _ _ _ _ _ _⟩
      | _ => cases hk
  · exact Blk.at_keep (own := fun b => b = c) h ⟨fun n hn => heap_setChan_ne (w.at d) _ _ _ _ _ _ (fun e => hn e.symm), by rw [Go.Proofs.YtmnahfonnljobaaGreatDoor.SX.size_setChan]; exact Nat.le_refl _, rfl, rfl, rfl⟩ e
end

/-! ### In closed data -/
/-- A block, told in closed data. -/
def AbsIs (P : Program) (ρ : Env) : ABlk → Blk → Prop
  | .cells l e, .obj e' cs => e = e' ∧ AV.evs ρ l = cs
  | .lent l e _, .obj e' cs => e = e' ∧ AV.evs ρ l = cs
  | .pre _ s n fs [] [] e c, .vec e' cap xs => e = e' ∧ ρ.v s = .agg xs.toArray ∧ (∀ i, P.info? e = some i → xs.length = (n.ev ρ).toNat * i.size) ∧ (∀ p ∈ fs, xs[(p.1.ev ρ).toNat]? = some (p.2.ev ρ)) ∧ (c.ev ρ).toNat = cap
  | .map l, .map es => es = l.map fun p => (p.1.ev ρ, p.2.ev ρ)
  | .vmap s n fs ws, .map es => ∃ E, ρ.v s = encE E ∧ E.length = (n.ev ρ).toNat ∧ es = E ++ ws.map (fun p => (p.1.ev ρ, p.2.ev ρ)) ∧ ∀ p ∈ fs, KeyIs ρ E p.1 p.2
  | _, _ => False
theorem abs_is {P : Program} {w : World} {b : Nat} {k : Blk} {ρ : Env} {a : ABlk} (h : k.at P w b) (ha : AbsIs P ρ a k) : ∃ o, w.heap[b]? = some o ∧ a.is P ρ o := by
  unfold AbsIs at ha
  split at ha
  · obtain ⟨rfl, rfl⟩ := ha
    exact ObjAt.is h
  · obtain ⟨rfl, rfl⟩ := ha
    exact ObjAt.isLent h
  · obtain ⟨rfl, h1, h2, h3, h4⟩ := ha
    exact VecAt.is h h1 h2 h3 h4
  · subst ha
    obtain ⟨arr, clk, h1, h2⟩ := h
    exact ⟨_, h1, .inr ⟨arr, clk, rfl, h2⟩⟩
  · obtain ⟨E, h1, h2, rfl, h4⟩ := ha
    obtain ⟨arr, clk, h5, h6⟩ := h
    exact ⟨_, h5, .inr ⟨arr, clk, E, rfl, h1, h2, h6, h4⟩⟩
  · exact ha.elim
theorem abs_noChan {P : Program} {k : Blk} {ρ : Env} {a : ABlk} (ha : AbsIs P ρ a k) : k.isChan = false := by
  unfold AbsIs at ha
  split at ha <;> first | rfl | exact ha.elim

def listV : Value → List Value
  | .agg a => a.toList
  | _ => []
def decE (v : Value) : List (Value × Value) := (listV v).map fun p => ((listV p).getD 0 undef, (listV p).getD 1 undef)
theorem decE_enc (E : List (Value × Value)) : decE (encE E) = E := by
  unfold decE encE listV
  simp only [List.map_map]
  conv => rhs; rw [← List.map_id E]
  refine List.map_congr_left fun p hp => ?_
  rfl
/-- What closed data say that a block holds. -/
def blkOf (ρ : Env) : ABlk → Blk
  | .cells l e => .obj e (AV.evs ρ l)
  | .lent l e _ => .obj e (AV.evs ρ l)
  | .row l e c => .vec e (c.ev ρ).toNat (AV.evs ρ l)
  | .pre _ s _ _ ws cs e c => .vec e (c.ev ρ).toNat (wrote ρ (listV (ρ.v s)) ws ++ AV.evs ρ cs)
  | .map l => .map (l.map fun p => (p.1.ev ρ, p.2.ev ρ))
  | .vmap s _ _ ws => .map (decE (ρ.v s) ++ ws.map fun p => (p.1.ev ρ, p.2.ev ρ))
  | .chan => .chan
theorem is_blk {P : Program} {w : World} {b : Nat} {ρ : Env} {a : ABlk} {o : Obj} (ho : w.heap[b]? = some o) (h : a.is P ρ o) : (blkOf ρ a).at P w b := by
  rcases h with ⟨arr, rfl, hf⟩ | h
  · cases a with
    | cells l e => exact ⟨arr, ho, hf⟩
    | lent l e ls => exact ⟨arr, ho, hf⟩
    | row l e c =>
      obtain ⟨rest, i, h1, h2, h3⟩ := hf
      exact ⟨arr, rest, i, ho, h2, h1, h3⟩
    | pre lk s n fs ws cs e c =>
      obtain ⟨pre, rest, i, h1, h2, h3⟩ := hf
      refine ⟨arr, rest, i, ho, h1.info, ?_, h3⟩
      rw [h1.val, h2]
      simp [listV]
    | map l => exact hf.elim
    | vmap s n fs ws => exact hf.elim
    | chan => exact hf.elim
  · cases a with
    | map l =>
      obtain ⟨arr, clk, rfl, h2⟩ := h
      exact ⟨arr, clk, ho, h2⟩
    | vmap s n fs ws =>
      obtain ⟨arr, clk, E, rfl, h2, h3, h4, h5⟩ := h
      refine ⟨arr, clk, ho, ?_⟩
      rw [h4, h2, decE_enc]
    | chan =>
      obtain ⟨n, rfl⟩ := h
      exact ⟨n, ho⟩
    | _ => exact h.elim

/-! ### Memory by roles -/
structure HeapIs {ι : Type} (P : Program) (base : Nat) (w : World) (L : ι → Option (Nat × Blk)) : Prop where
  at' : ∀ r b k, L r = some (b, k) → k.at P w b
  inj : ∀ r r' b k k', L r = some (b, k) → L r' = some (b, k') → r = r'
  ge : ∀ r b k, L r = some (b, k) → base ≤ b
section
variable {ι : Type} {P : Program} {base : Nat} {w w' : World} {L L' : ι → Option (Nat × Blk)}
theorem HeapIs.sub (H : HeapIs P base w L) (h : ∀ r x, L' r = some x → L r = some x) : HeapIs P base w L' :=
  ⟨fun r b k e => H.at' r b k (h _ _ e), fun r r' b k k' e e' => H.inj r r' b k k' (h _ _ e) (h _ _ e'), fun r b k e => H.ge r b k (h _ _ e)⟩
theorem HeapIs.keep (H : HeapIs P base w L) {own : Nat → Prop} (kp : Keeps own w w') (hk : ∀ r b k, L r = some (b, k) → ¬ own b) : HeapIs P base w' L :=
  ⟨fun r b k e => Blk.at_keep (H.at' r b k e) kp (hk r b k e), H.inj, H.ge⟩
theorem HeapIs.keepN (H : HeapIs P base w L) (kp : Keeps (fun b => w.heap.size ≤ b) w w') : HeapIs P base w' L :=
  H.keep kp fun r b k e => Nat.not_le.2 (Blk.at_lt (H.at' r b k e))
theorem HeapIs.set (H : HeapIs P base w L) {d c n m : Nat} (hc : w.heap[c]? = some (.chan 0 #[] false n n false)) : HeapIs P base ((w.at d).setChan c 0 #[] false m m false) L :=
  ⟨fun r b k e => Blk.at_set (H.at' r b k e) hc, H.inj, H.ge⟩
theorem HeapIs.draw (H : HeapIs P base w L) (d : Nat) : HeapIs P base (w.at d) L :=
  H.keep (own := fun _ => False) ⟨fun n hn => rfl, Nat.le_refl _, rfl, rfl, rfl⟩ fun r b k e h => h
theorem HeapIs.cell (H : HeapIs P base w L) {r : ι} {b : Nat} {k : Blk} (e : L r = some (b, k)) {n : Nat} {v : Value} (hn : k.cell n = some v) : w.cell? ⟨b, n, none⟩ = some v := Blk.at_cell (H.at' r b k e) hn
theorem HeapIs.chan (H : HeapIs P base w L) {r : ι} {b : Nat} (e : L r = some (b, .chan)) : ChanAt w b := H.at' r b _ e
theorem HeapIs.lt (H : HeapIs P base w L) {r : ι} {b : Nat} {k : Blk} (e : L r = some (b, k)) : b < w.heap.size := Blk.at_lt (H.at' r b k e)

variable [DecidableEq ι]
/-- Some roles are dropped, some are laid anew. -/
def relay (L : ι → Option (Nat × Blk)) (drop : List ι) (new : List (ι × Nat × Blk)) : ι → Option (Nat × Blk) := fun r => match new.find? (fun x => decide (x.1 = r)) with
  | some x => some x.2
  | none => if r ∈ drop then none else L r
theorem relay_new {drop : List ι} {new : List (ι × Nat × Blk)} {r : ι} {x : Nat × Blk} (h : relay L drop new r = some x) : (∃ y ∈ new, y = (r, x)) ∨ (r ∉ drop ∧ L r = some x) := by
  unfold relay at h
  split at h
  · rename_i y hy
    cases h
    have h1 := List.mem_of_find?_eq_some hy
    have h2 := List.find?_some hy
    exact .inl ⟨y, h1, by obtain ⟨a, b⟩ := y; simp at h2; rw [h2]⟩
  · split at h
    · cases h
    · rename_i hd
      exact .inr ⟨hd, h⟩
theorem HeapIs.relay (H : HeapIs P base w L) {own : Nat → Prop} (kp : Keeps own w w') {drop : List ι} (hk : ∀ r b k, L r = some (b, k) → r ∉ drop → ¬ own b) {new : List (ι × Nat × Blk)} (hn : ∀ x ∈ new, x.2.2.at P w' x.2.1 ∧ own x.2.1 ∧ base ≤ x.2.1) (hd : (new.map (·.2.1)).Nodup) : HeapIs P base w' (relay L drop new) := by
  refine ⟨fun r b k e => ?_, fun r r' b k k' e e' => ?_, fun r b k e => ?_⟩
  · rcases relay_new e with ⟨y, hy, rfl⟩ | ⟨h1, h2⟩
    · exact (hn _ hy).1
    · exact Blk.at_keep (H.at' r b k h2) kp (hk r b k h2 h1)
  · rcases relay_new e with ⟨y, hy, rfl⟩ | ⟨h1, h2⟩
    · rcases relay_new e' with ⟨y', hy', rfl⟩ | ⟨h1', h2'⟩
      · have := inj_of_nodup (f := fun x : ι × Nat × Blk => x.2.1) hd hy hy' rfl
        exact congrArg Prod.fst this
      · exact absurd (hn _ hy).2.1 (hk _ _ _ h2' h1')
    · rcases relay_new e' with ⟨y', hy', rfl⟩ | ⟨h1', h2'⟩
      · exact absurd (hn _ hy').2.1 (hk _ _ _ h2 h1)
      · exact H.inj r r' b k k' h2 h2'
  · rcases relay_new e with ⟨y, hy, rfl⟩ | ⟨h1, h2⟩
    · exact (hn _ hy).2.2
    · exact H.ge r b k h2
end

/-- A cell that a piece looks at without owning it: of another role, or old. -/
def MemL {ι : Type} (L : ι → Option (Nat × Blk)) (drop : List ι) (w : World) (base : Nat) (ρ : Env) (p : AA × AV) : Prop :=
  (∃ r k, L r = some ((p.1.ev ρ).block, k) ∧ r ∉ drop ∧ k.cell (p.1.ev ρ).off = some (p.2.ev ρ)) ∨ ((p.1.ev ρ).block < base ∧ w.cell? (p.1.ev ρ) = some (p.2.ev ρ))
end Go.Proofs.YtmnahfonnljobaaGreatDoor.SX

/-
  A crew of one whose record is another one under other names; one good run of a crew that comes, whichever way, to 'true'.
-/
import Derived.Test.YtmnahfonnljobaaGreatDoorSxCrews
import Derived.Test.YtmnahfonnljobaaGreatDoorSxRens
set_option linter.unusedSectionVars false
set_option linter.unusedVariables false
set_option linter.unusedSimpArgs false
namespace Go.Proofs.YtmnahfonnljobaaGreatDoor.SX
open Go.Conc

/-- What is known beforehand here was known there, under the other names. -/
structure OrcRen (s : Sub) (O O' : Orc) : Prop where
  bs : ∀ p ∈ O'.bs, (p.1.ren s, p.2) ∈ O.bs
  is : ∀ p ∈ O'.is, (p.1.ren s, p.2.ren s) ∈ O.is
  mem : ∀ p ∈ O'.mem, (p.1.ren s, p.2.ren s) ∈ O.mem

section
variable {P : Program} {O O' : Orc} {ext : Ext} {sum : Sums} {base : Nat} {W0 : World} {cs : List Frame}

theorem cinv_ren {c d : ACfg} {s : Sub} {next deaf nb : Nat} (hr : IsRen s c d) (ho : OrcRen s O O') (hl : cfgLow nb d = true) (hnb : d.h.nb = nb) (hO : O'.low nb = true) {m : Machine} {T : Trace} (I : CInv P O base W0 cs ⟨0, c, [], next, deaf⟩ m T) :
    CInv P O' base W0 cs ⟨0, d, [], next, deaf⟩ m T := by
  obtain ⟨gs, w, sl, q, Inb, U, ρ, γ, a, rfl, F⟩ := I
  have R := F.gam.1
  have fm : ∀ p ∈ O'.mem, ¬ (CK P O base [] ρ).own (p.1.ev (ρ.sub s)).block ∧ w.cell? (p.1.ev (ρ.sub s)) = some (p.2.ev (ρ.sub s)) ∧ ∀ b, (CK P O base [] ρ).Ev ⟨.cell (p.1.ev (ρ.sub s)), false, b⟩ := fun p hp => by
    have h := R.mem _ (ho.mem p hp)
    rw [AA.ev_ren, AV.ev_ren] at h
    exact h
  have Fa : FactsAt (CK P O base [] ρ) O' (ρ.sub s) w :=
    ⟨fun p hp => by have := R.bs _ (ho.bs p hp); rw [BE.ev_ren] at this; exact this, fun p hp => by have := R.is _ (ho.is p hp); rw [IE.ev_ren, IE.ev_ren] at this; exact this, fm⟩
  have Γ := F.gam.ren hr F.ids.ids.nodup Fa
  obtain ⟨R2, Γ2⟩ := Γ
  have own : ∀ n, (CK P O' base [] (ρ.sub s)).own n ↔ (CK P O base [] ρ).own n := fun n => ⟨fun h => ⟨h.1, fun ⟨s, hs, _⟩ => by cases hs⟩, fun h => ⟨h.1, fun ⟨s, hs, _⟩ => by cases hs⟩⟩
  have nostill : ∀ b n, ¬ stillS [] (ρ.sub s) b n := fun b n h => by
    rcases h with ⟨s, hs, _⟩ | ⟨_, s, hs, _⟩ <;> cases hs
  have R3 : Rel (CK P O' base [] (ρ.sub s)) (ρ.sub s) d.h w :=
    ⟨R2.blk, fun i b hb => (R2.own' i b hb).elim (fun h => .inl ((own _).2 h)) fun h => absurd h.2 (by intro h; rcases h with ⟨s, hs, _⟩ | ⟨_, s, hs, _⟩ <;> (cases hs)), R2.inj, R2.bs, R2.is, fun p hp => ⟨fun h => (R2.mem p hp).1 ((own _).1 h), (R2.mem p hp).2.1, fun b => ev_read _ _ b⟩, fun n hn => (own n).2 (R2.room n hn), fun i b hb n hs => absurd hs (nostill _ _), fun b n hs => absurd hs (nostill _ _)⟩
  exact ⟨gs, w, sl, q, Inb, Below nb, ρ.sub s, γ, a, rfl, ⟨F.core, F.zero, F.inj, F.lt, F.hlt, F.here, cfgLow_in hl hnb hO, ⟨R3, Γ2⟩, fun s hs => (by cases hs), fun i t e => (by obtain ⟨s, hs, _⟩ := F.all i t e; cases hs), List.nodup_nil, F.keeps,
    fun p hp => by have := F.mem _ (ho.mem p hp); rw [AA.ev_ren] at this; exact this⟩⟩

/-- So many steps, then only these blocks. -/
theorem cchunk_ok (X : CrewSound P O ext sum) {f n : Nat} {ks : List Nat} {st st' : CSt} (he : cchunk? P O ext sum f n ks st = .ok st') {m : Machine} {T : Trace} (I : CInv P O base W0 cs st m T) : ∃ N m' T', runNT P N m T = (.next m', T') ∧ CInv P O base W0 cs st' m' T' := by
  unfold cchunk? at he
  split at he
  · rename_i h cur callers hp nb lim seats next deaf hr
    cases he
    obtain ⟨N, m1, T1, h1, I1⟩ := crew_ok X hr I
    exact ⟨N, m1, T1, h1, cinv_sieve I1⟩
  · cases he
  · cases he

/-- ONE GOOD RUN of a function whose crew comes, whichever way, to 'true'. -/
theorem crew_run_to {O' : Orc} {ext' : Ext} {sum' : Sums} (X : CrewSound P O' ext' sum') {f : FuncId} {args : List AV} {fr : AFrame} {h0 : AH} (hen : enterA P f args .normal = .ok fr) {W : World} {ρ : Env} {U : Nat → Prop} (I : Ids (CK P O W.heap.size [] ρ) U h0) (ha : AV.Ins U args) (R : Rel (CK P O W.heap.size [] ρ) ρ h0 W) (hm : ∀ p ∈ O.mem, (p.1.ev ρ).block < W.heap.size)
    (runs : ∀ {m : Machine} {T : Trace}, CInv P O W.heap.size W [] ⟨0, ⟨fr, [], h0⟩, [], 1, 0⟩ m T → ∃ N m' T' st' f, runNT P N m T = (.next m', T') ∧ CInv P O' W.heap.size W [] st' m' T' ∧ crew1? P O' ext' sum' f st' = .ok (.inr (.bool (.lit true)))) :
    ∃ M last o w' t', runNT P (M + 1) (solo (G (Frame.enter P f (AV.evs ρ args).toArray .normal) []) W) #[] = (.ended o w', t') ∧ runN P M (solo (G (Frame.enter P f (AV.evs ρ args).toArray .normal) []) W) = .next last ∧
      step P last = .ended o w' ∧ Conc.Good P (fun v W' => v = .bool true ∧ Keeps (fun n => W.heap.size ≤ n) W W') last o w' t' := by
  obtain ⟨e1, e2, e3, e4, e5⟩ := enterA_ok hen (.inl rfl) ha (ρ := ρ)
  have C0 : Tok.Core P (fun _ => none) 0 0 #[] #[G (Frame.enter P f (AV.evs ρ args).toArray .normal) []] W (fun _ => 0) := Tok.begins (leavers_one P _) past_nil
  have I0 : CInv P O W.heap.size W [] ⟨0, ⟨fr, [], h0⟩, [], 1, 0⟩ (crowd #[G (Frame.enter P f (AV.evs ρ args).toArray .normal) []] W none) #[] :=
    ⟨_, W, none, _, _, U, ρ, fun n => n, _, rfl, ⟨C0, rfl, fun _ _ _ _ e => e, fun i hi => by simpa using hi, Nat.lt_succ_self _, rfl, ⟨e2, fun _ x => (by simp at x), I⟩, ⟨R, _, [], e1, trivial, rfl⟩, fun s hs => (by cases hs), fun i t e => (by cases e), List.nodup_nil, Keeps.refl _ _, hm⟩⟩
  obtain ⟨N, m1, T1, st1, f1, hr1, I1, hend⟩ := runs I0
  obtain ⟨hh, hse, hcal, hone, hdf, h', hst⟩ := crew1_end hend
  obtain ⟨gs, w, sl, q, Inb, U1, ρ1, γ, a, rfl, F⟩ := I1
  obtain ⟨h, c, seats, next, deaf⟩ := st1
  dsimp only at hh hse hcal hone hdf
  subst hh; subst hse; subst hdf
  obtain ⟨n2, E⟩ := crew_call X (seats := []) (main := γ 0 == 0) F.mem hst
  have W2 := E U1 ρ1 [] a w F.ids F.gam
  obtain ⟨M, gs', a', w', sl', T', q', hr2, hsz, hat, ⟨ρ2, A, kp, gr, hin, R2, ends⟩, C2⟩ := F.go W2 sl
  obtain ⟨fr', fn', rfl, hb, hd, hf, hmode, hkind, hq⟩ := ends
  dsimp only at hat C2
  have hz := F.zero
  rw [hz] at hat C2
  have hnone : ∀ i, Inb i = none := fun i => by
    cases e : Inb i with
    | none => rfl
    | some t => obtain ⟨s, hs, _⟩ := F.all i t e; cases hs
  obtain ⟨hL, B, hP⟩ := Tok.over C2 hnone
  have hAll : ∀ d, stepG P true (G fr' []) (w'.at d) = .ended (.done (.bool true)) (w'.at d) #[] := by
    intro d
    rw [hcal] at hb
    have hb' : fr'.fn = c.cur.fn := hb
    unfold oneTmp at hone
    have hf' : P.funcs[fr'.fn]? = some fn' := hf
    rw [← hb'] at hone
    rw [hf'] at hone
    dsimp only at hone
    split at hone
    · rename_i tt ht
      have hres : fn'.results = #[.tmp tt] := by apply Array.toList_inj.1; exact ht
      have hq' := hq d (Q := fun x w2 => x = .bool true ∧ w2 = drawnAt w' d) ⟨rfl, rfl⟩
      rw [results_tmp hres] at hq'
      have hv : fr'.tmps.getD tt undef = .bool true := ((wq_pure _).1 hq').1
      have hi : P.inits.idxOf? fr'.fn = none := by simpa using hone
      simp [G, stepG, unwind, doReturn, hmode, hd, hf', results_tmp hres, hkind, GStep.after, hv, hi, seen_none]
    · cases hone
  have hgo : Goes P true AtRel (fun _ _ _ => False) (AtEnd P (fun _ => False) B (fun v W' => v = .bool true ∧ Keeps (fun n => W.heap.size ≤ n) W W')) 0 (G fr' []) w' := by
    intro w₁ hw
    obtain ⟨d, rfl⟩ := hw
    exact ⟨rfl, _, _, hAll d, (by simp), rfl, (F.keeps.trans kp.out).trans ⟨fun _ _ => rfl, Nat.le_refl _, rfl, rfl, rfl⟩⟩
  obtain ⟨K, last, o, w3, t3, b1, b2, b3, b4⟩ := beside_ends (D := fun _ _ _ => False) (fun _ _ _ h => h.elim) (sl := sl') hat hL hP hgo
  have h12 := runNT_then hr1 hr2
  refine ⟨N + M + K, last, o, w3, t3, ?_, ?_, b3, b4⟩
  · rw [show N + M + K + 1 = N + M + (K + 1) by omega, runNT_add]
    have : runNT P (N + M) (solo (G (Frame.enter P f (AV.evs ρ args).toArray .normal) []) W) #[] = (.next (crowd gs' w' sl'), T') := h12
    rw [this]
    exact b1
  · rw [runN_add]
    have : runN P (N + M) (solo (G (Frame.enter P f (AV.evs ρ args).toArray .normal) []) W) = .next (crowd gs' w' sl') := by
      rw [← runNT_fst _ _ _ #[]]
      exact congrArg Prod.fst h12
    rw [this]
    exact b2
end
end Go.Proofs.YtmnahfonnljobaaGreatDoor.SX
/-
  A call run aside whose result points to a new block: its summary. Runs in pieces, joined by hand.
-/
set_option linter.unusedSectionVars false
set_option linter.unusedVariables false
set_option linter.unusedSimpArgs false
namespace Go.Proofs.YtmnahfonnljobaaGreatDoor.SX
open Go.Conc

section
variable {K : Ctx} {main : Bool}

/-- It ends with a pointer to a block of its own: cells of that type. -/
def MadeOne (K2 : Ctx) (fn : FuncId) (e : TypeId) (cs : List Frame) (w : World) (g' : Goroutine) (w' : World) : Prop :=
  ∃ ρ2 h2 j0 cells, Keeps K2.own w w' ∧ Rel K2 ρ2 h2 w' ∧ findB j0 h2.hp = some (.cells cells e) ∧ (∃ inf, K2.P.info? e = some inf ∧ cells.length = inf.size) ∧ EndsAs K2 fn ρ2 (.returned (.ptr (some ⟨.dyn j0, .lit 0⟩))) cs g' w'

/-- Memory behind such a call: one block more, of which nothing is known. -/
noncomputable def madeH (e : TypeId) (h : AH) : AH := ⟨insB h.nb (.row [] e (.lit 1)) h.hp, h.nb + 1, h.lim⟩
noncomputable def madeV (h : AH) : AV := .ptr (some ⟨.dyn h.nb, .lit 0⟩)

theorem aside_new {O : Orc} {fr : AFrame} {e : TypeId} {h : AH} (hlt : h.nb < h.lim)
    (small : ∀ (ρ : Env) (cs : List Frame) (g : Goroutine) (w : World), (beside K O w).Good → Gam K ρ ⟨fr, [], h⟩ cs g w → Walk K.P main (DK (beside K O w)) (MadeOne (beside K O w) fr.fn e cs w) 0 g w) (Gd : K.Good) :
    Ends K main ⟨fr, [], h⟩ (.returned (madeV h), madeH e h) 0 := by
  intro U ρ cs g w I Γ
  have R := Γ.1
  have own : ∀ n, w.heap.size ≤ n → K.own n := R.room
  have W := small ρ cs g w (beside_good Gd R) Γ
  have W2 := Walk.lax (D' := DK K) (fun w1 w2 es hd => ⟨hd.1.mono own, hd.2⟩) W
  refine W2.weaken fun g' w' hd => ?_
  obtain ⟨ρ2, h2, j0, cells, kp, R2, hb, ⟨inf, hi, hlen⟩, ends⟩ := hd
  have keep : ∀ {n : Nat} {o : Obj}, w.heap[n]? = some o → w'.heap[n]? = some o := fun {n o} ho => by
    rw [kp.heap n (Nat.not_le.2 (heap_lt ho)), ho]
  have hlt' : ∀ {a : Addr} {v : Value}, w.cell? a = some v → a.block < w.heap.size := fun {a v} hc => by
    rcases Nat.lt_or_ge a.block w.heap.size with h' | h'
    · exact h'
    · simp [World.cell?, Array.getElem?_eq_none h'] at hc
  have R' : Rel K ρ h w' := ⟨fun i b hb => by
      obtain ⟨o, h1, h2⟩ := R.blk i b hb
      exact ⟨o, keep h1, h2⟩, R.own', R.inj, R.bs, R.is, fun p hp => by
      obtain ⟨m1, m2, m3⟩ := R.mem p hp
      refine ⟨m1, ?_, m3⟩
      have hl := hlt' m2
      simp only [World.cell?] at m2 ⊢
      rw [kp.heap _ (Nat.not_le.2 hl)]; exact m2, fun n hn => R.room n (Nat.le_trans kp.size hn), R.lent, fun b n hb => Nat.lt_of_lt_of_le (R.low b n hb) kp.size⟩
  obtain ⟨arr, ha, hf⟩ := R2.arr hb rfl
  have hge : w.heap.size ≤ ρ2.b j0 := R2.own _ _ hb rfl
  have hnu : ¬ U h.nb := I.ids.fresh _ (Nat.le_refl _) hlt
  have harr : arr.size = inf.size := by
    have h1 : arr.toList = AV.evs ρ2 cells := hf
    have := congrArg List.length h1
    rw [evs_length, hlen] at this
    simpa using this
  have Rn : Rel K (ρ.upd h.nb (ρ2.b j0) 0) (madeH e h) w' :=
    R'.insO I.ids hlt ha (own _ hge) (fun j x hx ee => by
      obtain ⟨o, h1, _⟩ := R.blk j x hx
      have := heap_lt h1
      omega) (fun n hs => by have := R.low _ _ hs; omega) (.inl ⟨arr, rfl, arr.toList, inf, (List.nil_append _).symm, hi, by rw [harr]; simp [IE.ev]⟩)
  refine ⟨ρ.upd h.nb (ρ2.b j0) 0, agree_upd hnu, kp.mono own, ⟨Nat.le_succ _, rfl, I.ids.ins hlt ⟨trivial, trivial⟩⟩, ⟨.inr ⟨Nat.le_refl _, Nat.lt_succ_self _⟩, trivial⟩, Rn, ?_⟩
  obtain ⟨fr', fn', rfl, hfn, hd, hf', m1, m2, m3⟩ := ends
  refine ⟨fr', fn', rfl, hfn, hd, hf', m1, m2, ?_⟩
  have ev : (madeV h).ev (ρ.upd h.nb (ρ2.b j0) 0) = (AV.ptr (some ⟨.dyn j0, .lit 0⟩)).ev ρ2 := by
    simp [madeV, AV.ev, AA.ev, BR.ev, IE.ev, Env.upd]
  show ∀ d, ∀ {Q : Value → World → Prop}, Q ((madeV h).ev _) (drawnAt w' d) → _
  rw [ev]
  exact m3

/-- Its summary, for these arguments. -/
noncomputable def madeSum (f : FuncId) (as : List AV) (e : TypeId) : Sums := fun g args h => Bool.rec none (Bool.rec none (Bool.rec none (some (.ok (.returned (madeV h), madeH e h))) (Nat.ble (h.nb + 1) h.lim)) (AV.eqbs args as)) (Nat.beq g f)

theorem madeSum_ok {f : FuncId} {as : List AV} {e : TypeId} {fr : AFrame} (hen : enterA K.P f as .normal = .ok fr) (he : ∀ h, h.nb < h.lim → ∃ N, Ends K main ⟨fr, [], h⟩ (.returned (madeV h), madeH e h) N) : SumOk K main (madeSum f as e) := by
  intro g args h r hs
  unfold madeSum at hs
  cases e1 : Nat.beq g f with
  | false => rw [e1] at hs; cases hs
  | true =>
    rw [e1] at hs
    obtain rfl := Nat.eq_of_beq_eq_true e1
    cases e2 : AV.eqbs args as with
    | false => rw [e2] at hs; cases hs
    | true =>
      rw [e2] at hs
      obtain rfl := AV.eqbs_eq _ _ e2
      cases e3 : Nat.ble (h.nb + 1) h.lim with
      | false => rw [e3] at hs; cases hs
      | true =>
        rw [e3] at hs
        have hs' : some (Except.ok (.returned (madeV h), madeH e h) : M (AE × AH)) = some (.ok r) := hs
        cases hs'
        obtain ⟨N, E⟩ := he h (Nat.le_of_ble_eq_true e3)
        exact ⟨fr, N, hen, E⟩

/-- A walk from the entry to the end: a contract. -/
theorem calls_of_walk {f : FuncId} {args : Array Value} {w : World} (W : ∀ cs, Walk K.P true (DK K) (fun g' w' => Keeps K.own w w' ∧ ∃ ρ', EndsAs K f ρ' (.returned (.bool (.lit true))) cs g' w') 0 (G (Frame.enter K.P f args .normal) cs) w) :
    Calls K.P f args w fun e w' => e = .returned (.bool true) ∧ Keeps K.own w w' := by
  intro cs
  obtain ⟨g', w', st, kp, ρ', ends⟩ := walk_steps (W cs)
  obtain ⟨fr', fn', rfl, hfn, hd, hf, m1, m2, m3⟩ := ends
  refine ⟨.returned (.bool true), w', fr', ⟨rfl, kp⟩, st, hfn, m1, hd, m2, fn', hf, ?_⟩
  have := (wq_run (m3 w'.drawn (Q := fun x w2 => x = .bool true ∧ w2 = w') ⟨rfl, rfl⟩)).1
  have hw : drawnAt w' w'.drawn = w' := rfl
  rw [hw] at this
  generalize hrr : (results fn' fr'.tmps).run K.P w' = q at this
  cases q with
  | ok x w2 => obtain ⟨rfl, rfl⟩ := this; rfl
  | halt x w2 => cases x <;> exact this.elim
end
end Go.Proofs.YtmnahfonnljobaaGreatDoor.SX

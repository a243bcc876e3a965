/-
  The crew, sound: runs in pieces; the end; one good run.
-/
import Derived.Test.YtcpiafgkmakdiaaSxCrew4
import Derived.Conc.Beside
set_option linter.unusedSectionVars false
set_option linter.unusedVariables false
set_option linter.unusedSimpArgs false
namespace Go.Proofs.Ytcpiafgkmakdiaa.SX
open Go.Conc

section
variable {P : Program} {O : Orc} {ext : Ext} {sum : Sums} {base : Nat} {W0 : World} {cs : List Frame}

theorem crew_ok (X : CrewSound P O ext sum) {f : Nat} : ∀ {n : Nat} {st : CSt} {r : CSt ⊕ AV}, crew? P O ext sum f n st = .ok r → ∀ {m : Machine} {T : Trace}, CInv P O base W0 cs st m T →
    match r with
    | .inl st' => ∃ N m' T', runNT P N m T = (.next m', T') ∧ CInv P O base W0 cs st' m' T'
    | .inr v => ∃ N m' T' st', runNT P N m T = (.next m', T') ∧ CInv P O base W0 cs st' m' T' ∧ crew1? P O ext sum f st' = .ok (.inr v) := by
  intro n
  induction n with
  | zero =>
    intro st r he m T I
    have : (Except.ok (.inl st) : M (CSt ⊕ AV)) = .ok r := he
    cases this
    exact ⟨0, m, T, rfl, I⟩
  | succ n ih =>
    intro st r he m T I
    have he' : (match crew1? P O ext sum f st with
      | .ok (.inl c) => crew? P O ext sum f n c
      | .ok (.inr r) => .ok (.inr r)
      | .error e => .error e) = .ok r := he
    split at he'
    · rename_i c hs
      obtain ⟨N, m1, T1, h1, I1⟩ := crew1_ok X hs I
      have h2 := ih he' I1
      cases r with
      | inl st' =>
        obtain ⟨M, m2, T2, h3, I2⟩ := h2
        exact ⟨N + M, m2, T2, runNT_then h1 h3, I2⟩
      | inr v =>
        obtain ⟨M, m2, T2, st', h3, I2, h4⟩ := h2
        exact ⟨N + M, m2, T2, st', runNT_then h1 h3, I2, h4⟩
    · rename_i v hs
      cases he'
      exact ⟨0, m, T, st, rfl, I, hs⟩
    · cases he'

theorem cinv_sieve {h next deaf : Nat} {cur : AFrame} {callers : List AFrame} {hp : List (Nat × ABlk)} {nb lim : Nat} {ks : List Nat} {seats : List ASeat} {m : Machine} {T : Trace} (I : CInv P O base W0 cs ⟨h, ⟨cur, callers, ⟨hp, nb, lim⟩⟩, seats, next, deaf⟩ m T) :
    CInv P O base W0 cs ⟨h, ⟨cur, callers, ⟨sieve hp ks, nb, lim⟩⟩, seats, next, deaf⟩ m T := by
  obtain ⟨gs, w, sl, q, Inb, U, ρ, γ, a, rfl, F⟩ := I
  exact ⟨gs, w, sl, q, Inb, U, ρ, γ, a, rfl, ⟨F.core, F.zero, F.inj, F.lt, F.hlt, F.here, ⟨F.ids.cur, F.ids.callers, F.ids.ids.sieve⟩, ⟨F.gam.1.sieve F.ids.ids.nodup, F.gam.2⟩, F.seats, F.all, F.nodup, F.keeps, F.mem⟩⟩

/-- Where a crew comes to, piece by piece: it ends with 'true'. -/
inductive CRuns (P : Program) (O : Orc) (ext : Ext) (sum : Sums) : CSt → Prop where
  | last (f n : Nat) (c : CSt) : clast? P O ext sum f n c = true → CRuns P O ext sum c
  | more (f n : Nat) (ks : List Nat) (c c' : CSt) : cchunk? P O ext sum f n ks c = .ok c' → CRuns P O ext sum c' → CRuns P O ext sum c

theorem cruns_ok (X : CrewSound P O ext sum) {st : CSt} (h : CRuns P O ext sum st) : ∀ {m : Machine} {T : Trace}, CInv P O base W0 cs st m T → ∃ N m' T' st' f, runNT P N m T = (.next m', T') ∧ CInv P O base W0 cs st' m' T' ∧ crew1? P O ext sum f st' = .ok (.inr (.bool (.lit true))) := by
  induction h with
  | last f n c he =>
    intro m T I
    unfold clast? at he
    split at he
    · rename_i b hr
      cases he
      obtain ⟨N, m', T', st', h1, h2, h3⟩ := crew_ok X hr I
      exact ⟨N, m', T', st', f, h1, h2, h3⟩
    · cases he
  | more f n ks c c' he _ ih =>
    intro m T I
    unfold cchunk? at he
    split at he
    · rename_i h cur callers hp nb lim seats next deaf hr
      cases he
      obtain ⟨N, m1, T1, h1, I1⟩ := crew_ok X hr I
      obtain ⟨M, m2, T2, st', f', h2, h3, h4⟩ := ih (cinv_sieve I1)
      exact ⟨N + M, m2, T2, st', f', runNT_then h1 h2, h3, h4⟩
    · cases he
    · cases he

/-- A result that lies in a temporary. -/
theorem results_tmp {fn : Func} {t : Nat} (h : fn.results = #[.tmp t]) (tmps : Array Value) : results fn tmps = pure (tmps.getD t undef) := by
  unfold results
  rw [h]
  simp

theorem crew1_end {f : Nat} {st : CSt} {v : AV} (he : crew1? P O ext sum f st = .ok (.inr v)) : st.h = 0 ∧ st.seats = [] ∧ st.c.callers = [] ∧ oneTmp P st.c.cur.fn = true ∧ st.deaf = 0 ∧ ∃ h', step? P O ext (fun g args h => match sum g args h with
      | some r => r
      | none => match enterA P g args .normal with
        | .ok fr => run? P O ext sum f ⟨fr, [], h⟩
        | .error e => .error e) st.c = .ok (.inr (.returned v, h')) := by
  have walk : (match step? P O ext (fun g args h => match sum g args h with
      | some r => r
      | none => match enterA P g args .normal with
        | .ok fr => run? P O ext sum f ⟨fr, [], h⟩
        | .error e => .error e) st.c with
    | .ok (.inl c) => (.ok (.inl { st with c }) : M (CSt ⊕ AV))
    | .ok (.inr (.returned v, _)) => match Nat.beq st.h 0, st.seats, st.c.callers, oneTmp P st.c.cur.fn, st.deaf with
      | true, [], [], true, 0 => .ok (.inr v)
      | _, _, _, _, _ => .error "the end somebody waits"
    | .ok (.inr _) => .error "the end a panic"
    | .error e => .error e) = .ok (.inr v) → st.h = 0 ∧ st.seats = [] ∧ st.c.callers = [] ∧ oneTmp P st.c.cur.fn = true ∧ st.deaf = 0 ∧ ∃ h', step? P O ext (fun g args h => match sum g args h with
      | some r => r
      | none => match enterA P g args .normal with
        | .ok fr => run? P O ext sum f ⟨fr, [], h⟩
        | .error e => .error e) st.c = .ok (.inr (.returned v, h')) := by
    intro hw
    split at hw
    · cases hw
    · rename_i v' h' hs
      split at hw
      · rename_i e1 e2 e3 e4 e5
        cases hw
        exact ⟨Nat.eq_of_beq_eq_true e1, e2, e3, e4, e5, h', hs⟩
      · cases hw
    · cases hw
    · cases hw
  unfold crew1? at he
  dsimp only at he
  split at he
  · split at he
    · split at he <;> cases he
    · split at he <;> cases he
    · split at he
      · split at he <;> cases he
      · exact walk he
    · exact walk he
  · exact walk he

/-- ONE GOOD RUN of a function whose crew comes, piece by piece, to 'true'. -/
theorem crew_run (X : CrewSound P O ext sum) {f : FuncId} {args : List AV} {fr : AFrame} {h0 : AH} (hen : enterA P f args .normal = .ok fr) (runs : CRuns P O ext sum ⟨0, ⟨fr, [], h0⟩, [], 1, 0⟩)
    {W : World} {ρ : Env} {U : Nat → Prop} (I : Ids (CK P O W.heap.size [] ρ) U h0) (ha : AV.Ins U args) (R : Rel (CK P O W.heap.size [] ρ) ρ h0 W) (hm : ∀ p ∈ O.mem, (p.1.ev ρ).block < W.heap.size) :
    ∃ M last o w' t', runNT P (M + 1) (solo (G (Frame.enter P f (AV.evs ρ args).toArray .normal) []) W) #[] = (.ended o w', t') ∧ runN P M (solo (G (Frame.enter P f (AV.evs ρ args).toArray .normal) []) W) = .next last ∧
      step P last = .ended o w' ∧ Conc.Good P (fun v W' => v = .bool true ∧ Keeps (fun n => W.heap.size ≤ n) W W') last o w' t' := by
  obtain ⟨e1, e2, e3, e4, e5⟩ := enterA_ok hen (.inl rfl) ha (ρ := ρ)
  have C0 : Tok.Core P (fun _ => none) 0 0 #[] #[G (Frame.enter P f (AV.evs ρ args).toArray .normal) []] W (fun _ => 0) := Tok.begins (leavers_one P _) past_nil
  have I0 : CInv P O W.heap.size W [] ⟨0, ⟨fr, [], h0⟩, [], 1, 0⟩ (crowd #[G (Frame.enter P f (AV.evs ρ args).toArray .normal) []] W none) #[] :=
    ⟨_, W, none, _, _, U, ρ, fun n => n, _, rfl, ⟨C0, rfl, fun _ _ _ _ e => e, fun i hi => by simpa using hi, Nat.lt_succ_self _, rfl, ⟨e2, fun _ x => (by simp at x), I⟩, ⟨R, _, [], e1, trivial, rfl⟩, fun s hs => (by cases hs), fun i t e => (by cases e), List.nodup_nil, Keeps.refl _ _, hm⟩⟩
  obtain ⟨N, m1, T1, st1, f1, hr1, I1, hend⟩ := cruns_ok X runs I0
  obtain ⟨hh, hse, hcal, hone, hdf, h', hst⟩ := crew1_end hend
  obtain ⟨gs, w, sl, q, Inb, U1, ρ1, γ, a, rfl, F⟩ := I1
  obtain ⟨h, c, seats, next, deaf⟩ := st1
  dsimp only at hh hse hcal hone hdf
  subst hh; subst hse; subst hdf
  obtain ⟨n2, E⟩ := crew_call X (seats := []) (main := γ 0 == 0) F.mem hst
  have W2 := E U1 ρ1 [] a w F.ids F.gam
  obtain ⟨M, gs', a', w', sl', T', q', hr2, hsz, hat, ⟨ρ2, A, kp, gr, hin, R2, ends⟩, C2⟩ := F.go W2 sl
  obtain ⟨fr', fn', rfl, hb, hd, hf, hmode, hkind, hq⟩ := ends
  dsimp only at hat C2
  have hz := F.zero
  rw [hz] at hat C2
  have hnone : ∀ i, Inb i = none := fun i => by
    cases e : Inb i with
    | none => rfl
    | some t => obtain ⟨s, hs, _⟩ := F.all i t e; cases hs
  obtain ⟨hL, B, hP⟩ := Tok.over C2 hnone
  have hAll : ∀ d, stepG P true (G fr' []) (w'.at d) = .ended (.done (.bool true)) (w'.at d) #[] := by
    intro d
    rw [hcal] at hb
    have hb' : fr'.fn = c.cur.fn := hb
    unfold oneTmp at hone
    have hf' : P.funcs[fr'.fn]? = some fn' := hf
    rw [← hb'] at hone
    rw [hf'] at hone
    dsimp only at hone
    split at hone
    · rename_i tt ht
      have hres : fn'.results = #[.tmp tt] := by apply Array.toList_inj.1; exact ht
      have hq' := hq d (Q := fun x w2 => x = .bool true ∧ w2 = drawnAt w' d) ⟨rfl, rfl⟩
      rw [results_tmp hres] at hq'
      have hv : fr'.tmps.getD tt undef = .bool true := ((wq_pure _).1 hq').1
      have hi : P.inits.idxOf? fr'.fn = none := by simpa using hone
      simp [G, stepG, unwind, doReturn, hmode, hd, hf', results_tmp hres, hkind, GStep.after, hv, hi, seen_none]
    · cases hone
  have hgo : Goes P true AtRel (fun _ _ _ => False) (AtEnd P (fun _ => False) B (fun v W' => v = .bool true ∧ Keeps (fun n => W.heap.size ≤ n) W W')) 0 (G fr' []) w' := by
    intro w₁ hw
    obtain ⟨d, rfl⟩ := hw
    exact ⟨rfl, _, _, hAll d, (by simp), rfl, (F.keeps.trans kp.out).trans ⟨fun _ _ => rfl, Nat.le_refl _, rfl, rfl, rfl⟩⟩
  obtain ⟨K, last, o, w3, t3, b1, b2, b3, b4⟩ := beside_ends (D := fun _ _ _ => False) (fun _ _ _ h => h.elim) (sl := sl') hat hL hP hgo
  have h12 := runNT_then hr1 hr2
  refine ⟨N + M + K, last, o, w3, t3, ?_, ?_, b3, b4⟩
  · rw [show N + M + K + 1 = N + M + (K + 1) by omega, runNT_add]
    have : runNT P (N + M) (solo (G (Frame.enter P f (AV.evs ρ args).toArray .normal) []) W) #[] = (.next (crowd gs' w' sl'), T') := h12
    rw [this]
    exact b1
  · rw [runN_add]
    have : runN P (N + M) (solo (G (Frame.enter P f (AV.evs ρ args).toArray .normal) []) W) = .next (crowd gs' w' sl') := by
      rw [← runNT_fst _ _ _ #[]]
      exact congrArg Prod.fst h12
    rw [this]
    exact b2
end
end Go.Proofs.Ytcpiafgkmakdiaa.SX

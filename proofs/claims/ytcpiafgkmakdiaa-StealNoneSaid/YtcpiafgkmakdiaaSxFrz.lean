/-
  Memory that nobody writes any more becomes old: a crew of one goes on with what it knows of it.
-/
import Derived.Test.YtcpiafgkmakdiaaSxRensB
set_option linter.unusedSectionVars false
set_option linter.unusedVariables false
set_option linter.unusedSimpArgs false
namespace Go.Proofs.Ytcpiafgkmakdiaa.SX
open Go.Conc

noncomputable section
def IE.val : IE → Option Int
  | .lit n => some n
  | .var _ => none
  | .op o k a b => match a.val, b.val with
    | some x, some y => some (iop o k x y)
    | _, _ => none
  | .conv k a => match a.val with
    | some x => some (k.wrap x)
    | none => none
  | .plus a b => match a.val, b.val with
    | some x, some y => some (x + y)
    | _, _ => none
  | .times a b => match a.val, b.val with
    | some x, some y => some (x * y)
    | _, _ => none
  | .tn a => match a.val with
    | some x => some (x.toNat : Int)
    | none => none
def BE.val : BE → Option Bool
  | .lit b => some b
  | .var _ => none
  | .cmp o a b => match a.val, b.val with
    | some x, some y => some (icmp o x y)
    | _, _ => none
/-- What that cell holds. -/
def cellAt (hp : List (Nat × ABlk)) (a : AA) : Option AV :=
  match a.blk, a.off.val with
  | .dyn i, some n => match findB i hp with
    | some b => match b.isMem with
      | true => b.cs[n.toNat]?
      | false => none
    | none => none
  | _, _ => none
def frzMem (hp : List (Nat × ABlk)) (s : Sub) : List (AA × AV) → Bool
  | [] => true
  | p :: l => (match cellAt hp (p.1.ren s) with
    | some v => AV.eqb v (p.2.ren s)
    | none => false) && frzMem hp s l
def frzBs (O : Orc) (s : Sub) : List (BE × Bool) → Bool
  | [] => true
  | p :: l => (match (p.1.ren s).val with
    | some b => b == p.2
    | none => match look BE.eqb (p.1.ren s) O.bs with
      | some b => b == p.2
      | none => false) && frzBs O s l
def frzIs (s : Sub) : List (IE × IE) → Bool
  | [] => true
  | p :: l => (match (p.1.ren s).val, (p.2.ren s).val with
    | some a, some b => decide (a = b)
    | _, _ => false) && frzIs s l
end

theorem IE.val_ev (ρ : Env) : ∀ {e : IE} {n : Int}, e.val = some n → e.ev ρ = n := by
  intro e
  induction e with
  | lit m => intro n h; cases h; rfl
  | var i => intro n h; cases h
  | op o k a b iha ihb =>
    intro n h
    simp only [IE.val] at h
    split at h
    · rename_i x y hx hy
      cases h
      simp only [IE.ev, iha hx, ihb hy]
    · cases h
  | conv k a ih =>
    intro n h
    simp only [IE.val] at h
    split at h
    · rename_i x hx
      cases h
      simp only [IE.ev, ih hx]
    · cases h
  | plus a b iha ihb =>
    intro n h
    simp only [IE.val] at h
    split at h
    · rename_i x y hx hy
      cases h
      simp only [IE.ev, iha hx, ihb hy]
    · cases h
  | times a b iha ihb =>
    intro n h
    simp only [IE.val] at h
    split at h
    · rename_i x y hx hy
      cases h
      simp only [IE.ev, iha hx, ihb hy]
    · cases h
  | tn a ih =>
    intro n h
    simp only [IE.val] at h
    split at h
    · rename_i x hx
      cases h
      simp only [IE.ev, ih hx]
    · cases h
theorem BE.val_ev (ρ : Env) {e : BE} {b : Bool} (h : e.val = some b) : e.ev ρ = b := by
  cases e with
  | lit c => cases h; rfl
  | var i => cases h
  | cmp o x y =>
    simp only [BE.val] at h
    split at h
    · rename_i a c ha hc
      cases h
      simp only [BE.ev, IE.val_ev ρ ha, IE.val_ev ρ hc]
    · cases h

theorem cellAt_ok {K : Ctx} {ρ : Env} {h : AH} {w : World} (R : Rel K ρ h w) {a : AA} {v : AV} (hc : cellAt h.hp a = some v) : w.cell? (a.ev ρ) = some (v.ev ρ) := by
  unfold cellAt at hc
  split at hc
  rotate_left
  · cases hc
  rename_i i n hb hn
  split at hc
  rotate_left
  · cases hc
  rename_i b hf
  split at hc
  rotate_left
  · cases hc
  rename_i hm
  obtain ⟨blk, off⟩ := a
  dsimp only at hb hn
  subst hb
  have e : (⟨.dyn i, off⟩ : AA).ev ρ = ⟨ρ.b i, n.toNat, none⟩ := by
    simp only [AA.ev, BR.ev, IE.val_ev ρ hn]
  obtain ⟨arr, h1, h2⟩ := R.arr hf hm
  rw [e, cell?_of h1]
  exact fits_get h2 hc

section
variable {P : Program} {O O' : Orc} {ext : Ext} {sum : Sums} {base : Nat} {W0 : World} {cs : List Frame}

/-- The record d is c under other names, but for memory: it has none of its own. -/
structure IsFrz (O O' : Orc) (s : Sub) (n : Nat) (c d : ACfg) : Prop where
  ok : (d.cur.rOk s && d.callers.all (AFrame.rOk s)) = true
  cur : c.cur = d.cur.ren s
  callers : c.callers = d.callers.map (AFrame.ren s)
  hp : d.h.hp = []
  low : cfgLow n d = true
  nb : d.h.nb = n
  olow : O'.low n = true
  mem : frzMem c.h.hp s O'.mem = true
  bs : frzBs O s O'.bs = true
  is : frzIs s O'.is = true

theorem frzMem_ok {K : Ctx} {ρ : Env} {h : AH} {w : World} (R : Rel K ρ h w) {s : Sub} : ∀ {l : List (AA × AV)}, frzMem h.hp s l = true → ∀ p ∈ l, w.cell? (p.1.ev (ρ.sub s)) = some (p.2.ev (ρ.sub s))
  | q :: l, hm, p, hp => by
    unfold frzMem at hm
    rw [Bool.and_eq_true] at hm
    rcases List.mem_cons.1 hp with rfl | hp
    · have h1 := hm.1
      split at h1
      · rename_i v hv
        have := cellAt_ok R hv
        rw [AV.eqb_eq _ _ h1, AA.ev_ren, AV.ev_ren] at this
        exact this
      · cases h1
    · exact frzMem_ok R hm.2 p hp
theorem frzBs_ok {K : Ctx} {ρ : Env} {h : AH} {w : World} (R : Rel K ρ h w) {s : Sub} : ∀ {l : List (BE × Bool)}, frzBs K.O s l = true → ∀ p ∈ l, p.1.ev (ρ.sub s) = p.2
  | q :: l, hm, p, hp => by
    unfold frzBs at hm
    rw [Bool.and_eq_true] at hm
    rcases List.mem_cons.1 hp with rfl | hp
    · have h1 := hm.1
      rw [← BE.ev_ren]
      split at h1
      · rename_i b hb
        rw [BE.val_ev ρ hb]
        simpa using h1
      · split at h1
        · rename_i b hb
          obtain ⟨x, hx, he⟩ := look_some hb
          rw [BE.eqb_eq he, R.bs _ hx]
          simpa using h1
        · cases h1
    · exact frzBs_ok R hm.2 p hp
theorem frzIs_ok {ρ : Env} {s : Sub} : ∀ {l : List (IE × IE)}, frzIs s l = true → ∀ p ∈ l, p.1.ev (ρ.sub s) = p.2.ev (ρ.sub s)
  | q :: l, hm, p, hp => by
    unfold frzIs at hm
    rw [Bool.and_eq_true] at hm
    rcases List.mem_cons.1 hp with rfl | hp
    · have h1 := hm.1
      rw [← IE.ev_ren, ← IE.ev_ren]
      split at h1
      · rename_i a b ha hb
        rw [IE.val_ev ρ ha, IE.val_ev ρ hb]
        exact of_decide_eq_true h1
      · cases h1
    · exact frzIs_ok hm.2 p hp

theorem cinv_freeze {c d : ACfg} {s : Sub} {next deaf nb : Nat} (z : IsFrz O O' s nb c d) {m : Machine} {T : Trace} (I : CInv P O base W0 cs ⟨0, c, [], next, deaf⟩ m T) :
    ∃ base' W1, (base ≤ base' ∧ Keeps (fun n => base ≤ n) W0 W1) ∧ CInv P O' base' W1 cs ⟨0, d, [], next, deaf⟩ m T := by
  obtain ⟨gs, w, sl, q, Inb, U, ρ, γ, a, rfl, F⟩ := I
  have R := F.gam.1
  have hbase : base ≤ w.heap.size := by
    have := (R.room _ (Nat.le_refl w.heap.size)).1
    exact this
  have hmem := frzMem_ok R z.mem
  have hlt : ∀ {a : Addr} {v : Value}, w.cell? a = some v → a.block < w.heap.size := fun {a v} hc => by
    rcases Nat.lt_or_ge a.block w.heap.size with h' | h'
    · exact h'
    · simp [World.cell?, Array.getElem?_eq_none h'] at hc
  have nostill : ∀ b n, ¬ stillS [] (ρ.sub s) b n := fun b n h => by
    rcases h with ⟨s, hs, _⟩ | ⟨_, s, hs, _⟩ <;> cases hs
  have hp := z.hp
  have R3 : Rel (CK P O' w.heap.size [] (ρ.sub s)) (ρ.sub s) d.h w := by
    refine ⟨fun i b hb => ?_, fun i b hb => ?_, fun i j b c hb => ?_, frzBs_ok R z.bs, frzIs_ok z.is, fun p hp' => ⟨fun h => absurd h.1 (Nat.not_le.2 (hlt (hmem p hp'))), hmem p hp', fun b => ev_read _ _ b⟩, fun n hn => ⟨hn, fun ⟨s, hs, _⟩ => by cases hs⟩, fun i b hb n hs => absurd hs (nostill _ _), fun b n hs => absurd hs (nostill _ _)⟩
    · rw [hp] at hb; cases hb
    · rw [hp] at hb; cases hb
    · rw [hp] at hb; cases hb
  obtain ⟨_, fr, frs, h1, h2, h3⟩ := F.gam
  rw [show (⟨0, c, [], next, deaf⟩ : CSt).c.cur = d.cur.ren s from z.cur] at h1
  rw [show (⟨0, c, [], next, deaf⟩ : CSt).c.callers = d.callers.map (AFrame.ren s) from z.callers] at h2
  have hok := z.ok
  rw [Bool.and_eq_true] at hok
  refine ⟨w.heap.size, w, ⟨hbase, F.keeps⟩, gs, w, sl, q, Inb, Below nb, ρ.sub s, γ, a, rfl, ⟨F.core, F.zero, F.inj, F.lt, F.hlt, F.here, cfgLow_in z.low z.nb z.olow, ⟨R3, fr, frs, FrRel.ren hok.1 h1, FrRels.ren hok.2 h2, h3⟩, fun s hs => (by cases hs), fun i t e => (by obtain ⟨s, hs, _⟩ := F.all i t e; cases hs), List.nodup_nil, Keeps.refl _ _,
    fun p hp' => hlt (hmem p hp')⟩⟩

/-- ONE GOOD RUN of a function whose crew comes, whichever way, to 'true'; some of its memory has become old on the way. -/
theorem crew_run_frz' {f : FuncId} {args : List AV} {fr : AFrame} {h0 : AH} (hen : enterA P f args .normal = .ok fr) {W : World} {ρ : Env} {U : Nat → Prop} (I : Ids (CK P O W.heap.size [] ρ) U h0) (ha : AV.Ins U args) (R : Rel (CK P O W.heap.size [] ρ) ρ h0 W) (hm : ∀ p ∈ O.mem, (p.1.ev ρ).block < W.heap.size)
    (runs : ∀ {m : Machine} {T : Trace}, CInv P O W.heap.size W [] ⟨0, ⟨fr, [], h0⟩, [], 1, 0⟩ m T → ∃ O' ext' sum' N m' T' st' f base' W1, CrewSound P O' ext' sum' ∧ runNT P N m T = (.next m', T') ∧ (W.heap.size ≤ base' ∧ Keeps (fun n => W.heap.size ≤ n) W W1) ∧ CInv P O' base' W1 [] st' m' T' ∧ crew1? P O' ext' sum' f st' = .ok (.inr (.bool (.lit true)))) :
    ∃ M last o w' t', runNT P (M + 1) (solo (G (Frame.enter P f (AV.evs ρ args).toArray .normal) []) W) #[] = (.ended o w', t') ∧ runN P M (solo (G (Frame.enter P f (AV.evs ρ args).toArray .normal) []) W) = .next last ∧
      step P last = .ended o w' ∧ Conc.Good P (fun v W' => v = .bool true ∧ Keeps (fun n => W.heap.size ≤ n) W W') last o w' t' := by
  obtain ⟨e1, e2, e3, e4, e5⟩ := enterA_ok hen (.inl rfl) ha (ρ := ρ)
  have C0 : Tok.Core P (fun _ => none) 0 0 #[] #[G (Frame.enter P f (AV.evs ρ args).toArray .normal) []] W (fun _ => 0) := Tok.begins (leavers_one P _) past_nil
  have I0 : CInv P O W.heap.size W [] ⟨0, ⟨fr, [], h0⟩, [], 1, 0⟩ (crowd #[G (Frame.enter P f (AV.evs ρ args).toArray .normal) []] W none) #[] :=
    ⟨_, W, none, _, _, U, ρ, fun n => n, _, rfl, ⟨C0, rfl, fun _ _ _ _ e => e, fun i hi => by simpa using hi, Nat.lt_succ_self _, rfl, ⟨e2, fun _ x => (by simp at x), I⟩, ⟨R, _, [], e1, trivial, rfl⟩, fun s hs => (by cases hs), fun i t e => (by cases e), List.nodup_nil, Keeps.refl _ _, hm⟩⟩
  obtain ⟨O', ext', sum', N, m1, T1, st1, f1, base', W1, X, hr1, ⟨hle, hkW⟩, I1, hend⟩ := runs I0
  obtain ⟨hh, hse, hcal, hone, hdf, h', hst⟩ := crew1_end hend
  obtain ⟨gs, w, sl, q, Inb, U1, ρ1, γ, a, rfl, F⟩ := I1
  obtain ⟨h, c, seats, next, deaf⟩ := st1
  dsimp only at hh hse hcal hone hdf
  subst hh; subst hse; subst hdf
  obtain ⟨n2, E⟩ := crew_call X (seats := []) (main := γ 0 == 0) F.mem hst
  have W2 := E U1 ρ1 [] a w F.ids F.gam
  obtain ⟨M, gs', a', w', sl', T', q', hr2, hsz, hat, ⟨ρ2, A, kp, gr, hin, R2, ends⟩, C2⟩ := F.go W2 sl
  obtain ⟨fr', fn', rfl, hb, hd, hf, hmode, hkind, hq⟩ := ends
  dsimp only at hat C2
  have hz := F.zero
  rw [hz] at hat C2
  have hnone : ∀ i, Inb i = none := fun i => by
    cases e : Inb i with
    | none => rfl
    | some t => obtain ⟨s, hs, _⟩ := F.all i t e; cases hs
  obtain ⟨hL, B, hP⟩ := Tok.over C2 hnone
  have hAll : ∀ d, stepG P true (G fr' []) (w'.at d) = .ended (.done (.bool true)) (w'.at d) #[] := by
    intro d
    rw [hcal] at hb
    have hb' : fr'.fn = c.cur.fn := hb
    unfold oneTmp at hone
    have hf' : P.funcs[fr'.fn]? = some fn' := hf
    rw [← hb'] at hone
    rw [hf'] at hone
    dsimp only at hone
    split at hone
    · rename_i tt ht
      have hres : fn'.results = #[.tmp tt] := by apply Array.toList_inj.1; exact ht
      have hq' := hq d (Q := fun x w2 => x = .bool true ∧ w2 = drawnAt w' d) ⟨rfl, rfl⟩
      rw [results_tmp hres] at hq'
      have hv : fr'.tmps.getD tt undef = .bool true := ((wq_pure _).1 hq').1
      have hi : P.inits.idxOf? fr'.fn = none := by simpa using hone
      simp [G, stepG, unwind, doReturn, hmode, hd, hf', results_tmp hres, hkind, GStep.after, hv, hi, seen_none]
    · cases hone
  have hgo : Goes P true AtRel (fun _ _ _ => False) (AtEnd P (fun _ => False) B (fun v W' => v = .bool true ∧ Keeps (fun n => W.heap.size ≤ n) W W')) 0 (G fr' []) w' := by
    intro w₁ hw
    obtain ⟨d, rfl⟩ := hw
    exact ⟨rfl, _, _, hAll d, (by simp), rfl, (hkW.trans ((F.keeps.trans kp.out).mono fun n hn => Nat.le_trans hle hn)).trans ⟨fun _ _ => rfl, Nat.le_refl _, rfl, rfl, rfl⟩⟩
  obtain ⟨K, last, o, w3, t3, b1, b2, b3, b4⟩ := beside_ends (D := fun _ _ _ => False) (fun _ _ _ h => h.elim) (sl := sl') hat hL hP hgo
  have h12 := runNT_then hr1 hr2
  refine ⟨N + M + K, last, o, w3, t3, ?_, ?_, b3, b4⟩
  · rw [show N + M + K + 1 = N + M + (K + 1) by omega, runNT_add]
    have : runNT P (N + M) (solo (G (Frame.enter P f (AV.evs ρ args).toArray .normal) []) W) #[] = (.next (crowd gs' w' sl'), T') := h12
    rw [this]
    exact b1
  · rw [runN_add]
    have : runN P (N + M) (solo (G (Frame.enter P f (AV.evs ρ args).toArray .normal) []) W) = .next (crowd gs' w' sl') := by
      rw [← runNT_fst _ _ _ #[]]
      exact congrArg Prod.fst h12
    rw [this]
    exact b2
end
end Go.Proofs.Ytcpiafgkmakdiaa.SX

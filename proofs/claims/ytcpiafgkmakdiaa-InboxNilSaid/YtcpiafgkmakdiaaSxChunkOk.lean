/-
  Long runs in pieces, sound.
-/
import Derived.Test.YtcpiafgkmakdiaaSxChunk
import Derived.Test.YtcpiafgkmakdiaaSxLone
set_option linter.unusedSectionVars false
set_option linter.unusedVariables false
namespace Go.Proofs.Ytcpiafgkmakdiaa.SX
open Go.Conc

theorem sieve_nil (ks : List Nat) : sieve [] ks = [] := rfl
theorem sieve_nil' (p : Nat × ABlk) (l : List (Nat × ABlk)) : sieve (p :: l) [] = [] := rfl
theorem sieve_cons (p : Nat × ABlk) (l : List (Nat × ABlk)) (k : Nat) (ks : List Nat) : sieve (p :: l) (k :: ks) = Bool.rec (sieve l (k :: ks)) (p :: sieve l ks) (Nat.beq p.1 k) := rfl

theorem sieve_sub : ∀ (l : List (Nat × ABlk)) (ks : List Nat), (sieve l ks).Sublist l
  | [], ks => by rw [sieve_nil]; exact List.Sublist.refl _
  | p :: l, [] => by rw [sieve_nil']; exact List.nil_sublist _
  | p :: l, k :: ks => by
    rw [sieve_cons]
    cases Nat.beq p.1 k with
    | true => exact (sieve_sub l ks).cons_cons p
    | false => exact (sieve_sub l (k :: ks)).cons p

theorem find_cons (i : Nat) (p : Nat × ABlk) (l : List (Nat × ABlk)) : findB i (p :: l) = Bool.rec (findB i l) (some p.2) (Nat.beq i p.1) := rfl

theorem find_mem {i : Nat} {b : ABlk} : ∀ {l : List (Nat × ABlk)}, findB i l = some b → (i, b) ∈ l
  | [], h => by cases h
  | p :: l, h => by
    rw [find_cons] at h
    cases e : Nat.beq i p.1 with
    | true =>
      rw [e] at h
      have h' : some p.2 = some b := h
      have e2 := Nat.eq_of_beq_eq_true e
      cases h'
      rw [e2]
      exact List.mem_cons_self ..
    | false =>
      rw [e] at h
      exact List.mem_cons_of_mem _ (find_mem (l := l) h)

theorem mem_find {i : Nat} {b : ABlk} : ∀ {l : List (Nat × ABlk)}, (keys l).Nodup → (i, b) ∈ l → findB i l = some b
  | [], _, h => by cases h
  | p :: l, hn, h => by
    rw [find_cons]
    have hn' : (p.1 :: keys l).Nodup := hn
    rcases List.mem_cons.1 h with rfl | h
    · simp
    · cases e : Nat.beq i p.1 with
      | true =>
        have e2 := Nat.eq_of_beq_eq_true e
        have : i ∈ keys l := List.mem_map.2 ⟨(i, b), h, rfl⟩
        rw [e2] at this
        exact absurd this (List.nodup_cons.1 hn').1
      | false => exact mem_find (List.nodup_cons.1 hn').2 h

theorem keys_sub {l m : List (Nat × ABlk)} (h : l.Sublist m) : (keys l).Sublist (keys m) := h.map _

theorem sieve_find {l : List (Nat × ABlk)} {ks : List Nat} (hn : (keys l).Nodup) {i : Nat} {b : ABlk} (h : findB i (sieve l ks) = some b) : findB i l = some b :=
  mem_find hn ((sieve_sub l ks).mem (find_mem h))

section
variable {K : Ctx} {main : Bool} {U : Nat → Prop} {ρ : Env} {cs : List Frame}

theorem Rel.sieve {hp : List (Nat × ABlk)} {nb lim : Nat} {ks : List Nat} {w : World} (R : Rel K ρ ⟨hp, nb, lim⟩ w) (hn : (keys hp).Nodup) : Rel K ρ ⟨SX.sieve hp ks, nb, lim⟩ w :=
  ⟨fun i b h => R.blk i b (sieve_find hn h), fun i b h => R.own' i b (sieve_find hn h), fun i j b c h h' e => R.inj i j b c (sieve_find hn h) (sieve_find hn h') e, R.bs, R.is, R.mem, R.room, fun i b h => R.lent i b (sieve_find hn h), R.low⟩

theorem Ids.sieve {hp : List (Nat × ABlk)} {nb lim : Nat} {ks : List Nat} (I : Ids K U ⟨hp, nb, lim⟩) : Ids K U ⟨SX.sieve hp ks, nb, lim⟩ :=
  ⟨fun i b h => I.hp i b (sieve_find I.nodup h), fun i h => I.keys i ((keys_sub (sieve_sub hp ks)).mem h), (keys_sub (sieve_sub hp ks)).nodup I.nodup, I.fresh, I.orc⟩

theorem Next.sieve {w w' : World} {h0 : AH} {cur : AFrame} {callers : List AFrame} {hp : List (Nat × ABlk)} {nb lim : Nat} {ks : List Nat} {g' : Goroutine}
    (h : Next K U ρ cs w h0 ⟨cur, callers, ⟨hp, nb, lim⟩⟩ g' w') : Next K U ρ cs w h0 ⟨cur, callers, ⟨SX.sieve hp ks, nb, lim⟩⟩ g' w' := by
  obtain ⟨ρ', a1, a2, a3, a4, R, Γ⟩ := h
  exact ⟨ρ', a1, a2, ⟨a3.nb, a3.lim, a3.ids.sieve⟩, ⟨a4.cur, a4.callers, a4.ids.sieve⟩, R.sieve a4.ids.nodup, Γ⟩

theorem steps_ok (Gd : K.Good) (F : K.Facts) {ext : Ext} (X : ExtOk K ext) {sum : Sums} (Z : SumOk K main sum) {f : Nat} : ∀ {n : Nat} {c : ACfg} {r : ACfg ⊕ (AE × AH)}, steps? K.P K.O ext sum f n c = .ok r →
    match r with
    | .inl c' => bot c'.cur.fn c'.callers = bot c.cur.fn c.callers ∧ ∃ N, Leads K main c c' N
    | .inr r => ∃ N, Ends K main c r N := by
  intro n
  induction n with
  | zero =>
    intro c r he
    have : (Except.ok (.inl c) : M (ACfg ⊕ (AE × AH))) = .ok r := he
    cases this
    exact ⟨rfl, 0, fun U ρ cs g w I Γ => Walk.stop ⟨ρ, Agree.refl _ _, Keeps.refl _ _, Grows.refl I.ids, I.congr (plus_same U _), Γ⟩⟩
  | succ n ih =>
    intro c r he
    have he' : (match step? K.P K.O ext (fun g args h => match sum g args h with
      | some r => r
      | none => match enterA K.P g args .normal with
        | .ok fr => run? K.P K.O ext sum f ⟨fr, [], h⟩
        | .error e => .error e) c with
      | .ok (.inl c) => steps? K.P K.O ext sum f n c
      | .ok (.inr r) => .ok (.inr r)
      | .error e => .error e) = .ok r := he
    have C := callOk_of (K := K) (main := main) Z (k := run? K.P K.O ext sum f) (run_ok Gd F X Z)
    split at he'
    · rename_i c' hs
      obtain ⟨N, L⟩ := step_ok Gd F X C hs
      have hb := step_bot hs
      have h2 := ih he'
      cases r with
      | inl c2 =>
        obtain ⟨b2, M, L2⟩ := h2
        exact ⟨b2.trans hb, N + M, L.trans L2⟩
      | inr r2 =>
        obtain ⟨M, E⟩ := h2
        exact ⟨N + M, L.ends hb E⟩
    · rename_i r' hs
      cases he'
      exact step_ok Gd F X C hs
    · cases he'

theorem chunk_ok (Gd : K.Good) (F : K.Facts) {ext : Ext} (X : ExtOk K ext) {sum : Sums} (Z : SumOk K main sum) {f n : Nat} {ks : List Nat} {c c' : ACfg} (he : chunk? K.P K.O ext sum f n ks c = .ok c') :
    bot c'.cur.fn c'.callers = bot c.cur.fn c.callers ∧ ∃ N, Leads K main c c' N := by
  unfold chunk? at he
  split at he
  · rename_i cur callers hp nb lim hs
    cases he
    obtain ⟨b, N, L⟩ := steps_ok (main := main) Gd F X Z hs
    exact ⟨b, N, fun U ρ cs g w I Γ => (L U ρ cs g w I Γ).weaken fun _ _ h => h.sieve⟩
  · cases he
  · cases he

/-- Where a run comes to, piece by piece: it ends with 'true'. -/
inductive Runs (P : Program) (O : Orc) (ext : Ext) (sum : Sums) : ACfg → Prop where
  | last (f n : Nat) (c : ACfg) : lastB? P O ext sum f n c = true → Runs P O ext sum c
  | more (f n : Nat) (ks : List Nat) (c c' : ACfg) : chunk? P O ext sum f n ks c = .ok c' → Runs P O ext sum c' → Runs P O ext sum c

theorem lastB_ok {P : Program} {O : Orc} {ext : Ext} {sum : Sums} {f n : Nat} {c : ACfg} (h : lastB? P O ext sum f n c = true) : ∃ h', steps? P O ext sum f n c = .ok (.inr (.returned (.bool (.lit true)), h')) := by
  unfold lastB? at h
  split at h
  · rename_i b h' e
    cases h
    exact ⟨h', e⟩
  · cases h

theorem runs_ends (Gd : K.Good) (F : K.Facts) {ext : Ext} (X : ExtOk K ext) {sum : Sums} (Z : SumOk K main sum) {c : ACfg} (h : Runs K.P K.O ext sum c) : ∃ N h', Ends K main c (.returned (.bool (.lit true)), h') N := by
  induction h with
  | last f n c he =>
    obtain ⟨h', e⟩ := lastB_ok he
    obtain ⟨N, E⟩ := steps_ok (main := main) Gd F X Z e
    exact ⟨N, h', E⟩
  | more f n ks c c' he _ ih =>
    obtain ⟨M, h', E⟩ := ih
    obtain ⟨b, N, L⟩ := chunk_ok (main := main) Gd F X Z he
    exact ⟨N + M, h', L.ends b E⟩

/-- A call whose run comes piece by piece to 'true'. -/
theorem calls_runs (Gd : K.Good) (F : K.Facts) {ext : Ext} (X : ExtOk K ext) {sum : Sums} (Z : SumOk K true sum) {f : FuncId} {args : List AV} {h : AH} {fr : AFrame} (hen : enterA K.P f args .normal = .ok fr) (hr : Runs K.P K.O ext sum ⟨fr, [], h⟩)
    {w : World} (I : Ids K U h) (ha : AV.Ins U args) (R : Rel K ρ h w) : Calls K.P f (AV.evs ρ args).toArray w fun e w' => e = .returned (.bool true) ∧ Keeps K.own w w' := by
  intro cs
  obtain ⟨N, h', E⟩ := runs_ends (main := true) Gd F X Z hr
  obtain ⟨e1, e2, e3, e4, e5⟩ := enterA_ok hen (.inl rfl) ha (ρ := ρ)
  have W := E U ρ cs (G (Frame.enter K.P f (AV.evs ρ args).toArray .normal) cs) w ⟨e2, fun _ x => by (simp at x), I⟩ ⟨R, _, [], e1, trivial, rfl⟩
  obtain ⟨g', w', st, ρ', A, kp, gr, hin, R', ends⟩ := walk_steps W
  obtain ⟨fr', fn', rfl, hfn, hd, hf, m1, m2, m3⟩ := ends
  have hb : fr'.fn = f := by rw [hfn]; exact e4
  refine ⟨.returned (.bool true), w', fr', ⟨rfl, kp⟩, st, hb, m1, hd, m2, fn', hf, ?_⟩
  have := (wq_run (m3 w'.drawn (Q := fun x w2 => x = .bool true ∧ w2 = w') ⟨rfl, rfl⟩)).1
  have hw : drawnAt w' w'.drawn = w' := rfl
  rw [hw] at this
  generalize hrr : (results fn' fr'.tmps).run K.P w' = q at this
  cases q with
  | ok x w2 => obtain ⟨rfl, rfl⟩ := this; rfl
  | halt x w2 => cases x <;> exact this.elim

/-! ### A call with closed arguments, run aside -/
theorem Keeps.mono {o o' : Nat → Prop} {w w' : World} (h : Keeps o w w') (hs : ∀ n, o n → o' n) : Keeps o' w w' := ⟨fun n hn => h.heap n fun x => hn (hs n x), h.size, h.tape, h.os, h.output⟩

/-- The context of a run beside all that is there: it owns what is new alone. -/
def beside (K : Ctx) (O : Orc) (w : World) : Ctx := { K with O := O, own := fun n => w.heap.size ≤ n }

theorem aside_walk {O : Orc} {ext : Ext} {sum : Sums} {f : FuncId} {args : List AV} {fr : AFrame} {nb lim : Nat} {v : AV} {U' : Nat → Prop} {w : World} (hen : enterA K.P f args .normal = .ok fr)
    (he : ∃ N h', Ends (beside K O w) main ⟨fr, [], ⟨[], nb, lim⟩⟩ (.returned v, h') N) (ha : AV.Ins U' args) (ho : O.In U') (hf : ∀ n, nb ≤ n → n < lim → ¬ U' n) (hv : v.In (fun _ => False)) (hb : ∀ p ∈ O.bs, p.1.ev ρ = p.2) (hi : ∀ p ∈ O.is, p.1.ev ρ = p.2.ev ρ)
    (hm : ∀ p ∈ O.mem, p ∈ K.O.mem) {h : AH} {g : Goroutine} (I : CIds K U ⟨fr, [], h⟩) (Γ : Gam K ρ ⟨fr, [], h⟩ cs g w) : Walk K.P main (DK K) (Done K (bot fr.fn []) U ρ cs w h (.returned v, h)) 0 g w := by
  obtain ⟨R, Γ'⟩ := Γ
  have own : ∀ n, w.heap.size ≤ n → K.own n := R.room
  obtain ⟨N, h', E⟩ := he
  have hlt : ∀ {a : Addr} {v : Value}, w.cell? a = some v → a.block < w.heap.size := fun {a v} hc => by
    rcases Nat.lt_or_ge a.block w.heap.size with h' | h'
    · exact h'
    · simp [World.cell?, Array.getElem?_eq_none h'] at hc
  have R' : Rel (beside K O w) ρ ⟨[], nb, lim⟩ w := by
    refine ⟨(fun i b hb => by cases hb), (fun i b hb => by cases hb), (fun i j b c hb => by cases hb), hb, hi, fun p hp => ?_, (fun n hn => hn), (fun i b hb => by cases hb), R.low⟩
    obtain ⟨m1, m2, m3⟩ := R.mem p (hm p hp)
    exact ⟨fun hx => absurd (hlt m2) (Nat.not_lt.2 hx), m2, m3⟩
  obtain ⟨e1, e2, e3, e4, e5⟩ := enterA_ok hen (.inl rfl) ha (ρ := ρ)
  have I' : CIds (beside K O w) U' ⟨fr, [], ⟨[], nb, lim⟩⟩ :=
    ⟨e2, fun _ x => by (simp at x), fun i b hb => by (cases hb), fun i hi => by (cases hi), List.nodup_nil, hf, ho⟩
  have W := E U' ρ cs g w I' ⟨R', Γ'⟩
  have W2 := Walk.lax (D' := DK K) (fun w1 w2 es hd => ⟨hd.1.mono own, hd.2⟩) W
  refine (W2.weaken fun g' w' hd => ?_).any
  obtain ⟨ρ', A, kp, gr, hin, R2, ends⟩ := hd
  have keep : ∀ {n : Nat} {o : Obj}, w.heap[n]? = some o → w'.heap[n]? = some o := fun {n o} ho => by
    rw [kp.heap n (Nat.not_le.2 (heap_lt ho)), ho]
  refine ⟨ρ, Agree.refl _ _, kp.mono own, Grows.refl I.ids, AV.In.mono (fun _ x => x.elim) _ hv, ⟨fun i b hb => ?_, R.own', R.inj, R.bs, R.is, fun p hp => ?_, fun n hn => R.room n (Nat.le_trans kp.size hn), R.lent, fun b n hb => Nat.lt_of_lt_of_le (R.low b n hb) kp.size⟩, ?_⟩
  · obtain ⟨arr, h1, h2⟩ := R.blk i b hb
    exact ⟨arr, keep h1, h2⟩
  · obtain ⟨m1, m2, m3⟩ := R.mem p hp
    refine ⟨m1, ?_, m3⟩
    have hl := hlt m2
    simp only [World.cell?] at m2 ⊢
    rw [kp.heap _ (Nat.not_le.2 hl)]; exact m2
  · obtain ⟨fr', fn', rfl, hfn, hd, hf, m1, m2, m3⟩ := ends
    refine ⟨fr', fn', rfl, hfn, hd, hf, m1, m2, ?_⟩
    have e : v.ev ρ' = v.ev ρ := AV.ev_agree (A.mono fun _ x => x.elim) v hv
    rw [← e]
    exact m3

theorem beside_good (Gd : K.Good) {O : Orc} {h : AH} {w : World} (R : Rel K ρ h w) : (beside K O w).Good := ⟨fun a s ho => Gd.rd a s (R.room _ ho), fun a s ho => Gd.wr a s (R.room _ ho), Gd.noWr, Gd.ext, Gd.noRoom, Gd.lock, fun r wr s ho => Gd.obj r wr s (R.room _ ho)⟩

theorem aside_ok {O : Orc} {ext : Ext} {sum : Sums} {f : FuncId} {args : List AV} {fr : AFrame} {nb lim : Nat} (hen : enterA K.P f args .normal = .ok fr) (hr : Runs K.P O ext sum ⟨fr, [], ⟨[], nb, lim⟩⟩)
    (ha : AV.Ins (fun _ => False) args) (ho : O.In (fun _ => False)) (hb : O.bs = []) (hi : O.is = []) (hm : ∀ p ∈ O.mem, p ∈ K.O.mem) (Gd : K.Good) (F : ∀ w, (beside K O w).Facts) (X : ∀ w, (beside K O w).Good → ExtOk (beside K O w) ext) (Z : ∀ w, (beside K O w).Good → SumOk (beside K O w) main sum) (h : AH) :
    ∃ N, Ends K main ⟨fr, [], h⟩ (.returned (.bool (.lit true)), h) N :=
  ⟨0, fun U ρ cs g w I Γ => by
    have Gd' := beside_good (O := O) Gd Γ.1
    exact aside_walk (O := O) (ext := ext) (sum := sum) hen (runs_ends (main := main) (K := beside K O w) Gd' (F w) (X w Gd') (Z w Gd') hr) ha ho (fun _ _ _ x => x) trivial (fun p hp => by rw [hb] at hp; cases hp) (fun p hp => by rw [hi] at hp; cases hp) hm I Γ⟩

theorem ansSum_ok {f : FuncId} {as : List AV} {v : AV} {fr : AFrame} (hen : enterA K.P f as .normal = .ok fr) (he : ∀ h, ∃ N, Ends K main ⟨fr, [], h⟩ (.returned v, h) N) : SumOk K main (ansSum f as v) := by
  intro g args h r hs
  unfold ansSum at hs
  cases e : Nat.beq g f with
  | false => rw [e] at hs; cases hs
  | true =>
    rw [e] at hs
    obtain rfl := Nat.eq_of_beq_eq_true e
    cases e2 : AV.eqbs args as with
    | false => rw [e2] at hs; cases hs
    | true =>
      rw [e2] at hs
      obtain rfl := AV.eqbs_eq _ _ e2
      have hs' : some (Except.ok (.returned v, h) : M (AE × AH)) = some (.ok r) := hs
      cases hs'
      obtain ⟨N, E⟩ := he h
      exact ⟨fr, N, hen, E⟩

theorem orSum_ok {s1 s2 : Sums} (h1 : SumOk K main s1) (h2 : SumOk K main s2) : SumOk K main (orSum s1 s2) := by
  intro g args h r hs
  unfold orSum at hs
  split at hs
  · rename_i r' e
    cases hs
    exact h1 _ _ _ _ e
  · exact h2 _ _ _ _ hs

theorem truth_ok {f : FuncId} {fr : AFrame} (hen : enterA K.P f [] .normal = .ok fr) (he : ∀ h, ∃ N, Ends K main ⟨fr, [], h⟩ (.returned (.bool (.lit true)), h) N) : SumOk K main (truth f) := by
  intro g args h r hs
  unfold truth at hs
  split at hs
  · cases e : Nat.beq g f with
    | false => rw [e] at hs; cases hs
    | true =>
      rw [e] at hs
      obtain rfl := Nat.eq_of_beq_eq_true e
      have hs' : some (Except.ok (.returned (.bool (.lit true)), h) : M (AE × AH)) = some (.ok r) := hs
      cases hs'
      obtain ⟨N, E⟩ := he h
      exact ⟨fr, N, hen, E⟩
  · cases hs
end
end Go.Proofs.Ytcpiafgkmakdiaa.SX

/-
  steal.One over deques of which none has anything: a summary for who knows the array. Conditions: none.
-/
import Derived.Test.YtcpiafgkmakdiaaSxSNsum
set_option maxRecDepth 100000
set_option linter.unusedVariables false
set_option linter.unusedSectionVars false
set_option linter.unusedSimpArgs false
namespace Go.Proofs.Ytcpiafgkmakdiaa
open Go.Proofs.Ytcpiafgkmakdiaa.SX Go.Conc

theorem enterA_args {P : Program} {f : FuncId} {args args' : List AV} {k : CallKind} {fr : AFrame} (he : enterA P f args k = .ok fr) (hl : args'.length = args.length) : enterA P f args' k = .ok { fr with tmps := TT.fill args' 0 .leaf } := by
  unfold enterA at he ⊢
  split at he
  · rename_i fn hf
    split at he
    · rename_i c hc
      split at he
      · rename_i hlen
        cases he
        simp only [hf, hc]
        rw [if_pos (by rw [hl]; exact hlen)]
      · cases he
    · cases he
  · cases he

theorem FrRel.one {P : Program} {ρ : Env} {fr : AFrame} (hm : fr.mode = .run) {a b : Frame} (h1 : FrRel P ρ fr a) (h2 : FrRel P ρ fr b) : a = b := by
  obtain ⟨t1, d1, i1, rfl⟩ := h1
  obtain ⟨t2, d2, i2, rfl⟩ := h2
  have e1 : t1 = t2 := by
    apply Array.ext (by rw [i1.tmps.size, i2.tmps.size])
    intro n hn1 hn2
    have a1 := i1.tmps.get n (by rw [← i1.tmps.size]; exact hn1)
    have a2 := i2.tmps.get n (by rw [← i1.tmps.size]; exact hn1)
    rw [Array.getElem?_eq_getElem hn1] at a1
    rw [Array.getElem?_eq_getElem hn2] at a2
    exact Option.some.inj (a1.trans a2.symm)
  rw [e1, i1.todo hm, i2.todo hm]

/-- The summary: these deques, whoever goes. -/
noncomputable def oneSum : Sums := fun g args hh =>
  match Nat.beq g 18 with
  | false => none
  | true => match args with
    | .ptr (some ⟨.dyn z, .lit (.ofNat 0)⟩) :: rest => match AV.eqbs rest [.slice (some ⟨.dyn 1, .lit 0⟩) v3 (.var 6), .int .i64 v2] with
      | true => some (.ok (.returned snRes, hh))
      | false => none
    | _ => none

def OneW (h : Bool) (Ev : Event → Prop) (lock : Prop) (still : Nat → Nat → Prop) (main : Bool) (ρ2 : Env) (cs : List Frame) (w : World) : Prop :=
  Walk Try.prog main (DK (KO (OO h [] []) (fun n => w.heap.size ≤ n) Ev lock still)) (fun g' w' => Keeps (fun n => w.heap.size ≤ n) w w' ∧ ∃ ρ', EndsAs (KO (OO h [] []) (fun n => w.heap.size ≤ n) Ev lock still) 18 ρ' (.returned snRes) cs g' w') 0
      (G (Frame.enter Try.prog 18 (AV.evs ρ2 snArgs).toArray .normal) ([] ++ cs)) w

section
variable {own : Nat → Prop} {Ev : Event → Prop} {lock : Prop} {still : Nat → Nat → Prop} {main : Bool} {h : Bool}

theorem fam_in {U : Nat → Prop} (h1 : U 1) (h3 : U 3) (h4 : ∀ j, j < 70 → U (400 + j)) : ∀ p ∈ fam h, p.1.In U ∧ p.2.In U := by
  intro p hp
  cases h with
  | true =>
    rcases List.mem_append.1 hp with hp | hp
    · obtain ⟨j, hj, rfl⟩ := List.mem_map.1 hp
      exact ⟨⟨h1, trivial, h3⟩, ⟨h4 j (List.mem_range.1 hj), trivial⟩⟩
    · obtain ⟨j, hj, rfl⟩ := List.mem_map.1 hp
      exact ⟨⟨h4 j (List.mem_range.1 hj), trivial⟩, trivial⟩
  | false =>
    obtain ⟨j, hj, rfl⟩ := List.mem_map.1 hp
    exact ⟨⟨h1, trivial, h3⟩, trivial⟩

theorem oneSum_ok {O : Orc} (Gd : (KO O own Ev lock still).Good) (hm : ∀ p ∈ fam h, p ∈ O.mem) (hn1 : (.cmp .lss v3 (.lit 1), false) ∈ O.bs) : SumOk (KO O own Ev lock still) main oneSum := by
  intro f args hh r hs
  unfold oneSum at hs
  split at hs
  · cases hs
  rename_i hf
  split at hs
  rotate_left
  · cases hs
  rename_i z rest
  split at hs
  rotate_left
  · cases hs
  rename_i hr
  have hr' := AV.eqbs_eq _ _ hr
  subst hr'
  cases hs
  obtain rfl := Nat.eq_of_beq_eq_true hf
  have hen := enterA_args (args' := [.ptr (some ⟨.dyn z, .lit 0⟩), .slice (some ⟨.dyn 1, .lit 0⟩) v3 (.var 6), .int .i64 v2]) snE rfl
  refine ⟨_, 0, hen, ?_⟩
  intro U ρ cs g w I Γ
  have R := Γ.1
  obtain ⟨_, frc, frs, hfr, hfrs, rfl⟩ := Γ
  have own' : ∀ n, w.heap.size ≤ n → own n := R.room
  have hlt : ∀ {a : Addr} {v : Value}, w.cell? a = some v → a.block < w.heap.size := fun {a v} hc => by
    rcases Nat.lt_or_ge a.block w.heap.size with h' | h'
    · exact h'
    · simp [World.cell?, Array.getElem?_eq_none h'] at hc
  -- the same frame, under the other name
  have A9 : Agree (fun n => n ≠ 9) ρ (ρ.upd 9 (ρ.b z) 0) := agree_upd (by simp)
  have hb9 : (ρ.upd 9 (ρ.b z) 0).b 9 = ρ.b z := by simp [Env.upd]
  generalize hρ2 : ρ.upd 9 (ρ.b z) 0 = ρ2 at *
  have i2 : ρ2.i 2 = ρ.i 2 := A9.i 2 (by decide)
  have i3 : ρ2.i 3 = ρ.i 3 := A9.i 3 (by decide)
  have i6 : ρ2.i 6 = ρ.i 6 := A9.i 6 (by decide)
  have b1 : ρ2.b 1 = ρ.b 1 := A9.b 1 (by decide)
  have hargs : AV.evs ρ [.ptr (some ⟨.dyn z, .lit 0⟩), .slice (some ⟨.dyn 1, .lit 0⟩) v3 (.var 6), .int .i64 v2] = AV.evs ρ2 snArgs := by
    simp [snArgs, AV.evs, AV.ev, AA.ev, BR.ev, IE.ev, v2, v3, hb9, i2, i3, i6, b1]
  obtain ⟨x1, _, _, _, _⟩ := enterA_ok (P := Try.prog) hen (.inl rfl) (U := fun _ => True) (ρ := ρ) (by simp [AV.Ins, AV.In, optIn, AA.In, BR.In, IE.In, v2, v3])
  obtain ⟨x2, x3, _, _, _⟩ := enterA_ok (P := Try.prog) snE (.inl rfl) (U := Below 500) (ρ := ρ2) (by simp [snArgs, AV.Ins, AV.In, optIn, AA.In, BR.In, IE.In, v2, v3, Below])
  rw [hargs] at x1
  have efr : frc = Frame.enter Try.prog 18 (AV.evs ρ2 snArgs).toArray .normal := FrRel.one rfl hfr x1
  subst efr
  -- what is known of the numbers
  have hn : 1 ≤ ρ2.i 3 := by
    have := R.bs _ hn1
    simp only [BE.ev, icmp, v3, IE.ev, decide_eq_false_iff_not] at this
    omega
  have hfam : ∀ p ∈ fam h, w.cell? (p.1.ev ρ2) = some (p.2.ev ρ2) ∧ ∀ s, Ev ⟨.cell (p.1.ev ρ2), false, s⟩ := fun p hp => by
    obtain ⟨m1, m2, m3⟩ := R.mem p (hm p hp)
    have hin := fam_in (h := h) (U := fun n => n ≠ 9) (by decide) (by decide) (fun j _ => by omega) p hp
    rw [AA.ev_agree A9 hin.1, AV.ev_agree A9 _ hin.2]
    exact ⟨m2, m3⟩
  have rel : ∀ {bs : List (BE × Bool)}, (∀ p ∈ bs, p.1.ev ρ2 = p.2) → Rel (beside (KO O own Ev lock still) (OO h bs []) w) ρ2 h1 w := fun {bs} hbs => by
    refine ⟨(fun i b hb => by cases hb), (fun i b hb => by cases hb), (fun i j b c hb => by cases hb), hbs, fun p hp => ?_, fun p hp => ?_, (fun n hn => hn), (fun i b hb => by cases hb), R.low⟩
    · obtain rfl := List.mem_singleton.1 hp
      simp only [IE.ev, v3]
      omega
    · obtain ⟨m2, m3⟩ := hfam p hp
      exact ⟨fun hx => absurd (hlt m2) (Nat.not_lt.2 hx), m2, m3⟩
  have ids : ∀ {bs : List (BE × Bool)}, (∀ p ∈ bs, p.1.In (Below 500)) → CIds (beside (KO O own Ev lock still) (OO h bs []) w) (Below 500) ⟨snFr, [], h1⟩ := fun {bs} hbs => by
    refine ⟨x3, (fun _ x => by simp at x), (fun i b hb => by cases hb), (fun i hi => by cases hi), List.nodup_nil, (fun n h1 _ h3 => ?_), hbs, fun p hp => ?_, fam_in (by show 1 < 500; omega) (by show 3 < 500; omega) fun j hj => (by show 400 + j < 500; omega)⟩
    · have a1 : 600 ≤ n := h1
      have a2 : n < 500 := h3
      omega
    · obtain rfl := List.mem_singleton.1 hp
      exact ⟨(by show 3 < 500; omega), (by show 3 < 500; omega)⟩
  have good : ∀ {bs : List (BE × Bool)}, (beside (KO O own Ev lock still) (OO h bs []) w).Good := fun {bs} => beside_good Gd R
  -- the walk, whichever class
  have W : OneW h Ev lock still main ρ2 cs w := by
    have run : ∀ {bs : List (BE × Bool)}, (∀ p ∈ bs, p.1.ev ρ2 = p.2) → (∀ p ∈ bs, p.1.In (Below 500)) → (∃ N h', Go.Proofs.Ytcpiafgkmakdiaa.SX.Ends (KO (OO h bs []) (fun n => w.heap.size ≤ n) Ev lock still) main ⟨snFr, [], h1⟩ (.returned snRes, h') N) → OneW h Ev lock still main ρ2 cs w := fun {bs} hb1 hb2 hE => by
      obtain ⟨N, h', E⟩ := hE
      have := E (Below 500) ρ2 cs _ w (ids hb2) ⟨rel hb1, _, [], x2, trivial, rfl⟩
      exact (this.weaken (T := fun g' w' => Keeps (fun n => w.heap.size ≤ n) w w' ∧ ∃ ρ', EndsAs (KO (OO h [] []) (fun n => w.heap.size ≤ n) Ev lock still) 18 ρ' (.returned snRes) cs g' w') fun g' w' hd => by
        obtain ⟨ρ', A, kp, gr, hin, R2, ends⟩ := hd
        exact ⟨kp, ρ', ends⟩).any
    have in2 : v2.In (Below 500) := (by show 2 < 500; omega)
    have in3 : v3.In (Below 500) := (by show 3 < 500; omega)
    by_cases c1 : 64 < ρ2.i 3
    · refine run (bs := outB 1) (fun p hp => ?_) (fun p hp => ?_) (one_out 1 (by omega) good)
      · simp only [outB, List.mem_cons, List.not_mem_nil, or_false] at hp
        rcases hp with rfl | rfl <;> simp only [BE.ev, icmp, v3, v2, IE.ev] <;> first | exact decide_eq_false (by omega) | exact decide_eq_true (by omega)
      · simp only [outB, List.mem_cons, List.not_mem_nil, or_false] at hp
        rcases hp with rfl | rfl <;> exact ⟨in3, trivial⟩
    by_cases c2 : ρ2.i 2 < 0
    · refine run (bs := outB 2) (fun p hp => ?_) (fun p hp => ?_) (one_out 2 (by omega) good)
      · simp only [outB, List.mem_cons, List.not_mem_nil, or_false] at hp
        rcases hp with rfl | rfl | rfl <;> simp only [BE.ev, icmp, v3, v2, IE.ev] <;> first | exact decide_eq_false (by omega) | exact decide_eq_true (by omega)
      · simp only [outB, List.mem_cons, List.not_mem_nil, or_false] at hp
        rcases hp with rfl | rfl | rfl <;> first | exact ⟨in3, trivial⟩ | exact ⟨in2, trivial⟩
    by_cases c3 : ρ2.i 3 ≤ ρ2.i 2
    · refine run (bs := outB 3) (fun p hp => ?_) (fun p hp => ?_) (one_out 3 (by omega) good)
      · simp only [outB, List.mem_cons, List.not_mem_nil, or_false] at hp
        rcases hp with rfl | rfl | rfl | rfl <;> simp only [BE.ev, icmp, v3, v2, IE.ev] <;> first | exact decide_eq_false (by omega) | exact decide_eq_true (by omega)
      · simp only [outB, List.mem_cons, List.not_mem_nil, or_false] at hp
        rcases hp with rfl | rfl | rfl | rfl <;> first | exact ⟨in3, trivial⟩ | exact ⟨in2, trivial⟩ | exact ⟨in2, in3⟩
    · refine run (bs := inB) (fun p hp => ?_) (fun p hp => ?_) (one_in good)
      · simp only [inB, List.mem_cons, List.not_mem_nil, or_false] at hp
        rcases hp with rfl | rfl | rfl | rfl <;> simp only [BE.ev, icmp, v3, v2, IE.ev] <;> first | exact decide_eq_false (by omega) | exact decide_eq_true (by omega)
      · simp only [inB, List.mem_cons, List.not_mem_nil, or_false] at hp
        rcases hp with rfl | rfl | rfl | rfl <;> first | exact ⟨in3, trivial⟩ | exact ⟨in2, trivial⟩ | exact ⟨in2, in3⟩
  have hfrs' : frs = [] := by
    cases frs with
    | nil => rfl
    | cons a b => exact absurd hfrs (by simp [FrRels])
  subst hfrs'
  have W2 := Walk.lax (D' := DK (KO O own Ev lock still)) (fun w1 w2 es hd => ⟨hd.1.mono own', hd.2⟩) W
  refine W2.weaken fun g' w' hd => ?_
  obtain ⟨kp, ρ', ends⟩ := hd
  have keep : ∀ {n : Nat} {o : Obj}, w.heap[n]? = some o → w'.heap[n]? = some o := fun {n o} ho => by
    rw [kp.heap n (Nat.not_le.2 (heap_lt ho)), ho]
  refine ⟨ρ, Agree.refl _ _, kp.mono own', Grows.refl I.ids, AV.In.mono (U := fun _ => False) (fun _ x => x.elim) _ ⟨trivial, trivial, trivial, trivial⟩, ⟨fun i b hb => ?_, R.own', R.inj, R.bs, R.is, fun p hp => ?_, fun n hn => R.room n (Nat.le_trans kp.size hn), R.lent, fun b n hb => Nat.lt_of_lt_of_le (R.low b n hb) kp.size⟩, ?_⟩
  · obtain ⟨arr, a1, a2⟩ := R.blk i b hb
    exact ⟨arr, keep a1, a2⟩
  · obtain ⟨m1, m2, m3⟩ := R.mem p hp
    refine ⟨m1, ?_, m3⟩
    have hl := hlt m2
    simp only [World.cell?] at m2 ⊢
    rw [kp.heap _ (Nat.not_le.2 hl)]; exact m2
  · obtain ⟨fr', fn', rfl, hfn, hd, hf, m1, m2, m3⟩ := ends
    refine ⟨fr', fn', rfl, hfn, hd, hf, m1, m2, ?_⟩
    have e : snRes.ev ρ' = snRes.ev ρ := by simp [snRes, AV.ev, AV.evs, IE.ev, BE.ev]
    rw [← e]
    exact m3
end
end Go.Proofs.Ytcpiafgkmakdiaa

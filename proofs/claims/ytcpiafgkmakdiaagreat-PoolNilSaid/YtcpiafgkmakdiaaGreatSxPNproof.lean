/-
  PoolNil: for every call and every number, over pools that nobody made, functions and numbers that are none: the law answers true, on every schedule, without a data race; the arguments read as they did. Conditions: the row's own (calm: the clock alone may have gone on).
-/
import Derived.Test.YtcpiafgkmakdiaaGreatSxPNz
import Derived.Test.YtcpiafgkmakdiaaGreatSxPNB0
import Derived.Test.YtcpiafgkmakdiaaGreatSxPNB1
import Derived.Test.YtcpiafgkmakdiaaGreatSxPNB2
import Derived.Test.YtcpiafgkmakdiaaGreatSxPNB3
import Derived.Test.YtcpiafgkmakdiaaGreatSxPNB4
import Derived.Test.YtcpiafgkmakdiaaGreatSxPNB5
import Derived.Conc.HoldsTime
import Derived.Conc.LeavingOf
import Derived.ProofKit
import Derived.Lib.SmallJoins
set_option maxRecDepth 100000
set_option linter.unusedVariables false
namespace Go.Proofs.YtcpiafgkmakdiaaGreat
open Go.ChangeShapes Go.WideShapes Go.ChangeAt Go.RowKit Go.Conc Go.Proofs.YtcpiafgkmakdiaaGreat.SX

section
variable {s : Sub} (hs : s.is = [])
 include hs
theorem IE.ren_id : ∀ (e : IE), e.ren s = e := by
  intro e
  induction e with
  | lit n => rfl
  | var i =>
    show s.i i = _
    unfold Sub.i
    rw [hs]
    rfl
  | op o k a b iha ihb => simp only [IE.ren, iha, ihb]
  | conv k a ih => simp only [IE.ren, ih]
  | plus a b iha ihb => simp only [IE.ren, iha, ihb]
  | times a b iha ihb => simp only [IE.ren, iha, ihb]
  | tn a ih => simp only [IE.ren, ih]
theorem BE.ren_id (e : BE) : e.ren s = e := by
  cases e <;> simp only [BE.ren, IE.ren_id hs]
end

theorem orc_ren {s : Sub} (hs : s.is = []) (l l' : List (BE × Bool)) (is : List (IE × IE)) : OrcRen s (OB (l ++ l') is) (OB l' is) := by
  refine ⟨fun p hp => ?_, fun p hp => ?_, fun p hp => absurd hp List.not_mem_nil⟩
  · rw [BE.ren_id hs]; exact List.mem_append_right _ hp
  · rw [IE.ren_id hs, IE.ren_id hs]; exact hp

/-- The loop's round: class d of what is called, class t of the number. -/
def Round (d t : Nat) : Prop := ∃ (n : Nat) (c : ACfg) (u : TT) (s : Sub), s.is = [] ∧ cchunk? Tryz.prog (OB (pnDo d ++ pnTk t) (pnTi t)) (EX (pnDo d ++ pnTk t) (pnTi t)) (SM (pnDo d ++ pnTk t) (pnTi t)) 40000 n [] pnA5 = .ok ⟨0, c, [], 3, 0⟩ ∧
  c.cur.tmps.eqv u = true ∧ IsRen s (swapT c u) pnD.c
theorem rounds0 : ∀ d, d < 10 → Round d 0 := by
  intro d hd
  have : d = 0 ∨ d = 1 ∨ d = 2 ∨ d = 3 ∨ d = 4 ∨ d = 5 ∨ d = 6 ∨ d = 7 ∨ d = 8 ∨ d = 9 := by omega
  rcases this with rfl | rfl | rfl | rfl | rfl | rfl | rfl | rfl | rfl | rfl
  · exact ⟨_, pnB0.c, pnT0, pnS0, rfl, pnBs0t0, pnQ0, pnR0⟩
  · exact ⟨_, pnB1.c, pnT1, pnS1, rfl, pnBs1t0, pnQ1, pnR1⟩
  · exact ⟨_, pnB2.c, pnT2, pnS2, rfl, pnBs2t0, pnQ2, pnR2⟩
  · exact ⟨_, pnB3.c, pnT3, pnS3, rfl, pnBs3t0, pnQ3, pnR3⟩
  · exact ⟨_, pnB4.c, pnT4, pnS4, rfl, pnBs4t0, pnQ4, pnR4⟩
  · exact ⟨_, pnB5.c, pnT5, pnS5, rfl, pnBs5t0, pnQ5, pnR5⟩
  · exact ⟨_, pnB6.c, pnT6, pnS6, rfl, pnBs6t0, pnQ6, pnR6⟩
  · exact ⟨_, pnB7.c, pnT7, pnS7, rfl, pnBs7t0, pnQ7, pnR7⟩
  · exact ⟨_, pnB8.c, pnT8, pnS8, rfl, pnBs8t0, pnQ8, pnR8⟩
  · exact ⟨_, pnB9.c, pnT9, pnS9, rfl, pnBs9t0, pnQ9, pnR9⟩
theorem rounds1 : ∀ d, d < 10 → Round d 1 := by
  intro d hd
  have : d = 0 ∨ d = 1 ∨ d = 2 ∨ d = 3 ∨ d = 4 ∨ d = 5 ∨ d = 6 ∨ d = 7 ∨ d = 8 ∨ d = 9 := by omega
  rcases this with rfl | rfl | rfl | rfl | rfl | rfl | rfl | rfl | rfl | rfl
  · exact ⟨_, pnB0.c, pnT0, pnS0, rfl, pnBs0t1, pnQ0, pnR0⟩
  · exact ⟨_, pnB1.c, pnT1, pnS1, rfl, pnBs1t1, pnQ1, pnR1⟩
  · exact ⟨_, pnB2.c, pnT2, pnS2, rfl, pnBs2t1, pnQ2, pnR2⟩
  · exact ⟨_, pnB3.c, pnT3, pnS3, rfl, pnBs3t1, pnQ3, pnR3⟩
  · exact ⟨_, pnB4.c, pnT4, pnS4, rfl, pnBs4t1, pnQ4, pnR4⟩
  · exact ⟨_, pnB5.c, pnT5, pnS5, rfl, pnBs5t1, pnQ5, pnR5⟩
  · exact ⟨_, pnB6.c, pnT6, pnS6, rfl, pnBs6t1, pnQ6, pnR6⟩
  · exact ⟨_, pnB7.c, pnT7, pnS7, rfl, pnBs7t1, pnQ7, pnR7⟩
  · exact ⟨_, pnB8.c, pnT8, pnS8, rfl, pnBs8t1, pnQ8, pnR8⟩
  · exact ⟨_, pnB9.c, pnT9, pnS9, rfl, pnBs9t1, pnQ9, pnR9⟩
theorem rounds2 : ∀ d, d < 10 → Round d 2 := by
  intro d hd
  have : d = 0 ∨ d = 1 ∨ d = 2 ∨ d = 3 ∨ d = 4 ∨ d = 5 ∨ d = 6 ∨ d = 7 ∨ d = 8 ∨ d = 9 := by omega
  rcases this with rfl | rfl | rfl | rfl | rfl | rfl | rfl | rfl | rfl | rfl
  · exact ⟨_, pnB0.c, pnT0, pnS0, rfl, pnBs0t2, pnQ0, pnR0⟩
  · exact ⟨_, pnB1.c, pnT1, pnS1, rfl, pnBs1t2, pnQ1, pnR1⟩
  · exact ⟨_, pnB2.c, pnT2, pnS2, rfl, pnBs2t2, pnQ2, pnR2⟩
  · exact ⟨_, pnB3.c, pnT3, pnS3, rfl, pnBs3t2, pnQ3, pnR3⟩
  · exact ⟨_, pnB4.c, pnT4, pnS4, rfl, pnBs4t2, pnQ4, pnR4⟩
  · exact ⟨_, pnB5.c, pnT5, pnS5, rfl, pnBs5t2, pnQ5, pnR5⟩
  · exact ⟨_, pnB6.c, pnT6, pnS6, rfl, pnBs6t2, pnQ6, pnR6⟩
  · exact ⟨_, pnB7.c, pnT7, pnS7, rfl, pnBs7t2, pnQ7, pnR7⟩
  · exact ⟨_, pnB8.c, pnT8, pnS8, rfl, pnBs8t2, pnQ8, pnR8⟩
  · exact ⟨_, pnB9.c, pnT9, pnS9, rfl, pnBs9t2, pnQ9, pnR9⟩
theorem rounds3 : ∀ d, d < 10 → Round d 3 := by
  intro d hd
  have : d = 0 ∨ d = 1 ∨ d = 2 ∨ d = 3 ∨ d = 4 ∨ d = 5 ∨ d = 6 ∨ d = 7 ∨ d = 8 ∨ d = 9 := by omega
  rcases this with rfl | rfl | rfl | rfl | rfl | rfl | rfl | rfl | rfl | rfl
  · exact ⟨_, pnB0.c, pnT0, pnS0, rfl, pnBs0t3, pnQ0, pnR0⟩
  · exact ⟨_, pnB1.c, pnT1, pnS1, rfl, pnBs1t3, pnQ1, pnR1⟩
  · exact ⟨_, pnB2.c, pnT2, pnS2, rfl, pnBs2t3, pnQ2, pnR2⟩
  · exact ⟨_, pnB3.c, pnT3, pnS3, rfl, pnBs3t3, pnQ3, pnR3⟩
  · exact ⟨_, pnB4.c, pnT4, pnS4, rfl, pnBs4t3, pnQ4, pnR4⟩
  · exact ⟨_, pnB5.c, pnT5, pnS5, rfl, pnBs5t3, pnQ5, pnR5⟩
  · exact ⟨_, pnB6.c, pnT6, pnS6, rfl, pnBs6t3, pnQ6, pnR6⟩
  · exact ⟨_, pnB7.c, pnT7, pnS7, rfl, pnBs7t3, pnQ7, pnR7⟩
  · exact ⟨_, pnB8.c, pnT8, pnS8, rfl, pnBs8t3, pnQ8, pnR8⟩
  · exact ⟨_, pnB9.c, pnT9, pnS9, rfl, pnBs9t3, pnQ9, pnR9⟩
theorem rounds4 : ∀ d, d < 10 → Round d 4 := by
  intro d hd
  have : d = 0 ∨ d = 1 ∨ d = 2 ∨ d = 3 ∨ d = 4 ∨ d = 5 ∨ d = 6 ∨ d = 7 ∨ d = 8 ∨ d = 9 := by omega
  rcases this with rfl | rfl | rfl | rfl | rfl | rfl | rfl | rfl | rfl | rfl
  · exact ⟨_, pnB0.c, pnT0, pnS0, rfl, pnBs0t4, pnQ0, pnR0⟩
  · exact ⟨_, pnB1.c, pnT1, pnS1, rfl, pnBs1t4, pnQ1, pnR1⟩
  · exact ⟨_, pnB2.c, pnT2, pnS2, rfl, pnBs2t4, pnQ2, pnR2⟩
  · exact ⟨_, pnB3.c, pnT3, pnS3, rfl, pnBs3t4, pnQ3, pnR3⟩
  · exact ⟨_, pnB4.c, pnT4, pnS4, rfl, pnBs4t4, pnQ4, pnR4⟩
  · exact ⟨_, pnB5.c, pnT5, pnS5, rfl, pnBs5t4, pnQ5, pnR5⟩
  · exact ⟨_, pnB6.c, pnT6, pnS6, rfl, pnBs6t4, pnQ6, pnR6⟩
  · exact ⟨_, pnB7.c, pnT7, pnS7, rfl, pnBs7t4, pnQ7, pnR7⟩
  · exact ⟨_, pnB8.c, pnT8, pnS8, rfl, pnBs8t4, pnQ8, pnR8⟩
  · exact ⟨_, pnB9.c, pnT9, pnS9, rfl, pnBs9t4, pnQ9, pnR9⟩
theorem rounds5 : ∀ d, d < 10 → Round d 5 := by
  intro d hd
  have : d = 0 ∨ d = 1 ∨ d = 2 ∨ d = 3 ∨ d = 4 ∨ d = 5 ∨ d = 6 ∨ d = 7 ∨ d = 8 ∨ d = 9 := by omega
  rcases this with rfl | rfl | rfl | rfl | rfl | rfl | rfl | rfl | rfl | rfl
  · exact ⟨_, pnB0.c, pnT0, pnS0, rfl, pnBs0t5, pnQ0, pnR0⟩
  · exact ⟨_, pnB1.c, pnT1, pnS1, rfl, pnBs1t5, pnQ1, pnR1⟩
  · exact ⟨_, pnB2.c, pnT2, pnS2, rfl, pnBs2t5, pnQ2, pnR2⟩
  · exact ⟨_, pnB3.c, pnT3, pnS3, rfl, pnBs3t5, pnQ3, pnR3⟩
  · exact ⟨_, pnB4.c, pnT4, pnS4, rfl, pnBs4t5, pnQ4, pnR4⟩
  · exact ⟨_, pnB5.c, pnT5, pnS5, rfl, pnBs5t5, pnQ5, pnR5⟩
  · exact ⟨_, pnB6.c, pnT6, pnS6, rfl, pnBs6t5, pnQ6, pnR6⟩
  · exact ⟨_, pnB7.c, pnT7, pnS7, rfl, pnBs7t5, pnQ7, pnR7⟩
  · exact ⟨_, pnB8.c, pnT8, pnS8, rfl, pnBs8t5, pnQ8, pnR8⟩
  · exact ⟨_, pnB9.c, pnT9, pnS9, rfl, pnBs9t5, pnQ9, pnR9⟩
theorem rounds : ∀ d t, d < 10 → t < 6 → Round d t
  | d, 0, h, _ => rounds0 d h
  | d, 1, h, _ => rounds1 d h
  | d, 2, h, _ => rounds2 d h
  | d, 3, h, _ => rounds3 d h
  | d, 4, h, _ => rounds4 d h
  | d, 5, h, _ => rounds5 d h
theorem pnZs : ∀ t, t < 6 → pnZ t = true
  | 0, _ => pnZ0
  | 1, _ => pnZ1
  | 2, _ => pnZ2
  | 3, _ => pnZ3
  | 4, _ => pnZ4
  | 5, _ => pnZ5

theorem in_v1 : v1.In Low := (by decide : (1 : Nat) < 100)
theorem in_v4 : v4.In Low := (by decide : (4 : Nat) < 100)
theorem pnDo_in (d : Nat) : ∀ p ∈ pnDo d, p.1.In Low := by
  intro p hp
  unfold pnDo at hp
  split at hp
  · simp only [List.mem_cons, List.not_mem_nil, or_false] at hp
    subst hp; exact ⟨in_v1, trivial⟩
  · simp only [List.mem_cons, List.not_mem_nil, or_false] at hp
    rcases hp with rfl | rfl <;> exact ⟨in_v1, trivial⟩
  · rcases List.mem_cons.1 hp with rfl | hp
    · exact ⟨in_v1, trivial⟩
    rcases List.mem_cons.1 hp with rfl | hp
    · exact ⟨in_v1, trivial⟩
    obtain ⟨j, _, rfl⟩ := List.mem_map.1 hp
    exact ⟨in_v1, trivial⟩
theorem pnTk_in (t : Nat) : ∀ p ∈ pnTk t, p.1.In Low := by
  intro p hp
  simp only [pnTk, List.mem_cons, List.not_mem_nil, or_false] at hp
  rcases hp with rfl | rfl | rfl
  · exact ⟨in_v4, trivial⟩
  · exact ⟨in_v4, trivial⟩
  · exact ⟨trivial, in_v4⟩
theorem pnTi_in (t : Nat) : ∀ p ∈ pnTi t, p.1.In Low ∧ p.2.In Low := by
  intro p hp
  unfold pnTi at hp
  split at hp
  · cases hp
  · cases hp
  · simp only [List.mem_cons, List.not_mem_nil, or_false] at hp
    rcases hp with rfl | rfl
    · exact ⟨in_v4, trivial⟩
    · exact ⟨in_v4, trivial⟩

/-- The class of what is called. -/
theorem do_class (x : Int) : ∃ d, d < 10 ∧ ∀ ρ : Env, ρ.i 1 = x → ∀ p ∈ pnDo d, p.1.ev ρ = p.2 := by
  by_cases h0 : x < 0
  · refine ⟨8, by omega, fun ρ e p hp => ?_⟩
    simp only [pnDo, List.mem_cons, List.not_mem_nil, or_false] at hp
    subst hp
    simp only [BE.ev, IE.ev, icmp, v1, e]
    exact decide_eq_true h0
  · by_cases h8 : x ≥ 8
    · refine ⟨9, by omega, fun ρ e p hp => ?_⟩
      simp only [pnDo, List.mem_cons, List.not_mem_nil, or_false] at hp
      rcases hp with rfl | rfl <;> simp only [BE.ev, IE.ev, icmp, v1, e]
      · exact decide_eq_false h0
      · exact decide_eq_true h8
    · obtain ⟨d, rfl⟩ := Int.eq_ofNat_of_zero_le (show 0 ≤ x by omega)
      have hd : d < 8 := by omega
      refine ⟨d, by omega, fun ρ e p hp => ?_⟩
      unfold pnDo at hp
      split at hp
      · omega
      · omega
      · rcases List.mem_cons.1 hp with rfl | hp
        · simp only [BE.ev, IE.ev, icmp, v1, e]
          exact decide_eq_false h0
        rcases List.mem_cons.1 hp with rfl | hp
        · simp only [BE.ev, IE.ev, icmp, v1, e]
          exact decide_eq_false h8
        obtain ⟨j, _, rfl⟩ := List.mem_map.1 hp
        simp only [BE.ev, IE.ev, icmp, v1, e]
        cases hb : Nat.beq j d with
        | true =>
          obtain rfl := Nat.eq_of_beq_eq_true hb
          simp
        | false =>
          have : j ≠ d := fun e => by subst e; simp at hb
          rw [beq_eq_false_iff_ne]
          intro e
          exact this (Int.ofNat.inj e).symm

/-- The class of the number. -/
theorem task_class (x : Int) : ∃ t, t < 6 ∧ ∀ ρ : Env, ρ.i 4 = x → (∀ p ∈ pnTk t, p.1.ev ρ = p.2) ∧ ∀ p ∈ pnTi t, p.1.ev ρ = p.2.ev ρ := by
  have key : ∀ t : Nat, (decide (x < 1) = Nat.beq t 0) → (decide (x ≥ 5) = Nat.beq t 5) → ∀ ρ : Env, ρ.i 4 = x → ∀ p ∈ pnTk t, p.1.ev ρ = p.2 := by
    intro t h1 h2 ρ e p hp
    simp only [pnTk, List.mem_cons, List.not_mem_nil, or_false] at hp
    rcases hp with rfl | rfl | rfl <;> simp only [BE.ev, IE.ev, icmp, v4, e]
    · exact h1
    · exact h2
    · rw [← h1]
      exact decide_eq_decide.2 (by omega)
  by_cases h0 : x < 1
  · exact ⟨0, by omega, fun ρ e => ⟨key 0 (decide_eq_true h0) (decide_eq_false (by omega)) ρ e, fun p hp => by cases hp⟩⟩
  · by_cases h5 : x ≥ 5
    · exact ⟨5, by omega, fun ρ e => ⟨key 5 (decide_eq_false h0) (decide_eq_true h5) ρ e, fun p hp => by cases hp⟩⟩
    · obtain ⟨t, rfl⟩ := Int.eq_ofNat_of_zero_le (show 0 ≤ x by omega)
      have ht : 1 ≤ t ∧ t ≤ 4 := by omega
      have hb0 : Nat.beq t 0 = false := by
        cases hb : Nat.beq t 0 with
        | false => rfl
        | true => have := Nat.eq_of_beq_eq_true hb; omega
      have hb5 : Nat.beq t 5 = false := by
        cases hb : Nat.beq t 5 with
        | false => rfl
        | true => have := Nat.eq_of_beq_eq_true hb; omega
      refine ⟨t, by omega, fun ρ e => ⟨key t (by rw [hb0]; exact decide_eq_false h0) (by rw [hb5]; exact decide_eq_false h5) ρ e, fun p hp => ?_⟩⟩
      unfold pnTi at hp
      split at hp
      · cases hp
      · cases hp
      · simp only [List.mem_cons, List.not_mem_nil, or_false] at hp
        rcases hp with rfl | rfl
        · simp only [IE.ev, v4, e]; rfl
        · simp only [IE.ev, v4, e]
          exact IntWalk.i64_in _ ⟨by omega, by omega⟩

/-- From facts to one good run. -/
theorem pn_good {d t : Nat} (hd : d < 10) (ht : t < 6) (W : World) (ρ : Env) (e1 : ∀ p ∈ pnDo d, p.1.ev ρ = p.2) (e2 : ∀ p ∈ pnTk t, p.1.ev ρ = p.2) (e3 : ∀ p ∈ pnTi t, p.1.ev ρ = p.2.ev ρ) :
    GoodFrom 3 (AV.evs ρ [.agg [.int .i64 (.var 1), .int .i64 (.var 2), .int .i64 (.var 3)], .int .i64 (.var 4)]).toArray W := by
  have iv2 : (IE.var 2).In Low := (by decide : (2 : Nat) < 100)
  have iv3 : (IE.var 3).In Low := (by decide : (3 : Nat) < 100)
  obtain ⟨n, c, u, s, hs, hc, hu, hr⟩ := rounds d t hd ht
  refine good_run (bs := pnDo d ++ pnTk t) (is := pnTi t) (bs' := pnTk t) (is' := pnTi t) pnE W ρ ⟨⟨in_v1, iv2, iv3, trivial⟩, in_v4, trivial⟩
    (fun p hp => (List.mem_append.1 hp).elim (pnDo_in d p) (pnTk_in t p)) (pnTi_in t) (fun p hp => (List.mem_append.1 hp).elim (e1 p) (e2 p)) e3 ?_
  intro m T I
  have X := sound (pnDo d ++ pnTk t) (pnTi t)
  have X0 := sound [] []
  have l0 : OrcLe (OB [] []) (OB (pnDo d ++ pnTk t) (pnTi t)) := ⟨fun p hp => absurd hp List.not_mem_nil, fun p hp => absurd hp List.not_mem_nil, rfl, rfl⟩
  obtain ⟨N1, m1, T1, r1, I1⟩ := mchunk_ok X X0 l0 pnAs1 I
  obtain ⟨N2, m2, T2, r2, I2⟩ := mchunk_ok X X0 l0 pnAs2 I1
  obtain ⟨N3, m3, T3, r3, I3⟩ := mchunk_ok X X0 l0 pnAs3 I2
  obtain ⟨N4, m4, T4, r4, I4⟩ := mchunk_ok X X0 l0 pnAs4 I3
  obtain ⟨N5, m5, T5, r5, I5⟩ := mchunk_ok X X0 l0 pnAs5 I4
  obtain ⟨N6, m6, T6, r6, I6⟩ := cchunk_ok X hc I5
  have lowO : (OB (pnTk t) (pnTi t)).low 100 = true := by
    have h6 : t = 0 ∨ t = 1 ∨ t = 2 ∨ t = 3 ∨ t = 4 ∨ t = 5 := by omega
    rcases h6 with rfl | rfl | rfl | rfl | rfl | rfl
    · exact pnLowO0
    · exact pnLowO1
    · exact pnLowO2
    · exact pnLowO3
    · exact pnLowO4
    · exact pnLowO5
  have I7 := cinv_ren hr (orc_ren hs (pnDo d) (pnTk t) (pnTi t)) pnLow pnNb lowO (cinv_eqv hu I6)
  have hz : clast? Tryz.prog (OB (pnTk t) (pnTi t)) (EX (pnTk t) (pnTi t)) (SM (pnTk t) (pnTi t)) 40000 4500 ⟨0, pnD.c, [], 3, 0⟩ = true := pnZs t ht
  obtain ⟨N7, m7, T7, st7, f, r7, I8, hend⟩ := cruns_ok (sound (pnTk t) (pnTi t)) (.last _ _ _ hz) I7
  exact ⟨_, m7, T7, st7, f, runNT_then (runNT_then (runNT_then (runNT_then (runNT_then (runNT_then r1 r2) r3) r4) r5) r6) r7, I8, hend⟩

theorem poolNil_run (a b c x : Int) (W : World) : GoodFrom 3 #[.agg #[.int .i64 a, .int .i64 b, .int .i64 c], .int .i64 x] W := by
  obtain ⟨d, hd, h1⟩ := do_class a
  obtain ⟨t, ht, h2⟩ := task_class x
  have := pn_good hd ht W (env [a, b, c, x] []) (h1 _ rfl) (h2 _ rfl).1 (h2 _ rfl).2
  exact this

theorem poolNil_lifted (os : Os) (started : os.Started) (H : Type) (enc : TypeId × Value → H) (F : Stop.Interp) :
    ReturnsInLeavingWide { calm := true } Tryz.checked os 3 .any (Rows.poolNilSpec.pre6 enc Tryz.prog Tryz.f3 Rows.poolNilRow.domain false) ((OpenSpec.ofChange Rows.poolNilSpec).postWith enc Tryz.prog Tryz.f3 F (outsideKept [.timePasses]) false true false) := by
  refine returnsInLeavingWide_of_change_time (C := Tryz.checked) Tryz.own started Tryz.func3
    (ChangeSpec.witness6c (enc := enc) (C := Tryz.checked) ⟨#[], #[.agg #[.int .i64 0, .int .i64 0, .int .i64 0], .int .i64 0], []⟩ 8 (by kernel_rfl) (by kernel_rfl) (by kernel_rfl) (by kernel_rfl)) ?_
  intro W base args ds gs before hval0 hW _ _ _
  have hval : ∀ (j : Nat) t v, Tryz.f3.params[j]? = some t → args[j]? = some v → Value.okWide Tryz.prog W .any base t v := hval0
  have hW' := hW
  obtain ⟨p, q, hA0, hV, rfl, _, _⟩ := hW
  have hA : DataW.TrodAll enc Tryz.prog W 0 (fun _ => true) true Tryz.f3.params.toList args.toList ds p := hA0
  rw [Tryz.params3] at hA hval
  obtain ⟨v0, v1, d0, d1, p0, p1, rfl, rfl, rfl, h0, h1⟩ := trodAll_two hA
  obtain ⟨rfl, rfl⟩ := trodVars_none hV
  obtain ⟨x0, x1, x2, y0, y1, y2, n0, rfl, rfl, rfl, t0, t1, t2⟩ := Joins.open_agg3 Tryz.underlying23 (by kernel_rfl) (by kernel_rfl) (hval 0 23 v0 rfl rfl) h0
  obtain ⟨a, e0, rfl, w0⟩ := DataW.trod_int Tryz.underlying3 t0
  obtain ⟨b, e1, rfl, w1⟩ := DataW.trod_int Tryz.underlying3 t1
  obtain ⟨c, e2, rfl, w2⟩ := DataW.trod_int Tryz.underlying3 t2
  obtain rfl : x0 = .int .i64 a := by simpa using e0
  obtain rfl : x1 = .int .i64 b := by simpa using e1
  obtain rfl : x2 = .int .i64 c := by simpa using e2
  obtain ⟨x, rfl, rfl, rfl, wx⟩ := open_int Tryz.underlying3 (hval 1 3 v1 rfl rfl) h1
  clear hA0 hval0
  simp only [List.append_nil] at hW'
  obtain ⟨M, last, o, w', t', r1, r2, r3, r4⟩ := poolNil_run a b c x W
  refine ⟨M, last, o, w', t', r1, r2, r3, r4.mono fun r hF => ?_⟩
  obtain ⟨rfl, hk⟩ := hF
  have ew : ({ w' with os := W.os } : World) = w' := by rw [← hk.os]
  rw [ew]
  refine ⟨⟨_, _, _, [], _, [], hW', trodAll_mk1 (shut_bool Tryz.underlying4 true), trodAll_mk2 (Joins.shut_agg3 (P := Tryz.prog) Tryz.underlying23 (by kernel_rfl) (by kernel_rfl) (y0 := (.lit (.int .i64 a), [])) (y1 := (.lit (.int .i64 b), [])) (y2 := (.lit (.int .i64 c), [])) (by simpa [DataW.Trod, Value.cells] using shut_int Tryz.underlying3 w0) (by simpa [DataW.Trod, Value.cells] using shut_int Tryz.underlying3 w1) (by simpa [DataW.Trod, Value.cells] using shut_int Tryz.underlying3 w2)) (shut_int Tryz.underlying3 wx), rfl, kept hk, fun h => by cases h⟩, by rw [hk.os]; exact ConcM.OsLater.refl _⟩

theorem poolNil_holds : Rows.PoolNilSaid :=
  OpenClaim.holds_of_wide_leaving_time 3 Tryz.f3 rfl rfl rfl rfl rfl rfl rfl ⟨rfl, rfl, rfl, rfl, rfl⟩ rfl rfl rfl rfl rfl (by kernel_rfl) Tryz.func3 (by kernel_rfl)
    (of_decide_eq_true (by kernel_rfl)) (by unfold Func.isWrapper; first | (rw [if_pos (by decide +kernel)]; kernel_rfl) | (rw [if_neg (by decide +kernel)]; exact ⟨rfl, rfl⟩))
    (fun os started H enc _ F => poolNil_lifted os started H enc F)

end Go.Proofs.YtcpiafgkmakdiaaGreat

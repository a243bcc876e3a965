/-
  LimitNone's row: whatever the number, the law answers true; it reads as it did. Conditions: errors.errorType reads as the program's text lays it.
-/
import Derived.Test.YtmnahfonnljobaaGreatDoorSxZLaid
import Derived.Test.YtmnahfonnljobaaGreatDoorSxLNw0
import Derived.Test.YtmnahfonnljobaaGreatDoorSxLNa0
import Derived.Test.YtmnahfonnljobaaGreatDoorSxLNb0
import Derived.Test.YtmnahfonnljobaaGreatDoorSxLNc0
import Derived.IntWalk
set_option maxRecDepth 100000
namespace Go.Proofs.YtmnahfonnljobaaGreatDoor
open Go.ChangeShapes Go.WideShapes Go.RowKit Go.Proofs.YtmnahfonnljobaaGreatDoor.SX

theorem limitNone_any (n : Int) (W : World) (hg : W.cell? ⟨0, 0, none⟩ = some (.iface 220 (.agg #[.pointer (some ⟨3, 31, none⟩)]))) :
    Calls Tryz.prog 5 #[.int .i64 n] W fun e W' => e = .returned (.bool true) ∧ Keeps (fun n => W.heap.size ≤ n) W W' := by
  have ha : AV.Ins Low [.int .i64 (.var 1)] := ⟨(by decide : 1 < 100), trivial⟩
  have v1 : Low 1 := (by decide : 1 < 100)
  have e1 : (env [n]).i 1 = n := rfl
  by_cases c1 : n < 0
  · refine runs_any LNae LNaruns (truth_sum LNwe LNwruns _ _ W) (env [n]) ha ?_ (fun p hp => by cases hp) ?_ (fun p hp => by cases hp) hg
    · intro p hp
      simp only [ln1, List.mem_cons, List.not_mem_nil, or_false] at hp
      subst hp
      exact ⟨v1, trivial⟩
    · intro p hp
      simp only [ln1, List.mem_cons, List.not_mem_nil, or_false] at hp
      subst hp
      simp only [BE.ev, IE.ev, icmp, e1, decide_eq_true_eq]
      exact c1
  · by_cases c2 : n ≤ 4611686018427387904
    · refine runs_any LNbe LNbruns (truth_sum LNwe LNwruns _ _ W) (env [n]) ha ?_ ?_ ?_ ?_ hg
      · intro p hp
        simp only [ln2, List.mem_cons, List.not_mem_nil, or_false] at hp
        rcases hp with rfl | rfl | rfl | rfl | rfl | rfl
        · exact ⟨v1, trivial⟩
        · exact ⟨trivial, v1⟩
        · exact ⟨v1, trivial⟩
        · exact ⟨v1, v1⟩
        · exact ⟨v1, v1⟩
        · exact ⟨v1, v1⟩
      · intro p hp
        simp only [ln2i, List.mem_cons, List.not_mem_nil, or_false] at hp
        subst hp
        exact ⟨⟨trivial, v1⟩, v1⟩
      · intro p hp
        simp only [ln2, List.mem_cons, List.not_mem_nil, or_false] at hp
        rcases hp with rfl | rfl | rfl | rfl | rfl | rfl
        · simp only [BE.ev, IE.ev, icmp, e1]; exact decide_eq_false c1
        · simp only [BE.ev, IE.ev, icmp, e1]; exact decide_eq_false (by omega)
        · simp only [BE.ev, IE.ev, icmp, e1]; exact decide_eq_false (by omega)
        · simp only [BE.ev, IE.ev, icmp, e1]; exact decide_eq_false (by omega)
        · simp only [BE.ev, IE.ev, icmp, e1]; exact decide_eq_true (by omega)
        · simp only [BE.ev, IE.ev, icmp, e1]; exact decide_eq_false (by omega)
      · intro p hp
        simp only [ln2i, List.mem_cons, List.not_mem_nil, or_false] at hp
        subst hp
        simp only [IE.ev, iop, e1, Int.zero_add]
        exact IntWalk.i64_in n (by omega)
    · refine runs_any LNce LNcruns (truth_sum LNwe LNwruns _ _ W) (env [n]) ha ?_ (fun p hp => by cases hp) ?_ (fun p hp => by cases hp) hg
      · intro p hp
        simp only [ln3, List.mem_cons, List.not_mem_nil, or_false] at hp
        rcases hp with rfl | rfl
        · exact ⟨v1, trivial⟩
        · exact ⟨trivial, v1⟩
      · intro p hp
        simp only [ln3, List.mem_cons, List.not_mem_nil, or_false] at hp
        rcases hp with rfl | rfl
        · simp only [BE.ev, IE.ev, icmp, e1]; exact decide_eq_false c1
        · simp only [BE.ev, IE.ev, icmp, e1]; exact decide_eq_true (by omega)

theorem limitNone_lifted (os : Os) (started : os.Started) (H : Type) (enc : TypeId × Value → H) :
    ReturnsInHanded {} Tryz.checked os 5 .any (fun w args => (Rows.limitNoneSpec.pre enc Tryz.prog Tryz.f5 [] false w args ∧ laidMetH Tryz.prog [("errors.errorType", Rows.laid_errors_errorType)] w) ∧ sizedMet enc Tryz.prog Tryz.f5 (OpenSpec.ofChange Rows.limitNoneSpec) false w args)
      (Rows.limitNoneSpec.post enc Tryz.prog Tryz.f5 false true false false) := by
  refine returnsInHanded_of_change_and (C := Tryz.checked) (X := fun w _ => laidMetH Tryz.prog [("errors.errorType", Rows.laid_errors_errorType)] w) (fun _ _ _ hh h => h.of_heap hh) Tryz.own started (by kernel_rfl) Tryz.func5
    (ChangeSpec.witness_at (enc := enc) (C := Tryz.checked) (os := os) (X := fun w _ => laidMetH Tryz.prog [("errors.errorType", Rows.laid_errors_errorType)] w) false (laidWorld os) #[.int .i64 0] 8 rfl (by kernel_rfl) (by kernel_rfl) (by kernel_rfl) (by kernel_rfl) (by kernel_rfl) (laidWorld_met os _)) ?_
  intro W base args ds gs before hval0 hW _ _ hL _
  have hval : ∀ (j : Nat) t v, Tryz.f5.params[j]? = some t → args[j]? = some v → Value.okWide Tryz.prog W .any base t v := hval0
  have hW' := hW
  obtain ⟨p, q, hA0, hV0, rfl, hfz, hnd⟩ := hW
  have hA : DataW.TrodAll enc Tryz.prog W 0 (fun _ => true) true Tryz.f5.params.toList args.toList ds p := hA0
  have hV : DataW.TrodVars enc Tryz.prog W (fun _ => true) [] gs q := hV0
  rw [Tryz.params5] at hA hval
  obtain ⟨v0, d0, rfl, rfl, h0⟩ := trodAll_one hA
  obtain ⟨n, rfl, rfl, rfl, hwn⟩ := open_int Tryz.underlying2 (hval 0 2 v0 rfl rfl) h0
  have hg := handle_of_laid hL
  obtain ⟨rfl, rfl⟩ : gs = [] ∧ q = [] := by
    cases gs with
    | nil => exact ⟨rfl, hV⟩
    | cons g r => exact absurd hV (by intro h; cases h)
  have e1 : Rows.limitNoneSpec.fn H ([.lit (.int .i64 n)] ++ []) = { results := [.lit (.bool true)], args := [.lit (.int .i64 n)] } := by simp [Rows.limitNoneSpec]
  refine (limitNone_any n W hg).mono fun e W' ⟨he, hw⟩ => ?_
  subst he
  refine ⟨_, rfl, _, _, _, [], [], [], hW', ?_, ?_, ?_, kept hw, fun h => by cases h⟩
  · rw [e1]; exact trodAll_mk1 (shut_bool Tryz.underlying4 true)
  · rw [e1]; exact trodAll_mk1 (shut_int Tryz.underlying2 hwn)
  · rw [e1]; rfl

theorem limitNone_holds : Rows.LimitNoneSaid :=
  OpenClaim.holds_of_wide 5 Tryz.f5 rfl rfl rfl rfl rfl rfl rfl ⟨rfl, rfl, rfl, rfl, rfl⟩ rfl rfl rfl rfl rfl (by kernel_rfl) Tryz.func5 (by kernel_rfl)
    (of_decide_eq_true (by kernel_rfl)) (by unfold Func.isWrapper; first | (rw [if_pos (by decide +kernel)]; kernel_rfl) | (rw [if_neg (by decide +kernel)]; exact ⟨rfl, rfl⟩))
    (fun os started H enc _ => limitNone_lifted os started H enc)
end Go.Proofs.YtmnahfonnljobaaGreatDoor

/-
  TaskNone's row: whatever the two numbers, the law answers true; they read as they did. Conditions: errors.errorType reads as the program's text lays it.
-/
import Derived.Test.YtmnahfonnljobaaDoorSxFNa
import Derived.Test.YtmnahfonnljobaaDoorSxTNb1
set_option maxRecDepth 100000
namespace Go.Proofs.YtmnahfonnljobaaDoor
open Go.ChangeShapes Go.WideShapes Go.RowKit Go.Proofs.YtmnahfonnljobaaDoor.SX

theorem taskNone_any (n m : Int) (W : World) (hg : W.cell? ⟨0, 0, none⟩ = some (.iface 149 (.agg #[.pointer (some ⟨1, 27, none⟩)]))) :
    Calls Tryd.prog 3 #[.int .i64 n, .int .i64 m] W fun e W' => e = .returned (.bool true) ∧ Keeps (fun n => W.heap.size ≤ n) W W' := by
  have go : ∀ b, decide (1 ≤ m) = b → okT (call? Tryd.prog (OB b) (ext? Tryd.prog (OB b) tab) 8000 3 [.int .i64 (.var 1), .int .i64 (.var 2)] h0) = true →
      Calls Tryd.prog 3 #[.int .i64 n, .int .i64 m] W fun e W' => e = .returned (.bool true) ∧ Keeps (fun n => W.heap.size ≤ n) W W' := fun b hb hr => by
    obtain ⟨h', he⟩ := okT_ok hr
    have c := calls_ok (K := KB b W) (KB_good b W) (KB_facts b W) (ext_ok (KB_good b W) trivial tab_facts) he (idsB b W) (ρ := env [n, m])
      (show AV.Ins (fun n => n < 100) [.int .i64 (.var 1), .int .i64 (.var 2)] from ⟨(by decide : 1 < 100), (by decide : 2 < 100), trivial⟩) (relB hb hg)
    exact Calls.mono c fun e W' ⟨ρ', A, k, _, h⟩ => ⟨h, k⟩
  cases hb : decide (1 ≤ m) with
  | true => exact go true hb taskNone_run1
  | false => exact go false hb taskNone_run2

theorem taskNone_lifted (os : Os) (started : os.Started) (H : Type) (enc : TypeId × Value → H) :
    ReturnsInHanded {} Tryd.checked os 3 .any (fun w args => (Rows.taskNoneSpec.pre enc Tryd.prog Tryd.f3 [] false w args ∧ laidMetH Tryd.prog [("errors.errorType", Rows.laid_errors_errorType)] w) ∧ sizedMet enc Tryd.prog Tryd.f3 (OpenSpec.ofChange Rows.taskNoneSpec) false w args)
      (Rows.taskNoneSpec.post enc Tryd.prog Tryd.f3 false true false false) := by
  refine returnsInHanded_of_change_and (C := Tryd.checked) (X := fun w _ => laidMetH Tryd.prog [("errors.errorType", Rows.laid_errors_errorType)] w) (fun _ _ _ hh h => h.of_heap hh) Tryd.own started (by kernel_rfl) Tryd.func3
    (ChangeSpec.witness_at (enc := enc) (C := Tryd.checked) (os := os) (X := fun w _ => laidMetH Tryd.prog [("errors.errorType", Rows.laid_errors_errorType)] w) false (laidWorld os) #[.int .i64 0, .int .i64 0] 8 rfl (by kernel_rfl) (by kernel_rfl) (by kernel_rfl) (by kernel_rfl) (by kernel_rfl) (laidWorld_met os _)) ?_
  intro W base args ds gs before hval0 hW _ _ hL _
  have hval : ∀ (j : Nat) t v, Tryd.f3.params[j]? = some t → args[j]? = some v → Value.okWide Tryd.prog W .any base t v := hval0
  have hW' := hW
  obtain ⟨p, q, hA0, hV0, rfl, hfz, hnd⟩ := hW
  have hA : DataW.TrodAll enc Tryd.prog W 0 (fun _ => true) true Tryd.f3.params.toList args.toList ds p := hA0
  have hV : DataW.TrodVars enc Tryd.prog W (fun _ => true) [] gs q := hV0
  rw [Tryd.params3] at hA hval
  obtain ⟨v0, v1, d0, d1, p0, p1, rfl, rfl, rfl, h0, h1⟩ := trodAll_two hA
  obtain ⟨n, rfl, rfl, rfl, hwn⟩ := open_int Tryd.underlying2 (hval 0 2 v0 rfl rfl) h0
  obtain ⟨m, rfl, rfl, rfl, hwm⟩ := open_int Tryd.underlying2 (hval 1 2 v1 rfl rfl) h1
  have hg := handle_of_laid hL
  obtain ⟨rfl, rfl⟩ : gs = [] ∧ q = [] := by
    cases gs with
    | nil => exact ⟨rfl, hV⟩
    | cons g r => exact absurd hV (by intro h; cases h)
  have e1 : Rows.taskNoneSpec.fn H ([.lit (.int .i64 n), .lit (.int .i64 m)] ++ []) = { results := [.lit (.bool true)], args := [.lit (.int .i64 n), .lit (.int .i64 m)] } := by simp [Rows.taskNoneSpec]
  refine (taskNone_any n m W hg).mono fun e W' ⟨he, hw⟩ => ?_
  subst he
  refine ⟨_, rfl, _, _, _, [], [], [], hW', ?_, ?_, ?_, kept hw, fun h => by cases h⟩
  · rw [e1]; exact trodAll_mk1 (shut_bool Tryd.underlying4 true)
  · rw [e1]; exact trodAll_mk2 (shut_int Tryd.underlying2 hwn) (shut_int Tryd.underlying2 hwm)
  · rw [e1]; rfl

theorem taskNone_holds : Rows.TaskNoneSaid :=
  OpenClaim.holds_of_wide 3 Tryd.f3 rfl rfl rfl rfl rfl rfl rfl ⟨rfl, rfl, rfl, rfl, rfl⟩ rfl rfl rfl rfl rfl (by kernel_rfl) Tryd.func3 (by kernel_rfl)
    (of_decide_eq_true (by kernel_rfl)) (by unfold Func.isWrapper; first | (rw [if_pos (by decide +kernel)]; kernel_rfl) | (rw [if_neg (by decide +kernel)]; exact ⟨rfl, rfl⟩))
    (fun os started H enc _ => taskNone_lifted os started H enc)
end Go.Proofs.YtmnahfonnljobaaDoor

/-
  JoinNone's row: whatever the three numbers, the law answers true; they read as they did. Conditions: errors.errorType reads as the program's text lays it.
-/
import Derived.Test.YtmnahfonnljobaaGreatDoorSxZLaid
import Derived.Test.YtmnahfonnljobaaGreatDoorSxJNr0
import Derived.Test.YtmnahfonnljobaaGreatDoorSxJNr20
import Derived.Test.YtmnahfonnljobaaGreatDoorSxJNr21
import Derived.Test.YtmnahfonnljobaaGreatDoorSxJNr30
import Derived.Test.YtmnahfonnljobaaGreatDoorSxJNr31
import Derived.Test.YtmnahfonnljobaaGreatDoorSxJNr40
import Derived.Test.YtmnahfonnljobaaGreatDoorSxJNr41
import Derived.Test.YtmnahfonnljobaaGreatDoorSxJNr50
import Derived.Test.YtmnahfonnljobaaGreatDoorSxJNr51
import Derived.Test.YtmnahfonnljobaaGreatDoorSxJNw0
set_option maxRecDepth 100000
set_option linter.unusedVariables false
namespace Go.Proofs.YtmnahfonnljobaaGreatDoor
open Go.ChangeShapes Go.WideShapes Go.RowKit Go.Proofs.YtmnahfonnljobaaGreatDoor.SX

theorem jk_in {mm : Int} : ∀ {kc : Nat}, ∀ p ∈ jk mm kc, p.1.In Low := by
  intro kc p hp
  rcases kc with _ | _ | _ | kc <;> simp only [jk, List.mem_cons, List.not_mem_nil, or_false] at hp
  · rcases hp with rfl | rfl <;> exact ⟨(by decide : 2 < 100), trivial⟩
  · rcases hp with rfl | rfl | rfl | rfl | rfl <;> exact ⟨(by decide : 2 < 100), trivial⟩
  · rcases hp with rfl | rfl | rfl | rfl | rfl <;> exact ⟨(by decide : 2 < 100), trivial⟩
  · rcases hp with rfl | rfl | rfl | rfl <;> exact ⟨(by decide : 2 < 100), trivial⟩
theorem jn_in {mm : Int} : ∀ {nc : Nat}, ∀ p ∈ jn mm nc, p.1.In Low := by
  intro nc p hp
  rcases nc with _ | _ | nc <;> simp only [jn, List.mem_cons, List.not_mem_nil, or_false] at hp
  · subst hp; exact ⟨(by decide : 3 < 100), trivial⟩
  · rcases hp with rfl | rfl <;> exact ⟨(by decide : 3 < 100), trivial⟩
theorem jm_in (mm : Int) : (jm mm).1.In Low := ⟨⟨⟨⟨(by decide : 1 < 100), trivial⟩, trivial⟩, trivial⟩, trivial⟩

def kIn (mm k : Int) : Nat → Prop
  | 0 => k < 0
  | 1 => k = 0 ∧ 0 ≤ mm
  | 2 => 0 < k ∧ k ≤ mm
  | _ => 0 ≤ k ∧ mm < k
def nIn (mm n : Int) : Nat → Prop
  | 0 => n < 0
  | 1 => 0 ≤ n ∧ mm ≤ n
  | _ => True
theorem jk_ev {ρ : Env} {mm : Int} : ∀ {kc : Nat}, kIn mm (ρ.i 2) kc → ∀ p ∈ jk mm kc, p.1.ev ρ = p.2 := by
  intro kc h p hp
  rcases kc with _ | _ | _ | kc <;> simp only [jk, List.mem_cons, List.not_mem_nil, or_false] at hp <;> simp only [kIn] at h
  · rcases hp with rfl | rfl <;> simp only [BE.ev, IE.ev, icmp] <;> first | exact decide_eq_true (by omega) | exact decide_eq_false (by omega)
  · rcases hp with rfl | rfl | rfl | rfl | rfl <;> simp only [BE.ev, IE.ev, icmp] <;> first | exact decide_eq_true (by omega) | exact decide_eq_false (by omega) | (rw [beq_iff_eq]; omega)
  · rcases hp with rfl | rfl | rfl | rfl | rfl <;> simp only [BE.ev, IE.ev, icmp] <;> first | exact decide_eq_true (by omega) | exact decide_eq_false (by omega) | (rw [beq_eq_false_iff_ne]; omega)
  · rcases hp with rfl | rfl | rfl | rfl <;> simp only [BE.ev, IE.ev, icmp] <;> first | exact decide_eq_true (by omega) | exact decide_eq_false (by omega)
theorem jn_ev {ρ : Env} {mm : Int} : ∀ {nc : Nat}, nIn mm (ρ.i 3) nc → ∀ p ∈ jn mm nc, p.1.ev ρ = p.2 := by
  intro nc h p hp
  rcases nc with _ | _ | nc <;> simp only [jn, List.mem_cons, List.not_mem_nil, or_false] at hp <;> simp only [nIn] at h
  · subst hp; simp only [BE.ev, IE.ev, icmp]; exact decide_eq_false (by omega)
  · rcases hp with rfl | rfl <;> simp only [BE.ev, IE.ev, icmp] <;> first | exact decide_eq_true (by omega) | exact decide_eq_false (by omega)

abbrev Told (many k n : Int) (W : World) : Prop := Calls Tryz.prog 4 #[.int .i64 many, .int .i64 k, .int .i64 n] W fun e W' => e = .returned (.bool true) ∧ Keeps (fun n => W.heap.size ≤ n) W W'

theorem jsum_ok {mm : Int} {bs : List (BE × Bool)} {W : World} (hj : jm mm ∈ bs) : SumOk (KS [23, 16] bs [] W) true (jsum mm) :=
  orSum_ok (truth_sumS JNwe JNwruns _ _ _ W) (jat_sum hj)

theorem jgo {mm many k n : Int} {kc nc : Nat} (hr : jrun mm (jb mm kc nc) (.int .i64 (.var 3)) = true) (hm : jmod many = mm) (hk : kIn mm k kc) (hn : nIn mm n nc) {W : World} (hg : W.cell? ⟨0, 0, none⟩ = some (.iface 220 (.agg #[.pointer (some ⟨3, 31, none⟩)]))) : Told many k n W := by
  refine runs_anyS (bs := jb mm kc nc) (is := []) (jfe _) (.last _ _ _ hr) (jsum_ok (List.mem_cons_self ..)) (env [many, k, n]) ⟨(by decide : 1 < 100), (by decide : 2 < 100), (by decide : 3 < 100), trivial⟩ ?_ (fun p hp => by cases hp) ?_ (fun p hp => by cases hp) hg
  · intro p hp
    rcases List.mem_cons.1 hp with rfl | hp
    · exact jm_in mm
    · rcases List.mem_append.1 hp with hp | hp
      · exact jk_in p hp
      · exact jn_in p hp
  · intro p hp
    rcases List.mem_cons.1 hp with rfl | hp
    · exact jm_ev.2 hm
    · rcases List.mem_append.1 hp with hp | hp
      · exact jk_ev (ρ := env [many, k, n]) hk p hp
      · exact jn_ev (ρ := env [many, k, n]) hn p hp

theorem jbad {mm many k n : Int} (hr : jrun mm [jm mm] (.int .i64 (.lit n)) = true) (hm : jmod many = mm) {W : World} (hg : W.cell? ⟨0, 0, none⟩ = some (.iface 220 (.agg #[.pointer (some ⟨3, 31, none⟩)]))) : Told many k n W := by
  refine runs_anyS (bs := [jm mm]) (is := []) (jfe _) (.last _ _ _ hr) (jsum_ok (List.mem_cons_self ..)) (env [many, k, n]) ⟨(by decide : 1 < 100), (by decide : 2 < 100), trivial, trivial⟩ ?_ (fun p hp => by cases hp) ?_ (fun p hp => by cases hp) hg
  · intro p hp
    obtain rfl := List.mem_singleton.1 hp
    exact jm_in mm
  · intro p hp
    obtain rfl := List.mem_singleton.1 hp
    exact jm_ev.2 hm

theorem j0 {many k n : Int} (hm : jmod many = 0) {W : World} (hg : W.cell? ⟨0, 0, none⟩ = some (.iface 220 (.agg #[.pointer (some ⟨3, 31, none⟩)]))) : Told many k n W := by
  rcases (by omega : k < 0 ∨ 0 ≤ k) with h | h
  · exact jgo jr0k0n2 hm h trivial hg
  · rcases (by omega : 0 < k ∨ k ≤ 0) with h2 | h2
    · exact jgo jr0k3n2 hm ⟨h, h2⟩ trivial hg
    · exact jgo jr0k1n2 hm (show k = 0 ∧ (0 : Int) ≤ 0 from ⟨by omega, by omega⟩) trivial hg
theorem j1 {many k n : Int} (hm : jmod many = 1) {W : World} (hg : W.cell? ⟨0, 0, none⟩ = some (.iface 220 (.agg #[.pointer (some ⟨3, 31, none⟩)]))) : Told many k n W := by
  have hn : n < 0 ∨ 1 ≤ n ∨ n = 0 := by omega
  have hk : k < 0 ∨ (k = 0 ∧ (0 : Int) ≤ 1) ∨ (0 < k ∧ k ≤ 1) ∨ (0 ≤ k ∧ 1 < k) := by omega
  rcases hn with h | h | rfl
  · rcases hk with q | q | q | q
    · exact jgo jr1k0n0 hm q h hg
    · exact jgo jr1k1n0 hm q h hg
    · exact jgo jr1k2n0 hm q h hg
    · exact jgo jr1k3n0 hm q h hg
  · rcases hk with q | q | q | q
    · exact jgo jr1k0n1 hm q (show (0 : Int) ≤ n ∧ 1 ≤ n from ⟨by omega, h⟩) hg
    · exact jgo jr1k1n1 hm q (show (0 : Int) ≤ n ∧ 1 ≤ n from ⟨by omega, h⟩) hg
    · exact jgo jr1k2n1 hm q (show (0 : Int) ≤ n ∧ 1 ≤ n from ⟨by omega, h⟩) hg
    · exact jgo jr1k3n1 hm q (show (0 : Int) ≤ n ∧ 1 ≤ n from ⟨by omega, h⟩) hg
  · exact jbad jr1b0 hm hg
theorem j2 {many k n : Int} (hm : jmod many = 2) {W : World} (hg : W.cell? ⟨0, 0, none⟩ = some (.iface 220 (.agg #[.pointer (some ⟨3, 31, none⟩)]))) : Told many k n W := by
  have hn : n < 0 ∨ 2 ≤ n ∨ n = 0 ∨ n = 1 := by omega
  have hk : k < 0 ∨ (k = 0 ∧ (0 : Int) ≤ 2) ∨ (0 < k ∧ k ≤ 2) ∨ (0 ≤ k ∧ 2 < k) := by omega
  rcases hn with h | h | rfl | rfl
  · rcases hk with q | q | q | q
    · exact jgo jr2k0n0 hm q h hg
    · exact jgo jr2k1n0 hm q h hg
    · exact jgo jr2k2n0 hm q h hg
    · exact jgo jr2k3n0 hm q h hg
  · rcases hk with q | q | q | q
    · exact jgo jr2k0n1 hm q (show (0 : Int) ≤ n ∧ 2 ≤ n from ⟨by omega, h⟩) hg
    · exact jgo jr2k1n1 hm q (show (0 : Int) ≤ n ∧ 2 ≤ n from ⟨by omega, h⟩) hg
    · exact jgo jr2k2n1 hm q (show (0 : Int) ≤ n ∧ 2 ≤ n from ⟨by omega, h⟩) hg
    · exact jgo jr2k3n1 hm q (show (0 : Int) ≤ n ∧ 2 ≤ n from ⟨by omega, h⟩) hg
  · exact jbad jr2b0 hm hg
  · exact jbad jr2b1 hm hg
theorem j3 {many k n : Int} (hm : jmod many = 3) {W : World} (hg : W.cell? ⟨0, 0, none⟩ = some (.iface 220 (.agg #[.pointer (some ⟨3, 31, none⟩)]))) : Told many k n W := by
  have hn : n < 0 ∨ 3 ≤ n ∨ n = 0 ∨ n = 1 ∨ n = 2 := by omega
  have hk : k < 0 ∨ (k = 0 ∧ (0 : Int) ≤ 3) ∨ (0 < k ∧ k ≤ 3) ∨ (0 ≤ k ∧ 3 < k) := by omega
  rcases hn with h | h | rfl | rfl | rfl
  · rcases hk with q | q | q | q
    · exact jgo jr3k0n0 hm q h hg
    · exact jgo jr3k1n0 hm q h hg
    · exact jgo jr3k2n0 hm q h hg
    · exact jgo jr3k3n0 hm q h hg
  · rcases hk with q | q | q | q
    · exact jgo jr3k0n1 hm q (show (0 : Int) ≤ n ∧ 3 ≤ n from ⟨by omega, h⟩) hg
    · exact jgo jr3k1n1 hm q (show (0 : Int) ≤ n ∧ 3 ≤ n from ⟨by omega, h⟩) hg
    · exact jgo jr3k2n1 hm q (show (0 : Int) ≤ n ∧ 3 ≤ n from ⟨by omega, h⟩) hg
    · exact jgo jr3k3n1 hm q (show (0 : Int) ≤ n ∧ 3 ≤ n from ⟨by omega, h⟩) hg
  · exact jbad jr3b0 hm hg
  · exact jbad jr3b1 hm hg
  · exact jbad jr3b2 hm hg
theorem j4 {many k n : Int} (hm : jmod many = 4) {W : World} (hg : W.cell? ⟨0, 0, none⟩ = some (.iface 220 (.agg #[.pointer (some ⟨3, 31, none⟩)]))) : Told many k n W := by
  have hn : n < 0 ∨ 4 ≤ n ∨ n = 0 ∨ n = 1 ∨ n = 2 ∨ n = 3 := by omega
  have hk : k < 0 ∨ (k = 0 ∧ (0 : Int) ≤ 4) ∨ (0 < k ∧ k ≤ 4) ∨ (0 ≤ k ∧ 4 < k) := by omega
  rcases hn with h | h | rfl | rfl | rfl | rfl
  · rcases hk with q | q | q | q
    · exact jgo jr4k0n0 hm q h hg
    · exact jgo jr4k1n0 hm q h hg
    · exact jgo jr4k2n0 hm q h hg
    · exact jgo jr4k3n0 hm q h hg
  · rcases hk with q | q | q | q
    · exact jgo jr4k0n1 hm q (show (0 : Int) ≤ n ∧ 4 ≤ n from ⟨by omega, h⟩) hg
    · exact jgo jr4k1n1 hm q (show (0 : Int) ≤ n ∧ 4 ≤ n from ⟨by omega, h⟩) hg
    · exact jgo jr4k2n1 hm q (show (0 : Int) ≤ n ∧ 4 ≤ n from ⟨by omega, h⟩) hg
    · exact jgo jr4k3n1 hm q (show (0 : Int) ≤ n ∧ 4 ≤ n from ⟨by omega, h⟩) hg
  · exact jbad jr4b0 hm hg
  · exact jbad jr4b1 hm hg
  · exact jbad jr4b2 hm hg
  · exact jbad jr4b3 hm hg
theorem j5 {many k n : Int} (hm : jmod many = 5) {W : World} (hg : W.cell? ⟨0, 0, none⟩ = some (.iface 220 (.agg #[.pointer (some ⟨3, 31, none⟩)]))) : Told many k n W := by
  have hn : n < 0 ∨ 5 ≤ n ∨ n = 0 ∨ n = 1 ∨ n = 2 ∨ n = 3 ∨ n = 4 := by omega
  have hk : k < 0 ∨ (k = 0 ∧ (0 : Int) ≤ 5) ∨ (0 < k ∧ k ≤ 5) ∨ (0 ≤ k ∧ 5 < k) := by omega
  rcases hn with h | h | rfl | rfl | rfl | rfl | rfl
  · rcases hk with q | q | q | q
    · exact jgo jr5k0n0 hm q h hg
    · exact jgo jr5k1n0 hm q h hg
    · exact jgo jr5k2n0 hm q h hg
    · exact jgo jr5k3n0 hm q h hg
  · rcases hk with q | q | q | q
    · exact jgo jr5k0n1 hm q (show (0 : Int) ≤ n ∧ 5 ≤ n from ⟨by omega, h⟩) hg
    · exact jgo jr5k1n1 hm q (show (0 : Int) ≤ n ∧ 5 ≤ n from ⟨by omega, h⟩) hg
    · exact jgo jr5k2n1 hm q (show (0 : Int) ≤ n ∧ 5 ≤ n from ⟨by omega, h⟩) hg
    · exact jgo jr5k3n1 hm q (show (0 : Int) ≤ n ∧ 5 ≤ n from ⟨by omega, h⟩) hg
  · exact jbad jr5b0 hm hg
  · exact jbad jr5b1 hm hg
  · exact jbad jr5b2 hm hg
  · exact jbad jr5b3 hm hg
  · exact jbad jr5b4 hm hg

theorem joinNone_any (many k n : Int) (W : World) (hg : W.cell? ⟨0, 0, none⟩ = some (.iface 220 (.agg #[.pointer (some ⟨3, 31, none⟩)]))) : Told many k n W := by
  have h := jmod_rem many
  have h6 : jmod many = 0 ∨ jmod many = 1 ∨ jmod many = 2 ∨ jmod many = 3 ∨ jmod many = 4 ∨ jmod many = 5 := by omega
  rcases h6 with h | h | h | h | h | h
  · exact j0 h hg
  · exact j1 h hg
  · exact j2 h hg
  · exact j3 h hg
  · exact j4 h hg
  · exact j5 h hg

theorem joinNone_lifted (os : Os) (started : os.Started) (H : Type) (enc : TypeId × Value → H) :
    ReturnsInHanded {} Tryz.checked os 4 .any (fun w args => (Rows.joinNoneSpec.pre enc Tryz.prog Tryz.f4 [] false w args ∧ laidMetH Tryz.prog [("errors.errorType", Rows.laid_errors_errorType)] w) ∧ sizedMet enc Tryz.prog Tryz.f4 (OpenSpec.ofChange Rows.joinNoneSpec) false w args)
      (Rows.joinNoneSpec.post enc Tryz.prog Tryz.f4 false true false false) := by
  refine returnsInHanded_of_change_and (C := Tryz.checked) (X := fun w _ => laidMetH Tryz.prog [("errors.errorType", Rows.laid_errors_errorType)] w) (fun _ _ _ hh h => h.of_heap hh) Tryz.own started (by kernel_rfl) Tryz.func4
    (ChangeSpec.witness_at (enc := enc) (C := Tryz.checked) (os := os) (X := fun w _ => laidMetH Tryz.prog [("errors.errorType", Rows.laid_errors_errorType)] w) false (laidWorld os) #[.int .i64 0, .int .i64 0, .int .i64 0] 8 rfl (by kernel_rfl) (by kernel_rfl) (by kernel_rfl) (by kernel_rfl) (by kernel_rfl) (laidWorld_met os _)) ?_
  intro W base args ds gs before hval0 hW _ _ hL _
  have hval : ∀ (j : Nat) t v, Tryz.f4.params[j]? = some t → args[j]? = some v → Value.okWide Tryz.prog W .any base t v := hval0
  have hW' := hW
  obtain ⟨p, q, hA0, hV0, rfl, hfz, hnd⟩ := hW
  have hA : DataW.TrodAll enc Tryz.prog W 0 (fun _ => true) true Tryz.f4.params.toList args.toList ds p := hA0
  have hV : DataW.TrodVars enc Tryz.prog W (fun _ => true) [] gs q := hV0
  rw [Tryz.params4] at hA hval
  obtain ⟨v0, v1, v2, d0, d1, d2, p0, p1, p2, rfl, rfl, rfl, t0, t1, t2⟩ := trodAll_three hA
  obtain ⟨n0, rfl, rfl, rfl, w0⟩ := open_int Tryz.underlying3 (hval 0 3 v0 rfl rfl) t0
  obtain ⟨n1, rfl, rfl, rfl, w1⟩ := open_int Tryz.underlying3 (hval 1 3 v1 rfl rfl) t1
  obtain ⟨n2, rfl, rfl, rfl, w2⟩ := open_int Tryz.underlying3 (hval 2 3 v2 rfl rfl) t2
  have hg := handle_of_laid hL
  obtain ⟨rfl, rfl⟩ : gs = [] ∧ q = [] := by
    cases gs with
    | nil => exact ⟨rfl, hV⟩
    | cons g r => exact absurd hV (by intro h; cases h)
  have e1 : Rows.joinNoneSpec.fn H ([.lit (.int .i64 n0), .lit (.int .i64 n1), .lit (.int .i64 n2)] ++ []) = { results := [.lit (.bool true)], args := [.lit (.int .i64 n0), .lit (.int .i64 n1), .lit (.int .i64 n2)] } := by simp [Rows.joinNoneSpec]
  refine (joinNone_any n0 n1 n2 W hg).mono fun e W' ⟨he, hw⟩ => ?_
  subst he
  refine ⟨_, rfl, _, _, _, [], [], [], hW', ?_, ?_, ?_, kept hw, fun h => by cases h⟩
  · rw [e1]; exact trodAll_mk1 (shut_bool Tryz.underlying4 true)
  · rw [e1]; exact trodAll_mk3 (shut_int Tryz.underlying3 w0) (shut_int Tryz.underlying3 w1) (shut_int Tryz.underlying3 w2)
  · rw [e1]; rfl

theorem joinNone_holds : Rows.JoinNoneSaid :=
  OpenClaim.holds_of_wide 4 Tryz.f4 rfl rfl rfl rfl rfl rfl rfl ⟨rfl, rfl, rfl, rfl, rfl⟩ rfl rfl rfl rfl rfl (by kernel_rfl) Tryz.func4 (by kernel_rfl)
    (of_decide_eq_true (by kernel_rfl)) (by unfold Func.isWrapper; first | (rw [if_pos (by decide +kernel)]; kernel_rfl) | (rw [if_neg (by decide +kernel)]; exact ⟨rfl, rfl⟩))
    (fun os started H enc _ => joinNone_lifted os started H enc)
end Go.Proofs.YtmnahfonnljobaaGreatDoor

/-
  InboxNil: for every call and every size, over inboxes that nobody made, and such as may not be: the law answers true, on every schedule, without a data race; the arguments read as they did. Conditions: the row's own (calm: the clock alone may have gone on).
-/
import Derived.Test.YtcpiafgkmakdiaaSxINz0
import Derived.Test.YtcpiafgkmakdiaaSxINz1
import Derived.Test.YtcpiafgkmakdiaaSxINz2
import Derived.Conc.HoldsTime
import Derived.Conc.LeavingOf
import Derived.ProofKit
import Derived.Lib.SmallJoins
set_option maxRecDepth 100000
namespace Go.Proofs.Ytcpiafgkmakdiaa
open Go.ChangeShapes Go.WideShapes Go.ChangeAt Go.RowKit Go.Conc Go.Proofs.Ytcpiafgkmakdiaa.SX

def GoodFrom (args : Array Value) (W : World) : Prop :=
  ∃ M last o w' t', runNT Try.prog (M + 1) (solo (G (Frame.enter Try.prog 4 args .normal) []) W) #[] = (.ended o w', t') ∧ runN Try.prog M (solo (G (Frame.enter Try.prog 4 args .normal) []) W) = .next last ∧
      step Try.prog last = .ended o w' ∧ Conc.Good Try.prog (fun v W' => v = .bool true ∧ Keeps (fun n => W.heap.size ≤ n) W W') last o w' t'

theorem wrap_small {x : Int} (h0 : 0 ≤ x) (h1 : x ≤ 4096) : IntKind.wrap .i64 (x + 1) = x + 1 := IntWalk.i64_in _ ⟨by omega, by omega⟩

theorem inM_in (m : Nat) : ∀ p ∈ inBm m, p.1.In Low := by
  have v3 : (IE.var 3).In Low := (by decide : (3 : Nat) < 100)
  intro p hp
  rcases m with _ | _ | m <;> simp only [inBm, List.mem_cons, List.not_mem_nil, or_false] at hp
  · rcases hp with rfl | rfl <;> exact ⟨v3, trivial⟩
  · rcases hp with rfl | rfl | rfl | rfl <;> exact ⟨v3, trivial⟩
  · rcases hp with rfl | rfl | rfl | rfl | rfl | rfl <;> first | exact ⟨v3, trivial⟩ | exact ⟨⟨v3, trivial⟩, trivial⟩
theorem inD_in (d : Nat) : ∀ p ∈ inBd d, p.1.In Low := by
  have v1 : (IE.var 1).In Low := (by decide : (1 : Nat) < 100)
  intro p hp
  rcases d with _ | _ | _ | d <;> simp only [inBd, List.mem_cons, List.not_mem_nil, or_false] at hp
  rcases hp with rfl | rfl <;> exact ⟨v1, trivial⟩

/-- The class of a size. -/
theorem size_class (x : Int) : ∃ m, m < 3 ∧ ∀ ρ : Env, ρ.i 3 = x → ∀ p ∈ inBm m, p.1.ev ρ = p.2 := by
  by_cases h1 : x < 1
  · refine ⟨0, by omega, fun ρ e p hp => ?_⟩
    simp only [inBm, List.mem_cons, List.not_mem_nil, or_false] at hp
    rcases hp with rfl | rfl <;> simp only [BE.ev, IE.ev, icmp, e]
    · exact decide_eq_true h1
    · exact decide_eq_false (by omega)
  · by_cases h2 : x > 4096
    · refine ⟨1, by omega, fun ρ e p hp => ?_⟩
      simp only [inBm, List.mem_cons, List.not_mem_nil, or_false] at hp
      rcases hp with rfl | rfl | rfl | rfl <;> simp only [BE.ev, IE.ev, icmp, e]
      · exact decide_eq_false h1
      · exact decide_eq_true h2
      · exact decide_eq_true (by omega)
      · exact decide_eq_false (by omega)
    · refine ⟨2, by omega, fun ρ e p hp => ?_⟩
      have hw := wrap_small (x := x) (by omega) (by omega)
      simp only [inBm, List.mem_cons, List.not_mem_nil, or_false] at hp
      rcases hp with rfl | rfl | rfl | rfl | rfl | rfl <;> simp only [BE.ev, IE.ev, icmp, e, iop, hw]
      · exact decide_eq_false h1
      · exact decide_eq_false h2
      · exact decide_eq_true (by omega)
      · exact decide_eq_true (by omega)
      · exact decide_eq_false (by omega)
      · exact decide_eq_false (by omega)

theorem in_good {d m : Nat} (hen : enterA Try.prog 4 [inDo d, .int .i64 (.var 3)] .normal = .ok (inF d)) (hz : inZ d m = true) (W : World) (ρ : Env) (ha : (inDo d).In Low) (h1 : ∀ p ∈ inBd d, p.1.ev ρ = p.2) (h2 : ∀ p ∈ inBm m, p.1.ev ρ = p.2) :
    GoodFrom (AV.evs ρ [inDo d, .int .i64 (.var 3)]).toArray W := by
  have v3 : (IE.var 3).In Low := (by decide : (3 : Nat) < 100)
  exact good_run (bs := inBs d m) hen (.last _ _ _ hz) W ρ ⟨ha, v3, trivial⟩ (fun p hp => (List.mem_append.1 hp).elim (inD_in d p) (inM_in m p)) (fun p hp => by cases hp) (fun p hp => (List.mem_append.1 hp).elim (h1 p) (h2 p)) (fun p hp => by cases hp)

theorem inZ0 : ∀ m, m < 3 → inZ 0 m = true
  | 0, _ => inZ00
  | 1, _ => inZ01
  | 2, _ => inZ02
theorem inZ1 : ∀ m, m < 3 → inZ 1 m = true
  | 0, _ => inZ10
  | 1, _ => inZ11
  | 2, _ => inZ12
theorem inZ2 : ∀ m, m < 3 → inZ 2 m = true
  | 0, _ => inZ20
  | 1, _ => inZ21
  | 2, _ => inZ22

theorem inboxNil_run (c v x : Int) (W : World) : GoodFrom #[.agg #[.int .i64 c, .int .i64 v], .int .i64 x] W := by
  obtain ⟨m, hm, hc⟩ := size_class x
  have v1 : (IE.var 1).In Low := (by decide : (1 : Nat) < 100)
  have v2 : (IE.var 2).In Low := (by decide : (2 : Nat) < 100)
  have hF := hc (env [c, v, x] []) rfl
  by_cases h0 : c = 0
  · subst h0
    have hz : inZ 0 m = true := inZ0 m hm
    exact in_good inE0 hz W (env [0, v, x] []) ⟨trivial, v2, trivial⟩ (fun p hp => by cases hp) hF
  · by_cases h1 : c = 1
    · subst h1
      have hz : inZ 1 m = true := inZ1 m hm
      exact in_good inE1 hz W (env [1, v, x] []) ⟨trivial, v2, trivial⟩ (fun p hp => by cases hp) hF
    · have hz : inZ 2 m = true := inZ2 m hm
      refine in_good inE2 hz W (env [c, v, x] []) ⟨v1, v2, trivial⟩ (fun p hp => ?_) hF
      simp only [inBd, List.mem_cons, List.not_mem_nil, or_false] at hp
      rcases hp with rfl | rfl <;> simp only [BE.ev, IE.ev, icmp, env] <;> simp [h0, h1]

theorem inboxNil_lifted (os : Os) (started : os.Started) (H : Type) (enc : TypeId × Value → H) (F : Stop.Interp) :
    ReturnsInLeavingWide { calm := true } Try.checked os 4 .any (Rows.inboxNilSpec.pre6 enc Try.prog Try.f4 Rows.inboxNilRow.domain false) ((OpenSpec.ofChange Rows.inboxNilSpec).postWith enc Try.prog Try.f4 F (outsideKept [.timePasses]) false true false) := by
  refine returnsInLeavingWide_of_change_time (C := Try.checked) Try.own started Try.func4
    (ChangeSpec.witness6c (enc := enc) (C := Try.checked) ⟨#[], #[.agg #[.int .i64 0, .int .i64 0], .int .i64 0], []⟩ 8 (by kernel_rfl) (by kernel_rfl) (by kernel_rfl) (by kernel_rfl)) ?_
  intro W base args ds gs before hval0 hW _ _ _
  have hval : ∀ (j : Nat) t v, Try.f4.params[j]? = some t → args[j]? = some v → Value.okWide Try.prog W .any base t v := hval0
  have hW' := hW
  obtain ⟨p, q, hA0, hV, rfl, _, _⟩ := hW
  have hA : DataW.TrodAll enc Try.prog W 0 (fun _ => true) true Try.f4.params.toList args.toList ds p := hA0
  rw [Try.params4] at hA hval
  obtain ⟨v0, v1, d0, d1, p0, p1, rfl, rfl, rfl, h0, h1⟩ := trodAll_two hA
  obtain ⟨rfl, rfl⟩ := trodVars_none hV
  obtain ⟨x0, x1, y0, y1, n0, rfl, rfl, rfl, t0, t1⟩ := Joins.open_agg2 Try.underlying41 (by kernel_rfl) (by kernel_rfl) (hval 0 41 v0 rfl rfl) h0
  obtain ⟨c, e0, rfl, w0⟩ := DataW.trod_int Try.underlying3 t0
  obtain ⟨v, e1, rfl, w1⟩ := DataW.trod_int Try.underlying2 t1
  obtain rfl : x0 = .int .i64 c := by simpa using e0
  obtain rfl : x1 = .int .i64 v := by simpa using e1
  obtain ⟨x, rfl, rfl, rfl, wx⟩ := open_int Try.underlying3 (hval 1 3 v1 rfl rfl) h1
  clear hA0 hval0
  simp only [List.append_nil] at hW'
  obtain ⟨M, last, o, w', t', r1, r2, r3, r4⟩ := inboxNil_run c v x W
  refine ⟨M, last, o, w', t', r1, r2, r3, r4.mono fun r hF => ?_⟩
  obtain ⟨rfl, hk⟩ := hF
  have ew : ({ w' with os := W.os } : World) = w' := by rw [← hk.os]
  rw [ew]
  refine ⟨⟨_, _, _, [], _, [], hW', trodAll_mk1 (shut_bool Try.underlying4 true), trodAll_mk2 (Joins.shut_agg2 (P := Try.prog) Try.underlying41 (by kernel_rfl) (by kernel_rfl) (y0 := (.lit (.int .i64 c), [])) (y1 := (.lit (.int .i64 v), [])) (by simpa [DataW.Trod, Value.cells] using shut_int Try.underlying3 w0) (by simpa [DataW.Trod, Value.cells] using shut_int Try.underlying2 w1)) (shut_int Try.underlying3 wx), rfl, kept hk, fun h => by cases h⟩, by rw [hk.os]; exact ConcM.OsLater.refl _⟩

theorem inboxNil_holds : Rows.InboxNilSaid :=
  OpenClaim.holds_of_wide_leaving_time 4 Try.f4 rfl rfl rfl rfl rfl rfl rfl ⟨rfl, rfl, rfl, rfl, rfl⟩ rfl rfl rfl rfl rfl (by kernel_rfl) Try.func4 (by kernel_rfl)
    (of_decide_eq_true (by kernel_rfl)) (by unfold Func.isWrapper; first | (rw [if_pos (by decide +kernel)]; kernel_rfl) | (rw [if_neg (by decide +kernel)]; exact ⟨rfl, rfl⟩))
    (fun os started H enc _ F => inboxNil_lifted os started H enc F)

end Go.Proofs.Ytcpiafgkmakdiaa

/-
  GateNil: for every number and every text, over threads that nobody made and one that is stopped: the law answers true, on every schedule, without a data race; the arguments read as they did. Conditions: none.
-/
import Derived.Test.YtcpiafgkmakdiaaSxGNa
import Derived.Conc.LeavingOf
import Derived.ProofKit
import Derived.ChangeMaps5
set_option maxRecDepth 100000
namespace Go.Proofs.Ytcpiafgkmakdiaa
open Go.ChangeShapes Go.WideShapes Go.ChangeAt Go.RowKit Go.Conc Go.Proofs.Ytcpiafgkmakdiaa.SX Go.ChangeMaps

theorem gateNil_run (n : Int) (s : ByteArray) (W : World) :
    ∃ M last o w' t', runNT Try.prog (M + 1) (solo (G (Frame.enter Try.prog 3 #[.int .i64 n, .string s] .normal) []) W) #[] = (.ended o w', t') ∧ runN Try.prog M (solo (G (Frame.enter Try.prog 3 #[.int .i64 n, .string s] .normal) []) W) = .next last ∧
      step Try.prog last = .ended o w' ∧ Conc.Good Try.prog (fun v W' => v = .bool true ∧ Keeps (fun n => W.heap.size ≤ n) W W') last o w' t' := by
  have v1 : (IE.var 1).In Low := (by decide : (1 : Nat) < 100)
  refine good_run gnE (.last _ _ _ gnZ) W (env [n] [.string s]) ⟨v1, trivial, trivial⟩ (fun p hp => ?_) (fun p hp => by cases hp) (fun p hp => ?_) (fun p hp => by cases hp)
  · simp only [gnBs, List.mem_cons, List.not_mem_nil, or_false] at hp
    rcases hp with rfl | rfl <;> exact ⟨v1, v1⟩
  · simp only [gnBs, List.mem_cons, List.not_mem_nil, or_false] at hp
    rcases hp with rfl | rfl <;> simp [BE.ev, icmp]

theorem gateNil_lifted (os : Os) (started : os.Started) (H : Type) (enc : TypeId × Value → H) :
    ReturnsInLeavingWide {} Try.checked os 3 .any (Rows.gateNilSpec.pre6 enc Try.prog Try.f3 Rows.gateNilRow.domain false) (Rows.gateNilSpec.post enc Try.prog Try.f3 false true false false) := by
  refine returnsInLeavingWide_of_change_sized (C := Try.checked) Try.own started Try.func3
    (ChangeSpec.witness6 (enc := enc) (C := Try.checked) false ⟨#[], #[.int .i64 0, .string ⟨#[]⟩], []⟩ 8 (by kernel_rfl) (by kernel_rfl) (by kernel_rfl) (by kernel_rfl)) ?_
  intro W base args ds gs before hval0 hW _ _ _
  have hval : ∀ (j : Nat) t v, Try.f3.params[j]? = some t → args[j]? = some v → Value.okWide Try.prog W .any base t v := hval0
  have hW' := hW
  obtain ⟨p, q, hA0, hV, rfl, _, _⟩ := hW
  have hA : DataW.TrodAll enc Try.prog W 0 (fun _ => true) true Try.f3.params.toList args.toList ds p := hA0
  rw [Try.params3] at hA hval
  obtain ⟨v0, v1, d0, d1, p0, p1, rfl, rfl, rfl, h0, h1⟩ := trodAll_two hA
  obtain ⟨rfl, rfl⟩ := trodVars_none hV
  obtain ⟨n, rfl, rfl, rfl, wn⟩ := open_int Try.underlying3 (hval 0 3 v0 rfl rfl) h0
  obtain ⟨s, rfl, rfl, rfl, ws⟩ := open_string Try.underlying9 (hval 1 9 v1 rfl rfl) h1
  clear hA0 hval0
  simp only [List.append_nil] at hW'
  obtain ⟨M, last, o, w', t', r1, r2, r3, r4⟩ := gateNil_run n s W
  refine ⟨M, last, o, w', t', r1, r2, r3, r4.mono fun v hF => ?_⟩
  obtain ⟨rfl, hk⟩ := hF
  exact ⟨_, _, _, [], _, [], hW', trodAll_mk1 (shut_bool Try.underlying4 true), trodAll_mk2 (shut_int Try.underlying3 wn) (shut_string Try.underlying9 ws), rfl, kept hk, fun h => by cases h⟩

theorem gateNil_holds : Rows.GateNilSaid :=
  OpenClaim.holds_of_wide_leaving 3 Try.f3 rfl rfl rfl rfl rfl rfl rfl ⟨rfl, rfl, rfl, rfl, rfl⟩ rfl rfl rfl rfl rfl (by kernel_rfl) Try.func3 (by kernel_rfl)
    (of_decide_eq_true (by kernel_rfl)) (by unfold Func.isWrapper; first | (rw [if_pos (by decide +kernel)]; kernel_rfl) | (rw [if_neg (by decide +kernel)]; exact ⟨rfl, rfl⟩))
    (fun os started H enc _ => gateNil_lifted os started H enc)

end Go.Proofs.Ytcpiafgkmakdiaa

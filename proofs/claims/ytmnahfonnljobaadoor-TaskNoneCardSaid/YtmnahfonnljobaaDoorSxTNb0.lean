/-
  TaskNone's runs: what is known beforehand of the reason: at least 1, or less. Conditions: none.
-/
import Derived.Test.YtmnahfonnljobaaDoorSxFNb0
set_option maxRecDepth 100000
namespace Go.Proofs.YtmnahfonnljobaaDoor
open Go.Proofs.YtmnahfonnljobaaDoor.SX

def bsOf (b : Bool) : List (BE × Bool) := [(.cmp .geq (.var 2) (.lit 1), b), (.cmp .lss (.var 2) (.lit 1), !b), (.cmp .neq (.var 1) (.var 1), false), (.cmp .eql (.var 1) (.var 1), true)]
noncomputable def OB (b : Bool) : Orc := { O with bs := bsOf b }
noncomputable def KB (b : Bool) (W : World) : Ctx := ⟨Tryd.prog, OB b, fun n => W.heap.size ≤ n, fun _ => True, True⟩
theorem KB_good (b : Bool) (W : World) : (KB b W).Good := ⟨fun _ _ _ _ => trivial, fun _ => trivial, trivial, fun _ _ => trivial⟩
theorem KB_facts (b : Bool) (W : World) : (KB b W).Facts := ⟨fns_ok, ext_facts, mixed⟩

theorem relB {b : Bool} {W : World} {n m : Int} (hb : decide (1 ≤ m) = b) (hg : W.cell? ⟨0, 0, none⟩ = some (.iface 149 (.agg #[.pointer (some ⟨1, 27, none⟩)]))) : Rel (KB b W) (env [n, m]) h0 W := by
  have R := rel0 (env [n, m]) hg
  refine ⟨R.blk, R.own, R.inj, fun p hp => ?_, R.is, R.mem, R.room⟩
  have e1 : (env [n, m]).i 1 = n := rfl
  have e2 : (env [n, m]).i 2 = m := rfl
  have hp' : p ∈ bsOf b := hp
  simp only [bsOf, List.mem_cons, List.not_mem_nil, or_false] at hp'
  rcases hp' with rfl | rfl | rfl | rfl
  · simp only [BE.ev, IE.ev, icmp, e2]; rw [← hb]
  · simp only [BE.ev, IE.ev, icmp, e2]
    rw [← hb]
    by_cases h : 1 ≤ m
    · simp [h]
    · simp [h]; omega
  · simp only [BE.ev, IE.ev, icmp, e1]; simp
  · simp only [BE.ev, IE.ev, icmp, e1]; simp

theorem idsB (b : Bool) (W : World) : Ids (KB b W) (fun n => n < 100) h0 := by
  have I := ids0 W
  refine ⟨I.hp, I.keys, I.nodup, I.fresh, ?_⟩
  refine ⟨fun p hp => ?_, I.orc.2, I.orc.3⟩
  have hp' : p ∈ bsOf b := hp
  simp only [bsOf, List.mem_cons, List.not_mem_nil, or_false] at hp'
  rcases hp' with rfl | rfl | rfl | rfl
  · exact ⟨(by decide : 2 < 100), trivial⟩
  · exact ⟨(by decide : 2 < 100), trivial⟩
  · exact ⟨(by decide : 1 < 100), (by decide : 1 < 100)⟩
  · exact ⟨(by decide : 1 < 100), (by decide : 1 < 100)⟩
end Go.Proofs.YtmnahfonnljobaaDoor

/-
  A symbolic run of the model, proved sound: a text of its parts. Conditions: none.
-/
import Derived.Test.YtmnahfonnljobaaDoorSxFNfacts
set_option maxRecDepth 100000
namespace Go.Proofs.YtmnahfonnljobaaDoor
open Go.ChangeShapes Go.WideShapes Go.RowKit Go.Proofs.YtmnahfonnljobaaDoor.SX

/-! ### The run -/
noncomputable def O : Orc := { fns := fns, ext := ext, mem := [(⟨.glob 0, .lit 0⟩, .iface 149 (.agg [.ptr (some ⟨.glob 1, .lit 27⟩)]))] }
def h0 : AH := ⟨[], 100, 5192296858534827628530496329220096⟩
noncomputable def okT : M (AE × AH) → Bool
  | .ok (.returned (.bool (.lit true)), _) => true
  | _ => false
theorem okT_ok {r : M (AE × AH)} (h : okT r = true) : ∃ h', r = .ok (.returned (.bool (.lit true)), h') := by
  unfold okT at h
  split at h
  · exact ⟨_, rfl⟩
  · cases h

noncomputable def K (W : World) : Ctx := ⟨Tryd.prog, O, fun n => W.heap.size ≤ n, fun _ => True, True⟩
theorem K_good (W : World) : (K W).Good := ⟨fun _ _ _ _ => trivial, fun _ => trivial, trivial, fun _ _ => trivial⟩
theorem K_facts (W : World) : (K W).Facts := ⟨fns_ok, ext_facts, mixed⟩

theorem kept {W W' : World} {may : MemPlace → Prop} (h : Keeps (fun n => W.heap.size ≤ n) W W') : W.keptBut W' may := by
  refine ⟨h.os, h.output, fun i hi => ?_⟩
  have e := h.heap i (Nat.not_le.2 hi)
  rw [e]
  split
  · rename_i e1 e2
    cases e1.symm.trans e2
    exact ⟨rfl, rfl, rfl, fun _ _ => rfl⟩
  · rename_i e1 e2
    cases e1.symm.trans e2
    exact .inr ⟨rfl, rfl⟩
  · rfl

noncomputable def env (l : List Int) : Env := { i := fun n => l.getD (n - 1) 0, p := fun _ => false, v := fun _ => undef, b := fun _ => 0 }

theorem rel0 {W : World} (ρ : Env) (hg : W.cell? ⟨0, 0, none⟩ = some (.iface 149 (.agg #[.pointer (some ⟨1, 27, none⟩)]))) : Rel (K W) ρ h0 W := by
  refine ⟨(fun i b hb => by cases hb), (fun i b hb => by cases hb), (fun i j b c hb => by cases hb), (fun p hp => by cases hp), (fun p hp => by cases hp), fun p hp => ?_, fun n hn => hn⟩
  obtain rfl := List.mem_singleton.1 hp
  refine ⟨?_, hg, fun _ => trivial⟩
  show ¬ W.heap.size ≤ 0
  intro h
  have h0 : W.heap[0]? = none := Array.getElem?_eq_none h
  simp [World.cell?, h0] at hg

theorem ids0 (W : World) : Ids (K W) (fun n => n < 100) h0 := by
  refine ⟨(fun i b hb => by cases hb), (fun i hi => by cases hi), List.nodup_nil, (fun n hn _ h => by have : 100 ≤ n := hn; omega), ?_⟩
  refine ⟨(fun p hp => by cases hp), (fun p hp => by cases hp), fun p hp => ?_⟩
  obtain rfl := List.mem_singleton.1 hp
  exact ⟨⟨trivial, trivial⟩, ⟨⟨trivial, trivial⟩, trivial⟩⟩

end Go.Proofs.YtmnahfonnljobaaDoor

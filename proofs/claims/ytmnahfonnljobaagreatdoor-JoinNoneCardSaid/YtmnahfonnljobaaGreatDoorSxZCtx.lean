/-
  A run's context: what is known beforehand; from a closed run to a contract. Conditions: none.
-/
import Derived.Test.YtmnahfonnljobaaGreatDoorSxZFacts
import Derived.Test.YtmnahfonnljobaaGreatDoorSxChunkOk
set_option maxRecDepth 100000
set_option linter.unusedVariables false
namespace Go.Proofs.YtmnahfonnljobaaGreatDoor
open Go.Proofs.YtmnahfonnljobaaGreatDoor.SX

noncomputable def O0 : Orc := { fns := fns, ext := ext, mem := [(⟨.glob 0, .lit 0⟩, .iface 220 (.agg [.ptr (some ⟨.glob 3, .lit 31⟩)]))] }
noncomputable def OB (bs : List (BE × Bool)) (is : List (IE × IE)) : Orc := { bs := bs, is := is, fns := fns, ext := ext, mem := [(⟨.glob 0, .lit 0⟩, .iface 220 (.agg [.ptr (some ⟨.glob 3, .lit 31⟩)]))], sums := [29] }
def h0 : AH := ⟨[], 100, 5192296858534827628530496329220096⟩
noncomputable def okT : M (AE × AH) → Bool
  | .ok (.returned (.bool (.lit true)), _) => true
  | _ => false
theorem okT_ok {r : M (AE × AH)} (h : okT r = true) : ∃ h', r = .ok (.returned (.bool (.lit true)), h') := by
  unfold okT at h
  split at h
  · exact ⟨_, rfl⟩
  · cases h

noncomputable def KB (bs : List (BE × Bool)) (is : List (IE × IE)) (W : World) : Ctx := ⟨Tryz.prog, OB bs is, fun n => W.heap.size ≤ n, fun _ => True, True⟩
theorem KB_good (bs : List (BE × Bool)) (is : List (IE × IE)) (W : World) : (KB bs is W).Good := ⟨fun _ _ _ _ => trivial, fun _ => trivial, trivial, fun _ _ => trivial⟩
theorem KB_facts (bs : List (BE × Bool)) (is : List (IE × IE)) (W : World) : (KB bs is W).Facts := ⟨fns_ok, ext_facts, mixed⟩

theorem kept {W W' : World} {may : MemPlace → Prop} (h : Keeps (fun n => W.heap.size ≤ n) W W') : W.keptBut W' may := by
  refine ⟨h.os, h.output, fun i hi => ?_⟩
  have e := h.heap i (Nat.not_le.2 hi)
  rw [e]
  split
  · rename_i e1 e2
    cases e1.symm.trans e2
    exact ⟨rfl, rfl, rfl, fun _ _ => rfl⟩
  · rename_i e1 e2
    cases e1.symm.trans e2
    exact .inr ⟨rfl, rfl⟩
  · rfl

noncomputable def env (l : List Int) : Env := { i := fun n => l.getD (n - 1) 0, p := fun _ => false, v := fun _ => undef, b := fun _ => 0 }

theorem relB {bs : List (BE × Bool)} {is : List (IE × IE)} {W : World} (ρ : Env) (hbs : ∀ p ∈ bs, p.1.ev ρ = p.2) (his : ∀ p ∈ is, p.1.ev ρ = p.2.ev ρ) (hg : W.cell? ⟨0, 0, none⟩ = some (.iface 220 (.agg #[.pointer (some ⟨3, 31, none⟩)]))) : Rel (KB bs is W) ρ h0 W := by
  refine ⟨(fun i b hb => by cases hb), (fun i b hb => by cases hb), (fun i j b c hb => by cases hb), hbs, his, fun p hp => ?_, fun n hn => hn⟩
  obtain rfl := List.mem_singleton.1 hp
  refine ⟨?_, hg, fun _ => trivial⟩
  show ¬ W.heap.size ≤ 0
  intro h
  have h0 : W.heap[0]? = none := Array.getElem?_eq_none h
  simp [World.cell?, h0] at hg

abbrev Low (n : Nat) : Prop := n < 100
theorem idsB {bs : List (BE × Bool)} {is : List (IE × IE)} (W : World) (hbs : ∀ p ∈ bs, p.1.In Low) (his : ∀ p ∈ is, p.1.In Low ∧ p.2.In Low) : Ids (KB bs is W) Low h0 := by
  refine ⟨(fun i b hb => by cases hb), (fun i hi => by cases hi), List.nodup_nil, (fun n hn _ h => by have : 100 ≤ n := hn; omega), ?_⟩
  refine ⟨hbs, his, fun p hp => ?_⟩
  obtain rfl := List.mem_singleton.1 hp
  exact ⟨⟨trivial, trivial⟩, ⟨⟨trivial, trivial⟩, trivial⟩⟩

theorem O0_in : O0.In (fun _ => False) := by
  refine ⟨(fun p hp => by cases hp), (fun p hp => by cases hp), fun p hp => ?_⟩
  obtain rfl := List.mem_singleton.1 hp
  exact ⟨⟨trivial, trivial⟩, ⟨⟨trivial, trivial⟩, trivial⟩⟩

/-- The summary of a call without arguments that answers true when run aside. -/
theorem truth_sum {f : FuncId} {fr : AFrame} (hen : enterA Tryz.prog f [] .normal = .ok fr) (hr : Runs Tryz.prog O0 (ext? Tryz.prog O0 tab) noSums ⟨fr, [], h0⟩) {main : Bool} (bs : List (BE × Bool)) (is : List (IE × IE)) (W : World) : SumOk (KB bs is W) main (truth f) :=
  truth_ok hen fun h => aside_ok (K := KB bs is W) hen hr trivial O0_in rfl rfl (fun p hp => hp) (KB_good bs is W) (fun w => ⟨fns_ok, ext_facts, mixed⟩) (fun w G => ext_ok G trivial tab_facts) (fun w G => noSums_ok) h

/-- A run in pieces that answers true: so does the call. -/
theorem runs_any {bs : List (BE × Bool)} {is : List (IE × IE)} {f : FuncId} {args : List AV} {fr : AFrame} {sum : Sums} (hen : enterA Tryz.prog f args .normal = .ok fr) (hr : Runs Tryz.prog (OB bs is) (ext? Tryz.prog (OB bs is) tab) sum ⟨fr, [], h0⟩) {W : World} (hz : SumOk (KB bs is W) true sum) (ρ : Env)
    (ha : AV.Ins Low args) (b1 : ∀ p ∈ bs, p.1.In Low) (i1 : ∀ p ∈ is, p.1.In Low ∧ p.2.In Low) (b2 : ∀ p ∈ bs, p.1.ev ρ = p.2) (i2 : ∀ p ∈ is, p.1.ev ρ = p.2.ev ρ) (hg : W.cell? ⟨0, 0, none⟩ = some (.iface 220 (.agg #[.pointer (some ⟨3, 31, none⟩)]))) :
    Calls Tryz.prog f (AV.evs ρ args).toArray W fun e W' => e = .returned (.bool true) ∧ Keeps (fun n => W.heap.size ≤ n) W W' :=
  calls_runs (K := KB bs is W) (KB_good bs is W) (KB_facts bs is W) (ext_ok (KB_good bs is W) trivial tab_facts) hz hen hr (idsB W b1 i1) ha (relB ρ b2 i2 hg)
end Go.Proofs.YtmnahfonnljobaaGreatDoor

/-
  A run's context, with summaries; from a run in pieces to a contract. Conditions: none.
-/
import Derived.Test.YtmnahfonnljobaaGreatDoorSxZCtx
set_option maxRecDepth 100000
set_option linter.unusedVariables false
namespace Go.Proofs.YtmnahfonnljobaaGreatDoor
open Go.Proofs.YtmnahfonnljobaaGreatDoor.SX

noncomputable def OS (sm : List FuncId) (bs : List (BE × Bool)) (is : List (IE × IE)) : Orc := { bs := bs, is := is, fns := fns, ext := ext, mem := [(⟨.glob 0, .lit 0⟩, .iface 220 (.agg [.ptr (some ⟨.glob 3, .lit 31⟩)]))], sums := sm }
noncomputable def KS (sm : List FuncId) (bs : List (BE × Bool)) (is : List (IE × IE)) (W : World) : Ctx := ⟨Tryz.prog, OS sm bs is, fun n => W.heap.size ≤ n, fun _ => True, True⟩
theorem KS_good (sm : List FuncId) (bs : List (BE × Bool)) (is : List (IE × IE)) (W : World) : (KS sm bs is W).Good := ⟨fun _ _ _ _ => trivial, fun _ => trivial, trivial, fun _ _ => trivial⟩
theorem KS_facts (sm : List FuncId) (bs : List (BE × Bool)) (is : List (IE × IE)) (W : World) : (KS sm bs is W).Facts := ⟨fns_ok, ext_facts, mixed⟩

theorem relS {sm : List FuncId} {bs : List (BE × Bool)} {is : List (IE × IE)} {W : World} (ρ : Env) (hbs : ∀ p ∈ bs, p.1.ev ρ = p.2) (his : ∀ p ∈ is, p.1.ev ρ = p.2.ev ρ) (hg : W.cell? ⟨0, 0, none⟩ = some (.iface 220 (.agg #[.pointer (some ⟨3, 31, none⟩)]))) : Rel (KS sm bs is W) ρ h0 W := by
  obtain ⟨a, b, c, d, e, f, g⟩ := relB ρ hbs his hg
  exact ⟨a, b, c, d, e, f, g⟩
theorem idsS {sm : List FuncId} {bs : List (BE × Bool)} {is : List (IE × IE)} (W : World) (hbs : ∀ p ∈ bs, p.1.In Low) (his : ∀ p ∈ is, p.1.In Low ∧ p.2.In Low) : Ids (KS sm bs is W) Low h0 := by
  obtain ⟨a, b, c, d, e, f, g⟩ := idsB W hbs his
  exact ⟨a, b, c, d, e, f, g⟩

theorem truth_sumS {f : FuncId} {fr : AFrame} (hen : enterA Tryz.prog f [] .normal = .ok fr) (hr : Runs Tryz.prog O0 (ext? Tryz.prog O0 tab) noSums ⟨fr, [], h0⟩) {main : Bool} (sm : List FuncId) (bs : List (BE × Bool)) (is : List (IE × IE)) (W : World) : SumOk (KS sm bs is W) main (truth f) :=
  truth_ok hen fun h => aside_ok (K := KS sm bs is W) hen hr trivial O0_in rfl rfl (fun p hp => hp) (KS_good sm bs is W) (fun w => ⟨fns_ok, ext_facts, mixed⟩) (fun w G => ext_ok G trivial tab_facts) (fun w G => noSums_ok) h

theorem runs_anyS {sm : List FuncId} {bs : List (BE × Bool)} {is : List (IE × IE)} {f : FuncId} {args : List AV} {fr : AFrame} {sum : Sums} (hen : enterA Tryz.prog f args .normal = .ok fr) (hr : Runs Tryz.prog (OS sm bs is) (ext? Tryz.prog (OS sm bs is) tab) sum ⟨fr, [], h0⟩) {W : World} (hz : SumOk (KS sm bs is W) true sum) (ρ : Env)
    (ha : AV.Ins Low args) (b1 : ∀ p ∈ bs, p.1.In Low) (i1 : ∀ p ∈ is, p.1.In Low ∧ p.2.In Low) (b2 : ∀ p ∈ bs, p.1.ev ρ = p.2) (i2 : ∀ p ∈ is, p.1.ev ρ = p.2.ev ρ) (hg : W.cell? ⟨0, 0, none⟩ = some (.iface 220 (.agg #[.pointer (some ⟨3, 31, none⟩)]))) :
    Calls Tryz.prog f (AV.evs ρ args).toArray W fun e W' => e = .returned (.bool true) ∧ Keeps (fun n => W.heap.size ≤ n) W W' :=
  calls_runs (K := KS sm bs is W) (KS_good sm bs is W) (KS_facts sm bs is W) (ext_ok (KS_good sm bs is W) trivial tab_facts) hz hen hr (idsS W b1 i1) ha (relS ρ b2 i2 hg)
end Go.Proofs.YtmnahfonnljobaaGreatDoor

/-
  The program's facts: which functions have a body, which entries lack one. Conditions: none.
-/
import Derived.Test.YtcpiafgkmakdiaaDoorRows
import Derived.ChangeSame
import Derived.ChangeVars
import Derived.JoinedOf
import Derived.RowKit
import Derived.RowKitTokens
import Derived.LaidLaws
import Derived.LaidHandle
import Derived.Stop.Joined
import Derived.Test.YtcpiafgkmakdiaaDoorSxRuns
set_option maxRecDepth 100000
namespace Go.Proofs.YtcpiafgkmakdiaaDoor
open Go.ChangeShapes Go.WideShapes Go.RowKit Go.Proofs.YtcpiafgkmakdiaaDoor.SX

def fns : List Nat := [2, 3, 4, 5, 6, 7, 8, 9, 10, 11, 12, 13, 14, 15, 16, 17, 18, 19, 20, 21, 22, 23, 24, 25, 26, 27, 28, 29, 30, 31, 32, 33, 34, 35, 36, 37, 38, 39, 40, 41, 42, 43, 44, 45, 47, 48, 49, 51, 52, 53, 56, 57, 58, 59, 60, 61, 66, 69, 70, 71, 72, 73, 74, 82, 83, 108]
def ext : List (FuncId × (Array Value → Sem Value)) := []
def tab : List (FuncId × XE) := [(46, .st), (50, .ld .i64), (54, .cas .i64), (55, .add .i64), (62, .quiet), (63, .cas .i32), (64, .quiet), (65, .acquire), (67, .releaseMerge), (68, .add .i32)]
theorem tab46 : ExtFact Tryd.prog 46 (Extern.Atomic.storeT) := ⟨⟨Tryd.f46, Tryd.func46, by kernel_rfl, by kernel_rfl, by kernel_rfl, by kernel_rfl⟩⟩
theorem tab50 : ExtFact Tryd.prog 50 (Extern.Atomic.loadT (.int .i64)) := ⟨⟨Tryd.f50, Tryd.func50, by kernel_rfl, by kernel_rfl, by kernel_rfl, by kernel_rfl⟩⟩
theorem tab54 : ExtFact Tryd.prog 54 (Extern.Atomic.casT (.int .i64)) := ⟨⟨Tryd.f54, Tryd.func54, by kernel_rfl, by kernel_rfl, by kernel_rfl, by kernel_rfl⟩⟩
theorem tab55 : ExtFact Tryd.prog 55 (Extern.Atomic.update (Op.intArith .add) .i64 true) := ⟨⟨Tryd.f55, Tryd.func55, by kernel_rfl, by kernel_rfl, by kernel_rfl, by kernel_rfl⟩⟩
theorem tab62 : ExtFact Tryd.prog 62 (fun _ => do mark .disable; pure Extern.Race.none_) := ⟨⟨Tryd.f62, Tryd.func62, by kernel_rfl, by kernel_rfl, by kernel_rfl, by kernel_rfl⟩⟩
theorem tab63 : ExtFact Tryd.prog 63 (Extern.Atomic.casT (.int .i32)) := ⟨⟨Tryd.f63, Tryd.func63, by kernel_rfl, by kernel_rfl, by kernel_rfl, by kernel_rfl⟩⟩
theorem tab64 : ExtFact Tryd.prog 64 (fun _ => do mark .enable; pure Extern.Race.none_) := ⟨⟨Tryd.f64, Tryd.func64, by kernel_rfl, by kernel_rfl, by kernel_rfl, by kernel_rfl⟩⟩
theorem tab65 : ExtFact Tryd.prog 65 (Extern.Race.marked .acquire) := ⟨⟨Tryd.f65, Tryd.func65, by kernel_rfl, by kernel_rfl, by kernel_rfl, by kernel_rfl⟩⟩
theorem tab67 : ExtFact Tryd.prog 67 (Extern.Race.marked .releaseMerge) := ⟨⟨Tryd.f67, Tryd.func67, by kernel_rfl, by kernel_rfl, by kernel_rfl, by kernel_rfl⟩⟩
theorem tab68 : ExtFact Tryd.prog 68 (Extern.Atomic.update (Op.intArith .add) .i32 true) := ⟨⟨Tryd.f68, Tryd.func68, by kernel_rfl, by kernel_rfl, by kernel_rfl, by kernel_rfl⟩⟩
theorem ext_facts : ∀ p ∈ ext, ExtFact Tryd.prog p.1 p.2 := by
  intro p hp
  cases hp
/-- The entries that leave one hearing. -/
def tabC : List (FuncId × XE) := [(46, .st), (50, .ld .i64), (54, .cas .i64), (55, .add .i64), (63, .cas .i32), (65, .acquire), (67, .releaseMerge), (68, .add .i32)]
theorem tabC_facts : TabFacts Tryd.prog tabC := by
  intro p hp
  simp only [tabC, List.mem_cons, List.not_mem_nil, or_false] at hp
  rcases hp with rfl | rfl | rfl | rfl | rfl | rfl | rfl | rfl
  · exact ⟨_, tab46, rfl⟩
  · exact ⟨_, tab50, rfl⟩
  · exact ⟨_, tab54, rfl⟩
  · exact ⟨_, tab55, rfl⟩
  · exact ⟨_, tab63, rfl⟩
  · exact ⟨_, tab65, rfl⟩
  · exact ⟨_, tab67, rfl⟩
  · exact ⟨_, tab68, rfl⟩
theorem tab_facts : TabFacts Tryd.prog tab := by
  intro p hp
  simp only [tab, List.mem_cons, List.not_mem_nil, or_false] at hp
  rcases hp with rfl | rfl | rfl | rfl | rfl | rfl | rfl | rfl | rfl | rfl
  · exact ⟨_, tab46, rfl⟩
  · exact ⟨_, tab50, rfl⟩
  · exact ⟨_, tab54, rfl⟩
  · exact ⟨_, tab55, rfl⟩
  · exact ⟨_, tab62, ⟨_, rfl⟩⟩
  · exact ⟨_, tab63, rfl⟩
  · exact ⟨_, tab64, ⟨_, rfl⟩⟩
  · exact ⟨_, tab65, rfl⟩
  · exact ⟨_, tab67, rfl⟩
  · exact ⟨_, tab68, rfl⟩

theorem fns_ok : fns.all (fnOk Tryd.prog) = true := by kernel_rfl
theorem Tryd.own : ownKnob Tryd.prog.godebug = none := by kernel_rfl
theorem mixed : Tryd.prog.follows .mixedOrders = true := by kernel_rfl
end Go.Proofs.YtcpiafgkmakdiaaDoor

/-
  The program's facts: which functions have a body, which entries lack one. Conditions: none.
-/
import Derived.Test.YtcpiafgkmakdiaaRows
import Derived.ChangeSame
import Derived.ChangeVars
import Derived.JoinedOf
import Derived.RowKit
import Derived.RowKitTokens
import Derived.LaidLaws
import Derived.LaidHandle
import Derived.Stop.Joined
import Derived.Test.YtcpiafgkmakdiaaSxRuns
set_option maxRecDepth 100000
namespace Go.Proofs.Ytcpiafgkmakdiaa
open Go.ChangeShapes Go.WideShapes Go.RowKit Go.Proofs.Ytcpiafgkmakdiaa.SX

def fns : List Nat := [2, 3, 4, 5, 6, 7, 8, 9, 10, 11, 12, 13, 14, 15, 16, 17, 18, 19, 20, 21, 22, 23, 24, 25, 26, 27, 28, 29, 30, 31, 32, 33, 34, 35, 36, 37, 38, 39, 40, 41, 42, 43, 44, 45, 46, 47, 48, 49, 52, 53, 54, 55, 56, 57, 58, 59, 60, 61, 62, 63, 64, 67, 68, 69, 70, 71, 72, 73, 74, 76, 77, 82, 85]
def ext : List (FuncId × (Array Value → Sem Value)) := []
def tab : List (FuncId × XE) := [(50, .ld .i64), (51, .st), (65, .cas .i64), (66, .add .i64), (75, .sw .i64), (78, .quiet), (79, .cas .i32), (80, .quiet), (81, .acquire), (83, .releaseMerge), (84, .add .i32)]
theorem tab50 : ExtFact Try.prog 50 (Extern.Atomic.loadT (.int .i64)) := ⟨⟨Try.f50, Try.func50, by kernel_rfl, by kernel_rfl, by kernel_rfl, by kernel_rfl⟩⟩
theorem tab51 : ExtFact Try.prog 51 (Extern.Atomic.storeT) := ⟨⟨Try.f51, Try.func51, by kernel_rfl, by kernel_rfl, by kernel_rfl, by kernel_rfl⟩⟩
theorem tab65 : ExtFact Try.prog 65 (Extern.Atomic.casT (.int .i64)) := ⟨⟨Try.f65, Try.func65, by kernel_rfl, by kernel_rfl, by kernel_rfl, by kernel_rfl⟩⟩
theorem tab66 : ExtFact Try.prog 66 (Extern.Atomic.update (Op.intArith .add) .i64 true) := ⟨⟨Try.f66, Try.func66, by kernel_rfl, by kernel_rfl, by kernel_rfl, by kernel_rfl⟩⟩
theorem tab75 : ExtFact Try.prog 75 (Extern.Atomic.swapT (.int .i64)) := ⟨⟨Try.f75, Try.func75, by kernel_rfl, by kernel_rfl, by kernel_rfl, by kernel_rfl⟩⟩
theorem tab78 : ExtFact Try.prog 78 (fun _ => do mark .disable; pure Extern.Race.none_) := ⟨⟨Try.f78, Try.func78, by kernel_rfl, by kernel_rfl, by kernel_rfl, by kernel_rfl⟩⟩
theorem tab79 : ExtFact Try.prog 79 (Extern.Atomic.casT (.int .i32)) := ⟨⟨Try.f79, Try.func79, by kernel_rfl, by kernel_rfl, by kernel_rfl, by kernel_rfl⟩⟩
theorem tab80 : ExtFact Try.prog 80 (fun _ => do mark .enable; pure Extern.Race.none_) := ⟨⟨Try.f80, Try.func80, by kernel_rfl, by kernel_rfl, by kernel_rfl, by kernel_rfl⟩⟩
theorem tab81 : ExtFact Try.prog 81 (Extern.Race.marked .acquire) := ⟨⟨Try.f81, Try.func81, by kernel_rfl, by kernel_rfl, by kernel_rfl, by kernel_rfl⟩⟩
theorem tab83 : ExtFact Try.prog 83 (Extern.Race.marked .releaseMerge) := ⟨⟨Try.f83, Try.func83, by kernel_rfl, by kernel_rfl, by kernel_rfl, by kernel_rfl⟩⟩
theorem tab84 : ExtFact Try.prog 84 (Extern.Atomic.update (Op.intArith .add) .i32 true) := ⟨⟨Try.f84, Try.func84, by kernel_rfl, by kernel_rfl, by kernel_rfl, by kernel_rfl⟩⟩
theorem ext_facts : ∀ p ∈ ext, ExtFact Try.prog p.1 p.2 := by
  intro p hp
  cases hp
/-- The entries that leave one hearing. -/
def tabC : List (FuncId × XE) := [(50, .ld .i64), (51, .st), (65, .cas .i64), (66, .add .i64), (75, .sw .i64), (79, .cas .i32), (81, .acquire), (83, .releaseMerge), (84, .add .i32)]
theorem tabC_facts : TabFacts Try.prog tabC := by
  intro p hp
  simp only [tabC, List.mem_cons, List.not_mem_nil, or_false] at hp
  rcases hp with rfl | rfl | rfl | rfl | rfl | rfl | rfl | rfl | rfl
  · exact ⟨_, tab50, rfl⟩
  · exact ⟨_, tab51, rfl⟩
  · exact ⟨_, tab65, rfl⟩
  · exact ⟨_, tab66, rfl⟩
  · exact ⟨_, tab75, rfl⟩
  · exact ⟨_, tab79, rfl⟩
  · exact ⟨_, tab81, rfl⟩
  · exact ⟨_, tab83, rfl⟩
  · exact ⟨_, tab84, rfl⟩
theorem tab_facts : TabFacts Try.prog tab := by
  intro p hp
  simp only [tab, List.mem_cons, List.not_mem_nil, or_false] at hp
  rcases hp with rfl | rfl | rfl | rfl | rfl | rfl | rfl | rfl | rfl | rfl | rfl
  · exact ⟨_, tab50, rfl⟩
  · exact ⟨_, tab51, rfl⟩
  · exact ⟨_, tab65, rfl⟩
  · exact ⟨_, tab66, rfl⟩
  · exact ⟨_, tab75, rfl⟩
  · exact ⟨_, tab78, ⟨_, rfl⟩⟩
  · exact ⟨_, tab79, rfl⟩
  · exact ⟨_, tab80, ⟨_, rfl⟩⟩
  · exact ⟨_, tab81, rfl⟩
  · exact ⟨_, tab83, rfl⟩
  · exact ⟨_, tab84, rfl⟩

theorem fns_ok : fns.all (fnOk Try.prog) = true := by kernel_rfl
theorem Try.own : ownKnob Try.prog.godebug = none := by kernel_rfl
theorem mixed : Try.prog.follows .mixedOrders = true := by kernel_rfl
end Go.Proofs.Ytcpiafgkmakdiaa

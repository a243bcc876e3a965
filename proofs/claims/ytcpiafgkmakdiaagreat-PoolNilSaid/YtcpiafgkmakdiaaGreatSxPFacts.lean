/-
  The program's facts: which functions have a body, which entries lack one. Conditions: none.
-/
import Derived.Test.YtcpiafgkmakdiaaGreatRows
import Derived.ChangeSame
import Derived.ChangeVars
import Derived.JoinedOf
import Derived.RowKit
import Derived.RowKitTokens
import Derived.LaidLaws
import Derived.LaidHandle
import Derived.Stop.Joined
import Derived.Test.YtcpiafgkmakdiaaGreatSxRuns
set_option maxRecDepth 100000
namespace Go.Proofs.YtcpiafgkmakdiaaGreat
open Go.ChangeShapes Go.WideShapes Go.RowKit Go.Proofs.YtcpiafgkmakdiaaGreat.SX

def X.AssignableTo : Array Value → Sem Value := Extern.ReflectliteType.relation "AssignableTo" assignableToB
def X.Comparable : Array Value → Sem Value := Extern.ReflectliteType.method fun t => do Extern.Rtype.noPackHeld "Comparable" t; pure (.bool (← typeInfo t).comparable)
def X.Elem : Array Value → Sem Value := Extern.ReflectliteType.method Extern.ReflectliteType.elem
def X.Implements : Array Value → Sem Value := Extern.ReflectliteType.relation "Implements" implementsB
def X.Kind : Array Value → Sem Value := Extern.ReflectliteType.abiMethod fun t => do pure (.int .u8 (← Extern.Rtype.kind t))
def fns : List Nat := [2, 3, 4, 5, 6, 7, 8, 9, 10, 11, 12, 13, 14, 15, 16, 17, 18, 19, 20, 21, 22, 23, 24, 25, 26, 27, 28, 29, 30, 31, 32, 33, 34, 35, 36, 37, 38, 39, 40, 41, 42, 43, 44, 45, 46, 47, 48, 49, 51, 53, 54, 55, 56, 57, 58, 59, 60, 61, 62, 63, 64, 65, 66, 67, 68, 69, 70, 71, 72, 73, 74, 75, 76, 77, 78, 80, 81, 84, 85, 86, 87, 88, 89, 90, 91, 92, 97, 100, 127]
def ext : List (FuncId × (Array Value → Sem Value)) := [(128, X.Kind), (130, X.AssignableTo), (131, X.Comparable), (132, X.Elem), (133, X.Implements)]
def tab : List (FuncId × XE) := [(50, .typeOf), (52, .st), (79, .add .i64), (82, .cas .i64), (83, .ld .i64), (93, .quiet), (94, .cas .i32), (95, .quiet), (96, .acquire), (98, .releaseMerge), (99, .add .i32), (101, .sw .i64)]
theorem ext128 : ExtFact Tryz.prog 128 X.Kind := ⟨⟨Tryz.f128, Tryz.func128, by kernel_rfl, by kernel_rfl, by kernel_rfl, by kernel_rfl⟩⟩
theorem ext130 : ExtFact Tryz.prog 130 X.AssignableTo := by
  unfold X.AssignableTo
  rw [assignableToB_eq]
  exact ⟨⟨Tryz.f130, Tryz.func130, by kernel_rfl, by kernel_rfl, by kernel_rfl, by kernel_rfl⟩⟩
theorem ext131 : ExtFact Tryz.prog 131 X.Comparable := ⟨⟨Tryz.f131, Tryz.func131, by kernel_rfl, by kernel_rfl, by kernel_rfl, by kernel_rfl⟩⟩
theorem ext132 : ExtFact Tryz.prog 132 X.Elem := ⟨⟨Tryz.f132, Tryz.func132, by kernel_rfl, by kernel_rfl, by kernel_rfl, by kernel_rfl⟩⟩
theorem ext133 : ExtFact Tryz.prog 133 X.Implements := by
  unfold X.Implements
  rw [implementsB_eq]
  exact ⟨⟨Tryz.f133, Tryz.func133, by kernel_rfl, by kernel_rfl, by kernel_rfl, by kernel_rfl⟩⟩
theorem tab50 : ExtFact Tryz.prog 50 (Extern.ReflectliteType.typeOf) := ⟨⟨Tryz.f50, Tryz.func50, by kernel_rfl, by kernel_rfl, by kernel_rfl, by kernel_rfl⟩⟩
theorem tab52 : ExtFact Tryz.prog 52 (Extern.Atomic.storeT) := ⟨⟨Tryz.f52, Tryz.func52, by kernel_rfl, by kernel_rfl, by kernel_rfl, by kernel_rfl⟩⟩
theorem tab79 : ExtFact Tryz.prog 79 (Extern.Atomic.update (Op.intArith .add) .i64 true) := ⟨⟨Tryz.f79, Tryz.func79, by kernel_rfl, by kernel_rfl, by kernel_rfl, by kernel_rfl⟩⟩
theorem tab82 : ExtFact Tryz.prog 82 (Extern.Atomic.casT (.int .i64)) := ⟨⟨Tryz.f82, Tryz.func82, by kernel_rfl, by kernel_rfl, by kernel_rfl, by kernel_rfl⟩⟩
theorem tab83 : ExtFact Tryz.prog 83 (Extern.Atomic.loadT (.int .i64)) := ⟨⟨Tryz.f83, Tryz.func83, by kernel_rfl, by kernel_rfl, by kernel_rfl, by kernel_rfl⟩⟩
theorem tab93 : ExtFact Tryz.prog 93 (fun _ => do mark .disable; pure Extern.Race.none_) := ⟨⟨Tryz.f93, Tryz.func93, by kernel_rfl, by kernel_rfl, by kernel_rfl, by kernel_rfl⟩⟩
theorem tab94 : ExtFact Tryz.prog 94 (Extern.Atomic.casT (.int .i32)) := ⟨⟨Tryz.f94, Tryz.func94, by kernel_rfl, by kernel_rfl, by kernel_rfl, by kernel_rfl⟩⟩
theorem tab95 : ExtFact Tryz.prog 95 (fun _ => do mark .enable; pure Extern.Race.none_) := ⟨⟨Tryz.f95, Tryz.func95, by kernel_rfl, by kernel_rfl, by kernel_rfl, by kernel_rfl⟩⟩
theorem tab96 : ExtFact Tryz.prog 96 (Extern.Race.marked .acquire) := ⟨⟨Tryz.f96, Tryz.func96, by kernel_rfl, by kernel_rfl, by kernel_rfl, by kernel_rfl⟩⟩
theorem tab98 : ExtFact Tryz.prog 98 (Extern.Race.marked .releaseMerge) := ⟨⟨Tryz.f98, Tryz.func98, by kernel_rfl, by kernel_rfl, by kernel_rfl, by kernel_rfl⟩⟩
theorem tab99 : ExtFact Tryz.prog 99 (Extern.Atomic.update (Op.intArith .add) .i32 true) := ⟨⟨Tryz.f99, Tryz.func99, by kernel_rfl, by kernel_rfl, by kernel_rfl, by kernel_rfl⟩⟩
theorem tab101 : ExtFact Tryz.prog 101 (Extern.Atomic.swapT (.int .i64)) := ⟨⟨Tryz.f101, Tryz.func101, by kernel_rfl, by kernel_rfl, by kernel_rfl, by kernel_rfl⟩⟩
theorem ext_facts : ∀ p ∈ ext, ExtFact Tryz.prog p.1 p.2 := by
  intro p hp
  simp only [ext, List.mem_cons, List.not_mem_nil, or_false] at hp
  rcases hp with rfl | rfl | rfl | rfl | rfl
  · exact ext128
  · exact ext130
  · exact ext131
  · exact ext132
  · exact ext133
/-- The entries that leave one hearing. -/
def tabC : List (FuncId × XE) := [(50, .typeOf), (52, .st), (79, .add .i64), (82, .cas .i64), (83, .ld .i64), (94, .cas .i32), (96, .acquire), (98, .releaseMerge), (99, .add .i32), (101, .sw .i64)]
theorem tabC_facts : TabFacts Tryz.prog tabC := by
  intro p hp
  simp only [tabC, List.mem_cons, List.not_mem_nil, or_false] at hp
  rcases hp with rfl | rfl | rfl | rfl | rfl | rfl | rfl | rfl | rfl | rfl
  · exact ⟨_, tab50, rfl⟩
  · exact ⟨_, tab52, rfl⟩
  · exact ⟨_, tab79, rfl⟩
  · exact ⟨_, tab82, rfl⟩
  · exact ⟨_, tab83, rfl⟩
  · exact ⟨_, tab94, rfl⟩
  · exact ⟨_, tab96, rfl⟩
  · exact ⟨_, tab98, rfl⟩
  · exact ⟨_, tab99, rfl⟩
  · exact ⟨_, tab101, rfl⟩
theorem tab_facts : TabFacts Tryz.prog tab := by
  intro p hp
  simp only [tab, List.mem_cons, List.not_mem_nil, or_false] at hp
  rcases hp with rfl | rfl | rfl | rfl | rfl | rfl | rfl | rfl | rfl | rfl | rfl | rfl
  · exact ⟨_, tab50, rfl⟩
  · exact ⟨_, tab52, rfl⟩
  · exact ⟨_, tab79, rfl⟩
  · exact ⟨_, tab82, rfl⟩
  · exact ⟨_, tab83, rfl⟩
  · exact ⟨_, tab93, ⟨_, rfl⟩⟩
  · exact ⟨_, tab94, rfl⟩
  · exact ⟨_, tab95, ⟨_, rfl⟩⟩
  · exact ⟨_, tab96, rfl⟩
  · exact ⟨_, tab98, rfl⟩
  · exact ⟨_, tab99, rfl⟩
  · exact ⟨_, tab101, rfl⟩

theorem fns_ok : fns.all (fnOk Tryz.prog) = true := by kernel_rfl
theorem Tryz.own : ownKnob Tryz.prog.godebug = none := by kernel_rfl
theorem mixed : Tryz.prog.follows .mixedOrders = true := by kernel_rfl
end Go.Proofs.YtcpiafgkmakdiaaGreat

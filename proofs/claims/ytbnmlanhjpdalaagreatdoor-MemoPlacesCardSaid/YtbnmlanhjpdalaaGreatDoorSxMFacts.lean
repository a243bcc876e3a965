/-
  The program's facts: which functions have a body, which entries lack one. Conditions: none.
-/
import Derived.Test.YtbnmlanhjpdalaaGreatDoorRows
import Derived.ChangeSame
import Derived.ChangeVars
import Derived.JoinedOf
import Derived.RowKit
import Derived.RowKitTokens
import Derived.LaidLaws
import Derived.LaidHandle
import Derived.Stop.Joined
import Derived.Test.YtbnmlanhjpdalaaGreatDoorSxRuns
set_option maxRecDepth 100000
namespace Go.Proofs.YtbnmlanhjpdalaaGreatDoor
open Go.ChangeShapes Go.WideShapes Go.RowKit Go.Proofs.YtbnmlanhjpdalaaGreatDoor.SX

def X.AssignableTo : Array Value → Sem Value := Extern.ReflectliteType.relation "AssignableTo" assignableToB
def X.Comparable : Array Value → Sem Value := Extern.ReflectliteType.method fun t => do Extern.Rtype.noPackHeld "Comparable" t; pure (.bool (← typeInfo t).comparable)
def X.Elem : Array Value → Sem Value := Extern.ReflectliteType.method Extern.ReflectliteType.elem
def X.Implements : Array Value → Sem Value := Extern.ReflectliteType.relation "Implements" implementsB
def X.Kind : Array Value → Sem Value := Extern.ReflectliteType.abiMethod fun t => do pure (.int .u8 (← Extern.Rtype.kind t))
def fns : List Nat := [2, 3, 4, 5, 6, 7, 8, 9, 10, 11, 12, 13, 14, 15, 16, 17, 18, 19, 20, 21, 22, 23, 24, 25, 26, 27, 28, 29, 30, 31, 32, 33, 34, 35, 36, 37, 38, 39, 40, 41, 42, 43, 44, 45, 46, 47, 48, 49, 50, 51, 52, 53, 54, 55, 56, 57, 58, 59, 60, 61, 62, 63, 64, 65, 66, 67, 68, 69, 70, 71, 72, 73, 77, 78, 79, 80, 81, 82, 89, 90, 92, 93, 96, 97, 98, 99, 100, 103, 106, 107, 108, 109, 110, 112, 113, 119, 120, 125, 126, 127, 130, 131, 132, 133, 134, 137, 139, 164, 165, 166, 167, 168, 169, 170, 171, 172, 173, 174, 175, 176, 177, 183, 184, 185, 186, 187, 188, 207]
def ext : List (FuncId × (Array Value → Sem Value)) := [(161, X.Kind), (190, X.AssignableTo), (191, X.Comparable), (192, X.Elem), (193, X.Implements)]
def tab : List (FuncId × XE) := [(74, .valueOf), (75, .vType), (76, .vIsNil), (83, .releaseMerge), (84, .quiet), (85, .quiet), (101, .acquire), (111, .st), (114, .typeOf), (115, .vElem), (116, .vSet), (117, .ld .i64), (118, .add .i64), (128, .cas .i64), (135, .sw .i64), (136, .cas .i32), (138, .add .i32)]
theorem ext161 : ExtFact Tryz.prog 161 X.Kind := ⟨⟨Tryz.f161, Tryz.func161, by kernel_rfl, by kernel_rfl, by kernel_rfl, by kernel_rfl⟩⟩
theorem ext190 : ExtFact Tryz.prog 190 X.AssignableTo := by
  unfold X.AssignableTo
  rw [assignableToB_eq]
  exact ⟨⟨Tryz.f190, Tryz.func190, by kernel_rfl, by kernel_rfl, by kernel_rfl, by kernel_rfl⟩⟩
theorem ext191 : ExtFact Tryz.prog 191 X.Comparable := ⟨⟨Tryz.f191, Tryz.func191, by kernel_rfl, by kernel_rfl, by kernel_rfl, by kernel_rfl⟩⟩
theorem ext192 : ExtFact Tryz.prog 192 X.Elem := ⟨⟨Tryz.f192, Tryz.func192, by kernel_rfl, by kernel_rfl, by kernel_rfl, by kernel_rfl⟩⟩
theorem ext193 : ExtFact Tryz.prog 193 X.Implements := by
  unfold X.Implements
  rw [implementsB_eq]
  exact ⟨⟨Tryz.f193, Tryz.func193, by kernel_rfl, by kernel_rfl, by kernel_rfl, by kernel_rfl⟩⟩
theorem tab74 : ExtFact Tryz.prog 74 (fun args => Extern.ReflectliteValue.unpack (args.getD 0 (.tuple #[]))) := ⟨⟨Tryz.f74, Tryz.func74, by kernel_rfl, by kernel_rfl, by kernel_rfl, by kernel_rfl⟩⟩
theorem tab75 : ExtFact Tryz.prog 75 (Extern.ReflectliteValue.methodAny (Extern.ReflectliteValue.valueError "reflectlite.Value.Type" 0) fun t _ _ _ => Extern.ReflectliteType.toType t) := ⟨⟨Tryz.f75, Tryz.func75, by kernel_rfl, by kernel_rfl, by kernel_rfl, by kernel_rfl⟩⟩
theorem tab76 : ExtFact Tryz.prog 76 (Extern.ReflectliteValue.method (Extern.ReflectliteValue.valueError "reflectlite.Value.IsNil" 0) Extern.ReflectliteValue.isNil) := ⟨⟨Tryz.f76, Tryz.func76, by kernel_rfl, by kernel_rfl, by kernel_rfl, by kernel_rfl⟩⟩
theorem tab83 : ExtFact Tryz.prog 83 (Extern.Race.marked .releaseMerge) := ⟨⟨Tryz.f83, Tryz.func83, by kernel_rfl, by kernel_rfl, by kernel_rfl, by kernel_rfl⟩⟩
theorem tab84 : ExtFact Tryz.prog 84 (fun _ => do mark .disable; pure Extern.Race.none_) := ⟨⟨Tryz.f84, Tryz.func84, by kernel_rfl, by kernel_rfl, by kernel_rfl, by kernel_rfl⟩⟩
theorem tab85 : ExtFact Tryz.prog 85 (fun _ => do mark .enable; pure Extern.Race.none_) := ⟨⟨Tryz.f85, Tryz.func85, by kernel_rfl, by kernel_rfl, by kernel_rfl, by kernel_rfl⟩⟩
theorem tab101 : ExtFact Tryz.prog 101 (Extern.Race.marked .acquire) := ⟨⟨Tryz.f101, Tryz.func101, by kernel_rfl, by kernel_rfl, by kernel_rfl, by kernel_rfl⟩⟩
theorem tab111 : ExtFact Tryz.prog 111 (Extern.Atomic.storeT) := ⟨⟨Tryz.f111, Tryz.func111, by kernel_rfl, by kernel_rfl, by kernel_rfl, by kernel_rfl⟩⟩
theorem tab114 : ExtFact Tryz.prog 114 (Extern.ReflectliteType.typeOf) := ⟨⟨Tryz.f114, Tryz.func114, by kernel_rfl, by kernel_rfl, by kernel_rfl, by kernel_rfl⟩⟩
theorem tab115 : ExtFact Tryz.prog 115 (Extern.ReflectliteValue.method (Extern.ReflectliteValue.valueError "reflectlite.Value.Elem" 0) Extern.ReflectliteValue.elem) := ⟨⟨Tryz.f115, Tryz.func115, by kernel_rfl, by kernel_rfl, by kernel_rfl, by kernel_rfl⟩⟩
theorem tab116 : ExtFact Tryz.prog 116 (Extern.ReflectliteValue.set) := ⟨⟨Tryz.f116, Tryz.func116, by kernel_rfl, by kernel_rfl, by kernel_rfl, by kernel_rfl⟩⟩
theorem tab117 : ExtFact Tryz.prog 117 (Extern.Atomic.loadT (.int .i64)) := ⟨⟨Tryz.f117, Tryz.func117, by kernel_rfl, by kernel_rfl, by kernel_rfl, by kernel_rfl⟩⟩
theorem tab118 : ExtFact Tryz.prog 118 (Extern.Atomic.update (Op.intArith .add) .i64 true) := ⟨⟨Tryz.f118, Tryz.func118, by kernel_rfl, by kernel_rfl, by kernel_rfl, by kernel_rfl⟩⟩
theorem tab128 : ExtFact Tryz.prog 128 (Extern.Atomic.casT (.int .i64)) := ⟨⟨Tryz.f128, Tryz.func128, by kernel_rfl, by kernel_rfl, by kernel_rfl, by kernel_rfl⟩⟩
theorem tab135 : ExtFact Tryz.prog 135 (Extern.Atomic.swapT (.int .i64)) := ⟨⟨Tryz.f135, Tryz.func135, by kernel_rfl, by kernel_rfl, by kernel_rfl, by kernel_rfl⟩⟩
theorem tab136 : ExtFact Tryz.prog 136 (Extern.Atomic.casT (.int .i32)) := ⟨⟨Tryz.f136, Tryz.func136, by kernel_rfl, by kernel_rfl, by kernel_rfl, by kernel_rfl⟩⟩
theorem tab138 : ExtFact Tryz.prog 138 (Extern.Atomic.update (Op.intArith .add) .i32 true) := ⟨⟨Tryz.f138, Tryz.func138, by kernel_rfl, by kernel_rfl, by kernel_rfl, by kernel_rfl⟩⟩
theorem ext_facts : ∀ p ∈ ext, ExtFact Tryz.prog p.1 p.2 := by
  intro p hp
  simp only [ext, List.mem_cons, List.not_mem_nil, or_false] at hp
  rcases hp with rfl | rfl | rfl | rfl | rfl
  · exact ext161
  · exact ext190
  · exact ext191
  · exact ext192
  · exact ext193
/-- The entries that leave one hearing. -/
def tabC : List (FuncId × XE) := [(74, .valueOf), (75, .vType), (76, .vIsNil), (83, .releaseMerge), (101, .acquire), (111, .st), (114, .typeOf), (115, .vElem), (116, .vSet), (117, .ld .i64), (118, .add .i64), (128, .cas .i64), (135, .sw .i64), (136, .cas .i32), (138, .add .i32)]
theorem tabC_facts : TabFacts Tryz.prog tabC := by
  intro p hp
  simp only [tabC, List.mem_cons, List.not_mem_nil, or_false] at hp
  rcases hp with rfl | rfl | rfl | rfl | rfl | rfl | rfl | rfl | rfl | rfl | rfl | rfl | rfl | rfl | rfl
  · exact ⟨_, tab74, rfl⟩
  · exact ⟨_, tab75, ⟨_, rfl⟩⟩
  · exact ⟨_, tab76, ⟨_, rfl⟩⟩
  · exact ⟨_, tab83, rfl⟩
  · exact ⟨_, tab101, rfl⟩
  · exact ⟨_, tab111, rfl⟩
  · exact ⟨_, tab114, rfl⟩
  · exact ⟨_, tab115, ⟨_, rfl⟩⟩
  · exact ⟨_, tab116, rfl⟩
  · exact ⟨_, tab117, rfl⟩
  · exact ⟨_, tab118, rfl⟩
  · exact ⟨_, tab128, rfl⟩
  · exact ⟨_, tab135, rfl⟩
  · exact ⟨_, tab136, rfl⟩
  · exact ⟨_, tab138, rfl⟩
theorem tab_facts : TabFacts Tryz.prog tab := by
  intro p hp
  simp only [tab, List.mem_cons, List.not_mem_nil, or_false] at hp
  rcases hp with rfl | rfl | rfl | rfl | rfl | rfl | rfl | rfl | rfl | rfl | rfl | rfl | rfl | rfl | rfl | rfl | rfl
  · exact ⟨_, tab74, rfl⟩
  · exact ⟨_, tab75, ⟨_, rfl⟩⟩
  · exact ⟨_, tab76, ⟨_, rfl⟩⟩
  · exact ⟨_, tab83, rfl⟩
  · exact ⟨_, tab84, ⟨_, rfl⟩⟩
  · exact ⟨_, tab85, ⟨_, rfl⟩⟩
  · exact ⟨_, tab101, rfl⟩
  · exact ⟨_, tab111, rfl⟩
  · exact ⟨_, tab114, rfl⟩
  · exact ⟨_, tab115, ⟨_, rfl⟩⟩
  · exact ⟨_, tab116, rfl⟩
  · exact ⟨_, tab117, rfl⟩
  · exact ⟨_, tab118, rfl⟩
  · exact ⟨_, tab128, rfl⟩
  · exact ⟨_, tab135, rfl⟩
  · exact ⟨_, tab136, rfl⟩
  · exact ⟨_, tab138, rfl⟩

theorem fns_ok : fns.all (fnOk Tryz.prog) = true := by kernel_rfl
theorem Tryz.own : ownKnob Tryz.prog.godebug = none := by kernel_rfl
theorem mixed : Tryz.prog.follows .mixedOrders = true := by kernel_rfl
end Go.Proofs.YtbnmlanhjpdalaaGreatDoor

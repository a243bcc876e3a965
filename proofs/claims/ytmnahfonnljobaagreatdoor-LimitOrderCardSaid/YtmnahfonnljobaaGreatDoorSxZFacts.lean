/-
  The program's facts: which functions have a body, which entries lack one. Conditions: none.
-/
import Derived.Test.YtmnahfonnljobaaGreatDoorRows
import Derived.ChangeSame
import Derived.ChangeVars
import Derived.JoinedOf
import Derived.RowKit
import Derived.RowKitTokens
import Derived.LaidLaws
import Derived.LaidHandle
import Derived.Stop.Joined
import Derived.Test.YtmnahfonnljobaaGreatDoorSxRuns
set_option maxRecDepth 100000
namespace Go.Proofs.YtmnahfonnljobaaGreatDoor
open Go.ChangeShapes Go.WideShapes Go.RowKit Go.Proofs.YtmnahfonnljobaaGreatDoor.SX

def X.AssignableTo : Array Value → Sem Value := Extern.ReflectliteType.relation "AssignableTo" assignableToB
def X.Comparable : Array Value → Sem Value := Extern.ReflectliteType.method fun t => do Extern.Rtype.noPackHeld "Comparable" t; pure (.bool (← typeInfo t).comparable)
def X.Elem : Array Value → Sem Value := Extern.ReflectliteType.method Extern.ReflectliteType.elem
def X.Implements : Array Value → Sem Value := Extern.ReflectliteType.relation "Implements" implementsB
def X.Kind : Array Value → Sem Value := Extern.ReflectliteType.abiMethod fun t => do pure (.int .u8 (← Extern.Rtype.kind t))
def fns : List Nat := [2, 3, 4, 5, 6, 7, 8, 9, 10, 11, 12, 13, 14, 15, 16, 17, 18, 19, 20, 21, 22, 23, 24, 25, 26, 27, 28, 29, 30, 31, 32, 33, 34, 35, 36, 37, 38, 39, 40, 41, 42, 43, 44, 45, 46, 47, 48, 49, 50, 51, 52, 53, 54, 55, 56, 57, 58, 59, 60, 61, 62, 63, 64, 65, 66, 67, 68, 69, 70, 71, 72, 73, 74, 75, 76, 77, 78, 79, 80, 81, 82, 83, 84, 85, 86, 87, 88, 89, 93, 94, 95, 96, 97, 98, 99, 100, 101, 102, 103, 104, 105, 106, 108, 109, 110, 114, 117, 118, 119, 120, 122, 123, 124, 125, 126, 132, 135, 163, 165, 171, 173, 191]
def ext : List (FuncId × (Array Value → Sem Value)) := [(157, X.Kind), (175, X.AssignableTo), (176, X.Comparable), (177, X.Elem), (178, X.Implements)]
def tab : List (FuncId × XE) := [(90, .valueOf), (91, .vType), (92, .vIsNil), (107, .st), (111, .typeOf), (112, .vElem), (113, .vSet), (115, .ld .i64), (116, .add .i64), (121, .cas .i64), (127, .sw .i64), (128, .quiet), (129, .cas .i32), (130, .quiet), (131, .acquire), (133, .releaseMerge), (134, .add .i32)]
theorem ext157 : ExtFact Tryz.prog 157 X.Kind := ⟨⟨Tryz.f157, Tryz.func157, by kernel_rfl, by kernel_rfl, by kernel_rfl, by kernel_rfl⟩⟩
theorem ext175 : ExtFact Tryz.prog 175 X.AssignableTo := by
  unfold X.AssignableTo
  rw [assignableToB_eq]
  exact ⟨⟨Tryz.f175, Tryz.func175, by kernel_rfl, by kernel_rfl, by kernel_rfl, by kernel_rfl⟩⟩
theorem ext176 : ExtFact Tryz.prog 176 X.Comparable := ⟨⟨Tryz.f176, Tryz.func176, by kernel_rfl, by kernel_rfl, by kernel_rfl, by kernel_rfl⟩⟩
theorem ext177 : ExtFact Tryz.prog 177 X.Elem := ⟨⟨Tryz.f177, Tryz.func177, by kernel_rfl, by kernel_rfl, by kernel_rfl, by kernel_rfl⟩⟩
theorem ext178 : ExtFact Tryz.prog 178 X.Implements := by
  unfold X.Implements
  rw [implementsB_eq]
  exact ⟨⟨Tryz.f178, Tryz.func178, by kernel_rfl, by kernel_rfl, by kernel_rfl, by kernel_rfl⟩⟩
theorem tab90 : ExtFact Tryz.prog 90 (fun args => Extern.ReflectliteValue.unpack (args.getD 0 (.tuple #[]))) := ⟨⟨Tryz.f90, Tryz.func90, by kernel_rfl, by kernel_rfl, by kernel_rfl, by kernel_rfl⟩⟩
theorem tab91 : ExtFact Tryz.prog 91 (Extern.ReflectliteValue.methodAny (Extern.ReflectliteValue.valueError "reflectlite.Value.Type" 0) fun t _ _ _ => Extern.ReflectliteType.toType t) := ⟨⟨Tryz.f91, Tryz.func91, by kernel_rfl, by kernel_rfl, by kernel_rfl, by kernel_rfl⟩⟩
theorem tab92 : ExtFact Tryz.prog 92 (Extern.ReflectliteValue.method (Extern.ReflectliteValue.valueError "reflectlite.Value.IsNil" 0) Extern.ReflectliteValue.isNil) := ⟨⟨Tryz.f92, Tryz.func92, by kernel_rfl, by kernel_rfl, by kernel_rfl, by kernel_rfl⟩⟩
theorem tab107 : ExtFact Tryz.prog 107 (Extern.Atomic.storeT) := ⟨⟨Tryz.f107, Tryz.func107, by kernel_rfl, by kernel_rfl, by kernel_rfl, by kernel_rfl⟩⟩
theorem tab111 : ExtFact Tryz.prog 111 (Extern.ReflectliteType.typeOf) := ⟨⟨Tryz.f111, Tryz.func111, by kernel_rfl, by kernel_rfl, by kernel_rfl, by kernel_rfl⟩⟩
theorem tab112 : ExtFact Tryz.prog 112 (Extern.ReflectliteValue.method (Extern.ReflectliteValue.valueError "reflectlite.Value.Elem" 0) Extern.ReflectliteValue.elem) := ⟨⟨Tryz.f112, Tryz.func112, by kernel_rfl, by kernel_rfl, by kernel_rfl, by kernel_rfl⟩⟩
theorem tab113 : ExtFact Tryz.prog 113 (Extern.ReflectliteValue.set) := ⟨⟨Tryz.f113, Tryz.func113, by kernel_rfl, by kernel_rfl, by kernel_rfl, by kernel_rfl⟩⟩
theorem tab115 : ExtFact Tryz.prog 115 (Extern.Atomic.loadT (.int .i64)) := ⟨⟨Tryz.f115, Tryz.func115, by kernel_rfl, by kernel_rfl, by kernel_rfl, by kernel_rfl⟩⟩
theorem tab116 : ExtFact Tryz.prog 116 (Extern.Atomic.update (Op.intArith .add) .i64 true) := ⟨⟨Tryz.f116, Tryz.func116, by kernel_rfl, by kernel_rfl, by kernel_rfl, by kernel_rfl⟩⟩
theorem tab121 : ExtFact Tryz.prog 121 (Extern.Atomic.casT (.int .i64)) := ⟨⟨Tryz.f121, Tryz.func121, by kernel_rfl, by kernel_rfl, by kernel_rfl, by kernel_rfl⟩⟩
theorem tab127 : ExtFact Tryz.prog 127 (Extern.Atomic.swapT (.int .i64)) := ⟨⟨Tryz.f127, Tryz.func127, by kernel_rfl, by kernel_rfl, by kernel_rfl, by kernel_rfl⟩⟩
theorem tab128 : ExtFact Tryz.prog 128 (fun _ => do mark .disable; pure Extern.Race.none_) := ⟨⟨Tryz.f128, Tryz.func128, by kernel_rfl, by kernel_rfl, by kernel_rfl, by kernel_rfl⟩⟩
theorem tab129 : ExtFact Tryz.prog 129 (Extern.Atomic.casT (.int .i32)) := ⟨⟨Tryz.f129, Tryz.func129, by kernel_rfl, by kernel_rfl, by kernel_rfl, by kernel_rfl⟩⟩
theorem tab130 : ExtFact Tryz.prog 130 (fun _ => do mark .enable; pure Extern.Race.none_) := ⟨⟨Tryz.f130, Tryz.func130, by kernel_rfl, by kernel_rfl, by kernel_rfl, by kernel_rfl⟩⟩
theorem tab131 : ExtFact Tryz.prog 131 (Extern.Race.marked .acquire) := ⟨⟨Tryz.f131, Tryz.func131, by kernel_rfl, by kernel_rfl, by kernel_rfl, by kernel_rfl⟩⟩
theorem tab133 : ExtFact Tryz.prog 133 (Extern.Race.marked .releaseMerge) := ⟨⟨Tryz.f133, Tryz.func133, by kernel_rfl, by kernel_rfl, by kernel_rfl, by kernel_rfl⟩⟩
theorem tab134 : ExtFact Tryz.prog 134 (Extern.Atomic.update (Op.intArith .add) .i32 true) := ⟨⟨Tryz.f134, Tryz.func134, by kernel_rfl, by kernel_rfl, by kernel_rfl, by kernel_rfl⟩⟩
theorem ext_facts : ∀ p ∈ ext, ExtFact Tryz.prog p.1 p.2 := by
  intro p hp
  simp only [ext, List.mem_cons, List.not_mem_nil, or_false] at hp
  rcases hp with rfl | rfl | rfl | rfl | rfl
  · exact ext157
  · exact ext175
  · exact ext176
  · exact ext177
  · exact ext178
theorem tab_facts : TabFacts Tryz.prog tab := by
  intro p hp
  simp only [tab, List.mem_cons, List.not_mem_nil, or_false] at hp
  rcases hp with rfl | rfl | rfl | rfl | rfl | rfl | rfl | rfl | rfl | rfl | rfl | rfl | rfl | rfl | rfl | rfl | rfl
  · exact ⟨_, tab90, rfl⟩
  · exact ⟨_, tab91, ⟨_, rfl⟩⟩
  · exact ⟨_, tab92, ⟨_, rfl⟩⟩
  · exact ⟨_, tab107, rfl⟩
  · exact ⟨_, tab111, rfl⟩
  · exact ⟨_, tab112, ⟨_, rfl⟩⟩
  · exact ⟨_, tab113, rfl⟩
  · exact ⟨_, tab115, rfl⟩
  · exact ⟨_, tab116, rfl⟩
  · exact ⟨_, tab121, rfl⟩
  · exact ⟨_, tab127, rfl⟩
  · exact ⟨_, tab128, ⟨_, rfl⟩⟩
  · exact ⟨_, tab129, rfl⟩
  · exact ⟨_, tab130, ⟨_, rfl⟩⟩
  · exact ⟨_, tab131, rfl⟩
  · exact ⟨_, tab133, rfl⟩
  · exact ⟨_, tab134, rfl⟩

theorem fns_ok : fns.all (fnOk Tryz.prog) = true := by kernel_rfl
theorem mixed : Tryz.prog.follows .mixedOrders = true := by kernel_rfl
end Go.Proofs.YtmnahfonnljobaaGreatDoor

/-
  A symbolic run of the model, proved sound: a text of its parts. Conditions: none.
-/
import Derived.Test.YtmnahfonnljobaaDoorRows
import Derived.ChangeSame
import Derived.ChangeVars
import Derived.JoinedOf
import Derived.RowKit
import Derived.RowKitTokens
import Derived.LaidLaws
import Derived.LaidHandle
import Derived.Stop.Joined
import Derived.Test.YtmnahfonnljobaaDoorSxLone
import Derived.Test.YtmnahfonnljobaaDoorSxExtS2
set_option maxRecDepth 100000
namespace Go.Proofs.YtmnahfonnljobaaDoor
open Go.ChangeShapes Go.WideShapes Go.RowKit Go.Proofs.YtmnahfonnljobaaDoor.SX

def X.Kind : Array Value → Sem Value := Extern.ReflectliteType.abiMethod fun t => do pure (.int .u8 (← Extern.Rtype.kind t))
def X.AssignableTo : Array Value → Sem Value := Extern.ReflectliteType.relation "AssignableTo" assignableToB
def X.Comparable : Array Value → Sem Value := Extern.ReflectliteType.method fun t => do Extern.Rtype.noPackHeld "Comparable" t; pure (.bool (← typeInfo t).comparable)
def X.Elem : Array Value → Sem Value := Extern.ReflectliteType.method Extern.ReflectliteType.elem
def X.Implements : Array Value → Sem Value := Extern.ReflectliteType.relation "Implements" implementsB
def fns : List Nat := [2, 3, 4, 5, 6, 7, 8, 9, 10, 11, 12, 13, 14, 15, 16, 17, 18, 19, 20, 21, 22, 23, 24, 25, 26, 27, 28, 29, 30, 31, 32, 33, 34, 35, 36, 37, 38, 39, 40, 41, 42, 43, 44, 45, 46, 47, 48, 49, 50, 51, 52, 53, 54, 55, 56, 57, 58, 59, 63, 64, 65, 66, 67, 68, 69, 71, 72, 78, 79, 81, 82, 88, 91, 119, 125, 131, 147]
def ext : List (FuncId × (Array Value → Sem Value)) := [(113, X.Kind), (133, X.AssignableTo), (134, X.Comparable), (135, X.Elem), (136, X.Implements)]
def tab : List (FuncId × XE) := [(60, .valueOf), (61, .vType), (62, .vIsNil), (70, .ld .i64), (73, .cas .i64), (74, .st), (75, .typeOf), (76, .vElem), (77, .vSet), (80, .add .i64), (83, .sw .i64), (84, .quiet), (85, .cas .i32), (86, .quiet), (87, .acquire), (89, .releaseMerge), (90, .add .i32)]
theorem ext113 : ExtFact Tryd.prog 113 X.Kind := ⟨⟨Tryd.f113, Tryd.func113, by kernel_rfl, by kernel_rfl, by kernel_rfl, by kernel_rfl⟩⟩
theorem ext133 : ExtFact Tryd.prog 133 X.AssignableTo := by
  unfold X.AssignableTo
  rw [assignableToB_eq]
  exact ⟨⟨Tryd.f133, Tryd.func133, by kernel_rfl, by kernel_rfl, by kernel_rfl, by kernel_rfl⟩⟩
theorem ext134 : ExtFact Tryd.prog 134 X.Comparable := ⟨⟨Tryd.f134, Tryd.func134, by kernel_rfl, by kernel_rfl, by kernel_rfl, by kernel_rfl⟩⟩
theorem ext135 : ExtFact Tryd.prog 135 X.Elem := ⟨⟨Tryd.f135, Tryd.func135, by kernel_rfl, by kernel_rfl, by kernel_rfl, by kernel_rfl⟩⟩
theorem ext136 : ExtFact Tryd.prog 136 X.Implements := by
  unfold X.Implements
  rw [implementsB_eq]
  exact ⟨⟨Tryd.f136, Tryd.func136, by kernel_rfl, by kernel_rfl, by kernel_rfl, by kernel_rfl⟩⟩
theorem tab60 : ExtFact Tryd.prog 60 (fun args => Extern.ReflectliteValue.unpack (args.getD 0 (.tuple #[]))) := ⟨⟨Tryd.f60, Tryd.func60, by kernel_rfl, by kernel_rfl, by kernel_rfl, by kernel_rfl⟩⟩
theorem tab61 : ExtFact Tryd.prog 61 (Extern.ReflectliteValue.methodAny (Extern.ReflectliteValue.valueError "reflectlite.Value.Type" 0) fun t _ _ _ => Extern.ReflectliteType.toType t) := ⟨⟨Tryd.f61, Tryd.func61, by kernel_rfl, by kernel_rfl, by kernel_rfl, by kernel_rfl⟩⟩
theorem tab62 : ExtFact Tryd.prog 62 (Extern.ReflectliteValue.method (Extern.ReflectliteValue.valueError "reflectlite.Value.IsNil" 0) Extern.ReflectliteValue.isNil) := ⟨⟨Tryd.f62, Tryd.func62, by kernel_rfl, by kernel_rfl, by kernel_rfl, by kernel_rfl⟩⟩
theorem tab70 : ExtFact Tryd.prog 70 (Extern.Atomic.loadT (.int .i64)) := ⟨⟨Tryd.f70, Tryd.func70, by kernel_rfl, by kernel_rfl, by kernel_rfl, by kernel_rfl⟩⟩
theorem tab73 : ExtFact Tryd.prog 73 (Extern.Atomic.casT (.int .i64)) := ⟨⟨Tryd.f73, Tryd.func73, by kernel_rfl, by kernel_rfl, by kernel_rfl, by kernel_rfl⟩⟩
theorem tab74 : ExtFact Tryd.prog 74 (Extern.Atomic.storeT) := ⟨⟨Tryd.f74, Tryd.func74, by kernel_rfl, by kernel_rfl, by kernel_rfl, by kernel_rfl⟩⟩
theorem tab75 : ExtFact Tryd.prog 75 (Extern.ReflectliteType.typeOf) := ⟨⟨Tryd.f75, Tryd.func75, by kernel_rfl, by kernel_rfl, by kernel_rfl, by kernel_rfl⟩⟩
theorem tab76 : ExtFact Tryd.prog 76 (Extern.ReflectliteValue.method (Extern.ReflectliteValue.valueError "reflectlite.Value.Elem" 0) Extern.ReflectliteValue.elem) := ⟨⟨Tryd.f76, Tryd.func76, by kernel_rfl, by kernel_rfl, by kernel_rfl, by kernel_rfl⟩⟩
theorem tab77 : ExtFact Tryd.prog 77 (Extern.ReflectliteValue.set) := ⟨⟨Tryd.f77, Tryd.func77, by kernel_rfl, by kernel_rfl, by kernel_rfl, by kernel_rfl⟩⟩
theorem tab80 : ExtFact Tryd.prog 80 (Extern.Atomic.update (Op.intArith .add) .i64 true) := ⟨⟨Tryd.f80, Tryd.func80, by kernel_rfl, by kernel_rfl, by kernel_rfl, by kernel_rfl⟩⟩
theorem tab83 : ExtFact Tryd.prog 83 (Extern.Atomic.swapT (.int .i64)) := ⟨⟨Tryd.f83, Tryd.func83, by kernel_rfl, by kernel_rfl, by kernel_rfl, by kernel_rfl⟩⟩
theorem tab84 : ExtFact Tryd.prog 84 (fun _ => do mark .disable; pure Extern.Race.none_) := ⟨⟨Tryd.f84, Tryd.func84, by kernel_rfl, by kernel_rfl, by kernel_rfl, by kernel_rfl⟩⟩
theorem tab85 : ExtFact Tryd.prog 85 (Extern.Atomic.casT (.int .i32)) := ⟨⟨Tryd.f85, Tryd.func85, by kernel_rfl, by kernel_rfl, by kernel_rfl, by kernel_rfl⟩⟩
theorem tab86 : ExtFact Tryd.prog 86 (fun _ => do mark .enable; pure Extern.Race.none_) := ⟨⟨Tryd.f86, Tryd.func86, by kernel_rfl, by kernel_rfl, by kernel_rfl, by kernel_rfl⟩⟩
theorem tab87 : ExtFact Tryd.prog 87 (Extern.Race.marked .acquire) := ⟨⟨Tryd.f87, Tryd.func87, by kernel_rfl, by kernel_rfl, by kernel_rfl, by kernel_rfl⟩⟩
theorem tab89 : ExtFact Tryd.prog 89 (Extern.Race.marked .releaseMerge) := ⟨⟨Tryd.f89, Tryd.func89, by kernel_rfl, by kernel_rfl, by kernel_rfl, by kernel_rfl⟩⟩
theorem tab90 : ExtFact Tryd.prog 90 (Extern.Atomic.update (Op.intArith .add) .i32 true) := ⟨⟨Tryd.f90, Tryd.func90, by kernel_rfl, by kernel_rfl, by kernel_rfl, by kernel_rfl⟩⟩
theorem ext_facts : ∀ p ∈ ext, ExtFact Tryd.prog p.1 p.2 := by
  intro p hp
  simp only [ext, List.mem_cons, List.not_mem_nil, or_false] at hp
  rcases hp with rfl | rfl | rfl | rfl | rfl
  · exact ext113
  · exact ext133
  · exact ext134
  · exact ext135
  · exact ext136
theorem tab_facts : TabFacts Tryd.prog tab := by
  intro p hp
  simp only [tab, List.mem_cons, List.not_mem_nil, or_false] at hp
  rcases hp with rfl | rfl | rfl | rfl | rfl | rfl | rfl | rfl | rfl | rfl | rfl | rfl | rfl | rfl | rfl | rfl | rfl
  · exact ⟨_, tab60, rfl⟩
  · exact ⟨_, tab61, ⟨_, rfl⟩⟩
  · exact ⟨_, tab62, ⟨_, rfl⟩⟩
  · exact ⟨_, tab70, rfl⟩
  · exact ⟨_, tab73, rfl⟩
  · exact ⟨_, tab74, rfl⟩
  · exact ⟨_, tab75, rfl⟩
  · exact ⟨_, tab76, ⟨_, rfl⟩⟩
  · exact ⟨_, tab77, rfl⟩
  · exact ⟨_, tab80, rfl⟩
  · exact ⟨_, tab83, rfl⟩
  · exact ⟨_, tab84, ⟨_, rfl⟩⟩
  · exact ⟨_, tab85, rfl⟩
  · exact ⟨_, tab86, ⟨_, rfl⟩⟩
  · exact ⟨_, tab87, rfl⟩
  · exact ⟨_, tab89, rfl⟩
  · exact ⟨_, tab90, rfl⟩

theorem fns_ok : fns.all (fnOk Tryd.prog) = true := by kernel_rfl
theorem mixed : Tryd.prog.follows .mixedOrders = true := by kernel_rfl
end Go.Proofs.YtmnahfonnljobaaDoor

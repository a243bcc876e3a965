/-
  A symbolic run of the model, proved sound: a text of its parts. Conditions: none.
-/
import GoSem.Step
namespace Go.Proofs.YtmnahfonnljobaaGreatDoor.SX
def lacks (want : Array (String × TypeId)) (got : Array Method) : Bool := want.toList.any fun x => !got.any fun m => m.name == x.1 && m.sig == x.2

theorem least_some {l : List String} (h : l ≠ []) : ∃ s, Instr.least l = some s := by
  cases l with
  | nil => exact absurd rfl h
  | cons s r => exact ⟨_, rfl⟩

theorem missing_none {want : Array (String × TypeId)} {got : Array Method} (h : lacks want got = false) : Instr.missingMethod want got = none := by
  have : want.toList.filter (fun (x : String × TypeId) => !got.any fun m => m.name == x.1 && m.sig == x.2) = [] := by
    apply List.filter_eq_nil_iff.2
    intro x hx
    have := List.any_eq_false.1 h x hx
    exact this
  unfold Instr.missingMethod
  simp only [this]
  rfl

theorem part_some {miss : List String} (p : String → Bool) (f : String → String) (hmne : miss ≠ []) : ∃ m, (match miss.partition p with | (unexported, exported) => (Instr.least exported <|> Instr.least (unexported.map f))) = some m := by
  rw [List.partition_eq_filter_filter]
  dsimp only
  by_cases hx : miss.filter (not ∘ p) = []
  · rw [hx]
    have : miss.filter p ≠ [] := by
      intro hy
      obtain ⟨s, hs⟩ := List.exists_mem_of_ne_nil _ hmne
      have a := List.filter_eq_nil_iff.1 hx s hs
      have b := List.filter_eq_nil_iff.1 hy s hs
      simp at a b
      simp [b] at a
    obtain ⟨m, h2⟩ := least_some (l := (miss.filter p).map f) (by simpa using this)
    exact ⟨m, by rw [h2]; rfl⟩
  · obtain ⟨m, h2⟩ := least_some hx
    exact ⟨m, by rw [h2]; rfl⟩

theorem missing_some {want : Array (String × TypeId)} {got : Array Method} (h : lacks want got = true) : ∃ m, Instr.missingMethod want got = some m := by
  have hne : want.toList.filter (fun (x : String × TypeId) => !got.any fun m => m.name == x.1 && m.sig == x.2) ≠ [] := by
    obtain ⟨x, hx, hp⟩ := List.any_eq_true.1 h
    intro he
    have := List.filter_eq_nil_iff.1 he x hx
    exact this hp
  unfold Instr.missingMethod
  generalize hm : (want.toList.filter (fun (x : String × TypeId) => !got.any fun m => m.name == x.1 && m.sig == x.2)).map (·.1) = miss
  have hmne : miss ≠ [] := by rw [← hm]; simpa using hne
  exact part_some _ _ hmne

theorem missing_lacks (want : Array (String × TypeId)) (got : Array Method) : (Instr.missingMethod want got).isNone = !lacks want got := by
  cases h : lacks want got with
  | false => rw [missing_none h]; rfl
  | true => obtain ⟨m, hm⟩ := missing_some h; rw [hm]; rfl

def implementsA (T V : TypeId) : Sem Bool := do
  Extern.Rtype.noPackMethods "a method set held against an interface's list" V
  Extern.Rtype.noPackMethods "a method set held against an interface's list" T
  match (← Extern.Rtype.under T).2.desc, (← Extern.Rtype.under V).2.desc with
  | .interface want, .interface got => pure (want.all got.contains)
  | .interface want, _ => pure (!lacks want (← typeInfo V).methods)
  | _, _ => pure false

theorem implementsA_eq : implementsA = Extern.Rtype.implements := by
  funext T V
  unfold implementsA Extern.Rtype.implements
  simp only [missing_lacks]
  rfl

def implementsB (u t : TypeId) : Sem Bool := do
  if (← Extern.Rtype.kind u) != 20 then panicString "reflect: non-interface type passed to Type.Implements"
  Extern.Rtype.noPackMethods "Implements" t; Extern.Rtype.noPack "Implements" u
  implementsA u t
theorem implementsB_eq : implementsB = Extern.ReflectliteType.implements_ := by
  funext u t
  unfold implementsB Extern.ReflectliteType.implements_
  rw [implementsA_eq]

def assignableToB (u t : TypeId) : Sem Bool := do
  if u != t then Extern.Rtype.noPackMethods "AssignableTo" t; Extern.Rtype.noPackMethods "AssignableTo" u
  pure ((← Extern.Rtype.directlyAssignable u t) || (← implementsA u t))
theorem assignableToB_eq : assignableToB = Extern.ReflectliteType.assignableTo := by
  funext u t
  unfold assignableToB Extern.ReflectliteType.assignableTo
  rw [implementsA_eq]
end Go.Proofs.YtmnahfonnljobaaGreatDoor.SX

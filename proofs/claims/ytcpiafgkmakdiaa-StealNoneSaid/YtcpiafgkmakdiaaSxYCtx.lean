/-
  A crew's context over the seat's program; from a crew's run to one good run. Conditions: none.
-/
import Derived.Test.YtcpiafgkmakdiaaSxYFacts
import Derived.Test.YtcpiafgkmakdiaaSxCrews
set_option maxRecDepth 100000
set_option linter.unusedVariables false
namespace Go.Proofs.Ytcpiafgkmakdiaa
open Go.Proofs.Ytcpiafgkmakdiaa.SX Go.Conc

def offs : List (FuncId × Bool) := [(78, true), (80, false)]
noncomputable def OB (bs : List (BE × Bool)) (is : List (IE × IE)) : Orc := { bs := bs, is := is, fns := fns, ext := ext, offs := offs }
def h0 : AH := ⟨[], 100, 5192296858534827628530496329220096⟩
noncomputable abbrev EX (bs : List (BE × Bool)) (is : List (IE × IE)) : Ext := ext? Try.prog (OB bs is) tabC

theorem tabC_quiet : ∀ p ∈ tabC, p.2 ≠ .quiet := by
  intro p hp
  simp only [tabC, List.mem_cons, List.not_mem_nil, or_false] at hp
  rcases hp with rfl | rfl | rfl | rfl | rfl | rfl | rfl | rfl | rfl <;> intro e <;> cases e

theorem offs_facts : ∀ p ∈ offs, ExtFact Try.prog p.1 (fun _ => do mark (match p.2 with | true => .disable | false => .enable); pure Extern.Race.none_) := by
  intro p hp
  simp only [offs, List.mem_cons, List.not_mem_nil, or_false] at hp
  rcases hp with rfl | rfl
  · exact tab78
  · exact tab80

theorem sound (bs : List (BE × Bool)) (is : List (IE × IE)) : CrewSound Try.prog (OB bs is) (EX bs is) noSums :=
  ⟨fun _ _ _ _ => ⟨fns_ok, ext_facts, mixed⟩, fun _ _ _ _ G => ext_ok G (.inr tabC_quiet) tabC_facts, offs_facts, fun _ _ _ _ _ _ => noSums_ok⟩

theorem kept {W W' : World} {may : MemPlace → Prop} (h : Keeps (fun n => W.heap.size ≤ n) W W') : W.keptBut W' may := by
  refine ⟨h.os, h.output, fun i hi => ?_⟩
  have e := h.heap i (Nat.not_le.2 hi)
  rw [e]
  split
  · rename_i e1 e2
    cases e1.symm.trans e2
    exact ⟨rfl, rfl, rfl, fun _ _ => rfl⟩
  · rename_i e1 e2
    cases e1.symm.trans e2
    exact .inr ⟨rfl, rfl⟩
  · rfl

noncomputable def env (l : List Int) (vs : List Value) : Env := { i := fun n => l.getD (n - 1) 0, p := fun _ => false, v := fun n => vs.getD (n - 1) undef, b := fun _ => 0 }

theorem relB {bs : List (BE × Bool)} {is : List (IE × IE)} {W : World} (ρ : Env) (hbs : ∀ p ∈ bs, p.1.ev ρ = p.2) (his : ∀ p ∈ is, p.1.ev ρ = p.2.ev ρ) : Rel (CK Try.prog (OB bs is) W.heap.size [] ρ) ρ h0 W := by
  refine ⟨(fun i b hb => by cases hb), (fun i b hb => by cases hb), (fun i j b c hb => by cases hb), hbs, his, (fun p hp => by cases hp), (fun n hn => ⟨hn, fun ⟨s, hs, _⟩ => by cases hs⟩), (fun i b hb => by cases hb), fun b n h => ?_⟩
  rcases h with ⟨s, hs, _⟩ | ⟨_, s, hs, _⟩ <;> cases hs

abbrev Low (n : Nat) : Prop := n < 100
theorem idsB {bs : List (BE × Bool)} {is : List (IE × IE)} (W : World) (ρ : Env) (hbs : ∀ p ∈ bs, p.1.In Low) (his : ∀ p ∈ is, p.1.In Low ∧ p.2.In Low) : Ids (CK Try.prog (OB bs is) W.heap.size [] ρ) Low h0 :=
  ⟨(fun i b hb => by cases hb), (fun i hi => by cases hi), List.nodup_nil, (fun n hn _ h => by have : 100 ≤ n := hn; have h' : n < 100 := h; omega), hbs, his, fun p hp => by cases hp⟩

/-- A crew that comes, piece by piece, to 'true': one good run. -/
theorem good_run {bs : List (BE × Bool)} {is : List (IE × IE)} {f : FuncId} {args : List AV} {fr : AFrame} (hen : enterA Try.prog f args .normal = .ok fr) (hr : CRuns Try.prog (OB bs is) (EX bs is) noSums ⟨0, ⟨fr, [], h0⟩, [], 1, 0⟩) (W : World) (ρ : Env)
    (ha : AV.Ins Low args) (b1 : ∀ p ∈ bs, p.1.In Low) (i1 : ∀ p ∈ is, p.1.In Low ∧ p.2.In Low) (b2 : ∀ p ∈ bs, p.1.ev ρ = p.2) (i2 : ∀ p ∈ is, p.1.ev ρ = p.2.ev ρ) :
    ∃ M last o w' t', runNT Try.prog (M + 1) (solo (G (Frame.enter Try.prog f (AV.evs ρ args).toArray .normal) []) W) #[] = (.ended o w', t') ∧ runN Try.prog M (solo (G (Frame.enter Try.prog f (AV.evs ρ args).toArray .normal) []) W) = .next last ∧
      step Try.prog last = .ended o w' ∧ Conc.Good Try.prog (fun v W' => v = .bool true ∧ Keeps (fun n => W.heap.size ≤ n) W W') last o w' t' :=
  crew_run (sound bs is) hen hr (idsB W ρ b1 i1) ha (relB ρ b2 i2) (fun p hp => by cases hp)
end Go.Proofs.Ytcpiafgkmakdiaa

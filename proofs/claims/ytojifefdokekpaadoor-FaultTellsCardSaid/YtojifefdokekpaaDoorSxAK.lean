/-
  FaultTells' tied card holds: whatever error is described, whatever number the law is handed, it answers true; the arguments read as they did. Conditions: the laid variables read as the program's text lays them (the card ties them); no other.
-/
import Derived.Test.YtojifefdokekpaaDoorSxAJ
import Derived.Lib.LaidTab
import Derived.Lib.LaidU8
import Derived.ProofKit
import Derived.ChangeSlices
import Derived.Deep.Slices
import Derived.WideKeyArgs
import Derived.Test.YtojifefdokekpaaDoorCards
import Derived.Test.YtojifefdokekpaaDoorTie
import Derived.SevenTiedAt
set_option maxRecDepth 100000
set_option linter.unusedVariables false
set_option linter.unusedSimpArgs false
namespace Go.Proofs.YtojifefdokekpaaDoor
open Go.Proofs.YtojifefdokekpaaDoor.SX Go.Conc
def r9N (i : Nat) : Nat := i + 56
def r9V (u s s' : Value) (kd : Nat) (n : Int) (L : List Int) (i : Nat) (v : Value) (w : World) : Prop := match i with
  | 0 => v = u
  | 1 => ∃ s2, v = errV kd n s2 ∧ NumsNe w s2 L
  | 2 => v = errV kd n s'
  | 3 => v = .bool true
  | 6 => v = u
  | 7 => v = .bool (!(kd == 0))
  | 8 => v = .bool (!(kd == 0))
  | 9 => kd ≠ 0 → v = u
  | 10 => kd ≠ 0 → v = tV (txt L kd n)
  | 11 => kd ≠ 0 → v = errV kd n s'
  | 12 => kd ≠ 0 → v = tV (txt L kd n)
  | 13 => kd ≠ 0 → v = .bool false
  | 17 => v = u
  | 18 => v = iV (clsOf kd n)
  | 19 => v = errV kd n s
  | 20 => v = iV (clsOf kd n)
  | 24 => v = u
  | 25 => NumsNe w v (numsOf L kd n)
  | 26 => v = errV kd n s'
  | 27 => NumsNe w v (numsOf L kd n)
  | 28 => v = .bool true
  | _ => v = .bool false
theorem r9V_keep {u s s' : Value} {kd : Nat} {n : Int} {L : List Int} (i : Nat) (v : Value) (w w' : World) (h : r9V u s s' kd n L i v w) (f : Fresh w w') : r9V u s s' kd n L i v w' := by
  unfold r9V at h ⊢
  split at h
  all_goals first | exact h | exact NumsNe.keep h f | (obtain ⟨s2, h1, h2⟩ := h; exact ⟨s2, h1, NumsNe.keep h2 f⟩)
theorem r9B_ne {u : Value} {X Y : Nat} (i : Nat) (hi : i < 31) (x : Nat × Value) (hx : x ∈ r9B u X Y) : x.1 ≠ r9N i := by
  simp only [r9B, List.mem_cons, List.not_mem_nil, or_false] at hx
  rcases hx with rfl | rfl | rfl <;> (show _ ≠ i + 56; first | omega | simp)
theorem r9N_inj {i j : Nat} (hi : i < 31) (hj : j < 31) (h : r9N i = r9N j) : i = j := Nat.add_right_cancel h
section
variable {w0 w : World} {cs : List Frame} {fr : Frame} {u s s' : Value} {kd X Y i : Nat} {n : Int} {L : List Int} {ls : List Nat} {k : List Item} {lv : List (Nat × Value)}
noncomputable def r9E (u s' : Value) (kd X Y : Nat) (n : Int) (L : List Int) : Env := Go.Proofs.YtojifefdokekpaaDoor.SX.mkS [(5, clsOf kd n)] [(61, X), (62, Y)] [(50, u), (40, iV kd), (41, iV n), (42, s')] [(1, ⟨(txt L kd n).toArray⟩)]
theorem errX_ok (H : R9 w0 u s s' kd X Y n L) (f : Fresh w0 w) : ∀ p ∈ errM, w.cell? (p.1.ev (r9E u s kd X Y n L)) = some (p.2.ev (r9E u s kd X Y n L)) := by
  intro p hp
  simp only [errM, List.mem_cons, List.not_mem_nil, or_false] at hp
  rcases hp with rfl | rfl | rfl
  · exact f.cell H.c0
  · exact f.cell H.c1
  · exact f.cell H.c2
theorem errN_ok (H : R9 w0 u s s' kd X Y n L) (f : Fresh w0 w) : ∀ p ∈ errN, w.cell? (p.1.ev (r9E u s' kd X Y n L)) = some (p.2.ev (r9E u s' kd X Y n L)) := by
  intro p hp
  simp only [errN, List.mem_cons, List.not_mem_nil, or_false] at hp
  rcases hp with rfl | rfl | rfl
  · exact f.cell H.y0
  · exact f.cell H.y1
  · exact f.cell H.y2
theorem r9s_0 (H : R9 w0 u s s' kd X Y n L) (f : Fresh w0 w) (hf : FA 3 164 (.inRegion r9O (0 :: ls) :: k) [] .normal lv fr) (hb : ∀ x ∈ r9B u X Y, x ∈ lv) (hp : ∀ p ∈ preN r9O 0, ∃ v, (r9N p, v) ∈ lv ∧ r9V u s s' kd n L p v w) :
    Goes (G fr cs) w fun g' w' => ∃ fr' v, g' = G fr' cs ∧ Fresh w w' ∧ r9V u s s' kd n L 0 v w' ∧ FA 3 164 (.inRegion r9O ls :: k) [] .normal (lvPut (r9N 0) v lv) fr' := by
  have m2 : (2, ptrV X) ∈ lv := hb _ (List.mem_of_getElem? (i := 0) rfl)
  have m6 : (6, u) ∈ lv := hb _ (List.mem_of_getElem? (i := 1) rfl)
  have m7 : (7, ptrV Y) ∈ lv := hb _ (List.mem_of_getElem? (i := 2) rfl)
  refine (r9_0.go (ρ := r9E u s' kd X Y n L) hf (by decide) (fun q hq => ?_) (fun q hq => by cases hq) (fun q hq => by cases hq)).mono fun g' w' hd => ?_
  · simp only [told, List.map_cons, List.map_nil, List.mem_cons, List.not_mem_nil, or_false] at hq
    rcases hq with rfl
    · exact m6
  · obtain ⟨fr', u', h1, h2, h3, h4⟩ := hd
    exact ⟨fr', u', h1, h2, h3, h4⟩
theorem r9s_1 (H : R9 w0 u s s' kd X Y n L) (f : Fresh w0 w) (hf : FA 3 164 (.inRegion r9O (1 :: ls) :: k) [] .normal lv fr) (hb : ∀ x ∈ r9B u X Y, x ∈ lv) (hp : ∀ p ∈ preN r9O 1, ∃ v, (r9N p, v) ∈ lv ∧ r9V u s s' kd n L p v w) :
    Goes (G fr cs) w fun g' w' => ∃ fr' v, g' = G fr' cs ∧ Fresh w w' ∧ r9V u s s' kd n L 1 v w' ∧ FA 3 164 (.inRegion r9O ls :: k) [] .normal (lvPut (r9N 1) v lv) fr' := by
  have m2 : (2, ptrV X) ∈ lv := hb _ (List.mem_of_getElem? (i := 0) rfl)
  have m6 : (6, u) ∈ lv := hb _ (List.mem_of_getElem? (i := 1) rfl)
  have m7 : (7, ptrV Y) ∈ lv := hb _ (List.mem_of_getElem? (i := 2) rfl)
  obtain ⟨v0, q0, e0⟩ := hp 0 (pin (by kernel_rfl))
  have q0 : (56, v0) ∈ lv := q0
  have e0 : v0 = u := e0
  rw [e0] at q0
  refine (r9_1.go (ρ := mkE [] [] [(50, u)]) (Q := fun v w' => r9V u s s' kd n L 1 v w') hf (by decide) (fun q hq => ?_) (fun w' f1 => ?_))
  · simp only [told, List.map_cons, List.map_nil, List.mem_cons, List.not_mem_nil, or_false] at hq
    rcases hq with rfl
    · exact q0
  · exact ((told14_all (H.err.keep (f.trans f1)) H.kn (by have := H.len; omega)).mono fun v w2 hd => ⟨hd.1, by obtain ⟨s2, h1, h2⟩ := hd.2; exact ⟨s2, h1, h2.ne⟩⟩)
theorem r9s_2 (H : R9 w0 u s s' kd X Y n L) (f : Fresh w0 w) (hf : FA 3 164 (.inRegion r9O (2 :: ls) :: k) [] .normal lv fr) (hb : ∀ x ∈ r9B u X Y, x ∈ lv) (hp : ∀ p ∈ preN r9O 2, ∃ v, (r9N p, v) ∈ lv ∧ r9V u s s' kd n L p v w) :
    Goes (G fr cs) w fun g' w' => ∃ fr' v, g' = G fr' cs ∧ Fresh w w' ∧ r9V u s s' kd n L 2 v w' ∧ FA 3 164 (.inRegion r9O ls :: k) [] .normal (lvPut (r9N 2) v lv) fr' := by
  have m2 : (2, ptrV X) ∈ lv := hb _ (List.mem_of_getElem? (i := 0) rfl)
  have m6 : (6, u) ∈ lv := hb _ (List.mem_of_getElem? (i := 1) rfl)
  have m7 : (7, ptrV Y) ∈ lv := hb _ (List.mem_of_getElem? (i := 2) rfl)
  refine (r9_2.go (ρ := r9E u s' kd X Y n L) hf (by decide) (fun q hq => ?_) (fun q hq => by cases hq) (errN_ok H f)).mono fun g' w' hd => ?_
  · simp only [told, List.map_cons, List.map_nil, List.mem_cons, List.not_mem_nil, or_false] at hq
    rcases hq with rfl
    · exact m7
  · obtain ⟨fr', u', h1, h2, h3, h4⟩ := hd
    exact ⟨fr', u', h1, h2, h3, h4⟩
theorem r9s_3 (H : R9 w0 u s s' kd X Y n L) (f : Fresh w0 w) (hf : FA 3 164 (.inRegion r9O (3 :: ls) :: k) [] .normal lv fr) (hb : ∀ x ∈ r9B u X Y, x ∈ lv) (hp : ∀ p ∈ preN r9O 3, ∃ v, (r9N p, v) ∈ lv ∧ r9V u s s' kd n L p v w) :
    Goes (G fr cs) w fun g' w' => ∃ fr' v, g' = G fr' cs ∧ Fresh w w' ∧ r9V u s s' kd n L 3 v w' ∧ FA 3 164 (.inRegion r9O ls :: k) [] .normal (lvPut (r9N 3) v lv) fr' := by
  have m2 : (2, ptrV X) ∈ lv := hb _ (List.mem_of_getElem? (i := 0) rfl)
  have m6 : (6, u) ∈ lv := hb _ (List.mem_of_getElem? (i := 1) rfl)
  have m7 : (7, ptrV Y) ∈ lv := hb _ (List.mem_of_getElem? (i := 2) rfl)
  obtain ⟨v1, q1, e1⟩ := hp 1 (pin (by kernel_rfl))
  have q1 : (57, v1) ∈ lv := q1
  obtain ⟨v2, q2, e2⟩ := hp 2 (pin (by kernel_rfl))
  have q2 : (58, v2) ∈ lv := q2
  have e2 : v2 = errV kd n s' := e2
  subst e2
  obtain ⟨s2, e1, hs2⟩ : ∃ s2, v1 = errV kd n s2 ∧ NumsNe w s2 L := e1
  subst e1
  refine (r9_3.go (ρ := mkE [] [] [(50, errV kd n s2), (51, errV kd n s')]) (Q := fun v w' => r9V u s s' kd n L 3 v w') hf (by decide) (fun q hq => ?_) (fun w' f1 => ?_))
  · simp only [told, List.map_cons, List.map_nil, List.mem_cons, List.not_mem_nil, or_false] at hq
    rcases hq with rfl | rfl
    · exact q1
    · exact q2
  · exact (same13_all (NumsNe.keep hs2 f1) (NumsNe.keep H.ne (f.trans f1)) (by have := H.len; omega))
theorem r9s_4 (H : R9 w0 u s s' kd X Y n L) (f : Fresh w0 w) (hf : FA 3 164 (.inRegion r9O (4 :: ls) :: k) [] .normal lv fr) (hb : ∀ x ∈ r9B u X Y, x ∈ lv) (hp : ∀ p ∈ preN r9O 4, ∃ v, (r9N p, v) ∈ lv ∧ r9V u s s' kd n L p v w) :
    Goes (G fr cs) w fun g' w' => ∃ fr' v, g' = G fr' cs ∧ Fresh w w' ∧ r9V u s s' kd n L 4 v w' ∧ FA 3 164 (.inRegion r9O ls :: k) [] .normal (lvPut (r9N 4) v lv) fr' := by
  have m2 : (2, ptrV X) ∈ lv := hb _ (List.mem_of_getElem? (i := 0) rfl)
  have m6 : (6, u) ∈ lv := hb _ (List.mem_of_getElem? (i := 1) rfl)
  have m7 : (7, ptrV Y) ∈ lv := hb _ (List.mem_of_getElem? (i := 2) rfl)
  obtain ⟨v3, q3, e3⟩ := hp 3 (pin (by kernel_rfl))
  have q3 : (59, v3) ∈ lv := q3
  have e3 : v3 = Value.bool true := e3
  subst e3
  refine (r9_4.go (ρ := r9E u s' kd X Y n L) hf (by decide) (fun q hq => ?_) (fun q hq => by cases hq) (fun q hq => by cases hq)).mono fun g' w' hd => ?_
  · simp only [told, List.map_cons, List.map_nil, List.mem_cons, List.not_mem_nil, or_false] at hq
    rcases hq with rfl
    · exact q3
  · obtain ⟨fr', u', h1, h2, h3, h4⟩ := hd
    exact ⟨fr', u', h1, h2, h3, h4⟩
theorem r9s_5 (H : R9 w0 u s s' kd X Y n L) (f : Fresh w0 w) (hf : FA 3 164 (.inRegion r9O (5 :: ls) :: k) [] .normal lv fr) (hb : ∀ x ∈ r9B u X Y, x ∈ lv) (hp : ∀ p ∈ preN r9O 5, ∃ v, (r9N p, v) ∈ lv ∧ r9V u s s' kd n L p v w) :
    Goes (G fr cs) w fun g' w' => ∃ fr' v, g' = G fr' cs ∧ Fresh w w' ∧ r9V u s s' kd n L 5 v w' ∧ FA 3 164 (.inRegion r9O ls :: k) [] .normal (lvPut (r9N 5) v lv) fr' := by
  have m2 : (2, ptrV X) ∈ lv := hb _ (List.mem_of_getElem? (i := 0) rfl)
  have m6 : (6, u) ∈ lv := hb _ (List.mem_of_getElem? (i := 1) rfl)
  have m7 : (7, ptrV Y) ∈ lv := hb _ (List.mem_of_getElem? (i := 2) rfl)
  obtain ⟨v4, q4, e4⟩ := hp 4 (pin (by kernel_rfl))
  have q4 : (60, v4) ∈ lv := q4
  have e4 : v4 = Value.bool false := e4
  subst e4
  refine (r9_5.go (ρ := r9E u s' kd X Y n L) hf (by decide) (fun q hq => ?_) (fun q hq => by cases hq) (fun q hq => by cases hq)).mono fun g' w' hd => ?_
  · simp only [told, List.map_cons, List.map_nil, List.mem_cons, List.not_mem_nil, or_false] at hq
    rcases hq with rfl
    · exact q4
  · obtain ⟨fr', u', h1, h2, h3, h4⟩ := hd
    exact ⟨fr', u', h1, h2, h3, h4⟩
theorem r9s_6 (H : R9 w0 u s s' kd X Y n L) (f : Fresh w0 w) (hf : FA 3 164 (.inRegion r9O (6 :: ls) :: k) [] .normal lv fr) (hb : ∀ x ∈ r9B u X Y, x ∈ lv) (hp : ∀ p ∈ preN r9O 6, ∃ v, (r9N p, v) ∈ lv ∧ r9V u s s' kd n L p v w) :
    Goes (G fr cs) w fun g' w' => ∃ fr' v, g' = G fr' cs ∧ Fresh w w' ∧ r9V u s s' kd n L 6 v w' ∧ FA 3 164 (.inRegion r9O ls :: k) [] .normal (lvPut (r9N 6) v lv) fr' := by
  have m2 : (2, ptrV X) ∈ lv := hb _ (List.mem_of_getElem? (i := 0) rfl)
  have m6 : (6, u) ∈ lv := hb _ (List.mem_of_getElem? (i := 1) rfl)
  have m7 : (7, ptrV Y) ∈ lv := hb _ (List.mem_of_getElem? (i := 2) rfl)
  obtain ⟨v5, q5, e5⟩ := hp 5 (pin (by kernel_rfl))
  have q5 : (61, v5) ∈ lv := q5
  have e5 : v5 = Value.bool false := e5
  subst e5
  refine (r9_6.go (ρ := r9E u s' kd X Y n L) hf (by decide) (fun q hq => ?_) (fun q hq => by cases hq) (fun q hq => by cases hq)).mono fun g' w' hd => ?_
  · simp only [told, List.map_cons, List.map_nil, List.mem_cons, List.not_mem_nil, or_false] at hq
    rcases hq with rfl | rfl
    · exact q5
    · exact m6
  · obtain ⟨fr', u', h1, h2, h3, h4⟩ := hd
    exact ⟨fr', u', h1, h2, h3, h4⟩
theorem r9s_7 (H : R9 w0 u s s' kd X Y n L) (f : Fresh w0 w) (hf : FA 3 164 (.inRegion r9O (7 :: ls) :: k) [] .normal lv fr) (hb : ∀ x ∈ r9B u X Y, x ∈ lv) (hp : ∀ p ∈ preN r9O 7, ∃ v, (r9N p, v) ∈ lv ∧ r9V u s s' kd n L p v w) :
    Goes (G fr cs) w fun g' w' => ∃ fr' v, g' = G fr' cs ∧ Fresh w w' ∧ r9V u s s' kd n L 7 v w' ∧ FA 3 164 (.inRegion r9O ls :: k) [] .normal (lvPut (r9N 7) v lv) fr' := by
  have m2 : (2, ptrV X) ∈ lv := hb _ (List.mem_of_getElem? (i := 0) rfl)
  have m6 : (6, u) ∈ lv := hb _ (List.mem_of_getElem? (i := 1) rfl)
  have m7 : (7, ptrV Y) ∈ lv := hb _ (List.mem_of_getElem? (i := 2) rfl)
  obtain ⟨v5, q5, e5⟩ := hp 5 (pin (by kernel_rfl))
  have q5 : (61, v5) ∈ lv := q5
  have e5 : v5 = Value.bool false := e5
  subst e5
  obtain ⟨v6, q6, e6⟩ := hp 6 (pin (by kernel_rfl))
  have q6 : (62, v6) ∈ lv := q6
  have e6 : v6 = u := e6
  rw [e6] at q6
  by_cases h0 : kd = 0
  · subst h0
    obtain ⟨rfl, _⟩ := H.err.nil_is
    refine (r9_7n.go (ρ := r9E .nilIface s' 0 X Y n L) hf (by decide) (fun q hq => ?_) (fun q hq => by cases hq) (fun q hq => by cases hq)).mono fun g' w' hd => ?_
    · simp only [told, List.map_cons, List.map_nil, List.mem_cons, List.not_mem_nil, or_false] at hq
      rcases hq with rfl | rfl
      · exact q5
      · exact q6
    · obtain ⟨fr', u', h1, h2, h3, h4⟩ := hd
      exact ⟨fr', u', h1, h2, h3, h4⟩
  · obtain ⟨t, p, rfl⟩ := H.err.is h0
    refine ((r9_7t t).go (ρ := mkE [] [] [(50, p)]) hf (by decide) (fun q hq => ?_) (fun q hq => by cases hq) (fun q hq => by cases hq)).mono fun g' w' hd => ?_
    · simp only [told, List.map_cons, List.map_nil, List.mem_cons, List.not_mem_nil, or_false] at hq
      rcases hq with rfl | rfl
      · exact q5
      · exact q6
    · obtain ⟨fr', u', h1, h2, h3, h4⟩ := hd
      exact ⟨fr', u', h1, h2, by rw [h3]; show Value.bool true = .bool (!(kd == 0)); simp [h0], h4⟩
theorem r9s_8 (H : R9 w0 u s s' kd X Y n L) (f : Fresh w0 w) (hf : FA 3 164 (.inRegion r9O (8 :: ls) :: k) [] .normal lv fr) (hb : ∀ x ∈ r9B u X Y, x ∈ lv) (hp : ∀ p ∈ preN r9O 8, ∃ v, (r9N p, v) ∈ lv ∧ r9V u s s' kd n L p v w) :
    Goes (G fr cs) w fun g' w' => ∃ fr' v, g' = G fr' cs ∧ Fresh w w' ∧ r9V u s s' kd n L 8 v w' ∧ FA 3 164 (.inRegion r9O ls :: k) [] .normal (lvPut (r9N 8) v lv) fr' := by
  have m2 : (2, ptrV X) ∈ lv := hb _ (List.mem_of_getElem? (i := 0) rfl)
  have m6 : (6, u) ∈ lv := hb _ (List.mem_of_getElem? (i := 1) rfl)
  have m7 : (7, ptrV Y) ∈ lv := hb _ (List.mem_of_getElem? (i := 2) rfl)
  obtain ⟨v5, q5, e5⟩ := hp 5 (pin (by kernel_rfl))
  have q5 : (61, v5) ∈ lv := q5
  have e5 : v5 = Value.bool false := e5
  subst e5
  obtain ⟨v7, q7, e7⟩ := hp 7 (pin (by kernel_rfl))
  have q7 : (63, v7) ∈ lv := q7
  have e7 : v7 = Value.bool (!(kd == 0)) := e7
  subst e7
  by_cases h0 : kd = 0
  · subst h0
    refine (r9_8n.go (ρ := r9E u s' 0 X Y n L) hf (by decide) (fun q hq => ?_) (fun q hq => by cases hq) (fun q hq => by cases hq)).mono fun g' w' hd => ?_
    · simp only [told, List.map_cons, List.map_nil, List.mem_cons, List.not_mem_nil, or_false] at hq
      rcases hq with rfl | rfl
      · exact q5
      · exact q7
    · obtain ⟨fr', u', h1, h2, h3, h4⟩ := hd
      exact ⟨fr', u', h1, h2, h3, h4⟩
  · have hk : (!(kd == 0)) = true := by simp [h0]
    rw [hk] at q7
    refine (r9_8t.go (ρ := r9E u s' kd X Y n L) hf (by decide) (fun q hq => ?_) (fun q hq => by cases hq) (fun q hq => by cases hq)).mono fun g' w' hd => ?_
    · simp only [told, List.map_cons, List.map_nil, List.mem_cons, List.not_mem_nil, or_false] at hq
      rcases hq with rfl | rfl
      · exact q5
      · exact q7
    · obtain ⟨fr', u', h1, h2, h3, h4⟩ := hd
      exact ⟨fr', u', h1, h2, by rw [h3]; show Value.bool true = .bool (!(kd == 0)); rw [hk], h4⟩
theorem r9s_9 (H : R9 w0 u s s' kd X Y n L) (f : Fresh w0 w) (hf : FA 3 164 (.inRegion r9O (9 :: ls) :: k) [] .normal lv fr) (hb : ∀ x ∈ r9B u X Y, x ∈ lv) (hp : ∀ p ∈ preN r9O 9, ∃ v, (r9N p, v) ∈ lv ∧ r9V u s s' kd n L p v w) :
    Goes (G fr cs) w fun g' w' => ∃ fr' v, g' = G fr' cs ∧ Fresh w w' ∧ r9V u s s' kd n L 9 v w' ∧ FA 3 164 (.inRegion r9O ls :: k) [] .normal (lvPut (r9N 9) v lv) fr' := by
  have m2 : (2, ptrV X) ∈ lv := hb _ (List.mem_of_getElem? (i := 0) rfl)
  have m6 : (6, u) ∈ lv := hb _ (List.mem_of_getElem? (i := 1) rfl)
  have m7 : (7, ptrV Y) ∈ lv := hb _ (List.mem_of_getElem? (i := 2) rfl)
  obtain ⟨v8, q8, e8⟩ := hp 8 (pin (by kernel_rfl))
  have q8 : (64, v8) ∈ lv := q8
  have e8 : v8 = Value.bool (!(kd == 0)) := e8
  subst e8
  by_cases h0 : kd = 0
  · subst h0
    refine (r9_9s.go (ρ := r9E u s' 0 X Y n L) hf (by decide) (fun q hq => ?_) ).mono fun g' w' hd => ?_
    · simp only [told, List.map_cons, List.map_nil, List.mem_cons, List.not_mem_nil, or_false] at hq
      rcases hq with rfl
      · exact q8
    · obtain ⟨fr', u', h1, h2, h3, h4⟩ := hd
      exact ⟨fr', u', h1, h2, fun h => (h rfl).elim, h4⟩
  · have hk : (!(kd == 0)) = true := by simp [h0]
    rw [hk] at q8
    refine (r9_9.go (ρ := r9E u s' kd X Y n L) hf (by decide) (fun q hq => ?_) (fun q hq => by cases hq) (fun q hq => by cases hq)).mono fun g' w' hd => ?_
    · simp only [told, List.map_cons, List.map_nil, List.mem_cons, List.not_mem_nil, or_false] at hq
      rcases hq with rfl | rfl
      · exact q8
      · exact m6
    · obtain ⟨fr', u', h1, h2, h3, h4⟩ := hd
      exact ⟨fr', u', h1, h2, fun _ => h3, h4⟩
theorem r9s_11 (H : R9 w0 u s s' kd X Y n L) (f : Fresh w0 w) (hf : FA 3 164 (.inRegion r9O (11 :: ls) :: k) [] .normal lv fr) (hb : ∀ x ∈ r9B u X Y, x ∈ lv) (hp : ∀ p ∈ preN r9O 11, ∃ v, (r9N p, v) ∈ lv ∧ r9V u s s' kd n L p v w) :
    Goes (G fr cs) w fun g' w' => ∃ fr' v, g' = G fr' cs ∧ Fresh w w' ∧ r9V u s s' kd n L 11 v w' ∧ FA 3 164 (.inRegion r9O ls :: k) [] .normal (lvPut (r9N 11) v lv) fr' := by
  have m2 : (2, ptrV X) ∈ lv := hb _ (List.mem_of_getElem? (i := 0) rfl)
  have m6 : (6, u) ∈ lv := hb _ (List.mem_of_getElem? (i := 1) rfl)
  have m7 : (7, ptrV Y) ∈ lv := hb _ (List.mem_of_getElem? (i := 2) rfl)
  obtain ⟨v8, q8, e8⟩ := hp 8 (pin (by kernel_rfl))
  have q8 : (64, v8) ∈ lv := q8
  have e8 : v8 = Value.bool (!(kd == 0)) := e8
  subst e8
  by_cases h0 : kd = 0
  · subst h0
    refine (r9_11s.go (ρ := r9E u s' 0 X Y n L) hf (by decide) (fun q hq => ?_) ).mono fun g' w' hd => ?_
    · simp only [told, List.map_cons, List.map_nil, List.mem_cons, List.not_mem_nil, or_false] at hq
      rcases hq with rfl
      · exact q8
    · obtain ⟨fr', u', h1, h2, h3, h4⟩ := hd
      exact ⟨fr', u', h1, h2, fun h => (h rfl).elim, h4⟩
  · have hk : (!(kd == 0)) = true := by simp [h0]
    rw [hk] at q8
    refine (r9_11.go (ρ := r9E u s' kd X Y n L) hf (by decide) (fun q hq => ?_) (fun q hq => by cases hq) (errN_ok H f)).mono fun g' w' hd => ?_
    · simp only [told, List.map_cons, List.map_nil, List.mem_cons, List.not_mem_nil, or_false] at hq
      rcases hq with rfl | rfl
      · exact q8
      · exact m7
    · obtain ⟨fr', u', h1, h2, h3, h4⟩ := hd
      exact ⟨fr', u', h1, h2, fun _ => h3, h4⟩
theorem r9s_10 (H : R9 w0 u s s' kd X Y n L) (f : Fresh w0 w) (hf : FA 3 164 (.inRegion r9O (10 :: ls) :: k) [] .normal lv fr) (hb : ∀ x ∈ r9B u X Y, x ∈ lv) (hp : ∀ p ∈ preN r9O 10, ∃ v, (r9N p, v) ∈ lv ∧ r9V u s s' kd n L p v w) :
    Goes (G fr cs) w fun g' w' => ∃ fr' v, g' = G fr' cs ∧ Fresh w w' ∧ r9V u s s' kd n L 10 v w' ∧ FA 3 164 (.inRegion r9O ls :: k) [] .normal (lvPut (r9N 10) v lv) fr' := by
  have m2 : (2, ptrV X) ∈ lv := hb _ (List.mem_of_getElem? (i := 0) rfl)
  have m6 : (6, u) ∈ lv := hb _ (List.mem_of_getElem? (i := 1) rfl)
  have m7 : (7, ptrV Y) ∈ lv := hb _ (List.mem_of_getElem? (i := 2) rfl)
  obtain ⟨v8, q8, e8⟩ := hp 8 (pin (by kernel_rfl))
  have q8 : (64, v8) ∈ lv := q8
  have e8 : v8 = Value.bool (!(kd == 0)) := e8
  subst e8
  obtain ⟨v9, q9, e9⟩ := hp 9 (pin (by kernel_rfl))
  have q9 : (65, v9) ∈ lv := q9
  by_cases h0 : kd = 0
  · subst h0
    refine (r9_10s.go (ρ := r9E u s' 0 X Y n L) hf (by decide) (fun q hq => ?_) ).mono fun g' w' hd => ?_
    · simp only [told, List.map_cons, List.map_nil, List.mem_cons, List.not_mem_nil, or_false] at hq
      rcases hq with rfl
      · exact q8
    · obtain ⟨fr', u', h1, h2, h3, h4⟩ := hd
      exact ⟨fr', u', h1, h2, fun h => (h rfl).elim, h4⟩
  · have hk : (!(kd == 0)) = true := by simp [h0]
    rw [hk] at q8
    have e9 : v9 = u := (show kd ≠ 0 → v9 = u from e9) h0
    rw [e9] at q9
    obtain ⟨t, p, he, hT, tell⟩ := err_all H.err h0 H.lI H.nI (by have := H.len; omega)
    rw [he] at q9
    refine ((r9_10 hT).go (ρ := mkE [] [] [(50, p)]) (Q := fun v w' => r9V u s s' kd n L 10 v w') hf (by decide) (fun q hq => ?_) (fun w' f1 => (tell w' (f.trans f1) (H.tab.keep (f.trans f1))).mono fun v w2 hd => ⟨hd.1, fun _ => hd.2⟩))
    · simp only [told, List.map_cons, List.map_nil, List.mem_cons, List.not_mem_nil, or_false] at hq
      rcases hq with rfl | rfl
      · exact q8
      · exact q9
theorem r9s_12 (H : R9 w0 u s s' kd X Y n L) (f : Fresh w0 w) (hf : FA 3 164 (.inRegion r9O (12 :: ls) :: k) [] .normal lv fr) (hb : ∀ x ∈ r9B u X Y, x ∈ lv) (hp : ∀ p ∈ preN r9O 12, ∃ v, (r9N p, v) ∈ lv ∧ r9V u s s' kd n L p v w) :
    Goes (G fr cs) w fun g' w' => ∃ fr' v, g' = G fr' cs ∧ Fresh w w' ∧ r9V u s s' kd n L 12 v w' ∧ FA 3 164 (.inRegion r9O ls :: k) [] .normal (lvPut (r9N 12) v lv) fr' := by
  have m2 : (2, ptrV X) ∈ lv := hb _ (List.mem_of_getElem? (i := 0) rfl)
  have m6 : (6, u) ∈ lv := hb _ (List.mem_of_getElem? (i := 1) rfl)
  have m7 : (7, ptrV Y) ∈ lv := hb _ (List.mem_of_getElem? (i := 2) rfl)
  obtain ⟨v8, q8, e8⟩ := hp 8 (pin (by kernel_rfl))
  have q8 : (64, v8) ∈ lv := q8
  have e8 : v8 = Value.bool (!(kd == 0)) := e8
  subst e8
  obtain ⟨v11, q11, e11⟩ := hp 11 (pin (by kernel_rfl))
  have q11 : (67, v11) ∈ lv := q11
  by_cases h0 : kd = 0
  · subst h0
    refine (r9_12s.go (ρ := r9E u s' 0 X Y n L) hf (by decide) (fun q hq => ?_) ).mono fun g' w' hd => ?_
    · simp only [told, List.map_cons, List.map_nil, List.mem_cons, List.not_mem_nil, or_false] at hq
      rcases hq with rfl
      · exact q8
    · obtain ⟨fr', u', h1, h2, h3, h4⟩ := hd
      exact ⟨fr', u', h1, h2, fun h => (h rfl).elim, h4⟩
  · have hk : (!(kd == 0)) = true := by simp [h0]
    rw [hk] at q8
    have e11 : v11 = errV kd n s' := (show kd ≠ 0 → v11 = errV kd n s' from e11) h0
    rw [e11] at q11
    refine (r9_12.go (ρ := mkE [] [] [(50, errV kd n s')]) (Q := fun v w' => r9V u s s' kd n L 12 v w') hf (by decide) (fun q hq => ?_) (fun w' f1 => (text_all ⟨by omega, H.err.lt⟩ (H.nums.keep (f.trans f1)) H.lI H.nI (by have := H.len; omega) (H.tab.keep (f.trans f1))).mono fun v w2 hd => ⟨hd.1, fun _ => hd.2⟩))
    · simp only [told, List.map_cons, List.map_nil, List.mem_cons, List.not_mem_nil, or_false] at hq
      rcases hq with rfl | rfl
      · exact q8
      · exact q11
theorem r9s_13 (H : R9 w0 u s s' kd X Y n L) (f : Fresh w0 w) (hf : FA 3 164 (.inRegion r9O (13 :: ls) :: k) [] .normal lv fr) (hb : ∀ x ∈ r9B u X Y, x ∈ lv) (hp : ∀ p ∈ preN r9O 13, ∃ v, (r9N p, v) ∈ lv ∧ r9V u s s' kd n L p v w) :
    Goes (G fr cs) w fun g' w' => ∃ fr' v, g' = G fr' cs ∧ Fresh w w' ∧ r9V u s s' kd n L 13 v w' ∧ FA 3 164 (.inRegion r9O ls :: k) [] .normal (lvPut (r9N 13) v lv) fr' := by
  have m2 : (2, ptrV X) ∈ lv := hb _ (List.mem_of_getElem? (i := 0) rfl)
  have m6 : (6, u) ∈ lv := hb _ (List.mem_of_getElem? (i := 1) rfl)
  have m7 : (7, ptrV Y) ∈ lv := hb _ (List.mem_of_getElem? (i := 2) rfl)
  obtain ⟨v8, q8, e8⟩ := hp 8 (pin (by kernel_rfl))
  have q8 : (64, v8) ∈ lv := q8
  have e8 : v8 = Value.bool (!(kd == 0)) := e8
  subst e8
  obtain ⟨v10, q10, e10⟩ := hp 10 (pin (by kernel_rfl))
  have q10 : (66, v10) ∈ lv := q10
  obtain ⟨v12, q12, e12⟩ := hp 12 (pin (by kernel_rfl))
  have q12 : (68, v12) ∈ lv := q12
  by_cases h0 : kd = 0
  · subst h0
    refine (r9_13s.go (ρ := r9E u s' 0 X Y n L) hf (by decide) (fun q hq => ?_) ).mono fun g' w' hd => ?_
    · simp only [told, List.map_cons, List.map_nil, List.mem_cons, List.not_mem_nil, or_false] at hq
      rcases hq with rfl
      · exact q8
    · obtain ⟨fr', u', h1, h2, h3, h4⟩ := hd
      exact ⟨fr', u', h1, h2, fun h => (h rfl).elim, h4⟩
  · have hk : (!(kd == 0)) = true := by simp [h0]
    rw [hk] at q8
    have e10 : v10 = tV (txt L kd n) := (show kd ≠ 0 → v10 = tV (txt L kd n) from e10) h0
    have e12 : v12 = tV (txt L kd n) := (show kd ≠ 0 → v12 = tV (txt L kd n) from e12) h0
    rw [e10] at q10
    rw [e12] at q12
    refine (r9_13.go (ρ := r9E u s' kd X Y n L) hf (by decide) (fun q hq => ?_) (fun q hq => by obtain rfl := List.mem_singleton.1 hq; simp [BE.ev]) (fun q hq => by cases hq)).mono fun g' w' hd => ?_
    · simp only [told, List.map_cons, List.map_nil, List.mem_cons, List.not_mem_nil, or_false] at hq
      rcases hq with rfl | rfl | rfl
      · exact q8
      · exact q10
      · exact q12
    · obtain ⟨fr', u', h1, h2, h3, h4⟩ := hd
      exact ⟨fr', u', h1, h2, fun _ => h3, h4⟩
theorem r9s_14 (H : R9 w0 u s s' kd X Y n L) (f : Fresh w0 w) (hf : FA 3 164 (.inRegion r9O (14 :: ls) :: k) [] .normal lv fr) (hb : ∀ x ∈ r9B u X Y, x ∈ lv) (hp : ∀ p ∈ preN r9O 14, ∃ v, (r9N p, v) ∈ lv ∧ r9V u s s' kd n L p v w) :
    Goes (G fr cs) w fun g' w' => ∃ fr' v, g' = G fr' cs ∧ Fresh w w' ∧ r9V u s s' kd n L 14 v w' ∧ FA 3 164 (.inRegion r9O ls :: k) [] .normal (lvPut (r9N 14) v lv) fr' := by
  have m2 : (2, ptrV X) ∈ lv := hb _ (List.mem_of_getElem? (i := 0) rfl)
  have m6 : (6, u) ∈ lv := hb _ (List.mem_of_getElem? (i := 1) rfl)
  have m7 : (7, ptrV Y) ∈ lv := hb _ (List.mem_of_getElem? (i := 2) rfl)
  obtain ⟨v5, q5, e5⟩ := hp 5 (pin (by kernel_rfl))
  have q5 : (61, v5) ∈ lv := q5
  have e5 : v5 = Value.bool false := e5
  subst e5
  obtain ⟨v8, q8, e8⟩ := hp 8 (pin (by kernel_rfl))
  have q8 : (64, v8) ∈ lv := q8
  have e8 : v8 = Value.bool (!(kd == 0)) := e8
  subst e8
  obtain ⟨v13, q13, e13⟩ := hp 13 (pin (by kernel_rfl))
  have q13 : (69, v13) ∈ lv := q13
  by_cases h0 : kd = 0
  · subst h0
    refine (r9_14n.go (ρ := r9E u s' 0 X Y n L) hf (by decide) (fun q hq => ?_) (fun q hq => by cases hq) (fun q hq => by cases hq)).mono fun g' w' hd => ?_
    · simp only [told, List.map_cons, List.map_nil, List.mem_cons, List.not_mem_nil, or_false] at hq
      rcases hq with rfl | rfl
      · exact q5
      · exact q8
    · obtain ⟨fr', u', h1, h2, h3, h4⟩ := hd
      exact ⟨fr', u', h1, h2, h3, h4⟩
  · have hk : (!(kd == 0)) = true := by simp [h0]
    rw [hk] at q8
    have e13 : v13 = .bool false := (show kd ≠ 0 → v13 = .bool false from e13) h0
    rw [e13] at q13
    refine (r9_14t.go (ρ := r9E u s' kd X Y n L) hf (by decide) (fun q hq => ?_) (fun q hq => by cases hq) (fun q hq => by cases hq)).mono fun g' w' hd => ?_
    · simp only [told, List.map_cons, List.map_nil, List.mem_cons, List.not_mem_nil, or_false] at hq
      rcases hq with rfl | rfl | rfl
      · exact q5
      · exact q8
      · exact q13
    · obtain ⟨fr', u', h1, h2, h3, h4⟩ := hd
      exact ⟨fr', u', h1, h2, h3, h4⟩
theorem r9s_15 (H : R9 w0 u s s' kd X Y n L) (f : Fresh w0 w) (hf : FA 3 164 (.inRegion r9O (15 :: ls) :: k) [] .normal lv fr) (hb : ∀ x ∈ r9B u X Y, x ∈ lv) (hp : ∀ p ∈ preN r9O 15, ∃ v, (r9N p, v) ∈ lv ∧ r9V u s s' kd n L p v w) :
    Goes (G fr cs) w fun g' w' => ∃ fr' v, g' = G fr' cs ∧ Fresh w w' ∧ r9V u s s' kd n L 15 v w' ∧ FA 3 164 (.inRegion r9O ls :: k) [] .normal (lvPut (r9N 15) v lv) fr' := by
  have m2 : (2, ptrV X) ∈ lv := hb _ (List.mem_of_getElem? (i := 0) rfl)
  have m6 : (6, u) ∈ lv := hb _ (List.mem_of_getElem? (i := 1) rfl)
  have m7 : (7, ptrV Y) ∈ lv := hb _ (List.mem_of_getElem? (i := 2) rfl)
  obtain ⟨v5, q5, e5⟩ := hp 5 (pin (by kernel_rfl))
  have q5 : (61, v5) ∈ lv := q5
  have e5 : v5 = Value.bool false := e5
  subst e5
  obtain ⟨v14, q14, e14⟩ := hp 14 (pin (by kernel_rfl))
  have q14 : (70, v14) ∈ lv := q14
  have e14 : v14 = Value.bool false := e14
  subst e14
  refine (r9_15.go (ρ := r9E u s' kd X Y n L) hf (by decide) (fun q hq => ?_) (fun q hq => by cases hq) (fun q hq => by cases hq)).mono fun g' w' hd => ?_
  · simp only [told, List.map_cons, List.map_nil, List.mem_cons, List.not_mem_nil, or_false] at hq
    rcases hq with rfl | rfl
    · exact q5
    · exact q14
  · obtain ⟨fr', u', h1, h2, h3, h4⟩ := hd
    exact ⟨fr', u', h1, h2, h3, h4⟩
theorem r9s_16 (H : R9 w0 u s s' kd X Y n L) (f : Fresh w0 w) (hf : FA 3 164 (.inRegion r9O (16 :: ls) :: k) [] .normal lv fr) (hb : ∀ x ∈ r9B u X Y, x ∈ lv) (hp : ∀ p ∈ preN r9O 16, ∃ v, (r9N p, v) ∈ lv ∧ r9V u s s' kd n L p v w) :
    Goes (G fr cs) w fun g' w' => ∃ fr' v, g' = G fr' cs ∧ Fresh w w' ∧ r9V u s s' kd n L 16 v w' ∧ FA 3 164 (.inRegion r9O ls :: k) [] .normal (lvPut (r9N 16) v lv) fr' := by
  have m2 : (2, ptrV X) ∈ lv := hb _ (List.mem_of_getElem? (i := 0) rfl)
  have m6 : (6, u) ∈ lv := hb _ (List.mem_of_getElem? (i := 1) rfl)
  have m7 : (7, ptrV Y) ∈ lv := hb _ (List.mem_of_getElem? (i := 2) rfl)
  obtain ⟨v15, q15, e15⟩ := hp 15 (pin (by kernel_rfl))
  have q15 : (71, v15) ∈ lv := q15
  have e15 : v15 = Value.bool false := e15
  subst e15
  refine (r9_16.go (ρ := r9E u s' kd X Y n L) hf (by decide) (fun q hq => ?_) (fun q hq => by cases hq) (fun q hq => by cases hq)).mono fun g' w' hd => ?_
  · simp only [told, List.map_cons, List.map_nil, List.mem_cons, List.not_mem_nil, or_false] at hq
    rcases hq with rfl
    · exact q15
  · obtain ⟨fr', u', h1, h2, h3, h4⟩ := hd
    exact ⟨fr', u', h1, h2, h3, h4⟩
theorem r9s_17 (H : R9 w0 u s s' kd X Y n L) (f : Fresh w0 w) (hf : FA 3 164 (.inRegion r9O (17 :: ls) :: k) [] .normal lv fr) (hb : ∀ x ∈ r9B u X Y, x ∈ lv) (hp : ∀ p ∈ preN r9O 17, ∃ v, (r9N p, v) ∈ lv ∧ r9V u s s' kd n L p v w) :
    Goes (G fr cs) w fun g' w' => ∃ fr' v, g' = G fr' cs ∧ Fresh w w' ∧ r9V u s s' kd n L 17 v w' ∧ FA 3 164 (.inRegion r9O ls :: k) [] .normal (lvPut (r9N 17) v lv) fr' := by
  have m2 : (2, ptrV X) ∈ lv := hb _ (List.mem_of_getElem? (i := 0) rfl)
  have m6 : (6, u) ∈ lv := hb _ (List.mem_of_getElem? (i := 1) rfl)
  have m7 : (7, ptrV Y) ∈ lv := hb _ (List.mem_of_getElem? (i := 2) rfl)
  obtain ⟨v16, q16, e16⟩ := hp 16 (pin (by kernel_rfl))
  have q16 : (72, v16) ∈ lv := q16
  have e16 : v16 = Value.bool false := e16
  subst e16
  refine (r9_17.go (ρ := r9E u s' kd X Y n L) hf (by decide) (fun q hq => ?_) (fun q hq => by cases hq) (fun q hq => by cases hq)).mono fun g' w' hd => ?_
  · simp only [told, List.map_cons, List.map_nil, List.mem_cons, List.not_mem_nil, or_false] at hq
    rcases hq with rfl | rfl
    · exact q16
    · exact m6
  · obtain ⟨fr', u', h1, h2, h3, h4⟩ := hd
    exact ⟨fr', u', h1, h2, h3, h4⟩
theorem r9s_18 (H : R9 w0 u s s' kd X Y n L) (f : Fresh w0 w) (hf : FA 3 164 (.inRegion r9O (18 :: ls) :: k) [] .normal lv fr) (hb : ∀ x ∈ r9B u X Y, x ∈ lv) (hp : ∀ p ∈ preN r9O 18, ∃ v, (r9N p, v) ∈ lv ∧ r9V u s s' kd n L p v w) :
    Goes (G fr cs) w fun g' w' => ∃ fr' v, g' = G fr' cs ∧ Fresh w w' ∧ r9V u s s' kd n L 18 v w' ∧ FA 3 164 (.inRegion r9O ls :: k) [] .normal (lvPut (r9N 18) v lv) fr' := by
  have m2 : (2, ptrV X) ∈ lv := hb _ (List.mem_of_getElem? (i := 0) rfl)
  have m6 : (6, u) ∈ lv := hb _ (List.mem_of_getElem? (i := 1) rfl)
  have m7 : (7, ptrV Y) ∈ lv := hb _ (List.mem_of_getElem? (i := 2) rfl)
  obtain ⟨v16, q16, e16⟩ := hp 16 (pin (by kernel_rfl))
  have q16 : (72, v16) ∈ lv := q16
  have e16 : v16 = Value.bool false := e16
  subst e16
  obtain ⟨v17, q17, e17⟩ := hp 17 (pin (by kernel_rfl))
  have q17 : (73, v17) ∈ lv := q17
  have e17 : v17 = u := e17
  rw [e17] at q17
  refine (r9_18.go (ρ := mkE [] [] [(50, u)]) (Q := fun v w' => r9V u s s' kd n L 18 v w') hf (by decide) (fun q hq => ?_) (fun w' f1 => ?_))
  · simp only [told, List.map_cons, List.map_nil, List.mem_cons, List.not_mem_nil, or_false] at hq
    rcases hq with rfl | rfl
    · exact q16
    · exact q17
  · exact (class_all (H.err.keep (f.trans f1)) ((f.trans f1).cell H.ty))
theorem r9s_19 (H : R9 w0 u s s' kd X Y n L) (f : Fresh w0 w) (hf : FA 3 164 (.inRegion r9O (19 :: ls) :: k) [] .normal lv fr) (hb : ∀ x ∈ r9B u X Y, x ∈ lv) (hp : ∀ p ∈ preN r9O 19, ∃ v, (r9N p, v) ∈ lv ∧ r9V u s s' kd n L p v w) :
    Goes (G fr cs) w fun g' w' => ∃ fr' v, g' = G fr' cs ∧ Fresh w w' ∧ r9V u s s' kd n L 19 v w' ∧ FA 3 164 (.inRegion r9O ls :: k) [] .normal (lvPut (r9N 19) v lv) fr' := by
  have m2 : (2, ptrV X) ∈ lv := hb _ (List.mem_of_getElem? (i := 0) rfl)
  have m6 : (6, u) ∈ lv := hb _ (List.mem_of_getElem? (i := 1) rfl)
  have m7 : (7, ptrV Y) ∈ lv := hb _ (List.mem_of_getElem? (i := 2) rfl)
  obtain ⟨v16, q16, e16⟩ := hp 16 (pin (by kernel_rfl))
  have q16 : (72, v16) ∈ lv := q16
  have e16 : v16 = Value.bool false := e16
  subst e16
  refine (r9_19.go (ρ := r9E u s kd X Y n L) hf (by decide) (fun q hq => ?_) (fun q hq => by cases hq) (errX_ok H f)).mono fun g' w' hd => ?_
  · simp only [told, List.map_cons, List.map_nil, List.mem_cons, List.not_mem_nil, or_false] at hq
    rcases hq with rfl | rfl
    · exact q16
    · exact m2
  · obtain ⟨fr', u', h1, h2, h3, h4⟩ := hd
    exact ⟨fr', u', h1, h2, h3, h4⟩
theorem r9s_20 (H : R9 w0 u s s' kd X Y n L) (f : Fresh w0 w) (hf : FA 3 164 (.inRegion r9O (20 :: ls) :: k) [] .normal lv fr) (hb : ∀ x ∈ r9B u X Y, x ∈ lv) (hp : ∀ p ∈ preN r9O 20, ∃ v, (r9N p, v) ∈ lv ∧ r9V u s s' kd n L p v w) :
    Goes (G fr cs) w fun g' w' => ∃ fr' v, g' = G fr' cs ∧ Fresh w w' ∧ r9V u s s' kd n L 20 v w' ∧ FA 3 164 (.inRegion r9O ls :: k) [] .normal (lvPut (r9N 20) v lv) fr' := by
  have m2 : (2, ptrV X) ∈ lv := hb _ (List.mem_of_getElem? (i := 0) rfl)
  have m6 : (6, u) ∈ lv := hb _ (List.mem_of_getElem? (i := 1) rfl)
  have m7 : (7, ptrV Y) ∈ lv := hb _ (List.mem_of_getElem? (i := 2) rfl)
  obtain ⟨v16, q16, e16⟩ := hp 16 (pin (by kernel_rfl))
  have q16 : (72, v16) ∈ lv := q16
  have e16 : v16 = Value.bool false := e16
  subst e16
  obtain ⟨v19, q19, e19⟩ := hp 19 (pin (by kernel_rfl))
  have q19 : (75, v19) ∈ lv := q19
  have e19 : v19 = errV kd n s := e19
  subst e19
  refine (r9_20.go (ρ := mkE [] [] [(50, errV kd n s)]) (Q := fun v w' => r9V u s s' kd n L 20 v w') hf (by decide) (fun q hq => ?_) (fun w' f1 => ?_))
  · simp only [told, List.map_cons, List.map_nil, List.mem_cons, List.not_mem_nil, or_false] at hq
    rcases hq with rfl | rfl
    · exact q16
    · exact q19
  · exact (refClass_all H.err.lt)
theorem r9s_21 (H : R9 w0 u s s' kd X Y n L) (f : Fresh w0 w) (hf : FA 3 164 (.inRegion r9O (21 :: ls) :: k) [] .normal lv fr) (hb : ∀ x ∈ r9B u X Y, x ∈ lv) (hp : ∀ p ∈ preN r9O 21, ∃ v, (r9N p, v) ∈ lv ∧ r9V u s s' kd n L p v w) :
    Goes (G fr cs) w fun g' w' => ∃ fr' v, g' = G fr' cs ∧ Fresh w w' ∧ r9V u s s' kd n L 21 v w' ∧ FA 3 164 (.inRegion r9O ls :: k) [] .normal (lvPut (r9N 21) v lv) fr' := by
  have m2 : (2, ptrV X) ∈ lv := hb _ (List.mem_of_getElem? (i := 0) rfl)
  have m6 : (6, u) ∈ lv := hb _ (List.mem_of_getElem? (i := 1) rfl)
  have m7 : (7, ptrV Y) ∈ lv := hb _ (List.mem_of_getElem? (i := 2) rfl)
  obtain ⟨v16, q16, e16⟩ := hp 16 (pin (by kernel_rfl))
  have q16 : (72, v16) ∈ lv := q16
  have e16 : v16 = Value.bool false := e16
  subst e16
  obtain ⟨v18, q18, e18⟩ := hp 18 (pin (by kernel_rfl))
  have q18 : (74, v18) ∈ lv := q18
  have e18 : v18 = iV (clsOf kd n) := e18
  subst e18
  obtain ⟨v20, q20, e20⟩ := hp 20 (pin (by kernel_rfl))
  have q20 : (76, v20) ∈ lv := q20
  have e20 : v20 = iV (clsOf kd n) := e20
  subst e20
  refine (r9_21.go (ρ := r9E u s' kd X Y n L) hf (by decide) (fun q hq => ?_) (fun q hq => by obtain rfl := List.mem_singleton.1 hq; exact nq_ok) (fun q hq => by cases hq)).mono fun g' w' hd => ?_
  · simp only [told, List.map_cons, List.map_nil, List.mem_cons, List.not_mem_nil, or_false] at hq
    rcases hq with rfl | rfl | rfl
    · exact q16
    · exact q18
    · exact q20
  · obtain ⟨fr', u', h1, h2, h3, h4⟩ := hd
    exact ⟨fr', u', h1, h2, h3, h4⟩
theorem r9s_22 (H : R9 w0 u s s' kd X Y n L) (f : Fresh w0 w) (hf : FA 3 164 (.inRegion r9O (22 :: ls) :: k) [] .normal lv fr) (hb : ∀ x ∈ r9B u X Y, x ∈ lv) (hp : ∀ p ∈ preN r9O 22, ∃ v, (r9N p, v) ∈ lv ∧ r9V u s s' kd n L p v w) :
    Goes (G fr cs) w fun g' w' => ∃ fr' v, g' = G fr' cs ∧ Fresh w w' ∧ r9V u s s' kd n L 22 v w' ∧ FA 3 164 (.inRegion r9O ls :: k) [] .normal (lvPut (r9N 22) v lv) fr' := by
  have m2 : (2, ptrV X) ∈ lv := hb _ (List.mem_of_getElem? (i := 0) rfl)
  have m6 : (6, u) ∈ lv := hb _ (List.mem_of_getElem? (i := 1) rfl)
  have m7 : (7, ptrV Y) ∈ lv := hb _ (List.mem_of_getElem? (i := 2) rfl)
  obtain ⟨v16, q16, e16⟩ := hp 16 (pin (by kernel_rfl))
  have q16 : (72, v16) ∈ lv := q16
  have e16 : v16 = Value.bool false := e16
  subst e16
  obtain ⟨v21, q21, e21⟩ := hp 21 (pin (by kernel_rfl))
  have q21 : (77, v21) ∈ lv := q21
  have e21 : v21 = Value.bool false := e21
  subst e21
  refine (r9_22.go (ρ := r9E u s' kd X Y n L) hf (by decide) (fun q hq => ?_) (fun q hq => by cases hq) (fun q hq => by cases hq)).mono fun g' w' hd => ?_
  · simp only [told, List.map_cons, List.map_nil, List.mem_cons, List.not_mem_nil, or_false] at hq
    rcases hq with rfl | rfl
    · exact q16
    · exact q21
  · obtain ⟨fr', u', h1, h2, h3, h4⟩ := hd
    exact ⟨fr', u', h1, h2, h3, h4⟩
theorem r9s_23 (H : R9 w0 u s s' kd X Y n L) (f : Fresh w0 w) (hf : FA 3 164 (.inRegion r9O (23 :: ls) :: k) [] .normal lv fr) (hb : ∀ x ∈ r9B u X Y, x ∈ lv) (hp : ∀ p ∈ preN r9O 23, ∃ v, (r9N p, v) ∈ lv ∧ r9V u s s' kd n L p v w) :
    Goes (G fr cs) w fun g' w' => ∃ fr' v, g' = G fr' cs ∧ Fresh w w' ∧ r9V u s s' kd n L 23 v w' ∧ FA 3 164 (.inRegion r9O ls :: k) [] .normal (lvPut (r9N 23) v lv) fr' := by
  have m2 : (2, ptrV X) ∈ lv := hb _ (List.mem_of_getElem? (i := 0) rfl)
  have m6 : (6, u) ∈ lv := hb _ (List.mem_of_getElem? (i := 1) rfl)
  have m7 : (7, ptrV Y) ∈ lv := hb _ (List.mem_of_getElem? (i := 2) rfl)
  obtain ⟨v22, q22, e22⟩ := hp 22 (pin (by kernel_rfl))
  have q22 : (78, v22) ∈ lv := q22
  have e22 : v22 = Value.bool false := e22
  subst e22
  refine (r9_23.go (ρ := r9E u s' kd X Y n L) hf (by decide) (fun q hq => ?_) (fun q hq => by cases hq) (fun q hq => by cases hq)).mono fun g' w' hd => ?_
  · simp only [told, List.map_cons, List.map_nil, List.mem_cons, List.not_mem_nil, or_false] at hq
    rcases hq with rfl
    · exact q22
  · obtain ⟨fr', u', h1, h2, h3, h4⟩ := hd
    exact ⟨fr', u', h1, h2, h3, h4⟩
theorem r9s_24 (H : R9 w0 u s s' kd X Y n L) (f : Fresh w0 w) (hf : FA 3 164 (.inRegion r9O (24 :: ls) :: k) [] .normal lv fr) (hb : ∀ x ∈ r9B u X Y, x ∈ lv) (hp : ∀ p ∈ preN r9O 24, ∃ v, (r9N p, v) ∈ lv ∧ r9V u s s' kd n L p v w) :
    Goes (G fr cs) w fun g' w' => ∃ fr' v, g' = G fr' cs ∧ Fresh w w' ∧ r9V u s s' kd n L 24 v w' ∧ FA 3 164 (.inRegion r9O ls :: k) [] .normal (lvPut (r9N 24) v lv) fr' := by
  have m2 : (2, ptrV X) ∈ lv := hb _ (List.mem_of_getElem? (i := 0) rfl)
  have m6 : (6, u) ∈ lv := hb _ (List.mem_of_getElem? (i := 1) rfl)
  have m7 : (7, ptrV Y) ∈ lv := hb _ (List.mem_of_getElem? (i := 2) rfl)
  obtain ⟨v23, q23, e23⟩ := hp 23 (pin (by kernel_rfl))
  have q23 : (79, v23) ∈ lv := q23
  have e23 : v23 = Value.bool false := e23
  subst e23
  refine (r9_24.go (ρ := r9E u s' kd X Y n L) hf (by decide) (fun q hq => ?_) (fun q hq => by cases hq) (fun q hq => by cases hq)).mono fun g' w' hd => ?_
  · simp only [told, List.map_cons, List.map_nil, List.mem_cons, List.not_mem_nil, or_false] at hq
    rcases hq with rfl | rfl
    · exact q23
    · exact m6
  · obtain ⟨fr', u', h1, h2, h3, h4⟩ := hd
    exact ⟨fr', u', h1, h2, h3, h4⟩
theorem r9s_25 (H : R9 w0 u s s' kd X Y n L) (f : Fresh w0 w) (hf : FA 3 164 (.inRegion r9O (25 :: ls) :: k) [] .normal lv fr) (hb : ∀ x ∈ r9B u X Y, x ∈ lv) (hp : ∀ p ∈ preN r9O 25, ∃ v, (r9N p, v) ∈ lv ∧ r9V u s s' kd n L p v w) :
    Goes (G fr cs) w fun g' w' => ∃ fr' v, g' = G fr' cs ∧ Fresh w w' ∧ r9V u s s' kd n L 25 v w' ∧ FA 3 164 (.inRegion r9O ls :: k) [] .normal (lvPut (r9N 25) v lv) fr' := by
  have m2 : (2, ptrV X) ∈ lv := hb _ (List.mem_of_getElem? (i := 0) rfl)
  have m6 : (6, u) ∈ lv := hb _ (List.mem_of_getElem? (i := 1) rfl)
  have m7 : (7, ptrV Y) ∈ lv := hb _ (List.mem_of_getElem? (i := 2) rfl)
  obtain ⟨v23, q23, e23⟩ := hp 23 (pin (by kernel_rfl))
  have q23 : (79, v23) ∈ lv := q23
  have e23 : v23 = Value.bool false := e23
  subst e23
  obtain ⟨v24, q24, e24⟩ := hp 24 (pin (by kernel_rfl))
  have q24 : (80, v24) ∈ lv := q24
  have e24 : v24 = u := e24
  rw [e24] at q24
  refine (r9_25.go (ρ := mkE [] [] [(50, u)]) (Q := fun v w' => r9V u s s' kd n L 25 v w') hf (by decide) (fun q hq => ?_) (fun w' f1 => ?_))
  · simp only [told, List.map_cons, List.map_nil, List.mem_cons, List.not_mem_nil, or_false] at hq
    rcases hq with rfl | rfl
    · exact q23
    · exact q24
  · exact ((numbers_all (H.err.keep (f.trans f1)) ((f.trans f1).cell H.ty) (by have := H.len; omega)).mono fun v w2 hd => ⟨hd.1, NumOut.ne hd.2⟩)
theorem r9s_26 (H : R9 w0 u s s' kd X Y n L) (f : Fresh w0 w) (hf : FA 3 164 (.inRegion r9O (26 :: ls) :: k) [] .normal lv fr) (hb : ∀ x ∈ r9B u X Y, x ∈ lv) (hp : ∀ p ∈ preN r9O 26, ∃ v, (r9N p, v) ∈ lv ∧ r9V u s s' kd n L p v w) :
    Goes (G fr cs) w fun g' w' => ∃ fr' v, g' = G fr' cs ∧ Fresh w w' ∧ r9V u s s' kd n L 26 v w' ∧ FA 3 164 (.inRegion r9O ls :: k) [] .normal (lvPut (r9N 26) v lv) fr' := by
  have m2 : (2, ptrV X) ∈ lv := hb _ (List.mem_of_getElem? (i := 0) rfl)
  have m6 : (6, u) ∈ lv := hb _ (List.mem_of_getElem? (i := 1) rfl)
  have m7 : (7, ptrV Y) ∈ lv := hb _ (List.mem_of_getElem? (i := 2) rfl)
  obtain ⟨v23, q23, e23⟩ := hp 23 (pin (by kernel_rfl))
  have q23 : (79, v23) ∈ lv := q23
  have e23 : v23 = Value.bool false := e23
  subst e23
  refine (r9_26.go (ρ := r9E u s' kd X Y n L) hf (by decide) (fun q hq => ?_) (fun q hq => by cases hq) (errN_ok H f)).mono fun g' w' hd => ?_
  · simp only [told, List.map_cons, List.map_nil, List.mem_cons, List.not_mem_nil, or_false] at hq
    rcases hq with rfl | rfl
    · exact q23
    · exact m7
  · obtain ⟨fr', u', h1, h2, h3, h4⟩ := hd
    exact ⟨fr', u', h1, h2, h3, h4⟩
theorem r9s_27 (H : R9 w0 u s s' kd X Y n L) (f : Fresh w0 w) (hf : FA 3 164 (.inRegion r9O (27 :: ls) :: k) [] .normal lv fr) (hb : ∀ x ∈ r9B u X Y, x ∈ lv) (hp : ∀ p ∈ preN r9O 27, ∃ v, (r9N p, v) ∈ lv ∧ r9V u s s' kd n L p v w) :
    Goes (G fr cs) w fun g' w' => ∃ fr' v, g' = G fr' cs ∧ Fresh w w' ∧ r9V u s s' kd n L 27 v w' ∧ FA 3 164 (.inRegion r9O ls :: k) [] .normal (lvPut (r9N 27) v lv) fr' := by
  have m2 : (2, ptrV X) ∈ lv := hb _ (List.mem_of_getElem? (i := 0) rfl)
  have m6 : (6, u) ∈ lv := hb _ (List.mem_of_getElem? (i := 1) rfl)
  have m7 : (7, ptrV Y) ∈ lv := hb _ (List.mem_of_getElem? (i := 2) rfl)
  obtain ⟨v23, q23, e23⟩ := hp 23 (pin (by kernel_rfl))
  have q23 : (79, v23) ∈ lv := q23
  have e23 : v23 = Value.bool false := e23
  subst e23
  obtain ⟨v26, q26, e26⟩ := hp 26 (pin (by kernel_rfl))
  have q26 : (82, v26) ∈ lv := q26
  have e26 : v26 = errV kd n s' := e26
  subst e26
  refine (r9_27.go (ρ := mkE [] [] [(50, errV kd n s')]) (Q := fun v w' => r9V u s s' kd n L 27 v w') hf (by decide) (fun q hq => ?_) (fun w' f1 => ?_))
  · simp only [told, List.map_cons, List.map_nil, List.mem_cons, List.not_mem_nil, or_false] at hq
    rcases hq with rfl | rfl
    · exact q23
    · exact q26
  · exact ((refNumbers_all H.err.lt H.k0 (H.nums.keep (f.trans f1)) (by have := H.len; omega)).mono fun v w2 hd => ⟨hd.1, NumOut.ne hd.2⟩)
theorem r9s_28 (H : R9 w0 u s s' kd X Y n L) (f : Fresh w0 w) (hf : FA 3 164 (.inRegion r9O (28 :: ls) :: k) [] .normal lv fr) (hb : ∀ x ∈ r9B u X Y, x ∈ lv) (hp : ∀ p ∈ preN r9O 28, ∃ v, (r9N p, v) ∈ lv ∧ r9V u s s' kd n L p v w) :
    Goes (G fr cs) w fun g' w' => ∃ fr' v, g' = G fr' cs ∧ Fresh w w' ∧ r9V u s s' kd n L 28 v w' ∧ FA 3 164 (.inRegion r9O ls :: k) [] .normal (lvPut (r9N 28) v lv) fr' := by
  have m2 : (2, ptrV X) ∈ lv := hb _ (List.mem_of_getElem? (i := 0) rfl)
  have m6 : (6, u) ∈ lv := hb _ (List.mem_of_getElem? (i := 1) rfl)
  have m7 : (7, ptrV Y) ∈ lv := hb _ (List.mem_of_getElem? (i := 2) rfl)
  obtain ⟨v23, q23, e23⟩ := hp 23 (pin (by kernel_rfl))
  have q23 : (79, v23) ∈ lv := q23
  have e23 : v23 = Value.bool false := e23
  subst e23
  obtain ⟨v25, q25, e25⟩ := hp 25 (pin (by kernel_rfl))
  have q25 : (81, v25) ∈ lv := q25
  obtain ⟨v27, q27, e27⟩ := hp 27 (pin (by kernel_rfl))
  have q27 : (83, v27) ∈ lv := q27
  refine (r9_28.go (ρ := mkE [] [] [(50, v25), (51, v27)]) (Q := fun v w' => r9V u s s' kd n L 28 v w') hf (by decide) (fun q hq => ?_) (fun w' f1 => ?_))
  · simp only [told, List.map_cons, List.map_nil, List.mem_cons, List.not_mem_nil, or_false] at hq
    rcases hq with rfl | rfl | rfl
    · exact q23
    · exact q25
    · exact q27
  · exact (same_all (NumsNe.keep (show NumsNe w v25 (numsOf L kd n) from e25) f1) (NumsNe.keep (show NumsNe w v27 (numsOf L kd n) from e27) f1) (numsOf_len (by have := H.len; omega)))
theorem r9s_29 (H : R9 w0 u s s' kd X Y n L) (f : Fresh w0 w) (hf : FA 3 164 (.inRegion r9O (29 :: ls) :: k) [] .normal lv fr) (hb : ∀ x ∈ r9B u X Y, x ∈ lv) (hp : ∀ p ∈ preN r9O 29, ∃ v, (r9N p, v) ∈ lv ∧ r9V u s s' kd n L p v w) :
    Goes (G fr cs) w fun g' w' => ∃ fr' v, g' = G fr' cs ∧ Fresh w w' ∧ r9V u s s' kd n L 29 v w' ∧ FA 3 164 (.inRegion r9O ls :: k) [] .normal (lvPut (r9N 29) v lv) fr' := by
  have m2 : (2, ptrV X) ∈ lv := hb _ (List.mem_of_getElem? (i := 0) rfl)
  have m6 : (6, u) ∈ lv := hb _ (List.mem_of_getElem? (i := 1) rfl)
  have m7 : (7, ptrV Y) ∈ lv := hb _ (List.mem_of_getElem? (i := 2) rfl)
  obtain ⟨v23, q23, e23⟩ := hp 23 (pin (by kernel_rfl))
  have q23 : (79, v23) ∈ lv := q23
  have e23 : v23 = Value.bool false := e23
  subst e23
  obtain ⟨v28, q28, e28⟩ := hp 28 (pin (by kernel_rfl))
  have q28 : (84, v28) ∈ lv := q28
  have e28 : v28 = Value.bool true := e28
  subst e28
  refine (r9_29.go (ρ := r9E u s' kd X Y n L) hf (by decide) (fun q hq => ?_) (fun q hq => by cases hq) (fun q hq => by cases hq)).mono fun g' w' hd => ?_
  · simp only [told, List.map_cons, List.map_nil, List.mem_cons, List.not_mem_nil, or_false] at hq
    rcases hq with rfl | rfl
    · exact q23
    · exact q28
  · obtain ⟨fr', u', h1, h2, h3, h4⟩ := hd
    exact ⟨fr', u', h1, h2, h3, h4⟩
theorem r9s_30 (H : R9 w0 u s s' kd X Y n L) (f : Fresh w0 w) (hf : FA 3 164 (.inRegion r9O (30 :: ls) :: k) [] .normal lv fr) (hb : ∀ x ∈ r9B u X Y, x ∈ lv) (hp : ∀ p ∈ preN r9O 30, ∃ v, (r9N p, v) ∈ lv ∧ r9V u s s' kd n L p v w) :
    Goes (G fr cs) w fun g' w' => ∃ fr' v, g' = G fr' cs ∧ Fresh w w' ∧ r9V u s s' kd n L 30 v w' ∧ FA 3 164 (.inRegion r9O ls :: k) [] .normal (lvPut (r9N 30) v lv) fr' := by
  have m2 : (2, ptrV X) ∈ lv := hb _ (List.mem_of_getElem? (i := 0) rfl)
  have m6 : (6, u) ∈ lv := hb _ (List.mem_of_getElem? (i := 1) rfl)
  have m7 : (7, ptrV Y) ∈ lv := hb _ (List.mem_of_getElem? (i := 2) rfl)
  obtain ⟨v23, q23, e23⟩ := hp 23 (pin (by kernel_rfl))
  have q23 : (79, v23) ∈ lv := q23
  have e23 : v23 = Value.bool false := e23
  subst e23
  obtain ⟨v29, q29, e29⟩ := hp 29 (pin (by kernel_rfl))
  have q29 : (85, v29) ∈ lv := q29
  have e29 : v29 = Value.bool false := e29
  subst e29
  refine (r9_30.go (ρ := r9E u s' kd X Y n L) hf (by decide) (fun q hq => ?_) (fun q hq => by cases hq) (fun q hq => by cases hq)).mono fun g' w' hd => ?_
  · simp only [told, List.map_cons, List.map_nil, List.mem_cons, List.not_mem_nil, or_false] at hq
    rcases hq with rfl | rfl
    · exact q23
    · exact q29
  · obtain ⟨fr', u', h1, h2, h3, h4⟩ := hd
    exact ⟨fr', u', h1, h2, h3, h4⟩
theorem r9_step (H : R9 w0 u s s' kd X Y n L) : ∀ i, i < r9O.size → ∀ (ls : List Nat) (w : World) (fr : Frame) (lv : List (Nat × Value)), Fresh w0 w → FA 3 164 (.inRegion r9O (i :: ls) :: k) [] .normal lv fr → (∀ x ∈ r9B u X Y, x ∈ lv) → (∀ p ∈ preN r9O i, ∃ v, (r9N p, v) ∈ lv ∧ r9V u s s' kd n L p v w) →
    Goes (G fr cs) w fun g' w' => ∃ fr' v, g' = G fr' cs ∧ Fresh w w' ∧ r9V u s s' kd n L i v w' ∧ FA 3 164 (.inRegion r9O ls :: k) [] .normal (lvPut (r9N i) v lv) fr' := by
  intro i hi ls w fr lv f hf hb hp
  rw [r9Size] at hi
  rcases (by omega : i = 0 ∨ i = 1 ∨ i = 2 ∨ i = 3 ∨ i = 4 ∨ i = 5 ∨ i = 6 ∨ i = 7 ∨ i = 8 ∨ i = 9 ∨ i = 10 ∨ i = 11 ∨ i = 12 ∨ i = 13 ∨ i = 14 ∨ i = 15 ∨ i = 16 ∨ i = 17 ∨ i = 18 ∨ i = 19 ∨ i = 20 ∨ i = 21 ∨ i = 22 ∨ i = 23 ∨ i = 24 ∨ i = 25 ∨ i = 26 ∨ i = 27 ∨ i = 28 ∨ i = 29 ∨ i = 30) with rfl | rfl | rfl | rfl | rfl | rfl | rfl | rfl | rfl | rfl | rfl | rfl | rfl | rfl | rfl | rfl | rfl | rfl | rfl | rfl | rfl | rfl | rfl | rfl | rfl | rfl | rfl | rfl | rfl | rfl | rfl
  · exact r9s_0 H f hf hb hp
  · exact r9s_1 H f hf hb hp
  · exact r9s_2 H f hf hb hp
  · exact r9s_3 H f hf hb hp
  · exact r9s_4 H f hf hb hp
  · exact r9s_5 H f hf hb hp
  · exact r9s_6 H f hf hb hp
  · exact r9s_7 H f hf hb hp
  · exact r9s_8 H f hf hb hp
  · exact r9s_9 H f hf hb hp
  · exact r9s_10 H f hf hb hp
  · exact r9s_11 H f hf hb hp
  · exact r9s_12 H f hf hb hp
  · exact r9s_13 H f hf hb hp
  · exact r9s_14 H f hf hb hp
  · exact r9s_15 H f hf hb hp
  · exact r9s_16 H f hf hb hp
  · exact r9s_17 H f hf hb hp
  · exact r9s_18 H f hf hb hp
  · exact r9s_19 H f hf hb hp
  · exact r9s_20 H f hf hb hp
  · exact r9s_21 H f hf hb hp
  · exact r9s_22 H f hf hb hp
  · exact r9s_23 H f hf hb hp
  · exact r9s_24 H f hf hb hp
  · exact r9s_25 H f hf hb hp
  · exact r9s_26 H f hf hb hp
  · exact r9s_27 H f hf hb hp
  · exact r9s_28 H f hf hb hp
  · exact r9s_29 H f hf hb hp
  · exact r9s_30 H f hf hb hp
theorem r9_all (H : R9 w0 u s s' kd X Y n L) (hf : FA 3 164 (.code (mnQ [1,1,1,1,1,1,1,0,0]) :: k) [] .normal (r9B u X Y) fr) :
    Goes (G fr cs) w0 fun g' w' => ∃ fr', g' = G fr' cs ∧ Fresh w0 w' ∧ FA 3 164 (.inRegion r9O [] :: k) [] .normal ((86, .bool false) :: r9B u X Y) fr' := by
  obtain ⟨id, hid⟩ := draw_is r9Draw
  rw [hid] at hf
  refine (draw_in hf).trans fun g1 w1 hd => ?_
  obtain ⟨ls, fr1, rfl, f1, hs, F1⟩ := hd
  refine (draw_all (b := r9B u X Y) (nm := r9N) (val := r9V u s s' kd n L) (w0 := w0) (pre_ok r9Size r9Pre) (fun i hi x hx => ?_) (fun i j hi hj hne h => ?_) r9V_keep (r9_step H) ls [] f1 (fun i hi => by cases hi) hs ⟨_, F1, fun x hx => hx, fun i hi => by cases hi⟩).mono fun g2 w2 hd2 => ?_
  · rw [r9Size] at hi
    exact r9B_ne i hi x hx
  · rw [r9Size] at hi hj
    exact hne (r9N_inj hi hj h.symm)
  · obtain ⟨fr2, lv, rfl, f2, F2, hb2, hv⟩ := hd2
    obtain ⟨v, q, hval⟩ := hv 30 (by rw [r9Size]; decide)
    have hval : v = .bool false := hval
    subst hval
    exact ⟨fr2, rfl, f2, F2.sub fun x hx => by
      rcases List.mem_cons.1 hx with rfl | hx
      · exact q
      · exact hb2 x hx⟩
end
end Go.Proofs.YtojifefdokekpaaDoor
set_option maxRecDepth 100000
set_option linter.unusedVariables false
set_option linter.unusedSimpArgs false
namespace Go.Proofs.YtojifefdokekpaaDoor
open Go.Proofs.YtojifefdokekpaaDoor.SX Go.Conc
theorem r22_0 : OpV 164 r22O 0 [] [] [(15, TB)] (TB) 146 := ⟨fun st => by kernel_rfl, fun st => by kernel_rfl, fun st => by kernel_rfl, by kernel_rfl, rfl⟩
theorem r22_1 : OpV 164 r22O 1 [] [] [(146, TB)] (TB) 147 := ⟨fun st => by kernel_rfl, fun st => by kernel_rfl, fun st => by kernel_rfl, by kernel_rfl, rfl⟩
theorem r22_2 : OpV 164 r22O 2 [] [] [(147, TB), (14, nilP)] (nilP) 148 := ⟨fun st => by kernel_rfl, fun st => by kernel_rfl, fun st => by kernel_rfl, by kernel_rfl, rfl⟩
theorem r22_3 : OpV 164 r22O 3 [] [] [(147, TB), (148, nilP)] (.iface 44 nilP) 149 := ⟨fun st => by kernel_rfl, fun st => by kernel_rfl, fun st => by kernel_rfl, by kernel_rfl, rfl⟩
theorem r22_5 : OpV 164 r22O 5 [] [] [(147, TB), (150, nilA)] (i64 (.lit 0)) 151 := ⟨fun st => by kernel_rfl, fun st => by kernel_rfl, fun st => by kernel_rfl, by kernel_rfl, rfl⟩
theorem r22_6 : OpV 164 r22O 6 [] [] [(147, TB), (151, i64 (.lit 0))] (TB) 152 := ⟨fun st => by kernel_rfl, fun st => by kernel_rfl, fun st => by kernel_rfl, by kernel_rfl, rfl⟩
theorem r22_7 : OpV 164 r22O 7 [] [] [(147, TB), (152, TB)] (TB) 153 := ⟨fun st => by kernel_rfl, fun st => by kernel_rfl, fun st => by kernel_rfl, by kernel_rfl, rfl⟩
theorem r22_8 : OpV 164 r22O 8 [] [] [(153, TB)] (TB) 154 := ⟨fun st => by kernel_rfl, fun st => by kernel_rfl, fun st => by kernel_rfl, by kernel_rfl, rfl⟩
theorem r22_9 : OpV 164 r22O 9 [] [] [(154, TB), (6, .opq 50)] (.opq 50) 155 := ⟨fun st => by kernel_rfl, fun st => by kernel_rfl, fun st => by kernel_rfl, by kernel_rfl, rfl⟩
theorem r22_11 : OpV 164 r22O 11 [] errN [(154, TB), (7, ptr0 62)] (errA) 157 := ⟨fun st => by kernel_rfl, fun st => by kernel_rfl, fun st => by kernel_rfl, by kernel_rfl, rfl⟩
theorem r22_14 : OpV 164 r22O 14 [] [] [(154, TB), (159, TB)] (TB) 160 := ⟨fun st => by kernel_rfl, fun st => by kernel_rfl, fun st => by kernel_rfl, by kernel_rfl, rfl⟩
theorem r22_15 : OpV 164 r22O 15 [] [] [(160, TB)] (TB) 161 := ⟨fun st => by kernel_rfl, fun st => by kernel_rfl, fun st => by kernel_rfl, by kernel_rfl, rfl⟩
theorem r22_17 : OpV 164 r22O 17 [] [] [(161, TB), (162, TB)] (TB) 163 := ⟨fun st => by kernel_rfl, fun st => by kernel_rfl, fun st => by kernel_rfl, by kernel_rfl, rfl⟩
theorem r22_18 : OpV 164 r22O 18 [] [] [(163, TB)] (TB) 4 := ⟨fun st => by kernel_rfl, fun st => by kernel_rfl, fun st => by kernel_rfl, by kernel_rfl, rfl⟩
theorem r22_4 : OpC 164 r22O 4 [(147, TB), (149, .iface 44 nilP)] 9 [.iface 44 nilP] 150 := ⟨fun st => by kernel_rfl, fun st => by kernel_rfl, fun st => by kernel_rfl, by kernel_rfl, rfl⟩
theorem r22_10 : OpC 164 r22O 10 [(154, TB), (155, .opq 50)] 9 [.opq 50] 156 := ⟨fun st => by kernel_rfl, fun st => by kernel_rfl, fun st => by kernel_rfl, by kernel_rfl, rfl⟩
theorem r22_12 : OpC 164 r22O 12 [(154, TB), (157, .opq 50)] 10 [.opq 50] 158 := ⟨fun st => by kernel_rfl, fun st => by kernel_rfl, fun st => by kernel_rfl, by kernel_rfl, rfl⟩
theorem r22_13 : OpC 164 r22O 13 [(154, TB), (156, .opq 50), (158, .opq 51)] 8 [.opq 50, .opq 51] 159 := ⟨fun st => by kernel_rfl, fun st => by kernel_rfl, fun st => by kernel_rfl, by kernel_rfl, rfl⟩
theorem r22_16 : OpC 164 r22O 16 [(161, TB)] 25 [] 162 := ⟨fun st => by kernel_rfl, fun st => by kernel_rfl, fun st => by kernel_rfl, by kernel_rfl, rfl⟩
def r22B (u : Value) (X Y : Nat) : List (Nat × Value) := r9B u X Y ++ [(14, .pointer none), (15, .bool true)]
def r22N (i : Nat) : Nat := if i = 18 then 4 else i + 146
def r22V (u s s' : Value) (kd : Nat) (n : Int) (L : List Int) (i : Nat) (v : Value) (w : World) : Prop := match i with
  | 2 => v = .pointer none
  | 3 => v = .iface 44 (.pointer none)
  | 4 => v = nilV
  | 5 => v = iV 0
  | 9 => v = u
  | 10 => NumsNe w v (numsOf L kd n)
  | 11 => v = errV kd n s'
  | 12 => NumsNe w v (numsOf L kd n)
  | _ => v = .bool true
theorem r22V_keep {u s s' : Value} {kd : Nat} {n : Int} {L : List Int} (i : Nat) (v : Value) (w w' : World) (h : r22V u s s' kd n L i v w) (f : Fresh w w') : r22V u s s' kd n L i v w' := by
  unfold r22V at h ⊢
  split at h
  all_goals first | exact h | exact NumsNe.keep h f
theorem r22B_ne {u : Value} {X Y : Nat} (i : Nat) (hi : i < 19) (x : Nat × Value) (hx : x ∈ r22B u X Y) : x.1 ≠ r22N i := by
  simp only [r22B, r9B, List.cons_append, List.nil_append, List.mem_cons, List.not_mem_nil, or_false] at hx
  unfold r22N
  rcases hx with rfl | rfl | rfl | rfl | rfl <;> (split <;> (show _ ≠ _; first | omega | simp))
theorem r22N_inj {i j : Nat} (hi : i < 19) (hj : j < 19) (h : r22N i = r22N j) : i = j := by
  unfold r22N at h
  split at h <;> split at h <;> omega
section
variable {w0 w : World} {cs : List Frame} {fr : Frame} {u s s' : Value} {kd X Y i : Nat} {n : Int} {L : List Int} {ls : List Nat} {k : List Item} {lv : List (Nat × Value)}
noncomputable abbrev r22E (u s' : Value) (kd X Y : Nat) (n : Int) (L : List Int) : Env := r9E u s' kd X Y n L
theorem r22s_0 (H : R9 w0 u s s' kd X Y n L) (f : Fresh w0 w) (hf : FA 3 164 (.inRegion r22O (0 :: ls) :: k) [] .normal lv fr) (hb : ∀ x ∈ r22B u X Y, x ∈ lv) (hp : ∀ p ∈ preN r22O 0, ∃ v, (r22N p, v) ∈ lv ∧ r22V u s s' kd n L p v w) :
    Goes (G fr cs) w fun g' w' => ∃ fr' v, g' = G fr' cs ∧ Fresh w w' ∧ r22V u s s' kd n L 0 v w' ∧ FA 3 164 (.inRegion r22O ls :: k) [] .normal (lvPut (r22N 0) v lv) fr' := by
  have m6 : (6, u) ∈ lv := hb _ (List.mem_of_getElem? (i := 1) rfl)
  have m7 : (7, ptrV Y) ∈ lv := hb _ (List.mem_of_getElem? (i := 2) rfl)
  have m14 : (14, Value.pointer none) ∈ lv := hb _ (List.mem_of_getElem? (i := 3) rfl)
  have m15 : (15, Value.bool true) ∈ lv := hb _ (List.mem_of_getElem? (i := 4) rfl)
  refine (r22_0.go (ρ := r22E u s' kd X Y n L) hf (by decide) (fun q hq => ?_) (fun q hq => by cases hq) (fun q hq => by cases hq)).mono fun g' w' hd => ?_
  · simp only [told, List.map_cons, List.map_nil, List.mem_cons, List.not_mem_nil, or_false] at hq
    rcases hq with rfl
    · exact m15
  · obtain ⟨fr', u', h1, h2, h3, h4⟩ := hd
    exact ⟨fr', u', h1, h2, h3, h4⟩
theorem r22s_1 (H : R9 w0 u s s' kd X Y n L) (f : Fresh w0 w) (hf : FA 3 164 (.inRegion r22O (1 :: ls) :: k) [] .normal lv fr) (hb : ∀ x ∈ r22B u X Y, x ∈ lv) (hp : ∀ p ∈ preN r22O 1, ∃ v, (r22N p, v) ∈ lv ∧ r22V u s s' kd n L p v w) :
    Goes (G fr cs) w fun g' w' => ∃ fr' v, g' = G fr' cs ∧ Fresh w w' ∧ r22V u s s' kd n L 1 v w' ∧ FA 3 164 (.inRegion r22O ls :: k) [] .normal (lvPut (r22N 1) v lv) fr' := by
  have m6 : (6, u) ∈ lv := hb _ (List.mem_of_getElem? (i := 1) rfl)
  have m7 : (7, ptrV Y) ∈ lv := hb _ (List.mem_of_getElem? (i := 2) rfl)
  have m14 : (14, Value.pointer none) ∈ lv := hb _ (List.mem_of_getElem? (i := 3) rfl)
  have m15 : (15, Value.bool true) ∈ lv := hb _ (List.mem_of_getElem? (i := 4) rfl)
  obtain ⟨v0, q0, e0⟩ := hp 0 (pin (by kernel_rfl))
  have q0 : (146, v0) ∈ lv := q0
  have e0 : v0 = Value.bool true := e0
  subst e0
  refine (r22_1.go (ρ := r22E u s' kd X Y n L) hf (by decide) (fun q hq => ?_) (fun q hq => by cases hq) (fun q hq => by cases hq)).mono fun g' w' hd => ?_
  · simp only [told, List.map_cons, List.map_nil, List.mem_cons, List.not_mem_nil, or_false] at hq
    rcases hq with rfl
    · exact q0
  · obtain ⟨fr', u', h1, h2, h3, h4⟩ := hd
    exact ⟨fr', u', h1, h2, h3, h4⟩
theorem r22s_2 (H : R9 w0 u s s' kd X Y n L) (f : Fresh w0 w) (hf : FA 3 164 (.inRegion r22O (2 :: ls) :: k) [] .normal lv fr) (hb : ∀ x ∈ r22B u X Y, x ∈ lv) (hp : ∀ p ∈ preN r22O 2, ∃ v, (r22N p, v) ∈ lv ∧ r22V u s s' kd n L p v w) :
    Goes (G fr cs) w fun g' w' => ∃ fr' v, g' = G fr' cs ∧ Fresh w w' ∧ r22V u s s' kd n L 2 v w' ∧ FA 3 164 (.inRegion r22O ls :: k) [] .normal (lvPut (r22N 2) v lv) fr' := by
  have m6 : (6, u) ∈ lv := hb _ (List.mem_of_getElem? (i := 1) rfl)
  have m7 : (7, ptrV Y) ∈ lv := hb _ (List.mem_of_getElem? (i := 2) rfl)
  have m14 : (14, Value.pointer none) ∈ lv := hb _ (List.mem_of_getElem? (i := 3) rfl)
  have m15 : (15, Value.bool true) ∈ lv := hb _ (List.mem_of_getElem? (i := 4) rfl)
  obtain ⟨v1, q1, e1⟩ := hp 1 (pin (by kernel_rfl))
  have q1 : (147, v1) ∈ lv := q1
  have e1 : v1 = Value.bool true := e1
  subst e1
  refine (r22_2.go (ρ := r22E u s' kd X Y n L) hf (by decide) (fun q hq => ?_) (fun q hq => by cases hq) (fun q hq => by cases hq)).mono fun g' w' hd => ?_
  · simp only [told, List.map_cons, List.map_nil, List.mem_cons, List.not_mem_nil, or_false] at hq
    rcases hq with rfl | rfl
    · exact q1
    · exact m14
  · obtain ⟨fr', u', h1, h2, h3, h4⟩ := hd
    exact ⟨fr', u', h1, h2, h3, h4⟩
theorem r22s_3 (H : R9 w0 u s s' kd X Y n L) (f : Fresh w0 w) (hf : FA 3 164 (.inRegion r22O (3 :: ls) :: k) [] .normal lv fr) (hb : ∀ x ∈ r22B u X Y, x ∈ lv) (hp : ∀ p ∈ preN r22O 3, ∃ v, (r22N p, v) ∈ lv ∧ r22V u s s' kd n L p v w) :
    Goes (G fr cs) w fun g' w' => ∃ fr' v, g' = G fr' cs ∧ Fresh w w' ∧ r22V u s s' kd n L 3 v w' ∧ FA 3 164 (.inRegion r22O ls :: k) [] .normal (lvPut (r22N 3) v lv) fr' := by
  have m6 : (6, u) ∈ lv := hb _ (List.mem_of_getElem? (i := 1) rfl)
  have m7 : (7, ptrV Y) ∈ lv := hb _ (List.mem_of_getElem? (i := 2) rfl)
  have m14 : (14, Value.pointer none) ∈ lv := hb _ (List.mem_of_getElem? (i := 3) rfl)
  have m15 : (15, Value.bool true) ∈ lv := hb _ (List.mem_of_getElem? (i := 4) rfl)
  obtain ⟨v1, q1, e1⟩ := hp 1 (pin (by kernel_rfl))
  have q1 : (147, v1) ∈ lv := q1
  have e1 : v1 = Value.bool true := e1
  subst e1
  obtain ⟨v2, q2, e2⟩ := hp 2 (pin (by kernel_rfl))
  have q2 : (148, v2) ∈ lv := q2
  have e2 : v2 = Value.pointer none := e2
  subst e2
  refine (r22_3.go (ρ := r22E u s' kd X Y n L) hf (by decide) (fun q hq => ?_) (fun q hq => by cases hq) (fun q hq => by cases hq)).mono fun g' w' hd => ?_
  · simp only [told, List.map_cons, List.map_nil, List.mem_cons, List.not_mem_nil, or_false] at hq
    rcases hq with rfl | rfl
    · exact q1
    · exact q2
  · obtain ⟨fr', u', h1, h2, h3, h4⟩ := hd
    exact ⟨fr', u', h1, h2, h3, h4⟩
theorem r22s_4 (H : R9 w0 u s s' kd X Y n L) (f : Fresh w0 w) (hf : FA 3 164 (.inRegion r22O (4 :: ls) :: k) [] .normal lv fr) (hb : ∀ x ∈ r22B u X Y, x ∈ lv) (hp : ∀ p ∈ preN r22O 4, ∃ v, (r22N p, v) ∈ lv ∧ r22V u s s' kd n L p v w) :
    Goes (G fr cs) w fun g' w' => ∃ fr' v, g' = G fr' cs ∧ Fresh w w' ∧ r22V u s s' kd n L 4 v w' ∧ FA 3 164 (.inRegion r22O ls :: k) [] .normal (lvPut (r22N 4) v lv) fr' := by
  have m6 : (6, u) ∈ lv := hb _ (List.mem_of_getElem? (i := 1) rfl)
  have m7 : (7, ptrV Y) ∈ lv := hb _ (List.mem_of_getElem? (i := 2) rfl)
  have m14 : (14, Value.pointer none) ∈ lv := hb _ (List.mem_of_getElem? (i := 3) rfl)
  have m15 : (15, Value.bool true) ∈ lv := hb _ (List.mem_of_getElem? (i := 4) rfl)
  obtain ⟨v1, q1, e1⟩ := hp 1 (pin (by kernel_rfl))
  have q1 : (147, v1) ∈ lv := q1
  have e1 : v1 = Value.bool true := e1
  subst e1
  obtain ⟨v3, q3, e3⟩ := hp 3 (pin (by kernel_rfl))
  have q3 : (149, v3) ∈ lv := q3
  have e3 : v3 = Value.iface 44 (.pointer none) := e3
  subst e3
  refine (r22_4.go (ρ := mkE [] [] []) (Q := fun v w' => r22V u s s' kd n L 4 v w') hf (by decide) (fun q hq => ?_) (fun w' f1 => ?_))
  · simp only [told, List.map_cons, List.map_nil, List.mem_cons, List.not_mem_nil, or_false] at hq
    rcases hq with rfl | rfl
    · exact q1
    · exact q3
  · exact (nat_all ((f.trans f1).cell H.ty))
theorem r22s_5 (H : R9 w0 u s s' kd X Y n L) (f : Fresh w0 w) (hf : FA 3 164 (.inRegion r22O (5 :: ls) :: k) [] .normal lv fr) (hb : ∀ x ∈ r22B u X Y, x ∈ lv) (hp : ∀ p ∈ preN r22O 5, ∃ v, (r22N p, v) ∈ lv ∧ r22V u s s' kd n L p v w) :
    Goes (G fr cs) w fun g' w' => ∃ fr' v, g' = G fr' cs ∧ Fresh w w' ∧ r22V u s s' kd n L 5 v w' ∧ FA 3 164 (.inRegion r22O ls :: k) [] .normal (lvPut (r22N 5) v lv) fr' := by
  have m6 : (6, u) ∈ lv := hb _ (List.mem_of_getElem? (i := 1) rfl)
  have m7 : (7, ptrV Y) ∈ lv := hb _ (List.mem_of_getElem? (i := 2) rfl)
  have m14 : (14, Value.pointer none) ∈ lv := hb _ (List.mem_of_getElem? (i := 3) rfl)
  have m15 : (15, Value.bool true) ∈ lv := hb _ (List.mem_of_getElem? (i := 4) rfl)
  obtain ⟨v1, q1, e1⟩ := hp 1 (pin (by kernel_rfl))
  have q1 : (147, v1) ∈ lv := q1
  have e1 : v1 = Value.bool true := e1
  subst e1
  obtain ⟨v4, q4, e4⟩ := hp 4 (pin (by kernel_rfl))
  have q4 : (150, v4) ∈ lv := q4
  have e4 : v4 = nilV := e4
  subst e4
  refine (r22_5.go (ρ := r22E u s' kd X Y n L) hf (by decide) (fun q hq => ?_) (fun q hq => by cases hq) (fun q hq => by cases hq)).mono fun g' w' hd => ?_
  · simp only [told, List.map_cons, List.map_nil, List.mem_cons, List.not_mem_nil, or_false] at hq
    rcases hq with rfl | rfl
    · exact q1
    · exact q4
  · obtain ⟨fr', u', h1, h2, h3, h4⟩ := hd
    exact ⟨fr', u', h1, h2, h3, h4⟩
theorem r22s_6 (H : R9 w0 u s s' kd X Y n L) (f : Fresh w0 w) (hf : FA 3 164 (.inRegion r22O (6 :: ls) :: k) [] .normal lv fr) (hb : ∀ x ∈ r22B u X Y, x ∈ lv) (hp : ∀ p ∈ preN r22O 6, ∃ v, (r22N p, v) ∈ lv ∧ r22V u s s' kd n L p v w) :
    Goes (G fr cs) w fun g' w' => ∃ fr' v, g' = G fr' cs ∧ Fresh w w' ∧ r22V u s s' kd n L 6 v w' ∧ FA 3 164 (.inRegion r22O ls :: k) [] .normal (lvPut (r22N 6) v lv) fr' := by
  have m6 : (6, u) ∈ lv := hb _ (List.mem_of_getElem? (i := 1) rfl)
  have m7 : (7, ptrV Y) ∈ lv := hb _ (List.mem_of_getElem? (i := 2) rfl)
  have m14 : (14, Value.pointer none) ∈ lv := hb _ (List.mem_of_getElem? (i := 3) rfl)
  have m15 : (15, Value.bool true) ∈ lv := hb _ (List.mem_of_getElem? (i := 4) rfl)
  obtain ⟨v1, q1, e1⟩ := hp 1 (pin (by kernel_rfl))
  have q1 : (147, v1) ∈ lv := q1
  have e1 : v1 = Value.bool true := e1
  subst e1
  obtain ⟨v5, q5, e5⟩ := hp 5 (pin (by kernel_rfl))
  have q5 : (151, v5) ∈ lv := q5
  have e5 : v5 = iV 0 := e5
  subst e5
  refine (r22_6.go (ρ := r22E u s' kd X Y n L) hf (by decide) (fun q hq => ?_) (fun q hq => by cases hq) (fun q hq => by cases hq)).mono fun g' w' hd => ?_
  · simp only [told, List.map_cons, List.map_nil, List.mem_cons, List.not_mem_nil, or_false] at hq
    rcases hq with rfl | rfl
    · exact q1
    · exact q5
  · obtain ⟨fr', u', h1, h2, h3, h4⟩ := hd
    exact ⟨fr', u', h1, h2, h3, h4⟩
theorem r22s_7 (H : R9 w0 u s s' kd X Y n L) (f : Fresh w0 w) (hf : FA 3 164 (.inRegion r22O (7 :: ls) :: k) [] .normal lv fr) (hb : ∀ x ∈ r22B u X Y, x ∈ lv) (hp : ∀ p ∈ preN r22O 7, ∃ v, (r22N p, v) ∈ lv ∧ r22V u s s' kd n L p v w) :
    Goes (G fr cs) w fun g' w' => ∃ fr' v, g' = G fr' cs ∧ Fresh w w' ∧ r22V u s s' kd n L 7 v w' ∧ FA 3 164 (.inRegion r22O ls :: k) [] .normal (lvPut (r22N 7) v lv) fr' := by
  have m6 : (6, u) ∈ lv := hb _ (List.mem_of_getElem? (i := 1) rfl)
  have m7 : (7, ptrV Y) ∈ lv := hb _ (List.mem_of_getElem? (i := 2) rfl)
  have m14 : (14, Value.pointer none) ∈ lv := hb _ (List.mem_of_getElem? (i := 3) rfl)
  have m15 : (15, Value.bool true) ∈ lv := hb _ (List.mem_of_getElem? (i := 4) rfl)
  obtain ⟨v1, q1, e1⟩ := hp 1 (pin (by kernel_rfl))
  have q1 : (147, v1) ∈ lv := q1
  have e1 : v1 = Value.bool true := e1
  subst e1
  obtain ⟨v6, q6, e6⟩ := hp 6 (pin (by kernel_rfl))
  have q6 : (152, v6) ∈ lv := q6
  have e6 : v6 = Value.bool true := e6
  subst e6
  refine (r22_7.go (ρ := r22E u s' kd X Y n L) hf (by decide) (fun q hq => ?_) (fun q hq => by cases hq) (fun q hq => by cases hq)).mono fun g' w' hd => ?_
  · simp only [told, List.map_cons, List.map_nil, List.mem_cons, List.not_mem_nil, or_false] at hq
    rcases hq with rfl | rfl
    · exact q1
    · exact q6
  · obtain ⟨fr', u', h1, h2, h3, h4⟩ := hd
    exact ⟨fr', u', h1, h2, h3, h4⟩
theorem r22s_8 (H : R9 w0 u s s' kd X Y n L) (f : Fresh w0 w) (hf : FA 3 164 (.inRegion r22O (8 :: ls) :: k) [] .normal lv fr) (hb : ∀ x ∈ r22B u X Y, x ∈ lv) (hp : ∀ p ∈ preN r22O 8, ∃ v, (r22N p, v) ∈ lv ∧ r22V u s s' kd n L p v w) :
    Goes (G fr cs) w fun g' w' => ∃ fr' v, g' = G fr' cs ∧ Fresh w w' ∧ r22V u s s' kd n L 8 v w' ∧ FA 3 164 (.inRegion r22O ls :: k) [] .normal (lvPut (r22N 8) v lv) fr' := by
  have m6 : (6, u) ∈ lv := hb _ (List.mem_of_getElem? (i := 1) rfl)
  have m7 : (7, ptrV Y) ∈ lv := hb _ (List.mem_of_getElem? (i := 2) rfl)
  have m14 : (14, Value.pointer none) ∈ lv := hb _ (List.mem_of_getElem? (i := 3) rfl)
  have m15 : (15, Value.bool true) ∈ lv := hb _ (List.mem_of_getElem? (i := 4) rfl)
  obtain ⟨v7, q7, e7⟩ := hp 7 (pin (by kernel_rfl))
  have q7 : (153, v7) ∈ lv := q7
  have e7 : v7 = Value.bool true := e7
  subst e7
  refine (r22_8.go (ρ := r22E u s' kd X Y n L) hf (by decide) (fun q hq => ?_) (fun q hq => by cases hq) (fun q hq => by cases hq)).mono fun g' w' hd => ?_
  · simp only [told, List.map_cons, List.map_nil, List.mem_cons, List.not_mem_nil, or_false] at hq
    rcases hq with rfl
    · exact q7
  · obtain ⟨fr', u', h1, h2, h3, h4⟩ := hd
    exact ⟨fr', u', h1, h2, h3, h4⟩
theorem r22s_9 (H : R9 w0 u s s' kd X Y n L) (f : Fresh w0 w) (hf : FA 3 164 (.inRegion r22O (9 :: ls) :: k) [] .normal lv fr) (hb : ∀ x ∈ r22B u X Y, x ∈ lv) (hp : ∀ p ∈ preN r22O 9, ∃ v, (r22N p, v) ∈ lv ∧ r22V u s s' kd n L p v w) :
    Goes (G fr cs) w fun g' w' => ∃ fr' v, g' = G fr' cs ∧ Fresh w w' ∧ r22V u s s' kd n L 9 v w' ∧ FA 3 164 (.inRegion r22O ls :: k) [] .normal (lvPut (r22N 9) v lv) fr' := by
  have m6 : (6, u) ∈ lv := hb _ (List.mem_of_getElem? (i := 1) rfl)
  have m7 : (7, ptrV Y) ∈ lv := hb _ (List.mem_of_getElem? (i := 2) rfl)
  have m14 : (14, Value.pointer none) ∈ lv := hb _ (List.mem_of_getElem? (i := 3) rfl)
  have m15 : (15, Value.bool true) ∈ lv := hb _ (List.mem_of_getElem? (i := 4) rfl)
  obtain ⟨v8, q8, e8⟩ := hp 8 (pin (by kernel_rfl))
  have q8 : (154, v8) ∈ lv := q8
  have e8 : v8 = Value.bool true := e8
  subst e8
  refine (r22_9.go (ρ := r22E u s' kd X Y n L) hf (by decide) (fun q hq => ?_) (fun q hq => by cases hq) (fun q hq => by cases hq)).mono fun g' w' hd => ?_
  · simp only [told, List.map_cons, List.map_nil, List.mem_cons, List.not_mem_nil, or_false] at hq
    rcases hq with rfl | rfl
    · exact q8
    · exact m6
  · obtain ⟨fr', u', h1, h2, h3, h4⟩ := hd
    exact ⟨fr', u', h1, h2, h3, h4⟩
theorem r22s_10 (H : R9 w0 u s s' kd X Y n L) (f : Fresh w0 w) (hf : FA 3 164 (.inRegion r22O (10 :: ls) :: k) [] .normal lv fr) (hb : ∀ x ∈ r22B u X Y, x ∈ lv) (hp : ∀ p ∈ preN r22O 10, ∃ v, (r22N p, v) ∈ lv ∧ r22V u s s' kd n L p v w) :
    Goes (G fr cs) w fun g' w' => ∃ fr' v, g' = G fr' cs ∧ Fresh w w' ∧ r22V u s s' kd n L 10 v w' ∧ FA 3 164 (.inRegion r22O ls :: k) [] .normal (lvPut (r22N 10) v lv) fr' := by
  have m6 : (6, u) ∈ lv := hb _ (List.mem_of_getElem? (i := 1) rfl)
  have m7 : (7, ptrV Y) ∈ lv := hb _ (List.mem_of_getElem? (i := 2) rfl)
  have m14 : (14, Value.pointer none) ∈ lv := hb _ (List.mem_of_getElem? (i := 3) rfl)
  have m15 : (15, Value.bool true) ∈ lv := hb _ (List.mem_of_getElem? (i := 4) rfl)
  obtain ⟨v8, q8, e8⟩ := hp 8 (pin (by kernel_rfl))
  have q8 : (154, v8) ∈ lv := q8
  have e8 : v8 = Value.bool true := e8
  subst e8
  obtain ⟨v9, q9, e9⟩ := hp 9 (pin (by kernel_rfl))
  have q9 : (155, v9) ∈ lv := q9
  have e9 : v9 = u := e9
  rw [e9] at q9
  refine (r22_10.go (ρ := mkE [] [] [(50, u)]) (Q := fun v w' => r22V u s s' kd n L 10 v w') hf (by decide) (fun q hq => ?_) (fun w' f1 => ?_))
  · simp only [told, List.map_cons, List.map_nil, List.mem_cons, List.not_mem_nil, or_false] at hq
    rcases hq with rfl | rfl
    · exact q8
    · exact q9
  · exact ((numbers_all (H.err.keep (f.trans f1)) ((f.trans f1).cell H.ty) (by have := H.len; omega)).mono fun v w2 hd => ⟨hd.1, NumOut.ne hd.2⟩)
theorem r22s_11 (H : R9 w0 u s s' kd X Y n L) (f : Fresh w0 w) (hf : FA 3 164 (.inRegion r22O (11 :: ls) :: k) [] .normal lv fr) (hb : ∀ x ∈ r22B u X Y, x ∈ lv) (hp : ∀ p ∈ preN r22O 11, ∃ v, (r22N p, v) ∈ lv ∧ r22V u s s' kd n L p v w) :
    Goes (G fr cs) w fun g' w' => ∃ fr' v, g' = G fr' cs ∧ Fresh w w' ∧ r22V u s s' kd n L 11 v w' ∧ FA 3 164 (.inRegion r22O ls :: k) [] .normal (lvPut (r22N 11) v lv) fr' := by
  have m6 : (6, u) ∈ lv := hb _ (List.mem_of_getElem? (i := 1) rfl)
  have m7 : (7, ptrV Y) ∈ lv := hb _ (List.mem_of_getElem? (i := 2) rfl)
  have m14 : (14, Value.pointer none) ∈ lv := hb _ (List.mem_of_getElem? (i := 3) rfl)
  have m15 : (15, Value.bool true) ∈ lv := hb _ (List.mem_of_getElem? (i := 4) rfl)
  obtain ⟨v8, q8, e8⟩ := hp 8 (pin (by kernel_rfl))
  have q8 : (154, v8) ∈ lv := q8
  have e8 : v8 = Value.bool true := e8
  subst e8
  refine (r22_11.go (ρ := r22E u s' kd X Y n L) hf (by decide) (fun q hq => ?_) (fun q hq => by cases hq) (errN_ok H f)).mono fun g' w' hd => ?_
  · simp only [told, List.map_cons, List.map_nil, List.mem_cons, List.not_mem_nil, or_false] at hq
    rcases hq with rfl | rfl
    · exact q8
    · exact m7
  · obtain ⟨fr', u', h1, h2, h3, h4⟩ := hd
    exact ⟨fr', u', h1, h2, h3, h4⟩
theorem r22s_12 (H : R9 w0 u s s' kd X Y n L) (f : Fresh w0 w) (hf : FA 3 164 (.inRegion r22O (12 :: ls) :: k) [] .normal lv fr) (hb : ∀ x ∈ r22B u X Y, x ∈ lv) (hp : ∀ p ∈ preN r22O 12, ∃ v, (r22N p, v) ∈ lv ∧ r22V u s s' kd n L p v w) :
    Goes (G fr cs) w fun g' w' => ∃ fr' v, g' = G fr' cs ∧ Fresh w w' ∧ r22V u s s' kd n L 12 v w' ∧ FA 3 164 (.inRegion r22O ls :: k) [] .normal (lvPut (r22N 12) v lv) fr' := by
  have m6 : (6, u) ∈ lv := hb _ (List.mem_of_getElem? (i := 1) rfl)
  have m7 : (7, ptrV Y) ∈ lv := hb _ (List.mem_of_getElem? (i := 2) rfl)
  have m14 : (14, Value.pointer none) ∈ lv := hb _ (List.mem_of_getElem? (i := 3) rfl)
  have m15 : (15, Value.bool true) ∈ lv := hb _ (List.mem_of_getElem? (i := 4) rfl)
  obtain ⟨v8, q8, e8⟩ := hp 8 (pin (by kernel_rfl))
  have q8 : (154, v8) ∈ lv := q8
  have e8 : v8 = Value.bool true := e8
  subst e8
  obtain ⟨v11, q11, e11⟩ := hp 11 (pin (by kernel_rfl))
  have q11 : (157, v11) ∈ lv := q11
  have e11 : v11 = errV kd n s' := e11
  subst e11
  refine (r22_12.go (ρ := mkE [] [] [(50, errV kd n s')]) (Q := fun v w' => r22V u s s' kd n L 12 v w') hf (by decide) (fun q hq => ?_) (fun w' f1 => ?_))
  · simp only [told, List.map_cons, List.map_nil, List.mem_cons, List.not_mem_nil, or_false] at hq
    rcases hq with rfl | rfl
    · exact q8
    · exact q11
  · exact ((refNumbers_all H.err.lt H.k0 (H.nums.keep (f.trans f1)) (by have := H.len; omega)).mono fun v w2 hd => ⟨hd.1, NumOut.ne hd.2⟩)
theorem r22s_13 (H : R9 w0 u s s' kd X Y n L) (f : Fresh w0 w) (hf : FA 3 164 (.inRegion r22O (13 :: ls) :: k) [] .normal lv fr) (hb : ∀ x ∈ r22B u X Y, x ∈ lv) (hp : ∀ p ∈ preN r22O 13, ∃ v, (r22N p, v) ∈ lv ∧ r22V u s s' kd n L p v w) :
    Goes (G fr cs) w fun g' w' => ∃ fr' v, g' = G fr' cs ∧ Fresh w w' ∧ r22V u s s' kd n L 13 v w' ∧ FA 3 164 (.inRegion r22O ls :: k) [] .normal (lvPut (r22N 13) v lv) fr' := by
  have m6 : (6, u) ∈ lv := hb _ (List.mem_of_getElem? (i := 1) rfl)
  have m7 : (7, ptrV Y) ∈ lv := hb _ (List.mem_of_getElem? (i := 2) rfl)
  have m14 : (14, Value.pointer none) ∈ lv := hb _ (List.mem_of_getElem? (i := 3) rfl)
  have m15 : (15, Value.bool true) ∈ lv := hb _ (List.mem_of_getElem? (i := 4) rfl)
  obtain ⟨v8, q8, e8⟩ := hp 8 (pin (by kernel_rfl))
  have q8 : (154, v8) ∈ lv := q8
  have e8 : v8 = Value.bool true := e8
  subst e8
  obtain ⟨v10, q10, e10⟩ := hp 10 (pin (by kernel_rfl))
  have q10 : (156, v10) ∈ lv := q10
  obtain ⟨v12, q12, e12⟩ := hp 12 (pin (by kernel_rfl))
  have q12 : (158, v12) ∈ lv := q12
  refine (r22_13.go (ρ := mkE [] [] [(50, v10), (51, v12)]) (Q := fun v w' => r22V u s s' kd n L 13 v w') hf (by decide) (fun q hq => ?_) (fun w' f1 => ?_))
  · simp only [told, List.map_cons, List.map_nil, List.mem_cons, List.not_mem_nil, or_false] at hq
    rcases hq with rfl | rfl | rfl
    · exact q8
    · exact q10
    · exact q12
  · exact (same_all (NumsNe.keep (show NumsNe w v10 (numsOf L kd n) from e10) f1) (NumsNe.keep (show NumsNe w v12 (numsOf L kd n) from e12) f1) (numsOf_len (by have := H.len; omega)))
theorem r22s_14 (H : R9 w0 u s s' kd X Y n L) (f : Fresh w0 w) (hf : FA 3 164 (.inRegion r22O (14 :: ls) :: k) [] .normal lv fr) (hb : ∀ x ∈ r22B u X Y, x ∈ lv) (hp : ∀ p ∈ preN r22O 14, ∃ v, (r22N p, v) ∈ lv ∧ r22V u s s' kd n L p v w) :
    Goes (G fr cs) w fun g' w' => ∃ fr' v, g' = G fr' cs ∧ Fresh w w' ∧ r22V u s s' kd n L 14 v w' ∧ FA 3 164 (.inRegion r22O ls :: k) [] .normal (lvPut (r22N 14) v lv) fr' := by
  have m6 : (6, u) ∈ lv := hb _ (List.mem_of_getElem? (i := 1) rfl)
  have m7 : (7, ptrV Y) ∈ lv := hb _ (List.mem_of_getElem? (i := 2) rfl)
  have m14 : (14, Value.pointer none) ∈ lv := hb _ (List.mem_of_getElem? (i := 3) rfl)
  have m15 : (15, Value.bool true) ∈ lv := hb _ (List.mem_of_getElem? (i := 4) rfl)
  obtain ⟨v8, q8, e8⟩ := hp 8 (pin (by kernel_rfl))
  have q8 : (154, v8) ∈ lv := q8
  have e8 : v8 = Value.bool true := e8
  subst e8
  obtain ⟨v13, q13, e13⟩ := hp 13 (pin (by kernel_rfl))
  have q13 : (159, v13) ∈ lv := q13
  have e13 : v13 = Value.bool true := e13
  subst e13
  refine (r22_14.go (ρ := r22E u s' kd X Y n L) hf (by decide) (fun q hq => ?_) (fun q hq => by cases hq) (fun q hq => by cases hq)).mono fun g' w' hd => ?_
  · simp only [told, List.map_cons, List.map_nil, List.mem_cons, List.not_mem_nil, or_false] at hq
    rcases hq with rfl | rfl
    · exact q8
    · exact q13
  · obtain ⟨fr', u', h1, h2, h3, h4⟩ := hd
    exact ⟨fr', u', h1, h2, h3, h4⟩
theorem r22s_15 (H : R9 w0 u s s' kd X Y n L) (f : Fresh w0 w) (hf : FA 3 164 (.inRegion r22O (15 :: ls) :: k) [] .normal lv fr) (hb : ∀ x ∈ r22B u X Y, x ∈ lv) (hp : ∀ p ∈ preN r22O 15, ∃ v, (r22N p, v) ∈ lv ∧ r22V u s s' kd n L p v w) :
    Goes (G fr cs) w fun g' w' => ∃ fr' v, g' = G fr' cs ∧ Fresh w w' ∧ r22V u s s' kd n L 15 v w' ∧ FA 3 164 (.inRegion r22O ls :: k) [] .normal (lvPut (r22N 15) v lv) fr' := by
  have m6 : (6, u) ∈ lv := hb _ (List.mem_of_getElem? (i := 1) rfl)
  have m7 : (7, ptrV Y) ∈ lv := hb _ (List.mem_of_getElem? (i := 2) rfl)
  have m14 : (14, Value.pointer none) ∈ lv := hb _ (List.mem_of_getElem? (i := 3) rfl)
  have m15 : (15, Value.bool true) ∈ lv := hb _ (List.mem_of_getElem? (i := 4) rfl)
  obtain ⟨v14, q14, e14⟩ := hp 14 (pin (by kernel_rfl))
  have q14 : (160, v14) ∈ lv := q14
  have e14 : v14 = Value.bool true := e14
  subst e14
  refine (r22_15.go (ρ := r22E u s' kd X Y n L) hf (by decide) (fun q hq => ?_) (fun q hq => by cases hq) (fun q hq => by cases hq)).mono fun g' w' hd => ?_
  · simp only [told, List.map_cons, List.map_nil, List.mem_cons, List.not_mem_nil, or_false] at hq
    rcases hq with rfl
    · exact q14
  · obtain ⟨fr', u', h1, h2, h3, h4⟩ := hd
    exact ⟨fr', u', h1, h2, h3, h4⟩
theorem r22s_16 (H : R9 w0 u s s' kd X Y n L) (f : Fresh w0 w) (hf : FA 3 164 (.inRegion r22O (16 :: ls) :: k) [] .normal lv fr) (hb : ∀ x ∈ r22B u X Y, x ∈ lv) (hp : ∀ p ∈ preN r22O 16, ∃ v, (r22N p, v) ∈ lv ∧ r22V u s s' kd n L p v w) :
    Goes (G fr cs) w fun g' w' => ∃ fr' v, g' = G fr' cs ∧ Fresh w w' ∧ r22V u s s' kd n L 16 v w' ∧ FA 3 164 (.inRegion r22O ls :: k) [] .normal (lvPut (r22N 16) v lv) fr' := by
  have m6 : (6, u) ∈ lv := hb _ (List.mem_of_getElem? (i := 1) rfl)
  have m7 : (7, ptrV Y) ∈ lv := hb _ (List.mem_of_getElem? (i := 2) rfl)
  have m14 : (14, Value.pointer none) ∈ lv := hb _ (List.mem_of_getElem? (i := 3) rfl)
  have m15 : (15, Value.bool true) ∈ lv := hb _ (List.mem_of_getElem? (i := 4) rfl)
  obtain ⟨v15, q15, e15⟩ := hp 15 (pin (by kernel_rfl))
  have q15 : (161, v15) ∈ lv := q15
  have e15 : v15 = Value.bool true := e15
  subst e15
  refine (r22_16.go (ρ := mkE [] [] []) (Q := fun v w' => r22V u s s' kd n L 16 v w') hf (by decide) (fun q hq => ?_) (fun w' f1 => ?_))
  · simp only [told, List.map_cons, List.map_nil, List.mem_cons, List.not_mem_nil, or_false] at hq
    rcases hq with rfl
    · exact q15
  · exact (works_all ((f.trans f1).cell H.ty) (H.tab.keep (f.trans f1)))
theorem r22s_17 (H : R9 w0 u s s' kd X Y n L) (f : Fresh w0 w) (hf : FA 3 164 (.inRegion r22O (17 :: ls) :: k) [] .normal lv fr) (hb : ∀ x ∈ r22B u X Y, x ∈ lv) (hp : ∀ p ∈ preN r22O 17, ∃ v, (r22N p, v) ∈ lv ∧ r22V u s s' kd n L p v w) :
    Goes (G fr cs) w fun g' w' => ∃ fr' v, g' = G fr' cs ∧ Fresh w w' ∧ r22V u s s' kd n L 17 v w' ∧ FA 3 164 (.inRegion r22O ls :: k) [] .normal (lvPut (r22N 17) v lv) fr' := by
  have m6 : (6, u) ∈ lv := hb _ (List.mem_of_getElem? (i := 1) rfl)
  have m7 : (7, ptrV Y) ∈ lv := hb _ (List.mem_of_getElem? (i := 2) rfl)
  have m14 : (14, Value.pointer none) ∈ lv := hb _ (List.mem_of_getElem? (i := 3) rfl)
  have m15 : (15, Value.bool true) ∈ lv := hb _ (List.mem_of_getElem? (i := 4) rfl)
  obtain ⟨v15, q15, e15⟩ := hp 15 (pin (by kernel_rfl))
  have q15 : (161, v15) ∈ lv := q15
  have e15 : v15 = Value.bool true := e15
  subst e15
  obtain ⟨v16, q16, e16⟩ := hp 16 (pin (by kernel_rfl))
  have q16 : (162, v16) ∈ lv := q16
  have e16 : v16 = Value.bool true := e16
  subst e16
  refine (r22_17.go (ρ := r22E u s' kd X Y n L) hf (by decide) (fun q hq => ?_) (fun q hq => by cases hq) (fun q hq => by cases hq)).mono fun g' w' hd => ?_
  · simp only [told, List.map_cons, List.map_nil, List.mem_cons, List.not_mem_nil, or_false] at hq
    rcases hq with rfl | rfl
    · exact q15
    · exact q16
  · obtain ⟨fr', u', h1, h2, h3, h4⟩ := hd
    exact ⟨fr', u', h1, h2, h3, h4⟩
theorem r22s_18 (H : R9 w0 u s s' kd X Y n L) (f : Fresh w0 w) (hf : FA 3 164 (.inRegion r22O (18 :: ls) :: k) [] .normal lv fr) (hb : ∀ x ∈ r22B u X Y, x ∈ lv) (hp : ∀ p ∈ preN r22O 18, ∃ v, (r22N p, v) ∈ lv ∧ r22V u s s' kd n L p v w) :
    Goes (G fr cs) w fun g' w' => ∃ fr' v, g' = G fr' cs ∧ Fresh w w' ∧ r22V u s s' kd n L 18 v w' ∧ FA 3 164 (.inRegion r22O ls :: k) [] .normal (lvPut (r22N 18) v lv) fr' := by
  have m6 : (6, u) ∈ lv := hb _ (List.mem_of_getElem? (i := 1) rfl)
  have m7 : (7, ptrV Y) ∈ lv := hb _ (List.mem_of_getElem? (i := 2) rfl)
  have m14 : (14, Value.pointer none) ∈ lv := hb _ (List.mem_of_getElem? (i := 3) rfl)
  have m15 : (15, Value.bool true) ∈ lv := hb _ (List.mem_of_getElem? (i := 4) rfl)
  obtain ⟨v17, q17, e17⟩ := hp 17 (pin (by kernel_rfl))
  have q17 : (163, v17) ∈ lv := q17
  have e17 : v17 = Value.bool true := e17
  subst e17
  refine (r22_18.go (ρ := r22E u s' kd X Y n L) hf (by decide) (fun q hq => ?_) (fun q hq => by cases hq) (fun q hq => by cases hq)).mono fun g' w' hd => ?_
  · simp only [told, List.map_cons, List.map_nil, List.mem_cons, List.not_mem_nil, or_false] at hq
    rcases hq with rfl
    · exact q17
  · obtain ⟨fr', u', h1, h2, h3, h4⟩ := hd
    exact ⟨fr', u', h1, h2, h3, h4⟩
theorem r22_step (H : R9 w0 u s s' kd X Y n L) : ∀ i, i < r22O.size → ∀ (ls : List Nat) (w : World) (fr : Frame) (lv : List (Nat × Value)), Fresh w0 w → FA 3 164 (.inRegion r22O (i :: ls) :: k) [] .normal lv fr → (∀ x ∈ r22B u X Y, x ∈ lv) → (∀ p ∈ preN r22O i, ∃ v, (r22N p, v) ∈ lv ∧ r22V u s s' kd n L p v w) →
    Goes (G fr cs) w fun g' w' => ∃ fr' v, g' = G fr' cs ∧ Fresh w w' ∧ r22V u s s' kd n L i v w' ∧ FA 3 164 (.inRegion r22O ls :: k) [] .normal (lvPut (r22N i) v lv) fr' := by
  intro i hi ls w fr lv f hf hb hp
  rw [r22Size] at hi
  rcases (by omega : i = 0 ∨ i = 1 ∨ i = 2 ∨ i = 3 ∨ i = 4 ∨ i = 5 ∨ i = 6 ∨ i = 7 ∨ i = 8 ∨ i = 9 ∨ i = 10 ∨ i = 11 ∨ i = 12 ∨ i = 13 ∨ i = 14 ∨ i = 15 ∨ i = 16 ∨ i = 17 ∨ i = 18) with rfl | rfl | rfl | rfl | rfl | rfl | rfl | rfl | rfl | rfl | rfl | rfl | rfl | rfl | rfl | rfl | rfl | rfl | rfl
  · exact r22s_0 H f hf hb hp
  · exact r22s_1 H f hf hb hp
  · exact r22s_2 H f hf hb hp
  · exact r22s_3 H f hf hb hp
  · exact r22s_4 H f hf hb hp
  · exact r22s_5 H f hf hb hp
  · exact r22s_6 H f hf hb hp
  · exact r22s_7 H f hf hb hp
  · exact r22s_8 H f hf hb hp
  · exact r22s_9 H f hf hb hp
  · exact r22s_10 H f hf hb hp
  · exact r22s_11 H f hf hb hp
  · exact r22s_12 H f hf hb hp
  · exact r22s_13 H f hf hb hp
  · exact r22s_14 H f hf hb hp
  · exact r22s_15 H f hf hb hp
  · exact r22s_16 H f hf hb hp
  · exact r22s_17 H f hf hb hp
  · exact r22s_18 H f hf hb hp
theorem r22_all (H : R9 w0 u s s' kd X Y n L) (hf : FA 3 164 (.code (mnQ [1,1,1,1,1,1,1,1,1,1,1,1,1,1,1,1,0]) :: k) [] .normal (r22B u X Y) fr) :
    Goes (G fr cs) w0 fun g' w' => ∃ fr', g' = G fr' cs ∧ Fresh w0 w' ∧ FA 3 164 (.inRegion r22O [] :: k) [] .normal ((4, .bool true) :: r22B u X Y) fr' := by
  obtain ⟨id, hid⟩ := draw_is r22Draw
  rw [hid] at hf
  refine (draw_in hf).trans fun g1 w1 hd => ?_
  obtain ⟨ls, fr1, rfl, f1, hs, F1⟩ := hd
  refine (draw_all (b := r22B u X Y) (nm := r22N) (val := r22V u s s' kd n L) (w0 := w0) (pre_ok r22Size r22Pre) (fun i hi x hx => ?_) (fun i j hi hj hne h => ?_) r22V_keep (r22_step H) ls [] f1 (fun i hi => by cases hi) hs ⟨_, F1, fun x hx => hx, fun i hi => by cases hi⟩).mono fun g2 w2 hd2 => ?_
  · rw [r22Size] at hi
    exact r22B_ne i hi x hx
  · rw [r22Size] at hi hj
    exact hne (r22N_inj hi hj h.symm)
  · obtain ⟨fr2, lv, rfl, f2, F2, hb2, hv⟩ := hd2
    obtain ⟨v, q, hval⟩ := hv 18 (by rw [r22Size]; decide)
    have hval : v = .bool true := hval
    subst hval
    exact ⟨fr2, rfl, f2, F2.sub fun x hx => by
      rcases List.mem_cons.1 hx with rfl | hx
      · exact q
      · exact hb2 x hx⟩
end
end Go.Proofs.YtojifefdokekpaaDoor
set_option maxRecDepth 100000
set_option linter.unusedVariables false
set_option linter.unusedSimpArgs false
namespace Go.Proofs.YtojifefdokekpaaDoor
open Go.Proofs.YtojifefdokekpaaDoor.SX Go.Conc
section
variable {w w0 : World} {cs : List Frame} {fr : Frame} {u s s' : Value} {kd X Y B c N : Nat} {n : Int} {L : List Int}
theorem mn_fill (hB : w0.heap.size ≤ B) (hN : N ≤ 1000000) : ∀ (m i : Nat) {w1 : World} {fr : Frame} {xs : List Value}, i + m = N → Fresh w0 w1 → (Blk.vec 3 c xs).at Tryd.prog w1 B → xs.length = N → FA 3 164 mnTB [] .normal (r9B u X Y ++ [(8, slV B 0 N c), (9, iV i)]) fr →
    Goes (G fr cs) w1 fun g' w' => ∃ fr', g' = G fr' cs ∧ Fresh w0 w' ∧ FA 3 164 mnTC [] .normal (r22B u X Y) fr'
  | 0, i, w1, fr, xs, him, fw, hv, hx, hf => by
    have hlv : told (mkE [(9, i), (51, N), (59, c)] [(61, X), (62, Y), (54, B)] [(51, u)]) mnBJ = r9B u X Y ++ [(8, slV B 0 N c), (9, iV i)] := rfl
    refine (pieceF (ρ := mkE [(9, i), (51, N), (59, c)] [(61, X), (62, Y), (54, B)] [(51, u)]) (mnK (stOf fr)) rfl rfl (mnKLow _) (by kernel_rfl) (hf.rel (.inl rfl) mnBJ hlv rfl) (fun q hq => by
      obtain rfl := List.mem_singleton.1 hq
      show decide ((i : Int) < (((((N : Nat) : Int)).toNat : Nat) : Int)) = false
      exact decide_eq_false (by omega)) (fun q hq => by cases hq) List.nodup_nil).mono fun g1 w2 hd => ?_
    obtain ⟨ρ', fr1, rfl, f1, Ag, F1, _⟩ := hd
    have b61 : ρ'.b 61 = X := Ag.b 61 (by decide)
    have b62 : ρ'.b 62 = Y := Ag.b 62 (by decide)
    have v51 : ρ'.v 51 = u := congrFun Ag.v 51
    refine ⟨fr1, rfl, fw.trans f1, ?_⟩
    unfold r22B r9B
    rw [← b61, ← b62, ← v51]
    exact F1
  | m + 1, i, w1, fr, xs, him, fw, hv, hx, hf => by
    have hlt : i < xs.length := by omega
    obtain ⟨ρ, hρ⟩ : ∃ ρ : Env, ρ = mkE [(9, i), (51, N), (59, c)] [(61, X), (62, Y), (54, B)] [(51, u), (65, .agg xs.toArray), (66, xs[i])] := ⟨_, rfl⟩
    have hlv : told ρ mnBJ = r9B u X Y ++ [(8, slV B 0 N c), (9, iV i)] := by rw [hρ]; rfl
    have b54 : ρ.b 54 = B := by rw [hρ]; rfl
    refine (pieceW (ρ := ρ) (mnPJ []) (mnPJ [(.tn (v 9), i64 (.lit (-5)))]) (mnJ (stOf fr)) rfl rfl (mnJLow _) (by kernel_rfl) (hf.rel (.inl rfl) mnBJ hlv rfl) (fun q hq => ltB_ok (I := i) (N := N) (by rw [hρ]; rfl) (by rw [hρ]; rfl) (by omega) q hq) (fun q hq => by cases hq) (fun q hq => ?_) one_nodup one_nodup).trans fun g1 w2 hd => ?_
    · obtain rfl := List.mem_singleton.1 hq
      refine ⟨.vec 3 c xs, by rw [← b54] at hv; exact hv, rfl, by rw [hρ]; rfl, fun inf hinf => ?_, fun p hp => ?_, by rw [hρ]; rfl⟩
      · rw [size3 inf hinf, hx, hρ]
        show N = ((N : Nat) : Int).toNat * 1
        omega
      · obtain rfl := List.mem_singleton.1 hp
        rw [hρ]
        show xs[((((i : Int).toNat : Nat) : Int)).toNat]? = some xs[i]
        have : ((((i : Int).toNat : Nat) : Int)).toNat = i := by omega
        rw [this]
        exact List.getElem?_eq_getElem hlt
    · obtain ⟨ρ', fr1, rfl, kp, Ag, F1, bl⟩ := hd
      have i9 : ρ'.i 9 = i := (Ag.i 9 (by decide)).trans (by rw [hρ]; rfl)
      have i51 : ρ'.i 51 = N := (Ag.i 51 (by decide)).trans (by rw [hρ]; rfl)
      have i59 : ρ'.i 59 = c := (Ag.i 59 (by decide)).trans (by rw [hρ]; rfl)
      have b54' : ρ'.b 54 = B := (Ag.b 54 (by decide)).trans b54
      have b61 : ρ'.b 61 = X := (Ag.b 61 (by decide)).trans (by rw [hρ]; rfl)
      have b62 : ρ'.b 62 = Y := (Ag.b 62 (by decide)).trans (by rw [hρ]; rfl)
      have v51 : ρ'.v 51 = u := (congrFun Ag.v 51).trans (by rw [hρ]; rfl)
      have v65 : ρ'.v 65 = .agg xs.toArray := (congrFun Ag.v 65).trans (by rw [hρ]; rfl)
      have hb : (Blk.vec 3 (ρ'.i 59).toNat (wrote ρ' (listV (ρ'.v 65)) [(.tn (v 9), i64 (.lit (-5)))] ++ [])).at Tryd.prog w2 (ρ'.b 54) := (bl _ (List.mem_singleton.2 rfl)).2
      have hlen : (wrote ρ' (listV (ρ'.v 65)) [(.tn (v 9), i64 (.lit (-5)))]).length = N := by
        rw [v65]
        show (List.set xs _ _).length = N
        rw [List.length_set, hx]
      rw [List.append_nil, i59, b54'] at hb
      have f2 : Fresh w0 w2 := Keeps.trans fw (kp.mono fun q hq => by
        rcases hq with hq | ⟨y, hy, e⟩
        · exact Nat.le_trans fw.size hq
        · obtain rfl := List.mem_singleton.1 hy
          have e : ρ.b 54 = q := e
          rw [← e, b54]; exact hB)
      refine mn_fill hB hN m (i + 1) (by omega) f2 hb hlen ?_
      have e1 : AV.evs ρ' [ptr0 61, .opq 51, ptr0 62, slF, i64 (.op .add .i64 (v 9) (.lit 1))] = [ptrV X, u, ptrV Y, slV B 0 N c, iV ((i + 1 : Nat) : Int)] := by
        show [ptrV (ρ'.b 61), ρ'.v 51, ptrV (ρ'.b 62), Value.slice (some ⟨ρ'.b 54, 0, none⟩) (ρ'.i 51).toNat (ρ'.i 59).toNat, iV (iop .add .i64 (ρ'.i 9) 1)] = _
        rw [b61, b62, v51, b54', i51, i59, i9, inc (by omega)]
        rfl
      dsimp only at F1
      rw [e1] at F1
      exact F1
theorem mn_mid (H : R9 w u s s' kd X Y n L) (hf : FA 3 164 mnT9 [] .normal ((86, .bool false) :: r9B u X Y) fr) :
    Goes (G fr cs) w fun g' w' => ∃ fr', g' = G fr' cs ∧ Fresh w w' ∧ FA 3 164 mnTC [] .normal (r22B u X Y) fr' := by
  have hf' : FA 3 164 mnT9 [] .normal (r9B u X Y ++ [(86, .bool false)]) fr := hf.sub fun q hq => by
    rcases List.mem_append.1 hq with hq | hq
    · exact List.mem_cons_of_mem _ hq
    · obtain rfl := List.mem_singleton.1 hq
      exact List.mem_cons_self ..
  have hlv : told (mkE [] [(61, X), (62, Y)] [(51, u)]) (mnB9 ++ [(86, FB)]) = r9B u X Y ++ [(86, .bool false)] := rfl
  refine (pieceF (ρ := mkE [] [(61, X), (62, Y)] [(51, u)]) (mnH (stOf fr)) rfl rfl (mnHLow _) (by kernel_rfl) (hf'.rel (.inl rfl) (mnB9 ++ [(86, FB)]) hlv rfl) (fun q hq => by cases hq) (fun q hq => by cases hq) List.nodup_nil).trans fun g1 w1 hd => ?_
  obtain ⟨ρ1, fr1, rfl, f1, Ag, F1, _⟩ := hd
  have b61 : ρ1.b 61 = X := Ag.b 61 (by decide)
  have b62 : ρ1.b 62 = Y := Ag.b 62 (by decide)
  have v51 : ρ1.v 51 = u := congrFun Ag.v 51
  have F1' : FA 3 164 (mnTA [1, 2]) [] .normal [(2, ptrV X), (6, u), (7, ptrV Y), (87, u)] fr1 := by
    rw [← b61, ← b62, ← v51]; exact F1
  refine (op_call (ρ := mkE [] [] [(50, u)]) (lA := [(87, .opq 50)]) (bs := []) (mem := []) (f := 9) (args := [.opq 50]) (d := 88) (Q := fun v w' => ∃ w2, Fresh w1 w2 ∧ Fresh w2 w' ∧ NumOut w2 v (numsOf L kd n) w') F1' (fun q hq => List.mem_of_getElem? (i := 3) (by rw [List.mem_singleton.1 hq]; rfl)) (fun st => by kernel_rfl) (fun st => by kernel_rfl) (fun st => by kernel_rfl) (fun p hp => by cases hp) (fun p hp => by cases hp) (by kernel_rfl) (by decide) rfl (fun w2 f2 => (numbers_all (H.err.keep (f1.trans f2)) ((f1.trans f2).cell H.ty) (by have := H.len; omega)).mono fun v w3 O => ⟨w2, f2, O.1, O.2⟩)).trans fun g2 w2 hd2 => ?_
  obtain ⟨fr2, v, rfl, ⟨wa, fa, fb, hO⟩, F2⟩ := hd2
  have F2' : FA 3 164 (mnTA [2]) [] .normal (r9B u X Y ++ [(88, v)]) fr2 := F2.sub fun q hq => by
    rcases List.mem_append.1 hq with hq | hq
    · simp only [r9B, List.mem_cons, List.not_mem_nil, or_false] at hq
      rcases hq with rfl | rfl | rfl
      · exact List.mem_cons_of_mem _ (List.mem_filter.2 ⟨List.mem_of_getElem? (i := 0) rfl, rfl⟩)
      · exact List.mem_cons_of_mem _ (List.mem_filter.2 ⟨List.mem_of_getElem? (i := 1) rfl, rfl⟩)
      · exact List.mem_cons_of_mem _ (List.mem_filter.2 ⟨List.mem_of_getElem? (i := 2) rfl, rfl⟩)
    · obtain rfl := List.mem_singleton.1 hq
      exact List.mem_cons_self ..
  have hlv2 : told (mkE [] [(61, X), (62, Y)] [(51, u), (52, v)]) (mnB9 ++ [(88, .opq 52)]) = r9B u X Y ++ [(88, v)] := rfl
  refine (pieceF (ρ := mkE [] [(61, X), (62, Y)] [(51, u), (52, v)]) (mnI (stOf fr2)) rfl rfl (mnILow _) (by kernel_rfl) (F2'.rel (.inl rfl) (mnB9 ++ [(88, .opq 52)]) hlv2 rfl) (fun q hq => by cases hq) (fun q hq => by cases hq) List.nodup_nil).trans fun g3 w3 hd3 => ?_
  obtain ⟨ρ3, fr3, rfl, f3, Ag3, F3, _⟩ := hd3
  have c61 : ρ3.b 61 = X := Ag3.b 61 (by decide)
  have c62 : ρ3.b 62 = Y := Ag3.b 62 (by decide)
  have c51 : ρ3.v 51 = u := congrFun Ag3.v 51
  have c52 : ρ3.v 52 = v := congrFun Ag3.v 52
  have F3' : FA 3 164 mnTB [] .normal (r9B u X Y ++ [(8, v), (9, iV 0)]) fr3 := by
    unfold r9B
    rw [← c61, ← c62, ← c51, ← c52]; exact F3
  have fwa : Fresh w wa := f1.trans fa
  have fw3 : Fresh wa w3 := fb.trans f3
  have hlenN : (numsOf L kd n).length ≤ 1000000 := numsOf_len (by have := H.len; omega)
  rcases hO with ⟨rfl, _⟩ | ⟨_, B, c, rfl, hB, hv⟩
  · have hlv3 : told (mkE [] [(61, X), (62, Y)] [(51, u)]) mnBN = r9B u X Y ++ [(8, nilV), (9, iV 0)] := rfl
    refine (pieceF (ρ := mkE [] [(61, X), (62, Y)] [(51, u)]) (mnKn (stOf fr3)) rfl rfl (mnKnLow _) (by kernel_rfl) (F3'.rel (.inl rfl) mnBN hlv3 rfl) (fun q hq => by cases hq) (fun q hq => by cases hq) List.nodup_nil).mono fun g4 w4 hd4 => ?_
    obtain ⟨ρ4, fr4, rfl, f4, Ag4, F4, _⟩ := hd4
    have d61 : ρ4.b 61 = X := Ag4.b 61 (by decide)
    have d62 : ρ4.b 62 = Y := Ag4.b 62 (by decide)
    have d51 : ρ4.v 51 = u := congrFun Ag4.v 51
    refine ⟨fr4, rfl, fwa.trans (fw3.trans f4), ?_⟩
    unfold r22B r9B
    rw [← d61, ← d62, ← d51]
    exact F4
  · refine (mn_fill hB hlenN _ 0 (Nat.zero_add _) fw3 (blk_keep hv f3) (List.length_map _) F3').mono fun g4 w4 hd4 => ?_
    obtain ⟨fr4, rfl, f4, F4⟩ := hd4
    exact ⟨fr4, rfl, fwa.trans f4, F4⟩
end
end Go.Proofs.YtojifefdokekpaaDoor
set_option maxRecDepth 100000
set_option linter.unusedVariables false
set_option linter.unusedSimpArgs false
namespace Go.Proofs.YtojifefdokekpaaDoor
open Go.Proofs.YtojifefdokekpaaDoor.SX Go.Conc
section
variable {w w' : World} {u s s' e : Value} {kd X Y : Nat} {n num K : Int} {L l : List Int}
theorem R9.keep (H : R9 w u s s' kd X Y n L) (f : Fresh w w') : R9 w' u s s' kd X Y n L :=
  ⟨H.err.keep f, f.cell H.c0, f.cell H.c1, f.cell H.c2, f.cell H.y0, f.cell H.y1, f.cell H.y2, H.nums.keep f, H.ne.keep f, H.lI, H.nI, H.k0, H.kn, H.len, f.cell H.ty, H.tab.keep f⟩
theorem R3.keep (H : R3 w e s kd X n num l) (f : Fresh w w') : R3 w' e s kd X n num l :=
  ⟨H.err.keep f, f.cell H.c0, f.cell H.c1, f.cell H.c2, H.nums.keep f, H.lI, H.nI, H.k0, H.s0, H.kn, H.len, f.cell H.ty, H.tab.keep f⟩
theorem tells_all (h : NumsAt w s l) (hl : ∀ x ∈ l, I64 x) (hn : I64 n) (hnum : I64 num) (hp : PlainAt w) (hty : TypeAt w) (ht : TabAt w) :
    Ans 3 #[.agg #[iV K, iV n, s], iV num] w fun v w' => Fresh w w' ∧ v = .bool true := by
  refine ans_of fun cs => ?_
  refine (mn_in h hl hn hp hty ht (enter2 ent3 rfl (.agg #[iV K, iV n, s]) (iV num))).trans fun g1 w1 hd => ?_
  obtain ⟨fr1, e, u1, X, rfl, f1, H, F1⟩ := hd
  refine (r3_all H F1).trans fun g2 w2 hd2 => ?_
  obtain ⟨fr2, rfl, f2, F2⟩ := hd2
  refine (mn_wrap (H.keep f2).err F2).trans fun g3 w3 hd3 => ?_
  obtain ⟨fr3, u, rfl, f3, hu, F3⟩ := hd3
  refine (mn_more (H.keep (f2.trans f3)) hnum hu F3).trans fun g4 w4 hd4 => ?_
  obtain ⟨fr4, Y, s', rfl, f4, H4, F4⟩ := hd4
  refine (r9_all H4 F4).trans fun g5 w5 hd5 => ?_
  obtain ⟨fr5, rfl, f5, F5⟩ := hd5
  refine (mn_mid (H4.keep f5) F5).trans fun g6 w6 hd6 => ?_
  obtain ⟨fr6, rfl, f6, F6⟩ := hd6
  refine (r22_all (H4.keep (f5.trans f6)) F6).trans fun g7 w7 hd7 => ?_
  obtain ⟨fr7, rfl, f7, F7⟩ := hd7
  have F7' : FA 3 164 mnTZ [] .normal [(4, .bool true)] fr7 := F7.sub fun q hq => by
    obtain rfl := List.mem_singleton.1 hq
    exact List.mem_cons_self ..
  refine (pieceF (ρ := mkE [] [] []) (mnZ (stOf fr7)) rfl rfl (mnZLow _) (by kernel_rfl) (F7'.rel (.inl rfl) [(4, TB)] rfl rfl) (fun q hq => by cases hq) (fun q hq => by cases hq) List.nodup_nil).trans fun g8 w8 hd8 => ?_
  obtain ⟨ρ8, fr8, rfl, f8, Ag8, F8, _⟩ := hd8
  refine (leave_tmp (fun st => by kernel_rfl) F8 (List.mem_singleton.2 rfl)).mono fun g9 w9 hd9 => ?_
  obtain ⟨fr9, rfl, rfl, hL⟩ := hd9
  exact ⟨fr9, _, rfl, hL, f1.trans (f2.trans (f3.trans (f4.trans (f5.trans (f6.trans (f7.trans f8)))))), rfl⟩
end
end Go.Proofs.YtojifefdokekpaaDoor
set_option maxRecDepth 100000
set_option linter.unusedVariables false
namespace Go.Proofs.YtojifefdokekpaaDoor
open Go.ChangeShapes Go.WideShapes Go.RowKit Go.Proofs.YtojifefdokekpaaDoor.SX
def fxLaid : List (String × DataW Unit) := [("math/bits.deBruijn32tab", Rows.laid_math_bits_deBruijn32tab), ("math/bits.deBruijn64tab", Rows.laid_math_bits_deBruijn64tab), ("internal/strconv.uint64pow10", Rows.laid_internal_strconv_uint64pow10), ("errors.errorType", Rows.laid_errors_errorType), ("treadle/treadlelaw12.plain", Rows.laid_treadle_treadlelaw12_plain)]
def fxData : List (String × DataW Unit) := [("math/bits.deBruijn32tab", Rows.laid_math_bits_deBruijn32tab), ("math/bits.deBruijn64tab", Rows.laid_math_bits_deBruijn64tab), ("internal/strconv.uint64pow10", Rows.laid_internal_strconv_uint64pow10), ("treadle/treadlelaw12.plain", Rows.laid_treadle_treadlelaw12_plain)]
theorem Tryd.et : Tryd.prog.globalNamed "errors.errorType" = some 1 := by kernel_rfl
theorem Tryd.pt : Tryd.prog.globalNamed "treadle/treadlelaw12.plain" = some 0 := by kernel_rfl
theorem Tryd.tt : Tryd.prog.globalNamed "internal/strconv.uint64pow10" = some 2 := by kernel_rfl
theorem Tryd.rt : (Tryd.prog.cutTypes.find? (·.1 == "internal/reflectlite.rtype")).map (·.2) = some 86 := by kernel_rfl
theorem Tryd.tsize : ∃ n, Tryd.prog.types.size = n ∧ ((List.range n).filter fun t => Tryd.prog.rowNamed t [101, 114, 114, 111, 114]) = [27] := ⟨_, rfl, by kernel_rfl⟩
theorem Tryd.star : "*" ++ "errors.errorString" = "*errors.errorString" := by decide
theorem Tryd.row117 (u : TypeId) (h : Tryd.prog.typeName? 3 u = some "*errors.errorString") : u = 117 :=
  typeName_ptr_named (nm := "errors.errorString") (by rw [Tryd.star]; kernel_rfl) (by kernel_rfl) (by decide) u (by rw [Tryd.star]; exact h)
theorem Tryd.cells137 : Tryd.prog.cellsOf 137 = 1 := by kernel_rfl
theorem Tryd.cells9 : Tryd.prog.cellsOf 9 = 1 := by kernel_rfl
theorem laid_parts {W : World} (h : laidMetH Tryd.prog fxLaid W) : laidMet Tryd.prog fxData W ∧ handlesMet Tryd.prog [("errors.errorType", Rows.laid_errors_errorType)] W := h
theorem type_of_laid {W : World} (h : laidMetH Tryd.prog fxLaid W) : TypeAt W := by
  obtain ⟨name, u, ty, e1, e2, e3, e4, e5⟩ := (laid_parts h).2 _ (List.mem_singleton.2 rfl)
  have en : name = [101, 114, 114, 111, 114] := (Option.some.inj e1).symm
  subst en
  obtain rfl := Option.some.inj (Tryd.rt.symm.trans e2)
  obtain ⟨n, hn, hrow⟩ := Tryd.tsize
  have hm : ty ∈ (List.range n).filter fun t => Tryd.prog.rowNamed t [101, 114, 114, 111, 114] := List.mem_filter.2 ⟨List.mem_range.2 (by rw [← hn]; exact e3), e4⟩
  rw [hrow] at hm
  obtain rfl := List.mem_singleton.1 hm
  have hh : typeHandle Tryd.prog 27 = .pointer (some ⟨5, 27, none⟩) := by kernel_rfl
  rw [hh] at e5
  have : W.cell? ⟨1, 0, none⟩ = some (.iface 86 (.agg #[.pointer (some ⟨5, 27, none⟩)])) := by simpa using World.var?_cell Tryd.et e5 0
  exact this
theorem tab_of_laid {W : World} (h : laidMetH Tryd.prog fxLaid W) : TabAt W := by
  obtain ⟨g, t, cs, fuel, p, hg, hty, hvar, hd⟩ := Lib.laidMet.reads (laid_parts h).1 (List.mem_of_getElem? (i := 2) rfl)
  obtain rfl := Option.some.inj (Tryd.tt.symm.trans hg)
  obtain rfl := Option.some.inj ((show (Tryd.prog.globals[2]?).map (·.type) = some 108 by kernel_rfl).symm.trans hty)
  have hcs := Lib.cells_of_tab (k := .u64) (zs := Lib.pow10Tab) (n := 20) (e := 100) (show Tryd.prog.underlying 108 = some (.array 20 100) by kernel_rfl) (show Tryd.prog.underlying 100 = some (.int .u64) by kernel_rfl) (by kernel_rfl) (by kernel_rfl) hd
  unfold TabAt Lib.TabIs
  rw [hvar, ← hcs]
theorem plain_of_laid {W : World} (h : laidMetH Tryd.prog fxLaid W) : PlainAt W := by
  obtain ⟨ps, ⟨_, _, _, _, _, _, _, _, _, _, ⟨_, _, _, _, _, _, _, _, _, _, ⟨_, _, _, _, _, _, _, _, _, _, ⟨g, t, cs, f0, p0, q0, hg, ht, hv, hd, _, e0⟩, e1⟩, e2⟩, e3⟩, _, hrows⟩ := (laid_parts h).1
  obtain rfl := Option.some.inj (Tryd.pt.symm.trans hg)
  obtain rfl := Option.some.inj ((show (Tryd.prog.globals[0]?).map (·.type) = some 27 by kernel_rfl).symm.trans ht)
  obtain ⟨l0⟩ := cs
  have ok0 : ∀ u v, l0 = [.iface u v] → Value.okWide Tryd.prog W .any 0 u v := fun u v e => by
    subst e
    refine (hrows 0 0 ?_).2 u v (by simpa using World.var?_cell hg hv 0)
    rw [e3, e2, e1, e0]
    simp [MemPlace.row]
  obtain ⟨a, s, rfl, hc, hs, _, _⟩ := errorString_of_trod Tryd.underlying27 Tryd.row117 Tryd.underlying117 Tryd.underlying137 rfl rfl Tryd.underlying9 Tryd.cells137 Tryd.cells9 hd ok0
  have hok := ok0 _ _ rfl
  have hspot : a.spot = none := by
    unfold Value.okWide at hok
    simp only [Tryd.underlying117] at hok
    unfold Cell.okWide at hok
    simp only [Tryd.underlying117] at hok
    unfold Cell.ok at hok
    simp only [Tryd.underlying117] at hok
    exact hok.2.1
  obtain ⟨A, o, sp⟩ := a
  obtain rfl : sp = none := hspot
  have es : s = "plain".toUTF8 := by
    obtain ⟨⟨l⟩⟩ := s
    have : l = [112, 108, 97, 105, 110] := hs
    subst this
    decide +kernel
  subst es
  exact ⟨A, o, by simpa using World.var?_cell hg hv 0, hc⟩
abbrev plS : ByteArray := { data := #[112, 108, 97, 105, 110] }
noncomputable def low : Nat := (World.holding Tryd.prog default ⟨#[], #[], []⟩).heap.size
noncomputable def laidWorld (os : Os) : World :=
  let w0 := World.holding Tryd.prog os ⟨#[.cells #[.string plS] 137], #[], []⟩
  { w0 with heap := (((((w0.heap.modify 0 fun
      | .cells _ t frozen => .cells #[.iface 117 (.pointer (some ⟨low, 0, none⟩))] t frozen
      | o => o).modify 1 fun
      | .cells _ t frozen => .cells #[.iface 86 (.agg #[.pointer (some ⟨5, 27, none⟩)])] t frozen
      | o => o).modify 2 fun
      | .cells _ t frozen => .cells (Lib.pow10Tab.map fun z => Value.int .u64 z).toArray t frozen
      | o => o).modify 3 fun
      | .cells _ t frozen => .cells #[.int .u8 0, .int .u8 1, .int .u8 28, .int .u8 2, .int .u8 29, .int .u8 14, .int .u8 24, .int .u8 3, .int .u8 30, .int .u8 22, .int .u8 20, .int .u8 15, .int .u8 25, .int .u8 17, .int .u8 4, .int .u8 8, .int .u8 31, .int .u8 27, .int .u8 13, .int .u8 23, .int .u8 21, .int .u8 19, .int .u8 16, .int .u8 7, .int .u8 26, .int .u8 12, .int .u8 18, .int .u8 6, .int .u8 11, .int .u8 5, .int .u8 10, .int .u8 9] t frozen
      | o => o).modify 4 fun
      | .cells _ t frozen => .cells (dbTab.map fun z => Value.int .u8 z).toArray t frozen
      | o => o) }
 where dbTab : List Int := [0, 1, 56, 2, 57, 49, 28, 3, 61, 58, 42, 50, 38, 29, 17, 4, 62, 47, 59, 36, 45, 43, 51, 22, 53, 39, 33, 30, 24, 18, 12, 5, 63, 55, 48, 27, 60, 41, 37, 16, 46, 35, 44, 21, 52, 32, 23, 11, 54, 26, 40, 15, 34, 20, 31, 10, 25, 14, 19, 9, 13, 8, 7, 6]
theorem laidWorld_met (os : Os) (args : Array Value) : laidMetH Tryd.prog fxLaid ((laidWorld os).forCall (fun _ _ => 0) ⟨#[], args, []⟩).memory :=
  laidMetH_of_parts (laidMet_of_run' 8 (by kernel_rfl) (by kernel_rfl)) (by kernel_rfl)
end Go.Proofs.YtojifefdokekpaaDoor
set_option maxRecDepth 100000
set_option linter.unusedVariables false
set_option linter.unusedSimpArgs false
namespace Go.Proofs.YtojifefdokekpaaDoor
open Go.ChangeShapes Go.WideShapes Go.ChangeAt Go.RowKit Go.Proofs.YtojifefdokekpaaDoor.SX
theorem kept {W W' : World} {may : MemPlace → Prop} (h : Keeps (fun n => W.heap.size ≤ n) W W') : W.keptBut W' may := by
  refine ⟨h.os, h.output, fun i hi => ?_⟩
  have e := h.heap i (Nat.not_le.2 hi)
  rw [e]
  split
  · rename_i e1 e2
    cases e1.symm.trans e2
    exact ⟨rfl, rfl, rfl, fun _ _ => rfl⟩
  · rename_i e1 e2
    cases e1.symm.trans e2
    exact .inr ⟨rfl, rfl⟩
  · rfl
theorem Tryd.cells2 : Tryd.prog.cellsOf 2 = 1 := by kernel_rfl
theorem Tryd.cells3 : Tryd.prog.cellsOf 3 = 1 := by kernel_rfl
theorem Tryd.cells22 : Tryd.prog.cellsOf 22 = 1 := by kernel_rfl
theorem Tryd.cells24 : Tryd.prog.cellsOf 24 = 3 := by kernel_rfl
theorem I64_of {n : Int} (h : (Lit.int .i64 n).wf = true) : I64 n := by
  have h' : (decide (IntKind.i64.min ≤ n) && decide (n ≤ IntKind.i64.max)) = true := h
  simp only [Bool.and_eq_true, decide_eq_true_eq] at h'
  exact h'
section
variable {H : Type} {enc : TypeId × Value → H} {W : World}
theorem three {l : List Value} (h : l.length = 3) : ∃ a b c, l = [a, b, c] := by
  match l, h with
  | [a, b, c], _ => exact ⟨a, b, c, rfl⟩
theorem open_nums {n : Nat} {v : Value} {x : DataW H × List MemPlace} (h : DataW.trod enc Tryd.prog W 0 (fun _ => true) true n 22 [v] = some x) (hv : ∀ a len cap, v = .slice (some a) len cap → a.spot = none) :
    ∃ l : List Int, NumsAt W v l ∧ ∀ x ∈ l, I64 x := by
  rcases Go.Deep.open_slice1 Tryd.underlying22 Tryd.cells3 h with ⟨hc, hx⟩ | ⟨a, len, cap, m, k, V, D, Pl, hc, _, hl, hm, hmm, hx, hel⟩
  · cases hc
    exact ⟨[], ⟨.inl ⟨rfl, rfl⟩⟩, fun x hx => by cases hx⟩
  · cases hc
    cases hx
    simp only [if_true] at hmm
    subst hmm
    obtain ⟨b, o, spot⟩ := a
    obtain rfl : spot = none := hv _ _ _ rfl
    obtain ⟨R, hR⟩ := Go.Deep.choose_lt (n := len) (p := fun i (n : Int) => W.cell? ⟨b, o + i, none⟩ = some (iV n) ∧ I64 n) fun i hi => by
      obtain ⟨h1, h2⟩ := hel i (by omega)
      obtain ⟨n, e, _, hw⟩ := DataW.trod_int Tryd.underlying3 h2
      rw [add_plain, (List.cons.inj e).1] at h1
      exact ⟨n, h1, I64_of hw⟩
    refine ⟨(List.range len).map R, ⟨.inr ⟨b, o, m, ?_, ?_, fun i n hi => ?_⟩⟩, fun x hx => ?_⟩
    · rw [List.length_map, List.length_range]; rfl
    · rw [List.length_map, List.length_range]; exact hl
    · rw [List.getElem?_map] at hi
      obtain ⟨j, hj, rfl⟩ := Option.map_eq_some_iff.1 hi
      obtain ⟨hlt, e⟩ := List.getElem?_eq_some_iff.1 hj
      rw [List.length_range] at hlt
      rw [List.getElem_range] at e
      subst e
      exact (hR i hlt).1
    · obtain ⟨j, hj, rfl⟩ := List.mem_map.1 hx
      exact (hR j (List.mem_range.1 hj)).2
theorem open_err {n : Nat} {cs : List Value} {x : DataW H × List MemPlace} (h : DataW.trod enc Tryd.prog W 0 (fun _ => true) true n 24 cs = some x) (hv : ∀ v, cs[2]? = some v → ∀ a len cap, v = .slice (some a) len cap → a.spot = none) : ∃ (K N : Int) (s : Value) (l : List Int), cs = [iV K, iV N, s] ∧ I64 N ∧ NumsAt W s l ∧ ∀ x ∈ l, I64 x := by
  obtain ⟨xs, k, _, _, hl, hlen, hf⟩ := DataW.trod_struct Tryd.underlying24 h
  rw [Tryd.cells24] at hl
  obtain ⟨a, b, c, rfl⟩ := three hl
  have hl3 : xs.length = 3 := hlen
  have g0 : DataW.trod enc Tryd.prog W 0 (fun _ => true) true k 3 [a] = some (xs[0]'(by omega)) := by
    have := hf 0 _ rfl
    rw [List.getElem?_eq_getElem (by omega)] at this
    simpa [Tryd.cells3] using this
  have g1 : DataW.trod enc Tryd.prog W 0 (fun _ => true) true k 2 [b] = some (xs[1]'(by omega)) := by
    have := hf 1 _ rfl
    rw [List.getElem?_eq_getElem (by omega)] at this
    simpa [Tryd.cells2] using this
  have g2 : DataW.trod enc Tryd.prog W 0 (fun _ => true) true k 22 [c] = some (xs[2]'(by omega)) := by
    have := hf 2 _ rfl
    rw [List.getElem?_eq_getElem (by omega)] at this
    simpa [Tryd.cells22] using this
  obtain ⟨n0, e0, _⟩ := DataW.trod_int Tryd.underlying3 g0
  obtain ⟨n1, e1, _, hw1⟩ := DataW.trod_int Tryd.underlying2 g1
  cases e0
  cases e1
  obtain ⟨l, h1, h2⟩ := open_nums g2 (hv c rfl)
  exact ⟨n0, n1, c, l, rfl, I64_of hw1, h1, h2⟩
end
theorem laidOut : laidOutB Tryd.prog = true := by kernel_rfl
theorem faultTells_lifted (os : Os) (started : os.Started) (H : Type) (enc : TypeId × Value → H) :
    ReturnsInHanded {} Tryd.checked os 3 .any (fun w args => (Rows.faultTellsSpec.pre enc Tryd.prog Tryd.f3 [] false w args ∧ laidMetH Tryd.prog fxLaid w) ∧ sizedMet enc Tryd.prog Tryd.f3 (OpenSpec.ofChange Rows.faultTellsSpec) false w args)
      (Rows.faultTellsSpec.post enc Tryd.prog Tryd.f3 false true false false) := by
  refine returnsInHanded_of_change_and (C := Tryd.checked) (X := fun w _ => laidMetH Tryd.prog fxLaid w) (fun _ _ _ hh h => h.of_heap hh) Tryd.own started (by kernel_rfl) Tryd.func3
    (ChangeSpec.witness_at (enc := enc) (C := Tryd.checked) (os := os) (X := fun w _ => laidMetH Tryd.prog fxLaid w) false (laidWorld os) #[.agg #[.int .i64 0, .int .i64 0, .slice none 0 0], .int .i64 0] 8 rfl (by kernel_rfl) (by kernel_rfl) (by kernel_rfl) (by kernel_rfl) (by kernel_rfl) (laidWorld_met os _)) ?_
  intro W base args ds gs before hval0 hW _ _ hL _
  have hval : ∀ (j : Nat) t v, Tryd.f3.params[j]? = some t → args[j]? = some v → Value.okWide Tryd.prog W .any base t v := hval0
  have hW' := hW
  obtain ⟨p, q, hA0, hV0, rfl, hfz, hnd⟩ := hW
  have hA : DataW.TrodAll enc Tryd.prog W 0 (fun _ => true) true Tryd.f3.params.toList args.toList ds p := hA0
  have hV : DataW.TrodVars enc Tryd.prog W (fun _ => true) [] gs q := hV0
  rw [Tryd.params3] at hA hval
  obtain ⟨v0, v1, d0, d1, p0, p1, rfl, rfl, rfl, h0, h1⟩ := trodAll_two hA
  obtain ⟨rfl, rfl⟩ : gs = [] ∧ q = [] := by
    cases gs with
    | nil => exact ⟨rfl, hV⟩
    | cons g r => exact absurd hV (by intro h; cases h)
  have ok0 := hval 0 24 v0 rfl rfl
  have ok1 := hval 1 3 v1 rfl rfl
  obtain ⟨f0, h0'⟩ := h0
  obtain ⟨f1, h1'⟩ := h1
  obtain ⟨cs, rfl, hsz, hrow⟩ : ∃ cs, v0 = .agg cs ∧ cs.size = Tryd.prog.cellsOf 24 ∧ Row.okWide Tryd.prog W .any base 24 cs := by
    unfold Value.okWide at ok0
    simp only [Tryd.underlying24] at ok0
    exact ok0
  have spot : ∀ v, cs.toList[2]? = some v → ∀ a len cap, v = .slice (some a) len cap → a.spot = none := fun v hv a len cap e => by
    obtain ⟨ts, h1, _, h3⟩ := hrow
    obtain rfl := Option.some.inj ((show Tryd.prog.cellTypes Tryd.prog.depth 24 = some [3, 2, 22] by kernel_rfl).symm.trans h1)
    obtain ⟨u, hu, hok⟩ := h3 2 v (by rw [← Array.getElem?_toList]; exact hv)
    obtain rfl : (22 : Nat) = u := Option.some.inj hu
    subst e
    simp only [Cell.okWide, Cell.ok, Tryd.underlying22] at hok
    exact hok.2.2.2.1
  obtain ⟨K, N, s, l, hcs, hN, hs, hl⟩ := open_err h0' spot
  obtain ⟨csl⟩ := cs
  obtain rfl : csl = [iV K, iV N, s] := hcs
  obtain ⟨num, rfl, rfl, rfl, wn⟩ := open_int Tryd.underlying3 (hval 1 3 v1 rfl rfl) ⟨f1, h1'⟩
  have hnum := I64_of wn
  have h0'' : DataW.Trod enc Tryd.prog W 0 (fun _ => true) true 24 (.agg #[iV K, iV N, s]) d0 p0 := ⟨f0, h0'⟩
  have e1 : Rows.faultTellsSpec.fn H ([d0, .lit (.int .i64 num)] ++ []) = { results := [.lit (.bool true)], args := [d0, .lit (.int .i64 num)] } := by simp [Rows.faultTellsSpec]
  have hC : Calls Tryd.prog 3 #[.agg #[iV K, iV N, s], iV num] W fun e W' => ∃ v, e = .returned v ∧ Fresh W W' ∧ v = .bool true := tells_all (K := K) (num := num) hs hl hN hnum (plain_of_laid hL) (type_of_laid hL) (tab_of_laid hL)
  refine hC.mono fun e W' ⟨v, he, hw, hv⟩ => ?_
  subst he
  subst hv
  have hlt : ∀ x ∈ p0 ++ [], x.block < W.heap.size := fun x hx => hW'.lt x (by simpa using hx)
  have t0 := WideElems.Trod_stays (sp' := fun b => decide (b < W.heap.size)) laidOut (by kernel_rfl) (of_decide_eq_true (by kernel_rfl)) h0'' (W' := W') (fun x hx => by
    have hb := hlt x (List.mem_append_left _ hx)
    have e := hw.heap _ (Nat.not_le.2 hb)
    cases x with
    | cell b o =>
      show W'.cell? _ = W.cell? _
      simp only [World.cell?]
      rw [show W'.heap[b]? = W.heap[b]? from e]
    | map b => exact e) (fun x hx => decide_eq_true (hlt x (List.mem_append_left _ hx)))
  refine ⟨_, rfl, _, _, _, [], p0 ++ [], [], hW', ?_, ?_, ?_, kept hw, fun h => by cases h⟩
  · rw [e1]; exact trodAll_mk1 (shut_bool Tryd.underlying4 true)
  · rw [e1]; exact trodAll_mk2 t0 (shut_int Tryd.underlying3 wn)
  · rw [e1]; rfl
theorem faultTells_holds : Rows.FaultTellsSaid :=
  OpenClaim.holds_of_wide 3 Tryd.f3 rfl rfl rfl rfl rfl rfl rfl ⟨rfl, rfl, rfl, rfl, rfl⟩ rfl rfl rfl rfl rfl (by kernel_rfl) Tryd.func3 (by kernel_rfl)
    (of_decide_eq_true (by kernel_rfl)) (by unfold Func.isWrapper; first | (rw [if_pos (by decide +kernel)]; kernel_rfl) | (rw [if_neg (by decide +kernel)]; exact ⟨rfl, rfl⟩))
    (fun os started H enc _ => faultTells_lifted os started H enc)
end Go.Proofs.YtojifefdokekpaaDoor
set_option maxRecDepth 100000
namespace Go.Proofs.YtojifefdokekpaaDoor
theorem faultTells_card : Rows.FaultTellsCardSaid :=
  Claim7.holds_tied_plain_at .later [] [.data, .data, .data, .handle, .sentinel] true (true, "6f0fdfc1bb43bf99b6073145210256a7da90816a6f65e97139d1bc43f5959570") true
    faultTells_holds (fun _ h => by cases h) (by kernel_rfl) (fun _ h => by cases h) faultTells_row_tie rfl ⟨rfl, rfl⟩ (by kernel_rfl) rfl
    (fun f fn hf hfn => by
      obtain rfl : f = 3 := Option.some.inj ((show Tryd.prog.funcNamed "treadle/treadlelaw12.FaultTells" = some 3 by kernel_rfl).symm.trans hf) |>.symm
      obtain rfl : fn = Tryd.f3 := (Option.some.inj (Tryd.func3.symm.trans hfn)).symm
      exact ⟨by kernel_rfl, fun j t ht => by
        rw [Tryd.params3] at ht
        rcases j with _ | _ | j
        · obtain rfl : t = 24 := by simpa using ht.symm
          exact (show Tryd.prog.wantsStandIn 24 = false by kernel_rfl)
        · obtain rfl : t = 3 := by simpa using ht.symm
          exact (show Tryd.prog.wantsStandIn 3 = false by kernel_rfl)
        · simp at ht⟩)
    (by kernel_rfl)
#print axioms faultTells_card
end Go.Proofs.YtojifefdokekpaaDoor

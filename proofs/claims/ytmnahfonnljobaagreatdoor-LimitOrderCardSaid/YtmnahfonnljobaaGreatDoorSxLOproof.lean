/-
  LimitOrder's row: whatever the waits, whatever the steps, the law answers true; they read as they did. Conditions: errors.errorType reads as the program's text lays it.
-/
import Derived.Test.YtmnahfonnljobaaGreatDoorSxLO26
import Derived.Test.YtmnahfonnljobaaGreatDoorSxZLaid
import Derived.ProofKit
import Derived.ChangeSlices
import Derived.Deep.Slices
import Derived.WideKeyArgs
set_option maxRecDepth 100000
set_option linter.unusedVariables false
set_option linter.unusedSimpArgs false
namespace Go.Proofs.YtmnahfonnljobaaGreatDoor
open Go.ChangeShapes Go.WideShapes Go.ChangeAt Go.RowKit Go.Proofs.YtmnahfonnljobaaGreatDoor.SX

theorem kept {W W' : World} {may : MemPlace → Prop} (h : Keeps (fun n => W.heap.size ≤ n) W W') : W.keptBut W' may := by
  refine ⟨h.os, h.output, fun i hi => ?_⟩
  have e := h.heap i (Nat.not_le.2 hi)
  rw [e]
  split
  · rename_i e1 e2
    cases e1.symm.trans e2
    exact ⟨rfl, rfl, rfl, fun _ _ => rfl⟩
  · rename_i e1 e2
    cases e1.symm.trans e2
    exact .inr ⟨rfl, rfl⟩
  · rfl
theorem Tryz.cells85 : Tryz.prog.cellsOf 85 = 2 := by kernel_rfl
theorem Tryz.cells2 : Tryz.prog.cellsOf 2 = 1 := by kernel_rfl
theorem Tryz.cells3 : Tryz.prog.cellsOf 3 = 1 := by kernel_rfl
section
variable {H : Type} {enc : TypeId × Value → H} {W : World}
theorem two {l : List Value} (h : l.length = 2) : ∃ a b, l = [a, b] := by
  match l, h with
  | [a, b], _ => exact ⟨a, b, rfl⟩
/-- A wait. -/
theorem open_wait {n : Nat} {cs : List Value} {x : DataW H × List MemPlace} (h : DataW.trod enc Tryz.prog W 0 (fun _ => true) true n 85 cs = some x) : ∃ r : Int × Int, cs = [iV r.1, iV r.2] := by
  obtain ⟨xs, k, _, _, hl, hlen, hf⟩ := DataW.trod_struct Tryz.underlying85 h
  rw [Tryz.cells85] at hl
  obtain ⟨a, b, rfl⟩ := two hl
  have hl2 : xs.length = 2 := hlen
  have g0 : DataW.trod enc Tryz.prog W 0 (fun _ => true) true k 2 [a] = some (xs[0]'(by omega)) := by
    have := hf 0 _ rfl
    rw [List.getElem?_eq_getElem (by omega)] at this
    simpa [Tryz.cells2] using this
  have g1 : DataW.trod enc Tryz.prog W 0 (fun _ => true) true k 3 [b] = some (xs[1]'(by omega)) := by
    have := hf 1 _ rfl
    rw [List.getElem?_eq_getElem (by omega)] at this
    simpa [Tryz.cells3] using this
  obtain ⟨n0, e0, _⟩ := DataW.trod_int Tryz.underlying2 g0
  obtain ⟨n1, e1, _⟩ := DataW.trod_int Tryz.underlying3 g1
  cases e0
  cases e1
  exact ⟨(n0, n1), rfl⟩
/-- The waits. -/
theorem open_waits {n : Nat} {v : Value} {d : DataW H} {ps : List MemPlace} (h : DataW.trod enc Tryz.prog W 0 (fun _ => true) true n 83 [v] = some (d, ps)) (hv : ∀ a len cap, v = .slice (some a) len cap → a.spot = none) :
    ∃ A o k c, ∃ D F : Nat → Int, ((v = slV A o k c ∧ k ≤ c) ∨ (k = 0 ∧ v = nilV)) ∧ (∀ i, i < k → OldAt W.heap.size W A (o + i * 2) (iV (D i))) ∧ ∀ i, i < k → OldAt W.heap.size W A (o + i * 2 + 1) (iV (F i)) := by
  rcases Go.Deep.open_slice Tryz.underlying83 h with ⟨hc, hx⟩ | ⟨a, len, cap, m, k, D, Pl, hc, _, hl, hm, hmm, hx, hel⟩
  · cases hc
    exact ⟨0, 0, 0, 0, fun _ => 0, fun _ => 0, .inr ⟨rfl, rfl⟩, fun i hi => by omega, fun i hi => by omega⟩
  · cases hc
    cases hx
    simp only [if_true] at hmm
    subst hmm
    obtain ⟨b, o, spot⟩ := a
    obtain rfl : spot = none := hv _ _ _ rfl
    obtain ⟨R, hR⟩ := Go.Deep.choose_lt (n := len) (p := fun i (r : Int × Int) => OldAt W.heap.size W b (o + i * 2) (iV r.1) ∧ OldAt W.heap.size W b (o + i * 2 + 1) (iV r.2)) fun i hi => by
      obtain ⟨cs', h1, h2⟩ := hel i (by omega)
      obtain ⟨r, rfl⟩ := open_wait h2
      obtain ⟨_, _, h3⟩ := World.cells?_some h1
      rw [Tryz.cells85] at h3
      have at' : ∀ j v, j < 2 → [iV r.1, iV r.2][j]? = some v → OldAt W.heap.size W b (o + i * 2 + j) v := fun j v hj hv => by
        have h4 := (h3 j hj).trans hv
        rw [add_plain, add_plain] at h4
        exact ⟨cellLt h4, h4⟩
      exact ⟨r, at' 0 _ (by decide) rfl, at' 1 _ (by decide) rfl⟩
    exact ⟨b, o, len, m, fun i => (R i).1, fun i => (R i).2, .inl ⟨rfl, hl⟩, fun i hi => (hR i hi).1, fun i hi => (hR i hi).2⟩
/-- The steps. -/
theorem open_stps {n : Nat} {v : Value} {d : DataW H} {ps : List MemPlace} (h : DataW.trod enc Tryz.prog W 0 (fun _ => true) true n 37 [v] = some (d, ps)) (hv : ∀ a len cap, v = .slice (some a) len cap → a.spot = none) :
    ∃ A o k c, ∃ D : Nat → Int, ((v = slV A o k c ∧ k ≤ c) ∨ (k = 0 ∧ v = nilV)) ∧ ∀ i, i < k → OldAt W.heap.size W A (o + i) (iV (D i)) := by
  rcases Go.Deep.open_slice1 Tryz.underlying37 Tryz.cells2 h with ⟨hc, hx⟩ | ⟨a, len, cap, m, k, V, D, Pl, hc, _, hl, hm, hmm, hx, hel⟩
  · cases hc
    exact ⟨0, 0, 0, 0, fun _ => 0, .inr ⟨rfl, rfl⟩, fun i hi => by omega⟩
  · cases hc
    cases hx
    simp only [if_true] at hmm
    subst hmm
    obtain ⟨b, o, spot⟩ := a
    obtain rfl : spot = none := hv _ _ _ rfl
    obtain ⟨R, hR⟩ := Go.Deep.choose_lt (n := len) (p := fun i (n : Int) => OldAt W.heap.size W b (o + i) (iV n)) fun i hi => by
      obtain ⟨h1, h2⟩ := hel i (by omega)
      obtain ⟨n, e, _⟩ := DataW.trod_int Tryz.underlying2 h2
      rw [add_plain, (List.cons.inj e).1] at h1
      exact ⟨n, cellLt h1, h1⟩
    exact ⟨b, o, len, m, R, .inl ⟨rfl, hl⟩, hR⟩
end
theorem laidOut : laidOutB Tryz.prog = true := by kernel_rfl
theorem limitOrder_lifted (os : Os) (started : os.Started) (H : Type) (enc : TypeId × Value → H) :
    ReturnsInHanded {} Tryz.checked os 6 .any (fun w args => (Rows.limitOrderSpec.pre enc Tryz.prog Tryz.f6 [] false w args ∧ laidMetH Tryz.prog [("errors.errorType", Rows.laid_errors_errorType)] w) ∧ sizedMet enc Tryz.prog Tryz.f6 (OpenSpec.ofChange Rows.limitOrderSpec) false w args)
      (Rows.limitOrderSpec.post enc Tryz.prog Tryz.f6 false true false false) := by
  refine returnsInHanded_of_change_and (C := Tryz.checked) (X := fun w _ => laidMetH Tryz.prog [("errors.errorType", Rows.laid_errors_errorType)] w) (fun _ _ _ hh h => h.of_heap hh) Tryz.own started (by kernel_rfl) Tryz.func6
    (ChangeSpec.witness_at (enc := enc) (C := Tryz.checked) (os := os) (X := fun w _ => laidMetH Tryz.prog [("errors.errorType", Rows.laid_errors_errorType)] w) false (laidWorld os) #[.slice none 0 0, .slice none 0 0] 8 rfl (by kernel_rfl) (by kernel_rfl) (by kernel_rfl) (by kernel_rfl) (by kernel_rfl) (laidWorld_met os _)) ?_
  intro W base args ds gs before hval0 hW _ _ hL _
  have hval : ∀ (j : Nat) t v, Tryz.f6.params[j]? = some t → args[j]? = some v → Value.okWide Tryz.prog W .any base t v := hval0
  have hW' := hW
  obtain ⟨p, q, hA0, hV0, rfl, hfz, hnd⟩ := hW
  have hA : DataW.TrodAll enc Tryz.prog W 0 (fun _ => true) true Tryz.f6.params.toList args.toList ds p := hA0
  have hV : DataW.TrodVars enc Tryz.prog W (fun _ => true) [] gs q := hV0
  rw [Tryz.params6] at hA hval
  obtain ⟨v0, v1, d0, d1, p0, p1, rfl, rfl, rfl, h0, h1⟩ := trodAll_two hA
  have hg := handle_of_laid hL
  obtain ⟨rfl, rfl⟩ : gs = [] ∧ q = [] := by
    cases gs with
    | nil => exact ⟨rfl, hV⟩
    | cons g r => exact absurd hV (by intro h; cases h)
  obtain ⟨x0, l0, c0, rfl⟩ := okWide_slice Tryz.underlying83 (hval 0 83 v0 rfl rfl)
  obtain ⟨x1, l1, c1, rfl⟩ := okWide_slice Tryz.underlying37 (hval 1 37 v1 rfl rfl)
  have spot : ∀ (i : Nat) (v : Value) (u : TypeId), #[Value.slice x0 l0 c0, Value.slice x1 l1 c1][i]? = some v → #[83, 37][i]? = some u → (∃ z, Tryz.prog.underlying u = some (.slice z)) → ∀ (a' : Addr) len cap, v = .slice (some a') len cap → a'.spot = none := fun i v u hi hu ⟨z, hz⟩ a' len cap hv => by
    have hok := hval i u v hu hi
    subst hv
    simp only [Value.okWide, Cell.okWide, Cell.ok, hz] at hok
    exact hok.2.2.2.1
  obtain ⟨f0, h0'⟩ := h0
  obtain ⟨f1, h1'⟩ := h1
  have h0'' : DataW.Trod enc Tryz.prog W 0 (fun _ => true) true 83 (.slice x0 l0 c0) d0 p0 := ⟨f0, h0'⟩
  have h1'' : DataW.Trod enc Tryz.prog W 0 (fun _ => true) true 37 (.slice x1 l1 c1) d1 p1 := ⟨f1, h1'⟩
  obtain ⟨A, o, n, c, D, F, a1, a2, a3⟩ := open_waits (v := .slice x0 l0 c0) (d := d0) (ps := p0) h0' (spot 0 _ 83 rfl rfl ⟨_, Tryz.underlying83⟩)
  obtain ⟨SA, so, ns, sc, sp, b1, b2⟩ := open_stps (v := .slice x1 l1 c1) (d := d1) (ps := p1) h1' (spot 1 _ 37 rfl rfl ⟨_, Tryz.underlying37⟩)
  have e1 : Rows.limitOrderSpec.fn H ([d0, d1] ++ []) = { results := [.lit (.bool true)], args := [d0, d1] } := by simp [Rows.limitOrderSpec]
  refine (limitOrder_any ⟨.slice x0 l0 c0, .slice x1 l1 c1, A, o, n, c, SA, so, ns, sc, D, F, sp⟩ W ⟨a1, b1, a2, a3, b2⟩ hg).mono fun e W' ⟨he, hw⟩ => ?_
  subst he
  have hlt : ∀ x ∈ p0 ++ p1, x.block < W.heap.size := fun x hx => hW'.lt x (by simpa using hx)
  have t0 := WideElems.Trod_stays (sp' := fun b => decide (b < W.heap.size)) laidOut (by kernel_rfl) (of_decide_eq_true (by kernel_rfl)) h0'' (W' := W') (fun x hx => by
    have hb := hlt x (List.mem_append_left _ hx)
    have e := hw.heap _ (Nat.not_le.2 hb)
    cases x with
    | cell b o => 
      show W'.cell? _ = W.cell? _
      simp only [World.cell?]
      rw [show W'.heap[b]? = W.heap[b]? from e]
    | map b => exact e) (fun x hx => decide_eq_true (hlt x (List.mem_append_left _ hx)))
  have t1 := WideElems.Trod_stays (sp' := fun b => decide (b < W.heap.size)) laidOut (by kernel_rfl) (of_decide_eq_true (by kernel_rfl)) h1'' (W' := W') (fun x hx => by
    have hb := hlt x (List.mem_append_right _ hx)
    have e := hw.heap _ (Nat.not_le.2 hb)
    cases x with
    | cell b o => 
      show W'.cell? _ = W.cell? _
      simp only [World.cell?]
      rw [show W'.heap[b]? = W.heap[b]? from e]
    | map b => exact e) (fun x hx => decide_eq_true (hlt x (List.mem_append_right _ hx)))
  refine ⟨_, rfl, _, _, _, [], p0 ++ p1, [], hW', ?_, ?_, ?_, kept hw, fun h => by cases h⟩
  · rw [e1]; exact trodAll_mk1 (shut_bool Tryz.underlying4 true)
  · rw [e1]; exact trodAll_mk2 t0 t1
  · rw [e1]; rfl

theorem limitOrder_holds : Rows.LimitOrderSaid :=
  OpenClaim.holds_of_wide 6 Tryz.f6 rfl rfl rfl rfl rfl rfl rfl ⟨rfl, rfl, rfl, rfl, rfl⟩ rfl rfl rfl rfl rfl (by kernel_rfl) Tryz.func6 (by kernel_rfl)
    (of_decide_eq_true (by kernel_rfl)) (by unfold Func.isWrapper; first | (rw [if_pos (by decide +kernel)]; kernel_rfl) | (rw [if_neg (by decide +kernel)]; exact ⟨rfl, rfl⟩))
    (fun os started H enc _ => limitOrder_lifted os started H enc)
end Go.Proofs.YtmnahfonnljobaaGreatDoor

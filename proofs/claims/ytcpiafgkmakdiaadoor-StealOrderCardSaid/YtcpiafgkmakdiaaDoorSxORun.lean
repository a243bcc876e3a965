/-
  treadlelaw23.StealOrder: for every number of workers and every one's own number it answers true. Conditions: none.
-/
import Derived.Test.YtcpiafgkmakdiaaDoorSxOWhole
set_option maxRecDepth 100000
set_option linter.unusedVariables false
set_option linter.unusedSimpArgs false
namespace Go.Proofs.YtcpiafgkmakdiaaDoor
open Go.Proofs.YtcpiafgkmakdiaaDoor.SX Go.Conc

theorem inF_ok (a b : AV) : enterA Tryd.prog 3 [a, b] .normal = .ok (inF a b) := by kernel_rfl
theorem find_hd (k : Nat) (b : ABlk) (l : List (Nat × ABlk)) : findB k ((k, b) :: l) = some b := by simp [findB]
theorem find_tl {k j : Nat} (h : k ≠ j) (b : ABlk) (l : List (Nat × ABlk)) : findB k ((j, b) :: l) = findB k l := by
  have : Nat.beq k j = false := by
    cases e : Nat.beq k j with
    | false => rfl
    | true => exact absurd (Nat.eq_of_beq_eq_true e) h
  simp [findB, this, h]
theorem bag_cells {w : World} {b k : Nat} {ρ : Env} (h : ArrAt w b 0 (AV.evs ρ (bagC k))) : (∀ n, n < 14 → n ≠ 1 → w.cell? ⟨b, n, none⟩ = some nilV) ∧ w.cell? ⟨b, 1, none⟩ = some (.slice (some ⟨ρ.b k, 0, none⟩) 2 (ρ.i k).toNat) := by
  have h' : ∀ n v, (AV.evs ρ (bagC k))[n]? = some v → w.cell? ⟨b, n, none⟩ = some v := fun n v hn => by
    have := h n v hn
    rwa [Nat.zero_add] at this
  refine ⟨fun n h1 h2 => ?_, h' 1 _ rfl⟩
  have : n = 0 ∨ n = 2 ∨ n = 3 ∨ n = 4 ∨ n = 5 ∨ n = 6 ∨ n = 7 ∨ n = 8 ∨ n = 9 ∨ n = 10 ∨ n = 11 ∨ n = 12 ∨ n = 13 := by omega
  rcases this with rfl | rfl | rfl | rfl | rfl | rfl | rfl | rfl | rfl | rfl | rfl | rfl | rfl <;> exact h' _ _ rfl

section
variable {K : Ctx} {main : Bool} {cs : List Frame}

theorem enter_in (ρ : Env) {a b : AV} (ha : AV.Ins (fun _ => True) [a, b]) : FrRel Tryd.prog ρ (inF a b) (Frame.enter Tryd.prog 3 (AV.evs ρ [a, b]).toArray .normal) := (enterA_ok (inF_ok a b) (.inl rfl) ha).1

theorem Trues.mono {f : FuncId} {own own' : Nat → Prop} {w w1 : World} {g' : Goroutine} {w' : World} (kp : Keeps own' w w1) (h : ∀ n, own n → own' n) (H : Trues K f own cs w1 g' w') : Trues K f own' cs w g' w' := ⟨kp.trans (H.1.mono h), H.2⟩

/-- A ring of two or more. -/
theorem true_pos (U : Outer K) (hk : K.lock) (ns : ∀ b n, ¬ K.still b n) {W : World} (R : Room K W) {w : Nat} (h2 : 2 ≤ w) (h64 : w ≤ 64) {me : Int} (hm0 : 0 ≤ me) (hmw : me < w) :
    Walk Tryd.prog main (DK K) (Trues K 3 (fun n => W.heap.size ≤ n) cs W) 0 (G (Frame.enter Tryd.prog 3 #[.int .i64 w, .int .i64 me] .normal) cs) W := by
  have hf := enter_in (mkE [(1, w), (2, me)] [] []) (a := i64 (.lit (.ofNat w))) (b := i64 (v 2)) ⟨trivial, trivial, trivial⟩
  have W1 := in_call (main := main) (cs := cs) U hk R (in_ok h2 h64) (by kernel_rfl) (by
    simp only [Orc.low, O4, inB, List.all_append, Bool.and_eq_true, List.all_eq_true]
    refine ⟨⟨⟨fun p hp => ?_, fun p hp => ?_⟩, fun p hp => by cases hp⟩, fun p hp => by cases hp⟩
    · simp only [List.mem_cons, List.not_mem_nil, or_false] at hp
      rcases hp with rfl | rfl <;> rfl
    · obtain ⟨i, _, rfl⟩ := List.mem_map.1 hp
      rfl) hf (fun p hp => by
    simp only [inB, List.mem_append, List.mem_cons, List.not_mem_nil, or_false] at hp
    rcases hp with (rfl | rfl) | hp
    · show decide (me < 0) = false
      exact decide_eq_false (by omega)
    · show decide (me ≥ (w : Int)) = false
      exact decide_eq_false (by omega)
    · obtain ⟨i, hi, rfl⟩ := List.mem_map.1 hp
      have hi' := List.mem_range.1 hi
      show (iop .rem .i64 (iop .add .i64 me ((i + 1 : Nat) : Int)) (w : Int) != iop .rem .i64 (iop .add .i64 (iop .add .i64 me 1) (i : Int)) (w : Int)) = false
      have x1 : iop .add .i64 me ((i + 1 : Nat) : Int) = me + 1 + i := by
        show IntKind.wrap .i64 (me + ((i + 1 : Nat) : Int)) = _
        rw [wrapN (by omega)]; omega
      have x2 : iop .add .i64 me 1 = me + 1 := wrapN (by omega)
      have x3 : iop .add .i64 (me + 1) (i : Int) = me + 1 + i := wrapN (by omega)
      rw [x1, x2, x3]
      simp)
  refine (Walk.trans (m := 0) (fun g1 w1 h1 => ?_) W1).any
  obtain ⟨ρ', c', st, s8, s3, fr', f8, f3, A, kp, hh, Rl, rfl, hf', h8, h3⟩ := h1
  have fI : findB (6 * w + 104) c'.h.hp = some (.row [slc (2 * w + 100) (.lit (.ofNat (w - 1))) (v (2 * w + 100)), slc (4 * w + 101) (.lit (.ofNat (w - 1))) (v (4 * w + 101))] 22 (v (6 * w + 104))) := by
    rw [hh]; exact find_hd _ _ _
  have fG : findB (6 * w + 100) c'.h.hp = some (.cells (bagC (6 * w + 104)) 41) := by
    rw [hh]; exact (find_tl (by omega) _ _).trans (find_hd _ _ _)
  have fB : findB (4 * w + 101) c'.h.hp = some (.row ((List.range (w - 1)).map fun i => i64 (odI w i)) 3 (v (4 * w + 101))) := by
    rw [hh]; exact (find_tl (by omega) _ _).trans ((find_tl (by omega) _ _).trans (find_hd _ _ _))
  have fA : findB (2 * w + 100) c'.h.hp = some (.row ((List.range (w - 1)).map fun i => i64 (odI w i)) 3 (v (2 * w + 100))) := by
    rw [hh]; exact (find_tl (by omega) _ _).trans ((find_tl (by omega) _ _).trans ((find_tl (by omega) _ _).trans (find_hd _ _ _)))
  have vI := vec_of_row Rl fI
  have vA := vec_of_row Rl fA
  have vB := vec_of_row Rl fB
  obtain ⟨aM, aF⟩ := bag_cells (arr_of_cells Rl fG)
  have hPr : (K.sub (O4 (inB w) [] [4]) (fun n => W.heap.size ≤ n) fun _ _ => False).P = Tryd.prog := U.prog
  rw [hPr] at vA vB
  have oA : W.heap.size ≤ ρ'.b (2 * w + 100) := Rl.own _ _ fA rfl
  have oB : W.heap.size ≤ ρ'.b (4 * w + 101) := Rl.own _ _ fB rfl
  have xs : ∀ q, AV.evs ρ' ((List.range (w - 1)).map fun i => i64 (odI w i)) = lst1 (w - 1) q 0 fun i => (odI w i).ev ρ' := fun q => by
    rw [evs_map, List.map_map]
    exact List.map_congr_left fun i _ => by simp [i64, AV.ev]
  let P : Par := { BG := ρ'.b (6 * w + 100), IR := ρ'.b (6 * w + 104), ci := (ρ'.i (6 * w + 104)).toNat, A := ρ'.b (2 * w + 100), B := ρ'.b (4 * w + 101), ca := (ρ'.i (2 * w + 100)).toNat, cb := (ρ'.i (4 * w + 101)).toNat, n := w - 1, z := false }
  have hP : P.Ok K := ⟨fun e => by have := Rl.inj _ _ _ _ fA fB e; omega, fun e => by have := Rl.inj _ _ _ _ fG fA e; omega, fun e => by have := Rl.inj _ _ _ _ fG fB e; omega, fun e => by have := Rl.inj _ _ _ _ fI fA e; omega, fun e => by have := Rl.inj _ _ _ _ fI fB e; omega,
    fun _ => by show 1 ≤ w - 1; omega, (fun h => by cases h), by show w - 1 ≤ 100000; omega, R.new _ oA, R.new _ oB, fun k => ns _ _, fun k => ns _ _⟩
  have hb : BagAt P w1 := ⟨aF, by have := vI.arr 0 _ rfl; rwa [Nat.zero_add] at this, by have := vI.arr 1 _ rfl; rwa [Nat.zero_add] at this⟩
  refine (from_in (main := main) U hk hP (R.keep kp.size) hb aM (.inl ⟨rfl, _, _, vecEq vA (xs 0), vecEq vB (xs 1)⟩) hf' h8 h3).weaken fun g' w' h => Trues.mono kp (fun n hn => ?_) h
  rcases hn with hn | hn | hn
  · exact Nat.le_trans kp.size hn
  · rw [hn]; exact oA
  · rw [hn]; exact oB

noncomputable def noX (j : Nat) : IE := match j with
  | 4 => .lit 1
  | _ => v 1
/-- No list. -/
theorem true_no (U : Outer K) (hk : K.lock) (ns : ∀ b n, ¬ K.still b n) {W : World} (R : Room K W) {j : Nat} (hj : NoOk j) (hj5 : j < 5) {ρ : Env} (hb : ∀ p ∈ noB j, p.1.ev ρ = p.2) {x y : Int} (hx : (noX j).ev ρ = x) (hy : ρ.i 2 = y) :
    Walk Tryd.prog main (DK K) (Trues K 3 (fun n => W.heap.size ≤ n) cs W) 0 (G (Frame.enter Tryd.prog 3 #[.int .i64 x, .int .i64 y] .normal) cs) W := by
  subst hx
  subst hy
  have hj' : j = 0 ∨ j = 1 ∨ j = 2 ∨ j = 3 ∨ j = 4 := by omega
  have hf : FrRel Tryd.prog ρ (inF (i64 (noX j)) (i64 (v 2))) (Frame.enter Tryd.prog 3 (AV.evs ρ [i64 (noX j), i64 (v 2)]).toArray .normal) := enter_in ρ (by rcases hj' with rfl | rfl | rfl | rfl | rfl <;> exact ⟨trivial, trivial, trivial⟩)
  have W1 := in_call (main := main) (cs := cs) U hk R hj (by rcases hj' with rfl | rfl | rfl | rfl | rfl <;> kernel_rfl) (by rcases hj' with rfl | rfl | rfl | rfl | rfl <;> kernel_rfl) hf hb
  refine (Walk.trans (m := 0) (fun g1 w1 h1 => ?_) W1).any
  obtain ⟨ρ', c', st, s8, s3, fr', f8, f3, A, kp, hh, Rl, rfl, hf', h8, h3⟩ := h1
  have fI : findB 110 c'.h.hp = some (.row [nilA, nilA] 22 (v 110)) := by rw [hh]; rfl
  have fG : findB 106 c'.h.hp = some (.cells (bagC 110) 41) := by rw [hh]; rfl
  have fB : findB 107 c'.h.hp = some (.cells [nilA] 22) := by rw [hh]; rfl
  have fA : findB 109 c'.h.hp = some (.cells [nilA] 22) := by rw [hh]; rfl
  have vI := vec_of_row Rl fI
  obtain ⟨aM, aF⟩ := bag_cells (arr_of_cells Rl fG)
  have lA := (arr_of_cells Rl fA).lt (k := 0) rfl
  have lB := (arr_of_cells Rl fB).lt (k := 0) rfl
  have oA : W.heap.size ≤ ρ'.b 109 := Rl.own _ _ fA rfl
  have oB : W.heap.size ≤ ρ'.b 107 := Rl.own _ _ fB rfl
  let P : Par := { BG := ρ'.b 106, IR := ρ'.b 110, ci := (ρ'.i 110).toNat, A := ρ'.b 109, B := ρ'.b 107, ca := 0, cb := 0, n := 0, z := true }
  have hP : P.Ok K := ⟨fun e => by have := Rl.inj _ _ _ _ fA fB e; omega, fun e => by have := Rl.inj _ _ _ _ fG fA e; omega, fun e => by have := Rl.inj _ _ _ _ fG fB e; omega, fun e => by have := Rl.inj _ _ _ _ fI fA e; omega, fun e => by have := Rl.inj _ _ _ _ fI fB e; omega,
    (fun h => by cases h), fun _ => rfl, by show 0 ≤ 100000; omega, R.new _ oA, R.new _ oB, fun k => ns _ _, fun k => ns _ _⟩
  have hb : BagAt P w1 := ⟨aF, by have := vI.arr 0 _ rfl; rwa [Nat.zero_add] at this, by have := vI.arr 1 _ rfl; rwa [Nat.zero_add] at this⟩
  refine (from_in (main := main) U hk hP (R.keep kp.size) hb aM (.inr ⟨rfl, lA, lB⟩) hf' h8 h3).weaken fun g' w' h => Trues.mono kp (fun n hn => ?_) h
  rcases hn with hn | hn | hn
  · exact Nat.le_trans kp.size hn
  · rw [hn]; exact oA
  · rw [hn]; exact oB

/-- Whatever it is handed. -/
theorem true_any (U : Outer K) (hk : K.lock) (ns : ∀ b n, ¬ K.still b n) {W : World} (R : Room K W) (x y : Int) :
    Walk Tryd.prog main (DK K) (Trues K 3 (fun n => W.heap.size ≤ n) cs W) 0 (G (Frame.enter Tryd.prog 3 #[.int .i64 x, .int .i64 y] .normal) cs) W := by
  by_cases c1 : x < 1
  · exact true_no U hk ns R no0 (by decide) (ρ := mkE [(1, x), (2, y)] [] []) (fun p hp => by
      simp only [noB, List.mem_cons, List.not_mem_nil, or_false] at hp
      subst hp
      exact decide_eq_true c1) rfl rfl
  have n1 : decide (x < 1) = false := decide_eq_false c1
  by_cases c2 : x > 64
  · exact true_no U hk ns R no1 (by decide) (ρ := mkE [(1, x), (2, y)] [] []) (fun p hp => by
      simp only [noB, List.mem_cons, List.not_mem_nil, or_false] at hp
      rcases hp with rfl | rfl
      · exact n1
      · exact decide_eq_true c2) rfl rfl
  have n2 : decide (x > 64) = false := decide_eq_false c2
  by_cases c3 : y < 0
  · exact true_no U hk ns R no2 (by decide) (ρ := mkE [(1, x), (2, y)] [] []) (fun p hp => by
      simp only [noB, List.mem_cons, List.not_mem_nil, or_false] at hp
      rcases hp with rfl | rfl | rfl
      · exact n1
      · exact n2
      · exact decide_eq_true c3) rfl rfl
  have n3 : decide (y < 0) = false := decide_eq_false c3
  by_cases c4 : y ≥ x
  · exact true_no U hk ns R no3 (by decide) (ρ := mkE [(1, x), (2, y)] [] []) (fun p hp => by
      simp only [noB, List.mem_cons, List.not_mem_nil, or_false] at hp
      rcases hp with rfl | rfl | rfl | rfl
      · exact n1
      · exact n2
      · exact n3
      · exact decide_eq_true c4) rfl rfl
  have n4 : decide (y ≥ x) = false := decide_eq_false c4
  by_cases c5 : x = 1
  · subst c5
    exact true_no U hk ns R no4 (by decide) (ρ := mkE [(1, 1), (2, y)] [] []) (fun p hp => by
      simp only [noB, List.mem_cons, List.not_mem_nil, or_false] at hp
      rcases hp with rfl | rfl
      · exact n3
      · exact n4) rfl rfl
  · obtain ⟨w, rfl⟩ : ∃ w : Nat, x = w := ⟨x.toNat, by omega⟩
    exact true_pos U hk ns R (by omega) (by omega) (by omega) (by omega)
end
end Go.Proofs.YtcpiafgkmakdiaaDoor

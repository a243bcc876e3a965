/-
  memo.New of a size that may be, any from 2 on: it ends with a pointer to a new block of its own. Conditions: none.
-/
import Derived.Test.YtbnmlanhjpdalaaGreatDoorSxMNew
import Derived.IntWalk
set_option maxRecDepth 100000
set_option linter.unusedVariables false
namespace Go.Proofs.YtbnmlanhjpdalaaGreatDoor
open Go.Proofs.YtbnmlanhjpdalaaGreatDoor.SX Go.Conc

section
variable {K : Ctx} {main : Bool} {cs : List Frame}

/-- A context over this program, with these facts. -/
noncomputable def kOf (K : Ctx) (O : Orc) : Ctx := ⟨Tryz.prog, O, K.own, K.Ev, K.lock, K.still⟩
theorem kOf_good (Gd : K.Good) (O : Orc) : (kOf K O).Good := ⟨Gd.rd, Gd.wr, Gd.noWr, Gd.ext, Gd.noRoom, Gd.lock, Gd.obj⟩
theorem kOf_facts (bs : List (BE × Bool)) : (kOf K (mnO bs)).Facts := ⟨fns_ok, ext_facts, mixed⟩
theorem kOf_ext (Gd : K.Good) (bs : List (BE × Bool)) : ExtOk (kOf K (mnO bs)) (mnX bs) := ext_ok (kOf_good Gd _) (.inr tabC_quiet) tabC_facts

theorem mn_facts {O : Orc} {bs : List (BE × Bool)} {ρ : Env} {w : World} (h : ∀ p ∈ bs, p.1.ev ρ = p.2) : FactsAt (kOf K O) (mnO bs) ρ w :=
  ⟨h, fun p hp => absurd hp List.not_mem_nil, fun p hp => absurd hp List.not_mem_nil⟩

/-- The loop's head. -/
structure Head (K : Ctx) (ρ : Env) (cs : List Frame) (n i : Int) (g : Goroutine) (w : World) : Prop where
  gam : Gam (kOf K (mnO [])) ρ mnD cs g w
  n : ρ.i 2 = n
  i : ρ.i 3 = i

theorem wrap1 {x : Int} (h0 : 0 ≤ x) (h1 : x ≤ 4096) : IntKind.wrap .i64 (x + 1) = x + 1 := IntWalk.i64_in _ ⟨by omega, by omega⟩

theorem low_B : (mnO mnBsB).low 102 = true := by kernel_rfl
theorem low_A : (mnO mnBsA).low 100 = true := by kernel_rfl
theorem low_C : (mnO mnBsC).low 102 = true := by kernel_rfl
theorem nb_D : mnD.h.nb = 102 := by kernel_rfl
theorem fn_D : bot mnD.cur.fn mnD.callers = 7 := by kernel_rfl

theorem MadeOne.before {K2 : Ctx} {fn : FuncId} {e : TypeId} {w w1 : World} {g' : Goroutine} {w' : World} (k : Keeps K2.own w w1) (h : MadeOne K2 fn e cs w1 g' w') : MadeOne K2 fn e cs w g' w' := by
  obtain ⟨ρ2, h2, j0, cells, k2, r⟩ := h
  exact ⟨ρ2, h2, j0, cells, k.trans k2, r⟩

theorem mn_end (Gd : K.Good) {ρ : Env} {n i : Int} {g : Goroutine} {w : World} (H : Head K ρ cs n i g w) (hn : n ≤ i) (h0 : 0 ≤ n) : Walk Tryz.prog main (DK K) (MadeOne (kOf K (mnO [])) 7 28 cs w) 0 g w := by
  have hC := mnC
  unfold mnEnd at hC
  split at hC
  · rename_i h hr
    split at hC
    · rename_i cells e hb
      rw [Bool.and_eq_true] at hC
      have he : e = 28 := Nat.eq_of_beq_eq_true hC.2
      have hl : cells.length = 1 := Nat.eq_of_beq_eq_true hC.1
      subst he
      have F : FactsAt (kOf K (mnO [])) (mnO mnBsC) ρ w := mn_facts fun p hp => by
        simp only [mnBsC, List.mem_cons, List.not_mem_nil, or_false] at hp
        subst hp
        simp only [BE.ev, IE.ev, icmp, v2, v3, H.n, H.i]
        exact decide_eq_false (by omega)
      obtain ⟨N, E⟩ := steps_ok (K := kOf K (mnO mnBsC)) (main := main) (kOf_good Gd _) (kOf_facts _) (kOf_ext Gd _) noSums_ok hr
      have W := E (Below 102) ρ cs g w (cfgLow_in mnLow nb_D low_C) (H.gam.change F)
      refine (Walk.weaken (fun g' w' d => ?_) W).any
      obtain ⟨ρ', A, kp, gr, hin, R, ends⟩ := d
      rw [fn_D] at ends
      exact ⟨ρ', h, 101, cells, kp, R.change (O := mnO []) (mn_facts fun p hp => absurd hp List.not_mem_nil), hb, ⟨_, show Tryz.prog.info? 28 = some _ from rfl, by rw [hl]; kernel_rfl⟩, ends⟩
    · cases hC
  · cases hC

theorem mn_loop (Gd : K.Good) {n : Int} (hn : n ≤ 4096) : ∀ (m : Nat) {i : Int} {ρ : Env} {g : Goroutine} {w : World}, (n - i).toNat = m → 0 ≤ i → i ≤ n → Head K ρ cs n i g w → Walk Tryz.prog main (DK K) (MadeOne (kOf K (mnO [])) 7 28 cs w) 0 g w
  | 0, i, ρ, g, w, hm, h0, h1, H => mn_end Gd H (by omega) (by omega)
  | m + 1, i, ρ, g, w, hm, h0, h1, H => by
    have hlt : i < n := by omega
    have F : FactsAt (kOf K (mnO [])) (mnO mnBsB) ρ w := mn_facts fun p hp => by
      simp only [mnBsB, List.mem_cons, List.not_mem_nil, or_false] at hp
      rcases hp with rfl | rfl | rfl <;> simp only [BE.ev, IE.ev, icmp, v2, v3, H.n, H.i] <;> exact decide_eq_true (by omega)
    have W := piece_ok (K := kOf K (mnO [])) (main := main) (O := mnO mnBsB) (O' := mnO []) (kOf_good Gd _) (kOf_facts _) (kOf_ext Gd _) noSums_ok (cfOf_ok mnB) mnRenB mnLow nb_D low_B H.gam F
    refine (Walk.trans (m := 0) (fun g' w' hd => ?_) W).any
    obtain ⟨ρ', A, kp, hG⟩ := hd
    have Γ := hG (mn_facts fun p hp => absurd hp List.not_mem_nil)
    have e2 : (ρ'.sub mnSB).i 2 = n := by
      show ρ'.i 2 = n
      rw [A.i 2 (by decide)]; exact H.n
    have e3 : (ρ'.sub mnSB).i 3 = i + 1 := by
      show IntKind.wrap .i64 (ρ'.i 3 + 1) = i + 1
      rw [A.i 3 (by decide), H.i]
      exact wrap1 h0 (by omega)
    exact (mn_loop Gd hn m (i := i + 1) (by omega) (by omega) (by omega) ⟨Γ, e2, e3⟩).weaken fun g2 w2 x => MadeOne.before kp x

theorem A_facts {ρ : Env} {n : Nat} (h2 : ρ.i 2 = n) (h1 : 1 ≤ n) (h4 : n ≤ 4096) (ho : onesZ (.ofNat n) = 1) : ∀ p ∈ mnBsA, p.1.ev ρ = p.2 := by
  intro p hp
  simp only [mnBsA, List.mem_cons, List.not_mem_nil, or_false] at hp
  rcases hp with rfl | rfl | rfl | rfl | rfl | rfl | rfl
  · simp only [BE.ev, IE.ev, icmp, v2, h2]; exact decide_eq_true (by omega)
  · simp only [BE.ev, IE.ev, icmp, v2, h2]; exact decide_eq_true (by omega)
  · simp only [BE.ev, IE.ev, icmp, v2, h2]; exact decide_eq_false (by omega)
  · simp only [BE.ev, IE.ev, icmp, v2, h2]; exact decide_eq_false (by omega)
  · show (onesE.ev ρ != (1 : Int)) = false
    rw [ones_ev, h2]
    have : onesZ ((n : Int)) = 1 := ho
    rw [this]
    rfl
  · simp only [BE.ev, IE.ev, icmp, v2, h2]; exact decide_eq_true (by omega)
  · simp only [BE.ev, IE.ev, icmp, v2, h2]; exact decide_eq_true (by omega)

/-- The whole call. -/
theorem mn_call (Gd : K.Good) {n : Nat} (h1 : 1 ≤ n) (h4 : n ≤ 4096) (ho : onesZ (.ofNat n) = 1) {ρ : Env} (h2 : ρ.i 2 = n) {g : Goroutine} {w : World} (Γ : Gam (kOf K (mnO [])) ρ ⟨mnFr, [], h0⟩ cs g w) : Walk Tryz.prog main (DK K) (MadeOne (kOf K (mnO [])) 7 28 cs w) 0 g w := by
  have F : FactsAt (kOf K (mnO [])) (mnO mnBsA) ρ w := mn_facts (A_facts h2 h1 h4 ho)
  have W := piece_ok (K := kOf K (mnO [])) (main := main) (O := mnO mnBsA) (O' := mnO []) (kOf_good Gd _) (kOf_facts _) (kOf_ext Gd _) noSums_ok (cfOf_ok mnA) mnRenA mnLow0 rfl low_A Γ F
  refine (Walk.trans (m := 0) (fun g' w' hd => ?_) W).any
  obtain ⟨ρ', A, kp, hG⟩ := hd
  have Γ := hG (mn_facts fun p hp => absurd hp List.not_mem_nil)
  have e2 : (ρ'.sub mnSA).i 2 = (n : Int) := by
    show ρ'.i 2 = n
    rw [A.i 2 (by decide)]; exact h2
  exact (mn_loop Gd (n := n) (by omega) (n - 1) (i := 1) (by omega) (by omega) (by omega) ⟨Γ, e2, rfl⟩).weaken fun g2 w2 x => MadeOne.before kp x
end

noncomputable def mnArg (n : Nat) : AV := .int .i64 (.lit (.ofNat n))
noncomputable def mnFrn (n : Nat) : AFrame := frOf (enterA Tryz.prog 7 [mnArg n] .normal)
theorem mnEn (n : Nat) : enterA Tryz.prog 7 [mnArg n] .normal = .ok (mnFrn n) := rfl
noncomputable def mnS0 (n : Nat) : Sub := { is := [(2, .lit (.ofNat n))] }
theorem mnRen0 (n : Nat) : mnFrn n = mnFr.ren (mnS0 n) := rfl

/-- Its summary, for one size. -/
noncomputable def mnSum (n : Nat) : Sums := madeSum 7 [mnArg n] 28
theorem mnSum_ok {O : Orc} {own : Nat → Prop} {Ev : Event → Prop} {lock : Prop} {still : Nat → Nat → Prop} {main : Bool} (Gd : (⟨Tryz.prog, O, own, Ev, lock, still⟩ : Ctx).Good) {n : Nat} (h1 : 1 ≤ n) (h4 : n ≤ 4096) (ho : onesZ (.ofNat n) = 1) : SumOk ⟨Tryz.prog, O, own, Ev, lock, still⟩ main (mnSum n) :=
  madeSum_ok (mnEn n) fun h hlt => ⟨0, aside_new (O := mnO []) hlt (fun ρ cs g w Gd2 Γ => by
    obtain ⟨R, fr, frs, h1', h2', h3'⟩ := Γ
    have R0 : Rel (beside ⟨Tryz.prog, O, own, Ev, lock, still⟩ (mnO []) w) ρ h0 w :=
      ⟨(fun i b hb => by cases hb), (fun i b hb => by cases hb), (fun i j b c hb => by cases hb), (fun p hp => absurd hp List.not_mem_nil), (fun p hp => absurd hp List.not_mem_nil), (fun p hp => absurd hp List.not_mem_nil), (fun n hn => hn), (fun i b hb => by cases hb), R.low⟩
    have Γ0 : Gam (beside ⟨Tryz.prog, O, own, Ev, lock, still⟩ (mnO []) w) ρ ⟨mnFrn n, [], h0⟩ cs g w := ⟨R0, fr, frs, h1', h2', h3'⟩
    have Γ1 := Gam.ren (s := mnS0 n) (d := ⟨mnFr, [], h0⟩) ⟨rfl, mnRen0 n, rfl, rfl⟩ Γ0 List.nodup_nil (O := mnO []) ⟨fun p hp => absurd hp List.not_mem_nil, fun p hp => absurd hp List.not_mem_nil, fun p hp => absurd hp List.not_mem_nil⟩
    exact mn_call (K := beside ⟨Tryz.prog, O, own, Ev, lock, still⟩ (mnO []) w) Gd2 h1 h4 ho (ρ := ρ.sub (mnS0 n)) rfl Γ1) Gd⟩
end Go.Proofs.YtbnmlanhjpdalaaGreatDoor

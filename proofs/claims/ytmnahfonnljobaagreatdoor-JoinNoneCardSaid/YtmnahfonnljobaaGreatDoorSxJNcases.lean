/-
  JoinNone: what is known beforehand of the numbers, in cases; the function 'at', once. Conditions: none.
-/
import Derived.Test.YtmnahfonnljobaaGreatDoorSxZCtx2
import Derived.IntWalk
set_option maxRecDepth 100000
set_option linter.unusedVariables false
namespace Go.Proofs.YtmnahfonnljobaaGreatDoor
open Go.Proofs.YtmnahfonnljobaaGreatDoor.SX

def jR : IE := .op .rem .i64 (.var 1) (.lit 6)
/-- 'many', brought into its range, is that. -/
def jm (mm : Int) : BE × Bool := (.cmp .eql (.op .rem .i64 (.op .add .i64 jR (.lit 6)) (.lit 6)) (.lit mm), true)
/-- k: below 0 · 0 · within · beyond. -/
def jk (mm : Int) : Nat → List (BE × Bool)
  | 0 => [(.cmp .lss (.var 2) (.lit 0), true), (.cmp .geq (.var 2) (.lit 0), false)]
  | 1 => [(.cmp .lss (.var 2) (.lit 0), false), (.cmp .geq (.var 2) (.lit 0), true), (.cmp .gtr (.var 2) (.lit mm), false), (.cmp .leq (.var 2) (.lit mm), true), (.cmp .eql (.var 2) (.lit 0), true)]
  | 2 => [(.cmp .lss (.var 2) (.lit 0), false), (.cmp .geq (.var 2) (.lit 0), true), (.cmp .gtr (.var 2) (.lit mm), false), (.cmp .leq (.var 2) (.lit mm), true), (.cmp .eql (.var 2) (.lit 0), false)]
  | _ => [(.cmp .lss (.var 2) (.lit 0), false), (.cmp .geq (.var 2) (.lit 0), true), (.cmp .gtr (.var 2) (.lit mm), true), (.cmp .leq (.var 2) (.lit mm), false)]
/-- nobody: below 0 · beyond. -/
def jn (mm : Int) : Nat → List (BE × Bool)
  | 0 => [(.cmp .geq (.var 3) (.lit 0), false)]
  | 1 => [(.cmp .geq (.var 3) (.lit 0), true), (.cmp .lss (.var 3) (.lit mm), false)]
  | _ => []
def jb (mm : Int) (kc nc : Nat) : List (BE × Bool) := jm mm :: (jk mm kc ++ jn mm nc)

def jat : List AV := [.int .i64 (.var 1), .int .i64 (.lit 6)]
noncomputable def jsum (mm : Int) : Sums := orSum (truth 23) (ansSum 16 jat (.int .i64 (.lit mm)))

noncomputable def OR (r : Int) : Orc := OS [] [] [(jR, .lit r)]
noncomputable def okI (mm : Int) : M (AE × AH) → Bool
  | .ok (.returned (.int .i64 (.lit n)), _) => n == mm
  | _ => false
theorem okI_ok {mm : Int} {r : M (AE × AH)} (h : okI mm r = true) : ∃ h', r = .ok (.returned (.int .i64 (.lit mm)), h') := by
  unfold okI at h
  split at h
  · have := eq_of_beq h
    subst this
    exact ⟨_, rfl⟩
  · cases h
noncomputable def jaf : AFrame := ⟨16, 14, TT.fill jat 0 .leaf, [.code (bodyOf Tryz.f16)], [], .run, .normal⟩
theorem jae : enterA Tryz.prog 16 jat .normal = .ok jaf := by kernel_rfl
theorem jatp0 : okI 0 (run? Tryz.prog (OR 0) (ext? Tryz.prog (OR 0) tab) noSums 500 ⟨jaf, [], h0⟩) = true := by kernel_rfl
theorem jatp1 : okI 1 (run? Tryz.prog (OR 1) (ext? Tryz.prog (OR 1) tab) noSums 500 ⟨jaf, [], h0⟩) = true := by kernel_rfl
theorem jatp2 : okI 2 (run? Tryz.prog (OR 2) (ext? Tryz.prog (OR 2) tab) noSums 500 ⟨jaf, [], h0⟩) = true := by kernel_rfl
theorem jatp3 : okI 3 (run? Tryz.prog (OR 3) (ext? Tryz.prog (OR 3) tab) noSums 500 ⟨jaf, [], h0⟩) = true := by kernel_rfl
theorem jatp4 : okI 4 (run? Tryz.prog (OR 4) (ext? Tryz.prog (OR 4) tab) noSums 500 ⟨jaf, [], h0⟩) = true := by kernel_rfl
theorem jatp5 : okI 5 (run? Tryz.prog (OR 5) (ext? Tryz.prog (OR 5) tab) noSums 500 ⟨jaf, [], h0⟩) = true := by kernel_rfl
theorem jatn1 : okI 5 (run? Tryz.prog (OR (-1)) (ext? Tryz.prog (OR (-1)) tab) noSums 500 ⟨jaf, [], h0⟩) = true := by kernel_rfl
theorem jatn2 : okI 4 (run? Tryz.prog (OR (-2)) (ext? Tryz.prog (OR (-2)) tab) noSums 500 ⟨jaf, [], h0⟩) = true := by kernel_rfl
theorem jatn3 : okI 3 (run? Tryz.prog (OR (-3)) (ext? Tryz.prog (OR (-3)) tab) noSums 500 ⟨jaf, [], h0⟩) = true := by kernel_rfl
theorem jatn4 : okI 2 (run? Tryz.prog (OR (-4)) (ext? Tryz.prog (OR (-4)) tab) noSums 500 ⟨jaf, [], h0⟩) = true := by kernel_rfl
theorem jatn5 : okI 1 (run? Tryz.prog (OR (-5)) (ext? Tryz.prog (OR (-5)) tab) noSums 500 ⟨jaf, [], h0⟩) = true := by kernel_rfl
theorem jat_run (r mm : Int) (h : mm = r ∧ 0 ≤ r ∧ r < 6 ∨ mm = r + 6 ∧ -6 < r ∧ r < 0) : okI mm (run? Tryz.prog (OR r) (ext? Tryz.prog (OR r) tab) noSums 500 ⟨jaf, [], h0⟩) = true := by
  have : r = 0 ∨ r = 1 ∨ r = 2 ∨ r = 3 ∨ r = 4 ∨ r = 5 ∨ r = -1 ∨ r = -2 ∨ r = -3 ∨ r = -4 ∨ r = -5 := by omega
  rcases this with rfl | rfl | rfl | rfl | rfl | rfl | rfl | rfl | rfl | rfl | rfl
  · obtain rfl : mm = 0 := by omega
    exact jatp0
  · obtain rfl : mm = 1 := by omega
    exact jatp1
  · obtain rfl : mm = 2 := by omega
    exact jatp2
  · obtain rfl : mm = 3 := by omega
    exact jatp3
  · obtain rfl : mm = 4 := by omega
    exact jatp4
  · obtain rfl : mm = 5 := by omega
    exact jatp5
  · obtain rfl : mm = 5 := by omega
    exact jatn1
  · obtain rfl : mm = 4 := by omega
    exact jatn2
  · obtain rfl : mm = 3 := by omega
    exact jatn3
  · obtain rfl : mm = 2 := by omega
    exact jatn4
  · obtain rfl : mm = 1 := by omega
    exact jatn5

/-- The range's number. -/
def jmod (n : Int) : Int := (n.tmod 6 + 6).tmod 6
theorem jmod_rem (n : Int) : jmod n = n.tmod 6 ∧ 0 ≤ n.tmod 6 ∧ n.tmod 6 < 6 ∨ jmod n = n.tmod 6 + 6 ∧ -6 < n.tmod 6 ∧ n.tmod 6 < 0 := by
  have h1 : n.tmod 6 < 6 := Int.tmod_lt_of_pos n (by decide)
  have h2 : -6 < n.tmod 6 := by
    have h := Int.tmod_lt_of_pos (-n) (show (0:Int) < 6 by decide)
    rw [Int.neg_tmod] at h
    omega
  have h3 : jmod n = (n.tmod 6 + 6) % 6 := Int.tmod_eq_emod_of_nonneg (by omega)
  rw [h3]
  omega

theorem jm_ev {ρ : Env} {mm : Int} : (jm mm).1.ev ρ = true ↔ jmod (ρ.i 1) = mm := by
  have hr := jmod_rem (ρ.i 1)
  have hw : IntKind.i64.wrap ((ρ.i 1).tmod 6 + 6) = (ρ.i 1).tmod 6 + 6 := IntWalk.i64_in _ (by omega)
  simp only [jm, jR, BE.ev, IE.ev, icmp, iop, hw, beq_iff_eq]
  rfl

theorem jat_sum {mm : Int} {main : Bool} {sm : List FuncId} {bs : List (BE × Bool)} {is : List (IE × IE)} {W : World} (hj : jm mm ∈ bs) : SumOk (KS sm bs is W) main (ansSum 16 jat (.int .i64 (.lit mm))) :=
  ansSum_ok jae fun h => ⟨0, fun U ρ cs g w I Γ => by
    have hf := (jm_ev (ρ := ρ)).1 (Γ.1.bs _ hj)
    have hr := jmod_rem (ρ.i 1)
    rw [hf] at hr
    have Gd' := beside_good (O := OR ((ρ.i 1).tmod 6)) (KS_good sm bs is W) Γ.1
    obtain ⟨h', he⟩ := okI_ok (jat_run ((ρ.i 1).tmod 6) mm hr)
    have E := run_ok (main := main) (K := beside (KS sm bs is W) (OR ((ρ.i 1).tmod 6)) w) Gd' ⟨fns_ok, ext_facts, mixed⟩ (ext_ok Gd' trivial tab_facts) noSums_ok he
    refine aside_walk (v := .int .i64 (.lit mm)) (O := OR ((ρ.i 1).tmod 6)) (ext := ext? Tryz.prog (OR ((ρ.i 1).tmod 6)) tab) (sum := noSums) (U' := Low) jae (by obtain ⟨N, E⟩ := E; exact ⟨N, h', E⟩) (show AV.Ins Low jat from ⟨(by decide : 1 < 100), trivial, trivial⟩) ?_ (fun n a b c => by have : 100 ≤ n := a; omega) trivial (fun p hp => by cases hp) (fun p hp => ?_) (fun p hp => hp) I Γ
    · refine ⟨(fun p hp => by cases hp), fun p hp => ?_, fun p hp => ?_⟩
      · obtain rfl := List.mem_singleton.1 hp
        exact ⟨⟨(by decide : 1 < 100), trivial⟩, trivial⟩
      · obtain rfl := List.mem_singleton.1 hp
        exact ⟨⟨trivial, trivial⟩, ⟨⟨trivial, trivial⟩, trivial⟩⟩
    · obtain rfl := List.mem_singleton.1 hp
      rfl⟩

noncomputable def jfr (nb : AV) : AFrame := ⟨4, 217, TT.fill [.int .i64 (.var 1), .int .i64 (.var 2), nb] 0 .leaf, [.code (bodyOf Tryz.f4)], [], .run, .normal⟩
theorem jfe (nb : AV) : enterA Tryz.prog 4 [.int .i64 (.var 1), .int .i64 (.var 2), nb] .normal = .ok (jfr nb) := by kernel_rfl
noncomputable def jc (nb : AV) : ACfg := ⟨jfr nb, [], h0⟩
/-- The run in that case answers true. -/
noncomputable def jrun (mm : Int) (bs : List (BE × Bool)) (nb : AV) : Bool := lastB? Tryz.prog (OS [23, 16] bs []) (ext? Tryz.prog (OS [23, 16] bs []) tab) (jsum mm) 40000 40000 (jc nb)
end Go.Proofs.YtmnahfonnljobaaGreatDoor

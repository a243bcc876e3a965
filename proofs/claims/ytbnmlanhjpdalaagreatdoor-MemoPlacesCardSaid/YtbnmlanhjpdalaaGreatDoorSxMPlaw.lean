/-
  The place of a key, two ways: shifted down at once, or bit by bit; a power of two, by counting bits. Plain laws. Conditions: none.
-/
import Derived.Test.YtbnmlanhjpdalaaGreatDoorSxRels
import Derived.IntWalk
import Derived.KernelRfl
set_option maxRecDepth 100000
set_option linter.unusedSimpArgs false
namespace Go.Proofs.YtbnmlanhjpdalaaGreatDoor.SX

noncomputable section
def zE : IE := .op .mul .u64 (.conv .u64 (.var 1)) (.lit 11400714819323198485)
def shlE : Nat → IE
  | 0 => zE
  | j + 1 => .op .shl .u64 (shlE j) (.lit 1)
def topE (j : Nat) : IE := .conv .i64 (.op .shr .u64 (shlE j) (.lit 63))
def refE : Nat → IE
  | 0 => .lit 0
  | 1 => .op .add .i64 (.lit 0) (topE 0)
  | j + 1 => .op .add .i64 (.op .mul .i64 (.lit 2) (refE j)) (topE j)
def progE (t : Nat) : IE := .conv .i64 (.op .shr .u64 (.op .shr .u64 zE (.lit 1)) (.lit (.ofNat (63 - t))))
end

theorem wrap_u64 (x : Int) : IntKind.wrap .u64 x = x % 18446744073709551616 := by
  simp [IntKind.wrap, IntKind.min, IntKind.max, IntKind.signed, IntKind.bits]

theorem zE_range (ρ : Env) : 0 ≤ zE.ev ρ ∧ zE.ev ρ < 18446744073709551616 := by
  simp only [zE, IE.ev, iop, wrap_u64]
  omega

theorem shl_ev (ρ : Env) (j : Nat) : (shlE (j + 1)).ev ρ = ((shlE j).ev ρ * 2) % 18446744073709551616 := by
  simp only [shlE, IE.ev, iop, wrap_u64]
  rfl
theorem top_ev (ρ : Env) (j : Nat) (h : 0 ≤ (shlE j).ev ρ ∧ (shlE j).ev ρ < 18446744073709551616) : (topE j).ev ρ = (shlE j).ev ρ / 9223372036854775808 := by
  have h1 : ((shlE j).ev ρ).fdiv (2 ^ (63 : Int).toNat) = (shlE j).ev ρ / 9223372036854775808 := by
    rw [Int.fdiv_eq_ediv_of_nonneg _ (by decide)]
    rfl
  show IntKind.wrap .i64 (((shlE j).ev ρ).fdiv (2 ^ (63 : Int).toNat)) = _
  rw [h1]
  exact IntWalk.i64_in _ ⟨by omega, by omega⟩

theorem pow12 {j : Nat} (h : j ≤ 12) : (2 : Int) ^ j ≤ 4096 := by
  have : j = 0 ∨ j = 1 ∨ j = 2 ∨ j = 3 ∨ j = 4 ∨ j = 5 ∨ j = 6 ∨ j = 7 ∨ j = 8 ∨ j = 9 ∨ j = 10 ∨ j = 11 ∨ j = 12 := by omega
  rcases this with rfl | rfl | rfl | rfl | rfl | rfl | rfl | rfl | rfl | rfl | rfl | rfl | rfl <;> decide

/-- So many bits down. -/
theorem ref_inv (ρ : Env) : ∀ j, j ≤ 12 → (0 ≤ (shlE j).ev ρ ∧ (shlE j).ev ρ < 18446744073709551616) ∧ (0 ≤ (refE j).ev ρ ∧ (refE j).ev ρ < 2 ^ j) ∧ zE.ev ρ * 2 ^ j = (refE j).ev ρ * 18446744073709551616 + (shlE j).ev ρ := by
  intro j
  induction j with
  | zero =>
    intro _
    have := zE_range ρ
    refine ⟨this, ⟨by simp [refE, IE.ev], by simp [refE, IE.ev]⟩, by simp [refE, IE.ev, shlE]⟩
  | succ j ih =>
    intro hj
    obtain ⟨h1, h2, h3⟩ := ih (by omega)
    have ht := top_ev ρ j h1
    have hs := shl_ev ρ j
    have hp : (2 : Int) ^ j ≤ 2048 := by
      have := pow12 hj
      rw [Int.pow_succ] at this
      omega
    have hr : (refE (j + 1)).ev ρ = 2 * (refE j).ev ρ + (shlE j).ev ρ / 9223372036854775808 := by
      cases j with
      | zero =>
        show IntKind.wrap .i64 (0 + (topE 0).ev ρ) = _
        rw [ht]
        have e0 : (refE 0).ev ρ = 0 := rfl
        rw [e0]
        rw [show (0 : Int) + (shlE 0).ev ρ / 9223372036854775808 = 2 * 0 + (shlE 0).ev ρ / 9223372036854775808 by omega]
        exact IntWalk.i64_in _ ⟨by omega, by omega⟩
      | succ j =>
        show IntKind.wrap .i64 (IntKind.wrap .i64 (2 * (refE (j + 1)).ev ρ) + (topE (j + 1)).ev ρ) = _
        rw [ht, IntWalk.i64_in (2 * (refE (j + 1)).ev ρ) ⟨by omega, by omega⟩]
        exact IntWalk.i64_in _ ⟨by omega, by omega⟩
    refine ⟨by rw [hs]; omega, ?_, ?_⟩
    · rw [hr, Int.pow_succ]; omega
    · rw [hr, hs, Int.pow_succ]
      generalize (shlE j).ev ρ = a at *
      generalize (refE j).ev ρ = b at *
      generalize hz : zE.ev ρ * 2 ^ j = c at *
      have : zE.ev ρ * (2 ^ j * 2) = c * 2 := by rw [← hz, Int.mul_assoc]
      rw [this]
      omega

theorem place_same (ρ : Env) {t : Nat} (ht : t ≤ 12) : (progE t).ev ρ = (refE t).ev ρ := by
  obtain ⟨h1, h2, h3⟩ := ref_inv ρ t ht
  have hz := zE_range ρ
  show IntKind.wrap .i64 (iop .shr .u64 (iop .shr .u64 (zE.ev ρ) 1) (Int.ofNat (63 - t))) = _
  have hs1 : iop .shr .u64 (zE.ev ρ) 1 = (zE.ev ρ).fdiv (2 ^ (1 : Int).toNat) := rfl
  have hs2 : ∀ x, iop .shr .u64 x (Int.ofNat (63 - t)) = x.fdiv (2 ^ (Int.ofNat (63 - t)).toNat) := fun x => by
    simp only [iop, Int.ofNat_eq_natCast, Int.toNat_natCast]
    rw [Nat.min_eq_left (by show 63 - t ≤ 64; omega)]
  rw [hs1, hs2]
  rw [Int.fdiv_eq_ediv_of_nonneg _ (show (0 : Int) ≤ 2 ^ (Int.ofNat (63 - t)).toNat from Int.pow_nonneg (by decide)), Int.fdiv_eq_ediv_of_nonneg _ (show (0 : Int) ≤ 2 ^ (1 : Int).toNat from by decide)]
  have e : zE.ev ρ / 2 ^ (1 : Int).toNat / 2 ^ (Int.ofNat (63 - t)).toNat = (refE t).ev ρ := by
    have : t = 0 ∨ t = 1 ∨ t = 2 ∨ t = 3 ∨ t = 4 ∨ t = 5 ∨ t = 6 ∨ t = 7 ∨ t = 8 ∨ t = 9 ∨ t = 10 ∨ t = 11 ∨ t = 12 := by omega
    generalize (refE t).ev ρ = r at *
    generalize (shlE t).ev ρ = s at *
    generalize zE.ev ρ = z at *
    rcases this with rfl | rfl | rfl | rfl | rfl | rfl | rfl | rfl | rfl | rfl | rfl | rfl | rfl <;> simp only [Int.ofNat_eq_natCast, Int.toNat_natCast, Nat.reduceSub, Int.reducePow, Nat.reducePow, Int.toNat_one, Int.pow_succ, Int.pow_zero] at * <;> omega
  rw [e]
  have hp : (2 : Int) ^ t ≤ 4096 := pow12 ht
  exact IntWalk.i64_in _ ⟨by omega, by omega⟩

/-! ### Counting bits -/
noncomputable section
def w2E : IE := .conv .u64 (.var 2)
def uE (o : BinOp) (a : IE) (b : IE) : IE := .op o .u64 a b
def x1E : IE := uE .add (uE .and (uE .shr w2E (.lit 1)) (.lit 6148914691236517205)) (uE .and w2E (.lit 6148914691236517205))
def x2E : IE := uE .add (uE .and (uE .shr x1E (.lit 2)) (.lit 3689348814741910323)) (uE .and x1E (.lit 3689348814741910323))
def x3E : IE := uE .and (uE .add (uE .shr x2E (.lit 4)) x2E) (.lit 1085102592571150095)
def x4E : IE := uE .add x3E (uE .shr x3E (.lit 8))
def x5E : IE := uE .add x4E (uE .shr x4E (.lit 16))
def x6E : IE := uE .add x5E (uE .shr x5E (.lit 32))
def onesE : IE := .op .and .i64 (.conv .i64 x6E) (.lit 127)
end
/-- The count of a number's bits, as that sum has it. -/
def onesZ (n : Int) : Int :=
  let w := IntKind.wrap .u64 n
  let x1 := iop .add .u64 (iop .and .u64 (iop .shr .u64 w 1) 6148914691236517205) (iop .and .u64 w 6148914691236517205)
  let x2 := iop .add .u64 (iop .and .u64 (iop .shr .u64 x1 2) 3689348814741910323) (iop .and .u64 x1 3689348814741910323)
  let x3 := iop .and .u64 (iop .add .u64 (iop .shr .u64 x2 4) x2) 1085102592571150095
  let x4 := iop .add .u64 x3 (iop .shr .u64 x3 8)
  let x5 := iop .add .u64 x4 (iop .shr .u64 x4 16)
  let x6 := iop .add .u64 x5 (iop .shr .u64 x5 32)
  iop .and .i64 (IntKind.wrap .i64 x6) 127
theorem ones_ev (ρ : Env) : onesE.ev ρ = onesZ (ρ.i 2) := rfl

def powers : List Nat := [1, 2, 4, 8, 16, 32, 64, 128, 256, 512, 1024, 2048, 4096]
def bitsOk : Nat → Bool
  | 0 => true
  | n + 1 => (match powers.contains (n + 1) with
    | true => decide (onesZ (Int.ofNat (n + 1)) = 1)
    | false => !decide (onesZ (Int.ofNat (n + 1)) = 1)) && bitsOk n
theorem bitsOk_all : bitsOk 4096 = true := by kernel_rfl
theorem bitsOk_at : ∀ {m n : Nat}, bitsOk m = true → 1 ≤ n → n ≤ m → (onesZ (Int.ofNat n) = 1 ↔ n ∈ powers)
  | 0, n, _, h1, h2 => by omega
  | m + 1, n, h, h1, h2 => by
    simp only [bitsOk, Bool.and_eq_true] at h
    by_cases e : n = m + 1
    · subst e
      have h3 := h.1
      split at h3
      · rename_i hc
        exact ⟨fun _ => by simpa using hc, fun _ => of_decide_eq_true h3⟩
      · rename_i hc
        refine ⟨fun e => ?_, fun e => ?_⟩
        · rw [e] at h3; simp at h3
        · have : powers.contains (m + 1) = true := by simpa using e
          rw [this] at hc; cases hc
    · exact bitsOk_at h.2 h1 (by omega)
theorem ones_power {n : Nat} (h1 : 1 ≤ n) (h2 : n ≤ 4096) : onesZ (Int.ofNat n) = 1 ↔ n ∈ powers := bitsOk_at bitsOk_all h1 h2
end Go.Proofs.YtbnmlanhjpdalaaGreatDoor.SX

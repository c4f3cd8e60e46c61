/-
  WALKS, 11: the reference: Mul.
-/
import Derived.Test.YtiiccjnfggojmaaW10
namespace Go.Proofs.Ytiiccjnfggojmaa
open Go.RowKit Wd

theorem dg_small (m : Int) (h0 : 0 ≤ m) (h1 : m < 18446744073709551616) : dg (ofI m) 0 = m % 4294967296 ∧ dg (ofI m) 1 = m / 4294967296 := by
  obtain ⟨a, b, _⟩ := dg_parts (ofI m)
  obtain ⟨p, _, _⟩ := ofI_parts m
  rw [a, b, p]
  exact ⟨by omega, by omega⟩
/-- one product of digits in its place. -/
theorem one_sc (p : Int) (h0 : 0 ≤ p) (h1 : p < 18446744073709551616) (j : Nat) (hj : j < 3) :
    (zs6.setIfInBounds j (.int .u64 (p % 4294967296))).setIfInBounds (j + 1) (.int .u64 (p / 4294967296)) = sc (ofI (p * 4294967296 ^ j)) := by
  have h := ofI_toNat (p * 4294967296 ^ j)
  unfold sc zs6
  rw [dg0, dg1, dg2, dg3, dg4, dg5]
  obtain rfl | rfl | rfl : j = 0 ∨ j = 1 ∨ j = 2 := by omega
  · rw [show (p * 4294967296 ^ 0 : Int) = p by omega] at h ⊢
    generalize (ofI p).toNat = s at h
    rw [show ((s % 4294967296 : Nat) : Int) = p % 4294967296 by omega, show ((s / 4294967296 % 4294967296 : Nat) : Int) = p / 4294967296 by omega, show ((s / 18446744073709551616 % 4294967296 : Nat) : Int) = 0 by omega,
      show ((s / 79228162514264337593543950336 % 4294967296 : Nat) : Int) = 0 by omega, show ((s / 340282366920938463463374607431768211456 % 4294967296 : Nat) : Int) = 0 by omega, show ((s / 1461501637330902918203684832716283019655932542976 % 4294967296 : Nat) : Int) = 0 by omega]
    rfl
  · rw [show (p * 4294967296 ^ 1 : Int) = p * 4294967296 by omega] at h ⊢
    generalize (ofI (p * 4294967296)).toNat = s at h
    rw [show ((s % 4294967296 : Nat) : Int) = 0 by omega, show ((s / 4294967296 % 4294967296 : Nat) : Int) = p % 4294967296 by omega, show ((s / 18446744073709551616 % 4294967296 : Nat) : Int) = p / 4294967296 by omega,
      show ((s / 79228162514264337593543950336 % 4294967296 : Nat) : Int) = 0 by omega, show ((s / 340282366920938463463374607431768211456 % 4294967296 : Nat) : Int) = 0 by omega, show ((s / 1461501637330902918203684832716283019655932542976 % 4294967296 : Nat) : Int) = 0 by omega]
    rfl
  · rw [show (p * 4294967296 ^ 2 : Int) = p * 18446744073709551616 by omega] at h ⊢
    generalize (ofI (p * 18446744073709551616)).toNat = s at h
    rw [show ((s % 4294967296 : Nat) : Int) = 0 by omega, show ((s / 4294967296 % 4294967296 : Nat) : Int) = 0 by omega, show ((s / 18446744073709551616 % 4294967296 : Nat) : Int) = p % 4294967296 by omega,
      show ((s / 79228162514264337593543950336 % 4294967296 : Nat) : Int) = p / 4294967296 by omega, show ((s / 340282366920938463463374607431768211456 % 4294967296 : Nat) : Int) = 0 by omega, show ((s / 1461501637330902918203684832716283019655932542976 % 4294967296 : Nat) : Int) = 0 by omega]
    rfl
/-- what the low k of two digits make. -/
def qm (x0 x1 : Int) (k : Nat) : Int := if k = 0 then 0 else if k = 1 then x0 else x0 + 4294967296 * x1
def dd (x0 x1 : Int) (k : Nat) : Int := if k = 0 then x0 else x1
/-- the sum behind i rows and k products of the next row. -/
def rm (x0 x1 y0 y1 : Int) (i k : Nat) : Int := qm x0 x1 i * (y0 + 4294967296 * y1) + dd x0 x1 i * 4294967296 ^ i * qm y0 y1 k
theorem rm_start (x0 x1 y0 y1 : Int) : rm x0 x1 y0 y1 0 0 = 0 := by unfold rm qm; simp
theorem rm_row (x0 x1 y0 y1 : Int) (i : Nat) (hi : i < 2) : rm x0 x1 y0 y1 i 2 = rm x0 x1 y0 y1 (i + 1) 0 := by
  obtain rfl | rfl : i = 0 ∨ i = 1 := by omega
  all_goals
    unfold rm qm dd
    simp
    try grind
theorem rm_step (x0 x1 y0 y1 : Int) (i k : Nat) (hi : i < 2) (hk : k < 2) : rm x0 x1 y0 y1 i k + dd x0 x1 i * dd y0 y1 k * 4294967296 ^ (i + k) = rm x0 x1 y0 y1 i (k + 1) := by
  obtain rfl | rfl : i = 0 ∨ i = 1 := by omega
  all_goals
    obtain rfl | rfl : k = 0 ∨ k = 1 := by omega
    all_goals
      unfold rm qm dd
      simp
      try grind
theorem rm_end (x0 x1 y0 y1 : Int) : rm x0 x1 y0 y1 2 0 = (x0 + 4294967296 * x1) * (y0 + 4294967296 * y1) := by unfold rm qm dd; simp
theorem prod_small (x y : Int) (hx : 0 ≤ x) (hx' : x < 4294967296) (hy : 0 ≤ y) (hy' : y < 4294967296) : 0 ≤ x * y ∧ x * y < 18446744073709551616 := by
  have h1 : 0 ≤ x * y := Int.mul_nonneg hx hy
  have h2 : x * y ≤ 4294967295 * 4294967295 := Int.mul_le_mul (by omega) (by omega) hy (by omega)
  exact ⟨h1, by omega⟩
end Go.Proofs.Ytiiccjnfggojmaa

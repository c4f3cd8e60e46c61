/-
  PLAIN LAWS, 2, of whole numbers of 192 bits: the parts of a product, negation, order, what fits into 64 bits. No condition.
-/
import Derived.Test.YtiiccjnfggojmaaMath
namespace Go.Proofs.Ytiiccjnfggojmaa
namespace Wd
theorem ofI_parts (n : Int) : pa (ofI n) = n % 18446744073709551616 ∧ pb (ofI n) = n / 18446744073709551616 % 18446744073709551616 ∧ pc (ofI n) = n / 340282366920938463463374607431768211456 % 18446744073709551616 := by
  have h := ofI_toNat n
  unfold pa pb pc
  generalize (ofI n).toNat = s at *
  refine ⟨by omega, by omega, by omega⟩
/-- the whole number of 64 bits with a sign. -/
def wi (n : Int) : Int := (n + 9223372036854775808) % 18446744073709551616 - 9223372036854775808
theorem mul_bound (a b : Int) (ha : -9223372036854775808 ≤ a) (ha' : a ≤ 9223372036854775807) (hb : -9223372036854775808 ≤ b) (hb' : b ≤ 9223372036854775807) :
    -85070591730234615865843651857942052864 ≤ a * b ∧ a * b ≤ 85070591730234615865843651857942052864 := by
  have h : (a * b).natAbs ≤ 9223372036854775808 * 9223372036854775808 := by
    rw [Int.natAbs_mul]
    exact Nat.mul_le_mul (by omega) (by omega)
  omega
theorem mul_parts (a b : Int) (ha : -9223372036854775808 ≤ a) (ha' : a ≤ 9223372036854775807) (hb : -9223372036854775808 ≤ b) (hb' : b ≤ 9223372036854775807) :
    pa (ofI (a * b)) = (a % 18446744073709551616) * (b % 18446744073709551616) % 18446744073709551616 ∧
    pb (ofI (a * b)) = ((a % 18446744073709551616) * (b % 18446744073709551616) / 18446744073709551616 - ((if b < 0 then a % 18446744073709551616 else 0) + (if a < 0 then b % 18446744073709551616 else 0))) % 18446744073709551616 ∧
    pc (ofI (a * b)) = sg (wi (pb (ofI (a * b)))) := by
  obtain ⟨e1, e2, e3⟩ := ofI_parts (a * b)
  rw [e1, e2, e3]
  obtain ⟨b1, b2⟩ := mul_bound a b ha ha' hb hb'
  refine ⟨?_, ?_, ?_⟩
  · rw [← Int.mul_emod]
  · by_cases sa : a < 0 <;> by_cases sb : b < 0
    · rw [show a % 18446744073709551616 = a + 18446744073709551616 by omega, show b % 18446744073709551616 = b + 18446744073709551616 by omega, if_pos sa, if_pos sb,
        Int.add_mul, Int.mul_add, Int.mul_add]
      generalize a * b = p at *
      omega
    · rw [show a % 18446744073709551616 = a + 18446744073709551616 by omega, show b % 18446744073709551616 = b by omega, if_pos sa, if_neg sb, Int.add_mul]
      generalize a * b = p at *
      omega
    · rw [show a % 18446744073709551616 = a by omega, show b % 18446744073709551616 = b + 18446744073709551616 by omega, if_neg sa, if_pos sb, Int.mul_add]
      generalize a * b = p at *
      omega
    · rw [show a % 18446744073709551616 = a by omega, show b % 18446744073709551616 = b by omega, if_neg sa, if_neg sb]
      generalize a * b = p at *
      omega
  · generalize a * b = p at *
    unfold sg wi
    split <;> omega
/-- negation, part by part. -/
theorem toNat_neg (x : X) : (-x).toNat = (6277101735386680763835789423207666416102355444464034512896 - x.toNat) % 6277101735386680763835789423207666416102355444464034512896 := by rw [BitVec.toNat_neg, two192]
theorem not_parts (x : X) : pa (~~~x) = 18446744073709551615 - pa x ∧ pb (~~~x) = 18446744073709551615 - pb x ∧ pc (~~~x) = 18446744073709551615 - pc x := by
  have h : (~~~x).toNat = 6277101735386680763835789423207666416102355444464034512895 - x.toNat := by rw [BitVec.toNat_not, two192]
  have l := lt192 x
  unfold pa pb pc
  generalize (~~~x).toNat = s at *
  generalize x.toNat = n at *
  refine ⟨by omega, by omega, by omega⟩
theorem not_dg (x : X) (i : Nat) (hi : i < 6) : dg (~~~x) i = 4294967295 - dg x i := by
  have h : (~~~x).toNat = 6277101735386680763835789423207666416102355444464034512895 - x.toNat := by rw [BitVec.toNat_not, two192]
  have l := lt192 x
  obtain rfl | rfl | rfl | rfl | rfl | rfl : i = 0 ∨ i = 1 ∨ i = 2 ∨ i = 3 ∨ i = 4 ∨ i = 5 := by omega
  · rw [dg0, dg0]; omega
  · rw [dg1, dg1]; omega
  · rw [dg2, dg2]; omega
  · rw [dg3, dg3]; omega
  · rw [dg4, dg4]; omega
  · rw [dg5, dg5]; omega
theorem not_one (x : X) : ~~~x + ofI 1 = -x := (BitVec.neg_eq_not_add x).symm
theorem ofI_neg (n : Int) : -(ofI n) = ofI (-n) := (BitVec.ofInt_neg).symm
/-- what fits. -/
theorem fits (x : X) : (ofI (wi (pa x)) = x) = (-9223372036854775808 ≤ x.toInt ∧ x.toInt ≤ 9223372036854775807) := by
  apply propext
  have h := ofI_toNat (wi (pa x))
  have hi := toInt_eq x
  have l := lt192 x
  constructor
  · intro e
    rw [e] at h
    unfold wi pa at h
    split at hi <;> omega
  · intro e
    apply BitVec.eq_of_toNat_eq
    unfold wi pa at *
    split at hi <;> omega
theorem wi_of_fits (x : X) (h : -9223372036854775808 ≤ x.toInt ∧ x.toInt ≤ 9223372036854775807) : wi (pa x) = x.toInt := by
  have hi := toInt_eq x
  have l := lt192 x
  unfold wi pa
  split at hi <;> omega
theorem toInt_ofI (n : Int) (h0 : -9223372036854775808 ≤ n) (h1 : n ≤ 9223372036854775807) : (ofI n).toInt = n := by
  have h := ofI_toNat n
  have hi := toInt_eq (ofI n)
  split at hi <;> omega
theorem toInt_ofI' (n : Int) (h0 : -3138550867693340381917894711603833208051177722232017256448 ≤ n) (h1 : n < 3138550867693340381917894711603833208051177722232017256448) : (ofI n).toInt = n := by
  have h := ofI_toNat n
  have hi := toInt_eq (ofI n)
  split at hi <;> omega
/-- the answer of Int. -/
def fit (x : X) : Int × Int := if -9223372036854775808 ≤ x.toInt ∧ x.toInt ≤ 9223372036854775807 then (x.toInt, 0) else (0, 50)
/-- order: by the highest part with its sign, then by the parts. -/
def cm (a b : Int) : Int := if a < b then -1 else if b < a then 1 else 0
theorem cm_parts (x y : X) : cm x.toInt y.toInt = if cm (wi (pc x)) (wi (pc y)) ≠ 0 then cm (wi (pc x)) (wi (pc y)) else if cm (pb x) (pb y) ≠ 0 then cm (pb x) (pb y) else cm (pa x) (pa y) := by
  have hx := toInt_eq x
  have hy := toInt_eq y
  have lx := lt192 x
  have ly := lt192 y
  have qx : x.toInt = pa x + 18446744073709551616 * pb x + 340282366920938463463374607431768211456 * wi (pc x) := by
    unfold pa pb pc wi; split at hx <;> omega
  have qy : y.toInt = pa y + 18446744073709551616 * pb y + 340282366920938463463374607431768211456 * wi (pc y) := by
    unfold pa pb pc wi; split at hy <;> omega
  have b1 := pa_lo x
  have b2 := pa_hi x
  have b3 := pb_lo x
  have b4 := pb_hi x
  have e1 := pa_lo y
  have e2 := pa_hi y
  have e3 := pb_lo y
  have e4 := pb_hi y
  clear hx hy
  rw [qx, qy]
  generalize pa x = a1 at *
  generalize pb x = a2 at *
  generalize wi (pc x) = a3 at *
  generalize pa y = c1 at *
  generalize pb y = c2 at *
  generalize wi (pc y) = c3 at *
  have kk : ∀ a b : Int, (cm a b = -1 ∧ a < b ∨ cm a b = 1 ∧ b < a ∨ cm a b = 0 ∧ a = b) := by
    intro a b; unfold cm; split
    · omega
    · split <;> omega
  have k1 := kk a1 c1
  have k2 := kk a2 c2
  have k3 := kk a3 c3
  have k := kk (a1 + 18446744073709551616 * a2 + 340282366920938463463374607431768211456 * a3) (c1 + 18446744073709551616 * c2 + 340282366920938463463374607431768211456 * c3)
  split
  · omega
  · split <;> omega
end Wd
end Go.Proofs.Ytiiccjnfggojmaa

/-
  PLAIN LAWS of whole numbers of 192 bits ('BitVec 192'): their three parts of 64 bits, their six digits of 32 bits, sums with carry, products, what stands above, order, and what fits into 64 bits. No program stands in this text.
-/
namespace Go.Proofs.Ytiiccjnfggojmaa
namespace Wd

abbrev X := BitVec 192
/-- the three parts. -/
def pa (x : X) : Int := ((x.toNat % 18446744073709551616 : Nat) : Int)
def pb (x : X) : Int := ((x.toNat / 18446744073709551616 % 18446744073709551616 : Nat) : Int)
def pc (x : X) : Int := ((x.toNat / 340282366920938463463374607431768211456 : Nat) : Int)
theorem two192 : (2 : Nat) ^ 192 = 6277101735386680763835789423207666416102355444464034512896 := by decide
theorem lt192 (x : X) : x.toNat < 6277101735386680763835789423207666416102355444464034512896 := by have := x.isLt; rwa [two192] at this
theorem pa_lo (x : X) : 0 ≤ pa x := Int.natCast_nonneg _
theorem pa_hi (x : X) : pa x < 18446744073709551616 := by unfold pa; omega
theorem pb_lo (x : X) : 0 ≤ pb x := Int.natCast_nonneg _
theorem pb_hi (x : X) : pb x < 18446744073709551616 := by unfold pb; omega
theorem pc_lo (x : X) : 0 ≤ pc x := Int.natCast_nonneg _
theorem pc_hi (x : X) : pc x < 18446744073709551616 := by have := lt192 x; unfold pc; omega
/-- a number out of its parts. -/
def mk (a b c : Int) : X := BitVec.ofInt 192 (a + 18446744073709551616 * b + 340282366920938463463374607431768211456 * c)
theorem toNat_ofInt (n : Int) : ((BitVec.ofInt 192 n).toNat : Int) = n % 6277101735386680763835789423207666416102355444464034512896 := by
  rw [BitVec.toNat_ofInt, Int.toNat_of_nonneg (Int.emod_nonneg _ (by decide))]
  rfl
theorem toInt_eq (x : X) : x.toInt = if 2 * x.toNat < 6277101735386680763835789423207666416102355444464034512896 then (x.toNat : Int) else (x.toNat : Int) - 6277101735386680763835789423207666416102355444464034512896 := by
  rw [BitVec.toInt_eq_toNat_cond, two192]; rfl
theorem mk_parts (a b c : Int) (ha : 0 ≤ a ∧ a < 18446744073709551616) (hb : 0 ≤ b ∧ b < 18446744073709551616) (hc : 0 ≤ c ∧ c < 18446744073709551616) : pa (mk a b c) = a ∧ pb (mk a b c) = b ∧ pc (mk a b c) = c := by
  have h := toNat_ofInt (a + 18446744073709551616 * b + 340282366920938463463374607431768211456 * c)
  unfold pa pb pc mk
  generalize (BitVec.ofInt 192 (a + 18446744073709551616 * b + 340282366920938463463374607431768211456 * c)).toNat = n at *
  refine ⟨by omega, by omega, by omega⟩
theorem parts_mk (x : X) : mk (pa x) (pb x) (pc x) = x := by
  apply BitVec.eq_of_toNat_eq
  have h := toNat_ofInt (pa x + 18446744073709551616 * pb x + 340282366920938463463374607431768211456 * pc x)
  have l := lt192 x
  unfold mk
  generalize (BitVec.ofInt 192 (pa x + 18446744073709551616 * pb x + 340282366920938463463374607431768211456 * pc x)).toNat = n at *
  unfold pa pb pc at h
  omega
theorem ext_parts {x y : X} (h1 : pa x = pa y) (h2 : pb x = pb y) (h3 : pc x = pc y) : x = y := by
  rw [← parts_mk x, h1, h2, h3, parts_mk]
/-- the six digits. -/
def dg (x : X) (i : Nat) : Int := ((x.toNat / 4294967296 ^ i % 4294967296 : Nat) : Int)
theorem dg_lo (x : X) (i : Nat) : 0 ≤ dg x i := Int.natCast_nonneg _
theorem dg_hi (x : X) (i : Nat) : dg x i < 4294967296 := by unfold dg; omega
theorem dg0 (x : X) : dg x 0 = ((x.toNat % 4294967296 : Nat) : Int) := by unfold dg; rw [Nat.pow_zero, Nat.div_one]
theorem dg1 (x : X) : dg x 1 = ((x.toNat / 4294967296 % 4294967296 : Nat) : Int) := by unfold dg; rw [Nat.pow_one]
theorem dg2 (x : X) : dg x 2 = ((x.toNat / 18446744073709551616 % 4294967296 : Nat) : Int) := rfl
theorem dg3 (x : X) : dg x 3 = ((x.toNat / 79228162514264337593543950336 % 4294967296 : Nat) : Int) := rfl
theorem dg4 (x : X) : dg x 4 = ((x.toNat / 340282366920938463463374607431768211456 % 4294967296 : Nat) : Int) := rfl
theorem dg5 (x : X) : dg x 5 = ((x.toNat / 1461501637330902918203684832716283019655932542976 % 4294967296 : Nat) : Int) := rfl
theorem ext_dg {x y : X} (h : ∀ i, i < 6 → dg x i = dg y i) : x = y := by
  apply BitVec.eq_of_toNat_eq
  have h0 := h 0 (by omega)
  have h1 := h 1 (by omega)
  have h2 := h 2 (by omega)
  have h3 := h 3 (by omega)
  have h4 := h 4 (by omega)
  have h5 := h 5 (by omega)
  rw [dg0, dg0] at h0
  rw [dg1, dg1] at h1
  rw [dg2, dg2] at h2
  rw [dg3, dg3] at h3
  rw [dg4, dg4] at h4
  rw [dg5, dg5] at h5
  have lx := lt192 x
  have ly := lt192 y
  omega
/-- digits of the parts. -/
theorem dg_parts (x : X) : dg x 0 = pa x % 4294967296 ∧ dg x 1 = pa x / 4294967296 ∧ dg x 2 = pb x % 4294967296 ∧ dg x 3 = pb x / 4294967296 ∧ dg x 4 = pc x % 4294967296 ∧ dg x 5 = pc x / 4294967296 := by
  have l := lt192 x
  rw [dg0, dg1, dg2, dg3, dg4, dg5]
  unfold pa pb pc
  refine ⟨by omega, by omega, by omega, by omega, by omega, by omega⟩
/-- a number out of its digits. -/
def mk6 (a b c d e f : Int) : X := BitVec.ofInt 192 (a + 4294967296 * b + 18446744073709551616 * c + 79228162514264337593543950336 * d + 340282366920938463463374607431768211456 * e + 1461501637330902918203684832716283019655932542976 * f)
theorem mk6_digits (a b c d e f : Int) (ha : 0 ≤ a ∧ a < 4294967296) (hb : 0 ≤ b ∧ b < 4294967296) (hc : 0 ≤ c ∧ c < 4294967296) (hd : 0 ≤ d ∧ d < 4294967296) (he : 0 ≤ e ∧ e < 4294967296) (hf : 0 ≤ f ∧ f < 4294967296) :
    dg (mk6 a b c d e f) 0 = a ∧ dg (mk6 a b c d e f) 1 = b ∧ dg (mk6 a b c d e f) 2 = c ∧ dg (mk6 a b c d e f) 3 = d ∧ dg (mk6 a b c d e f) 4 = e ∧ dg (mk6 a b c d e f) 5 = f := by
  have h := toNat_ofInt (a + 4294967296 * b + 18446744073709551616 * c + 79228162514264337593543950336 * d + 340282366920938463463374607431768211456 * e + 1461501637330902918203684832716283019655932542976 * f)
  rw [dg0, dg1, dg2, dg3, dg4, dg5]
  unfold mk6
  generalize (BitVec.ofInt 192 (a + 4294967296 * b + 18446744073709551616 * c + 79228162514264337593543950336 * d + 340282366920938463463374607431768211456 * e + 1461501637330902918203684832716283019655932542976 * f)).toNat = n at *
  refine ⟨by omega, by omega, by omega, by omega, by omega, by omega⟩

theorem toNat_add (x y : X) : (x + y).toNat = (x.toNat + y.toNat) % 6277101735386680763835789423207666416102355444464034512896 := by rw [BitVec.toNat_add, two192]
/-- sums, part by part. -/
theorem add_parts (x y : X) : pa (x + y) = (pa x + pa y) % 18446744073709551616 ∧
    pb (x + y) = (pb x + pb y + (pa x + pa y) / 18446744073709551616) % 18446744073709551616 ∧
    pc (x + y) = (pc x + pc y + (pb x + pb y + (pa x + pa y) / 18446744073709551616) / 18446744073709551616) % 18446744073709551616 := by
  have h := toNat_add x y
  have lx := lt192 x
  have ly := lt192 y
  unfold pa pb pc
  generalize (x + y).toNat = s at *
  generalize x.toNat = n at *
  generalize y.toNat = m at *
  refine ⟨by omega, by omega, by omega⟩
/-- sums, digit by digit: the carry ahead of digit i. -/
def dgN (n i : Nat) : Nat := n / 4294967296 ^ i % 4294967296
theorem dg_eq (x : X) (i : Nat) : dg x i = ((dgN x.toNat i : Nat) : Int) := rfl
def cyN (n m i : Nat) : Nat := (n % 4294967296 ^ i + m % 4294967296 ^ i) / 4294967296 ^ i
theorem cyN_zero (n m : Nat) : cyN n m 0 = 0 := by unfold cyN; rw [Nat.pow_zero, Nat.mod_one, Nat.mod_one]
theorem cyN_succ (n m i : Nat) : cyN n m (i + 1) = (dgN n i + dgN m i + cyN n m i) / 4294967296 := by
  unfold cyN dgN
  have hK : 0 < 4294967296 ^ i := Nat.pow_pos (by decide)
  rw [Nat.pow_succ, Nat.mod_mul, Nat.mod_mul, ← Nat.div_div_eq_div_mul]
  congr 1
  generalize 4294967296 ^ i = K at *
  have e : n % K + K * (n / K % 4294967296) + (m % K + K * (m / K % 4294967296)) = (n % K + m % K) + K * (n / K % 4294967296 + m / K % 4294967296) := by
    rw [Nat.mul_add]; omega
  rw [e, Nat.add_mul_div_left _ _ hK]
  omega
theorem cyN_le (n m i : Nat) : cyN n m i ≤ 1 := by
  induction i with
  | zero => rw [cyN_zero]; decide
  | succ i ih =>
    rw [cyN_succ]
    have a : dgN n i < 4294967296 := Nat.mod_lt _ (by decide)
    have b : dgN m i < 4294967296 := Nat.mod_lt _ (by decide)
    omega
theorem dgN_add (n m i : Nat) : dgN (n + m) i = (dgN n i + dgN m i + cyN n m i) % 4294967296 := by
  unfold dgN cyN
  have hK : 0 < 4294967296 ^ i := Nat.pow_pos (by decide)
  generalize 4294967296 ^ i = K at *
  have e : (n + m) / K = n / K + m / K + (n % K + m % K) / K := by
    have h1 := Nat.div_add_mod n K
    have h2 := Nat.div_add_mod m K
    have e2 : n + m = (n % K + m % K) + K * (n / K + m / K) := by rw [Nat.mul_add]; omega
    rw [e2, Nat.add_mul_div_left _ _ hK]
    omega
  rw [e]
  omega
theorem dgN_mod (t i : Nat) (hi : i < 6) : dgN (t % 6277101735386680763835789423207666416102355444464034512896) i = dgN t i := by
  unfold dgN
  have e : 6277101735386680763835789423207666416102355444464034512896 = 4294967296 ^ i * (4294967296 * 4294967296 ^ (5 - i)) := by
    rw [← Nat.pow_succ', ← Nat.pow_add, show i + (5 - i + 1) = 6 by omega]
  rw [e, Nat.mod_mul_right_div_self, Nat.mod_mul_right_mod]
def cy (x y : X) (i : Nat) : Int := ((cyN x.toNat y.toNat i : Nat) : Int)
theorem cy_zero (x y : X) : cy x y 0 = 0 := by unfold cy; rw [cyN_zero]; rfl
theorem cy_succ (x y : X) (i : Nat) : (dg x i + dg y i + cy x y i) / 4294967296 = cy x y (i + 1) := by
  unfold cy; rw [dg_eq, dg_eq, cyN_succ]; omega
theorem cy_lo (x y : X) (i : Nat) : 0 ≤ cy x y i := Int.natCast_nonneg _
theorem cy_hi (x y : X) (i : Nat) : cy x y i ≤ 1 := by have := cyN_le x.toNat y.toNat i; unfold cy; omega
theorem add_dg (x y : X) (i : Nat) (hi : i < 6) : (dg x i + dg y i + cy x y i) % 4294967296 = dg (x + y) i := by
  unfold cy
  rw [dg_eq, dg_eq, dg_eq, toNat_add, dgN_mod _ _ hi, dgN_add]
  omega
/-- what stands above a number of 64 bits. -/
def sg (n : Int) : Int := if n < 0 then 18446744073709551615 else 0
theorem sg_eq (n : Int) (h0 : -9223372036854775808 ≤ n) (h1 : n ≤ 9223372036854775807) : n / 9223372036854775808 % 18446744073709551616 = sg n := by
  unfold sg; split <;> omega
theorem sg_lo (n : Int) : 0 ≤ sg n := by unfold sg; split <;> omega
theorem sg_hi (n : Int) : sg n < 18446744073709551616 := by unfold sg; split <;> omega
def ofI (n : Int) : X := BitVec.ofInt 192 n
theorem ofI_toNat (n : Int) : ((ofI n).toNat : Int) = n % 6277101735386680763835789423207666416102355444464034512896 := toNat_ofInt n
theorem of_parts (n : Int) (h0 : -9223372036854775808 ≤ n) (h1 : n ≤ 9223372036854775807) : pa (ofI n) = n % 18446744073709551616 ∧ pb (ofI n) = sg n ∧ pc (ofI n) = sg n := by
  have h := ofI_toNat n
  unfold pa pb pc sg
  generalize (ofI n).toNat = s at *
  refine ⟨by omega, ?_, ?_⟩
  · split <;> omega
  · split <;> omega
theorem ofI_add (a b : Int) : ofI a + ofI b = ofI (a + b) := (BitVec.ofInt_add a b).symm
end Wd
end Go.Proofs.Ytiiccjnfggojmaa

/-
  PLAIN LAWS of CRC-32C over registers of 32 bits ('BitVec 32'): a step is linear and loses nothing; half a byte by a table; powers by matrices; sums of texts joined; a burst of 32 bits is told. Conditions: none of the program's; no program stands in this text.
-/
namespace Go.Proofs.YtahooodkklgeiaaDoor
namespace Crc

abbrev Reg := BitVec 32
def poly : Reg := (BitVec.ofNat 32 0x82F63B78)
/-- a step with the bit 0. -/
def st (r : Reg) : Reg := if r.getLsbD 0 then (r >>> 1) ^^^ poly else r >>> 1
def stN : Nat → Reg → Reg
  | 0, r => r
  | n + 1, r => stN n (st r)

theorem st_zero : st (BitVec.ofNat 32 0) = (BitVec.ofNat 32 0) := by decide
theorem stN_zero (n : Nat) : stN n (BitVec.ofNat 32 0) = (BitVec.ofNat 32 0) := by
  induction n with
  | zero => rfl
  | succ n ih => rw [stN, st_zero, ih]
theorem xor_shuffle (a b c d : Reg) : (a ^^^ b) ^^^ (c ^^^ d) = (a ^^^ c) ^^^ (b ^^^ d) := by
  ext i; simp only [BitVec.getElem_xor]; cases a[i] <;> cases b[i] <;> cases c[i] <;> cases d[i] <;> rfl
theorem st_xor (a b : Reg) : st (a ^^^ b) = st a ^^^ st b := by
  unfold st
  rw [BitVec.getLsbD_xor, BitVec.ushiftRight_xor_distrib]
  generalize a >>> 1 = x
  generalize b >>> 1 = y
  cases a.getLsbD 0 <;> cases b.getLsbD 0 <;> simp only [Bool.xor_false, Bool.xor_true, Bool.not_true, Bool.not_false, if_true, if_false, Bool.false_eq_true]
  · ext i; simp only [BitVec.getElem_xor]; cases x[i] <;> cases y[i] <;> cases poly[i] <;> rfl
  · ext i; simp only [BitVec.getElem_xor]; cases x[i] <;> cases y[i] <;> cases poly[i] <;> rfl
  · ext i; simp only [BitVec.getElem_xor]; cases x[i] <;> cases y[i] <;> cases poly[i] <;> rfl
theorem stN_xor (n : Nat) (a b : Reg) : stN n (a ^^^ b) = stN n a ^^^ stN n b := by
  induction n generalizing a b with
  | zero => rfl
  | succ n ih => rw [stN, stN, stN, st_xor, ih]
theorem stN_add (n m : Nat) (a : Reg) : stN (n + m) a = stN m (stN n a) := by
  induction n generalizing a with
  | zero => rw [Nat.zero_add]; rfl
  | succ n ih => rw [Nat.succ_add, stN, stN, ih]
theorem stN_one (a : Reg) : stN 1 a = st a := rfl
theorem stN_succ' (n : Nat) (a : Reg) : stN (n + 1) a = st (stN n a) := by rw [stN_add]; rfl

theorem st_eq_zero {a : Reg} (h : st a = (BitVec.ofNat 32 0)) : a = (BitVec.ofNat 32 0) := by
  have hb : ∀ i, i < 32 → (st a).getLsbD i = false := fun i _ => by rw [h]; simp
  have h31 := hb 31 (by omega)
  unfold st at hb h31
  cases h0 : a.getLsbD 0 with
  | true =>
    rw [h0, if_pos rfl] at h31
    rw [BitVec.getLsbD_xor, BitVec.getLsbD_ushiftRight] at h31
    have e1 : a.getLsbD (1 + 31) = false := BitVec.getLsbD_of_ge a _ (by omega)
    have e2 : poly.getLsbD 31 = true := by decide
    rw [e1, e2] at h31
    cases h31
  | false =>
    rw [h0] at hb
    apply BitVec.eq_of_getLsbD_eq
    intro i hi
    rw [show ((BitVec.ofNat 32 0)).getLsbD i = false by simp]
    cases i with
    | zero => exact h0
    | succ i =>
      have := hb i (by omega)
      rw [if_neg (by simp), BitVec.getLsbD_ushiftRight] at this
      rw [Nat.add_comm]; exact this
theorem stN_eq_zero (n : Nat) {a : Reg} (h : stN n a = (BitVec.ofNat 32 0)) : a = (BitVec.ofNat 32 0) := by
  induction n generalizing a with
  | zero => exact h
  | succ n ih => exact st_eq_zero (ih h)
theorem stN_eq_zero_iff (n : Nat) (a : Reg) : stN n a = (BitVec.ofNat 32 0) ↔ a = (BitVec.ofNat 32 0) := ⟨stN_eq_zero n, fun h => by rw [h, stN_zero]⟩
theorem xor_eq_zero {a b : Reg} (h : a ^^^ b = (BitVec.ofNat 32 0)) : a = b := by
  have : a = (a ^^^ b) ^^^ b := by rw [BitVec.xor_assoc, BitVec.xor_self, BitVec.xor_zero]
  rw [this, h, BitVec.zero_xor]
theorem stN_inj (n : Nat) {a b : Reg} (h : stN n a = stN n b) : a = b := by
  apply xor_eq_zero
  apply stN_eq_zero n
  rw [stN_xor, h, BitVec.xor_self]

/-- low bits that are 0 go out with no turn. -/
theorem stN_low (n : Nat) (a : Reg) (h : ∀ i, i < n → a.getLsbD i = false) : stN n a = a >>> n := by
  induction n generalizing a with
  | zero => rw [stN]; simp
  | succ n ih =>
    have h0 : st a = a >>> 1 := by unfold st; rw [h 0 (by omega)]; rfl
    rw [stN, h0, ih]
    · rw [← BitVec.shiftRight_add, Nat.add_comm]
    · intro i hi; rw [BitVec.getLsbD_ushiftRight, Nat.add_comm]; exact h (i + 1) (by omega)

/-- what half a byte makes of a register's lowest bits. -/
def tab : List Nat := [0x00000000, 0x105EC76F, 0x20BD8EDE, 0x30E349B1, 0x417B1DBC, 0x5125DAD3, 0x61C69362, 0x7198540D, 0x82F63B78, 0x92A8FC17, 0xA24BB5A6, 0xB21572C9, 0xC38D26C4, 0xD3D3E1AB, 0xE330A81A, 0xF36E6F75]
def tabAt (i : Nat) : Reg := BitVec.ofNat 32 (tab.getD i 0)
theorem tab_ok : ∀ i : Fin 16, stN 4 (BitVec.ofNat 32 i.val) = tabAt i.val := by decide +kernel
theorem low4 (r : Reg) : BitVec.ofNat 32 (r.toNat % 16) = r &&& (BitVec.ofNat 32 15) := by
  apply BitVec.eq_of_toNat_eq
  rw [BitVec.toNat_and, BitVec.toNat_ofNat, show ((BitVec.ofNat 32 15)).toNat = 2 ^ 4 - 1 by decide, Nat.and_two_pow_sub_one_eq_mod]
  omega
theorem half (r : Reg) : (r >>> 4) ^^^ tabAt (r.toNat % 16) = stN 4 r := by
  have hlt : r.toNat % 16 < 16 := Nat.mod_lt _ (by decide)
  have e := tab_ok ⟨r.toNat % 16, hlt⟩
  rw [← e, low4]
  have hr : r = (r ^^^ (r &&& (BitVec.ofNat 32 15))) ^^^ (r &&& (BitVec.ofNat 32 15)) := by rw [BitVec.xor_assoc, BitVec.xor_self, BitVec.xor_zero]
  have h15 : ∀ i, ((BitVec.ofNat 32 15)).getLsbD i = decide (i < 4) := by
    intro i
    by_cases hi : i < 32
    · have : ∀ j : Fin 32, ((BitVec.ofNat 32 15)).getLsbD j.val = decide (j.val < 4) := by decide
      exact this ⟨i, hi⟩
    · rw [BitVec.getLsbD_of_ge _ _ (by omega)]; simp; omega
  have hlow : stN 4 (r ^^^ (r &&& (BitVec.ofNat 32 15))) = (r ^^^ (r &&& (BitVec.ofNat 32 15))) >>> 4 := by
    apply stN_low
    intro i hi
    rw [BitVec.getLsbD_xor, BitVec.getLsbD_and, h15]
    simp [hi]
  have hsh : (r ^^^ (r &&& (BitVec.ofNat 32 15))) >>> 4 = r >>> 4 := by
    apply BitVec.eq_of_getLsbD_eq
    intro i hi
    rw [BitVec.getLsbD_ushiftRight, BitVec.getLsbD_ushiftRight, BitVec.getLsbD_xor, BitVec.getLsbD_and, h15, show decide (4 + i < 4) = false from decide_eq_false (by omega), Bool.and_false, Bool.xor_false]
  calc r >>> 4 ^^^ stN 4 (r &&& (BitVec.ofNat 32 15)) = stN 4 (r ^^^ (r &&& (BitVec.ofNat 32 15))) ^^^ stN 4 (r &&& (BitVec.ofNat 32 15)) := by rw [hlow, hsh]
    _ = stN 4 ((r ^^^ (r &&& (BitVec.ofNat 32 15))) ^^^ (r &&& (BitVec.ofNat 32 15))) := (stN_xor 4 _ _).symm
    _ = stN 4 r := congrArg (stN 4) hr.symm

/-- a step with a bit, as the document has it: by the lowest bit. -/
theorem st_bit_unlike (r : Reg) (b : Nat) (hb : b ≤ 1) (h : r.toNat % 2 ≠ b) : st (r ^^^ BitVec.ofNat 32 b) = (r >>> 1) ^^^ poly := by
  unfold st
  have hs : (r ^^^ BitVec.ofNat 32 b) >>> 1 = r >>> 1 := by
    apply BitVec.eq_of_toNat_eq
    rw [BitVec.toNat_ushiftRight, BitVec.toNat_ushiftRight, BitVec.toNat_xor, Nat.shiftRight_xor_distrib, BitVec.toNat_ofNat]
    rw [show (b % 2 ^ 32) >>> 1 = 0 by rw [Nat.mod_eq_of_lt (by omega), Nat.shiftRight_eq_div_pow]; omega, Nat.xor_zero]
  have hl : (r ^^^ BitVec.ofNat 32 b).getLsbD 0 = true := by
    rw [BitVec.getLsbD_xor]
    have e1 : r.getLsbD 0 = decide (r.toNat % 2 = 1) := by simp [BitVec.getLsbD, Nat.testBit_zero]
    have e2 : (BitVec.ofNat 32 b).getLsbD 0 = decide (b = 1) := by
      obtain rfl | rfl : b = 0 ∨ b = 1 := by omega
      · decide
      · decide
    rw [e1, e2]
    obtain rfl | rfl : b = 0 ∨ b = 1 := by omega
    · have : r.toNat % 2 = 1 := by omega
      simp [this]
    · have : r.toNat % 2 = 0 := by omega
      simp [this]
  rw [hl, hs]; rfl
theorem st_bit_alike (r : Reg) (b : Nat) (hb : b ≤ 1) (h : r.toNat % 2 = b) : st (r ^^^ BitVec.ofNat 32 b) = r >>> 1 := by
  unfold st
  have hs : (r ^^^ BitVec.ofNat 32 b) >>> 1 = r >>> 1 := by
    apply BitVec.eq_of_toNat_eq
    rw [BitVec.toNat_ushiftRight, BitVec.toNat_ushiftRight, BitVec.toNat_xor, Nat.shiftRight_xor_distrib, BitVec.toNat_ofNat]
    rw [show (b % 2 ^ 32) >>> 1 = 0 by rw [Nat.mod_eq_of_lt (by omega), Nat.shiftRight_eq_div_pow]; omega, Nat.xor_zero]
  have hl : (r ^^^ BitVec.ofNat 32 b).getLsbD 0 = false := by
    rw [BitVec.getLsbD_xor]
    have e1 : r.getLsbD 0 = decide (r.toNat % 2 = 1) := by simp [BitVec.getLsbD, Nat.testBit_zero]
    have e2 : (BitVec.ofNat 32 b).getLsbD 0 = decide (b = 1) := by
      obtain rfl | rfl : b = 0 ∨ b = 1 := by omega
      · decide
      · decide
    rw [e1, e2, h]; simp
  rw [hl, hs]; rfl
theorem st_half (c : Nat) (hc : c % 2 = 0) (h : c < 4294967296) : st (BitVec.ofNat 32 c) = BitVec.ofNat 32 (c / 2) := by
  have e := st_bit_alike (BitVec.ofNat 32 c) 0 (by omega) (by rw [BitVec.toNat_ofNat]; omega)
  rw [BitVec.xor_zero] at e
  rw [e]
  apply BitVec.eq_of_toNat_eq
  rw [BitVec.toNat_ushiftRight, BitVec.toNat_ofNat, BitVec.toNat_ofNat, Nat.shiftRight_eq_div_pow]
  omega
theorem ofNat_low (c : Nat) : BitVec.ofNat 32 c = BitVec.ofNat 32 (c % 2) ^^^ BitVec.ofNat 32 (c - c % 2) := by
  apply BitVec.eq_of_toNat_eq
  rw [BitVec.toNat_xor, BitVec.toNat_ofNat, BitVec.toNat_ofNat, BitVec.toNat_ofNat]
  apply Nat.eq_of_testBit_eq
  intro i
  rw [Nat.testBit_xor, Nat.testBit_mod_two_pow, Nat.testBit_mod_two_pow, Nat.testBit_mod_two_pow]
  cases i with
  | zero =>
    rw [Nat.testBit_zero, Nat.testBit_zero, Nat.testBit_zero]
    have e1 : (c - c % 2) % 2 = 0 := by omega
    have e2 : c % 2 % 2 = c % 2 := by omega
    rw [e1, e2]; simp
  | succ i =>
    rw [Nat.testBit_succ, Nat.testBit_succ, Nat.testBit_succ]
    have e1 : (c - c % 2) / 2 = c / 2 := by omega
    have e2 : c % 2 / 2 = 0 := by omega
    rw [e1, e2]; simp
/-- one round of the bits of a byte. -/
theorem st_round (r x : Reg) (c : Nat) (h : c < 4294967296) (hx : r ^^^ BitVec.ofNat 32 c = x) : st (r ^^^ BitVec.ofNat 32 (c % 2)) ^^^ BitVec.ofNat 32 (c / 2) = st x := by
  rw [← hx, ofNat_low c, ← BitVec.xor_assoc, st_xor (r ^^^ _), st_half (c - c % 2) (by omega) (by omega), show (c - c % 2) / 2 = c / 2 by omega]

/-- A register takes bytes in. -/
def tk (r : Reg) (l : List Nat) : Reg := l.foldl (fun r c => stN 8 (r ^^^ BitVec.ofNat 32 c)) r
theorem tk_nil (r : Reg) : tk r [] = r := rfl
theorem tk_cons (r : Reg) (c : Nat) (l : List Nat) : tk r (c :: l) = tk (stN 8 (r ^^^ BitVec.ofNat 32 c)) l := rfl
theorem tk_append (r : Reg) (a b : List Nat) : tk r (a ++ b) = tk (tk r a) b := by unfold tk; rw [List.foldl_append]
theorem tk_snoc (r : Reg) (a : List Nat) (c : Nat) : tk r (a ++ [c]) = stN 8 (tk r a ^^^ BitVec.ofNat 32 c) := by rw [tk_append]; rfl
theorem tk_split (x y : Reg) (l : List Nat) : tk (x ^^^ y) l = tk x l ^^^ stN (8 * l.length) y := by
  induction l generalizing x y with
  | nil => rfl
  | cons c l ih =>
    rw [tk_cons, tk_cons, show x ^^^ y ^^^ BitVec.ofNat 32 c = (x ^^^ BitVec.ofNat 32 c) ^^^ y by rw [BitVec.xor_assoc, BitVec.xor_comm y, ← BitVec.xor_assoc], stN_xor, ih, ← stN_add, List.length_cons]
    congr 2
    omega
/-- to go on from a sum. -/
def upd (s : Reg) (l : List Nat) : Reg := ~~~(tk (~~~s) l)
def sum (l : List Nat) : Reg := upd (BitVec.ofNat 32 0) l
theorem upd_nil (s : Reg) : upd s [] = s := by unfold upd; rw [tk_nil, BitVec.not_not]
theorem upd_append (s : Reg) (a b : List Nat) : upd s (a ++ b) = upd (upd s a) b := by unfold upd; rw [BitVec.not_not, tk_append]
def join (a b : Reg) (n : Nat) : Reg := stN (8 * n) a ^^^ b
theorem not_eq_xor (x : Reg) : ~~~x = x ^^^ (~~~(BitVec.ofNat 32 0)) := by
  rw [BitVec.not_zero, BitVec.xor_allOnes]
theorem join_sums (a b : List Nat) : join (sum a) (sum b) b.length = sum (a ++ b) := by
  unfold join sum
  rw [upd_append]
  generalize upd (BitVec.ofNat 32 0) a = s
  unfold upd
  rw [not_eq_xor s, BitVec.xor_comm s, tk_split, not_eq_xor (tk (~~~(BitVec.ofNat 32 0)) b), not_eq_xor (tk (~~~(BitVec.ofNat 32 0)) b ^^^ _), BitVec.xor_comm (stN _ _), BitVec.xor_assoc, BitVec.xor_assoc, BitVec.xor_comm (stN _ _)]
theorem join_far (a : Reg) (n m : Nat) : join (join a (BitVec.ofNat 32 0) n) (BitVec.ofNat 32 0) m = join a (BitVec.ofNat 32 0) (n + m) := by
  unfold join
  rw [BitVec.xor_zero, BitVec.xor_zero, BitVec.xor_zero, ← stN_add, Nat.mul_add]
theorem join_zero_iff (a : Reg) (n : Nat) : join a (BitVec.ofNat 32 0) n = (BitVec.ofNat 32 0) ↔ a = (BitVec.ofNat 32 0) := by
  unfold join; rw [BitVec.xor_zero]; exact stN_eq_zero_iff _ _

/-- what a matrix makes of a register, by its first k bits. -/
def mof (m : List Reg) (r : Reg) : Nat → Reg
  | 0 => BitVec.ofNat 32 0
  | k + 1 => if r.getLsbD k then mof m r k ^^^ m.getD k (BitVec.ofNat 32 0) else mof m r k
def unit (k : Nat) : Reg := BitVec.ofNat 32 (2 ^ k)
/-- the matrix of n steps. -/
def mat (n : Nat) : List Reg := (List.range 32).map fun i => stN n (unit i)
theorem mat_length (n : Nat) : (mat n).length = 32 := by simp [mat]
theorem mat_getD (n k : Nat) (h : k < 32) : (mat n).getD k (BitVec.ofNat 32 0) = stN n (unit k) := by
  rw [List.getD_eq_getElem?_getD, mat, List.getElem?_map, List.getElem?_range h]; rfl
theorem low_succ (r : Reg) (k : Nat) : BitVec.ofNat 32 (r.toNat % 2 ^ (k + 1)) = if r.getLsbD k then BitVec.ofNat 32 (r.toNat % 2 ^ k) ^^^ unit k else BitVec.ofNat 32 (r.toNat % 2 ^ k) := by
  apply BitVec.eq_of_getLsbD_eq
  intro i hi
  have h1 : (BitVec.ofNat 32 (r.toNat % 2 ^ (k + 1))).getLsbD i = (decide (i < k + 1) && r.getLsbD i) := by
    rw [BitVec.getLsbD_ofNat, Nat.testBit_mod_two_pow]; simp [hi, BitVec.getLsbD]
  have h2 : (BitVec.ofNat 32 (r.toNat % 2 ^ k)).getLsbD i = (decide (i < k) && r.getLsbD i) := by
    rw [BitVec.getLsbD_ofNat, Nat.testBit_mod_two_pow]; simp [hi, BitVec.getLsbD]
  have h3 : (unit k).getLsbD i = decide (k = i) := by
    unfold unit; rw [BitVec.getLsbD_ofNat, Nat.testBit_two_pow]; simp [hi]
  rw [h1]
  cases hk : r.getLsbD k with
  | true =>
    rw [if_pos rfl, BitVec.getLsbD_xor, h2, h3]
    by_cases e : k = i
    · subst e; simp [hk]
    · by_cases hlt : i < k
      · simp [hlt, e, Nat.lt_succ_of_lt hlt]
      · simp [hlt, e, show ¬ i < k + 1 by omega]
  | false =>
    rw [if_neg (by simp), h2]
    by_cases e : k = i
    · subst e; simp [hk]
    · by_cases hlt : i < k
      · simp [hlt, Nat.lt_succ_of_lt hlt]
      · simp [hlt, show ¬ i < k + 1 by omega]
theorem mof_mat_low (n : Nat) (r : Reg) (k : Nat) (hk : k ≤ 32) : mof (mat n) r k = stN n (BitVec.ofNat 32 (r.toNat % 2 ^ k)) := by
  induction k with
  | zero => rw [mof, Nat.pow_zero, Nat.mod_one, stN_zero]
  | succ k ih =>
    rw [mof, ih (by omega), mat_getD n k (by omega), low_succ]
    cases r.getLsbD k with
    | true => rw [if_pos rfl, if_pos rfl, stN_xor]
    | false => rw [if_neg (by simp), if_neg (by simp)]
theorem mof_mat (n : Nat) (r : Reg) : mof (mat n) r 32 = stN n r := by
  rw [mof_mat_low n r 32 (Nat.le_refl _)]
  congr 1
  apply BitVec.eq_of_toNat_eq
  rw [BitVec.toNat_ofNat, Nat.mod_eq_of_lt r.isLt, Nat.mod_eq_of_lt r.isLt]
/-- a matrix, done twice. -/
theorem mat_twice (n : Nat) : (mat n).map (fun x => mof (mat n) x 32) = mat (n + n) := by
  unfold mat
  rw [List.map_map]
  apply List.map_congr_left
  intro i _
  show mof (mat n) (stN n (unit i)) 32 = stN (n + n) (unit i)
  rw [mof_mat, ← stN_add]
theorem st_unit (k : Nat) (h : k + 1 < 32) : st (unit (k + 1)) = unit k := by
  have e := st_half (2 ^ (k + 1)) (by rw [Nat.pow_succ]; omega) (by
    have := Nat.pow_lt_pow_right (a := 2) (by omega) (show k + 1 < 32 from h)
    omega)
  rw [unit, e, unit, Nat.pow_succ, Nat.mul_div_cancel _ (by decide)]
theorem st_unit0 : st (unit 0) = poly := by decide
theorem bit_getLsbD (r : Reg) (k : Nat) : r.getLsbD k = decide (r.toNat / 2 ^ k % 2 = 1) := by
  rw [BitVec.getLsbD, Nat.testBit_eq_decide_div_mod_eq]

/-- three texts of one length. -/
def mix3 : List Nat → List Nat → List Nat → List Nat
  | a :: l, b :: m, c :: n => (a ^^^ b ^^^ c) :: mix3 l m n
  | _, _, _ => []
theorem ofNat_xor (a b : Nat) : BitVec.ofNat 32 (a ^^^ b) = BitVec.ofNat 32 a ^^^ BitVec.ofNat 32 b := by
  apply BitVec.eq_of_getLsbD_eq
  intro i hi
  simp [hi]
theorem tk_mix3 (x y z : Reg) (a b c : List Nat) (h1 : a.length = b.length) (h2 : a.length = c.length) :
    tk (x ^^^ y ^^^ z) (mix3 a b c) = tk x a ^^^ tk y b ^^^ tk z c := by
  induction a generalizing x y z b c with
  | nil =>
    obtain rfl : b = [] := List.length_eq_zero_iff.1 (by simpa using h1.symm)
    obtain rfl : c = [] := List.length_eq_zero_iff.1 (by simpa using h2.symm)
    rfl
  | cons p a ih =>
    match b, c, h1, h2 with
    | q :: b, r :: c, h1, h2 =>
      have e : x ^^^ y ^^^ z ^^^ BitVec.ofNat 32 (p ^^^ q ^^^ r) = (x ^^^ BitVec.ofNat 32 p) ^^^ (y ^^^ BitVec.ofNat 32 q) ^^^ (z ^^^ BitVec.ofNat 32 r) := by
        rw [ofNat_xor, ofNat_xor]
        generalize BitVec.ofNat 32 p = p'
        generalize BitVec.ofNat 32 q = q'
        generalize BitVec.ofNat 32 r = r'
        ext i; simp only [BitVec.getElem_xor]; cases x[i] <;> cases y[i] <;> cases z[i] <;> cases p'[i] <;> cases q'[i] <;> cases r'[i] <;> rfl
      rw [mix3, tk_cons, tk_cons, tk_cons, tk_cons, e, stN_xor, stN_xor, ih _ _ _ _ _ (by simpa using h1) (by simpa using h2)]
theorem sum_mix3 (a b c : List Nat) (h1 : a.length = b.length) (h2 : a.length = c.length) : sum (mix3 a b c) = sum a ^^^ sum b ^^^ sum c := by
  unfold sum upd
  have e : (~~~((BitVec.ofNat 32 0)) : Reg) = ~~~(BitVec.ofNat 32 0) ^^^ ~~~(BitVec.ofNat 32 0) ^^^ ~~~(BitVec.ofNat 32 0) := by decide
  rw [e, tk_mix3 _ _ _ _ _ _ h1 h2, ← e]
  generalize tk (~~~(BitVec.ofNat 32 0)) a = x
  generalize tk (~~~(BitVec.ofNat 32 0)) b = y
  generalize tk (~~~(BitVec.ofNat 32 0)) c = z
  ext i; simp only [BitVec.getElem_xor, BitVec.getElem_not]; cases x[i] <;> cases y[i] <;> cases z[i] <;> rfl

end Crc
end Go.Proofs.YtahooodkklgeiaaDoor

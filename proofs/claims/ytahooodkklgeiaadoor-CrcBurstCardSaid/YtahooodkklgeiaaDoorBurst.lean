/-
  PLAIN LAWS of bursts: a bit that is turned in bytes; a sum's four bytes behind them; turned bits within 32 in a row are told. No program stands in this text.
-/
import Derived.Test.YtahooodkklgeiaaDoorMath
namespace Go.Proofs.YtahooodkklgeiaaDoor
namespace Crc

theorem tk_set (r : Reg) (l : List Nat) (i x : Nat) (h : i < l.length) : tk r (l.set i (l.getD i 0 ^^^ x)) = tk r l ^^^ stN (8 * (l.length - i)) (BitVec.ofNat 32 x) := by
  induction l generalizing r i with
  | nil => simp at h
  | cons c l ih =>
    cases i with
    | zero =>
      show tk r ((c ^^^ x) :: l) = _
      rw [tk_cons, tk_cons, ofNat_xor, ← BitVec.xor_assoc, stN_xor, tk_split, ← stN_add]
      congr 2
      simp only [List.length_cons]
      omega
    | succ i =>
      show tk r (c :: l.set i (l.getD i 0 ^^^ x)) = _
      rw [tk_cons, tk_cons, ih _ _ (by simpa using h)]
      congr 3
      simp only [List.length_cons]
      omega
theorem stN_unit (k : Nat) (h : k < 32) : stN k (unit k) = unit 0 := by
  induction k with
  | zero => rfl
  | succ k ih => rw [stN, st_unit k h, ih (by omega)]
theorem stN_unit_ge (m k : Nat) (h : k < 32) (hm : k ≤ m) : stN m (unit k) = stN (m - k) (unit 0) := by
  have e : m = k + (m - k) := by omega
  rw [e, stN_add, stN_unit k h]
  congr 1
  omega
/-- one bit turned. -/
def flip (l : List Nat) (j : Nat) : List Nat := l.set (j / 8) (l.getD (j / 8) 0 ^^^ 2 ^ (j % 8))
theorem flip_length (l : List Nat) (j : Nat) : (flip l j).length = l.length := by simp [flip]
theorem tk_flip (r : Reg) (l : List Nat) (j : Nat) (h : j < 8 * l.length) : tk r (flip l j) = tk r l ^^^ stN (8 * l.length - j) (unit 0) := by
  unfold flip
  rw [tk_set r l (j / 8) _ (by omega), show BitVec.ofNat 32 (2 ^ (j % 8)) = unit (j % 8) from rfl, stN_unit_ge _ (j % 8) (by omega) (by omega)]
  congr 2
  omega
/-- the turned bits, the first k of 32. -/
def turned (l : List Nat) (t : Reg) (p : Nat) : Nat → List Nat
  | 0 => l
  | k + 1 => if t.getLsbD k then flip (turned l t p k) (p + k) else turned l t p k
theorem turned_length (l : List Nat) (t : Reg) (p k : Nat) : (turned l t p k).length = l.length := by
  induction k with
  | zero => rfl
  | succ k ih => rw [turned]; split <;> simp [flip_length, ih]
theorem tk_turned (r : Reg) (l : List Nat) (t : Reg) (p k : Nat) (hk : k ≤ 32) (hp : p + 32 ≤ 8 * l.length) :
    tk r (turned l t p k) = tk r l ^^^ stN (8 * l.length - p) (BitVec.ofNat 32 (t.toNat % 2 ^ k)) := by
  induction k with
  | zero => rw [turned, Nat.pow_zero, Nat.mod_one, stN_zero, BitVec.xor_zero]
  | succ k ih =>
    rw [turned, low_succ]
    cases t.getLsbD k with
    | true =>
      rw [if_pos rfl, if_pos rfl, tk_flip r _ (p + k) (by rw [turned_length]; omega), ih (by omega), turned_length, stN_xor, BitVec.xor_assoc]
      congr 2
      rw [stN_unit_ge (8 * l.length - p) k (by omega) (by omega)]
      congr 1
      omega
    | false => rw [if_neg (by simp), if_neg (by simp), ih (by omega)]
theorem low_all (t : Reg) : BitVec.ofNat 32 (t.toNat % 2 ^ 32) = t := by
  apply BitVec.eq_of_toNat_eq
  rw [BitVec.toNat_ofNat, Nat.mod_eq_of_lt t.isLt, Nat.mod_eq_of_lt t.isLt]
/-- four bytes, the lowest first, as a register. -/
def four (a b c d : Nat) : Reg := BitVec.ofNat 32 a ^^^ BitVec.ofNat 32 b <<< 8 ^^^ BitVec.ofNat 32 c <<< 16 ^^^ BitVec.ofNat 32 d <<< 24
theorem stN_shl (n : Nat) (x : Reg) (h : x.toNat < 2 ^ (32 - n)) (hn : n ≤ 32) : stN n (x <<< n) = x := by
  rw [stN_low n _ (fun i hi => by rw [BitVec.getLsbD_shiftLeft]; simp [hi])]
  apply BitVec.eq_of_getLsbD_eq
  intro i hi
  rw [BitVec.getLsbD_ushiftRight, BitVec.getLsbD_shiftLeft]
  by_cases h1 : n + i < 32
  · simp [h1]
  · have : x.getLsbD i = false := by
      rw [BitVec.getLsbD]
      exact Nat.testBit_lt_two_pow (Nat.lt_of_lt_of_le h (Nat.pow_le_pow_right (by omega) (by omega)))
    simp [h1, this]
theorem tk_four (r : Reg) (a b c d : Nat) (hb : b < 256) (hc : c < 256) (hd : d < 256) : tk r [a, b, c, d] = stN 32 (r ^^^ four a b c d) := by
  have sm : ∀ x : Nat, x < 256 → ∀ n : Nat, n ≤ 24 → (BitVec.ofNat 32 x).toNat < 2 ^ (32 - n) := fun x hx n hn => by
    rw [BitVec.toNat_ofNat, Nat.mod_eq_of_lt (by omega)]
    exact Nat.lt_of_lt_of_le hx (by
      have : (2 : Nat) ^ 8 ≤ 2 ^ (32 - n) := Nat.pow_le_pow_right (by omega) (by omega)
      simpa using this)
  have e1 : stN 32 (BitVec.ofNat 32 b <<< 8) = stN 24 (BitVec.ofNat 32 b) := by
    show stN (8 + 24) _ = _
    rw [stN_add, stN_shl 8 _ (sm b hb 8 (by omega)) (by omega)]
  have e2 : stN 32 (BitVec.ofNat 32 c <<< 16) = stN 16 (BitVec.ofNat 32 c) := by
    show stN (16 + 16) _ = _
    rw [stN_add, stN_shl 16 _ (sm c hc 16 (by omega)) (by omega)]
  have e3 : stN 32 (BitVec.ofNat 32 d <<< 24) = stN 8 (BitVec.ofNat 32 d) := by
    show stN (24 + 8) _ = _
    rw [stN_add, stN_shl 24 _ (sm d hd 24 (by omega)) (by omega)]
  unfold four
  rw [stN_xor, stN_xor, stN_xor, stN_xor, e1, e2, e3]
  show stN 8 (stN 8 (stN 8 (stN 8 (r ^^^ BitVec.ofNat 32 a) ^^^ BitVec.ofNat 32 b) ^^^ BitVec.ofNat 32 c) ^^^ BitVec.ofNat 32 d) = _
  simp only [stN_xor, ← stN_add]
  simp only [BitVec.xor_assoc]
/-- the bytes of a sum. -/
def sumByte (s : Reg) (i : Nat) : Nat := s.toNat / 2 ^ (8 * i) % 256
def sumBytes (s : Reg) (k : Nat) : List Nat := (List.range k).map (sumByte s)
theorem sumByte_lt (s : Reg) (i : Nat) : sumByte s i < 256 := Nat.mod_lt _ (by decide)
theorem sumBytes_succ (s : Reg) (k : Nat) : sumBytes s (k + 1) = sumBytes s k ++ [sumByte s k] := by
  unfold sumBytes; rw [List.range_succ, List.map_append]; rfl
theorem sumBytes_four (s : Reg) : sumBytes s 4 = [sumByte s 0, sumByte s 1, sumByte s 2, sumByte s 3] := by rfl
theorem sumByte_bit (s : Reg) (i j : Nat) (hj : j < 8) : (sumByte s i).testBit j = s.getLsbD (8 * i + j) := by
  unfold sumByte
  rw [show 256 = 2 ^ 8 from rfl, Nat.testBit_mod_two_pow, Nat.testBit_div_two_pow, BitVec.getLsbD]
  simp [hj, Nat.add_comm]
theorem four_bit (a b c d : Nat) (ha : a < 256) (hb : b < 256) (hc : c < 256) (_hd : d < 256) (i : Nat) (hi : i < 32) :
    (four a b c d).getLsbD i = if i < 8 then a.testBit i else if i < 16 then b.testBit (i - 8) else if i < 24 then c.testBit (i - 16) else d.testBit (i - 24) := by
  have z : ∀ x : Nat, x < 256 → ∀ j, 8 ≤ j → x.testBit j = false := fun x hx j hj =>
    Nat.testBit_lt_two_pow (Nat.lt_of_lt_of_le hx (by
      have : (2 : Nat) ^ 8 ≤ 2 ^ j := Nat.pow_le_pow_right (by omega) hj
      simpa using this))
  unfold four
  simp only [BitVec.getLsbD_xor, BitVec.getLsbD_shiftLeft, BitVec.getLsbD_ofNat]
  by_cases h1 : i < 8
  · simp [h1, hi, show i < 16 by omega, show i < 24 by omega]
  · by_cases h2 : i < 16
    · simp [h1, h2, hi, show i < 24 by omega, z a ha i (by omega), show i - 8 < 32 by omega]
    · by_cases h3 : i < 24
      · simp [h1, h2, h3, hi, z a ha i (by omega), z b hb (i - 8) (by omega), show i - 16 < 32 by omega]
      · simp [h1, h2, h3, hi, z a ha i (by omega), z b hb (i - 8) (by omega), z c hc (i - 16) (by omega), show i - 24 < 32 by omega]
theorem four_sumBytes (s : Reg) : four (sumByte s 0) (sumByte s 1) (sumByte s 2) (sumByte s 3) = s := by
  apply BitVec.eq_of_getLsbD_eq
  intro i hi
  rw [four_bit _ _ _ _ (sumByte_lt _ _) (sumByte_lt _ _) (sumByte_lt _ _) (sumByte_lt _ _) i hi]
  by_cases h1 : i < 8
  · rw [if_pos h1, sumByte_bit _ _ _ h1]; congr 1; omega
  · rw [if_neg h1]
    by_cases h2 : i < 16
    · rw [if_pos h2, sumByte_bit _ _ _ (by omega)]; congr 1; omega
    · rw [if_neg h2]
      by_cases h3 : i < 24
      · rw [if_pos h3, sumByte_bit _ _ _ (by omega)]; congr 1; omega
      · rw [if_neg h3, sumByte_bit _ _ _ (by omega)]; congr 1; omega
/-- what bytes with their sum behind them leave in the register. -/
theorem fits_iff (d : List Nat) (a b c e : Nat) (hb : b < 256) (hc : c < 256) (he : e < 256) :
    sum d = four a b c e ↔ tk (~~~(BitVec.ofNat 32 0)) (d ++ [a, b, c, e]) = stN 32 (~~~(BitVec.ofNat 32 0)) := by
  rw [tk_append, tk_four _ a b c e hb hc he]
  unfold sum upd
  generalize tk (~~~(BitVec.ofNat 32 0)) d = x
  generalize four a b c e = y
  constructor
  · rintro rfl
    congr 1
    rw [not_eq_xor x, ← BitVec.xor_assoc, BitVec.xor_self, BitVec.zero_xor]
  · intro h
    have h2 := stN_inj 32 h
    have : y = x ^^^ (x ^^^ y) := by rw [← BitVec.xor_assoc, BitVec.xor_self, BitVec.zero_xor]
    rw [this, h2, ← not_eq_xor]
theorem burst (d : List Nat) (t : Reg) (p : Nat) (hp : p + 32 ≤ 8 * (d.length + 4)) :
    tk (~~~(BitVec.ofNat 32 0)) (turned (d ++ sumBytes (sum d) 4) t p 32) = stN 32 (~~~(BitVec.ofNat 32 0)) ↔ t = BitVec.ofNat 32 0 := by
  have h0 : tk (~~~(BitVec.ofNat 32 0)) (d ++ sumBytes (sum d) 4) = stN 32 (~~~(BitVec.ofNat 32 0)) := by
    rw [sumBytes_four]
    exact (fits_iff d _ _ _ _ (sumByte_lt _ _) (sumByte_lt _ _) (sumByte_lt _ _)).1 (four_sumBytes _).symm
  have hl : (d ++ sumBytes (sum d) 4).length = d.length + 4 := by rw [List.length_append]; rfl
  rw [tk_turned _ _ t p 32 (Nat.le_refl _) (by rw [hl]; exact hp), h0, low_all]
  constructor
  · intro h
    have h2 : stN (8 * (d ++ sumBytes (sum d) 4).length - p) t = BitVec.ofNat 32 0 := by
      have e : ∀ x y : Reg, x ^^^ y = x → y = BitVec.ofNat 32 0 := fun x y h => by
        have : y = x ^^^ (x ^^^ y) := by rw [← BitVec.xor_assoc, BitVec.xor_self, BitVec.zero_xor]
        rw [this, h, BitVec.xor_self]
      exact e _ _ h
    exact stN_eq_zero _ h2
  · rintro rfl
    rw [stN_zero, BitVec.xor_zero]
/-- a register out of bytes, the highest first. -/
def ws (b : Nat → Nat) : Nat → Reg
  | 0 => BitVec.ofNat 32 0
  | j + 1 => ws b j <<< 8 ||| BitVec.ofNat 32 (b (3 - j))
theorem ws_four (b : Nat → Nat) (h : ∀ i, b i < 256) : ws b 4 = four (b 0) (b 1) (b 2) (b 3) := by
  have z : ∀ k j, 8 ≤ j → (b k).testBit j = false := fun k j hj =>
    Nat.testBit_lt_two_pow (Nat.lt_of_lt_of_le (h k) (by
      have : (2 : Nat) ^ 8 ≤ 2 ^ j := Nat.pow_le_pow_right (by omega) hj
      simpa using this))
  apply BitVec.eq_of_getLsbD_eq
  intro i hi
  rw [four_bit _ _ _ _ (h 0) (h 1) (h 2) (h 3) i hi]
  simp only [ws, BitVec.getLsbD_or, BitVec.getLsbD_shiftLeft, BitVec.getLsbD_ofNat, Nat.sub_zero, Nat.reduceSub]
  by_cases h1 : i < 8
  · simp [h1, hi]
  · by_cases h2 : i < 16
    · simp [h1, h2, hi, z 0 i (by omega), show i - 8 < 8 by omega, show i - 8 < 32 by omega]
    · by_cases h3 : i < 24
      · simp [h1, h2, h3, hi, z 0 i (by omega), z 1 (i - 8) (by omega), show ¬ i - 8 < 8 by omega, show i - 8 < 32 by omega, show i - 8 - 8 = i - 16 by omega, show i - 16 < 8 by omega, show i - 16 < 32 by omega]
      · simp [h1, h2, h3, hi, z 0 i (by omega), z 1 (i - 8) (by omega), z 2 (i - 16) (by omega), show ¬ i - 8 < 8 by omega, show i - 8 < 32 by omega, show i - 8 - 8 = i - 16 by omega, show i - 16 - 8 = i - 24 by omega, show ¬ i - 16 < 8 by omega, show i - 16 < 32 by omega, show i - 24 < 32 by omega]
theorem list_four (l : List Nat) (n : Nat) (h : l.length = n + 4) : l = l.take n ++ [l.getD n 0, l.getD (n + 1) 0, l.getD (n + 2) 0, l.getD (n + 3) 0] := by
  apply List.ext_getElem?
  intro i
  rw [List.getElem?_append, List.length_take, h]
  by_cases h0 : i < min n (n + 4)
  · rw [if_pos h0, List.getElem?_take_of_lt (by omega)]
  · rw [if_neg h0]
    by_cases h1 : i < n + 4
    · obtain ⟨j, hj⟩ : ∃ j, i = n + j := ⟨i - n, by omega⟩
      subst hj
      have e : n + j - min n (n + 4) = j := by omega
      rw [e, List.getElem?_eq_getElem (by omega)]
      have g : ∀ k (hk : k < l.length), l.getD k 0 = l[k] := fun k hk => by rw [List.getD_eq_getElem?_getD, List.getElem?_eq_getElem hk]; rfl
      obtain rfl | rfl | rfl | rfl : j = 0 ∨ j = 1 ∨ j = 2 ∨ j = 3 := by omega
      · rw [g n (by omega)]; rfl
      · rw [g (n + 1) (by omega)]; rfl
      · rw [g (n + 2) (by omega)]; rfl
      · rw [g (n + 3) (by omega)]; rfl
    · rw [List.getElem?_eq_none (by omega), List.getElem?_eq_none (by simp; omega)]
theorem burst_fin (d l : List Nat) (t : Reg) (p n : Nat) (hn : d.length = n) (h : l = turned (d ++ sumBytes (sum d) 4) t p 32) (hp : p + 32 ≤ 8 * (n + 4)) (hb : ∀ c ∈ l, c < 256) :
    sum (l.take n) = ws (fun i => l.getD (n + i) 0) 4 ↔ t = BitVec.ofNat 32 0 := by
  have hl : l.length = n + 4 := by rw [h, turned_length, List.length_append, hn]; rfl
  have hg : ∀ i, l.getD i 0 < 256 := fun i => by
    rw [List.getD_eq_getElem?_getD]
    by_cases hi : i < l.length
    · rw [List.getElem?_eq_getElem hi]; exact hb _ (List.getElem_mem _)
    · rw [List.getElem?_eq_none (by omega)]; decide
  rw [ws_four _ (fun i => hg (n + i)), Nat.add_zero, fits_iff _ _ _ _ _ (hg _) (hg _) (hg _), ← list_four l n hl, h]
  subst hn
  exact burst d t p hp
end Crc
end Go.Proofs.YtahooodkklgeiaaDoor

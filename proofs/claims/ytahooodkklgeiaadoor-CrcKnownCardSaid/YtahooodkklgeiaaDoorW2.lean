/-
  WALKS, 2: the document's answer for layer 2 (step, take, Update, Sum, Join), Bring, and crc.Sum.
-/
import Derived.Test.YtahooodkklgeiaaDoorW1
namespace Go.Proofs.YtahooodkklgeiaaDoor
open Go.RowKit Crc

theorem poly_N (x : Reg) : bits .xor .u32 (N x / 2) 2197175160 = N ((x >>> 1) ^^^ poly) := by
  have h := shr_N x 1
  rw [show (2 : Int) ^ 1 = 2 by decide] at h
  rw [h, show (2197175160 : Int) = N poly by decide, xor_N]
theorem half_N1 (x : Reg) : N x / 2 = N (x >>> 1) := by
  have h := shr_N x 1
  rw [show (2 : Int) ^ 1 = 2 by decide] at h
  exact h
set_option maxHeartbeats 400000 in
theorem step_any (r : Reg) (bit : Int) (h0 : 0 ≤ bit) (h1 : bit ≤ 1) (w : World) :
    Calls Tryd.prog 26 #[.int .u32 (N r), .int .u32 bit] w fun e w' => e = .returned (.int .u32 (N (st (r ^^^ B bit)))) ∧ w = w' := by
  obtain ⟨b, rfl⟩ := Int.eq_ofNat_of_zero_le h0
  have eB : B (b : Int) = BitVec.ofNat 32 b := by unfold B; rw [BitVec.ofInt_natCast]
  have l := N_lo r
  have u := N_hi r
  have p := poly_N r
  have q := half_N1 r
  by_cases h : r.toNat % 2 = b
  · have ht : N r % 2 = (b : Int) := by unfold N; omega
    have hs := st_bit_alike r b (by omega) h
    rw [eB, hs]
    have ht' : (N r % 2 != (b : Int)) = false := by rw [ht]; simp
    clear ht hs eB h p
    go_enter Tryd.func26, Tryd.ntmps26
    go_wp2
    go_ret
    exact ⟨rfl, rfl⟩
  · have ht : N r % 2 ≠ (b : Int) := by unfold N; omega
    have hs := st_bit_unlike r b (by omega) h
    rw [eB, hs]
    have ht' : (N r % 2 != (b : Int)) = true := by simpa using ht
    clear ht hs eB h q
    go_enter Tryd.func26, Tryd.ntmps26
    go_wp2
    go_ret
    exact ⟨rfl, rfl⟩

set_option maxHeartbeats 400000 in
theorem take_any (s : Reg) (b cap : Nat) (A : Option Addr) (l : List Nat) (w : World) (hl : l.length ≤ 9223372036854775807) (hr : Rd w b A l) :
    Calls Tryd.prog 22 #[.int .u32 (N s), .slice A l.length cap] w fun e w' => e = .returned (.int .u32 (N (tk s l))) ∧ w = w' := by
  go_enter Tryd.func22, Tryd.ntmps22
  go_wp2
  go_loop [0, 5, 6, 7] (fun r i _ _ => ∃ k : Nat, k ≤ l.length ∧ i = .int .i64 k ∧ r = .int .u32 (N (tk s (l.take k)))) (fun _ i _ _ => l.length - (intOf i).toNat)
  case atStart => exact ⟨0, Nat.zero_le _, rfl, rfl⟩
  case round =>
    obtain ⟨k, hk, rfl, rfl⟩ := hrel
    by_cases hlt : k < l.length
    · obtain ⟨ad, c, rfl, hc, htk, hcell⟩ := hr.at_ hlt
      have Htk := Lib.hid htk
      clear htk
      obtain ⟨x, hx⟩ : ∃ x, x = tk s (l.take k) := ⟨_, rfl⟩
      have Hx := Lib.hid hx
      rw [← hx]
      clear hx
      go_wp2
      go_loop [0, 6, 7] (fun r c' j => ∃ (m d : Nat) (y : Reg), m ≤ 8 ∧ j = .int .i64 m ∧ c' = .int .u32 d ∧ d ≤ 255 / 2 ^ m ∧ r = .int .u32 (N y) ∧ y ^^^ BitVec.ofNat 32 d = stN m (x ^^^ BitVec.ofNat 32 c)) (fun _ _ j => 8 - (intOf j).toNat)
      case atStart => exact ⟨0, c, x, by omega, rfl, rfl, by omega, rfl, rfl⟩
      case round =>
        obtain ⟨m, d, y, hm, rfl, rfl, hd, rfl, hy⟩ := hrel
        have Hy := Lib.hid hy
        have Hd := Lib.hid hd
        have hd8 : d < 256 := Nat.lt_of_le_of_lt (Nat.le_trans hd (Nat.div_le_self _ _)) (by decide)
        clear hy hd
        by_cases hm8 : m < 8
        · go_wp2_with (go_at_call 26; refine (step_any _ _ (by omega) (by omega) _).mono ?_; rintro e w' ⟨rfl, rfl⟩)
          go_round
          case rel =>
            refine ⟨m + 1, d / 2, st (y ^^^ B (d % 2 : Int)), by omega, by go_num, rfl, ?_, rfl, ?_⟩
            · have := Hd.out
              rw [Nat.pow_succ, ← Nat.div_div_eq_div_mul]
              omega
            · rw [stN_succ', ← st_round y _ d (by omega) Hy.out]
              have : B ((d : Int) % 2) = BitVec.ofNat 32 (d % 2) := by
                unfold B; rw [show ((d : Int) % 2) = ((d % 2 : Nat) : Int) by simp, BitVec.ofInt_natCast]
              rw [this]
          case measure => simp [intOf]; omega
        · obtain rfl : m = 8 := by omega
          go_wp2
          go_round
          case rel =>
            refine ⟨k + 1, by omega, by go_num, ?_⟩
            have h0 : d = 0 := by have := Hd.out; omega
            have hy := Hy.out
            rw [h0, BitVec.xor_zero] at hy
            rw [Htk.out, tk_snoc, ← Hx.out, hy]
          case measure => simp [intOf]; omega
    · go_wp2
      go_ret
      exact ⟨ret_int (by rw [List.take_of_length_le (by omega)]), rfl⟩

set_option maxHeartbeats 400000 in
theorem refUpdate_any (s : Reg) (b cap : Nat) (A : Option Addr) (l : List Nat) (w : World) (hl : l.length ≤ 9223372036854775807) (hr : Rd w b A l) :
    Calls Tryd.prog 15 #[.int .u32 (N s), .slice A l.length cap] w fun e w' => e = .returned (.int .u32 (N (upd s l))) ∧ w = w' := by
  go_enter Tryd.func15, Tryd.ntmps15
  go_wp2_with (go_at_call 22; refine (take_any _ b _ _ l _ hl hr).mono ?_; rintro e w' ⟨rfl, rfl⟩)
  go_ret
  exact ⟨rfl, rfl⟩
set_option maxHeartbeats 400000 in
theorem refSum_any (b cap : Nat) (A : Option Addr) (l : List Nat) (w : World) (hl : l.length ≤ 9223372036854775807) (hr : Rd w b A l) :
    Calls Tryd.prog 13 #[.slice A l.length cap] w fun e w' => e = .returned (.int .u32 (N (sum l))) ∧ w = w' := by
  have c := refUpdate_any (BitVec.ofNat 32 0) b cap A l w hl hr
  rw [show N (BitVec.ofNat 32 0) = 0 by decide] at c
  have C := Lib.hid c
  clear c
  go_enter Tryd.func13, Tryd.ntmps13
  go_wp2_with (go_at_call 15; refine C.out.mono ?_; rintro e w' ⟨rfl, rfl⟩)
  go_ret
  exact ⟨rfl, rfl⟩
set_option maxHeartbeats 400000 in
theorem sum_any (b cap : Nat) (A : Option Addr) (l : List Nat) (w : World) (hl : l.length ≤ 9223372036854775807) (hr : Rd w b A l) (hT : HasTab w) :
    Calls Tryd.prog 12 #[.slice A l.length cap] w fun e w' => e = .returned (.int .u32 (N (sum l))) ∧ w = w' := by
  have c := update_any (BitVec.ofNat 32 0) b cap A l w hl hr hT
  rw [show N (BitVec.ofNat 32 0) = 0 by decide] at c
  have C := Lib.hid c
  clear c
  go_enter Tryd.func12, Tryd.ntmps12
  go_wp2_with (go_at_call 14; refine C.out.mono ?_; rintro e w' ⟨rfl, rfl⟩)
  go_ret
  exact ⟨rfl, rfl⟩

theorem B_zero (x : Reg) : x ^^^ B 0 = x := by rw [show B 0 = BitVec.ofNat 32 0 by decide, BitVec.xor_zero]
set_option maxHeartbeats 400000 in
theorem refJoin_neg (a b n : Int) (hn : n < 0) (w : World) :
    Calls Tryd.prog 19 #[.int .u32 a, .int .u32 b, .int .i64 n] w fun e w' => e = .returned (.tuple #[.int .u32 0, .int .i64 6]) ∧ w = w' := by
  go_enter Tryd.func19, Tryd.ntmps19
  go_wp2
  go_ret2
  exact ⟨rfl, rfl⟩
set_option maxHeartbeats 400000 in
theorem refJoin_any (a b : Reg) (n : Nat) (hn : n ≤ 9223372036854775807) (w : World) :
    Calls Tryd.prog 19 #[.int .u32 (N a), .int .u32 (N b), .int .i64 n] w fun e w' => e = .returned (.tuple #[.int .u32 (N (join a b n)), .int .i64 0]) ∧ w = w' := by
  go_enter Tryd.func19, Tryd.ntmps19
  go_wp2
  go_loop [0, 8, 9] (fun r i _ => ∃ k : Nat, k ≤ n ∧ i = .int .i64 k ∧ r = .int .u32 (N (stN (8 * k) a))) (fun _ i _ => n - (intOf i).toNat)
  case atStart => exact ⟨0, Nat.zero_le _, rfl, rfl⟩
  case round =>
    obtain ⟨k, hk, rfl, rfl⟩ := hrel
    by_cases hlt : k < n
    · go_wp2
      go_loop [0, 9] (fun r j => ∃ m : Nat, m ≤ 8 ∧ j = .int .i64 m ∧ r = .int .u32 (N (stN (8 * k + m) a))) (fun _ j => 8 - (intOf j).toNat)
      case atStart => exact ⟨0, by omega, rfl, rfl⟩
      case round =>
        obtain ⟨m, hm, rfl, rfl⟩ := hrel
        by_cases hm8 : m < 8
        · go_wp2_with (go_at_call 26; refine (step_any _ _ (by omega) (by omega) _).mono ?_; rintro e w' ⟨rfl, rfl⟩)
          go_round
          case rel => exact ⟨m + 1, by omega, by go_num, by rw [B_zero, ← stN_succ', Nat.add_assoc]⟩
          case measure => simp [intOf]; omega
        · obtain rfl : m = 8 := by omega
          go_wp2
          go_round
          case rel => exact ⟨k + 1, by omega, by go_num, by rw [Nat.mul_succ]⟩
          case measure => simp [intOf]; omega
    · obtain rfl : k = n := by omega
      go_wp2
      go_ret2
      exact ⟨rfl, rfl⟩

set_option maxHeartbeats 400000 in
theorem bring_any (i n : Int) (hi : -9223372036854775808 ≤ i ∧ i ≤ 9223372036854775807) (h1 : 1 ≤ n) (h2 : n ≤ 9223372036854775807) (w : World) :
    Calls Tryd.prog 21 #[.int .i64 i, .int .i64 n] w fun e w' => e = .returned (.int .i64 (i % n)) ∧ w = w' := by
  obtain ⟨hlo, hhi⟩ := hi
  have r0 := Int.emod_nonneg i (show n ≠ 0 by omega)
  have r1 := Int.emod_lt_of_pos i (show 0 < n by omega)
  by_cases hp : 0 ≤ i
  · go_enter Tryd.func21, Tryd.ntmps21
    go_wp2
    go_ret
    exact ⟨rfl, rfl⟩
  · obtain ⟨t, ht⟩ : ∃ t, t = i.tmod n := ⟨_, rfl⟩
    have e := Int.tmod_eq_emod (a := i) (b := n)
    rw [← ht] at e
    have hab : (n.natAbs : Int) = n := by omega
    by_cases hneg : t < 0
    · have e2 : t + n = i % n := by split at e <;> omega
      have He2 := Lib.hid e2
      have b0 : 0 ≤ t + n := by omega
      have b1 : t + n < n := by omega
      clear e e2 hab
      have ht' := ht.symm
      clear ht
      go_enter Tryd.func21, Tryd.ntmps21
      go_wp2
      go_ret
      exact ⟨ret_int He2.out, rfl⟩
    · have e2 : t = i % n := by split at e <;> omega
      have He2 := Lib.hid e2
      clear e e2 hab
      have ht' := ht.symm
      clear ht
      go_enter Tryd.func21, Tryd.ntmps21
      go_wp2
      go_ret
      exact ⟨ret_int He2.out, rfl⟩
end Go.Proofs.YtahooodkklgeiaaDoor

/-
  WALKS of the laws CrcJoins and CrcFar.
-/
import Derived.Test.YtahooodkklgeiaaDoorW4
namespace Go.Proofs.YtahooodkklgeiaaDoor
open Go.RowKit Crc

/-- both Joins, over a number that is not below 0. -/
theorem joins_pos (a b : Reg) (n : Int) (h0 : 0 ≤ n) (h1 : n ≤ 9223372036854775807) (w : World) :
    Calls Tryd.prog 18 #[.int .u32 (N a), .int .u32 (N b), .int .i64 n] w fun e w' => e = .returned (.tuple #[.int .u32 (N (join a b n.toNat)), .int .i64 0]) ∧ Below w.heap.size w w' := by
  obtain ⟨k, rfl⟩ := Int.eq_ofNat_of_zero_le h0
  exact join_any a b k (by omega) w
theorem refJoins_pos (a b : Reg) (n : Int) (h0 : 0 ≤ n) (h1 : n ≤ 9223372036854775807) (w : World) :
    Calls Tryd.prog 19 #[.int .u32 (N a), .int .u32 (N b), .int .i64 n] w fun e w' => e = .returned (.tuple #[.int .u32 (N (join a b n.toNat)), .int .i64 0]) ∧ w = w' := by
  obtain ⟨k, rfl⟩ := Int.eq_ofNat_of_zero_le h0
  exact refJoin_any a b k (by omega) w

set_option maxHeartbeats 400000 in
theorem joins_walk (a b : Reg) (n : Int) (w : World) (hn : -9223372036854775808 ≤ n ∧ n ≤ 9223372036854775807) (hT : HasTab w) :
    Calls Tryd.prog 4 #[.int .u32 (N a), .int .u32 (N b), .int .i64 n] w fun e w' => e = .returned (.bool true) ∧ Below w.heap.size w w' := by
  obtain ⟨hlo, hhi⟩ := hn
  have hp := hT.pos
  by_cases h0 : n < 0
  · go_enter Tryd.func4, Tryd.ntmps4
    go_wp2_with fail
    refine (join_neg _ _ _ h0 _).mono ?_
    rintro e w' ⟨rfl, rfl⟩
    go_wp2_with fail
    refine (refJoin_neg _ _ _ h0 _).mono ?_
    rintro e w' ⟨rfl, rfl⟩
    go_wp2_with fail
    refine (works_any _ hT).mono ?_
    rintro e w3 ⟨rfl, hb3⟩
    go_wp2
    go_ret
    exact ⟨rfl, hb3⟩
  · by_cases h6 : n ≤ 600
    · go_enter Tryd.func4, Tryd.ntmps4
      go_wp2_with fail
      refine (joins_pos a b n (by omega) hhi _).mono ?_
      rintro e w1 ⟨rfl, hb1⟩
      have hT1 := hT.below hb1 hp
      go_wp2_with fail
      refine (refJoins_pos a b n (by omega) hhi _).mono ?_
      rintro e w' ⟨rfl, rfl⟩
      go_wp2_with fail
      refine (works_any _ hT1).mono ?_
      rintro e w3 ⟨rfl, hb3⟩
      go_wp2
      go_ret
      exact ⟨rfl, hb1.trans (hb3.mono hb1.size)⟩
    · go_enter Tryd.func4, Tryd.ntmps4
      go_wp2_with fail
      refine (joins_pos a b 600 (by omega) (by omega) _).mono ?_
      rintro e w1 ⟨rfl, hb1⟩
      have hT1 := hT.below hb1 hp
      go_wp2_with fail
      refine (refJoins_pos a b 600 (by omega) (by omega) _).mono ?_
      rintro e w' ⟨rfl, rfl⟩
      go_wp2_with fail
      refine (works_any _ hT1).mono ?_
      rintro e w3 ⟨rfl, hb3⟩
      go_wp2
      go_ret
      exact ⟨rfl, hb1.trans (hb3.mono hb1.size)⟩

theorem joins0 (a : Reg) (n : Int) (h0 : 0 ≤ n) (h1 : n ≤ 9223372036854775807) (w : World) :
    Calls Tryd.prog 18 #[.int .u32 (N a), .int .u32 0, .int .i64 n] w fun e w' => e = .returned (.tuple #[.int .u32 (N (join a (BitVec.ofNat 32 0) n.toNat)), .int .i64 0]) ∧ Below w.heap.size w w' := by
  have c := joins_pos a (BitVec.ofNat 32 0) n h0 h1 w
  rwa [show N (BitVec.ofNat 32 0) = 0 by decide] at c
theorem N_zero_iff (x : Reg) : (N x == 0) = decide (x = BitVec.ofNat 32 0) := by
  rw [Bool.eq_iff_iff, beq_iff_eq, decide_eq_true_iff]
  constructor
  · intro h
    exact N_inj (by rw [h]; decide)
  · rintro rfl
    decide
set_option maxHeartbeats 400000 in
theorem far_walk (a : Reg) (n m : Int) (w : World) (hn : -9223372036854775808 ≤ n ∧ n ≤ 9223372036854775807) (hm : -9223372036854775808 ≤ m ∧ m ≤ 9223372036854775807) (hT : HasTab w) :
    Calls Tryd.prog 7 #[.int .u32 (N a), .int .i64 n, .int .i64 m] w fun e w' => e = .returned (.bool true) ∧ Below w.heap.size w w' := by
  have hp := hT.pos
  obtain ⟨n', hn'⟩ : ∃ n', n' = n % 1152921504606846976 := ⟨_, rfl⟩
  obtain ⟨m', hm'⟩ : ∃ m', m' = m % 1152921504606846976 := ⟨_, rfl⟩
  have a0 : 0 ≤ n' := by omega
  have a1 : n' < 1152921504606846976 := by omega
  have b0 : 0 ≤ m' := by omega
  have b1 : m' < 1152921504606846976 := by omega
  have cn := bring_any n 1152921504606846976 hn (by omega) (by omega)
  have cm := bring_any m 1152921504606846976 hm (by omega) (by omega)
  rw [← hn'] at cn
  rw [← hm'] at cm
  have Cn := Lib.hid cn
  have Cm := Lib.hid cm
  clear cn cm hn' hm' hn hm
  obtain ⟨x, hx⟩ : ∃ x, x = join a (BitVec.ofNat 32 0) n'.toNat := ⟨_, rfl⟩
  obtain ⟨y, hy⟩ : ∃ y, y = join x (BitVec.ofNat 32 0) m'.toNat := ⟨_, rfl⟩
  have hz : y = join a (BitVec.ofNat 32 0) (n' + m').toNat := by rw [hy, hx, join_far]; congr 1; omega
  have hxa : (N x == 0) = (N a == 0) := by
    rw [N_zero_iff, N_zero_iff, hx]
    exact decide_eq_decide.2 (join_zero_iff a _)
  obtain ⟨bx, hbx⟩ : ∃ bx, bx = (N a == 0) := ⟨_, rfl⟩
  rw [← hbx] at hxa
  have hab := hbx.symm
  clear hbx
  have Hx := Lib.hid hx
  have Hy := Lib.hid hy
  have Hz := Lib.hid hz
  clear hx hy hz
  go_enter Tryd.func7, Tryd.ntmps7
  go_wp2_with fail
  refine (Cn.out _).mono ?_
  rintro e w' ⟨rfl, rfl⟩
  go_wp2_with fail
  refine (Cm.out _).mono ?_
  rintro e w' ⟨rfl, rfl⟩
  go_wp2_with fail
  refine (joins0 a n' a0 (by omega) _).mono ?_
  rw [← Hx.out]
  rintro e w1 ⟨rfl, hb1⟩
  go_wp2_with fail
  refine (joins0 x m' b0 (by omega) _).mono ?_
  rw [← Hy.out]
  rintro e w2 ⟨rfl, hb2⟩
  go_wp2_with fail
  refine (joins0 a (n' + m') (by omega) (by omega) _).mono ?_
  rw [← Hz.out]
  rintro e w3 ⟨rfl, hb3⟩
  have hT1 := hT.below hb1 hp
  have hT2 := hT1.below hb2 hT1.pos
  have hT3 := hT2.below hb3 hT2.pos
  go_wp2_with fail
  refine (works_any _ hT3).mono ?_
  rintro e w4 ⟨rfl, hb4⟩
  go_wp2
  go_ret
  exact ⟨rfl, ((hb1.trans (hb2.mono hb1.size)).trans (hb3.mono (Nat.le_trans hb1.size hb2.size))).trans (hb4.mono (Nat.le_trans (Nat.le_trans hb1.size hb2.size) hb3.size))⟩
end Go.Proofs.YtahooodkklgeiaaDoor

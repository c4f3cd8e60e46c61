/-
  WALKS, 10: the reference: Int.
-/
import Derived.Test.YtiiccjnfggojmaaW9
import Derived.Test.YtiiccjnfggojmaaLFits
namespace Go.Proofs.Ytiiccjnfggojmaa
open Go.RowKit Wd

theorem rsix_at {a : Int} {b : Nat} {w0 w : World} (hb : Below b w0 w) (hs : b ≤ w0.heap.size) (ha : In64 a) : Calls Try.prog 42 #[.int .i64 a] w fun e w' => e = .returned (.agg (sc (ofI a))) ∧ Below b w0 w' := callIn hb hs (rsix_any a w ha.1 ha.2)
theorem rcmp_at {x y : X} {n : Int} {b : Nat} {w0 w : World} (hb : Below b w0 w) (hs : b ≤ w0.heap.size) (hx : cm x.toInt y.toInt = n) : Calls Try.prog 30 #[.agg (sc x), .agg (sc y)] w fun e w' => e = .returned (.int .i64 n) ∧ Below b w0 w' := by
  subst hx; exact callIn hb hs (rcmp_any x y w)
theorem cm_sign (a b : Int) : (a < b ∧ decide (cm a b < 0) = true ∧ decide (0 < cm a b) = false) ∨ (b < a ∧ decide (cm a b < 0) = false ∧ decide (0 < cm a b) = true) ∨ (a = b ∧ decide (cm a b < 0) = false ∧ decide (0 < cm a b) = false) := by
  rcases Int.lt_trichotomy a b with h | h | h
  · left; rw [cm_lt h]; exact ⟨h, rfl, rfl⟩
  · right; right; rw [cm_eq h]; exact ⟨h, rfl, rfl⟩
  · right; left; rw [cm_gt h]; exact ⟨h, rfl, rfl⟩
set_option maxRecDepth 100000 in
set_option maxHeartbeats 2000000 in
theorem rint_any (x : X) (w : World) :
    Calls Try.prog 28 #[.agg (sc x)] w fun e w' => e = .returned (.tuple #[.int .i64 (fit x).1, .int .i64 (fit x).2]) ∧ Below w.heap.size w w' := by
  obtain ⟨w0, hw0⟩ : ∃ w0, w0 = w.alloc (.cells (sc x) 52) := ⟨_, rfl⟩
  have h1 : Blk w0 w.heap.size 52 (sc x) := by rw [hw0]; exact Blk.new _ _ _
  have hb0 : Below w.heap.size w w0 := by rw [hw0]; exact (Below.refl _ _).alloc (Nat.le_refl _) _
  have Hw0 := Lib.hid hw0
  clear hw0
  have l1 := h1.lt
  have S := Nat.le_refl w0.heap.size
  have il : In64 (-9223372036854775808) := by unfold In64; decide
  have im : In64 9223372036854775807 := by unfold In64; decide
  have tl : (ofI (-9223372036854775808)).toInt = -9223372036854775808 := toInt_ofI _ (by decide) (by decide)
  have tm : (ofI 9223372036854775807).toInt = 9223372036854775807 := toInt_ofI _ (by decide) (by decide)
  have k1 := cm_sign x.toInt (ofI (-9223372036854775808)).toInt
  have k2 := cm_sign x.toInt (ofI 9223372036854775807).toInt
  rw [tl] at k1
  rw [tm] at k2
  obtain ⟨n1, hn1⟩ : ∃ n, cm x.toInt (ofI (-9223372036854775808)).toInt = n := ⟨_, rfl⟩
  obtain ⟨n2, hn2⟩ : ∃ n, cm x.toInt (ofI 9223372036854775807).toInt = n := ⟨_, rfl⟩
  have hn1' := hn1
  have hn2' := hn2
  rw [tl] at hn1'
  rw [tm] at hn2'
  rw [hn1'] at k1
  rw [hn2'] at k2
  clear hn1' hn2' tl tm
  have way : (decide (n1 < 0) = true ∧ fit x = (0, 50)) ∨ (decide (n1 < 0) = false ∧ decide (0 < n2) = true ∧ fit x = (0, 50)) ∨ (decide (n1 < 0) = false ∧ decide (0 < n2) = false ∧ fit x = (wi (pa x), 0)) := by
    by_cases hf : -9223372036854775808 ≤ x.toInt ∧ x.toInt ≤ 9223372036854775807
    · right; right
      refine ⟨?_, ?_, ?_⟩
      · rcases k1 with ⟨k, _, _⟩ | ⟨_, e, _⟩ | ⟨_, e, _⟩
        · omega
        · exact e
        · exact e
      · rcases k2 with ⟨_, _, e⟩ | ⟨k, _, _⟩ | ⟨_, _, e⟩
        · exact e
        · omega
        · exact e
      · unfold fit; rw [if_pos hf, wi_of_fits x hf]
    · have hz : fit x = (0, 50) := by unfold fit; rw [if_neg hf]
      by_cases hl : x.toInt < -9223372036854775808
      · left
        refine ⟨?_, hz⟩
        rcases k1 with ⟨_, e, _⟩ | ⟨k, _, _⟩ | ⟨k, _, _⟩
        · exact e
        · omega
        · omega
      · right; left
        refine ⟨?_, ?_, hz⟩
        · rcases k1 with ⟨k, _, _⟩ | ⟨_, e, _⟩ | ⟨_, e, _⟩
          · omega
          · exact e
          · exact e
        · rcases k2 with ⟨k, _, _⟩ | ⟨_, _, e⟩ | ⟨k, _, _⟩
          · omega
          · exact e
          · omega
  clear k1 k2
  have N1 := Lib.hid hn1
  have N2 := Lib.hid hn2
  clear hn1 hn2
  obtain ⟨d0, d1⟩ := dg_parts x
  have d1 := d1.1
  have b1 := pa_lo x
  have b2 := pa_hi x
  have c0 := sc_cell h1 0 (by omega)
  have c1 := sc_cell h1 1 (by omega)
  rw [d0] at c0
  rw [d1] at c1
  have u1 : IntKind.u64.wrap (4294967296 * (pa x / 4294967296)) = 4294967296 * (pa x / 4294967296) := small_wrap _ (by omega) (by omega)
  have u2 : IntKind.u64.wrap (pa x % 4294967296 + 4294967296 * (pa x / 4294967296)) = pa x := by rw [small_wrap _ (by omega) (by omega)]; omega
  clear d0 d1 b1 b2
  go_enter Try.func28, Try.ntmps28
  go_upto_region 1 with (fail)
  rw [← Hw0.out]
  refine wp_region_below_lit w0.heap.size w0 (Below.refl _ _) (by kernel_rfl) (by kernel_rfl) ?_
  rcases way with ⟨e1, hf⟩ | ⟨e1, e2, hf⟩ | ⟨e1, e2, hf⟩
  all_goals
    have Hf := Lib.hid hf
    clear hf
    repeat (first
      | go_big_quiet_skip
      | (go_big_quiet_want; (first
          | (with_reducible refine quiet_row (o := ⟨some 4, .load 52 (.tmp 1), _, _, _, _⟩) 52 (.tmp 1) rfl w.heap.size 0 rfl l1 (sc x) _ h1.range Try.underlying52 rfl (sc_info _) ?_)
          | (with_reducible refine quiet_row (o := ⟨some 9, .load 52 (.tmp 1), _, _, _, _⟩) 52 (.tmp 1) rfl w.heap.size 0 rfl l1 (sc x) _ h1.range Try.underlying52 rfl (sc_info _) ?_)); simp only [Act.put, List.setIfInBounds_toArray, List.set_cons_succ, List.set_cons_zero]; go_big_quiet_on)
      | (go_big_quiet_want; go_big_quiet_op; first | go_big_quiet_on | ((with_reducible refine ⟨_, fun _ _ => rfl, ?_⟩); go_big_quiet_on) | go_big_quiet_call ((intro B; with_reducible (first
          | exact rsix_at B S il
          | exact rsix_at B S im
          | exact rcmp_at B S N1.out
          | exact rcmp_at B S N2.out)))))
    refine wpQuiet_nil ?_
    intro w1 B
    have g0 : w1.cell? ⟨w.heap.size, 0, none⟩ = some (.int .u64 (pa x % 4294967296)) := (B.cell (p := ⟨w.heap.size, 0, none⟩) l1).trans c0
    have g1 : w1.cell? ⟨w.heap.size, 1, none⟩ = some (.int .u64 (pa x / 4294967296)) := (B.cell (p := ⟨w.heap.size, 1, none⟩) l1).trans c1
    have gb := hb0.trans (B.mono hb0.size)
    clear c0 c1 h1 hb0 B
    go_wp2
    go_ret2
    refine ⟨?_, gb⟩
    rw [Hf.out]
  · exact ret2 rfl rfl
  · exact ret2 rfl rfl
  · exact ret2 (w64_eq _) rfl
end Go.Proofs.Ytiiccjnfggojmaa

/-
  WALKS, 6: the chapter's examples (works).
-/
import Derived.Test.YtiiccjnfggojmaaW5
namespace Go.Proofs.Ytiiccjnfggojmaa
open Go.RowKit Wd

theorem prs_cons {w : World} {g : Nat} {cs : Array Value} (h : Blk w g 38 cs) (l : List (Int × Int))
    (hc : ∀ k (hk : k < l.length), cs[k * 2]? = some (.int .i64 (l[k]).1) ∧ cs[k * 2 + 1]? = some (.int .i64 (l[k]).2)) : Prs w (some ⟨g, 0, none⟩) l := fun k hk => by
  refine ⟨⟨g, 0, none⟩, rfl, h.lt, ?_, ?_⟩
  · have e : (⟨g, 0, none⟩ : Addr).add (k * 2) = ⟨g, k * 2, none⟩ := by
      unfold Addr.add; split
      · rename_i h0; rw [h0]
      · simp
    rw [e, h.cell]
    exact (hc k hk).1
  · have e : (⟨g, 0, none⟩ : Addr).add (k * 2 + 1) = ⟨g, k * 2 + 1, none⟩ := by
      unfold Addr.add; split
      · omega
      · simp
    rw [e, h.cell]
    exact (hc k hk).2
theorem is_yes {b : Nat} {w0 w : World} {n e : Int} (hb : Below b w0 w) : Calls Try.prog 41 #[.int .i64 n, .int .i64 e, .int .i64 n, .int .i64 e] w fun r w' => r = .returned (.bool true) ∧ Below b w0 w' :=
  (is_any n e n e w).mono fun _ _ h => ⟨h.1.trans (by simp), h.2 ▸ hb⟩
section
variable {b : Nat} {w0 w : World}
theorem of_m1 (hb : Below b w0 w) (hs : b ≤ w0.heap.size) : Calls Try.prog 13 #[.int .i64 (-1)] w fun r w' => r = .returned (.agg #[.int .u64 18446744073709551615, .int .u64 18446744073709551615, .int .u64 18446744073709551615]) ∧ Below b w0 w' := callIn hb hs (of_any (-1) w (by decide) (by decide))
theorem mul_ll (hb : Below b w0 w) (hs : b ≤ w0.heap.size) : Calls Try.prog 12 #[.int .i64 (-9223372036854775808), .int .i64 (-9223372036854775808)] w fun r w' => r = .returned (.agg #[.int .u64 0, .int .u64 4611686018427387904, .int .u64 0]) ∧ Below b w0 w' := by
  have c := callIn hb hs (mul_any (-9223372036854775808) (-9223372036854775808) w (by decide) (by decide) (by decide) (by decide))
  rw [show wc (ofI (-9223372036854775808 * -9223372036854775808)) = #[.int .u64 0, .int .u64 4611686018427387904, .int .u64 0] by kernel_rfl] at c
  exact c
theorem int_8 (hb : Below b w0 w) (hs : b ≤ w0.heap.size) : Calls Try.prog 18 #[.agg #[.int .u64 9223372036854775808, .int .u64 0, .int .u64 0]] w fun r w' => r = .returned (.tuple #[.int .i64 0, .int .i64 50]) ∧ Below b w0 w' := by
  have c := callIn hb hs (int_any (ofI 9223372036854775808) w)
  rw [show wc (ofI 9223372036854775808) = #[.int .u64 9223372036854775808, .int .u64 0, .int .u64 0] by kernel_rfl, show fit (ofI 9223372036854775808) = (0, 50) by kernel_rfl] at c
  exact c
theorem of_l (hb : Below b w0 w) (hs : b ≤ w0.heap.size) : Calls Try.prog 13 #[.int .i64 (-9223372036854775808)] w fun r w' => r = .returned (.agg (wc (ofI (-9223372036854775808)))) ∧ Below b w0 w' := callIn hb hs (of_any _ w (by decide) (by decide))
theorem int_l (hb : Below b w0 w) (hs : b ≤ w0.heap.size) : Calls Try.prog 18 #[.agg (wc (ofI (-9223372036854775808)))] w fun r w' => r = .returned (.tuple #[.int .i64 (-9223372036854775808), .int .i64 0]) ∧ Below b w0 w' := by
  have c := callIn hb hs (int_any (ofI (-9223372036854775808)) w)
  rw [show fit (ofI (-9223372036854775808)) = (-9223372036854775808, 0) by kernel_rfl] at c
  exact c
theorem plus_m1 (hb : Below b w0 w) (hs : b ≤ w0.heap.size) : Calls Try.prog 15 #[.int .i64 9223372036854775807, .int .i64 1] w fun r w' => r = .returned (.tuple #[.int .i64 0, .int .i64 50]) ∧ Below b w0 w' := by
  have c := callIn hb hs (plus_any 9223372036854775807 1 w (by decide) (by decide) (by decide) (by decide))
  rw [show fit (ofI (9223372036854775807 + 1)) = (0, 50) by kernel_rfl] at c
  exact c
theorem minus_l1 (hb : Below b w0 w) (hs : b ≤ w0.heap.size) : Calls Try.prog 23 #[.int .i64 (-9223372036854775808), .int .i64 1] w fun r w' => r = .returned (.tuple #[.int .i64 0, .int .i64 50]) ∧ Below b w0 w' := by
  have c := callIn hb hs (minus_any (-9223372036854775808) 1 w (by decide) (by decide) (by decide) (by decide))
  rw [show fit (ofI (-9223372036854775808 - 1)) = (0, 50) by kernel_rfl] at c
  exact c
theorem times_lm (hb : Below b w0 w) (hs : b ≤ w0.heap.size) : Calls Try.prog 17 #[.int .i64 (-9223372036854775808), .int .i64 (-1)] w fun r w' => r = .returned (.tuple #[.int .i64 0, .int .i64 50]) ∧ Below b w0 w' := by
  have c := callIn hb hs (times_any (-9223372036854775808) (-1) w (by decide) (by decide) (by decide) (by decide))
  rw [show fit (ofI (-9223372036854775808 * -1)) = (0, 50) by kernel_rfl] at c
  exact c
theorem times_l (hb : Below b w0 w) (hs : b ≤ w0.heap.size) : Calls Try.prog 17 #[.int .i64 4294967296, .int .i64 (-2147483648)] w fun r w' => r = .returned (.tuple #[.int .i64 (-9223372036854775808), .int .i64 0]) ∧ Below b w0 w' := by
  have c := callIn hb hs (times_any 4294967296 (-2147483648) w (by decide) (by decide) (by decide) (by decide))
  rw [show fit (ofI (4294967296 * -2147483648)) = (-9223372036854775808, 0) by kernel_rfl] at c
  exact c
theorem dot_3 (hb : Below b w0 w) (hs : b ≤ w0.heap.size) : Calls Try.prog 21 #[.slice (some ⟨w.heap.size, 0, none⟩) 3 3] (w.alloc (.cells #[.int .i64 9223372036854775807, .int .i64 2, .int .i64 (-9223372036854775808), .int .i64 1, .int .i64 (-1), .int .i64 9223372036854775805] 38))
    fun r w' => r = .returned (.tuple #[.int .i64 1, .int .i64 0]) ∧ Below b w0 w' := by
  have c := callIn (hb.alloc (Nat.le_trans hs hb.size) _) hs (dot_any (some ⟨w.heap.size, 0, none⟩) 3 [(9223372036854775807, 2), (-9223372036854775808, 1), (-1, 9223372036854775805)] _ (by decide) (by unfold Fit64; decide)
    (prs_cons (Blk.new w 38 #[.int .i64 9223372036854775807, .int .i64 2, .int .i64 (-9223372036854775808), .int .i64 1, .int .i64 (-1), .int .i64 9223372036854775805]) _ (fun k hk => by
      obtain rfl | rfl | rfl : k = 0 ∨ k = 1 ∨ k = 2 := by simp at hk; omega
      all_goals exact ⟨rfl, rfl⟩)))
  rw [show fit (ofI (dots [(9223372036854775807, 2), (-9223372036854775808, 1), (-1, 9223372036854775805)])) = (1, 0) by kernel_rfl] at c
  exact c
theorem dot_2 (hb : Below b w0 w) (hs : b ≤ w0.heap.size) : Calls Try.prog 21 #[.slice (some ⟨w.heap.size, 0, none⟩) 2 2] (w.alloc (.cells #[.int .i64 (-9223372036854775808), .int .i64 (-1), .int .i64 1, .int .i64 (-1)] 38))
    fun r w' => r = .returned (.tuple #[.int .i64 9223372036854775807, .int .i64 0]) ∧ Below b w0 w' := by
  have c := callIn (hb.alloc (Nat.le_trans hs hb.size) _) hs (dot_any (some ⟨w.heap.size, 0, none⟩) 2 [(-9223372036854775808, -1), (1, -1)] _ (by decide) (by unfold Fit64; decide)
    (prs_cons (Blk.new w 38 #[.int .i64 (-9223372036854775808), .int .i64 (-1), .int .i64 1, .int .i64 (-1)]) _ (fun k hk => by
      obtain rfl | rfl : k = 0 ∨ k = 1 := by simp at hk; omega
      all_goals exact ⟨rfl, rfl⟩)))
  rw [show fit (ofI (dots [(-9223372036854775808, -1), (1, -1)])) = (9223372036854775807, 0) by kernel_rfl] at c
  exact c
theorem dot_1 (hb : Below b w0 w) (hs : b ≤ w0.heap.size) : Calls Try.prog 21 #[.slice (some ⟨w.heap.size, 0, none⟩) 1 1] (w.alloc (.cells #[.int .i64 (-9223372036854775808), .int .i64 (-1)] 38))
    fun r w' => r = .returned (.tuple #[.int .i64 0, .int .i64 50]) ∧ Below b w0 w' := by
  have c := callIn (hb.alloc (Nat.le_trans hs hb.size) _) hs (dot_any (some ⟨w.heap.size, 0, none⟩) 1 [(-9223372036854775808, -1)] _ (by decide) (by unfold Fit64; decide)
    (prs_cons (Blk.new w 38 #[.int .i64 (-9223372036854775808), .int .i64 (-1)]) _ (fun k hk => by
      obtain rfl : k = 0 := by simp at hk; omega
      exact ⟨rfl, rfl⟩)))
  rw [show fit (ofI (dots [(-9223372036854775808, -1)])) = (0, 50) by kernel_rfl] at c
  exact c
end
set_option maxHeartbeats 1000000 in
theorem works_any (w : World) : Calls Try.prog 19 #[] w fun e w' => e = .returned (.bool true) ∧ Below w.heap.size w w' := by
  have hb := Below.refl w.heap.size w
  have hs := Nat.le_refl w.heap.size
  go_enter Try.func19, Try.ntmps19
  go_wp2_with (first
    | (go_at_call 13; with_reducible refine (of_m1 hb hs).mono ?_; rintro e w' ⟨rfl, hb⟩)
    | (go_at_call 12; with_reducible refine (mul_ll hb hs).mono ?_; rintro e w' ⟨rfl, hb⟩)
    | (go_at_call 18; with_reducible refine (int_8 hb hs).mono ?_; rintro e w' ⟨rfl, hb⟩)
    | (go_at_call 13; with_reducible refine (of_l hb hs).mono ?_; rintro e w' ⟨rfl, hb⟩)
    | (go_at_call 18; with_reducible refine (int_l hb hs).mono ?_; rintro e w' ⟨rfl, hb⟩)
    | (go_at_call 41; with_reducible refine (is_yes hb).mono ?_; rintro e w' ⟨rfl, hb⟩)
    | (go_at_call 15; with_reducible refine (plus_m1 hb hs).mono ?_; rintro e w' ⟨rfl, hb⟩)
    | (go_at_call 23; with_reducible refine (minus_l1 hb hs).mono ?_; rintro e w' ⟨rfl, hb⟩)
    | (go_at_call 17; with_reducible refine (times_lm hb hs).mono ?_; rintro e w' ⟨rfl, hb⟩)
    | (go_at_call 17; with_reducible refine (times_l hb hs).mono ?_; rintro e w' ⟨rfl, hb⟩)
    | (go_at_call 21; with_reducible refine (dot_3 hb hs).mono ?_; rintro e w' ⟨rfl, hb⟩)
    | (go_at_call 21; with_reducible refine (dot_2 hb hs).mono ?_; rintro e w' ⟨rfl, hb⟩)
    | (go_at_call 21; with_reducible refine (dot_1 hb hs).mono ?_; rintro e w' ⟨rfl, hb⟩))
  go_ret
  exact ⟨rfl, hb⟩
end Go.Proofs.Ytiiccjnfggojmaa

/-
  THE LAW WideRing, walked.
-/
import Derived.Test.YtiiccjnfggojmaaW6
namespace Go.Proofs.Ytiiccjnfggojmaa
open Go.RowKit Wd

theorem quiet_same24 {b : Nat} {w0 : World} {o : Oper} {a : Act} {K : Act → Prop} (p q : Operand) (t : TypeId) (ho : o.op = .binOp .neq 24 p q t) (x : X) (hp : a.eval p = .agg (wc x)) (hq : a.eval q = .agg (wc x)) (hk : K (a.put o.dst (.bool false))) : o.quiet Try.prog a (Below b w0) K :=
  quiet_ne24 p q t ho x x hp hq (by rw [decide_eq_true rfl, Bool.not_true]; exact hk)
theorem put_none (a : Act) (v : Value) : a.put none v = a := rfl
def In64 (n : Int) : Prop := -9223372036854775808 ≤ n ∧ n ≤ 9223372036854775807
theorem mul_at {a c n : Int} {b : Nat} {w0 w : World} (hb : Below b w0 w) (hs : b ≤ w0.heap.size) (ha : In64 a) (hc : In64 c) (hn : a * c = n) :
    Calls Try.prog 12 #[.int .i64 a, .int .i64 c] w fun e w' => e = .returned (.agg (wc (ofI n))) ∧ Below b w0 w' := by
  subst hn; exact mul_in hb hs ha.1 ha.2 hc.1 hc.2
theorem of_at {a : Int} {b : Nat} {w0 w : World} (hb : Below b w0 w) (hs : b ≤ w0.heap.size) (ha : In64 a) : Calls Try.prog 13 #[.int .i64 a] w fun e w' => e = .returned (.agg (wc (ofI a))) ∧ Below b w0 w' := callIn hb hs (of_any a w ha.1 ha.2)
theorem add_at {x y z : X} {b : Nat} {w0 w : World} (hb : Below b w0 w) (hs : b ≤ w0.heap.size) (hz : x + y = z) : Calls Try.prog 16 #[.agg (wc x), .agg (wc y)] w fun e w' => e = .returned (.agg (wc z)) ∧ Below b w0 w' := by
  subst hz; exact callIn hb hs (add_any x y w)
theorem cmp_at {x y : X} {n : Int} {b : Nat} {w0 w : World} (hb : Below b w0 w) (hs : b ≤ w0.heap.size) (hx : cm x.toInt y.toInt = n) : Calls Try.prog 14 #[.agg (wc x), .agg (wc y)] w fun e w' => e = .returned (.int .i64 n) ∧ Below b w0 w' := by
  subst hx; exact callIn hb hs (compare_any x y w)
theorem int_at {x : X} {n e : Int} {b : Nat} {w0 w : World} (hb : Below b w0 w) (hs : b ≤ w0.heap.size) (hx : fit x = (n, e)) : Calls Try.prog 18 #[.agg (wc x)] w fun r w' => r = .returned (.tuple #[.int .i64 n, .int .i64 e]) ∧ Below b w0 w' := by
  have c := callIn hb hs (int_any x w); rw [hx] at c; exact c
theorem plus_at {a c n e : Int} {b : Nat} {w0 w : World} (hb : Below b w0 w) (hs : b ≤ w0.heap.size) (ha : In64 a) (hc : In64 c) (hx : fit (ofI (a + c)) = (n, e)) : Calls Try.prog 15 #[.int .i64 a, .int .i64 c] w fun r w' => r = .returned (.tuple #[.int .i64 n, .int .i64 e]) ∧ Below b w0 w' := by
  have h := callIn hb hs (plus_any a c w ha.1 ha.2 hc.1 hc.2); rw [hx] at h; exact h
theorem times_at {a c n e : Int} {b : Nat} {w0 w : World} (hb : Below b w0 w) (hs : b ≤ w0.heap.size) (ha : In64 a) (hc : In64 c) (hx : fit (ofI (a * c)) = (n, e)) : Calls Try.prog 17 #[.int .i64 a, .int .i64 c] w fun r w' => r = .returned (.tuple #[.int .i64 n, .int .i64 e]) ∧ Below b w0 w' := by
  have h := callIn hb hs (times_any a c w ha.1 ha.2 hc.1 hc.2); rw [hx] at h; exact h
theorem works_at {b : Nat} {w0 w : World} (hb : Below b w0 w) (hs : b ≤ w0.heap.size) : Calls Try.prog 19 #[] w fun e w' => e = .returned (.bool true) ∧ Below b w0 w' := callIn hb hs (works_any w)
theorem fit_ofI (n : Int) (h : In64 n) : fit (ofI n) = (n, 0) := by
  unfold fit; rw [toInt_ofI n h.1 h.2]; exact if_pos h
theorem fit_sum (a b : Int) (ha : In64 a) (hb : In64 b) : In64 (a + b) ∧ fit (ofI (a + b)) = (a + b, 0) ∨ fit (ofI (a + b)) = (0, 50) := by
  by_cases h : In64 (a + b)
  · exact .inl ⟨h, fit_ofI _ h⟩
  · right
    unfold fit
    obtain ⟨a1, a2⟩ := ha
    obtain ⟨b1, b2⟩ := hb
    rw [toInt_ofI' _ (by omega) (by omega)]
    exact if_neg h
theorem cm_mul (a b : Int) (ha : In64 a) (hb : In64 b) : cm (ofI (a * b)).toInt (ofI 0).toInt = cm (a * b) 0 := by
  obtain ⟨h1, h2⟩ := mul_bound a b ha.1 ha.2 hb.1 hb.2
  rw [toInt_ofI' _ (by omega) (by omega), toInt_ofI 0 (by decide) (by decide)]
/-- the signs, told as the code asks. -/
theorem s_neg {a : Int} (h : a < 0) : (a == 0) = false ∧ decide (0 < a) = false ∧ decide (a < 0) = true := ⟨by simp; omega, by simp; omega, by simp; omega⟩
theorem s_zero {a : Int} (h : a = 0) : (a == 0) = true ∧ decide (0 < a) = false ∧ decide (a < 0) = false := by subst h; exact ⟨rfl, rfl, rfl⟩
theorem s_pos {a : Int} (h : 0 < a) : (a == 0) = false ∧ decide (0 < a) = true ∧ decide (a < 0) = false := ⟨by simp; omega, by simp; omega, by simp; omega⟩
theorem cm_pos {n : Int} (h : 0 < n) : cm n 0 = 1 := by unfold cm; rw [if_neg (by omega), if_pos h]
theorem cm_neg {n : Int} (h : n < 0) : cm n 0 = -1 := by unfold cm; rw [if_pos h]
theorem cm_zero {n : Int} (h : n = 0) : cm n 0 = 0 := by subst h; rfl
/-- the nine ways. -/
theorem ways9 (a b : Int) :
    (cm (a * b) 0 = 1 ∧ (a == 0) = false ∧ decide (0 < a) = false ∧ decide (a < 0) = true ∧ (b == 0) = false ∧ decide (0 < b) = false ∧ decide (b < 0) = true) ∨
    (cm (a * b) 0 = 0 ∧ (a == 0) = false ∧ decide (0 < a) = false ∧ decide (a < 0) = true ∧ (b == 0) = true ∧ decide (0 < b) = false ∧ decide (b < 0) = false) ∨
    (cm (a * b) 0 = -1 ∧ (a == 0) = false ∧ decide (0 < a) = false ∧ decide (a < 0) = true ∧ (b == 0) = false ∧ decide (0 < b) = true ∧ decide (b < 0) = false) ∨
    (cm (a * b) 0 = 0 ∧ (a == 0) = true ∧ decide (0 < a) = false ∧ decide (a < 0) = false ∧ (b == 0) = false ∧ decide (0 < b) = false ∧ decide (b < 0) = true) ∨
    (cm (a * b) 0 = 0 ∧ (a == 0) = true ∧ decide (0 < a) = false ∧ decide (a < 0) = false ∧ (b == 0) = true ∧ decide (0 < b) = false ∧ decide (b < 0) = false) ∨
    (cm (a * b) 0 = 0 ∧ (a == 0) = true ∧ decide (0 < a) = false ∧ decide (a < 0) = false ∧ (b == 0) = false ∧ decide (0 < b) = true ∧ decide (b < 0) = false) ∨
    (cm (a * b) 0 = -1 ∧ (a == 0) = false ∧ decide (0 < a) = true ∧ decide (a < 0) = false ∧ (b == 0) = false ∧ decide (0 < b) = false ∧ decide (b < 0) = true) ∨
    (cm (a * b) 0 = 0 ∧ (a == 0) = false ∧ decide (0 < a) = true ∧ decide (a < 0) = false ∧ (b == 0) = true ∧ decide (0 < b) = false ∧ decide (b < 0) = false) ∨
    (cm (a * b) 0 = 1 ∧ (a == 0) = false ∧ decide (0 < a) = true ∧ decide (a < 0) = false ∧ (b == 0) = false ∧ decide (0 < b) = true ∧ decide (b < 0) = false) := by
  rcases Int.lt_trichotomy a 0 with h | h | h <;> rcases Int.lt_trichotomy b 0 with k | k | k
  · exact (.inl ⟨cm_pos (Int.mul_pos_of_neg_of_neg h k), (s_neg h).1, (s_neg h).2.1, (s_neg h).2.2, (s_neg k).1, (s_neg k).2.1, (s_neg k).2.2⟩)
  · exact (.inr (.inl ⟨cm_zero (by rw [k, Int.mul_zero]), (s_neg h).1, (s_neg h).2.1, (s_neg h).2.2, (s_zero k).1, (s_zero k).2.1, (s_zero k).2.2⟩))
  · exact (.inr (.inr (.inl ⟨cm_neg (Int.mul_neg_of_neg_of_pos h k), (s_neg h).1, (s_neg h).2.1, (s_neg h).2.2, (s_pos k).1, (s_pos k).2.1, (s_pos k).2.2⟩)))
  · exact (.inr (.inr (.inr (.inl ⟨cm_zero (by rw [h, Int.zero_mul]), (s_zero h).1, (s_zero h).2.1, (s_zero h).2.2, (s_neg k).1, (s_neg k).2.1, (s_neg k).2.2⟩))))
  · exact (.inr (.inr (.inr (.inr (.inl ⟨cm_zero (by rw [h, Int.zero_mul]), (s_zero h).1, (s_zero h).2.1, (s_zero h).2.2, (s_zero k).1, (s_zero k).2.1, (s_zero k).2.2⟩)))))
  · exact (.inr (.inr (.inr (.inr (.inr (.inl ⟨cm_zero (by rw [h, Int.zero_mul]), (s_zero h).1, (s_zero h).2.1, (s_zero h).2.2, (s_pos k).1, (s_pos k).2.1, (s_pos k).2.2⟩))))))
  · exact (.inr (.inr (.inr (.inr (.inr (.inr (.inl ⟨cm_neg (Int.mul_neg_of_pos_of_neg h k), (s_pos h).1, (s_pos h).2.1, (s_pos h).2.2, (s_neg k).1, (s_neg k).2.1, (s_neg k).2.2⟩)))))))
  · exact (.inr (.inr (.inr (.inr (.inr (.inr (.inr (.inl ⟨cm_zero (by rw [k, Int.mul_zero]), (s_pos h).1, (s_pos h).2.1, (s_pos h).2.2, (s_zero k).1, (s_zero k).2.1, (s_zero k).2.2⟩))))))))
  · exact (.inr (.inr (.inr (.inr (.inr (.inr (.inr (.inr ⟨cm_pos (Int.mul_pos h k), (s_pos h).1, (s_pos h).2.1, (s_pos h).2.2, (s_pos k).1, (s_pos k).2.1, (s_pos k).2.2⟩))))))))
set_option maxHeartbeats 4000000 in
theorem ring_any (a b c : Int) (w : World) (ha : In64 a) (hb : In64 b) (hc : In64 c) :
    Calls Try.prog 3 #[.int .i64 a, .int .i64 b, .int .i64 c] w fun e w' => e = .returned (.bool true) ∧ Below w.heap.size w w' := by
  have B := Below.refl w.heap.size w
  have S := Nat.le_refl w.heap.size
  have i1 : In64 1 := by unfold In64; decide
  have i0 : In64 0 := by unfold In64; decide
  go_enter Try.func3, Try.ntmps3
  go_upto_region 2 with (first
    | (go_at_call 12; with_reducible refine (mul_at B S ha hb rfl).mono ?_; rintro e w1 ⟨rfl, B⟩)
    | (with_reducible refine wpList_store_row (o := ⟨none, .store 24 (.tmp 7) (.tmp 17), _, _, _, _⟩) rfl 24 (.tmp 7) (.tmp 17) rfl w1.heap.size (wc (ofI (a * b))) rfl rfl _ _ (heap_alloc_new _ _) (wc_info _) rfl (wc_all _) ?_; rw [World.setRow_alloc_new]))
  obtain ⟨wp, hwp⟩ : ∃ wp, wp = w1.alloc (.cells (wc (ofI (a * b))) 24) := ⟨_, rfl⟩
  rw [← hwp, put_none]
  have p1 : Blk wp w1.heap.size 24 (wc (ofI (a * b))) := by rw [hwp]; exact Blk.new _ _ _
  have Bp : Below w.heap.size w wp := by rw [hwp]; exact B.alloc B.size _
  clear hwp B S
  have S := Nat.le_refl wp.heap.size
  have lt1 := p1.lt
  refine wp_region_below_lit wp.heap.size wp (Below.refl _ _) (by kernel_rfl) (by kernel_rfl) ?_
  repeat (first
    | go_big_quiet_skip
    | (go_big_quiet_want; (first
        | (with_reducible refine quiet_row (o := ⟨some 18, .load 24 (.tmp 7), _, _, _, _⟩) 24 (.tmp 7) rfl w1.heap.size 0 rfl lt1 (wc (ofI (a * b))) _ p1.range Try.underlying24 rfl (wc_info _) ?_)
        | (with_reducible refine quiet_same24 (o := ⟨some 22, .binOp .neq 24 (.tmp 18) (.tmp 21) 24, _, _, _, _⟩) (.tmp 18) (.tmp 21) 24 rfl (ofI (a * b)) rfl rfl ?_)
        | (with_reducible refine quiet_same24 (o := ⟨some 28, .binOp .neq 24 (.tmp 25) (.tmp 27) 24, _, _, _, _⟩) (.tmp 25) (.tmp 27) 24 rfl (ofI a) rfl rfl ?_)
        | (with_reducible refine quiet_same24 (o := ⟨some 34, .binOp .neq 24 (.tmp 32) (.tmp 33) 24, _, _, _, _⟩) (.tmp 32) (.tmp 33) 24 rfl (ofI 0) rfl rfl ?_)); simp only [Act.put, List.setIfInBounds_toArray, List.set_cons_succ, List.set_cons_zero]; go_big_quiet_on)
    | (go_big_quiet_want; go_big_quiet_op; first | go_big_quiet_on | ((with_reducible refine ⟨_, fun _ _ => rfl, ?_⟩); go_big_quiet_on) | go_big_quiet_call ((intro B; with_reducible (first
        | exact mul_at B S hb ha (Int.mul_comm b a)
        | exact mul_at B S ha i1 (Int.mul_one a)
        | exact of_at B S ha
        | exact mul_at B S ha i0 (Int.mul_zero a)
        | exact of_at B S i0)))))
  refine wpQuiet_nil ?_
  intro w2 B
  go_upto_region 4 with (fail)
  refine wp_region_below_lit wp.heap.size wp B (by kernel_rfl) (by kernel_rfl) ?_
  clear B
  repeat (first
    | go_big_quiet_skip
    | (go_big_quiet_want; (with_reducible refine quiet_row (o := ⟨some 36, .load 24 (.tmp 7), _, _, _, _⟩) 24 (.tmp 7) rfl w1.heap.size 0 rfl lt1 (wc (ofI (a * b))) _ p1.range Try.underlying24 rfl (wc_info _) ?_); simp only [Act.put, List.setIfInBounds_toArray, List.set_cons_succ, List.set_cons_zero]; go_big_quiet_on)
    | (go_big_quiet_want; go_big_quiet_op; first | go_big_quiet_on | ((with_reducible refine ⟨_, fun _ _ => rfl, ?_⟩); go_big_quiet_on) | go_big_quiet_call ((intro B; with_reducible (first
        | exact of_at B S i0
        | exact cmp_at B S (cm_mul a b ha hb))))))
  refine wpQuiet_nil ?_
  intro w3 B
  obtain ⟨n, e, hne⟩ : ∃ n e, fit (ofI (a * b)) = (n, e) := ⟨_, _, rfl⟩
  have hz : ofI (a * b) + ofI (a * c) = ofI (a * (b + c)) := by rw [ofI_add, Int.mul_add]
  rcases fit_sum b c hb hc with ⟨hin, hfit⟩ | hfit
  · rcases ways9 a b with ⟨e0, e1, e2, e3, f1, f2, f3⟩ | ⟨e0, e1, e2, e3, f1, f2, f3⟩ | ⟨e0, e1, e2, e3, f1, f2, f3⟩ | ⟨e0, e1, e2, e3, f1, f2, f3⟩ | ⟨e0, e1, e2, e3, f1, f2, f3⟩ | ⟨e0, e1, e2, e3, f1, f2, f3⟩ | ⟨e0, e1, e2, e3, f1, f2, f3⟩ | ⟨e0, e1, e2, e3, f1, f2, f3⟩ | ⟨e0, e1, e2, e3, f1, f2, f3⟩
    all_goals (rw [e0]; clear e0)
    all_goals (
         go_upto_region 8 with (go_at_call 15; with_reducible refine (plus_at B S hb hc hfit).mono ?_; rintro e w4 ⟨rfl, B⟩)
         refine wp_region_below_lit wp.heap.size wp B (by kernel_rfl) (by kernel_rfl) ?_
         clear B
         repeat (first
           | go_big_quiet_skip
           | (go_big_quiet_want; (first
               | (with_reducible refine quiet_row (o := ⟨some 79, .load 24 (.tmp 7), _, _, _, _⟩) 24 (.tmp 7) rfl w1.heap.size 0 rfl lt1 (wc (ofI (a * b))) _ p1.range Try.underlying24 rfl (wc_info _) ?_)
               | (with_reducible refine quiet_same24 (o := ⟨some 84, .binOp .neq 24 (.tmp 78) (.tmp 83) 24, _, _, _, _⟩) (.tmp 78) (.tmp 83) 24 rfl (ofI (a * (b + c))) rfl rfl ?_)); simp only [Act.put, List.setIfInBounds_toArray, List.set_cons_succ, List.set_cons_zero]; go_big_quiet_on)
           | (go_big_quiet_want; go_big_quiet_op; first | go_big_quiet_on | ((with_reducible refine ⟨_, fun _ _ => rfl, ?_⟩); go_big_quiet_on) | go_big_quiet_call ((intro B; with_reducible (first
               | exact mul_at B S ha hin rfl
               | exact mul_at B S ha hc rfl
               | exact add_at B S hz)))))
         refine wpQuiet_nil ?_
         intro w5 B
         go_wp2_with (first
           | (go_at_call 17; with_reducible refine (times_at B S ha hb hne).mono ?_; rintro e w6 ⟨rfl, B⟩)
           | (with_reducible refine wpList_load_at (o := ⟨some 93, .load 24 (.tmp 7), _, _, _, _⟩) rfl 24 (.tmp 7) rfl w1.heap.size 0 rfl (wc (ofI (a * b))) _ (p1.below B lt1).range Try.underlying24 rfl (wc_info _) ?_)
           | (go_at_call 18; with_reducible refine (int_at B S hne).mono ?_; rintro e w7 ⟨rfl, B⟩)
           | (go_at_call 19; with_reducible refine (works_at B S).mono ?_; rintro e w8 ⟨rfl, B⟩))
         go_ret
         exact ⟨rfl, Bp.trans (B.mono Bp.size)⟩)
  · rcases ways9 a b with ⟨e0, e1, e2, e3, f1, f2, f3⟩ | ⟨e0, e1, e2, e3, f1, f2, f3⟩ | ⟨e0, e1, e2, e3, f1, f2, f3⟩ | ⟨e0, e1, e2, e3, f1, f2, f3⟩ | ⟨e0, e1, e2, e3, f1, f2, f3⟩ | ⟨e0, e1, e2, e3, f1, f2, f3⟩ | ⟨e0, e1, e2, e3, f1, f2, f3⟩ | ⟨e0, e1, e2, e3, f1, f2, f3⟩ | ⟨e0, e1, e2, e3, f1, f2, f3⟩
    all_goals (rw [e0]; clear e0)
    all_goals (
         go_upto_region 8 with (go_at_call 15; with_reducible refine (plus_at B S hb hc hfit).mono ?_; rintro e w4 ⟨rfl, B⟩)
         refine wp_region_below_lit wp.heap.size wp B (by kernel_rfl) (by kernel_rfl) ?_
         clear B
         repeat (first
           | go_big_quiet_skip
           | (go_big_quiet_want; (first
               | (with_reducible refine quiet_row (o := ⟨some 79, .load 24 (.tmp 7), _, _, _, _⟩) 24 (.tmp 7) rfl w1.heap.size 0 rfl lt1 (wc (ofI (a * b))) _ p1.range Try.underlying24 rfl (wc_info _) ?_)
               | (with_reducible refine quiet_same24 (o := ⟨some 84, .binOp .neq 24 (.tmp 78) (.tmp 83) 24, _, _, _, _⟩) (.tmp 78) (.tmp 83) 24 rfl (ofI (a * (b + c))) rfl rfl ?_)); simp only [Act.put, List.setIfInBounds_toArray, List.set_cons_succ, List.set_cons_zero]; go_big_quiet_on)
           | (go_big_quiet_want; go_big_quiet_op; first | go_big_quiet_on | ((with_reducible refine ⟨_, fun _ _ => rfl, ?_⟩); go_big_quiet_on) | go_big_quiet_call ((intro B; with_reducible (first
               | exact mul_at B S ha hc rfl
               | exact add_at B S hz)))))
         refine wpQuiet_nil ?_
         intro w5 B
         go_wp2_with (first
           | (go_at_call 17; with_reducible refine (times_at B S ha hb hne).mono ?_; rintro e w6 ⟨rfl, B⟩)
           | (with_reducible refine wpList_load_at (o := ⟨some 93, .load 24 (.tmp 7), _, _, _, _⟩) rfl 24 (.tmp 7) rfl w1.heap.size 0 rfl (wc (ofI (a * b))) _ (p1.below B lt1).range Try.underlying24 rfl (wc_info _) ?_)
           | (go_at_call 18; with_reducible refine (int_at B S hne).mono ?_; rintro e w7 ⟨rfl, B⟩)
           | (go_at_call 19; with_reducible refine (works_at B S).mono ?_; rintro e w8 ⟨rfl, B⟩))
         go_ret
         exact ⟨rfl, Bp.trans (B.mono Bp.size)⟩)
end Go.Proofs.Ytiiccjnfggojmaa

/-
  THE LAW WideDoes, walked.
-/
import Derived.Test.YtiiccjnfggojmaaW13
namespace Go.Proofs.Ytiiccjnfggojmaa
open Go.RowKit Wd

def boxq (w : World) (x y : X) (a c : Int) : World := ((w.alloc (.cells (wc x) 24)).alloc (.cells (wc y) 24)).alloc (.cells #[.int .i64 a, .int .i64 c] 38)
theorem boxq_below (w : World) (x y : X) (a c : Int) : Below w.heap.size w (boxq w x y a c) := (((Below.refl _ _).alloc (Nat.le_refl _) _).alloc (by simp) _).alloc (by simp; omega) _
theorem boxq_1 (w : World) (x y : X) (a c : Int) : Blk (boxq w x y a c) w.heap.size 24 (wc x) := ((Blk.new _ _ _).alloc _).alloc _
theorem boxq_2 (w : World) (x y : X) (a c : Int) : Blk (boxq w x y a c) (w.heap.size + 1) 24 (wc y) := by
  have h := (Blk.new (w.alloc (.cells (wc x) 24)) 24 (wc y)).alloc (.cells #[.int .i64 a, .int .i64 c] 38)
  unfold boxq; simpa using h
theorem boxq_3 (w : World) (x y : X) (a c : Int) : Blk (boxq w x y a c) (w.heap.size + 1 + 1) 38 #[.int .i64 a, .int .i64 c] := by
  have h := Blk.new ((w.alloc (.cells (wc x) 24)).alloc (.cells (wc y) 24)) 38 #[.int .i64 a, .int .i64 c]
  unfold boxq; simpa using h
set_option maxRecDepth 100000 in
set_option maxHeartbeats 4000000 in
theorem does_any (x y : X) (a c : Int) (w : World) (ha : In64 a) (hc : In64 c) :
    Calls Try.prog 11 #[.agg (wc x), .agg (wc y), .agg #[.int .i64 a, .int .i64 c]] w fun e w' => e = .returned (.bool true) ∧ Below w.heap.size w w' := by
  obtain ⟨w0, hw0⟩ : ∃ w0, w0 = boxq w x y a c := ⟨_, rfl⟩
  have p1 := boxq_1 w x y a c
  have p2 := boxq_2 w x y a c
  have p3 := boxq_3 w x y a c
  have hb0 := boxq_below w x y a c
  rw [← hw0] at p1 p2 p3 hb0
  have Hw0 := Lib.hid hw0
  clear hw0
  obtain ⟨c0, c1⟩ := i2_cell p3
  have S := Nat.le_refl w0.heap.size
  have B := Below.refl w0.heap.size w0
  have l1 := p1.lt
  have l2 := p2.lt
  have l3 := p3.lt
  obtain ⟨n1, e1, h1⟩ : ∃ n e, fit x = (n, e) := ⟨_, _, rfl⟩
  obtain ⟨m1, h2⟩ : ∃ m, cm x.toInt y.toInt = m := ⟨_, rfl⟩
  have H1 := Lib.hid h1
  have H2 := Lib.hid h2
  clear h1 h2
  go_enter Try.func11, Try.ntmps11
  go_upto_region 1 with (fail)
  rw [show ((w.alloc (.cells (wc x) 24)).alloc (.cells (wc y) 24)).alloc (.cells #[.int .i64 a, .int .i64 c] 38) = w0 from Hw0.out.symm]
  go_upto_region 3 with (first
    | (with_reducible refine wpList_load_at (o := ⟨some 12, .load 24 (.tmp 3), _, _, _, _⟩) rfl 24 (.tmp 3) rfl w.heap.size 0 rfl (wc x) _ p1.range Try.underlying24 rfl (wc_info _) ?_)
    | (go_at_call 18; with_reducible refine (int_at B S H1.out).mono ?_; rintro e w1 ⟨rfl, B⟩)
    | (with_reducible refine wpList_load_at (o := ⟨some 17, .load 24 (.tmp 3), _, _, _, _⟩) rfl 24 (.tmp 3) rfl w.heap.size 0 rfl (wc x) _ (p1.below B l1).range Try.underlying24 rfl (wc_info _) ?_)
    | (go_at_call 29; with_reducible refine (six_at B S).mono ?_; rintro e w2 ⟨rfl, B⟩)
    | (go_at_call 28; with_reducible refine (rint_at B S H1.out).mono ?_; rintro e w3 ⟨rfl, B⟩))
  refine wp_region_below_lit w0.heap.size w0 B (by kernel_rfl) (by kernel_rfl) ?_
  clear B
  repeat (first
    | go_big_quiet_skip
    | (go_big_quiet_want; (first
        | (with_reducible refine quiet_row (o := ⟨some 31, .load 24 (.tmp 3), _, _, _, _⟩) 24 (.tmp 3) rfl w.heap.size 0 rfl l1 (wc x) _ p1.range Try.underlying24 rfl (wc_info _) ?_)
        | (with_reducible refine quiet_row (o := ⟨some 32, .load 24 (.tmp 4), _, _, _, _⟩) 24 (.tmp 4) rfl (w.heap.size + 1) 0 rfl l2 (wc y) _ p2.range Try.underlying24 rfl (wc_info _) ?_)
        | (with_reducible refine quiet_row (o := ⟨some 34, .load 24 (.tmp 3), _, _, _, _⟩) 24 (.tmp 3) rfl w.heap.size 0 rfl l1 (wc x) _ p1.range Try.underlying24 rfl (wc_info _) ?_)
        | (with_reducible refine quiet_row (o := ⟨some 36, .load 24 (.tmp 4), _, _, _, _⟩) 24 (.tmp 4) rfl (w.heap.size + 1) 0 rfl l2 (wc y) _ p2.range Try.underlying24 rfl (wc_info _) ?_)); simp only [Act.put, List.setIfInBounds_toArray, List.set_cons_succ, List.set_cons_zero]; go_big_quiet_on)
    | (go_big_quiet_want; go_big_quiet_op; first | go_big_quiet_on | ((with_reducible refine ⟨_, fun _ _ => rfl, ?_⟩); go_big_quiet_on) | go_big_quiet_call ((intro B; with_reducible (first
        | exact cmp_at B S H2.out
        | exact six_at B S
        | exact rcmp_at B S H2.out)))))
  refine wpQuiet_nil ?_
  intro w4 B
  go_upto_region 5 with (fail)
  refine wp_region_below_lit w0.heap.size w0 B (by kernel_rfl) (by kernel_rfl) ?_
  clear B
  repeat (first
    | go_big_quiet_skip
    | (go_big_quiet_want; (first
        | (with_reducible refine quiet_i64 (o := ⟨some 42, .load 2 (.tmp 41), _, _, _, _⟩) (.tmp 41) rfl (w.heap.size + 1 + 1) 0 rfl l3 _ c0 ?_)
        | (with_reducible refine quiet_i64 (o := ⟨some 46, .load 2 (.tmp 45), _, _, _, _⟩) (.tmp 45) rfl (w.heap.size + 1 + 1) 0 rfl l3 _ c0 ?_)
        | (with_reducible refine quiet_i64 (o := ⟨some 51, .load 2 (.tmp 50), _, _, _, _⟩) (.tmp 50) rfl (w.heap.size + 1 + 1) 0 rfl l3 _ c0 ?_)
        | (with_reducible refine quiet_i64 (o := ⟨some 53, .load 2 (.tmp 52), _, _, _, _⟩) (.tmp 52) rfl (w.heap.size + 1 + 1) 1 rfl l3 _ c1 ?_)
        | (with_reducible refine quiet_i64 (o := ⟨some 57, .load 2 (.tmp 56), _, _, _, _⟩) (.tmp 56) rfl (w.heap.size + 1 + 1) 0 rfl l3 _ c0 ?_)
        | (with_reducible refine quiet_i64 (o := ⟨some 59, .load 2 (.tmp 58), _, _, _, _⟩) (.tmp 58) rfl (w.heap.size + 1 + 1) 1 rfl l3 _ c1 ?_)
        | (with_reducible refine quiet_row (o := ⟨some 64, .load 24 (.tmp 3), _, _, _, _⟩) 24 (.tmp 3) rfl w.heap.size 0 rfl l1 (wc x) _ p1.range Try.underlying24 rfl (wc_info _) ?_)
        | (with_reducible refine quiet_row (o := ⟨some 65, .load 24 (.tmp 4), _, _, _, _⟩) 24 (.tmp 4) rfl (w.heap.size + 1) 0 rfl l2 (wc y) _ p2.range Try.underlying24 rfl (wc_info _) ?_)
        | (with_reducible refine quiet_row (o := ⟨some 68, .load 24 (.tmp 3), _, _, _, _⟩) 24 (.tmp 3) rfl w.heap.size 0 rfl l1 (wc x) _ p1.range Try.underlying24 rfl (wc_info _) ?_)
        | (with_reducible refine quiet_row (o := ⟨some 70, .load 24 (.tmp 4), _, _, _, _⟩) 24 (.tmp 4) rfl (w.heap.size + 1) 0 rfl l2 (wc y) _ p2.range Try.underlying24 rfl (wc_info _) ?_)
        | (with_reducible refine quiet_row (o := ⟨some 76, .load 24 (.tmp 3), _, _, _, _⟩) 24 (.tmp 3) rfl w.heap.size 0 rfl l1 (wc x) _ p1.range Try.underlying24 rfl (wc_info _) ?_)
        | (with_reducible refine quiet_row (o := ⟨some 79, .load 24 (.tmp 3), _, _, _, _⟩) 24 (.tmp 3) rfl w.heap.size 0 rfl l1 (wc x) _ p1.range Try.underlying24 rfl (wc_info _) ?_)
        | (with_reducible refine quiet_yes52 (o := ⟨some 48, .binOp .eql 52 (.tmp 44) (.tmp 47) 52, _, _, _, _⟩) (.tmp 44) (.tmp 47) 52 rfl (ofI a) rfl rfl ?_)
        | (with_reducible refine quiet_yes52 (o := ⟨some 61, .binOp .eql 52 (.tmp 55) (.tmp 60) 52, _, _, _, _⟩) (.tmp 55) (.tmp 60) 52 rfl (ofI (a * c)) rfl rfl ?_)
        | (with_reducible refine quiet_yes52 (o := ⟨some 73, .binOp .eql 52 (.tmp 67) (.tmp 72) 52, _, _, _, _⟩) (.tmp 67) (.tmp 72) 52 rfl (x + y) rfl rfl ?_)
        | (with_reducible refine quiet_yes52 (o := ⟨some 82, .binOp .eql 52 (.tmp 78) (.tmp 81) 52, _, _, _, _⟩) (.tmp 78) (.tmp 81) 52 rfl (-x) rfl rfl ?_)); simp only [Act.put, List.setIfInBounds_toArray, List.set_cons_succ, List.set_cons_zero]; go_big_quiet_on)
    | (go_big_quiet_want; go_big_quiet_op; first | go_big_quiet_on | ((with_reducible refine ⟨_, fun _ _ => rfl, ?_⟩); go_big_quiet_on) | go_big_quiet_call ((intro B; with_reducible (first
        | exact of_at B S ha
        | exact six_at B S
        | exact rof_at B S ha
        | exact mul_at B S ha hc rfl
        | exact rmul_at B S ha hc
        | exact add_at B S rfl
        | exact radd_at B S rfl
        | exact neg_at B S rfl
        | exact rnegx_at B S
        | exact works_at B S)))))
  refine wpQuiet_nil ?_
  intro w5 B
  go_wp2
  go_ret
  exact ⟨rfl, hb0.trans (B.mono hb0.size)⟩
end Go.Proofs.Ytiiccjnfggojmaa

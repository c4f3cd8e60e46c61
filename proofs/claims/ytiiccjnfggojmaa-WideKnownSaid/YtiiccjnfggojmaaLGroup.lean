/-
  THE LAW WideGroup, walked.
-/
import Derived.Test.YtiiccjnfggojmaaLRing
namespace Go.Proofs.Ytiiccjnfggojmaa
open Go.RowKit Wd

theorem quiet_yes24 {b : Nat} {w0 : World} {o : Oper} {a : Act} {K : Act → Prop} (p q : Operand) (t : TypeId) (ho : o.op = .binOp .eql 24 p q t) (x : X) (hp : a.eval p = .agg (wc x)) (hq : a.eval q = .agg (wc x)) (hk : K (a.put o.dst (.bool true))) : o.quiet Try.prog a (Below b w0) K :=
  quiet_eq24 p q t ho x x hp hq (by rw [decide_eq_true rfl]; exact hk)
theorem neg_at {x y : X} {b : Nat} {w0 w : World} (hb : Below b w0 w) (hs : b ≤ w0.heap.size) (h : -x = y) : Calls Try.prog 20 #[.agg (wc x)] w fun e w' => e = .returned (.agg (wc y)) ∧ Below b w0 w' := by
  subst h; exact callIn hb hs (neg_any x w)
def three (w : World) (x y z : X) : World := ((w.alloc (.cells (wc x) 24)).alloc (.cells (wc y) 24)).alloc (.cells (wc z) 24)
theorem three_below (w : World) (x y z : X) : Below w.heap.size w (three w x y z) := (((Below.refl _ _).alloc (Nat.le_refl _) _).alloc (by simp) _).alloc (by simp; omega) _
theorem three_1 (w : World) (x y z : X) : Blk (three w x y z) w.heap.size 24 (wc x) := ((Blk.new _ _ _).alloc _).alloc _
theorem three_2 (w : World) (x y z : X) : Blk (three w x y z) (w.heap.size + 1) 24 (wc y) := by
  have h := (Blk.new (w.alloc (.cells (wc x) 24)) 24 (wc y)).alloc (.cells (wc z) 24)
  unfold three; simpa using h
theorem three_3 (w : World) (x y z : X) : Blk (three w x y z) (w.heap.size + 1 + 1) 24 (wc z) := by
  have h := Blk.new ((w.alloc (.cells (wc x) 24)).alloc (.cells (wc y) 24)) 24 (wc z)
  unfold three; simpa using h
theorem add_neg (x : X) : x + -x = ofI 0 := BitVec.add_right_neg x
set_option maxHeartbeats 4000000 in
theorem group_any (x y z : X) (w : World) :
    Calls Try.prog 9 #[.agg (wc x), .agg (wc y), .agg (wc z)] w fun e w' => e = .returned (.bool true) ∧ Below w.heap.size w w' := by
  obtain ⟨w0, hw0⟩ : ∃ w0, w0 = three w x y z := ⟨_, rfl⟩
  have q1 := three_1 w x y z
  have q2 := three_2 w x y z
  have q3 := three_3 w x y z
  have hb0 := three_below w x y z
  rw [← hw0] at q1 q2 q3 hb0
  have Hw0 := Lib.hid hw0
  clear hw0
  have i0 : In64 0 := by unfold In64; decide
  have B := Below.refl w0.heap.size w0
  have S := Nat.le_refl w0.heap.size
  go_enter Try.func9, Try.ntmps9
  go_upto_region 1 with (fail)
  rw [show ((w.alloc (.cells (wc x) 24)).alloc (.cells (wc y) 24)).alloc (.cells (wc z) 24) = w0 from Hw0.out.symm]
  go_upto_region 2 with (first
    | (with_reducible refine wpList_load_at (o := ⟨some 8, .load 24 (.tmp 3), _, _, _, _⟩) rfl 24 (.tmp 3) rfl w.heap.size 0 rfl (wc x) _ q1.range Try.underlying24 rfl (wc_info _) ?_)
    | (with_reducible refine wpList_load_at (o := ⟨some 9, .load 24 (.tmp 4), _, _, _, _⟩) rfl 24 (.tmp 4) rfl (w.heap.size + 1) 0 rfl (wc y) _ q2.range Try.underlying24 rfl (wc_info _) ?_)
    | (go_at_call 16; with_reducible refine (add_at B S rfl).mono ?_; rintro e w1 ⟨rfl, B⟩)
    | (with_reducible refine wpList_store_row (o := ⟨none, .store 24 (.tmp 7) (.tmp 10), _, _, _, _⟩) rfl 24 (.tmp 7) (.tmp 10) rfl w1.heap.size (wc (x + y)) rfl rfl _ _ (heap_alloc_new _ _) (wc_info _) rfl (wc_all _) ?_; rw [World.setRow_alloc_new]))
  obtain ⟨wq, hwq⟩ : ∃ wq, wq = w1.alloc (.cells (wc (x + y)) 24) := ⟨_, rfl⟩
  obtain ⟨gs, hgs⟩ : ∃ gs, gs = w1.heap.size := ⟨_, rfl⟩
  rw [← hwq, put_none, ← hgs]
  have p1 : Blk wq w.heap.size 24 (wc x) := by rw [hwq]; exact (q1.below B q1.lt).alloc _
  have p2 : Blk wq (w.heap.size + 1) 24 (wc y) := by rw [hwq]; exact (q2.below B q2.lt).alloc _
  have p3 : Blk wq (w.heap.size + 1 + 1) 24 (wc z) := by rw [hwq]; exact (q3.below B q3.lt).alloc _
  have p4 : Blk wq gs 24 (wc (x + y)) := by rw [hwq, hgs]; exact Blk.new _ _ _
  have Bq : Below w.heap.size w wq := by rw [hwq]; exact (hb0.trans (B.mono hb0.size)).alloc (Nat.le_trans hb0.size B.size) _
  clear hwq hgs B S q1 q2 q3 hb0 Hw0
  have S := Nat.le_refl wq.heap.size
  have l1 := p1.lt
  have l2 := p2.lt
  have l3 := p3.lt
  have l4 := p4.lt
  have r1 : y + x = x + y := BitVec.add_comm _ _
  have r2 : x + (y + z) = x + y + z := (BitVec.add_assoc _ _ _).symm
  have r3 : x + y + -y = x := by rw [BitVec.add_assoc, BitVec.add_right_neg]; exact BitVec.add_zero x
  have r4 : - -x = x := BitVec.neg_neg
  have r5 : x + -x = ofI 0 := BitVec.add_right_neg x
  have r6 : x + ofI 0 = x := BitVec.add_zero x
  have R1 := Lib.hid r1
  have R2 := Lib.hid r2
  have R3 := Lib.hid r3
  have R4 := Lib.hid r4
  have R5 := Lib.hid r5
  have R6 := Lib.hid r6
  clear r1 r2 r3 r4 r5 r6
  refine wp_region_below_lit wq.heap.size wq (Below.refl _ _) (by kernel_rfl) (by kernel_rfl) ?_
  repeat (first
    | go_big_quiet_skip
    | (go_big_quiet_want; (first
            | (with_reducible refine quiet_row (o := ⟨some 11, .load 24 (.tmp 7), _, _, _, _⟩) 24 (.tmp 7) rfl gs 0 rfl l4 (wc (x + y)) _ p4.range Try.underlying24 rfl (wc_info _) ?_)
            | (with_reducible refine quiet_row (o := ⟨some 12, .load 24 (.tmp 4), _, _, _, _⟩) 24 (.tmp 4) rfl (w.heap.size + 1) 0 rfl l2 (wc (y)) _ p2.range Try.underlying24 rfl (wc_info _) ?_)
            | (with_reducible refine quiet_row (o := ⟨some 13, .load 24 (.tmp 3), _, _, _, _⟩) 24 (.tmp 3) rfl w.heap.size 0 rfl l1 (wc (x)) _ p1.range Try.underlying24 rfl (wc_info _) ?_)
            | (with_reducible refine quiet_row (o := ⟨some 17, .load 24 (.tmp 7), _, _, _, _⟩) 24 (.tmp 7) rfl gs 0 rfl l4 (wc (x + y)) _ p4.range Try.underlying24 rfl (wc_info _) ?_)
            | (with_reducible refine quiet_row (o := ⟨some 18, .load 24 (.tmp 5), _, _, _, _⟩) 24 (.tmp 5) rfl (w.heap.size + 1 + 1) 0 rfl l3 (wc (z)) _ p3.range Try.underlying24 rfl (wc_info _) ?_)
            | (with_reducible refine quiet_row (o := ⟨some 20, .load 24 (.tmp 3), _, _, _, _⟩) 24 (.tmp 3) rfl w.heap.size 0 rfl l1 (wc (x)) _ p1.range Try.underlying24 rfl (wc_info _) ?_)
            | (with_reducible refine quiet_row (o := ⟨some 21, .load 24 (.tmp 4), _, _, _, _⟩) 24 (.tmp 4) rfl (w.heap.size + 1) 0 rfl l2 (wc (y)) _ p2.range Try.underlying24 rfl (wc_info _) ?_)
            | (with_reducible refine quiet_row (o := ⟨some 22, .load 24 (.tmp 5), _, _, _, _⟩) 24 (.tmp 5) rfl (w.heap.size + 1 + 1) 0 rfl l3 (wc (z)) _ p3.range Try.underlying24 rfl (wc_info _) ?_)
            | (with_reducible refine quiet_row (o := ⟨some 28, .load 24 (.tmp 7), _, _, _, _⟩) 24 (.tmp 7) rfl gs 0 rfl l4 (wc (x + y)) _ p4.range Try.underlying24 rfl (wc_info _) ?_)
            | (with_reducible refine quiet_row (o := ⟨some 29, .load 24 (.tmp 4), _, _, _, _⟩) 24 (.tmp 4) rfl (w.heap.size + 1) 0 rfl l2 (wc (y)) _ p2.range Try.underlying24 rfl (wc_info _) ?_)
            | (with_reducible refine quiet_row (o := ⟨some 32, .load 24 (.tmp 3), _, _, _, _⟩) 24 (.tmp 3) rfl w.heap.size 0 rfl l1 (wc (x)) _ p1.range Try.underlying24 rfl (wc_info _) ?_)
            | (with_reducible refine quiet_same24 (o := ⟨some 15, .binOp .neq 24 (.tmp 11) (.tmp 14) 24, _, _, _, _⟩) (.tmp 11) (.tmp 14) 24 rfl (x + y) rfl rfl ?_)
            | (with_reducible refine quiet_same24 (o := ⟨some 25, .binOp .neq 24 (.tmp 19) (.tmp 24) 24, _, _, _, _⟩) (.tmp 19) (.tmp 24) 24 rfl (x + y + z) rfl rfl ?_)
            | (with_reducible refine quiet_same24 (o := ⟨some 33, .binOp .neq 24 (.tmp 31) (.tmp 32) 24, _, _, _, _⟩) (.tmp 31) (.tmp 32) 24 rfl x rfl rfl ?_)); simp only [Act.put, List.setIfInBounds_toArray, List.set_cons_succ, List.set_cons_zero]; go_big_quiet_on)
    | (go_big_quiet_want; go_big_quiet_op; first | go_big_quiet_on | ((with_reducible refine ⟨_, fun _ _ => rfl, ?_⟩); go_big_quiet_on) | go_big_quiet_call ((intro B; with_reducible (first
        | exact add_at B S R1.out
        | exact add_at B S R2.out
        | exact add_at B S R3.out
        | exact neg_at B S rfl
        | exact add_at B S rfl)))))
  refine wpQuiet_nil ?_
  intro w2 B
  go_upto_region 4 with (fail)
  refine wp_region_below_lit wq.heap.size wq B (by kernel_rfl) (by kernel_rfl) ?_
  clear B
  repeat (first
    | go_big_quiet_skip
    | (go_big_quiet_want; (first
            | (with_reducible refine quiet_row (o := ⟨some 35, .load 24 (.tmp 3), _, _, _, _⟩) 24 (.tmp 3) rfl w.heap.size 0 rfl l1 (wc (x)) _ p1.range Try.underlying24 rfl (wc_info _) ?_)
            | (with_reducible refine quiet_row (o := ⟨some 38, .load 24 (.tmp 3), _, _, _, _⟩) 24 (.tmp 3) rfl w.heap.size 0 rfl l1 (wc (x)) _ p1.range Try.underlying24 rfl (wc_info _) ?_)
            | (with_reducible refine quiet_row (o := ⟨some 41, .load 24 (.tmp 3), _, _, _, _⟩) 24 (.tmp 3) rfl w.heap.size 0 rfl l1 (wc (x)) _ p1.range Try.underlying24 rfl (wc_info _) ?_)
            | (with_reducible refine quiet_row (o := ⟨some 42, .load 24 (.tmp 3), _, _, _, _⟩) 24 (.tmp 3) rfl w.heap.size 0 rfl l1 (wc (x)) _ p1.range Try.underlying24 rfl (wc_info _) ?_)
            | (with_reducible refine quiet_row (o := ⟨some 49, .load 24 (.tmp 3), _, _, _, _⟩) 24 (.tmp 3) rfl w.heap.size 0 rfl l1 (wc (x)) _ p1.range Try.underlying24 rfl (wc_info _) ?_)
            | (with_reducible refine quiet_row (o := ⟨some 52, .load 24 (.tmp 3), _, _, _, _⟩) 24 (.tmp 3) rfl w.heap.size 0 rfl l1 (wc (x)) _ p1.range Try.underlying24 rfl (wc_info _) ?_)
            | (with_reducible refine quiet_yes24 (o := ⟨some 39, .binOp .eql 24 (.tmp 37) (.tmp 38) 24, _, _, _, _⟩) (.tmp 37) (.tmp 38) 24 rfl x rfl rfl ?_)
            | (refine quiet_yes24 (o := ⟨some 46, .binOp .eql 24 (.tmp 44) (.tmp 45) 24, _, _, _, _⟩) (.tmp 44) (.tmp 45) 24 rfl (ofI 0) rfl (congrArg Value.agg wc_zero) ?_)
            | (with_reducible refine quiet_yes24 (o := ⟨some 53, .binOp .eql 24 (.tmp 51) (.tmp 52) 24, _, _, _, _⟩) (.tmp 51) (.tmp 52) 24 rfl x rfl rfl ?_)); simp only [Act.put, List.setIfInBounds_toArray, List.set_cons_succ, List.set_cons_zero]; go_big_quiet_on)
    | (go_big_quiet_want; go_big_quiet_op; first | go_big_quiet_on | ((with_reducible refine ⟨_, fun _ _ => rfl, ?_⟩); go_big_quiet_on) | go_big_quiet_call ((intro B; with_reducible (first
        | exact neg_at B S R4.out
        | exact add_at B S R5.out
        | exact add_at B S R6.out
        | exact of_at B S i0
        | exact works_at B S
        | exact neg_at B S rfl)))))
  refine wpQuiet_nil ?_
  intro w3 B
  go_wp2
  go_ret
  exact ⟨rfl, Bq.trans (B.mono Bq.size)⟩
end Go.Proofs.Ytiiccjnfggojmaa

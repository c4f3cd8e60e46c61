/-
  WALKS, 2: Mul64, Mul, Add, Neg.
-/
import Derived.Test.YtiiccjnfggojmaaW1
import Derived.Deep.Cut
namespace Go.Proofs.Ytiiccjnfggojmaa
open Go.RowKit Wd

theorem ret2 {k k' : IntKind} {a b c d : Int} (h1 : a = b) (h2 : c = d) : Ending.returned (.tuple #[.int k a, .int k' c]) = .returned (.tuple #[.int k b, .int k' d]) := by rw [h1, h2]
theorem mul64_hi (x y : Int) (hx0 : 0 ≤ x) (hx : x < 18446744073709551616) (hy0 : 0 ≤ y) (hy : y < 18446744073709551616) :
    IntKind.u64.wrap (IntKind.u64.wrap (IntKind.u64.wrap (x / 4294967296 * (y / 4294967296)) + IntKind.u64.wrap (IntKind.u64.wrap (x / 4294967296 * (y % 4294967296)) + IntKind.u64.wrap (x % 4294967296 * (y % 4294967296)) / 4294967296) / 4294967296) +
      IntKind.u64.wrap (bits BinOp.and IntKind.u64 (IntKind.u64.wrap (IntKind.u64.wrap (x / 4294967296 * (y % 4294967296)) + IntKind.u64.wrap (x % 4294967296 * (y % 4294967296)) / 4294967296)) 4294967295 + IntKind.u64.wrap (x % 4294967296 * (y / 4294967296))) / 4294967296) = x * y / 18446744073709551616 := by
  have e := mul64_arith x y hx0 hx hy0 hy
  simp only [IntKind.wrap_u64]
  rw [and_low32 _ (Int.emod_nonneg _ (by decide)) (Int.emod_lt_of_pos _ (by decide))]
  exact e
set_option maxHeartbeats 400000 in
theorem mul64_any (x y : Int) (w : World) (hx0 : 0 ≤ x) (hx : x < 18446744073709551616) (hy0 : 0 ≤ y) (hy : y < 18446744073709551616) :
    Calls Try.prog 35 #[.int .u64 x, .int .u64 y] w fun e w' => e = .returned (.tuple #[.int .u64 (x * y / 18446744073709551616), .int .u64 (x * y % 18446744073709551616)]) ∧ w = w' := by
  have a1 := and_low32 x hx0 hx
  have a2 := and_low32 y hy0 hy
  go_enter Try.func35, Try.ntmps35
  go_wp2
  go_ret2
  exact ⟨ret2 (mul64_hi x y hx0 hx hy0 hy) (IntKind.wrap_u64 _), rfl⟩
theorem acc_two (x y : X) : acc [x, y] [x, y].length = x + y := by
  show ofI 0 + x + y = x + y
  rw [show ofI 0 = 0#192 from rfl, BitVec.zero_add]
/-- the sum of two. -/
theorem sum2 (g cap : Nat) (x y : X) (w : World) (hg : g < w.heap.size) (hr : Wides w g [x, y]) :
    Calls Try.prog 40 #[.slice (some ⟨g, 0, none⟩) 2 cap] w fun e w' => e = .returned (.agg (wc (x + y))) ∧ Below w.heap.size w w' := by
  have c := sum_any g cap [x, y] w (by simp) hg hr
  rw [acc_two] at c
  exact c
theorem run_pair (x y : X) (w : World) : (Instr.buildSlice 71 2 #[(0, .agg (wc x)), (1, .agg (wc y))]).run Try.prog w = .ok (.slice (some ⟨w.heap.size, 0, none⟩) 2 2) (w.alloc (.cells (wc x ++ wc y) 24)) := by kernel_rfl
theorem wp_pair {w : World} {o : Oper} {a : Act} {K : Act → World → Prop} {Q : Exit → Act → World → Prop} (p q : Operand) (ho : o.op = .buildSlice 71 2 #[(0, p), (1, q)]) (x y : X) (hp : a.eval p = .agg (wc x)) (hq : a.eval q = .agg (wc y))
    (h : K (a.put o.dst (.slice (some ⟨w.heap.size, 0, none⟩) 2 2)) (w.alloc (.cells (wc x ++ wc y) 24))) : o.wp Try.prog a w K Q := by
  unfold Oper.wp execOp
  simp only [ho, List.map_toArray, List.map_cons, List.map_nil, hp, hq, Sem.run_bind, run_pair, Result.andThen_ok, Sem.run_pure]
  exact h
theorem wpList_pair {w : World} {ops : Array Oper} {rest : List Oper} {o : Oper} {a : Act} {Q : Exit → Act → World → Prop} (hgd : o.guard = none) (p q : Operand) (ho : o.op = .buildSlice 71 2 #[(0, p), (1, q)]) (x y : X) (hp : a.eval p = .agg (wc x)) (hq : a.eval q = .agg (wc y))
    (h : wpList Try.prog ops Q rest (a.put o.dst (.slice (some ⟨w.heap.size, 0, none⟩) 2 2)) (w.alloc (.cells (wc x ++ wc y) 24))) : wpList Try.prog ops Q (o :: rest) a w :=
  wpList_plain hgd fun _ hK => wp_pair p q ho x y hp hq (hK _ _ h)
theorem pair_wides (w : World) (x y : X) : Wides (w.alloc (.cells (wc x ++ wc y) 24)) w.heap.size [x, y] := by
  intro k hk j v hj
  have hc : (w.alloc (.cells (wc x ++ wc y) 24)).cell? ⟨w.heap.size, k * 3 + j, none⟩ = (wc x ++ wc y)[k * 3 + j]? := (Blk.new w 24 (wc x ++ wc y)).cell _
  rw [hc]
  have hj3 : j < 3 := by
    have := (List.getElem?_eq_some_iff.1 hj).1
    simpa [wc_size] using this
  obtain rfl | rfl : k = 0 ∨ k = 1 := by simp at hk; omega
  · obtain rfl | rfl | rfl : j = 0 ∨ j = 1 ∨ j = 2 := by omega
    all_goals exact hj
  · obtain rfl | rfl | rfl : j = 0 ∨ j = 1 ∨ j = 2 := by omega
    all_goals exact hj
/-- two parameters in boxes, and a place for the result. -/
def boxes (w : World) (x y : X) : World := ((w.alloc (.cells (wc x) 24)).alloc (.cells (wc y) 24)).alloc (.cells (wc (ofI 0)) 24)
theorem boxes_size (w : World) (x y : X) : (boxes w x y).heap.size = w.heap.size + 1 + 1 + 1 := by simp [boxes]
theorem boxes_below (w : World) (x y : X) : Below w.heap.size w (boxes w x y) := (((Below.refl _ _).alloc (Nat.le_refl _) _).alloc (by simp) _).alloc (by simp; omega) _
theorem boxes_1 (w : World) (x y : X) : Blk (boxes w x y) w.heap.size 24 (wc x) := ((Blk.new _ _ _).alloc _).alloc _
theorem boxes_2 (w : World) (x y : X) : Blk (boxes w x y) (w.heap.size + 1) 24 (wc y) := by
  have h := (Blk.new (w.alloc (.cells (wc x) 24)) 24 (wc y)).alloc (.cells (wc (ofI 0)) 24)
  unfold boxes
  simpa using h
theorem boxes_3 (w : World) (x y : X) : Blk (boxes w x y) (w.heap.size + 1 + 1) 24 (wc (ofI 0)) := by
  have h := Blk.new ((w.alloc (.cells (wc x) 24)).alloc (.cells (wc y) 24)) 24 (wc (ofI 0))
  unfold boxes
  simpa using h
set_option maxHeartbeats 400000 in
theorem add_any (x y : X) (w : World) :
    Calls Try.prog 16 #[.agg (wc x), .agg (wc y)] w fun e w' => e = .returned (.agg (wc (x + y))) ∧ Below w.heap.size w w' := by
  obtain ⟨w0, hw0⟩ : ∃ w0, w0 = boxes w x y := ⟨_, rfl⟩
  have h1 := boxes_1 w x y
  have h2 := boxes_2 w x y
  have h3 := boxes_3 w x y
  have hb := boxes_below w x y
  have hs := boxes_size w x y
  rw [← hw0] at h1 h2 h3 hb hs
  have Hw0 := Lib.hid hw0
  have Hs := Lib.hid hs
  clear hw0 hs
  go_enter Try.func16, Try.ntmps16
  go_upto_region 1 with (fail)
  rw [wc_zero, show ((w.alloc (.cells (wc x) 24)).alloc (.cells (wc y) 24)).alloc (.cells (wc (ofI 0)) 24) = w0 from Hw0.out.symm]
  go_wp2_with (first
    | (with_reducible refine wpList_load_at (o := ⟨some 5, .load 24 (.tmp 2), _, _, _, _⟩) rfl 24 (.tmp 2) rfl w.heap.size 0 rfl (wc x) _ h1.range Try.underlying24 rfl (wc_info x) ?_)
    | (with_reducible refine wpList_load_at (o := ⟨some 6, .load 24 (.tmp 3), _, _, _, _⟩) rfl 24 (.tmp 3) rfl (w.heap.size + 1) 0 rfl (wc y) _ h2.range Try.underlying24 rfl (wc_info y) ?_)
    | (with_reducible refine wpList_pair (o := ⟨some 7, .buildSlice 71 2 #[(0, .tmp 5), (1, .tmp 6)], _, _, _, _⟩) rfl (.tmp 5) (.tmp 6) rfl x y rfl rfl ?_)
    | (go_at_call 40; refine (sum2 _ _ x y _ (by simp) (pair_wides _ x y)).mono ?_; rintro e w1 ⟨rfl, hb1⟩; have h3' := (h3.alloc (.cells (wc x ++ wc y) 24)).below hb1 (by have := h3.lt; simp; omega))
    | (with_reducible refine wpList_store_row (o := ⟨none, .store 24 (.tmp 4) (.tmp 8), _, _, _, _⟩) rfl 24 (.tmp 4) (.tmp 8) rfl (w.heap.size + 1 + 1) (wc (x + y)) rfl rfl _ _ h3'.eq (wc_info _) rfl (wc_all _) ?_))
  have hsz := hb.size
  exact end24 rfl (w.heap.size + 1 + 1) 24 _ rfl (h3'.row _) rfl rfl ⟨rfl, below_setRow ((hb.alloc hsz _).trans (hb1.mono (by simp; omega))) (by omega) _⟩
end Go.Proofs.Ytiiccjnfggojmaa

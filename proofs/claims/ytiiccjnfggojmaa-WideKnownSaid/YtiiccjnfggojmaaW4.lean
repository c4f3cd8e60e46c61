/-
  WALKS, 4: Compare, Int, Plus, Minus, Times.
-/
import Derived.Test.YtiiccjnfggojmaaW3
import Derived.Test.YtiiccjnfggojmaaTail
namespace Go.Proofs.Ytiiccjnfggojmaa
open Go.RowKit Wd

/-- in a region that draws, over all worlds that keep what lies below b: a wide number is loaded; a cell is loaded. -/
theorem quiet_row {b : Nat} {w0 : World} {o : Oper} {a : Act} {K : Act → Prop} (ty : TypeId) (p : Operand) (ho : o.op = .load ty p) (g off : Nat) (hx : a.eval p = .pointer (some ⟨g, off, none⟩)) (hg : g < b) (cs : Array Value) (d : TypeDesc)
    (h0 : w0.rangeAt g off cs.toList) (hu : Try.prog.underlying ty = some d) (hd : d.isRow = true) (hi : (Try.prog.info? ty).map (·.size) = some cs.size) (hk : K (a.put o.dst (.agg cs))) : o.quiet Try.prog a (Below b w0) K := by
  refine ⟨_, fun w hw => ?_, hk⟩
  have h1 := run_loadVar_mid w g off ty cs.toList d (rangeAt_below h0 hw hg) hu hd (by rw [Array.length_toList]; exact hi)
  unfold Oper.quietAt execOp
  simp only [ho, hx, Instr.loadAt, Instr.sureAddr, Sem.run_bind, Sem.run_pure, Result.andThen_ok, h1]
  exact ⟨rfl, by rw [Array.toArray_toList]⟩
theorem quiet_u64 {b : Nat} {w0 : World} {o : Oper} {a : Act} {K : Act → Prop} (p : Operand) (ho : o.op = .load 22 p) (g off : Nat) (hx : a.eval p = .pointer (some ⟨g, off, none⟩)) (hg : g < b) (v : Value)
    (h0 : w0.cell? ⟨g, off, none⟩ = some v) (hk : K (a.put o.dst v)) : o.quiet Try.prog a (Below b w0) K := by
  refine ⟨_, fun w hw => ?_, hk⟩
  have h1 : w.cell? ⟨g, off, none⟩ = some v := (hw.cell (p := ⟨g, off, none⟩) hg).trans h0
  have u := Try.underlying22
  have u3 := Try.isAgg22
  have z3 := Try.sizeOf22
  unfold Oper.quietAt execOp
  simp only [ho, hx, Sem.run_bind, Sem.run_pure]
  simp [go_sem, h1, Oper.quietUpon]
theorem quiet_i64 {b : Nat} {w0 : World} {o : Oper} {a : Act} {K : Act → Prop} (p : Operand) (ho : o.op = .load 2 p) (g off : Nat) (hx : a.eval p = .pointer (some ⟨g, off, none⟩)) (hg : g < b) (v : Value)
    (h0 : w0.cell? ⟨g, off, none⟩ = some v) (hk : K (a.put o.dst v)) : o.quiet Try.prog a (Below b w0) K := by
  refine ⟨_, fun w hw => ?_, hk⟩
  have h1 : w.cell? ⟨g, off, none⟩ = some v := (hw.cell (p := ⟨g, off, none⟩) hg).trans h0
  have u := Try.underlying2
  have u3 := Try.isAgg2
  have z3 := Try.sizeOf2
  unfold Oper.quietAt execOp
  simp only [ho, hx, Sem.run_bind, Sem.run_pure]
  simp [go_sem, h1, Oper.quietUpon]
theorem run_ne24 (x y : X) (w : World) : (binOp .neq 24 (.agg (wc x)) (.agg (wc y))).run Try.prog w = .ok (.bool (!decide (x = y))) w := by rw [run_neq_struct, eq24]; rfl
theorem run_eq24 (x y : X) (w : World) : (binOp .eql 24 (.agg (wc x)) (.agg (wc y))).run Try.prog w = .ok (.bool (decide (x = y))) w := by rw [run_eql_struct, eq24]; rfl
theorem run_eq52 (x y : X) (w : World) : (binOp .eql 52 (.agg (sc x)) (.agg (sc y))).run Try.prog w = .ok (.bool (decide (x = y))) w := by rw [run_eql_struct, eq52]; rfl
theorem guard24 (op : BinOp) (p q : Operand) (x y : X) (w : World) : (eqGuard op 24 p q (.agg (wc x)) (.agg (wc y))).run Try.prog w = .ok () w := run_eqGuard_agg w op 24 p q _ _ (by kernel_rfl)
theorem guard52 (op : BinOp) (p q : Operand) (x y : X) (w : World) : (eqGuard op 52 p q (.agg (sc x)) (.agg (sc y))).run Try.prog w = .ok () w := run_eqGuard_agg w op 52 p q _ _ (by kernel_rfl)
theorem exec_ne24 {o : Oper} {a : Act} (p q : Operand) (t : TypeId) (ho : o.op = .binOp .neq 24 p q t) (x y : X) (hp : a.eval p = .agg (wc x)) (hq : a.eval q = .agg (wc y)) (w : World) : (execOp a.eval o).run Try.prog w = .ok (.value (.bool (!decide (x = y)))) w := by
  unfold execOp
  simp only [ho, hp, hq, Sem.run_bind, guard24, run_ne24, Result.andThen_ok, Sem.run_pure]
theorem exec_eq24 {o : Oper} {a : Act} (p q : Operand) (t : TypeId) (ho : o.op = .binOp .eql 24 p q t) (x y : X) (hp : a.eval p = .agg (wc x)) (hq : a.eval q = .agg (wc y)) (w : World) : (execOp a.eval o).run Try.prog w = .ok (.value (.bool (decide (x = y)))) w := by
  unfold execOp
  simp only [ho, hp, hq, Sem.run_bind, guard24, run_eq24, Result.andThen_ok, Sem.run_pure]
theorem exec_eq52 {o : Oper} {a : Act} (p q : Operand) (t : TypeId) (ho : o.op = .binOp .eql 52 p q t) (x y : X) (hp : a.eval p = .agg (sc x)) (hq : a.eval q = .agg (sc y)) (w : World) : (execOp a.eval o).run Try.prog w = .ok (.value (.bool (decide (x = y)))) w := by
  unfold execOp
  simp only [ho, hp, hq, Sem.run_bind, guard52, run_eq52, Result.andThen_ok, Sem.run_pure]
theorem quiet_of_exec {b : Nat} {w0 : World} {o : Oper} {a : Act} {K : Act → Prop} {v : Value} (h : ∀ w, (execOp a.eval o).run Try.prog w = .ok (.value v) w) (hk : K (a.put o.dst v)) : o.quiet Try.prog a (Below b w0) K :=
  ⟨v, fun w _ => by unfold Oper.quietAt; rw [h]; exact ⟨rfl, rfl⟩, hk⟩
theorem wpList_of_exec {ops : Array Oper} {rest : List Oper} {o : Oper} {a : Act} {w : World} {Q : Exit → Act → World → Prop} {v : Value} (hgd : o.guard = none) (h : ∀ w, (execOp a.eval o).run Try.prog w = .ok (.value v) w)
    (hk : wpList Try.prog ops Q rest (a.put o.dst v) w) : wpList Try.prog ops Q (o :: rest) a w :=
  wpList_plain hgd fun _ hK => by unfold Oper.wp; rw [h]; exact hK _ _ hk
theorem quiet_ne24 {b : Nat} {w0 : World} {o : Oper} {a : Act} {K : Act → Prop} (p q : Operand) (t : TypeId) (ho : o.op = .binOp .neq 24 p q t) (x y : X) (hp : a.eval p = .agg (wc x)) (hq : a.eval q = .agg (wc y)) (hk : K (a.put o.dst (.bool (!decide (x = y))))) : o.quiet Try.prog a (Below b w0) K :=
  quiet_of_exec (exec_ne24 p q t ho x y hp hq) hk
theorem quiet_eq24 {b : Nat} {w0 : World} {o : Oper} {a : Act} {K : Act → Prop} (p q : Operand) (t : TypeId) (ho : o.op = .binOp .eql 24 p q t) (x y : X) (hp : a.eval p = .agg (wc x)) (hq : a.eval q = .agg (wc y)) (hk : K (a.put o.dst (.bool (decide (x = y))))) : o.quiet Try.prog a (Below b w0) K :=
  quiet_of_exec (exec_eq24 p q t ho x y hp hq) hk
theorem quiet_eq52 {b : Nat} {w0 : World} {o : Oper} {a : Act} {K : Act → Prop} (p q : Operand) (t : TypeId) (ho : o.op = .binOp .eql 52 p q t) (x y : X) (hp : a.eval p = .agg (sc x)) (hq : a.eval q = .agg (sc y)) (hk : K (a.put o.dst (.bool (decide (x = y))))) : o.quiet Try.prog a (Below b w0) K :=
  quiet_of_exec (exec_eq52 p q t ho x y hp hq) hk
/-- a contract in such a region. -/
theorem callIn {f : FuncId} {args : Array Value} {b : Nat} {w0 w : World} {r : Value} (hb : Below b w0 w) (hs : b ≤ w0.heap.size) (c : Calls Try.prog f args w fun e w' => e = .returned r ∧ Below w.heap.size w w') :
    Calls Try.prog f args w fun e w' => e = .returned r ∧ Below b w0 w' :=
  c.mono fun _ _ h => ⟨h.1, hb.trans (h.2.mono (Nat.le_trans hs hb.size))⟩
theorem fit_yes {x : X} (h : ofI (wi (pa x)) = x) : fit x = (wi (pa x), 0) := by
  have h2 := (fits x).mp h
  unfold fit
  rw [if_pos h2, wi_of_fits x h2]
theorem fit_no {x : X} (h : ¬ ofI (wi (pa x)) = x) : fit x = (0, 50) := by
  unfold fit
  rw [if_neg fun k => h ((fits x).mpr k)]
theorem int_any (x : X) (w : World) :
    Calls Try.prog 18 #[.agg (wc x)] w fun e w' => e = .returned (.tuple #[.int .i64 (fit x).1, .int .i64 (fit x).2]) ∧ Below w.heap.size w w' := by
  obtain ⟨w0, hw0⟩ : ∃ w0, w0 = w.alloc (.cells (wc x) 24) := ⟨_, rfl⟩
  have h1 : Blk w0 w.heap.size 24 (wc x) := by rw [hw0]; exact Blk.new _ _ _
  have hb : Below w.heap.size w w0 := by rw [hw0]; exact (Below.refl _ _).alloc (Nat.le_refl _) _
  have hs : w0.heap.size = w.heap.size + 1 := by rw [hw0]; simp
  obtain ⟨x0, x1, x2⟩ := wc_cell h1
  have Hw0 := Lib.hid hw0
  have Hs := Lib.hid hs
  clear hw0 hs
  have c1 : ∀ w', Below w0.heap.size w0 w' → Calls Try.prog 13 #[.int .i64 (wrap64 (pa x))] w' fun e w'' => e = .returned (.agg (wc (ofI (wi (pa x))))) ∧ Below w0.heap.size w0 w'' :=
    fun w' hb' => by rw [w64_eq]; exact callIn hb' (Nat.le_refl _) (of_any _ _ (wi_lo _) (wi_hi _))
  have C1 := Lib.hid c1
  clear c1
  have lt1 := h1.lt
  go_enter Try.func18, Try.ntmps18
  go_upto_region 1 with (fail)
  rw [← Hw0.out]
  go_upto_region 2 with (fail)
  refine wp_region_below_lit w0.heap.size w0 (Below.refl _ _) (by kernel_rfl) (by kernel_rfl) ?_
  repeat (first | go_big_quiet_skip | (go_big_quiet_want; (with_reducible refine quiet_row (o := ⟨some 10, .load 24 (.tmp 1), _, _, _, _⟩) 24 (.tmp 1) rfl w.heap.size 0 rfl lt1 (wc x) _ h1.range Try.underlying24 rfl (wc_info x) ?_); simp only [Act.put, List.setIfInBounds_toArray, List.set_cons_succ, List.set_cons_zero]; go_big_quiet_on) | (go_big_quiet_want; go_big_quiet_op; first | go_big_quiet_on | ((with_reducible refine ⟨_, fun _ _ => rfl, ?_⟩); go_big_quiet_on) | go_big_quiet_call ((intro hb'; with_reducible (first | exact C1.out _ hb')))))
  go_big_quiet_want
  (with_reducible refine quiet_ne24 (o := ⟨some 11, .binOp .neq 24 (.tmp 9) (.tmp 10) 24, _, _, _, _⟩) (.tmp 9) (.tmp 10) 24 rfl (ofI (wi (pa x))) x rfl rfl ?_)
  simp only [Act.put, List.setIfInBounds_toArray, List.set_cons_succ, List.set_cons_zero]
  go_big_quiet_on
  refine wpQuiet_nil ?_
  intro w' hb'
  have hbb := hb.trans (hb'.mono (by rw [Hs.out]; omega))
  by_cases he : ofI (wi (pa x)) = x
  · rw [decide_eq_true he, Bool.not_true]
    go_wp2
    go_ret2
    refine ⟨?_, hbb⟩
    rw [fit_yes he]
    exact ret2 (w64_eq _) rfl
  · rw [decide_eq_false he, Bool.not_false]
    go_wp2
    go_ret2
    refine ⟨?_, hbb⟩
    rw [fit_no he]
    exact ret2 rfl rfl

theorem boxed2_1 (w : World) (x y : X) : Blk ((w.alloc (.cells (wc x) 24)).alloc (.cells (wc y) 24)) w.heap.size 24 (wc x) := (Blk.new _ _ _).alloc _
theorem boxed2_2 (w : World) (x y : X) : Blk ((w.alloc (.cells (wc x) 24)).alloc (.cells (wc y) 24)) (w.heap.size + 1) 24 (wc y) := by
  have h := Blk.new (w.alloc (.cells (wc x) 24)) 24 (wc y)
  simpa using h
theorem cmp_i_in {a c : Int} {b : Nat} {w0 w : World} (hb : Below b w0 w) : Calls Try.prog 38 #[.int .i64 a, .int .i64 c] w fun r w' => r = .returned (.int .i64 (cm a c)) ∧ Below b w0 w' :=
  (cmp_i a c w).mono fun _ _ h => ⟨h.1, h.2 ▸ hb⟩
theorem cmp_u_in {a c : Int} {b : Nat} {w0 w : World} (hb : Below b w0 w) : Calls Try.prog 39 #[.int .u64 a, .int .u64 c] w fun r w' => r = .returned (.int .i64 (cm a c)) ∧ Below b w0 w' :=
  (cmp_u a c w).mono fun _ _ h => ⟨h.1, h.2 ▸ hb⟩
theorem compare_any (x y : X) (w : World) :
    Calls Try.prog 14 #[.agg (wc x), .agg (wc y)] w fun e w' => e = .returned (.int .i64 (cm x.toInt y.toInt)) ∧ Below w.heap.size w w' := by
  have hcm := cm_parts x y
  obtain ⟨w0, hw0⟩ : ∃ w0, w0 = (w.alloc (.cells (wc x) 24)).alloc (.cells (wc y) 24) := ⟨_, rfl⟩
  have h1 := boxed2_1 w x y
  have h2 := boxed2_2 w x y
  have hb : Below w.heap.size w ((w.alloc (.cells (wc x) 24)).alloc (.cells (wc y) 24)) := ((Below.refl _ _).alloc (Nat.le_refl _) _).alloc (by simp) _
  rw [← hw0] at h1 h2 hb
  obtain ⟨x0, x1, x2⟩ := wc_cell h1
  obtain ⟨y0, y1, y2⟩ := wc_cell h2
  have Hw0 := Lib.hid hw0
  have Hcm := Lib.hid hcm
  clear hw0 hcm
  have lt1 := h1.lt
  have lt2 := h2.lt
  go_enter Try.func14, Try.ntmps14
  go_upto_region 1 with (fail)
  rw [← Hw0.out]
  refine wp_region_tail 17 w0.heap.size w0 (Below.refl _ _) (by kernel_rfl) (by kernel_rfl) ?_
  simp only [List.take_succ_cons, List.take_zero, List.drop_succ_cons, List.drop_zero]
  repeat (first
    | go_big_quiet_skip
    | (go_big_quiet_want; (first
        | (with_reducible refine quiet_u64 (o := ⟨some 6, .load 22 (.tmp 5), _, _, _, _⟩) (.tmp 5) rfl w.heap.size 2 rfl lt1 _ x2 ?_)
        | (with_reducible refine quiet_u64 (o := ⟨some 9, .load 22 (.tmp 8), _, _, _, _⟩) (.tmp 8) rfl (w.heap.size + 1) 2 rfl lt2 _ y2 ?_)
        | (with_reducible refine quiet_u64 (o := ⟨some 13, .load 22 (.tmp 12), _, _, _, _⟩) (.tmp 12) rfl w.heap.size 1 rfl lt1 _ x1 ?_)
        | (with_reducible refine quiet_u64 (o := ⟨some 15, .load 22 (.tmp 14), _, _, _, _⟩) (.tmp 14) rfl (w.heap.size + 1) 1 rfl lt2 _ y1 ?_)
        | (with_reducible refine quiet_u64 (o := ⟨some 18, .load 22 (.tmp 17), _, _, _, _⟩) (.tmp 17) rfl w.heap.size 0 rfl lt1 _ x0 ?_)
        | (with_reducible refine quiet_u64 (o := ⟨some 20, .load 22 (.tmp 19), _, _, _, _⟩) (.tmp 19) rfl (w.heap.size + 1) 0 rfl lt2 _ y0 ?_)); simp only [Act.put, List.setIfInBounds_toArray, List.set_cons_succ, List.set_cons_zero]; go_big_quiet_on)
    | (go_big_quiet_want; go_big_quiet_op; first | go_big_quiet_on | ((with_reducible refine ⟨_, fun _ _ => rfl, ?_⟩); go_big_quiet_on) | go_big_quiet_call ((intro hb'; with_reducible (first | exact cmp_i_in hb' | exact cmp_u_in hb')))))
  refine wpQuiet_nil ?_
  intro w' hb'
  go_wp2_with (go_at_call 37; refine (or_any _ _ _ _ _ _ (Blk.new _ _ _)).mono ?_; rintro e w1 ⟨rfl, rfl⟩)
  go_ret
  refine ⟨ret_int ?_, (hb.trans (hb'.mono (by omega))).alloc (by have := hb.size; have := hb'.size; omega) _⟩
  rw [w64_eq, w64_eq, Hcm.out]
  rfl
set_option maxHeartbeats 400000 in
theorem plus_any (a b : Int) (w : World) (ha : -9223372036854775808 ≤ a) (ha' : a ≤ 9223372036854775807) (hb : -9223372036854775808 ≤ b) (hb' : b ≤ 9223372036854775807) :
    Calls Try.prog 15 #[.int .i64 a, .int .i64 b] w fun e w' => e = .returned (.tuple #[.int .i64 (fit (ofI (a + b))).1, .int .i64 (fit (ofI (a + b))).2]) ∧ Below w.heap.size w w' := by
  go_enter Try.func15, Try.ntmps15
  go_wp2_with (first
    | (go_at_call 13; with_reducible refine (of_any a _ ha ha').mono ?_; rintro e w1 ⟨rfl, h1⟩)
    | (go_at_call 13; with_reducible refine (of_any b _ hb hb').mono ?_; rintro e w2 ⟨rfl, h2⟩)
    | (with_reducible refine wpList_pair (o := ⟨some 10, .buildSlice 71 2 #[(0, .tmp 7), (1, .tmp 9)], _, _, _, _⟩) rfl (.tmp 7) (.tmp 9) rfl (ofI a) (ofI b) rfl rfl ?_)
    | (go_at_call 40; with_reducible refine (sum2 _ _ (ofI a) (ofI b) _ (by simp) (pair_wides _ _ _)).mono ?_; rintro e w3 ⟨rfl, h3⟩)
    | (go_at_call 18; rw [ofI_add]; with_reducible refine (int_any _ _).mono ?_; rintro e w4 ⟨rfl, h4⟩))
  go_ret2
  exact ⟨rfl, (((h1.trans (h2.mono h1.size)).alloc (by have := h1.size; have := h2.size; omega) _).trans (h3.mono (by have := h1.size; have := h2.size; simp; omega))).trans (h4.mono (by have := h1.size; have := h2.size; have := h3.size; simp at this; omega))⟩
set_option maxHeartbeats 400000 in
theorem minus_any (a b : Int) (w : World) (ha : -9223372036854775808 ≤ a) (ha' : a ≤ 9223372036854775807) (hb : -9223372036854775808 ≤ b) (hb' : b ≤ 9223372036854775807) :
    Calls Try.prog 23 #[.int .i64 a, .int .i64 b] w fun e w' => e = .returned (.tuple #[.int .i64 (fit (ofI (a - b))).1, .int .i64 (fit (ofI (a - b))).2]) ∧ Below w.heap.size w w' := by
  go_enter Try.func23, Try.ntmps23
  go_wp2_with (first
    | (go_at_call 13; with_reducible refine (of_any a _ ha ha').mono ?_; rintro e w1 ⟨rfl, h1⟩)
    | (go_at_call 13; with_reducible refine (of_any b _ hb hb').mono ?_; rintro e w2 ⟨rfl, h2⟩)
    | (go_at_call 20; with_reducible refine (neg_any _ _).mono ?_; rintro e w5 ⟨rfl, h5⟩; rw [ofI_neg])
    | (with_reducible refine wpList_pair (o := ⟨some 11, .buildSlice 71 2 #[(0, .tmp 7), (1, .tmp 10)], _, _, _, _⟩) rfl (.tmp 7) (.tmp 10) rfl (ofI a) (ofI (-b)) rfl rfl ?_)
    | (go_at_call 40; with_reducible refine (sum2 _ _ (ofI a) (ofI (-b)) _ (by simp) (pair_wides _ _ _)).mono ?_; rintro e w3 ⟨rfl, h3⟩)
    | (go_at_call 18; rw [ofI_add]; with_reducible refine (int_any _ _).mono ?_; rintro e w4 ⟨rfl, h4⟩))
  go_ret2
  exact ⟨rfl, ((((h1.trans (h2.mono h1.size)).trans (h5.mono (by have := h1.size; have := h2.size; omega))).alloc (by have := h1.size; have := h2.size; have := h5.size; omega) _).trans (h3.mono (by have := h1.size; have := h2.size; have := h5.size; simp; omega))).trans (h4.mono (by have := h1.size; have := h2.size; have := h5.size; have := h3.size; simp at this; omega))⟩
set_option maxHeartbeats 400000 in
theorem times_any (a b : Int) (w : World) (ha : -9223372036854775808 ≤ a) (ha' : a ≤ 9223372036854775807) (hb : -9223372036854775808 ≤ b) (hb' : b ≤ 9223372036854775807) :
    Calls Try.prog 17 #[.int .i64 a, .int .i64 b] w fun e w' => e = .returned (.tuple #[.int .i64 (fit (ofI (a * b))).1, .int .i64 (fit (ofI (a * b))).2]) ∧ Below w.heap.size w w' := by
  go_enter Try.func17, Try.ntmps17
  go_wp2_with (first
    | (go_at_call 12; with_reducible refine (mul_any a b _ ha ha' hb hb').mono ?_; rintro e w1 ⟨rfl, h1⟩)
    | (go_at_call 18; with_reducible refine (int_any _ _).mono ?_; rintro e w4 ⟨rfl, h4⟩))
  go_ret2
  exact ⟨rfl, h1.trans (h4.mono h1.size)⟩
end Go.Proofs.Ytiiccjnfggojmaa

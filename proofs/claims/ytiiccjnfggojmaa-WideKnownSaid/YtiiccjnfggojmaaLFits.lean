/-
  THE LAW WideFits, walked.
-/
import Derived.Test.YtiiccjnfggojmaaLGroup
namespace Go.Proofs.Ytiiccjnfggojmaa
open Go.RowKit Wd

theorem of_eq {a : Int} {x : X} {b : Nat} {w0 w : World} (hb : Below b w0 w) (hs : b ≤ w0.heap.size) (ha : In64 a) (h : ofI a = x) : Calls Try.prog 13 #[.int .i64 a] w fun e w' => e = .returned (.agg (wc x)) ∧ Below b w0 w' := by
  subst h; exact of_at hb hs ha
theorem wpList_exec_g {ops : Array Oper} {rest : List Oper} {o : Oper} {a : Act} {w : World} {Q : Exit → Act → World → Prop} {v : Value} (hgd : Region.wanted o (yielded ops a.tmps) = true) (h : ∀ w, (execOp a.eval o).run Try.prog w = .ok (.value v) w)
    (hk : wpList Try.prog ops Q rest (a.put o.dst v) w) : wpList Try.prog ops Q (o :: rest) a w := by
  unfold wpList
  rw [if_pos hgd]
  left
  unfold Oper.wp
  rw [h]
  exact hk
theorem exec_is1 {o : Oper} {a : Act} (p q : Operand) (ho : o.op = .binOp .eql 22 p q 22) (n : Int) (hp : a.eval p = .int .u64 n) (hq : a.eval q = .int .u64 1) (h : n = 1) (w : World) : (execOp a.eval o).run Try.prog w = .ok (.value (.bool true)) w := by
  subst h
  have u := Try.underlying22
  unfold execOp
  simp only [ho, hp, hq]
  simp [go_sem]
theorem exec_no1 {o : Oper} {a : Act} (p q : Operand) (ho : o.op = .binOp .eql 22 p q 22) (n : Int) (hp : a.eval p = .int .u64 n) (hq : a.eval q = .int .u64 1) (h : ¬ n = 1) (w : World) : (execOp a.eval o).run Try.prog w = .ok (.value (.bool false)) w := by
  have u := Try.underlying22
  have e : (n == 1) = false := by simpa using h
  unfold execOp
  simp only [ho, hp, hq]
  simp [go_sem, e]
/-- a number that does not fit is none that fits. -/
theorem not_fit (x : X) (h : ¬ ofI (wi (pa x)) = x) (hb : pb x = 0) (hc : pc x = 0) : ¬ pa x < 9223372036854775808 := by
  intro ha
  apply h
  have := pa_lo x
  have e : wi (pa x) = pa x := by unfold wi; omega
  rw [e]
  obtain ⟨e1, e2, e3⟩ := of_parts (pa x) (by omega) (by omega)
  have s0 : sg (pa x) = 0 := by unfold sg; rw [if_neg (by omega)]
  apply ext_parts
  · rw [e1]; omega
  · rw [e2, s0, hb]
  · rw [e3, s0, hc]
set_option maxRecDepth 100000 in
set_option maxHeartbeats 4000000 in
theorem fits_any (x : X) (n : Int) (w : World) (hn : In64 n) :
    Calls Try.prog 7 #[.agg (wc x), .int .i64 n] w fun e w' => e = .returned (.bool true) ∧ Below w.heap.size w w' := by
  obtain ⟨w0, hw0⟩ : ∃ w0, w0 = w.alloc (.cells (wc x) 24) := ⟨_, rfl⟩
  have p1 : Blk w0 w.heap.size 24 (wc x) := by rw [hw0]; exact Blk.new _ _ _
  have hb0 : Below w.heap.size w w0 := by rw [hw0]; exact (Below.refl _ _).alloc (Nat.le_refl _) _
  have Hw0 := Lib.hid hw0
  clear hw0
  have B := Below.refl w0.heap.size w0
  have S := Nat.le_refl w0.heap.size
  have l1 := p1.lt
  have f1 := fit_ofI n hn
  by_cases hx : ofI (wi (pa x)) = x
  · have f2 := fit_yes hx
    have i2 : In64 (wi (pa x)) := ⟨wi_lo _, wi_hi _⟩
    obtain ⟨m, hm⟩ : ∃ m, m = wi (pa x) := ⟨_, rfl⟩
    rw [← hm] at f2 i2 hx
    clear hm
    go_enter Try.func7, Try.ntmps7
    go_upto_region 1 with (fail)
    rw [← Hw0.out]
    go_upto_region 7 with (first
      | (go_at_call 13; with_reducible refine (of_at B S hn).mono ?_; rintro e w1 ⟨rfl, B⟩)
      | (go_at_call 18; with_reducible refine (int_at B S f1).mono ?_; rintro e w2 ⟨rfl, B⟩)
      | (with_reducible refine wpList_load_at (o := ⟨some 16, .load 24 (.tmp 2), _, _, _, _⟩) rfl 24 (.tmp 2) rfl w.heap.size 0 rfl (wc x) _ (p1.below B l1).range Try.underlying24 rfl (wc_info _) ?_)
      | (go_at_call 18; with_reducible refine (int_at B S f2).mono ?_; rintro e w3 ⟨rfl, B⟩))
    refine wp_region_below_lit w0.heap.size w0 B (by kernel_rfl) (by kernel_rfl) ?_
    clear B
    repeat (first
      | go_big_quiet_skip
      | (go_big_quiet_want; (first
            | (with_reducible refine quiet_row (o := ⟨some 56, .load 24 (.tmp 2), _, _, _, _⟩) 24 (.tmp 2) rfl w.heap.size 0 rfl l1 (wc x) _ p1.range Try.underlying24 rfl (wc_info _) ?_)
            | (with_reducible refine quiet_yes24 (o := ⟨some 57, .binOp .eql 24 (.tmp 55) (.tmp 56) 24, _, _, _, _⟩) (.tmp 55) (.tmp 56) 24 rfl x rfl rfl ?_)); simp only [Act.put, List.setIfInBounds_toArray, List.set_cons_succ, List.set_cons_zero]; go_big_quiet_on)
      | (go_big_quiet_want; go_big_quiet_op; first | go_big_quiet_on | ((with_reducible refine ⟨_, fun _ _ => rfl, ?_⟩); go_big_quiet_on) | go_big_quiet_call ((intro B; with_reducible (first
          | exact of_eq B S i2 hx
          | exact works_at B S)))))
    refine wpQuiet_nil ?_
    intro w4 B
    go_wp2
    go_ret
    exact ⟨rfl, hb0.trans (B.mono hb0.size)⟩
  · have f2 := fit_no hx
    have nf := not_fit x hx
    have b1 := pa_lo x
    have b2 := pa_hi x
    by_cases cb : pb x = 0
    · by_cases cc : pc x = 0
      · have ca := nf cb cc
        have CA : Hid (pa x / 9223372036854775808 = 1) := Lib.hid (by omega)
        clear nf ca b1 b2
        go_enter Try.func7, Try.ntmps7
        go_upto_region 1 with (fail)
        rw [← Hw0.out]
        go_upto_region 6 with (first
          | (go_at_call 13; with_reducible refine (of_at B S hn).mono ?_; rintro e w1 ⟨rfl, B⟩)
          | (go_at_call 18; with_reducible refine (int_at B S f1).mono ?_; rintro e w2 ⟨rfl, B⟩)
          | (with_reducible refine wpList_load_at (o := ⟨some 16, .load 24 (.tmp 2), _, _, _, _⟩) rfl 24 (.tmp 2) rfl w.heap.size 0 rfl (wc x) _ (p1.below B l1).range Try.underlying24 rfl (wc_info _) ?_)
          | (go_at_call 18; with_reducible refine (int_at B S f2).mono ?_; rintro e w3 ⟨rfl, B⟩))
        have p2 := p1.below B l1
        obtain ⟨y0, y1, y2⟩ := wc_cell p2
        rw [cb] at y1
        rw [cc] at y2
        clear cb cc hx
        go_wp2_with (first
          | (refine wpList_exec_g (o := ⟨some 43, .binOp .eql 22 (.tmp 42) (.const (.int .u64 1)) 22, _, _, _, _⟩) rfl (exec_is1 (.tmp 42) _ rfl _ rfl rfl CA.out) ?_)
          | (go_at_call 19; with_reducible refine (works_at B S).mono ?_; rintro e w5 ⟨rfl, B⟩))
        go_ret
        exact ⟨rfl, hb0.trans (B.mono hb0.size)⟩
      · clear nf b1 b2
        by_cases ce : pa x / 9223372036854775808 = 1
        · have CE := Lib.hid ce
          go_enter Try.func7, Try.ntmps7
          go_upto_region 1 with (fail)
          rw [← Hw0.out]
          go_upto_region 6 with (first
            | (go_at_call 13; with_reducible refine (of_at B S hn).mono ?_; rintro e w1 ⟨rfl, B⟩)
            | (go_at_call 18; with_reducible refine (int_at B S f1).mono ?_; rintro e w2 ⟨rfl, B⟩)
            | (with_reducible refine wpList_load_at (o := ⟨some 16, .load 24 (.tmp 2), _, _, _, _⟩) rfl 24 (.tmp 2) rfl w.heap.size 0 rfl (wc x) _ (p1.below B l1).range Try.underlying24 rfl (wc_info _) ?_)
            | (go_at_call 18; with_reducible refine (int_at B S f2).mono ?_; rintro e w3 ⟨rfl, B⟩))
          have p2 := p1.below B l1
          obtain ⟨y0, y1, y2⟩ := wc_cell p2
          rw [cb] at y1
          have e2 : (pc x != 0) = true := by simpa using cc
          clear cb cc hx ce
          go_wp2_with (first
            | (refine wpList_exec_g (o := ⟨some 43, .binOp .eql 22 (.tmp 42) (.const (.int .u64 1)) 22, _, _, _, _⟩) rfl (exec_is1 (.tmp 42) _ rfl _ rfl rfl CE.out) ?_)
            | (go_at_call 19; with_reducible refine (works_at B S).mono ?_; rintro e w5 ⟨rfl, B⟩))
          go_ret
          exact ⟨rfl, hb0.trans (B.mono hb0.size)⟩

        · have CE := Lib.hid ce
          go_enter Try.func7, Try.ntmps7
          go_upto_region 1 with (fail)
          rw [← Hw0.out]
          go_upto_region 6 with (first
            | (go_at_call 13; with_reducible refine (of_at B S hn).mono ?_; rintro e w1 ⟨rfl, B⟩)
            | (go_at_call 18; with_reducible refine (int_at B S f1).mono ?_; rintro e w2 ⟨rfl, B⟩)
            | (with_reducible refine wpList_load_at (o := ⟨some 16, .load 24 (.tmp 2), _, _, _, _⟩) rfl 24 (.tmp 2) rfl w.heap.size 0 rfl (wc x) _ (p1.below B l1).range Try.underlying24 rfl (wc_info _) ?_)
            | (go_at_call 18; with_reducible refine (int_at B S f2).mono ?_; rintro e w3 ⟨rfl, B⟩))
          have p2 := p1.below B l1
          obtain ⟨y0, y1, y2⟩ := wc_cell p2
          rw [cb] at y1
          have e2 : (pc x != 0) = true := by simpa using cc
          clear cb cc hx ce
          go_wp2_with (first
            | (refine wpList_exec_g (o := ⟨some 43, .binOp .eql 22 (.tmp 42) (.const (.int .u64 1)) 22, _, _, _, _⟩) rfl (exec_no1 (.tmp 42) _ rfl _ rfl rfl CE.out) ?_)
            | (go_at_call 19; with_reducible refine (works_at B S).mono ?_; rintro e w5 ⟨rfl, B⟩))
          go_ret
          exact ⟨rfl, hb0.trans (B.mono hb0.size)⟩
    · clear nf b1 b2
      go_enter Try.func7, Try.ntmps7
      go_upto_region 1 with (fail)
      rw [← Hw0.out]
      go_upto_region 6 with (first
        | (go_at_call 13; with_reducible refine (of_at B S hn).mono ?_; rintro e w1 ⟨rfl, B⟩)
        | (go_at_call 18; with_reducible refine (int_at B S f1).mono ?_; rintro e w2 ⟨rfl, B⟩)
        | (with_reducible refine wpList_load_at (o := ⟨some 16, .load 24 (.tmp 2), _, _, _, _⟩) rfl 24 (.tmp 2) rfl w.heap.size 0 rfl (wc x) _ (p1.below B l1).range Try.underlying24 rfl (wc_info _) ?_)
        | (go_at_call 18; with_reducible refine (int_at B S f2).mono ?_; rintro e w3 ⟨rfl, B⟩))
      have p2 := p1.below B l1
      obtain ⟨y0, y1, y2⟩ := wc_cell p2
      go_wp2_with (go_at_call 19; with_reducible refine (works_at B S).mono ?_; rintro e w5 ⟨rfl, B⟩)
      go_ret
      exact ⟨rfl, hb0.trans (B.mono hb0.size)⟩
end Go.Proofs.Ytiiccjnfggojmaa

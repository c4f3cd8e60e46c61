/-
  THE LAW WideOrder, walked.
-/
import Derived.Test.YtiiccjnfggojmaaAllocs
import Derived.Outline
namespace Go.Proofs.Ytiiccjnfggojmaa
open Go.RowKit Wd

theorem toInt_inj {x y : X} (h : x.toInt = y.toInt) : x = y := BitVec.eq_of_toInt_eq h
theorem wpList_eq24 {ops : Array Oper} {rest : List Oper} {o : Oper} {a : Act} {w : World} {Q : Exit → Act → World → Prop} {r : Bool} (hgd : Region.wanted o (yielded ops a.tmps) = true) (p q : Operand) (t : TypeId) (ho : o.op = .binOp .eql 24 p q t) (x y : X)
    (hp : a.eval p = .agg (wc x)) (hq : a.eval q = .agg (wc y)) (hr : decide (x = y) = r) (hk : wpList Try.prog ops Q rest (a.put o.dst (.bool r)) w) : wpList Try.prog ops Q (o :: rest) a w :=
  wpList_exec_g hgd (fun w => by rw [← hr]; exact exec_eq24 p q t ho x y hp hq w) hk
theorem wpList_load_g {ops : Array Oper} {rest : List Oper} {o : Oper} {a : Act} {w : World} {Q : Exit → Act → World → Prop} (hgd : Region.wanted o (yielded ops a.tmps) = true) (p : Operand) (ho : o.op = .load 24 p) (g : Nat) (hx : a.eval p = .pointer (some ⟨g, 0, none⟩)) (x : X) (hc : Blk w g 24 (wc x))
    (hk : wpList Try.prog ops Q rest (a.put o.dst (.agg (wc x))) w) : wpList Try.prog ops Q (o :: rest) a w := by
  have h1 := run_loadVar_mid w g 0 24 (wc x).toList _ hc.range Try.underlying24 rfl (wc_info x)
  have h2 : (execOp a.eval o).run Try.prog w = .ok (.value (.agg (wc x))) w := by
    unfold execOp
    simp only [ho, hx, Instr.loadAt, Instr.sureAddr, Sem.run_bind, Sem.run_pure, Result.andThen_ok, h1]
  unfold wpList
  rw [if_pos hgd]
  left
  unfold Oper.wp
  rw [h2]
  exact hk
theorem three_row (w : World) (x y z : X) : Blk (w.alloc (.cells (wc x ++ wc y ++ wc z) 44)) w.heap.size 44 (wc x ++ wc y ++ wc z) := Blk.new _ _ _
theorem nine_cell {w : World} {g : Nat} {x y z : X} (h : Blk w g 44 (wc x ++ wc y ++ wc z)) : w.rangeAt g 0 (wc x).toList ∧ w.rangeAt g 3 (wc y).toList ∧ w.rangeAt g 6 (wc z).toList := by
  refine ⟨fun j v hj => ?_, fun j v hj => ?_, fun j v hj => ?_⟩
  all_goals
    rw [h.cell]
    have hj3 : j < 3 := by
      have := (List.getElem?_eq_some_iff.1 hj).1
      simpa [wc_size] using this
    obtain rfl | rfl | rfl : j = 0 ∨ j = 1 ∨ j = 2 := by omega
    all_goals exact hj
theorem cml {a b : Int} (h : a < b) : cm a b = -1 := by unfold cm; rw [if_pos h]
theorem cmg {a b : Int} (h : b < a) : cm a b = 1 := by unfold cm; rw [if_neg (by omega), if_pos h]
theorem cme {a b : Int} (h : a = b) : cm a b = 0 := by unfold cm; rw [if_neg (by omega), if_neg (by omega)]
theorem cm_ways (a b : Int) : (cm a b = -1 ∧ cm b a = 1 ∧ a < b) ∨ (cm a b = 0 ∧ cm b a = 0 ∧ a = b) ∨ (cm a b = 1 ∧ cm b a = -1 ∧ b < a) := by
  rcases Int.lt_trichotomy a b with h | h | h
  · exact .inl ⟨cml h, cmg h, h⟩
  · exact .inr (.inl ⟨cme h, cme h.symm, h⟩)
  · exact .inr (.inr ⟨cmg h, cml h, h⟩)
set_option maxRecDepth 100000 in
set_option maxHeartbeats 4000000 in
theorem order_any (x y z : X) (m n : Int) (w : World) (hm : In64 m) (hn : In64 n) :
    Calls Try.prog 10 #[.agg (wc x ++ wc y ++ wc z), .int .i64 m, .int .i64 n] w fun e w' => e = .returned (.bool true) ∧ Below w.heap.size w w' := by
  obtain ⟨cs, hcs⟩ : ∃ cs, cs = wc x ++ wc y ++ wc z := ⟨_, rfl⟩
  rw [← hcs]
  obtain ⟨w0, hw0⟩ : ∃ w0, w0 = w.alloc (.cells cs 44) := ⟨_, rfl⟩
  have p1 : Blk w0 w.heap.size 44 (wc x ++ wc y ++ wc z) := by rw [hw0, hcs]; exact Blk.new _ _ _
  have hb0 : Below w.heap.size w w0 := by rw [hw0]; exact (Below.refl _ _).alloc (Nat.le_refl _) _
  have Hw0 := Lib.hid hw0
  have Hcs := Lib.hid hcs
  clear hw0 hcs
  have l1 := p1.lt
  obtain ⟨k0, k3, k6⟩ := nine_cell p1
  have way : (cm x.toInt y.toInt = 1 ∧ cm y.toInt x.toInt = -1 ∧ decide (x = y) = false) ∨
      (∃ d e, (cm x.toInt y.toInt = -1 ∧ cm y.toInt x.toInt = 1 ∧ decide (x = y) = false) ∧ cm y.toInt z.toInt = d ∧ cm x.toInt z.toInt = e ∧ decide (d ≤ 0) = true ∧ decide (0 < e) = false) ∨
      (∃ d e, (cm x.toInt y.toInt = 0 ∧ cm y.toInt x.toInt = 0 ∧ decide (x = y) = true) ∧ cm y.toInt z.toInt = d ∧ cm x.toInt z.toInt = e ∧ decide (d ≤ 0) = true ∧ decide (0 < e) = false) ∨
      (∃ d, (cm x.toInt y.toInt = -1 ∧ cm y.toInt x.toInt = 1 ∧ decide (x = y) = false) ∧ cm y.toInt z.toInt = d ∧ decide (d ≤ 0) = false) ∨
      (∃ d, (cm x.toInt y.toInt = 0 ∧ cm y.toInt x.toInt = 0 ∧ decide (x = y) = true) ∧ cm y.toInt z.toInt = d ∧ decide (d ≤ 0) = false) := by
    rcases cm_ways y.toInt z.toInt with ⟨d1, _, d3⟩ | ⟨d1, _, d3⟩ | ⟨d1, _, d3⟩ <;> rcases cm_ways x.toInt y.toInt with ⟨c1, c2, c3⟩ | ⟨c1, c2, c3⟩ | ⟨c1, c2, c3⟩
    all_goals first
      | (left; exact ⟨c1, c2, decide_eq_false fun h => by rw [h] at c3; omega⟩)
      | (right; left; exact ⟨_, _, ⟨c1, c2, decide_eq_false fun h => by rw [h] at c3; omega⟩, rfl, rfl, by rw [d1]; rfl, by rcases cm_ways x.toInt z.toInt with ⟨e1, _, e3⟩ | ⟨e1, _, e3⟩ | ⟨e1, _, e3⟩ <;> first | (rw [e1]; rfl) | omega⟩)
      | (right; right; left; exact ⟨_, _, ⟨c1, c2, decide_eq_true (toInt_inj c3)⟩, rfl, rfl, by rw [d1]; rfl, by rcases cm_ways x.toInt z.toInt with ⟨e1, _, e3⟩ | ⟨e1, _, e3⟩ | ⟨e1, _, e3⟩ <;> first | (rw [e1]; rfl) | omega⟩)
      | (right; right; right; left; exact ⟨_, ⟨c1, c2, decide_eq_false fun h => by rw [h] at c3; omega⟩, rfl, by rw [d1]; rfl⟩)
      | (right; right; right; right; exact ⟨_, ⟨c1, c2, decide_eq_true (toInt_inj c3)⟩, rfl, by rw [d1]; rfl⟩)
  obtain ⟨f, bb, hf, hfb, hmn⟩ : ∃ f bb, cm (ofI m).toInt (ofI n).toInt = f ∧ decide (f < 0) = bb ∧ decide (m < n) = bb := by
    rw [toInt_ofI m hm.1 hm.2, toInt_ofI n hn.1 hn.2]
    rcases cm_ways m n with ⟨e1, _, e3⟩ | ⟨e1, _, e3⟩ | ⟨e1, _, e3⟩
    · exact ⟨_, true, rfl, by rw [e1]; rfl, decide_eq_true e3⟩
    · exact ⟨_, false, rfl, by rw [e1]; rfl, decide_eq_false (by omega)⟩
    · exact ⟨_, false, rfl, by rw [e1]; rfl, decide_eq_false (by omega)⟩
  have Hf := Lib.hid hf
  clear hf
  have Way := Lib.hid way
  clear way
  go_enter Try.func10, Try.ntmps10
  go_upto_region 1 with (fail)
  rw [← Hw0.out]
  refine wp_region_open 6 w0.heap.size w0 (Below.refl _ _) (by kernel_rfl) (by kernel_rfl) (by simp) (by kernel_rfl) (by kernel_rfl) ?_
  simp only [List.take_succ_cons, List.take_zero]
  repeat (first
    | go_big_quiet_skip
    | (go_big_quiet_want; (first
          | (with_reducible refine quiet_row (o := ⟨some 12, .load 24 (.tmp 11), _, _, _, _⟩) 24 (.tmp 11) rfl w.heap.size 0 rfl l1 (wc x) _ k0 Try.underlying24 rfl (wc_info _) ?_)
          | (with_reducible refine quiet_row (o := ⟨some 14, .load 24 (.tmp 13), _, _, _, _⟩) 24 (.tmp 13) rfl w.heap.size 3 rfl l1 (wc y) _ k3 Try.underlying24 rfl (wc_info _) ?_)
          | (with_reducible refine quiet_row (o := ⟨some 16, .load 24 (.tmp 15), _, _, _, _⟩) 24 (.tmp 15) rfl w.heap.size 6 rfl l1 (wc z) _ k6 Try.underlying24 rfl (wc_info _) ?_)); simp only [Act.put, List.setIfInBounds_toArray, List.set_cons_succ, List.set_cons_zero]; go_big_quiet_on)
    | (go_big_quiet_want; go_big_quiet_op; first | go_big_quiet_on | ((with_reducible refine ⟨_, fun _ _ => rfl, ?_⟩); go_big_quiet_on)))
  refine wpQuiet_nil ?_
  refine wpAnyH_alloc3 (f := 3) (i := 6) (j := 7) (k := 8) (x := 7) (y := 8) (z := 9) (by decide) (by decide) (by decide) (by decide) (by decide) (by decide) ⟨_, rfl, rfl, rfl, rfl⟩ ⟨_, rfl, rfl, rfl, rfl⟩ ⟨_, rfl, rfl, rfl, rfl⟩ (by kernel_rfl) (below_zw (Nat.le_refl _)) ((Below.refl _ _).drew) ?_
  rintro g7 g8 g9 ⟨⟨a1, a2⟩, ⟨b1, b2⟩, ⟨c1, c2⟩, n1, n2, n3⟩
  obtain ⟨w3, hw3⟩ : ∃ w3, w3 = ((w0.drew.alloc Zw).alloc Zw).alloc Zw := ⟨_, rfl⟩
  have z7 := blk_zw3 w0.drew g7 a1 a2
  have z8 := blk_zw3 w0.drew g8 b1 b2
  have z9 := blk_zw3 w0.drew g9 c1 c2
  have B3 : Below w0.heap.size w0 (((w0.drew.alloc Zw).alloc Zw).alloc Zw) := below_zw (Nat.le_refl _) _ (below_zw (Nat.le_refl _) _ (below_zw (Nat.le_refl _) _ (Below.refl _ _).drew))
  rw [← hw3] at z7 z8 z9 B3 ⊢
  have a1' : w0.heap.size ≤ g7 := a1
  have b1' : w0.heap.size ≤ g8 := b1
  have c1' : w0.heap.size ≤ g9 := c1
  clear hw3 a1 a2 b1 b2 c1 c2
  simp only [Act.put, List.setIfInBounds_toArray, List.set_cons_succ, List.set_cons_zero, ptr]
  have B4 := below_setRow B3 a1' (wc x)
  have B5 := below_setRow B4 b1' (wc y)
  have B6 := below_setRow B5 c1' (wc z)
  refine storeH (i := 9) (o := ⟨none, .store 24 (.tmp 7) (.tmp 12), _, _, _, _⟩) (by kernel_rfl) rfl rfl (.tmp 7) (.tmp 12) rfl rfl g7 x (ofI 0) rfl rfl z7 B4 ?_
  refine storeH (i := 10) (o := ⟨none, .store 24 (.tmp 8) (.tmp 14), _, _, _, _⟩) (by kernel_rfl) rfl rfl (.tmp 8) (.tmp 14) rfl rfl g8 y (ofI 0) rfl rfl (z8.rowFar (Ne.symm n1) _) B5 ?_
  refine storeH (i := 11) (o := ⟨none, .store 24 (.tmp 9) (.tmp 16), _, _, _, _⟩) (by kernel_rfl) rfl rfl (.tmp 9) (.tmp 16) rfl rfl g9 z (ofI 0) rfl rfl ((z9.rowFar (Ne.symm n2) _).rowFar (Ne.symm n3) _) B6 ?_
  refine wpAnyH_done (by kernel_rfl) (calm_normal ?_) _
  obtain ⟨W, hW⟩ : ∃ W, W = ((w3.setRow g7 (wc x)).setRow g8 (wc y)).setRow g9 (wc z) := ⟨_, rfl⟩
  have q7 : Blk W g7 24 (wc x) := by rw [hW]; exact ((z7.row _).rowFar n1 _).rowFar n2 _
  have q8 : Blk W g8 24 (wc y) := by rw [hW]; exact ((z8.rowFar (Ne.symm n1) _).row _).rowFar n3 _
  have q9 : Blk W g9 24 (wc z) := by rw [hW]; exact ((z9.rowFar (Ne.symm n2) _).rowFar (Ne.symm n3) _).row _
  rw [← hW] at B6 ⊢
  have BW := hb0.trans (B6.mono hb0.size)
  clear hW B3 B4 B5 B6 z7 z8 z9 n1 n2 n3 a1' b1' c1' k0 k3 k6 p1 hb0 Hw0 Hcs l1
  have B := Below.refl W.heap.size W
  have S := Nat.le_refl W.heap.size
  rcases Way.out with ⟨h1, h2, h3⟩ | ⟨d, e, ⟨h1, h2, h3⟩, h4, h5, hd, he⟩ | ⟨d, e, ⟨h1, h2, h3⟩, h4, h5, hd, he⟩ | ⟨d, ⟨h1, h2, h3⟩, h4, hd⟩ | ⟨d, ⟨h1, h2, h3⟩, h4, hd⟩
  all_goals
    have H1 := Lib.hid h1
    have H2 := Lib.hid h2
    have H3 := Lib.hid h3
    clear h1 h2 h3 Way
    try (have H4 := Lib.hid h4; clear h4)
    try (have H5 := Lib.hid h5; clear h5)
    go_wp2_with (first
    | (with_reducible refine wpList_load_g (o := ⟨some 17, .load 24 (.tmp 7), _, _, _, _⟩) rfl (.tmp 7) rfl g7 rfl x (q7) ?_)
    | (with_reducible refine wpList_load_g (o := ⟨some 18, .load 24 (.tmp 8), _, _, _, _⟩) rfl (.tmp 8) rfl g8 rfl y (q8) ?_)
    | (with_reducible refine wpList_load_g (o := ⟨some 21, .load 24 (.tmp 8), _, _, _, _⟩) rfl (.tmp 8) rfl g8 rfl y (q8.below B q8.lt) ?_)
    | (with_reducible refine wpList_load_g (o := ⟨some 22, .load 24 (.tmp 7), _, _, _, _⟩) rfl (.tmp 7) rfl g7 rfl x (q7.below B q7.lt) ?_)
    | (with_reducible refine wpList_load_g (o := ⟨some 29, .load 24 (.tmp 7), _, _, _, _⟩) rfl (.tmp 7) rfl g7 rfl x (q7.below B q7.lt) ?_)
    | (with_reducible refine wpList_load_g (o := ⟨some 30, .load 24 (.tmp 8), _, _, _, _⟩) rfl (.tmp 8) rfl g8 rfl y (q8.below B q8.lt) ?_)
    | (with_reducible refine wpList_load_g (o := ⟨some 46, .load 24 (.tmp 8), _, _, _, _⟩) rfl (.tmp 8) rfl g8 rfl y (q8.below B q8.lt) ?_)
    | (with_reducible refine wpList_load_g (o := ⟨some 47, .load 24 (.tmp 9), _, _, _, _⟩) rfl (.tmp 9) rfl g9 rfl z (q9.below B q9.lt) ?_)
    | (with_reducible refine wpList_load_g (o := ⟨some 52, .load 24 (.tmp 7), _, _, _, _⟩) rfl (.tmp 7) rfl g7 rfl x (q7.below B q7.lt) ?_)
    | (with_reducible refine wpList_load_g (o := ⟨some 53, .load 24 (.tmp 9), _, _, _, _⟩) rfl (.tmp 9) rfl g9 rfl z (q9.below B q9.lt) ?_)
    | (with_reducible refine wpList_eq24 (o := ⟨some 31, .binOp .eql 24 (.tmp 29) (.tmp 30) 24, _, _, _, _⟩) rfl (.tmp 29) (.tmp 30) 24 rfl x y rfl rfl H3.out ?_)
    | (go_at_call 14; with_reducible refine (cmp_at B S H1.out).mono ?_; rintro e w1 ⟨rfl, B⟩)
    | (go_at_call 14; with_reducible refine (cmp_at B S H2.out).mono ?_; rintro e w1 ⟨rfl, B⟩)
    | (go_at_call 14; with_reducible refine (cmp_at B S H4.out).mono ?_; rintro e w1 ⟨rfl, B⟩)
    | (go_at_call 14; with_reducible refine (cmp_at B S H5.out).mono ?_; rintro e w1 ⟨rfl, B⟩)
    | (go_at_call 13; with_reducible refine (of_at B S hm).mono ?_; rintro e w1 ⟨rfl, B⟩)
    | (go_at_call 13; with_reducible refine (of_at B S hn).mono ?_; rintro e w1 ⟨rfl, B⟩)
    | (go_at_call 14; with_reducible refine (cmp_at B S Hf.out).mono ?_; rintro e w1 ⟨rfl, B⟩)
    | (go_at_call 19; with_reducible refine (works_at B S).mono ?_; rintro e w1 ⟨rfl, B⟩))
    go_ret
    exact ⟨rfl, BW.trans (B.mono BW.size)⟩
end Go.Proofs.Ytiiccjnfggojmaa

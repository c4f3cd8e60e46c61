/-
  WALKS, 9: the reference: Compare, Int.
-/
import Derived.Test.YtiiccjnfggojmaaW8
namespace Go.Proofs.Ytiiccjnfggojmaa
open Go.RowKit Wd

theorem high_neg (x : X) : (2147483648 ≤ dg x 5 ∧ x.toInt < 0) ∨ (dg x 5 < 2147483648 ∧ 0 ≤ x.toInt) := by
  have h := toInt_eq x
  have l := lt192 x
  rw [dg5]
  split at h <;> omega
theorem cm_same (x y : X) (h : (x.toInt < 0 ∧ y.toInt < 0) ∨ (0 ≤ x.toInt ∧ 0 ≤ y.toInt)) : cm x.toInt y.toInt = cm (x.toNat : Int) (y.toNat : Int) := by
  have hx := toInt_eq x
  have hy := toInt_eq y
  have lx := lt192 x
  have ly := lt192 y
  have e : (x.toInt < y.toInt ↔ (x.toNat : Int) < y.toNat) ∧ (y.toInt < x.toInt ↔ (y.toNat : Int) < x.toNat) := by
    split at hx <;> split at hy <;> omega
  unfold cm
  simp only [e.1, e.2]
theorem quot_step (n j : Nat) : n / 4294967296 ^ j = 4294967296 * (n / 4294967296 ^ (j + 1)) + n / 4294967296 ^ j % 4294967296 := by
  rw [Nat.pow_succ, ← Nat.div_div_eq_div_mul]
  omega
theorem digit_lt (x y : X) (j : Nat) (h : x.toNat / 4294967296 ^ (j + 1) = y.toNat / 4294967296 ^ (j + 1)) (hd : dg x j < dg y j) : (x.toNat : Int) < y.toNat := by
  have h1 := quot_step x.toNat j
  have h2 := quot_step y.toNat j
  unfold dg at hd
  have h3 : x.toNat / 4294967296 ^ j < y.toNat / 4294967296 ^ j := by omega
  have h4 : x.toNat < y.toNat := by
    rcases Nat.lt_or_ge x.toNat y.toNat with h | h
    · exact h
    · exact absurd (Nat.div_le_div_right (c := 4294967296 ^ j) h) (by omega)
  omega
theorem digit_eq (x y : X) (j : Nat) (h : x.toNat / 4294967296 ^ (j + 1) = y.toNat / 4294967296 ^ (j + 1)) (hd : dg x j = dg y j) : x.toNat / 4294967296 ^ j = y.toNat / 4294967296 ^ j := by
  have h1 := quot_step x.toNat j
  have h2 := quot_step y.toNat j
  unfold dg at hd
  omega
theorem cm_lt {a b : Int} (h : a < b) : cm a b = -1 := by unfold cm; rw [if_pos h]
theorem cm_gt {a b : Int} (h : b < a) : cm a b = 1 := by unfold cm; rw [if_neg (by omega), if_pos h]
theorem cm_eq {a b : Int} (h : a = b) : cm a b = 0 := by unfold cm; rw [if_neg (by omega), if_neg (by omega)]
theorem pair52_1 (w : World) (x y : X) : Blk ((w.alloc (.cells (sc x) 52)).alloc (.cells (sc y) 52)) w.heap.size 52 (sc x) := (Blk.new _ _ _).alloc _
theorem pair52_2 (w : World) (x y : X) : Blk ((w.alloc (.cells (sc x) 52)).alloc (.cells (sc y) 52)) (w.heap.size + 1) 52 (sc y) := by
  have h := Blk.new (w.alloc (.cells (sc x) 52)) 52 (sc y)
  simpa using h
set_option maxRecDepth 100000 in
set_option maxHeartbeats 2000000 in
theorem rcmp_any (x y : X) (w : World) :
    Calls Try.prog 30 #[.agg (sc x), .agg (sc y)] w fun e w' => e = .returned (.int .i64 (cm x.toInt y.toInt)) ∧ Below w.heap.size w w' := by
  obtain ⟨w0, hw0⟩ : ∃ w0, w0 = (w.alloc (.cells (sc x) 52)).alloc (.cells (sc y) 52) := ⟨_, rfl⟩
  have h1 := pair52_1 w x y
  have h2 := pair52_2 w x y
  have hb0 : Below w.heap.size w ((w.alloc (.cells (sc x) 52)).alloc (.cells (sc y) 52)) := ((Below.refl _ _).alloc (Nat.le_refl _) _).alloc (by simp) _
  rw [← hw0] at h1 h2 hb0
  have Hw0 := Lib.hid hw0
  clear hw0
  have l1 := h1.lt
  have l2 := h2.lt
  have c1 := sc_cell h1 5 (by omega)
  have c2 := sc_cell h2 5 (by omega)
  have hx := high_neg x
  have hy := high_neg y
  have hsame := cm_same x y
  obtain ⟨r, hr⟩ : ∃ r, r = cm x.toInt y.toInt := ⟨_, rfl⟩
  have Hr := Lib.hid hr
  obtain ⟨dx, hdx⟩ : ∃ d, d = dg x 5 := ⟨_, rfl⟩
  obtain ⟨dy, hdy⟩ : ∃ d, d = dg y 5 := ⟨_, rfl⟩
  rw [← hdx] at c1 hx
  rw [← hdy] at c2 hy
  rw [← hr] at hsame ⊢
  clear hdx hdy hr
  go_enter Try.func30, Try.ntmps30
  go_upto_region 1 with (fail)
  rw [← Hw0.out]
  refine wp_region_below_lit w0.heap.size w0 (Below.refl _ _) (by kernel_rfl) (by kernel_rfl) ?_
  have yes : ∀ d : Int, 2147483648 ≤ d → decide (2147483648 ≤ d) = true := fun d h => decide_eq_true h
  have no : ∀ d : Int, d < 2147483648 → decide (2147483648 ≤ d) = false := fun d h => decide_eq_false (by omega)
  have way : (decide (2147483648 ≤ dx) = true ∧ decide (2147483648 ≤ dy) = false ∧ r = -1) ∨ (decide (2147483648 ≤ dx) = false ∧ decide (2147483648 ≤ dy) = true ∧ r = 1) ∨ (decide (2147483648 ≤ dx) = true ∧ decide (2147483648 ≤ dy) = true ∧ r = cm (x.toNat : Int) (y.toNat : Int)) ∨ (decide (2147483648 ≤ dx) = false ∧ decide (2147483648 ≤ dy) = false ∧ r = cm (x.toNat : Int) (y.toNat : Int)) := by
    rcases hx with ⟨a1, a2⟩ | ⟨a1, a2⟩ <;> rcases hy with ⟨b1, b2⟩ | ⟨b1, b2⟩
    · exact .inr (.inr (.inl ⟨yes _ a1, yes _ b1, hsame (.inl ⟨a2, b2⟩)⟩))
    · exact .inl ⟨yes _ a1, no _ b1, by rw [Hr.out]; exact cm_lt (by omega)⟩
    · exact .inr (.inl ⟨no _ a1, yes _ b1, by rw [Hr.out]; exact cm_gt (by omega)⟩)
    · exact .inr (.inr (.inr ⟨no _ a1, no _ b1, hsame (.inr ⟨a2, b2⟩)⟩))
  clear hx hy hsame Hr yes no
  rcases way with ⟨s1, s2, hr⟩ | ⟨s1, s2, hr⟩ | ⟨s1, s2, hr⟩ | ⟨s1, s2, hr⟩
  all_goals repeat (first
    | go_big_quiet_skip
    | (go_big_quiet_want; (first
        | (with_reducible refine quiet_u64 (o := ⟨some 9, .load 22 (.tmp 8), _, _, _, _⟩) (.tmp 8) rfl w.heap.size 5 rfl l1 _ c1 ?_)
        | (with_reducible refine quiet_u64 (o := ⟨some 12, .load 22 (.tmp 11), _, _, _, _⟩) (.tmp 11) rfl (w.heap.size + 1) 5 rfl l2 _ c2 ?_)); simp only [Act.put, List.setIfInBounds_toArray, List.set_cons_succ, List.set_cons_zero]; go_big_quiet_on)
    | (go_big_quiet_want; go_big_quiet_op; first | go_big_quiet_on | ((with_reducible refine ⟨_, fun _ _ => rfl, ?_⟩); go_big_quiet_on)))
  all_goals
    refine wpQuiet_nil ?_
    intro w1 B
    have g1 := h1.below B l1
    have g2 := h2.below B l2
    have gb := hb0.trans (B.mono hb0.size)
    clear B h1 h2 hb0 Hw0 c1 c2 l1 l2
  · go_wp2
    go_ret
    exact ⟨ret_int hr.symm, gb⟩
  · go_wp2
    go_ret
    exact ⟨ret_int hr.symm, gb⟩
  all_goals
    have Hr := Lib.hid hr
    clear hr
    go_wp2
    go_loopw [7] (fun i wr => ∃ k : Nat, k ≤ 6 ∧ i = .int .i64 ((k : Int) - 1) ∧ x.toNat / 4294967296 ^ k = y.toNat / 4294967296 ^ k ∧ Blk wr w.heap.size 52 (sc x) ∧ Blk wr (w.heap.size + 1) 52 (sc y) ∧ Below w.heap.size w wr) (fun i _ => (intOf i + 1).toNat)
    case atStart =>
      have lx := lt192 x
      have ly := lt192 y
      exact ⟨6, by omega, rfl, by omega, g1, g2, gb⟩
    case round =>
      clear g1 g2 gb
      obtain ⟨k, hk, rfl, hq, g1, g2, gb⟩ := hrel
      obtain rfl | ⟨j, rfl⟩ : k = 0 ∨ ∃ j, k = j + 1 := by
        cases k with
        | zero => exact .inl rfl
        | succ j => exact .inr ⟨j, rfl⟩
      · have he : (x.toNat : Int) = y.toNat := by rw [Nat.pow_zero, Nat.div_one, Nat.div_one] at hq; rw [hq]
        rw [cm_eq he] at Hr
        clear hq he
        go_wp2
        go_ret
        exact ⟨ret_int Hr.out.symm, gb⟩
      · have e : (((j + 1 : Nat)) : Int) - 1 = (j : Int) := by omega
        rw [e]
        clear e
        have hj : j < 6 := by omega
        have i1 : (j : Int) < 6 := by omega
        have l1 := g1.lt
        have l2 := g2.lt
        have c1 := sc_cell g1 j hj
        have c2 := sc_cell g2 j hj
        have q1 := digit_lt x y j hq
        have q2 := digit_lt y x j hq.symm
        have q3 := digit_eq x y j hq
        obtain ⟨ex, hex⟩ : ∃ d, d = dg x j := ⟨_, rfl⟩
        obtain ⟨ey, hey⟩ : ∃ d, d = dg y j := ⟨_, rfl⟩
        rw [← hex] at c1 q1 q2 q3
        rw [← hey] at c2 q1 q2 q3
        have HEX := Lib.hid hex.symm
        have HEY := Lib.hid hey.symm
        clear hex hey hq
        have way : (ex < ey ∧ cm (x.toNat : Int) (y.toNat : Int) = -1) ∨ (ey < ex ∧ cm (x.toNat : Int) (y.toNat : Int) = 1) ∨ (ex = ey ∧ x.toNat / 4294967296 ^ j = y.toNat / 4294967296 ^ j) := by
          rcases Int.lt_trichotomy ex ey with h | h | h
          · exact .inl ⟨h, cm_lt (q1 h)⟩
          · exact .inr (.inr ⟨h, q3 h⟩)
          · exact .inr (.inl ⟨h, cm_gt (q2 h)⟩)
        clear q1 q2 q3
        rcases way with ⟨v, hv⟩ | ⟨v, hv⟩ | ⟨v, hv⟩
        · go_upto_region 9 with (fail)
          refine wp_region_below_lit wr.heap.size wr (Below.refl _ _) (by kernel_rfl) (by kernel_rfl) ?_
          repeat (first
            | go_big_quiet_skip
            | (go_big_quiet_want; (first
                | (with_reducible refine quiet_u64 (o := ⟨some 24, .load 22 (.tmp 23), _, _, _, _⟩) (.tmp 23) rfl w.heap.size j rfl l1 _ c1 ?_)
                | (with_reducible refine quiet_u64 (o := ⟨some 27, .load 22 (.tmp 26), _, _, _, _⟩) (.tmp 26) rfl (w.heap.size + 1) j rfl l2 _ c2 ?_)); simp only [Act.put, List.setIfInBounds_toArray, List.set_cons_succ, List.set_cons_zero]; go_big_quiet_on)
            | (go_big_quiet_want; go_big_quiet_op; first | go_big_quiet_on | ((with_reducible refine ⟨_, fun _ _ => rfl, ?_⟩); go_big_quiet_on)))
          refine wpQuiet_nil ?_
          intro w2 B
          have gb := gb.trans (B.mono gb.size)
          have g1 := g1.below B l1
          have g2 := g2.below B l2
          rw [hv] at Hr
          clear hv
          go_wp2
          go_ret
          exact ⟨ret_int Hr.out.symm, gb⟩
        · go_upto_region 9 with (fail)
          refine wp_region_below_lit wr.heap.size wr (Below.refl _ _) (by kernel_rfl) (by kernel_rfl) ?_
          repeat (first
            | go_big_quiet_skip
            | (go_big_quiet_want; (first
                | (with_reducible refine quiet_u64 (o := ⟨some 24, .load 22 (.tmp 23), _, _, _, _⟩) (.tmp 23) rfl w.heap.size j rfl l1 _ c1 ?_)
                | (with_reducible refine quiet_u64 (o := ⟨some 27, .load 22 (.tmp 26), _, _, _, _⟩) (.tmp 26) rfl (w.heap.size + 1) j rfl l2 _ c2 ?_)); simp only [Act.put, List.setIfInBounds_toArray, List.set_cons_succ, List.set_cons_zero]; go_big_quiet_on)
            | (go_big_quiet_want; go_big_quiet_op; first | go_big_quiet_on | ((with_reducible refine ⟨_, fun _ _ => rfl, ?_⟩); go_big_quiet_on)))
          refine wpQuiet_nil ?_
          intro w2 B
          have gb := gb.trans (B.mono gb.size)
          have g1 := g1.below B l1
          have g2 := g2.below B l2
          clear l1 l2 c1 c2
          have l1 := g1.lt
          have l2 := g2.lt
          have c1 := sc_cell g1 j hj
          have c2 := sc_cell g2 j hj
          rw [HEX.out] at c1
          rw [HEY.out] at c2
          go_upto_region 11 with (fail)
          refine wp_region_below_lit w2.heap.size w2 (Below.refl _ _) (by kernel_rfl) (by kernel_rfl) ?_
          repeat (first
            | go_big_quiet_skip
            | (go_big_quiet_want; (first
                | (with_reducible refine quiet_u64 (o := ⟨some 31, .load 22 (.tmp 30), _, _, _, _⟩) (.tmp 30) rfl w.heap.size j rfl l1 _ c1 ?_)
                | (with_reducible refine quiet_u64 (o := ⟨some 34, .load 22 (.tmp 33), _, _, _, _⟩) (.tmp 33) rfl (w.heap.size + 1) j rfl l2 _ c2 ?_)); simp only [Act.put, List.setIfInBounds_toArray, List.set_cons_succ, List.set_cons_zero]; go_big_quiet_on)
            | (go_big_quiet_want; go_big_quiet_op; first | go_big_quiet_on | ((with_reducible refine ⟨_, fun _ _ => rfl, ?_⟩); go_big_quiet_on)))
          refine wpQuiet_nil ?_
          intro w3 B
          have gb := gb.trans (B.mono gb.size)
          have g1 := g1.below B l1
          have g2 := g2.below B l2
          rw [hv] at Hr
          clear hv
          go_wp2
          go_ret
          exact ⟨ret_int Hr.out.symm, gb⟩
        · rw [v] at c1
          have HEX := Lib.hid (HEX.out.trans v)
          clear v
          go_upto_region 9 with (fail)
          refine wp_region_below_lit wr.heap.size wr (Below.refl _ _) (by kernel_rfl) (by kernel_rfl) ?_
          repeat (first
            | go_big_quiet_skip
            | (go_big_quiet_want; (first
                | (with_reducible refine quiet_u64 (o := ⟨some 24, .load 22 (.tmp 23), _, _, _, _⟩) (.tmp 23) rfl w.heap.size j rfl l1 _ c1 ?_)
                | (with_reducible refine quiet_u64 (o := ⟨some 27, .load 22 (.tmp 26), _, _, _, _⟩) (.tmp 26) rfl (w.heap.size + 1) j rfl l2 _ c2 ?_)); simp only [Act.put, List.setIfInBounds_toArray, List.set_cons_succ, List.set_cons_zero]; go_big_quiet_on)
            | (go_big_quiet_want; go_big_quiet_op; first | go_big_quiet_on | ((with_reducible refine ⟨_, fun _ _ => rfl, ?_⟩); go_big_quiet_on)))
          refine wpQuiet_nil ?_
          intro w2 B
          have gb := gb.trans (B.mono gb.size)
          have g1 := g1.below B l1
          have g2 := g2.below B l2
          clear l1 l2 c1 c2
          have l1 := g1.lt
          have l2 := g2.lt
          have c1 := sc_cell g1 j hj
          have c2 := sc_cell g2 j hj
          rw [HEX.out] at c1
          rw [HEY.out] at c2
          go_upto_region 11 with (fail)
          refine wp_region_below_lit w2.heap.size w2 (Below.refl _ _) (by kernel_rfl) (by kernel_rfl) ?_
          repeat (first
            | go_big_quiet_skip
            | (go_big_quiet_want; (first
                | (with_reducible refine quiet_u64 (o := ⟨some 31, .load 22 (.tmp 30), _, _, _, _⟩) (.tmp 30) rfl w.heap.size j rfl l1 _ c1 ?_)
                | (with_reducible refine quiet_u64 (o := ⟨some 34, .load 22 (.tmp 33), _, _, _, _⟩) (.tmp 33) rfl (w.heap.size + 1) j rfl l2 _ c2 ?_)); simp only [Act.put, List.setIfInBounds_toArray, List.set_cons_succ, List.set_cons_zero]; go_big_quiet_on)
            | (go_big_quiet_want; go_big_quiet_op; first | go_big_quiet_on | ((with_reducible refine ⟨_, fun _ _ => rfl, ?_⟩); go_big_quiet_on)))
          refine wpQuiet_nil ?_
          intro w3 B
          have gb := gb.trans (B.mono gb.size)
          have g1 := g1.below B l1
          have g2 := g2.below B l2
          go_wp2
          go_roundw
          case rel => exact ⟨j, by omega, by go_num, hv, g1, g2, gb⟩
          case measure => simp [intOf]
end Go.Proofs.Ytiiccjnfggojmaa

/-
  WALKS, 12: the reference: Mul, the walk.
-/
import Derived.Test.YtiiccjnfggojmaaW11
namespace Go.Proofs.Ytiiccjnfggojmaa
open Go.RowKit Wd

theorem sc_zero : #[.int .u64 0, .int .u64 0, .int .u64 0, .int .u64 0, .int .u64 0, .int .u64 0] = sc (ofI 0) := sc_of 0 (by decide) (by decide) 0 0 (by decide) (by decide)
theorem two_new (w : World) : Blk ((w.alloc (.cells #[.int .u64 0, .int .u64 0, .int .u64 0, .int .u64 0, .int .u64 0, .int .u64 0] 52)).alloc (.cells #[.int .u64 0, .int .u64 0, .int .u64 0, .int .u64 0, .int .u64 0, .int .u64 0] 52)) w.heap.size 52 #[.int .u64 0, .int .u64 0, .int .u64 0, .int .u64 0, .int .u64 0, .int .u64 0] ∧ Blk ((w.alloc (.cells #[.int .u64 0, .int .u64 0, .int .u64 0, .int .u64 0, .int .u64 0, .int .u64 0] 52)).alloc (.cells #[.int .u64 0, .int .u64 0, .int .u64 0, .int .u64 0, .int .u64 0, .int .u64 0] 52)) (w.heap.size + 1) 52 #[.int .u64 0, .int .u64 0, .int .u64 0, .int .u64 0, .int .u64 0, .int .u64 0] := by
  refine ⟨(Blk.new _ _ _).alloc _, ?_⟩
  have h := Blk.new (w.alloc (.cells #[.int .u64 0, .int .u64 0, .int .u64 0, .int .u64 0, .int .u64 0, .int .u64 0] 52)) 52 #[.int .u64 0, .int .u64 0, .int .u64 0, .int .u64 0, .int .u64 0, .int .u64 0]
  simpa using h
theorem rneg_of (n : Int) (w : World) : Calls Try.prog 34 #[.agg (sc (ofI n))] w fun e w' => e = .returned (.agg (sc (ofI (-n)))) ∧ Below w.heap.size w w' := by
  have c := rneg_any (ofI n) w
  rw [ofI_neg] at c
  exact c
def St (w : World) (g5 g7 : Nat) (A B x0 x1 y0 y1 : Int) (wr : World) (i k : Nat) : Prop :=
  Blk wr w.heap.size 52 #[.int .u64 0, .int .u64 0, .int .u64 0, .int .u64 0, .int .u64 0, .int .u64 0] ∧ Blk wr g5 52 (sc (ofI A)) ∧ Blk wr (g5 + 1) 52 (sc (ofI B)) ∧ Blk wr g7 52 (sc (ofI (rm x0 x1 y0 y1 i k))) ∧ Below w.heap.size w wr
set_option maxRecDepth 100000 in
set_option maxHeartbeats 4000000 in
theorem rmul_any (a b : Int) (w : World) (ha : In64 a) (hb : In64 b) :
    Calls Try.prog 32 #[.int .i64 a, .int .i64 b] w fun e w' => e = .returned (.agg (sc (ofI (a * b)))) ∧ Below w.heap.size w w' := by
  obtain ⟨ha1, ha2⟩ := ha
  obtain ⟨hb1, hb2⟩ := hb
  have n4 := Blk.new w 52 #[.int .u64 0, .int .u64 0, .int .u64 0, .int .u64 0, .int .u64 0, .int .u64 0]
  go_enter Try.func32, Try.ntmps32
  go_upto_region 2 with (first
    | (go_at_call 42; with_reducible refine (rsix_any a _ ha1 ha2).mono ?_; rintro e w1 ⟨rfl, b1⟩)
    | (go_at_call 42; with_reducible refine (rsix_any b _ hb1 hb2).mono ?_; rintro e w2 ⟨rfl, b2⟩)
    | (with_reducible refine wpList_store_row (o := ⟨none, .store 52 (.tmp 5) (.tmp 13), _, _, _, _⟩) rfl 52 (.tmp 5) (.tmp 13) rfl w2.heap.size (sc (ofI a)) rfl rfl _ _ (two_new w2).1.eq (sc_info _) rfl (sc_all _) ?_)
    | (with_reducible refine wpList_store_row (o := ⟨none, .store 52 (.tmp 6) (.tmp 15), _, _, _, _⟩) rfl 52 (.tmp 6) (.tmp 15) rfl (w2.heap.size + 1) (sc (ofI b)) rfl rfl _ _ ((two_new w2).2.rowFar (by omega) (sc (ofI a))).eq (sc_info _) rfl (sc_all _) ?_))
  obtain ⟨W1, hW1⟩ : ∃ W1, W1 = (((w2.alloc (.cells #[.int .u64 0, .int .u64 0, .int .u64 0, .int .u64 0, .int .u64 0, .int .u64 0] 52)).alloc (.cells #[.int .u64 0, .int .u64 0, .int .u64 0, .int .u64 0, .int .u64 0, .int .u64 0] 52)).setRow w2.heap.size (sc (ofI a))).setRow (w2.heap.size + 1) (sc (ofI b)) := ⟨_, rfl⟩
  rw [← hW1, put_none]
  have z1 := b1.size
  have z2 := b2.size
  simp at z1
  have B2 : Below w.heap.size w w2 := (((Below.refl _ _).alloc (Nat.le_refl _) (.cells #[.int .u64 0, .int .u64 0, .int .u64 0, .int .u64 0, .int .u64 0, .int .u64 0] 52)).trans (b1.mono (by simp))).trans (b2.mono (by omega))
  have m4 : Blk w2 w.heap.size 52 #[.int .u64 0, .int .u64 0, .int .u64 0, .int .u64 0, .int .u64 0, .int .u64 0] := (n4.below b1 (by simp)).below b2 (by omega)
  have F4 : Blk W1 w.heap.size 52 #[.int .u64 0, .int .u64 0, .int .u64 0, .int .u64 0, .int .u64 0, .int .u64 0] := by rw [hW1]; exact (((m4.alloc _).alloc _).rowFar (by omega) _).rowFar (by omega) _
  have F5 : Blk W1 w2.heap.size 52 (sc (ofI a)) := by rw [hW1]; exact ((two_new w2).1.row _).rowFar (by omega) _
  have F6 : Blk W1 (w2.heap.size + 1) 52 (sc (ofI b)) := by rw [hW1]; exact ((two_new w2).2.rowFar (by omega) _).row _
  have GB : Below w.heap.size w W1 := by rw [hW1]; exact below_setRow (below_setRow ((B2.alloc (by omega) _).alloc (by simp; omega) _) (by omega) _) (by omega) _
  obtain ⟨g5, hg5⟩ : ∃ g, g = w2.heap.size := ⟨_, rfl⟩
  have hg : w.heap.size < g5 := by omega
  rw [← hg5] at F5 F6
  rw [← hg5]
  clear hW1 hg5 z1 z2 b1 b2 B2 m4 n4
  rw [put_none]
  obtain ⟨A, hA⟩ : ∃ A, A = (if a < 0 then -a else a) := ⟨_, rfl⟩
  obtain ⟨B, hB⟩ : ∃ B, B = (if b < 0 then -b else b) := ⟨_, rfl⟩
  have A0 : 0 ≤ A ∧ A < 18446744073709551616 := by rw [hA]; split <;> omega
  have B0 : 0 ≤ B ∧ B < 18446744073709551616 := by rw [hB]; split <;> omega
  have wayA : (decide (a < 0) = true ∧ -a = A) ∨ (decide (a < 0) = false ∧ a = A) := by
    by_cases s : a < 0
    · left; rw [if_pos s] at hA; exact ⟨decide_eq_true s, hA.symm⟩
    · right; rw [if_neg s] at hA; exact ⟨decide_eq_false s, hA.symm⟩
  have wayB : (decide (b < 0) = true ∧ -b = B) ∨ (decide (b < 0) = false ∧ b = B) := by
    by_cases s : b < 0
    · left; rw [if_pos s] at hB; exact ⟨decide_eq_true s, hB.symm⟩
    · right; rw [if_neg s] at hB; exact ⟨decide_eq_false s, hB.symm⟩
  clear hA hB ha1 ha2 hb1 hb2
  rcases wayA with ⟨ea, eA⟩ | ⟨ea, eA⟩
  case' inl =>
    have EA := Lib.hid eA
    clear eA
    go_upto_region 4 with (first
      | (with_reducible refine wpList_load_at (o := ⟨some 18, .load 52 (.tmp 5), _, _, _, _⟩) rfl 52 (.tmp 5) rfl g5 0 rfl (sc (ofI a)) _ F5.range Try.underlying52 rfl (sc_info _) ?_)
      | (go_at_call 34; with_reducible refine (rneg_of a _).mono ?_; rintro e w3 ⟨rfl, b3⟩; have H5 := F5.below b3 F5.lt; have H4 := F4.below b3 F4.lt; have H6 := F6.below b3 F6.lt; have HB := GB.trans (b3.mono GB.size))
      | (with_reducible refine wpList_store_row (o := ⟨none, .store 52 (.tmp 5) (.tmp 19), _, _, _, _⟩) rfl 52 (.tmp 5) (.tmp 19) rfl g5 (sc (ofI (-a))) rfl rfl _ _ H5.eq (sc_info _) rfl (sc_all _) ?_))
    obtain ⟨W2, hW2⟩ : ∃ W2, W2 = w3.setRow g5 (sc (ofI (-a))) := ⟨_, rfl⟩
    rw [← hW2]
    try rw [put_none]
    have G4 := H4.rowFar (g' := g5) (by omega) (sc (ofI (-a)))
    have G5 := H5.row (sc (ofI (-a)))
    have G6 := H6.rowFar (g' := g5) (by omega) (sc (ofI (-a)))
    have G := below_setRow HB (Nat.le_of_lt hg) (sc (ofI (-a)))
    rw [← hW2] at G4 G5 G6 G
    have E1 : a = -A := by have := EA.out; omega
    rw [EA.out] at G5
    clear hW2 F4 F5 F6 GB H4 H5 H6 HB b3 EA
  case' inr =>
    go_upto_region 4 with (fail)
    obtain ⟨W2, hW2⟩ : ∃ W2, W2 = W1 := ⟨_, rfl⟩
    rw [← hW2]
    try rw [put_none]
    have G4 := F4
    have G5 := F5
    have G6 := F6
    have G := GB
    rw [← hW2] at G4 G5 G6 G
    have E1 : a = A := eA
    rw [eA] at G5
    clear hW2 F4 F5 F6 GB eA
  all_goals
    have HE1 := Lib.hid E1
    clear E1
    rcases wayB with ⟨eb, eB⟩ | ⟨eb, eB⟩
    case' inl =>
      have EB := Lib.hid eB
      clear eB
      go_upto_region 6 with (first
        | (with_reducible refine wpList_load_at (o := ⟨some 22, .load 52 (.tmp 6), _, _, _, _⟩) rfl 52 (.tmp 6) rfl (g5 + 1) 0 rfl (sc (ofI b)) _ G6.range Try.underlying52 rfl (sc_info _) ?_)
        | (go_at_call 34; with_reducible refine (rneg_of b _).mono ?_; rintro e w4 ⟨rfl, b4⟩; have H5 := G5.below b4 G5.lt; have H4 := G4.below b4 G4.lt; have H6 := G6.below b4 G6.lt; have HB := G.trans (b4.mono G.size))
        | (with_reducible refine wpList_store_row (o := ⟨none, .store 52 (.tmp 6) (.tmp 23), _, _, _, _⟩) rfl 52 (.tmp 6) (.tmp 23) rfl (g5 + 1) (sc (ofI (-b))) rfl rfl _ _ H6.eq (sc_info _) rfl (sc_all _) ?_))
      obtain ⟨W3, hW3⟩ : ∃ W3, W3 = w4.setRow (g5 + 1) (sc (ofI (-b))) := ⟨_, rfl⟩
      rw [← hW3]
      try rw [put_none]
      have K4 := H4.rowFar (g' := g5 + 1) (by omega) (sc (ofI (-b)))
      have K5 := H5.rowFar (g' := g5 + 1) (by omega) (sc (ofI (-b)))
      have K6 := H6.row (sc (ofI (-b)))
      have K := below_setRow HB (g := g5 + 1) (by omega) (sc (ofI (-b)))
      rw [← hW3] at K4 K5 K6 K
      have E2 : b = -B := by have := EB.out; omega
      rw [EB.out] at K6
      clear hW3 G4 G5 G6 G H4 H5 H6 HB b4 EB
    case' inr =>
      go_upto_region 6 with (fail)
      obtain ⟨W3, hW3⟩ : ∃ W3, W3 = W2 := ⟨_, rfl⟩
      rw [← hW3]
      try rw [put_none]
      have K4 := G4
      have K5 := G5
      have K6 := G6
      have K := G
      rw [← hW3] at K4 K5 K6 K
      have E2 : b = B := eB
      rw [eB] at K6
      clear hW3 G4 G5 G6 G eB
    all_goals
      have HE2 := Lib.hid E2
      clear E2
      obtain ⟨x0, hx0⟩ : ∃ x, x = dg (ofI A) 0 := ⟨_, rfl⟩
      obtain ⟨x1, hx1⟩ : ∃ x, x = dg (ofI A) 1 := ⟨_, rfl⟩
      obtain ⟨y0, hy0⟩ : ∃ x, x = dg (ofI B) 0 := ⟨_, rfl⟩
      obtain ⟨y1, hy1⟩ : ∃ x, x = dg (ofI B) 1 := ⟨_, rfl⟩
      have cA : x0 + 4294967296 * x1 = A := by rw [hx0, hx1, (dg_small A A0.1 A0.2).1, (dg_small A A0.1 A0.2).2]; omega
      have cB : y0 + 4294967296 * y1 = B := by rw [hy0, hy1, (dg_small B B0.1 B0.2).1, (dg_small B B0.1 B0.2).2]; omega
      have bx0 := dg_lo (ofI A) 0
      have bx1 := dg_hi (ofI A) 0
      have bx2 := dg_lo (ofI A) 1
      have bx3 := dg_hi (ofI A) 1
      have by0 := dg_lo (ofI B) 0
      have by1 := dg_hi (ofI B) 0
      have by2 := dg_lo (ofI B) 1
      have by3 := dg_hi (ofI B) 1
      rw [← hx0] at bx0 bx1
      rw [← hx1] at bx2 bx3
      rw [← hy0] at by0 by1
      rw [← hy1] at by2 by3
      have Q : Hid (x0 = dg (ofI A) 0 ∧ x1 = dg (ofI A) 1 ∧ y0 = dg (ofI B) 0 ∧ y1 = dg (ofI B) 1 ∧ x0 + 4294967296 * x1 = A ∧ y0 + 4294967296 * y1 = B) := Lib.hid ⟨hx0, hx1, hy0, hy1, cA, cB⟩
      have P00 := prod_small x0 y0 bx0 bx1 by0 by1
      have P01 := prod_small x0 y1 bx0 bx1 by2 by3
      have P10 := prod_small x1 y0 bx2 bx3 by0 by1
      have P11 := prod_small x1 y1 bx2 bx3 by2 by3
      have HP : Hid ((0 ≤ x0 * y0 ∧ x0 * y0 < 18446744073709551616) ∧ (0 ≤ x0 * y1 ∧ x0 * y1 < 18446744073709551616) ∧ (0 ≤ x1 * y0 ∧ x1 * y0 < 18446744073709551616) ∧ (0 ≤ x1 * y1 ∧ x1 * y1 < 18446744073709551616)) := Lib.hid ⟨P00, P01, P10, P11⟩
      clear hx0 hx1 hy0 hy1 cA cB bx0 bx1 bx2 bx3 by0 by1 by2 by3 P00 P01 P10 P11 A0 B0
      go_upto_region 7 with (fail)
      obtain ⟨g7, hg7⟩ : ∃ g, g = W3.heap.size := ⟨_, rfl⟩
      have st0 : St w g5 g7 A B x0 x1 y0 y1 (W3.alloc (.cells #[.int .u64 0, .int .u64 0, .int .u64 0, .int .u64 0, .int .u64 0, .int .u64 0] 52)) 0 0 := by
        rw [hg7]
        exact ⟨K4.alloc _, K5.alloc _, K6.alloc _, by rw [rm_start, ← sc_zero]; exact Blk.new _ _ _, K.alloc K.size _⟩
      have hg75 : g5 + 1 < g7 := by rw [hg7]; exact K6.lt
      rw [← hg7]
      clear hg7 K4 K5 K6 K
      go_wp2
      go_loopw [8, 9, 10, 11] (fun i _ _ _ wr => ∃ k : Nat, k ≤ 2 ∧ i = .int .i64 k ∧ St w g5 g7 A B x0 x1 y0 y1 wr k 0) (fun i _ _ _ _ => 2 - (intOf i).toNat)
      case atStart => exact ⟨0, by omega, rfl, st0⟩
      case round =>
        clear st0
        obtain ⟨i, hi, rfl, hst⟩ := hrel
        by_cases hi2 : i < 2
        · have hrow := rm_row x0 x1 y0 y1 i hi2
          have Hrow := Lib.hid hrow
          clear hrow
          obtain rfl | rfl : i = 0 ∨ i = 1 := by omega
          · rw [show (((0 : Nat)) : Int) = 0 from rfl]
            go_wp2
            go_loopw [9, 10, 11] (fun k _ _ wr => ∃ kk : Nat, kk ≤ 2 ∧ k = .int .i64 kk ∧ St w g5 g7 A B x0 x1 y0 y1 wr 0 kk) (fun k _ _ _ => 2 - (intOf k).toNat)
            case atStart => exact ⟨0, by omega, rfl, hst⟩
            case round =>
              clear hst
              obtain ⟨k, hk, rfl, hst⟩ := hrel
              by_cases hk2 : k < 2
              · obtain rfl | rfl : k = 0 ∨ k = 1 := by omega
                · rw [show (((0 : Nat)) : Int) = 0 from rfl]
                  obtain ⟨s4, s5, s6, s7, sB⟩ := hst
                  have l5 := s5.lt
                  have l6 := s6.lt
                  have l7 := s7.lt
                  have c5 := sc_cell s5 0 (by omega)
                  rw [← Q.out.1] at c5
                  have c6 := sc_cell s6 0 (by omega)
                  rw [← Q.out.2.2.1] at c6
                  obtain ⟨p, hp⟩ : ∃ p, p = x0 * y0 := ⟨_, rfl⟩
                  have hb : 0 ≤ p ∧ p < 18446744073709551616 := by rw [hp]; exact HP.out.1
                  obtain ⟨hb0, hb1⟩ := hb
                  have wp : IntKind.u64.wrap (x0 * y0) = p := by rw [← hp]; exact small_wrap _ hb0 hb1
                  have t1 : p.tmod 4294967296 = p % 4294967296 := Int.tmod_eq_emod_of_nonneg hb0
                  have t2 : p.tdiv 4294967296 = p / 4294967296 := Int.tdiv_eq_ediv_of_nonneg hb0
                  have t3 : IntKind.u64.wrap (p / 4294967296) = p / 4294967296 := small_wrap _ (by omega) (by omega)
                  have t4 : IntKind.u64.wrap (p % 4294967296) = p % 4294967296 := small_wrap _ (by omega) (by omega)
                  have hstep : rm x0 x1 y0 y1 0 0 + p * 4294967296 ^ 0 = rm x0 x1 y0 y1 0 (0 + 1) := by rw [hp]; exact rm_step x0 x1 y0 y1 0 0 (by omega) (by omega)
                  have hone := one_sc p hb0 hb1 0 (by omega)
                  obtain ⟨pw, hpw⟩ : ∃ z, z = p * 4294967296 ^ 0 := ⟨_, rfl⟩
                  obtain ⟨R, hR⟩ : ∃ z, z = rm x0 x1 y0 y1 0 0 := ⟨_, rfl⟩
                  rw [← hpw] at hstep hone
                  rw [← hR] at hstep s7
                  clear hpw hR
                  have HS := Lib.hid hstep
                  have HO := Lib.hid hone
                  clear hp hstep hone hb0 hb1
                  go_upto_region 13 with (fail)
                  refine wp_region_below_lit wr.heap.size wr (Below.refl _ _) (by kernel_rfl) (by kernel_rfl) ?_
                  repeat (first
                    | go_big_quiet_skip
                    | (go_big_quiet_want; (first
                        | (with_reducible refine quiet_u64 (o := ⟨some 34, .load 22 (.tmp 33), _, _, _, _⟩) (.tmp 33) rfl g5 0 rfl l5 _ c5 ?_)
                        | (with_reducible refine quiet_u64 (o := ⟨some 37, .load 22 (.tmp 36), _, _, _, _⟩) (.tmp 36) rfl (g5 + 1) 0 rfl l6 _ c6 ?_)); simp only [Act.put, List.setIfInBounds_toArray, List.set_cons_succ, List.set_cons_zero]; go_big_quiet_on)
                    | (go_big_quiet_want; go_big_quiet_op; first | go_big_quiet_on | ((with_reducible refine ⟨_, fun _ _ => rfl, ?_⟩); go_big_quiet_on)))
                  refine wpQuiet_nil ?_
                  intro w5 B5
                  have r4 := s4.below B5 s4.lt
                  have r5 := s5.below B5 l5
                  have r6 := s6.below B5 l6
                  have r7 := s7.below B5 l7
                  have rB := sB.trans (B5.mono sB.size)
                  clear s4 s5 s6 s7 sB B5 c5 c6 l5 l6 l7
                  go_upto_region 17 with (fail)
                  rw [show #[.int .u64 (p % 4294967296), .int .u64 (p / 4294967296), .int .u64 0, .int .u64 0, .int .u64 0, .int .u64 0] = sc (ofI (pw)) from HO.out]
                  obtain ⟨w6, hw6⟩ : ∃ w6, w6 = w5.alloc (.cells (sc (ofI (pw))) 52) := ⟨_, rfl⟩
                  obtain ⟨g11, hg11⟩ : ∃ g, g = w5.heap.size := ⟨_, rfl⟩
                  rw [← hw6, ← hg11]
                  try rw [put_none]
                  have v4 : Blk w6 w.heap.size 52 #[.int .u64 0, .int .u64 0, .int .u64 0, .int .u64 0, .int .u64 0, .int .u64 0] := by rw [hw6]; exact r4.alloc _
                  have v5 : Blk w6 g5 52 (sc (ofI A)) := by rw [hw6]; exact r5.alloc _
                  have v6 : Blk w6 (g5 + 1) 52 (sc (ofI B)) := by rw [hw6]; exact r6.alloc _
                  have v7 : Blk w6 g7 52 (sc (ofI (R))) := by rw [hw6]; exact r7.alloc _
                  have v11 : Blk w6 g11 52 (sc (ofI (pw))) := by rw [hw6, hg11]; exact Blk.new _ _ _
                  have vB : Below w.heap.size w w6 := by rw [hw6]; exact rB.alloc rB.size _
                  clear hw6 hg11 r4 r5 r6 r7 rB wp t1 t2 t3 t4
                  go_wp2_with (first
                    | (with_reducible refine wpList_load_at (o := ⟨some 52, .load 52 (.tmp 7), _, _, _, _⟩) rfl 52 (.tmp 7) rfl g7 0 rfl (sc (ofI (R))) _ v7.range Try.underlying52 rfl (sc_info _) ?_)
                    | (with_reducible refine wpList_load_at (o := ⟨some 53, .load 52 (.tmp 11), _, _, _, _⟩) rfl 52 (.tmp 11) rfl g11 0 rfl (sc (ofI (pw))) _ v11.range Try.underlying52 rfl (sc_info _) ?_)
                    | (go_at_call 33; with_reducible refine (radd_any (ofI (R)) (ofI (pw)) _).mono ?_; rintro e w7 ⟨rfl, b7⟩; have u4 := v4.below b7 v4.lt; have u5 := v5.below b7 v5.lt; have u6 := v6.below b7 v6.lt; have u7 := v7.below b7 v7.lt; have uB := vB.trans (b7.mono vB.size))
                    | (with_reducible refine wpList_store_row (o := ⟨none, .store 52 (.tmp 7) (.tmp 54), _, _, _, _⟩) rfl 52 (.tmp 7) (.tmp 54) rfl g7 (sc (ofI (R) + ofI (pw))) rfl rfl _ _ u7.eq (sc_info _) rfl (sc_all _) ?_))
                  go_roundw
                  case rel =>
                    refine ⟨0 + 1, by omega, by go_num, u4.rowFar (by omega) _, u5.rowFar (by omega) _, u6.rowFar (by omega) _, ?_, below_setRow uB (by omega) _⟩
                    rw [← HS.out, ← ofI_add]
                    exact u7.row _
                  case measure => simp [intOf]
                · rw [show (((1 : Nat)) : Int) = 1 from rfl]
                  obtain ⟨s4, s5, s6, s7, sB⟩ := hst
                  have l5 := s5.lt
                  have l6 := s6.lt
                  have l7 := s7.lt
                  have c5 := sc_cell s5 0 (by omega)
                  rw [← Q.out.1] at c5
                  have c6 := sc_cell s6 1 (by omega)
                  rw [← Q.out.2.2.2.1] at c6
                  obtain ⟨p, hp⟩ : ∃ p, p = x0 * y1 := ⟨_, rfl⟩
                  have hb : 0 ≤ p ∧ p < 18446744073709551616 := by rw [hp]; exact HP.out.2.1
                  obtain ⟨hb0, hb1⟩ := hb
                  have wp : IntKind.u64.wrap (x0 * y1) = p := by rw [← hp]; exact small_wrap _ hb0 hb1
                  have t1 : p.tmod 4294967296 = p % 4294967296 := Int.tmod_eq_emod_of_nonneg hb0
                  have t2 : p.tdiv 4294967296 = p / 4294967296 := Int.tdiv_eq_ediv_of_nonneg hb0
                  have t3 : IntKind.u64.wrap (p / 4294967296) = p / 4294967296 := small_wrap _ (by omega) (by omega)
                  have t4 : IntKind.u64.wrap (p % 4294967296) = p % 4294967296 := small_wrap _ (by omega) (by omega)
                  have hstep : rm x0 x1 y0 y1 0 1 + p * 4294967296 ^ 1 = rm x0 x1 y0 y1 0 (1 + 1) := by rw [hp]; exact rm_step x0 x1 y0 y1 0 1 (by omega) (by omega)
                  have hone := one_sc p hb0 hb1 1 (by omega)
                  obtain ⟨pw, hpw⟩ : ∃ z, z = p * 4294967296 ^ 1 := ⟨_, rfl⟩
                  obtain ⟨R, hR⟩ : ∃ z, z = rm x0 x1 y0 y1 0 1 := ⟨_, rfl⟩
                  rw [← hpw] at hstep hone
                  rw [← hR] at hstep s7
                  clear hpw hR
                  have HS := Lib.hid hstep
                  have HO := Lib.hid hone
                  clear hp hstep hone hb0 hb1
                  go_upto_region 13 with (fail)
                  refine wp_region_below_lit wr.heap.size wr (Below.refl _ _) (by kernel_rfl) (by kernel_rfl) ?_
                  repeat (first
                    | go_big_quiet_skip
                    | (go_big_quiet_want; (first
                        | (with_reducible refine quiet_u64 (o := ⟨some 34, .load 22 (.tmp 33), _, _, _, _⟩) (.tmp 33) rfl g5 0 rfl l5 _ c5 ?_)
                        | (with_reducible refine quiet_u64 (o := ⟨some 37, .load 22 (.tmp 36), _, _, _, _⟩) (.tmp 36) rfl (g5 + 1) 1 rfl l6 _ c6 ?_)); simp only [Act.put, List.setIfInBounds_toArray, List.set_cons_succ, List.set_cons_zero]; go_big_quiet_on)
                    | (go_big_quiet_want; go_big_quiet_op; first | go_big_quiet_on | ((with_reducible refine ⟨_, fun _ _ => rfl, ?_⟩); go_big_quiet_on)))
                  refine wpQuiet_nil ?_
                  intro w5 B5
                  have r4 := s4.below B5 s4.lt
                  have r5 := s5.below B5 l5
                  have r6 := s6.below B5 l6
                  have r7 := s7.below B5 l7
                  have rB := sB.trans (B5.mono sB.size)
                  clear s4 s5 s6 s7 sB B5 c5 c6 l5 l6 l7
                  go_upto_region 17 with (fail)
                  rw [show #[.int .u64 0, .int .u64 (p % 4294967296), .int .u64 (p / 4294967296), .int .u64 0, .int .u64 0, .int .u64 0] = sc (ofI (pw)) from HO.out]
                  obtain ⟨w6, hw6⟩ : ∃ w6, w6 = w5.alloc (.cells (sc (ofI (pw))) 52) := ⟨_, rfl⟩
                  obtain ⟨g11, hg11⟩ : ∃ g, g = w5.heap.size := ⟨_, rfl⟩
                  rw [← hw6, ← hg11]
                  try rw [put_none]
                  have v4 : Blk w6 w.heap.size 52 #[.int .u64 0, .int .u64 0, .int .u64 0, .int .u64 0, .int .u64 0, .int .u64 0] := by rw [hw6]; exact r4.alloc _
                  have v5 : Blk w6 g5 52 (sc (ofI A)) := by rw [hw6]; exact r5.alloc _
                  have v6 : Blk w6 (g5 + 1) 52 (sc (ofI B)) := by rw [hw6]; exact r6.alloc _
                  have v7 : Blk w6 g7 52 (sc (ofI (R))) := by rw [hw6]; exact r7.alloc _
                  have v11 : Blk w6 g11 52 (sc (ofI (pw))) := by rw [hw6, hg11]; exact Blk.new _ _ _
                  have vB : Below w.heap.size w w6 := by rw [hw6]; exact rB.alloc rB.size _
                  clear hw6 hg11 r4 r5 r6 r7 rB wp t1 t2 t3 t4
                  go_wp2_with (first
                    | (with_reducible refine wpList_load_at (o := ⟨some 52, .load 52 (.tmp 7), _, _, _, _⟩) rfl 52 (.tmp 7) rfl g7 0 rfl (sc (ofI (R))) _ v7.range Try.underlying52 rfl (sc_info _) ?_)
                    | (with_reducible refine wpList_load_at (o := ⟨some 53, .load 52 (.tmp 11), _, _, _, _⟩) rfl 52 (.tmp 11) rfl g11 0 rfl (sc (ofI (pw))) _ v11.range Try.underlying52 rfl (sc_info _) ?_)
                    | (go_at_call 33; with_reducible refine (radd_any (ofI (R)) (ofI (pw)) _).mono ?_; rintro e w7 ⟨rfl, b7⟩; have u4 := v4.below b7 v4.lt; have u5 := v5.below b7 v5.lt; have u6 := v6.below b7 v6.lt; have u7 := v7.below b7 v7.lt; have uB := vB.trans (b7.mono vB.size))
                    | (with_reducible refine wpList_store_row (o := ⟨none, .store 52 (.tmp 7) (.tmp 54), _, _, _, _⟩) rfl 52 (.tmp 7) (.tmp 54) rfl g7 (sc (ofI (R) + ofI (pw))) rfl rfl _ _ u7.eq (sc_info _) rfl (sc_all _) ?_))
                  go_roundw
                  case rel =>
                    refine ⟨1 + 1, by omega, by go_num, u4.rowFar (by omega) _, u5.rowFar (by omega) _, u6.rowFar (by omega) _, ?_, below_setRow uB (by omega) _⟩
                    rw [← HS.out, ← ofI_add]
                    exact u7.row _
                  case measure => simp [intOf]
              · have e2 : k = 2 := by omega
                rw [e2] at hst
                have hst : St w g5 g7 A B x0 x1 y0 y1 wr (0 + 1) 0 := by unfold St at hst ⊢; rw [← Hrow.out]; exact hst
                clear e2
                go_wp2
                go_roundw
                case rel => exact ⟨0 + 1, by omega, by go_num, hst⟩
                case measure => simp [intOf]
          · rw [show (((1 : Nat)) : Int) = 1 from rfl]
            go_wp2
            go_loopw [9, 10, 11] (fun k _ _ wr => ∃ kk : Nat, kk ≤ 2 ∧ k = .int .i64 kk ∧ St w g5 g7 A B x0 x1 y0 y1 wr 1 kk) (fun k _ _ _ => 2 - (intOf k).toNat)
            case atStart => exact ⟨0, by omega, rfl, hst⟩
            case round =>
              clear hst
              obtain ⟨k, hk, rfl, hst⟩ := hrel
              by_cases hk2 : k < 2
              · obtain rfl | rfl : k = 0 ∨ k = 1 := by omega
                · rw [show (((0 : Nat)) : Int) = 0 from rfl]
                  obtain ⟨s4, s5, s6, s7, sB⟩ := hst
                  have l5 := s5.lt
                  have l6 := s6.lt
                  have l7 := s7.lt
                  have c5 := sc_cell s5 1 (by omega)
                  rw [← Q.out.2.1] at c5
                  have c6 := sc_cell s6 0 (by omega)
                  rw [← Q.out.2.2.1] at c6
                  obtain ⟨p, hp⟩ : ∃ p, p = x1 * y0 := ⟨_, rfl⟩
                  have hb : 0 ≤ p ∧ p < 18446744073709551616 := by rw [hp]; exact HP.out.2.2.1
                  obtain ⟨hb0, hb1⟩ := hb
                  have wp : IntKind.u64.wrap (x1 * y0) = p := by rw [← hp]; exact small_wrap _ hb0 hb1
                  have t1 : p.tmod 4294967296 = p % 4294967296 := Int.tmod_eq_emod_of_nonneg hb0
                  have t2 : p.tdiv 4294967296 = p / 4294967296 := Int.tdiv_eq_ediv_of_nonneg hb0
                  have t3 : IntKind.u64.wrap (p / 4294967296) = p / 4294967296 := small_wrap _ (by omega) (by omega)
                  have t4 : IntKind.u64.wrap (p % 4294967296) = p % 4294967296 := small_wrap _ (by omega) (by omega)
                  have hstep : rm x0 x1 y0 y1 1 0 + p * 4294967296 ^ 1 = rm x0 x1 y0 y1 1 (0 + 1) := by rw [hp]; exact rm_step x0 x1 y0 y1 1 0 (by omega) (by omega)
                  have hone := one_sc p hb0 hb1 1 (by omega)
                  obtain ⟨pw, hpw⟩ : ∃ z, z = p * 4294967296 ^ 1 := ⟨_, rfl⟩
                  obtain ⟨R, hR⟩ : ∃ z, z = rm x0 x1 y0 y1 1 0 := ⟨_, rfl⟩
                  rw [← hpw] at hstep hone
                  rw [← hR] at hstep s7
                  clear hpw hR
                  have HS := Lib.hid hstep
                  have HO := Lib.hid hone
                  clear hp hstep hone hb0 hb1
                  go_upto_region 13 with (fail)
                  refine wp_region_below_lit wr.heap.size wr (Below.refl _ _) (by kernel_rfl) (by kernel_rfl) ?_
                  repeat (first
                    | go_big_quiet_skip
                    | (go_big_quiet_want; (first
                        | (with_reducible refine quiet_u64 (o := ⟨some 34, .load 22 (.tmp 33), _, _, _, _⟩) (.tmp 33) rfl g5 1 rfl l5 _ c5 ?_)
                        | (with_reducible refine quiet_u64 (o := ⟨some 37, .load 22 (.tmp 36), _, _, _, _⟩) (.tmp 36) rfl (g5 + 1) 0 rfl l6 _ c6 ?_)); simp only [Act.put, List.setIfInBounds_toArray, List.set_cons_succ, List.set_cons_zero]; go_big_quiet_on)
                    | (go_big_quiet_want; go_big_quiet_op; first | go_big_quiet_on | ((with_reducible refine ⟨_, fun _ _ => rfl, ?_⟩); go_big_quiet_on)))
                  refine wpQuiet_nil ?_
                  intro w5 B5
                  have r4 := s4.below B5 s4.lt
                  have r5 := s5.below B5 l5
                  have r6 := s6.below B5 l6
                  have r7 := s7.below B5 l7
                  have rB := sB.trans (B5.mono sB.size)
                  clear s4 s5 s6 s7 sB B5 c5 c6 l5 l6 l7
                  go_upto_region 17 with (fail)
                  rw [show #[.int .u64 0, .int .u64 (p % 4294967296), .int .u64 (p / 4294967296), .int .u64 0, .int .u64 0, .int .u64 0] = sc (ofI (pw)) from HO.out]
                  obtain ⟨w6, hw6⟩ : ∃ w6, w6 = w5.alloc (.cells (sc (ofI (pw))) 52) := ⟨_, rfl⟩
                  obtain ⟨g11, hg11⟩ : ∃ g, g = w5.heap.size := ⟨_, rfl⟩
                  rw [← hw6, ← hg11]
                  try rw [put_none]
                  have v4 : Blk w6 w.heap.size 52 #[.int .u64 0, .int .u64 0, .int .u64 0, .int .u64 0, .int .u64 0, .int .u64 0] := by rw [hw6]; exact r4.alloc _
                  have v5 : Blk w6 g5 52 (sc (ofI A)) := by rw [hw6]; exact r5.alloc _
                  have v6 : Blk w6 (g5 + 1) 52 (sc (ofI B)) := by rw [hw6]; exact r6.alloc _
                  have v7 : Blk w6 g7 52 (sc (ofI (R))) := by rw [hw6]; exact r7.alloc _
                  have v11 : Blk w6 g11 52 (sc (ofI (pw))) := by rw [hw6, hg11]; exact Blk.new _ _ _
                  have vB : Below w.heap.size w w6 := by rw [hw6]; exact rB.alloc rB.size _
                  clear hw6 hg11 r4 r5 r6 r7 rB wp t1 t2 t3 t4
                  go_wp2_with (first
                    | (with_reducible refine wpList_load_at (o := ⟨some 52, .load 52 (.tmp 7), _, _, _, _⟩) rfl 52 (.tmp 7) rfl g7 0 rfl (sc (ofI (R))) _ v7.range Try.underlying52 rfl (sc_info _) ?_)
                    | (with_reducible refine wpList_load_at (o := ⟨some 53, .load 52 (.tmp 11), _, _, _, _⟩) rfl 52 (.tmp 11) rfl g11 0 rfl (sc (ofI (pw))) _ v11.range Try.underlying52 rfl (sc_info _) ?_)
                    | (go_at_call 33; with_reducible refine (radd_any (ofI (R)) (ofI (pw)) _).mono ?_; rintro e w7 ⟨rfl, b7⟩; have u4 := v4.below b7 v4.lt; have u5 := v5.below b7 v5.lt; have u6 := v6.below b7 v6.lt; have u7 := v7.below b7 v7.lt; have uB := vB.trans (b7.mono vB.size))
                    | (with_reducible refine wpList_store_row (o := ⟨none, .store 52 (.tmp 7) (.tmp 54), _, _, _, _⟩) rfl 52 (.tmp 7) (.tmp 54) rfl g7 (sc (ofI (R) + ofI (pw))) rfl rfl _ _ u7.eq (sc_info _) rfl (sc_all _) ?_))
                  go_roundw
                  case rel =>
                    refine ⟨0 + 1, by omega, by go_num, u4.rowFar (by omega) _, u5.rowFar (by omega) _, u6.rowFar (by omega) _, ?_, below_setRow uB (by omega) _⟩
                    rw [← HS.out, ← ofI_add]
                    exact u7.row _
                  case measure => simp [intOf]
                · rw [show (((1 : Nat)) : Int) = 1 from rfl]
                  obtain ⟨s4, s5, s6, s7, sB⟩ := hst
                  have l5 := s5.lt
                  have l6 := s6.lt
                  have l7 := s7.lt
                  have c5 := sc_cell s5 1 (by omega)
                  rw [← Q.out.2.1] at c5
                  have c6 := sc_cell s6 1 (by omega)
                  rw [← Q.out.2.2.2.1] at c6
                  obtain ⟨p, hp⟩ : ∃ p, p = x1 * y1 := ⟨_, rfl⟩
                  have hb : 0 ≤ p ∧ p < 18446744073709551616 := by rw [hp]; exact HP.out.2.2.2
                  obtain ⟨hb0, hb1⟩ := hb
                  have wp : IntKind.u64.wrap (x1 * y1) = p := by rw [← hp]; exact small_wrap _ hb0 hb1
                  have t1 : p.tmod 4294967296 = p % 4294967296 := Int.tmod_eq_emod_of_nonneg hb0
                  have t2 : p.tdiv 4294967296 = p / 4294967296 := Int.tdiv_eq_ediv_of_nonneg hb0
                  have t3 : IntKind.u64.wrap (p / 4294967296) = p / 4294967296 := small_wrap _ (by omega) (by omega)
                  have t4 : IntKind.u64.wrap (p % 4294967296) = p % 4294967296 := small_wrap _ (by omega) (by omega)
                  have hstep : rm x0 x1 y0 y1 1 1 + p * 4294967296 ^ 2 = rm x0 x1 y0 y1 1 (1 + 1) := by rw [hp]; exact rm_step x0 x1 y0 y1 1 1 (by omega) (by omega)
                  have hone := one_sc p hb0 hb1 2 (by omega)
                  obtain ⟨pw, hpw⟩ : ∃ z, z = p * 4294967296 ^ 2 := ⟨_, rfl⟩
                  obtain ⟨R, hR⟩ : ∃ z, z = rm x0 x1 y0 y1 1 1 := ⟨_, rfl⟩
                  rw [← hpw] at hstep hone
                  rw [← hR] at hstep s7
                  clear hpw hR
                  have HS := Lib.hid hstep
                  have HO := Lib.hid hone
                  clear hp hstep hone hb0 hb1
                  go_upto_region 13 with (fail)
                  refine wp_region_below_lit wr.heap.size wr (Below.refl _ _) (by kernel_rfl) (by kernel_rfl) ?_
                  repeat (first
                    | go_big_quiet_skip
                    | (go_big_quiet_want; (first
                        | (with_reducible refine quiet_u64 (o := ⟨some 34, .load 22 (.tmp 33), _, _, _, _⟩) (.tmp 33) rfl g5 1 rfl l5 _ c5 ?_)
                        | (with_reducible refine quiet_u64 (o := ⟨some 37, .load 22 (.tmp 36), _, _, _, _⟩) (.tmp 36) rfl (g5 + 1) 1 rfl l6 _ c6 ?_)); simp only [Act.put, List.setIfInBounds_toArray, List.set_cons_succ, List.set_cons_zero]; go_big_quiet_on)
                    | (go_big_quiet_want; go_big_quiet_op; first | go_big_quiet_on | ((with_reducible refine ⟨_, fun _ _ => rfl, ?_⟩); go_big_quiet_on)))
                  refine wpQuiet_nil ?_
                  intro w5 B5
                  have r4 := s4.below B5 s4.lt
                  have r5 := s5.below B5 l5
                  have r6 := s6.below B5 l6
                  have r7 := s7.below B5 l7
                  have rB := sB.trans (B5.mono sB.size)
                  clear s4 s5 s6 s7 sB B5 c5 c6 l5 l6 l7
                  go_upto_region 17 with (fail)
                  rw [show #[.int .u64 0, .int .u64 0, .int .u64 (p % 4294967296), .int .u64 (p / 4294967296), .int .u64 0, .int .u64 0] = sc (ofI (pw)) from HO.out]
                  obtain ⟨w6, hw6⟩ : ∃ w6, w6 = w5.alloc (.cells (sc (ofI (pw))) 52) := ⟨_, rfl⟩
                  obtain ⟨g11, hg11⟩ : ∃ g, g = w5.heap.size := ⟨_, rfl⟩
                  rw [← hw6, ← hg11]
                  try rw [put_none]
                  have v4 : Blk w6 w.heap.size 52 #[.int .u64 0, .int .u64 0, .int .u64 0, .int .u64 0, .int .u64 0, .int .u64 0] := by rw [hw6]; exact r4.alloc _
                  have v5 : Blk w6 g5 52 (sc (ofI A)) := by rw [hw6]; exact r5.alloc _
                  have v6 : Blk w6 (g5 + 1) 52 (sc (ofI B)) := by rw [hw6]; exact r6.alloc _
                  have v7 : Blk w6 g7 52 (sc (ofI (R))) := by rw [hw6]; exact r7.alloc _
                  have v11 : Blk w6 g11 52 (sc (ofI (pw))) := by rw [hw6, hg11]; exact Blk.new _ _ _
                  have vB : Below w.heap.size w w6 := by rw [hw6]; exact rB.alloc rB.size _
                  clear hw6 hg11 r4 r5 r6 r7 rB wp t1 t2 t3 t4
                  go_wp2_with (first
                    | (with_reducible refine wpList_load_at (o := ⟨some 52, .load 52 (.tmp 7), _, _, _, _⟩) rfl 52 (.tmp 7) rfl g7 0 rfl (sc (ofI (R))) _ v7.range Try.underlying52 rfl (sc_info _) ?_)
                    | (with_reducible refine wpList_load_at (o := ⟨some 53, .load 52 (.tmp 11), _, _, _, _⟩) rfl 52 (.tmp 11) rfl g11 0 rfl (sc (ofI (pw))) _ v11.range Try.underlying52 rfl (sc_info _) ?_)
                    | (go_at_call 33; with_reducible refine (radd_any (ofI (R)) (ofI (pw)) _).mono ?_; rintro e w7 ⟨rfl, b7⟩; have u4 := v4.below b7 v4.lt; have u5 := v5.below b7 v5.lt; have u6 := v6.below b7 v6.lt; have u7 := v7.below b7 v7.lt; have uB := vB.trans (b7.mono vB.size))
                    | (with_reducible refine wpList_store_row (o := ⟨none, .store 52 (.tmp 7) (.tmp 54), _, _, _, _⟩) rfl 52 (.tmp 7) (.tmp 54) rfl g7 (sc (ofI (R) + ofI (pw))) rfl rfl _ _ u7.eq (sc_info _) rfl (sc_all _) ?_))
                  go_roundw
                  case rel =>
                    refine ⟨1 + 1, by omega, by go_num, u4.rowFar (by omega) _, u5.rowFar (by omega) _, u6.rowFar (by omega) _, ?_, below_setRow uB (by omega) _⟩
                    rw [← HS.out, ← ofI_add]
                    exact u7.row _
                  case measure => simp [intOf]
              · have e2 : k = 2 := by omega
                rw [e2] at hst
                have hst : St w g5 g7 A B x0 x1 y0 y1 wr (1 + 1) 0 := by unfold St at hst ⊢; rw [← Hrow.out]; exact hst
                clear e2
                go_wp2
                go_roundw
                case rel => exact ⟨1 + 1, by omega, by go_num, hst⟩
                case measure => simp [intOf]
        · have e2 : i = 2 := by omega
          rw [e2] at hst
          clear e2
          obtain ⟨s4, s5, s6, s7, sB⟩ := hst
          rw [rm_end, Q.out.2.2.2.2.1, Q.out.2.2.2.2.2] at s7
          have l4 := s4.lt
          have l7 := s7.lt
          go_wp2_with (first
            | (with_reducible refine wpList_load_at (o := ⟨some 60, .load 52 (.tmp 7), _, _, _, _⟩) rfl 52 (.tmp 7) rfl g7 0 rfl (sc (ofI (A * B))) _ s7.range Try.underlying52 rfl (sc_info _) ?_)
            | (with_reducible refine wpList_load_at (o := ⟨some 62, .load 52 (.tmp 7), _, _, _, _⟩) rfl 52 (.tmp 7) rfl g7 0 rfl (sc (ofI (A * B))) _ s7.range Try.underlying52 rfl (sc_info _) ?_)
            | (go_at_call 34; with_reducible refine (rneg_of (A * B) _).mono ?_; rintro e w8 ⟨rfl, b8⟩; have q4 := s4.below b8 l4; have qB := sB.trans (b8.mono sB.size))
            | (with_reducible refine wpList_store_row (o := ⟨none, .store 52 (.tmp 4) (.tmp 61), _, _, _, _⟩) rfl 52 (.tmp 4) (.tmp 61) rfl w.heap.size (sc (ofI (-(A * B)))) rfl rfl _ _ q4.eq (sc_info _) rfl (sc_all _) ?_)
            | (with_reducible refine wpList_store_row (o := ⟨none, .store 52 (.tmp 4) (.tmp 62), _, _, _, _⟩) rfl 52 (.tmp 4) (.tmp 62) rfl w.heap.size (sc (ofI (A * B))) rfl rfl _ _ s4.eq (sc_info _) rfl (sc_all _) ?_))
          have EE1 := HE1.out
          have EE2 := HE2.out
          first
            | exact end52 rfl w.heap.size 52 _ rfl (q4.row _) rfl rfl ⟨by rw [show a * b = -(A * B) by first | (rw [EE1, EE2]; done) | (rw [EE1, EE2]; grind)], below_setRow qB (Nat.le_refl _) _⟩
            | exact end52 rfl w.heap.size 52 _ rfl (s4.row _) rfl rfl ⟨by rw [show a * b = A * B by first | (rw [EE1, EE2]; done) | (rw [EE1, EE2]; grind)], below_setRow sB (Nat.le_refl _) _⟩
end Go.Proofs.Ytiiccjnfggojmaa

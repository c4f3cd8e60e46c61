/-
  WALKS, 7: the reference: digits; sums and negation by digits.
-/
import Derived.Test.YtiiccjnfggojmaaW6
namespace Go.Proofs.Ytiiccjnfggojmaa
open Go.RowKit Wd

/-- the first k digits, the others 0. -/
def sp (z : X) (k : Nat) : Array Value := #[.int .u64 (if 0 < k then dg z 0 else 0), .int .u64 (if 1 < k then dg z 1 else 0), .int .u64 (if 2 < k then dg z 2 else 0), .int .u64 (if 3 < k then dg z 3 else 0), .int .u64 (if 4 < k then dg z 4 else 0), .int .u64 (if 5 < k then dg z 5 else 0)]
theorem sp_zero (z : X) : sp z 0 = #[.int .u64 0, .int .u64 0, .int .u64 0, .int .u64 0, .int .u64 0, .int .u64 0] := rfl
theorem sp_six (z : X) : sp z 6 = sc z := rfl
theorem sp_set (z : X) (k : Nat) (hk : k < 6) : (sp z k).setIfInBounds k (.int .u64 (dg z k)) = sp z (k + 1) := by
  obtain rfl | rfl | rfl | rfl | rfl | rfl : k = 0 ∨ k = 1 ∨ k = 2 ∨ k = 3 ∨ k = 4 ∨ k = 5 := by omega
  all_goals rfl
theorem sp_size (z : X) (k : Nat) : (sp z k).size = 6 := rfl
theorem sp_info (z : X) (k : Nat) : (Try.prog.info? 52).map (·.size) = some (sp z k).size := info52
def zs6 : Array Value := #[.int .u64 0, .int .u64 0, .int .u64 0, .int .u64 0, .int .u64 0, .int .u64 0]
/-- two boxes of digits, two places more. -/
def four (w : World) (x y : X) : World := (((w.alloc (.cells (sc x) 52)).alloc (.cells (sc y) 52)).alloc (.cells zs6 52)).alloc (.cells zs6 52)
theorem four_below (w : World) (x y : X) : Below w.heap.size w (four w x y) := ((((Below.refl _ _).alloc (Nat.le_refl _) _).alloc (by simp) _).alloc (by simp; omega) _).alloc (by simp; omega) _
theorem four_1 (w : World) (x y : X) : Blk (four w x y) w.heap.size 52 (sc x) := (((Blk.new _ _ _).alloc _).alloc _).alloc _
theorem four_2 (w : World) (x y : X) : Blk (four w x y) (w.heap.size + 1) 52 (sc y) := by
  have h := ((Blk.new (w.alloc (.cells (sc x) 52)) 52 (sc y)).alloc (.cells zs6 52)).alloc (.cells zs6 52)
  unfold four; simpa using h
theorem four_3 (w : World) (x y : X) : Blk (four w x y) (w.heap.size + 1 + 1) 52 zs6 := by
  have h := (Blk.new ((w.alloc (.cells (sc x) 52)).alloc (.cells (sc y) 52)) 52 zs6).alloc (.cells zs6 52)
  unfold four; simpa using h
theorem four_4 (w : World) (x y : X) : Blk (four w x y) (w.heap.size + 1 + 1 + 1) 52 zs6 := by
  have h := Blk.new (((w.alloc (.cells (sc x) 52)).alloc (.cells (sc y) 52)).alloc (.cells zs6 52)) 52 zs6
  unfold four; simpa using h
theorem small_wrap (n : Int) (h0 : 0 ≤ n) (h1 : n < 18446744073709551616) : IntKind.u64.wrap n = n := by rw [IntKind.wrap_u64]; omega
set_option maxHeartbeats 400000 in
theorem radd_any (x y : X) (w : World) :
    Calls Try.prog 33 #[.agg (sc x), .agg (sc y)] w fun e w' => e = .returned (.agg (sc (x + y))) ∧ Below w.heap.size w w' := by
  obtain ⟨w0, hw0⟩ : ∃ w0, w0 = four w x y := ⟨_, rfl⟩
  have h1 := four_1 w x y
  have h2 := four_2 w x y
  have h3 := four_3 w x y
  have h4 := four_4 w x y
  have hb0 := four_below w x y
  rw [← hw0] at h1 h2 h3 h4 hb0
  have Hw0 := Lib.hid hw0
  clear hw0
  have l1 := h1.lt
  have l2 := h2.lt
  have l3 := h3.lt
  have l4 := h4.lt
  go_enter Try.func33, Try.ntmps33
  go_upto_region 2 with (fail)
  rw [show #[.int .u64 0, .int .u64 0, .int .u64 0, .int .u64 0, .int .u64 0, .int .u64 0] = zs6 from rfl, show (((w.alloc (.cells (sc x) 52)).alloc (.cells (sc y) 52)).alloc (.cells zs6 52)).alloc (.cells zs6 52) = w0 from Hw0.out.symm]
  go_wp2
  go_loopw [6, 7, 8] (fun o i _ wr => ∃ k : Nat, k ≤ 6 ∧ i = .int .i64 k ∧ o = .int .u64 (cy x y k) ∧ Blk wr w.heap.size 52 (sc x) ∧ Blk wr (w.heap.size + 1) 52 (sc y) ∧ Blk wr (w.heap.size + 1 + 1) 52 zs6 ∧ Blk wr (w.heap.size + 1 + 1 + 1) 52 (sp (x + y) k) ∧ Below w.heap.size w wr) (fun _ i _ _ => 6 - (intOf i).toNat)
  case atStart => exact ⟨0, by omega, rfl, by rw [cy_zero], h1, h2, h3, h4, hb0⟩
  case round =>
    obtain ⟨k, hk, rfl, rfl, g1, g2, g3, g4, hb⟩ := hrel
    have m1 := g1.lt
    have m2 := g2.lt
    have m4 := g4.lt
    by_cases hlt : k < 6
    · have c1 := sc_cell g1 k hlt
      have c2 := sc_cell g2 k hlt
      have f4 := g4.free k
      have e4 : (sp (x + y) k)[k]? ≠ none := by
        obtain rfl | rfl | rfl | rfl | rfl | rfl : k = 0 ∨ k = 1 ∨ k = 2 ∨ k = 3 ∨ k = 4 ∨ k = 5 := by omega
        all_goals simp [sp]
      obtain ⟨old, c4⟩ : ∃ old, wr.cell? ⟨w.heap.size + 1 + 1 + 1, k, none⟩ = some old := by
        rw [g4.cell k]; exact Option.ne_none_iff_exists'.1 e4
      clear e4
      have i1 : (k : Int) < 6 := by omega
      have a1 := add_dg x y k hlt
      have a2 := cy_succ x y k
      have b1 := dg_lo x k
      have b2 := dg_hi x k
      have b3 := dg_lo y k
      have b4 := dg_hi y k
      have b5 := cy_lo x y k
      have b6 := cy_hi x y k
      have hset := sp_set (x + y) k hlt
      obtain ⟨dx, hdx⟩ : ∃ d, d = dg x k := ⟨_, rfl⟩
      obtain ⟨dy, hdy⟩ : ∃ d, d = dg y k := ⟨_, rfl⟩
      obtain ⟨c, hc⟩ : ∃ d, d = cy x y k := ⟨_, rfl⟩
      rw [← hdx] at c1 a1 a2 b1 b2
      rw [← hdy] at c2 a1 a2 b3 b4
      rw [← hc] at a1 a2 b5 b6 ⊢
      have w1 : IntKind.u64.wrap (dx + dy) = dx + dy := small_wrap _ (by omega) (by omega)
      have w2 : IntKind.u64.wrap (dx + dy + c) = dx + dy + c := small_wrap _ (by omega) (by omega)
      obtain ⟨q, hq⟩ : ∃ q, q = dx + dy + c := ⟨_, rfl⟩
      have q0 : 0 ≤ q := by omega
      have q1 : q < 18446744073709551616 := by omega
      have t1 : q.tmod 4294967296 = q % 4294967296 := Int.tmod_eq_emod_of_nonneg q0
      have t2 : q.tdiv 4294967296 = q / 4294967296 := Int.tdiv_eq_ediv_of_nonneg q0
      have t3 : IntKind.u64.wrap (q / 4294967296) = q / 4294967296 := small_wrap _ (by omega) (by omega)
      have t4 : IntKind.u64.wrap (q % 4294967296) = q % 4294967296 := small_wrap _ (by omega) (by omega)
      rw [← hq] at a1 a2
      have w3 : IntKind.u64.wrap (dx + dy + c) = q := by rw [w2, hq]
      clear w2
      rw [← a1] at hset
      have A1 := Lib.hid a1
      have A2 := Lib.hid a2
      have Hs := Lib.hid hset
      clear a1 a2 hset hdx hdy hc b1 b2 b3 b4 b5 b6 hq
      go_upto_region 6 with (fail)
      refine wp_region_below_lit wr.heap.size wr (Below.refl _ _) (by kernel_rfl) (by kernel_rfl) ?_
      repeat (first
        | go_big_quiet_skip
        | (go_big_quiet_want; (first
            | (with_reducible refine quiet_u64 (o := ⟨some 15, .load 22 (.tmp 14), _, _, _, _⟩) (.tmp 14) rfl w.heap.size k rfl m1 _ c1 ?_)
            | (with_reducible refine quiet_u64 (o := ⟨some 18, .load 22 (.tmp 17), _, _, _, _⟩) (.tmp 17) rfl (w.heap.size + 1) k rfl m2 _ c2 ?_)); simp only [Act.put, List.setIfInBounds_toArray, List.set_cons_succ, List.set_cons_zero]; go_big_quiet_on)
        | (go_big_quiet_want; go_big_quiet_op; first | go_big_quiet_on | ((with_reducible refine ⟨_, fun _ _ => rfl, ?_⟩); go_big_quiet_on)))
      refine wpQuiet_nil ?_
      intro w' hb'
      have n1 := g1.below hb' m1
      have n2 := g2.below hb' m2
      have n3 := g3.below hb' g3.lt
      have n4 := g4.below hb' m4
      have nb := hb.trans (hb'.mono hb.size)
      have nf := n4.free k
      have nc : w'.cell? ⟨w.heap.size + 1 + 1 + 1, k, none⟩ = some old := by rw [← c4]; exact hb'.cell (p := ⟨w.heap.size + 1 + 1 + 1, k, none⟩) m4
      go_wp2
      go_roundw
      case rel =>
        refine ⟨k + 1, by omega, by go_num, ?_, n1.far (by simp; omega) _, n2.far (by simp) _, n3.far (by simp) _, ?_, nb.setCell (by simp; omega) _⟩
        · rw [← A2.out]
        · rw [← Hs.out]
          exact n4.set_ k _
      case measure => simp [intOf]; omega
    · have ek : k = 6 := by omega
      rw [ek, sp_six] at g4
      clear ek
      go_wp2_with (first
        | (with_reducible refine wpList_load_at (o := ⟨some 28, .load 52 (.tmp 5), _, _, _, _⟩) rfl 52 (.tmp 5) rfl (w.heap.size + 1 + 1 + 1) 0 rfl (sc (x + y)) _ g4.range Try.underlying52 rfl (sc_info _) ?_)
        | (with_reducible refine wpList_store_row (o := ⟨none, .store 52 (.tmp 4) (.tmp 28), _, _, _, _⟩) rfl 52 (.tmp 4) (.tmp 28) rfl (w.heap.size + 1 + 1) (sc (x + y)) rfl rfl _ _ g3.eq (sc_info _) rfl (sc_all _) ?_))
      exact end52 rfl (w.heap.size + 1 + 1) 52 _ rfl (g3.row _) rfl rfl ⟨rfl, below_setRow hb (by omega) _⟩
end Go.Proofs.Ytiiccjnfggojmaa

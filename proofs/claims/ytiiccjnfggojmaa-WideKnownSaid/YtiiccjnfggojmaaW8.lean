/-
  WALKS, 8: the reference: sixOf, Of, Neg.
-/
import Derived.Test.YtiiccjnfggojmaaW7
namespace Go.Proofs.Ytiiccjnfggojmaa
open Go.RowKit Wd

theorem sc_of (n : Int) (h0 : -9223372036854775808 ≤ n) (h1 : n ≤ 9223372036854775807) (u d : Int) (hu : u = n % 18446744073709551616) (hd : d = if n < 0 then 4294967295 else 0) :
    #[.int .u64 (u % 4294967296), .int .u64 (u / 4294967296), .int .u64 d, .int .u64 d, .int .u64 d, .int .u64 d] = sc (ofI n) := by
  obtain ⟨a, b, c⟩ := of_parts n h0 h1
  obtain ⟨e0, e1, e2, e3, e4, e5⟩ := dg_parts (ofI n)
  unfold sc
  rw [e0, e1, e2, e3, e4, e5, a, b, c, hu, hd]
  unfold sg
  split <;> rfl
set_option maxHeartbeats 400000 in
theorem rsix_any (n : Int) (w : World) (h0 : -9223372036854775808 ≤ n) (h1 : n ≤ 9223372036854775807) :
    Calls Try.prog 42 #[.int .i64 n] w fun e w' => e = .returned (.agg (sc (ofI n))) ∧ Below w.heap.size w w' := by
  obtain ⟨u, hu⟩ : ∃ u, u = n % 18446744073709551616 := ⟨_, rfl⟩
  have q0 : 0 ≤ u := by omega
  have q1 : u < 18446744073709551616 := by omega
  have eu : IntKind.u64.wrap n = u := by rw [IntKind.wrap_u64, hu]
  have t1 : u.tmod 4294967296 = u % 4294967296 := Int.tmod_eq_emod_of_nonneg q0
  have t2 : u.tdiv 4294967296 = u / 4294967296 := Int.tdiv_eq_ediv_of_nonneg q0
  have t3 : IntKind.u64.wrap (u / 4294967296) = u / 4294967296 := small_wrap _ (by omega) (by omega)
  have t4 : IntKind.u64.wrap (u % 4294967296) = u % 4294967296 := small_wrap _ (by omega) (by omega)
  have hs := sc_of n h0 h1 u
  have Hs := Lib.hid hs
  have Hu := Lib.hid hu
  clear hs hu
  by_cases hn : n < 0
  · go_enter Try.func42, Try.ntmps42
    go_wp2
    rw [Hs.out 4294967295 Hu.out (by rw [if_pos hn])]
    exact end52 rfl w.heap.size 52 _ rfl (Blk.new _ _ _) rfl rfl ⟨rfl, (Below.refl _ _).alloc (Nat.le_refl _) _⟩
  · go_enter Try.func42, Try.ntmps42
    go_wp2
    rw [Hs.out 0 Hu.out (by rw [if_neg (by omega)])]
    exact end52 rfl w.heap.size 52 _ rfl (Blk.new _ _ _) rfl rfl ⟨rfl, (Below.refl _ _).alloc (Nat.le_refl _) _⟩
theorem sc_one : #[.int .u64 1, .int .u64 0, .int .u64 0, .int .u64 0, .int .u64 0, .int .u64 0] = sc (ofI 1) := sc_of 1 (by decide) (by decide) 1 0 (by decide) (by decide)
theorem rof_any (n : Int) (w : World) (h0 : -9223372036854775808 ≤ n) (h1 : n ≤ 9223372036854775807) :
    Calls Try.prog 31 #[.int .i64 n] w fun e w' => e = .returned (.agg (sc (ofI n))) ∧ Below w.heap.size w w' := by
  go_enter Try.func31, Try.ntmps31
  go_wp2_with (first
    | (go_at_call 42; with_reducible refine (rsix_any n _ h0 h1).mono ?_; rintro e w1 ⟨rfl, b1⟩; have g := (Blk.new w 52 zs6).below b1 (by simp))
    | (with_reducible refine wpList_store_row (o := ⟨none, .store 52 (.tmp 2) (.tmp 4), _, _, _, _⟩) rfl 52 (.tmp 2) (.tmp 4) rfl w.heap.size (sc (ofI n)) rfl rfl _ _ g.eq (sc_info _) rfl (sc_all _) ?_))
  exact end52 rfl w.heap.size 52 _ rfl (g.row _) rfl rfl ⟨rfl, below_setRow (((Below.refl _ _).alloc (Nat.le_refl _) _).trans (b1.mono (by simp))) (Nat.le_refl _) _⟩
/-- a box of digits, two places more. -/
def box3 (w : World) (x : X) : World := ((w.alloc (.cells (sc x) 52)).alloc (.cells zs6 52)).alloc (.cells zs6 52)
theorem box3_below (w : World) (x : X) : Below w.heap.size w (box3 w x) := (((Below.refl _ _).alloc (Nat.le_refl _) _).alloc (by simp) _).alloc (by simp; omega) _
theorem box3_1 (w : World) (x : X) : Blk (box3 w x) w.heap.size 52 (sc x) := ((Blk.new _ _ _).alloc _).alloc _
theorem box3_2 (w : World) (x : X) : Blk (box3 w x) (w.heap.size + 1) 52 zs6 := by
  have h := (Blk.new (w.alloc (.cells (sc x) 52)) 52 zs6).alloc (.cells zs6 52)
  unfold box3; simpa using h
theorem box3_3 (w : World) (x : X) : Blk (box3 w x) (w.heap.size + 1 + 1) 52 zs6 := by
  have h := Blk.new ((w.alloc (.cells (sc x) 52)).alloc (.cells zs6 52)) 52 zs6
  unfold box3; simpa using h
theorem sp_old (z : X) (k : Nat) (hk : k < 6) : ∃ old, (sp z k)[k]? = some old := by
  obtain rfl | rfl | rfl | rfl | rfl | rfl : k = 0 ∨ k = 1 ∨ k = 2 ∨ k = 3 ∨ k = 4 ∨ k = 5 := by omega
  all_goals exact ⟨_, rfl⟩
set_option maxHeartbeats 400000 in
theorem rneg_any (x : X) (w : World) :
    Calls Try.prog 34 #[.agg (sc x)] w fun e w' => e = .returned (.agg (sc (-x))) ∧ Below w.heap.size w w' := by
  obtain ⟨w0, hw0⟩ : ∃ w0, w0 = box3 w x := ⟨_, rfl⟩
  have h1 := box3_1 w x
  have h2 := box3_2 w x
  have h3 := box3_3 w x
  have hb0 := box3_below w x
  rw [← hw0] at h1 h2 h3 hb0
  have Hw0 := Lib.hid hw0
  clear hw0
  go_enter Try.func34, Try.ntmps34
  go_upto_region 2 with (fail)
  rw [show #[.int .u64 0, .int .u64 0, .int .u64 0, .int .u64 0, .int .u64 0, .int .u64 0] = zs6 from rfl, show ((w.alloc (.cells (sc x) 52)).alloc (.cells zs6 52)).alloc (.cells zs6 52) = w0 from Hw0.out.symm]
  go_wp2
  go_loopw [4] (fun i wr => ∃ k : Nat, k ≤ 6 ∧ i = .int .i64 k ∧ Blk wr w.heap.size 52 (sc x) ∧ Blk wr (w.heap.size + 1) 52 zs6 ∧ Blk wr (w.heap.size + 1 + 1) 52 (sp (~~~x) k) ∧ Below w.heap.size w wr) (fun i _ => 6 - (intOf i).toNat)
  case atStart => exact ⟨0, by omega, rfl, h1, h2, h3, hb0⟩
  case round =>
    obtain ⟨k, hk, rfl, g1, g2, g3, hb⟩ := hrel
    have m3 := g3.lt
    by_cases hlt : k < 6
    · have c1 := sc_cell g1 k hlt
      have f3 := g3.free k
      obtain ⟨old, ho⟩ := sp_old (~~~x) k hlt
      have c3 : wr.cell? ⟨w.heap.size + 1 + 1, k, none⟩ = some old := by rw [g3.cell k]; exact ho
      have i1 : (k : Int) < 6 := by omega
      have a1 := not_dg x k hlt
      have b1 := dg_lo x k
      have b2 := dg_hi x k
      have hset := sp_set (~~~x) k hlt
      obtain ⟨dx, hdx⟩ : ∃ d, d = dg x k := ⟨_, rfl⟩
      rw [← hdx] at c1 a1 b1 b2
      rw [a1] at hset
      have w1 : IntKind.u64.wrap (4294967295 - dx) = 4294967295 - dx := small_wrap _ (by omega) (by omega)
      have Hs := Lib.hid hset
      clear a1 hset hdx b1 b2 ho
      go_wp2
      go_roundw
      case rel =>
        refine ⟨k + 1, by omega, by go_num, g1.far (by simp; omega) _, g2.far (by simp) _, ?_, hb.setCell (by simp; omega) _⟩
        rw [← Hs.out]
        exact g3.set_ k _
      case measure => simp [intOf]; omega
    · have ek : k = 6 := by omega
      rw [ek, sp_six] at g3
      clear ek
      have m2 := g2.lt
      have hsz := hb.size
      go_wp2_with (first
        | (with_reducible refine wpList_load_at (o := ⟨some 15, .load 52 (.tmp 3), _, _, _, _⟩) rfl 52 (.tmp 3) rfl (w.heap.size + 1 + 1) 0 rfl (sc (~~~x)) _ g3.range Try.underlying52 rfl (sc_info _) ?_)
        | (go_at_call 33; rw [sc_one]; with_reducible refine (radd_any (~~~x) (ofI 1) _).mono ?_; rintro e w1 ⟨rfl, b1⟩; have n2 := g2.below b1 m2)
        | (with_reducible refine wpList_store_row (o := ⟨none, .store 52 (.tmp 2) (.tmp 17), _, _, _, _⟩) rfl 52 (.tmp 2) (.tmp 17) rfl (w.heap.size + 1) (sc (~~~x + ofI 1)) rfl rfl _ _ n2.eq (sc_info _) rfl (sc_all _) ?_))
      exact end52 rfl (w.heap.size + 1) 52 _ rfl (n2.row _) rfl rfl ⟨by rw [not_one], below_setRow (hb.trans (b1.mono hsz)) (by omega) _⟩
end Go.Proofs.Ytiiccjnfggojmaa

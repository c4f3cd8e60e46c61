/-
  WALKS, 5: Dot.
-/
import Derived.Test.YtiiccjnfggojmaaW4
namespace Go.Proofs.Ytiiccjnfggojmaa
open Go.RowKit Wd

/-- the sum of the products. -/
def dots (l : List (Int × Int)) : Int := (l.map fun p => p.1 * p.2).sum
theorem dots_nil : dots [] = 0 := rfl
theorem dots_succ (l : List (Int × Int)) (k : Nat) (h : k < l.length) : dots (l.take (k + 1)) = dots (l.take k) + (l[k]).1 * (l[k]).2 := by
  unfold dots
  rw [List.take_succ_eq_append_getElem h, List.map_append, List.sum_append]
  simp
theorem addb (a : Addr) (n : Nat) : (a.add n).block = a.block := by unfold Addr.add; split <;> rfl
theorem add1 (a : Addr) (n : Nat) : a.add (n + 1) = ⟨(a.add n).block, (a.add n).off + 1, none⟩ := by
  by_cases h : n = 0
  · simp [Addr.add, h]
  · simp [Addr.add, h]; omega
/-- pairs in a row. -/
def Prs (w : World) (A : Option Addr) (l : List (Int × Int)) : Prop :=
  ∀ k (h : k < l.length), ∃ a, A = some a ∧ a.block < w.heap.size ∧ w.cell? (a.add (k * 2)) = some (.int .i64 (l[k]).1) ∧ w.cell? (a.add (k * 2 + 1)) = some (.int .i64 (l[k]).2)
theorem Prs.below {w w' : World} {A : Option Addr} {l : List (Int × Int)} {B : Nat} (h : Prs w A l) (hb : Below B w w') (hB : w.heap.size ≤ B) : Prs w' A l := fun k hk => by
  obtain ⟨a, h1, h2, h3, h4⟩ := h k hk
  exact ⟨a, h1, Nat.lt_of_lt_of_le h2 hb.size, (hb.cell (p := a.add (k * 2)) (by rw [addb]; omega)).trans h3, (hb.cell (p := a.add (k * 2 + 1)) (by rw [addb]; omega)).trans h4⟩
def Fit64 (l : List (Int × Int)) : Prop := ∀ p ∈ l, (-9223372036854775808 ≤ p.1 ∧ p.1 ≤ 9223372036854775807) ∧ (-9223372036854775808 ≤ p.2 ∧ p.2 ≤ 9223372036854775807)
theorem sum2_at (w' : World) (x y : X) : Calls Try.prog 40 #[.slice (some ⟨w'.heap.size, 0, none⟩) 2 2] (w'.alloc (.cells (wc x ++ wc y) 24)) fun e w1 => e = .returned (.agg (wc (x + y))) ∧ Below w'.heap.size w' w1 :=
  (sum2 _ _ x y _ (by simp) (pair_wides _ x y)).mono fun _ _ h => ⟨h.1, ((Below.refl _ _).alloc (Nat.le_refl _) _).trans (h.2.mono (by simp))⟩
theorem mul_in {a c : Int} {b : Nat} {w0 w : World} (hb : Below b w0 w) (hs : b ≤ w0.heap.size) (b1 : -9223372036854775808 ≤ a) (b2 : a ≤ 9223372036854775807) (b3 : -9223372036854775808 ≤ c) (b4 : c ≤ 9223372036854775807) :
    Calls Try.prog 12 #[.int .i64 a, .int .i64 c] w fun e w' => e = .returned (.agg (wc (ofI (a * c)))) ∧ Below b w0 w' := callIn hb hs (mul_any a c w b1 b2 b3 b4)
theorem i2_cell {w : World} {g : Nat} {p q : Int} (h : Blk w g 38 #[.int .i64 p, .int .i64 q]) : w.cell? ⟨g, 0, none⟩ = some (.int .i64 p) ∧ w.cell? ⟨g, 1, none⟩ = some (.int .i64 q) := ⟨h.cell 0, h.cell 1⟩
set_option maxHeartbeats 400000 in
theorem dot_any (A : Option Addr) (cap : Nat) (l : List (Int × Int)) (w : World) (hl : l.length ≤ 1000) (hf : Fit64 l) (hr : Prs w A l) :
    Calls Try.prog 21 #[.slice A l.length cap] w fun e w' => e = .returned (.tuple #[.int .i64 (fit (ofI (dots l))).1, .int .i64 (fit (ofI (dots l))).2]) ∧ Below w.heap.size w w' := by
  go_enter Try.func21, Try.ntmps21
  go_wp2
  rw [wc_zero]
  go_loopw [6, 9] (fun _ i wr => ∃ k : Nat, k ≤ l.length ∧ i = .int .i64 k ∧ Blk wr w.heap.size 24 (wc (ofI (dots (l.take k)))) ∧ Below w.heap.size w wr) (fun _ i _ => l.length - (intOf i).toNat)
  case atStart => exact ⟨0, by omega, rfl, Blk.new _ _ _, (Below.refl _ _).alloc (Nat.le_refl _) _⟩
  case round =>
    obtain ⟨k, hk, rfl, h1, hb⟩ := hrel
    have hsz := hb.size
    have hlt2 := h1.lt
    by_cases hlt : k < l.length
    · obtain ⟨a, rfl, hab, c0, c1⟩ := (hr.below hb (Nat.le_refl _)) k hlt
      obtain ⟨⟨b1, b2⟩, b3, b4⟩ := hf _ (List.getElem_mem hlt)
      have hs := dots_succ l k hlt
      obtain ⟨⟨p, q⟩, hpq⟩ : ∃ x, x = l[k] := ⟨_, rfl⟩
      rw [← hpq] at c0 c1 b1 b2 b3 b4 hs
      clear hpq
      rw [add1] at c1
      simp only at c0 c1 b1 b2 b3 b4 hs
      obtain ⟨s, hse⟩ : ∃ s, s = dots (l.take k) := ⟨_, rfl⟩
      rw [← hse] at h1 hs
      have Hs := Lib.hid hs
      clear hs hse
      go_upto_region 5 with (fail)
      obtain ⟨wq, hwq⟩ : ∃ wq, wq = wr.alloc (.cells #[.int .i64 p, .int .i64 q] 38) := ⟨_, rfl⟩
      rw [← hwq]
      have hq1 : Blk wq w.heap.size 24 (wc (ofI s)) := by rw [hwq]; exact h1.alloc _
      have hq2 : Blk wq wr.heap.size 38 #[.int .i64 p, .int .i64 q] := by rw [hwq]; exact Blk.new _ _ _
      have hqb : Below w.heap.size w wq := by rw [hwq]; exact hb.alloc hsz _
      clear hwq
      obtain ⟨z0, z1⟩ := i2_cell hq2
      have lt1 := hq1.lt
      have lt2 := hq2.lt
      refine wp_region_tail 6 wq.heap.size wq (Below.refl _ _) (by kernel_rfl) (by kernel_rfl) ?_
      simp only [List.take_succ_cons, List.take_zero, List.drop_succ_cons, List.drop_zero]
      repeat (first
        | go_big_quiet_skip
        | (go_big_quiet_want; (first
            | (with_reducible refine quiet_row (o := ⟨some 13, .load 24 (.tmp 4), _, _, _, _⟩) 24 (.tmp 4) rfl w.heap.size 0 rfl lt1 (wc (ofI s)) _ hq1.range Try.underlying24 rfl (wc_info _) ?_)
            | (with_reducible refine quiet_i64 (o := ⟨some 15, .load 2 (.tmp 14), _, _, _, _⟩) (.tmp 14) rfl wr.heap.size 0 rfl lt2 _ z0 ?_)
            | (with_reducible refine quiet_i64 (o := ⟨some 17, .load 2 (.tmp 16), _, _, _, _⟩) (.tmp 16) rfl wr.heap.size 1 rfl lt2 _ z1 ?_)); simp only [Act.put, List.setIfInBounds_toArray, List.set_cons_succ, List.set_cons_zero]; go_big_quiet_on)
        | (go_big_quiet_want; go_big_quiet_op; first | go_big_quiet_on | ((with_reducible refine ⟨_, fun _ _ => rfl, ?_⟩); go_big_quiet_on) | go_big_quiet_call ((intro hb'; with_reducible exact mul_in hb' (Nat.le_refl _) b1 b2 b3 b4))))
      refine wpQuiet_nil ?_
      intro w' hb'
      have g1 := hq1.below hb' lt1
      have hsq := hqb.size
      have hs' := hb'.size
      go_wp2_with (first
        | (with_reducible refine wpList_pair (o := ⟨some 19, .buildSlice 71 2 #[(0, .tmp 13), (1, .tmp 18)], _, _, _, _⟩) rfl (.tmp 13) (.tmp 18) rfl (ofI s) (ofI (p * q)) rfl rfl ?_)
        | (go_at_call 40; with_reducible refine (sum2_at w' (ofI s) (ofI (p * q))).mono ?_; rintro e w1 ⟨rfl, hb1⟩; have g2 := g1.below hb1 (by omega))
        | (with_reducible refine wpList_store_row (o := ⟨none, .store 24 (.tmp 4) (.tmp 20), _, _, _, _⟩) rfl 24 (.tmp 4) (.tmp 20) rfl w.heap.size (wc (ofI s + ofI (p * q))) rfl rfl _ _ g2.eq (wc_info _) rfl (wc_all _) ?_))
      go_roundw
      case rel =>
        refine ⟨k + 1, by omega, by go_num, ?_, ?_⟩
        · rw [Hs.out, ← ofI_add]
          exact g2.row _
        · exact below_setRow ((hqb.trans (hb'.mono hsq)).trans (hb1.mono (by omega))) (Nat.le_refl _) _
      case measure => simp [intOf]; omega
    · have ek : k = l.length := by omega
      have e2 : dots (l.take k) = dots l := by rw [ek, List.take_length]
      rw [e2] at h1
      clear e2
      go_wp2_with (first
        | (with_reducible refine wpList_load_at (o := ⟨some 22, .load 24 (.tmp 4), _, _, _, _⟩) rfl 24 (.tmp 4) rfl w.heap.size 0 rfl (wc (ofI (dots l))) _ h1.range Try.underlying24 rfl (wc_info _) ?_)
        | (go_at_call 18; with_reducible refine (int_any _ _).mono ?_; rintro e w4 ⟨rfl, h4⟩))
      go_ret2
      exact ⟨rfl, hb.trans (h4.mono hsz)⟩
end Go.Proofs.Ytiiccjnfggojmaa

/-
  WALKS, 14: the reference's Dot.
-/
import Derived.Test.YtiiccjnfggojmaaW13
import Derived.Outline
namespace Go.Proofs.Ytiiccjnfggojmaa
open Go.RowKit Wd

theorem quiet_i64A {b : Nat} {w0 : World} {o : Oper} {a : Act} {K : Act → Prop} (p : Operand) (ho : o.op = .load 2 p) (ad : Addr) (hx : a.eval p = .pointer (some ad)) (hg : ad.block < b) (v : Value)
    (h0 : w0.cell? ad = some v) (hk : K (a.put o.dst v)) : o.quiet Try.prog a (Below b w0) K := by
  refine ⟨_, fun w hw => ?_, hk⟩
  have h1 : w.cell? ad = some v := (hw.cell (p := ad) hg).trans h0
  have u := Try.underlying2
  have u3 := Try.isAgg2
  have z3 := Try.sizeOf2
  unfold Oper.quietAt execOp
  simp only [ho, hx, Sem.run_bind, Sem.run_pure]
  simp [go_sem, h1, Oper.quietUpon]
theorem radd_of {x y z : X} (h : x + y = z) (w : World) : Calls Try.prog 33 #[.agg (sc x), .agg (sc y)] w fun e w' => e = .returned (.agg (sc z)) ∧ Below w.heap.size w w' := by
  subst h; exact radd_any x y w
set_option maxHeartbeats 400000 in
theorem rdot_any (A : Option Addr) (cap : Nat) (l : List (Int × Int)) (w : World) (hl : l.length ≤ 1000) (hf : Fit64 l) (hr : Prs w A l) :
    Calls Try.prog 26 #[.slice A l.length cap] w fun e w' => e = .returned (.tuple #[.int .i64 (fit (ofI (dots l))).1, .int .i64 (fit (ofI (dots l))).2]) ∧ Below w.heap.size w w' := by
  go_enter Try.func26, Try.ntmps26
  go_wp2
  rw [show #[.int .u64 0, .int .u64 0, .int .u64 0, .int .u64 0, .int .u64 0, .int .u64 0] = sc (ofI 0) from sc_zero]
  go_loopw [5] (fun i wr => ∃ k : Nat, k ≤ l.length ∧ i = .int .i64 k ∧ Blk wr w.heap.size 52 (sc (ofI (dots (l.take k)))) ∧ Below w.heap.size w wr) (fun i _ => l.length - (intOf i).toNat)
  case atStart => exact ⟨0, by omega, rfl, Blk.new _ _ _, (Below.refl _ _).alloc (Nat.le_refl _) _⟩
  case round =>
    obtain ⟨k, hk, rfl, h1, hb⟩ := hrel
    have hsz := hb.size
    have hlt2 := h1.lt
    by_cases hlt : k < l.length
    · obtain ⟨a, rfl, hab, c0, c1⟩ := (hr.below hb (Nat.le_refl _)) k hlt
      obtain ⟨⟨b1, b2⟩, b3, b4⟩ := hf _ (List.getElem_mem hlt)
      have hs := dots_succ l k hlt
      obtain ⟨⟨p, q⟩, hpq⟩ : ∃ x, x = l[k] := ⟨_, rfl⟩
      rw [← hpq] at c0 c1 b1 b2 b3 b4 hs
      clear hpq
      rw [add1] at c1
      simp only at c0 c1 b1 b2 b3 b4 hs
      obtain ⟨s, hse⟩ : ∃ s, s = dots (l.take k) := ⟨_, rfl⟩
      rw [← hse] at h1 hs
      have Hs := Lib.hid hs
      clear hs hse
      have ip : In64 p := ⟨b1, b2⟩
      have iq : In64 q := ⟨b3, b4⟩
      have i0 : (0 : Int) ≤ (k : Int) := by omega
      have i1 : (k : Int) < (l.length : Int) := by omega
      have ab0 : (a.add (k * 2)).block < wr.heap.size := by rw [addb]; omega
      have ab1 := ab0
      go_upto_region 5 with (fail)
      refine wp_region_tail 12 wr.heap.size wr (Below.refl _ _) (by kernel_rfl) (by kernel_rfl) ?_
      simp only [List.take_succ_cons, List.take_zero, List.drop_succ_cons, List.drop_zero]
      repeat (first
        | go_big_quiet_skip
        | (go_big_quiet_want; (first
            | (with_reducible refine quiet_row (o := ⟨some 12, .load 52 (.tmp 4), _, _, _, _⟩) 52 (.tmp 4) rfl w.heap.size 0 rfl hlt2 (sc (ofI s)) _ h1.range Try.underlying52 rfl (sc_info _) ?_)
            | (with_reducible refine quiet_i64A (o := ⟨some 17, .load 2 (.tmp 16), _, _, _, _⟩) (.tmp 16) rfl (a.add (k * 2)) rfl ab0 _ c0 ?_)
            | (with_reducible refine quiet_i64A (o := ⟨some 22, .load 2 (.tmp 21), _, _, _, _⟩) (.tmp 21) rfl ⟨(a.add (k * 2)).block, (a.add (k * 2)).off + 1, none⟩ rfl ab1 _ c1 ?_)); simp only [Act.put, List.setIfInBounds_toArray, List.set_cons_succ, List.set_cons_zero]; go_big_quiet_on)
        | (go_big_quiet_want; go_big_quiet_op; first | go_big_quiet_on | ((with_reducible refine ⟨_, fun _ _ => rfl, ?_⟩); go_big_quiet_on) | go_big_quiet_call ((intro hb'; with_reducible exact rmul_at hb' (Nat.le_refl _) ip iq))))
      refine wpQuiet_nil ?_
      intro w' hb'
      have g1 := h1.below hb' hlt2
      have hs' := hb'.size
      go_wp2_with (first
        | (go_at_call 33; with_reducible refine (radd_of (ofI_add s (p * q)) _).mono ?_; rintro e w1 ⟨rfl, hb1⟩; have g2 := g1.below hb1 (by omega))
        | (with_reducible refine wpList_store_row (o := ⟨none, .store 52 (.tmp 4) (.tmp 24), _, _, _, _⟩) rfl 52 (.tmp 4) (.tmp 24) rfl w.heap.size (sc (ofI (s + p * q))) rfl rfl _ _ g2.eq (sc_info _) rfl (sc_all _) ?_))
      go_roundw
      case rel =>
        refine ⟨k + 1, by omega, by go_num, ?_, ?_⟩
        · rw [Hs.out]
          exact g2.row _
        · exact below_setRow ((hb.trans (hb'.mono hsz)).trans (hb1.mono (by omega))) (Nat.le_refl _) _
      case measure => simp [intOf]; omega
    · have ek : k = l.length := by omega
      have e2 : dots (l.take k) = dots l := by rw [ek, List.take_length]
      rw [e2] at h1
      clear e2
      go_wp2_with (first
        | (with_reducible refine wpList_load_at (o := ⟨some 25, .load 52 (.tmp 4), _, _, _, _⟩) rfl 52 (.tmp 4) rfl w.heap.size 0 rfl (sc (ofI (dots l))) _ h1.range Try.underlying52 rfl (sc_info _) ?_)
        | (go_at_call 28; with_reducible refine (rint_any _ _).mono ?_; rintro e w4 ⟨rfl, h4⟩))
      go_ret2
      exact ⟨rfl, hb.trans (h4.mono hsz)⟩
end Go.Proofs.Ytiiccjnfggojmaa

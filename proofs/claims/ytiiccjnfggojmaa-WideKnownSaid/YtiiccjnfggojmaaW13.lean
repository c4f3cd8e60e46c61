/-
  WALKS, 13: the reference's Read; the digits of a wide number (six).
-/
import Derived.Test.YtiiccjnfggojmaaLChecks
namespace Go.Proofs.Ytiiccjnfggojmaa
open Go.RowKit Wd

set_option maxHeartbeats 400000 in
theorem read_any (x : X) (w : World) :
    Calls Try.prog 43 #[.int .u64 (pa x), .int .u64 (pb x), .int .u64 (pc x)] w fun e w' => e = .returned (.agg (sc x)) ∧ Below w.heap.size w w' := by
  have hs : #[.int .u64 (pa x % 4294967296), .int .u64 (pa x / 4294967296), .int .u64 (pb x % 4294967296), .int .u64 (pb x / 4294967296), .int .u64 (pc x % 4294967296), .int .u64 (pc x / 4294967296)] = sc x := by
    obtain ⟨e0, e1, e2, e3, e4, e5⟩ := dg_parts x
    unfold sc
    rw [e0, e1, e2, e3, e4, e5]
  have Hs := Lib.hid hs
  clear hs
  have a0 := pa_lo x
  have a1 := pa_hi x
  obtain ⟨a, ha⟩ : ∃ u, u = pa x := ⟨_, rfl⟩
  rw [← ha] at Hs a0 a1 ⊢
  have at1 : a.tmod 4294967296 = a % 4294967296 := Int.tmod_eq_emod_of_nonneg a0
  have at2 : a.tdiv 4294967296 = a / 4294967296 := Int.tdiv_eq_ediv_of_nonneg a0
  have at3 : IntKind.u64.wrap (a / 4294967296) = a / 4294967296 := small_wrap _ (by omega) (by omega)
  have at4 : IntKind.u64.wrap (a % 4294967296) = a % 4294967296 := small_wrap _ (by omega) (by omega)
  clear ha
  have b0 := pb_lo x
  have b1 := pb_hi x
  obtain ⟨b, hb⟩ : ∃ u, u = pb x := ⟨_, rfl⟩
  rw [← hb] at Hs b0 b1 ⊢
  have bt1 : b.tmod 4294967296 = b % 4294967296 := Int.tmod_eq_emod_of_nonneg b0
  have bt2 : b.tdiv 4294967296 = b / 4294967296 := Int.tdiv_eq_ediv_of_nonneg b0
  have bt3 : IntKind.u64.wrap (b / 4294967296) = b / 4294967296 := small_wrap _ (by omega) (by omega)
  have bt4 : IntKind.u64.wrap (b % 4294967296) = b % 4294967296 := small_wrap _ (by omega) (by omega)
  clear hb
  have c0 := pc_lo x
  have c1 := pc_hi x
  obtain ⟨c, hc⟩ : ∃ u, u = pc x := ⟨_, rfl⟩
  rw [← hc] at Hs c0 c1 ⊢
  have ct1 : c.tmod 4294967296 = c % 4294967296 := Int.tmod_eq_emod_of_nonneg c0
  have ct2 : c.tdiv 4294967296 = c / 4294967296 := Int.tdiv_eq_ediv_of_nonneg c0
  have ct3 : IntKind.u64.wrap (c / 4294967296) = c / 4294967296 := small_wrap _ (by omega) (by omega)
  have ct4 : IntKind.u64.wrap (c % 4294967296) = c % 4294967296 := small_wrap _ (by omega) (by omega)
  clear hc
  go_enter Try.func43, Try.ntmps43
  go_wp2
  rw [Hs.out]
  exact end52 rfl w.heap.size 52 _ rfl (Blk.new _ _ _) rfl rfl ⟨rfl, (Below.refl _ _).alloc (Nat.le_refl _) _⟩
/-- a wide number in a box, and a place for the digits. -/
def boxd (w : World) (x : X) : World := (w.alloc (.cells (wc x) 24)).alloc (.cells zs6 52)
theorem boxd_below (w : World) (x : X) : Below w.heap.size w (boxd w x) := ((Below.refl _ _).alloc (Nat.le_refl _) _).alloc (by simp) _
theorem boxd_1 (w : World) (x : X) : Blk (boxd w x) w.heap.size 24 (wc x) := (Blk.new _ _ _).alloc _
theorem boxd_2 (w : World) (x : X) : Blk (boxd w x) (w.heap.size + 1) 52 zs6 := by
  have h := Blk.new (w.alloc (.cells (wc x) 24)) 52 zs6
  unfold boxd; simpa using h
set_option maxHeartbeats 400000 in
theorem six_any (x : X) (w : World) :
    Calls Try.prog 29 #[.agg (wc x)] w fun e w' => e = .returned (.agg (sc x)) ∧ Below w.heap.size w w' := by
  obtain ⟨w0, hw0⟩ : ∃ w0, w0 = boxd w x := ⟨_, rfl⟩
  have h1 := boxd_1 w x
  have h2 := boxd_2 w x
  have hb := boxd_below w x
  rw [← hw0] at h1 h2 hb
  have Hw0 := Lib.hid hw0
  clear hw0
  obtain ⟨x0, x1, x2⟩ := wc_cell h1
  have l2 := h2.lt
  have hs := hb.size
  go_enter Try.func29, Try.ntmps29
  go_upto_region 1 with (fail)
  rw [show #[.int .u64 0, .int .u64 0, .int .u64 0, .int .u64 0, .int .u64 0, .int .u64 0] = zs6 from rfl, show (w.alloc (.cells (wc x) 24)).alloc (.cells zs6 52) = w0 from Hw0.out.symm]
  go_wp2_with (first
    | (go_at_call 43; with_reducible refine (read_any x _).mono ?_; rintro e w1 ⟨rfl, b1⟩; have g := h2.below b1 l2)
    | (with_reducible refine wpList_store_row (o := ⟨none, .store 52 (.tmp 2) (.tmp 9), _, _, _, _⟩) rfl 52 (.tmp 2) (.tmp 9) rfl (w.heap.size + 1) (sc x) rfl rfl _ _ g.eq (sc_info _) rfl (sc_all _) ?_))
  exact end52 rfl (w.heap.size + 1) 52 _ rfl (g.row _) rfl rfl ⟨rfl, below_setRow (hb.trans (b1.mono hs)) (by omega) _⟩
theorem six_at {x : X} {b : Nat} {w0 w : World} (hb : Below b w0 w) (hs : b ≤ w0.heap.size) : Calls Try.prog 29 #[.agg (wc x)] w fun e w' => e = .returned (.agg (sc x)) ∧ Below b w0 w' := callIn hb hs (six_any x w)
theorem rof_at {a : Int} {b : Nat} {w0 w : World} (hb : Below b w0 w) (hs : b ≤ w0.heap.size) (ha : In64 a) : Calls Try.prog 31 #[.int .i64 a] w fun e w' => e = .returned (.agg (sc (ofI a))) ∧ Below b w0 w' := callIn hb hs (rof_any a w ha.1 ha.2)
theorem rnegx_at {x : X} {b : Nat} {w0 w : World} (hb : Below b w0 w) (hs : b ≤ w0.heap.size) : Calls Try.prog 34 #[.agg (sc x)] w fun e w' => e = .returned (.agg (sc (-x))) ∧ Below b w0 w' := callIn hb hs (rneg_any x w)
theorem quiet_yes52 {b : Nat} {w0 : World} {o : Oper} {a : Act} {K : Act → Prop} (p q : Operand) (t : TypeId) (ho : o.op = .binOp .eql 52 p q t) (x : X) (hp : a.eval p = .agg (sc x)) (hq : a.eval q = .agg (sc x)) (hk : K (a.put o.dst (.bool true))) : o.quiet Try.prog a (Below b w0) K :=
  quiet_eq52 p q t ho x x hp hq (by rw [decide_eq_true rfl]; exact hk)
end Go.Proofs.Ytiiccjnfggojmaa

/-
  WALKS, 1: sign, Of, sum.
-/
import Derived.Test.YtiiccjnfggojmaaWords
namespace Go.Proofs.Ytiiccjnfggojmaa
open Go.RowKit Wd

/-- the end of a function whose result lies in a cell of its own: a wide number; six digits. -/
theorem end24 {fn : Func} {p : Tmp} {R : Ending → World → Prop} {a : Act} {w : World} (h : fn.results = #[.cell p 24]) (g : Nat) (t : TypeId) (cs : Array Value)
    (hp : a.tmps.getD p undef = .pointer (some ⟨g, 0, none⟩)) (hg : Blk w g t cs) (hi : cs.size = 3) (hdf : a.defers = []) (hR : R (.returned (.agg cs)) w) : bodyPost Try.prog fn R .ret a w :=
  bodyPost_ret (results_cell_row h _ _ g t cs (0, 0) _ hp hg Try.underlying24 rfl (by rw [hi]; exact info24)) hdf hR
theorem end52 {fn : Func} {p : Tmp} {R : Ending → World → Prop} {a : Act} {w : World} (h : fn.results = #[.cell p 52]) (g : Nat) (t : TypeId) (cs : Array Value)
    (hp : a.tmps.getD p undef = .pointer (some ⟨g, 0, none⟩)) (hg : Blk w g t cs) (hi : cs.size = 6) (hdf : a.defers = []) (hR : R (.returned (.agg cs)) w) : bodyPost Try.prog fn R .ret a w :=
  bodyPost_ret (results_cell_row h _ _ g t cs (0, 0) _ hp hg Try.underlying52 rfl (by rw [hi]; exact info52)) hdf hR

set_option maxHeartbeats 400000 in
theorem sign_any (n : Int) (w : World) (h0 : -9223372036854775808 ≤ n) (h1 : n ≤ 9223372036854775807) :
    Calls Try.prog 36 #[.int .i64 n] w fun e w' => e = .returned (.int .u64 (sg n)) ∧ w = w' := by
  have e := sg_eq n h0 h1
  have E := Lib.hid e
  clear e
  go_enter Try.func36, Try.ntmps36
  go_wp2
  go_ret
  exact ⟨ret_int (by rw [IntKind.wrap_u64, E.out]), rfl⟩
theorem wc_of (n : Int) (h0 : -9223372036854775808 ≤ n) (h1 : n ≤ 9223372036854775807) : #[.int .u64 (IntKind.u64.wrap n), .int .u64 (sg n), .int .u64 (sg n)] = wc (ofI n) := by
  obtain ⟨a, b, c⟩ := of_parts n h0 h1
  unfold wc
  rw [a, b, c, IntKind.wrap_u64]
set_option maxHeartbeats 400000 in
theorem of_any (n : Int) (w : World) (h0 : -9223372036854775808 ≤ n) (h1 : n ≤ 9223372036854775807) :
    Calls Try.prog 13 #[.int .i64 n] w fun e w' => e = .returned (.agg (wc (ofI n))) ∧ Below w.heap.size w w' := by
  go_enter Try.func13, Try.ntmps13
  go_wp2_with (go_at_call 36; refine (sign_any n _ h0 h1).mono ?_; rintro e w' ⟨rfl, rfl⟩)
  rw [wc_of n h0 h1]
  exact end24 rfl w.heap.size 24 _ rfl (Blk.new _ _ _) rfl rfl ⟨rfl, (Below.refl _ _).alloc (Nat.le_refl _) _⟩

/-- the sum of the first k. -/
def acc (l : List X) (k : Nat) : X := (l.take k).foldl (· + ·) (ofI 0)
theorem acc_zero (l : List X) : acc l 0 = ofI 0 := rfl
theorem acc_succ (l : List X) (k : Nat) (h : k < l.length) : acc l (k + 1) = acc l k + l[k] := by
  unfold acc; rw [List.take_succ_eq_append_getElem h, List.foldl_append]; rfl
/-- the three calls of Add64 that add up two wide numbers. -/
theorem adds (y x : X) : ∃ (z : X) (c1 c2 c3 : Int), z = y + x ∧
    (∀ W, (callFunc 46 #[.int .u64 (pa y), .int .u64 (pa x), .int .u64 0]).run Try.prog W = .ok (.value (.tuple #[.int .u64 (pa z), .int .u64 c1])) W) ∧
    (∀ W, (callFunc 46 #[.int .u64 (pb y), .int .u64 (pb x), .int .u64 c1]).run Try.prog W = .ok (.value (.tuple #[.int .u64 (pb z), .int .u64 c2])) W) ∧
    (∀ W, (callFunc 46 #[.int .u64 (pc y), .int .u64 (pc x), .int .u64 c2]).run Try.prog W = .ok (.value (.tuple #[.int .u64 (pc z), .int .u64 c3])) W) := by
  obtain ⟨h1, h2, h3⟩ := add_parts y x
  have b1 := pa_lo x
  have b2 := pa_hi x
  have b3 := pb_lo x
  have b4 := pb_hi x
  have b5 := pc_lo x
  have e1 := pa_lo y
  have e2 := pa_hi y
  have e3 := pb_lo y
  have e4 := pb_hi y
  have e5 := pc_lo y
  refine ⟨y + x, (pa y + pa x) / 18446744073709551616, (pb y + pb x + (pa y + pa x) / 18446744073709551616) / 18446744073709551616, (pc y + pc x + (pb y + pb x + (pa y + pa x) / 18446744073709551616) / 18446744073709551616) / 18446744073709551616, rfl, fun W => ?_, fun W => ?_, fun W => ?_⟩
  · rw [add64 _ _ 0 e1 b1 (by omega) (by omega), h1, Int.add_zero]
  · rw [add64 _ _ _ e3 b3 (by omega) (by omega), h2]
  · rw [add64 _ _ _ e5 b5 (by omega) (by omega), h3]
/-- wide numbers in a row. -/
def Wides (w : World) (g : Nat) (l : List X) : Prop := ∀ k (h : k < l.length), w.rangeAt g (k * 3) (wc l[k]).toList
theorem rangeAt_below {w w' : World} {B g o : Nat} {cs : List Value} (h : w.rangeAt g o cs) (hb : Below B w w') (hg : g < B) : w'.rangeAt g o cs := fun j v hj => (hb.cell (p := ⟨g, o + j, none⟩) hg).trans (h j v hj)
theorem Wides.below {w w' : World} {B g : Nat} {l : List X} (h : Wides w g l) (hb : Below B w w') (hg : g < B) : Wides w' g l := fun k hk => rangeAt_below (h k hk) hb hg
theorem wc_zero : #[.int .u64 0, .int .u64 0, .int .u64 0] = wc (ofI 0) := by
  have := wc_of 0 (by decide) (by decide)
  exact this
set_option maxHeartbeats 400000 in
theorem sum_any (g cap : Nat) (l : List X) (w : World) (hl : l.length ≤ 1000) (hg : g < w.heap.size) (hr : Wides w g l) :
    Calls Try.prog 40 #[.slice (some ⟨g, 0, none⟩) l.length cap] w fun e w' => e = .returned (.agg (wc (acc l l.length))) ∧ Below w.heap.size w w' := by
  go_enter Try.func40, Try.ntmps40
  go_wp2
  rw [wc_zero]
  go_loopw [4, 5, 8] (fun _ _ i wr => ∃ k : Nat, k ≤ l.length ∧ i = .int .i64 k ∧ Blk wr w.heap.size 24 (wc (acc l k)) ∧ Below w.heap.size w wr) (fun _ _ i _ => l.length - (intOf i).toNat)
  case atStart => exact ⟨0, by omega, rfl, Blk.new _ _ _, (Below.refl _ _).alloc (Nat.le_refl _) _⟩
  case round =>
    obtain ⟨k, hk, rfl, h1, hb⟩ := hrel
    have hsz := hb.size
    by_cases hlt : k < l.length
    · have hx := rangeAt_below (hr k hlt) hb hg
      obtain ⟨x, hxe⟩ : ∃ x, x = l[k] := ⟨_, rfl⟩
      rw [← hxe] at hx
      obtain ⟨y, hye⟩ : ∃ y, y = acc l k := ⟨_, rfl⟩
      rw [← hye] at h1
      have Hx := Lib.hid hxe
      have Hy := Lib.hid hye
      clear hxe hye
      have HX := Lib.hid hx
      clear hx
      obtain ⟨y0, y1, y2⟩ := wc_cell h1
      have fz : ∀ i, wr.frozen? ⟨w.heap.size, i, none⟩ = false := h1.free
      have f0 := fz 0
      have f1 := fz 1
      have f2 := fz 2
      clear fz
      have hlt2 := h1.lt
      have x0 : (wc x)[0]? = some (.int .u64 (pa x)) := rfl
      have x1 : (wc x)[1]? = some (.int .u64 (pb x)) := rfl
      have x2 : (wc x)[2]? = some (.int .u64 (pc x)) := rfl
      obtain ⟨z, cy1, cy2, cy3, hz, k1, k2, k3⟩ := adds y x
      have Hz := Lib.hid hz
      clear hz
      go_wp2_with (first | (with_reducible refine wpList_load_at (o := ⟨some 11, .load 24 (.tmp 10), _, _, _, _⟩) rfl 24 (.tmp 10) rfl g (k * 3) rfl (wc x) _ HX.out Try.underlying24 rfl (wc_info x) ?_) | (with_reducible refine wpList_store_row (o := ⟨none, .store 24 (.tmp 4) (.tmp 11), _, _, _, _⟩) rfl 24 (.tmp 4) (.tmp 11) rfl wr.heap.size (wc x) rfl rfl _ _ (heap_alloc_new _ _) (wc_info x) rfl (wc_all x) ?_; rw [World.setRow_alloc_new]))
      go_roundw
      case rel =>
        have hset : (((wc y).setIfInBounds 0 (.int .u64 (pa z))).setIfInBounds 1 (.int .u64 (pb z))).setIfInBounds 2 (.int .u64 (pc z)) = wc z := rfl
        refine ⟨k + 1, by omega, by go_num, ?_, ?_⟩
        · rw [acc_succ l k hlt, ← Hx.out, ← Hy.out, ← Hz.out, ← hset]
          exact (((h1.set_ 0 _).set_ 1 _).set_ 2 _).alloc _
        · exact (((hb.setCell (by simp) _).setCell (by simp) _).setCell (by simp) _).alloc (by simpa using hsz) _
      case measure => simp [intOf]; omega
    · have ek : k = l.length := by omega
      rw [ek] at h1
      clear ek
      obtain ⟨y, hye⟩ : ∃ y, y = acc l l.length := ⟨_, rfl⟩
      rw [← hye] at h1
      have Hye := Lib.hid hye
      clear hye
      go_wp2_with (first | (with_reducible refine wpList_load_at (o := ⟨some 42, .load 24 (.tmp 2), _, _, _, _⟩) rfl 24 (.tmp 2) rfl w.heap.size 0 rfl (wc y) _ h1.range Try.underlying24 rfl (wc_info y) ?_) | (with_reducible refine wpList_store_row (o := ⟨none, .store 24 (.tmp 2) (.tmp 42), _, _, _, _⟩) rfl 24 (.tmp 2) (.tmp 42) rfl w.heap.size (wc y) rfl rfl _ _ h1.eq (wc_info y) rfl (wc_all y) ?_))
      exact end24 rfl w.heap.size 24 _ rfl (h1.row _) rfl rfl ⟨by rw [Hye.out], below_setRow hb (Nat.le_refl _) _⟩
end Go.Proofs.Ytiiccjnfggojmaa
